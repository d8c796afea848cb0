/- Witness -/
import Derived.Lib.AppendIntMem
import Derived.Shelf.Strconv.ErrVarAll
import Derived.Shelf.Strconv.Itoa3
import Derived.Shelf.Strings.Search3
import Derived.Test.YteooinddnfbglaaGreatDoorProg
import Derived.KernelRfl
import Derived.Test.YteooinddnfbglaaGreatDoorKqT5
set_option linter.unusedVariables false
set_option linter.unusedSimpArgs false
set_option linter.unusedSectionVars false
namespace Go.Proofs.YteooinddnfbglaaGreatDoor.G
open Go Go.Ab
noncomputable section
theorem So{α:Type}{x:α}{l:List α}{f:α→AV}{e:Nat}{S0:Aa}{P:AV→Prop}:(∃ q,(AR e 1 (aL f (x :: l)) (.v (.int .i64 0)) S0 fun v S=>v=q∧S=S0)∧P q)=P (.q [f x] 0):=
 C5 (op:=fun K=>AR e 1 (aL f (x :: l)) (.v (.int .i64 0)) S0 K) fun K=>AM (i:=0) (by simp)
theorem Ci.tK(c:Ci):Tree c.av:=Tree.a fun u hu=>by
 simp only[Ci.cells,AiO,AiT,or_false]at hu
 rcases hu with rfl|rfl|rfl|rfl|rfl|rfl|rfl|rfl
 ·exact Tree.v _
 ·exact Hd _
 ·exact Hd _
 ·exact Df _
 ·exact Df _
 ·exact Df _
 ·exact Df _
 ·exact tJ _
theorem Tn.tree:∀(t:Tn),∀ u∈t.row,Tree u:=by
 intro t
 induction t using Tn.ind with
 |h k s b ss ks ih =>
  intro u hu
  rw[Tn.AE]at hu
  simp only[AiO,AiT,or_false]at hu
  rcases hu with rfl|rfl|rfl|rfl|rfl
  ·exact Tree.v _
  ·exact Tree.v _
  ·exact Tree.v _
  ·exact Df _
  ·refine Tree.l fun c hc u hu=>?_
   obtain⟨t,ht,rfl⟩:=AiL.1 hc
   exact ih t ht u hu
theorem Tn.tr(t:Tn):Tree t.av:=Tree.a fun u hu=>Tn.tree t u hu
theorem KA(l:List Tn):Tree (Lg l):=Tree.l fun c hc u hu=>by
 obtain⟨t,ht,rfl⟩:=AiL.1 hc
 exact Tn.tree t u hu
theorem Yu{n:Nat}{S:Aa}{x:AV}{e:Nat}{l:List Fo}(h:A4 n S x e (l.map Fo.row)){k m:Nat}(hk:k≤n):Cv (S.Bx (AK k)) m x (Dx l):=
 Ef (fun r hr u hu=>by obtain⟨f,_,rfl⟩:=AiL.1 hr;exact Fo.tree f u hu) h hk
theorem xZ{n:Nat}{S:Aa}{x:AV}{e:Nat}{l:List Int}(h:A4 n S x e (l.map fun a=>[aI a])){k m:Nat}(hk:k≤n):Cv (S.Bx (AK k)) m x (aL aI l):=
 Ef (fun r hr u hu=>by obtain⟨f,_,rfl⟩:=AiL.1 hr;rw[AiA.1 hu];exact Tree.v _) h hk
theorem RV{c:Ci}{ss:List Int}{i:Nat}(hi:i+1<ss.length)(h:BN c ss[i] ss[i+1]=false):De c ss=false:=by
 unfold De
 rw[Aj4]
 refine⟨i,Aj5.2 (by omega),?_⟩
 simp[Ai2,show i<ss.length by omega,hi,h]
theorem Ox{c:Ci}{ss:List Int}(h:∀ i (hi:i+1<ss.length),BN c (ss[i]'(by omega)) ss[i+1]=true):De c ss=true:=by
 unfold De
 rw[AiD]
 intro i hi
 have hi:=Aj5.1 hi
 have hi2:i+1<ss.length:=by omega
 simp[Ai2,show i<ss.length by omega,hi2,h i hi2]
def F0 (c:Ci) (f0 f1:Fo) (tk s a:Int) (ss:List Int) (ks:List Tn):Int × Bool:=
 if ss≠[]∧ss.getD 0 0=s∧a=0∧tk=5∧De c ss=true then Tn.Ca c ks (List.replicate (ss.length - 1) f0 ++ [f1,GV]) (ss ++ [ss.getD (ss.length - 1) 0]) 0 else(0,false)
theorem wN{c:Ci}(hc:Cs c){ks:List Tn}(hk:ks.length≤1000000)(IH:∀ t∈ks,∀ f,Pu f→BH Pg 34 [c.av,f.av,t.av] (aR (t.acc c f))){f0 f1:Fo}(h0:Pu f0)(h1:Pu f1)(k l:Int)(nm:ByteArray)
    {ss:List Int} (hs:ss.length≤1000000) (tk s a:Int):BH Pg 78 [c.av,(Fo.mk k nm l [f0,f1]).av,(Tn.mk tk s a ss ks).av] (aR (F0 c f0 f1 tk s a ss ks)):=by
 intro S
 refine Ad.H0 (pB ?_)
 dsimp only[m78,Zk,Va,Vb,Zl,Fi,Lf,Lq]
 rw[Fo.av,Fo.AE,Tn.av,Tn.AE]
 refine Ai rfl fun S1 k1 n1 o1=>?_
 refine Ai rfl fun S2 k2 n2 o2=>?_
 refine Ai rfl fun S3 k3 n3 o3=>?_
 have kk:=(k1.trans k2).trans k3
 have p1:=(Kg k3 (Kg k2 o1))
 have p2:=(Kg k3 o2)
 rw[Ac,Af o3 rfl rfl,Ay]
 have no:∀{E:Bg},¬ (ss≠[]∧ss.getD 0 0=s∧a=0∧tk=5∧De c ss=true)→E = .ret (.t [aI 0,aB false])→∀{T:Aa},Am S T→E = .ret (aR (F0 c f0 f1 tk s a ss ks))∧Am S T:=fun h e T hT=>⟨by rw[F0,if_neg h];exact e,hT⟩
 show ∃ q:AV,_
 cases ss with
 |nil =>
  (repeat (first|with_reducible_and_instances (first|refine WJ ?_|refine W (A1 o3 (by with_unfolding_all rfl) (by with_unfolding_all rfl)) ?_|refine W (Bd (Eq.refl true)) ?_|refine W (Be (Eq.refl true)) ?_|refine W (AL (Eq.refl true)) ?_|refine W (AO (Eq.refl true)) ?_|refine W (Bd (decide_eq_true (show((List.length ([]:List Int):Nat):Int)<1 by decide))) ?_|refine W (Be (decide_eq_true (show((List.length ([]:List Int):Nat):Int)<1 by decide))) ?_|refine W (AL (decide_eq_true (show((List.length ([]:List Int):Nat):Int)<1 by decide))) ?_|refine W (AO (decide_eq_true (show((List.length ([]:List Int):Nat):Int)<1 by decide))) ?_|refine W (AN (by with_unfolding_all rfl)) ?_)))
  exact no (fun h=>h.1 rfl) rfl kk
 |cons x sr =>
  have e1:decide ((((x :: sr).length:Nat):Int)<1)=false:=decide_eq_false (by simp;omega)
  by_cases e2:¬ x=s
  ·by_cases e3:decide (a=0)=true<;>by_cases e4:decide (tk=5)=true
   all_goals
    first|rw[Bool.not_eq_true]at e3|skip
    first|rw[Bool.not_eq_true]at e4|skip
    (repeat (first|with_reducible_and_instances (first|refine WJ ?_|refine W (A1 o3 (by with_unfolding_all rfl) (by with_unfolding_all rfl)) ?_|refine W (So) ?_|refine W (Bd e1) ?_|refine W (Be e1) ?_|refine W (AL e1) ?_|refine W (AO e1) ?_|refine W (Bd (decide_eq_false e2)) ?_|refine W (Be (decide_eq_false e2)) ?_|refine W (AL (decide_eq_false e2)) ?_|refine W (AO (decide_eq_false e2)) ?_|refine W (Bd (Eq.refl true)) ?_|refine W (Be (Eq.refl true)) ?_|refine W (AL (Eq.refl true)) ?_|refine W (AO (Eq.refl true)) ?_|refine W (Bd (Eq.refl false)) ?_|refine W (Be (Eq.refl false)) ?_|refine W (AL (Eq.refl false)) ?_|refine W (AO (Eq.refl false)) ?_|refine W (Bd e3) ?_|refine W (Be e3) ?_|refine W (AL e3) ?_|refine W (AO e3) ?_|refine W (Bd e4) ?_|refine W (Be e4) ?_|refine W (AL e4) ?_|refine W (AO e4) ?_|refine W (AN (by with_unfolding_all rfl)) ?_)))
    exact no (fun h=>e2 h.2.1) rfl kk
  have e2:=AiU.1 e2
  by_cases e3:¬ a=0
  ·by_cases e4:decide (tk=5)=true
   all_goals
    first|rw[Bool.not_eq_true]at e4|skip
    (repeat (first|with_reducible_and_instances (first|refine WJ ?_|refine W (A1 o3 (by with_unfolding_all rfl) (by with_unfolding_all rfl)) ?_|refine W (So) ?_|refine W (Bd e1) ?_|refine W (Be e1) ?_|refine W (AL e1) ?_|refine W (AO e1) ?_|refine W (Bd (decide_eq_true e2)) ?_|refine W (Be (decide_eq_true e2)) ?_|refine W (AL (decide_eq_true e2)) ?_|refine W (AO (decide_eq_true e2)) ?_|refine W (Bd (Eq.refl true)) ?_|refine W (Be (Eq.refl true)) ?_|refine W (AL (Eq.refl true)) ?_|refine W (AO (Eq.refl true)) ?_|refine W (Bd (Eq.refl false)) ?_|refine W (Be (Eq.refl false)) ?_|refine W (AL (Eq.refl false)) ?_|refine W (AO (Eq.refl false)) ?_|refine W (Bd (decide_eq_false e3)) ?_|refine W (Be (decide_eq_false e3)) ?_|refine W (AL (decide_eq_false e3)) ?_|refine W (AO (decide_eq_false e3)) ?_|refine W (Bd e4) ?_|refine W (Be e4) ?_|refine W (AL e4) ?_|refine W (AO e4) ?_|refine W (AN (by with_unfolding_all rfl)) ?_)))
    exact no (fun h=>e3 h.2.2.1) rfl kk
  have e3:=AiU.1 e3
  by_cases e4:¬ tk=5
  ·(repeat (first|with_reducible_and_instances (first|refine WJ ?_|refine W (A1 o3 (by with_unfolding_all rfl) (by with_unfolding_all rfl)) ?_|refine W (So) ?_|refine W (Bd e1) ?_|refine W (Be e1) ?_|refine W (AL e1) ?_|refine W (AO e1) ?_|refine W (Bd (decide_eq_true e2)) ?_|refine W (Be (decide_eq_true e2)) ?_|refine W (AL (decide_eq_true e2)) ?_|refine W (AO (decide_eq_true e2)) ?_|refine W (Bd (Eq.refl true)) ?_|refine W (Be (Eq.refl true)) ?_|refine W (AL (Eq.refl true)) ?_|refine W (AO (Eq.refl true)) ?_|refine W (Bd (Eq.refl false)) ?_|refine W (Be (Eq.refl false)) ?_|refine W (AL (Eq.refl false)) ?_|refine W (AO (Eq.refl false)) ?_|refine W (Bd (decide_eq_true e3)) ?_|refine W (Be (decide_eq_true e3)) ?_|refine W (AL (decide_eq_true e3)) ?_|refine W (AO (decide_eq_true e3)) ?_|refine W (Bd (decide_eq_false e4)) ?_|refine W (Be (decide_eq_false e4)) ?_|refine W (AL (decide_eq_false e4)) ?_|refine W (AO (decide_eq_false e4)) ?_|refine W (AN (by with_unfolding_all rfl)) ?_)))
   exact no (fun h=>e4 h.2.2.2.1) rfl kk
  have e4:=AiU.1 e4
  (repeat (first|with_reducible_and_instances (first|refine WJ ?_|refine W (A1 o3 (by with_unfolding_all rfl) (by with_unfolding_all rfl)) ?_|refine W (So) ?_|refine W (Bd e1) ?_|refine W (Be e1) ?_|refine W (AL e1) ?_|refine W (AO e1) ?_|refine W (Bd (decide_eq_true e2)) ?_|refine W (Be (decide_eq_true e2)) ?_|refine W (AL (decide_eq_true e2)) ?_|refine W (AO (decide_eq_true e2)) ?_|refine W (Bd (Eq.refl true)) ?_|refine W (Be (Eq.refl true)) ?_|refine W (AL (Eq.refl true)) ?_|refine W (AO (Eq.refl true)) ?_|refine W (Bd (Eq.refl false)) ?_|refine W (Be (Eq.refl false)) ?_|refine W (AL (Eq.refl false)) ?_|refine W (AO (Eq.refl false)) ?_|refine W (Bd (decide_eq_true e3)) ?_|refine W (Be (decide_eq_true e3)) ?_|refine W (AL (decide_eq_true e3)) ?_|refine W (AO (decide_eq_true e3)) ?_|refine W (Bd (decide_eq_true e4)) ?_|refine W (Be (decide_eq_true e4)) ?_|refine W (AL (decide_eq_true e4)) ?_|refine W (AO (decide_eq_true e4)) ?_|refine W (AN (by with_unfolding_all rfl)) ?_)))
  obtain⟨ss,hss⟩:∃ ss,ss=x :: sr:=⟨_,rfl⟩
  have hne:ss≠[]:=by rw[hss];simp
  have hg:ss.getD 0 0=s:=by rw[hss];exact e2
  rw[←hss]at hs o3 no ⊢
  have hpos:0<ss.length:=AiM.2 hne
  clear hss e1
  refine ZK (fun y z S'=>∃ i:Nat,z=aI i∧i+1≤ss.length∧Am S S'∧S3.n≤S'.n∧S'.obj S.n=some (.cells 29 [c.cells] true)∧S'.obj S1.n=some (.cells 32 [[aI k,.v (.string nm),aI l,Dx [f0,f1]]] true)∧
      S'.obj S2.n=some (.cells 51 [[aI tk,aI s,aI a,aL aI ss,Lg ks]] true)∧A4 S3.n S' y 32 ((List.replicate i f0).map Fo.row)∧∀ j (h:j+1<ss.length),j<i→BN c (ss[j]'(by omega)) ss[j+1]=true)
   (fun _ z _=>ss.length - ((Aw z).getD 0).toNat) ⟨0,rfl,hpos,kk,Ai4 _,p1,p2,o3,.nl _ _ _,fun j _ h=>by omega⟩ ?_
  dsimp only[DE]
  rintro y _ S4 ⟨i,rfl,hi,k4,n4,p1,p2,p3,w4,hch⟩ KE hKE
  dsimp only[uV,Fi,Lf,Lt,Lc,Lq,Ld]
  have hadd:∀(T:Aa) (K:AV→Aa→Prop),bin .add 0 (aI i) (.v (.int .i64 1)) T K=K (aI (i+1:Nat)) T:=fun T K=>Ar (by omega) (by omega) 0
  have hi0:i<ss.length:=by omega
  rw[hadd,As,Ag]
  refine Al (fun hlt=>?_) (fun hge=>?_)
  ·have hlt:i+1<ss.length:=by have:=dT hlt;omega
   show ∃ q:AV,_
   refine⟨_,by rw[An (n:=8) p1 rfl];exact⟨rfl,rfl⟩,?_⟩
   refine⟨_,by rw[Ac];exact⟨rfl,rfl⟩,?_⟩
   refine⟨_,by rw[Af p3 rfl rfl];exact⟨rfl,rfl⟩,?_⟩
   refine⟨_,by rw[AM hi0];exact⟨rfl,rfl⟩,?_⟩
   refine⟨_,by rw[A3];exact⟨rfl,rfl⟩,?_⟩
   refine⟨_,by rw[Ac];exact⟨rfl,rfl⟩,?_⟩
   refine⟨_,by rw[Af p3 rfl rfl];exact⟨rfl,rfl⟩,?_⟩
   refine⟨_,by rw[hadd];exact⟨rfl,rfl⟩,?_⟩
   refine⟨_,by rw[AM hlt];exact⟨rfl,rfl⟩,?_⟩
   refine⟨_,by rw[A3];exact⟨rfl,rfl⟩,?_⟩
   refine⟨_,Ae (Ks hc ss[i] ss[i+1]) ⟨rfl,rfl⟩,?_⟩
   refine⟨_,by rw[AI];exact⟨rfl,rfl⟩,?_⟩
   rw[Ag]
   refine Al (fun h=>?_) (fun h=>?_)
   ·exact no (fun hq=>by rw[RV hlt (by simpa using h)]at hq;cases hq.2.2.2.2) rfl k4
   ·have h:BN c ss[i] ss[i+1]=true:=by simpa using h
    rw[Ac,Af p2 rfl rfl,KX,Cd (Fo.Aj _)]
    refine Gt (Fo.Aj _) ?_
    refine w4.app (c:=f0.row) (by omega) (Fo.Aj _) (by simp;omega) (fun z' S5 w5 b5 hz=>?_) rfl
    obtain⟨m5,hm5⟩:=hz
    have n5:=b5.1
    have old5:∀ x,x<S3.n→S5.obj x=S4.obj x:=fun x hx=>b5.2 x (by omega) (fun b m e=>by have:=w4.lt e;omega)
    rw[hadd]
    refine hKE _ _ _ ⟨i+1,rfl,hlt,⟨by have:=k4.1;omega,fun x hx=>(old5 x (by have:=kk.1;omega)).trans (k4.2 x hx)⟩,by omega,(old5 _ (by omega)).trans p1,(old5 _ (by omega)).trans p2,(old5 _ (by omega)).trans p3,?_,fun j hj hji=>?_⟩ (by simp[Aw];omega)
    ·rw[List.replicate_succ',AiB]
     exact w5
    ·by_cases e:j=i
     ·subst e;exact h
     ·exact hch j hj (by omega)
  ·have hge:i+1=ss.length:=by have:=dF hge;omega
   have hsub:∀(T:Aa) (K:AV→Aa→Prop),bin .sub 0 (aI ss.length) (.v (.int .i64 1)) T K=K (aI i) T:=fun T K=>(Bz (by omega) (by omega) 0).trans (by rw[show((ss.length:Nat):Int) - 1=i by omega])
   have hlast:ss.getD (ss.length - 1) 0=ss[i]:=by simp[Ai2,←hge,hi0]
   have hall:De c ss=true:=Ox fun j hj=>hch j hj (by omega)
   have hres:F0 c f0 f1 tk s a ss ks=Tn.Ca c ks (List.replicate i f0 ++ [f1,GV]) (ss ++ [ss[i]]) 0:=by
    rw[F0,if_pos ⟨hne,hg,e3,e4,hall⟩,hlast,show ss.length - 1=i by omega]
   rw[hres]
   clear no
   have lix:∀{P:AV→Prop},(∃ q,(∀ T,Am S4 T→AR 3 1 (aL aI ss) (aI i) T fun v S=>v=q∧S=T)∧P q)=P (.q [aI ss[i]] 0):=wZ hi0
   (repeat (first|with_reducible_and_instances (first|refine WJ ?_|refine W (Dz p2 (by omega) (by with_unfolding_all rfl) (by with_unfolding_all rfl)) ?_|refine W (Sm) ?_|refine W (Ha (Fo.Aj _)) ?_|refine W (AN (by with_unfolding_all rfl)) ?_)|refine BG (Nj) rfl rfl ?_|refine CX (Nj) rfl rfl ?_|refine Hm (Nj) rfl rfl ?_|refine BG (Nk IM) rfl rfl ?_|refine CX (Nk IM) rfl rfl ?_|refine Hm (Nk IM) rfl rfl ?_))
   refine⟨.l [f1.row,GV.row],fun T hT=>Fb (Fo.Aj _) (Fo.Aj _) ⟨rfl,rfl⟩,?_⟩
   refine A4.Qk (ys:=[f1.row,GV.row]) w4 (by omega) (by simp[Fo.Aj]) (by simp;omega) (fun z5 S5 w5 b5 hz5=>?_) rfl
   have n5:=b5.1
   have old5:∀ x,x<S3.n→S5.obj x=S4.obj x:=fun x hx=>b5.2 x (by omega) (fun b m e=>by have:=w4.lt e;omega)
   have q1:=(old5 _ (by omega)).trans p1
   have q3:=(old5 _ (by omega)).trans p3
   have lix:∀{P:AV→Prop},(∃ q,(∀ T,Am S5 T→AR 3 1 (aL aI ss) (aI i) T fun v S=>v=q∧S=T)∧P q)=P (.q [aI ss[i]] 0):=wZ hi0
   have lsub:∀{P:AV→Prop},(∃ q,(∀ T,Am S5 T→bin .sub 0 (aI ss.length) (.v (.int .i64 1)) T fun v S=>v=q∧S=T)∧P q)=P (aI i):=Fp (op:=fun T K=>bin .sub 0 (aI ss.length) (.v (.int .i64 1)) T K) fun T hT K=>hsub T K
   (repeat (first|with_reducible_and_instances (first|refine WJ ?_|refine W (Dz q3 (by omega) (by with_unfolding_all rfl) (by with_unfolding_all rfl)) ?_|refine W (lsub) ?_|refine W (lix) ?_|refine W (AaB (by with_unfolding_all rfl)) ?_|refine W (AN (by with_unfolding_all rfl)) ?_)))
   refine⟨.l [[aI ss[i]]],fun T hT=>BQ rfl (fun _ h=>by cases h) ⟨rfl,rfl⟩,?_⟩
   refine A4.Qk (n:=S5.n) (e:=3) (es:=[]) (ys:=ss.map fun a=>[aI a]) (.nl _ _ _) (Ai4 _) (by simp) (by simp;omega) (fun z6 S6 w6 b6 hz6=>?_) rfl
   have n6:=b6.1
   rw[List.nil_append]at w6
   have old6:∀ x,x<S5.n→S6.obj x=S5.obj x:=fun x hx=>b6.2 x hx (fun b m e=>by cases e)
   have r3:=(old6 _ (by omega)).trans q3
   refine⟨fun T hT=>BQ rfl (fun _ h=>by cases h) ⟨rfl,rfl⟩,fun T hT=>by rw[A3];exact⟨rfl,rfl⟩,fun T hT=>by rw[AM hi0];exact⟨rfl,rfl⟩,fun T hT=>by rw[hsub];exact⟨rfl,rfl⟩,fun T hT=>by rw[Af (Kg hT r3) rfl rfl];exact⟨rfl,rfl⟩,fun T hT=>⟨rfl,rfl⟩,?_⟩
   refine A4.Qk (ys:=[[aI ss[i]]]) w6 (by omega) (by simp) (by simp;omega) (fun z7 S7 w7 b7 hz7=>?_) rfl
   have n7:=b7.1
   have old7:∀ x,x<S5.n→S7.obj x=S5.obj x:=fun x hx=>(b7.2 x (by omega) (fun b m e=>by have:=w6.lt e;omega)).trans (old6 x hx)
   have w5':A4 S3.n S7 z5 32 ((List.replicate i f0).map Fo.row ++ [f1.row,GV.row]):=w5.same (by omega) fun x _ hx=>old7 x hx
   have t1:=(old7 _ (by omega)).trans q1
   have t3:=(old7 _ (by omega)).trans q3
   rw[An (n:=8) t1 rfl,Ac,Af t3 rfl rfl]
   have e5:(List.replicate i f0).map Fo.row ++ [f1.row,GV.row]=(List.replicate i f0 ++ [f1,GV]).map Fo.row:=by rw[AiB];rfl
   have e7:(ss.map fun a=>[aI a]) ++ [[aI ss[i]]]=(ss ++ [ss[i]]).map fun a=>[aI a]:=by rw[AiB];rfl
   rw[e5]at w5'
   rw[e7]at w7
   have kS7:Am S S7:=⟨by have:=k4.1;omega,fun x hx=>(old7 x (by have:=kk.1;omega)).trans ((old5 x (by have:=kk.1;omega)).trans (k4.2 x hx))⟩
   refine IB (args:=[c.av,z5,z7,Lg ks]) (args2:=[c.av,Dx (List.replicate i f0 ++ [f1,GV]),aL aI (ss ++ [ss[i]]),Lg ks]) (AK S3.n) rfl (fun j u u2 e1 e2=>?_) (Hh hk IH (fun f hf=>?_) _) ?_
   ·match j with
    |0=>cases e1;cases e2;exact Ci.tK c _ _
    |1=>cases e1;cases e2;exact Yu w5' (Ai4 _)
    |2=>cases e1;cases e2;exact xZ w7 (by omega)
    |3=>cases e1;cases e2;exact KA _ _ _
    |j+4=>simp at e1
   ·rcases AiQ.1 hf with hf|hf
    ·rw[(List.mem_replicate.1 hf).2];exact h0
    ·simp only[AiO,AiT,or_false]at hf
     rcases hf with rfl|rfl
     ·exact h1
     ·exact .o _ _ (by decide) (.c _ (by decide))
   ·rw[Er rfl,Er rfl]
    exact⟨rfl,kS7.Bx (by have:=kk.1;omega)⟩
def IV (c:Ci) (f0:Fo) (tk s a:Int) (ss:List Int) (ks:List Tn):Int × Bool:=
 if ss≠[]∧ss.getD 0 0=s∧0≤a∧a<ss.length∧tk=6∧BN c (ss.getD (ss.length - 1) 0) (ss.getD a.toNat 0)=true∧De c ss=true∧SV c (ss.drop a.toNat)=true then Tn.Ca c ks (List.replicate ss.length f0) ss 0 else(0,false)
theorem Ag9{c:Ci}(hc:Cs c){ks:List Tn}(hk:ks.length≤1000000)(IH:∀ t∈ks,∀ f,Pu f→BH Pg 34 [c.av,f.av,t.av] (aR (t.acc c f))){f0:Fo}(h0:Pu f0)(k l:Int)(nm:ByteArray)
    {ss:List Int} (hs:ss.length≤1000000) (tk s a:Int):BH Pg 80 [c.av,(Fo.mk k nm l [f0]).av,(Tn.mk tk s a ss ks).av] (aR (IV c f0 tk s a ss ks)):=by
 intro S
 refine Ad.H0 (oZ ?_)
 dsimp only[m80,Fi,Lf]
 rw[Fo.av,Fo.AE,Tn.av,Tn.AE]
 refine Ai rfl fun S1 k1 n1 o1=>?_
 refine Ai rfl fun S2 k2 n2 o2=>?_
 refine Ai rfl fun S3 k3 n3 o3=>?_
 have kk:=(k1.trans k2).trans k3
 have p1:=(Kg k3 (Kg k2 o1))
 have p2:=(Kg k3 o2)
 rw[Ac,Af o3 rfl rfl,Ay]
 have no:∀{E:Bg},¬ (ss≠[]∧ss.getD 0 0=s∧0≤a∧a<ss.length∧tk=6∧BN c (ss.getD (ss.length - 1) 0) (ss.getD a.toNat 0)=true∧De c ss=true∧SV c (ss.drop a.toNat)=true)→E = .ret (.t [aI 0,aB false])→∀{T:Aa},Am S T→E = .ret (aR (IV c f0 tk s a ss ks))∧Am S T:=fun h e T hT=>⟨by rw[IV,if_neg h];exact e,hT⟩
 show ∃ q:AV,_
 refine W xC ?_
 by_cases hne:ss = []
 ·have e1:decide (((ss.length:Nat):Int)<1)=true:=decide_eq_true (by simp[hne])
  rw[e1]
  (repeat (first|with_reducible_and_instances (first|refine WJ ?_|refine W (A1 o3 (by with_unfolding_all rfl) (by with_unfolding_all rfl)) ?_|refine W (AN (by with_unfolding_all rfl)) ?_)))
  exact no (fun h=>h.1 hne) rfl kk
 have hpos:0<ss.length:=AiM.2 hne
 rw[show decide (((ss.length:Nat):Int)<1)=false from decide_eq_false (by omega)]
 have hx0:∀{e:Nat} {S0:Aa} {P:AV→Prop},(∃ q,(AR e 1 (aL aI ss) (.v (.int .i64 0)) S0 fun v S=>v=q∧S=S0)∧P q)=P (.q [aI (ss.getD 0 0)] 0):=by
  intro e S0 P
  match ss,hne with
  |x :: sr,_=>exact So
 (repeat (first|with_reducible_and_instances (first|refine WJ ?_|refine W (A1 o3 (by with_unfolding_all rfl) (by with_unfolding_all rfl)) ?_|refine W (hx0) ?_|refine W (AN (by with_unfolding_all rfl)) ?_)))
 by_cases e2:¬ ss.getD 0 0=s
 ·rw[decide_eq_false e2,Bool.not_false]
  (repeat (first|with_reducible_and_instances (first|refine WJ ?_|refine W (A1 o3 (by with_unfolding_all rfl) (by with_unfolding_all rfl)) ?_|refine W (AN (by with_unfolding_all rfl)) ?_)))
  exact no (fun h=>e2 h.2.1) rfl kk
 have e2:=AiU.1 e2
 rw[decide_eq_true e2,Bool.not_true]
 (repeat (first|with_reducible_and_instances (first|refine WJ ?_|refine W (A1 o3 (by with_unfolding_all rfl) (by with_unfolding_all rfl)) ?_|refine W (AN (by with_unfolding_all rfl)) ?_)))
 by_cases e3:a<0
 ·rw[decide_eq_true e3]
  (repeat (first|with_reducible_and_instances (first|refine WJ ?_|refine W (A1 o3 (by with_unfolding_all rfl) (by with_unfolding_all rfl)) ?_|refine W (AN (by with_unfolding_all rfl)) ?_)))
  exact no (fun h=>by have:=h.2.2.1;omega) rfl kk
 rw[decide_eq_false e3]
 (repeat (first|with_reducible_and_instances (first|refine WJ ?_|refine W (A1 o3 (by with_unfolding_all rfl) (by with_unfolding_all rfl)) ?_|refine W (AN (by with_unfolding_all rfl)) ?_)))
 by_cases e4:((ss.length:Nat):Int)≤a
 ·rw[decide_eq_true e4]
  (repeat (first|with_reducible_and_instances (first|refine WJ ?_|refine W (A1 o3 (by with_unfolding_all rfl) (by with_unfolding_all rfl)) ?_|refine W (AN (by with_unfolding_all rfl)) ?_)))
  exact no (fun h=>by have:=h.2.2.2.1;omega) rfl kk
 rw[decide_eq_false e4]
 (repeat (first|with_reducible_and_instances (first|refine WJ ?_|refine W (A1 o3 (by with_unfolding_all rfl) (by with_unfolding_all rfl)) ?_|refine W (AN (by with_unfolding_all rfl)) ?_)))
 by_cases e5:¬ tk=6
 ·rw[decide_eq_false e5,Bool.not_false]
  (repeat (first|with_reducible_and_instances (first|refine WJ ?_|refine W (A1 o3 (by with_unfolding_all rfl) (by with_unfolding_all rfl)) ?_|refine W (AN (by with_unfolding_all rfl)) ?_)))
  exact no (fun h=>e5 h.2.2.2.2.1) rfl kk
 have e5:=AiU.1 e5
 rw[decide_eq_true e5,Bool.not_true]
 obtain⟨i0,hi0⟩:∃ i0:Nat,ss.length=i0+1:=⟨ss.length - 1,by omega⟩
 obtain⟨j,rfl⟩:=AiE (show 0≤a by omega)
 have hj:j<ss.length:=by omega
 have hi1:i0<ss.length:=by omega
 have lsub:∀{S0:Aa} {P:AV→Prop},(∃ q,(bin .sub 0 (aI ss.length) (.v (.int .i64 1)) S0 fun v S=>v=q∧S=S0)∧P q)=P (aI i0):=fun{S0 P}=>C5 (op:=fun K=>bin .sub 0 (aI ss.length) (.v (.int .i64 1)) S0 K) fun K=>(Bz (by omega) (by omega) 0).trans (by rw[show((ss.length:Nat):Int) - 1=i0 by omega])
 have hlast:ss.getD (ss.length - 1) 0=ss[i0]:=by simp[Ai2,hi0]
 have hat:ss.getD (((j:Nat):Int)).toNat 0=ss[j]:=by simp[Ai2,hj]
 (repeat (first|with_reducible_and_instances (first|refine WJ ?_|refine W (A1 o3 (by with_unfolding_all rfl) (by with_unfolding_all rfl)) ?_|refine W (lsub) ?_|refine W (Sq hi1) ?_|refine W (Sq hj) ?_|refine W (Cx (n:=8) p1 (by with_unfolding_all rfl)) ?_|refine W (AN (by with_unfolding_all rfl)) ?_)|refine BG (Ks hc ss[i0] ss[j]) rfl rfl ?_|refine CX (Ks hc ss[i0] ss[j]) rfl rfl ?_))
 cases e6:BN c ss[i0] ss[j]with
 |false =>
  rw[Bool.not_false]
  (repeat (first|with_reducible_and_instances (first|refine WJ ?_|refine W (A1 o3 (by with_unfolding_all rfl) (by with_unfolding_all rfl)) ?_|refine W (AN (by with_unfolding_all rfl)) ?_)))
  exact no (fun h=>by rw[hlast,hat,e6]at h;cases h.2.2.2.2.2.1) rfl kk
 |true =>
  rw[Bool.not_true]
  (repeat (first|with_reducible_and_instances (first|refine WJ ?_|refine W (A1 o3 (by with_unfolding_all rfl) (by with_unfolding_all rfl)) ?_|refine W (AN (by with_unfolding_all rfl)) ?_)))
  have hg:=e2
  have no2:∀{E:Bg},¬ (De c ss=true∧SV c (ss.drop j)=true)→E = .ret (.t [aI 0,aB false])→∀{T:Aa},Am S T→E = .ret (aR (IV c f0 tk s j ss ks))∧Am S T:=fun h e T hT=>no (fun hq=>h ⟨hq.2.2.2.2.2.2.1,by have:=hq.2.2.2.2.2.2.2;rwa [AiJ]at this⟩) e hT
  have yes:De c ss=true→SV c (ss.drop j)=true→IV c f0 tk s j ss ks=Tn.Ca c ks (List.replicate ss.length f0) ss 0:=fun h1 h2=>by
   rw[IV,if_pos ⟨hne,hg,by omega,by omega,e5,by rw[hlast,hat];exact e6,h1,by rw[AiJ];exact h2⟩]
  clear no
  refine ZJ (fun y z S'=>∃ i:Nat,z=aI i∧i≤ss.length∧Am S S'∧S3.n≤S'.n∧S'.obj S.n=some (.cells 29 [c.cells] true)∧S'.obj S1.n=some (.cells 32 [[aI k,.v (.string nm),aI l,Dx [f0]]] true)∧
      S'.obj S2.n=some (.cells 51 [[aI tk,aI s,aI j,aL aI ss,Lg ks]] true)∧A4 S3.n S' y 32 ((List.replicate i f0).map Fo.row)∧∀ m (h:m+1<ss.length),m+1<i→BN c (ss[m]'(by omega)) ss[m+1]=true)
   (fun _ z _=>ss.length - ((Aw z).getD 0).toNat) ⟨0,rfl,Ai9 _,kk,Ai4 _,p1,p2,o3,.nl _ _ _,fun j _ h=>by omega⟩ ?_
  dsimp only[DE]
  rintro y _ S4 ⟨i,rfl,hi,k4,n4,p1,p2,p3,w4,hch⟩ KE hKE
  dsimp only[uU,Qc,Fi,Lf,Lq,Ld]
  have hadd:∀(T:Aa) (K:AV→Aa→Prop),bin .add 0 (aI i) (.v (.int .i64 1)) T K=K (aI (i+1:Nat)) T:=fun T K=>Ar (by omega) (by omega) 0
  rw[As,Ag]
  refine Al (fun hlt=>?_) (fun hge=>?_)
  ·have hlt:i<ss.length:=by have:=dT hlt;omega
   have step:(∀ m,m+1=i→(h:m<ss.length)→BN c ss[m] ss[i]=true)→shift (.p S1.n 0 0) 3 S4 fun v T=>Ax v T fun v T=>AR 32 4 v (.v (.int .i64 0)) T fun v T=>AA 4 v T fun v T=>AU 32 4 1 HK [(0,v)] T fun v T=>Bo 32 4 56 y v T fun v T=>bin .add 0 (aI i) (.v (.int .i64 1)) T fun v2 T=>KE 131 (Io (.p S.n 0 0) (.p S1.n 0 0) (.p S2.n 0 0) (aI ss.length) v v2) T:=by
    intro hb
    rw[Ac,Af p2 rfl rfl,KX,Cd (Fo.Aj _)]
    refine Gt (Fo.Aj _) ?_
    refine w4.app (c:=f0.row) (by omega) (Fo.Aj _) (by simp;omega) (fun z' S5 w5 b5 hz=>?_) rfl
    obtain⟨m5,hm5⟩:=hz
    have n5:=b5.1
    have old5:∀ x,x<S3.n→S5.obj x=S4.obj x:=fun x hx=>b5.2 x (by omega) (fun b m e=>by have:=w4.lt e;omega)
    rw[hadd]
    refine hKE _ _ _ ⟨i+1,rfl,hlt,⟨by have:=k4.1;omega,fun x hx=>(old5 x (by have:=kk.1;omega)).trans (k4.2 x hx)⟩,by omega,(old5 _ (by omega)).trans p1,(old5 _ (by omega)).trans p2,(old5 _ (by omega)).trans p3,?_,fun m hm hmi=>?_⟩ (by simp[Aw];omega)
    ·rw[List.replicate_succ',AiB]
     exact w5
    ·by_cases e:m+1=i
     ·subst e;exact hb m rfl (by omega)
     ·exact hch m hm (by omega)
   show ∃ q:AV,_
   refine W xD ?_
   by_cases hi00:i=0
   ·rw[show decide ((0:Int)<(i:Int))=false from decide_eq_false (by omega)]
    (repeat (first|with_reducible_and_instances (first|refine WJ ?_|refine W (AN (by with_unfolding_all rfl)) ?_)))
    exact step fun m hm=>by omega
   ·obtain⟨m,rfl⟩:∃ m,i=m+1:=⟨i - 1,by omega⟩
    have hm:m<ss.length:=by omega
    rw[show decide ((0:Int)<((m+1:Nat):Int))=true from decide_eq_true (by omega)]
    have lsb:∀{P:AV→Prop},(∃ q,(bin .sub 0 (aI (m+1:Nat)) (.v (.int .i64 1)) S4 fun v S=>v=q∧S=S4)∧P q)=P (aI m):=C5 (op:=fun K=>bin .sub 0 (aI (m+1:Nat)) (.v (.int .i64 1)) S4 K) fun K=>(Bz (by omega) (by omega) 0).trans (by rw[show(((m+1:Nat):Nat):Int) - 1=m by omega])
    cases e7:BN c ss[m] ss[m+1]with
    |false =>
     (repeat (first|with_reducible_and_instances (first|refine WJ ?_|refine W (A1 p3 (by with_unfolding_all rfl) (by with_unfolding_all rfl)) ?_|refine W (Cx (n:=8) p1 (by with_unfolding_all rfl)) ?_|refine W (lsb) ?_|refine W (Sq hm) ?_|refine W (Sq hlt) ?_|refine W (Bd e7) ?_|refine W (Be e7) ?_|refine W (AL e7) ?_|refine W (AO e7) ?_|refine W (AN (by with_unfolding_all rfl)) ?_)|refine BG (Ks hc ss[m] ss[m+1]) rfl rfl ?_|refine CX (Ks hc ss[m] ss[m+1]) rfl rfl ?_))
     exact no2 (fun hq=>by rw[RV hlt e7]at hq;cases hq.1) rfl k4
    |true =>
     (repeat (first|with_reducible_and_instances (first|refine WJ ?_|refine W (A1 p3 (by with_unfolding_all rfl) (by with_unfolding_all rfl)) ?_|refine W (Cx (n:=8) p1 (by with_unfolding_all rfl)) ?_|refine W (lsb) ?_|refine W (Sq hm) ?_|refine W (Sq hlt) ?_|refine W (Bd e7) ?_|refine W (Be e7) ?_|refine W (AL e7) ?_|refine W (AO e7) ?_|refine W (AN (by with_unfolding_all rfl)) ?_)|refine BG (Ks hc ss[m] ss[m+1]) rfl rfl ?_|refine CX (Ks hc ss[m] ss[m+1]) rfl rfl ?_))
     exact step fun m' hm' hl=>by
      have:m'=m:=by omega
      subst this
      exact e7
  ·have hge:i=ss.length:=by have:=dF hge;omega
   subst hge
   have hchain:De c ss=true:=Ox fun m hm=>hch m hm hm
   have hfair:=hc.ok.fair
   have hmx:ss.length≤1000000:=hs
   refine ZI (fun z S'=>S'=S4∧∃ i:Nat,z=aI i∧i≤c.fair.length∧∀ m (h:m<c.fair.length),m<i→((ss.drop j).any fun s=>DT c s c.fair[m])=true) (fun z _=>c.fair.length - ((Aw z).getD 0).toNat) ⟨rfl,0,rfl,Ai9 _,fun m _ h=>by omega⟩ ?_
   dsimp only[BS]
   rintro _ S4 ⟨rfl,i,rfl,hif,hmet⟩ KE1 hKE1
   dsimp only[uT,Fi,Lf]
   rw[Ac,Af p1 rfl rfl,Ay,As,Ag]
   refine Al (fun hlt=>?_) (fun hge=>?_)
   ·have hlt:i<c.fair.length:=by have:=dT hlt;omega
    rw[Ac,Af p3 rfl rfl]
    refine ZH (fun y z S'=>S'=S4∧∃ r:Nat,z=aI r∧j≤r∧r≤ss.length∧y=aB (((ss.drop j).take (r - j)).any fun s=>DT c s c.fair[i])) (fun _ z _=>ss.length - ((Aw z).getD 0).toNat) ⟨rfl,j,rfl,Ai4 _,by omega,by simp⟩ ?_
    dsimp only[DE]
    rintro _ _ S4 ⟨rfl,r,rfl,hjr,hr,rfl⟩ KE2 hKE2
    dsimp only[uS,Fi,Lq,Ld]
    rw[As,Ag]
    refine Al (fun hlr=>?_) (fun hgr=>?_)
    ·have hlr:r<ss.length:=by have:=dT hlr;omega
     have hd:r - j<(ss.drop j).length:=by simp;omega
     have htk:((ss.drop j).take (r+1 - j)).any (fun s=>DT c s c.fair[i])=(((ss.drop j).take (r - j)).any (fun s=>DT c s c.fair[i]) || DT c ss[r] c.fair[i]):=by
      rw[show r+1 - j=(r - j)+1 by omega,AiR,List.any_append,Ai3 hd]
      have:(ss.drop j)[r - j]=ss[r]:=by rw[List.getElem_drop];congr 1;omega
      simp[this]
     have hadd:∀(T:Aa) (K:AV→Aa→Prop),bin .add 0 (aI r) (.v (.int .i64 1)) T K=K (aI (r+1:Nat)) T:=fun T K=>Ar (by omega) (by omega) 0
     show GI _ _
     rw[Ag]
     refine Al (fun hm=>?_) (fun hm=>?_)
     ·show ∃ q:AV,_
      refine W xB ?_
      rw[hadd]
      exact hKE2 _ _ _ ⟨rfl,r+1,rfl,by omega,hlr,by rw[htk,hm];rfl⟩ (by simp[Aw];omega)
     ·show ∃ q:AV,_
      (repeat (first|with_reducible_and_instances (first|refine WJ ?_|refine W (A1 p3 (by with_unfolding_all rfl) (by with_unfolding_all rfl)) ?_|refine W (A1 p1 (by with_unfolding_all rfl) (by with_unfolding_all rfl)) ?_|refine W (Cx (n:=8) p1 (by with_unfolding_all rfl)) ?_|refine W (Sq hlr) ?_|refine W (Sq hlt) ?_|refine W (AN (by with_unfolding_all rfl)) ?_)|refine BG (I5 hc.ok (s:=ss[r]) (hfair.1 _ (Ai6 hlt))) rfl rfl ?_|refine CX (I5 hc.ok (s:=ss[r]) (hfair.1 _ (Ai6 hlt))) rfl rfl ?_))
      rw[hadd]
      exact hKE2 _ _ _ ⟨rfl,r+1,rfl,by omega,hlr,by rw[htk,hm,Bool.false_or]⟩ (by simp[Aw];omega)
    ·have hgr:r=ss.length:=by have:=dF hgr;omega
     subst hgr
     rw[AiV (by simp),AI,Ag]
     refine Al (fun h=>?_) (fun h=>?_)
     ·exact no2 (fun hq=>by
        have:=AiD.1 hq.2 _ (Ai6 hlt)
        rw[this]at h;cases h) rfl k4
     ·rw[Ar (by omega) (by omega)]
      exact hKE1 _ _ ⟨rfl,i+1,rfl,hlt,LO (p:=fun l=>((ss.drop j).any fun s=>DT c s l)=true) (hi:=hlt) hmet (by simpa using h)⟩ (by simp[Aw];omega)
   ·have hge:i=c.fair.length:=by have:=dF hge;omega
    subst hge
    rw[yes hchain (Qn fun m hm=>hmet m hm hm)]
    rw[An (n:=8) p1 rfl,Ac,Af p3 rfl rfl,Ac,Af p3 rfl rfl]
    refine IB (args:=[c.av,y,aL aI ss,Lg ks]) (args2:=[c.av,Dx (List.replicate ss.length f0),aL aI ss,Lg ks]) (AK S3.n) rfl (fun j u u2 e1 e2=>?_) (Hh hk IH (fun f hf=>?_) _) ?_
    ·match j with
     |0=>cases e1;cases e2;exact Ci.tK c _ _
     |1=>cases e1;cases e2;exact Yu w4 (Ai4 _)
     |2=>cases e1;cases e2;exact Df _ _ _
     |3=>cases e1;cases e2;exact KA _ _ _
     |j+4=>simp at e1
    ·rw[(List.mem_replicate.1 hf).2];exact h0
    ·rw[Er rfl,Er rfl]
     exact⟨rfl,k4.Bx (by have:=kk.1;omega)⟩
def Hg(j tk a:Int)(ss:List Int)(ks:List Tn):Bool:=decide (tk=j) && decide (a=0∧ss.length=0∧ks.length=0)
theorem LP(j tk a:Int)(ss:List Int)(ks:List Tn):decide (tk=j∧a=0∧ss = []∧ks.map Tn.st = [])=Hg j tk a ss ks:=by
 unfold Hg
 rw[←Bool.decide_and]
 refine decide_eq_decide.2 ?_
 rw[List.length_eq_zero_iff,List.length_eq_zero_iff,Aj8]
def QM (c:Ci) (ks:List Tn):(Int × Bool) ⊕ (List Fo × List Int)→Int × Bool
 |.inl r=>r
 |.inr p=>Tn.Ca c ks p.1 p.2 0
section
variable {c:Ci} {tk s a l:Int} {ss:List Int} {ks:List Tn} {nm:ByteArray} {fs:List Fo}
theorem D8{f:Fo}:Tn.acc c (.mk tk s a ss ks) f=QM c ks (Eu c f tk s a ss (ks.map Tn.st)):=by
 rw[Tn.acc]
 cases Eu c f tk s a ss (ks.map Tn.st)<;>rfl
theorem EO{p:Prop}[Decidable p]{x:List Fo}{y:List Int}{r:Int × Bool}:QM c ks (if p then .inr (x,y)else .inl r)=if p then Tn.Ca c ks x y 0 else r:=by split<;>rfl
theorem VU(f:Fo)(h:BZ c s=false):Tn.acc c (.mk tk s a ss ks) f=(0,false):=by
 obtain⟨k,n,l,fs⟩:=f
 rw[D8,Eu,if_pos h];first|rfl|(simp[QM];done)
theorem wV(h:BZ c s=true):Tn.acc c (.mk tk s a ss ks) (.mk 1 nm l fs)=(0,false):=by
 rw[D8,Eu,if_neg (by simp[h]),if_pos rfl];first|rfl|(simp[QM];done)
theorem VX(h:BZ c s=true):Tn.acc c (.mk tk s a ss ks) (.mk 2 nm l fs)=(0,Hg 1 tk a ss ks):=by
 rw[D8,Eu,if_neg (by simp[h]),if_neg (by decide),if_pos rfl,LP];first|rfl|(simp[QM];done)
theorem VW(h:BZ c s=true):Tn.acc c (.mk tk s a ss ks) (.mk 3 nm l fs)=(0,Hg 1 tk a ss ks && DT c s l):=by
 rw[D8,Eu,if_neg (by simp[h]),if_neg (by decide),if_neg (by decide),if_pos rfl,LP];first|rfl|(simp[QM];done)
theorem VV{n2:ByteArray}{l2:Int}{f2:List Fo}(h:BZ c s=true):Tn.acc c (.mk tk s a ss ks) (.mk 4 nm l [.mk 3 n2 l2 f2])=(0,Hg 1 tk a ss ks && !DT c s l2):=by
 rw[D8,Eu,if_neg (by simp[h]),if_neg (by decide),if_neg (by decide),if_neg (by decide),if_pos rfl,LP];first|rfl|(simp[QM];done)
theorem j6(h:BZ c s=true):Tn.acc c (.mk tk s a ss ks) (.mk 5 nm l fs)=if tk=2∧a=0∧ss = []then Tn.Ca c ks fs [s,s] 0 else(0,false):=by
 rw[D8,Eu,if_neg (by simp[h]),if_neg (by decide),if_neg (by decide),if_neg (by decide),if_neg (by decide),if_pos rfl]
 exact EO
theorem j5(h:BZ c s=true):Tn.acc c (.mk tk s a ss ks) (.mk 6 nm l fs)=if tk=3∧0≤a∧a≤1∧ss = []then Tn.Ca c ks [fs.getD a.toNat LU] [s] 0 else(0,false):=by
 rw[D8,Eu,if_neg (by simp[h]),if_neg (by decide),if_neg (by decide),if_neg (by decide),if_neg (by decide),if_neg (by decide),if_pos rfl]
 exact EO
theorem j4(h:BZ c s=true):Tn.acc c (.mk tk s a ss ks) (.mk 9 nm l fs)=if tk=4∧a=0∧ss = []∧(ks.map Tn.st).length=2∧BN c s ((ks.map Tn.st).getD 0 0)=true then Tn.Ca c ks [fs.getD 0 LU,GV] [(ks.map Tn.st).getD 0 0,(ks.map Tn.st).getD 0 0] 0 else(0,false):=by
 rw[D8,Eu,if_neg (by simp[h]),if_neg (by decide),if_neg (by decide),if_neg (by decide),if_neg (by decide),if_neg (by decide),if_neg (by decide),if_pos rfl]
 exact EO
theorem Uv{f:Fo}(h:BZ c s=true):Tn.acc c (.mk tk s a ss ks) (.mk 11 nm l [f])=F0 c IM f tk s a ss ks:=by
 rw[D8,Eu,if_neg (by simp[h]),if_neg (by decide),if_neg (by decide),if_neg (by decide),if_neg (by decide),if_neg (by decide),if_neg (by decide),if_neg (by decide),if_pos (.inl rfl),F0,if_pos rfl,if_pos rfl]
 exact EO
theorem Ut{f g:Fo}(h:BZ c s=true):Tn.acc c (.mk tk s a ss ks) (.mk 15 nm l [f,g])=F0 c f g tk s a ss ks:=by
 rw[D8,Eu,if_neg (by simp[h]),if_neg (by decide),if_neg (by decide),if_neg (by decide),if_neg (by decide),if_neg (by decide),if_neg (by decide),if_neg (by decide),if_pos (.inr rfl),F0]
 exact EO
theorem Uu{f:Fo}(h:BZ c s=true):Tn.acc c (.mk tk s a ss ks) (.mk 13 nm l [f])=IV c f tk s a ss ks:=by
 rw[D8,Eu,if_neg (by simp[h]),if_neg (by decide),if_neg (by decide),if_neg (by decide),if_neg (by decide),if_neg (by decide),if_neg (by decide),if_neg (by decide),if_neg (by decide),if_pos rfl,IV]
 exact EO
theorem Us{f g:Fo}(h:BZ c s=true):Tn.acc c (.mk tk s a ss ks) (.mk 17 nm l [f,g])=if tk=3∧0≤a∧a≤1∧ss = []then Tn.Ca c ks [if a=0 then AT 13 g else A6 15 g (A6 5 f g)] [s] 0 else(0,false):=by
 rw[D8,Eu,if_neg (by simp[h]),if_neg (by decide),if_neg (by decide),if_neg (by decide),if_neg (by decide),if_neg (by decide),if_neg (by decide),if_neg (by decide),if_neg (by decide),if_neg (by decide),if_pos rfl]
 exact EO
theorem VT{k:Int}(hk:k=10∨k=12∨k=14∨k=16∨k=18)(h:BZ c s=true):Tn.acc c (.mk tk s a ss ks) (.mk k nm l fs)=(1,Hg 7 tk a ss ks):=by
 rw[D8,Eu,if_neg (by simp[h]),if_neg (by omega),if_neg (by omega),if_neg (by omega),if_neg (by omega),if_neg (by omega),if_neg (by omega),if_neg (by omega),if_neg (by omega),if_neg (by omega),if_neg (by omega),LP];first|rfl|(simp[QM];done)
end
theorem yU{S:Aa}{n:Nat}{x x' y y':AV}(h:Cv S n x x')(k:Cv S n y y'):∀(i:Nat) (u u2:AV),[x,y][i]? = some u→[x',y'][i]? = some u2→Cv S n u u2
 |0,_,_,h1,h2=>by cases h1;cases h2;exact h
 |1,_,_,h1,h2=>by cases h1;cases h2;exact k
 |i+2,_,_,h1,_=>by simp at h1
theorem yT{S:Aa}{n:Nat}{x x' y y' z z':AV}(h:Cv S n x x')(k:Cv S n y y')(q:Cv S n z z'):∀(i:Nat) (u u2:AV),[x,y,z][i]? = some u→[x',y',z'][i]? = some u2→Cv S n u u2
 |0,_,_,h1,h2=>by cases h1;cases h2;exact h
 |1,_,_,h1,h2=>by cases h1;cases h2;exact k
 |2,_,_,h1,h2=>by cases h1;cases h2;exact q
 |i+3,_,_,h1,_=>by simp at h1
theorem AcC{a b:Bw}{S:Aa}{K:List Nat→Aa→Prop}(h:∀ i j S',Am S S'→S.n≤i→i<S'.n→S.n≤j→j<S'.n→i≠j→S'.obj i=some a→S'.obj j=some b→K [i,j] S'):UZ [a,b] S K:=by
 intro ids S' hn
 match ids,hn.len with
 |[i,j],_ =>
  have hd:=hn.nodup
  simp only[List.nodup_cons,AiA]at hd
  exact h i j S' hn.AS (hn.lo i (by simp)) (hn.hi i (by simp)) (hn.lo j (by simp)) (hn.hi j (by simp)) hd.1 (hn.new 0 i a rfl rfl) (hn.new 1 j b rfl rfl)
structure Gd (c:Ci) (d:Int) (f:Fo):Prop where
 ok:f.ok
 may:f.BP d=true
 lits:f.DC c.gr=true
theorem XP.gd{c:Ci}{f:Fo}(h:XP c.gr.vars f)(hc:D2 c):Gd c 7 f:=⟨h.ok,h.may,h.Af5 hc⟩
theorem mG{f:Fo}{d:Int}(h:f.BP d=true):0<d:=by
 cases f with
 |mk k n l ks =>
  rw[Fo.Cm]at h
  simp only[Ai5,decide_eq_true_eq]at h
  exact h.1
theorem Gd.one{c:Ci}{d:Int}{f:Fo}(h:Gd c d f)(k:Int)(hk:k=4∨9≤k∧k≤14):Gd c (d+1) (AT k f):=by
 have hp:=mG h.may
 refine⟨.mk _ _ _ _ ⟨by omega,by omega⟩ ⟨by decide,by decide⟩ (by decide) (by simp) fun g hg=>?_,?_,?_⟩
 ·have:g=f:=by simpa using hg
  subst this;exact h.ok
 ·rw[Fo.Cm]
  simp only[Ai5,decide_eq_true_eq,AjA,List.all_nil,AjF]
  refine⟨by omega,by simp,trivial,?_,?_⟩
  ·unfold Ct
   rw[if_neg (by omega),if_neg (by omega),if_pos hk]
   rfl
  ·rw[show d+1 - 1=d by omega];exact h.may
 ·rw[Fo.JJ]
  simp only[AjA,List.all_nil,AjF,h.lits,decide_eq_true (show k≠3 by omega),Bool.true_or]
theorem Gd.AaR{c:Ci}{d:Int}{f:Fo}(h:Gd c d f)(hd:d≤60)(hc:D2 c):BW c f=(AY c f,0):=by
 have hm:DU c f=true:=by rw[DU,hc.right,Ih f hd h.may,h.lits];rfl
 rw[BW,if_neg (by rw[hm];decide),if_pos (by rw[(O6 hc.right hc.inp.2 hc.lats.2).1])]
theorem Gd.C6{c:Ci}{d:Int}{f:Fo}(h:Gd c d f):In (At c) (AY c f):=E1 (fun l=>Ea _ _) f _ h.may
theorem EN{c:Ci}(k:Int)(f:Fo)(hk:3<k):AY c (AT k f)=QY (At c) (DW (At c) (At c).valid) k (AY c f):=CM hk
theorem EM{c:Ci}(k:Int)(f g:Fo)(hk:3<k):AY c (A6 k f g)=QD (At c) (DW (At c) (At c).valid) k (AY c f) (AY c g):=CL hk
theorem QX{s:Sp}{a b:List Bool}(ha:In s a)(hb:In s b):EJ a b=EJ b a:=(ha.or hb).eq (hb.or ha) fun i _=>by
 rw[CU (by rw[ha.len,hb.len]),CU (by rw[ha.len,hb.len]),Bool.or_comm]
structure Wc (c:Ci):Prop where
 ok:c.ok
 right:c.right=true
 h10:¬ 10<c.gr.inputs
 fair:c.fair.length≤1
theorem Wc.sp{c:Ci}(h:Wc c):LF (At c):=OM h.right h.h10
theorem FZ{c:Ci}{f:Fo}(h:Pu f):In (At c) (AY c f):=by
 induction h with
 |c k hk =>
  rcases hk with rfl|rfl
  ·rw[AY,D4];exact Bq _ _
  ·rw[AY,EL];exact M6 _
 |a l h0 hl=>rw[AY,Dg];exact Ea _ _
 |n l h0 hl=>rw[AY,CM (by decide),Dg];exact TY (Ea _ _) _
 |o k f hk h ih=>rw[EN k f (by omega)];exact TY ih _
 |t k f g hk h h2 ih ih2=>rw[EM k f g (by omega)];exact bD ih ih2 _
theorem Ye{c:Ci}:AY c IM=(At c).valid:=by rw[AY,EL]
theorem Yc{c:Ci}:AY c GV=DW (At c) (At c).valid:=by
 rw[EN 13 IM (by decide)]
 show DW _ (AY c IM)=_
 rw[Ye]
section
variable {c:Ci} (hc:Wc c)
include hc
theorem AaP{s:Nat}(h:bit (At c).valid s=true):s<2 ^ c.gr.inputs.toNat:=by
 have:=Cj h
 have e:(At c).valid.length=2 ^ c.gr.inputs.toNat:=by simp[At,AB]
 omega
theorem EA{s:Nat}(h:bit (At c).valid s=true):BZ c s=true:=by
 have hs:=AaP hc h
 have h10:=hc.h10
 unfold BZ
 rw[Ai5,Ai5,decide_eq_true_eq,decide_eq_true_eq]
 refine⟨by omega,?_,?_⟩
 ·have:((2:Int) ^ c.gr.inputs.toNat)=((2 ^ c.gr.inputs.toNat:Nat):Int):=by rw[AjJ];rfl
  omega
 ·obtain⟨_,_,_,_,_,_,_,_,_,_,hcc,_⟩:=Bp.1 hc.right
  have e:=QA hc.right (by omega) hs hcc
  show c.cons.all (DT c s)=true
  rw[e]
  have h2:(AB c).getD s false=true:=h
  unfold AB at h2
  rw[Ai2,AiH,List.getElem?_range hs]at h2
  exact h2
theorem OI{s t:Nat}(h:(t:Int)∈nx (At c) s):bit (At c).valid s=true∧bit (At c).valid t=true∧BN c s t=true:=by
 have h10:=hc.h10
 have hs:s<2 ^ c.gr.inputs.toNat:=by
  rcases AiS s (2 ^ c.gr.inputs.toNat)with h'|h'
  ·exact h'
  ·rw[nx,Ai2,AiZ (by simpa[At]using h')]at h
   cases h
 have hnx:nx (At c) s=if(AB c).getD s false=true then DI c ((A2 c).getD s []) (AB c)else[]:=by
  show((At c).next).getD s []=_
  rw[Ai2]
  show(((List.range (2 ^ c.gr.inputs.toNat)).map fun s:Nat=>if(AB c).getD s false=true then DI c ((A2 c).getD s []) (AB c)else[])[s]?).getD []=_
  rw[AiH,List.getElem?_range hs]
  rfl
 rw[hnx]at h
 split at h
 case isFalse=>cases h
 rename_i hv
 unfold DI at h
 obtain⟨x,h1,h2⟩:=AiL.1 h
 obtain⟨h3,h4⟩:=List.mem_filter.1 h1
 have hx:=Aj5.1 h3
 obtain⟨q,hq1,hq2⟩:=Fj c ((A2 c).getD s []) c.latches.length
 rw[hq2]at h2 h4
 rw[AiJ]at h4
 have ht:t=2 ^ c.inputs.toNat*q+x:=by omega
 rw[←ht]at h4
 have hv2:bit (At c).valid t=true:=h4
 refine⟨hv,hv2,?_⟩
 have haf:=K9 hc.right (by omega) (s:=s) hs
 have hin:=(Bp.1 hc.right).1
 obtain⟨g1,g2,g3⟩:=CJ hc.right
 have hmin:min c.inputs.toNat 64=c.inputs.toNat:=by omega
 unfold BN
 rw[EA hc hv,EA hc hv2,Ai7,Ai7,decide_eq_true_eq,hmin,haf,hq2,tY,tY,Nat.mul_div_cancel_left _ (Nat.two_pow_pos _),ht,Nat.mul_add_div (Nat.two_pow_pos _),Nat.div_eq_of_lt hx,Nat.add_zero]
end
def lZ(k:Int):Bool:=decide (¬ (k=10∨k=12∨k=14∨k=16∨k=18))
mutual
def Fo.C7:Fo→Bool
 |.mk k _ _ ks=>lZ k && Fo.MB ks
def Fo.MB:List Fo→Bool
 |[]=>true
 |f :: fs=>Fo.C7 f && Fo.MB fs
end
theorem Fo.MA:∀(l:List Fo),Fo.MB l=l.all Fo.C7
 |[]=>by rw[Fo.MB];rfl
 |f :: fs=>by rw[Fo.MB,Fo.MA fs];rfl
theorem Fo.Dh(k:Int)(n:ByteArray)(l:Int)(ks:List Fo):Fo.C7 (.mk k n l ks)=(lZ k && ks.all Fo.C7):=by rw[Fo.C7,Fo.MA]
structure Good (c:Ci) (f:Fo) (s:Nat) (t:Tn):Prop where
 ok:t.ok
 st:t.st=(s:Int)
 acc:(t.acc c f).2=true
 op:f.C7=true→(t.acc c f).1=0
def Dn(c:Ci):List Fo→List Nat→List Tn→Prop
 |[],[],[]=>True
 |f :: fs,s :: ss,t :: ts=>Good c f s t∧Dn c fs ss ts
 |_,_,_=>False
abbrev sI(r:List Nat):List Int:=r.map fun i:Nat=>(i:Int)
theorem Dn.Ca{c:Ci}:∀{ts:List Tn} {fs:List Fo} {ss:List Nat},Dn c fs ss ts→∀ n:Int,(Tn.Ca c ts fs (sI ss) n).2=true∧((∀ f∈fs,f.C7=true)→n=0→(Tn.Ca c ts fs (sI ss) n).1=0)
 |[],[],[],_,n=>by
  show(Tn.Ca c [] [] [] n).2=true∧_
  exact⟨by rw[Ns],fun _ h=>by show(Tn.Ca c [] [] [] n).1=0;rw[Ns];exact h⟩
 |t :: ts,f :: fs,s :: ss,h,n=>by
  have e:sI (s :: ss)=(s:Int) :: sI ss:=rfl
  rw[e,OF,if_pos (by rw[h.1.acc,h.1.st,decide_eq_true rfl];rfl)]
  obtain⟨h1,h2⟩:=Dn.Ca h.2 (IntKind.i64.wrap (n+(Tn.acc c t f).1))
  refine⟨h1,fun ho hn=>h2 (fun g hg=>ho g (by simp[hg])) ?_⟩
  rw[h.1.op (ho f (by simp)),hn];rfl
 |[],[],_ :: _,h,_=>h.elim
 |[],_ :: _,[],h,_=>h.elim
 |[],_ :: _,_ :: _,h,_=>h.elim
 |_ :: _,[],[],h,_=>h.elim
 |_ :: _,[],_ :: _,h,_=>h.elim
 |_ :: _,_ :: _,[],h,_=>h.elim
theorem Dn.YC{c:Ci}:∀{ts:List Tn} {fs:List Fo} {ss:List Nat},Dn c fs ss ts→ts.length=ss.length∧∀ t∈ts,t.ok
 |[],[],[],_=>⟨rfl,fun t h=>by cases h⟩
 |t :: ts,f :: fs,s :: ss,h=>by
  obtain⟨h1,h2⟩:=Dn.YC h.2
  refine⟨by simp[h1],fun u hu=>?_⟩
  rcases AiO.1 hu with rfl|hu
  ·exact h.1.ok
  ·exact h2 u hu
 |[],[],_ :: _,h=>h.elim
 |[],_ :: _,[],h=>h.elim
 |[],_ :: _,_ :: _,h=>h.elim
 |_ :: _,[],[],h=>h.elim
 |_ :: _,[],_ :: _,h=>h.elim
 |_ :: _,_ :: _,[],h=>h.elim
theorem Dn.app{c:Ci}:∀{ts:List Tn} {fs:List Fo} {ss:List Nat} {ts2:List Tn} {fs2:List Fo} {ss2:List Nat},Dn c fs ss ts→Dn c fs2 ss2 ts2→Dn c (fs++fs2) (ss++ss2) (ts++ts2)
 |[],[],[],_,_,_,_,k=>k
 |t :: ts,f :: fs,s :: ss,_,_,_,h,k=>⟨h.1,Dn.app h.2 k⟩
 |[],[],_ :: _,_,_,_,h,_=>h.elim
 |[],_ :: _,[],_,_,_,h,_=>h.elim
 |[],_ :: _,_ :: _,_,_,_,h,_=>h.elim
 |_ :: _,[],[],_,_,_,h,_=>h.elim
 |_ :: _,[],_ :: _,_,_,_,h,_=>h.elim
 |_ :: _,_ :: _,[],_,_,_,h,_=>h.elim
theorem O2{n:Nat}(h:n≤1000000):By (n:Int):=⟨by omega,by omega⟩
theorem MC{kd:Int}{s:Nat}{a:Nat}{ss:List Nat}{ks:List Tn}(h1:0≤kd∧kd≤100)(h2:s≤1000000)(h3:a≤1000000)(h4:ss.length≤1000000)(h5:∀ x∈ss,x≤1000000)(h6:ks.length≤1000000)(h7:∀ t∈ks,t.ok):(Tn.mk kd s a (sI ss) ks).ok:=
 .mk _ _ _ _ _ ⟨by omega,by omega⟩ (O2 h2) (O2 h3) (by simpa using h4) (fun x hx=>by obtain⟨y,hy,rfl⟩:=AiL.1 hx;exact O2 (h5 y hy)) h6 h7
theorem GD{r:List Nat}{i:Nat}:(sI r).getD i 0=(gN r i:Int):=by
 unfold sI gN
 rw[Ai2,Ai2,AiH]
 cases r[i]?<;>rfl
theorem FB{k:Int}{n:ByteArray}{l:Int}{ks:List Fo}(h:Fo.C7 (.mk k n l ks)=true):∀ f∈ks,f.C7=true:=by
 rw[Fo.Dh,Ai5,AiD]at h
 exact h.2
theorem Yz:IM.C7=true:=by rw[Fo.Dh];rfl
theorem Yy:GV.C7=true:=by
 rw[Fo.Dh]
 simp[Yz,lZ]
section
variable {c:Ci} (hc:Wc c) {s:Nat} (hv:bit (At c).valid s=true)
include hc hv
theorem EB:s≤1000000:=by
 have h1:=AaP hc hv
 have h10:=hc.h10
 have:(2:Nat) ^ c.gr.inputs.toNat≤2 ^ 10:=AiY (by decide) (by omega)
 have e:(2:Nat) ^ 10=1024:=by decide
 omega
theorem KZ{f:Fo}(h:f=IM∨(∃ l,f = .mk 3 ⟨#[]⟩ l []∧DT c s l=true)∨∃ l,f = .mk 4 ⟨#[]⟩ 0 [.mk 3 ⟨#[]⟩ l []]∧DT c s l=false):Good c f s (.mk 1 s 0 [] []):=by
 have hl:Hg 1 1 0 [] []=true:=rfl
 have hok:(Tn.mk 1 s 0 [] []).ok:=MC (s:=s) (a:=0) (ss:=[]) (by decide) (EB hc hv) (by omega) (by simp) (fun x h=>by cases h) (by simp) (fun t h=>by cases h)
 have hv:=EA hc hv
 rcases h with rfl|⟨l,rfl,h⟩|⟨l,rfl,h⟩
 ·exact⟨hok,rfl,by rw[VX hv,hl],fun _=>by rw[VX hv]⟩
 ·exact⟨hok,rfl,by rw[VW hv,hl,h];rfl,fun _=>by rw[VW hv]⟩
 ·exact⟨hok,rfl,by rw[VV hv,hl,h];rfl,fun _=>by rw[VV hv]⟩
theorem T5{k:Int}(hk:k=10∨k=12∨k=14∨k=16∨k=18)(n:ByteArray)(l:Int)(fs:List Fo):Good c (.mk k n l fs) s (.mk 7 s 0 [] []):=by
 have hl:Hg 7 7 0 [] []=true:=rfl
 have hok:(Tn.mk 7 s 0 [] []).ok:=MC (s:=s) (a:=0) (ss:=[]) (by decide) (EB hc hv) (by omega) (by simp) (fun x h=>by cases h) (by simp) (fun t h=>by cases h)
 have hv:=EA hc hv
 refine⟨hok,rfl,by rw[VT hk hv,hl],fun h=>?_⟩
 rw[Fo.Dh,Ai5]at h
 exact absurd hk (dT h.1)
theorem Xq{f g:Fo}{t u:Tn}(h:Good c f s t)(k:Good c g s u):Good c (A6 5 f g) s (.mk 2 s 0 [] [t,u]):=by
 have hg:Dn c [f,g] [s,s] [t,u]:=⟨h,k,trivial⟩
 have hok:(Tn.mk 2 s 0 [] [t,u]).ok:=MC (s:=s) (a:=0) (ss:=[]) (by decide) (EB hc hv) (by omega) (by simp) (fun x h=>by cases h) (by simp) hg.YC.2
 have hv:=EA hc hv
 have e:Tn.acc c (.mk 2 s 0 [] [t,u]) (A6 5 f g)=Tn.Ca c [t,u] [f,g] (sI [s,s]) 0:=by rw[j6 hv,if_pos ⟨rfl,rfl,rfl⟩];rfl
 obtain⟨h1,h2⟩:=hg.Ca 0
 exact⟨hok,rfl,by rw[e];exact h1,fun ho=>by rw[e];exact h2 (FB ho) rfl⟩
theorem M8{f f1:Fo}{i:Nat}(hi:i≤1){f' g:Fo}(hf:f=A6 6 f' g∧(if i=0 then f' else g)=f1∨f=A6 17 f' g∧(if i=0 then AT 13 g else A6 15 g (A6 5 f' g))=f1){t:Tn}(h:Good c f1 s t):Good c f s (.mk 3 s i [] [t]):=by
 have hg:Dn c [f1] [s] [t]:=⟨h,trivial⟩
 have hok:(Tn.mk 3 s i [] [t]).ok:=MC (s:=s) (ss:=[]) (by decide) (EB hc hv) (by omega) (by simp) (fun x h=>by cases h) (by simp) hg.YC.2
 have hv:=EA hc hv
 have e:Tn.acc c (.mk 3 s i [] [t]) f=Tn.Ca c [t] [f1] (sI [s]) 0:=by
  rcases hf with⟨rfl,rfl⟩|⟨rfl,rfl⟩
  ·rw[j5 hv,if_pos ⟨rfl,by omega,by omega,rfl⟩]
   have:i=0∨i=1:=by omega
   rcases this with rfl|rfl<;>rfl
  ·rw[Us hv,if_pos ⟨rfl,by omega,by omega,rfl⟩]
   have:i=0∨i=1:=by omega
   rcases this with rfl|rfl<;>rfl
 obtain⟨h1,h2⟩:=hg.Ca 0
 refine⟨hok,rfl,by rw[e];exact h1,fun ho=>by
  rw[e]
  refine h2 (fun x hx=>?_) rfl
  obtain rfl:=AiA.1 hx
  rcases hf with⟨rfl,rfl⟩|⟨rfl,rfl⟩
  ·have:=FB ho
   split
   ·exact this _ (by simp)
   ·exact this _ (by simp)
  ·have:=FB ho
   have a1:=this f' (by simp)
   have a2:=this g (by simp)
   split
   ·rw[Fo.Dh];simp[a2,lZ]
   ·rw[Fo.Dh,AjA,AjA,a2,Fo.Dh];simp[a1,a2,lZ]⟩
theorem Xn{f:Fo}{x:Nat}(hx:(x:Int)∈nx (At c) s){t u:Tn}(h:Good c f x t)(k:Good c GV x u):Good c (AT 9 f) s (.mk 4 s 0 [] [t,u]):=by
 have hg:Dn c [f,GV] [x,x] [t,u]:=⟨h,k,trivial⟩
 have hok:(Tn.mk 4 s 0 [] [t,u]).ok:=MC (s:=s) (a:=0) (ss:=[]) (by decide) (EB hc hv) (by omega) (by simp) (fun x h=>by cases h) (by simp) hg.YC.2
 have hb:=(OI hc hx).2.2
 have hv:=EA hc hv
 have e:Tn.acc c (.mk 4 s 0 [] [t,u]) (AT 9 f)=Tn.Ca c [t,u] [f,GV] (sI [x,x]) 0:=by
  rw[j4 hv,if_pos ⟨rfl,rfl,rfl,rfl,by show BN c s t.st=true;rw[h.st];exact hb⟩]
  show Tn.Ca c [t,u] [f,GV] [t.st,t.st] 0=_
  rw[h.st]
  rfl
 obtain⟨h1,h2⟩:=hg.Ca 0
 refine⟨hok,rfl,by rw[e];exact h1,fun ho=>by
  rw[e]
  refine h2 (fun y hy=>?_) rfl
  have hy:y=f∨y=GV:=by simpa using hy
  rcases hy with rfl|rfl
  ·exact FB ho _ (by simp)
  ·exact Yy⟩
omit hv in
theorem UH{p:List Bool}{r:List Nat}(h:C9 (At c) p s r):De c (sI r)=true:=by
 unfold De
 rw[AiD]
 intro i hi
 have hi:=Aj5.1 hi
 rw[Ai8]at hi
 rw[GD,GD]
 exact(OI hc (h.nxt i (by omega))).2.2
omit hv in
theorem Qw{p:List Bool}{r:List Nat}(h:C9 (At c) p s r)(h0:bit (At c).valid s=true):∀ x∈r,bit (At c).valid x=true:=fun x hx=>by
 obtain⟨i,hi,rfl⟩:=Aj0 hx
 have e:∀ j (hj:j<r.length),r[j]=gN r j:=fun j hj=>by rw[gN,Ai2,Ai3 hj];rfl
 rw[e]
 cases i with
 |zero=>rw[h.fst];exact h0
 |succ i=>exact(OI hc (h.nxt i hi)).2.1
theorem Xo{p:List Bool}{r:List Nat}(hr:C9 (At c) p s r)(hl:r.length≤100000){f:Fo}{f0 f1:Fo}(hf:f=A6 15 f0 f1∨f=AT 11 f1∧f0=IM){ts:List Tn}{t u:Tn}
    (hts:Dn c (List.replicate (r.length - 1) f0) (r.take (r.length - 1)) ts) (h:Good c f1 (Br r) t) (k:Good c GV (Br r) u):Good c f s (.mk 5 s 0 (sI r) (ts ++ [t,u])):=by
 have hpos:=AiM.2 hr.pos
 have hg:Dn c (List.replicate (r.length - 1) f0 ++ [f1,GV]) (r.take (r.length - 1) ++ [Br r,Br r]) (ts ++ [t,u]):=hts.app ⟨h,k,trivial⟩
 have hst:=Qw hc hr hv
 have hch:=UH hc hr
 have hok:(Tn.mk 5 s 0 (sI r) (ts ++ [t,u])).ok:=MC (s:=s) (a:=0) (by decide) (EB hc hv) (by omega) (by omega) (fun x hx=>EB hc (hst x hx)) (by
  have:=hts.YC.1
  rw[AiW]at this
  rw[AiK,this]
  simp only[List.length_cons,List.length_nil];omega) hg.YC.2
 have hv:=EA hc hv
 have er:sI r ++ [(sI r).getD ((sI r).length - 1) 0]=sI (r.take (r.length - 1) ++ [Br r,Br r]):=by
  rw[GD,Ai8]
  have:r=r.take (r.length - 1) ++ [Br r]:=by
   have h1:=List.take_append_drop (r.length - 1) r
   have h2:r.drop (r.length - 1) = [Br r]:=by
    rw[AjH (by omega),show r.length - 1+1=r.length by omega,List.drop_length]
    unfold Br gN
    rw[Ai2,Ai3 (by omega)];rfl
   rw[h2]at h1
   exact h1.symm
  have e2:sI (r.take (r.length - 1) ++ [Br r,Br r])=sI (r.take (r.length - 1) ++ [Br r]) ++ [(Br r:Int)]:=by simp[sI]
  rw[e2,←this]
  rfl
 have e:Tn.acc c (.mk 5 s 0 (sI r) (ts ++ [t,u])) f=Tn.Ca c (ts ++ [t,u]) (List.replicate (r.length - 1) f0 ++ [f1,GV]) (sI (r.take (r.length - 1) ++ [Br r,Br r])) 0:=by
  have ep:F0 c f0 f1 5 s 0 (sI r) (ts ++ [t,u])=Tn.Ca c (ts ++ [t,u]) (List.replicate (r.length - 1) f0 ++ [f1,GV]) (sI (r.take (r.length - 1) ++ [Br r,Br r])) 0:=by
   rw[F0,if_pos ⟨by simpa[sI]using hr.pos,by rw[GD,hr.fst],rfl,rfl,hch⟩,er,Ai8]
  rcases hf with rfl|⟨rfl,rfl⟩
  ·rw[Ut hv];exact ep
  ·rw[Uv hv];exact ep
 obtain⟨h1,h2⟩:=hg.Ca 0
 refine⟨hok,rfl,by rw[e];exact h1,fun ho=>by
  rw[e]
  refine h2 (fun y hy=>?_) rfl
  have hf0:f0.C7=true∧f1.C7=true:=by
   rcases hf with rfl|⟨rfl,rfl⟩
   ·exact⟨FB ho _ (by simp),FB ho _ (by simp)⟩
   ·exact⟨Yz,FB ho _ (by simp)⟩
  rcases AiQ.1 hy with hy|hy
  ·rw[List.eq_of_mem_replicate hy];exact hf0.1
  ·have hy:y=f1∨y=GV:=by simpa using hy
   rcases hy with rfl|rfl
   ·exact hf0.2
   ·exact Yy⟩
theorem Xp{p:List Bool}{r:List Nat}{a:Nat}(hr:Lp (At c) p s r a)(hl:r.length≤100000){f0:Fo}{ts:List Tn}(hts:Dn c (List.replicate r.length f0) r ts):Good c (AT 13 f0) s (.mk 6 s a (sI r) ts):=by
 have hpos:=AiM.2 hr.pos
 have hrc:C9 (At c) p s r:=⟨hr.pos,hr.fst,fun i hi=>hr.by_ i (by omega),hr.nxt⟩
 have hst:=Qw hc hrc hv
 have hch:=UH hc hrc
 have hlt:=hr.lt
 have hok:(Tn.mk 6 s a (sI r) ts).ok:=MC (s:=s) (a:=a) (by decide) (EB hc hv) (by omega) (by omega) (fun x hx=>EB hc (hst x hx)) (by have:=hts.YC.1;omega) hts.YC.2
 have hv:=EA hc hv
 have hb:BN c ((sI r).getD ((sI r).length - 1) 0) ((sI r).getD ((a:Int).toNat) 0)=true:=by
  rw[GD,GD,Ai8,AiJ]
  exact(OI hc hr.back).2.2
 have hm:SV c ((sI r).drop ((a:Int).toNat))=true:=by
  unfold SV
  rw[AiD]
  intro l hl
  rw[List.any_eq_true,AiJ]
  obtain⟨F,hF1,hF2⟩:∃ F∈(At c).fair,∀ x:Nat,bit F x=true→DT c x l=true:=⟨_,AiL.2 ⟨l,hl,rfl⟩,fun x hx=>by
   have hs:x<2 ^ c.gr.inputs.toNat:=by have:=Cj hx;simpa using this
   have h10:=hc.h10
   have hff:c.fair.all c.gr.lit=true:=by
    obtain⟨_,_,_,_,_,_,_,_,_,_,_,hff,_⟩:=Bp.1 hc.right
    exact hff
   rw[PW hc.right (by omega) hs (AiD.1 hff l hl)]
   rw[bit,Ai2,AiH,List.getElem?_range hs]at hx
   have hx:((AB c).getD x false && Ei ((A2 c).getD x []) l)=true:=hx
   rw[Ai5]at hx
   exact hx.2⟩
  obtain⟨i,h1,h2,h3⟩:=hr.met F hF1
  refine⟨(gN r i:Int),?_,hF2 _ h3⟩
  rw[List.mem_iff_getElem?]
  refine⟨i - a,?_⟩
  rw[List.getElem?_drop,show a+(i - a)=i by omega,AiH,Ai3 h2]
  unfold gN
  rw[Ai2,Ai3 h2]
  rfl
 have e:Tn.acc c (.mk 6 s a (sI r) ts) (AT 13 f0)=Tn.Ca c ts (List.replicate r.length f0) (sI r) 0:=by
  rw[Uu hv,IV,if_pos ⟨by simpa[sI]using hr.pos,by rw[GD,hr.fst],by omega,by rw[Ai8];omega,rfl,hb,hch,hm⟩,Ai8]
 obtain⟨h1,h2⟩:=hts.Ca 0
 exact⟨hok,rfl,by rw[e];exact h1,fun ho=>by
  rw[e]
  exact h2 (fun y hy=>by rw[List.eq_of_mem_replicate hy];exact FB ho _ (by simp)) rfl⟩
end
abbrev dI(n:Int):List UInt8:=Lib.decDigits n.toNat
mutual
def Fo.DV:Fo→List UInt8
 |.mk k _ l ks=>40 :: (dI k++32 :: (dI l++(Fo.Cq ks ++ [41])))
def Fo.Cq:List Fo→List UInt8
 |[]=>[]
 |f :: fs=>Fo.DV f++Fo.Cq fs
end
theorem Jj(k:Int)(n:ByteArray)(l:Int)(ks:List Fo):Fo.DV (.mk k n l ks)=40 :: (dI k++32 :: (dI l++(Fo.Cq ks ++ [41]))):=by rw[Fo.DV]
theorem keys_cons(f:Fo)(fs:List Fo):Fo.Cq (f :: fs)=f.DV++Fo.Cq fs:=by rw[Fo.Cq]
theorem keys_nil:Fo.Cq [] = []:=by rw[Fo.Cq]
theorem oB:∀(n m:Nat),m<n→∀ b∈Lib.decDigits m,48≤b.toNat:=by
 intro n
 induction n with
 |zero=>intro m h;omega
 |succ n ih =>
  intro m h b hb
  have e:∀ k,k<10→48≤(UInt8.ofNat (48+k)).toNat:=fun k hk=>by rw[UInt8.toNat_ofNat'];omega
  rw[Lib.decDigits]at hb
  split at hb
  ·rename_i h10
   obtain rfl:=AiA.1 hb
   exact e _ h10
  ·rcases AiQ.1 hb with hb|hb
   ·exact ih (m / 10) (by omega) b hb
   ·obtain rfl:=AiA.1 hb
    exact e _ (by omega)
theorem yS(m:Nat):Lib.decDigits m≠[]:=by
 rw[Lib.decDigits]
 split<;>simp
theorem Vz:∀(n m k:Nat),m<n→Lib.decDigits m=Lib.decDigits k→m=k:=by
 intro n
 induction n with
 |zero=>intro m k h;omega
 |succ n ih =>
  intro m k h he
  have e:∀ a b,a<10→b<10→UInt8.ofNat (48+a)=UInt8.ofNat (48+b)→a=b:=fun a b ha hb h=>by
   have:=congrArg UInt8.toNat h
   rw[UInt8.toNat_ofNat',UInt8.toNat_ofNat']at this
   omega
  have d1:∀ u,u<10→Lib.decDigits u = [UInt8.ofNat (48+u)]:=fun u h=>by rw[Lib.decDigits,dif_pos h]
  have d2:∀ u,¬ u<10→Lib.decDigits u=Lib.decDigits (u / 10) ++ [UInt8.ofNat (48+u % 10)]:=fun u h=>by rw[Lib.decDigits,dif_neg h]
  have dl:∀ u,¬ u<10→2≤(Lib.decDigits u).length:=fun u h=>by
   have:=AiM.2 (yS (u / 10))
   rw[d2 u h,AiK,Aj1];omega
  by_cases h1:m<10<;>by_cases h2:k<10
  ·rw[d1 m h1,d1 k h2]at he
   exact e _ _ h1 h2 (AjK he).1
  ·have:=dl k h2
   rw[←he,d1 m h1]at this
   simp at this
  ·have:=dl m h1
   rw[he,d1 k h2]at this
   simp at this
  ·rw[d2 m h1,d2 k h2]at he
   obtain⟨h3,h4⟩:=List.append_inj' he rfl
   have h5:=ih (m / 10) (k / 10) (by omega) h3
   have h6:=e _ _ (Nat.mod_lt _ (by decide)) (Nat.mod_lt _ (by decide)) (AjK h4).1
   omega
theorem P3:∀{a b:List UInt8} {x y:UInt8} {s t:List UInt8},(∀ c∈a,48≤c.toNat)→(∀ c∈b,48≤c.toNat)→x.toNat<48→y.toNat<48→a++x :: s=b++y :: t→a=b∧x=y∧s=t
 |[],[],x,y,s,t,_,_,_,_,h=>⟨rfl,(AjK h).1,(AjK h).2⟩
 |[],c :: b,x,y,s,t,_,hb,hx,_,h=>by
  obtain rfl:=(AjK h).1
  have:=hb x (by simp)
  omega
 |c :: a,[],x,y,s,t,ha,_,_,hy,h=>by
  obtain rfl:=(AjK h).1
  have:=ha c (by simp)
  omega
 |c :: a,d :: b,x,y,s,t,ha,hb,hx,hy,h=>by
  obtain⟨h1,h2⟩:=AjK h
  obtain⟨h3,h4,h5⟩:=P3 (fun c hc=>ha c (by simp[hc])) (fun c hc=>hb c (by simp[hc])) hx hy h2
  exact⟨by rw[h1,h3],h4,h5⟩
inductive Kf:Fo→Prop
 |mk (k l:Int) (ks:List Fo) (h1:0≤k) (h2:0≤l) (h:∀ f∈ks,Kf f):Kf (.mk k ⟨#[]⟩ l ks)
theorem Pu.kf{f:Fo}(h:Pu f):Kf f:=by
 have leaf:∀ l:Int,0≤l→Kf (.mk 3 ⟨#[]⟩ l []):=fun l h=>.mk _ _ _ (by decide) h (fun f hf=>by cases hf)
 induction h with
 |c k hk=>exact .mk _ _ _ (by omega) (by decide) (fun f hf=>by cases hf)
 |a l h0 hl=>exact leaf l h0
 |n l h0 hl=>exact .mk _ _ _ (by decide) (by decide) (fun f hf=>by rw[AiA.1 hf];exact leaf l h0)
 |o k f hk h ih=>exact .mk _ _ _ (by omega) (by decide) (fun g hg=>by rw[AiA.1 hg];exact ih)
 |t k f g hk h h2 ih ih2 =>
  refine .mk _ _ _ (by omega) (by decide) (fun x hx=>?_)
  have hx:x=f∨x=g:=by simpa using hx
  rcases hx with rfl|rfl
  ·exact ih
  ·exact ih2
theorem Oh(ks:List Fo)(x:List UInt8):∃ b t,Fo.Cq ks++41 :: x=b :: t∧b.toNat<48:=by
 cases ks with
 |nil=>exact⟨41,x,by rw[keys_nil];rfl,by decide⟩
 |cons f fs =>
  obtain⟨k,n,l,ks⟩:=f
  exact⟨40,_,by rw[keys_cons,Jj];rfl,by decide⟩
theorem mW{f:Fo}(hf:Kf f):∀{g:Fo},Kf g→∀{x y:List UInt8},f.DV++x=g.DV++y→f=g∧x=y:=by
 induction hf with
 |mk k l ks h1 h2 h ih =>
  intro g hg x y he
  obtain⟨k',l',ks',g1,g2,g3⟩:=hg
  have dm:∀ n:Int,∀ c∈dI n,48≤c.toNat:=fun n c hc=>oB _ _ (AjL _) c hc
  rw[Jj,Jj]at he
  simp only[List.cons_append,List.append_assoc,List.nil_append,List.cons.injEq,true_and]at he
  obtain⟨e1,_,e2⟩:=P3 (dm k) (dm k') (by decide) (by decide) he
  obtain⟨b,t,e3,e4⟩:=Oh ks x
  obtain⟨b',t',e5,e6⟩:=Oh ks' y
  rw[e3,e5]at e2
  obtain⟨e7,e8,e9⟩:=P3 (dm l) (dm l') e4 e6 e2
  have e10:Fo.Cq ks++41 :: x=Fo.Cq ks'++41 :: y:=by rw[e3,e5,e8,e9]
  have hl:∀(us:List Fo),(∀ f∈us,∀{g:Fo},Kf g→∀{x y:List UInt8},f.DV++x=g.DV++y→f=g∧x=y)→∀ bs:List Fo,(∀ g∈bs,Kf g)→∀ x y,Fo.Cq us++41 :: x=Fo.Cq bs++41 :: y→us=bs∧x=y:=by
   intro us
   induction us with
   |nil =>
    intro _ bs _ x y h
    cases bs with
    |nil=>rw[keys_nil]at h;exact⟨rfl,(AjK h).2⟩
    |cons g gs =>
     obtain⟨k,n,l,ks⟩:=g
     rw[keys_nil,keys_cons,Jj]at h
     exact absurd (AjK h).1 (by decide)
   |cons a us iha =>
    intro hk bs hb x y h
    cases bs with
    |nil =>
     obtain⟨k,n,l,ks⟩:=a
     rw[keys_nil,keys_cons,Jj]at h
     exact absurd (AjK h).1 (by decide)
    |cons g gs =>
     rw[keys_cons,keys_cons,List.append_assoc,List.append_assoc]at h
     obtain⟨e1,e2⟩:=hk a (by simp) (hb g (by simp)) h
     obtain⟨e3,e4⟩:=iha (fun f hf=>hk f (by simp[hf])) gs (fun g hg=>hb g (by simp[hg])) x y e2
     exact⟨by rw[e1,e3],e4⟩
  obtain⟨e11,e12⟩:=hl ks (fun f hf {g} hg {x y}=>ih f hf hg) ks' g3 x y e10
  have e13:k=k':=by have:=Vz _ _ _ (AjL _) e1;omega
  have e14:l=l':=by have:=Vz _ _ _ (AjL _) e7;omega
  exact⟨by rw[e11,e13,e14],e12⟩
theorem key_inj{f g:Fo}(hf:Pu f)(hg:Pu g)(h:f.DV=g.DV):f=g:=(mW hf.kf hg.kf (x:=[]) (y:=[]) (by rw[h])).1
theorem HE(e:Key × AV)(es:List (Key × AV))(k:Key):Js (e :: es) k=if e.1=k then some e.2 else Js es k:=by
 unfold Js Ij
 rw[List.findIdx?_cons]
 by_cases h:e.1=k
 ·simp[h]
 ·simp only[h,decide_false,Bool.false_eq_true,if_false,Option.bind_map]
  cases List.findIdx? (fun e=>decide (e.1=k)) es<;>rfl
theorem Vj{es:List (Key × AV)}{k k':Key}{v:AV}:Js (C0 es k v) k'=if k=k' then some v else Js es k':=by
 induction es with
 |nil=>rw[C0,HE]
 |cons e es ih =>
  rw[C0]
  by_cases h:e.1=k
  ·rw[if_pos h,HE,HE]
   show(if e.1=k' then _ else _)=_
   rw[h]
   by_cases h2:k=k'
   ·rw[if_pos h2,if_pos h2]
   ·rw[if_neg h2,if_neg h2,if_neg h2]
  ·rw[if_neg h,HE,ih,HE]
   by_cases h2:e.1=k'
   ·rw[if_pos h2,if_pos h2,if_neg (fun e2=>h (h2.trans e2.symm))]
   ·rw[if_neg h2,if_neg h2]
def Hb(c:Ci)(es:List (Key × AV)):Prop:=∀ f,Pu f→∀ v,Js es (.s f.DV)=some v→v=aL aB (AY c f)
theorem Hb.nil(c:Ci):Hb c []:=fun f _ v h=>by simp[Js,Ij]at h
theorem Hb.ins{c:Ci}{es:List (Key × AV)}(h:Hb c es){f:Fo}(hf:Pu f):Hb c (C0 es (.s f.DV) (aL aB (AY c f))):=fun g hg v hv=>by
 rw[Vj]at hv
 split at hv
 ·rename_i e
  injection e with e
  have:=key_inj hf hg e
  subst this
  injection hv with hv
  exact hv.symm
 ·exact h g hg v hv
def tE(k:Int):Nat:=if k=2∨k=5∨k=13 then 1 else if k=17 then 6 else 4
mutual
def Fo.wt:Fo→Nat
 |.mk k _ _ ks=>tE k+Fo.Qv ks*(if k=17 then 2 else 1)
def Fo.Qv:List Fo→Nat
 |[]=>0
 |f :: fs=>Fo.wt f+Fo.Qv fs
end
theorem Jv(k:Int)(n:ByteArray)(l:Int)(ks:List Fo):Fo.wt (.mk k n l ks)=tE k+Fo.Qv ks*(if k=17 then 2 else 1):=by rw[Fo.wt]
theorem UG(f:Fo):Fo.Qv [f]=f.wt:=by rw[Fo.Qv,Fo.Qv];rfl
theorem UF(f g:Fo):Fo.Qv [f,g]=f.wt+g.wt:=by rw[Fo.Qv,UG]
theorem Gv(k:Int)(f:Fo)(hk:k≠17):(AT k f).wt=tE k+f.wt:=by rw[Jv,UG,if_neg hk,Nat.mul_one]
theorem FM(k:Int)(f g:Fo)(hk:k≠17):(A6 k f g).wt=tE k+(f.wt+g.wt):=by rw[Jv,UF,if_neg hk,Nat.mul_one]
theorem AaM(f g:Fo):(A6 17 f g).wt=6+(f.wt+g.wt)*2:=by rw[Jv,UF];rfl
theorem Sx:IM.wt=1:=by rw[Jv,Fo.Qv];rfl
theorem kU:GV.wt=2:=by rw[Gv 13 IM (by decide),Sx];rfl
theorem AbZ:Pu IM:=.c _ (.inr rfl)
theorem Yq:Pu GV:=.o _ _ (by decide) AbZ
theorem OW{s:Sp}(h:LF s)(i:Nat):∀ k∈nx s i,0≤k∧k<s.valid.length:=fun k hk=>by
 unfold nx at hk
 rw[Ai2]at hk
 cases e:s.next[i]? with
 |none=>rw[e]at hk;cases hk
 |some x=>rw[e]at hk;exact h.mem x (AjB e) k hk
section
variable {c:Ci} {s:Nat}
theorem Ab1(h:bit (AY c (.mk 1 ⟨#[]⟩ 0 [])) s=true):False:=by
 rw[AY,D4,B5]at h
 cases hb:bit (At c).valid s<;>rw[hb]at h<;>cases h
theorem Ab0{l:Int}(h:bit (AY c (.mk 3 ⟨#[]⟩ l [])) s=true):DT c s l=true:=by
 rw[AY,Dg,CE,Fe,Ai5]at h
 exact h.2
theorem AaZ{l:Int}(h:bit (AY c (.mk 4 ⟨#[]⟩ 0 [.mk 3 ⟨#[]⟩ l []])) s=true):DT c s l=false:=by
 rw[AY,CM (by decide),Dg]at h
 have h:bit (A5 (At c) (CE c (At c) l)) s=true:=h
 rw[B5,CE,Fe,Ai5]at h
 rw[h.1]at h
 simpa using h.2
theorem tM{f g:Fo}(h:bit (AY c (A6 5 f g)) s=true):bit (AY c f) s=true∧bit (AY c g) s=true:=by
 rw[EM 5 f g (by decide)]at h
 have h:bit (Bm (AY c f) (AY c g)) s=true:=h
 rwa [Bj,Ai5]at h
theorem AaY{f g:Fo}(hf:Pu f)(hg:Pu g)(h:bit (AY c (A6 6 f g)) s=true):bit (AY c f) s=true∨bit (AY c g) s=true:=by
 rw[EM 6 f g (by decide)]at h
 have h:bit (EJ (AY c f) (AY c g)) s=true:=h
 rwa [CU (by rw[(FZ hf).len,(FZ hg).len]),Bool.or_eq_true]at h
theorem xN{f g:Fo}(hf:Pu f)(hg:Pu g)(h:bit (AY c (A6 17 f g)) s=true):bit (AY c (AT 13 g)) s=true∨bit (AY c (A6 15 g (A6 5 f g))) s=true:=by
 have e1:AY c (AT 13 g)=DW (At c) (AY c g):=EN 13 g (by decide)
 have e2:AY c (A6 15 g (A6 5 f g))=Bn (At c) (DW (At c) (At c).valid) (AY c g) (Bm (AY c f) (AY c g)):=by
  rw[EM 15 _ _ (by decide),EM 5 _ _ (by decide)];rfl
 rw[EM 17 f g (by decide)]at h
 have h:bit (EJ (DW (At c) (AY c g)) (Bn (At c) (DW (At c) (At c).valid) (AY c g) (Bm (AY c f) (AY c g)))) s=true:=h
 rw[e1,e2]
 rwa [CU (by rw[P2,Bn,P0,DP,DP,(FZ hf).len,(FZ hg).len]),Bool.or_eq_true]at h
variable (hc:Wc c)
include hc
theorem AaX{f:Fo}(h:bit (AY c (AT 9 f)) s=true):∃ k:Nat,(k:Int)∈nx (At c) s∧bit (AY c f) k=true∧bit (AY c GV) k=true:=by
 rw[EN 9 f (by decide)]at h
 have h:bit (NC (At c) (Bm (AY c f) (DW (At c) (At c).valid))) s=true:=h
 rw[K3]at h
 obtain⟨_,_,k,h1,h2⟩:=h
 have hk:=OW hc.sp s k h1
 rw[Bj,Ai5]at h2
 exact⟨k.toNat,by rw[Int.toNat_of_nonneg hk.1];exact h1,h2.1,by rw[Yc];exact h2.2⟩
theorem NU{p:List Bool}{g:Fo}(h:bit (Bn (At c) (DW (At c) (At c).valid) p (AY c g)) s=true):Rc (At c) p (Bm (AY c g) (AY c GV)) s:=by
 rw[Bn,D7]at h
 rw[Yc]
 exact h.2.rc
theorem xQ{g:Fo}(h:bit (AY c (AT 11 g)) s=true):Rc (At c) (AY c IM) (Bm (AY c g) (AY c GV)) s:=by
 rw[EN 11 g (by decide)]at h
 rw[Ye]
 exact NU hc h
theorem xO{f g:Fo}(h:bit (AY c (A6 15 f g)) s=true):Rc (At c) (AY c f) (Bm (AY c g) (AY c GV)) s:=by
 rw[EM 15 f g (by decide)]at h
 exact NU hc h
theorem xP{f:Fo}(hf:Pu f)(h:bit (AY c (AT 13 f)) s=true):(∃ t,Rc (At c) (AY c (AT 13 f)) (CR (At c).valid.length t) s∧Home (At c) (AY c (AT 13 f)) t)∧∀ i,bit (AY c (AT 13 f)) i=true→bit (AY c f) i=true:=by
 have e1:AY c (AT 13 f)=DW (At c) (AY c f):=EN 13 f (by decide)
 rw[e1]at h ⊢
 refine⟨nB (fun i k hk=>(OW hc.sp i k hk).1) (FZ hf).len h,fun i hi=>?_⟩
 have:=uA i hi
 rw[Bj,Ai5]at this
 exact this.1
omit hc in
theorem Yp{f:Fo}(hf:Pu f)(h:bit (AY c f) s=true):bit (At c).valid s=true:=(FZ hf).sub s h
end
open Go Go.Shelf Go.Proofs
def PV:Go.Shelf.Ren:=⟨fun|171=>144|243=>163|246=>185|283=>194|284=>195|285=>196|286=>197|129=>203|317=>202|318=>204|319=>205|320=>206|337=>211|338=>212|n=>n,fun|3=>3|9=>9|2=>2|4=>4|171=>216|0=>0|53=>208|37=>23|5=>5|173=>219|212=>226|51=>171|20=>20|213=>227|46=>142|232=>240|233=>241|n=>n,fun|17=>0|18=>1|19=>2|n=>n⟩
theorem RD:Go.Proofs.LaysM.n171 Pg PV where
 mixed:=by kernel_rfl
 f129:=Tryz.func203.trans (congrArg some (by kernel_rfl))
 f171:=Tryz.func144.trans (congrArg some (by kernel_rfl))
 f243:=Tryz.func163.trans (congrArg some (by kernel_rfl))
 f246:=Tryz.func185.trans (congrArg some (by kernel_rfl))
 f283:=Tryz.func194.trans (congrArg some (by kernel_rfl))
 f284:=Tryz.func195.trans (congrArg some (by kernel_rfl))
 f285:=Tryz.func196.trans (congrArg some (by kernel_rfl))
 f286:=Tryz.func197.trans (congrArg some (by kernel_rfl))
 f317:=Tryz.func202.trans (congrArg some (by kernel_rfl))
 f318:=Tryz.func204.trans (congrArg some (by kernel_rfl))
 f319:=Tryz.func205.trans (congrArg some (by kernel_rfl))
 f320:=Tryz.func206.trans (congrArg some (by kernel_rfl))
 f337:=Tryz.func211.trans (congrArg some (by kernel_rfl))
 f338:=Tryz.func212.trans (congrArg some (by kernel_rfl))
 t0:=Tryz.underlying0
 a0:=Tryz.isAgg0
 z0:=Tryz.sizeOf0
 v0:=Tryz.zeroValue0
 t2:=Tryz.underlying2
 a2:=Tryz.isAgg2
 z2:=Tryz.sizeOf2
 v2:=Tryz.zeroValue2
 t3:=Tryz.underlying3
 a3:=Tryz.isAgg3
 z3:=Tryz.sizeOf3
 v3:=Tryz.zeroValue3
 t4:=Tryz.underlying4
 a4:=Tryz.isAgg4
 z4:=Tryz.sizeOf4
 v4:=Tryz.zeroValue4
 t5:=Tryz.underlying5
 a5:=Tryz.isAgg5
 z5:=Tryz.sizeOf5
 v5:=Tryz.zeroValue5
 t9:=Tryz.underlying9
 a9:=Tryz.isAgg9
 z9:=Tryz.sizeOf9
 v9:=Tryz.zeroValue9
 t20:=Tryz.underlying20
 a20:=Tryz.isAgg20
 z20:=Tryz.sizeOf20
 v20:=Tryz.zeroValue20
 t37:=Tryz.underlying23
 a37:=Tryz.isAgg23
 z37:=Tryz.sizeOf23
 v37:=Tryz.zeroValue23
 t46:=Tryz.underlying142
 a46:=Tryz.isAgg142
 z46:=Tryz.sizeOf142
 v46:=Tryz.zeroValue142
 t51:=Tryz.underlying171
 a51:=Tryz.isAgg171
 z51:=Tryz.sizeOf171
 v51:=Tryz.zeroValue171
 t53:=Tryz.underlying208
 a53:=Tryz.isAgg208
 z53:=Tryz.sizeOf208
 v53:=Tryz.zeroValue208
 t171:=Tryz.underlying216
 a171:=Tryz.isAgg216
 z171:=Tryz.sizeOf216
 v171:=Tryz.zeroValue216
 t173:=Tryz.underlying219
 a173:=Tryz.isAgg219
 z173:=Tryz.sizeOf219
 v173:=Tryz.zeroValue219
 t212:=Tryz.underlying226
 a212:=Tryz.isAgg226
 z212:=Tryz.sizeOf226
 v212:=Tryz.zeroValue226
 t213:=Tryz.underlying227
 a213:=Tryz.isAgg227
 z213:=Tryz.sizeOf227
 t232:=Tryz.underlying240
 a232:=Tryz.isAgg240
 z232:=Tryz.sizeOf240
 v232:=Tryz.zeroValue240
 t233:=Tryz.underlying241
 a233:=Tryz.isAgg241
 z233:=Tryz.sizeOf241
 v233:=Tryz.zeroValue241
 g17:=by kernel_rfl
 g18:=by kernel_rfl
 g19:=by kernel_rfl
 i0:=by kernel_rfl
 i2:=by kernel_rfl
 i3:=by kernel_rfl
 i4:=by kernel_rfl
 i5:=by kernel_rfl
 i9:=by kernel_rfl
 i20:=by kernel_rfl
 i37:=by kernel_rfl
 i46:=by kernel_rfl
 i51:=by kernel_rfl
 i53:=by kernel_rfl
 i171:=by kernel_rfl
 i173:=by kernel_rfl
 i212:=by kernel_rfl
 i232:=by kernel_rfl
 i233:=by kernel_rfl
 m17:=by kernel_rfl
 m18:=by kernel_rfl
 m19:=by kernel_rfl
open Go Go.Ab Go.RowKit
theorem jW{n:Int}(hn:By n):BH Pg 144 [aI n] (.v (.string ⟨(Lib.itoa n).toArray⟩)):=fun S =>
 Ad.below (by kernel_rfl) fun w g vs hh ha=>by
  obtain rfl:=ha.one
  obtain⟨_,cs,hv,hok⟩:=hh.gl _ _ RD.m17 (by decide)
  have ht : Lib.TabIs Pg w "internal/strconv.uint64pow10" .u64 Lib.pow10Tab := by
   unfold Lib.TabIs
   rw[hv,hok.2.1 rfl,Lib.pow10Tab,AjC]
   rfl
  refine(Any.strconv_Itoa RD n (by have:=hn.1;omega) (by have:=hn.2;omega) w ht).mono fun e w' ⟨he,k,os,hw⟩=>⟨?_,_,he,.v _⟩
  rw[hw]
  exact Lib.below_grow _ _ (Ai4 _) _ _
abbrev sB(l:List UInt8):AV:=.v (.string ⟨l.toArray⟩)
theorem Kq{a b:List UInt8}(h:a.length+b.length≤9223372036854775807){kd:Nat}{S:Aa}{K:AV→Aa→Prop}:bin .add kd (sB a) (sB b) S K=K (sB (a++b)) S:=by
 have e:(⟨a.toArray⟩:ByteArray)++⟨b.toArray⟩=⟨(a++b).toArray⟩:=by
  apply ByteArray.ext
  simp[ByteArray.data_append]
 have hs:(⟨a.toArray⟩:ByteArray).size+(⟨b.toArray⟩:ByteArray).size≤9223372036854775807:=by
  show a.toArray.size+b.toArray.size≤_
  simpa using h
 show BK (Wa .add _ _) _=_
 simp only[Wa,if_pos hs,BO,e]
theorem Vr{n:Int}(h:0≤n):Lib.itoa n=dI n:=by unfold Lib.itoa;rw[if_neg (by omega)]
theorem Vy:∀(k m:Nat),1≤k→m<10 ^ k→(Lib.decDigits m).length≤k
 |0,m,h,_=>by omega
 |k+1,m,_,h=>by
  rw[Lib.decDigits]
  split
  ·simp
  ·rename_i h10
   have hk:1≤k:=by
    rcases Nat.eq_zero_or_pos k with e|e
    ·subst e;simp at h;omega
    ·exact e
   have:=Vy k (m / 10) hk (by rw[Nat.pow_succ]at h;omega)
   simp;omega
theorem P4{n:Int}(h:0≤n)(h2:By n):(dI n).length≤21:=by
 have:=h2.2
 exact Nat.le_trans (Vy 19 _ (by decide) (by have:(10:Nat) ^ 19=10000000000000000000:=by decide
                                             omega)) (by decide)
theorem M1:∀(l r:List Fo),Fo.Cq (l++r)=Fo.Cq l++Fo.Cq r
 |[],r=>by rw[keys_nil];rfl
 |f :: l,r=>by rw[List.cons_append,keys_cons,M1 l r,keys_cons,List.append_assoc]
theorem kV(k:Int):1≤tE k:=by
 unfold tE
 split
 ·exact Ai4 _
 ·split<;>decide
theorem D3(k:Int)(n:ByteArray)(l:Int)(ks:List Fo):1+Fo.Qv ks≤Fo.wt (.mk k n l ks):=by
 rw[Jv]
 have:=kV k
 split<;>omega
theorem UE:∀{l:List Fo} {f:Fo},f∈l→f.wt≤Fo.Qv l
 |g :: l,f,h=>by
  rw[Fo.Qv]
  rcases AiO.1 h with rfl|h
  ·omega
  ·have:=UE h;omega
theorem mV{f:Fo}(hk:Kf f):f.ok→f.DV.length≤45*f.wt:=by
 induction hk with
 |mk k l ks h1 h2 h ih =>
  intro hok
  cases hok with
  |mk _ _ _ _ o1 o2 o3 o4 o5 =>
  have hl:∀ us:List Fo,(∀ f∈us,f.DV.length≤45*f.wt)→(Fo.Cq us).length≤45*Fo.Qv us:=by
   intro us
   induction us with
   |nil=>intro _;rw[keys_nil];simp
   |cons u us ihu =>
    intro hu
    have a1:=hu u (by simp)
    have a2:=ihu fun f hf=>hu f (by simp[hf])
    rw[keys_cons,AiK,Fo.Qv]
    omega
  have a1:=hl ks fun f hf=>ih f hf (o5 f hf)
  have a2:=D3 k ⟨#[]⟩ l ks
  have a3:=P4 h1 o1
  have a4:=P4 h2 o2
  rw[Jj]
  simp only[List.length_cons,AiK,List.length_nil]
  omega
theorem Aa6{f:Fo}(hk:Kf f):f.ok→f.wt≤1000000000000000→BH Pg 112 [f.av] (sB f.DV):=by
 induction hk with
 |mk k l ks h1 h2 h ih =>
  intro hok hwt S
  have hlen:=mV (.mk k l ks h1 h2 h) hok
  have hwl:=D3 k ⟨#[]⟩ l ks
  cases hok with
  |mk _ _ _ _ o1 o2 o3 o4 o5 =>
  have a3:=P4 h1 o1
  have a4:=P4 h2 o2
  refine Ad.Bt (fC ?_)
  dsimp only[AeQ,Lf,Lq,Ld]
  rw[Fo.av,Fo.AE]
  refine Ai rfl fun S1 k1 n1 p1=>?_
  show ∃ q:AV,_
  refine⟨_,by rw[Ac];exact⟨rfl,rfl⟩,?_⟩
  refine⟨_,by rw[Af p1 rfl rfl];exact⟨rfl,rfl⟩,?_⟩
  refine⟨_,Ae (jW o1) ⟨rfl,rfl⟩,?_⟩
  rw[Vr h1]
  refine⟨sB ([40]++dI k),W (Kq (a:=[40]) (by simp;omega)) ⟨rfl,rfl⟩,?_⟩
  refine⟨sB ([40]++dI k ++ [32]),W (Kq (b:=[32]) (by simp;omega)) ⟨rfl,rfl⟩,?_⟩
  refine⟨_,by rw[Ac];exact⟨rfl,rfl⟩,?_⟩
  refine⟨_,by rw[Af p1 rfl rfl];exact⟨rfl,rfl⟩,?_⟩
  refine⟨_,Ae (jW o2) ⟨rfl,rfl⟩,?_⟩
  rw[Vr h2]
  refine⟨sB ([40]++dI k ++ [32]++dI l),W (Kq (by simp;omega)) ⟨rfl,rfl⟩,?_⟩
  rw[Ac,Af p1 rfl rfl,BJ]
  obtain⟨hd,hhd⟩:∃ hd:List UInt8,hd = [40]++dI k ++ [32]++dI l:=⟨_,rfl⟩
  have hdl:hd.length≤44:=by rw[hhd];simp;omega
  have hkey:(Fo.mk k ⟨#[]⟩ l ks).DV=hd++Fo.Cq ks ++ [41]:=by rw[Jj,hhd];simp
  have htot:hd.length+(Fo.Cq ks).length≤45000000000000000:=by
   rw[hkey]at hlen
   simp only[AiK,List.length_cons,List.length_nil]at hlen
   omega
  rw[←hhd]
  refine W9 (fun y z S'=>Am S S'∧∃ i:Nat,z=aI i∧i≤ks.length∧y=sB (hd++Fo.Cq (ks.take i))) (fun _ z _=>ks.length - ((Aw z).getD 0).toNat) ⟨k1,0,rfl,Ai9 _,by rw[List.take_zero,keys_nil,List.append_nil]⟩ ?_
  dsimp only[DE]
  rintro _ _ T1 ⟨kT,i,rfl,hi,rfl⟩ KE hKE
  dsimp only[iQ,Fi]
  rw[As,Ag]
  refine Al (fun hlt=>?_) (fun hge=>?_)
  ·have hlt:i<ks.length:=by have:=dT hlt;omega
   have hm:=Ai6 hlt
   have et:ks.take (i+1)=ks.take i ++ [ks[i]]:=(List.take_append_getElem hlt).symm
   have e1:Fo.Cq (ks.take (i+1))=Fo.Cq (ks.take i)++ks[i].DV:=by rw[et,M1,keys_cons,keys_nil,List.append_nil]
   have e2:Fo.Cq ks=Fo.Cq (ks.take (i+1))++Fo.Cq (ks.drop (i+1)):=by rw[←M1,List.take_append_drop]
   have e3:=congrArg List.length e2
   rw[e1,AiK,AiK]at e3
   rw[Cn hlt,Cd (Fo.Aj _)]
   refine Ai rfl fun S2 k2 n2 p2=>?_
   refine AF (cs':=ks[i].row) p2 (Fo.Aj _) rfl fun S3 n3 p3 f3=>?_
   rw[An (n:=4) p3 (Fo.Aj _)]
   refine Ae (ih _ hm (o5 _ hm) (by have:=UE hm;omega)) ?_
   rw[Kq (by rw[AiK];omega),Ar (by omega) (by omega)]
   exact hKE _ _ _ ⟨(kT.trans k2).st (id:=T1.n) kT.1 n3 f3,i+1,rfl,hlt,by rw[e1,List.append_assoc]⟩ (by simp[Aw];omega)
  ·have hge:i=ks.length:=by have:=dF hge;omega
   subst hge
   rw[Aj3,show ∀ K:AV→Aa→Prop,bin .add 0 (sB (hd++Fo.Cq ks)) (.v (.string { data:=#[41] })) T1 K=K (sB (hd++Fo.Cq ks ++ [41])) T1 from fun K=>Kq (b:=[41]) (by simp;omega)]
   exact⟨by rw[hkey],kT⟩
theorem OB(k:Int)(fs:List Fo):BH Pg 63 [aI k,Dx fs] (Fo.mk k ⟨#[]⟩ 0 fs).av:=by
 intro S
 refine Ad.tree (pR ?_)
 unfold m63
 refine Ai rfl fun S1 k1 n1 p1=>?_
 rw[A7 (cs:=[aI k,.v (.string ByteArray.empty),aI 0,Dx fs]) rfl]
 refine AF (cs':=[aI k,.v (.string ByteArray.empty),aI 0,Dx fs]) p1 rfl rfl fun S2 n2 p2 f2=>?_
 rw[An (n:=4) p2 rfl]
 refine⟨_,rfl,k1.st (Ai4 _) n2 f2,?_⟩
 have:=Fo.tr (Fo.mk k ⟨#[]⟩ 0 fs) (S2.Bx (AK S.n)) S.n
 rw[Fo.av,Fo.AE]at this ⊢
 exact this
theorem VM:BH Pg 62 [] IM.av:=by
 intro S
 refine Ad.tree (pS ?_)
 unfold m62
 refine Ai rfl fun S1 k1 n1 o1=>?_
 rw[A7 (cs:=[aI 2,.v (.string ByteArray.empty),aI 0,.nl]) rfl]
 refine AF (cs':=[aI 2,.v (.string ByteArray.empty),aI 0,.nl]) o1 rfl rfl fun S2 n2 o2 f2=>?_
 rw[An (n:=4) o2 rfl]
 refine⟨_,rfl,k1.st (Ai4 _) n2 f2,?_⟩
 rw[Fo.av,Fo.AE]
 refine .a _ _ rfl fun k u u2 e1 e2=>?_
 match k with
 |0=>cases e1;cases e2;exact .v _
 |1=>cases e1;cases e2;exact .v _
 |2=>cases e1;cases e2;exact .v _
 |3=>cases e1;cases e2;exact .nl
 |k+4=>simp at e1
set_option linter.unusedSectionVars false
theorem x9(a b:List Bool)(ha:a.length<140737488355328)(hab:b.length=a.length):Nw 105 [aL aB a,aL aB b] (Bm a b):=by
 intro S
 refine fK ?_
 unfold AeX
 refine Nw.call (Yw a ha) fun x S1 k1 o1=>?_
 rw[Ay]
 refine Xe (fun y S'=>Am S S'∧∃ i:Nat,y=aI i∧i≤b.length∧A4 S.n S' x 4 (CI a.length fun k=>[aB (if k<i then bit a k && bit b k else bit a k)]))
  (fun y _=>b.length - ((Aw y).getD 0).toNat) ⟨k1,0,rfl,Ai9 _,by
   rw[LI a,ED]at o1;simpa using o1⟩ ?_
 dsimp only[BS]
 rintro _ S2 ⟨k2,i,rfl,hi,o2⟩ KE hKE
 dsimp only[iV,Fi];unfold aI
 rw[As,Ag]
 refine Al (fun h=>?_) (fun h=>?_)
 ·have hlt:i<b.length:=by simpa using h
  have hia:i<a.length:=by omega
  obtain⟨id,rfl,hid,hid2,q2⟩:=A4.ix o2 (i:=i) (by simpa using hia)
  have hg:=BR (f:=fun k=>[aB (if k<i then bit a k && bit b k else bit a k)]) hia
  have hg':(CI a.length fun k=>[aB (if k<i then bit a k && bit b k else bit a k)])[0+i]? = some [aB (bit a i)]:=by rw[AiG,hg];simp
  have hi':i<(CI a.length fun k=>[aB (if k<i then bit a k && bit b k else bit a k)]).length:=by simpa using hia
  rw[AM hlt,A3,Cl hi' q2,Af q2 hg' rfl,Ag]
  have hadd:∀ K:AV→Aa→Prop,∀ S,bin .add 0 (.v (.int .i64 (i:Int))) (.v (.int .i64 1)) S K=K (aI (i+1:Nat)) S:=fun K S=>Ar (by omega) (by omega) 0
  have step:∀(c:Bool) (S5:Aa),c=(bit a i && bit b i)→S5.n=S2.n→S5.obj id=some (.cells 4 ((CI a.length fun k=>[aB (if k<i then bit a k && bit b k else bit a k)]).set (0+i) [.v (.bool c)]) true)→(∀ x,x≠id→S5.obj x=S2.obj x)→
      KE 29 (Gn (.s id 0 (CI a.length fun k=>[aB (if k<i then bit a k && bit b k else bit a k)]).length) (aL aB b) (.v (.int .i64 b.length)) (aI (i+1:Nat))) S5:=by
   intro c S5 hc n5 o5 f5
   refine hKE _ _ ⟨k2.st hid n5 f5,i+1,rfl,hlt,.inr ⟨id,by simp,hid,by omega,?_⟩⟩ ?_
   ·rw[o5,AiG,Ft,hc]
    congr 2
    refine BX fun k hk=>?_
    by_cases e:k=i
    ·subst e;simp[aB]
    ·have:k<i+1↔k<i:=by omega
     simp[e,this]
   ·simp[Aw,aI];omega
  refine Al (fun hb=>?_) (fun hb=>?_)
  ·rw[Cl hi' q2]
   refine Cc q2 hg' rfl fun S5 n5 o5 f5=>?_
   rw[hadd]
   exact step b[i] S5 (by rw[hb,Bc hlt];rfl) n5 o5 f5
  ·rw[Cl hi' q2]
   refine Cc q2 hg' rfl fun S5 n5 o5 f5=>?_
   rw[hadd]
   exact step false S5 (by rw[hb];rfl) n5 o5 f5
 ·have hge:i=b.length:=by simp at h;omega
  subst hge
  refine⟨_,rfl,k2,?_⟩
  have e:((Bm a b).map fun b=>[aB b])=CI a.length fun k=>[aB (if k<b.length then bit a k && bit b k else bit a k)]:=by
   rw[Bm,ED]
   refine BX fun k hk=>?_
   have:k<b.length:=by omega
   simp[this]
  rw[e]
  exact o2
abbrev fdC(c:Ci)(m:Nat):List AV:=c.cells++(At c).cells ++ [.m m]
abbrev nM(c:Ci)(m:Nat):Bw:=.cells 82 [fdC c m] true
theorem nN(c:Ci)(m:Nat):(fdC c m).length=14:=rfl
theorem tZ{c:Ci}{m id:Nat}{S:Aa}{K:AV→Aa→Prop}(h:S.obj id=some (nM c m)):AA 5 (.p id 0 8) S K=K (At c).av S:=by
 simp[AA,XT,place,Aa.get,h,fdC,Ci.cells,Sp.cells,Sp.av]
theorem AfD{c:Ci}{m id:Nat}{S:Aa}{K:AV→Aa→Prop}(h:S.obj id=some (nM c m)):AA 8 (.p id 0 0) S K=K c.av S:=by
 simp[AA,XT,place,Aa.get,h,fdC,Ci.cells,Ci.av]
theorem x8{c:Ci}{m id t:Nat}{S:Aa}(h:S.obj id=some (nM c m))(hid:id<S.n)(ht:t<(At c).valid.length)(hl:(At c).valid.length≤1000000):
    Ad Pg 110 [.p id 0 0,aI t] S (fun r S'=>∃ x,r = .ret x∧Am S S'∧A4 S.n S' x 4 ((CR (At c).valid.length t).map fun b=>[aB b])):=by
 refine fE ?_
 dsimp only[AeS,Lf]
 rw[AH,Ac,Ac,Af h rfl rfl,Ay]
 refine Ll (by omega) (by omega) fun S1 k1 n1 o1=>?_
 rw[Cl ht o1,AiG]
 refine Cc o1 (u0:=.v (.bool false)) (by rw[List.getElem?_replicate,if_pos ht]) rfl fun S2 n2 o2 f2=>?_
 refine⟨_,rfl,k1.st (Ai4 _) n2 f2,.inr ⟨S.n,by simp,Ai4 _,by omega,?_⟩⟩
 rw[o2,OJ,Ft,CR,ED]
 congr 2
 refine BX fun k hk=>?_
 by_cases e:k=t
 ·rw[if_pos e,decide_eq_true e]
 ·rw[if_neg e,decide_eq_false e]
theorem VI{c:Ci}{m id t:Nat}{S:Aa}(h:S.obj id=some (nM c m))(hid:id<S.n)(ht:t<(At c).valid.length)(hl:(At c).valid.length≤1000000):AW Pg 110 [.p id 0 0,aI t] S (aL aB (CR (At c).valid.length t)):=
 Dy (f:=fun b=>.bool b) (x8 h hid ht hl)
abbrev Nt(n:Int):AV:=.v (.int .u64 n)
def lV:List Nat:=[1,2,4,8,16,32,64,128,256,512,1024]
theorem El{op:BinOp}{kd:Nat}{a b r:Value}{S:Aa}{K:AV→Aa→Prop}(h:b2 op kd a b=some r):bin op kd (.v a) (.v b) S K=K (.v r) S:=by
 show BK (b2 op kd a b) _=_
 rw[h,BO]
theorem zR{n:Nat}(hn:n∈lV):BH Pg 183 [Nt 1,Nt n] (.t [Nt 0,Nt n]):=by
 intro S
 refine cM ?_
 unfold AcY
 have hx:b2 .and 0 (.int .u64 n) (.int .u64 4294967295)=some (.int .u64 n)∧b2 .shr 0 (.int .u64 n) (.int .u64 32)=some (.int .u64 0)∧b2 .mul 0 (.int .u64 1) (.int .u64 n)=some (.int .u64 n)∧b2 .mul 0 (.int .u64 0) (.int .u64 n)=some (.int .u64 0):=by
  simp only[lV,AiO,AiT,or_false]at hn
  rcases hn with rfl|rfl|rfl|rfl|rfl|rfl|rfl|rfl|rfl|rfl|rfl<;>exact⟨rfl,rfl,rfl,rfl⟩
 obtain⟨h1,h2,h3,h4⟩:=hx
 rw[El (r:=.int .u64 1) rfl,El (r:=.int .u64 0) rfl,El h1,El h2,El h3,El h4,El h2,El (r:=.int .u64 0) rfl,El (r:=.int .u64 0) rfl,El (r:=.int .u64 0) rfl,El (r:=.int .u64 0) rfl,El (r:=.int .u64 0) rfl,El (r:=.int .u64 0) rfl,El (r:=.int .u64 0) rfl,El (r:=.int .u64 0) rfl,El (r:=.int .u64 0) rfl,El h3]
 exact⟨rfl,rfl⟩
theorem zX{n:Nat}(hn:n∈lV):BH Pg 160 [Nt 1,Nt n] (.t [Nt 0,Nt n]):=by
 intro S
 refine dJ ?_
 unfold AdJ
 refine Ae (zR hn) ?_
 rw[B2,BV]
 exact⟨rfl,rfl⟩
theorem x7{n:Nat}(hn:n∈lV)(S:Aa):Ad Pg 141 [aL aI [-1],aI n] S (fun r S'=>∃ x,r = .ret x∧Am S S'∧A4 S.n S' x 3 (List.replicate n [aI (-1)])):=by
 refine eB ?_
 dsimp only[Ae0,Tc,Fi]
 have hb:1≤n∧n≤1024:=by
  simp only[lV,AiO,AiT,or_false]at hn
  omega
 have hw:IntKind.u64.wrap (n:Int)=n∧IntKind.i64.wrap (n:Int)=n:=by
  simp only[lV,AiO,AiT,or_false]at hn
  rcases hn with rfl|rfl|rfl|rfl|rfl|rfl|rfl|rfl|rfl|rfl|rfl<;>exact⟨rfl,rfl⟩
 rw[As,Ag,decide_eq_false (by omega),AZ,Ay]
 rw[show ∀ K:AV→Aa→Prop,Cf .u64 (.v (.int .i64 (([-1]:List Int).length:Nat))) S K=K (Nt 1) S from fun K=>rfl,show ∀ K:AV→Aa→Prop,Cf .u64 (aI n) S K=K (Nt n) S from fun K=>by show K (.v (.int .u64 (IntKind.u64.wrap (n:Int)))) S=_;rw[hw.1]]
 refine Ae (zX hn) ?_
 rw[B2,BV,AP,Ag,decide_eq_false (by omega),AZ,AP,Ag,decide_eq_false (by omega),AZ]
 rw[show ∀ K:AV→Aa→Prop,Cf .i64 (Nt n) S K=K (aI n) S from fun K=>by show K (.v (.int .i64 (IntKind.i64.wrap (n:Int)))) S=_;rw[hw.2]]
 refine Ll (by omega) (by omega) fun S1 k1 n1 o1=>?_
 have row:∀ j,j≤n→(List.replicate j [aI (-1)]++List.replicate (n - j) [aI 0]).length=n:=fun j hj=>by simp;omega
 have cp:∀{T:Aa} {j k:Nat} {y:AV} {ys:List (List AV)} {K:AV→Aa→Prop},j≤n→T.obj S.n=some (.cells 3 (List.replicate j [aI (-1)]++List.replicate (n - j) [aI 0]) true)→Ja T y=some ys→(∀ c∈ys,c = [aI (-1)])→k=min ys.length (n - j)→
     (∀ T',T'.n=T.n→T'.obj S.n=some (.cells 3 (List.replicate (j+k) [aI (-1)]++List.replicate (n - (j+k)) [aI 0]) true)→(∀ x,x≠S.n→T'.obj x=T.obj x)→K (aI k) T')→oD 3 (.s S.n j (n - j)) y T K:=fun{T j k y ys K} hj ho hy hys hk kk=>by
  refine⟨ys,hy,fun c hc=>by rw[hys c hc];rfl,?_⟩
  unfold yV
  simp only[ho]
  refine⟨⟨trivial,by rw[row j hj];omega⟩,?_⟩
  rw[←hk]
  refine kk _ rfl ?_ fun x hx=>Da hx
  rw[BI]
  have hkl:k≤ys.length∧k≤n - j:=by omega
  have e1:ys.take k=List.replicate k [aI (-1)]:=by
   refine List.eq_replicate_iff.2 ⟨by rw[AiW];omega,fun c hc=>hys c (List.mem_of_mem_take hc)⟩
  have e2:(List.replicate j [aI (-1)]++List.replicate (n - j) [aI 0]).take j=List.replicate j [aI (-1)]:=by
   rw[List.take_append_of_le_length (by simp),AiV (by simp)]
  have e3:(List.replicate j [aI (-1)]++List.replicate (n - j) [aI 0]).drop (j+k)=List.replicate (n - (j+k)) [aI 0]:=by
   rw[List.drop_append,List.drop_of_length_le (by simp),List.nil_append,List.length_replicate,List.drop_replicate]
   congr 1;omega
  rw[e1,e2,e3,List.replicate_append_replicate]
 have o1':S1.obj S.n=some (.cells 3 (List.replicate 0 [aI (-1)]++List.replicate (n - 0) [aI 0]) true):=o1
 refine cp (j:=0) (k:=1) (Ai9 _) o1' (ys:=[[aI (-1)]]) rfl (by simp) (by simp;omega) fun S2 n2 o2 f2=>?_
 refine WV (fun y T=>Am S T∧S.n<T.n∧∃ j:Nat,y=aI j∧1≤j∧j≤n∧T.obj S.n=some (.cells 3 (List.replicate j [aI (-1)]++List.replicate (n - j) [aI 0]) true)) (fun y _=>n - ((Aw y).getD 0).toNat) ⟨k1.st (Ai4 _) n2 f2,by omega,1,rfl,Ai4 _,by omega,by rw[AiG]at o2;exact o2⟩ ?_
 dsimp only[BS]
 rintro _ T ⟨kT,hT,j,rfl,hj1,hj,oT⟩ KE hKE
 dsimp only[hJ,Fi,Lt]
 rw[Dv,As,Ag]
 refine Al (fun hlt=>?_) (fun hge=>?_)
 ·have hlt:j<n:=by have:=dT hlt;omega
  have sl1:∀(U:Aa) (hU:Am T U) (K:AV→Aa→Prop),K (.s S.n j (n - j)) U→IJ 3 1 (.s S.n 0 n) (some (aI j)) none none U K:=fun U hU K k=>by
   have e1:((n:Int) - j).toNat=n - j:=by omega
   simp[IJ,LD,Aw,BK,e1]
   refine⟨by omega,.inr ?_,k⟩
   simp[Aa.ty,(hU.2 _ hT).trans oT]
  have sl2:∀(U:Aa) (K:AV→Aa→Prop),K (.s S.n 0 j) U→IJ 3 1 (.s S.n 0 n) none (some (aI j)) none U K:=fun U K k=>by
   simp[IJ,LD,Aw,BK]
   exact⟨by omega,k⟩
  refine⟨_,fun U hU=>sl1 U hU _ ⟨rfl,rfl⟩,_,fun U hU=>sl2 U _ ⟨rfl,rfl⟩,?_⟩
  refine cp (k:=min j (n - j)) hj oT (ys:=List.replicate j [aI (-1)]) ?_ (fun c hc=>List.eq_of_mem_replicate hc) (by simp) fun T2 n2 o2 f2=>?_
  ·simp only[Ja,oT,row j hj]
   rw[if_pos (by omega),List.drop_zero,List.take_append_of_le_length (by simp),AiV (by simp)]
  refine⟨_,fun U hU=>by rw[Ar (by omega) (by omega)];exact⟨rfl,rfl⟩,?_⟩
  exact hKE _ _ ⟨kT.st (Ai4 _) n2 f2,by omega,j+min j (n - j),by simp,by omega,by omega,o2⟩ (by simp[Aw];omega)
 ·have hge:j=n:=by have:=dF hge;omega
  subst hge
  refine⟨_,rfl,kT,.inr ⟨S.n,by simp,Ai4 _,hT,?_⟩⟩
  rw[oT,Nat.sub_self];simp
set_option linter.unusedSectionVars false
abbrev nR(r:List Nat):List (List AV):=r.map fun i:Nat=>[aI (i:Int)]
theorem SR{r:List Nat}{i:Nat}(h:i<r.length):(nR r)[i]? = some [aI (gN r i)]:=by
 rw[AiH,Ai3 h]
 unfold gN
 rw[Ai2,Ai3 h]
 rfl
theorem YI(r:List Nat):nR r=CI r.length fun k=>[aI (gN r k:Int)]:=by
 apply List.ext_getElem?
 intro k
 by_cases h:k<r.length
 ·rw[SR h,BR h]
 ·rw[AiZ (by simpa using h),AiZ (by simpa using h)]
theorem ID{e:Nat}{z u:AV}{S:Aa}{K:AV→Aa→Prop}(hu:u.one=true)(hA:∀ cs,u≠.a cs)(k:∀ S',Am S S'→S'.n=S.n+1→S'.obj S.n=some (.cells e [[u]] true)→K (.s S.n 0 1) S'):AU e 1 1 [z] [(0,u)] S K:=by
 refine⟨[u],?_,.inl ?_⟩
 ·have:cellsOf u=some [u]:=by cases u<;>first|rfl|(simp[AV.one]at hu;simp[cellsOf,AV.one,hu];done)|(simp[AV.one]at hu)|(simp[cellsOf,hu])
  simp[Cu,this,Jw]
 ·have:=k (S.new (.cells e [[u]] true)) ((Am.refl S).new _) rfl (B0 _)
  simpa[chunks]using this
theorem xU{S:Aa}{id:Nat}{r:List Nat}(hr:r.length≤1000000)(ho:S.obj id=some (.cells 3 (nR r) true))(hid:id<S.n){Q:Bg→Aa→Prop}{K:AV→Aa→Prop}
    (k:∀ S',S'.n=S.n→S'.obj id=some (.cells 3 (nR r.reverse) true)→(∀ x,x≠id→S'.obj x=S.obj x)→K (.t []) S'):Ah Pg 161 [.s id 0 r.length] S Q K:=by
 refine .inl (Ad.mono (Q:=fun e S'=>e = .ret (.t [])∧S'.n=S.n∧S'.obj id=some (.cells 3 (nR r.reverse) true)∧∀ x,x≠id→S'.obj x=S.obj x) (dH ?_) fun e S' ⟨he,h1,h2,h3⟩=>by subst he;exact k S' h1 h2 h3)
 unfold AdI
 have hf:nR r.reverse=CI r.length fun k=>[aI (gN r (r.length - 1 - k):Int)]:=by
  rw[YI,List.length_reverse]
  refine BX fun k hk=>?_
  unfold gN
  rw[Ai2,Ai2,List.getElem?_reverse hk]
 let g:Nat→Nat→List AV:=fun i k=>[aI (gN r (if k<i∨r.length<i+k+1 then r.length - 1 - k else k):Int)]
 rw[Dv,Bz (by omega) (by omega)]
 refine WL (fun y z T=>T.n=S.n∧(∀ x,x≠id→T.obj x=S.obj x)∧∃ i:Nat,y=aI i∧z=aI ((r.length:Int) - 1 - i)∧2*i≤r.length+1∧T.obj id=some (.cells 3 (CI r.length (g i)) true)) (fun y _ _=>r.length - ((Aw y).getD 0).toNat) ⟨rfl,fun _ _=>rfl,0,rfl,by simp,by omega,by
  rw[ho,YI]
  congr 2
  refine BX fun k hk=>?_
  show _ = [aI _]
  rw[if_neg (by omega)]⟩ ?_
 dsimp only[DE]
 rintro _ _ T ⟨hn,hx,i,rfl,rfl,hi,oT⟩ KE hKE
 dsimp only[gO,Fi,Lt]
 rw[As,Ag]
 refine Al (fun hlt=>?_) (fun hge=>?_)
 ·have hlt:=dT hlt
  obtain⟨j,hj⟩:∃ j:Nat,(r.length:Int) - 1 - i=j:=⟨r.length - 1 - i,by omega⟩
  rw[hj]
  have hji:i<j∧j=r.length - 1 - i∧j<r.length:=by omega
  have lt_:∀{q:Nat},q<r.length→∀{U:Aa} {f:Nat→List AV} {K:AV→Aa→Prop},U.obj id=some (.cells 3 (CI r.length f) true)→AR 3 1 (.s id 0 r.length) (aI q) U K=K (.p id q 0) U:=fun{q} hq {U f K} h=>by rw[Cl hq h,AiG]
  have AS:∀{U:Aa},Am T U→U.obj id=some (.cells 3 (CI r.length (g i)) true):=fun hU=>(Kg hU oT)
  have gi:g i i = [aI (gN r i:Int)]:=by show[aI _]=_;rw[if_neg (by omega)]
  have gj:g i j = [aI (gN r j:Int)]:=by show[aI _]=_;rw[if_neg (by omega)]
  refine⟨_,fun U hU=>by rw[lt_ hji.2.2 (AS hU)];exact⟨rfl,rfl⟩,?_⟩
  refine⟨_,fun U hU=>by rw[Af (AS hU) ((BR hji.2.2).trans (congrArg some gj)) rfl];exact⟨rfl,rfl⟩,?_⟩
  refine⟨_,fun U hU=>by rw[lt_ (show i<r.length by omega) (AS hU)];exact⟨rfl,rfl⟩,?_⟩
  refine⟨_,fun U hU=>by rw[Af (AS hU) ((BR (show i<r.length by omega)).trans (congrArg some gi)) rfl];exact⟨rfl,rfl⟩,?_⟩
  refine⟨_,fun U hU=>by rw[lt_ (show i<r.length by omega) (AS hU)];exact⟨rfl,rfl⟩,?_⟩
  refine Cc oT ((BR (show i<r.length by omega)).trans (congrArg some gi)) rfl fun T1 n1 o1 f1=>?_
  rw[Ft]at o1
  refine⟨_,fun U hU=>by rw[lt_ hji.2.2 (Kg hU o1)];exact⟨rfl,rfl⟩,?_⟩
  refine Cc o1 (u0:=aI (gN r j:Int)) ((BR hji.2.2).trans (by rw[if_neg (show ¬ j=i by omega),gj])) rfl fun T2 n2 o2 f2=>?_
  rw[Ft]at o2
  rw[Ar (by omega) (by omega),Bz (by omega) (by omega)]
  refine hKE _ _ _ ⟨by omega,fun x hne=>(f2 x hne).trans ((f1 x hne).trans (hx x hne)),i+1,rfl,by rw[show(j:Int) - 1=(r.length:Int) - 1 - ((i+1:Nat):Int)by omega],by omega,?_⟩ (by simp[Aw];omega)
  rw[o2]
  congr 2
  refine BX fun k hk=>?_
  show _ = [aI _]
  by_cases e1:k=j
  ·subst e1
   rw[if_pos rfl,if_pos (by omega)]
   congr 4;omega
  ·rw[if_neg e1]
   by_cases e2:k=i
   ·subst e2
    rw[if_pos rfl,if_pos (by omega)]
    congr 4;omega
   ·rw[if_neg e2]
    show[aI _]=_
    by_cases e3:k<i∨r.length<i+k+1
    ·rw[if_pos e3,if_pos (by omega)]
    ·rw[if_neg e3,if_neg (by omega)]
 ·have hge:=dF hge
  refine⟨rfl,hn,?_,hx⟩
  rw[oT,hf]
  congr 2
  refine BX fun k hk=>?_
  show[aI _]=_
  by_cases e3:k<i∨r.length<i+k+1
  ·rw[if_pos e3]
  ·rw[if_neg e3]
   congr 4;omega
structure Bk (a:List Int) (r:List Nat):Prop where
 pos:r≠[]
 at_:∀ i,i+1<r.length→a[gN r (i+1)]? = some (gN r i:Int)∧gN r (i+1)≠gN r 0
theorem x6{S:Aa}{ida:Nat}{a:List Int}(ho:S.obj ida=some (.cells 3 (a.map fun x=>[aI x]) true))(hida:ida<S.n){r:List Nat}(hb:Bk a r)(hr:r.length≤1000000):
    Ad Pg 142 [.s ida 0 a.length,aI (gN r 0),aI (Br r)] S (fun e S'=>∃ x,e = .ret x∧Am S S'∧A4 S.n S' x 3 (nR r)):=by
 refine eA ?_
 unfold AdZ
 have hpos:=AiM.2 hb.pos
 refine ID rfl (fun _ h=>by cases h) fun S1 k1 n1 o1=>?_
 refine WU (fun y z T=>Am S T∧∃ k:Nat,y=aI (gN r k)∧k<r.length∧A4 S.n T z 3 (nR (r.drop k).reverse)) (fun y z _=>match z with|.s _ _ n=>r.length - n|_=>0) ⟨k1,r.length - 1,rfl,by omega,.inr ⟨S.n,?_,Ai4 _,by omega,?_⟩⟩ ?_
 ·rw[Ai8,List.length_reverse,List.length_drop,show r.length - (r.length - 1)=1 by omega]
 ·rw[o1]
  congr 2
  have e:r.drop (r.length - 1) = [Br r]:=by
   rw[AjH (by omega),show r.length - 1+1=r.length by omega,List.drop_length]
   unfold Br gN
   rw[Ai2,Ai3 (by omega)];rfl
  rw[e];rfl
 rintro _ z T ⟨kT,k,rfl,hk,wT⟩ KE hKE
 dsimp only[hG,Fi]
 rw[Bi,Ag]
 refine Al (fun hne=>?_) (fun heq=>?_)
 ·have hk0:0<k:=by
    rcases Nat.eq_zero_or_pos k with e|e
    ·subst e;simp at hne
    ·exact e
  obtain⟨i,rfl⟩:∃ i,k=i+1:=⟨k - 1,by omega⟩
  obtain⟨h1,h2⟩:=hb.at_ i hk
  have hlt:=(List.getElem?_eq_some_iff.1 h1).1
  have oT:=(kT.2 _ hida).trans ho
  rw[Cl hlt oT,AiG,Af oT (by rw[AiH,h1];rfl) rfl]
  refine BQ rfl (fun _ h=>by cases h) ?_
  have hlen:(nR (r.drop (i+1)).reverse).length≤1000000:=by rw[Ai8,List.length_reverse,List.length_drop];omega
  refine wT.app (b:=8) (c:=[aI (gN r i:Int)]) kT.1 rfl (by omega) (fun z' T' w' b' hz'=>?_) rfl
  obtain⟨m',hz'⟩:=hz'
  have er:nR (r.drop (i+1)).reverse ++ [[aI (gN r i:Int)]]=nR (r.drop i).reverse:=by
   have e:r.drop i=gN r i :: r.drop (i+1):=by
    rw[AjH (by omega)]
    unfold gN
    rw[Ai2,Ai3 (by omega)];rfl
   rw[e,List.reverse_cons]
   simp[nR]
  rw[er]at w'
  refine hKE _ _ _ ⟨wT.AS (Ai4 _) b' kT,i,rfl,by omega,w'⟩ ?_
  have l1:∀{q:AV} {U:Aa} {q':Nat},A4 S.n U q 3 (nR (r.drop q').reverse)→q'<r.length→∃ d,q = .s d 0 (r.length - q'):=fun{q U q'} h hq=>by
   rcases h with⟨_,he⟩|⟨d,h1,_⟩
   ·have:=congrArg List.length he
    simp at this
    omega
   ·exact⟨d,by rw[h1,Ai8,List.length_reverse,List.length_drop]⟩
  obtain⟨d1,rfl⟩:=l1 wT hk
  obtain⟨d2,rfl⟩:=l1 w' (by omega)
  show r.length - (r.length - i)<r.length - (r.length - (i+1))
  omega
 ·have hk0:k=0:=by
    have he:(gN r k:Int)=gN r 0:=by simpa using heq
    rcases Nat.eq_zero_or_pos k with e|e
    ·exact e
    ·obtain⟨i,rfl⟩:∃ i,k=i+1:=⟨k - 1,by omega⟩
     exact absurd (by omega) (hb.at_ i hk).2
  subst hk0
  rw[List.drop_zero]at wT
  rcases wT with⟨_,he⟩|⟨d,rfl,h1,h2,h3⟩
  ·have:=congrArg List.length he
   simp at this
   exact absurd this hb.pos
  ·rw[Ai8]
   refine xU (r:=r.reverse) (by rw[List.length_reverse];exact hr) h3 h2 fun S' n' o' f'=>?_
   rw[List.reverse_reverse]at o'
   exact⟨_,rfl,kT.st h1 n' f',.inr ⟨d,by rw[Ai8,List.length_reverse],h1,by omega,o'⟩⟩
set_option linter.unusedSectionVars false
def Can(s:Sp)(p q:List Bool)(a least:Nat):Prop:=(least=0∧Rc s p q a)∨(bit p a=true∧∃ k:Nat,(k:Int)∈nx s a∧Rc s p q k)
structure XS (s:Sp) (p:List Bool) (a N:Nat) (al:List Int) (ql:List Nat):Prop where
 ll:al.length=N
 nd:ql.Nodup
 lt:∀ t∈ql,t<N
 ha:a∈ql
 am:∀ t,t<N→t≠a→(0≤al.getD t 0↔t∈ql)
 path:∀ t∈ql,∃ r,Bk al r∧C9 s p a r∧Br r=t∧r.length≤ql.length∧∀ i,i<r.length→gN r i∈ql
theorem XS.len{s:Sp}{p:List Bool}{a N:Nat}{al:List Int}{ql:List Nat}(h:XS s p a N al ql):ql.length≤N:=MD N ql h.nd h.lt
theorem XS.start{s:Sp}{p:List Bool}{a N:Nat}(ha:a<N):XS s p a N (List.replicate N (-1)) [a] where
 ll:=by simp
 nd:=by simp
 lt t h:=by rw[AiA.1 h];exact ha
 ha:=by simp
 am t h hne:=by
  rw[Ai2,List.getElem?_replicate,if_pos h]
  constructor
  ·intro h;exact absurd h (by decide)
  ·intro h;exact absurd (AiA.1 h) hne
 path t h:=by
  rw[AiA.1 h]
  exact⟨[a],⟨by simp,fun i h=>by simp at h⟩,C9.one s p a,rfl,Ai4 _,fun i h=>by
   have:i=0:=by simpa using h
   subst this;exact AiA.2 rfl⟩
theorem XS.add{s:Sp}{p:List Bool}{a N:Nat}{al:List Int}{ql:List Nat}(h:XS s p a N al ql){u t:Nat}(hu:u∈ql)(hp:bit p u=true)(ht:(t:Int)∈nx s u)(htN:t<N)(hta:t≠a)(htq:t∉ql):XS s p a N (al.set t u) (ql ++ [t]) where
 ll:=by rw[List.length_set];exact h.ll
 nd:=by
  rw[AjI]
  refine⟨h.nd,by simp,fun x hx y hy=>?_⟩
  rw[AiA.1 hy]
  rintro rfl
  exact htq hx
 lt x hx:=by
  rcases AiQ.1 hx with hx|hx
  ·exact h.lt x hx
  ·rw[AiA.1 hx];exact htN
 ha:=Aj6 _ h.ha
 am x hx hne:=by
  have hl:=h.ll
  rw[Ai2,List.getElem?_set]
  by_cases e:t=x
  ·subst e
   rw[if_pos rfl,if_pos (by omega)]
   simp
  ·rw[if_neg e,←Ai2,h.am x hx hne,AiQ,AiA]
   constructor
   ·exact .inl
   ·rintro(h|h)
    ·exact h
    ·exact absurd h.symm e
 path x hx:=by
  have Eo:∀ r,Bk al r→(∀ i,i<r.length→gN r i∈ql)→Bk (al.set t u) r:=fun r hb hm=>⟨hb.pos,fun i hi=>by
   obtain⟨h1,h2⟩:=hb.at_ i hi
   refine⟨?_,h2⟩
   rw[List.getElem?_set,if_neg (fun e=>htq (by rw[e];exact hm _ hi))]
   exact h1⟩
  rcases AiQ.1 hx with hx|hx
  ·obtain⟨r,h1,h2,h3,h4,h5⟩:=h.path x hx
   exact⟨r,Eo r h1 h5,h2,h3,by rw[AiK];omega,fun i hi=>Aj6 _ (h5 i hi)⟩
  ·rw[AiA.1 hx]
   obtain⟨r,h1,h2,h3,h4,h5⟩:=h.path u hu
   have hb:=Eo r h1 h5
   have hl:=h.ll
   have hr:=AiM.2 h2.pos
   refine⟨r ++ [t],⟨by simp,fun i hi=>?_⟩,h2.snoc (by rw[h3];exact hp) (by rw[h3];exact ht),KV (by simp),by simp;omega,fun i hi=>?_⟩
   ·rw[AiK,Aj1]at hi
    rw[DL,DL,DL,if_pos (show i<r.length by omega),if_pos hr]
    by_cases e:i+1<r.length
    ·rw[if_pos e];exact hb.at_ i e
    ·have e2:i+1=r.length:=by omega
     rw[if_neg e,e2,Nat.sub_self]
     show(al.set t u)[t]? = _∧t≠_
     have e3:gN r i=u:=by rw[←h3];unfold Br;congr 1;omega
     rw[List.getElem?_set,if_pos rfl,if_pos (by omega),e3,h2.fst]
     exact⟨rfl,hta⟩
   ·rw[AiK,Aj1]at hi
    rw[DL]
    split
    ·rename_i hlt;exact Aj6 _ (h5 i hlt)
    ·have:i - r.length=0:=by omega
     rw[this];exact List.mem_append_right _ (AiA.2 rfl)
theorem XS.yW{s:Sp}{p q:List Bool}{a N least:Nat}{al:List Int}{ql:List Nat}(h:XS s p a N al ql)(hz:least=0→bit q a=false)(hall:∀ u∈ql,bit p u=true→∀ t:Nat,(t:Int)∈nx s u→t∈ql∧bit q t=false):¬ Can s p q a least:=by
 have key:∀ u,Rc s p q u→u∈ql→bit q u=false→False:=fun u hr=>by
  induction hr with
  |base i h1=>intro _ h2;rw[h1]at h2;cases h2
  |step i k h1 h3 hr ih =>
   intro hi _
   obtain⟨h4,h5⟩:=hall i hi h1 k h3
   exact ih h4 h5
 rintro(⟨h0,hr⟩|⟨hp,k,hk,hr⟩)
 ·exact key a hr h.ha (hz h0)
 ·obtain⟨h4,h5⟩:=hall a h.ha hp k hk
  exact key k hr h4 h5
theorem xY{k:Nat}(h:k≤10):2 ^ k∈lV:=by
 have:k=0∨k=1∨k=2∨k=3∨k=4∨k=5∨k=6∨k=7∨k=8∨k=9∨k=10:=by omega
 rcases this with rfl|rfl|rfl|rfl|rfl|rfl|rfl|rfl|rfl|rfl|rfl<;>decide
theorem w_N{c:Ci}(hc:Wc c):(At c).valid.length∈lV∧1≤(At c).valid.length∧(At c).valid.length≤1024:=by
 have e:(At c).valid.length=2 ^ c.gr.inputs.toNat:=by simp[At,AB]
 have h10:=hc.h10
 have:=xY (k:=c.gr.inputs.toNat) (by omega)
 rw[←e]at this
 refine⟨this,?_⟩
 simp only[lV,AiO,AiT,or_false]at this
 omega
theorem Yx{c:Ci}(hc:Wc c){m id:Nat}{S:Aa}(h:S.obj id=some (nM c m))(hid:id<S.n){a:Nat}{p q:List Bool}{least:Nat}(hle:least≤1)(ha:a<(At c).valid.length)(hp:p.length=(At c).valid.length)(hq:q.length=(At c).valid.length):
    Ad Pg 109 [.p id 0 0,aI a,aL aB p,aL aB q,aI least] S (fun e S'=>∃ x,e = .ret x∧Am S S'∧((x = .nl∧¬ Can (At c) p q a least)∨∃ r,A4 S.n S' x 3 (nR r)∧Wy (At c) p q a least r)):=by
 refine fG ?_
 dsimp only[AeT,Td,Fi]
 obtain⟨hN,hN1,hN2⟩:=w_N hc
 have hsp:=hc.sp
 have hnl:=hsp.next
 have haq:a<q.length:=by omega
 rw[AD,Ag]
 refine Al (fun h0=>?_) (fun h0=>?_)
 rw[AM haq,A3,Ag]
 refine Al (fun hqa=>?_) (fun hqa=>?_)
 ·have h0:least=0:=by have:=dT h0;omega
  refine ID rfl (fun _ h=>by cases h) fun S1 k1 n1 o1=>?_
  exact⟨_,rfl,k1,.inr ⟨[a],.inr ⟨S.n,rfl,Ai4 _,by omega,o1⟩,C9.one _ _ _,by rw[←Bc haq]at hqa;exact hqa,by simp;omega,by simp⟩⟩
 have hz:least=0→bit q a=false:=fun _=>by rw[Bc haq];exact hqa
 rotate_left
 have hz:least=0→bit q a=false:=fun e=>by subst e;simp at h0
 all_goals
  refine BQ rfl (fun _ h=>by cases h) ?_
  rw[Ay,hp]
  refine .inl ((x7 hN _).mono ?_)
  rintro e S1 ⟨x,rfl,k1,w1⟩
  show AU _ _ _ _ _ _ _
  obtain⟨ida,rfl,ida1,ida2,oa⟩:=w1.ix (i:=0) (by simp;omega)
  rw[List.length_replicate]at *
  refine ID rfl (fun _ h=>by cases h) fun S2 k2 n2 o2=>?_
  refine Xc (fun y z T=>∃(n:Nat) (al:List Int) (ql:List Nat),z=aI n∧n≤ql.length∧Am S T∧ida<T.n∧T.obj ida=some (.cells 3 (al.map fun x=>[aI x]) true)∧A4 S.n T y 3 (nR ql)∧(∀ b m,y≠.s ida b m)∧XS (At c) p a (At c).valid.length al ql∧
   ∀ i,i<n→bit p (gN ql i)=true→∀ t:Nat,(t:Int)∈nx (At c) (gN ql i)→t∈ql∧bit q t=false)
   (fun _ z _=>2000 - ((Aw z).getD 0).toNat) ⟨0,List.replicate (At c).valid.length (-1),[a],rfl,by simp,k1.trans k2,by have:=k2.1;omega,by rw[(k2.2 _ ida2).trans oa];simp,.inr ⟨S1.n,rfl,k1.1,by omega,o2⟩,fun b m e=>by cases e;omega,XS.start ha,fun i hi=>absurd hi (AiF _)⟩ ?_
  dsimp only[DE]
  rintro y z T ⟨n,al,ql,rfl,hn,kT,idT,oaT,wq,apq,bf,hall⟩ KE hKE
  dsimp only[iT,Fi,Lf]
  have hql:=bf.len
  have hal:=bf.ll
  rw[wq.len,Ai8,As,Ag]
  refine Al (fun hlt=>?_) (fun hge=>?_)
  ·have hlt:n<ql.length:=by have:=dT hlt;omega
   obtain⟨idq,rfl,idq1,idq2,oq⟩:=wq.ix (i:=n) (by simpa using hlt)
   rw[Cl (by simpa using hlt) oq,AiG,Af oq (SR hlt) rfl]
   have hum:gN ql n∈ql:=by unfold gN;rw[Ai2,Ai3 hlt];exact Ai6 hlt
   have hu:=bf.lt _ hum
   obtain⟨u,hud⟩:∃ u,u=gN ql n:=⟨_,rfl⟩
   rw[←hud]at hum hu ⊢
   have hup:u<p.length:=by omega
   rw[AM hup,A3,AI,Ag]
   refine Al (fun hb=>?_) (fun hb=>?_)
   ·rw[Ar (by omega) (by omega)]
    refine hKE _ _ _ ⟨n+1,al,ql,rfl,hlt,kT,idT,oaT,wq,apq,bf,fun i hi hpi t ht=>?_⟩ (by simp[Aw];omega)
    by_cases e:i=n
    ·subst e
     rw[←hud,Bc hup]at hpi
     rw[hpi]at hb
     cases hb
    ·exact hall i (by omega) hpi t ht
   have hpu:bit p u=true:=by rw[Bc hup];simpa using hb
   have hT:=(kT.2 _ hid).trans h
   have hun:u<(At c).next.length:=by omega
   have hrow:=ES hun
   have hrng:=OW hsp u
   have hlr:((At c).next)[u].length≤1024:=hsp.small.h4 _ (Ai6 hun)
   rw[AH,Ac,Ac,Af hT rfl rfl,AM hun,A3,Ay]
   obtain⟨row,hrw⟩:∃ row,row=((At c).next)[u]:=⟨_,rfl⟩
   rw[←hrw]at hlr hrow ⊢
   refine Xb (fun y w T=>∃(k:Nat) (al:List Int) (ql:List Nat),w=aI k∧k≤row.length∧n<ql.length∧gN ql n=u∧u∈ql∧Am S T∧ida<T.n∧T.obj ida=some (.cells 3 (al.map fun x=>[aI x]) true)∧A4 S.n T y 3 (nR ql)∧(∀ b m,y≠.s ida b m)∧XS (At c) p a (At c).valid.length al ql∧
    (∀ i,i<n→bit p (gN ql i)=true→∀ t:Nat,(t:Int)∈nx (At c) (gN ql i)→t∈ql∧bit q t=false)∧∀ i (hi:i<row.length),i<k→row[i].toNat∈ql∧bit q row[i].toNat=false)
    (fun _ w _=>2000 - ((Aw w).getD 0).toNat) ⟨0,al,ql,rfl,Ai9 _,hlt,hud.symm,hum,kT,idT,oaT,wq,apq,bf,hall,fun i _ hi=>absurd hi (AiF _)⟩ ?_
   dsimp only[DE]
   rintro y w T ⟨k,al,ql,rfl,hk,hlt,hud,hum,kT,idT,oaT,wq,apq,bf,hall,hdone⟩ KE1 hKE1
   dsimp only[iS,Fi]
   have hql:=bf.len
   have hal:=bf.ll
   rw[As,Ag]
   refine Al (fun hkl=>?_) (fun hkl=>?_)
   ·have hkl:k<row.length:=by have:=dT hkl;omega
    have hmem:row[k]∈nx (At c) u:=by rw[hrow];exact Ai6 hkl
    obtain⟨t0,t1⟩:=hrng _ hmem
    obtain⟨t,ht⟩:=AiE t0
    have hrt:row[k].toNat=t:=by omega
    have htN:t<(At c).valid.length:=by omega
    have htq:t<q.length:=by omega
    rw[ht]at hmem
    rw[AM hkl,A3,ht,AM htq,A3,Ag]
    refine Al (fun hqt=>?_) (fun hqt=>?_)
    ·obtain⟨r,h1,h2,h3,h4,h5⟩:=bf.path u hum
     refine .inl ((?_:Ad Pg 142 [.s ida 0 (At c).valid.length,aI a,aI u] T (fun e S'=>∃ x,e = .ret x∧Am T S'∧A4 T.n S' x 3 (nR r))).mono ?_)
     ·have:=x6 oaT idT h1 (by omega)
      rw[h2.fst,h3,hal]at this
      exact this
     rintro e T1 ⟨x,rfl,kT1,wx⟩
     show AU _ _ _ _ _ _ _
     refine BQ rfl (fun _ h=>by cases h) ?_
     refine wx.app (b:=8) (c:=[aI (t:Int)]) kT1.1 rfl (by rw[Ai8];omega) (fun x' T2 w2 b2 hx2=>?_) rfl
     have hch:=h2.snoc (by rw[h3];exact hpu) (by rw[h3];exact hmem)
     have er:nR r ++ [[aI (t:Int)]]=nR (r ++ [t]):=by simp[nR]
     rw[er]at w2
     have hrp:=AiM.2 h2.pos
     refine⟨_,rfl,kT.trans (wx.AS (Ai4 _) b2 kT1),.inr ⟨r ++ [t],w2.low kT.1,hch,by rw[KV (by simp)];rw[←Bc htq]at hqt;exact hqt,?_,by simp;omega⟩⟩
     rw[AiK,Aj1]
     have hl1:least≤1:=hle
     omega
    ·have hqt:bit q t=false:=by rw[Bc htq];exact hqt
     have next:∀(al':List Int) (ql':List Nat) (y':AV) (T':Aa),(∀ x,x∈ql→x∈ql')→(∀ i,i<ql.length→gN ql' i=gN ql i)→ql.length≤ql'.length→t∈ql'→Am S T'→ida<T'.n→T'.obj ida=some (.cells 3 (al'.map fun x=>[aI x]) true)→A4 S.n T' y' 3 (nR ql')→(∀ b m,y'≠.s ida b m)→XS (At c) p a (At c).valid.length al' ql'→
         bin .add 0 (aI k) (.v (.int .i64 1)) T' fun v T'=>KE1 91 (Ej (.p id 0 0) (aI a) (aL aB p) (aL aB q) (.s ida 0 (At c).valid.length) y' (aI n) (aI u) (aL aI row) (aI row.length) v) T':=fun al' ql' y' T' g1 g2 g3 g4 g5 g6 g7 g8 g9 g10=>by
      rw[Ar (by omega) (by omega)]
      refine hKE1 _ _ _ ⟨k+1,al',ql',rfl,hkl,by omega,by rw[g2 n hlt];exact hud,g1 _ hum,g5,g6,g7,g8,g9,g10,fun i hi hpi x hx=>?_,fun i hi hik=>?_⟩ (by simp[Aw];omega)
      ·rw[g2 i (by omega)]at hpi hx
       obtain⟨e1,e2⟩:=hall i hi hpi x hx
       exact⟨g1 _ e1,e2⟩
      ·by_cases e:i=k
       ·subst e;rw[hrt];exact⟨g4,hqt⟩
       ·obtain⟨e1,e2⟩:=hdone i hi (by omega)
        exact⟨g1 _ e1,e2⟩
     have htal:t<al.length:=by omega
     have hag:(al.map fun x=>[aI x])[t]? = some [aI (al.getD t 0)]:=by
      rw[AiH,Ai3 htal,Ai2,Ai3 htal];rfl
     rw[Cl htN oaT,AiG,Af oaT hag rfl,As,Ag]
     refine Al (fun hneg=>?_) (fun hneg=>?_)
     ·have hneg:=dT hneg
      rw[Bi,Ag]
      refine Al (fun hne=>?_) (fun hne=>?_)
      ·have hne:t≠a:=by
         intro e;subst e;simp at hne
       have htql:t∉ql:=fun e=>by
        have:=(bf.am t htN hne).2 e
        omega
       rw[Cl htN oaT,AiG]
       refine Cc oaT hag rfl fun T1 n1 o1 f1=>?_
       have es:(al.map fun x=>[aI x]).set t [aI (u:Int)]=(al.set t (u:Int)).map fun x=>[aI x]:=by rw[List.map_set]
       rw[es]at o1
       refine BQ rfl (fun _ h=>by cases h) ?_
       have wq1:=wq.st (id:=ida) apq n1 f1
       refine wq1.app (b:=8) (c:=[aI (t:Int)]) (by have:=kT.1;omega) rfl (by rw[Ai8];omega) (fun y' T2 w2 b2 hy2=>?_) rfl
       obtain⟨my,rfl⟩:=hy2
       have kT1:Am S T1:=kT.st ida1 n1 f1
       have er:nR ql ++ [[aI (t:Int)]]=nR (ql ++ [t]):=by simp[nR]
       rw[er]at w2
       refine next _ _ _ _ (fun x hx=>Aj6 _ hx) (fun i hi=>by rw[DL,if_pos hi]) (by simp) (by simp) (wq1.AS (Ai4 _) b2 kT1) (by have:=b2.1;omega) ?_ w2 (fun b m e=>by cases e;omega) (bf.add hum hpu hmem htN hne htql)
       rw[b2.2 ida (by omega) apq]
       exact o1
      ·have hta:t=a:=by
         have:¬ ((t:Int)≠a):=by simpa using hne
         omega
       exact next al ql y T (fun _ h=>h) (fun _ _=>rfl) (Ai4 _) (by rw[hta];exact bf.ha) kT idT oaT wq apq bf
     ·have hneg:=dF hneg
      have:t∈ql:=by
       by_cases e:t=a
       ·rw[e];exact bf.ha
       ·exact(bf.am t htN e).1 (by omega)
      exact next al ql y T (fun _ h=>h) (fun _ _=>rfl) (Ai4 _) this kT idT oaT wq apq bf
   ·have hkl:k=row.length:=by have:=dF hkl;omega
    subst hkl
    rw[Ar (by omega) (by omega)]
    refine hKE _ _ _ ⟨n+1,al,ql,rfl,hlt,kT,idT,oaT,wq,apq,bf,fun i hi hpi t ht=>?_⟩ (by simp[Aw];omega)
    by_cases e:i=n
    ·subst e
     rw[hud,hrow]at ht
     obtain⟨j,hj,hjt⟩:=Aj0 ht
     have:=hdone j hj hj
     rw[hjt,AiJ]at this
     exact this
    ·exact hall i (by omega) hpi t ht
  ·have hge:n=ql.length:=by have:=dF hge;omega
   subst hge
   refine⟨_,rfl,kT,.inl ⟨rfl,bf.yW hz fun u hu hpu t ht=>?_⟩⟩
   obtain⟨i,hi,rfl⟩:=Aj0 hu
   have e:ql[i]=gN ql i:=by unfold gN;rw[Ai2,Ai3 hi];rfl
   rw[e]at hpu ht
   exact hall i hi hpu t ht
set_option linter.unusedSectionVars false
theorem GC(r:List Nat):(sI r).length=r.length:=Ai8 _
theorem AcE{n m:Nat}{S:Aa}{x:AV}{r:List Nat}(h:A4 n S x 3 (nR r))(hm:n=m):Cv (S.Bx (AK m)) m x (aL aI (sI r)):=by
 subst hm
 have e:nR r=(sI r).map fun a=>[.v (.int .i64 a)]:=by rw[AjC];rfl
 rw[e]at h
 exact h.oC
theorem YJ{S:Aa}{d n k:Nat}{r:List Nat}(h:S.obj d=some (.cells 3 (nR r) true))(hd:n≤d)(hk:k≤r.length):Cv (S.Bx (AK n)) n (.s d 0 k) (aL aI (sI (r.take k))):=by
 have hf:(S.Bx (AK n)).obj d=some (.cells 3 (nR r) false):=by
  rw[Ep h]
  have:AK n d=true:=by simp[AK];omega
  rw[this];rfl
 have hl:(nR (r.take k)).length=k:=by rw[Ai8,AiW];omega
 refine .s d 0 k _ (nR r) ((sI (r.take k)).map fun a=>[aI a]) hf (by rw[Ai8];omega) (by simp;omega) (fun i c c2 e1 e2=>?_) (fun i c c2 j u u2 e1 e2 e3 e4=>?_)
 ·rw[AiH]at e2
  obtain⟨a,_,rfl⟩:=Aj7.1 e2
  rw[AiH]at e1
  obtain⟨b,_,rfl⟩:=Aj7.1 e1
  rfl
 ·rw[AiG,AiH]at e1
  rw[AiH,AiH,List.getElem?_take]at e2
  split at e2
  ·cases hb:r[i]? with
   |none=>rw[hb]at e1;cases e1
   |some b =>
    rw[hb]at e1 e2
    cases e1
    cases e2
    match j with
    |0=>cases e3;cases e4;exact .v _
    |j+1=>simp at e3
  ·cases e2
theorem OP{c:Ci}(hc:Wc c){m id:Nat}{S:Aa}(h:S.obj id=some (nM c m))(hid:id<S.n){a:Nat}{p q:List Bool}{least:Nat}(hle:least≤1)(ha:a<(At c).valid.length)(hp:p.length=(At c).valid.length)(hq:q.length=(At c).valid.length){Q:Bg→Aa→Prop}{K:AV→Aa→Prop}
    (k0:¬ Can (At c) p q a least→K (aL aI (sI [])) S) (k1:∀ r,Wy (At c) p q a least r→K (aL aI (sI r)) S):
    Ah Pg 109 [.p id 0 0,aI a,aL aB p,aL aB q,aI least] S Q K:=by
 refine .inl ((Ad.Le (Φ:=fun tr=>(tr=aL aI (sI [])∧¬ Can (At c) p q a least)∨∃ r,tr=aL aI (sI r)∧Wy (At c) p q a least r) ((Yx hc h hid hle ha hp hq).mono fun e S' hh=>?_)).mono ?_)
 ·obtain⟨x,he,hk,hx⟩:=hh
  rcases hx with⟨rfl,h2⟩|⟨r,h2,h3⟩
  ·exact⟨_,_,he,hk,.nl,.inl ⟨rfl,h2⟩⟩
  ·exact⟨_,_,he,hk,AcE h2 rfl,.inr ⟨r,rfl,h3⟩⟩
 ·rintro e S' ⟨tr,rfl,rfl,⟨rfl,h2⟩|⟨r,rfl,h3⟩⟩
  ·exact k0 h2
  ·exact k1 r h3
theorem C9.mS{s:Sp}{p:List Bool}{t:Nat}{r:List Nat}(h:C9 s p t r)(hl:Br r=t)(h2:2≤r.length)(hm:∀ f∈s.fair,∃ i,i<r.length∧bit f (gN r i)=true):kC s p t (r.take (r.length - 1)):=by
 have e:(r.take (r.length - 1)).length=r.length - 1:=by rw[AiW];omega
 have g:∀ i,i<r.length - 1→gN (r.take (r.length - 1)) i=gN r i:=fun i hi=>PX hi
 have glast:Br (r.take (r.length - 1))=gN r (r.length - 2):=by unfold Br;rw[e,g _ (by omega)];congr 1
 refine⟨fun hn=>by rw[hn]at e;simp at e;omega,by rw[g 0 (by omega)];exact h.fst,fun i hi=>?_,fun i hi=>?_,?_,fun f hf=>?_⟩
 ·rw[e]at hi;rw[g i hi];exact h.by_ i (by omega)
 ·rw[e]at hi;rw[g i (by omega),g _ hi];exact h.nxt i (by omega)
 ·rw[glast,←hl]
  have:=h.nxt (r.length - 2) (by omega)
  rw[show r.length - 2+1=r.length - 1 by omega]at this
  exact this
 ·obtain⟨i,h3,h4⟩:=hm f hf
  by_cases e2:i<r.length - 1
  ·exact⟨i,by omega,by rw[g i e2];exact h4⟩
  ·have:gN r i=t:=by rw[←hl];unfold Br;congr 1;omega
   exact⟨0,by omega,by rw[g 0 (by omega),h.fst,←this];exact h4⟩
theorem UM{r:List Nat}{e:Nat}(h:0<r.length){S:Aa}{K:AV→Aa→Prop}:IJ e 1 (aL aI (sI r)) (some (.v (.int .i64 1))) none none S K=K (aL aI (sI r.tail)) S:=by
 have h1:(1:Int)≤r.length:=by omega
 have e1:((r.length:Int) - 1).toNat=r.length - 1:=by omega
 cases r with
 |nil=>simp at h
 |cons a r =>
  simp[IJ,LD,Aw,aL,BK,sI]
  rw[AiV (by simp)]
  exact⟨fun h=>h.2,fun h=>⟨by omega,h⟩⟩
theorem X8{r:List Nat}{e:Nat}(h:0<r.length){S:Aa}{K:AV→Aa→Prop}:IJ e 1 (aL aI (sI r)) none (some (aI ((r.length:Int) - 1))) none S K=K (aL aI (sI (r.take (r.length - 1)))) S:=by
 have e1:((r.length:Int) - 1).toNat=r.length - 1:=by omega
 simp[IJ,LD,Aw,aL,BK,sI,e1,List.map_take]
 intro _
 omega
theorem Qm{a b:List Bool}(ha:a.length<140737488355328)(hab:b.length=a.length):BH Pg 105 [aL aB a,aL aB b] (aL aB (Bm a b)):=(x9 a b ha hab).NF
theorem xV{c:Ci}(hc:Wc c){m id:Nat}{S:Aa}(h:S.obj id=some (nM c m))(hid:id<S.n){t:Nat}{p:List Bool}(hp:In (At c) p)(ht:bit p t=true){Q:Bg→Aa→Prop}{K:AV→Aa→Prop}
    (k0:¬ Home (At c) p t→K (.t [aL aI (sI []),aB false]) S) (k1:∀ r,kC (At c) p t r→r.length≤10000→K (.t [aL aI (sI r),aB true]) S):
    Ah Pg 111 [.p id 0 0,aI t,aL aB p] S Q K:=by
 obtain⟨hN,hN1,hN2⟩:=w_N hc
 have hsp:=hc.sp
 have htN:t<(At c).valid.length:=by have:=Cj ht;have:=hp.len;omega
 have hfl:(At c).fair.length≤1:=by have:=hc.fair;simpa[At]using this
 refine .inl ((Ad.Le (Φ:=fun tr=>(tr = .t [aL aI (sI []),aB false]∧¬ Home (At c) p t)∨∃ r,tr = .t [aL aI (sI r),aB true]∧kC (At c) p t r∧r.length≤10000) (fD ?_)).mono ?_)
 rotate_left
 ·rintro e S' ⟨tr,rfl,rfl,⟨rfl,h2⟩|⟨r,rfl,h3,h4⟩⟩
  ·exact k0 h2
  ·exact k1 r h3 h4
 dsimp only[AeR,Lf,Lq,Ld]
 refine ID rfl (fun _ h=>by cases h) fun S1 k1' n1 o1=>?_
 have hS1:=(k1'.2 _ hid).trans h
 have hon:(CR (At c).valid.length t).length=(At c).valid.length:=NY _ _
 have ceu:=jX hsp.sm p (CR (At c).valid.length t)
 rw[UC (hsp.fit hp.len) (hsp.fit hon)]at ceu
 obtain⟨hm,hhm⟩:∃ hm,hm=IZ (At c) p (CR (At c).valid.length t):=⟨_,rfl⟩
 have hml:hm.length=(At c).valid.length:=by rw[hhm,P0,hon]
 show ∃ q:AV,_
 refine⟨_,by rw[AH];exact⟨rfl,rfl⟩,?_⟩
 refine⟨_,by rw[Ac];exact⟨rfl,rfl⟩,?_⟩
 refine⟨_,by rw[tZ hS1];exact⟨rfl,rfl⟩,?_⟩
 refine⟨_,Au (VI hS1 (by omega) htN (by omega)) ⟨rfl,rfl⟩,?_⟩
 refine⟨_,Ae ceu ⟨rfl,rfl⟩,?_⟩
 rw[←hhm,AH,Ac,Ac,Af hS1 rfl rfl,Ay]
 refine Xa (fun y z T=>∃(k:Nat) (r:List Nat),z=aI k∧k≤(At c).fair.length∧Am S T∧A4 S.n T y 3 (nR r)∧C9 (At c) p t r∧Br r=t∧r.length≤1+k*2100∧∀ j (hj:j<(At c).fair.length),j<k→∃ i,i<r.length∧bit (At c).fair[j] (gN r i)=true)
  (fun _ z _=>10 - ((Aw z).getD 0).toNat) ⟨0,[t],rfl,Ai9 _,k1',.inr ⟨S.n,rfl,Ai4 _,by omega,o1⟩,C9.one _ _ _,rfl,by simp,fun j _ hj=>absurd hj (AiF _)⟩ ?_
 dsimp only[DE]
 rintro y z T ⟨k,r,rfl,hk,kT,wT,ch,hl,hlen,hmet⟩ KE hKE
 dsimp only[iR,Fi,Lt,Lc]
 have hT:=(kT.2 _ hid).trans h
 have hidT:id<T.n:=by have:=kT.1;omega
 have hrp:=AiM.2 ch.pos
 rw[As,Ag]
 refine Al (fun hlt=>?_) (fun hge=>?_)
 ·have hlt:k<(At c).fair.length:=by have:=dT hlt;omega
  have hff:=hsp.fair _ (Ai6 hlt)
  obtain⟨f,hf⟩:∃ f,f=(At c).fair[k]:=⟨_,rfl⟩
  rw[AM hlt,A3,←hf]
  rw[←hf]at hff
  refine Ae (Qm (by have:=hp.len;omega) (by rw[hff,hp.len])) ?_
  refine Ae (Qm (by rw[DP];have:=hp.len;omega) (by rw[DP,hml,hp.len])) ?_
  have hql:(Bm (Bm p f) hm).length=(At c).valid.length:=by rw[DP,DP,hp.len]
  refine OP hc hT hidT (least:=0) (by decide) htN hp.len hql (fun hno=>?_) (fun r1 w1=>?_)
  ·rw[Ay,AD,Ag,Bd (by rfl)]
   refine⟨_,_,rfl,kT,DN .nl (.v _),.inl ⟨rfl,fun hh=>hno (.inl ⟨rfl,?_⟩)⟩⟩
   have:=hh.mS f (by rw[hf];exact Ai6 hlt)
   rw[←hhm]at this
   exact this
  ·have r1p:=AiM.2 w1.ch.pos
   have hs1:=w1.small
   have hpl:=hp.len
   rw[Ay,GC,AD,Ag,Be (decide_eq_false (by omega)),UM r1p]
   have hto:=w1.to
   rw[Bj,Bj,Ai5,Ai5]at hto
   obtain⟨a1,a2,a3,a4⟩:=ch.app (by rw[hl];exact w1.ch)
   refine A4.Qk (b:=8) wT kT.1 (ys:=(sI r1.tail).map fun a=>[aI a]) (fun c' hc'=>by obtain⟨_,_,rfl⟩:=AiL.1 hc';rfl) (by simp;omega) (fun y1 T1 w1' b1 hy1=>?_) rfl
   have er1:nR r++(sI r1.tail).map (fun a=>[aI a])=nR (r++r1.tail):=by rw[AjC];exact List.map_append.symm
   rw[er1]at w1'
   have kT1:Am S T1:=wT.AS (Ai4 _) b1 kT
   have hT1:=(kT1.2 _ hid).trans h
   have hidT1:id<T1.n:=by have:=kT1.1;omega
   have rl:(r++r1.tail).length=r.length+(r1.length - 1):=by simp
   obtain⟨d1,rfl,d11,d12,do1⟩:=w1'.ix (i:=(r++r1.tail).length - 1) (by rw[Ai8];omega)
   rw[Ai8]
   have hgl:(nR (r++r1.tail))[(r++r1.tail).length - 1]? = some [aI (Br r1:Int)]:=by
    rw[SR (by omega),←a2];rfl
   have hu:Br r1<(At c).valid.length:=by have:=Cj hto.1.1;omega
   refine⟨_,fun U hU=>by rw[Dv];exact⟨rfl,rfl⟩,?_⟩
   refine⟨aI (((r++r1.tail).length - 1:Nat):Int),fun U hU=>by
    rw[Bz (by omega) (by omega)]
    exact⟨by rw[show(((r++r1.tail).length:Nat):Int) - 1=(((r++r1.tail).length - 1:Nat):Int)by omega],rfl⟩,?_⟩
   refine⟨_,fun U hU=>by rw[Cl (by omega) ((hU.2 _ d12).trans do1),AiG];exact⟨rfl,rfl⟩,?_⟩
   refine⟨_,fun U hU=>by rw[Af ((hU.2 _ d12).trans do1) hgl rfl];exact⟨rfl,rfl⟩,?_⟩
   refine⟨_,fun U hU=>Au (VI ((hU.2 _ hidT1).trans hT1) (by have:=hU.1;omega) htN (by omega)) ⟨rfl,rfl⟩,?_⟩
   refine OP hc hT1 hidT1 (least:=0) (by decide) hu hp.len hon (fun hno=>?_) (fun r2 w2=>?_)
   ·exfalso
    refine hno (.inl ⟨rfl,?_⟩)
    have:=hto.2
    rw[hhm,D7]at this
    exact this.2.rc
   ·have r2p:=AiM.2 w2.ch.pos
    have hs2:=w2.small
    rw[UM r2p]
    obtain⟨c1,c2,c3,c4⟩:=a1.app (by rw[a2];exact w2.ch)
    have hlt2:Br r2=t:=(Fc.1 w2.to).1
    have w1'':A4 S.n T1 (.s d1 0 (r++r1.tail).length) 3 (nR (r++r1.tail)):=.inr ⟨d1,by rw[Ai8],d11,d12,do1⟩
    refine A4.Qk (b:=8) w1'' kT1.1 (ys:=(sI r2.tail).map fun a=>[aI a]) (fun c' hc'=>by obtain⟨_,_,rfl⟩:=AiL.1 hc';rfl) (by simp;omega) (fun y2 T2 w2' b2 hy2=>?_) rfl
    have er2:nR (r++r1.tail)++(sI r2.tail).map (fun a=>[aI a])=nR ((r++r1.tail)++r2.tail):=by rw[AjC];exact List.map_append.symm
    rw[er2]at w2'
    rw[Ar (by omega) (by omega)]
    have rl2:((r++r1.tail)++r2.tail).length=r.length+(r1.length - 1)+(r2.length - 1):=by simp;omega
    refine hKE _ _ _ ⟨k+1,_,rfl,hlt,w1''.AS (Ai4 _) b2 kT1,w2',c1,c2.trans hlt2,by rw[rl2];omega,fun j hj hjk=>?_⟩ (by simp[Aw];omega)
    by_cases e:j=k
    ·subst e
     refine⟨(r++r1.tail).length - 1,by rw[rl2];omega,?_⟩
     rw[c3 _ (by omega)]
     have:gN (r++r1.tail) ((r++r1.tail).length - 1)=Br r1:=a2
     rw[this,←hf]
     exact hto.1.2
    ·obtain⟨i,h1,h2⟩:=hmet j hj (by omega)
     exact⟨i,by rw[rl2];omega,by rw[c3 i (by rw[rl];omega),a3 i h1];exact h2⟩
 ·have hge:k=(At c).fair.length:=by have:=dF hge;omega
  have hmet':∀ f∈(At c).fair,∃ i,i<r.length∧bit f (gN r i)=true:=fun f hf=>by
   obtain⟨j,hj,rfl⟩:=Aj0 hf
   exact hmet j hj (by omega)
  rw[wT.len,Ai8,AP,Ag]
  refine Al (fun hgt=>?_) (fun hgt=>?_)
  ·have hgt:2≤r.length:=by have:=dT hgt;omega
   obtain⟨d,rfl,d1,d2,do_⟩:=wT.ix (i:=0) (by rw[Ai8];omega)
   rw[Ai8,Dv,Bz (by omega) (by omega)]
   have esl:∀{K:AV→Aa→Prop},IJ 3 1 (.s d 0 r.length) none (some (aI ((r.length:Int) - 1))) none T K=K (.s d 0 (r.length - 1)) T:=by
    intro K
    have e1:((r.length:Int) - 1).toNat=r.length - 1:=by omega
    simp[IJ,LD,Aw,BK,e1]
    intro _
    omega
   rw[esl]
   refine⟨_,_,rfl,kT,DN (YJ do_ d1 (Nat.sub_le _ _)) (.v _),.inr ⟨_,rfl,ch.mS hl hgt hmet',by rw[AiW];omega⟩⟩
  ·have hr1:r.length=1:=by have:=dF hgt;omega
   refine Au (VI hT hidT htN (by omega)) ?_
   refine OP hc hT hidT (least:=1) (by decide) htN hp.len hon (fun hno=>?_) (fun r2 w2=>?_)
   ·rw[Ay,AD,Ag,Bd (by rfl)]
    refine⟨_,_,rfl,kT,DN .nl (.v _),.inl ⟨rfl,fun hh=>hno (.inr ⟨ht,hh.round⟩)⟩⟩
   ·have hl2:=w2.len
    have hs2:=w2.small
    have hpl:=hp.len
    rw[Ay,GC,AD,Ag,Be (decide_eq_false (by omega)),Ay,GC,Bz (by omega) (by omega),X8 (by omega)]
    refine⟨_,_,rfl,kT,DN (Tree.aL (fun _ _=>Tree.v _) _ _) (.v _),.inr ⟨_,rfl,w2.ch.mS (Fc.1 w2.to).1 (by omega) fun f hf=>?_,by rw[AiW];omega⟩⟩
    obtain⟨i,h1,h2⟩:=hmet' f hf
    have:i=0:=by omega
    subst this
    rw[ch.fst]at h2
    exact⟨0,by omega,by rw[w2.ch.fst];exact h2⟩
set_option linter.unusedSectionVars false
theorem mE(r:List Nat)(k:Nat):(nR r).take k=nR (r.take k):=List.map_take.symm
theorem UQ(r:List Nat):(sI r).map (fun a=>[aI a])=nR r:=by rw[AjC];rfl
theorem AhU{T:Aa}{d:Nat}{r r2:List Nat}(hr:r≠[])(hr2:r2≠[])(hd:d<T.n)(ho:T.obj d=some (.cells 3 (nR r) true))(hb:r.length+r2.length≤1000000){K:AV→Aa→Prop}
    (k:∀ T',T'.n=T.n+1→(∀ x,x<T.n→x≠d→T'.obj x=T.obj x)→T'.obj T.n=some (.cells 3 (nR (r.take (r.length - 1)++r2)) true)→K (.s T.n 0 (r.take (r.length - 1)++r2).length) T'):
    IJ 3 1 (.s d 0 r.length) none (some (aI ((r.length:Int) - 1))) (some (aI ((r.length:Int) - 1))) T fun v T=>Bo 3 1 8 v (aL aI (sI r2)) T K:=by
 have hp:=AiM.2 hr
 have hp2:=AiM.2 hr2
 have e1:((r.length:Int) - 1).toNat=r.length - 1:=by omega
 have el:(r.take (r.length - 1)++r2).length=r.length - 1+r2.length:=by rw[AiK,AiW];omega
 have hrow:∀ c∈(sI r2).map (fun a=>[aI a]),c.length=1:=fun c hc=>by obtain⟨_,_,rfl⟩:=AiL.1 hc;rfl
 have hys:∃ y0 yr,(sI r2).map (fun a=>[aI a])=y0 :: yr:=by
  cases r2 with
  |nil=>exact absurd rfl hr2
  |cons a r2=>exact⟨_,_,rfl⟩
 obtain⟨y0,yr,hy⟩:=hys
 have eyl:(y0 :: yr).length=r2.length:=by rw[←hy,Ai8,GC]
 have fin:∀ v:AV,v=(if(r.length:Int) - 1=0 then .nl else .s d 0 (r.length - 1))→Bo 3 1 8 v (aL aI (sI r2)) T K:=by
  intro v hv
  by_cases e:r.length=1
  ·rw[if_pos (by omega)]at hv
   subst hv
   refine⟨rfl,_,rfl,hrow,?_⟩
   rw[hy]
   refine⟨by rw[eyl];omega,?_⟩
   have:=k (T.new (.cells 3 (y0 :: yr) true)) rfl (fun x hx _=>Je hx) (by rw[B0,←hy,UQ,e];rfl)
   rw[el]at this
   rw[eyl]
   rw[show r.length - 1+r2.length=r2.length by omega]at this
   exact this
  ·rw[if_neg (by omega)]at hv
   subst hv
   refine⟨rfl,_,rfl,hrow,?_⟩
   rw[hy]
   simp only[Ql,ho]
   refine⟨⟨trivial,by rw[Ai8];omega,by rw[eyl];omega⟩,?_⟩
   have:=k ((T.kill d).new (.cells 3 ((nR r).take (r.length - 1)++y0 :: yr) true)) rfl (fun x hx hne=>by simp[Aa.new,Aa.kill,hne,show x≠T.n by omega]) (by
    have e2:(nR r).take (r.length - 1)++y0 :: yr=nR (r.take (r.length - 1)++r2):=by rw[mE,←hy,UQ];exact List.map_append.symm
    rw[←e2]
    simp[Aa.new,Aa.kill])
   rw[el]at this
   rw[eyl]
   exact this
 simp only[IJ,LD,Aw]
 refine⟨_,rfl,_,rfl,_,rfl,rfl,⟨by omega,by omega,by omega,by omega⟩,.inl rfl,fin _ ?_⟩
 by_cases e:(r.length:Int) - 1=0
 ·rw[if_pos e,if_pos e]
 ·rw[if_neg e,if_neg e];simp[e1]
theorem Ab3{c:Ci}(hc:Wc c){m id:Nat}{S:Aa}(h:S.obj id=some (nM c m))(hid:id<S.n){a:Nat}{p:List Bool}(hp:In (At c) p)(ha:bit p a=true)(hex:∃ t,Rc (At c) p (CR (At c).valid.length t) a∧Home (At c) p t){Q:Bg→Aa→Prop}{K:AV→Aa→Prop}
    (k1:∀ r at_,Lp (At c) p a r at_→r.length≤20000→K (.t [aL aI (sI r),aI (at_:Nat)]) S):
    Ah Pg 64 [.p id 0 0,aI a,aL aB p] S Q K:=by
 obtain⟨hN,hN1,hN2⟩:=w_N hc
 have hpl:=hp.len
 have haN:a<(At c).valid.length:=by have:=Cj ha;omega
 refine .inl ((Ad.Le (Φ:=fun tr=>∃(r:List Nat) (at_:Nat),tr = .t [aL aI (sI r),aI at_]∧Lp (At c) p a r at_∧r.length≤20000) (pQ ?_)).mono ?_)
 rotate_left
 ·rintro e S' ⟨tr,rfl,rfl,r,at_,rfl,h3,h4⟩
  exact k1 r at_ h3 h4
 unfold m64
 rw[Ay]
 refine ZS (fun z T=>∃ i:Nat,z=aI i∧i≤p.length∧Am S T∧∀ t,t<i→¬ (Rc (At c) p (CR (At c).valid.length t) a∧Home (At c) p t))
  (fun z _=>2000 - ((Aw z).getD 0).toNat) ⟨0,rfl,Ai9 _,Am.refl S,fun t ht=>absurd ht (AiF _)⟩ ?_
 dsimp only[BS]
 rintro z T ⟨i,rfl,hi,kT,hno⟩ KE hKE
 dsimp only[u5,Fi]
 have hT:=(kT.2 _ hid).trans h
 have hidT:id<T.n:=by have:=kT.1;omega
 rw[As,Ag]
 refine Al (fun hlt=>?_) (fun hge=>?_)
 ·have hlt:i<p.length:=by have:=dT hlt;omega
  have next:∀ T',Am S T'→¬ (Rc (At c) p (CR (At c).valid.length i) a∧Home (At c) p i)→bin .add 0 (aI i) (.v (.int .i64 1)) T' fun v T'=>KE 54 (G0 (.p id 0 0) (aI a) (aL aB p) (aL aB p) (aI p.length) v) T':=fun T' kT' hn=>by
   rw[Ar (by omega) (by omega)]
   refine hKE _ _ ⟨i+1,rfl,hlt,kT',fun t ht=>?_⟩ (by simp[Aw];omega)
   by_cases e:t=i
   ·subst e;exact hn
   ·exact hno t (by omega)
  rw[AM hlt,A3,AI,Ag]
  refine Al (fun hb=>?_) (fun hb=>?_)
  ·refine next T kT fun hh=>?_
   have:=hh.2.in_
   rw[Bc hlt]at this
   rw[this]at hb;cases hb
  have hbi:bit p i=true:=by rw[Bc hlt];simpa using hb
  have hon:(CR (At c).valid.length i).length=(At c).valid.length:=NY _ _
  refine Au (VI hT hidT (by omega) (by omega)) ?_
  refine .inl ((Yx hc hT hidT (least:=0) (by decide) haN hpl hon).mono ?_)
  rintro e T1 ⟨x,rfl,kT1,hx⟩
  show AG _ _ _
  have kS1:=kT.trans kT1
  rcases hx with⟨rfl,hcan⟩|⟨r,wr,w⟩
  ·rw[mR,AD,Ag,Bd (by rfl)]
   exact next T1 kS1 fun hh=>hcan (.inl ⟨rfl,hh.1⟩)
  ·have hrp:=AiM.2 w.ch.pos
   have hsm:=w.small
   obtain⟨d,rfl,d1,d2,do_⟩:=wr.ix (i:=0) (by rw[Ai8];exact hrp)
   have hli:=(Fc.1 w.to).1
   rw[Ai8,Dv,AD,Ag,Be (decide_eq_false (by omega))]
   refine xV hc ((kS1.2 _ hid).trans h) (by have:=kS1.1;omega) hp hbi (fun hnh=>?_) (fun r2 l2 hl2=>?_)
   ·rw[B2,BV,Ag,AZ]
    exact next T1 kS1 fun hh=>hnh hh.2
   ·rw[B2,BV,Ag,A9,Dv,Bz (by omega) (by omega),Dv,Bz (by omega) (by omega)]
    refine AhU w.ch.pos l2.pos d2 do_ (by omega) fun T2 n2 f2 o2=>?_
    rw[Dv,Bz (by omega) (by omega)]
    have hlp:=l2.loop w.ch hli
    have hd:d≠T1.n:=by omega
    refine⟨_,.t [aL aI (sI (r.take (r.length - 1)++r2)),aI ((r.length - 1:Nat):Int)],rfl,⟨by have:=kS1.1;omega,fun x hx=>(f2 x (by have:=kS1.1;omega) (by have:=kT.1;omega)).trans (kS1.2 x hx)⟩,DN ?_ ?_,_,_,rfl,hlp,by rw[AiK,AiW];omega⟩
    ·have:=YJ (k:=(r.take (r.length - 1)++r2).length) o2 (n:=S.n) kS1.1 (Ai4 _)
     rwa [Aj3]at this
    ·rw[show(r.length:Int) - 1=((r.length - 1:Nat):Int)by omega];exact .v _
 ·exfalso
  have hge:i=p.length:=by have:=dF hge;omega
  obtain⟨t,h1,h2⟩:=hex
  exact hno t (by rw[hge];exact Cj h2.in_) ⟨h1,h2⟩
set_option linter.unusedSectionVars false
theorem xX{f:Fo}(h:Pu f):f.BP (f.wt:Int)=true:=by
 have leaf:∀(l d:Int),0≤l→0<d→Fo.BP (.mk 3 ⟨#[]⟩ l []) d=true:=fun l d h0 hd=>by
  rw[Fo.Cm]
  simp only[Ai5,decide_eq_true_eq,List.all_nil,AjF]
  refine⟨hd,?_,trivial,rfl⟩
  by_cases e:l=0
  ·exact .inl e
  ·exact .inr ⟨by omega,trivial⟩
 induction h with
 |c k hk =>
  rw[Fo.Cm]
  simp only[Ai5,decide_eq_true_eq,List.all_nil,AjF]
  have:=D3 k ⟨#[]⟩ 0 []
  refine⟨by omega,by simp,trivial,?_⟩
  rcases hk with rfl|rfl<;>rfl
 |a l h0 hl=>exact leaf l _ h0 (by have:=D3 3 ⟨#[]⟩ l [];omega)
 |n l h0 hl =>
  have h1:=D3 4 ⟨#[]⟩ 0 [.mk 3 ⟨#[]⟩ l []]
  have h2:=D3 3 ⟨#[]⟩ l []
  rw[UG]at h1
  rw[Fo.Cm]
  simp only[Ai5,decide_eq_true_eq,AjA,List.all_nil,AjF]
  exact⟨by omega,by simp,trivial,rfl,leaf l _ h0 (by omega)⟩
 |o k f hk h ih =>
  have h1:=D3 k ⟨#[]⟩ 0 [f]
  rw[UG]at h1
  rw[Fo.Cm]
  simp only[Ai5,decide_eq_true_eq,AjA,List.all_nil,AjF]
  refine⟨by omega,by simp,trivial,?_,Ih f (by omega) ih⟩
  unfold Ct
  rw[if_neg (by omega),if_neg (by omega),if_pos (by omega)];rfl
 |t k f g hk h h2 ih ih2 =>
  have h1:=D3 k ⟨#[]⟩ 0 [f,g]
  rw[UF]at h1
  rw[Fo.Cm]
  simp only[Ai5,decide_eq_true_eq,AjA,List.all_nil,AjF]
  refine⟨by omega,by simp,trivial,?_,Ih f (by omega) ih,Ih g (by omega) ih2⟩
  unfold Ct
  rw[if_neg (by omega),if_neg (by omega),if_neg (by omega)];rfl
structure Fd (c:Ci) (id m:Nat) (S:Aa):Prop where
 o:S.obj id=some (nM c m)
 hid:id<S.n
 hm:m<S.n
 ne:id≠m
 mp:∃ es,S.obj m=some (.map .s es true)∧Hb c es
def Fx(c:Ci)(id m:Nat)(S S':Aa):Prop:=S.n≤S'.n∧Fd c id m S'∧∀ x,x<S.n→x≠m→S'.obj x=S.obj x
theorem Fx.of{c:Ci}{id m:Nat}{S S':Aa}(h:Fd c id m S)(hn:S.n≤S'.n)(ho:∀ x,x<S.n→S'.obj x=S.obj x):Fx c id m S S':=by
 obtain⟨es,e1,e2⟩:=h.mp
 exact⟨hn,⟨(ho _ h.hid).trans h.o,by have:=h.hid;omega,by have:=h.hm;omega,h.ne,es,(ho _ h.hm).trans e1,e2⟩,fun x hx _=>ho x hx⟩
theorem Fx.AS{c:Ci}{id m:Nat}{S S':Aa}(h:Fd c id m S)(k:Am S S'):Fx c id m S S':=Fx.of h k.1 k.2
theorem Fx.trans{c:Ci}{id m:Nat}{S S' S'':Aa}(h:Fx c id m S S')(k:Fx c id m S' S''):Fx c id m S S'':=⟨Nat.le_trans h.1 k.1,k.2.1,fun x hx hne=>(k.2.2 x (by have:=h.1;omega) hne).trans (h.2.2 x hx hne)⟩
theorem Fx.st{c:Ci}{id m:Nat}{S S' S'':Aa}(h:Fx c id m S S'){x:Nat}(hx:S.n≤x)(hn:S''.n=S'.n)(hf:∀ y,y≠x→S''.obj y=S'.obj y)(hi:Fd c id m S):Fx c id m S S'':=by
 have h1:=hi.hid
 have h2:=hi.hm
 obtain⟨es,e1,e2⟩:=h.2.1.mp
 exact⟨by rw[hn];exact h.1,⟨(hf _ (by omega)).trans h.2.1.o,by rw[hn];exact h.2.1.hid,by rw[hn];exact h.2.1.hm,hi.ne,es,(hf _ (by omega)).trans e1,e2⟩,fun y hy hne=>(hf y (by omega)).trans (h.2.2 y hy hne)⟩
theorem Mr{c:Ci}(hc:Wc c){id m:Nat}{S:Aa}(hS:Fd c id m S){f:Fo}(hf:Pu f)(hw:f.wt≤1000000000000000){Q:Bg→Aa→Prop}{K:AV→Aa→Prop}
    (k:∀ S',Fx c id m S S'→K (aL aB (AY c f)) S'):Ah Pg 65 [.p id 0 0,f.av] S Q K:=by
 refine .inl (Ad.mono (Q:=fun e S'=>e = .ret (aL aB (AY c f))∧Fx c id m S S') (pP ?_) fun e S' ⟨he,h1⟩=>by subst he;exact k S' h1)
 dsimp only[m65,Fi,Lf,Lt,Lc]
 refine Ai (Fo.Aj f) fun S1 k1 n1 o1=>?_
 have fx1:=Fx.AS hS k1
 obtain⟨es,e1,e2⟩:=fx1.2.1.mp
 have oi:=fx1.2.1.o
 have hm:=fx1.2.1.hm
 have hi:=fx1.2.1.hid
 rw[An (n:=4) o1 (Fo.Aj f)]
 refine Ae (Aa6 hf.kf hf.ok hw) ?_
 have hkey:HG .s (sB f.DV)=some (.s f.DV):=by simp[HG]
 have lk:∀{T:Aa} {es:List (Key × AV)} {b:Bool} {K:AV→Aa→Prop},T.obj m=some (.map .s es true)→Vk .s .nl b (.m m) (sB f.DV) T K=K (kN .nl b (Js es (.s f.DV))) T:=fun{T es b K} h=>by
  simp[Vk,Ov,h,hkey,BK]
 rw[AH,Ac,Af oi rfl rfl,lk e1]
 have cs:=wK hc.ok hc.sp hf.ok (xX hf)
 rw[show kN AV.nl true (Js es (.s f.DV)) = .t [(Js es (.s f.DV)).getD .nl,aB (Js es (.s f.DV)).isSome]from rfl,B2,BV,AI,Ag]
 cases hl:Js es (.s f.DV)with
 |some v =>
  have hv:=e2 f hf v hl
  show gd (!true) _ _
  rw[AL rfl,AH,Ac,Af oi rfl rfl,lk e1,hl]
  show Bg.ret v=_∧_
  exact⟨by rw[hv],fx1⟩
 |none =>
  show gd (!false) _ _
  rw[AO rfl]
  refine⟨_,fun U hU=>by rw[AH];exact⟨rfl,rfl⟩,?_⟩
  refine⟨_,fun U hU=>by rw[Ac];exact⟨rfl,rfl⟩,?_⟩
  refine⟨_,fun U hU=>by rw[Af ((hU.2 _ hi).trans oi) rfl rfl];exact⟨rfl,rfl⟩,?_⟩
  refine⟨_,fun U hU=>by rw[AH];exact⟨rfl,rfl⟩,?_⟩
  refine⟨_,fun U hU=>by rw[Ac];exact⟨rfl,rfl⟩,?_⟩
  refine⟨_,fun U hU=>by rw[AfD ((hU.2 _ hi).trans oi)];exact⟨rfl,rfl⟩,?_⟩
  refine⟨_,fun U hU=>by rw[AH];exact⟨rfl,rfl⟩,?_⟩
  refine⟨_,fun U hU=>by rw[Ac];exact⟨rfl,rfl⟩,?_⟩
  refine⟨_,fun U hU=>by rw[tZ ((hU.2 _ hi).trans oi)];exact⟨rfl,rfl⟩,?_⟩
  refine⟨_,fun U hU=>by rw[An (n:=4) (Kg hU o1) (Fo.Aj f)];exact⟨rfl,rfl⟩,?_⟩
  refine⟨_,fun U hU=>Ae cs ⟨rfl,rfl⟩,?_⟩
  show Hr _ (.m m) _ _ _ _
  simp only[Hr,e1]
  refine⟨trivial,_,hkey,?_⟩
  obtain⟨T,hT⟩:∃ T,T=S1.Du m (.map .s (C0 es (.s f.DV) (aL aB (AY c f))) true):=⟨_,rfl⟩
  have oT:T.obj m=some (.map .s (C0 es (.s f.DV) (aL aB (AY c f))) true):=by rw[hT];exact BI _ _
  have fT:∀ x,x≠m→T.obj x=S1.obj x:=fun x hx=>by rw[hT];exact Da hx
  have nT:T.n=S1.n:=by rw[hT];rfl
  show AJ (.p id 0 0) (S1.Du m (.map .s (C0 es (.s f.DV) (aL aB (AY c f))) true)) _
  rw[←hT,AH,Ac,Af ((fT _ hS.ne).trans oi) rfl rfl,lk oT,Vj,if_pos rfl]
  exact⟨rfl,by rw[nT];exact fx1.1,⟨(fT _ hS.ne).trans oi,by omega,by omega,hS.ne,_,oT,e2.ins hf⟩,fun x hx hne=>(fT x hne).trans (fx1.2.2 x hx hne)⟩
set_option linter.unusedSectionVars false
theorem fS{e:Nat}{z1 z2 z3 z4 z5:AV}{r:List AV}{S:Aa}{K:AV→Aa→Prop}(hr:r.length=5)(k:K (.l [r]) S):AU e 5 1 [z1,z2,z3,z4,z5] [(0,.a r)] S K:=by
 match r,hr with
 |[u,v,w,x,y],_ =>
  refine⟨[u,v,w,x,y],?_,.inr ?_⟩
  ·simp[Cu,cellsOf,Jw,AiP]
  ·simpa[chunks,AiP]using k
theorem fR{e:Nat}{z1 z2 z3 z4 z5:AV}{r r2:List AV}{S:Aa}{K:AV→Aa→Prop}(hr:r.length=5)(hr2:r2.length=5)(k:K (.l [r,r2]) S):AU e 5 2 [z1,z2,z3,z4,z5] [(0,.a r),(1,.a r2)] S K:=by
 match r,hr,r2,hr2 with
 |[u,v,w,x,y],_,[u2,v2,w2,x2,y2],_ =>
  refine⟨[u,v,w,x,y,u2,v2,w2,x2,y2],?_,.inr ?_⟩
  ·simp[Cu,cellsOf,Jw,AiP]
  ·simpa[chunks,AiP]using k
def V5(c:Ci)(id m:Nat)(S:Aa)(f:Fo)(s:Nat)(e:Bg)(S':Aa):Prop:=∃ t:Tn,e = .ret t.av∧Good c f s t∧Fx c id m S S'
def FdQ(c:Ci)(id m:Nat)(S:Aa)(f:Fo)(s:Nat)(e:Bg)(S':Aa):Prop:=∃ r tr,e = .ret r∧Cv (S'.Bx (AK S.n)) S'.n r tr∧∃ t:Tn,tr=t.av∧Good c f s t∧Fx c id m S S'
theorem Fx.Bx{c:Ci}{id m:Nat}{S S':Aa}(hS:Fd c id m S)(h:Fx c id m S S'):Fx c id m S (S'.Bx (AK S.n)):=by
 have hold:∀ x,x<S.n→(S'.Bx (AK S.n)).obj x=S'.obj x:=fun x hx=>CG (by simp[AK];omega)
 obtain⟨es,e1,e2⟩:=h.2.1.mp
 exact⟨h.1,⟨(hold _ hS.hid).trans h.2.1.o,h.2.1.hid,h.2.1.hm,hS.ne,es,(hold _ hS.hm).trans e1,e2⟩,fun x hx hne=>(hold x hx).trans (h.2.2 x hx hne)⟩
theorem E3{P:Program}{fn:FuncId}{args:List AV}{c:Ci}{id m:Nat}{S:Aa}{f:Fo}{s:Nat}(hS:Fd c id m S)(h:Ad P fn args S (FdQ c id m S f s)):Ad P fn args S (V5 c id m S f s):=by
 refine(Ad.tI (Φ:=fun tr S'=>∃ t:Tn,tr=t.av∧Good c f s t∧Fx c id m S S') (h.mono fun e S' ⟨r,tr,h1,h2,h3⟩=>⟨r,tr,h1,h2,h3⟩)).mono ?_
 rintro e S'' ⟨tr,S',rfl,rfl,t,rfl,h1,h2⟩
 exact⟨t,rfl,h1,h2.Bx hS⟩
theorem Cr{P:Program}{fn:FuncId}{args:List AV}{c:Ci}{id m:Nat}{S:Aa}{f:Fo}{s:Nat}(h:Ad P fn args S (V5 c id m S f s)){Q:Bg→Aa→Prop}{K:AV→Aa→Prop}(kk:∀ t S',Good c f s t→Fx c id m S S'→K t.av S'):Ah P fn args S Q K:=
 .inl (h.mono fun e S' ⟨t,he,h1,h2⟩=>by subst he;exact kk t S' h1 h2)
def xE(c:Ci)(n:Nat):Prop:=∀{f:Fo},Pu f→f.wt<n→f.wt≤1000000000000000→∀{s:Nat},bit (AY c f) s=true→∀{S:Aa} {id m:Nat},Fd c id m S→Ad Pg 31 [.p id 0 0,f.av,aI s] S (V5 c id m S f s)
section
variable {c:Ci} {id m:Nat} {S:Aa} (hS:Fd c id m S)
include hS
theorem Eb{T:Aa}(fx:Fx c id m S T){b:Nat}(hb:S.n≤b){zr:List AV}(hz:zr.length=5)(ob:T.obj b=some (.cells 51 [zr] true)){f:Fo}{s0:Nat}{kd s a:Int}{ss:List Int}{ks:List Tn}{xs xk:AV}(g:Good c f s0 (.mk kd s a ss ks))
    (hx:∀ T':Aa,T'.n=T.n→(∀ x,x≠b→T'.obj x=T.obj x)→Cv (T'.Bx (AK S.n)) T'.n xs (aL aI ss)∧Cv (T'.Bx (AK S.n)) T'.n xk (Lg ks)):
    A8 5 (.p b 0 0) (.a [aI kd,aI s,aI a,xs,xk]) T fun _ T=>AA 5 (.p b 0 0) T fun v T=>FdQ c id m S f s0 (.ret v) T:=by
 refine AF ob rfl hz fun T1 n1 o1 f1=>?_
 rw[An (n:=5) o1 rfl]
 obtain⟨c1,c2⟩:=hx T1 n1 f1
 refine⟨_,(Tn.mk kd s a ss ks).av,rfl,?_,_,rfl,g,fx.st hb n1 f1 hS⟩
 rw[Tn.av,Tn.AE]
 refine .a _ _ rfl fun j u u2 e1 e2=>?_
 match j with
 |0=>cases e1;cases e2;exact .v _
 |1=>cases e1;cases e2;exact .v _
 |2=>cases e1;cases e2;exact .v _
 |3=>cases e1;cases e2;exact c1
 |4=>cases e1;cases e2;exact c2
 |j+5=>simp at e1
theorem K1{T:Aa}(fx:Fx c id m S T){b:Nat}(hb:S.n≤b){zr:List AV}(hz:zr.length=5)(ob:T.obj b=some (.cells 51 [zr] true)){f:Fo}{s0:Nat}{t:Tn}(g:Good c f s0 t):
    A8 5 (.p b 0 0) t.av T fun _ T=>AA 5 (.p b 0 0) T fun v T=>FdQ c id m S f s0 (.ret v) T:=by
 refine AF (cs':=t.row) ob (Tn.Aj t) hz fun T1 n1 o1 f1=>?_
 rw[An (n:=5) o1 (Tn.Aj t)]
 exact⟨_,t.av,rfl,Tn.tr t _ _,_,rfl,g,fx.st hb n1 f1 hS⟩
end
theorem bU{c:Ci}{n:Nat}(IH:xE c n){f:Fo}(hf:Pu f)(hn:f.wt<n)(hw:f.wt≤1000000000000000){id m:Nat}{S:Aa}(hS:Fd c id m S){r:List Nat}(hr:r.length≤100000)(hb:∀ i,i<r.length→bit (AY c f) (gN r i)=true){Q:Bg→Aa→Prop}{K:AV→Aa→Prop}
    (k:∀ x ts S',A4 S.n S' x 51 (ts.map Tn.row)→Dn c (List.replicate r.length f) r ts→Fx c id m S S'→K x S'):Ah Pg 66 [.p id 0 0,f.av,aL aI (sI r)] S Q K:=by
 refine .inl (Ad.mono (Q:=fun e S'=>∃ x ts,e = .ret x∧A4 S.n S' x 51 (ts.map Tn.row)∧Dn c (List.replicate r.length f) r ts∧Fx c id m S S') (pO ?_) fun e S' ⟨x,ts,he,h1,h2,h3⟩=>by subst he;exact k x ts S' h1 h2 h3)
 unfold m66
 refine Ai (Fo.Aj f) fun S1 k1 n1 o1=>?_
 rw[Ay,GC]
 refine ZR (fun y z T=>∃(i:Nat) (ts:List Tn),z=aI i∧i≤r.length∧Fx c id m S T∧T.obj S.n=some (.cells 32 [f.row] true)∧S.n<T.n∧A4 (S.n+1) T y 51 (ts.map Tn.row)∧Dn c (List.replicate i f) (r.take i) ts)
  (fun _ z _=>r.length - ((Aw z).getD 0).toNat) ⟨0,[],rfl,Ai9 _,Fx.AS hS k1,o1,by omega,.nl _ _ _,by rw[List.take_zero];exact trivial⟩ ?_
 dsimp only[DE]
 rintro y z T ⟨i,ts,rfl,hi,fx,oT,hT,wy,hg⟩ KE hKE
 dsimp only[u4,Fi]
 rw[As,Ag]
 refine Al (fun hlt=>?_) (fun hge=>?_)
 ·have hlt:i<r.length:=by have:=dT hlt;omega
  have hsi:i<(sI r).length:=by rw[GC];exact hlt
  have hel:(sI r)[i]=(gN r i:Int):=by
   rw[List.getElem_map]
   unfold gN
   rw[Ai2,Ai3 hlt];rfl
  rw[AM hsi,A3,hel,An (n:=4) oT (Fo.Aj f)]
  refine Cr (IH hf hn hw (hb i hlt) fx.2.1) fun t T1 g1 fx1=>?_
  refine fS (Tn.Aj t) ?_
  have hid:=hS.hid
  have hmm:=hS.hm
  have oT1:=(fx1.2.2 S.n hT (by omega)).trans oT
  have wy1:A4 (S.n+1) T1 y 51 (ts.map Tn.row):=wy.same fx1.1 fun x hx hx2=>fx1.2.2 x hx2 (by omega)
  have htl:=hg.YC.1
  rw[AiW]at htl
  refine wy1.app (b:=72) (c:=t.row) (by have:=fx1.1;omega) (Tn.Aj t) (by rw[Ai8];omega) (fun y' T2 w2 b2 hy2=>?_) rfl
  rw[Ar (by omega) (by omega)]
  have er:ts.map Tn.row ++ [t.row]=(ts ++ [t]).map Tn.row:=by simp
  rw[er]at w2
  have lowT:∀ x,x<S.n+1→T2.obj x=T1.obj x:=fun x hx=>b2.2 x (by have:=fx1.1;omega) (fun b m e=>by have:=wy1.lt e;omega)
  have fx2:Fx c id m S T2:=by
   have f1:=fx.trans fx1
   obtain⟨es,e1,e2⟩:=f1.2.1.mp
   exact⟨Nat.le_trans f1.1 b2.1,⟨(lowT _ (by omega)).trans f1.2.1.o,by have:=f1.1;have:=b2.1;omega,by have:=f1.1;have:=b2.1;omega,hS.ne,es,(lowT _ (by omega)).trans e1,e2⟩,fun x hx hne=>(lowT x (by omega)).trans (f1.2.2 x hx hne)⟩
  refine hKE _ _ _ ⟨i+1,ts ++ [t],rfl,hlt,fx2,(lowT _ (by omega)).trans oT1,by have:=fx1.1;have:=b2.1;omega,w2,?_⟩ (by simp[Aw];omega)
  have e1:r.take (i+1)=r.take i ++ [gN r i]:=by
   rw[←List.take_append_getElem hlt]
   unfold gN
   rw[Ai2,Ai3 hlt];rfl
  have e2:List.replicate (i+1) f=List.replicate i f ++ [f]:=by rw[List.replicate_succ']
  rw[e1,e2]
  exact hg.app ⟨g1,trivial⟩
 ·have hge:i=r.length:=by have:=dF hge;omega
  subst hge
  rw[Aj3]at hg
  exact⟨_,ts,rfl,wy.low (Nat.le_succ _),hg,fx⟩
theorem Yl{c:Ci}{n:Nat}(IH:xE c n)(hn:2<n){id m:Nat}{S:Aa}(hS:Fd c id m S){s:Nat}(hb:bit (AY c GV) s=true){Q:Bg→Aa→Prop}{K:AV→Aa→Prop}
    (k:∀ t S',Good c GV s t→Fx c id m S S'→K t.av S'):Ah Pg 108 [.p id 0 0,aI s] S Q K:=by
 refine Cr (E3 hS (fH ?_)) k
 unfold AeU
 refine Ai rfl fun S1 k1 n1 o1=>?_
 have fx1:=Fx.AS hS k1
 refine Ae VM ?_
 refine Gt (r:=IM.row) (Fo.Aj _) ?_
 refine Ae (OB 13 [IM]) ?_
 refine Cr (IH Yq (by rw[kU];exact hn) (by rw[kU];decide) hb fx1.2.1) fun t S2 g2 fx2=>?_
 have hm:=hS.hm
 exact K1 hS (fx1.trans fx2) (Ai4 _) rfl ((fx2.2.2 _ (by omega) (by omega)).trans o1) g2
set_option linter.unusedSectionVars false
theorem Fx.P7{c:Ci}{id m:Nat}{S T1 T2:Aa}(hS:Fd c id m S)(h:Fx c id m S T1){n:Nat}{y:AV}{e:Nat}{es:List (List AV)}(w:A4 n T1 y e es)(hn:S.n≤n)(b:But T1 T2 y):Fx c id m S T2∧∀ x,x<n→x<T1.n→T2.obj x=T1.obj x:=by
 have low:∀ x,x<n→x<T1.n→T2.obj x=T1.obj x:=fun x hx hx2=>b.2 x hx2 (fun b m e=>by have:=w.lt e;omega)
 have h1:=h.1
 have h2:=b.1
 have h3:=hS.hid
 have h4:=hS.hm
 obtain⟨es,e1,e2⟩:=h.2.1.mp
 exact⟨⟨by omega,⟨(low _ (by omega) (by omega)).trans h.2.1.o,by omega,by omega,hS.ne,es,(low _ (by omega) (by omega)).trans e1,e2⟩,fun x hx hne=>(low x (by omega) (by omega)).trans (h.2.2 x hx hne)⟩,low⟩
theorem tO{c:Ci}(hc:Wc c){n:Nat}(IH:xE c n)(hn:2<n){f0 f1 F:Fo}(h0:Pu f0)(h1:Pu f1)(hF:F=A6 15 f0 f1∨F=AT 11 f1∧f0=IM)(w0:f0.wt<n)(w1:f1.wt<n)(v0:f0.wt≤1000000000000000)(v1:f1.wt≤1000000000000000)
    {id m:Nat} {S:Aa} (hS:Fd c id m S) {s:Nat} (hv:bit (At c).valid s=true) (hr:Rc (At c) (AY c f0) (Bm (AY c f1) (AY c GV)) s) {Q:Bg→Aa→Prop} {K:AV→Aa→Prop}
    (k:∀ t S',Good c F s t→Fx c id m S S'→K t.av S'):Ah Pg 61 [.p id 0 0,f0.av,f1.av,aI s] S Q K:=by
 refine Cr (E3 hS (pU ?_)) k
 dsimp only[m61,Lt,Lc]
 obtain⟨hN,hN1,hN2⟩:=w_N hc
 have hid:=hS.hid
 have hm:=hS.hm
 have i0:=FZ (c:=c) h0
 have i1:=FZ (c:=c) h1
 have iG:=FZ (c:=c) Yq
 have hsN:s<(At c).valid.length:=Cj hv
 refine Ai (Fo.Aj f0) fun S1 k1 n1 o1=>?_
 refine Ai (Fo.Aj f1) fun S2 k2 n2 o2=>?_
 refine Ai rfl fun S3 k3 n3 o3=>?_
 have fx3:Fx c id m S S3:=Fx.AS hS ((k1.trans k2).trans k3)
 have p1:=(Kg k3 (Kg k2 o1))
 have p2:=(Kg k3 o2)
 refine⟨_,fun U hU=>by rw[An (n:=4) (Kg hU p1) (Fo.Aj f0)];exact⟨rfl,rfl⟩,?_⟩
 refine⟨_,fun U hU=>by rw[An (n:=4) (Kg hU p2) (Fo.Aj f1)];exact⟨rfl,rfl⟩,?_⟩
 refine Mr hc fx3.2.1 h0 v0 fun S4 fx4=>?_
 have q1:=(fx4.2.2 S.n (by omega) (by omega)).trans p1
 have q2:=(fx4.2.2 S1.n (by omega) (by omega)).trans p2
 have q3:=(fx4.2.2 S2.n (by omega) (by omega)).trans o3
 have l4:=fx4.1
 refine⟨fun U hU=>by rw[An (n:=4) (Kg hU q2) (Fo.Aj f1)];exact⟨rfl,rfl⟩,?_⟩
 refine Mr hc fx4.2.1 h1 v1 fun S5 fx5=>?_
 have l5:=fx5.1
 refine⟨_,fun U hU=>Ae VM ⟨rfl,rfl⟩,?_⟩
 refine⟨.l [IM.row],fun U hU=>Gt (Fo.Aj _) ⟨rfl,rfl⟩,?_⟩
 refine⟨_,fun U hU=>Ae (OB 13 [IM]) ⟨rfl,rfl⟩,?_⟩
 refine Mr hc fx5.2.1 Yq (by rw[kU];decide) fun S6 fx6=>?_
 have l6:=fx6.1
 refine⟨_,fun U hU=>Ae (Qm (by have:=i1.len;omega) (by rw[iG.len,i1.len])) ⟨rfl,rfl⟩,?_⟩
 refine OP hc fx6.2.1.o fx6.2.1.hid (least:=0) (by decide) hsN i0.len (by rw[DP];exact i1.len) (fun hno=>absurd (.inl ⟨rfl,hr⟩) hno) (fun r w=>?_)
 have hrp:=AiM.2 w.ch.pos
 have hsm:=w.small
 have hl0:=i0.len
 have hto:=w.to
 rw[Bj,Ai5]at hto
 have hlast:(sI r)[r.length - 1]? = some (Br r:Int):=by
  rw[AiH,Ai3 (by omega)]
  unfold Br gN
  rw[Ai2,Ai3 (by omega)];rfl
 have hli:r.length - 1<(sI r).length:=by rw[GC];omega
 have hle:(sI r)[r.length - 1]=(Br r:Int):=by
  rw[Ai3 hli]at hlast
  exact Option.some.inj hlast
 have hsub:(r.length:Int) - 1=((r.length - 1:Nat):Int):=by omega
 rw[Ay,GC,Bz (by omega) (by omega),hsub,AM hli,A3,hle]
 have fx03:=(fx4.trans fx5).trans fx6
 have r1:=(fx6.2.2 S.n (by omega) (by omega)).trans ((fx5.2.2 S.n (by omega) (by omega)).trans q1)
 have r2:=(fx6.2.2 S1.n (by omega) (by omega)).trans ((fx5.2.2 S1.n (by omega) (by omega)).trans q2)
 have r3:=(fx6.2.2 S2.n (by omega) (by omega)).trans ((fx5.2.2 S2.n (by omega) (by omega)).trans q3)
 refine⟨_,fun U hU=>by rw[An (n:=4) (Kg hU r1) (Fo.Aj f0)];exact⟨rfl,rfl⟩,?_⟩
 refine⟨_,fun U hU=>by rw[Ay,GC];exact⟨rfl,rfl⟩,?_⟩
 refine⟨_,fun U hU=>by rw[Bz (by omega) (by omega)];exact⟨rfl,rfl⟩,?_⟩
 refine⟨_,fun U hU=>by rw[X8 hrp];exact⟨rfl,rfl⟩,?_⟩
 have htl:(r.take (r.length - 1)).length=r.length - 1:=by rw[AiW];omega
 refine bU IH h0 w0 v0 fx6.2.1 (r:=r.take (r.length - 1)) (by omega) (fun i hi=>by rw[htl]at hi;rw[PX hi];exact w.ch.by_ i (by omega)) fun x ts S7 wx gx fx7=>?_
 rw[htl]at gx
 have l7:=fx7.1
 have s2:=(fx7.2.2 S1.n (by omega) (by omega)).trans r2
 have s3:=(fx7.2.2 S2.n (by omega) (by omega)).trans r3
 rw[An (n:=4) s2 (Fo.Aj f1)]
 refine Cr (IH h1 w1 v1 hto.1 fx7.2.1) fun t S8 g8 fx8=>?_
 have l8:=fx8.1
 refine Yl IH hn fx8.2.1 hto.2 fun u S9 g9 fx9=>?_
 have l9:=fx9.1
 refine fR (Tn.Aj t) (Tn.Aj u) ?_
 have hfx89:∀ y,S6.n≤y→y<S7.n→S9.obj y=S7.obj y:=fun y hy hy2=>(fx9.2.2 y (by omega) (by omega)).trans (fx8.2.2 y (by omega) (by omega))
 have wx9:=wx.same (by omega) hfx89
 have fx9':Fx c id m S S9:=(fx3.trans fx03).trans (fx7.trans (fx8.trans fx9))
 have htsl:=gx.YC.1
 rw[htl]at htsl
 refine A4.Qk (b:=72) wx9 (ys:=[t.row,u.row]) (by omega) (fun c' hc'=>by
  have:c'=t.row∨c'=u.row:=by simpa using hc'
  rcases this with rfl|rfl<;>exact Tn.Aj _) (by rw[Ai8];simp;omega) (fun y T w2 b2 hy2=>?_) rfl
 have er:ts.map Tn.row ++ [t.row,u.row]=(ts ++ [t,u]).map Tn.row:=by simp
 rw[er]at w2
 obtain⟨fxT,lowT⟩:=fx9'.P7 hS wx9 (by omega) b2
 obtain⟨dy,hyy,_,_,_⟩:=w2.ix (i:=0) (by simp)
 subst hyy
 rw[A7 (cs:=[aI 5,aI s,aI 0,aL aI (sI r),.s dy 0 ((ts ++ [t,u]).map Tn.row).length]) rfl]
 have ob:=(lowT S2.n (by omega) (by omega)).trans ((fx9.2.2 S2.n (by omega) (by omega)).trans ((fx8.2.2 S2.n (by omega) (by omega)).trans s3))
 have hyS:∀ T':Aa,T'.n=T.n→(∀ x,x≠S2.n→T'.obj x=T.obj x)→A4 S6.n T' (.s dy 0 ((ts ++ [t,u]).map Tn.row).length) 51 ((ts ++ [t,u]).map Tn.row):=fun T' n' f'=>w2.same (by omega) fun q hq hq2=>f' q (by omega)
 exact Eb hS fxT (by omega) rfl ob (Xo hc hv w.ch (by omega) hF gx g8 g9) fun T' n' f'=>⟨Df _ _ _,Ef (fun r hr u hu=>by obtain⟨f,_,rfl⟩:=AiL.1 hr;exact Tn.tree f u hu) (hyS T' n' f') (by omega)⟩
theorem tP{c:Ci}(hc:Wc c){n:Nat}(IH:xE c n){g0 g1 F:Fo}(h0:Pu g0)(h1:Pu g1)(w0:g0.wt<n)(w1:g1.wt<n)(v0:g0.wt≤1000000000000000)(v1:g1.wt≤1000000000000000)
    {id m:Nat} {S:Aa} (hS:Fd c id m S) {s:Nat} (hv:bit (At c).valid s=true) (hor:bit (AY c g0) s=true∨bit (AY c g1) s=true) (hF:∀(i:Nat) t,i≤1→Good c (if i=0 then g0 else g1) s t→Good c F s (.mk 3 s i [] [t])) {Q:Bg→Aa→Prop} {K:AV→Aa→Prop}
    (k:∀ t S',Good c F s t→Fx c id m S S'→K t.av S'):Ah Pg 59 [.p id 0 0,aI s,Dx [g0,g1]] S Q K:=by
 refine Cr (E3 hS (pW ?_)) k
 dsimp only[m59,Fi]
 have hid:=hS.hid
 have hm:=hS.hm
 have i0:=FZ (c:=c) h0
 have hsN:s<(AY c g0).length:=by rw[i0.len];exact Cj hv
 refine Ai rfl fun S1 k1 n1 o1=>?_
 have fx1:Fx c id m S S1:=Fx.AS hS k1
 rw[KX,Cd (Fo.Aj _)]
 refine Mr hc fx1.2.1 h0 v0 fun S2 fx2=>?_
 have l2:=fx2.1
 have o2:=(fx2.2.2 S.n (by omega) (by omega)).trans o1
 rw[AM hsN,A3,AI,Ag]
 refine Al (fun hb=>?_) (fun hb=>?_)
 ·have hb1:bit (AY c g1) s=true:=by
    rcases hor with h|h
    ·rw[Bc hsN]at h;rw[h]at hb;cases hb
    ·exact h
  rw[RF,Cd (Fo.Aj _)]
  refine Cr (IH h1 w1 v1 hb1 fx2.2.1) fun t S3 g3 fx3=>?_
  refine fS (Tn.Aj t) ?_
  rw[A7 (cs:=[aI 3,aI s,aI (1:Nat),.nl,Lg [t]]) rfl]
  exact Eb hS (fx1.trans (fx2.trans fx3)) (Ai4 _) rfl ((fx3.2.2 S.n (by omega) (by omega)).trans o2) (hF 1 t (by decide) g3) fun T' _ _=>⟨.nl,KA [t] _ _⟩
 ·have hb0:bit (AY c g0) s=true:=by rw[Bc hsN];simpa using hb
  rw[KX,Cd (Fo.Aj _)]
  refine Cr (IH h0 w0 v0 hb0 fx2.2.1) fun t S3 g3 fx3=>?_
  refine fS (Tn.Aj t) ?_
  rw[A7 (cs:=[aI 3,aI s,aI (0:Nat),.nl,Lg [t]]) rfl]
  exact Eb hS (fx1.trans (fx2.trans fx3)) (Ai4 _) rfl ((fx3.2.2 S.n (by omega) (by omega)).trans o2) (hF 0 t (by decide) g3) fun T' _ _=>⟨.nl,KA [t] _ _⟩
set_option linter.unusedSectionVars false
theorem AfZ{p:List Bool}{k:Int}(h0:0≤k)(h1:k<p.length){S:Aa}{b t:Nat}{l:Bool}(h:S.obj b=some (.cells t [[aL aB p]] l)):AW Pg 107 [aI k,.p b 0 0] S (aB (bit p k.toNat)):=by
 refine fI ?_
 unfold AeV
 obtain⟨j,rfl⟩:=AiE h0
 have hj:j<p.length:=by omega
 rw[Af h rfl rfl,AM hj,A3]
 exact⟨by rw[AiJ,Bc hj],rfl⟩
theorem Ab4{c:Ci}(hc:Wc c){n:Nat}(IH:xE c n)(hn:2<n){f:Fo}(hf:Pu f)(hw:f.wt<n)(hv1:f.wt≤1000000000000000)
    {id m:Nat} {S:Aa} (hS:Fd c id m S) {s:Nat} (hv:bit (At c).valid s=true) (hx:∃ k:Nat,(k:Int)∈nx (At c) s∧bit (AY c f) k=true∧bit (AY c GV) k=true) {Q:Bg→Aa→Prop} {K:AV→Aa→Prop}
    (k:∀ t S',Good c (AT 9 f) s t→Fx c id m S S'→K t.av S'):Ah Pg 60 [.p id 0 0,f.av,aI s] S Q K:=by
 refine Cr (E3 hS (pV ?_)) k
 dsimp only[m60,Lf]
 obtain⟨hN,hN1,hN2⟩:=w_N hc
 have hsp:=hc.sp
 have hid:=hS.hid
 have hm:=hS.hm
 have i0:=FZ (c:=c) hf
 have iG:=FZ (c:=c) Yq
 have hsN:s<(At c).next.length:=by rw[hsp.next];exact Cj hv
 refine Ai (Fo.Aj f) fun S1 k1 n1 o1=>?_
 refine Ai rfl fun S2 k2 n2 o2=>?_
 have fx2:Fx c id m S S2:=Fx.AS hS (k1.trans k2)
 have p1:=(Kg k2 o1)
 rw[An (n:=4) p1 (Fo.Aj f)]
 refine Mr hc fx2.2.1 hf hv1 fun S3 fx3=>?_
 have l3:=fx3.1
 refine Ae VM ?_
 refine Gt (r:=IM.row) (Fo.Aj _) ?_
 refine Ae (OB 13 [IM]) ?_
 refine Mr hc fx3.2.1 Yq (by rw[kU];decide) fun S4 fx4=>?_
 have l4:=fx4.1
 refine Ae (Qm (by have:=i0.len;omega) (by rw[iG.len,i0.len])) ?_
 refine BM rfl fun S5 k5 n5 o5=>?_
 refine Cc o5 (u0:=.nl) rfl rfl fun S6 n6 o6 f6=>?_
 obtain⟨P,hP⟩:∃ P,P=Bm (AY c f) (AY c GV):=⟨_,rfl⟩
 rw[←hP]at o6
 have hPl:P.length=(At c).valid.length:=by rw[hP,DP,i0.len]
 have fx6:Fx c id m S S6:=by
  have a:=(fx2.trans (fx3.trans fx4)).trans (Fx.AS fx4.2.1 k5)
  exact a.st (x:=S4.n) (by omega) n6 f6 hS
 have oid:=fx6.2.1.o
 have hrow:=ES hsN
 have hrl:((At c).next)[s].length≤1024:=hsp.small.h4 _ (Ai6 hsN)
 have hrng:=OW hsp s
 rw[AH,Ac,Ac,Af oid rfl rfl,AM hsN,A3]
 obtain⟨row,hr⟩:∃ row,row=((At c).next)[s]:=⟨_,rfl⟩
 rw[←hr]at hrow hrl ⊢
 rw[hrow]at hrng
 have o6':S6.obj S4.n=some (.cells 41 [[aL aB P]] true):=o6
 refine Au (wF (by omega) (g:=fun k=>bit P k.toNat) fun x hx=>AfZ (hrng x hx).1 (by have:=(hrng x hx).2;omega) o6') ?_
 obtain⟨kx,h1,h2,h3⟩:=hx
 rw[hrow]at h1
 obtain⟨i,hi,hgi⟩:∃ i,row.findIdx? (fun k=>bit P k.toNat)=some i∧∃ h:i<row.length,bit P (row[i].toNat)=true:=by
  cases e:row.findIdx? (fun k=>bit P k.toNat)with
  |none =>
   have:=AjG.1 e _ h1
   rw[AiJ,hP,Bj,h2,h3]at this
   cases this
  |some i =>
   obtain⟨q1,q2,_⟩:=AjD.1 e
   exact⟨i,rfl,q1,q2⟩
 obtain⟨hil,hbi⟩:=hgi
 rw[hi]
 show AJ _ _ _
 rw[AH,Ac,Ac,Af oid rfl rfl,AM hsN,A3,←hr]
 show AR _ _ _ (aI (i:Int)) _ _
 rw[AM hil,A3]
 obtain⟨t0,t1⟩:=hrng _ (Ai6 hil)
 obtain⟨x,hx⟩:=AiE t0
 rw[hx,AiJ,hP,Bj,Ai5]at hbi
 have hxm:(x:Int)∈nx (At c) s:=by rw[hrow,←hx];exact Ai6 hil
 rw[hx]
 have r1:=(f6 S.n (by omega)).trans (Kg k5 ((fx4.2.2 S.n (by omega) (by omega)).trans ((fx3.2.2 S.n (by omega) (by omega)).trans p1)))
 have r2:=(f6 S1.n (by omega)).trans (Kg k5 ((fx4.2.2 S1.n (by omega) (by omega)).trans ((fx3.2.2 S1.n (by omega) (by omega)).trans o2)))
 rw[An (n:=4) r1 (Fo.Aj f)]
 refine Cr (IH hf hw hv1 hbi.1 fx6.2.1) fun t S7 g7 fx7=>?_
 have l7:=fx7.1
 refine Yl IH hn fx7.2.1 hbi.2 fun u S8 g8 fx8=>?_
 refine fR (Tn.Aj t) (Tn.Aj u) ?_
 rw[A7 (cs:=[aI 4,aI s,aI 0,.nl,Lg [t,u]]) rfl]
 exact Eb hS (fx6.trans (fx7.trans fx8)) (by omega) rfl ((fx8.2.2 S1.n (by omega) (by omega)).trans ((fx7.2.2 S1.n (by omega) (by omega)).trans r2)) (Xn hc hv hxm g7 g8) fun T' _ _=>⟨.nl,KA [t,u] _ _⟩
set_option linter.unusedSectionVars false
theorem BT{k j:Int}(h:¬ k=j){S:Aa}{A:AV→Aa→Prop}{B:Aa→Prop}(hB:B S):bin .eql 0 (.v (.int .i64 k)) (.v (.int .i64 j)) S (fun v S=>GI v fun b=>gd b (A v S) (B S)):=by
 rw[AD,Ag,decide_eq_false h];exact hB
theorem Hs{k j:Int}(h:k=j){S:Aa}{A:AV→Aa→Prop}{B:Aa→Prop}(hA:A (aB true) S):bin .eql 0 (.v (.int .i64 k)) (.v (.int .i64 j)) S (fun v S=>GI v fun b=>gd b (A v S) (B S)):=by
 rw[AD,Ag,decide_eq_true h];exact hA
section
variable {c:Ci} (hc:Wc c) {n:Nat} (IH:xE c n) {id m:Nat} {S:Aa} (hS:Fd c id m S) {s:Nat} (hv:bit (At c).valid s=true)
include hc IH hS hv
theorem bL{f g:Fo}(hf:Pu f)(hg:Pu g)(hw:Fo.wt (A6 5 f g)≤n)(hb:n≤1000000000000000)(h1:bit (AY c f) s=true)(h2:bit (AY c g) s=true):Ad Pg 31 [.p id 0 0,(A6 5 f g).av,aI s] S (V5 c id m S (A6 5 f g) s):=by
 refine E3 hS (DO ?_)
 dsimp only[XV,FD,Fi,Lf,Lt,Lc]
 rw[Fo.av,Fo.AE]
 have hid:=hS.hid
 have hm:=hS.hm
 refine Ai rfl fun S1 k1 n1 o1=>?_
 refine Ai rfl fun S2 k2 n2 o2=>?_
 have fx2:Fx c id m S S2:=Fx.AS hS (k1.trans k2)
 have p1:=(Kg k2 o1)
 rw[Ac,Af p1 rfl rfl]
 have hw2:1+(f.wt+g.wt)≤n:=by rw[FM 5 f g (by decide)]at hw;exact hw
 refine Hs rfl ?_
 refine⟨_,fun U hU=>by rw[Ac];exact⟨rfl,rfl⟩,?_⟩
 refine⟨_,fun U hU=>by rw[Af (Kg hU p1) rfl rfl];exact⟨rfl,rfl⟩,?_⟩
 refine⟨_,fun U hU=>by rw[KX];exact⟨rfl,rfl⟩,?_⟩
 refine⟨_,fun U hU=>by rw[Cd (Fo.Aj _)];exact⟨rfl,rfl⟩,?_⟩
 refine⟨_,fun U hU=>by rw[Ac];exact⟨rfl,rfl⟩,?_⟩
 refine⟨_,fun U hU=>by rw[Af (Kg hU p1) rfl rfl];exact⟨rfl,rfl⟩,?_⟩
 refine⟨_,fun U hU=>by rw[RF];exact⟨rfl,rfl⟩,?_⟩
 refine⟨_,fun U hU=>by rw[Cd (Fo.Aj _)];exact⟨rfl,rfl⟩,?_⟩
 refine Cr (IH hf (by omega) (by omega) h1 fx2.2.1) fun t S3 g3 fx3=>?_
 have l3:=fx3.1
 have q1:=(fx3.2.2 S.n (by omega) (by omega)).trans p1
 have q2:=(fx3.2.2 S1.n (by omega) (by omega)).trans o2
 refine⟨fun U hU=>by rw[Cd (Fo.Aj _)];exact⟨rfl,rfl⟩,fun U hU=>by rw[RF];exact⟨rfl,rfl⟩,fun U hU=>by rw[Af (Kg hU q1) rfl rfl];exact⟨rfl,rfl⟩,fun U hU=>by rw[Ac];exact⟨rfl,rfl⟩,?_⟩
 refine Cr (IH hg (by omega) (by omega) h2 fx3.2.1) fun u S4 g4 fx4=>?_
 refine⟨Lg [t,u],fun U hU=>fR (Tn.Aj t) (Tn.Aj u) ⟨rfl,rfl⟩,?_⟩
 refine⟨_,fun U hU=>by rw[A7 (cs:=[aI 2,aI s,aI 0,.nl,Lg [t,u]]) rfl];exact⟨rfl,rfl⟩,?_⟩
 exact Eb hS (fx2.trans (fx3.trans fx4)) (by omega) rfl ((fx4.2.2 S1.n (by omega) (by omega)).trans q2) (Xq hc hv g3 g4) fun T' _ _=>⟨.nl,KA [t,u] _ _⟩
theorem nF{f g:Fo}(hf:Pu f)(hg:Pu g)(hw:Fo.wt (A6 6 f g)≤n)(hb:n≤1000000000000000)(h1:bit (AY c f) s=true∨bit (AY c g) s=true):Ad Pg 31 [.p id 0 0,(A6 6 f g).av,aI s] S (V5 c id m S (A6 6 f g) s):=by
 refine E3 hS (DO ?_)
 dsimp only[XV,FD,Fi,Lf,Lt,Lc]
 rw[Fo.av,Fo.AE]
 have hid:=hS.hid
 have hm:=hS.hm
 refine Ai rfl fun S1 k1 n1 o1=>?_
 refine Ai rfl fun S2 k2 n2 o2=>?_
 have fx2:Fx c id m S S2:=Fx.AS hS (k1.trans k2)
 have p1:=(Kg k2 o1)
 rw[Ac,Af p1 rfl rfl]
 have hw2:4+(f.wt+g.wt)≤n:=by rw[FM 6 f g (by decide)]at hw;exact hw
 refine BT (by decide) ?_
 refine Hs rfl ?_
 rw[Ac,Af p1 rfl rfl]
 refine tP hc IH hf hg (by omega) (by omega) (by omega) (by omega) fx2.2.1 hv h1 (fun i t hi g=>M8 hc hv hi (.inl ⟨rfl,rfl⟩) g) fun t S3 g3 fx3=>?_
 exact K1 hS (fx2.trans fx3) (by omega) rfl ((fx3.2.2 S1.n (by omega) (by omega)).trans o2) g3
theorem nG{f:Fo}(hf:Pu f)(hw:Fo.wt (AT 9 f)≤n)(hb:n≤1000000000000000)(h1:∃ k:Nat,(k:Int)∈nx (At c) s∧bit (AY c f) k=true∧bit (AY c GV) k=true):Ad Pg 31 [.p id 0 0,(AT 9 f).av,aI s] S (V5 c id m S (AT 9 f) s):=by
 refine E3 hS (DO ?_)
 dsimp only[XV,FD,Fi,Lf,Lt,Lc]
 rw[Fo.av,Fo.AE]
 have hid:=hS.hid
 have hm:=hS.hm
 refine Ai rfl fun S1 k1 n1 o1=>?_
 refine Ai rfl fun S2 k2 n2 o2=>?_
 have fx2:Fx c id m S S2:=Fx.AS hS (k1.trans k2)
 have p1:=(Kg k2 o1)
 rw[Ac,Af p1 rfl rfl]
 have hw2:4+f.wt≤n:=by rw[Gv 9 f (by decide)]at hw;exact hw
 refine BT (by decide) ?_
 refine BT (by decide) ?_
 refine Hs rfl ?_
 rw[Ac,Af p1 rfl rfl,KX,Cd (Fo.Aj _)]
 refine Ab4 hc IH (by omega) hf (by omega) (by omega) fx2.2.1 hv h1 fun t S3 g3 fx3=>?_
 exact K1 hS (fx2.trans fx3) (by omega) rfl ((fx3.2.2 S1.n (by omega) (by omega)).trans o2) g3
theorem nK{f:Fo}(hf:Pu f)(hw:Fo.wt (AT 11 f)≤n)(hb:n≤1000000000000000)(h1:Rc (At c) (AY c IM) (Bm (AY c f) (AY c GV)) s):Ad Pg 31 [.p id 0 0,(AT 11 f).av,aI s] S (V5 c id m S (AT 11 f) s):=by
 refine E3 hS (DO ?_)
 dsimp only[XV,FD,Fi,Lf,Lt,Lc]
 rw[Fo.av,Fo.AE]
 have hid:=hS.hid
 have hm:=hS.hm
 refine Ai rfl fun S1 k1 n1 o1=>?_
 refine Ai rfl fun S2 k2 n2 o2=>?_
 have fx2:Fx c id m S S2:=Fx.AS hS (k1.trans k2)
 have p1:=(Kg k2 o1)
 rw[Ac,Af p1 rfl rfl]
 have hw2:4+f.wt≤n:=by rw[Gv 11 f (by decide)]at hw;exact hw
 refine BT (by decide) ?_
 refine BT (by decide) ?_
 refine BT (by decide) ?_
 refine Hs rfl ?_
 refine⟨_,fun U hU=>Ae VM ⟨rfl,rfl⟩,?_⟩
 refine⟨_,fun U hU=>by rw[Ac];exact⟨rfl,rfl⟩,?_⟩
 refine⟨_,fun U hU=>by rw[Af (Kg hU p1) rfl rfl];exact⟨rfl,rfl⟩,?_⟩
 refine⟨_,fun U hU=>by rw[KX];exact⟨rfl,rfl⟩,?_⟩
 refine⟨_,fun U hU=>by rw[Cd (Fo.Aj _)];exact⟨rfl,rfl⟩,?_⟩
 refine tO hc IH (by omega) AbZ hf (.inr ⟨rfl,rfl⟩) (by rw[Sx];omega) (by omega) (by rw[Sx];decide) (by omega) fx2.2.1 hv h1 fun t S3 g3 fx3=>?_
 exact K1 hS (fx2.trans fx3) (by omega) rfl ((fx3.2.2 S1.n (by omega) (by omega)).trans o2) g3
theorem nH{f g:Fo}(hf:Pu f)(hg:Pu g)(hw:Fo.wt (A6 15 f g)≤n)(hb:n≤1000000000000000)(h1:Rc (At c) (AY c f) (Bm (AY c g) (AY c GV)) s):Ad Pg 31 [.p id 0 0,(A6 15 f g).av,aI s] S (V5 c id m S (A6 15 f g) s):=by
 refine E3 hS (DO ?_)
 dsimp only[XV,FD,Fi,Lf,Lt,Lc]
 rw[Fo.av,Fo.AE]
 have hid:=hS.hid
 have hm:=hS.hm
 refine Ai rfl fun S1 k1 n1 o1=>?_
 refine Ai rfl fun S2 k2 n2 o2=>?_
 have fx2:Fx c id m S S2:=Fx.AS hS (k1.trans k2)
 have p1:=(Kg k2 o1)
 rw[Ac,Af p1 rfl rfl]
 have hw2:4+(f.wt+g.wt)≤n:=by rw[FM 15 f g (by decide)]at hw;exact hw
 refine BT (by decide) ?_
 refine BT (by decide) ?_
 refine BT (by decide) ?_
 refine BT (by decide) ?_
 refine Hs rfl ?_
 refine⟨_,fun U hU=>by rw[Ac];exact⟨rfl,rfl⟩,?_⟩
 refine⟨_,fun U hU=>by rw[Af (Kg hU p1) rfl rfl];exact⟨rfl,rfl⟩,?_⟩
 refine⟨_,fun U hU=>by rw[KX];exact⟨rfl,rfl⟩,?_⟩
 refine⟨_,fun U hU=>by rw[Cd (Fo.Aj _)];exact⟨rfl,rfl⟩,?_⟩
 refine⟨_,fun U hU=>by rw[Ac];exact⟨rfl,rfl⟩,?_⟩
 refine⟨_,fun U hU=>by rw[Af (Kg hU p1) rfl rfl];exact⟨rfl,rfl⟩,?_⟩
 refine⟨_,fun U hU=>by rw[RF];exact⟨rfl,rfl⟩,?_⟩
 refine⟨_,fun U hU=>by rw[Cd (Fo.Aj _)];exact⟨rfl,rfl⟩,?_⟩
 refine tO hc IH (by omega) hf hg (.inl rfl) (by omega) (by omega) (by omega) (by omega) fx2.2.1 hv h1 fun t S3 g3 fx3=>?_
 exact K1 hS (fx2.trans fx3) (by omega) rfl ((fx3.2.2 S1.n (by omega) (by omega)).trans o2) g3
theorem nI{f g:Fo}(hf:Pu f)(hg:Pu g)(hw:Fo.wt (A6 17 f g)≤n)(hb:n≤1000000000000000)(h1:bit (AY c (AT 13 g)) s=true∨bit (AY c (A6 15 g (A6 5 f g))) s=true):Ad Pg 31 [.p id 0 0,(A6 17 f g).av,aI s] S (V5 c id m S (A6 17 f g) s):=by
 refine E3 hS (DO ?_)
 dsimp only[XV,FD,Fi,Lf,Lt,Lc]
 rw[Fo.av,Fo.AE]
 have hid:=hS.hid
 have hm:=hS.hm
 refine Ai rfl fun S1 k1 n1 o1=>?_
 refine Ai rfl fun S2 k2 n2 o2=>?_
 have fx2:Fx c id m S S2:=Fx.AS hS (k1.trans k2)
 have p1:=(Kg k2 o1)
 rw[Ac,Af p1 rfl rfl]
 have hw2:6+(f.wt+g.wt)*2≤n:=by rw[AaM]at hw;exact hw
 have e1:(AT 13 g).wt=1+g.wt:=Gv 13 g (by decide)
 have e2:(A6 15 g (A6 5 f g)).wt=4+(g.wt+(1+(f.wt+g.wt))):=by rw[FM 15 _ _ (by decide),FM 5 _ _ (by decide)];rfl
 refine BT (by decide) ?_
 refine BT (by decide) ?_
 refine BT (by decide) ?_
 refine BT (by decide) ?_
 refine BT (by decide) ?_
 refine Hs rfl ?_
 refine⟨_,fun U hU=>by rw[Ac];exact⟨rfl,rfl⟩,?_⟩
 refine⟨_,fun U hU=>by rw[Af (Kg hU p1) rfl rfl];exact⟨rfl,rfl⟩,?_⟩
 refine⟨_,fun U hU=>by rw[KX];exact⟨rfl,rfl⟩,?_⟩
 refine⟨_,fun U hU=>by rw[Cd (Fo.Aj _)];exact⟨rfl,rfl⟩,?_⟩
 refine⟨_,fun U hU=>by rw[Ac];exact⟨rfl,rfl⟩,?_⟩
 refine⟨_,fun U hU=>by rw[Af (Kg hU p1) rfl rfl];exact⟨rfl,rfl⟩,?_⟩
 refine⟨_,fun U hU=>by rw[RF];exact⟨rfl,rfl⟩,?_⟩
 refine⟨_,fun U hU=>by rw[Cd (Fo.Aj _)];exact⟨rfl,rfl⟩,?_⟩
 refine AcC fun ia ib T2 k2' hi hi2 hj hj2 hij oi oj=>?_
 have q1:=(k2'.2 S.n (by omega)).trans p1
 have lT:=k2'.1
 refine AF (id:=ia) (cs':=f.row) oi (Fo.Aj f) rfl fun T3 n3 o3 f3=>?_
 have r1:=(f3 S.n (by omega)).trans q1
 refine⟨fun U hU=>by rw[Cd (Fo.Aj _)];exact⟨rfl,rfl⟩,fun U hU=>by rw[RF];exact⟨rfl,rfl⟩,fun U hU=>by rw[Af (Kg hU r1) rfl rfl];exact⟨rfl,rfl⟩,fun U hU=>by rw[Ac];exact⟨rfl,rfl⟩,?_⟩
 refine AF (id:=ib) (cs':=g.row) ((f3 _ (by omega)).trans oj) (Fo.Aj g) rfl fun T4 n4 o4 f4=>?_
 have oa:=(f4 ia (by omega)).trans o3
 have fx4:Fx c id m S T4:=((fx2.trans (Fx.AS fx2.2.1 k2')).st (x:=ia) (by omega) n3 f3 hS).st (x:=ib) (by omega) n4 f4 hS
 refine⟨_,fun U hU=>by show AA 4 (.p ib 0 0) U _;rw[An (n:=4) (Kg hU o4) (Fo.Aj _)];exact⟨rfl,rfl⟩,?_⟩
 refine⟨.l [g.row],fun U hU=>Gt (Fo.Aj _) ⟨rfl,rfl⟩,?_⟩
 refine⟨_,fun U hU=>Ae (OB 13 [g]) ⟨rfl,rfl⟩,?_⟩
 refine⟨_,fun U hU=>by show AA 4 (.p ib 0 0) U _;rw[An (n:=4) (Kg hU o4) (Fo.Aj _)];exact⟨rfl,rfl⟩,?_⟩
 refine⟨_,fun U hU=>by show AA 4 (.p ia 0 0) U _;rw[An (n:=4) (Kg hU oa) (Fo.Aj _)];exact⟨rfl,rfl⟩,?_⟩
 refine⟨_,fun U hU=>by show AA 4 (.p ib 0 0) U _;rw[An (n:=4) (Kg hU o4) (Fo.Aj _)];exact⟨rfl,rfl⟩,?_⟩
 refine⟨.l [f.row,g.row],fun U hU=>Fb (Fo.Aj _) (Fo.Aj _) ⟨rfl,rfl⟩,?_⟩
 refine⟨_,fun U hU=>Ae (OB 5 [f,g]) ⟨rfl,rfl⟩,?_⟩
 refine⟨.l [g.row,(A6 5 f g).row],fun U hU=>Fb (Fo.Aj _) (Fo.Aj _) ⟨rfl,rfl⟩,?_⟩
 refine⟨_,fun U hU=>Ae (OB 15 [g,A6 5 f g]) ⟨rfl,rfl⟩,?_⟩
 refine⟨.l [(AT 13 g).row,(A6 15 g (A6 5 f g)).row],fun U hU=>Fb (Fo.Aj _) (Fo.Aj _) ⟨rfl,rfl⟩,?_⟩
 refine tP hc IH (g0:=AT 13 g) (g1:=A6 15 g (A6 5 f g)) (.o _ _ (by decide) hg) (.t _ _ _ (by decide) hg (.t _ _ _ (by decide) hf hg)) (by omega) (by omega) (by omega) (by omega) fx4.2.1 hv h1 (fun i t hi g=>M8 hc hv hi (.inr ⟨rfl,rfl⟩) g) fun t S5 g5 fx5=>?_
 exact K1 hS (fx4.trans fx5) (by omega) rfl ((fx5.2.2 S1.n (by omega) (by omega)).trans ((f4 S1.n (by omega)).trans ((f3 S1.n (by omega)).trans ((k2'.2 S1.n (by omega)).trans o2)))) g5
theorem nJ{f:Fo}(hf:Pu f)(hw:Fo.wt (AT 13 f)≤n)(hb:n≤1000000000000000)(h0:bit (AY c (AT 13 f)) s=true):Ad Pg 31 [.p id 0 0,(AT 13 f).av,aI s] S (V5 c id m S (AT 13 f) s):=by
 refine E3 hS (DO ?_)
 dsimp only[XV,FD,Fi,Lf,Lt,Lc]
 rw[Fo.av,Fo.AE]
 have hid:=hS.hid
 have hm:=hS.hm
 refine Ai rfl fun S1 k1 n1 o1=>?_
 refine Ai rfl fun S2 k2 n2 o2=>?_
 have fx2:Fx c id m S S2:=Fx.AS hS (k1.trans k2)
 have p1:=(Kg k2 o1)
 rw[Ac,Af p1 rfl rfl]
 have hw2:1+f.wt≤n:=by rw[Gv 13 f (by decide)]at hw;exact hw
 obtain⟨hex,hsub⟩:=xP hc hf h0
 have hpf:Pu (AT 13 f):=.o _ _ (by decide) hf
 refine BT (by decide) ?_
 refine BT (by decide) ?_
 refine BT (by decide) ?_
 refine BT (by decide) ?_
 refine BT (by decide) ?_
 refine BT (by decide) ?_
 refine Hs rfl ?_
 rw[An (n:=4) p1 rfl]
 refine Mr hc fx2.2.1 hpf (by omega) fun S3 fx3=>?_
 have l3:=fx3.1
 have q1:=(fx3.2.2 S.n (by omega) (by omega)).trans p1
 have q2:=(fx3.2.2 S1.n (by omega) (by omega)).trans o2
 refine Ab3 hc fx3.2.1.o fx3.2.1.hid (FZ hpf) h0 hex fun r at_ lp hl=>?_
 rw[B2,BV,Ac,Af q1 rfl rfl,KX,Cd (Fo.Aj _)]
 refine bU IH hf (by omega) (by omega) fx3.2.1 (r:=r) (by omega) (fun i hi=>hsub _ (lp.by_ i hi)) fun x ts S4 wx gx fx4=>?_
 have l4:=fx4.1
 have hrp:=AiM.2 lp.pos
 have htl:=gx.YC.1
 obtain⟨dx,hxx,_,_,_⟩:=wx.ix (i:=0) (by rw[Ai8];omega)
 subst hxx
 rw[A7 (cs:=[aI 6,aI s,aI at_,aL aI (sI r),.s dx 0 (ts.map Tn.row).length]) rfl]
 refine Eb hS (fx2.trans (fx3.trans fx4)) (by omega) rfl ((fx4.2.2 S1.n (by omega) (by omega)).trans q2) (Xp hc hv lp (by omega) gx) fun T' n' f'=>⟨Df _ _ _,?_⟩
 exact Ef (fun r hr u hu=>by obtain⟨f,_,rfl⟩:=AiL.1 hr;exact Tn.tree f u hu) (wx.same (S':=T') (by omega) fun q hq hq2=>f' q (by omega)) (by omega)
theorem Xr :Ad Pg 31 [.p id 0 0,(IM).av,aI s] S (V5 c id m S (IM) s):=by
 refine E3 hS (DO ?_)
 dsimp only[XV,FD,Fi,Lf,Lt,Lc]
 rw[Fo.av,Fo.AE]
 have hid:=hS.hid
 have hm:=hS.hm
 refine Ai rfl fun S1 k1 n1 o1=>?_
 refine Ai rfl fun S2 k2 n2 o2=>?_
 have fx2:Fx c id m S S2:=Fx.AS hS (k1.trans k2)
 have p1:=(Kg k2 o1)
 rw[Ac,Af p1 rfl rfl]
 refine BT (by decide) ?_
 refine BT (by decide) ?_
 refine BT (by decide) ?_
 refine BT (by decide) ?_
 refine BT (by decide) ?_
 refine BT (by decide) ?_
 refine BT (by decide) ?_
 refine Hs rfl ?_
 rw[Ag,A9,A7 (cs:=[aI 1,aI s,aI 0,.nl,.nl]) rfl]
 exact Eb hS fx2 (by omega) rfl o2 (KZ hc hv (.inl rfl)) fun T' _ _=>⟨.nl,.nl⟩
theorem Xs{l:Int}(hl:DT c s l=true):Ad Pg 31 [.p id 0 0,(Fo.mk 3 ⟨#[]⟩ l []).av,aI s] S (V5 c id m S (Fo.mk 3 ⟨#[]⟩ l []) s):=by
 refine E3 hS (DO ?_)
 dsimp only[XV,FD,Fi,Lf,Lt,Lc]
 rw[Fo.av,Fo.AE]
 have hid:=hS.hid
 have hm:=hS.hm
 refine Ai rfl fun S1 k1 n1 o1=>?_
 refine Ai rfl fun S2 k2 n2 o2=>?_
 have fx2:Fx c id m S S2:=Fx.AS hS (k1.trans k2)
 have p1:=(Kg k2 o1)
 rw[Ac,Af p1 rfl rfl]
 refine BT (by decide) ?_
 refine BT (by decide) ?_
 refine BT (by decide) ?_
 refine BT (by decide) ?_
 refine BT (by decide) ?_
 refine BT (by decide) ?_
 refine BT (by decide) ?_
 refine BT (by decide) ?_
 refine Hs rfl ?_
 rw[Ag,A9,A7 (cs:=[aI 1,aI s,aI 0,.nl,.nl]) rfl]
 exact Eb hS fx2 (by omega) rfl o2 (KZ hc hv (.inr (.inl ⟨l,rfl,hl⟩))) fun T' _ _=>⟨.nl,.nl⟩
theorem bK{l:Int}(hl:DT c s l=false):Ad Pg 31 [.p id 0 0,(Fo.mk 4 ⟨#[]⟩ 0 [.mk 3 ⟨#[]⟩ l []]).av,aI s] S (V5 c id m S (Fo.mk 4 ⟨#[]⟩ 0 [.mk 3 ⟨#[]⟩ l []]) s):=by
 refine E3 hS (DO ?_)
 dsimp only[XV,FD,Fi,Lf,Lt,Lc]
 rw[Fo.av,Fo.AE]
 have hid:=hS.hid
 have hm:=hS.hm
 refine Ai rfl fun S1 k1 n1 o1=>?_
 refine Ai rfl fun S2 k2 n2 o2=>?_
 have fx2:Fx c id m S S2:=Fx.AS hS (k1.trans k2)
 have p1:=(Kg k2 o1)
 rw[Ac,Af p1 rfl rfl]
 refine BT (by decide) ?_
 refine BT (by decide) ?_
 refine BT (by decide) ?_
 refine BT (by decide) ?_
 refine BT (by decide) ?_
 refine BT (by decide) ?_
 refine BT (by decide) ?_
 refine BT (by decide) ?_
 refine BT (by decide) ?_
 refine Hs rfl ?_
 rw[A7 (cs:=[aI 1,aI s,aI 0,.nl,.nl]) rfl]
 exact Eb hS fx2 (by omega) rfl o2 (KZ hc hv (.inr (.inr ⟨l,rfl,hl⟩))) fun T' _ _=>⟨.nl,.nl⟩
theorem M9{k:Int}(hk:k=10∨k=12∨k=14∨k=16∨k=18)(ks:List Fo):Ad Pg 31 [.p id 0 0,(Fo.mk k ⟨#[]⟩ 0 ks).av,aI s] S (V5 c id m S (Fo.mk k ⟨#[]⟩ 0 ks) s):=by
 refine E3 hS (DO ?_)
 dsimp only[XV,FD,Fi,Lf,Lt,Lc]
 rw[Fo.av,Fo.AE]
 have hid:=hS.hid
 have hm:=hS.hm
 refine Ai rfl fun S1 k1 n1 o1=>?_
 refine Ai rfl fun S2 k2 n2 o2=>?_
 have fx2:Fx c id m S S2:=Fx.AS hS (k1.trans k2)
 have p1:=(Kg k2 o1)
 rw[Ac,Af p1 rfl rfl]
 refine BT (by omega) ?_
 refine BT (by omega) ?_
 refine BT (by omega) ?_
 refine BT (by omega) ?_
 refine BT (by omega) ?_
 refine BT (by omega) ?_
 refine BT (by omega) ?_
 refine BT (by omega) ?_
 refine BT (by omega) ?_
 refine BT (by omega) ?_
 rw[A7 (cs:=[aI 7,aI s,aI 0,.nl,.nl]) rfl]
 exact Eb hS fx2 (by omega) rfl o2 (T5 hc hv hk _ _ _) fun T' _ _=>⟨.nl,.nl⟩
end
theorem bM{c:Ci}(hc:Wc c):∀ n,n≤1000000000000000→xE c (n+1):=by
 intro n
 induction n with
 |zero =>
  intro _ f hf hw _ s h S id m hS
  exfalso
  cases hf with
  |c k hk=>have:=D3 k ⟨#[]⟩ 0 [];omega
  |a l h0 hl=>have:=D3 3 ⟨#[]⟩ l [];omega
  |n l h0 hl=>have:=D3 4 ⟨#[]⟩ 0 [.mk 3 ⟨#[]⟩ l []];omega
  |o k f hk hf=>have:=D3 k ⟨#[]⟩ 0 [f];omega
  |t k f g hk hf hg=>have:=D3 k ⟨#[]⟩ 0 [f,g];omega
 |succ n ih =>
  intro hn f hf hw hw2 s h S id m hS
  have IH:xE c (n+1):=fun{f} hf hw hw2 {s} h {S id m} hS=>ih (by omega) hf hw hw2 h hS
  have hv:=Yp hf h
  cases hf with
  |c k hk =>
   rcases hk with rfl|rfl
   ·exact absurd h (fun h=>Ab1 h)
   ·exact Xr hc IH hS hv
  |a l h0 hl=>exact Xs hc IH hS hv (Ab0 h)
  |n l h0 hl=>exact bK hc IH hS hv (AaZ h)
  |o k f hk hf =>
   have:k=9∨k=11∨k=13∨(k=10∨k=12∨k=14∨k=16∨k=18):=by omega
   rcases this with rfl|rfl|rfl|hh
   ·exact nG hc IH hS hv hf (Nat.le_of_lt_succ hw) (by omega) (AaX hc h)
   ·exact nK hc IH hS hv hf (Nat.le_of_lt_succ hw) (by omega) (xQ hc h)
   ·exact nJ hc IH hS hv hf (Nat.le_of_lt_succ hw) (by omega) h
   ·exact M9 hc IH hS hv hh _
  |t k f g hk hf hg =>
   have:k=5∨k=6∨k=15∨k=17∨(k=10∨k=12∨k=14∨k=16∨k=18):=by omega
   rcases this with rfl|rfl|rfl|rfl|hh
   ·exact bL hc IH hS hv hf hg (Nat.le_of_lt_succ hw) (by omega) (tM h).1 (tM h).2
   ·exact nF hc IH hS hv hf hg (Nat.le_of_lt_succ hw) (by omega) (AaY hf hg h)
   ·exact nH hc IH hS hv hf hg (Nat.le_of_lt_succ hw) (by omega) (xO hc h)
   ·exact nI hc IH hS hv hf hg (Nat.le_of_lt_succ hw) (by omega) (xN hf hg h)
   ·exact M9 hc IH hS hv hh _
set_option linter.unusedSectionVars false
theorem AgF:∀(f:Fo),f.ok→BH Pg 40 [f.av] (aB f.C7):=by
 intro f
 induction f using Fo.ind with
 |h k nm l ks ih =>
  intro hok S
  cases hok with
  |mk _ _ _ _ o1 o2 o3 o4 o5 =>
  refine Ad.Bt (qO ?_)
  dsimp only[m40,Oc,Fi,Lf]
  rw[Fo.Dh,Fo.av,Fo.AE]
  refine Ai rfl fun S1 k1 n1 p1=>?_
  rw[Ac,Af p1 rfl rfl]
  have no:∀(h:k=10∨k=12∨k=14∨k=16∨k=18),(lZ k && ks.all Fo.C7)=false:=fun h=>by
   rw[lZ,decide_eq_false (fun hn=>hn h)];rfl
  have no2:∀{j:Int} {A:AV→Aa→Prop} {B:Aa→Prop} {T:Aa},(k=j→A (aB true) T)→(¬ k=j→B T)→bin .eql 0 (.v (.int .i64 k)) (.v (.int .i64 j)) T (fun v S=>GI v fun b=>gd b (A v S) (B S)):=fun{j A B T} h1 h2=>by
   by_cases e:k=j
   ·exact Hs e (h1 e)
   ·exact BT e (h2 e)
  refine no2 (fun e=>?_) fun e1=>no2 (fun e=>?_) fun e2=>no2 (fun e=>?_) fun e3=>no2 (fun e=>?_) fun e4=>no2 (fun e=>?_) fun e5=>?_
  ·rw[Ag,A9];exact⟨by rw[no (by omega)],k1⟩
  ·rw[Ag,A9];exact⟨by rw[no (by omega)],k1⟩
  ·rw[Ag,A9];exact⟨by rw[no (by omega)],k1⟩
  ·rw[Ag,A9];exact⟨by rw[no (by omega)],k1⟩
  ·exact⟨by rw[no (by omega)],k1⟩
  have hop:lZ k=true:=decide_eq_true (by omega)
  rw[hop,Ai7]
  refine Z5 (fun z T=>T=S1∧∃ i:Nat,z=aI i∧i≤ks.length∧∀ j (hj:j<ks.length),j<i→ks[j].C7=true) (fun z _=>ks.length - ((Aw z).getD 0).toNat) ⟨rfl,0,rfl,Ai9 _,fun j _ hj=>absurd hj (AiF _)⟩ ?_
  dsimp only[BS]
  rintro _ T ⟨rfl,i,rfl,hi,hall⟩ KE hKE
  dsimp only[vI,Fi,Lf]
  rw[Ac,Af p1 rfl rfl,BJ,As,Ag]
  refine Al (fun hlt=>?_) (fun hge=>?_)
  ·have hlt:i<ks.length:=by have:=dT hlt;omega
   have hm:=Ai6 hlt
   rw[Ac,Af p1 rfl rfl,Cn hlt,Cd (Fo.Aj _)]
   refine Ae (ih _ hm (o5 _ hm)) ?_
   rw[AI,Ag]
   refine Al (fun h=>?_) (fun h=>?_)
   ·refine⟨?_,k1⟩
    have:ks.all Fo.C7=false:=Aj4.2 ⟨_,hm,by simpa using h⟩
    rw[this]
   ·rw[Ar (by omega) (by omega)]
    refine hKE _ _ ⟨rfl,i+1,rfl,hlt,fun j hj hji=>?_⟩ (by simp[Aw];omega)
    by_cases e:j=i
    ·subst e;simpa using h
    ·exact hall j hj (by omega)
  ·have hge:i=ks.length:=by have:=dF hge;omega
   subst hge
   refine⟨?_,k1⟩
   have:ks.all Fo.C7=true:=AiD.2 fun f hf=>by
    obtain⟨j,hj,rfl⟩:=Aj0 hf
    exact hall j hj hj
   rw[this]
def hasB (c:Ci) (f:Fo) (st:Int):Bool × Int:=if(BW c f).2=0 then if 0≤st∧st<(BW c f).1.length then(bit (BW c f).1 st.toNat,0)else(false,1)else(false,(BW c f).2)
theorem AgO{c:Ci}(hc:c.ok){f:Fo}(hf:f.ok)(st:Int):BH Pg 21 [c.av,f.av,aI st] (.t [aB (hasB c f st).1,aI (hasB c f st).2]):=by
 intro S
 refine Ad.tree (rF ?_)
 dsimp only[m21,Fi]
 refine Ai rfl fun S1 k1 n1 o1=>?_
 refine Ai (Fo.Aj f) fun S2 k2 n2 o2=>?_
 have kk:=k1.trans k2
 have fin:∀(b:Bool) (e:Int),hasB c f st=(b,e)→(∃ r,Bg.ret (.t [aB b,aI e]) = .ret r∧Am S S2∧Cv (S2.Bx (AK S.n)) S.n r (.t [aB (hasB c f st).1,aI (hasB c f st).2])):=fun b e h=>⟨_,rfl,kk,by rw[h];exact DN (.v _) (.v _)⟩
 rw[An (n:=8) (Kg k2 o1) rfl,An (n:=4) o2 (Fo.Aj f)]
 refine Ae (AgG hc hf) ?_
 rw[B2,BV,Bi,Ag]
 refine Al (fun h=>?_) (fun h=>?_)
 ·exact fin _ _ (by rw[hasB,if_neg (by simpa using h)])
 have h0:(BW c f).2=0:=by simpa using h
 rw[As,Ag]
 refine Al (fun h=>?_) (fun h=>?_)
 ·have:=dT h
  exact fin _ _ (by rw[hasB,if_pos h0,if_neg (by omega)])
 have h1:=dF h
 rw[Ay,BA,Ag]
 refine Al (fun h=>?_) (fun h=>?_)
 ·have:=dT h
  exact fin _ _ (by rw[hasB,if_pos h0,if_neg (by omega)])
 have h2:=dF h
 obtain⟨j,rfl⟩:=AiE (show 0≤st by omega)
 have hj:j<(BW c f).1.length:=by omega
 rw[AM hj,A3]
 exact fin _ _ (by rw[hasB,if_pos h0,if_pos ⟨by omega,by omega⟩,AiJ,Bc hj])
theorem sR(k:Int)(f:Fo):BH Pg 7 [aI k,f.av] (AT k f).av:=by
 intro S
 refine Ad.tree (zA ?_)
 unfold m7
 refine Ai (Fo.Aj f) fun S1 k1 n1 o1=>?_
 refine Ai rfl fun S2 k2 n2 o2=>?_
 rw[An (n:=4) (Kg k2 o1) (Fo.Aj f)]
 refine Gt (r:=f.row) (Fo.Aj _) ?_
 rw[A7 (cs:=[aI k,.v (.string ByteArray.empty),aI 0,Dx [f]]) rfl]
 refine AF (cs':=[aI k,.v (.string ByteArray.empty),aI 0,Dx [f]]) o2 rfl rfl fun S3 n3 o3 f3=>?_
 rw[An (n:=4) o3 rfl]
 refine⟨_,rfl,(k1.trans k2).st (by omega) n3 f3,?_⟩
 have:=Fo.tr (AT k f) (S3.Bx (AK S.n)) S.n
 rw[Fo.av,Fo.AE]at this ⊢
 exact this
theorem AgN:BH Pg 22 [(Tn.mk 0 0 0 [] []).av] (aB true):=by
 intro S
 refine Ad.Bt (rE ?_)
 dsimp only[m22,Fi,Lf]
 rw[Tn.av,Tn.AE]
 refine Ai rfl fun S1 k1 n1 o1=>?_
 rw[Ac,Af o1 rfl rfl,AD,Ag,Bd (by rfl),Ac,Af o1 rfl rfl,AD,Ag,Bd (by rfl),Ac,Af o1 rfl rfl,AD,Ag,Bd (by rfl),Ac,Af o1 rfl rfl,Ay,AD,Ag,Bd (by rfl),Ac,Af o1 rfl rfl,F6,AD]
 exact⟨rfl,k1⟩
theorem AgM{f:Fo}(hf:f.ok)(hm:f.BP 60=true):BH Pg 23 [f.av] (aB (f.push false).C7):=by
 intro S
 refine Ad.Bt (rD ?_)
 unfold m23
 have cp:=AgE hf
 rw[show Li f=f.push false by rw[Li,if_pos hm]]at cp
 refine Ai (Fo.Aj f) fun S1 k1 n1 o1=>?_
 rw[An (n:=4) o1 (Fo.Aj f)]
 refine Ae cp ?_
 exact Ae (AgF _ (LL f hf hm false).ok) ⟨rfl,k1⟩
section
set_option maxRecDepth 100000
def m13(x0 x1 x2:AV)(S:Aa)(Q:Aq):Prop:=
 Az 29 8 x0 S fun a S=>Az 32 4 x1 S fun c S=>Az 51 5 x2 S fun d S=>AA 8 a S fun e S=>AA 4 c S fun f S=>Ah Pg 33 [e,f] S Q fun g S=>un .not g S fun h S=>Fi h (Q (.ret (.t Jt)) S) (Lf a 0 S fun i S=>Lf a 1 S fun k S=>AG k S fun l S=>bin .add 0 i l S fun m S=>bin .gtr 0 m (aI 60) S fun n S=>Fi n (Q (.ret (.t Jt)) S) ((fun S0:Aa=>Lq S0 (AA 8 a) fun o=>Lq S0 (AA 4 c) fun p=>Ld S0 35 [p,.v (.bool false)] fun q=>Lq S0 (AA 5 d) fun r=>Ld S0 34 [o,q,r] fun s=>Lq S0 (A0 s 0) fun u=>Lq S0 (A0 s 1) fun w=>un .not w S fun x S=>Fi x (Q (.ret (.t Jt)) S) (Q (.ret (.t [u,.v (.bool true)])) S)) S))
theorem rM{x0 x1 x2:AV}{S:Aa}{Q:Aq}(h:m13 x0 x1 x2 S Q):Ad Pg 13 [x0,x1,x2] S Q:=
 Bl (n:=34) [[]] Tryz.func13 (by kernel_rfl) (Eq.mpr (by kernel_rfl) h)
abbrev Ex(a:AV)(S:Aa)(c d:AV)(Q:Aq):Prop:=Lf a 4 S fun e S=>AR 51 5 e (aI 0) S fun f S=>Lf f 1 S fun g S=>(fun S0:Aa=>Lq S0 (AA 8 c) fun h=>Lq S0 (shift d 3) fun i=>Lq S0 (Ax i) fun k=>Lq S0 (AR 32 4 k (aI 0)) fun l=>Lq S0 (AA 4 l) fun m=>Ld S0 77 [] fun n=>Ld S0 76 [n] fun o=>Lq S0 (AU 32 4 2 CK [(0,m),(1,o)]) fun p=>Lq S0 (AU 3 1 2 [aI 0] [(0,g),(1,g)]) fun q=>Lq S0 (shift a 4) fun r=>Lq S0 (Ax r) fun s=>Ld S0 74 [h,p,q,s] fun u=>Lq S0 (A0 u 0) fun v=>Lq S0 (A0 u 1) fun w=>Q (.ret (.t [v,w])) S) S
abbrev EX(S0:Aa)(v1 v3:AV)(S:Aa)(Q:Aq)(v2:AV):Prop:=Lq S0 (AA 8 v1) fun q224=>Lq S0 (shift v3 1) fun q226=>Lq S0 (Ax q226) fun q228=>Lq S0 (shift v3 4) fun q230=>Lq S0 (Ax q230) fun q232=>Lq S0 (AR 51 5 q232 (aI 0)) fun q234=>Lq S0 (shift q234 1) fun q236=>Lq S0 (Ax q236) fun q238=>Ld S0 75 [q224,q228,q238] fun q240=>Lq S0 (un .not q240) fun q242=>∃ q244:AV,(q242=q244∧S=S0)∧Fi q244 (Q (.ret (.t [aI 0,.v (.bool false)])) S) (Ex v3 S v1 v2 Q)
abbrev Ew(S0:Aa)(v3:AV)(S:Aa)(Q:Aq)(v1 v2:AV):Prop:=Lq S0 (shift v3 4) fun q279=>Lq S0 (Ax q279) fun q281=>Lq S0 (AG q281) fun q283=>Lq S0 (bin .neq 0 q283 (aI 2)) fun q285=>∃ q287:AV,(q285=q287∧S=S0)∧Fi q287 (∃ q289:AV,((.v (.bool true))=q289∧S=S0)∧Fi q289 (Q (.ret (.t [aI 0,.v (.bool false)])) S) (Ex v3 S v1 v2 Q)) (EX S0 v1 v3 S Q v2)
abbrev Ev(S:Aa)(S0:Aa)(Q:Aq)(v3 v1 v2:AV):Prop:=∃ q187:AV,((.v (.bool true))=q187∧S=S0)∧Fi q187 (∃ q189:AV,((.v (.bool true))=q189∧S=S0)∧Fi q189 (Q (.ret (.t [aI 0,.v (.bool false)])) S) (Ex v3 S v1 v2 Q)) (EX S0 v1 v3 S Q v2)
abbrev EW(S0:Aa)(v1 v3 v2:AV)(S:Aa)(Q:Aq):Prop:=Lq S0 (AA 8 v1) fun q53=>Lq S0 (shift v3 1) fun q55=>Lq S0 (Ax q55) fun q57=>Lq S0 (shift v2 3) fun q59=>Lq S0 (Ax q59) fun q61=>Lq S0 (AR 32 4 q61 (aI 0)) fun q63=>Lq S0 (shift q63 2) fun q65=>Lq S0 (Ax q65) fun q67=>Ld S0 27 [q53,q57,q67] fun q69=>Lq S0 (un .not q69) fun q71=>∃ q73:AV,(q71=q73∧S=S0)∧Q (.ret (.t [aI 0,q73])) S
abbrev EV(S0:Aa)(v3:AV)(S:Aa)(Q:Aq)(v1 v2:AV):Prop:=Lq S0 (shift v3 3) fun q379=>Lq S0 (Ax q379) fun q381=>Lq S0 (AG q381) fun q383=>Lq S0 (bin .gtr 0 q383 (aI 0)) fun q385=>∃ q387:AV,(q385=q387∧S=S0)∧Fi q387 (Ev S S0 Q v3 v1 v2) (Ew S0 v3 S Q v1 v2)
def Vg(x0 x1 x2:AV)(S:Aa)(Q:Aq):Prop:=
 Az 29 8 x0 S fun a S=>Az 32 4 x1 S fun c S=>Az 51 5 x2 S fun d S=>AA 8 a S fun e S=>Lf d 1 S fun f S=>Ah Pg 72 [e,f] S Q fun g S=>un .not g S fun h S=>Fi h (Q (.ret (.t Jt)) S) (Lf d 1 S fun i S=>AU 3 1 1 [aI 0] [(0,i)] S fun k S=>Lf c 0 S fun l S=>bin .eql 0 l (aI 2) S fun m S=>Fi m (Lf d 0 S fun n S=>bin .eql 0 n (aI 1) S fun o S=>Fi o (AA 5 d S fun p S=>Ah Pg 73 [p] S Q fun q S=>Q (.ret (.t [aI 0,q])) S) (Q (.ret (.t Jt)) S)) (bin .eql 0 l (aI 3) S fun r S=>Fi r (Lf d 0 S fun s S=>bin .eql 0 s (aI 1) S fun u S=>Fi u (AA 5 d S fun w S=>Ah Pg 73 [w] S Q fun x S=>Fi x (AA 8 a S fun y S=>Lf d 1 S fun z S=>Lf c 2 S fun A S=>Ah Pg 27 [y,z,A] S Q fun B S=>Q (.ret (.t [aI 0,B])) S) (Q (.ret (.t Jt)) S)) (Q (.ret (.t Jt)) S)) (bin .eql 0 l (aI 4) S fun C S=>Fi C ((fun S0:Aa=>Lq S0 (shift d 0) fun D=>Lq S0 (Ax D) fun E=>Lq S0 (bin .eql 0 E (aI 1)) fun F=>Fi F (Lq S0 (AA 5 d) fun G=>Ld S0 73 [G] fun H=>∃ I:AV,(H=I∧S=S0)∧Fi I (EW S0 a d c S Q) (∃ J:AV,((.v (.bool false))=J∧S=S0)∧Q (.ret (.t [aI 0,J])) S)) (∃ K:AV,((.v (.bool false))=K∧S=S0)∧Fi K (EW S0 a d c S Q) (∃ L:AV,((.v (.bool false))=L∧S=S0)∧Q (.ret (.t [aI 0,L])) S))) S) (bin .eql 0 l (aI 5) S fun M S=>Fi M (Lf d 0 S fun N S=>bin .neq 0 N (aI 2) S fun O S=>Fi O (Q (.ret (.t Jt)) S) (Lf d 2 S fun P S=>bin .neq 0 P (aI 0) S fun R S=>Fi R (Q (.ret (.t Jt)) S) (Lf d 3 S fun T S=>AG T S fun U S=>bin .gtr 0 U (aI 0) S fun V S=>Fi V (Q (.ret (.t Jt)) S) (AA 8 a S fun W S=>Lf c 3 S fun X S=>Lf d 1 S fun Y S=>Lf d 1 S fun Z S=>AU 3 1 2 [aI 0] [(0,Y),(1,Z)] S fun a0 S=>Lf d 4 S fun a1 S=>Ah Pg 74 [W,X,a0,a1] S Q fun a2 S=>A0 a2 0 S fun a3 S=>A0 a2 1 S fun a4 S=>Q (.ret (.t [a3,a4])) S)))) (bin .eql 0 l (aI 6) S fun a5 S=>Fi a5 (Lf d 0 S fun a6 S=>bin .neq 0 a6 (aI 3) S fun a7 S=>Fi a7 (Q (.ret (.t Jt)) S) (Lf d 2 S fun a8 S=>bin .lss 0 a8 (aI 0) S fun a9 S=>Fi a9 (Q (.ret (.t Jt)) S) (Lf d 2 S fun b0 S=>bin .gtr 0 b0 (aI 1) S fun b1 S=>Fi b1 (Q (.ret (.t Jt)) S) (Lf d 3 S fun b2 S=>AG b2 S fun b3 S=>bin .gtr 0 b3 (aI 0) S fun b4 S=>Fi b4 (Q (.ret (.t Jt)) S) ((fun S0:Aa=>Lq S0 (AA 8 a) fun b5=>Lq S0 (shift c 3) fun b6=>Lq S0 (Ax b6) fun b7=>Lq S0 (shift d 2) fun b8=>Lq S0 (Ax b8) fun b9=>Lq S0 (shift d 2) fun c0=>Lq S0 (Ax c0) fun c1=>Lq S0 (bin .add 0 c1 (aI 1)) fun c2=>Lq S0 (IJ 32 4 b7 (some b9) (some c2) none) fun c3=>Lq S0 (shift d 4) fun c4=>Lq S0 (Ax c4) fun c5=>Ld S0 74 [b5,c3,k,c5] fun c6=>Lq S0 (A0 c6 0) fun c7=>Lq S0 (A0 c6 1) fun c8=>Q (.ret (.t [c7,c8])) S) S))))) (bin .eql 0 l (aI 9) S fun c9 S=>Fi c9 ((fun S0:Aa=>Lq S0 (shift d 0) fun d0=>Lq S0 (Ax d0) fun d1=>Lq S0 (bin .neq 0 d1 (aI 4)) fun d2=>Fi d2 (∃ d3:AV,((.v (.bool true))=d3∧S=S0)∧Fi d3 (∃ d4:AV,((.v (.bool true))=d4∧S=S0)∧Fi d4 (Ev S S0 Q d a c) (Ew S0 d S Q a c)) (EV S0 d S Q a c)) (Lq S0 (shift d 2) fun d5=>Lq S0 (Ax d5) fun d6=>Lq S0 (bin .neq 0 d6 (aI 0)) fun d7=>∃ d8:AV,(d7=d8∧S=S0)∧Fi d8 (∃ d9:AV,((.v (.bool true))=d9∧S=S0)∧Fi d9 (Ev S S0 Q d a c) (Ew S0 d S Q a c)) (EV S0 d S Q a c))) S) (bin .eql 0 l (aI 11) S fun e0 S=>Fi e0 ((fun S0:Aa=>Lq S0 (AA 8 a) fun e1=>Ld S0 77 [] fun e2=>Lq S0 (shift c 3) fun e3=>Lq S0 (Ax e3) fun e4=>Lq S0 (AR 32 4 e4 (aI 0)) fun e5=>Lq S0 (AA 4 e5) fun e6=>Ld S0 79 [e2,e6] fun e7=>Lq S0 (AA 5 d) fun e8=>Ld S0 78 [e1,e7,e8] fun e9=>Lq S0 (A0 e9 0) fun f0=>Lq S0 (A0 e9 1) fun f1=>Q (.ret (.t [f0,f1])) S) S) (bin .eql 0 l (aI 15) S fun f2 S=>Fi f2 (AA 8 a S fun f3 S=>AA 4 c S fun f4 S=>AA 5 d S fun f5 S=>Ah Pg 78 [f3,f4,f5] S Q fun f6 S=>A0 f6 0 S fun f7 S=>A0 f6 1 S fun f8 S=>Q (.ret (.t [f7,f8])) S) (bin .eql 0 l (aI 13) S fun f9 S=>Fi f9 (AA 8 a S fun g0 S=>AA 4 c S fun g1 S=>AA 5 d S fun g2 S=>Ah Pg 80 [g0,g1,g2] S Q fun g3 S=>A0 g3 0 S fun g4 S=>A0 g3 1 S fun g5 S=>Q (.ret (.t [g4,g5])) S) (bin .eql 0 l (aI 17) S fun g6 S=>Fi g6 (Lf d 0 S fun g7 S=>bin .neq 0 g7 (aI 3) S fun g8 S=>Fi g8 (Q (.ret (.t Jt)) S) (Lf d 2 S fun g9 S=>bin .lss 0 g9 (aI 0) S fun h0 S=>Fi h0 (Q (.ret (.t Jt)) S) (Lf d 2 S fun h1 S=>bin .gtr 0 h1 (aI 1) S fun h2 S=>Fi h2 (Q (.ret (.t Jt)) S) (Lf d 3 S fun h3 S=>AG h3 S fun h4 S=>bin .gtr 0 h4 (aI 0) S fun h5 S=>Fi h5 (Q (.ret (.t Jt)) S) ((fun S0:Aa=>Lq S0 (shift c 3) fun h6=>Lq S0 (Ax h6) fun h7=>Lq S0 (AR 32 4 h7 (aI 1)) fun h8=>Lq S0 (AA 4 h8) fun h9=>Ld S0 76 [h9] fun i0=>Lq S0 (shift c 3) fun i1=>Lq S0 (Ax i1) fun i2=>Lq S0 (AR 32 4 i2 (aI 1)) fun i3=>Lq S0 (AA 4 i3) fun i4=>Lq S0 (shift c 3) fun i5=>Lq S0 (Ax i5) fun i6=>Lq S0 (AR 32 4 i6 (aI 0)) fun i7=>Lq S0 (AA 4 i7) fun i8=>Lq S0 (shift c 3) fun i9=>Lq S0 (Ax i9) fun k0=>Lq S0 (AR 32 4 k0 (aI 1)) fun k1=>Lq S0 (AA 4 k1) fun k2=>Ld S0 81 [aI 5,i8,k2] fun k3=>Ld S0 79 [i4,k3] fun k4=>Lq S0 (AU 32 4 2 CK [(0,i0),(1,k4)]) fun k5=>(fun S0:Aa=>Lq S0 (AA 8 a) fun k6=>Lq S0 (shift d 2) fun k7=>Lq S0 (Ax k7) fun k8=>Lq S0 (shift d 2) fun k9=>Lq S0 (Ax k9) fun l0=>Lq S0 (bin .add 0 l0 (aI 1)) fun l1=>Lq S0 (IJ 32 4 k5 (some k8) (some l1) none) fun l2=>Lq S0 (shift d 4) fun l3=>Lq S0 (Ax l3) fun l4=>Ld S0 74 [k6,l2,k,l4] fun l5=>Lq S0 (A0 l5 0) fun l6=>Lq S0 (A0 l5 1) fun l7=>Q (.ret (.t [l6,l7])) S) S) S))))) (bin .eql 0 l (aI 1) S fun l8 S=>Fi l8 (Q (.ret (.t Jt)) S) (Lf d 0 S fun l9 S=>bin .eql 0 l9 (aI 7) S fun aA S=>Fi aA (AA 5 d S fun aB S=>Ah Pg 73 [aB] S Q fun aC S=>Q (.ret (.t [aI 1,aC])) S) (Q (.ret (.t [aI 1,.v (.bool false)])) S)))))))))))))
theorem C1{x0 x1 x2:AV}{S:Aa}{Q:Aq}(h:Vg x0 x1 x2 S Q):Ad Pg 34 [x0,x1,x2] S Q:=
 Bl (n:=281) [[]] Tryz.func34 (by kernel_rfl) (Eq.mpr (by kernel_rfl) h)
end
set_option linter.unusedSectionVars false
theorem Sr{e:Nat}{z1 z2 z3 z4:AV}{r r2:List AV}{S0:Aa}{P:AV→Prop}(hr:r.length=4)(hr2:r2.length=4)(k:P (.l [r,r2])):∃ q,(AU e 4 2 [z1,z2,z3,z4] [(0,.a r),(1,.a r2)] S0 fun v S=>v=q∧S=S0)∧P q:=⟨_,Fb hr hr2 ⟨rfl,rfl⟩,k⟩
theorem AaH{e:Nat}{z:AV}{x y:Value}{S0:Aa}{P:AV→Prop}(hx:(AV.v x).one=true)(hy:(AV.v y).one=true)(k:P (.l [[.v x],[.v y]])):∃ q,(AU e 1 2 [z] [(0,.v x),(1,.v y)] S0 fun v S=>v=q∧S=S0)∧P q:=⟨_,fV hx hy ⟨rfl,rfl⟩,k⟩
theorem tD{e:Nat}{f:Fo}{l:List Fo}{S0:Aa}{P:AV→Prop}:(∃ q,(AR e 4 (Dx (f :: l)) (.v (.int .i64 0)) S0 fun v S=>v=q∧S=S0)∧P q)=P (.q f.row 0):=C5 (op:=fun K=>AR e 4 (Dx (f :: l)) (.v (.int .i64 0)) S0 K) fun K=>KX
theorem AhZ{e:Nat}{f g:Fo}{l:List Fo}{S0:Aa}{P:AV→Prop}:(∃ q,(AR e 4 (Dx (f :: g :: l)) (.v (.int .i64 1)) S0 fun v S=>v=q∧S=S0)∧P q)=P (.q g.row 0):=C5 (op:=fun K=>AR e 4 (Dx (f :: g :: l)) (.v (.int .i64 1)) S0 K) fun K=>RF
theorem Af7{e:Nat}{f:Tn}{l:List Tn}{S:Aa}{K:AV→Aa→Prop}:AR e 5 (Lg (f :: l)) (.v (.int .i64 0)) S K=K (.q f.row 0) S:=LQ (i:=0) (by simp)
theorem AhY{e:Nat}{f:Tn}{l:List Tn}{S0:Aa}{P:AV→Prop}:(∃ q,(AR e 5 (Lg (f :: l)) (.v (.int .i64 0)) S0 fun v S=>v=q∧S=S0)∧P q)=P (.q f.row 0):=C5 (op:=fun K=>AR e 5 (Lg (f :: l)) (.v (.int .i64 0)) S0 K) fun K=>Af7
theorem AaF{l:List Tn}{S0:Aa}{P:AV→Prop}:(∃ q,(AG (Lg l) S0 fun v S=>v=q∧S=S0)∧P q)=P (aI l.length):=C5 (op:=fun K=>AG (Lg l) S0 K) fun K=>F6 l
theorem Tn.Ab2(t:Tn):t.row[1]? = some (aI t.st):=by cases t;rw[Tn.AE];rfl
theorem kG{e:Nat}{f g:Fo}{S0:Aa}{P:AV→Prop}:(∃ q,(IJ e 4 (Dx [f,g]) (some (aI 0)) (some (aI 1)) none S0 fun v S=>v=q∧S=S0)∧P q)=P (Dx [f]):=C5 (op:=fun K=>IJ e 4 (Dx [f,g]) (some (aI 0)) (some (aI 1)) none S0 K) fun K=>by simp[IJ,LD,Aw,Dx,Fo.Aj]
theorem kF{e:Nat}{f g:Fo}{S0:Aa}{P:AV→Prop}:(∃ q,(IJ e 4 (Dx [f,g]) (some (aI 1)) (some (aI 2)) none S0 fun v S=>v=q∧S=S0)∧P q)=P (Dx [g]):=C5 (op:=fun K=>IJ e 4 (Dx [f,g]) (some (aI 1)) (some (aI 2)) none S0 K) fun K=>by simp[IJ,LD,Aw,Dx,Fo.Aj]
theorem UL{ss:List Int}:(¬ ss = [])→decide ((0:Int)<(ss.length:Int))=true:=fun h=>decide_eq_true (by have:=AiM.2 h;omega)
section
variable {c:Ci} (hc:Cs c) {ks:List Tn} (hk:ks.length≤1000000) (IH:∀ t∈ks,∀ f,Pu f→BH Pg 34 [c.av,f.av,t.av] (aR (t.acc c f))) {ss:List Int} (hs:ss.length≤1000000) (tk s a:Int)
include hc hk IH hs
theorem XL(hv:BZ c s=false):∀ f:Fo,BH Pg 34 [c.av,f.av,(Tn.mk tk s a ss ks).av] (aR (Tn.acc c (.mk tk s a ss ks) f)):=by
 rintro⟨k,nm,l,fs⟩
 rw[VU _ hv]
 intro S
 refine Ad.H0 (C1 ?_)
 dsimp only[Vg,EV,EW,Ev,Ew,EX,Ex,Fi,Lf,Lq,Ld]
 rw[Fo.av,Fo.AE,Tn.av,Tn.AE]
 refine Ai rfl fun S1 k1 n1 o1=>?_
 refine Ai rfl fun S2 k2 n2 o2=>?_
 refine Ai rfl fun S3 k3 n3 o3=>?_
 have kk:=(k1.trans k2).trans k3
 have p1:=(Kg k3 (Kg k2 o1))
 have p2:=(Kg k3 o2)
 rw[An (n:=8) p1 rfl,Ac,Af o3 rfl rfl]
 refine Ae (CW hc s) ?_
 rw[AI,hv,Ag,AO (b:=false) rfl]
 exact⟨rfl,kk⟩
variable (hv:BZ c s=true)
include hv
theorem sY :BH Pg 34 [c.av,(Fo.mk 2 ⟨#[]⟩ 0 []).av,(Tn.mk tk s a ss ks).av] (aR (Tn.acc c (.mk tk s a ss ks) (Fo.mk 2 ⟨#[]⟩ 0 []))):=by
 rw[VX hv]
 intro S
 refine Ad.H0 (C1 ?_)
 dsimp only[Vg,EV,EW,Ev,Ew,EX,Ex,Fi,Lf,Lq,Ld]
 rw[Fo.av,Fo.AE,Tn.av,Tn.AE]
 refine Ai rfl fun S1 k1 n1 o1=>?_
 refine Ai rfl fun S2 k2 n2 o2=>?_
 refine Ai rfl fun S3 k3 n3 o3=>?_
 have kk:=(k1.trans k2).trans k3
 have p1:=(Kg k3 (Kg k2 o1))
 have p2:=(Kg k3 o2)
 rw[An (n:=8) p1 rfl,Ac,Af o3 rfl rfl]
 refine Ae (CW hc s) ?_
 rw[AI,hv,Ag,AL (b:=true) rfl,Ac,Af o3 rfl rfl]
 refine BQ rfl (fun _ h=>by cases h) ?_
 rw[Ac,Af p2 rfl rfl]
 repeat (refine EI (by omega) ?_)
 refine CN rfl ?_
 have ce:=Hi tk s a ss ks
 rw[Tn.av,Tn.AE]at ce
 rw[Ac,Af o3 rfl rfl,AD,Ag]
 unfold Hg
 refine Al (fun h=>?_) (fun h=>⟨by rw[h];rfl,kk⟩)
 rw[h,Ai7,An (n:=5) o3 rfl]
 exact Ae ce ⟨rfl,kk⟩
theorem sX(l:Int)(hl:By l):BH Pg 34 [c.av,(Fo.mk 3 ⟨#[]⟩ l []).av,(Tn.mk tk s a ss ks).av] (aR (Tn.acc c (.mk tk s a ss ks) (Fo.mk 3 ⟨#[]⟩ l []))):=by
 rw[VW hv]
 intro S
 refine Ad.H0 (C1 ?_)
 dsimp only[Vg,EV,EW,Ev,Ew,EX,Ex,Fi,Lf,Lq,Ld]
 rw[Fo.av,Fo.AE,Tn.av,Tn.AE]
 refine Ai rfl fun S1 k1 n1 o1=>?_
 refine Ai rfl fun S2 k2 n2 o2=>?_
 refine Ai rfl fun S3 k3 n3 o3=>?_
 have kk:=(k1.trans k2).trans k3
 have p1:=(Kg k3 (Kg k2 o1))
 have p2:=(Kg k3 o2)
 rw[An (n:=8) p1 rfl,Ac,Af o3 rfl rfl]
 refine Ae (CW hc s) ?_
 rw[AI,hv,Ag,AL (b:=true) rfl,Ac,Af o3 rfl rfl]
 refine BQ rfl (fun _ h=>by cases h) ?_
 rw[Ac,Af p2 rfl rfl]
 repeat (refine EI (by omega) ?_)
 refine CN rfl ?_
 have ce:=Hi tk s a ss ks
 rw[Tn.av,Tn.AE]at ce
 rw[Ac,Af o3 rfl rfl,AD,Ag]
 unfold Hg
 refine Al (fun h=>?_) (fun h=>⟨by rw[h,AiC,AiC],kk⟩)
 rw[h,Ai7,An (n:=5) o3 rfl]
 refine Ae ce ?_
 rw[Ag]
 refine Al (fun h=>?_) (fun h=>⟨by rw[h,AiC],kk⟩)
 rw[h,Ai7,An (n:=8) p1 rfl,Ac,Af o3 rfl rfl,Ac,Af p2 rfl rfl]
 exact Ae (I5 hc.ok hl) ⟨rfl,kk⟩
theorem sW(l:Int)(hl:By l):BH Pg 34 [c.av,(Fo.mk 4 ⟨#[]⟩ 0 [.mk 3 ⟨#[]⟩ l []]).av,(Tn.mk tk s a ss ks).av] (aR (Tn.acc c (.mk tk s a ss ks) (Fo.mk 4 ⟨#[]⟩ 0 [.mk 3 ⟨#[]⟩ l []]))):=by
 rw[VV hv]
 intro S
 refine Ad.H0 (C1 ?_)
 dsimp only[Vg,EV,EW,Ev,Ew,EX,Ex,Fi,Lf,Lq,Ld]
 rw[Fo.av,Fo.AE,Tn.av,Tn.AE]
 refine Ai rfl fun S1 k1 n1 o1=>?_
 refine Ai rfl fun S2 k2 n2 o2=>?_
 refine Ai rfl fun S3 k3 n3 o3=>?_
 have kk:=(k1.trans k2).trans k3
 have p1:=(Kg k3 (Kg k2 o1))
 have p2:=(Kg k3 o2)
 rw[An (n:=8) p1 rfl,Ac,Af o3 rfl rfl]
 refine Ae (CW hc s) ?_
 rw[AI,hv,Ag,AL (b:=true) rfl,Ac,Af o3 rfl rfl]
 refine BQ rfl (fun _ h=>by cases h) ?_
 rw[Ac,Af p2 rfl rfl]
 repeat (refine EI (by omega) ?_)
 refine CN rfl ?_
 have ce:=Hi tk s a ss ks
 rw[Tn.av,Tn.AE]at ce
 have r2:(Fo.mk 3 ⟨#[]⟩ l []).row[2]? = some (aI l):=by rw[Fo.AE];rfl
 show ∃ q:AV,_
 unfold Hg
 by_cases e1:¬ tk=1
 ·rw[decide_eq_false e1,AiC,AiC]
  (repeat (first|with_reducible_and_instances (first|refine WJ ?_|refine W (A1 o3 (by with_unfolding_all rfl) (by with_unfolding_all rfl)) ?_|refine W (AN (by with_unfolding_all rfl)) ?_)))
  rw[decide_eq_false e1]
  (repeat (first|with_reducible_and_instances (first|refine WJ ?_|refine W (A1 o3 (by with_unfolding_all rfl) (by with_unfolding_all rfl)) ?_|refine W (AN (by with_unfolding_all rfl)) ?_)))
  exact⟨rfl,kk⟩
 have e1:=AiU.1 e1
 rw[decide_eq_true e1,Ai7]
 (repeat (first|with_reducible_and_instances (first|refine WJ ?_|refine W (A1 o3 (by with_unfolding_all rfl) (by with_unfolding_all rfl)) ?_|refine W (AN (by with_unfolding_all rfl)) ?_)))
 rw[decide_eq_true e1]
 (repeat (first|with_reducible_and_instances (first|refine WJ ?_|refine W (A1 o3 (by with_unfolding_all rfl) (by with_unfolding_all rfl)) ?_|refine W (Cx (n:=5) o3 (by with_unfolding_all rfl)) ?_|refine W (AN (by with_unfolding_all rfl)) ?_)|refine BG (ce) rfl rfl ?_|refine CX (ce) rfl rfl ?_))
 cases e2:decide (a=0∧ss.length=0∧ks.length=0)with
 |false =>
  (repeat (first|with_reducible_and_instances (first|refine WJ ?_|refine W (AN (by with_unfolding_all rfl)) ?_)))
  exact⟨rfl,kk⟩
 |true =>
  rw[Ai7]
  (repeat (first|with_reducible_and_instances (first|refine WJ ?_|refine W (A1 o3 (by with_unfolding_all rfl) (by with_unfolding_all rfl)) ?_|refine W (A1 p2 (by with_unfolding_all rfl) (by with_unfolding_all rfl)) ?_|refine W (Cx (n:=8) p1 (by with_unfolding_all rfl)) ?_|refine W (tD) ?_|refine W (AN r2) ?_|refine W (AN (by with_unfolding_all rfl)) ?_)|refine BG (I5 hc.ok (s:=s) hl) rfl rfl ?_|refine CX (I5 hc.ok (s:=s) hl) rfl rfl ?_))
  exact⟨rfl,kk⟩
theorem sV{f g:Fo}(hf:Pu f)(hg:Pu g):BH Pg 34 [c.av,(Fo.mk 5 ⟨#[]⟩ 0 [f,g]).av,(Tn.mk tk s a ss ks).av] (aR (Tn.acc c (.mk tk s a ss ks) (Fo.mk 5 ⟨#[]⟩ 0 [f,g]))):=by
 rw[j6 hv]
 intro S
 refine Ad.H0 (C1 ?_)
 dsimp only[Vg,EV,EW,Ev,Ew,EX,Ex,Fi,Lf,Lq,Ld]
 rw[Fo.av,Fo.AE,Tn.av,Tn.AE]
 refine Ai rfl fun S1 k1 n1 o1=>?_
 refine Ai rfl fun S2 k2 n2 o2=>?_
 refine Ai rfl fun S3 k3 n3 o3=>?_
 have kk:=(k1.trans k2).trans k3
 have p1:=(Kg k3 (Kg k2 o1))
 have p2:=(Kg k3 o2)
 rw[An (n:=8) p1 rfl,Ac,Af o3 rfl rfl]
 refine Ae (CW hc s) ?_
 rw[AI,hv,Ag,AL (b:=true) rfl,Ac,Af o3 rfl rfl]
 refine BQ rfl (fun _ h=>by cases h) ?_
 rw[Ac,Af p2 rfl rfl]
 repeat (refine EI (by omega) ?_)
 refine CN rfl ?_
 have ce:=Hi tk s a ss ks
 rw[Tn.av,Tn.AE]at ce
 have no:¬ (tk=2∧a=0∧ss = [])→∀ T,Am S T→Bg.ret (.t [aI 0,aB false]) = .ret (aR (if tk=2∧a=0∧ss = []then Tn.Ca c ks [f,g] [s,s] 0 else(0,false)))∧Am S T:=fun h T hT=>⟨by rw[if_neg h],hT⟩
 rw[Ac,Af o3 rfl rfl,Bi,Ag]
 by_cases e1:¬ tk=2
 ·rw[decide_eq_false e1]
  exact no (fun h=>e1 h.1) _ kk
 have e1:=AiU.1 e1
 rw[decide_eq_true e1,AL (b:=true) rfl,Ac,Af o3 rfl rfl,Bi,Ag]
 by_cases e2:¬ a=0
 ·rw[decide_eq_false e2]
  exact no (fun h=>e2 h.2.1) _ kk
 have e2:=AiU.1 e2
 rw[decide_eq_true e2,AL (b:=true) rfl,Ac,Af o3 rfl rfl,Ay,AP,Ag]
 by_cases e3:¬ ss = []
 ·rw[UL e3]
  exact no (fun h=>e3 h.2.2) _ kk
 have e3:=AiU.1 e3
 rw[if_pos ⟨e1,e2,e3⟩]
 clear no
 rw[show decide ((0:Int)<(ss.length:Int))=false from decide_eq_false (by simp[e3]),AZ,An (n:=8) p1 rfl,Ac,Af p2 rfl rfl,Ac,Af o3 rfl rfl,Ac,Af o3 rfl rfl]
 refine fV rfl rfl ?_
 rw[Ac,Af o3 rfl rfl]
 refine Ae (Hh hk IH (fs:=[f,g]) (fun x hx=>?_) [s,s]) ?_
 ·simp only[AiO,AiT,or_false]at hx
  rcases hx with rfl|rfl
  ·exact hf
  ·exact hg
 rw[Er rfl,Er rfl]
 exact⟨rfl,kk⟩
theorem sU{f g:Fo}(hf:Pu f)(hg:Pu g):BH Pg 34 [c.av,(Fo.mk 6 ⟨#[]⟩ 0 [f,g]).av,(Tn.mk tk s a ss ks).av] (aR (Tn.acc c (.mk tk s a ss ks) (Fo.mk 6 ⟨#[]⟩ 0 [f,g]))):=by
 rw[j5 hv]
 intro S
 refine Ad.H0 (C1 ?_)
 dsimp only[Vg,EV,EW,Ev,Ew,EX,Ex,Fi,Lf,Lq,Ld]
 rw[Fo.av,Fo.AE,Tn.av,Tn.AE]
 refine Ai rfl fun S1 k1 n1 o1=>?_
 refine Ai rfl fun S2 k2 n2 o2=>?_
 refine Ai rfl fun S3 k3 n3 o3=>?_
 have kk:=(k1.trans k2).trans k3
 have p1:=(Kg k3 (Kg k2 o1))
 have p2:=(Kg k3 o2)
 rw[An (n:=8) p1 rfl,Ac,Af o3 rfl rfl]
 refine Ae (CW hc s) ?_
 rw[AI,hv,Ag,AL (b:=true) rfl,Ac,Af o3 rfl rfl]
 refine BQ rfl (fun _ h=>by cases h) ?_
 rw[Ac,Af p2 rfl rfl]
 repeat (refine EI (by omega) ?_)
 refine CN rfl ?_
 have ce:=Hi tk s a ss ks
 rw[Tn.av,Tn.AE]at ce
 have no:¬ (tk=3∧0≤a∧a≤1∧ss = [])→∀ T,Am S T→Bg.ret (.t [aI 0,aB false]) = .ret (aR (if tk=3∧0≤a∧a≤1∧ss = []then Tn.Ca c ks [[f,g].getD a.toNat LU] [s] 0 else(0,false)))∧Am S T:=fun h T hT=>⟨by rw[if_neg h],hT⟩
 rw[Ac,Af o3 rfl rfl,Bi,Ag]
 by_cases e1:¬ tk=3
 ·rw[decide_eq_false e1]
  exact no (fun h=>e1 h.1) _ kk
 have e1:=AiU.1 e1
 rw[decide_eq_true e1,AL (b:=true) rfl,Ac,Af o3 rfl rfl,As,Ag]
 by_cases e2:a<0
 ·rw[decide_eq_true e2]
  exact no (fun h=>by omega) _ kk
 rw[decide_eq_false e2,AZ,Ac,Af o3 rfl rfl,AP,Ag]
 by_cases e4:1<a
 ·rw[decide_eq_true e4]
  exact no (fun h=>by omega) _ kk
 rw[decide_eq_false e4,AZ,Ac,Af o3 rfl rfl,Ay,AP,Ag]
 by_cases e3:¬ ss = []
 ·rw[UL e3]
  exact no (fun h=>e3 h.2.2.2) _ kk
 have e3:=AiU.1 e3
 rw[if_pos ⟨e1,by omega,by omega,e3⟩]
 clear no
 rw[show decide ((0:Int)<(ss.length:Int))=false from decide_eq_false (by simp[e3]),AZ]
 show ∃ q:AV,_
 have h01:a=0∨a=1:=by omega
 rcases h01 with rfl|rfl
 ·(repeat (first|with_reducible_and_instances (first|refine WJ ?_|refine W (A1 o3 (by with_unfolding_all rfl) (by with_unfolding_all rfl)) ?_|refine W (A1 p2 (by with_unfolding_all rfl) (by with_unfolding_all rfl)) ?_|refine W (Cx (n:=8) p1 (by with_unfolding_all rfl)) ?_|refine W (V4 (by decide) (by decide)) ?_|refine W (Nz (by with_unfolding_all rfl)) ?_|refine W (kG) ?_|refine W (AN (by with_unfolding_all rfl)) ?_)|refine BG (Hh hk IH (fs:=[f]) (fun x hx=>by rw[AiA.1 hx];exact hf) [s]) rfl rfl ?_|refine CX (Hh hk IH (fs:=[f]) (fun x hx=>by rw[AiA.1 hx];exact hf) [s]) rfl rfl ?_))
  exact⟨rfl,kk⟩
 ·(repeat (first|with_reducible_and_instances (first|refine WJ ?_|refine W (A1 o3 (by with_unfolding_all rfl) (by with_unfolding_all rfl)) ?_|refine W (A1 p2 (by with_unfolding_all rfl) (by with_unfolding_all rfl)) ?_|refine W (Cx (n:=8) p1 (by with_unfolding_all rfl)) ?_|refine W (V4 (by decide) (by decide)) ?_|refine W (Nz (by with_unfolding_all rfl)) ?_|refine W (kF) ?_|refine W (AN (by with_unfolding_all rfl)) ?_)|refine BG (Hh hk IH (fs:=[g]) (fun x hx=>by rw[AiA.1 hx];exact hg) [s]) rfl rfl ?_|refine CX (Hh hk IH (fs:=[g]) (fun x hx=>by rw[AiA.1 hx];exact hg) [s]) rfl rfl ?_))
  exact⟨rfl,kk⟩
theorem j7{f g:Fo}(hf:Pu f)(hg:Pu g):BH Pg 34 [c.av,(Fo.mk 17 ⟨#[]⟩ 0 [f,g]).av,(Tn.mk tk s a ss ks).av] (aR (Tn.acc c (.mk tk s a ss ks) (Fo.mk 17 ⟨#[]⟩ 0 [f,g]))):=by
 rw[Us hv]
 intro S
 refine Ad.H0 (C1 ?_)
 dsimp only[Vg,EV,EW,Ev,Ew,EX,Ex,Fi,Lf,Lq,Ld]
 rw[Fo.av,Fo.AE,Tn.av,Tn.AE]
 refine Ai rfl fun S1 k1 n1 o1=>?_
 refine Ai rfl fun S2 k2 n2 o2=>?_
 refine Ai rfl fun S3 k3 n3 o3=>?_
 have kk:=(k1.trans k2).trans k3
 have p1:=(Kg k3 (Kg k2 o1))
 have p2:=(Kg k3 o2)
 rw[An (n:=8) p1 rfl,Ac,Af o3 rfl rfl]
 refine Ae (CW hc s) ?_
 rw[AI,hv,Ag,AL (b:=true) rfl,Ac,Af o3 rfl rfl]
 refine BQ rfl (fun _ h=>by cases h) ?_
 rw[Ac,Af p2 rfl rfl]
 repeat (refine EI (by omega) ?_)
 refine CN rfl ?_
 have ce:=Hi tk s a ss ks
 rw[Tn.av,Tn.AE]at ce
 have no:¬ (tk=3∧0≤a∧a≤1∧ss = [])→∀ T,Am S T→Bg.ret (.t [aI 0,aB false]) = .ret (aR (if tk=3∧0≤a∧a≤1∧ss = []then Tn.Ca c ks [if a=0 then AT 13 g else A6 15 g (A6 5 f g)] [s] 0 else(0,false)))∧Am S T:=fun h T hT=>⟨by rw[if_neg h],hT⟩
 rw[Ac,Af o3 rfl rfl,Bi,Ag]
 by_cases e1:¬ tk=3
 ·rw[decide_eq_false e1]
  exact no (fun h=>e1 h.1) _ kk
 have e1:=AiU.1 e1
 rw[decide_eq_true e1,AL (b:=true) rfl,Ac,Af o3 rfl rfl,As,Ag]
 by_cases e2:a<0
 ·rw[decide_eq_true e2]
  exact no (fun h=>by omega) _ kk
 rw[decide_eq_false e2,AZ,Ac,Af o3 rfl rfl,AP,Ag]
 by_cases e4:1<a
 ·rw[decide_eq_true e4]
  exact no (fun h=>by omega) _ kk
 rw[decide_eq_false e4,AZ,Ac,Af o3 rfl rfl,Ay,AP,Ag]
 by_cases e3:¬ ss = []
 ·rw[UL e3]
  exact no (fun h=>e3 h.2.2.2) _ kk
 have e3:=AiU.1 e3
 rw[if_pos ⟨e1,by omega,by omega,e3⟩]
 clear no
 rw[show decide ((0:Int)<(ss.length:Int))=false from decide_eq_false (by simp[e3]),AZ]
 show ∃ q:AV,_
 (repeat (first|with_reducible_and_instances (first|refine WJ ?_|refine W (A1 p2 (by with_unfolding_all rfl) (by with_unfolding_all rfl)) ?_|refine W (tD) ?_|refine W (AhZ) ?_|refine W (UB (Fo.Aj _)) ?_|refine W (AN (by with_unfolding_all rfl)) ?_)|refine BG (Nk g) rfl rfl ?_|refine CX (Nk g) rfl rfl ?_|refine BG (Ez 5 f g) rfl rfl ?_|refine CX (Ez 5 f g) rfl rfl ?_|refine BG (VL g (A6 5 f g)) rfl rfl ?_|refine CX (VL g (A6 5 f g)) rfl rfl ?_|refine Sr (Fo.Aj _) (Fo.Aj _) ?_))
 have h01:a=0∨a=1:=by omega
 rcases h01 with rfl|rfl
 ·(repeat (first|with_reducible_and_instances (first|refine WJ ?_|refine W (A1 o3 (by with_unfolding_all rfl) (by with_unfolding_all rfl)) ?_|refine W (A1 p2 (by with_unfolding_all rfl) (by with_unfolding_all rfl)) ?_|refine W (Cx (n:=8) p1 (by with_unfolding_all rfl)) ?_|refine W (V4 (by decide) (by decide)) ?_|refine W (Nz (by with_unfolding_all rfl)) ?_|refine W (kG) ?_|refine W (AN (by with_unfolding_all rfl)) ?_)|refine BG (Hh hk IH (fs:=[AT 13 g]) (fun x hx=>by rw[AiA.1 hx];exact .o _ _ (by decide) hg) [s]) rfl rfl ?_|refine CX (Hh hk IH (fs:=[AT 13 g]) (fun x hx=>by rw[AiA.1 hx];exact .o _ _ (by decide) hg) [s]) rfl rfl ?_))
  exact⟨rfl,kk⟩
 ·(repeat (first|with_reducible_and_instances (first|refine WJ ?_|refine W (A1 o3 (by with_unfolding_all rfl) (by with_unfolding_all rfl)) ?_|refine W (A1 p2 (by with_unfolding_all rfl) (by with_unfolding_all rfl)) ?_|refine W (Cx (n:=8) p1 (by with_unfolding_all rfl)) ?_|refine W (V4 (by decide) (by decide)) ?_|refine W (Nz (by with_unfolding_all rfl)) ?_|refine W (kF) ?_|refine W (AN (by with_unfolding_all rfl)) ?_)|refine BG (Hh hk IH (fs:=[A6 15 g (A6 5 f g)]) (fun x hx=>by rw[AiA.1 hx];exact .t _ _ _ (by decide) hg (.t _ _ _ (by decide) hf hg)) [s]) rfl rfl ?_|refine CX (Hh hk IH (fs:=[A6 15 g (A6 5 f g)]) (fun x hx=>by rw[AiA.1 hx];exact .t _ _ _ (by decide) hg (.t _ _ _ (by decide) hf hg)) [s]) rfl rfl ?_))
  exact⟨rfl,kk⟩
theorem sT{f:Fo}(hf:Pu f):BH Pg 34 [c.av,(Fo.mk 9 ⟨#[]⟩ 0 [f]).av,(Tn.mk tk s a ss ks).av] (aR (Tn.acc c (.mk tk s a ss ks) (Fo.mk 9 ⟨#[]⟩ 0 [f]))):=by
 rw[j4 hv]
 intro S
 refine Ad.H0 (C1 ?_)
 dsimp only[Vg,EV,EW,Ev,Ew,EX,Ex,Fi,Lf,Lq,Ld]
 rw[Fo.av,Fo.AE,Tn.av,Tn.AE]
 refine Ai rfl fun S1 k1 n1 o1=>?_
 refine Ai rfl fun S2 k2 n2 o2=>?_
 refine Ai rfl fun S3 k3 n3 o3=>?_
 have kk:=(k1.trans k2).trans k3
 have p1:=(Kg k3 (Kg k2 o1))
 have p2:=(Kg k3 o2)
 rw[An (n:=8) p1 rfl,Ac,Af o3 rfl rfl]
 refine Ae (CW hc s) ?_
 rw[AI,hv,Ag,AL (b:=true) rfl,Ac,Af o3 rfl rfl]
 refine BQ rfl (fun _ h=>by cases h) ?_
 rw[Ac,Af p2 rfl rfl]
 repeat (refine EI (by omega) ?_)
 refine CN rfl ?_
 have ce:=Hi tk s a ss ks
 rw[Tn.av,Tn.AE]at ce
 have no:¬ (tk=4∧a=0∧ss = []∧(ks.map Tn.st).length=2∧BN c s ((ks.map Tn.st).getD 0 0)=true)→∀ T,Am S T→Bg.ret (.t [aI 0,aB false]) = .ret (aR (if tk=4∧a=0∧ss = []∧(ks.map Tn.st).length=2∧BN c s ((ks.map Tn.st).getD 0 0)=true then Tn.Ca c ks [[f].getD 0 LU,GV] [(ks.map Tn.st).getD 0 0,(ks.map Tn.st).getD 0 0] 0 else(0,false)))∧Am S T:=fun h T hT=>⟨by rw[if_neg h],hT⟩
 show ∃ q:AV,_
 (repeat (first|with_reducible_and_instances (first|refine WJ ?_|refine W (A1 o3 (by with_unfolding_all rfl) (by with_unfolding_all rfl)) ?_|refine W (AN (by with_unfolding_all rfl)) ?_)))
 by_cases e1:¬ tk=4
 ·rw[decide_eq_false e1,Bool.not_false]
  (repeat (first|with_reducible_and_instances (first|refine WJ ?_|refine W (AN (by with_unfolding_all rfl)) ?_)))
  exact no (fun h=>e1 h.1) _ kk
 have e1:=AiU.1 e1
 rw[decide_eq_true e1,Bool.not_true]
 (repeat (first|with_reducible_and_instances (first|refine WJ ?_|refine W (A1 o3 (by with_unfolding_all rfl) (by with_unfolding_all rfl)) ?_|refine W (AN (by with_unfolding_all rfl)) ?_)))
 by_cases e2:¬ a=0
 ·rw[decide_eq_false e2,Bool.not_false]
  (repeat (first|with_reducible_and_instances (first|refine WJ ?_|refine W (AN (by with_unfolding_all rfl)) ?_)))
  exact no (fun h=>e2 h.2.1) _ kk
 have e2:=AiU.1 e2
 rw[decide_eq_true e2,Bool.not_true]
 (repeat (first|with_reducible_and_instances (first|refine WJ ?_|refine W (A1 o3 (by with_unfolding_all rfl) (by with_unfolding_all rfl)) ?_|refine W (AN (by with_unfolding_all rfl)) ?_)))
 by_cases e3:¬ ss = []
 ·rw[UL e3]
  (repeat (first|with_reducible_and_instances (first|refine WJ ?_|refine W (AN (by with_unfolding_all rfl)) ?_)))
  exact no (fun h=>e3 h.2.2.1) _ kk
 have e3:=AiU.1 e3
 rw[show decide ((0:Int)<(ss.length:Int))=false from decide_eq_false (by simp[e3])]
 (repeat (first|with_reducible_and_instances (first|refine WJ ?_|refine W (A1 o3 (by with_unfolding_all rfl) (by with_unfolding_all rfl)) ?_|refine W (AaF) ?_|refine W (AN (by with_unfolding_all rfl)) ?_)))
 by_cases e4:¬ ks.length=2
 ·rw[show decide ((ks.length:Int)=2)=false from decide_eq_false (by omega),Bool.not_false]
  (repeat (first|with_reducible_and_instances (first|refine WJ ?_|refine W (AN (by with_unfolding_all rfl)) ?_)))
  exact no (fun h=>e4 (by have:=h.2.2.2.1;rwa [Ai8]at this)) _ kk
 have e4:=AiU.1 e4
 rw[show decide ((ks.length:Int)=2)=true from decide_eq_true (by omega),Bool.not_true]
 obtain⟨t0,t1,rfl⟩:∃ t0 t1,ks = [t0,t1]:=by
  match ks,e4 with
  |[t0,t1],_=>exact⟨t0,t1,rfl⟩
 (repeat (first|with_reducible_and_instances (first|refine WJ ?_|refine W (A1 o3 (by with_unfolding_all rfl) (by with_unfolding_all rfl)) ?_|refine W (Cx (n:=8) p1 (by with_unfolding_all rfl)) ?_|refine W (AhY) ?_|refine W (AN (Tn.Ab2 _)) ?_|refine W (AN (by with_unfolding_all rfl)) ?_)|refine BG (Ks hc s t0.st) rfl rfl ?_|refine CX (Ks hc s t0.st) rfl rfl ?_))
 cases e5:BN c s t0.st with
 |false =>
  rw[Bool.not_false]
  (repeat (first|with_reducible_and_instances (first|refine WJ ?_|refine W (AN (by with_unfolding_all rfl)) ?_)))
  exact no (fun h=>by rw[show([t0,t1].map Tn.st).getD 0 0=t0.st from rfl,e5]at h;cases h.2.2.2.2) _ kk
 |true =>
  rw[Bool.not_true]
  have hall:=Hh hk IH (fs:=[f,GV]) (fun x hx=>by
   simp only[AiO,AiT,or_false]at hx
   rcases hx with rfl|rfl
   ·exact hf
   ·exact .o _ _ (by decide) (.c _ (by decide))) [t0.st,t0.st]
  (repeat (first|with_reducible_and_instances (first|refine WJ ?_|refine W (A1 o3 (by with_unfolding_all rfl) (by with_unfolding_all rfl)) ?_|refine W (Af o3 (by with_unfolding_all rfl) (by with_unfolding_all rfl)) ?_|refine W (Af7) ?_|refine W (AN (by with_unfolding_all rfl)) ?_)))
  have ld1q:∀ K:AV→Aa→Prop,Ax (.q t0.row 1) S3 K=K (aI t0.st) S3:=fun K=>by simp[Ax,SJ,place,Tn.Ab2]
  (repeat (first|with_reducible_and_instances (first|refine WJ ?_|refine W (A1 o3 (by with_unfolding_all rfl) (by with_unfolding_all rfl)) ?_|refine W (ld1q _) ?_|refine W (AN (by with_unfolding_all rfl)) ?_)))
  (repeat (first|with_reducible_and_instances (first|refine WJ ?_|refine W (A1 o3 (by with_unfolding_all rfl) (by with_unfolding_all rfl)) ?_|refine W (A1 p2 (by with_unfolding_all rfl) (by with_unfolding_all rfl)) ?_|refine W (Cx (n:=8) p1 (by with_unfolding_all rfl)) ?_|refine W (tD) ?_|refine W (UB (Fo.Aj _)) ?_|refine W (Nz (by with_unfolding_all rfl)) ?_|refine W (AN (by with_unfolding_all rfl)) ?_)|refine BG (Nj) rfl rfl ?_|refine CX (Nj) rfl rfl ?_|refine BG (Nk IM) rfl rfl ?_|refine CX (Nk IM) rfl rfl ?_|refine Sr (Fo.Aj _) (Fo.Aj _) ?_|refine AaH rfl rfl ?_|refine BG (hall) rfl rfl ?_|refine CX (hall) rfl rfl ?_))
  exact⟨by rw[if_pos ⟨e1,e2,e3,rfl,e5⟩];rfl,kk⟩
theorem kA{f:Fo}(hf:Pu f):BH Pg 34 [c.av,(Fo.mk 11 ⟨#[]⟩ 0 [f]).av,(Tn.mk tk s a ss ks).av] (aR (Tn.acc c (.mk tk s a ss ks) (Fo.mk 11 ⟨#[]⟩ 0 [f]))):=by
 rw[Uv hv]
 intro S
 refine Ad.H0 (C1 ?_)
 dsimp only[Vg,EV,EW,Ev,Ew,EX,Ex,Fi,Lf,Lq,Ld]
 rw[Fo.av,Fo.AE,Tn.av,Tn.AE]
 refine Ai rfl fun S1 k1 n1 o1=>?_
 refine Ai rfl fun S2 k2 n2 o2=>?_
 refine Ai rfl fun S3 k3 n3 o3=>?_
 have kk:=(k1.trans k2).trans k3
 have p1:=(Kg k3 (Kg k2 o1))
 have p2:=(Kg k3 o2)
 rw[An (n:=8) p1 rfl,Ac,Af o3 rfl rfl]
 refine Ae (CW hc s) ?_
 rw[AI,hv,Ag,AL (b:=true) rfl,Ac,Af o3 rfl rfl]
 refine BQ rfl (fun _ h=>by cases h) ?_
 rw[Ac,Af p2 rfl rfl]
 repeat (refine EI (by omega) ?_)
 refine CN rfl ?_
 have ce:=Hi tk s a ss ks
 rw[Tn.av,Tn.AE]at ce
 have cp:=wN hc hk IH (f0:=IM) (.c _ (by decide)) hf 15 0 ⟨#[]⟩ hs tk s a
 rw[Tn.av,Tn.AE]at cp
 show ∃ q:AV,_
 (repeat (first|with_reducible_and_instances (first|refine WJ ?_|refine W (A1 o3 (by with_unfolding_all rfl) (by with_unfolding_all rfl)) ?_|refine W (A1 p2 (by with_unfolding_all rfl) (by with_unfolding_all rfl)) ?_|refine W (Cx (n:=8) p1 (by with_unfolding_all rfl)) ?_|refine W (Cx (n:=5) o3 (by with_unfolding_all rfl)) ?_|refine W (tD) ?_|refine W (UB (Fo.Aj _)) ?_|refine W (Nz (by with_unfolding_all rfl)) ?_|refine W (AN (by with_unfolding_all rfl)) ?_)|refine BG (Nj) rfl rfl ?_|refine CX (Nj) rfl rfl ?_|refine BG (VL IM f) rfl rfl ?_|refine CX (VL IM f) rfl rfl ?_|refine BG (cp) rfl rfl ?_|refine CX (cp) rfl rfl ?_))
 exact⟨rfl,kk⟩
theorem j8{f g:Fo}(hf:Pu f)(hg:Pu g):BH Pg 34 [c.av,(Fo.mk 15 ⟨#[]⟩ 0 [f,g]).av,(Tn.mk tk s a ss ks).av] (aR (Tn.acc c (.mk tk s a ss ks) (Fo.mk 15 ⟨#[]⟩ 0 [f,g]))):=by
 rw[Ut hv]
 intro S
 refine Ad.H0 (C1 ?_)
 dsimp only[Vg,EV,EW,Ev,Ew,EX,Ex,Fi,Lf,Lq,Ld]
 rw[Fo.av,Fo.AE,Tn.av,Tn.AE]
 refine Ai rfl fun S1 k1 n1 o1=>?_
 refine Ai rfl fun S2 k2 n2 o2=>?_
 refine Ai rfl fun S3 k3 n3 o3=>?_
 have kk:=(k1.trans k2).trans k3
 have p1:=(Kg k3 (Kg k2 o1))
 have p2:=(Kg k3 o2)
 rw[An (n:=8) p1 rfl,Ac,Af o3 rfl rfl]
 refine Ae (CW hc s) ?_
 rw[AI,hv,Ag,AL (b:=true) rfl,Ac,Af o3 rfl rfl]
 refine BQ rfl (fun _ h=>by cases h) ?_
 rw[Ac,Af p2 rfl rfl]
 repeat (refine EI (by omega) ?_)
 refine CN rfl ?_
 have ce:=Hi tk s a ss ks
 rw[Tn.av,Tn.AE]at ce
 have cp:=wN hc hk IH hf hg 15 0 ⟨#[]⟩ hs tk s a
 rw[Fo.av,Fo.AE,Tn.av,Tn.AE]at cp
 rw[An (n:=8) p1 rfl,An (n:=4) p2 rfl,An (n:=5) o3 rfl]
 refine Ae cp ?_
 rw[Er rfl,Er rfl]
 exact⟨rfl,kk⟩
theorem j9{f:Fo}(hf:Pu f):BH Pg 34 [c.av,(Fo.mk 13 ⟨#[]⟩ 0 [f]).av,(Tn.mk tk s a ss ks).av] (aR (Tn.acc c (.mk tk s a ss ks) (Fo.mk 13 ⟨#[]⟩ 0 [f]))):=by
 rw[Uu hv]
 intro S
 refine Ad.H0 (C1 ?_)
 dsimp only[Vg,EV,EW,Ev,Ew,EX,Ex,Fi,Lf,Lq,Ld]
 rw[Fo.av,Fo.AE,Tn.av,Tn.AE]
 refine Ai rfl fun S1 k1 n1 o1=>?_
 refine Ai rfl fun S2 k2 n2 o2=>?_
 refine Ai rfl fun S3 k3 n3 o3=>?_
 have kk:=(k1.trans k2).trans k3
 have p1:=(Kg k3 (Kg k2 o1))
 have p2:=(Kg k3 o2)
 rw[An (n:=8) p1 rfl,Ac,Af o3 rfl rfl]
 refine Ae (CW hc s) ?_
 rw[AI,hv,Ag,AL (b:=true) rfl,Ac,Af o3 rfl rfl]
 refine BQ rfl (fun _ h=>by cases h) ?_
 rw[Ac,Af p2 rfl rfl]
 repeat (refine EI (by omega) ?_)
 refine CN rfl ?_
 have ce:=Hi tk s a ss ks
 rw[Tn.av,Tn.AE]at ce
 have cp:=Ag9 hc hk IH hf 13 0 ⟨#[]⟩ hs tk s a
 rw[Fo.av,Fo.AE,Tn.av,Tn.AE]at cp
 rw[An (n:=8) p1 rfl,An (n:=4) p2 rfl,An (n:=5) o3 rfl]
 refine Ae cp ?_
 rw[Er rfl,Er rfl]
 exact⟨rfl,kk⟩
theorem sZ :BH Pg 34 [c.av,(Fo.mk 1 ⟨#[]⟩ 0 []).av,(Tn.mk tk s a ss ks).av] (aR (Tn.acc c (.mk tk s a ss ks) (Fo.mk 1 ⟨#[]⟩ 0 []))):=by
 rw[wV hv]
 intro S
 refine Ad.H0 (C1 ?_)
 dsimp only[Vg,EV,EW,Ev,Ew,EX,Ex,Fi,Lf,Lq,Ld]
 rw[Fo.av,Fo.AE,Tn.av,Tn.AE]
 refine Ai rfl fun S1 k1 n1 o1=>?_
 refine Ai rfl fun S2 k2 n2 o2=>?_
 refine Ai rfl fun S3 k3 n3 o3=>?_
 have kk:=(k1.trans k2).trans k3
 have p1:=(Kg k3 (Kg k2 o1))
 have p2:=(Kg k3 o2)
 rw[An (n:=8) p1 rfl,Ac,Af o3 rfl rfl]
 refine Ae (CW hc s) ?_
 rw[AI,hv,Ag,AL (b:=true) rfl,Ac,Af o3 rfl rfl]
 refine BQ rfl (fun _ h=>by cases h) ?_
 rw[Ac,Af p2 rfl rfl]
 repeat (refine EI (by omega) ?_)
 refine CN rfl ?_
 have ce:=Hi tk s a ss ks
 rw[Tn.av,Tn.AE]at ce
 exact⟨rfl,kk⟩
theorem VY{k:Int}(hk7:k=10∨k=12∨k=14∨k=16∨k=18)(fs:List Fo):BH Pg 34 [c.av,(Fo.mk k ⟨#[]⟩ 0 fs).av,(Tn.mk tk s a ss ks).av] (aR (Tn.acc c (.mk tk s a ss ks) (Fo.mk k ⟨#[]⟩ 0 fs))):=by
 rw[VT hk7 hv]
 intro S
 refine Ad.H0 (C1 ?_)
 dsimp only[Vg,EV,EW,Ev,Ew,EX,Ex,Fi,Lf,Lq,Ld]
 rw[Fo.av,Fo.AE,Tn.av,Tn.AE]
 refine Ai rfl fun S1 k1 n1 o1=>?_
 refine Ai rfl fun S2 k2 n2 o2=>?_
 refine Ai rfl fun S3 k3 n3 o3=>?_
 have kk:=(k1.trans k2).trans k3
 have p1:=(Kg k3 (Kg k2 o1))
 have p2:=(Kg k3 o2)
 rw[An (n:=8) p1 rfl,Ac,Af o3 rfl rfl]
 refine Ae (CW hc s) ?_
 rw[AI,hv,Ag,AL (b:=true) rfl,Ac,Af o3 rfl rfl]
 refine BQ rfl (fun _ h=>by cases h) ?_
 rw[Ac,Af p2 rfl rfl]
 repeat (refine EI (by omega) ?_)
 have ce:=Hi tk s a ss ks
 rw[Tn.av,Tn.AE]at ce
 rw[Ac,Af o3 rfl rfl,AD,Ag]
 unfold Hg
 refine Al (fun h=>?_) (fun h=>⟨by rw[h];rfl,kk⟩)
 rw[h,Ai7,An (n:=5) o3 rfl]
 exact Ae ce ⟨rfl,kk⟩
omit hv
theorem AgR{f:Fo}(hf:Pu f):BH Pg 34 [c.av,f.av,(Tn.mk tk s a ss ks).av] (aR (Tn.acc c (.mk tk s a ss ks) f)):=by
 cases hv:BZ c s with
 |false=>exact XL hc hk IH hs tk s a hv f
 |true =>
  cases hf with
  |c k h =>
   rcases h with rfl|rfl
   ·exact sZ hc hk IH hs tk s a hv
   ·exact sY hc hk IH hs tk s a hv
  |a l h0 hl=>exact sX hc hk IH hs tk s a hv l hl
  |n l h0 hl=>exact sW hc hk IH hs tk s a hv l hl
  |o k f h hf =>
   have:k=9∨k=11∨k=13∨(k=10∨k=12∨k=14∨k=16∨k=18):=by omega
   rcases this with rfl|rfl|rfl|h
   ·exact sT hc hk IH hs tk s a hv hf
   ·exact kA hc hk IH hs tk s a hv hf
   ·exact j9 hc hk IH hs tk s a hv hf
   ·exact VY hc hk IH hs tk s a hv h _
  |t k f g h hf hg =>
   have:k=5∨k=6∨k=15∨k=17∨(k=10∨k=12∨k=14∨k=16∨k=18):=by omega
   rcases this with rfl|rfl|rfl|rfl|h
   ·exact sV hc hk IH hs tk s a hv hf hg
   ·exact sU hc hk IH hs tk s a hv hf hg
   ·exact j8 hc hk IH hs tk s a hv hf hg
   ·exact j7 hc hk IH hs tk s a hv hf hg
   ·exact VY hc hk IH hs tk s a hv h _
end
theorem wQ{c:Ci}(hc:Cs c):∀ t:Tn,t.ok→∀ f,Pu f→BH Pg 34 [c.av,f.av,t.av] (aR (t.acc c f)):=by
 intro t
 induction t using Tn.ind with
 |h tk s a ss ks ih =>
  intro ht f hf
  cases ht with
  |mk _ _ _ _ _ h1 h2 h3 h4 h5 h6 h7=>exact AgR hc h6 (fun t ht f hf=>ih t ht (h7 t ht) f hf) h4 tk s a hf
set_option linter.unusedSectionVars false
def FL (c:Ci) (f:Fo) (t:Tn):Int × Bool:=
 if DU c f=false∨60<c.gr.inputs then(0,false)else if(t.acc c (f.push false)).2=true then t.acc c (f.push false)else(0,false)
theorem F4{c:Ci}{f:Fo}(h:DU c f=true):c.right=true∧f.BP 60=true:=by
 unfold DU at h
 rw[Ai5,Ai5]at h
 exact⟨h.1,h.2.1⟩
theorem VQ{c:Ci}(hc:c.ok){f:Fo}(hf:f.ok){t:Tn}(ht:t.ok):BH Pg 13 [c.av,f.av,t.av] (aR (FL c f t)):=by
 intro S
 refine Ad.H0 (rM ?_)
 dsimp only[m13,Fi,Lf,Lq,Ld];unfold FL
 refine Ai rfl fun S1 k1 n1 o1=>?_
 refine Ai (Fo.Aj f) fun S2 k2 n2 o2=>?_
 refine Ai (Tn.Aj t) fun S3 k3 n3 o3=>?_
 have kk:=(k1.trans k2).trans k3
 have p1:=(Kg k3 (Kg k2 o1))
 have p2:=(Kg k3 o2)
 rw[An (n:=8) p1 rfl,An (n:=4) p2 (Fo.Aj f)]
 refine Ae (wR hc hf) ?_
 rw[AI,Ag]
 cases hm:DU c f with
 |false =>
  rw[if_pos (.inl rfl)]
  exact⟨rfl,kk⟩
 |true =>
 rw[AL (b:=true) rfl]
 obtain⟨hr,hmay⟩:=F4 hm
 obtain⟨g1,g2,g3⟩:=CJ hr
 rw[Ac,Af p1 rfl rfl,Ac,Af p1 rfl rfl,Bv,Ar (by omega) (by omega),←g1,AP,Ag]
 by_cases e1:60<c.gr.inputs
 ·rw[decide_eq_true e1,if_pos (.inr e1)]
  exact⟨rfl,kk⟩
 rw[decide_eq_false e1,AZ,if_neg (by rintro(h|h);cases h;exact e1 h)]
 have hcs:Cs c:=⟨hc,hr,by omega⟩
 have hpu:=LL f hf hmay false
 show ∃ q:AV,_
 (repeat (first|with_reducible_and_instances (first|refine WJ ?_|refine W (Cx (n:=8) p1 (by with_unfolding_all rfl)) ?_|refine W (Cx (n:=4) p2 (Fo.Aj f)) ?_|refine W (Cx (n:=5) o3 (Tn.Aj t)) ?_|refine W (Nz (by with_unfolding_all rfl)) ?_|refine W (AN (by with_unfolding_all rfl)) ?_)|refine BG (jQ f hf hmay false) rfl rfl ?_|refine CX (jQ f hf hmay false) rfl rfl ?_|refine BG (wQ hcs t ht (f.push false) hpu) rfl rfl ?_|refine CX (wQ hcs t ht (f.push false) hpu) rfl rfl ?_))
 refine Al (fun h=>?_) (fun h=>?_)
 ·rw[if_neg (by simpa using h)]
  exact⟨rfl,kk⟩
 ·have h:(t.acc c (f.push false)).2=true:=by simpa using h
  rw[if_pos h]
  exact⟨by unfold aR;rw[h],kk⟩
theorem not_not{s:Sp}{p:List Bool}(h:In s p):A5 s (A5 s p)=p:=(Bq _ _).eq h fun i hi=>by
 rw[B5,B5,hi,Ai7,Ai7,Bool.not_not]
theorem not_and{s:Sp}{p q:List Bool}(h:In s p)(k:In s q):A5 s (Bm p q)=EJ (A5 s p) (A5 s q):=(Bq _ _).eq ((Bq _ _).or (Bq _ _)) fun i hi=>by
 rw[B5,Bj,CU (by rw[(Bq s p).len,(Bq s q).len]),B5,B5,hi]
 cases bit p i<;>cases bit q i<;>rfl
theorem UY{s:Sp}{p q:List Bool}(h:In s p)(k:In s q):A5 s (EJ (A5 s p) q)=Bm p (A5 s q):=(Bq _ _).eq h.and fun i hi=>by
 rw[B5,Bj,CU (by rw[(Bq s p).len,k.len]),B5,B5,hi]
 cases bit p i<;>cases bit q i<;>rfl
theorem YG{s:Sp}{p q:List Bool}(h:In s p)(k:In s q):A5 s (EJ (Bm p q) (A5 s (EJ p q)))=EJ (Bm p (A5 s q)) (Bm (A5 s p) q):=(Bq _ _).eq (h.and.or (Bq _ _).and) fun i hi=>by
 rw[B5,CU (by rw[h.and.len,(Bq _ _).len]),Bj,B5,CU (by rw[h.len,k.len]),CU (by rw[h.and.len,(Bq s p).and.len]),Bj,Bj,B5,B5,hi]
 cases bit p i<;>cases bit q i<;>rfl
theorem In.DH{s:Sp}{fr p:List Bool}(h:In s p):In s (DH s fr p):=In.ex (by simp[h.len])
theorem In.Bn{s:Sp}{fr p q:List Bool}(h:In s q):In s (Bn s fr p q):=In.eu (by simp[h.len])
section
variable {s:Sp} {fr:List Bool} {at_:Int→List Bool} (ha:∀ l,In s (at_ l))
include ha
theorem Yb:∀(f:Fo) {d:Int},f.BP d=true→∀ t,(f.push t).C6 s fr at_=if t then A5 s (f.C6 s fr at_)else f.C6 s fr at_:=by
 intro f
 induction f using Fo.ind with
 |h k n l ks ih =>
  intro d hm t
  have hin:=E1 (s:=s) (fr:=fr) (at_:=at_) ha (.mk k n l ks) d hm
  obtain⟨rfl,hd,hc⟩:=DB hm
  rcases hc with⟨hk,rfl,rfl⟩|⟨rfl,rfl,h0⟩|⟨hk,rfl,f,rfl,hfm⟩|⟨hk,rfl,f,g,rfl,hfm,hgm⟩
  ·rw[Jd hk]
   rcases hk with rfl|rfl
   ·cases t with
    |false=>rfl
    |true =>
     rw[if_pos rfl,if_pos rfl,show C8 1=2 from rfl,EL,D4,not_not (M6 s)]
   ·cases t with
    |false=>rfl
    |true =>
     rw[if_pos rfl,if_pos rfl,show C8 2=1 from rfl,EL,D4]
  ·rw[CY]
   cases t with
   |false=>rfl
   |true =>
    rw[if_pos rfl,if_pos rfl,CM (by decide)]
    rfl
  ·have ihf:=fun t=>ih f (by simp) hfm t
   have inf:=E1 (s:=s) (fr:=fr) (at_:=at_) ha f _ hfm
   by_cases h4:k=4
   ·subst h4
    rw[Hy,ihf,CM (by decide)]
    show _=if t=true then A5 s (A5 s (f.C6 s fr at_))else A5 s (f.C6 s fr at_)
    cases t with
    |false=>rfl
    |true=>rw[if_neg (by decide),if_pos rfl,not_not inf]
   rw[Hx (by omega),show Fo.C6 s fr at_ (.mk k ⟨#[]⟩ 0 [f])=QY s fr k (f.C6 s fr at_)from CM (by omega)]
   cases t with
   |false =>
    rw[if_neg (by decide),if_neg (by decide),CM (by omega),ihf,if_neg (by decide)]
   |true =>
    rw[if_pos rfl,if_pos rfl]
    have hdk:=Nc (k:=k) (by omega)
    rw[CM (by omega),ihf,if_pos rfl]
    generalize f.C6 s fr at_=p at *
    have:k=9∨k=10∨k=11∨k=12∨k=13∨k=14:=by omega
    rcases this with rfl|rfl|rfl|rfl|rfl|rfl
    ·show A5 s (DH s fr (A5 s (A5 s p)))=A5 s (DH s fr p)
     rw[not_not inf]
    ·show DH s fr (A5 s p)=A5 s (A5 s (DH s fr (A5 s p)))
     rw[not_not (In.DH (Bq _ _))]
    ·show A5 s (Bn s fr s.valid (A5 s (A5 s p)))=A5 s (Bn s fr s.valid p)
     rw[not_not inf]
    ·show DW s (A5 s p)=A5 s (A5 s (DW s (A5 s p)))
     rw[not_not (In.eg (Bq s p).len)]
    ·show A5 s (DW s (A5 s (A5 s p)))=A5 s (DW s p)
     rw[not_not inf]
    ·show Bn s fr s.valid (A5 s p)=A5 s (A5 s (Bn s fr s.valid (A5 s p)))
     rw[not_not (In.Bn (Bq _ _))]
  ·have ihf:=fun t=>ih f (by simp) hfm t
   have ihg:=fun t=>ih g (by simp) hgm t
   have inf:=E1 (s:=s) (fr:=fr) (at_:=at_) ha f _ hfm
   have ing:=E1 (s:=s) (fr:=fr) (at_:=at_) ha g _ hgm
   by_cases h7:k=7
   ·subst h7
    rw[EP,CL (by decide)]
    show _=if t=true then A5 s (EJ (A5 s (f.C6 s fr at_)) (g.C6 s fr at_))else EJ (A5 s (f.C6 s fr at_)) (g.C6 s fr at_)
    cases t with
    |false =>
     rw[if_neg (by decide),if_neg (by decide),CL (by decide),ihf,ihg]
     rfl
    |true =>
     rw[if_pos rfl,if_pos rfl,CL (by decide),ihf,ihg,UY inf ing]
     rfl
   by_cases h8:k=8
   ·subst h8
    rw[FY,CL (by decide),CL (by decide),CL (by decide),CL (by decide),ihf,ihf,ihg,ihg]
    show EJ (Bm (f.C6 s fr at_) (if t=true then A5 s (g.C6 s fr at_)else g.C6 s fr at_)) (Bm (A5 s (f.C6 s fr at_)) (if(!t)=true then A5 s (g.C6 s fr at_)else g.C6 s fr at_))=if t=true then A5 s (EJ (Bm (f.C6 s fr at_) (g.C6 s fr at_)) (A5 s (EJ (f.C6 s fr at_) (g.C6 s fr at_))))else EJ (Bm (f.C6 s fr at_) (g.C6 s fr at_)) (A5 s (EJ (f.C6 s fr at_) (g.C6 s fr at_)))
    cases t with
    |false =>
     rw[if_neg (by decide),if_pos (show(!false)=true from rfl),if_neg (by decide),not_or inf ing]
    |true =>
     rw[if_pos rfl,if_neg (show ¬ (!true)=true by decide),if_pos rfl,YG inf ing]
   rw[Mw (by omega),show Fo.C6 s fr at_ (.mk k ⟨#[]⟩ 0 [f,g])=QD s fr k (f.C6 s fr at_) (g.C6 s fr at_)from CL (by omega)]
   cases t with
   |false =>
    rw[if_neg (by decide),if_neg (by decide),CL (by omega),ihf,ihg,if_neg (by decide),if_neg (by decide)]
   |true =>
    rw[if_pos rfl,if_pos rfl]
    have hdk:=RP (k:=k) (by omega)
    rw[CL (by omega),ihf,ihg,if_pos rfl,if_pos rfl]
    generalize f.C6 s fr at_=p at *
    generalize g.C6 s fr at_=q at *
    have:k=5∨k=6∨k=15∨k=16∨k=17∨k=18:=by omega
    rcases this with rfl|rfl|rfl|rfl|rfl|rfl
    ·show EJ (A5 s p) (A5 s q)=A5 s (Bm p q)
     rw[not_and inf ing]
    ·show Bm (A5 s p) (A5 s q)=A5 s (EJ p q)
     rw[not_or inf ing]
    ·show A5 s (Bn s fr (A5 s (A5 s p)) (A5 s (A5 s q)))=A5 s (Bn s fr p q)
     rw[not_not inf,not_not ing]
    ·show EJ (DW s (A5 s q)) (Bn s fr (A5 s q) (Bm (A5 s p) (A5 s q)))=A5 s (A5 s (EJ (Bn s fr (A5 s q) (A5 s (EJ p q))) (DW s (A5 s q))))
     rw[not_or inf ing,not_not ((In.Bn (Bq _ _)).or (In.eg (Bq s q).len)),QX (s:=s) (In.eg (Bq s q).len) (In.Bn (Bq _ _))]
    ·show A5 s (EJ (Bn s fr (A5 s (A5 s q)) (A5 s (EJ (A5 s p) (A5 s q)))) (DW s (A5 s (A5 s q))))=A5 s (EJ (DW s q) (Bn s fr q (Bm p q)))
     rw[not_not ing,UY inf (Bq _ _),not_not ing,QX (s:=s) (In.eg ing.len) (In.Bn inf.and)]
    ·show Bn s fr (A5 s p) (A5 s q)=A5 s (A5 s (Bn s fr (A5 s p) (A5 s q)))
     rw[not_not (In.Bn (Bq _ _))]
end
theorem Wd{c:Ci}{d:Int}{f:Fo}(h:Gd c d f):AY c (f.push false)=AY c f:=Yb (fun l=>Ea _ _) f h.may false
set_option linter.unusedSectionVars false
abbrev tn0:Tn:=.mk 0 0 0 [] []
structure Shown (c:Ci) (f:Fo) (st:Int) (t:Tn) (is:Bool) (e:Int):Prop where
 has:hasB c f st=(is,e)
 no:is=false→t=tn0
 yes:is=true→DU c f=true∧∃ s:Nat,st=s∧Good c (f.push false) s t
theorem RK{c:Ci}{f:Fo}{st:Int}(h0:(BW c f).2=0)(h1:0≤st∧st<(BW c f).1.length):hasB c f st=(bit (BW c f).1 st.toNat,0):=by rw[hasB,if_pos h0,if_pos h1]
theorem QE{c:Ci}{f:Fo}(h:(BW c f).2=0):DU c f=true∧BE c=(At c,0)∧¬ 10<c.gr.inputs∧(BW c f).1=AY c f:=by
 unfold BW at h ⊢
 by_cases hm:DU c f=false
 ·rw[if_pos hm]at h;cases h
 ·rw[if_neg hm]at h ⊢
  by_cases hs:(BE c).2=0
  ·obtain⟨h1,h2,h3⟩:=H8 hs
   rw[if_pos hs]
   exact⟨by simpa using hm,h1,h3,rfl⟩
  ·rw[if_neg hs]at h;exact absurd h hs
theorem AgQ{c:Ci}(hc:c.ok)(hfair:c.fair.length≤1){f:Fo}(hf:f.ok)(hw:DU c f=true→(f.push false).wt≤1000000000000000)(st:Int){S:Aa}:Ad Pg 12 [c.av,f.av,aI st] S (fun e S'=>∃ tr,e = .ret tr∧S'=S∧∃ t is e,tr = .t [t.av,aB is,aI e]∧Shown c f st t is e):=by
 refine Ad.Le (Φ:=fun tr=>∃ t is e,tr = .t [t.av,aB is,aI e]∧Shown c f st t is e) (rN ?_)
 dsimp only[m12,Zx,Zy,Fi]
 refine Ai rfl fun S1 k1 n1 o1=>?_
 refine Ai (Fo.Aj f) fun S2 k2 n2 o2=>?_
 refine Ai rfl fun S3 k3 n3 o3=>?_
 have kk:=(k1.trans k2).trans k3
 have p1:=(Kg k3 (Kg k2 o1))
 have p2:=(Kg k3 o2)
 have cv3:∀{S:Aa} {n:Nat} {a b:AV} {x y:AV},Cv S n a b→Tree x→Tree y→Cv S n (.t [a,x,y]) (.t [b,x,y]):=fun{S n a b x y} h hx hy=>by
  refine .t _ _ rfl fun j u u2 e1 e2=>?_
  match j with
  |0=>cases e1;cases e2;exact h
  |1=>cases e1;cases e2;exact hx _ _
  |2=>cases e1;cases e2;exact hy _ _
  |j+3=>simp at e1
 have fin:∀(T:Aa) (e:Int),Am S T→T.obj S2.n=some (.cells 51 [[.v (.int .i64 0),.v (.int .i64 0),.v (.int .i64 0),.nl,.nl]] true)→hasB c f st=(false,e)→CH [(0,1),(1,1),(2,1),(3,1),(4,1)] [.v (.int .i64 0),.v (.int .i64 0),.v (.int .i64 0),.nl,.nl] [] T fun v T=>A8 5 (.p S2.n 0 0) v T fun _ T=>AA 5 (.p S2.n 0 0) T fun v T =>
     ∃ r tr,Bg.ret (.t [v,.v (.bool false),aI e]) = .ret r∧Am S T∧Cv (T.Bx (AK S.n)) S.n r tr∧∃ t is e,tr = .t [t.av,aB is,aI e]∧Shown c f st t is e:=fun T e hk ho hh=>by
  rw[A7 (cs:=[aI 0,aI 0,aI 0,.nl,.nl]) rfl]
  refine AF (cs':=[aI 0,aI 0,aI 0,.nl,.nl]) ho rfl rfl fun T1 n1 o1 f1=>?_
  rw[An (n:=5) o1 rfl]
  refine⟨_,.t [tn0.av,aB false,aI e],rfl,hk.st (id:=S2.n) (by omega) n1 f1,cv3 ?_ (Tree.v _) (Tree.v _),_,_,_,rfl,hh,fun _=>rfl,fun h=>by cases h⟩
  rw[Tn.av,Tn.AE]
  refine .a _ _ rfl fun j u u2 e1 e2=>?_
  match j with
  |0=>cases e1;cases e2;exact .v _
  |1=>cases e1;cases e2;exact .v _
  |2=>cases e1;cases e2;exact .v _
  |3=>cases e1;cases e2;exact .nl
  |4=>cases e1;cases e2;exact .nl
  |j+5=>simp at e1
 rw[An (n:=8) p1 rfl,An (n:=4) p2 (Fo.Aj f)]
 refine Ae (AgJ hc hf) ?_
 rw[B2,BV,Bi,Ag]
 refine Al (fun h=>?_) (fun h=>?_)
 ·exact fin S3 _ kk o3 (by rw[hasB,if_neg (by simpa using h)])
 have h0:(BW c f).2=0:=by simpa using h
 rw[As,Ag]
 refine Al (fun h=>?_) (fun h=>?_)
 ·have:=dT h
  exact fin S3 1 kk o3 (by rw[hasB,if_pos h0,if_neg (by omega)])
 have h1:=dF h
 rw[Ay,BA,Ag]
 refine Al (fun h=>?_) (fun h=>?_)
 ·have:=dT h
  exact fin S3 1 kk o3 (by rw[hasB,if_pos h0,if_neg (by omega)])
 have h2:=dF h
 obtain⟨s,rfl⟩:=AiE (show 0≤st by omega)
 have hj:s<(BW c f).1.length:=by omega
 have hhas:=RK (st:=(s:Int)) h0 ⟨by omega,by omega⟩
 rw[AiJ]at hhas
 rw[AM hj,A3,AI,Ag]
 refine Al (fun h=>?_) (fun h=>?_)
 ·have hb:bit (BW c f).1 s=false:=by rw[Bc hj];simpa using h
  exact fin S3 0 kk o3 (by rw[hhas,hb])
 have hb:bit (BW c f).1 s=true:=by rw[Bc hj];simpa using h
 obtain⟨hmay,hsp,h10,hsem⟩:=QE h0
 obtain⟨hright,hm60⟩:=F4 hmay
 have wc:Wc c:=⟨hc,hright,h10,hfair⟩
 have hlits:f.DC c.gr=true:=by
  unfold DU at hmay
  rw[Ai5,Ai5]at hmay
  exact hmay.2.2
 have gf:Gd c 60 f:=⟨hf,hm60,hlits⟩
 have hpu:=LL f hf hm60 false
 have hbs:bit (AY c (f.push false)) s=true:=by rw[Wd gf,←hsem];exact hb
 rw[An (n:=8) p1 rfl]
 refine Ae (wS hc) ?_
 rw[hsp,B2,BV]
 refine Ai rfl fun S4 k4 n4 o4=>?_
 refine AF (cs':=(At c).cells) o4 rfl rfl fun S5 n5 o5 f5=>?_
 have k5:Am S3 S5:=k4.st (Ai4 _) n5 f5
 rw[Bi,Ag,Be (by rfl),An (n:=8) (Kg k5 p1) rfl,An (n:=5) o5 rfl]
 obtain⟨S6,hS6⟩:∃ S6,S6=S5.new (.map .s [] true):=⟨_,rfl⟩
 have k6:Am S5 S6:=by rw[hS6];exact(Am.refl S5).new _
 have n6:S6.n=S5.n+1:=by rw[hS6];rfl
 have o6:S6.obj S5.n=some (.map .s [] true):=by rw[hS6];exact B0 _
 unfold Zb
 rw[←hS6]
 show CH _ _ _ S6 _
 rw[A7 (cs:=fdC c S5.n) rfl]
 refine Ai (nN c S5.n) fun S7 k7 n7 o7=>?_
 have kS7:Am S S7:=(kk.trans k5).trans (k6.trans k7)
 have l5:=k5.1
 have q2:=(Kg k7 (Kg k6 (Kg k5 p2)))
 have q3:=(Kg k7 (Kg k6 (Kg k5 o3)))
 rw[An (n:=4) q2 (Fo.Aj f)]
 have cp:=AgI hf
 rw[show Li f=f.push false by rw[Li,if_pos hm60]]at cp
 refine Ae cp ?_
 have fd:Fd c S6.n S5.n S7:=⟨o7,by omega,by omega,by omega,[],(Kg k7 o6),Hb.nil c⟩
 refine Cr (bM wc (f.push false).wt (hw hmay) hpu (AjL _) (hw hmay) hbs fd) fun t S8 g8 fx8=>?_
 have l8:=fx8.1
 refine AF (cs':=t.row) ((fx8.2.2 _ (by omega) (by omega)).trans q3) (Tn.Aj t) rfl fun S9 n9 o9 f9=>?_
 rw[An (n:=5) o9 (Tn.Aj t)]
 refine⟨_,.t [t.av,aB true,aI 0],rfl,?_,cv3 (Tn.tr t _ _) (Tree.v _) (Tree.v _),t,true,0,rfl,by rw[hhas,hb],(fun h=>by cases h),fun _=>⟨hmay,s,rfl,g8⟩⟩
 have kS8:Am S S8:=⟨by have:=kS7.1;omega,fun x hx=>(fx8.2.2 x (by have:=kS7.1;omega) (by have:=kk.1;omega)).trans (kS7.2 x hx)⟩
 exact kS8.st (id:=S2.n) (by omega) n9 f9
theorem GA{c:Ci}(hc:c.ok)(hfair:c.fair.length≤1){f:Fo}(hf:f.ok)(hw:DU c f=true→(f.push false).wt≤1000000000000000)(st:Int){ca:AV}(hca:∀(S:Aa) (n:Nat),Cv S n ca c.av){S:Aa}{Q:Bg→Aa→Prop}{K:AV→Aa→Prop}
    (k:∀ t is e,Shown c f st t is e→K (.t [t.av,aB is,aI e]) S):Ah Pg 12 [ca,f.av,aI st] S Q K:=by
 refine .inl ((Ad.conv (args:=[ca,f.av,aI st]) (args2:=[c.av,f.av,aI st]) rfl (yT (hca _ _) (Fo.tr f _ _) (.v _)) (AgQ hc hfair hf hw st)).mono ?_)
 rintro e S' ⟨tr,rfl,rfl,t,is,e,rfl,h⟩
 exact k t is e h
set_option linter.unusedSectionVars false
theorem tN(t:Tn):t.row[1]? = some (aI t.st):=by cases t;rw[Tn.AE];rfl
theorem KD{c:Ci}{f:Fo}{st:Int}{t:Tn}{e:Int}(h:Shown c f st t true e):∃ n,FL c f t=(n,true)∧t.st=st∧((f.push false).C7=true→n=0)∧e=0:=by
 obtain⟨hm,s,rfl,g⟩:=h.yes rfl
 have hh:=h.has
 have he:e=0∧¬ 10<c.gr.inputs:=by
  unfold hasB at hh
  split at hh
  ·rename_i h0
   obtain⟨_,_,h10,_⟩:=QE h0
   split at hh
   ·injection hh with _ h2
    exact⟨h2.symm,h10⟩
   ·injection hh with h1 _;cases h1
  ·injection hh with h1 _;cases h1
 refine⟨(t.acc c (f.push false)).1,?_,g.st,g.op,he.1⟩
 unfold FL
 rw[if_neg (by rintro(h|h);rw[hm]at h;cases h;omega),if_pos g.acc]
 exact Prod.ext rfl g.acc
theorem AgP{c:Ci}(hc:c.ok)(hfair:c.fair.length≤1){f:Fo}(hf:f.ok)(hw:DU c f=true→(f.push false).wt≤1000000000000000)(st:Int):BH Pg 10 [c.av,f.av,aI st] (aB true):=by
 intro S
 refine Ad.Bt (rP ?_)
 dsimp only[m10,Fi,Lf]
 refine Ai rfl fun S1 k1 n1 o1=>?_
 refine Ai (Fo.Aj f) fun S2 k2 n2 o2=>?_
 have kk:=k1.trans k2
 have p1:=(Kg k2 o1)
 rw[An (n:=8) p1 rfl,An (n:=4) o2 (Fo.Aj f)]
 refine GA hc hfair hf hw st (fun S n=>Ci.tK c S n) fun t is e sh=>?_
 rw[B2,BV,E4]
 refine Ai rfl fun S3 k3 n3 o3=>?_
 refine AF (cs':=t.row) o3 (Tn.Aj t) rfl fun S4 n4 o4 f4=>?_
 have k4:Am S S4:=(kk.trans k3).st (id:=S2.n) (by have:=kk.1;omega) n4 f4
 have q1:=(f4 _ (by omega)).trans (Kg k3 p1)
 have q2:=(f4 _ (by omega)).trans (Kg k3 o2)
 rw[An (n:=8) q1 rfl,An (n:=4) q2 (Fo.Aj f)]
 refine Ae (AgO hc hf st) ?_
 rw[sh.has,B2,BV,Bi,Ag,Be (by simp),CV,Ag,Be (by simp),AI,Ag]
 cases is with
 |false =>
  obtain rfl:=sh.no rfl
  rw[AO rfl,An (n:=5) o4 (Tn.Aj _)]
  exact Ae AgN ⟨rfl,k4⟩
 |true =>
  obtain⟨n,ha,hst,hop,he⟩:=KD sh
  obtain⟨hm,_,_,g⟩:=sh.yes rfl
  rw[AL rfl,An (n:=8) q1 rfl,An (n:=4) q2 (Fo.Aj f),An (n:=5) o4 (Tn.Aj _)]
  refine Ae (VQ hc hf g.ok) ?_
  rw[ha,B2,BV,Ag,A9,Ac,Af o4 rfl (tN t),hst,AD,Ag,Bd (decide_eq_true rfl),AD,Ag]
  refine Al (fun h=>⟨rfl,k4⟩) (fun h=>?_)
  have h:=dF h
  rw[An (n:=4) q2 (Fo.Aj f)]
  refine Ae (AgM hf (F4 hm).2) ?_
  rw[AI]
  have:(f.push false).C7=false:=by
   cases ho:(f.push false).C7 with
   |false=>rfl
   |true=>exact absurd (hop ho) h
  exact⟨by rw[this];rfl,k4⟩
set_option linter.unusedSectionVars false
theorem U4:(AT 11 (Ey 2)).BP 60=true∧(AT 11 (Ey 2)).DC Gs.gr=true:=by decide
theorem UK:BW Gs (AT 11 (Ey 2))=(AY Gs (AT 11 (Ey 2)),0):=by
 rw[I9,X6 U4.1 U4.2]
theorem Vw:(AY Gs (AT 11 (Ey 2))).length=2:=by
 rw[SE,CM (by decide),Dg,Um]
 show(IZ Ss [true,true] (Bm [false,true] [true,true])).length=2
 rw[P0];rfl
theorem AfG:bit (AY Gs (AT 11 (Ey 2))) 0=true:=by
 rw[SE,CM (by decide),Dg,Um]
 show bit (IZ Ss [true,true] (Bm [false,true] [true,true])) 0=true
 rw[D7]
 exact⟨by decide,.step 0 1 rfl rfl (by decide) (.base 1 (by decide) rfl)⟩
theorem AfC:hasB Gs (AT 11 (Ey 2)) 0=(true,0):=by
 rw[hasB,UK]
 show(if(0:Int)=0 then if 0≤(0:Int)∧(0:Int)<((AY Gs (AT 11 (Ey 2))).length:Nat)then(bit (AY Gs (AT 11 (Ey 2))) (0:Int).toNat,(0:Int))else(false,1)else _)=_
 rw[if_pos rfl,Vw,if_pos (by decide),show(0:Int).toNat=0 from rfl,AfG]
theorem AfB:hasB Gs (AT 11 (Ey 2)) 2=(false,1):=by
 rw[hasB,UK]
 show(if(0:Int)=0 then if 0≤(2:Int)∧(2:Int)<((AY Gs (AT 11 (Ey 2))).length:Nat)then(bit (AY Gs (AT 11 (Ey 2))) (2:Int).toNat,(0:Int))else(false,1)else _)=_
 rw[if_pos rfl,Vw,if_neg (by decide)]
theorem AfA:hasB Gs (AT 9 (Ey 2)) 1=(false,0):=by
 rw[hasB,kZ];rfl
theorem AbY:Pu (Ey 2):=.a _ (by decide) ⟨by decide,by decide⟩
theorem QR:(AT 11 (Ey 2)).push false=AT 11 (Ey 2):=by rw[Hx (by decide),CY];rfl
theorem Yo:(AT 9 (Ey 2)).push false=AT 9 (Ey 2):=by rw[Hx (by decide),CY];rfl
abbrev fQ:List AV:=[aI 0,.l [[aI 3,aI 0]],.nl,.nl,.nl,.nl,.nl,.nl]
theorem Me(S:Aa)(n:Nat):Cv S n (.a fQ) Gs.av:=by
 refine .a _ _ rfl fun j u u2 e1 e2=>?_
 have ht:=Ci.tK Gs S n
 match j with
 |0=>cases e1;cases e2;exact .v _
 |1 =>
  cases e1;cases e2
  exact(Tree.l fun c hc u hu=>by
   obtain rfl:=AiA.1 hc
   have hu:u=aI 3∨u=aI 0:=by simpa using hu
   rcases hu with rfl|rfl<;>exact Tree.v _:Tree (.l [[aI 3,aI 0]])) _ _
 |2=>cases e1;cases e2;exact .nl
 |3=>cases e1;cases e2;exact .nl
 |4=>cases e1;cases e2;exact .nl
 |5=>cases e1;cases e2;exact .nl
 |6=>cases e1;cases e2;exact .nl
 |7=>cases e1;cases e2;exact .nl
 |j+8=>simp at e1
abbrev Qu(l:Int):List AV:=[aI 3,.v (.string ByteArray.empty),aI l,.nl]
theorem yQ(l:Int)(S:Aa)(n:Nat):Cv S n (.a (Qu l)) (Ey l).av:=by
 rw[Fo.av,Fo.AE]
 refine .a _ _ rfl fun j u u2 e1 e2=>?_
 match j with
 |0=>cases e1;cases e2;exact .v _
 |1=>cases e1;cases e2;exact .v _
 |2=>cases e1;cases e2;exact .v _
 |3=>cases e1;cases e2;exact .nl
 |j+4=>simp at e1
theorem YA(k l:Int){S:Aa}{Q:Bg→Aa→Prop}{K:AV→Aa→Prop}(h:K (AT k (Ey l)).av S):Ah Pg 7 [aI k,.a (Qu l)] S Q K:=
 K2 (args:=[aI k,.a (Qu l)]) (sR k (Ey l)) rfl (yU (.v _) (yQ l _ _)) h
theorem Ag4:BH Pg 9 [] (aB true):=by
 intro S
 refine Ad.Bt (yY ?_)
 dsimp only[m9,Fi,Lf,Lt,Lc]
 have hq:(Ey 2).wt≤4:=by rw[Jv,Fo.Qv];decide
 have ok1:(AT 11 (Ey 2)).ok:=(Pu.o _ _ (by decide) AbY).ok
 have ok2:(AT 9 (Ey 2)).ok:=(Pu.o _ _ (by decide) AbY).ok
 have w1:((AT 11 (Ey 2)).push false).wt≤1000000000000000:=by rw[QR,Gv 11 _ (by decide)];show 4+_≤_;omega
 have w2:((AT 9 (Ey 2)).push false).wt≤1000000000000000:=by rw[Yo,Gv 9 _ (by decide)];show 4+_≤_;omega
 have hf0:Gs.fair.length≤1:=by decide
 rw[A7 (cs:=[aI 3,aI 0]) rfl]
 refine zE ?_
 rw[A7 (cs:=fQ) rfl]
 refine Ai rfl fun S1 k1 n1 o1=>?_
 refine AF (cs':=fQ) o1 rfl rfl fun S2 n2 o2 f2=>?_
 have kS2:Am S S2:=k1.st (Ai4 _) n2 f2
 rw[A7 (cs:=Qu 2) rfl]
 refine YA 11 2 ?_
 refine Ai rfl fun S3 k3 n3 o3=>?_
 refine AF (cs':=(AT 11 (Ey 2)).row) o3 (Fo.Aj _) rfl fun S4 n4 o4 f4=>?_
 have k4:Am S2 S4:=k3.st (Ai4 _) n4 f4
 have p1:=(Kg k4 o2)
 rw[An (n:=8) p1 rfl,An (n:=4) o4 (Fo.Aj _)]
 refine GA P6 hf0 ok1 (fun _=>w1) 0 Me fun t is e sh=>?_
 have hh:=sh.has
 rw[AfC]at hh
 injection hh with e1 e2
 subst e1
 subst e2
 obtain⟨n,ha,hst,hop,_⟩:=KD sh
 obtain⟨_,_,_,g⟩:=sh.yes rfl
 have hn0:n=0:=hop (by rw[QR,Fo.Dh];simp[lZ,Fo.Dh])
 subst hn0
 rw[B2,BV,E4]
 refine Ai rfl fun S5 k5 n5 o5=>?_
 refine AF (cs':=t.row) o5 (Tn.Aj t) rfl fun S6 n6 o6 f6=>?_
 have k6:Am S4 S6:=k5.st (Ai4 _) n6 f6
 have l4:=k4.1
 have q1:=(Kg k6 p1)
 have q2:=(Kg k6 o4)
 rw[An (n:=8) q1 rfl,An (n:=4) q2 (Fo.Aj _),An (n:=5) o6 (Tn.Aj _)]
 refine K2 (args:=[.a fQ,.a (AT 11 (Ey 2)).row,.a t.row]) (VQ P6 ok1 g.ok) rfl (yT (Me _ _) (Fo.tr _ _ _) (Tn.tr t _ _)) ?_
 rw[ha,B2,BV]
 refine⟨_,fun U hU=>by rw[An (n:=8) (Kg hU q1) rfl];exact⟨rfl,rfl⟩,?_⟩
 refine⟨_,fun U hU=>by rw[A7 (cs:=Qu 2) rfl];exact⟨rfl,rfl⟩,?_⟩
 refine⟨_,fun U hU=>YA 9 2 ⟨rfl,rfl⟩,?_⟩
 have three:∀(U:Aa) (Q:Bg→Aa→Prop),Ah Pg 12 [.a fQ,(AT 9 (Ey 2)).av,aI 1] U Q fun v S=>v = .t [tn0.av,aB false,aI 0]∧S=U:=fun U Q=>GA P6 hf0 ok2 (fun _=>w2) 1 Me fun t is e sh=>by
  have hh:=sh.has
  rw[AfA]at hh
  injection hh with e1 e2
  subst e1
  subst e2
  rw[sh.no rfl]
  exact⟨rfl,rfl⟩
 refine⟨_,fun U hU=>three U _,?_⟩
 refine⟨_,fun U hU=>by rw[B2];exact⟨rfl,rfl⟩,?_⟩
 refine⟨_,fun U hU=>by rw[BV];exact⟨rfl,rfl⟩,?_⟩
 refine⟨_,fun U hU=>by rw[E4];exact⟨rfl,rfl⟩,?_⟩
 refine Ai rfl fun S7 k7 n7 o7=>?_
 refine⟨fun U hU=>by rw[E4];exact⟨rfl,rfl⟩,fun U hU=>by rw[BV];exact⟨rfl,rfl⟩,?_⟩
 refine AF (cs':=tn0.row) o7 (Tn.Aj _) rfl fun S8 n8 o8 f8=>?_
 have k8:Am S6 S8:=k7.st (Ai4 _) n8 f8
 have l6:=k6.1
 refine⟨fun U hU=>by rw[E4];exact⟨rfl,rfl⟩,fun U hU=>by rw[BV];exact⟨rfl,rfl⟩,?_⟩
 have r1:=(Kg k8 q1)
 have r2:=(Kg k8 q2)
 have r3:=(Kg k8 o6)
 rw[An (n:=8) r1 rfl,An (n:=4) r2 (Fo.Aj _)]
 refine GA P6 hf0 ok1 (fun _=>w1) 2 Me fun t3 is3 e3 sh3=>?_
 have hh3:=sh3.has
 rw[AfB]at hh3
 injection hh3 with e1 e2
 subst e1
 subst e2
 rw[B2,BV,E4]
 refine Ai rfl fun S9 k9 n9 o9=>?_
 refine AF (cs':=t3.row) o9 (Tn.Aj _) rfl fun S10 n10 o10 f10=>?_
 have k10:Am S8 S10:=k9.st (Ai4 _) n10 f10
 have l8:=k8.1
 have s3:=(Kg k10 r3)
 rw[AD,Ag,Bd (by rfl),Ag,A9,Ag,A9,AD,Ag,Bd (by rfl),Ac,Af s3 rfl (tN t),hst,AD,Ag,Bd (by rfl),AD,Ag,Bd (by rfl),AI,Ag,AO rfl,AD]
 exact⟨rfl,((kS2.trans k4).trans k6).trans (k8.trans k10)⟩
theorem Ho(k:Int):tE k≤6:=by
 unfold tE
 split
 ·decide
 ·split<;>decide
theorem lS:∀(f:Fo) {d:Nat},f.BP (d:Int)=true→∀ t,(f.push t).wt≤20*5 ^ d:=by
 intro f
 induction f using Fo.ind with
 |h k n l ks ih =>
  intro d hm t
  obtain⟨rfl,hd,hc⟩:=DB hm
  obtain⟨e,rfl⟩:∃ e,d=e+1:=⟨d - 1,by omega⟩
  have hp:1≤5 ^ e:=Nat.one_le_pow _ _ (by decide)
  have hs:(5:Nat) ^ (e+1)=5*5 ^ e:=by rw[Nat.pow_succ,Nat.mul_comm]
  have he:((e+1:Nat):Int) - 1=(e:Int):=by omega
  rw[hs]
  rcases hc with⟨hk,rfl,rfl⟩|⟨rfl,rfl,h0⟩|⟨hk,rfl,f,rfl,hfm⟩|⟨hk,rfl,f,g,rfl,hfm,hgm⟩
  ·rw[Jd hk,Jv,Fo.Qv]
   have:=Ho (if t then C8 k else k)
   omega
  ·rw[CY]
   have e1:(Fo.mk 3 ⟨#[]⟩ l []).wt=4:=by rw[Jv,Fo.Qv];rfl
   split
   ·rw[Gv 4 _ (by decide),e1]
    have:=Ho 4
    omega
   ·omega
  ·rw[he]at hfm
   have hf:=fun t=>ih f (by simp) hfm t
   by_cases h4:k=4
   ·subst h4
    rw[Hy]
    have:=hf (!t)
    omega
   rw[Hx (by omega)]
   have h1:=hf t
   have hdk:=Nc (k:=k) (by omega)
   rw[Gv _ _ (by split<;>omega)]
   have:=Ho (if t then C8 k else k)
   omega
  ·rw[he]at hfm hgm
   have hf:=fun t=>ih f (by simp) hfm t
   have hg:=fun t=>ih g (by simp) hgm t
   have hft:=hf true
   have hff:=hf false
   have hgt:=hg true
   have hgf:=hg false
   by_cases h7:k=7
   ·subst h7
    rw[EP]
    split
    ·rw[FM 5 _ _ (by decide)];have:=Ho 5;omega
    ·rw[FM 6 _ _ (by decide)];have:=Ho 6;omega
   by_cases h8:k=8
   ·subst h8
    have h1:=hg t
    have h2:=hg (!t)
    rw[FY,FM 6 _ _ (by decide),FM 5 _ _ (by decide),FM 5 _ _ (by decide)]
    have:=Ho 6
    have:=Ho 5
    omega
   rw[Mw (by omega),Jv,UF]
   have h1:=hf t
   have h2:=hg t
   generalize(if t=true then C8 k else k)=k'
   have:=Ho k'
   split<;>omega
inductive Dp:Nat→Fo→Prop
 |mk (d:Nat) (k:Int) (n:ByteArray) (l:Int) (ks:List Fo) (h:∀ f∈ks,Dp d f):Dp (d+1) (.mk k n l ks)
theorem yR{d:Nat}{f:Fo}(h:Dp d f):∀{e:Int},f.BP e=true→f.BP (d:Int)=true:=by
 induction h with
 |mk d k n l ks h ih =>
  intro e he
  rw[Fo.Cm]at he ⊢
  simp only[Ai5,decide_eq_true_eq,AiD]at he ⊢
  obtain⟨h1,h2,h3,h4,h5⟩:=he
  exact⟨by omega,h2,h3,h4,fun f hf=>by rw[show((d+1:Nat):Int) - 1=(d:Int)by omega];exact ih f hf (h5 f hf)⟩
theorem yE:∀(f:Fo) {d:Nat},f.BP (d:Int)=true→Dp d f:=by
 intro f
 induction f using Fo.ind with
 |h k n l ks ih =>
  intro d he
  rw[Fo.Cm]at he
  simp only[Ai5,decide_eq_true_eq,AiD]at he
  obtain⟨h1,h2,h3,h4,h5⟩:=he
  obtain⟨e,rfl⟩:∃ e,d=e+1:=⟨d - 1,by omega⟩
  exact .mk _ _ _ _ _ fun f hf=>ih f hf (by have:=h5 f hf;rwa [show((e+1:Nat):Int) - 1=(e:Int)by omega]at this)
theorem Dp.q(l:Int):Dp 1 (Ey l):=.mk 0 _ _ _ _ fun f hf=>by cases hf
theorem Dp.one{d:Nat}{f:Fo}(k:Int)(h:Dp d f):Dp (d+1) (AT k f):=.mk _ _ _ _ _ fun g hg=>by
 rw[AiA.1 hg];exact h
theorem Dp.two{d:Nat}{f g:Fo}(k:Int)(h:Dp d f)(h2:Dp d g):Dp (d+1) (A6 k f g):=.mk _ _ _ _ _ fun x hx=>by
 have:x=f∨x=g:=by simpa using hx
 rcases this with rfl|rfl
 ·exact h
 ·exact h2
theorem Dp.wt{c:Ci}{d:Nat}(hd:d≤9){f:Fo}(h:Dp d f)(hm:DU c f=true):(f.push false).wt≤1000000000000000:=by
 have h1:=lS f (yR h (F4 hm).2) false
 have h2:5 ^ d≤5 ^ 9:=AiY (by decide) hd
 have h3:5 ^ 9=1953125:=by decide
 omega
theorem j3{c:Ci}{f:Fo}(h:Pu f):(Tn.acc c tn0 f).2=false:=by
 show(Tn.acc c (.mk 0 0 0 [] []) f).2=false
 cases hv:BZ c 0 with
 |false=>rw[VU f hv]
 |true =>
  cases h with
  |c k hk =>
   rcases hk with rfl|rfl
   ·rw[wV hv]
   ·rw[VX hv];rfl
  |a l h0 hl=>rw[VW hv];rfl
  |n l h0 hl=>rw[VV hv];rfl
  |o k f hk h =>
   by_cases e:k=9∨k=11∨k=13
   ·rcases e with rfl|rfl|rfl
    ·rw[j4 hv,if_neg (fun e=>absurd e.1 (by decide))]
    ·rw[Uv hv,F0,if_neg (fun e=>absurd rfl e.1)]
    ·rw[Uu hv,IV,if_neg (fun e=>absurd rfl e.1)]
   ·rw[VT (by omega) hv];rfl
  |t k f g hk h h2 =>
   by_cases e:k=5∨k=6∨k=15∨k=17
   ·rcases e with rfl|rfl|rfl|rfl
    ·rw[j6 hv,if_neg (fun e=>absurd e.1 (by decide))]
    ·rw[j5 hv,if_neg (fun e=>absurd e.1 (by decide))]
    ·rw[Ut hv,F0,if_neg (fun e=>absurd rfl e.1)]
    ·rw[Us hv,if_neg (fun e=>absurd e.1 (by decide))]
   ·rw[VT (by omega) hv];rfl
theorem QH{c:Ci}{f:Fo}{st:Int}{t:Tn}{is:Bool}{e:Int}(hf:f.ok)(h:Shown c f st t is e):∃ n,FL c f t=(n,is):=by
 cases is with
 |true=>obtain⟨n,ha,_⟩:=KD h;exact⟨n,ha⟩
 |false =>
  rw[h.no rfl]
  refine⟨0,?_⟩
  unfold FL
  split
  ·rfl
  ·rename_i hn
   rw[if_neg]
   have hm:DU c f=true:=by
    cases hm:DU c f with
    |true=>rfl
    |false=>exact absurd (Or.inl hm) hn
   rw[j3 (LL f hf (F4 hm).2 false)]
   decide
theorem NS{c:Ci}{f:Fo}{st:Int}{t:Tn}{is:Bool}{e:Int}(h:Shown c f st t is e):t.ok:=by
 cases is with
 |true=>obtain⟨_,_,_,g⟩:=h.yes rfl;exact g.ok
 |false=>rw[h.no rfl];exact .mk _ _ _ _ _ ⟨by decide,by decide⟩ ⟨by decide,by decide⟩ ⟨by decide,by decide⟩ (by decide) (fun _ h=>by cases h) (by decide) (fun _ h=>by cases h)
theorem Rz{c:Ci}(hc:D2 c){d:Int}(hd:d≤60){f:Fo}(h:Gd c d f){n:Nat}(hn:n<(At c).valid.length):hasB c f n=(bit (AY c f) n,0):=by
 have ht:=h.AaR hd hc
 have h1:=RK (c:=c) (f:=f) (st:=n) (by rw[ht]) (by rw[ht];have:=h.C6.len;exact⟨by omega,by show(n:Int)<((AY c f).length:Nat);omega⟩)
 rw[h1,ht,AiJ]
theorem either{c:Ci}{d:Int}{f:Fo}(h:Gd c d f)(n:Nat):bit (AY c (AT 4 f)) n=(bit (At c).valid n && !bit (AY c f) n)∧(bit (AY c f) n=true→bit (At c).valid n=true):=by
 refine⟨?_,h.C6.sub n⟩
 rw[EN 4 f (by decide)]
 show bit (A5 _ _) n=_
 rw[B5]
theorem zF{e:Nat}{z1 z2 z3 z4:AV}{r:List AV}{S:Aa}{K:AV→Aa→Prop}(hr:r.length=4)(k:K (.s S.n 0 1) (S.new (.cells e [r] true))):AU e 4 1 [z1,z2,z3,z4] [(0,.a r)] S K:=by
 match r,hr with
 |[u,v,w,x],_ =>
  refine⟨[u,v,w,x],?_,.inl ?_⟩
  ·simp[Cu,cellsOf,Jw,AiP]
  ·simpa[chunks]using k
theorem nE{n m:Nat}{S T:Aa}{x:AV}{e:Nat}{ls:List Int}(h:A4 n S x e (ls.map Qu)){F:Nat→Bool}(hF:∀ i b m,x = .s i b m→F i=true)(hT:Am (S.Bx F) T):Cv T m x (Dx (ls.map Ey)):=by
 unfold Dx
 rw[AjC]
 rcases h with⟨rfl,h⟩|⟨id,rfl,h1,h2,h3⟩
 ·obtain rfl:ls = []:=Aj8.1 h
  exact .nl
 ·refine .s id 0 _ e _ _ (by rw[hT.2 id h2,Ep h3,hF id _ _ rfl];rfl) (by simp) (by simp) (fun i c c2 hi hi2=>?_) (fun i c c2 k u u2 hi hi2 hk hk2=>?_)
  ·rw[AiG,AiH]at hi
   rw[AiH]at hi2
   cases hl:ls[i]? with
   |none=>rw[hl]at hi;cases hi
   |some l=>rw[hl]at hi hi2;cases hi;cases hi2;exact(Fo.Aj (Ey l)).symm
  ·rw[AiG,AiH]at hi
   rw[AiH]at hi2
   cases hl:ls[i]? with
   |none=>rw[hl]at hi;cases hi
   |some l =>
    rw[hl]at hi hi2;cases hi;cases hi2
    have hk2:(Ey l).row[k]? = some u2:=hk2
    rw[Fo.AE]at hk2
    match k with
    |0=>cases hk;cases hk2;exact .v _
    |1=>cases hk;cases hk2;exact .v _
    |2=>cases hk;cases hk2;exact .v _
    |3=>cases hk;cases hk2;exact .nl
    |k+4=>simp at hk
theorem bW{n m:Nat}{S T:Aa}{z:AV}{e:Nat}{k:Int}{nm:ByteArray}{ls:List Int}(w:A4 n S z e (ls.map Qu)){F:Nat→Bool}(hF:∀ i b m,z = .s i b m→F i=true)(hT:Am (S.Bx F) T):Cv T m (.a [aI k,.v (.string nm),aI 0,z]) (Fo.mk k nm 0 (ls.map Ey)).av:=by
 rw[Fo.av,Fo.AE]
 refine .a _ _ rfl fun j u u2 e1 e2=>?_
 match j with
 |0=>cases e1;cases e2;exact .v _
 |1=>cases e1;cases e2;exact .v _
 |2=>cases e1;cases e2;exact .v _
 |3=>cases e1;cases e2;exact nE w hF hT
 |j+4=>simp at e1
theorem Rx{c:Ci}(hc:D2 c):∃ m:Nat,c.inputs+c.latches.length=m∧m≤6∧(At c).valid.length=2 ^ m:=by
 obtain⟨_,m,e1,e2,_,e4,e5,_⟩:=O6 hc.right hc.inp.2 hc.lats.2
 exact⟨m,by omega,e2,e5⟩
theorem N0{n:Nat}{S:Aa}{x:AV}{e:Nat}{es:List (List AV)}(w:A4 n S x e es):∀ i b m,x = .s i b m→AK n i=true:=fun i b m h=>by
 rcases w with⟨rfl,_⟩|⟨id,rfl,h1,_⟩
 ·cases h
 ·injection h with h;subst h;simp[AK];omega
theorem Sz{st:Int}(h:0≤st∧st<256){d:Int}(hd:0<d):∃ n:Nat,st.tmod d=n∧(n:Int)<d:=by
 rw[AiX h.1]
 have h1:=Int.emod_nonneg st (show d≠0 by omega)
 have h2:=Int.emod_lt_of_pos st hd
 exact⟨(st % d).toNat,by omega,by omega⟩
def Og(v4 v28 x4:AV)(S:Aa)(Q:Bg→Aa→Prop):Prop:=Ah Pg 9 [] S Q fun v82 S=>GI v82 fun b83=>gd b83 (∃ q84:AV,(∀ T:Aa,Am S T→AA 8 v4 T fun v85 S=>v85=q84∧S=T)∧∃ q86:AV,(∀ T:Aa,Am S T→AA 4 v28 T fun v87 S=>v87=q86∧S=T)∧∃ q88:AV,(∀ T:Aa,Am S T→Cf .i64 x4 T fun v89 S=>v89=q88∧S=T)∧∃ q90:AV,(∀ T:Aa,Am S T→shift v4 0 T fun v91 S=>v91=q90∧S=T)∧∃ q92:AV,(∀ T:Aa,Am S T→Ax q90 T fun v93 S=>v93=q92∧S=T)∧∃ q94:AV,(∀ T:Aa,Am S T→shift v4 1 T fun v95 S=>v95=q94∧S=T)∧∃ q96:AV,(∀ T:Aa,Am S T→Ax q94 T fun v97 S=>v97=q96∧S=T)∧∃ q98:AV,(∀ T:Aa,Am S T→AG q96 T fun v99 S=>v99=q98∧S=T)∧∃ q100:AV,(∀ T:Aa,Am S T→bin .add 0 q92 q98 T fun v101 S=>v101=q100∧S=T)∧∃ q102:AV,(∀ T:Aa,Am S T→bin .shl 0 (.v (.int .i64 1)) q100 T fun v103 S=>v103=q102∧S=T)∧∃ q104:AV,(∀ T:Aa,Am S T→bin .rem 0 q88 q102 T fun v105 S=>v105=q104∧S=T)∧∃ q106:AV,(∀ T:Aa,Am S T→Ah Pg 10 [q84,q86,q104] T (fun _ _=>False) fun v107 S=>v107=q106∧S=T)∧∃ q108:AV,(∀ T:Aa,Am S T→q106=q108∧T=T)∧Q (.ret q108) S) (∃ q109:AV,(∀ T:Aa,Am S T→(.v (.bool false))=q109∧T=T)∧Q (.ret q109) S)
theorem Oe{c:Ci}(hc:D2 c){i j tz tf:Nat}{f:Fo}{row:List AV}{st:Int}(hst:0≤st∧st<256){S0 S:Aa}(kk:Am S0 S)(oc:S.obj i=some (.cells tz [c.cells] true))(hi:i<S.n)
    (of:S.obj j=some (.cells tf [row] true)) (hrl:row.length=4) (hj:j<S.n) (hcv:∀ T,Am (S.Bx (AK S0.n)) T→Cv T T.n (.a row) f.av) (hf:f.ok) (hd:Dp 3 f) {Q:Bg→Aa→Prop} (hQ:∀ S',Am S0 S'→Q (.ret (aB true)) S'):Og (.p i 0 0) (.p j 0 0) (Qp st) S Q:=by
 unfold Og
 refine IB (args:=[]) (args2:=[]) (AK S0.n) rfl (fun _ _ _ h=>by simp at h) Ag4 ?_
 have oc':=Ep (D:=AK S0.n) oc
 have of':=Ep (D:=AK S0.n) of
 obtain⟨m,hm,hm6,_⟩:=Rx hc
 have h1:=hc.inp
 have h2:=hc.lats
 rw[Ag,Bd rfl]
 refine Em (n:=8) oc' hi rfl ?_
 refine Em (n:=4) of' hj hrl ?_
 refine Lb (fun T hT K=>CT _ (by omega) (by omega)) ?_
 refine B3 ?_
 refine Hk oc' hi rfl rfl ?_
 refine B3 ?_
 refine Hk oc' hi rfl rfl ?_
 refine Lb (fun T hT K=>Bv _) ?_
 refine Lb (v:=aI m) (fun T hT K=>by rw[←hm];exact Ar (by omega) (by omega) 0) ?_
 refine Lb (fun T hT K=>Dl (by omega)) ?_
 have hp:(0:Int)<2 ^ m:=Int.pow_pos (by decide)
 refine Lb (fun T hT K=>C3 (by omega) .i64 0) ?_
 refine⟨aB true,fun T hT=>K2 (args:=[.a c.cells,.a row,aI (st.tmod (2 ^ m))]) (AgP hc.ok hc.fair hf (hd.wt (by decide)) _) rfl (yT (Ci.tK c _ _) (hcv T hT) (.v _)) ⟨rfl,rfl⟩,?_⟩
 exact Aa9 (hQ _ (kk.Bx (Ai4 _)))
theorem A4.kp{n:Nat}{S S':Aa}{x:AV}{e:Nat}{es:List (List AV)}(h:A4 n S x e es)(k:Am S S'):A4 n S' x e es:=h.same k.1 fun i _ hi=>k.2 i hi
theorem AhB{l:List Int}(hl:∀ x∈l,0≤x∧x<65536){kd a b st:Int}(hk:0≤kd∧kd<256)(ha:0≤a∧a<256)(hb:0≤b∧b<256)(hst:0≤st∧st<256)(tu:Bool):BH Pg 4 [aL Jp l,Qp kd,Qp a,Qp b,Qp st,aB tu] (aB true):=by
 intro S
 refine Ad.Bt (zD ?_)
 dsimp only[m4,mN,mO,Ta,Fi,Lf,Lt,Lc]
 refine .inl (Ad.conv (args2:=[aL Jp l,aL Qp []]) rfl (yU (Tree.aL (fun _ _=>Tree.v _) _ _) .nl) ((of6 hl (fun x hx=>by cases hx)).mono ?_))
 rintro e S' ⟨tr,rfl,rfl,c,f,rfl,hc,hv,hf⟩
 show A0 _ _ _ _
 rw[B2,BV]
 refine Ai rfl fun S1 k1 n1 o1=>?_
 refine Ai rfl fun S2 k2 n2 o2=>?_
 refine AF (cs':=c.cells) (Kg k2 o1) rfl rfl fun S3 n3 o3 f3=>?_
 refine AF ((f3 _ (by omega)).trans o2) (Fo.Aj f) rfl fun S4 n4 o4 f4=>?_
 have kk:Am S' S4:=((k1.trans k2).st (Ai4 _) n3 f3).st (by omega) n4 f4
 have p4:=(f4 _ (by omega)).trans o3
 have hi:=hc.inp
 have hla:=hc.lats
 have han:=hc.ands
 rw[Ac,Af p4 rfl rfl,Ac,Af p4 rfl rfl,Bv,Ar (by omega) (by omega),Ar (by omega) (by omega),Ac,Af p4 rfl rfl,Bv,Ar (by omega) (by omega),G7 (by omega) (by omega),CT _ (by omega) (by omega),C3 (by decide)]
 have hk2:0≤kd.tmod 15∧kd.tmod 15<15:=by
  rw[AiX hk.1];omega
 rw[Ar (by omega) (by omega),CT _ (by omega) (by omega),C3 (by omega)]
 have hvs:(0:Int)<2*(c.inputs+c.latches.length+1+c.ands.length):=by omega
 generalize hvv:2*(c.inputs+(c.latches.length:Int)+1+(c.ands.length:Int))=vs at *
 obtain⟨la,hla1,hla2⟩:=Sz ha hvs
 obtain⟨lb,hlb1,hlb2⟩:=Sz hb hvs
 rw[hla1,A7 (cs:=Qu la) rfl]
 generalize kd.tmod 15=k at *
 have okq:∀ l:Nat,(l:Int)<vs→(Ey l).ok:=fun l hl=>.mk _ _ _ _ ⟨by decide,by decide⟩ ⟨by omega,by omega⟩ (by decide) (by decide) fun f hf=>by cases hf
 have kr:By (4+k):=⟨by omega,by omega⟩
 refine zF (r:=Qu la) rfl ?_
 obtain⟨S5,hS5⟩:∃ S5,S5=S4.new (.cells 32 [Qu la] true):=⟨_,rfl⟩
 have k5:Am S4 S5:=by rw[hS5];exact(Am.refl _).new _
 have n5:S5.n=S4.n+1:=by rw[hS5];rfl
 have o5:S5.obj S4.n=some (.cells 32 [Qu la] true):=by rw[hS5];exact B0 _
 rw[←hS5,A7 (cs:=[aI (4+k),.v (.string ⟨#[]⟩),aI 0,.s S4.n 0 1]) rfl]
 have w5:A4 S'.n S5 (.s S4.n 0 1) 32 (([(la:Int)]:List Int).map Qu):=.inr ⟨S4.n,rfl,by have:=kk.1;omega,by omega,o5⟩
 refine Ai rfl fun S6 k6 n6 o6=>?_
 refine AF (cs':=[aI (4+k),.v (.string ⟨#[]⟩),aI 0,.s S4.n 0 1]) o6 rfl rfl fun S7 n7 o7 f7=>?_
 have k7:Am S5 S7:=k6.st (Ai4 _) n7 f7
 have w7:A4 S'.n S7 (.s S4.n 0 1) 32 (([(la:Int)]:List Int).map Qu):=A4.kp w5 k7
 have c7:=(Kg k7 (Kg k5 p4))
 have ka:Am S' S7:=(kk.trans k5).trans k7
 have fin:∀(T:Aa) (z:AV) (ls:List Int),Am S' T→S5.n<T.n→T.obj S'.n=some (.cells 29 [c.cells] true)→T.obj S5.n=some (.cells 32 [[aI (4+k),.v (.string ⟨#[]⟩),aI 0,z]] true)→A4 S'.n T z 32 (ls.map Qu)→(∀ b m,z≠.s S'.n b m∧z≠.s S5.n b m)→(Fo.mk (4+k) ⟨#[]⟩ 0 (ls.map Ey)).ok→Dp 2 (Fo.mk (4+k) ⟨#[]⟩ 0 (ls.map Ey))→
     GI (aB tu) fun b=>gd b (AA 4 (.p S5.n 0 0) T fun v51 S=>Ah Pg 7 [.v (.int .i64 4),v51] S (fun r S''=>r = .ret (aB true)∧Am S' S'') fun v52 S=>A8 4 (.p S5.n 0 0) v52 S fun v53 S=>Og (.p S'.n 0 0) (.p S5.n 0 0) (Qp st) S fun r S''=>r = .ret (aB true)∧Am S' S'') (Og (.p S'.n 0 0) (.p S5.n 0 0) (Qp st) T fun r S''=>r = .ret (aB true)∧Am S' S''):=by
  intro T z ls kT nT oc of w hz hok hd
  rw[Ag]
  have:=kk.1
  cases tu with
  |false =>
   refine Oe (f:=Fo.mk (4+k) ⟨#[]⟩ 0 (ls.map Ey)) hc hst kT oc (by omega) of rfl nT (fun U hU=>bW w (N0 w) hU) hok ?_ fun _ h=>⟨rfl,h⟩
   cases hd with
   |mk d _ _ _ _ h=>exact .mk 2 _ _ _ _ fun f hf=>by cases h f hf with|mk e _ _ _ _ h=>exact .mk 1 _ _ _ _ fun g hg=>by cases h g hg
  |true =>
   let D:Nat→Bool:=fun x=>AK S'.n x && !decide (x=S'.n) && !decide (x=S5.n)
   have hD:∀ i b m,z = .s i b m→D i=true:=fun i b m e=>by
    have h1:=N0 w i b m e
    have h2:i≠S'.n:=fun e2=>(hz b m).1 (e2 ▸ e)
    have h3:i≠S5.n:=fun e2=>(hz b m).2 (e2 ▸ e)
    simp[D,h1,h2,h3]
   have hDl:∀ x,x<S'.n→D x=false:=fun x hx=>by
    have:AK S'.n x=false:=by simp[AK];omega
    simp[D,this]
   rw[A9,An (n:=4) of rfl]
   refine IB (args:=[aI 4,.a [aI (4+k),.v (.string ⟨#[]⟩),aI 0,z]]) (args2:=[aI 4,(Fo.mk (4+k) ⟨#[]⟩ 0 (ls.map Ey)).av]) D rfl (yU (.v _) (bW w hD (Am.refl _))) (sR 4 _) ?_
   have oc':(T.Bx D).obj S'.n=some (.cells 29 [c.cells] true):=by rw[CG (by simp[D])];exact oc
   have of':(T.Bx D).obj S5.n=some (.cells 32 [[aI (4+k),.v (.string ⟨#[]⟩),aI 0,z]] true):=by rw[CG (by simp[D])];exact of
   have kD:Am S' (T.Bx D):=⟨kT.1,fun x hx=>(CG (hDl x hx)).trans (kT.2 x hx)⟩
   refine AF (cs':=(AT 4 (Fo.mk (4+k) ⟨#[]⟩ 0 (ls.map Ey))).row) of' (Fo.Aj _) rfl fun U nU oU fU=>?_
   refine Oe (f:=AT 4 (Fo.mk (4+k) ⟨#[]⟩ 0 (ls.map Ey))) hc hst (kD.st (by omega) nU fU) ((fU _ (by omega)).trans oc') (by rw[nU];exact(by omega:S'.n<T.n)) oU (Fo.Aj _) (by rw[nU];exact nT) (fun V _=>Fo.tr _ _ _) ?_ (hd.one 4) fun _ h=>⟨rfl,h⟩
   exact .mk _ _ _ _ ⟨by decide,by decide⟩ ⟨by decide,by decide⟩ (by decide) (by simp) fun g hg=>by rw[AiA.1 hg];exact hok
 have ok1:(Fo.mk (4+k) ⟨#[]⟩ 0 [Ey la]).ok:=.mk _ _ _ _ kr ⟨by decide,by decide⟩ (by decide) (by simp) fun g hg=>by rw[AiA.1 hg];exact okq la hla2
 have ok2:(Fo.mk (4+k) ⟨#[]⟩ 0 [Ey la,Ey lb]).ok:=.mk _ _ _ _ kr ⟨by decide,by decide⟩ (by decide) (by simp) fun g hg=>by
  have:g=Ey la∨g=Ey lb:=by simpa using hg
  rcases this with rfl|rfl
  ·exact okq la hla2
  ·exact okq lb hlb2
 have one:=fin S7 (.s S4.n 0 1) [(la:Int)] ka (by omega) c7 o7 w7 (fun b m=>⟨fun e=>by injection e with e;have:=kk.1;omega,fun e=>by injection e with e;omega⟩) ok1 ((Dp.q la).one (4+k))
 have hconv:∀{P:AV→Prop},P (aI b)→∃ q,(∀ T,Am S7 T→Cf .i64 (Qp b) T fun v S=>v=q∧S=T)∧P q:=fun h=>Lb (fun T hT K=>CT _ (by omega) (by omega)) h
 have mid:∃ q112:AV,(∀ T:Aa,Am S7 T→shift (.p S5.n 0 0) 3 T fun v113 S=>v113=q112∧S=T)∧∃ q114:AV,(∀ T:Aa,Am S7 T→Ax q112 T fun v115 S=>v115=q114∧S=T)∧∃ q116:AV,(∀ T:Aa,Am S7 T→Cf .i64 (Qp b) T fun v117 S=>v117=q116∧S=T)∧∃ q118:AV,(∀ T:Aa,Am S7 T→bin .rem 0 q116 (aI vs) T fun v119 S=>v119=q118∧S=T)∧∃ q120:AV,(∀ T:Aa,Am S7 T→CH [(0,1),(1,1),(2,1),(3,1)] [.v (.int .i64 0),.v (.string ByteArray.empty),.v (.int .i64 0),.nl] [(0,(.v (.int .i64 3))),(2,q118)] T fun v121 S=>v121=q120∧S=T)∧∃ q122:AV,(∀ T:Aa,Am S7 T→AU 32 4 1 [.v (.int .i64 0),.v (.string ByteArray.empty),.v (.int .i64 0),.nl] [(0,q120)] T fun v123 S=>v123=q122∧S=T)∧Bo 32 4 56 q114 q122 S7 fun v124 S=>∃ q125:AV,(∀ T:Aa,Am S T→shift (.p S5.n 0 0) 3 T fun v126 S=>v126=q125∧S=T)∧A8 1 q125 v124 S fun v127 S =>
     GI (aB tu) fun b=>gd b (AA 4 (.p S5.n 0 0) S fun v51 S=>Ah Pg 7 [.v (.int .i64 4),v51] S (fun r S''=>r = .ret (aB true)∧Am S' S'') fun v52 S=>A8 4 (.p S5.n 0 0) v52 S fun v53 S=>Og (.p S'.n 0 0) (.p S5.n 0 0) (Qp st) S fun r S''=>r = .ret (aB true)∧Am S' S'') (Og (.p S'.n 0 0) (.p S5.n 0 0) (Qp st) S fun r S''=>r = .ret (aB true)∧Am S' S''):=by
  refine B3 ?_
  refine Hk o7 (by omega) rfl rfl ?_
  refine hconv ?_
  refine Lb (v:=aI lb) (fun T hT K=>by rw[←hlb1];exact C3 (by omega) .i64 0) ?_
  refine⟨.a (Qu lb),fun T hT=>by rw[A7 (cs:=Qu lb) rfl];exact⟨rfl,rfl⟩,?_⟩
  refine⟨.l [Qu lb],fun T hT=>Gt rfl ⟨rfl,rfl⟩,?_⟩
  refine w7.app (c:=Qu lb) (by have:=ka.1;omega) rfl (by simp) (fun z S8 w8 b8 hz=>?_) rfl
  obtain⟨mz,hmz⟩:=hz
  have n8:=b8.1
  have k8:∀ x,x<S7.n→x≠S4.n→S8.obj x=S7.obj x:=fun x hx hne=>b8.2 x hx (fun b m e=>by injection e with e;omega)
  refine B3 ?_
  have:=kk.1
  refine B8 ((k8 _ (by omega) (by omega)).trans o7) (by simp) (by rw[hmz];rfl) fun S9 n9 o9 f9=>?_
  refine fin S9 z [(la:Int),(lb:Int)] ⟨by omega,fun x hx=>(f9 x (by omega)).trans ((k8 x (by have:=ka.1;omega) (by omega)).trans (ka.2 x hx))⟩ (by omega) ((f9 _ (by omega)).trans ((k8 _ (by omega) (by omega)).trans c7)) o9 (w8.st (id:=S5.n) (fun b m e=>by rw[hmz]at e;injection e with e;omega) n9 f9) (fun b m=>by rw[hmz];exact⟨fun e=>by injection e with e;omega,fun e=>by injection e with e;omega⟩) ok2 ((Dp.q la).two (4+k) (Dp.q lb))
 rw[BA,Ag]
 refine Al (fun _=>?_) (fun _=>?_)
 ·rw[C4,Ag]
  refine Al (fun _=>mid) (fun _=>?_)
  rw[BA,Ag]
  exact Al (fun _=>mid) (fun _=>one)
 ·rw[BA,Ag]
  exact Al (fun _=>mid) (fun _=>one)
section
variable {H:Type} {enc:TypeId × Value→H} {w:World} {sp:Nat→Bool} {held:Bool}
theorem opB:I6 enc Pg w sp held 4 1 (fun b:Bool=>[aB b]) (fun _=>True):=SP Tryz.underlying4
end
section
set_option maxRecDepth 100000
def c5:Code:=(Tryz.f5.body).getD .skip
def r5:List ResultVar:=Tryz.f5.results.toList
abbrev SZ(a c d:AV)(S:Aa)(e:AV)(Q:Aq)(f:AV):Prop:=Fi a (Fi c (Lf d 1 S fun g S=>AR 4 1 g e S fun h S=>Ax h S fun i S=>bin .eql 1 (.v (.bool true)) i S fun k S=>Q (.ret k) S) (Lf d 1 S fun l S=>AR 4 1 l e S fun m S=>Ax m S fun n S=>bin .eql 1 f n S fun o S=>Q (.ret o) S)) (Q (.ret (.v (.bool false))) S)
abbrev yF(S:Aa)(a c d e f g:AV)(Q:Aq)(h i k l m n:AV):Prop:=(∀ T:Aa,Am S T→A0 a 2 T fun o S=>o=c∧S=T)∧(∀ T:Aa,Am S T→A0 a 1 T fun p S=>p=d∧S=T)∧AA 8 e S fun q S=>AA 4 f S fun r S=>AA 5 g S fun s S=>Ah Pg 13 [q,r,s] S Q fun t S=>A0 t 0 S fun u S=>A0 t 1 S fun w S=>(fun S0:Aa=>Lq S0 (AA 8 e) fun x=>Lq S0 (AA 4 f) fun y=>Ld S0 7 [aI 4,y] fun z=>Lq S0 (AA 5 h) fun A=>Ld S0 13 [x,z,A] fun B=>Lq S0 (A0 B 0) fun C=>Lq S0 (A0 B 1) fun D=>bin .neq 0 i (aI 0) S fun E S=>Fi E (Q (.ret (.v (.bool false))) S) (bin .neq 0 c (aI 0) S fun F S=>Fi F (Q (.ret (.v (.bool false))) S) (bin .neq 1 k w S fun G S=>Fi G (Q (.ret (.v (.bool false))) S) (bin .neq 1 d D S fun H S=>Fi H (Q (.ret (.v (.bool false))) S) (Fi l (Fi k (un .not d S fun I S=>SZ I k m S n Q d) (un .not (.v (.bool false)) S fun J S=>SZ J k m S n Q d)) (Q (.ret (.v (.bool false))) S)))))) S
def m5(x0 x1 x2:AV)(S:Aa)(Q:Aq):Prop:=
 Ah Pg 9 [] S Q fun c S=>un .not c S fun d S=>Fi d (Q (.ret (.v (.bool false))) S) (AG x1 S fun e S=>YK false e (aI 12) S fun f S=>IJ 5 1 x1 none (some f) none S fun g S=>Ah Pg 6 [x0,g] S Q fun h S=>A0 h 0 S fun i S=>A0 h 1 S fun k S=>Az 29 8 (.a wW) S fun l S=>Az 32 4 (.a CK) S fun m S=>A8 8 l i S fun n S=>A8 4 m k S fun o S=>AA 8 l S fun p S=>Ah Pg 11 [p] S Q fun q S=>A0 q 0 S fun r S=>A0 q 1 S fun s S=>Az 45 5 (.a XN) S fun t S=>A8 5 t r S fun u S=>Cf .i64 x2 S fun w S=>Lf t 1 S fun x S=>AG x S fun y S=>bin .rem 0 w y S fun z S=>AA 8 l S fun A S=>AA 4 m S fun B S=>Ah Pg 12 [A,B,z] S Q fun C S=>A0 C 0 S fun D S=>A0 C 1 S fun E S=>A0 C 2 S fun F S=>Az 51 5 (.a Ju) S fun G S=>A8 5 G D S fun H S=>Lt S (AA 8 l) fun I=>Lt S (AA 4 m) fun J=>Lc S 7 [aI 4,J] fun K=>(Ah Pg 12 [I,K,z] S Q fun L S=>Lt S (A0 L 0) fun M=>Lt S (A0 L 1) fun N=>Lt S (A0 L 2) fun O=>Az 51 5 (.a Ju) S fun P S=>(∀ T:Aa,Am S T→A0 L 2 T fun R S=>R=O∧S=T)∧(∀ T:Aa,Am S T→A0 L 1 T fun U S=>U=N∧S=T)∧A8 5 P M S fun V S=>yF S L O N l m G Q P F E c t z)∧(Az 51 5 (.a Ju) S fun W S=>Ah Pg 12 [I,K,z] S Q fun X S=>Lt S (A0 X 0) fun Y=>Lt S (A0 X 1) fun Z=>Lt S (A0 X 2) fun a0=>A8 5 W Y S fun a1 S=>yF S X a0 Z l m G Q W F E c t z))
theorem zC{x0 x1 x2:AV}{S:Aa}{Q:Aq}(h:m5 x0 x1 x2 S Q):Ad Pg 5 [x0,x1,x2] S Q:=
 Bl (n:=115) [[12]] Tryz.func5 (by kernel_rfl) (Eq.mpr (by kernel_rfl) h)
end
theorem Ah7{α:Type}{f:α→AV}{l:List α}{e n:Nat}(h:n≤l.length){S:Aa}{K:AV→Aa→Prop}:IJ e 1 (aL f l) none (some (aI n)) none S K=K (aL f (l.take n)) S:=by
 simp only[IJ,aL,LD,Aw,BO,Ai8,Int.sub_zero,AiJ,Int.toNat_zero,List.drop_zero,←List.map_take]
 apply propext
 constructor
 ·rintro⟨_,_,hK⟩
  exact hK
 ·intro hK
  exact⟨⟨by omega,by omega,by omega⟩,fun c hc=>by obtain⟨x,_,rfl⟩:=AiL.1 hc;rfl,hK⟩
theorem AcF(n:Nat){S:Aa}{K:AV→Aa→Prop}:YK false (aI n) (aI 12) S K=K (aI (min n 12:Nat)) S:=by
 rw[Q0]
 congr 3
 rw[Nat.min_def]
 split<;>split<;>omega
def eiT(v10 v11 v18 v24 v29 v30 v31 v46 q42 q44 v1:AV)(S:Aa)(Q:Bg→Aa→Prop):Prop:=AA 8 v10 S fun v119 S=>AA 4 v11 S fun v120 S=>AA 5 v31 S fun v121 S=>Ah Pg 13 [v119,v120,v121] S Q fun v122 S=>A0 v122 0 S fun v123 S=>A0 v122 1 S fun v124 S=>(fun S0:Aa=>∃ q125:AV,(AA 8 v10 S fun v126 S=>v126=q125∧S=S0)∧∃ q127:AV,(AA 4 v11 S fun v128 S=>v128=q127∧S=S0)∧∃ q129:AV,(Ah Pg 7 [.v (.int .i64 4),q127] S (fun _ _=>False) fun v130 S=>v130=q129∧S=S0)∧∃ q131:AV,(AA 5 v46 S fun v132 S=>v132=q131∧S=S0)∧∃ q133:AV,(Ah Pg 13 [q125,q129,q131] S (fun _ _=>False) fun v134 S=>v134=q133∧S=S0)∧∃ q135:AV,(A0 q133 0 S fun v136 S=>v136=q135∧S=S0)∧∃ q137:AV,(A0 q133 1 S fun v138 S=>v138=q137∧S=S0)∧bin .neq 0 v30 (.v (.int .i64 0)) S fun v139 S=>GI v139 fun b140=>gd b140 (Q (.ret (.v (.bool false))) S) (bin .neq 0 q44 (.v (.int .i64 0)) S fun v141 S=>GI v141 fun b142=>gd b142 (Q (.ret (.v (.bool false))) S) (bin .neq 1 v29 v124 S fun v143 S=>GI v143 fun b144=>gd b144 (Q (.ret (.v (.bool false))) S) (bin .neq 1 q42 q137 S fun v145 S=>GI v145 fun b146=>gd b146 (Q (.ret (.v (.bool false))) S) (GI v1 fun b147=>gd b147 (GI v29 fun b148=>gd b148 (un .not q42 S fun v149 S=>GI v149 fun b150=>gd b150 (GI v29 fun b151=>gd b151 (shift v18 1 S fun v152 S=>Ax v152 S fun v153 S=>AR 4 1 v153 v24 S fun v154 S=>Ax v154 S fun v155 S=>bin .eql 1 (.v (.bool true)) v155 S fun v156 S=>Q (.ret v156) S) (shift v18 1 S fun v157 S=>Ax v157 S fun v158 S=>AR 4 1 v158 v24 S fun v159 S=>Ax v159 S fun v160 S=>bin .eql 1 q42 v160 S fun v161 S=>Q (.ret v161) S)) (Q (.ret (.v (.bool false))) S)) (un .not (.v (.bool false)) S fun v162 S=>GI v162 fun b163=>gd b163 (GI v29 fun b164=>gd b164 (shift v18 1 S fun v165 S=>Ax v165 S fun v166 S=>AR 4 1 v166 v24 S fun v167 S=>Ax v167 S fun v168 S=>bin .eql 1 (.v (.bool true)) v168 S fun v169 S=>Q (.ret v169) S) (shift v18 1 S fun v170 S=>Ax v170 S fun v171 S=>AR 4 1 v171 v24 S fun v172 S=>Ax v172 S fun v173 S=>bin .eql 1 q42 v173 S fun v174 S=>Q (.ret v174) S)) (Q (.ret (.v (.bool false))) S))) (Q (.ret (.v (.bool false))) S)))))) S
theorem nS{c:Ci}(hc:D2 c){f:Fo}(hf:f.ok)(hf4:(AT 4 f).ok){t u:Tn}(ht:t.ok)(hu:u.ok){a b:Bool}{n1 n2:Int}(h1:FL c f t=(n1,a))(h2:FL c (AT 4 f) u=(n2,b)){n:Nat}(hn:n<(At c).valid.length)
    (ha:a=true→bit (At c).valid n=true) (hb:b=(bit (At c).valid n && !a)) {S0 S:Aa} (kk:Am S0 S) {i1 i2 i3 i4 i5 t1 t2 t3 t4 t5:Nat} (o1:S.obj i1=some (.cells t1 [c.cells] true)) (o2:S.obj i2=some (.cells t2 [f.row] true)) (o3:S.obj i3=some (.cells t3 [t.row] true)) (o4:S.obj i4=some (.cells t4 [u.row] true)) (o5:S.obj i5=some (.cells t5 [(At c).cells] true)):
    eiT (.p i1 0 0) (.p i2 0 0) (.p i5 0 0) (aI n) (aB a) (aI 0) (.p i3 0 0) (.p i4 0 0) (aB b) (aI 0) (aB true) S fun r S''=>r = .ret (aB true)∧Am S0 S'':=by
 unfold eiT
 rw[An (n:=8) o1 rfl,An (n:=4) o2 (Fo.Aj f),An (n:=5) o3 (Tn.Aj t)]
 refine Ae (VQ hc.ok hf ht) ?_
 rw[h1,B2,BV]
 refine⟨_,by rw[An (n:=8) o1 rfl];exact⟨rfl,rfl⟩,?_⟩
 refine⟨_,by rw[An (n:=4) o2 (Fo.Aj f)];exact⟨rfl,rfl⟩,?_⟩
 refine⟨_,Ae (sR 4 f) ⟨rfl,rfl⟩,?_⟩
 refine⟨_,by rw[An (n:=5) o4 (Tn.Aj u)];exact⟨rfl,rfl⟩,?_⟩
 refine⟨_,Ae (VQ hc.ok hf4 hu) ⟨rfl,rfl⟩,?_⟩
 rw[h2]
 refine⟨_,by rw[B2];exact⟨rfl,rfl⟩,?_⟩
 refine⟨_,by rw[BV];exact⟨rfl,rfl⟩,?_⟩
 have e5:(At c).cells[1]? = some (aL aB (At c).valid):=rfl
 have hv:=Bc hn
 rw[Bi,Ag,Be (by rfl),Bi,Ag,Be (by rfl),CV,Ag,Be (by simp),CV,Ag,Be (by simp),Ag,A9,Ag]
 have look:∀{x:Bool},x=bit (At c).valid n→shift (.p i5 0 0) 1 S fun v152 S=>Ax v152 S fun v153 S=>AR 4 1 v153 (aI n) S fun v154 S=>Ax v154 S fun v155 S=>bin .eql 1 (aB x) v155 S fun v156 S=>(Bg.ret v156 = .ret (aB true)∧Am S0 S):=fun hx=>by
  rw[Ac,Af o5 rfl e5,AM hn,A3,HZ,hx,hv]
  exact⟨by simp,kk⟩
 cases a with
 |true =>
  have hval:=ha rfl
  have hb':b=false:=by rw[hb];simp
  subst hb'
  rw[A9,AI,Ag,AO rfl,Ag,A9]
  exact look hval.symm
 |false =>
  have hb':b=bit (At c).valid n:=by rw[hb];simp
  rw[AZ,AI,Ag,AO rfl,Ag,AZ]
  exact look hb'
theorem AhA{l m:List Int}(hl:∀ x∈l,0≤x∧x<65536)(hm:∀ x∈m,0≤x∧x<256){st:Int}(hst:0≤st∧st<256):BH Pg 5 [aL Jp l,aL Qp m,Qp st] (aB true):=by
 intro S
 refine Ad.Bt (zC ?_)
 dsimp only[m5,yF,SZ,Fi,Lf,Lt,Lc,Lq,Ld]
 refine Ae Ag4 ?_
 rw[AI,Ag,AL rfl,Ay,AcF,Ah7 (Nat.min_le_left _ _)]
 refine .inl ((of6 hl (m:=m.take (min m.length 12)) (fun x hx=>hm x (List.mem_of_mem_take hx))).mono ?_)
 rintro e S' ⟨tr,rfl,rfl,c,f,rfl,hc,hv,hf⟩
 show A0 _ _ _ _
 rw[B2,BV]
 refine Ai rfl fun S1 k1 n1 o1=>?_
 refine Ai rfl fun S2 k2 n2 o2=>?_
 refine AF (cs':=c.cells) (Kg k2 o1) rfl rfl fun S3 n3 o3 f3=>?_
 refine AF ((f3 _ (by omega)).trans o2) (Fo.Aj f) rfl fun S4 n4 o4 f4=>?_
 have k4:Am S' S4:=((k1.trans k2).st (Ai4 _) n3 f3).st (by omega) n4 f4
 have c4:=(f4 S'.n (by omega)).trans o3
 rw[An (n:=8) c4 rfl]
 refine Ae (wU hc.ok) ?_
 rw[(O6 hc.right hc.inp.2 hc.lats.2).1,B2,BV]
 obtain⟨mm,hm1,hm6,hvl⟩:=Rx hc
 have hp:=Yr hm6
 have hp0:0<2 ^ mm:=Nat.pow_pos (by decide)
 refine Ai rfl fun S5 k5 n5 o5=>?_
 refine AF (cs':=(At c).cells) o5 rfl rfl fun S6 n6 o6 f6=>?_
 have k6:Am S4 S6:=k5.st (Ai4 _) n6 f6
 have e6:(At c).cells[1]? = some (aL aB (At c).valid):=rfl
 rw[CT _ (by omega) (by omega),Ac,Af o6 rfl e6,Ay,C3 (by omega)]
 obtain⟨n,hn1,hn2⟩:=Sz hst (d:=((At c).valid.length:Int)) (by omega)
 have hn:n<(At c).valid.length:=by omega
 rw[hn1]
 have c6:=(Kg k6 c4)
 have g6:=(Kg k6 o4)
 rw[An (n:=8) c6 rfl,An (n:=4) g6 (Fo.Aj f)]
 have gd:=hf.gd hc
 have gn:=gd.one 4 (.inl rfl)
 have hdp:Dp 7 f:=yE f hf.may
 refine GA hc.ok hc.fair hf.ok (hdp.wt (by decide)) n (fun S m=>Ci.tK c S m) fun t a e1 sh=>?_
 have hs:=sh.has
 rw[Rz hc (by decide) gd hn]at hs
 injection hs with hs1 hs2
 subst hs2
 rw[B2,BV,E4]
 refine Ai rfl fun S7 k7 n7 o7=>?_
 refine AF (cs':=t.row) o7 (Tn.Aj t) rfl fun S8 n8 o8 f8=>?_
 have k8:Am S6 S8:=k7.st (Ai4 _) n8 f8
 have h4:=k4.1
 have h6:=k6.1
 have c8:=(Kg k8 c6)
 have g8:=(Kg k8 g6)
 have p8:=(k8.2 S4.n (by omega)).trans o6
 have kk:=(k4.trans k6).trans k8
 refine Em (n:=8) c8 (by omega) rfl ?_
 refine Em (n:=4) g8 (by omega) (Fo.Aj f) ?_
 refine EG (sR 4 f) ?_
 obtain⟨ei1,ei2⟩:=either gd n
 have fin:∀(u:Tn) (b:Bool) (e:Int),Shown c (AT 4 f) n u b e→∀(T:Aa) (i:Nat) (tt:Nat),Am S8 T→T.obj i=some (.cells tt [u.row] true)→e=0∧
     eiT (.p S'.n 0 0) (.p S1.n 0 0) (.p S4.n 0 0) (aI n) (aB a) (aI 0) (.p S6.n 0 0) (.p i 0 0) (aB b) (aI e) (aB true) T fun r S''=>r = .ret (aB true)∧Am S' S'':=by
  intro u b e sh2 T i tt kT oT
  have hs:=sh2.has
  rw[Rz hc (by decide) gn hn]at hs
  injection hs with hs3 hs4
  obtain⟨n1,ha⟩:=QH hf.ok sh
  obtain⟨n2,hb⟩:=QH gn.ok sh2
  subst hs4
  refine⟨rfl,nS hc hf.ok gn.ok (NS sh) (NS sh2) ha hb hn (fun h=>ei2 (by rw[hs1];exact h)) (by rw[←hs3,ei1,hs1]) (kk.trans kT) (Kg kT c8) (Kg kT g8) (Kg kT o8) oT (Kg kT p8)⟩
 have hdn:Dp 8 (AT 4 f):=hdp.one 4
 constructor
 ·refine GA hc.ok hc.fair gn.ok (hdn.wt (by decide)) n (fun S m=>Ci.tK c S m) fun u b e sh2=>?_
  refine Lb (fun T hT K=>B2) ?_
  refine Lb (fun T hT K=>BV) ?_
  refine Lb (fun T hT K=>E4) ?_
  refine Ai rfl fun S9 k9 n9 o9=>?_
  refine⟨fun T hT=>by rw[E4];exact⟨rfl,rfl⟩,fun T hT=>by rw[BV];exact⟨rfl,rfl⟩,?_⟩
  refine AF (cs':=u.row) o9 (Tn.Aj u) rfl fun SA nA oA fA=>?_
  refine⟨fun T hT=>by rw[E4];exact⟨rfl,rfl⟩,fun T hT=>by rw[BV];exact⟨rfl,rfl⟩,?_⟩
  obtain⟨rfl,h⟩:=fin u b e sh2 SA _ _ (k9.st (Ai4 _) nA fA) oA
  exact h
 ·refine Ai rfl fun S9 k9 n9 o9=>?_
  refine GA hc.ok hc.fair gn.ok (hdn.wt (by decide)) n (fun S m=>Ci.tK c S m) fun u b e sh2=>?_
  refine Lb (fun T hT K=>B2) ?_
  refine Lb (fun T hT K=>BV) ?_
  refine Lb (fun T hT K=>E4) ?_
  refine AF (cs':=u.row) o9 (Tn.Aj u) rfl fun SA nA oA fA=>?_
  refine⟨fun T hT=>by rw[E4];exact⟨rfl,rfl⟩,fun T hT=>by rw[BV];exact⟨rfl,rfl⟩,?_⟩
  obtain⟨rfl,h⟩:=fin u b e sh2 SA _ _ (k9.st (Ai4 _) nA fA) oA
  exact h
end
end Go.Proofs.YteooinddnfbglaaGreatDoor.G

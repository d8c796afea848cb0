/- Witness -/
import Derived.Test.YteooinddnfbglaaGreatDoorProg
import Derived.KernelRfl
import Derived.Test.YteooinddnfbglaaGreatDoorKqT4
set_option linter.unusedVariables false
set_option linter.unusedSimpArgs false
set_option linter.unusedSectionVars false
namespace Go.Proofs.YteooinddnfbglaaGreatDoor.G
open Go Go.Ab
noncomputable section
theorem Zi{inp:Int}{lats:List (Int × Int)}{g:Gr}{outs bads cons fair:List Int}{b1 b2:Bool}{t:ByteArray}(h0:0≤inp)(h1:inp≤3)(hl1:1≤lats.length)(hl2:lats.length≤3)
    (hg:g.right=true) (hgi:g.inputs=inp+lats.length) (hga:g.ands.length≤8) (hgok:g.ok) (hlat:∀ p∈lats,g.lit p.1=true∧0≤p.2∧p.2≤2) (ho:∀ x∈outs,g.lit x=true) (hb:∀ x∈bads,g.lit x=true)
    (hc:∀ x∈cons,g.lit x=true) (hf:∀ x∈fair,g.lit x=true) (lo:outs.length≤2) (lb:bads.length≤1) (lc:cons.length≤1) (lf:fair.length≤1)
    (ht:b2=true→0<outs.length∧(t=⟨#[111,117,116]⟩∨t=⟨#[108,49]⟩∨t=⟨#[97,45,98]⟩)):
    D2 ⟨inp,lats,g.ands,outs,bads,cons,fair,(if b1 then[⟨108,0,⟨#[113]⟩⟩]else[])++(if b2 then[⟨111,outs.length - 1,t⟩]else[])⟩:=by
 have hvg:g.vars=inp+lats.length+1+g.ands.length:=by unfold Gr.vars;omega
 have hi64:∀{x:Int},g.lit x=true→By x:=fun h=>by
  obtain⟨_,_,h1,h2⟩:=Dq.1 h
  exact⟨by omega,by omega⟩
 have hgr:∀ nm,(⟨inp,lats,g.ands,outs,bads,cons,fair,nm⟩:Ci).gr=g:=fun nm=>by
  show(⟨IntKind.i64.wrap (inp+lats.length),g.ands⟩:Gr)=g
  rw[wrap64 (by omega) (by omega),←hgi]
 have htl:b2=true→Hc t=true∧t.size≤100∧t≠⟨#[113]⟩:=fun h=>by
  rcases(ht h).2 with rfl|rfl|rfl<;>exact⟨by decide,by decide,by decide⟩
 generalize hnm:((if b1 then[⟨108,0,⟨#[113]⟩⟩]else[])++(if b2 then[⟨111,outs.length - 1,t⟩]else[]):List Na)=nm
 have hnl:nm.length≤2:=by subst hnm;cases b1<;>cases b2<;>simp
 have hnames:Cp ⟨inp,lats,g.ands,outs,bads,cons,fair,nm⟩=true:=by
  have e1:GK ⟨inp,lats,g.ands,outs,bads,cons,fair,nm⟩ ⟨108,0,⟨#[113]⟩⟩:=⟨by decide,by decide,by simp[Ci.many];omega⟩
  have e2:b2=true→GK ⟨inp,lats,g.ands,outs,bads,cons,fair,nm⟩ ⟨111,outs.length - 1,t⟩:=fun h=>⟨(htl h).1,by have:=(ht h).1;show(0:Int)≤outs.length - 1;omega,by have:=(ht h).1;simp[Ci.many];omega⟩
  have e3:DJ ⟨108,0,⟨#[113]⟩⟩ ⟨111,outs.length - 1,t⟩:=.inl (by show Ck 108<Ck 111;decide)
  simp only[Cp,decide_eq_true_eq]
  subst hnm
  cases b1<;>cases b2
  ·exact⟨fun i h=>by simp at h,fun i h=>by simp at h,by simp⟩
  ·refine⟨fun i h _=>?_,fun i h=>by simp at h,by simp⟩
   match i with
   |0=>exact e2 rfl
   |i+1=>exact absurd (show i+1<1 from h) (by omega)
  ·refine⟨fun i h _=>?_,fun i h=>by simp at h,by simp⟩
   match i with
   |0=>exact e1
   |i+1=>exact absurd (show i+1<1 from h) (by omega)
  ·refine⟨fun i h _=>?_,fun i h _=>?_,?_⟩
   ·match i with
    |0=>exact e1
    |1=>exact e2 rfl
    |i+2=>exact absurd (show i+2<2 from h) (by omega)
   ·match i with
    |0=>exact e3
    |i+1=>exact absurd (show i+1+1<2 from h) (by omega)
   ·have:=(htl rfl).2.2
    simp only[if_true,List.cons_append,List.nil_append,List.length_cons,List.length_nil,List.take_succ_cons,List.take_zero,List.map_cons,List.map_nil,List.nodup_cons,AiA,AiT,not_false_eq_true,List.nodup_nil,and_true]
    exact fun h=>this (Oi h.symm)
 have hnk:∀ x∈nm,0≤x.kind∧x.kind<256∧By x.pos∧x.text.size≤9223372036854775807:=by
  subst hnm
  intro x hx
  rcases AiQ.1 hx with hx|hx
  ·cases b1
   ·simp at hx
   ·have:x=⟨108,0,⟨#[113]⟩⟩:=by simpa using hx
    subst this
    exact⟨by decide,by decide,⟨by decide,by decide⟩,by decide⟩
  ·cases b2
   ·simp at hx
   ·have:x=⟨111,outs.length - 1,t⟩:=by simpa using hx
    subst this
    have h2:=htl rfl
    exact⟨by show(0:Int)≤111;decide,by show(111:Int)<256;decide,⟨by show _≤(outs.length:Int) - 1;omega,by show(outs.length:Int) - 1≤_;omega⟩,by show t.size≤_;omega⟩
 refine⟨⟨⟨by show _≤inp;omega,by show inp≤_;omega⟩,by show lats.length≤_;omega,by show g.ands.length≤_;omega,fun p hp=>⟨hi64 (hlat p hp).1,⟨by have:=hlat p hp;omega,by have:=hlat p hp;omega⟩⟩,hgok.pairs,⟨fun x hx=>hi64 (ho x hx),by show outs.length≤_;omega⟩,⟨fun x hx=>hi64 (hb x hx),by show bads.length≤_;omega⟩,
  ⟨fun x hx=>hi64 (hc x hx),by show cons.length≤_;omega⟩,⟨fun x hx=>hi64 (hf x hx),by show fair.length≤_;omega⟩,hnk,by show nm.length≤_;omega⟩,Bp.2 ?_,⟨h0,h1⟩,⟨hl1,hl2⟩,hga,lo,lb,lc,lf,⟨b1,b2,t,hnm.symm,ht⟩⟩
 rw[hgr]
 refine⟨⟨h0,by show inp≤_;omega⟩,by show lats.length≤_;omega,by show outs.length≤_;omega,by show bads.length≤_;omega,by show cons.length≤_;omega,by show fair.length≤_;omega,hg,?_,?_,?_,?_,?_,hnames⟩
 ·refine AiD.2 fun p hp=>?_
  obtain⟨q1,q2,q3⟩:=hlat p hp
  simp only[Di,q1,decide_eq_true q2,decide_eq_true q3,Bool.and_self]
 ·exact AiD.2 ho
 ·exact AiD.2 hb
 ·exact AiD.2 hc
 ·exact AiD.2 hf
def UP(l:List Int):List Int:=(List.range (BU l 2 9).toNat).map fun i=>BU l (3+i) 65536
def Hq(l:List Int):Int:=(AQ (BU l 0 4+(1+BU l 1 3)) (UP l) (min (UP l).length 40)).1.vars
def mY(z:AV)(x:Nat):Bool:=match z with|.s i _ _=>decide (i=x)|_=>false
def Ci.zJ(c:Ci)(zc:AV):AV:=.a (c.cells.set 5 zc)
theorem _root_.Go.Ab.Ad.AhE{P:Program}{f:FuncId}{args:List AV}{S:Aa}{Z:AV→Aa→Prop}
    (h:Ad P f args S (fun e S'=>∃(D:Nat→Bool) (r tr:AV),e = .ret r∧Cv (S'.Bx D) S'.n r tr∧Z tr (S'.Bx D))):Ad P f args S (fun e S'=>∃ tr,e = .ret tr∧Z tr S'):=by
 refine⟨h.1,fun w g vs hh ha=>(h.2 w g vs hh ha).mono ?_⟩
 rintro e w' ⟨_,S',g',h1,h2,h3,D,r,tr,rfl,hcv,hz⟩
 cases e with
 |returned v =>
  have hf:=Gb h1 D
  have hm:=HA h1 D
  have hn:(g'.Bx S' D).n=S'.n:=h1.n
  have hcut:(g'.Bx S' D).cut S'.n=g'.Bx S' D:=by
   rw[←hn]
   rfl
  have hr:=NM hf hcv (R.mv hm h3)
  rw[hcut]at hr
  exact⟨.ret tr,S'.Bx D,_,hf,h2.trans hm,hr,_,rfl,hz⟩
 |panicked chain=>exact h3.elim
 |outgrown=>exact h3.elim
theorem UW{n:Nat}{S S':Aa}{x:AV}{e:Nat}{es:List (List AV)}(h:A4 n S x e es):Cv S' S.n x x:=by
 rcases h with⟨rfl,_⟩|⟨id,rfl,h1,h2,h3⟩
 ·exact .nl'
 ·exact .s' _ _ _ h2
structure Fz (S:Aa) (l:List Int) (N:Nat) (A S':Aa) (k:Nat) (cs:List AV):Prop where
 fm:Fm S l S' k cs
 n:N≤S'.n
 hN:S.n+4≤N
 same:∀ x,S.n+4≤x→x<N→S'.obj x=A.obj x
theorem Fz.AS{S A S':Aa}{l:List Int}{N k:Nat}{cs:List AV}(h:Fz S l N A S' k cs):Am S S':=h.fm.AS
theorem Fz.ro{S A S':Aa}{l:List Int}{N k:Nat}{cs:List AV}(h:Fz S l N A S' k cs):S'.obj (S.n+1)=some (.cells 29 [[aI 0,.nl,.nl,.nl,.nl,.nl,.nl,.nl]] true):=h.fm.ro
theorem Fz.co{S A S':Aa}{l:List Int}{N k:Nat}{cs:List AV}(h:Fz S l N A S' k cs):S'.obj (S.n+3)=some (.cells 29 [cs] true):=h.fm.co
theorem Fz.Eo{S A S' S'':Aa}{l:List Int}{N k:Nat}{cs:List AV}(h:Fz S l N A S' k cs)(hn:S'.n≤S''.n)(ho:∀ x,x<N→S''.obj x=S'.obj x):Fz S l N A S'' k cs:=
 ⟨h.fm.Eo hn fun x hx=>ho x (by have:=h.hN;omega),by have:=h.n;omega,h.hN,fun x h1 h2=>(ho x h2).trans (h.same x h1 h2)⟩
theorem Fz.pick{S A S':Aa}{l:List Int}{N k:Nat}{cs:List AV}(h:Fz S l N A S' k cs)(hl:∀ x∈l,0≤x∧x<65536){n:Int}(hn:0<n)(hk:k≤1000){K X:AV→Aa→Prop}
    (kk:∀ S'',Fz S l N A S'' (k+1) cs→S''.n=S'.n→(∀ x,x≠S.n+2→S''.obj x=S'.obj x)→K (aI (BU l k n)) S''):Bh Pg (CQ S) [aI n] S' K X:=
 h.fm.pick hl hn hk fun S'' fm n2 f2=>kk S'' ⟨fm,by have:=h.n;omega,h.hN,fun x h1 h2=>(f2 x (by omega)).trans (h.same x h1 h2)⟩ n2 f2
theorem Fz.st{S A S':Aa}{l:List Int}{N k j:Nat}{cs:List AV}{u:AV}(h:Fz S l N A S' k cs)(hj:j<cs.length)(hu:u.one=true){K:AV→Aa→Prop}
    (kk:∀ S'',Fz S l N A S'' k (cs.set j u)→S''.n=S'.n→(∀ x,x≠S.n+3→S''.obj x=S'.obj x)→K .j S''):A8 1 (.p (S.n+3) 0 j) u S' K:=
 h.fm.st hj hu fun S'' fm n2 f2=>kk S'' ⟨fm,by have:=h.n;omega,h.hN,fun x h1 h2=>(f2 x (by omega)).trans (h.same x h1 h2)⟩ n2 f2
theorem Fz.kT{S A S' T:Aa}{l:List Int}{N k:Nat}{cs:List AV}(h:Fz S l N A S' k cs)(hT:Am S' T):T.obj (S.n+3)=some (.cells 29 [cs] true):=h.fm.kT hT
theorem Fz.own{S A S':Aa}{l:List Int}{N k:Nat}{cs:List AV}(h:Fz S l N A S' k cs){x:AV}{e:Nat}{es:List (List AV)}(w:A4 (S.n+4) A x e es)(hA:A.n=N):A4 (S.n+4) S' x e es:=by
 rcases w with⟨rfl,e⟩|⟨id,rfl,h1,h2,h3⟩
 ·exact .inl ⟨rfl,e⟩
 ·exact .inr ⟨id,rfl,h1,by have:=h.n;omega,(h.same _ h1 (by omega)).trans h3⟩
theorem _root_.Go.Ab.A4.fz{N:Nat}{S' S'':Aa}{x:AV}{e:Nat}{es:List (List AV)}{id:Nat}(h:A4 N S' x e es)(hid:id<N)(hn:S''.n=S'.n)(ho:∀ y,y≠id→S''.obj y=S'.obj y):A4 N S'' x e es:=
 h.st (id:=id) (fun b m e=>by have:=h.lt e;omega) hn ho
theorem Fm.wkD{S S':Aa}{l:List Int}{k:Nat}{cs cs2:List AV}(h:Fm S l S' k cs)(D:Nat→Bool)(hD:∀ x,x<S.n+4→D x=false)(hl:cs.length=cs2.length)(hc:∀(k:Nat) (u u2:AV),cs[k]? = some u→cs2[k]? = some u2→Cv (S'.Bx D) S'.n u u2)(ls:List AV):
    ∃ S'',Wk S' ls S'' ls∧Fm S l S'' k cs2∧S''.n=S'.n∧∀ x,D x=false→x≠S.n+3→S''.obj x=S'.obj x:=by
 refine⟨_,Wk.row (id:=S.n+3) D h.co (hD _ (by omega)) (es2:=[cs2]) ⟨rfl,fun i c1 c2 e1 e2=>?_⟩,?_,rfl,fun x hx hne=>EC hne hx⟩
 ·match i with
  |0=>cases e1;cases e2;exact⟨hl,hc⟩
  |i+1=>simp at e1
 ·have hlow:∀ x,x<S.n+4→x≠S.n+3→(S'.KB D (S.n+3) (.cells 29 [cs2] true)).obj x=S'.obj x:=fun x hx hne=>EC hne (hD x hx)
  exact⟨⟨h.AS.1,fun x hx=>(hlow x (by omega) (by omega)).trans (h.AS.2 x hx)⟩,h.n,(hlow _ (by omega) (by omega)).trans h.lo,(hlow _ (by omega) (by omega)).trans h.ro,(hlow _ (by omega) (by omega)).trans h.ao,H7⟩
theorem mL{l:List Int}(hl:∀ x∈l,0≤x∧x<65536){S:Aa}:Ad Pg 14 [aL Jp l] S (fun e S'=>∃ tr,e = .ret tr∧Am S S'∧∃(c:Ci) (zc:AV),tr=c.zJ zc∧A4 S.n S' zc 3 (c.cons.map fun p=>[aI p])∧D2 c∧c.gr.vars=Hq l∧c.inputs=BU l 0 4):=by
 refine Ad.AhE (rL ?_)
 unfold m14
 refine BM rfl fun S1 k1 n1 o1=>?_
 refine Ai rfl fun S2 k2 n2 o2=>?_
 refine BM rfl fun S3 k3 n3 o3=>?_
 refine Cc o3 rfl rfl fun S4 n4 o4 f4=>?_
 refine Ai rfl fun S5 k5 n5 o5=>?_
 have e1:S1.n=S.n+1:=n1
 have e2:S2.n=S.n+2:=by omega
 have e4:S4.n=S.n+3:=by omega
 rw[e1]at o2;rw[e2]at o3 o4 f4;rw[e4]at o5
 rw[e1,e2,e4]
 have fm:Fm S l S5 0 [aI 0,.nl,.nl,.nl,.nl,.nl,.nl,.nl]:=by
  have old4:∀ x,x<S.n+2→S4.obj x=S2.obj x:=fun x hx=>(f4 x (by omega)).trans (k3.2 x (by omega))
  have old5:∀ x,x<S.n+3→S5.obj x=S4.obj x:=fun x hx=>k5.2 x (by omega)
  refine⟨⟨by omega,fun x hx=>(old5 x (by omega)).trans ((old4 x (by omega)).trans ((k2.2 x (by omega)).trans (k1.2 x hx)))⟩,by omega,?_,?_,(old5 _ (by omega)).trans o4,o5⟩
  ·exact(old5 _ (by omega)).trans ((old4 _ (by omega)).trans (Kg k2 o1))
  ·exact(old5 _ (by omega)).trans ((old4 _ (by omega)).trans o2)
 show Bh _ (CQ S) _ _ _ _
 refine fm.pick hl (by decide) (by decide) fun S6 fm n6 f6=>?_
 have pi:=BF hl (k:=0) (n:=4) (by decide)
 generalize hinp:BU l 0 4=inp at *
 rw[Ac]
 refine fm.st (by simp) rfl fun S7 fm n7 f7=>?_
 show Bh _ (CQ S) _ _ _ _
 refine fm.pick hl (by decide) (by decide) fun S8 fm n8 f8=>?_
 have pm:=BF hl (k:=1) (n:=3) (by decide)
 generalize hm3:BU l 1 3=m3 at *
 rw[Ar (by omega) (by omega)]
 obtain⟨many,hmany⟩:=AiE (show 0≤1+m3 by omega)
 have hm1:1≤many∧many≤3:=by omega
 rw[hmany]
 show Bh _ (CQ S) _ _ _ _
 refine fm.pick hl (by decide) (by decide) fun S9 fm n9 f9=>?_
 have pr:=BF hl (k:=2) (n:=9) (by decide)
 generalize h9:BU l 2 9=r9 at *
 obtain⟨r0,rfl⟩:=AiE pr.1
 replace fm:Fm S l S9 3 [aI inp,.nl,.nl,.nl,.nl,.nl,.nl,.nl]:=fm
 show Ap _ _ _ (Iy (.p (S.n+1) 0 0) (CQ S) (.p (S.n+3) 0 0) (aI many) .nl (aI r0)) _ _
 refine aM (fun y7 y8 S'=>∃(r k:Nat) (sd:List Int),y8=aI r∧(r+sd.length=r0∧k=3+sd.length∧sd=(List.range sd.length).map fun i=>BU l (3+i) 65536)∧r+sd.length≤8∧k+r≤11∧Fm S l S' k [aI inp,.nl,.nl,.nl,.nl,.nl,.nl,.nl]∧A4 (S.n+4) S' y7 87 (sd.map fun x=>[Jp x])∧∀ x∈sd,0≤x∧x<65536)
  (fun _ y _=>((Aw y).getD 0).toNat) ⟨r0,3,[],rfl,⟨by simp,rfl,rfl⟩,by simp;omega,by omega,fm,A4.nl _ _ _,fun _ h=>by cases h⟩ ?_
 dsimp only[DE]
 rintro y7 _ S1 ⟨r,k,sd,rfl,⟨hrr,hkk,hsq⟩,hr,hk,fm,w7,hsd⟩ KE hKE
 dsimp only[vW,Fi,Lf]
 rw[AP,Ag]
 refine Al (fun hgt=>?_) (fun hle=>?_)
 ·have hgt:0<r:=by have:=dT hgt;omega
  refine fm.pick hl (by decide) (by omega) fun S2 fm n2 f2=>?_
  have px:=BF hl (k:=k) (n:=65536) (by decide)
  generalize hx:BU l k 65536=x at *
  have w2:=w7.fm (by omega) n2 f2
  rw[Mc,xH px.1 px.2]
  refine BQ rfl (fun _ h=>by cases h) ?_
  refine w2.app (by have:=fm.n;omega) (c:=[Jp x]) rfl (by rw[Ai8];omega) (fun z S3 w3 b3 hz=>?_) rfl
  have n3:=b3.1
  have o3:∀ x,x<S.n+4→S3.obj x=S2.obj x:=fun x hx=>b3.2 x (by have:=fm.n;omega) (fun b m e=>by have:=w2.lt e;omega)
  rw[Bz (by omega) (by omega),show(r:Int) - 1=((r - 1:Nat):Int)by omega]
  refine hKE _ _ _ ⟨r - 1,k+1,sd ++ [x],rfl,⟨by simp;omega,by simp;omega,by rw[AiK,Aj1,AiP,AiB,←hsq];simp[←hx,hkk]⟩,by rw[AiK,Aj1];omega,by omega,fm.Eo n3 o3,by rw[AiB];exact w3,fun a ha=>?_⟩ (by simp[Aw];omega)
  rcases AiQ.1 ha with ha|ha
  ·exact hsd a ha
  ·have:a=x:=by simpa using ha
   subst this
   exact px
 have hle:r=0:=by have:=dF hle;omega
 subst hle
 clear hKE KE
 rw[Ac,Af fm.co rfl rfl,Ar (by omega) (by omega)]
 have hlen:∀(T:Aa) (K:AV→Aa→Prop),AG y7 T K=K (aI sd.length) T:=fun T K=>by
  rcases w7 with⟨rfl,e⟩|⟨id,rfl,_⟩
  ·have:sd = []:=Aj8.1 e
   subst this;rfl
  ·rw[Dv,Ai8]
 obtain⟨q7,hq7⟩:∃ q:Nat,∀(i:Nat),i<sd.length→y7 = .s q 0 sd.length∧q<S1.n∧S1.obj q=some (.cells 87 (sd.map fun x=>[Jp x]) true):=by
  rcases w7 with⟨rfl,e⟩|⟨id,rfl,h1,h2,h3⟩
  ·have:sd = []:=Aj8.1 e
   subst this;exact⟨0,fun i hi=>by simp at hi⟩
  ·exact⟨id,fun i _=>⟨by rw[Ai8],h2,h3⟩⟩
 have hmade:=AhT (n:=inp+many) (by omega) (by omega) hsd (by omega) (S:=S1) (x1:=y7) hlen (P:=fun i=>.p q7 i 0) (fun T hT i hi=>by
  obtain⟨h1,h2,h3⟩:=hq7 i hi
  have h4:=(hT.2 _ h2).trans h3
  subst h1
  refine⟨fun K=>by rw[Cl hi h4,AiG],fun K=>by rw[Af h4 (by rw[AiH,Ai3 hi];rfl) rfl]⟩)
 have hrt:=JC (n:=inp+many) (by omega) (by omega) hsd (min sd.length 40) (by omega)
 have hgok:=KT (n:=inp+many) ⟨by omega,by omega⟩ hsd (by omega) (min sd.length 40)
 have hgin:=GM (inp+many) sd (min sd.length 40)
 have hmin:min sd.length 40≤8:=by omega
 have hvars:(AQ (inp+many) sd (min sd.length 40)).1.vars=Hq l:=by
  have e:sd=UP l:=by
   rw[hsq,UP,h9]
   rw[show sd.length=r0 by omega]
   rfl
  rw[Hq,hinp,hm3,hmany,←e]
 generalize(AQ (inp+many) sd (min sd.length 40)).1=g at *
 generalize(AQ (inp+many) sd (min sd.length 40)).2=last at *
 obtain⟨hg,hlast,hv1,hv2⟩:=hrt
 have hga:g.ands.length≤8:=by unfold Gr.vars at hv2;omega
 refine Au hmade ?_
 rw[B2,BV]
 refine Ai rfl fun S2 k2 n2 o2=>?_
 refine AF o2 rfl rfl fun S3 n3 o3 f3=>?_
 have hb:=fm.n
 replace fm:Fm S l S3 k _:=fm.Eo (by omega) fun x hx=>(f3 x (by omega)).trans (k2.2 x (by omega))
 rw[Ac,Af o3 rfl rfl,Ac]
 refine fm.st (by simp) rfl fun S4 fm n4 f4=>?_
 have o4:=(f4 S1.n (by omega)).trans o3
 rw[An (n:=2) o4 rfl]
 refine Ae (OD hgok (by omega) (by omega)) ?_
 rw[G7 (by omega) (by omega)]
 have hvp:0<2*g.vars:=by omega
 have plit:∀{x:Int},0≤x∧x<2*g.vars→g.lit x=true:=fun h=>Dq.2 ⟨by omega,by omega,h.1,by omega⟩
 show Ap _ _ _ (G3 (.p (S.n+1) 0 0) (CQ S) (.p (S.n+3) 0 0) (aI many) (aI last) (aI (2*g.vars)) (aI (0:Nat))) _ _
 replace fm:Fm S l S4 k [aI inp,.nl,pL g.ands,.nl,.nl,.nl,.nl,.nl]:=fm
 refine aK (fun y12 S'=>∃(i k:Nat) (zl:AV) (lats:List (Int × Int)),y12=aI i∧i≤many∧k≤11+2*i∧Fm S l S' k [aI inp,zl,pL g.ands,.nl,.nl,.nl,.nl,.nl]∧A4 (S.n+4) S' zl 67 (lats.map fun p=>[aI p.1,aI p.2])∧lats.length=i∧∀ p∈lats,g.lit p.1=true∧0≤p.2∧p.2≤2)
  (fun y _=>many - ((Aw y).getD 0).toNat) ⟨0,k,.nl,[],rfl,Ai9 _,by omega,fm,A4.nl _ _ _,rfl,fun _ h=>by cases h⟩ ?_
 dsimp only[BS]
 rintro _ S1 ⟨i,k,zl,lats,rfl,hi,hk,fm,wl,hll,hlat⟩ KE hKE
 dsimp only[vV,Fi,Lt]
 rw[As,Ag]
 refine Al (fun hlt=>?_) (fun hge=>?_)
 ·have hlt:i<many:=by have:=dT hlt;omega
  refine fm.pick hl hvp (by omega) fun S2 fm n2 f2=>?_
  have pn:=plit (BF hl (k:=k) hvp)
  generalize BU l k (2*g.vars)=n at *
  have w2:=wl.fm (by omega) n2 f2
  rw[AD,Ag]
  have step:∀ nx:Int,g.lit nx=true→∀(S3:Aa) (p5:Int) (k':Nat),0≤p5∧p5<5→k'≤11+2*(i+1)→Fm S l S3 k' [aI inp,zl,pL g.ands,.nl,.nl,.nl,.nl,.nl]→A4 (S.n+4) S3 zl 67 (lats.map fun p=>[aI p.1,aI p.2])→
      (∃ q46:AV,(∀ T:Aa,Am S3 T→bin .quo 0 (aI p5) (.v (.int .i64 2)) T fun v S=>v=q46∧S=T)∧∃ q48:AV,(∀ T:Aa,Am S3 T→CH [(0,1),(1,1)] [.v (.int .i64 0),.v (.int .i64 0)] [(0,aI nx),(1,q46)] T fun v S=>v=q48∧S=T)∧
       ∃ q50:AV,(∀ T:Aa,Am S3 T→AU 67 2 1 [.v (.int .i64 0),.v (.int .i64 0)] [(0,q48)] T fun v S=>v=q50∧S=T)∧Bo 67 2 16 zl q50 S3 fun v52 T =>
       ∃ q53:AV,(∀ T':Aa,Am T T'→shift (.p (S.n+3) 0 0) 1 T' fun v S=>v=q53∧S=T')∧A8 1 q53 v52 T fun _ T=>bin .add 0 (aI i) (.v (.int .i64 1)) T fun v T=>KE 156 (G3 (.p (S.n+1) 0 0) (CQ S) (.p (S.n+3) 0 0) (aI many) (aI last) (aI (2*g.vars)) v) T):=by
   intro nx hnx S3 p5 k' hp5 hk' fm w3
   have hd:0≤p5.tdiv 2∧p5.tdiv 2≤2:=by rw[AiI hp5.1];omega
   refine⟨_,fun T hT=>by rw[FJ (by decide) (by omega) (by omega)];exact⟨rfl,rfl⟩,_,fun T hT=>by rw[A7 (cs:=[aI nx,aI (p5.tdiv 2)]) rfl];exact⟨rfl,rfl⟩,_,fun T hT=>zE ⟨rfl,rfl⟩,?_⟩
   refine w3.app (by have:=fm.n;omega) (c:=[aI nx,aI (p5.tdiv 2)]) rfl (by rw[Ai8];omega) (fun z S4 w4 b4 hz=>?_) rfl
   have n4:=b4.1
   have hn3:=fm.n
   have o4:∀ x,x<S.n+4→S4.obj x=S3.obj x:=fun x hx=>b4.2 x (by omega) (fun b m e=>by have:=w3.lt e;omega)
   refine⟨_,fun T hT=>by rw[Ac];exact⟨rfl,rfl⟩,?_⟩
   replace fm:=fm.Eo n4 o4
   refine fm.st (by simp) (GH w4) fun S5 fm n5 f5=>?_
   have w5:=w4.fm (by omega) n5 f5
   rw[Ar (by omega) (by omega)]
   refine hKE _ _ ⟨i+1,k',z,lats ++ [(nx,p5.tdiv 2)],rfl,hlt,hk',fm,by rw[AiB];exact w5,by simp[hll],fun p hp=>?_⟩ (by simp[Aw];omega)
   rcases AiQ.1 hp with hp|hp
   ·exact hlat p hp
   ·have:p=(nx,p5.tdiv 2):=by simpa using hp
    subst this
    exact⟨hnx,hd⟩
  have p5:=BF hl (k:=k+1) (n:=5) (by decide)
  refine Al (fun h0=>?_) (fun h0=>?_)
  ·refine⟨_,fun T hT=>by rw[Ac];exact⟨rfl,rfl⟩,zl,fun T hT=>by rw[Af (fm.kT hT) rfl rfl];exact⟨rfl,rfl⟩,?_⟩
   refine fm.pick hl (by decide) (by omega) fun S3 fm n3 f3=>?_
   have w3:=w2.fm (by omega) n3 f3
   refine⟨fun T hT=>by rw[Af (fm.kT hT) rfl rfl];exact⟨rfl,rfl⟩,fun T hT=>by rw[Ac];exact⟨rfl,rfl⟩,?_⟩
   exact step _ hlast S3 _ _ p5 (by omega) fm w3
  ·refine⟨_,fun T hT=>by rw[Ac];exact⟨rfl,rfl⟩,zl,fun T hT=>by rw[Af (fm.kT hT) rfl rfl];exact⟨rfl,rfl⟩,?_⟩
   refine fm.pick hl (by decide) (by omega) fun S3 fm n3 f3=>?_
   have w3:=w2.fm (by omega) n3 f3
   refine⟨fun T hT=>by rw[Af (fm.kT hT) rfl rfl];exact⟨rfl,rfl⟩,fun T hT=>by rw[Ac];exact⟨rfl,rfl⟩,?_⟩
   exact step _ pn S3 _ _ p5 (by omega) fm w3
 have hge:i=many:=by have:=dF hge;omega
 subst hge
 clear hKE KE
 refine fm.pick hl (by decide) (by omega) fun S2 fm n2 f2=>?_
 have w2:=wl.fm (by omega) n2 f2
 have p3:=BF hl (k:=k) (n:=3) (by decide)
 generalize BU l k 3=r3 at *
 obtain⟨r0,rfl⟩:=AiE p3.1
 obtain⟨S3,wk3,fm3,n3⟩:=fm.wk (cs2:=[aI inp,pL lats,pL g.ands,.nl,.nl,.nl,.nl,.nl]) rfl (fun k' u u2 e1 e2=>by
  match k' with
  |0=>cases e1;cases e2;exact .v _
  |1=>cases e1;cases e2;exact lX w2 (w2.fF (Ai4 _))
  |2=>cases e1;cases e2;exact Hd _ _ _
  |3|4|5|6|7=>cases e1;cases e2;exact .nl'
  |k+8=>simp at e1) (Dr (.p (S.n+1) 0 0) (CQ S) (.p (S.n+3) 0 0) (aI (2*g.vars)) (aI r0))
 show Ap _ _ _ (Dr (.p (S.n+1) 0 0) (CQ S) (.p (S.n+3) 0 0) (aI (2*g.vars)) (aI r0)) _ _
 refine Wt (fun y2 y4 y5 y11 y14 S'=>y2 = .p (S.n+1) 0 0∧y4=CQ S∧y5 = .p (S.n+3) 0 0∧y11=aI (2*g.vars)∧∃(r k:Nat) (zo:AV) (outs:List Int),y14=aI r∧outs.length+r≤2∧k+r≤20∧Fm S l S' k [aI inp,pL lats,pL g.ands,zo,.nl,.nl,.nl,.nl]∧A4 (S.n+4) S' zo 3 (outs.map fun p=>[aI p])∧∀ x∈outs,g.lit x=true)
  (fun _ _ _ _ y _=>((Aw y).getD 0).toNat) ⟨_,_,_,_,_,S3,wk3,rfl,rfl,rfl,rfl,r0,k+1,.nl,[],rfl,by simp;omega,by omega,fm3,A4.nl _ _ _,fun _ h=>by cases h⟩ ?_
 rintro _ _ _ _ _ S1 ⟨rfl,rfl,rfl,rfl,r,k,zo,outs,rfl,hor,hk,fm,wo,hou⟩ KE hKE
 dsimp only[gV,Qg,K5,Fi,Lt]
 rw[AP,Ag]
 refine Al (fun hgt=>?_) (fun hle=>?_)
 ·have hgt:0<r:=by have:=dT hgt;omega
  refine⟨_,fun T hT=>by rw[Ac];exact⟨rfl,rfl⟩,zo,fun T hT=>by rw[Af (fm.kT hT) rfl rfl];exact⟨rfl,rfl⟩,?_⟩
  refine fm.pick hl hvp (by omega) fun S2 fm n2 f2=>?_
  have pn:=plit (BF hl (k:=k) hvp)
  generalize BU l k (2*g.vars)=n at *
  have w2:=wo.fm (by omega) n2 f2
  refine⟨fun T hT=>by rw[Af (fm.kT hT) rfl rfl];exact⟨rfl,rfl⟩,fun T hT=>by rw[Ac];exact⟨rfl,rfl⟩,_,fun T hT=>BQ rfl (fun _ h=>by cases h) ⟨rfl,rfl⟩,?_⟩
  refine w2.app (by have:=fm.n;omega) (c:=[aI n]) rfl (by rw[Ai8];omega) (fun z S4 w4 b4 hz=>?_) rfl
  have n4:=b4.1
  have hn3:=fm.n
  have o4:∀ x,x<S.n+4→S4.obj x=S2.obj x:=fun x hx=>b4.2 x (by omega) (fun b m e=>by have:=w2.lt e;omega)
  refine⟨_,fun T hT=>by rw[Ac];exact⟨rfl,rfl⟩,?_⟩
  replace fm:=fm.Eo n4 o4
  refine fm.st (by simp) (GH w4) fun S5 fm n5 f5=>?_
  have w5:=w4.fm (by omega) n5 f5
  rw[Bz (by omega) (by omega),show(r:Int) - 1=((r - 1:Nat):Int)by omega]
  refine hKE _ _ _ _ _ _ _ _ _ _ _ _ (Wk.refl _ _) ⟨rfl,rfl,rfl,rfl,r - 1,k+1,z,outs ++ [n],rfl,by rw[AiK,Aj1];omega,by omega,fm,by rw[AiB];exact w5,fun p hp=>?_⟩ (by simp[Aw];omega)
  rcases AiQ.1 hp with hp|hp
  ·exact hou p hp
  ·have:p=n:=by simpa using hp
   subst this
   exact pn
 have hle:r=0:=by have:=dF hle;omega
 subst hle
 clear hKE KE
 have tail:∀(S':Aa) (k:Nat) (zo zb zc:AV) (bads cons:List Int) (r0:Nat),r0≤1→k≤25→Fm S l S' k [aI inp,pL lats,pL g.ands,zo,zb,zc,.nl,.nl]→A4 (S.n+4) S' zo 3 (outs.map fun p=>[aI p])→A4 (S.n+4) S' zb 3 (bads.map fun p=>[aI p])→A4 (S.n+4) S' zc 3 (cons.map fun p=>[aI p])→DS zc zo→DS zc zb→
     bads.length≤1→cons.length≤1→(∀ x∈bads,g.lit x=true)→(∀ x∈cons,g.lit x=true)→
     Ap GN (vc Pg (Ky.at_ [1,1,1,1,1,1,1,1,1,1,1,1,1,1,1,0,1,0,0]) (DK.drop 4)) 156 (Cz (.p (S.n+1) 0 0) (CQ S) (.p (S.n+3) 0 0) (aI (2*g.vars)) (aI r0)) S'
      (Ak 6 (Av (vc Pg (Ky.at_ [1,1,1,1,1,1,1,1,1,1,1,1,1,1,1,1]) (DK.drop 4)) (Ao Pg US fun e S'=>∃(D:Nat→Bool) (r tr:AV),e = .ret r∧Cv (S'.Bx D) S'.n r tr∧Am S (S'.Bx D)∧∃(c:Ci) (zc:AV),tr=c.zJ zc∧A4 S.n (S'.Bx D) zc 3 (c.cons.map fun p=>[aI p])∧D2 c∧c.gr.vars=Hq l∧c.inputs=inp))):=by
  intro S' k zo zb zc bads cons r0 hr0 hk fm wo wb wc apo apb lb lc hbl hcl
  let D:Nat→Bool:=fun x=>AK (S.n+4) x && !mY zc x
  have hDl:∀ x,x<S.n+4→D x=false:=fun x hx=>by
   have:AK (S.n+4) x=false:=by simp[AK];omega
   simp[D,this]
  have hDo:∀{z:AV} {es:List (List AV)},A4 (S.n+4) S' z 3 es→DS zc z→∀ i b m,z = .s i b m→D i=true:=fun{z es} w apz i b m e=>by
   have h1:AK (S.n+4) i=true:=w.fF (Ai4 _) i b m e
   have h2:mY zc i=false:=by
    unfold mY
    split
    ·rename_i j b' m'
     refine decide_eq_false fun e2=>?_
     subst e2
     exact apz _ _ _ _ _ rfl e
    ·rfl
   simp only[D,h1,h2];rfl
  obtain⟨S3,wk3,fm3,n3,s3⟩:=fm.wkD D hDl (cs2:=[aI inp,pL lats,pL g.ands,aL aI outs,aL aI bads,zc,.nl,.nl]) rfl (fun k' u u2 e1 e2=>by
   match k' with
   |0=>cases e1;cases e2;exact .v _
   |1=>cases e1;cases e2;exact Hd _ _ _
   |2=>cases e1;cases e2;exact Hd _ _ _
   |3=>cases e1;cases e2;exact LM wo (hDo wo apo)
   |4=>cases e1;cases e2;exact LM wb (hDo wb apb)
   |5=>cases e1;cases e2;exact UW wc
   |6|7=>cases e1;cases e2;exact .nl'
   |k+8=>simp at e1) (Cz (.p (S.n+1) 0 0) (CQ S) (.p (S.n+3) 0 0) (aI (2*g.vars)) (aI r0))
  have hN:S.n+4≤S3.n:=fm3.n
  have wA:A4 (S.n+4) S3 zc 3 (cons.map fun p=>[aI p]):=by
   rcases wc with⟨h1,h2⟩|⟨id,h1,h2,h3,h4⟩
   ·exact .inl ⟨h1,h2⟩
   ·refine .inr ⟨id,h1,h2,by omega,(s3 id ?_ (by omega)).trans h4⟩
    simp[D,h1,mY]
  obtain⟨N,hNe⟩:∃ N,S3.n=N:=⟨_,rfl⟩
  have hN:S.n+4≤N:=by omega
  have fm3:Fz S l N S3 S3 k [aI inp,pL lats,pL g.ands,aL aI outs,aL aI bads,zc,.nl,.nl]:=⟨fm3,by omega,hN,fun _ _ _=>rfl⟩
  obtain⟨A,hA⟩:∃ A,A=S3:=⟨_,rfl⟩
  rw[←hA]at wA hNe
  replace fm3:Fz S l N A S3 k [aI inp,pL lats,pL g.ands,aL aI outs,aL aI bads,zc,.nl,.nl]:=by rw[hA];exact fm3
  refine Ws (fun y2 y4 y5 y11 y15 S'=>y2 = .p (S.n+1) 0 0∧y4=CQ S∧y5 = .p (S.n+3) 0 0∧y11=aI (2*g.vars)∧∃(r k:Nat) (zf:AV) (fair:List Int),y15=aI r∧fair.length+r≤1∧k+r≤26∧Fz S l N A S' k [aI inp,pL lats,pL g.ands,aL aI outs,aL aI bads,zc,zf,.nl]∧A4 N S' zf 3 (fair.map fun p=>[aI p])∧∀ x∈fair,g.lit x=true)
   (fun _ _ _ _ y _=>((Aw y).getD 0).toNat) ⟨_,_,_,_,_,S3,wk3,rfl,rfl,rfl,rfl,r0,k,.nl,[],rfl,by simp;omega,by omega,fm3,A4.nl _ _ _,fun _ h=>by cases h⟩ ?_
  rintro _ _ _ _ _ S1 ⟨rfl,rfl,rfl,rfl,r,k,zf,fair,rfl,hfr,hk,fm,wf,hfl⟩ KE hKE
  dsimp only[gT,Qf,Fi,Lf,Lt]
  rw[AP,Ag]
  refine Al (fun hgt=>?_) (fun hle=>?_)
  ·have hgt:0<r:=by have:=dT hgt;omega
   refine⟨_,fun T hT=>by rw[Ac];exact⟨rfl,rfl⟩,zf,fun T hT=>by rw[Af (fm.kT hT) rfl rfl];exact⟨rfl,rfl⟩,?_⟩
   refine fm.pick hl hvp (by omega) fun S2 fm n2 f2=>?_
   have pn:=plit (BF hl (k:=k) hvp)
   generalize BU l k (2*g.vars)=n at *
   have w2:=wf.fz (by omega) n2 f2
   refine⟨fun T hT=>by rw[Af (fm.kT hT) rfl rfl];exact⟨rfl,rfl⟩,fun T hT=>by rw[Ac];exact⟨rfl,rfl⟩,_,fun T hT=>BQ rfl (fun _ h=>by cases h) ⟨rfl,rfl⟩,?_⟩
   refine w2.app (by have:=fm.n;omega) (c:=[aI n]) rfl (by rw[Ai8];omega) (fun z S4 w4 b4 hz=>?_) rfl
   have n4:=b4.1
   have hn3:=fm.n
   have o4:∀ x,x<N→S4.obj x=S2.obj x:=fun x hx=>b4.2 x (by omega) (fun b m e=>by have:=w2.lt e;omega)
   refine⟨_,fun T hT=>by rw[Ac];exact⟨rfl,rfl⟩,?_⟩
   replace fm:=fm.Eo n4 o4
   refine fm.st (by simp) (GH w4) fun S5 fm n5 f5=>?_
   have w5:=w4.fz (by omega) n5 f5
   rw[Bz (by omega) (by omega),show(r:Int) - 1=((r - 1:Nat):Int)by omega]
   refine hKE _ _ _ _ _ _ _ _ _ _ _ _ (Wk.refl _ _) ⟨rfl,rfl,rfl,rfl,r - 1,k+1,z,fair ++ [n],rfl,by rw[AiK,Aj1];omega,by omega,fm,by rw[AiB];exact w5,fun p hp=>?_⟩ (by simp[Aw];omega)
   rcases AiQ.1 hp with hp|hp
   ·exact hfl p hp
   ·have:p=n:=by simpa using hp
    subst this
    exact pn
  have hle:r=0:=by have:=dF hle;omega
  subst hle
  clear hKE KE
  have fin:∀(S1:Aa) (k:Nat) (zn:AV) (b1 b2:Bool) (t:ByteArray),Fz S l N A S1 k [aI inp,pL lats,pL g.ands,aL aI outs,aL aI bads,zc,zf,zn]→A4 N S1 zf 3 (fair.map fun p=>[aI p])→(b2=true→0<outs.length∧(t=⟨#[111,117,116]⟩∨t=⟨#[108,49]⟩∨t=⟨#[97,45,98]⟩))→
      A4 N S1 zn 91 (((if b1 then[⟨108,0,⟨#[113]⟩⟩]else[])++(if b2 then[⟨111,outs.length - 1,t⟩]else[]):List Na).map Na.row)→
      AA 8 (.p (S.n+3) 0 0) S1 fun v S1=>A8 8 (.p (S.n+1) 0 0) v S1 fun _ S2=>AA 8 (.p (S.n+1) 0 0) S2 fun v _=>∃(D:Nat→Bool) (r tr:AV),Bg.ret v = .ret r∧Cv (S2.Bx D) S2.n r tr∧Am S (S2.Bx D)∧∃(c:Ci) (zc:AV),tr=c.zJ zc∧A4 S.n (S2.Bx D) zc 3 (c.cons.map fun p=>[aI p])∧D2 c∧c.gr.vars=Hq l∧c.inputs=inp:=by
   intro S1 k zn b1 b2 t fm wf ht wn
   rw[An (n:=8) fm.co rfl]
   refine AF fm.ro rfl rfl fun S2 n2 o2 f2=>?_
   rw[An (n:=8) o2 rfl]
   have wf2:=wf.fz (id:=S.n+1) (by omega) n2 f2
   have wn2:=wn.fz (id:=S.n+1) (by omega) n2 f2
   have hid:∀ x,x<N→(S2.Bx (AK N)).obj x=S2.obj x:=fun x hx=>CG (by simp[AK];omega)
   refine⟨AK N,_,.a [aI inp,pL lats,pL g.ands,aL aI outs,aL aI bads,zc,aL aI fair,nL _],rfl,?_,⟨(fm.AS.st (by omega) n2 f2).1,fun x hx=>(hid x (by omega)).trans ((fm.AS.st (by omega) n2 f2).2 x hx)⟩,⟨inp,lats,g.ands,outs,bads,cons,fair,(if b1 then[⟨108,0,⟨#[113]⟩⟩]else[])++(if b2 then[⟨111,outs.length - 1,t⟩]else[])⟩,zc,rfl,?_,Zi pi.1 (by omega) (by omega) (by omega) hg (by rw[hgin,hll]) hga hgok hlat hou hbl hcl hfl (by omega) lb lc (by omega) ht,?_,rfl⟩
   rotate_left
   ·have wz:=(fm.own wA hNe).st (id:=S.n+1) (fun b m e=>by have:=wA.lt e;omega) n2 f2
    rcases wz with⟨rfl,e⟩|⟨id,rfl,h1,h2,h3⟩
    ·exact .inl ⟨rfl,e⟩
    ·exact .inr ⟨id,rfl,by omega,h2,(hid _ (by have:=wA.lt rfl;omega)).trans h3⟩
   ·have hgi':g.inputs=inp+lats.length:=by rw[hgin,hll]
    have:(Ci.gr ⟨inp,lats,g.ands,outs,bads,cons,fair,(if b1 then[⟨108,0,⟨#[113]⟩⟩]else[])++(if b2 then[⟨111,outs.length - 1,t⟩]else[])⟩)=g:=by
     show(⟨IntKind.i64.wrap (inp+lats.length),g.ands⟩:Gr)=g
     rw[wrap64 (by omega) (by omega),←hgi']
    rw[this];exact hvars
   refine .a _ _ rfl fun k' u u2 e1 e2=>?_
   match k' with
   |0=>cases e1;cases e2;exact .v _
   |1=>cases e1;cases e2;exact Hd _ _ _
   |2=>cases e1;cases e2;exact Hd _ _ _
   |3=>cases e1;cases e2;exact Df _ _ _
   |4=>cases e1;cases e2;exact Df _ _ _
   |5=>cases e1;cases e2;exact UW ((fm.own wA hNe).st (id:=S.n+1) (fun b m e=>by have:=wA.lt e;omega) n2 f2)
   |6=>cases e1;cases e2;exact LM wf2 (wf2.fF (Ai4 _))
   |7=>cases e1;cases e2;exact lY wn2 (wn2.fF (Ai4 _))
   |k+8=>simp at e1
  have snd:∀(X0:AV→Aa→Prop) (S1:Aa) (k:Nat) (zn:AV) (b1:Bool),k≤100→Fz S l N A S1 k [aI inp,pL lats,pL g.ands,aL aI outs,aL aI bads,zc,zf,zn]→A4 N S1 zf 3 (fair.map fun p=>[aI p])→DS zn zf→
      A4 N S1 zn 91 (((if b1 then[⟨108,0,⟨#[113]⟩⟩]else[]):List Na).map Na.row)→0<outs.length→
      (∃ q182:AV,(∀ T:Aa,Am S1 T→shift (.p (S.n+3) 0 0) 7 T fun v S=>v=q182∧S=T)∧∃ q184:AV,(∀ T:Aa,Am S1 T→Ax q182 T fun v S=>v=q184∧S=T)∧∃ q186:AV,(∀ T:Aa,Am S1 T→shift (.p (S.n+3) 0 0) 3 T fun v S=>v=q186∧S=T)∧
       ∃ q188:AV,(∀ T:Aa,Am S1 T→Ax q186 T fun v S=>v=q188∧S=T)∧∃ q190:AV,(∀ T:Aa,Am S1 T→AG q188 T fun v S=>v=q190∧S=T)∧∃ q192:AV,(∀ T:Aa,Am S1 T→bin .sub 0 q190 (.v (.int .i64 1)) T fun v S=>v=q192∧S=T)∧
       ∃ q194:AV,(∀ T:Aa,Am S1 T→AU 9 1 3 [.v (.string ByteArray.empty)] [(0,(.v (.string { data:=#[111,117,116] }))),(1,(.v (.string { data:=#[108,49] }))),(2,(.v (.string { data:=#[97,45,98] })))] T fun v S=>v=q194∧S=T)∧
       Bh Pg (CQ S) [.v (.int .i64 3)] S1 (fun v196 S1=>(∀ T:Aa,Am S1 T→AU 9 1 3 [.v (.string ByteArray.empty)] [(0,(.v (.string { data:=#[111,117,116] }))),(1,(.v (.string { data:=#[108,49] }))),(2,(.v (.string { data:=#[97,45,98] })))] T fun v S=>v=q194∧S=T)∧
        (∀ T:Aa,Am S1 T→bin .sub 0 q190 (.v (.int .i64 1)) T fun v S=>v=q192∧S=T)∧(∀ T:Aa,Am S1 T→AG q188 T fun v S=>v=q190∧S=T)∧(∀ T:Aa,Am S1 T→Ax q186 T fun v S=>v=q188∧S=T)∧(∀ T:Aa,Am S1 T→shift (.p (S.n+3) 0 0) 3 T fun v S=>v=q186∧S=T)∧
        (∀ T:Aa,Am S1 T→Ax q182 T fun v S=>v=q184∧S=T)∧(∀ T:Aa,Am S1 T→shift (.p (S.n+3) 0 0) 7 T fun v S=>v=q182∧S=T)∧
        ∃ q204:AV,(∀ T:Aa,Am S1 T→AR 9 1 q194 v196 T fun v S=>v=q204∧S=T)∧∃ q206:AV,(∀ T:Aa,Am S1 T→Ax q204 T fun v S=>v=q206∧S=T)∧
        ∃ q208:AV,(∀ T:Aa,Am S1 T→CH [(0,1),(1,1),(2,1)] [.v (.int .u8 0),.v (.int .i64 0),.v (.string ByteArray.empty)] [(0,(.v (.int .u8 111))),(1,q192),(2,q206)] T fun v S=>v=q208∧S=T)∧
        ∃ q210:AV,(∀ T:Aa,Am S1 T→AU 91 3 1 [.v (.int .u8 0),.v (.int .i64 0),.v (.string ByteArray.empty)] [(0,q208)] T fun v S=>v=q210∧S=T)∧Bo 91 3 32 q184 q210 S1 fun v212 S1 =>
        ∃ q213:AV,(∀ T:Aa,Am S1 T→shift (.p (S.n+3) 0 0) 7 T fun v S=>v=q213∧S=T)∧A8 1 q213 v212 S1 fun _ S1 =>
        AA 8 (.p (S.n+3) 0 0) S1 fun v S1=>A8 8 (.p (S.n+1) 0 0) v S1 fun _ S2=>AA 8 (.p (S.n+1) 0 0) S2 fun v _=>∃(D:Nat→Bool) (r tr:AV),Bg.ret v = .ret r∧Cv (S2.Bx D) S2.n r tr∧Am S (S2.Bx D)∧∃(c:Ci) (zc:AV),tr=c.zJ zc∧A4 S.n (S2.Bx D) zc 3 (c.cons.map fun p=>[aI p])∧D2 c∧c.gr.vars=Hq l∧c.inputs=inp) X0):=by
   intro X0 S1 k zn b1 hk fm wf hap wn hol
   have hsub:∀(T:Aa) (K:AV→Aa→Prop),bin .sub 0 (aI outs.length) (.v (.int .i64 1)) T K=K (aI (outs.length - 1)) T:=fun T K=>Bz (by omega) (by omega) 0
   refine⟨_,fun T hT=>by rw[Ac];exact⟨rfl,rfl⟩,zn,fun T hT=>by rw[Af (fm.kT hT) rfl rfl];exact⟨rfl,rfl⟩,_,fun T hT=>by rw[Ac];exact⟨rfl,rfl⟩,aL aI outs,fun T hT=>by rw[Af (fm.kT hT) rfl rfl];exact⟨rfl,rfl⟩,aI outs.length,fun T hT=>by rw[Ay];exact⟨rfl,rfl⟩,_,fun T hT=>by rw[hsub];exact⟨rfl,rfl⟩,
    _,fun T hT=>AfL rfl rfl rfl ⟨rfl,rfl⟩,?_⟩
   refine fm.pick hl (by decide) (by omega) fun S2 fm n2 f2=>?_
   have p3:=BF hl (k:=k) (n:=3) (by decide)
   generalize BU l k 3=x at *
   obtain⟨x,rfl⟩:=AiE p3.1
   have wf2:=wf.fz (by omega) n2 f2
   have wn2:=wn.fz (by omega) n2 f2
   refine⟨fun T hT=>AfL rfl rfl rfl ⟨rfl,rfl⟩,fun T hT=>by rw[hsub];exact⟨rfl,rfl⟩,fun T hT=>by rw[Ay];exact⟨rfl,rfl⟩,fun T hT=>by rw[Af (fm.kT hT) rfl rfl];exact⟨rfl,rfl⟩,fun T hT=>by rw[Ac];exact⟨rfl,rfl⟩,fun T hT=>by rw[Af (fm.kT hT) rfl rfl];exact⟨rfl,rfl⟩,fun T hT=>by rw[Ac];exact⟨rfl,rfl⟩,?_⟩
   obtain⟨t,ht,hx⟩:∃ t:ByteArray,(t=⟨#[111,117,116]⟩∨t=⟨#[108,49]⟩∨t=⟨#[97,45,98]⟩)∧∀(T:Aa) (K:AV→Aa→Prop),AR 9 1 (.l [[.v (.string { data:=#[111,117,116] })],[.v (.string { data:=#[108,49] })],[.v (.string { data:=#[97,45,98] })]]) (aI x) T K=K (.q [.v (.string t)] 0) T:=by
    match x,p3 with
    |0,_=>exact⟨_,.inl rfl,fun T K=>IX (i:=0) (by simp) rfl⟩
    |1,_=>exact⟨_,.inr (.inl rfl),fun T K=>IX (i:=1) (by simp) rfl⟩
    |2,_=>exact⟨_,.inr (.inr rfl),fun T K=>IX (i:=2) (by simp) rfl⟩
    |x+3,h=>omega
   refine⟨_,fun T hT=>by rw[hx];exact⟨rfl,rfl⟩,_,fun T hT=>by rw[A3];exact⟨rfl,rfl⟩,_,fun T hT=>by rw[A7 (cs:=[.v (.int .u8 111),aI (outs.length - 1),.v (.string t)]) rfl];exact⟨rfl,rfl⟩,_,fun T hT=>uJ ⟨rfl,rfl⟩,?_⟩
   refine wn2.app (by have:=fm.n;omega) (c:=[.v (.int .u8 111),aI (outs.length - 1),.v (.string t)]) rfl (by cases b1<;>simp) (fun z S4 w4 b4 hz=>?_) rfl
   have n4:=b4.1
   have hn3:=fm.n
   have o4:∀ x,x<N→S4.obj x=S2.obj x:=fun x hx=>b4.2 x (by omega) (fun b m e=>by have:=wn2.lt e;omega)
   refine⟨_,fun T hT=>by rw[Ac];exact⟨rfl,rfl⟩,?_⟩
   replace fm:=fm.Eo n4 o4
   have wf4:=wf2.P7 b4 hap
   refine fm.st (by simp) (GH w4) fun S5 fm n5 f5=>?_
   refine fin S5 _ z b1 true t fm (wf4.fz (by omega) n5 f5) (fun _=>⟨hol,ht⟩) ?_
   have w5:=w4.fz (by omega) n5 f5
   rw[AiB]
   exact w5
  refine fm.pick hl (by decide) (by omega) fun S2 fm n2 f2=>?_
  have wf2:=wf.fz (by omega) n2 f2
  have p3:=BF hl (k:=k) (n:=3) (by decide)
  generalize BU l k 3=x3 at *
  rw[AP,Ag]
  refine Al (fun hx=>?_) (fun hx=>?_)
  ·rw[Ac,Af fm.co rfl rfl,A7 (cs:=[.v (.int .u8 108),aI 0,.v (.string ⟨#[113]⟩)]) rfl]
   refine uJ ?_
   refine(A4.nl N S2 91).app (by have:=fm.n;omega) (c:=[.v (.int .u8 108),aI 0,.v (.string ⟨#[113]⟩)]) rfl (by simp) (fun z S4 w4 b4 hz=>?_) rfl
   have n4:=b4.1
   have hn3:=fm.n
   have o4:∀ x,x<S2.n→S4.obj x=S2.obj x:=fun x hx=>b4.2 x (by omega) (fun b m e=>by cases e)
   rw[Ac]
   replace fm:=fm.Eo n4 fun x hx=>o4 x (by omega)
   have wf4:=wf2.P7 b4 (fun _ _ _ _ _ e=>by cases e)
   obtain⟨mz,hmz⟩:=hz
   have hap:DS z zf:=fun i b m b' m' e e'=>by
    rw[hmz]at e;injection e with e
    have:=wf2.lt e';omega
   refine fm.st (by simp) (GH w4) fun S5 fm n5 f5=>?_
   have w5:A4 N S5 z 91 ([⟨108,0,⟨#[113]⟩⟩].map Na.row):=w4.fz (by omega) n5 f5
   have wf5:=wf4.fz (by omega) n5 f5
   rw[Ac,Af fm.co rfl rfl,Ay,AP,Ag]
   refine Al (fun ho=>?_) (fun ho=>fin S5 _ z true false ⟨#[]⟩ fm wf5 (fun h=>by cases h) w5)
   have ho:0<outs.length:=by have:=dT ho;omega
   refine fm.pick hl (by decide) (by omega) fun S6 fm n6 f6=>?_
   have w6:=w5.fz (by omega) n6 f6
   have wf6:=wf5.fz (by omega) n6 f6
   rw[AP,Ag]
   refine Al (fun _=>?_) (fun _=>fin S6 _ z true false ⟨#[]⟩ fm wf6 (fun h=>by cases h) w6)
   exact snd _ S6 _ z true (by omega) fm wf6 hap w6 ho
  ·rw[Ac,Af fm.co rfl rfl,Ay,AP,Ag]
   refine Al (fun ho=>?_) (fun ho=>fin S2 _ .nl false false ⟨#[]⟩ fm wf2 (fun h=>by cases h) (A4.nl _ _ _))
   have ho:0<outs.length:=by have:=dT ho;omega
   refine fm.pick hl (by decide) (by omega) fun S6 fm n6 f6=>?_
   have wf6:=wf2.fz (by omega) n6 f6
   rw[AP,Ag]
   refine Al (fun _=>?_) (fun _=>fin S6 _ .nl false false ⟨#[]⟩ fm wf6 (fun h=>by cases h) (A4.nl _ _ _))
   exact snd _ S6 _ .nl false (by omega) fm wf6 (fun _ _ _ _ _ e=>by cases e) (A4.nl _ _ _) ho
 have last4:∀(S':Aa) (k:Nat) (zo zb zc:AV) (bads cons:List Int),k≤24→Fm S l S' k [aI inp,pL lats,pL g.ands,zo,zb,zc,.nl,.nl]→A4 (S.n+4) S' zo 3 (outs.map fun p=>[aI p])→A4 (S.n+4) S' zb 3 (bads.map fun p=>[aI p])→A4 (S.n+4) S' zc 3 (cons.map fun p=>[aI p])→DS zc zo→DS zc zb→
     bads.length≤1→cons.length≤1→(∀ x∈bads,g.lit x=true)→(∀ x∈cons,g.lit x=true)→∀ X,
     Bh Pg (CQ S) [.v (.int .i64 4)] S' (fun v S'=>bin .quo 0 v (.v (.int .i64 2)) S' fun v S'=>Ap GN (vc Pg (Ky.at_ [1,1,1,1,1,1,1,1,1,1,1,1,1,1,1,0,1,0,0]) (DK.drop 4)) 156 (Cz (.p (S.n+1) 0 0) (CQ S) (.p (S.n+3) 0 0) (aI (2*g.vars)) v) S'
      (Ak 6 (Av (vc Pg (Ky.at_ [1,1,1,1,1,1,1,1,1,1,1,1,1,1,1,1]) (DK.drop 4)) (Ao Pg US fun e S'=>∃(D:Nat→Bool) (r tr:AV),e = .ret r∧Cv (S'.Bx D) S'.n r tr∧Am S (S'.Bx D)∧∃(c:Ci) (zc:AV),tr=c.zJ zc∧A4 S.n (S'.Bx D) zc 3 (c.cons.map fun p=>[aI p])∧D2 c∧c.gr.vars=Hq l∧c.inputs=inp)))) X:=by
  intro S' k zo zb zc bads cons hk fm wo wb wc apo apb lb lc hbl hcl X
  refine fm.pick hl (by decide) (by omega) fun S2 fm n2 f2=>?_
  have p4:=BF hl (k:=k) (n:=4) (by decide)
  generalize BU l k 4=x4 at *
  have hd:0≤x4.tdiv 2∧x4.tdiv 2≤1:=by rw[AiI p4.1];omega
  rw[FJ (by decide) (by omega) (by omega)]
  obtain⟨r0,hr0⟩:=AiE hd.1
  rw[hr0]
  exact tail S2 _ zo zb zc bads cons r0 (by omega) (by omega) fm (wo.fm (by omega) n2 f2) (wb.fm (by omega) n2 f2) (wc.fm (by omega) n2 f2) apo apb lb lc hbl hcl
 have cons3:∀(X0:AV→Aa→Prop) (S':Aa) (k:Nat) (zo zb:AV) (bads:List Int),k≤22→Fm S l S' k [aI inp,pL lats,pL g.ands,zo,zb,.nl,.nl,.nl]→A4 (S.n+4) S' zo 3 (outs.map fun p=>[aI p])→A4 (S.n+4) S' zb 3 (bads.map fun p=>[aI p])→
     bads.length≤1→(∀ x∈bads,g.lit x=true)→∀ X:AV→Aa→Prop,
     Bh Pg (CQ S) [.v (.int .i64 3)] S' (fun v S'=>bin .eql 0 v (.v (.int .i64 0)) S' fun v S'=>GI v fun b=>gd b
      (∃ q111:AV,(∀ T:Aa,Am S' T→shift (.p (S.n+3) 0 0) 5 T fun v S=>v=q111∧S=T)∧∃ q113:AV,(∀ T:Aa,Am S' T→Ax q111 T fun v S=>v=q113∧S=T)∧Bh Pg (CQ S) [aI (2*g.vars)] S' (fun v115 S' =>
       (∀ T:Aa,Am S' T→Ax q111 T fun v S=>v=q113∧S=T)∧(∀ T:Aa,Am S' T→shift (.p (S.n+3) 0 0) 5 T fun v S=>v=q111∧S=T)∧∃ q118:AV,(∀ T:Aa,Am S' T→AU 3 1 1 [.v (.int .i64 0)] [(0,v115)] T fun v S=>v=q118∧S=T)∧Bo 3 1 8 q113 q118 S' fun v120 S' =>
       ∃ q121:AV,(∀ T:Aa,Am S' T→shift (.p (S.n+3) 0 0) 5 T fun v S=>v=q121∧S=T)∧A8 1 q121 v120 S' fun _ S'=>Bh Pg (CQ S) [.v (.int .i64 4)] S' (fun v S'=>bin .quo 0 v (.v (.int .i64 2)) S' fun v S'=>Ap GN (vc Pg (Ky.at_ [1,1,1,1,1,1,1,1,1,1,1,1,1,1,1,0,1,0,0]) (DK.drop 4)) 156 (Cz (.p (S.n+1) 0 0) (CQ S) (.p (S.n+3) 0 0) (aI (2*g.vars)) v) S'
      (Ak 6 (Av (vc Pg (Ky.at_ [1,1,1,1,1,1,1,1,1,1,1,1,1,1,1,1]) (DK.drop 4)) (Ao Pg US fun e S'=>∃(D:Nat→Bool) (r tr:AV),e = .ret r∧Cv (S'.Bx D) S'.n r tr∧Am S (S'.Bx D)∧∃(c:Ci) (zc:AV),tr=c.zJ zc∧A4 S.n (S'.Bx D) zc 3 (c.cons.map fun p=>[aI p])∧D2 c∧c.gr.vars=Hq l∧c.inputs=inp)))) X) X0)
      (Bh Pg (CQ S) [.v (.int .i64 4)] S' (fun v S'=>bin .quo 0 v (.v (.int .i64 2)) S' fun v S'=>Ap GN (vc Pg (Ky.at_ [1,1,1,1,1,1,1,1,1,1,1,1,1,1,1,0,1,0,0]) (DK.drop 4)) 156 (Cz (.p (S.n+1) 0 0) (CQ S) (.p (S.n+3) 0 0) (aI (2*g.vars)) v) S'
      (Ak 6 (Av (vc Pg (Ky.at_ [1,1,1,1,1,1,1,1,1,1,1,1,1,1,1,1]) (DK.drop 4)) (Ao Pg US fun e S'=>∃(D:Nat→Bool) (r tr:AV),e = .ret r∧Cv (S'.Bx D) S'.n r tr∧Am S (S'.Bx D)∧∃(c:Ci) (zc:AV),tr=c.zJ zc∧A4 S.n (S'.Bx D) zc 3 (c.cons.map fun p=>[aI p])∧D2 c∧c.gr.vars=Hq l∧c.inputs=inp)))) X)) X:=by
  intro X0 S' k zo zb bads hk fm wo wb lb hbl X
  refine fm.pick hl (by decide) (by omega) fun S2 fm n2 f2=>?_
  have wo2:=wo.fm (by omega) n2 f2
  have wb2:=wb.fm (by omega) n2 f2
  rw[AD,Ag]
  refine Al (fun _=>?_) (fun _=>last4 S2 _ zo zb .nl bads [] (by omega) fm wo2 wb2 (A4.nl _ _ _) (fun _ _ _ _ _ e=>by cases e) (fun _ _ _ _ _ e=>by cases e) lb (by simp) hbl (fun _ h=>by cases h) X)
  refine⟨_,fun T hT=>by rw[Ac];exact⟨rfl,rfl⟩,.nl,fun T hT=>by rw[Af (fm.kT hT) rfl rfl];exact⟨rfl,rfl⟩,?_⟩
  refine fm.pick hl hvp (by omega) fun S3 fm n3 f3=>?_
  have pn:=plit (BF hl (k:=k+1) hvp)
  generalize BU l (k+1) (2*g.vars)=n at *
  have hn1:∀ x∈[n],g.lit x=true:=fun x hx=>by rw[AiA.1 hx];exact pn
  have wo3:=wo2.fm (by omega) n3 f3
  have wb3:=wb2.fm (by omega) n3 f3
  refine⟨fun T hT=>by rw[Af (fm.kT hT) rfl rfl];exact⟨rfl,rfl⟩,fun T hT=>by rw[Ac];exact⟨rfl,rfl⟩,_,fun T hT=>BQ rfl (fun _ h=>by cases h) ⟨rfl,rfl⟩,?_⟩
  refine(A4.nl (S.n+4) S3 3).app (by have:=fm.n;omega) (c:=[aI n]) rfl (by simp) (fun z S4 w4 b4 hz=>?_) rfl
  have n4:=b4.1
  have hn3:=fm.n
  have o4:∀ x,x<S3.n→S4.obj x=S3.obj x:=fun x hx=>b4.2 x (by omega) (fun b m e=>by cases e)
  refine⟨_,fun T hT=>by rw[Ac];exact⟨rfl,rfl⟩,?_⟩
  replace fm:=fm.Eo n4 fun x hx=>o4 x (by omega)
  have wo4:=wo3.P7 b4 (fun _ _ _ _ _ e=>by cases e)
  have wb4:=wb3.P7 b4 (fun _ _ _ _ _ e=>by cases e)
  refine fm.st (by simp) (GH w4) fun S5 fm n5 f5=>?_
  obtain⟨mz,hmz⟩:=hz
  have ap:∀{y:AV} {es:List (List AV)},A4 (S.n+4) S3 y 3 es→DS z y:=fun w i b m b' m' e e'=>by
   rw[hmz]at e;injection e with e
   have:=w.lt e';omega
  exact last4 S5 _ zo zb z bads [n] (by omega) fm (wo4.fm (by omega) n5 f5) (wb4.fm (by omega) n5 f5) (w4.fm (by omega) n5 f5) (ap wo3) (ap wb3) lb (by simp) hbl hn1 X
 refine fm.pick hl (by decide) (by omega) fun S2 fm n2 f2=>?_
 have wo2:=wo.fm (by omega) n2 f2
 rw[AD,Ag]
 refine Al (fun _=>?_) (fun _=>cons3 _ S2 _ zo .nl [] (by omega) fm wo2 (A4.nl _ _ _) (by simp) (fun _ h=>by cases h) _)
 refine⟨_,fun T hT=>by rw[Ac];exact⟨rfl,rfl⟩,.nl,fun T hT=>by rw[Af (fm.kT hT) rfl rfl];exact⟨rfl,rfl⟩,?_⟩
 refine fm.pick hl hvp (by omega) fun S3 fm n3 f3=>?_
 have pn:=plit (BF hl (k:=k+1) hvp)
 generalize BU l (k+1) (2*g.vars)=n at *
 have hn1:∀ x∈[n],g.lit x=true:=fun x hx=>by rw[AiA.1 hx];exact pn
 have wo3:=wo2.fm (by omega) n3 f3
 refine⟨fun T hT=>by rw[Af (fm.kT hT) rfl rfl];exact⟨rfl,rfl⟩,fun T hT=>by rw[Ac];exact⟨rfl,rfl⟩,_,fun T hT=>BQ rfl (fun _ h=>by cases h) ⟨rfl,rfl⟩,?_⟩
 refine(A4.nl (S.n+4) S3 3).app (by have:=fm.n;omega) (c:=[aI n]) rfl (by simp) (fun z S4 w4 b4 hz=>?_) rfl
 have n4:=b4.1
 have hn3:=fm.n
 have o4:∀ x,x<S3.n→S4.obj x=S3.obj x:=fun x hx=>b4.2 x (by omega) (fun b m e=>by cases e)
 refine⟨_,fun T hT=>by rw[Ac];exact⟨rfl,rfl⟩,?_⟩
 replace fm:=fm.Eo n4 fun x hx=>o4 x (by omega)
 have wo4:=wo3.P7 b4 (fun _ _ _ _ _ e=>by cases e)
 refine fm.st (by simp) (GH w4) fun S5 fm n5 f5=>?_
 exact cons3 _ S5 _ zo z [n] (by omega) fm (wo4.fm (by omega) n5 f5) (w4.fm (by omega) n5 f5) (by simp) hn1 _
theorem xL(l:List Na):Tree (nL l):=Tree.l fun c hc u hu=>by
 obtain⟨a,ha,rfl⟩:=AiL.1 hc
 unfold Na.row at hu
 simp only[AiO,AiT,or_false]at hu
 rcases hu with rfl|rfl|rfl<;>exact Tree.v _
theorem mM{l:List Int}(hl:∀ x∈l,0≤x∧x<65536){S:Aa}:Ad Pg 14 [aL Jp l] S (fun e S'=>∃ tr,e = .ret tr∧S'=S∧∃ c,tr=c.av∧D2 c∧c.gr.vars=Hq l∧c.inputs=BU l 0 4):=by
 refine Ad.Le ((mL hl).mono ?_)
 rintro e S' ⟨tr,rfl,hk,c,zc,rfl,w,hc,hv,hi⟩
 refine⟨_,c.av,rfl,hk,.a _ _ rfl fun k' u u2 e1 e2=>?_,c,rfl,hc,hv,hi⟩
 match k' with
 |0=>cases e1;cases e2;exact .v _
 |1=>cases e1;cases e2;exact Hd _ _ _
 |2=>cases e1;cases e2;exact Hd _ _ _
 |3=>cases e1;cases e2;exact Df _ _ _
 |4=>cases e1;cases e2;exact Df _ _ _
 |5=>cases e1;cases e2;exact LM w (w.fF (Ai4 _))
 |6=>cases e1;cases e2;exact Df _ _ _
 |7=>cases e1;cases e2;exact xL _ _ _
 |k+8=>simp[Ci.cells]at e1
theorem Wn(c:Ci)(v vs:List Bool):(DI c v vs).length≤2 ^ c.inputs.toNat:=by
 simp only[DI,Ai8]
 have:=List.length_filter_le (fun x=>vs.getD ((CB c v c.latches.length).toNat+x) false) (List.range (2 ^ c.inputs.toNat))
 simpa using this
structure V0 (s:Sp):Prop where
 h1:s.valid.length≤1024
 h2:s.initial.length≤1024
 h3:s.next.length≤1024
 h4:∀ r∈s.next,r.length≤1024
 h5:s.fair.length≤2000
 h6:∀ r∈s.fair,r.length≤1024
theorem SC{c:Ci}(h:c.right=true)(h10:¬ 10<c.gr.inputs):V0 (At c):=by
 obtain⟨g1,g2,g3⟩:=CJ h
 have hR:=Bp.1 h
 have hN:2 ^ c.gr.inputs.toNat≤1024:=AiY (by decide) (show c.gr.inputs.toNat≤10 by omega)
 have hI:2 ^ c.inputs.toNat≤1024:=AiY (by decide) (show c.inputs.toNat≤10 by omega)
 refine⟨by simp only[At,AB,Ai8,List.length_range];exact hN,by simp only[At,Ai8,List.length_range];exact hN,by simp only[At,Ai8,List.length_range];exact hN,fun r hr=>?_,by simp only[At,Ai8];exact hR.2.2.2.2.2.1,fun r hr=>?_⟩
 ·simp only[At,AiL]at hr
  obtain⟨s,_,rfl⟩:=hr
  split
  ·have:=Wn c ((A2 c).getD s []) (AB c)
   omega
  ·simp
 ·simp only[At,AiL]at hr
  obtain⟨s,_,rfl⟩:=hr
  rw[Ai8,List.length_range]
  exact hN
def Gs:Ci:=⟨0,[(3,0)],[],[],[],[],[],[]⟩
theorem yC{c:Ci}(h:c.names = []):Cp c=true:=by
 simp only[Cp,decide_eq_true_eq]
 exact⟨fun i hi=>by simp[h]at hi,fun i hi=>by simp[h]at hi,by simp[h]⟩
theorem P6:Gs.ok:=by
 refine⟨⟨by decide,by decide⟩,by decide,by decide,fun p hp=>?_,(fun p hp=>by cases hp),⟨(fun _ h=>by cases h),by decide⟩,⟨(fun _ h=>by cases h),by decide⟩,⟨(fun _ h=>by cases h),by decide⟩,⟨(fun _ h=>by cases h),by decide⟩,(fun _ h=>by cases h),by decide⟩
 have:p=(3,0):=by simpa[Gs]using hp
 subst this
 exact⟨⟨by decide,by decide⟩,⟨by decide,by decide⟩⟩
theorem IC:Gs.right=true:=by
 refine Bp.2 ⟨by decide,by decide,by decide,by decide,by decide,by decide,by decide,by decide,by decide,by decide,by decide,by decide,yC rfl⟩
theorem Uf:BE Gs=(⟨1,[true,true],[true,false],[[1],[0]],[]⟩,0):=by
 rw[BE,IC,if_neg (by decide),if_neg (by decide)]
 have h1:(At Gs).bits=1:=by decide
 have h2:(At Gs).valid = [true,true]:=by decide
 have h3:(At Gs).initial = [true,false]:=by decide
 have h4:(At Gs).next = [[1],[0]]:=by decide
 have h5:(At Gs).fair = []:=by decide
 generalize At Gs=s at *
 cases s
 simp_all
theorem K2{P:Program}{f:FuncId}{args args2:List AV}{r:AV}(h:BH P f args2 r){S:Aa}(hl:args.length=args2.length)(hcv:∀(k:Nat) (u u2:AV),args[k]? = some u→args2[k]? = some u2→Cv S S.n u u2){Q:Bg→Aa→Prop}{K:AV→Aa→Prop}(k:K r S):Ah P f args S Q K:=
 .inl (Ad.conv hl hcv (Ad.mono (h S) fun e S' h=>by obtain⟨rfl,rfl⟩:=h;exact k))
theorem tJ(l:List Na):Tree (nL l):=Tree.l fun c hc u hu=>by
 obtain⟨a,ha,rfl⟩:=AiL.1 hc
 unfold Na.row at hu
 simp only[AiO,AiT,or_false]at hu
 rcases hu with rfl|rfl|rfl<;>exact Tree.v _
theorem O6{c:Ci}(h1:c.right=true)(hi:c.inputs≤3)(hl:c.latches.length≤3):BE c=(At c,0)∧∃ m:Nat,c.inputs.toNat+c.latches.length=m∧m≤6∧c.gr.inputs=m∧c.inputs=(c.inputs.toNat:Int)∧(AB c).length=2 ^ m∧(At c).initial.length=2 ^ m∧(At c).next.length=2 ^ m:=by
 obtain⟨g1,g2,g3⟩:=CJ h1
 have hin:=(Bp.1 h1).1
 refine⟨by rw[BE,if_neg (by rw[h1];decide),if_neg (by omega)],c.inputs.toNat+c.latches.length,rfl,by omega,by omega,by omega,?_,?_,?_⟩
 ·have:c.gr.inputs.toNat=c.inputs.toNat+c.latches.length:=by omega
  simp[AB,this]
 ·have:c.gr.inputs.toNat=c.inputs.toNat+c.latches.length:=by omega
  simp[At,this]
 ·have:c.gr.inputs.toNat=c.inputs.toNat+c.latches.length:=by omega
  simp[At,this]
theorem Yr{m:Nat}(h:m≤6):2 ^ m≤64:=AiY (by decide) h
section
variable {H:Type} {enc:TypeId × Value→H} {w:World} {sp:Nat→Bool} {held:Bool}
theorem NQ{n:Int}(h:(Lit.int .u8 n).wf=true):0≤n∧n<256:=by
 simp[Lit.wf,IntKind.min,IntKind.max,IntKind.bits,IntKind.signed]at h
 omega
theorem X4{n:Int}(h:(Lit.int .u16 n).wf=true):0≤n∧n<65536:=by
 simp[Lit.wf,IntKind.min,IntKind.max,IntKind.bits,IntKind.signed]at h
 omega
theorem opU:I6 enc Pg w sp held 5 1 (fun n:Int=>[AV.v (.int .u8 n)]) (fun n=>(Lit.int .u8 n).wf=true):=NX Tryz.underlying5
theorem opV:I6 enc Pg w sp held 87 1 (fun n:Int=>[Jp n]) (fun n=>(Lit.int .u16 n).wf=true):=NX Tryz.underlying87
theorem Ac2:I6 enc Pg w sp held 22 1 (fun l:List Int=>[aL Jp l]) (fun l=>l.length≤maxLen∧∀ a∈l,(Lit.int .u16 a).wf=true):=Lj Tryz.underlying22 (by kernel_rfl) (by decide) opV
end
inductive Fo where
 |mk (kind:Int) (name:ByteArray) (lit:Int) (kids:List Fo)
def Fo.kind:Fo→Int|.mk k _ _ _=>k
def Fo.lit:Fo→Int|.mk _ _ l _=>l
theorem Fo.ind{P:Fo→Prop}(h:∀ k n l ks,(∀ f∈ks,P f)→P (.mk k n l ks))(f:Fo):P f:=
 Fo.rec (motive_1:=P) (motive_2:=fun l=>∀ f∈l,P f) (fun k n l ks ih=>h k n l ks ih) (fun f hf=>by cases hf)
  (fun a l ha hl f hf=>by
   rcases AiO.1 hf with rfl|hf
   ·exact ha
   ·exact hl f hf) f
mutual
def Fo.row:Fo→List AV
 |.mk k n l ks=>[aI k,.v (.string n),aI l,.l (Fo.rows ks)]
def Fo.rows:List Fo→List (List AV)
 |[]=>[]
 |f :: fs=>Fo.row f :: Fo.rows fs
end
def Dx(l:List Fo):AV:=.l (l.map Fo.row)
theorem Fo.Hw:∀ l:List Fo,Fo.rows l=l.map Fo.row
 |[]=>by rw[Fo.rows];rfl
 |f :: fs=>by rw[Fo.rows,Fo.Hw fs];rfl
theorem Fo.AE(k:Int)(n:ByteArray)(l:Int)(ks:List Fo):Fo.row (.mk k n l ks) = [aI k,.v (.string n),aI l,Dx ks]:=by rw[Fo.row,Fo.Hw];rfl
def Fo.av(f:Fo):AV:=.a f.row
theorem Fo.Aj(f:Fo):f.row.length=4:=by cases f;rw[Fo.AE];rfl
inductive Fo.ok:Fo→Prop
 |mk (k:Int) (n:ByteArray) (l:Int) (ks:List Fo) (h1:By k) (h2:By l) (h3:n.size≤9223372036854775807) (h4:ks.length≤1000000) (h:∀ f∈ks,Fo.ok f):Fo.ok (.mk k n l ks)
def Ct(k:Int):Int:=if k<1∨18<k then -1 else if k≤3 then 0 else if k=4∨9≤k∧k≤14 then 1 else 2
mutual
def Fo.BP:Fo→Int→Bool
 |.mk k n l ks,d=>decide (0<d) && (decide (l=0∨0<l∧k=3) && (decide (n=(⟨#[]⟩:ByteArray)) && (decide ((ks.length:Int)=Ct k) && Fo.Ru ks (d - 1))))
def Fo.Ru:List Fo→Int→Bool
 |[],_=>true
 |f :: fs,d=>Fo.BP f d && Fo.Ru fs d
end
theorem Fo.N3:∀(l:List Fo) (d:Int),Fo.Ru l d=l.all fun f=>f.BP d
 |[],d=>by rw[Fo.Ru];rfl
 |f :: fs,d=>by rw[Fo.Ru,Fo.N3 fs];rfl
theorem Fo.Cm(k:Int)(n:ByteArray)(l:Int)(ks:List Fo)(d:Int):Fo.BP (.mk k n l ks) d=(decide (0<d) && (decide (l=0∨0<l∧k=3) && (decide (n=(⟨#[]⟩:ByteArray)) && (decide ((ks.length:Int)=Ct k) && ks.all fun f=>f.BP (d - 1))))):=by rw[Fo.BP,Fo.N3]
mutual
def Fo.DC(g:Gr):Fo→Bool
 |.mk k _ l ks=>(decide (k≠3) || g.lit l) && Fo.M0 g ks
def Fo.M0(g:Gr):List Fo→Bool
 |[]=>true
 |f :: fs=>Fo.DC g f && Fo.M0 g fs
end
theorem Fo.MZ(g:Gr):∀(l:List Fo),Fo.M0 g l=l.all fun f=>f.DC g
 |[]=>by rw[Fo.M0];rfl
 |f :: fs=>by rw[Fo.M0,Fo.MZ g fs];rfl
theorem Fo.JJ(g:Gr)(k:Int)(n:ByteArray)(l:Int)(ks:List Fo):Fo.DC g (.mk k n l ks)=((decide (k≠3) || g.lit l) && ks.all fun f=>f.DC g):=by rw[Fo.DC,Fo.MZ]
def DU (c:Ci) (f:Fo):Bool:=c.right && (f.BP 60 && f.DC c.gr)
@[simp] theorem BJ(l:List Fo){S:Aa}{K:AV→Aa→Prop}:AG (Dx l) S K=K (aI l.length) S:=by simp[Dx]
theorem Cn{l:List Fo}{e i:Nat}{S:Aa}{K:AV→Aa→Prop}(h:i<l.length):AR e 4 (Dx l) (aI i) S K=K (.q l[i].row 0) S:=by
 unfold Dx
 rw[IX (by simpa using h) (by simp[Fo.Aj])]
 simp
theorem Cd{c:List AV}{n:Nat}{S:Aa}{K:AV→Aa→Prop}(h:c.length=n):AA n (.q c 0) S K=K (.a c) S:=by
 subst h
 simp[AA,XT,place]
section
variable {H:Type} {enc:TypeId × Value→H} {w:World} {sp:Nat→Bool} {held:Bool}
theorem Ah9:I6 enc Pg w sp held 23 1 (fun l:List Int=>[aL (fun n=>AV.v (.int .u8 n)) l]) (fun l=>l.length≤maxLen∧∀ a∈l,(Lit.int .u8 a).wf=true):=Lj Tryz.underlying23 (by kernel_rfl) (by decide) opU
end
section
variable {H:Type} {enc:TypeId × Value→H} {w:World} {sp:Nat→Bool} {held:Bool}
end
inductive Tn where
 |mk (kind:Int) (state:Int) (back:Int) (states:List Int) (kids:List Tn)
theorem Tn.ind{P:Tn→Prop}(h:∀ k s b ss ks,(∀ t∈ks,P t)→P (.mk k s b ss ks))(t:Tn):P t:=
 Tn.rec (motive_1:=P) (motive_2:=fun l=>∀ t∈l,P t) (fun k s b ss ks ih=>h k s b ss ks ih) (fun t ht=>by cases ht)
  (fun a l ha hl t ht=>by
   rcases AiO.1 ht with rfl|ht
   ·exact ha
   ·exact hl t ht) t
mutual
def Tn.row:Tn→List AV
 |.mk k s b ss ks=>[aI k,aI s,aI b,aL aI ss,.l (Tn.rows ks)]
def Tn.rows:List Tn→List (List AV)
 |[]=>[]
 |t :: ts=>Tn.row t :: Tn.rows ts
end
def Lg(l:List Tn):AV:=.l (l.map Tn.row)
theorem Tn.Hw:∀ l:List Tn,Tn.rows l=l.map Tn.row
 |[]=>by rw[Tn.rows];rfl
 |t :: ts=>by rw[Tn.rows,Tn.Hw ts];rfl
theorem Tn.AE(k s b:Int)(ss:List Int)(ks:List Tn):Tn.row (.mk k s b ss ks) = [aI k,aI s,aI b,aL aI ss,Lg ks]:=by rw[Tn.row,Tn.Hw];rfl
def Tn.av(t:Tn):AV:=.a t.row
theorem Tn.Aj(t:Tn):t.row.length=5:=by cases t;rw[Tn.AE];rfl
section
variable {H:Type} {enc:TypeId × Value→H} {w:World} {sp:Nat→Bool} {held:Bool}
end
section
set_option maxRecDepth 100000
def c38:Code:=(Tryz.f38.body).getD .skip
def r38:List ResultVar:=Tryz.f38.results.toList
def JZ(y1 y2 y4 y5 y6:AV):List AV:=[y1,y2,y4,y5,y6]
def Pb:List Nat:=[1,2,4,5,6]
def SU:List (List Nat):=[Pb,[]]
abbrev Zt(x1 v1 v2 v6:AV)(S:Aa)(Q:Aq):Prop:=Ap Pb (vc Pg (c38.at_ [1,1,1,0,1,0,0]) (SU.drop 1)) 46 (JZ x1 v1 v2 v6 (aI 0)) S (Ak 0 (Av (vc Pg (c38.at_ [1,1,1,1]) (SU.drop 1)) (Ao Pg r38 Q)))
def m38(x0 x1:AV)(S:Aa)(Q:Aq):Prop:=
 Az 32 4 x0 S fun c S=>Az 32 4 (.a CK) S fun d S=>Lf c 0 S fun e S=>CH Qq CK [(0,e)] S fun f S=>Az 32 4 (.a CK) S fun g S=>A8 4 g f S fun h S=>Lf c 0 S fun i S=>bin .eql 0 i (aI 3) S fun k S=>Fi k (Lt S (shift c 1) fun l=>Lt S (Ax l) fun m=>Lt S (FT m) fun n=>Lt S (bin .mul 0 n (aI 7)) fun o=>Lt S (shift c 1) fun p=>Lt S (Ax p) fun q=>Lt S (HH q (aI 0)) fun r=>Lt S (Cf .i64 r) fun s=>Lt S (bin .add 0 o s) fun t=>Lt S (YK true x1 (aI 1)) fun u=>Lt S (bin .rem 0 t u) fun v=>Lt S (shift g 2) fun w=>A8 1 w v S fun x S=>Zt x1 c d g S Q) (Zt x1 c d g S Q)
theorem qQ{x0 x1:AV}{S:Aa}{Q:Aq}(h:m38 x0 x1 S Q):Ad Pg 38 [x0,x1] S Q:=
 Bl (n:=46) SU Tryz.func38 (by kernel_rfl) (Eq.mpr (by kernel_rfl) h)
def vJ(y1 y2 y4 y5 y6:AV)(S:Aa)(KE0:BB)(Q:Aq):Prop:=
 Lf y2 3 S fun a S=>AG a S fun c S=>bin .lss 0 y6 c S fun d S=>Fi d (Lt S (shift y5 3) fun e=>Lt S (Ax e) fun f=>Lt S (shift y2 3) fun g=>Lt S (Ax g) fun h=>Lt S (AR 32 4 h y6) fun i=>Lt S (AA 4 i) fun k=>Lc S 38 [k,y1] fun l=>Lt S (AU 32 4 1 CK [(0,l)]) fun m=>Bo 32 4 56 f m S fun n S=>Lt S (shift y5 3) fun o=>A8 1 o n S fun p S=>bin .add 0 y6 (aI 1) S fun q S=>KE0 46 (JZ y1 y2 y4 y5 q) S) (AA 4 y5 S fun r S=>A8 4 y4 r S fun s S=>AA 4 y4 S fun t _=>Q (.ret t) S)
theorem Z6{y1 y2 y4 y5:AV}{y60:AV}{S:Aa}{Q:Aq}(I:AV→Aa→Prop)(μ:AV→Aa→Nat)(h0:I y60 S)(hr:BS (fun y6=>JZ y1 y2 y4 y5 y6) 46 I μ fun y6 S KE0=>vJ y1 y2 y4 y5 y6 S KE0 Q):
 Ap Pb (vc Pg (c38.at_ [1,1,1,0,1,0,0]) (SU.drop 1)) 46 (JZ y1 y2 y4 y5 y60) S (Ak 0 (Av (vc Pg (c38.at_ [1,1,1,1]) (SU.drop 1)) (Ao Pg r38 Q))):=DY 4 (fun _=>rfl) (fun _ _ _=>by kernel_rfl) h0 hr
def m39(x0 x1:AV)(S:Aa)(Q:Aq):Prop:=
 Az 29 8 x0 S fun c S=>Az 32 4 x1 S fun d S=>AA 8 c S fun e S=>AA 4 d S fun f S=>Ah Pg 33 [e,f] S Q fun g S=>un .not g S fun h S=>Fi h (Q (.ret (.t [.nl,aI 1])) S) (AA 8 c S fun i S=>Ah Pg 11 [i] S Q fun k S=>A0 k 0 S fun l S=>A0 k 1 S fun m S=>Az 45 5 (.a XN) S fun n S=>A8 5 n l S fun o S=>bin .neq 0 m (aI 0) S fun p S=>Fi p (Q (.ret (.t [.nl,m])) S) (Lt S (AA 8 c) fun q=>Lt S (AA 5 n) fun r=>Lt S (AA 5 n) fun s=>Lt S (shift n 1) fun u=>Lt S (Ax u) fun v=>Lc S 85 [s,v] fun w=>Lt S (CH [(0,8),(8,5),(13,1)] [aI 0,.nl,.nl,.nl,.nl,.nl,.nl,.nl,aI 0,.nl,.nl,.nl,.nl,.nl] [(0,q),(1,r),(2,w)]) fun x=>Az 129 14 x S fun y S=>AA 4 d S fun z S=>Ah Pg 86 [y,z] S Q fun A S=>Q (.ret (.t [A,aI 0])) S))
theorem qP{x0 x1:AV}{S:Aa}{Q:Aq}(h:m39 x0 x1 S Q):Ad Pg 39 [x0,x1] S Q:=
 Bl (n:=32) [[]] Tryz.func39 (by kernel_rfl) (Eq.mpr (by kernel_rfl) h)
def c86:Code:=(Tryz.f86.body).getD .skip
def r86:List ResultVar:=Tryz.f86.results.toList
def GZ(y0 y3 y7 y8:AV):List AV:=[y0,y3,y7,y8]
def Ti:List Nat:=[0,3,7,8]
def YP:List (List Nat):=[Ti,[]]
abbrev Lo(x0 v1:AV)(S:Aa)(Q:Aq):Prop:=Ap Ti (vc Pg (c86.at_ [1,1,1,1,1,1,0,1,0,0]) (YP.drop 1)) 214 (GZ x0 v1 .nl (aI 0)) S (Ak 1 (Av (vc Pg (c86.at_ [1,1,1,1,1,1,1]) (YP.drop 1)) (Ao Pg r86 Q)))
abbrev Ln(x0:AV)(S:Aa)(Q:Aq):Prop:=AJ x0 S fun a S=>shift a 8 S fun c S=>Lf c 1 S fun d S=>Ah Pg 124 [x0,d] S Q fun e S=>Q (.ret e) S
abbrev Ob(x0:AV)(Q:Aq)(S:Aa):Prop:=(fun S0:Aa=>Lq S0 (AJ x0) fun q287=>Lq S0 (shift q287 8) fun q289=>Lq S0 (shift q289 1) fun q291=>Lq S0 (Ax q291) fun q293=>Ld S0 124 [x0,.nl] fun q295=>Ld S0 127 [x0,q293,q295] fun q297=>Ld S0 124 [x0,q297] fun q299=>Q (.ret q299) S) S
abbrev Oa(x0 v11:AV)(Q:Aq)(S:Aa):Prop:=(fun S0:Aa=>Lq S0 (AJ x0) fun q81=>Lq S0 (shift q81 8) fun q83=>Lq S0 (shift q83 1) fun q85=>Lq S0 (Ax q85) fun q87=>Ld S0 124 [x0,v11] fun q89=>Ld S0 127 [x0,q87,q89] fun q91=>Ld S0 124 [x0,q91] fun q93=>Q (.ret q93) S) S
abbrev N9(x0:AV)(S:Aa)(Q:Aq):Prop:=AJ x0 S fun a S=>shift a 8 S fun c S=>Lf c 1 S fun d S=>Ah Pg 127 [x0,d,.nl] S Q fun e S=>Q (.ret e) S
abbrev N8(x0:AV)(S:Aa)(Q:Aq):Prop:=Ah Pg 124 [x0,.nl] S Q fun a S=>Ah Pg 126 [x0,a] S Q fun c S=>Ah Pg 124 [x0,c] S Q fun d S=>Q (.ret d) S
abbrev N7(x0:AV)(S:Aa)(Q:Aq):Prop:=Ah Pg 124 [x0,.nl] S Q fun a S=>Ah Pg 128 [x0,a] S Q fun c S=>Ah Pg 124 [x0,c] S Q fun d S=>Q (.ret d) S
def m86(x0 x1:AV)(S:Aa)(Q:Aq):Prop:=
 Az 32 4 x1 S fun a S=>Lf a 3 S fun c S=>AG c S fun d S=>bin .gtr 0 d (aI 0) S fun e S=>Fi e (Lf a 3 S fun f S=>AR 32 4 f (aI 0) S fun g S=>AA 4 g S fun h S=>Ah Pg 86 [x0,h] S Q fun i S=>Lf a 3 S fun k S=>AG k S fun l S=>bin .gtr 0 l (aI 1) S fun m S=>Fi m (Lf a 3 S fun n S=>AR 32 4 n (aI 1) S fun o S=>AA 4 o S fun p S=>Ah Pg 86 [x0,p] S Q fun q S=>Lf a 0 S fun r S=>bin .eql 0 r (aI 2) S fun s S=>Fi s (AJ x0 S fun t S=>shift t 8 S fun u S=>Lf u 1 S fun v S=>Q (.ret v) S) (bin .eql 0 r (aI 1) S fun w S=>Fi w (Ln x0 S Q) (bin .eql 0 r (aI 4) S fun x S=>Fi x (Ah Pg 124 [x0,i] S Q fun y S=>Q (.ret y) S) (bin .eql 0 r (aI 5) S fun z S=>Fi z (Ah Pg 119 [i,q] S Q fun A S=>Q (.ret A) S) (bin .eql 0 r (aI 6) S fun B S=>Fi B (Ah Pg 125 [i,q] S Q fun C S=>Q (.ret C) S) (bin .eql 0 r (aI 7) S fun D S=>Fi D (Ah Pg 124 [x0,i] S Q fun E S=>Ah Pg 125 [E,q] S Q fun F S=>Q (.ret F) S) (bin .eql 0 r (aI 8) S fun G S=>Fi G (Ah Pg 119 [i,q] S Q fun H S=>Ah Pg 125 [i,q] S Q fun I S=>Ah Pg 124 [x0,I] S Q fun J S=>Ah Pg 125 [H,J] S Q fun K S=>Q (.ret K) S) (bin .eql 0 r (aI 9) S fun L S=>Fi L (Ah Pg 126 [x0,i] S Q fun M S=>Q (.ret M) S) (bin .eql 0 r (aI 10) S fun N S=>Fi N (Ah Pg 124 [x0,i] S Q fun O S=>Ah Pg 126 [x0,O] S Q fun P S=>Ah Pg 124 [x0,P] S Q fun R S=>Q (.ret R) S) (bin .eql 0 r (aI 11) S fun T S=>Fi T (AJ x0 S fun U S=>shift U 8 S fun V S=>Lf V 1 S fun W S=>Ah Pg 127 [x0,W,i] S Q fun X S=>Q (.ret X) S) (bin .eql 0 r (aI 12) S fun Y S=>Fi Y (Ah Pg 124 [x0,i] S Q fun Z S=>Ah Pg 128 [x0,Z] S Q fun a0 S=>Ah Pg 124 [x0,a0] S Q fun a1 S=>Q (.ret a1) S) (bin .eql 0 r (aI 13) S fun a2 S=>Fi a2 (Ah Pg 128 [x0,i] S Q fun a3 S=>Q (.ret a3) S) (bin .eql 0 r (aI 14) S fun a4 S=>Fi a4 (Oa x0 i Q S) (bin .eql 0 r (aI 15) S fun a5 S=>Fi a5 (Ah Pg 127 [x0,i,q] S Q fun a6 S=>Q (.ret a6) S) (bin .eql 0 r (aI 16) S fun a7 S=>Fi a7 (Ah Pg 124 [x0,q] S Q fun a8 S=>Ah Pg 125 [i,q] S Q fun a9 S=>Ah Pg 124 [x0,a9] S Q fun b0 S=>Ah Pg 127 [x0,a8,b0] S Q fun b1 S=>Ah Pg 124 [x0,q] S Q fun b2 S=>Ah Pg 128 [x0,b2] S Q fun b3 S=>Ah Pg 125 [b1,b3] S Q fun b4 S=>Ah Pg 124 [x0,b4] S Q fun b5 S=>Q (.ret b5) S) (bin .eql 0 r (aI 17) S fun b6 S=>Fi b6 (Ah Pg 128 [x0,q] S Q fun b7 S=>Ah Pg 119 [i,q] S Q fun b8 S=>Ah Pg 127 [x0,q,b8] S Q fun b9 S=>Ah Pg 125 [b7,b9] S Q fun c0 S=>Q (.ret c0) S) (bin .eql 0 r (aI 18) S fun c1 S=>Fi c1 (Ah Pg 124 [x0,i] S Q fun c2 S=>Ah Pg 124 [x0,q] S Q fun c3 S=>Ah Pg 127 [x0,c2,c3] S Q fun c4 S=>Ah Pg 124 [x0,c4] S Q fun c5 S=>Q (.ret c5) S) (Lo x0 a S Q)))))))))))))))))) (Lf a 0 S fun c6 S=>bin .eql 0 c6 (aI 2) S fun c7 S=>Fi c7 (AJ x0 S fun c8 S=>shift c8 8 S fun c9 S=>Lf c9 1 S fun d0 S=>Q (.ret d0) S) (bin .eql 0 c6 (aI 1) S fun d1 S=>Fi d1 (Ln x0 S Q) (bin .eql 0 c6 (aI 4) S fun d2 S=>Fi d2 (Ah Pg 124 [x0,i] S Q fun d3 S=>Q (.ret d3) S) (bin .eql 0 c6 (aI 5) S fun d4 S=>Fi d4 (Ah Pg 119 [i,.nl] S Q fun d5 S=>Q (.ret d5) S) (bin .eql 0 c6 (aI 6) S fun d6 S=>Fi d6 (Ah Pg 125 [i,.nl] S Q fun d7 S=>Q (.ret d7) S) (bin .eql 0 c6 (aI 7) S fun d8 S=>Fi d8 (Ah Pg 124 [x0,i] S Q fun d9 S=>Ah Pg 125 [d9,.nl] S Q fun e0 S=>Q (.ret e0) S) (bin .eql 0 c6 (aI 8) S fun e1 S=>Fi e1 (Ah Pg 119 [i,.nl] S Q fun e2 S=>Ah Pg 125 [i,.nl] S Q fun e3 S=>Ah Pg 124 [x0,e3] S Q fun e4 S=>Ah Pg 125 [e2,e4] S Q fun e5 S=>Q (.ret e5) S) (bin .eql 0 c6 (aI 9) S fun e6 S=>Fi e6 (Ah Pg 126 [x0,i] S Q fun e7 S=>Q (.ret e7) S) (bin .eql 0 c6 (aI 10) S fun e8 S=>Fi e8 (Ah Pg 124 [x0,i] S Q fun e9 S=>Ah Pg 126 [x0,e9] S Q fun f0 S=>Ah Pg 124 [x0,f0] S Q fun f1 S=>Q (.ret f1) S) (bin .eql 0 c6 (aI 11) S fun f2 S=>Fi f2 (AJ x0 S fun f3 S=>shift f3 8 S fun f4 S=>Lf f4 1 S fun f5 S=>Ah Pg 127 [x0,f5,i] S Q fun f6 S=>Q (.ret f6) S) (bin .eql 0 c6 (aI 12) S fun f7 S=>Fi f7 (Ah Pg 124 [x0,i] S Q fun f8 S=>Ah Pg 128 [x0,f8] S Q fun f9 S=>Ah Pg 124 [x0,f9] S Q fun g0 S=>Q (.ret g0) S) (bin .eql 0 c6 (aI 13) S fun g1 S=>Fi g1 (Ah Pg 128 [x0,i] S Q fun g2 S=>Q (.ret g2) S) (bin .eql 0 c6 (aI 14) S fun g3 S=>Fi g3 (Oa x0 i Q S) (bin .eql 0 c6 (aI 15) S fun g4 S=>Fi g4 (Ah Pg 127 [x0,i,.nl] S Q fun g5 S=>Q (.ret g5) S) (bin .eql 0 c6 (aI 16) S fun g6 S=>Fi g6 (Ah Pg 124 [x0,.nl] S Q fun g7 S=>Ah Pg 125 [i,.nl] S Q fun g8 S=>Ah Pg 124 [x0,g8] S Q fun g9 S=>Ah Pg 127 [x0,g7,g9] S Q fun h0 S=>Ah Pg 124 [x0,.nl] S Q fun h1 S=>Ah Pg 128 [x0,h1] S Q fun h2 S=>Ah Pg 125 [h0,h2] S Q fun h3 S=>Ah Pg 124 [x0,h3] S Q fun h4 S=>Q (.ret h4) S) (bin .eql 0 c6 (aI 17) S fun h5 S=>Fi h5 (Ah Pg 128 [x0,.nl] S Q fun h6 S=>Ah Pg 119 [i,.nl] S Q fun h7 S=>Ah Pg 127 [x0,.nl,h7] S Q fun h8 S=>Ah Pg 125 [h6,h8] S Q fun h9 S=>Q (.ret h9) S) (bin .eql 0 c6 (aI 18) S fun i0 S=>Fi i0 (Ah Pg 124 [x0,i] S Q fun i1 S=>Ah Pg 124 [x0,.nl] S Q fun i2 S=>Ah Pg 127 [x0,i1,i2] S Q fun i3 S=>Ah Pg 124 [x0,i3] S Q fun i4 S=>Q (.ret i4) S) (Lo x0 a S Q))))))))))))))))))) (Lf a 3 S fun i5 S=>AG i5 S fun i6 S=>bin .gtr 0 i6 (aI 1) S fun i7 S=>Fi i7 (Lf a 3 S fun i8 S=>AR 32 4 i8 (aI 1) S fun i9 S=>AA 4 i9 S fun k0 S=>Ah Pg 86 [x0,k0] S Q fun k1 S=>Lf a 0 S fun k2 S=>bin .eql 0 k2 (aI 2) S fun k3 S=>Fi k3 (AJ x0 S fun k4 S=>shift k4 8 S fun k5 S=>Lf k5 1 S fun k6 S=>Q (.ret k6) S) (bin .eql 0 k2 (aI 1) S fun k7 S=>Fi k7 (Ln x0 S Q) (bin .eql 0 k2 (aI 4) S fun k8 S=>Fi k8 (Ah Pg 124 [x0,.nl] S Q fun k9 S=>Q (.ret k9) S) (bin .eql 0 k2 (aI 5) S fun l0 S=>Fi l0 (Ah Pg 119 [.nl,k1] S Q fun l1 S=>Q (.ret l1) S) (bin .eql 0 k2 (aI 6) S fun l2 S=>Fi l2 (Ah Pg 125 [.nl,k1] S Q fun l3 S=>Q (.ret l3) S) (bin .eql 0 k2 (aI 7) S fun l4 S=>Fi l4 (Ah Pg 124 [x0,.nl] S Q fun l5 S=>Ah Pg 125 [l5,k1] S Q fun l6 S=>Q (.ret l6) S) (bin .eql 0 k2 (aI 8) S fun l7 S=>Fi l7 (Ah Pg 119 [.nl,k1] S Q fun l8 S=>Ah Pg 125 [.nl,k1] S Q fun l9 S=>Ah Pg 124 [x0,l9] S Q fun aA S=>Ah Pg 125 [l8,aA] S Q fun aB S=>Q (.ret aB) S) (bin .eql 0 k2 (aI 9) S fun aC S=>Fi aC (Ah Pg 126 [x0,.nl] S Q fun aD S=>Q (.ret aD) S) (bin .eql 0 k2 (aI 10) S fun aE S=>Fi aE (N8 x0 S Q) (bin .eql 0 k2 (aI 11) S fun aF S=>Fi aF (N9 x0 S Q) (bin .eql 0 k2 (aI 12) S fun aG S=>Fi aG (N7 x0 S Q) (bin .eql 0 k2 (aI 13) S fun aH S=>Fi aH (Ah Pg 128 [x0,.nl] S Q fun aJ S=>Q (.ret aJ) S) (bin .eql 0 k2 (aI 14) S fun aK S=>Fi aK (Ob x0 Q S) (bin .eql 0 k2 (aI 15) S fun aL S=>Fi aL (Ah Pg 127 [x0,.nl,k1] S Q fun aM S=>Q (.ret aM) S) (bin .eql 0 k2 (aI 16) S fun aN S=>Fi aN (Ah Pg 124 [x0,k1] S Q fun aO S=>Ah Pg 125 [.nl,k1] S Q fun aP S=>Ah Pg 124 [x0,aP] S Q fun aQ S=>Ah Pg 127 [x0,aO,aQ] S Q fun aR S=>Ah Pg 124 [x0,k1] S Q fun aS S=>Ah Pg 128 [x0,aS] S Q fun aT S=>Ah Pg 125 [aR,aT] S Q fun aU S=>Ah Pg 124 [x0,aU] S Q fun aV S=>Q (.ret aV) S) (bin .eql 0 k2 (aI 17) S fun aW S=>Fi aW (Ah Pg 128 [x0,k1] S Q fun aX S=>Ah Pg 119 [.nl,k1] S Q fun aY S=>Ah Pg 127 [x0,k1,aY] S Q fun aZ S=>Ah Pg 125 [aX,aZ] S Q fun bA S=>Q (.ret bA) S) (bin .eql 0 k2 (aI 18) S fun bB S=>Fi bB (Ah Pg 124 [x0,.nl] S Q fun bC S=>Ah Pg 124 [x0,k1] S Q fun bD S=>Ah Pg 127 [x0,bC,bD] S Q fun bE S=>Ah Pg 124 [x0,bE] S Q fun bF S=>Q (.ret bF) S) (Lo x0 a S Q)))))))))))))))))) (Lf a 0 S fun bG S=>bin .eql 0 bG (aI 2) S fun bH S=>Fi bH (AJ x0 S fun bI S=>shift bI 8 S fun bJ S=>Lf bJ 1 S fun bK S=>Q (.ret bK) S) (bin .eql 0 bG (aI 1) S fun bL S=>Fi bL (Ln x0 S Q) (bin .eql 0 bG (aI 4) S fun bM S=>Fi bM (Ah Pg 124 [x0,.nl] S Q fun bN S=>Q (.ret bN) S) (bin .eql 0 bG (aI 5) S fun bO S=>Fi bO (Ah Pg 119 [.nl,.nl] S Q fun bP S=>Q (.ret bP) S) (bin .eql 0 bG (aI 6) S fun bQ S=>Fi bQ (Ah Pg 125 [.nl,.nl] S Q fun bR S=>Q (.ret bR) S) (bin .eql 0 bG (aI 7) S fun bS S=>Fi bS (Ah Pg 124 [x0,.nl] S Q fun bT S=>Ah Pg 125 [bT,.nl] S Q fun bU S=>Q (.ret bU) S) (bin .eql 0 bG (aI 8) S fun bV S=>Fi bV (Ah Pg 119 [.nl,.nl] S Q fun bW S=>Ah Pg 125 [.nl,.nl] S Q fun bX S=>Ah Pg 124 [x0,bX] S Q fun bY S=>Ah Pg 125 [bW,bY] S Q fun bZ S=>Q (.ret bZ) S) (bin .eql 0 bG (aI 9) S fun cA S=>Fi cA (Ah Pg 126 [x0,.nl] S Q fun cB S=>Q (.ret cB) S) (bin .eql 0 bG (aI 10) S fun cC S=>Fi cC (N8 x0 S Q) (bin .eql 0 bG (aI 11) S fun cD S=>Fi cD (N9 x0 S Q) (bin .eql 0 bG (aI 12) S fun cE S=>Fi cE (N7 x0 S Q) (bin .eql 0 bG (aI 13) S fun cF S=>Fi cF (Ah Pg 128 [x0,.nl] S Q fun cG S=>Q (.ret cG) S) (bin .eql 0 bG (aI 14) S fun cH S=>Fi cH (Ob x0 Q S) (bin .eql 0 bG (aI 15) S fun cI S=>Fi cI (Ah Pg 127 [x0,.nl,.nl] S Q fun cJ S=>Q (.ret cJ) S) (bin .eql 0 bG (aI 16) S fun cK S=>Fi cK (Ah Pg 124 [x0,.nl] S Q fun cL S=>Ah Pg 125 [.nl,.nl] S Q fun cM S=>Ah Pg 124 [x0,cM] S Q fun cN S=>Ah Pg 127 [x0,cL,cN] S Q fun cO S=>Ah Pg 124 [x0,.nl] S Q fun cP S=>Ah Pg 128 [x0,cP] S Q fun cQ S=>Ah Pg 125 [cO,cQ] S Q fun cR S=>Ah Pg 124 [x0,cR] S Q fun cS S=>Q (.ret cS) S) (bin .eql 0 bG (aI 17) S fun cT S=>Fi cT (Ah Pg 128 [x0,.nl] S Q fun cU S=>Ah Pg 119 [.nl,.nl] S Q fun cV S=>Ah Pg 127 [x0,.nl,cV] S Q fun cW S=>Ah Pg 125 [cU,cW] S Q fun cX S=>Q (.ret cX) S) (bin .eql 0 bG (aI 18) S fun cY S=>Fi cY (Ah Pg 124 [x0,.nl] S Q fun cZ S=>Ah Pg 124 [x0,.nl] S Q fun dA S=>Ah Pg 127 [x0,cZ,dA] S Q fun dB S=>Ah Pg 124 [x0,dB] S Q fun dC S=>Q (.ret dC) S) (Lo x0 a S Q)))))))))))))))))))
theorem Md{x0 x1:AV}{S:Aa}{Q:Aq}(h:m86 x0 x1 S Q):Ad Pg 86 [x0,x1] S Q:=
 Bl (n:=214) YP Tryz.func86 (by kernel_rfl) (Eq.mpr (by kernel_rfl) h)
def uO(y0 y3 y7 y8:AV)(S:Aa)(KE0:BB)(Q:Aq):Prop:=
 AJ y0 S fun a S=>shift a 8 S fun c S=>Lf c 1 S fun d S=>AG d S fun e S=>bin .lss 0 y8 e S fun f S=>Fi f (Lt S (AJ y0) fun g=>Lt S (shift g 8) fun h=>Lt S (shift h 1) fun i=>Lt S (Ax i) fun k=>Lt S (AR 4 1 k y8) fun l=>Lt S (Ax l) fun m=>Fi m (Lt S (AJ y0) fun n=>Lt S (shift n 0) fun o=>Lt S (AA 8 o) fun p=>Lt S (shift y3 2) fun q=>Lt S (Ax q) fun r=>Lc S 27 [p,y8,r] fun s=>∃ t:AV,(∀ T:Aa,Am S T→s=t∧T=T)∧Lt S (AU 4 1 1 [.v (.bool false)] [(0,t)]) fun u=>Bo 4 1 1 y7 u S fun w S=>bin .add 0 y8 (aI 1) S fun x S=>KE0 214 (GZ y0 y3 w x) S) (∃ y:AV,(∀ T:Aa,Am S T→(.v (.bool false))=y∧T=T)∧Lt S (AU 4 1 1 [.v (.bool false)] [(0,y)]) fun z=>Bo 4 1 1 y7 z S fun A S=>bin .add 0 y8 (aI 1) S fun B S=>KE0 214 (GZ y0 y3 A B) S)) (Q (.ret y7) S)
theorem ZD{y0 y3:AV}{y70 y80:AV}{S:Aa}{Q:Aq}(I:AV→AV→Aa→Prop)(μ:AV→AV→Aa→Nat)(h0:I y70 y80 S)(hr:DE (fun y7 y8=>GZ y0 y3 y7 y8) 214 I μ fun y7 y8 S KE0=>uO y0 y3 y7 y8 S KE0 Q):
 Ap Ti (vc Pg (c86.at_ [1,1,1,1,1,1,0,1,0,0]) (YP.drop 1)) 214 (GZ y0 y3 y70 y80) S (Ak 1 (Av (vc Pg (c86.at_ [1,1,1,1,1,1,1]) (YP.drop 1)) (Ao Pg r86 Q))):=IN (E:=fun y7 y8=>GZ y0 y3 y7 y8) 2 3 (fun _ _=>⟨rfl,rfl⟩) (fun _ _ _ _=>by kernel_rfl) h0 hr
def rY:Code:=(Tryz.f147.body).getD .skip
def AbG:List ResultVar:=Tryz.f147.results.toList
def E6(y0 y1 y5 y6:AV):List AV:=[y0,y1,y5,y6]
def Pt:List Nat:=[0,1,5,6]
def Q9:List (List Nat):=[Pt,[]]
def AdW(x0 x1:AV)(S:Aa)(Q:Aq):Prop:=
 Ap Pt (vc Pg (rY.at_ [1,1,0,1,0,0]) (Q9.drop 1)) 28 (E6 x0 x1 .nl (aI 0)) S (Ak 0 (Av (vc Pg (rY.at_ [1,1,1]) (Q9.drop 1)) (Ao Pg AbG Q)))
theorem dX{x0 x1:AV}{S:Aa}{Q:Aq}(h:AdW x0 x1 S Q):Ad Pg 147 [x0,x1] S Q:=
 Bl (n:=28) Q9 Tryz.func147 (by kernel_rfl) (Eq.mpr (by kernel_rfl) h)
def gX(y0 y1 y5 y6:AV)(S:Aa)(KE0:BB)(Q:Aq):Prop:=
 AG y0 S fun a S=>bin .lss 0 y6 a S fun c S=>Fi c (AR 4 1 y0 y6 S fun d S=>Ax d S fun e S=>Fi e (AR 4 1 y1 y6 S fun f S=>Ax f S fun g S=>un .not g S fun h S=>AU 4 1 1 [.v (.bool false)] [(0,h)] S fun i S=>Bo 4 1 1 y5 i S fun k S=>bin .add 0 y6 (aI 1) S fun l S=>KE0 28 (E6 y0 y1 k l) S) (AU 4 1 1 [.v (.bool false)] [(0,(.v (.bool false)))] S fun m S=>Bo 4 1 1 y5 m S fun n S=>bin .add 0 y6 (aI 1) S fun o S=>KE0 28 (E6 y0 y1 n o) S)) (Q (.ret y5) S)
theorem WR{y0 y1:AV}{y50 y60:AV}{S:Aa}{Q:Aq}(I:AV→AV→Aa→Prop)(μ:AV→AV→Aa→Nat)(h0:I y50 y60 S)(hr:DE (fun y5 y6=>E6 y0 y1 y5 y6) 28 I μ fun y5 y6 S KE0=>gX y0 y1 y5 y6 S KE0 Q):
 Ap Pt (vc Pg (rY.at_ [1,1,0,1,0,0]) (Q9.drop 1)) 28 (E6 y0 y1 y50 y60) S (Ak 0 (Av (vc Pg (rY.at_ [1,1,1]) (Q9.drop 1)) (Ao Pg AbG Q))):=IN (E:=fun y5 y6=>E6 y0 y1 y5 y6) 2 3 (fun _ _=>⟨rfl,rfl⟩) (fun _ _ _ _=>by kernel_rfl) h0 hr
def AeF(x0 x1:AV)(S:Aa)(Q:Aq):Prop:=
 Ah Pg 146 [x0,x1] S Q fun a S=>Q (.ret a) S
theorem eQ{x0 x1:AV}{S:Aa}{Q:Aq}(h:AeF x0 x1 S Q):Ad Pg 125 [x0,x1] S Q:=
 Bl (n:=8) [[]] Tryz.func125 (by kernel_rfl) (Eq.mpr (by kernel_rfl) h)
def AeG(x0 x1:AV)(S:Aa)(Q:Aq):Prop:=
 AJ x0 S fun a S=>shift a 8 S fun c S=>Lf c 1 S fun d S=>Ah Pg 147 [d,x1] S Q fun e S=>Q (.ret e) S
theorem eR{x0 x1:AV}{S:Aa}{Q:Aq}(h:AeG x0 x1 S Q):Ad Pg 124 [x0,x1] S Q:=
 Bl (n:=12) [[]] Tryz.func124 (by kernel_rfl) (Eq.mpr (by kernel_rfl) h)
def AeC(x0 x1:AV)(S:Aa)(Q:Aq):Prop:=
 AJ x0 S fun a S=>shift a 8 S fun c S=>AA 5 c S fun d S=>Ah Pg 85 [d,x1] S Q fun e S=>Q (.ret e) S
theorem eN{x0 x1:AV}{S:Aa}{Q:Aq}(h:AeC x0 x1 S Q):Ad Pg 128 [x0,x1] S Q:=
 Bl (n:=11) [[]] Tryz.func128 (by kernel_rfl) (Eq.mpr (by kernel_rfl) h)
def AeE(x0 x1:AV)(S:Aa)(Q:Aq):Prop:=
 (fun S0:Aa=>Lq S0 (AJ x0) fun q1=>Lq S0 (shift q1 8) fun q3=>Lq S0 (AA 5 q3) fun q5=>Lq S0 (AJ x0) fun q7=>Lq S0 (shift q7 13) fun q9=>Lq S0 (Ax q9) fun q11=>Ld S0 119 [x1,q11] fun q13=>Ld S0 121 [q5,q13] fun q15=>Q (.ret q15) S) S
theorem eP{x0 x1:AV}{S:Aa}{Q:Aq}(h:AeE x0 x1 S Q):Ad Pg 126 [x0,x1] S Q:=
 Bl (n:=16) [[]] Tryz.func126 (by kernel_rfl) (Eq.mpr (by kernel_rfl) h)
def AeD(x0 x1 x2:AV)(S:Aa)(Q:Aq):Prop:=
 (fun S0:Aa=>Lq S0 (AJ x0) fun q1=>Lq S0 (shift q1 8) fun q3=>Lq S0 (AA 5 q3) fun q5=>Lq S0 (AJ x0) fun q7=>Lq S0 (shift q7 13) fun q9=>Lq S0 (Ax q9) fun q11=>Ld S0 119 [x2,q11] fun q13=>Ld S0 122 [q5,x1,q13] fun q15=>Q (.ret q15) S) S
theorem eO{x0 x1 x2:AV}{S:Aa}{Q:Aq}(h:AeD x0 x1 x2 S Q):Ad Pg 127 [x0,x1,x2] S Q:=
 Bl (n:=19) [[]] Tryz.func127 (by kernel_rfl) (Eq.mpr (by kernel_rfl) h)
def AdN(x0 x1 x2 x3:AV)(S:Aa)(Q:Aq):Prop:=
 Az 164 1 x2 S fun a S=>Az 164 1 x3 S fun c S=>bin .eql 0 x1 (aI 5) S fun d S=>Fi d (Ax a S fun e S=>Ax c S fun g S=>Ah Pg 177 [x0,e,g] S Q fun h S=>Q (.ret h) S) (bin .eql 0 x1 (aI 6) S fun i S=>Fi i (Ax a S fun k S=>Ax c S fun l S=>Ah Pg 178 [x0,k,l] S Q fun m S=>Q (.ret m) S) (bin .eql 0 x1 (aI 7) S fun n S=>Fi n ((fun S0:Aa=>Lq S0 (Ax a) fun o=>Ld S0 154 [x0,o] fun p=>Lq S0 (Ax c) fun q=>Ld S0 178 [x0,p,q] fun r=>Q (.ret r) S) S) (bin .eql 0 x1 (aI 8) S fun s S=>Fi s (Ah Pg 151 [x0,(.f (.func 179) [] [a,c])] S Q fun t S=>Q (.ret t) S) (bin .eql 0 x1 (aI 15) S fun u S=>Fi u (Ax a S fun v S=>Ax c S fun w S=>Ah Pg 175 [x0,v,w] S Q fun x S=>Q (.ret x) S) (bin .eql 0 x1 (aI 17) S fun y S=>Fi y ((fun S0:Aa=>Lq S0 (Ax c) fun z=>Ld S0 176 [x0,z] fun A=>Lq S0 (Ax c) fun B=>Lq S0 (Ax a) fun C=>Lq S0 (Ax c) fun D=>Ld S0 177 [x0,C,D] fun E=>Ld S0 175 [x0,B,E] fun F=>Ld S0 178 [x0,A,F] fun G=>Q (.ret G) S) S) (bin .eql 0 x1 (aI 16) S fun H S=>Fi H (Ax c S fun I S=>Ah Pg 154 [x0,I] S Q fun J S=>Ax a S fun K S=>Ah Pg 154 [x0,K] S Q fun L S=>Ah Pg 177 [x0,L,J] S Q fun M S=>Ah Pg 175 [x0,J,M] S Q fun N S=>Ah Pg 176 [x0,J] S Q fun O S=>Ah Pg 178 [x0,N,O] S Q fun P S=>Ah Pg 154 [x0,P] S Q fun R S=>Q (.ret R) S) ((fun S0:Aa=>Lq S0 (Ax a) fun T=>Ld S0 154 [x0,T] fun U=>Lq S0 (Ax c) fun V=>Ld S0 154 [x0,V] fun W=>Ld S0 175 [x0,U,W] fun X=>Ld S0 154 [x0,X] fun Y=>Q (.ret Y) S) S)))))))
theorem dN{x0 x1 x2 x3:AV}{S:Aa}{Q:Aq}(h:AdN x0 x1 x2 x3 S Q):Ad Pg 156 [x0,x1,x2,x3] S Q:=
 Bl (n:=87) [[]] Tryz.func156 (by kernel_rfl) (Eq.mpr (by kernel_rfl) h)
def Ad1(x0 x1 x2:AV)(S:Aa)(Q:Aq):Prop:=
 (fun S0:Aa=>Lq S0 (Ax x1) fun q1=>Lq S0 (AR 4 1 q1 x0) fun q3=>Lq S0 (Ax q3) fun q5=>Lq S0 (Ax x2) fun q7=>Lq S0 (AR 4 1 q7 x0) fun q9=>Lq S0 (Ax q9) fun q11=>Lq S0 (bin .eql 1 q5 q11) fun q13=>Q (.ret q13) S) S
theorem cP{x0 x1 x2:AV}{S:Aa}{Q:Aq}(h:Ad1 x0 x1 x2 S Q):Ad Pg 179 [x0,x1,x2] S Q:=
 Bl (n:=14) [[]] Tryz.func179 (by kernel_rfl) (Eq.mpr (by kernel_rfl) h)
def Ae9(x0 x1:AV)(S:Aa)(Q:Aq):Prop:=
 Az 161 1 x0 S fun a S=>Az 32 4 x1 S fun c S=>Lf c 0 S fun d S=>bin .eql 0 d (aI 3) S fun e S=>Fi e (Ax a S fun g S=>Ah Pg 151 [g,(.f (.func 152) [] [a,c])] S Q fun h S=>Q (.ret h) S) (bin .eql 0 d (aI 2) S fun i S=>Fi i (Ax a S fun k S=>AJ k S fun l S=>shift l 8 S fun m S=>Lf m 1 S fun n S=>Q (.ret n) S) (bin .eql 0 d (aI 1) S fun o S=>Fi o ((fun S0:Aa=>Lq S0 (Ax a) fun p=>Lq S0 (Ax a) fun q=>Lq S0 (AJ q) fun r=>Lq S0 (shift r 8) fun s=>Lq S0 (shift s 1) fun t=>Lq S0 (Ax t) fun u=>Ld S0 154 [p,u] fun v=>Q (.ret v) S) S) ((fun S0:Aa=>Lq S0 (Ax a) fun w=>Lq S0 (shift c 3) fun x=>Lq S0 (Ax x) fun y=>Lq S0 (AR 32 4 y (aI 0)) fun z=>Lq S0 (AA 4 z) fun A=>Ld S0 132 [w,A] fun B=>Lf c 3 S fun C S=>AG C S fun D S=>bin .eql 0 D (aI 1) S fun E S=>Fi E (Ax a S fun F S=>Lf c 0 S fun G S=>Ah Pg 155 [F,G,B] S Q fun H S=>Q (.ret H) S) ((fun S0:Aa=>Lq S0 (Ax a) fun I=>Lq S0 (shift c 0) fun J=>Lq S0 (Ax J) fun K=>Lq S0 (Ax a) fun L=>Lq S0 (shift c 3) fun M=>Lq S0 (Ax M) fun N=>Lq S0 (AR 32 4 N (aI 1)) fun O=>Lq S0 (AA 4 O) fun P=>Ld S0 132 [L,P] fun R=>Ld S0 156 [I,K,B,R] fun T=>Q (.ret T) S) S)) S)))
theorem eK{x0 x1:AV}{S:Aa}{Q:Aq}(h:Ae9 x0 x1 S Q):Ad Pg 132 [x0,x1] S Q:=
 Bl (n:=55) [[]] Tryz.func132 (by kernel_rfl) (Eq.mpr (by kernel_rfl) h)
def AdR(x0 x1 x2:AV)(S:Aa)(Q:Aq):Prop:=
 (fun S0:Aa=>Lq S0 (Ax x1) fun q1=>Lq S0 (AJ q1) fun q3=>Lq S0 (shift q3 0) fun q5=>Lq S0 (AA 8 q5) fun q7=>Lq S0 (shift x2 2) fun q9=>Lq S0 (Ax q9) fun q11=>Ld S0 153 [q7,x0,q11] fun q13=>Q (.ret q13) S) S
theorem dR{x0 x1 x2:AV}{S:Aa}{Q:Aq}(h:AdR x0 x1 x2 S Q):Ad Pg 152 [x0,x1,x2] S Q:=
 Bl (n:=13) [[]] Tryz.func152 (by kernel_rfl) (Eq.mpr (by kernel_rfl) h)
def m93(x0 x1 x2:AV)(S:Aa)(Q:Aq):Prop:=
 Az 29 8 x0 S fun a S=>Az 45 5 x1 S fun c S=>Az 32 4 x2 S fun d S=>Lt S (AA 8 a) fun e=>Lt S (AA 5 c) fun f=>Lt S (AA 5 c) fun g=>Lt S (shift c 1) fun h=>Lt S (Ax h) fun i=>Lc S 131 [g,i] fun k=>Lt S (CH [(0,8),(8,5),(13,1)] [aI 0,.nl,.nl,.nl,.nl,.nl,.nl,.nl,aI 0,.nl,.nl,.nl,.nl,.nl] [(0,e),(1,f),(2,k)]) fun l=>Az 163 14 l S fun m S=>AA 4 d S fun n S=>Ah Pg 132 [m,n] S Q fun o S=>Q (.ret o) S
theorem oM{x0 x1 x2:AV}{S:Aa}{Q:Aq}(h:m93 x0 x1 x2 S Q):Ad Pg 93 [x0,x1,x2] S Q:=
 Bl (n:=19) [[]] Tryz.func93 (by kernel_rfl) (Eq.mpr (by kernel_rfl) h)
def m48(x0 x1:AV)(S:Aa)(Q:Aq):Prop:=
 Az 29 8 x0 S fun c S=>Az 32 4 x1 S fun d S=>Az 45 5 (.a XN) S fun e S=>AA 8 c S fun f S=>AA 4 d S fun g S=>Ah Pg 92 [f,g] S Q fun h S=>un .not h S fun i S=>Fi i (CH Uz XN [] S fun k S=>A8 5 e k S fun l S=>AA 5 e S fun m _=>Q (.ret (.t [.nl,m,aI 1])) S) (AA 8 c S fun n S=>Ah Pg 30 [n] S Q fun o S=>A0 o 0 S fun p S=>A0 o 1 S fun q S=>Az 45 5 (.a XN) S fun r S=>A8 5 r p S fun s S=>bin .neq 0 q (aI 0) S fun u S=>Fi u (Lt S (AA 5 r) fun v=>A8 5 e v S fun w S=>AA 5 e S fun x _=>Q (.ret (.t [.nl,x,q])) S) (Lt S (AA 8 c) fun y=>Lt S (AA 5 r) fun z=>Lt S (AA 4 d) fun A=>Lc S 93 [y,z,A] fun B=>Lt S (AA 5 r) fun C=>A8 5 e C S fun D S=>AA 5 e S fun E _=>Q (.ret (.t [B,E,aI 0])) S))
theorem qG{x0 x1:AV}{S:Aa}{Q:Aq}(h:m48 x0 x1 S Q):Ad Pg 48 [x0,x1] S Q:=
 Bl (n:=28) [[]] Tryz.func48 (by kernel_rfl) (Eq.mpr (by kernel_rfl) h)
def m29(x0 x1:AV)(S:Aa)(Q:Aq):Prop:=
 Az 29 8 x0 S fun c S=>Az 32 4 x1 S fun d S=>AA 8 c S fun e S=>AA 4 d S fun f S=>Ah Pg 48 [e,f] S Q fun g S=>A0 g 0 S fun h S=>A0 g 1 S fun i S=>A0 g 2 S fun k S=>Az 45 5 (.a XN) S fun l S=>A8 5 l i S fun m S=>Q (.ret (.t [h,k])) S
theorem qX{x0 x1:AV}{S:Aa}{Q:Aq}(h:m29 x0 x1 S Q):Ad Pg 29 [x0,x1] S Q:=
 Bl (n:=18) [[]] Tryz.func29 (by kernel_rfl) (Eq.mpr (by kernel_rfl) h)
def rW:Code:=(Tryz.f151.body).getD .skip
def AbE:List ResultVar:=Tryz.f151.results.toList
def Gi(y1 y5 y19 y20 y21:AV):List AV:=[y1,y5,y19,y20,y21]
def Pp:List Nat:=[1,5,19,20,21]
def Q7:List (List Nat):=[Pp,[]]
def AdS(x0 x1:AV)(S:Aa)(Q:Aq):Prop:=
 AJ x0 S fun a S=>shift a 8 S fun c S=>Lf c 1 S fun d S=>AG d S fun e S=>Qt 4 1 [.v (.bool false)] e e S fun f S=>AJ x0 S fun g S=>shift g 8 S fun h S=>Lf h 1 S fun i S=>AG i S fun k S=>Ap Pp (vc Pg (rW.at_ [1,1,0,1,0,0]) (Q7.drop 1)) 37 (Gi x1 f i k (aI 0)) S (Ak 0 (Av (vc Pg (rW.at_ [1,1,1]) (Q7.drop 1)) (Ao Pg AbE Q)))
theorem dS{x0 x1:AV}{S:Aa}{Q:Aq}(h:AdS x0 x1 S Q):Ad Pg 151 [x0,x1] S Q:=
 Bl (n:=37) Q7 Tryz.func151 (by kernel_rfl) (Eq.mpr (by kernel_rfl) h)
def gP(y1 y5 y19 y20 y21:AV)(S:Aa)(KE0:BB)(Q:Aq):Prop:=
 bin .lss 0 y21 y20 S fun a S=>Fi a (AR 4 1 y19 y21 S fun c S=>Ax c S fun d S=>Fi d (Bh Pg y1 [y21] S (fun e S=>AR 4 1 y5 y21 S fun f S=>A8 1 f e S fun g S=>bin .add 0 y21 (aI 1) S fun h S=>KE0 37 (Gi y1 y5 y19 y20 h) S) (fun u S=>Q (.pan u) S)) (AR 4 1 y5 y21 S fun i S=>A8 1 i (.v (.bool false)) S fun k S=>bin .add 0 y21 (aI 1) S fun l S=>KE0 37 (Gi y1 y5 y19 y20 l) S)) (Q (.ret y5) S)
theorem WM{y1 y5 y19 y20:AV}{y210:AV}{S:Aa}{Q:Aq}(I:AV→Aa→Prop)(μ:AV→Aa→Nat)(h0:I y210 S)(hr:BS (fun y21=>Gi y1 y5 y19 y20 y21) 37 I μ fun y21 S KE0=>gP y1 y5 y19 y20 y21 S KE0 Q):
 Ap Pp (vc Pg (rW.at_ [1,1,0,1,0,0]) (Q7.drop 1)) 37 (Gi y1 y5 y19 y20 y210) S (Ak 0 (Av (vc Pg (rW.at_ [1,1,1]) (Q7.drop 1)) (Ao Pg AbE Q))):=DY 4 (fun _=>rfl) (fun _ _ _=>by kernel_rfl) h0 hr
def AdP(x0 x1:AV)(S:Aa)(Q:Aq):Prop:=
 Az 164 1 x1 S fun a S=>Ah Pg 151 [x0,(.f (.func 173) [] [a])] S Q fun c S=>Q (.ret c) S
theorem dP{x0 x1:AV}{S:Aa}{Q:Aq}(h:AdP x0 x1 S Q):Ad Pg 154 [x0,x1] S Q:=
 Bl (n:=8) [[]] Tryz.func154 (by kernel_rfl) (Eq.mpr (by kernel_rfl) h)
def Ad7(x0 x1:AV)(S:Aa)(Q:Aq):Prop:=
 Ax x1 S fun a S=>AR 4 1 a x0 S fun c S=>Ax c S fun d S=>un .not d S fun e S=>Q (.ret e) S
theorem cV{x0 x1:AV}{S:Aa}{Q:Aq}(h:Ad7 x0 x1 S Q):Ad Pg 173 [x0,x1] S Q:=
 Bl (n:=9) [[]] Tryz.func173 (by kernel_rfl) (Eq.mpr (by kernel_rfl) h)
def Ad3(x0 x1 x2:AV)(S:Aa)(Q:Aq):Prop:=
 Az 164 1 x1 S fun a S=>Az 164 1 x2 S fun c S=>Ah Pg 151 [x0,(.f (.func 190) [] [a,c])] S Q fun d S=>Q (.ret d) S
theorem cR{x0 x1 x2:AV}{S:Aa}{Q:Aq}(h:Ad3 x0 x1 x2 S Q):Ad Pg 177 [x0,x1,x2] S Q:=
 Bl (n:=10) [[]] Tryz.func177 (by kernel_rfl) (Eq.mpr (by kernel_rfl) h)
def AcT(x0 x1 x2:AV)(S:Aa)(Q:Aq):Prop:=
 Ax x1 S fun a S=>AR 4 1 a x0 S fun c S=>Ax c S fun d S=>Fi d (Ax x2 S fun e S=>AR 4 1 e x0 S fun f S=>Ax f S fun g S=>Q (.ret g) S) (Q (.ret (.v (.bool false))) S)
theorem cH{x0 x1 x2:AV}{S:Aa}{Q:Aq}(h:AcT x0 x1 x2 S Q):Ad Pg 190 [x0,x1,x2] S Q:=
 Bl (n:=15) [[]] Tryz.func190 (by kernel_rfl) (Eq.mpr (by kernel_rfl) h)
def Ad2(x0 x1 x2:AV)(S:Aa)(Q:Aq):Prop:=
 Az 164 1 x1 S fun a S=>Az 164 1 x2 S fun c S=>Ah Pg 151 [x0,(.f (.func 191) [] [a,c])] S Q fun d S=>Q (.ret d) S
theorem cQ{x0 x1 x2:AV}{S:Aa}{Q:Aq}(h:Ad2 x0 x1 x2 S Q):Ad Pg 178 [x0,x1,x2] S Q:=
 Bl (n:=10) [[]] Tryz.func178 (by kernel_rfl) (Eq.mpr (by kernel_rfl) h)
def AcS(x0 x1 x2:AV)(S:Aa)(Q:Aq):Prop:=
 Ax x1 S fun a S=>AR 4 1 a x0 S fun c S=>Ax c S fun d S=>Fi d (Q (.ret (.v (.bool true))) S) (Ax x2 S fun e S=>AR 4 1 e x0 S fun f S=>Ax f S fun g S=>Q (.ret g) S)
theorem cG{x0 x1 x2:AV}{S:Aa}{Q:Aq}(h:AcS x0 x1 x2 S Q):Ad Pg 191 [x0,x1,x2] S Q:=
 Bl (n:=15) [[]] Tryz.func191 (by kernel_rfl) (Eq.mpr (by kernel_rfl) h)
def Ad6(x0 x1:AV)(S:Aa)(Q:Aq):Prop:=
 (fun S0:Aa=>Lq S0 (AJ x0) fun q1=>Lq S0 (shift q1 8) fun q3=>Lq S0 (AA 5 q3) fun q5=>Lq S0 (AJ x0) fun q7=>Lq S0 (shift q7 13) fun q9=>Lq S0 (Ax q9) fun q11=>Ld S0 177 [x0,x1,q11] fun q13=>Ld S0 189 [q5,q13] fun q15=>Q (.ret q15) S) S
theorem cU{x0 x1:AV}{S:Aa}{Q:Aq}(h:Ad6 x0 x1 S Q):Ad Pg 174 [x0,x1] S Q:=
 Bl (n:=17) [[]] Tryz.func174 (by kernel_rfl) (Eq.mpr (by kernel_rfl) h)
def Ad5(x0 x1 x2:AV)(S:Aa)(Q:Aq):Prop:=
 (fun S0:Aa=>Lq S0 (AJ x0) fun q1=>Lq S0 (shift q1 8) fun q3=>Lq S0 (AA 5 q3) fun q5=>Lq S0 (AJ x0) fun q7=>Lq S0 (shift q7 13) fun q9=>Lq S0 (Ax q9) fun q11=>Ld S0 177 [x0,x2,q11] fun q13=>Ld S0 143 [q5,x1,q13] fun q15=>Q (.ret q15) S) S
theorem cT{x0 x1 x2:AV}{S:Aa}{Q:Aq}(h:Ad5 x0 x1 x2 S Q):Ad Pg 175 [x0,x1,x2] S Q:=
 Bl (n:=20) [[]] Tryz.func175 (by kernel_rfl) (Eq.mpr (by kernel_rfl) h)
def Ad4(x0 x1:AV)(S:Aa)(Q:Aq):Prop:=
 AJ x0 S fun a S=>shift a 8 S fun c S=>AA 5 c S fun d S=>Ah Pg 131 [d,x1] S Q fun e S=>Q (.ret e) S
theorem cS{x0 x1:AV}{S:Aa}{Q:Aq}(h:Ad4 x0 x1 S Q):Ad Pg 176 [x0,x1] S Q:=
 Bl (n:=11) [[]] Tryz.func176 (by kernel_rfl) (Eq.mpr (by kernel_rfl) h)
def AdO(x0 x1 x2:AV)(S:Aa)(Q:Aq):Prop:=
 bin .eql 0 x1 (aI 9) S fun a S=>Fi a (Ah Pg 174 [x0,x2] S Q fun c S=>Q (.ret c) S) (bin .eql 0 x1 (aI 10) S fun d S=>Fi d (Ah Pg 154 [x0,x2] S Q fun e S=>Ah Pg 174 [x0,e] S Q fun f S=>Ah Pg 154 [x0,f] S Q fun g S=>Q (.ret g) S) (bin .eql 0 x1 (aI 11) S fun h S=>Fi h (AJ x0 S fun i S=>shift i 8 S fun k S=>Lf k 1 S fun l S=>Ah Pg 175 [x0,l,x2] S Q fun m S=>Q (.ret m) S) (bin .eql 0 x1 (aI 12) S fun n S=>Fi n (Ah Pg 154 [x0,x2] S Q fun o S=>Ah Pg 176 [x0,o] S Q fun p S=>Ah Pg 154 [x0,p] S Q fun q S=>Q (.ret q) S) (bin .eql 0 x1 (aI 13) S fun r S=>Fi r (Ah Pg 176 [x0,x2] S Q fun s S=>Q (.ret s) S) (bin .eql 0 x1 (aI 14) S fun t S=>Fi t ((fun S0:Aa=>Lq S0 (AJ x0) fun u=>Lq S0 (shift u 8) fun v=>Lq S0 (shift v 1) fun w=>Lq S0 (Ax w) fun x=>Ld S0 154 [x0,x2] fun y=>Ld S0 175 [x0,x,y] fun z=>Ld S0 154 [x0,z] fun A=>Q (.ret A) S) S) (Ah Pg 154 [x0,x2] S Q fun B S=>Q (.ret B) S))))))
theorem dO{x0 x1 x2:AV}{S:Aa}{Q:Aq}(h:AdO x0 x1 x2 S Q):Ad Pg 155 [x0,x1,x2] S Q:=
 Bl (n:=63) [[]] Tryz.func155 (by kernel_rfl) (Eq.mpr (by kernel_rfl) h)
def rS:Code:=(Tryz.f172.body).getD .skip
def Ab9:List ResultVar:=Tryz.f172.results.toList
def J4(y1 y5 y6 y22 y23:AV):List AV:=[y1,y5,y6,y22,y23]
def Ph:List Nat:=[1,5,6,22,23]
def Q3:List (List Nat):=[Ph,[]]
def Ad8(x0 x1:AV)(S:Aa)(Q:Aq):Prop:=
 Az 29 8 x0 S fun c S=>AA 8 c S fun d S=>Ah Pg 50 [d] S Q fun e S=>Az 61 2 (.a [aI 0,.nl]) S fun f S=>A8 2 f e S fun g S=>AA 8 c S fun h S=>Ah Pg 49 [h] S Q fun i S=>un .not i S fun k S=>Fi k (Q (.ret .nl) S) (Lf f 0 S fun l S=>bin .gtr 0 l (aI 60) S fun m S=>Fi m (Q (.ret .nl) S) (Lf f 0 S fun n S=>Qt 4 1 [.v (.bool false)] n n S fun o S=>AG o S fun p S=>Ap Ph (vc Pg (rS.at_ [1,1,1,1,0,1,0,0]) (Q3.drop 1)) 38 (J4 x1 f o p (aI 0)) S (Ak 0 (Av (vc Pg (rS.at_ [1,1,1,1,1]) (Q3.drop 1)) (Ao Pg Ab9 Q)))))
theorem cW{x0 x1:AV}{S:Aa}{Q:Aq}(h:Ad8 x0 x1 S Q):Ad Pg 172 [x0,x1] S Q:=
 Bl (n:=38) Q3 Tryz.func172 (by kernel_rfl) (Eq.mpr (by kernel_rfl) h)
def gG(y1 y5 y6 y22 y23:AV)(S:Aa)(KE0:BB)(Q:Aq):Prop:=
 bin .lss 0 y23 y22 S fun a S=>Fi a (bin .shr 0 y1 y23 S fun c S=>bin .and 0 c (aI 1) S fun d S=>bin .eql 0 d (aI 1) S fun e S=>AR 4 1 y6 y23 S fun f S=>A8 1 f e S fun g S=>bin .add 0 y23 (aI 1) S fun h S=>KE0 38 (J4 y1 y5 y6 y22 h) S) (AA 2 y5 S fun i S=>Ah Pg 51 [i,y6] S Q fun k S=>Q (.ret k) S)
theorem WC{y1 y5 y6 y22:AV}{y230:AV}{S:Aa}{Q:Aq}(I:AV→Aa→Prop)(μ:AV→Aa→Nat)(h0:I y230 S)(hr:BS (fun y23=>J4 y1 y5 y6 y22 y23) 38 I μ fun y23 S KE0=>gG y1 y5 y6 y22 y23 S KE0 Q):
 Ap Ph (vc Pg (rS.at_ [1,1,1,1,0,1,0,0]) (Q3.drop 1)) 38 (J4 y1 y5 y6 y22 y230) S (Ak 0 (Av (vc Pg (rS.at_ [1,1,1,1,1]) (Q3.drop 1)) (Ao Pg Ab9 Q))):=DY 4 (fun _=>rfl) (fun _ _ _=>by kernel_rfl) h0 hr
def Ad9(x0 x1:AV)(S:Aa)(Q:Aq):Prop:=
 bin .geq 0 x1 (aI 0) S fun a S=>Fi a (bin .quo 0 x1 (aI 2) S fun c S=>AG x0 S fun d S=>bin .lss 0 c d S fun e S=>Fi e (bin .quo 0 x1 (aI 2) S fun f S=>AR 4 1 x0 f S fun g S=>Ax g S fun h S=>bin .and 0 x1 (aI 1) S fun i S=>bin .eql 0 i (aI 1) S fun k S=>bin .neq 1 h k S fun l S=>Q (.ret l) S) (Q (.ret (.v (.bool false))) S)) (Q (.ret (.v (.bool false))) S)
theorem cX{x0 x1:AV}{S:Aa}{Q:Aq}(h:Ad9 x0 x1 S Q):Ad Pg 171 [x0,x1] S Q:=
 Bl (n:=25) [[]] Tryz.func171 (by kernel_rfl) (Eq.mpr (by kernel_rfl) h)
def AdQ(x0 x1 x2:AV)(S:Aa)(Q:Aq):Prop:=
 Az 29 8 x0 S fun a S=>AA 8 a S fun c S=>Ah Pg 172 [c,x1] S Q fun d S=>Ah Pg 171 [d,x2] S Q fun e S=>Q (.ret e) S
theorem dQ{x0 x1 x2:AV}{S:Aa}{Q:Aq}(h:AdQ x0 x1 x2 S Q):Ad Pg 153 [x0,x1,x2] S Q:=
 Bl (n:=12) [[]] Tryz.func153 (by kernel_rfl) (Eq.mpr (by kernel_rfl) h)
def uI:Code:=(Tryz.f70.body).getD .skip
def r70:List ResultVar:=Tryz.f70.results.toList
def Iq(y1 y2 y5:AV):List AV:=[y1,y2,y5]
def MQ:List Nat:=[1,2,5]
def O4:List (List Nat):=[MQ,[]]
abbrev O7(x1 v1:AV)(S:Aa)(Q:Aq):Prop:=Ap MQ (vc Pg (uI.at_ [1,1,0,1,0,0]) (O4.drop 1)) 53 (Iq x1 v1 (aI 0)) S (Ak 0 (Av (vc Pg (uI.at_ [1,1,1]) (O4.drop 1)) (Ao Pg r70 Q)))
abbrev Vd(S0:Aa)(v1:AV)(S:Aa)(Q:Aq)(x1:AV):Prop:=Lq S0 (shift v1 0) fun q13=>Lq S0 (Ax q13) fun q15=>Lq S0 (bin .neq 0 q15 (aI 3)) fun q17=>Fi q17 (Lq S0 (shift v1 2) fun q20=>Lq S0 (Ax q20) fun q22=>Lq S0 (bin .neq 0 q22 (aI 0)) fun q24=>∃ q26:AV,(q24=q26∧S=S0)∧∃ q27:AV,(q26=q27∧S=S0)∧Fi q27 (Q (.ret (.v (.bool false))) S) (O7 x1 v1 S Q)) (∃ q29:AV,((.v (.bool false))=q29∧S=S0)∧∃ q30:AV,(q29=q30∧S=S0)∧Fi q30 (Q (.ret (.v (.bool false))) S) (O7 x1 v1 S Q))
abbrev Vc(S:Aa)(S0:Aa)(Q:Aq)(x1 v1:AV):Prop:=∃ q11:AV,((.v (.bool true))=q11∧S=S0)∧Fi q11 (Q (.ret (.v (.bool false))) S) (Ap MQ (vc Pg (uI.at_ [1,1,0,1,0,0]) (O4.drop 1)) 53 (Iq x1 v1 (aI 0)) S (Ak 0 (Av (vc Pg (uI.at_ [1,1,1]) (O4.drop 1)) (Ao Pg r70 Q))))
abbrev Zq(S0:Aa)(v1:AV)(S:Aa)(Q:Aq)(x1:AV):Prop:=Lq S0 (shift v1 2) fun q32=>Lq S0 (Ax q32) fun q34=>Lq S0 (bin .lss 0 q34 (aI 0)) fun q36=>∃ q38:AV,(q36=q38∧S=S0)∧Fi q38 (Vc S S0 Q x1 v1) (Vd S0 v1 S Q x1)
abbrev Zp(S0:Aa)(v1:AV)(S:Aa)(Q:Aq)(x1:AV):Prop:=Lq S0 (shift v1 1) fun q61=>Lq S0 (Ax q61) fun q63=>Lq S0 (bin .neq 0 q63 (.v (.string { data:=#[] }))) fun q65=>∃ q67:AV,(q65=q67∧S=S0)∧Fi q67 (∃ q69:AV,((.v (.bool true))=q69∧S=S0)∧Fi q69 (Vc S S0 Q x1 v1) (Vd S0 v1 S Q x1)) (Zq S0 v1 S Q x1)
abbrev Zo(S:Aa)(S0:Aa)(Q:Aq)(x1 v1:AV):Prop:=∃ q7:AV,((.v (.bool true))=q7∧S=S0)∧Fi q7 (∃ q9:AV,((.v (.bool true))=q9∧S=S0)∧Fi q9 (Vc S S0 Q x1 v1) (Vd S0 v1 S Q x1)) (Zq S0 v1 S Q x1)
def m70(x0 x1:AV)(S:Aa)(Q:Aq):Prop:=
 Az 32 4 x0 S fun a S=>(fun S0:Aa=>Lq S0 (bin .lss 0 x1 (aI 1)) fun c=>Fi c (∃ d:AV,((.v (.bool true))=d∧S=S0)∧Fi d (Zo S S0 Q x1 a) (Zp S0 a S Q x1)) (Lq S0 (shift a 0) fun e=>Lq S0 (Ax e) fun f=>Ld S0 20 [f] fun g=>Lq S0 (shift a 3) fun h=>Lq S0 (Ax h) fun i=>Lq S0 (AG i) fun k=>Lq S0 (bin .neq 0 g k) fun l=>∃ m:AV,(l=m∧S=S0)∧Fi m (Zo S S0 Q x1 a) (Zp S0 a S Q x1))) S
theorem pJ{x0 x1:AV}{S:Aa}{Q:Aq}(h:m70 x0 x1 S Q):Ad Pg 70 [x0,x1] S Q:=
 Bl (n:=53) O4 Tryz.func70 (by kernel_rfl) (Eq.mpr (by kernel_rfl) h)
def uZ(y1 y2 y5:AV)(S:Aa)(KE0:BB)(Q:Aq):Prop:=
 Lf y2 3 S fun a S=>AG a S fun c S=>bin .lss 0 y5 c S fun d S=>Fi d (Lf y2 3 S fun e S=>AR 32 4 e y5 S fun f S=>AA 4 f S fun g S=>bin .sub 0 y1 (aI 1) S fun h S=>Ah Pg 70 [g,h] S Q fun i S=>un .not i S fun k S=>Fi k (Q (.ret (.v (.bool false))) S) (bin .add 0 y5 (aI 1) S fun l S=>KE0 53 (Iq y1 y2 l) S)) (Q (.ret (.v (.bool true))) S)
theorem ZO{y1 y2:AV}{y50:AV}{S:Aa}{Q:Aq}(I:AV→Aa→Prop)(μ:AV→Aa→Nat)(h0:I y50 S)(hr:BS (fun y5=>Iq y1 y2 y5) 53 I μ fun y5 S KE0=>uZ y1 y2 y5 S KE0 Q):
 Ap MQ (vc Pg (uI.at_ [1,1,0,1,0,0]) (O4.drop 1)) 53 (Iq y1 y2 y50) S (Ak 0 (Av (vc Pg (uI.at_ [1,1,1]) (O4.drop 1)) (Ao Pg r70 Q))):=DY 2 (fun _=>rfl) (fun _ _ _=>by kernel_rfl) h0 hr
def AeB(x0 x1:AV)(S:Aa)(Q:Aq):Prop:=
 Az 32 4 x0 S fun a S=>Az 105 1 x1 S fun c S=>Lf a 0 S fun d S=>bin .neq 0 d (aI 3) S fun e S=>Fi e (Lf a 3 S fun g S=>Ah Pg 115 [g,(.f (.func 148) [] [c])] S Q fun h S=>un .not h S fun i S=>Q (.ret i) S) (Ax c S fun k S=>Lf a 2 S fun l S=>Bh Pg k [l] S (fun m S=>Fi m (Lf a 3 S fun n S=>Ah Pg 115 [n,(.f (.func 148) [] [c])] S Q fun o S=>un .not o S fun p S=>Q (.ret p) S) (Q (.ret (.v (.bool false))) S)) (fun u S=>Q (.pan u) S))
theorem eM{x0 x1:AV}{S:Aa}{Q:Aq}(h:AeB x0 x1 S Q):Ad Pg 129 [x0,x1] S Q:=
 Bl (n:=23) [[]] Tryz.func129 (by kernel_rfl) (Eq.mpr (by kernel_rfl) h)
def AdV(x0 x1:AV)(S:Aa)(Q:Aq):Prop:=
 Az 32 4 x0 S fun a S=>AA 4 a S fun c S=>Ax x1 S fun d S=>Ah Pg 129 [c,d] S Q fun e S=>un .not e S fun f S=>Q (.ret f) S
theorem dW{x0 x1:AV}{S:Aa}{Q:Aq}(h:AdV x0 x1 S Q):Ad Pg 148 [x0,x1] S Q:=
 Bl (n:=8) [[]] Tryz.func148 (by kernel_rfl) (Eq.mpr (by kernel_rfl) h)
def m92(x0 x1:AV)(S:Aa)(Q:Aq):Prop:=
 Az 29 8 x0 S fun c S=>Az 32 4 x1 S fun d S=>AA 8 c S fun e S=>Ah Pg 50 [e] S Q fun g S=>Az 61 2 (.a [aI 0,.nl]) S fun h S=>A8 2 h g S fun i S=>AA 8 c S fun k S=>Ah Pg 49 [k] S Q fun l S=>Fi l (AA 4 d S fun m S=>Ah Pg 67 [m,aI 60] S Q fun n S=>Fi n (AA 4 d S fun o S=>Ah Pg 129 [o,(.f (.func 130) [] [h])] S Q fun p S=>Q (.ret p) S) (Q (.ret (.v (.bool false))) S)) (Q (.ret (.v (.bool false))) S)
theorem oN{x0 x1:AV}{S:Aa}{Q:Aq}(h:m92 x0 x1 S Q):Ad Pg 92 [x0,x1] S Q:=
 Bl (n:=19) [[]] Tryz.func92 (by kernel_rfl) (Eq.mpr (by kernel_rfl) h)
def AeA(x0 x1:AV)(S:Aa)(Q:Aq):Prop:=
 AA 2 x1 S fun a S=>Ah Pg 96 [a,x0] S Q fun c S=>Q (.ret c) S
theorem eL{x0 x1:AV}{S:Aa}{Q:Aq}(h:AeA x0 x1 S Q):Ad Pg 130 [x0,x1] S Q:=
 Bl (n:=7) [[]] Tryz.func130 (by kernel_rfl) (Eq.mpr (by kernel_rfl) h)
def c71:Code:=(Tryz.f71.body).getD .skip
def r71:List ResultVar:=Tryz.f71.results.toList
def JW(y2 y3 y5:AV):List AV:=[y2,y3,y5]
def Pa:List Nat:=[2,3,5]
def SS:List (List Nat):=[Pa,[]]
abbrev Zn(v1 v2:AV)(S:Aa)(Q:Aq):Prop:=Ap Pa (vc Pg (c71.at_ [1,1,0,1,0,0]) (SS.drop 1)) 31 (JW v1 v2 (aI 0)) S (Ak 0 (Av (vc Pg (c71.at_ [1,1,1]) (SS.drop 1)) (Ao Pg r71 Q)))
def m71(x0 x1:AV)(S:Aa)(Q:Aq):Prop:=
 Az 61 2 x0 S fun a S=>Az 32 4 x1 S fun c S=>Lf c 0 S fun d S=>bin .eql 0 d (aI 3) S fun e S=>Fi e (AA 2 a S fun f S=>Lf c 2 S fun g S=>Ah Pg 43 [f,g] S Q fun h S=>un .not h S fun i S=>Fi i (Q (.ret (.v (.bool false))) S) (Zn a c S Q)) (Zn a c S Q)
theorem pI{x0 x1:AV}{S:Aa}{Q:Aq}(h:m71 x0 x1 S Q):Ad Pg 71 [x0,x1] S Q:=
 Bl (n:=31) SS Tryz.func71 (by kernel_rfl) (Eq.mpr (by kernel_rfl) h)
def uY(y2 y3 y5:AV)(S:Aa)(KE0:BB)(Q:Aq):Prop:=
 Lf y3 3 S fun a S=>AG a S fun c S=>bin .lss 0 y5 c S fun d S=>Fi d ((fun S0:Aa=>Lq S0 (AA 2 y2) fun e=>Lq S0 (shift y3 3) fun f=>Lq S0 (Ax f) fun g=>Lq S0 (AR 32 4 g y5) fun h=>Lq S0 (AA 4 h) fun i=>Ld S0 71 [e,i] fun k=>Lq S0 (un .not k) fun l=>Fi l (Q (.ret (.v (.bool false))) S) (bin .add 0 y5 (aI 1) S fun m S=>KE0 31 (JW y2 y3 m) S)) S) (Q (.ret (.v (.bool true))) S)
theorem ZN{y2 y3:AV}{y50:AV}{S:Aa}{Q:Aq}(I:AV→Aa→Prop)(μ:AV→Aa→Nat)(h0:I y50 S)(hr:BS (fun y5=>JW y2 y3 y5) 31 I μ fun y5 S KE0=>uY y2 y3 y5 S KE0 Q):
 Ap Pa (vc Pg (c71.at_ [1,1,0,1,0,0]) (SS.drop 1)) 31 (JW y2 y3 y50) S (Ak 0 (Av (vc Pg (c71.at_ [1,1,1]) (SS.drop 1)) (Ao Pg r71 Q))):=DY 2 (fun _=>rfl) (fun _ _ _=>by kernel_rfl) h0 hr
abbrev Zv(S0:Aa)(v1 v2:AV)(S:Aa)(Q:Aq):Prop:=Lq S0 (AA 8 v1) fun q14=>Ld S0 17 [q14] fun q16=>Lq S0 (AA 4 v2) fun q18=>Ld S0 71 [q16,q18] fun q20=>∃ q22:AV,(q20=q22∧S=S0)∧Q (.ret q22) S
def m33(x0 x1:AV)(S:Aa)(Q:Aq):Prop:=
 Az 29 8 x0 S fun a S=>Az 32 4 x1 S fun c S=>(fun S0:Aa=>Lq S0 (AA 8 a) fun d=>Ld S0 24 [d] fun e=>Fi e (Lq S0 (AA 4 c) fun f=>Ld S0 70 [f,aI 60] fun g=>∃ h:AV,(g=h∧S=S0)∧Fi h (Zv S0 a c S Q) (∃ i:AV,((.v (.bool false))=i∧S=S0)∧Q (.ret i) S)) (∃ k:AV,((.v (.bool false))=k∧S=S0)∧Fi k (Zv S0 a c S Q) (∃ l:AV,((.v (.bool false))=l∧S=S0)∧Q (.ret l) S))) S
theorem qU{x0 x1:AV}{S:Aa}{Q:Aq}(h:m33 x0 x1 S Q):Ad Pg 33 [x0,x1] S Q:=
 Bl (n:=17) [[]] Tryz.func33 (by kernel_rfl) (Eq.mpr (by kernel_rfl) h)
def AeO(x0:AV)(S:Aa)(Q:Aq):Prop:=
 bin .lss 0 x0 (aI 1) S fun a S=>Fi a (Q (.ret (.v (.int .i64 (-1)))) S) (bin .gtr 0 x0 (aI 18) S fun c S=>Fi c (Q (.ret (.v (.int .i64 (-1)))) S) (bin .leq 0 x0 (aI 3) S fun d S=>Fi d (Q (.ret (aI 0)) S) (bin .eql 0 x0 (aI 4) S fun e S=>Fi e (Q (.ret (aI 1)) S) (bin .geq 0 x0 (aI 9) S fun f S=>Fi f (bin .leq 0 x0 (aI 14) S fun g S=>Fi g (Q (.ret (aI 1)) S) (Q (.ret (aI 2)) S)) (Q (.ret (aI 2)) S)))))
theorem eZ{x0:AV}{S:Aa}{Q:Aq}(h:AeO x0 S Q):Ad Pg 114 [x0] S Q:=
 Bl (n:=24) [[]] Tryz.func114 (by kernel_rfl) (Eq.mpr (by kernel_rfl) h)
def m20(x0:AV)(S:Aa)(Q:Aq):Prop:=
 bin .lss 0 x0 (aI 1) S fun a S=>Fi a (Q (.ret (.v (.int .i64 (-1)))) S) (bin .gtr 0 x0 (aI 18) S fun c S=>Fi c (Q (.ret (.v (.int .i64 (-1)))) S) (bin .leq 0 x0 (aI 3) S fun d S=>Fi d (Q (.ret (aI 0)) S) (bin .eql 0 x0 (aI 4) S fun e S=>Fi e (Q (.ret (aI 1)) S) (bin .geq 0 x0 (aI 9) S fun f S=>Fi f (bin .leq 0 x0 (aI 14) S fun g S=>Fi g (Q (.ret (aI 1)) S) (Q (.ret (aI 2)) S)) (Q (.ret (aI 2)) S)))))
theorem rG{x0:AV}{S:Aa}{Q:Aq}(h:m20 x0 S Q):Ad Pg 20 [x0] S Q:=
 Bl (n:=24) [[]] Tryz.func20 (by kernel_rfl) (Eq.mpr (by kernel_rfl) h)
def r7:Code:=(Tryz.f145.body).getD .skip
def AbI:List ResultVar:=Tryz.f145.results.toList
def J7(y0 y1 y7 y8:AV):List AV:=[y0,y1,y7,y8]
def Pw:List Nat:=[0,1,7,8]
def Rb:List (List Nat):=[Pw,[]]
def AdY(x0 x1:AV)(S:Aa)(Q:Aq):Prop:=
 AG x0 S fun a S=>Ap Pw (vc Pg (r7.at_ [1,0,1,0,0]) (Rb.drop 1)) 19 (J7 x0 x1 a (aI 0)) S (Ak 0 (Av (vc Pg (r7.at_ [1,1]) (Rb.drop 1)) (Ao Pg AbI Q)))
theorem dZ{x0 x1:AV}{S:Aa}{Q:Aq}(h:AdY x0 x1 S Q):Ad Pg 145 [x0,x1] S Q:=
 Bl (n:=19) Rb Tryz.func145 (by kernel_rfl) (Eq.mpr (by kernel_rfl) h)
def gZ(y0 y1 y7 y8:AV)(S:Aa)(KE0:BB)(Q:Aq):Prop:=
 bin .lss 0 y8 y7 S fun a S=>Fi a (AR 32 4 y0 y8 S fun c S=>AA 4 c S fun d S=>Bh Pg y1 [d] S (fun e S=>Fi e (Q (.ret y8) S) (bin .add 0 y8 (aI 1) S fun f S=>KE0 19 (J7 y0 y1 y7 f) S)) (fun u S=>Q (.pan u) S)) (Q (.ret (.v (.int .i64 (-1)))) S)
theorem WT{y0 y1 y7:AV}{y80:AV}{S:Aa}{Q:Aq}(I:AV→Aa→Prop)(μ:AV→Aa→Nat)(h0:I y80 S)(hr:BS (fun y8=>J7 y0 y1 y7 y8) 19 I μ fun y8 S KE0=>gZ y0 y1 y7 y8 S KE0 Q):
 Ap Pw (vc Pg (r7.at_ [1,0,1,0,0]) (Rb.drop 1)) 19 (J7 y0 y1 y7 y80) S (Ak 0 (Av (vc Pg (r7.at_ [1,1]) (Rb.drop 1)) (Ao Pg AbI Q))):=DY 3 (fun _=>rfl) (fun _ _ _=>by kernel_rfl) h0 hr
def AeN(x0 x1:AV)(S:Aa)(Q:Aq):Prop:=
 Ah Pg 145 [x0,x1] S Q fun a S=>bin .geq 0 a (aI 0) S fun c S=>Q (.ret c) S
theorem eY{x0 x1:AV}{S:Aa}{Q:Aq}(h:AeN x0 x1 S Q):Ad Pg 115 [x0,x1] S Q:=
 Bl (n:=9) [[]] Tryz.func115 (by kernel_rfl) (Eq.mpr (by kernel_rfl) h)
def AeP(x0 x1:AV)(S:Aa)(Q:Aq):Prop:=
 Az 32 4 x0 S fun a S=>AA 4 a S fun c S=>Ax x1 S fun d S=>bin .sub 0 d (aI 1) S fun e S=>Ah Pg 67 [c,e] S Q fun f S=>un .not f S fun g S=>Q (.ret g) S
theorem fB{x0 x1:AV}{S:Aa}{Q:Aq}(h:AeP x0 x1 S Q):Ad Pg 113 [x0,x1] S Q:=
 Bl (n:=9) [[]] Tryz.func113 (by kernel_rfl) (Eq.mpr (by kernel_rfl) h)
abbrev LN(S0:Aa)(v1 v2:AV)(S:Aa)(Q:Aq):Prop:=Lq S0 (shift v1 3) fun q126=>Lq S0 (Ax q126) fun q128=>Ld S0 115 [q128,(.f (.func 113) [] [v2])] fun q130=>Lq S0 (un .not q130) fun q132=>∃ q134:AV,(q132=q134∧S=S0)∧Q (.ret q134) S
abbrev O8(S0:Aa)(v1:AV)(S:Aa)(v2:AV)(Q:Aq):Prop:=Lq S0 (shift v1 3) fun q110=>Lq S0 (Ax q110) fun q112=>Lq S0 (AG q112) fun q114=>Lq S0 (shift v1 0) fun q116=>Lq S0 (Ax q116) fun q118=>Ld S0 114 [q118] fun q120=>Lq S0 (bin .eql 0 q114 q120) fun q122=>∃ q124:AV,(q122=q124∧S=S0)∧Fi q124 (LN S0 v1 v2 S Q) (∃ q135:AV,((.v (.bool false))=q135∧S=S0)∧Q (.ret q135) S)
abbrev RA(S:Aa)(S0:Aa)(v1 v2:AV)(Q:Aq):Prop:=∃ q100:AV,((.v (.bool false))=q100∧S=S0)∧Fi q100 (Lq S0 (shift v1 1) fun q102=>Lq S0 (Ax q102) fun q104=>Lq S0 (bin .eql 0 q104 (.v (.string { data:=#[] }))) fun q106=>∃ q108:AV,(q106=q108∧S=S0)∧Fi q108 (O8 S0 v1 S v2 Q) (∃ q136:AV,((.v (.bool false))=q136∧S=S0)∧Fi q136 (LN S0 v1 v2 S Q) (∃ q147:AV,((.v (.bool false))=q147∧S=S0)∧Q (.ret q147) S))) (∃ q148:AV,((.v (.bool false))=q148∧S=S0)∧Fi q148 (O8 S0 v1 S v2 Q) (∃ q176:AV,((.v (.bool false))=q176∧S=S0)∧Fi q176 (LN S0 v1 v2 S Q) (∃ q187:AV,((.v (.bool false))=q187∧S=S0)∧Q (.ret q187) S)))
abbrev Vf(S0:Aa)(v1:AV)(S:Aa)(v2:AV)(Q:Aq):Prop:=Lq S0 (shift v1 3) fun q22=>Lq S0 (Ax q22) fun q24=>Lq S0 (AG q24) fun q26=>Lq S0 (shift v1 0) fun q28=>Lq S0 (Ax q28) fun q30=>Ld S0 114 [q30] fun q32=>Lq S0 (bin .eql 0 q26 q32) fun q34=>∃ q36:AV,(q34=q36∧S=S0)∧Fi q36 (Lq S0 (shift v1 3) fun q38=>Lq S0 (Ax q38) fun q40=>Ld S0 115 [q40,(.f (.func 113) [] [v2])] fun q42=>Lq S0 (un .not q42) fun q44=>∃ q46:AV,(q44=q46∧S=S0)∧Q (.ret q46) S) (∃ q47:AV,((.v (.bool false))=q47∧S=S0)∧Q (.ret q47) S)
abbrev Ve(S:Aa)(S0:Aa)(v1 v2:AV)(Q:Aq):Prop:=∃ q48:AV,((.v (.bool false))=q48∧S=S0)∧Fi q48 (Lq S0 (shift v1 3) fun q50=>Lq S0 (Ax q50) fun q52=>Ld S0 115 [q52,(.f (.func 113) [] [v2])] fun q54=>Lq S0 (un .not q54) fun q56=>∃ q58:AV,(q56=q58∧S=S0)∧Q (.ret q58) S) (∃ q59:AV,((.v (.bool false))=q59∧S=S0)∧Q (.ret q59) S)
abbrev Zs(S0:Aa)(v1:AV)(S:Aa)(v2:AV)(Q:Aq):Prop:=Lq S0 (shift v1 1) fun q14=>Lq S0 (Ax q14) fun q16=>Lq S0 (bin .eql 0 q16 (.v (.string { data:=#[] }))) fun q18=>∃ q20:AV,(q18=q20∧S=S0)∧Fi q20 (Vf S0 v1 S v2 Q) (Ve S S0 v1 v2 Q)
def m67(x0 x1:AV)(S:Aa)(Q:Aq):Prop:=
 Az 32 4 x0 S fun a S=>Az 3 1 x1 S fun c S=>Lf a 2 S fun d S=>bin .eql 0 d (aI 0) S fun e S=>Fi e ((fun S0:Aa=>Lq S0 (Ax c) fun f=>Lq S0 (bin .gtr 0 f (aI 0)) fun g=>Fi g (∃ h:AV,((.v (.bool true))=h∧S=S0)∧Fi h (Zs S0 a S c Q) (∃ i:AV,((.v (.bool false))=i∧S=S0)∧Fi i (Vf S0 a S c Q) (Ve S S0 a c Q))) (RA S S0 a c Q)) S) (Lf a 2 S fun k S=>bin .gtr 0 k (aI 0) S fun l S=>Fi l (Lf a 0 S fun m S=>bin .eql 0 m (aI 3) S fun n S=>(fun S0:Aa=>Lq S0 (Ax c) fun o=>Lq S0 (bin .gtr 0 o (aI 0)) fun p=>Fi p (∃ q:AV,(n=q∧S=S0)∧Fi q (Zs S0 a S c Q) (∃ r:AV,((.v (.bool false))=r∧S=S0)∧Fi r (Vf S0 a S c Q) (Ve S S0 a c Q))) (RA S S0 a c Q)) S) ((fun S0:Aa=>Lq S0 (Ax c) fun s=>Lq S0 (bin .gtr 0 s (aI 0)) fun t=>Fi t (RA S S0 a c Q) (RA S S0 a c Q)) S))
theorem pN{x0 x1:AV}{S:Aa}{Q:Aq}(h:m67 x0 x1 S Q):Ad Pg 67 [x0,x1] S Q:=
 Bl (n:=47) [[]] Tryz.func67 (by kernel_rfl) (Eq.mpr (by kernel_rfl) h)
end
mutual
def Fo.C6 (s:Sp) (fr:List Bool) (at_:Int→List Bool):Fo→List Bool
 |.mk k _ l ks=>if k=2 then s.valid else if k=1 then A5 s s.valid else if k=3 then at_ l else
    match Fo.SD s fr at_ ks with
    |[p]=>QY s fr k p
    |p :: q :: _=>QD s fr k p q
    |[]=>[]
def Fo.SD (s:Sp) (fr:List Bool) (at_:Int→List Bool):List Fo→List (List Bool)
 |[]=>[]
 |f :: fs=>Fo.C6 s fr at_ f :: Fo.SD s fr at_ fs
end
theorem EL{s:Sp}{fr:List Bool}{at_:Int→List Bool}{n:ByteArray}{l:Int}{ks:List Fo}:Fo.C6 s fr at_ (.mk 2 n l ks)=s.valid:=by rw[Fo.C6,if_pos rfl]
theorem D4{s:Sp}{fr:List Bool}{at_:Int→List Bool}{n:ByteArray}{l:Int}{ks:List Fo}:Fo.C6 s fr at_ (.mk 1 n l ks)=A5 s s.valid:=by rw[Fo.C6,if_neg (by decide),if_pos rfl]
theorem Dg{s:Sp}{fr:List Bool}{at_:Int→List Bool}{n:ByteArray}{l:Int}{ks:List Fo}:Fo.C6 s fr at_ (.mk 3 n l ks)=at_ l:=by rw[Fo.C6,if_neg (by decide),if_neg (by decide),if_pos rfl]
theorem CM{s:Sp}{fr:List Bool}{at_:Int→List Bool}{k:Int}{n:ByteArray}{l:Int}{f:Fo}(hk:3<k):Fo.C6 s fr at_ (.mk k n l [f])=QY s fr k (f.C6 s fr at_):=by
 rw[Fo.C6,if_neg (by omega),if_neg (by omega),if_neg (by omega),Fo.SD,Fo.SD]
theorem CL{s:Sp}{fr:List Bool}{at_:Int→List Bool}{k:Int}{n:ByteArray}{l:Int}{f g:Fo}(hk:3<k):Fo.C6 s fr at_ (.mk k n l [f,g])=QD s fr k (f.C6 s fr at_) (g.C6 s fr at_):=by
 rw[Fo.C6,if_neg (by omega),if_neg (by omega),if_neg (by omega),Fo.SD,Fo.SD,Fo.SD]
theorem DB{k:Int}{n:ByteArray}{l:Int}{ks:List Fo}{d:Int}(h:Fo.BP (.mk k n l ks) d=true):
    n=(⟨#[]⟩:ByteArray)∧0<d∧(((k=1∨k=2)∧ks = []∧l=0)∨(k=3∧ks = []∧0≤l)∨((k=4∨9≤k∧k≤14)∧l=0∧∃ f,ks = [f]∧f.BP (d - 1)=true)∨((5≤k∧k≤8∨15≤k∧k≤18)∧l=0∧∃ f g,ks = [f,g]∧f.BP (d - 1)=true∧g.BP (d - 1)=true)):=by
 rw[Fo.Cm]at h
 simp only[Ai5,decide_eq_true_eq,AiD]at h
 obtain⟨h1,h2,h3,h4,h5⟩:=h
 refine⟨h3,h1,?_⟩
 unfold Ct at h4
 split at h4
 ·omega
 split at h4
 ·have:ks = []:=List.eq_nil_of_length_eq_zero (by omega)
  by_cases hk:k=3
  ·exact .inr (.inl ⟨hk,this,by omega⟩)
  ·exact .inl ⟨by omega,this,by omega⟩
 split at h4
 ·rename_i hk
  obtain⟨f,rfl⟩:=List.length_eq_one_iff.1 (show ks.length=1 by omega)
  exact .inr (.inr (.inl ⟨hk,by omega,f,rfl,h5 f (by simp)⟩))
 ·match ks,h4,h5 with
  |[f,g],_,h5=>exact .inr (.inr (.inr ⟨by omega,by omega,f,g,rfl,h5 f (by simp),h5 g (by simp)⟩))
  |[],h4,_=>simp at h4
  |[_],h4,_=>simp at h4
  |_ :: _ :: _ :: _,h4,_=>simp at h4;omega
theorem E1{s:Sp}{fr:List Bool}{at_:Int→List Bool}(ha:∀ l,In s (at_ l)):∀(f:Fo) (d:Int),f.BP d=true→In s (f.C6 s fr at_):=by
 intro f
 induction f using Fo.ind with
 |h k n l ks ih =>
  intro d h
  obtain⟨_,_,h⟩:=DB h
  rcases h with⟨hk|hk,rfl,_⟩|⟨rfl,rfl,_⟩|⟨hk,_,f,rfl,hf⟩|⟨hk,_,f,g,rfl,hf,hg⟩
  ·subst hk;rw[D4];exact Bq _ _
  ·subst hk;rw[EL];exact M6 _
  ·rw[Dg];exact ha _
  ·rw[CM (by omega)];exact TY (ih f (by simp) _ hf) _
  ·rw[CL (by omega)];exact bD (ih f (by simp) _ hf) (ih g (by simp) _ hg) _
def CE (c:Ci) (s:Sp) (l:Int):List Bool:=FI s fun i=>DT c i l
def AY (c:Ci) (f:Fo):List Bool:=f.C6 (At c) (DW (At c) (At c).valid) (CE c (At c))
def BW (c:Ci) (f:Fo):List Bool × Int:=if DU c f=false then([],1)else if(BE c).2=0 then(AY c f,0)else([],(BE c).2)
theorem OH{a b:ByteArray}{S0:Aa}{P:AV→Prop}:(∃ q,(bin .eql 0 (.v (.string a)) (.v (.string b)) S0 fun v S=>v=q∧S=S0)∧P q)=P (aB (decide (a=b))):=H4 (op:=fun K=>bin .eql 0 (.v (.string a)) (.v (.string b)) S0 K) fun K=>Sa _ _ _
theorem Sn{a b:ByteArray}{S0:Aa}{P:AV→Prop}:(∃ q,(bin .neq 0 (.v (.string a)) (.v (.string b)) S0 fun v S=>v=q∧S=S0)∧P q)=P (aB (!decide (a=b))):=H4 (op:=fun K=>bin .neq 0 (.v (.string a)) (.v (.string b)) S0 K) fun K=>R9 _ _ _
theorem Dm{l:List Fo}{S0:Aa}{P:AV→Prop}:(∃ q,(AG (Dx l) S0 fun v S=>v=q∧S=S0)∧P q)=P (aI l.length):=H4 (op:=fun K=>AG (Dx l) S0 K) fun K=>BJ _
theorem Vo(k:Int){f:FuncId}{m:AV→Aa→(Bg→Aa→Prop)→Prop}(hm:∀(S:Aa) (Q:Bg→Aa→Prop),m (aI k) S Q→Ad Pg f [aI k] S Q)
    (hd:∀(S:Aa) (Q:Bg→Aa→Prop),m (aI k) S Q=(bin .lss 0 (aI k) (.v (.int .i64 1)) S fun v S=>GI v fun b=>gd b (Q (.ret (aI (-1))) S) (bin .gtr 0 (aI k) (.v (.int .i64 18)) S fun v S=>GI v fun b=>gd b (Q (.ret (aI (-1))) S) (bin .leq 0 (aI k) (.v (.int .i64 3)) S fun v S=>GI v fun b=>gd b (Q (.ret (aI 0)) S)
     (bin .eql 0 (aI k) (.v (.int .i64 4)) S fun v S=>GI v fun b=>gd b (Q (.ret (aI 1)) S) (bin .geq 0 (aI k) (.v (.int .i64 9)) S fun v S=>GI v fun b=>gd b (bin .leq 0 (aI k) (.v (.int .i64 14)) S fun v S=>GI v fun b=>gd b (Q (.ret (aI 1)) S) (Q (.ret (aI 2)) S)) (Q (.ret (aI 2)) S))))))):
    BH Pg f [aI k] (aI (Ct k)):=by
 intro S
 refine hm S _ ?_
 rw[hd,As,Ag]
 unfold Ct
 refine Al (fun h=>⟨by rw[if_pos (.inl (dT h))],rfl⟩) (fun h1=>?_)
 have h1:=dF h1
 rw[AP,Ag]
 refine Al (fun h=>⟨by rw[if_pos (.inr (dT h))],rfl⟩) (fun h2=>?_)
 have h2:=dF h2
 rw[if_neg (by omega),C4,Ag]
 refine Al (fun h=>⟨by rw[if_pos (dT h)],rfl⟩) (fun h3=>?_)
 have h3:=dF h3
 rw[if_neg h3,AD,Ag]
 refine Al (fun h=>⟨by rw[if_pos (.inl (dT h))],rfl⟩) (fun h4=>?_)
 have h4:=dF h4
 rw[BA,Ag]
 refine Al (fun h5=>?_) (fun h5=>?_)
 ·have h5:=dT h5
  rw[C4,Ag]
  refine Al (fun h=>⟨by rw[if_pos (.inr ⟨h5,dT h⟩)],rfl⟩) (fun h=>⟨by have:=dF h;rw[if_neg (by omega)],rfl⟩)
 ·have h5:=dF h5
  exact⟨by rw[if_neg (by omega)],rfl⟩
theorem Aa5(k:Int):BH Pg 114 [aI k] (aI (Ct k)):=Vo k (m:=AeO) (fun S Q h=>eZ h) fun S Q=>rfl
theorem jS(k:Int):BH Pg 20 [aI k] (aI (Ct k)):=Vo k (m:=m20) (fun S Q h=>rG h) fun S Q=>rfl
theorem AfU{l:List Fo}(hl:l.length≤9223372036854775807){g:Fo→Bool}{fn:FuncId}{fs cs:List AV}{S:Aa}
    (hf:∀ x,x∈l→AW Pg fn (fs ++ [x.av]++cs) S (aB (g x))):AW Pg 145 [Dx l,.f (.func fn) fs cs] S (aI (idxOf (l.findIdx? g))):=by
 refine dZ ?_
 unfold AdY
 rw[BJ]
 refine WT (fun y S'=>S'=S∧∃ i:Nat,y=aI i∧i≤l.length∧∀ k (hk:k<l.length),k<i→g l[k]=false) (fun y _=>l.length - ((Aw y).getD 0).toNat) ⟨rfl,0,rfl,Ai9 _,fun k _ h=>absurd h (AiF _)⟩ ?_
 dsimp only[BS]
 rintro _ _ ⟨rfl,i,rfl,hi,hk⟩ KE hKE
 dsimp only[gZ,Fi]
 rw[As,Ag]
 refine Al (fun h=>?_) (fun h=>?_)
 ·have hlt:i<l.length:=by simpa using h
  rw[Cn hlt,Cd (Fo.Aj _)]
  refine BL (hf _ (Ai6 hlt)) ?_
  rw[Ag]
  refine Al (fun hg=>⟨?_,rfl⟩) (fun hg=>?_)
  ·rw[JS hlt hg (fun k hk'=>hk k _ hk')];rfl
  ·rw[Ar (by omega) (by omega)]
   refine hKE _ _ ⟨rfl,i+1,rfl,hlt,fun k hk1 hk2=>?_⟩ ?_
   ·by_cases e:k=i
    ·subst e;exact hg
    ·exact hk k hk1 (by omega)
   ·simp[Aw];omega
 ·have hge:i=l.length:=by simp at h;omega
  subst hge
  rw[Gc (fun k hk'=>hk k hk' hk')]
  exact⟨rfl,rfl⟩
theorem wE{l:List Fo}(hl:l.length≤9223372036854775807){g:Fo→Bool}{fn:FuncId}{fs cs:List AV}{S:Aa}
    (hf:∀ x,x∈l→AW Pg fn (fs ++ [x.av]++cs) S (aB (g x))):AW Pg 115 [Dx l,.f (.func fn) fs cs] S (aB (l.any g)):=by
 refine eY ?_
 unfold AeN
 refine Au (AfU hl hf) ?_
 rw[BA,JP]
 exact⟨rfl,rfl⟩
theorem Sb{l:List Fo}{g:Fo→Bool}:l.any (fun x=>!g x) = !l.all g:=by
 induction l with
 |nil=>rfl
 |cons a l ih=>rw[List.any_cons,AjA,ih,Bool.not_and]
theorem Fo.ok.inv{k:Int}{n:ByteArray}{l:Int}{ks:List Fo}(h:Fo.ok (.mk k n l ks)):By k∧By l∧n.size≤9223372036854775807∧ks.length≤1000000∧∀ f∈ks,Fo.ok f:=by
 cases h with
 |mk k n l ks h1 h2 h3 h4 h=>exact⟨h1,h2,h3,h4,h⟩
theorem AfY{S:Aa}{id t:Nat}{d:Int}{f:Fo}{b:Bool}(h:S.obj id=some (.cells t [[aI d]] true))(hid:id<S.n)(h0:0<d)(hd:By d)(hr:BH Pg 67 [f.av,aI (d - 1)] (aB b)):
    AW Pg 113 [f.av,.p id 0 0] S (aB (!b)):=by
 refine Ad.Bt (fB ?_)
 unfold AeP Fo.av
 refine Ai (Fo.Aj f) fun S1 k1 n1 o1=>?_
 rw[An (n:=4) o1 (Fo.Aj f),Af ((k1.2 _ hid).trans h) rfl rfl,Bz (by have:=hd.2;omega) (by have:=hd.2;omega)]
 refine Ae hr ?_
 rw[AI]
 exact⟨rfl,k1⟩
theorem wP:∀(f:Fo),f.ok→∀ d,By d→BH Pg 67 [f.av,aI d] (aB (f.BP d)):=by
 intro f
 induction f using Fo.ind with
 |h k n l ks ih =>
  intro hok d hd S
  obtain⟨h1,h2,h3,h4,h5⟩:=hok.inv
  refine Ad.Bt (pN ?_)
  dsimp only[m67,Zs,Ve,Vf,RA,O8,LN,Fi,Lf,Lq,Ld];unfold Fo.av
  rw[Fo.AE,Fo.Cm]
  refine Ai rfl fun S1 k1 n1 o1=>?_
  refine BM rfl fun S2 k2 n2 o2=>?_
  have p2:=(Kg k2 o1)
  have kk:=k1.trans k2
  have hcont:0<d→AW Pg 115 [Dx ks,.f (.func 113) [] [.p S1.n 0 0]] S2 (aB (!ks.all fun f=>f.BP (d - 1))):=fun h0=>by
   rw[←Sb]
   exact wE (by omega) fun x hx=>AfY o2 (by omega) h0 hd (ih x hx (h5 x hx) (d - 1) ⟨by have:=hd.2;omega,by have:=hd.2;omega⟩)
  rw[Ac,Af p2 rfl rfl,AD,Ag]
  have hk:=Aa5 k
  have fin:∀(b:Bool) (E:Bg),b=(decide (0<d) && (decide (l=0∨0<l∧k=3) && (decide (n=(⟨#[]⟩:ByteArray)) && (decide ((ks.length:Int)=Ct k) && ks.all fun f=>f.BP (d - 1)))))→E = .ret (aB b)→
      E = .ret (aB (decide (0<d) && (decide (l=0∨0<l∧k=3) && (decide (n=(⟨#[]⟩:ByteArray)) && (decide ((ks.length:Int)=Ct k) && ks.all fun f=>f.BP (d - 1))))))∧Am S S2:=fun b E h1 h2=>⟨by rw[←h1];exact h2,kk⟩
  refine Al (fun hl0=>?_) (fun hl0=>?_)
  ·have hlit:decide (l=0∨0<l∧k=3)=true:=decide_eq_true (.inl (dT hl0))
   show ∃ q:AV,_
   cases e1:decide (0<d)with
   |false =>
    (repeat (first|with_reducible_and_instances (first|refine WJ ?_|refine W (A1 o2 (by with_unfolding_all rfl) (by with_unfolding_all rfl)) ?_|refine W (A1 p2 (by with_unfolding_all rfl) (by with_unfolding_all rfl)) ?_|refine W (Bd e1) ?_|refine W (Be e1) ?_|refine W (AL e1) ?_|refine W (AO e1) ?_|refine W (AN (by with_unfolding_all rfl)) ?_)))
    exact⟨by rw[AiC],kk⟩
   |true =>
    cases e2:decide (n=(⟨#[]⟩:ByteArray))with
    |false =>
     (repeat (first|with_reducible_and_instances (first|refine WJ ?_|refine W (A1 o2 (by with_unfolding_all rfl) (by with_unfolding_all rfl)) ?_|refine W (A1 p2 (by with_unfolding_all rfl) (by with_unfolding_all rfl)) ?_|refine W (OH) ?_|refine W (Bd e1) ?_|refine W (Be e1) ?_|refine W (AL e1) ?_|refine W (AO e1) ?_|refine W (Bd e2) ?_|refine W (Be e2) ?_|refine W (AL e2) ?_|refine W (AO e2) ?_|refine W (AN (by with_unfolding_all rfl)) ?_)))
     exact⟨by rw[Ai7,AiC,Aj2],kk⟩
    |true =>
     cases e3:decide ((ks.length:Int)=Ct k)with
     |false =>
      (repeat (first|with_reducible_and_instances (first|refine WJ ?_|refine W (A1 o2 (by with_unfolding_all rfl) (by with_unfolding_all rfl)) ?_|refine W (A1 p2 (by with_unfolding_all rfl) (by with_unfolding_all rfl)) ?_|refine W (OH) ?_|refine W (Dm) ?_|refine W (Bd e1) ?_|refine W (Be e1) ?_|refine W (AL e1) ?_|refine W (AO e1) ?_|refine W (Bd e2) ?_|refine W (Be e2) ?_|refine W (AL e2) ?_|refine W (AO e2) ?_|refine W (Bd e3) ?_|refine W (Be e3) ?_|refine W (AL e3) ?_|refine W (AO e3) ?_|refine W (AN (by with_unfolding_all rfl)) ?_)|refine BG (hk) rfl rfl ?_|refine CX (hk) rfl rfl ?_))
      exact⟨by rw[Ai7,Ai7,AiC,Aj2],kk⟩
     |true =>
      (repeat (first|with_reducible_and_instances (first|refine WJ ?_|refine W (A1 o2 (by with_unfolding_all rfl) (by with_unfolding_all rfl)) ?_|refine W (A1 p2 (by with_unfolding_all rfl) (by with_unfolding_all rfl)) ?_|refine W (OH) ?_|refine W (Dm) ?_|refine W (Bd e1) ?_|refine W (Be e1) ?_|refine W (AL e1) ?_|refine W (AO e1) ?_|refine W (Bd e2) ?_|refine W (Be e2) ?_|refine W (AL e2) ?_|refine W (AO e2) ?_|refine W (Bd e3) ?_|refine W (Be e3) ?_|refine W (AL e3) ?_|refine W (AO e3) ?_|refine W (AN (by with_unfolding_all rfl)) ?_)|refine FV (hcont (dT e1)) rfl rfl ?_|refine NO (hcont (dT e1)) rfl rfl ?_|refine BG (hk) rfl rfl ?_|refine CX (hk) rfl rfl ?_))
      exact⟨by rw[hlit,Ai7,Ai7,Ai7,Ai7,Bool.not_not],kk⟩
  ·have hl0':=dF hl0
   rw[Ac,Af p2 rfl rfl,AP,Ag]
   refine Al (fun hl1=>?_) (fun hl1=>?_)
   ·have hlit:decide (l=0∨0<l∧k=3)=decide (k=3):=decide_eq_decide.2 ⟨fun h=>by rcases h with h|h;exact absurd h hl0';exact h.2,fun h=>.inr ⟨dT hl1,h⟩⟩
    rw[Ac,Af p2 rfl rfl,AD,hlit]
    show ∃ q:AV,_
    cases e1:decide (0<d)with
    |false =>
     (repeat (first|with_reducible_and_instances (first|refine WJ ?_|refine W (A1 o2 (by with_unfolding_all rfl) (by with_unfolding_all rfl)) ?_|refine W (A1 p2 (by with_unfolding_all rfl) (by with_unfolding_all rfl)) ?_|refine W (Bd e1) ?_|refine W (Be e1) ?_|refine W (AL e1) ?_|refine W (AO e1) ?_|refine W (AN (by with_unfolding_all rfl)) ?_)))
     exact⟨by rw[AiC],kk⟩
    |true =>
     cases e4:decide (k=3)with
     |false =>
      (repeat (first|with_reducible_and_instances (first|refine WJ ?_|refine W (A1 o2 (by with_unfolding_all rfl) (by with_unfolding_all rfl)) ?_|refine W (A1 p2 (by with_unfolding_all rfl) (by with_unfolding_all rfl)) ?_|refine W (Bd e1) ?_|refine W (Be e1) ?_|refine W (AL e1) ?_|refine W (AO e1) ?_|refine W (AN (by with_unfolding_all rfl)) ?_)))
      exact⟨by rw[AiC,Aj2],kk⟩
     |true =>
      cases e2:decide (n=(⟨#[]⟩:ByteArray))with
      |false =>
       (repeat (first|with_reducible_and_instances (first|refine WJ ?_|refine W (A1 o2 (by with_unfolding_all rfl) (by with_unfolding_all rfl)) ?_|refine W (A1 p2 (by with_unfolding_all rfl) (by with_unfolding_all rfl)) ?_|refine W (OH) ?_|refine W (Bd e1) ?_|refine W (Be e1) ?_|refine W (AL e1) ?_|refine W (AO e1) ?_|refine W (Bd e2) ?_|refine W (Be e2) ?_|refine W (AL e2) ?_|refine W (AO e2) ?_|refine W (AN (by with_unfolding_all rfl)) ?_)))
       exact⟨by rw[Ai7,Ai7,AiC],kk⟩
      |true =>
       cases e3:decide ((ks.length:Int)=Ct k)with
       |false =>
        (repeat (first|with_reducible_and_instances (first|refine WJ ?_|refine W (A1 o2 (by with_unfolding_all rfl) (by with_unfolding_all rfl)) ?_|refine W (A1 p2 (by with_unfolding_all rfl) (by with_unfolding_all rfl)) ?_|refine W (OH) ?_|refine W (Dm) ?_|refine W (Bd e1) ?_|refine W (Be e1) ?_|refine W (AL e1) ?_|refine W (AO e1) ?_|refine W (Bd e2) ?_|refine W (Be e2) ?_|refine W (AL e2) ?_|refine W (AO e2) ?_|refine W (Bd e3) ?_|refine W (Be e3) ?_|refine W (AL e3) ?_|refine W (AO e3) ?_|refine W (AN (by with_unfolding_all rfl)) ?_)|refine BG (hk) rfl rfl ?_|refine CX (hk) rfl rfl ?_))
        exact⟨by rw[Ai7,Ai7,Ai7,AiC],kk⟩
       |true =>
        (repeat (first|with_reducible_and_instances (first|refine WJ ?_|refine W (A1 o2 (by with_unfolding_all rfl) (by with_unfolding_all rfl)) ?_|refine W (A1 p2 (by with_unfolding_all rfl) (by with_unfolding_all rfl)) ?_|refine W (OH) ?_|refine W (Dm) ?_|refine W (Bd e1) ?_|refine W (Be e1) ?_|refine W (AL e1) ?_|refine W (AO e1) ?_|refine W (Bd e2) ?_|refine W (Be e2) ?_|refine W (AL e2) ?_|refine W (AO e2) ?_|refine W (Bd e3) ?_|refine W (Be e3) ?_|refine W (AL e3) ?_|refine W (AO e3) ?_|refine W (AN (by with_unfolding_all rfl)) ?_)|refine FV (hcont (dT e1)) rfl rfl ?_|refine NO (hcont (dT e1)) rfl rfl ?_|refine BG (hk) rfl rfl ?_|refine CX (hk) rfl rfl ?_))
        exact⟨by rw[Ai7,Ai7,Ai7,Ai7,Bool.not_not],kk⟩
   ·have hlit:decide (l=0∨0<l∧k=3)=false:=decide_eq_false fun h=>by rcases h with h|h;exact absurd h hl0';exact absurd h.1 (dF hl1)
    show ∃ q:AV,_
    rw[hlit]
    cases e1:decide (0<d)with
    |false =>
     (repeat (first|with_reducible_and_instances (first|refine WJ ?_|refine W (A1 o2 (by with_unfolding_all rfl) (by with_unfolding_all rfl)) ?_|refine W (A1 p2 (by with_unfolding_all rfl) (by with_unfolding_all rfl)) ?_|refine W (Bd e1) ?_|refine W (Be e1) ?_|refine W (AL e1) ?_|refine W (AO e1) ?_|refine W (AN (by with_unfolding_all rfl)) ?_)))
     exact⟨by rw[AiC],kk⟩
    |true =>
     (repeat (first|with_reducible_and_instances (first|refine WJ ?_|refine W (A1 o2 (by with_unfolding_all rfl) (by with_unfolding_all rfl)) ?_|refine W (A1 p2 (by with_unfolding_all rfl) (by with_unfolding_all rfl)) ?_|refine W (Bd e1) ?_|refine W (Be e1) ?_|refine W (AL e1) ?_|refine W (AO e1) ?_|refine W (AN (by with_unfolding_all rfl)) ?_)))
     exact⟨by rw[AiC,Aj2],kk⟩
theorem mH(k:Int)(n:ByteArray)(l:Int)(ks:List Fo)(d:Int):Fo.BP (.mk k n l ks) d=(decide (0<d∧Ct k=ks.length∧n=(⟨#[]⟩:ByteArray)∧(l=0∨0<l∧k=3)) && ks.all fun f=>f.BP (d - 1)):=by
 rw[Fo.Cm,←Bool.and_assoc,←Bool.and_assoc,←Bool.and_assoc]
 congr 1
 rw[←Bool.decide_and,←Bool.decide_and,←Bool.decide_and]
 exact decide_eq_decide.2 ⟨fun⟨⟨⟨h1,h2⟩,h3⟩,h4⟩=>⟨h1,h4.symm,h3,h2⟩,fun⟨h1,h4,h3,h2⟩=>⟨⟨⟨h1,h2⟩,h3⟩,h4.symm⟩⟩
theorem Qn{α:Type}{l:List α}{g:α→Bool}(h:∀ j (h:j<l.length),g l[j]=true):l.all g=true:=AiD.2 fun x hx=>by
 obtain⟨j,hj,rfl⟩:=Aj0 hx
 exact h j hj
theorem Ur{α:Type}{l:List α}{g:α→Bool}{i:Nat}(hi:i<l.length)(h:g l[i]=false):l.all g=false:=Aj4.2 ⟨_,Ai6 hi,by simp[h]⟩
theorem LO{α:Type}{l:List α}{p:α→Prop}{i:Nat}{hi:i<l.length}(hok:∀ j (h:j<l.length),j<i→p l[j])(h:p l[i]):∀ j (h:j<l.length),j<i+1→p l[j]:=fun j hj hj'=>by
 rcases AiS j i with h'|h'
 ·exact hok j hj h'
 ·have:j=i:=by omega
  subst this
  exact h
theorem wO:∀(f:Fo),f.ok→∀ d,By d→BH Pg 70 [f.av,aI d] (aB (f.BP d)):=by
 intro f
 induction f using Fo.ind with
 |h k n l ks ih =>
  intro hok d hd S
  obtain⟨h1,h2,h3,h4,h5⟩:=hok.inv
  refine Ad.Bt (pJ ?_)
  dsimp only[m70,Zo,Zp,Zq,Vc,Vd,O7,Fi,Lq,Ld];unfold Fo.av
  rw[Fo.AE,mH]
  refine Ai rfl fun S1 k1 n1 o1=>?_
  have hk:=jS k
  have bad:∀{E:Bg},¬ (0<d∧Ct k=ks.length∧n=(⟨#[]⟩:ByteArray)∧(l=0∨0<l∧k=3))→E = .ret (aB false)→E = .ret (aB (decide (0<d∧Ct k=ks.length∧n=(⟨#[]⟩:ByteArray)∧(l=0∨0<l∧k=3)) && ks.all fun f=>f.BP (d - 1)))∧Am S S1:=fun h1 h2=>⟨by rw[decide_eq_false h1,AiC];exact h2,k1⟩
  have main:0<d∧Ct k=ks.length∧n=(⟨#[]⟩:ByteArray)∧(l=0∨0<l∧k=3)→Ap MQ (vc Pg (uI.at_ [1,1,0,1,0,0]) (O4.drop 1)) 53 (Iq (aI d) (.p S.n 0 0) (.v (.int .i64 0))) S1 (Ak 0 (Av (vc Pg (uI.at_ [1,1,1]) (O4.drop 1)) (Ao Pg r70 fun r S'=>r = .ret (aB (decide (0<d∧Ct k=ks.length∧n=(⟨#[]⟩:ByteArray)∧(l=0∨0<l∧k=3)) && ks.all fun f=>f.BP (d - 1)))∧Am S S'))):=fun good=>by
   rw[decide_eq_true good,Ai7]
   refine ZO (fun y S'=>S'=S1∧∃ i:Nat,y=aI i∧i≤ks.length∧∀ j (h:j<ks.length),j<i→ks[j].BP (d - 1)=true)
    (fun y _=>ks.length - ((Aw y).getD 0).toNat) ⟨rfl,0,rfl,Ai9 _,fun j _ hj=>(AiF _ hj).elim⟩ ?_
   dsimp only[BS]
   rintro _ S1 ⟨rfl,i,rfl,hi,hall⟩ KE hKE
   dsimp only[uZ,Fi,Lf]
   rw[Ac,Af o1 rfl rfl,BJ,As,Ag]
   refine Al (fun hlt=>?_) (fun hge=>?_)
   ·have hlt:i<ks.length:=by simpa using hlt
    have hm:=Ai6 hlt
    rw[Ac,Af o1 rfl rfl,Cn hlt,Cd (Fo.Aj _),Bz (by have:=hd.2;omega) (by have:=hd.2;omega)]
    refine Ae (ih _ hm (h5 _ hm) (d - 1) ⟨by have:=hd.2;omega,by have:=hd.2;omega⟩) ?_
    rw[AI,Ag]
    refine Al (fun h=>⟨by rw[Ur hlt (by simpa using h)],k1⟩) (fun h=>?_)
    rw[Ar (by omega) (by omega)]
    exact hKE _ _ ⟨rfl,i+1,rfl,hlt,LO (p:=fun f=>f.BP (d - 1)=true) (hi:=hlt) hall (by simpa using h)⟩ (by simp[Aw];omega)
   ·have hge:i=ks.length:=by simp at hge;omega
    subst hge
    exact⟨by rw[Qn fun j hj=>hall j hj hj],k1⟩
  show ∃ q:AV,_
  cases e1:decide (d<1)with
  |true =>
   (repeat (first|with_reducible_and_instances (first|refine WJ ?_|refine W (Bd e1) ?_|refine W (Be e1) ?_|refine W (AL e1) ?_|refine W (AO e1) ?_|refine W (AN (by with_unfolding_all rfl)) ?_)))
   exact bad (fun h=>by have:=dT e1;omega) rfl
  |false =>
   cases e2:decide (Ct k=ks.length)with
   |false =>
    (repeat (first|with_reducible_and_instances (first|refine WJ ?_|refine W (A1 o1 (by with_unfolding_all rfl) (by with_unfolding_all rfl)) ?_|refine W (Dm) ?_|refine W (Bd e1) ?_|refine W (Be e1) ?_|refine W (AL e1) ?_|refine W (AO e1) ?_|refine W (Bd e2) ?_|refine W (Be e2) ?_|refine W (AL e2) ?_|refine W (AO e2) ?_|refine W (AN (by with_unfolding_all rfl)) ?_)|refine BG (hk) rfl rfl ?_|refine CX (hk) rfl rfl ?_))
    exact bad (fun h=>dF e2 h.2.1) rfl
   |true =>
    cases e3:decide (n=(⟨#[]⟩:ByteArray))with
    |false =>
     (repeat (first|with_reducible_and_instances (first|refine WJ ?_|refine W (A1 o1 (by with_unfolding_all rfl) (by with_unfolding_all rfl)) ?_|refine W (Dm) ?_|refine W (Sn) ?_|refine W (Bd e1) ?_|refine W (Be e1) ?_|refine W (AL e1) ?_|refine W (AO e1) ?_|refine W (Bd e2) ?_|refine W (Be e2) ?_|refine W (AL e2) ?_|refine W (AO e2) ?_|refine W (Bd e3) ?_|refine W (Be e3) ?_|refine W (AL e3) ?_|refine W (AO e3) ?_|refine W (AN (by with_unfolding_all rfl)) ?_)|refine BG (hk) rfl rfl ?_|refine CX (hk) rfl rfl ?_))
     exact bad (fun h=>dF e3 h.2.2.1) rfl
    |true =>
     cases e4:decide (l<0)with
     |true =>
      (repeat (first|with_reducible_and_instances (first|refine WJ ?_|refine W (A1 o1 (by with_unfolding_all rfl) (by with_unfolding_all rfl)) ?_|refine W (Dm) ?_|refine W (Sn) ?_|refine W (Bd e1) ?_|refine W (Be e1) ?_|refine W (AL e1) ?_|refine W (AO e1) ?_|refine W (Bd e2) ?_|refine W (Be e2) ?_|refine W (AL e2) ?_|refine W (AO e2) ?_|refine W (Bd e3) ?_|refine W (Be e3) ?_|refine W (AL e3) ?_|refine W (AO e3) ?_|refine W (Bd e4) ?_|refine W (Be e4) ?_|refine W (AL e4) ?_|refine W (AO e4) ?_|refine W (AN (by with_unfolding_all rfl)) ?_)|refine BG (hk) rfl rfl ?_|refine CX (hk) rfl rfl ?_))
      exact bad (fun h=>by have:=dT e4;have:=h.2.2.2;omega) rfl
     |false =>
      have e1':=dF e1
      have e2':=dT e2
      have e3':=dT e3
      have e4':=dF e4
      cases e5:decide (k=3)with
      |true =>
       (repeat (first|with_reducible_and_instances (first|refine WJ ?_|refine W (A1 o1 (by with_unfolding_all rfl) (by with_unfolding_all rfl)) ?_|refine W (Dm) ?_|refine W (Sn) ?_|refine W (Bd e1) ?_|refine W (Be e1) ?_|refine W (AL e1) ?_|refine W (AO e1) ?_|refine W (Bd e2) ?_|refine W (Be e2) ?_|refine W (AL e2) ?_|refine W (AO e2) ?_|refine W (Bd e3) ?_|refine W (Be e3) ?_|refine W (AL e3) ?_|refine W (AO e3) ?_|refine W (Bd e4) ?_|refine W (Be e4) ?_|refine W (AL e4) ?_|refine W (AO e4) ?_|refine W (Bd e5) ?_|refine W (Be e5) ?_|refine W (AL e5) ?_|refine W (AO e5) ?_|refine W (AN (by with_unfolding_all rfl)) ?_)|refine BG (hk) rfl rfl ?_|refine CX (hk) rfl rfl ?_))
       have e5':=dT e5
       exact main ⟨by omega,e2',e3',by omega⟩
      |false =>
       have e5':=dF e5
       cases e6:decide (l=0)with
       |true =>
        (repeat (first|with_reducible_and_instances (first|refine WJ ?_|refine W (A1 o1 (by with_unfolding_all rfl) (by with_unfolding_all rfl)) ?_|refine W (Dm) ?_|refine W (Sn) ?_|refine W (Bd e1) ?_|refine W (Be e1) ?_|refine W (AL e1) ?_|refine W (AO e1) ?_|refine W (Bd e2) ?_|refine W (Be e2) ?_|refine W (AL e2) ?_|refine W (AO e2) ?_|refine W (Bd e3) ?_|refine W (Be e3) ?_|refine W (AL e3) ?_|refine W (AO e3) ?_|refine W (Bd e4) ?_|refine W (Be e4) ?_|refine W (AL e4) ?_|refine W (AO e4) ?_|refine W (Bd e5) ?_|refine W (Be e5) ?_|refine W (AL e5) ?_|refine W (AO e5) ?_|refine W (Bd e6) ?_|refine W (Be e6) ?_|refine W (AL e6) ?_|refine W (AO e6) ?_|refine W (AN (by with_unfolding_all rfl)) ?_)|refine BG (hk) rfl rfl ?_|refine CX (hk) rfl rfl ?_))
        exact main ⟨by omega,e2',e3',.inl (dT e6)⟩
       |false =>
        (repeat (first|with_reducible_and_instances (first|refine WJ ?_|refine W (A1 o1 (by with_unfolding_all rfl) (by with_unfolding_all rfl)) ?_|refine W (Dm) ?_|refine W (Sn) ?_|refine W (Bd e1) ?_|refine W (Be e1) ?_|refine W (AL e1) ?_|refine W (AO e1) ?_|refine W (Bd e2) ?_|refine W (Be e2) ?_|refine W (AL e2) ?_|refine W (AO e2) ?_|refine W (Bd e3) ?_|refine W (Be e3) ?_|refine W (AL e3) ?_|refine W (AO e3) ?_|refine W (Bd e4) ?_|refine W (Be e4) ?_|refine W (AL e4) ?_|refine W (AO e4) ?_|refine W (Bd e5) ?_|refine W (Be e5) ?_|refine W (AL e5) ?_|refine W (AO e5) ?_|refine W (Bd e6) ?_|refine W (Be e6) ?_|refine W (AL e6) ?_|refine W (AO e6) ?_|refine W (AN (by with_unfolding_all rfl)) ?_)|refine BG (hk) rfl rfl ?_|refine CX (hk) rfl rfl ?_))
        exact bad (fun h=>by have:=dF e6;have:=h.2.2.2;omega) rfl
def Ah2(g:Gr)(S:Aa)(fn:FuncId)(cs:List AV):Prop:=∀ T,Am S T→∀ l,By l→AW Pg fn ([] ++ [aI l]++cs) T (aB (g.lit l))
theorem AfX{g:Gr}:∀(f:Fo),f.ok→∀{S:Aa} {fn:FuncId} {cs:List AV},Ah2 g S fn cs→AW Pg 129 [f.av,.f (.func fn) [] cs] S (aB (f.DC g)):=by
 intro f
 induction f using Fo.ind with
 |h k n l ks ih =>
  intro hok S fn cs hfn
  obtain⟨h1,h2,h3,h4,h5⟩:=hok.inv
  refine Ad.Bt (eM ?_)
  dsimp only[AeB,Fi,Lf];unfold Fo.av
  rw[Fo.AE,Fo.JJ]
  refine Ai rfl fun S1 k1 n1 o1=>?_
  refine BM rfl fun S2 k2 n2 o2=>?_
  have p2:=(Kg k2 o1)
  have kk:=k1.trans k2
  have hkid:∀ x∈ks,AW Pg 148 ([] ++ [x.av] ++ [.p S1.n 0 0]) S2 (aB (!x.DC g)):=fun x hx=>by
   refine Ad.Bt (dW ?_)
   unfold AdV Fo.av
   refine Ai (Fo.Aj x) fun S3 k3 n3 o3=>?_
   rw[An (n:=4) o3 (Fo.Aj x),Af (Kg k3 o2) rfl rfl]
   refine Au (ih x hx (h5 x hx) (S:=S3) (fn:=fn) (cs:=cs) fun T hT=>hfn T ((kk.trans k3).trans hT)) ?_
   rw[AI]
   exact⟨rfl,k3⟩
  have hcont:=wE (l:=ks) (by omega) hkid
  rw[Sb]at hcont
  rw[Ac,Af p2 rfl rfl,Bi,Ag]
  refine Al (fun h=>?_) (fun h=>?_)
  ·rw[Ac,Af p2 rfl rfl]
   refine Au hcont ?_
   rw[AI,Bool.not_not]
   have:(decide (k≠3) || g.lit l)=true:=by simp at h;simp[h]
   exact⟨by rw[this,Ai7],kk⟩
  ·have hk3:decide (k≠3)=false:=by simp at h;simp[h]
   rw[hk3,Bool.false_or,Af o2 rfl rfl,Ac,Af p2 rfl rfl]
   refine BL (hfn S2 kk l h2) ?_
   rw[Ag]
   refine Al (fun hg=>?_) (fun hg=>⟨by rw[hg,AiC],kk⟩)
   rw[Ac,Af p2 rfl rfl]
   refine Au hcont ?_
   rw[AI,Bool.not_not]
   exact⟨by rw[hg,Ai7],kk⟩
theorem Ag3{c:Ci}(hc:c.ok){f:Fo}(hf:f.ok):BH Pg 92 [c.av,f.av] (aB (DU c f)):=by
 intro S
 refine Ad.Bt (oN ?_)
 dsimp only[m92,Fi];unfold DU
 refine Ai rfl fun S1 k1 n1 o1=>?_
 refine Ai (Fo.Aj f) fun S2 k2 n2 o2=>?_
 have p2:=(Kg k2 o1)
 rw[An (n:=8) p2 rfl]
 refine Ae (VN c) ?_
 refine Ai rfl fun S3 k3 n3 o3=>?_
 refine AF (cs':=c.gr.cells) o3 rfl rfl fun S4 n4 o4 f4=>?_
 have k4:=k3.st (Ai4 _) n4 f4
 have kk:=(k1.trans k2).trans k4
 rw[An (n:=8) (Kg k4 p2) rfl]
 refine Ae (jO hc) ?_
 rw[Ag]
 refine Al (fun h=>?_) (fun h=>⟨by rw[h,AiC],kk⟩)
 rw[h,Ai7,An (n:=4) (Kg k4 o2) (Fo.Aj f)]
 refine Ae (wP f hf 60 ⟨by decide,by decide⟩) ?_
 rw[Ag]
 refine Al (fun h=>?_) (fun h=>⟨by rw[h,AiC],kk⟩)
 rw[h,Ai7,An (n:=4) (Kg k4 o2) (Fo.Aj f)]
 refine Au (AfX (g:=c.gr) f hf fun T hT l hl=>?_) ⟨rfl,kk⟩
 refine eL ?_
 unfold AeA
 rw[An (n:=2) (Kg hT o4) rfl]
 exact Ae (wI hc.gr hl) ⟨rfl,rfl⟩
theorem AgA{g:Gr}(hg:g.ok):∀(f:Fo),f.ok→BH Pg 71 [g.av,f.av] (aB (f.DC g)):=by
 intro f
 induction f using Fo.ind with
 |h k n l ks ih =>
  intro hok S
  obtain⟨h1,h2,h3,h4,h5⟩:=hok.inv
  refine Ad.Bt (pI ?_)
  dsimp only[m71,Zn,Fi,Lf];unfold Fo.av
  rw[Fo.AE,Fo.JJ]
  refine Ai rfl fun S1 k1 n1 o1=>?_
  refine Ai rfl fun S2 k2 n2 o2=>?_
  have p2:=(Kg k2 o1)
  have kk:=k1.trans k2
  have main:(decide (k≠3) || g.lit l)=true→Ap Pa (vc Pg (c71.at_ [1,1,0,1,0,0]) (SS.drop 1)) 31 (JW (.p S.n 0 0) (.p S1.n 0 0) (.v (.int .i64 0))) S2 (Ak 0 (Av (vc Pg (c71.at_ [1,1,1]) (SS.drop 1)) (Ao Pg r71 fun r S'=>r = .ret (aB ((decide (k≠3) || g.lit l) && ks.all fun f=>f.DC g))∧Am S S'))):=fun good=>by
   rw[good,Ai7]
   refine ZN (fun y S'=>S'=S2∧∃ i:Nat,y=aI i∧i≤ks.length∧∀ j (h:j<ks.length),j<i→ks[j].DC g=true)
    (fun y _=>ks.length - ((Aw y).getD 0).toNat) ⟨rfl,0,rfl,Ai9 _,fun j _ hj=>(AiF _ hj).elim⟩ ?_
   dsimp only[BS]
   rintro _ S2 ⟨rfl,i,rfl,hi,hall⟩ KE hKE
   dsimp only[uY,Fi,Lf,Lq,Ld]
   rw[Ac,Af o2 rfl rfl,BJ,As,Ag]
   refine Al (fun hlt=>?_) (fun hge=>?_)
   ·have hlt:i<ks.length:=by simpa using hlt
    have hm:=Ai6 hlt
    show ∃ q:AV,_
    refine⟨_,by rw[An (n:=2) p2 rfl];exact⟨rfl,rfl⟩,?_⟩
    refine⟨_,by rw[Ac];exact⟨rfl,rfl⟩,?_⟩
    refine⟨_,by rw[Af o2 rfl rfl];exact⟨rfl,rfl⟩,?_⟩
    refine⟨_,by rw[Cn hlt];exact⟨rfl,rfl⟩,?_⟩
    refine⟨_,by rw[Cd (Fo.Aj _)];exact⟨rfl,rfl⟩,?_⟩
    refine⟨_,Ae (ih _ hm (h5 _ hm)) ⟨rfl,rfl⟩,?_⟩
    refine⟨_,by rw[AI];exact⟨rfl,rfl⟩,?_⟩
    rw[Ag]
    refine Al (fun h=>⟨by rw[Ur hlt (by simpa using h)],kk⟩) (fun h=>?_)
    rw[Ar (by omega) (by omega)]
    exact hKE _ _ ⟨rfl,i+1,rfl,hlt,LO (p:=fun f=>f.DC g=true) (hi:=hlt) hall (by simpa using h)⟩ (by simp[Aw];omega)
   ·have hge:i=ks.length:=by simp at hge;omega
    subst hge
    exact⟨by rw[Qn fun j hj=>hall j hj hj],kk⟩
  rw[Ac,Af o2 rfl rfl,AD,Ag]
  refine Al (fun h=>?_) (fun h=>main (by simp at h;simp[h]))
  have hk3:decide (k≠3)=false:=by simp at h;simp[h]
  rw[An (n:=2) p2 rfl,Ac,Af o2 rfl rfl]
  refine Ae (OC hg h2) ?_
  rw[AI,Ag]
  refine Al (fun hl=>⟨by rw[hk3,Bool.false_or,show g.lit l=false by simpa using hl,AiC],kk⟩) (fun hl=>main (by rw[hk3,Bool.false_or];simpa using hl))
theorem wR{c:Ci}(hc:c.ok){f:Fo}(hf:f.ok):BH Pg 33 [c.av,f.av] (aB (DU c f)):=by
 intro S
 refine Ad.Bt (qU ?_)
 dsimp only[m33,Zv,Fi,Lq,Ld];unfold DU
 refine Ai rfl fun S1 k1 n1 o1=>?_
 refine Ai (Fo.Aj f) fun S2 k2 n2 o2=>?_
 have p2:=(Kg k2 o1)
 have kk:=k1.trans k2
 have c1:=VP hc
 have c2:=wO f hf 60 ⟨by decide,by decide⟩
 have c3:=Nl c
 have c4:=AgA hc.gr f hf
 show ∃ q:AV,_
 cases e1:c.right with
 |false =>
  (repeat (first|with_reducible_and_instances (first|refine WJ ?_|refine W (Cx (n:=8) p2 (by with_unfolding_all rfl)) ?_|refine W (Cx (n:=4) o2 (Fo.Aj f)) ?_|refine W (Bd e1) ?_|refine W (Be e1) ?_|refine W (AL e1) ?_|refine W (AO e1) ?_|refine W (AN (by with_unfolding_all rfl)) ?_)|refine BG (c1) rfl rfl ?_|refine CX (c1) rfl rfl ?_))
  exact⟨by rw[AiC],kk⟩
 |true =>
  cases e2:f.BP 60 with
  |false =>
   (repeat (first|with_reducible_and_instances (first|refine WJ ?_|refine W (Cx (n:=8) p2 (by with_unfolding_all rfl)) ?_|refine W (Cx (n:=4) o2 (Fo.Aj f)) ?_|refine W (Bd e1) ?_|refine W (Be e1) ?_|refine W (AL e1) ?_|refine W (AO e1) ?_|refine W (Bd e2) ?_|refine W (Be e2) ?_|refine W (AL e2) ?_|refine W (AO e2) ?_|refine W (AN (by with_unfolding_all rfl)) ?_)|refine BG (c1) rfl rfl ?_|refine CX (c1) rfl rfl ?_|refine BG (c2) rfl rfl ?_|refine CX (c2) rfl rfl ?_))
   exact⟨by rw[AiC,Aj2],kk⟩
  |true =>
   (repeat (first|with_reducible_and_instances (first|refine WJ ?_|refine W (Cx (n:=8) p2 (by with_unfolding_all rfl)) ?_|refine W (Cx (n:=4) o2 (Fo.Aj f)) ?_|refine W (Bd e1) ?_|refine W (Be e1) ?_|refine W (AL e1) ?_|refine W (AO e1) ?_|refine W (Bd e2) ?_|refine W (Be e2) ?_|refine W (AL e2) ?_|refine W (AO e2) ?_|refine W (AN (by with_unfolding_all rfl)) ?_)|refine BG (c1) rfl rfl ?_|refine CX (c1) rfl rfl ?_|refine BG (c2) rfl rfl ?_|refine CX (c2) rfl rfl ?_|refine BG (c3) rfl rfl ?_|refine CX (c3) rfl rfl ?_|refine BG (c4) rfl rfl ?_|refine CX (c4) rfl rfl ?_))
   exact⟨by rw[Ai7,Ai7],kk⟩
def kY (c:Ci) (s:Int):List Bool:=if(c.right && decide (c.gr.inputs≤60))=true then DX c.gr (Cw s c.gr.inputs.toNat)else[]
def isV(v:List Bool)(l:Int):Bool:=decide (0≤l) && (decide (l.tdiv 2<v.length) && Ei v l)
theorem XK{c:Ci}(h:c.right=true)(s:Int):((DX c.gr (Cw s c.gr.inputs.toNat)).length:Int)=c.gr.vars:=by
 obtain⟨g1,g2,g3⟩:=CJ h
 have hr:=(Bp.1 h).2.2.2.2.2.2.1
 rw[Nn,if_pos]
 ·have:0≤c.gr.vars:=by unfold Gr.vars;omega
  omega
 ·rw[hr,IE]
  simp;omega
theorem mX{c:Ci}(s l:Int):isV (kY c s) l=DT c s l:=by
 unfold kY DT
 cases h:c.right with
 |false =>
  rw[AiC,if_neg (by decide),AiC]
  simp only[isV,Bool.and_eq_false_iff,decide_eq_false_iff_not]
  by_cases h0:0≤l
  ·refine .inr (.inl ?_)
   have:=Int.tdiv_nonneg h0 (show(0:Int)≤2 by decide)
   simp;omega
  ·exact .inl h0
 |true =>
  cases h6:decide (c.gr.inputs≤60)with
  |false =>
   rw[Aj2,if_neg (by decide),AiC,Aj2]
   simp only[isV,Bool.and_eq_false_iff,decide_eq_false_iff_not]
   by_cases h0:0≤l
   ·refine .inr (.inl ?_)
    have:=Int.tdiv_nonneg h0 (show(0:Int)≤2 by decide)
    simp;omega
   ·exact .inl h0
  |true =>
   rw[Ai7,if_pos rfl,Ai7,Ai7]
   obtain⟨g1,g2,g3⟩:=CJ h
   have hv:=XK h s
   have hpos:0<(DX c.gr (Cw s c.gr.inputs.toNat)).length:=by
    have:1≤c.gr.vars:=by unfold Gr.vars;omega
    omega
   simp only[isV,Gr.eval,hpos,decide_true,Ai7,hv,Gr.lit,g2,g3,Bool.and_assoc]
theorem zS{c:Ci}(hc:c.ok)(s:Int):BH Pg 172 [c.av,aI s] (aL aB (kY c s)):=by
 intro S
 refine Ad.tree (cW ?_)
 dsimp only[Ad8,Fi,Lf];unfold kY
 refine Ai rfl fun S1 k1 n1 o1=>?_
 rw[An (n:=8) o1 rfl]
 refine Ae (VN c) ?_
 refine Ai rfl fun S2 k2 n2 o2=>?_
 refine AF (cs':=c.gr.cells) o2 rfl rfl fun S3 n3 o3 f3=>?_
 have k3:=k2.st (Ai4 _) n3 f3
 have kk:=k1.trans k3
 rw[An (n:=8) (Kg k3 o1) rfl]
 refine Ae (jO hc) ?_
 rw[AI,Ag]
 refine Al (fun h=>?_) (fun h=>?_)
 ·have h:c.right=false:=by simpa using h
  refine⟨_,rfl,kk,?_⟩
  rw[h,AiC,if_neg (by decide)]
  exact .nl
 have h:c.right=true:=by simpa using h
 obtain⟨g1,g2,g3⟩:=CJ h
 rw[Ac,Af o3 rfl rfl,AP,Ag]
 refine Al (fun h6=>?_) (fun h6=>?_)
 ·have h6:=dT h6
  refine⟨_,rfl,kk,?_⟩
  rw[h,decide_eq_false (by omega:¬ c.gr.inputs≤60),if_neg (by decide)]
  exact .nl
 have h6:=dF h6
 rw[h,decide_eq_true (by omega:c.gr.inputs≤60),Bool.and_self,if_pos rfl]
 obtain⟨m,hm⟩:=AiE g2
 have hm60:m≤60:=by omega
 have hgt:c.gr.inputs.toNat=m:=by rw[hm];rfl
 rw[hgt,Ac,Af o3 rfl rfl]
 show Qt _ _ _ (aI c.gr.inputs) (aI c.gr.inputs) _ _
 rw[hm]
 refine Ll (by omega) (by omega) fun S6 k6 n6 o6=>?_
 rw[Dv]
 have hrep:List.replicate m [AV.v (.bool false)]=(List.range m).map fun k=>[aB (if k<0 then Jm s k else false)]:=by
  apply List.ext_getElem
  ·simp
  ·intro k h1 h2
   simp
 rw[hrep]at o6
 refine WC (fun y S'=>S'.n=S6.n∧(∀ x,x<S3.n→S'.obj x=S3.obj x)∧∃ j:Nat,y=aI j∧j≤m∧S'.obj S3.n=some (.cells 4 ((List.range m).map fun k=>[aB (if k<j then Jm s k else false)]) true))
  (fun y _=>m - ((Aw y).getD 0).toNat) ⟨rfl,k6.2,0,rfl,Ai9 _,o6⟩ ?_
 dsimp only[BS]
 rintro _ S7 ⟨n7,f7,j,rfl,hj,o7⟩ KE1 hKE1
 dsimp only[gG,Fi]
 rw[As,Ag]
 refine Al (fun hlt1=>?_) (fun hge1=>?_)
 ·have hlt1:j<m:=by have:((j:Int)<(m:Int)):=dT hlt1;omega
  rw[HY (by omega),Fg,AD,Cl hlt1 o7]
  refine Cc o7 (u0:=aB (if j<j then Jm s j else false)) (by rw[AiG];simp[hlt1]) rfl fun S8 n8 o8 f8=>?_
  rw[Ar (by omega) (by omega)]
  refine hKE1 _ _ ⟨by omega,fun x hx=>(f8 x (by omega)).trans (f7 x hx),j+1,rfl,hlt1,?_⟩ (by simp[Aw];omega)
  rw[o8,AiG]
  have:=H9 (n:=m) (i:=j) (f:=fun k=>[aB (if k<j then Jm s k else false)]) (f':=fun k=>[aB (if k<j+1 then Jm s k else false)]) hlt1 (fun k hk=>by
   have:(k<j+1)=(k<j):=by apply propext;omega
   simp only[this])
  rw[←this]
  simp[Jm]
 ·have hgj:j=m:=by
    have:¬ ((j:Int)<(m:Int)):=dF hge1
    omega
  subst hgj
  have o7':S7.obj S3.n=some (.cells 4 ((Cw s j).map fun b=>[aB b]) true):=by
   rw[o7,Cw,AjC]
   congr 2
   apply Aj9
   intro k hk
   simp[Aj5.1 hk]
  rw[An (n:=2) ((f7 _ (by omega)).trans o3) rfl]
  have call:=QV hc.gr (ins:=Cw s j) (S:=S7) (xi:=.s S3.n 0 j) (by simp;omega) (fun T K=>by rw[Dv,IE]) (fun T hT=>by
   have:=(hT.2 S3.n (by omega)).trans o7'
   simp only[Ja,this]
   rw[if_pos (by simp)]
   simp[AiV])
  refine Au (Dy (f:=fun b=>.bool b) call) ?_
  have k3':Am S S7:=⟨by have:=kk.1;omega,fun x hx=>(f7 x (by have:=kk.1;omega)).trans (kk.2 x hx)⟩
  exact⟨_,rfl,k3',uE (f:=fun b=>.bool b) _⟩
theorem zU(v:List Bool){l:Int}(hl:By l):BH Pg 171 [aL aB v,aI l] (aB (isV v l)):=by
 intro S
 refine cX ?_
 dsimp only[Ad9,Fi];unfold isV
 rw[BA,Ag]
 refine Al (fun h=>?_) (fun h=>⟨by rw[h,AiC],rfl⟩)
 have h0:=dT h
 rw[h,Ai7,Cg hl,Ay,As,Ag]
 refine Al (fun h1=>?_) (fun h1=>⟨by rw[h1,AiC],rfl⟩)
 have hlt:=dT h1
 rw[h1,Ai7,Cg hl]
 refine GQ (Int.tdiv_nonneg h0 (by decide)) hlt _ ?_
 rw[Fg,AD,CV]
 refine⟨?_,rfl⟩
 rw[Ei,AiX h0]
theorem zZ{c:Ci}(hc:c.ok)(s:Int){l:Int}(hl:By l):BH Pg 153 [c.av,aI s,aI l] (aB (DT c s l)):=by
 intro S
 refine Ad.Bt (dQ ?_)
 unfold AdQ
 refine Ai rfl fun S1 k1 n1 o1=>?_
 rw[An (n:=8) o1 rfl]
 refine Ae (zS hc s) ?_
 refine Ae (zU _ hl) ?_
 exact⟨by rw[mX],k1⟩
theorem tY(k p:Nat):(k:Int).fdiv ((2:Int) ^ p)=((k / 2 ^ p:Nat):Int):=by
 rw[Int.fdiv_eq_ediv_of_nonneg _ (Int.le_of_lt (Int.pow_pos (by decide))),Int.natCast_ediv,AjJ]
 rfl
theorem RR{N p q:Nat}(hq:2 ^ p*q+2 ^ p≤N)(P:Nat→Bool):
    ((List.range N).filter fun k=>P k && decide (k / 2 ^ p=q)).length=((List.range (2 ^ p)).filter fun y=>P (2 ^ p*q+y)).length:=by
 have hpos:0<2 ^ p:=Nat.two_pow_pos p
 obtain⟨r,rfl⟩:∃ r,N=2 ^ p*q+2 ^ p+r:=⟨N - (2 ^ p*q+2 ^ p),by omega⟩
 rw[List.range_add,List.range_add,AjE,AjE,AiK,AiK,List.filter_map,List.filter_map,Ai8,Ai8]
 have h1:(List.range (2 ^ p*q)).filter (fun k=>P k && decide (k / 2 ^ p=q)) = []:=by
  rw[List.filter_eq_nil_iff]
  intro k hk
  have:k<2 ^ p*q:=Aj5.1 hk
  have h:k / 2 ^ p<q:=Nat.div_lt_of_lt_mul this
  simp only[Ai5,decide_eq_true_eq,not_and]
  exact fun _=>by omega
 have h2:(List.range r).filter ((fun k=>P k && decide (k / 2 ^ p=q))∘fun x=>2 ^ p*q+2 ^ p+x) = []:=by
  rw[List.filter_eq_nil_iff]
  intro k hk
  have h:q+1≤(2 ^ p*q+2 ^ p+k) / 2 ^ p:=by
   rw[Nat.le_div_iff_mul_le hpos,Nat.add_mul,Nat.mul_comm q];omega
  simp only[Function.comp,Ai5,decide_eq_true_eq,not_and]
  exact fun _=>by omega
 have h3:(List.range (2 ^ p)).filter ((fun k=>P k && decide (k / 2 ^ p=q))∘fun x=>2 ^ p*q+x)=(List.range (2 ^ p)).filter fun y=>P (2 ^ p*q+y):=by
  apply List.filter_congr
  intro y hy
  have hy:=Aj5.1 hy
  have h:(2 ^ p*q+y) / 2 ^ p=q:=by rw[Nat.mul_add_div hpos,Nat.div_eq_of_lt hy,Nat.add_zero]
  simp only[Function.comp,h,decide_true,AjF]
 rw[h1,h2,h3]
 simp
theorem filter_lt(P:Nat→Bool)(n:Nat):((List.range n).filter P).Pairwise (· < ·):=List.pairwise_lt_range.filter P
structure AgT (c:Ci) (i:Nat) (m p q:Nat) (fl:List Nat):Prop where
 after:G9 c i=((2 ^ p*q:Nat):Int)
 next:(At c).next[i]? = some (fl.map fun y:Nat=>((2 ^ p*q+y:Nat):Int))
 fit:2 ^ p*q+2 ^ p≤2 ^ m
 none_:(AB c).getD i false=false→fl = []
 mem:∀ y∈fl,y<2 ^ p∧(AB c).getD (2 ^ p*q+y) false=true
 up:fl.Pairwise (· < ·)
 many:(AB c).getD i false=true→fl.length=((List.range (2 ^ m)).filter fun k=>(AB c).getD k false && decide (k / 2 ^ p=q)).length
theorem AcB{c:Ci}(h1:c.right=true){m:Nat}(hm:c.inputs.toNat+c.latches.length=m)(hm6:m≤10){i:Nat}(hi:i<2 ^ m):∃ q fl,AgT c i m c.inputs.toNat q fl:=by
 obtain⟨g1,g2,g3⟩:=CJ h1
 have hin:=(Bp.1 h1).1
 have hgt:c.gr.inputs.toNat=m:=by omega
 obtain⟨q,hq1,hq2⟩:=Fj c ((A2 c).getD i []) c.latches.length
 have haf:=K9 h1 (by omega) (s:=i) (by rw[hgt];exact hi)
 have hfit:2 ^ c.inputs.toNat*q+2 ^ c.inputs.toNat≤2 ^ m:=by
  have h2:2 ^ c.inputs.toNat*(q+1)≤2 ^ c.inputs.toNat*2 ^ c.latches.length:=Nat.mul_le_mul_left _ hq1
  rw[←Nat.pow_add,hm,Nat.mul_add,Nat.mul_one]at h2
  exact h2
 have hnx:(At c).next[i]? = some (if(AB c).getD i false=true then DI c ((A2 c).getD i []) (AB c)else[]):=by
  simp only[At,hgt]
  rw[AiH,List.getElem?_range hi]
  rfl
 have htn:((((2 ^ c.inputs.toNat*q:Nat):Int))).toNat=2 ^ c.inputs.toNat*q:=AiJ _
 have hN:DI c ((A2 c).getD i []) (AB c)=(((List.range (2 ^ c.inputs.toNat)).filter fun x=>(AB c).getD (2 ^ c.inputs.toNat*q+x) false)).map fun y:Nat=>((2 ^ c.inputs.toNat*q+y:Nat):Int):=by
  simp only[DI,hq2,htn,Int.natCast_add]
 refine⟨q,if(AB c).getD i false=true then(List.range (2 ^ c.inputs.toNat)).filter fun x=>(AB c).getD (2 ^ c.inputs.toNat*q+x) false else[],haf.trans hq2,?_,hfit,fun h=>by rw[h,if_neg (by decide)],fun y hy=>?_,?_,fun h=>?_⟩
 ·rw[hnx,hN]
  split<;>rfl
 ·split at hy
  ·rw[List.mem_filter,Aj5]at hy
   exact hy
  ·cases hy
 ·split
  ·exact filter_lt _ _
  ·exact List.Pairwise.nil
 ·rw[if_pos h,RR hfit fun k=>(AB c).getD k false]
set_option linter.unusedSectionVars false
theorem kK{s:Sp}{p:List Bool}(h:fits s [p]=true):X1 s p=NC s p:=by rw[X1,if_pos h]
theorem Qs{s:Sp}{p:List Bool}(h:fits s [p]=true):xF s p=DW s p:=by rw[xF,if_pos h]
theorem UC{s:Sp}{p q:List Bool}(h:fits s [p]=true)(k:fits s [q]=true):kL s p q=IZ s p q:=by rw[kL,if_pos (by rw[HL,h,k];rfl)]
structure LF (s:Sp):Prop where
 small:V0 s
 next:s.next.length=s.valid.length
 fair:∀ r∈s.fair,r.length=s.valid.length
 mem:∀ x∈s.next,∀ i∈x,0≤i∧i<s.valid.length
 ini:s.initial.length=s.valid.length
theorem LF.sm{s:Sp}(h:LF s):s.small:=⟨by have:=h.small.h1;omega,by have:=h.small.h3;omega,by have:=h.small.h5;omega,fun x hx=>by have:=h.small.h4 x hx;omega⟩
theorem LF.fit{s:Sp}(h:LF s){p:List Bool}(hp:p.length=s.valid.length):fits s [p]=true:=by
 rw[E2]
 simp only[Ai5,decide_eq_true_eq,AiD]
 exact⟨⟨⟨hp,h.next⟩,h.fair⟩,h.mem⟩
theorem OM{c:Ci}(h:c.right=true)(h10:¬ 10<c.gr.inputs):LF (At c):=by
 obtain⟨g1,g2,g3⟩:=CJ h
 have hin:=(Bp.1 h).1
 have hgt:c.gr.inputs.toNat=c.inputs.toNat+c.latches.length:=by omega
 have hvl:(At c).valid.length=2 ^ (c.inputs.toNat+c.latches.length):=by simp[At,AB,hgt]
 refine⟨SC h h10,by simp[At,AB],fun r hr=>?_,fun x hx i hi=>?_,by simp[At,AB]⟩
 ·simp only[At,AiL]at hr
  obtain⟨l,_,rfl⟩:=hr
  simp[At,AB]
 ·obtain⟨k,hk,rfl⟩:=Aj0 hx
  have hk2:k<2 ^ (c.inputs.toNat+c.latches.length):=by
   have:(At c).next.length=2 ^ (c.inputs.toNat+c.latches.length):=by simp[At,hgt]
   omega
  obtain⟨q,fl,hf⟩:=AcB h rfl (by omega) hk2
  have hn:=hf.next
  rw[Ai3 hk]at hn
  rw[Option.some.inj hn]at hi
  obtain⟨y,hy,rfl⟩:=AiL.1 hi
  have h1:=(hf.mem y hy).1
  have h2:=hf.fit
  rw[hvl]
  omega
structure Te (c:Ci) (s:Sp) (fr:List Bool) (tid:Nat) (S:Aa):Prop where
 obj:S.obj tid=some (.cells 163 [c.cells++s.cells ++ [aL aB fr]] true)
 lt:tid<S.n
theorem Te.AS{c:Ci}{s:Sp}{fr:List Bool}{tid:Nat}{S T:Aa}(h:Te c s fr tid S)(k:Am S T):Te c s fr tid T:=⟨(k.2 _ h.lt).trans h.obj,Nat.lt_of_lt_of_le h.lt k.1⟩
section
variable {c:Ci} {s:Sp} {fr:List Bool} {tid:Nat} {S:Aa}
theorem Te.Vm(h:Te c s fr tid S){K:AV→Aa→Prop}:Ax (.p tid 0 (0+8+1)) S K=K (aL aB s.valid) S:=Af h.obj rfl rfl
theorem Te.ldf(h:Te c s fr tid S){K:AV→Aa→Prop}:Ax (.p tid 0 (0+13)) S K=K (aL aB fr) S:=Af h.obj rfl rfl
theorem Te.yN(h:Te c s fr tid S){K:AV→Aa→Prop}:AA 5 (.p tid 0 (0+8)) S K=K s.av S:=JL (n:=5) (cs':=s.cells) h.obj (by simp[Ci.cells,Sp.cells]) rfl
theorem Te.ldc(h:Te c s fr tid S){K:AV→Aa→Prop}:AA 8 (.p tid 0 (0+0)) S K=K c.av S:=JL (n:=8) (cs':=c.cells) h.obj (by simp[Ci.cells,Sp.cells]) rfl
theorem Ny{id i j:Nat}{S0:Aa}{P:AV→Prop}:(∃ q,(AJ (.p id i j) S0 fun v S=>v=q∧S=S0)∧P q)=P (.p id i j):=H4 (op:=fun K=>AJ (.p id i j) S0 K) fun K=>AH _ _ _ _ _
theorem VH(h:Te c s fr tid S)(hv:s.valid.length≤1000000){F:FuncId}{fs cs:List AV}{g:Nat→Bool}(hf:∀ T,Am S T→∀ i,i<s.valid.length→AW Pg F (fs ++ [aI i]++cs) T (aB (g i))):
    AW Pg 151 [.p tid 0 0,.f (.func F) fs cs] S (aL aB (FI s g)):=by
 refine Dy (f:=fun b=>.bool b) (e:=4) (dS ?_)
 dsimp only[AdS,Lf]
 rw[AH,Ac,Ac,h.Vm,Ay]
 refine Ll (by omega) (by omega) fun S1 k1 n1 o1=>?_
 have h1:=h.AS k1
 rw[AH,Ac,Ac,h1.Vm,Ay]
 let e:Nat→Bool:=fun k=>bit s.valid k && g k
 have hrep:List.replicate s.valid.length [AV.v (.bool false)]=(List.range s.valid.length).map fun k=>[aB (if k<0 then e k else false)]:=by
  apply List.ext_getElem
  ·simp
  ·intro k h1 h2
   simp
 rw[hrep]at o1
 refine WM (fun w S'=>Am S S'∧S.n<S'.n∧∃ i:Nat,w=aI i∧i≤s.valid.length∧S'.obj S.n=some (.cells 4 ((List.range s.valid.length).map fun k=>[aB (if k<i then e k else false)]) true))
  (fun w _=>s.valid.length - ((Aw w).getD 0).toNat) ⟨k1,by omega,0,rfl,Ai9 _,o1⟩ ?_
 dsimp only[BS]
 rintro _ S2 ⟨k2,n2,i,rfl,hi,o2⟩ KE hKE
 dsimp only[gP,Fi]
 rw[As,Ag]
 refine Al (fun hlt=>?_) (fun hge=>?_)
 ·have hlt:i<s.valid.length:=by simpa using hlt
  have step:∀ b,b=e i→AR 4 1 (.s S.n 0 s.valid.length) (aI i) S2 fun v S3=>A8 1 v (aB b) S3 fun _ S3=>bin .add 0 (aI i) (.v (.int .i64 1)) S3 fun v S3=>KE 37 (Gi (.f (.func F) fs cs) (.s S.n 0 s.valid.length) (aL aB s.valid) (aI s.valid.length) v) S3:=fun b hb=>by
   rw[Cl hlt o2]
   refine Cc o2 (u0:=aB (if i<i then e i else false)) (by rw[AiG];simp[hlt]) rfl fun S3 n3 o3 f3=>?_
   rw[Ar (by omega) (by omega)]
   refine hKE _ _ ⟨k2.st (Ai4 _) n3 f3,by omega,i+1,rfl,hlt,?_⟩ (by simp[Aw];omega)
   rw[o3,AiG]
   have:=H9 (n:=s.valid.length) (i:=i) (f:=fun k=>[aB (if k<i then e k else false)]) (f':=fun k=>[aB (if k<i+1 then e k else false)]) hlt (fun k hk=>by
    have:(k<i+1)=(k<i):=by apply propext;omega
    simp only[this])
   rw[←this,hb]
   simp
  rw[AM hlt,A3,Ag]
  refine Al (fun hb=>?_) (fun hb=>?_)
  ·refine BL (hf S2 k2 i hlt) ?_
   exact step _ (by show g i=(bit s.valid i && g i);rw[Bc hlt,hb,Ai7])
  ·exact step _ (by show false=(bit s.valid i && g i);rw[Bc hlt,hb,AiC])
 ·have hge:i=s.valid.length:=by simp at hge;omega
  subst hge
  refine⟨_,rfl,k2,.inr ⟨S.n,by simp[FI,CI],Ai4 _,n2,?_⟩⟩
  rw[o2,FI,CI,AjC]
  congr 2
  apply Aj9
  intro k hk
  simp[Aj5.1 hk,e]
theorem yO{l:List Bool}{e i:Nat}(h:i<l.length){S:Aa}{K:AV→Aa→Prop}:AR e 1 (aL aB l) (aI i) S K=K (.q [aB (bit l i)] 0) S:=by
 rw[AM h,Bc h]
theorem jC(h:Te c s fr tid S)(hv:s.valid.length≤1000000){p:List Bool}(hp:p.length=s.valid.length):AW Pg 154 [.p tid 0 0,aL aB p] S (aL aB (A5 s p)):=by
 refine Ad.B6 (f:=fun b=>.bool b) (dP ?_)
 unfold AdP
 refine BM rfl fun S1 k1 n1 o1=>?_
 refine Au (VH (h.AS k1) hv (g:=fun i=>!bit p i) fun T hT i hi=>?_) ⟨rfl,k1⟩
 refine cV ?_
 unfold Ad7
 rw[Af (Kg hT o1) rfl rfl,yO (by omega),A3,AI]
 exact⟨rfl,rfl⟩
theorem uB{F M:FuncId}{m:AV→AV→AV→Aa→(Bg→Aa→Prop)→Prop}(h:Te c s fr tid S)(hv:s.valid.length≤1000000){p q:List Bool}(hp:p.length=s.valid.length)(hq:q.length=s.valid.length){g:Bool→Bool→Bool}
    (hm:∀(T:Aa) (Q:Bg→Aa→Prop) (i:Nat) (a b ta tb:Nat),i<s.valid.length→T.obj a=some (.cells ta [[aL aB p]] true)→T.obj b=some (.cells tb [[aL aB q]] true)→Q (.ret (aB (g (bit p i) (bit q i)))) T→Ad Pg F [aI i,.p a 0 0,.p b 0 0] T Q) {Q:Bg→Aa→Prop} (hQ:∀ S',Am S S'→Q (.ret (aL aB (FI s fun i=>g (bit p i) (bit q i)))) S'):
    Az 164 1 (aL aB p) S fun v1 S=>Az 164 1 (aL aB q) S fun v2 S=>Ah Pg 151 [.p tid 0 0,.f (.func F) [] [v1,v2]] S Q fun v S=>Q (.ret v) S:=by
 refine BM rfl fun S1 k1 n1 o1=>?_
 refine BM rfl fun S2 k2 n2 o2=>?_
 refine Au (VH (h.AS (k1.trans k2)) hv (g:=fun i=>g (bit p i) (bit q i)) fun T hT i hi=>?_) (hQ _ (k1.trans k2))
 exact hm T _ i _ _ _ _ hi (Kg hT (Kg k2 o1)) (Kg hT o2) ⟨rfl,rfl⟩
theorem iZ(h:Te c s fr tid S)(hv:s.valid.length≤1000000){p q:List Bool}(hp:p.length=s.valid.length)(hq:q.length=s.valid.length)(hin:In s p):AW Pg 177 [.p tid 0 0,aL aB p,aL aB q] S (aL aB (Bm p q)):=by
 refine Ad.B6 (f:=fun b=>.bool b) (cR ?_)
 unfold Ad3
 refine uB (M:=0) (m:=fun _ _ _ _ _=>True) h hv hp hq (g:=fun a b=>a && b) (fun T Q i a b ta tb hi ha hb hQ=>?_) fun S' k=>⟨by rw[bS hin],k⟩
 refine cH ?_
 dsimp only[AcT,Fi]
 rw[Af ha rfl rfl,yO (by omega),A3,Ag]
 refine Al (fun h=>?_) (fun h=>?_)
 ·rw[Af hb rfl rfl,yO (by omega),A3]
  rw[h,Ai7]at hQ;exact hQ
 ·rw[h,AiC]at hQ;exact hQ
theorem AfP(h:Te c s fr tid S)(hv:s.valid.length≤1000000){p q:List Bool}(hp:In s p)(hq:In s q):AW Pg 178 [.p tid 0 0,aL aB p,aL aB q] S (aL aB (EJ p q)):=by
 refine Ad.B6 (f:=fun b=>.bool b) (cQ ?_)
 have h1:=hp.len
 have h2:=hq.len
 unfold Ad2
 refine uB (M:=0) (m:=fun _ _ _ _ _=>True) h hv hp.len hq.len (g:=fun a b=>a || b) (fun T Q i a b ta tb hi ha hb hQ=>?_) fun S' k=>⟨by rw[nW hp hq],k⟩
 refine cG ?_
 dsimp only[AcS,Fi]
 rw[Af ha rfl rfl,yO (by omega),A3,Ag]
 refine Al (fun h=>?_) (fun h=>?_)
 ·rw[h,Bool.true_or]at hQ;exact hQ
 ·rw[Af hb rfl rfl,yO (by omega),A3]
  rw[h,Bool.false_or]at hQ;exact hQ
variable (hs:LF s) (hfr:In s fr)
include hs hfr
theorem AfQ(h:Te c s fr tid S){p:List Bool}(hp:In s p):AW Pg 174 [.p tid 0 0,aL aB p] S (aL aB (DH s fr p)):=by
 refine Ad.B6 (f:=fun b=>.bool b) (cU ?_)
 dsimp only[Ad6,Lq,Ld]
 have hv:=hs.small.h1
 have c1:=iZ h (by omega) hp.len hfr.len hp
 have c2:=zO hs.sm (Bm p fr)
 rw[kK (hs.fit (by simp[hp.len]))]at c2
 have l1:∀(P:AV→Prop),(∃ q,(AA 5 (.p tid 0 (0+8)) S fun v S'=>v=q∧S'=S)∧P q)=P s.av:=fun P=>H4 (op:=fun K=>AA 5 (.p tid 0 (0+8)) S K) fun K=>h.yN
 have l2:∀(P:AV→Prop),(∃ q,(Ax (.p tid 0 (0+13)) S fun v S'=>v=q∧S'=S)∧P q)=P (aL aB fr):=fun P=>H4 (op:=fun K=>Ax (.p tid 0 (0+13)) S K) fun K=>h.ldf
 show ∃ q:AV,_
 (repeat (first|with_reducible_and_instances (first|refine WJ ?_|refine W (Ny) ?_|refine W (l1 _) ?_|refine W (l2 _) ?_|refine W (AN (by with_unfolding_all rfl)) ?_)|refine FV (c1) rfl rfl ?_|refine NO (c1) rfl rfl ?_|refine BG (c2) rfl rfl ?_|refine CX (c2) rfl rfl ?_))
 exact⟨rfl,Am.refl _⟩
theorem jB(h:Te c s fr tid S){p q:List Bool}(hp:p.length=s.valid.length)(hq:In s q):AW Pg 175 [.p tid 0 0,aL aB p,aL aB q] S (aL aB (Bn s fr p q)):=by
 refine Ad.B6 (f:=fun b=>.bool b) (cT ?_)
 dsimp only[Ad5,Lq,Ld]
 have hv:=hs.small.h1
 have c1:=iZ h (by omega) hq.len hfr.len hq
 have c2:=jX hs.sm p (Bm q fr)
 rw[UC (hs.fit hp) (hs.fit (by simp[hq.len]))]at c2
 have l1:∀(P:AV→Prop),(∃ q,(AA 5 (.p tid 0 (0+8)) S fun v S'=>v=q∧S'=S)∧P q)=P s.av:=fun P=>H4 (op:=fun K=>AA 5 (.p tid 0 (0+8)) S K) fun K=>h.yN
 have l2:∀(P:AV→Prop),(∃ q,(Ax (.p tid 0 (0+13)) S fun v S'=>v=q∧S'=S)∧P q)=P (aL aB fr):=fun P=>H4 (op:=fun K=>Ax (.p tid 0 (0+13)) S K) fun K=>h.ldf
 show ∃ q:AV,_
 (repeat (first|with_reducible_and_instances (first|refine WJ ?_|refine W (Ny) ?_|refine W (l1 _) ?_|refine W (l2 _) ?_|refine W (AN (by with_unfolding_all rfl)) ?_)|refine FV (c1) rfl rfl ?_|refine NO (c1) rfl rfl ?_|refine BG (c2) rfl rfl ?_|refine CX (c2) rfl rfl ?_))
 exact⟨rfl,Am.refl _⟩
omit hfr in
theorem jA(h:Te c s fr tid S){p:List Bool}(hp:p.length=s.valid.length):AW Pg 176 [.p tid 0 0,aL aB p] S (aL aB (DW s p)):=by
 refine Ad.B6 (f:=fun b=>.bool b) (cS ?_)
 unfold Ad4
 have c2:=j0 hs.sm p
 rw[Qs (hs.fit hp)]at c2
 rw[AH,Ac,h.yN]
 exact Ae c2 ⟨rfl,Am.refl _⟩
theorem AfT(h:Te c s fr tid S)(k:Int){p:List Bool}(hp:In s p):AW Pg 155 [.p tid 0 0,aI k,aL aB p] S (aL aB (QY s fr k p)):=by
 refine Ad.B6 (f:=fun b=>.bool b) (dO ?_)
 have hv:s.valid.length≤1000000:=by have:=hs.small.h1;omega
 have nn:=fun{q:List Bool} (hq:In s q)=>jC h hv hq.len
 have nx:=fun{q:List Bool} (hq:In s q)=>AfQ hs hfr h hq
 have ix:∀{q:List Bool},In s q→In s (DH s fr q):=fun hq=>In.ex (by simp[hq.len])
 have iu:∀{p q:List Bool},In s q→In s (Bn s fr p q):=fun hq=>In.eu (by simp[hq.len])
 have ig:∀{q:List Bool},In s q→In s (DW s q):=fun hq=>In.eg hq.len
 have k0:=Am.refl S
 dsimp only[AdO,Fi,Lf,Lq,Ld];unfold QY
 rw[AD,Ag]
 refine Al (fun e=>?_) (fun e=>?_)
 ·rw[if_pos (dT e)]
  exact Au (nx hp) ⟨rfl,k0⟩
 rw[if_neg (dF e),AD,Ag]
 refine Al (fun e=>?_) (fun e=>?_)
 ·rw[if_pos (dT e)]
  exact Au (nn hp) (Au (nx (Bq _ _)) (Au (nn (ix (Bq _ _))) ⟨rfl,k0⟩))
 rw[if_neg (dF e),AD,Ag]
 refine Al (fun e=>?_) (fun e=>?_)
 ·rw[if_pos (dT e),AH,Ac,Ac,h.Vm]
  exact Au (jB hs hfr h rfl hp) ⟨rfl,k0⟩
 rw[if_neg (dF e),AD,Ag]
 refine Al (fun e=>?_) (fun e=>?_)
 ·rw[if_pos (dT e)]
  exact Au (nn hp) (Au (jA hs h (Bq s p).len) (Au (nn (ig (Bq _ _))) ⟨rfl,k0⟩))
 rw[if_neg (dF e),AD,Ag]
 refine Al (fun e=>?_) (fun e=>?_)
 ·rw[if_pos (dT e)]
  exact Au (jA hs h hp.len) ⟨rfl,k0⟩
 rw[if_neg (dF e),AD,Ag]
 refine Al (fun e=>?_) (fun e=>?_)
 ·rw[if_pos (dT e)]
  have c1:=nn hp
  have c2:=jB hs hfr h (p:=s.valid) rfl (Bq s p)
  have c3:=nn (iu (p:=s.valid) (Bq s p))
  have l1:∀(P:AV→Prop),(∃ q,(Ax (.p tid 0 (0+8+1)) S fun v S'=>v=q∧S'=S)∧P q)=P (aL aB s.valid):=fun P=>H4 (op:=fun K=>Ax (.p tid 0 (0+8+1)) S K) fun K=>h.Vm
  show ∃ q:AV,_
  (repeat (first|with_reducible_and_instances (first|refine WJ ?_|refine W (Ny) ?_|refine W (l1 _) ?_|refine W (AN (by with_unfolding_all rfl)) ?_)|refine FV (c1) rfl rfl ?_|refine NO (c1) rfl rfl ?_|refine FV (c2) rfl rfl ?_|refine NO (c2) rfl rfl ?_|refine FV (c3) rfl rfl ?_|refine NO (c3) rfl rfl ?_))
  exact⟨rfl,k0⟩
 rw[if_neg (dF e)]
 exact Au (nn hp) ⟨rfl,k0⟩
end
section
variable {c:Ci} {s:Sp} {fr:List Bool} {tid:Nat} {S:Aa}
variable (hs:LF s) (hfr:In s fr)
include hs hfr
theorem AfS(h:Te c s fr tid S)(k:Int){p q:List Bool}(hp:In s p)(hq:In s q):AW Pg 156 [.p tid 0 0,aI k,aL aB p,aL aB q] S (aL aB (QD s fr k p q)):=by
 refine Ad.B6 (f:=fun b=>.bool b) (dN ?_)
 have hv:s.valid.length≤1000000:=by have:=hs.small.h1;omega
 dsimp only[AdN,Fi,Lq,Ld];unfold QD
 refine BM rfl fun S1 k1 n1 o1=>?_
 refine BM rfl fun S2 k2 n2 o2=>?_
 have p2:=(Kg k2 o1)
 have kk:=k1.trans k2
 have h:=h.AS kk
 have nn:=fun{q:List Bool} (hq:In s q)=>jC h hv hq.len
 have an:=fun{p q:List Bool} (hp:In s p) (hq:In s q)=>iZ h hv hp.len hq.len hp
 have oo:=fun{p q:List Bool} (hp:In s p) (hq:In s q)=>AfP h hv hp hq
 have uu:=fun{p q:List Bool} (hp:In s p) (hq:In s q)=>jB hs hfr h hp.len hq
 have al:=fun{p:List Bool} (hp:In s p)=>jA hs h hp.len
 have iu:∀{p q:List Bool},In s q→In s (Bn s fr p q):=fun hq=>In.eu (by simp[hq.len])
 have ig:∀{q:List Bool},In s q→In s (DW s q):=fun hq=>In.eg hq.len
 have ino:=fun q=>Bq s q
 rw[AD,Ag]
 refine Al (fun e=>?_) (fun e=>?_)
 ·rw[if_pos (dT e),Af p2 rfl rfl,Af o2 rfl rfl]
  exact Au (an hp hq) ⟨rfl,kk⟩
 rw[if_neg (dF e),AD,Ag]
 refine Al (fun e=>?_) (fun e=>?_)
 ·rw[if_pos (dT e),Af p2 rfl rfl,Af o2 rfl rfl]
  exact Au (oo hp hq) ⟨rfl,kk⟩
 rw[if_neg (dF e),AD,Ag]
 refine Al (fun e=>?_) (fun e=>?_)
 ·rw[if_pos (dT e)]
  have c1:=nn hp
  have c2:=oo (ino p) hq
  show ∃ q:AV,_
  (repeat (first|with_reducible_and_instances (first|refine WJ ?_|refine W (A1 p2 (by with_unfolding_all rfl) (by with_unfolding_all rfl)) ?_|refine W (A1 o2 (by with_unfolding_all rfl) (by with_unfolding_all rfl)) ?_|refine W (AN (by with_unfolding_all rfl)) ?_)|refine FV (c1) rfl rfl ?_|refine NO (c1) rfl rfl ?_|refine FV (c2) rfl rfl ?_|refine NO (c2) rfl rfl ?_))
  exact⟨rfl,kk⟩
 rw[if_neg (dF e),AD,Ag]
 refine Al (fun e=>?_) (fun e=>?_)
 ·rw[if_pos (dT e)]
  have l1:=hp.len
  have l2:=hq.len
  refine Au (VH h hv (g:=fun i=>bit p i == bit q i) fun T hT i hi=>?_) ⟨by rw[Xv hp hq],kk⟩
  refine cP ?_
  dsimp only[Ad1,Lq]
  show ∃ q:AV,_
  refine⟨_,by rw[Af (Kg hT p2) rfl rfl];exact⟨rfl,rfl⟩,?_⟩
  refine⟨_,by rw[yO (by omega)];exact⟨rfl,rfl⟩,?_⟩
  refine⟨_,by rw[A3];exact⟨rfl,rfl⟩,?_⟩
  refine⟨_,by rw[Af (Kg hT o2) rfl rfl];exact⟨rfl,rfl⟩,?_⟩
  refine⟨_,by rw[yO (by omega)];exact⟨rfl,rfl⟩,?_⟩
  refine⟨_,by rw[A3];exact⟨rfl,rfl⟩,?_⟩
  refine⟨_,by rw[HZ];exact⟨rfl,rfl⟩,?_⟩
  exact⟨rfl,rfl⟩
 rw[if_neg (dF e),AD,Ag]
 refine Al (fun e=>?_) (fun e=>?_)
 ·rw[if_pos (dT e),Af p2 rfl rfl,Af o2 rfl rfl]
  exact Au (uu hp hq) ⟨rfl,kk⟩
 have e15:=dF e
 rw[if_neg e15,AD,Ag]
 refine Al (fun e=>?_) (fun e=>?_)
 ·have e:=dT e
  rw[if_neg (by omega),if_pos e]
  have c1:=al hq
  have c2:=an hp hq
  have c3:=uu hq (hp.and (q:=q))
  have c4:=oo (ig hq) (iu (p:=q) (hp.and (q:=q)))
  show ∃ q:AV,_
  (repeat (first|with_reducible_and_instances (first|refine WJ ?_|refine W (A1 p2 (by with_unfolding_all rfl) (by with_unfolding_all rfl)) ?_|refine W (A1 o2 (by with_unfolding_all rfl) (by with_unfolding_all rfl)) ?_|refine W (AN (by with_unfolding_all rfl)) ?_)|refine FV (c1) rfl rfl ?_|refine NO (c1) rfl rfl ?_|refine FV (c2) rfl rfl ?_|refine NO (c2) rfl rfl ?_|refine FV (c3) rfl rfl ?_|refine NO (c3) rfl rfl ?_|refine FV (c4) rfl rfl ?_|refine NO (c4) rfl rfl ?_))
  exact⟨rfl,kk⟩
 have e17:=dF e
 rw[AD,Ag]
 refine Al (fun e=>?_) (fun e=>?_)
 ·rw[if_pos (dT e),Af o2 rfl rfl]
  refine Au (nn hq) ?_
  rw[Af p2 rfl rfl]
  refine Au (nn hp) (Au (an (ino p) (ino q)) ?_)
  rw[not_or hp hq]
  refine Au (uu (ino q) (ino _)) (Au (al (ino q)) (Au (oo (iu (ino _)) (ig (ino q))) (Au (nn ((iu (ino _)).or (ig (ino q)))) ⟨rfl,kk⟩)))
 rw[if_neg (dF e),if_neg e17]
 have c1:=nn hp
 have c2:=nn hq
 have c3:=uu (ino p) (ino q)
 have c4:=nn (iu (p:=A5 s p) (ino q))
 show ∃ q:AV,_
 (repeat (first|with_reducible_and_instances (first|refine WJ ?_|refine W (A1 p2 (by with_unfolding_all rfl) (by with_unfolding_all rfl)) ?_|refine W (A1 o2 (by with_unfolding_all rfl) (by with_unfolding_all rfl)) ?_|refine W (AN (by with_unfolding_all rfl)) ?_)|refine FV (c1) rfl rfl ?_|refine NO (c1) rfl rfl ?_|refine FV (c2) rfl rfl ?_|refine NO (c2) rfl rfl ?_|refine FV (c3) rfl rfl ?_|refine NO (c3) rfl rfl ?_|refine FV (c4) rfl rfl ?_|refine NO (c4) rfl rfl ?_))
 exact⟨rfl,kk⟩
theorem mZ(l:Int):In s (CE c s l):=Ea _ _
theorem AfW(hc:c.ok):∀(f:Fo),f.ok→∀(d:Int),f.BP d=true→∀{S:Aa},Te c s fr tid S→AW Pg 132 [.p tid 0 0,f.av] S (aL aB (f.C6 s fr (CE c s))):=by
 intro f
 induction f using Fo.ind with
 |h k n l ks ih =>
  intro hok d hd S h
  obtain⟨h1,h2,h3,h4,h5⟩:=hok.inv
  have hv:s.valid.length≤1000000:=by have:=hs.small.h1;omega
  refine Ad.B6 (f:=fun b=>.bool b) (eK ?_)
  dsimp only[Ae9,Fi,Lf,Lq,Ld];unfold Fo.av
  rw[Fo.AE]
  refine BM rfl fun S1 k1 n1 o1=>?_
  refine Ai rfl fun S2 k2 n2 o2=>?_
  have p2:=(Kg k2 o1)
  have kk:=k1.trans k2
  have h:=h.AS kk
  have ia:∀ l,In s (CE c s l):=fun l=>mZ hs hfr l
  obtain⟨_,_,hcase⟩:=DB hd
  rw[Ac,Af o2 rfl rfl,AD,Ag]
  rcases hcase with⟨hk,rfl,_⟩|⟨rfl,rfl,_⟩|⟨hk,_,f,rfl,hf⟩|⟨hk,_,f,g,rfl,hf,hg⟩
  ·rw[decide_eq_false (by omega:¬ k=3),AZ,AD,Ag]
   rcases hk with rfl|rfl
   ·rw[decide_eq_false (by decide:¬ (1:Int)=2),AZ,AD,Ag,decide_eq_true rfl,A9,D4]
    have c1:=jC h hv (p:=s.valid) rfl
    have l1:∀(P:AV→Prop),(∃ q,(Ax (.p tid 0 (0+8+1)) S2 fun v S'=>v=q∧S'=S2)∧P q)=P (aL aB s.valid):=fun P=>H4 (op:=fun K=>Ax (.p tid 0 (0+8+1)) S2 K) fun K=>h.Vm
    show ∃ q:AV,_
    (repeat (first|with_reducible_and_instances (first|refine WJ ?_|refine W (A1 p2 (by with_unfolding_all rfl) (by with_unfolding_all rfl)) ?_|refine W (Ny) ?_|refine W (l1 _) ?_|refine W (AN (by with_unfolding_all rfl)) ?_)|refine FV (c1) rfl rfl ?_|refine NO (c1) rfl rfl ?_))
    exact⟨rfl,kk⟩
   ·rw[decide_eq_true rfl,A9,EL,Af p2 rfl rfl,AH,Ac,Ac,h.Vm]
    exact⟨rfl,kk⟩
  ·rw[decide_eq_true rfl,A9,Dg,Af p2 rfl rfl]
   refine Au (VH h hv (g:=fun i=>DT c i l) fun T hT i hi=>?_) ⟨rfl,kk⟩
   refine dR ?_
   dsimp only[AdR,Lq,Ld]
   show ∃ q:AV,_
   refine⟨_,by rw[Af (Kg hT p2) rfl rfl];exact⟨rfl,rfl⟩,?_⟩
   refine⟨_,by rw[AH];exact⟨rfl,rfl⟩,?_⟩
   refine⟨_,by rw[Ac];exact⟨rfl,rfl⟩,?_⟩
   refine⟨_,by rw[(h.AS hT).ldc];exact⟨rfl,rfl⟩,?_⟩
   refine⟨_,by rw[Ac];exact⟨rfl,rfl⟩,?_⟩
   refine⟨_,by rw[Af (Kg hT o2) rfl rfl];exact⟨rfl,rfl⟩,?_⟩
   refine⟨_,Ae (zZ hc i h2) ⟨rfl,rfl⟩,?_⟩
   exact⟨rfl,rfl⟩
  ·rw[decide_eq_false (by omega:¬ k=3),AZ,AD,Ag,decide_eq_false (by omega:¬ k=2),AZ,AD,Ag,decide_eq_false (by omega:¬ k=1),AZ,CM (by omega)]
   have c1:=ih f (by simp) (h5 f (by simp)) _ hf h
   have c2:=AfT hs hfr h k (E1 (fr:=fr) ia f _ hf)
   show ∃ q:AV,_
   refine⟨_,by rw[Af p2 rfl rfl];exact⟨rfl,rfl⟩,?_⟩
   refine⟨_,by rw[Ac];exact⟨rfl,rfl⟩,?_⟩
   refine⟨_,by rw[Af o2 rfl rfl];exact⟨rfl,rfl⟩,?_⟩
   refine⟨_,by rw[show ∀ K:AV→Aa→Prop,AR 32 4 (Dx [f]) (.v (.int .i64 0)) S2 K=K (.q f.row 0) S2 from fun K=>Cn (l:=[f]) (i:=0) (by simp)];exact⟨rfl,rfl⟩,?_⟩
   refine⟨_,by rw[Cd (Fo.Aj f)];exact⟨rfl,rfl⟩,?_⟩
   refine Kx c1 ?_
   rw[Ac,Af o2 rfl rfl,BJ,AD,Ag]
   rw[show decide ((([f]:List Fo).length:Int)=1)=true from rfl,A9,Af p2 rfl rfl,Ac,Af o2 rfl rfl]
   exact Au c2 ⟨rfl,kk⟩
  ·rw[decide_eq_false (by omega:¬ k=3),AZ,AD,Ag,decide_eq_false (by omega:¬ k=2),AZ,AD,Ag,decide_eq_false (by omega:¬ k=1),AZ,CL (by omega)]
   have c1:=ih f (by simp) (h5 f (by simp)) _ hf h
   have c1':=ih g (by simp) (h5 g (by simp)) _ hg h
   have c2:=AfS hs hfr h k (E1 (fr:=fr) ia f _ hf) (E1 (fr:=fr) ia g _ hg)
   show ∃ q:AV,_
   refine⟨_,by rw[Af p2 rfl rfl];exact⟨rfl,rfl⟩,?_⟩
   refine⟨_,by rw[Ac];exact⟨rfl,rfl⟩,?_⟩
   refine⟨_,by rw[Af o2 rfl rfl];exact⟨rfl,rfl⟩,?_⟩
   refine⟨_,by rw[show ∀ K:AV→Aa→Prop,AR 32 4 (Dx [f,g]) (.v (.int .i64 0)) S2 K=K (.q f.row 0) S2 from fun K=>Cn (l:=[f,g]) (i:=0) (by simp)];exact⟨rfl,rfl⟩,?_⟩
   refine⟨_,by rw[Cd (Fo.Aj f)];exact⟨rfl,rfl⟩,?_⟩
   refine Kx c1 ?_
   rw[Ac,Af o2 rfl rfl,BJ,AD,Ag]
   rw[show decide ((([f,g]:List Fo).length:Int)=1)=false from rfl,AZ]
   show ∃ q:AV,_
   refine⟨_,by rw[Af p2 rfl rfl];exact⟨rfl,rfl⟩,?_⟩
   refine⟨_,by rw[Ac];exact⟨rfl,rfl⟩,?_⟩
   refine⟨_,by rw[Af o2 rfl rfl];exact⟨rfl,rfl⟩,?_⟩
   refine⟨_,by rw[Af p2 rfl rfl];exact⟨rfl,rfl⟩,?_⟩
   refine⟨_,by rw[Ac];exact⟨rfl,rfl⟩,?_⟩
   refine⟨_,by rw[Af o2 rfl rfl];exact⟨rfl,rfl⟩,?_⟩
   refine⟨_,by rw[show ∀ K:AV→Aa→Prop,AR 32 4 (Dx [f,g]) (.v (.int .i64 1)) S2 K=K (.q g.row 0) S2 from fun K=>Cn (l:=[f,g]) (i:=1) (by simp)];exact⟨rfl,rfl⟩,?_⟩
   refine⟨_,by rw[Cd (Fo.Aj g)];exact⟨rfl,rfl⟩,?_⟩
   refine Kx c1' ?_
   refine Kx c2 ?_
   exact⟨rfl,kk⟩
end
theorem wK{c:Ci}(hc:c.ok){s:Sp}(hs:LF s){f:Fo}(hf:f.ok){d:Int}(hd:f.BP d=true):BH Pg 93 [c.av,s.av,f.av] (aL aB (f.C6 s (DW s s.valid) (CE c s))):=by
 intro S
 refine Ad.B6 (f:=fun b=>.bool b) (oM ?_)
 dsimp only[m93,Lt,Lc]
 refine Ai rfl fun S1 k1 n1 o1=>?_
 refine Ai rfl fun S2 k2 n2 o2=>?_
 refine Ai (Fo.Aj f) fun S3 k3 n3 o3=>?_
 have p3:=(Kg k3 (Kg k2 o1))
 have q3:=(Kg k3 o2)
 have kk:=(k1.trans k2).trans k3
 have cg:=j0 hs.sm s.valid
 rw[Qs (hs.fit rfl)]at cg
 refine Em (n:=8) p3 (by omega) rfl ?_
 refine Em (n:=5) q3 (by omega) rfl ?_
 refine Em (n:=5) q3 (by omega) rfl ?_
 refine B3 ?_
 refine Hk q3 (by omega) rfl rfl ?_
 refine EG cg ?_
 refine⟨_,fun T hT=>by rw[A7 (cs:=c.cells++s.cells ++ [aL aB (DW s s.valid)]) rfl];exact⟨rfl,rfl⟩,?_⟩
 refine Ai rfl fun S4 k4 n4 o4=>?_
 rw[An (n:=4) (Kg k4 o3) (Fo.Aj f)]
 refine Au (AfW hs (In.eg rfl) hc f hf d hd (S:=S4) ⟨o4,by omega⟩) ⟨rfl,kk.trans k4⟩
def IQ (c:Ci) (f:Fo):List Bool × Sp × Int:=if DU c f=false then([],sp0,1)else if(BE c).2=0 then(AY c f,At c,0)else([],sp0,(BE c).2)
theorem SB{c:Ci}(h:¬ (BE c).2=0):(BE c).1=sp0:=by
 unfold BE at h ⊢
 split
 ·rfl
 ·rename_i h1
  rw[if_neg h1]at h
  split
  ·rfl
  ·rename_i h2
   rw[if_neg h2]at h
   exact absurd rfl h
theorem H8{c:Ci}(h:(BE c).2=0):BE c=(At c,0)∧c.right=true∧¬ 10<c.gr.inputs:=by
 unfold BE at h ⊢
 split
 ·rename_i h1;rw[if_pos h1]at h;cases h
 ·rename_i h1
  rw[if_neg h1]at h
  split
  ·rename_i h2;rw[if_pos h2]at h;cases h
  ·rename_i h2
   exact⟨rfl,by simpa using h1,h2⟩
theorem uD{S:Aa}{n:Nat}(s:Sp):Cv S n s.av s.av:=Tree.a (fun u hu=>by
 simp only[Sp.cells,AiO,AiT,or_false]at hu
 rcases hu with rfl|rfl|rfl|rfl|rfl
 ·exact Tree.v _
 ·exact Et _
 ·exact Et _
 ·exact Tree.aL fun _ _=>Df _
 ·exact Tree.aL fun _ _=>Et _) S n
theorem AgB{c:Ci}(hc:c.ok){f:Fo}(hf:f.ok):BH Pg 48 [c.av,f.av] (.t [aL aB (IQ c f).1,(IQ c f).2.1.av,aI (IQ c f).2.2]):=by
 intro S
 refine Ad.tree (qG ?_)
 dsimp only[m48,Fi,Lt,Lc]
 refine Ai rfl fun S1 k1 n1 o1=>?_
 refine Ai (Fo.Aj f) fun S2 k2 n2 o2=>?_
 refine Ai rfl fun S3 k3 n3 o3=>?_
 have p3:=(Kg k3 (Kg k2 o1))
 have q3:=(Kg k3 o2)
 have kk:=(k1.trans k2).trans k3
 rw[An (n:=8) p3 rfl,An (n:=4) q3 (Fo.Aj f)]
 refine Ae (Ag3 hc hf) ?_
 rw[AI,Ag]
 unfold IQ
 refine Al (fun hm=>?_) (fun hm=>?_)
 ·rw[A7 (cs:=[aI 0,.nl,.nl,.nl,.nl]) rfl]
  refine AF o3 rfl rfl fun S4 n4 o4 f4=>?_
  rw[An (n:=5) o4 rfl]
  refine⟨_,rfl,kk.st (by omega) n4 f4,?_⟩
  rw[if_pos (by simpa using hm)]
  exact VA .nl Nd (.v _)
 have hm:DU c f=true:=by simpa using hm
 rw[if_neg (by rw[hm];decide),An (n:=8) p3 rfl]
 refine Ae (wS hc) ?_
 rw[B2,BV]
 refine Ai rfl fun S4 k4 n4 o4=>?_
 refine AF (cs':=(BE c).1.cells) o4 rfl rfl fun S5 n5 o5 f5=>?_
 have k5:=k4.st (Ai4 _) n5 f5
 have s5:=(Kg k5 o3)
 rw[Bi,Ag]
 refine Al (fun he=>?_) (fun he=>?_)
 ·have he:¬ (BE c).2=0:=by simpa using he
  rw[if_neg he]
  refine Em (n:=5) o5 (by omega) rfl ?_
  refine AF s5 rfl rfl fun S6 n6 o6 f6=>?_
  rw[An (n:=5) o6 rfl]
  refine⟨_,rfl,(kk.trans k5).st (by omega) n6 f6,?_⟩
  rw[SB he]
  exact VA .nl (uD _) (.v _)
 ·have he:(BE c).2=0:=by simpa using he
  obtain⟨e1,e2,e3⟩:=H8 he
  rw[if_pos he]
  rw[e1]at o5
  have hd:f.BP 60=true:=by
   unfold DU at hm
   simp only[Ai5]at hm
   exact hm.2.1
  refine Em (n:=8) (Kg k5 p3) (by omega) rfl ?_
  refine Em (n:=5) o5 (by omega) rfl ?_
  refine Em (n:=4) (Kg k5 q3) (by omega) (Fo.Aj f) ?_
  refine EG (wK hc (OM e2 e3) hf hd) ?_
  refine Em (n:=5) o5 (by omega) rfl ?_
  refine AF (cs':=(At c).cells) s5 rfl rfl fun S6 n6 o6 f6=>?_
  rw[An (n:=5) o6 rfl]
  exact⟨_,rfl,(kk.trans k5).st (by omega) n6 f6,VA (Et _ _ _) (uD _) (.v _)⟩
theorem I9(c:Ci)(f:Fo):BW c f=((IQ c f).1,(IQ c f).2.2):=by
 unfold BW IQ
 split
 ·rfl
 ·split<;>rfl
theorem AgJ{c:Ci}(hc:c.ok){f:Fo}(hf:f.ok):BH Pg 29 [c.av,f.av] (.t [aL aB (BW c f).1,aI (BW c f).2]):=by
 intro S
 rw[I9]
 refine Ad.tree (qX ?_)
 unfold m29
 refine Ai rfl fun S1 k1 n1 o1=>?_
 refine Ai (Fo.Aj f) fun S2 k2 n2 o2=>?_
 rw[An (n:=8) (Kg k2 o1) rfl,An (n:=4) o2 (Fo.Aj f)]
 refine Ae (AgB hc hf) ?_
 rw[B2,BV,E4]
 refine Ai rfl fun S3 k3 n3 o3=>?_
 refine AF (cs':=(IQ c f).2.1.cells) o3 rfl rfl fun S4 n4 o4 f4=>?_
 exact⟨_,rfl,(k1.trans k2).trans (k3.st (Ai4 _) n4 f4),DN (Et _ _ _) (.v _)⟩
theorem Aa1{a b:List Bool}(ha:a.length<1048576)(hab:a.length=b.length):BH Pg 147 [aL aB a,aL aB b] (aL aB (CI a.length fun i=>bit a i && !bit b i)):=by
 refine Ad.G8 (f:=fun b=>.bool b) (e:=4) fun S=>dX ?_
 unfold AdW
 refine WR (fun y x S'=>Am S S'∧∃ i:Nat,x=aI i∧i≤a.length∧A4 S.n S' y 4 ((CI i fun i=>bit a i && !bit b i).map fun b=>[aB b]))
  (fun _ x _=>a.length - ((Aw x).getD 0).toNat) ⟨Am.refl S,0,rfl,Ai9 _,.nl _ _ _⟩ ?_
 dsimp only[DE]
 rintro y _ S1 ⟨k1,i,rfl,hi,w1⟩ KE hKE
 dsimp only[gX,Fi]
 rw[Ay,As,Ag]
 refine Al (fun h=>?_) (fun h=>?_)
 ·have hlt:i<a.length:=by simpa using h
  have hadd:∀ K:AV→Aa→Prop,∀ S,bin .add 0 (.v (.int .i64 (i:Int))) (.v (.int .i64 1)) S K=K (aI (i+1:Nat)) S:=fun K S=>Ar (by omega) (by omega) 0
  have hμ:a.length - ((Aw (aI (i+1:Nat))).getD 0).toNat<a.length - ((Aw (aI i)).getD 0).toNat:=by simp[Aw];omega
  have step:∀ c:Bool,c=(bit a i && !bit b i)→Bo 4 1 1 y (.l [[aB c]]) S1 fun v10 S=>bin .add 0 (.v (.int .i64 (i:Int))) (.v (.int .i64 1)) S fun v11 S=>KE 28 (E6 (aL aB a) (aL aB b) v10 v11) S:=by
   intro c hc
   refine w1.app (b:=1) (c:=[aB c]) (y:=.l [[aB c]]) (by have:=k1.1;omega) rfl (by simp;omega) (fun x' S5 ho5 hb5 hx5=>?_) rfl
   rw[hadd]
   refine hKE _ _ _ ⟨w1.AS (Ai4 _) hb5 k1,i+1,rfl,hlt,?_⟩ hμ
   rw[Ht,AiB,←hc]
   exact ho5
  rw[AM hlt,A3,Ag]
  refine Al (fun h=>?_) (fun h=>?_)
  ·rw[AM (by omega:i<b.length),A3,AI]
   refine BQ rfl (fun _ h=>by cases h) (step _ ?_)
   rw[Bc hlt,Bc (by omega),h];rfl
  ·refine BQ rfl (fun _ h=>by cases h) (step false ?_)
   rw[Bc hlt,h];rfl
 ·have hge:i=a.length:=by simp at h;omega
  subst hge
  exact⟨_,rfl,k1,w1⟩
theorem Up{a b:List Bool}(ha:a.length<1048576)(hab:a.length=b.length):BH Pg 125 [aL aB a,aL aB b] (aL aB (EJ a b)):=by
 intro S
 refine Ad.B6 (f:=fun b=>.bool b) (eQ ?_)
 unfold AeF
 exact Ae (jV ha hab) ⟨rfl,Am.refl _⟩
structure Tr (c:Ci) (s:Sp) (fr:List Bool) (tid:Nat) (S:Aa):Prop where
 obj:S.obj tid=some (.cells 129 [c.cells++s.cells ++ [aL aB fr]] true)
 lt:tid<S.n
theorem Tr.AS{c:Ci}{s:Sp}{fr:List Bool}{tid:Nat}{S T:Aa}(h:Tr c s fr tid S)(k:Am S T):Tr c s fr tid T:=⟨(k.2 _ h.lt).trans h.obj,Nat.lt_of_lt_of_le h.lt k.1⟩
section
variable {c:Ci} {s:Sp} {fr:List Bool} {tid:Nat} {S:Aa}
theorem Tr.Vm(h:Tr c s fr tid S){K:AV→Aa→Prop}:Ax (.p tid 0 (0+8+1)) S K=K (aL aB s.valid) S:=Af h.obj rfl rfl
theorem Tr.ldf(h:Tr c s fr tid S){K:AV→Aa→Prop}:Ax (.p tid 0 (0+13)) S K=K (aL aB fr) S:=Af h.obj rfl rfl
theorem Tr.yN(h:Tr c s fr tid S){K:AV→Aa→Prop}:AA 5 (.p tid 0 (0+8)) S K=K s.av S:=JL (n:=5) (cs':=s.cells) h.obj (by simp[Ci.cells,Sp.cells]) rfl
theorem Tr.ldc(h:Tr c s fr tid S){K:AV→Aa→Prop}:AA 8 (.p tid 0 (0+0)) S K=K c.av S:=JL (n:=8) (cs':=c.cells) h.obj (by simp[Ci.cells,Sp.cells]) rfl
variable (hs:LF s) (hfr:In s fr)
include hs
theorem jG(h:Tr c s fr tid S){p:List Bool}(hp:p.length=s.valid.length):AW Pg 124 [.p tid 0 0,aL aB p] S (aL aB (A5 s p)):=by
 refine Ad.B6 (f:=fun b=>.bool b) (eR ?_)
 have hv:=hs.small.h1
 dsimp only[AeG,Lf]
 rw[AH,Ac,Ac,h.Vm]
 exact Ae (Aa1 (by omega) hp.symm) ⟨rfl,Am.refl _⟩
theorem jD(h:Tr c s fr tid S){p:List Bool}(hp:p.length=s.valid.length):AW Pg 128 [.p tid 0 0,aL aB p] S (aL aB (DW s p)):=by
 refine Ad.B6 (f:=fun b=>.bool b) (eN ?_)
 unfold AeC
 have c2:=wL hs.sm p
 rw[Qs (hs.fit hp)]at c2
 rw[AH,Ac,h.yN]
 exact Ae c2 ⟨rfl,Am.refl _⟩
include hfr
theorem jF(h:Tr c s fr tid S){p:List Bool}(hp:p.length=s.valid.length):AW Pg 126 [.p tid 0 0,aL aB p] S (aL aB (DH s fr p)):=by
 refine Ad.B6 (f:=fun b=>.bool b) (eP ?_)
 dsimp only[AeE,Lq,Ld]
 have hv:=hs.small.h1
 have c1:=Fh (a:=p) (b:=fr) (by omega) (hp.trans hfr.len.symm)
 have c2:=Uq hs.sm (Bm p fr)
 rw[kK (hs.fit (by simp[hp]))]at c2
 have l1:∀(P:AV→Prop),(∃ q,(AA 5 (.p tid 0 (0+8)) S fun v S'=>v=q∧S'=S)∧P q)=P s.av:=fun P=>H4 (op:=fun K=>AA 5 (.p tid 0 (0+8)) S K) fun K=>h.yN
 have l2:∀(P:AV→Prop),(∃ q,(Ax (.p tid 0 (0+13)) S fun v S'=>v=q∧S'=S)∧P q)=P (aL aB fr):=fun P=>H4 (op:=fun K=>Ax (.p tid 0 (0+13)) S K) fun K=>h.ldf
 show ∃ q:AV,_
 (repeat (first|with_reducible_and_instances (first|refine WJ ?_|refine W (Ny) ?_|refine W (l1 _) ?_|refine W (l2 _) ?_|refine W (AN (by with_unfolding_all rfl)) ?_)|refine BG (c1) rfl rfl ?_|refine CX (c1) rfl rfl ?_|refine BG (c2) rfl rfl ?_|refine CX (c2) rfl rfl ?_))
 exact⟨rfl,Am.refl _⟩
theorem jE(h:Tr c s fr tid S){p q:List Bool}(hp:p.length=s.valid.length)(hq:q.length=s.valid.length):AW Pg 127 [.p tid 0 0,aL aB p,aL aB q] S (aL aB (Bn s fr p q)):=by
 refine Ad.B6 (f:=fun b=>.bool b) (eO ?_)
 dsimp only[AeD,Lq,Ld]
 have hv:=hs.small.h1
 have c1:=Fh (a:=q) (b:=fr) (by omega) (hq.trans hfr.len.symm)
 have c2:=j2 hs.sm p (Bm q fr)
 rw[UC (hs.fit hp) (hs.fit (by simp[hq]))]at c2
 have l1:∀(P:AV→Prop),(∃ q,(AA 5 (.p tid 0 (0+8)) S fun v S'=>v=q∧S'=S)∧P q)=P s.av:=fun P=>H4 (op:=fun K=>AA 5 (.p tid 0 (0+8)) S K) fun K=>h.yN
 have l2:∀(P:AV→Prop),(∃ q,(Ax (.p tid 0 (0+13)) S fun v S'=>v=q∧S'=S)∧P q)=P (aL aB fr):=fun P=>H4 (op:=fun K=>Ax (.p tid 0 (0+13)) S K) fun K=>h.ldf
 show ∃ q:AV,_
 (repeat (first|with_reducible_and_instances (first|refine WJ ?_|refine W (Ny) ?_|refine W (l1 _) ?_|refine W (l2 _) ?_|refine W (AN (by with_unfolding_all rfl)) ?_)|refine BG (c1) rfl rfl ?_|refine CX (c1) rfl rfl ?_|refine BG (c2) rfl rfl ?_|refine CX (c2) rfl rfl ?_))
 exact⟨rfl,Am.refl _⟩
end
theorem EI{k j:Int}(h:¬ k=j){S:Aa}{A B:Aa→Prop}(hB:B S):bin .eql 0 (.v (.int .i64 k)) (.v (.int .i64 j)) S (fun v S=>GI v fun b=>gd b (A S) (B S)):=by
 rw[AD,Ag,decide_eq_false h];exact hB
theorem CN{k j:Int}(h:k=j){S:Aa}{A B:Aa→Prop}(hA:A S):bin .eql 0 (.v (.int .i64 k)) (.v (.int .i64 j)) S (fun v S=>GI v fun b=>gd b (A S) (B S)):=by
 rw[AD,Ag,decide_eq_true h];exact hA
set_option linter.unusedSectionVars false
section
variable {c:Ci} {s:Sp} {fr:List Bool} {tid:Nat} (hs:LF s) (hfr:In s fr) (hc:c.ok)
include hs hfr hc
theorem YE(k:Int)(n:ByteArray)(hk:k=1∨k=2){S:Aa}(h:Tr c s fr tid S):AW Pg 86 [.p tid 0 0,Fo.av (.mk k n 0 [])] S (aL aB (Fo.C6 s fr (CE c s) (.mk k n 0 []))):=by
    have hv:s.valid.length≤1000000:=by have:=hs.small.h1;omega
    refine Ad.B6 (f:=fun b=>.bool b) (Md ?_)
    dsimp only[m86,N7,N8,N9,Oa,Ob,Ln,Lo,Fi,Lf,Lq,Ld]
    rw[Fo.av,Fo.AE]
    refine Ai rfl fun S1 k1 n1 o1=>?_
    have h1:=h.AS k1
    rw[Ac,Af o1 rfl rfl,BJ,AP,Ag]
    have nn:=fun{q:List Bool} (hq:q.length=s.valid.length)=>jG hs h1 hq
    have nx:=fun{q:List Bool} (hq:q.length=s.valid.length)=>jF hs hfr h1 hq
    have un:=fun{p q:List Bool} (hp:p.length=s.valid.length) (hq:q.length=s.valid.length)=>jE hs hfr h1 hp hq
    have al:=fun{q:List Bool} (hq:q.length=s.valid.length)=>jD hs h1 hq
    have an:=fun{p q:List Bool} (hp:p.length=s.valid.length) (hq:q.length=s.valid.length)=>Fh (a:=p) (b:=q) (by omega) (hp.trans hq.symm)
    have orr:=fun{p q:List Bool} (hp:p.length=s.valid.length) (hq:q.length=s.valid.length)=>Up (a:=p) (b:=q) (by omega) (hp.trans hq.symm)
    have lx:∀{q:List Bool},q.length=s.valid.length→(DH s fr q).length=s.valid.length:=fun hq=>by simp[DH,hq]
    have lu:∀{p q:List Bool},q.length=s.valid.length→(Bn s fr p q).length=s.valid.length:=fun hq=>by simp[Bn,hq]
    have lg:∀{q:List Bool},q.length=s.valid.length→(DW s q).length=s.valid.length:=fun hq=>by simp[hq]
    have ln:∀{q:List Bool},(A5 s q).length=s.valid.length:=fun{q}=>(Bq s q).len
    have la:∀{p q:List Bool},p.length=s.valid.length→(Bm p q).length=s.valid.length:=fun hq=>by simp[hq]
    have lo:∀{p q:List Bool},p.length=s.valid.length→(EJ p q).length=s.valid.length:=fun hq=>by simp[hq]
    rw[Be (decide_eq_false (by decide))]
    rw[Ac,Af o1 rfl rfl,BJ,AP,Ag,Be (decide_eq_false (by decide))]
    rw[Ac,Af o1 rfl rfl]
    rcases hk with rfl|rfl
    ·repeat (refine EI (by decide) ?_)
     refine CN rfl ?_
     rw[AH,Ac,Ac,h1.Vm]
     refine Au (nn rfl) ?_
     exact⟨by rw[D4],k1⟩
    ·repeat (refine EI (by decide) ?_)
     refine CN rfl ?_
     rw[AH,Ac,Ac,h1.Vm]
     exact⟨by rw[EL],k1⟩
theorem mA(l:Int)(n:ByteArray)(hl:By l){S:Aa}(h:Tr c s fr tid S):AW Pg 86 [.p tid 0 0,Fo.av (.mk 3 n l [])] S (aL aB (Fo.C6 s fr (CE c s) (.mk 3 n l []))):=by
    have hv:s.valid.length≤1000000:=by have:=hs.small.h1;omega
    rw[Dg]
    refine Dy (f:=fun b=>.bool b) (e:=4) (Md ?_)
    dsimp only[m86,N7,N8,N9,Oa,Ob,Ln,Lo,Fi,Lf,Lq,Ld]
    rw[Fo.av,Fo.AE]
    refine Ai rfl fun S1 k1 n1 o1=>?_
    have h1:=h.AS k1
    rw[Ac,Af o1 rfl rfl,BJ,AP,Ag]
    rw[Be (decide_eq_false (by decide))]
    rw[Ac,Af o1 rfl rfl,BJ,AP,Ag,Be (decide_eq_false (by decide))]
    rw[Ac,Af o1 rfl rfl]
    repeat (refine EI (by decide) ?_)
    let g:Nat→Bool:=fun i=>bit s.valid i && DT c i l
    refine ZD (fun y x S'=>Am S1 S'∧∃ i:Nat,x=aI i∧i≤s.valid.length∧A4 S1.n S' y 4 ((CI i g).map fun b=>[aB b]))
     (fun _ x _=>s.valid.length - ((Aw x).getD 0).toNat) ⟨Am.refl S1,0,rfl,Ai9 _,.nl _ _ _⟩ ?_
    dsimp only[DE]
    rintro y _ S2 ⟨k2,i,rfl,hi,w2⟩ KE hKE
    have h2:=h1.AS k2
    dsimp only[uO,Fi,Lf,Lt,Lc]
    rw[AH,Ac,Ac,h2.Vm,Ay,As,Ag]
    refine Al (fun hlt=>?_) (fun hge=>?_)
    ·have hlt:i<s.valid.length:=by simpa using hlt
     have hadd:∀ K:AV→Aa→Prop,∀ S,bin .add 0 (.v (.int .i64 (i:Int))) (.v (.int .i64 1)) S K=K (aI (i+1:Nat)) S:=fun K S=>Ar (by omega) (by omega) 0
     have hμ:s.valid.length - ((Aw (aI (i+1:Nat))).getD 0).toNat<s.valid.length - ((Aw (aI i)).getD 0).toNat:=by simp[Aw];omega
     have step:∀ b:Bool,b=g i→Bo 4 1 1 y (.l [[aB b]]) S2 fun v10 T=>bin .add 0 (.v (.int .i64 (i:Int))) (.v (.int .i64 1)) T fun v11 T=>KE 214 (GZ (.p tid 0 0) (.p S.n 0 0) v10 v11) T:=by
      intro b hb
      refine w2.app (b:=1) (c:=[aB b]) (y:=.l [[aB b]]) (by have:=k2.1;omega) rfl (by simp;omega) (fun x' S5 ho5 hb5 hx5=>?_) rfl
      rw[hadd]
      refine hKE _ _ _ ⟨w2.AS (Ai4 _) hb5 k2,i+1,rfl,hlt,?_⟩ hμ
      rw[Ht,AiB,←hb]
      exact ho5
     have o2:=(Kg k2 o1)
     refine⟨_,fun T hT=>by rw[AH];exact⟨rfl,rfl⟩,?_⟩
     refine B3 ?_
     refine B3 ?_
     refine⟨_,fun T hT=>by rw[(h2.AS hT).Vm];exact⟨rfl,rfl⟩,?_⟩
     refine⟨_,fun T hT=>by rw[AM hlt];exact⟨rfl,rfl⟩,?_⟩
     refine AgU rfl ?_
     rw[Ag]
     refine Al (fun hb=>?_) (fun hb=>?_)
     ·refine⟨_,fun T hT=>by rw[AH];exact⟨rfl,rfl⟩,?_⟩
      refine B3 ?_
      refine⟨_,fun T hT=>by rw[(h2.AS hT).ldc];exact⟨rfl,rfl⟩,?_⟩
      refine B3 ?_
      refine Hk o2 (by have:=k2.1;omega) rfl rfl ?_
      refine EG (I5 hc hl) ?_
      refine Aa9 ?_
      refine⟨_,fun T hT=>BQ rfl (fun _ h=>by cases h) ⟨rfl,rfl⟩,?_⟩
      exact step _ (by show _=(bit s.valid i && DT c i l);rw[Bc hlt,hb,Ai7])
     ·refine Aa9 ?_
      refine⟨_,fun T hT=>BQ rfl (fun _ h=>by cases h) ⟨rfl,rfl⟩,?_⟩
      exact step _ (by show _=(bit s.valid i && DT c i l);rw[Bc hlt,hb,AiC])
    ·have hge:i=s.valid.length:=by simp at hge;omega
     subst hge
     exact⟨_,rfl,k1.trans k2,w2.low k1.1⟩
theorem yB(k:Int)(n:ByteArray)(f:Fo)(hk:k=4∨9≤k∧k≤14){S:Aa}(h:Tr c s fr tid S)(hp:In s (f.C6 s fr (CE c s)))
    (ih:∀{T:Aa},Tr c s fr tid T→AW Pg 86 [.p tid 0 0,f.av] T (aL aB (f.C6 s fr (CE c s)))):AW Pg 86 [.p tid 0 0,Fo.av (.mk k n 0 [f])] S (aL aB (Fo.C6 s fr (CE c s) (.mk k n 0 [f]))):=by
    have hv:s.valid.length≤1000000:=by have:=hs.small.h1;omega
    have hp:=hp.len
    rw[CM (by omega)]
    generalize hpp:f.C6 s fr (CE c s)=p at *
    refine Ad.B6 (f:=fun b=>.bool b) (Md ?_)
    dsimp only[m86,N7,N8,N9,Oa,Ob,Ln,Lo,Fi,Lf,Lq,Ld]
    rw[Fo.av,Fo.AE]
    refine Ai rfl fun S1 k1 n1 o1=>?_
    have h1:=h.AS k1
    rw[Ac,Af o1 rfl rfl,BJ,AP,Ag]
    have nn:=fun{q:List Bool} (hq:q.length=s.valid.length)=>jG hs h1 hq
    have nx:=fun{q:List Bool} (hq:q.length=s.valid.length)=>jF hs hfr h1 hq
    have un:=fun{p q:List Bool} (hp:p.length=s.valid.length) (hq:q.length=s.valid.length)=>jE hs hfr h1 hp hq
    have al:=fun{q:List Bool} (hq:q.length=s.valid.length)=>jD hs h1 hq
    have an:=fun{p q:List Bool} (hp:p.length=s.valid.length) (hq:q.length=s.valid.length)=>Fh (a:=p) (b:=q) (by omega) (hp.trans hq.symm)
    have orr:=fun{p q:List Bool} (hp:p.length=s.valid.length) (hq:q.length=s.valid.length)=>Up (a:=p) (b:=q) (by omega) (hp.trans hq.symm)
    have lx:∀{q:List Bool},q.length=s.valid.length→(DH s fr q).length=s.valid.length:=fun hq=>by simp[DH,hq]
    have lu:∀{p q:List Bool},q.length=s.valid.length→(Bn s fr p q).length=s.valid.length:=fun hq=>by simp[Bn,hq]
    have lg:∀{q:List Bool},q.length=s.valid.length→(DW s q).length=s.valid.length:=fun hq=>by simp[hq]
    have ln:∀{q:List Bool},(A5 s q).length=s.valid.length:=fun{q}=>(Bq s q).len
    have la:∀{p q:List Bool},p.length=s.valid.length→(Bm p q).length=s.valid.length:=fun hq=>by simp[hq]
    have lo:∀{p q:List Bool},p.length=s.valid.length→(EJ p q).length=s.valid.length:=fun hq=>by simp[hq]
    rw[Bd (decide_eq_true (by simp))]
    rw[Ac,Af o1 rfl rfl,show ∀ K:AV→Aa→Prop,AR 32 4 (Dx [f]) (.v (.int .i64 0)) S1 K=K (.q f.row 0) S1 from fun K=>Cn (l:=[f]) (i:=0) (by simp),Cd (Fo.Aj f)]
    refine Au (ih h1) ?_
    rw[Ac,Af o1 rfl rfl,BJ,AP,Ag,Be (decide_eq_false (by simp))]
    rw[Ac,Af o1 rfl rfl]
    obtain rfl|rfl|rfl|rfl|rfl|rfl|rfl:k=4∨k=9∨k=10∨k=11∨k=12∨k=13∨k=14:=by omega
    ·repeat (refine EI (by decide) ?_)
     refine CN rfl ?_
     exact Au (nn hp) ⟨rfl,k1⟩
    ·repeat (refine EI (by decide) ?_)
     refine CN rfl ?_
     exact Au (nx hp) ⟨rfl,k1⟩
    ·repeat (refine EI (by decide) ?_)
     refine CN rfl ?_
     exact Au (nn hp) (Au (nx ln) (Au (nn (lx ln)) ⟨rfl,k1⟩))
    ·repeat (refine EI (by decide) ?_)
     refine CN rfl ?_
     rw[AH,Ac,Ac,h1.Vm]
     exact Au (un rfl hp) ⟨rfl,k1⟩
    ·repeat (refine EI (by decide) ?_)
     refine CN rfl ?_
     exact Au (nn hp) (Au (al ln) (Au (nn (lg ln)) ⟨rfl,k1⟩))
    ·repeat (refine EI (by decide) ?_)
     refine CN rfl ?_
     exact Au (al hp) ⟨rfl,k1⟩
    ·repeat (refine EI (by decide) ?_)
     refine CN rfl ?_
     have c1:=nn hp
     have c2:=un (p:=s.valid) rfl (ln (q:=p))
     have c3:=nn (lu (p:=s.valid) (ln (q:=p)))
     have l1:∀(P:AV→Prop),(∃ q,(Ax (.p tid 0 (0+8+1)) S1 fun v S'=>v=q∧S'=S1)∧P q)=P (aL aB s.valid):=fun P=>H4 (op:=fun K=>Ax (.p tid 0 (0+8+1)) S1 K) fun K=>h1.Vm
     show ∃ q:AV,_
     (repeat (first|with_reducible_and_instances (first|refine WJ ?_|refine W (Ny) ?_|refine W (l1 _) ?_|refine W (AN (by with_unfolding_all rfl)) ?_)|refine FV (c1) rfl rfl ?_|refine NO (c1) rfl rfl ?_|refine FV (c2) rfl rfl ?_|refine NO (c2) rfl rfl ?_|refine FV (c3) rfl rfl ?_|refine NO (c3) rfl rfl ?_))
     exact⟨rfl,k1⟩
theorem yA(k:Int)(n:ByteArray)(f g:Fo)(hk:5≤k∧k≤8∨15≤k∧k≤18){S:Aa}(h:Tr c s fr tid S)(hp:In s (f.C6 s fr (CE c s)))(hq:In s (g.C6 s fr (CE c s)))
    (ih:∀{T:Aa},Tr c s fr tid T→AW Pg 86 [.p tid 0 0,f.av] T (aL aB (f.C6 s fr (CE c s))))
    (ih2:∀{T:Aa},Tr c s fr tid T→AW Pg 86 [.p tid 0 0,g.av] T (aL aB (g.C6 s fr (CE c s)))):AW Pg 86 [.p tid 0 0,Fo.av (.mk k n 0 [f,g])] S (aL aB (Fo.C6 s fr (CE c s) (.mk k n 0 [f,g]))):=by
    have hv:s.valid.length≤1000000:=by have:=hs.small.h1;omega
    have hp:=hp.len
    have hq:=hq.len
    rw[CL (by omega)]
    generalize hpp:f.C6 s fr (CE c s)=p at *
    generalize hqq:g.C6 s fr (CE c s)=q at *
    refine Ad.B6 (f:=fun b=>.bool b) (Md ?_)
    dsimp only[m86,N7,N8,N9,Oa,Ob,Ln,Lo,Fi,Lf,Lq,Ld]
    rw[Fo.av,Fo.AE]
    refine Ai rfl fun S1 k1 n1 o1=>?_
    have h1:=h.AS k1
    rw[Ac,Af o1 rfl rfl,BJ,AP,Ag]
    have nn:=fun{q:List Bool} (hq:q.length=s.valid.length)=>jG hs h1 hq
    have nx:=fun{q:List Bool} (hq:q.length=s.valid.length)=>jF hs hfr h1 hq
    have un:=fun{p q:List Bool} (hp:p.length=s.valid.length) (hq:q.length=s.valid.length)=>jE hs hfr h1 hp hq
    have al:=fun{q:List Bool} (hq:q.length=s.valid.length)=>jD hs h1 hq
    have an:=fun{p q:List Bool} (hp:p.length=s.valid.length) (hq:q.length=s.valid.length)=>Fh (a:=p) (b:=q) (by omega) (hp.trans hq.symm)
    have orr:=fun{p q:List Bool} (hp:p.length=s.valid.length) (hq:q.length=s.valid.length)=>Up (a:=p) (b:=q) (by omega) (hp.trans hq.symm)
    have lx:∀{q:List Bool},q.length=s.valid.length→(DH s fr q).length=s.valid.length:=fun hq=>by simp[DH,hq]
    have lu:∀{p q:List Bool},q.length=s.valid.length→(Bn s fr p q).length=s.valid.length:=fun hq=>by simp[Bn,hq]
    have lg:∀{q:List Bool},q.length=s.valid.length→(DW s q).length=s.valid.length:=fun hq=>by simp[hq]
    have ln:∀{q:List Bool},(A5 s q).length=s.valid.length:=fun{q}=>(Bq s q).len
    have la:∀{p q:List Bool},p.length=s.valid.length→(Bm p q).length=s.valid.length:=fun hq=>by simp[hq]
    have lo:∀{p q:List Bool},p.length=s.valid.length→(EJ p q).length=s.valid.length:=fun hq=>by simp[hq]
    rw[Bd (decide_eq_true (by simp))]
    rw[Ac,Af o1 rfl rfl,show ∀ K:AV→Aa→Prop,AR 32 4 (Dx [f,g]) (.v (.int .i64 0)) S1 K=K (.q f.row 0) S1 from fun K=>Cn (l:=[f,g]) (i:=0) (by simp),Cd (Fo.Aj f)]
    refine Au (ih h1) ?_
    rw[Ac,Af o1 rfl rfl,BJ,AP,Ag,Bd (decide_eq_true (by simp))]
    rw[Ac,Af o1 rfl rfl,show ∀ K:AV→Aa→Prop,AR 32 4 (Dx [f,g]) (.v (.int .i64 1)) S1 K=K (.q g.row 0) S1 from fun K=>Cn (l:=[f,g]) (i:=1) (by simp),Cd (Fo.Aj g)]
    refine Au (ih2 h1) ?_
    rw[Ac,Af o1 rfl rfl]
    obtain rfl|rfl|rfl|rfl|rfl|rfl|rfl|rfl:k=5∨k=6∨k=7∨k=8∨k=15∨k=16∨k=17∨k=18:=by omega
    ·repeat (refine EI (by decide) ?_)
     refine CN rfl ?_
     exact Ae (an hp hq) ⟨rfl,k1⟩
    ·repeat (refine EI (by decide) ?_)
     refine CN rfl ?_
     exact Ae (orr hp hq) ⟨rfl,k1⟩
    ·repeat (refine EI (by decide) ?_)
     refine CN rfl ?_
     exact Au (nn hp) (Ae (orr ln hq) ⟨rfl,k1⟩)
    ·repeat (refine EI (by decide) ?_)
     refine CN rfl ?_
     exact Ae (an hp hq) (Ae (orr hp hq) (Au (nn (lo hp)) (Ae (orr (la hp) ln) ⟨rfl,k1⟩)))
    ·repeat (refine EI (by decide) ?_)
     refine CN rfl ?_
     exact Au (un hp hq) ⟨rfl,k1⟩
    ·repeat (refine EI (by decide) ?_)
     refine CN rfl ?_
     exact Au (nn hq) (Ae (orr hp hq) (Au (nn (lo hp)) (Au (un ln ln) (Au (nn hq) (Au (al ln) (Ae (orr (lu ln) (lg ln)) (Au (nn (lo (lu ln))) ⟨rfl,k1⟩)))))))
    ·repeat (refine EI (by decide) ?_)
     refine CN rfl ?_
     exact Au (al hq) (Ae (an hp hq) (Au (un hq (la hp)) (Ae (orr (lg hq) (lu (la hp))) ⟨rfl,k1⟩)))
    ·repeat (refine EI (by decide) ?_)
     refine CN rfl ?_
     exact Au (nn hp) (Au (nn hq) (Au (un ln ln) (Au (nn (lu ln)) ⟨rfl,k1⟩)))
theorem AhN:∀(f:Fo),f.ok→∀ d,f.BP d=true→∀{S:Aa},Tr c s fr tid S→AW Pg 86 [.p tid 0 0,f.av] S (aL aB (f.C6 s fr (CE c s))):=by
 intro f
 induction f using Fo.ind with
 |h k n l ks ih =>
  intro hf d hd S h
  obtain⟨_,_,hk⟩:=DB hd
  have hfk:∀ g∈ks,g.ok:=by cases hf;assumption
  have hl:By l:=by cases hf;assumption
  have hat:∀ l,In s (CE c s l):=fun l=>Ea _ _
  rcases hk with⟨hk,rfl,rfl⟩|⟨rfl,rfl,h0⟩|⟨hk,rfl,f,rfl,hf1⟩|⟨hk,rfl,f,g,rfl,hf1,hg1⟩
  ·exact YE hs hfr hc k n hk h
  ·exact mA hs hfr hc l n hl h
  ·exact yB hs hfr hc k n f hk h (E1 hat f _ hf1) fun{T} hT=>ih f (by simp) (hfk f (by simp)) _ hf1 hT
  ·exact yA hs hfr hc k n f g hk h (E1 hat f _ hf1) (E1 hat g _ hg1) (fun{T} hT=>ih f (by simp) (hfk f (by simp)) _ hf1 hT) fun{T} hT=>ih g (by simp) (hfk g (by simp)) _ hg1 hT
end
theorem AgG{c:Ci}(hc:c.ok){f:Fo}(hf:f.ok):BH Pg 39 [c.av,f.av] (.t [aL aB (BW c f).1,aI (BW c f).2]):=by
 intro S
 refine Ad.tree (qP ?_)
 dsimp only[m39,Fi,Lt,Lc]
 refine Ai rfl fun S1 k1 n1 o1=>?_
 refine Ai (Fo.Aj f) fun S2 k2 n2 o2=>?_
 have p2:=(Kg k2 o1)
 have kk:=k1.trans k2
 rw[An (n:=8) p2 rfl,An (n:=4) o2 (Fo.Aj f)]
 refine Ae (wR hc hf) ?_
 rw[AI,Ag]
 unfold BW
 refine Al (fun hm=>?_) (fun hm=>?_)
 ·refine⟨_,rfl,kk,?_⟩
  rw[if_pos (by simpa using hm)]
  exact DN .nl (.v _)
 have hm:DU c f=true:=by simpa using hm
 rw[if_neg (by rw[hm];decide),An (n:=8) p2 rfl]
 refine Ae (wU hc) ?_
 rw[B2,BV]
 refine Ai rfl fun S4 k4 n4 o4=>?_
 refine AF (cs':=(BE c).1.cells) o4 rfl rfl fun S5 n5 o5 f5=>?_
 have k5:=k4.st (Ai4 _) n5 f5
 rw[Bi,Ag]
 refine Al (fun he=>?_) (fun he=>?_)
 ·have he:¬ (BE c).2=0:=by simpa using he
  rw[if_neg he]
  exact⟨_,rfl,kk.trans k5,DN .nl (.v _)⟩
 ·have he:(BE c).2=0:=by simpa using he
  obtain⟨e1,e2,e3⟩:=H8 he
  rw[if_pos he]
  rw[e1]at o5
  have hs:=OM e2 e3
  have hd:f.BP 60=true:=by
   unfold DU at hm
   simp only[Ai5]at hm
   exact hm.2.1
  have cg:=wL hs.sm (At c).valid
  rw[Qs (hs.fit rfl)]at cg
  refine Em (n:=8) (Kg k5 p2) (by omega) rfl ?_
  refine Em (n:=5) o5 (by omega) rfl ?_
  refine Em (n:=5) o5 (by omega) rfl ?_
  refine B3 ?_
  refine Hk o5 (by omega) rfl rfl ?_
  refine EG cg ?_
  refine⟨_,fun T hT=>by rw[A7 (cs:=c.cells++(At c).cells ++ [aL aB (DW (At c) (At c).valid)]) rfl];exact⟨rfl,rfl⟩,?_⟩
  refine Ai rfl fun S6 k6 n6 o6=>?_
  rw[An (n:=4) (Kg k6 (Kg k5 o2)) (Fo.Aj f)]
  refine Au (AhN hs (In.eg rfl) hc f hf 60 hd (S:=S6) ⟨o6,by omega⟩) ?_
  exact⟨_,rfl,(kk.trans k5).trans k6,DN (Et _ _ _) (.v _)⟩
section
set_option maxRecDepth 100000
def m18(x0 x1 x2:AV)(S:Aa)(Q:Aq):Prop:=
 Ax x1 S fun a S=>bin .add 0 a (aI 1) S fun c S=>A8 1 x1 c S fun d S=>Ax x1 S fun e S=>Ax x2 S fun f S=>AG f S fun g S=>bin .gtr 0 e g S fun h S=>Fi h (Q (.ret (aI 0)) S) (Ax x2 S fun i S=>Ax x1 S fun k S=>bin .sub 0 k (aI 1) S fun l S=>AR 5 1 i l S fun m S=>Ax m S fun n S=>Cf .i64 n S fun o S=>bin .rem 0 o x0 S fun p S=>Q (.ret p) S)
theorem rI{x0 x1 x2:AV}{S:Aa}{Q:Aq}(h:m18 x0 x1 x2 S Q):Ad Pg 18 [x0,x1,x2] S Q:=
 Bl (n:=19) [[]] Tryz.func18 (by kernel_rfl) (Eq.mpr (by kernel_rfl) h)
def kR:Code:=(Tryz.f19.body).getD .skip
def r19:List ResultVar:=Tryz.f19.results.toList
def G2(y0 y4 y6 y8 y9:AV):List AV:=[y0,y4,y6,y8,y9]
def KU:List Nat:=[0,4,6,8,9]
def MK:List (List Nat):=[KU,[0]]
abbrev O9(a:AV)(S:Aa)(Q:Aq)(x0 x4 c d:AV):Prop:=Ah Pg 20 [a] S Q fun e S=>Ap KU (vc Pg (kR.at_ [1,1,1,1,1,0,1,0,0]) (MK.drop 1)) 55 (G2 x0 x4 c d e) S (Ak 0 (Av (vc Pg (kR.at_ [1,1,1,1,1,1]) (MK.drop 1)) (Ao Pg r19 Q)))
abbrev Zw(c:AV)(S:Aa)(x1:AV)(Q:Aq)(x0 x4 d:AV):Prop:=CH Qq CK [(0,c)] S fun e S=>Az 32 4 (.a CK) S fun f S=>A8 4 f e S fun g S=>bin .eql 0 c (aI 3) S fun h S=>Fi h (AU 9 1 7 [.v (.string ByteArray.empty)] [(0,(.v (.string { data:=#[113] }))),(1,(.v (.string { data:=#[108,48] }))),(2,(.v (.string { data:=#[111,117,116] }))),(3,(.v (.string { data:=#[108,49] }))),(4,(.v (.string { data:=#[105,48] }))),(5,(.v (.string { data:=#[111,48] }))),(6,(.v (.string { data:=#[97,45,98] })))] S fun i S=>Ax x1 S fun k S=>Bh Pg k [aI 7] S (fun l S=>AR 9 1 i l S fun m S=>Ax m S fun n S=>shift f 1 S fun o S=>A8 1 o n S fun p S=>O9 c S Q x0 x4 d f) (fun u S=>Q (.pan u) S)) (O9 c S Q x0 x4 d f)
abbrev Vh(x1:AV)(S:Aa)(Q:Aq)(x0 x4 a:AV):Prop:=Ax x1 S fun c S=>Bh Pg c [aI 7] S (fun d S=>bin .quo 0 d (aI 5) S fun e S=>bin .sub 0 (aI 3) e S fun f S=>Zw f S x1 Q x0 x4 a) (fun u S=>Q (.pan u) S)
def m19(x0 x1 x2 x3 x4:AV)(S:Aa)(Q:Aq):Prop:=
 Az 32 4 (.a CK) S fun c S=>Ax x1 S fun d S=>Bh Pg d [aI 18] S (fun e S=>bin .add 0 (aI 1) e S fun f S=>bin .eql 0 x0 (aI 0) S fun g S=>Fi g (Vh x1 S Q x0 x4 c) (Ax x2 S fun h S=>Ax x3 S fun i S=>AG i S fun k S=>bin .geq 0 h k S fun l S=>Fi l (Vh x1 S Q x0 x4 c) (Ax x2 S fun m S=>bin .gtr 0 m (aI 30) S fun n S=>Fi n (Vh x1 S Q x0 x4 c) (Zw f S x1 Q x0 x4 c)))) (fun u S=>Q (.pan u) S)
theorem rH{x0 x1 x2 x3 x4:AV}{S:Aa}{Q:Aq}(h:m19 x0 x1 x2 x3 x4 S Q):Ad Pg 19 [x0,x1,x2,x3,x4] S Q:=
 Bl (n:=55) MK Tryz.func19 (by kernel_rfl) (Eq.mpr (by kernel_rfl) h)
def vU(y0 y4 y6 y8 y9:AV)(S:Aa)(KE0:BB)(Q:Aq):Prop:=
 bin .gtr 0 y9 (aI 0) S fun a S=>Fi a (Lt S (shift y8 3) fun c=>Lt S (Ax c) fun d=>Lt S (Ax y4) fun e=>Lt S (bin .sub 0 y0 (aI 1)) fun f=>Bh Pg e [f] S (fun g S=>(∀ T:Aa,Am S T→Ax c T fun h S=>h=d∧S=T)∧(∀ T:Aa,Am S T→shift y8 3 T fun i S=>i=c∧S=T)∧Lt S (AU 32 4 1 CK [(0,g)]) fun k=>Bo 32 4 56 d k S fun l S=>Lt S (shift y8 3) fun m=>A8 1 m l S fun n S=>bin .sub 0 y9 (aI 1) S fun o S=>KE0 55 (G2 y0 y4 y6 y8 o) S) (fun u S=>Q (.pan u) S)) (AA 4 y8 S fun p S=>A8 4 y6 p S fun q S=>AA 4 y6 S fun r _=>Q (.ret r) S)
theorem aJ{y0 y4 y6 y8:AV}{y90:AV}{S:Aa}{Q:Aq}(I:AV→Aa→Prop)(μ:AV→Aa→Nat)(h0:I y90 S)(hr:BS (fun y9=>G2 y0 y4 y6 y8 y9) 55 I μ fun y9 S KE0=>vU y0 y4 y6 y8 y9 S KE0 Q):
 Ap KU (vc Pg (kR.at_ [1,1,1,1,1,0,1,0,0]) (MK.drop 1)) 55 (G2 y0 y4 y6 y8 y90) S (Ak 0 (Av (vc Pg (kR.at_ [1,1,1,1,1,1]) (MK.drop 1)) (Ao Pg r19 Q))):=DY 4 (fun _=>rfl) (fun _ _ _=>by kernel_rfl) h0 hr
def c8:Code:=(Tryz.f8.body).getD .skip
def m8(x0:AV)(S:Aa)(Q:Aq):Prop:=
 Az 23 1 x0 S fun c S=>Az 32 4 (.a CK) S fun d S=>Az 3 1 (aI 0) S fun e S=>A8 1 e (aI 0) S fun g S=>Az 63 1 (.v .nilFunc) S fun h S=>A8 1 h (.f (.func 18) [] [e,c]) S fun i S=>Az 64 1 (.v .nilFunc) S fun k S=>A8 1 k (.f (.func 19) [] [h,e,c,k]) S fun l S=>Ax k S fun m S=>Bh Pg m [aI 6] S (fun n S=>A8 4 d n S fun o S=>AA 4 d S fun p _=>Q (.ret p) S) (fun u S=>Q (.pan u) S)
theorem yZ{x0:AV}{S:Aa}{Q:Aq}(h:m8 x0 S Q):Ad Pg 8 [x0] S Q:=
 Bl (n:=10) [[0]] Tryz.func8 (by kernel_rfl) (Eq.mpr (by kernel_rfl) h)
end
abbrev Qp(n:Int):AV:=.v (.int .u8 n)
def FN:List ByteArray:=[⟨#[113]⟩,⟨#[108,48]⟩,⟨#[111,117,116]⟩,⟨#[108,49]⟩,⟨#[105,48]⟩,⟨#[111,48]⟩,⟨#[97,45,98]⟩]
inductive Kw:Nat→Fo→Prop
 |mk (d:Nat) (k:Int) (n:ByteArray) (ks:List Fo) (h1:1≤k) (h2:k≤18) (h3:(ks.length:Int)=Ct k) (h4:k=3→n∈FN) (h5:¬ k=3→n=⟨#[]⟩) (h6:ks≠[]→0<d) (h:∀ f∈ks,Kw (d - 1) f):Kw d (.mk k n 0 ks)
theorem JN(k:Int):Ct k≤2:=by unfold Ct;split;omega;split;omega;split<;>omega
theorem Fo.tree:∀(f:Fo),∀ u∈f.row,Tree u:=by
 intro f
 induction f using Fo.ind with
 |h k n l ks ih =>
  intro u hu
  rw[Fo.AE]at hu
  simp only[AiO,AiT,or_false]at hu
  rcases hu with rfl|rfl|rfl|rfl
  ·exact Tree.v _
  ·exact Tree.v _
  ·exact Tree.v _
  ·refine Tree.l fun c hc u hu=>?_
   obtain⟨f,hf,rfl⟩:=AiL.1 hc
   exact ih f hf u hu
theorem Kw.ok:∀(f:Fo) (d:Nat),Kw d f→f.ok:=by
 intro f
 induction f using Fo.ind with
 |h k n l ks ih =>
  intro d h
  cases h with
  |mk d _ _ _ h1 h2 h3 h4 h5 h6 h =>
   have hk:=JN k
   have hn:n.size≤3:=by
    by_cases hk:k=3
    ·have:=h4 hk
     simp only[FN,AiO,AiT,or_false]at this
     rcases this with rfl|rfl|rfl|rfl|rfl|rfl|rfl<;>decide
    ·rw[h5 hk];decide
   exact .mk _ _ _ _ ⟨by omega,by omega⟩ ⟨by decide,by decide⟩ (by omega) (by omega) fun f hf=>ih f hf _ (h f hf)
theorem Ys{S:Aa}{aid lid ta tl k:Nat}{l:List Int}{n:Int}{Q:Bg→Aa→Prop}(h1:S.obj aid=some (.cells ta [[aI k]] true))(h2:S.obj lid=some (.cells tl [[aL Qp l]] true))(hne:lid≠aid)
    (hl:∀ x∈l,0≤x∧x<256) (hn:0<n) (hk:k≤1000000)
    (K:∀ S',S'.n=S.n→S'.obj aid=some (.cells ta [[aI (k+1:Nat)]] true)→(∀ x,x≠aid→S'.obj x=S.obj x)→Q (.ret (aI (BU l k n))) S'):Ad Pg 18 [aI n,.p aid 0 0,.p lid 0 0] S Q:=by
 refine rI ?_
 dsimp only[m18,Fi]
 have hadd:∀ K:AV→Aa→Prop,∀ S,bin .add 0 (.v (.int .i64 (k:Int))) (.v (.int .i64 1)) S K=K (aI (k+1:Nat)) S:=fun K S=>Ar (by omega) (by omega) 0
 rw[Af h1 rfl rfl,hadd]
 refine Cc h1 rfl rfl fun S1 n1 o1 f1=>?_
 have p1:=(f1 lid hne).trans h2
 rw[Af o1 rfl rfl,Af p1 rfl rfl,Ay,AP,Ag]
 refine Al (fun h=>?_) (fun h=>?_)
 ·have h:=dT h
  have:=K S1 n1 o1 f1
  rw[BU,if_pos (by omega)]at this
  exact this
 ·have h:=dF h
  have hlt:k<l.length:=by omega
  have hx:=hl _ (Ai6 hlt)
  have hsub:∀ K:AV→Aa→Prop,∀ S,bin .sub 0 (.v (.int .i64 ((k+1:Nat):Int))) (.v (.int .i64 1)) S K=K (aI k) S:=fun K S=>(Bz (by omega) (by omega) 0).trans (by rw[show((k+1:Nat):Int) - 1=k by omega])
  rw[Af p1 rfl rfl,Af o1 rfl rfl,hsub,AM hlt,A3,CT _ (by omega) (by omega),C3 (by omega)]
  have:=K S1 n1 o1 f1
  rw[BU,if_neg (by omega),show l.getD k 0=l[k]by simp[Ai2,hlt]]at this
  exact this
abbrev tR(b:Nat):AV:=.f (.func 18) [] [.p (b+2) 0 0,.p b 0 0]
abbrev AcJ(b:Nat):AV:=.f (.func 19) [] [.p (b+3) 0 0,.p (b+2) 0 0,.p b 0 0,.p (b+4) 0 0]
structure Mg (b:Nat) (l:List Int) (k:Nat) (S:Aa):Prop where
 n:b+5≤S.n
 lo:S.obj b=some (.cells 23 [[aL Qp l]] true)
 ao:S.obj (b+2)=some (.cells 3 [[aI k]] true)
 po:S.obj (b+3)=some (.cells 63 [[tR b]] true)
 mo:S.obj (b+4)=some (.cells 64 [[AcJ b]] true)
def Ch(b:Nat)(S S':Aa):Prop:=S.n≤S'.n∧∀ i,i<S.n→i≠b+2→S'.obj i=S.obj i
theorem Ch.trans{b:Nat}{S S' S'':Aa}(h:Ch b S S')(k:Ch b S' S''):Ch b S S'':=⟨Nat.le_trans h.1 k.1,fun i hi hb=>(k.2 i (by have:=h.1;omega) hb).trans (h.2 i hi hb)⟩
theorem Ch.AS{b:Nat}{S S':Aa}(k:Am S S'):Ch b S S':=⟨k.1,fun i hi _=>k.2 i hi⟩
theorem Ch.st{b id:Nat}{S0 S S':Aa}(h:Ch b S0 S)(hid:S0.n≤id∨id=b+2)(hn:S'.n=S.n)(ho:∀ x,x≠id→S'.obj x=S.obj x):Ch b S0 S':=⟨by have:=h.1;omega,fun i hi hb=>(ho i (by omega)).trans (h.2 i hi hb)⟩
theorem Ch.low{b:Nat}{S0 S S':Aa}(h:Ch b S0 S)(hn:S.n≤S'.n)(ho:∀ x,x<S0.n→S'.obj x=S.obj x):Ch b S0 S':=⟨Nat.le_trans h.1 hn,fun i hi hb=>(ho i hi).trans (h.2 i hi hb)⟩
theorem Mg.mv{b k:Nat}{l:List Int}{S S':Aa}(h:Mg b l k S)(hn:S.n≤S'.n)(ho:∀ i,i<b+5→S'.obj i=S.obj i):Mg b l k S':=⟨by have:=h.n;omega,(ho _ (by omega)).trans h.lo,(ho _ (by omega)).trans h.ao,(ho _ (by omega)).trans h.po,(ho _ (by omega)).trans h.mo⟩
theorem Mg.AS{b k:Nat}{l:List Int}{S S':Aa}(h:Mg b l k S)(q:Am S S'):Mg b l k S':=h.mv q.1 fun i hi=>q.2 i (by have:=h.n;omega)
theorem Mg.st{b k id:Nat}{l:List Int}{S S':Aa}(h:Mg b l k S)(hid:b+5≤id)(hn:S'.n=S.n)(ho:∀ x,x≠id→S'.obj x=S.obj x):Mg b l k S':=h.mv (by omega) fun i hi=>ho i (by omega)
theorem Mg.pick{b k:Nat}{l:List Int}{S:Aa}(h:Mg b l k S)(hl:∀ x∈l,0≤x∧x<256){n:Int}(hn:0<n)(hk:k≤1000){K X:AV→Aa→Prop}
    (kk:∀ S',Mg b l (k+1) S'→S'.n=S.n→(∀ x,x≠b+2→S'.obj x=S.obj x)→K (aI (BU l k n)) S'):Bh Pg (tR b) [aI n] S K X:=
 .inl (Ys h.ao h.lo (by omega) hl hn (by omega) fun S' n2 o2 f2=>kk S' ⟨by have:=h.n;omega,(f2 _ (by omega)).trans h.lo,o2,(f2 _ (by omega)).trans h.po,(f2 _ (by omega)).trans h.mo⟩ n2 f2)
def CS:Nat→Nat
 |0=>3
 |d+1=>3+2*CS d
theorem KQ:∀ d,3≤CS d
 |0=>by decide
 |d+1=>by unfold CS;omega
def Kv(b:Nat)(l:List Int)(k d:Nat)(T:Aa)(tr:AV)(T':Aa):Prop:=∃(f:Fo) (k':Nat),tr=f.av∧Mg b l k' T'∧Ch b T T'∧k≤k'∧k'≤k+CS d∧Kw d f
theorem Gt{e:Nat}{z1 z2 z3 z4:AV}{r:List AV}{S:Aa}{K:AV→Aa→Prop}(hr:r.length=4)(k:K (.l [r]) S):AU e 4 1 [z1,z2,z3,z4] [(0,.a r)] S K:=by
 match r,hr with
 |[u,v,w,x],_ =>
  refine⟨[u,v,w,x],?_,.inr ?_⟩
  ·simp[Cu,cellsOf,Jw]
  ·simpa[chunks]using k
theorem AhI{e:Nat}{z:AV}{a1 a2 a3 a4 a5 a6 a7:ByteArray}{S:Aa}{K:AV→Aa→Prop}(k:K (aL (fun a=>.v (.string a)) [a1,a2,a3,a4,a5,a6,a7]) S):
    AU e 1 7 [z] [(0,.v (.string a1)),(1,.v (.string a2)),(2,.v (.string a3)),(3,.v (.string a4)),(4,.v (.string a5)),(5,.v (.string a6)),(6,.v (.string a7))] S K:=by
 refine⟨[.v (.string a1),.v (.string a2),.v (.string a3),.v (.string a4),.v (.string a5),.v (.string a6),.v (.string a7)],?_,.inr ?_⟩
 ·have h:∀ a:ByteArray,cellsOf (.v (.string a))=some [.v (.string a)]:=fun _=>rfl
  simp[Cu,h,Jw,AiP]
 ·simpa[chunks,AiP,aL]using k
section
variable {b:Nat} {l:List Int} (hl:∀ x∈l,0≤x∧x<256) {d:Nat}
 (ih:∀ d',d=d'+1→∀{k:Nat} {T:Aa},Mg b l k T→k+CS d'≤1000→Ad Pg 19 [aI d',.p (b+3) 0 0,.p (b+2) 0 0,.p b 0 0,.p (b+4) 0 0] T (fun e T'=>∃ tr,e = .ret tr∧Kv b l k d' T tr T'))
include ih
theorem Vn{T0 T:Aa}{k0 k fid:Nat}{kd:Int}{nm:ByteArray}{r:Int}{Q:Bg→Aa→Prop}(hm:Mg b l k T)(h0:b+5≤T0.n)(hc:Ch b T0 T)(hb:b+2<T0.n)(hf:T0.n<fid)(hfT:fid<T.n)(hv1:T.obj T0.n=some (.cells 32 [(Fo.mk 0 ⟨#[]⟩ 0 []).row.set 3 .nl] true))
    (ho:T.obj fid=some (.cells 32 [[aI kd,.v (.string nm),aI 0,.nl]] true)) (hr:r=Ct kd) (h1:1≤kd) (h2:kd≤18) (h3:kd=3→nm∈FN) (h4:¬ kd=3→nm=⟨#[]⟩) (h5:kd≤3∨0<d) (hd:d≤6)
    (hk0:k0≤k) (hk:k≤k0+3) (hk1:k0+CS d≤1000) (hQ:∀ rr tr T',Cv (T'.Bx (AK T0.n)) T'.n rr tr→Kv b l k0 d T0 tr T'→Q (.ret rr) T'):
    Ap KU (vc Pg (kR.at_ [1,1,1,1,1,0,1,0,0]) (MK.drop 1)) 55 (G2 (aI d) (.p (b+4) 0 0) (.p T0.n 0 0) (.p fid 0 0) (aI r)) T (Ak 0 (Av (vc Pg (kR.at_ [1,1,1,1,1,1]) (MK.drop 1)) (Ao Pg r19 Q))):=by
 have hr0:0≤r∧r≤2∧(kd≤3→r=0):=by
  have hle:=JN kd
  subst hr
  refine⟨?_,hle,fun h=>?_⟩
  ·unfold Ct
   rw[if_neg (by omega)]
   split
   ·omega
   split<;>omega
  ·unfold Ct
   rw[if_neg (by omega),if_pos h]
 have hP:∀ d',d=d'+1→CS d=3+2*CS d':=fun d' e=>by subst e;rfl
 refine aJ (fun y S'=>∃(i k':Nat) (ks:List Fo) (yk:AV),y=aI i∧(i:Int)+ks.length=r∧Mg b l k' S'∧Ch b T0 S'∧fid<S'.n∧S'.obj T0.n=some (.cells 32 [(Fo.mk 0 ⟨#[]⟩ 0 []).row.set 3 .nl] true)∧
     S'.obj fid=some (.cells 32 [[aI kd,.v (.string nm),aI 0,yk]] true)∧A4 (fid+1) S' yk 32 (ks.map Fo.row)∧(∀ f∈ks,Kw (d - 1) f)∧k0≤k'∧k'+i*CS (d - 1)≤k0+3+r.toNat*CS (d - 1))
  (fun y _=>((Aw y).getD 0).toNat) ⟨r.toNat,k,[],.nl,by rw[show((r.toNat:Nat):Int)=r by omega],by simp;omega,hm,hc,hfT,hv1,ho,.nl _ _ _,(fun f h=>by cases h),hk0,by omega⟩ ?_
 dsimp only[BS]
 rintro _ S1 ⟨i,k',ks,yk,rfl,hi,m1,c1,f1,v1,o1,w1,hks,hk2,hk3⟩ KE hKE
 dsimp only[vU,Fi,Lt]
 have mn:=m1.n
 rw[AP,Ag]
 refine Al (fun h=>?_) (fun h=>?_)
 ·have hpos:0<i:=by have:=dT h;omega
  obtain⟨i',rfl⟩:∃ i',i=i'+1:=⟨i - 1,by omega⟩
  have hd0:0<d:=by
   rcases h5 with h5|h5
   ·have:=hr0.2.2 h5
    omega
   ·exact h5
  obtain⟨d',rfl⟩:∃ d',d=d'+1:=⟨d - 1,by omega⟩
  have hP':=hP d' rfl
  rw[show d'+1 - 1=d' from rfl]at hk3 hks
  have hi2:i'+1≤2:=by omega
  have hrt:r.toNat≤2:=by omega
  have hmul:r.toNat*CS d'≤2*CS d':=Nat.mul_le_mul_right _ hrt
  have hsplit:(i'+1)*CS d'=i'*CS d'+CS d':=Nat.succ_mul _ _
  refine B3 ?_
  refine Hk o1 f1 rfl rfl ?_
  refine Hk m1.mo (by omega) rfl rfl ?_
  refine⟨aI d',fun T hT=>by rw[Bz (by omega) (by omega),show((d'+1:Nat):Int) - 1=d' by omega];exact⟨rfl,rfl⟩,?_⟩
  refine .inl ((ih d' rfl m1 (by omega)).mono ?_)
  rintro e S2 ⟨tr,rfl,f,k2,rfl,m2,c2,hk4,hk5,hf2⟩
  show _∧_
  have o2:=(c2.2 _ f1 (by omega)).trans o1
  have n2:=c2.1
  have w2:A4 (fid+1) S2 yk 32 (ks.map Fo.row):=w1.same n2 fun j hj hj2=>c2.2 j hj2 (by omega)
  refine⟨fun T hT=>by rw[Af (Kg hT o2) rfl rfl];exact⟨rfl,rfl⟩,fun T hT=>⟨rfl,rfl⟩,?_⟩
  refine⟨.l [f.row],fun T hT=>Gt (Fo.Aj f) ⟨rfl,rfl⟩,?_⟩
  refine w2.app (c:=f.row) (by omega) (Fo.Aj f) (by rw[Ai8];omega) (fun z S3 w3 b3 hz3=>?_) rfl
  obtain⟨m3,hm3⟩:=hz3
  have n3:=b3.1
  have k3:∀ x,x<fid+1→S3.obj x=S2.obj x:=fun x hx=>b3.2 x (by omega) (fun b m e=>by have:=w2.lt e;omega)
  refine B3 ?_
  refine B8 ((k3 _ (by omega)).trans o2) (by simp) (by rw[hm3];rfl) fun S4 n4 o4 f4=>?_
  rw[Bz (by omega) (by omega),show((i'+1:Nat):Int) - 1=i' by omega]
  have Eo:∀ x,x<fid→S4.obj x=S2.obj x:=fun x hx=>(f4 x (by omega)).trans (k3 x (by omega))
  refine hKE _ _ ⟨i',k2,ks ++ [f],z,rfl,by simp;omega,m2.mv (by omega) fun x hx=>Eo x (by omega),(c1.trans c2).low (by omega) fun x hx=>Eo x (by omega),by omega,(Eo _ hf).trans ((c2.2 _ (by omega) (by omega)).trans v1),o4,?_,?_,by omega,?_⟩ (by simp[Aw])
  ·rw[AiB]
   exact w3.st (id:=fid) (fun b m e=>by rw[hm3]at e;injection e;omega) n4 f4
  ·intro g hg
   rcases AiQ.1 hg with hg|hg
   ·exact hks g hg
   ·rw[AiA.1 hg];exact hf2
  ·show k2+i'*CS d'≤k0+3+r.toNat*CS d'
   omega
 ·have hge:i=0:=by have:=dF h;omega
  subst hge
  rw[An (n:=4) o1 rfl]
  refine AF v1 rfl (by rw[List.length_set,Fo.Aj]) fun S2 n2 o2 f2=>?_
  rw[An (n:=4) o2 rfl]
  have w2:A4 (fid+1) S2 yk 32 (ks.map Fo.row):=w1.st (id:=T0.n) (fun b m e=>by have:=w1.lt e;omega) n2 f2
  refine hQ _ (Fo.mk kd nm 0 ks).av S2 ?_ ⟨.mk kd nm 0 ks,k',rfl,m1.st (id:=T0.n) (by omega) n2 f2,c1.st (.inl (Ai4 _)) n2 f2,hk2,?_,.mk _ _ _ _ h1 h2 (by omega) h3 h4 (fun hne=>?_) hks⟩
  ·rw[Fo.av,Fo.AE]
   refine .a _ _ rfl fun k u u2 e1 e2=>?_
   match k with
   |0=>cases e1;cases e2;exact .v _
   |1=>cases e1;cases e2;exact .v _
   |2=>cases e1;cases e2;exact .v _
   |3=>cases e1;cases e2;exact Ef (fun r hr u hu=>by obtain⟨f,_,rfl⟩:=AiL.1 hr;exact Fo.tree f u hu) w2 (by omega)
   |k+4=>simp at e1
  ·rcases Nat.eq_zero_or_pos d with hz|hz
   ·have:r=0:=hr0.2.2 (by omega)
    rw[this]at hk3
    have:=KQ d
    simp at hk3
    omega
   ·obtain⟨d',rfl⟩:∃ d',d=d'+1:=⟨d - 1,by omega⟩
    have hP':=hP d' rfl
    have hmul:r.toNat*CS d'≤2*CS d':=Nat.mul_le_mul_right _ (by omega)
    rw[show d'+1 - 1=d' from rfl]at hk3
    omega
  ·rcases h5 with h5|h5
   ·have:=hr0.2.2 h5
    have:ks = []:=List.eq_nil_of_length_eq_zero (by omega)
    exact absurd this hne
   ·exact h5
end
section
variable {b:Nat} {l:List Int} (hl:∀ x∈l,0≤x∧x<256) {d:Nat}
 (ih:∀ d',d=d'+1→∀{k:Nat} {T:Aa},Mg b l k T→k+CS d'≤1000→Ad Pg 19 [aI d',.p (b+3) 0 0,.p (b+2) 0 0,.p b 0 0,.p (b+4) 0 0] T (fun e T'=>∃ tr,e = .ret tr∧Kv b l k d' T tr T'))
include hl ih
theorem LK{T0 T:Aa}{k0 k:Nat}{kd:Int}{Q:Bg→Aa→Prop}(hm:Mg b l k T)(h0:b+5≤T0.n)(hc:Ch b T0 T)(hT:T0.n<T.n)(hv1:T.obj T0.n=some (.cells 32 [(Fo.mk 0 ⟨#[]⟩ 0 []).row.set 3 .nl] true))
    (h1:1≤kd) (h2:kd≤18) (h5:kd≤3∨0<d) (hd:d≤6) (hk0:k0≤k) (hk:k≤k0+2) (hk1:k0+CS d≤1000) (hQ:∀ rr tr T',Cv (T'.Bx (AK T0.n)) T'.n rr tr→Kv b l k0 d T0 tr T'→Q (.ret rr) T'):
    CH [(0,1),(1,1),(2,1),(3,1)] [.v (.int .i64 0),.v (.string ByteArray.empty),.v (.int .i64 0),.nl] [(0,(aI kd))] T fun v11 S=>Az 32 4 (.a [.v (.int .i64 0),.v (.string ByteArray.empty),.v (.int .i64 0),.nl]) S fun v12 S=>A8 4 v12 v11 S fun v13 S=>bin .eql 0 (aI kd) (.v (.int .i64 3)) S fun v14 S=>GI v14 fun b15=>gd b15 (AU 9 1 7 [.v (.string ByteArray.empty)] [(0,(.v (.string { data:=#[113] }))),(1,(.v (.string { data:=#[108,48] }))),(2,(.v (.string { data:=#[111,117,116] }))),(3,(.v (.string { data:=#[108,49] }))),(4,(.v (.string { data:=#[105,48] }))),(5,(.v (.string { data:=#[111,48] }))),(6,(.v (.string { data:=#[97,45,98] })))] S fun v16 S=>Ax (.p (b+3) 0 0) S fun v17 S=>Bh Pg v17 [.v (.int .i64 7)] S (fun v18 S=>AR 9 1 v16 v18 S fun v19 S=>Ax v19 S fun v20 S=>shift v12 1 S fun v21 S=>A8 1 v21 v20 S fun v22 S=>Ah Pg 20 [(aI kd)] S Q fun v23 S=>Ap KU (vc Pg (kR.at_ [1,1,1,1,1,0,1,0,0]) (MK.drop 1)) 55 (G2 (aI d) (.p (b+4) 0 0) (.p T0.n 0 0) v12 v23) S (Ak 0 (Av (vc Pg (kR.at_ [1,1,1,1,1,1]) (MK.drop 1)) (Ao Pg r19 Q)))) (fun u S=>Q (.pan u) S)) (Ah Pg 20 [(aI kd)] S Q fun v24 S=>Ap KU (vc Pg (kR.at_ [1,1,1,1,1,0,1,0,0]) (MK.drop 1)) 55 (G2 (aI d) (.p (b+4) 0 0) (.p T0.n 0 0) v12 v24) S (Ak 0 (Av (vc Pg (kR.at_ [1,1,1,1,1,1]) (MK.drop 1)) (Ao Pg r19 Q)))):=by
 have hmp:=KQ d
 rw[A7 (cs:=[aI kd,.v (.string ⟨#[]⟩),aI 0,.nl]) rfl]
 refine Ai rfl fun S1 k1 n1 o1=>?_
 refine AF (cs':=[aI kd,.v (.string ⟨#[]⟩),aI 0,.nl]) o1 rfl rfl fun S2 n2 o2 f2=>?_
 have k2:=k1.st (Ai4 _) n2 f2
 have m2:=hm.AS k2
 have c2:=hc.trans (Ch.AS (b:=b) k2)
 have v2:=(k2.2 _ hT).trans hv1
 rw[AD,Ag]
 refine Al (fun h=>?_) (fun h=>?_)
 ·have h:kd=3:=dT h
  refine AhI ?_
  rw[Af m2.po rfl rfl]
  refine m2.pick hl (by omega) (by omega) fun S3 m3 n3 f3=>?_
  obtain⟨q0,q7⟩:=BF (l:=l) (k:=k) (n:=7) (fun x hx=>⟨(hl x hx).1,by have:=(hl x hx).2;omega⟩) (by omega)
  generalize BU l k 7=p at *
  obtain⟨p,rfl⟩:=AiE q0
  have hp:p<FN.length:=by simp[FN];omega
  rw[show ∀ K:AV→Aa→Prop,AR 9 1 (aL (fun a=>.v (.string a)) [⟨#[113]⟩,⟨#[108,48]⟩,⟨#[111,117,116]⟩,⟨#[108,49]⟩,⟨#[105,48]⟩,⟨#[111,48]⟩,⟨#[97,45,98]⟩]) (aI p) S3 K=K (.q [.v (.string FN[p])] 0) S3 from fun K=>AM (l:=FN) hp]
  rw[A3,Ac]
  have o3:=(f3 T.n (by have:=hm.n;omega)).trans o2
  refine B8 o3 (by simp) rfl fun S4 n4 o4 f4=>?_
  refine Ae (jS kd) ?_
  exact Vn ih (nm:=FN[p]) (m3.st (id:=T.n) (by have:=hm.n;omega) n4 f4) h0 ((c2.st (.inr rfl) n3 f3).st (.inl (by omega)) n4 f4) (by omega) hT (by omega) ((f4 _ (by omega)).trans ((f3 _ (by omega)).trans v2)) o4 rfl h1 h2 (fun _=>Ai6 _) (fun h'=>absurd h h') h5 hd (by omega) (by omega) hk1 hQ
 ·have h:¬ kd=3:=dF h
  refine Ae (jS kd) ?_
  exact Vn ih (nm:=⟨#[]⟩) m2 h0 c2 (by omega) hT (by omega) v2 o2 rfl h1 h2 (fun h'=>absurd h' h) (fun _=>rfl) h5 hd (by omega) (by omega) hk1 hQ
theorem N5(hd:d≤6){k:Nat}{T:Aa}(hm:Mg b l k T)(hk:k+CS d≤1000):Ad Pg 19 [aI d,.p (b+3) 0 0,.p (b+2) 0 0,.p b 0 0,.p (b+4) 0 0] T (fun e T'=>∃ tr,e = .ret tr∧Kv b l k d T tr T'):=by
 have hmp:=KQ d
 have h0:=hm.n
 refine(Ad.tI (Φ:=fun tr T'=>Kv b l k d T tr T') (rH ?_)).mono ?_
 ·dsimp only[m19,Vh,Zw,O9,Fi]
  refine Ai (cs:=(Fo.mk 0 ⟨#[]⟩ 0 []).row.set 3 .nl) (by rw[List.length_set,Fo.Aj]) fun S1 k1 n1 o1=>?_
  have hQ:∀ rr tr T',Cv (T'.Bx (AK T.n)) T'.n rr tr→Kv b l k d T tr T'→∃ r tr,Bg.ret rr = .ret r∧Cv (T'.Bx (AK T.n)) T'.n r tr∧Kv b l k d T tr T':=fun rr tr T' h1 h2=>⟨rr,tr,rfl,h1,h2⟩
  have m1:=hm.AS k1
  rw[Af m1.po rfl rfl]
  refine m1.pick hl (by omega) (by omega) fun S2 m2 n2 f2=>?_
  obtain⟨p0,p18⟩:=BF (l:=l) (k:=k) (n:=18) (fun x hx=>⟨(hl x hx).1,by have:=(hl x hx).2;omega⟩) (by omega)
  generalize BU l k 18=pk at *
  have c2:Ch b T S2:=(Ch.AS (b:=b) k1).st (.inr rfl) n2 f2
  have v2:=(f2 _ (by omega)).trans o1
  rw[Ar (by omega) (by omega),AD,Ag]
  refine Al (fun h=>?_) (fun h=>?_)
  ·
   rw[Af m2.po rfl rfl]
   refine m2.pick hl (by omega) (by omega) fun S3 m3 n3 f3=>?_
   obtain⟨q0,q7⟩:=BF (l:=l) (k:=k+1) (n:=7) (fun x hx=>⟨(hl x hx).1,by have:=(hl x hx).2;omega⟩) (by omega)
   generalize BU l (k+1) 7=p at *
   have hq:p.tdiv 5=p / 5:=AiI q0
   rw[FJ (by omega) (by omega) (by omega),Bz (by omega) (by omega)]
   exact LK hl ih (kd:=3 - p.tdiv 5) m3 h0 (c2.st (.inr rfl) n3 f3) (by omega) ((f3 _ (by omega)).trans v2) (by omega) (by omega) (.inl (by omega)) hd (by omega) (by omega) hk hQ
  have hd0:¬ (d:Int)=0:=dF h
  rw[Af m2.ao rfl rfl,Af m2.lo rfl rfl,Ay,BA,Ag]
  refine Al (fun h=>?_) (fun h=>?_)
  ·
   rw[Af m2.po rfl rfl]
   refine m2.pick hl (by omega) (by omega) fun S3 m3 n3 f3=>?_
   obtain⟨q0,q7⟩:=BF (l:=l) (k:=k+1) (n:=7) (fun x hx=>⟨(hl x hx).1,by have:=(hl x hx).2;omega⟩) (by omega)
   generalize BU l (k+1) 7=p at *
   have hq:p.tdiv 5=p / 5:=AiI q0
   rw[FJ (by omega) (by omega) (by omega),Bz (by omega) (by omega)]
   exact LK hl ih (kd:=3 - p.tdiv 5) m3 h0 (c2.st (.inr rfl) n3 f3) (by omega) ((f3 _ (by omega)).trans v2) (by omega) (by omega) (.inl (by omega)) hd (by omega) (by omega) hk hQ
  rw[Af m2.ao rfl rfl,AP,Ag]
  refine Al (fun h=>?_) (fun h=>?_)
  ·
   rw[Af m2.po rfl rfl]
   refine m2.pick hl (by omega) (by omega) fun S3 m3 n3 f3=>?_
   obtain⟨q0,q7⟩:=BF (l:=l) (k:=k+1) (n:=7) (fun x hx=>⟨(hl x hx).1,by have:=(hl x hx).2;omega⟩) (by omega)
   generalize BU l (k+1) 7=p at *
   have hq:p.tdiv 5=p / 5:=AiI q0
   rw[FJ (by omega) (by omega) (by omega),Bz (by omega) (by omega)]
   exact LK hl ih (kd:=3 - p.tdiv 5) m3 h0 (c2.st (.inr rfl) n3 f3) (by omega) ((f3 _ (by omega)).trans v2) (by omega) (by omega) (.inl (by omega)) hd (by omega) (by omega) hk hQ
  exact LK hl ih (kd:=1+pk) m2 h0 c2 (by omega) v2 (by omega) (by omega) (.inr (by omega)) hd (by omega) (by omega) hk hQ
 ·rintro e T' ⟨tr,T1,rfl,rfl,f,k',rfl,m',c',h1,h2,h3⟩
  have Eo:∀ i,i<T.n→(T1.Bx (AK T.n)).obj i=T1.obj i:=fun i hi=>CG (by simp[AK];omega)
  exact⟨_,rfl,f,k',rfl,m'.mv (Ai4 _) fun i hi=>Eo i (by omega),⟨c'.1,fun i hi hb=>(Eo i hi).trans (c'.2 i hi hb)⟩,h1,h2,h3⟩
end
theorem mK{b:Nat}{l:List Int}(hl:∀ x∈l,0≤x∧x<256):∀{d:Nat},d≤6→∀{k:Nat} {T:Aa},Mg b l k T→k+CS d≤1000→Ad Pg 19 [aI d,.p (b+3) 0 0,.p (b+2) 0 0,.p b 0 0,.p (b+4) 0 0] T (fun e T'=>∃ tr,e = .ret tr∧Kv b l k d T tr T'):=by
 intro d
 induction d with
 |zero=>exact fun hd {k T} hm hk=>N5 hl (fun d' h=>by omega) hd hm hk
 |succ d ih =>
  intro hd k T hm hk
  refine N5 hl (fun d' h {k T} hm hk=>?_) hd hm hk
  obtain rfl:d=d':=by omega
  exact ih (by omega) hm hk
theorem AcK{l:List Int}(hl:∀ x∈l,0≤x∧x<256){S:Aa}:Ad Pg 8 [aL Qp l] S (fun e S'=>∃ tr,e = .ret tr∧S'=S∧∃ f:Fo,tr=f.av∧Kw 6 f):=by
 refine Ad.Le (yZ ?_)
 unfold m8
 refine BM rfl fun S1 k1 n1 o1=>?_
 refine Ai rfl fun S2 k2 n2 o2=>?_
 refine BM rfl fun S3 k3 n3 o3=>?_
 refine Cc o3 rfl rfl fun S4 n4 o4 f4=>?_
 refine BM rfl fun S5 k5 n5 o5=>?_
 refine Cc o5 rfl rfl fun S6 n6 o6 f6=>?_
 refine BM rfl fun S7 k7 n7 o7=>?_
 refine Cc o7 rfl rfl fun S8 n8 o8 f8=>?_
 rw[Af o8 rfl rfl]
 have e2:S2.n=S.n+2:=by omega
 have e4:S4.n=S.n+3:=by omega
 have e6:S6.n=S.n+4:=by omega
 rw[e2]at o3 o4 f4
 rw[e4]at o5 o6 f6
 rw[e6]at o7 o8 f8
 have q8:∀ i,i<S.n+4→S8.obj i=S6.obj i:=fun i hi=>(f8 i (by omega)).trans (k7.2 i (by omega))
 have q6:∀ i,i<S.n+3→S8.obj i=S4.obj i:=fun i hi=>(q8 i (by omega)).trans ((f6 i (by omega)).trans (k5.2 i (by omega)))
 have q4:∀ i,i<S.n+2→S8.obj i=S2.obj i:=fun i hi=>(q6 i (by omega)).trans ((f4 i (by omega)).trans (k3.2 i (by omega)))
 have hm:Mg S.n l 0 S8:=⟨by omega,(q4 _ (by omega)).trans (Kg k2 o1),(q6 _ (by omega)).trans o4,(q8 _ (by omega)).trans (by rw[o6,e2];rfl),by rw[o8,e2,e4];rfl⟩
 refine .inl ?_
 rw[e2,e4,e6]
 refine(mK (d:=6) hl (Ai4 _) hm (by decide)).mono ?_
 rintro e S9 ⟨tr,rfl,f,k',rfl,m9,c9,_,_,hf⟩
 show A8 4 _ _ _ _
 have n9:=m9.n
 have c9n:=c9.1
 refine AF ((c9.2 S1.n (by omega) (by omega)).trans ((q4 _ (by omega)).trans o2)) (Fo.Aj f) rfl fun S10 n10 o10 f10=>?_
 rw[An (n:=4) o10 (Fo.Aj f)]
 refine⟨_,f.av,rfl,⟨by omega,fun i hi=>(f10 i (by omega)).trans ((c9.2 i (by omega) (by omega)).trans ((q4 i (by omega)).trans ((k2.2 i (by omega)).trans (k1.2 i hi))))⟩,Tree.a (fun u hu=>Fo.tree f u hu) _ _,f,rfl,hf⟩
def Xi(m:Int)(n:ByteArray):Int:=((n.size:Int)*7+(n[0]!).toNat).tmod (if 1 > m then 1 else m)
mutual
def Fo.F5(m:Int):Fo→Fo
 |.mk k n _ ks=>.mk k ⟨#[]⟩ (if k=3 then Xi m n else 0) (Fo.MY m ks)
def Fo.MY(m:Int):List Fo→List Fo
 |[]=>[]
 |f :: fs=>Fo.F5 m f :: Fo.MY m fs
end
theorem Fo.MX(m:Int):∀ l:List Fo,Fo.MY m l=l.map (Fo.F5 m)
 |[]=>by rw[Fo.MY];rfl
 |f :: fs=>by rw[Fo.MY,Fo.MX m fs];rfl
theorem Fo.RB(m k:Int)(n:ByteArray)(l:Int)(ks:List Fo):Fo.F5 m (.mk k n l ks) = .mk k ⟨#[]⟩ (if k=3 then Xi m n else 0) (ks.map (Fo.F5 m)):=by rw[Fo.F5,Fo.MX]
theorem aV{m:Int}(n:ByteArray):0≤Xi m n∧Xi m n<max m 1:=by
 unfold Xi
 have h:(0:Int)<(if 1 > m then 1 else m):=by split<;>omega
 have h0:(0:Int)≤(n.size:Int)*7+(n[0]!).toNat:=by omega
 have h3:(if 1 > m then 1 else m)≤max m 1:=by split<;>omega
 generalize(if 1 > m then 1 else m)=q at *
 rw[AiX h0]
 have h1:=Int.emod_nonneg ((n.size:Int)*7+(n[0]!).toNat) (show q≠0 by omega)
 have h2:=Int.emod_lt_of_pos ((n.size:Int)*7+(n[0]!).toNat) h
 exact⟨h1,by omega⟩
theorem aU{m:Int}(hm:m≤9223372036854775807):∀(f:Fo) (d:Nat),Kw d f→(f.F5 m).ok∧(f.F5 m).BP (d+1)=true∧∀ g:Gr,(∀ l:Int,0≤l→l<max m 1→g.lit l=true)→(f.F5 m).DC g=true:=by
 intro f
 induction f using Fo.ind with
 |h k n l ks ih =>
  intro d h
  cases h with
  |mk d _ _ _ h1 h2 h3 h4 h5 h6 h =>
   have hk:=JN k
   have hv:=aV (m:=m) n
   rw[Fo.RB]
   refine⟨.mk _ _ _ _ ⟨by omega,by omega⟩ (by unfold By;split<;>omega) (by decide) (by rw[Ai8];omega) fun g hg=>?_,?_,fun g hg=>?_⟩
   ·obtain⟨f,hf,rfl⟩:=AiL.1 hg
    exact(ih f hf _ (h f hf)).1
   ·rw[Fo.Cm]
    simp only[Ai5,decide_eq_true_eq,AiD,Ai8]
    refine⟨by omega,?_,trivial,h3,fun g hg=>?_⟩
    ·split
     ·rename_i hk3
      rcases Int.lt_or_eq_of_le hv.1 with h|h
      ·exact .inr ⟨h,hk3⟩
      ·exact .inl h.symm
     ·exact .inl rfl
    ·obtain⟨f,hf,rfl⟩:=AiL.1 hg
     have:=(ih f hf _ (h f hf)).2.1
     have hd:=h6 (fun e=>by subst e;cases hf)
     rwa [show((d - 1:Nat):Int)+1=(d:Int)+1 - 1 by omega]at this
   ·rw[Fo.JJ]
    simp only[Ai5,Bool.or_eq_true,decide_eq_true_eq,AiD]
    refine⟨?_,fun g' hg'=>?_⟩
    ·by_cases hk3:k=3
     ·rw[if_pos hk3];exact .inr (hg _ hv.1 hv.2)
     ·exact .inl hk3
    ·obtain⟨f,hf,rfl⟩:=AiL.1 hg'
     exact(ih f hf _ (h f hf)).2.2 g hg
theorem Ih:∀(f:Fo) {d d':Int},d≤d'→f.BP d=true→f.BP d'=true:=by
 intro f
 induction f using Fo.ind with
 |h k n l ks ih =>
  intro d d' hd h
  rw[Fo.Cm]at h ⊢
  simp only[Ai5,decide_eq_true_eq,AiD]at h ⊢
  obtain⟨h1,h2,h3,h4,h5⟩:=h
  exact⟨by omega,h2,h3,h4,fun f hf=>ih f hf (by omega) (h5 f hf)⟩
theorem AaO{n:ByteArray}(h:n∈FN):0<n.size∧n.size≤3:=by
 simp only[FN,AiO,AiT,or_false]at h
 rcases h with rfl|rfl|rfl|rfl|rfl|rfl|rfl<;>decide
theorem AgH{m:Int}(hm:By m):∀(f:Fo) (d:Nat),Kw d f→BH Pg 38 [f.av,aI m] (f.F5 m).av:=by
 intro f
 induction f using Fo.ind with
 |h k n l ks ih =>
  intro d h S
  have hok:=h.ok
  cases h with
  |mk d _ _ _ h1 h2 h3 h4 h5 h6 hks =>
  have hkl:=JN k
  refine Ad.tree (qQ ?_)
  dsimp only[m38,Zt,Fi,Lf,Lt]
  rw[Fo.av,Fo.AE]
  refine Ai rfl fun S1 k1 n1 o1=>?_
  refine Ai rfl fun S2 k2 n2 o2=>?_
  have p2:=(Kg k2 o1)
  rw[Ac,Af p2 rfl rfl,A7 (cs:=[aI k,.v (.string ⟨#[]⟩),aI 0,.nl]) rfl]
  refine Ai rfl fun S3 k3 n3 o3=>?_
  refine AF (cs':=[aI k,.v (.string ⟨#[]⟩),aI 0,.nl]) o3 rfl rfl fun S4 n4 o4 f4=>?_
  have k4:=k3.st (Ai4 _) n4 f4
  have p4:=(Kg k4 p2)
  have r4:=(Kg k4 o2)
  have kk:=(k1.trans k2).trans k4
  have tail:∀(T:Aa) (v:Int),v=(if k=3 then Xi m n else 0)→Am S T→S4.n≤T.n→T.obj S.n=some (.cells 32 [[aI k,.v (.string n),aI 0,Dx ks]] true)→T.obj S1.n=some (.cells 32 [[.v (.int .i64 0),.v (.string ByteArray.empty),.v (.int .i64 0),.nl]] true)→
      T.obj S2.n=some (.cells 32 [[aI k,.v (.string ⟨#[]⟩),aI v,.nl]] true)→
      Ap Pb (vc Pg (c38.at_ [1,1,1,0,1,0,0]) (SU.drop 1)) 46 (JZ (aI m) (.p S.n 0 0) (.p S1.n 0 0) (.p S2.n 0 0) (.v (.int .i64 0))) T (Ak 0 (Av (vc Pg (c38.at_ [1,1,1,1]) (SU.drop 1)) (Ao Pg r38 fun e S'=>∃ r,e = .ret r∧Am S S'∧Cv (S'.Bx (AK S.n)) S.n r (Fo.F5 m (.mk k n 0 ks)).av))):=by
   intro T v hv kT nT oa ob oc
   refine Z6 (fun y S'=>∃(i:Nat) (z:AV),y=aI i∧i≤ks.length∧Am S S'∧S4.n≤S'.n∧S'.obj S.n=some (.cells 32 [[aI k,.v (.string n),aI 0,Dx ks]] true)∧S'.obj S1.n=some (.cells 32 [[.v (.int .i64 0),.v (.string ByteArray.empty),.v (.int .i64 0),.nl]] true)∧
       S'.obj S2.n=some (.cells 32 [[aI k,.v (.string ⟨#[]⟩),aI v,z]] true)∧A4 S4.n S' z 32 (((ks.take i).map (Fo.F5 m)).map Fo.row))
    (fun y _=>ks.length - ((Aw y).getD 0).toNat) ⟨0,.nl,rfl,Ai9 _,kT,nT,oa,ob,oc,.nl _ _ _⟩ ?_
   dsimp only[BS]
   rintro _ S5 ⟨i,z,rfl,hi,k5,n5,oa,ob,oc,w5⟩ KE hKE
   dsimp only[vJ,Fi,Lf,Lt,Lc]
   rw[Ac,Af oa rfl rfl,BJ,As,Ag]
   refine Al (fun hlt=>?_) (fun hge=>?_)
   ·have hlt:i<ks.length:=by have:=dT hlt;omega
    have hmem:=Ai6 hlt
    refine B3 ?_
    refine Hk oc (by omega) rfl rfl ?_
    refine B3 ?_
    refine Hk oa (by omega) rfl rfl ?_
    refine⟨_,fun T hT=>by rw[Cn hlt];exact⟨rfl,rfl⟩,?_⟩
    refine AaA (Fo.Aj _) ?_
    refine EG (ih _ hmem _ (hks _ hmem)) ?_
    refine⟨.l [(Fo.F5 m ks[i]).row],fun T hT=>Gt (Fo.Aj _) ⟨rfl,rfl⟩,?_⟩
    refine w5.app (c:=(Fo.F5 m ks[i]).row) (by omega) (Fo.Aj _) (by simp;omega) (fun z' S6 w6 b6 hz=>?_) rfl
    obtain⟨m6,hm6⟩:=hz
    have n6:=b6.1
    have old6:∀ x,x<S4.n→S6.obj x=S5.obj x:=fun x hx=>b6.2 x (by omega) (fun b m e=>by have:=w5.lt e;omega)
    refine B3 ?_
    refine B8 ((old6 _ (by omega)).trans oc) (by simp) (by rw[hm6];rfl) fun S7 n7 o7 f7=>?_
    rw[Ar (by omega) (by omega)]
    have old7:∀ x,x<S2.n→S7.obj x=S5.obj x:=fun x hx=>(f7 x (by omega)).trans (old6 x (by omega))
    refine hKE _ _ ⟨i+1,z',rfl,hlt,⟨by have:=k5.1;omega,fun x hx=>(old7 x (by omega)).trans (k5.2 x hx)⟩,by omega,(old7 _ (by omega)).trans oa,(old7 _ (by omega)).trans ob,o7,?_⟩ (by simp[Aw];omega)
    rw[AiR,Ai3 hlt,AiB,AiB]
    exact w6.st (id:=S2.n) (fun b m e=>by rw[hm6]at e;injection e;omega) n7 f7
   ·have hge:i=ks.length:=by have:=dF hge;omega
    subst hge
    rw[An (n:=4) oc rfl]
    refine AF ob rfl rfl fun S6 n6 o6 f6=>?_
    rw[An (n:=4) o6 rfl]
    have w6:A4 S4.n S6 z 32 _:=w5.st (id:=S1.n) (fun b m e=>by have:=w5.lt e;omega) n6 f6
    rw[Aj3]at w6
    refine⟨_,rfl,k5.st (by omega) n6 f6,?_⟩
    rw[Fo.RB,Fo.av,Fo.AE,←hv]
    refine .a _ _ rfl fun k u u2 e1 e2=>?_
    match k with
    |0=>cases e1;cases e2;exact .v _
    |1=>cases e1;cases e2;exact .v _
    |2=>cases e1;cases e2;exact .v _
    |3=>cases e1;cases e2;exact Ef (fun r hr u hu=>by obtain⟨f,_,rfl⟩:=AiL.1 hr;exact Fo.tree f u hu) w6 (by omega)
    |k+4=>simp at e1
  rw[Ac,Af p4 rfl rfl,AD,Ag]
  refine Al (fun hk3=>?_) (fun hk3=>?_)
  ·have hk3:k=3:=dT hk3
   obtain⟨hn0,hn3⟩:=AaO (h4 hk3)
   have hb:((n[0]!).toNat)≤255:=by have:=(n[0]!).toNat_lt;omega
   have hne:(if 1 > m then 1 else m)≠0:=by split<;>omega
   refine B3 ?_
   refine Hk p4 (by omega) rfl rfl ?_
   refine⟨_,fun T hT=>by rw[EZ];exact⟨rfl,rfl⟩,?_⟩
   refine⟨_,fun T hT=>by rw[G7 (by omega) (by omega)];exact⟨rfl,rfl⟩,?_⟩
   refine B3 ?_
   refine Hk p4 (by omega) rfl rfl ?_
   refine⟨_,fun T hT=>by rw[show ∀ K:AV→Aa→Prop,HH (.v (.string n)) (.v (.int .i64 0)) T K=K (.v (.int .u8 (n[0]!).toNat)) T from fun K=>(Ik (i:=0) hn0).trans (by rw[getElem!_pos n 0 hn0])];exact⟨rfl,rfl⟩,?_⟩
   refine⟨_,fun T hT=>by rw[CT _ (by omega) (by omega)];exact⟨rfl,rfl⟩,?_⟩
   refine⟨_,fun T hT=>by rw[Ar (by omega) (by omega)];exact⟨rfl,rfl⟩,?_⟩
   refine⟨_,fun T hT=>by rw[U1];exact⟨rfl,rfl⟩,?_⟩
   refine⟨_,fun T hT=>by rw[C3 hne];exact⟨rfl,rfl⟩,?_⟩
   refine B3 ?_
   refine B8 o4 (by simp) rfl fun S5 n5 o5 f5=>?_
   exact tail S5 _ (by rw[if_pos hk3];rfl) (kk.st (by omega) n5 f5) (by omega) ((f5 _ (by omega)).trans p4) ((f5 _ (by omega)).trans r4) o5
  ·have hk3:¬ k=3:=dF hk3
   exact tail S4 0 (by rw[if_neg hk3]) kk (Ai4 _) p4 r4 o4
def Ss:Sp:=⟨1,[true,true],[true,false],[[1],[0]],[]⟩
theorem Yg:At Gs=Ss:=by
 have h:=(H8 (c:=Gs) (by rw[Uf])).1
 rw[Uf]at h
 exact(congrArg Prod.fst h).symm
theorem AhK{P:Nat→Prop}(h0:P 0)(h1:P 1)(h2:∀ i,2≤i→P i):∀ i,P i
 |0=>h0
 |1=>h1
 |i+2=>h2 _ (by omega)
theorem AhF{a b:List Bool}(ha:a.length=2)(hb:b.length=2)(h0:bit a 0=bit b 0)(h1:bit a 1=bit b 1):a=b:=
 PZ (by omega) (AhK h0 h1 fun i hi=>by rw[FU (by omega),FU (by omega)])
theorem AfE:IZ Ss [true,true] [true,true] = [true,true]:=
 AhF (by simp) rfl (D7.2 ⟨by decide,.base 0 rfl rfl⟩) (D7.2 ⟨by decide,.base 1 rfl rfl⟩)
theorem AfF:DW Ss [true,true] = [true,true]:=by
 refine(Vv rfl (fun i h=>by exact h) (fun y hl h _ i hi=>by have:=h i hi;exact this) fun f hf i hi=>?_).symm
 have:f = [true,true]:=by simpa[Bs,Ss]using hf
 subst this
 have:Ee Ss [true,true] [true,true] = [true,true]:=by
  show Bm [true,true] (NC Ss (IZ Ss [true,true] [true,true]))=_
  rw[AfE];rfl
 rw[this];exact hi
theorem Um:CE Gs Ss 2 = [false,true]:=by
 have e0:DT Gs ((0:Nat):Int) 2=false:=by rw[DT,IC,Ai7];decide
 have e1:DT Gs ((1:Nat):Int) 2=true:=by rw[DT,IC,Ai7];decide
 show[true && DT Gs ((0:Nat):Int) 2,true && DT Gs ((1:Nat):Int) 2]=_
 rw[e0,e1];rfl
abbrev Ey(l:Int):Fo:=.mk 3 ⟨#[]⟩ l []
abbrev AT(k:Int)(f:Fo):Fo:=.mk k ⟨#[]⟩ 0 [f]
abbrev A6(k:Int)(f g:Fo):Fo:=.mk k ⟨#[]⟩ 0 [f,g]
theorem SE(f:Fo):AY Gs f=f.C6 Ss [true,true] (CE Gs Ss):=by
 rw[AY,Yg]
 show f.C6 Ss (DW Ss [true,true]) _=_
 rw[AfF]
theorem lC:AY Gs (AT 9 (Ey 2)) = [true,false]:=by
 rw[SE,CM (by decide),Dg,Um]
 show NC Ss (Bm [false,true] [true,true])=_
 decide
theorem X6{f:Fo}(h:f.BP 60=true)(hl:f.DC Gs.gr=true):IQ Gs f=(AY Gs f,Ss,0):=by
 have hm:DU Gs f=true:=by rw[DU,IC,h,hl];rfl
 rw[IQ,if_neg (by rw[hm];decide),if_pos (by rw[Uf]),Yg]
theorem U3:(AT 9 (Ey 2)).BP 60=true∧(AT 9 (Ey 2)).DC Gs.gr=true:=by decide
theorem kZ:BW Gs (AT 9 (Ey 2))=([true,false],0):=by
 rw[I9,X6 U3.1 U3.2,lC]
theorem Fb{e:Nat}{z1 z2 z3 z4:AV}{r r2:List AV}{S:Aa}{K:AV→Aa→Prop}(hr:r.length=4)(hr2:r2.length=4)(k:K (.l [r,r2]) S):AU e 4 2 [z1,z2,z3,z4] [(0,.a r),(1,.a r2)] S K:=by
 match r,hr,r2,hr2 with
 |[u,v,w,x],_,[u2,v2,w2,x2],_ =>
  refine⟨[u,v,w,x,u2,v2,w2,x2],?_,.inr ?_⟩
  ·simp[Cu,cellsOf,Jw,AiP]
  ·simpa[chunks,AiP]using k
theorem Fo.tr(f:Fo):Tree f.av:=Tree.a fun u hu=>Fo.tree f u hu
structure XP (v:Int) (f:Fo):Prop where
 ok:f.ok
 may:f.BP 7=true
 lits:∀ g:Gr,(∀ l:Int,0≤l→l<2*v→g.lit l=true)→f.DC g=true
theorem Ab5{l:List Int}(hl:∀ x∈l,0≤x∧x<256){v:Int}(hv:1≤v)(hv2:v≤1000000){S:Aa}:Ad Pg 15 [aL Qp l,aI (2*v)] S (fun e S'=>∃ tr,e = .ret tr∧S'=S∧∃ f:Fo,tr=f.av∧XP v f):=by
 refine Ad.Le (rK ?_)
 unfold m15
 refine Ai rfl fun S1 k1 n1 o1=>?_
 refine .inl ((AcK hl).mono ?_)
 rintro e S' ⟨tr,rfl,rfl,f,rfl,hf⟩
 show Ah _ _ _ _ _ _
 refine Ae (AgH (m:=2*v) ⟨by omega,by omega⟩ f 6 hf) ?_
 refine AF o1 (Fo.Aj _) rfl fun S3 n3 o3 f3=>?_
 rw[An (n:=4) o3 (Fo.Aj _)]
 obtain⟨h1,h2,h3⟩:=aU (m:=2*v) (by omega) f 6 hf
 exact⟨_,_,rfl,k1.st (Ai4 _) n3 f3,Fo.tr _ _ _,_,rfl,h1,h2,fun g hg=>h3 g fun l h0 hlt=>hg l h0 (by omega)⟩
theorem Ry{c:Ci}(h:D2 c):1≤c.gr.vars∧c.gr.vars≤100∧∀ l:Int,0≤l→l<2*c.gr.vars→c.gr.lit l=true:=by
 obtain⟨g1,g2,g3⟩:=CJ h.right
 have h1:=h.inp
 have h2:=h.lats
 have h3:=h.ands
 have hv:c.gr.vars=c.inputs+c.latches.length+1+c.ands.length:=by
  unfold Gr.vars
  rw[g1]
  show _+1+(c.ands.length:Int)=_
  rfl
 refine⟨by omega,by omega,fun l h0 hl=>Dq.2 ⟨g2,by omega,h0,by omega⟩⟩
theorem XP.Af5{c:Ci}{f:Fo}(h:XP c.gr.vars f)(hc:D2 c):f.DC c.gr=true:=h.lits c.gr (Ry hc).2.2
theorem of6{l m:List Int}(hl:∀ x∈l,0≤x∧x<65536)(hm:∀ x∈m,0≤x∧x<256){S:Aa}:Ad Pg 6 [aL Jp l,aL Qp m] S (fun e S'=>∃ tr,e = .ret tr∧S'=S∧∃(c:Ci) (f:Fo),tr = .t [c.av,f.av]∧D2 c∧c.gr.vars=Hq l∧XP c.gr.vars f):=by
 refine Ad.Le (zB ?_)
 dsimp only[m6,Lt,Lc]
 refine Ai rfl fun S1 k1 n1 o1=>?_
 refine Ai rfl fun S2 k2 n2 o2=>?_
 have p2:=(Kg k2 o1)
 refine .inl ((mM hl).mono ?_)
 rintro e S' ⟨tr,rfl,rfl,c,rfl,hc,hcv,_⟩
 show Az _ _ _ _ _
 refine Ai rfl fun S3 k3 n3 o3=>?_
 refine AF (cs':=c.cells) o3 rfl rfl fun S4 n4 o4 f4=>?_
 have k4:=k3.st (Ai4 _) n4 f4
 obtain⟨v1,v2,v3⟩:=Ry hc
 obtain⟨g1,g2,g3⟩:=CJ hc.right
 have hi:=hc.inp
 have hla:=hc.lats
 refine Em (n:=8) o4 (by omega) rfl ?_
 refine Em (n:=8) o4 (by omega) rfl ?_
 refine EG (Nl c) ?_
 refine EG (OD hc.ok.gr (by omega) (by omega)) ?_
 refine⟨aI (2*c.gr.vars),fun T hT=>by rw[G7 (by omega) (by omega)];exact⟨rfl,rfl⟩,?_⟩
 refine .inl ((Ab5 hm (v:=c.gr.vars) v1 (by omega)).mono ?_)
 rintro e S' ⟨tr,rfl,rfl,f,rfl,hf⟩
 refine⟨fun T hT=>by rw[An (n:=8) (Kg hT o4) rfl];exact⟨rfl,rfl⟩,?_⟩
 refine AF (Kg k4 p2) rfl rfl fun S5 n5 o5 f5=>?_
 refine AF ((f5 _ (by omega)).trans (Kg k4 o2)) (Fo.Aj _) rfl fun S6 n6 o6 f6=>?_
 rw[An (n:=8) ((f6 _ (by omega)).trans o5) rfl,An (n:=4) o6 (Fo.Aj _)]
 refine⟨_,.t [c.av,f.av],rfl,(((k1.trans k2).trans k4).st (id:=S.n) (by omega) n5 f5).st (id:=S1.n) (by omega) n6 f6,DN ?_ (Fo.tr _ _ _),c,f,rfl,hc,hcv,hf⟩
 exact Tree.a (fun u hu=>by
  simp only[Ci.cells,AiO,AiT,or_false]at hu
  rcases hu with rfl|rfl|rfl|rfl|rfl|rfl|rfl|rfl
  ·exact Tree.v _
  ·exact Hd _
  ·exact Hd _
  ·exact Df _
  ·exact Df _
  ·exact Df _
  ·exact Df _
  ·exact tJ _) _ _
theorem wM(k:Int)(f:Fo):BH Pg 82 [aI k,f.av] (AT k f).av:=by
 intro S
 refine Ad.tree (oX ?_)
 unfold m82
 refine Ai (Fo.Aj f) fun S1 k1 n1 o1=>?_
 refine Ai rfl fun S2 k2 n2 o2=>?_
 rw[An (n:=4) (Kg k2 o1) (Fo.Aj f)]
 refine Gt (Fo.Aj f) ?_
 rw[A7 (cs:=(AT k f).row) (by rw[Fo.AE];rfl)]
 refine AF o2 (Fo.Aj _) rfl fun S3 n3 o3 f3=>?_
 rw[An (n:=4) o3 (Fo.Aj _)]
 exact⟨_,rfl,(k1.trans k2).st (by omega) n3 f3,Fo.tr _ _ _⟩
theorem Ez(k:Int)(f g:Fo):BH Pg 81 [aI k,f.av,g.av] (A6 k f g).av:=by
 intro S
 refine Ad.tree (oY ?_)
 unfold m81
 refine Ai (Fo.Aj f) fun S1 k1 n1 o1=>?_
 refine Ai (Fo.Aj g) fun S2 k2 n2 o2=>?_
 refine Ai rfl fun S3 k3 n3 o3=>?_
 have kk:=(k1.trans k2).trans k3
 rw[An (n:=4) (Kg k3 (Kg k2 o1)) (Fo.Aj f),An (n:=4) (Kg k3 o2) (Fo.Aj g)]
 refine Fb (Fo.Aj f) (Fo.Aj g) ?_
 rw[A7 (cs:=(A6 k f g).row) (by rw[Fo.AE];rfl)]
 refine AF o3 (Fo.Aj _) rfl fun S4 n4 o4 f4=>?_
 rw[An (n:=4) o4 (Fo.Aj _)]
 exact⟨_,rfl,kk.st (by omega) n4 f4,Fo.tr _ _ _⟩
def C8(k:Int):Int:=
 if k=1 then 2 else if k=2 then 1 else if k=5 then 6 else if k=6 then 5 else if k=9 then 10 else if k=10 then 9 else if k=11 then 14 else if k=14 then 11
 else if k=13 then 12 else if k=12 then 13 else if k=15 then 18 else if k=18 then 15 else if k=17 then 16 else 17
theorem Ag8(k:Int):BH Pg 83 [aI k] (aI (C8 k)):=by
 intro S
 refine Ad.Bt (oW ?_)
 dsimp only[m83,Fi];unfold C8
 repeat (first
  |exact⟨rfl,Am.refl _⟩
  |(rw[AD,Ag]
    refine Al (fun h=>?_) (fun h=>?_)
    ·have h:=dT h
     subst h
     exact⟨rfl,Am.refl _⟩
    have h:=dF h
    rw[if_neg h]))
abbrev LU:Fo:=.mk 0 ⟨#[]⟩ 0 []
mutual
def Fo.push:Fo→Bool→Fo
 |.mk k n l ks,t =>
  if k=3 then(if t then AT 4 (.mk k n l ks)else .mk k n l ks)
  else if k=4 then(Fo.B4 ks (!t)).getD 0 LU
  else if k=7 then(if t then A6 5 ((Fo.B4 ks false).getD 0 LU) ((Fo.B4 ks true).getD 1 LU)else A6 6 ((Fo.B4 ks true).getD 0 LU) ((Fo.B4 ks false).getD 1 LU))
  else if k=8 then A6 6 (A6 5 ((Fo.B4 ks false).getD 0 LU) ((Fo.B4 ks t).getD 1 LU)) (A6 5 ((Fo.B4 ks true).getD 0 LU) ((Fo.B4 ks (!t)).getD 1 LU))
  else .mk (if t then C8 k else k) ⟨#[]⟩ 0 (Fo.B4 ks t)
def Fo.B4:List Fo→Bool→List Fo
 |[],_=>[]
 |f :: fs,t=>Fo.push f t :: Fo.B4 fs t
end
theorem Fo.If(t:Bool):∀ l:List Fo,Fo.B4 l t=l.map fun f=>f.push t
 |[]=>by rw[Fo.B4];rfl
 |f :: fs=>by rw[Fo.B4,Fo.If t fs];rfl
inductive Pu:Fo→Prop
 |c (k:Int) (hk:k=1∨k=2):Pu (.mk k ⟨#[]⟩ 0 [])
 |a (l:Int) (h0:0≤l) (hl:By l):Pu (.mk 3 ⟨#[]⟩ l [])
 |n (l:Int) (h0:0≤l) (hl:By l):Pu (.mk 4 ⟨#[]⟩ 0 [.mk 3 ⟨#[]⟩ l []])
 |o (k:Int) (f:Fo) (hk:9≤k∧k≤14) (h:Pu f):Pu (.mk k ⟨#[]⟩ 0 [f])
 |t (k:Int) (f g:Fo) (hk:k=5∨k=6∨15≤k∧k≤18) (h:Pu f) (h2:Pu g):Pu (.mk k ⟨#[]⟩ 0 [f,g])
theorem Pu.ok{f:Fo}(h:Pu f):f.ok:=by
 have z:By 0:=⟨by decide,by decide⟩
 have e:(⟨#[]⟩:ByteArray).size≤9223372036854775807:=by decide
 induction h with
 |c k hk=>exact .mk _ _ _ _ ⟨by omega,by omega⟩ z e (by simp) (fun f hf=>by cases hf)
 |a l h0 hl=>exact .mk _ _ _ _ ⟨by omega,by omega⟩ hl e (by simp) (fun f hf=>by cases hf)
 |n l h0 hl=>exact .mk _ _ _ _ ⟨by omega,by omega⟩ z e (by simp) (fun f hf=>by
    rw[AiA.1 hf]
    exact .mk _ _ _ _ ⟨by omega,by omega⟩ hl e (by simp) (fun f hf=>by cases hf))
 |o k f hk h ih=>exact .mk _ _ _ _ ⟨by omega,by omega⟩ z e (by simp) (fun g hg=>by rw[AiA.1 hg];exact ih)
 |t k f g hk h h2 ih ih2=>exact .mk _ _ _ _ ⟨by omega,by omega⟩ z e (by simp) (fun x hx=>by
    simp only[AiO,AiT,or_false]at hx
    rcases hx with rfl|rfl
    ·exact ih
    ·exact ih2)
theorem Jd{k:Int}{n:ByteArray}{l:Int}{t:Bool}(hk:k=1∨k=2):Fo.push (.mk k n l []) t = .mk (if t then C8 k else k) ⟨#[]⟩ 0 []:=by
 rw[Fo.push,if_neg (by omega),if_neg (by omega),if_neg (by omega),if_neg (by omega),Fo.B4]
theorem CY{n:ByteArray}{l:Int}{t:Bool}:Fo.push (.mk 3 n l []) t=if t then AT 4 (.mk 3 n l [])else .mk 3 n l []:=by rw[Fo.push,if_pos rfl]
theorem Hy{n:ByteArray}{l:Int}{f:Fo}{t:Bool}:Fo.push (.mk 4 n l [f]) t=f.push (!t):=by
 rw[Fo.push,if_neg (by decide),if_pos rfl,Fo.B4];rfl
theorem EP{n:ByteArray}{l:Int}{f g:Fo}{t:Bool}:Fo.push (.mk 7 n l [f,g]) t=if t then A6 5 (f.push false) (g.push true)else A6 6 (f.push true) (g.push false):=by
 rw[Fo.push,if_neg (by decide),if_neg (by decide),if_pos rfl,Fo.B4,Fo.B4,Fo.B4,Fo.B4,Fo.B4,Fo.B4];rfl
theorem FY{n:ByteArray}{l:Int}{f g:Fo}{t:Bool}:Fo.push (.mk 8 n l [f,g]) t=A6 6 (A6 5 (f.push false) (g.push t)) (A6 5 (f.push true) (g.push (!t))):=by
 rw[Fo.push,if_neg (by decide),if_neg (by decide),if_neg (by decide),if_pos rfl]
 simp only[Fo.If,List.map_cons,List.map_nil];rfl
theorem Hx{k:Int}{n:ByteArray}{l:Int}{f:Fo}{t:Bool}(hk:9≤k∧k≤14):Fo.push (.mk k n l [f]) t = .mk (if t then C8 k else k) ⟨#[]⟩ 0 [f.push t]:=by
 rw[Fo.push,if_neg (by omega),if_neg (by omega),if_neg (by omega),if_neg (by omega),Fo.B4,Fo.B4]
theorem Mw{k:Int}{n:ByteArray}{l:Int}{f g:Fo}{t:Bool}(hk:k=5∨k=6∨15≤k∧k≤18):Fo.push (.mk k n l [f,g]) t = .mk (if t then C8 k else k) ⟨#[]⟩ 0 [f.push t,g.push t]:=by
 rw[Fo.push,if_neg (by omega),if_neg (by omega),if_neg (by omega),if_neg (by omega),Fo.B4,Fo.B4,Fo.B4]
theorem Nc{k:Int}(hk:9≤k∧k≤14):9≤C8 k∧C8 k≤14:=by
 have:k=9∨k=10∨k=11∨k=12∨k=13∨k=14:=by omega
 rcases this with rfl|rfl|rfl|rfl|rfl|rfl<;>decide
theorem RP{k:Int}(hk:k=5∨k=6∨15≤k∧k≤18):C8 k=5∨C8 k=6∨15≤C8 k∧C8 k≤18:=by
 have:k=5∨k=6∨k=15∨k=16∨k=17∨k=18:=by omega
 rcases this with rfl|rfl|rfl|rfl|rfl|rfl<;>decide
theorem LL:∀(f:Fo),f.ok→∀{d:Int},f.BP d=true→∀ t,Pu (f.push t):=by
 intro f
 induction f using Fo.ind with
 |h k n l ks ih =>
  intro hok d hm t
  obtain⟨o1,o2,o3,o4,o5⟩:=hok.inv
  obtain⟨rfl,hd,h⟩:=DB hm
  rcases h with⟨hk,rfl,rfl⟩|⟨rfl,rfl,h0⟩|⟨hk,rfl,f,rfl,hf⟩|⟨hk,rfl,f,g,rfl,hf,hg⟩
  ·rw[Jd hk]
   refine .c _ ?_
   rcases hk with rfl|rfl<;>cases t<;>decide
  ·rw[CY]
   cases t with
   |true=>exact .n _ h0 o2
   |false=>exact .a _ h0 o2
  ·have hf':=fun t=>ih f (by simp) (o5 f (by simp)) hf t
   by_cases h4:k=4
   ·subst h4
    rw[Hy]
    exact hf' _
   ·rw[Hx (by omega)]
    refine .o _ _ ?_ (hf' _)
    have:=Nc (k:=k) (by omega)
    split<;>omega
  ·have hf':=fun t=>ih f (by simp) (o5 f (by simp)) hf t
   have hg':=fun t=>ih g (by simp) (o5 g (by simp)) hg t
   by_cases h7:k=7
   ·subst h7
    rw[EP]
    cases t with
    |true=>exact .t _ _ _ (by decide) (hf' _) (hg' _)
    |false=>exact .t _ _ _ (by decide) (hf' _) (hg' _)
   by_cases h8:k=8
   ·subst h8
    rw[FY]
    exact .t _ _ _ (by decide) (.t _ _ _ (by decide) (hf' _) (hg' _)) (.t _ _ _ (by decide) (hf' _) (hg' _))
   rw[Mw (by omega)]
   refine .t _ _ _ ?_ (hf' _) (hg' _)
   have:=RP (k:=k) (by omega)
   split<;>omega
def Tn.st:Tn→Int
 |.mk _ s _ _ _=>s
def BZ (c:Ci) (s:Int):Bool:=decide (0≤s) && (decide (s<2 ^ c.gr.inputs.toNat) && c.cons.all fun l=>DT c s l)
def BN (c:Ci) (s t:Int):Bool:=BZ c s && (BZ c t && decide ((G9 c s).fdiv (2 ^ min c.inputs.toNat 64)=t.fdiv (2 ^ min c.inputs.toNat 64)))
def De (c:Ci) (ss:List Int):Bool:=(List.range (ss.length - 1)).all fun i=>BN c (ss.getD i 0) (ss.getD (i+1) 0)
def SV (c:Ci) (ss:List Int):Bool:=c.fair.all fun l=>ss.any fun s=>DT c s l
abbrev IM:Fo:=.mk 2 ⟨#[]⟩ 0 []
abbrev GV:Fo:=AT 13 IM
open Classical in
def Eu (c:Ci) (f:Fo) (tk s a:Int) (ss kst:List Int):(Int × Bool) ⊕ (List Fo × List Int):=
 match f with
 |.mk k _ l fs =>
  if BZ c s=false then .inl (0,false)
  else if k=1 then .inl (0,false)
  else if k=2 then .inl (0,decide (tk=1∧a=0∧ss = []∧kst = []))
  else if k=3 then .inl (0,decide (tk=1∧a=0∧ss = []∧kst = []) && DT c s l)
  else if k=4 then .inl (0,decide (tk=1∧a=0∧ss = []∧kst = []) && !DT c s (fs.getD 0 LU).lit)
  else if k=5 then if tk=2∧a=0∧ss = []then .inr (fs,[s,s])else .inl (0,false)
  else if k=6 then if tk=3∧0≤a∧a≤1∧ss = []then .inr ([fs.getD a.toNat LU],[s])else .inl (0,false)
  else if k=9 then if tk=4∧a=0∧ss = []∧kst.length=2∧BN c s (kst.getD 0 0)=true then .inr ([fs.getD 0 LU,GV],[kst.getD 0 0,kst.getD 0 0])else .inl (0,false)
  else if k=11∨k=15 then if ss≠[]∧ss.getD 0 0=s∧a=0∧tk=5∧De c ss=true then .inr (List.replicate (ss.length - 1) (if k=11 then IM else fs.getD 0 LU) ++ [fs.getD (if k=11 then 0 else 1) LU,GV],ss ++ [ss.getD (ss.length - 1) 0])else .inl (0,false)
  else if k=13 then if ss≠[]∧ss.getD 0 0=s∧0≤a∧a<ss.length∧tk=6∧BN c (ss.getD (ss.length - 1) 0) (ss.getD a.toNat 0)=true∧De c ss=true∧SV c (ss.drop a.toNat)=true then .inr (List.replicate ss.length (fs.getD 0 LU),ss)else .inl (0,false)
  else if k=17 then if tk=3∧0≤a∧a≤1∧ss = []then .inr ([if a=0 then AT 13 (fs.getD 1 LU)else A6 15 (fs.getD 1 LU) (A6 5 (fs.getD 0 LU) (fs.getD 1 LU))],[s])else .inl (0,false)
  else .inl (1,decide (tk=7∧a=0∧ss = []∧kst = []))
mutual
def Tn.acc (c:Ci):Tn→Fo→Int × Bool
 |.mk tk s a ss ks,f=>match Eu c f tk s a ss (ks.map Tn.st)with
  |.inl r=>r
  |.inr (fs,sts)=>Tn.Ca c ks fs sts 0
def Tn.Ca (c:Ci):List Tn→List Fo→List Int→Int→Int × Bool
 |[],fs,ss,n=>match fs,ss with
  |[],[]=>(n,true)
  |_,_=>(0,false)
 |t :: ts,fs,ss,n=>match fs,ss with
  |f :: fs,s :: ss=>if((Tn.acc c t f).2 && decide (t.st=s))=true then Tn.Ca c ts fs ss (IntKind.i64.wrap (n+(Tn.acc c t f).1))else(0,false)
  |_,_=>(0,false)
end
theorem Sg(c:Ci):∀(ts:List Tn) (fs:List Fo) (ss:List Int) (n:Int),¬ (fs.length=ts.length∧ss.length=ts.length)→Tn.Ca c ts fs ss n=(0,false):=by
 intro ts
 induction ts with
 |nil =>
  intro fs ss n h
  cases fs<;>cases ss<;>first|(exact absurd ⟨rfl,rfl⟩ h)|(simp[Tn.Ca])
 |cons t ts ih =>
  intro fs ss n h
  cases fs with
  |nil=>cases ss<;>simp[Tn.Ca]
  |cons f fs =>
   cases ss with
   |nil=>simp[Tn.Ca]
   |cons s ss =>
    rw[Tn.Ca]
    split
    ·exact ih fs ss _ (fun hq=>h (by simp[hq]))
    ·rfl
theorem OF{c:Ci}{t:Tn}{ts:List Tn}{f:Fo}{fs:List Fo}{s:Int}{ss:List Int}{n:Int}:Tn.Ca c (t :: ts) (f :: fs) (s :: ss) n=if((Tn.acc c t f).2 && decide (t.st=s))=true then Tn.Ca c ts fs ss (IntKind.i64.wrap (n+(Tn.acc c t f).1))else(0,false):=by rw[Tn.Ca]
theorem Ns{c:Ci}{n:Int}:Tn.Ca c [] [] [] n=(n,true):=by rw[Tn.Ca]
theorem KX{e:Nat}{f:Fo}{l:List Fo}{S:Aa}{K:AV→Aa→Prop}:AR e 4 (Dx (f :: l)) (.v (.int .i64 0)) S K=K (.q f.row 0) S:=Cn (i:=0) (by simp)
theorem RF{e:Nat}{f g:Fo}{l:List Fo}{S:Aa}{K:AV→Aa→Prop}:AR e 4 (Dx (f :: g :: l)) (.v (.int .i64 1)) S K=K (.q g.row 0) S:=Cn (i:=1) (by simp)
theorem V3{e:Nat}{f:Fo}{l:List Fo}{S0:Aa}{P:AV→Prop}:(∃ q,(∀ T,Am S0 T→AR e 4 (Dx (f :: l)) (.v (.int .i64 0)) T fun v S=>v=q∧S=T)∧P q)=P (.q f.row 0):=Fp (op:=fun T K=>AR e 4 (Dx (f :: l)) (.v (.int .i64 0)) T K) fun T hT K=>KX
theorem Sm{e:Nat}{f g:Fo}{l:List Fo}{S0:Aa}{P:AV→Prop}:(∃ q,(∀ T,Am S0 T→AR e 4 (Dx (f :: g :: l)) (.v (.int .i64 1)) T fun v S=>v=q∧S=T)∧P q)=P (.q g.row 0):=Fp (op:=fun T K=>AR e 4 (Dx (f :: g :: l)) (.v (.int .i64 1)) T K) fun T hT K=>RF
theorem xA{e i:Nat}{l:List Fo}(h:i<l.length){S0:Aa}{P:AV→Prop}:(∃ q,(∀ T,Am S0 T→AR e 4 (Dx l) (aI i) T fun v S=>v=q∧S=T)∧P q)=P (.q l[i].row 0):=Fp (op:=fun T K=>AR e 4 (Dx l) (aI i) T K) fun T hT K=>Cn h
theorem V2{e:Nat}{z1 z2 z3 z4:AV}{r:List AV}(hr:r.length=4){S0:Aa}{P:AV→Prop}(k:P (.l [r])):∃ q,(∀ T,Am S0 T→AU e 4 1 [z1,z2,z3,z4] [(0,.a r)] T fun v S=>v=q∧S=T)∧P q:=⟨_,fun T hT=>Gt hr ⟨rfl,rfl⟩,k⟩
abbrev HK:List AV:=[.v (.int .i64 0),.v (.string ByteArray.empty),.v (.int .i64 0),.nl]
theorem Ms{ks:List Fo}{k k2 l:Int}{n:ByteArray}{t:Bool}(hl:ks.length≤1000000)(hf:∀ f∈ks,BH Pg 35 [f.av,aB t] (f.push t).av){S S4:Aa}{o:Nat}{Q:Bg→Aa→Prop}(kk:Am S S4)(h0:S.n<S4.n)
    (ho:S.n+1<o) (ho2:o<S4.n) (oa:S4.obj S.n=some (.cells 32 [[aI k,.v (.string n),aI l,Dx ks]] true)) (ob:S4.obj (S.n+1)=some (.cells 32 [HK] true)) (oc:S4.obj o=some (.cells 32 [[aI k2,.v (.string ⟨#[]⟩),aI 0,.nl]] true))
    (hQ:∀(r:AV) (T:Aa),Am S T→Cv (T.Bx (AK S.n)) S.n r (Fo.mk k2 ⟨#[]⟩ 0 (Fo.B4 ks t)).av→Q (.ret r) T):
    Ap Jg (vc Pg (XZ.at_ [1,1,1,1,0,1,0,0]) (KP.drop 1)) 109 (FG (aB t) (.p S.n 0 0) (.p (S.n+1) 0 0) (.p o 0 0) (.v (.int .i64 0))) S4 (Ak 1 (Av (vc Pg (XZ.at_ [1,1,1,1,1]) (KP.drop 1)) (Ao Pg r35 Q))):=by
 refine Z8 (fun y S'=>∃(i:Nat) (z:AV),y=aI i∧i≤ks.length∧Am S S'∧S4.n≤S'.n∧S'.obj S.n=some (.cells 32 [[aI k,.v (.string n),aI l,Dx ks]] true)∧S'.obj (S.n+1)=some (.cells 32 [HK] true)∧
     S'.obj o=some (.cells 32 [[aI k2,.v (.string ⟨#[]⟩),aI 0,z]] true)∧A4 S4.n S' z 32 (((ks.take i).map fun f=>f.push t).map Fo.row))
  (fun y _=>ks.length - ((Aw y).getD 0).toNat) ⟨0,.nl,rfl,Ai9 _,kk,Ai4 _,oa,ob,oc,.nl _ _ _⟩ ?_
 dsimp only[BS]
 rintro _ S5 ⟨i,z,rfl,hi,k5,n5,oa,ob,oc,w5⟩ KE hKE
 dsimp only[vL,Fi,Lf,Lt,Lc]
 rw[Ac,Af oa rfl rfl,BJ,As,Ag]
 refine Al (fun hlt=>?_) (fun hge=>?_)
 ·have hlt:i<ks.length:=by have:=dT hlt;omega
  have hmem:=Ai6 hlt
  (repeat (first|with_reducible_and_instances (first|refine WJ ?_|refine W (Dz oc (by omega) (by with_unfolding_all rfl) (by with_unfolding_all rfl)) ?_|refine W (Dz oa (by omega) (by with_unfolding_all rfl) (by with_unfolding_all rfl)) ?_|refine W (xA hlt) ?_|refine W (Ha (Fo.Aj _)) ?_|refine W (AN (by with_unfolding_all rfl)) ?_)|refine BG (hf _ hmem) rfl rfl ?_|refine CX (hf _ hmem) rfl rfl ?_|refine Hm (hf _ hmem) rfl rfl ?_))
  refine V2 (Fo.Aj _) ?_
  refine w5.app (c:=(ks[i].push t).row) (by omega) (Fo.Aj _) (by simp;omega) (fun z' S6 w6 b6 hz=>?_) rfl
  obtain⟨m6,hm6⟩:=hz
  have n6:=b6.1
  have old6:∀ x,x<S4.n→S6.obj x=S5.obj x:=fun x hx=>b6.2 x (by omega) (fun b m e=>by have:=w5.lt e;omega)
  refine B3 ?_
  refine B8 ((old6 _ (by omega)).trans oc) (by simp) (by rw[hm6];rfl) fun S7 n7 o7 f7=>?_
  rw[Ar (by omega) (by omega)]
  have old7:∀ x,x<o→S7.obj x=S5.obj x:=fun x hx=>(f7 x (by omega)).trans (old6 x (by omega))
  refine hKE _ _ ⟨i+1,z',rfl,hlt,⟨by have:=k5.1;omega,fun x hx=>(old7 x (by omega)).trans (k5.2 x hx)⟩,by omega,(old7 _ (by omega)).trans oa,(old7 _ (by omega)).trans ob,o7,?_⟩ (by simp[Aw];omega)
  rw[AiR,Ai3 hlt,AiB,AiB]
  exact w6.st (id:=o) (fun b m e=>by rw[hm6]at e;injection e;omega) n7 f7
 ·have hge:i=ks.length:=by have:=dF hge;omega
  subst hge
  rw[An (n:=4) oc rfl]
  refine AF ob rfl rfl fun S6 n6 o6 f6=>?_
  rw[An (n:=4) o6 rfl]
  have w6:A4 S4.n S6 z 32 _:=w5.st (id:=S.n+1) (fun b m e=>by have:=w5.lt e;omega) n6 f6
  rw[Aj3]at w6
  refine hQ _ _ (k5.st (by omega) n6 f6) ?_
  rw[Fo.av,Fo.AE,Fo.If]
  refine .a _ _ rfl fun k u u2 e1 e2=>?_
  match k with
  |0=>cases e1;cases e2;exact .v _
  |1=>cases e1;cases e2;exact .v _
  |2=>cases e1;cases e2;exact .v _
  |3=>cases e1;cases e2;exact Ef (fun r hr u hu=>by obtain⟨f,_,rfl⟩:=AiL.1 hr;exact Fo.tree f u hu) w6 (by omega)
  |k+4=>simp at e1
theorem jQ:∀(f:Fo),f.ok→∀{d:Int},f.BP d=true→∀ t,BH Pg 35 [f.av,aB t] (f.push t).av:=by
 intro f
 induction f using Fo.ind with
 |h k n l ks ih =>
  intro hok d hm t S
  obtain⟨h1,h2,h3,h4,h5⟩:=hok.inv
  have hf:∀ f∈ks,∀ d,f.BP d=true→∀ t,BH Pg 35 [f.av,aB t] (f.push t).av:=fun f hf d hd t=>ih f hf (h5 f hf) hd t
  have hall:∀ f∈ks,f.BP (d - 1)=true:=fun f hf=>by
   rw[Fo.Cm]at hm
   simp only[Ai5,AiD]at hm
   exact hm.2.2.2.2 f hf
  refine Ad.tree (qT ?_)
  dsimp only[m35,Zu,Fi,Lf,Lt,Lc]
  rw[Fo.av,Fo.AE]
  refine Ai rfl fun S1 k1 n1 o1=>?_
  refine Ai rfl fun S2 k2 n2 o2=>?_
  have p2:=(Kg k2 o1)
  have kk:=k1.trans k2
  rw[n1]at o2
  rw[n1]
  rw[Ac,Af p2 rfl rfl]
  have fin:∀(g:Fo) (T:Aa),Am S T→T.obj (S.n+1)=some (.cells 32 [HK] true)→g=Fo.push (.mk k n l ks) t→A8 4 (.p (S.n+1) 0 0) g.av T (fun _ T2=>AA 4 (.p (S.n+1) 0 0) T2 fun v S'=>∃ r,Bg.ret v = .ret r∧Am S S'∧Cv (S'.Bx (AK S.n)) S.n r (Fo.push (.mk k n l ks) t).av):=by
   intro g T hT ho hg
   rw[Fo.av]
   refine AF ho (Fo.Aj g) rfl fun T1 n1 o1 f1=>?_
   rw[An (n:=4) o1 (Fo.Aj g)]
   exact⟨_,rfl,hT.st (by omega) n1 f1,by rw[←hg];exact Fo.tr g _ _⟩
  have dflt:∀(T:Aa) (o:Nat) (k2:Int),Am S T→S.n+1<o→o<T.n→T.obj S.n=some (.cells 32 [[aI k,.v (.string n),aI l,Dx ks]] true)→T.obj (S.n+1)=some (.cells 32 [HK] true)→T.obj o=some (.cells 32 [[aI k2,.v (.string ⟨#[]⟩),aI 0,.nl]] true)→
      Fo.push (.mk k n l ks) t = .mk k2 ⟨#[]⟩ 0 (Fo.B4 ks t)→
      Ap Jg (vc Pg (XZ.at_ [1,1,1,1,0,1,0,0]) (KP.drop 1)) 109 (FG (aB t) (.p S.n 0 0) (.p (S.n+1) 0 0) (.p o 0 0) (.v (.int .i64 0))) T (Ak 1 (Av (vc Pg (XZ.at_ [1,1,1,1,1]) (KP.drop 1)) (Ao Pg r35 fun e S'=>∃ r,e = .ret r∧Am S S'∧Cv (S'.Bx (AK S.n)) S.n r (Fo.push (.mk k n l ks) t).av))):=fun T o k2 hT ho ho2 oa ob oc he =>
   Ms h4 (fun f hf'=>hf f hf' _ (hall f hf') t) hT (by omega) ho ho2 oa ob oc fun r T' hT' hr=>⟨r,rfl,hT',by rw[he];exact hr⟩
  have rest:¬ k=3→¬ k=4→¬ k=7→¬ k=8→CH [(0,1),(1,1),(2,1),(3,1)] HK [(0,aI k)] S2 fun v135 T=>Az 32 4 (.a HK) T fun v136 T=>A8 4 v136 v135 T fun _ T=>gd t (shift (.p S.n 0 0) 0 T fun v139 T=>Ax v139 T fun v140 T=>Ah Pg 83 [v140] T (fun e S'=>∃ r,e = .ret r∧Am S S'∧Cv (S'.Bx (AK S.n)) S.n r (Fo.push (.mk k n l ks) t).av) fun v141 T=>shift v136 0 T fun v142 T=>A8 1 v142 v141 T fun _ T =>
      Ap Jg (vc Pg (XZ.at_ [1,1,1,1,0,1,0,0]) (KP.drop 1)) 109 (FG (aB t) (.p S.n 0 0) (.p (S.n+1) 0 0) v136 (.v (.int .i64 0))) T (Ak 1 (Av (vc Pg (XZ.at_ [1,1,1,1,1]) (KP.drop 1)) (Ao Pg r35 fun e S'=>∃ r,e = .ret r∧Am S S'∧Cv (S'.Bx (AK S.n)) S.n r (Fo.push (.mk k n l ks) t).av))))
      (Ap Jg (vc Pg (XZ.at_ [1,1,1,1,0,1,0,0]) (KP.drop 1)) 109 (FG (aB t) (.p S.n 0 0) (.p (S.n+1) 0 0) v136 (.v (.int .i64 0))) T (Ak 1 (Av (vc Pg (XZ.at_ [1,1,1,1,1]) (KP.drop 1)) (Ao Pg r35 fun e S'=>∃ r,e = .ret r∧Am S S'∧Cv (S'.Bx (AK S.n)) S.n r (Fo.push (.mk k n l ks) t).av)))):=by
   intro h3 h4' h7 h8
   have he:Fo.push (.mk k n l ks) t = .mk (if t then C8 k else k) ⟨#[]⟩ 0 (Fo.B4 ks t):=by rw[Fo.push,if_neg h3,if_neg h4',if_neg h7,if_neg h8]
   rw[A7 (cs:=[aI k,.v (.string ⟨#[]⟩),aI 0,.nl]) rfl]
   refine Ai rfl fun S3 k3 n3 o3=>?_
   refine AF (cs':=[aI k,.v (.string ⟨#[]⟩),aI 0,.nl]) o3 rfl rfl fun S4 n4 o4 f4=>?_
   have k4:=k3.st (Ai4 _) n4 f4
   have p4:=(Kg k4 p2)
   have r4:=(Kg k4 o2)
   refine Al (fun ht=>?_) (fun ht=>?_)
   ·subst ht
    rw[Ac,Af p4 rfl rfl]
    refine Ae (Ag8 k) ?_
    rw[Ac]
    refine B8 o4 (by simp) rfl fun S5 n5 o5 f5=>?_
    exact dflt S5 S2.n (C8 k) ((kk.trans k4).st (by omega) n5 f5) (by omega) (by omega) ((f5 _ (by omega)).trans p4) ((f5 _ (by omega)).trans r4) o5 he
   ·subst ht
    exact dflt S4 S2.n k (kk.trans k4) (by omega) (by omega) p4 r4 o4 he
  obtain⟨rfl,hd,hc⟩:=DB hm
  rcases hc with⟨hk,rfl,rfl⟩|⟨rfl,rfl,h0⟩|⟨hk,rfl,f,rfl,hfm⟩|⟨hk,rfl,f,g,rfl,hfm,hgm⟩
  ·repeat (refine EI (by omega) ?_)
   rw[Ac,Af p2 rfl rfl]
   exact rest (by omega) (by omega) (by omega) (by omega)
  ·refine CN rfl ?_
   rw[Ag]
   refine Al (fun ht=>?_) (fun ht=>?_)
   ·subst ht
    rw[An (n:=4) p2 rfl]
    refine CX (wM 4 (.mk 3 ⟨#[]⟩ l [])) rfl (by rw[Fo.av,Fo.AE]) ?_
    exact fin (AT 4 (.mk 3 ⟨#[]⟩ l [])) _ kk o2 (by rw[CY];rfl)
   ·subst ht
    rw[An (n:=4) p2 rfl]
    have:=fin (.mk 3 ⟨#[]⟩ l []) _ kk o2 (by rw[CY];rfl)
    rw[Fo.av,Fo.AE]at this
    exact this
  ·have cf:=fun t=>hf f (by simp) _ hfm t
   by_cases h4:k=4
   ·subst h4
    refine EI (by decide) (CN rfl ?_)
    rw[Ac,Af p2 rfl rfl,KX,Cd (Fo.Aj f),AI]
    refine Ae (cf _) ?_
    exact fin _ _ kk o2 Hy.symm
   ·repeat (refine EI (by omega) ?_)
    rw[Ac,Af p2 rfl rfl]
    exact rest (by omega) (by omega) (by omega) (by omega)
  ·have cf:=fun t=>hf f (by simp) _ hfm t
   have cg:=fun t=>hf g (by simp) _ hgm t
   by_cases h7:k=7
   ·subst h7
    refine EI (by decide) (EI (by decide) (CN rfl ?_))
    rw[Ag]
    refine Al (fun ht=>?_) (fun ht=>?_)
    ·subst ht
     (repeat (first|with_reducible_and_instances (first|refine WJ ?_|refine W (Dz p2 (by omega) (by with_unfolding_all rfl) (by with_unfolding_all rfl)) ?_|refine W (V3) ?_|refine W (Sm) ?_|refine W (Ha (Fo.Aj _)) ?_|refine W (AN (by with_unfolding_all rfl)) ?_)|refine BG (cf false) rfl rfl ?_|refine CX (cf false) rfl rfl ?_|refine Hm (cf false) rfl rfl ?_|refine BG (cg true) rfl rfl ?_|refine CX (cg true) rfl rfl ?_|refine Hm (cg true) rfl rfl ?_|refine BG (Ez 5 _ _) rfl rfl ?_|refine CX (Ez 5 _ _) rfl rfl ?_|refine Hm (Ez 5 _ _) rfl rfl ?_))
     exact fin (A6 5 (f.push false) (g.push true)) _ kk o2 (by rw[EP];rfl)
    ·subst ht
     (repeat (first|with_reducible_and_instances (first|refine WJ ?_|refine W (Dz p2 (by omega) (by with_unfolding_all rfl) (by with_unfolding_all rfl)) ?_|refine W (V3) ?_|refine W (Sm) ?_|refine W (Ha (Fo.Aj _)) ?_|refine W (AN (by with_unfolding_all rfl)) ?_)|refine BG (cf true) rfl rfl ?_|refine CX (cf true) rfl rfl ?_|refine Hm (cf true) rfl rfl ?_|refine BG (cg false) rfl rfl ?_|refine CX (cg false) rfl rfl ?_|refine Hm (cg false) rfl rfl ?_|refine BG (Ez 6 _ _) rfl rfl ?_|refine CX (Ez 6 _ _) rfl rfl ?_|refine Hm (Ez 6 _ _) rfl rfl ?_))
     exact fin (A6 6 (f.push true) (g.push false)) _ kk o2 (by rw[EP];rfl)
   by_cases h8:k=8
   ·subst h8
    refine EI (by decide) (EI (by decide) (EI (by decide) (CN rfl ?_)))
    (repeat (first|with_reducible_and_instances (first|refine WJ ?_|refine W (Dz p2 (by omega) (by with_unfolding_all rfl) (by with_unfolding_all rfl)) ?_|refine W (V3) ?_|refine W (Sm) ?_|refine W (Ha (Fo.Aj _)) ?_|refine W (AN (by with_unfolding_all rfl)) ?_)|refine BG (cf false) rfl rfl ?_|refine CX (cf false) rfl rfl ?_|refine Hm (cf false) rfl rfl ?_|refine BG (cg t) rfl rfl ?_|refine CX (cg t) rfl rfl ?_|refine Hm (cg t) rfl rfl ?_|refine BG (Ez 5 (f.push false) (g.push t)) rfl rfl ?_|refine CX (Ez 5 (f.push false) (g.push t)) rfl rfl ?_|refine Hm (Ez 5 (f.push false) (g.push t)) rfl rfl ?_))
    refine Ai rfl fun S3 k3 n3 o3=>?_
    refine AF (cs':=(A6 5 (f.push false) (g.push t)).row) o3 (Fo.Aj _) rfl fun S4 n4 o4 f4=>?_
    have k4:=k3.st (Ai4 _) n4 f4
    have p4:=(Kg k4 p2)
    have r4:=(Kg k4 o2)
    (repeat (first|with_reducible_and_instances (first|refine WJ ?_|refine W (Dz p4 (by omega) (by with_unfolding_all rfl) (by with_unfolding_all rfl)) ?_|refine W (V3) ?_|refine W (Sm) ?_|refine W (Ha (Fo.Aj _)) ?_|refine W (AN (by with_unfolding_all rfl)) ?_)|refine BG (cf true) rfl rfl ?_|refine CX (cf true) rfl rfl ?_|refine Hm (cf true) rfl rfl ?_|refine BG (cg (!t)) rfl rfl ?_|refine CX (cg (!t)) rfl rfl ?_|refine Hm (cg (!t)) rfl rfl ?_|refine BG (Ez 5 (f.push true) (g.push (!t))) rfl rfl ?_|refine CX (Ez 5 (f.push true) (g.push (!t))) rfl rfl ?_|refine Hm (Ez 5 (f.push true) (g.push (!t))) rfl rfl ?_))
    refine Ai rfl fun S5 k5 n5 o5=>?_
    refine AF (cs':=(A6 5 (f.push true) (g.push (!t))).row) o5 (Fo.Aj _) rfl fun S6 n6 o6 f6=>?_
    have k6:=k5.st (Ai4 _) n6 f6
    rw[An (n:=4) (Kg k6 o4) (Fo.Aj _),An (n:=4) o6 (Fo.Aj _)]
    refine Ae (Ez 6 (A6 5 (f.push false) (g.push t)) (A6 5 (f.push true) (g.push (!t)))) ?_
    exact fin _ _ ((kk.trans k4).trans k6) (Kg k6 r4) FY.symm
   ·repeat (refine EI (by omega) ?_)
    rw[Ac,Af p2 rfl rfl]
    exact rest (by omega) (by omega) (by omega) (by omega)
theorem K7(k:Int)(l:List Fo):BH Pg 117 [aI k,Dx l] (Fo.av (.mk k ⟨#[]⟩ 0 l)):=by
 intro S
 refine Ad.tree (eW ?_)
 unfold AeL
 refine Ai rfl fun S1 k1 n1 o1=>?_
 rw[A7 (cs:=Fo.row (.mk k ⟨#[]⟩ 0 l)) (by rw[Fo.AE];rfl)]
 refine AF o1 (Fo.Aj _) rfl fun S2 n2 o2 f2=>?_
 rw[An (n:=4) o2 (Fo.Aj _)]
 exact⟨_,rfl,k1.st (Ai4 _) n2 f2,Fo.tr _ _ _⟩
def AfH:List (Int × Int):=[(1,2),(5,6),(9,10),(11,14),(13,12),(15,18),(17,16)]
def I1(n:Nat):List (Key × AV):=(AfH.take n).flatMap fun p=>[(.i p.1,aI p.2),(.i p.2,aI p.1)]
abbrev I0:AV:=.mt (.i .i64) (I1 7)
def uC:List AV:=[aI 1,aI 2,aI 5,aI 6,aI 9,aI 10,aI 11,aI 14,aI 13,aI 12,aI 15,aI 18,aI 17,aI 16]
theorem Xw{i:Nat}(h:i<7):∃ a b:Int,IS true 2 (i*2) uC=some (.a [aI a,aI b])∧C0 (C0 (I1 i) (.i a) (aI b)) (.i b) (aI a)=I1 (i+1):=by
 match i,h with
 |0,_=>exact⟨1,2,rfl,rfl⟩
 |1,_=>exact⟨5,6,rfl,rfl⟩
 |2,_=>exact⟨9,10,rfl,rfl⟩
 |3,_=>exact⟨11,14,rfl,rfl⟩
 |4,_=>exact⟨13,12,rfl,rfl⟩
 |5,_=>exact⟨15,18,rfl,rfl⟩
 |6,_=>exact⟨17,16,rfl,rfl⟩
theorem nY{k:Int}(h:k=1∨k=2∨k=5∨k=6∨9≤k∧k≤18):kN (aI 0) false (Js (I1 7) (.i k))=aI (C8 k):=by
 have:k=1∨k=2∨k=5∨k=6∨k=9∨k=10∨k=11∨k=12∨k=13∨k=14∨k=15∨k=16∨k=17∨k=18:=by omega
 rcases this with rfl|rfl|rfl|rfl|rfl|rfl|rfl|rfl|rfl|rfl|rfl|rfl|rfl|rfl<;>rfl
theorem kE{n sz id z:Nat}(hz:z<n){S0:Aa}{P:AV→Prop}:(∃ q,(∀ T,Am S0 T→IL n sz (.p id 0 0) (aI z) T fun v S=>v=q∧S=T)∧P q)=P (.p id 0 (z*sz)):=Fp (op:=fun T K=>IL n sz (.p id 0 0) (aI z) T K) fun T hT K=>M4 hz
theorem jM:BH Pg 69 [] I0:=by
 intro S
 refine Ad.tree (pK ?_)
 unfold m69
 unfold Zb
 dsimp only
 rw[A7 (cs:=[aI 1,aI 2]) rfl,A7 (cs:=[aI 5,aI 6]) rfl,A7 (cs:=[aI 9,aI 10]) rfl,A7 (cs:=[aI 11,aI 14]) rfl,A7 (cs:=[aI 13,aI 12]) rfl,A7 (cs:=[aI 15,aI 18]) rfl,A7 (cs:=[aI 17,aI 16]) rfl,A7 (cs:=uC) rfl]
 refine ZP (fun y S'=>Am S S'∧S.n<S'.n∧∃ i:Nat,y=aI i∧i≤7∧S'.obj S.n=some (.map (.i .i64) (I1 i) true)) (fun y _=>7 - ((Aw y).getD 0).toNat) ⟨(Am.refl S).new _,by simp,0,rfl,by omega,B0 _⟩ ?_
 dsimp only[BS]
 rintro _ S3 ⟨k3,n3,i,rfl,hi,m3⟩ KE hKE
 dsimp only[u1,Fi,Lt]
 rw[As,Ag]
 refine Al (fun hlt=>?_) (fun hge=>?_)
 ·have hlt:i<7:=by have:=dT hlt;omega
  obtain⟨a,b,hp,hs⟩:=Xw hlt
  refine⟨i,rfl,⟨by omega,by omega⟩,?_⟩
  refine⟨.a [aI a,aI b],by rw[AiJ];exact hp,?_⟩
  refine Ai rfl fun S4 k4 n4 o4=>?_
  refine AF (cs':=[aI a,aI b]) o4 rfl rfl fun S5 n5 o5 f5=>?_
  have k5:=k4.st (Ai4 _) n5 f5
  have m5:=(k5.2 _ n3).trans m3
  have r0:∀{P:AV→Prop},(∃ q,(∀ T,Am S5 T→IL 2 1 (.p S3.n 0 0) (.v (.int .i64 0)) T fun v S=>v=q∧S=T)∧P q)=P (.p S3.n 0 0):=kE (z:=0) (by omega)
  have r1:∀{P:AV→Prop},(∃ q,(∀ T,Am S5 T→IL 2 1 (.p S3.n 0 0) (.v (.int .i64 1)) T fun v S=>v=q∧S=T)∧P q)=P (.p S3.n 0 1):=kE (z:=1) (by omega)
  rw[r0,Dz o5 (by omega) rfl rfl,r1,Dz o5 (by omega) rfl rfl,r1,Dz o5 (by omega) rfl rfl,r0,Dz o5 (by omega) rfl rfl]
  rw[FO m5 (NI _ _)]
  have o6:(Aa.Du S5 S.n (.map (.i .i64) (C0 (I1 i) (.i a) (aI b)) true)).obj S3.n=_:=(Da (by omega)).trans o5
  refine⟨fun T hT=>by rw[Af ((hT.2 _ (by show _<S5.n;omega)).trans o6) rfl rfl];exact⟨rfl,rfl⟩,fun T hT=>by rw[show (aI 0)=aI ((0:Nat):Int)from rfl,M4 (by omega)];exact⟨rfl,rfl⟩,fun T hT=>by rw[Af ((hT.2 _ (by show _<S5.n;omega)).trans o6) rfl rfl];exact⟨rfl,rfl⟩,fun T hT=>by rw[show (aI 1)=aI ((1:Nat):Int)from rfl,M4 (by omega)];exact⟨rfl,rfl⟩,?_⟩
  rw[FO (BI _ _) (NI _ _),Gx,hs,Ar (by omega) (by omega)]
  exact hKE _ _ ⟨(k3.trans k5).Du (Ai4 _) _,by show S.n<S5.n;omega,i+1,rfl,hlt,BI _ _⟩ (by simp[Aw];omega)
 ·have hge:i=7:=by have:=dF hge;omega
  subst hge
  refine⟨_,rfl,k3,.m' S.n (.i .i64) (I1 7) (I1 7) ?_ rfl (fun i e e2 h h2=>by rw[h]at h2;cases h2;rfl) (fun i e e2 h h2=>?_)⟩
  ·rw[Vu m3]
   have:AK S.n S.n=true:=by simp[AK]
   rw[this]
   rfl
  ·rw[h]at h2;cases h2
   have hm:e∈I1 7:=AjB h
   simp only[I1,List.mem_flatMap]at hm
   obtain⟨p,_,hp⟩:=hm
   simp only[AiO,AiT,or_false]at hp
   rcases hp with rfl|rfl<;>exact .v _
theorem wD{S:Aa}{fid mid i tf:Nat}{k l:Int}{n:ByteArray}{ks:List Fo}{t:Bool}(ho:S.obj fid=some (.cells tf [[aI k,.v (.string n),aI l,Dx ks]] true))(hf:fid<S.n)(hm:S.obj mid=some (.cells 118 [[I0]] true))(hm2:mid<S.n)(hi:i<ks.length)
    (h:BH Pg 68 [ks[i].av,aB t,I0] (ks[i].push t).av):AW Pg 116 ([] ++ [aI i,aB t] ++ [.p fid 0 0,.p mid 0 0]) S (ks[i].push t).av:=by
 refine Ad.tree (eX ?_)
 dsimp only[AeM,Lt,Lc]
 refine Ai rfl fun S1 k1 n1 o1=>?_
 have p1:=(k1.2 _ hf).trans ho
 have q1:=(k1.2 _ hm2).trans hm
 (repeat (first|with_reducible_and_instances (first|refine WJ ?_|refine W (Dz p1 (by omega) (by with_unfolding_all rfl) (by with_unfolding_all rfl)) ?_|refine W (Dz q1 (by omega) (by with_unfolding_all rfl) (by with_unfolding_all rfl)) ?_|refine W (xA hi) ?_|refine W (Ha (Fo.Aj _)) ?_|refine W (AN (by with_unfolding_all rfl)) ?_)|refine BG (h) rfl rfl ?_|refine CX (h) rfl rfl ?_|refine Hm (h) rfl rfl ?_))
 refine AF o1 (Fo.Aj _) rfl fun S2 n2 o2 f2=>?_
 rw[An (n:=4) o2 (Fo.Aj _)]
 exact⟨_,rfl,k1.st (Ai4 _) n2 f2,Fo.tr _ _ _⟩
abbrev mU(a b:Nat):AV:=.f (.func 116) [] [.p a 0 0,.p b 0 0]
theorem NG{ks:List Fo}{k k2 l:Int}{n:ByteArray}{t:Bool}(hl:ks.length≤1000000)(hf:∀ f∈ks,BH Pg 68 [f.av,aB t,I0] (f.push t).av){S S4:Aa}{o:Nat}{Q:Bg→Aa→Prop}(kk:Am S S4)(h0:S.n<S4.n)
    (ho:S.n+2<o) (ho2:o<S4.n) (oa:S4.obj S.n=some (.cells 32 [[aI k,.v (.string n),aI l,Dx ks]] true)) (om:S4.obj (S.n+1)=some (.cells 118 [[I0]] true)) (ob:S4.obj (S.n+2)=some (.cells 32 [HK] true)) (oc:S4.obj o=some (.cells 32 [[aI k2,.v (.string ⟨#[]⟩),aI 0,.nl]] true))
    (hQ:∀(r:AV) (T:Aa),Am S T→Cv (T.Bx (AK S.n)) S.n r (Fo.mk k2 ⟨#[]⟩ 0 (Fo.B4 ks t)).av→Q (.ret r) T):
    Ap Jf (vc Pg (XX.at_ [1,1,1,1,1,0,1,0,0]) (KN.drop 1)) 86 (FE (aB t) (.p (S.n+2) 0 0) (mU S.n (S.n+1)) (.p o 0 0) (aI ks.length) (.v (.int .i64 0))) S4 (Ak 1 (Av (vc Pg (XX.at_ [1,1,1,1,1,1]) (KN.drop 1)) (Ao Pg r68 Q))):=by
 refine ZQ (fun y S'=>∃(i:Nat) (z:AV),y=aI i∧i≤ks.length∧Am S S'∧S4.n≤S'.n∧S'.obj S.n=some (.cells 32 [[aI k,.v (.string n),aI l,Dx ks]] true)∧S'.obj (S.n+1)=some (.cells 118 [[I0]] true)∧S'.obj (S.n+2)=some (.cells 32 [HK] true)∧
     S'.obj o=some (.cells 32 [[aI k2,.v (.string ⟨#[]⟩),aI 0,z]] true)∧A4 S4.n S' z 32 (((ks.take i).map fun f=>f.push t).map Fo.row))
  (fun y _=>ks.length - ((Aw y).getD 0).toNat) ⟨0,.nl,rfl,Ai9 _,kk,Ai4 _,oa,om,ob,oc,.nl _ _ _⟩ ?_
 dsimp only[BS]
 rintro _ S5 ⟨i,z,rfl,hi,k5,n5,oa,om,ob,oc,w5⟩ KE hKE
 dsimp only[u3,Fi,Lt]
 rw[As,Ag]
 refine Al (fun hlt=>?_) (fun hge=>?_)
 ·have hlt:i<ks.length:=by have:=dT hlt;omega
  have hmem:=Ai6 hlt
  (repeat (first|with_reducible_and_instances (first|refine WJ ?_|refine W (Dz oc (by omega) (by with_unfolding_all rfl) (by with_unfolding_all rfl)) ?_|refine W (AN (by with_unfolding_all rfl)) ?_)|refine AhW ((fun T hT=>wD (t:=t) (Kg hT oa) (by have:=hT.1;omega) (Kg hT om) (by have:=hT.1;omega) hlt (hf _ hmem))) rfl rfl ?_))
  refine V2 (Fo.Aj _) ?_
  refine w5.app (c:=(ks[i].push t).row) (by omega) (Fo.Aj _) (by simp;omega) (fun z' S6 w6 b6 hz=>?_) rfl
  obtain⟨m6,hm6⟩:=hz
  have n6:=b6.1
  have old6:∀ x,x<S4.n→S6.obj x=S5.obj x:=fun x hx=>b6.2 x (by omega) (fun b m e=>by have:=w5.lt e;omega)
  refine B3 ?_
  refine B8 ((old6 _ (by omega)).trans oc) (by simp) (by rw[hm6];rfl) fun S7 n7 o7 f7=>?_
  rw[Ar (by omega) (by omega)]
  have old7:∀ x,x<o→S7.obj x=S5.obj x:=fun x hx=>(f7 x (by omega)).trans (old6 x (by omega))
  refine hKE _ _ ⟨i+1,z',rfl,hlt,⟨by have:=k5.1;omega,fun x hx=>(old7 x (by omega)).trans (k5.2 x hx)⟩,by omega,(old7 _ (by omega)).trans oa,(old7 _ (by omega)).trans om,(old7 _ (by omega)).trans ob,o7,?_⟩ (by simp[Aw];omega)
  rw[AiR,Ai3 hlt,AiB,AiB]
  exact w6.st (id:=o) (fun b m e=>by rw[hm6]at e;injection e;omega) n7 f7
 ·have hge:i=ks.length:=by have:=dF hge;omega
  subst hge
  rw[An (n:=4) oc rfl]
  refine AF ob rfl rfl fun S6 n6 o6 f6=>?_
  rw[An (n:=4) o6 rfl]
  have w6:A4 S4.n S6 z 32 _:=w5.st (id:=S.n+2) (fun b m e=>by have:=w5.lt e;omega) n6 f6
  rw[Aj3]at w6
  refine hQ _ _ (k5.st (by omega) n6 f6) ?_
  rw[Fo.av,Fo.AE,Fo.If]
  refine .a _ _ rfl fun k u u2 e1 e2=>?_
  match k with
  |0=>cases e1;cases e2;exact .v _
  |1=>cases e1;cases e2;exact .v _
  |2=>cases e1;cases e2;exact .v _
  |3=>cases e1;cases e2;exact Ef (fun r hr u hu=>by obtain⟨f,_,rfl⟩:=AiL.1 hr;exact Fo.tree f u hu) w6 (by omega)
  |k+4=>simp at e1
theorem jN:∀(f:Fo),f.ok→∀{d:Int},f.BP d=true→∀ t,BH Pg 68 [f.av,aB t,I0] (f.push t).av:=by
 intro f
 induction f using Fo.ind with
 |h k n l ks ih =>
  intro hok d hm t S
  obtain⟨h1,h2,h3,h4,h5⟩:=hok.inv
  have hf:∀ f∈ks,∀ d,f.BP d=true→∀ t,BH Pg 68 [f.av,aB t,I0] (f.push t).av:=fun f hf d hd t=>ih f hf (h5 f hf) hd t
  have hall:∀ f∈ks,f.BP (d - 1)=true:=fun f hf=>by
   rw[Fo.Cm]at hm
   simp only[Ai5,AiD]at hm
   exact hm.2.2.2.2 f hf
  refine Ad.tree (pM ?_)
  dsimp only[m68,Zr,Fi,Lf]
  rw[Fo.av,Fo.AE]
  refine Ai rfl fun S1 k1 n1 o1=>?_
  refine BM rfl fun S2 k2 n2 o2=>?_
  refine Ai rfl fun S3 k3 n3 o3=>?_
  rw[show S2.n=S.n+2 by omega]at o3
  rw[n1]at o2
  rw[show S2.n=S.n+2 by omega,n1]
  have p3:=(Kg k3 (Kg k2 o1))
  have q3:=(Kg k3 o2)
  have kk:=(k1.trans k2).trans k3
  rw[Ac,Af p3 rfl rfl]
  have ck:∀(T:Aa),T.obj S.n=some (.cells 32 [[aI k,.v (.string n),aI l,Dx ks]] true)→T.obj (S.n+1)=some (.cells 118 [[I0]] true)→S.n+1<T.n→∀(i:Nat) (hi:i<ks.length) (t:Bool),AW Pg 116 ([] ++ [aI i,aB t] ++ [.p S.n 0 0,.p (S.n+1) 0 0]) T (ks[i].push t).av:=
   fun T ho hm hn i hi t=>wD ho (by omega) hm hn hi (hf _ (Ai6 hi) _ (hall _ (Ai6 hi)) t)
  have fin:∀(g:Fo) (T:Aa),Am S T→T.obj (S.n+2)=some (.cells 32 [HK] true)→g=Fo.push (.mk k n l ks) t→A8 4 (.p (S.n+2) 0 0) g.av T (fun _ T2=>AA 4 (.p (S.n+2) 0 0) T2 fun v S'=>∃ r,Bg.ret v = .ret r∧Am S S'∧Cv (S'.Bx (AK S.n)) S.n r (Fo.push (.mk k n l ks) t).av):=by
   intro g T hT ho hg
   rw[Fo.av]
   refine AF ho (Fo.Aj g) rfl fun T1 n1 o1 f1=>?_
   rw[An (n:=4) o1 (Fo.Aj g)]
   exact⟨_,rfl,hT.st (by omega) n1 f1,by rw[←hg];exact Fo.tr g _ _⟩
  have dflt:∀(T:Aa) (o:Nat) (k2:Int),Am S T→S.n+2<o→o<T.n→T.obj S.n=some (.cells 32 [[aI k,.v (.string n),aI l,Dx ks]] true)→T.obj (S.n+1)=some (.cells 118 [[I0]] true)→T.obj (S.n+2)=some (.cells 32 [HK] true)→T.obj o=some (.cells 32 [[aI k2,.v (.string ⟨#[]⟩),aI 0,.nl]] true)→
      Fo.push (.mk k n l ks) t = .mk k2 ⟨#[]⟩ 0 (Fo.B4 ks t)→
      Ap Jf (vc Pg (XX.at_ [1,1,1,1,1,0,1,0,0]) (KN.drop 1)) 86 (FE (aB t) (.p (S.n+2) 0 0) (mU S.n (S.n+1)) (.p o 0 0) (aI ks.length) (.v (.int .i64 0))) T (Ak 1 (Av (vc Pg (XX.at_ [1,1,1,1,1,1]) (KN.drop 1)) (Ao Pg r68 fun e S'=>∃ r,e = .ret r∧Am S S'∧Cv (S'.Bx (AK S.n)) S.n r (Fo.push (.mk k n l ks) t).av))):=fun T o k2 hT ho ho2 oa om ob oc he =>
   NG h4 (fun f hf'=>hf f hf' _ (hall f hf') t) hT (by omega) ho ho2 oa om ob oc fun r T' hT' hr=>⟨r,rfl,hT',by rw[he];exact hr⟩
  have rest:¬ k=3→¬ k=4→¬ k=7→¬ k=8→(k=1∨k=2∨k=5∨k=6∨9≤k∧k≤18)→shift (.p S.n 0 0) 0 S3 fun v53 T=>Ax v53 T fun v54 T=>CH [(0,1),(1,1),(2,1),(3,1)] HK [(0,v54)] T fun v55 T=>Az 32 4 (.a HK) T fun v56 T=>A8 4 v56 v55 T fun _ T=>gd t (Ax (.p (S.n+1) 0 0) T fun v59 T=>shift (.p S.n 0 0) 0 T fun v60 T=>Ax v60 T fun v61 T=>Vk (.i .i64) (.v (.int .i64 0)) false v59 v61 T fun v62 T=>shift v56 0 T fun v63 T=>A8 1 v63 v62 T fun _ T =>
      shift (.p S.n 0 0) 3 T fun v65 T=>Ax v65 T fun v66 T=>AG v66 T fun v67 T =>
      Ap Jf (vc Pg (XX.at_ [1,1,1,1,1,0,1,0,0]) (KN.drop 1)) 86 (FE (aB t) (.p (S.n+2) 0 0) (mU S.n (S.n+1)) v56 v67 (.v (.int .i64 0))) T (Ak 1 (Av (vc Pg (XX.at_ [1,1,1,1,1,1]) (KN.drop 1)) (Ao Pg r68 fun e S'=>∃ r,e = .ret r∧Am S S'∧Cv (S'.Bx (AK S.n)) S.n r (Fo.push (.mk k n l ks) t).av))))
      (shift (.p S.n 0 0) 3 T fun v65 T=>Ax v65 T fun v66 T=>AG v66 T fun v67 T=>Ap Jf (vc Pg (XX.at_ [1,1,1,1,1,0,1,0,0]) (KN.drop 1)) 86 (FE (aB t) (.p (S.n+2) 0 0) (mU S.n (S.n+1)) v56 v67 (.v (.int .i64 0))) T (Ak 1 (Av (vc Pg (XX.at_ [1,1,1,1,1,1]) (KN.drop 1)) (Ao Pg r68 fun e S'=>∃ r,e = .ret r∧Am S S'∧Cv (S'.Bx (AK S.n)) S.n r (Fo.push (.mk k n l ks) t).av)))):=by
   intro h3 h4' h7 h8 hkd
   have he:Fo.push (.mk k n l ks) t = .mk (if t then C8 k else k) ⟨#[]⟩ 0 (Fo.B4 ks t):=by rw[Fo.push,if_neg h3,if_neg h4',if_neg h7,if_neg h8]
   rw[Ac,Af p3 rfl rfl,A7 (cs:=[aI k,.v (.string ⟨#[]⟩),aI 0,.nl]) rfl]
   refine Ai rfl fun S4 k4 n4 o4=>?_
   refine AF (cs':=[aI k,.v (.string ⟨#[]⟩),aI 0,.nl]) o4 rfl rfl fun S5 n5 o5 f5=>?_
   have k5:=k4.st (Ai4 _) n5 f5
   have p5:=(Kg k5 p3)
   have q5:=(Kg k5 q3)
   have r5:=(Kg k5 o3)
   refine Al (fun ht=>?_) (fun ht=>?_)
   ·subst ht
    rw[Af q5 rfl rfl,Ac,Af p5 rfl rfl,aT (NI _ _),nY hkd,Ac]
    refine B8 o5 (by simp) rfl fun S6 n6 o6 f6=>?_
    rw[Ac,Af ((f6 _ (by omega)).trans p5) rfl rfl,BJ]
    exact dflt S6 S3.n (C8 k) ((kk.trans k5).st (by omega) n6 f6) (by omega) (by omega) ((f6 _ (by omega)).trans p5) ((f6 _ (by omega)).trans q5) ((f6 _ (by omega)).trans r5) o6 he
   ·subst ht
    rw[Ac,Af p5 rfl rfl,BJ]
    exact dflt S5 S3.n k (kk.trans k5) (by omega) (by omega) p5 q5 r5 o5 he
  obtain⟨rfl,hd,hc⟩:=DB hm
  rcases hc with⟨hk,rfl,rfl⟩|⟨rfl,rfl,h0⟩|⟨hk,rfl,f,rfl,hfm⟩|⟨hk,rfl,f,g,rfl,hfm,hgm⟩
  ·repeat (refine EI (by omega) ?_)
   exact rest (by omega) (by omega) (by omega) (by omega) (by omega)
  ·refine CN rfl ?_
   rw[Ag]
   refine Al (fun ht=>?_) (fun ht=>?_)
   ·subst ht
    rw[An (n:=4) p3 rfl]
    refine Gt (r:=[aI 3,.v (.string ⟨#[]⟩),aI l,Dx []]) rfl ?_
    refine CX (K7 4 [.mk 3 ⟨#[]⟩ l []]) rfl (by rw[show Dx [Fo.mk 3 ⟨#[]⟩ l []] = .l [Fo.row (.mk 3 ⟨#[]⟩ l [])]from rfl,Fo.AE]) ?_
    exact fin (AT 4 (.mk 3 ⟨#[]⟩ l [])) _ kk o3 (by rw[CY];rfl)
   ·subst ht
    rw[An (n:=4) p3 rfl]
    have:=fin (.mk 3 ⟨#[]⟩ l []) _ kk o3 (by rw[CY];rfl)
    rw[Fo.av,Fo.AE]at this
    exact this
  ·have cf:=fun t=>ck S3 p3 q3 (by omega) 0 (by simp) t
   by_cases h4:k=4
   ·subst h4
    refine EI (by decide) (CN rfl ?_)
    rw[AI]
    refine BL (cf _) ?_
    exact fin _ _ kk o3 Hy.symm
   ·repeat (refine EI (by omega) ?_)
    exact rest (by omega) (by omega) (by omega) (by omega) (by omega)
  ·have cf:=fun t=>ck S3 p3 q3 (by omega) 0 (by simp) t
   have cg:=fun t=>ck S3 p3 q3 (by omega) 1 (by simp) t
   by_cases h7:k=7
   ·subst h7
    refine EI (by decide) (EI (by decide) (CN rfl ?_))
    rw[Ag]
    refine Al (fun ht=>?_) (fun ht=>?_)
    ·subst ht
     refine BL (cf false) (BL (cg true) ?_)
     refine Fb (Fo.Aj _) (Fo.Aj _) (Ae (K7 5 [f.push false,g.push true]) ?_)
     exact fin (A6 5 (f.push false) (g.push true)) _ kk o3 (by rw[EP];rfl)
    ·subst ht
     refine BL (cf true) (BL (cg false) ?_)
     refine Fb (Fo.Aj _) (Fo.Aj _) (Ae (K7 6 [f.push true,g.push false]) ?_)
     exact fin (A6 6 (f.push true) (g.push false)) _ kk o3 (by rw[EP];rfl)
   by_cases h8:k=8
   ·subst h8
    refine EI (by decide) (EI (by decide) (EI (by decide) (CN rfl ?_)))
    refine BL (cf false) (BL (cg t) ?_)
    refine Fb (Fo.Aj _) (Fo.Aj _) (Ae (K7 5 [f.push false,g.push t]) ?_)
    refine BL (cf true) ?_
    rw[AI]
    refine BL (cg (!t)) ?_
    refine Fb (Fo.Aj _) (Fo.Aj _) (Ae (K7 5 [f.push true,g.push (!t)]) ?_)
    refine Fb (Fo.Aj _) (Fo.Aj _) (Ae (K7 6 [A6 5 (f.push false) (g.push t),A6 5 (f.push true) (g.push (!t))]) ?_)
    exact fin _ _ kk o3 FY.symm
   ·repeat (refine EI (by omega) ?_)
    exact rest (by omega) (by omega) (by omega) (by omega) (by omega)
def Li(f:Fo):Fo:=if f.BP 60=true then f.push false else LU
theorem AgI{f:Fo}(hf:f.ok):BH Pg 32 [f.av] (Li f).av:=by
 intro S
 refine Ad.tree (qV ?_)
 dsimp only[m32,Fi,Lt,Lc];unfold Li
 refine Ai (Fo.Aj f) fun S1 k1 n1 o1=>?_
 refine Ai rfl fun S2 k2 n2 o2=>?_
 have p2:=(Kg k2 o1)
 rw[An (n:=4) p2 (Fo.Aj f)]
 refine Ae (wP f hf 60 ⟨by decide,by decide⟩) ?_
 rw[AI,Ag]
 refine Al (fun h=>?_) (fun h=>?_)
 ·have h:f.BP 60=false:=by simpa using h
  rw[h,if_neg (by decide),A7 (cs:=HK) rfl]
  refine AF (cs':=HK) o2 rfl rfl fun S3 n3 o3 f3=>?_
  rw[An (n:=4) o3 rfl]
  refine⟨_,rfl,(k1.trans k2).st (by omega) n3 f3,?_⟩
  rw[Fo.av,Fo.AE]
  refine .a _ _ rfl fun k u u2 e1 e2=>?_
  match k with
  |0=>cases e1;cases e2;exact .v _
  |1=>cases e1;cases e2;exact .v _
  |2=>cases e1;cases e2;exact .v _
  |3=>cases e1;cases e2;exact .nl
  |k+4=>simp at e1
 ·have h:f.BP 60=true:=by simpa using h
  rw[h,if_pos rfl]
  (repeat (first|with_reducible_and_instances (first|refine WJ ?_|refine W (AaC (n:=4) p2 (by omega) (Fo.Aj f)) ?_|refine W (AN (by with_unfolding_all rfl)) ?_)|refine BG (jM) rfl rfl ?_|refine CX (jM) rfl rfl ?_|refine Hm (jM) rfl rfl ?_|refine BG (jN f hf h false) rfl rfl ?_|refine CX (jN f hf h false) rfl rfl ?_|refine Hm (jN f hf h false) rfl rfl ?_))
  refine AF o2 (Fo.Aj _) rfl fun S3 n3 o3 f3=>?_
  rw[An (n:=4) o3 (Fo.Aj _)]
  exact⟨_,rfl,(k1.trans k2).st (by omega) n3 f3,Fo.tr _ _ _⟩
theorem AgE{f:Fo}(hf:f.ok):BH Pg 41 [f.av] (Li f).av:=by
 intro S
 refine Ad.tree (qN ?_)
 dsimp only[m41,Fi];unfold Li
 refine Ai (Fo.Aj f) fun S1 k1 n1 o1=>?_
 refine Ai rfl fun S2 k2 n2 o2=>?_
 have p2:=(Kg k2 o1)
 rw[An (n:=4) p2 (Fo.Aj f)]
 refine Ae (wO f hf 60 ⟨by decide,by decide⟩) ?_
 rw[AI,Ag]
 refine Al (fun h=>?_) (fun h=>?_)
 ·have h:f.BP 60=false:=by simpa using h
  rw[h,if_neg (by decide),A7 (cs:=HK) rfl]
  refine AF (cs':=HK) o2 rfl rfl fun S3 n3 o3 f3=>?_
  rw[An (n:=4) o3 rfl]
  refine⟨_,rfl,(k1.trans k2).st (by omega) n3 f3,?_⟩
  rw[Fo.av,Fo.AE]
  refine .a _ _ rfl fun k u u2 e1 e2=>?_
  match k with
  |0=>cases e1;cases e2;exact .v _
  |1=>cases e1;cases e2;exact .v _
  |2=>cases e1;cases e2;exact .v _
  |3=>cases e1;cases e2;exact .nl
  |k+4=>simp at e1
 ·have h:f.BP 60=true:=by simpa using h
  rw[h,if_pos rfl,An (n:=4) p2 (Fo.Aj f)]
  refine Ae (jQ f hf h false) ?_
  refine AF o2 (Fo.Aj _) rfl fun S3 n3 o3 f3=>?_
  rw[An (n:=4) o3 (Fo.Aj _)]
  exact⟨_,rfl,(k1.trans k2).st (by omega) n3 f3,Fo.tr _ _ _⟩
structure Cs (c:Ci):Prop where
 ok:c.ok
 right:c.right=true
 small:c.gr.inputs≤60
theorem Cs.sum{c:Ci}(h:Cs c):∃ m:Nat,c.inputs+c.latches.length=m∧c.gr.inputs=m∧m≤60∧0≤c.inputs∧c.inputs≤60:=by
 obtain⟨g1,g2,g3⟩:=CJ h.right
 have hin:=(Bp.1 h.right).1
 have:=h.small
 exact⟨c.gr.inputs.toNat,by omega,by omega,by omega,hin.1,by omega⟩
theorem CW{c:Ci}(hc:Cs c)(s:Int):BH Pg 72 [c.av,aI s] (aB (BZ c s)):=by
 intro S
 obtain⟨m,h1,h2,h3,h4,h5⟩:=hc.sum
 have hcon:=hc.ok.cons
 refine Ad.Bt (pH ?_)
 dsimp only[m72,Fi,Lf];unfold BZ
 rw[h2,AiJ]
 refine Ai rfl fun S1 k1 n1 o1=>?_
 rw[Ac,Af o1 rfl rfl,Ac,Af o1 rfl rfl,Bv,Ar (by omega) (by omega),h1,As,Ag]
 refine Al (fun h=>⟨?_,k1⟩) (fun h=>?_)
 ·have:=dT h
  rw[decide_eq_false (by omega),AiC]
 have h0:=dF h
 rw[Dl h3,BA,Ag,decide_eq_true (show 0≤s by omega),Ai7]
 refine Al (fun h=>⟨?_,k1⟩) (fun h=>?_)
 ·have:=dT h
  rw[decide_eq_false (by omega),AiC]
 have h6:=dF h
 rw[decide_eq_true (show s<2 ^ m by omega),Ai7]
 refine ZM (fun y S'=>S'=S1∧∃ i:Nat,y=aI i∧i≤c.cons.length∧∀ j (h:j<c.cons.length),j<i→DT c s c.cons[j]=true) (fun y _=>c.cons.length - ((Aw y).getD 0).toNat) ⟨rfl,0,rfl,Ai9 _,fun j _ h=>by omega⟩ ?_
 dsimp only[BS]
 rintro _ S1 ⟨rfl,i,rfl,hi,hall⟩ KE hKE
 dsimp only[uX,Fi,Lf,Lq,Ld]
 rw[Ac,Af o1 rfl rfl,Ay,As,Ag]
 refine Al (fun hlt=>?_) (fun hge=>?_)
 ·have hlt:i<c.cons.length:=by have:=dT hlt;omega
  show ∃ q:AV,_
  refine⟨_,by rw[An (n:=8) o1 rfl];exact⟨rfl,rfl⟩,?_⟩
  refine⟨_,by rw[Ac];exact⟨rfl,rfl⟩,?_⟩
  refine⟨_,by rw[Af o1 rfl rfl];exact⟨rfl,rfl⟩,?_⟩
  refine⟨_,by rw[AM hlt];exact⟨rfl,rfl⟩,?_⟩
  refine⟨_,by rw[A3];exact⟨rfl,rfl⟩,?_⟩
  refine⟨_,Ae (I5 hc.ok (s:=s) (hcon.1 _ (Ai6 hlt))) ⟨rfl,rfl⟩,?_⟩
  refine⟨_,by rw[AI];exact⟨rfl,rfl⟩,?_⟩
  rw[Ag]
  refine Al (fun h=>⟨by rw[Ur hlt (by simpa using h)],k1⟩) (fun h=>?_)
  rw[Ar (by omega) (by omega)]
  exact hKE _ _ ⟨rfl,i+1,rfl,hlt,LO (p:=fun l=>DT c s l=true) (hi:=hlt) hall (by simpa using h)⟩ (by simp[Aw];omega)
 ·have hge:i=c.cons.length:=by have:=dF hge;omega
  subst hge
  exact⟨by rw[Qn fun j hj=>hall j hj hj],k1⟩
theorem AgV{a b:Int}(hb:0≤b){S0:Aa}{P:AV→Prop}:(∃ q,(bin .shr 0 (aI a) (aI b) S0 fun v S=>v=q∧S=S0)∧P q)=P (aI (a.fdiv (2 ^ min b.toNat 64))):=H4 (op:=fun K=>bin .shr 0 (aI a) (aI b) S0 K) fun K=>Qa hb .i64 .i64 0
theorem Ks{c:Ci}(hc:Cs c)(s t:Int):BH Pg 75 [c.av,aI s,aI t] (aB (BN c s t)):=by
 intro S
 obtain⟨m,h1,h2,h3,h4,h5⟩:=hc.sum
 refine Ad.Bt (pE ?_)
 dsimp only[m75,Zm,Fi,Lq,Ld];unfold BN
 refine Ai rfl fun S1 k1 n1 o1=>?_
 show ∃ q:AV,_
 cases e1:BZ c s with
 |false =>
  (repeat (first|with_reducible_and_instances (first|refine WJ ?_|refine W (Cx (n:=8) o1 (by with_unfolding_all rfl)) ?_|refine W (Bd e1) ?_|refine W (Be e1) ?_|refine W (AL e1) ?_|refine W (AO e1) ?_|refine W (AN (by with_unfolding_all rfl)) ?_)|refine BG (CW hc s) rfl rfl ?_|refine CX (CW hc s) rfl rfl ?_))
  exact⟨by rw[AiC],k1⟩
 |true =>
  cases e2:BZ c t with
  |false =>
   (repeat (first|with_reducible_and_instances (first|refine WJ ?_|refine W (Cx (n:=8) o1 (by with_unfolding_all rfl)) ?_|refine W (Bd e1) ?_|refine W (Be e1) ?_|refine W (AL e1) ?_|refine W (AO e1) ?_|refine W (Bd e2) ?_|refine W (Be e2) ?_|refine W (AL e2) ?_|refine W (AO e2) ?_|refine W (AN (by with_unfolding_all rfl)) ?_)|refine BG (CW hc s) rfl rfl ?_|refine CX (CW hc s) rfl rfl ?_|refine BG (CW hc t) rfl rfl ?_|refine CX (CW hc t) rfl rfl ?_))
   exact⟨by rw[AiC,Aj2],k1⟩
  |true =>
   (repeat (first|with_reducible_and_instances (first|refine WJ ?_|refine W (Cx (n:=8) o1 (by with_unfolding_all rfl)) ?_|refine W (A1 o1 (by with_unfolding_all rfl) (by with_unfolding_all rfl)) ?_|refine W (AgV h4) ?_|refine W (Bd e1) ?_|refine W (Be e1) ?_|refine W (AL e1) ?_|refine W (AO e1) ?_|refine W (Bd e2) ?_|refine W (Be e2) ?_|refine W (AL e2) ?_|refine W (AO e2) ?_|refine W (AN (by with_unfolding_all rfl)) ?_)|refine BG (CW hc s) rfl rfl ?_|refine CX (CW hc s) rfl rfl ?_|refine BG (CW hc t) rfl rfl ?_|refine CX (CW hc t) rfl rfl ?_|refine BG (jR hc.ok s) rfl rfl ?_|refine CX (jR hc.ok s) rfl rfl ?_))
   exact⟨by rw[Ai7,Ai7],k1⟩
theorem Nj:BH Pg 77 [] IM.av:=by
 intro S
 refine Ad.tree (pC ?_)
 unfold m77
 refine Ai rfl fun S1 k1 n1 o1=>?_
 rw[A7 (cs:=[aI 2,.v (.string ByteArray.empty),aI 0,.nl]) rfl]
 refine AF (cs':=[aI 2,.v (.string ByteArray.empty),aI 0,.nl]) o1 rfl rfl fun S2 n2 o2 f2=>?_
 rw[An (n:=4) o2 rfl]
 refine⟨_,rfl,k1.st (Ai4 _) n2 f2,?_⟩
 rw[Fo.av,Fo.AE]
 refine .a _ _ rfl fun k u u2 e1 e2=>?_
 match k with
 |0=>cases e1;cases e2;exact .v _
 |1=>cases e1;cases e2;exact .v _
 |2=>cases e1;cases e2;exact .v _
 |3=>cases e1;cases e2;exact .nl
 |k+4=>simp at e1
theorem VL(f g:Fo):BH Pg 79 [f.av,g.av] (A6 15 f g).av:=by
 intro S
 refine Ad.tree (pA ?_)
 unfold m79
 refine Ai (Fo.Aj f) fun S1 k1 n1 o1=>?_
 refine Ai (Fo.Aj g) fun S2 k2 n2 o2=>?_
 refine Ai rfl fun S3 k3 n3 o3=>?_
 rw[An (n:=4) (Kg k3 (Kg k2 o1)) (Fo.Aj f),An (n:=4) (Kg k3 o2) (Fo.Aj g)]
 refine Ae (Ez 15 f g) ?_
 refine AF o3 (Fo.Aj _) rfl fun S4 n4 o4 f4=>?_
 rw[An (n:=4) o4 (Fo.Aj _)]
 exact⟨_,rfl,((k1.trans k2).trans k3).st (by omega) n4 f4,Fo.tr _ _ _⟩
theorem Nk(f:Fo):BH Pg 76 [f.av] (AT 13 f).av:=by
 intro S
 refine Ad.tree (pD ?_)
 unfold m76
 refine Ai (Fo.Aj f) fun S1 k1 n1 o1=>?_
 refine Ai rfl fun S2 k2 n2 o2=>?_
 rw[An (n:=4) (Kg k2 o1) (Fo.Aj f)]
 refine Ae (wM 13 f) ?_
 refine AF o2 (Fo.Aj _) rfl fun S3 n3 o3 f3=>?_
 rw[An (n:=4) o3 (Fo.Aj _)]
 exact⟨_,rfl,(k1.trans k2).st (by omega) n3 f3,Fo.tr _ _ _⟩
@[simp] theorem F6(l:List Tn){S:Aa}{K:AV→Aa→Prop}:AG (Lg l) S K=K (aI l.length) S:=by simp[Lg]
theorem LQ{l:List Tn}{e i:Nat}{S:Aa}{K:AV→Aa→Prop}(h:i<l.length):AR e 5 (Lg l) (aI i) S K=K (.q l[i].row 0) S:=by
 unfold Lg
 rw[IX (by simpa using h) (by simp[Tn.Aj])]
 simp
theorem mC{α:Type}{l:List α}:decide ((l.length:Int)=0)=decide (l.length=0):=decide_eq_decide.2 ⟨fun h=>by omega,fun h=>by omega⟩
theorem Hi(tk s a:Int)(ss:List Int)(ks:List Tn):BH Pg 73 [(Tn.mk tk s a ss ks).av] (aB (decide (a=0∧ss.length=0∧ks.length=0))):=by
 intro S
 refine Ad.Bt (pG ?_)
 dsimp only[m73,Fi,Lf]
 rw[Tn.av,Tn.AE]
 refine Ai rfl fun S1 k1 n1 o1=>?_
 rw[Ac,Af o1 rfl rfl,AD,Ag]
 refine Al (fun h=>?_) (fun h=>⟨?_,k1⟩)
 ·have h1:=dT h
  rw[Ac,Af o1 rfl rfl,Ay,AD,Ag]
  refine Al (fun h=>?_) (fun h=>⟨?_,k1⟩)
  ·have h2:=dT h
   rw[Ac,Af o1 rfl rfl,F6,AD]
   exact⟨by rw[mC];congr 3;exact decide_eq_decide.2 ⟨fun h=>⟨h1,by omega,h⟩,fun h=>h.2.2⟩,k1⟩
  ·have h2:=dF h
   rw[decide_eq_false (fun h=>by omega)]
 ·have h1:=dF h
  rw[decide_eq_false (fun h=>by omega)]
inductive Tn.ok:Tn→Prop
 |mk (k s b:Int) (ss:List Int) (ks:List Tn) (h1:By k) (h2:By s) (h3:By b) (h4:ss.length≤1000000) (h5:∀ x∈ss,By x) (h6:ks.length≤1000000) (h:∀ t∈ks,Tn.ok t):Tn.ok (.mk k s b ss ks)
abbrev aR(r:Int × Bool):AV:=.t [aI r.1,aB r.2]
theorem Ad.H0{P:Program}{fn:FuncId}{args:List AV}{S:Aa}{r:Int × Bool}(h:Ad P fn args S (fun e S'=>e = .ret (aR r)∧Am S S')):AW P fn args S (aR r):=
 Ad.tree (Ad.mono h fun e S' ⟨h1,h2⟩=>⟨_,h1,h2,DN (.v _) (.v _)⟩)
theorem Nz{vs:List AV}{i:Nat}{u:AV}(h:vs[i]? = some u){S0:Aa}{P:AV→Prop}:(∃ q,(A0 (.t vs) i S0 fun v S=>v=q∧S=S0)∧P q)=P u:=H4 (op:=fun K=>A0 (.t vs) i S0 K) fun K=>by simp[A0,h]
theorem Er{vs:List AV}{i:Nat}{u:AV}(h:vs[i]? = some u){S:Aa}{K:AV→Aa→Prop}:A0 (.t vs) i S K=K u S:=by simp[A0,h]
theorem Hh{c:Ci}{ts:List Tn}(ht:ts.length≤1000000)(IH:∀ t∈ts,∀ f,Pu f→BH Pg 34 [c.av,f.av,t.av] (aR (t.acc c f))){fs:List Fo}(hf:∀ f∈fs,Pu f)(ss:List Int):
    BH Pg 74 [c.av,Dx fs,aL aI ss,Lg ts] (aR (Tn.Ca c ts fs ss 0)):=by
 intro S
 refine Ad.H0 (pF ?_)
 dsimp only[m74,Fi]
 refine Ai rfl fun S1 k1 n1 o1=>?_
 rw[BJ,F6,Bi,Ag]
 refine Al (fun h=>⟨?_,k1⟩) (fun h=>?_)
 ·rw[Sg c ts fs ss 0 (fun hq=>by simp[hq.1]at h)]
 have h1:fs.length=ts.length:=by simp at h;omega
 rw[Ay,F6,Bi,Ag]
 refine Al (fun h=>⟨?_,k1⟩) (fun h=>?_)
 ·rw[Sg c ts fs ss 0 (fun hq=>by simp[hq.2]at h)]
 have h2:ss.length=ts.length:=by simp at h;omega
 refine ZL (fun y z S'=>S'=S1∧∃(i:Nat) (n:Int),z=aI i∧y=aI n∧i≤ts.length∧Tn.Ca c ts fs ss 0=Tn.Ca c (ts.drop i) (fs.drop i) (ss.drop i) n) (fun _ z _=>ts.length - ((Aw z).getD 0).toNat) ⟨rfl,0,0,rfl,rfl,Ai9 _,rfl⟩ ?_
 dsimp only[DE]
 rintro _ _ S1 ⟨rfl,i,n,rfl,rfl,hi,he⟩ KE hKE
 dsimp only[uW,Fi,Lq,Ld]
 rw[F6,As,Ag]
 refine Al (fun hlt=>?_) (fun hge=>?_)
 ·have hlt:i<ts.length:=by have:=dT hlt;omega
  have hf1:i<fs.length:=by omega
  have hs1:i<ss.length:=by omega
  have hmem:=Ai6 hlt
  rw[AjH hlt,AjH hf1,AjH hs1,OF]at he
  have hst:∀ t:Tn,t.row[1]? = some (aI t.st):=fun t=>by cases t;rw[Tn.AE];rfl
  show ∃ q:AV,_
  refine⟨_,by rw[An (n:=8) o1 rfl];exact⟨rfl,rfl⟩,?_⟩
  refine⟨_,by rw[Cn hf1];exact⟨rfl,rfl⟩,?_⟩
  refine⟨_,by rw[Cd (Fo.Aj _)];exact⟨rfl,rfl⟩,?_⟩
  refine⟨_,by rw[LQ hlt];exact⟨rfl,rfl⟩,?_⟩
  refine⟨_,by rw[Cd (Tn.Aj _)];exact⟨rfl,rfl⟩,?_⟩
  refine⟨_,Ae (IH _ hmem _ (hf _ (Ai6 hf1))) ⟨rfl,rfl⟩,?_⟩
  refine⟨_,by rw[Er rfl];exact⟨rfl,rfl⟩,?_⟩
  refine⟨_,by rw[Er rfl];exact⟨rfl,rfl⟩,?_⟩
  show ∃ q:AV,_
  cases e1:(ts[i].acc c fs[i]).2 with
  |false =>
   rw[e1,AiC,if_neg (by decide)]at he
   (repeat (first|with_reducible_and_instances (first|refine WJ ?_|refine W (Bd (Eq.refl false)) ?_|refine W (Be (Eq.refl false)) ?_|refine W (AL (Eq.refl false)) ?_|refine W (AO (Eq.refl false)) ?_|refine W (AN (by with_unfolding_all rfl)) ?_)))
   exact⟨by rw[he],k1⟩
  |true =>
   rw[e1,Ai7]at he
   by_cases e2:ts[i].st=ss[i]
   ·rw[decide_eq_true e2,if_pos rfl]at he
    (repeat (first|with_reducible_and_instances (first|refine WJ ?_|refine W (C5 (op:=fun K=>AR _ 5 (Lg ts) (aI i) S1 K) (fun K=>LQ hlt)) ?_|refine W (AN (hst _)) ?_|refine W (C5 (op:=fun K=>AR _ 1 (aL aI ss) (aI i) S1 K) (fun K=>AM hs1)) ?_|refine W (Bd (Eq.refl true)) ?_|refine W (Be (Eq.refl true)) ?_|refine W (AL (Eq.refl true)) ?_|refine W (AO (Eq.refl true)) ?_|refine W (Bd (decide_eq_true e2)) ?_|refine W (Be (decide_eq_true e2)) ?_|refine W (AL (decide_eq_true e2)) ?_|refine W (AO (decide_eq_true e2)) ?_|refine W (AN (by with_unfolding_all rfl)) ?_)))
    rw[Ni,show ∀ K:AV→Aa→Prop,bin .add 0 (aI i) (.v (.int .i64 1)) S1 K=K (aI (i+1:Nat)) S1 from fun K=>Ar (by omega) (by omega) 0]
    exact hKE _ _ _ ⟨rfl,i+1,_,rfl,rfl,hlt,he⟩ (by simp[Aw];omega)
   ·rw[decide_eq_false e2,if_neg (by decide)]at he
    (repeat (first|with_reducible_and_instances (first|refine WJ ?_|refine W (C5 (op:=fun K=>AR _ 5 (Lg ts) (aI i) S1 K) (fun K=>LQ hlt)) ?_|refine W (AN (hst _)) ?_|refine W (C5 (op:=fun K=>AR _ 1 (aL aI ss) (aI i) S1 K) (fun K=>AM hs1)) ?_|refine W (Bd (Eq.refl true)) ?_|refine W (Be (Eq.refl true)) ?_|refine W (AL (Eq.refl true)) ?_|refine W (AO (Eq.refl true)) ?_|refine W (Bd (decide_eq_false e2)) ?_|refine W (Be (decide_eq_false e2)) ?_|refine W (AL (decide_eq_false e2)) ?_|refine W (AO (decide_eq_false e2)) ?_|refine W (AN (by with_unfolding_all rfl)) ?_)))
    exact⟨by rw[he],k1⟩
 ·have hge:i=ts.length:=by have:=dF hge;omega
  subst hge
  rw[List.drop_length,←h1,List.drop_length,h1,←h2,List.drop_length,Ns]at he
  exact⟨by rw[he],k1⟩
end
end Go.Proofs.YteooinddnfbglaaGreatDoor.G

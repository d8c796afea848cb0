/- Witness -/
import Derived.Test.YteooinddnfbglaaGreatDoorProg
import Derived.KernelRfl
import Derived.Test.YteooinddnfbglaaGreatDoorWqT4
set_option linter.unusedVariables false
set_option linter.unusedSimpArgs false
set_option linter.unusedSectionVars false
namespace Go.Proofs.YteooinddnfbglaaGreatDoor.G
open Go Go.Ab
noncomputable section
theorem YO{inp:Int}{lats:List (Int × Int)}{g:Gr}{outs bads cons fair:List Int}{b1 b2:Bool}{t:ByteArray}(h0:0≤inp)(h1:inp≤3)(hl1:1≤lats.length)(hl2:lats.length≤3)
    (hg:g.right=true) (hgi:g.inputs=inp+lats.length) (hga:g.ands.length≤8) (hgok:g.ok) (hlat:∀ p∈lats,g.lit p.1=true∧0≤p.2∧p.2≤2) (ho:∀ x∈outs,g.lit x=true) (hb:∀ x∈bads,g.lit x=true)
    (hc:∀ x∈cons,g.lit x=true) (hf:∀ x∈fair,g.lit x=true) (lo:outs.length≤2) (lb:bads.length≤1) (lc:cons.length≤1) (lf:fair.length≤1)
    (ht:b2=true→0<outs.length∧(t=⟨#[111,117,116]⟩∨t=⟨#[108,49]⟩∨t=⟨#[97,45,98]⟩)):
    IV ⟨inp,lats,g.ands,outs,bads,cons,fair,(if b1 then[⟨108,0,⟨#[113]⟩⟩]else[])++(if b2 then[⟨111,outs.length - 1,t⟩]else[])⟩:=by
 have hvg:g.vars=inp+lats.length+1+g.ands.length:=by unfold Gr.vars;omega
 have hi64:∀{x:Int},g.lit x=true→Bv x:=fun h=>by
  obtain⟨_,_,h1,h2⟩:=Dg.1 h
  exact⟨by omega,by omega⟩
 have hgr:∀ nm,(⟨inp,lats,g.ands,outs,bads,cons,fair,nm⟩:Ci).gr=g:=fun nm=>by
  show(⟨IntKind.i64.wrap (inp+lats.length),g.ands⟩:Gr)=g
  rw[wrap64 (by omega) (by omega),←hgi]
 have htl:b2=true→G3 t=true∧t.size≤100∧t≠⟨#[113]⟩:=fun h=>by
  rcases(ht h).2 with rfl|rfl|rfl<;>exact⟨by decide,by decide,by decide⟩
 generalize hnm:((if b1 then[⟨108,0,⟨#[113]⟩⟩]else[])++(if b2 then[⟨111,outs.length - 1,t⟩]else[]):List Na)=nm
 have hnl:nm.length≤2:=by subst hnm;cases b1<;>cases b2<;>simp
 have hnames:Cl ⟨inp,lats,g.ands,outs,bads,cons,fair,nm⟩=true:=by
  have e1:Gz ⟨inp,lats,g.ands,outs,bads,cons,fair,nm⟩ ⟨108,0,⟨#[113]⟩⟩:=⟨by decide,by decide,by simp[Ci.many];omega⟩
  have e2:b2=true→Gz ⟨inp,lats,g.ands,outs,bads,cons,fair,nm⟩ ⟨111,outs.length - 1,t⟩:=fun h=>⟨(htl h).1,by have:=(ht h).1;show(0:Int)≤outs.length - 1;omega,by have:=(ht h).1;simp[Ci.many];omega⟩
  have e3:DB ⟨108,0,⟨#[113]⟩⟩ ⟨111,outs.length - 1,t⟩:=.inl (by show Ce 108<Ce 111;decide)
  simp only[Cl,decide_eq_true_eq]
  subst hnm
  cases b1<;>cases b2
  ·exact⟨fun i h=>by simp at h,fun i h=>by simp at h,by simp⟩
  ·refine⟨fun i h _=>?_,fun i h=>by simp at h,by simp⟩
   match i with
   |0=>exact e2 rfl
   |i+1=>exact absurd (show i+1<1 from h) (by omega)
  ·refine⟨fun i h _=>?_,fun i h=>by simp at h,by simp⟩
   match i with
   |0=>exact e1
   |i+1=>exact absurd (show i+1<1 from h) (by omega)
  ·refine⟨fun i h _=>?_,fun i h _=>?_,?_⟩
   ·match i with
    |0=>exact e1
    |1=>exact e2 rfl
    |i+2=>exact absurd (show i+2<2 from h) (by omega)
   ·match i with
    |0=>exact e3
    |i+1=>exact absurd (show i+1+1<2 from h) (by omega)
   ·have:=(htl rfl).2.2
    simp only[if_true,List.cons_append,List.nil_append,List.length_cons,List.length_nil,List.take_succ_cons,List.take_zero,List.map_cons,List.map_nil,List.nodup_cons,AhT,AiE,not_false_eq_true,List.nodup_nil,and_true]
    exact fun h=>this (Ob h.symm)
 have hnk:∀ x∈nm,0≤x.kind∧x.kind<256∧Bv x.pos∧x.text.size≤9223372036854775807:=by
  subst hnm
  intro x hx
  rcases Ai8.1 hx with hx|hx
  ·cases b1
   ·simp at hx
   ·have:x=⟨108,0,⟨#[113]⟩⟩:=by simpa using hx
    subst this
    exact⟨by decide,by decide,⟨by decide,by decide⟩,by decide⟩
  ·cases b2
   ·simp at hx
   ·have:x=⟨111,outs.length - 1,t⟩:=by simpa using hx
    subst this
    have h2:=htl rfl
    exact⟨by show(0:Int)≤111;decide,by show(111:Int)<256;decide,⟨by show _≤(outs.length:Int) - 1;omega,by show(outs.length:Int) - 1≤_;omega⟩,by show t.size≤_;omega⟩
 refine⟨⟨⟨by show _≤inp;omega,by show inp≤_;omega⟩,by show lats.length≤_;omega,by show g.ands.length≤_;omega,fun p hp=>⟨hi64 (hlat p hp).1,⟨by have:=hlat p hp;omega,by have:=hlat p hp;omega⟩⟩,hgok.pairs,⟨fun x hx=>hi64 (ho x hx),by show outs.length≤_;omega⟩,⟨fun x hx=>hi64 (hb x hx),by show bads.length≤_;omega⟩,
  ⟨fun x hx=>hi64 (hc x hx),by show cons.length≤_;omega⟩,⟨fun x hx=>hi64 (hf x hx),by show fair.length≤_;omega⟩,hnk,by show nm.length≤_;omega⟩,Bq.2 ?_,⟨h0,h1⟩,⟨hl1,hl2⟩,hga,lo,lb,lc,lf,⟨b1,b2,t,hnm.symm,ht⟩⟩
 rw[hgr]
 refine⟨⟨h0,by show inp≤_;omega⟩,by show lats.length≤_;omega,by show outs.length≤_;omega,by show bads.length≤_;omega,by show cons.length≤_;omega,by show fair.length≤_;omega,hg,?_,?_,?_,?_,?_,hnames⟩
 ·refine AhW.2 fun p hp=>?_
  obtain⟨q1,q2,q3⟩:=hlat p hp
  simp only[Db,q1,decide_eq_true q2,decide_eq_true q3,Bool.and_self]
 ·exact AhW.2 ho
 ·exact AhW.2 hb
 ·exact AhW.2 hc
 ·exact AhW.2 hf
def Ur(l:List Int):List Int:=(List.range (BW l 2 9).toNat).map fun i=>BW l (3+i) 65536
def Jj(l:List Int):Int:=(AP (BW l 0 4+(1+BW l 1 3)) (Ur l) (min (Ur l).length 40)).1.vars
def lP(z:AV)(x:Nat):Bool:=match z with|.s i _ _=>decide (i=x)|_=>false
def Ci.rC(c:Ci)(zc:AV):AV:=.a (c.cells.set 5 zc)
theorem _root_.Go.Ab.Ad.AgW{P:Program}{f:FuncId}{args:List AV}{S:Aa}{Z:AV→Aa→Prop}
    (h:Ad P f args S (fun e S'=>∃(D:Nat→Bool) (r tr:AV),e = .ret r∧Cv (S'.BA D) S'.n r tr∧Z tr (S'.BA D))):Ad P f args S (fun e S'=>∃ tr,e = .ret tr∧Z tr S'):=by
 refine⟨h.1,fun w g vs hh ha=>(h.2 w g vs hh ha).mono ?_⟩
 rintro e w' ⟨_,S',g',h1,h2,h3,D,r,tr,rfl,hcv,hz⟩
 cases e with
 |returned v =>
  have hf:=F0 h1 D
  have hm:=Hr h1 D
  have hn:(g'.BA S' D).n=S'.n:=h1.n
  have hcut:(g'.BA S' D).cut S'.n=g'.BA S' D:=by
   rw[←hn]
   rfl
  have hr:=NJ hf hcv (R.mv hm h3)
  rw[hcut]at hr
  exact⟨.ret tr,S'.BA D,_,hf,h2.trans hm,hr,_,rfl,hz⟩
 |panicked chain=>exact h3.elim
 |outgrown=>exact h3.elim
theorem Ux{n:Nat}{S S':Aa}{x:AV}{e:Nat}{es:List (List AV)}(h:A4 n S x e es):Cv S' S.n x x:=by
 rcases h with⟨rfl,_⟩|⟨id,rfl,h1,h2,h3⟩
 ·exact .nl'
 ·exact .s' _ _ _ h2
structure Fz (S:Aa) (l:List Int) (N:Nat) (A S':Aa) (k:Nat) (cs:List AV):Prop where
 fm:Fm S l S' k cs
 n:N≤S'.n
 hN:S.n+4≤N
 same:∀ x,S.n+4≤x→x<N→S'.obj x=A.obj x
theorem Fz.AR{S A S':Aa}{l:List Int}{N k:Nat}{cs:List AV}(h:Fz S l N A S' k cs):Am S S':=h.fm.AR
theorem Fz.ro{S A S':Aa}{l:List Int}{N k:Nat}{cs:List AV}(h:Fz S l N A S' k cs):S'.obj (S.n+1)=some (.cells 29 [[aI 0,.nl,.nl,.nl,.nl,.nl,.nl,.nl]] true):=h.fm.ro
theorem Fz.co{S A S':Aa}{l:List Int}{N k:Nat}{cs:List AV}(h:Fz S l N A S' k cs):S'.obj (S.n+3)=some (.cells 29 [cs] true):=h.fm.co
theorem Fz.Eh{S A S' S'':Aa}{l:List Int}{N k:Nat}{cs:List AV}(h:Fz S l N A S' k cs)(hn:S'.n≤S''.n)(ho:∀ x,x<N→S''.obj x=S'.obj x):Fz S l N A S'' k cs:=
 ⟨h.fm.Eh hn fun x hx=>ho x (by have:=h.hN;omega),by have:=h.n;omega,h.hN,fun x h1 h2=>(ho x h2).trans (h.same x h1 h2)⟩
theorem Fz.pick{S A S':Aa}{l:List Int}{N k:Nat}{cs:List AV}(h:Fz S l N A S' k cs)(hl:∀ x∈l,0≤x∧x<65536){n:Int}(hn:0<n)(hk:k≤1000){K X:AV→Aa→Prop}
    (kk:∀ S'',Fz S l N A S'' (k+1) cs→S''.n=S'.n→(∀ x,x≠S.n+2→S''.obj x=S'.obj x)→K (aI (BW l k n)) S''):Bg Pg (CN S) [aI n] S' K X:=
 h.fm.pick hl hn hk fun S'' fm n2 f2=>kk S'' ⟨fm,by have:=h.n;omega,h.hN,fun x h1 h2=>(f2 x (by omega)).trans (h.same x h1 h2)⟩ n2 f2
theorem Fz.st{S A S':Aa}{l:List Int}{N k j:Nat}{cs:List AV}{u:AV}(h:Fz S l N A S' k cs)(hj:j<cs.length)(hu:u.one=true){K:AV→Aa→Prop}
    (kk:∀ S'',Fz S l N A S'' k (cs.set j u)→S''.n=S'.n→(∀ x,x≠S.n+3→S''.obj x=S'.obj x)→K .j S''):A8 1 (.p (S.n+3) 0 j) u S' K:=
 h.fm.st hj hu fun S'' fm n2 f2=>kk S'' ⟨fm,by have:=h.n;omega,h.hN,fun x h1 h2=>(f2 x (by omega)).trans (h.same x h1 h2)⟩ n2 f2
theorem Fz.kT{S A S' T:Aa}{l:List Int}{N k:Nat}{cs:List AV}(h:Fz S l N A S' k cs)(hT:Am S' T):T.obj (S.n+3)=some (.cells 29 [cs] true):=h.fm.kT hT
theorem Fz.own{S A S':Aa}{l:List Int}{N k:Nat}{cs:List AV}(h:Fz S l N A S' k cs){x:AV}{e:Nat}{es:List (List AV)}(w:A4 (S.n+4) A x e es)(hA:A.n=N):A4 (S.n+4) S' x e es:=by
 rcases w with⟨rfl,e⟩|⟨id,rfl,h1,h2,h3⟩
 ·exact .inl ⟨rfl,e⟩
 ·exact .inr ⟨id,rfl,h1,by have:=h.n;omega,(h.same _ h1 (by omega)).trans h3⟩
theorem _root_.Go.Ab.A4.fz{N:Nat}{S' S'':Aa}{x:AV}{e:Nat}{es:List (List AV)}{id:Nat}(h:A4 N S' x e es)(hid:id<N)(hn:S''.n=S'.n)(ho:∀ y,y≠id→S''.obj y=S'.obj y):A4 N S'' x e es:=
 h.st (id:=id) (fun b m e=>by have:=h.lt e;omega) hn ho
theorem Fm.wkD{S S':Aa}{l:List Int}{k:Nat}{cs cs2:List AV}(h:Fm S l S' k cs)(D:Nat→Bool)(hD:∀ x,x<S.n+4→D x=false)(hl:cs.length=cs2.length)(hc:∀(k:Nat) (u u2:AV),cs[k]? = some u→cs2[k]? = some u2→Cv (S'.BA D) S'.n u u2)(ls:List AV):
    ∃ S'',Wk S' ls S'' ls∧Fm S l S'' k cs2∧S''.n=S'.n∧∀ x,D x=false→x≠S.n+3→S''.obj x=S'.obj x:=by
 refine⟨_,Wk.row (id:=S.n+3) D h.co (hD _ (by omega)) (es2:=[cs2]) ⟨rfl,fun i c1 c2 e1 e2=>?_⟩,?_,rfl,fun x hx hne=>Et hne hx⟩
 ·match i with
  |0=>cases e1;cases e2;exact⟨hl,hc⟩
  |i+1=>simp at e1
 ·have hlow:∀ x,x<S.n+4→x≠S.n+3→(S'.Ku D (S.n+3) (.cells 29 [cs2] true)).obj x=S'.obj x:=fun x hx hne=>Et hne (hD x hx)
  exact⟨⟨h.AR.1,fun x hx=>(hlow x (by omega) (by omega)).trans (h.AR.2 x hx)⟩,h.n,(hlow _ (by omega) (by omega)).trans h.lo,(hlow _ (by omega) (by omega)).trans h.ro,(hlow _ (by omega) (by omega)).trans h.ao,HX⟩
theorem lG{l:List Int}(hl:∀ x∈l,0≤x∧x<65536){S:Aa}:Ad Pg 14 [aL Lz l] S (fun e S'=>∃ tr,e = .ret tr∧Am S S'∧∃(c:Ci) (zc:AV),tr=c.rC zc∧A4 S.n S' zc 3 (c.cons.map fun p=>[aI p])∧IV c∧c.gr.vars=Jj l∧c.inputs=BW l 0 4):=by
 refine Ad.AgW (pY ?_)
 unfold m14
 refine BN rfl fun S1 k1 n1 o1=>?_
 refine Ai rfl fun S2 k2 n2 o2=>?_
 refine BN rfl fun S3 k3 n3 o3=>?_
 refine B9 o3 rfl rfl fun S4 n4 o4 f4=>?_
 refine Ai rfl fun S5 k5 n5 o5=>?_
 have e1:S1.n=S.n+1:=n1
 have e2:S2.n=S.n+2:=by omega
 have e4:S4.n=S.n+3:=by omega
 rw[e1]at o2;rw[e2]at o3 o4 f4;rw[e4]at o5
 rw[e1,e2,e4]
 have fm:Fm S l S5 0 [aI 0,.nl,.nl,.nl,.nl,.nl,.nl,.nl]:=by
  have old4:∀ x,x<S.n+2→S4.obj x=S2.obj x:=fun x hx=>(f4 x (by omega)).trans (k3.2 x (by omega))
  have old5:∀ x,x<S.n+3→S5.obj x=S4.obj x:=fun x hx=>k5.2 x (by omega)
  refine⟨⟨by omega,fun x hx=>(old5 x (by omega)).trans ((old4 x (by omega)).trans ((k2.2 x (by omega)).trans (k1.2 x hx)))⟩,by omega,?_,?_,(old5 _ (by omega)).trans o4,o5⟩
  ·exact(old5 _ (by omega)).trans ((old4 _ (by omega)).trans (Kg k2 o1))
  ·exact(old5 _ (by omega)).trans ((old4 _ (by omega)).trans o2)
 show Bg _ (CN S) _ _ _ _
 refine fm.pick hl (by decide) (by decide) fun S6 fm n6 f6=>?_
 have pi:=BD hl (k:=0) (n:=4) (by decide)
 generalize hinp:BW l 0 4=inp at *
 rw[Ac]
 refine fm.st (by simp) rfl fun S7 fm n7 f7=>?_
 show Bg _ (CN S) _ _ _ _
 refine fm.pick hl (by decide) (by decide) fun S8 fm n8 f8=>?_
 have pm:=BD hl (k:=1) (n:=3) (by decide)
 generalize hm3:BW l 1 3=m3 at *
 rw[Ar (by omega) (by omega)]
 obtain⟨many,hmany⟩:=AhX (show 0≤1+m3 by omega)
 have hm1:1≤many∧many≤3:=by omega
 rw[hmany]
 show Bg _ (CN S) _ _ _ _
 refine fm.pick hl (by decide) (by decide) fun S9 fm n9 f9=>?_
 have pr:=BD hl (k:=2) (n:=9) (by decide)
 generalize h9:BW l 2 9=r9 at *
 obtain⟨r0,rfl⟩:=AhX pr.1
 replace fm:Fm S l S9 3 [aI inp,.nl,.nl,.nl,.nl,.nl,.nl,.nl]:=fm
 show Ap _ _ _ (Io (.p (S.n+1) 0 0) (CN S) (.p (S.n+3) 0 0) (aI many) .nl (aI r0)) _ _
 refine ZS (fun y7 y8 S'=>∃(r k:Nat) (sd:List Int),y8=aI r∧(r+sd.length=r0∧k=3+sd.length∧sd=(List.range sd.length).map fun i=>BW l (3+i) 65536)∧r+sd.length≤8∧k+r≤11∧Fm S l S' k [aI inp,.nl,.nl,.nl,.nl,.nl,.nl,.nl]∧A4 (S.n+4) S' y7 87 (sd.map fun x=>[Lz x])∧∀ x∈sd,0≤x∧x<65536)
  (fun _ y _=>((Aw y).getD 0).toNat) ⟨r0,3,[],rfl,⟨by simp,rfl,rfl⟩,by simp;omega,by omega,fm,A4.nl _ _ _,fun _ h=>by cases h⟩ ?_
 dsimp only[Dw]
 rintro y7 _ S1 ⟨r,k,sd,rfl,⟨hrr,hkk,hsq⟩,hr,hk,fm,w7,hsd⟩ KE hKE
 dsimp only[uT,Fi,Lf]
 rw[AO,Ag]
 refine Al (fun hgt=>?_) (fun hle=>?_)
 ·have hgt:0<r:=by have:=dT hgt;omega
  refine fm.pick hl (by decide) (by omega) fun S2 fm n2 f2=>?_
  have px:=BD hl (k:=k) (n:=65536) (by decide)
  generalize hx:BW l k 65536=x at *
  have w2:=w7.fm (by omega) n2 f2
  rw[L8,vX px.1 px.2]
  refine BM rfl (fun _ h=>by cases h) ?_
  refine w2.app (by have:=fm.n;omega) (c:=[Lz x]) rfl (by rw[AhR];omega) (fun z S3 w3 b3 hz=>?_) rfl
  have n3:=b3.1
  have o3:∀ x,x<S.n+4→S3.obj x=S2.obj x:=fun x hx=>b3.2 x (by have:=fm.n;omega) (fun b m e=>by have:=w2.lt e;omega)
  rw[Bx (by omega) (by omega),show(r:Int) - 1=((r - 1:Nat):Int)by omega]
  refine hKE _ _ _ ⟨r - 1,k+1,sd ++ [x],rfl,⟨by simp;omega,by simp;omega,by rw[Ai2,AiG,Ai7,AhU,←hsq];simp[←hx,hkk]⟩,by rw[Ai2,AiG];omega,by omega,fm.Eh n3 o3,by rw[AhU];exact w3,fun a ha=>?_⟩ (by simp[Aw];omega)
  rcases Ai8.1 ha with ha|ha
  ·exact hsd a ha
  ·have:a=x:=by simpa using ha
   subst this
   exact px
 have hle:r=0:=by have:=dF hle;omega
 subst hle
 clear hKE KE
 rw[Ac,Ae fm.co rfl rfl,Ar (by omega) (by omega)]
 have hlen:∀(T:Aa) (K:AV→Aa→Prop),AF y7 T K=K (aI sd.length) T:=fun T K=>by
  rcases w7 with⟨rfl,e⟩|⟨id,rfl,_⟩
  ·have:sd = []:=AiT.1 e
   subst this;rfl
  ·rw[Dm,AhR]
 obtain⟨q7,hq7⟩:∃ q:Nat,∀(i:Nat),i<sd.length→y7 = .s q 0 sd.length∧q<S1.n∧S1.obj q=some (.cells 87 (sd.map fun x=>[Lz x]) true):=by
  rcases w7 with⟨rfl,e⟩|⟨id,rfl,h1,h2,h3⟩
  ·have:sd = []:=AiT.1 e
   subst this;exact⟨0,fun i hi=>by simp at hi⟩
  ·exact⟨id,fun i _=>⟨by rw[AhR],h2,h3⟩⟩
 have hmade:=AhB (n:=inp+many) (by omega) (by omega) hsd (by omega) (S:=S1) (x1:=y7) hlen (P:=fun i=>.p q7 i 0) (fun T hT i hi=>by
  obtain⟨h1,h2,h3⟩:=hq7 i hi
  have h4:=(hT.2 _ h2).trans h3
  subst h1
  refine⟨fun K=>by rw[Cf hi h4,AhZ],fun K=>by rw[Ae h4 (by rw[Ai4,AhM hi];rfl) rfl]⟩)
 have hrt:=Jq (n:=inp+many) (by omega) (by omega) hsd (min sd.length 40) (by omega)
 have hgok:=KP (n:=inp+many) ⟨by omega,by omega⟩ hsd (by omega) (min sd.length 40)
 have hgin:=GB (inp+many) sd (min sd.length 40)
 have hmin:min sd.length 40≤8:=by omega
 have hvars:(AP (inp+many) sd (min sd.length 40)).1.vars=Jj l:=by
  have e:sd=Ur l:=by
   rw[hsq,Ur,h9]
   rw[show sd.length=r0 by omega]
   rfl
  rw[Jj,hinp,hm3,hmany,←e]
 generalize(AP (inp+many) sd (min sd.length 40)).1=g at *
 generalize(AP (inp+many) sd (min sd.length 40)).2=last at *
 obtain⟨hg,hlast,hv1,hv2⟩:=hrt
 have hga:g.ands.length≤8:=by unfold Gr.vars at hv2;omega
 refine At hmade ?_
 rw[Co,Cn]
 refine Ai rfl fun S2 k2 n2 o2=>?_
 refine AG o2 rfl rfl fun S3 n3 o3 f3=>?_
 have hb:=fm.n
 replace fm:Fm S l S3 k _:=fm.Eh (by omega) fun x hx=>(f3 x (by omega)).trans (k2.2 x (by omega))
 rw[Ac,Ae o3 rfl rfl,Ac]
 refine fm.st (by simp) rfl fun S4 fm n4 f4=>?_
 have o4:=(f4 S1.n (by omega)).trans o3
 rw[An (n:=2) o4 rfl]
 refine Af (Ox hgok (by omega) (by omega)) ?_
 rw[Iu (by omega) (by omega)]
 have hvp:0<2*g.vars:=by omega
 have plit:∀{x:Int},0≤x∧x<2*g.vars→g.lit x=true:=fun h=>Dg.2 ⟨by omega,by omega,h.1,by omega⟩
 show Ap _ _ _ (GU (.p (S.n+1) 0 0) (CN S) (.p (S.n+3) 0 0) (aI many) (aI last) (aI (2*g.vars)) (aI (0:Nat))) _ _
 replace fm:Fm S l S4 k [aI inp,.nl,pL g.ands,.nl,.nl,.nl,.nl,.nl]:=fm
 refine ZR (fun y12 S'=>∃(i k:Nat) (zl:AV) (lats:List (Int × Int)),y12=aI i∧i≤many∧k≤11+2*i∧Fm S l S' k [aI inp,zl,pL g.ands,.nl,.nl,.nl,.nl,.nl]∧A4 (S.n+4) S' zl 67 (lats.map fun p=>[aI p.1,aI p.2])∧lats.length=i∧∀ p∈lats,g.lit p.1=true∧0≤p.2∧p.2≤2)
  (fun y _=>many - ((Aw y).getD 0).toNat) ⟨0,k,.nl,[],rfl,AhS _,by omega,fm,A4.nl _ _ _,rfl,fun _ h=>by cases h⟩ ?_
 dsimp only[BS]
 rintro _ S1 ⟨i,k,zl,lats,rfl,hi,hk,fm,wl,hll,hlat⟩ KE hKE
 dsimp only[uS,Fi,Lt]
 rw[As,Ag]
 refine Al (fun hlt=>?_) (fun hge=>?_)
 ·have hlt:i<many:=by have:=dT hlt;omega
  refine fm.pick hl hvp (by omega) fun S2 fm n2 f2=>?_
  have pn:=plit (BD hl (k:=k) hvp)
  generalize BW l k (2*g.vars)=n at *
  have w2:=wl.fm (by omega) n2 f2
  rw[AA,Ag]
  have step:∀ nx:Int,g.lit nx=true→∀(S3:Aa) (p5:Int) (k':Nat),0≤p5∧p5<5→k'≤11+2*(i+1)→Fm S l S3 k' [aI inp,zl,pL g.ands,.nl,.nl,.nl,.nl,.nl]→A4 (S.n+4) S3 zl 67 (lats.map fun p=>[aI p.1,aI p.2])→
      (∃ q46:AV,(∀ T:Aa,Am S3 T→bin .quo 0 (aI p5) (.v (.int .i64 2)) T fun v S=>v=q46∧S=T)∧∃ q48:AV,(∀ T:Aa,Am S3 T→CD [(0,1),(1,1)] [.v (.int .i64 0),.v (.int .i64 0)] [(0,aI nx),(1,q46)] T fun v S=>v=q48∧S=T)∧
       ∃ q50:AV,(∀ T:Aa,Am S3 T→AU 67 2 1 [.v (.int .i64 0),.v (.int .i64 0)] [(0,q48)] T fun v S=>v=q50∧S=T)∧Bo 67 2 16 zl q50 S3 fun v52 T =>
       ∃ q53:AV,(∀ T':Aa,Am T T'→shift (.p (S.n+3) 0 0) 1 T' fun v S=>v=q53∧S=T')∧A8 1 q53 v52 T fun _ T=>bin .add 0 (aI i) (.v (.int .i64 1)) T fun v T=>KE 156 (GU (.p (S.n+1) 0 0) (CN S) (.p (S.n+3) 0 0) (aI many) (aI last) (aI (2*g.vars)) v) T):=by
   intro nx hnx S3 p5 k' hp5 hk' fm w3
   have hd:0≤p5.tdiv 2∧p5.tdiv 2≤2:=by rw[Ai0 hp5.1];omega
   refine⟨_,fun T hT=>by rw[Fy (by decide) (by omega) (by omega)];exact⟨rfl,rfl⟩,_,fun T hT=>by rw[A6 (cs:=[aI nx,aI (p5.tdiv 2)]) rfl];exact⟨rfl,rfl⟩,_,fun T hT=>x7 ⟨rfl,rfl⟩,?_⟩
   refine w3.app (by have:=fm.n;omega) (c:=[aI nx,aI (p5.tdiv 2)]) rfl (by rw[AhR];omega) (fun z S4 w4 b4 hz=>?_) rfl
   have n4:=b4.1
   have hn3:=fm.n
   have o4:∀ x,x<S.n+4→S4.obj x=S3.obj x:=fun x hx=>b4.2 x (by omega) (fun b m e=>by have:=w3.lt e;omega)
   refine⟨_,fun T hT=>by rw[Ac];exact⟨rfl,rfl⟩,?_⟩
   replace fm:=fm.Eh n4 o4
   refine fm.st (by simp) (Gw w4) fun S5 fm n5 f5=>?_
   have w5:=w4.fm (by omega) n5 f5
   rw[Ar (by omega) (by omega)]
   refine hKE _ _ ⟨i+1,k',z,lats ++ [(nx,p5.tdiv 2)],rfl,hlt,hk',fm,by rw[AhU];exact w5,by simp[hll],fun p hp=>?_⟩ (by simp[Aw];omega)
   rcases Ai8.1 hp with hp|hp
   ·exact hlat p hp
   ·have:p=(nx,p5.tdiv 2):=by simpa using hp
    subst this
    exact⟨hnx,hd⟩
  have p5:=BD hl (k:=k+1) (n:=5) (by decide)
  refine Al (fun h0=>?_) (fun h0=>?_)
  ·refine⟨_,fun T hT=>by rw[Ac];exact⟨rfl,rfl⟩,zl,fun T hT=>by rw[Ae (fm.kT hT) rfl rfl];exact⟨rfl,rfl⟩,?_⟩
   refine fm.pick hl (by decide) (by omega) fun S3 fm n3 f3=>?_
   have w3:=w2.fm (by omega) n3 f3
   refine⟨fun T hT=>by rw[Ae (fm.kT hT) rfl rfl];exact⟨rfl,rfl⟩,fun T hT=>by rw[Ac];exact⟨rfl,rfl⟩,?_⟩
   exact step _ hlast S3 _ _ p5 (by omega) fm w3
  ·refine⟨_,fun T hT=>by rw[Ac];exact⟨rfl,rfl⟩,zl,fun T hT=>by rw[Ae (fm.kT hT) rfl rfl];exact⟨rfl,rfl⟩,?_⟩
   refine fm.pick hl (by decide) (by omega) fun S3 fm n3 f3=>?_
   have w3:=w2.fm (by omega) n3 f3
   refine⟨fun T hT=>by rw[Ae (fm.kT hT) rfl rfl];exact⟨rfl,rfl⟩,fun T hT=>by rw[Ac];exact⟨rfl,rfl⟩,?_⟩
   exact step _ pn S3 _ _ p5 (by omega) fm w3
 have hge:i=many:=by have:=dF hge;omega
 subst hge
 clear hKE KE
 refine fm.pick hl (by decide) (by omega) fun S2 fm n2 f2=>?_
 have w2:=wl.fm (by omega) n2 f2
 have p3:=BD hl (k:=k) (n:=3) (by decide)
 generalize BW l k 3=r3 at *
 obtain⟨r0,rfl⟩:=AhX p3.1
 obtain⟨S3,wk3,fm3,n3⟩:=fm.wk (cs2:=[aI inp,pL lats,pL g.ands,.nl,.nl,.nl,.nl,.nl]) rfl (fun k' u u2 e1 e2=>by
  match k' with
  |0=>cases e1;cases e2;exact .v _
  |1=>cases e1;cases e2;exact kS w2 (w2.fF (AhN _))
  |2=>cases e1;cases e2;exact ID _ _ _
  |3|4|5|6|7=>cases e1;cases e2;exact .nl'
  |k+8=>simp at e1) (Dh (.p (S.n+1) 0 0) (CN S) (.p (S.n+3) 0 0) (aI (2*g.vars)) (aI r0))
 show Ap _ _ _ (Dh (.p (S.n+1) 0 0) (CN S) (.p (S.n+3) 0 0) (aI (2*g.vars)) (aI r0)) _ _
 refine VZ (fun y2 y4 y5 y11 y14 S'=>y2 = .p (S.n+1) 0 0∧y4=CN S∧y5 = .p (S.n+3) 0 0∧y11=aI (2*g.vars)∧∃(r k:Nat) (zo:AV) (outs:List Int),y14=aI r∧outs.length+r≤2∧k+r≤20∧Fm S l S' k [aI inp,pL lats,pL g.ands,zo,.nl,.nl,.nl,.nl]∧A4 (S.n+4) S' zo 3 (outs.map fun p=>[aI p])∧∀ x∈outs,g.lit x=true)
  (fun _ _ _ _ y _=>((Aw y).getD 0).toNat) ⟨_,_,_,_,_,S3,wk3,rfl,rfl,rfl,rfl,r0,k+1,.nl,[],rfl,by simp;omega,by omega,fm3,A4.nl _ _ _,fun _ h=>by cases h⟩ ?_
 rintro _ _ _ _ _ S1 ⟨rfl,rfl,rfl,rfl,r,k,zo,outs,rfl,hor,hk,fm,wo,hou⟩ KE hKE
 dsimp only[fO,Qa,K2,Fi,Lt]
 rw[AO,Ag]
 refine Al (fun hgt=>?_) (fun hle=>?_)
 ·have hgt:0<r:=by have:=dT hgt;omega
  refine⟨_,fun T hT=>by rw[Ac];exact⟨rfl,rfl⟩,zo,fun T hT=>by rw[Ae (fm.kT hT) rfl rfl];exact⟨rfl,rfl⟩,?_⟩
  refine fm.pick hl hvp (by omega) fun S2 fm n2 f2=>?_
  have pn:=plit (BD hl (k:=k) hvp)
  generalize BW l k (2*g.vars)=n at *
  have w2:=wo.fm (by omega) n2 f2
  refine⟨fun T hT=>by rw[Ae (fm.kT hT) rfl rfl];exact⟨rfl,rfl⟩,fun T hT=>by rw[Ac];exact⟨rfl,rfl⟩,_,fun T hT=>BM rfl (fun _ h=>by cases h) ⟨rfl,rfl⟩,?_⟩
  refine w2.app (by have:=fm.n;omega) (c:=[aI n]) rfl (by rw[AhR];omega) (fun z S4 w4 b4 hz=>?_) rfl
  have n4:=b4.1
  have hn3:=fm.n
  have o4:∀ x,x<S.n+4→S4.obj x=S2.obj x:=fun x hx=>b4.2 x (by omega) (fun b m e=>by have:=w2.lt e;omega)
  refine⟨_,fun T hT=>by rw[Ac];exact⟨rfl,rfl⟩,?_⟩
  replace fm:=fm.Eh n4 o4
  refine fm.st (by simp) (Gw w4) fun S5 fm n5 f5=>?_
  have w5:=w4.fm (by omega) n5 f5
  rw[Bx (by omega) (by omega),show(r:Int) - 1=((r - 1:Nat):Int)by omega]
  refine hKE _ _ _ _ _ _ _ _ _ _ _ _ (Wk.refl _ _) ⟨rfl,rfl,rfl,rfl,r - 1,k+1,z,outs ++ [n],rfl,by rw[Ai2,AiG];omega,by omega,fm,by rw[AhU];exact w5,fun p hp=>?_⟩ (by simp[Aw];omega)
  rcases Ai8.1 hp with hp|hp
  ·exact hou p hp
  ·have:p=n:=by simpa using hp
   subst this
   exact pn
 have hle:r=0:=by have:=dF hle;omega
 subst hle
 clear hKE KE
 have tail:∀(S':Aa) (k:Nat) (zo zb zc:AV) (bads cons:List Int) (r0:Nat),r0≤1→k≤25→Fm S l S' k [aI inp,pL lats,pL g.ands,zo,zb,zc,.nl,.nl]→A4 (S.n+4) S' zo 3 (outs.map fun p=>[aI p])→A4 (S.n+4) S' zb 3 (bads.map fun p=>[aI p])→A4 (S.n+4) S' zc 3 (cons.map fun p=>[aI p])→DL zc zo→DL zc zb→
     bads.length≤1→cons.length≤1→(∀ x∈bads,g.lit x=true)→(∀ x∈cons,g.lit x=true)→
     Ap GC (vc Pg (Kr.at_ [1,1,1,1,1,1,1,1,1,1,1,1,1,1,1,0,1,0,0]) (DC.drop 4)) 156 (Cu (.p (S.n+1) 0 0) (CN S) (.p (S.n+3) 0 0) (aI (2*g.vars)) (aI r0)) S'
      (Ak 6 (Av (vc Pg (Kr.at_ [1,1,1,1,1,1,1,1,1,1,1,1,1,1,1,1]) (DC.drop 4)) (Ao Pg Uu fun e S'=>∃(D:Nat→Bool) (r tr:AV),e = .ret r∧Cv (S'.BA D) S'.n r tr∧Am S (S'.BA D)∧∃(c:Ci) (zc:AV),tr=c.rC zc∧A4 S.n (S'.BA D) zc 3 (c.cons.map fun p=>[aI p])∧IV c∧c.gr.vars=Jj l∧c.inputs=inp))):=by
  intro S' k zo zb zc bads cons r0 hr0 hk fm wo wb wc apo apb lb lc hbl hcl
  let D:Nat→Bool:=fun x=>AL (S.n+4) x && !lP zc x
  have hDl:∀ x,x<S.n+4→D x=false:=fun x hx=>by
   have:AL (S.n+4) x=false:=by simp[AL];omega
   simp[D,this]
  have hDo:∀{z:AV} {es:List (List AV)},A4 (S.n+4) S' z 3 es→DL zc z→∀ i b m,z = .s i b m→D i=true:=fun{z es} w apz i b m e=>by
   have h1:AL (S.n+4) i=true:=w.fF (AhN _) i b m e
   have h2:lP zc i=false:=by
    unfold lP
    split
    ·rename_i j b' m'
     refine decide_eq_false fun e2=>?_
     subst e2
     exact apz _ _ _ _ _ rfl e
    ·rfl
   simp only[D,h1,h2];rfl
  obtain⟨S3,wk3,fm3,n3,s3⟩:=fm.wkD D hDl (cs2:=[aI inp,pL lats,pL g.ands,aL aI outs,aL aI bads,zc,.nl,.nl]) rfl (fun k' u u2 e1 e2=>by
   match k' with
   |0=>cases e1;cases e2;exact .v _
   |1=>cases e1;cases e2;exact ID _ _ _
   |2=>cases e1;cases e2;exact ID _ _ _
   |3=>cases e1;cases e2;exact LI wo (hDo wo apo)
   |4=>cases e1;cases e2;exact LI wb (hDo wb apb)
   |5=>cases e1;cases e2;exact Ux wc
   |6|7=>cases e1;cases e2;exact .nl'
   |k+8=>simp at e1) (Cu (.p (S.n+1) 0 0) (CN S) (.p (S.n+3) 0 0) (aI (2*g.vars)) (aI r0))
  have hN:S.n+4≤S3.n:=fm3.n
  have wA:A4 (S.n+4) S3 zc 3 (cons.map fun p=>[aI p]):=by
   rcases wc with⟨h1,h2⟩|⟨id,h1,h2,h3,h4⟩
   ·exact .inl ⟨h1,h2⟩
   ·refine .inr ⟨id,h1,h2,by omega,(s3 id ?_ (by omega)).trans h4⟩
    simp[D,h1,lP]
  obtain⟨N,hNe⟩:∃ N,S3.n=N:=⟨_,rfl⟩
  have hN:S.n+4≤N:=by omega
  have fm3:Fz S l N S3 S3 k [aI inp,pL lats,pL g.ands,aL aI outs,aL aI bads,zc,.nl,.nl]:=⟨fm3,by omega,hN,fun _ _ _=>rfl⟩
  obtain⟨A,hA⟩:∃ A,A=S3:=⟨_,rfl⟩
  rw[←hA]at wA hNe
  replace fm3:Fz S l N A S3 k [aI inp,pL lats,pL g.ands,aL aI outs,aL aI bads,zc,.nl,.nl]:=by rw[hA];exact fm3
  refine VY (fun y2 y4 y5 y11 y15 S'=>y2 = .p (S.n+1) 0 0∧y4=CN S∧y5 = .p (S.n+3) 0 0∧y11=aI (2*g.vars)∧∃(r k:Nat) (zf:AV) (fair:List Int),y15=aI r∧fair.length+r≤1∧k+r≤26∧Fz S l N A S' k [aI inp,pL lats,pL g.ands,aL aI outs,aL aI bads,zc,zf,.nl]∧A4 N S' zf 3 (fair.map fun p=>[aI p])∧∀ x∈fair,g.lit x=true)
   (fun _ _ _ _ y _=>((Aw y).getD 0).toNat) ⟨_,_,_,_,_,S3,wk3,rfl,rfl,rfl,rfl,r0,k,.nl,[],rfl,by simp;omega,by omega,fm3,A4.nl _ _ _,fun _ h=>by cases h⟩ ?_
  rintro _ _ _ _ _ S1 ⟨rfl,rfl,rfl,rfl,r,k,zf,fair,rfl,hfr,hk,fm,wf,hfl⟩ KE hKE
  dsimp only[fM,P9,Fi,Lf,Lt]
  rw[AO,Ag]
  refine Al (fun hgt=>?_) (fun hle=>?_)
  ·have hgt:0<r:=by have:=dT hgt;omega
   refine⟨_,fun T hT=>by rw[Ac];exact⟨rfl,rfl⟩,zf,fun T hT=>by rw[Ae (fm.kT hT) rfl rfl];exact⟨rfl,rfl⟩,?_⟩
   refine fm.pick hl hvp (by omega) fun S2 fm n2 f2=>?_
   have pn:=plit (BD hl (k:=k) hvp)
   generalize BW l k (2*g.vars)=n at *
   have w2:=wf.fz (by omega) n2 f2
   refine⟨fun T hT=>by rw[Ae (fm.kT hT) rfl rfl];exact⟨rfl,rfl⟩,fun T hT=>by rw[Ac];exact⟨rfl,rfl⟩,_,fun T hT=>BM rfl (fun _ h=>by cases h) ⟨rfl,rfl⟩,?_⟩
   refine w2.app (by have:=fm.n;omega) (c:=[aI n]) rfl (by rw[AhR];omega) (fun z S4 w4 b4 hz=>?_) rfl
   have n4:=b4.1
   have hn3:=fm.n
   have o4:∀ x,x<N→S4.obj x=S2.obj x:=fun x hx=>b4.2 x (by omega) (fun b m e=>by have:=w2.lt e;omega)
   refine⟨_,fun T hT=>by rw[Ac];exact⟨rfl,rfl⟩,?_⟩
   replace fm:=fm.Eh n4 o4
   refine fm.st (by simp) (Gw w4) fun S5 fm n5 f5=>?_
   have w5:=w4.fz (by omega) n5 f5
   rw[Bx (by omega) (by omega),show(r:Int) - 1=((r - 1:Nat):Int)by omega]
   refine hKE _ _ _ _ _ _ _ _ _ _ _ _ (Wk.refl _ _) ⟨rfl,rfl,rfl,rfl,r - 1,k+1,z,fair ++ [n],rfl,by rw[Ai2,AiG];omega,by omega,fm,by rw[AhU];exact w5,fun p hp=>?_⟩ (by simp[Aw];omega)
   rcases Ai8.1 hp with hp|hp
   ·exact hfl p hp
   ·have:p=n:=by simpa using hp
    subst this
    exact pn
  have hle:r=0:=by have:=dF hle;omega
  subst hle
  clear hKE KE
  have fin:∀(S1:Aa) (k:Nat) (zn:AV) (b1 b2:Bool) (t:ByteArray),Fz S l N A S1 k [aI inp,pL lats,pL g.ands,aL aI outs,aL aI bads,zc,zf,zn]→A4 N S1 zf 3 (fair.map fun p=>[aI p])→(b2=true→0<outs.length∧(t=⟨#[111,117,116]⟩∨t=⟨#[108,49]⟩∨t=⟨#[97,45,98]⟩))→
      A4 N S1 zn 91 (((if b1 then[⟨108,0,⟨#[113]⟩⟩]else[])++(if b2 then[⟨111,outs.length - 1,t⟩]else[]):List Na).map Na.row)→
      AB 8 (.p (S.n+3) 0 0) S1 fun v S1=>A8 8 (.p (S.n+1) 0 0) v S1 fun _ S2=>AB 8 (.p (S.n+1) 0 0) S2 fun v _=>∃(D:Nat→Bool) (r tr:AV),Bh.ret v = .ret r∧Cv (S2.BA D) S2.n r tr∧Am S (S2.BA D)∧∃(c:Ci) (zc:AV),tr=c.rC zc∧A4 S.n (S2.BA D) zc 3 (c.cons.map fun p=>[aI p])∧IV c∧c.gr.vars=Jj l∧c.inputs=inp:=by
   intro S1 k zn b1 b2 t fm wf ht wn
   rw[An (n:=8) fm.co rfl]
   refine AG fm.ro rfl rfl fun S2 n2 o2 f2=>?_
   rw[An (n:=8) o2 rfl]
   have wf2:=wf.fz (id:=S.n+1) (by omega) n2 f2
   have wn2:=wn.fz (id:=S.n+1) (by omega) n2 f2
   have hid:∀ x,x<N→(S2.BA (AL N)).obj x=S2.obj x:=fun x hx=>D0 (by simp[AL];omega)
   refine⟨AL N,_,.a [aI inp,pL lats,pL g.ands,aL aI outs,aL aI bads,zc,aL aI fair,nL _],rfl,?_,⟨(fm.AR.st (by omega) n2 f2).1,fun x hx=>(hid x (by omega)).trans ((fm.AR.st (by omega) n2 f2).2 x hx)⟩,⟨inp,lats,g.ands,outs,bads,cons,fair,(if b1 then[⟨108,0,⟨#[113]⟩⟩]else[])++(if b2 then[⟨111,outs.length - 1,t⟩]else[])⟩,zc,rfl,?_,YO pi.1 (by omega) (by omega) (by omega) hg (by rw[hgin,hll]) hga hgok hlat hou hbl hcl hfl (by omega) lb lc (by omega) ht,?_,rfl⟩
   rotate_left
   ·have wz:=(fm.own wA hNe).st (id:=S.n+1) (fun b m e=>by have:=wA.lt e;omega) n2 f2
    rcases wz with⟨rfl,e⟩|⟨id,rfl,h1,h2,h3⟩
    ·exact .inl ⟨rfl,e⟩
    ·exact .inr ⟨id,rfl,by omega,h2,(hid _ (by have:=wA.lt rfl;omega)).trans h3⟩
   ·have hgi':g.inputs=inp+lats.length:=by rw[hgin,hll]
    have:(Ci.gr ⟨inp,lats,g.ands,outs,bads,cons,fair,(if b1 then[⟨108,0,⟨#[113]⟩⟩]else[])++(if b2 then[⟨111,outs.length - 1,t⟩]else[])⟩)=g:=by
     show(⟨IntKind.i64.wrap (inp+lats.length),g.ands⟩:Gr)=g
     rw[wrap64 (by omega) (by omega),←hgi']
    rw[this];exact hvars
   refine .a _ _ rfl fun k' u u2 e1 e2=>?_
   match k' with
   |0=>cases e1;cases e2;exact .v _
   |1=>cases e1;cases e2;exact ID _ _ _
   |2=>cases e1;cases e2;exact ID _ _ _
   |3=>cases e1;cases e2;exact D7 _ _ _
   |4=>cases e1;cases e2;exact D7 _ _ _
   |5=>cases e1;cases e2;exact Ux ((fm.own wA hNe).st (id:=S.n+1) (fun b m e=>by have:=wA.lt e;omega) n2 f2)
   |6=>cases e1;cases e2;exact LI wf2 (wf2.fF (AhN _))
   |7=>cases e1;cases e2;exact kU wn2 (wn2.fF (AhN _))
   |k+8=>simp at e1
  have snd:∀(X0:AV→Aa→Prop) (S1:Aa) (k:Nat) (zn:AV) (b1:Bool),k≤100→Fz S l N A S1 k [aI inp,pL lats,pL g.ands,aL aI outs,aL aI bads,zc,zf,zn]→A4 N S1 zf 3 (fair.map fun p=>[aI p])→DL zn zf→
      A4 N S1 zn 91 (((if b1 then[⟨108,0,⟨#[113]⟩⟩]else[]):List Na).map Na.row)→0<outs.length→
      (∃ q182:AV,(∀ T:Aa,Am S1 T→shift (.p (S.n+3) 0 0) 7 T fun v S=>v=q182∧S=T)∧∃ q184:AV,(∀ T:Aa,Am S1 T→Ay q182 T fun v S=>v=q184∧S=T)∧∃ q186:AV,(∀ T:Aa,Am S1 T→shift (.p (S.n+3) 0 0) 3 T fun v S=>v=q186∧S=T)∧
       ∃ q188:AV,(∀ T:Aa,Am S1 T→Ay q186 T fun v S=>v=q188∧S=T)∧∃ q190:AV,(∀ T:Aa,Am S1 T→AF q188 T fun v S=>v=q190∧S=T)∧∃ q192:AV,(∀ T:Aa,Am S1 T→bin .sub 0 q190 (.v (.int .i64 1)) T fun v S=>v=q192∧S=T)∧
       ∃ q194:AV,(∀ T:Aa,Am S1 T→AU 9 1 3 [.v (.string ByteArray.empty)] [(0,(.v (.string { data:=#[111,117,116] }))),(1,(.v (.string { data:=#[108,49] }))),(2,(.v (.string { data:=#[97,45,98] })))] T fun v S=>v=q194∧S=T)∧
       Bg Pg (CN S) [.v (.int .i64 3)] S1 (fun v196 S1=>(∀ T:Aa,Am S1 T→AU 9 1 3 [.v (.string ByteArray.empty)] [(0,(.v (.string { data:=#[111,117,116] }))),(1,(.v (.string { data:=#[108,49] }))),(2,(.v (.string { data:=#[97,45,98] })))] T fun v S=>v=q194∧S=T)∧
        (∀ T:Aa,Am S1 T→bin .sub 0 q190 (.v (.int .i64 1)) T fun v S=>v=q192∧S=T)∧(∀ T:Aa,Am S1 T→AF q188 T fun v S=>v=q190∧S=T)∧(∀ T:Aa,Am S1 T→Ay q186 T fun v S=>v=q188∧S=T)∧(∀ T:Aa,Am S1 T→shift (.p (S.n+3) 0 0) 3 T fun v S=>v=q186∧S=T)∧
        (∀ T:Aa,Am S1 T→Ay q182 T fun v S=>v=q184∧S=T)∧(∀ T:Aa,Am S1 T→shift (.p (S.n+3) 0 0) 7 T fun v S=>v=q182∧S=T)∧
        ∃ q204:AV,(∀ T:Aa,Am S1 T→AS 9 1 q194 v196 T fun v S=>v=q204∧S=T)∧∃ q206:AV,(∀ T:Aa,Am S1 T→Ay q204 T fun v S=>v=q206∧S=T)∧
        ∃ q208:AV,(∀ T:Aa,Am S1 T→CD [(0,1),(1,1),(2,1)] [.v (.int .u8 0),.v (.int .i64 0),.v (.string ByteArray.empty)] [(0,(.v (.int .u8 111))),(1,q192),(2,q206)] T fun v S=>v=q208∧S=T)∧
        ∃ q210:AV,(∀ T:Aa,Am S1 T→AU 91 3 1 [.v (.int .u8 0),.v (.int .i64 0),.v (.string ByteArray.empty)] [(0,q208)] T fun v S=>v=q210∧S=T)∧Bo 91 3 32 q184 q210 S1 fun v212 S1 =>
        ∃ q213:AV,(∀ T:Aa,Am S1 T→shift (.p (S.n+3) 0 0) 7 T fun v S=>v=q213∧S=T)∧A8 1 q213 v212 S1 fun _ S1 =>
        AB 8 (.p (S.n+3) 0 0) S1 fun v S1=>A8 8 (.p (S.n+1) 0 0) v S1 fun _ S2=>AB 8 (.p (S.n+1) 0 0) S2 fun v _=>∃(D:Nat→Bool) (r tr:AV),Bh.ret v = .ret r∧Cv (S2.BA D) S2.n r tr∧Am S (S2.BA D)∧∃(c:Ci) (zc:AV),tr=c.rC zc∧A4 S.n (S2.BA D) zc 3 (c.cons.map fun p=>[aI p])∧IV c∧c.gr.vars=Jj l∧c.inputs=inp) X0):=by
   intro X0 S1 k zn b1 hk fm wf hap wn hol
   have hsub:∀(T:Aa) (K:AV→Aa→Prop),bin .sub 0 (aI outs.length) (.v (.int .i64 1)) T K=K (aI (outs.length - 1)) T:=fun T K=>Bx (by omega) (by omega) 0
   refine⟨_,fun T hT=>by rw[Ac];exact⟨rfl,rfl⟩,zn,fun T hT=>by rw[Ae (fm.kT hT) rfl rfl];exact⟨rfl,rfl⟩,_,fun T hT=>by rw[Ac];exact⟨rfl,rfl⟩,aL aI outs,fun T hT=>by rw[Ae (fm.kT hT) rfl rfl];exact⟨rfl,rfl⟩,aI outs.length,fun T hT=>by rw[Ax];exact⟨rfl,rfl⟩,_,fun T hT=>by rw[hsub];exact⟨rfl,rfl⟩,
    _,fun T hT=>AeY rfl rfl rfl ⟨rfl,rfl⟩,?_⟩
   refine fm.pick hl (by decide) (by omega) fun S2 fm n2 f2=>?_
   have p3:=BD hl (k:=k) (n:=3) (by decide)
   generalize BW l k 3=x at *
   obtain⟨x,rfl⟩:=AhX p3.1
   have wf2:=wf.fz (by omega) n2 f2
   have wn2:=wn.fz (by omega) n2 f2
   refine⟨fun T hT=>AeY rfl rfl rfl ⟨rfl,rfl⟩,fun T hT=>by rw[hsub];exact⟨rfl,rfl⟩,fun T hT=>by rw[Ax];exact⟨rfl,rfl⟩,fun T hT=>by rw[Ae (fm.kT hT) rfl rfl];exact⟨rfl,rfl⟩,fun T hT=>by rw[Ac];exact⟨rfl,rfl⟩,fun T hT=>by rw[Ae (fm.kT hT) rfl rfl];exact⟨rfl,rfl⟩,fun T hT=>by rw[Ac];exact⟨rfl,rfl⟩,?_⟩
   obtain⟨t,ht,hx⟩:∃ t:ByteArray,(t=⟨#[111,117,116]⟩∨t=⟨#[108,49]⟩∨t=⟨#[97,45,98]⟩)∧∀(T:Aa) (K:AV→Aa→Prop),AS 9 1 (.l [[.v (.string { data:=#[111,117,116] })],[.v (.string { data:=#[108,49] })],[.v (.string { data:=#[97,45,98] })]]) (aI x) T K=K (.q [.v (.string t)] 0) T:=by
    match x,p3 with
    |0,_=>exact⟨_,.inl rfl,fun T K=>IK (i:=0) (by simp) rfl⟩
    |1,_=>exact⟨_,.inr (.inl rfl),fun T K=>IK (i:=1) (by simp) rfl⟩
    |2,_=>exact⟨_,.inr (.inr rfl),fun T K=>IK (i:=2) (by simp) rfl⟩
    |x+3,h=>omega
   refine⟨_,fun T hT=>by rw[hx];exact⟨rfl,rfl⟩,_,fun T hT=>by rw[A1];exact⟨rfl,rfl⟩,_,fun T hT=>by rw[A6 (cs:=[.v (.int .u8 111),aI (outs.length - 1),.v (.string t)]) rfl];exact⟨rfl,rfl⟩,_,fun T hT=>s9 ⟨rfl,rfl⟩,?_⟩
   refine wn2.app (by have:=fm.n;omega) (c:=[.v (.int .u8 111),aI (outs.length - 1),.v (.string t)]) rfl (by cases b1<;>simp) (fun z S4 w4 b4 hz=>?_) rfl
   have n4:=b4.1
   have hn3:=fm.n
   have o4:∀ x,x<N→S4.obj x=S2.obj x:=fun x hx=>b4.2 x (by omega) (fun b m e=>by have:=wn2.lt e;omega)
   refine⟨_,fun T hT=>by rw[Ac];exact⟨rfl,rfl⟩,?_⟩
   replace fm:=fm.Eh n4 o4
   have wf4:=wf2.P1 b4 hap
   refine fm.st (by simp) (Gw w4) fun S5 fm n5 f5=>?_
   refine fin S5 _ z b1 true t fm (wf4.fz (by omega) n5 f5) (fun _=>⟨hol,ht⟩) ?_
   have w5:=w4.fz (by omega) n5 f5
   rw[AhU]
   exact w5
  refine fm.pick hl (by decide) (by omega) fun S2 fm n2 f2=>?_
  have wf2:=wf.fz (by omega) n2 f2
  have p3:=BD hl (k:=k) (n:=3) (by decide)
  generalize BW l k 3=x3 at *
  rw[AO,Ag]
  refine Al (fun hx=>?_) (fun hx=>?_)
  ·rw[Ac,Ae fm.co rfl rfl,A6 (cs:=[.v (.int .u8 108),aI 0,.v (.string ⟨#[113]⟩)]) rfl]
   refine s9 ?_
   refine(A4.nl N S2 91).app (by have:=fm.n;omega) (c:=[.v (.int .u8 108),aI 0,.v (.string ⟨#[113]⟩)]) rfl (by simp) (fun z S4 w4 b4 hz=>?_) rfl
   have n4:=b4.1
   have hn3:=fm.n
   have o4:∀ x,x<S2.n→S4.obj x=S2.obj x:=fun x hx=>b4.2 x (by omega) (fun b m e=>by cases e)
   rw[Ac]
   replace fm:=fm.Eh n4 fun x hx=>o4 x (by omega)
   have wf4:=wf2.P1 b4 (fun _ _ _ _ _ e=>by cases e)
   obtain⟨mz,hmz⟩:=hz
   have hap:DL z zf:=fun i b m b' m' e e'=>by
    rw[hmz]at e;injection e with e
    have:=wf2.lt e';omega
   refine fm.st (by simp) (Gw w4) fun S5 fm n5 f5=>?_
   have w5:A4 N S5 z 91 ([⟨108,0,⟨#[113]⟩⟩].map Na.row):=w4.fz (by omega) n5 f5
   have wf5:=wf4.fz (by omega) n5 f5
   rw[Ac,Ae fm.co rfl rfl,Ax,AO,Ag]
   refine Al (fun ho=>?_) (fun ho=>fin S5 _ z true false ⟨#[]⟩ fm wf5 (fun h=>by cases h) w5)
   have ho:0<outs.length:=by have:=dT ho;omega
   refine fm.pick hl (by decide) (by omega) fun S6 fm n6 f6=>?_
   have w6:=w5.fz (by omega) n6 f6
   have wf6:=wf5.fz (by omega) n6 f6
   rw[AO,Ag]
   refine Al (fun _=>?_) (fun _=>fin S6 _ z true false ⟨#[]⟩ fm wf6 (fun h=>by cases h) w6)
   exact snd _ S6 _ z true (by omega) fm wf6 hap w6 ho
  ·rw[Ac,Ae fm.co rfl rfl,Ax,AO,Ag]
   refine Al (fun ho=>?_) (fun ho=>fin S2 _ .nl false false ⟨#[]⟩ fm wf2 (fun h=>by cases h) (A4.nl _ _ _))
   have ho:0<outs.length:=by have:=dT ho;omega
   refine fm.pick hl (by decide) (by omega) fun S6 fm n6 f6=>?_
   have wf6:=wf2.fz (by omega) n6 f6
   rw[AO,Ag]
   refine Al (fun _=>?_) (fun _=>fin S6 _ .nl false false ⟨#[]⟩ fm wf6 (fun h=>by cases h) (A4.nl _ _ _))
   exact snd _ S6 _ .nl false (by omega) fm wf6 (fun _ _ _ _ _ e=>by cases e) (A4.nl _ _ _) ho
 have last4:∀(S':Aa) (k:Nat) (zo zb zc:AV) (bads cons:List Int),k≤24→Fm S l S' k [aI inp,pL lats,pL g.ands,zo,zb,zc,.nl,.nl]→A4 (S.n+4) S' zo 3 (outs.map fun p=>[aI p])→A4 (S.n+4) S' zb 3 (bads.map fun p=>[aI p])→A4 (S.n+4) S' zc 3 (cons.map fun p=>[aI p])→DL zc zo→DL zc zb→
     bads.length≤1→cons.length≤1→(∀ x∈bads,g.lit x=true)→(∀ x∈cons,g.lit x=true)→∀ X,
     Bg Pg (CN S) [.v (.int .i64 4)] S' (fun v S'=>bin .quo 0 v (.v (.int .i64 2)) S' fun v S'=>Ap GC (vc Pg (Kr.at_ [1,1,1,1,1,1,1,1,1,1,1,1,1,1,1,0,1,0,0]) (DC.drop 4)) 156 (Cu (.p (S.n+1) 0 0) (CN S) (.p (S.n+3) 0 0) (aI (2*g.vars)) v) S'
      (Ak 6 (Av (vc Pg (Kr.at_ [1,1,1,1,1,1,1,1,1,1,1,1,1,1,1,1]) (DC.drop 4)) (Ao Pg Uu fun e S'=>∃(D:Nat→Bool) (r tr:AV),e = .ret r∧Cv (S'.BA D) S'.n r tr∧Am S (S'.BA D)∧∃(c:Ci) (zc:AV),tr=c.rC zc∧A4 S.n (S'.BA D) zc 3 (c.cons.map fun p=>[aI p])∧IV c∧c.gr.vars=Jj l∧c.inputs=inp)))) X:=by
  intro S' k zo zb zc bads cons hk fm wo wb wc apo apb lb lc hbl hcl X
  refine fm.pick hl (by decide) (by omega) fun S2 fm n2 f2=>?_
  have p4:=BD hl (k:=k) (n:=4) (by decide)
  generalize BW l k 4=x4 at *
  have hd:0≤x4.tdiv 2∧x4.tdiv 2≤1:=by rw[Ai0 p4.1];omega
  rw[Fy (by decide) (by omega) (by omega)]
  obtain⟨r0,hr0⟩:=AhX hd.1
  rw[hr0]
  exact tail S2 _ zo zb zc bads cons r0 (by omega) (by omega) fm (wo.fm (by omega) n2 f2) (wb.fm (by omega) n2 f2) (wc.fm (by omega) n2 f2) apo apb lb lc hbl hcl
 have cons3:∀(X0:AV→Aa→Prop) (S':Aa) (k:Nat) (zo zb:AV) (bads:List Int),k≤22→Fm S l S' k [aI inp,pL lats,pL g.ands,zo,zb,.nl,.nl,.nl]→A4 (S.n+4) S' zo 3 (outs.map fun p=>[aI p])→A4 (S.n+4) S' zb 3 (bads.map fun p=>[aI p])→
     bads.length≤1→(∀ x∈bads,g.lit x=true)→∀ X:AV→Aa→Prop,
     Bg Pg (CN S) [.v (.int .i64 3)] S' (fun v S'=>bin .eql 0 v (.v (.int .i64 0)) S' fun v S'=>KC v fun b=>gd b
      (∃ q111:AV,(∀ T:Aa,Am S' T→shift (.p (S.n+3) 0 0) 5 T fun v S=>v=q111∧S=T)∧∃ q113:AV,(∀ T:Aa,Am S' T→Ay q111 T fun v S=>v=q113∧S=T)∧Bg Pg (CN S) [aI (2*g.vars)] S' (fun v115 S' =>
       (∀ T:Aa,Am S' T→Ay q111 T fun v S=>v=q113∧S=T)∧(∀ T:Aa,Am S' T→shift (.p (S.n+3) 0 0) 5 T fun v S=>v=q111∧S=T)∧∃ q118:AV,(∀ T:Aa,Am S' T→AU 3 1 1 [.v (.int .i64 0)] [(0,v115)] T fun v S=>v=q118∧S=T)∧Bo 3 1 8 q113 q118 S' fun v120 S' =>
       ∃ q121:AV,(∀ T:Aa,Am S' T→shift (.p (S.n+3) 0 0) 5 T fun v S=>v=q121∧S=T)∧A8 1 q121 v120 S' fun _ S'=>Bg Pg (CN S) [.v (.int .i64 4)] S' (fun v S'=>bin .quo 0 v (.v (.int .i64 2)) S' fun v S'=>Ap GC (vc Pg (Kr.at_ [1,1,1,1,1,1,1,1,1,1,1,1,1,1,1,0,1,0,0]) (DC.drop 4)) 156 (Cu (.p (S.n+1) 0 0) (CN S) (.p (S.n+3) 0 0) (aI (2*g.vars)) v) S'
      (Ak 6 (Av (vc Pg (Kr.at_ [1,1,1,1,1,1,1,1,1,1,1,1,1,1,1,1]) (DC.drop 4)) (Ao Pg Uu fun e S'=>∃(D:Nat→Bool) (r tr:AV),e = .ret r∧Cv (S'.BA D) S'.n r tr∧Am S (S'.BA D)∧∃(c:Ci) (zc:AV),tr=c.rC zc∧A4 S.n (S'.BA D) zc 3 (c.cons.map fun p=>[aI p])∧IV c∧c.gr.vars=Jj l∧c.inputs=inp)))) X) X0)
      (Bg Pg (CN S) [.v (.int .i64 4)] S' (fun v S'=>bin .quo 0 v (.v (.int .i64 2)) S' fun v S'=>Ap GC (vc Pg (Kr.at_ [1,1,1,1,1,1,1,1,1,1,1,1,1,1,1,0,1,0,0]) (DC.drop 4)) 156 (Cu (.p (S.n+1) 0 0) (CN S) (.p (S.n+3) 0 0) (aI (2*g.vars)) v) S'
      (Ak 6 (Av (vc Pg (Kr.at_ [1,1,1,1,1,1,1,1,1,1,1,1,1,1,1,1]) (DC.drop 4)) (Ao Pg Uu fun e S'=>∃(D:Nat→Bool) (r tr:AV),e = .ret r∧Cv (S'.BA D) S'.n r tr∧Am S (S'.BA D)∧∃(c:Ci) (zc:AV),tr=c.rC zc∧A4 S.n (S'.BA D) zc 3 (c.cons.map fun p=>[aI p])∧IV c∧c.gr.vars=Jj l∧c.inputs=inp)))) X)) X:=by
  intro X0 S' k zo zb bads hk fm wo wb lb hbl X
  refine fm.pick hl (by decide) (by omega) fun S2 fm n2 f2=>?_
  have wo2:=wo.fm (by omega) n2 f2
  have wb2:=wb.fm (by omega) n2 f2
  rw[AA,Ag]
  refine Al (fun _=>?_) (fun _=>last4 S2 _ zo zb .nl bads [] (by omega) fm wo2 wb2 (A4.nl _ _ _) (fun _ _ _ _ _ e=>by cases e) (fun _ _ _ _ _ e=>by cases e) lb (by simp) hbl (fun _ h=>by cases h) X)
  refine⟨_,fun T hT=>by rw[Ac];exact⟨rfl,rfl⟩,.nl,fun T hT=>by rw[Ae (fm.kT hT) rfl rfl];exact⟨rfl,rfl⟩,?_⟩
  refine fm.pick hl hvp (by omega) fun S3 fm n3 f3=>?_
  have pn:=plit (BD hl (k:=k+1) hvp)
  generalize BW l (k+1) (2*g.vars)=n at *
  have hn1:∀ x∈[n],g.lit x=true:=fun x hx=>by rw[AhT.1 hx];exact pn
  have wo3:=wo2.fm (by omega) n3 f3
  have wb3:=wb2.fm (by omega) n3 f3
  refine⟨fun T hT=>by rw[Ae (fm.kT hT) rfl rfl];exact⟨rfl,rfl⟩,fun T hT=>by rw[Ac];exact⟨rfl,rfl⟩,_,fun T hT=>BM rfl (fun _ h=>by cases h) ⟨rfl,rfl⟩,?_⟩
  refine(A4.nl (S.n+4) S3 3).app (by have:=fm.n;omega) (c:=[aI n]) rfl (by simp) (fun z S4 w4 b4 hz=>?_) rfl
  have n4:=b4.1
  have hn3:=fm.n
  have o4:∀ x,x<S3.n→S4.obj x=S3.obj x:=fun x hx=>b4.2 x (by omega) (fun b m e=>by cases e)
  refine⟨_,fun T hT=>by rw[Ac];exact⟨rfl,rfl⟩,?_⟩
  replace fm:=fm.Eh n4 fun x hx=>o4 x (by omega)
  have wo4:=wo3.P1 b4 (fun _ _ _ _ _ e=>by cases e)
  have wb4:=wb3.P1 b4 (fun _ _ _ _ _ e=>by cases e)
  refine fm.st (by simp) (Gw w4) fun S5 fm n5 f5=>?_
  obtain⟨mz,hmz⟩:=hz
  have ap:∀{y:AV} {es:List (List AV)},A4 (S.n+4) S3 y 3 es→DL z y:=fun w i b m b' m' e e'=>by
   rw[hmz]at e;injection e with e
   have:=w.lt e';omega
  exact last4 S5 _ zo zb z bads [n] (by omega) fm (wo4.fm (by omega) n5 f5) (wb4.fm (by omega) n5 f5) (w4.fm (by omega) n5 f5) (ap wo3) (ap wb3) lb (by simp) hbl hn1 X
 refine fm.pick hl (by decide) (by omega) fun S2 fm n2 f2=>?_
 have wo2:=wo.fm (by omega) n2 f2
 rw[AA,Ag]
 refine Al (fun _=>?_) (fun _=>cons3 _ S2 _ zo .nl [] (by omega) fm wo2 (A4.nl _ _ _) (by simp) (fun _ h=>by cases h) _)
 refine⟨_,fun T hT=>by rw[Ac];exact⟨rfl,rfl⟩,.nl,fun T hT=>by rw[Ae (fm.kT hT) rfl rfl];exact⟨rfl,rfl⟩,?_⟩
 refine fm.pick hl hvp (by omega) fun S3 fm n3 f3=>?_
 have pn:=plit (BD hl (k:=k+1) hvp)
 generalize BW l (k+1) (2*g.vars)=n at *
 have hn1:∀ x∈[n],g.lit x=true:=fun x hx=>by rw[AhT.1 hx];exact pn
 have wo3:=wo2.fm (by omega) n3 f3
 refine⟨fun T hT=>by rw[Ae (fm.kT hT) rfl rfl];exact⟨rfl,rfl⟩,fun T hT=>by rw[Ac];exact⟨rfl,rfl⟩,_,fun T hT=>BM rfl (fun _ h=>by cases h) ⟨rfl,rfl⟩,?_⟩
 refine(A4.nl (S.n+4) S3 3).app (by have:=fm.n;omega) (c:=[aI n]) rfl (by simp) (fun z S4 w4 b4 hz=>?_) rfl
 have n4:=b4.1
 have hn3:=fm.n
 have o4:∀ x,x<S3.n→S4.obj x=S3.obj x:=fun x hx=>b4.2 x (by omega) (fun b m e=>by cases e)
 refine⟨_,fun T hT=>by rw[Ac];exact⟨rfl,rfl⟩,?_⟩
 replace fm:=fm.Eh n4 fun x hx=>o4 x (by omega)
 have wo4:=wo3.P1 b4 (fun _ _ _ _ _ e=>by cases e)
 refine fm.st (by simp) (Gw w4) fun S5 fm n5 f5=>?_
 exact cons3 _ S5 _ zo z [n] (by omega) fm (wo4.fm (by omega) n5 f5) (w4.fm (by omega) n5 f5) (by simp) hn1 _
theorem VS(c:Ci)(v vs:List Bool):(DA c v vs).length≤2 ^ c.inputs.toNat:=by
 simp only[DA,AhR]
 have:=List.length_filter_le (fun x=>vs.getD ((Cx c v c.latches.length).toNat+x) false) (List.range (2 ^ c.inputs.toNat))
 simpa using this
structure Vx (s:Sp):Prop where
 h1:s.valid.length≤1024
 h2:s.initial.length≤1024
 h3:s.next.length≤1024
 h4:∀ r∈s.next,r.length≤1024
 h5:s.fair.length≤2000
 h6:∀ r∈s.fair,r.length≤1024
theorem Sh{c:Ci}(h:c.right=true)(h10:¬ 10<c.gr.inputs):Vx (Au c):=by
 obtain⟨g1,g2,g3⟩:=CQ h
 have hR:=Bq.1 h
 have hN:2 ^ c.gr.inputs.toNat≤1024:=AiJ (by decide) (show c.gr.inputs.toNat≤10 by omega)
 have hI:2 ^ c.inputs.toNat≤1024:=AiJ (by decide) (show c.inputs.toNat≤10 by omega)
 refine⟨by simp only[Au,AE,AhR,List.length_range];exact hN,by simp only[Au,AhR,List.length_range];exact hN,by simp only[Au,AhR,List.length_range];exact hN,fun r hr=>?_,by simp only[Au,AhR];exact hR.2.2.2.2.2.1,fun r hr=>?_⟩
 ·simp only[Au,Ai5]at hr
  obtain⟨s,_,rfl⟩:=hr
  split
  ·have:=VS c ((AY c).getD s []) (AE c)
   omega
  ·simp
 ·simp only[Au,Ai5]at hr
  obtain⟨s,_,rfl⟩:=hr
  rw[AhR,List.length_range]
  exact hN
def Ge:Ci:=⟨0,[(3,0)],[],[],[],[],[],[]⟩
theorem wY{c:Ci}(h:c.names = []):Cl c=true:=by
 simp only[Cl,decide_eq_true_eq]
 exact⟨fun i hi=>by simp[h]at hi,fun i hi=>by simp[h]at hi,by simp[h]⟩
theorem P0:Ge.ok:=by
 refine⟨⟨by decide,by decide⟩,by decide,by decide,fun p hp=>?_,(fun p hp=>by cases hp),⟨(fun _ h=>by cases h),by decide⟩,⟨(fun _ h=>by cases h),by decide⟩,⟨(fun _ h=>by cases h),by decide⟩,⟨(fun _ h=>by cases h),by decide⟩,(fun _ h=>by cases h),by decide⟩
 have:p=(3,0):=by simpa[Ge]using hp
 subst this
 exact⟨⟨by decide,by decide⟩,⟨by decide,by decide⟩⟩
theorem Ir:Ge.right=true:=by
 refine Bq.2 ⟨by decide,by decide,by decide,by decide,by decide,by decide,by decide,by decide,by decide,by decide,by decide,by decide,wY rfl⟩
theorem TQ:BI Ge=(⟨1,[true,true],[true,false],[[1],[0]],[]⟩,0):=by
 rw[BI,Ir,if_neg (by decide),if_neg (by decide)]
 have h1:(Au Ge).bits=1:=by decide
 have h2:(Au Ge).valid = [true,true]:=by decide
 have h3:(Au Ge).initial = [true,false]:=by decide
 have h4:(Au Ge).next = [[1],[0]]:=by decide
 have h5:(Au Ge).fair = []:=by decide
 generalize Au Ge=s at *
 cases s
 simp_all
theorem KZ{P:Program}{f:FuncId}{args args2:List AV}{r:AV}(h:BF P f args2 r){S:Aa}(hl:args.length=args2.length)(hcv:∀(k:Nat) (u u2:AV),args[k]? = some u→args2[k]? = some u2→Cv S S.n u u2){Q:Bh→Aa→Prop}{K:AV→Aa→Prop}(k:K r S):Ah P f args S Q K:=
 .inl (Ad.conv hl hcv (Ad.mono (h S) fun e S' h=>by obtain⟨rfl,rfl⟩:=h;exact k))
theorem sA(l:List Na):Tree (nL l):=Tree.l fun c hc u hu=>by
 obtain⟨a,ha,rfl⟩:=Ai5.1 hc
 unfold Na.row at hu
 simp only[Ai9,AiE,or_false]at hu
 rcases hu with rfl|rfl|rfl<;>exact Tree.v _
section
variable {H:Type} {enc:TypeId × Value→H} {w:World} {sp:Nat→Bool} {held:Bool}
theorem xM{n:Int}(h:(Lit.int .i64 n).wf=true):Bv n:=by
 simp[Lit.wf,IntKind.min,IntKind.max,IntKind.bits,IntKind.signed]at h
 exact⟨by omega,by omega⟩
theorem Aa5{n:Int}(h:(Lit.int .u8 n).wf=true):0≤n∧n<256:=by
 simp[Lit.wf,IntKind.min,IntKind.max,IntKind.bits,IntKind.signed]at h
 omega
theorem vZ{n:Int}(h:(Lit.int .u16 n).wf=true):0≤n∧n<65536:=by
 simp[Lit.wf,IntKind.min,IntKind.max,IntKind.bits,IntKind.signed]at h
 omega
theorem opI:Km enc Pg w sp held 3 1 (fun n:Int=>[aI n]) (fun n=>(Lit.int .i64 n).wf=true):=KB Tryz.underlying3
theorem opU:Km enc Pg w sp held 5 1 (fun n:Int=>[AV.v (.int .u8 n)]) (fun n=>(Lit.int .u8 n).wf=true):=KB Tryz.underlying5
theorem opV:Km enc Pg w sp held 87 1 (fun n:Int=>[Lz n]) (fun n=>(Lit.int .u16 n).wf=true):=KB Tryz.underlying87
theorem AgQ:Km enc Pg w sp held 22 1 (fun l:List Int=>[aL Lz l]) (fun l=>l.length≤maxLen∧∀ a∈l,(Lit.int .u16 a).wf=true):=Lb Tryz.underlying22 (by kernel_rfl) (by decide) opV
end
inductive Fo where
 |mk (kind:Int) (name:ByteArray) (lit:Int) (kids:List Fo)
def Fo.kind:Fo→Int|.mk k _ _ _=>k
def Fo.lit:Fo→Int|.mk _ _ l _=>l
theorem Fo.ind{P:Fo→Prop}(h:∀ k n l ks,(∀ f∈ks,P f)→P (.mk k n l ks))(f:Fo):P f:=
 Fo.rec (motive_1:=P) (motive_2:=fun l=>∀ f∈l,P f) (fun k n l ks ih=>h k n l ks ih) (fun f hf=>by cases hf)
  (fun a l ha hl f hf=>by
   rcases Ai9.1 hf with rfl|hf
   ·exact ha
   ·exact hl f hf) f
mutual
def Fo.row:Fo→List AV
 |.mk k n l ks=>[aI k,.v (.string n),aI l,.l (Fo.rows ks)]
def Fo.rows:List Fo→List (List AV)
 |[]=>[]
 |f :: fs=>Fo.row f :: Fo.rows fs
end
def Du(l:List Fo):AV:=.l (l.map Fo.row)
theorem Fo.Hm:∀ l:List Fo,Fo.rows l=l.map Fo.row
 |[]=>by rw[Fo.rows];rfl
 |f :: fs=>by rw[Fo.rows,Fo.Hm fs];rfl
theorem Fo.AD(k:Int)(n:ByteArray)(l:Int)(ks:List Fo):Fo.row (.mk k n l ks) = [aI k,.v (.string n),aI l,Du ks]:=by rw[Fo.row,Fo.Hm];rfl
def Fo.av(f:Fo):AV:=.a f.row
theorem Fo.Aj(f:Fo):f.row.length=4:=by cases f;rw[Fo.AD];rfl
inductive Fo.ok:Fo→Prop
 |mk (k:Int) (n:ByteArray) (l:Int) (ks:List Fo) (h1:Bv k) (h2:Bv l) (h3:n.size≤9223372036854775807) (h4:ks.length≤1000000) (h:∀ f∈ks,Fo.ok f):Fo.ok (.mk k n l ks)
def CB(k:Int):Int:=if k<1∨18<k then -1 else if k≤3 then 0 else if k=4∨9≤k∧k≤14 then 1 else 2
mutual
def Fo.BQ:Fo→Int→Bool
 |.mk k n l ks,d=>decide (0<d) && (decide (l=0∨0<l∧k=3) && (decide (n=(⟨#[]⟩:ByteArray)) && (decide ((ks.length:Int)=CB k) && Fo.Ri ks (d - 1))))
def Fo.Ri:List Fo→Int→Bool
 |[],_=>true
 |f :: fs,d=>Fo.BQ f d && Fo.Ri fs d
end
theorem Fo.NY:∀(l:List Fo) (d:Int),Fo.Ri l d=l.all fun f=>f.BQ d
 |[],d=>by rw[Fo.Ri];rfl
 |f :: fs,d=>by rw[Fo.Ri,Fo.NY fs];rfl
theorem Fo.CJ(k:Int)(n:ByteArray)(l:Int)(ks:List Fo)(d:Int):Fo.BQ (.mk k n l ks) d=(decide (0<d) && (decide (l=0∨0<l∧k=3) && (decide (n=(⟨#[]⟩:ByteArray)) && (decide ((ks.length:Int)=CB k) && ks.all fun f=>f.BQ (d - 1))))):=by rw[Fo.BQ,Fo.NY]
mutual
def Fo.DD(g:Gr):Fo→Bool
 |.mk k _ l ks=>(decide (k≠3) || g.lit l) && Fo.MX g ks
def Fo.MX(g:Gr):List Fo→Bool
 |[]=>true
 |f :: fs=>Fo.DD g f && Fo.MX g fs
end
theorem Fo.MW(g:Gr):∀(l:List Fo),Fo.MX g l=l.all fun f=>f.DD g
 |[]=>by rw[Fo.MX];rfl
 |f :: fs=>by rw[Fo.MX,Fo.MW g fs];rfl
theorem Fo.MY(g:Gr)(k:Int)(n:ByteArray)(l:Int)(ks:List Fo):Fo.DD g (.mk k n l ks)=((decide (k≠3) || g.lit l) && ks.all fun f=>f.DD g):=by rw[Fo.DD,Fo.MW]
def Ex (c:Ci) (f:Fo):Bool:=c.right && (f.BQ 60 && f.DD c.gr)
@[simp] theorem BJ(l:List Fo){S:Aa}{K:AV→Aa→Prop}:AF (Du l) S K=K (aI l.length) S:=by simp[Du]
theorem Cg{l:List Fo}{e i:Nat}{S:Aa}{K:AV→Aa→Prop}(h:i<l.length):AS e 4 (Du l) (aI i) S K=K (.q l[i].row 0) S:=by
 unfold Du
 rw[IK (by simpa using h) (by simp[Fo.Aj])]
 simp
theorem Ca{c:List AV}{n:Nat}{S:Aa}{K:AV→Aa→Prop}(h:c.length=n):AB n (.q c 0) S K=K (.a c) S:=by
 subst h
 simp[AB,Xp,place]
section
variable {H:Type} {enc:TypeId × Value→H} {w:World} {sp:Nat→Bool} {held:Bool}
theorem AgR:Km enc Pg w sp held 23 1 (fun l:List Int=>[aL (fun n=>AV.v (.int .u8 n)) l]) (fun l=>l.length≤maxLen∧∀ a∈l,(Lit.int .u8 a).wf=true):=Lb Tryz.underlying23 (by kernel_rfl) (by decide) opU
end
section
variable {H:Type} {enc:TypeId × Value→H} {w:World} {sp:Nat→Bool} {held:Bool}
end
inductive Tn where
 |mk (kind:Int) (state:Int) (back:Int) (states:List Int) (kids:List Tn)
theorem Tn.ind{P:Tn→Prop}(h:∀ k s b ss ks,(∀ t∈ks,P t)→P (.mk k s b ss ks))(t:Tn):P t:=
 Tn.rec (motive_1:=P) (motive_2:=fun l=>∀ t∈l,P t) (fun k s b ss ks ih=>h k s b ss ks ih) (fun t ht=>by cases ht)
  (fun a l ha hl t ht=>by
   rcases Ai9.1 ht with rfl|ht
   ·exact ha
   ·exact hl t ht) t
mutual
def Tn.row:Tn→List AV
 |.mk k s b ss ks=>[aI k,aI s,aI b,aL aI ss,.l (Tn.rows ks)]
def Tn.rows:List Tn→List (List AV)
 |[]=>[]
 |t :: ts=>Tn.row t :: Tn.rows ts
end
def K8(l:List Tn):AV:=.l (l.map Tn.row)
theorem Tn.Hm:∀ l:List Tn,Tn.rows l=l.map Tn.row
 |[]=>by rw[Tn.rows];rfl
 |t :: ts=>by rw[Tn.rows,Tn.Hm ts];rfl
theorem Tn.AD(k s b:Int)(ss:List Int)(ks:List Tn):Tn.row (.mk k s b ss ks) = [aI k,aI s,aI b,aL aI ss,K8 ks]:=by rw[Tn.row,Tn.Hm];rfl
def Tn.av(t:Tn):AV:=.a t.row
theorem Tn.Aj(t:Tn):t.row.length=5:=by cases t;rw[Tn.AD];rfl
section
variable {H:Type} {enc:TypeId × Value→H} {w:World} {sp:Nat→Bool} {held:Bool}
end
section
set_option maxRecDepth 100000
def zS:Code:=(Tryz.f38.body).getD .skip
def r38:List ResultVar:=Tryz.f38.results.toList
def JO(y1 y2 y4 y5 y6:AV):List AV:=[y1,y2,y4,y5,y6]
def O5:List Nat:=[1,2,4,5,6]
def SB:List (List Nat):=[O5,[]]
abbrev Y2(x1 v1 v2 v6:AV)(S:Aa)(Q:Aq):Prop:=Ap O5 (vc Pg (zS.at_ [1,1,1,0,1,0,0]) (SB.drop 1)) 46 (JO x1 v1 v2 v6 (aI 0)) S (Ak 0 (Av (vc Pg (zS.at_ [1,1,1,1]) (SB.drop 1)) (Ao Pg r38 Q)))
def m38(x0 x1:AV)(S:Aa)(Q:Aq):Prop:=
 Az 32 4 x0 S fun c S=>Az 32 4 (.a Cy) S fun d S=>Lf c 0 S fun e S=>CD NI Cy [(0,e)] S fun f S=>Az 32 4 (.a Cy) S fun g S=>A8 4 g f S fun h S=>Lf c 0 S fun i S=>bin .eql 0 i (aI 3) S fun k S=>Fi k (Lt S (shift c 1) fun l=>Lt S (Ay l) fun m=>Lt S (FH m) fun n=>Lt S (bin .mul 0 n (aI 7)) fun o=>Lt S (shift c 1) fun p=>Lt S (Ay p) fun q=>Lt S (Hy q (aI 0)) fun r=>Lt S (Cq .i64 r) fun s=>Lt S (bin .add 0 o s) fun t=>Lt S (VT true x1 (aI 1)) fun u=>Lt S (bin .rem 0 t u) fun v=>Lt S (shift g 2) fun w=>A8 1 w v S fun x S=>Y2 x1 c d g S Q) (Y2 x1 c d g S Q)
theorem pC{x0 x1:AV}{S:Aa}{Q:Aq}(h:m38 x0 x1 S Q):Ad Pg 38 [x0,x1] S Q:=
 Bj (n:=46) SB Tryz.func38 (by kernel_rfl) (Eq.mpr (by kernel_rfl) h)
def uG(y1 y2 y4 y5 y6:AV)(S:Aa)(KE0:By)(Q:Aq):Prop:=
 Lf y2 3 S fun a S=>AF a S fun c S=>bin .lss 0 y6 c S fun d S=>Fi d (Lt S (shift y5 3) fun e=>Lt S (Ay e) fun f=>Lt S (shift y2 3) fun g=>Lt S (Ay g) fun h=>Lt S (AS 32 4 h y6) fun i=>Lt S (AB 4 i) fun k=>Lc S 38 [k,y1] fun l=>Lt S (AU 32 4 1 Cy [(0,l)]) fun m=>Bo 32 4 56 f m S fun n S=>Lt S (shift y5 3) fun o=>A8 1 o n S fun p S=>bin .add 0 y6 (aI 1) S fun q S=>KE0 46 (JO y1 y2 y4 y5 q) S) (AB 4 y5 S fun r S=>A8 4 y4 r S fun s S=>AB 4 y4 S fun t _=>Q (.ret t) S)
theorem ZF{y1 y2 y4 y5:AV}{y60:AV}{S:Aa}{Q:Aq}(I:AV→Aa→Prop)(μ:AV→Aa→Nat)(h0:I y60 S)(hr:BS (fun y6=>JO y1 y2 y4 y5 y6) 46 I μ fun y6 S KE0=>uG y1 y2 y4 y5 y6 S KE0 Q):
 Ap O5 (vc Pg (zS.at_ [1,1,1,0,1,0,0]) (SB.drop 1)) 46 (JO y1 y2 y4 y5 y60) S (Ak 0 (Av (vc Pg (zS.at_ [1,1,1,1]) (SB.drop 1)) (Ao Pg r38 Q))):=DQ 4 (fun _=>rfl) (fun _ _ _=>by kernel_rfl) h0 hr
def m39(x0 x1:AV)(S:Aa)(Q:Aq):Prop:=
 Az 29 8 x0 S fun c S=>Az 32 4 x1 S fun d S=>AB 8 c S fun e S=>AB 4 d S fun f S=>Ah Pg 33 [e,f] S Q fun g S=>un .not g S fun h S=>Fi h (Q (.ret (.t [.nl,aI 1])) S) (AB 8 c S fun i S=>Ah Pg 11 [i] S Q fun k S=>AZ k 0 S fun l S=>AZ k 1 S fun m S=>Az 45 5 (.a Xl) S fun n S=>A8 5 n l S fun o S=>bin .neq 0 m (aI 0) S fun p S=>Fi p (Q (.ret (.t [.nl,m])) S) (Lt S (AB 8 c) fun q=>Lt S (AB 5 n) fun r=>Lt S (AB 5 n) fun s=>Lt S (shift n 1) fun u=>Lt S (Ay u) fun v=>Lc S 85 [s,v] fun w=>Lt S (CD [(0,8),(8,5),(13,1)] [aI 0,.nl,.nl,.nl,.nl,.nl,.nl,.nl,aI 0,.nl,.nl,.nl,.nl,.nl] [(0,q),(1,r),(2,w)]) fun x=>Az 129 14 x S fun y S=>AB 4 d S fun z S=>Ah Pg 86 [y,z] S Q fun A S=>Q (.ret (.t [A,aI 0])) S))
theorem pB{x0 x1:AV}{S:Aa}{Q:Aq}(h:m39 x0 x1 S Q):Ad Pg 39 [x0,x1] S Q:=
 Bj (n:=32) [[]] Tryz.func39 (by kernel_rfl) (Eq.mpr (by kernel_rfl) h)
def c86:Code:=(Tryz.f86.body).getD .skip
def r86:List ResultVar:=Tryz.f86.results.toList
def GP(y0 y3 y7 y8:AV):List AV:=[y0,y3,y7,y8]
def SM:List Nat:=[0,3,7,8]
def Yk:List (List Nat):=[SM,[]]
abbrev Lj(x0 v1:AV)(S:Aa)(Q:Aq):Prop:=Ap SM (vc Pg (c86.at_ [1,1,1,1,1,1,0,1,0,0]) (Yk.drop 1)) 214 (GP x0 v1 .nl (aI 0)) S (Ak 1 (Av (vc Pg (c86.at_ [1,1,1,1,1,1,1]) (Yk.drop 1)) (Ao Pg r86 Q)))
abbrev Li(x0:AV)(S:Aa)(Q:Aq):Prop:=AI x0 S fun a S=>shift a 8 S fun c S=>Lf c 1 S fun d S=>Ah Pg 124 [x0,d] S Q fun e S=>Q (.ret e) S
abbrev N6(x0:AV)(Q:Aq)(S:Aa):Prop:=(fun S0:Aa=>Lq S0 (AI x0) fun q287=>Lq S0 (shift q287 8) fun q289=>Lq S0 (shift q289 1) fun q291=>Lq S0 (Ay q291) fun q293=>Ld S0 124 [x0,.nl] fun q295=>Ld S0 127 [x0,q293,q295] fun q297=>Ld S0 124 [x0,q297] fun q299=>Q (.ret q299) S) S
abbrev N5(x0 v11:AV)(Q:Aq)(S:Aa):Prop:=(fun S0:Aa=>Lq S0 (AI x0) fun q81=>Lq S0 (shift q81 8) fun q83=>Lq S0 (shift q83 1) fun q85=>Lq S0 (Ay q85) fun q87=>Ld S0 124 [x0,v11] fun q89=>Ld S0 127 [x0,q87,q89] fun q91=>Ld S0 124 [x0,q91] fun q93=>Q (.ret q93) S) S
abbrev N4(x0:AV)(S:Aa)(Q:Aq):Prop:=AI x0 S fun a S=>shift a 8 S fun c S=>Lf c 1 S fun d S=>Ah Pg 127 [x0,d,.nl] S Q fun e S=>Q (.ret e) S
abbrev N3(x0:AV)(S:Aa)(Q:Aq):Prop:=Ah Pg 124 [x0,.nl] S Q fun a S=>Ah Pg 126 [x0,a] S Q fun c S=>Ah Pg 124 [x0,c] S Q fun d S=>Q (.ret d) S
abbrev N2(x0:AV)(S:Aa)(Q:Aq):Prop:=Ah Pg 124 [x0,.nl] S Q fun a S=>Ah Pg 128 [x0,a] S Q fun c S=>Ah Pg 124 [x0,c] S Q fun d S=>Q (.ret d) S
def m86(x0 x1:AV)(S:Aa)(Q:Aq):Prop:=
 Az 32 4 x1 S fun a S=>Lf a 3 S fun c S=>AF c S fun d S=>bin .gtr 0 d (aI 0) S fun e S=>Fi e (Lf a 3 S fun f S=>AS 32 4 f (aI 0) S fun g S=>AB 4 g S fun h S=>Ah Pg 86 [x0,h] S Q fun i S=>Lf a 3 S fun k S=>AF k S fun l S=>bin .gtr 0 l (aI 1) S fun m S=>Fi m (Lf a 3 S fun n S=>AS 32 4 n (aI 1) S fun o S=>AB 4 o S fun p S=>Ah Pg 86 [x0,p] S Q fun q S=>Lf a 0 S fun r S=>bin .eql 0 r (aI 2) S fun s S=>Fi s (AI x0 S fun t S=>shift t 8 S fun u S=>Lf u 1 S fun v S=>Q (.ret v) S) (bin .eql 0 r (aI 1) S fun w S=>Fi w (Li x0 S Q) (bin .eql 0 r (aI 4) S fun x S=>Fi x (Ah Pg 124 [x0,i] S Q fun y S=>Q (.ret y) S) (bin .eql 0 r (aI 5) S fun z S=>Fi z (Ah Pg 119 [i,q] S Q fun A S=>Q (.ret A) S) (bin .eql 0 r (aI 6) S fun B S=>Fi B (Ah Pg 125 [i,q] S Q fun C S=>Q (.ret C) S) (bin .eql 0 r (aI 7) S fun D S=>Fi D (Ah Pg 124 [x0,i] S Q fun E S=>Ah Pg 125 [E,q] S Q fun F S=>Q (.ret F) S) (bin .eql 0 r (aI 8) S fun G S=>Fi G (Ah Pg 119 [i,q] S Q fun H S=>Ah Pg 125 [i,q] S Q fun I S=>Ah Pg 124 [x0,I] S Q fun J S=>Ah Pg 125 [H,J] S Q fun K S=>Q (.ret K) S) (bin .eql 0 r (aI 9) S fun L S=>Fi L (Ah Pg 126 [x0,i] S Q fun M S=>Q (.ret M) S) (bin .eql 0 r (aI 10) S fun N S=>Fi N (Ah Pg 124 [x0,i] S Q fun O S=>Ah Pg 126 [x0,O] S Q fun P S=>Ah Pg 124 [x0,P] S Q fun R S=>Q (.ret R) S) (bin .eql 0 r (aI 11) S fun T S=>Fi T (AI x0 S fun U S=>shift U 8 S fun V S=>Lf V 1 S fun W S=>Ah Pg 127 [x0,W,i] S Q fun X S=>Q (.ret X) S) (bin .eql 0 r (aI 12) S fun Y S=>Fi Y (Ah Pg 124 [x0,i] S Q fun Z S=>Ah Pg 128 [x0,Z] S Q fun a0 S=>Ah Pg 124 [x0,a0] S Q fun a1 S=>Q (.ret a1) S) (bin .eql 0 r (aI 13) S fun a2 S=>Fi a2 (Ah Pg 128 [x0,i] S Q fun a3 S=>Q (.ret a3) S) (bin .eql 0 r (aI 14) S fun a4 S=>Fi a4 (N5 x0 i Q S) (bin .eql 0 r (aI 15) S fun a5 S=>Fi a5 (Ah Pg 127 [x0,i,q] S Q fun a6 S=>Q (.ret a6) S) (bin .eql 0 r (aI 16) S fun a7 S=>Fi a7 (Ah Pg 124 [x0,q] S Q fun a8 S=>Ah Pg 125 [i,q] S Q fun a9 S=>Ah Pg 124 [x0,a9] S Q fun b0 S=>Ah Pg 127 [x0,a8,b0] S Q fun b1 S=>Ah Pg 124 [x0,q] S Q fun b2 S=>Ah Pg 128 [x0,b2] S Q fun b3 S=>Ah Pg 125 [b1,b3] S Q fun b4 S=>Ah Pg 124 [x0,b4] S Q fun b5 S=>Q (.ret b5) S) (bin .eql 0 r (aI 17) S fun b6 S=>Fi b6 (Ah Pg 128 [x0,q] S Q fun b7 S=>Ah Pg 119 [i,q] S Q fun b8 S=>Ah Pg 127 [x0,q,b8] S Q fun b9 S=>Ah Pg 125 [b7,b9] S Q fun c0 S=>Q (.ret c0) S) (bin .eql 0 r (aI 18) S fun c1 S=>Fi c1 (Ah Pg 124 [x0,i] S Q fun c2 S=>Ah Pg 124 [x0,q] S Q fun c3 S=>Ah Pg 127 [x0,c2,c3] S Q fun c4 S=>Ah Pg 124 [x0,c4] S Q fun c5 S=>Q (.ret c5) S) (Lj x0 a S Q)))))))))))))))))) (Lf a 0 S fun c6 S=>bin .eql 0 c6 (aI 2) S fun c7 S=>Fi c7 (AI x0 S fun c8 S=>shift c8 8 S fun c9 S=>Lf c9 1 S fun d0 S=>Q (.ret d0) S) (bin .eql 0 c6 (aI 1) S fun d1 S=>Fi d1 (Li x0 S Q) (bin .eql 0 c6 (aI 4) S fun d2 S=>Fi d2 (Ah Pg 124 [x0,i] S Q fun d3 S=>Q (.ret d3) S) (bin .eql 0 c6 (aI 5) S fun d4 S=>Fi d4 (Ah Pg 119 [i,.nl] S Q fun d5 S=>Q (.ret d5) S) (bin .eql 0 c6 (aI 6) S fun d6 S=>Fi d6 (Ah Pg 125 [i,.nl] S Q fun d7 S=>Q (.ret d7) S) (bin .eql 0 c6 (aI 7) S fun d8 S=>Fi d8 (Ah Pg 124 [x0,i] S Q fun d9 S=>Ah Pg 125 [d9,.nl] S Q fun e0 S=>Q (.ret e0) S) (bin .eql 0 c6 (aI 8) S fun e1 S=>Fi e1 (Ah Pg 119 [i,.nl] S Q fun e2 S=>Ah Pg 125 [i,.nl] S Q fun e3 S=>Ah Pg 124 [x0,e3] S Q fun e4 S=>Ah Pg 125 [e2,e4] S Q fun e5 S=>Q (.ret e5) S) (bin .eql 0 c6 (aI 9) S fun e6 S=>Fi e6 (Ah Pg 126 [x0,i] S Q fun e7 S=>Q (.ret e7) S) (bin .eql 0 c6 (aI 10) S fun e8 S=>Fi e8 (Ah Pg 124 [x0,i] S Q fun e9 S=>Ah Pg 126 [x0,e9] S Q fun f0 S=>Ah Pg 124 [x0,f0] S Q fun f1 S=>Q (.ret f1) S) (bin .eql 0 c6 (aI 11) S fun f2 S=>Fi f2 (AI x0 S fun f3 S=>shift f3 8 S fun f4 S=>Lf f4 1 S fun f5 S=>Ah Pg 127 [x0,f5,i] S Q fun f6 S=>Q (.ret f6) S) (bin .eql 0 c6 (aI 12) S fun f7 S=>Fi f7 (Ah Pg 124 [x0,i] S Q fun f8 S=>Ah Pg 128 [x0,f8] S Q fun f9 S=>Ah Pg 124 [x0,f9] S Q fun g0 S=>Q (.ret g0) S) (bin .eql 0 c6 (aI 13) S fun g1 S=>Fi g1 (Ah Pg 128 [x0,i] S Q fun g2 S=>Q (.ret g2) S) (bin .eql 0 c6 (aI 14) S fun g3 S=>Fi g3 (N5 x0 i Q S) (bin .eql 0 c6 (aI 15) S fun g4 S=>Fi g4 (Ah Pg 127 [x0,i,.nl] S Q fun g5 S=>Q (.ret g5) S) (bin .eql 0 c6 (aI 16) S fun g6 S=>Fi g6 (Ah Pg 124 [x0,.nl] S Q fun g7 S=>Ah Pg 125 [i,.nl] S Q fun g8 S=>Ah Pg 124 [x0,g8] S Q fun g9 S=>Ah Pg 127 [x0,g7,g9] S Q fun h0 S=>Ah Pg 124 [x0,.nl] S Q fun h1 S=>Ah Pg 128 [x0,h1] S Q fun h2 S=>Ah Pg 125 [h0,h2] S Q fun h3 S=>Ah Pg 124 [x0,h3] S Q fun h4 S=>Q (.ret h4) S) (bin .eql 0 c6 (aI 17) S fun h5 S=>Fi h5 (Ah Pg 128 [x0,.nl] S Q fun h6 S=>Ah Pg 119 [i,.nl] S Q fun h7 S=>Ah Pg 127 [x0,.nl,h7] S Q fun h8 S=>Ah Pg 125 [h6,h8] S Q fun h9 S=>Q (.ret h9) S) (bin .eql 0 c6 (aI 18) S fun i0 S=>Fi i0 (Ah Pg 124 [x0,i] S Q fun i1 S=>Ah Pg 124 [x0,.nl] S Q fun i2 S=>Ah Pg 127 [x0,i1,i2] S Q fun i3 S=>Ah Pg 124 [x0,i3] S Q fun i4 S=>Q (.ret i4) S) (Lj x0 a S Q))))))))))))))))))) (Lf a 3 S fun i5 S=>AF i5 S fun i6 S=>bin .gtr 0 i6 (aI 1) S fun i7 S=>Fi i7 (Lf a 3 S fun i8 S=>AS 32 4 i8 (aI 1) S fun i9 S=>AB 4 i9 S fun k0 S=>Ah Pg 86 [x0,k0] S Q fun k1 S=>Lf a 0 S fun k2 S=>bin .eql 0 k2 (aI 2) S fun k3 S=>Fi k3 (AI x0 S fun k4 S=>shift k4 8 S fun k5 S=>Lf k5 1 S fun k6 S=>Q (.ret k6) S) (bin .eql 0 k2 (aI 1) S fun k7 S=>Fi k7 (Li x0 S Q) (bin .eql 0 k2 (aI 4) S fun k8 S=>Fi k8 (Ah Pg 124 [x0,.nl] S Q fun k9 S=>Q (.ret k9) S) (bin .eql 0 k2 (aI 5) S fun l0 S=>Fi l0 (Ah Pg 119 [.nl,k1] S Q fun l1 S=>Q (.ret l1) S) (bin .eql 0 k2 (aI 6) S fun l2 S=>Fi l2 (Ah Pg 125 [.nl,k1] S Q fun l3 S=>Q (.ret l3) S) (bin .eql 0 k2 (aI 7) S fun l4 S=>Fi l4 (Ah Pg 124 [x0,.nl] S Q fun l5 S=>Ah Pg 125 [l5,k1] S Q fun l6 S=>Q (.ret l6) S) (bin .eql 0 k2 (aI 8) S fun l7 S=>Fi l7 (Ah Pg 119 [.nl,k1] S Q fun l8 S=>Ah Pg 125 [.nl,k1] S Q fun l9 S=>Ah Pg 124 [x0,l9] S Q fun aA S=>Ah Pg 125 [l8,aA] S Q fun aB S=>Q (.ret aB) S) (bin .eql 0 k2 (aI 9) S fun aC S=>Fi aC (Ah Pg 126 [x0,.nl] S Q fun aD S=>Q (.ret aD) S) (bin .eql 0 k2 (aI 10) S fun aE S=>Fi aE (N3 x0 S Q) (bin .eql 0 k2 (aI 11) S fun aF S=>Fi aF (N4 x0 S Q) (bin .eql 0 k2 (aI 12) S fun aG S=>Fi aG (N2 x0 S Q) (bin .eql 0 k2 (aI 13) S fun aH S=>Fi aH (Ah Pg 128 [x0,.nl] S Q fun aJ S=>Q (.ret aJ) S) (bin .eql 0 k2 (aI 14) S fun aK S=>Fi aK (N6 x0 Q S) (bin .eql 0 k2 (aI 15) S fun aL S=>Fi aL (Ah Pg 127 [x0,.nl,k1] S Q fun aM S=>Q (.ret aM) S) (bin .eql 0 k2 (aI 16) S fun aN S=>Fi aN (Ah Pg 124 [x0,k1] S Q fun aO S=>Ah Pg 125 [.nl,k1] S Q fun aP S=>Ah Pg 124 [x0,aP] S Q fun aQ S=>Ah Pg 127 [x0,aO,aQ] S Q fun aR S=>Ah Pg 124 [x0,k1] S Q fun aS S=>Ah Pg 128 [x0,aS] S Q fun aT S=>Ah Pg 125 [aR,aT] S Q fun aU S=>Ah Pg 124 [x0,aU] S Q fun aV S=>Q (.ret aV) S) (bin .eql 0 k2 (aI 17) S fun aW S=>Fi aW (Ah Pg 128 [x0,k1] S Q fun aX S=>Ah Pg 119 [.nl,k1] S Q fun aY S=>Ah Pg 127 [x0,k1,aY] S Q fun aZ S=>Ah Pg 125 [aX,aZ] S Q fun bA S=>Q (.ret bA) S) (bin .eql 0 k2 (aI 18) S fun bB S=>Fi bB (Ah Pg 124 [x0,.nl] S Q fun bC S=>Ah Pg 124 [x0,k1] S Q fun bD S=>Ah Pg 127 [x0,bC,bD] S Q fun bE S=>Ah Pg 124 [x0,bE] S Q fun bF S=>Q (.ret bF) S) (Lj x0 a S Q)))))))))))))))))) (Lf a 0 S fun bG S=>bin .eql 0 bG (aI 2) S fun bH S=>Fi bH (AI x0 S fun bI S=>shift bI 8 S fun bJ S=>Lf bJ 1 S fun bK S=>Q (.ret bK) S) (bin .eql 0 bG (aI 1) S fun bL S=>Fi bL (Li x0 S Q) (bin .eql 0 bG (aI 4) S fun bM S=>Fi bM (Ah Pg 124 [x0,.nl] S Q fun bN S=>Q (.ret bN) S) (bin .eql 0 bG (aI 5) S fun bO S=>Fi bO (Ah Pg 119 [.nl,.nl] S Q fun bP S=>Q (.ret bP) S) (bin .eql 0 bG (aI 6) S fun bQ S=>Fi bQ (Ah Pg 125 [.nl,.nl] S Q fun bR S=>Q (.ret bR) S) (bin .eql 0 bG (aI 7) S fun bS S=>Fi bS (Ah Pg 124 [x0,.nl] S Q fun bT S=>Ah Pg 125 [bT,.nl] S Q fun bU S=>Q (.ret bU) S) (bin .eql 0 bG (aI 8) S fun bV S=>Fi bV (Ah Pg 119 [.nl,.nl] S Q fun bW S=>Ah Pg 125 [.nl,.nl] S Q fun bX S=>Ah Pg 124 [x0,bX] S Q fun bY S=>Ah Pg 125 [bW,bY] S Q fun bZ S=>Q (.ret bZ) S) (bin .eql 0 bG (aI 9) S fun cA S=>Fi cA (Ah Pg 126 [x0,.nl] S Q fun cB S=>Q (.ret cB) S) (bin .eql 0 bG (aI 10) S fun cC S=>Fi cC (N3 x0 S Q) (bin .eql 0 bG (aI 11) S fun cD S=>Fi cD (N4 x0 S Q) (bin .eql 0 bG (aI 12) S fun cE S=>Fi cE (N2 x0 S Q) (bin .eql 0 bG (aI 13) S fun cF S=>Fi cF (Ah Pg 128 [x0,.nl] S Q fun cG S=>Q (.ret cG) S) (bin .eql 0 bG (aI 14) S fun cH S=>Fi cH (N6 x0 Q S) (bin .eql 0 bG (aI 15) S fun cI S=>Fi cI (Ah Pg 127 [x0,.nl,.nl] S Q fun cJ S=>Q (.ret cJ) S) (bin .eql 0 bG (aI 16) S fun cK S=>Fi cK (Ah Pg 124 [x0,.nl] S Q fun cL S=>Ah Pg 125 [.nl,.nl] S Q fun cM S=>Ah Pg 124 [x0,cM] S Q fun cN S=>Ah Pg 127 [x0,cL,cN] S Q fun cO S=>Ah Pg 124 [x0,.nl] S Q fun cP S=>Ah Pg 128 [x0,cP] S Q fun cQ S=>Ah Pg 125 [cO,cQ] S Q fun cR S=>Ah Pg 124 [x0,cR] S Q fun cS S=>Q (.ret cS) S) (bin .eql 0 bG (aI 17) S fun cT S=>Fi cT (Ah Pg 128 [x0,.nl] S Q fun cU S=>Ah Pg 119 [.nl,.nl] S Q fun cV S=>Ah Pg 127 [x0,.nl,cV] S Q fun cW S=>Ah Pg 125 [cU,cW] S Q fun cX S=>Q (.ret cX) S) (bin .eql 0 bG (aI 18) S fun cY S=>Fi cY (Ah Pg 124 [x0,.nl] S Q fun cZ S=>Ah Pg 124 [x0,.nl] S Q fun dA S=>Ah Pg 127 [x0,cZ,dA] S Q fun dB S=>Ah Pg 124 [x0,dB] S Q fun dC S=>Q (.ret dC) S) (Lj x0 a S Q)))))))))))))))))))
theorem L9{x0 x1:AV}{S:Aa}{Q:Aq}(h:m86 x0 x1 S Q):Ad Pg 86 [x0,x1] S Q:=
 Bj (n:=214) Yk Tryz.func86 (by kernel_rfl) (Eq.mpr (by kernel_rfl) h)
def tE(y0 y3 y7 y8:AV)(S:Aa)(KE0:By)(Q:Aq):Prop:=
 AI y0 S fun a S=>shift a 8 S fun c S=>Lf c 1 S fun d S=>AF d S fun e S=>bin .lss 0 y8 e S fun f S=>Fi f (Lt S (AI y0) fun g=>Lt S (shift g 8) fun h=>Lt S (shift h 1) fun i=>Lt S (Ay i) fun k=>Lt S (AS 4 1 k y8) fun l=>Lt S (Ay l) fun m=>Fi m (Lt S (AI y0) fun n=>Lt S (shift n 0) fun o=>Lt S (AB 8 o) fun p=>Lt S (shift y3 2) fun q=>Lt S (Ay q) fun r=>Lc S 27 [p,y8,r] fun s=>∃ t:AV,(∀ T:Aa,Am S T→s=t∧T=T)∧Lt S (AU 4 1 1 [.v (.bool false)] [(0,t)]) fun u=>Bo 4 1 1 y7 u S fun w S=>bin .add 0 y8 (aI 1) S fun x S=>KE0 214 (GP y0 y3 w x) S) (∃ y:AV,(∀ T:Aa,Am S T→(.v (.bool false))=y∧T=T)∧Lt S (AU 4 1 1 [.v (.bool false)] [(0,y)]) fun z=>Bo 4 1 1 y7 z S fun A S=>bin .add 0 y8 (aI 1) S fun B S=>KE0 214 (GP y0 y3 A B) S)) (Q (.ret y7) S)
theorem Zc{y0 y3:AV}{y70 y80:AV}{S:Aa}{Q:Aq}(I:AV→AV→Aa→Prop)(μ:AV→AV→Aa→Nat)(h0:I y70 y80 S)(hr:Dw (fun y7 y8=>GP y0 y3 y7 y8) 214 I μ fun y7 y8 S KE0=>tE y0 y3 y7 y8 S KE0 Q):
 Ap SM (vc Pg (c86.at_ [1,1,1,1,1,1,0,1,0,0]) (Yk.drop 1)) 214 (GP y0 y3 y70 y80) S (Ak 1 (Av (vc Pg (c86.at_ [1,1,1,1,1,1,1]) (Yk.drop 1)) (Ao Pg r86 Q))):=IB (E:=fun y7 y8=>GP y0 y3 y7 y8) 2 3 (fun _ _=>⟨rfl,rfl⟩) (fun _ _ _ _=>by kernel_rfl) h0 hr
def qK:Code:=(Tryz.f147.body).getD .skip
def AaV:List ResultVar:=Tryz.f147.results.toList
def EW(y0 y1 y5 y6:AV):List AV:=[y0,y1,y5,y6]
def Pm:List Nat:=[0,1,5,6]
def QZ:List (List Nat):=[Pm,[]]
def Ad9(x0 x1:AV)(S:Aa)(Q:Aq):Prop:=
 Ap Pm (vc Pg (qK.at_ [1,1,0,1,0,0]) (QZ.drop 1)) 28 (EW x0 x1 .nl (aI 0)) S (Ak 0 (Av (vc Pg (qK.at_ [1,1,1]) (QZ.drop 1)) (Ao Pg AaV Q)))
theorem cS{x0 x1:AV}{S:Aa}{Q:Aq}(h:Ad9 x0 x1 S Q):Ad Pg 147 [x0,x1] S Q:=
 Bj (n:=28) QZ Tryz.func147 (by kernel_rfl) (Eq.mpr (by kernel_rfl) h)
def fQ(y0 y1 y5 y6:AV)(S:Aa)(KE0:By)(Q:Aq):Prop:=
 AF y0 S fun a S=>bin .lss 0 y6 a S fun c S=>Fi c (AS 4 1 y0 y6 S fun d S=>Ay d S fun e S=>Fi e (AS 4 1 y1 y6 S fun f S=>Ay f S fun g S=>un .not g S fun h S=>AU 4 1 1 [.v (.bool false)] [(0,h)] S fun i S=>Bo 4 1 1 y5 i S fun k S=>bin .add 0 y6 (aI 1) S fun l S=>KE0 28 (EW y0 y1 k l) S) (AU 4 1 1 [.v (.bool false)] [(0,(.v (.bool false)))] S fun m S=>Bo 4 1 1 y5 m S fun n S=>bin .add 0 y6 (aI 1) S fun o S=>KE0 28 (EW y0 y1 n o) S)) (Q (.ret y5) S)
theorem Wl{y0 y1:AV}{y50 y60:AV}{S:Aa}{Q:Aq}(I:AV→AV→Aa→Prop)(μ:AV→AV→Aa→Nat)(h0:I y50 y60 S)(hr:Dw (fun y5 y6=>EW y0 y1 y5 y6) 28 I μ fun y5 y6 S KE0=>fQ y0 y1 y5 y6 S KE0 Q):
 Ap Pm (vc Pg (qK.at_ [1,1,0,1,0,0]) (QZ.drop 1)) 28 (EW y0 y1 y50 y60) S (Ak 0 (Av (vc Pg (qK.at_ [1,1,1]) (QZ.drop 1)) (Ao Pg AaV Q))):=IB (E:=fun y5 y6=>EW y0 y1 y5 y6) 2 3 (fun _ _=>⟨rfl,rfl⟩) (fun _ _ _ _=>by kernel_rfl) h0 hr
def AdS(x0 x1:AV)(S:Aa)(Q:Aq):Prop:=
 Ah Pg 146 [x0,x1] S Q fun a S=>Q (.ret a) S
theorem dM{x0 x1:AV}{S:Aa}{Q:Aq}(h:AdS x0 x1 S Q):Ad Pg 125 [x0,x1] S Q:=
 Bj (n:=8) [[]] Tryz.func125 (by kernel_rfl) (Eq.mpr (by kernel_rfl) h)
def AdT(x0 x1:AV)(S:Aa)(Q:Aq):Prop:=
 AI x0 S fun a S=>shift a 8 S fun c S=>Lf c 1 S fun d S=>Ah Pg 147 [d,x1] S Q fun e S=>Q (.ret e) S
theorem dN{x0 x1:AV}{S:Aa}{Q:Aq}(h:AdT x0 x1 S Q):Ad Pg 124 [x0,x1] S Q:=
 Bj (n:=12) [[]] Tryz.func124 (by kernel_rfl) (Eq.mpr (by kernel_rfl) h)
def AdP(x0 x1:AV)(S:Aa)(Q:Aq):Prop:=
 AI x0 S fun a S=>shift a 8 S fun c S=>AB 5 c S fun d S=>Ah Pg 85 [d,x1] S Q fun e S=>Q (.ret e) S
theorem dJ{x0 x1:AV}{S:Aa}{Q:Aq}(h:AdP x0 x1 S Q):Ad Pg 128 [x0,x1] S Q:=
 Bj (n:=11) [[]] Tryz.func128 (by kernel_rfl) (Eq.mpr (by kernel_rfl) h)
def AdR(x0 x1:AV)(S:Aa)(Q:Aq):Prop:=
 (fun S0:Aa=>Lq S0 (AI x0) fun q1=>Lq S0 (shift q1 8) fun q3=>Lq S0 (AB 5 q3) fun q5=>Lq S0 (AI x0) fun q7=>Lq S0 (shift q7 13) fun q9=>Lq S0 (Ay q9) fun q11=>Ld S0 119 [x1,q11] fun q13=>Ld S0 121 [q5,q13] fun q15=>Q (.ret q15) S) S
theorem dL{x0 x1:AV}{S:Aa}{Q:Aq}(h:AdR x0 x1 S Q):Ad Pg 126 [x0,x1] S Q:=
 Bj (n:=16) [[]] Tryz.func126 (by kernel_rfl) (Eq.mpr (by kernel_rfl) h)
def AdQ(x0 x1 x2:AV)(S:Aa)(Q:Aq):Prop:=
 (fun S0:Aa=>Lq S0 (AI x0) fun q1=>Lq S0 (shift q1 8) fun q3=>Lq S0 (AB 5 q3) fun q5=>Lq S0 (AI x0) fun q7=>Lq S0 (shift q7 13) fun q9=>Lq S0 (Ay q9) fun q11=>Ld S0 119 [x2,q11] fun q13=>Ld S0 122 [q5,x1,q13] fun q15=>Q (.ret q15) S) S
theorem dK{x0 x1 x2:AV}{S:Aa}{Q:Aq}(h:AdQ x0 x1 x2 S Q):Ad Pg 127 [x0,x1,x2] S Q:=
 Bj (n:=19) [[]] Tryz.func127 (by kernel_rfl) (Eq.mpr (by kernel_rfl) h)
def Ad0(x0 x1 x2 x3:AV)(S:Aa)(Q:Aq):Prop:=
 Az 164 1 x2 S fun a S=>Az 164 1 x3 S fun c S=>bin .eql 0 x1 (aI 5) S fun d S=>Fi d (Ay a S fun e S=>Ay c S fun g S=>Ah Pg 177 [x0,e,g] S Q fun h S=>Q (.ret h) S) (bin .eql 0 x1 (aI 6) S fun i S=>Fi i (Ay a S fun k S=>Ay c S fun l S=>Ah Pg 178 [x0,k,l] S Q fun m S=>Q (.ret m) S) (bin .eql 0 x1 (aI 7) S fun n S=>Fi n ((fun S0:Aa=>Lq S0 (Ay a) fun o=>Ld S0 154 [x0,o] fun p=>Lq S0 (Ay c) fun q=>Ld S0 178 [x0,p,q] fun r=>Q (.ret r) S) S) (bin .eql 0 x1 (aI 8) S fun s S=>Fi s (Ah Pg 151 [x0,(.f (.func 179) [] [a,c])] S Q fun t S=>Q (.ret t) S) (bin .eql 0 x1 (aI 15) S fun u S=>Fi u (Ay a S fun v S=>Ay c S fun w S=>Ah Pg 175 [x0,v,w] S Q fun x S=>Q (.ret x) S) (bin .eql 0 x1 (aI 17) S fun y S=>Fi y ((fun S0:Aa=>Lq S0 (Ay c) fun z=>Ld S0 176 [x0,z] fun A=>Lq S0 (Ay c) fun B=>Lq S0 (Ay a) fun C=>Lq S0 (Ay c) fun D=>Ld S0 177 [x0,C,D] fun E=>Ld S0 175 [x0,B,E] fun F=>Ld S0 178 [x0,A,F] fun G=>Q (.ret G) S) S) (bin .eql 0 x1 (aI 16) S fun H S=>Fi H (Ay c S fun I S=>Ah Pg 154 [x0,I] S Q fun J S=>Ay a S fun K S=>Ah Pg 154 [x0,K] S Q fun L S=>Ah Pg 177 [x0,L,J] S Q fun M S=>Ah Pg 175 [x0,J,M] S Q fun N S=>Ah Pg 176 [x0,J] S Q fun O S=>Ah Pg 178 [x0,N,O] S Q fun P S=>Ah Pg 154 [x0,P] S Q fun R S=>Q (.ret R) S) ((fun S0:Aa=>Lq S0 (Ay a) fun T=>Ld S0 154 [x0,T] fun U=>Lq S0 (Ay c) fun V=>Ld S0 154 [x0,V] fun W=>Ld S0 175 [x0,U,W] fun X=>Ld S0 154 [x0,X] fun Y=>Q (.ret Y) S) S)))))))
theorem cJ{x0 x1 x2 x3:AV}{S:Aa}{Q:Aq}(h:Ad0 x0 x1 x2 x3 S Q):Ad Pg 156 [x0,x1,x2,x3] S Q:=
 Bj (n:=87) [[]] Tryz.func156 (by kernel_rfl) (Eq.mpr (by kernel_rfl) h)
def AcE(x0 x1 x2:AV)(S:Aa)(Q:Aq):Prop:=
 (fun S0:Aa=>Lq S0 (Ay x1) fun q1=>Lq S0 (AS 4 1 q1 x0) fun q3=>Lq S0 (Ay q3) fun q5=>Lq S0 (Ay x2) fun q7=>Lq S0 (AS 4 1 q7 x0) fun q9=>Lq S0 (Ay q9) fun q11=>Lq S0 (bin .eql 1 q5 q11) fun q13=>Q (.ret q13) S) S
theorem bO{x0 x1 x2:AV}{S:Aa}{Q:Aq}(h:AcE x0 x1 x2 S Q):Ad Pg 179 [x0,x1,x2] S Q:=
 Bj (n:=14) [[]] Tryz.func179 (by kernel_rfl) (Eq.mpr (by kernel_rfl) h)
def AdM(x0 x1:AV)(S:Aa)(Q:Aq):Prop:=
 Az 161 1 x0 S fun a S=>Az 32 4 x1 S fun c S=>Lf c 0 S fun d S=>bin .eql 0 d (aI 3) S fun e S=>Fi e (Ay a S fun g S=>Ah Pg 151 [g,(.f (.func 152) [] [a,c])] S Q fun h S=>Q (.ret h) S) (bin .eql 0 d (aI 2) S fun i S=>Fi i (Ay a S fun k S=>AI k S fun l S=>shift l 8 S fun m S=>Lf m 1 S fun n S=>Q (.ret n) S) (bin .eql 0 d (aI 1) S fun o S=>Fi o ((fun S0:Aa=>Lq S0 (Ay a) fun p=>Lq S0 (Ay a) fun q=>Lq S0 (AI q) fun r=>Lq S0 (shift r 8) fun s=>Lq S0 (shift s 1) fun t=>Lq S0 (Ay t) fun u=>Ld S0 154 [p,u] fun v=>Q (.ret v) S) S) ((fun S0:Aa=>Lq S0 (Ay a) fun w=>Lq S0 (shift c 3) fun x=>Lq S0 (Ay x) fun y=>Lq S0 (AS 32 4 y (aI 0)) fun z=>Lq S0 (AB 4 z) fun A=>Ld S0 132 [w,A] fun B=>Lf c 3 S fun C S=>AF C S fun D S=>bin .eql 0 D (aI 1) S fun E S=>Fi E (Ay a S fun F S=>Lf c 0 S fun G S=>Ah Pg 155 [F,G,B] S Q fun H S=>Q (.ret H) S) ((fun S0:Aa=>Lq S0 (Ay a) fun I=>Lq S0 (shift c 0) fun J=>Lq S0 (Ay J) fun K=>Lq S0 (Ay a) fun L=>Lq S0 (shift c 3) fun M=>Lq S0 (Ay M) fun N=>Lq S0 (AS 32 4 N (aI 1)) fun O=>Lq S0 (AB 4 O) fun P=>Ld S0 132 [L,P] fun R=>Ld S0 156 [I,K,B,R] fun T=>Q (.ret T) S) S)) S)))
theorem dE{x0 x1:AV}{S:Aa}{Q:Aq}(h:AdM x0 x1 S Q):Ad Pg 132 [x0,x1] S Q:=
 Bj (n:=55) [[]] Tryz.func132 (by kernel_rfl) (Eq.mpr (by kernel_rfl) h)
def Ad4(x0 x1 x2:AV)(S:Aa)(Q:Aq):Prop:=
 (fun S0:Aa=>Lq S0 (Ay x1) fun q1=>Lq S0 (AI q1) fun q3=>Lq S0 (shift q3 0) fun q5=>Lq S0 (AB 8 q5) fun q7=>Lq S0 (shift x2 2) fun q9=>Lq S0 (Ay q9) fun q11=>Ld S0 153 [q7,x0,q11] fun q13=>Q (.ret q13) S) S
theorem cN{x0 x1 x2:AV}{S:Aa}{Q:Aq}(h:Ad4 x0 x1 x2 S Q):Ad Pg 152 [x0,x1,x2] S Q:=
 Bj (n:=13) [[]] Tryz.func152 (by kernel_rfl) (Eq.mpr (by kernel_rfl) h)
def m93(x0 x1 x2:AV)(S:Aa)(Q:Aq):Prop:=
 Az 29 8 x0 S fun a S=>Az 45 5 x1 S fun c S=>Az 32 4 x2 S fun d S=>Lt S (AB 8 a) fun e=>Lt S (AB 5 c) fun f=>Lt S (AB 5 c) fun g=>Lt S (shift c 1) fun h=>Lt S (Ay h) fun i=>Lc S 131 [g,i] fun k=>Lt S (CD [(0,8),(8,5),(13,1)] [aI 0,.nl,.nl,.nl,.nl,.nl,.nl,.nl,aI 0,.nl,.nl,.nl,.nl,.nl] [(0,e),(1,f),(2,k)]) fun l=>Az 163 14 l S fun m S=>AB 4 d S fun n S=>Ah Pg 132 [m,n] S Q fun o S=>Q (.ret o) S
theorem mX{x0 x1 x2:AV}{S:Aa}{Q:Aq}(h:m93 x0 x1 x2 S Q):Ad Pg 93 [x0,x1,x2] S Q:=
 Bj (n:=19) [[]] Tryz.func93 (by kernel_rfl) (Eq.mpr (by kernel_rfl) h)
def m48(x0 x1:AV)(S:Aa)(Q:Aq):Prop:=
 Az 29 8 x0 S fun c S=>Az 32 4 x1 S fun d S=>Az 45 5 (.a Xl) S fun e S=>AB 8 c S fun f S=>AB 4 d S fun g S=>Ah Pg 92 [f,g] S Q fun h S=>un .not h S fun i S=>Fi i (CD Ub Xl [] S fun k S=>A8 5 e k S fun l S=>AB 5 e S fun m _=>Q (.ret (.t [.nl,m,aI 1])) S) (AB 8 c S fun n S=>Ah Pg 30 [n] S Q fun o S=>AZ o 0 S fun p S=>AZ o 1 S fun q S=>Az 45 5 (.a Xl) S fun r S=>A8 5 r p S fun s S=>bin .neq 0 q (aI 0) S fun u S=>Fi u (Lt S (AB 5 r) fun v=>A8 5 e v S fun w S=>AB 5 e S fun x _=>Q (.ret (.t [.nl,x,q])) S) (Lt S (AB 8 c) fun y=>Lt S (AB 5 r) fun z=>Lt S (AB 4 d) fun A=>Lc S 93 [y,z,A] fun B=>Lt S (AB 5 r) fun C=>A8 5 e C S fun D S=>AB 5 e S fun E _=>Q (.ret (.t [B,E,aI 0])) S))
theorem oR{x0 x1:AV}{S:Aa}{Q:Aq}(h:m48 x0 x1 S Q):Ad Pg 48 [x0,x1] S Q:=
 Bj (n:=28) [[]] Tryz.func48 (by kernel_rfl) (Eq.mpr (by kernel_rfl) h)
def m29(x0 x1:AV)(S:Aa)(Q:Aq):Prop:=
 Az 29 8 x0 S fun c S=>Az 32 4 x1 S fun d S=>AB 8 c S fun e S=>AB 4 d S fun f S=>Ah Pg 48 [e,f] S Q fun g S=>AZ g 0 S fun h S=>AZ g 1 S fun i S=>AZ g 2 S fun k S=>Az 45 5 (.a Xl) S fun l S=>A8 5 l i S fun m S=>Q (.ret (.t [h,k])) S
theorem pJ{x0 x1:AV}{S:Aa}{Q:Aq}(h:m29 x0 x1 S Q):Ad Pg 29 [x0,x1] S Q:=
 Bj (n:=18) [[]] Tryz.func29 (by kernel_rfl) (Eq.mpr (by kernel_rfl) h)
def qI:Code:=(Tryz.f151.body).getD .skip
def AaT:List ResultVar:=Tryz.f151.results.toList
def F5(y1 y5 y19 y20 y21:AV):List AV:=[y1,y5,y19,y20,y21]
def Pj:List Nat:=[1,5,19,20,21]
def QX:List (List Nat):=[Pj,[]]
def Ad5(x0 x1:AV)(S:Aa)(Q:Aq):Prop:=
 AI x0 S fun a S=>shift a 8 S fun c S=>Lf c 1 S fun d S=>AF d S fun e S=>Ql 4 1 [.v (.bool false)] e e S fun f S=>AI x0 S fun g S=>shift g 8 S fun h S=>Lf h 1 S fun i S=>AF i S fun k S=>Ap Pj (vc Pg (qI.at_ [1,1,0,1,0,0]) (QX.drop 1)) 37 (F5 x1 f i k (aI 0)) S (Ak 0 (Av (vc Pg (qI.at_ [1,1,1]) (QX.drop 1)) (Ao Pg AaT Q)))
theorem cO{x0 x1:AV}{S:Aa}{Q:Aq}(h:Ad5 x0 x1 S Q):Ad Pg 151 [x0,x1] S Q:=
 Bj (n:=37) QX Tryz.func151 (by kernel_rfl) (Eq.mpr (by kernel_rfl) h)
def fI(y1 y5 y19 y20 y21:AV)(S:Aa)(KE0:By)(Q:Aq):Prop:=
 bin .lss 0 y21 y20 S fun a S=>Fi a (AS 4 1 y19 y21 S fun c S=>Ay c S fun d S=>Fi d (Bg Pg y1 [y21] S (fun e S=>AS 4 1 y5 y21 S fun f S=>A8 1 f e S fun g S=>bin .add 0 y21 (aI 1) S fun h S=>KE0 37 (F5 y1 y5 y19 y20 h) S) (fun u S=>Q (.pan u) S)) (AS 4 1 y5 y21 S fun i S=>A8 1 i (.v (.bool false)) S fun k S=>bin .add 0 y21 (aI 1) S fun l S=>KE0 37 (F5 y1 y5 y19 y20 l) S)) (Q (.ret y5) S)
theorem Wg{y1 y5 y19 y20:AV}{y210:AV}{S:Aa}{Q:Aq}(I:AV→Aa→Prop)(μ:AV→Aa→Nat)(h0:I y210 S)(hr:BS (fun y21=>F5 y1 y5 y19 y20 y21) 37 I μ fun y21 S KE0=>fI y1 y5 y19 y20 y21 S KE0 Q):
 Ap Pj (vc Pg (qI.at_ [1,1,0,1,0,0]) (QX.drop 1)) 37 (F5 y1 y5 y19 y20 y210) S (Ak 0 (Av (vc Pg (qI.at_ [1,1,1]) (QX.drop 1)) (Ao Pg AaT Q))):=DQ 4 (fun _=>rfl) (fun _ _ _=>by kernel_rfl) h0 hr
def Ad2(x0 x1:AV)(S:Aa)(Q:Aq):Prop:=
 Az 164 1 x1 S fun a S=>Ah Pg 151 [x0,(.f (.func 173) [] [a])] S Q fun c S=>Q (.ret c) S
theorem cL{x0 x1:AV}{S:Aa}{Q:Aq}(h:Ad2 x0 x1 S Q):Ad Pg 154 [x0,x1] S Q:=
 Bj (n:=8) [[]] Tryz.func154 (by kernel_rfl) (Eq.mpr (by kernel_rfl) h)
def AcK(x0 x1:AV)(S:Aa)(Q:Aq):Prop:=
 Ay x1 S fun a S=>AS 4 1 a x0 S fun c S=>Ay c S fun d S=>un .not d S fun e S=>Q (.ret e) S
theorem bV{x0 x1:AV}{S:Aa}{Q:Aq}(h:AcK x0 x1 S Q):Ad Pg 173 [x0,x1] S Q:=
 Bj (n:=9) [[]] Tryz.func173 (by kernel_rfl) (Eq.mpr (by kernel_rfl) h)
def AcG(x0 x1 x2:AV)(S:Aa)(Q:Aq):Prop:=
 Az 164 1 x1 S fun a S=>Az 164 1 x2 S fun c S=>Ah Pg 151 [x0,(.f (.func 190) [] [a,c])] S Q fun d S=>Q (.ret d) S
theorem bQ{x0 x1 x2:AV}{S:Aa}{Q:Aq}(h:AcG x0 x1 x2 S Q):Ad Pg 177 [x0,x1,x2] S Q:=
 Bj (n:=10) [[]] Tryz.func177 (by kernel_rfl) (Eq.mpr (by kernel_rfl) h)
def Ac6(x0 x1 x2:AV)(S:Aa)(Q:Aq):Prop:=
 Ay x1 S fun a S=>AS 4 1 a x0 S fun c S=>Ay c S fun d S=>Fi d (Ay x2 S fun e S=>AS 4 1 e x0 S fun f S=>Ay f S fun g S=>Q (.ret g) S) (Q (.ret (.v (.bool false))) S)
theorem bF{x0 x1 x2:AV}{S:Aa}{Q:Aq}(h:Ac6 x0 x1 x2 S Q):Ad Pg 190 [x0,x1,x2] S Q:=
 Bj (n:=15) [[]] Tryz.func190 (by kernel_rfl) (Eq.mpr (by kernel_rfl) h)
def AcF(x0 x1 x2:AV)(S:Aa)(Q:Aq):Prop:=
 Az 164 1 x1 S fun a S=>Az 164 1 x2 S fun c S=>Ah Pg 151 [x0,(.f (.func 191) [] [a,c])] S Q fun d S=>Q (.ret d) S
theorem bP{x0 x1 x2:AV}{S:Aa}{Q:Aq}(h:AcF x0 x1 x2 S Q):Ad Pg 178 [x0,x1,x2] S Q:=
 Bj (n:=10) [[]] Tryz.func178 (by kernel_rfl) (Eq.mpr (by kernel_rfl) h)
def Ac5(x0 x1 x2:AV)(S:Aa)(Q:Aq):Prop:=
 Ay x1 S fun a S=>AS 4 1 a x0 S fun c S=>Ay c S fun d S=>Fi d (Q (.ret (.v (.bool true))) S) (Ay x2 S fun e S=>AS 4 1 e x0 S fun f S=>Ay f S fun g S=>Q (.ret g) S)
theorem bE{x0 x1 x2:AV}{S:Aa}{Q:Aq}(h:Ac5 x0 x1 x2 S Q):Ad Pg 191 [x0,x1,x2] S Q:=
 Bj (n:=15) [[]] Tryz.func191 (by kernel_rfl) (Eq.mpr (by kernel_rfl) h)
def AcJ(x0 x1:AV)(S:Aa)(Q:Aq):Prop:=
 (fun S0:Aa=>Lq S0 (AI x0) fun q1=>Lq S0 (shift q1 8) fun q3=>Lq S0 (AB 5 q3) fun q5=>Lq S0 (AI x0) fun q7=>Lq S0 (shift q7 13) fun q9=>Lq S0 (Ay q9) fun q11=>Ld S0 177 [x0,x1,q11] fun q13=>Ld S0 189 [q5,q13] fun q15=>Q (.ret q15) S) S
theorem bU{x0 x1:AV}{S:Aa}{Q:Aq}(h:AcJ x0 x1 S Q):Ad Pg 174 [x0,x1] S Q:=
 Bj (n:=17) [[]] Tryz.func174 (by kernel_rfl) (Eq.mpr (by kernel_rfl) h)
def AcI(x0 x1 x2:AV)(S:Aa)(Q:Aq):Prop:=
 (fun S0:Aa=>Lq S0 (AI x0) fun q1=>Lq S0 (shift q1 8) fun q3=>Lq S0 (AB 5 q3) fun q5=>Lq S0 (AI x0) fun q7=>Lq S0 (shift q7 13) fun q9=>Lq S0 (Ay q9) fun q11=>Ld S0 177 [x0,x2,q11] fun q13=>Ld S0 143 [q5,x1,q13] fun q15=>Q (.ret q15) S) S
theorem bS{x0 x1 x2:AV}{S:Aa}{Q:Aq}(h:AcI x0 x1 x2 S Q):Ad Pg 175 [x0,x1,x2] S Q:=
 Bj (n:=20) [[]] Tryz.func175 (by kernel_rfl) (Eq.mpr (by kernel_rfl) h)
def AcH(x0 x1:AV)(S:Aa)(Q:Aq):Prop:=
 AI x0 S fun a S=>shift a 8 S fun c S=>AB 5 c S fun d S=>Ah Pg 131 [d,x1] S Q fun e S=>Q (.ret e) S
theorem bR{x0 x1:AV}{S:Aa}{Q:Aq}(h:AcH x0 x1 S Q):Ad Pg 176 [x0,x1] S Q:=
 Bj (n:=11) [[]] Tryz.func176 (by kernel_rfl) (Eq.mpr (by kernel_rfl) h)
def Ad1(x0 x1 x2:AV)(S:Aa)(Q:Aq):Prop:=
 bin .eql 0 x1 (aI 9) S fun a S=>Fi a (Ah Pg 174 [x0,x2] S Q fun c S=>Q (.ret c) S) (bin .eql 0 x1 (aI 10) S fun d S=>Fi d (Ah Pg 154 [x0,x2] S Q fun e S=>Ah Pg 174 [x0,e] S Q fun f S=>Ah Pg 154 [x0,f] S Q fun g S=>Q (.ret g) S) (bin .eql 0 x1 (aI 11) S fun h S=>Fi h (AI x0 S fun i S=>shift i 8 S fun k S=>Lf k 1 S fun l S=>Ah Pg 175 [x0,l,x2] S Q fun m S=>Q (.ret m) S) (bin .eql 0 x1 (aI 12) S fun n S=>Fi n (Ah Pg 154 [x0,x2] S Q fun o S=>Ah Pg 176 [x0,o] S Q fun p S=>Ah Pg 154 [x0,p] S Q fun q S=>Q (.ret q) S) (bin .eql 0 x1 (aI 13) S fun r S=>Fi r (Ah Pg 176 [x0,x2] S Q fun s S=>Q (.ret s) S) (bin .eql 0 x1 (aI 14) S fun t S=>Fi t ((fun S0:Aa=>Lq S0 (AI x0) fun u=>Lq S0 (shift u 8) fun v=>Lq S0 (shift v 1) fun w=>Lq S0 (Ay w) fun x=>Ld S0 154 [x0,x2] fun y=>Ld S0 175 [x0,x,y] fun z=>Ld S0 154 [x0,z] fun A=>Q (.ret A) S) S) (Ah Pg 154 [x0,x2] S Q fun B S=>Q (.ret B) S))))))
theorem cK{x0 x1 x2:AV}{S:Aa}{Q:Aq}(h:Ad1 x0 x1 x2 S Q):Ad Pg 155 [x0,x1,x2] S Q:=
 Bj (n:=63) [[]] Tryz.func155 (by kernel_rfl) (Eq.mpr (by kernel_rfl) h)
def qE:Code:=(Tryz.f172.body).getD .skip
def AaO:List ResultVar:=Tryz.f172.results.toList
def JT(y1 y5 y6 y22 y23:AV):List AV:=[y1,y5,y6,y22,y23]
def Pa:List Nat:=[1,5,6,22,23]
def QT:List (List Nat):=[Pa,[]]
def AcL(x0 x1:AV)(S:Aa)(Q:Aq):Prop:=
 Az 29 8 x0 S fun c S=>AB 8 c S fun d S=>Ah Pg 50 [d] S Q fun e S=>Az 61 2 (.a [aI 0,.nl]) S fun f S=>A8 2 f e S fun g S=>AB 8 c S fun h S=>Ah Pg 49 [h] S Q fun i S=>un .not i S fun k S=>Fi k (Q (.ret .nl) S) (Lf f 0 S fun l S=>bin .gtr 0 l (aI 60) S fun m S=>Fi m (Q (.ret .nl) S) (Lf f 0 S fun n S=>Ql 4 1 [.v (.bool false)] n n S fun o S=>AF o S fun p S=>Ap Pa (vc Pg (qE.at_ [1,1,1,1,0,1,0,0]) (QT.drop 1)) 38 (JT x1 f o p (aI 0)) S (Ak 0 (Av (vc Pg (qE.at_ [1,1,1,1,1]) (QT.drop 1)) (Ao Pg AaO Q)))))
theorem bW{x0 x1:AV}{S:Aa}{Q:Aq}(h:AcL x0 x1 S Q):Ad Pg 172 [x0,x1] S Q:=
 Bj (n:=38) QT Tryz.func172 (by kernel_rfl) (Eq.mpr (by kernel_rfl) h)
def eZ(y1 y5 y6 y22 y23:AV)(S:Aa)(KE0:By)(Q:Aq):Prop:=
 bin .lss 0 y23 y22 S fun a S=>Fi a (bin .shr 0 y1 y23 S fun c S=>bin .and 0 c (aI 1) S fun d S=>bin .eql 0 d (aI 1) S fun e S=>AS 4 1 y6 y23 S fun f S=>A8 1 f e S fun g S=>bin .add 0 y23 (aI 1) S fun h S=>KE0 38 (JT y1 y5 y6 y22 h) S) (AB 2 y5 S fun i S=>Ah Pg 51 [i,y6] S Q fun k S=>Q (.ret k) S)
theorem V7{y1 y5 y6 y22:AV}{y230:AV}{S:Aa}{Q:Aq}(I:AV→Aa→Prop)(μ:AV→Aa→Nat)(h0:I y230 S)(hr:BS (fun y23=>JT y1 y5 y6 y22 y23) 38 I μ fun y23 S KE0=>eZ y1 y5 y6 y22 y23 S KE0 Q):
 Ap Pa (vc Pg (qE.at_ [1,1,1,1,0,1,0,0]) (QT.drop 1)) 38 (JT y1 y5 y6 y22 y230) S (Ak 0 (Av (vc Pg (qE.at_ [1,1,1,1,1]) (QT.drop 1)) (Ao Pg AaO Q))):=DQ 4 (fun _=>rfl) (fun _ _ _=>by kernel_rfl) h0 hr
def AcM(x0 x1:AV)(S:Aa)(Q:Aq):Prop:=
 bin .geq 0 x1 (aI 0) S fun a S=>Fi a (bin .quo 0 x1 (aI 2) S fun c S=>AF x0 S fun d S=>bin .lss 0 c d S fun e S=>Fi e (bin .quo 0 x1 (aI 2) S fun f S=>AS 4 1 x0 f S fun g S=>Ay g S fun h S=>bin .and 0 x1 (aI 1) S fun i S=>bin .eql 0 i (aI 1) S fun k S=>bin .neq 1 h k S fun l S=>Q (.ret l) S) (Q (.ret (.v (.bool false))) S)) (Q (.ret (.v (.bool false))) S)
theorem bX{x0 x1:AV}{S:Aa}{Q:Aq}(h:AcM x0 x1 S Q):Ad Pg 171 [x0,x1] S Q:=
 Bj (n:=25) [[]] Tryz.func171 (by kernel_rfl) (Eq.mpr (by kernel_rfl) h)
def Ad3(x0 x1 x2:AV)(S:Aa)(Q:Aq):Prop:=
 Az 29 8 x0 S fun a S=>AB 8 a S fun c S=>Ah Pg 172 [c,x1] S Q fun d S=>Ah Pg 171 [d,x2] S Q fun e S=>Q (.ret e) S
theorem cM{x0 x1 x2:AV}{S:Aa}{Q:Aq}(h:Ad3 x0 x1 x2 S Q):Ad Pg 153 [x0,x1,x2] S Q:=
 Bj (n:=12) [[]] Tryz.func153 (by kernel_rfl) (Eq.mpr (by kernel_rfl) h)
def s8:Code:=(Tryz.f70.body).getD .skip
def r70:List ResultVar:=Tryz.f70.results.toList
def If(y1 y2 y5:AV):List AV:=[y1,y2,y5]
def MN:List Nat:=[1,2,5]
def OZ:List (List Nat):=[MN,[]]
abbrev O1(x1 v1:AV)(S:Aa)(Q:Aq):Prop:=Ap MN (vc Pg (s8.at_ [1,1,0,1,0,0]) (OZ.drop 1)) 53 (If x1 v1 (aI 0)) S (Ak 0 (Av (vc Pg (s8.at_ [1,1,1]) (OZ.drop 1)) (Ao Pg r70 Q)))
abbrev UO(S0:Aa)(v1:AV)(S:Aa)(Q:Aq)(x1:AV):Prop:=Lq S0 (shift v1 0) fun q13=>Lq S0 (Ay q13) fun q15=>Lq S0 (bin .neq 0 q15 (aI 3)) fun q17=>Fi q17 (Lq S0 (shift v1 2) fun q20=>Lq S0 (Ay q20) fun q22=>Lq S0 (bin .neq 0 q22 (aI 0)) fun q24=>∃ q26:AV,(q24=q26∧S=S0)∧∃ q27:AV,(q26=q27∧S=S0)∧Fi q27 (Q (.ret (.v (.bool false))) S) (O1 x1 v1 S Q)) (∃ q29:AV,((.v (.bool false))=q29∧S=S0)∧∃ q30:AV,(q29=q30∧S=S0)∧Fi q30 (Q (.ret (.v (.bool false))) S) (O1 x1 v1 S Q))
abbrev UN(S:Aa)(S0:Aa)(Q:Aq)(x1 v1:AV):Prop:=∃ q11:AV,((.v (.bool true))=q11∧S=S0)∧Fi q11 (Q (.ret (.v (.bool false))) S) (Ap MN (vc Pg (s8.at_ [1,1,0,1,0,0]) (OZ.drop 1)) 53 (If x1 v1 (aI 0)) S (Ak 0 (Av (vc Pg (s8.at_ [1,1,1]) (OZ.drop 1)) (Ao Pg r70 Q))))
abbrev YW(S0:Aa)(v1:AV)(S:Aa)(Q:Aq)(x1:AV):Prop:=Lq S0 (shift v1 2) fun q32=>Lq S0 (Ay q32) fun q34=>Lq S0 (bin .lss 0 q34 (aI 0)) fun q36=>∃ q38:AV,(q36=q38∧S=S0)∧Fi q38 (UN S S0 Q x1 v1) (UO S0 v1 S Q x1)
abbrev YV(S0:Aa)(v1:AV)(S:Aa)(Q:Aq)(x1:AV):Prop:=Lq S0 (shift v1 1) fun q61=>Lq S0 (Ay q61) fun q63=>Lq S0 (bin .neq 0 q63 (.v (.string { data:=#[] }))) fun q65=>∃ q67:AV,(q65=q67∧S=S0)∧Fi q67 (∃ q69:AV,((.v (.bool true))=q69∧S=S0)∧Fi q69 (UN S S0 Q x1 v1) (UO S0 v1 S Q x1)) (YW S0 v1 S Q x1)
abbrev YU(S:Aa)(S0:Aa)(Q:Aq)(x1 v1:AV):Prop:=∃ q7:AV,((.v (.bool true))=q7∧S=S0)∧Fi q7 (∃ q9:AV,((.v (.bool true))=q9∧S=S0)∧Fi q9 (UN S S0 Q x1 v1) (UO S0 v1 S Q x1)) (YW S0 v1 S Q x1)
def m70(x0 x1:AV)(S:Aa)(Q:Aq):Prop:=
 Az 32 4 x0 S fun a S=>(fun S0:Aa=>Lq S0 (bin .lss 0 x1 (aI 1)) fun c=>Fi c (∃ d:AV,((.v (.bool true))=d∧S=S0)∧Fi d (YU S S0 Q x1 a) (YV S0 a S Q x1)) (Lq S0 (shift a 0) fun e=>Lq S0 (Ay e) fun f=>Ld S0 20 [f] fun g=>Lq S0 (shift a 3) fun h=>Lq S0 (Ay h) fun i=>Lq S0 (AF i) fun k=>Lq S0 (bin .neq 0 g k) fun l=>∃ m:AV,(l=m∧S=S0)∧Fi m (YU S S0 Q x1 a) (YV S0 a S Q x1))) S
theorem nV{x0 x1:AV}{S:Aa}{Q:Aq}(h:m70 x0 x1 S Q):Ad Pg 70 [x0,x1] S Q:=
 Bj (n:=53) OZ Tryz.func70 (by kernel_rfl) (Eq.mpr (by kernel_rfl) h)
def tP(y1 y2 y5:AV)(S:Aa)(KE0:By)(Q:Aq):Prop:=
 Lf y2 3 S fun a S=>AF a S fun c S=>bin .lss 0 y5 c S fun d S=>Fi d (Lf y2 3 S fun e S=>AS 32 4 e y5 S fun f S=>AB 4 f S fun g S=>bin .sub 0 y1 (aI 1) S fun h S=>Ah Pg 70 [g,h] S Q fun i S=>un .not i S fun k S=>Fi k (Q (.ret (.v (.bool false))) S) (bin .add 0 y5 (aI 1) S fun l S=>KE0 53 (If y1 y2 l) S)) (Q (.ret (.v (.bool true))) S)
theorem Zn{y1 y2:AV}{y50:AV}{S:Aa}{Q:Aq}(I:AV→Aa→Prop)(μ:AV→Aa→Nat)(h0:I y50 S)(hr:BS (fun y5=>If y1 y2 y5) 53 I μ fun y5 S KE0=>tP y1 y2 y5 S KE0 Q):
 Ap MN (vc Pg (s8.at_ [1,1,0,1,0,0]) (OZ.drop 1)) 53 (If y1 y2 y50) S (Ak 0 (Av (vc Pg (s8.at_ [1,1,1]) (OZ.drop 1)) (Ao Pg r70 Q))):=DQ 2 (fun _=>rfl) (fun _ _ _=>by kernel_rfl) h0 hr
def AdO(x0 x1:AV)(S:Aa)(Q:Aq):Prop:=
 Az 32 4 x0 S fun a S=>Az 105 1 x1 S fun c S=>Lf a 0 S fun d S=>bin .neq 0 d (aI 3) S fun e S=>Fi e (Lf a 3 S fun g S=>Ah Pg 115 [g,(.f (.func 148) [] [c])] S Q fun h S=>un .not h S fun i S=>Q (.ret i) S) (Ay c S fun k S=>Lf a 2 S fun l S=>Bg Pg k [l] S (fun m S=>Fi m (Lf a 3 S fun n S=>Ah Pg 115 [n,(.f (.func 148) [] [c])] S Q fun o S=>un .not o S fun p S=>Q (.ret p) S) (Q (.ret (.v (.bool false))) S)) (fun u S=>Q (.pan u) S))
theorem dH{x0 x1:AV}{S:Aa}{Q:Aq}(h:AdO x0 x1 S Q):Ad Pg 129 [x0,x1] S Q:=
 Bj (n:=23) [[]] Tryz.func129 (by kernel_rfl) (Eq.mpr (by kernel_rfl) h)
def Ad8(x0 x1:AV)(S:Aa)(Q:Aq):Prop:=
 Az 32 4 x0 S fun a S=>AB 4 a S fun c S=>Ay x1 S fun d S=>Ah Pg 129 [c,d] S Q fun e S=>un .not e S fun f S=>Q (.ret f) S
theorem cR{x0 x1:AV}{S:Aa}{Q:Aq}(h:Ad8 x0 x1 S Q):Ad Pg 148 [x0,x1] S Q:=
 Bj (n:=8) [[]] Tryz.func148 (by kernel_rfl) (Eq.mpr (by kernel_rfl) h)
def m92(x0 x1:AV)(S:Aa)(Q:Aq):Prop:=
 Az 29 8 x0 S fun c S=>Az 32 4 x1 S fun d S=>AB 8 c S fun e S=>Ah Pg 50 [e] S Q fun g S=>Az 61 2 (.a [aI 0,.nl]) S fun h S=>A8 2 h g S fun i S=>AB 8 c S fun k S=>Ah Pg 49 [k] S Q fun l S=>Fi l (AB 4 d S fun m S=>Ah Pg 67 [m,aI 60] S Q fun n S=>Fi n (AB 4 d S fun o S=>Ah Pg 129 [o,(.f (.func 130) [] [h])] S Q fun p S=>Q (.ret p) S) (Q (.ret (.v (.bool false))) S)) (Q (.ret (.v (.bool false))) S)
theorem mY{x0 x1:AV}{S:Aa}{Q:Aq}(h:m92 x0 x1 S Q):Ad Pg 92 [x0,x1] S Q:=
 Bj (n:=19) [[]] Tryz.func92 (by kernel_rfl) (Eq.mpr (by kernel_rfl) h)
def AdN(x0 x1:AV)(S:Aa)(Q:Aq):Prop:=
 AB 2 x1 S fun a S=>Ah Pg 96 [a,x0] S Q fun c S=>Q (.ret c) S
theorem dG{x0 x1:AV}{S:Aa}{Q:Aq}(h:AdN x0 x1 S Q):Ad Pg 130 [x0,x1] S Q:=
 Bj (n:=7) [[]] Tryz.func130 (by kernel_rfl) (Eq.mpr (by kernel_rfl) h)
def zR:Code:=(Tryz.f71.body).getD .skip
def r71:List ResultVar:=Tryz.f71.results.toList
def JL(y2 y3 y5:AV):List AV:=[y2,y3,y5]
def O4:List Nat:=[2,3,5]
def SA:List (List Nat):=[O4,[]]
abbrev YT(v1 v2:AV)(S:Aa)(Q:Aq):Prop:=Ap O4 (vc Pg (zR.at_ [1,1,0,1,0,0]) (SA.drop 1)) 31 (JL v1 v2 (aI 0)) S (Ak 0 (Av (vc Pg (zR.at_ [1,1,1]) (SA.drop 1)) (Ao Pg r71 Q)))
def m71(x0 x1:AV)(S:Aa)(Q:Aq):Prop:=
 Az 61 2 x0 S fun a S=>Az 32 4 x1 S fun c S=>Lf c 0 S fun d S=>bin .eql 0 d (aI 3) S fun e S=>Fi e (AB 2 a S fun f S=>Lf c 2 S fun g S=>Ah Pg 43 [f,g] S Q fun h S=>un .not h S fun i S=>Fi i (Q (.ret (.v (.bool false))) S) (YT a c S Q)) (YT a c S Q)
theorem nU{x0 x1:AV}{S:Aa}{Q:Aq}(h:m71 x0 x1 S Q):Ad Pg 71 [x0,x1] S Q:=
 Bj (n:=31) SA Tryz.func71 (by kernel_rfl) (Eq.mpr (by kernel_rfl) h)
def tO(y2 y3 y5:AV)(S:Aa)(KE0:By)(Q:Aq):Prop:=
 Lf y3 3 S fun a S=>AF a S fun c S=>bin .lss 0 y5 c S fun d S=>Fi d ((fun S0:Aa=>Lq S0 (AB 2 y2) fun e=>Lq S0 (shift y3 3) fun f=>Lq S0 (Ay f) fun g=>Lq S0 (AS 32 4 g y5) fun h=>Lq S0 (AB 4 h) fun i=>Ld S0 71 [e,i] fun k=>Lq S0 (un .not k) fun l=>Fi l (Q (.ret (.v (.bool false))) S) (bin .add 0 y5 (aI 1) S fun m S=>KE0 31 (JL y2 y3 m) S)) S) (Q (.ret (.v (.bool true))) S)
theorem Zm{y2 y3:AV}{y50:AV}{S:Aa}{Q:Aq}(I:AV→Aa→Prop)(μ:AV→Aa→Nat)(h0:I y50 S)(hr:BS (fun y5=>JL y2 y3 y5) 31 I μ fun y5 S KE0=>tO y2 y3 y5 S KE0 Q):
 Ap O4 (vc Pg (zR.at_ [1,1,0,1,0,0]) (SA.drop 1)) 31 (JL y2 y3 y50) S (Ak 0 (Av (vc Pg (zR.at_ [1,1,1]) (SA.drop 1)) (Ao Pg r71 Q))):=DQ 2 (fun _=>rfl) (fun _ _ _=>by kernel_rfl) h0 hr
abbrev Y4(S0:Aa)(v1 v2:AV)(S:Aa)(Q:Aq):Prop:=Lq S0 (AB 8 v1) fun q14=>Ld S0 17 [q14] fun q16=>Lq S0 (AB 4 v2) fun q18=>Ld S0 71 [q16,q18] fun q20=>∃ q22:AV,(q20=q22∧S=S0)∧Q (.ret q22) S
def m33(x0 x1:AV)(S:Aa)(Q:Aq):Prop:=
 Az 29 8 x0 S fun a S=>Az 32 4 x1 S fun c S=>(fun S0:Aa=>Lq S0 (AB 8 a) fun d=>Ld S0 24 [d] fun e=>Fi e (Lq S0 (AB 4 c) fun f=>Ld S0 70 [f,aI 60] fun g=>∃ h:AV,(g=h∧S=S0)∧Fi h (Y4 S0 a c S Q) (∃ i:AV,((.v (.bool false))=i∧S=S0)∧Q (.ret i) S)) (∃ k:AV,((.v (.bool false))=k∧S=S0)∧Fi k (Y4 S0 a c S Q) (∃ l:AV,((.v (.bool false))=l∧S=S0)∧Q (.ret l) S))) S
theorem pG{x0 x1:AV}{S:Aa}{Q:Aq}(h:m33 x0 x1 S Q):Ad Pg 33 [x0,x1] S Q:=
 Bj (n:=17) [[]] Tryz.func33 (by kernel_rfl) (Eq.mpr (by kernel_rfl) h)
def Ae1(x0:AV)(S:Aa)(Q:Aq):Prop:=
 bin .lss 0 x0 (aI 1) S fun a S=>Fi a (Q (.ret (.v (.int .i64 (-1)))) S) (bin .gtr 0 x0 (aI 18) S fun c S=>Fi c (Q (.ret (.v (.int .i64 (-1)))) S) (bin .leq 0 x0 (aI 3) S fun d S=>Fi d (Q (.ret (aI 0)) S) (bin .eql 0 x0 (aI 4) S fun e S=>Fi e (Q (.ret (aI 1)) S) (bin .geq 0 x0 (aI 9) S fun f S=>Fi f (bin .leq 0 x0 (aI 14) S fun g S=>Fi g (Q (.ret (aI 1)) S) (Q (.ret (aI 2)) S)) (Q (.ret (aI 2)) S)))))
theorem dW{x0:AV}{S:Aa}{Q:Aq}(h:Ae1 x0 S Q):Ad Pg 114 [x0] S Q:=
 Bj (n:=24) [[]] Tryz.func114 (by kernel_rfl) (Eq.mpr (by kernel_rfl) h)
def m20(x0:AV)(S:Aa)(Q:Aq):Prop:=
 bin .lss 0 x0 (aI 1) S fun a S=>Fi a (Q (.ret (.v (.int .i64 (-1)))) S) (bin .gtr 0 x0 (aI 18) S fun c S=>Fi c (Q (.ret (.v (.int .i64 (-1)))) S) (bin .leq 0 x0 (aI 3) S fun d S=>Fi d (Q (.ret (aI 0)) S) (bin .eql 0 x0 (aI 4) S fun e S=>Fi e (Q (.ret (aI 1)) S) (bin .geq 0 x0 (aI 9) S fun f S=>Fi f (bin .leq 0 x0 (aI 14) S fun g S=>Fi g (Q (.ret (aI 1)) S) (Q (.ret (aI 2)) S)) (Q (.ret (aI 2)) S)))))
theorem pU{x0:AV}{S:Aa}{Q:Aq}(h:m20 x0 S Q):Ad Pg 20 [x0] S Q:=
 Bj (n:=24) [[]] Tryz.func20 (by kernel_rfl) (Eq.mpr (by kernel_rfl) h)
def qM:Code:=(Tryz.f145.body).getD .skip
def AaX:List ResultVar:=Tryz.f145.results.toList
def JW(y0 y1 y7 y8:AV):List AV:=[y0,y1,y7,y8]
def Po:List Nat:=[0,1,7,8]
def Q1:List (List Nat):=[Po,[]]
def AdB(x0 x1:AV)(S:Aa)(Q:Aq):Prop:=
 AF x0 S fun a S=>Ap Po (vc Pg (qM.at_ [1,0,1,0,0]) (Q1.drop 1)) 19 (JW x0 x1 a (aI 0)) S (Ak 0 (Av (vc Pg (qM.at_ [1,1]) (Q1.drop 1)) (Ao Pg AaX Q)))
theorem cU{x0 x1:AV}{S:Aa}{Q:Aq}(h:AdB x0 x1 S Q):Ad Pg 145 [x0,x1] S Q:=
 Bj (n:=19) Q1 Tryz.func145 (by kernel_rfl) (Eq.mpr (by kernel_rfl) h)
def fS(y0 y1 y7 y8:AV)(S:Aa)(KE0:By)(Q:Aq):Prop:=
 bin .lss 0 y8 y7 S fun a S=>Fi a (AS 32 4 y0 y8 S fun c S=>AB 4 c S fun d S=>Bg Pg y1 [d] S (fun e S=>Fi e (Q (.ret y8) S) (bin .add 0 y8 (aI 1) S fun f S=>KE0 19 (JW y0 y1 y7 f) S)) (fun u S=>Q (.pan u) S)) (Q (.ret (.v (.int .i64 (-1)))) S)
theorem Wn{y0 y1 y7:AV}{y80:AV}{S:Aa}{Q:Aq}(I:AV→Aa→Prop)(μ:AV→Aa→Nat)(h0:I y80 S)(hr:BS (fun y8=>JW y0 y1 y7 y8) 19 I μ fun y8 S KE0=>fS y0 y1 y7 y8 S KE0 Q):
 Ap Po (vc Pg (qM.at_ [1,0,1,0,0]) (Q1.drop 1)) 19 (JW y0 y1 y7 y80) S (Ak 0 (Av (vc Pg (qM.at_ [1,1]) (Q1.drop 1)) (Ao Pg AaX Q))):=DQ 3 (fun _=>rfl) (fun _ _ _=>by kernel_rfl) h0 hr
def Ae0(x0 x1:AV)(S:Aa)(Q:Aq):Prop:=
 Ah Pg 145 [x0,x1] S Q fun a S=>bin .geq 0 a (aI 0) S fun c S=>Q (.ret c) S
theorem dV{x0 x1:AV}{S:Aa}{Q:Aq}(h:Ae0 x0 x1 S Q):Ad Pg 115 [x0,x1] S Q:=
 Bj (n:=9) [[]] Tryz.func115 (by kernel_rfl) (Eq.mpr (by kernel_rfl) h)
def Ae2(x0 x1:AV)(S:Aa)(Q:Aq):Prop:=
 Az 32 4 x0 S fun a S=>AB 4 a S fun c S=>Ay x1 S fun d S=>bin .sub 0 d (aI 1) S fun e S=>Ah Pg 67 [c,e] S Q fun f S=>un .not f S fun g S=>Q (.ret g) S
theorem dX{x0 x1:AV}{S:Aa}{Q:Aq}(h:Ae2 x0 x1 S Q):Ad Pg 113 [x0,x1] S Q:=
 Bj (n:=9) [[]] Tryz.func113 (by kernel_rfl) (Eq.mpr (by kernel_rfl) h)
abbrev LJ(S0:Aa)(v1 v2:AV)(S:Aa)(Q:Aq):Prop:=Lq S0 (shift v1 3) fun q126=>Lq S0 (Ay q126) fun q128=>Ld S0 115 [q128,(.f (.func 113) [] [v2])] fun q130=>Lq S0 (un .not q130) fun q132=>∃ q134:AV,(q132=q134∧S=S0)∧Q (.ret q134) S
abbrev O2(S0:Aa)(v1:AV)(S:Aa)(v2:AV)(Q:Aq):Prop:=Lq S0 (shift v1 3) fun q110=>Lq S0 (Ay q110) fun q112=>Lq S0 (AF q112) fun q114=>Lq S0 (shift v1 0) fun q116=>Lq S0 (Ay q116) fun q118=>Ld S0 114 [q118] fun q120=>Lq S0 (bin .eql 0 q114 q120) fun q122=>∃ q124:AV,(q122=q124∧S=S0)∧Fi q124 (LJ S0 v1 v2 S Q) (∃ q135:AV,((.v (.bool false))=q135∧S=S0)∧Q (.ret q135) S)
abbrev Rl(S:Aa)(S0:Aa)(v1 v2:AV)(Q:Aq):Prop:=∃ q100:AV,((.v (.bool false))=q100∧S=S0)∧Fi q100 (Lq S0 (shift v1 1) fun q102=>Lq S0 (Ay q102) fun q104=>Lq S0 (bin .eql 0 q104 (.v (.string { data:=#[] }))) fun q106=>∃ q108:AV,(q106=q108∧S=S0)∧Fi q108 (O2 S0 v1 S v2 Q) (∃ q136:AV,((.v (.bool false))=q136∧S=S0)∧Fi q136 (LJ S0 v1 v2 S Q) (∃ q147:AV,((.v (.bool false))=q147∧S=S0)∧Q (.ret q147) S))) (∃ q148:AV,((.v (.bool false))=q148∧S=S0)∧Fi q148 (O2 S0 v1 S v2 Q) (∃ q176:AV,((.v (.bool false))=q176∧S=S0)∧Fi q176 (LJ S0 v1 v2 S Q) (∃ q187:AV,((.v (.bool false))=q187∧S=S0)∧Q (.ret q187) S)))
abbrev UQ(S0:Aa)(v1:AV)(S:Aa)(v2:AV)(Q:Aq):Prop:=Lq S0 (shift v1 3) fun q22=>Lq S0 (Ay q22) fun q24=>Lq S0 (AF q24) fun q26=>Lq S0 (shift v1 0) fun q28=>Lq S0 (Ay q28) fun q30=>Ld S0 114 [q30] fun q32=>Lq S0 (bin .eql 0 q26 q32) fun q34=>∃ q36:AV,(q34=q36∧S=S0)∧Fi q36 (Lq S0 (shift v1 3) fun q38=>Lq S0 (Ay q38) fun q40=>Ld S0 115 [q40,(.f (.func 113) [] [v2])] fun q42=>Lq S0 (un .not q42) fun q44=>∃ q46:AV,(q44=q46∧S=S0)∧Q (.ret q46) S) (∃ q47:AV,((.v (.bool false))=q47∧S=S0)∧Q (.ret q47) S)
abbrev UP(S:Aa)(S0:Aa)(v1 v2:AV)(Q:Aq):Prop:=∃ q48:AV,((.v (.bool false))=q48∧S=S0)∧Fi q48 (Lq S0 (shift v1 3) fun q50=>Lq S0 (Ay q50) fun q52=>Ld S0 115 [q52,(.f (.func 113) [] [v2])] fun q54=>Lq S0 (un .not q54) fun q56=>∃ q58:AV,(q56=q58∧S=S0)∧Q (.ret q58) S) (∃ q59:AV,((.v (.bool false))=q59∧S=S0)∧Q (.ret q59) S)
abbrev YY(S0:Aa)(v1:AV)(S:Aa)(v2:AV)(Q:Aq):Prop:=Lq S0 (shift v1 1) fun q14=>Lq S0 (Ay q14) fun q16=>Lq S0 (bin .eql 0 q16 (.v (.string { data:=#[] }))) fun q18=>∃ q20:AV,(q18=q20∧S=S0)∧Fi q20 (UQ S0 v1 S v2 Q) (UP S S0 v1 v2 Q)
def m67(x0 x1:AV)(S:Aa)(Q:Aq):Prop:=
 Az 32 4 x0 S fun a S=>Az 3 1 x1 S fun c S=>Lf a 2 S fun d S=>bin .eql 0 d (aI 0) S fun e S=>Fi e ((fun S0:Aa=>Lq S0 (Ay c) fun f=>Lq S0 (bin .gtr 0 f (aI 0)) fun g=>Fi g (∃ h:AV,((.v (.bool true))=h∧S=S0)∧Fi h (YY S0 a S c Q) (∃ i:AV,((.v (.bool false))=i∧S=S0)∧Fi i (UQ S0 a S c Q) (UP S S0 a c Q))) (Rl S S0 a c Q)) S) (Lf a 2 S fun k S=>bin .gtr 0 k (aI 0) S fun l S=>Fi l (Lf a 0 S fun m S=>bin .eql 0 m (aI 3) S fun n S=>(fun S0:Aa=>Lq S0 (Ay c) fun o=>Lq S0 (bin .gtr 0 o (aI 0)) fun p=>Fi p (∃ q:AV,(n=q∧S=S0)∧Fi q (YY S0 a S c Q) (∃ r:AV,((.v (.bool false))=r∧S=S0)∧Fi r (UQ S0 a S c Q) (UP S S0 a c Q))) (Rl S S0 a c Q)) S) ((fun S0:Aa=>Lq S0 (Ay c) fun s=>Lq S0 (bin .gtr 0 s (aI 0)) fun t=>Fi t (Rl S S0 a c Q) (Rl S S0 a c Q)) S))
theorem nY{x0 x1:AV}{S:Aa}{Q:Aq}(h:m67 x0 x1 S Q):Ad Pg 67 [x0,x1] S Q:=
 Bj (n:=47) [[]] Tryz.func67 (by kernel_rfl) (Eq.mpr (by kernel_rfl) h)
end
mutual
def Fo.C9 (s:Sp) (fr:List Bool) (at_:Int→List Bool):Fo→List Bool
 |.mk k _ l ks=>if k=2 then s.valid else if k=1 then A5 s s.valid else if k=3 then at_ l else
    match Fo.Si s fr at_ ks with
    |[p]=>QO s fr k p
    |p :: q :: _=>Qu s fr k p q
    |[]=>[]
def Fo.Si (s:Sp) (fr:List Bool) (at_:Int→List Bool):List Fo→List (List Bool)
 |[]=>[]
 |f :: fs=>Fo.C9 s fr at_ f :: Fo.Si s fr at_ fs
end
theorem EE{s:Sp}{fr:List Bool}{at_:Int→List Bool}{n:ByteArray}{l:Int}{ks:List Fo}:Fo.C9 s fr at_ (.mk 2 n l ks)=s.valid:=by rw[Fo.C9,if_pos rfl]
theorem DX{s:Sp}{fr:List Bool}{at_:Int→List Bool}{n:ByteArray}{l:Int}{ks:List Fo}:Fo.C9 s fr at_ (.mk 1 n l ks)=A5 s s.valid:=by rw[Fo.C9,if_neg (by decide),if_pos rfl]
theorem C8{s:Sp}{fr:List Bool}{at_:Int→List Bool}{n:ByteArray}{l:Int}{ks:List Fo}:Fo.C9 s fr at_ (.mk 3 n l ks)=at_ l:=by rw[Fo.C9,if_neg (by decide),if_neg (by decide),if_pos rfl]
theorem CI{s:Sp}{fr:List Bool}{at_:Int→List Bool}{k:Int}{n:ByteArray}{l:Int}{f:Fo}(hk:3<k):Fo.C9 s fr at_ (.mk k n l [f])=QO s fr k (f.C9 s fr at_):=by
 rw[Fo.C9,if_neg (by omega),if_neg (by omega),if_neg (by omega),Fo.Si,Fo.Si]
theorem CH{s:Sp}{fr:List Bool}{at_:Int→List Bool}{k:Int}{n:ByteArray}{l:Int}{f g:Fo}(hk:3<k):Fo.C9 s fr at_ (.mk k n l [f,g])=Qu s fr k (f.C9 s fr at_) (g.C9 s fr at_):=by
 rw[Fo.C9,if_neg (by omega),if_neg (by omega),if_neg (by omega),Fo.Si,Fo.Si,Fo.Si]
theorem Dt{k:Int}{n:ByteArray}{l:Int}{ks:List Fo}{d:Int}(h:Fo.BQ (.mk k n l ks) d=true):
    n=(⟨#[]⟩:ByteArray)∧0<d∧(((k=1∨k=2)∧ks = []∧l=0)∨(k=3∧ks = []∧0≤l)∨((k=4∨9≤k∧k≤14)∧l=0∧∃ f,ks = [f]∧f.BQ (d - 1)=true)∨((5≤k∧k≤8∨15≤k∧k≤18)∧l=0∧∃ f g,ks = [f,g]∧f.BQ (d - 1)=true∧g.BQ (d - 1)=true)):=by
 rw[Fo.CJ]at h
 simp only[AhO,decide_eq_true_eq,AhW]at h
 obtain⟨h1,h2,h3,h4,h5⟩:=h
 refine⟨h3,h1,?_⟩
 unfold CB at h4
 split at h4
 ·omega
 split at h4
 ·have:ks = []:=List.eq_nil_of_length_eq_zero (by omega)
  by_cases hk:k=3
  ·exact .inr (.inl ⟨hk,this,by omega⟩)
  ·exact .inl ⟨by omega,this,by omega⟩
 split at h4
 ·rename_i hk
  obtain⟨f,rfl⟩:=List.length_eq_one_iff.1 (show ks.length=1 by omega)
  exact .inr (.inr (.inl ⟨hk,by omega,f,rfl,h5 f (by simp)⟩))
 ·match ks,h4,h5 with
  |[f,g],_,h5=>exact .inr (.inr (.inr ⟨by omega,by omega,f,g,rfl,h5 f (by simp),h5 g (by simp)⟩))
  |[],h4,_=>simp at h4
  |[_],h4,_=>simp at h4
  |_ :: _ :: _ :: _,h4,_=>simp at h4;omega
theorem FI{s:Sp}{fr:List Bool}{at_:Int→List Bool}(ha:∀ l,In s (at_ l)):∀(f:Fo) (d:Int),f.BQ d=true→In s (f.C9 s fr at_):=by
 intro f
 induction f using Fo.ind with
 |h k n l ks ih =>
  intro d h
  obtain⟨_,_,h⟩:=Dt h
  rcases h with⟨hk|hk,rfl,_⟩|⟨rfl,rfl,_⟩|⟨hk,_,f,rfl,hf⟩|⟨hk,_,f,g,rfl,hf,hg⟩
  ·subst hk;rw[DX];exact Bp _ _
  ·subst hk;rw[EE];exact M4 _
  ·rw[C8];exact ha _
  ·rw[CI (by omega)];exact TE (ih f (by simp) _ hf) _
  ·rw[CH (by omega)];exact Z8 (ih f (by simp) _ hf) (ih g (by simp) _ hg) _
def CE (c:Ci) (s:Sp) (l:Int):List Bool:=Fw s fun i=>DM c i l
def A0 (c:Ci) (f:Fo):List Bool:=f.C9 (Au c) (DO (Au c) (Au c).valid) (CE c (Au c))
def BZ (c:Ci) (f:Fo):List Bool × Int:=if Ex c f=false then([],1)else if(BI c).2=0 then(A0 c f,0)else([],(BI c).2)
theorem OB{a b:ByteArray}{S0:Aa}{P:AV→Prop}:(∃ q,(bin .eql 0 (.v (.string a)) (.v (.string b)) S0 fun v S=>v=q∧S=S0)∧P q)=P (aB (decide (a=b))):=HU (op:=fun K=>bin .eql 0 (.v (.string a)) (.v (.string b)) S0 K) fun K=>RU _ _ _
theorem R7{a b:ByteArray}{S0:Aa}{P:AV→Prop}:(∃ q,(bin .neq 0 (.v (.string a)) (.v (.string b)) S0 fun v S=>v=q∧S=S0)∧P q)=P (aB (!decide (a=b))):=HU (op:=fun K=>bin .neq 0 (.v (.string a)) (.v (.string b)) S0 K) fun K=>RT _ _ _
theorem De{l:List Fo}{S0:Aa}{P:AV→Prop}:(∃ q,(AF (Du l) S0 fun v S=>v=q∧S=S0)∧P q)=P (aI l.length):=HU (op:=fun K=>AF (Du l) S0 K) fun K=>BJ _
theorem U0(k:Int){f:FuncId}{m:AV→Aa→(Bh→Aa→Prop)→Prop}(hm:∀(S:Aa) (Q:Bh→Aa→Prop),m (aI k) S Q→Ad Pg f [aI k] S Q)
    (hd:∀(S:Aa) (Q:Bh→Aa→Prop),m (aI k) S Q=(bin .lss 0 (aI k) (.v (.int .i64 1)) S fun v S=>KC v fun b=>gd b (Q (.ret (aI (-1))) S) (bin .gtr 0 (aI k) (.v (.int .i64 18)) S fun v S=>KC v fun b=>gd b (Q (.ret (aI (-1))) S) (bin .leq 0 (aI k) (.v (.int .i64 3)) S fun v S=>KC v fun b=>gd b (Q (.ret (aI 0)) S)
     (bin .eql 0 (aI k) (.v (.int .i64 4)) S fun v S=>KC v fun b=>gd b (Q (.ret (aI 1)) S) (bin .geq 0 (aI k) (.v (.int .i64 9)) S fun v S=>KC v fun b=>gd b (bin .leq 0 (aI k) (.v (.int .i64 14)) S fun v S=>KC v fun b=>gd b (Q (.ret (aI 1)) S) (Q (.ret (aI 2)) S)) (Q (.ret (aI 2)) S))))))):
    BF Pg f [aI k] (aI (CB k)):=by
 intro S
 refine hm S _ ?_
 rw[hd,As,Ag]
 unfold CB
 refine Al (fun h=>⟨by rw[if_pos (.inl (dT h))],rfl⟩) (fun h1=>?_)
 have h1:=dF h1
 rw[AO,Ag]
 refine Al (fun h=>⟨by rw[if_pos (.inr (dT h))],rfl⟩) (fun h2=>?_)
 have h2:=dF h2
 rw[if_neg (by omega),Di,Ag]
 refine Al (fun h=>⟨by rw[if_pos (dT h)],rfl⟩) (fun h3=>?_)
 have h3:=dF h3
 rw[if_neg h3,AA,Ag]
 refine Al (fun h=>⟨by rw[if_pos (.inl (dT h))],rfl⟩) (fun h4=>?_)
 have h4:=dF h4
 rw[BH,Ag]
 refine Al (fun h5=>?_) (fun h5=>?_)
 ·have h5:=dT h5
  rw[Di,Ag]
  refine Al (fun h=>⟨by rw[if_pos (.inr ⟨h5,dT h⟩)],rfl⟩) (fun h=>⟨by have:=dF h;rw[if_neg (by omega)],rfl⟩)
 ·have h5:=dF h5
  exact⟨by rw[if_neg (by omega)],rfl⟩
theorem yV(k:Int):BF Pg 114 [aI k] (aI (CB k)):=U0 k (m:=Ae1) (fun S Q h=>dW h) fun S Q=>rfl
theorem iN(k:Int):BF Pg 20 [aI k] (aI (CB k)):=U0 k (m:=m20) (fun S Q h=>pU h) fun S Q=>rfl
theorem Af8{l:List Fo}(hl:l.length≤9223372036854775807){g:Fo→Bool}{fn:FuncId}{fs cs:List AV}{S:Aa}
    (hf:∀ x,x∈l→AT Pg fn (fs ++ [x.av]++cs) S (aB (g x))):AT Pg 145 [Du l,.f (.func fn) fs cs] S (aI (idxOf (l.findIdx? g))):=by
 refine cU ?_
 unfold AdB
 rw[BJ]
 refine Wn (fun y S'=>S'=S∧∃ i:Nat,y=aI i∧i≤l.length∧∀ k (hk:k<l.length),k<i→g l[k]=false) (fun y _=>l.length - ((Aw y).getD 0).toNat) ⟨rfl,0,rfl,AhS _,fun k _ h=>absurd h (AhY _)⟩ ?_
 dsimp only[BS]
 rintro _ _ ⟨rfl,i,rfl,hi,hk⟩ KE hKE
 dsimp only[fS,Fi]
 rw[As,Ag]
 refine Al (fun h=>?_) (fun h=>?_)
 ·have hlt:i<l.length:=by simpa using h
  rw[Cg hlt,Ca (Fo.Aj _)]
  refine BL (hf _ (AhP hlt)) ?_
  rw[Ag]
  refine Al (fun hg=>⟨?_,rfl⟩) (fun hg=>?_)
  ·rw[JG hlt hg (fun k hk'=>hk k _ hk')];rfl
  ·rw[Ar (by omega) (by omega)]
   refine hKE _ _ ⟨rfl,i+1,rfl,hlt,fun k hk1 hk2=>?_⟩ ?_
   ·by_cases e:k=i
    ·subst e;exact hg
    ·exact hk k hk1 (by omega)
   ·simp[Aw];omega
 ·have hge:i=l.length:=by simp at h;omega
  subst hge
  rw[F1 (fun k hk'=>hk k hk' hk')]
  exact⟨rfl,rfl⟩
theorem u1{l:List Fo}(hl:l.length≤9223372036854775807){g:Fo→Bool}{fn:FuncId}{fs cs:List AV}{S:Aa}
    (hf:∀ x,x∈l→AT Pg fn (fs ++ [x.av]++cs) S (aB (g x))):AT Pg 115 [Du l,.f (.func fn) fs cs] S (aB (l.any g)):=by
 refine dV ?_
 unfold Ae0
 refine At (Af8 hl hf) ?_
 rw[BH,JD]
 exact⟨rfl,rfl⟩
theorem RV{l:List Fo}{g:Fo→Bool}:l.any (fun x=>!g x) = !l.all g:=by
 induction l with
 |nil=>rfl
 |cons a l ih=>rw[List.any_cons,AiX,ih,Bool.not_and]
theorem Fo.ok.inv{k:Int}{n:ByteArray}{l:Int}{ks:List Fo}(h:Fo.ok (.mk k n l ks)):Bv k∧Bv l∧n.size≤9223372036854775807∧ks.length≤1000000∧∀ f∈ks,Fo.ok f:=by
 cases h with
 |mk k n l ks h1 h2 h3 h4 h=>exact⟨h1,h2,h3,h4,h⟩
theorem AfC{S:Aa}{id t:Nat}{d:Int}{f:Fo}{b:Bool}(h:S.obj id=some (.cells t [[aI d]] true))(hid:id<S.n)(h0:0<d)(hd:Bv d)(hr:BF Pg 67 [f.av,aI (d - 1)] (aB b)):
    AT Pg 113 [f.av,.p id 0 0] S (aB (!b)):=by
 refine Ad.Bu (dX ?_)
 unfold Ae2 Fo.av
 refine Ai (Fo.Aj f) fun S1 k1 n1 o1=>?_
 rw[An (n:=4) o1 (Fo.Aj f),Ae ((k1.2 _ hid).trans h) rfl rfl,Bx (by have:=hd.2;omega) (by have:=hd.2;omega)]
 refine Af hr ?_
 rw[AJ]
 exact⟨rfl,k1⟩
theorem vE:∀(f:Fo),f.ok→∀ d,Bv d→BF Pg 67 [f.av,aI d] (aB (f.BQ d)):=by
 intro f
 induction f using Fo.ind with
 |h k n l ks ih =>
  intro hok d hd S
  obtain⟨h1,h2,h3,h4,h5⟩:=hok.inv
  refine Ad.Bu (nY ?_)
  dsimp only[m67,YY,UP,UQ,Rl,O2,LJ,Fi,Lf,Lq,Ld];unfold Fo.av
  rw[Fo.AD,Fo.CJ]
  refine Ai rfl fun S1 k1 n1 o1=>?_
  refine BN rfl fun S2 k2 n2 o2=>?_
  have p2:=(Kg k2 o1)
  have kk:=k1.trans k2
  have hcont:0<d→AT Pg 115 [Du ks,.f (.func 113) [] [.p S1.n 0 0]] S2 (aB (!ks.all fun f=>f.BQ (d - 1))):=fun h0=>by
   rw[←RV]
   exact u1 (by omega) fun x hx=>AfC o2 (by omega) h0 hd (ih x hx (h5 x hx) (d - 1) ⟨by have:=hd.2;omega,by have:=hd.2;omega⟩)
  rw[Ac,Ae p2 rfl rfl,AA,Ag]
  have hk:=yV k
  have fin:∀(b:Bool) (E:Bh),b=(decide (0<d) && (decide (l=0∨0<l∧k=3) && (decide (n=(⟨#[]⟩:ByteArray)) && (decide ((ks.length:Int)=CB k) && ks.all fun f=>f.BQ (d - 1)))))→E = .ret (aB b)→
      E = .ret (aB (decide (0<d) && (decide (l=0∨0<l∧k=3) && (decide (n=(⟨#[]⟩:ByteArray)) && (decide ((ks.length:Int)=CB k) && ks.all fun f=>f.BQ (d - 1))))))∧Am S S2:=fun b E h1 h2=>⟨by rw[←h1];exact h2,kk⟩
  refine Al (fun hl0=>?_) (fun hl0=>?_)
  ·have hlit:decide (l=0∨0<l∧k=3)=true:=decide_eq_true (.inl (dT hl0))
   show ∃ q:AV,_
   cases e1:decide (0<d)with
   |false =>
    (repeat (first|with_reducible_and_instances (first|refine WJ ?_|refine W (AW o2 (by with_unfolding_all rfl) (by with_unfolding_all rfl)) ?_|refine W (AW p2 (by with_unfolding_all rfl) (by with_unfolding_all rfl)) ?_|refine W (Bb e1) ?_|refine W (Be e1) ?_|refine W (AK e1) ?_|refine W (AQ e1) ?_|refine W (AN (by with_unfolding_all rfl)) ?_)))
    exact⟨by rw[AhV],kk⟩
   |true =>
    cases e2:decide (n=(⟨#[]⟩:ByteArray))with
    |false =>
     (repeat (first|with_reducible_and_instances (first|refine WJ ?_|refine W (AW o2 (by with_unfolding_all rfl) (by with_unfolding_all rfl)) ?_|refine W (AW p2 (by with_unfolding_all rfl) (by with_unfolding_all rfl)) ?_|refine W (OB) ?_|refine W (Bb e1) ?_|refine W (Be e1) ?_|refine W (AK e1) ?_|refine W (AQ e1) ?_|refine W (Bb e2) ?_|refine W (Be e2) ?_|refine W (AK e2) ?_|refine W (AQ e2) ?_|refine W (AN (by with_unfolding_all rfl)) ?_)))
     exact⟨by rw[AhQ,AhV,AiL],kk⟩
    |true =>
     cases e3:decide ((ks.length:Int)=CB k)with
     |false =>
      (repeat (first|with_reducible_and_instances (first|refine WJ ?_|refine W (AW o2 (by with_unfolding_all rfl) (by with_unfolding_all rfl)) ?_|refine W (AW p2 (by with_unfolding_all rfl) (by with_unfolding_all rfl)) ?_|refine W (OB) ?_|refine W (De) ?_|refine W (Bb e1) ?_|refine W (Be e1) ?_|refine W (AK e1) ?_|refine W (AQ e1) ?_|refine W (Bb e2) ?_|refine W (Be e2) ?_|refine W (AK e2) ?_|refine W (AQ e2) ?_|refine W (Bb e3) ?_|refine W (Be e3) ?_|refine W (AK e3) ?_|refine W (AQ e3) ?_|refine W (AN (by with_unfolding_all rfl)) ?_)|refine BE (hk) rfl rfl ?_|refine CT (hk) rfl rfl ?_))
      exact⟨by rw[AhQ,AhQ,AhV,AiL],kk⟩
     |true =>
      (repeat (first|with_reducible_and_instances (first|refine WJ ?_|refine W (AW o2 (by with_unfolding_all rfl) (by with_unfolding_all rfl)) ?_|refine W (AW p2 (by with_unfolding_all rfl) (by with_unfolding_all rfl)) ?_|refine W (OB) ?_|refine W (De) ?_|refine W (Bb e1) ?_|refine W (Be e1) ?_|refine W (AK e1) ?_|refine W (AQ e1) ?_|refine W (Bb e2) ?_|refine W (Be e2) ?_|refine W (AK e2) ?_|refine W (AQ e2) ?_|refine W (Bb e3) ?_|refine W (Be e3) ?_|refine W (AK e3) ?_|refine W (AQ e3) ?_|refine W (AN (by with_unfolding_all rfl)) ?_)|refine FK (hcont (dT e1)) rfl rfl ?_|refine NL (hcont (dT e1)) rfl rfl ?_|refine BE (hk) rfl rfl ?_|refine CT (hk) rfl rfl ?_))
      exact⟨by rw[hlit,AhQ,AhQ,AhQ,AhQ,Bool.not_not],kk⟩
  ·have hl0':=dF hl0
   rw[Ac,Ae p2 rfl rfl,AO,Ag]
   refine Al (fun hl1=>?_) (fun hl1=>?_)
   ·have hlit:decide (l=0∨0<l∧k=3)=decide (k=3):=decide_eq_decide.2 ⟨fun h=>by rcases h with h|h;exact absurd h hl0';exact h.2,fun h=>.inr ⟨dT hl1,h⟩⟩
    rw[Ac,Ae p2 rfl rfl,AA,hlit]
    show ∃ q:AV,_
    cases e1:decide (0<d)with
    |false =>
     (repeat (first|with_reducible_and_instances (first|refine WJ ?_|refine W (AW o2 (by with_unfolding_all rfl) (by with_unfolding_all rfl)) ?_|refine W (AW p2 (by with_unfolding_all rfl) (by with_unfolding_all rfl)) ?_|refine W (Bb e1) ?_|refine W (Be e1) ?_|refine W (AK e1) ?_|refine W (AQ e1) ?_|refine W (AN (by with_unfolding_all rfl)) ?_)))
     exact⟨by rw[AhV],kk⟩
    |true =>
     cases e4:decide (k=3)with
     |false =>
      (repeat (first|with_reducible_and_instances (first|refine WJ ?_|refine W (AW o2 (by with_unfolding_all rfl) (by with_unfolding_all rfl)) ?_|refine W (AW p2 (by with_unfolding_all rfl) (by with_unfolding_all rfl)) ?_|refine W (Bb e1) ?_|refine W (Be e1) ?_|refine W (AK e1) ?_|refine W (AQ e1) ?_|refine W (AN (by with_unfolding_all rfl)) ?_)))
      exact⟨by rw[AhV,AiL],kk⟩
     |true =>
      cases e2:decide (n=(⟨#[]⟩:ByteArray))with
      |false =>
       (repeat (first|with_reducible_and_instances (first|refine WJ ?_|refine W (AW o2 (by with_unfolding_all rfl) (by with_unfolding_all rfl)) ?_|refine W (AW p2 (by with_unfolding_all rfl) (by with_unfolding_all rfl)) ?_|refine W (OB) ?_|refine W (Bb e1) ?_|refine W (Be e1) ?_|refine W (AK e1) ?_|refine W (AQ e1) ?_|refine W (Bb e2) ?_|refine W (Be e2) ?_|refine W (AK e2) ?_|refine W (AQ e2) ?_|refine W (AN (by with_unfolding_all rfl)) ?_)))
       exact⟨by rw[AhQ,AhQ,AhV],kk⟩
      |true =>
       cases e3:decide ((ks.length:Int)=CB k)with
       |false =>
        (repeat (first|with_reducible_and_instances (first|refine WJ ?_|refine W (AW o2 (by with_unfolding_all rfl) (by with_unfolding_all rfl)) ?_|refine W (AW p2 (by with_unfolding_all rfl) (by with_unfolding_all rfl)) ?_|refine W (OB) ?_|refine W (De) ?_|refine W (Bb e1) ?_|refine W (Be e1) ?_|refine W (AK e1) ?_|refine W (AQ e1) ?_|refine W (Bb e2) ?_|refine W (Be e2) ?_|refine W (AK e2) ?_|refine W (AQ e2) ?_|refine W (Bb e3) ?_|refine W (Be e3) ?_|refine W (AK e3) ?_|refine W (AQ e3) ?_|refine W (AN (by with_unfolding_all rfl)) ?_)|refine BE (hk) rfl rfl ?_|refine CT (hk) rfl rfl ?_))
        exact⟨by rw[AhQ,AhQ,AhQ,AhV],kk⟩
       |true =>
        (repeat (first|with_reducible_and_instances (first|refine WJ ?_|refine W (AW o2 (by with_unfolding_all rfl) (by with_unfolding_all rfl)) ?_|refine W (AW p2 (by with_unfolding_all rfl) (by with_unfolding_all rfl)) ?_|refine W (OB) ?_|refine W (De) ?_|refine W (Bb e1) ?_|refine W (Be e1) ?_|refine W (AK e1) ?_|refine W (AQ e1) ?_|refine W (Bb e2) ?_|refine W (Be e2) ?_|refine W (AK e2) ?_|refine W (AQ e2) ?_|refine W (Bb e3) ?_|refine W (Be e3) ?_|refine W (AK e3) ?_|refine W (AQ e3) ?_|refine W (AN (by with_unfolding_all rfl)) ?_)|refine FK (hcont (dT e1)) rfl rfl ?_|refine NL (hcont (dT e1)) rfl rfl ?_|refine BE (hk) rfl rfl ?_|refine CT (hk) rfl rfl ?_))
        exact⟨by rw[AhQ,AhQ,AhQ,AhQ,Bool.not_not],kk⟩
   ·have hlit:decide (l=0∨0<l∧k=3)=false:=decide_eq_false fun h=>by rcases h with h|h;exact absurd h hl0';exact absurd h.1 (dF hl1)
    show ∃ q:AV,_
    rw[hlit]
    cases e1:decide (0<d)with
    |false =>
     (repeat (first|with_reducible_and_instances (first|refine WJ ?_|refine W (AW o2 (by with_unfolding_all rfl) (by with_unfolding_all rfl)) ?_|refine W (AW p2 (by with_unfolding_all rfl) (by with_unfolding_all rfl)) ?_|refine W (Bb e1) ?_|refine W (Be e1) ?_|refine W (AK e1) ?_|refine W (AQ e1) ?_|refine W (AN (by with_unfolding_all rfl)) ?_)))
     exact⟨by rw[AhV],kk⟩
    |true =>
     (repeat (first|with_reducible_and_instances (first|refine WJ ?_|refine W (AW o2 (by with_unfolding_all rfl) (by with_unfolding_all rfl)) ?_|refine W (AW p2 (by with_unfolding_all rfl) (by with_unfolding_all rfl)) ?_|refine W (Bb e1) ?_|refine W (Be e1) ?_|refine W (AK e1) ?_|refine W (AQ e1) ?_|refine W (AN (by with_unfolding_all rfl)) ?_)))
     exact⟨by rw[AhV,AiL],kk⟩
theorem lC(k:Int)(n:ByteArray)(l:Int)(ks:List Fo)(d:Int):Fo.BQ (.mk k n l ks) d=(decide (0<d∧CB k=ks.length∧n=(⟨#[]⟩:ByteArray)∧(l=0∨0<l∧k=3)) && ks.all fun f=>f.BQ (d - 1)):=by
 rw[Fo.CJ,←Bool.and_assoc,←Bool.and_assoc,←Bool.and_assoc]
 congr 1
 rw[←Bool.decide_and,←Bool.decide_and,←Bool.decide_and]
 exact decide_eq_decide.2 ⟨fun⟨⟨⟨h1,h2⟩,h3⟩,h4⟩=>⟨h1,h4.symm,h3,h2⟩,fun⟨h1,h4,h3,h2⟩=>⟨⟨⟨h1,h2⟩,h3⟩,h4.symm⟩⟩
theorem Qh{α:Type}{l:List α}{g:α→Bool}(h:∀ j (h:j<l.length),g l[j]=true):l.all g=true:=AhW.2 fun x hx=>by
 obtain⟨j,hj,rfl⟩:=AiI hx
 exact h j hj
theorem T7{α:Type}{l:List α}{g:α→Bool}{i:Nat}(hi:i<l.length)(h:g l[i]=false):l.all g=false:=AiN.2 ⟨_,AhP hi,by simp[h]⟩
theorem LK{α:Type}{l:List α}{p:α→Prop}{i:Nat}{hi:i<l.length}(hok:∀ j (h:j<l.length),j<i→p l[j])(h:p l[i]):∀ j (h:j<l.length),j<i+1→p l[j]:=fun j hj hj'=>by
 rcases AiB j i with h'|h'
 ·exact hok j hj h'
 ·have:j=i:=by omega
  subst this
  exact h
theorem vD:∀(f:Fo),f.ok→∀ d,Bv d→BF Pg 70 [f.av,aI d] (aB (f.BQ d)):=by
 intro f
 induction f using Fo.ind with
 |h k n l ks ih =>
  intro hok d hd S
  obtain⟨h1,h2,h3,h4,h5⟩:=hok.inv
  refine Ad.Bu (nV ?_)
  dsimp only[m70,YU,YV,YW,UN,UO,O1,Fi,Lq,Ld];unfold Fo.av
  rw[Fo.AD,lC]
  refine Ai rfl fun S1 k1 n1 o1=>?_
  have hk:=iN k
  have bad:∀{E:Bh},¬ (0<d∧CB k=ks.length∧n=(⟨#[]⟩:ByteArray)∧(l=0∨0<l∧k=3))→E = .ret (aB false)→E = .ret (aB (decide (0<d∧CB k=ks.length∧n=(⟨#[]⟩:ByteArray)∧(l=0∨0<l∧k=3)) && ks.all fun f=>f.BQ (d - 1)))∧Am S S1:=fun h1 h2=>⟨by rw[decide_eq_false h1,AhV];exact h2,k1⟩
  have main:0<d∧CB k=ks.length∧n=(⟨#[]⟩:ByteArray)∧(l=0∨0<l∧k=3)→Ap MN (vc Pg (s8.at_ [1,1,0,1,0,0]) (OZ.drop 1)) 53 (If (aI d) (.p S.n 0 0) (.v (.int .i64 0))) S1 (Ak 0 (Av (vc Pg (s8.at_ [1,1,1]) (OZ.drop 1)) (Ao Pg r70 fun r S'=>r = .ret (aB (decide (0<d∧CB k=ks.length∧n=(⟨#[]⟩:ByteArray)∧(l=0∨0<l∧k=3)) && ks.all fun f=>f.BQ (d - 1)))∧Am S S'))):=fun good=>by
   rw[decide_eq_true good,AhQ]
   refine Zn (fun y S'=>S'=S1∧∃ i:Nat,y=aI i∧i≤ks.length∧∀ j (h:j<ks.length),j<i→ks[j].BQ (d - 1)=true)
    (fun y _=>ks.length - ((Aw y).getD 0).toNat) ⟨rfl,0,rfl,AhS _,fun j _ hj=>(AhY _ hj).elim⟩ ?_
   dsimp only[BS]
   rintro _ S1 ⟨rfl,i,rfl,hi,hall⟩ KE hKE
   dsimp only[tP,Fi,Lf]
   rw[Ac,Ae o1 rfl rfl,BJ,As,Ag]
   refine Al (fun hlt=>?_) (fun hge=>?_)
   ·have hlt:i<ks.length:=by simpa using hlt
    have hm:=AhP hlt
    rw[Ac,Ae o1 rfl rfl,Cg hlt,Ca (Fo.Aj _),Bx (by have:=hd.2;omega) (by have:=hd.2;omega)]
    refine Af (ih _ hm (h5 _ hm) (d - 1) ⟨by have:=hd.2;omega,by have:=hd.2;omega⟩) ?_
    rw[AJ,Ag]
    refine Al (fun h=>⟨by rw[T7 hlt (by simpa using h)],k1⟩) (fun h=>?_)
    rw[Ar (by omega) (by omega)]
    exact hKE _ _ ⟨rfl,i+1,rfl,hlt,LK (p:=fun f=>f.BQ (d - 1)=true) (hi:=hlt) hall (by simpa using h)⟩ (by simp[Aw];omega)
   ·have hge:i=ks.length:=by simp at hge;omega
    subst hge
    exact⟨by rw[Qh fun j hj=>hall j hj hj],k1⟩
  show ∃ q:AV,_
  cases e1:decide (d<1)with
  |true =>
   (repeat (first|with_reducible_and_instances (first|refine WJ ?_|refine W (Bb e1) ?_|refine W (Be e1) ?_|refine W (AK e1) ?_|refine W (AQ e1) ?_|refine W (AN (by with_unfolding_all rfl)) ?_)))
   exact bad (fun h=>by have:=dT e1;omega) rfl
  |false =>
   cases e2:decide (CB k=ks.length)with
   |false =>
    (repeat (first|with_reducible_and_instances (first|refine WJ ?_|refine W (AW o1 (by with_unfolding_all rfl) (by with_unfolding_all rfl)) ?_|refine W (De) ?_|refine W (Bb e1) ?_|refine W (Be e1) ?_|refine W (AK e1) ?_|refine W (AQ e1) ?_|refine W (Bb e2) ?_|refine W (Be e2) ?_|refine W (AK e2) ?_|refine W (AQ e2) ?_|refine W (AN (by with_unfolding_all rfl)) ?_)|refine BE (hk) rfl rfl ?_|refine CT (hk) rfl rfl ?_))
    exact bad (fun h=>dF e2 h.2.1) rfl
   |true =>
    cases e3:decide (n=(⟨#[]⟩:ByteArray))with
    |false =>
     (repeat (first|with_reducible_and_instances (first|refine WJ ?_|refine W (AW o1 (by with_unfolding_all rfl) (by with_unfolding_all rfl)) ?_|refine W (De) ?_|refine W (R7) ?_|refine W (Bb e1) ?_|refine W (Be e1) ?_|refine W (AK e1) ?_|refine W (AQ e1) ?_|refine W (Bb e2) ?_|refine W (Be e2) ?_|refine W (AK e2) ?_|refine W (AQ e2) ?_|refine W (Bb e3) ?_|refine W (Be e3) ?_|refine W (AK e3) ?_|refine W (AQ e3) ?_|refine W (AN (by with_unfolding_all rfl)) ?_)|refine BE (hk) rfl rfl ?_|refine CT (hk) rfl rfl ?_))
     exact bad (fun h=>dF e3 h.2.2.1) rfl
    |true =>
     cases e4:decide (l<0)with
     |true =>
      (repeat (first|with_reducible_and_instances (first|refine WJ ?_|refine W (AW o1 (by with_unfolding_all rfl) (by with_unfolding_all rfl)) ?_|refine W (De) ?_|refine W (R7) ?_|refine W (Bb e1) ?_|refine W (Be e1) ?_|refine W (AK e1) ?_|refine W (AQ e1) ?_|refine W (Bb e2) ?_|refine W (Be e2) ?_|refine W (AK e2) ?_|refine W (AQ e2) ?_|refine W (Bb e3) ?_|refine W (Be e3) ?_|refine W (AK e3) ?_|refine W (AQ e3) ?_|refine W (Bb e4) ?_|refine W (Be e4) ?_|refine W (AK e4) ?_|refine W (AQ e4) ?_|refine W (AN (by with_unfolding_all rfl)) ?_)|refine BE (hk) rfl rfl ?_|refine CT (hk) rfl rfl ?_))
      exact bad (fun h=>by have:=dT e4;have:=h.2.2.2;omega) rfl
     |false =>
      have e1':=dF e1
      have e2':=dT e2
      have e3':=dT e3
      have e4':=dF e4
      cases e5:decide (k=3)with
      |true =>
       (repeat (first|with_reducible_and_instances (first|refine WJ ?_|refine W (AW o1 (by with_unfolding_all rfl) (by with_unfolding_all rfl)) ?_|refine W (De) ?_|refine W (R7) ?_|refine W (Bb e1) ?_|refine W (Be e1) ?_|refine W (AK e1) ?_|refine W (AQ e1) ?_|refine W (Bb e2) ?_|refine W (Be e2) ?_|refine W (AK e2) ?_|refine W (AQ e2) ?_|refine W (Bb e3) ?_|refine W (Be e3) ?_|refine W (AK e3) ?_|refine W (AQ e3) ?_|refine W (Bb e4) ?_|refine W (Be e4) ?_|refine W (AK e4) ?_|refine W (AQ e4) ?_|refine W (Bb e5) ?_|refine W (Be e5) ?_|refine W (AK e5) ?_|refine W (AQ e5) ?_|refine W (AN (by with_unfolding_all rfl)) ?_)|refine BE (hk) rfl rfl ?_|refine CT (hk) rfl rfl ?_))
       have e5':=dT e5
       exact main ⟨by omega,e2',e3',by omega⟩
      |false =>
       have e5':=dF e5
       cases e6:decide (l=0)with
       |true =>
        (repeat (first|with_reducible_and_instances (first|refine WJ ?_|refine W (AW o1 (by with_unfolding_all rfl) (by with_unfolding_all rfl)) ?_|refine W (De) ?_|refine W (R7) ?_|refine W (Bb e1) ?_|refine W (Be e1) ?_|refine W (AK e1) ?_|refine W (AQ e1) ?_|refine W (Bb e2) ?_|refine W (Be e2) ?_|refine W (AK e2) ?_|refine W (AQ e2) ?_|refine W (Bb e3) ?_|refine W (Be e3) ?_|refine W (AK e3) ?_|refine W (AQ e3) ?_|refine W (Bb e4) ?_|refine W (Be e4) ?_|refine W (AK e4) ?_|refine W (AQ e4) ?_|refine W (Bb e5) ?_|refine W (Be e5) ?_|refine W (AK e5) ?_|refine W (AQ e5) ?_|refine W (Bb e6) ?_|refine W (Be e6) ?_|refine W (AK e6) ?_|refine W (AQ e6) ?_|refine W (AN (by with_unfolding_all rfl)) ?_)|refine BE (hk) rfl rfl ?_|refine CT (hk) rfl rfl ?_))
        exact main ⟨by omega,e2',e3',.inl (dT e6)⟩
       |false =>
        (repeat (first|with_reducible_and_instances (first|refine WJ ?_|refine W (AW o1 (by with_unfolding_all rfl) (by with_unfolding_all rfl)) ?_|refine W (De) ?_|refine W (R7) ?_|refine W (Bb e1) ?_|refine W (Be e1) ?_|refine W (AK e1) ?_|refine W (AQ e1) ?_|refine W (Bb e2) ?_|refine W (Be e2) ?_|refine W (AK e2) ?_|refine W (AQ e2) ?_|refine W (Bb e3) ?_|refine W (Be e3) ?_|refine W (AK e3) ?_|refine W (AQ e3) ?_|refine W (Bb e4) ?_|refine W (Be e4) ?_|refine W (AK e4) ?_|refine W (AQ e4) ?_|refine W (Bb e5) ?_|refine W (Be e5) ?_|refine W (AK e5) ?_|refine W (AQ e5) ?_|refine W (Bb e6) ?_|refine W (Be e6) ?_|refine W (AK e6) ?_|refine W (AQ e6) ?_|refine W (AN (by with_unfolding_all rfl)) ?_)|refine BE (hk) rfl rfl ?_|refine CT (hk) rfl rfl ?_))
        exact bad (fun h=>by have:=dF e6;have:=h.2.2.2;omega) rfl
def AgK(g:Gr)(S:Aa)(fn:FuncId)(cs:List AV):Prop:=∀ T,Am S T→∀ l,Bv l→AT Pg fn ([] ++ [aI l]++cs) T (aB (g.lit l))
theorem AfB{g:Gr}:∀(f:Fo),f.ok→∀{S:Aa} {fn:FuncId} {cs:List AV},AgK g S fn cs→AT Pg 129 [f.av,.f (.func fn) [] cs] S (aB (f.DD g)):=by
 intro f
 induction f using Fo.ind with
 |h k n l ks ih =>
  intro hok S fn cs hfn
  obtain⟨h1,h2,h3,h4,h5⟩:=hok.inv
  refine Ad.Bu (dH ?_)
  dsimp only[AdO,Fi,Lf];unfold Fo.av
  rw[Fo.AD,Fo.MY]
  refine Ai rfl fun S1 k1 n1 o1=>?_
  refine BN rfl fun S2 k2 n2 o2=>?_
  have p2:=(Kg k2 o1)
  have kk:=k1.trans k2
  have hkid:∀ x∈ks,AT Pg 148 ([] ++ [x.av] ++ [.p S1.n 0 0]) S2 (aB (!x.DD g)):=fun x hx=>by
   refine Ad.Bu (cR ?_)
   unfold Ad8 Fo.av
   refine Ai (Fo.Aj x) fun S3 k3 n3 o3=>?_
   rw[An (n:=4) o3 (Fo.Aj x),Ae (Kg k3 o2) rfl rfl]
   refine At (ih x hx (h5 x hx) (S:=S3) (fn:=fn) (cs:=cs) fun T hT=>hfn T ((kk.trans k3).trans hT)) ?_
   rw[AJ]
   exact⟨rfl,k3⟩
  have hcont:=u1 (l:=ks) (by omega) hkid
  rw[RV]at hcont
  rw[Ac,Ae p2 rfl rfl,Bl,Ag]
  refine Al (fun h=>?_) (fun h=>?_)
  ·rw[Ac,Ae p2 rfl rfl]
   refine At hcont ?_
   rw[AJ,Bool.not_not]
   have:(decide (k≠3) || g.lit l)=true:=by simp at h;simp[h]
   exact⟨by rw[this,AhQ],kk⟩
  ·have hk3:decide (k≠3)=false:=by simp at h;simp[h]
   rw[hk3,Bool.false_or,Ae o2 rfl rfl,Ac,Ae p2 rfl rfl]
   refine BL (hfn S2 kk l h2) ?_
   rw[Ag]
   refine Al (fun hg=>?_) (fun hg=>⟨by rw[hg,AhV],kk⟩)
   rw[Ac,Ae p2 rfl rfl]
   refine At hcont ?_
   rw[AJ,Bool.not_not]
   exact⟨by rw[hg,AhQ],kk⟩
theorem AfH{c:Ci}(hc:c.ok){f:Fo}(hf:f.ok):BF Pg 92 [c.av,f.av] (aB (Ex c f)):=by
 intro S
 refine Ad.Bu (mY ?_)
 dsimp only[m92,Fi];unfold Ex
 refine Ai rfl fun S1 k1 n1 o1=>?_
 refine Ai (Fo.Aj f) fun S2 k2 n2 o2=>?_
 have p2:=(Kg k2 o1)
 rw[An (n:=8) p2 rfl]
 refine Af (Vq c) ?_
 refine Ai rfl fun S3 k3 n3 o3=>?_
 refine AG (cs':=c.gr.cells) o3 rfl rfl fun S4 n4 o4 f4=>?_
 have k4:=k3.st (AhN _) n4 f4
 have kk:=(k1.trans k2).trans k4
 rw[An (n:=8) (Kg k4 p2) rfl]
 refine Af (iJ hc) ?_
 rw[Ag]
 refine Al (fun h=>?_) (fun h=>⟨by rw[h,AhV],kk⟩)
 rw[h,AhQ,An (n:=4) (Kg k4 o2) (Fo.Aj f)]
 refine Af (vE f hf 60 ⟨by decide,by decide⟩) ?_
 rw[Ag]
 refine Al (fun h=>?_) (fun h=>⟨by rw[h,AhV],kk⟩)
 rw[h,AhQ,An (n:=4) (Kg k4 o2) (Fo.Aj f)]
 refine At (AfB (g:=c.gr) f hf fun T hT l hl=>?_) ⟨rfl,kk⟩
 refine dG ?_
 unfold AdN
 rw[An (n:=2) (Kg hT o4) rfl]
 exact Af (u6 hc.gr hl) ⟨rfl,rfl⟩
theorem AfN{g:Gr}(hg:g.ok):∀(f:Fo),f.ok→BF Pg 71 [g.av,f.av] (aB (f.DD g)):=by
 intro f
 induction f using Fo.ind with
 |h k n l ks ih =>
  intro hok S
  obtain⟨h1,h2,h3,h4,h5⟩:=hok.inv
  refine Ad.Bu (nU ?_)
  dsimp only[m71,YT,Fi,Lf];unfold Fo.av
  rw[Fo.AD,Fo.MY]
  refine Ai rfl fun S1 k1 n1 o1=>?_
  refine Ai rfl fun S2 k2 n2 o2=>?_
  have p2:=(Kg k2 o1)
  have kk:=k1.trans k2
  have main:(decide (k≠3) || g.lit l)=true→Ap O4 (vc Pg (zR.at_ [1,1,0,1,0,0]) (SA.drop 1)) 31 (JL (.p S.n 0 0) (.p S1.n 0 0) (.v (.int .i64 0))) S2 (Ak 0 (Av (vc Pg (zR.at_ [1,1,1]) (SA.drop 1)) (Ao Pg r71 fun r S'=>r = .ret (aB ((decide (k≠3) || g.lit l) && ks.all fun f=>f.DD g))∧Am S S'))):=fun good=>by
   rw[good,AhQ]
   refine Zm (fun y S'=>S'=S2∧∃ i:Nat,y=aI i∧i≤ks.length∧∀ j (h:j<ks.length),j<i→ks[j].DD g=true)
    (fun y _=>ks.length - ((Aw y).getD 0).toNat) ⟨rfl,0,rfl,AhS _,fun j _ hj=>(AhY _ hj).elim⟩ ?_
   dsimp only[BS]
   rintro _ S2 ⟨rfl,i,rfl,hi,hall⟩ KE hKE
   dsimp only[tO,Fi,Lf,Lq,Ld]
   rw[Ac,Ae o2 rfl rfl,BJ,As,Ag]
   refine Al (fun hlt=>?_) (fun hge=>?_)
   ·have hlt:i<ks.length:=by simpa using hlt
    have hm:=AhP hlt
    show ∃ q:AV,_
    refine⟨_,by rw[An (n:=2) p2 rfl];exact⟨rfl,rfl⟩,?_⟩
    refine⟨_,by rw[Ac];exact⟨rfl,rfl⟩,?_⟩
    refine⟨_,by rw[Ae o2 rfl rfl];exact⟨rfl,rfl⟩,?_⟩
    refine⟨_,by rw[Cg hlt];exact⟨rfl,rfl⟩,?_⟩
    refine⟨_,by rw[Ca (Fo.Aj _)];exact⟨rfl,rfl⟩,?_⟩
    refine⟨_,Af (ih _ hm (h5 _ hm)) ⟨rfl,rfl⟩,?_⟩
    refine⟨_,by rw[AJ];exact⟨rfl,rfl⟩,?_⟩
    rw[Ag]
    refine Al (fun h=>⟨by rw[T7 hlt (by simpa using h)],kk⟩) (fun h=>?_)
    rw[Ar (by omega) (by omega)]
    exact hKE _ _ ⟨rfl,i+1,rfl,hlt,LK (p:=fun f=>f.DD g=true) (hi:=hlt) hall (by simpa using h)⟩ (by simp[Aw];omega)
   ·have hge:i=ks.length:=by simp at hge;omega
    subst hge
    exact⟨by rw[Qh fun j hj=>hall j hj hj],kk⟩
  rw[Ac,Ae o2 rfl rfl,AA,Ag]
  refine Al (fun h=>?_) (fun h=>main (by simp at h;simp[h]))
  have hk3:decide (k≠3)=false:=by simp at h;simp[h]
  rw[An (n:=2) p2 rfl,Ac,Ae o2 rfl rfl]
  refine Af (Ov hg h2) ?_
  rw[AJ,Ag]
  refine Al (fun hl=>⟨by rw[hk3,Bool.false_or,show g.lit l=false by simpa using hl,AhV],kk⟩) (fun hl=>main (by rw[hk3,Bool.false_or];simpa using hl))
theorem vG{c:Ci}(hc:c.ok){f:Fo}(hf:f.ok):BF Pg 33 [c.av,f.av] (aB (Ex c f)):=by
 intro S
 refine Ad.Bu (pG ?_)
 dsimp only[m33,Y4,Fi,Lq,Ld];unfold Ex
 refine Ai rfl fun S1 k1 n1 o1=>?_
 refine Ai (Fo.Aj f) fun S2 k2 n2 o2=>?_
 have p2:=(Kg k2 o1)
 have kk:=k1.trans k2
 have c1:=Vs hc
 have c2:=vD f hf 60 ⟨by decide,by decide⟩
 have c3:=Ow c
 have c4:=AfN hc.gr f hf
 show ∃ q:AV,_
 cases e1:c.right with
 |false =>
  (repeat (first|with_reducible_and_instances (first|refine WJ ?_|refine W (Ct (n:=8) p2 (by with_unfolding_all rfl)) ?_|refine W (Ct (n:=4) o2 (Fo.Aj f)) ?_|refine W (Bb e1) ?_|refine W (Be e1) ?_|refine W (AK e1) ?_|refine W (AQ e1) ?_|refine W (AN (by with_unfolding_all rfl)) ?_)|refine BE (c1) rfl rfl ?_|refine CT (c1) rfl rfl ?_))
  exact⟨by rw[AhV],kk⟩
 |true =>
  cases e2:f.BQ 60 with
  |false =>
   (repeat (first|with_reducible_and_instances (first|refine WJ ?_|refine W (Ct (n:=8) p2 (by with_unfolding_all rfl)) ?_|refine W (Ct (n:=4) o2 (Fo.Aj f)) ?_|refine W (Bb e1) ?_|refine W (Be e1) ?_|refine W (AK e1) ?_|refine W (AQ e1) ?_|refine W (Bb e2) ?_|refine W (Be e2) ?_|refine W (AK e2) ?_|refine W (AQ e2) ?_|refine W (AN (by with_unfolding_all rfl)) ?_)|refine BE (c1) rfl rfl ?_|refine CT (c1) rfl rfl ?_|refine BE (c2) rfl rfl ?_|refine CT (c2) rfl rfl ?_))
   exact⟨by rw[AhV,AiL],kk⟩
  |true =>
   (repeat (first|with_reducible_and_instances (first|refine WJ ?_|refine W (Ct (n:=8) p2 (by with_unfolding_all rfl)) ?_|refine W (Ct (n:=4) o2 (Fo.Aj f)) ?_|refine W (Bb e1) ?_|refine W (Be e1) ?_|refine W (AK e1) ?_|refine W (AQ e1) ?_|refine W (Bb e2) ?_|refine W (Be e2) ?_|refine W (AK e2) ?_|refine W (AQ e2) ?_|refine W (AN (by with_unfolding_all rfl)) ?_)|refine BE (c1) rfl rfl ?_|refine CT (c1) rfl rfl ?_|refine BE (c2) rfl rfl ?_|refine CT (c2) rfl rfl ?_|refine BE (c3) rfl rfl ?_|refine CT (c3) rfl rfl ?_|refine BE (c4) rfl rfl ?_|refine CT (c4) rfl rfl ?_))
   exact⟨by rw[AhQ,AhQ],kk⟩
def j3 (c:Ci) (s:Int):List Bool:=if(c.right && decide (c.gr.inputs≤60))=true then DP c.gr (Cr s c.gr.inputs.toNat)else[]
def zQ(v:List Bool)(l:Int):Bool:=decide (0≤l) && (decide (l.tdiv 2<v.length) && Ec v l)
theorem Xi{c:Ci}(h:c.right=true)(s:Int):((DP c.gr (Cr s c.gr.inputs.toNat)).length:Int)=c.gr.vars:=by
 obtain⟨g1,g2,g3⟩:=CQ h
 have hr:=(Bq.1 h).2.2.2.2.2.2.1
 rw[Ni,if_pos]
 ·have:0≤c.gr.vars:=by unfold Gr.vars;omega
  omega
 ·rw[hr,It]
  simp;omega
theorem lO{c:Ci}(s l:Int):zQ (j3 c s) l=DM c s l:=by
 unfold j3 DM
 cases h:c.right with
 |false =>
  rw[AhV,if_neg (by decide),AhV]
  simp only[zQ,Bool.and_eq_false_iff,decide_eq_false_iff_not]
  by_cases h0:0≤l
  ·refine .inr (.inl ?_)
   have:=Int.tdiv_nonneg h0 (show(0:Int)≤2 by decide)
   simp;omega
  ·exact .inl h0
 |true =>
  cases h6:decide (c.gr.inputs≤60)with
  |false =>
   rw[AiL,if_neg (by decide),AhV,AiL]
   simp only[zQ,Bool.and_eq_false_iff,decide_eq_false_iff_not]
   by_cases h0:0≤l
   ·refine .inr (.inl ?_)
    have:=Int.tdiv_nonneg h0 (show(0:Int)≤2 by decide)
    simp;omega
   ·exact .inl h0
  |true =>
   rw[AhQ,if_pos rfl,AhQ,AhQ]
   obtain⟨g1,g2,g3⟩:=CQ h
   have hv:=Xi h s
   have hpos:0<(DP c.gr (Cr s c.gr.inputs.toNat)).length:=by
    have:1≤c.gr.vars:=by unfold Gr.vars;omega
    omega
   simp only[zQ,Gr.eval,hpos,decide_true,AhQ,hv,Gr.lit,g2,g3,Bool.and_assoc]
theorem yJ{c:Ci}(hc:c.ok)(s:Int):BF Pg 172 [c.av,aI s] (aL aB (j3 c s)):=by
 intro S
 refine Ad.tree (bW ?_)
 dsimp only[AcL,Fi,Lf];unfold j3
 refine Ai rfl fun S1 k1 n1 o1=>?_
 rw[An (n:=8) o1 rfl]
 refine Af (Vq c) ?_
 refine Ai rfl fun S2 k2 n2 o2=>?_
 refine AG (cs':=c.gr.cells) o2 rfl rfl fun S3 n3 o3 f3=>?_
 have k3:=k2.st (AhN _) n3 f3
 have kk:=k1.trans k3
 rw[An (n:=8) (Kg k3 o1) rfl]
 refine Af (iJ hc) ?_
 rw[AJ,Ag]
 refine Al (fun h=>?_) (fun h=>?_)
 ·have h:c.right=false:=by simpa using h
  refine⟨_,rfl,kk,?_⟩
  rw[h,AhV,if_neg (by decide)]
  exact .nl
 have h:c.right=true:=by simpa using h
 obtain⟨g1,g2,g3⟩:=CQ h
 rw[Ac,Ae o3 rfl rfl,AO,Ag]
 refine Al (fun h6=>?_) (fun h6=>?_)
 ·have h6:=dT h6
  refine⟨_,rfl,kk,?_⟩
  rw[h,decide_eq_false (by omega:¬ c.gr.inputs≤60),if_neg (by decide)]
  exact .nl
 have h6:=dF h6
 rw[h,decide_eq_true (by omega:c.gr.inputs≤60),Bool.and_self,if_pos rfl]
 obtain⟨m,hm⟩:=AhX g2
 have hm60:m≤60:=by omega
 have hgt:c.gr.inputs.toNat=m:=by rw[hm];rfl
 rw[hgt,Ac,Ae o3 rfl rfl]
 show Ql _ _ _ (aI c.gr.inputs) (aI c.gr.inputs) _ _
 rw[hm]
 refine Lg (by omega) (by omega) fun S6 k6 n6 o6=>?_
 rw[Dm]
 have hrep:List.replicate m [AV.v (.bool false)]=(List.range m).map fun k=>[aB (if k<0 then Jb s k else false)]:=by
  apply List.ext_getElem
  ·simp
  ·intro k h1 h2
   simp
 rw[hrep]at o6
 refine V7 (fun y S'=>S'.n=S6.n∧(∀ x,x<S3.n→S'.obj x=S3.obj x)∧∃ j:Nat,y=aI j∧j≤m∧S'.obj S3.n=some (.cells 4 ((List.range m).map fun k=>[aB (if k<j then Jb s k else false)]) true))
  (fun y _=>m - ((Aw y).getD 0).toNat) ⟨rfl,k6.2,0,rfl,AhS _,o6⟩ ?_
 dsimp only[BS]
 rintro _ S7 ⟨n7,f7,j,rfl,hj,o7⟩ KE1 hKE1
 dsimp only[eZ,Fi]
 rw[As,Ag]
 refine Al (fun hlt1=>?_) (fun hge1=>?_)
 ·have hlt1:j<m:=by have:((j:Int)<(m:Int)):=dT hlt1;omega
  rw[HQ (by omega),E4,AA,Cf hlt1 o7]
  refine B9 o7 (u0:=aB (if j<j then Jb s j else false)) (by rw[AhZ];simp[hlt1]) rfl fun S8 n8 o8 f8=>?_
  rw[Ar (by omega) (by omega)]
  refine hKE1 _ _ ⟨by omega,fun x hx=>(f8 x (by omega)).trans (f7 x hx),j+1,rfl,hlt1,?_⟩ (by simp[Aw];omega)
  rw[o8,AhZ]
  have:=HZ (n:=m) (i:=j) (f:=fun k=>[aB (if k<j then Jb s k else false)]) (f':=fun k=>[aB (if k<j+1 then Jb s k else false)]) hlt1 (fun k hk=>by
   have:(k<j+1)=(k<j):=by apply propext;omega
   simp only[this])
  rw[←this]
  simp[Jb]
 ·have hgj:j=m:=by
    have:¬ ((j:Int)<(m:Int)):=dF hge1
    omega
  subst hgj
  have o7':S7.obj S3.n=some (.cells 4 ((Cr s j).map fun b=>[aB b]) true):=by
   rw[o7,Cr,AiU]
   congr 2
   apply AiR
   intro k hk
   simp[AiO.1 hk]
  rw[An (n:=2) ((f7 _ (by omega)).trans o3) rfl]
  have call:=QL hc.gr (ins:=Cr s j) (S:=S7) (xi:=.s S3.n 0 j) (by simp;omega) (fun T K=>by rw[Dm,It]) (fun T hT=>by
   have:=(hT.2 S3.n (by omega)).trans o7'
   simp only[IZ,this]
   rw[if_pos (by simp)]
   simp[AiD])
  refine At (Dq (f:=fun b=>.bool b) call) ?_
  have k3':Am S S7:=⟨by have:=kk.1;omega,fun x hx=>(f7 x (by have:=kk.1;omega)).trans (kk.2 x hx)⟩
  exact⟨_,rfl,k3',sZ (f:=fun b=>.bool b) _⟩
theorem yK(v:List Bool){l:Int}(hl:Bv l):BF Pg 171 [aL aB v,aI l] (aB (zQ v l)):=by
 intro S
 refine bX ?_
 dsimp only[AcM,Fi];unfold zQ
 rw[BH,Ag]
 refine Al (fun h=>?_) (fun h=>⟨by rw[h,AhV],rfl⟩)
 have h0:=dT h
 rw[h,AhQ,Cc hl,Ax,As,Ag]
 refine Al (fun h1=>?_) (fun h1=>⟨by rw[h1,AhV],rfl⟩)
 have hlt:=dT h1
 rw[h1,AhQ,Cc hl]
 refine GG (Int.tdiv_nonneg h0 (by decide)) hlt _ ?_
 rw[E4,AA,DI]
 refine⟨?_,rfl⟩
 rw[Ec,AiK h0]
theorem yP{c:Ci}(hc:c.ok)(s:Int){l:Int}(hl:Bv l):BF Pg 153 [c.av,aI s,aI l] (aB (DM c s l)):=by
 intro S
 refine Ad.Bu (cM ?_)
 unfold Ad3
 refine Ai rfl fun S1 k1 n1 o1=>?_
 rw[An (n:=8) o1 rfl]
 refine Af (yJ hc s) ?_
 refine Af (yK _ hl) ?_
 exact⟨by rw[lO],k1⟩
theorem sT(k p:Nat):(k:Int).fdiv ((2:Int) ^ p)=((k / 2 ^ p:Nat):Int):=by
 rw[Int.fdiv_eq_ediv_of_nonneg _ (Int.le_of_lt (Int.pow_pos (by decide))),Int.natCast_ediv,Aj1]
 rfl
theorem RD{N p q:Nat}(hq:2 ^ p*q+2 ^ p≤N)(P:Nat→Bool):
    ((List.range N).filter fun k=>P k && decide (k / 2 ^ p=q)).length=((List.range (2 ^ p)).filter fun y=>P (2 ^ p*q+y)).length:=by
 have hpos:0<2 ^ p:=Nat.two_pow_pos p
 obtain⟨r,rfl⟩:∃ r,N=2 ^ p*q+2 ^ p+r:=⟨N - (2 ^ p*q+2 ^ p),by omega⟩
 rw[List.range_add,List.range_add,AiW,AiW,Ai2,Ai2,List.filter_map,List.filter_map,AhR,AhR]
 have h1:(List.range (2 ^ p*q)).filter (fun k=>P k && decide (k / 2 ^ p=q)) = []:=by
  rw[List.filter_eq_nil_iff]
  intro k hk
  have:k<2 ^ p*q:=AiO.1 hk
  have h:k / 2 ^ p<q:=Nat.div_lt_of_lt_mul this
  simp only[AhO,decide_eq_true_eq,not_and]
  exact fun _=>by omega
 have h2:(List.range r).filter ((fun k=>P k && decide (k / 2 ^ p=q))∘fun x=>2 ^ p*q+2 ^ p+x) = []:=by
  rw[List.filter_eq_nil_iff]
  intro k hk
  have h:q+1≤(2 ^ p*q+2 ^ p+k) / 2 ^ p:=by
   rw[Nat.le_div_iff_mul_le hpos,Nat.add_mul,Nat.mul_comm q];omega
  simp only[Function.comp,AhO,decide_eq_true_eq,not_and]
  exact fun _=>by omega
 have h3:(List.range (2 ^ p)).filter ((fun k=>P k && decide (k / 2 ^ p=q))∘fun x=>2 ^ p*q+x)=(List.range (2 ^ p)).filter fun y=>P (2 ^ p*q+y):=by
  apply List.filter_congr
  intro y hy
  have hy:=AiO.1 hy
  have h:(2 ^ p*q+y) / 2 ^ p=q:=by rw[Nat.mul_add_div hpos,Nat.div_eq_of_lt hy,Nat.add_zero]
  simp only[Function.comp,h,decide_true,Bool.and_true]
 rw[h1,h2,h3]
 simp
theorem filter_lt(P:Nat→Bool)(n:Nat):((List.range n).filter P).Pairwise (· < ·):=List.pairwise_lt_range.filter P
structure AgA (c:Ci) (i:Nat) (m p q:Nat) (fl:List Nat):Prop where
 after:GZ c i=((2 ^ p*q:Nat):Int)
 next:(Au c).next[i]? = some (fl.map fun y:Nat=>((2 ^ p*q+y:Nat):Int))
 fit:2 ^ p*q+2 ^ p≤2 ^ m
 none_:(AE c).getD i false=false→fl = []
 mem:∀ y∈fl,y<2 ^ p∧(AE c).getD (2 ^ p*q+y) false=true
 up:fl.Pairwise (· < ·)
 many:(AE c).getD i false=true→fl.length=((List.range (2 ^ m)).filter fun k=>(AE c).getD k false && decide (k / 2 ^ p=q)).length
theorem AbP{c:Ci}(h1:c.right=true){m:Nat}(hm:c.inputs.toNat+c.latches.length=m)(hm6:m≤10){i:Nat}(hi:i<2 ^ m):∃ q fl,AgA c i m c.inputs.toNat q fl:=by
 obtain⟨g1,g2,g3⟩:=CQ h1
 have hin:=(Bq.1 h1).1
 have hgt:c.gr.inputs.toNat=m:=by omega
 obtain⟨q,hq1,hq2⟩:=E6 c ((AY c).getD i []) c.latches.length
 have haf:=K6 h1 (by omega) (s:=i) (by rw[hgt];exact hi)
 have hfit:2 ^ c.inputs.toNat*q+2 ^ c.inputs.toNat≤2 ^ m:=by
  have h2:2 ^ c.inputs.toNat*(q+1)≤2 ^ c.inputs.toNat*2 ^ c.latches.length:=Nat.mul_le_mul_left _ hq1
  rw[←Nat.pow_add,hm,Nat.mul_add,Nat.mul_one]at h2
  exact h2
 have hnx:(Au c).next[i]? = some (if(AE c).getD i false=true then DA c ((AY c).getD i []) (AE c)else[]):=by
  simp only[Au,hgt]
  rw[Ai4,List.getElem?_range hi]
  rfl
 have htn:((((2 ^ c.inputs.toNat*q:Nat):Int))).toNat=2 ^ c.inputs.toNat*q:=Ai1 _
 have hN:DA c ((AY c).getD i []) (AE c)=(((List.range (2 ^ c.inputs.toNat)).filter fun x=>(AE c).getD (2 ^ c.inputs.toNat*q+x) false)).map fun y:Nat=>((2 ^ c.inputs.toNat*q+y:Nat):Int):=by
  simp only[DA,hq2,htn,Int.natCast_add]
 refine⟨q,if(AE c).getD i false=true then(List.range (2 ^ c.inputs.toNat)).filter fun x=>(AE c).getD (2 ^ c.inputs.toNat*q+x) false else[],haf.trans hq2,?_,hfit,fun h=>by rw[h,if_neg (by decide)],fun y hy=>?_,?_,fun h=>?_⟩
 ·rw[hnx,hN]
  split<;>rfl
 ·split at hy
  ·rw[List.mem_filter,AiO]at hy
   exact hy
  ·cases hy
 ·split
  ·exact filter_lt _ _
  ·exact List.Pairwise.nil
 ·rw[if_pos h,RD hfit fun k=>(AE c).getD k false]
set_option linter.unusedSectionVars false
theorem jR{s:Sp}{p:List Bool}(h:fits s [p]=true):Xw s p=Ny s p:=by rw[Xw,if_pos h]
theorem Qk{s:Sp}{p:List Bool}(h:fits s [p]=true):vV s p=DO s p:=by rw[vV,if_pos h]
theorem Ue{s:Sp}{p q:List Bool}(h:fits s [p]=true)(k:fits s [q]=true):jS s p q=IM s p q:=by rw[jS,if_pos (by rw[HD,h,k];rfl)]
structure LA (s:Sp):Prop where
 small:Vx s
 next:s.next.length=s.valid.length
 fair:∀ r∈s.fair,r.length=s.valid.length
 mem:∀ x∈s.next,∀ i∈x,0≤i∧i<s.valid.length
 ini:s.initial.length=s.valid.length
theorem LA.sm{s:Sp}(h:LA s):s.small:=⟨by have:=h.small.h1;omega,by have:=h.small.h3;omega,by have:=h.small.h5;omega,fun x hx=>by have:=h.small.h4 x hx;omega⟩
theorem LA.fit{s:Sp}(h:LA s){p:List Bool}(hp:p.length=s.valid.length):fits s [p]=true:=by
 rw[ET]
 simp only[AhO,decide_eq_true_eq,AhW]
 exact⟨⟨⟨hp,h.next⟩,h.fair⟩,h.mem⟩
theorem OG{c:Ci}(h:c.right=true)(h10:¬ 10<c.gr.inputs):LA (Au c):=by
 obtain⟨g1,g2,g3⟩:=CQ h
 have hin:=(Bq.1 h).1
 have hgt:c.gr.inputs.toNat=c.inputs.toNat+c.latches.length:=by omega
 have hvl:(Au c).valid.length=2 ^ (c.inputs.toNat+c.latches.length):=by simp[Au,AE,hgt]
 refine⟨Sh h h10,by simp[Au,AE],fun r hr=>?_,fun x hx i hi=>?_,by simp[Au,AE]⟩
 ·simp only[Au,Ai5]at hr
  obtain⟨l,_,rfl⟩:=hr
  simp[Au,AE]
 ·obtain⟨k,hk,rfl⟩:=AiI hx
  have hk2:k<2 ^ (c.inputs.toNat+c.latches.length):=by
   have:(Au c).next.length=2 ^ (c.inputs.toNat+c.latches.length):=by simp[Au,hgt]
   omega
  obtain⟨q,fl,hf⟩:=AbP h rfl (by omega) hk2
  have hn:=hf.next
  rw[AhM hk]at hn
  rw[Option.some.inj hn]at hi
  obtain⟨y,hy,rfl⟩:=Ai5.1 hi
  have h1:=(hf.mem y hy).1
  have h2:=hf.fit
  rw[hvl]
  omega
structure Te (c:Ci) (s:Sp) (fr:List Bool) (tid:Nat) (S:Aa):Prop where
 obj:S.obj tid=some (.cells 163 [c.cells++s.cells ++ [aL aB fr]] true)
 lt:tid<S.n
theorem Te.AR{c:Ci}{s:Sp}{fr:List Bool}{tid:Nat}{S T:Aa}(h:Te c s fr tid S)(k:Am S T):Te c s fr tid T:=⟨(k.2 _ h.lt).trans h.obj,Nat.lt_of_lt_of_le h.lt k.1⟩
section
variable {c:Ci} {s:Sp} {fr:List Bool} {tid:Nat} {S:Aa}
theorem Te.UY(h:Te c s fr tid S){K:AV→Aa→Prop}:Ay (.p tid 0 (0+8+1)) S K=K (aL aB s.valid) S:=Ae h.obj rfl rfl
theorem Te.ldf(h:Te c s fr tid S){K:AV→Aa→Prop}:Ay (.p tid 0 (0+13)) S K=K (aL aB fr) S:=Ae h.obj rfl rfl
theorem Te.xK(h:Te c s fr tid S){K:AV→Aa→Prop}:AB 5 (.p tid 0 (0+8)) S K=K s.av S:=Jz (n:=5) (cs':=s.cells) h.obj (by simp[Ci.cells,Sp.cells]) rfl
theorem Te.ldc(h:Te c s fr tid S){K:AV→Aa→Prop}:AB 8 (.p tid 0 (0+0)) S K=K c.av S:=Jz (n:=8) (cs':=c.cells) h.obj (by simp[Ci.cells,Sp.cells]) rfl
theorem Nu{id i j:Nat}{S0:Aa}{P:AV→Prop}:(∃ q,(AI (.p id i j) S0 fun v S=>v=q∧S=S0)∧P q)=P (.p id i j):=HU (op:=fun K=>AI (.p id i j) S0 K) fun K=>AH _ _ _ _ _
theorem Vk(h:Te c s fr tid S)(hv:s.valid.length≤1000000){F:FuncId}{fs cs:List AV}{g:Nat→Bool}(hf:∀ T,Am S T→∀ i,i<s.valid.length→AT Pg F (fs ++ [aI i]++cs) T (aB (g i))):
    AT Pg 151 [.p tid 0 0,.f (.func F) fs cs] S (aL aB (Fw s g)):=by
 refine Dq (f:=fun b=>.bool b) (e:=4) (cO ?_)
 dsimp only[Ad5,Lf]
 rw[AH,Ac,Ac,h.UY,Ax]
 refine Lg (by omega) (by omega) fun S1 k1 n1 o1=>?_
 have h1:=h.AR k1
 rw[AH,Ac,Ac,h1.UY,Ax]
 let e:Nat→Bool:=fun k=>bit s.valid k && g k
 have hrep:List.replicate s.valid.length [AV.v (.bool false)]=(List.range s.valid.length).map fun k=>[aB (if k<0 then e k else false)]:=by
  apply List.ext_getElem
  ·simp
  ·intro k h1 h2
   simp
 rw[hrep]at o1
 refine Wg (fun w S'=>Am S S'∧S.n<S'.n∧∃ i:Nat,w=aI i∧i≤s.valid.length∧S'.obj S.n=some (.cells 4 ((List.range s.valid.length).map fun k=>[aB (if k<i then e k else false)]) true))
  (fun w _=>s.valid.length - ((Aw w).getD 0).toNat) ⟨k1,by omega,0,rfl,AhS _,o1⟩ ?_
 dsimp only[BS]
 rintro _ S2 ⟨k2,n2,i,rfl,hi,o2⟩ KE hKE
 dsimp only[fI,Fi]
 rw[As,Ag]
 refine Al (fun hlt=>?_) (fun hge=>?_)
 ·have hlt:i<s.valid.length:=by simpa using hlt
  have step:∀ b,b=e i→AS 4 1 (.s S.n 0 s.valid.length) (aI i) S2 fun v S3=>A8 1 v (aB b) S3 fun _ S3=>bin .add 0 (aI i) (.v (.int .i64 1)) S3 fun v S3=>KE 37 (F5 (.f (.func F) fs cs) (.s S.n 0 s.valid.length) (aL aB s.valid) (aI s.valid.length) v) S3:=fun b hb=>by
   rw[Cf hlt o2]
   refine B9 o2 (u0:=aB (if i<i then e i else false)) (by rw[AhZ];simp[hlt]) rfl fun S3 n3 o3 f3=>?_
   rw[Ar (by omega) (by omega)]
   refine hKE _ _ ⟨k2.st (AhN _) n3 f3,by omega,i+1,rfl,hlt,?_⟩ (by simp[Aw];omega)
   rw[o3,AhZ]
   have:=HZ (n:=s.valid.length) (i:=i) (f:=fun k=>[aB (if k<i then e k else false)]) (f':=fun k=>[aB (if k<i+1 then e k else false)]) hlt (fun k hk=>by
    have:(k<i+1)=(k<i):=by apply propext;omega
    simp only[this])
   rw[←this,hb]
   simp
  rw[AM hlt,A1,Ag]
  refine Al (fun hb=>?_) (fun hb=>?_)
  ·refine BL (hf S2 k2 i hlt) ?_
   exact step _ (by show g i=(bit s.valid i && g i);rw[Bc hlt,hb,AhQ])
  ·exact step _ (by show false=(bit s.valid i && g i);rw[Bc hlt,hb,AhV])
 ·have hge:i=s.valid.length:=by simp at hge;omega
  subst hge
  refine⟨_,rfl,k2,.inr ⟨S.n,by simp[Fw,CG],AhN _,n2,?_⟩⟩
  rw[o2,Fw,CG,AiU]
  congr 2
  apply AiR
  intro k hk
  simp[AiO.1 hk,e]
theorem xL{l:List Bool}{e i:Nat}(h:i<l.length){S:Aa}{K:AV→Aa→Prop}:AS e 1 (aL aB l) (aI i) S K=K (.q [aB (bit l i)] 0) S:=by
 rw[AM h,Bc h]
theorem gZ(h:Te c s fr tid S)(hv:s.valid.length≤1000000){p:List Bool}(hp:p.length=s.valid.length):AT Pg 154 [.p tid 0 0,aL aB p] S (aL aB (A5 s p)):=by
 refine Ad.B2 (f:=fun b=>.bool b) (cL ?_)
 unfold Ad2
 refine BN rfl fun S1 k1 n1 o1=>?_
 refine At (Vk (h.AR k1) hv (g:=fun i=>!bit p i) fun T hT i hi=>?_) ⟨rfl,k1⟩
 refine bV ?_
 unfold AcK
 rw[Ae (Kg hT o1) rfl rfl,xL (by omega),A1,AJ]
 exact⟨rfl,rfl⟩
theorem sW{F M:FuncId}{m:AV→AV→AV→Aa→(Bh→Aa→Prop)→Prop}(h:Te c s fr tid S)(hv:s.valid.length≤1000000){p q:List Bool}(hp:p.length=s.valid.length)(hq:q.length=s.valid.length){g:Bool→Bool→Bool}
    (hm:∀(T:Aa) (Q:Bh→Aa→Prop) (i:Nat) (a b ta tb:Nat),i<s.valid.length→T.obj a=some (.cells ta [[aL aB p]] true)→T.obj b=some (.cells tb [[aL aB q]] true)→Q (.ret (aB (g (bit p i) (bit q i)))) T→Ad Pg F [aI i,.p a 0 0,.p b 0 0] T Q) {Q:Bh→Aa→Prop} (hQ:∀ S',Am S S'→Q (.ret (aL aB (Fw s fun i=>g (bit p i) (bit q i)))) S'):
    Az 164 1 (aL aB p) S fun v1 S=>Az 164 1 (aL aB q) S fun v2 S=>Ah Pg 151 [.p tid 0 0,.f (.func F) [] [v1,v2]] S Q fun v S=>Q (.ret v) S:=by
 refine BN rfl fun S1 k1 n1 o1=>?_
 refine BN rfl fun S2 k2 n2 o2=>?_
 refine At (Vk (h.AR (k1.trans k2)) hv (g:=fun i=>g (bit p i) (bit q i)) fun T hT i hi=>?_) (hQ _ (k1.trans k2))
 exact hm T _ i _ _ _ _ hi (Kg hT (Kg k2 o1)) (Kg hT o2) ⟨rfl,rfl⟩
theorem gW(h:Te c s fr tid S)(hv:s.valid.length≤1000000){p q:List Bool}(hp:p.length=s.valid.length)(hq:q.length=s.valid.length)(hin:In s p):AT Pg 177 [.p tid 0 0,aL aB p,aL aB q] S (aL aB (Bm p q)):=by
 refine Ad.B2 (f:=fun b=>.bool b) (bQ ?_)
 unfold AcG
 refine sW (M:=0) (m:=fun _ _ _ _ _=>True) h hv hp hq (g:=fun a b=>a && b) (fun T Q i a b ta tb hi ha hb hQ=>?_) fun S' k=>⟨by rw[aP hin],k⟩
 refine bF ?_
 dsimp only[Ac6,Fi]
 rw[Ae ha rfl rfl,xL (by omega),A1,Ag]
 refine Al (fun h=>?_) (fun h=>?_)
 ·rw[Ae hb rfl rfl,xL (by omega),A1]
  rw[h,AhQ]at hQ;exact hQ
 ·rw[h,AhV]at hQ;exact hQ
theorem Af3(h:Te c s fr tid S)(hv:s.valid.length≤1000000){p q:List Bool}(hp:In s p)(hq:In s q):AT Pg 178 [.p tid 0 0,aL aB p,aL aB q] S (aL aB (EC p q)):=by
 refine Ad.B2 (f:=fun b=>.bool b) (bP ?_)
 have h1:=hp.len
 have h2:=hq.len
 unfold AcF
 refine sW (M:=0) (m:=fun _ _ _ _ _=>True) h hv hp.len hq.len (g:=fun a b=>a || b) (fun T Q i a b ta tb hi ha hb hQ=>?_) fun S' k=>⟨by rw[mH hp hq],k⟩
 refine bE ?_
 dsimp only[Ac5,Fi]
 rw[Ae ha rfl rfl,xL (by omega),A1,Ag]
 refine Al (fun h=>?_) (fun h=>?_)
 ·rw[h,Bool.true_or]at hQ;exact hQ
 ·rw[Ae hb rfl rfl,xL (by omega),A1]
  rw[h,Bool.false_or]at hQ;exact hQ
variable (hs:LA s) (hfr:In s fr)
include hs hfr
theorem Af4(h:Te c s fr tid S){p:List Bool}(hp:In s p):AT Pg 174 [.p tid 0 0,aL aB p] S (aL aB (Dz s fr p)):=by
 refine Ad.B2 (f:=fun b=>.bool b) (bU ?_)
 dsimp only[AcJ,Lq,Ld]
 have hv:=hs.small.h1
 have c1:=gW h (by omega) hp.len hfr.len hp
 have c2:=yF hs.sm (Bm p fr)
 rw[jR (hs.fit (by simp[hp.len]))]at c2
 have l1:∀(P:AV→Prop),(∃ q,(AB 5 (.p tid 0 (0+8)) S fun v S'=>v=q∧S'=S)∧P q)=P s.av:=fun P=>HU (op:=fun K=>AB 5 (.p tid 0 (0+8)) S K) fun K=>h.xK
 have l2:∀(P:AV→Prop),(∃ q,(Ay (.p tid 0 (0+13)) S fun v S'=>v=q∧S'=S)∧P q)=P (aL aB fr):=fun P=>HU (op:=fun K=>Ay (.p tid 0 (0+13)) S K) fun K=>h.ldf
 show ∃ q:AV,_
 (repeat (first|with_reducible_and_instances (first|refine WJ ?_|refine W (Nu) ?_|refine W (l1 _) ?_|refine W (l2 _) ?_|refine W (AN (by with_unfolding_all rfl)) ?_)|refine FK (c1) rfl rfl ?_|refine NL (c1) rfl rfl ?_|refine BE (c2) rfl rfl ?_|refine CT (c2) rfl rfl ?_))
 exact⟨rfl,Am.refl _⟩
theorem gY(h:Te c s fr tid S){p q:List Bool}(hp:p.length=s.valid.length)(hq:In s q):AT Pg 175 [.p tid 0 0,aL aB p,aL aB q] S (aL aB (Bn s fr p q)):=by
 refine Ad.B2 (f:=fun b=>.bool b) (bS ?_)
 dsimp only[AcI,Lq,Ld]
 have hv:=hs.small.h1
 have c1:=gW h (by omega) hq.len hfr.len hq
 have c2:=iS hs.sm p (Bm q fr)
 rw[Ue (hs.fit hp) (hs.fit (by simp[hq.len]))]at c2
 have l1:∀(P:AV→Prop),(∃ q,(AB 5 (.p tid 0 (0+8)) S fun v S'=>v=q∧S'=S)∧P q)=P s.av:=fun P=>HU (op:=fun K=>AB 5 (.p tid 0 (0+8)) S K) fun K=>h.xK
 have l2:∀(P:AV→Prop),(∃ q,(Ay (.p tid 0 (0+13)) S fun v S'=>v=q∧S'=S)∧P q)=P (aL aB fr):=fun P=>HU (op:=fun K=>Ay (.p tid 0 (0+13)) S K) fun K=>h.ldf
 show ∃ q:AV,_
 (repeat (first|with_reducible_and_instances (first|refine WJ ?_|refine W (Nu) ?_|refine W (l1 _) ?_|refine W (l2 _) ?_|refine W (AN (by with_unfolding_all rfl)) ?_)|refine FK (c1) rfl rfl ?_|refine NL (c1) rfl rfl ?_|refine BE (c2) rfl rfl ?_|refine CT (c2) rfl rfl ?_))
 exact⟨rfl,Am.refl _⟩
omit hfr in
theorem gX(h:Te c s fr tid S){p:List Bool}(hp:p.length=s.valid.length):AT Pg 176 [.p tid 0 0,aL aB p] S (aL aB (DO s p)):=by
 refine Ad.B2 (f:=fun b=>.bool b) (bR ?_)
 unfold AcH
 have c2:=iV hs.sm p
 rw[Qk (hs.fit hp)]at c2
 rw[AH,Ac,h.xK]
 exact Af c2 ⟨rfl,Am.refl _⟩
theorem Af7(h:Te c s fr tid S)(k:Int){p:List Bool}(hp:In s p):AT Pg 155 [.p tid 0 0,aI k,aL aB p] S (aL aB (QO s fr k p)):=by
 refine Ad.B2 (f:=fun b=>.bool b) (cK ?_)
 have hv:s.valid.length≤1000000:=by have:=hs.small.h1;omega
 have nn:=fun{q:List Bool} (hq:In s q)=>gZ h hv hq.len
 have nx:=fun{q:List Bool} (hq:In s q)=>Af4 hs hfr h hq
 have ix:∀{q:List Bool},In s q→In s (Dz s fr q):=fun hq=>In.ex (by simp[hq.len])
 have iu:∀{p q:List Bool},In s q→In s (Bn s fr p q):=fun hq=>In.eu (by simp[hq.len])
 have ig:∀{q:List Bool},In s q→In s (DO s q):=fun hq=>In.eg hq.len
 have k0:=Am.refl S
 dsimp only[Ad1,Fi,Lf,Lq,Ld];unfold QO
 rw[AA,Ag]
 refine Al (fun e=>?_) (fun e=>?_)
 ·rw[if_pos (dT e)]
  exact At (nx hp) ⟨rfl,k0⟩
 rw[if_neg (dF e),AA,Ag]
 refine Al (fun e=>?_) (fun e=>?_)
 ·rw[if_pos (dT e)]
  exact At (nn hp) (At (nx (Bp _ _)) (At (nn (ix (Bp _ _))) ⟨rfl,k0⟩))
 rw[if_neg (dF e),AA,Ag]
 refine Al (fun e=>?_) (fun e=>?_)
 ·rw[if_pos (dT e),AH,Ac,Ac,h.UY]
  exact At (gY hs hfr h rfl hp) ⟨rfl,k0⟩
 rw[if_neg (dF e),AA,Ag]
 refine Al (fun e=>?_) (fun e=>?_)
 ·rw[if_pos (dT e)]
  exact At (nn hp) (At (gX hs h (Bp s p).len) (At (nn (ig (Bp _ _))) ⟨rfl,k0⟩))
 rw[if_neg (dF e),AA,Ag]
 refine Al (fun e=>?_) (fun e=>?_)
 ·rw[if_pos (dT e)]
  exact At (gX hs h hp.len) ⟨rfl,k0⟩
 rw[if_neg (dF e),AA,Ag]
 refine Al (fun e=>?_) (fun e=>?_)
 ·rw[if_pos (dT e)]
  have c1:=nn hp
  have c2:=gY hs hfr h (p:=s.valid) rfl (Bp s p)
  have c3:=nn (iu (p:=s.valid) (Bp s p))
  have l1:∀(P:AV→Prop),(∃ q,(Ay (.p tid 0 (0+8+1)) S fun v S'=>v=q∧S'=S)∧P q)=P (aL aB s.valid):=fun P=>HU (op:=fun K=>Ay (.p tid 0 (0+8+1)) S K) fun K=>h.UY
  show ∃ q:AV,_
  (repeat (first|with_reducible_and_instances (first|refine WJ ?_|refine W (Nu) ?_|refine W (l1 _) ?_|refine W (AN (by with_unfolding_all rfl)) ?_)|refine FK (c1) rfl rfl ?_|refine NL (c1) rfl rfl ?_|refine FK (c2) rfl rfl ?_|refine NL (c2) rfl rfl ?_|refine FK (c3) rfl rfl ?_|refine NL (c3) rfl rfl ?_))
  exact⟨rfl,k0⟩
 rw[if_neg (dF e)]
 exact At (nn hp) ⟨rfl,k0⟩
end
section
variable {c:Ci} {s:Sp} {fr:List Bool} {tid:Nat} {S:Aa}
variable (hs:LA s) (hfr:In s fr)
include hs hfr
theorem Af6(h:Te c s fr tid S)(k:Int){p q:List Bool}(hp:In s p)(hq:In s q):AT Pg 156 [.p tid 0 0,aI k,aL aB p,aL aB q] S (aL aB (Qu s fr k p q)):=by
 refine Ad.B2 (f:=fun b=>.bool b) (cJ ?_)
 have hv:s.valid.length≤1000000:=by have:=hs.small.h1;omega
 dsimp only[Ad0,Fi,Lq,Ld];unfold Qu
 refine BN rfl fun S1 k1 n1 o1=>?_
 refine BN rfl fun S2 k2 n2 o2=>?_
 have p2:=(Kg k2 o1)
 have kk:=k1.trans k2
 have h:=h.AR kk
 have nn:=fun{q:List Bool} (hq:In s q)=>gZ h hv hq.len
 have an:=fun{p q:List Bool} (hp:In s p) (hq:In s q)=>gW h hv hp.len hq.len hp
 have oo:=fun{p q:List Bool} (hp:In s p) (hq:In s q)=>Af3 h hv hp hq
 have uu:=fun{p q:List Bool} (hp:In s p) (hq:In s q)=>gY hs hfr h hp.len hq
 have al:=fun{p:List Bool} (hp:In s p)=>gX hs h hp.len
 have iu:∀{p q:List Bool},In s q→In s (Bn s fr p q):=fun hq=>In.eu (by simp[hq.len])
 have ig:∀{q:List Bool},In s q→In s (DO s q):=fun hq=>In.eg hq.len
 have ino:=fun q=>Bp s q
 rw[AA,Ag]
 refine Al (fun e=>?_) (fun e=>?_)
 ·rw[if_pos (dT e),Ae p2 rfl rfl,Ae o2 rfl rfl]
  exact At (an hp hq) ⟨rfl,kk⟩
 rw[if_neg (dF e),AA,Ag]
 refine Al (fun e=>?_) (fun e=>?_)
 ·rw[if_pos (dT e),Ae p2 rfl rfl,Ae o2 rfl rfl]
  exact At (oo hp hq) ⟨rfl,kk⟩
 rw[if_neg (dF e),AA,Ag]
 refine Al (fun e=>?_) (fun e=>?_)
 ·rw[if_pos (dT e)]
  have c1:=nn hp
  have c2:=oo (ino p) hq
  show ∃ q:AV,_
  (repeat (first|with_reducible_and_instances (first|refine WJ ?_|refine W (AW p2 (by with_unfolding_all rfl) (by with_unfolding_all rfl)) ?_|refine W (AW o2 (by with_unfolding_all rfl) (by with_unfolding_all rfl)) ?_|refine W (AN (by with_unfolding_all rfl)) ?_)|refine FK (c1) rfl rfl ?_|refine NL (c1) rfl rfl ?_|refine FK (c2) rfl rfl ?_|refine NL (c2) rfl rfl ?_))
  exact⟨rfl,kk⟩
 rw[if_neg (dF e),AA,Ag]
 refine Al (fun e=>?_) (fun e=>?_)
 ·rw[if_pos (dT e)]
  have l1:=hp.len
  have l2:=hq.len
  refine At (Vk h hv (g:=fun i=>bit p i == bit q i) fun T hT i hi=>?_) ⟨by rw[W3 hp hq],kk⟩
  refine bO ?_
  dsimp only[AcE,Lq]
  show ∃ q:AV,_
  refine⟨_,by rw[Ae (Kg hT p2) rfl rfl];exact⟨rfl,rfl⟩,?_⟩
  refine⟨_,by rw[xL (by omega)];exact⟨rfl,rfl⟩,?_⟩
  refine⟨_,by rw[A1];exact⟨rfl,rfl⟩,?_⟩
  refine⟨_,by rw[Ae (Kg hT o2) rfl rfl];exact⟨rfl,rfl⟩,?_⟩
  refine⟨_,by rw[xL (by omega)];exact⟨rfl,rfl⟩,?_⟩
  refine⟨_,by rw[A1];exact⟨rfl,rfl⟩,?_⟩
  refine⟨_,by rw[Kd];exact⟨rfl,rfl⟩,?_⟩
  exact⟨rfl,rfl⟩
 rw[if_neg (dF e),AA,Ag]
 refine Al (fun e=>?_) (fun e=>?_)
 ·rw[if_pos (dT e),Ae p2 rfl rfl,Ae o2 rfl rfl]
  exact At (uu hp hq) ⟨rfl,kk⟩
 have e15:=dF e
 rw[if_neg e15,AA,Ag]
 refine Al (fun e=>?_) (fun e=>?_)
 ·have e:=dT e
  rw[if_neg (by omega),if_pos e]
  have c1:=al hq
  have c2:=an hp hq
  have c3:=uu hq (hp.and (q:=q))
  have c4:=oo (ig hq) (iu (p:=q) (hp.and (q:=q)))
  show ∃ q:AV,_
  (repeat (first|with_reducible_and_instances (first|refine WJ ?_|refine W (AW p2 (by with_unfolding_all rfl) (by with_unfolding_all rfl)) ?_|refine W (AW o2 (by with_unfolding_all rfl) (by with_unfolding_all rfl)) ?_|refine W (AN (by with_unfolding_all rfl)) ?_)|refine FK (c1) rfl rfl ?_|refine NL (c1) rfl rfl ?_|refine FK (c2) rfl rfl ?_|refine NL (c2) rfl rfl ?_|refine FK (c3) rfl rfl ?_|refine NL (c3) rfl rfl ?_|refine FK (c4) rfl rfl ?_|refine NL (c4) rfl rfl ?_))
  exact⟨rfl,kk⟩
 have e17:=dF e
 rw[AA,Ag]
 refine Al (fun e=>?_) (fun e=>?_)
 ·rw[if_pos (dT e),Ae o2 rfl rfl]
  refine At (nn hq) ?_
  rw[Ae p2 rfl rfl]
  refine At (nn hp) (At (an (ino p) (ino q)) ?_)
  rw[not_or hp hq]
  refine At (uu (ino q) (ino _)) (At (al (ino q)) (At (oo (iu (ino _)) (ig (ino q))) (At (nn ((iu (ino _)).or (ig (ino q)))) ⟨rfl,kk⟩)))
 rw[if_neg (dF e),if_neg e17]
 have c1:=nn hp
 have c2:=nn hq
 have c3:=uu (ino p) (ino q)
 have c4:=nn (iu (p:=A5 s p) (ino q))
 show ∃ q:AV,_
 (repeat (first|with_reducible_and_instances (first|refine WJ ?_|refine W (AW p2 (by with_unfolding_all rfl) (by with_unfolding_all rfl)) ?_|refine W (AW o2 (by with_unfolding_all rfl) (by with_unfolding_all rfl)) ?_|refine W (AN (by with_unfolding_all rfl)) ?_)|refine FK (c1) rfl rfl ?_|refine NL (c1) rfl rfl ?_|refine FK (c2) rfl rfl ?_|refine NL (c2) rfl rfl ?_|refine FK (c3) rfl rfl ?_|refine NL (c3) rfl rfl ?_|refine FK (c4) rfl rfl ?_|refine NL (c4) rfl rfl ?_))
 exact⟨rfl,kk⟩
theorem lQ(l:Int):In s (CE c s l):=Ey _ _
theorem AfA(hc:c.ok):∀(f:Fo),f.ok→∀(d:Int),f.BQ d=true→∀{S:Aa},Te c s fr tid S→AT Pg 132 [.p tid 0 0,f.av] S (aL aB (f.C9 s fr (CE c s))):=by
 intro f
 induction f using Fo.ind with
 |h k n l ks ih =>
  intro hok d hd S h
  obtain⟨h1,h2,h3,h4,h5⟩:=hok.inv
  have hv:s.valid.length≤1000000:=by have:=hs.small.h1;omega
  refine Ad.B2 (f:=fun b=>.bool b) (dE ?_)
  dsimp only[AdM,Fi,Lf,Lq,Ld];unfold Fo.av
  rw[Fo.AD]
  refine BN rfl fun S1 k1 n1 o1=>?_
  refine Ai rfl fun S2 k2 n2 o2=>?_
  have p2:=(Kg k2 o1)
  have kk:=k1.trans k2
  have h:=h.AR kk
  have ia:∀ l,In s (CE c s l):=fun l=>lQ hs hfr l
  obtain⟨_,_,hcase⟩:=Dt hd
  rw[Ac,Ae o2 rfl rfl,AA,Ag]
  rcases hcase with⟨hk,rfl,_⟩|⟨rfl,rfl,_⟩|⟨hk,_,f,rfl,hf⟩|⟨hk,_,f,g,rfl,hf,hg⟩
  ·rw[decide_eq_false (by omega:¬ k=3),A2,AA,Ag]
   rcases hk with rfl|rfl
   ·rw[decide_eq_false (by decide:¬ (1:Int)=2),A2,AA,Ag,decide_eq_true rfl,Bf,DX]
    have c1:=gZ h hv (p:=s.valid) rfl
    have l1:∀(P:AV→Prop),(∃ q,(Ay (.p tid 0 (0+8+1)) S2 fun v S'=>v=q∧S'=S2)∧P q)=P (aL aB s.valid):=fun P=>HU (op:=fun K=>Ay (.p tid 0 (0+8+1)) S2 K) fun K=>h.UY
    show ∃ q:AV,_
    (repeat (first|with_reducible_and_instances (first|refine WJ ?_|refine W (AW p2 (by with_unfolding_all rfl) (by with_unfolding_all rfl)) ?_|refine W (Nu) ?_|refine W (l1 _) ?_|refine W (AN (by with_unfolding_all rfl)) ?_)|refine FK (c1) rfl rfl ?_|refine NL (c1) rfl rfl ?_))
    exact⟨rfl,kk⟩
   ·rw[decide_eq_true rfl,Bf,EE,Ae p2 rfl rfl,AH,Ac,Ac,h.UY]
    exact⟨rfl,kk⟩
  ·rw[decide_eq_true rfl,Bf,C8,Ae p2 rfl rfl]
   refine At (Vk h hv (g:=fun i=>DM c i l) fun T hT i hi=>?_) ⟨rfl,kk⟩
   refine cN ?_
   dsimp only[Ad4,Lq,Ld]
   show ∃ q:AV,_
   refine⟨_,by rw[Ae (Kg hT p2) rfl rfl];exact⟨rfl,rfl⟩,?_⟩
   refine⟨_,by rw[AH];exact⟨rfl,rfl⟩,?_⟩
   refine⟨_,by rw[Ac];exact⟨rfl,rfl⟩,?_⟩
   refine⟨_,by rw[(h.AR hT).ldc];exact⟨rfl,rfl⟩,?_⟩
   refine⟨_,by rw[Ac];exact⟨rfl,rfl⟩,?_⟩
   refine⟨_,by rw[Ae (Kg hT o2) rfl rfl];exact⟨rfl,rfl⟩,?_⟩
   refine⟨_,Af (yP hc i h2) ⟨rfl,rfl⟩,?_⟩
   exact⟨rfl,rfl⟩
  ·rw[decide_eq_false (by omega:¬ k=3),A2,AA,Ag,decide_eq_false (by omega:¬ k=2),A2,AA,Ag,decide_eq_false (by omega:¬ k=1),A2,CI (by omega)]
   have c1:=ih f (by simp) (h5 f (by simp)) _ hf h
   have c2:=Af7 hs hfr h k (FI (fr:=fr) ia f _ hf)
   show ∃ q:AV,_
   refine⟨_,by rw[Ae p2 rfl rfl];exact⟨rfl,rfl⟩,?_⟩
   refine⟨_,by rw[Ac];exact⟨rfl,rfl⟩,?_⟩
   refine⟨_,by rw[Ae o2 rfl rfl];exact⟨rfl,rfl⟩,?_⟩
   refine⟨_,by rw[show ∀ K:AV→Aa→Prop,AS 32 4 (Du [f]) (.v (.int .i64 0)) S2 K=K (.q f.row 0) S2 from fun K=>Cg (l:=[f]) (i:=0) (by simp)];exact⟨rfl,rfl⟩,?_⟩
   refine⟨_,by rw[Ca (Fo.Aj f)];exact⟨rfl,rfl⟩,?_⟩
   refine Kp c1 ?_
   rw[Ac,Ae o2 rfl rfl,BJ,AA,Ag]
   rw[show decide ((([f]:List Fo).length:Int)=1)=true from rfl,Bf,Ae p2 rfl rfl,Ac,Ae o2 rfl rfl]
   exact At c2 ⟨rfl,kk⟩
  ·rw[decide_eq_false (by omega:¬ k=3),A2,AA,Ag,decide_eq_false (by omega:¬ k=2),A2,AA,Ag,decide_eq_false (by omega:¬ k=1),A2,CH (by omega)]
   have c1:=ih f (by simp) (h5 f (by simp)) _ hf h
   have c1':=ih g (by simp) (h5 g (by simp)) _ hg h
   have c2:=Af6 hs hfr h k (FI (fr:=fr) ia f _ hf) (FI (fr:=fr) ia g _ hg)
   show ∃ q:AV,_
   refine⟨_,by rw[Ae p2 rfl rfl];exact⟨rfl,rfl⟩,?_⟩
   refine⟨_,by rw[Ac];exact⟨rfl,rfl⟩,?_⟩
   refine⟨_,by rw[Ae o2 rfl rfl];exact⟨rfl,rfl⟩,?_⟩
   refine⟨_,by rw[show ∀ K:AV→Aa→Prop,AS 32 4 (Du [f,g]) (.v (.int .i64 0)) S2 K=K (.q f.row 0) S2 from fun K=>Cg (l:=[f,g]) (i:=0) (by simp)];exact⟨rfl,rfl⟩,?_⟩
   refine⟨_,by rw[Ca (Fo.Aj f)];exact⟨rfl,rfl⟩,?_⟩
   refine Kp c1 ?_
   rw[Ac,Ae o2 rfl rfl,BJ,AA,Ag]
   rw[show decide ((([f,g]:List Fo).length:Int)=1)=false from rfl,A2]
   show ∃ q:AV,_
   refine⟨_,by rw[Ae p2 rfl rfl];exact⟨rfl,rfl⟩,?_⟩
   refine⟨_,by rw[Ac];exact⟨rfl,rfl⟩,?_⟩
   refine⟨_,by rw[Ae o2 rfl rfl];exact⟨rfl,rfl⟩,?_⟩
   refine⟨_,by rw[Ae p2 rfl rfl];exact⟨rfl,rfl⟩,?_⟩
   refine⟨_,by rw[Ac];exact⟨rfl,rfl⟩,?_⟩
   refine⟨_,by rw[Ae o2 rfl rfl];exact⟨rfl,rfl⟩,?_⟩
   refine⟨_,by rw[show ∀ K:AV→Aa→Prop,AS 32 4 (Du [f,g]) (.v (.int .i64 1)) S2 K=K (.q g.row 0) S2 from fun K=>Cg (l:=[f,g]) (i:=1) (by simp)];exact⟨rfl,rfl⟩,?_⟩
   refine⟨_,by rw[Ca (Fo.Aj g)];exact⟨rfl,rfl⟩,?_⟩
   refine Kp c1' ?_
   refine Kp c2 ?_
   exact⟨rfl,kk⟩
end
theorem u9{c:Ci}(hc:c.ok){s:Sp}(hs:LA s){f:Fo}(hf:f.ok){d:Int}(hd:f.BQ d=true):BF Pg 93 [c.av,s.av,f.av] (aL aB (f.C9 s (DO s s.valid) (CE c s))):=by
 intro S
 refine Ad.B2 (f:=fun b=>.bool b) (mX ?_)
 dsimp only[m93,Lt,Lc]
 refine Ai rfl fun S1 k1 n1 o1=>?_
 refine Ai rfl fun S2 k2 n2 o2=>?_
 refine Ai (Fo.Aj f) fun S3 k3 n3 o3=>?_
 have p3:=(Kg k3 (Kg k2 o1))
 have q3:=(Kg k3 o2)
 have kk:=(k1.trans k2).trans k3
 have cg:=iV hs.sm s.valid
 rw[Qk (hs.fit rfl)]at cg
 refine Gi (n:=8) p3 (by omega) rfl ?_
 refine Gi (n:=5) q3 (by omega) rfl ?_
 refine Gi (n:=5) q3 (by omega) rfl ?_
 refine Cj ?_
 refine Ko q3 (by omega) rfl rfl ?_
 refine G0 cg ?_
 refine⟨_,fun T hT=>by rw[A6 (cs:=c.cells++s.cells ++ [aL aB (DO s s.valid)]) rfl];exact⟨rfl,rfl⟩,?_⟩
 refine Ai rfl fun S4 k4 n4 o4=>?_
 rw[An (n:=4) (Kg k4 o3) (Fo.Aj f)]
 refine At (AfA hs (In.eg rfl) hc f hf d hd (S:=S4) ⟨o4,by omega⟩) ⟨rfl,kk.trans k4⟩
def IE (c:Ci) (f:Fo):List Bool × Sp × Int:=if Ex c f=false then([],zM,1)else if(BI c).2=0 then(A0 c f,Au c,0)else([],zM,(BI c).2)
theorem Sg{c:Ci}(h:¬ (BI c).2=0):(BI c).1=zM:=by
 unfold BI at h ⊢
 split
 ·rfl
 ·rename_i h1
  rw[if_neg h1]at h
  split
  ·rfl
  ·rename_i h2
   rw[if_neg h2]at h
   exact absurd rfl h
theorem HY{c:Ci}(h:(BI c).2=0):BI c=(Au c,0)∧c.right=true∧¬ 10<c.gr.inputs:=by
 unfold BI at h ⊢
 split
 ·rename_i h1;rw[if_pos h1]at h;cases h
 ·rename_i h1
  rw[if_neg h1]at h
  split
  ·rename_i h2;rw[if_pos h2]at h;cases h
  ·rename_i h2
   exact⟨rfl,by simpa using h1,h2⟩
theorem sY{S:Aa}{n:Nat}(s:Sp):Cv S n s.av s.av:=Tree.a (fun u hu=>by
 simp only[Sp.cells,Ai9,AiE,or_false]at hu
 rcases hu with rfl|rfl|rfl|rfl|rfl
 ·exact Tree.v _
 ·exact Ek _
 ·exact Ek _
 ·exact Tree.aL fun _ _=>D7 _
 ·exact Tree.aL fun _ _=>Ek _) S n
theorem AfP{c:Ci}(hc:c.ok){f:Fo}(hf:f.ok):BF Pg 48 [c.av,f.av] (.t [aL aB (IE c f).1,(IE c f).2.1.av,aI (IE c f).2.2]):=by
 intro S
 refine Ad.tree (oR ?_)
 dsimp only[m48,Fi,Lt,Lc]
 refine Ai rfl fun S1 k1 n1 o1=>?_
 refine Ai (Fo.Aj f) fun S2 k2 n2 o2=>?_
 refine Ai rfl fun S3 k3 n3 o3=>?_
 have p3:=(Kg k3 (Kg k2 o1))
 have q3:=(Kg k3 o2)
 have kk:=(k1.trans k2).trans k3
 rw[An (n:=8) p3 rfl,An (n:=4) q3 (Fo.Aj f)]
 refine Af (AfH hc hf) ?_
 rw[AJ,Ag]
 unfold IE
 refine Al (fun hm=>?_) (fun hm=>?_)
 ·rw[A6 (cs:=[aI 0,.nl,.nl,.nl,.nl]) rfl]
  refine AG o3 rfl rfl fun S4 n4 o4 f4=>?_
  rw[An (n:=5) o4 rfl]
  refine⟨_,rfl,kk.st (by omega) n4 f4,?_⟩
  rw[if_pos (by simpa using hm)]
  exact Vc .nl Nb (.v _)
 have hm:Ex c f=true:=by simpa using hm
 rw[if_neg (by rw[hm];decide),An (n:=8) p3 rfl]
 refine Af (vH hc) ?_
 rw[Co,Cn]
 refine Ai rfl fun S4 k4 n4 o4=>?_
 refine AG (cs':=(BI c).1.cells) o4 rfl rfl fun S5 n5 o5 f5=>?_
 have k5:=k4.st (AhN _) n5 f5
 have s5:=(Kg k5 o3)
 rw[Bl,Ag]
 refine Al (fun he=>?_) (fun he=>?_)
 ·have he:¬ (BI c).2=0:=by simpa using he
  rw[if_neg he]
  refine Gi (n:=5) o5 (by omega) rfl ?_
  refine AG s5 rfl rfl fun S6 n6 o6 f6=>?_
  rw[An (n:=5) o6 rfl]
  refine⟨_,rfl,(kk.trans k5).st (by omega) n6 f6,?_⟩
  rw[Sg he]
  exact Vc .nl (sY _) (.v _)
 ·have he:(BI c).2=0:=by simpa using he
  obtain⟨e1,e2,e3⟩:=HY he
  rw[if_pos he]
  rw[e1]at o5
  have hd:f.BQ 60=true:=by
   unfold Ex at hm
   simp only[AhO]at hm
   exact hm.2.1
  refine Gi (n:=8) (Kg k5 p3) (by omega) rfl ?_
  refine Gi (n:=5) o5 (by omega) rfl ?_
  refine Gi (n:=4) (Kg k5 q3) (by omega) (Fo.Aj f) ?_
  refine G0 (u9 hc (OG e2 e3) hf hd) ?_
  refine Gi (n:=5) o5 (by omega) rfl ?_
  refine AG (cs':=(Au c).cells) s5 rfl rfl fun S6 n6 o6 f6=>?_
  rw[An (n:=5) o6 rfl]
  exact⟨_,rfl,(kk.trans k5).st (by omega) n6 f6,Vc (Ek _ _ _) (sY _) (.v _)⟩
theorem IY(c:Ci)(f:Fo):BZ c f=((IE c f).1,(IE c f).2.2):=by
 unfold BZ IE
 split
 ·rfl
 ·split<;>rfl
theorem AfX{c:Ci}(hc:c.ok){f:Fo}(hf:f.ok):BF Pg 29 [c.av,f.av] (.t [aL aB (BZ c f).1,aI (BZ c f).2]):=by
 intro S
 rw[IY]
 refine Ad.tree (pJ ?_)
 unfold m29
 refine Ai rfl fun S1 k1 n1 o1=>?_
 refine Ai (Fo.Aj f) fun S2 k2 n2 o2=>?_
 rw[An (n:=8) (Kg k2 o1) rfl,An (n:=4) o2 (Fo.Aj f)]
 refine Af (AfP hc hf) ?_
 rw[Co,Cn,JH]
 refine Ai rfl fun S3 k3 n3 o3=>?_
 refine AG (cs':=(IE c f).2.1.cells) o3 rfl rfl fun S4 n4 o4 f4=>?_
 exact⟨_,rfl,(k1.trans k2).trans (k3.st (AhN _) n4 f4),DU (Ek _ _ _) (.v _)⟩
theorem yR{a b:List Bool}(ha:a.length<1048576)(hab:a.length=b.length):BF Pg 147 [aL aB a,aL aB b] (aL aB (CG a.length fun i=>bit a i && !bit b i)):=by
 refine Ad.GY (f:=fun b=>.bool b) (e:=4) fun S=>cS ?_
 unfold Ad9
 refine Wl (fun y x S'=>Am S S'∧∃ i:Nat,x=aI i∧i≤a.length∧A4 S.n S' y 4 ((CG i fun i=>bit a i && !bit b i).map fun b=>[aB b]))
  (fun _ x _=>a.length - ((Aw x).getD 0).toNat) ⟨Am.refl S,0,rfl,AhS _,.nl _ _ _⟩ ?_
 dsimp only[Dw]
 rintro y _ S1 ⟨k1,i,rfl,hi,w1⟩ KE hKE
 dsimp only[fQ,Fi]
 rw[Ax,As,Ag]
 refine Al (fun h=>?_) (fun h=>?_)
 ·have hlt:i<a.length:=by simpa using h
  have hadd:∀ K:AV→Aa→Prop,∀ S,bin .add 0 (.v (.int .i64 (i:Int))) (.v (.int .i64 1)) S K=K (aI (i+1:Nat)) S:=fun K S=>Ar (by omega) (by omega) 0
  have hμ:a.length - ((Aw (aI (i+1:Nat))).getD 0).toNat<a.length - ((Aw (aI i)).getD 0).toNat:=by simp[Aw];omega
  have step:∀ c:Bool,c=(bit a i && !bit b i)→Bo 4 1 1 y (.l [[aB c]]) S1 fun v10 S=>bin .add 0 (.v (.int .i64 (i:Int))) (.v (.int .i64 1)) S fun v11 S=>KE 28 (EW (aL aB a) (aL aB b) v10 v11) S:=by
   intro c hc
   refine w1.app (b:=1) (c:=[aB c]) (y:=.l [[aB c]]) (by have:=k1.1;omega) rfl (by simp;omega) (fun x' S5 ho5 hb5 hx5=>?_) rfl
   rw[hadd]
   refine hKE _ _ _ ⟨w1.AR (AhN _) hb5 k1,i+1,rfl,hlt,?_⟩ hμ
   rw[Hh,AhU,←hc]
   exact ho5
  rw[AM hlt,A1,Ag]
  refine Al (fun h=>?_) (fun h=>?_)
  ·rw[AM (by omega:i<b.length),A1,AJ]
   refine BM rfl (fun _ h=>by cases h) (step _ ?_)
   rw[Bc hlt,Bc (by omega),h];rfl
  ·refine BM rfl (fun _ h=>by cases h) (step false ?_)
   rw[Bc hlt,h];rfl
 ·have hge:i=a.length:=by simp at h;omega
  subst hge
  exact⟨_,rfl,k1,w1⟩
theorem T5{a b:List Bool}(ha:a.length<1048576)(hab:a.length=b.length):BF Pg 125 [aL aB a,aL aB b] (aL aB (EC a b)):=by
 intro S
 refine Ad.B2 (f:=fun b=>.bool b) (dM ?_)
 unfold AdS
 exact Af (iQ ha hab) ⟨rfl,Am.refl _⟩
structure Tr (c:Ci) (s:Sp) (fr:List Bool) (tid:Nat) (S:Aa):Prop where
 obj:S.obj tid=some (.cells 129 [c.cells++s.cells ++ [aL aB fr]] true)
 lt:tid<S.n
theorem Tr.AR{c:Ci}{s:Sp}{fr:List Bool}{tid:Nat}{S T:Aa}(h:Tr c s fr tid S)(k:Am S T):Tr c s fr tid T:=⟨(k.2 _ h.lt).trans h.obj,Nat.lt_of_lt_of_le h.lt k.1⟩
section
variable {c:Ci} {s:Sp} {fr:List Bool} {tid:Nat} {S:Aa}
theorem Tr.UY(h:Tr c s fr tid S){K:AV→Aa→Prop}:Ay (.p tid 0 (0+8+1)) S K=K (aL aB s.valid) S:=Ae h.obj rfl rfl
theorem Tr.ldf(h:Tr c s fr tid S){K:AV→Aa→Prop}:Ay (.p tid 0 (0+13)) S K=K (aL aB fr) S:=Ae h.obj rfl rfl
theorem Tr.xK(h:Tr c s fr tid S){K:AV→Aa→Prop}:AB 5 (.p tid 0 (0+8)) S K=K s.av S:=Jz (n:=5) (cs':=s.cells) h.obj (by simp[Ci.cells,Sp.cells]) rfl
theorem Tr.ldc(h:Tr c s fr tid S){K:AV→Aa→Prop}:AB 8 (.p tid 0 (0+0)) S K=K c.av S:=Jz (n:=8) (cs':=c.cells) h.obj (by simp[Ci.cells,Sp.cells]) rfl
variable (hs:LA s) (hfr:In s fr)
include hs
theorem iA(h:Tr c s fr tid S){p:List Bool}(hp:p.length=s.valid.length):AT Pg 124 [.p tid 0 0,aL aB p] S (aL aB (A5 s p)):=by
 refine Ad.B2 (f:=fun b=>.bool b) (dN ?_)
 have hv:=hs.small.h1
 dsimp only[AdT,Lf]
 rw[AH,Ac,Ac,h.UY]
 exact Af (yR (by omega) hp.symm) ⟨rfl,Am.refl _⟩
theorem hG(h:Tr c s fr tid S){p:List Bool}(hp:p.length=s.valid.length):AT Pg 128 [.p tid 0 0,aL aB p] S (aL aB (DO s p)):=by
 refine Ad.B2 (f:=fun b=>.bool b) (dJ ?_)
 unfold AdP
 have c2:=vA hs.sm p
 rw[Qk (hs.fit hp)]at c2
 rw[AH,Ac,h.xK]
 exact Af c2 ⟨rfl,Am.refl _⟩
include hfr
theorem hZ(h:Tr c s fr tid S){p:List Bool}(hp:p.length=s.valid.length):AT Pg 126 [.p tid 0 0,aL aB p] S (aL aB (Dz s fr p)):=by
 refine Ad.B2 (f:=fun b=>.bool b) (dL ?_)
 dsimp only[AdR,Lq,Ld]
 have hv:=hs.small.h1
 have c1:=E5 (a:=p) (b:=fr) (by omega) (hp.trans hfr.len.symm)
 have c2:=T6 hs.sm (Bm p fr)
 rw[jR (hs.fit (by simp[hp]))]at c2
 have l1:∀(P:AV→Prop),(∃ q,(AB 5 (.p tid 0 (0+8)) S fun v S'=>v=q∧S'=S)∧P q)=P s.av:=fun P=>HU (op:=fun K=>AB 5 (.p tid 0 (0+8)) S K) fun K=>h.xK
 have l2:∀(P:AV→Prop),(∃ q,(Ay (.p tid 0 (0+13)) S fun v S'=>v=q∧S'=S)∧P q)=P (aL aB fr):=fun P=>HU (op:=fun K=>Ay (.p tid 0 (0+13)) S K) fun K=>h.ldf
 show ∃ q:AV,_
 (repeat (first|with_reducible_and_instances (first|refine WJ ?_|refine W (Nu) ?_|refine W (l1 _) ?_|refine W (l2 _) ?_|refine W (AN (by with_unfolding_all rfl)) ?_)|refine BE (c1) rfl rfl ?_|refine CT (c1) rfl rfl ?_|refine BE (c2) rfl rfl ?_|refine CT (c2) rfl rfl ?_))
 exact⟨rfl,Am.refl _⟩
theorem hJ(h:Tr c s fr tid S){p q:List Bool}(hp:p.length=s.valid.length)(hq:q.length=s.valid.length):AT Pg 127 [.p tid 0 0,aL aB p,aL aB q] S (aL aB (Bn s fr p q)):=by
 refine Ad.B2 (f:=fun b=>.bool b) (dK ?_)
 dsimp only[AdQ,Lq,Ld]
 have hv:=hs.small.h1
 have c1:=E5 (a:=q) (b:=fr) (by omega) (hq.trans hfr.len.symm)
 have c2:=iX hs.sm p (Bm q fr)
 rw[Ue (hs.fit hp) (hs.fit (by simp[hq]))]at c2
 have l1:∀(P:AV→Prop),(∃ q,(AB 5 (.p tid 0 (0+8)) S fun v S'=>v=q∧S'=S)∧P q)=P s.av:=fun P=>HU (op:=fun K=>AB 5 (.p tid 0 (0+8)) S K) fun K=>h.xK
 have l2:∀(P:AV→Prop),(∃ q,(Ay (.p tid 0 (0+13)) S fun v S'=>v=q∧S'=S)∧P q)=P (aL aB fr):=fun P=>HU (op:=fun K=>Ay (.p tid 0 (0+13)) S K) fun K=>h.ldf
 show ∃ q:AV,_
 (repeat (first|with_reducible_and_instances (first|refine WJ ?_|refine W (Nu) ?_|refine W (l1 _) ?_|refine W (l2 _) ?_|refine W (AN (by with_unfolding_all rfl)) ?_)|refine BE (c1) rfl rfl ?_|refine CT (c1) rfl rfl ?_|refine BE (c2) rfl rfl ?_|refine CT (c2) rfl rfl ?_))
 exact⟨rfl,Am.refl _⟩
end
theorem EB{k j:Int}(h:¬ k=j){S:Aa}{A B:Aa→Prop}(hB:B S):bin .eql 0 (.v (.int .i64 k)) (.v (.int .i64 j)) S (fun v S=>KC v fun b=>gd b (A S) (B S)):=by
 rw[AA,Ag,decide_eq_false h];exact hB
theorem CK{k j:Int}(h:k=j){S:Aa}{A B:Aa→Prop}(hA:A S):bin .eql 0 (.v (.int .i64 k)) (.v (.int .i64 j)) S (fun v S=>KC v fun b=>gd b (A S) (B S)):=by
 rw[AA,Ag,decide_eq_true h];exact hA
set_option linter.unusedSectionVars false
section
variable {c:Ci} {s:Sp} {fr:List Bool} {tid:Nat} (hs:LA s) (hfr:In s fr) (hc:c.ok)
include hs hfr hc
theorem X8(k:Int)(n:ByteArray)(hk:k=1∨k=2){S:Aa}(h:Tr c s fr tid S):AT Pg 86 [.p tid 0 0,Fo.av (.mk k n 0 [])] S (aL aB (Fo.C9 s fr (CE c s) (.mk k n 0 []))):=by
    have hv:s.valid.length≤1000000:=by have:=hs.small.h1;omega
    refine Ad.B2 (f:=fun b=>.bool b) (L9 ?_)
    dsimp only[m86,N2,N3,N4,N5,N6,Li,Lj,Fi,Lf,Lq,Ld]
    rw[Fo.av,Fo.AD]
    refine Ai rfl fun S1 k1 n1 o1=>?_
    have h1:=h.AR k1
    rw[Ac,Ae o1 rfl rfl,BJ,AO,Ag]
    have nn:=fun{q:List Bool} (hq:q.length=s.valid.length)=>iA hs h1 hq
    have nx:=fun{q:List Bool} (hq:q.length=s.valid.length)=>hZ hs hfr h1 hq
    have un:=fun{p q:List Bool} (hp:p.length=s.valid.length) (hq:q.length=s.valid.length)=>hJ hs hfr h1 hp hq
    have al:=fun{q:List Bool} (hq:q.length=s.valid.length)=>hG hs h1 hq
    have an:=fun{p q:List Bool} (hp:p.length=s.valid.length) (hq:q.length=s.valid.length)=>E5 (a:=p) (b:=q) (by omega) (hp.trans hq.symm)
    have orr:=fun{p q:List Bool} (hp:p.length=s.valid.length) (hq:q.length=s.valid.length)=>T5 (a:=p) (b:=q) (by omega) (hp.trans hq.symm)
    have lx:∀{q:List Bool},q.length=s.valid.length→(Dz s fr q).length=s.valid.length:=fun hq=>by simp[Dz,hq]
    have lu:∀{p q:List Bool},q.length=s.valid.length→(Bn s fr p q).length=s.valid.length:=fun hq=>by simp[Bn,hq]
    have lg:∀{q:List Bool},q.length=s.valid.length→(DO s q).length=s.valid.length:=fun hq=>by simp[hq]
    have ln:∀{q:List Bool},(A5 s q).length=s.valid.length:=fun{q}=>(Bp s q).len
    have la:∀{p q:List Bool},p.length=s.valid.length→(Bm p q).length=s.valid.length:=fun hq=>by simp[hq]
    have lo:∀{p q:List Bool},p.length=s.valid.length→(EC p q).length=s.valid.length:=fun hq=>by simp[hq]
    rw[Be (decide_eq_false (by decide))]
    rw[Ac,Ae o1 rfl rfl,BJ,AO,Ag,Be (decide_eq_false (by decide))]
    rw[Ac,Ae o1 rfl rfl]
    rcases hk with rfl|rfl
    ·repeat (refine EB (by decide) ?_)
     refine CK rfl ?_
     rw[AH,Ac,Ac,h1.UY]
     refine At (nn rfl) ?_
     exact⟨by rw[DX],k1⟩
    ·repeat (refine EB (by decide) ?_)
     refine CK rfl ?_
     rw[AH,Ac,Ac,h1.UY]
     exact⟨by rw[EE],k1⟩
theorem kW(l:Int)(n:ByteArray)(hl:Bv l){S:Aa}(h:Tr c s fr tid S):AT Pg 86 [.p tid 0 0,Fo.av (.mk 3 n l [])] S (aL aB (Fo.C9 s fr (CE c s) (.mk 3 n l []))):=by
    have hv:s.valid.length≤1000000:=by have:=hs.small.h1;omega
    rw[C8]
    refine Dq (f:=fun b=>.bool b) (e:=4) (L9 ?_)
    dsimp only[m86,N2,N3,N4,N5,N6,Li,Lj,Fi,Lf,Lq,Ld]
    rw[Fo.av,Fo.AD]
    refine Ai rfl fun S1 k1 n1 o1=>?_
    have h1:=h.AR k1
    rw[Ac,Ae o1 rfl rfl,BJ,AO,Ag]
    rw[Be (decide_eq_false (by decide))]
    rw[Ac,Ae o1 rfl rfl,BJ,AO,Ag,Be (decide_eq_false (by decide))]
    rw[Ac,Ae o1 rfl rfl]
    repeat (refine EB (by decide) ?_)
    let g:Nat→Bool:=fun i=>bit s.valid i && DM c i l
    refine Zc (fun y x S'=>Am S1 S'∧∃ i:Nat,x=aI i∧i≤s.valid.length∧A4 S1.n S' y 4 ((CG i g).map fun b=>[aB b]))
     (fun _ x _=>s.valid.length - ((Aw x).getD 0).toNat) ⟨Am.refl S1,0,rfl,AhS _,.nl _ _ _⟩ ?_
    dsimp only[Dw]
    rintro y _ S2 ⟨k2,i,rfl,hi,w2⟩ KE hKE
    have h2:=h1.AR k2
    dsimp only[tE,Fi,Lf,Lt,Lc]
    rw[AH,Ac,Ac,h2.UY,Ax,As,Ag]
    refine Al (fun hlt=>?_) (fun hge=>?_)
    ·have hlt:i<s.valid.length:=by simpa using hlt
     have hadd:∀ K:AV→Aa→Prop,∀ S,bin .add 0 (.v (.int .i64 (i:Int))) (.v (.int .i64 1)) S K=K (aI (i+1:Nat)) S:=fun K S=>Ar (by omega) (by omega) 0
     have hμ:s.valid.length - ((Aw (aI (i+1:Nat))).getD 0).toNat<s.valid.length - ((Aw (aI i)).getD 0).toNat:=by simp[Aw];omega
     have step:∀ b:Bool,b=g i→Bo 4 1 1 y (.l [[aB b]]) S2 fun v10 T=>bin .add 0 (.v (.int .i64 (i:Int))) (.v (.int .i64 1)) T fun v11 T=>KE 214 (GP (.p tid 0 0) (.p S.n 0 0) v10 v11) T:=by
      intro b hb
      refine w2.app (b:=1) (c:=[aB b]) (y:=.l [[aB b]]) (by have:=k2.1;omega) rfl (by simp;omega) (fun x' S5 ho5 hb5 hx5=>?_) rfl
      rw[hadd]
      refine hKE _ _ _ ⟨w2.AR (AhN _) hb5 k2,i+1,rfl,hlt,?_⟩ hμ
      rw[Hh,AhU,←hb]
      exact ho5
     have o2:=(Kg k2 o1)
     refine⟨_,fun T hT=>by rw[AH];exact⟨rfl,rfl⟩,?_⟩
     refine Cj ?_
     refine Cj ?_
     refine⟨_,fun T hT=>by rw[(h2.AR hT).UY];exact⟨rfl,rfl⟩,?_⟩
     refine⟨_,fun T hT=>by rw[AM hlt];exact⟨rfl,rfl⟩,?_⟩
     refine AgC rfl ?_
     rw[Ag]
     refine Al (fun hb=>?_) (fun hb=>?_)
     ·refine⟨_,fun T hT=>by rw[AH];exact⟨rfl,rfl⟩,?_⟩
      refine Cj ?_
      refine⟨_,fun T hT=>by rw[(h2.AR hT).ldc];exact⟨rfl,rfl⟩,?_⟩
      refine Cj ?_
      refine Ko o2 (by have:=k2.1;omega) rfl rfl ?_
      refine G0 (IU hc hl) ?_
      refine AgB ?_
      refine⟨_,fun T hT=>BM rfl (fun _ h=>by cases h) ⟨rfl,rfl⟩,?_⟩
      exact step _ (by show _=(bit s.valid i && DM c i l);rw[Bc hlt,hb,AhQ])
     ·refine AgB ?_
      refine⟨_,fun T hT=>BM rfl (fun _ h=>by cases h) ⟨rfl,rfl⟩,?_⟩
      exact step _ (by show _=(bit s.valid i && DM c i l);rw[Bc hlt,hb,AhV])
    ·have hge:i=s.valid.length:=by simp at hge;omega
     subst hge
     exact⟨_,rfl,k1.trans k2,w2.low k1.1⟩
theorem wX(k:Int)(n:ByteArray)(f:Fo)(hk:k=4∨9≤k∧k≤14){S:Aa}(h:Tr c s fr tid S)(hp:In s (f.C9 s fr (CE c s)))
    (ih:∀{T:Aa},Tr c s fr tid T→AT Pg 86 [.p tid 0 0,f.av] T (aL aB (f.C9 s fr (CE c s)))):AT Pg 86 [.p tid 0 0,Fo.av (.mk k n 0 [f])] S (aL aB (Fo.C9 s fr (CE c s) (.mk k n 0 [f]))):=by
    have hv:s.valid.length≤1000000:=by have:=hs.small.h1;omega
    have hp:=hp.len
    rw[CI (by omega)]
    generalize hpp:f.C9 s fr (CE c s)=p at *
    refine Ad.B2 (f:=fun b=>.bool b) (L9 ?_)
    dsimp only[m86,N2,N3,N4,N5,N6,Li,Lj,Fi,Lf,Lq,Ld]
    rw[Fo.av,Fo.AD]
    refine Ai rfl fun S1 k1 n1 o1=>?_
    have h1:=h.AR k1
    rw[Ac,Ae o1 rfl rfl,BJ,AO,Ag]
    have nn:=fun{q:List Bool} (hq:q.length=s.valid.length)=>iA hs h1 hq
    have nx:=fun{q:List Bool} (hq:q.length=s.valid.length)=>hZ hs hfr h1 hq
    have un:=fun{p q:List Bool} (hp:p.length=s.valid.length) (hq:q.length=s.valid.length)=>hJ hs hfr h1 hp hq
    have al:=fun{q:List Bool} (hq:q.length=s.valid.length)=>hG hs h1 hq
    have an:=fun{p q:List Bool} (hp:p.length=s.valid.length) (hq:q.length=s.valid.length)=>E5 (a:=p) (b:=q) (by omega) (hp.trans hq.symm)
    have orr:=fun{p q:List Bool} (hp:p.length=s.valid.length) (hq:q.length=s.valid.length)=>T5 (a:=p) (b:=q) (by omega) (hp.trans hq.symm)
    have lx:∀{q:List Bool},q.length=s.valid.length→(Dz s fr q).length=s.valid.length:=fun hq=>by simp[Dz,hq]
    have lu:∀{p q:List Bool},q.length=s.valid.length→(Bn s fr p q).length=s.valid.length:=fun hq=>by simp[Bn,hq]
    have lg:∀{q:List Bool},q.length=s.valid.length→(DO s q).length=s.valid.length:=fun hq=>by simp[hq]
    have ln:∀{q:List Bool},(A5 s q).length=s.valid.length:=fun{q}=>(Bp s q).len
    have la:∀{p q:List Bool},p.length=s.valid.length→(Bm p q).length=s.valid.length:=fun hq=>by simp[hq]
    have lo:∀{p q:List Bool},p.length=s.valid.length→(EC p q).length=s.valid.length:=fun hq=>by simp[hq]
    rw[Bb (decide_eq_true (by simp))]
    rw[Ac,Ae o1 rfl rfl,show ∀ K:AV→Aa→Prop,AS 32 4 (Du [f]) (.v (.int .i64 0)) S1 K=K (.q f.row 0) S1 from fun K=>Cg (l:=[f]) (i:=0) (by simp),Ca (Fo.Aj f)]
    refine At (ih h1) ?_
    rw[Ac,Ae o1 rfl rfl,BJ,AO,Ag,Be (decide_eq_false (by simp))]
    rw[Ac,Ae o1 rfl rfl]
    obtain rfl|rfl|rfl|rfl|rfl|rfl|rfl:k=4∨k=9∨k=10∨k=11∨k=12∨k=13∨k=14:=by omega
    ·repeat (refine EB (by decide) ?_)
     refine CK rfl ?_
     exact At (nn hp) ⟨rfl,k1⟩
    ·repeat (refine EB (by decide) ?_)
     refine CK rfl ?_
     exact At (nx hp) ⟨rfl,k1⟩
    ·repeat (refine EB (by decide) ?_)
     refine CK rfl ?_
     exact At (nn hp) (At (nx ln) (At (nn (lx ln)) ⟨rfl,k1⟩))
    ·repeat (refine EB (by decide) ?_)
     refine CK rfl ?_
     rw[AH,Ac,Ac,h1.UY]
     exact At (un rfl hp) ⟨rfl,k1⟩
    ·repeat (refine EB (by decide) ?_)
     refine CK rfl ?_
     exact At (nn hp) (At (al ln) (At (nn (lg ln)) ⟨rfl,k1⟩))
    ·repeat (refine EB (by decide) ?_)
     refine CK rfl ?_
     exact At (al hp) ⟨rfl,k1⟩
    ·repeat (refine EB (by decide) ?_)
     refine CK rfl ?_
     have c1:=nn hp
     have c2:=un (p:=s.valid) rfl (ln (q:=p))
     have c3:=nn (lu (p:=s.valid) (ln (q:=p)))
     have l1:∀(P:AV→Prop),(∃ q,(Ay (.p tid 0 (0+8+1)) S1 fun v S'=>v=q∧S'=S1)∧P q)=P (aL aB s.valid):=fun P=>HU (op:=fun K=>Ay (.p tid 0 (0+8+1)) S1 K) fun K=>h1.UY
     show ∃ q:AV,_
     (repeat (first|with_reducible_and_instances (first|refine WJ ?_|refine W (Nu) ?_|refine W (l1 _) ?_|refine W (AN (by with_unfolding_all rfl)) ?_)|refine FK (c1) rfl rfl ?_|refine NL (c1) rfl rfl ?_|refine FK (c2) rfl rfl ?_|refine NL (c2) rfl rfl ?_|refine FK (c3) rfl rfl ?_|refine NL (c3) rfl rfl ?_))
     exact⟨rfl,k1⟩
theorem wW(k:Int)(n:ByteArray)(f g:Fo)(hk:5≤k∧k≤8∨15≤k∧k≤18){S:Aa}(h:Tr c s fr tid S)(hp:In s (f.C9 s fr (CE c s)))(hq:In s (g.C9 s fr (CE c s)))
    (ih:∀{T:Aa},Tr c s fr tid T→AT Pg 86 [.p tid 0 0,f.av] T (aL aB (f.C9 s fr (CE c s))))
    (ih2:∀{T:Aa},Tr c s fr tid T→AT Pg 86 [.p tid 0 0,g.av] T (aL aB (g.C9 s fr (CE c s)))):AT Pg 86 [.p tid 0 0,Fo.av (.mk k n 0 [f,g])] S (aL aB (Fo.C9 s fr (CE c s) (.mk k n 0 [f,g]))):=by
    have hv:s.valid.length≤1000000:=by have:=hs.small.h1;omega
    have hp:=hp.len
    have hq:=hq.len
    rw[CH (by omega)]
    generalize hpp:f.C9 s fr (CE c s)=p at *
    generalize hqq:g.C9 s fr (CE c s)=q at *
    refine Ad.B2 (f:=fun b=>.bool b) (L9 ?_)
    dsimp only[m86,N2,N3,N4,N5,N6,Li,Lj,Fi,Lf,Lq,Ld]
    rw[Fo.av,Fo.AD]
    refine Ai rfl fun S1 k1 n1 o1=>?_
    have h1:=h.AR k1
    rw[Ac,Ae o1 rfl rfl,BJ,AO,Ag]
    have nn:=fun{q:List Bool} (hq:q.length=s.valid.length)=>iA hs h1 hq
    have nx:=fun{q:List Bool} (hq:q.length=s.valid.length)=>hZ hs hfr h1 hq
    have un:=fun{p q:List Bool} (hp:p.length=s.valid.length) (hq:q.length=s.valid.length)=>hJ hs hfr h1 hp hq
    have al:=fun{q:List Bool} (hq:q.length=s.valid.length)=>hG hs h1 hq
    have an:=fun{p q:List Bool} (hp:p.length=s.valid.length) (hq:q.length=s.valid.length)=>E5 (a:=p) (b:=q) (by omega) (hp.trans hq.symm)
    have orr:=fun{p q:List Bool} (hp:p.length=s.valid.length) (hq:q.length=s.valid.length)=>T5 (a:=p) (b:=q) (by omega) (hp.trans hq.symm)
    have lx:∀{q:List Bool},q.length=s.valid.length→(Dz s fr q).length=s.valid.length:=fun hq=>by simp[Dz,hq]
    have lu:∀{p q:List Bool},q.length=s.valid.length→(Bn s fr p q).length=s.valid.length:=fun hq=>by simp[Bn,hq]
    have lg:∀{q:List Bool},q.length=s.valid.length→(DO s q).length=s.valid.length:=fun hq=>by simp[hq]
    have ln:∀{q:List Bool},(A5 s q).length=s.valid.length:=fun{q}=>(Bp s q).len
    have la:∀{p q:List Bool},p.length=s.valid.length→(Bm p q).length=s.valid.length:=fun hq=>by simp[hq]
    have lo:∀{p q:List Bool},p.length=s.valid.length→(EC p q).length=s.valid.length:=fun hq=>by simp[hq]
    rw[Bb (decide_eq_true (by simp))]
    rw[Ac,Ae o1 rfl rfl,show ∀ K:AV→Aa→Prop,AS 32 4 (Du [f,g]) (.v (.int .i64 0)) S1 K=K (.q f.row 0) S1 from fun K=>Cg (l:=[f,g]) (i:=0) (by simp),Ca (Fo.Aj f)]
    refine At (ih h1) ?_
    rw[Ac,Ae o1 rfl rfl,BJ,AO,Ag,Bb (decide_eq_true (by simp))]
    rw[Ac,Ae o1 rfl rfl,show ∀ K:AV→Aa→Prop,AS 32 4 (Du [f,g]) (.v (.int .i64 1)) S1 K=K (.q g.row 0) S1 from fun K=>Cg (l:=[f,g]) (i:=1) (by simp),Ca (Fo.Aj g)]
    refine At (ih2 h1) ?_
    rw[Ac,Ae o1 rfl rfl]
    obtain rfl|rfl|rfl|rfl|rfl|rfl|rfl|rfl:k=5∨k=6∨k=7∨k=8∨k=15∨k=16∨k=17∨k=18:=by omega
    ·repeat (refine EB (by decide) ?_)
     refine CK rfl ?_
     exact Af (an hp hq) ⟨rfl,k1⟩
    ·repeat (refine EB (by decide) ?_)
     refine CK rfl ?_
     exact Af (orr hp hq) ⟨rfl,k1⟩
    ·repeat (refine EB (by decide) ?_)
     refine CK rfl ?_
     exact At (nn hp) (Af (orr ln hq) ⟨rfl,k1⟩)
    ·repeat (refine EB (by decide) ?_)
     refine CK rfl ?_
     exact Af (an hp hq) (Af (orr hp hq) (At (nn (lo hp)) (Af (orr (la hp) ln) ⟨rfl,k1⟩)))
    ·repeat (refine EB (by decide) ?_)
     refine CK rfl ?_
     exact At (un hp hq) ⟨rfl,k1⟩
    ·repeat (refine EB (by decide) ?_)
     refine CK rfl ?_
     exact At (nn hq) (Af (orr hp hq) (At (nn (lo hp)) (At (un ln ln) (At (nn hq) (At (al ln) (Af (orr (lu ln) (lg ln)) (At (nn (lo (lu ln))) ⟨rfl,k1⟩)))))))
    ·repeat (refine EB (by decide) ?_)
     refine CK rfl ?_
     exact At (al hq) (Af (an hp hq) (At (un hq (la hp)) (Af (orr (lg hq) (lu (la hp))) ⟨rfl,k1⟩)))
    ·repeat (refine EB (by decide) ?_)
     refine CK rfl ?_
     exact At (nn hp) (At (nn hq) (At (un ln ln) (At (nn (lu ln)) ⟨rfl,k1⟩)))
theorem Ah5:∀(f:Fo),f.ok→∀ d,f.BQ d=true→∀{S:Aa},Tr c s fr tid S→AT Pg 86 [.p tid 0 0,f.av] S (aL aB (f.C9 s fr (CE c s))):=by
 intro f
 induction f using Fo.ind with
 |h k n l ks ih =>
  intro hf d hd S h
  obtain⟨_,_,hk⟩:=Dt hd
  have hfk:∀ g∈ks,g.ok:=by cases hf;assumption
  have hl:Bv l:=by cases hf;assumption
  have hat:∀ l,In s (CE c s l):=fun l=>Ey _ _
  rcases hk with⟨hk,rfl,rfl⟩|⟨rfl,rfl,h0⟩|⟨hk,rfl,f,rfl,hf1⟩|⟨hk,rfl,f,g,rfl,hf1,hg1⟩
  ·exact X8 hs hfr hc k n hk h
  ·exact kW hs hfr hc l n hl h
  ·exact wX hs hfr hc k n f hk h (FI hat f _ hf1) fun{T} hT=>ih f (by simp) (hfk f (by simp)) _ hf1 hT
  ·exact wW hs hfr hc k n f g hk h (FI hat f _ hf1) (FI hat g _ hg1) (fun{T} hT=>ih f (by simp) (hfk f (by simp)) _ hf1 hT) fun{T} hT=>ih g (by simp) (hfk g (by simp)) _ hg1 hT
end
theorem AfU{c:Ci}(hc:c.ok){f:Fo}(hf:f.ok):BF Pg 39 [c.av,f.av] (.t [aL aB (BZ c f).1,aI (BZ c f).2]):=by
 intro S
 refine Ad.tree (pB ?_)
 dsimp only[m39,Fi,Lt,Lc]
 refine Ai rfl fun S1 k1 n1 o1=>?_
 refine Ai (Fo.Aj f) fun S2 k2 n2 o2=>?_
 have p2:=(Kg k2 o1)
 have kk:=k1.trans k2
 rw[An (n:=8) p2 rfl,An (n:=4) o2 (Fo.Aj f)]
 refine Af (vG hc hf) ?_
 rw[AJ,Ag]
 unfold BZ
 refine Al (fun hm=>?_) (fun hm=>?_)
 ·refine⟨_,rfl,kk,?_⟩
  rw[if_pos (by simpa using hm)]
  exact DU .nl (.v _)
 have hm:Ex c f=true:=by simpa using hm
 rw[if_neg (by rw[hm];decide),An (n:=8) p2 rfl]
 refine Af (Ag3 hc) ?_
 rw[Co,Cn]
 refine Ai rfl fun S4 k4 n4 o4=>?_
 refine AG (cs':=(BI c).1.cells) o4 rfl rfl fun S5 n5 o5 f5=>?_
 have k5:=k4.st (AhN _) n5 f5
 rw[Bl,Ag]
 refine Al (fun he=>?_) (fun he=>?_)
 ·have he:¬ (BI c).2=0:=by simpa using he
  rw[if_neg he]
  exact⟨_,rfl,kk.trans k5,DU .nl (.v _)⟩
 ·have he:(BI c).2=0:=by simpa using he
  obtain⟨e1,e2,e3⟩:=HY he
  rw[if_pos he]
  rw[e1]at o5
  have hs:=OG e2 e3
  have hd:f.BQ 60=true:=by
   unfold Ex at hm
   simp only[AhO]at hm
   exact hm.2.1
  have cg:=vA hs.sm (Au c).valid
  rw[Qk (hs.fit rfl)]at cg
  refine Gi (n:=8) (Kg k5 p2) (by omega) rfl ?_
  refine Gi (n:=5) o5 (by omega) rfl ?_
  refine Gi (n:=5) o5 (by omega) rfl ?_
  refine Cj ?_
  refine Ko o5 (by omega) rfl rfl ?_
  refine G0 cg ?_
  refine⟨_,fun T hT=>by rw[A6 (cs:=c.cells++(Au c).cells ++ [aL aB (DO (Au c) (Au c).valid)]) rfl];exact⟨rfl,rfl⟩,?_⟩
  refine Ai rfl fun S6 k6 n6 o6=>?_
  rw[An (n:=4) (Kg k6 (Kg k5 o2)) (Fo.Aj f)]
  refine At (Ah5 hs (In.eg rfl) hc f hf 60 hd (S:=S6) ⟨o6,by omega⟩) ?_
  exact⟨_,rfl,(kk.trans k5).trans k6,DU (Ek _ _ _) (.v _)⟩
section
set_option maxRecDepth 100000
def m18(x0 x1 x2:AV)(S:Aa)(Q:Aq):Prop:=
 Ay x1 S fun a S=>bin .add 0 a (aI 1) S fun c S=>A8 1 x1 c S fun d S=>Ay x1 S fun e S=>Ay x2 S fun f S=>AF f S fun g S=>bin .gtr 0 e g S fun h S=>Fi h (Q (.ret (aI 0)) S) (Ay x2 S fun i S=>Ay x1 S fun k S=>bin .sub 0 k (aI 1) S fun l S=>AS 5 1 i l S fun m S=>Ay m S fun n S=>Cq .i64 n S fun o S=>bin .rem 0 o x0 S fun p S=>Q (.ret p) S)
theorem pW{x0 x1 x2:AV}{S:Aa}{Q:Aq}(h:m18 x0 x1 x2 S Q):Ad Pg 18 [x0,x1,x2] S Q:=
 Bj (n:=19) [[]] Tryz.func18 (by kernel_rfl) (Eq.mpr (by kernel_rfl) h)
def jX:Code:=(Tryz.f19.body).getD .skip
def r19:List ResultVar:=Tryz.f19.results.toList
def GS(y0 y4 y6 y8 y9:AV):List AV:=[y0,y4,y6,y8,y9]
def KQ:List Nat:=[0,4,6,8,9]
def MH:List (List Nat):=[KQ,[0]]
abbrev O3(a:AV)(S:Aa)(Q:Aq)(x0 x4 c d:AV):Prop:=Ah Pg 20 [a] S Q fun e S=>Ap KQ (vc Pg (jX.at_ [1,1,1,1,1,0,1,0,0]) (MH.drop 1)) 55 (GS x0 x4 c d e) S (Ak 0 (Av (vc Pg (jX.at_ [1,1,1,1,1,1]) (MH.drop 1)) (Ao Pg r19 Q)))
abbrev Y5(c:AV)(S:Aa)(x1:AV)(Q:Aq)(x0 x4 d:AV):Prop:=CD NI Cy [(0,c)] S fun e S=>Az 32 4 (.a Cy) S fun f S=>A8 4 f e S fun g S=>bin .eql 0 c (aI 3) S fun h S=>Fi h (AU 9 1 7 [.v (.string ByteArray.empty)] [(0,(.v (.string { data:=#[113] }))),(1,(.v (.string { data:=#[108,48] }))),(2,(.v (.string { data:=#[111,117,116] }))),(3,(.v (.string { data:=#[108,49] }))),(4,(.v (.string { data:=#[105,48] }))),(5,(.v (.string { data:=#[111,48] }))),(6,(.v (.string { data:=#[97,45,98] })))] S fun i S=>Ay x1 S fun k S=>Bg Pg k [aI 7] S (fun l S=>AS 9 1 i l S fun m S=>Ay m S fun n S=>shift f 1 S fun o S=>A8 1 o n S fun p S=>O3 c S Q x0 x4 d f) (fun u S=>Q (.pan u) S)) (O3 c S Q x0 x4 d f)
abbrev US(x1:AV)(S:Aa)(Q:Aq)(x0 x4 a:AV):Prop:=Ay x1 S fun c S=>Bg Pg c [aI 7] S (fun d S=>bin .quo 0 d (aI 5) S fun e S=>bin .sub 0 (aI 3) e S fun f S=>Y5 f S x1 Q x0 x4 a) (fun u S=>Q (.pan u) S)
def m19(x0 x1 x2 x3 x4:AV)(S:Aa)(Q:Aq):Prop:=
 Az 32 4 (.a Cy) S fun c S=>Ay x1 S fun d S=>Bg Pg d [aI 18] S (fun e S=>bin .add 0 (aI 1) e S fun f S=>bin .eql 0 x0 (aI 0) S fun g S=>Fi g (US x1 S Q x0 x4 c) (Ay x2 S fun h S=>Ay x3 S fun i S=>AF i S fun k S=>bin .geq 0 h k S fun l S=>Fi l (US x1 S Q x0 x4 c) (Ay x2 S fun m S=>bin .gtr 0 m (aI 30) S fun n S=>Fi n (US x1 S Q x0 x4 c) (Y5 f S x1 Q x0 x4 c)))) (fun u S=>Q (.pan u) S)
theorem pV{x0 x1 x2 x3 x4:AV}{S:Aa}{Q:Aq}(h:m19 x0 x1 x2 x3 x4 S Q):Ad Pg 19 [x0,x1,x2,x3,x4] S Q:=
 Bj (n:=55) MH Tryz.func19 (by kernel_rfl) (Eq.mpr (by kernel_rfl) h)
def uR(y0 y4 y6 y8 y9:AV)(S:Aa)(KE0:By)(Q:Aq):Prop:=
 bin .gtr 0 y9 (aI 0) S fun a S=>Fi a (Lt S (shift y8 3) fun c=>Lt S (Ay c) fun d=>Lt S (Ay y4) fun e=>Lt S (bin .sub 0 y0 (aI 1)) fun f=>Bg Pg e [f] S (fun g S=>(∀ T:Aa,Am S T→Ay c T fun h S=>h=d∧S=T)∧(∀ T:Aa,Am S T→shift y8 3 T fun i S=>i=c∧S=T)∧Lt S (AU 32 4 1 Cy [(0,g)]) fun k=>Bo 32 4 56 d k S fun l S=>Lt S (shift y8 3) fun m=>A8 1 m l S fun n S=>bin .sub 0 y9 (aI 1) S fun o S=>KE0 55 (GS y0 y4 y6 y8 o) S) (fun u S=>Q (.pan u) S)) (AB 4 y8 S fun p S=>A8 4 y6 p S fun q S=>AB 4 y6 S fun r _=>Q (.ret r) S)
theorem ZQ{y0 y4 y6 y8:AV}{y90:AV}{S:Aa}{Q:Aq}(I:AV→Aa→Prop)(μ:AV→Aa→Nat)(h0:I y90 S)(hr:BS (fun y9=>GS y0 y4 y6 y8 y9) 55 I μ fun y9 S KE0=>uR y0 y4 y6 y8 y9 S KE0 Q):
 Ap KQ (vc Pg (jX.at_ [1,1,1,1,1,0,1,0,0]) (MH.drop 1)) 55 (GS y0 y4 y6 y8 y90) S (Ak 0 (Av (vc Pg (jX.at_ [1,1,1,1,1,1]) (MH.drop 1)) (Ao Pg r19 Q))):=DQ 4 (fun _=>rfl) (fun _ _ _=>by kernel_rfl) h0 hr
def m8(x0:AV)(S:Aa)(Q:Aq):Prop:=
 Az 23 1 x0 S fun c S=>Az 32 4 (.a Cy) S fun d S=>Az 3 1 (aI 0) S fun e S=>A8 1 e (aI 0) S fun g S=>Az 63 1 (.v .nilFunc) S fun h S=>A8 1 h (.f (.func 18) [] [e,c]) S fun i S=>Az 64 1 (.v .nilFunc) S fun k S=>A8 1 k (.f (.func 19) [] [h,e,c,k]) S fun l S=>Ay k S fun m S=>Bg Pg m [aI 6] S (fun n S=>A8 4 d n S fun o S=>AB 4 d S fun p _=>Q (.ret p) S) (fun u S=>Q (.pan u) S)
theorem xX{x0:AV}{S:Aa}{Q:Aq}(h:m8 x0 S Q):Ad Pg 8 [x0] S Q:=
 Bj (n:=10) [[0]] Tryz.func8 (by kernel_rfl) (Eq.mpr (by kernel_rfl) h)
end
abbrev yY(n:Int):AV:=.v (.int .u8 n)
def FC:List ByteArray:=[⟨#[113]⟩,⟨#[108,48]⟩,⟨#[111,117,116]⟩,⟨#[108,49]⟩,⟨#[105,48]⟩,⟨#[111,48]⟩,⟨#[97,45,98]⟩]
inductive Gg:Nat→Fo→Prop
 |mk (d:Nat) (k:Int) (n:ByteArray) (ks:List Fo) (h1:1≤k) (h2:k≤18) (h3:(ks.length:Int)=CB k) (h4:k=3→n∈FC) (h5:¬ k=3→n=⟨#[]⟩) (h6:ks≠[]→0<d) (h:∀ f∈ks,Gg (d - 1) f):Gg d (.mk k n 0 ks)
theorem JB(k:Int):CB k≤2:=by unfold CB;split;omega;split;omega;split<;>omega
theorem Fo.tree:∀(f:Fo),∀ u∈f.row,Tree u:=by
 intro f
 induction f using Fo.ind with
 |h k n l ks ih =>
  intro u hu
  rw[Fo.AD]at hu
  simp only[Ai9,AiE,or_false]at hu
  rcases hu with rfl|rfl|rfl|rfl
  ·exact Tree.v _
  ·exact Tree.v _
  ·exact Tree.v _
  ·refine Tree.l fun c hc u hu=>?_
   obtain⟨f,hf,rfl⟩:=Ai5.1 hc
   exact ih f hf u hu
theorem Gg.ok:∀(f:Fo) (d:Nat),Gg d f→f.ok:=by
 intro f
 induction f using Fo.ind with
 |h k n l ks ih =>
  intro d h
  cases h with
  |mk d _ _ _ h1 h2 h3 h4 h5 h6 h =>
   have hk:=JB k
   have hn:n.size≤3:=by
    by_cases hk:k=3
    ·have:=h4 hk
     simp only[FC,Ai9,AiE,or_false]at this
     rcases this with rfl|rfl|rfl|rfl|rfl|rfl|rfl<;>decide
    ·rw[h5 hk];decide
   exact .mk _ _ _ _ ⟨by omega,by omega⟩ ⟨by decide,by decide⟩ (by omega) (by omega) fun f hf=>ih f hf _ (h f hf)
theorem XV{S:Aa}{aid lid ta tl k:Nat}{l:List Int}{n:Int}{Q:Bh→Aa→Prop}(h1:S.obj aid=some (.cells ta [[aI k]] true))(h2:S.obj lid=some (.cells tl [[aL yY l]] true))(hne:lid≠aid)
    (hl:∀ x∈l,0≤x∧x<256) (hn:0<n) (hk:k≤1000000)
    (K:∀ S',S'.n=S.n→S'.obj aid=some (.cells ta [[aI (k+1:Nat)]] true)→(∀ x,x≠aid→S'.obj x=S.obj x)→Q (.ret (aI (BW l k n))) S'):Ad Pg 18 [aI n,.p aid 0 0,.p lid 0 0] S Q:=by
 refine pW ?_
 dsimp only[m18,Fi]
 have hadd:∀ K:AV→Aa→Prop,∀ S,bin .add 0 (.v (.int .i64 (k:Int))) (.v (.int .i64 1)) S K=K (aI (k+1:Nat)) S:=fun K S=>Ar (by omega) (by omega) 0
 rw[Ae h1 rfl rfl,hadd]
 refine B9 h1 rfl rfl fun S1 n1 o1 f1=>?_
 have p1:=(f1 lid hne).trans h2
 rw[Ae o1 rfl rfl,Ae p1 rfl rfl,Ax,AO,Ag]
 refine Al (fun h=>?_) (fun h=>?_)
 ·have h:=dT h
  have:=K S1 n1 o1 f1
  rw[BW,if_pos (by omega)]at this
  exact this
 ·have h:=dF h
  have hlt:k<l.length:=by omega
  have hx:=hl _ (AhP hlt)
  have hsub:∀ K:AV→Aa→Prop,∀ S,bin .sub 0 (.v (.int .i64 ((k+1:Nat):Int))) (.v (.int .i64 1)) S K=K (aI k) S:=fun K S=>(Bx (by omega) (by omega) 0).trans (by rw[show((k+1:Nat):Int) - 1=k by omega])
  rw[Ae p1 rfl rfl,Ae o1 rfl rfl,hsub,AM hlt,A1,Gc _ (by omega) (by omega),Ez (by omega)]
  have:=K S1 n1 o1 f1
  rw[BW,if_neg (by omega),show l.getD k 0=l[k]by simp[AhL,hlt]]at this
  exact this
abbrev sJ(b:Nat):AV:=.f (.func 18) [] [.p (b+2) 0 0,.p b 0 0]
abbrev AbW(b:Nat):AV:=.f (.func 19) [] [.p (b+3) 0 0,.p (b+2) 0 0,.p b 0 0,.p (b+4) 0 0]
structure Mg (b:Nat) (l:List Int) (k:Nat) (S:Aa):Prop where
 n:b+5≤S.n
 lo:S.obj b=some (.cells 23 [[aL yY l]] true)
 ao:S.obj (b+2)=some (.cells 3 [[aI k]] true)
 po:S.obj (b+3)=some (.cells 63 [[sJ b]] true)
 mo:S.obj (b+4)=some (.cells 64 [[AbW b]] true)
def Ch(b:Nat)(S S':Aa):Prop:=S.n≤S'.n∧∀ i,i<S.n→i≠b+2→S'.obj i=S.obj i
theorem Ch.trans{b:Nat}{S S' S'':Aa}(h:Ch b S S')(k:Ch b S' S''):Ch b S S'':=⟨Nat.le_trans h.1 k.1,fun i hi hb=>(k.2 i (by have:=h.1;omega) hb).trans (h.2 i hi hb)⟩
theorem Ch.AR{b:Nat}{S S':Aa}(k:Am S S'):Ch b S S':=⟨k.1,fun i hi _=>k.2 i hi⟩
theorem Ch.st{b id:Nat}{S0 S S':Aa}(h:Ch b S0 S)(hid:S0.n≤id∨id=b+2)(hn:S'.n=S.n)(ho:∀ x,x≠id→S'.obj x=S.obj x):Ch b S0 S':=⟨by have:=h.1;omega,fun i hi hb=>(ho i (by omega)).trans (h.2 i hi hb)⟩
theorem Ch.low{b:Nat}{S0 S S':Aa}(h:Ch b S0 S)(hn:S.n≤S'.n)(ho:∀ x,x<S0.n→S'.obj x=S.obj x):Ch b S0 S':=⟨Nat.le_trans h.1 hn,fun i hi hb=>(ho i hi).trans (h.2 i hi hb)⟩
theorem Mg.mv{b k:Nat}{l:List Int}{S S':Aa}(h:Mg b l k S)(hn:S.n≤S'.n)(ho:∀ i,i<b+5→S'.obj i=S.obj i):Mg b l k S':=⟨by have:=h.n;omega,(ho _ (by omega)).trans h.lo,(ho _ (by omega)).trans h.ao,(ho _ (by omega)).trans h.po,(ho _ (by omega)).trans h.mo⟩
theorem Mg.AR{b k:Nat}{l:List Int}{S S':Aa}(h:Mg b l k S)(q:Am S S'):Mg b l k S':=h.mv q.1 fun i hi=>q.2 i (by have:=h.n;omega)
theorem Mg.st{b k id:Nat}{l:List Int}{S S':Aa}(h:Mg b l k S)(hid:b+5≤id)(hn:S'.n=S.n)(ho:∀ x,x≠id→S'.obj x=S.obj x):Mg b l k S':=h.mv (by omega) fun i hi=>ho i (by omega)
theorem Mg.pick{b k:Nat}{l:List Int}{S:Aa}(h:Mg b l k S)(hl:∀ x∈l,0≤x∧x<256){n:Int}(hn:0<n)(hk:k≤1000){K X:AV→Aa→Prop}
    (kk:∀ S',Mg b l (k+1) S'→S'.n=S.n→(∀ x,x≠b+2→S'.obj x=S.obj x)→K (aI (BW l k n)) S'):Bg Pg (sJ b) [aI n] S K X:=
 .inl (XV h.ao h.lo (by omega) hl hn (by omega) fun S' n2 o2 f2=>kk S' ⟨by have:=h.n;omega,(f2 _ (by omega)).trans h.lo,o2,(f2 _ (by omega)).trans h.po,(f2 _ (by omega)).trans h.mo⟩ n2 f2)
def CP:Nat→Nat
 |0=>3
 |d+1=>3+2*CP d
theorem KL:∀ d,3≤CP d
 |0=>by decide
 |d+1=>by unfold CP;omega
def Kn(b:Nat)(l:List Int)(k d:Nat)(T:Aa)(tr:AV)(T':Aa):Prop:=∃(f:Fo) (k':Nat),tr=f.av∧Mg b l k' T'∧Ch b T T'∧k≤k'∧k'≤k+CP d∧Gg d f
theorem G7{e:Nat}{z1 z2 z3 z4:AV}{r:List AV}{S:Aa}{K:AV→Aa→Prop}(hr:r.length=4)(k:K (.l [r]) S):AU e 4 1 [z1,z2,z3,z4] [(0,.a r)] S K:=by
 match r,hr with
 |[u,v,w,x],_ =>
  refine⟨[u,v,w,x],?_,.inr ?_⟩
  ·simp[CC,cellsOf,Kq]
  ·simpa[chunks]using k
theorem Ah0{e:Nat}{z:AV}{a1 a2 a3 a4 a5 a6 a7:ByteArray}{S:Aa}{K:AV→Aa→Prop}(k:K (aL (fun a=>.v (.string a)) [a1,a2,a3,a4,a5,a6,a7]) S):
    AU e 1 7 [z] [(0,.v (.string a1)),(1,.v (.string a2)),(2,.v (.string a3)),(3,.v (.string a4)),(4,.v (.string a5)),(5,.v (.string a6)),(6,.v (.string a7))] S K:=by
 refine⟨[.v (.string a1),.v (.string a2),.v (.string a3),.v (.string a4),.v (.string a5),.v (.string a6),.v (.string a7)],?_,.inr ?_⟩
 ·have h:∀ a:ByteArray,cellsOf (.v (.string a))=some [.v (.string a)]:=fun _=>rfl
  simp[CC,h,Kq,Ai7]
 ·simpa[chunks,Ai7,aL]using k
section
variable {b:Nat} {l:List Int} (hl:∀ x∈l,0≤x∧x<256) {d:Nat}
 (ih:∀ d',d=d'+1→∀{k:Nat} {T:Aa},Mg b l k T→k+CP d'≤1000→Ad Pg 19 [aI d',.p (b+3) 0 0,.p (b+2) 0 0,.p b 0 0,.p (b+4) 0 0] T (fun e T'=>∃ tr,e = .ret tr∧Kn b l k d' T tr T'))
include ih
theorem UZ{T0 T:Aa}{k0 k fid:Nat}{kd:Int}{nm:ByteArray}{r:Int}{Q:Bh→Aa→Prop}(hm:Mg b l k T)(h0:b+5≤T0.n)(hc:Ch b T0 T)(hb:b+2<T0.n)(hf:T0.n<fid)(hfT:fid<T.n)(hv1:T.obj T0.n=some (.cells 32 [(Fo.mk 0 ⟨#[]⟩ 0 []).row.set 3 .nl] true))
    (ho:T.obj fid=some (.cells 32 [[aI kd,.v (.string nm),aI 0,.nl]] true)) (hr:r=CB kd) (h1:1≤kd) (h2:kd≤18) (h3:kd=3→nm∈FC) (h4:¬ kd=3→nm=⟨#[]⟩) (h5:kd≤3∨0<d) (hd:d≤6)
    (hk0:k0≤k) (hk:k≤k0+3) (hk1:k0+CP d≤1000) (hQ:∀ rr tr T',Cv (T'.BA (AL T0.n)) T'.n rr tr→Kn b l k0 d T0 tr T'→Q (.ret rr) T'):
    Ap KQ (vc Pg (jX.at_ [1,1,1,1,1,0,1,0,0]) (MH.drop 1)) 55 (GS (aI d) (.p (b+4) 0 0) (.p T0.n 0 0) (.p fid 0 0) (aI r)) T (Ak 0 (Av (vc Pg (jX.at_ [1,1,1,1,1,1]) (MH.drop 1)) (Ao Pg r19 Q))):=by
 have hr0:0≤r∧r≤2∧(kd≤3→r=0):=by
  have hle:=JB kd
  subst hr
  refine⟨?_,hle,fun h=>?_⟩
  ·unfold CB
   rw[if_neg (by omega)]
   split
   ·omega
   split<;>omega
  ·unfold CB
   rw[if_neg (by omega),if_pos h]
 have hP:∀ d',d=d'+1→CP d=3+2*CP d':=fun d' e=>by subst e;rfl
 refine ZQ (fun y S'=>∃(i k':Nat) (ks:List Fo) (yk:AV),y=aI i∧(i:Int)+ks.length=r∧Mg b l k' S'∧Ch b T0 S'∧fid<S'.n∧S'.obj T0.n=some (.cells 32 [(Fo.mk 0 ⟨#[]⟩ 0 []).row.set 3 .nl] true)∧
     S'.obj fid=some (.cells 32 [[aI kd,.v (.string nm),aI 0,yk]] true)∧A4 (fid+1) S' yk 32 (ks.map Fo.row)∧(∀ f∈ks,Gg (d - 1) f)∧k0≤k'∧k'+i*CP (d - 1)≤k0+3+r.toNat*CP (d - 1))
  (fun y _=>((Aw y).getD 0).toNat) ⟨r.toNat,k,[],.nl,by rw[show((r.toNat:Nat):Int)=r by omega],by simp;omega,hm,hc,hfT,hv1,ho,.nl _ _ _,(fun f h=>by cases h),hk0,by omega⟩ ?_
 dsimp only[BS]
 rintro _ S1 ⟨i,k',ks,yk,rfl,hi,m1,c1,f1,v1,o1,w1,hks,hk2,hk3⟩ KE hKE
 dsimp only[uR,Fi,Lt]
 have mn:=m1.n
 rw[AO,Ag]
 refine Al (fun h=>?_) (fun h=>?_)
 ·have hpos:0<i:=by have:=dT h;omega
  obtain⟨i',rfl⟩:∃ i',i=i'+1:=⟨i - 1,by omega⟩
  have hd0:0<d:=by
   rcases h5 with h5|h5
   ·have:=hr0.2.2 h5
    omega
   ·exact h5
  obtain⟨d',rfl⟩:∃ d',d=d'+1:=⟨d - 1,by omega⟩
  have hP':=hP d' rfl
  rw[show d'+1 - 1=d' from rfl]at hk3 hks
  have hi2:i'+1≤2:=by omega
  have hrt:r.toNat≤2:=by omega
  have hmul:r.toNat*CP d'≤2*CP d':=Nat.mul_le_mul_right _ hrt
  have hsplit:(i'+1)*CP d'=i'*CP d'+CP d':=Nat.succ_mul _ _
  refine Cj ?_
  refine Ko o1 f1 rfl rfl ?_
  refine Ko m1.mo (by omega) rfl rfl ?_
  refine⟨aI d',fun T hT=>by rw[Bx (by omega) (by omega),show((d'+1:Nat):Int) - 1=d' by omega];exact⟨rfl,rfl⟩,?_⟩
  refine .inl ((ih d' rfl m1 (by omega)).mono ?_)
  rintro e S2 ⟨tr,rfl,f,k2,rfl,m2,c2,hk4,hk5,hf2⟩
  show _∧_
  have o2:=(c2.2 _ f1 (by omega)).trans o1
  have n2:=c2.1
  have w2:A4 (fid+1) S2 yk 32 (ks.map Fo.row):=w1.same n2 fun j hj hj2=>c2.2 j hj2 (by omega)
  refine⟨fun T hT=>by rw[Ae (Kg hT o2) rfl rfl];exact⟨rfl,rfl⟩,fun T hT=>⟨rfl,rfl⟩,?_⟩
  refine⟨.l [f.row],fun T hT=>G7 (Fo.Aj f) ⟨rfl,rfl⟩,?_⟩
  refine w2.app (c:=f.row) (by omega) (Fo.Aj f) (by rw[AhR];omega) (fun z S3 w3 b3 hz3=>?_) rfl
  obtain⟨m3,hm3⟩:=hz3
  have n3:=b3.1
  have k3:∀ x,x<fid+1→S3.obj x=S2.obj x:=fun x hx=>b3.2 x (by omega) (fun b m e=>by have:=w2.lt e;omega)
  refine Cj ?_
  refine B4 ((k3 _ (by omega)).trans o2) (by simp) (by rw[hm3];rfl) fun S4 n4 o4 f4=>?_
  rw[Bx (by omega) (by omega),show((i'+1:Nat):Int) - 1=i' by omega]
  have Eh:∀ x,x<fid→S4.obj x=S2.obj x:=fun x hx=>(f4 x (by omega)).trans (k3 x (by omega))
  refine hKE _ _ ⟨i',k2,ks ++ [f],z,rfl,by simp;omega,m2.mv (by omega) fun x hx=>Eh x (by omega),(c1.trans c2).low (by omega) fun x hx=>Eh x (by omega),by omega,(Eh _ hf).trans ((c2.2 _ (by omega) (by omega)).trans v1),o4,?_,?_,by omega,?_⟩ (by simp[Aw])
  ·rw[AhU]
   exact w3.st (id:=fid) (fun b m e=>by rw[hm3]at e;injection e;omega) n4 f4
  ·intro g hg
   rcases Ai8.1 hg with hg|hg
   ·exact hks g hg
   ·rw[AhT.1 hg];exact hf2
  ·show k2+i'*CP d'≤k0+3+r.toNat*CP d'
   omega
 ·have hge:i=0:=by have:=dF h;omega
  subst hge
  rw[An (n:=4) o1 rfl]
  refine AG v1 rfl (by rw[List.length_set,Fo.Aj]) fun S2 n2 o2 f2=>?_
  rw[An (n:=4) o2 rfl]
  have w2:A4 (fid+1) S2 yk 32 (ks.map Fo.row):=w1.st (id:=T0.n) (fun b m e=>by have:=w1.lt e;omega) n2 f2
  refine hQ _ (Fo.mk kd nm 0 ks).av S2 ?_ ⟨.mk kd nm 0 ks,k',rfl,m1.st (id:=T0.n) (by omega) n2 f2,c1.st (.inl (AhN _)) n2 f2,hk2,?_,.mk _ _ _ _ h1 h2 (by omega) h3 h4 (fun hne=>?_) hks⟩
  ·rw[Fo.av,Fo.AD]
   refine .a _ _ rfl fun k u u2 e1 e2=>?_
   match k with
   |0=>cases e1;cases e2;exact .v _
   |1=>cases e1;cases e2;exact .v _
   |2=>cases e1;cases e2;exact .v _
   |3=>cases e1;cases e2;exact D9 (fun r hr u hu=>by obtain⟨f,_,rfl⟩:=Ai5.1 hr;exact Fo.tree f u hu) w2 (by omega)
   |k+4=>simp at e1
  ·rcases Nat.eq_zero_or_pos d with hz|hz
   ·have:r=0:=hr0.2.2 (by omega)
    rw[this]at hk3
    have:=KL d
    simp at hk3
    omega
   ·obtain⟨d',rfl⟩:∃ d',d=d'+1:=⟨d - 1,by omega⟩
    have hP':=hP d' rfl
    have hmul:r.toNat*CP d'≤2*CP d':=Nat.mul_le_mul_right _ (by omega)
    rw[show d'+1 - 1=d' from rfl]at hk3
    omega
  ·rcases h5 with h5|h5
   ·have:=hr0.2.2 h5
    have:ks = []:=List.eq_nil_of_length_eq_zero (by omega)
    exact absurd this hne
   ·exact h5
end
section
variable {b:Nat} {l:List Int} (hl:∀ x∈l,0≤x∧x<256) {d:Nat}
 (ih:∀ d',d=d'+1→∀{k:Nat} {T:Aa},Mg b l k T→k+CP d'≤1000→Ad Pg 19 [aI d',.p (b+3) 0 0,.p (b+2) 0 0,.p b 0 0,.p (b+4) 0 0] T (fun e T'=>∃ tr,e = .ret tr∧Kn b l k d' T tr T'))
include hl ih
theorem LH{T0 T:Aa}{k0 k:Nat}{kd:Int}{Q:Bh→Aa→Prop}(hm:Mg b l k T)(h0:b+5≤T0.n)(hc:Ch b T0 T)(hT:T0.n<T.n)(hv1:T.obj T0.n=some (.cells 32 [(Fo.mk 0 ⟨#[]⟩ 0 []).row.set 3 .nl] true))
    (h1:1≤kd) (h2:kd≤18) (h5:kd≤3∨0<d) (hd:d≤6) (hk0:k0≤k) (hk:k≤k0+2) (hk1:k0+CP d≤1000) (hQ:∀ rr tr T',Cv (T'.BA (AL T0.n)) T'.n rr tr→Kn b l k0 d T0 tr T'→Q (.ret rr) T'):
    CD [(0,1),(1,1),(2,1),(3,1)] [.v (.int .i64 0),.v (.string ByteArray.empty),.v (.int .i64 0),.nl] [(0,(aI kd))] T fun v11 S=>Az 32 4 (.a [.v (.int .i64 0),.v (.string ByteArray.empty),.v (.int .i64 0),.nl]) S fun v12 S=>A8 4 v12 v11 S fun v13 S=>bin .eql 0 (aI kd) (.v (.int .i64 3)) S fun v14 S=>KC v14 fun b15=>gd b15 (AU 9 1 7 [.v (.string ByteArray.empty)] [(0,(.v (.string { data:=#[113] }))),(1,(.v (.string { data:=#[108,48] }))),(2,(.v (.string { data:=#[111,117,116] }))),(3,(.v (.string { data:=#[108,49] }))),(4,(.v (.string { data:=#[105,48] }))),(5,(.v (.string { data:=#[111,48] }))),(6,(.v (.string { data:=#[97,45,98] })))] S fun v16 S=>Ay (.p (b+3) 0 0) S fun v17 S=>Bg Pg v17 [.v (.int .i64 7)] S (fun v18 S=>AS 9 1 v16 v18 S fun v19 S=>Ay v19 S fun v20 S=>shift v12 1 S fun v21 S=>A8 1 v21 v20 S fun v22 S=>Ah Pg 20 [(aI kd)] S Q fun v23 S=>Ap KQ (vc Pg (jX.at_ [1,1,1,1,1,0,1,0,0]) (MH.drop 1)) 55 (GS (aI d) (.p (b+4) 0 0) (.p T0.n 0 0) v12 v23) S (Ak 0 (Av (vc Pg (jX.at_ [1,1,1,1,1,1]) (MH.drop 1)) (Ao Pg r19 Q)))) (fun u S=>Q (.pan u) S)) (Ah Pg 20 [(aI kd)] S Q fun v24 S=>Ap KQ (vc Pg (jX.at_ [1,1,1,1,1,0,1,0,0]) (MH.drop 1)) 55 (GS (aI d) (.p (b+4) 0 0) (.p T0.n 0 0) v12 v24) S (Ak 0 (Av (vc Pg (jX.at_ [1,1,1,1,1,1]) (MH.drop 1)) (Ao Pg r19 Q)))):=by
 have hmp:=KL d
 rw[A6 (cs:=[aI kd,.v (.string ⟨#[]⟩),aI 0,.nl]) rfl]
 refine Ai rfl fun S1 k1 n1 o1=>?_
 refine AG (cs':=[aI kd,.v (.string ⟨#[]⟩),aI 0,.nl]) o1 rfl rfl fun S2 n2 o2 f2=>?_
 have k2:=k1.st (AhN _) n2 f2
 have m2:=hm.AR k2
 have c2:=hc.trans (Ch.AR (b:=b) k2)
 have v2:=(k2.2 _ hT).trans hv1
 rw[AA,Ag]
 refine Al (fun h=>?_) (fun h=>?_)
 ·have h:kd=3:=dT h
  refine Ah0 ?_
  rw[Ae m2.po rfl rfl]
  refine m2.pick hl (by omega) (by omega) fun S3 m3 n3 f3=>?_
  obtain⟨q0,q7⟩:=BD (l:=l) (k:=k) (n:=7) (fun x hx=>⟨(hl x hx).1,by have:=(hl x hx).2;omega⟩) (by omega)
  generalize BW l k 7=p at *
  obtain⟨p,rfl⟩:=AhX q0
  have hp:p<FC.length:=by simp[FC];omega
  rw[show ∀ K:AV→Aa→Prop,AS 9 1 (aL (fun a=>.v (.string a)) [⟨#[113]⟩,⟨#[108,48]⟩,⟨#[111,117,116]⟩,⟨#[108,49]⟩,⟨#[105,48]⟩,⟨#[111,48]⟩,⟨#[97,45,98]⟩]) (aI p) S3 K=K (.q [.v (.string FC[p])] 0) S3 from fun K=>AM (l:=FC) hp]
  rw[A1,Ac]
  have o3:=(f3 T.n (by have:=hm.n;omega)).trans o2
  refine B4 o3 (by simp) rfl fun S4 n4 o4 f4=>?_
  refine Af (iN kd) ?_
  exact UZ ih (nm:=FC[p]) (m3.st (id:=T.n) (by have:=hm.n;omega) n4 f4) h0 ((c2.st (.inr rfl) n3 f3).st (.inl (by omega)) n4 f4) (by omega) hT (by omega) ((f4 _ (by omega)).trans ((f3 _ (by omega)).trans v2)) o4 rfl h1 h2 (fun _=>AhP _) (fun h'=>absurd h h') h5 hd (by omega) (by omega) hk1 hQ
 ·have h:¬ kd=3:=dF h
  refine Af (iN kd) ?_
  exact UZ ih (nm:=⟨#[]⟩) m2 h0 c2 (by omega) hT (by omega) v2 o2 rfl h1 h2 (fun h'=>absurd h' h) (fun _=>rfl) h5 hd (by omega) (by omega) hk1 hQ
theorem N0(hd:d≤6){k:Nat}{T:Aa}(hm:Mg b l k T)(hk:k+CP d≤1000):Ad Pg 19 [aI d,.p (b+3) 0 0,.p (b+2) 0 0,.p b 0 0,.p (b+4) 0 0] T (fun e T'=>∃ tr,e = .ret tr∧Kn b l k d T tr T'):=by
 have hmp:=KL d
 have h0:=hm.n
 refine(Ad.r8 (Φ:=fun tr T'=>Kn b l k d T tr T') (pV ?_)).mono ?_
 ·dsimp only[m19,US,Y5,O3,Fi]
  refine Ai (cs:=(Fo.mk 0 ⟨#[]⟩ 0 []).row.set 3 .nl) (by rw[List.length_set,Fo.Aj]) fun S1 k1 n1 o1=>?_
  have hQ:∀ rr tr T',Cv (T'.BA (AL T.n)) T'.n rr tr→Kn b l k d T tr T'→∃ r tr,Bh.ret rr = .ret r∧Cv (T'.BA (AL T.n)) T'.n r tr∧Kn b l k d T tr T':=fun rr tr T' h1 h2=>⟨rr,tr,rfl,h1,h2⟩
  have m1:=hm.AR k1
  rw[Ae m1.po rfl rfl]
  refine m1.pick hl (by omega) (by omega) fun S2 m2 n2 f2=>?_
  obtain⟨p0,p18⟩:=BD (l:=l) (k:=k) (n:=18) (fun x hx=>⟨(hl x hx).1,by have:=(hl x hx).2;omega⟩) (by omega)
  generalize BW l k 18=pk at *
  have c2:Ch b T S2:=(Ch.AR (b:=b) k1).st (.inr rfl) n2 f2
  have v2:=(f2 _ (by omega)).trans o1
  rw[Ar (by omega) (by omega),AA,Ag]
  refine Al (fun h=>?_) (fun h=>?_)
  ·
   rw[Ae m2.po rfl rfl]
   refine m2.pick hl (by omega) (by omega) fun S3 m3 n3 f3=>?_
   obtain⟨q0,q7⟩:=BD (l:=l) (k:=k+1) (n:=7) (fun x hx=>⟨(hl x hx).1,by have:=(hl x hx).2;omega⟩) (by omega)
   generalize BW l (k+1) 7=p at *
   have hq:p.tdiv 5=p / 5:=Ai0 q0
   rw[Fy (by omega) (by omega) (by omega),Bx (by omega) (by omega)]
   exact LH hl ih (kd:=3 - p.tdiv 5) m3 h0 (c2.st (.inr rfl) n3 f3) (by omega) ((f3 _ (by omega)).trans v2) (by omega) (by omega) (.inl (by omega)) hd (by omega) (by omega) hk hQ
  have hd0:¬ (d:Int)=0:=dF h
  rw[Ae m2.ao rfl rfl,Ae m2.lo rfl rfl,Ax,BH,Ag]
  refine Al (fun h=>?_) (fun h=>?_)
  ·
   rw[Ae m2.po rfl rfl]
   refine m2.pick hl (by omega) (by omega) fun S3 m3 n3 f3=>?_
   obtain⟨q0,q7⟩:=BD (l:=l) (k:=k+1) (n:=7) (fun x hx=>⟨(hl x hx).1,by have:=(hl x hx).2;omega⟩) (by omega)
   generalize BW l (k+1) 7=p at *
   have hq:p.tdiv 5=p / 5:=Ai0 q0
   rw[Fy (by omega) (by omega) (by omega),Bx (by omega) (by omega)]
   exact LH hl ih (kd:=3 - p.tdiv 5) m3 h0 (c2.st (.inr rfl) n3 f3) (by omega) ((f3 _ (by omega)).trans v2) (by omega) (by omega) (.inl (by omega)) hd (by omega) (by omega) hk hQ
  rw[Ae m2.ao rfl rfl,AO,Ag]
  refine Al (fun h=>?_) (fun h=>?_)
  ·
   rw[Ae m2.po rfl rfl]
   refine m2.pick hl (by omega) (by omega) fun S3 m3 n3 f3=>?_
   obtain⟨q0,q7⟩:=BD (l:=l) (k:=k+1) (n:=7) (fun x hx=>⟨(hl x hx).1,by have:=(hl x hx).2;omega⟩) (by omega)
   generalize BW l (k+1) 7=p at *
   have hq:p.tdiv 5=p / 5:=Ai0 q0
   rw[Fy (by omega) (by omega) (by omega),Bx (by omega) (by omega)]
   exact LH hl ih (kd:=3 - p.tdiv 5) m3 h0 (c2.st (.inr rfl) n3 f3) (by omega) ((f3 _ (by omega)).trans v2) (by omega) (by omega) (.inl (by omega)) hd (by omega) (by omega) hk hQ
  exact LH hl ih (kd:=1+pk) m2 h0 c2 (by omega) v2 (by omega) (by omega) (.inr (by omega)) hd (by omega) (by omega) hk hQ
 ·rintro e T' ⟨tr,T1,rfl,rfl,f,k',rfl,m',c',h1,h2,h3⟩
  have Eh:∀ i,i<T.n→(T1.BA (AL T.n)).obj i=T1.obj i:=fun i hi=>D0 (by simp[AL];omega)
  exact⟨_,rfl,f,k',rfl,m'.mv (AhN _) fun i hi=>Eh i (by omega),⟨c'.1,fun i hi hb=>(Eh i hi).trans (c'.2 i hi hb)⟩,h1,h2,h3⟩
end
theorem lF{b:Nat}{l:List Int}(hl:∀ x∈l,0≤x∧x<256):∀{d:Nat},d≤6→∀{k:Nat} {T:Aa},Mg b l k T→k+CP d≤1000→Ad Pg 19 [aI d,.p (b+3) 0 0,.p (b+2) 0 0,.p b 0 0,.p (b+4) 0 0] T (fun e T'=>∃ tr,e = .ret tr∧Kn b l k d T tr T'):=by
 intro d
 induction d with
 |zero=>exact fun hd {k T} hm hk=>N0 hl (fun d' h=>by omega) hd hm hk
 |succ d ih =>
  intro hd k T hm hk
  refine N0 hl (fun d' h {k T} hm hk=>?_) hd hm hk
  obtain rfl:d=d':=by omega
  exact ih (by omega) hm hk
theorem sP{l:List Int}(hl:∀ x∈l,0≤x∧x<256){S:Aa}:Ad Pg 8 [aL yY l] S (fun e S'=>∃ tr,e = .ret tr∧S'=S∧∃ f:Fo,tr=f.av∧Gg 6 f):=by
 refine Ad.NN (xX ?_)
 unfold m8
 refine BN rfl fun S1 k1 n1 o1=>?_
 refine Ai rfl fun S2 k2 n2 o2=>?_
 refine BN rfl fun S3 k3 n3 o3=>?_
 refine B9 o3 rfl rfl fun S4 n4 o4 f4=>?_
 refine BN rfl fun S5 k5 n5 o5=>?_
 refine B9 o5 rfl rfl fun S6 n6 o6 f6=>?_
 refine BN rfl fun S7 k7 n7 o7=>?_
 refine B9 o7 rfl rfl fun S8 n8 o8 f8=>?_
 rw[Ae o8 rfl rfl]
 have e2:S2.n=S.n+2:=by omega
 have e4:S4.n=S.n+3:=by omega
 have e6:S6.n=S.n+4:=by omega
 rw[e2]at o3 o4 f4
 rw[e4]at o5 o6 f6
 rw[e6]at o7 o8 f8
 have q8:∀ i,i<S.n+4→S8.obj i=S6.obj i:=fun i hi=>(f8 i (by omega)).trans (k7.2 i (by omega))
 have q6:∀ i,i<S.n+3→S8.obj i=S4.obj i:=fun i hi=>(q8 i (by omega)).trans ((f6 i (by omega)).trans (k5.2 i (by omega)))
 have q4:∀ i,i<S.n+2→S8.obj i=S2.obj i:=fun i hi=>(q6 i (by omega)).trans ((f4 i (by omega)).trans (k3.2 i (by omega)))
 have hm:Mg S.n l 0 S8:=⟨by omega,(q4 _ (by omega)).trans (Kg k2 o1),(q6 _ (by omega)).trans o4,(q8 _ (by omega)).trans (by rw[o6,e2];rfl),by rw[o8,e2,e4];rfl⟩
 refine .inl ?_
 rw[e2,e4,e6]
 refine(lF (d:=6) hl (AhN _) hm (by decide)).mono ?_
 rintro e S9 ⟨tr,rfl,f,k',rfl,m9,c9,_,_,hf⟩
 show A8 4 _ _ _ _
 have n9:=m9.n
 have c9n:=c9.1
 refine AG ((c9.2 S1.n (by omega) (by omega)).trans ((q4 _ (by omega)).trans o2)) (Fo.Aj f) rfl fun S10 n10 o10 f10=>?_
 rw[An (n:=4) o10 (Fo.Aj f)]
 refine⟨_,f.av,rfl,⟨by omega,fun i hi=>(f10 i (by omega)).trans ((c9.2 i (by omega) (by omega)).trans ((q4 i (by omega)).trans ((k2.2 i (by omega)).trans (k1.2 i hi))))⟩,Tree.a (fun u hu=>Fo.tree f u hu) _ _,f,rfl,hf⟩
def WQ(m:Int)(n:ByteArray):Int:=((n.size:Int)*7+(n[0]!).toNat).tmod (if 1 > m then 1 else m)
mutual
def Fo.FU(m:Int):Fo→Fo
 |.mk k n _ ks=>.mk k ⟨#[]⟩ (if k=3 then WQ m n else 0) (Fo.MV m ks)
def Fo.MV(m:Int):List Fo→List Fo
 |[]=>[]
 |f :: fs=>Fo.FU m f :: Fo.MV m fs
end
theorem Fo.MU(m:Int):∀ l:List Fo,Fo.MV m l=l.map (Fo.FU m)
 |[]=>by rw[Fo.MV];rfl
 |f :: fs=>by rw[Fo.MV,Fo.MU m fs];rfl
theorem Fo.Rm(m k:Int)(n:ByteArray)(l:Int)(ks:List Fo):Fo.FU m (.mk k n l ks) = .mk k ⟨#[]⟩ (if k=3 then WQ m n else 0) (ks.map (Fo.FU m)):=by rw[Fo.FU,Fo.MU]
theorem Z0{m:Int}(n:ByteArray):0≤WQ m n∧WQ m n<max m 1:=by
 unfold WQ
 have h:(0:Int)<(if 1 > m then 1 else m):=by split<;>omega
 have h0:(0:Int)≤(n.size:Int)*7+(n[0]!).toNat:=by omega
 have h3:(if 1 > m then 1 else m)≤max m 1:=by split<;>omega
 generalize(if 1 > m then 1 else m)=q at *
 rw[AiK h0]
 have h1:=Int.emod_nonneg ((n.size:Int)*7+(n[0]!).toNat) (show q≠0 by omega)
 have h2:=Int.emod_lt_of_pos ((n.size:Int)*7+(n[0]!).toNat) h
 exact⟨h1,by omega⟩
theorem ZZ{m:Int}(hm:m≤9223372036854775807):∀(f:Fo) (d:Nat),Gg d f→(f.FU m).ok∧(f.FU m).BQ (d+1)=true∧∀ g:Gr,(∀ l:Int,0≤l→l<max m 1→g.lit l=true)→(f.FU m).DD g=true:=by
 intro f
 induction f using Fo.ind with
 |h k n l ks ih =>
  intro d h
  cases h with
  |mk d _ _ _ h1 h2 h3 h4 h5 h6 h =>
   have hk:=JB k
   have hv:=Z0 (m:=m) n
   rw[Fo.Rm]
   refine⟨.mk _ _ _ _ ⟨by omega,by omega⟩ (by unfold Bv;split<;>omega) (by decide) (by rw[AhR];omega) fun g hg=>?_,?_,fun g hg=>?_⟩
   ·obtain⟨f,hf,rfl⟩:=Ai5.1 hg
    exact(ih f hf _ (h f hf)).1
   ·rw[Fo.CJ]
    simp only[AhO,decide_eq_true_eq,AhW,AhR]
    refine⟨by omega,?_,trivial,h3,fun g hg=>?_⟩
    ·split
     ·rename_i hk3
      rcases Int.lt_or_eq_of_le hv.1 with h|h
      ·exact .inr ⟨h,hk3⟩
      ·exact .inl h.symm
     ·exact .inl rfl
    ·obtain⟨f,hf,rfl⟩:=Ai5.1 hg
     have:=(ih f hf _ (h f hf)).2.1
     have hd:=h6 (fun e=>by subst e;cases hf)
     rwa [show((d - 1:Nat):Int)+1=(d:Int)+1 - 1 by omega]at this
   ·rw[Fo.MY]
    simp only[AhO,Bool.or_eq_true,decide_eq_true_eq,AhW]
    refine⟨?_,fun g' hg'=>?_⟩
    ·by_cases hk3:k=3
     ·rw[if_pos hk3];exact .inr (hg _ hv.1 hv.2)
     ·exact .inl hk3
    ·obtain⟨f,hf,rfl⟩:=Ai5.1 hg'
     exact(ih f hf _ (h f hf)).2.2 g hg
theorem KN:∀(f:Fo) {d d':Int},d≤d'→f.BQ d=true→f.BQ d'=true:=by
 intro f
 induction f using Fo.ind with
 |h k n l ks ih =>
  intro d d' hd h
  rw[Fo.CJ]at h ⊢
  simp only[AhO,decide_eq_true_eq,AhW]at h ⊢
  obtain⟨h1,h2,h3,h4,h5⟩:=h
  exact⟨by omega,h2,h3,h4,fun f hf=>ih f hf (by omega) (h5 f hf)⟩
theorem zX{n:ByteArray}(h:n∈FC):0<n.size∧n.size≤3:=by
 simp only[FC,Ai9,AiE,or_false]at h
 rcases h with rfl|rfl|rfl|rfl|rfl|rfl|rfl<;>decide
theorem AfV{m:Int}(hm:Bv m):∀(f:Fo) (d:Nat),Gg d f→BF Pg 38 [f.av,aI m] (f.FU m).av:=by
 intro f
 induction f using Fo.ind with
 |h k n l ks ih =>
  intro d h S
  have hok:=h.ok
  cases h with
  |mk d _ _ _ h1 h2 h3 h4 h5 h6 hks =>
  have hkl:=JB k
  refine Ad.tree (pC ?_)
  dsimp only[m38,Y2,Fi,Lf,Lt]
  rw[Fo.av,Fo.AD]
  refine Ai rfl fun S1 k1 n1 o1=>?_
  refine Ai rfl fun S2 k2 n2 o2=>?_
  have p2:=(Kg k2 o1)
  rw[Ac,Ae p2 rfl rfl,A6 (cs:=[aI k,.v (.string ⟨#[]⟩),aI 0,.nl]) rfl]
  refine Ai rfl fun S3 k3 n3 o3=>?_
  refine AG (cs':=[aI k,.v (.string ⟨#[]⟩),aI 0,.nl]) o3 rfl rfl fun S4 n4 o4 f4=>?_
  have k4:=k3.st (AhN _) n4 f4
  have p4:=(Kg k4 p2)
  have r4:=(Kg k4 o2)
  have kk:=(k1.trans k2).trans k4
  have tail:∀(T:Aa) (v:Int),v=(if k=3 then WQ m n else 0)→Am S T→S4.n≤T.n→T.obj S.n=some (.cells 32 [[aI k,.v (.string n),aI 0,Du ks]] true)→T.obj S1.n=some (.cells 32 [[.v (.int .i64 0),.v (.string ByteArray.empty),.v (.int .i64 0),.nl]] true)→
      T.obj S2.n=some (.cells 32 [[aI k,.v (.string ⟨#[]⟩),aI v,.nl]] true)→
      Ap O5 (vc Pg (zS.at_ [1,1,1,0,1,0,0]) (SB.drop 1)) 46 (JO (aI m) (.p S.n 0 0) (.p S1.n 0 0) (.p S2.n 0 0) (.v (.int .i64 0))) T (Ak 0 (Av (vc Pg (zS.at_ [1,1,1,1]) (SB.drop 1)) (Ao Pg r38 fun e S'=>∃ r,e = .ret r∧Am S S'∧Cv (S'.BA (AL S.n)) S.n r (Fo.FU m (.mk k n 0 ks)).av))):=by
   intro T v hv kT nT oa ob oc
   refine ZF (fun y S'=>∃(i:Nat) (z:AV),y=aI i∧i≤ks.length∧Am S S'∧S4.n≤S'.n∧S'.obj S.n=some (.cells 32 [[aI k,.v (.string n),aI 0,Du ks]] true)∧S'.obj S1.n=some (.cells 32 [[.v (.int .i64 0),.v (.string ByteArray.empty),.v (.int .i64 0),.nl]] true)∧
       S'.obj S2.n=some (.cells 32 [[aI k,.v (.string ⟨#[]⟩),aI v,z]] true)∧A4 S4.n S' z 32 (((ks.take i).map (Fo.FU m)).map Fo.row))
    (fun y _=>ks.length - ((Aw y).getD 0).toNat) ⟨0,.nl,rfl,AhS _,kT,nT,oa,ob,oc,.nl _ _ _⟩ ?_
   dsimp only[BS]
   rintro _ S5 ⟨i,z,rfl,hi,k5,n5,oa,ob,oc,w5⟩ KE hKE
   dsimp only[uG,Fi,Lf,Lt,Lc]
   rw[Ac,Ae oa rfl rfl,BJ,As,Ag]
   refine Al (fun hlt=>?_) (fun hge=>?_)
   ·have hlt:i<ks.length:=by have:=dT hlt;omega
    have hmem:=AhP hlt
    refine Cj ?_
    refine Ko oc (by omega) rfl rfl ?_
    refine Cj ?_
    refine Ko oa (by omega) rfl rfl ?_
    refine⟨_,fun T hT=>by rw[Cg hlt];exact⟨rfl,rfl⟩,?_⟩
    refine zC (Fo.Aj _) ?_
    refine G0 (ih _ hmem _ (hks _ hmem)) ?_
    refine⟨.l [(Fo.FU m ks[i]).row],fun T hT=>G7 (Fo.Aj _) ⟨rfl,rfl⟩,?_⟩
    refine w5.app (c:=(Fo.FU m ks[i]).row) (by omega) (Fo.Aj _) (by simp;omega) (fun z' S6 w6 b6 hz=>?_) rfl
    obtain⟨m6,hm6⟩:=hz
    have n6:=b6.1
    have old6:∀ x,x<S4.n→S6.obj x=S5.obj x:=fun x hx=>b6.2 x (by omega) (fun b m e=>by have:=w5.lt e;omega)
    refine Cj ?_
    refine B4 ((old6 _ (by omega)).trans oc) (by simp) (by rw[hm6];rfl) fun S7 n7 o7 f7=>?_
    rw[Ar (by omega) (by omega)]
    have old7:∀ x,x<S2.n→S7.obj x=S5.obj x:=fun x hx=>(f7 x (by omega)).trans (old6 x (by omega))
    refine hKE _ _ ⟨i+1,z',rfl,hlt,⟨by have:=k5.1;omega,fun x hx=>(old7 x (by omega)).trans (k5.2 x hx)⟩,by omega,(old7 _ (by omega)).trans oa,(old7 _ (by omega)).trans ob,o7,?_⟩ (by simp[Aw];omega)
    rw[AiA,AhM hlt,AhU,AhU]
    exact w6.st (id:=S2.n) (fun b m e=>by rw[hm6]at e;injection e;omega) n7 f7
   ·have hge:i=ks.length:=by have:=dF hge;omega
    subst hge
    rw[An (n:=4) oc rfl]
    refine AG ob rfl rfl fun S6 n6 o6 f6=>?_
    rw[An (n:=4) o6 rfl]
    have w6:A4 S4.n S6 z 32 _:=w5.st (id:=S1.n) (fun b m e=>by have:=w5.lt e;omega) n6 f6
    rw[AiM]at w6
    refine⟨_,rfl,k5.st (by omega) n6 f6,?_⟩
    rw[Fo.Rm,Fo.av,Fo.AD,←hv]
    refine .a _ _ rfl fun k u u2 e1 e2=>?_
    match k with
    |0=>cases e1;cases e2;exact .v _
    |1=>cases e1;cases e2;exact .v _
    |2=>cases e1;cases e2;exact .v _
    |3=>cases e1;cases e2;exact D9 (fun r hr u hu=>by obtain⟨f,_,rfl⟩:=Ai5.1 hr;exact Fo.tree f u hu) w6 (by omega)
    |k+4=>simp at e1
  rw[Ac,Ae p4 rfl rfl,AA,Ag]
  refine Al (fun hk3=>?_) (fun hk3=>?_)
  ·have hk3:k=3:=dT hk3
   obtain⟨hn0,hn3⟩:=zX (h4 hk3)
   have hb:((n[0]!).toNat)≤255:=by have:=(n[0]!).toNat_lt;omega
   have hne:(if 1 > m then 1 else m)≠0:=by split<;>omega
   refine Cj ?_
   refine Ko p4 (by omega) rfl rfl ?_
   refine⟨_,fun T hT=>by rw[EP];exact⟨rfl,rfl⟩,?_⟩
   refine⟨_,fun T hT=>by rw[Iu (by omega) (by omega)];exact⟨rfl,rfl⟩,?_⟩
   refine Cj ?_
   refine Ko p4 (by omega) rfl rfl ?_
   refine⟨_,fun T hT=>by rw[show ∀ K:AV→Aa→Prop,Hy (.v (.string n)) (.v (.int .i64 0)) T K=K (.v (.int .u8 (n[0]!).toNat)) T from fun K=>(H9 (i:=0) hn0).trans (by rw[getElem!_pos n 0 hn0])];exact⟨rfl,rfl⟩,?_⟩
   refine⟨_,fun T hT=>by rw[Gc _ (by omega) (by omega)];exact⟨rfl,rfl⟩,?_⟩
   refine⟨_,fun T hT=>by rw[Ar (by omega) (by omega)];exact⟨rfl,rfl⟩,?_⟩
   refine⟨_,fun T hT=>by rw[UC];exact⟨rfl,rfl⟩,?_⟩
   refine⟨_,fun T hT=>by rw[Ez hne];exact⟨rfl,rfl⟩,?_⟩
   refine Cj ?_
   refine B4 o4 (by simp) rfl fun S5 n5 o5 f5=>?_
   exact tail S5 _ (by rw[if_pos hk3];rfl) (kk.st (by omega) n5 f5) (by omega) ((f5 _ (by omega)).trans p4) ((f5 _ (by omega)).trans r4) o5
  ·have hk3:¬ k=3:=dF hk3
   exact tail S4 0 (by rw[if_neg hk3]) kk (AhN _) p4 r4 o4
def Sb:Sp:=⟨1,[true,true],[true,false],[[1],[0]],[]⟩
theorem XJ:Au Ge=Sb:=by
 have h:=(HY (c:=Ge) (by rw[TQ])).1
 rw[TQ]at h
 exact(congrArg Prod.fst h).symm
theorem Ah2{P:Nat→Prop}(h0:P 0)(h1:P 1)(h2:∀ i,2≤i→P i):∀ i,P i
 |0=>h0
 |1=>h1
 |i+2=>h2 _ (by omega)
theorem AgX{a b:List Bool}(ha:a.length=2)(hb:b.length=2)(h0:bit a 0=bit b 0)(h1:bit a 1=bit b 1):a=b:=
 PT (by omega) (Ah2 h0 h1 fun i hi=>by rw[FJ (by omega),FJ (by omega)])
theorem AeQ:IM Sb [true,true] [true,true] = [true,true]:=
 AgX (by simp) rfl (D1.2 ⟨by decide,.base 0 rfl rfl⟩) (D1.2 ⟨by decide,.base 1 rfl rfl⟩)
theorem AeR:DO Sb [true,true] = [true,true]:=by
 refine(U7 rfl (fun i h=>by exact h) (fun y hl h _ i hi=>by have:=h i hi;exact this) fun f hf i hi=>?_).symm
 have:f = [true,true]:=by simpa[Bs,Sb]using hf
 subst this
 have:D8 Sb [true,true] [true,true] = [true,true]:=by
  show Bm [true,true] (Ny Sb (IM Sb [true,true] [true,true]))=_
  rw[AeQ];rfl
 rw[this];exact hi
theorem TX:CE Ge Sb 2 = [false,true]:=by
 have e0:DM Ge ((0:Nat):Int) 2=false:=by rw[DM,Ir,AhQ];decide
 have e1:DM Ge ((1:Nat):Int) 2=true:=by rw[DM,Ir,AhQ];decide
 show[true && DM Ge ((0:Nat):Int) 2,true && DM Ge ((1:Nat):Int) 2]=_
 rw[e0,e1];rfl
abbrev HB(l:Int):Fo:=.mk 3 ⟨#[]⟩ l []
abbrev A3(k:Int)(f:Fo):Fo:=.mk k ⟨#[]⟩ 0 [f]
abbrev A7(k:Int)(f g:Fo):Fo:=.mk k ⟨#[]⟩ 0 [f,g]
theorem Sj(f:Fo):A0 Ge f=f.C9 Sb [true,true] (CE Ge Sb):=by
 rw[A0,XJ]
 show f.C9 Sb (DO Sb [true,true]) _=_
 rw[AeR]
theorem j7:A0 Ge (A3 9 (HB 2)) = [true,false]:=by
 rw[Sj,CI (by decide),C8,TX]
 show Ny Sb (Bm [false,true] [true,true])=_
 decide
theorem XA{f:Fo}(h:f.BQ 60=true)(hl:f.DD Ge.gr=true):IE Ge f=(A0 Ge f,Sb,0):=by
 have hm:Ex Ge f=true:=by rw[Ex,Ir,h,hl];rfl
 rw[IE,if_neg (by rw[hm];decide),if_pos (by rw[TQ]),XJ]
theorem UE:(A3 9 (HB 2)).BQ 60=true∧(A3 9 (HB 2)).DD Ge.gr=true:=by decide
theorem j4:BZ Ge (A3 9 (HB 2))=([true,false],0):=by
 rw[IY,XA UE.1 UE.2,j7]
theorem E1{e:Nat}{z1 z2 z3 z4:AV}{r r2:List AV}{S:Aa}{K:AV→Aa→Prop}(hr:r.length=4)(hr2:r2.length=4)(k:K (.l [r,r2]) S):AU e 4 2 [z1,z2,z3,z4] [(0,.a r),(1,.a r2)] S K:=by
 match r,hr,r2,hr2 with
 |[u,v,w,x],_,[u2,v2,w2,x2],_ =>
  refine⟨[u,v,w,x,u2,v2,w2,x2],?_,.inr ?_⟩
  ·simp[CC,cellsOf,Kq,Ai7]
  ·simpa[chunks,Ai7]using k
theorem Fo.tr(f:Fo):Tree f.av:=Tree.a fun u hu=>Fo.tree f u hu
structure Ag9 (v:Int) (f:Fo):Prop where
 ok:f.ok
 may:f.BQ 7=true
 lits:∀ g:Gr,(∀ l:Int,0≤l→l<2*v→g.lit l=true)→f.DD g=true
theorem AaK{l:List Int}(hl:∀ x∈l,0≤x∧x<256){v:Int}(hv:1≤v)(hv2:v≤1000000){S:Aa}:Ad Pg 15 [aL yY l,aI (2*v)] S (fun e S'=>∃ tr,e = .ret tr∧S'=S∧∃ f:Fo,tr=f.av∧Ag9 v f):=by
 refine Ad.NN (pX ?_)
 unfold m15
 refine Ai rfl fun S1 k1 n1 o1=>?_
 refine .inl ((sP hl).mono ?_)
 rintro e S' ⟨tr,rfl,rfl,f,rfl,hf⟩
 show Ah _ _ _ _ _ _
 refine Af (AfV (m:=2*v) ⟨by omega,by omega⟩ f 6 hf) ?_
 refine AG o1 (Fo.Aj _) rfl fun S3 n3 o3 f3=>?_
 rw[An (n:=4) o3 (Fo.Aj _)]
 obtain⟨h1,h2,h3⟩:=ZZ (m:=2*v) (by omega) f 6 hf
 exact⟨_,_,rfl,k1.st (AhN _) n3 f3,Fo.tr _ _ _,_,rfl,h1,h2,fun g hg=>h3 g fun l h0 hlt=>hg l h0 (by omega)⟩
theorem YN{c:Ci}(h:IV c):1≤c.gr.vars∧c.gr.vars≤100∧∀ l:Int,0≤l→l<2*c.gr.vars→c.gr.lit l=true:=by
 obtain⟨g1,g2,g3⟩:=CQ h.right
 have h1:=h.inp
 have h2:=h.lats
 have h3:=h.ands
 have hv:c.gr.vars=c.inputs+c.latches.length+1+c.ands.length:=by
  unfold Gr.vars
  rw[g1]
  show _+1+(c.ands.length:Int)=_
  rfl
 refine⟨by omega,by omega,fun l h0 hl=>Dg.2 ⟨g2,by omega,h0,by omega⟩⟩
theorem vB(k:Int)(f:Fo):BF Pg 82 [aI k,f.av] (A3 k f).av:=by
 intro S
 refine Ad.tree (nG ?_)
 unfold m82
 refine Ai (Fo.Aj f) fun S1 k1 n1 o1=>?_
 refine Ai rfl fun S2 k2 n2 o2=>?_
 rw[An (n:=4) (Kg k2 o1) (Fo.Aj f)]
 refine G7 (Fo.Aj f) ?_
 rw[A6 (cs:=(A3 k f).row) (by rw[Fo.AD];rfl)]
 refine AG o2 (Fo.Aj _) rfl fun S3 n3 o3 f3=>?_
 rw[An (n:=4) o3 (Fo.Aj _)]
 exact⟨_,rfl,(k1.trans k2).st (by omega) n3 f3,Fo.tr _ _ _⟩
theorem Ep(k:Int)(f g:Fo):BF Pg 81 [aI k,f.av,g.av] (A7 k f g).av:=by
 intro S
 refine Ad.tree (nH ?_)
 unfold m81
 refine Ai (Fo.Aj f) fun S1 k1 n1 o1=>?_
 refine Ai (Fo.Aj g) fun S2 k2 n2 o2=>?_
 refine Ai rfl fun S3 k3 n3 o3=>?_
 have kk:=(k1.trans k2).trans k3
 rw[An (n:=4) (Kg k3 (Kg k2 o1)) (Fo.Aj f),An (n:=4) (Kg k3 o2) (Fo.Aj g)]
 refine E1 (Fo.Aj f) (Fo.Aj g) ?_
 rw[A6 (cs:=(A7 k f g).row) (by rw[Fo.AD];rfl)]
 refine AG o3 (Fo.Aj _) rfl fun S4 n4 o4 f4=>?_
 rw[An (n:=4) o4 (Fo.Aj _)]
 exact⟨_,rfl,kk.st (by omega) n4 f4,Fo.tr _ _ _⟩
def C1(k:Int):Int:=
 if k=1 then 2 else if k=2 then 1 else if k=5 then 6 else if k=6 then 5 else if k=9 then 10 else if k=10 then 9 else if k=11 then 14 else if k=14 then 11
 else if k=13 then 12 else if k=12 then 13 else if k=15 then 18 else if k=18 then 15 else if k=17 then 16 else 17
theorem AfL(k:Int):BF Pg 83 [aI k] (aI (C1 k)):=by
 intro S
 refine Ad.Bu (nF ?_)
 dsimp only[m83,Fi];unfold C1
 repeat (first
  |exact⟨rfl,Am.refl _⟩
  |(rw[AA,Ag]
    refine Al (fun h=>?_) (fun h=>?_)
    ·have h:=dT h
     subst h
     exact⟨rfl,Am.refl _⟩
    have h:=dF h
    rw[if_neg h]))
abbrev LP:Fo:=.mk 0 ⟨#[]⟩ 0 []
mutual
def Fo.push:Fo→Bool→Fo
 |.mk k n l ks,t =>
  if k=3 then(if t then A3 4 (.mk k n l ks)else .mk k n l ks)
  else if k=4 then(Fo.B0 ks (!t)).getD 0 LP
  else if k=7 then(if t then A7 5 ((Fo.B0 ks false).getD 0 LP) ((Fo.B0 ks true).getD 1 LP)else A7 6 ((Fo.B0 ks true).getD 0 LP) ((Fo.B0 ks false).getD 1 LP))
  else if k=8 then A7 6 (A7 5 ((Fo.B0 ks false).getD 0 LP) ((Fo.B0 ks t).getD 1 LP)) (A7 5 ((Fo.B0 ks true).getD 0 LP) ((Fo.B0 ks (!t)).getD 1 LP))
  else .mk (if t then C1 k else k) ⟨#[]⟩ 0 (Fo.B0 ks t)
def Fo.B0:List Fo→Bool→List Fo
 |[],_=>[]
 |f :: fs,t=>Fo.push f t :: Fo.B0 fs t
end
theorem Fo.H5(t:Bool):∀ l:List Fo,Fo.B0 l t=l.map fun f=>f.push t
 |[]=>by rw[Fo.B0];rfl
 |f :: fs=>by rw[Fo.B0,Fo.H5 t fs];rfl
inductive Pu:Fo→Prop
 |c (k:Int) (hk:k=1∨k=2):Pu (.mk k ⟨#[]⟩ 0 [])
 |a (l:Int) (h0:0≤l) (hl:Bv l):Pu (.mk 3 ⟨#[]⟩ l [])
 |n (l:Int) (h0:0≤l) (hl:Bv l):Pu (.mk 4 ⟨#[]⟩ 0 [.mk 3 ⟨#[]⟩ l []])
 |o (k:Int) (f:Fo) (hk:9≤k∧k≤14) (h:Pu f):Pu (.mk k ⟨#[]⟩ 0 [f])
 |t (k:Int) (f g:Fo) (hk:k=5∨k=6∨15≤k∧k≤18) (h:Pu f) (h2:Pu g):Pu (.mk k ⟨#[]⟩ 0 [f,g])
theorem Pu.ok{f:Fo}(h:Pu f):f.ok:=by
 have z:Bv 0:=⟨by decide,by decide⟩
 have e:(⟨#[]⟩:ByteArray).size≤9223372036854775807:=by decide
 induction h with
 |c k hk=>exact .mk _ _ _ _ ⟨by omega,by omega⟩ z e (by simp) (fun f hf=>by cases hf)
 |a l h0 hl=>exact .mk _ _ _ _ ⟨by omega,by omega⟩ hl e (by simp) (fun f hf=>by cases hf)
 |n l h0 hl=>exact .mk _ _ _ _ ⟨by omega,by omega⟩ z e (by simp) (fun f hf=>by
    rw[AhT.1 hf]
    exact .mk _ _ _ _ ⟨by omega,by omega⟩ hl e (by simp) (fun f hf=>by cases hf))
 |o k f hk h ih=>exact .mk _ _ _ _ ⟨by omega,by omega⟩ z e (by simp) (fun g hg=>by rw[AhT.1 hg];exact ih)
 |t k f g hk h h2 ih ih2=>exact .mk _ _ _ _ ⟨by omega,by omega⟩ z e (by simp) (fun x hx=>by
    simp only[Ai9,AiE,or_false]at hx
    rcases hx with rfl|rfl
    ·exact ih
    ·exact ih2)
theorem I2{k:Int}{n:ByteArray}{l:Int}{t:Bool}(hk:k=1∨k=2):Fo.push (.mk k n l []) t = .mk (if t then C1 k else k) ⟨#[]⟩ 0 []:=by
 rw[Fo.push,if_neg (by omega),if_neg (by omega),if_neg (by omega),if_neg (by omega),Fo.B0]
theorem CU{n:ByteArray}{l:Int}{t:Bool}:Fo.push (.mk 3 n l []) t=if t then A3 4 (.mk 3 n l [])else .mk 3 n l []:=by rw[Fo.push,if_pos rfl]
theorem Ho{n:ByteArray}{l:Int}{f:Fo}{t:Bool}:Fo.push (.mk 4 n l [f]) t=f.push (!t):=by
 rw[Fo.push,if_neg (by decide),if_pos rfl,Fo.B0];rfl
theorem EH{n:ByteArray}{l:Int}{f g:Fo}{t:Bool}:Fo.push (.mk 7 n l [f,g]) t=if t then A7 5 (f.push false) (g.push true)else A7 6 (f.push true) (g.push false):=by
 rw[Fo.push,if_neg (by decide),if_neg (by decide),if_pos rfl,Fo.B0,Fo.B0,Fo.B0,Fo.B0,Fo.B0,Fo.B0];rfl
theorem FO{n:ByteArray}{l:Int}{f g:Fo}{t:Bool}:Fo.push (.mk 8 n l [f,g]) t=A7 6 (A7 5 (f.push false) (g.push t)) (A7 5 (f.push true) (g.push (!t))):=by
 rw[Fo.push,if_neg (by decide),if_neg (by decide),if_neg (by decide),if_pos rfl]
 simp only[Fo.H5,List.map_cons,List.map_nil];rfl
theorem Hn{k:Int}{n:ByteArray}{l:Int}{f:Fo}{t:Bool}(hk:9≤k∧k≤14):Fo.push (.mk k n l [f]) t = .mk (if t then C1 k else k) ⟨#[]⟩ 0 [f.push t]:=by
 rw[Fo.push,if_neg (by omega),if_neg (by omega),if_neg (by omega),if_neg (by omega),Fo.B0,Fo.B0]
theorem Ms{k:Int}{n:ByteArray}{l:Int}{f g:Fo}{t:Bool}(hk:k=5∨k=6∨15≤k∧k≤18):Fo.push (.mk k n l [f,g]) t = .mk (if t then C1 k else k) ⟨#[]⟩ 0 [f.push t,g.push t]:=by
 rw[Fo.push,if_neg (by omega),if_neg (by omega),if_neg (by omega),if_neg (by omega),Fo.B0,Fo.B0,Fo.B0]
theorem M9{k:Int}(hk:9≤k∧k≤14):9≤C1 k∧C1 k≤14:=by
 have:k=9∨k=10∨k=11∨k=12∨k=13∨k=14:=by omega
 rcases this with rfl|rfl|rfl|rfl|rfl|rfl<;>decide
theorem RB{k:Int}(hk:k=5∨k=6∨15≤k∧k≤18):C1 k=5∨C1 k=6∨15≤C1 k∧C1 k≤18:=by
 have:k=5∨k=6∨k=15∨k=16∨k=17∨k=18:=by omega
 rcases this with rfl|rfl|rfl|rfl|rfl|rfl<;>decide
theorem ON:∀(f:Fo),f.ok→∀{d:Int},f.BQ d=true→∀ t,Pu (f.push t):=by
 intro f
 induction f using Fo.ind with
 |h k n l ks ih =>
  intro hok d hm t
  obtain⟨o1,o2,o3,o4,o5⟩:=hok.inv
  obtain⟨rfl,hd,h⟩:=Dt hm
  rcases h with⟨hk,rfl,rfl⟩|⟨rfl,rfl,h0⟩|⟨hk,rfl,f,rfl,hf⟩|⟨hk,rfl,f,g,rfl,hf,hg⟩
  ·rw[I2 hk]
   refine .c _ ?_
   rcases hk with rfl|rfl<;>cases t<;>decide
  ·rw[CU]
   cases t with
   |true=>exact .n _ h0 o2
   |false=>exact .a _ h0 o2
  ·have hf':=fun t=>ih f (by simp) (o5 f (by simp)) hf t
   by_cases h4:k=4
   ·subst h4
    rw[Ho]
    exact hf' _
   ·rw[Hn (by omega)]
    refine .o _ _ ?_ (hf' _)
    have:=M9 (k:=k) (by omega)
    split<;>omega
  ·have hf':=fun t=>ih f (by simp) (o5 f (by simp)) hf t
   have hg':=fun t=>ih g (by simp) (o5 g (by simp)) hg t
   by_cases h7:k=7
   ·subst h7
    rw[EH]
    cases t with
    |true=>exact .t _ _ _ (by decide) (hf' _) (hg' _)
    |false=>exact .t _ _ _ (by decide) (hf' _) (hg' _)
   by_cases h8:k=8
   ·subst h8
    rw[FO]
    exact .t _ _ _ (by decide) (.t _ _ _ (by decide) (hf' _) (hg' _)) (.t _ _ _ (by decide) (hf' _) (hg' _))
   rw[Ms (by omega)]
   refine .t _ _ _ ?_ (hf' _) (hg' _)
   have:=RB (k:=k) (by omega)
   split<;>omega
def Tn.st:Tn→Int
 |.mk _ s _ _ _=>s
def BY (c:Ci) (s:Int):Bool:=decide (0≤s) && (decide (s<2 ^ c.gr.inputs.toNat) && c.cons.all fun l=>DM c s l)
def BO (c:Ci) (s t:Int):Bool:=BY c s && (BY c t && decide ((GZ c s).fdiv (2 ^ min c.inputs.toNat 64)=t.fdiv (2 ^ min c.inputs.toNat 64)))
def C7 (c:Ci) (ss:List Int):Bool:=(List.range (ss.length - 1)).all fun i=>BO c (ss.getD i 0) (ss.getD (i+1) 0)
def SC (c:Ci) (ss:List Int):Bool:=c.fair.all fun l=>ss.any fun s=>DM c s l
abbrev IA:Fo:=.mk 2 ⟨#[]⟩ 0 []
abbrev GL:Fo:=A3 13 IA
open Classical in
def El (c:Ci) (f:Fo) (tk s a:Int) (ss kst:List Int):(Int × Bool) ⊕ (List Fo × List Int):=
 match f with
 |.mk k _ l fs =>
  if BY c s=false then .inl (0,false)
  else if k=1 then .inl (0,false)
  else if k=2 then .inl (0,decide (tk=1∧a=0∧ss = []∧kst = []))
  else if k=3 then .inl (0,decide (tk=1∧a=0∧ss = []∧kst = []) && DM c s l)
  else if k=4 then .inl (0,decide (tk=1∧a=0∧ss = []∧kst = []) && !DM c s (fs.getD 0 LP).lit)
  else if k=5 then if tk=2∧a=0∧ss = []then .inr (fs,[s,s])else .inl (0,false)
  else if k=6 then if tk=3∧0≤a∧a≤1∧ss = []then .inr ([fs.getD a.toNat LP],[s])else .inl (0,false)
  else if k=9 then if tk=4∧a=0∧ss = []∧kst.length=2∧BO c s (kst.getD 0 0)=true then .inr ([fs.getD 0 LP,GL],[kst.getD 0 0,kst.getD 0 0])else .inl (0,false)
  else if k=11∨k=15 then if ss≠[]∧ss.getD 0 0=s∧a=0∧tk=5∧C7 c ss=true then .inr (List.replicate (ss.length - 1) (if k=11 then IA else fs.getD 0 LP) ++ [fs.getD (if k=11 then 0 else 1) LP,GL],ss ++ [ss.getD (ss.length - 1) 0])else .inl (0,false)
  else if k=13 then if ss≠[]∧ss.getD 0 0=s∧0≤a∧a<ss.length∧tk=6∧BO c (ss.getD (ss.length - 1) 0) (ss.getD a.toNat 0)=true∧C7 c ss=true∧SC c (ss.drop a.toNat)=true then .inr (List.replicate ss.length (fs.getD 0 LP),ss)else .inl (0,false)
  else if k=17 then if tk=3∧0≤a∧a≤1∧ss = []then .inr ([if a=0 then A3 13 (fs.getD 1 LP)else A7 15 (fs.getD 1 LP) (A7 5 (fs.getD 0 LP) (fs.getD 1 LP))],[s])else .inl (0,false)
  else .inl (1,decide (tk=7∧a=0∧ss = []∧kst = []))
mutual
def Tn.acc (c:Ci):Tn→Fo→Int × Bool
 |.mk tk s a ss ks,f=>match El c f tk s a ss (ks.map Tn.st)with
  |.inl r=>r
  |.inr (fs,sts)=>Tn.B6 c ks fs sts 0
def Tn.B6 (c:Ci):List Tn→List Fo→List Int→Int→Int × Bool
 |[],fs,ss,n=>match fs,ss with
  |[],[]=>(n,true)
  |_,_=>(0,false)
 |t :: ts,fs,ss,n=>match fs,ss with
  |f :: fs,s :: ss=>if((Tn.acc c t f).2 && decide (t.st=s))=true then Tn.B6 c ts fs ss (IntKind.i64.wrap (n+(Tn.acc c t f).1))else(0,false)
  |_,_=>(0,false)
end
theorem R0(c:Ci):∀(ts:List Tn) (fs:List Fo) (ss:List Int) (n:Int),¬ (fs.length=ts.length∧ss.length=ts.length)→Tn.B6 c ts fs ss n=(0,false):=by
 intro ts
 induction ts with
 |nil =>
  intro fs ss n h
  cases fs<;>cases ss<;>first|(exact absurd ⟨rfl,rfl⟩ h)|(simp[Tn.B6])
 |cons t ts ih =>
  intro fs ss n h
  cases fs with
  |nil=>cases ss<;>simp[Tn.B6]
  |cons f fs =>
   cases ss with
   |nil=>simp[Tn.B6]
   |cons s ss =>
    rw[Tn.B6]
    split
    ·exact ih fs ss _ (fun hq=>h (by simp[hq]))
    ·rfl
theorem Oz{c:Ci}{t:Tn}{ts:List Tn}{f:Fo}{fs:List Fo}{s:Int}{ss:List Int}{n:Int}:Tn.B6 c (t :: ts) (f :: fs) (s :: ss) n=if((Tn.acc c t f).2 && decide (t.st=s))=true then Tn.B6 c ts fs ss (IntKind.i64.wrap (n+(Tn.acc c t f).1))else(0,false):=by rw[Tn.B6]
theorem No{c:Ci}{n:Int}:Tn.B6 c [] [] [] n=(n,true):=by rw[Tn.B6]
theorem KT{e:Nat}{f:Fo}{l:List Fo}{S:Aa}{K:AV→Aa→Prop}:AS e 4 (Du (f :: l)) (.v (.int .i64 0)) S K=K (.q f.row 0) S:=Cg (i:=0) (by simp)
theorem Rq{e:Nat}{f g:Fo}{l:List Fo}{S:Aa}{K:AV→Aa→Prop}:AS e 4 (Du (f :: g :: l)) (.v (.int .i64 1)) S K=K (.q g.row 0) S:=Cg (i:=1) (by simp)
theorem VA{e:Nat}{f:Fo}{l:List Fo}{S0:Aa}{P:AV→Prop}:(∃ q,(∀ T,Am S0 T→AS e 4 (Du (f :: l)) (.v (.int .i64 0)) T fun v S=>v=q∧S=T)∧P q)=P (.q f.row 0):=E9 (op:=fun T K=>AS e 4 (Du (f :: l)) (.v (.int .i64 0)) T K) fun T hT K=>KT
theorem R6{e:Nat}{f g:Fo}{l:List Fo}{S0:Aa}{P:AV→Prop}:(∃ q,(∀ T,Am S0 T→AS e 4 (Du (f :: g :: l)) (.v (.int .i64 1)) T fun v S=>v=q∧S=T)∧P q)=P (.q g.row 0):=E9 (op:=fun T K=>AS e 4 (Du (f :: g :: l)) (.v (.int .i64 1)) T K) fun T hT K=>Rq
theorem vQ{e i:Nat}{l:List Fo}(h:i<l.length){S0:Aa}{P:AV→Prop}:(∃ q,(∀ T,Am S0 T→AS e 4 (Du l) (aI i) T fun v S=>v=q∧S=T)∧P q)=P (.q l[i].row 0):=E9 (op:=fun T K=>AS e 4 (Du l) (aI i) T K) fun T hT K=>Cg h
theorem Vz{e:Nat}{z1 z2 z3 z4:AV}{r:List AV}(hr:r.length=4){S0:Aa}{P:AV→Prop}(k:P (.l [r])):∃ q,(∀ T,Am S0 T→AU e 4 1 [z1,z2,z3,z4] [(0,.a r)] T fun v S=>v=q∧S=T)∧P q:=⟨_,fun T hT=>G7 hr ⟨rfl,rfl⟩,k⟩
abbrev HC:List AV:=[.v (.int .i64 0),.v (.string ByteArray.empty),.v (.int .i64 0),.nl]
theorem Mp{ks:List Fo}{k k2 l:Int}{n:ByteArray}{t:Bool}(hl:ks.length≤1000000)(hf:∀ f∈ks,BF Pg 35 [f.av,aB t] (f.push t).av){S S4:Aa}{o:Nat}{Q:Bh→Aa→Prop}(kk:Am S S4)(h0:S.n<S4.n)
    (ho:S.n+1<o) (ho2:o<S4.n) (oa:S4.obj S.n=some (.cells 32 [[aI k,.v (.string n),aI l,Du ks]] true)) (ob:S4.obj (S.n+1)=some (.cells 32 [HC] true)) (oc:S4.obj o=some (.cells 32 [[aI k2,.v (.string ⟨#[]⟩),aI 0,.nl]] true))
    (hQ:∀(r:AV) (T:Aa),Am S T→Cv (T.BA (AL S.n)) S.n r (Fo.mk k2 ⟨#[]⟩ 0 (Fo.B0 ks t)).av→Q (.ret r) T):
    Ap I5 (vc Pg (Xv.at_ [1,1,1,1,0,1,0,0]) (KJ.drop 1)) 109 (Ft (aB t) (.p S.n 0 0) (.p (S.n+1) 0 0) (.p o 0 0) (.v (.int .i64 0))) S4 (Ak 1 (Av (vc Pg (Xv.at_ [1,1,1,1,1]) (KJ.drop 1)) (Ao Pg zP Q))):=by
 refine ZH (fun y S'=>∃(i:Nat) (z:AV),y=aI i∧i≤ks.length∧Am S S'∧S4.n≤S'.n∧S'.obj S.n=some (.cells 32 [[aI k,.v (.string n),aI l,Du ks]] true)∧S'.obj (S.n+1)=some (.cells 32 [HC] true)∧
     S'.obj o=some (.cells 32 [[aI k2,.v (.string ⟨#[]⟩),aI 0,z]] true)∧A4 S4.n S' z 32 (((ks.take i).map fun f=>f.push t).map Fo.row))
  (fun y _=>ks.length - ((Aw y).getD 0).toNat) ⟨0,.nl,rfl,AhS _,kk,AhN _,oa,ob,oc,.nl _ _ _⟩ ?_
 dsimp only[BS]
 rintro _ S5 ⟨i,z,rfl,hi,k5,n5,oa,ob,oc,w5⟩ KE hKE
 dsimp only[uI,Fi,Lf,Lt,Lc]
 rw[Ac,Ae oa rfl rfl,BJ,As,Ag]
 refine Al (fun hlt=>?_) (fun hge=>?_)
 ·have hlt:i<ks.length:=by have:=dT hlt;omega
  have hmem:=AhP hlt
  (repeat (first|with_reducible_and_instances (first|refine WJ ?_|refine W (Dr oc (by omega) (by with_unfolding_all rfl) (by with_unfolding_all rfl)) ?_|refine W (Dr oa (by omega) (by with_unfolding_all rfl) (by with_unfolding_all rfl)) ?_|refine W (vQ hlt) ?_|refine W (G1 (Fo.Aj _)) ?_|refine W (AN (by with_unfolding_all rfl)) ?_)|refine BE (hf _ hmem) rfl rfl ?_|refine CT (hf _ hmem) rfl rfl ?_|refine Hb (hf _ hmem) rfl rfl ?_))
  refine Vz (Fo.Aj _) ?_
  refine w5.app (c:=(ks[i].push t).row) (by omega) (Fo.Aj _) (by simp;omega) (fun z' S6 w6 b6 hz=>?_) rfl
  obtain⟨m6,hm6⟩:=hz
  have n6:=b6.1
  have old6:∀ x,x<S4.n→S6.obj x=S5.obj x:=fun x hx=>b6.2 x (by omega) (fun b m e=>by have:=w5.lt e;omega)
  refine Cj ?_
  refine B4 ((old6 _ (by omega)).trans oc) (by simp) (by rw[hm6];rfl) fun S7 n7 o7 f7=>?_
  rw[Ar (by omega) (by omega)]
  have old7:∀ x,x<o→S7.obj x=S5.obj x:=fun x hx=>(f7 x (by omega)).trans (old6 x (by omega))
  refine hKE _ _ ⟨i+1,z',rfl,hlt,⟨by have:=k5.1;omega,fun x hx=>(old7 x (by omega)).trans (k5.2 x hx)⟩,by omega,(old7 _ (by omega)).trans oa,(old7 _ (by omega)).trans ob,o7,?_⟩ (by simp[Aw];omega)
  rw[AiA,AhM hlt,AhU,AhU]
  exact w6.st (id:=o) (fun b m e=>by rw[hm6]at e;injection e;omega) n7 f7
 ·have hge:i=ks.length:=by have:=dF hge;omega
  subst hge
  rw[An (n:=4) oc rfl]
  refine AG ob rfl rfl fun S6 n6 o6 f6=>?_
  rw[An (n:=4) o6 rfl]
  have w6:A4 S4.n S6 z 32 _:=w5.st (id:=S.n+1) (fun b m e=>by have:=w5.lt e;omega) n6 f6
  rw[AiM]at w6
  refine hQ _ _ (k5.st (by omega) n6 f6) ?_
  rw[Fo.av,Fo.AD,Fo.H5]
  refine .a _ _ rfl fun k u u2 e1 e2=>?_
  match k with
  |0=>cases e1;cases e2;exact .v _
  |1=>cases e1;cases e2;exact .v _
  |2=>cases e1;cases e2;exact .v _
  |3=>cases e1;cases e2;exact D9 (fun r hr u hu=>by obtain⟨f,_,rfl⟩:=Ai5.1 hr;exact Fo.tree f u hu) w6 (by omega)
  |k+4=>simp at e1
theorem iL:∀(f:Fo),f.ok→∀{d:Int},f.BQ d=true→∀ t,BF Pg 35 [f.av,aB t] (f.push t).av:=by
 intro f
 induction f using Fo.ind with
 |h k n l ks ih =>
  intro hok d hm t S
  obtain⟨h1,h2,h3,h4,h5⟩:=hok.inv
  have hf:∀ f∈ks,∀ d,f.BQ d=true→∀ t,BF Pg 35 [f.av,aB t] (f.push t).av:=fun f hf d hd t=>ih f hf (h5 f hf) hd t
  have hall:∀ f∈ks,f.BQ (d - 1)=true:=fun f hf=>by
   rw[Fo.CJ]at hm
   simp only[AhO,AhW]at hm
   exact hm.2.2.2.2 f hf
  refine Ad.tree (pF ?_)
  dsimp only[m35,Y3,Fi,Lf,Lt,Lc]
  rw[Fo.av,Fo.AD]
  refine Ai rfl fun S1 k1 n1 o1=>?_
  refine Ai rfl fun S2 k2 n2 o2=>?_
  have p2:=(Kg k2 o1)
  have kk:=k1.trans k2
  rw[n1]at o2
  rw[n1]
  rw[Ac,Ae p2 rfl rfl]
  have fin:∀(g:Fo) (T:Aa),Am S T→T.obj (S.n+1)=some (.cells 32 [HC] true)→g=Fo.push (.mk k n l ks) t→A8 4 (.p (S.n+1) 0 0) g.av T (fun _ T2=>AB 4 (.p (S.n+1) 0 0) T2 fun v S'=>∃ r,Bh.ret v = .ret r∧Am S S'∧Cv (S'.BA (AL S.n)) S.n r (Fo.push (.mk k n l ks) t).av):=by
   intro g T hT ho hg
   rw[Fo.av]
   refine AG ho (Fo.Aj g) rfl fun T1 n1 o1 f1=>?_
   rw[An (n:=4) o1 (Fo.Aj g)]
   exact⟨_,rfl,hT.st (by omega) n1 f1,by rw[←hg];exact Fo.tr g _ _⟩
  have dflt:∀(T:Aa) (o:Nat) (k2:Int),Am S T→S.n+1<o→o<T.n→T.obj S.n=some (.cells 32 [[aI k,.v (.string n),aI l,Du ks]] true)→T.obj (S.n+1)=some (.cells 32 [HC] true)→T.obj o=some (.cells 32 [[aI k2,.v (.string ⟨#[]⟩),aI 0,.nl]] true)→
      Fo.push (.mk k n l ks) t = .mk k2 ⟨#[]⟩ 0 (Fo.B0 ks t)→
      Ap I5 (vc Pg (Xv.at_ [1,1,1,1,0,1,0,0]) (KJ.drop 1)) 109 (Ft (aB t) (.p S.n 0 0) (.p (S.n+1) 0 0) (.p o 0 0) (.v (.int .i64 0))) T (Ak 1 (Av (vc Pg (Xv.at_ [1,1,1,1,1]) (KJ.drop 1)) (Ao Pg zP fun e S'=>∃ r,e = .ret r∧Am S S'∧Cv (S'.BA (AL S.n)) S.n r (Fo.push (.mk k n l ks) t).av))):=fun T o k2 hT ho ho2 oa ob oc he =>
   Mp h4 (fun f hf'=>hf f hf' _ (hall f hf') t) hT (by omega) ho ho2 oa ob oc fun r T' hT' hr=>⟨r,rfl,hT',by rw[he];exact hr⟩
  have rest:¬ k=3→¬ k=4→¬ k=7→¬ k=8→CD [(0,1),(1,1),(2,1),(3,1)] HC [(0,aI k)] S2 fun v135 T=>Az 32 4 (.a HC) T fun v136 T=>A8 4 v136 v135 T fun _ T=>gd t (shift (.p S.n 0 0) 0 T fun v139 T=>Ay v139 T fun v140 T=>Ah Pg 83 [v140] T (fun e S'=>∃ r,e = .ret r∧Am S S'∧Cv (S'.BA (AL S.n)) S.n r (Fo.push (.mk k n l ks) t).av) fun v141 T=>shift v136 0 T fun v142 T=>A8 1 v142 v141 T fun _ T =>
      Ap I5 (vc Pg (Xv.at_ [1,1,1,1,0,1,0,0]) (KJ.drop 1)) 109 (Ft (aB t) (.p S.n 0 0) (.p (S.n+1) 0 0) v136 (.v (.int .i64 0))) T (Ak 1 (Av (vc Pg (Xv.at_ [1,1,1,1,1]) (KJ.drop 1)) (Ao Pg zP fun e S'=>∃ r,e = .ret r∧Am S S'∧Cv (S'.BA (AL S.n)) S.n r (Fo.push (.mk k n l ks) t).av))))
      (Ap I5 (vc Pg (Xv.at_ [1,1,1,1,0,1,0,0]) (KJ.drop 1)) 109 (Ft (aB t) (.p S.n 0 0) (.p (S.n+1) 0 0) v136 (.v (.int .i64 0))) T (Ak 1 (Av (vc Pg (Xv.at_ [1,1,1,1,1]) (KJ.drop 1)) (Ao Pg zP fun e S'=>∃ r,e = .ret r∧Am S S'∧Cv (S'.BA (AL S.n)) S.n r (Fo.push (.mk k n l ks) t).av)))):=by
   intro h3 h4' h7 h8
   have he:Fo.push (.mk k n l ks) t = .mk (if t then C1 k else k) ⟨#[]⟩ 0 (Fo.B0 ks t):=by rw[Fo.push,if_neg h3,if_neg h4',if_neg h7,if_neg h8]
   rw[A6 (cs:=[aI k,.v (.string ⟨#[]⟩),aI 0,.nl]) rfl]
   refine Ai rfl fun S3 k3 n3 o3=>?_
   refine AG (cs':=[aI k,.v (.string ⟨#[]⟩),aI 0,.nl]) o3 rfl rfl fun S4 n4 o4 f4=>?_
   have k4:=k3.st (AhN _) n4 f4
   have p4:=(Kg k4 p2)
   have r4:=(Kg k4 o2)
   refine Al (fun ht=>?_) (fun ht=>?_)
   ·subst ht
    rw[Ac,Ae p4 rfl rfl]
    refine Af (AfL k) ?_
    rw[Ac]
    refine B4 o4 (by simp) rfl fun S5 n5 o5 f5=>?_
    exact dflt S5 S2.n (C1 k) ((kk.trans k4).st (by omega) n5 f5) (by omega) (by omega) ((f5 _ (by omega)).trans p4) ((f5 _ (by omega)).trans r4) o5 he
   ·subst ht
    exact dflt S4 S2.n k (kk.trans k4) (by omega) (by omega) p4 r4 o4 he
  obtain⟨rfl,hd,hc⟩:=Dt hm
  rcases hc with⟨hk,rfl,rfl⟩|⟨rfl,rfl,h0⟩|⟨hk,rfl,f,rfl,hfm⟩|⟨hk,rfl,f,g,rfl,hfm,hgm⟩
  ·repeat (refine EB (by omega) ?_)
   rw[Ac,Ae p2 rfl rfl]
   exact rest (by omega) (by omega) (by omega) (by omega)
  ·refine CK rfl ?_
   rw[Ag]
   refine Al (fun ht=>?_) (fun ht=>?_)
   ·subst ht
    rw[An (n:=4) p2 rfl]
    refine CT (vB 4 (.mk 3 ⟨#[]⟩ l [])) rfl (by rw[Fo.av,Fo.AD]) ?_
    exact fin (A3 4 (.mk 3 ⟨#[]⟩ l [])) _ kk o2 (by rw[CU];rfl)
   ·subst ht
    rw[An (n:=4) p2 rfl]
    have:=fin (.mk 3 ⟨#[]⟩ l []) _ kk o2 (by rw[CU];rfl)
    rw[Fo.av,Fo.AD]at this
    exact this
  ·have cf:=fun t=>hf f (by simp) _ hfm t
   by_cases h4:k=4
   ·subst h4
    refine EB (by decide) (CK rfl ?_)
    rw[Ac,Ae p2 rfl rfl,KT,Ca (Fo.Aj f),AJ]
    refine Af (cf _) ?_
    exact fin _ _ kk o2 Ho.symm
   ·repeat (refine EB (by omega) ?_)
    rw[Ac,Ae p2 rfl rfl]
    exact rest (by omega) (by omega) (by omega) (by omega)
  ·have cf:=fun t=>hf f (by simp) _ hfm t
   have cg:=fun t=>hf g (by simp) _ hgm t
   by_cases h7:k=7
   ·subst h7
    refine EB (by decide) (EB (by decide) (CK rfl ?_))
    rw[Ag]
    refine Al (fun ht=>?_) (fun ht=>?_)
    ·subst ht
     (repeat (first|with_reducible_and_instances (first|refine WJ ?_|refine W (Dr p2 (by omega) (by with_unfolding_all rfl) (by with_unfolding_all rfl)) ?_|refine W (VA) ?_|refine W (R6) ?_|refine W (G1 (Fo.Aj _)) ?_|refine W (AN (by with_unfolding_all rfl)) ?_)|refine BE (cf false) rfl rfl ?_|refine CT (cf false) rfl rfl ?_|refine Hb (cf false) rfl rfl ?_|refine BE (cg true) rfl rfl ?_|refine CT (cg true) rfl rfl ?_|refine Hb (cg true) rfl rfl ?_|refine BE (Ep 5 _ _) rfl rfl ?_|refine CT (Ep 5 _ _) rfl rfl ?_|refine Hb (Ep 5 _ _) rfl rfl ?_))
     exact fin (A7 5 (f.push false) (g.push true)) _ kk o2 (by rw[EH];rfl)
    ·subst ht
     (repeat (first|with_reducible_and_instances (first|refine WJ ?_|refine W (Dr p2 (by omega) (by with_unfolding_all rfl) (by with_unfolding_all rfl)) ?_|refine W (VA) ?_|refine W (R6) ?_|refine W (G1 (Fo.Aj _)) ?_|refine W (AN (by with_unfolding_all rfl)) ?_)|refine BE (cf true) rfl rfl ?_|refine CT (cf true) rfl rfl ?_|refine Hb (cf true) rfl rfl ?_|refine BE (cg false) rfl rfl ?_|refine CT (cg false) rfl rfl ?_|refine Hb (cg false) rfl rfl ?_|refine BE (Ep 6 _ _) rfl rfl ?_|refine CT (Ep 6 _ _) rfl rfl ?_|refine Hb (Ep 6 _ _) rfl rfl ?_))
     exact fin (A7 6 (f.push true) (g.push false)) _ kk o2 (by rw[EH];rfl)
   by_cases h8:k=8
   ·subst h8
    refine EB (by decide) (EB (by decide) (EB (by decide) (CK rfl ?_)))
    (repeat (first|with_reducible_and_instances (first|refine WJ ?_|refine W (Dr p2 (by omega) (by with_unfolding_all rfl) (by with_unfolding_all rfl)) ?_|refine W (VA) ?_|refine W (R6) ?_|refine W (G1 (Fo.Aj _)) ?_|refine W (AN (by with_unfolding_all rfl)) ?_)|refine BE (cf false) rfl rfl ?_|refine CT (cf false) rfl rfl ?_|refine Hb (cf false) rfl rfl ?_|refine BE (cg t) rfl rfl ?_|refine CT (cg t) rfl rfl ?_|refine Hb (cg t) rfl rfl ?_|refine BE (Ep 5 (f.push false) (g.push t)) rfl rfl ?_|refine CT (Ep 5 (f.push false) (g.push t)) rfl rfl ?_|refine Hb (Ep 5 (f.push false) (g.push t)) rfl rfl ?_))
    refine Ai rfl fun S3 k3 n3 o3=>?_
    refine AG (cs':=(A7 5 (f.push false) (g.push t)).row) o3 (Fo.Aj _) rfl fun S4 n4 o4 f4=>?_
    have k4:=k3.st (AhN _) n4 f4
    have p4:=(Kg k4 p2)
    have r4:=(Kg k4 o2)
    (repeat (first|with_reducible_and_instances (first|refine WJ ?_|refine W (Dr p4 (by omega) (by with_unfolding_all rfl) (by with_unfolding_all rfl)) ?_|refine W (VA) ?_|refine W (R6) ?_|refine W (G1 (Fo.Aj _)) ?_|refine W (AN (by with_unfolding_all rfl)) ?_)|refine BE (cf true) rfl rfl ?_|refine CT (cf true) rfl rfl ?_|refine Hb (cf true) rfl rfl ?_|refine BE (cg (!t)) rfl rfl ?_|refine CT (cg (!t)) rfl rfl ?_|refine Hb (cg (!t)) rfl rfl ?_|refine BE (Ep 5 (f.push true) (g.push (!t))) rfl rfl ?_|refine CT (Ep 5 (f.push true) (g.push (!t))) rfl rfl ?_|refine Hb (Ep 5 (f.push true) (g.push (!t))) rfl rfl ?_))
    refine Ai rfl fun S5 k5 n5 o5=>?_
    refine AG (cs':=(A7 5 (f.push true) (g.push (!t))).row) o5 (Fo.Aj _) rfl fun S6 n6 o6 f6=>?_
    have k6:=k5.st (AhN _) n6 f6
    rw[An (n:=4) (Kg k6 o4) (Fo.Aj _),An (n:=4) o6 (Fo.Aj _)]
    refine Af (Ep 6 (A7 5 (f.push false) (g.push t)) (A7 5 (f.push true) (g.push (!t)))) ?_
    exact fin _ _ ((kk.trans k4).trans k6) (Kg k6 r4) FO.symm
   ·repeat (refine EB (by omega) ?_)
    rw[Ac,Ae p2 rfl rfl]
    exact rest (by omega) (by omega) (by omega) (by omega)
theorem K4(k:Int)(l:List Fo):BF Pg 117 [aI k,Du l] (Fo.av (.mk k ⟨#[]⟩ 0 l)):=by
 intro S
 refine Ad.tree (dS ?_)
 unfold AdY
 refine Ai rfl fun S1 k1 n1 o1=>?_
 rw[A6 (cs:=Fo.row (.mk k ⟨#[]⟩ 0 l)) (by rw[Fo.AD];rfl)]
 refine AG o1 (Fo.Aj _) rfl fun S2 n2 o2 f2=>?_
 rw[An (n:=4) o2 (Fo.Aj _)]
 exact⟨_,rfl,k1.st (AhN _) n2 f2,Fo.tr _ _ _⟩
def AeT:List (Int × Int):=[(1,2),(5,6),(9,10),(11,14),(13,12),(15,18),(17,16)]
def IP(n:Nat):List (Key × AV):=(AeT.take n).flatMap fun p=>[(.i p.1,aI p.2),(.i p.2,aI p.1)]
abbrev IN:AV:=.mt (.i .i64) (IP 7)
def sX:List AV:=[aI 1,aI 2,aI 5,aI 6,aI 9,aI 10,aI 11,aI 14,aI 13,aI 12,aI 15,aI 18,aI 17,aI 16]
theorem W4{i:Nat}(h:i<7):∃ a b:Int,IF true 2 (i*2) sX=some (.a [aI a,aI b])∧CW (CW (IP i) (.i a) (aI b)) (.i b) (aI a)=IP (i+1):=by
 match i,h with
 |0,_=>exact⟨1,2,rfl,rfl⟩
 |1,_=>exact⟨5,6,rfl,rfl⟩
 |2,_=>exact⟨9,10,rfl,rfl⟩
 |3,_=>exact⟨11,14,rfl,rfl⟩
 |4,_=>exact⟨13,12,rfl,rfl⟩
 |5,_=>exact⟨15,18,rfl,rfl⟩
 |6,_=>exact⟨17,16,rfl,rfl⟩
theorem mJ{k:Int}(h:k=1∨k=2∨k=5∨k=6∨9≤k∧k≤18):jU (aI 0) false (Jf (IP 7) (.i k))=aI (C1 k):=by
 have:k=1∨k=2∨k=5∨k=6∨k=9∨k=10∨k=11∨k=12∨k=13∨k=14∨k=15∨k=16∨k=17∨k=18:=by omega
 rcases this with rfl|rfl|rfl|rfl|rfl|rfl|rfl|rfl|rfl|rfl|rfl|rfl|rfl|rfl<;>rfl
theorem jL{n sz id z:Nat}(hz:z<n){S0:Aa}{P:AV→Prop}:(∃ q,(∀ T,Am S0 T→Iz n sz (.p id 0 0) (aI z) T fun v S=>v=q∧S=T)∧P q)=P (.p id 0 (z*sz)):=E9 (op:=fun T K=>Iz n sz (.p id 0 0) (aI z) T K) fun T hT K=>M2 hz
theorem iH:BF Pg 69 [] IN:=by
 intro S
 refine Ad.tree (nW ?_)
 unfold m69
 unfold YG
 dsimp only
 rw[A6 (cs:=[aI 1,aI 2]) rfl,A6 (cs:=[aI 5,aI 6]) rfl,A6 (cs:=[aI 9,aI 10]) rfl,A6 (cs:=[aI 11,aI 14]) rfl,A6 (cs:=[aI 13,aI 12]) rfl,A6 (cs:=[aI 15,aI 18]) rfl,A6 (cs:=[aI 17,aI 16]) rfl,A6 (cs:=sX) rfl]
 refine Zo (fun y S'=>Am S S'∧S.n<S'.n∧∃ i:Nat,y=aI i∧i≤7∧S'.obj S.n=some (.map (.i .i64) (IP i) true)) (fun y _=>7 - ((Aw y).getD 0).toNat) ⟨(Am.refl S).new _,by simp,0,rfl,by omega,B1 _⟩ ?_
 dsimp only[BS]
 rintro _ S3 ⟨k3,n3,i,rfl,hi,m3⟩ KE hKE
 dsimp only[tQ,Fi,Lt]
 rw[As,Ag]
 refine Al (fun hlt=>?_) (fun hge=>?_)
 ·have hlt:i<7:=by have:=dT hlt;omega
  obtain⟨a,b,hp,hs⟩:=W4 hlt
  refine⟨i,rfl,⟨by omega,by omega⟩,?_⟩
  refine⟨.a [aI a,aI b],by rw[Ai1];exact hp,?_⟩
  refine Ai rfl fun S4 k4 n4 o4=>?_
  refine AG (cs':=[aI a,aI b]) o4 rfl rfl fun S5 n5 o5 f5=>?_
  have k5:=k4.st (AhN _) n5 f5
  have m5:=(k5.2 _ n3).trans m3
  have r0:∀{P:AV→Prop},(∃ q,(∀ T,Am S5 T→Iz 2 1 (.p S3.n 0 0) (.v (.int .i64 0)) T fun v S=>v=q∧S=T)∧P q)=P (.p S3.n 0 0):=jL (z:=0) (by omega)
  have r1:∀{P:AV→Prop},(∃ q,(∀ T,Am S5 T→Iz 2 1 (.p S3.n 0 0) (.v (.int .i64 1)) T fun v S=>v=q∧S=T)∧P q)=P (.p S3.n 0 1):=jL (z:=1) (by omega)
  rw[r0,Dr o5 (by omega) rfl rfl,r1,Dr o5 (by omega) rfl rfl,r1,Dr o5 (by omega) rfl rfl,r0,Dr o5 (by omega) rfl rfl]
  rw[FD m5 (ND _ _)]
  have o6:(Aa.Dl S5 S.n (.map (.i .i64) (CW (IP i) (.i a) (aI b)) true)).obj S3.n=_:=(C3 (by omega)).trans o5
  refine⟨fun T hT=>by rw[Ae ((hT.2 _ (by show _<S5.n;omega)).trans o6) rfl rfl];exact⟨rfl,rfl⟩,fun T hT=>by rw[show (aI 0)=aI ((0:Nat):Int)from rfl,M2 (by omega)];exact⟨rfl,rfl⟩,fun T hT=>by rw[Ae ((hT.2 _ (by show _<S5.n;omega)).trans o6) rfl rfl];exact⟨rfl,rfl⟩,fun T hT=>by rw[show (aI 1)=aI ((1:Nat):Int)from rfl,M2 (by omega)];exact⟨rfl,rfl⟩,?_⟩
  rw[FD (BG _ _) (ND _ _),Gm,hs,Ar (by omega) (by omega)]
  exact hKE _ _ ⟨(k3.trans k5).Dl (AhN _) _,by show S.n<S5.n;omega,i+1,rfl,hlt,BG _ _⟩ (by simp[Aw];omega)
 ·have hge:i=7:=by have:=dF hge;omega
  subst hge
  refine⟨_,rfl,k3,.m' S.n (.i .i64) (IP 7) (IP 7) ?_ rfl (fun i e e2 h h2=>by rw[h]at h2;cases h2;rfl) (fun i e e2 h h2=>?_)⟩
  ·rw[U6 m3]
   have:AL S.n S.n=true:=by simp[AL]
   rw[this]
   rfl
  ·rw[h]at h2;cases h2
   have hm:e∈IP 7:=AiS h
   simp only[IP,List.mem_flatMap]at hm
   obtain⟨p,_,hp⟩:=hm
   simp only[Ai9,AiE,or_false]at hp
   rcases hp with rfl|rfl<;>exact .v _
theorem uZ{S:Aa}{fid mid i tf:Nat}{k l:Int}{n:ByteArray}{ks:List Fo}{t:Bool}(ho:S.obj fid=some (.cells tf [[aI k,.v (.string n),aI l,Du ks]] true))(hf:fid<S.n)(hm:S.obj mid=some (.cells 118 [[IN]] true))(hm2:mid<S.n)(hi:i<ks.length)
    (h:BF Pg 68 [ks[i].av,aB t,IN] (ks[i].push t).av):AT Pg 116 ([] ++ [aI i,aB t] ++ [.p fid 0 0,.p mid 0 0]) S (ks[i].push t).av:=by
 refine Ad.tree (dU ?_)
 dsimp only[AdZ,Lt,Lc]
 refine Ai rfl fun S1 k1 n1 o1=>?_
 have p1:=(k1.2 _ hf).trans ho
 have q1:=(k1.2 _ hm2).trans hm
 (repeat (first|with_reducible_and_instances (first|refine WJ ?_|refine W (Dr p1 (by omega) (by with_unfolding_all rfl) (by with_unfolding_all rfl)) ?_|refine W (Dr q1 (by omega) (by with_unfolding_all rfl) (by with_unfolding_all rfl)) ?_|refine W (vQ hi) ?_|refine W (G1 (Fo.Aj _)) ?_|refine W (AN (by with_unfolding_all rfl)) ?_)|refine BE (h) rfl rfl ?_|refine CT (h) rfl rfl ?_|refine Hb (h) rfl rfl ?_))
 refine AG o1 (Fo.Aj _) rfl fun S2 n2 o2 f2=>?_
 rw[An (n:=4) o2 (Fo.Aj _)]
 exact⟨_,rfl,k1.st (AhN _) n2 f2,Fo.tr _ _ _⟩
abbrev lL(a b:Nat):AV:=.f (.func 116) [] [.p a 0 0,.p b 0 0]
theorem NB{ks:List Fo}{k k2 l:Int}{n:ByteArray}{t:Bool}(hl:ks.length≤1000000)(hf:∀ f∈ks,BF Pg 68 [f.av,aB t,IN] (f.push t).av){S S4:Aa}{o:Nat}{Q:Bh→Aa→Prop}(kk:Am S S4)(h0:S.n<S4.n)
    (ho:S.n+2<o) (ho2:o<S4.n) (oa:S4.obj S.n=some (.cells 32 [[aI k,.v (.string n),aI l,Du ks]] true)) (om:S4.obj (S.n+1)=some (.cells 118 [[IN]] true)) (ob:S4.obj (S.n+2)=some (.cells 32 [HC] true)) (oc:S4.obj o=some (.cells 32 [[aI k2,.v (.string ⟨#[]⟩),aI 0,.nl]] true))
    (hQ:∀(r:AV) (T:Aa),Am S T→Cv (T.BA (AL S.n)) S.n r (Fo.mk k2 ⟨#[]⟩ 0 (Fo.B0 ks t)).av→Q (.ret r) T):
    Ap I4 (vc Pg (Xt.at_ [1,1,1,1,1,0,1,0,0]) (KH.drop 1)) 86 (Fq (aB t) (.p (S.n+2) 0 0) (lL S.n (S.n+1)) (.p o 0 0) (aI ks.length) (.v (.int .i64 0))) S4 (Ak 1 (Av (vc Pg (Xt.at_ [1,1,1,1,1,1]) (KH.drop 1)) (Ao Pg zO Q))):=by
 refine Zp (fun y S'=>∃(i:Nat) (z:AV),y=aI i∧i≤ks.length∧Am S S'∧S4.n≤S'.n∧S'.obj S.n=some (.cells 32 [[aI k,.v (.string n),aI l,Du ks]] true)∧S'.obj (S.n+1)=some (.cells 118 [[IN]] true)∧S'.obj (S.n+2)=some (.cells 32 [HC] true)∧
     S'.obj o=some (.cells 32 [[aI k2,.v (.string ⟨#[]⟩),aI 0,z]] true)∧A4 S4.n S' z 32 (((ks.take i).map fun f=>f.push t).map Fo.row))
  (fun y _=>ks.length - ((Aw y).getD 0).toNat) ⟨0,.nl,rfl,AhS _,kk,AhN _,oa,om,ob,oc,.nl _ _ _⟩ ?_
 dsimp only[BS]
 rintro _ S5 ⟨i,z,rfl,hi,k5,n5,oa,om,ob,oc,w5⟩ KE hKE
 dsimp only[tR,Fi,Lt]
 rw[As,Ag]
 refine Al (fun hlt=>?_) (fun hge=>?_)
 ·have hlt:i<ks.length:=by have:=dT hlt;omega
  have hmem:=AhP hlt
  (repeat (first|with_reducible_and_instances (first|refine WJ ?_|refine W (Dr oc (by omega) (by with_unfolding_all rfl) (by with_unfolding_all rfl)) ?_|refine W (AN (by with_unfolding_all rfl)) ?_)|refine AhF ((fun T hT=>uZ (t:=t) (Kg hT oa) (by have:=hT.1;omega) (Kg hT om) (by have:=hT.1;omega) hlt (hf _ hmem))) rfl rfl ?_))
  refine Vz (Fo.Aj _) ?_
  refine w5.app (c:=(ks[i].push t).row) (by omega) (Fo.Aj _) (by simp;omega) (fun z' S6 w6 b6 hz=>?_) rfl
  obtain⟨m6,hm6⟩:=hz
  have n6:=b6.1
  have old6:∀ x,x<S4.n→S6.obj x=S5.obj x:=fun x hx=>b6.2 x (by omega) (fun b m e=>by have:=w5.lt e;omega)
  refine Cj ?_
  refine B4 ((old6 _ (by omega)).trans oc) (by simp) (by rw[hm6];rfl) fun S7 n7 o7 f7=>?_
  rw[Ar (by omega) (by omega)]
  have old7:∀ x,x<o→S7.obj x=S5.obj x:=fun x hx=>(f7 x (by omega)).trans (old6 x (by omega))
  refine hKE _ _ ⟨i+1,z',rfl,hlt,⟨by have:=k5.1;omega,fun x hx=>(old7 x (by omega)).trans (k5.2 x hx)⟩,by omega,(old7 _ (by omega)).trans oa,(old7 _ (by omega)).trans om,(old7 _ (by omega)).trans ob,o7,?_⟩ (by simp[Aw];omega)
  rw[AiA,AhM hlt,AhU,AhU]
  exact w6.st (id:=o) (fun b m e=>by rw[hm6]at e;injection e;omega) n7 f7
 ·have hge:i=ks.length:=by have:=dF hge;omega
  subst hge
  rw[An (n:=4) oc rfl]
  refine AG ob rfl rfl fun S6 n6 o6 f6=>?_
  rw[An (n:=4) o6 rfl]
  have w6:A4 S4.n S6 z 32 _:=w5.st (id:=S.n+2) (fun b m e=>by have:=w5.lt e;omega) n6 f6
  rw[AiM]at w6
  refine hQ _ _ (k5.st (by omega) n6 f6) ?_
  rw[Fo.av,Fo.AD,Fo.H5]
  refine .a _ _ rfl fun k u u2 e1 e2=>?_
  match k with
  |0=>cases e1;cases e2;exact .v _
  |1=>cases e1;cases e2;exact .v _
  |2=>cases e1;cases e2;exact .v _
  |3=>cases e1;cases e2;exact D9 (fun r hr u hu=>by obtain⟨f,_,rfl⟩:=Ai5.1 hr;exact Fo.tree f u hu) w6 (by omega)
  |k+4=>simp at e1
theorem iI:∀(f:Fo),f.ok→∀{d:Int},f.BQ d=true→∀ t,BF Pg 68 [f.av,aB t,IN] (f.push t).av:=by
 intro f
 induction f using Fo.ind with
 |h k n l ks ih =>
  intro hok d hm t S
  obtain⟨h1,h2,h3,h4,h5⟩:=hok.inv
  have hf:∀ f∈ks,∀ d,f.BQ d=true→∀ t,BF Pg 68 [f.av,aB t,IN] (f.push t).av:=fun f hf d hd t=>ih f hf (h5 f hf) hd t
  have hall:∀ f∈ks,f.BQ (d - 1)=true:=fun f hf=>by
   rw[Fo.CJ]at hm
   simp only[AhO,AhW]at hm
   exact hm.2.2.2.2 f hf
  refine Ad.tree (nX ?_)
  dsimp only[m68,YX,Fi,Lf]
  rw[Fo.av,Fo.AD]
  refine Ai rfl fun S1 k1 n1 o1=>?_
  refine BN rfl fun S2 k2 n2 o2=>?_
  refine Ai rfl fun S3 k3 n3 o3=>?_
  rw[show S2.n=S.n+2 by omega]at o3
  rw[n1]at o2
  rw[show S2.n=S.n+2 by omega,n1]
  have p3:=(Kg k3 (Kg k2 o1))
  have q3:=(Kg k3 o2)
  have kk:=(k1.trans k2).trans k3
  rw[Ac,Ae p3 rfl rfl]
  have ck:∀(T:Aa),T.obj S.n=some (.cells 32 [[aI k,.v (.string n),aI l,Du ks]] true)→T.obj (S.n+1)=some (.cells 118 [[IN]] true)→S.n+1<T.n→∀(i:Nat) (hi:i<ks.length) (t:Bool),AT Pg 116 ([] ++ [aI i,aB t] ++ [.p S.n 0 0,.p (S.n+1) 0 0]) T (ks[i].push t).av:=
   fun T ho hm hn i hi t=>uZ ho (by omega) hm hn hi (hf _ (AhP hi) _ (hall _ (AhP hi)) t)
  have fin:∀(g:Fo) (T:Aa),Am S T→T.obj (S.n+2)=some (.cells 32 [HC] true)→g=Fo.push (.mk k n l ks) t→A8 4 (.p (S.n+2) 0 0) g.av T (fun _ T2=>AB 4 (.p (S.n+2) 0 0) T2 fun v S'=>∃ r,Bh.ret v = .ret r∧Am S S'∧Cv (S'.BA (AL S.n)) S.n r (Fo.push (.mk k n l ks) t).av):=by
   intro g T hT ho hg
   rw[Fo.av]
   refine AG ho (Fo.Aj g) rfl fun T1 n1 o1 f1=>?_
   rw[An (n:=4) o1 (Fo.Aj g)]
   exact⟨_,rfl,hT.st (by omega) n1 f1,by rw[←hg];exact Fo.tr g _ _⟩
  have dflt:∀(T:Aa) (o:Nat) (k2:Int),Am S T→S.n+2<o→o<T.n→T.obj S.n=some (.cells 32 [[aI k,.v (.string n),aI l,Du ks]] true)→T.obj (S.n+1)=some (.cells 118 [[IN]] true)→T.obj (S.n+2)=some (.cells 32 [HC] true)→T.obj o=some (.cells 32 [[aI k2,.v (.string ⟨#[]⟩),aI 0,.nl]] true)→
      Fo.push (.mk k n l ks) t = .mk k2 ⟨#[]⟩ 0 (Fo.B0 ks t)→
      Ap I4 (vc Pg (Xt.at_ [1,1,1,1,1,0,1,0,0]) (KH.drop 1)) 86 (Fq (aB t) (.p (S.n+2) 0 0) (lL S.n (S.n+1)) (.p o 0 0) (aI ks.length) (.v (.int .i64 0))) T (Ak 1 (Av (vc Pg (Xt.at_ [1,1,1,1,1,1]) (KH.drop 1)) (Ao Pg zO fun e S'=>∃ r,e = .ret r∧Am S S'∧Cv (S'.BA (AL S.n)) S.n r (Fo.push (.mk k n l ks) t).av))):=fun T o k2 hT ho ho2 oa om ob oc he =>
   NB h4 (fun f hf'=>hf f hf' _ (hall f hf') t) hT (by omega) ho ho2 oa om ob oc fun r T' hT' hr=>⟨r,rfl,hT',by rw[he];exact hr⟩
  have rest:¬ k=3→¬ k=4→¬ k=7→¬ k=8→(k=1∨k=2∨k=5∨k=6∨9≤k∧k≤18)→shift (.p S.n 0 0) 0 S3 fun v53 T=>Ay v53 T fun v54 T=>CD [(0,1),(1,1),(2,1),(3,1)] HC [(0,v54)] T fun v55 T=>Az 32 4 (.a HC) T fun v56 T=>A8 4 v56 v55 T fun _ T=>gd t (Ay (.p (S.n+1) 0 0) T fun v59 T=>shift (.p S.n 0 0) 0 T fun v60 T=>Ay v60 T fun v61 T=>UW (.i .i64) (.v (.int .i64 0)) false v59 v61 T fun v62 T=>shift v56 0 T fun v63 T=>A8 1 v63 v62 T fun _ T =>
      shift (.p S.n 0 0) 3 T fun v65 T=>Ay v65 T fun v66 T=>AF v66 T fun v67 T =>
      Ap I4 (vc Pg (Xt.at_ [1,1,1,1,1,0,1,0,0]) (KH.drop 1)) 86 (Fq (aB t) (.p (S.n+2) 0 0) (lL S.n (S.n+1)) v56 v67 (.v (.int .i64 0))) T (Ak 1 (Av (vc Pg (Xt.at_ [1,1,1,1,1,1]) (KH.drop 1)) (Ao Pg zO fun e S'=>∃ r,e = .ret r∧Am S S'∧Cv (S'.BA (AL S.n)) S.n r (Fo.push (.mk k n l ks) t).av))))
      (shift (.p S.n 0 0) 3 T fun v65 T=>Ay v65 T fun v66 T=>AF v66 T fun v67 T=>Ap I4 (vc Pg (Xt.at_ [1,1,1,1,1,0,1,0,0]) (KH.drop 1)) 86 (Fq (aB t) (.p (S.n+2) 0 0) (lL S.n (S.n+1)) v56 v67 (.v (.int .i64 0))) T (Ak 1 (Av (vc Pg (Xt.at_ [1,1,1,1,1,1]) (KH.drop 1)) (Ao Pg zO fun e S'=>∃ r,e = .ret r∧Am S S'∧Cv (S'.BA (AL S.n)) S.n r (Fo.push (.mk k n l ks) t).av)))):=by
   intro h3 h4' h7 h8 hkd
   have he:Fo.push (.mk k n l ks) t = .mk (if t then C1 k else k) ⟨#[]⟩ 0 (Fo.B0 ks t):=by rw[Fo.push,if_neg h3,if_neg h4',if_neg h7,if_neg h8]
   rw[Ac,Ae p3 rfl rfl,A6 (cs:=[aI k,.v (.string ⟨#[]⟩),aI 0,.nl]) rfl]
   refine Ai rfl fun S4 k4 n4 o4=>?_
   refine AG (cs':=[aI k,.v (.string ⟨#[]⟩),aI 0,.nl]) o4 rfl rfl fun S5 n5 o5 f5=>?_
   have k5:=k4.st (AhN _) n5 f5
   have p5:=(Kg k5 p3)
   have q5:=(Kg k5 q3)
   have r5:=(Kg k5 o3)
   refine Al (fun ht=>?_) (fun ht=>?_)
   ·subst ht
    rw[Ae q5 rfl rfl,Ac,Ae p5 rfl rfl,ZY (ND _ _),mJ hkd,Ac]
    refine B4 o5 (by simp) rfl fun S6 n6 o6 f6=>?_
    rw[Ac,Ae ((f6 _ (by omega)).trans p5) rfl rfl,BJ]
    exact dflt S6 S3.n (C1 k) ((kk.trans k5).st (by omega) n6 f6) (by omega) (by omega) ((f6 _ (by omega)).trans p5) ((f6 _ (by omega)).trans q5) ((f6 _ (by omega)).trans r5) o6 he
   ·subst ht
    rw[Ac,Ae p5 rfl rfl,BJ]
    exact dflt S5 S3.n k (kk.trans k5) (by omega) (by omega) p5 q5 r5 o5 he
  obtain⟨rfl,hd,hc⟩:=Dt hm
  rcases hc with⟨hk,rfl,rfl⟩|⟨rfl,rfl,h0⟩|⟨hk,rfl,f,rfl,hfm⟩|⟨hk,rfl,f,g,rfl,hfm,hgm⟩
  ·repeat (refine EB (by omega) ?_)
   exact rest (by omega) (by omega) (by omega) (by omega) (by omega)
  ·refine CK rfl ?_
   rw[Ag]
   refine Al (fun ht=>?_) (fun ht=>?_)
   ·subst ht
    rw[An (n:=4) p3 rfl]
    refine G7 (r:=[aI 3,.v (.string ⟨#[]⟩),aI l,Du []]) rfl ?_
    refine CT (K4 4 [.mk 3 ⟨#[]⟩ l []]) rfl (by rw[show Du [Fo.mk 3 ⟨#[]⟩ l []] = .l [Fo.row (.mk 3 ⟨#[]⟩ l [])]from rfl,Fo.AD]) ?_
    exact fin (A3 4 (.mk 3 ⟨#[]⟩ l [])) _ kk o3 (by rw[CU];rfl)
   ·subst ht
    rw[An (n:=4) p3 rfl]
    have:=fin (.mk 3 ⟨#[]⟩ l []) _ kk o3 (by rw[CU];rfl)
    rw[Fo.av,Fo.AD]at this
    exact this
  ·have cf:=fun t=>ck S3 p3 q3 (by omega) 0 (by simp) t
   by_cases h4:k=4
   ·subst h4
    refine EB (by decide) (CK rfl ?_)
    rw[AJ]
    refine BL (cf _) ?_
    exact fin _ _ kk o3 Ho.symm
   ·repeat (refine EB (by omega) ?_)
    exact rest (by omega) (by omega) (by omega) (by omega) (by omega)
  ·have cf:=fun t=>ck S3 p3 q3 (by omega) 0 (by simp) t
   have cg:=fun t=>ck S3 p3 q3 (by omega) 1 (by simp) t
   by_cases h7:k=7
   ·subst h7
    refine EB (by decide) (EB (by decide) (CK rfl ?_))
    rw[Ag]
    refine Al (fun ht=>?_) (fun ht=>?_)
    ·subst ht
     refine BL (cf false) (BL (cg true) ?_)
     refine E1 (Fo.Aj _) (Fo.Aj _) (Af (K4 5 [f.push false,g.push true]) ?_)
     exact fin (A7 5 (f.push false) (g.push true)) _ kk o3 (by rw[EH];rfl)
    ·subst ht
     refine BL (cf true) (BL (cg false) ?_)
     refine E1 (Fo.Aj _) (Fo.Aj _) (Af (K4 6 [f.push true,g.push false]) ?_)
     exact fin (A7 6 (f.push true) (g.push false)) _ kk o3 (by rw[EH];rfl)
   by_cases h8:k=8
   ·subst h8
    refine EB (by decide) (EB (by decide) (EB (by decide) (CK rfl ?_)))
    refine BL (cf false) (BL (cg t) ?_)
    refine E1 (Fo.Aj _) (Fo.Aj _) (Af (K4 5 [f.push false,g.push t]) ?_)
    refine BL (cf true) ?_
    rw[AJ]
    refine BL (cg (!t)) ?_
    refine E1 (Fo.Aj _) (Fo.Aj _) (Af (K4 5 [f.push true,g.push (!t)]) ?_)
    refine E1 (Fo.Aj _) (Fo.Aj _) (Af (K4 6 [A7 5 (f.push false) (g.push t),A7 5 (f.push true) (g.push (!t))]) ?_)
    exact fin _ _ kk o3 FO.symm
   ·repeat (refine EB (by omega) ?_)
    exact rest (by omega) (by omega) (by omega) (by omega) (by omega)
def La(f:Fo):Fo:=if f.BQ 60=true then f.push false else LP
theorem AfW{f:Fo}(hf:f.ok):BF Pg 32 [f.av] (La f).av:=by
 intro S
 refine Ad.tree (pH ?_)
 dsimp only[m32,Fi,Lt,Lc];unfold La
 refine Ai (Fo.Aj f) fun S1 k1 n1 o1=>?_
 refine Ai rfl fun S2 k2 n2 o2=>?_
 have p2:=(Kg k2 o1)
 rw[An (n:=4) p2 (Fo.Aj f)]
 refine Af (vE f hf 60 ⟨by decide,by decide⟩) ?_
 rw[AJ,Ag]
 refine Al (fun h=>?_) (fun h=>?_)
 ·have h:f.BQ 60=false:=by simpa using h
  rw[h,if_neg (by decide),A6 (cs:=HC) rfl]
  refine AG (cs':=HC) o2 rfl rfl fun S3 n3 o3 f3=>?_
  rw[An (n:=4) o3 rfl]
  refine⟨_,rfl,(k1.trans k2).st (by omega) n3 f3,?_⟩
  rw[Fo.av,Fo.AD]
  refine .a _ _ rfl fun k u u2 e1 e2=>?_
  match k with
  |0=>cases e1;cases e2;exact .v _
  |1=>cases e1;cases e2;exact .v _
  |2=>cases e1;cases e2;exact .v _
  |3=>cases e1;cases e2;exact .nl
  |k+4=>simp at e1
 ·have h:f.BQ 60=true:=by simpa using h
  rw[h,if_pos rfl]
  (repeat (first|with_reducible_and_instances (first|refine WJ ?_|refine W (zE (n:=4) p2 (by omega) (Fo.Aj f)) ?_|refine W (AN (by with_unfolding_all rfl)) ?_)|refine BE (iH) rfl rfl ?_|refine CT (iH) rfl rfl ?_|refine Hb (iH) rfl rfl ?_|refine BE (iI f hf h false) rfl rfl ?_|refine CT (iI f hf h false) rfl rfl ?_|refine Hb (iI f hf h false) rfl rfl ?_))
  refine AG o2 (Fo.Aj _) rfl fun S3 n3 o3 f3=>?_
  rw[An (n:=4) o3 (Fo.Aj _)]
  exact⟨_,rfl,(k1.trans k2).st (by omega) n3 f3,Fo.tr _ _ _⟩
theorem AfS{f:Fo}(hf:f.ok):BF Pg 41 [f.av] (La f).av:=by
 intro S
 refine Ad.tree (oZ ?_)
 dsimp only[m41,Fi];unfold La
 refine Ai (Fo.Aj f) fun S1 k1 n1 o1=>?_
 refine Ai rfl fun S2 k2 n2 o2=>?_
 have p2:=(Kg k2 o1)
 rw[An (n:=4) p2 (Fo.Aj f)]
 refine Af (vD f hf 60 ⟨by decide,by decide⟩) ?_
 rw[AJ,Ag]
 refine Al (fun h=>?_) (fun h=>?_)
 ·have h:f.BQ 60=false:=by simpa using h
  rw[h,if_neg (by decide),A6 (cs:=HC) rfl]
  refine AG (cs':=HC) o2 rfl rfl fun S3 n3 o3 f3=>?_
  rw[An (n:=4) o3 rfl]
  refine⟨_,rfl,(k1.trans k2).st (by omega) n3 f3,?_⟩
  rw[Fo.av,Fo.AD]
  refine .a _ _ rfl fun k u u2 e1 e2=>?_
  match k with
  |0=>cases e1;cases e2;exact .v _
  |1=>cases e1;cases e2;exact .v _
  |2=>cases e1;cases e2;exact .v _
  |3=>cases e1;cases e2;exact .nl
  |k+4=>simp at e1
 ·have h:f.BQ 60=true:=by simpa using h
  rw[h,if_pos rfl,An (n:=4) p2 (Fo.Aj f)]
  refine Af (iL f hf h false) ?_
  refine AG o2 (Fo.Aj _) rfl fun S3 n3 o3 f3=>?_
  rw[An (n:=4) o3 (Fo.Aj _)]
  exact⟨_,rfl,(k1.trans k2).st (by omega) n3 f3,Fo.tr _ _ _⟩
structure Cs (c:Ci):Prop where
 ok:c.ok
 right:c.right=true
 small:c.gr.inputs≤60
theorem Cs.sum{c:Ci}(h:Cs c):∃ m:Nat,c.inputs+c.latches.length=m∧c.gr.inputs=m∧m≤60∧0≤c.inputs∧c.inputs≤60:=by
 obtain⟨g1,g2,g3⟩:=CQ h.right
 have hin:=(Bq.1 h.right).1
 have:=h.small
 exact⟨c.gr.inputs.toNat,by omega,by omega,by omega,hin.1,by omega⟩
theorem CS{c:Ci}(hc:Cs c)(s:Int):BF Pg 72 [c.av,aI s] (aB (BY c s)):=by
 intro S
 obtain⟨m,h1,h2,h3,h4,h5⟩:=hc.sum
 have hcon:=hc.ok.cons
 refine Ad.Bu (nS ?_)
 dsimp only[m72,Fi,Lf];unfold BY
 rw[h2,Ai1]
 refine Ai rfl fun S1 k1 n1 o1=>?_
 rw[Ac,Ae o1 rfl rfl,Ac,Ae o1 rfl rfl,Bz,Ar (by omega) (by omega),h1,As,Ag]
 refine Al (fun h=>⟨?_,k1⟩) (fun h=>?_)
 ·have:=dT h
  rw[decide_eq_false (by omega),AhV]
 have h0:=dF h
 rw[DH h3,BH,Ag,decide_eq_true (show 0≤s by omega),AhQ]
 refine Al (fun h=>⟨?_,k1⟩) (fun h=>?_)
 ·have:=dT h
  rw[decide_eq_false (by omega),AhV]
 have h6:=dF h
 rw[decide_eq_true (show s<2 ^ m by omega),AhQ]
 refine Zl (fun y S'=>S'=S1∧∃ i:Nat,y=aI i∧i≤c.cons.length∧∀ j (h:j<c.cons.length),j<i→DM c s c.cons[j]=true) (fun y _=>c.cons.length - ((Aw y).getD 0).toNat) ⟨rfl,0,rfl,AhS _,fun j _ h=>by omega⟩ ?_
 dsimp only[BS]
 rintro _ S1 ⟨rfl,i,rfl,hi,hall⟩ KE hKE
 dsimp only[tN,Fi,Lf,Lq,Ld]
 rw[Ac,Ae o1 rfl rfl,Ax,As,Ag]
 refine Al (fun hlt=>?_) (fun hge=>?_)
 ·have hlt:i<c.cons.length:=by have:=dT hlt;omega
  show ∃ q:AV,_
  refine⟨_,by rw[An (n:=8) o1 rfl];exact⟨rfl,rfl⟩,?_⟩
  refine⟨_,by rw[Ac];exact⟨rfl,rfl⟩,?_⟩
  refine⟨_,by rw[Ae o1 rfl rfl];exact⟨rfl,rfl⟩,?_⟩
  refine⟨_,by rw[AM hlt];exact⟨rfl,rfl⟩,?_⟩
  refine⟨_,by rw[A1];exact⟨rfl,rfl⟩,?_⟩
  refine⟨_,Af (IU hc.ok (s:=s) (hcon.1 _ (AhP hlt))) ⟨rfl,rfl⟩,?_⟩
  refine⟨_,by rw[AJ];exact⟨rfl,rfl⟩,?_⟩
  rw[Ag]
  refine Al (fun h=>⟨by rw[T7 hlt (by simpa using h)],k1⟩) (fun h=>?_)
  rw[Ar (by omega) (by omega)]
  exact hKE _ _ ⟨rfl,i+1,rfl,hlt,LK (p:=fun l=>DM c s l=true) (hi:=hlt) hall (by simpa using h)⟩ (by simp[Aw];omega)
 ·have hge:i=c.cons.length:=by have:=dF hge;omega
  subst hge
  exact⟨by rw[Qh fun j hj=>hall j hj hj],k1⟩
theorem AgD{a b:Int}(hb:0≤b){S0:Aa}{P:AV→Prop}:(∃ q,(bin .shr 0 (aI a) (aI b) S0 fun v S=>v=q∧S=S0)∧P q)=P (aI (a.fdiv (2 ^ min b.toNat 64))):=HU (op:=fun K=>bin .shr 0 (aI a) (aI b) S0 K) fun K=>P4 hb .i64 .i64 0
theorem Kj{c:Ci}(hc:Cs c)(s t:Int):BF Pg 75 [c.av,aI s,aI t] (aB (BO c s t)):=by
 intro S
 obtain⟨m,h1,h2,h3,h4,h5⟩:=hc.sum
 refine Ad.Bu (nO ?_)
 dsimp only[m75,YS,Fi,Lq,Ld];unfold BO
 refine Ai rfl fun S1 k1 n1 o1=>?_
 show ∃ q:AV,_
 cases e1:BY c s with
 |false =>
  (repeat (first|with_reducible_and_instances (first|refine WJ ?_|refine W (Ct (n:=8) o1 (by with_unfolding_all rfl)) ?_|refine W (Bb e1) ?_|refine W (Be e1) ?_|refine W (AK e1) ?_|refine W (AQ e1) ?_|refine W (AN (by with_unfolding_all rfl)) ?_)|refine BE (CS hc s) rfl rfl ?_|refine CT (CS hc s) rfl rfl ?_))
  exact⟨by rw[AhV],k1⟩
 |true =>
  cases e2:BY c t with
  |false =>
   (repeat (first|with_reducible_and_instances (first|refine WJ ?_|refine W (Ct (n:=8) o1 (by with_unfolding_all rfl)) ?_|refine W (Bb e1) ?_|refine W (Be e1) ?_|refine W (AK e1) ?_|refine W (AQ e1) ?_|refine W (Bb e2) ?_|refine W (Be e2) ?_|refine W (AK e2) ?_|refine W (AQ e2) ?_|refine W (AN (by with_unfolding_all rfl)) ?_)|refine BE (CS hc s) rfl rfl ?_|refine CT (CS hc s) rfl rfl ?_|refine BE (CS hc t) rfl rfl ?_|refine CT (CS hc t) rfl rfl ?_))
   exact⟨by rw[AhV,AiL],k1⟩
  |true =>
   (repeat (first|with_reducible_and_instances (first|refine WJ ?_|refine W (Ct (n:=8) o1 (by with_unfolding_all rfl)) ?_|refine W (AW o1 (by with_unfolding_all rfl) (by with_unfolding_all rfl)) ?_|refine W (AgD h4) ?_|refine W (Bb e1) ?_|refine W (Be e1) ?_|refine W (AK e1) ?_|refine W (AQ e1) ?_|refine W (Bb e2) ?_|refine W (Be e2) ?_|refine W (AK e2) ?_|refine W (AQ e2) ?_|refine W (AN (by with_unfolding_all rfl)) ?_)|refine BE (CS hc s) rfl rfl ?_|refine CT (CS hc s) rfl rfl ?_|refine BE (CS hc t) rfl rfl ?_|refine CT (CS hc t) rfl rfl ?_|refine BE (iM hc.ok s) rfl rfl ?_|refine CT (iM hc.ok s) rfl rfl ?_))
   exact⟨by rw[AhQ,AhQ],k1⟩
theorem Ng:BF Pg 77 [] IA.av:=by
 intro S
 refine Ad.tree (nM ?_)
 unfold m77
 refine Ai rfl fun S1 k1 n1 o1=>?_
 rw[A6 (cs:=[aI 2,.v (.string ByteArray.empty),aI 0,.nl]) rfl]
 refine AG (cs':=[aI 2,.v (.string ByteArray.empty),aI 0,.nl]) o1 rfl rfl fun S2 n2 o2 f2=>?_
 rw[An (n:=4) o2 rfl]
 refine⟨_,rfl,k1.st (AhN _) n2 f2,?_⟩
 rw[Fo.av,Fo.AD]
 refine .a _ _ rfl fun k u u2 e1 e2=>?_
 match k with
 |0=>cases e1;cases e2;exact .v _
 |1=>cases e1;cases e2;exact .v _
 |2=>cases e1;cases e2;exact .v _
 |3=>cases e1;cases e2;exact .nl
 |k+4=>simp at e1
theorem Vo(f g:Fo):BF Pg 79 [f.av,g.av] (A7 15 f g).av:=by
 intro S
 refine Ad.tree (nJ ?_)
 unfold m79
 refine Ai (Fo.Aj f) fun S1 k1 n1 o1=>?_
 refine Ai (Fo.Aj g) fun S2 k2 n2 o2=>?_
 refine Ai rfl fun S3 k3 n3 o3=>?_
 rw[An (n:=4) (Kg k3 (Kg k2 o1)) (Fo.Aj f),An (n:=4) (Kg k3 o2) (Fo.Aj g)]
 refine Af (Ep 15 f g) ?_
 refine AG o3 (Fo.Aj _) rfl fun S4 n4 o4 f4=>?_
 rw[An (n:=4) o4 (Fo.Aj _)]
 exact⟨_,rfl,((k1.trans k2).trans k3).st (by omega) n4 f4,Fo.tr _ _ _⟩
theorem Nh(f:Fo):BF Pg 76 [f.av] (A3 13 f).av:=by
 intro S
 refine Ad.tree (nN ?_)
 unfold m76
 refine Ai (Fo.Aj f) fun S1 k1 n1 o1=>?_
 refine Ai rfl fun S2 k2 n2 o2=>?_
 rw[An (n:=4) (Kg k2 o1) (Fo.Aj f)]
 refine Af (vB 13 f) ?_
 refine AG o2 (Fo.Aj _) rfl fun S3 n3 o3 f3=>?_
 rw[An (n:=4) o3 (Fo.Aj _)]
 exact⟨_,rfl,(k1.trans k2).st (by omega) n3 f3,Fo.tr _ _ _⟩
@[simp] theorem FV(l:List Tn){S:Aa}{K:AV→Aa→Prop}:AF (K8 l) S K=K (aI l.length) S:=by simp[K8]
theorem LM{l:List Tn}{e i:Nat}{S:Aa}{K:AV→Aa→Prop}(h:i<l.length):AS e 5 (K8 l) (aI i) S K=K (.q l[i].row 0) S:=by
 unfold K8
 rw[IK (by simpa using h) (by simp[Tn.Aj])]
 simp
theorem kY{α:Type}{l:List α}:decide ((l.length:Int)=0)=decide (l.length=0):=decide_eq_decide.2 ⟨fun h=>by omega,fun h=>by omega⟩
theorem G9(tk s a:Int)(ss:List Int)(ks:List Tn):BF Pg 73 [(Tn.mk tk s a ss ks).av] (aB (decide (a=0∧ss.length=0∧ks.length=0))):=by
 intro S
 refine Ad.Bu (nQ ?_)
 dsimp only[m73,Fi,Lf]
 rw[Tn.av,Tn.AD]
 refine Ai rfl fun S1 k1 n1 o1=>?_
 rw[Ac,Ae o1 rfl rfl,AA,Ag]
 refine Al (fun h=>?_) (fun h=>⟨?_,k1⟩)
 ·have h1:=dT h
  rw[Ac,Ae o1 rfl rfl,Ax,AA,Ag]
  refine Al (fun h=>?_) (fun h=>⟨?_,k1⟩)
  ·have h2:=dT h
   rw[Ac,Ae o1 rfl rfl,FV,AA]
   exact⟨by rw[kY];congr 3;exact decide_eq_decide.2 ⟨fun h=>⟨h1,by omega,h⟩,fun h=>h.2.2⟩,k1⟩
  ·have h2:=dF h
   rw[decide_eq_false (fun h=>by omega)]
 ·have h1:=dF h
  rw[decide_eq_false (fun h=>by omega)]
inductive Tn.ok:Tn→Prop
 |mk (k s b:Int) (ss:List Int) (ks:List Tn) (h1:Bv k) (h2:Bv s) (h3:Bv b) (h4:ss.length≤1000000) (h5:∀ x∈ss,Bv x) (h6:ks.length≤1000000) (h:∀ t∈ks,Tn.ok t):Tn.ok (.mk k s b ss ks)
abbrev aR(r:Int × Bool):AV:=.t [aI r.1,aB r.2]
theorem Ad.HR{P:Program}{fn:FuncId}{args:List AV}{S:Aa}{r:Int × Bool}(h:Ad P fn args S (fun e S'=>e = .ret (aR r)∧Am S S')):AT P fn args S (aR r):=
 Ad.tree (Ad.mono h fun e S' ⟨h1,h2⟩=>⟨_,h1,h2,DU (.v _) (.v _)⟩)
theorem Nv{vs:List AV}{i:Nat}{u:AV}(h:vs[i]? = some u){S0:Aa}{P:AV→Prop}:(∃ q,(AZ (.t vs) i S0 fun v S=>v=q∧S=S0)∧P q)=P u:=HU (op:=fun K=>AZ (.t vs) i S0 K) fun K=>by simp[AZ,h]
theorem Ei{vs:List AV}{i:Nat}{u:AV}(h:vs[i]? = some u){S:Aa}{K:AV→Aa→Prop}:AZ (.t vs) i S K=K u S:=by simp[AZ,h]
theorem G8{c:Ci}{ts:List Tn}(ht:ts.length≤1000000)(IH:∀ t∈ts,∀ f,Pu f→BF Pg 34 [c.av,f.av,t.av] (aR (t.acc c f))){fs:List Fo}(hf:∀ f∈fs,Pu f)(ss:List Int):
    BF Pg 74 [c.av,Du fs,aL aI ss,K8 ts] (aR (Tn.B6 c ts fs ss 0)):=by
 intro S
 refine Ad.HR (nP ?_)
 dsimp only[m74,Fi]
 refine Ai rfl fun S1 k1 n1 o1=>?_
 rw[BJ,FV,Bl,Ag]
 refine Al (fun h=>⟨?_,k1⟩) (fun h=>?_)
 ·rw[R0 c ts fs ss 0 (fun hq=>by simp[hq.1]at h)]
 have h1:fs.length=ts.length:=by simp at h;omega
 rw[Ax,FV,Bl,Ag]
 refine Al (fun h=>⟨?_,k1⟩) (fun h=>?_)
 ·rw[R0 c ts fs ss 0 (fun hq=>by simp[hq.2]at h)]
 have h2:ss.length=ts.length:=by simp at h;omega
 refine Zk (fun y z S'=>S'=S1∧∃(i:Nat) (n:Int),z=aI i∧y=aI n∧i≤ts.length∧Tn.B6 c ts fs ss 0=Tn.B6 c (ts.drop i) (fs.drop i) (ss.drop i) n) (fun _ z _=>ts.length - ((Aw z).getD 0).toNat) ⟨rfl,0,0,rfl,rfl,AhS _,rfl⟩ ?_
 dsimp only[Dw]
 rintro _ _ S1 ⟨rfl,i,n,rfl,rfl,hi,he⟩ KE hKE
 dsimp only[tM,Fi,Lq,Ld]
 rw[FV,As,Ag]
 refine Al (fun hlt=>?_) (fun hge=>?_)
 ·have hlt:i<ts.length:=by have:=dT hlt;omega
  have hf1:i<fs.length:=by omega
  have hs1:i<ss.length:=by omega
  have hmem:=AhP hlt
  rw[AiZ hlt,AiZ hf1,AiZ hs1,Oz]at he
  have hst:∀ t:Tn,t.row[1]? = some (aI t.st):=fun t=>by cases t;rw[Tn.AD];rfl
  show ∃ q:AV,_
  refine⟨_,by rw[An (n:=8) o1 rfl];exact⟨rfl,rfl⟩,?_⟩
  refine⟨_,by rw[Cg hf1];exact⟨rfl,rfl⟩,?_⟩
  refine⟨_,by rw[Ca (Fo.Aj _)];exact⟨rfl,rfl⟩,?_⟩
  refine⟨_,by rw[LM hlt];exact⟨rfl,rfl⟩,?_⟩
  refine⟨_,by rw[Ca (Tn.Aj _)];exact⟨rfl,rfl⟩,?_⟩
  refine⟨_,Af (IH _ hmem _ (hf _ (AhP hf1))) ⟨rfl,rfl⟩,?_⟩
  refine⟨_,by rw[Ei rfl];exact⟨rfl,rfl⟩,?_⟩
  refine⟨_,by rw[Ei rfl];exact⟨rfl,rfl⟩,?_⟩
  show ∃ q:AV,_
  cases e1:(ts[i].acc c fs[i]).2 with
  |false =>
   rw[e1,AhV,if_neg (by decide)]at he
   (repeat (first|with_reducible_and_instances (first|refine WJ ?_|refine W (Bb (Eq.refl false)) ?_|refine W (Be (Eq.refl false)) ?_|refine W (AK (Eq.refl false)) ?_|refine W (AQ (Eq.refl false)) ?_|refine W (AN (by with_unfolding_all rfl)) ?_)))
   exact⟨by rw[he],k1⟩
  |true =>
   rw[e1,AhQ]at he
   by_cases e2:ts[i].st=ss[i]
   ·rw[decide_eq_true e2,if_pos rfl]at he
    (repeat (first|with_reducible_and_instances (first|refine WJ ?_|refine W (CZ (op:=fun K=>AS _ 5 (K8 ts) (aI i) S1 K) (fun K=>LM hlt)) ?_|refine W (AN (hst _)) ?_|refine W (CZ (op:=fun K=>AS _ 1 (aL aI ss) (aI i) S1 K) (fun K=>AM hs1)) ?_|refine W (Bb (Eq.refl true)) ?_|refine W (Be (Eq.refl true)) ?_|refine W (AK (Eq.refl true)) ?_|refine W (AQ (Eq.refl true)) ?_|refine W (Bb (decide_eq_true e2)) ?_|refine W (Be (decide_eq_true e2)) ?_|refine W (AK (decide_eq_true e2)) ?_|refine W (AQ (decide_eq_true e2)) ?_|refine W (AN (by with_unfolding_all rfl)) ?_)))
    rw[Kh,show ∀ K:AV→Aa→Prop,bin .add 0 (aI i) (.v (.int .i64 1)) S1 K=K (aI (i+1:Nat)) S1 from fun K=>Ar (by omega) (by omega) 0]
    exact hKE _ _ _ ⟨rfl,i+1,_,rfl,rfl,hlt,he⟩ (by simp[Aw];omega)
   ·rw[decide_eq_false e2,if_neg (by decide)]at he
    (repeat (first|with_reducible_and_instances (first|refine WJ ?_|refine W (CZ (op:=fun K=>AS _ 5 (K8 ts) (aI i) S1 K) (fun K=>LM hlt)) ?_|refine W (AN (hst _)) ?_|refine W (CZ (op:=fun K=>AS _ 1 (aL aI ss) (aI i) S1 K) (fun K=>AM hs1)) ?_|refine W (Bb (Eq.refl true)) ?_|refine W (Be (Eq.refl true)) ?_|refine W (AK (Eq.refl true)) ?_|refine W (AQ (Eq.refl true)) ?_|refine W (Bb (decide_eq_false e2)) ?_|refine W (Be (decide_eq_false e2)) ?_|refine W (AK (decide_eq_false e2)) ?_|refine W (AQ (decide_eq_false e2)) ?_|refine W (AN (by with_unfolding_all rfl)) ?_)))
    exact⟨by rw[he],k1⟩
 ·have hge:i=ts.length:=by have:=dF hge;omega
  subst hge
  rw[List.drop_length,←h1,List.drop_length,h1,←h2,List.drop_length,No]at he
  exact⟨by rw[he],k1⟩
end
end Go.Proofs.YteooinddnfbglaaGreatDoor.G

/- Base -/
import Derived.Lib.IndexLaws
import Derived.Test.YtmpjhihpcaephaaGreatDoorProg
import Derived.KernelRfl
import Derived.Test.YtmpjhihpcaephaaGreatDoorBxT4
set_option linter.unusedVariables false
set_option linter.unusedSimpArgs false
namespace Go.Proofs.YtmpjhihpcaephaaGreatDoor.G
open Go Go.Ab
noncomputable section
theorem madeC_of{inp:Int}{lats:List (Int × Int)}{g:Gr}{outs bads cons fair:List Int}{b1 b2:Bool}{t:ByteArray}(h0:0≤inp)(h1:inp≤3)(hl1:1≤lats.length)(hl2:lats.length≤3)
    (hg:g.right=true) (hgi:g.inputs=inp+lats.length) (hga:g.ands.length≤8) (hgok:g.ok) (hlat:∀ p∈lats,g.lit p.1=true∧0≤p.2∧p.2≤2) (ho:∀ x∈outs,g.lit x=true) (hb:∀ x∈bads,g.lit x=true)
    (hc:∀ x∈cons,g.lit x=true) (hf:∀ x∈fair,g.lit x=true) (lo:outs.length≤2) (lb:bads.length≤1) (lc:cons.length≤1) (lf:fair.length≤1)
    (ht:b2=true→0<outs.length∧(t=⟨#[111,117,116]⟩∨t=⟨#[108,49]⟩∨t=⟨#[97,45,98]⟩)):
    MadeC ⟨inp,lats,g.ands,outs,bads,cons,fair,(if b1 then[⟨108,0,⟨#[113]⟩⟩]else[])++(if b2 then[⟨111,outs.length - 1,t⟩]else[])⟩:=by
 have hvg:g.vars=inp+lats.length+1+g.ands.length:=by unfold Gr.vars;omega
 have hi64:∀{x:Int},g.lit x=true→i64R x:=fun h=>by
  obtain⟨_,_,h1,h2⟩:=lit_iff.1 h
  exact⟨by omega,by omega⟩
 have hgr:∀ nm,(⟨inp,lats,g.ands,outs,bads,cons,fair,nm⟩:Ci).gr=g:=fun nm=>by
  show(⟨IntKind.i64.wrap (inp+lats.length),g.ands⟩:Gr)=g
  rw[wrap64 (by omega) (by omega),←hgi]
 have htl:b2=true→wordB t=true∧t.size≤100∧t≠⟨#[113]⟩:=fun h=>by
  rcases(ht h).2 with rfl|rfl|rfl<;>exact⟨by decide,by decide,by decide⟩
 generalize hnm:((if b1 then[⟨108,0,⟨#[113]⟩⟩]else[])++(if b2 then[⟨111,outs.length - 1,t⟩]else[]):List Na)=nm
 have hnl:nm.length≤2:=by subst hnm;cases b1<;>cases b2<;>simp
 have hnames:namesB ⟨inp,lats,g.ands,outs,bads,cons,fair,nm⟩=true:=by
  have e1:nameOk ⟨inp,lats,g.ands,outs,bads,cons,fair,nm⟩ ⟨108,0,⟨#[113]⟩⟩:=⟨by decide,by decide,by simp[Ci.many];omega⟩
  have e2:b2=true→nameOk ⟨inp,lats,g.ands,outs,bads,cons,fair,nm⟩ ⟨111,outs.length - 1,t⟩:=fun h=>⟨(htl h).1,by have:=(ht h).1;show(0:Int)≤outs.length - 1;omega,by have:=(ht h).1;simp[Ci.many];omega⟩
  have e3:nameLt ⟨108,0,⟨#[113]⟩⟩ ⟨111,outs.length - 1,t⟩:=.inl (by show rankI 108<rankI 111;decide)
  simp only[namesB,decide_eq_true_eq]
  subst hnm
  cases b1<;>cases b2
  ·exact⟨fun i h=>by simp at h,fun i h=>by simp at h,by simp⟩
  ·refine⟨fun i h _=>?_,fun i h=>by simp at h,by simp⟩
   match i with
   |0=>exact e2 rfl
   |i+1=>exact absurd (show i+1<1 from h) (by omega)
  ·refine⟨fun i h _=>?_,fun i h=>by simp at h,by simp⟩
   match i with
   |0=>exact e1
   |i+1=>exact absurd (show i+1<1 from h) (by omega)
  ·refine⟨fun i h _=>?_,fun i h _=>?_,?_⟩
   ·match i with
    |0=>exact e1
    |1=>exact e2 rfl
    |i+2=>exact absurd (show i+2<2 from h) (by omega)
   ·match i with
    |0=>exact e3
    |i+1=>exact absurd (show i+1+1<2 from h) (by omega)
   ·have:=(htl rfl).2.2
    simp only[if_true,List.cons_append,List.nil_append,List.length_cons,List.length_nil,List.take_succ_cons,List.take_zero,List.map_cons,List.map_nil,List.nodup_cons,List.mem_singleton,List.not_mem_nil,not_false_eq_true,List.nodup_nil,and_true]
    exact fun h=>this (keyOf_inj h.symm)
 have hnk:∀ x∈nm,0≤x.kind∧x.kind<256∧i64R x.pos∧x.text.size≤9223372036854775807:=by
  subst hnm
  intro x hx
  rcases List.mem_append.1 hx with hx|hx
  ·cases b1
   ·simp at hx
   ·have:x=⟨108,0,⟨#[113]⟩⟩:=by simpa using hx
    subst this
    exact⟨by decide,by decide,⟨by decide,by decide⟩,by decide⟩
  ·cases b2
   ·simp at hx
   ·have:x=⟨111,outs.length - 1,t⟩:=by simpa using hx
    subst this
    have h2:=htl rfl
    exact⟨by show(0:Int)≤111;decide,by show(111:Int)<256;decide,⟨by show _≤(outs.length:Int) - 1;omega,by show(outs.length:Int) - 1≤_;omega⟩,by show t.size≤_;omega⟩
 refine⟨⟨⟨by show _≤inp;omega,by show inp≤_;omega⟩,by show lats.length≤_;omega,by show g.ands.length≤_;omega,fun p hp=>⟨hi64 (hlat p hp).1,⟨by have:=hlat p hp;omega,by have:=hlat p hp;omega⟩⟩,hgok.pairs,⟨fun x hx=>hi64 (ho x hx),by show outs.length≤_;omega⟩,⟨fun x hx=>hi64 (hb x hx),by show bads.length≤_;omega⟩,
  ⟨fun x hx=>hi64 (hc x hx),by show cons.length≤_;omega⟩,⟨fun x hx=>hi64 (hf x hx),by show fair.length≤_;omega⟩,hnk,by show nm.length≤_;omega⟩,right_c.2 ?_,⟨h0,h1⟩,⟨hl1,hl2⟩,hga,lo,lb,lc,lf,⟨b1,b2,t,hnm.symm,ht⟩⟩
 rw[hgr]
 refine⟨⟨h0,by show inp≤_;omega⟩,by show lats.length≤_;omega,by show outs.length≤_;omega,by show bads.length≤_;omega,by show cons.length≤_;omega,by show fair.length≤_;omega,hg,?_,?_,?_,?_,?_,hnames⟩
 ·refine List.all_eq_true.2 fun p hp=>?_
  obtain⟨q1,q2,q3⟩:=hlat p hp
  simp only[latOk,q1,decide_eq_true q2,decide_eq_true q3,Bool.and_self]
 ·exact List.all_eq_true.2 ho
 ·exact List.all_eq_true.2 hb
 ·exact List.all_eq_true.2 hc
 ·exact List.all_eq_true.2 hf
def seedL(l:List Int):List Int:=(List.range (pickV l 2 9).toNat).map fun i=>pickV l (3+i) 65536
def varsL(l:List Int):Int:=(madeTo (pickV l 0 4+(1+pickV l 1 3)) (seedL l) (min (seedL l).length 40)).1.vars
theorem made217{l:List Int}(hl:∀ x∈l,0≤x∧x<65536){S:Store}:ACalls Pg 17 [aL aW16 l] S (fun e S'=>∃ tr,e = .ret tr∧S'=S∧∃ c,tr=c.av∧MadeC c∧c.gr.vars=varsL l∧c.inputs=pickV l 0 4):=by
 refine ACalls.treeE (calls17 ?_)
 unfold m17
 refine box1_of rfl fun S1 k1 n1 o1=>?_
 refine boxA_of rfl fun S2 k2 n2 o2=>?_
 refine box1_of rfl fun S3 k3 n3 o3=>?_
 refine st_of o3 rfl rfl fun S4 n4 o4 f4=>?_
 refine boxA_of rfl fun S5 k5 n5 o5=>?_
 have e1:S1.n=S.n+1:=n1
 have e2:S2.n=S.n+2:=by omega
 have e4:S4.n=S.n+3:=by omega
 rw[e1]at o2;rw[e2]at o3 o4 f4;rw[e4]at o5
 rw[e1,e2,e4]
 have fm:Fm S l S5 0 [aI 0,.nl,.nl,.nl,.nl,.nl,.nl,.nl]:=by
  have old4:∀ x,x<S.n+2→S4.obj x=S2.obj x:=fun x hx=>(f4 x (by omega)).trans (k3.2 x (by omega))
  have old5:∀ x,x<S.n+3→S5.obj x=S4.obj x:=fun x hx=>k5.2 x (by omega)
  refine⟨⟨by omega,fun x hx=>(old5 x (by omega)).trans ((old4 x (by omega)).trans ((k2.2 x (by omega)).trans (k1.2 x hx)))⟩,by omega,?_,?_,(old5 _ (by omega)).trans o4,o5⟩
  ·exact(old5 _ (by omega)).trans ((old4 _ (by omega)).trans ((k2.2 _ (by omega)).trans o1))
  ·exact(old5 _ (by omega)).trans ((old4 _ (by omega)).trans o2)
 show callV _ (pickF S) _ _ _ _
 refine fm.pick hl (by decide) (by decide) fun S6 fm n6 f6=>?_
 have pi:=pickV_rng hl (k:=0) (n:=4) (by decide)
 generalize hinp:pickV l 0 4=inp at *
 rw[shift_p]
 refine fm.st (by simp) rfl fun S7 fm n7 f7=>?_
 show callV _ (pickF S) _ _ _ _
 refine fm.pick hl (by decide) (by decide) fun S8 fm n8 f8=>?_
 have pm:=pickV_rng hl (k:=1) (n:=3) (by decide)
 generalize hm3:pickV l 1 3=m3 at *
 rw[bin_add (by omega) (by omega)]
 obtain⟨many,hmany⟩:=Int.eq_ofNat_of_zero_le (show 0≤1+m3 by omega)
 have hm1:1≤many∧many≤3:=by omega
 rw[hmany]
 show callV _ (pickF S) _ _ _ _
 refine fm.pick hl (by decide) (by decide) fun S9 fm n9 f9=>?_
 have pr:=pickV_rng hl (k:=2) (n:=9) (by decide)
 generalize h9:pickV l 2 9=r9 at *
 obtain⟨r0,rfl⟩:=Int.eq_ofNat_of_zero_le pr.1
 replace fm:Fm S l S9 3 [aI inp,.nl,.nl,.nl,.nl,.nl,.nl,.nl]:=fm
 show loopV _ _ _ (env17_0 (.p (S.n+1) 0 0) (pickF S) (.p (S.n+3) 0 0) (aI many) .nl (aI r0)) _ _
 refine loop17_0 (fun y7 y8 S'=>∃(r k:Nat) (sd:List Int),y8=aI r∧(r+sd.length=r0∧k=3+sd.length∧sd=(List.range sd.length).map fun i=>pickV l (3+i) 65536)∧r+sd.length≤8∧k+r≤11∧Fm S l S' k [aI inp,.nl,.nl,.nl,.nl,.nl,.nl,.nl]∧Own (S.n+4) S' y7 69 (sd.map fun x=>[aW16 x])∧∀ x∈sd,0≤x∧x<65536)
  (fun _ y _=>((intA y).getD 0).toNat) ⟨r0,3,[],rfl,⟨by simp,rfl,rfl⟩,by simp;omega,by omega,fm,Own.nl _ _ _,fun _ h=>by cases h⟩ ?_
 rintro y7 _ S1 ⟨r,k,sd,rfl,⟨hrr,hkk,hsq⟩,hr,hk,fm,w7,hsd⟩ KE hKE
 unfold b17_0
 rw[bin_gtr,onB_v]
 refine gd_of (fun hgt=>?_) (fun hle=>?_)
 ·have hgt:0<r:=by have:=dT hgt;omega
  refine fm.pick hl (by decide) (by omega) fun S2 fm n2 f2=>?_
  have px:=pickV_rng hl (k:=k) (n:=65536) (by decide)
  generalize hx:pickV l k 65536=x at *
  have w2:=w7.fm (by omega) n2 f2
  rw[convI_v,wrap16 px.1 px.2]
  refine bsl1 rfl (fun _ h=>by cases h) ?_
  refine w2.app (by have:=fm.n;omega) (c:=[aW16 x]) rfl (by rw[List.length_map];omega) (fun z S3 w3 b3 hz=>?_) rfl
  have n3:=b3.1
  have o3:∀ x,x<S.n+4→S3.obj x=S2.obj x:=fun x hx=>b3.2 x (by have:=fm.n;omega) (fun b m e=>by have:=w2.lt e;omega)
  rw[bin_sub (by omega) (by omega),show(r:Int) - 1=((r - 1:Nat):Int)by omega]
  refine hKE _ _ _ ⟨r - 1,k+1,sd ++ [x],rfl,⟨by simp;omega,by simp;omega,by rw[List.length_append,List.length_singleton,List.range_succ,List.map_append,←hsq];simp[←hx,hkk]⟩,by rw[List.length_append,List.length_singleton];omega,by omega,fm.old n3 o3,by rw[List.map_append];exact w3,fun a ha=>?_⟩ (by simp[intA];omega)
  rcases List.mem_append.1 ha with ha|ha
  ·exact hsd a ha
  ·have:a=x:=by simpa using ha
   subst this
   exact px
 have hle:r=0:=by have:=dF hle;omega
 subst hle
 clear hKE KE
 rw[shift_p,ld1_p fm.co rfl rfl,bin_add (by omega) (by omega)]
 have hlen:∀(T:Store) (K:AV→Store→Prop),lenS y7 T K=K (aI sd.length) T:=fun T K=>by
  rcases w7 with⟨rfl,e⟩|⟨id,rfl,_⟩
  ·have:sd = []:=List.map_eq_nil_iff.1 e
   subst this;rfl
  ·rw[lenS_s,List.length_map]
 obtain⟨q7,hq7⟩:∃ q:Nat,∀(i:Nat),i<sd.length→y7 = .s q 0 sd.length∧q<S1.n∧S1.obj q=some (.cells 69 (sd.map fun x=>[aW16 x]) true):=by
  rcases w7 with⟨rfl,e⟩|⟨id,rfl,h1,h2,h3⟩
  ·have:sd = []:=List.map_eq_nil_iff.1 e
   subst this;exact⟨0,fun i hi=>by simp at hi⟩
  ·exact⟨id,fun i _=>⟨by rw[List.length_map],h2,h3⟩⟩
 have hmade:=at44 (n:=inp+many) (by omega) (by omega) hsd (by omega) (S:=S1) (x1:=y7) hlen (P:=fun i=>.p q7 i 0) (fun T hT i hi=>by
  obtain⟨h1,h2,h3⟩:=hq7 i hi
  have h4:=(hT.2 _ h2).trans h3
  subst h1
  refine⟨fun K=>by rw[ixS_s hi h4,Nat.zero_add],fun K=>by rw[ld1_p h4 (by rw[List.getElem?_map,List.getElem?_eq_getElem hi];rfl) rfl]⟩)
 have hrt:=madeTo_right (n:=inp+many) (by omega) (by omega) hsd (min sd.length 40) (by omega)
 have hgok:=madeTo_ok (n:=inp+many) ⟨by omega,by omega⟩ hsd (by omega) (min sd.length 40)
 have hgin:=madeTo_inp (inp+many) sd (min sd.length 40)
 have hmin:min sd.length 40≤8:=by omega
 have hvars:(madeTo (inp+many) sd (min sd.length 40)).1.vars=varsL l:=by
  have e:sd=seedL l:=by
   rw[hsq,seedL,h9]
   rw[show sd.length=r0 by omega]
   rfl
  rw[varsL,hinp,hm3,hmany,←e]
 generalize(madeTo (inp+many) sd (min sd.length 40)).1=g at *
 generalize(madeTo (inp+many) sd (min sd.length 40)).2=last at *
 obtain⟨hg,hlast,hv1,hv2⟩:=hrt
 have hga:g.ands.length≤8:=by unfold Gr.vars at hv2;omega
 refine callF_at hmade ?_
 rw[extr0,extr1]
 refine boxA_of rfl fun S2 k2 n2 o2=>?_
 refine stA_of o2 rfl rfl fun S3 n3 o3 f3=>?_
 have hb:=fm.n
 replace fm:Fm S l S3 k _:=fm.old (by omega) fun x hx=>(f3 x (by omega)).trans (k2.2 x (by omega))
 rw[shift_p,ld1_p o3 rfl rfl,shift_p]
 refine fm.st (by simp) rfl fun S4 fm n4 f4=>?_
 have o4:=(f4 S1.n (by omega)).trans o3
 rw[ldN_p (n:=2) o4 rfl]
 refine callF_ans (ans45 hgok (by omega) (by omega)) ?_
 rw[bin_mul (by omega) (by omega)]
 have hvp:0<2*g.vars:=by omega
 have plit:∀{x:Int},0≤x∧x<2*g.vars→g.lit x=true:=fun h=>lit_iff.2 ⟨by omega,by omega,h.1,by omega⟩
 show loopV _ _ _ (env17_1 (.p (S.n+1) 0 0) (pickF S) (.p (S.n+3) 0 0) (aI many) (aI last) (aI (2*g.vars)) (aI (0:Nat))) _ _
 replace fm:Fm S l S4 k [aI inp,.nl,pL g.ands,.nl,.nl,.nl,.nl,.nl]:=fm
 refine loop17_1 (fun y12 S'=>∃(i k:Nat) (zl:AV) (lats:List (Int × Int)),y12=aI i∧i≤many∧k≤11+2*i∧Fm S l S' k [aI inp,zl,pL g.ands,.nl,.nl,.nl,.nl,.nl]∧Own (S.n+4) S' zl 23 (lats.map fun p=>[aI p.1,aI p.2])∧lats.length=i∧∀ p∈lats,g.lit p.1=true∧0≤p.2∧p.2≤2)
  (fun y _=>many - ((intA y).getD 0).toNat) ⟨0,k,.nl,[],rfl,Nat.zero_le _,by omega,fm,Own.nl _ _ _,rfl,fun _ h=>by cases h⟩ ?_
 rintro _ S1 ⟨i,k,zl,lats,rfl,hi,hk,fm,wl,hll,hlat⟩ KE hKE
 unfold b17_1
 rw[bin_lss,onB_v]
 refine gd_of (fun hlt=>?_) (fun hge=>?_)
 ·have hlt:i<many:=by have:=dT hlt;omega
  refine fm.pick hl hvp (by omega) fun S2 fm n2 f2=>?_
  have pn:=plit (pickV_rng hl (k:=k) hvp)
  generalize pickV l k (2*g.vars)=n at *
  have w2:=wl.fm (by omega) n2 f2
  rw[bin_eql,onB_v]
  have step:∀ nx:Int,g.lit nx=true→∀(S3:Store) (p5:Int) (k':Nat),0≤p5∧p5<5→k'≤11+2*(i+1)→Fm S l S3 k' [aI inp,zl,pL g.ands,.nl,.nl,.nl,.nl,.nl]→Own (S.n+4) S3 zl 23 (lats.map fun p=>[aI p.1,aI p.2])→
      (∃ q46:AV,(∀ T:Store,Keep S3 T→bin .quo 0 (aI p5) (.v (.int .i64 2)) T fun v S=>v=q46∧S=T)∧∃ q48:AV,(∀ T:Store,Keep S3 T→bld [(0,1),(1,1)] [.v (.int .i64 0),.v (.int .i64 0)] [(0,aI nx),(1,q46)] T fun v S=>v=q48∧S=T)∧
       ∃ q50:AV,(∀ T:Store,Keep S3 T→bslN 23 2 1 [.v (.int .i64 0),.v (.int .i64 0)] [(0,q48)] T fun v S=>v=q50∧S=T)∧appS 23 2 16 zl q50 S3 fun v52 T =>
       ∃ q53:AV,(∀ T':Store,Keep T T'→shift (.p (S.n+3) 0 0) 1 T' fun v S=>v=q53∧S=T')∧stN 1 q53 v52 T fun _ T=>bin .add 0 (aI i) (.v (.int .i64 1)) T fun v T=>KE 156 (env17_1 (.p (S.n+1) 0 0) (pickF S) (.p (S.n+3) 0 0) (aI many) (aI last) (aI (2*g.vars)) v) T):=by
   intro nx hnx S3 p5 k' hp5 hk' fm w3
   have hd:0≤p5.tdiv 2∧p5.tdiv 2≤2:=by rw[Int.tdiv_eq_ediv_of_nonneg hp5.1];omega
   refine⟨_,fun T hT=>by rw[bin_quo (by decide) (by omega) (by omega)];exact⟨rfl,rfl⟩,_,fun T hT=>by rw[bld_of (cs:=[aI nx,aI (p5.tdiv 2)]) rfl];exact⟨rfl,rfl⟩,_,fun T hT=>bslP ⟨rfl,rfl⟩,?_⟩
   refine w3.app (by have:=fm.n;omega) (c:=[aI nx,aI (p5.tdiv 2)]) rfl (by rw[List.length_map];omega) (fun z S4 w4 b4 hz=>?_) rfl
   have n4:=b4.1
   have hn3:=fm.n
   have o4:∀ x,x<S.n+4→S4.obj x=S3.obj x:=fun x hx=>b4.2 x (by omega) (fun b m e=>by have:=w3.lt e;omega)
   refine⟨_,fun T hT=>by rw[shift_p];exact⟨rfl,rfl⟩,?_⟩
   replace fm:=fm.old n4 o4
   refine fm.st (by simp) (own_one w4) fun S5 fm n5 f5=>?_
   have w5:=w4.fm (by omega) n5 f5
   rw[bin_add (by omega) (by omega)]
   refine hKE _ _ ⟨i+1,k',z,lats ++ [(nx,p5.tdiv 2)],rfl,hlt,hk',fm,by rw[List.map_append];exact w5,by simp[hll],fun p hp=>?_⟩ (by simp[intA];omega)
   rcases List.mem_append.1 hp with hp|hp
   ·exact hlat p hp
   ·have:p=(nx,p5.tdiv 2):=by simpa using hp
    subst this
    exact⟨hnx,hd⟩
  have p5:=pickV_rng hl (k:=k+1) (n:=5) (by decide)
  refine gd_of (fun h0=>?_) (fun h0=>?_)
  ·refine⟨_,fun T hT=>by rw[shift_p];exact⟨rfl,rfl⟩,zl,fun T hT=>by rw[ld1_p (fm.kT hT) rfl rfl];exact⟨rfl,rfl⟩,?_⟩
   refine fm.pick hl (by decide) (by omega) fun S3 fm n3 f3=>?_
   have w3:=w2.fm (by omega) n3 f3
   refine⟨fun T hT=>by rw[ld1_p (fm.kT hT) rfl rfl];exact⟨rfl,rfl⟩,fun T hT=>by rw[shift_p];exact⟨rfl,rfl⟩,?_⟩
   exact step _ hlast S3 _ _ p5 (by omega) fm w3
  ·refine⟨_,fun T hT=>by rw[shift_p];exact⟨rfl,rfl⟩,zl,fun T hT=>by rw[ld1_p (fm.kT hT) rfl rfl];exact⟨rfl,rfl⟩,?_⟩
   refine fm.pick hl (by decide) (by omega) fun S3 fm n3 f3=>?_
   have w3:=w2.fm (by omega) n3 f3
   refine⟨fun T hT=>by rw[ld1_p (fm.kT hT) rfl rfl];exact⟨rfl,rfl⟩,fun T hT=>by rw[shift_p];exact⟨rfl,rfl⟩,?_⟩
   exact step _ pn S3 _ _ p5 (by omega) fm w3
 have hge:i=many:=by have:=dF hge;omega
 subst hge
 clear hKE KE
 refine fm.pick hl (by decide) (by omega) fun S2 fm n2 f2=>?_
 have w2:=wl.fm (by omega) n2 f2
 have p3:=pickV_rng hl (k:=k) (n:=3) (by decide)
 generalize pickV l k 3=r3 at *
 obtain⟨r0,rfl⟩:=Int.eq_ofNat_of_zero_le p3.1
 obtain⟨S3,wk3,fm3,n3⟩:=fm.wk (cs2:=[aI inp,pL lats,pL g.ands,.nl,.nl,.nl,.nl,.nl]) rfl (fun k' u u2 e1 e2=>by
  match k' with
  |0=>cases e1;cases e2;exact .v _
  |1=>cases e1;cases e2;exact own_cvP w2 (w2.fF (Nat.le_refl _))
  |2=>cases e1;cases e2;exact treeP _ _ _
  |3|4|5|6|7=>cases e1;cases e2;exact .nl'
  |k+8=>simp at e1) (env17_2 (.p (S.n+1) 0 0) (pickF S) (.p (S.n+3) 0 0) (aI (2*g.vars)) (aI r0))
 show loopV _ _ _ (env17_2 (.p (S.n+1) 0 0) (pickF S) (.p (S.n+3) 0 0) (aI (2*g.vars)) (aI r0)) _ _
 refine loopw17_2 (fun y2 y4 y5 y11 y14 S'=>y2 = .p (S.n+1) 0 0∧y4=pickF S∧y5 = .p (S.n+3) 0 0∧y11=aI (2*g.vars)∧∃(r k:Nat) (zo:AV) (outs:List Int),y14=aI r∧outs.length+r≤2∧k+r≤20∧Fm S l S' k [aI inp,pL lats,pL g.ands,zo,.nl,.nl,.nl,.nl]∧Own (S.n+4) S' zo 3 (outs.map fun p=>[aI p])∧∀ x∈outs,g.lit x=true)
  (fun _ _ _ _ y _=>((intA y).getD 0).toNat) ⟨_,_,_,_,_,S3,wk3,rfl,rfl,rfl,rfl,r0,k+1,.nl,[],rfl,by simp;omega,by omega,fm3,Own.nl _ _ _,fun _ h=>by cases h⟩ ?_
 rintro _ _ _ _ _ S1 ⟨rfl,rfl,rfl,rfl,r,k,zo,outs,rfl,hor,hk,fm,wo,hou⟩ KE hKE
 unfold b17_2
 rw[bin_gtr,onB_v]
 refine gd_of (fun hgt=>?_) (fun hle=>?_)
 ·have hgt:0<r:=by have:=dT hgt;omega
  refine⟨_,fun T hT=>by rw[shift_p];exact⟨rfl,rfl⟩,zo,fun T hT=>by rw[ld1_p (fm.kT hT) rfl rfl];exact⟨rfl,rfl⟩,?_⟩
  refine fm.pick hl hvp (by omega) fun S2 fm n2 f2=>?_
  have pn:=plit (pickV_rng hl (k:=k) hvp)
  generalize pickV l k (2*g.vars)=n at *
  have w2:=wo.fm (by omega) n2 f2
  refine⟨fun T hT=>by rw[ld1_p (fm.kT hT) rfl rfl];exact⟨rfl,rfl⟩,fun T hT=>by rw[shift_p];exact⟨rfl,rfl⟩,_,fun T hT=>bsl1 rfl (fun _ h=>by cases h) ⟨rfl,rfl⟩,?_⟩
  refine w2.app (by have:=fm.n;omega) (c:=[aI n]) rfl (by rw[List.length_map];omega) (fun z S4 w4 b4 hz=>?_) rfl
  have n4:=b4.1
  have hn3:=fm.n
  have o4:∀ x,x<S.n+4→S4.obj x=S2.obj x:=fun x hx=>b4.2 x (by omega) (fun b m e=>by have:=w2.lt e;omega)
  refine⟨_,fun T hT=>by rw[shift_p];exact⟨rfl,rfl⟩,?_⟩
  replace fm:=fm.old n4 o4
  refine fm.st (by simp) (own_one w4) fun S5 fm n5 f5=>?_
  have w5:=w4.fm (by omega) n5 f5
  rw[bin_sub (by omega) (by omega),show(r:Int) - 1=((r - 1:Nat):Int)by omega]
  refine hKE _ _ _ _ _ _ _ _ _ _ _ _ (Wk.refl _ _) ⟨rfl,rfl,rfl,rfl,r - 1,k+1,z,outs ++ [n],rfl,by rw[List.length_append,List.length_singleton];omega,by omega,fm,by rw[List.map_append];exact w5,fun p hp=>?_⟩ (by simp[intA];omega)
  rcases List.mem_append.1 hp with hp|hp
  ·exact hou p hp
  ·have:p=n:=by simpa using hp
   subst this
   exact pn
 have hle:r=0:=by have:=dF hle;omega
 subst hle
 clear hKE KE
 have tail:∀(S':Store) (k:Nat) (zo zb zc:AV) (bads cons:List Int) (r0:Nat),r0≤1→k≤25→Fm S l S' k [aI inp,pL lats,pL g.ands,zo,zb,zc,.nl,.nl]→Own (S.n+4) S' zo 3 (outs.map fun p=>[aI p])→Own (S.n+4) S' zb 3 (bads.map fun p=>[aI p])→Own (S.n+4) S' zc 3 (cons.map fun p=>[aI p])→
     bads.length≤1→cons.length≤1→(∀ x∈bads,g.lit x=true)→(∀ x∈cons,g.lit x=true)→
     loopV lv17_3 (vc Pg (c17.at_ [1,1,1,1,1,1,1,1,1,1,1,1,1,1,1,0,1,0,0]) (ms17.drop 4)) 156 (env17_3 (.p (S.n+1) 0 0) (pickF S) (.p (S.n+3) 0 0) (aI (2*g.vars)) (aI r0)) S'
      (blockK 6 (seqK (vc Pg (c17.at_ [1,1,1,1,1,1,1,1,1,1,1,1,1,1,1,1]) (ms17.drop 4)) (bodyK Pg r17 fun e S'=>∃ r tr,e = .ret r∧Keep S S'∧Cv (S'.frz (newer S.n)) S.n r tr∧∃ c:Ci,tr=c.av∧MadeC c∧c.gr.vars=varsL l∧c.inputs=inp))):=by
  intro S' k zo zb zc bads cons r0 hr0 hk fm wo wb wc lb lc hbl hcl
  obtain⟨S3,wk3,fm3,n3⟩:=fm.wk (cs2:=[aI inp,pL lats,pL g.ands,aL aI outs,aL aI bads,aL aI cons,.nl,.nl]) rfl (fun k' u u2 e1 e2=>by
   match k' with
   |0=>cases e1;cases e2;exact .v _
   |1=>cases e1;cases e2;exact treeP _ _ _
   |2=>cases e1;cases e2;exact treeP _ _ _
   |3=>cases e1;cases e2;exact own_cvI wo (wo.fF (Nat.le_refl _))
   |4=>cases e1;cases e2;exact own_cvI wb (wb.fF (Nat.le_refl _))
   |5=>cases e1;cases e2;exact own_cvI wc (wc.fF (Nat.le_refl _))
   |6|7=>cases e1;cases e2;exact .nl'
   |k+8=>simp at e1) (env17_3 (.p (S.n+1) 0 0) (pickF S) (.p (S.n+3) 0 0) (aI (2*g.vars)) (aI r0))
  refine loopw17_3 (fun y2 y4 y5 y11 y15 S'=>y2 = .p (S.n+1) 0 0∧y4=pickF S∧y5 = .p (S.n+3) 0 0∧y11=aI (2*g.vars)∧∃(r k:Nat) (zf:AV) (fair:List Int),y15=aI r∧fair.length+r≤1∧k+r≤26∧Fm S l S' k [aI inp,pL lats,pL g.ands,aL aI outs,aL aI bads,aL aI cons,zf,.nl]∧Own (S.n+4) S' zf 3 (fair.map fun p=>[aI p])∧∀ x∈fair,g.lit x=true)
   (fun _ _ _ _ y _=>((intA y).getD 0).toNat) ⟨_,_,_,_,_,S3,wk3,rfl,rfl,rfl,rfl,r0,k,.nl,[],rfl,by simp;omega,by omega,fm3,Own.nl _ _ _,fun _ h=>by cases h⟩ ?_
  rintro _ _ _ _ _ S1 ⟨rfl,rfl,rfl,rfl,r,k,zf,fair,rfl,hfr,hk,fm,wf,hfl⟩ KE hKE
  unfold b17_3
  rw[bin_gtr,onB_v]
  refine gd_of (fun hgt=>?_) (fun hle=>?_)
  ·have hgt:0<r:=by have:=dT hgt;omega
   refine⟨_,fun T hT=>by rw[shift_p];exact⟨rfl,rfl⟩,zf,fun T hT=>by rw[ld1_p (fm.kT hT) rfl rfl];exact⟨rfl,rfl⟩,?_⟩
   refine fm.pick hl hvp (by omega) fun S2 fm n2 f2=>?_
   have pn:=plit (pickV_rng hl (k:=k) hvp)
   generalize pickV l k (2*g.vars)=n at *
   have w2:=wf.fm (by omega) n2 f2
   refine⟨fun T hT=>by rw[ld1_p (fm.kT hT) rfl rfl];exact⟨rfl,rfl⟩,fun T hT=>by rw[shift_p];exact⟨rfl,rfl⟩,_,fun T hT=>bsl1 rfl (fun _ h=>by cases h) ⟨rfl,rfl⟩,?_⟩
   refine w2.app (by have:=fm.n;omega) (c:=[aI n]) rfl (by rw[List.length_map];omega) (fun z S4 w4 b4 hz=>?_) rfl
   have n4:=b4.1
   have hn3:=fm.n
   have o4:∀ x,x<S.n+4→S4.obj x=S2.obj x:=fun x hx=>b4.2 x (by omega) (fun b m e=>by have:=w2.lt e;omega)
   refine⟨_,fun T hT=>by rw[shift_p];exact⟨rfl,rfl⟩,?_⟩
   replace fm:=fm.old n4 o4
   refine fm.st (by simp) (own_one w4) fun S5 fm n5 f5=>?_
   have w5:=w4.fm (by omega) n5 f5
   rw[bin_sub (by omega) (by omega),show(r:Int) - 1=((r - 1:Nat):Int)by omega]
   refine hKE _ _ _ _ _ _ _ _ _ _ _ _ (Wk.refl _ _) ⟨rfl,rfl,rfl,rfl,r - 1,k+1,z,fair ++ [n],rfl,by rw[List.length_append,List.length_singleton];omega,by omega,fm,by rw[List.map_append];exact w5,fun p hp=>?_⟩ (by simp[intA];omega)
   rcases List.mem_append.1 hp with hp|hp
   ·exact hfl p hp
   ·have:p=n:=by simpa using hp
    subst this
    exact pn
  have hle:r=0:=by have:=dF hle;omega
  subst hle
  clear hKE KE
  have fin:∀(S1:Store) (k:Nat) (zn:AV) (b1 b2:Bool) (t:ByteArray),Fm S l S1 k [aI inp,pL lats,pL g.ands,aL aI outs,aL aI bads,aL aI cons,zf,zn]→Own (S.n+4) S1 zf 3 (fair.map fun p=>[aI p])→(b2=true→0<outs.length∧(t=⟨#[111,117,116]⟩∨t=⟨#[108,49]⟩∨t=⟨#[97,45,98]⟩))→
      Own (S.n+4) S1 zn 53 (((if b1 then[⟨108,0,⟨#[113]⟩⟩]else[])++(if b2 then[⟨111,outs.length - 1,t⟩]else[]):List Na).map Na.row)→
      ldN 8 (.p (S.n+3) 0 0) S1 fun v S1=>stN 8 (.p (S.n+1) 0 0) v S1 fun _ S2=>ldN 8 (.p (S.n+1) 0 0) S2 fun v _=>∃ r tr,AEnd.ret v = .ret r∧Keep S S2∧Cv (S2.frz (newer S.n)) S.n r tr∧∃ c:Ci,tr=c.av∧MadeC c∧c.gr.vars=varsL l∧c.inputs=inp:=by
   intro S1 k zn b1 b2 t fm wf ht wn
   rw[ldN_p (n:=8) fm.co rfl]
   refine stA_of fm.ro rfl rfl fun S2 n2 o2 f2=>?_
   rw[ldN_p (n:=8) o2 rfl]
   have wf2:=wf.fm (id:=S.n+1) (by omega) n2 f2
   have wn2:=wn.fm (id:=S.n+1) (by omega) n2 f2
   refine⟨_,_,rfl,fm.keep.st (by omega) n2 f2,?_,⟨inp,lats,g.ands,outs,bads,cons,fair,(if b1 then[⟨108,0,⟨#[113]⟩⟩]else[])++(if b2 then[⟨111,outs.length - 1,t⟩]else[])⟩,rfl,madeC_of pi.1 (by omega) (by omega) (by omega) hg (by rw[hgin,hll]) hga hgok hlat hou hbl hcl hfl (by omega) lb lc (by omega) ht,?_,rfl⟩
   rotate_left
   ·have hgi':g.inputs=inp+lats.length:=by rw[hgin,hll]
    have:(Ci.gr ⟨inp,lats,g.ands,outs,bads,cons,fair,(if b1 then[⟨108,0,⟨#[113]⟩⟩]else[])++(if b2 then[⟨111,outs.length - 1,t⟩]else[])⟩)=g:=by
     show(⟨IntKind.i64.wrap (inp+lats.length),g.ands⟩:Gr)=g
     rw[wrap64 (by omega) (by omega),←hgi']
    rw[this];exact hvars
   refine .a _ _ rfl fun k' u u2 e1 e2=>?_
   match k' with
   |0=>cases e1;cases e2;exact .v _
   |1=>cases e1;cases e2;exact treeP _ _ _
   |2=>cases e1;cases e2;exact treeP _ _ _
   |3=>cases e1;cases e2;exact treeI _ _ _
   |4=>cases e1;cases e2;exact treeI _ _ _
   |5=>cases e1;cases e2;exact treeI _ _ _
   |6=>cases e1;cases e2;exact own_cvI wf2 (wf2.fF (by omega))
   |7=>cases e1;cases e2;exact own_cvN wn2 (wn2.fF (by omega))
   |k+8=>simp at e1
  have snd:∀(S1:Store) (k:Nat) (zn:AV) (b1:Bool),k≤100→Fm S l S1 k [aI inp,pL lats,pL g.ands,aL aI outs,aL aI bads,aL aI cons,zf,zn]→Own (S.n+4) S1 zf 3 (fair.map fun p=>[aI p])→Apart zn zf→
      Own (S.n+4) S1 zn 53 (((if b1 then[⟨108,0,⟨#[113]⟩⟩]else[]):List Na).map Na.row)→0<outs.length→
      (∃ q182:AV,(∀ T:Store,Keep S1 T→shift (.p (S.n+3) 0 0) 7 T fun v S=>v=q182∧S=T)∧∃ q184:AV,(∀ T:Store,Keep S1 T→ld1 q182 T fun v S=>v=q184∧S=T)∧∃ q186:AV,(∀ T:Store,Keep S1 T→shift (.p (S.n+3) 0 0) 3 T fun v S=>v=q186∧S=T)∧
       ∃ q188:AV,(∀ T:Store,Keep S1 T→ld1 q186 T fun v S=>v=q188∧S=T)∧∃ q190:AV,(∀ T:Store,Keep S1 T→lenS q188 T fun v S=>v=q190∧S=T)∧∃ q192:AV,(∀ T:Store,Keep S1 T→bin .sub 0 q190 (.v (.int .i64 1)) T fun v S=>v=q192∧S=T)∧
       ∃ q194:AV,(∀ T:Store,Keep S1 T→bslN 9 1 3 [.v (.string ByteArray.empty)] [(0,(.v (.string { data:=#[111,117,116] }))),(1,(.v (.string { data:=#[108,49] }))),(2,(.v (.string { data:=#[97,45,98] })))] T fun v S=>v=q194∧S=T)∧
       callV Pg (pickF S) [.v (.int .i64 3)] S1 (fun v196 S1=>(∀ T:Store,Keep S1 T→bslN 9 1 3 [.v (.string ByteArray.empty)] [(0,(.v (.string { data:=#[111,117,116] }))),(1,(.v (.string { data:=#[108,49] }))),(2,(.v (.string { data:=#[97,45,98] })))] T fun v S=>v=q194∧S=T)∧
        (∀ T:Store,Keep S1 T→bin .sub 0 q190 (.v (.int .i64 1)) T fun v S=>v=q192∧S=T)∧(∀ T:Store,Keep S1 T→lenS q188 T fun v S=>v=q190∧S=T)∧(∀ T:Store,Keep S1 T→ld1 q186 T fun v S=>v=q188∧S=T)∧(∀ T:Store,Keep S1 T→shift (.p (S.n+3) 0 0) 3 T fun v S=>v=q186∧S=T)∧
        (∀ T:Store,Keep S1 T→ld1 q182 T fun v S=>v=q184∧S=T)∧(∀ T:Store,Keep S1 T→shift (.p (S.n+3) 0 0) 7 T fun v S=>v=q182∧S=T)∧
        ∃ q204:AV,(∀ T:Store,Keep S1 T→ixS 9 1 q194 v196 T fun v S=>v=q204∧S=T)∧∃ q206:AV,(∀ T:Store,Keep S1 T→ld1 q204 T fun v S=>v=q206∧S=T)∧
        ∃ q208:AV,(∀ T:Store,Keep S1 T→bld [(0,1),(1,1),(2,1)] [.v (.int .u8 0),.v (.int .i64 0),.v (.string ByteArray.empty)] [(0,(.v (.int .u8 111))),(1,q192),(2,q206)] T fun v S=>v=q208∧S=T)∧
        ∃ q210:AV,(∀ T:Store,Keep S1 T→bslN 53 3 1 [.v (.int .u8 0),.v (.int .i64 0),.v (.string ByteArray.empty)] [(0,q208)] T fun v S=>v=q210∧S=T)∧appS 53 3 32 q184 q210 S1 fun v212 S1 =>
        ∃ q213:AV,(∀ T:Store,Keep S1 T→shift (.p (S.n+3) 0 0) 7 T fun v S=>v=q213∧S=T)∧stN 1 q213 v212 S1 fun _ S1 =>
        ldN 8 (.p (S.n+3) 0 0) S1 fun v S1=>stN 8 (.p (S.n+1) 0 0) v S1 fun _ S2=>ldN 8 (.p (S.n+1) 0 0) S2 fun v _=>∃ r tr,AEnd.ret v = .ret r∧Keep S S2∧Cv (S2.frz (newer S.n)) S.n r tr∧∃ c:Ci,tr=c.av∧MadeC c∧c.gr.vars=varsL l∧c.inputs=inp) (fun _ _=>False)):=by
   intro S1 k zn b1 hk fm wf hap wn hol
   have hsub:∀(T:Store) (K:AV→Store→Prop),bin .sub 0 (aI outs.length) (.v (.int .i64 1)) T K=K (aI (outs.length - 1)) T:=fun T K=>bin_sub (by omega) (by omega) 0
   refine⟨_,fun T hT=>by rw[shift_p];exact⟨rfl,rfl⟩,zn,fun T hT=>by rw[ld1_p (fm.kT hT) rfl rfl];exact⟨rfl,rfl⟩,_,fun T hT=>by rw[shift_p];exact⟨rfl,rfl⟩,aL aI outs,fun T hT=>by rw[ld1_p (fm.kT hT) rfl rfl];exact⟨rfl,rfl⟩,aI outs.length,fun T hT=>by rw[lenS_aL];exact⟨rfl,rfl⟩,_,fun T hT=>by rw[hsub];exact⟨rfl,rfl⟩,
    _,fun T hT=>bsl3 rfl rfl rfl ⟨rfl,rfl⟩,?_⟩
   refine fm.pick hl (by decide) (by omega) fun S2 fm n2 f2=>?_
   have p3:=pickV_rng hl (k:=k) (n:=3) (by decide)
   generalize pickV l k 3=x at *
   obtain⟨x,rfl⟩:=Int.eq_ofNat_of_zero_le p3.1
   have wf2:=wf.fm (by omega) n2 f2
   have wn2:=wn.fm (by omega) n2 f2
   refine⟨fun T hT=>bsl3 rfl rfl rfl ⟨rfl,rfl⟩,fun T hT=>by rw[hsub];exact⟨rfl,rfl⟩,fun T hT=>by rw[lenS_aL];exact⟨rfl,rfl⟩,fun T hT=>by rw[ld1_p (fm.kT hT) rfl rfl];exact⟨rfl,rfl⟩,fun T hT=>by rw[shift_p];exact⟨rfl,rfl⟩,fun T hT=>by rw[ld1_p (fm.kT hT) rfl rfl];exact⟨rfl,rfl⟩,fun T hT=>by rw[shift_p];exact⟨rfl,rfl⟩,?_⟩
   obtain⟨t,ht,hx⟩:∃ t:ByteArray,(t=⟨#[111,117,116]⟩∨t=⟨#[108,49]⟩∨t=⟨#[97,45,98]⟩)∧∀(T:Store) (K:AV→Store→Prop),ixS 9 1 (.l [[.v (.string { data:=#[111,117,116] })],[.v (.string { data:=#[108,49] })],[.v (.string { data:=#[97,45,98] })]]) (aI x) T K=K (.q [.v (.string t)] 0) T:=by
    match x,p3 with
    |0,_=>exact⟨_,.inl rfl,fun T K=>ixS_l (i:=0) (by simp) rfl⟩
    |1,_=>exact⟨_,.inr (.inl rfl),fun T K=>ixS_l (i:=1) (by simp) rfl⟩
    |2,_=>exact⟨_,.inr (.inr rfl),fun T K=>ixS_l (i:=2) (by simp) rfl⟩
    |x+3,h=>omega
   refine⟨_,fun T hT=>by rw[hx];exact⟨rfl,rfl⟩,_,fun T hT=>by rw[ld1_q];exact⟨rfl,rfl⟩,_,fun T hT=>by rw[bld_of (cs:=[.v (.int .u8 111),aI (outs.length - 1),.v (.string t)]) rfl];exact⟨rfl,rfl⟩,_,fun T hT=>bslA3 ⟨rfl,rfl⟩,?_⟩
   refine wn2.app (by have:=fm.n;omega) (c:=[.v (.int .u8 111),aI (outs.length - 1),.v (.string t)]) rfl (by cases b1<;>simp) (fun z S4 w4 b4 hz=>?_) rfl
   have n4:=b4.1
   have hn3:=fm.n
   have o4:∀ x,x<S.n+4→S4.obj x=S2.obj x:=fun x hx=>b4.2 x (by omega) (fun b m e=>by have:=wn2.lt e;omega)
   refine⟨_,fun T hT=>by rw[shift_p];exact⟨rfl,rfl⟩,?_⟩
   replace fm:=fm.old n4 o4
   have wf4:=wf2.but b4 hap
   refine fm.st (by simp) (own_one w4) fun S5 fm n5 f5=>?_
   refine fin S5 _ z b1 true t fm (wf4.fm (by omega) n5 f5) (fun _=>⟨hol,ht⟩) ?_
   have w5:=w4.fm (by omega) n5 f5
   rw[List.map_append]
   exact w5
  refine fm.pick hl (by decide) (by omega) fun S2 fm n2 f2=>?_
  have wf2:=wf.fm (by omega) n2 f2
  have p3:=pickV_rng hl (k:=k) (n:=3) (by decide)
  generalize pickV l k 3=x3 at *
  rw[bin_gtr,onB_v]
  refine gd_of (fun hx=>?_) (fun hx=>?_)
  ·rw[shift_p,ld1_p fm.co rfl rfl,bld_of (cs:=[.v (.int .u8 108),aI 0,.v (.string ⟨#[113]⟩)]) rfl]
   refine bslA3 ?_
   refine(Own.nl (S.n+4) S2 53).app (by have:=fm.n;omega) (c:=[.v (.int .u8 108),aI 0,.v (.string ⟨#[113]⟩)]) rfl (by simp) (fun z S4 w4 b4 hz=>?_) rfl
   have n4:=b4.1
   have hn3:=fm.n
   have o4:∀ x,x<S2.n→S4.obj x=S2.obj x:=fun x hx=>b4.2 x (by omega) (fun b m e=>by cases e)
   rw[shift_p]
   replace fm:=fm.old n4 fun x hx=>o4 x (by omega)
   have wf4:=wf2.but b4 (fun _ _ _ _ _ e=>by cases e)
   obtain⟨mz,hmz⟩:=hz
   have hap:Apart z zf:=fun i b m b' m' e e'=>by
    rw[hmz]at e;injection e with e
    have:=wf2.lt e';omega
   refine fm.st (by simp) (own_one w4) fun S5 fm n5 f5=>?_
   have w5:Own (S.n+4) S5 z 53 ([⟨108,0,⟨#[113]⟩⟩].map Na.row):=w4.fm (by omega) n5 f5
   have wf5:=wf4.fm (by omega) n5 f5
   rw[shift_p,ld1_p fm.co rfl rfl,lenS_aL,bin_gtr,onB_v]
   refine gd_of (fun ho=>?_) (fun ho=>fin S5 _ z true false ⟨#[]⟩ fm wf5 (fun h=>by cases h) w5)
   have ho:0<outs.length:=by have:=dT ho;omega
   refine fm.pick hl (by decide) (by omega) fun S6 fm n6 f6=>?_
   have w6:=w5.fm (by omega) n6 f6
   have wf6:=wf5.fm (by omega) n6 f6
   rw[bin_gtr,onB_v]
   refine gd_of (fun _=>?_) (fun _=>fin S6 _ z true false ⟨#[]⟩ fm wf6 (fun h=>by cases h) w6)
   exact snd S6 _ z true (by omega) fm wf6 hap w6 ho
  ·rw[shift_p,ld1_p fm.co rfl rfl,lenS_aL,bin_gtr,onB_v]
   refine gd_of (fun ho=>?_) (fun ho=>fin S2 _ .nl false false ⟨#[]⟩ fm wf2 (fun h=>by cases h) (Own.nl _ _ _))
   have ho:0<outs.length:=by have:=dT ho;omega
   refine fm.pick hl (by decide) (by omega) fun S6 fm n6 f6=>?_
   have wf6:=wf2.fm (by omega) n6 f6
   rw[bin_gtr,onB_v]
   refine gd_of (fun _=>?_) (fun _=>fin S6 _ .nl false false ⟨#[]⟩ fm wf6 (fun h=>by cases h) (Own.nl _ _ _))
   exact snd S6 _ .nl false (by omega) fm wf6 (fun _ _ _ _ _ e=>by cases e) (Own.nl _ _ _) ho
 have last4:∀(S':Store) (k:Nat) (zo zb zc:AV) (bads cons:List Int),k≤24→Fm S l S' k [aI inp,pL lats,pL g.ands,zo,zb,zc,.nl,.nl]→Own (S.n+4) S' zo 3 (outs.map fun p=>[aI p])→Own (S.n+4) S' zb 3 (bads.map fun p=>[aI p])→Own (S.n+4) S' zc 3 (cons.map fun p=>[aI p])→
     bads.length≤1→cons.length≤1→(∀ x∈bads,g.lit x=true)→(∀ x∈cons,g.lit x=true)→∀ X,
     callV Pg (pickF S) [.v (.int .i64 4)] S' (fun v S'=>bin .quo 0 v (.v (.int .i64 2)) S' fun v S'=>loopV lv17_3 (vc Pg (c17.at_ [1,1,1,1,1,1,1,1,1,1,1,1,1,1,1,0,1,0,0]) (ms17.drop 4)) 156 (env17_3 (.p (S.n+1) 0 0) (pickF S) (.p (S.n+3) 0 0) (aI (2*g.vars)) v) S'
      (blockK 6 (seqK (vc Pg (c17.at_ [1,1,1,1,1,1,1,1,1,1,1,1,1,1,1,1]) (ms17.drop 4)) (bodyK Pg r17 fun e S'=>∃ r tr,e = .ret r∧Keep S S'∧Cv (S'.frz (newer S.n)) S.n r tr∧∃ c:Ci,tr=c.av∧MadeC c∧c.gr.vars=varsL l∧c.inputs=inp)))) X:=by
  intro S' k zo zb zc bads cons hk fm wo wb wc lb lc hbl hcl X
  refine fm.pick hl (by decide) (by omega) fun S2 fm n2 f2=>?_
  have p4:=pickV_rng hl (k:=k) (n:=4) (by decide)
  generalize pickV l k 4=x4 at *
  have hd:0≤x4.tdiv 2∧x4.tdiv 2≤1:=by rw[Int.tdiv_eq_ediv_of_nonneg p4.1];omega
  rw[bin_quo (by decide) (by omega) (by omega)]
  obtain⟨r0,hr0⟩:=Int.eq_ofNat_of_zero_le hd.1
  rw[hr0]
  exact tail S2 _ zo zb zc bads cons r0 (by omega) (by omega) fm (wo.fm (by omega) n2 f2) (wb.fm (by omega) n2 f2) (wc.fm (by omega) n2 f2) lb lc hbl hcl
 have cons3:∀(S':Store) (k:Nat) (zo zb:AV) (bads:List Int),k≤22→Fm S l S' k [aI inp,pL lats,pL g.ands,zo,zb,.nl,.nl,.nl]→Own (S.n+4) S' zo 3 (outs.map fun p=>[aI p])→Own (S.n+4) S' zb 3 (bads.map fun p=>[aI p])→
     bads.length≤1→(∀ x∈bads,g.lit x=true)→∀ X:AV→Store→Prop,
     callV Pg (pickF S) [.v (.int .i64 3)] S' (fun v S'=>bin .eql 0 v (.v (.int .i64 0)) S' fun v S'=>onB v fun b=>gd b
      (∃ q111:AV,(∀ T:Store,Keep S' T→shift (.p (S.n+3) 0 0) 5 T fun v S=>v=q111∧S=T)∧∃ q113:AV,(∀ T:Store,Keep S' T→ld1 q111 T fun v S=>v=q113∧S=T)∧callV Pg (pickF S) [aI (2*g.vars)] S' (fun v115 S' =>
       (∀ T:Store,Keep S' T→ld1 q111 T fun v S=>v=q113∧S=T)∧(∀ T:Store,Keep S' T→shift (.p (S.n+3) 0 0) 5 T fun v S=>v=q111∧S=T)∧∃ q118:AV,(∀ T:Store,Keep S' T→bslN 3 1 1 [.v (.int .i64 0)] [(0,v115)] T fun v S=>v=q118∧S=T)∧appS 3 1 8 q113 q118 S' fun v120 S' =>
       ∃ q121:AV,(∀ T:Store,Keep S' T→shift (.p (S.n+3) 0 0) 5 T fun v S=>v=q121∧S=T)∧stN 1 q121 v120 S' fun _ S'=>callV Pg (pickF S) [.v (.int .i64 4)] S' (fun v S'=>bin .quo 0 v (.v (.int .i64 2)) S' fun v S'=>loopV lv17_3 (vc Pg (c17.at_ [1,1,1,1,1,1,1,1,1,1,1,1,1,1,1,0,1,0,0]) (ms17.drop 4)) 156 (env17_3 (.p (S.n+1) 0 0) (pickF S) (.p (S.n+3) 0 0) (aI (2*g.vars)) v) S'
      (blockK 6 (seqK (vc Pg (c17.at_ [1,1,1,1,1,1,1,1,1,1,1,1,1,1,1,1]) (ms17.drop 4)) (bodyK Pg r17 fun e S'=>∃ r tr,e = .ret r∧Keep S S'∧Cv (S'.frz (newer S.n)) S.n r tr∧∃ c:Ci,tr=c.av∧MadeC c∧c.gr.vars=varsL l∧c.inputs=inp)))) X) (fun _ _=>False))
      (callV Pg (pickF S) [.v (.int .i64 4)] S' (fun v S'=>bin .quo 0 v (.v (.int .i64 2)) S' fun v S'=>loopV lv17_3 (vc Pg (c17.at_ [1,1,1,1,1,1,1,1,1,1,1,1,1,1,1,0,1,0,0]) (ms17.drop 4)) 156 (env17_3 (.p (S.n+1) 0 0) (pickF S) (.p (S.n+3) 0 0) (aI (2*g.vars)) v) S'
      (blockK 6 (seqK (vc Pg (c17.at_ [1,1,1,1,1,1,1,1,1,1,1,1,1,1,1,1]) (ms17.drop 4)) (bodyK Pg r17 fun e S'=>∃ r tr,e = .ret r∧Keep S S'∧Cv (S'.frz (newer S.n)) S.n r tr∧∃ c:Ci,tr=c.av∧MadeC c∧c.gr.vars=varsL l∧c.inputs=inp)))) X)) X:=by
  intro S' k zo zb bads hk fm wo wb lb hbl X
  refine fm.pick hl (by decide) (by omega) fun S2 fm n2 f2=>?_
  have wo2:=wo.fm (by omega) n2 f2
  have wb2:=wb.fm (by omega) n2 f2
  rw[bin_eql,onB_v]
  refine gd_of (fun _=>?_) (fun _=>last4 S2 _ zo zb .nl bads [] (by omega) fm wo2 wb2 (Own.nl _ _ _) lb (by simp) hbl (fun _ h=>by cases h) X)
  refine⟨_,fun T hT=>by rw[shift_p];exact⟨rfl,rfl⟩,.nl,fun T hT=>by rw[ld1_p (fm.kT hT) rfl rfl];exact⟨rfl,rfl⟩,?_⟩
  refine fm.pick hl hvp (by omega) fun S3 fm n3 f3=>?_
  have pn:=plit (pickV_rng hl (k:=k+1) hvp)
  generalize pickV l (k+1) (2*g.vars)=n at *
  have hn1:∀ x∈[n],g.lit x=true:=fun x hx=>by rw[List.mem_singleton.1 hx];exact pn
  have wo3:=wo2.fm (by omega) n3 f3
  have wb3:=wb2.fm (by omega) n3 f3
  refine⟨fun T hT=>by rw[ld1_p (fm.kT hT) rfl rfl];exact⟨rfl,rfl⟩,fun T hT=>by rw[shift_p];exact⟨rfl,rfl⟩,_,fun T hT=>bsl1 rfl (fun _ h=>by cases h) ⟨rfl,rfl⟩,?_⟩
  refine(Own.nl (S.n+4) S3 3).app (by have:=fm.n;omega) (c:=[aI n]) rfl (by simp) (fun z S4 w4 b4 hz=>?_) rfl
  have n4:=b4.1
  have hn3:=fm.n
  have o4:∀ x,x<S3.n→S4.obj x=S3.obj x:=fun x hx=>b4.2 x (by omega) (fun b m e=>by cases e)
  refine⟨_,fun T hT=>by rw[shift_p];exact⟨rfl,rfl⟩,?_⟩
  replace fm:=fm.old n4 fun x hx=>o4 x (by omega)
  have wo4:=wo3.but b4 (fun _ _ _ _ _ e=>by cases e)
  have wb4:=wb3.but b4 (fun _ _ _ _ _ e=>by cases e)
  refine fm.st (by simp) (own_one w4) fun S5 fm n5 f5=>?_
  exact last4 S5 _ zo zb z bads [n] (by omega) fm (wo4.fm (by omega) n5 f5) (wb4.fm (by omega) n5 f5) (w4.fm (by omega) n5 f5) lb (by simp) hbl hn1 X
 refine fm.pick hl (by decide) (by omega) fun S2 fm n2 f2=>?_
 have wo2:=wo.fm (by omega) n2 f2
 rw[bin_eql,onB_v]
 refine gd_of (fun _=>?_) (fun _=>cons3 S2 _ zo .nl [] (by omega) fm wo2 (Own.nl _ _ _) (by simp) (fun _ h=>by cases h) _)
 refine⟨_,fun T hT=>by rw[shift_p];exact⟨rfl,rfl⟩,.nl,fun T hT=>by rw[ld1_p (fm.kT hT) rfl rfl];exact⟨rfl,rfl⟩,?_⟩
 refine fm.pick hl hvp (by omega) fun S3 fm n3 f3=>?_
 have pn:=plit (pickV_rng hl (k:=k+1) hvp)
 generalize pickV l (k+1) (2*g.vars)=n at *
 have hn1:∀ x∈[n],g.lit x=true:=fun x hx=>by rw[List.mem_singleton.1 hx];exact pn
 have wo3:=wo2.fm (by omega) n3 f3
 refine⟨fun T hT=>by rw[ld1_p (fm.kT hT) rfl rfl];exact⟨rfl,rfl⟩,fun T hT=>by rw[shift_p];exact⟨rfl,rfl⟩,_,fun T hT=>bsl1 rfl (fun _ h=>by cases h) ⟨rfl,rfl⟩,?_⟩
 refine(Own.nl (S.n+4) S3 3).app (by have:=fm.n;omega) (c:=[aI n]) rfl (by simp) (fun z S4 w4 b4 hz=>?_) rfl
 have n4:=b4.1
 have hn3:=fm.n
 have o4:∀ x,x<S3.n→S4.obj x=S3.obj x:=fun x hx=>b4.2 x (by omega) (fun b m e=>by cases e)
 refine⟨_,fun T hT=>by rw[shift_p];exact⟨rfl,rfl⟩,?_⟩
 replace fm:=fm.old n4 fun x hx=>o4 x (by omega)
 have wo4:=wo3.but b4 (fun _ _ _ _ _ e=>by cases e)
 refine fm.st (by simp) (own_one w4) fun S5 fm n5 f5=>?_
 exact cons3 S5 _ zo z [n] (by omega) fm (wo4.fm (by omega) n5 f5) (w4.fm (by omega) n5 f5) (by simp) hn1 _
theorem made17{l:List Int}(hl:∀ x∈l,0≤x∧x<65536){S:Store}:ACalls Pg 17 [aL aW16 l] S (fun e S'=>∃ tr,e = .ret tr∧S'=S∧∃ c,tr=c.av∧MadeC c):=
 (made217 hl).mono fun e S' ⟨tr,h1,h2,c,h3,h4,_⟩=>⟨tr,h1,h2,c,h3,h4⟩
theorem callF_cv'{P:Program}{f:FuncId}{args args2:List AV}{r:AV}(h:Ans P f args2 r){S:Store}(hl:args.length=args2.length)(hcv:∀(k:Nat) (u u2:AV),args[k]? = some u→args2[k]? = some u2→Cv S S.n u u2){Q:AEnd→Store→Prop}{K:AV→Store→Prop}(k:K r S):callF P f args S Q K:=
 .inl (ACalls.conv hl hcv (ACalls.mono (h S) fun e S' h=>by obtain⟨rfl,rfl⟩:=h;exact k))
theorem treeN(l:List Na):Tree (nL l):=Tree.l fun c hc u hu=>by
 obtain⟨a,ha,rfl⟩:=List.mem_map.1 hc
 unfold Na.row at hu
 simp only[List.mem_cons,List.not_mem_nil,or_false]at hu
 rcases hu with rfl|rfl|rfl<;>exact Tree.v _
section
variable {H:Type} {enc:TypeId × Value→H} {w:World} {sp:Nat→Bool} {held:Bool}
theorem i64_wf{n:Int}(h:(Lit.int .i64 n).wf=true):i64R n:=by
 simp[Lit.wf,IntKind.min,IntKind.max,IntKind.bits,IntKind.signed]at h
 exact⟨by omega,by omega⟩
theorem u8_wf{n:Int}(h:(Lit.int .u8 n).wf=true):0≤n∧n<256:=by
 simp[Lit.wf,IntKind.min,IntKind.max,IntKind.bits,IntKind.signed]at h
 omega
theorem u16_wf{n:Int}(h:(Lit.int .u16 n).wf=true):0≤n∧n<65536:=by
 simp[Lit.wf,IntKind.min,IntKind.max,IntKind.bits,IntKind.signed]at h
 omega
theorem opI:Opens enc Pg w sp held 3 1 (fun n:Int=>[aI n]) (fun n=>(Lit.int .i64 n).wf=true):=opens_int Tryz.underlying3
theorem opU:Opens enc Pg w sp held 5 1 (fun n:Int=>[AV.v (.int .u8 n)]) (fun n=>(Lit.int .u8 n).wf=true):=opens_int Tryz.underlying5
theorem opStr:Opens enc Pg w sp held 9 1 (fun b:ByteArray=>[AV.v (.string b)]) (fun b=>b.size≤maxLen):=opens_string Tryz.underlying9
theorem opV:Opens enc Pg w sp held 69 1 (fun n:Int=>[aW16 n]) (fun n=>(Lit.int .u16 n).wf=true):=opens_int Tryz.underlying69
theorem opVs:Opens enc Pg w sp held 42 1 (fun l:List Int=>[aL aW16 l]) (fun l=>l.length≤maxLen∧∀ a∈l,(Lit.int .u16 a).wf=true):=opens_slice Tryz.underlying42 (by kernel_rfl) (by decide) opV
end
theorem J_eqS{a b:ByteArray}{S0:Store}{P:AV→Prop}:(∃ q,(bin .eql 0 (.v (.string a)) (.v (.string b)) S0 fun v S=>v=q∧S=S0)∧P q)=P (aB (decide (a=b))):=J_by (op:=fun K=>bin .eql 0 (.v (.string a)) (.v (.string b)) S0 K) fun K=>bin_eqlS _ _ _
theorem J_neS{a b:ByteArray}{S0:Store}{P:AV→Prop}:(∃ q,(bin .neq 0 (.v (.string a)) (.v (.string b)) S0 fun v S=>v=q∧S=S0)∧P q)=P (aB (!decide (a=b))):=J_by (op:=fun K=>bin .neq 0 (.v (.string a)) (.v (.string b)) S0 K) fun K=>bin_neqS _ _ _
theorem J_lenfoL{l:List Fo}{S0:Store}{P:AV→Prop}:(∃ q,(lenS (foL l) S0 fun v S=>v=q∧S=S0)∧P q)=P (aI l.length):=J_by (op:=fun K=>lenS (foL l) S0 K) fun K=>lenS_foL _
theorem kids_at(k:Int){f:FuncId}{m:AV→Store→(AEnd→Store→Prop)→Prop}(hm:∀(S:Store) (Q:AEnd→Store→Prop),m (aI k) S Q→ACalls Pg f [aI k] S Q)
    (hd:∀(S:Store) (Q:AEnd→Store→Prop),m (aI k) S Q=(bin .lss 0 (aI k) (.v (.int .i64 1)) S fun v S=>onB v fun b=>gd b (Q (.ret (aI (-1))) S) (bin .gtr 0 (aI k) (.v (.int .i64 18)) S fun v S=>onB v fun b=>gd b (Q (.ret (aI (-1))) S) (bin .leq 0 (aI k) (.v (.int .i64 3)) S fun v S=>onB v fun b=>gd b (Q (.ret (aI 0)) S)
     (bin .eql 0 (aI k) (.v (.int .i64 4)) S fun v S=>onB v fun b=>gd b (Q (.ret (aI 1)) S) (bin .geq 0 (aI k) (.v (.int .i64 9)) S fun v S=>onB v fun b=>gd b (bin .leq 0 (aI k) (.v (.int .i64 14)) S fun v S=>onB v fun b=>gd b (Q (.ret (aI 1)) S) (Q (.ret (aI 2)) S)) (Q (.ret (aI 2)) S))))))):
    Ans Pg f [aI k] (aI (kidsN k)):=by
 intro S
 refine hm S _ ?_
 rw[hd,bin_lss,onB_v]
 unfold kidsN
 refine gd_of (fun h=>⟨by rw[if_pos (.inl (dT h))],rfl⟩) (fun h1=>?_)
 have h1:=dF h1
 rw[bin_gtr,onB_v]
 refine gd_of (fun h=>⟨by rw[if_pos (.inr (dT h))],rfl⟩) (fun h2=>?_)
 have h2:=dF h2
 rw[if_neg (by omega),bin_leq,onB_v]
 refine gd_of (fun h=>⟨by rw[if_pos (dT h)],rfl⟩) (fun h3=>?_)
 have h3:=dF h3
 rw[if_neg h3,bin_eql,onB_v]
 refine gd_of (fun h=>⟨by rw[if_pos (.inl (dT h))],rfl⟩) (fun h4=>?_)
 have h4:=dF h4
 rw[bin_geq,onB_v]
 refine gd_of (fun h5=>?_) (fun h5=>?_)
 ·have h5:=dT h5
  rw[bin_leq,onB_v]
  refine gd_of (fun h=>⟨by rw[if_pos (.inr ⟨h5,dT h⟩)],rfl⟩) (fun h=>⟨by have:=dF h;rw[if_neg (by omega)],rfl⟩)
 ·have h5:=dF h5
  exact⟨by rw[if_neg (by omega)],rfl⟩
theorem ans74(k:Int):Ans Pg 74 [aI k] (aI (kidsN k)):=kids_at k (m:=m74) (fun S Q h=>calls74 h) fun S Q=>rfl
theorem ans42(k:Int):Ans Pg 42 [aI k] (aI (kidsN k)):=kids_at k (m:=m42) (fun S Q h=>calls42 h) fun S Q=>rfl
theorem at113{l:List Fo}(hl:l.length≤9223372036854775807){g:Fo→Bool}{fn:FuncId}{fs cs:List AV}{S:Store}
    (hf:∀ x,x∈l→AnsAt Pg fn (fs ++ [x.av]++cs) S (aB (g x))):AnsAt Pg 113 [foL l,.f (.func fn) fs cs] S (aI (idxOf (l.findIdx? g))):=by
 refine calls113 ?_
 unfold m113
 rw[lenS_foL]
 refine loop113_0 (fun y S'=>S'=S∧∃ i:Nat,y=aI i∧i≤l.length∧∀ k (hk:k<l.length),k<i→g l[k]=false) (fun y _=>l.length - ((intA y).getD 0).toNat) ⟨rfl,0,rfl,Nat.zero_le _,fun k _ h=>absurd h (Nat.not_lt_zero _)⟩ ?_
 rintro _ _ ⟨rfl,i,rfl,hi,hk⟩ KE hKE
 unfold b113_0
 rw[bin_lss,onB_v]
 refine gd_of (fun h=>?_) (fun h=>?_)
 ·have hlt:i<l.length:=by simpa using h
  rw[ixS_foL hlt,ldN_q (Fo.row_len _)]
  refine callV_at (hf _ (List.getElem_mem hlt)) ?_
  rw[onB_v]
  refine gd_of (fun hg=>⟨?_,rfl⟩) (fun hg=>?_)
  ·rw[find_at hlt hg (fun k hk'=>hk k _ hk')];rfl
  ·rw[bin_add (by omega) (by omega)]
   refine hKE _ _ ⟨rfl,i+1,rfl,hlt,fun k hk1 hk2=>?_⟩ ?_
   ·by_cases e:k=i
    ·subst e;exact hg
    ·exact hk k hk1 (by omega)
   ·simp[intA];omega
 ·have hge:i=l.length:=by simp at h;omega
  subst hge
  rw[find_none (fun k hk'=>hk k hk' hk')]
  exact⟨rfl,rfl⟩
theorem at75{l:List Fo}(hl:l.length≤9223372036854775807){g:Fo→Bool}{fn:FuncId}{fs cs:List AV}{S:Store}
    (hf:∀ x,x∈l→AnsAt Pg fn (fs ++ [x.av]++cs) S (aB (g x))):AnsAt Pg 75 [foL l,.f (.func fn) fs cs] S (aB (l.any g)):=by
 refine calls75 ?_
 unfold m75
 refine callF_at (at113 hl hf) ?_
 rw[bin_geq,idx_any]
 exact⟨rfl,rfl⟩
theorem any_notF{l:List Fo}{g:Fo→Bool}:l.any (fun x=>!g x) = !l.all g:=by
 induction l with
 |nil=>rfl
 |cons a l ih=>rw[List.any_cons,List.all_cons,ih,Bool.not_and]
theorem Fo.ok.inv{k:Int}{n:ByteArray}{l:Int}{ks:List Fo}(h:Fo.ok (.mk k n l ks)):i64R k∧i64R l∧n.size≤9223372036854775807∧ks.length≤1000000∧∀ f∈ks,Fo.ok f:=by
 cases h with
 |mk k n l ks h1 h2 h3 h4 h=>exact⟨h1,h2,h3,h4,h⟩
theorem at73{S:Store}{id t:Nat}{d:Int}{f:Fo}{b:Bool}(h:S.obj id=some (.cells t [[aI d]] true))(hid:id<S.n)(h0:0<d)(hd:i64R d)(hr:Ans Pg 35 [f.av,aI (d - 1)] (aB b)):
    AnsAt Pg 73 [f.av,.p id 0 0] S (aB (!b)):=by
 refine ACalls.ans_v (calls73 ?_)
 unfold m73 Fo.av
 refine boxA_of (Fo.row_len f) fun S1 k1 n1 o1=>?_
 rw[ldN_p (n:=4) o1 (Fo.row_len f),ld1_p ((k1.2 _ hid).trans h) rfl rfl,bin_sub (by have:=hd.2;omega) (by have:=hd.2;omega)]
 refine callF_ans hr ?_
 rw[un_not]
 exact⟨rfl,k1⟩
theorem ans35:∀(f:Fo),f.ok→∀ d,i64R d→Ans Pg 35 [f.av,aI d] (aB (f.mayB d)):=by
 intro f
 induction f using Fo.ind with
 |h k n l ks ih =>
  intro hok d hd S
  obtain⟨h1,h2,h3,h4,h5⟩:=hok.inv
  refine ACalls.ans_v (calls35 ?_)
  unfold m35 Fo.av
  rw[Fo.row_mk,Fo.mayB_mk]
  refine boxA_of rfl fun S1 k1 n1 o1=>?_
  refine box1_of rfl fun S2 k2 n2 o2=>?_
  have p2:=(k2.2 _ (by omega)).trans o1
  have kk:=k1.trans k2
  have hcont:0<d→AnsAt Pg 75 [foL ks,.f (.func 73) [] [.p S1.n 0 0]] S2 (aB (!ks.all fun f=>f.mayB (d - 1))):=fun h0=>by
   rw[←any_notF]
   exact at75 (by omega) fun x hx=>at73 o2 (by omega) h0 hd (ih x hx (h5 x hx) (d - 1) ⟨by have:=hd.2;omega,by have:=hd.2;omega⟩)
  rw[shift_p,ld1_p p2 rfl rfl,bin_eql,onB_v]
  have hk:=ans74 k
  have fin:∀(b:Bool) (E:AEnd),b=(decide (0<d) && (decide (l=0∨0<l∧k=3) && (decide (n=(⟨#[]⟩:ByteArray)) && (decide ((ks.length:Int)=kidsN k) && ks.all fun f=>f.mayB (d - 1)))))→E = .ret (aB b)→
      E = .ret (aB (decide (0<d) && (decide (l=0∨0<l∧k=3) && (decide (n=(⟨#[]⟩:ByteArray)) && (decide ((ks.length:Int)=kidsN k) && ks.all fun f=>f.mayB (d - 1))))))∧Keep S S2:=fun b E h1 h2=>⟨by rw[←h1];exact h2,kk⟩
  refine gd_of (fun hl0=>?_) (fun hl0=>?_)
  ·have hlit:decide (l=0∨0<l∧k=3)=true:=decide_eq_true (.inl (dT hl0))
   show ∃ q:AV,_
   cases e1:decide (0<d)with
   |false =>
    (repeat (first|with_reducible_and_instances (first|refine WJ ?_|refine W (J_ldp o2 (by with_unfolding_all rfl) (by with_unfolding_all rfl)) ?_|refine W (J_ldp p2 (by with_unfolding_all rfl) (by with_unfolding_all rfl)) ?_|refine W (gd_T e1) ?_|refine W (gd_F e1) ?_|refine W (gd_nT e1) ?_|refine W (gd_nF e1) ?_|refine W (J_ldq (by with_unfolding_all rfl)) ?_)))
    exact⟨by rw[Bool.false_and],kk⟩
   |true =>
    cases e2:decide (n=(⟨#[]⟩:ByteArray))with
    |false =>
     (repeat (first|with_reducible_and_instances (first|refine WJ ?_|refine W (J_ldp o2 (by with_unfolding_all rfl) (by with_unfolding_all rfl)) ?_|refine W (J_ldp p2 (by with_unfolding_all rfl) (by with_unfolding_all rfl)) ?_|refine W (J_eqS) ?_|refine W (gd_T e1) ?_|refine W (gd_F e1) ?_|refine W (gd_nT e1) ?_|refine W (gd_nF e1) ?_|refine W (gd_T e2) ?_|refine W (gd_F e2) ?_|refine W (gd_nT e2) ?_|refine W (gd_nF e2) ?_|refine W (J_ldq (by with_unfolding_all rfl)) ?_)))
     exact⟨by rw[Bool.true_and,Bool.false_and,Bool.and_false],kk⟩
    |true =>
     cases e3:decide ((ks.length:Int)=kidsN k)with
     |false =>
      (repeat (first|with_reducible_and_instances (first|refine WJ ?_|refine W (J_ldp o2 (by with_unfolding_all rfl) (by with_unfolding_all rfl)) ?_|refine W (J_ldp p2 (by with_unfolding_all rfl) (by with_unfolding_all rfl)) ?_|refine W (J_eqS) ?_|refine W (J_lenfoL) ?_|refine W (gd_T e1) ?_|refine W (gd_F e1) ?_|refine W (gd_nT e1) ?_|refine W (gd_nF e1) ?_|refine W (gd_T e2) ?_|refine W (gd_F e2) ?_|refine W (gd_nT e2) ?_|refine W (gd_nF e2) ?_|refine W (gd_T e3) ?_|refine W (gd_F e3) ?_|refine W (gd_nT e3) ?_|refine W (gd_nF e3) ?_|refine W (J_ldq (by with_unfolding_all rfl)) ?_)|refine J_cA (hk) rfl rfl ?_|refine C_A (hk) rfl rfl ?_))
      exact⟨by rw[Bool.true_and,Bool.true_and,Bool.false_and,Bool.and_false],kk⟩
     |true =>
      (repeat (first|with_reducible_and_instances (first|refine WJ ?_|refine W (J_ldp o2 (by with_unfolding_all rfl) (by with_unfolding_all rfl)) ?_|refine W (J_ldp p2 (by with_unfolding_all rfl) (by with_unfolding_all rfl)) ?_|refine W (J_eqS) ?_|refine W (J_lenfoL) ?_|refine W (gd_T e1) ?_|refine W (gd_F e1) ?_|refine W (gd_nT e1) ?_|refine W (gd_nF e1) ?_|refine W (gd_T e2) ?_|refine W (gd_F e2) ?_|refine W (gd_nT e2) ?_|refine W (gd_nF e2) ?_|refine W (gd_T e3) ?_|refine W (gd_F e3) ?_|refine W (gd_nT e3) ?_|refine W (gd_nF e3) ?_|refine W (J_ldq (by with_unfolding_all rfl)) ?_)|refine J_cI (hcont (dT e1)) rfl rfl ?_|refine C_I (hcont (dT e1)) rfl rfl ?_|refine J_cA (hk) rfl rfl ?_|refine C_A (hk) rfl rfl ?_))
      exact⟨by rw[hlit,Bool.true_and,Bool.true_and,Bool.true_and,Bool.true_and,Bool.not_not],kk⟩
  ·have hl0':=dF hl0
   rw[shift_p,ld1_p p2 rfl rfl,bin_gtr,onB_v]
   refine gd_of (fun hl1=>?_) (fun hl1=>?_)
   ·have hlit:decide (l=0∨0<l∧k=3)=decide (k=3):=decide_eq_decide.2 ⟨fun h=>by rcases h with h|h;exact absurd h hl0';exact h.2,fun h=>.inr ⟨dT hl1,h⟩⟩
    rw[shift_p,ld1_p p2 rfl rfl,bin_eql,hlit]
    show ∃ q:AV,_
    cases e1:decide (0<d)with
    |false =>
     (repeat (first|with_reducible_and_instances (first|refine WJ ?_|refine W (J_ldp o2 (by with_unfolding_all rfl) (by with_unfolding_all rfl)) ?_|refine W (J_ldp p2 (by with_unfolding_all rfl) (by with_unfolding_all rfl)) ?_|refine W (gd_T e1) ?_|refine W (gd_F e1) ?_|refine W (gd_nT e1) ?_|refine W (gd_nF e1) ?_|refine W (J_ldq (by with_unfolding_all rfl)) ?_)))
     exact⟨by rw[Bool.false_and],kk⟩
    |true =>
     cases e4:decide (k=3)with
     |false =>
      (repeat (first|with_reducible_and_instances (first|refine WJ ?_|refine W (J_ldp o2 (by with_unfolding_all rfl) (by with_unfolding_all rfl)) ?_|refine W (J_ldp p2 (by with_unfolding_all rfl) (by with_unfolding_all rfl)) ?_|refine W (gd_T e1) ?_|refine W (gd_F e1) ?_|refine W (gd_nT e1) ?_|refine W (gd_nF e1) ?_|refine W (J_ldq (by with_unfolding_all rfl)) ?_)))
      exact⟨by rw[Bool.false_and,Bool.and_false],kk⟩
     |true =>
      cases e2:decide (n=(⟨#[]⟩:ByteArray))with
      |false =>
       (repeat (first|with_reducible_and_instances (first|refine WJ ?_|refine W (J_ldp o2 (by with_unfolding_all rfl) (by with_unfolding_all rfl)) ?_|refine W (J_ldp p2 (by with_unfolding_all rfl) (by with_unfolding_all rfl)) ?_|refine W (J_eqS) ?_|refine W (gd_T e1) ?_|refine W (gd_F e1) ?_|refine W (gd_nT e1) ?_|refine W (gd_nF e1) ?_|refine W (gd_T e2) ?_|refine W (gd_F e2) ?_|refine W (gd_nT e2) ?_|refine W (gd_nF e2) ?_|refine W (J_ldq (by with_unfolding_all rfl)) ?_)))
       exact⟨by rw[Bool.true_and,Bool.true_and,Bool.false_and],kk⟩
      |true =>
       cases e3:decide ((ks.length:Int)=kidsN k)with
       |false =>
        (repeat (first|with_reducible_and_instances (first|refine WJ ?_|refine W (J_ldp o2 (by with_unfolding_all rfl) (by with_unfolding_all rfl)) ?_|refine W (J_ldp p2 (by with_unfolding_all rfl) (by with_unfolding_all rfl)) ?_|refine W (J_eqS) ?_|refine W (J_lenfoL) ?_|refine W (gd_T e1) ?_|refine W (gd_F e1) ?_|refine W (gd_nT e1) ?_|refine W (gd_nF e1) ?_|refine W (gd_T e2) ?_|refine W (gd_F e2) ?_|refine W (gd_nT e2) ?_|refine W (gd_nF e2) ?_|refine W (gd_T e3) ?_|refine W (gd_F e3) ?_|refine W (gd_nT e3) ?_|refine W (gd_nF e3) ?_|refine W (J_ldq (by with_unfolding_all rfl)) ?_)|refine J_cA (hk) rfl rfl ?_|refine C_A (hk) rfl rfl ?_))
        exact⟨by rw[Bool.true_and,Bool.true_and,Bool.true_and,Bool.false_and],kk⟩
       |true =>
        (repeat (first|with_reducible_and_instances (first|refine WJ ?_|refine W (J_ldp o2 (by with_unfolding_all rfl) (by with_unfolding_all rfl)) ?_|refine W (J_ldp p2 (by with_unfolding_all rfl) (by with_unfolding_all rfl)) ?_|refine W (J_eqS) ?_|refine W (J_lenfoL) ?_|refine W (gd_T e1) ?_|refine W (gd_F e1) ?_|refine W (gd_nT e1) ?_|refine W (gd_nF e1) ?_|refine W (gd_T e2) ?_|refine W (gd_F e2) ?_|refine W (gd_nT e2) ?_|refine W (gd_nF e2) ?_|refine W (gd_T e3) ?_|refine W (gd_F e3) ?_|refine W (gd_nT e3) ?_|refine W (gd_nF e3) ?_|refine W (J_ldq (by with_unfolding_all rfl)) ?_)|refine J_cI (hcont (dT e1)) rfl rfl ?_|refine C_I (hcont (dT e1)) rfl rfl ?_|refine J_cA (hk) rfl rfl ?_|refine C_A (hk) rfl rfl ?_))
        exact⟨by rw[Bool.true_and,Bool.true_and,Bool.true_and,Bool.true_and,Bool.not_not],kk⟩
   ·have hlit:decide (l=0∨0<l∧k=3)=false:=decide_eq_false fun h=>by rcases h with h|h;exact absurd h hl0';exact absurd h.1 (dF hl1)
    show ∃ q:AV,_
    rw[hlit]
    cases e1:decide (0<d)with
    |false =>
     (repeat (first|with_reducible_and_instances (first|refine WJ ?_|refine W (J_ldp o2 (by with_unfolding_all rfl) (by with_unfolding_all rfl)) ?_|refine W (J_ldp p2 (by with_unfolding_all rfl) (by with_unfolding_all rfl)) ?_|refine W (gd_T e1) ?_|refine W (gd_F e1) ?_|refine W (gd_nT e1) ?_|refine W (gd_nF e1) ?_|refine W (J_ldq (by with_unfolding_all rfl)) ?_)))
     exact⟨by rw[Bool.false_and],kk⟩
    |true =>
     (repeat (first|with_reducible_and_instances (first|refine WJ ?_|refine W (J_ldp o2 (by with_unfolding_all rfl) (by with_unfolding_all rfl)) ?_|refine W (J_ldp p2 (by with_unfolding_all rfl) (by with_unfolding_all rfl)) ?_|refine W (gd_T e1) ?_|refine W (gd_F e1) ?_|refine W (gd_nT e1) ?_|refine W (gd_nF e1) ?_|refine W (J_ldq (by with_unfolding_all rfl)) ?_)))
     exact⟨by rw[Bool.false_and,Bool.and_false],kk⟩
theorem nil4{S:Store}{K:AV→Store→Prop}:nilV .neq 4 (.v .nilIface) S K=K (aB false) S:=rfl
theorem nilE{t:Nat}{x:AV}{S:Store}{K:AV→Store→Prop}:nilV .neq 4 (.i t x) S K=K (aB true) S:=rfl
theorem ans62{s:ByteArray}(hs:s.size≤281474976710656):Ans Pg 62 [.v (.string s)] (aI (numR s.data.toList)):=by
 intro S
 rw[←num_eq]
 refine calls62 ?_
 unfold m62
 refine callF_ans (ans106 hs) ?_
 unfold atoiR numA
 have hsz:s.data.toList.length=s.size:=Array.length_toList
 match h:Lib.atoiAll s.data.toList with
 |.syntax =>
  show extr _ _ _ _
  rw[extr0,extr1,nilE,onB_v,gd_T rfl]
  exact⟨rfl,rfl⟩
 |.range =>
  show extr _ _ _ _
  rw[extr0,extr1,nilE,onB_v,gd_T rfl]
  exact⟨rfl,rfl⟩
 |.ok v =>
  show extr _ _ _ _
  obtain⟨v1,v2⟩:=Lib.atoiAll_bounds h
  rw[extr0,extr1,nil4,onB_v,gd_F rfl,bin_lss,onB_v,hsz]
  refine gd_of (fun hv=>⟨by show AEnd.ret _=AEnd.ret (aI (if v<0 then -1 else _));rw[if_pos (dT hv)],rfl⟩) (fun hv=>?_)
  have hv:=dF hv
  rw[lenStr_b,bin_gtr,onB_v]
  refine gd_of (fun h6=>⟨by show AEnd.ret _=AEnd.ret (aI (if v<0 then -1 else if 6<s.size then -1 else _));rw[if_neg hv,if_pos (by have:=dT h6;omega)],rfl⟩) (fun h6=>?_)
  have h6:=dF h6
  refine callF_ans (ans107 (n:=v) ⟨by omega,by omega⟩) ?_
  rw[bin_neqS,onB_v]
  have he:((⟨(Lib.itoa v).toArray⟩:ByteArray)=s)↔Lib.itoa v=s.data.toList:=by
   constructor
   ·intro e;rw[←e]
   ·intro e;rw[e]
  refine gd_of (fun hn=>⟨?_,rfl⟩) (fun hn=>⟨?_,rfl⟩)
  ·show AEnd.ret _=AEnd.ret (aI (if v<0 then -1 else if 6<s.size then -1 else if Lib.itoa v≠s.data.toList then -1 else v))
   rw[if_neg hv,if_neg (by omega),if_pos (fun e=>by rw[he.2 e]at hn;simp at hn)]
  ·show AEnd.ret _=AEnd.ret (aI (if v<0 then -1 else if 6<s.size then -1 else if Lib.itoa v≠s.data.toList then -1 else v))
   rw[if_neg hv,if_neg (by omega),if_neg (fun e=>e (he.1 (by simpa using hn)))]
theorem decFrom_no:∀(l:List UInt8) (a i:Nat) (b:UInt8),l[i]? = some b→Lib.digitVal b=none→Lib.decFrom a l=none
 |[],a,i,b,h,_=>by simp at h
 |c :: l,a,i,b,h,hd=>by
  simp only[Lib.decFrom]
  cases hc:Lib.digitVal c with
  |none=>rfl
  |some d =>
   cases i with
   |zero=>cases h;rw[hc]at hd;cases hd
   |succ i=>exact decFrom_no l _ i b (by simpa using h) hd
theorem sl_get{s:ByteArray}{i:Nat}(h:i<s.size):s.data.toList[i]? = some s[i]:=by
 rw[List.getElem?_eq_getElem (by rw[Array.length_toList];exact h),Array.getElem_toList]
 rfl
theorem ans70{s:ByteArray}(hs:s.size≤18):Ans Pg 70 [.v (.string s)] (aI (numR s.data.toList)):=by
 intro S
 refine calls70 ?_
 unfold m70
 have hsz:s.data.toList.length=s.size:=Array.length_toList
 refine loop70_0 (fun y3 y4 S'=>S'=S∧∃ i k:Nat,y3=aI k∧y4=aI i∧i≤s.size∧Lib.decFrom 0 (s.data.toList.take i)=some k∧k<10 ^ i)
  (fun _ y _=>s.size - ((intA y).getD 0).toNat) ⟨rfl,0,0,rfl,rfl,Nat.zero_le _,rfl,by decide⟩ ?_
 rintro _ _ _ ⟨rfl,i,k,rfl,rfl,hi,hk,hlt⟩ KE hKE
 unfold b70_0
 rw[lenStr_b,bin_lss,onB_v]
 refine gd_of (fun h=>?_) (fun h=>?_)
 ·have h:i<s.size:=by simpa using h
  have bad:¬ (48≤(s[i]).toNat∧(s[i]).toNat≤57)→numR s.data.toList = -1:=fun hb=>by
   have hd:Lib.digitVal s[i]=none:=by unfold Lib.digitVal;rw[if_neg hb]
   have:Lib.decNat s.data.toList=none:=by
    unfold Lib.decNat
    split
    ·rfl
    ·exact decFrom_no _ 0 i _ (sl_get h) hd
   unfold numR
   rw[this]
  rw[ixStr_b h,bin_lss,onB_v]
  refine gd_of (fun h1=>⟨by rw[bad (fun q=>by have:=dT h1;omega)],rfl⟩) (fun h1=>?_)
  have h1:=dF h1
  rw[ixStr_b h,bin_gtr,onB_v]
  refine gd_of (fun h2=>⟨by rw[bad (fun q=>by have:=dT h2;omega)],rfl⟩) (fun h2=>?_)
  have h2:=dF h2
  have hp:10 ^ i≤10 ^ 17:=Nat.pow_le_pow_right (by decide) (by omega)
  have e17:(10:Nat) ^ 17=100000000000000000:=by decide
  have h57:(s[i]).toNat≤57:=by omega
  have h48:48≤(s[i]).toNat:=by omega
  rw[bin_mul (by omega) (by omega),ixStr_b h,convI_64 _ (by omega) (by omega),bin_add (by omega) (by omega),bin_sub (by omega) (by omega),bin_add (by omega) (by omega)]
  have hd:Lib.digitVal s[i]=some ((s[i]).toNat - 48):=by unfold Lib.digitVal;rw[if_pos ⟨h48,h57⟩]
  refine hKE _ _ _ ⟨rfl,i+1,k*10+((s[i]).toNat - 48),?_,rfl,h,Lib.decFrom_take _ i 0 k _ _ hk (sl_get h) hd,by rw[Nat.pow_succ];omega⟩ (by simp[intA];omega)
  congr 2
  omega
 ·have hge:i=s.size:=by have:=dF h;omega
  subst hge
  rw[←hsz,List.take_length]at hk
  rw[lenStr_b,bin_lss,onB_v]
  refine gd_of (fun h1=>⟨?_,rfl⟩) (fun h1=>?_)
  ·have h1:=dT h1
   have:s.data.toList = []:=List.length_eq_zero_iff.1 (by omega)
   rw[this];rfl
  have h1:=dF h1
  have hn:Lib.decNat s.data.toList=some k:=by
   unfold Lib.decNat
   rw[if_neg (fun e=>by rw[List.isEmpty_iff]at e;rw[e]at hsz;simp at hsz;omega)]
   exact hk
  have hv:numR s.data.toList=if s.size≤6∧(s.size=1∨s.data.toList.head?≠some 48)then(k:Int)else -1:=by unfold numR;rw[hn,hsz]
  rw[hv,lenStr_b,bin_gtr,onB_v]
  refine gd_of (fun h6=>⟨by rw[if_neg (by have:=dT h6;omega)],rfl⟩) (fun h6=>?_)
  have h6:=dF h6
  rw[lenStr_b,bin_gtr,onB_v]
  refine gd_of (fun h7=>?_) (fun h7=>⟨by rw[if_pos ⟨by omega,.inl (by have:=dF h7;omega)⟩],rfl⟩)
  have h7:=dT h7
  have h0:0<s.size:=by omega
  have hix:∀(S:Store) (K:AV→Store→Prop),ixStr (.v (.string s)) (.v (.int .i64 0)) S K=K (.v (.int .u8 (s[0]).toNat)) S:=fun S K=>ixStr_b (i:=0) h0
  rw[hix,bin_eql,onB_v]
  have hh:s.data.toList.head? = some s[0]:=by rw[List.head?_eq_getElem?,sl_get h0]
  refine gd_of (fun h8=>⟨?_,rfl⟩) (fun h8=>⟨?_,rfl⟩)
  ·have h8:=dT h8
   rw[if_neg]
   rintro⟨_,h|h⟩
   ·omega
   ·apply h
    rw[hh]
    congr 1
    apply UInt8.toNat_inj.1
    show(s[0]).toNat=48
    omega
  ·have h8:=dF h8
   rw[if_pos]
   refine⟨by omega,.inr fun e=>h8 ?_⟩
   rw[hh]at e
   have e:=Option.some.inj e
   rw[e]
   rfl
def Ci.sig(c:Ci)(k x:Int):Int:=
 if x<0 then -1 else if c.many k≤x then -1 else if k=105 then 2*(x+1)else if k=108 then 2*(c.inputs+x+1)else if k=111 then c.outs.getD x.toNat 0 else if k=98 then c.bads.getD x.toNat 0 else if k=99 then c.cons.getD x.toNat 0 else c.fair.getD x.toNat 0
theorem sig_tail{S1:Store}{id t:Nat}{c:Ci}{k x:Int}(hc:c.ok)(hr:c.right=true)(o1:S1.obj id=some (.cells t [c.cells] true))(h0:¬ x<0)(h1:¬ c.many k≤x){Q:AEnd→Store→Prop}(hQ:Q (.ret (aI (c.sig k x))) S1):
    bin .eql 0 (.v (.int .u8 k)) (.v (.int .u8 105)) S1 fun v S=>onB v fun b=>gd b (bin .add 0 (aI x) (.v (.int .i64 1)) S fun v S=>bin .mul 0 (.v (.int .i64 2)) v S fun v S=>Q (.ret v) S)
     (bin .eql 0 (.v (.int .u8 k)) (.v (.int .u8 108)) S fun v S=>onB v fun b=>gd b (shift (.p id 0 0) 0 S fun v S=>ld1 v S fun v S=>bin .add 0 v (aI x) S fun v S=>bin .add 0 v (.v (.int .i64 1)) S fun v S=>bin .mul 0 (.v (.int .i64 2)) v S fun v S=>Q (.ret v) S)
     (bin .eql 0 (.v (.int .u8 k)) (.v (.int .u8 111)) S fun v S=>onB v fun b=>gd b (shift (.p id 0 0) 3 S fun v S=>ld1 v S fun v S=>ixS 3 1 v (aI x) S fun v S=>ld1 v S fun v S=>Q (.ret v) S)
     (bin .eql 0 (.v (.int .u8 k)) (.v (.int .u8 98)) S fun v S=>onB v fun b=>gd b (shift (.p id 0 0) 4 S fun v S=>ld1 v S fun v S=>ixS 3 1 v (aI x) S fun v S=>ld1 v S fun v S=>Q (.ret v) S)
     (bin .eql 0 (.v (.int .u8 k)) (.v (.int .u8 99)) S fun v S=>onB v fun b=>gd b (shift (.p id 0 0) 5 S fun v S=>ld1 v S fun v S=>ixS 3 1 v (aI x) S fun v S=>ld1 v S fun v S=>Q (.ret v) S)
     (shift (.p id 0 0) 6 S fun v S=>ld1 v S fun v S=>ixS 3 1 v (aI x) S fun v S=>ld1 v S fun v S=>Q (.ret v) S))))):=by
 obtain⟨hin,hla,ho,hb,hcn,hf,_⟩:=right_c.1 hr
 obtain⟨n,rfl⟩:=Int.eq_ofNat_of_zero_le (show 0≤x by omega)
 have hs:c.sig k n=if k=105 then 2*((n:Int)+1)else if k=108 then 2*(c.inputs+n+1)else if k=111 then c.outs.getD n 0 else if k=98 then c.bads.getD n 0 else if k=99 then c.cons.getD n 0 else c.fair.getD n 0:=by
  unfold Ci.sig
  rw[if_neg h0,if_neg h1]
  rfl
 rw[hs]at hQ
 have hm:(n:Int)<c.many k:=by omega
 unfold Ci.many at hm
 have getL:∀{l:List Int} (h:n<l.length),l.getD n 0=l[n]:=fun h=>by rw[List.getD_eq_getElem?_getD,List.getElem?_eq_getElem h];rfl
 rw[bin_eql,onB_v]
 refine gd_of (fun h=>?_) (fun h=>?_)
 ·have h:=dT h
  rw[if_pos h]at hQ hm
  rwa [bin_add (by omega) (by omega),bin_mul (by omega) (by omega)]
 have h:=dF h
 rw[if_neg h]at hQ hm
 rw[bin_eql,onB_v]
 refine gd_of (fun h=>?_) (fun h=>?_)
 ·have h:=dT h
  rw[if_pos h]at hQ hm
  rwa [shift_p,ld1_p (u:=aI c.inputs) o1 rfl rfl,bin_add (by omega) (by omega),bin_add (by omega) (by omega),bin_mul (by omega) (by omega)]
 have h:=dF h
 rw[if_neg h]at hQ hm
 rw[bin_eql,onB_v]
 refine gd_of (fun h=>?_) (fun h=>?_)
 ·have h:=dT h
  rw[if_pos h]at hQ hm
  have hl:n<c.outs.length:=by omega
  rw[getL hl]at hQ
  rwa [shift_p,ld1_p (u:=aL aI c.outs) o1 rfl rfl,ixS_aL hl,ld1_q]
 have h:=dF h
 rw[if_neg h]at hQ hm
 rw[bin_eql,onB_v]
 refine gd_of (fun h=>?_) (fun h=>?_)
 ·have h:=dT h
  rw[if_pos h]at hQ hm
  have hl:n<c.bads.length:=by omega
  rw[getL hl]at hQ
  rwa [shift_p,ld1_p (u:=aL aI c.bads) o1 rfl rfl,ixS_aL hl,ld1_q]
 have h:=dF h
 rw[if_neg h]at hQ hm
 rw[bin_eql,onB_v]
 refine gd_of (fun h=>?_) (fun h=>?_)
 ·have h:=dT h
  rw[if_pos h]at hQ hm
  have hl:n<c.cons.length:=by omega
  rw[getL hl]at hQ
  rwa [shift_p,ld1_p (u:=aL aI c.cons) o1 rfl rfl,ixS_aL hl,ld1_q]
 have h:=dF h
 rw[if_neg h]at hQ hm
 have hl:n<c.fair.length:=by
  split at hm<;>omega
 rw[getL hl]at hQ
 rwa [shift_p,ld1_p (u:=aL aI c.fair) o1 rfl rfl,ixS_aL hl,ld1_q]
theorem ans59{c:Ci}(hc:c.ok)(hr:c.right=true){k x:Int}(hk0:0≤k)(hk1:k<256):Ans Pg 59 [c.av,.v (.int .u8 k),aI x] (aI (c.sig k x)):=by
 intro S
 refine ACalls.ans_v (calls59 ?_)
 unfold m59
 refine boxA_of rfl fun S1 k1 n1 o1=>?_
 rw[bin_lss,onB_v]
 refine gd_of (fun h=>⟨by unfold Ci.sig;rw[if_pos (dT h)],k1⟩) (fun h=>?_)
 have h:=dF h
 rw[ldN_p (n:=8) o1 rfl]
 refine callF_ans (ans51 c) ?_
 rw[convI_v,wrap32 hk0 hk1,lkM_mt (keyI _ _)]
 show bin .geq 0 (aI x) ((lkp c.manyE (.i k)).getD (aI 0)) S1 _
 rw[lkp_many,bin_geq,onB_v]
 refine gd_of (fun h2=>⟨by unfold Ci.sig;rw[if_neg h,if_pos (dT h2)],k1⟩) (fun h2=>?_)
 refine sig_tail hc hr o1 h (dF h2) (Q:=fun e S'=>e = .ret (aI (c.sig k x))∧Keep S S') ?_
 exact⟨rfl,k1⟩
def sigB (c:Ci) (k x:Int):Int:=if c.right=true then c.sig k x else -1
theorem ans31{c:Ci}(hc:c.ok){k x:Int}:Ans Pg 31 [c.av,.v (.int .u8 k),aI x] (aI (sigB c k x)):=by
 intro S
 refine ACalls.ans_v (calls31 ?_)
 unfold m31
 refine boxA_of rfl fun S1 k1 n1 o1=>?_
 rw[ldN_p (n:=8) o1 rfl]
 refine callF_ans (ans28 hc) ?_
 rw[un_not,onB_v]
 refine gd_of (fun h=>⟨by unfold sigB;rw[if_neg (by simpa using h)],k1⟩) (fun h=>?_)
 have hr:c.right=true:=by simpa using h
 have hs:sigB c k x=c.sig k x:=by unfold sigB;rw[if_pos hr]
 rw[hs,bin_lss,onB_v]
 refine gd_of (fun h=>⟨by unfold Ci.sig;rw[if_pos (dT h)],k1⟩) (fun h=>?_)
 have h:=dF h
 rw[ldN_p (n:=8) o1 rfl]
 refine callF_ans (ans69 c k) ?_
 rw[bin_geq,onB_v]
 refine gd_of (fun h2=>⟨by unfold Ci.sig;rw[if_neg h,if_pos (dT h2)],k1⟩) (fun h2=>?_)
 refine sig_tail hc hr o1 h (dF h2) (Q:=fun e S'=>e = .ret (aI (c.sig k x))∧Keep S S') ?_
 exact⟨rfl,k1⟩
theorem at60{l:List Na}(hl:l.length≤9223372036854775807){g:Na→Bool}{fn:FuncId}{fs cs:List AV}{S:Store}
    (hf:∀ x,x∈l→AnsAt Pg fn (fs ++ [.a x.row]++cs) S (aB (g x))):AnsAt Pg 60 [nL l,.f (.func fn) fs cs] S (aI (idxOf (l.findIdx? g))):=by
 refine calls60 ?_
 unfold m60
 rw[lenS_nL]
 refine loop60_0 (fun y S'=>S'=S∧∃ i:Nat,y=aI i∧i≤l.length∧∀ k (hk:k<l.length),k<i→g l[k]=false) (fun y _=>l.length - ((intA y).getD 0).toNat) ⟨rfl,0,rfl,Nat.zero_le _,fun k _ h=>absurd h (Nat.not_lt_zero _)⟩ ?_
 rintro _ _ ⟨rfl,i,rfl,hi,hk⟩ KE hKE
 unfold b60_0
 rw[bin_lss,onB_v]
 refine gd_of (fun h=>?_) (fun h=>?_)
 ·have hlt:i<l.length:=by simpa using h
  rw[ixS_nL hlt,ldN_q (c:=l[i].row) (n:=3) rfl]
  refine callV_at (hf _ (List.getElem_mem hlt)) ?_
  rw[onB_v]
  refine gd_of (fun hg=>⟨?_,rfl⟩) (fun hg=>?_)
  ·rw[find_at hlt hg (fun k hk'=>hk k _ hk')];rfl
  ·rw[bin_add (by omega) (by omega)]
   refine hKE _ _ ⟨rfl,i+1,rfl,hlt,fun k hk1 hk2=>?_⟩ ?_
   ·by_cases e:k=i
    ·subst e;exact hg
    ·exact hk k hk1 (by omega)
   ·simp[intA];omega
 ·have:i=l.length:=by have:=dF h;omega
  subst this
  refine⟨?_,rfl⟩
  rw[find_none (fun k hk'=>hk k hk' hk')]
  rfl
theorem at61{S:Store}{x:Na}{s:ByteArray}{id t:Nat}(h:S.obj id=some (.cells t [[.v (.string s)]] true))(hid:id<S.n):AnsAt Pg 61 [.a x.row,.p id 0 0] S (aB (decide (x.text=s))):=by
 refine ACalls.ans_v (calls61 ?_)
 unfold m61
 refine boxA_of rfl fun S1 k1 n1 o1=>?_
 rw[shift_p,ld1_p (u:=.v (.string x.text)) o1 rfl rfl,ld1_p ((k1.2 _ hid).trans h) rfl rfl,bin_eqlS]
 exact⟨rfl,k1⟩
theorem slc1{b:ByteArray}(h:1≤b.size){S:Store}{K:AV→Store→Prop}(k:K (.v (.string (b.extract 1 b.size))) S):slcStr (.v (.string b)) (some (.v (.int .i64 1))) none S K:=by
 have e:(0≤(1:Int)∧(1:Int)≤(b.size:Int)∧(b.size:Int)≤b.size)∧K (.v (.string (b.extract (1:Int).toNat (b.size:Int).toNat))) S:=⟨⟨by decide,by omega,by omega⟩,k⟩
 exact⟨1,rfl,b.size,rfl,e⟩
theorem extract_list{b:ByteArray}(h:1≤b.size):(b.extract 1 b.size).data.toList=b.data.toList.drop 1∧(b.extract 1 b.size).size=b.size - 1:=by
 refine⟨?_,?_⟩
 ·rw[ByteArray.data_extract,Array.toList_extract]
  show(b.data.toList.drop 1).take (b.size - 1)=_
  exact List.take_of_length_le (by rw[List.length_drop,Array.length_toList];exact Nat.le_refl _)
 ·rw[ByteArray.size_extract];omega
def findB (c:Ci) (s:ByteArray):Int:=
 if c.right=true then
  match c.names.find? fun n=>decide (n.text=s)with
  |some n=>c.sig n.kind n.pos
  |none=>if s.size<2 then -1 else c.sig (s[0]!).toNat (numR (s.data.toList.drop 1))
 else -1
theorem names_word{c:Ci}(hr:c.right=true):∀ x∈c.names,0<x.text.size:=by
 obtain⟨_,_,_,_,_,_,_,_,_,_,_,_,hn⟩:=right_c.1 hr
 simp only[namesB,decide_eq_true_eq]at hn
 intro x hx
 obtain⟨i,hi,rfl⟩:=List.getElem_of_mem hx
 have h:=(hn.ok i hi hi).1
 simp only[wordB,Bool.and_eq_true,decide_eq_true_eq]at h
 exact h.2.1
theorem find_hit{c:Ci}{s:ByteArray}(hr:c.right=true){i:Nat}(hi:i<c.names.length)(h:c.names[i].text=s)(hno:∀ k (hk:k<c.names.length),k<i→c.names[k].text≠s):findB c s=c.sig c.names[i].kind c.names[i].pos:=by
 unfold findB
 rw[if_pos hr,List.find?_eq_some_iff_getElem.2 ⟨by simpa using h,i,hi,rfl,fun j hj=>by simpa using hno j _ hj⟩]
theorem find_miss{c:Ci}{s:ByteArray}(hr:c.right=true)(hno:∀ k (hk:k<c.names.length),c.names[k].text≠s):findB c s=if s.size<2 then -1 else c.sig (s[0]!).toNat (numR (s.data.toList.drop 1)):=by
 unfold findB
 rw[if_pos hr,List.find?_eq_none.2 fun x hx=>by
  obtain⟨i,hi,rfl⟩:=List.getElem_of_mem hx
  simpa using hno i hi]
theorem u8_lt(b:UInt8):(0:Int)≤b.toNat∧(b.toNat:Int)<256:=⟨by omega,by have:=b.toNat_lt;omega⟩
theorem sig_neg{c:Ci}{k:Int}:c.sig k (-1) = -1:=by unfold Ci.sig;rw[if_pos (by decide)]
theorem ans25{c:Ci}(hc:c.ok){s:ByteArray}(hs:s.size≤281474976710656):Ans Pg 25 [c.av,.v (.string s)] (aI (findB c s)):=by
 intro S
 refine ACalls.ans_v (calls25 ?_)
 unfold m25
 refine boxA_of rfl fun S1 k1 n1 o1=>?_
 refine box1_of rfl fun S2 k2 n2 o2=>?_
 have p1:=(k2.2 _ (by omega)).trans o1
 have kk:=k1.trans k2
 rw[ldN_p (n:=8) p1 rfl]
 refine callF_ans (ans22 hc) ?_
 rw[un_not,onB_v]
 refine gd_of (fun h=>⟨by unfold findB;rw[if_neg (by simpa using h)],kk⟩) (fun h=>?_)
 have hr:c.right=true:=by simpa using h
 have hw:=names_word hr
 rw[ld1_p o2 rfl rfl,bin_eqlS,onB_v]
 refine gd_of (fun h=>⟨?_,kk⟩) (fun h=>?_)
 ·have h:s=⟨#[]⟩:=dT h
  subst h
  rw[find_miss hr (fun k hk e=>by have:=hw _ (List.getElem_mem hk);rw[e]at this;exact absurd this (by decide)),if_pos (by decide)]
 have h1:1≤s.size:=by
  have h:=dF h
  rcases Nat.eq_zero_or_pos s.size with e|e
  ·exact absurd (byteArray_ext (Array.eq_empty_of_size_eq_zero e)) h
  ·exact e
 rw[shift_p,ld1_p (u:=nL c.names) p1 rfl rfl]
 refine callF_at (at60 (by have:=hc.nlen;omega) (g:=fun x=>decide (x.text=s)) (fs:=[]) (cs:=[.p S1.n 0 0]) fun x _=>at61 o2 (by omega)) ?_
 rw[bin_geq,onB_v]
 have hq:∀{v:Int},v=findB c s→(AEnd.ret (aI v) = .ret (aI (findB c s))∧Keep S S2):=fun e=>⟨by rw[e],kk⟩
 cases hf:c.names.findIdx? fun x=>decide (x.text=s)with
 |some i =>
  obtain⟨hi,hy,hn⟩:=List.findIdx?_eq_some_iff_getElem.1 hf
  have hit:=find_hit hr hi (dT hy) (fun k hk hki=>by have:=hn k hki;simpa using this)
  have nok:=hc.names _ (List.getElem_mem hi)
  refine gd_of (fun _=>?_) (fun h=>by have:=dF h;simp only[idxOf]at this;omega)
  show ∃ q:AV,_
  refine⟨_,by rw[ldN_p (n:=8) p1 rfl];exact⟨rfl,rfl⟩,?_⟩
  refine⟨_,by rw[shift_p];exact⟨rfl,rfl⟩,?_⟩
  refine⟨_,by rw[ld1_p (u:=nL c.names) p1 rfl rfl];exact⟨rfl,rfl⟩,?_⟩
  refine⟨_,by rw[show idxOf (some i)=(i:Int)from rfl,ixS_nL hi];exact⟨rfl,rfl⟩,?_⟩
  refine⟨_,⟨rfl,rfl⟩,?_⟩
  refine⟨_,by rw[ld1_qj (u:=.v (.int .u8 c.names[i].kind)) rfl];exact⟨rfl,rfl⟩,?_⟩
  refine⟨_,by rw[shift_p];exact⟨rfl,rfl⟩,?_⟩
  refine⟨_,by rw[ld1_p (u:=nL c.names) p1 rfl rfl];exact⟨rfl,rfl⟩,?_⟩
  refine⟨_,by rw[show idxOf (some i)=(i:Int)from rfl,ixS_nL hi];exact⟨rfl,rfl⟩,?_⟩
  refine⟨_,⟨rfl,rfl⟩,?_⟩
  refine⟨_,by rw[ld1_qj (u:=aI c.names[i].pos) rfl];exact⟨rfl,rfl⟩,?_⟩
  refine⟨_,callF_ans (ans59 hc hr nok.1 nok.2.1) ⟨rfl,rfl⟩,?_⟩
  exact hq hit.symm
 |none =>
  have hn:=List.findIdx?_eq_none_iff.1 hf
  have miss:=find_miss hr (s:=s) (fun k hk e=>by have:=hn _ (List.getElem_mem hk);simp[e]at this)
  refine gd_of (fun h=>by have:=dT h;simp only[idxOf]at this;omega) (fun _=>?_)
  have h0:0<s.size:=by omega
  have hix:∀(S:Store) (K:AV→Store→Prop),ixStr (.v (.string s)) (.v (.int .i64 0)) S K=K (.v (.int .u8 (s[0]).toNat)) S:=fun S K=>ixStr_b (i:=0) h0
  obtain⟨e1,e2⟩:=extract_list h1
  show ∃ q:AV,_
  refine⟨_,by rw[ldN_p (n:=8) p1 rfl];exact⟨rfl,rfl⟩,?_⟩
  refine⟨_,by rw[ld1_p o2 rfl rfl];exact⟨rfl,rfl⟩,?_⟩
  refine⟨_,by rw[hix];exact⟨rfl,rfl⟩,?_⟩
  refine⟨_,by rw[ld1_p o2 rfl rfl];exact⟨rfl,rfl⟩,?_⟩
  refine⟨_,⟨rfl,slc1 h1 ⟨rfl,rfl⟩⟩,?_⟩
  refine⟨_,callF_ans (ans62 (by omega)) ⟨rfl,rfl⟩,?_⟩
  refine⟨_,callF_ans (ans59 hc hr (u8_lt _).1 (u8_lt _).2) ⟨rfl,rfl⟩,?_⟩
  refine hq ?_
  rw[miss,e1]
  by_cases h2:s.size<2
  ·rw[if_pos h2]
   have:s.data.toList.drop 1 = []:=List.drop_eq_nil_of_le (by rw[Array.length_toList];exact(by omega:s.size≤1))
   rw[this]
   exact sig_neg
  ·rw[if_neg h2,getElem!_pos s 0 h0]
theorem ans32{c:Ci}(hc:c.ok){s:ByteArray}(hs:s.size≤19):Ans Pg 32 [c.av,.v (.string s)] (aI (findB c s)):=by
 intro S
 refine ACalls.ans_v (calls32 ?_)
 unfold m32
 refine boxA_of rfl fun S1 k1 n1 o1=>?_
 rw[ldN_p (n:=8) o1 rfl]
 refine callF_ans (ans28 hc) ?_
 rw[un_not,onB_v]
 refine gd_of (fun h=>⟨by unfold findB;rw[if_neg (by simpa using h)],k1⟩) (fun h=>?_)
 have hr:c.right=true:=by simpa using h
 have hsig:∀ k x,sigB c k x=c.sig k x:=fun k x=>by unfold sigB;rw[if_pos hr]
 refine loop32_0 (fun y S'=>S'=S1∧∃ i:Nat,y=aI i∧i≤c.names.length∧∀ k (hk:k<c.names.length),k<i→c.names[k].text≠s) (fun y _=>c.names.length - ((intA y).getD 0).toNat) ⟨rfl,0,rfl,Nat.zero_le _,fun k _ h=>absurd h (Nat.not_lt_zero _)⟩ ?_
 rintro _ _ ⟨rfl,i,rfl,hi,hno⟩ KE hKE
 unfold b32_0
 have hq:∀{v:Int},v=findB c s→(AEnd.ret (aI v) = .ret (aI (findB c s))∧Keep S _):=fun e=>⟨by rw[e],k1⟩
 rw[shift_p,ld1_p (u:=nL c.names) o1 rfl rfl,lenS_nL,bin_lss,onB_v]
 refine gd_of (fun hlt=>?_) (fun hge=>?_)
 ·have hlt:i<c.names.length:=by simpa using hlt
  rw[shift_p,ld1_p (u:=nL c.names) o1 rfl rfl,ixS_nL hlt,shift_q,ld1_qj (u:=.v (.string c.names[i].text)) rfl,bin_eqlS,onB_v]
  refine gd_of (fun he=>?_) (fun he=>?_)
  ·have hit:=find_hit hr hlt (dT he) hno
   show ∃ q:AV,_
   refine⟨_,by rw[ldN_p (n:=8) o1 rfl];exact⟨rfl,rfl⟩,?_⟩
   refine⟨_,by rw[shift_p];exact⟨rfl,rfl⟩,?_⟩
   refine⟨_,by rw[ld1_p (u:=nL c.names) o1 rfl rfl];exact⟨rfl,rfl⟩,?_⟩
   refine⟨_,by rw[ixS_nL hlt];exact⟨rfl,rfl⟩,?_⟩
   refine⟨_,⟨rfl,rfl⟩,?_⟩
   refine⟨_,by rw[ld1_qj (u:=.v (.int .u8 c.names[i].kind)) rfl];exact⟨rfl,rfl⟩,?_⟩
   refine⟨_,by rw[shift_p];exact⟨rfl,rfl⟩,?_⟩
   refine⟨_,by rw[ld1_p (u:=nL c.names) o1 rfl rfl];exact⟨rfl,rfl⟩,?_⟩
   refine⟨_,by rw[ixS_nL hlt];exact⟨rfl,rfl⟩,?_⟩
   refine⟨_,⟨rfl,rfl⟩,?_⟩
   refine⟨_,by rw[ld1_qj (u:=aI c.names[i].pos) rfl];exact⟨rfl,rfl⟩,?_⟩
   refine⟨_,callF_ans (ans31 hc) ⟨rfl,rfl⟩,?_⟩
   exact hq (by rw[hsig,hit])
  ·have hn:=hc.nlen
   rw[bin_add (by omega) (by omega)]
   refine hKE _ _ ⟨rfl,i+1,rfl,hlt,fun k hk1 hk2=>?_⟩ (by simp[intA];omega)
   by_cases e:k=i
   ·subst e;exact dF he
   ·exact hno k hk1 (by omega)
 ·have hge:i=c.names.length:=by have:=dF hge;omega
  subst hge
  have miss:=find_miss hr (s:=s) fun k hk=>hno k hk hk
  rw[lenStr_b,bin_lss,onB_v]
  refine gd_of (fun h2=>hq (by rw[miss,if_pos (by have:=dT h2;omega)])) (fun h2=>?_)
  have h2:=dF h2
  have h0:0<s.size:=by omega
  have hix:∀(S:Store) (K:AV→Store→Prop),ixStr (.v (.string s)) (.v (.int .i64 0)) S K=K (.v (.int .u8 (s[0]).toNat)) S:=fun S K=>ixStr_b (i:=0) h0
  obtain⟨e1,e2⟩:=extract_list (b:=s) (by omega)
  show ∃ q:AV,_
  refine⟨_,by rw[ldN_p (n:=8) o1 rfl];exact⟨rfl,rfl⟩,?_⟩
  refine⟨_,by rw[hix];exact⟨rfl,rfl⟩,?_⟩
  refine⟨_,⟨rfl,slc1 (by omega) ⟨rfl,rfl⟩⟩,?_⟩
  refine⟨_,callF_ans (ans70 (by omega)) ⟨rfl,rfl⟩,?_⟩
  refine⟨_,callF_ans (ans31 hc) ⟨rfl,rfl⟩,?_⟩
  refine hq ?_
  rw[miss,if_neg (by omega),hsig,e1,getElem!_pos s 0 h0]
def wordF(b:ByteArray):Bool:=decide (∀ i (h:i<b.size),(33≤(b[i]).toNat∧(b[i]).toNat≤126)∧(b[i]).toNat≠34) && (decide (0<b.size) && decide (b.size≤20))
theorem wordF_no{b:ByteArray}{i:Nat}(h:i<b.size)(hn:¬ ((33≤(b[i]).toNat∧(b[i]).toNat≤126)∧(b[i]).toNat≠34)):wordF b=false:=by
 simp only[wordF,Bool.and_eq_false_iff,decide_eq_false_iff_not]
 exact .inl fun h'=>hn (h' i h)
theorem args_ss{w:World}{g:Gh}{x y:Value}{vs:Array Value}(h:Args w g [.v x,.v y] vs):vs = #[x,y]:=by
 obtain⟨h1,h2⟩:=h
 have h3:=R.inv_v (h2 0 _ rfl:R w g (.v x) (vs.getD 0 undef))
 have h4:=R.inv_v (h2 1 _ rfl:R w g (.v y) (vs.getD 1 undef))
 have h5:vs.size=2:=h1.symm
 apply Array.ext
 ·exact h5
 ·intro i hi1 hi2
  have h6:vs.getD i undef=vs[i]:=by simp[Array.getD,hi1]
  match i,hi1 with
  |0,_=>rw[←h6,h3];rfl
  |1,_=>rw[←h6,h4];rfl
  |i+2,h=>omega
theorem ans133(s:ByteArray)(c:UInt8):Ans Pg 133 [.v (.string s),.v (.string ⟨#[c]⟩)] (aB (decide (0≤Lib.indexByte s.data.toList c))):=fun S =>
 ACalls.below (by kernel_rfl) fun w g vs hh ha=>by
  obtain rfl:=args_ss ha
  refine(Any.strings_Contains_one laysContains s c w).mono fun e w' ⟨he,hw⟩=>⟨?_,_,he,.v _⟩
  subst hw
  exact RowKit.Below.refl _ _
theorem contains_iff(s:ByteArray):0≤Lib.indexByte s.data.toList 34↔∃(i:Nat) (h:i<s.size),(s[i]).toNat=34:=by
 constructor
 ·intro h
  obtain⟨o,ho⟩:=Int.eq_ofNat_of_zero_le h
  obtain⟨h1,_⟩:=Lib.indexByte_some ho
  have hlt:o<s.size:=by
   have:=(List.getElem?_eq_some_iff.1 h1).1
   rwa [Array.length_toList]at this
  refine⟨o,hlt,?_⟩
  rw[sl_get hlt]at h1
  rw[Option.some.inj h1]
  rfl
 ·rintro⟨i,h,e⟩
  have hge:=Lib.indexByte_ge s.data.toList 34
  rcases Int.lt_or_le (Lib.indexByte s.data.toList 34) 0 with hl|hl
  ·have:=Lib.indexByte_none (show Lib.indexByte s.data.toList 34 = -1 by omega) i
   rw[sl_get h]at this
   exact absurd (congrArg some (UInt8.toNat_inj.1 e)) this
  ·exact hl
theorem ans116(b:ByteArray)(hb:b.size≤9223372036854775807):Ans Pg 116 [.v (.string b)] (aB (wordF b)):=by
 intro S
 refine calls116 ?_
 unfold m116
 refine loop116_0 (fun y S'=>S'=S∧∃ i:Nat,y=aI i∧i≤b.size∧∀ j (h:j<b.size),j<i→(33≤(b[j]).toNat∧(b[j]).toNat≤126)∧(b[j]).toNat≠34)
  (fun y _=>b.size - ((intA y).getD 0).toNat) ⟨rfl,0,rfl,Nat.zero_le _,fun j _ hj=>(Nat.not_lt_zero _ hj).elim⟩ ?_
 rintro _ _ ⟨rfl,i,rfl,hi,hok⟩ KE hKE
 unfold b116_0
 rw[lenStr_b,bin_lss,onB_v]
 refine gd_of (fun hlt=>?_) (fun hge=>?_)
 ·have hlt:i<b.size:=by simpa using hlt
  rw[ixStr_b hlt,bin_lss,onB_v]
  refine gd_of (fun h1=>⟨by rw[wordF_no hlt (fun h=>by have:=dT h1;omega)],rfl⟩) (fun h1=>?_)
  rw[ixStr_b hlt,bin_gtr,onB_v]
  refine gd_of (fun h2=>⟨by rw[wordF_no hlt (fun h=>by have:=dT h2;omega)],rfl⟩) (fun h2=>?_)
  rw[ixStr_b hlt,bin_eql,onB_v]
  refine gd_of (fun h3=>⟨by rw[wordF_no hlt (fun h=>by have:=dT h3;omega)],rfl⟩) (fun h3=>?_)
  rw[bin_add (by omega) (by omega)]
  refine hKE _ _ ⟨rfl,i+1,rfl,hlt,fun j hj hj'=>?_⟩ (by simp[intA];omega)
  rcases Nat.lt_or_ge j i with h|h
  ·exact hok j hj h
  ·have:j=i:=by omega
   subst this
   have h1:=dF h1
   have h2:=dF h2
   have h3:=dF h3
   omega
 ·have hge:i=b.size:=by have:=dF hge;omega
  subst hge
  have hall:decide (∀ i (h:i<b.size),(33≤(b[i]).toNat∧(b[i]).toNat≤126)∧(b[i]).toNat≠34)=true:=decide_eq_true fun j hj=>hok j hj hj
  rw[lenStr_b,bin_gtr,onB_v]
  refine gd_of (fun h1=>?_) (fun h1=>⟨?_,rfl⟩)
  ·rw[lenStr_b,bin_leq]
   refine⟨?_,rfl⟩
   simp only[wordF,hall,Bool.true_and,show 0<b.size by simpa using h1,decide_true]
   rw[show decide ((b.size:Int)≤20)=decide (b.size≤20)from decide_eq_decide.2 (by omega)]
  ·simp[wordF,show ¬ 0<b.size by simpa using h1]
theorem ans124(b:ByteArray)(hb:b.size≤9223372036854775807):Ans Pg 124 [.v (.string b)] (aB (wordF b)):=by
 intro S
 refine calls124 ?_
 unfold m124
 rw[lenStr_b]
 refine loop124_0 (fun y S'=>S'=S∧∃ i:Nat,y=aI i∧i≤b.size∧∀ j (h:j<b.size),j<i→33≤(b[j]).toNat∧(b[j]).toNat≤126)
  (fun y _=>b.size - ((intA y).getD 0).toNat) ⟨rfl,0,rfl,Nat.zero_le _,fun j _ hj=>(Nat.not_lt_zero _ hj).elim⟩ ?_
 rintro _ _ ⟨rfl,i,rfl,hi,hok⟩ KE hKE
 unfold b124_0
 rw[bin_lss,onB_v]
 refine gd_of (fun hlt=>?_) (fun hge=>?_)
 ·have hlt:i<b.size:=by simpa using hlt
  rw[ixStr_b hlt,bin_leq,onB_v]
  refine gd_of (fun h1=>⟨by rw[wordF_no hlt (fun h=>by have:=dT h1;omega)],rfl⟩) (fun h1=>?_)
  rw[ixStr_b hlt,bin_gtr,onB_v]
  refine gd_of (fun h2=>⟨by rw[wordF_no hlt (fun h=>by have:=dT h2;omega)],rfl⟩) (fun h2=>?_)
  rw[bin_add (by omega) (by omega)]
  refine hKE _ _ ⟨rfl,i+1,rfl,hlt,fun j hj hj'=>?_⟩ (by simp[intA];omega)
  rcases Nat.lt_or_ge j i with h|h
  ·exact hok j hj h
  ·have:j=i:=by omega
   subst this
   have h1:=dF h1
   have h2:=dF h2
   omega
 ·have hge:i=b.size:=by have:=dF hge;omega
  subst hge
  have he:decide (b={ data:=#[] })=decide (b.size=0):=by
   by_cases h:b.size=0
   ·have:b={ data:=#[] }:=byteArray_ext (Array.eq_empty_of_size_eq_zero h)
    subst this
    rfl
   ·have:¬ b={ data:=#[] }:=fun e=>h (by rw[e];rfl)
    simp[this,h]
  rw[bin_neqS,he,onB_v]
  refine gd_of (fun h1=>?_) (fun h1=>⟨?_,rfl⟩)
  ·have h1:b.size≠0:=by simpa using h1
   rw[lenStr_b,bin_leq,onB_v]
   refine gd_of (fun h2=>?_) (fun h2=>⟨?_,rfl⟩)
   ·refine callF_ans (ans133 b 34) ?_
    rw[un_not]
    refine⟨?_,rfl⟩
    have h2:=dT h2
    have e1:decide (0<b.size)=true:=decide_eq_true (by omega)
    have e2:decide (b.size≤20)=true:=decide_eq_true (by omega)
    have:wordF b = !decide (0≤Lib.indexByte b.data.toList 34):=by
     rw[wordF,e1,e2,Bool.and_true,Bool.and_true,←decide_not]
     refine decide_eq_decide.2 ⟨fun h hc=>?_,fun h j hj=>⟨hok j hj hj,fun e=>h ((contains_iff b).2 ⟨j,hj,e⟩)⟩⟩
     obtain⟨j,hj,e⟩:=(contains_iff b).1 hc
     exact(h j hj).2 e
    rw[this]
   ·have h2:=dF h2
    have e2:decide (b.size≤20)=false:=decide_eq_false (by omega)
    rw[wordF,e2,Bool.and_false,Bool.and_false]
  ·have h1:b.size=0:=by simpa using h1
   have e1:decide (0<b.size)=false:=decide_eq_false (by omega)
   rw[wordF,e1,Bool.false_and,Bool.and_false]
section
set_option maxRecDepth 100000
def c38:Code:=(Tryz.f38.body).getD .skip
def r38:List ResultVar:=Tryz.f38.results.toList
def env38_0(y1 y2 y5:AV):List AV:=[y1,y2,y5]
def lv38_0:List Nat:=[1,2,5]
def ms38:List (List Nat):=[lv38_0,[]]
def m38(x0 x1:AV)(S:Store)(Q:PoT):Prop:=
 boxN 35 4 x0 S fun a S=>(fun S0:Store=>∃ c:AV,(bin .lss 0 x1 (.v (.int .i64 1)) S fun d S=>d=c∧S=S0)∧onB c fun b=>gd b (∃ e:AV,((.v (.bool true))=e∧S=S0)∧onB e fun b=>gd b (∃ f:AV,((.v (.bool true))=f∧S=S0)∧onB f fun b=>gd b (∃ g:AV,((.v (.bool true))=g∧S=S0)∧onB g fun b=>gd b (∃ h:AV,((.v (.bool true))=h∧S=S0)∧onB h fun b=>gd b (Q (.ret (.v (.bool false))) S) (loopV lv38_0 (vc Pg (c38.at_ [1,1,0,1,0,0]) (ms38.drop 1)) 53 (env38_0 x1 a (.v (.int .i64 0))) S (blockK 0 (seqK (vc Pg (c38.at_ [1,1,1]) (ms38.drop 1)) (bodyK Pg r38 Q))))) (∃ i:AV,(shift a 0 S fun k S=>k=i∧S=S0)∧∃ l:AV,(ld1 i S fun m S=>m=l∧S=S0)∧∃ n:AV,(bin .neq 0 l (.v (.int .i64 3)) S fun o S=>o=n∧S=S0)∧onB n fun b=>gd b (∃ p:AV,(shift a 2 S fun q S=>q=p∧S=S0)∧∃ r:AV,(ld1 p S fun s S=>s=r∧S=S0)∧∃ t:AV,(bin .neq 0 r (.v (.int .i64 0)) S fun u S=>u=t∧S=S0)∧∃ w:AV,(t=w∧S=S0)∧∃ x:AV,(w=x∧S=S0)∧onB x fun b=>gd b (Q (.ret (.v (.bool false))) S) (loopV lv38_0 (vc Pg (c38.at_ [1,1,0,1,0,0]) (ms38.drop 1)) 53 (env38_0 x1 a (.v (.int .i64 0))) S (blockK 0 (seqK (vc Pg (c38.at_ [1,1,1]) (ms38.drop 1)) (bodyK Pg r38 Q))))) (∃ y:AV,((.v (.bool false))=y∧S=S0)∧∃ z:AV,(y=z∧S=S0)∧onB z fun b=>gd b (Q (.ret (.v (.bool false))) S) (loopV lv38_0 (vc Pg (c38.at_ [1,1,0,1,0,0]) (ms38.drop 1)) 53 (env38_0 x1 a (.v (.int .i64 0))) S (blockK 0 (seqK (vc Pg (c38.at_ [1,1,1]) (ms38.drop 1)) (bodyK Pg r38 Q))))))) (∃ A:AV,(shift a 2 S fun B S=>B=A∧S=S0)∧∃ C:AV,(ld1 A S fun D S=>D=C∧S=S0)∧∃ E:AV,(bin .lss 0 C (.v (.int .i64 0)) S fun F S=>F=E∧S=S0)∧∃ G:AV,(E=G∧S=S0)∧onB G fun b=>gd b (∃ H:AV,((.v (.bool true))=H∧S=S0)∧onB H fun b=>gd b (Q (.ret (.v (.bool false))) S) (loopV lv38_0 (vc Pg (c38.at_ [1,1,0,1,0,0]) (ms38.drop 1)) 53 (env38_0 x1 a (.v (.int .i64 0))) S (blockK 0 (seqK (vc Pg (c38.at_ [1,1,1]) (ms38.drop 1)) (bodyK Pg r38 Q))))) (∃ I:AV,(shift a 0 S fun J S=>J=I∧S=S0)∧∃ K:AV,(ld1 I S fun L S=>L=K∧S=S0)∧∃ M:AV,(bin .neq 0 K (.v (.int .i64 3)) S fun N S=>N=M∧S=S0)∧onB M fun b=>gd b (∃ O:AV,(shift a 2 S fun P S=>P=O∧S=S0)∧∃ R:AV,(ld1 O S fun T S=>T=R∧S=S0)∧∃ U:AV,(bin .neq 0 R (.v (.int .i64 0)) S fun V S=>V=U∧S=S0)∧∃ W:AV,(U=W∧S=S0)∧∃ X:AV,(W=X∧S=S0)∧onB X fun b=>gd b (Q (.ret (.v (.bool false))) S) (loopV lv38_0 (vc Pg (c38.at_ [1,1,0,1,0,0]) (ms38.drop 1)) 53 (env38_0 x1 a (.v (.int .i64 0))) S (blockK 0 (seqK (vc Pg (c38.at_ [1,1,1]) (ms38.drop 1)) (bodyK Pg r38 Q))))) (∃ Y:AV,((.v (.bool false))=Y∧S=S0)∧∃ Z:AV,(Y=Z∧S=S0)∧onB Z fun b=>gd b (Q (.ret (.v (.bool false))) S) (loopV lv38_0 (vc Pg (c38.at_ [1,1,0,1,0,0]) (ms38.drop 1)) 53 (env38_0 x1 a (.v (.int .i64 0))) S (blockK 0 (seqK (vc Pg (c38.at_ [1,1,1]) (ms38.drop 1)) (bodyK Pg r38 Q)))))))) (∃ a0:AV,(shift a 1 S fun a1 S=>a1=a0∧S=S0)∧∃ a2:AV,(ld1 a0 S fun a3 S=>a3=a2∧S=S0)∧∃ a4:AV,(bin .neq 0 a2 (.v (.string { data:=#[] })) S fun a5 S=>a5=a4∧S=S0)∧∃ a6:AV,(a4=a6∧S=S0)∧onB a6 fun b=>gd b (∃ a7:AV,((.v (.bool true))=a7∧S=S0)∧onB a7 fun b=>gd b (∃ a8:AV,((.v (.bool true))=a8∧S=S0)∧onB a8 fun b=>gd b (Q (.ret (.v (.bool false))) S) (loopV lv38_0 (vc Pg (c38.at_ [1,1,0,1,0,0]) (ms38.drop 1)) 53 (env38_0 x1 a (.v (.int .i64 0))) S (blockK 0 (seqK (vc Pg (c38.at_ [1,1,1]) (ms38.drop 1)) (bodyK Pg r38 Q))))) (∃ a9:AV,(shift a 0 S fun b0 S=>b0=a9∧S=S0)∧∃ b1:AV,(ld1 a9 S fun b2 S=>b2=b1∧S=S0)∧∃ b3:AV,(bin .neq 0 b1 (.v (.int .i64 3)) S fun b5 S=>b5=b3∧S=S0)∧onB b3 fun b=>gd b (∃ b7:AV,(shift a 2 S fun b9 S=>b9=b7∧S=S0)∧∃ c0:AV,(ld1 b7 S fun c1 S=>c1=c0∧S=S0)∧∃ c2:AV,(bin .neq 0 c0 (.v (.int .i64 0)) S fun c3 S=>c3=c2∧S=S0)∧∃ c4:AV,(c2=c4∧S=S0)∧∃ c5:AV,(c4=c5∧S=S0)∧onB c5 fun b=>gd b (Q (.ret (.v (.bool false))) S) (loopV lv38_0 (vc Pg (c38.at_ [1,1,0,1,0,0]) (ms38.drop 1)) 53 (env38_0 x1 a (.v (.int .i64 0))) S (blockK 0 (seqK (vc Pg (c38.at_ [1,1,1]) (ms38.drop 1)) (bodyK Pg r38 Q))))) (∃ c6:AV,((.v (.bool false))=c6∧S=S0)∧∃ c7:AV,(c6=c7∧S=S0)∧onB c7 fun b=>gd b (Q (.ret (.v (.bool false))) S) (loopV lv38_0 (vc Pg (c38.at_ [1,1,0,1,0,0]) (ms38.drop 1)) 53 (env38_0 x1 a (.v (.int .i64 0))) S (blockK 0 (seqK (vc Pg (c38.at_ [1,1,1]) (ms38.drop 1)) (bodyK Pg r38 Q))))))) (∃ c8:AV,(shift a 2 S fun c9 S=>c9=c8∧S=S0)∧∃ d0:AV,(ld1 c8 S fun d1 S=>d1=d0∧S=S0)∧∃ d2:AV,(bin .lss 0 d0 (.v (.int .i64 0)) S fun d3 S=>d3=d2∧S=S0)∧∃ d4:AV,(d2=d4∧S=S0)∧onB d4 fun b=>gd b (∃ d5:AV,((.v (.bool true))=d5∧S=S0)∧onB d5 fun b=>gd b (Q (.ret (.v (.bool false))) S) (loopV lv38_0 (vc Pg (c38.at_ [1,1,0,1,0,0]) (ms38.drop 1)) 53 (env38_0 x1 a (.v (.int .i64 0))) S (blockK 0 (seqK (vc Pg (c38.at_ [1,1,1]) (ms38.drop 1)) (bodyK Pg r38 Q))))) (∃ d6:AV,(shift a 0 S fun d7 S=>d7=d6∧S=S0)∧∃ d8:AV,(ld1 d6 S fun d9 S=>d9=d8∧S=S0)∧∃ e0:AV,(bin .neq 0 d8 (.v (.int .i64 3)) S fun e1 S=>e1=e0∧S=S0)∧onB e0 fun b=>gd b (∃ e2:AV,(shift a 2 S fun e3 S=>e3=e2∧S=S0)∧∃ e4:AV,(ld1 e2 S fun e5 S=>e5=e4∧S=S0)∧∃ e6:AV,(bin .neq 0 e4 (.v (.int .i64 0)) S fun e7 S=>e7=e6∧S=S0)∧∃ e8:AV,(e6=e8∧S=S0)∧∃ e9:AV,(e8=e9∧S=S0)∧onB e9 fun b=>gd b (Q (.ret (.v (.bool false))) S) (loopV lv38_0 (vc Pg (c38.at_ [1,1,0,1,0,0]) (ms38.drop 1)) 53 (env38_0 x1 a (.v (.int .i64 0))) S (blockK 0 (seqK (vc Pg (c38.at_ [1,1,1]) (ms38.drop 1)) (bodyK Pg r38 Q))))) (∃ f0:AV,((.v (.bool false))=f0∧S=S0)∧∃ f1:AV,(f0=f1∧S=S0)∧onB f1 fun b=>gd b (Q (.ret (.v (.bool false))) S) (loopV lv38_0 (vc Pg (c38.at_ [1,1,0,1,0,0]) (ms38.drop 1)) 53 (env38_0 x1 a (.v (.int .i64 0))) S (blockK 0 (seqK (vc Pg (c38.at_ [1,1,1]) (ms38.drop 1)) (bodyK Pg r38 Q))))))))) (∃ f2:AV,(shift a 0 S fun f3 S=>f3=f2∧S=S0)∧∃ f4:AV,(ld1 f2 S fun f5 S=>f5=f4∧S=S0)∧∃ f6:AV,(callF Pg 42 [f4] S (fun _ _=>False) fun f7 S=>f7=f6∧S=S0)∧∃ f8:AV,(shift a 3 S fun f9 S=>f9=f8∧S=S0)∧∃ g0:AV,(ld1 f8 S fun g1 S=>g1=g0∧S=S0)∧∃ g2:AV,(lenS g0 S fun g3 S=>g3=g2∧S=S0)∧∃ g4:AV,(bin .neq 0 f6 g2 S fun g5 S=>g5=g4∧S=S0)∧∃ g6:AV,(g4=g6∧S=S0)∧onB g6 fun b=>gd b (∃ g7:AV,((.v (.bool true))=g7∧S=S0)∧onB g7 fun b=>gd b (∃ g8:AV,((.v (.bool true))=g8∧S=S0)∧onB g8 fun b=>gd b (∃ g9:AV,((.v (.bool true))=g9∧S=S0)∧onB g9 fun b=>gd b (Q (.ret (.v (.bool false))) S) (loopV lv38_0 (vc Pg (c38.at_ [1,1,0,1,0,0]) (ms38.drop 1)) 53 (env38_0 x1 a (.v (.int .i64 0))) S (blockK 0 (seqK (vc Pg (c38.at_ [1,1,1]) (ms38.drop 1)) (bodyK Pg r38 Q))))) (∃ h0:AV,(shift a 0 S fun h1 S=>h1=h0∧S=S0)∧∃ h2:AV,(ld1 h0 S fun h3 S=>h3=h2∧S=S0)∧∃ h4:AV,(bin .neq 0 h2 (.v (.int .i64 3)) S fun h5 S=>h5=h4∧S=S0)∧onB h4 fun b=>gd b (∃ h6:AV,(shift a 2 S fun h7 S=>h7=h6∧S=S0)∧∃ h8:AV,(ld1 h6 S fun h9 S=>h9=h8∧S=S0)∧∃ i0:AV,(bin .neq 0 h8 (.v (.int .i64 0)) S fun i1 S=>i1=i0∧S=S0)∧∃ i2:AV,(i0=i2∧S=S0)∧∃ i3:AV,(i2=i3∧S=S0)∧onB i3 fun b=>gd b (Q (.ret (.v (.bool false))) S) (loopV lv38_0 (vc Pg (c38.at_ [1,1,0,1,0,0]) (ms38.drop 1)) 53 (env38_0 x1 a (.v (.int .i64 0))) S (blockK 0 (seqK (vc Pg (c38.at_ [1,1,1]) (ms38.drop 1)) (bodyK Pg r38 Q))))) (∃ i4:AV,((.v (.bool false))=i4∧S=S0)∧∃ i5:AV,(i4=i5∧S=S0)∧onB i5 fun b=>gd b (Q (.ret (.v (.bool false))) S) (loopV lv38_0 (vc Pg (c38.at_ [1,1,0,1,0,0]) (ms38.drop 1)) 53 (env38_0 x1 a (.v (.int .i64 0))) S (blockK 0 (seqK (vc Pg (c38.at_ [1,1,1]) (ms38.drop 1)) (bodyK Pg r38 Q))))))) (∃ i6:AV,(shift a 2 S fun i7 S=>i7=i6∧S=S0)∧∃ i8:AV,(ld1 i6 S fun i9 S=>i9=i8∧S=S0)∧∃ k0:AV,(bin .lss 0 i8 (.v (.int .i64 0)) S fun k1 S=>k1=k0∧S=S0)∧∃ k2:AV,(k0=k2∧S=S0)∧onB k2 fun b=>gd b (∃ k3:AV,((.v (.bool true))=k3∧S=S0)∧onB k3 fun b=>gd b (Q (.ret (.v (.bool false))) S) (loopV lv38_0 (vc Pg (c38.at_ [1,1,0,1,0,0]) (ms38.drop 1)) 53 (env38_0 x1 a (.v (.int .i64 0))) S (blockK 0 (seqK (vc Pg (c38.at_ [1,1,1]) (ms38.drop 1)) (bodyK Pg r38 Q))))) (∃ k4:AV,(shift a 0 S fun k5 S=>k5=k4∧S=S0)∧∃ k6:AV,(ld1 k4 S fun k7 S=>k7=k6∧S=S0)∧∃ k8:AV,(bin .neq 0 k6 (.v (.int .i64 3)) S fun k9 S=>k9=k8∧S=S0)∧onB k8 fun b=>gd b (∃ l0:AV,(shift a 2 S fun l1 S=>l1=l0∧S=S0)∧∃ l2:AV,(ld1 l0 S fun l3 S=>l3=l2∧S=S0)∧∃ l4:AV,(bin .neq 0 l2 (.v (.int .i64 0)) S fun l5 S=>l5=l4∧S=S0)∧∃ l6:AV,(l4=l6∧S=S0)∧∃ l7:AV,(l6=l7∧S=S0)∧onB l7 fun b=>gd b (Q (.ret (.v (.bool false))) S) (loopV lv38_0 (vc Pg (c38.at_ [1,1,0,1,0,0]) (ms38.drop 1)) 53 (env38_0 x1 a (.v (.int .i64 0))) S (blockK 0 (seqK (vc Pg (c38.at_ [1,1,1]) (ms38.drop 1)) (bodyK Pg r38 Q))))) (∃ l8:AV,((.v (.bool false))=l8∧S=S0)∧∃ l9:AV,(l8=l9∧S=S0)∧onB l9 fun b=>gd b (Q (.ret (.v (.bool false))) S) (loopV lv38_0 (vc Pg (c38.at_ [1,1,0,1,0,0]) (ms38.drop 1)) 53 (env38_0 x1 a (.v (.int .i64 0))) S (blockK 0 (seqK (vc Pg (c38.at_ [1,1,1]) (ms38.drop 1)) (bodyK Pg r38 Q)))))))) (∃ aA:AV,(shift a 1 S fun aB S=>aB=aA∧S=S0)∧∃ aC:AV,(ld1 aA S fun aD S=>aD=aC∧S=S0)∧∃ aE:AV,(bin .neq 0 aC (.v (.string { data:=#[] })) S fun aF S=>aF=aE∧S=S0)∧∃ aG:AV,(aE=aG∧S=S0)∧onB aG fun b=>gd b (∃ aH:AV,((.v (.bool true))=aH∧S=S0)∧onB aH fun b=>gd b (∃ aI:AV,((.v (.bool true))=aI∧S=S0)∧onB aI fun b=>gd b (Q (.ret (.v (.bool false))) S) (loopV lv38_0 (vc Pg (c38.at_ [1,1,0,1,0,0]) (ms38.drop 1)) 53 (env38_0 x1 a (.v (.int .i64 0))) S (blockK 0 (seqK (vc Pg (c38.at_ [1,1,1]) (ms38.drop 1)) (bodyK Pg r38 Q))))) (∃ aJ:AV,(shift a 0 S fun aK S=>aK=aJ∧S=S0)∧∃ aL:AV,(ld1 aJ S fun aM S=>aM=aL∧S=S0)∧∃ aN:AV,(bin .neq 0 aL (.v (.int .i64 3)) S fun aO S=>aO=aN∧S=S0)∧onB aN fun b=>gd b (∃ aP:AV,(shift a 2 S fun aQ S=>aQ=aP∧S=S0)∧∃ aR:AV,(ld1 aP S fun aS S=>aS=aR∧S=S0)∧∃ aT:AV,(bin .neq 0 aR (.v (.int .i64 0)) S fun aU S=>aU=aT∧S=S0)∧∃ aV:AV,(aT=aV∧S=S0)∧∃ aW:AV,(aV=aW∧S=S0)∧onB aW fun b=>gd b (Q (.ret (.v (.bool false))) S) (loopV lv38_0 (vc Pg (c38.at_ [1,1,0,1,0,0]) (ms38.drop 1)) 53 (env38_0 x1 a (.v (.int .i64 0))) S (blockK 0 (seqK (vc Pg (c38.at_ [1,1,1]) (ms38.drop 1)) (bodyK Pg r38 Q))))) (∃ aX:AV,((.v (.bool false))=aX∧S=S0)∧∃ aY:AV,(aX=aY∧S=S0)∧onB aY fun b=>gd b (Q (.ret (.v (.bool false))) S) (loopV lv38_0 (vc Pg (c38.at_ [1,1,0,1,0,0]) (ms38.drop 1)) 53 (env38_0 x1 a (.v (.int .i64 0))) S (blockK 0 (seqK (vc Pg (c38.at_ [1,1,1]) (ms38.drop 1)) (bodyK Pg r38 Q))))))) (∃ aZ:AV,(shift a 2 S fun bA S=>bA=aZ∧S=S0)∧∃ bB:AV,(ld1 aZ S fun bC S=>bC=bB∧S=S0)∧∃ bD:AV,(bin .lss 0 bB (.v (.int .i64 0)) S fun bE S=>bE=bD∧S=S0)∧∃ bF:AV,(bD=bF∧S=S0)∧onB bF fun b=>gd b (∃ bG:AV,((.v (.bool true))=bG∧S=S0)∧onB bG fun b=>gd b (Q (.ret (.v (.bool false))) S) (loopV lv38_0 (vc Pg (c38.at_ [1,1,0,1,0,0]) (ms38.drop 1)) 53 (env38_0 x1 a (.v (.int .i64 0))) S (blockK 0 (seqK (vc Pg (c38.at_ [1,1,1]) (ms38.drop 1)) (bodyK Pg r38 Q))))) (∃ bH:AV,(shift a 0 S fun bI S=>bI=bH∧S=S0)∧∃ bJ:AV,(ld1 bH S fun bK S=>bK=bJ∧S=S0)∧∃ bL:AV,(bin .neq 0 bJ (.v (.int .i64 3)) S fun bM S=>bM=bL∧S=S0)∧onB bL fun b=>gd b (∃ bN:AV,(shift a 2 S fun bO S=>bO=bN∧S=S0)∧∃ bP:AV,(ld1 bN S fun bQ S=>bQ=bP∧S=S0)∧∃ bR:AV,(bin .neq 0 bP (.v (.int .i64 0)) S fun bS S=>bS=bR∧S=S0)∧∃ bT:AV,(bR=bT∧S=S0)∧∃ bU:AV,(bT=bU∧S=S0)∧onB bU fun b=>gd b (Q (.ret (.v (.bool false))) S) (loopV lv38_0 (vc Pg (c38.at_ [1,1,0,1,0,0]) (ms38.drop 1)) 53 (env38_0 x1 a (.v (.int .i64 0))) S (blockK 0 (seqK (vc Pg (c38.at_ [1,1,1]) (ms38.drop 1)) (bodyK Pg r38 Q))))) (∃ bV:AV,((.v (.bool false))=bV∧S=S0)∧∃ bW:AV,(bV=bW∧S=S0)∧onB bW fun b=>gd b (Q (.ret (.v (.bool false))) S) (loopV lv38_0 (vc Pg (c38.at_ [1,1,0,1,0,0]) (ms38.drop 1)) 53 (env38_0 x1 a (.v (.int .i64 0))) S (blockK 0 (seqK (vc Pg (c38.at_ [1,1,1]) (ms38.drop 1)) (bodyK Pg r38 Q)))))))))) S
theorem calls38{x0 x1:AV}{S:Store}{Q:PoT}(h:m38 x0 x1 S Q):ACalls Pg 38 [x0,x1] S Q:=
 calls_of_vc (fn:=Tryz.f38) (c:=c38) (n:=53) Tryz.func38 (by kernel_rfl) (by kernel_rfl) (by kernel_rfl) ms38 (Eq.mpr (by kernel_rfl) h)
def b38_0(y1 y2 y5:AV)(S:Store)(KE0:KeT)(Q:PoT):Prop:=
 shift y2 3 S fun a S=>ld1 a S fun c S=>lenS c S fun d S=>bin .lss 0 y5 d S fun e S=>onB e fun b=>gd b (shift y2 3 S fun f S=>ld1 f S fun g S=>ixS 35 4 g y5 S fun h S=>ldN 4 h S fun i S=>bin .sub 0 y1 (.v (.int .i64 1)) S fun k S=>callF Pg 38 [i,k] S Q fun l S=>un .not l S fun m S=>onB m fun b=>gd b (Q (.ret (.v (.bool false))) S) (bin .add 0 y5 (.v (.int .i64 1)) S fun n S=>KE0 53 (env38_0 y1 y2 n) S)) (Q (.ret (.v (.bool true))) S)
theorem b38_0_eq(y1 y2 y5:AV)(S:Store)(KE0:KeT)(Q:PoT):vc Pg (c38.at_ [1,1,0,1,0,0]) (ms38.drop 1) (mkE 53 lv38_0 (env38_0 y1 y2 y5)) S (thenK (fgK lv38_0 KE0) (blockK 0 (seqK (vc Pg (c38.at_ [1,1,1]) (ms38.drop 1)) (bodyK Pg r38 Q))))=b38_0 y1 y2 y5 S KE0 Q:=by kernel_rfl
theorem loop38_0{y1 y2:AV}{y50:AV}{S:Store}{Q:PoT}(I:AV→Store→Prop)(μ:AV→Store→Nat)(h0:I y50 S)
    (hr:∀(y5:AV) (S:Store),I y5 S→∀ KE0:KeT,(∀(y5':AV) (S':Store),I y5' S'→μ y5' S'<μ y5 S→KE0 53 (env38_0 y1 y2 y5') S')→b38_0 y1 y2 y5 S KE0 Q):
    loopV lv38_0 (vc Pg (c38.at_ [1,1,0,1,0,0]) (ms38.drop 1)) 53 (env38_0 y1 y2 y50) S (blockK 0 (seqK (vc Pg (c38.at_ [1,1,1]) (ms38.drop 1)) (bodyK Pg r38 Q))):=by
 refine⟨fun n e S=>n=53∧∃ y5:AV,e=(env38_0 y1 y2 y5)∧I y5 S,fun _ e S=>μ (e.getD 2 .j) S,?_,?_⟩
 ·exact⟨_,_,Wk.refl _ _,rfl,_,rfl,h0⟩
 ·rintro _ e S ⟨rfl,y5,rfl,hI⟩
  exact(b38_0_eq _ _ _ _ _ _).mpr (hr y5 S hI _ (fun y5' S' hI' hm=>⟨_,_,Wk.refl _ _,⟨rfl,_,rfl,hI'⟩,hm⟩))
end
theorem mayB_eq(k:Int)(n:ByteArray)(l:Int)(ks:List Fo)(d:Int):Fo.mayB (.mk k n l ks) d=(decide (0<d∧kidsN k=ks.length∧n=(⟨#[]⟩:ByteArray)∧(l=0∨0<l∧k=3)) && ks.all fun f=>f.mayB (d - 1)):=by
 rw[Fo.mayB_mk,←Bool.and_assoc,←Bool.and_assoc,←Bool.and_assoc]
 congr 1
 rw[←Bool.decide_and,←Bool.decide_and,←Bool.decide_and]
 exact decide_eq_decide.2 ⟨fun⟨⟨⟨h1,h2⟩,h3⟩,h4⟩=>⟨h1,h4.symm,h3,h2⟩,fun⟨h1,h4,h3,h2⟩=>⟨⟨⟨h1,h2⟩,h3⟩,h4.symm⟩⟩
theorem all_lt{α:Type}{l:List α}{g:α→Bool}(h:∀ j (h:j<l.length),g l[j]=true):l.all g=true:=List.all_eq_true.2 fun x hx=>by
 obtain⟨j,hj,rfl⟩:=List.getElem_of_mem hx
 exact h j hj
theorem all_no{α:Type}{l:List α}{g:α→Bool}{i:Nat}(hi:i<l.length)(h:g l[i]=false):l.all g=false:=List.all_eq_false.2 ⟨_,List.getElem_mem hi,by simp[h]⟩
theorem lt_step{α:Type}{l:List α}{p:α→Prop}{i:Nat}{hi:i<l.length}(hok:∀ j (h:j<l.length),j<i→p l[j])(h:p l[i]):∀ j (h:j<l.length),j<i+1→p l[j]:=fun j hj hj'=>by
 rcases Nat.lt_or_ge j i with h'|h'
 ·exact hok j hj h'
 ·have:j=i:=by omega
  subst this
  exact h
theorem ans38:∀(f:Fo),f.ok→∀ d,i64R d→Ans Pg 38 [f.av,aI d] (aB (f.mayB d)):=by
 intro f
 induction f using Fo.ind with
 |h k n l ks ih =>
  intro hok d hd S
  obtain⟨h1,h2,h3,h4,h5⟩:=hok.inv
  refine ACalls.ans_v (calls38 ?_)
  unfold m38 Fo.av
  rw[Fo.row_mk,mayB_eq]
  refine boxA_of rfl fun S1 k1 n1 o1=>?_
  have hk:=ans42 k
  have bad:∀{E:AEnd},¬ (0<d∧kidsN k=ks.length∧n=(⟨#[]⟩:ByteArray)∧(l=0∨0<l∧k=3))→E = .ret (aB false)→E = .ret (aB (decide (0<d∧kidsN k=ks.length∧n=(⟨#[]⟩:ByteArray)∧(l=0∨0<l∧k=3)) && ks.all fun f=>f.mayB (d - 1)))∧Keep S S1:=fun h1 h2=>⟨by rw[decide_eq_false h1,Bool.false_and];exact h2,k1⟩
  have main:0<d∧kidsN k=ks.length∧n=(⟨#[]⟩:ByteArray)∧(l=0∨0<l∧k=3)→loopV lv38_0 (vc Pg (c38.at_ [1,1,0,1,0,0]) (ms38.drop 1)) 53 (env38_0 (aI d) (.p S.n 0 0) (.v (.int .i64 0))) S1 (blockK 0 (seqK (vc Pg (c38.at_ [1,1,1]) (ms38.drop 1)) (bodyK Pg r38 fun r S'=>r = .ret (aB (decide (0<d∧kidsN k=ks.length∧n=(⟨#[]⟩:ByteArray)∧(l=0∨0<l∧k=3)) && ks.all fun f=>f.mayB (d - 1)))∧Keep S S'))):=fun good=>by
   rw[decide_eq_true good,Bool.true_and]
   refine loop38_0 (fun y S'=>S'=S1∧∃ i:Nat,y=aI i∧i≤ks.length∧∀ j (h:j<ks.length),j<i→ks[j].mayB (d - 1)=true)
    (fun y _=>ks.length - ((intA y).getD 0).toNat) ⟨rfl,0,rfl,Nat.zero_le _,fun j _ hj=>(Nat.not_lt_zero _ hj).elim⟩ ?_
   rintro _ S1 ⟨rfl,i,rfl,hi,hall⟩ KE hKE
   unfold b38_0
   rw[shift_p,ld1_p o1 rfl rfl,lenS_foL,bin_lss,onB_v]
   refine gd_of (fun hlt=>?_) (fun hge=>?_)
   ·have hlt:i<ks.length:=by simpa using hlt
    have hm:=List.getElem_mem hlt
    rw[shift_p,ld1_p o1 rfl rfl,ixS_foL hlt,ldN_q (Fo.row_len _),bin_sub (by have:=hd.2;omega) (by have:=hd.2;omega)]
    refine callF_ans (ih _ hm (h5 _ hm) (d - 1) ⟨by have:=hd.2;omega,by have:=hd.2;omega⟩) ?_
    rw[un_not,onB_v]
    refine gd_of (fun h=>⟨by rw[all_no hlt (by simpa using h)],k1⟩) (fun h=>?_)
    rw[bin_add (by omega) (by omega)]
    exact hKE _ _ ⟨rfl,i+1,rfl,hlt,lt_step (p:=fun f=>f.mayB (d - 1)=true) (hi:=hlt) hall (by simpa using h)⟩ (by simp[intA];omega)
   ·have hge:i=ks.length:=by simp at hge;omega
    subst hge
    exact⟨by rw[all_lt fun j hj=>hall j hj hj],k1⟩
  show ∃ q:AV,_
  cases e1:decide (d<1)with
  |true =>
   (repeat (first|with_reducible_and_instances (first|refine WJ ?_|refine W (gd_T e1) ?_|refine W (gd_F e1) ?_|refine W (gd_nT e1) ?_|refine W (gd_nF e1) ?_|refine W (J_ldq (by with_unfolding_all rfl)) ?_)))
   exact bad (fun h=>by have:=dT e1;omega) rfl
  |false =>
   cases e2:decide (kidsN k=ks.length)with
   |false =>
    (repeat (first|with_reducible_and_instances (first|refine WJ ?_|refine W (J_ldp o1 (by with_unfolding_all rfl) (by with_unfolding_all rfl)) ?_|refine W (J_lenfoL) ?_|refine W (gd_T e1) ?_|refine W (gd_F e1) ?_|refine W (gd_nT e1) ?_|refine W (gd_nF e1) ?_|refine W (gd_T e2) ?_|refine W (gd_F e2) ?_|refine W (gd_nT e2) ?_|refine W (gd_nF e2) ?_|refine W (J_ldq (by with_unfolding_all rfl)) ?_)|refine J_cA (hk) rfl rfl ?_|refine C_A (hk) rfl rfl ?_))
    exact bad (fun h=>dF e2 h.2.1) rfl
   |true =>
    cases e3:decide (n=(⟨#[]⟩:ByteArray))with
    |false =>
     (repeat (first|with_reducible_and_instances (first|refine WJ ?_|refine W (J_ldp o1 (by with_unfolding_all rfl) (by with_unfolding_all rfl)) ?_|refine W (J_lenfoL) ?_|refine W (J_neS) ?_|refine W (gd_T e1) ?_|refine W (gd_F e1) ?_|refine W (gd_nT e1) ?_|refine W (gd_nF e1) ?_|refine W (gd_T e2) ?_|refine W (gd_F e2) ?_|refine W (gd_nT e2) ?_|refine W (gd_nF e2) ?_|refine W (gd_T e3) ?_|refine W (gd_F e3) ?_|refine W (gd_nT e3) ?_|refine W (gd_nF e3) ?_|refine W (J_ldq (by with_unfolding_all rfl)) ?_)|refine J_cA (hk) rfl rfl ?_|refine C_A (hk) rfl rfl ?_))
     exact bad (fun h=>dF e3 h.2.2.1) rfl
    |true =>
     cases e4:decide (l<0)with
     |true =>
      (repeat (first|with_reducible_and_instances (first|refine WJ ?_|refine W (J_ldp o1 (by with_unfolding_all rfl) (by with_unfolding_all rfl)) ?_|refine W (J_lenfoL) ?_|refine W (J_neS) ?_|refine W (gd_T e1) ?_|refine W (gd_F e1) ?_|refine W (gd_nT e1) ?_|refine W (gd_nF e1) ?_|refine W (gd_T e2) ?_|refine W (gd_F e2) ?_|refine W (gd_nT e2) ?_|refine W (gd_nF e2) ?_|refine W (gd_T e3) ?_|refine W (gd_F e3) ?_|refine W (gd_nT e3) ?_|refine W (gd_nF e3) ?_|refine W (gd_T e4) ?_|refine W (gd_F e4) ?_|refine W (gd_nT e4) ?_|refine W (gd_nF e4) ?_|refine W (J_ldq (by with_unfolding_all rfl)) ?_)|refine J_cA (hk) rfl rfl ?_|refine C_A (hk) rfl rfl ?_))
      exact bad (fun h=>by have:=dT e4;have:=h.2.2.2;omega) rfl
     |false =>
      have e1':=dF e1
      have e2':=dT e2
      have e3':=dT e3
      have e4':=dF e4
      cases e5:decide (k=3)with
      |true =>
       (repeat (first|with_reducible_and_instances (first|refine WJ ?_|refine W (J_ldp o1 (by with_unfolding_all rfl) (by with_unfolding_all rfl)) ?_|refine W (J_lenfoL) ?_|refine W (J_neS) ?_|refine W (gd_T e1) ?_|refine W (gd_F e1) ?_|refine W (gd_nT e1) ?_|refine W (gd_nF e1) ?_|refine W (gd_T e2) ?_|refine W (gd_F e2) ?_|refine W (gd_nT e2) ?_|refine W (gd_nF e2) ?_|refine W (gd_T e3) ?_|refine W (gd_F e3) ?_|refine W (gd_nT e3) ?_|refine W (gd_nF e3) ?_|refine W (gd_T e4) ?_|refine W (gd_F e4) ?_|refine W (gd_nT e4) ?_|refine W (gd_nF e4) ?_|refine W (gd_T e5) ?_|refine W (gd_F e5) ?_|refine W (gd_nT e5) ?_|refine W (gd_nF e5) ?_|refine W (J_ldq (by with_unfolding_all rfl)) ?_)|refine J_cA (hk) rfl rfl ?_|refine C_A (hk) rfl rfl ?_))
       have e5':=dT e5
       exact main ⟨by omega,e2',e3',by omega⟩
      |false =>
       have e5':=dF e5
       cases e6:decide (l=0)with
       |true =>
        (repeat (first|with_reducible_and_instances (first|refine WJ ?_|refine W (J_ldp o1 (by with_unfolding_all rfl) (by with_unfolding_all rfl)) ?_|refine W (J_lenfoL) ?_|refine W (J_neS) ?_|refine W (gd_T e1) ?_|refine W (gd_F e1) ?_|refine W (gd_nT e1) ?_|refine W (gd_nF e1) ?_|refine W (gd_T e2) ?_|refine W (gd_F e2) ?_|refine W (gd_nT e2) ?_|refine W (gd_nF e2) ?_|refine W (gd_T e3) ?_|refine W (gd_F e3) ?_|refine W (gd_nT e3) ?_|refine W (gd_nF e3) ?_|refine W (gd_T e4) ?_|refine W (gd_F e4) ?_|refine W (gd_nT e4) ?_|refine W (gd_nF e4) ?_|refine W (gd_T e5) ?_|refine W (gd_F e5) ?_|refine W (gd_nT e5) ?_|refine W (gd_nF e5) ?_|refine W (gd_T e6) ?_|refine W (gd_F e6) ?_|refine W (gd_nT e6) ?_|refine W (gd_nF e6) ?_|refine W (J_ldq (by with_unfolding_all rfl)) ?_)|refine J_cA (hk) rfl rfl ?_|refine C_A (hk) rfl rfl ?_))
        exact main ⟨by omega,e2',e3',.inl (dT e6)⟩
       |false =>
        (repeat (first|with_reducible_and_instances (first|refine WJ ?_|refine W (J_ldp o1 (by with_unfolding_all rfl) (by with_unfolding_all rfl)) ?_|refine W (J_lenfoL) ?_|refine W (J_neS) ?_|refine W (gd_T e1) ?_|refine W (gd_F e1) ?_|refine W (gd_nT e1) ?_|refine W (gd_nF e1) ?_|refine W (gd_T e2) ?_|refine W (gd_F e2) ?_|refine W (gd_nT e2) ?_|refine W (gd_nF e2) ?_|refine W (gd_T e3) ?_|refine W (gd_F e3) ?_|refine W (gd_nT e3) ?_|refine W (gd_nF e3) ?_|refine W (gd_T e4) ?_|refine W (gd_F e4) ?_|refine W (gd_nT e4) ?_|refine W (gd_nF e4) ?_|refine W (gd_T e5) ?_|refine W (gd_F e5) ?_|refine W (gd_nT e5) ?_|refine W (gd_nF e5) ?_|refine W (gd_T e6) ?_|refine W (gd_F e6) ?_|refine W (gd_nT e6) ?_|refine W (gd_nF e6) ?_|refine W (J_ldq (by with_unfolding_all rfl)) ?_)|refine J_cA (hk) rfl rfl ?_|refine C_A (hk) rfl rfl ?_))
        exact bad (fun h=>by have:=dF e6;have:=h.2.2.2;omega) rfl
mutual
def Fo.nodes:Fo→Nat
 |.mk _ _ _ ks=>1+Fo.nodesL ks
def Fo.nodesL:List Fo→Nat
 |[]=>0
 |f :: fs=>Fo.nodes f+Fo.nodesL fs
end
theorem Fo.nodesL_app:∀(l r:List Fo),Fo.nodesL (l++r)=Fo.nodesL l+Fo.nodesL r
 |[],r=>by rw[Fo.nodesL];simp
 |f :: l,r=>by rw[List.cons_append,Fo.nodesL,Fo.nodesL,Fo.nodesL_app l r];omega
theorem nodesL_at{l:List Fo}{i:Nat}(h:i<l.length):Fo.nodesL (l.take (i+1))=Fo.nodesL (l.take i)+l[i].nodes∧Fo.nodesL (l.take i)+l[i].nodes≤Fo.nodesL l:=by
 have e:Fo.nodesL (l.take (i+1))=Fo.nodesL (l.take i)+l[i].nodes:=by
  rw[List.take_add_one,List.getElem?_eq_getElem h,Fo.nodesL_app]
  simp[Fo.nodesL]
 refine⟨e,?_⟩
 have:=Fo.nodesL_app (l.take (i+1)) (l.drop (i+1))
 rw[List.take_append_drop]at this
 omega
def rOk(k:Int)(n:ByteArray)(l:Int)(ks:List Fo)(d:Int):Bool:=
 decide (0<d) && (decide (kidsN k=ks.length) && (decide (l=0) && ((decide (k=3) == !decide (n=(⟨#[]⟩:ByteArray))) && (decide (n=(⟨#[]⟩:ByteArray)) || wordF n))))
mutual
def Fo.rightF:Fo→Int→Bool
 |.mk k n l ks,d=>(decide (0<d) && (decide (kidsN k=ks.length) && (decide (l=0) && ((decide (k=3) == !decide (n=(⟨#[]⟩:ByteArray))) && (decide (n=(⟨#[]⟩:ByteArray)) || wordF n))))) && Fo.rightFs ks (d - 1)
def Fo.rightFs:List Fo→Int→Bool
 |[],_=>true
 |f :: fs,d=>Fo.rightF f d && Fo.rightFs fs d
end
theorem Fo.rightFs_all:∀(l:List Fo) (d:Int),Fo.rightFs l d=l.all fun f=>f.rightF d
 |[],d=>by rw[Fo.rightFs];rfl
 |f :: fs,d=>by rw[Fo.rightFs,Fo.rightFs_all fs];rfl
theorem Fo.rightF_mk(k:Int)(n:ByteArray)(l:Int)(ks:List Fo)(d:Int):Fo.rightF (.mk k n l ks) d=(rOk k n l ks d && ks.all fun f=>f.rightF (d - 1)):=by rw[Fo.rightF,Fo.rightFs_all,rOk]
theorem ans97:∀(f:Fo),f.ok→f.nodes≤2000→∀ d,i64R d→Ans Pg 97 [f.av,aI d] (.t [aI (if f.rightF d=true then f.nodes else 0:Nat),aB (f.rightF d)]):=by
 intro f
 induction f using Fo.ind with
 |h k n l ks ih =>
  intro hok hnodes d hd S
  obtain⟨h1,h2,h3,h4,h5⟩:=hok.inv
  refine ACalls.tree (calls97 ?_)
  unfold m97 Fo.av
  rw[Fo.row_mk,Fo.rightF_mk]
  have hnd:(Fo.mk k n l ks).nodes=1+Fo.nodesL ks:=by rw[Fo.nodes]
  rw[hnd]at hnodes ⊢
  refine boxA_of rfl fun S1 k1 n1 o1=>?_
  have hk:=ans42 k
  have hw:=ans116 n h3
  have bad:∀{S':Store} {E:AEnd},Keep S S'→(rOk k n l ks d && ks.all fun f=>f.rightF (d - 1))=false→E = .ret (.t [.v (.int .i64 0),.v (.bool false)])→
      ∃ r,E = .ret r∧Keep S S'∧Cv (S'.frz (newer S.n)) S.n r (.t [aI (if(rOk k n l ks d && ks.all fun f=>f.rightF (d - 1))=true then 1+Fo.nodesL ks else 0:Nat),aB (rOk k n l ks d && ks.all fun f=>f.rightF (d - 1))]):=fun hk hb hE=>by
   rw[hb]
   exact⟨_,hE,hk,cv_t2 (.v _) (.v _)⟩
  have bad1:∀{E:AEnd},rOk k n l ks d=false→E = .ret (.t [.v (.int .i64 0),.v (.bool false)])→
      ∃ r,E = .ret r∧Keep S S1∧Cv (S1.frz (newer S.n)) S.n r (.t [aI (if(rOk k n l ks d && ks.all fun f=>f.rightF (d - 1))=true then 1+Fo.nodesL ks else 0:Nat),aB (rOk k n l ks d && ks.all fun f=>f.rightF (d - 1))]):=fun hb hE=>bad k1 (by rw[hb,Bool.false_and]) hE
  have main:rOk k n l ks d=true→loopV lv97_0 (vc Pg (c97.at_ [1,1,1,0,1,0,0]) (ms97.drop 1)) 74 (env97_0 (aI d) (.p S.n 0 0) (.v (.int .i64 1)) (.v (.int .i64 0))) S1 (blockK 0 (seqK (vc Pg (c97.at_ [1,1,1,1]) (ms97.drop 1)) (bodyK Pg r97 fun E S'=>∃ r,E = .ret r∧Keep S S'∧Cv (S'.frz (newer S.n)) S.n r (.t [aI (if(rOk k n l ks d && ks.all fun f=>f.rightF (d - 1))=true then 1+Fo.nodesL ks else 0:Nat),aB (rOk k n l ks d && ks.all fun f=>f.rightF (d - 1))])))):=fun good=>by
   refine loop97_0 (fun x y S'=>S'=S1∧∃ i:Nat,y=aI i∧i≤ks.length∧x=aI (1+Fo.nodesL (ks.take i):Nat)∧∀ j (h:j<ks.length),j<i→ks[j].rightF (d - 1)=true)
    (fun _ y _=>ks.length - ((intA y).getD 0).toNat) ⟨rfl,0,rfl,Nat.zero_le _,by simp[Fo.nodesL],fun j _ hj=>(Nat.not_lt_zero _ hj).elim⟩ ?_
   rintro _ _ _ ⟨rfl,i,rfl,hi,rfl,hall⟩ KE hKE
   unfold b97_0
   rw[shift_p,ld1_p (u:=foL ks) o1 rfl rfl,lenS_foL,bin_lss,onB_v]
   refine gd_of (fun hlt=>?_) (fun hge=>?_)
   ·have hlt:i<ks.length:=by have:=dT hlt;omega
    have hm:=List.getElem_mem hlt
    have hd0:0<d:=by
     rw[rOk,Bool.and_eq_true,decide_eq_true_eq]at good
     exact good.1
    obtain⟨s1,s2⟩:=nodesL_at hlt
    rw[shift_p,ld1_p (u:=foL ks) o1 rfl rfl,ixS_foL hlt,ldN_q (Fo.row_len _),bin_sub (by have:=hd.2;omega) (by have:=hd.2;omega)]
    refine callF_ans (ih _ hm (h5 _ hm) (by omega) (d - 1) ⟨by have:=hd.2;omega,by have:=hd.2;omega⟩) ?_
    rw[extr0,extr1]
    have hle:(if ks[i].rightF (d - 1)=true then ks[i].nodes else 0:Nat)≤ks[i].nodes:=by split<;>omega
    rw[bin_add (by omega) (by omega),un_not,onB_v]
    refine gd_of (fun h=>bad k1 (by rw[all_no hlt (by simpa using h),Bool.and_false]) rfl) (fun h=>?_)
    have h:ks[i].rightF (d - 1)=true:=by simpa using h
    rw[if_pos h,bin_gtr,onB_v]
    refine gd_of (fun h2=>by have:=dT h2;omega) (fun _=>?_)
    rw[bin_add (by omega) (by omega)]
    refine hKE _ _ _ ⟨rfl,i+1,rfl,hlt,?_,lt_step (p:=fun f=>f.rightF (d - 1)=true) (hi:=hlt) hall h⟩ (by simp[intA];omega)
    rw[s1]
    congr 3
    omega
   ·have hge:i=ks.length:=by have:=dF hge;omega
    subst hge
    rw[good,all_lt fun j hj=>hall j hj hj,List.take_length]
    exact⟨_,rfl,k1,cv_t2 (.v _) (.v _)⟩
  have nk:decide (n=(⟨#[]⟩:ByteArray))=true→wordF n=false:=fun h=>by rw[dT h];decide
  show ∃ q:AV,_
  cases e1:decide (d<1)with
  |true =>
   (repeat (first|with_reducible_and_instances (first|refine WJ ?_|refine W (gd_T e1) ?_|refine W (gd_F e1) ?_|refine W (gd_nT e1) ?_|refine W (gd_nF e1) ?_|refine W (J_ldq (by with_unfolding_all rfl)) ?_)))
   exact bad1 (by rw[rOk,decide_eq_false (by have:=dT e1;omega),Bool.false_and]) rfl
  |false =>
   have d1:decide (0<d)=true:=decide_eq_true (by have:=dF e1;omega)
   cases e2:decide (kidsN k=ks.length)with
   |false =>
    (repeat (first|with_reducible_and_instances (first|refine WJ ?_|refine W (J_ldp o1 (by with_unfolding_all rfl) (by with_unfolding_all rfl)) ?_|refine W (J_lenfoL) ?_|refine W (gd_T e1) ?_|refine W (gd_F e1) ?_|refine W (gd_nT e1) ?_|refine W (gd_nF e1) ?_|refine W (gd_T e2) ?_|refine W (gd_F e2) ?_|refine W (gd_nT e2) ?_|refine W (gd_nF e2) ?_|refine W (J_ldq (by with_unfolding_all rfl)) ?_)|refine J_cA (hk) rfl rfl ?_|refine C_A (hk) rfl rfl ?_))
    exact bad1 (by rw[rOk,e2,Bool.false_and,Bool.and_false]) rfl
   |true =>
    cases e3:decide (l=0)with
    |false =>
     (repeat (first|with_reducible_and_instances (first|refine WJ ?_|refine W (J_ldp o1 (by with_unfolding_all rfl) (by with_unfolding_all rfl)) ?_|refine W (J_lenfoL) ?_|refine W (gd_T e1) ?_|refine W (gd_F e1) ?_|refine W (gd_nT e1) ?_|refine W (gd_nF e1) ?_|refine W (gd_T e2) ?_|refine W (gd_F e2) ?_|refine W (gd_nT e2) ?_|refine W (gd_nF e2) ?_|refine W (gd_T e3) ?_|refine W (gd_F e3) ?_|refine W (gd_nT e3) ?_|refine W (gd_nF e3) ?_|refine W (J_ldq (by with_unfolding_all rfl)) ?_)|refine J_cA (hk) rfl rfl ?_|refine C_A (hk) rfl rfl ?_))
     exact bad1 (by rw[rOk,e3,Bool.false_and,Bool.and_false,Bool.and_false]) rfl
    |true =>
     cases e4:(decide (k=3) != !decide (n=(⟨#[]⟩:ByteArray)))with
     |true =>
      (repeat (first|with_reducible_and_instances (first|refine WJ ?_|refine W (J_ldp o1 (by with_unfolding_all rfl) (by with_unfolding_all rfl)) ?_|refine W (J_lenfoL) ?_|refine W (J_neS) ?_|refine W (gd_T e1) ?_|refine W (gd_F e1) ?_|refine W (gd_nT e1) ?_|refine W (gd_nF e1) ?_|refine W (gd_T e2) ?_|refine W (gd_F e2) ?_|refine W (gd_nT e2) ?_|refine W (gd_nF e2) ?_|refine W (gd_T e3) ?_|refine W (gd_F e3) ?_|refine W (gd_nT e3) ?_|refine W (gd_nF e3) ?_|refine W (gd_T e4) ?_|refine W (gd_F e4) ?_|refine W (gd_nT e4) ?_|refine W (gd_nF e4) ?_|refine W (J_ldq (by with_unfolding_all rfl)) ?_)|refine J_cA (hk) rfl rfl ?_|refine C_A (hk) rfl rfl ?_))
      refine bad1 ?_ rfl
      rw[rOk,show(decide (k=3) == !decide (n=(⟨#[]⟩:ByteArray)))=false by simpa[bne]using e4,Bool.false_and,Bool.and_false,Bool.and_false,Bool.and_false]
     |false =>
      have e4':(decide (k=3) == !decide (n=(⟨#[]⟩:ByteArray)))=true:=by simpa[bne]using e4
      cases e5:decide (n=(⟨#[]⟩:ByteArray))with
      |true =>
       (repeat (first|with_reducible_and_instances (first|refine WJ ?_|refine W (J_ldp o1 (by with_unfolding_all rfl) (by with_unfolding_all rfl)) ?_|refine W (J_lenfoL) ?_|refine W (J_neS) ?_|refine W (gd_T e1) ?_|refine W (gd_F e1) ?_|refine W (gd_nT e1) ?_|refine W (gd_nF e1) ?_|refine W (gd_T e2) ?_|refine W (gd_F e2) ?_|refine W (gd_nT e2) ?_|refine W (gd_nF e2) ?_|refine W (gd_T e3) ?_|refine W (gd_F e3) ?_|refine W (gd_nT e3) ?_|refine W (gd_nF e3) ?_|refine W (gd_T e4) ?_|refine W (gd_F e4) ?_|refine W (gd_nT e4) ?_|refine W (gd_nF e4) ?_|refine W (gd_T e5) ?_|refine W (gd_F e5) ?_|refine W (gd_nT e5) ?_|refine W (gd_nF e5) ?_|refine W (J_ldq (by with_unfolding_all rfl)) ?_)|refine J_cA (hk) rfl rfl ?_|refine C_A (hk) rfl rfl ?_))
       exact main (by rw[rOk,d1,e2,e3,e4',e5];rfl)
      |false =>
       cases e6:wordF n with
       |true =>
        (repeat (first|with_reducible_and_instances (first|refine WJ ?_|refine W (J_ldp o1 (by with_unfolding_all rfl) (by with_unfolding_all rfl)) ?_|refine W (J_lenfoL) ?_|refine W (J_neS) ?_|refine W (gd_T e1) ?_|refine W (gd_F e1) ?_|refine W (gd_nT e1) ?_|refine W (gd_nF e1) ?_|refine W (gd_T e2) ?_|refine W (gd_F e2) ?_|refine W (gd_nT e2) ?_|refine W (gd_nF e2) ?_|refine W (gd_T e3) ?_|refine W (gd_F e3) ?_|refine W (gd_nT e3) ?_|refine W (gd_nF e3) ?_|refine W (gd_T e4) ?_|refine W (gd_F e4) ?_|refine W (gd_nT e4) ?_|refine W (gd_nF e4) ?_|refine W (gd_T e5) ?_|refine W (gd_F e5) ?_|refine W (gd_nT e5) ?_|refine W (gd_nF e5) ?_|refine W (gd_T e6) ?_|refine W (gd_F e6) ?_|refine W (gd_nT e6) ?_|refine W (gd_nF e6) ?_|refine W (J_ldq (by with_unfolding_all rfl)) ?_)|refine J_cA (hk) rfl rfl ?_|refine C_A (hk) rfl rfl ?_|refine J_cA (hw) rfl rfl ?_|refine C_A (hw) rfl rfl ?_))
        exact main (by rw[rOk,d1,e2,e3,e4',e5,e6];rfl)
       |false =>
        (repeat (first|with_reducible_and_instances (first|refine WJ ?_|refine W (J_ldp o1 (by with_unfolding_all rfl) (by with_unfolding_all rfl)) ?_|refine W (J_lenfoL) ?_|refine W (J_neS) ?_|refine W (gd_T e1) ?_|refine W (gd_F e1) ?_|refine W (gd_nT e1) ?_|refine W (gd_nF e1) ?_|refine W (gd_T e2) ?_|refine W (gd_F e2) ?_|refine W (gd_nT e2) ?_|refine W (gd_nF e2) ?_|refine W (gd_T e3) ?_|refine W (gd_F e3) ?_|refine W (gd_nT e3) ?_|refine W (gd_nF e3) ?_|refine W (gd_T e4) ?_|refine W (gd_F e4) ?_|refine W (gd_nT e4) ?_|refine W (gd_nF e4) ?_|refine W (gd_T e5) ?_|refine W (gd_F e5) ?_|refine W (gd_nT e5) ?_|refine W (gd_nF e5) ?_|refine W (gd_T e6) ?_|refine W (gd_F e6) ?_|refine W (gd_nT e6) ?_|refine W (gd_nF e6) ?_|refine W (J_ldq (by with_unfolding_all rfl)) ?_)|refine J_cA (hk) rfl rfl ?_|refine C_A (hk) rfl rfl ?_|refine J_cA (hw) rfl rfl ?_|refine C_A (hw) rfl rfl ?_))
        exact bad1 (by rw[rOk,e5,e6];simp) rfl
def rightN(f:Fo):Bool:=f.rightF 60
theorem ans48{f:Fo}(hok:f.ok)(hn:f.nodes≤2000):Ans Pg 48 [f.av] (aB (rightN f)):=by
 intro S
 refine ACalls.ans_v (calls48 ?_)
 unfold m48 Fo.av
 refine boxA_of (Fo.row_len f) fun S1 k1 n1 o1=>?_
 rw[ldN_p (n:=4) o1 (Fo.row_len f)]
 refine callF_ans (ans97 f hok hn 60 ⟨by decide,by decide⟩) ?_
 rw[extr0,extr1]
 exact⟨rfl,k1⟩
def shapesE:List (Key × AV):=[(.i 1,.a [aI 0,.v (.string { data:=#[102,97,108,115,101] }),.v (.string ByteArray.empty),.v (.string ByteArray.empty)]),
 (.i 2,.a [aI 0,.v (.string { data:=#[116,114,117,101] }),.v (.string ByteArray.empty),.v (.string ByteArray.empty)]),
 (.i 4,.a [aI 1,.v (.string { data:=#[33] }),.v (.string ByteArray.empty),.v (.string ByteArray.empty)]),
 (.i 5,.a [aI 2,.v (.string ByteArray.empty),.v (.string { data:=#[32,38,32] }),.v (.string ByteArray.empty)]),
 (.i 6,.a [aI 2,.v (.string ByteArray.empty),.v (.string { data:=#[32,124,32] }),.v (.string ByteArray.empty)]),
 (.i 7,.a [aI 2,.v (.string ByteArray.empty),.v (.string { data:=#[32,45,62,32] }),.v (.string ByteArray.empty)]),
 (.i 8,.a [aI 2,.v (.string ByteArray.empty),.v (.string { data:=#[32,60,45,62,32] }),.v (.string ByteArray.empty)]),
 (.i 9,.a [aI 1,.v (.string { data:=#[69,88,32] }),.v (.string ByteArray.empty),.v (.string ByteArray.empty)]),
 (.i 10,.a [aI 1,.v (.string { data:=#[65,88,32] }),.v (.string ByteArray.empty),.v (.string ByteArray.empty)]),
 (.i 11,.a [aI 1,.v (.string { data:=#[69,70,32] }),.v (.string ByteArray.empty),.v (.string ByteArray.empty)]),
 (.i 12,.a [aI 1,.v (.string { data:=#[65,70,32] }),.v (.string ByteArray.empty),.v (.string ByteArray.empty)]),
 (.i 13,.a [aI 1,.v (.string { data:=#[69,71,32] }),.v (.string ByteArray.empty),.v (.string ByteArray.empty)]),
 (.i 14,.a [aI 1,.v (.string { data:=#[65,71,32] }),.v (.string ByteArray.empty),.v (.string ByteArray.empty)]),
 (.i 15,.a [aI 2,.v (.string { data:=#[69,32,91] }),.v (.string { data:=#[32,85,32] }),.v (.string { data:=#[93] })]),
 (.i 16,.a [aI 2,.v (.string { data:=#[65,32,91] }),.v (.string { data:=#[32,85,32] }),.v (.string { data:=#[93] })]),
 (.i 17,.a [aI 2,.v (.string { data:=#[69,32,91] }),.v (.string { data:=#[32,82,32] }),.v (.string { data:=#[93] })]),
 (.i 18,.a [aI 2,.v (.string { data:=#[65,32,91] }),.v (.string { data:=#[32,82,32] }),.v (.string { data:=#[93] })])]
theorem ans114:Ans Pg 114 [] (.mt (.i .i64) shapesE):=by
 intro S
 refine ACalls.tree (calls114 ?_)
 unfold m114 mkM
 show bld _ _ _ _ _
 rw[bld_of (cs:=[aI 0,.v (.string { data:=#[102,97,108,115,101] }),.v (.string ByteArray.empty),.v (.string ByteArray.empty)]) rfl,updM_m (new_self _) (keyI _ _)]
 rw[bld_of (cs:=[aI 0,.v (.string { data:=#[116,114,117,101] }),.v (.string ByteArray.empty),.v (.string ByteArray.empty)]) rfl,updM_m (upd_self _ _) (keyI _ _),upd_upd]
 rw[bld_of (cs:=[aI 1,.v (.string { data:=#[33] }),.v (.string ByteArray.empty),.v (.string ByteArray.empty)]) rfl,updM_m (upd_self _ _) (keyI _ _),upd_upd]
 rw[bld_of (cs:=[aI 2,.v (.string ByteArray.empty),.v (.string { data:=#[32,38,32] }),.v (.string ByteArray.empty)]) rfl,updM_m (upd_self _ _) (keyI _ _),upd_upd]
 rw[bld_of (cs:=[aI 2,.v (.string ByteArray.empty),.v (.string { data:=#[32,124,32] }),.v (.string ByteArray.empty)]) rfl,updM_m (upd_self _ _) (keyI _ _),upd_upd]
 rw[bld_of (cs:=[aI 2,.v (.string ByteArray.empty),.v (.string { data:=#[32,45,62,32] }),.v (.string ByteArray.empty)]) rfl,updM_m (upd_self _ _) (keyI _ _),upd_upd]
 rw[bld_of (cs:=[aI 2,.v (.string ByteArray.empty),.v (.string { data:=#[32,60,45,62,32] }),.v (.string ByteArray.empty)]) rfl,updM_m (upd_self _ _) (keyI _ _),upd_upd]
 rw[bld_of (cs:=[aI 1,.v (.string { data:=#[69,88,32] }),.v (.string ByteArray.empty),.v (.string ByteArray.empty)]) rfl,updM_m (upd_self _ _) (keyI _ _),upd_upd]
 rw[bld_of (cs:=[aI 1,.v (.string { data:=#[65,88,32] }),.v (.string ByteArray.empty),.v (.string ByteArray.empty)]) rfl,updM_m (upd_self _ _) (keyI _ _),upd_upd]
 rw[bld_of (cs:=[aI 1,.v (.string { data:=#[69,70,32] }),.v (.string ByteArray.empty),.v (.string ByteArray.empty)]) rfl,updM_m (upd_self _ _) (keyI _ _),upd_upd]
 rw[bld_of (cs:=[aI 1,.v (.string { data:=#[65,70,32] }),.v (.string ByteArray.empty),.v (.string ByteArray.empty)]) rfl,updM_m (upd_self _ _) (keyI _ _),upd_upd]
 rw[bld_of (cs:=[aI 1,.v (.string { data:=#[69,71,32] }),.v (.string ByteArray.empty),.v (.string ByteArray.empty)]) rfl,updM_m (upd_self _ _) (keyI _ _),upd_upd]
 rw[bld_of (cs:=[aI 1,.v (.string { data:=#[65,71,32] }),.v (.string ByteArray.empty),.v (.string ByteArray.empty)]) rfl,updM_m (upd_self _ _) (keyI _ _),upd_upd]
 rw[bld_of (cs:=[aI 2,.v (.string { data:=#[69,32,91] }),.v (.string { data:=#[32,85,32] }),.v (.string { data:=#[93] })]) rfl,updM_m (upd_self _ _) (keyI _ _),upd_upd]
 rw[bld_of (cs:=[aI 2,.v (.string { data:=#[65,32,91] }),.v (.string { data:=#[32,85,32] }),.v (.string { data:=#[93] })]) rfl,updM_m (upd_self _ _) (keyI _ _),upd_upd]
 rw[bld_of (cs:=[aI 2,.v (.string { data:=#[69,32,91] }),.v (.string { data:=#[32,82,32] }),.v (.string { data:=#[93] })]) rfl,updM_m (upd_self _ _) (keyI _ _),upd_upd]
 rw[bld_of (cs:=[aI 2,.v (.string { data:=#[65,32,91] }),.v (.string { data:=#[32,82,32] }),.v (.string { data:=#[93] })]) rfl,updM_m (upd_self _ _) (keyI _ _),upd_upd]
 refine⟨_,rfl,((Keep.refl S).new _).upd (Nat.le_refl _) _,.m' S.n (.i .i64) shapesE shapesE ?_ rfl (fun i e e2 h h2=>by rw[h]at h2;cases h2;rfl) (fun i e e2 h h2=>?_)⟩
 ·rw[frz_ofM (upd_self _ _)]
  have:newer S.n S.n=true:=by simp[newer]
  rw[this]
  rfl
 ·rw[h]at h2;cases h2
  have hi:i<17:=(List.getElem?_eq_some_iff.1 h).1
  have four:∀{a b c d:Value} {T:Store} {m:Nat},Cv T m (.a [.v a,.v b,.v c,.v d]) (.a [.v a,.v b,.v c,.v d]):=fun{a b c d T m}=>.a _ _ rfl fun k u u2 h h2=>by
   rw[h]at h2;cases h2
   match k with
   |0|1|2|3=>cases h;exact .v _
   |k+4=>simp at h
  match i,hi with
  |0,_|1,_|2,_|3,_|4,_|5,_|6,_|7,_|8,_|9,_|10,_|11,_|12,_|13,_|14,_|15,_|16,_=>cases h;exact four
theorem shapes_at(k:Int):(∃ a b c:Value,lkp shapesE (.i k)=some (.a [aI (kidsN k),.v a,.v b,.v c])∧decide (k=3)=false)∨(lkp shapesE (.i k)=none∧(k=3∨kidsN k = -1)):=by
 by_cases h1:k=1
 ·subst h1;exact .inl ⟨_,_,_,rfl,rfl⟩
 by_cases h2:k=2
 ·subst h2;exact .inl ⟨_,_,_,rfl,rfl⟩
 by_cases h4:k=4
 ·subst h4;exact .inl ⟨_,_,_,rfl,rfl⟩
 by_cases h5:k=5
 ·subst h5;exact .inl ⟨_,_,_,rfl,rfl⟩
 by_cases h6:k=6
 ·subst h6;exact .inl ⟨_,_,_,rfl,rfl⟩
 by_cases h7:k=7
 ·subst h7;exact .inl ⟨_,_,_,rfl,rfl⟩
 by_cases h8:k=8
 ·subst h8;exact .inl ⟨_,_,_,rfl,rfl⟩
 by_cases h9:k=9
 ·subst h9;exact .inl ⟨_,_,_,rfl,rfl⟩
 by_cases h10:k=10
 ·subst h10;exact .inl ⟨_,_,_,rfl,rfl⟩
 by_cases h11:k=11
 ·subst h11;exact .inl ⟨_,_,_,rfl,rfl⟩
 by_cases h12:k=12
 ·subst h12;exact .inl ⟨_,_,_,rfl,rfl⟩
 by_cases h13:k=13
 ·subst h13;exact .inl ⟨_,_,_,rfl,rfl⟩
 by_cases h14:k=14
 ·subst h14;exact .inl ⟨_,_,_,rfl,rfl⟩
 by_cases h15:k=15
 ·subst h15;exact .inl ⟨_,_,_,rfl,rfl⟩
 by_cases h16:k=16
 ·subst h16;exact .inl ⟨_,_,_,rfl,rfl⟩
 by_cases h17:k=17
 ·subst h17;exact .inl ⟨_,_,_,rfl,rfl⟩
 by_cases h18:k=18
 ·subst h18;exact .inl ⟨_,_,_,rfl,rfl⟩
 refine .inr ⟨?_,?_⟩
 ·have:kix shapesE (.i k)=none:=by
    rw[kix_none]
    simp[shapesE,h1,h2,h4,h5,h6,h7,h8,h9,h10,h11,h12,h13,h14,h15,h16,h17,h18]
  simp[lkp,this]
 ·by_cases h3:k=3
  ·exact .inl h3
  ·right
   unfold kidsN
   rw[if_pos (by omega)]
theorem ck_st{S:Store}{id t:Nat}{m:Int}{mp:AV}(h:S.obj id=some (.cells t [[mp,aI m]] true)){u:Int}{K:AV→Store→Prop}
    (k:∀ S',S'.n=S.n→S'.obj id=some (.cells t [[mp,aI u]] true)→(∀ x,x≠id→S'.obj x=S.obj x)→K .j S'):stN 1 (.p id 0 1) (aI u) S K:=stF_of (j:=1) h (by simp) rfl k
def CkQ(S:Store)(id t:Nat)(m:Nat)(f:Fo)(d:Int)(b:AV)(S':Store):Prop:=
 b=aB (f.rightF d)∧S.n≤S'.n∧(∀ i,i<S.n→i≠id→S'.obj i=S.obj i)∧∃ m':Nat,S'.obj id=some (.cells t [[.mt (.i .i64) shapesE,aI m']] true)∧m+1≤m'∧m'≤m+f.nodes∧(f.rightF d=true→m'=m+f.nodes)
theorem run115:∀(f:Fo),f.ok→∀(d:Int),i64R d→∀(S:Store) (id t m:Nat),id<S.n→S.obj id=some (.cells t [[.mt (.i .i64) shapesE,aI m]] true)→m+f.nodes≤2000→
    ACalls Pg 115 [.p id 0 0,f.av,aI d] S (fun e S'=>∃ b,e = .ret b∧CkQ S id t m f d b S'):=by
 intro f
 induction f using Fo.ind with
 |h k n l ks ih =>
  intro hok d hd S id t m hid ho hm
  obtain⟨h1,h2,h3,h4,h5⟩:=hok.inv
  have hnd:(Fo.mk k n l ks).nodes=1+Fo.nodesL ks:=by rw[Fo.nodes]
  rw[hnd]at hm
  refine calls115 ?_
  unfold m115 Fo.av
  rw[Fo.row_mk]
  refine boxA_of rfl fun S1 k1 n1 o1=>?_
  have p1:=(k1.2 _ hid).trans ho
  rw[nilChk_p,shift_p,ld1_p (u:=aI m) p1 rfl rfl,bin_add (by omega) (by omega),nilChk_p,shift_p]
  refine ck_st (u:=(m:Int)+1) p1 fun S2 n2 q2 f2=>?_
  have o2:=(f2 S.n (by omega)).trans o1
  have old:∀ i,i<S.n→i≠id→S2.obj i=S.obj i:=fun i hi hne=>(f2 i hne).trans (k1.2 i hi)
  have q2':S2.obj id=some (.cells t [[.mt (.i .i64) shapesE,aI (m+1:Nat)]] true):=by rw[q2];rfl
  have bad:∀{E:AEnd},Fo.rightF (.mk k n l ks) d=false→E = .ret (.v (.bool false))→∃ b,E = .ret b∧CkQ S id t m (.mk k n l ks) d b S2:=fun hb hE =>
   ⟨_,hE,by rw[hb],by omega,old,m+1,q2',Nat.le_refl _,by rw[hnd];omega,fun h=>by rw[hb]at h;cases h⟩
  have bad1:∀{E:AEnd},rOk k n l ks d=false→E = .ret (.v (.bool false))→∃ b,E = .ret b∧CkQ S id t m (.mk k n l ks) d b S2:=fun hb hE=>bad (by rw[Fo.rightF_mk,hb,Bool.false_and]) hE
  rw[nilChk_p,shift_p,ld1_p (u:=aI ((m:Int)+1)) q2 rfl rfl,bin_gtr,onB_v]
  refine gd_of (fun h=>by have:=dT h;omega) (fun _=>?_)
  rw[bin_lss,onB_v]
  refine gd_of (fun h=>bad1 (by rw[rOk,decide_eq_false (by have:=dT h;omega),Bool.false_and]) rfl) (fun hd1=>?_)
  have d1:decide (0<d)=true:=decide_eq_true (by have:=dF hd1;omega)
  rw[shift_p,ld1_p (u:=aI l) o2 rfl rfl,bin_neq,onB_v]
  refine gd_of (fun h=>bad1 (by rw[rOk,show decide (l=0)=false by simpa using h,Bool.false_and,Bool.and_false,Bool.and_false]) rfl) (fun hl=>?_)
  have l1:decide (l=0)=true:=by simpa using hl
  rw[shift_p,ld1_p (u:=aI k) o2 rfl rfl,bin_eql,onB_v]
  refine gd_of (fun hk=>?_) (fun hk=>?_)
  ·
   have hk3:=dT hk
   rw[shift_p,ld1_p (u:=.v (.string n)) o2 rfl rfl]
   refine callF_ans (ans124 n h3) ?_
   have hw0:wordF n=true→decide (n=(⟨#[]⟩:ByteArray))=false:=fun h=>decide_eq_false fun e=>by rw[e]at h;exact absurd h (by decide)
   have kd:kidsN k=0:=by rw[hk3];rfl
   rw[onB_v]
   refine gd_of (fun hw=>?_) (fun hw=>?_)
   ·rw[shift_p,ld1_p (u:=foL ks) o2 rfl rfl,lenS_foL,bin_eql]
    have hr:Fo.rightF (.mk k n l ks) d=decide ((ks.length:Int)=0):=by
     rw[Fo.rightF_mk,rOk,d1,l1,hk,hw0 hw,hw,kd]
     cases e:decide ((ks.length:Int)=0)with
     |true =>
      have:ks = []:=List.length_eq_zero_iff.1 (by have:=dT e;omega)
      subst this
      rfl
     |false =>
      rw[show decide ((0:Int)=ks.length)=false from decide_eq_false fun h=>dF e h.symm]
      simp
    refine⟨_,rfl,by rw[hr],by omega,old,m+1,q2',Nat.le_refl _,by rw[hnd];omega,fun h=>?_⟩
    rw[hr]at h
    have:ks = []:=List.length_eq_zero_iff.1 (by have:=dT h;omega)
    subst this
    rw[hnd,Fo.nodesL]
   ·refine bad1 ?_ rfl
    rw[rOk,hk,hw]
    cases decide (n=(⟨#[]⟩:ByteArray))<;>simp
  have hk3:=dF hk
  have key:∀{T:Store},Keep S2 T→T.obj id=some (.cells t [[.mt (.i .i64) shapesE,aI ((m:Int)+1)]] true)∧T.obj S.n=some (.cells 35 [[aI k,.v (.string n),aI l,foL ks]] true):=fun hT=>⟨(hT.2 _ (by omega)).trans q2,(hT.2 _ (by omega)).trans o2⟩
  refine⟨_,fun T hT=>by rw[nilChk_p];exact⟨rfl,rfl⟩,_,fun T hT=>by rw[shift_p];exact⟨rfl,rfl⟩,.mt (.i .i64) shapesE,fun T hT=>by rw[ld1_p (key hT).1 rfl rfl];exact⟨rfl,rfl⟩,_,fun T hT=>by rw[shift_p];exact⟨rfl,rfl⟩,aI k,fun T hT=>by rw[ld1_p (key hT).2 rfl rfl];exact⟨rfl,rfl⟩,_,fun T hT=>by rw[lkM_mt (keyI _ _)];exact⟨rfl,rfl⟩,?_⟩
  have nz:∀{q:AV},q=lkV (.a [.v (.int .i64 0),.v (.string ByteArray.empty),.v (.string ByteArray.empty),.v (.string ByteArray.empty)]) true (lkp shapesE (.i k))→q = .t [(lkp shapesE (.i k)).getD (.a [.v (.int .i64 0),.v (.string ByteArray.empty),.v (.string ByteArray.empty),.v (.string ByteArray.empty)]),.v (.bool (lkp shapesE (.i k)).isSome)]:=fun h=>h
  rw[nz rfl]
  refine⟨_,fun T hT=>by rw[extr0];exact⟨rfl,rfl⟩,_,fun T hT=>by rw[extr1];exact⟨rfl,rfl⟩,?_⟩
  obtain⟨v1,v2,v3,v4,hv4,hsome⟩:∃(a:Int) (b c e:Value),(lkp shapesE (.i k)).getD (.a [.v (.int .i64 0),.v (.string ByteArray.empty),.v (.string ByteArray.empty),.v (.string ByteArray.empty)]) = .a [aI a,.v b,.v c,.v e]∧((lkp shapesE (.i k)).isSome=true→a=kidsN k):=by
   rcases shapes_at k with⟨a,b,c,e,_⟩|⟨e,_⟩
   ·rw[e];exact⟨kidsN k,a,b,c,rfl,fun _=>rfl⟩
   ·rw[e];exact⟨0,_,_,_,rfl,fun h=>by cases h⟩
  rw[hv4]
  refine boxA_of rfl fun S3 k3 n3 o3=>?_
  refine⟨fun T hT=>by rw[extr1];exact⟨rfl,rfl⟩,?_⟩
  refine stA_of (cs':=[aI v1,.v v2,.v v3,.v v4]) o3 rfl rfl fun S4 n4 o4 f4=>?_
  refine⟨fun T hT=>by rw[extr1];exact⟨rfl,rfl⟩,?_⟩
  have q4:=(f4 id (by omega)).trans ((k3.2 id (by omega)).trans q2')
  have r4:=(f4 S.n (by omega)).trans ((k3.2 S.n (by omega)).trans o2)
  have old4:∀ i,i<S.n→i≠id→S4.obj i=S.obj i:=fun i hi hne=>(f4 i (by omega)).trans ((k3.2 i (by omega)).trans (old i hi hne))
  have bad2:∀{E:AEnd},rOk k n l ks d=false→E = .ret (.v (.bool false))→∃ b,E = .ret b∧CkQ S id t m (.mk k n l ks) d b S4:=fun hb hE=>by
   have hb':Fo.rightF (.mk k n l ks) d=false:=by rw[Fo.rightF_mk,hb,Bool.false_and]
   exact⟨_,hE,by rw[hb'],by omega,old4,m+1,q4,Nat.le_refl _,by rw[hnd];omega,fun h=>by rw[hb']at h;cases h⟩
  rw[un_not,onB_v]
  refine gd_of (fun h=>?_) (fun h=>?_)
  ·refine bad2 ?_ rfl
   have hno:lkp shapesE (.i k)=none:=by
    cases e:lkp shapesE (.i k)with
    |none=>rfl
    |some v=>rw[e]at h;simp at h
   have hkn:kidsN k = -1:=by
    rcases shapes_at k with⟨a,b,c,e,_⟩|⟨e,h'|h'⟩
    ·rw[e]at hno;cases hno
    ·exact absurd h' hk3
    ·exact h'
   rw[rOk,hkn,decide_eq_false (by omega:¬ (-1:Int)=ks.length),Bool.false_and,Bool.and_false]
  have hs:v1=kidsN k:=hsome (by simpa using h)
  rw[shift_p,ld1_p (u:=.v (.string n)) r4 rfl rfl,bin_neqS,onB_v]
  refine gd_of (fun h=>?_) (fun h=>?_)
  ·refine bad2 ?_ rfl
   have:decide (n=(⟨#[]⟩:ByteArray))=false:=by simpa using h
   rw[rOk,this,hk]
   simp
  have hn1:decide (n=(⟨#[]⟩:ByteArray))=true:=by simpa using h
  rw[shift_p,ld1_p (u:=foL ks) r4 rfl rfl,lenS_foL,shift_p,ld1_p (u:=aI v1) o4 rfl rfl,bin_neq,onB_v,hs]
  refine gd_of (fun h=>?_) (fun h=>?_)
  ·refine bad2 ?_ rfl
   have h:¬ (ks.length:Int)=kidsN k:=by simpa using h
   rw[rOk,show decide (kidsN k=ks.length)=false from decide_eq_false fun e=>h e.symm]
   simp
  have hkl:decide (kidsN k=ks.length)=true:=by
   have h:(ks.length:Int)=kidsN k:=by simpa using h
   exact decide_eq_true h.symm
  have good:rOk k n l ks d=true:=by rw[rOk,d1,hkl,l1,hk,hn1];rfl
  rw[shift_p,ld1_p (u:=foL ks) r4 rfl rfl,lenS_foL]
  refine loop115_0 (fun y S'=>∃ i:Nat,y=aI i∧i≤ks.length∧(∀ j (h:j<ks.length),j<i→ks[j].rightF (d - 1)=true)∧S.n<S'.n∧(∀ i,i<S.n→i≠id→S'.obj i=S.obj i)∧S'.obj id=some (.cells t [[.mt (.i .i64) shapesE,aI (m+1+Fo.nodesL (ks.take i):Nat)]] true))
   (fun y _=>ks.length - ((intA y).getD 0).toNat) ⟨0,rfl,Nat.zero_le _,fun j _ hj=>(Nat.not_lt_zero _ hj).elim,by omega,old4,by simpa[Fo.nodesL]using q4⟩ ?_
  rintro _ S5 ⟨i,rfl,hi,hall,n5,old5,q5⟩ KE hKE
  unfold b115_0
  rw[bin_lss,onB_v]
  refine gd_of (fun hlt=>?_) (fun hge=>?_)
  ·have hlt:i<ks.length:=by have:=dT hlt;omega
   have hmem:=List.getElem_mem hlt
   obtain⟨s1,s2⟩:=nodesL_at hlt
   rw[ixS_foL hlt,ldN_q (Fo.row_len _)]
   refine boxA_of rfl fun S6 k6 n6 o6=>?_
   refine stA_of o6 (Fo.row_len ks[i]) rfl fun S7 n7 o7 f7=>?_
   rw[ldN_p (n:=4) o7 (Fo.row_len _),bin_sub (by have:=hd.2;have:=dT d1;omega) (by have:=hd.2;omega)]
   have q7:=(f7 id (by omega)).trans ((k6.2 id (by omega)).trans q5)
   have old7:∀ i,i<S.n→i≠id→S7.obj i=S.obj i:=fun i hi hne=>(f7 i (by omega)).trans ((k6.2 i (by omega)).trans (old5 i hi hne))
   refine .inl ((ih _ hmem (h5 _ hmem) (d - 1) ⟨by have:=hd.2;have:=dT d1;omega,by have:=hd.2;omega⟩ S7 id t _ (by omega) q7 (by omega)).mono ?_)
   rintro e S8 ⟨b,rfl,rfl,n8,old8,m',q8,m1,m2,m3⟩
   show un _ _ _ _
   have old9:∀ i,i<S.n→i≠id→S8.obj i=S.obj i:=fun i hi hne=>(old8 i (by omega) hne).trans (old7 i hi hne)
   rw[un_not,onB_v]
   refine gd_of (fun h=>?_) (fun h=>?_)
   ·have hb':Fo.rightF (.mk k n l ks) d=false:=by rw[Fo.rightF_mk,all_no hlt (by simpa using h),Bool.and_false]
    exact⟨_,rfl,by rw[hb'],by omega,old9,m',q8,by omega,by rw[hnd];omega,fun h=>by rw[hb']at h;cases h⟩
   ·have h:ks[i].rightF (d - 1)=true:=by simpa using h
    rw[bin_add (by omega) (by omega)]
    refine hKE _ _ ⟨i+1,rfl,hlt,lt_step (p:=fun f=>f.rightF (d - 1)=true) (hi:=hlt) hall h,by omega,old9,?_⟩ (by simp[intA];omega)
    rw[q8,m3 h,s1]
    congr 7
    omega
  ·have hge:i=ks.length:=by have:=dF hge;omega
   subst hge
   have hr:Fo.rightF (.mk k n l ks) d=true:=by rw[Fo.rightF_mk,good,all_lt fun j hj=>hall j hj hj];rfl
   rw[List.take_length]at q5
   exact⟨_,rfl,by rw[hr],by omega,old5,_,q5,by omega,by rw[hnd];omega,fun _=>by rw[hnd];omega⟩
theorem nodes_pos(f:Fo):1≤f.nodes:=by cases f;rw[Fo.nodes];omega
theorem ans96{f:Fo}(hok:f.ok)(hn:f.nodes≤2000):Ans Pg 96 [f.av] (aI (if rightN f=true then f.nodes else 0:Nat)):=by
 intro S
 refine ACalls.ans_v (calls96 ?_)
 unfold m96 Fo.av
 refine boxA_of (Fo.row_len f) fun S1 k1 n1 o1=>?_
 refine callF_ans ans114 ?_
 rw[bld_of (cs:=[.mt (.i .i64) shapesE,aI 0]) rfl]
 refine boxA_of rfl fun S2 k2 n2 o2=>?_
 rw[ldN_p (n:=4) ((k2.2 _ (by omega)).trans o1) (Fo.row_len f)]
 refine .inl ((run115 f hok 60 ⟨by decide,by decide⟩ S2 S1.n 141 0 (by omega) o2 (by omega)).mono ?_)
 rintro e S3 ⟨b,rfl,rfl,n3,old,m',q3,m1,m2,m3⟩
 show un _ _ _ _
 have k3:Keep S S3:=⟨by omega,fun i hi=>(old i (by omega) (by omega)).trans ((k1.trans k2).2 i hi)⟩
 rw[un_not,onB_v]
 unfold rightN
 refine gd_of (fun h=>⟨by rw[if_neg (by simpa using h)];rfl,k3⟩) (fun h=>?_)
 have h:f.rightF 60=true:=by simpa using h
 rw[nilChk_p,shift_p,ld1_p (u:=aI m') q3 rfl rfl]
 exact⟨by rw[if_pos h,m3 h];simp,k3⟩
theorem ans46{f:Fo}(hok:f.ok)(hn:f.nodes≤2000):Ans Pg 46 [f.av] (aB (rightN f)):=by
 intro S
 refine ACalls.ans_v (calls46 ?_)
 unfold m46 Fo.av
 refine boxA_of (Fo.row_len f) fun S1 k1 n1 o1=>?_
 rw[ldN_p (n:=4) o1 (Fo.row_len f)]
 refine callF_ans (ans96 hok hn) ?_
 rw[bin_gtr]
 refine⟨?_,k1⟩
 have:=nodes_pos f
 cases h:rightN f with
 |true=>rw[if_pos rfl,decide_eq_true (by omega)]
 |false=>rw[if_neg (by decide)];rfl
section
set_option maxRecDepth 100000
def c50:Code:=(Tryz.f50.body).getD .skip
def r50:List ResultVar:=Tryz.f50.results.toList
def env50_0(y1 y2 y4 y5 y6:AV):List AV:=[y1,y2,y4,y5,y6]
def lv50_0:List Nat:=[1,2,4,5,6]
def ms50:List (List Nat):=[lv50_0,[]]
def m50(x0 x1:AV)(S:Store)(Q:PoT):Prop:=
 boxN 35 4 x0 S fun c S=>boxN 35 4 (.a [.v (.int .i64 0),.v (.string ByteArray.empty),.v (.int .i64 0),.nl]) S fun d S=>shift c 0 S fun e S=>ld1 e S fun f S=>bld [(0,1),(1,1),(2,1),(3,1)] [.v (.int .i64 0),.v (.string ByteArray.empty),.v (.int .i64 0),.nl] [(0,f)] S fun g S=>boxN 35 4 (.a [.v (.int .i64 0),.v (.string ByteArray.empty),.v (.int .i64 0),.nl]) S fun h S=>stN 4 h g S fun i S=>shift c 0 S fun k S=>ld1 k S fun l S=>bin .eql 0 l (.v (.int .i64 3)) S fun m S=>onB m fun b=>gd b (∃ n:AV,(∀ T:Store,Keep S T→shift c 1 T fun o S=>o=n∧S=T)∧∃ p:AV,(∀ T:Store,Keep S T→ld1 n T fun q S=>q=p∧S=T)∧∃ r:AV,(∀ T:Store,Keep S T→lenStr p T fun s S=>s=r∧S=T)∧∃ t:AV,(∀ T:Store,Keep S T→bin .mul 0 r (.v (.int .i64 7)) T fun u S=>u=t∧S=T)∧∃ w:AV,(∀ T:Store,Keep S T→shift c 1 T fun x S=>x=w∧S=T)∧∃ y:AV,(∀ T:Store,Keep S T→ld1 w T fun z S=>z=y∧S=T)∧∃ A:AV,(∀ T:Store,Keep S T→ixStr y (.v (.int .i64 0)) T fun B S=>B=A∧S=T)∧∃ C:AV,(∀ T:Store,Keep S T→convI .i64 A T fun D S=>D=C∧S=T)∧∃ E:AV,(∀ T:Store,Keep S T→bin .add 0 t C T fun F S=>F=E∧S=T)∧∃ G:AV,(∀ T:Store,Keep S T→mxI true x1 (.v (.int .i64 1)) T fun H S=>H=G∧S=T)∧∃ I:AV,(∀ T:Store,Keep S T→bin .rem 0 E G T fun J S=>J=I∧S=T)∧∃ K:AV,(∀ T:Store,Keep S T→shift h 2 T fun L S=>L=K∧S=T)∧stN 1 K I S fun M S=>loopV lv50_0 (vc Pg (c50.at_ [1,1,1,0,1,0,0]) (ms50.drop 1)) 46 (env50_0 x1 c d h (.v (.int .i64 0))) S (blockK 0 (seqK (vc Pg (c50.at_ [1,1,1,1]) (ms50.drop 1)) (bodyK Pg r50 Q)))) (loopV lv50_0 (vc Pg (c50.at_ [1,1,1,0,1,0,0]) (ms50.drop 1)) 46 (env50_0 x1 c d h (.v (.int .i64 0))) S (blockK 0 (seqK (vc Pg (c50.at_ [1,1,1,1]) (ms50.drop 1)) (bodyK Pg r50 Q))))
theorem calls50{x0 x1:AV}{S:Store}{Q:PoT}(h:m50 x0 x1 S Q):ACalls Pg 50 [x0,x1] S Q:=
 calls_of_vc (fn:=Tryz.f50) (c:=c50) (n:=46) Tryz.func50 (by kernel_rfl) (by kernel_rfl) (by kernel_rfl) ms50 (Eq.mpr (by kernel_rfl) h)
def b50_0(y1 y2 y4 y5 y6:AV)(S:Store)(KE0:KeT)(Q:PoT):Prop:=
 shift y2 3 S fun a S=>ld1 a S fun c S=>lenS c S fun d S=>bin .lss 0 y6 d S fun e S=>onB e fun b=>gd b (∃ f:AV,(∀ T:Store,Keep S T→shift y5 3 T fun g S=>g=f∧S=T)∧∃ h:AV,(∀ T:Store,Keep S T→ld1 f T fun i S=>i=h∧S=T)∧∃ k:AV,(∀ T:Store,Keep S T→shift y2 3 T fun l S=>l=k∧S=T)∧∃ m:AV,(∀ T:Store,Keep S T→ld1 k T fun n S=>n=m∧S=T)∧∃ o:AV,(∀ T:Store,Keep S T→ixS 35 4 m y6 T fun p S=>p=o∧S=T)∧∃ q:AV,(∀ T:Store,Keep S T→ldN 4 o T fun r S=>r=q∧S=T)∧∃ s:AV,(∀ T:Store,Keep S T→callF Pg 50 [q,y1] T (fun _ _=>False) fun t S=>t=s∧S=T)∧∃ u:AV,(∀ T:Store,Keep S T→bslN 35 4 1 [.v (.int .i64 0),.v (.string ByteArray.empty),.v (.int .i64 0),.nl] [(0,s)] T fun w S=>w=u∧S=T)∧appS 35 4 56 h u S fun x S=>∃ y:AV,(∀ T:Store,Keep S T→shift y5 3 T fun z S=>z=y∧S=T)∧stN 1 y x S fun A S=>bin .add 0 y6 (.v (.int .i64 1)) S fun B S=>KE0 46 (env50_0 y1 y2 y4 y5 B) S) (ldN 4 y5 S fun C S=>stN 4 y4 C S fun D S=>ldN 4 y4 S fun E _=>Q (.ret E) S)
theorem b50_0_eq(y1 y2 y4 y5 y6:AV)(S:Store)(KE0:KeT)(Q:PoT):vc Pg (c50.at_ [1,1,1,0,1,0,0]) (ms50.drop 1) (mkE 46 lv50_0 (env50_0 y1 y2 y4 y5 y6)) S (thenK (fgK lv50_0 KE0) (blockK 0 (seqK (vc Pg (c50.at_ [1,1,1,1]) (ms50.drop 1)) (bodyK Pg r50 Q))))=b50_0 y1 y2 y4 y5 y6 S KE0 Q:=by kernel_rfl
theorem loop50_0{y1 y2 y4 y5:AV}{y60:AV}{S:Store}{Q:PoT}(I:AV→Store→Prop)(μ:AV→Store→Nat)(h0:I y60 S)
    (hr:∀(y6:AV) (S:Store),I y6 S→∀ KE0:KeT,(∀(y6':AV) (S':Store),I y6' S'→μ y6' S'<μ y6 S→KE0 46 (env50_0 y1 y2 y4 y5 y6') S')→b50_0 y1 y2 y4 y5 y6 S KE0 Q):
    loopV lv50_0 (vc Pg (c50.at_ [1,1,1,0,1,0,0]) (ms50.drop 1)) 46 (env50_0 y1 y2 y4 y5 y60) S (blockK 0 (seqK (vc Pg (c50.at_ [1,1,1,1]) (ms50.drop 1)) (bodyK Pg r50 Q))):=by
 refine⟨fun n e S=>n=46∧∃ y6:AV,e=(env50_0 y1 y2 y4 y5 y6)∧I y6 S,fun _ e S=>μ (e.getD 4 .j) S,?_,?_⟩
 ·exact⟨_,_,Wk.refl _ _,rfl,_,rfl,h0⟩
 ·rintro _ e S ⟨rfl,y6,rfl,hI⟩
  exact(b50_0_eq _ _ _ _ _ _ _ _).mpr (hr y6 S hI _ (fun y6' S' hI' hm=>⟨_,_,Wk.refl _ _,⟨rfl,_,rfl,hI'⟩,hm⟩))
def c40:Code:=(Tryz.f40.body).getD .skip
def ms40:List (List Nat):=[[]]
def m40(x0 x1 x2:AV)(S:Store)(Q:PoT):Prop:=
 ld1 x1 S fun a S=>bin .add 0 a (.v (.int .i64 1)) S fun c S=>stN 1 x1 c S fun d S=>ld1 x1 S fun e S=>ld1 x2 S fun f S=>lenS f S fun g S=>bin .gtr 0 e g S fun h S=>onB h fun b=>gd b (Q (.ret (.v (.int .i64 0))) S) (ld1 x2 S fun i S=>ld1 x1 S fun k S=>bin .sub 0 k (.v (.int .i64 1)) S fun l S=>ixS 5 1 i l S fun m S=>ld1 m S fun n S=>convI .i64 n S fun o S=>bin .rem 0 o x0 S fun p S=>Q (.ret p) S)
theorem calls40{x0 x1 x2:AV}{S:Store}{Q:PoT}(h:m40 x0 x1 x2 S Q):ACalls Pg 40 [x0,x1,x2] S Q:=
 calls_of_vc (fn:=Tryz.f40) (c:=c40) (n:=19) Tryz.func40 (by kernel_rfl) (by kernel_rfl) (by kernel_rfl) ms40 (Eq.mpr (by kernel_rfl) h)
def c41:Code:=(Tryz.f41.body).getD .skip
def r41:List ResultVar:=Tryz.f41.results.toList
def env41_0(y0 y4 y6 y8 y9:AV):List AV:=[y0,y4,y6,y8,y9]
def lv41_0:List Nat:=[0,4,6,8,9]
def ms41:List (List Nat):=[lv41_0,[0]]
def m41(x0 x1 x2 x3 x4:AV)(S:Store)(Q:PoT):Prop:=
 boxN 35 4 (.a [.v (.int .i64 0),.v (.string ByteArray.empty),.v (.int .i64 0),.nl]) S fun c S=>ld1 x1 S fun d S=>callV Pg d [.v (.int .i64 18)] S (fun e S=>bin .add 0 (.v (.int .i64 1)) e S fun f S=>bin .eql 0 x0 (.v (.int .i64 0)) S fun g S=>onB g fun b=>gd b (ld1 x1 S fun h S=>callV Pg h [.v (.int .i64 7)] S (fun i S=>bin .quo 0 i (.v (.int .i64 5)) S fun k S=>bin .sub 0 (.v (.int .i64 3)) k S fun l S=>bld [(0,1),(1,1),(2,1),(3,1)] [.v (.int .i64 0),.v (.string ByteArray.empty),.v (.int .i64 0),.nl] [(0,l)] S fun m S=>boxN 35 4 (.a [.v (.int .i64 0),.v (.string ByteArray.empty),.v (.int .i64 0),.nl]) S fun n S=>stN 4 n m S fun o S=>bin .eql 0 l (.v (.int .i64 3)) S fun p S=>onB p fun b=>gd b (bslN 9 1 7 [.v (.string ByteArray.empty)] [(0,(.v (.string { data:=#[113] }))),(1,(.v (.string { data:=#[108,48] }))),(2,(.v (.string { data:=#[111,117,116] }))),(3,(.v (.string { data:=#[108,49] }))),(4,(.v (.string { data:=#[105,48] }))),(5,(.v (.string { data:=#[111,48] }))),(6,(.v (.string { data:=#[97,45,98] })))] S fun q S=>ld1 x1 S fun r S=>callV Pg r [.v (.int .i64 7)] S (fun s S=>ixS 9 1 q s S fun t S=>ld1 t S fun w S=>shift n 1 S fun x S=>stN 1 x w S fun y S=>callF Pg 42 [l] S Q fun z S=>loopV lv41_0 (vc Pg (c41.at_ [1,1,1,1,1,0,1,0,0]) (ms41.drop 1)) 55 (env41_0 x0 x4 c n z) S (blockK 0 (seqK (vc Pg (c41.at_ [1,1,1,1,1,1]) (ms41.drop 1)) (bodyK Pg r41 Q)))) (fun u S=>Q (.pan u) S)) (callF Pg 42 [l] S Q fun A S=>loopV lv41_0 (vc Pg (c41.at_ [1,1,1,1,1,0,1,0,0]) (ms41.drop 1)) 55 (env41_0 x0 x4 c n A) S (blockK 0 (seqK (vc Pg (c41.at_ [1,1,1,1,1,1]) (ms41.drop 1)) (bodyK Pg r41 Q))))) (fun u S=>Q (.pan u) S)) (ld1 x2 S fun B S=>ld1 x3 S fun C S=>lenS C S fun D S=>bin .geq 0 B D S fun E S=>onB E fun b=>gd b (ld1 x1 S fun F S=>callV Pg F [.v (.int .i64 7)] S (fun G S=>bin .quo 0 G (.v (.int .i64 5)) S fun H S=>bin .sub 0 (.v (.int .i64 3)) H S fun I S=>bld [(0,1),(1,1),(2,1),(3,1)] [.v (.int .i64 0),.v (.string ByteArray.empty),.v (.int .i64 0),.nl] [(0,I)] S fun J S=>boxN 35 4 (.a [.v (.int .i64 0),.v (.string ByteArray.empty),.v (.int .i64 0),.nl]) S fun K S=>stN 4 K J S fun L S=>bin .eql 0 I (.v (.int .i64 3)) S fun M S=>onB M fun b=>gd b (bslN 9 1 7 [.v (.string ByteArray.empty)] [(0,(.v (.string { data:=#[113] }))),(1,(.v (.string { data:=#[108,48] }))),(2,(.v (.string { data:=#[111,117,116] }))),(3,(.v (.string { data:=#[108,49] }))),(4,(.v (.string { data:=#[105,48] }))),(5,(.v (.string { data:=#[111,48] }))),(6,(.v (.string { data:=#[97,45,98] })))] S fun N S=>ld1 x1 S fun O S=>callV Pg O [.v (.int .i64 7)] S (fun P S=>ixS 9 1 N P S fun R S=>ld1 R S fun T S=>shift K 1 S fun U S=>stN 1 U T S fun V S=>callF Pg 42 [I] S Q fun W S=>loopV lv41_0 (vc Pg (c41.at_ [1,1,1,1,1,0,1,0,0]) (ms41.drop 1)) 55 (env41_0 x0 x4 c K W) S (blockK 0 (seqK (vc Pg (c41.at_ [1,1,1,1,1,1]) (ms41.drop 1)) (bodyK Pg r41 Q)))) (fun u S=>Q (.pan u) S)) (callF Pg 42 [I] S Q fun X S=>loopV lv41_0 (vc Pg (c41.at_ [1,1,1,1,1,0,1,0,0]) (ms41.drop 1)) 55 (env41_0 x0 x4 c K X) S (blockK 0 (seqK (vc Pg (c41.at_ [1,1,1,1,1,1]) (ms41.drop 1)) (bodyK Pg r41 Q))))) (fun u S=>Q (.pan u) S)) (ld1 x2 S fun Y S=>bin .gtr 0 Y (.v (.int .i64 30)) S fun Z S=>onB Z fun b=>gd b (ld1 x1 S fun a0 S=>callV Pg a0 [.v (.int .i64 7)] S (fun a1 S=>bin .quo 0 a1 (.v (.int .i64 5)) S fun a2 S=>bin .sub 0 (.v (.int .i64 3)) a2 S fun a3 S=>bld [(0,1),(1,1),(2,1),(3,1)] [.v (.int .i64 0),.v (.string ByteArray.empty),.v (.int .i64 0),.nl] [(0,a3)] S fun a4 S=>boxN 35 4 (.a [.v (.int .i64 0),.v (.string ByteArray.empty),.v (.int .i64 0),.nl]) S fun a5 S=>stN 4 a5 a4 S fun a6 S=>bin .eql 0 a3 (.v (.int .i64 3)) S fun a7 S=>onB a7 fun b=>gd b (bslN 9 1 7 [.v (.string ByteArray.empty)] [(0,(.v (.string { data:=#[113] }))),(1,(.v (.string { data:=#[108,48] }))),(2,(.v (.string { data:=#[111,117,116] }))),(3,(.v (.string { data:=#[108,49] }))),(4,(.v (.string { data:=#[105,48] }))),(5,(.v (.string { data:=#[111,48] }))),(6,(.v (.string { data:=#[97,45,98] })))] S fun a8 S=>ld1 x1 S fun a9 S=>callV Pg a9 [.v (.int .i64 7)] S (fun b0 S=>ixS 9 1 a8 b0 S fun b1 S=>ld1 b1 S fun b2 S=>shift a5 1 S fun b3 S=>stN 1 b3 b2 S fun b4 S=>callF Pg 42 [a3] S Q fun b5 S=>loopV lv41_0 (vc Pg (c41.at_ [1,1,1,1,1,0,1,0,0]) (ms41.drop 1)) 55 (env41_0 x0 x4 c a5 b5) S (blockK 0 (seqK (vc Pg (c41.at_ [1,1,1,1,1,1]) (ms41.drop 1)) (bodyK Pg r41 Q)))) (fun u S=>Q (.pan u) S)) (callF Pg 42 [a3] S Q fun b7 S=>loopV lv41_0 (vc Pg (c41.at_ [1,1,1,1,1,0,1,0,0]) (ms41.drop 1)) 55 (env41_0 x0 x4 c a5 b7) S (blockK 0 (seqK (vc Pg (c41.at_ [1,1,1,1,1,1]) (ms41.drop 1)) (bodyK Pg r41 Q))))) (fun u S=>Q (.pan u) S)) (bld [(0,1),(1,1),(2,1),(3,1)] [.v (.int .i64 0),.v (.string ByteArray.empty),.v (.int .i64 0),.nl] [(0,f)] S fun b8 S=>boxN 35 4 (.a [.v (.int .i64 0),.v (.string ByteArray.empty),.v (.int .i64 0),.nl]) S fun b9 S=>stN 4 b9 b8 S fun c0 S=>bin .eql 0 f (.v (.int .i64 3)) S fun c1 S=>onB c1 fun b=>gd b (bslN 9 1 7 [.v (.string ByteArray.empty)] [(0,(.v (.string { data:=#[113] }))),(1,(.v (.string { data:=#[108,48] }))),(2,(.v (.string { data:=#[111,117,116] }))),(3,(.v (.string { data:=#[108,49] }))),(4,(.v (.string { data:=#[105,48] }))),(5,(.v (.string { data:=#[111,48] }))),(6,(.v (.string { data:=#[97,45,98] })))] S fun c2 S=>ld1 x1 S fun c3 S=>callV Pg c3 [.v (.int .i64 7)] S (fun c4 S=>ixS 9 1 c2 c4 S fun c5 S=>ld1 c5 S fun c6 S=>shift b9 1 S fun c7 S=>stN 1 c7 c6 S fun c8 S=>callF Pg 42 [f] S Q fun c9 S=>loopV lv41_0 (vc Pg (c41.at_ [1,1,1,1,1,0,1,0,0]) (ms41.drop 1)) 55 (env41_0 x0 x4 c b9 c9) S (blockK 0 (seqK (vc Pg (c41.at_ [1,1,1,1,1,1]) (ms41.drop 1)) (bodyK Pg r41 Q)))) (fun u S=>Q (.pan u) S)) (callF Pg 42 [f] S Q fun d0 S=>loopV lv41_0 (vc Pg (c41.at_ [1,1,1,1,1,0,1,0,0]) (ms41.drop 1)) 55 (env41_0 x0 x4 c b9 d0) S (blockK 0 (seqK (vc Pg (c41.at_ [1,1,1,1,1,1]) (ms41.drop 1)) (bodyK Pg r41 Q)))))))) (fun u S=>Q (.pan u) S)
theorem calls41{x0 x1 x2 x3 x4:AV}{S:Store}{Q:PoT}(h:m41 x0 x1 x2 x3 x4 S Q):ACalls Pg 41 [x0,x1,x2,x3,x4] S Q:=
 calls_of_vc (fn:=Tryz.f41) (c:=c41) (n:=55) Tryz.func41 (by kernel_rfl) (by kernel_rfl) (by kernel_rfl) ms41 (Eq.mpr (by kernel_rfl) h)
def b41_0(y0 y4 y6 y8 y9:AV)(S:Store)(KE0:KeT)(Q:PoT):Prop:=
 bin .gtr 0 y9 (.v (.int .i64 0)) S fun a S=>onB a fun b=>gd b (∃ c:AV,(∀ T:Store,Keep S T→shift y8 3 T fun d S=>d=c∧S=T)∧∃ e:AV,(∀ T:Store,Keep S T→ld1 c T fun f S=>f=e∧S=T)∧∃ g:AV,(∀ T:Store,Keep S T→ld1 y4 T fun h S=>h=g∧S=T)∧∃ i:AV,(∀ T:Store,Keep S T→bin .sub 0 y0 (.v (.int .i64 1)) T fun k S=>k=i∧S=T)∧callV Pg g [i] S (fun l S=>(∀ T:Store,Keep S T→ld1 c T fun m S=>m=e∧S=T)∧(∀ T:Store,Keep S T→shift y8 3 T fun n S=>n=c∧S=T)∧∃ o:AV,(∀ T:Store,Keep S T→bslN 35 4 1 [.v (.int .i64 0),.v (.string ByteArray.empty),.v (.int .i64 0),.nl] [(0,l)] T fun p S=>p=o∧S=T)∧appS 35 4 56 e o S fun q S=>∃ r:AV,(∀ T:Store,Keep S T→shift y8 3 T fun s S=>s=r∧S=T)∧stN 1 r q S fun t S=>bin .sub 0 y9 (.v (.int .i64 1)) S fun w S=>KE0 55 (env41_0 y0 y4 y6 y8 w) S) (fun u S=>False)) (ldN 4 y8 S fun x S=>stN 4 y6 x S fun y S=>ldN 4 y6 S fun z _=>Q (.ret z) S)
theorem b41_0_eq(y0 y4 y6 y8 y9:AV)(S:Store)(KE0:KeT)(Q:PoT):vc Pg (c41.at_ [1,1,1,1,1,0,1,0,0]) (ms41.drop 1) (mkE 55 lv41_0 (env41_0 y0 y4 y6 y8 y9)) S (thenK (fgK lv41_0 KE0) (blockK 0 (seqK (vc Pg (c41.at_ [1,1,1,1,1,1]) (ms41.drop 1)) (bodyK Pg r41 Q))))=b41_0 y0 y4 y6 y8 y9 S KE0 Q:=by kernel_rfl
theorem loop41_0{y0 y4 y6 y8:AV}{y90:AV}{S:Store}{Q:PoT}(I:AV→Store→Prop)(μ:AV→Store→Nat)(h0:I y90 S)
    (hr:∀(y9:AV) (S:Store),I y9 S→∀ KE0:KeT,(∀(y9':AV) (S':Store),I y9' S'→μ y9' S'<μ y9 S→KE0 55 (env41_0 y0 y4 y6 y8 y9') S')→b41_0 y0 y4 y6 y8 y9 S KE0 Q):
    loopV lv41_0 (vc Pg (c41.at_ [1,1,1,1,1,0,1,0,0]) (ms41.drop 1)) 55 (env41_0 y0 y4 y6 y8 y90) S (blockK 0 (seqK (vc Pg (c41.at_ [1,1,1,1,1,1]) (ms41.drop 1)) (bodyK Pg r41 Q))):=by
 refine⟨fun n e S=>n=55∧∃ y9:AV,e=(env41_0 y0 y4 y6 y8 y9)∧I y9 S,fun _ e S=>μ (e.getD 4 .j) S,?_,?_⟩
 ·exact⟨_,_,Wk.refl _ _,rfl,_,rfl,h0⟩
 ·rintro _ e S ⟨rfl,y9,rfl,hI⟩
  exact(b41_0_eq _ _ _ _ _ _ _ _).mpr (hr y9 S hI _ (fun y9' S' hI' hm=>⟨_,_,Wk.refl _ _,⟨rfl,_,rfl,hI'⟩,hm⟩))
def c16:Code:=(Tryz.f16.body).getD .skip
def ms16:List (List Nat):=[[0]]
def m16(x0:AV)(S:Store)(Q:PoT):Prop:=
 boxN 41 1 x0 S fun c S=>boxN 35 4 (.a [.v (.int .i64 0),.v (.string ByteArray.empty),.v (.int .i64 0),.nl]) S fun d S=>boxN 3 1 (.v (.int .i64 0)) S fun e S=>stN 1 e (.v (.int .i64 0)) S fun g S=>boxN 66 1 (.v .nilFunc) S fun h S=>stN 1 h (.f (.func 40) [] [e,c]) S fun i S=>boxN 67 1 (.v .nilFunc) S fun k S=>stN 1 k (.f (.func 41) [] [h,e,c,k]) S fun l S=>ld1 k S fun m S=>callV Pg m [.v (.int .i64 6)] S (fun n S=>stN 4 d n S fun o S=>ldN 4 d S fun p _=>Q (.ret p) S) (fun u S=>Q (.pan u) S)
theorem calls16{x0:AV}{S:Store}{Q:PoT}(h:m16 x0 S Q):ACalls Pg 16 [x0] S Q:=
 calls_of_vc (fn:=Tryz.f16) (c:=c16) (n:=10) Tryz.func16 (by kernel_rfl) (by kernel_rfl) (by kernel_rfl) ms16 (Eq.mpr (by kernel_rfl) h)
end
abbrev aU8(n:Int):AV:=.v (.int .u8 n)
def wordsL:List ByteArray:=[⟨#[113]⟩,⟨#[108,48]⟩,⟨#[111,117,116]⟩,⟨#[108,49]⟩,⟨#[105,48]⟩,⟨#[111,48]⟩,⟨#[97,45,98]⟩]
inductive MadeF:Nat→Fo→Prop
 |mk (d:Nat) (k:Int) (n:ByteArray) (ks:List Fo) (h1:1≤k) (h2:k≤18) (h3:(ks.length:Int)=kidsN k) (h4:k=3→n∈wordsL) (h5:¬ k=3→n=⟨#[]⟩) (h6:ks≠[]→0<d) (h:∀ f∈ks,MadeF (d - 1) f):MadeF d (.mk k n 0 ks)
theorem kidsN_le(k:Int):kidsN k≤2:=by unfold kidsN;split;omega;split;omega;split<;>omega
theorem Fo.tree:∀(f:Fo),∀ u∈f.row,Tree u:=by
 intro f
 induction f using Fo.ind with
 |h k n l ks ih =>
  intro u hu
  rw[Fo.row_mk]at hu
  simp only[List.mem_cons,List.not_mem_nil,or_false]at hu
  rcases hu with rfl|rfl|rfl|rfl
  ·exact Tree.v _
  ·exact Tree.v _
  ·exact Tree.v _
  ·refine Tree.l fun c hc u hu=>?_
   obtain⟨f,hf,rfl⟩:=List.mem_map.1 hc
   exact ih f hf u hu
theorem MadeF.ok:∀(f:Fo) (d:Nat),MadeF d f→f.ok:=by
 intro f
 induction f using Fo.ind with
 |h k n l ks ih =>
  intro d h
  cases h with
  |mk d _ _ _ h1 h2 h3 h4 h5 h6 h =>
   have hk:=kidsN_le k
   have hn:n.size≤3:=by
    by_cases hk:k=3
    ·have:=h4 hk
     simp only[wordsL,List.mem_cons,List.not_mem_nil,or_false]at this
     rcases this with rfl|rfl|rfl|rfl|rfl|rfl|rfl<;>decide
    ·rw[h5 hk];decide
   exact .mk _ _ _ _ ⟨by omega,by omega⟩ ⟨by decide,by decide⟩ (by omega) (by omega) fun f hf=>ih f hf _ (h f hf)
theorem pickG_of{S:Store}{aid lid ta tl k:Nat}{l:List Int}{n:Int}{Q:AEnd→Store→Prop}(h1:S.obj aid=some (.cells ta [[aI k]] true))(h2:S.obj lid=some (.cells tl [[aL aU8 l]] true))(hne:lid≠aid)
    (hl:∀ x∈l,0≤x∧x<256) (hn:0<n) (hk:k≤1000000)
    (K:∀ S',S'.n=S.n→S'.obj aid=some (.cells ta [[aI (k+1:Nat)]] true)→(∀ x,x≠aid→S'.obj x=S.obj x)→Q (.ret (aI (pickV l k n))) S'):ACalls Pg 40 [aI n,.p aid 0 0,.p lid 0 0] S Q:=by
 refine calls40 ?_
 unfold m40
 have hadd:∀ K:AV→Store→Prop,∀ S,bin .add 0 (.v (.int .i64 (k:Int))) (.v (.int .i64 1)) S K=K (aI (k+1:Nat)) S:=fun K S=>bin_add (by omega) (by omega) 0
 rw[ld1_p h1 rfl rfl,hadd]
 refine st_of h1 rfl rfl fun S1 n1 o1 f1=>?_
 have p1:=(f1 lid hne).trans h2
 rw[ld1_p o1 rfl rfl,ld1_p p1 rfl rfl,lenS_aL,bin_gtr,onB_v]
 refine gd_of (fun h=>?_) (fun h=>?_)
 ·have h:=dT h
  have:=K S1 n1 o1 f1
  rw[pickV,if_pos (by omega)]at this
  exact this
 ·have h:=dF h
  have hlt:k<l.length:=by omega
  have hx:=hl _ (List.getElem_mem hlt)
  have hsub:∀ K:AV→Store→Prop,∀ S,bin .sub 0 (.v (.int .i64 ((k+1:Nat):Int))) (.v (.int .i64 1)) S K=K (aI k) S:=fun K S=>(bin_sub (by omega) (by omega) 0).trans (by rw[show((k+1:Nat):Int) - 1=k by omega])
  rw[ld1_p p1 rfl rfl,ld1_p o1 rfl rfl,hsub,ixS_aL hlt,ld1_q,convI_64 _ (by omega) (by omega),bin_rem (by omega)]
  have:=K S1 n1 o1 f1
  rw[pickV,if_neg (by omega),show l.getD k 0=l[k]by simp[List.getD_eq_getElem?_getD,hlt]]at this
  exact this
abbrev pickG(b:Nat):AV:=.f (.func 40) [] [.p (b+2) 0 0,.p b 0 0]
abbrev makeG(b:Nat):AV:=.f (.func 41) [] [.p (b+3) 0 0,.p (b+2) 0 0,.p b 0 0,.p (b+4) 0 0]
structure Mg (b:Nat) (l:List Int) (k:Nat) (S:Store):Prop where
 n:b+5≤S.n
 lo:S.obj b=some (.cells 41 [[aL aU8 l]] true)
 ao:S.obj (b+2)=some (.cells 3 [[aI k]] true)
 po:S.obj (b+3)=some (.cells 66 [[pickG b]] true)
 mo:S.obj (b+4)=some (.cells 67 [[makeG b]] true)
def Ch(b:Nat)(S S':Store):Prop:=S.n≤S'.n∧∀ i,i<S.n→i≠b+2→S'.obj i=S.obj i
theorem Ch.trans{b:Nat}{S S' S'':Store}(h:Ch b S S')(k:Ch b S' S''):Ch b S S'':=⟨Nat.le_trans h.1 k.1,fun i hi hb=>(k.2 i (by have:=h.1;omega) hb).trans (h.2 i hi hb)⟩
theorem Ch.keep{b:Nat}{S S':Store}(k:Keep S S'):Ch b S S':=⟨k.1,fun i hi _=>k.2 i hi⟩
theorem Ch.st{b id:Nat}{S0 S S':Store}(h:Ch b S0 S)(hid:S0.n≤id∨id=b+2)(hn:S'.n=S.n)(ho:∀ x,x≠id→S'.obj x=S.obj x):Ch b S0 S':=⟨by have:=h.1;omega,fun i hi hb=>(ho i (by omega)).trans (h.2 i hi hb)⟩
theorem Ch.low{b:Nat}{S0 S S':Store}(h:Ch b S0 S)(hn:S.n≤S'.n)(ho:∀ x,x<S0.n→S'.obj x=S.obj x):Ch b S0 S':=⟨Nat.le_trans h.1 hn,fun i hi hb=>(ho i hi).trans (h.2 i hi hb)⟩
theorem Mg.mv{b k:Nat}{l:List Int}{S S':Store}(h:Mg b l k S)(hn:S.n≤S'.n)(ho:∀ i,i<b+5→S'.obj i=S.obj i):Mg b l k S':=⟨by have:=h.n;omega,(ho _ (by omega)).trans h.lo,(ho _ (by omega)).trans h.ao,(ho _ (by omega)).trans h.po,(ho _ (by omega)).trans h.mo⟩
theorem Mg.keep{b k:Nat}{l:List Int}{S S':Store}(h:Mg b l k S)(q:Keep S S'):Mg b l k S':=h.mv q.1 fun i hi=>q.2 i (by have:=h.n;omega)
theorem Mg.st{b k id:Nat}{l:List Int}{S S':Store}(h:Mg b l k S)(hid:b+5≤id)(hn:S'.n=S.n)(ho:∀ x,x≠id→S'.obj x=S.obj x):Mg b l k S':=h.mv (by omega) fun i hi=>ho i (by omega)
theorem Mg.pick{b k:Nat}{l:List Int}{S:Store}(h:Mg b l k S)(hl:∀ x∈l,0≤x∧x<256){n:Int}(hn:0<n)(hk:k≤1000){K X:AV→Store→Prop}
    (kk:∀ S',Mg b l (k+1) S'→S'.n=S.n→(∀ x,x≠b+2→S'.obj x=S.obj x)→K (aI (pickV l k n)) S'):callV Pg (pickG b) [aI n] S K X:=
 .inl (pickG_of h.ao h.lo (by omega) hl hn (by omega) fun S' n2 o2 f2=>kk S' ⟨by have:=h.n;omega,(f2 _ (by omega)).trans h.lo,o2,(f2 _ (by omega)).trans h.po,(f2 _ (by omega)).trans h.mo⟩ n2 f2)
def mostP:Nat→Nat
 |0=>3
 |d+1=>3+2*mostP d
theorem mostP_pos:∀ d,3≤mostP d
 |0=>by decide
 |d+1=>by unfold mostP;omega
def MadeQ(b:Nat)(l:List Int)(k d:Nat)(T:Store)(tr:AV)(T':Store):Prop:=∃(f:Fo) (k':Nat),tr=f.av∧Mg b l k' T'∧Ch b T T'∧k≤k'∧k'≤k+mostP d∧MadeF d f
theorem bslA4{e:Nat}{z1 z2 z3 z4:AV}{r:List AV}{S:Store}{K:AV→Store→Prop}(hr:r.length=4)(k:K (.l [r]) S):bslN e 4 1 [z1,z2,z3,z4] [(0,.a r)] S K:=by
 match r,hr with
 |[u,v,w,x],_ =>
  refine⟨[u,v,w,x],?_,.inr ?_⟩
  ·simp[fillA,cellsOf,spl]
  ·simpa[chunks]using k
theorem bsl7{e:Nat}{z:AV}{a1 a2 a3 a4 a5 a6 a7:ByteArray}{S:Store}{K:AV→Store→Prop}(k:K (aL (fun a=>.v (.string a)) [a1,a2,a3,a4,a5,a6,a7]) S):
    bslN e 1 7 [z] [(0,.v (.string a1)),(1,.v (.string a2)),(2,.v (.string a3)),(3,.v (.string a4)),(4,.v (.string a5)),(5,.v (.string a6)),(6,.v (.string a7))] S K:=by
 refine⟨[.v (.string a1),.v (.string a2),.v (.string a3),.v (.string a4),.v (.string a5),.v (.string a6),.v (.string a7)],?_,.inr ?_⟩
 ·have h:∀ a:ByteArray,cellsOf (.v (.string a))=some [.v (.string a)]:=fun _=>rfl
  simp[fillA,h,spl,List.range_succ]
 ·simpa[chunks,List.range_succ,aL]using k
section
variable {b:Nat} {l:List Int} (hl:∀ x∈l,0≤x∧x<256) {d:Nat}
 (ih:∀ d',d=d'+1→∀{k:Nat} {T:Store},Mg b l k T→k+mostP d'≤1000→ACalls Pg 41 [aI d',.p (b+3) 0 0,.p (b+2) 0 0,.p b 0 0,.p (b+4) 0 0] T (fun e T'=>∃ tr,e = .ret tr∧MadeQ b l k d' T tr T'))
include ih
theorem kids_of{T0 T:Store}{k0 k fid:Nat}{kd:Int}{nm:ByteArray}{r:Int}{Q:AEnd→Store→Prop}(hm:Mg b l k T)(h0:b+5≤T0.n)(hc:Ch b T0 T)(hb:b+2<T0.n)(hf:T0.n<fid)(hfT:fid<T.n)(hv1:T.obj T0.n=some (.cells 35 [(Fo.mk 0 ⟨#[]⟩ 0 []).row.set 3 .nl] true))
    (ho:T.obj fid=some (.cells 35 [[aI kd,.v (.string nm),aI 0,.nl]] true)) (hr:r=kidsN kd) (h1:1≤kd) (h2:kd≤18) (h3:kd=3→nm∈wordsL) (h4:¬ kd=3→nm=⟨#[]⟩) (h5:kd≤3∨0<d) (hd:d≤6)
    (hk0:k0≤k) (hk:k≤k0+3) (hk1:k0+mostP d≤1000) (hQ:∀ rr tr T',Cv (T'.frz (newer T0.n)) T'.n rr tr→MadeQ b l k0 d T0 tr T'→Q (.ret rr) T'):
    loopV lv41_0 (vc Pg (c41.at_ [1,1,1,1,1,0,1,0,0]) (ms41.drop 1)) 55 (env41_0 (aI d) (.p (b+4) 0 0) (.p T0.n 0 0) (.p fid 0 0) (aI r)) T (blockK 0 (seqK (vc Pg (c41.at_ [1,1,1,1,1,1]) (ms41.drop 1)) (bodyK Pg r41 Q))):=by
 have hr0:0≤r∧r≤2∧(kd≤3→r=0):=by
  have hle:=kidsN_le kd
  subst hr
  refine⟨?_,hle,fun h=>?_⟩
  ·unfold kidsN
   rw[if_neg (by omega)]
   split
   ·omega
   split<;>omega
  ·unfold kidsN
   rw[if_neg (by omega),if_pos h]
 have hP:∀ d',d=d'+1→mostP d=3+2*mostP d':=fun d' e=>by subst e;rfl
 refine loop41_0 (fun y S'=>∃(i k':Nat) (ks:List Fo) (yk:AV),y=aI i∧(i:Int)+ks.length=r∧Mg b l k' S'∧Ch b T0 S'∧fid<S'.n∧S'.obj T0.n=some (.cells 35 [(Fo.mk 0 ⟨#[]⟩ 0 []).row.set 3 .nl] true)∧
     S'.obj fid=some (.cells 35 [[aI kd,.v (.string nm),aI 0,yk]] true)∧Own (fid+1) S' yk 35 (ks.map Fo.row)∧(∀ f∈ks,MadeF (d - 1) f)∧k0≤k'∧k'+i*mostP (d - 1)≤k0+3+r.toNat*mostP (d - 1))
  (fun y _=>((intA y).getD 0).toNat) ⟨r.toNat,k,[],.nl,by rw[show((r.toNat:Nat):Int)=r by omega],by simp;omega,hm,hc,hfT,hv1,ho,.nl _ _ _,(fun f h=>by cases h),hk0,by omega⟩ ?_
 rintro _ S1 ⟨i,k',ks,yk,rfl,hi,m1,c1,f1,v1,o1,w1,hks,hk2,hk3⟩ KE hKE
 unfold b41_0
 have mn:=m1.n
 rw[bin_gtr,onB_v]
 refine gd_of (fun h=>?_) (fun h=>?_)
 ·have hpos:0<i:=by have:=dT h;omega
  obtain⟨i',rfl⟩:∃ i',i=i'+1:=⟨i - 1,by omega⟩
  have hd0:0<d:=by
   rcases h5 with h5|h5
   ·have:=hr0.2.2 h5
    omega
   ·exact h5
  obtain⟨d',rfl⟩:∃ d',d=d'+1:=⟨d - 1,by omega⟩
  have hP':=hP d' rfl
  rw[show d'+1 - 1=d' from rfl]at hk3 hks
  have hi2:i'+1≤2:=by omega
  have hrt:r.toNat≤2:=by omega
  have hmul:r.toNat*mostP d'≤2*mostP d':=Nat.mul_le_mul_right _ hrt
  have hsplit:(i'+1)*mostP d'=i'*mostP d'+mostP d':=Nat.succ_mul _ _
  refine L_shift ?_
  refine L_ldp o1 f1 rfl rfl ?_
  refine L_ldp m1.mo (by omega) rfl rfl ?_
  refine⟨aI d',fun T hT=>by rw[bin_sub (by omega) (by omega),show((d'+1:Nat):Int) - 1=d' by omega];exact⟨rfl,rfl⟩,?_⟩
  refine .inl ((ih d' rfl m1 (by omega)).mono ?_)
  rintro e S2 ⟨tr,rfl,f,k2,rfl,m2,c2,hk4,hk5,hf2⟩
  show _∧_
  have o2:=(c2.2 _ f1 (by omega)).trans o1
  have n2:=c2.1
  have w2:Own (fid+1) S2 yk 35 (ks.map Fo.row):=w1.same n2 fun j hj hj2=>c2.2 j hj2 (by omega)
  refine⟨fun T hT=>by rw[ld1_p ((hT.2 _ (by omega)).trans o2) rfl rfl];exact⟨rfl,rfl⟩,fun T hT=>⟨rfl,rfl⟩,?_⟩
  refine⟨.l [f.row],fun T hT=>bslA4 (Fo.row_len f) ⟨rfl,rfl⟩,?_⟩
  refine w2.app (c:=f.row) (by omega) (Fo.row_len f) (by rw[List.length_map];omega) (fun z S3 w3 b3 hz3=>?_) rfl
  obtain⟨m3,hm3⟩:=hz3
  have n3:=b3.1
  have k3:∀ x,x<fid+1→S3.obj x=S2.obj x:=fun x hx=>b3.2 x (by omega) (fun b m e=>by have:=w2.lt e;omega)
  refine L_shift ?_
  refine stF_of ((k3 _ (by omega)).trans o2) (by simp) (by rw[hm3];rfl) fun S4 n4 o4 f4=>?_
  rw[bin_sub (by omega) (by omega),show((i'+1:Nat):Int) - 1=i' by omega]
  have old:∀ x,x<fid→S4.obj x=S2.obj x:=fun x hx=>(f4 x (by omega)).trans (k3 x (by omega))
  refine hKE _ _ ⟨i',k2,ks ++ [f],z,rfl,by simp;omega,m2.mv (by omega) fun x hx=>old x (by omega),(c1.trans c2).low (by omega) fun x hx=>old x (by omega),by omega,(old _ hf).trans ((c2.2 _ (by omega) (by omega)).trans v1),o4,?_,?_,by omega,?_⟩ (by simp[intA])
  ·rw[List.map_append]
   exact w3.st (id:=fid) (fun b m e=>by rw[hm3]at e;injection e;omega) n4 f4
  ·intro g hg
   rcases List.mem_append.1 hg with hg|hg
   ·exact hks g hg
   ·rw[List.mem_singleton.1 hg];exact hf2
  ·show k2+i'*mostP d'≤k0+3+r.toNat*mostP d'
   omega
 ·have hge:i=0:=by have:=dF h;omega
  subst hge
  rw[ldN_p (n:=4) o1 rfl]
  refine stA_of v1 rfl (by rw[List.length_set,Fo.row_len]) fun S2 n2 o2 f2=>?_
  rw[ldN_p (n:=4) o2 rfl]
  have w2:Own (fid+1) S2 yk 35 (ks.map Fo.row):=w1.st (id:=T0.n) (fun b m e=>by have:=w1.lt e;omega) n2 f2
  refine hQ _ (Fo.mk kd nm 0 ks).av S2 ?_ ⟨.mk kd nm 0 ks,k',rfl,m1.st (id:=T0.n) (by omega) n2 f2,c1.st (.inl (Nat.le_refl _)) n2 f2,hk2,?_,.mk _ _ _ _ h1 h2 (by omega) h3 h4 (fun hne=>?_) hks⟩
  ·rw[Fo.av,Fo.row_mk]
   refine .a _ _ rfl fun k u u2 e1 e2=>?_
   match k with
   |0=>cases e1;cases e2;exact .v _
   |1=>cases e1;cases e2;exact .v _
   |2=>cases e1;cases e2;exact .v _
   |3=>cases e1;cases e2;exact own_rows (fun r hr u hu=>by obtain⟨f,_,rfl⟩:=List.mem_map.1 hr;exact Fo.tree f u hu) w2 (by omega)
   |k+4=>simp at e1
  ·rcases Nat.eq_zero_or_pos d with hz|hz
   ·have:r=0:=hr0.2.2 (by omega)
    rw[this]at hk3
    have:=mostP_pos d
    simp at hk3
    omega
   ·obtain⟨d',rfl⟩:∃ d',d=d'+1:=⟨d - 1,by omega⟩
    have hP':=hP d' rfl
    have hmul:r.toNat*mostP d'≤2*mostP d':=Nat.mul_le_mul_right _ (by omega)
    rw[show d'+1 - 1=d' from rfl]at hk3
    omega
  ·rcases h5 with h5|h5
   ·have:=hr0.2.2 h5
    have:ks = []:=List.eq_nil_of_length_eq_zero (by omega)
    exact absurd this hne
   ·exact h5
end
section
variable {b:Nat} {l:List Int} (hl:∀ x∈l,0≤x∧x<256) {d:Nat}
 (ih:∀ d',d=d'+1→∀{k:Nat} {T:Store},Mg b l k T→k+mostP d'≤1000→ACalls Pg 41 [aI d',.p (b+3) 0 0,.p (b+2) 0 0,.p b 0 0,.p (b+4) 0 0] T (fun e T'=>∃ tr,e = .ret tr∧MadeQ b l k d' T tr T'))
include hl ih
theorem rest_of{T0 T:Store}{k0 k:Nat}{kd:Int}{Q:AEnd→Store→Prop}(hm:Mg b l k T)(h0:b+5≤T0.n)(hc:Ch b T0 T)(hT:T0.n<T.n)(hv1:T.obj T0.n=some (.cells 35 [(Fo.mk 0 ⟨#[]⟩ 0 []).row.set 3 .nl] true))
    (h1:1≤kd) (h2:kd≤18) (h5:kd≤3∨0<d) (hd:d≤6) (hk0:k0≤k) (hk:k≤k0+2) (hk1:k0+mostP d≤1000) (hQ:∀ rr tr T',Cv (T'.frz (newer T0.n)) T'.n rr tr→MadeQ b l k0 d T0 tr T'→Q (.ret rr) T'):
    bld [(0,1),(1,1),(2,1),(3,1)] [.v (.int .i64 0),.v (.string ByteArray.empty),.v (.int .i64 0),.nl] [(0,(aI kd))] T fun v11 S=>boxN 35 4 (.a [.v (.int .i64 0),.v (.string ByteArray.empty),.v (.int .i64 0),.nl]) S fun v12 S=>stN 4 v12 v11 S fun v13 S=>bin .eql 0 (aI kd) (.v (.int .i64 3)) S fun v14 S=>onB v14 fun b15=>gd b15 (bslN 9 1 7 [.v (.string ByteArray.empty)] [(0,(.v (.string { data:=#[113] }))),(1,(.v (.string { data:=#[108,48] }))),(2,(.v (.string { data:=#[111,117,116] }))),(3,(.v (.string { data:=#[108,49] }))),(4,(.v (.string { data:=#[105,48] }))),(5,(.v (.string { data:=#[111,48] }))),(6,(.v (.string { data:=#[97,45,98] })))] S fun v16 S=>ld1 (.p (b+3) 0 0) S fun v17 S=>callV Pg v17 [.v (.int .i64 7)] S (fun v18 S=>ixS 9 1 v16 v18 S fun v19 S=>ld1 v19 S fun v20 S=>shift v12 1 S fun v21 S=>stN 1 v21 v20 S fun v22 S=>callF Pg 42 [(aI kd)] S Q fun v23 S=>loopV lv41_0 (vc Pg (c41.at_ [1,1,1,1,1,0,1,0,0]) (ms41.drop 1)) 55 (env41_0 (aI d) (.p (b+4) 0 0) (.p T0.n 0 0) v12 v23) S (blockK 0 (seqK (vc Pg (c41.at_ [1,1,1,1,1,1]) (ms41.drop 1)) (bodyK Pg r41 Q)))) (fun u S=>Q (.pan u) S)) (callF Pg 42 [(aI kd)] S Q fun v24 S=>loopV lv41_0 (vc Pg (c41.at_ [1,1,1,1,1,0,1,0,0]) (ms41.drop 1)) 55 (env41_0 (aI d) (.p (b+4) 0 0) (.p T0.n 0 0) v12 v24) S (blockK 0 (seqK (vc Pg (c41.at_ [1,1,1,1,1,1]) (ms41.drop 1)) (bodyK Pg r41 Q)))):=by
 have hmp:=mostP_pos d
 rw[bld_of (cs:=[aI kd,.v (.string ⟨#[]⟩),aI 0,.nl]) rfl]
 refine boxA_of rfl fun S1 k1 n1 o1=>?_
 refine stA_of (cs':=[aI kd,.v (.string ⟨#[]⟩),aI 0,.nl]) o1 rfl rfl fun S2 n2 o2 f2=>?_
 have k2:=k1.st (Nat.le_refl _) n2 f2
 have m2:=hm.keep k2
 have c2:=hc.trans (Ch.keep (b:=b) k2)
 have v2:=(k2.2 _ hT).trans hv1
 rw[bin_eql,onB_v]
 refine gd_of (fun h=>?_) (fun h=>?_)
 ·have h:kd=3:=dT h
  refine bsl7 ?_
  rw[ld1_p m2.po rfl rfl]
  refine m2.pick hl (by omega) (by omega) fun S3 m3 n3 f3=>?_
  obtain⟨q0,q7⟩:=pickV_rng (l:=l) (k:=k) (n:=7) (fun x hx=>⟨(hl x hx).1,by have:=(hl x hx).2;omega⟩) (by omega)
  generalize pickV l k 7=p at *
  obtain⟨p,rfl⟩:=Int.eq_ofNat_of_zero_le q0
  have hp:p<wordsL.length:=by simp[wordsL];omega
  rw[show ∀ K:AV→Store→Prop,ixS 9 1 (aL (fun a=>.v (.string a)) [⟨#[113]⟩,⟨#[108,48]⟩,⟨#[111,117,116]⟩,⟨#[108,49]⟩,⟨#[105,48]⟩,⟨#[111,48]⟩,⟨#[97,45,98]⟩]) (aI p) S3 K=K (.q [.v (.string wordsL[p])] 0) S3 from fun K=>ixS_aL (l:=wordsL) hp]
  rw[ld1_q,shift_p]
  have o3:=(f3 T.n (by have:=hm.n;omega)).trans o2
  refine stF_of o3 (by simp) rfl fun S4 n4 o4 f4=>?_
  refine callF_ans (ans42 kd) ?_
  exact kids_of ih (nm:=wordsL[p]) (m3.st (id:=T.n) (by have:=hm.n;omega) n4 f4) h0 ((c2.st (.inr rfl) n3 f3).st (.inl (by omega)) n4 f4) (by omega) hT (by omega) ((f4 _ (by omega)).trans ((f3 _ (by omega)).trans v2)) o4 rfl h1 h2 (fun _=>List.getElem_mem _) (fun h'=>absurd h h') h5 hd (by omega) (by omega) hk1 hQ
 ·have h:¬ kd=3:=dF h
  refine callF_ans (ans42 kd) ?_
  exact kids_of ih (nm:=⟨#[]⟩) m2 h0 c2 (by omega) hT (by omega) v2 o2 rfl h1 h2 (fun h'=>absurd h' h) (fun _=>rfl) h5 hd (by omega) (by omega) hk1 hQ
theorem make_step(hd:d≤6){k:Nat}{T:Store}(hm:Mg b l k T)(hk:k+mostP d≤1000):ACalls Pg 41 [aI d,.p (b+3) 0 0,.p (b+2) 0 0,.p b 0 0,.p (b+4) 0 0] T (fun e T'=>∃ tr,e = .ret tr∧MadeQ b l k d T tr T'):=by
 have hmp:=mostP_pos d
 have h0:=hm.n
 refine(ACalls.treeW (Φ:=fun tr T'=>MadeQ b l k d T tr T') (calls41 ?_)).mono ?_
 ·unfold m41
  refine boxA_of (cs:=(Fo.mk 0 ⟨#[]⟩ 0 []).row.set 3 .nl) (by rw[List.length_set,Fo.row_len]) fun S1 k1 n1 o1=>?_
  have hQ:∀ rr tr T',Cv (T'.frz (newer T.n)) T'.n rr tr→MadeQ b l k d T tr T'→∃ r tr,AEnd.ret rr = .ret r∧Cv (T'.frz (newer T.n)) T'.n r tr∧MadeQ b l k d T tr T':=fun rr tr T' h1 h2=>⟨rr,tr,rfl,h1,h2⟩
  have m1:=hm.keep k1
  rw[ld1_p m1.po rfl rfl]
  refine m1.pick hl (by omega) (by omega) fun S2 m2 n2 f2=>?_
  obtain⟨p0,p18⟩:=pickV_rng (l:=l) (k:=k) (n:=18) (fun x hx=>⟨(hl x hx).1,by have:=(hl x hx).2;omega⟩) (by omega)
  generalize pickV l k 18=pk at *
  have c2:Ch b T S2:=(Ch.keep (b:=b) k1).st (.inr rfl) n2 f2
  have v2:=(f2 _ (by omega)).trans o1
  rw[bin_add (by omega) (by omega),bin_eql,onB_v]
  refine gd_of (fun h=>?_) (fun h=>?_)
  ·
   rw[ld1_p m2.po rfl rfl]
   refine m2.pick hl (by omega) (by omega) fun S3 m3 n3 f3=>?_
   obtain⟨q0,q7⟩:=pickV_rng (l:=l) (k:=k+1) (n:=7) (fun x hx=>⟨(hl x hx).1,by have:=(hl x hx).2;omega⟩) (by omega)
   generalize pickV l (k+1) 7=p at *
   have hq:p.tdiv 5=p / 5:=Int.tdiv_eq_ediv_of_nonneg q0
   rw[bin_quo (by omega) (by omega) (by omega),bin_sub (by omega) (by omega)]
   exact rest_of hl ih (kd:=3 - p.tdiv 5) m3 h0 (c2.st (.inr rfl) n3 f3) (by omega) ((f3 _ (by omega)).trans v2) (by omega) (by omega) (.inl (by omega)) hd (by omega) (by omega) hk hQ
  have hd0:¬ (d:Int)=0:=dF h
  rw[ld1_p m2.ao rfl rfl,ld1_p m2.lo rfl rfl,lenS_aL,bin_geq,onB_v]
  refine gd_of (fun h=>?_) (fun h=>?_)
  ·
   rw[ld1_p m2.po rfl rfl]
   refine m2.pick hl (by omega) (by omega) fun S3 m3 n3 f3=>?_
   obtain⟨q0,q7⟩:=pickV_rng (l:=l) (k:=k+1) (n:=7) (fun x hx=>⟨(hl x hx).1,by have:=(hl x hx).2;omega⟩) (by omega)
   generalize pickV l (k+1) 7=p at *
   have hq:p.tdiv 5=p / 5:=Int.tdiv_eq_ediv_of_nonneg q0
   rw[bin_quo (by omega) (by omega) (by omega),bin_sub (by omega) (by omega)]
   exact rest_of hl ih (kd:=3 - p.tdiv 5) m3 h0 (c2.st (.inr rfl) n3 f3) (by omega) ((f3 _ (by omega)).trans v2) (by omega) (by omega) (.inl (by omega)) hd (by omega) (by omega) hk hQ
  rw[ld1_p m2.ao rfl rfl,bin_gtr,onB_v]
  refine gd_of (fun h=>?_) (fun h=>?_)
  ·
   rw[ld1_p m2.po rfl rfl]
   refine m2.pick hl (by omega) (by omega) fun S3 m3 n3 f3=>?_
   obtain⟨q0,q7⟩:=pickV_rng (l:=l) (k:=k+1) (n:=7) (fun x hx=>⟨(hl x hx).1,by have:=(hl x hx).2;omega⟩) (by omega)
   generalize pickV l (k+1) 7=p at *
   have hq:p.tdiv 5=p / 5:=Int.tdiv_eq_ediv_of_nonneg q0
   rw[bin_quo (by omega) (by omega) (by omega),bin_sub (by omega) (by omega)]
   exact rest_of hl ih (kd:=3 - p.tdiv 5) m3 h0 (c2.st (.inr rfl) n3 f3) (by omega) ((f3 _ (by omega)).trans v2) (by omega) (by omega) (.inl (by omega)) hd (by omega) (by omega) hk hQ
  exact rest_of hl ih (kd:=1+pk) m2 h0 c2 (by omega) v2 (by omega) (by omega) (.inr (by omega)) hd (by omega) (by omega) hk hQ
 ·rintro e T' ⟨tr,T1,rfl,rfl,f,k',rfl,m',c',h1,h2,h3⟩
  have old:∀ i,i<T.n→(T1.frz (newer T.n)).obj i=T1.obj i:=fun i hi=>frz_false (by simp[newer];omega)
  exact⟨_,rfl,f,k',rfl,m'.mv (Nat.le_refl _) fun i hi=>old i (by omega),⟨c'.1,fun i hi hb=>(old i hi).trans (c'.2 i hi hb)⟩,h1,h2,h3⟩
end
theorem make_of{b:Nat}{l:List Int}(hl:∀ x∈l,0≤x∧x<256):∀{d:Nat},d≤6→∀{k:Nat} {T:Store},Mg b l k T→k+mostP d≤1000→ACalls Pg 41 [aI d,.p (b+3) 0 0,.p (b+2) 0 0,.p b 0 0,.p (b+4) 0 0] T (fun e T'=>∃ tr,e = .ret tr∧MadeQ b l k d T tr T'):=by
 intro d
 induction d with
 |zero=>exact fun hd {k T} hm hk=>make_step hl (fun d' h=>by omega) hd hm hk
 |succ d ih =>
  intro hd k T hm hk
  refine make_step hl (fun d' h {k T} hm hk=>?_) hd hm hk
  obtain rfl:d=d':=by omega
  exact ih (by omega) hm hk
theorem made16{l:List Int}(hl:∀ x∈l,0≤x∧x<256){S:Store}:ACalls Pg 16 [aL aU8 l] S (fun e S'=>∃ tr,e = .ret tr∧S'=S∧∃ f:Fo,tr=f.av∧MadeF 6 f):=by
 refine ACalls.treeE (calls16 ?_)
 unfold m16
 refine box1_of rfl fun S1 k1 n1 o1=>?_
 refine boxA_of rfl fun S2 k2 n2 o2=>?_
 refine box1_of rfl fun S3 k3 n3 o3=>?_
 refine st_of o3 rfl rfl fun S4 n4 o4 f4=>?_
 refine box1_of rfl fun S5 k5 n5 o5=>?_
 refine st_of o5 rfl rfl fun S6 n6 o6 f6=>?_
 refine box1_of rfl fun S7 k7 n7 o7=>?_
 refine st_of o7 rfl rfl fun S8 n8 o8 f8=>?_
 rw[ld1_p o8 rfl rfl]
 have e2:S2.n=S.n+2:=by omega
 have e4:S4.n=S.n+3:=by omega
 have e6:S6.n=S.n+4:=by omega
 rw[e2]at o3 o4 f4
 rw[e4]at o5 o6 f6
 rw[e6]at o7 o8 f8
 have q8:∀ i,i<S.n+4→S8.obj i=S6.obj i:=fun i hi=>(f8 i (by omega)).trans (k7.2 i (by omega))
 have q6:∀ i,i<S.n+3→S8.obj i=S4.obj i:=fun i hi=>(q8 i (by omega)).trans ((f6 i (by omega)).trans (k5.2 i (by omega)))
 have q4:∀ i,i<S.n+2→S8.obj i=S2.obj i:=fun i hi=>(q6 i (by omega)).trans ((f4 i (by omega)).trans (k3.2 i (by omega)))
 have hm:Mg S.n l 0 S8:=⟨by omega,(q4 _ (by omega)).trans ((k2.2 _ (by omega)).trans o1),(q6 _ (by omega)).trans o4,(q8 _ (by omega)).trans (by rw[o6,e2];rfl),by rw[o8,e2,e4];rfl⟩
 refine .inl ?_
 rw[e2,e4,e6]
 refine(make_of (d:=6) hl (Nat.le_refl _) hm (by decide)).mono ?_
 rintro e S9 ⟨tr,rfl,f,k',rfl,m9,c9,_,_,hf⟩
 show stN 4 _ _ _ _
 have n9:=m9.n
 have c9n:=c9.1
 refine stA_of ((c9.2 S1.n (by omega) (by omega)).trans ((q4 _ (by omega)).trans o2)) (Fo.row_len f) rfl fun S10 n10 o10 f10=>?_
 rw[ldN_p (n:=4) o10 (Fo.row_len f)]
 refine⟨_,f.av,rfl,⟨by omega,fun i hi=>(f10 i (by omega)).trans ((c9.2 i (by omega) (by omega)).trans ((q4 i (by omega)).trans ((k2.2 i (by omega)).trans (k1.2 i hi))))⟩,Tree.a (fun u hu=>Fo.tree f u hu) _ _,f,rfl,hf⟩
def litV(m:Int)(n:ByteArray):Int:=((n.size:Int)*7+(n[0]!).toNat).tmod (if 1 > m then 1 else m)
mutual
def Fo.litsF(m:Int):Fo→Fo
 |.mk k n _ ks=>.mk k ⟨#[]⟩ (if k=3 then litV m n else 0) (Fo.litsFs m ks)
def Fo.litsFs(m:Int):List Fo→List Fo
 |[]=>[]
 |f :: fs=>Fo.litsF m f :: Fo.litsFs m fs
end
theorem Fo.litsFs_map(m:Int):∀ l:List Fo,Fo.litsFs m l=l.map (Fo.litsF m)
 |[]=>by rw[Fo.litsFs];rfl
 |f :: fs=>by rw[Fo.litsFs,Fo.litsFs_map m fs];rfl
theorem Fo.litsF_mk(m k:Int)(n:ByteArray)(l:Int)(ks:List Fo):Fo.litsF m (.mk k n l ks) = .mk k ⟨#[]⟩ (if k=3 then litV m n else 0) (ks.map (Fo.litsF m)):=by rw[Fo.litsF,Fo.litsFs_map]
theorem litV_rng{m:Int}(n:ByteArray):0≤litV m n∧litV m n<max m 1:=by
 unfold litV
 have h:(0:Int)<(if 1 > m then 1 else m):=by split<;>omega
 have h0:(0:Int)≤(n.size:Int)*7+(n[0]!).toNat:=by omega
 have h3:(if 1 > m then 1 else m)≤max m 1:=by split<;>omega
 generalize(if 1 > m then 1 else m)=q at *
 rw[Int.tmod_eq_emod_of_nonneg h0]
 have h1:=Int.emod_nonneg ((n.size:Int)*7+(n[0]!).toNat) (show q≠0 by omega)
 have h2:=Int.emod_lt_of_pos ((n.size:Int)*7+(n[0]!).toNat) h
 exact⟨h1,by omega⟩
theorem litsF_ok{m:Int}(hm:m≤9223372036854775807):∀(f:Fo) (d:Nat),MadeF d f→(f.litsF m).ok∧(f.litsF m).mayB (d+1)=true∧∀ g:Gr,(∀ l:Int,0≤l→l<max m 1→g.lit l=true)→(f.litsF m).litsB g=true:=by
 intro f
 induction f using Fo.ind with
 |h k n l ks ih =>
  intro d h
  cases h with
  |mk d _ _ _ h1 h2 h3 h4 h5 h6 h =>
   have hk:=kidsN_le k
   have hv:=litV_rng (m:=m) n
   rw[Fo.litsF_mk]
   refine⟨.mk _ _ _ _ ⟨by omega,by omega⟩ (by unfold i64R;split<;>omega) (by decide) (by rw[List.length_map];omega) fun g hg=>?_,?_,fun g hg=>?_⟩
   ·obtain⟨f,hf,rfl⟩:=List.mem_map.1 hg
    exact(ih f hf _ (h f hf)).1
   ·rw[Fo.mayB_mk]
    simp only[Bool.and_eq_true,decide_eq_true_eq,List.all_eq_true,List.length_map]
    refine⟨by omega,?_,trivial,h3,fun g hg=>?_⟩
    ·split
     ·rename_i hk3
      rcases Int.lt_or_eq_of_le hv.1 with h|h
      ·exact .inr ⟨h,hk3⟩
      ·exact .inl h.symm
     ·exact .inl rfl
    ·obtain⟨f,hf,rfl⟩:=List.mem_map.1 hg
     have:=(ih f hf _ (h f hf)).2.1
     have hd:=h6 (fun e=>by subst e;cases hf)
     rwa [show((d - 1:Nat):Int)+1=(d:Int)+1 - 1 by omega]at this
   ·rw[Fo.litsB_mk]
    simp only[Bool.and_eq_true,Bool.or_eq_true,decide_eq_true_eq,List.all_eq_true]
    refine⟨?_,fun g' hg'=>?_⟩
    ·by_cases hk3:k=3
     ·rw[if_pos hk3];exact .inr (hg _ hv.1 hv.2)
     ·exact .inl hk3
    ·obtain⟨f,hf,rfl⟩:=List.mem_map.1 hg'
     exact(ih f hf _ (h f hf)).2.2 g hg
theorem mayB_mono:∀(f:Fo) {d d':Int},d≤d'→f.mayB d=true→f.mayB d'=true:=by
 intro f
 induction f using Fo.ind with
 |h k n l ks ih =>
  intro d d' hd h
  rw[Fo.mayB_mk]at h ⊢
  simp only[Bool.and_eq_true,decide_eq_true_eq,List.all_eq_true]at h ⊢
  obtain⟨h1,h2,h3,h4,h5⟩:=h
  exact⟨by omega,h2,h3,h4,fun f hf=>ih f hf (by omega) (h5 f hf)⟩
theorem word0{n:ByteArray}(h:n∈wordsL):0<n.size∧n.size≤3:=by
 simp only[wordsL,List.mem_cons,List.not_mem_nil,or_false]at h
 rcases h with rfl|rfl|rfl|rfl|rfl|rfl|rfl<;>decide
theorem ans50{m:Int}(hm:i64R m):∀(f:Fo) (d:Nat),MadeF d f→Ans Pg 50 [f.av,aI m] (f.litsF m).av:=by
 intro f
 induction f using Fo.ind with
 |h k n l ks ih =>
  intro d h S
  have hok:=h.ok
  cases h with
  |mk d _ _ _ h1 h2 h3 h4 h5 h6 hks =>
  have hkl:=kidsN_le k
  refine ACalls.tree (calls50 ?_)
  unfold m50
  rw[Fo.av,Fo.row_mk]
  refine boxA_of rfl fun S1 k1 n1 o1=>?_
  refine boxA_of rfl fun S2 k2 n2 o2=>?_
  have p2:=(k2.2 _ (by omega)).trans o1
  rw[shift_p,ld1_p p2 rfl rfl,bld_of (cs:=[aI k,.v (.string ⟨#[]⟩),aI 0,.nl]) rfl]
  refine boxA_of rfl fun S3 k3 n3 o3=>?_
  refine stA_of (cs':=[aI k,.v (.string ⟨#[]⟩),aI 0,.nl]) o3 rfl rfl fun S4 n4 o4 f4=>?_
  have k4:=k3.st (Nat.le_refl _) n4 f4
  have p4:=(k4.2 _ (by omega)).trans p2
  have r4:=(k4.2 _ (by omega)).trans o2
  have kk:=(k1.trans k2).trans k4
  have tail:∀(T:Store) (v:Int),v=(if k=3 then litV m n else 0)→Keep S T→S4.n≤T.n→T.obj S.n=some (.cells 35 [[aI k,.v (.string n),aI 0,foL ks]] true)→T.obj S1.n=some (.cells 35 [[.v (.int .i64 0),.v (.string ByteArray.empty),.v (.int .i64 0),.nl]] true)→
      T.obj S2.n=some (.cells 35 [[aI k,.v (.string ⟨#[]⟩),aI v,.nl]] true)→
      loopV lv50_0 (vc Pg (c50.at_ [1,1,1,0,1,0,0]) (ms50.drop 1)) 46 (env50_0 (aI m) (.p S.n 0 0) (.p S1.n 0 0) (.p S2.n 0 0) (.v (.int .i64 0))) T (blockK 0 (seqK (vc Pg (c50.at_ [1,1,1,1]) (ms50.drop 1)) (bodyK Pg r50 fun e S'=>∃ r,e = .ret r∧Keep S S'∧Cv (S'.frz (newer S.n)) S.n r (Fo.litsF m (.mk k n 0 ks)).av))):=by
   intro T v hv kT nT oa ob oc
   refine loop50_0 (fun y S'=>∃(i:Nat) (z:AV),y=aI i∧i≤ks.length∧Keep S S'∧S4.n≤S'.n∧S'.obj S.n=some (.cells 35 [[aI k,.v (.string n),aI 0,foL ks]] true)∧S'.obj S1.n=some (.cells 35 [[.v (.int .i64 0),.v (.string ByteArray.empty),.v (.int .i64 0),.nl]] true)∧
       S'.obj S2.n=some (.cells 35 [[aI k,.v (.string ⟨#[]⟩),aI v,z]] true)∧Own S4.n S' z 35 (((ks.take i).map (Fo.litsF m)).map Fo.row))
    (fun y _=>ks.length - ((intA y).getD 0).toNat) ⟨0,.nl,rfl,Nat.zero_le _,kT,nT,oa,ob,oc,.nl _ _ _⟩ ?_
   rintro _ S5 ⟨i,z,rfl,hi,k5,n5,oa,ob,oc,w5⟩ KE hKE
   unfold b50_0
   rw[shift_p,ld1_p oa rfl rfl,lenS_foL,bin_lss,onB_v]
   refine gd_of (fun hlt=>?_) (fun hge=>?_)
   ·have hlt:i<ks.length:=by have:=dT hlt;omega
    have hmem:=List.getElem_mem hlt
    refine L_shift ?_
    refine L_ldp oc (by omega) rfl rfl ?_
    refine L_shift ?_
    refine L_ldp oa (by omega) rfl rfl ?_
    refine⟨_,fun T hT=>by rw[ixS_foL hlt];exact⟨rfl,rfl⟩,?_⟩
    refine L_ldNq (Fo.row_len _) ?_
    refine L_callA (ih _ hmem _ (hks _ hmem)) ?_
    refine⟨.l [(Fo.litsF m ks[i]).row],fun T hT=>bslA4 (Fo.row_len _) ⟨rfl,rfl⟩,?_⟩
    refine w5.app (c:=(Fo.litsF m ks[i]).row) (by omega) (Fo.row_len _) (by simp;omega) (fun z' S6 w6 b6 hz=>?_) rfl
    obtain⟨m6,hm6⟩:=hz
    have n6:=b6.1
    have old6:∀ x,x<S4.n→S6.obj x=S5.obj x:=fun x hx=>b6.2 x (by omega) (fun b m e=>by have:=w5.lt e;omega)
    refine L_shift ?_
    refine stF_of ((old6 _ (by omega)).trans oc) (by simp) (by rw[hm6];rfl) fun S7 n7 o7 f7=>?_
    rw[bin_add (by omega) (by omega)]
    have old7:∀ x,x<S2.n→S7.obj x=S5.obj x:=fun x hx=>(f7 x (by omega)).trans (old6 x (by omega))
    refine hKE _ _ ⟨i+1,z',rfl,hlt,⟨by have:=k5.1;omega,fun x hx=>(old7 x (by omega)).trans (k5.2 x hx)⟩,by omega,(old7 _ (by omega)).trans oa,(old7 _ (by omega)).trans ob,o7,?_⟩ (by simp[intA];omega)
    rw[List.take_add_one,List.getElem?_eq_getElem hlt,List.map_append,List.map_append]
    exact w6.st (id:=S2.n) (fun b m e=>by rw[hm6]at e;injection e;omega) n7 f7
   ·have hge:i=ks.length:=by have:=dF hge;omega
    subst hge
    rw[ldN_p (n:=4) oc rfl]
    refine stA_of ob rfl rfl fun S6 n6 o6 f6=>?_
    rw[ldN_p (n:=4) o6 rfl]
    have w6:Own S4.n S6 z 35 _:=w5.st (id:=S1.n) (fun b m e=>by have:=w5.lt e;omega) n6 f6
    rw[List.take_length]at w6
    refine⟨_,rfl,k5.st (by omega) n6 f6,?_⟩
    rw[Fo.litsF_mk,Fo.av,Fo.row_mk,←hv]
    refine .a _ _ rfl fun k u u2 e1 e2=>?_
    match k with
    |0=>cases e1;cases e2;exact .v _
    |1=>cases e1;cases e2;exact .v _
    |2=>cases e1;cases e2;exact .v _
    |3=>cases e1;cases e2;exact own_rows (fun r hr u hu=>by obtain⟨f,_,rfl⟩:=List.mem_map.1 hr;exact Fo.tree f u hu) w6 (by omega)
    |k+4=>simp at e1
  rw[shift_p,ld1_p p4 rfl rfl,bin_eql,onB_v]
  refine gd_of (fun hk3=>?_) (fun hk3=>?_)
  ·have hk3:k=3:=dT hk3
   obtain⟨hn0,hn3⟩:=word0 (h4 hk3)
   have hb:((n[0]!).toNat)≤255:=by have:=(n[0]!).toNat_lt;omega
   have hne:(if 1 > m then 1 else m)≠0:=by split<;>omega
   refine L_shift ?_
   refine L_ldp p4 (by omega) rfl rfl ?_
   refine⟨_,fun T hT=>by rw[lenStr_b];exact⟨rfl,rfl⟩,?_⟩
   refine⟨_,fun T hT=>by rw[bin_mul (by omega) (by omega)];exact⟨rfl,rfl⟩,?_⟩
   refine L_shift ?_
   refine L_ldp p4 (by omega) rfl rfl ?_
   refine⟨_,fun T hT=>by rw[show ∀ K:AV→Store→Prop,ixStr (.v (.string n)) (.v (.int .i64 0)) T K=K (.v (.int .u8 (n[0]!).toNat)) T from fun K=>(ixStr_b (i:=0) hn0).trans (by rw[getElem!_pos n 0 hn0])];exact⟨rfl,rfl⟩,?_⟩
   refine⟨_,fun T hT=>by rw[convI_64 _ (by omega) (by omega)];exact⟨rfl,rfl⟩,?_⟩
   refine⟨_,fun T hT=>by rw[bin_add (by omega) (by omega)];exact⟨rfl,rfl⟩,?_⟩
   refine⟨_,fun T hT=>by rw[mx_true];exact⟨rfl,rfl⟩,?_⟩
   refine⟨_,fun T hT=>by rw[bin_rem hne];exact⟨rfl,rfl⟩,?_⟩
   refine L_shift ?_
   refine stF_of o4 (by simp) rfl fun S5 n5 o5 f5=>?_
   exact tail S5 _ (by rw[if_pos hk3];rfl) (kk.st (by omega) n5 f5) (by omega) ((f5 _ (by omega)).trans p4) ((f5 _ (by omega)).trans r4) o5
  ·have hk3:¬ k=3:=dF hk3
   exact tail S4 0 (by rw[if_neg hk3]) kk (Nat.le_refl _) p4 r4 o4
mutual
def Fo.resOk (c:Ci):Fo→Bool
 |.mk k n _ ks=>(!decide (k=3) || decide (0≤findB c n)) && Fo.resOks c ks
def Fo.resOks (c:Ci):List Fo→Bool
 |[]=>true
 |f :: fs=>Fo.resOk c f && Fo.resOks c fs
end
theorem Fo.resOks_all(c:Ci):∀ l:List Fo,Fo.resOks c l=l.all (Fo.resOk c)
 |[]=>by rw[Fo.resOks];rfl
 |f :: fs=>by rw[Fo.resOks,Fo.resOks_all c fs];rfl
theorem Fo.resOk_mk(c:Ci)(k:Int)(n:ByteArray)(l:Int)(ks:List Fo):Fo.resOk c (.mk k n l ks)=((!decide (k=3) || decide (0≤findB c n)) && ks.all (Fo.resOk c)):=by rw[Fo.resOk,Fo.resOks_all]
mutual
def Fo.resV (c:Ci):Fo→Fo
 |.mk k n _ ks=>.mk k ⟨#[]⟩ (if k=3 then findB c n else 0) (Fo.resVs c ks)
def Fo.resVs (c:Ci):List Fo→List Fo
 |[]=>[]
 |f :: fs=>Fo.resV c f :: Fo.resVs c fs
end
theorem Fo.resVs_map(c:Ci):∀ l:List Fo,Fo.resVs c l=l.map (Fo.resV c)
 |[]=>by rw[Fo.resVs];rfl
 |f :: fs=>by rw[Fo.resVs,Fo.resVs_map c fs];rfl
theorem Fo.resV_mk(c:Ci)(k:Int)(n:ByteArray)(l:Int)(ks:List Fo):Fo.resV c (.mk k n l ks) = .mk k ⟨#[]⟩ (if k=3 then findB c n else 0) (ks.map (Fo.resV c)):=by rw[Fo.resV,Fo.resVs_map]
inductive Fo.short:Fo→Prop
 |mk (k:Int) (n:ByteArray) (l:Int) (ks:List Fo) (h:n.size≤19) (hk:∀ f∈ks,Fo.short f):Fo.short (.mk k n l ks)
abbrev F0:Fo:=.mk 0 ⟨#[]⟩ 0 []
def resT (c:Ci) (f:Fo):AV:=if f.resOk c=true then .t [(f.resV c).av,aI 0]else .t [F0.av,aI 42]
theorem cv_F0{S:Store}{n:Nat}:Cv S n (.a [aI 0,.v (.string ⟨#[]⟩),aI 0,.nl]) F0.av:=by
 rw[Fo.av,Fo.row_mk]
 refine .a _ _ rfl fun k u u2 e1 e2=>?_
 match k with
 |0=>cases e1;cases e2;exact .v _
 |1=>cases e1;cases e2;exact .v _
 |2=>cases e1;cases e2;exact .v _
 |3=>cases e1;cases e2;exact .nl
 |k+4=>simp at e1
abbrev zeroF:AV:=.a [.v (.int .i64 0),.v (.string ByteArray.empty),.v (.int .i64 0),.nl]
theorem bld0{S:Store}{K:AV→Store→Prop}:bld [(0,1),(1,1),(2,1),(3,1)] [.v (.int .i64 0),.v (.string ByteArray.empty),.v (.int .i64 0),.nl] [] S K=K zeroF S:=bld_of rfl
theorem resT_no{c:Ci}{f:Fo}(h:f.resOk c=false):resT c f = .t [F0.av,aI 42]:=by unfold resT;rw[h];rfl
theorem resT_ok{c:Ci}{f:Fo}(h:f.resOk c=true):resT c f = .t [(f.resV c).av,aI 0]:=by unfold resT;rw[h];rfl
theorem res_end{c:Ci}{k v l:Int}{n:ByteArray}{ks:List Fo}{S S':Store}{N:Nat}{z:AV}(hN:S.n≤N)(hv:v=(if k=3 then findB c n else 0))(hok:Fo.resOk c (.mk k n l ks)=true)(w:Own N S' z 35 ((ks.map (Fo.resV c)).map Fo.row)):
    Cv (S'.frz (newer S.n)) S.n (.t [.a [aI k,.v (.string ⟨#[]⟩),aI v,z],aI 0]) (resT c (.mk k n l ks)):=by
 rw[resT_ok hok,Fo.resV_mk,Fo.av,Fo.row_mk,←hv]
 refine cv_t2 (.a _ _ rfl fun k u u2 e1 e2=>?_) (.v _)
 match k with
 |0=>cases e1;cases e2;exact .v _
 |1=>cases e1;cases e2;exact .v _
 |2=>cases e1;cases e2;exact .v _
 |3=>cases e1;cases e2;exact own_rows (fun r hr u hu=>by obtain⟨f,_,rfl⟩:=List.mem_map.1 hr;exact Fo.tree f u hu) w hN
 |k+4=>simp at e1
structure Rs (c:Ci) (k v:Int) (n:ByteArray) (l:Int) (ks:List Fo) (S S':Store) (i:Nat) (z:AV):Prop where
 le:i≤ks.length
 keep:Keep S S'
 sz:S.n+4≤S'.n
 oc:S'.obj S.n=some (.cells 29 [c.cells] true)
 of:S'.obj (S.n+1)=some (.cells 35 [[aI k,.v (.string n),aI l,foL ks]] true)
 or:S'.obj (S.n+2)=some (.cells 35 [[.v (.int .i64 0),.v (.string ByteArray.empty),.v (.int .i64 0),.nl]] true)
 oo:S'.obj (S.n+3)=some (.cells 35 [[aI k,.v (.string ⟨#[]⟩),aI v,z]] true)
 w:Own (S.n+4) S' z 35 (((ks.take i).map (Fo.resV c)).map Fo.row)
 all:∀ j (h:j<ks.length),j<i→ks[j].resOk c=true
theorem Rs.low{c:Ci}{k v l:Int}{n:ByteArray}{ks:List Fo}{S S' T:Store}{i:Nat}{z:AV}(h:Rs c k v n l ks S S' i z)(kT:Keep S' T):Rs c k v n l ks S T i z:=
 have hn:=h.sz
 ⟨h.le,h.keep.trans kT,by have:=kT.1;omega,(kT.2 _ (by omega)).trans h.oc,(kT.2 _ (by omega)).trans h.of,(kT.2 _ (by omega)).trans h.or,(kT.2 _ (by omega)).trans h.oo,h.w.same kT.1 fun j _ hj=>kT.2 j hj,h.all⟩
theorem Rs.app{c:Ci}{k v l:Int}{n:ByteArray}{ks:List Fo}{S S':Store}{i:Nat}{z:AV}(h:Rs c k v n l ks S S' i z)(hk:ks.length≤1000000)(hlt:i<ks.length)(hok:ks[i].resOk c=true){K:Store→Prop}
    (kk:∀ S'' z',Rs c k v n l ks S S'' (i+1) z'→K S''):appS 35 4 56 z (.l [(Fo.resV c ks[i]).row]) S' fun v T=>shift (.p (S.n+3) 0 0) 3 T fun p T=>stN 1 p v T fun _ T=>K T:=by
 have hn:=h.sz
 refine h.w.app (c:=(Fo.resV c ks[i]).row) (by omega) (Fo.row_len _) (by simp;omega) (fun z' S6 w6 b6 hz=>?_) rfl
 obtain⟨m6,hm6⟩:=hz
 have n6:=b6.1
 have old6:∀ x,x<S.n+4→S6.obj x=S'.obj x:=fun x hx=>b6.2 x (by omega) (fun b m e=>by have:=h.w.lt e;omega)
 rw[shift_p]
 refine stF_of ((old6 _ (by omega)).trans h.oo) (by simp) (by rw[hm6];rfl) fun S7 n7 o7 f7=>?_
 have old7:∀ x,x<S.n+3→S7.obj x=S'.obj x:=fun x hx=>(f7 x (by omega)).trans (old6 x (by omega))
 refine kk S7 z' ⟨hlt,⟨by have:=h.keep.1;omega,fun x hx=>(old7 x (by omega)).trans (h.keep.2 x hx)⟩,by omega,(old7 _ (by omega)).trans h.oc,(old7 _ (by omega)).trans h.of,(old7 _ (by omega)).trans h.or,o7,?_,lt_step (p:=fun f=>f.resOk c=true) (hi:=hlt) h.all hok⟩
 rw[List.take_add_one,List.getElem?_eq_getElem hlt,List.map_append,List.map_append]
 exact w6.st (id:=S.n+3) (fun b m e=>by rw[hm6]at e;injection e;omega) n7 f7
theorem rs_start{c:Ci}{k l:Int}{n:ByteArray}{ks:List Fo}{S S1 S2 S3 S4 S5:Store}(k1:Keep S S1)(n1:S1.n=S.n+1)(o1:S1.obj S.n=some (.cells 29 [c.cells] true))(k2:Keep S1 S2)(n2:S2.n=S1.n+1)(o2:S2.obj S1.n=some (.cells 35 [[aI k,.v (.string n),aI l,foL ks]] true))
    (k3:Keep S2 S3) (n3:S3.n=S2.n+1) (o3:S3.obj S2.n=some (.cells 35 [[.v (.int .i64 0),.v (.string ByteArray.empty),.v (.int .i64 0),.nl]] true)) (k4:Keep S3 S4) (n4:S4.n=S3.n+1) (n5:S5.n=S4.n) (o5:S5.obj S3.n=some (.cells 35 [[aI k,.v (.string ⟨#[]⟩),aI 0,.nl]] true)) (f5:∀ x,x≠S3.n→S5.obj x=S4.obj x):Rs c k 0 n l ks S S5 0 .nl:=by
 have e1:S1.n=S.n+1:=n1
 have e2:S2.n=S.n+2:=by omega
 have e3:S3.n=S.n+3:=by omega
 rw[e1]at o2;rw[e2]at o3;rw[e3]at o5 f5
 have old:∀ x,x<S.n+3→S5.obj x=S3.obj x:=fun x hx=>(f5 x (by omega)).trans (k4.2 x (by omega))
 exact⟨Nat.zero_le _,⟨by omega,fun x hx=>(old x (by omega)).trans (((k1.trans k2).trans k3).2 x hx)⟩,by omega,(old _ (by omega)).trans ((k3.2 _ (by omega)).trans ((k2.2 _ (by omega)).trans o1)),(old _ (by omega)).trans ((k3.2 _ (by omega)).trans o2),(old _ (by omega)).trans o3,o5,.nl _ _ _,fun j _ hj=>(Nat.not_lt_zero _ hj).elim⟩
theorem rs_fail{c:Ci}{f:Fo}{S S':Store}{id t:Nat}(hid:S.n≤id)(hk:Keep S S')(o:S'.obj id=some (.cells t [[.v (.int .i64 0),.v (.string ByteArray.empty),.v (.int .i64 0),.nl]] true))(hno:f.resOk c=false):
    stN 4 (.p id 0 0) zeroF S' fun _ T=>ldN 4 (.p id 0 0) T fun v T=>∃ r,AEnd.ret (.t [v,.v (.int .i64 42)]) = .ret r∧Keep S T∧Cv (T.frz (newer S.n)) S.n r (resT c f):=by
 refine stA_of o rfl rfl fun S6 n6 o6 f6=>?_
 rw[ldN_p (n:=4) o6 rfl]
 refine⟨_,rfl,hk.st hid n6 f6,?_⟩
 rw[resT_no hno]
 exact cv_t2 cv_F0 (.v _)
theorem ans47{c:Ci}(hc:c.ok):∀(f:Fo),f.ok→f.short→Ans Pg 47 [c.av,f.av] (resT c f):=by
 intro f
 induction f using Fo.ind with
 |h k n l ks ih =>
  intro hok hsh S
  obtain⟨h1,h2,h3,h4,h5⟩:=hok.inv
  cases hsh with
  |mk _ _ _ _ hs hss =>
  refine ACalls.tree (calls47 ?_)
  unfold m47
  rw[Fo.av,Fo.row_mk]
  refine boxA_of rfl fun S1 k1 n1 o1=>?_
  refine boxA_of rfl fun S2 k2 n2 o2=>?_
  refine boxA_of rfl fun S3 k3 n3 o3=>?_
  rw[shift_p,ld1_p ((k3.2 _ (by omega)).trans o2) rfl rfl,bld_of (cs:=[aI k,.v (.string ⟨#[]⟩),aI 0,.nl]) rfl]
  refine boxA_of rfl fun S4 k4 n4 o4=>?_
  refine stA_of (cs':=[aI k,.v (.string ⟨#[]⟩),aI 0,.nl]) o4 rfl rfl fun S5 n5 o5 f5=>?_
  have rs:=rs_start (c:=c) k1 n1 o1 k2 n2 o2 k3 n3 o3 k4 n4 n5 o5 f5
  have e1:S1.n=S.n+1:=n1
  have e2:S2.n=S.n+2:=by omega
  have e3:S3.n=S.n+3:=by omega
  rw[e1,e2,e3]
  have tail:∀(T:Store) (v:Int),v=(if k=3 then findB c n else 0)→(!decide (k=3) || decide (0≤findB c n))=true→Rs c k v n l ks S T 0 .nl→
      shift (.p (S.n+1) 0 0) 3 T fun v29 S'=>ld1 v29 S' fun v30 S'=>lenS v30 S' fun v31 S'=>loopV lv47_0 (vc Pg (c47.at_ [1,1,1,0,1,0,0]) (ms47.drop 1)) 51 (env47_0 (.p S.n 0 0) (.p (S.n+2) 0 0) (.p (S.n+3) 0 0) v30 v31 (.v (.int .i64 0))) S' (blockK 0 (seqK (vc Pg (c47.at_ [1,1,1,1]) (ms47.drop 1)) (bodyK Pg r47 fun e S'=>∃ r,e = .ret r∧Keep S S'∧Cv (S'.frz (newer S.n)) S.n r (resT c (.mk k n l ks))))):=by
   intro T v hv hat rs
   rw[shift_p,ld1_p (u:=foL ks) rs.of rfl rfl,lenS_foL]
   refine loop47_0 (fun y S'=>∃(i:Nat) (z:AV),y=aI i∧Rs c k v n l ks S S' i z) (fun y _=>ks.length - ((intA y).getD 0).toNat) ⟨0,.nl,rfl,rs⟩ ?_
   rintro _ S6 ⟨i,z,rfl,rs⟩ KE hKE
   unfold b47_0
   rw[bin_lss,onB_v]
   refine gd_of (fun hlt=>?_) (fun hge=>?_)
   ·have hlt:i<ks.length:=by have:=dT hlt;omega
    have hmem:=List.getElem_mem hlt
    rw[ixS_foL hlt,ldN_q (Fo.row_len _)]
    refine boxA_of rfl fun S7 k7 n7 o7=>?_
    refine stA_of o7 (Fo.row_len ks[i]) rfl fun S8 n8 o8 f8=>?_
    have k8:=k7.st (Nat.le_refl _) n8 f8
    have rs8:=rs.low k8
    rw[ldN_p (n:=8) rs8.oc rfl,ldN_p (n:=4) o8 (Fo.row_len _)]
    refine callF_ans (ih _ hmem (h5 _ hmem) (hss _ hmem)) ?_
    cases hr:ks[i].resOk c with
    |false =>
     rw[resT_no hr,extr0,extr1]
     refine boxA_of rfl fun S9 k9 n9 o9=>?_
     refine stA_of o9 (Fo.row_len F0) rfl fun S10 n10 o10 f10=>?_
     have k10:=k9.st (Nat.le_refl _) n10 f10
     have rs10:=rs8.low k10
     rw[bin_neq,onB_v,gd_T (by decide),bld0]
     exact rs_fail (by omega) rs10.keep rs10.or (by rw[Fo.resOk_mk,all_no hlt hr,Bool.and_false])
    |true =>
     rw[resT_ok hr,extr0,extr1]
     refine boxA_of rfl fun S9 k9 n9 o9=>?_
     refine stA_of o9 (Fo.row_len (ks[i].resV c)) rfl fun S10 n10 o10 f10=>?_
     have k10:=k9.st (Nat.le_refl _) n10 f10
     have rs10:=rs8.low k10
     rw[bin_neq,onB_v,gd_F (by decide),shift_p,ld1_p (u:=z) rs10.oo rfl rfl,ldN_p (n:=4) o10 (Fo.row_len _)]
     refine bslA4 (Fo.row_len _) ?_
     refine rs10.app h4 hlt hr fun S11 z' rs11=>?_
     rw[bin_add (by omega) (by omega)]
     exact hKE _ _ ⟨i+1,z',rfl,rs11⟩ (by simp[intA];omega)
   ·have hge:i=ks.length:=by have:=dF hge;have:=rs.le;omega
    subst hge
    rw[ldN_p (n:=4) rs.oo rfl]
    refine stA_of rs.or rfl rfl fun S7 n7 o7 f7=>?_
    rw[ldN_p (n:=4) o7 rfl]
    have w7:=rs.w.st (id:=S.n+2) (fun b m e=>by have:=rs.w.lt e;omega) n7 f7
    rw[List.take_length]at w7
    exact⟨_,rfl,rs.keep.st (by omega) n7 f7,res_end (by omega) hv (by rw[Fo.resOk_mk,hat,all_lt fun j hj=>rs.all j hj hj];rfl) w7⟩
  rw[shift_p,ld1_p (u:=aI k) rs.of rfl rfl,bin_eql,onB_v]
  refine gd_of (fun hk=>?_) (fun hk=>?_)
  ·have hk3:=dT hk
   rw[ldN_p (n:=8) rs.oc rfl,shift_p,ld1_p (u:=.v (.string n)) rs.of rfl rfl]
   refine callF_ans (ans25 hc (by omega)) ?_
   rw[shift_p]
   refine stF_of rs.oo (by simp) rfl fun S6 n6 o6 f6=>?_
   have old:∀ x,x<S.n+3→S6.obj x=S5.obj x:=fun x hx=>f6 x (by omega)
   have rs6:Rs c k (findB c n) n l ks S S6 0 .nl:=⟨rs.le,rs.keep.st (by omega) n6 f6,by have:=rs.sz;omega,(old _ (by omega)).trans rs.oc,(old _ (by omega)).trans rs.of,(old _ (by omega)).trans rs.or,o6,.nl _ _ _,rs.all⟩
   rw[shift_p,ld1_p (u:=aI (findB c n)) o6 rfl rfl,bin_lss,onB_v]
   refine gd_of (fun h=>?_) (fun h=>?_)
   ·rw[bld0]
    have h:=dT h
    exact rs_fail (by omega) rs6.keep rs6.or (by rw[Fo.resOk_mk,hk,decide_eq_false (by omega:¬ 0≤findB c n)];rfl)
   ·have h:=dF h
    exact tail S6 _ (by rw[if_pos hk3]) (by rw[decide_eq_true (by omega:0≤findB c n),Bool.or_true]) rs6
  ·exact tail S5 0 (by rw[if_neg (dF hk)]) (by rw[hk];rfl) rs
theorem ans49{c:Ci}(hc:c.ok):∀(f:Fo),f.ok→f.short→Ans Pg 49 [c.av,f.av] (resT c f):=by
 intro f
 induction f using Fo.ind with
 |h k n l ks ih =>
  intro hok hsh S
  obtain⟨h1,h2,h3,h4,h5⟩:=hok.inv
  cases hsh with
  |mk _ _ _ _ hs hss =>
  refine ACalls.tree (calls49 ?_)
  unfold m49
  rw[Fo.av,Fo.row_mk]
  refine boxA_of rfl fun S1 k1 n1 o1=>?_
  refine boxA_of rfl fun S2 k2 n2 o2=>?_
  refine boxA_of rfl fun S3 k3 n3 o3=>?_
  rw[shift_p,ld1_p ((k3.2 _ (by omega)).trans o2) rfl rfl,bld_of (cs:=[aI k,.v (.string ⟨#[]⟩),aI 0,.nl]) rfl]
  refine boxA_of rfl fun S4 k4 n4 o4=>?_
  refine stA_of (cs':=[aI k,.v (.string ⟨#[]⟩),aI 0,.nl]) o4 rfl rfl fun S5 n5 o5 f5=>?_
  have rs:=rs_start (c:=c) k1 n1 o1 k2 n2 o2 k3 n3 o3 k4 n4 n5 o5 f5
  have e1:S1.n=S.n+1:=n1
  have e2:S2.n=S.n+2:=by omega
  have e3:S3.n=S.n+3:=by omega
  rw[e1,e2,e3]
  have tail:∀(T:Store) (v:Int),v=(if k=3 then findB c n else 0)→(!decide (k=3) || decide (0≤findB c n))=true→Rs c k v n l ks S T 0 .nl→
      loopV lv49_0 (vc Pg (c49.at_ [1,1,1,0,1,0,0]) (ms49.drop 1)) 53 (env49_0 (.p S.n 0 0) (.p (S.n+1) 0 0) (.p (S.n+2) 0 0) (.p (S.n+3) 0 0) (.v (.int .i64 0))) T (blockK 0 (seqK (vc Pg (c49.at_ [1,1,1,1]) (ms49.drop 1)) (bodyK Pg r49 fun e S'=>∃ r,e = .ret r∧Keep S S'∧Cv (S'.frz (newer S.n)) S.n r (resT c (.mk k n l ks))))):=by
   intro T v hv hat rs
   refine loop49_0 (fun y S'=>∃(i:Nat) (z:AV),y=aI i∧Rs c k v n l ks S S' i z) (fun y _=>ks.length - ((intA y).getD 0).toNat) ⟨0,.nl,rfl,rs⟩ ?_
   rintro _ S6 ⟨i,z,rfl,rs⟩ KE hKE
   unfold b49_0
   rw[shift_p,ld1_p (u:=foL ks) rs.of rfl rfl,lenS_foL,bin_lss,onB_v]
   refine gd_of (fun hlt=>?_) (fun hge=>?_)
   ·have hlt:i<ks.length:=by have:=dT hlt;omega
    have hmem:=List.getElem_mem hlt
    have hn:=rs.sz
    refine L_ldN (n:=8) rs.oc (by omega) rfl ?_
    refine L_shift ?_
    refine L_ldp (u:=foL ks) rs.of (by omega) rfl rfl ?_
    refine⟨_,fun T hT=>by rw[ixS_foL hlt];exact⟨rfl,rfl⟩,?_⟩
    refine L_ldNq (Fo.row_len _) ?_
    refine L_callA (ih _ hmem (h5 _ hmem) (hss _ hmem)) ?_
    cases hr:ks[i].resOk c with
    |false =>
     rw[resT_no hr]
     refine⟨_,fun T hT=>by rw[extr0];exact⟨rfl,rfl⟩,_,fun T hT=>by rw[extr1];exact⟨rfl,rfl⟩,?_⟩
     refine boxA_of rfl fun S9 k9 n9 o9=>?_
     refine⟨fun T hT=>by rw[extr1];exact⟨rfl,rfl⟩,?_⟩
     refine stA_of o9 (Fo.row_len F0) rfl fun S10 n10 o10 f10=>?_
     refine⟨fun T hT=>by rw[extr1];exact⟨rfl,rfl⟩,?_⟩
     have k10:=k9.st (Nat.le_refl _) n10 f10
     have rs10:=rs.low k10
     rw[bin_neq,onB_v,gd_T (by decide),bld0]
     exact rs_fail (by omega) rs10.keep rs10.or (by rw[Fo.resOk_mk,all_no hlt hr,Bool.and_false])
    |true =>
     rw[resT_ok hr]
     refine⟨_,fun T hT=>by rw[extr0];exact⟨rfl,rfl⟩,_,fun T hT=>by rw[extr1];exact⟨rfl,rfl⟩,?_⟩
     refine boxA_of rfl fun S9 k9 n9 o9=>?_
     refine⟨fun T hT=>by rw[extr1];exact⟨rfl,rfl⟩,?_⟩
     refine stA_of o9 (Fo.row_len (ks[i].resV c)) rfl fun S10 n10 o10 f10=>?_
     refine⟨fun T hT=>by rw[extr1];exact⟨rfl,rfl⟩,?_⟩
     have k10:=k9.st (Nat.le_refl _) n10 f10
     have rs10:=rs.low k10
     rw[bin_neq,onB_v,gd_F (by decide),shift_p,ld1_p (u:=z) rs10.oo rfl rfl,ldN_p (n:=4) o10 (Fo.row_len _)]
     refine bslA4 (Fo.row_len _) ?_
     refine rs10.app h4 hlt hr fun S11 z' rs11=>?_
     rw[bin_add (by omega) (by omega)]
     exact hKE _ _ ⟨i+1,z',rfl,rs11⟩ (by simp[intA];omega)
   ·have hge:i=ks.length:=by have:=dF hge;have:=rs.le;omega
    subst hge
    rw[ldN_p (n:=4) rs.oo rfl]
    refine stA_of rs.or rfl rfl fun S7 n7 o7 f7=>?_
    rw[ldN_p (n:=4) o7 rfl]
    have w7:=rs.w.st (id:=S.n+2) (fun b m e=>by have:=rs.w.lt e;omega) n7 f7
    rw[List.take_length]at w7
    exact⟨_,rfl,rs.keep.st (by omega) n7 f7,res_end (by omega) hv (by rw[Fo.resOk_mk,hat,all_lt fun j hj=>rs.all j hj hj];rfl) w7⟩
  rw[shift_p,ld1_p (u:=aI k) rs.of rfl rfl,bin_eql,onB_v]
  refine gd_of (fun hk=>?_) (fun hk=>?_)
  ·have hk3:=dT hk
   rw[ldN_p (n:=8) rs.oc rfl,shift_p,ld1_p (u:=.v (.string n)) rs.of rfl rfl]
   refine callF_ans (ans32 hc (by omega)) ?_
   rw[shift_p]
   refine stF_of rs.oo (by simp) rfl fun S6 n6 o6 f6=>?_
   have old:∀ x,x<S.n+3→S6.obj x=S5.obj x:=fun x hx=>f6 x (by omega)
   have rs6:Rs c k (findB c n) n l ks S S6 0 .nl:=⟨rs.le,rs.keep.st (by omega) n6 f6,by have:=rs.sz;omega,(old _ (by omega)).trans rs.oc,(old _ (by omega)).trans rs.of,(old _ (by omega)).trans rs.or,o6,.nl _ _ _,rs.all⟩
   rw[shift_p,ld1_p (u:=aI (findB c n)) o6 rfl rfl,bin_lss,onB_v]
   refine gd_of (fun h=>?_) (fun h=>?_)
   ·rw[bld0]
    have h:=dT h
    exact rs_fail (by omega) rs6.keep rs6.or (by rw[Fo.resOk_mk,hk,decide_eq_false (by omega:¬ 0≤findB c n)];rfl)
   ·have h:=dF h
    exact tail S6 _ (by rw[if_pos hk3]) (by rw[decide_eq_true (by omega:0≤findB c n),Bool.or_true]) rs6
  ·exact tail S5 0 (by rw[if_neg (dF hk)]) (by rw[hk];rfl) rs
def ResT (c:Ci) (f:Fo):AV:=if(c.right && rightN f)=true then resT c f else .t [F0.av,aI 1]
theorem Fo.tr(f:Fo):Tree f.av:=Tree.a fun u hu=>Fo.tree f u hu
theorem ans18{c:Ci}(hc:c.ok){f:Fo}(hok:f.ok)(hn:f.nodes≤2000)(hs:f.short):Ans Pg 18 [c.av,f.av] (ResT c f):=by
 intro S
 refine ACalls.tree (calls18 ?_)
 unfold m18 ResT
 rw[Fo.av]
 refine boxA_of rfl fun S1 k1 n1 o1=>?_
 refine boxA_of (Fo.row_len f) fun S2 k2 n2 o2=>?_
 refine boxA_of rfl fun S3 k3 n3 o3=>?_
 have kk:=(k1.trans k2).trans k3
 have p1:=(k3.2 _ (by omega)).trans ((k2.2 _ (by omega)).trans o1)
 have p2:=(k3.2 _ (by omega)).trans o2
 have fail:∀{f':AV},f' = .t [F0.av,aI 1]→stN 4 (.p S2.n 0 0) zeroF S3 fun _ T=>ldN 4 (.p S2.n 0 0) T fun v T=>∃ r,AEnd.ret (.t [v,.v (.int .i64 1)]) = .ret r∧Keep S T∧Cv (T.frz (newer S.n)) S.n r f':=fun e=>by
  refine stA_of o3 rfl rfl fun S6 n6 o6 f6=>?_
  rw[ldN_p (n:=4) o6 rfl,e]
  exact⟨_,rfl,kk.st (by omega) n6 f6,cv_t2 cv_F0 (.v _)⟩
 rw[ldN_p (n:=8) p1 rfl]
 refine callF_ans (ans22 hc) ?_
 rw[un_not,onB_v]
 refine gd_of (fun h=>?_) (fun h=>?_)
 ·rw[bld0]
  have h:c.right=false:=by simpa using h
  exact fail (by rw[h];rfl)
 have hr:c.right=true:=by simpa using h
 rw[ldN_p (n:=4) p2 (Fo.row_len f)]
 refine callF_ans (ans46 hok hn) ?_
 rw[un_not,onB_v]
 refine gd_of (fun h=>?_) (fun h=>?_)
 ·rw[bld0]
  have h:rightN f=false:=by simpa using h
  exact fail (by rw[h,Bool.and_false];rfl)
 have hf:rightN f=true:=by simpa using h
 rw[ldN_p (n:=8) p1 rfl,ldN_p (n:=4) p2 (Fo.row_len f)]
 refine callF_ans (ans47 hc f hok hs) ?_
 rw[hr,hf,if_pos (show(true && true)=true from rfl)]
 obtain⟨g,e,hg⟩:∃(g:Fo) (e:Int),resT c f = .t [g.av,aI e]:=by
  unfold resT
  split
  ·exact⟨_,_,rfl⟩
  ·exact⟨_,_,rfl⟩
 rw[hg,extr0,extr1]
 refine stA_of o3 (Fo.row_len g) rfl fun S6 n6 o6 f6=>?_
 rw[ldN_p (n:=4) o6 (Fo.row_len g)]
 exact⟨_,rfl,kk.st (by omega) n6 f6,cv_t2 (Fo.tr _ _ _) (.v _)⟩
theorem ans19{c:Ci}(hc:c.ok){f:Fo}(hok:f.ok)(hn:f.nodes≤2000)(hs:f.short):Ans Pg 19 [c.av,f.av] (ResT c f):=by
 intro S
 refine ACalls.tree (calls19 ?_)
 unfold m19 ResT
 rw[Fo.av]
 refine boxA_of rfl fun S1 k1 n1 o1=>?_
 refine boxA_of (Fo.row_len f) fun S2 k2 n2 o2=>?_
 refine boxA_of rfl fun S3 k3 n3 o3=>?_
 have kk:=(k1.trans k2).trans k3
 have p1:=(k3.2 _ (by omega)).trans ((k2.2 _ (by omega)).trans o1)
 have p2:=(k3.2 _ (by omega)).trans o2
 have fail:∀{f':AV},f' = .t [F0.av,aI 1]→stN 4 (.p S2.n 0 0) zeroF S3 fun _ T=>ldN 4 (.p S2.n 0 0) T fun v T=>∃ r,AEnd.ret (.t [v,.v (.int .i64 1)]) = .ret r∧Keep S T∧Cv (T.frz (newer S.n)) S.n r f':=fun e=>by
  refine stA_of o3 rfl rfl fun S6 n6 o6 f6=>?_
  rw[ldN_p (n:=4) o6 rfl,e]
  exact⟨_,rfl,kk.st (by omega) n6 f6,cv_t2 cv_F0 (.v _)⟩
 rw[ldN_p (n:=8) p1 rfl]
 refine callF_ans (ans28 hc) ?_
 rw[un_not,onB_v]
 refine gd_of (fun h=>?_) (fun h=>?_)
 ·rw[bld0]
  have h:c.right=false:=by simpa using h
  exact fail (by rw[h];rfl)
 have hr:c.right=true:=by simpa using h
 rw[ldN_p (n:=4) p2 (Fo.row_len f)]
 refine callF_ans (ans48 hok hn) ?_
 rw[un_not,onB_v]
 refine gd_of (fun h=>?_) (fun h=>?_)
 ·rw[bld0]
  have h:rightN f=false:=by simpa using h
  exact fail (by rw[h,Bool.and_false];rfl)
 have hf:rightN f=true:=by simpa using h
 rw[ldN_p (n:=8) p1 rfl,ldN_p (n:=4) p2 (Fo.row_len f)]
 refine callF_ans (ans49 hc f hok hs) ?_
 rw[hr,hf,if_pos (show(true && true)=true from rfl)]
 obtain⟨g,e,hg⟩:∃(g:Fo) (e:Int),resT c f = .t [g.av,aI e]:=by
  unfold resT
  split
  ·exact⟨_,_,rfl⟩
  ·exact⟨_,_,rfl⟩
 rw[hg,extr0,extr1]
 refine stA_of o3 (Fo.row_len g) rfl fun S6 n6 o6 f6=>?_
 rw[ldN_p (n:=4) o6 (Fo.row_len g)]
 exact⟨_,rfl,kk.st (by omega) n6 f6,cv_t2 (Fo.tr _ _ _) (.v _)⟩
abbrev fO(k:Int)(f:Fo):Fo:=.mk k ⟨#[]⟩ 0 [f]
abbrev fT(k:Int)(f g:Fo):Fo:=.mk k ⟨#[]⟩ 0 [f,g]
abbrev nF(f:Fo):Fo:=fO 4 f
abbrev tF:Fo:=.mk 2 ⟨#[]⟩ 0 []
theorem bslA42{e:Nat}{z1 z2 z3 z4:AV}{r r2:List AV}{S:Store}{K:AV→Store→Prop}(hr:r.length=4)(hr2:r2.length=4)(k:K (.l [r,r2]) S):bslN e 4 2 [z1,z2,z3,z4] [(0,.a r),(1,.a r2)] S K:=by
 match r,hr,r2,hr2 with
 |[a,b,c,d],_,[a2,b2,c2,d2],_ =>
  refine⟨[a,b,c,d,a2,b2,c2,d2],?_,.inr ?_⟩
  ·simp[fillA,cellsOf,spl]
  ·simpa[chunks,List.range_succ]using k
theorem ix0{a:Fo}{l:List Fo}{e:Nat}{S:Store}{K:AV→Store→Prop}:ixS e 4 (foL (a :: l)) (.v (.int .i64 0)) S K=K (.q a.row 0) S:=ixS_foL (l:=a :: l) (i:=0) (by simp)
theorem ix1{a b:Fo}{l:List Fo}{e:Nat}{S:Store}{K:AV→Store→Prop}:ixS e 4 (foL (a :: b :: l)) (.v (.int .i64 1)) S K=K (.q b.row 0) S:=ixS_foL (l:=a :: b :: l) (i:=1) (by simp)
theorem ans76(k:Int)(l:List Fo):Ans Pg 76 [aI k,foL l] (Fo.mk k ⟨#[]⟩ 0 l).av:=by
 intro S
 refine ACalls.tree (calls76 ?_)
 unfold m76
 refine boxA_of rfl fun S1 k1 n1 o1=>?_
 rw[bld_of (cs:=(Fo.mk k ⟨#[]⟩ 0 l).row) (by rw[Fo.row_mk];rfl)]
 refine stA_of o1 (Fo.row_len _) rfl fun S2 n2 o2 f2=>?_
 rw[ldN_p (n:=4) o2 (Fo.row_len _)]
 exact⟨_,rfl,k1.st (Nat.le_refl _) n2 f2,Fo.tr _ _ _⟩
theorem one_at{F:FuncId}{k:Int}(f:Fo){m:AV→Store→(AEnd→Store→Prop)→Prop}(hm:∀(S:Store) (Q:AEnd→Store→Prop),m f.av S Q→ACalls Pg F [f.av] S Q)
    (hd:∀(S:Store) (Q:AEnd→Store→Prop),m f.av S Q=boxN 35 4 f.av S fun v1 S=>boxN 35 4 zeroF S fun v2 S=>ldN 4 v1 S fun v3 S=>bslN 35 4 1 [.v (.int .i64 0),.v (.string ByteArray.empty),.v (.int .i64 0),.nl] [(0,v3)] S fun v4 S=>callF Pg 76 [.v (.int .i64 k),v4] S Q fun v5 S=>stN 4 v2 v5 S fun _ S=>ldN 4 v2 S fun v7 S=>Q (.ret v7) S):Ans Pg F [f.av] (fO k f).av:=by
 intro S
 refine ACalls.tree (hm _ _ ?_)
 rw[hd]
 unfold Fo.av
 refine boxA_of (Fo.row_len f) fun S1 k1 n1 o1=>?_
 refine boxA_of rfl fun S2 k2 n2 o2=>?_
 rw[ldN_p (n:=4) ((k2.2 _ (by omega)).trans o1) (Fo.row_len f)]
 refine bslA4 (Fo.row_len f) ?_
 refine callF_ans (ans76 k [f]) ?_
 refine stA_of o2 (Fo.row_len _) rfl fun S3 n3 o3 f3=>?_
 rw[ldN_p (n:=4) o3 (Fo.row_len _)]
 exact⟨_,rfl,(k1.trans k2).st (by omega) n3 f3,Fo.tr _ _ _⟩
theorem ans80(f:Fo):Ans Pg 80 [f.av] (nF f).av:=one_at f (m:=m80) (fun S Q h=>calls80 h) fun S Q=>rfl
theorem ans78(f:Fo):Ans Pg 78 [f.av] (fO 13 f).av:=one_at f (m:=m78) (fun S Q h=>calls78 h) fun S Q=>rfl
theorem ans82(f g:Fo):Ans Pg 82 [f.av,g.av] (fT 5 f (nF g)).av:=by
 intro S
 refine ACalls.tree (calls82 ?_)
 unfold m82 Fo.av
 refine boxA_of (Fo.row_len f) fun S1 k1 n1 o1=>?_
 refine boxA_of (Fo.row_len g) fun S2 k2 n2 o2=>?_
 refine boxA_of rfl fun S3 k3 n3 o3=>?_
 refine L_ldN (n:=4) ((k3.2 _ (by omega)).trans ((k2.2 _ (by omega)).trans o1)) (by omega) (Fo.row_len f) ?_
 refine L_ldN (n:=4) ((k3.2 _ (by omega)).trans o2) (by omega) (Fo.row_len g) ?_
 refine L_callA (ans80 g) ?_
 refine⟨.l [_,_],fun T hT=>bslA42 (Fo.row_len _) (Fo.row_len _) ⟨rfl,rfl⟩,?_⟩
 refine L_callA (ans76 5 [f,nF g]) ?_
 refine stA_of o3 (Fo.row_len _) rfl fun S4 n4 o4 f4=>?_
 rw[ldN_p (n:=4) o4 (Fo.row_len _)]
 exact⟨_,rfl,((k1.trans k2).trans k3).st (by omega) n4 f4,Fo.tr _ _ _⟩
theorem ans77(f g:Fo):Ans Pg 77 [f.av,g.av] (fT 15 f g).av:=by
 intro S
 refine ACalls.tree (calls77 ?_)
 unfold m77 Fo.av
 refine boxA_of (Fo.row_len f) fun S1 k1 n1 o1=>?_
 refine boxA_of (Fo.row_len g) fun S2 k2 n2 o2=>?_
 refine boxA_of rfl fun S3 k3 n3 o3=>?_
 rw[ldN_p (n:=4) ((k3.2 _ (by omega)).trans ((k2.2 _ (by omega)).trans o1)) (Fo.row_len f),ldN_p (n:=4) ((k3.2 _ (by omega)).trans o2) (Fo.row_len g)]
 refine bslA42 (Fo.row_len _) (Fo.row_len _) ?_
 refine callF_ans (ans76 15 [f,g]) ?_
 refine stA_of o3 (Fo.row_len _) rfl fun S4 n4 o4 f4=>?_
 rw[ldN_p (n:=4) o4 (Fo.row_len _)]
 exact⟨_,rfl,((k1.trans k2).trans k3).st (by omega) n4 f4,Fo.tr _ _ _⟩
theorem ans93(k:Int)(f:Fo):Ans Pg 93 [aI k,f.av] (fO k f).av:=by
 intro S
 refine ACalls.tree (calls93 ?_)
 unfold m93 Fo.av
 refine boxA_of (Fo.row_len f) fun S1 k1 n1 o1=>?_
 refine boxA_of rfl fun S2 k2 n2 o2=>?_
 rw[ldN_p (n:=4) ((k2.2 _ (by omega)).trans o1) (Fo.row_len f)]
 refine bslA4 (Fo.row_len f) ?_
 rw[bld_of (cs:=(fO k f).row) (by rw[Fo.row_mk];rfl)]
 refine stA_of o2 (Fo.row_len _) rfl fun S3 n3 o3 f3=>?_
 rw[ldN_p (n:=4) o3 (Fo.row_len _)]
 exact⟨_,rfl,(k1.trans k2).st (by omega) n3 f3,Fo.tr (fO k f) _ _⟩
theorem ans94(k:Int)(f g:Fo):Ans Pg 94 [aI k,f.av,g.av] (fT k f g).av:=by
 intro S
 refine ACalls.tree (calls94 ?_)
 unfold m94 Fo.av
 refine boxA_of (Fo.row_len f) fun S1 k1 n1 o1=>?_
 refine boxA_of (Fo.row_len g) fun S2 k2 n2 o2=>?_
 refine boxA_of rfl fun S3 k3 n3 o3=>?_
 rw[ldN_p (n:=4) ((k3.2 _ (by omega)).trans ((k2.2 _ (by omega)).trans o1)) (Fo.row_len f),ldN_p (n:=4) ((k3.2 _ (by omega)).trans o2) (Fo.row_len g)]
 refine bslA42 (Fo.row_len _) (Fo.row_len _) ?_
 rw[bld_of (cs:=(fT k f g).row) (by rw[Fo.row_mk];rfl)]
 refine stA_of o3 (Fo.row_len _) rfl fun S4 n4 o4 f4=>?_
 rw[ldN_p (n:=4) o4 (Fo.row_len _)]
 exact⟨_,rfl,((k1.trans k2).trans k3).st (by omega) n4 f4,Fo.tr (fT k f g) _ _⟩
theorem ans92(f:Fo):Ans Pg 92 [f.av] (nF f).av:=by
 intro S
 refine ACalls.tree (calls92 ?_)
 unfold m92 Fo.av
 refine boxA_of (Fo.row_len f) fun S1 k1 n1 o1=>?_
 refine boxA_of rfl fun S2 k2 n2 o2=>?_
 rw[ldN_p (n:=4) ((k2.2 _ (by omega)).trans o1) (Fo.row_len f)]
 refine callF_ans (ans93 4 f) ?_
 refine stA_of o2 (Fo.row_len _) rfl fun S3 n3 o3 f3=>?_
 rw[ldN_p (n:=4) o3 (Fo.row_len _)]
 exact⟨_,rfl,(k1.trans k2).st (by omega) n3 f3,Fo.tr _ _ _⟩
theorem ans79(l:List Fo):Ans Pg 79 [foL l,.q tF.row 0] (nF tF).av:=by
 intro S
 refine ACalls.tree (calls79 ?_)
 unfold m79
 refine boxA_of rfl fun S1 k1 n1 o1=>?_
 rw[ldN_q (Fo.row_len _)]
 refine callF_ans (ans80 _) ?_
 refine stA_of o1 (Fo.row_len _) rfl fun S2 n2 o2 f2=>?_
 rw[ldN_p (n:=4) o2 (Fo.row_len _)]
 exact⟨_,rfl,k1.st (Nat.le_refl _) n2 f2,Fo.tr _ _ _⟩
theorem ans81(a b:Fo):Ans Pg 81 [foL [a,b]] (nF (fT 5 (nF a) (nF b))).av:=by
 intro S
 refine ACalls.tree (calls81 ?_)
 unfold m81
 refine boxA_of rfl fun S1 k1 n1 o1=>?_
 refine⟨_,fun T hT=>by rw[ix0];exact⟨rfl,rfl⟩,?_⟩
 refine L_ldNq (Fo.row_len _) ?_
 refine L_callA (ans80 _) ?_
 refine⟨_,fun T hT=>by rw[ix1];exact⟨rfl,rfl⟩,?_⟩
 refine L_ldNq (Fo.row_len _) ?_
 refine L_callA (ans82 _ _) ?_
 refine L_callA (ans80 _) ?_
 refine stA_of o1 (Fo.row_len _) rfl fun S2 n2 o2 f2=>?_
 rw[ldN_p (n:=4) o2 (Fo.row_len _)]
 exact⟨_,rfl,k1.st (Nat.le_refl _) n2 f2,Fo.tr _ _ _⟩
theorem ans83(a b:Fo):Ans Pg 83 [foL [a,b]] (nF (fT 5 a (nF b))).av:=by
 intro S
 refine ACalls.tree (calls83 ?_)
 unfold m83
 refine boxA_of rfl fun S1 k1 n1 o1=>?_
 refine⟨_,fun T hT=>by rw[ix0];exact⟨rfl,rfl⟩,?_⟩
 refine L_ldNq (Fo.row_len _) ?_
 refine⟨_,fun T hT=>by rw[ix1];exact⟨rfl,rfl⟩,?_⟩
 refine L_ldNq (Fo.row_len _) ?_
 refine L_callA (ans82 _ _) ?_
 refine L_callA (ans80 _) ?_
 refine stA_of o1 (Fo.row_len _) rfl fun S2 n2 o2 f2=>?_
 rw[ldN_p (n:=4) o2 (Fo.row_len _)]
 exact⟨_,rfl,k1.st (Nat.le_refl _) n2 f2,Fo.tr _ _ _⟩
theorem ans84(a b:Fo):Ans Pg 84 [foL [a,b]] (fT 5 (nF (fT 5 a (nF b))) (nF (fT 5 b (nF a)))).av:=by
 intro S
 refine ACalls.tree (calls84 ?_)
 unfold m84
 refine boxA_of rfl fun S1 k1 n1 o1=>?_
 refine⟨_,fun T hT=>by rw[ix0];exact⟨rfl,rfl⟩,?_⟩
 refine L_ldNq (Fo.row_len _) ?_
 refine⟨_,fun T hT=>by rw[ix1];exact⟨rfl,rfl⟩,?_⟩
 refine L_ldNq (Fo.row_len _) ?_
 refine L_callA (ans82 _ _) ?_
 refine L_callA (ans80 _) ?_
 refine⟨_,fun T hT=>by rw[ix1];exact⟨rfl,rfl⟩,?_⟩
 refine L_ldNq (Fo.row_len _) ?_
 refine⟨_,fun T hT=>by rw[ix0];exact⟨rfl,rfl⟩,?_⟩
 refine L_ldNq (Fo.row_len _) ?_
 refine L_callA (ans82 _ _) ?_
 refine L_callA (ans80 _) ?_
 refine⟨.l [_,_],fun T hT=>bslA42 (Fo.row_len _) (Fo.row_len _) ⟨rfl,rfl⟩,?_⟩
 refine L_callA (ans76 _ [_,_]) ?_
 refine stA_of o1 (Fo.row_len _) rfl fun S2 n2 o2 f2=>?_
 rw[ldN_p (n:=4) o2 (Fo.row_len _)]
 exact⟨_,rfl,k1.st (Nat.le_refl _) n2 f2,Fo.tr _ _ _⟩
theorem ans85(a:Fo):Ans Pg 85 [foL [a]] (nF (fO 9 (nF a))).av:=by
 intro S
 refine ACalls.tree (calls85 ?_)
 unfold m85
 refine boxA_of rfl fun S1 k1 n1 o1=>?_
 rw[ix0]
 rw[ldN_q (Fo.row_len _)]
 refine callF_ans (ans80 _) ?_
 refine bslA4 (Fo.row_len _) ?_
 refine callF_ans (ans76 _ [_]) ?_
 refine callF_ans (ans80 _) ?_
 refine stA_of o1 (Fo.row_len _) rfl fun S2 n2 o2 f2=>?_
 rw[ldN_p (n:=4) o2 (Fo.row_len _)]
 exact⟨_,rfl,k1.st (Nat.le_refl _) n2 f2,Fo.tr _ _ _⟩
theorem ans86(a:Fo):Ans Pg 86 [foL [a],.q [.f (.func 77) [] []] 0,.q tF.row 0] (fT 15 tF a).av:=by
 intro S
 refine ACalls.tree (calls86 ?_)
 unfold m86
 refine boxA_of rfl fun S1 k1 n1 o1=>?_
 refine L_ldq rfl ?_
 refine L_ldNq (Fo.row_len _) ?_
 refine⟨_,fun T hT=>by rw[ix0];exact⟨rfl,rfl⟩,?_⟩
 refine L_ldNq (Fo.row_len _) ?_
 refine⟨_,fun T hT=>callV_ans (fs:=[]) (cs:=[]) (ans77 _ _) ⟨rfl,rfl⟩,?_⟩
 refine stA_of o1 (Fo.row_len _) rfl fun S2 n2 o2 f2=>?_
 rw[ldN_p (n:=4) o2 (Fo.row_len _)]
 exact⟨_,rfl,k1.st (Nat.le_refl _) n2 f2,Fo.tr _ _ _⟩
theorem ans87(a:Fo):Ans Pg 87 [foL [a],.q [.f (.func 78) [] []] 0] (nF (fO 13 (nF a))).av:=by
 intro S
 refine ACalls.tree (calls87 ?_)
 unfold m87
 refine boxA_of rfl fun S1 k1 n1 o1=>?_
 refine L_ldq rfl ?_
 refine⟨_,fun T hT=>by rw[ix0];exact⟨rfl,rfl⟩,?_⟩
 refine L_ldNq (Fo.row_len _) ?_
 refine L_callA (ans80 _) ?_
 refine⟨_,fun T hT=>callV_ans (fs:=[]) (cs:=[]) (ans78 _) ⟨rfl,rfl⟩,?_⟩
 refine L_callA (ans80 _) ?_
 refine stA_of o1 (Fo.row_len _) rfl fun S2 n2 o2 f2=>?_
 rw[ldN_p (n:=4) o2 (Fo.row_len _)]
 exact⟨_,rfl,k1.st (Nat.le_refl _) n2 f2,Fo.tr _ _ _⟩
theorem ans88(a:Fo):Ans Pg 88 [foL [a],.q [.f (.func 77) [] []] 0,.q tF.row 0] (nF (fT 15 tF (nF a))).av:=by
 intro S
 refine ACalls.tree (calls88 ?_)
 unfold m88
 refine boxA_of rfl fun S1 k1 n1 o1=>?_
 refine L_ldq rfl ?_
 refine L_ldNq (Fo.row_len _) ?_
 refine⟨_,fun T hT=>by rw[ix0];exact⟨rfl,rfl⟩,?_⟩
 refine L_ldNq (Fo.row_len _) ?_
 refine L_callA (ans80 _) ?_
 refine⟨_,fun T hT=>callV_ans (fs:=[]) (cs:=[]) (ans77 _ _) ⟨rfl,rfl⟩,?_⟩
 refine L_callA (ans80 _) ?_
 refine stA_of o1 (Fo.row_len _) rfl fun S2 n2 o2 f2=>?_
 rw[ldN_p (n:=4) o2 (Fo.row_len _)]
 exact⟨_,rfl,k1.st (Nat.le_refl _) n2 f2,Fo.tr _ _ _⟩
theorem ans89(a b:Fo):Ans Pg 89 [foL [a,b],.q [.f (.func 77) [] []] 0,.q [.f (.func 78) [] []] 0] (fT 5 (nF (fT 15 (nF b) (fT 5 (nF a) (nF b)))) (nF (fO 13 (nF b)))).av:=by
 intro S
 refine ACalls.tree (calls89 ?_)
 unfold m89
 refine boxA_of rfl fun S1 k1 n1 o1=>?_
 refine L_ldq rfl ?_
 refine⟨_,fun T hT=>by rw[ix1];exact⟨rfl,rfl⟩,?_⟩
 refine L_ldNq (Fo.row_len _) ?_
 refine L_callA (ans80 _) ?_
 refine⟨_,fun T hT=>by rw[ix0];exact⟨rfl,rfl⟩,?_⟩
 refine L_ldNq (Fo.row_len _) ?_
 refine L_callA (ans80 _) ?_
 refine⟨_,fun T hT=>by rw[ix1];exact⟨rfl,rfl⟩,?_⟩
 refine L_ldNq (Fo.row_len _) ?_
 refine L_callA (ans82 _ _) ?_
 refine⟨_,fun T hT=>callV_ans (fs:=[]) (cs:=[]) (ans77 _ _) ⟨rfl,rfl⟩,?_⟩
 refine L_callA (ans80 _) ?_
 refine L_ldq rfl ?_
 refine⟨_,fun T hT=>by rw[ix1];exact⟨rfl,rfl⟩,?_⟩
 refine L_ldNq (Fo.row_len _) ?_
 refine L_callA (ans80 _) ?_
 refine⟨_,fun T hT=>callV_ans (fs:=[]) (cs:=[]) (ans78 _) ⟨rfl,rfl⟩,?_⟩
 refine L_callA (ans82 _ _) ?_
 refine stA_of o1 (Fo.row_len _) rfl fun S2 n2 o2 f2=>?_
 rw[ldN_p (n:=4) o2 (Fo.row_len _)]
 exact⟨_,rfl,k1.st (Nat.le_refl _) n2 f2,Fo.tr _ _ _⟩
theorem ans90(a b:Fo):Ans Pg 90 [foL [a,b],.q [.f (.func 78) [] []] 0,.q [.f (.func 77) [] []] 0] (nF (fT 5 (nF (fO 13 b)) (nF (fT 15 b (fT 5 a b))))).av:=by
 intro S
 refine ACalls.tree (calls90 ?_)
 unfold m90
 refine boxA_of rfl fun S1 k1 n1 o1=>?_
 refine L_ldq rfl ?_
 refine⟨_,fun T hT=>by rw[ix1];exact⟨rfl,rfl⟩,?_⟩
 refine L_ldNq (Fo.row_len _) ?_
 refine⟨_,fun T hT=>callV_ans (fs:=[]) (cs:=[]) (ans78 _) ⟨rfl,rfl⟩,?_⟩
 refine L_callA (ans80 _) ?_
 refine L_ldq rfl ?_
 refine⟨_,fun T hT=>by rw[ix1];exact⟨rfl,rfl⟩,?_⟩
 refine L_ldNq (Fo.row_len _) ?_
 refine⟨_,fun T hT=>by rw[ix0];exact⟨rfl,rfl⟩,?_⟩
 refine L_ldNq (Fo.row_len _) ?_
 refine⟨_,fun T hT=>by rw[ix1];exact⟨rfl,rfl⟩,?_⟩
 refine L_ldNq (Fo.row_len _) ?_
 refine⟨.l [_,_],fun T hT=>bslA42 (Fo.row_len _) (Fo.row_len _) ⟨rfl,rfl⟩,?_⟩
 refine L_callA (ans76 _ [_,_]) ?_
 refine⟨_,fun T hT=>callV_ans (fs:=[]) (cs:=[]) (ans77 _ _) ⟨rfl,rfl⟩,?_⟩
 refine L_callA (ans82 _ _) ?_
 refine L_callA (ans80 _) ?_
 refine stA_of o1 (Fo.row_len _) rfl fun S2 n2 o2 f2=>?_
 rw[ldN_p (n:=4) o2 (Fo.row_len _)]
 exact⟨_,rfl,k1.st (Nat.le_refl _) n2 f2,Fo.tr _ _ _⟩
theorem ans91(a b:Fo):Ans Pg 91 [foL [a,b],.q [.f (.func 77) [] []] 0] (nF (fT 15 (nF a) (nF b))).av:=by
 intro S
 refine ACalls.tree (calls91 ?_)
 unfold m91
 refine boxA_of rfl fun S1 k1 n1 o1=>?_
 refine L_ldq rfl ?_
 refine⟨_,fun T hT=>by rw[ix0];exact⟨rfl,rfl⟩,?_⟩
 refine L_ldNq (Fo.row_len _) ?_
 refine L_callA (ans80 _) ?_
 refine⟨_,fun T hT=>by rw[ix1];exact⟨rfl,rfl⟩,?_⟩
 refine L_ldNq (Fo.row_len _) ?_
 refine L_callA (ans80 _) ?_
 refine⟨_,fun T hT=>callV_ans (fs:=[]) (cs:=[]) (ans77 _ _) ⟨rfl,rfl⟩,?_⟩
 refine L_callA (ans80 _) ?_
 refine stA_of o1 (Fo.row_len _) rfl fun S2 n2 o2 f2=>?_
 rw[ldN_p (n:=4) o2 (Fo.row_len _)]
 exact⟨_,rfl,k1.st (Nat.le_refl _) n2 f2,Fo.tr _ _ _⟩
def baseK(k l:Int)(ls:List Fo):Fo:=
 if k=3 then .mk 3 ⟨#[]⟩ l []
 else if k=1 then nF tF
 else if k=6 then nF (fT 5 (nF (ls.getD 0 F0)) (nF (ls.getD 1 F0)))
 else if k=7 then nF (fT 5 (ls.getD 0 F0) (nF (ls.getD 1 F0)))
 else if k=8 then fT 5 (nF (fT 5 (ls.getD 0 F0) (nF (ls.getD 1 F0)))) (nF (fT 5 (ls.getD 1 F0) (nF (ls.getD 0 F0))))
 else if k=10 then nF (fO 9 (nF (ls.getD 0 F0)))
 else if k=11 then fT 15 tF (ls.getD 0 F0)
 else if k=12 then nF (fO 13 (nF (ls.getD 0 F0)))
 else if k=14 then nF (fT 15 tF (nF (ls.getD 0 F0)))
 else if k=16 then fT 5 (nF (fT 15 (nF (ls.getD 1 F0)) (fT 5 (nF (ls.getD 0 F0)) (nF (ls.getD 1 F0))))) (nF (fO 13 (nF (ls.getD 1 F0))))
 else if k=17 then nF (fT 5 (nF (fO 13 (ls.getD 1 F0))) (nF (fT 15 (ls.getD 1 F0) (fT 5 (ls.getD 0 F0) (ls.getD 1 F0)))))
 else if k=18 then nF (fT 15 (nF (ls.getD 0 F0)) (nF (ls.getD 1 F0)))
 else .mk k ⟨#[]⟩ 0 ls
mutual
def Fo.baseF:Fo→Fo
 |.mk k _ l ks=>baseK k l (Fo.baseFs ks)
def Fo.baseFs:List Fo→List Fo
 |[]=>[]
 |f :: fs=>Fo.baseF f :: Fo.baseFs fs
end
theorem Fo.baseFs_map:∀ l:List Fo,Fo.baseFs l=l.map Fo.baseF
 |[]=>by rw[Fo.baseFs];rfl
 |f :: fs=>by rw[Fo.baseFs,Fo.baseFs_map fs];rfl
theorem Fo.baseF_mk(k:Int)(n:ByteArray)(l:Int)(ks:List Fo):Fo.baseF (.mk k n l ks)=baseK k l (ks.map Fo.baseF):=by rw[Fo.baseF,Fo.baseFs_map]
def rulesE:List (Key × AV):=[(.i 1,.f (.func 79) [] [.q tF.row 0]),(.i 6,.f (.func 81) [] []),(.i 7,.f (.func 83) [] []),(.i 8,.f (.func 84) [] []),(.i 10,.f (.func 85) [] []),(.i 11,.f (.func 86) [] [.q [.f (.func 77) [] []] 0,.q tF.row 0]),(.i 12,.f (.func 87) [] [.q [.f (.func 78) [] []] 0]),(.i 14,.f (.func 88) [] [.q [.f (.func 77) [] []] 0,.q tF.row 0]),(.i 16,.f (.func 89) [] [.q [.f (.func 77) [] []] 0,.q [.f (.func 78) [] []] 0]),(.i 17,.f (.func 90) [] [.q [.f (.func 78) [] []] 0,.q [.f (.func 77) [] []] 0]),(.i 18,.f (.func 91) [] [.q [.f (.func 77) [] []] 0])]
theorem cv_f0{S:Store}{n:Nat}(fn:Fn):Cv S n (.f fn [] []) (.f fn [] []):=.f fn [] [] [] [] rfl rfl (fun k u u2 h=>by simp at h) (fun k u u2 h=>by simp at h)
theorem cv_fs{S:Store}{n:Nat}{fn:Fn}{cs cs2:List AV}(hl:cs.length=cs2.length)(h:∀(k:Nat) (u u2:AV),cs[k]? = some u→cs2[k]? = some u2→Cv S n u u2):Cv S n (.f fn [] cs) (.f fn [] cs2):=.f fn [] cs [] cs2 rfl hl (fun k u u2 h=>by simp at h) h
theorem cvs0{S:Store}{n:Nat}:∀(k:Nat) (u u2:AV),([]:List AV)[k]? = some u→([]:List AV)[k]? = some u2→Cv S n u u2:=fun k u u2 h=>by simp at h
theorem cvs1{S:Store}{n:Nat}{x x':AV}(h:Cv S n x x'):∀(k:Nat) (u u2:AV),[x][k]? = some u→[x'][k]? = some u2→Cv S n u u2
 |0,_,_,h1,h2=>by cases h1;cases h2;exact h
 |k+1,_,_,h1,_=>by simp at h1
theorem cvs2{S:Store}{n:Nat}{x x' y y':AV}(h:Cv S n x x')(h':Cv S n y y'):∀(k:Nat) (u u2:AV),[x,y][k]? = some u→[x',y'][k]? = some u2→Cv S n u u2
 |0,_,_,h1,h2=>by cases h1;cases h2;exact h
 |1,_,_,h1,h2=>by cases h1;cases h2;exact h'
 |k+2,_,_,h1,_=>by simp at h1
theorem ans37:Ans Pg 37 [] (.mt (.i .i64) rulesE):=by
 intro S
 refine ACalls.tree (calls37 ?_)
 unfold m37 mkM
 rw[bld_of (cs:=[aI 2,.v (.string ⟨#[]⟩),aI 0,.nl]) rfl]
 refine boxA_of rfl fun S1 k1 n1 o1=>?_
 refine stA_of (cs':=[aI 2,.v (.string ⟨#[]⟩),aI 0,.nl]) o1 rfl rfl fun S2 n2 o2 f2=>?_
 have k2:=k1.st (Nat.le_refl _) n2 f2
 refine box1_of rfl fun S3 k3 n3 o3=>?_
 refine st_of o3 rfl rfl fun S4 n4 o4 f4=>?_
 have k4:=k3.st (Nat.le_refl _) n4 f4
 refine box1_of rfl fun S5 k5 n5 o5=>?_
 refine st_of o5 rfl rfl fun S6 n6 o6 f6=>?_
 have k6:=k5.st (Nat.le_refl _) n6 f6
 have e2:S2.n=S.n+1:=by omega
 have e4:S4.n=S.n+2:=by omega
 have e6:S6.n=S.n+3:=by omega
 rw[e2]at o4;rw[e4]at o6
 have q2:=(k6.2 S.n (by omega)).trans ((k4.2 S.n (by omega)).trans o2)
 have q4:=(k6.2 (S.n+1) (by omega)).trans o4
 show updM _ _ _ _ _ _
 rw[updM_m (new_self _) (keyI _ _),updM_m (upd_self _ _) (keyI _ _),upd_upd,updM_m (upd_self _ _) (keyI _ _),upd_upd,updM_m (upd_self _ _) (keyI _ _),upd_upd,updM_m (upd_self _ _) (keyI _ _),upd_upd,updM_m (upd_self _ _) (keyI _ _),upd_upd,updM_m (upd_self _ _) (keyI _ _),upd_upd,updM_m (upd_self _ _) (keyI _ _),upd_upd,updM_m (upd_self _ _) (keyI _ _),upd_upd,updM_m (upd_self _ _) (keyI _ _),upd_upd,updM_m (upd_self _ _) (keyI _ _),upd_upd]
 rw[e2,e4]
 have ob:∀{es:List (Key × AV)} {i:Nat},i<S6.n→((S6.new (.map (.i .i64) [] true)).upd S6.n (.map (.i .i64) es true)).obj i=S6.obj i:=fun hi=>(upd_ne (by omega)).trans (new_lt hi)
 refine⟨_,rfl,(((k2.trans k4).trans k6).new _).upd (by omega) _,.m' S6.n (.i .i64) [(.i 1,.f (.func 79) [] [.p S.n 0 0]),(.i 6,.f (.func 81) [] []),(.i 7,.f (.func 83) [] []),(.i 8,.f (.func 84) [] []),(.i 10,.f (.func 85) [] []),(.i 11,.f (.func 86) [] [.p (S.n+1) 0 0,.p S.n 0 0]),(.i 12,.f (.func 87) [] [.p (S.n+2) 0 0]),(.i 14,.f (.func 88) [] [.p (S.n+1) 0 0,.p S.n 0 0]),(.i 16,.f (.func 89) [] [.p (S.n+1) 0 0,.p (S.n+2) 0 0]),(.i 17,.f (.func 90) [] [.p (S.n+2) 0 0,.p (S.n+1) 0 0]),(.i 18,.f (.func 91) [] [.p (S.n+1) 0 0])] rulesE ?_ rfl (fun i e e' h h'=>?_) (fun i e e' h h'=>?_)⟩
 ·rw[frz_ofM (upd_self _ _)]
  have:newer S.n S6.n=true:=by simp[newer];omega
  rw[this]
  rfl
 ·have hi:i<11:=(List.getElem?_eq_some_iff.1 h').1
  match i,hi with
  |0,_|1,_|2,_|3,_|4,_|5,_|6,_|7,_|8,_|9,_|10,_=>cases h;cases h';rfl
 ·have hi:i<11:=(List.getElem?_eq_some_iff.1 h').1
  have fz:∀{es:List (Key × AV)} {i t:Nat} {rows:List (List AV)},S.n≤i→i<S6.n→S6.obj i=some (.cells t rows true)→((((S6.new (.map (.i .i64) [] true)).upd S6.n (.map (.i .i64) es true))).frz (newer S.n)).obj i=some (.cells t rows false):=fun{es i t rows} h1 h2 h3=>by
   rw[frz_of ((ob h2).trans h3)]
   have:newer S.n i=true:=by simp[newer];exact h1
   rw[this]
   rfl
  have cY:Cv ((((S6.new (.map (.i .i64) [] true)).upd S6.n (.map (.i .i64) [(.i 1,.f (.func 79) [] [.p S.n 0 0]),(.i 6,.f (.func 81) [] []),(.i 7,.f (.func 83) [] []),(.i 8,.f (.func 84) [] []),(.i 10,.f (.func 85) [] []),(.i 11,.f (.func 86) [] [.p (S.n+1) 0 0,.p S.n 0 0]),(.i 12,.f (.func 87) [] [.p (S.n+2) 0 0]),(.i 14,.f (.func 88) [] [.p (S.n+1) 0 0,.p S.n 0 0]),(.i 16,.f (.func 89) [] [.p (S.n+1) 0 0,.p (S.n+2) 0 0]),(.i 17,.f (.func 90) [] [.p (S.n+2) 0 0,.p (S.n+1) 0 0]),(.i 18,.f (.func 91) [] [.p (S.n+1) 0 0])] true))).frz (newer S.n)) S.n (.p S.n 0 0) (.q tF.row 0):=.pq S.n 0 0 _ _ [aI 2,.v (.string ⟨#[]⟩),aI 0,.nl] _ (fz (Nat.le_refl _) (by omega) q2) rfl (by rw[Fo.row_mk];rfl) (by
   rw[Fo.row_mk]
   intro k u u2 e1 e2
   match k with
   |0=>cases e1;cases e2;exact .v _
   |1=>cases e1;cases e2;exact .v _
   |2=>cases e1;cases e2;exact .v _
   |3=>cases e1;cases e2;exact .nl
   |k+4=>simp at e1)
  have cU:Cv ((((S6.new (.map (.i .i64) [] true)).upd S6.n (.map (.i .i64) [(.i 1,.f (.func 79) [] [.p S.n 0 0]),(.i 6,.f (.func 81) [] []),(.i 7,.f (.func 83) [] []),(.i 8,.f (.func 84) [] []),(.i 10,.f (.func 85) [] []),(.i 11,.f (.func 86) [] [.p (S.n+1) 0 0,.p S.n 0 0]),(.i 12,.f (.func 87) [] [.p (S.n+2) 0 0]),(.i 14,.f (.func 88) [] [.p (S.n+1) 0 0,.p S.n 0 0]),(.i 16,.f (.func 89) [] [.p (S.n+1) 0 0,.p (S.n+2) 0 0]),(.i 17,.f (.func 90) [] [.p (S.n+2) 0 0,.p (S.n+1) 0 0]),(.i 18,.f (.func 91) [] [.p (S.n+1) 0 0])] true))).frz (newer S.n)) S.n (.p (S.n+1) 0 0) (.q [.f (.func 77) [] []] 0):=.pq (S.n+1) 0 0 _ _ [.f (.func 77) [] []] _ (fz (by omega) (by omega) q4) rfl rfl (cvs1 (cv_f0 _))
  have cA:Cv ((((S6.new (.map (.i .i64) [] true)).upd S6.n (.map (.i .i64) [(.i 1,.f (.func 79) [] [.p S.n 0 0]),(.i 6,.f (.func 81) [] []),(.i 7,.f (.func 83) [] []),(.i 8,.f (.func 84) [] []),(.i 10,.f (.func 85) [] []),(.i 11,.f (.func 86) [] [.p (S.n+1) 0 0,.p S.n 0 0]),(.i 12,.f (.func 87) [] [.p (S.n+2) 0 0]),(.i 14,.f (.func 88) [] [.p (S.n+1) 0 0,.p S.n 0 0]),(.i 16,.f (.func 89) [] [.p (S.n+1) 0 0,.p (S.n+2) 0 0]),(.i 17,.f (.func 90) [] [.p (S.n+2) 0 0,.p (S.n+1) 0 0]),(.i 18,.f (.func 91) [] [.p (S.n+1) 0 0])] true))).frz (newer S.n)) S.n (.p (S.n+2) 0 0) (.q [.f (.func 78) [] []] 0):=.pq (S.n+2) 0 0 _ _ [.f (.func 78) [] []] _ (fz (by omega) (by omega) o6) rfl rfl (cvs1 (cv_f0 _))
  match i,hi with
  |0,_=>cases h;cases h';exact cv_fs rfl (cvs1 cY)
  |1,_=>cases h;cases h';exact cv_fs rfl (cvs0)
  |2,_=>cases h;cases h';exact cv_fs rfl (cvs0)
  |3,_=>cases h;cases h';exact cv_fs rfl (cvs0)
  |4,_=>cases h;cases h';exact cv_fs rfl (cvs0)
  |5,_=>cases h;cases h';exact cv_fs rfl (cvs2 cU cY)
  |6,_=>cases h;cases h';exact cv_fs rfl (cvs1 cA)
  |7,_=>cases h;cases h';exact cv_fs rfl (cvs2 cU cY)
  |8,_=>cases h;cases h';exact cv_fs rfl (cvs2 cU cA)
  |9,_=>cases h;cases h';exact cv_fs rfl (cvs2 cA cU)
  |10,_=>cases h;cases h';exact cv_fs rfl (cvs1 cU)
theorem may_len{k l:Int}{n:ByteArray}{ks:List Fo}{d:Int}(h:Fo.mayB (.mk k n l ks) d=true):(ks.length:Int)=kidsN k∧n=⟨#[]⟩∧(l=0∨k=3)∧∀ f∈ks,f.mayB (d - 1)=true:=by
 rw[mayB_eq,Bool.and_eq_true,decide_eq_true_eq]at h
 obtain⟨⟨_,h1,h2,h3⟩,h4⟩:=h
 exact⟨h1.symm,h2,by omega,fun f hf=>List.all_eq_true.1 h4 f hf⟩
theorem callV_frz{P:Program}{fn:FuncId}{fs args args2 cs:List AV}{r:AV}{S:Store}(D:Nat→Bool)(hl:(fs++args++cs).length=args2.length)(hcv:∀(k:Nat) (u u2:AV),(fs++args++cs)[k]? = some u→args2[k]? = some u2→Cv (S.frz D) S.n u u2)(h:Ans P fn args2 r)
    {K X:AV→Store→Prop} (k:K r (S.frz D)):callV P (.f (.func fn) fs cs) args S K X:=
 .inl (ACalls.frz D hl hcv ((h _).mono fun e S' h=>by obtain⟨rfl,rfl⟩:=h;exact k))
theorem cqY{S:Store}{n:Nat}:Cv S n (.q tF.row 0) (.q tF.row 0):=.q _ _ 0 rfl fun k u u2 h h'=>by
 rw[h]at h';cases h'
 exact Fo.tree tF u (List.mem_of_getElem? h) S n
theorem cqF{S:Store}{n:Nat}(fn:Fn):Cv S n (.q [.f fn [] []] 0) (.q [.f fn [] []] 0):=.q _ _ 0 rfl (cvs1 (cv_f0 fn))
theorem cvs3{S:Store}{n:Nat}{x x' y y' z z':AV}(h:Cv S n x x')(h':Cv S n y y')(h2:Cv S n z z'):∀(k:Nat) (u u2:AV),[x,y,z][k]? = some u→[x',y',z'][k]? = some u2→Cv S n u u2
 |0,_,_,h1,h3=>by cases h1;cases h3;exact h
 |1,_,_,h1,h3=>by cases h1;cases h3;exact h'
 |2,_,_,h1,h3=>by cases h1;cases h3;exact h2
 |k+3,_,_,h1,_=>by simp at h1
theorem len1{l:List Fo}(h:(l.length:Int)=1):∃ a,l = [a]:=List.length_eq_one_iff.1 (by omega)
theorem len2{l:List Fo}(h:(l.length:Int)=2):∃ a b,l = [a,b]:=by
 match l,h with
 |[a,b],_=>exact⟨a,b,rfl⟩
 |[],h=>simp at h
 |[a],h=>simp at h
 |a :: b :: c :: l,h=>simp at h;omega
theorem lkS{z v:AV}:lkV z true (some v) = .t [v,aB true]:=rfl
theorem lkN{z:AV}:lkV z true none = .t [z,aB false]:=rfl
theorem ans36:∀(f:Fo),f.ok→∀ d,f.mayB d=true→Ans Pg 36 [f.av,.mt (.i .i64) rulesE] f.baseF.av:=by
 intro f
 induction f using Fo.ind with
 |h k n l ks ih =>
  intro hok d hm S
  obtain⟨h1,h2,h3,h4,h5⟩:=hok.inv
  obtain⟨hlen,hn,hl,hk⟩:=may_len hm
  subst hn
  refine ACalls.tree (calls36 ?_)
  unfold m36
  rw[Fo.av,Fo.row_mk]
  refine boxA_of rfl fun S1 k1 n1 o1=>?_
  refine boxA_of rfl fun S2 k2 n2 o2=>?_
  have p1:=(k2.2 _ (by omega)).trans o1
  have e1:S1.n=S.n+1:=n1
  have e2:S2.n=S.n+2:=by omega
  rw[e1]at o2 ⊢
  rw[shift_p,ld1_p (u:=aI k) p1 rfl rfl,bin_eql,onB_v]
  refine gd_of (fun h=>?_) (fun h=>?_)
  ·have h:=dT h
   subst h
   have hnil:ks = []:=List.length_eq_zero_iff.1 (by have:kidsN 3=0:=rfl;omega)
   subst hnil
   rw[ldN_p (n:=4) p1 rfl]
   refine stA_of (cs':=[aI 3,.v (.string ⟨#[]⟩),aI l,foL []]) o2 rfl rfl fun S3 n3 o3 f3=>?_
   rw[ldN_p (n:=4) o3 rfl]
   refine⟨_,rfl,(k1.trans k2).st (by omega) n3 f3,?_⟩
   rw[Fo.baseF_mk]
   have:=Fo.tr (.mk 3 ⟨#[]⟩ l []) (S3.frz (newer S.n)) S.n
   rw[Fo.av,Fo.row_mk]at this
   exact this
  have hk3:=dF h
  rw[shift_p,ld1_p (u:=foL ks) p1 rfl rfl,lenS_foL]
  refine loop36_0 (fun z y S'=>∃ i:Nat,y=aI i∧i≤ks.length∧Keep S S'∧S.n+2≤S'.n∧S'.obj S.n=some (.cells 35 [[aI k,.v (.string ⟨#[]⟩),aI l,foL ks]] true)∧S'.obj (S.n+1)=some (.cells 35 [[.v (.int .i64 0),.v (.string ByteArray.empty),.v (.int .i64 0),.nl]] true)∧Own (S.n+2) S' z 35 (((ks.take i).map Fo.baseF).map Fo.row))
   (fun _ y _=>ks.length - ((intA y).getD 0).toNat) ⟨0,rfl,Nat.zero_le _,k1.trans k2,by omega,p1,o2,.nl _ _ _⟩ ?_
  rintro z _ S3 ⟨i,rfl,hi,k3,n3,q1,q2,w3⟩ KE hKE
  unfold b36_0
  rw[bin_lss,onB_v]
  refine gd_of (fun hlt=>?_) (fun hge=>?_)
  ·have hlt:i<ks.length:=by have:=dT hlt;omega
   have hmem:=List.getElem_mem hlt
   rw[ixS_foL hlt,ldN_q (Fo.row_len _)]
   refine boxA_of rfl fun S4 k4 n4 o4=>?_
   refine stA_of o4 (Fo.row_len ks[i]) rfl fun S5 n5 o5 f5=>?_
   have k5:=k4.st (Nat.le_refl _) n5 f5
   rw[ldN_p (n:=4) o5 (Fo.row_len _)]
   refine callF_ans (ih _ hmem (h5 _ hmem) _ (hk _ hmem)) ?_
   refine bslA4 (Fo.row_len _) ?_
   have w5:=w3.same k5.1 fun j _ hj=>k5.2 j hj
   refine w5.app (c:=(Fo.baseF ks[i]).row) (by omega) (Fo.row_len _) (by simp;omega) (fun z' S6 w6 b6 hz=>?_) rfl
   have n6:=b6.1
   have old6:∀ x,x<S.n+2→S6.obj x=S5.obj x:=fun x hx=>b6.2 x (by omega) (fun b m e=>by have:=w5.lt e;omega)
   have old3:∀ x,x<S.n+2→S6.obj x=S3.obj x:=fun x hx=>(old6 x hx).trans (k5.2 x (by omega))
   rw[bin_add (by omega) (by omega)]
   refine hKE _ _ _ ⟨i+1,rfl,hlt,⟨by have:=k3.1;omega,fun x hx=>(old3 x (by omega)).trans (k3.2 x hx)⟩,by omega,(old3 _ (by omega)).trans q1,(old3 _ (by omega)).trans q2,?_⟩ (by simp[intA];omega)
   rw[List.take_add_one,List.getElem?_eq_getElem hlt,List.map_append,List.map_append]
   exact w6
  have hge:i=ks.length:=by have:=dF hge;omega
  subst hge
  rw[List.take_length]at w3
  have hL:((ks.map Fo.baseF).length:Int)=kidsN k:=by rw[List.length_map];exact hlen
  rw[Fo.baseF_mk]
  generalize ks.map Fo.baseF=ls at w3 hL
  have cz:Cv (S3.frz (newer (S.n+2))) S3.n z (foL ls):=own_rows (fun r hr u hu=>by obtain⟨f,_,rfl⟩:=List.mem_map.1 hr;exact Fo.tree f u hu) w3 (Nat.le_refl _)
  have fz:∀{i t:Nat} {rows:List (List AV)},i<S.n+2→S3.obj i=some (.cells t rows true)→(S3.frz (newer (S.n+2))).obj i=some (.cells t rows true):=fun h1 h2=>(frz_false (by simp[newer];omega)).trans h2
  have kz:Keep S (S3.frz (newer (S.n+2))):=k3.frz (by omega)
  have fin:∀(g:Fo),g=baseK k l ls→stN 4 (.p (S.n+1) 0 0) g.av (S3.frz (newer (S.n+2))) fun _ T=>ldN 4 (.p (S.n+1) 0 0) T fun v T=>∃ r,AEnd.ret v = .ret r∧Keep S T∧Cv (T.frz (newer S.n)) S.n r (baseK k l ls).av:=fun g hg=>by
   subst hg
   unfold Fo.av
   refine stA_of (fz (by omega) q2) (Fo.row_len _) rfl fun S7 n7 o7 f7=>?_
   rw[ldN_p (n:=4) o7 (Fo.row_len _)]
   exact⟨_,rfl,kz.st (by omega) n7 f7,Fo.tr _ _ _⟩
  rw[shift_p,ld1_p (u:=aI k) q1 rfl rfl,lkM_mt (keyI _ _)]
  have hr:1≤k∧k≤18:=by
   rcases Classical.em (k<1∨18<k)with h|h
   ·rw[kidsN,if_pos h]at hL;omega
   ·omega
  have plain:(k=2∨k=4∨k=5∨k=9∨k=13∨k=15)→callF Pg 76 [aI k,z] S3 (fun e S'=>∃ r,e = .ret r∧Keep S S'∧Cv (S'.frz (newer S.n)) S.n r (baseK k l ls).av) fun v35 T=>stN 4 (.p (S.n+1) 0 0) v35 T fun _ T=>ldN 4 (.p (S.n+1) 0 0) T fun v37 T=>∃ r,AEnd.ret v37 = .ret r∧Keep S T∧Cv (T.frz (newer S.n)) S.n r (baseK k l ls).av:=fun hk=>by
   refine callF_frz (S:=S3) (newer (S.n+2)) (args:=[aI k,z]) (args2:=[aI k,foL ls]) rfl (cvs2 (.v _) cz) (ans76 k ls) ?_
   refine fin _ ?_
   unfold baseK
   rcases hk with rfl|rfl|rfl|rfl|rfl|rfl<;>rfl
  rcases(by omega:k=1∨k=2∨k=4∨k=5∨k=6∨k=7∨k=8∨k=9∨k=10∨k=11∨k=12∨k=13∨k=14∨k=15∨k=16∨k=17∨k=18)with rfl|rfl|rfl|rfl|rfl|rfl|rfl|rfl|rfl|rfl|rfl|rfl|rfl|rfl|rfl|rfl|rfl
  ·rw[show lkp rulesE (.i 1)=some (.f (.func 79) [] [.q tF.row 0])from rfl,lkS]
   rw[extr0,extr1,onB_v,gd_T rfl]
   exact callV_frz (newer (S.n+2)) (fs:=[]) (args:=[z]) (cs:=[.q tF.row 0]) (args2:=[foL ls,.q tF.row 0]) rfl (cvs2 cz (cqY)) (ans79 ls) (by exact fin _ rfl)
  ·rw[show lkp rulesE (.i 2)=none from rfl,lkN]
   rw[extr0,extr1,onB_v,gd_F rfl,shift_p,ld1_p (u:=aI 2) q1 rfl rfl]
   exact plain (by simp)
  ·rw[show lkp rulesE (.i 4)=none from rfl,lkN]
   rw[extr0,extr1,onB_v,gd_F rfl,shift_p,ld1_p (u:=aI 4) q1 rfl rfl]
   exact plain (by simp)
  ·rw[show lkp rulesE (.i 5)=none from rfl,lkN]
   rw[extr0,extr1,onB_v,gd_F rfl,shift_p,ld1_p (u:=aI 5) q1 rfl rfl]
   exact plain (by simp)
  ·rw[show lkp rulesE (.i 6)=some (.f (.func 81) [] [])from rfl,lkS]
   rw[extr0,extr1,onB_v,gd_T rfl]
   obtain⟨a,b,rfl⟩:=len2 hL
   exact callV_frz (newer (S.n+2)) (fs:=[]) (args:=[z]) (cs:=[]) (args2:=[foL [a,b]]) rfl (cvs1 cz) (ans81 a b) (by exact fin _ rfl)
  ·rw[show lkp rulesE (.i 7)=some (.f (.func 83) [] [])from rfl,lkS]
   rw[extr0,extr1,onB_v,gd_T rfl]
   obtain⟨a,b,rfl⟩:=len2 hL
   exact callV_frz (newer (S.n+2)) (fs:=[]) (args:=[z]) (cs:=[]) (args2:=[foL [a,b]]) rfl (cvs1 cz) (ans83 a b) (by exact fin _ rfl)
  ·rw[show lkp rulesE (.i 8)=some (.f (.func 84) [] [])from rfl,lkS]
   rw[extr0,extr1,onB_v,gd_T rfl]
   obtain⟨a,b,rfl⟩:=len2 hL
   exact callV_frz (newer (S.n+2)) (fs:=[]) (args:=[z]) (cs:=[]) (args2:=[foL [a,b]]) rfl (cvs1 cz) (ans84 a b) (by exact fin _ rfl)
  ·rw[show lkp rulesE (.i 9)=none from rfl,lkN]
   rw[extr0,extr1,onB_v,gd_F rfl,shift_p,ld1_p (u:=aI 9) q1 rfl rfl]
   exact plain (by simp)
  ·rw[show lkp rulesE (.i 10)=some (.f (.func 85) [] [])from rfl,lkS]
   rw[extr0,extr1,onB_v,gd_T rfl]
   obtain⟨a,rfl⟩:=len1 hL
   exact callV_frz (newer (S.n+2)) (fs:=[]) (args:=[z]) (cs:=[]) (args2:=[foL [a]]) rfl (cvs1 cz) (ans85 a) (by exact fin _ rfl)
  ·rw[show lkp rulesE (.i 11)=some (.f (.func 86) [] [.q [.f (.func 77) [] []] 0,.q tF.row 0])from rfl,lkS]
   rw[extr0,extr1,onB_v,gd_T rfl]
   obtain⟨a,rfl⟩:=len1 hL
   exact callV_frz (newer (S.n+2)) (fs:=[]) (args:=[z]) (cs:=[.q [.f (.func 77) [] []] 0,.q tF.row 0]) (args2:=[foL [a],.q [.f (.func 77) [] []] 0,.q tF.row 0]) rfl (cvs3 cz (cqF _) (cqY)) (ans86 a) (by exact fin _ rfl)
  ·rw[show lkp rulesE (.i 12)=some (.f (.func 87) [] [.q [.f (.func 78) [] []] 0])from rfl,lkS]
   rw[extr0,extr1,onB_v,gd_T rfl]
   obtain⟨a,rfl⟩:=len1 hL
   exact callV_frz (newer (S.n+2)) (fs:=[]) (args:=[z]) (cs:=[.q [.f (.func 78) [] []] 0]) (args2:=[foL [a],.q [.f (.func 78) [] []] 0]) rfl (cvs2 cz (cqF _)) (ans87 a) (by exact fin _ rfl)
  ·rw[show lkp rulesE (.i 13)=none from rfl,lkN]
   rw[extr0,extr1,onB_v,gd_F rfl,shift_p,ld1_p (u:=aI 13) q1 rfl rfl]
   exact plain (by simp)
  ·rw[show lkp rulesE (.i 14)=some (.f (.func 88) [] [.q [.f (.func 77) [] []] 0,.q tF.row 0])from rfl,lkS]
   rw[extr0,extr1,onB_v,gd_T rfl]
   obtain⟨a,rfl⟩:=len1 hL
   exact callV_frz (newer (S.n+2)) (fs:=[]) (args:=[z]) (cs:=[.q [.f (.func 77) [] []] 0,.q tF.row 0]) (args2:=[foL [a],.q [.f (.func 77) [] []] 0,.q tF.row 0]) rfl (cvs3 cz (cqF _) (cqY)) (ans88 a) (by exact fin _ rfl)
  ·rw[show lkp rulesE (.i 15)=none from rfl,lkN]
   rw[extr0,extr1,onB_v,gd_F rfl,shift_p,ld1_p (u:=aI 15) q1 rfl rfl]
   exact plain (by simp)
  ·rw[show lkp rulesE (.i 16)=some (.f (.func 89) [] [.q [.f (.func 77) [] []] 0,.q [.f (.func 78) [] []] 0])from rfl,lkS]
   rw[extr0,extr1,onB_v,gd_T rfl]
   obtain⟨a,b,rfl⟩:=len2 hL
   exact callV_frz (newer (S.n+2)) (fs:=[]) (args:=[z]) (cs:=[.q [.f (.func 77) [] []] 0,.q [.f (.func 78) [] []] 0]) (args2:=[foL [a,b],.q [.f (.func 77) [] []] 0,.q [.f (.func 78) [] []] 0]) rfl (cvs3 cz (cqF _) (cqF _)) (ans89 a b) (by exact fin _ rfl)
  ·rw[show lkp rulesE (.i 17)=some (.f (.func 90) [] [.q [.f (.func 78) [] []] 0,.q [.f (.func 77) [] []] 0])from rfl,lkS]
   rw[extr0,extr1,onB_v,gd_T rfl]
   obtain⟨a,b,rfl⟩:=len2 hL
   exact callV_frz (newer (S.n+2)) (fs:=[]) (args:=[z]) (cs:=[.q [.f (.func 78) [] []] 0,.q [.f (.func 77) [] []] 0]) (args2:=[foL [a,b],.q [.f (.func 78) [] []] 0,.q [.f (.func 77) [] []] 0]) rfl (cvs3 cz (cqF _) (cqF _)) (ans90 a b) (by exact fin _ rfl)
  ·rw[show lkp rulesE (.i 18)=some (.f (.func 91) [] [.q [.f (.func 77) [] []] 0])from rfl,lkS]
   rw[extr0,extr1,onB_v,gd_T rfl]
   obtain⟨a,b,rfl⟩:=len2 hL
   exact callV_frz (newer (S.n+2)) (fs:=[]) (args:=[z]) (cs:=[.q [.f (.func 77) [] []] 0]) (args2:=[foL [a,b],.q [.f (.func 77) [] []] 0]) rfl (cvs2 cz (cqF _)) (ans91 a b) (by exact fin _ rfl)
abbrev yA:AV:=.a [aI 2,.v (.string ⟨#[]⟩),aI 0,.nl]
theorem cvT{S:Store}{n:Nat}:Cv S n yA tF.av:=by
 rw[Fo.av,Fo.row_mk]
 refine .a _ _ rfl fun k u u2 e1 e2=>?_
 match k with
 |0=>cases e1;cases e2;exact .v _
 |1=>cases e1;cases e2;exact .v _
 |2=>cases e1;cases e2;exact .v _
 |3=>cases e1;cases e2;exact .nl
 |k+4=>simp at e1
theorem eq_no{k j:Int}{S:Store}{A B:AV→Store→Prop}(h:decide (k=j)=false)(kk:B (.v (.bool false)) S):bin .eql 0 (aI k) (.v (.int .i64 j)) S fun v S=>onB v fun b=>gd b (A v S) (B v S):=by
 rw[bin_eql,onB_v,h];exact kk
theorem eq_yes{k j:Int}{S:Store}{A B:AV→Store→Prop}(h:k=j)(kk:A (.v (.bool true)) S):bin .eql 0 (aI k) (.v (.int .i64 j)) S fun v S=>onB v fun b=>gd b (A v S) (B v S):=by
 rw[bin_eql,onB_v,decide_eq_true h];exact kk
theorem on_yes{A B:Prop}(kk:A):onB (.v (.bool true)) fun b=>gd b A B:=kk
def baseN(f:Fo):Fo:=if f.mayB 60=true then f.baseF else F0
theorem ans14{f:Fo}(hok:f.ok):Ans Pg 14 [f.av] (baseN f).av:=by
 intro S
 refine ACalls.tree (calls14 ?_)
 unfold m14
 rw[show f.av = .a f.row from rfl]
 refine boxA_of (Fo.row_len f) fun S1 k1 n1 o1=>?_
 refine boxA_of rfl fun S2 k2 n2 o2=>?_
 have p1:=(k2.2 _ (by omega)).trans o1
 have kk:=k1.trans k2
 rw[ldN_p (n:=4) p1 (Fo.row_len f)]
 refine callF_ans (ans35 f hok 60 ⟨by decide,by decide⟩) ?_
 unfold baseN
 rw[un_not,onB_v]
 refine gd_of (fun h=>?_) (fun h=>?_)
 ·rw[bld0,if_neg (by simpa using h)]
  refine stA_of o2 rfl rfl fun S3 n3 o3 f3=>?_
  rw[ldN_p (n:=4) o3 rfl]
  exact⟨_,rfl,kk.st (by omega) n3 f3,cv_F0⟩
 ·have h:f.mayB 60=true:=by simpa using h
  rw[if_pos h]
  refine L_ldN (n:=4) p1 (by omega) (Fo.row_len f) ?_
  refine L_callA ans37 ?_
  refine L_callA (ans36 f hok 60 h) ?_
  refine stA_of o2 (Fo.row_len _) rfl fun S3 n3 o3 f3=>?_
  rw[ldN_p (n:=4) o3 (Fo.row_len _)]
  exact⟨_,rfl,kk.st (by omega) n3 f3,Fo.tr _ _ _⟩
theorem ans39:∀(f:Fo),f.ok→∀ d,f.mayB d=true→Ans Pg 39 [f.av] f.baseF.av:=by
 intro f
 induction f using Fo.ind with
 |h k n l ks ih =>
  intro hok d hm S
  obtain⟨h1,h2,h3,h4,h5⟩:=hok.inv
  obtain⟨hlen,hn,hl,hk⟩:=may_len hm
  subst hn
  refine ACalls.tree (calls39 ?_)
  unfold m39
  rw[Fo.av,Fo.row_mk]
  refine boxA_of rfl fun S1 k1 n1 o1=>?_
  refine boxA_of rfl fun S2 k2 n2 o2=>?_
  have p1:=(k2.2 _ (by omega)).trans o1
  have e1:S1.n=S.n+1:=n1
  have e2:S2.n=S.n+2:=by omega
  rw[e1]at o2 ⊢
  have fz:∀{T:Store} {i t:Nat} {rows:List (List AV)},i<S.n+2→T.obj i=some (.cells t rows true)→(T.frz (newer (S.n+2))).obj i=some (.cells t rows true):=fun h1 h2=>(frz_false (by simp[newer];omega)).trans h2
  refine loopw39_0 (fun y1 y2 z y S'=>y1 = .p S.n 0 0∧y2 = .p (S.n+1) 0 0∧∃ i:Nat,y=aI i∧i≤ks.length∧Keep S S'∧S.n+2≤S'.n∧S'.obj S.n=some (.cells 35 [[aI k,.v (.string ⟨#[]⟩),aI l,foL ks]] true)∧S'.obj (S.n+1)=some (.cells 35 [[.v (.int .i64 0),.v (.string ByteArray.empty),.v (.int .i64 0),.nl]] true)∧
      ((i<ks.length∧Own (S.n+2) S' z 35 (((ks.take i).map Fo.baseF).map Fo.row))∨(i=ks.length∧z=foL (ks.map Fo.baseF))))
   (fun _ _ _ y _=>ks.length - ((intA y).getD 0).toNat) ?_ ?_
  ·by_cases h0:ks = []
   ·subst h0
    refine⟨_,_,foL [],_,S2.frz (newer (S.n+2)),Wk.of (newer (S.n+2)) rfl (fun i o2 h=>⟨o2,h,.inl rfl⟩) rfl (fun k u u2 e1 e2=>?_),rfl,rfl,0,rfl,Nat.zero_le _,(k1.trans k2).frz (by omega),by show S.n+2≤S2.n;omega,fz (by omega) p1,fz (by omega) o2,.inr ⟨rfl,rfl⟩⟩
    match k with
    |0=>cases e1;cases e2;exact .inl rfl
    |1=>cases e1;cases e2;exact .inl rfl
    |2=>cases e1;cases e2;exact .inr .nl
    |3=>cases e1;cases e2;exact .inl rfl
    |k+4=>simp[env39_0]at e1
   ·exact⟨_,_,.nl,_,S2,Wk.refl _ _,rfl,rfl,0,rfl,Nat.zero_le _,k1.trans k2,by omega,p1,o2,.inl ⟨List.length_pos_iff.2 h0,.nl _ _ _⟩⟩
  rintro _ _ z _ S3 ⟨rfl,rfl,i,rfl,hi,k3,n3,q1,q2,w3⟩ KE hKE
  unfold b39_0
  rw[shift_p,ld1_p (u:=foL ks) q1 rfl rfl,lenS_foL,bin_lss,onB_v]
  refine gd_of (fun hlt=>?_) (fun hge=>?_)
  ·have hlt:i<ks.length:=by have:=dT hlt;omega
   have hmem:=List.getElem_mem hlt
   obtain⟨_,w3⟩:i<ks.length∧Own (S.n+2) S3 z 35 (((ks.take i).map Fo.baseF).map Fo.row):=by
    rcases w3 with h|h
    ·exact h
    ·omega
   rw[shift_p,ld1_p (u:=foL ks) q1 rfl rfl,ixS_foL hlt,ldN_q (Fo.row_len _)]
   refine callF_ans (ih _ hmem (h5 _ hmem) _ (hk _ hmem)) ?_
   refine bslA4 (Fo.row_len _) ?_
   refine w3.app (c:=(Fo.baseF ks[i]).row) (by omega) (Fo.row_len _) (by simp;omega) (fun z' S6 w6 b6 hz=>?_) rfl
   have n6:=b6.1
   have old3:∀ x,x<S.n+2→S6.obj x=S3.obj x:=fun x hx=>b6.2 x (by omega) (fun b m e=>by have:=w3.lt e;omega)
   have k6:Keep S S6:=⟨by have:=k3.1;omega,fun x hx=>(old3 x (by omega)).trans (k3.2 x hx)⟩
   have w6':Own (S.n+2) S6 z' 35 (((ks.take (i+1)).map Fo.baseF).map Fo.row):=by
    rw[List.take_add_one,List.getElem?_eq_getElem hlt,List.map_append,List.map_append]
    exact w6
   have r1:=(old3 _ (by omega)).trans q1
   have r2:=(old3 _ (by omega)).trans q2
   rw[bin_add (by omega) (by omega)]
   by_cases hl:i+1<ks.length
   ·exact hKE _ _ _ _ _ _ _ _ _ _ (Wk.refl _ _) ⟨rfl,rfl,i+1,rfl,hlt,k6,by omega,r1,r2,.inl ⟨hl,w6'⟩⟩ (by simp[intA];omega)
   ·have hl:i+1=ks.length:=by omega
    rw[hl,List.take_length]at w6'
    have cz:Cv (S6.frz (newer (S.n+2))) S6.n z' (foL (ks.map Fo.baseF)):=own_rows (fun r hr u hu=>by obtain⟨f,_,rfl⟩:=List.mem_map.1 hr;exact Fo.tree f u hu) w6' (Nat.le_refl _)
    refine hKE _ _ _ _ _ _ _ (foL (ks.map Fo.baseF)) _ (S6.frz (newer (S.n+2))) (Wk.of (newer (S.n+2)) rfl (fun i o2 h=>⟨o2,h,.inl rfl⟩) rfl (fun k u u2 e1 e2=>?_)) ⟨rfl,rfl,i+1,rfl,hlt,k6.frz (by omega),by show S.n+2≤S6.n;omega,fz (by omega) r1,fz (by omega) r2,.inr ⟨hl,rfl⟩⟩ (by simp[intA];omega)
    match k with
    |0=>cases e1;cases e2;exact .inl rfl
    |1=>cases e1;cases e2;exact .inl rfl
    |2=>cases e1;cases e2;exact .inr cz
    |3=>cases e1;cases e2;exact .inl rfl
    |k+4=>simp[env39_0]at e1
  have hge:i=ks.length:=by have:=dF hge;omega
  obtain⟨_,rfl⟩:i=ks.length∧z=foL (ks.map Fo.baseF):=by
   rcases w3 with h|h
   ·omega
   ·exact h
  clear hKE KE
  have hL:((ks.map Fo.baseF).length:Int)=kidsN k:=by rw[List.length_map];exact hlen
  rw[Fo.baseF_mk]
  rw[bld_of (cs:=[aI 2,.v (.string ⟨#[]⟩),aI 0,.nl]) rfl]
  refine boxA_of rfl fun S4 k4 n4 o4=>?_
  refine stA_of (cs':=[aI 2,.v (.string ⟨#[]⟩),aI 0,.nl]) o4 rfl rfl fun S5 n5 oY f5=>?_
  have k5:=k4.st (Nat.le_refl _) n5 f5
  have pF:=(k5.2 S.n (by omega)).trans q1
  have q2:=(k5.2 (S.n+1) (by omega)).trans q2
  have kS:=k3.trans k5
  have n6:S.n+2≤S5.n:=by omega
  rw[shift_p,ld1_p (u:=aI k) pF rfl rfl]
  have hks:ks.map Fo.baseF = []↔ks = []:=List.map_eq_nil_iff
  have hr:1≤k∧k≤18:=by
   rcases Classical.em (k<1∨18<k)with h|h
   ·rw[kidsN,if_pos h]at hL;omega
   ·omega
  have fin:∀{T:Store},Keep S T→T.obj (S.n+1)=some (.cells 35 [[.v (.int .i64 0),.v (.string ByteArray.empty),.v (.int .i64 0),.nl]] true)→S.n+2≤T.n→∀(g:Fo),g=baseK k l (ks.map Fo.baseF)→stN 4 (.p (S.n+1) 0 0) g.av T fun _ T=>ldN 4 (.p (S.n+1) 0 0) T fun v T=>∃ r,AEnd.ret v = .ret r∧Keep S T∧Cv (T.frz (newer S.n)) S.n r (baseK k l (ks.map Fo.baseF)).av:=fun{T} kT q _ g hg=>by
   subst hg
   unfold Fo.av
   refine stA_of q (Fo.row_len _) rfl fun S7 n7 o7 f7=>?_
   rw[ldN_p (n:=4) o7 (Fo.row_len _)]
   exact⟨_,rfl,kT.st (by omega) n7 f7,Fo.tr _ _ _⟩
  by_cases hsm:k=2∨k=3
  ·rcases hsm with rfl|rfl
   ·obtain rfl:ks = []:=List.length_eq_zero_iff.1 (by have:kidsN 2=0:=rfl;omega)
    obtain rfl:l=0:=by rcases hl with h|h;exact h;exact absurd h (by decide)
    refine eq_no (by decide) ?_
    refine eq_yes rfl ?_
    refine on_yes ?_
    rw[ldN_p (n:=4) pF rfl,show(AV.a [aI 2,.v (.string ⟨#[]⟩),aI 0,foL []])=(Fo.mk 2 ⟨#[]⟩ 0 []).av from by rw[Fo.av,Fo.row_mk]]
    exact fin kS q2 (by omega) _ rfl
   ·obtain rfl:ks = []:=List.length_eq_zero_iff.1 (by have:kidsN 3=0:=rfl;omega)
    refine eq_no (by decide) ?_
    refine eq_no (by decide) ?_
    refine eq_yes rfl ?_
    rw[ldN_p (n:=4) pF rfl,show(AV.a [aI 3,.v (.string ⟨#[]⟩),aI l,foL []])=(Fo.mk 3 ⟨#[]⟩ l []).av from by rw[Fo.av,Fo.row_mk]]
    exact fin kS q2 (by omega) _ rfl
  generalize ks.map Fo.baseF=ls at hL fin ⊢
  rcases(by omega:k=1∨k=4∨k=5∨k=6∨k=7∨k=8∨k=9∨k=10∨k=11∨k=12∨k=13∨k=14∨k=15∨k=16∨k=17∨k=18)with rfl|rfl|rfl|rfl|rfl|rfl|rfl|rfl|rfl|rfl|rfl|rfl|rfl|rfl|rfl|rfl
  ·refine eq_yes rfl ?_
   rw[ldN_p (n:=4) oY rfl]
   refine callF_cv' (args:=[yA]) (ans92 tF) rfl (cvs1 cvT) ?_
   exact fin kS q2 (by omega) _ rfl
  ·obtain⟨a,rfl⟩:=len1 hL
   refine eq_no (by decide) ?_
   refine eq_no (by decide) ?_
   refine eq_no (by decide) ?_
   refine eq_yes rfl ?_
   refine on_yes ?_
   refine L_shift ?_
   refine L_ldp (u:=aI 4) pF (by omega) rfl rfl ?_
   refine⟨_,fun T hT=>by rw[ix0];exact⟨rfl,rfl⟩,?_⟩
   refine L_ldNq (Fo.row_len _) ?_
   refine L_callA (ans93 _ _) ?_
   exact fin kS q2 (by omega) _ rfl
  ·obtain⟨a,b,rfl⟩:=len2 hL
   refine eq_no (by decide) ?_
   refine eq_no (by decide) ?_
   refine eq_no (by decide) ?_
   refine eq_no (by decide) ?_
   refine eq_no (by decide) ?_
   refine eq_no (by decide) ?_
   refine eq_yes rfl ?_
   refine on_yes ?_
   refine L_shift ?_
   refine L_ldp (u:=aI 5) pF (by omega) rfl rfl ?_
   refine⟨_,fun T hT=>by rw[ix0];exact⟨rfl,rfl⟩,?_⟩
   refine L_ldNq (Fo.row_len _) ?_
   refine⟨_,fun T hT=>by rw[ix1];exact⟨rfl,rfl⟩,?_⟩
   refine L_ldNq (Fo.row_len _) ?_
   refine L_callA (ans94 _ _ _) ?_
   exact fin kS q2 (by omega) _ rfl
  ·obtain⟨a,b,rfl⟩:=len2 hL
   refine eq_no (by decide) ?_
   refine eq_no (by decide) ?_
   refine eq_no (by decide) ?_
   refine eq_no (by decide) ?_
   refine eq_no (by decide) ?_
   refine eq_no (by decide) ?_
   refine eq_no (by decide) ?_
   refine eq_no (by decide) ?_
   refine eq_yes rfl ?_
   refine⟨_,fun T hT=>by rw[ix0];exact⟨rfl,rfl⟩,?_⟩
   refine L_ldNq (Fo.row_len _) ?_
   refine L_callA (ans92 _) ?_
   refine⟨_,fun T hT=>by rw[ix1];exact⟨rfl,rfl⟩,?_⟩
   refine L_ldNq (Fo.row_len _) ?_
   refine L_callA (ans92 _) ?_
   refine L_callA (ans94 _ _ _) ?_
   refine L_callA (ans92 _) ?_
   exact fin kS q2 (by omega) _ rfl
  ·obtain⟨a,b,rfl⟩:=len2 hL
   refine eq_no (by decide) ?_
   refine eq_no (by decide) ?_
   refine eq_no (by decide) ?_
   refine eq_no (by decide) ?_
   refine eq_no (by decide) ?_
   refine eq_no (by decide) ?_
   refine eq_no (by decide) ?_
   refine eq_no (by decide) ?_
   refine eq_no (by decide) ?_
   refine eq_yes rfl ?_
   refine⟨_,fun T hT=>by rw[ix0];exact⟨rfl,rfl⟩,?_⟩
   refine L_ldNq (Fo.row_len _) ?_
   refine⟨_,fun T hT=>by rw[ix1];exact⟨rfl,rfl⟩,?_⟩
   refine L_ldNq (Fo.row_len _) ?_
   refine L_callA (ans92 _) ?_
   refine L_callA (ans94 _ _ _) ?_
   refine L_callA (ans92 _) ?_
   exact fin kS q2 (by omega) _ rfl
  ·obtain⟨a,b,rfl⟩:=len2 hL
   refine eq_no (by decide) ?_
   refine eq_no (by decide) ?_
   refine eq_no (by decide) ?_
   refine eq_no (by decide) ?_
   refine eq_no (by decide) ?_
   refine eq_no (by decide) ?_
   refine eq_no (by decide) ?_
   refine eq_no (by decide) ?_
   refine eq_no (by decide) ?_
   refine eq_no (by decide) ?_
   refine eq_yes rfl ?_
   refine⟨_,fun T hT=>by rw[ix0];exact⟨rfl,rfl⟩,?_⟩
   refine L_ldNq (Fo.row_len _) ?_
   refine⟨_,fun T hT=>by rw[ix1];exact⟨rfl,rfl⟩,?_⟩
   refine L_ldNq (Fo.row_len _) ?_
   refine L_callA (ans92 _) ?_
   refine L_callA (ans94 _ _ _) ?_
   refine L_callA (ans92 _) ?_
   refine⟨_,fun T hT=>by rw[ix1];exact⟨rfl,rfl⟩,?_⟩
   refine L_ldNq (Fo.row_len _) ?_
   refine⟨_,fun T hT=>by rw[ix0];exact⟨rfl,rfl⟩,?_⟩
   refine L_ldNq (Fo.row_len _) ?_
   refine L_callA (ans92 _) ?_
   refine L_callA (ans94 _ _ _) ?_
   refine L_callA (ans92 _) ?_
   refine L_callA (ans94 _ _ _) ?_
   exact fin kS q2 (by omega) _ rfl
  ·obtain⟨a,rfl⟩:=len1 hL
   refine eq_no (by decide) ?_
   refine eq_no (by decide) ?_
   refine eq_no (by decide) ?_
   refine eq_no (by decide) ?_
   refine eq_yes rfl ?_
   refine on_yes ?_
   refine L_shift ?_
   refine L_ldp (u:=aI 9) pF (by omega) rfl rfl ?_
   refine⟨_,fun T hT=>by rw[ix0];exact⟨rfl,rfl⟩,?_⟩
   refine L_ldNq (Fo.row_len _) ?_
   refine L_callA (ans93 _ _) ?_
   exact fin kS q2 (by omega) _ rfl
  ·obtain⟨a,rfl⟩:=len1 hL
   refine eq_no (by decide) ?_
   refine eq_no (by decide) ?_
   refine eq_no (by decide) ?_
   refine eq_no (by decide) ?_
   refine eq_no (by decide) ?_
   refine eq_no (by decide) ?_
   refine eq_no (by decide) ?_
   refine eq_no (by decide) ?_
   refine eq_no (by decide) ?_
   refine eq_no (by decide) ?_
   refine eq_no (by decide) ?_
   refine eq_yes rfl ?_
   rw[ix0]
   rw[ldN_q (Fo.row_len _)]
   refine callF_ans (ans92 _) ?_
   refine callF_ans (ans93 _ _) ?_
   refine callF_ans (ans92 _) ?_
   exact fin kS q2 (by omega) _ rfl
  ·obtain⟨a,rfl⟩:=len1 hL
   refine eq_no (by decide) ?_
   refine eq_no (by decide) ?_
   refine eq_no (by decide) ?_
   refine eq_no (by decide) ?_
   refine eq_no (by decide) ?_
   refine eq_no (by decide) ?_
   refine eq_no (by decide) ?_
   refine eq_no (by decide) ?_
   refine eq_no (by decide) ?_
   refine eq_no (by decide) ?_
   refine eq_no (by decide) ?_
   refine eq_no (by decide) ?_
   refine eq_yes rfl ?_
   refine L_ldN (n:=4) oY (by omega) rfl ?_
   refine⟨_,fun T hT=>by rw[ix0];exact⟨rfl,rfl⟩,?_⟩
   refine L_ldNq (Fo.row_len _) ?_
   refine⟨_,fun T hT=>callF_cv' (args:=[aI 15,yA,a.av]) (ans94 15 tF a) rfl (cvs3 (.v _) cvT (Fo.tr _ _ _)) ⟨rfl,rfl⟩,?_⟩
   exact fin kS q2 (by omega) _ rfl
  ·obtain⟨a,rfl⟩:=len1 hL
   refine eq_no (by decide) ?_
   refine eq_no (by decide) ?_
   refine eq_no (by decide) ?_
   refine eq_no (by decide) ?_
   refine eq_no (by decide) ?_
   refine eq_no (by decide) ?_
   refine eq_no (by decide) ?_
   refine eq_no (by decide) ?_
   refine eq_no (by decide) ?_
   refine eq_no (by decide) ?_
   refine eq_no (by decide) ?_
   refine eq_no (by decide) ?_
   refine eq_no (by decide) ?_
   refine eq_yes rfl ?_
   rw[ix0]
   rw[ldN_q (Fo.row_len _)]
   refine callF_ans (ans92 _) ?_
   refine callF_ans (ans93 _ _) ?_
   refine callF_ans (ans92 _) ?_
   exact fin kS q2 (by omega) _ rfl
  ·obtain⟨a,rfl⟩:=len1 hL
   refine eq_no (by decide) ?_
   refine eq_no (by decide) ?_
   refine eq_no (by decide) ?_
   refine eq_no (by decide) ?_
   refine eq_no (by decide) ?_
   refine eq_yes rfl ?_
   refine L_shift ?_
   refine L_ldp (u:=aI 13) pF (by omega) rfl rfl ?_
   refine⟨_,fun T hT=>by rw[ix0];exact⟨rfl,rfl⟩,?_⟩
   refine L_ldNq (Fo.row_len _) ?_
   refine L_callA (ans93 _ _) ?_
   exact fin kS q2 (by omega) _ rfl
  ·obtain⟨a,rfl⟩:=len1 hL
   refine eq_no (by decide) ?_
   refine eq_no (by decide) ?_
   refine eq_no (by decide) ?_
   refine eq_no (by decide) ?_
   refine eq_no (by decide) ?_
   refine eq_no (by decide) ?_
   refine eq_no (by decide) ?_
   refine eq_no (by decide) ?_
   refine eq_no (by decide) ?_
   refine eq_no (by decide) ?_
   refine eq_no (by decide) ?_
   refine eq_no (by decide) ?_
   refine eq_no (by decide) ?_
   refine eq_no (by decide) ?_
   refine eq_yes rfl ?_
   refine L_ldN (n:=4) oY (by omega) rfl ?_
   refine⟨_,fun T hT=>by rw[ix0];exact⟨rfl,rfl⟩,?_⟩
   refine L_ldNq (Fo.row_len _) ?_
   refine L_callA (ans92 a) ?_
   refine⟨_,fun T hT=>callF_cv' (args:=[aI 15,yA,(nF a).av]) (ans94 15 tF (nF a)) rfl (cvs3 (.v _) cvT (Fo.tr _ _ _)) ⟨rfl,rfl⟩,?_⟩
   refine L_callA (ans92 _) ?_
   exact fin kS q2 (by omega) _ rfl
  ·obtain⟨a,b,rfl⟩:=len2 hL
   refine eq_no (by decide) ?_
   refine eq_no (by decide) ?_
   refine eq_no (by decide) ?_
   refine eq_no (by decide) ?_
   refine eq_no (by decide) ?_
   refine eq_no (by decide) ?_
   refine eq_no (by decide) ?_
   refine eq_yes rfl ?_
   refine L_shift ?_
   refine L_ldp (u:=aI 15) pF (by omega) rfl rfl ?_
   refine⟨_,fun T hT=>by rw[ix0];exact⟨rfl,rfl⟩,?_⟩
   refine L_ldNq (Fo.row_len _) ?_
   refine⟨_,fun T hT=>by rw[ix1];exact⟨rfl,rfl⟩,?_⟩
   refine L_ldNq (Fo.row_len _) ?_
   refine L_callA (ans94 _ _ _) ?_
   exact fin kS q2 (by omega) _ rfl
  ·obtain⟨a,b,rfl⟩:=len2 hL
   refine eq_no (by decide) ?_
   refine eq_no (by decide) ?_
   refine eq_no (by decide) ?_
   refine eq_no (by decide) ?_
   refine eq_no (by decide) ?_
   refine eq_no (by decide) ?_
   refine eq_no (by decide) ?_
   refine eq_no (by decide) ?_
   refine eq_no (by decide) ?_
   refine eq_no (by decide) ?_
   refine eq_no (by decide) ?_
   refine eq_no (by decide) ?_
   refine eq_no (by decide) ?_
   refine eq_no (by decide) ?_
   refine eq_no (by decide) ?_
   refine eq_yes rfl ?_
   rw[ix1]
   rw[ldN_q (Fo.row_len _)]
   refine callF_ans (ans92 _) ?_
   refine boxA_of rfl fun B1 kb1 nb1 ob1=>?_
   refine stA_of ob1 (Fo.row_len _) rfl fun C1 nc1 oc1 fc1=>?_
   have kc1:=kb1.st (Nat.le_refl _) nc1 fc1
   have oY1:=(kc1.2 _ (by omega)).trans oY
   have pF1:=(kc1.2 _ (by omega)).trans pF
   have kS1:=kS.trans kc1
   have q21:=(kc1.2 _ (by omega)).trans q2
   refine L_ldN (n:=4) oc1 (by omega) (Fo.row_len _) ?_
   refine⟨_,fun T hT=>by rw[ix0];exact⟨rfl,rfl⟩,?_⟩
   refine L_ldNq (Fo.row_len _) ?_
   refine L_callA (ans92 _) ?_
   refine L_ldN (n:=4) oc1 (by omega) (Fo.row_len _) ?_
   refine L_callA (ans94 _ _ _) ?_
   refine L_callA (ans94 _ _ _) ?_
   refine boxA_of rfl fun B2 kb2 nb2 ob2=>?_
   refine stA_of ob2 (Fo.row_len _) rfl fun C2 nc2 oc2 fc2=>?_
   have kc2:=kb2.st (Nat.le_refl _) nc2 fc2
   have oY12:=(kc2.2 _ (by omega)).trans oY1
   have pF12:=(kc2.2 _ (by omega)).trans pF1
   have oc12:=(kc2.2 _ (by omega)).trans oc1
   have kS2:=kS1.trans kc2
   have q22:=(kc2.2 _ (by omega)).trans q21
   refine L_ldN (n:=4) oc2 (by omega) (Fo.row_len _) ?_
   refine L_callA (ans92 _) ?_
   refine L_ldN (n:=4) oc12 (by omega) (Fo.row_len _) ?_
   refine L_callA (ans93 _ _) ?_
   refine L_callA (ans92 _) ?_
   refine L_callA (ans94 _ _ _) ?_
   exact fin kS2 q22 (by omega) _ rfl
  ·obtain⟨a,b,rfl⟩:=len2 hL
   refine eq_no (by decide) ?_
   refine eq_no (by decide) ?_
   refine eq_no (by decide) ?_
   refine eq_no (by decide) ?_
   refine eq_no (by decide) ?_
   refine eq_no (by decide) ?_
   refine eq_no (by decide) ?_
   refine eq_no (by decide) ?_
   refine eq_no (by decide) ?_
   refine eq_no (by decide) ?_
   refine eq_no (by decide) ?_
   refine eq_no (by decide) ?_
   refine eq_no (by decide) ?_
   refine eq_no (by decide) ?_
   refine eq_no (by decide) ?_
   refine eq_no (by decide) ?_
   refine eq_yes rfl ?_
   refine⟨_,fun T hT=>by rw[ix1];exact⟨rfl,rfl⟩,?_⟩
   refine L_ldNq (Fo.row_len _) ?_
   refine L_callA (ans93 _ _) ?_
   refine L_callA (ans92 _) ?_
   refine⟨_,fun T hT=>by rw[ix1];exact⟨rfl,rfl⟩,?_⟩
   refine L_ldNq (Fo.row_len _) ?_
   refine⟨_,fun T hT=>by rw[ix0];exact⟨rfl,rfl⟩,?_⟩
   refine L_ldNq (Fo.row_len _) ?_
   refine⟨_,fun T hT=>by rw[ix1];exact⟨rfl,rfl⟩,?_⟩
   refine L_ldNq (Fo.row_len _) ?_
   refine L_callA (ans94 _ _ _) ?_
   refine L_callA (ans94 _ _ _) ?_
   refine L_callA (ans92 _) ?_
   refine L_callA (ans94 _ _ _) ?_
   refine L_callA (ans92 _) ?_
   exact fin kS q2 (by omega) _ rfl
  ·obtain⟨a,b,rfl⟩:=len2 hL
   refine eq_no (by decide) ?_
   refine eq_no (by decide) ?_
   refine eq_no (by decide) ?_
   refine eq_no (by decide) ?_
   refine eq_no (by decide) ?_
   refine eq_no (by decide) ?_
   refine eq_no (by decide) ?_
   refine eq_no (by decide) ?_
   refine eq_no (by decide) ?_
   refine eq_no (by decide) ?_
   refine eq_no (by decide) ?_
   refine eq_no (by decide) ?_
   refine eq_no (by decide) ?_
   refine eq_no (by decide) ?_
   refine eq_no (by decide) ?_
   refine eq_no (by decide) ?_
   refine eq_no (by decide) ?_
   refine⟨_,fun T hT=>by rw[ix0];exact⟨rfl,rfl⟩,?_⟩
   refine L_ldNq (Fo.row_len _) ?_
   refine L_callA (ans92 _) ?_
   refine⟨_,fun T hT=>by rw[ix1];exact⟨rfl,rfl⟩,?_⟩
   refine L_ldNq (Fo.row_len _) ?_
   refine L_callA (ans92 _) ?_
   refine L_callA (ans94 _ _ _) ?_
   refine L_callA (ans92 _) ?_
   exact fin kS q2 (by omega) _ rfl
theorem ans15{f:Fo}(hok:f.ok):Ans Pg 15 [f.av] (baseN f).av:=by
 intro S
 refine ACalls.tree (calls15 ?_)
 unfold m15
 rw[show f.av = .a f.row from rfl]
 refine boxA_of (Fo.row_len f) fun S1 k1 n1 o1=>?_
 refine boxA_of rfl fun S2 k2 n2 o2=>?_
 have p1:=(k2.2 _ (by omega)).trans o1
 have kk:=k1.trans k2
 rw[ldN_p (n:=4) p1 (Fo.row_len f)]
 refine callF_ans (ans38 f hok 60 ⟨by decide,by decide⟩) ?_
 unfold baseN
 rw[un_not,onB_v]
 refine gd_of (fun h=>?_) (fun h=>?_)
 ·rw[bld0,if_neg (by simpa using h)]
  refine stA_of o2 rfl rfl fun S3 n3 o3 f3=>?_
  rw[ldN_p (n:=4) o3 rfl]
  exact⟨_,rfl,kk.st (by omega) n3 f3,cv_F0⟩
 ·have h:f.mayB 60=true:=by simpa using h
  rw[if_pos h,ldN_p (n:=4) p1 (Fo.row_len f)]
  refine callF_ans (ans39 f hok 60 h) ?_
  refine stA_of o2 (Fo.row_len _) rfl fun S3 n3 o3 f3=>?_
  rw[ldN_p (n:=4) o3 (Fo.row_len _)]
  exact⟨_,rfl,kk.st (by omega) n3 f3,Fo.tr _ _ _⟩
section
variable {H:Type} {enc:TypeId × Value→H} {w:World} {sp:Nat→Bool} {held:Bool}
theorem opUs:Opens enc Pg w sp held 41 1 (fun l:List Int=>[aL (fun n=>AV.v (.int .u8 n)) l]) (fun l=>l.length≤maxLen∧∀ a∈l,(Lit.int .u8 a).wf=true):=opens_slice Tryz.underlying41 (by kernel_rfl) (by decide) opU
end
inductive Fo.got:Fo→Prop
 |mk (k:Int) (n:ByteArray) (l:Int) (ks:List Fo) (h1:i64R k) (h2:i64R l) (h3:n.size≤maxLen) (h4:ks.length≤maxLen) (h:∀ f∈ks,Fo.got f):Fo.got (.mk k n l ks)
section
variable {H:Type} {enc:TypeId × Value→H} {w:World} {sp:Nat→Bool} {held:Bool}
set_option maxRecDepth 100000 in
theorem opFoN:∀ n,OpensN enc Pg w sp held n 35 4 Fo.row Fo.got∧OpensN enc Pg w sp held n 33 1 (fun l:List Fo=>[foL l]) (fun l=>l.length≤maxLen∧∀ f∈l,Fo.got f):=by
 intro n
 induction n with
 |zero=>exact⟨OpensN.zero,OpensN.zero⟩
 |succ n ih =>
  refine⟨fun cs x h=>?_,opensN_slice Tryz.underlying33 (by kernel_rfl) (by decide) ih.1⟩
  obtain⟨hl,hf⟩:=trodN_struct Tryz.underlying35 h
  have h2:cs.length=4:=hl.trans (by kernel_rfl)
  have c1:Pg.cellsOf 3=1:=by kernel_rfl
  have c2:Pg.cellsOf 9=1:=by kernel_rfl
  have c3:Pg.cellsOf 33=1:=by kernel_rfl
  match cs,h2 with
  |[d0,d1,d2,d3],_ =>
   simp only[List.mem_cons,List.not_mem_nil,or_false,forall_eq_or_imp,forall_eq,c1,c2,c3,List.drop_zero,List.drop_succ_cons,List.take_succ_cons,List.take_zero]at hf
   obtain⟨⟨y0,h0⟩,⟨y1,h1⟩,⟨y2,h2⟩,⟨y3,h3⟩⟩:=hf
   obtain⟨a0,q0,_,_,r0⟩:=opI n _ _ h0
   obtain⟨a1,q1,_,_,r1⟩:=opStr n _ _ h1
   obtain⟨a2,q2,_,_,r2⟩:=opI n _ _ h2
   obtain⟨a3,q3,_,_,r3⟩:=ih.2 _ _ h3
   refine⟨.mk a0 a1 a2 a3,.mk _ _ _ _ (i64_wf q0) (i64_wf q2) q1 q3.1 q3.2,Fo.row_len _,rfl,fun k u c hu hc=>?_⟩
   rw[Fo.row_mk]at hu
   match k,hu,hc with
   |0,hu,hc=>cases hu;cases hc;exact r0 0 _ _ rfl rfl
   |1,hu,hc=>cases hu;cases hc;exact r1 0 _ _ rfl rfl
   |2,hu,hc=>cases hu;cases hc;exact r2 0 _ _ rfl rfl
   |3,hu,hc=>cases hu;cases hc;exact r3 0 _ _ rfl rfl
   |k+4,hu,_=>simp at hu
theorem opFo:Opens enc Pg w sp held 35 4 Fo.row Fo.got:=Opens.of fun n=>(opFoN n).1
end
mutual
def Fo.deepF:Fo→Int→Bool
 |.mk _ _ _ ks,m=>decide (0<m) && Fo.deepFs ks (m - 1)
def Fo.deepFs:List Fo→Int→Bool
 |[],_=>true
 |f :: fs,m=>Fo.deepF f m && Fo.deepFs fs m
end
theorem Fo.deepFs_all(m:Int):∀ l:List Fo,Fo.deepFs l m=l.all fun f=>f.deepF m
 |[]=>by rw[Fo.deepFs];rfl
 |f :: fs=>by rw[Fo.deepFs,Fo.deepFs_all m fs];rfl
theorem ans12:∀(f:Fo),f.got→∀{m:Int},i64R m→Ans Pg 12 [f.av,aI m] (aB (f.deepF m)):=by
 intro f
 induction f using Fo.ind with
 |h k n l ks ih =>
  intro hg m hm S
  cases hg with
  |mk _ _ _ _ _ _ _ h4 hks =>
  have hmx:maxLen=9223372036854775807:=by decide
  refine ACalls.ans_v (calls12 ?_)
  unfold m12
  rw[Fo.av,Fo.row_mk]
  refine boxA_of rfl fun S1 k1 n1 o1=>?_
  rw[bin_gtr]
  rw[Fo.deepF,Fo.deepFs_all]
  refine loop12_0 (fun y z T=>T=S1∧∃ i:Nat,z=aI i∧i≤ks.length∧y=aB (decide (0<m) && (ks.take i).all fun f=>f.deepF (m - 1))) (fun _ z _=>ks.length - ((intA z).getD 0).toNat) ⟨rfl,0,rfl,Nat.zero_le _,by simp⟩ ?_
  rintro _ _ S1 ⟨rfl,i,rfl,hi,rfl⟩ KE hKE
  unfold b12_0
  rw[shift_p,ld1_p o1 rfl rfl,lenS_foL,bin_lss,onB_v]
  refine gd_of (fun hlt=>?_) (fun hge=>?_)
  ·have hlt:i<ks.length:=by have:=dT hlt;omega
   rw[onB_v]
   refine gd_of (fun h=>?_) (fun h=>?_)
   ·rw[Bool.and_eq_true,decide_eq_true_eq]at h
    rw[shift_p,ld1_p o1 rfl rfl,ixS_foL hlt,ldN_q (Fo.row_len _),bin_sub (by have:=hm.1;omega) (by have:=hm.2;omega)]
    refine callF_ans (ih _ (List.getElem_mem hlt) (hks _ (List.getElem_mem hlt)) (m:=m - 1) ⟨by have:=hm.1;omega,by have:=hm.2;omega⟩) ?_
    rw[show ∀ K:AV→Store→Prop,bin .add 0 (aI i) (.v (.int .i64 1)) S1 K=K (aI (i+1:Nat)) S1 from fun K=>bin_add (by omega) (by omega) 0]
    refine hKE _ _ _ ⟨rfl,i+1,rfl,hlt,?_⟩ (by simp[intA];omega)
    rw[List.take_add_one,List.getElem?_eq_getElem hlt,List.all_append,h.2,decide_eq_true h.1]
    simp
   ·refine⟨?_,k1⟩
    rw[h]
    rw[Bool.and_eq_false_iff]at h
    rcases h with h|h
    ·rw[h,Bool.false_and]
    ·have:(ks.all fun f=>f.deepF (m - 1))=false:=by
       rw[←List.take_append_drop i ks,List.all_append,h,Bool.false_and]
     rw[this,Bool.and_false]
  ·have hge:i=ks.length:=by have:=dF hge;omega
   subst hge
   rw[List.take_length]
   exact⟨rfl,k1⟩
mutual
def Fo.leftF:Fo→Int→Int
 |.mk _ _ _ ks,m=>Fo.leftFs ks m
def Fo.leftFs:List Fo→Int→Int
 |[],m=>m
 |f :: fs,m=>if 0≤m then Fo.leftFs fs (Fo.leftF f (m - 1))else m
end
theorem leftFs_rng:∀(l:List Fo),(∀ f∈l,∀ m:Int,min m (-1)≤f.leftF m∧f.leftF m≤m)→∀ m:Int,min m (-1)≤Fo.leftFs l m∧Fo.leftFs l m≤m
 |[],_,m=>by rw[Fo.leftFs];omega
 |f :: fs,h,m=>by
  rw[Fo.leftFs]
  split
  ·have h1:=h f (by simp) (m - 1)
   have h2:=leftFs_rng fs (fun g hg=>h g (by simp[hg])) (f.leftF (m - 1))
   omega
  ·omega
theorem leftF_rng:∀(f:Fo) (m:Int),min m (-1)≤f.leftF m∧f.leftF m≤m:=by
 intro f
 induction f using Fo.ind with
 |h k n l ks ih =>
  intro m
  rw[Fo.leftF]
  exact leftFs_rng ks ih m
theorem ans11:∀(f:Fo),f.got→∀{m:Int},i64R m→Ans Pg 11 [f.av,aI m] (aI (f.leftF m)):=by
 intro f
 induction f using Fo.ind with
 |h k n l ks ih =>
  intro hg m hm S
  cases hg with
  |mk _ _ _ _ _ _ _ h4 hks =>
  have hmx:maxLen=9223372036854775807:=by decide
  refine ACalls.ans_v (calls11 ?_)
  unfold m11
  rw[Fo.av,Fo.row_mk]
  refine boxA_of rfl fun S1 k1 n1 o1=>?_
  rw[Fo.leftF]
  refine loop11_0 (fun y z T=>T=S1∧∃(i:Nat) (x:Int),z=aI i∧y=aI x∧i≤ks.length∧i64R x∧Fo.leftFs ks m=Fo.leftFs (ks.drop i) x) (fun _ z _=>ks.length - ((intA z).getD 0).toNat) ⟨rfl,0,m,rfl,rfl,Nat.zero_le _,hm,rfl⟩ ?_
  rintro _ _ S1 ⟨rfl,i,x,rfl,rfl,hi,hx,he⟩ KE hKE
  unfold b11_0
  rw[shift_p,ld1_p o1 rfl rfl,lenS_foL,bin_lss,onB_v]
  refine gd_of (fun hlt=>?_) (fun hge=>?_)
  ·have hlt:i<ks.length:=by have:=dT hlt;omega
   rw[List.drop_eq_getElem_cons hlt,Fo.leftFs]at he
   rw[bin_geq,onB_v]
   refine gd_of (fun h=>?_) (fun h=>?_)
   ·have h:=dT h
    rw[if_pos h]at he
    rw[shift_p,ld1_p o1 rfl rfl,ixS_foL hlt,ldN_q (Fo.row_len _),bin_sub (by have:=hx.1;omega) (by have:=hx.2;omega)]
    refine callF_ans (ih _ (List.getElem_mem hlt) (hks _ (List.getElem_mem hlt)) (m:=x - 1) ⟨by have:=hx.1;omega,by have:=hx.2;omega⟩) ?_
    rw[show ∀ K:AV→Store→Prop,bin .add 0 (aI i) (.v (.int .i64 1)) S1 K=K (aI (i+1:Nat)) S1 from fun K=>bin_add (by omega) (by omega) 0]
    have hr:=leftF_rng ks[i] (x - 1)
    exact hKE _ _ _ ⟨rfl,i+1,_,rfl,rfl,hlt,⟨by omega,by have:=hx.2;omega⟩,he⟩ (by simp[intA];omega)
   ·have h:=dF h
    rw[if_neg h]at he
    rw[he]
    exact⟨rfl,k1⟩
  ·have hge:i=ks.length:=by have:=dF hge;omega
   subst hge
   rw[List.drop_length,Fo.leftFs]at he
   rw[he]
   exact⟨rfl,k1⟩
theorem leftFs_kids:∀(l:List Fo) (m:Int),0≤Fo.leftFs l m→(l.length:Int)≤m∧∀ f∈l,∃ m',m'<m∧0≤f.leftF m'
 |[],m,h=>⟨by simpa[Fo.leftFs]using h,fun f hf=>by cases hf⟩
 |f :: fs,m,h=>by
  rw[Fo.leftFs]at h
  split at h
  ·have hr:=leftF_rng f (m - 1)
   have hr2:=(leftFs_rng fs (fun g _=>leftF_rng g) (f.leftF (m - 1))).2
   obtain⟨h1,h2⟩:=leftFs_kids fs _ h
   refine⟨by simp;omega,fun g hg=>?_⟩
   rcases List.mem_cons.1 hg with rfl|hg
   ·exact⟨m - 1,by omega,by omega⟩
   ·obtain⟨m',h3,h4⟩:=h2 g hg
    exact⟨m',by omega,h4⟩
  ·omega
theorem got_ok:∀(f:Fo),f.got→∀{m:Int},m≤1000000→0≤f.leftF m→f.ok:=by
 intro f
 induction f using Fo.ind with
 |h k n l ks ih =>
  intro hg m hm h
  cases hg with
  |mk _ _ _ _ h1 h2 h3 h4 hks =>
  have hmx:maxLen=9223372036854775807:=by decide
  rw[Fo.leftF]at h
  obtain⟨h5,h6⟩:=leftFs_kids ks m h
  refine .mk _ _ _ _ h1 h2 (by omega) (by omega) fun f hf=>?_
  obtain⟨m',h7,h8⟩:=h6 f hf
  exact ih f hf (hks f hf) (by omega) h8
theorem resM20{l:List Int}(hl:∀ x∈l,0≤x∧x<256){m:Int}(h0:0≤m)(hm:m≤1000000){S:Store}:ACalls Pg 20 [aL aU8 l,aI m] S (fun e S'=>∃ tr,e = .ret tr∧S'=S∧∃ f:Fo,tr=f.av∧f.ok∧f.mayB 7=true):=by
 refine ACalls.treeE (calls20 ?_)
 unfold m20
 refine boxA_of rfl fun S1 k1 n1 o1=>?_
 refine .inl ((made16 hl).mono ?_)
 rintro e S' ⟨tr,rfl,rfl,f,rfl,hf⟩
 show callF _ _ _ _ _ _
 refine callF_ans (ans50 (m:=m) ⟨by omega,by omega⟩ f 6 hf) ?_
 refine stA_of o1 (Fo.row_len _) rfl fun S3 n3 o3 f3=>?_
 rw[ldN_p (n:=4) o3 (Fo.row_len _)]
 obtain⟨h1,h2,h3⟩:=litsF_ok (m:=m) (by omega) f 6 hf
 exact⟨_,_,rfl,k1.st (Nat.le_refl _) n3 f3,Fo.tr _ _ _,_,rfl,h1,h2⟩
theorem ans13:∀(f:Fo),f.ok→Ans Pg 13 [f.av,f.av] (aB true):=by
 intro f
 induction f using Fo.ind with
 |h k n l ks ih =>
  intro hok S
  obtain⟨h1,h2,h3,h4,h5⟩:=hok.inv
  refine ACalls.ans_v (calls13 ?_)
  unfold m13
  rw[Fo.av,Fo.row_mk]
  refine boxA_of rfl fun S1 k1 n1 o1=>?_
  refine boxA_of rfl fun S2 k2 n2 o2=>?_
  have p2:=(k2.2 _ (by omega)).trans o1
  have kk:=k1.trans k2
  rw[shift_p,ld1_p p2 rfl rfl,shift_p,ld1_p o2 rfl rfl,bin_neq,decide_eq_true (rfl:k=k),onB_v,gd_nT (b:=true) rfl]
  rw[shift_p,ld1_p p2 rfl rfl,shift_p,ld1_p o2 rfl rfl,bin_neqS,decide_eq_true (rfl:n=n),onB_v,gd_nT (b:=true) rfl]
  rw[shift_p,ld1_p p2 rfl rfl,shift_p,ld1_p o2 rfl rfl,bin_neq,decide_eq_true (rfl:l=l),onB_v,gd_nT (b:=true) rfl]
  rw[shift_p,ld1_p p2 rfl rfl,lenS_foL,shift_p,ld1_p o2 rfl rfl,lenS_foL,bin_neq,decide_eq_true rfl,onB_v,gd_nT (b:=true) rfl]
  refine loop13_0 (fun y S'=>S'=S2∧∃ i:Nat,y=aI i∧i≤ks.length) (fun y _=>ks.length - ((intA y).getD 0).toNat) ⟨rfl,0,rfl,Nat.zero_le _⟩ ?_
  rintro _ S2 ⟨rfl,i,rfl,hi⟩ KE hKE
  unfold b13_0
  rw[shift_p,ld1_p p2 rfl rfl,lenS_foL,bin_lss,onB_v]
  refine gd_of (fun hlt=>?_) (fun hge=>?_)
  ·have hlt:i<ks.length:=by have:=dT hlt;omega
   have hmem:=List.getElem_mem hlt
   show ∃ q:AV,_
   refine⟨_,by rw[shift_p];exact⟨rfl,rfl⟩,?_⟩
   refine⟨_,by rw[ld1_p p2 rfl rfl];exact⟨rfl,rfl⟩,?_⟩
   refine⟨_,by rw[ixS_foL hlt];exact⟨rfl,rfl⟩,?_⟩
   refine⟨_,by rw[ldN_q (Fo.row_len _)];exact⟨rfl,rfl⟩,?_⟩
   refine⟨_,by rw[shift_p];exact⟨rfl,rfl⟩,?_⟩
   refine⟨_,by rw[ld1_p o2 rfl rfl];exact⟨rfl,rfl⟩,?_⟩
   refine⟨_,by rw[ixS_foL hlt];exact⟨rfl,rfl⟩,?_⟩
   refine⟨_,by rw[ldN_q (Fo.row_len _)];exact⟨rfl,rfl⟩,?_⟩
   refine⟨_,callF_ans (ih _ hmem (h5 _ hmem)) ⟨rfl,rfl⟩,?_⟩
   refine⟨_,by rw[un_not];exact⟨rfl,rfl⟩,?_⟩
   rw[onB_v,gd_nT (b:=true) rfl,bin_add (by omega) (by omega)]
   exact hKE _ _ ⟨rfl,i+1,rfl,hlt⟩ (by simp[intA];omega)
  ·exact⟨rfl,kk⟩
theorem fO_ok{k:Int}{f:Fo}(hk:i64R k)(h:f.ok):(fO k f).ok:=.mk _ _ _ _ hk ⟨by decide,by decide⟩ (by decide) (by simp) fun g hg=>by rw[List.mem_singleton.1 hg];exact h
theorem fT_ok{k:Int}{f g:Fo}(hk:i64R k)(h:f.ok)(h':g.ok):(fT k f g).ok:=.mk _ _ _ _ hk ⟨by decide,by decide⟩ (by decide) (by simp) fun u hu=>by
 simp only[List.mem_cons,List.not_mem_nil,or_false]at hu
 rcases hu with rfl|rfl
 ·exact h
 ·exact h'
theorem F0_ok:F0.ok:=.mk _ _ _ _ ⟨by decide,by decide⟩ ⟨by decide,by decide⟩ (by decide) (by simp) fun g hg=>by cases hg
theorem tF_ok:tF.ok:=.mk _ _ _ _ ⟨by decide,by decide⟩ ⟨by decide,by decide⟩ (by decide) (by simp) fun g hg=>by cases hg
theorem baseK_ok{k l:Int}{ls:List Fo}(hk:i64R k)(hl:i64R l)(hn:ls.length≤1000000)(h:∀ f∈ls,f.ok):(baseK k l ls).ok:=by
 have at_:∀ i,(ls.getD i F0).ok:=fun i=>by
  rw[List.getD_eq_getElem?_getD]
  cases e:ls[i]? with
  |none=>exact F0_ok
  |some f=>exact h f (List.mem_of_getElem? e)
 have c:∀ k:Int,0≤k→k≤18→i64R k:=fun k h0 h1=>⟨by omega,by omega⟩
 have n4:∀{f:Fo},f.ok→(nF f).ok:=fun h=>fO_ok (c 4 (by decide) (by decide)) h
 have z:=at_ 0
 have o:=at_ 1
 unfold baseK
 rcases Classical.em (k=3)with e|e
 ·rw[if_pos e];exact .mk _ _ _ _ (c 3 (by decide) (by decide)) hl (by decide) (by simp) fun g hg=>by cases hg
 rw[if_neg e]
 rcases Classical.em (k=1)with e|e
 ·rw[if_pos e];exact n4 tF_ok
 rw[if_neg e]
 rcases Classical.em (k=6)with e|e
 ·rw[if_pos e];exact n4 (fT_ok (c 5 (by decide) (by decide)) (n4 z) (n4 o))
 rw[if_neg e]
 rcases Classical.em (k=7)with e|e
 ·rw[if_pos e];exact n4 (fT_ok (c 5 (by decide) (by decide)) z (n4 o))
 rw[if_neg e]
 rcases Classical.em (k=8)with e|e
 ·rw[if_pos e];exact fT_ok (c 5 (by decide) (by decide)) (n4 (fT_ok (c 5 (by decide) (by decide)) z (n4 o))) (n4 (fT_ok (c 5 (by decide) (by decide)) o (n4 z)))
 rw[if_neg e]
 rcases Classical.em (k=10)with e|e
 ·rw[if_pos e];exact n4 (fO_ok (c 9 (by decide) (by decide)) (n4 z))
 rw[if_neg e]
 rcases Classical.em (k=11)with e|e
 ·rw[if_pos e];exact fT_ok (c 15 (by decide) (by decide)) tF_ok z
 rw[if_neg e]
 rcases Classical.em (k=12)with e|e
 ·rw[if_pos e];exact n4 (fO_ok (c 13 (by decide) (by decide)) (n4 z))
 rw[if_neg e]
 rcases Classical.em (k=14)with e|e
 ·rw[if_pos e];exact n4 (fT_ok (c 15 (by decide) (by decide)) tF_ok (n4 z))
 rw[if_neg e]
 rcases Classical.em (k=16)with e|e
 ·rw[if_pos e];exact fT_ok (c 5 (by decide) (by decide)) (n4 (fT_ok (c 15 (by decide) (by decide)) (n4 o) (fT_ok (c 5 (by decide) (by decide)) (n4 z) (n4 o)))) (n4 (fO_ok (c 13 (by decide) (by decide)) (n4 o)))
 rw[if_neg e]
 rcases Classical.em (k=17)with e|e
 ·rw[if_pos e];exact n4 (fT_ok (c 5 (by decide) (by decide)) (n4 (fO_ok (c 13 (by decide) (by decide)) o)) (n4 (fT_ok (c 15 (by decide) (by decide)) o (fT_ok (c 5 (by decide) (by decide)) z o))))
 rw[if_neg e]
 rcases Classical.em (k=18)with e|e
 ·rw[if_pos e];exact n4 (fT_ok (c 15 (by decide) (by decide)) (n4 z) (n4 o))
 rw[if_neg e]
 exact .mk _ _ _ _ hk ⟨by decide,by decide⟩ (by decide) hn h
theorem baseF_ok:∀(f:Fo),f.ok→f.baseF.ok:=by
 intro f
 induction f using Fo.ind with
 |h k n l ks ih =>
  intro h
  obtain⟨h1,h2,h3,h4,h5⟩:=h.inv
  rw[Fo.baseF_mk]
  exact baseK_ok h1 h2 (by rw[List.length_map];exact h4) fun g hg=>by
   obtain⟨f,hf,rfl⟩:=List.mem_map.1 hg
   exact ih f hf (h5 f hf)
theorem baseN_ok{f:Fo}(h:f.ok):(baseN f).ok:=by
 unfold baseN
 split
 ·exact baseF_ok f h
 ·exact F0_ok
theorem sig_rng{c:Ci}(hc:c.ok)(hr:c.right=true)(k x:Int):i64R (c.sig k x):=by
 obtain⟨hin,hla,ho,hb,hcn,hf,_⟩:=right_c.1 hr
 have get:∀{l:List Int},(∀ x∈l,i64R x)→i64R (l.getD x.toNat 0):=fun{l} h=>by
  rw[List.getD_eq_getElem?_getD]
  cases e:l[x.toNat]? with
  |none=>exact⟨by decide,by decide⟩
  |some f=>exact h f (List.mem_of_getElem? e)
 unfold Ci.sig
 split
 ·exact⟨by decide,by decide⟩
 split
 ·exact⟨by decide,by decide⟩
 rename_i h1 h2
 unfold Ci.many at h2
 split
 ·rename_i h3;rw[if_pos h3]at h2;exact⟨by omega,by omega⟩
 rename_i h3
 rw[if_neg h3]at h2
 split
 ·rename_i h4;rw[if_pos h4]at h2;exact⟨by omega,by omega⟩
 split
 ·exact get hc.outs.1
 split
 ·exact get hc.bads.1
 split
 ·exact get hc.cons.1
 ·exact get hc.fair.1
theorem findB_rng{c:Ci}(hc:c.ok)(s:ByteArray):i64R (findB c s):=by
 unfold findB
 split
 ·rename_i hr
  split
  ·exact sig_rng hc hr _ _
  ·split
   ·exact⟨by decide,by decide⟩
   ·exact sig_rng hc hr _ _
 ·exact⟨by decide,by decide⟩
theorem resV_ok{c:Ci}(hc:c.ok):∀(f:Fo),f.ok→(f.resV c).ok:=by
 intro f
 induction f using Fo.ind with
 |h k n l ks ih =>
  intro h
  obtain⟨h1,h2,h3,h4,h5⟩:=h.inv
  rw[Fo.resV_mk]
  refine .mk _ _ _ _ h1 ?_ (by decide) (by rw[List.length_map];exact h4) fun g hg=>?_
  ·split
   ·exact findB_rng hc n
   ·exact⟨by decide,by decide⟩
  ·obtain⟨f,hf,rfl⟩:=List.mem_map.1 hg
   exact ih f hf (h5 f hf)
theorem ResT_of{c:Ci}(hc:c.ok){f:Fo}(h:f.ok):∃(g:Fo) (e:Int),ResT c f = .t [g.av,aI e]∧g.ok:=by
 unfold ResT
 split
 ·unfold resT
  split
  ·exact⟨_,_,rfl,resV_ok hc f h⟩
  ·exact⟨_,_,rfl,F0_ok⟩
 ·exact⟨_,_,rfl,F0_ok⟩
theorem nodesL_le{m:Nat}:∀ l:List Fo,(∀ f∈l,f.nodes≤m)→Fo.nodesL l≤l.length*m
 |[],_=>by rw[Fo.nodesL];simp
 |f :: l,h=>by
  have h1:=h f (by simp)
  have h2:=nodesL_le l fun g hg=>h g (by simp[hg])
  rw[Fo.nodesL,List.length_cons,Nat.add_mul]
  omega
theorem madeF_nodes:∀(f:Fo) (d:Nat),MadeF d f→f.nodes≤2 ^ (d+1) - 1∧f.short:=by
 intro f
 induction f using Fo.ind with
 |h k n l ks ih =>
  intro d h
  cases h with
  |mk d _ _ _ h1 h2 h3 h4 h5 h6 hks =>
  have hkl:=kidsN_le k
  have hn:n.size≤19:=by
   by_cases hk:k=3
   ·have:=word0 (h4 hk);omega
   ·rw[h5 hk];decide
  refine⟨?_,.mk _ _ _ _ hn fun f hf=>(ih f hf _ (hks f hf)).2⟩
  rw[Fo.nodes]
  have hp:1≤2 ^ d:=Nat.one_le_two_pow
  rw[Nat.pow_succ]
  by_cases h0:ks = []
  ·subst h0;rw[Fo.nodesL];omega
  ·have hd:=h6 h0
   have hL:=nodesL_le (m:=2 ^ d - 1) ks fun f hf=>by
    have:=(ih f hf _ (hks f hf)).1
    rwa [show d - 1+1=d by omega]at this
   have h2:ks.length≤2:=by omega
   have:ks.length*(2 ^ d - 1)≤2*(2 ^ d - 1):=Nat.mul_le_mul_right _ h2
   omega
instance (priority:=2000) jnEq {S0:Store} {P:AV→Prop} {a:Int} {kd:Nat}:Jn (∃ q,(bin .eql kd (.v (.int .i64 a)) (.v (.int .i64 a)) S0 fun v S=>v=q∧S=S0)∧P q) (P (.v (.bool true))):=⟨by
 have:=J_eql (k:=.i64) (a:=a) (b:=a) (kd:=kd) (S0:=S0) (P:=P)
 rw[decide_eq_true rfl]at this
 exact this⟩
instance jnIx0 {S0:Store} {P:AV→Prop} {a:Fo} {l:List Fo} {e:Nat}:Jn (∃ q,(ixS e 4 (foL (a :: l)) (.v (.int .i64 0)) S0 fun v S=>v=q∧S=S0)∧P q) (P (.q a.row 0)):=⟨J_by (op:=fun K=>ixS e 4 (foL (a :: l)) (.v (.int .i64 0)) S0 K) fun K=>ix0⟩
instance jnLd0 {S0:Store} {P:AV→Prop} {k l:Int} {n:ByteArray} {ks:List Fo}:Jn (∃ q,(ld1 (.q (Fo.row (.mk k n l ks)) (0+0)) S0 fun v S=>v=q∧S=S0)∧P q) (P (aI k)):=⟨J_by (op:=fun K=>ld1 (.q (Fo.row (.mk k n l ks)) (0+0)) S0 K) fun K=>by rw[Fo.row_mk];exact ld1_qj rfl⟩
instance jnLd2 {S0:Store} {P:AV→Prop} {k l:Int} {n:ByteArray} {ks:List Fo}:Jn (∃ q,(ld1 (.q (Fo.row (.mk k n l ks)) (0+2)) S0 fun v S=>v=q∧S=S0)∧P q) (P (aI l)):=⟨J_by (op:=fun K=>ld1 (.q (Fo.row (.mk k n l ks)) (0+2)) S0 K) fun K=>by rw[Fo.row_mk];exact ld1_qj rfl⟩
abbrev sL0:ByteArray:=⟨#[108,48]⟩
abbrev sNo:ByteArray:=⟨#[110,111,110,101]⟩
abbrev aQ(l:Int):Fo:=.mk 3 ⟨#[]⟩ l []
abbrev aN(n:ByteArray):Fo:=.mk 3 n 0 []
theorem made_texts{c:Ci}(hc:MadeC c){s:ByteArray}(h1:s≠⟨#[113]⟩)(h2:s≠⟨#[111,117,116]⟩)(h3:s≠⟨#[108,49]⟩)(h4:s≠⟨#[97,45,98]⟩):∀ k (hk:k<c.names.length),c.names[k].text≠s:=by
 obtain⟨b1,b2,t,hn,ht⟩:=hc.names
 intro k hk
 have hm:=List.getElem_mem hk
 generalize c.names[k]=x at hm
 rw[hn]at hm
 rcases List.mem_append.1 hm with hm|hm
 ·cases b1
  ·simp at hm
  ·have:x=⟨108,0,⟨#[113]⟩⟩:=by simpa using hm
   subst this
   exact fun e=>h1 e.symm
 ·cases b2
  ·simp at hm
  ·have:x=⟨111,c.outs.length - 1,t⟩:=by simpa using hm
   subst this
   rcases(ht rfl).2 with rfl|rfl|rfl
   ·exact fun e=>h2 e.symm
   ·exact fun e=>h3 e.symm
   ·exact fun e=>h4 e.symm
theorem find_l0{c:Ci}(hc:MadeC c):findB c sL0=2*(c.inputs+1):=by
 rw[find_miss hc.right (made_texts hc (by decide) (by decide) (by decide) (by decide)),if_neg (by decide)]
 have e1:((sL0[0]!).toNat:Int)=108:=by decide
 have e2:numR (sL0.data.toList.drop 1)=0:=by decide
 have hm:c.many 108=c.latches.length:=rfl
 have hl:=hc.lats
 rw[e1,e2]
 unfold Ci.sig
 rw[if_neg (by decide),hm,if_neg (by omega),if_neg (by decide),if_pos rfl]
 omega
theorem find_no{c:Ci}(hc:MadeC c):findB c sNo = -1:=by
 rw[find_miss hc.right (made_texts hc (by decide) (by decide) (by decide) (by decide)),if_neg (by decide)]
 have e2:numR (sNo.data.toList.drop 1) = -1:=by decide
 rw[e2]
 exact sig_neg
theorem aN_ok{n:ByteArray}(h:n.size≤19):(aN n).ok∧(aN n).short:=⟨.mk _ _ _ _ ⟨by decide,by decide⟩ ⟨by decide,by decide⟩ (by omega) (by simp) (fun g hg=>by cases hg),.mk _ _ _ _ h (fun g hg=>by cases hg)⟩
theorem cv_aN{S:Store}{m:Nat}(n:ByteArray):Cv S m (.a [aI 3,.v (.string n),aI 0,.nl]) (aN n).av:=by
 rw[Fo.av,Fo.row_mk]
 refine .a _ _ rfl fun k u u2 e1 e2=>?_
 match k with
 |0=>cases e1;cases e2;exact .v _
 |1=>cases e1;cases e2;exact .v _
 |2=>cases e1;cases e2;exact .v _
 |3=>cases e1;cases e2;exact .nl
 |k+4=>simp at e1
theorem cv_AG{S:Store}{m:Nat}(n:ByteArray):Cv S m (.a [aI 14,.v (.string ⟨#[]⟩),aI 0,.l [[aI 3,.v (.string n),aI 0,.nl]]]) (fO 14 (aN n)).av:=by
 rw[Fo.av,Fo.row_mk]
 refine .a _ _ rfl fun k u u2 e1 e2=>?_
 match k with
 |0=>cases e1;cases e2;exact .v _
 |1=>cases e1;cases e2;exact .v _
 |2=>cases e1;cases e2;exact .v _
 |3 =>
  cases e1;cases e2
  have h:=cv_aN (S:=S) (m:=m) n
  rw[Fo.av]at h
  cases h with
  |a _ _ hl hR =>
   refine .l _ _ rfl (fun i c c2 h1 h2=>?_) (fun i c c2 k u u2 h1 h2 h3 h4=>?_)
   ·match i with
    |0=>cases h1;cases h2;exact hl
    |i+1=>simp at h1
   ·match i with
    |0=>cases h1;cases h2;exact hR k u u2 h3 h4
    |i+1=>simp at h1
 |k+4=>simp at e1
theorem ci_tree(c:Ci):Tree c.av:=Tree.a fun u hu=>by
 simp only[Ci.cells,List.mem_cons,List.not_mem_nil,or_false]at hu
 rcases hu with rfl|rfl|rfl|rfl|rfl|rfl|rfl|rfl
 ·exact Tree.v _
 ·exact treeP _
 ·exact treeP _
 ·exact treeI _
 ·exact treeI _
 ·exact treeI _
 ·exact treeI _
 ·exact treeN _
theorem ans10:Ans Pg 10 [] (aB true):=by
 intro S
 refine ACalls.ans_v (calls10 ?_)
 unfold m10
 refine .inl (ACalls.frz (fun _=>false) (args2:=[aL aW16 []]) rfl (fun k u u2 e1 e2=>?_) ?_)
 ·match k with
  |0=>cases e1;cases e2;exact .nl
  |k+1=>simp at e1
 rw[frz_none]
 refine(made217 (l:=[]) (fun _ h=>by cases h)).mono ?_
 rintro e S' ⟨tr,rfl,rfl,c,rfl,hc,hv,hi⟩
 show boxN _ _ _ _ _
 have hi0:c.inputs=0:=hi.trans (by decide)
 have r1:ResT c (fO 14 (aN sL0)) = .t [(fO 14 (aQ 2)).av,aI 0]:=by
  unfold ResT
  rw[hc.right,show rightN (fO 14 (aN sL0))=true by decide,if_pos (by decide),resT_ok,Fo.resV_mk]
  ·simp only[List.map_cons,List.map_nil,Fo.resV_mk]
   rw[find_l0 hc,hi0]
   rfl
  ·rw[Fo.resOk_mk]
   simp only[List.all_cons,List.all_nil,Fo.resOk_mk]
   rw[find_l0 hc,hi0]
   rfl
 have r2:ResT c (aN sNo) = .t [F0.av,aI 42]:=by
  unfold ResT
  rw[hc.right,show rightN (aN sNo)=true by decide,if_pos (by decide),resT_no]
  rw[Fo.resOk_mk,find_no hc]
  rfl
 have r3:ResT c F0 = .t [F0.av,aI 1]:=by
  unfold ResT
  rw[show rightN F0=false by decide,Bool.and_false,if_neg (by decide)]
 have okG:(fO 14 (aN sL0)).ok:=fO_ok ⟨by decide,by decide⟩ (aN_ok (by decide)).1
 have okQ:(fO 14 (aQ 2)).ok:=fO_ok ⟨by decide,by decide⟩ (.mk _ _ _ _ ⟨by decide,by decide⟩ ⟨by decide,by decide⟩ (by decide) (by simp) (fun g hg=>by cases hg))
 have bG:baseN (fO 14 (aQ 2))=nF (fT 15 tF (nF (aQ 2))):=by rfl
 have bF:baseN F0=F0:=by rfl
 have c1:=ans18 hc.ok okG (by decide) (.mk _ _ _ _ (by decide) fun g hg=>by rw[List.mem_singleton.1 hg];exact(aN_ok (by decide)).2)
 have c2:=ans18 hc.ok (aN_ok (n:=sNo) (by decide)).1 (by decide) (aN_ok (by decide)).2
 have c3:=ans18 hc.ok F0_ok (by decide) (.mk _ _ _ _ (by decide) fun g hg=>by cases hg)
 rw[r1]at c1
 rw[r2]at c2
 rw[r3]at c3
 have c4:=ans14 okQ
 have c5:=ans14 F0_ok
 rw[bG]at c4
 rw[bF]at c5
 refine boxA_of rfl fun S1 k1 n1 o1=>?_
 refine stA_of (cs':=c.cells) o1 rfl rfl fun S2 n2 o2 f2=>?_
 have k2:=k1.st (Nat.le_refl _) n2 f2
 rw[ldN_p (n:=8) o2 rfl,bld_of (cs:=[aI 3,.v (.string sL0),aI 0,.nl]) rfl]
 refine bslA4 rfl ?_
 rw[bld_of (cs:=[aI 14,.v (.string ⟨#[]⟩),aI 0,.l [[aI 3,.v (.string sL0),aI 0,.nl]]]) rfl]
 refine callF_cv' (args:=[c.av,.a [aI 14,.v (.string ⟨#[]⟩),aI 0,.l [[aI 3,.v (.string sL0),aI 0,.nl]]]]) c1 rfl (cvs2 (ci_tree c _ _) (cv_AG sL0)) ?_
 rw[extr0,extr1]
 refine boxA_of rfl fun S3 k3 n3 o3=>?_
 refine stA_of (cs':=(fO 14 (aQ 2)).row) o3 (Fo.row_len _) rfl fun S4 n4 o4 f4=>?_
 have k4:=k3.st (Nat.le_refl _) n4 f4
 rw[ldN_p (n:=4) o4 (Fo.row_len _)]
 refine callF_ans c4 ?_
 refine boxA_of rfl fun S5 k5 n5 o5=>?_
 refine stA_of (cs':=(nF (fT 15 tF (nF (aQ 2)))).row) o5 (Fo.row_len _) rfl fun S6 n6 o6 f6=>?_
 have k6:=k5.st (Nat.le_refl _) n6 f6
 have p6:=((k4.trans k6).2 _ (by omega)).trans o2
 rw[ldN_p (n:=8) p6 rfl,bld_of (cs:=[aI 3,.v (.string sNo),aI 0,.nl]) rfl]
 refine callF_cv' (args:=[c.av,.a [aI 3,.v (.string sNo),aI 0,.nl]]) c2 rfl (cvs2 (ci_tree c _ _) (cv_aN sNo)) ?_
 rw[extr0,extr1]
 refine boxA_of rfl fun S7 k7 n7 o7=>?_
 refine stA_of (cs':=F0.row) o7 (Fo.row_len _) rfl fun S8 n8 o8 f8=>?_
 have k8:=k7.st (Nat.le_refl _) n8 f8
 have p8:=(k8.2 _ (by omega)).trans p6
 rw[ldN_p (n:=8) p8 rfl,bld0]
 refine callF_cv' (args:=[c.av,zeroF]) c3 rfl (cvs2 (ci_tree c _ _) cv_F0) ?_
 rw[extr0,extr1]
 refine boxA_of rfl fun S9 k9 n9 o9=>?_
 refine stA_of (cs':=F0.row) o9 (Fo.row_len _) rfl fun S10 n10 o10 f10=>?_
 have k10:=k9.st (Nat.le_refl _) n10 f10
 rw[bld0]
 refine callF_cv' (args:=[zeroF]) c5 rfl (cvs1 cv_F0) ?_
 refine boxA_of rfl fun S11 k11 n11 o11=>?_
 refine stA_of (cs':=F0.row) o11 (Fo.row_len _) rfl fun S12 n12 o12 f12=>?_
 have k12:=k11.st (Nat.le_refl _) n12 f12
 have kk:=((((k2.trans k4).trans k6).trans k8).trans k10).trans k12
 have q4:=((((k6.trans k8).trans k10).trans k12).2 _ (by omega)).trans o4
 have q6:=(((k8.trans k10).trans k12).2 _ (by omega)).trans o6
 rw[Fo.row_mk]at q4 q6 o12
 show ∃ q:AV,_
 (repeat (first|with_reducible_and_instances (first|refine WJ ?_|refine W (J_ldp q4 (by with_unfolding_all rfl) (by with_unfolding_all rfl)) ?_|refine W (J_ldp q6 (by with_unfolding_all rfl) (by with_unfolding_all rfl)) ?_|refine W (J_ldp o12 (by with_unfolding_all rfl) (by with_unfolding_all rfl)) ?_|refine W (J_lenfoL) ?_|refine W (J_ldq (by with_unfolding_all rfl)) ?_)))
 exact⟨rfl,kk⟩
end
end Go.Proofs.YtmpjhihpcaephaaGreatDoor.G

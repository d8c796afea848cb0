/- Circuit -/
import Derived.Lib.IndexLaws
import Derived.Test.YtmpjhihpcaephaaDoorProg
import Derived.KernelRfl
import Derived.Test.YtmpjhihpcaephaaDoorCxT3
set_option linter.unusedVariables false
set_option linter.unusedSimpArgs false
namespace Go.Proofs.YtmpjhihpcaephaaDoor.G
open Go Go.Ab
noncomputable section
theorem madeC_of{inp:Int}{lats:List (Int × Int)}{g:Gr}{outs bads cons fair:List Int}{b1 b2:Bool}{t:ByteArray}(h0:0≤inp)(h1:inp≤3)(hl1:1≤lats.length)(hl2:lats.length≤3)
    (hg:g.right=true) (hgi:g.inputs=inp+lats.length) (hga:g.ands.length≤8) (hgok:g.ok) (hlat:∀ p∈lats,g.lit p.1=true∧0≤p.2∧p.2≤2) (ho:∀ x∈outs,g.lit x=true) (hb:∀ x∈bads,g.lit x=true)
    (hc:∀ x∈cons,g.lit x=true) (hf:∀ x∈fair,g.lit x=true) (lo:outs.length≤2) (lb:bads.length≤1) (lc:cons.length≤1) (lf:fair.length≤1)
    (ht:b2=true→0<outs.length∧(t=⟨#[111,117,116]⟩∨t=⟨#[108,49]⟩∨t=⟨#[97,45,98]⟩)):
    MadeC ⟨inp,lats,g.ands,outs,bads,cons,fair,(if b1 then[⟨108,0,⟨#[113]⟩⟩]else[])++(if b2 then[⟨111,outs.length - 1,t⟩]else[])⟩:=by
 have hvg:g.vars=inp+lats.length+1+g.ands.length:=by unfold Gr.vars;omega
 have hi64:∀{x:Int},g.lit x=true→i64R x:=fun h=>by
  obtain⟨_,_,h1,h2⟩:=lit_iff.1 h
  exact⟨by omega,by omega⟩
 have hgr:∀ nm,(⟨inp,lats,g.ands,outs,bads,cons,fair,nm⟩:Ci).gr=g:=fun nm=>by
  show(⟨IntKind.i64.wrap (inp+lats.length),g.ands⟩:Gr)=g
  rw[wrap64 (by omega) (by omega),←hgi]
 have htl:b2=true→wordB t=true∧t.size≤100∧t≠⟨#[113]⟩:=fun h=>by
  rcases(ht h).2 with rfl|rfl|rfl<;>exact⟨by decide,by decide,by decide⟩
 generalize hnm:((if b1 then[⟨108,0,⟨#[113]⟩⟩]else[])++(if b2 then[⟨111,outs.length - 1,t⟩]else[]):List Na)=nm
 have hnl:nm.length≤2:=by subst hnm;cases b1<;>cases b2<;>simp
 have hnames:namesB ⟨inp,lats,g.ands,outs,bads,cons,fair,nm⟩=true:=by
  have e1:nameOk ⟨inp,lats,g.ands,outs,bads,cons,fair,nm⟩ ⟨108,0,⟨#[113]⟩⟩:=⟨by decide,by decide,by simp[Ci.many];omega⟩
  have e2:b2=true→nameOk ⟨inp,lats,g.ands,outs,bads,cons,fair,nm⟩ ⟨111,outs.length - 1,t⟩:=fun h=>⟨(htl h).1,by have:=(ht h).1;show(0:Int)≤outs.length - 1;omega,by have:=(ht h).1;simp[Ci.many];omega⟩
  have e3:nameLt ⟨108,0,⟨#[113]⟩⟩ ⟨111,outs.length - 1,t⟩:=.inl (by show rankI 108<rankI 111;decide)
  simp only[namesB,decide_eq_true_eq]
  subst hnm
  cases b1<;>cases b2
  ·exact⟨fun i h=>by simp at h,fun i h=>by simp at h,by simp⟩
  ·refine⟨fun i h _=>?_,fun i h=>by simp at h,by simp⟩
   match i with
   |0=>exact e2 rfl
   |i+1=>exact absurd (show i+1<1 from h) (by omega)
  ·refine⟨fun i h _=>?_,fun i h=>by simp at h,by simp⟩
   match i with
   |0=>exact e1
   |i+1=>exact absurd (show i+1<1 from h) (by omega)
  ·refine⟨fun i h _=>?_,fun i h _=>?_,?_⟩
   ·match i with
    |0=>exact e1
    |1=>exact e2 rfl
    |i+2=>exact absurd (show i+2<2 from h) (by omega)
   ·match i with
    |0=>exact e3
    |i+1=>exact absurd (show i+1+1<2 from h) (by omega)
   ·have:=(htl rfl).2.2
    simp only[if_true,List.cons_append,List.nil_append,List.length_cons,List.length_nil,List.take_succ_cons,List.take_zero,List.map_cons,List.map_nil,List.nodup_cons,List.mem_singleton,List.not_mem_nil,not_false_eq_true,List.nodup_nil,and_true]
    exact fun h=>this (keyOf_inj h.symm)
 have hnk:∀ x∈nm,0≤x.kind∧x.kind<256∧i64R x.pos∧x.text.size≤9223372036854775807:=by
  subst hnm
  intro x hx
  rcases List.mem_append.1 hx with hx|hx
  ·cases b1
   ·simp at hx
   ·have:x=⟨108,0,⟨#[113]⟩⟩:=by simpa using hx
    subst this
    exact⟨by decide,by decide,⟨by decide,by decide⟩,by decide⟩
  ·cases b2
   ·simp at hx
   ·have:x=⟨111,outs.length - 1,t⟩:=by simpa using hx
    subst this
    have h2:=htl rfl
    exact⟨by show(0:Int)≤111;decide,by show(111:Int)<256;decide,⟨by show _≤(outs.length:Int) - 1;omega,by show(outs.length:Int) - 1≤_;omega⟩,by show t.size≤_;omega⟩
 refine⟨⟨⟨by show _≤inp;omega,by show inp≤_;omega⟩,by show lats.length≤_;omega,by show g.ands.length≤_;omega,fun p hp=>⟨hi64 (hlat p hp).1,⟨by have:=hlat p hp;omega,by have:=hlat p hp;omega⟩⟩,hgok.pairs,⟨fun x hx=>hi64 (ho x hx),by show outs.length≤_;omega⟩,⟨fun x hx=>hi64 (hb x hx),by show bads.length≤_;omega⟩,
  ⟨fun x hx=>hi64 (hc x hx),by show cons.length≤_;omega⟩,⟨fun x hx=>hi64 (hf x hx),by show fair.length≤_;omega⟩,hnk,by show nm.length≤_;omega⟩,right_c.2 ?_,⟨h0,h1⟩,⟨hl1,hl2⟩,hga,lo,lb,lc,lf,⟨b1,b2,t,hnm.symm,ht⟩⟩
 rw[hgr]
 refine⟨⟨h0,by show inp≤_;omega⟩,by show lats.length≤_;omega,by show outs.length≤_;omega,by show bads.length≤_;omega,by show cons.length≤_;omega,by show fair.length≤_;omega,hg,?_,?_,?_,?_,?_,hnames⟩
 ·refine List.all_eq_true.2 fun p hp=>?_
  obtain⟨q1,q2,q3⟩:=hlat p hp
  simp only[latOk,q1,decide_eq_true q2,decide_eq_true q3,Bool.and_self]
 ·exact List.all_eq_true.2 ho
 ·exact List.all_eq_true.2 hb
 ·exact List.all_eq_true.2 hc
 ·exact List.all_eq_true.2 hf
def seedL(l:List Int):List Int:=(List.range (pickV l 2 9).toNat).map fun i=>pickV l (3+i) 65536
def varsL(l:List Int):Int:=(madeTo (pickV l 0 4+(1+pickV l 1 3)) (seedL l) (min (seedL l).length 40)).1.vars
theorem made26{l:List Int}(hl:∀ x∈l,0≤x∧x<65536){S:Store}:ACalls Pg 6 [aL aW16 l] S (fun e S'=>∃ tr,e = .ret tr∧S'=S∧∃ c,tr=c.av∧MadeC c∧c.gr.vars=varsL l∧c.inputs=pickV l 0 4):=by
 refine ACalls.treeE (calls6 ?_)
 unfold m6
 refine box1_of rfl fun S1 k1 n1 o1=>?_
 refine boxA_of rfl fun S2 k2 n2 o2=>?_
 refine box1_of rfl fun S3 k3 n3 o3=>?_
 refine st_of o3 rfl rfl fun S4 n4 o4 f4=>?_
 refine boxA_of rfl fun S5 k5 n5 o5=>?_
 have e1:S1.n=S.n+1:=n1
 have e2:S2.n=S.n+2:=by omega
 have e4:S4.n=S.n+3:=by omega
 rw[e1]at o2;rw[e2]at o3 o4 f4;rw[e4]at o5
 rw[e1,e2,e4]
 have fm:Fm S l S5 0 [aI 0,.nl,.nl,.nl,.nl,.nl,.nl,.nl]:=by
  have old4:∀ x,x<S.n+2→S4.obj x=S2.obj x:=fun x hx=>(f4 x (by omega)).trans (k3.2 x (by omega))
  have old5:∀ x,x<S.n+3→S5.obj x=S4.obj x:=fun x hx=>k5.2 x (by omega)
  refine⟨⟨by omega,fun x hx=>(old5 x (by omega)).trans ((old4 x (by omega)).trans ((k2.2 x (by omega)).trans (k1.2 x hx)))⟩,by omega,?_,?_,(old5 _ (by omega)).trans o4,o5⟩
  ·exact(old5 _ (by omega)).trans ((old4 _ (by omega)).trans ((k2.2 _ (by omega)).trans o1))
  ·exact(old5 _ (by omega)).trans ((old4 _ (by omega)).trans o2)
 show callV _ (pickF S) _ _ _ _
 refine fm.pick hl (by decide) (by decide) fun S6 fm n6 f6=>?_
 have pi:=pickV_rng hl (k:=0) (n:=4) (by decide)
 generalize hinp:pickV l 0 4=inp at *
 rw[shift_p]
 refine fm.st (by simp) rfl fun S7 fm n7 f7=>?_
 show callV _ (pickF S) _ _ _ _
 refine fm.pick hl (by decide) (by decide) fun S8 fm n8 f8=>?_
 have pm:=pickV_rng hl (k:=1) (n:=3) (by decide)
 generalize hm3:pickV l 1 3=m3 at *
 rw[bin_add (by omega) (by omega)]
 obtain⟨many,hmany⟩:=Int.eq_ofNat_of_zero_le (show 0≤1+m3 by omega)
 have hm1:1≤many∧many≤3:=by omega
 rw[hmany]
 show callV _ (pickF S) _ _ _ _
 refine fm.pick hl (by decide) (by decide) fun S9 fm n9 f9=>?_
 have pr:=pickV_rng hl (k:=2) (n:=9) (by decide)
 generalize h9:pickV l 2 9=r9 at *
 obtain⟨r0,rfl⟩:=Int.eq_ofNat_of_zero_le pr.1
 replace fm:Fm S l S9 3 [aI inp,.nl,.nl,.nl,.nl,.nl,.nl,.nl]:=fm
 show loopV _ _ _ (env6_0 (.p (S.n+1) 0 0) (pickF S) (.p (S.n+3) 0 0) (aI many) .nl (aI r0)) _ _
 refine loop6_0 (fun y7 y8 S'=>∃(r k:Nat) (sd:List Int),y8=aI r∧(r+sd.length=r0∧k=3+sd.length∧sd=(List.range sd.length).map fun i=>pickV l (3+i) 65536)∧r+sd.length≤8∧k+r≤11∧Fm S l S' k [aI inp,.nl,.nl,.nl,.nl,.nl,.nl,.nl]∧Own (S.n+4) S' y7 45 (sd.map fun x=>[aW16 x])∧∀ x∈sd,0≤x∧x<65536)
  (fun _ y _=>((intA y).getD 0).toNat) ⟨r0,3,[],rfl,⟨by simp,rfl,rfl⟩,by simp;omega,by omega,fm,Own.nl _ _ _,fun _ h=>by cases h⟩ ?_
 rintro y7 _ S1 ⟨r,k,sd,rfl,⟨hrr,hkk,hsq⟩,hr,hk,fm,w7,hsd⟩ KE hKE
 unfold b6_0
 rw[bin_gtr,onB_v]
 refine gd_of (fun hgt=>?_) (fun hle=>?_)
 ·have hgt:0<r:=by have:=dT hgt;omega
  refine fm.pick hl (by decide) (by omega) fun S2 fm n2 f2=>?_
  have px:=pickV_rng hl (k:=k) (n:=65536) (by decide)
  generalize hx:pickV l k 65536=x at *
  have w2:=w7.fm (by omega) n2 f2
  rw[convI_v,wrap16 px.1 px.2]
  refine bsl1 rfl (fun _ h=>by cases h) ?_
  refine w2.app (by have:=fm.n;omega) (c:=[aW16 x]) rfl (by rw[List.length_map];omega) (fun z S3 w3 b3 hz=>?_) rfl
  have n3:=b3.1
  have o3:∀ x,x<S.n+4→S3.obj x=S2.obj x:=fun x hx=>b3.2 x (by have:=fm.n;omega) (fun b m e=>by have:=w2.lt e;omega)
  rw[bin_sub (by omega) (by omega),show(r:Int) - 1=((r - 1:Nat):Int)by omega]
  refine hKE _ _ _ ⟨r - 1,k+1,sd ++ [x],rfl,⟨by simp;omega,by simp;omega,by rw[List.length_append,List.length_singleton,List.range_succ,List.map_append,←hsq];simp[←hx,hkk]⟩,by rw[List.length_append,List.length_singleton];omega,by omega,fm.old n3 o3,by rw[List.map_append];exact w3,fun a ha=>?_⟩ (by simp[intA];omega)
  rcases List.mem_append.1 ha with ha|ha
  ·exact hsd a ha
  ·have:a=x:=by simpa using ha
   subst this
   exact px
 have hle:r=0:=by have:=dF hle;omega
 subst hle
 clear hKE KE
 rw[shift_p,ld1_p fm.co rfl rfl,bin_add (by omega) (by omega)]
 have hlen:∀(T:Store) (K:AV→Store→Prop),lenS y7 T K=K (aI sd.length) T:=fun T K=>by
  rcases w7 with⟨rfl,e⟩|⟨id,rfl,_⟩
  ·have:sd = []:=List.map_eq_nil_iff.1 e
   subst this;rfl
  ·rw[lenS_s,List.length_map]
 obtain⟨q7,hq7⟩:∃ q:Nat,∀(i:Nat),i<sd.length→y7 = .s q 0 sd.length∧q<S1.n∧S1.obj q=some (.cells 45 (sd.map fun x=>[aW16 x]) true):=by
  rcases w7 with⟨rfl,e⟩|⟨id,rfl,h1,h2,h3⟩
  ·have:sd = []:=List.map_eq_nil_iff.1 e
   subst this;exact⟨0,fun i hi=>by simp at hi⟩
  ·exact⟨id,fun i _=>⟨by rw[List.length_map],h2,h3⟩⟩
 have hmade:=at14 (n:=inp+many) (by omega) (by omega) hsd (by omega) (S:=S1) (x1:=y7) hlen (P:=fun i=>.p q7 i 0) (fun T hT i hi=>by
  obtain⟨h1,h2,h3⟩:=hq7 i hi
  have h4:=(hT.2 _ h2).trans h3
  subst h1
  refine⟨fun K=>by rw[ixS_s hi h4,Nat.zero_add],fun K=>by rw[ld1_p h4 (by rw[List.getElem?_map,List.getElem?_eq_getElem hi];rfl) rfl]⟩)
 have hrt:=madeTo_right (n:=inp+many) (by omega) (by omega) hsd (min sd.length 40) (by omega)
 have hgok:=madeTo_ok (n:=inp+many) ⟨by omega,by omega⟩ hsd (by omega) (min sd.length 40)
 have hgin:=madeTo_inp (inp+many) sd (min sd.length 40)
 have hmin:min sd.length 40≤8:=by omega
 have hvars:(madeTo (inp+many) sd (min sd.length 40)).1.vars=varsL l:=by
  have e:sd=seedL l:=by
   rw[hsq,seedL,h9]
   rw[show sd.length=r0 by omega]
   rfl
  rw[varsL,hinp,hm3,hmany,←e]
 generalize(madeTo (inp+many) sd (min sd.length 40)).1=g at *
 generalize(madeTo (inp+many) sd (min sd.length 40)).2=last at *
 obtain⟨hg,hlast,hv1,hv2⟩:=hrt
 have hga:g.ands.length≤8:=by unfold Gr.vars at hv2;omega
 refine callF_at hmade ?_
 rw[extr0,extr1]
 refine boxA_of rfl fun S2 k2 n2 o2=>?_
 refine stA_of o2 rfl rfl fun S3 n3 o3 f3=>?_
 have hb:=fm.n
 replace fm:Fm S l S3 k _:=fm.old (by omega) fun x hx=>(f3 x (by omega)).trans (k2.2 x (by omega))
 rw[shift_p,ld1_p o3 rfl rfl,shift_p]
 refine fm.st (by simp) rfl fun S4 fm n4 f4=>?_
 have o4:=(f4 S1.n (by omega)).trans o3
 rw[ldN_p (n:=2) o4 rfl]
 refine callF_ans (ans15 hgok (by omega) (by omega)) ?_
 rw[bin_mul (by omega) (by omega)]
 have hvp:0<2*g.vars:=by omega
 have plit:∀{x:Int},0≤x∧x<2*g.vars→g.lit x=true:=fun h=>lit_iff.2 ⟨by omega,by omega,h.1,by omega⟩
 show loopV _ _ _ (env6_1 (.p (S.n+1) 0 0) (pickF S) (.p (S.n+3) 0 0) (aI many) (aI last) (aI (2*g.vars)) (aI (0:Nat))) _ _
 replace fm:Fm S l S4 k [aI inp,.nl,pL g.ands,.nl,.nl,.nl,.nl,.nl]:=fm
 refine loop6_1 (fun y12 S'=>∃(i k:Nat) (zl:AV) (lats:List (Int × Int)),y12=aI i∧i≤many∧k≤11+2*i∧Fm S l S' k [aI inp,zl,pL g.ands,.nl,.nl,.nl,.nl,.nl]∧Own (S.n+4) S' zl 39 (lats.map fun p=>[aI p.1,aI p.2])∧lats.length=i∧∀ p∈lats,g.lit p.1=true∧0≤p.2∧p.2≤2)
  (fun y _=>many - ((intA y).getD 0).toNat) ⟨0,k,.nl,[],rfl,Nat.zero_le _,by omega,fm,Own.nl _ _ _,rfl,fun _ h=>by cases h⟩ ?_
 rintro _ S1 ⟨i,k,zl,lats,rfl,hi,hk,fm,wl,hll,hlat⟩ KE hKE
 unfold b6_1
 rw[bin_lss,onB_v]
 refine gd_of (fun hlt=>?_) (fun hge=>?_)
 ·have hlt:i<many:=by have:=dT hlt;omega
  refine fm.pick hl hvp (by omega) fun S2 fm n2 f2=>?_
  have pn:=plit (pickV_rng hl (k:=k) hvp)
  generalize pickV l k (2*g.vars)=n at *
  have w2:=wl.fm (by omega) n2 f2
  rw[bin_eql,onB_v]
  have step:∀ nx:Int,g.lit nx=true→∀(S3:Store) (p5:Int) (k':Nat),0≤p5∧p5<5→k'≤11+2*(i+1)→Fm S l S3 k' [aI inp,zl,pL g.ands,.nl,.nl,.nl,.nl,.nl]→Own (S.n+4) S3 zl 39 (lats.map fun p=>[aI p.1,aI p.2])→
      (∃ q46:AV,(∀ T:Store,Keep S3 T→bin .quo 0 (aI p5) (.v (.int .i64 2)) T fun v S=>v=q46∧S=T)∧∃ q48:AV,(∀ T:Store,Keep S3 T→bld [(0,1),(1,1)] [.v (.int .i64 0),.v (.int .i64 0)] [(0,aI nx),(1,q46)] T fun v S=>v=q48∧S=T)∧
       ∃ q50:AV,(∀ T:Store,Keep S3 T→bslN 39 2 1 [.v (.int .i64 0),.v (.int .i64 0)] [(0,q48)] T fun v S=>v=q50∧S=T)∧appS 39 2 16 zl q50 S3 fun v52 T =>
       ∃ q53:AV,(∀ T':Store,Keep T T'→shift (.p (S.n+3) 0 0) 1 T' fun v S=>v=q53∧S=T')∧stN 1 q53 v52 T fun _ T=>bin .add 0 (aI i) (.v (.int .i64 1)) T fun v T=>KE 156 (env6_1 (.p (S.n+1) 0 0) (pickF S) (.p (S.n+3) 0 0) (aI many) (aI last) (aI (2*g.vars)) v) T):=by
   intro nx hnx S3 p5 k' hp5 hk' fm w3
   have hd:0≤p5.tdiv 2∧p5.tdiv 2≤2:=by rw[Int.tdiv_eq_ediv_of_nonneg hp5.1];omega
   refine⟨_,fun T hT=>by rw[bin_quo (by decide) (by omega) (by omega)];exact⟨rfl,rfl⟩,_,fun T hT=>by rw[bld_of (cs:=[aI nx,aI (p5.tdiv 2)]) rfl];exact⟨rfl,rfl⟩,_,fun T hT=>bslP ⟨rfl,rfl⟩,?_⟩
   refine w3.app (by have:=fm.n;omega) (c:=[aI nx,aI (p5.tdiv 2)]) rfl (by rw[List.length_map];omega) (fun z S4 w4 b4 hz=>?_) rfl
   have n4:=b4.1
   have hn3:=fm.n
   have o4:∀ x,x<S.n+4→S4.obj x=S3.obj x:=fun x hx=>b4.2 x (by omega) (fun b m e=>by have:=w3.lt e;omega)
   refine⟨_,fun T hT=>by rw[shift_p];exact⟨rfl,rfl⟩,?_⟩
   replace fm:=fm.old n4 o4
   refine fm.st (by simp) (own_one w4) fun S5 fm n5 f5=>?_
   have w5:=w4.fm (by omega) n5 f5
   rw[bin_add (by omega) (by omega)]
   refine hKE _ _ ⟨i+1,k',z,lats ++ [(nx,p5.tdiv 2)],rfl,hlt,hk',fm,by rw[List.map_append];exact w5,by simp[hll],fun p hp=>?_⟩ (by simp[intA];omega)
   rcases List.mem_append.1 hp with hp|hp
   ·exact hlat p hp
   ·have:p=(nx,p5.tdiv 2):=by simpa using hp
    subst this
    exact⟨hnx,hd⟩
  have p5:=pickV_rng hl (k:=k+1) (n:=5) (by decide)
  refine gd_of (fun h0=>?_) (fun h0=>?_)
  ·refine⟨_,fun T hT=>by rw[shift_p];exact⟨rfl,rfl⟩,zl,fun T hT=>by rw[ld1_p (fm.kT hT) rfl rfl];exact⟨rfl,rfl⟩,?_⟩
   refine fm.pick hl (by decide) (by omega) fun S3 fm n3 f3=>?_
   have w3:=w2.fm (by omega) n3 f3
   refine⟨fun T hT=>by rw[ld1_p (fm.kT hT) rfl rfl];exact⟨rfl,rfl⟩,fun T hT=>by rw[shift_p];exact⟨rfl,rfl⟩,?_⟩
   exact step _ hlast S3 _ _ p5 (by omega) fm w3
  ·refine⟨_,fun T hT=>by rw[shift_p];exact⟨rfl,rfl⟩,zl,fun T hT=>by rw[ld1_p (fm.kT hT) rfl rfl];exact⟨rfl,rfl⟩,?_⟩
   refine fm.pick hl (by decide) (by omega) fun S3 fm n3 f3=>?_
   have w3:=w2.fm (by omega) n3 f3
   refine⟨fun T hT=>by rw[ld1_p (fm.kT hT) rfl rfl];exact⟨rfl,rfl⟩,fun T hT=>by rw[shift_p];exact⟨rfl,rfl⟩,?_⟩
   exact step _ pn S3 _ _ p5 (by omega) fm w3
 have hge:i=many:=by have:=dF hge;omega
 subst hge
 clear hKE KE
 refine fm.pick hl (by decide) (by omega) fun S2 fm n2 f2=>?_
 have w2:=wl.fm (by omega) n2 f2
 have p3:=pickV_rng hl (k:=k) (n:=3) (by decide)
 generalize pickV l k 3=r3 at *
 obtain⟨r0,rfl⟩:=Int.eq_ofNat_of_zero_le p3.1
 obtain⟨S3,wk3,fm3,n3⟩:=fm.wk (cs2:=[aI inp,pL lats,pL g.ands,.nl,.nl,.nl,.nl,.nl]) rfl (fun k' u u2 e1 e2=>by
  match k' with
  |0=>cases e1;cases e2;exact .v _
  |1=>cases e1;cases e2;exact own_cvP w2 (w2.fF (Nat.le_refl _))
  |2=>cases e1;cases e2;exact treeP _ _ _
  |3|4|5|6|7=>cases e1;cases e2;exact .nl'
  |k+8=>simp at e1) (env6_2 (.p (S.n+1) 0 0) (pickF S) (.p (S.n+3) 0 0) (aI (2*g.vars)) (aI r0))
 show loopV _ _ _ (env6_2 (.p (S.n+1) 0 0) (pickF S) (.p (S.n+3) 0 0) (aI (2*g.vars)) (aI r0)) _ _
 refine loopw6_2 (fun y2 y4 y5 y11 y14 S'=>y2 = .p (S.n+1) 0 0∧y4=pickF S∧y5 = .p (S.n+3) 0 0∧y11=aI (2*g.vars)∧∃(r k:Nat) (zo:AV) (outs:List Int),y14=aI r∧outs.length+r≤2∧k+r≤20∧Fm S l S' k [aI inp,pL lats,pL g.ands,zo,.nl,.nl,.nl,.nl]∧Own (S.n+4) S' zo 3 (outs.map fun p=>[aI p])∧∀ x∈outs,g.lit x=true)
  (fun _ _ _ _ y _=>((intA y).getD 0).toNat) ⟨_,_,_,_,_,S3,wk3,rfl,rfl,rfl,rfl,r0,k+1,.nl,[],rfl,by simp;omega,by omega,fm3,Own.nl _ _ _,fun _ h=>by cases h⟩ ?_
 rintro _ _ _ _ _ S1 ⟨rfl,rfl,rfl,rfl,r,k,zo,outs,rfl,hor,hk,fm,wo,hou⟩ KE hKE
 unfold b6_2
 rw[bin_gtr,onB_v]
 refine gd_of (fun hgt=>?_) (fun hle=>?_)
 ·have hgt:0<r:=by have:=dT hgt;omega
  refine⟨_,fun T hT=>by rw[shift_p];exact⟨rfl,rfl⟩,zo,fun T hT=>by rw[ld1_p (fm.kT hT) rfl rfl];exact⟨rfl,rfl⟩,?_⟩
  refine fm.pick hl hvp (by omega) fun S2 fm n2 f2=>?_
  have pn:=plit (pickV_rng hl (k:=k) hvp)
  generalize pickV l k (2*g.vars)=n at *
  have w2:=wo.fm (by omega) n2 f2
  refine⟨fun T hT=>by rw[ld1_p (fm.kT hT) rfl rfl];exact⟨rfl,rfl⟩,fun T hT=>by rw[shift_p];exact⟨rfl,rfl⟩,_,fun T hT=>bsl1 rfl (fun _ h=>by cases h) ⟨rfl,rfl⟩,?_⟩
  refine w2.app (by have:=fm.n;omega) (c:=[aI n]) rfl (by rw[List.length_map];omega) (fun z S4 w4 b4 hz=>?_) rfl
  have n4:=b4.1
  have hn3:=fm.n
  have o4:∀ x,x<S.n+4→S4.obj x=S2.obj x:=fun x hx=>b4.2 x (by omega) (fun b m e=>by have:=w2.lt e;omega)
  refine⟨_,fun T hT=>by rw[shift_p];exact⟨rfl,rfl⟩,?_⟩
  replace fm:=fm.old n4 o4
  refine fm.st (by simp) (own_one w4) fun S5 fm n5 f5=>?_
  have w5:=w4.fm (by omega) n5 f5
  rw[bin_sub (by omega) (by omega),show(r:Int) - 1=((r - 1:Nat):Int)by omega]
  refine hKE _ _ _ _ _ _ _ _ _ _ _ _ (Wk.refl _ _) ⟨rfl,rfl,rfl,rfl,r - 1,k+1,z,outs ++ [n],rfl,by rw[List.length_append,List.length_singleton];omega,by omega,fm,by rw[List.map_append];exact w5,fun p hp=>?_⟩ (by simp[intA];omega)
  rcases List.mem_append.1 hp with hp|hp
  ·exact hou p hp
  ·have:p=n:=by simpa using hp
   subst this
   exact pn
 have hle:r=0:=by have:=dF hle;omega
 subst hle
 clear hKE KE
 have tail:∀(S':Store) (k:Nat) (zo zb zc:AV) (bads cons:List Int) (r0:Nat),r0≤1→k≤25→Fm S l S' k [aI inp,pL lats,pL g.ands,zo,zb,zc,.nl,.nl]→Own (S.n+4) S' zo 3 (outs.map fun p=>[aI p])→Own (S.n+4) S' zb 3 (bads.map fun p=>[aI p])→Own (S.n+4) S' zc 3 (cons.map fun p=>[aI p])→
     bads.length≤1→cons.length≤1→(∀ x∈bads,g.lit x=true)→(∀ x∈cons,g.lit x=true)→
     loopV lv6_3 (vc Pg (c6.at_ [1,1,1,1,1,1,1,1,1,1,1,1,1,1,1,0,1,0,0]) (ms6.drop 4)) 156 (env6_3 (.p (S.n+1) 0 0) (pickF S) (.p (S.n+3) 0 0) (aI (2*g.vars)) (aI r0)) S'
      (blockK 6 (seqK (vc Pg (c6.at_ [1,1,1,1,1,1,1,1,1,1,1,1,1,1,1,1]) (ms6.drop 4)) (bodyK Pg r6 fun e S'=>∃ r tr,e = .ret r∧Keep S S'∧Cv (S'.frz (newer S.n)) S.n r tr∧∃ c:Ci,tr=c.av∧MadeC c∧c.gr.vars=varsL l∧c.inputs=inp))):=by
  intro S' k zo zb zc bads cons r0 hr0 hk fm wo wb wc lb lc hbl hcl
  obtain⟨S3,wk3,fm3,n3⟩:=fm.wk (cs2:=[aI inp,pL lats,pL g.ands,aL aI outs,aL aI bads,aL aI cons,.nl,.nl]) rfl (fun k' u u2 e1 e2=>by
   match k' with
   |0=>cases e1;cases e2;exact .v _
   |1=>cases e1;cases e2;exact treeP _ _ _
   |2=>cases e1;cases e2;exact treeP _ _ _
   |3=>cases e1;cases e2;exact own_cvI wo (wo.fF (Nat.le_refl _))
   |4=>cases e1;cases e2;exact own_cvI wb (wb.fF (Nat.le_refl _))
   |5=>cases e1;cases e2;exact own_cvI wc (wc.fF (Nat.le_refl _))
   |6|7=>cases e1;cases e2;exact .nl'
   |k+8=>simp at e1) (env6_3 (.p (S.n+1) 0 0) (pickF S) (.p (S.n+3) 0 0) (aI (2*g.vars)) (aI r0))
  refine loopw6_3 (fun y2 y4 y5 y11 y15 S'=>y2 = .p (S.n+1) 0 0∧y4=pickF S∧y5 = .p (S.n+3) 0 0∧y11=aI (2*g.vars)∧∃(r k:Nat) (zf:AV) (fair:List Int),y15=aI r∧fair.length+r≤1∧k+r≤26∧Fm S l S' k [aI inp,pL lats,pL g.ands,aL aI outs,aL aI bads,aL aI cons,zf,.nl]∧Own (S.n+4) S' zf 3 (fair.map fun p=>[aI p])∧∀ x∈fair,g.lit x=true)
   (fun _ _ _ _ y _=>((intA y).getD 0).toNat) ⟨_,_,_,_,_,S3,wk3,rfl,rfl,rfl,rfl,r0,k,.nl,[],rfl,by simp;omega,by omega,fm3,Own.nl _ _ _,fun _ h=>by cases h⟩ ?_
  rintro _ _ _ _ _ S1 ⟨rfl,rfl,rfl,rfl,r,k,zf,fair,rfl,hfr,hk,fm,wf,hfl⟩ KE hKE
  unfold b6_3
  rw[bin_gtr,onB_v]
  refine gd_of (fun hgt=>?_) (fun hle=>?_)
  ·have hgt:0<r:=by have:=dT hgt;omega
   refine⟨_,fun T hT=>by rw[shift_p];exact⟨rfl,rfl⟩,zf,fun T hT=>by rw[ld1_p (fm.kT hT) rfl rfl];exact⟨rfl,rfl⟩,?_⟩
   refine fm.pick hl hvp (by omega) fun S2 fm n2 f2=>?_
   have pn:=plit (pickV_rng hl (k:=k) hvp)
   generalize pickV l k (2*g.vars)=n at *
   have w2:=wf.fm (by omega) n2 f2
   refine⟨fun T hT=>by rw[ld1_p (fm.kT hT) rfl rfl];exact⟨rfl,rfl⟩,fun T hT=>by rw[shift_p];exact⟨rfl,rfl⟩,_,fun T hT=>bsl1 rfl (fun _ h=>by cases h) ⟨rfl,rfl⟩,?_⟩
   refine w2.app (by have:=fm.n;omega) (c:=[aI n]) rfl (by rw[List.length_map];omega) (fun z S4 w4 b4 hz=>?_) rfl
   have n4:=b4.1
   have hn3:=fm.n
   have o4:∀ x,x<S.n+4→S4.obj x=S2.obj x:=fun x hx=>b4.2 x (by omega) (fun b m e=>by have:=w2.lt e;omega)
   refine⟨_,fun T hT=>by rw[shift_p];exact⟨rfl,rfl⟩,?_⟩
   replace fm:=fm.old n4 o4
   refine fm.st (by simp) (own_one w4) fun S5 fm n5 f5=>?_
   have w5:=w4.fm (by omega) n5 f5
   rw[bin_sub (by omega) (by omega),show(r:Int) - 1=((r - 1:Nat):Int)by omega]
   refine hKE _ _ _ _ _ _ _ _ _ _ _ _ (Wk.refl _ _) ⟨rfl,rfl,rfl,rfl,r - 1,k+1,z,fair ++ [n],rfl,by rw[List.length_append,List.length_singleton];omega,by omega,fm,by rw[List.map_append];exact w5,fun p hp=>?_⟩ (by simp[intA];omega)
   rcases List.mem_append.1 hp with hp|hp
   ·exact hfl p hp
   ·have:p=n:=by simpa using hp
    subst this
    exact pn
  have hle:r=0:=by have:=dF hle;omega
  subst hle
  clear hKE KE
  have fin:∀(S1:Store) (k:Nat) (zn:AV) (b1 b2:Bool) (t:ByteArray),Fm S l S1 k [aI inp,pL lats,pL g.ands,aL aI outs,aL aI bads,aL aI cons,zf,zn]→Own (S.n+4) S1 zf 3 (fair.map fun p=>[aI p])→(b2=true→0<outs.length∧(t=⟨#[111,117,116]⟩∨t=⟨#[108,49]⟩∨t=⟨#[97,45,98]⟩))→
      Own (S.n+4) S1 zn 32 (((if b1 then[⟨108,0,⟨#[113]⟩⟩]else[])++(if b2 then[⟨111,outs.length - 1,t⟩]else[]):List Na).map Na.row)→
      ldN 8 (.p (S.n+3) 0 0) S1 fun v S1=>stN 8 (.p (S.n+1) 0 0) v S1 fun _ S2=>ldN 8 (.p (S.n+1) 0 0) S2 fun v _=>∃ r tr,AEnd.ret v = .ret r∧Keep S S2∧Cv (S2.frz (newer S.n)) S.n r tr∧∃ c:Ci,tr=c.av∧MadeC c∧c.gr.vars=varsL l∧c.inputs=inp:=by
   intro S1 k zn b1 b2 t fm wf ht wn
   rw[ldN_p (n:=8) fm.co rfl]
   refine stA_of fm.ro rfl rfl fun S2 n2 o2 f2=>?_
   rw[ldN_p (n:=8) o2 rfl]
   have wf2:=wf.fm (id:=S.n+1) (by omega) n2 f2
   have wn2:=wn.fm (id:=S.n+1) (by omega) n2 f2
   refine⟨_,_,rfl,fm.keep.st (by omega) n2 f2,?_,⟨inp,lats,g.ands,outs,bads,cons,fair,(if b1 then[⟨108,0,⟨#[113]⟩⟩]else[])++(if b2 then[⟨111,outs.length - 1,t⟩]else[])⟩,rfl,madeC_of pi.1 (by omega) (by omega) (by omega) hg (by rw[hgin,hll]) hga hgok hlat hou hbl hcl hfl (by omega) lb lc (by omega) ht,?_,rfl⟩
   rotate_left
   ·have hgi':g.inputs=inp+lats.length:=by rw[hgin,hll]
    have:(Ci.gr ⟨inp,lats,g.ands,outs,bads,cons,fair,(if b1 then[⟨108,0,⟨#[113]⟩⟩]else[])++(if b2 then[⟨111,outs.length - 1,t⟩]else[])⟩)=g:=by
     show(⟨IntKind.i64.wrap (inp+lats.length),g.ands⟩:Gr)=g
     rw[wrap64 (by omega) (by omega),←hgi']
    rw[this];exact hvars
   refine .a _ _ rfl fun k' u u2 e1 e2=>?_
   match k' with
   |0=>cases e1;cases e2;exact .v _
   |1=>cases e1;cases e2;exact treeP _ _ _
   |2=>cases e1;cases e2;exact treeP _ _ _
   |3=>cases e1;cases e2;exact treeI _ _ _
   |4=>cases e1;cases e2;exact treeI _ _ _
   |5=>cases e1;cases e2;exact treeI _ _ _
   |6=>cases e1;cases e2;exact own_cvI wf2 (wf2.fF (by omega))
   |7=>cases e1;cases e2;exact own_cvN wn2 (wn2.fF (by omega))
   |k+8=>simp at e1
  have snd:∀(S1:Store) (k:Nat) (zn:AV) (b1:Bool),k≤100→Fm S l S1 k [aI inp,pL lats,pL g.ands,aL aI outs,aL aI bads,aL aI cons,zf,zn]→Own (S.n+4) S1 zf 3 (fair.map fun p=>[aI p])→Apart zn zf→
      Own (S.n+4) S1 zn 32 (((if b1 then[⟨108,0,⟨#[113]⟩⟩]else[]):List Na).map Na.row)→0<outs.length→
      (∃ q182:AV,(∀ T:Store,Keep S1 T→shift (.p (S.n+3) 0 0) 7 T fun v S=>v=q182∧S=T)∧∃ q184:AV,(∀ T:Store,Keep S1 T→ld1 q182 T fun v S=>v=q184∧S=T)∧∃ q186:AV,(∀ T:Store,Keep S1 T→shift (.p (S.n+3) 0 0) 3 T fun v S=>v=q186∧S=T)∧
       ∃ q188:AV,(∀ T:Store,Keep S1 T→ld1 q186 T fun v S=>v=q188∧S=T)∧∃ q190:AV,(∀ T:Store,Keep S1 T→lenS q188 T fun v S=>v=q190∧S=T)∧∃ q192:AV,(∀ T:Store,Keep S1 T→bin .sub 0 q190 (.v (.int .i64 1)) T fun v S=>v=q192∧S=T)∧
       ∃ q194:AV,(∀ T:Store,Keep S1 T→bslN 9 1 3 [.v (.string ByteArray.empty)] [(0,(.v (.string { data:=#[111,117,116] }))),(1,(.v (.string { data:=#[108,49] }))),(2,(.v (.string { data:=#[97,45,98] })))] T fun v S=>v=q194∧S=T)∧
       callV Pg (pickF S) [.v (.int .i64 3)] S1 (fun v196 S1=>(∀ T:Store,Keep S1 T→bslN 9 1 3 [.v (.string ByteArray.empty)] [(0,(.v (.string { data:=#[111,117,116] }))),(1,(.v (.string { data:=#[108,49] }))),(2,(.v (.string { data:=#[97,45,98] })))] T fun v S=>v=q194∧S=T)∧
        (∀ T:Store,Keep S1 T→bin .sub 0 q190 (.v (.int .i64 1)) T fun v S=>v=q192∧S=T)∧(∀ T:Store,Keep S1 T→lenS q188 T fun v S=>v=q190∧S=T)∧(∀ T:Store,Keep S1 T→ld1 q186 T fun v S=>v=q188∧S=T)∧(∀ T:Store,Keep S1 T→shift (.p (S.n+3) 0 0) 3 T fun v S=>v=q186∧S=T)∧
        (∀ T:Store,Keep S1 T→ld1 q182 T fun v S=>v=q184∧S=T)∧(∀ T:Store,Keep S1 T→shift (.p (S.n+3) 0 0) 7 T fun v S=>v=q182∧S=T)∧
        ∃ q204:AV,(∀ T:Store,Keep S1 T→ixS 9 1 q194 v196 T fun v S=>v=q204∧S=T)∧∃ q206:AV,(∀ T:Store,Keep S1 T→ld1 q204 T fun v S=>v=q206∧S=T)∧
        ∃ q208:AV,(∀ T:Store,Keep S1 T→bld [(0,1),(1,1),(2,1)] [.v (.int .u8 0),.v (.int .i64 0),.v (.string ByteArray.empty)] [(0,(.v (.int .u8 111))),(1,q192),(2,q206)] T fun v S=>v=q208∧S=T)∧
        ∃ q210:AV,(∀ T:Store,Keep S1 T→bslN 32 3 1 [.v (.int .u8 0),.v (.int .i64 0),.v (.string ByteArray.empty)] [(0,q208)] T fun v S=>v=q210∧S=T)∧appS 32 3 32 q184 q210 S1 fun v212 S1 =>
        ∃ q213:AV,(∀ T:Store,Keep S1 T→shift (.p (S.n+3) 0 0) 7 T fun v S=>v=q213∧S=T)∧stN 1 q213 v212 S1 fun _ S1 =>
        ldN 8 (.p (S.n+3) 0 0) S1 fun v S1=>stN 8 (.p (S.n+1) 0 0) v S1 fun _ S2=>ldN 8 (.p (S.n+1) 0 0) S2 fun v _=>∃ r tr,AEnd.ret v = .ret r∧Keep S S2∧Cv (S2.frz (newer S.n)) S.n r tr∧∃ c:Ci,tr=c.av∧MadeC c∧c.gr.vars=varsL l∧c.inputs=inp) (fun _ _=>False)):=by
   intro S1 k zn b1 hk fm wf hap wn hol
   have hsub:∀(T:Store) (K:AV→Store→Prop),bin .sub 0 (aI outs.length) (.v (.int .i64 1)) T K=K (aI (outs.length - 1)) T:=fun T K=>bin_sub (by omega) (by omega) 0
   refine⟨_,fun T hT=>by rw[shift_p];exact⟨rfl,rfl⟩,zn,fun T hT=>by rw[ld1_p (fm.kT hT) rfl rfl];exact⟨rfl,rfl⟩,_,fun T hT=>by rw[shift_p];exact⟨rfl,rfl⟩,aL aI outs,fun T hT=>by rw[ld1_p (fm.kT hT) rfl rfl];exact⟨rfl,rfl⟩,aI outs.length,fun T hT=>by rw[lenS_aL];exact⟨rfl,rfl⟩,_,fun T hT=>by rw[hsub];exact⟨rfl,rfl⟩,
    _,fun T hT=>bsl3 rfl rfl rfl ⟨rfl,rfl⟩,?_⟩
   refine fm.pick hl (by decide) (by omega) fun S2 fm n2 f2=>?_
   have p3:=pickV_rng hl (k:=k) (n:=3) (by decide)
   generalize pickV l k 3=x at *
   obtain⟨x,rfl⟩:=Int.eq_ofNat_of_zero_le p3.1
   have wf2:=wf.fm (by omega) n2 f2
   have wn2:=wn.fm (by omega) n2 f2
   refine⟨fun T hT=>bsl3 rfl rfl rfl ⟨rfl,rfl⟩,fun T hT=>by rw[hsub];exact⟨rfl,rfl⟩,fun T hT=>by rw[lenS_aL];exact⟨rfl,rfl⟩,fun T hT=>by rw[ld1_p (fm.kT hT) rfl rfl];exact⟨rfl,rfl⟩,fun T hT=>by rw[shift_p];exact⟨rfl,rfl⟩,fun T hT=>by rw[ld1_p (fm.kT hT) rfl rfl];exact⟨rfl,rfl⟩,fun T hT=>by rw[shift_p];exact⟨rfl,rfl⟩,?_⟩
   obtain⟨t,ht,hx⟩:∃ t:ByteArray,(t=⟨#[111,117,116]⟩∨t=⟨#[108,49]⟩∨t=⟨#[97,45,98]⟩)∧∀(T:Store) (K:AV→Store→Prop),ixS 9 1 (.l [[.v (.string { data:=#[111,117,116] })],[.v (.string { data:=#[108,49] })],[.v (.string { data:=#[97,45,98] })]]) (aI x) T K=K (.q [.v (.string t)] 0) T:=by
    match x,p3 with
    |0,_=>exact⟨_,.inl rfl,fun T K=>ixS_l (i:=0) (by simp) rfl⟩
    |1,_=>exact⟨_,.inr (.inl rfl),fun T K=>ixS_l (i:=1) (by simp) rfl⟩
    |2,_=>exact⟨_,.inr (.inr rfl),fun T K=>ixS_l (i:=2) (by simp) rfl⟩
    |x+3,h=>omega
   refine⟨_,fun T hT=>by rw[hx];exact⟨rfl,rfl⟩,_,fun T hT=>by rw[ld1_q];exact⟨rfl,rfl⟩,_,fun T hT=>by rw[bld_of (cs:=[.v (.int .u8 111),aI (outs.length - 1),.v (.string t)]) rfl];exact⟨rfl,rfl⟩,_,fun T hT=>bslA3 ⟨rfl,rfl⟩,?_⟩
   refine wn2.app (by have:=fm.n;omega) (c:=[.v (.int .u8 111),aI (outs.length - 1),.v (.string t)]) rfl (by cases b1<;>simp) (fun z S4 w4 b4 hz=>?_) rfl
   have n4:=b4.1
   have hn3:=fm.n
   have o4:∀ x,x<S.n+4→S4.obj x=S2.obj x:=fun x hx=>b4.2 x (by omega) (fun b m e=>by have:=wn2.lt e;omega)
   refine⟨_,fun T hT=>by rw[shift_p];exact⟨rfl,rfl⟩,?_⟩
   replace fm:=fm.old n4 o4
   have wf4:=wf2.but b4 hap
   refine fm.st (by simp) (own_one w4) fun S5 fm n5 f5=>?_
   refine fin S5 _ z b1 true t fm (wf4.fm (by omega) n5 f5) (fun _=>⟨hol,ht⟩) ?_
   have w5:=w4.fm (by omega) n5 f5
   rw[List.map_append]
   exact w5
  refine fm.pick hl (by decide) (by omega) fun S2 fm n2 f2=>?_
  have wf2:=wf.fm (by omega) n2 f2
  have p3:=pickV_rng hl (k:=k) (n:=3) (by decide)
  generalize pickV l k 3=x3 at *
  rw[bin_gtr,onB_v]
  refine gd_of (fun hx=>?_) (fun hx=>?_)
  ·rw[shift_p,ld1_p fm.co rfl rfl,bld_of (cs:=[.v (.int .u8 108),aI 0,.v (.string ⟨#[113]⟩)]) rfl]
   refine bslA3 ?_
   refine(Own.nl (S.n+4) S2 32).app (by have:=fm.n;omega) (c:=[.v (.int .u8 108),aI 0,.v (.string ⟨#[113]⟩)]) rfl (by simp) (fun z S4 w4 b4 hz=>?_) rfl
   have n4:=b4.1
   have hn3:=fm.n
   have o4:∀ x,x<S2.n→S4.obj x=S2.obj x:=fun x hx=>b4.2 x (by omega) (fun b m e=>by cases e)
   rw[shift_p]
   replace fm:=fm.old n4 fun x hx=>o4 x (by omega)
   have wf4:=wf2.but b4 (fun _ _ _ _ _ e=>by cases e)
   obtain⟨mz,hmz⟩:=hz
   have hap:Apart z zf:=fun i b m b' m' e e'=>by
    rw[hmz]at e;injection e with e
    have:=wf2.lt e';omega
   refine fm.st (by simp) (own_one w4) fun S5 fm n5 f5=>?_
   have w5:Own (S.n+4) S5 z 32 ([⟨108,0,⟨#[113]⟩⟩].map Na.row):=w4.fm (by omega) n5 f5
   have wf5:=wf4.fm (by omega) n5 f5
   rw[shift_p,ld1_p fm.co rfl rfl,lenS_aL,bin_gtr,onB_v]
   refine gd_of (fun ho=>?_) (fun ho=>fin S5 _ z true false ⟨#[]⟩ fm wf5 (fun h=>by cases h) w5)
   have ho:0<outs.length:=by have:=dT ho;omega
   refine fm.pick hl (by decide) (by omega) fun S6 fm n6 f6=>?_
   have w6:=w5.fm (by omega) n6 f6
   have wf6:=wf5.fm (by omega) n6 f6
   rw[bin_gtr,onB_v]
   refine gd_of (fun _=>?_) (fun _=>fin S6 _ z true false ⟨#[]⟩ fm wf6 (fun h=>by cases h) w6)
   exact snd S6 _ z true (by omega) fm wf6 hap w6 ho
  ·rw[shift_p,ld1_p fm.co rfl rfl,lenS_aL,bin_gtr,onB_v]
   refine gd_of (fun ho=>?_) (fun ho=>fin S2 _ .nl false false ⟨#[]⟩ fm wf2 (fun h=>by cases h) (Own.nl _ _ _))
   have ho:0<outs.length:=by have:=dT ho;omega
   refine fm.pick hl (by decide) (by omega) fun S6 fm n6 f6=>?_
   have wf6:=wf2.fm (by omega) n6 f6
   rw[bin_gtr,onB_v]
   refine gd_of (fun _=>?_) (fun _=>fin S6 _ .nl false false ⟨#[]⟩ fm wf6 (fun h=>by cases h) (Own.nl _ _ _))
   exact snd S6 _ .nl false (by omega) fm wf6 (fun _ _ _ _ _ e=>by cases e) (Own.nl _ _ _) ho
 have last4:∀(S':Store) (k:Nat) (zo zb zc:AV) (bads cons:List Int),k≤24→Fm S l S' k [aI inp,pL lats,pL g.ands,zo,zb,zc,.nl,.nl]→Own (S.n+4) S' zo 3 (outs.map fun p=>[aI p])→Own (S.n+4) S' zb 3 (bads.map fun p=>[aI p])→Own (S.n+4) S' zc 3 (cons.map fun p=>[aI p])→
     bads.length≤1→cons.length≤1→(∀ x∈bads,g.lit x=true)→(∀ x∈cons,g.lit x=true)→∀ X,
     callV Pg (pickF S) [.v (.int .i64 4)] S' (fun v S'=>bin .quo 0 v (.v (.int .i64 2)) S' fun v S'=>loopV lv6_3 (vc Pg (c6.at_ [1,1,1,1,1,1,1,1,1,1,1,1,1,1,1,0,1,0,0]) (ms6.drop 4)) 156 (env6_3 (.p (S.n+1) 0 0) (pickF S) (.p (S.n+3) 0 0) (aI (2*g.vars)) v) S'
      (blockK 6 (seqK (vc Pg (c6.at_ [1,1,1,1,1,1,1,1,1,1,1,1,1,1,1,1]) (ms6.drop 4)) (bodyK Pg r6 fun e S'=>∃ r tr,e = .ret r∧Keep S S'∧Cv (S'.frz (newer S.n)) S.n r tr∧∃ c:Ci,tr=c.av∧MadeC c∧c.gr.vars=varsL l∧c.inputs=inp)))) X:=by
  intro S' k zo zb zc bads cons hk fm wo wb wc lb lc hbl hcl X
  refine fm.pick hl (by decide) (by omega) fun S2 fm n2 f2=>?_
  have p4:=pickV_rng hl (k:=k) (n:=4) (by decide)
  generalize pickV l k 4=x4 at *
  have hd:0≤x4.tdiv 2∧x4.tdiv 2≤1:=by rw[Int.tdiv_eq_ediv_of_nonneg p4.1];omega
  rw[bin_quo (by decide) (by omega) (by omega)]
  obtain⟨r0,hr0⟩:=Int.eq_ofNat_of_zero_le hd.1
  rw[hr0]
  exact tail S2 _ zo zb zc bads cons r0 (by omega) (by omega) fm (wo.fm (by omega) n2 f2) (wb.fm (by omega) n2 f2) (wc.fm (by omega) n2 f2) lb lc hbl hcl
 have cons3:∀(S':Store) (k:Nat) (zo zb:AV) (bads:List Int),k≤22→Fm S l S' k [aI inp,pL lats,pL g.ands,zo,zb,.nl,.nl,.nl]→Own (S.n+4) S' zo 3 (outs.map fun p=>[aI p])→Own (S.n+4) S' zb 3 (bads.map fun p=>[aI p])→
     bads.length≤1→(∀ x∈bads,g.lit x=true)→∀ X:AV→Store→Prop,
     callV Pg (pickF S) [.v (.int .i64 3)] S' (fun v S'=>bin .eql 0 v (.v (.int .i64 0)) S' fun v S'=>onB v fun b=>gd b
      (∃ q111:AV,(∀ T:Store,Keep S' T→shift (.p (S.n+3) 0 0) 5 T fun v S=>v=q111∧S=T)∧∃ q113:AV,(∀ T:Store,Keep S' T→ld1 q111 T fun v S=>v=q113∧S=T)∧callV Pg (pickF S) [aI (2*g.vars)] S' (fun v115 S' =>
       (∀ T:Store,Keep S' T→ld1 q111 T fun v S=>v=q113∧S=T)∧(∀ T:Store,Keep S' T→shift (.p (S.n+3) 0 0) 5 T fun v S=>v=q111∧S=T)∧∃ q118:AV,(∀ T:Store,Keep S' T→bslN 3 1 1 [.v (.int .i64 0)] [(0,v115)] T fun v S=>v=q118∧S=T)∧appS 3 1 8 q113 q118 S' fun v120 S' =>
       ∃ q121:AV,(∀ T:Store,Keep S' T→shift (.p (S.n+3) 0 0) 5 T fun v S=>v=q121∧S=T)∧stN 1 q121 v120 S' fun _ S'=>callV Pg (pickF S) [.v (.int .i64 4)] S' (fun v S'=>bin .quo 0 v (.v (.int .i64 2)) S' fun v S'=>loopV lv6_3 (vc Pg (c6.at_ [1,1,1,1,1,1,1,1,1,1,1,1,1,1,1,0,1,0,0]) (ms6.drop 4)) 156 (env6_3 (.p (S.n+1) 0 0) (pickF S) (.p (S.n+3) 0 0) (aI (2*g.vars)) v) S'
      (blockK 6 (seqK (vc Pg (c6.at_ [1,1,1,1,1,1,1,1,1,1,1,1,1,1,1,1]) (ms6.drop 4)) (bodyK Pg r6 fun e S'=>∃ r tr,e = .ret r∧Keep S S'∧Cv (S'.frz (newer S.n)) S.n r tr∧∃ c:Ci,tr=c.av∧MadeC c∧c.gr.vars=varsL l∧c.inputs=inp)))) X) (fun _ _=>False))
      (callV Pg (pickF S) [.v (.int .i64 4)] S' (fun v S'=>bin .quo 0 v (.v (.int .i64 2)) S' fun v S'=>loopV lv6_3 (vc Pg (c6.at_ [1,1,1,1,1,1,1,1,1,1,1,1,1,1,1,0,1,0,0]) (ms6.drop 4)) 156 (env6_3 (.p (S.n+1) 0 0) (pickF S) (.p (S.n+3) 0 0) (aI (2*g.vars)) v) S'
      (blockK 6 (seqK (vc Pg (c6.at_ [1,1,1,1,1,1,1,1,1,1,1,1,1,1,1,1]) (ms6.drop 4)) (bodyK Pg r6 fun e S'=>∃ r tr,e = .ret r∧Keep S S'∧Cv (S'.frz (newer S.n)) S.n r tr∧∃ c:Ci,tr=c.av∧MadeC c∧c.gr.vars=varsL l∧c.inputs=inp)))) X)) X:=by
  intro S' k zo zb bads hk fm wo wb lb hbl X
  refine fm.pick hl (by decide) (by omega) fun S2 fm n2 f2=>?_
  have wo2:=wo.fm (by omega) n2 f2
  have wb2:=wb.fm (by omega) n2 f2
  rw[bin_eql,onB_v]
  refine gd_of (fun _=>?_) (fun _=>last4 S2 _ zo zb .nl bads [] (by omega) fm wo2 wb2 (Own.nl _ _ _) lb (by simp) hbl (fun _ h=>by cases h) X)
  refine⟨_,fun T hT=>by rw[shift_p];exact⟨rfl,rfl⟩,.nl,fun T hT=>by rw[ld1_p (fm.kT hT) rfl rfl];exact⟨rfl,rfl⟩,?_⟩
  refine fm.pick hl hvp (by omega) fun S3 fm n3 f3=>?_
  have pn:=plit (pickV_rng hl (k:=k+1) hvp)
  generalize pickV l (k+1) (2*g.vars)=n at *
  have hn1:∀ x∈[n],g.lit x=true:=fun x hx=>by rw[List.mem_singleton.1 hx];exact pn
  have wo3:=wo2.fm (by omega) n3 f3
  have wb3:=wb2.fm (by omega) n3 f3
  refine⟨fun T hT=>by rw[ld1_p (fm.kT hT) rfl rfl];exact⟨rfl,rfl⟩,fun T hT=>by rw[shift_p];exact⟨rfl,rfl⟩,_,fun T hT=>bsl1 rfl (fun _ h=>by cases h) ⟨rfl,rfl⟩,?_⟩
  refine(Own.nl (S.n+4) S3 3).app (by have:=fm.n;omega) (c:=[aI n]) rfl (by simp) (fun z S4 w4 b4 hz=>?_) rfl
  have n4:=b4.1
  have hn3:=fm.n
  have o4:∀ x,x<S3.n→S4.obj x=S3.obj x:=fun x hx=>b4.2 x (by omega) (fun b m e=>by cases e)
  refine⟨_,fun T hT=>by rw[shift_p];exact⟨rfl,rfl⟩,?_⟩
  replace fm:=fm.old n4 fun x hx=>o4 x (by omega)
  have wo4:=wo3.but b4 (fun _ _ _ _ _ e=>by cases e)
  have wb4:=wb3.but b4 (fun _ _ _ _ _ e=>by cases e)
  refine fm.st (by simp) (own_one w4) fun S5 fm n5 f5=>?_
  exact last4 S5 _ zo zb z bads [n] (by omega) fm (wo4.fm (by omega) n5 f5) (wb4.fm (by omega) n5 f5) (w4.fm (by omega) n5 f5) lb (by simp) hbl hn1 X
 refine fm.pick hl (by decide) (by omega) fun S2 fm n2 f2=>?_
 have wo2:=wo.fm (by omega) n2 f2
 rw[bin_eql,onB_v]
 refine gd_of (fun _=>?_) (fun _=>cons3 S2 _ zo .nl [] (by omega) fm wo2 (Own.nl _ _ _) (by simp) (fun _ h=>by cases h) _)
 refine⟨_,fun T hT=>by rw[shift_p];exact⟨rfl,rfl⟩,.nl,fun T hT=>by rw[ld1_p (fm.kT hT) rfl rfl];exact⟨rfl,rfl⟩,?_⟩
 refine fm.pick hl hvp (by omega) fun S3 fm n3 f3=>?_
 have pn:=plit (pickV_rng hl (k:=k+1) hvp)
 generalize pickV l (k+1) (2*g.vars)=n at *
 have hn1:∀ x∈[n],g.lit x=true:=fun x hx=>by rw[List.mem_singleton.1 hx];exact pn
 have wo3:=wo2.fm (by omega) n3 f3
 refine⟨fun T hT=>by rw[ld1_p (fm.kT hT) rfl rfl];exact⟨rfl,rfl⟩,fun T hT=>by rw[shift_p];exact⟨rfl,rfl⟩,_,fun T hT=>bsl1 rfl (fun _ h=>by cases h) ⟨rfl,rfl⟩,?_⟩
 refine(Own.nl (S.n+4) S3 3).app (by have:=fm.n;omega) (c:=[aI n]) rfl (by simp) (fun z S4 w4 b4 hz=>?_) rfl
 have n4:=b4.1
 have hn3:=fm.n
 have o4:∀ x,x<S3.n→S4.obj x=S3.obj x:=fun x hx=>b4.2 x (by omega) (fun b m e=>by cases e)
 refine⟨_,fun T hT=>by rw[shift_p];exact⟨rfl,rfl⟩,?_⟩
 replace fm:=fm.old n4 fun x hx=>o4 x (by omega)
 have wo4:=wo3.but b4 (fun _ _ _ _ _ e=>by cases e)
 refine fm.st (by simp) (own_one w4) fun S5 fm n5 f5=>?_
 exact cons3 S5 _ zo z [n] (by omega) fm (wo4.fm (by omega) n5 f5) (w4.fm (by omega) n5 f5) (by simp) hn1 _
theorem made6{l:List Int}(hl:∀ x∈l,0≤x∧x<65536){S:Store}:ACalls Pg 6 [aL aW16 l] S (fun e S'=>∃ tr,e = .ret tr∧S'=S∧∃ c,tr=c.av∧MadeC c):=
 (made26 hl).mono fun e S' ⟨tr,h1,h2,c,h3,h4,_⟩=>⟨tr,h1,h2,c,h3,h4⟩
theorem treeN(l:List Na):Tree (nL l):=Tree.l fun c hc u hu=>by
 obtain⟨a,ha,rfl⟩:=List.mem_map.1 hc
 unfold Na.row at hu
 simp only[List.mem_cons,List.not_mem_nil,or_false]at hu
 rcases hu with rfl|rfl|rfl<;>exact Tree.v _
section
variable {H:Type} {enc:TypeId × Value→H} {w:World} {sp:Nat→Bool} {held:Bool}
theorem i64_wf{n:Int}(h:(Lit.int .i64 n).wf=true):i64R n:=by
 simp[Lit.wf,IntKind.min,IntKind.max,IntKind.bits,IntKind.signed]at h
 exact⟨by omega,by omega⟩
theorem u8_wf{n:Int}(h:(Lit.int .u8 n).wf=true):0≤n∧n<256:=by
 simp[Lit.wf,IntKind.min,IntKind.max,IntKind.bits,IntKind.signed]at h
 omega
theorem u16_wf{n:Int}(h:(Lit.int .u16 n).wf=true):0≤n∧n<65536:=by
 simp[Lit.wf,IntKind.min,IntKind.max,IntKind.bits,IntKind.signed]at h
 omega
theorem opI:Opens enc Pg w sp held 3 1 (fun n:Int=>[aI n]) (fun n=>(Lit.int .i64 n).wf=true):=opens_int Tryd.underlying3
theorem opU:Opens enc Pg w sp held 5 1 (fun n:Int=>[AV.v (.int .u8 n)]) (fun n=>(Lit.int .u8 n).wf=true):=opens_int Tryd.underlying5
theorem opV:Opens enc Pg w sp held 45 1 (fun n:Int=>[aW16 n]) (fun n=>(Lit.int .u16 n).wf=true):=opens_int Tryd.underlying45
theorem opVs:Opens enc Pg w sp held 22 1 (fun l:List Int=>[aL aW16 l]) (fun l=>l.length≤maxLen∧∀ a∈l,(Lit.int .u16 a).wf=true):=opens_slice Tryd.underlying22 (by kernel_rfl) (by decide) opV
end
theorem nil4{S:Store}{K:AV→Store→Prop}:nilV .neq 4 (.v .nilIface) S K=K (aB false) S:=rfl
theorem nilE{t:Nat}{x:AV}{S:Store}{K:AV→Store→Prop}:nilV .neq 4 (.i t x) S K=K (aB true) S:=rfl
theorem ans19{s:ByteArray}(hs:s.size≤281474976710656):Ans Pg 19 [.v (.string s)] (aI (numR s.data.toList)):=by
 intro S
 rw[←num_eq]
 refine calls19 ?_
 unfold m19
 refine callF_ans (ans31 hs) ?_
 unfold atoiR numA
 have hsz:s.data.toList.length=s.size:=Array.length_toList
 match h:Lib.atoiAll s.data.toList with
 |.syntax =>
  show extr _ _ _ _
  rw[extr0,extr1,nilE,onB_v,gd_T rfl]
  exact⟨rfl,rfl⟩
 |.range =>
  show extr _ _ _ _
  rw[extr0,extr1,nilE,onB_v,gd_T rfl]
  exact⟨rfl,rfl⟩
 |.ok v =>
  show extr _ _ _ _
  obtain⟨v1,v2⟩:=Lib.atoiAll_bounds h
  rw[extr0,extr1,nil4,onB_v,gd_F rfl,bin_lss,onB_v,hsz]
  refine gd_of (fun hv=>⟨by show AEnd.ret _=AEnd.ret (aI (if v<0 then -1 else _));rw[if_pos (dT hv)],rfl⟩) (fun hv=>?_)
  have hv:=dF hv
  rw[lenStr_b,bin_gtr,onB_v]
  refine gd_of (fun h6=>⟨by show AEnd.ret _=AEnd.ret (aI (if v<0 then -1 else if 6<s.size then -1 else _));rw[if_neg hv,if_pos (by have:=dT h6;omega)],rfl⟩) (fun h6=>?_)
  have h6:=dF h6
  refine callF_ans (ans32 (n:=v) ⟨by omega,by omega⟩) ?_
  rw[bin_neqS,onB_v]
  have he:((⟨(Lib.itoa v).toArray⟩:ByteArray)=s)↔Lib.itoa v=s.data.toList:=by
   constructor
   ·intro e;rw[←e]
   ·intro e;rw[e]
  refine gd_of (fun hn=>⟨?_,rfl⟩) (fun hn=>⟨?_,rfl⟩)
  ·show AEnd.ret _=AEnd.ret (aI (if v<0 then -1 else if 6<s.size then -1 else if Lib.itoa v≠s.data.toList then -1 else v))
   rw[if_neg hv,if_neg (by omega),if_pos (fun e=>by rw[he.2 e]at hn;simp at hn)]
  ·show AEnd.ret _=AEnd.ret (aI (if v<0 then -1 else if 6<s.size then -1 else if Lib.itoa v≠s.data.toList then -1 else v))
   rw[if_neg hv,if_neg (by omega),if_neg (fun e=>e (he.1 (by simpa using hn)))]
def Ci.sig(c:Ci)(k x:Int):Int:=
 if x<0 then -1 else if c.many k≤x then -1 else if k=105 then 2*(x+1)else if k=108 then 2*(c.inputs+x+1)else if k=111 then c.outs.getD x.toNat 0 else if k=98 then c.bads.getD x.toNat 0 else if k=99 then c.cons.getD x.toNat 0 else c.fair.getD x.toNat 0
theorem sig_tail{S1:Store}{id t:Nat}{c:Ci}{k x:Int}(hc:c.ok)(hr:c.right=true)(o1:S1.obj id=some (.cells t [c.cells] true))(h0:¬ x<0)(h1:¬ c.many k≤x){Q:AEnd→Store→Prop}(hQ:Q (.ret (aI (c.sig k x))) S1):
    bin .eql 0 (.v (.int .u8 k)) (.v (.int .u8 105)) S1 fun v S=>onB v fun b=>gd b (bin .add 0 (aI x) (.v (.int .i64 1)) S fun v S=>bin .mul 0 (.v (.int .i64 2)) v S fun v S=>Q (.ret v) S)
     (bin .eql 0 (.v (.int .u8 k)) (.v (.int .u8 108)) S fun v S=>onB v fun b=>gd b (shift (.p id 0 0) 0 S fun v S=>ld1 v S fun v S=>bin .add 0 v (aI x) S fun v S=>bin .add 0 v (.v (.int .i64 1)) S fun v S=>bin .mul 0 (.v (.int .i64 2)) v S fun v S=>Q (.ret v) S)
     (bin .eql 0 (.v (.int .u8 k)) (.v (.int .u8 111)) S fun v S=>onB v fun b=>gd b (shift (.p id 0 0) 3 S fun v S=>ld1 v S fun v S=>ixS 3 1 v (aI x) S fun v S=>ld1 v S fun v S=>Q (.ret v) S)
     (bin .eql 0 (.v (.int .u8 k)) (.v (.int .u8 98)) S fun v S=>onB v fun b=>gd b (shift (.p id 0 0) 4 S fun v S=>ld1 v S fun v S=>ixS 3 1 v (aI x) S fun v S=>ld1 v S fun v S=>Q (.ret v) S)
     (bin .eql 0 (.v (.int .u8 k)) (.v (.int .u8 99)) S fun v S=>onB v fun b=>gd b (shift (.p id 0 0) 5 S fun v S=>ld1 v S fun v S=>ixS 3 1 v (aI x) S fun v S=>ld1 v S fun v S=>Q (.ret v) S)
     (shift (.p id 0 0) 6 S fun v S=>ld1 v S fun v S=>ixS 3 1 v (aI x) S fun v S=>ld1 v S fun v S=>Q (.ret v) S))))):=by
 obtain⟨hin,hla,ho,hb,hcn,hf,_⟩:=right_c.1 hr
 obtain⟨n,rfl⟩:=Int.eq_ofNat_of_zero_le (show 0≤x by omega)
 have hs:c.sig k n=if k=105 then 2*((n:Int)+1)else if k=108 then 2*(c.inputs+n+1)else if k=111 then c.outs.getD n 0 else if k=98 then c.bads.getD n 0 else if k=99 then c.cons.getD n 0 else c.fair.getD n 0:=by
  unfold Ci.sig
  rw[if_neg h0,if_neg h1]
  rfl
 rw[hs]at hQ
 have hm:(n:Int)<c.many k:=by omega
 unfold Ci.many at hm
 have getL:∀{l:List Int} (h:n<l.length),l.getD n 0=l[n]:=fun h=>by rw[List.getD_eq_getElem?_getD,List.getElem?_eq_getElem h];rfl
 rw[bin_eql,onB_v]
 refine gd_of (fun h=>?_) (fun h=>?_)
 ·have h:=dT h
  rw[if_pos h]at hQ hm
  rwa [bin_add (by omega) (by omega),bin_mul (by omega) (by omega)]
 have h:=dF h
 rw[if_neg h]at hQ hm
 rw[bin_eql,onB_v]
 refine gd_of (fun h=>?_) (fun h=>?_)
 ·have h:=dT h
  rw[if_pos h]at hQ hm
  rwa [shift_p,ld1_p (u:=aI c.inputs) o1 rfl rfl,bin_add (by omega) (by omega),bin_add (by omega) (by omega),bin_mul (by omega) (by omega)]
 have h:=dF h
 rw[if_neg h]at hQ hm
 rw[bin_eql,onB_v]
 refine gd_of (fun h=>?_) (fun h=>?_)
 ·have h:=dT h
  rw[if_pos h]at hQ hm
  have hl:n<c.outs.length:=by omega
  rw[getL hl]at hQ
  rwa [shift_p,ld1_p (u:=aL aI c.outs) o1 rfl rfl,ixS_aL hl,ld1_q]
 have h:=dF h
 rw[if_neg h]at hQ hm
 rw[bin_eql,onB_v]
 refine gd_of (fun h=>?_) (fun h=>?_)
 ·have h:=dT h
  rw[if_pos h]at hQ hm
  have hl:n<c.bads.length:=by omega
  rw[getL hl]at hQ
  rwa [shift_p,ld1_p (u:=aL aI c.bads) o1 rfl rfl,ixS_aL hl,ld1_q]
 have h:=dF h
 rw[if_neg h]at hQ hm
 rw[bin_eql,onB_v]
 refine gd_of (fun h=>?_) (fun h=>?_)
 ·have h:=dT h
  rw[if_pos h]at hQ hm
  have hl:n<c.cons.length:=by omega
  rw[getL hl]at hQ
  rwa [shift_p,ld1_p (u:=aL aI c.cons) o1 rfl rfl,ixS_aL hl,ld1_q]
 have h:=dF h
 rw[if_neg h]at hQ hm
 have hl:n<c.fair.length:=by
  split at hm<;>omega
 rw[getL hl]at hQ
 rwa [shift_p,ld1_p (u:=aL aI c.fair) o1 rfl rfl,ixS_aL hl,ld1_q]
theorem ans16{c:Ci}(hc:c.ok)(hr:c.right=true){k x:Int}(hk0:0≤k)(hk1:k<256):Ans Pg 16 [c.av,.v (.int .u8 k),aI x] (aI (c.sig k x)):=by
 intro S
 refine ACalls.ans_v (calls16 ?_)
 unfold m16
 refine boxA_of rfl fun S1 k1 n1 o1=>?_
 rw[bin_lss,onB_v]
 refine gd_of (fun h=>⟨by unfold Ci.sig;rw[if_pos (dT h)],k1⟩) (fun h=>?_)
 have h:=dF h
 rw[ldN_p (n:=8) o1 rfl]
 refine callF_ans (ans22 c) ?_
 rw[convI_v,wrap32 hk0 hk1,lkM_mt (keyI _ _)]
 show bin .geq 0 (aI x) ((lkp c.manyE (.i k)).getD (aI 0)) S1 _
 rw[lkp_many,bin_geq,onB_v]
 refine gd_of (fun h2=>⟨by unfold Ci.sig;rw[if_neg h,if_pos (dT h2)],k1⟩) (fun h2=>?_)
 refine sig_tail hc hr o1 h (dF h2) (Q:=fun e S'=>e = .ret (aI (c.sig k x))∧Keep S S') ?_
 exact⟨rfl,k1⟩
def sigB (c:Ci) (k x:Int):Int:=if c.right=true then c.sig k x else -1
theorem ans7{c:Ci}(hc:c.ok){k x:Int}(hk0:0≤k)(hk1:k<256):Ans Pg 7 [c.av,.v (.int .u8 k),aI x] (aI (sigB c k x)):=by
 intro S
 refine ACalls.ans_v (calls7 ?_)
 unfold m7
 refine boxA_of rfl fun S1 k1 n1 o1=>?_
 rw[ldN_p (n:=8) o1 rfl]
 refine callF_ans (ans11 hc) ?_
 rw[un_not,onB_v]
 refine gd_of (fun h=>⟨by unfold sigB;rw[if_neg (by simpa using h)],k1⟩) (fun h=>?_)
 have hr:c.right=true:=by simpa using h
 rw[ldN_p (n:=8) o1 rfl]
 refine callF_ans (ans16 hc hr hk0 hk1) ?_
 exact⟨by unfold sigB;rw[if_pos hr],k1⟩
theorem at17{l:List Na}(hl:l.length≤9223372036854775807){g:Na→Bool}{fn:FuncId}{fs cs:List AV}{S:Store}
    (hf:∀ x,x∈l→AnsAt Pg fn (fs ++ [.a x.row]++cs) S (aB (g x))):AnsAt Pg 17 [nL l,.f (.func fn) fs cs] S (aI (idxOf (l.findIdx? g))):=by
 refine calls17 ?_
 unfold m17
 rw[lenS_nL]
 refine loop17_0 (fun y S'=>S'=S∧∃ i:Nat,y=aI i∧i≤l.length∧∀ k (hk:k<l.length),k<i→g l[k]=false) (fun y _=>l.length - ((intA y).getD 0).toNat) ⟨rfl,0,rfl,Nat.zero_le _,fun k _ h=>absurd h (Nat.not_lt_zero _)⟩ ?_
 rintro _ _ ⟨rfl,i,rfl,hi,hk⟩ KE hKE
 unfold b17_0
 rw[bin_lss,onB_v]
 refine gd_of (fun h=>?_) (fun h=>?_)
 ·have hlt:i<l.length:=by simpa using h
  rw[ixS_nL hlt,ldN_q (c:=l[i].row) (n:=3) rfl]
  refine callV_at (hf _ (List.getElem_mem hlt)) ?_
  rw[onB_v]
  refine gd_of (fun hg=>⟨?_,rfl⟩) (fun hg=>?_)
  ·rw[find_at hlt hg (fun k hk'=>hk k _ hk')];rfl
  ·rw[bin_add (by omega) (by omega)]
   refine hKE _ _ ⟨rfl,i+1,rfl,hlt,fun k hk1 hk2=>?_⟩ ?_
   ·by_cases e:k=i
    ·subst e;exact hg
    ·exact hk k hk1 (by omega)
   ·simp[intA];omega
 ·have:i=l.length:=by have:=dF h;omega
  subst this
  refine⟨?_,rfl⟩
  rw[find_none (fun k hk'=>hk k hk' hk')]
  rfl
theorem at18{S:Store}{x:Na}{s:ByteArray}{id t:Nat}(h:S.obj id=some (.cells t [[.v (.string s)]] true))(hid:id<S.n):AnsAt Pg 18 [.a x.row,.p id 0 0] S (aB (decide (x.text=s))):=by
 refine ACalls.ans_v (calls18 ?_)
 unfold m18
 refine boxA_of rfl fun S1 k1 n1 o1=>?_
 rw[shift_p,ld1_p (u:=.v (.string x.text)) o1 rfl rfl,ld1_p ((k1.2 _ hid).trans h) rfl rfl,bin_eqlS]
 exact⟨rfl,k1⟩
theorem slc1{b:ByteArray}(h:1≤b.size){S:Store}{K:AV→Store→Prop}(k:K (.v (.string (b.extract 1 b.size))) S):slcStr (.v (.string b)) (some (.v (.int .i64 1))) none S K:=by
 have e:(0≤(1:Int)∧(1:Int)≤(b.size:Int)∧(b.size:Int)≤b.size)∧K (.v (.string (b.extract (1:Int).toNat (b.size:Int).toNat))) S:=⟨⟨by decide,by omega,by omega⟩,k⟩
 exact⟨1,rfl,b.size,rfl,e⟩
theorem extract_list{b:ByteArray}(h:1≤b.size):(b.extract 1 b.size).data.toList=b.data.toList.drop 1∧(b.extract 1 b.size).size=b.size - 1:=by
 refine⟨?_,?_⟩
 ·rw[ByteArray.data_extract,Array.toList_extract]
  show(b.data.toList.drop 1).take (b.size - 1)=_
  exact List.take_of_length_le (by rw[List.length_drop,Array.length_toList];exact Nat.le_refl _)
 ·rw[ByteArray.size_extract];omega
def findB (c:Ci) (s:ByteArray):Int:=
 if c.right=true then
  match c.names.find? fun n=>decide (n.text=s)with
  |some n=>c.sig n.kind n.pos
  |none=>if s.size<2 then -1 else c.sig (s[0]!).toNat (numR (s.data.toList.drop 1))
 else -1
theorem names_word{c:Ci}(hr:c.right=true):∀ x∈c.names,0<x.text.size:=by
 obtain⟨_,_,_,_,_,_,_,_,_,_,_,_,hn⟩:=right_c.1 hr
 simp only[namesB,decide_eq_true_eq]at hn
 intro x hx
 obtain⟨i,hi,rfl⟩:=List.getElem_of_mem hx
 have h:=(hn.ok i hi hi).1
 simp only[wordB,Bool.and_eq_true,decide_eq_true_eq]at h
 exact h.2.1
theorem find_hit{c:Ci}{s:ByteArray}(hr:c.right=true){i:Nat}(hi:i<c.names.length)(h:c.names[i].text=s)(hno:∀ k (hk:k<c.names.length),k<i→c.names[k].text≠s):findB c s=c.sig c.names[i].kind c.names[i].pos:=by
 unfold findB
 rw[if_pos hr,List.find?_eq_some_iff_getElem.2 ⟨by simpa using h,i,hi,rfl,fun j hj=>by simpa using hno j _ hj⟩]
theorem find_miss{c:Ci}{s:ByteArray}(hr:c.right=true)(hno:∀ k (hk:k<c.names.length),c.names[k].text≠s):findB c s=if s.size<2 then -1 else c.sig (s[0]!).toNat (numR (s.data.toList.drop 1)):=by
 unfold findB
 rw[if_pos hr,List.find?_eq_none.2 fun x hx=>by
  obtain⟨i,hi,rfl⟩:=List.getElem_of_mem hx
  simpa using hno i hi]
theorem u8_lt(b:UInt8):(0:Int)≤b.toNat∧(b.toNat:Int)<256:=⟨by omega,by have:=b.toNat_lt;omega⟩
theorem sig_neg{c:Ci}{k:Int}:c.sig k (-1) = -1:=by unfold Ci.sig;rw[if_pos (by decide)]
theorem ans8{c:Ci}(hc:c.ok){s:ByteArray}(hs:s.size≤281474976710656):Ans Pg 8 [c.av,.v (.string s)] (aI (findB c s)):=by
 intro S
 refine ACalls.ans_v (calls8 ?_)
 unfold m8
 refine boxA_of rfl fun S1 k1 n1 o1=>?_
 refine box1_of rfl fun S2 k2 n2 o2=>?_
 have p1:=(k2.2 _ (by omega)).trans o1
 have kk:=k1.trans k2
 rw[ldN_p (n:=8) p1 rfl]
 refine callF_ans (ans11 hc) ?_
 rw[un_not,onB_v]
 refine gd_of (fun h=>⟨by unfold findB;rw[if_neg (by simpa using h)],kk⟩) (fun h=>?_)
 have hr:c.right=true:=by simpa using h
 have hw:=names_word hr
 rw[ld1_p o2 rfl rfl,bin_eqlS,onB_v]
 refine gd_of (fun h=>⟨?_,kk⟩) (fun h=>?_)
 ·have h:s=⟨#[]⟩:=dT h
  subst h
  rw[find_miss hr (fun k hk e=>by have:=hw _ (List.getElem_mem hk);rw[e]at this;exact absurd this (by decide)),if_pos (by decide)]
 have h1:1≤s.size:=by
  have h:=dF h
  rcases Nat.eq_zero_or_pos s.size with e|e
  ·exact absurd (byteArray_ext (Array.eq_empty_of_size_eq_zero e)) h
  ·exact e
 rw[shift_p,ld1_p (u:=nL c.names) p1 rfl rfl]
 refine callF_at (at17 (by have:=hc.nlen;omega) (g:=fun x=>decide (x.text=s)) (fs:=[]) (cs:=[.p S1.n 0 0]) fun x _=>at18 o2 (by omega)) ?_
 rw[bin_geq,onB_v]
 have hq:∀{v:Int},v=findB c s→(AEnd.ret (aI v) = .ret (aI (findB c s))∧Keep S S2):=fun e=>⟨by rw[e],kk⟩
 cases hf:c.names.findIdx? fun x=>decide (x.text=s)with
 |some i =>
  obtain⟨hi,hy,hn⟩:=List.findIdx?_eq_some_iff_getElem.1 hf
  have hit:=find_hit hr hi (dT hy) (fun k hk hki=>by have:=hn k hki;simpa using this)
  have nok:=hc.names _ (List.getElem_mem hi)
  refine gd_of (fun _=>?_) (fun h=>by have:=dF h;simp only[idxOf]at this;omega)
  show ∃ q:AV,_
  refine⟨_,by rw[ldN_p (n:=8) p1 rfl];exact⟨rfl,rfl⟩,?_⟩
  refine⟨_,by rw[shift_p];exact⟨rfl,rfl⟩,?_⟩
  refine⟨_,by rw[ld1_p (u:=nL c.names) p1 rfl rfl];exact⟨rfl,rfl⟩,?_⟩
  refine⟨_,by rw[show idxOf (some i)=(i:Int)from rfl,ixS_nL hi];exact⟨rfl,rfl⟩,?_⟩
  refine⟨_,⟨rfl,rfl⟩,?_⟩
  refine⟨_,by rw[ld1_qj (u:=.v (.int .u8 c.names[i].kind)) rfl];exact⟨rfl,rfl⟩,?_⟩
  refine⟨_,by rw[shift_p];exact⟨rfl,rfl⟩,?_⟩
  refine⟨_,by rw[ld1_p (u:=nL c.names) p1 rfl rfl];exact⟨rfl,rfl⟩,?_⟩
  refine⟨_,by rw[show idxOf (some i)=(i:Int)from rfl,ixS_nL hi];exact⟨rfl,rfl⟩,?_⟩
  refine⟨_,⟨rfl,rfl⟩,?_⟩
  refine⟨_,by rw[ld1_qj (u:=aI c.names[i].pos) rfl];exact⟨rfl,rfl⟩,?_⟩
  refine⟨_,callF_ans (ans16 hc hr nok.1 nok.2.1) ⟨rfl,rfl⟩,?_⟩
  exact hq hit.symm
 |none =>
  have hn:=List.findIdx?_eq_none_iff.1 hf
  have miss:=find_miss hr (s:=s) (fun k hk e=>by have:=hn _ (List.getElem_mem hk);simp[e]at this)
  refine gd_of (fun h=>by have:=dT h;simp only[idxOf]at this;omega) (fun _=>?_)
  have h0:0<s.size:=by omega
  have hix:∀(S:Store) (K:AV→Store→Prop),ixStr (.v (.string s)) (.v (.int .i64 0)) S K=K (.v (.int .u8 (s[0]).toNat)) S:=fun S K=>ixStr_b (i:=0) h0
  obtain⟨e1,e2⟩:=extract_list h1
  show ∃ q:AV,_
  refine⟨_,by rw[ldN_p (n:=8) p1 rfl];exact⟨rfl,rfl⟩,?_⟩
  refine⟨_,by rw[ld1_p o2 rfl rfl];exact⟨rfl,rfl⟩,?_⟩
  refine⟨_,by rw[hix];exact⟨rfl,rfl⟩,?_⟩
  refine⟨_,by rw[ld1_p o2 rfl rfl];exact⟨rfl,rfl⟩,?_⟩
  refine⟨_,⟨rfl,slc1 h1 ⟨rfl,rfl⟩⟩,?_⟩
  refine⟨_,callF_ans (ans19 (by omega)) ⟨rfl,rfl⟩,?_⟩
  refine⟨_,callF_ans (ans16 hc hr (u8_lt _).1 (u8_lt _).2) ⟨rfl,rfl⟩,?_⟩
  refine hq ?_
  rw[miss,e1]
  by_cases h2:s.size<2
  ·rw[if_pos h2]
   have:s.data.toList.drop 1 = []:=List.drop_eq_nil_of_le (by rw[Array.length_toList];exact(by omega:s.size≤1))
   rw[this]
   exact sig_neg
  ·rw[if_neg h2,getElem!_pos s 0 h0]
section
set_option maxRecDepth 100000
def c20:Code:=(Tryd.f20.body).getD .skip
def r20:List ResultVar:=Tryd.f20.results.toList
def env20_0(y1 y5 y6 y22 y23:AV):List AV:=[y1,y5,y6,y22,y23]
def lv20_0:List Nat:=[1,5,6,22,23]
def ms20:List (List Nat):=[lv20_0,[]]
def m20(x0 x1:AV)(S:Store)(Q:PoT):Prop:=
 boxN 29 8 x0 S fun c S=>ldN 8 c S fun d S=>callF Pg 12 [d] S Q fun e S=>boxN 43 2 (.a [.v (.int .i64 0),.nl]) S fun f S=>stN 2 f e S fun g S=>ldN 8 c S fun h S=>callF Pg 11 [h] S Q fun i S=>un .not i S fun k S=>onB k fun b=>gd b (Q (.ret .nl) S) (shift f 0 S fun l S=>ld1 l S fun m S=>bin .gtr 0 m (.v (.int .i64 60)) S fun n S=>onB n fun b=>gd b (Q (.ret .nl) S) (shift f 0 S fun o S=>ld1 o S fun p S=>mkN 4 1 [.v (.bool false)] p p S fun q S=>lenS q S fun r S=>loopV lv20_0 (vc Pg (c20.at_ [1,1,1,1,0,1,0,0]) (ms20.drop 1)) 38 (env20_0 x1 f q r (.v (.int .i64 0))) S (blockK 0 (seqK (vc Pg (c20.at_ [1,1,1,1,1]) (ms20.drop 1)) (bodyK Pg r20 Q)))))
theorem calls20{x0 x1:AV}{S:Store}{Q:PoT}(h:m20 x0 x1 S Q):ACalls Pg 20 [x0,x1] S Q:=
 calls_of_vc (fn:=Tryd.f20) (c:=c20) (n:=38) Tryd.func20 (by kernel_rfl) (by kernel_rfl) (by kernel_rfl) ms20 (Eq.mpr (by kernel_rfl) h)
def b20_0(y1 y5 y6 y22 y23:AV)(S:Store)(KE0:KeT)(Q:PoT):Prop:=
 bin .lss 0 y23 y22 S fun a S=>onB a fun b=>gd b (bin .shr 0 y1 y23 S fun c S=>bin .and 0 c (.v (.int .i64 1)) S fun d S=>bin .eql 0 d (.v (.int .i64 1)) S fun e S=>ixS 4 1 y6 y23 S fun f S=>stN 1 f e S fun g S=>bin .add 0 y23 (.v (.int .i64 1)) S fun h S=>KE0 38 (env20_0 y1 y5 y6 y22 h) S) (ldN 2 y5 S fun i S=>callF Pg 33 [i,y6] S Q fun k S=>Q (.ret k) S)
theorem b20_0_eq(y1 y5 y6 y22 y23:AV)(S:Store)(KE0:KeT)(Q:PoT):vc Pg (c20.at_ [1,1,1,1,0,1,0,0]) (ms20.drop 1) (mkE 38 lv20_0 (env20_0 y1 y5 y6 y22 y23)) S (thenK (fgK lv20_0 KE0) (blockK 0 (seqK (vc Pg (c20.at_ [1,1,1,1,1]) (ms20.drop 1)) (bodyK Pg r20 Q))))=b20_0 y1 y5 y6 y22 y23 S KE0 Q:=by kernel_rfl
theorem loop20_0{y1 y5 y6 y22:AV}{y230:AV}{S:Store}{Q:PoT}(I:AV→Store→Prop)(μ:AV→Store→Nat)(h0:I y230 S)
    (hr:∀(y23:AV) (S:Store),I y23 S→∀ KE0:KeT,(∀(y23':AV) (S':Store),I y23' S'→μ y23' S'<μ y23 S→KE0 38 (env20_0 y1 y5 y6 y22 y23') S')→b20_0 y1 y5 y6 y22 y23 S KE0 Q):
    loopV lv20_0 (vc Pg (c20.at_ [1,1,1,1,0,1,0,0]) (ms20.drop 1)) 38 (env20_0 y1 y5 y6 y22 y230) S (blockK 0 (seqK (vc Pg (c20.at_ [1,1,1,1,1]) (ms20.drop 1)) (bodyK Pg r20 Q))):=by
 refine⟨fun n e S=>n=38∧∃ y23:AV,e=(env20_0 y1 y5 y6 y22 y23)∧I y23 S,fun _ e S=>μ (e.getD 4 .j) S,?_,?_⟩
 ·exact⟨_,_,Wk.refl _ _,rfl,_,rfl,h0⟩
 ·rintro _ e S ⟨rfl,y23,rfl,hI⟩
  exact(b20_0_eq _ _ _ _ _ _ _ _).mpr (hr y23 S hI _ (fun y23' S' hI' hm=>⟨_,_,Wk.refl _ _,⟨rfl,_,rfl,hI'⟩,hm⟩))
def c21:Code:=(Tryd.f21.body).getD .skip
def ms21:List (List Nat):=[[]]
def m21(x0 x1:AV)(S:Store)(Q:PoT):Prop:=
 bin .geq 0 x1 (.v (.int .i64 0)) S fun a S=>onB a fun b=>gd b (bin .quo 0 x1 (.v (.int .i64 2)) S fun c S=>lenS x0 S fun d S=>bin .lss 0 c d S fun e S=>onB e fun b=>gd b (bin .quo 0 x1 (.v (.int .i64 2)) S fun f S=>ixS 4 1 x0 f S fun g S=>ld1 g S fun h S=>bin .and 0 x1 (.v (.int .i64 1)) S fun i S=>bin .eql 0 i (.v (.int .i64 1)) S fun k S=>bin .neq 1 h k S fun l S=>Q (.ret l) S) (Q (.ret (.v (.bool false))) S)) (Q (.ret (.v (.bool false))) S)
theorem calls21{x0 x1:AV}{S:Store}{Q:PoT}(h:m21 x0 x1 S Q):ACalls Pg 21 [x0,x1] S Q:=
 calls_of_vc (fn:=Tryd.f21) (c:=c21) (n:=25) Tryd.func21 (by kernel_rfl) (by kernel_rfl) (by kernel_rfl) ms21 (Eq.mpr (by kernel_rfl) h)
def c10:Code:=(Tryd.f10.body).getD .skip
def ms10:List (List Nat):=[[]]
def m10(x0 x1 x2:AV)(S:Store)(Q:PoT):Prop:=
 boxN 29 8 x0 S fun a S=>ldN 8 a S fun c S=>callF Pg 20 [c,x1] S Q fun d S=>callF Pg 21 [d,x2] S Q fun e S=>Q (.ret e) S
theorem calls10{x0 x1 x2:AV}{S:Store}{Q:PoT}(h:m10 x0 x1 x2 S Q):ACalls Pg 10 [x0,x1,x2] S Q:=
 calls_of_vc (fn:=Tryd.f10) (c:=c10) (n:=12) Tryd.func10 (by kernel_rfl) (by kernel_rfl) (by kernel_rfl) ms10 (Eq.mpr (by kernel_rfl) h)
def c9:Code:=(Tryd.f9.body).getD .skip
def r9:List ResultVar:=Tryd.f9.results.toList
def env9_0(y2 y4 y5 y15 y16 y17:AV):List AV:=[y2,y4,y5,y15,y16,y17]
def lv9_0:List Nat:=[2,4,5,15,16,17]
def ms9:List (List Nat):=[lv9_0,[]]
def m9(x0 x1:AV)(S:Store)(Q:PoT):Prop:=
 boxN 29 8 x0 S fun a S=>ldN 8 a S fun c S=>callF Pg 20 [c,x1] S Q fun d S=>lenS d S fun e S=>bin .eql 0 e (.v (.int .i64 0)) S fun f S=>onB f fun b=>gd b (Q (.ret (.v (.int .i64 0))) S) (shift a 1 S fun g S=>ld1 g S fun h S=>lenS h S fun i S=>loopV lv9_0 (vc Pg (c9.at_ [1,1,1,0,1,0,0]) (ms9.drop 1)) 35 (env9_0 a (.v (.int .i64 0)) d h i (.v (.int .i64 0))) S (blockK 0 (seqK (vc Pg (c9.at_ [1,1,1,1]) (ms9.drop 1)) (bodyK Pg r9 Q))))
theorem calls9{x0 x1:AV}{S:Store}{Q:PoT}(h:m9 x0 x1 S Q):ACalls Pg 9 [x0,x1] S Q:=
 calls_of_vc (fn:=Tryd.f9) (c:=c9) (n:=35) Tryd.func9 (by kernel_rfl) (by kernel_rfl) (by kernel_rfl) ms9 (Eq.mpr (by kernel_rfl) h)
def b9_0(y2 y4 y5 y15 y16 y17:AV)(S:Store)(KE0:KeT)(Q:PoT):Prop:=
 bin .lss 0 y17 y16 S fun c S=>onB c fun b=>gd b (ixS 39 2 y15 y17 S fun d S=>ldN 2 d S fun e S=>boxN 39 2 (.a [.v (.int .i64 0),.v (.int .i64 0)]) S fun f S=>stN 2 f e S fun g S=>shift f 0 S fun h S=>ld1 h S fun i S=>callF Pg 21 [y5,i] S Q fun k S=>onB k fun b=>gd b (shift y2 0 S fun l S=>ld1 l S fun m S=>bin .add 0 m y17 S fun n S=>bin .shl 0 (.v (.int .i64 1)) n S fun o S=>bin .or 0 y4 o S fun p S=>bin .add 0 y17 (.v (.int .i64 1)) S fun q S=>KE0 35 (env9_0 y2 p y5 y15 y16 q) S) (bin .add 0 y17 (.v (.int .i64 1)) S fun r S=>KE0 35 (env9_0 y2 y4 y5 y15 y16 r) S)) (Q (.ret y4) S)
theorem b9_0_eq(y2 y4 y5 y15 y16 y17:AV)(S:Store)(KE0:KeT)(Q:PoT):vc Pg (c9.at_ [1,1,1,0,1,0,0]) (ms9.drop 1) (mkE 35 lv9_0 (env9_0 y2 y4 y5 y15 y16 y17)) S (thenK (fgK lv9_0 KE0) (blockK 0 (seqK (vc Pg (c9.at_ [1,1,1,1]) (ms9.drop 1)) (bodyK Pg r9 Q))))=b9_0 y2 y4 y5 y15 y16 y17 S KE0 Q:=by kernel_rfl
theorem loop9_0{y2 y5 y15 y16:AV}{y40 y170:AV}{S:Store}{Q:PoT}(I:AV→AV→Store→Prop)(μ:AV→AV→Store→Nat)(h0:I y40 y170 S)
    (hr:∀(y4 y17:AV) (S:Store),I y4 y17 S→∀ KE0:KeT,(∀(y4' y17':AV) (S':Store),I y4' y17' S'→μ y4' y17' S'<μ y4 y17 S→KE0 35 (env9_0 y2 y4' y5 y15 y16 y17') S')→b9_0 y2 y4 y5 y15 y16 y17 S KE0 Q):
    loopV lv9_0 (vc Pg (c9.at_ [1,1,1,0,1,0,0]) (ms9.drop 1)) 35 (env9_0 y2 y40 y5 y15 y16 y170) S (blockK 0 (seqK (vc Pg (c9.at_ [1,1,1,1]) (ms9.drop 1)) (bodyK Pg r9 Q))):=by
 refine⟨fun n e S=>n=35∧∃ y4 y17:AV,e=(env9_0 y2 y4 y5 y15 y16 y17)∧I y4 y17 S,fun _ e S=>μ (e.getD 1 .j) (e.getD 5 .j) S,?_,?_⟩
 ·exact⟨_,_,Wk.refl _ _,rfl,_,_,rfl,h0⟩
 ·rintro _ e S ⟨rfl,y4,y17,rfl,hI⟩
  exact(b9_0_eq _ _ _ _ _ _ _ _ _).mpr (hr y4 y17 S hI _ (fun y4' y17' S' hI' hm=>⟨_,_,Wk.refl _ _,⟨rfl,_,_,rfl,hI'⟩,hm⟩))
end
def valB (c:Ci) (s:Int):List Bool:=if(c.right && decide (c.gr.inputs≤60))=true then allB c.gr (bitsL s c.gr.inputs.toNat)else[]
def isV(v:List Bool)(l:Int):Bool:=decide (0≤l) && (decide (l.tdiv 2<v.length) && litB v l)
theorem allB_vars{c:Ci}(h:c.right=true)(s:Int):((allB c.gr (bitsL s c.gr.inputs.toNat)).length:Int)=c.gr.vars:=by
 obtain⟨g1,g2,g3⟩:=gr_inp h
 have hr:=(right_c.1 h).2.2.2.2.2.2.1
 rw[allB_len,if_pos]
 ·have:0≤c.gr.vars:=by unfold Gr.vars;omega
  omega
 ·rw[hr,bitsL_len]
  simp;omega
theorem isV_isB{c:Ci}(s l:Int):isV (valB c s) l=isB c s l:=by
 unfold valB isB
 cases h:c.right with
 |false =>
  rw[Bool.false_and,if_neg (by decide),Bool.false_and]
  simp only[isV,Bool.and_eq_false_iff,decide_eq_false_iff_not]
  by_cases h0:0≤l
  ·refine .inr (.inl ?_)
   have:=Int.tdiv_nonneg h0 (show(0:Int)≤2 by decide)
   simp;omega
  ·exact .inl h0
 |true =>
  cases h6:decide (c.gr.inputs≤60)with
  |false =>
   rw[Bool.and_false,if_neg (by decide),Bool.false_and,Bool.and_false]
   simp only[isV,Bool.and_eq_false_iff,decide_eq_false_iff_not]
   by_cases h0:0≤l
   ·refine .inr (.inl ?_)
    have:=Int.tdiv_nonneg h0 (show(0:Int)≤2 by decide)
    simp;omega
   ·exact .inl h0
  |true =>
   rw[Bool.true_and,if_pos rfl,Bool.true_and,Bool.true_and]
   obtain⟨g1,g2,g3⟩:=gr_inp h
   have hv:=allB_vars h s
   have hpos:0<(allB c.gr (bitsL s c.gr.inputs.toNat)).length:=by
    have:1≤c.gr.vars:=by unfold Gr.vars;omega
    omega
   simp only[isV,Gr.eval,hpos,decide_true,Bool.true_and,hv,Gr.lit,g2,g3,Bool.and_assoc]
theorem ans20{c:Ci}(hc:c.ok)(s:Int):Ans Pg 20 [c.av,aI s] (aL aB (valB c s)):=by
 intro S
 refine ACalls.tree (calls20 ?_)
 unfold m20 valB
 refine boxA_of rfl fun S1 k1 n1 o1=>?_
 rw[ldN_p (n:=8) o1 rfl]
 refine callF_ans (ans12 c) ?_
 refine boxA_of rfl fun S2 k2 n2 o2=>?_
 refine stA_of (cs':=c.gr.cells) o2 rfl rfl fun S3 n3 o3 f3=>?_
 have k3:=k2.st (Nat.le_refl _) n3 f3
 have kk:=k1.trans k3
 rw[ldN_p (n:=8) ((k3.2 _ (by omega)).trans o1) rfl]
 refine callF_ans (ans11 hc) ?_
 rw[un_not,onB_v]
 refine gd_of (fun h=>?_) (fun h=>?_)
 ·have h:c.right=false:=by simpa using h
  refine⟨_,rfl,kk,?_⟩
  rw[h,Bool.false_and,if_neg (by decide)]
  exact .nl
 have h:c.right=true:=by simpa using h
 obtain⟨g1,g2,g3⟩:=gr_inp h
 rw[shift_p,ld1_p o3 rfl rfl,bin_gtr,onB_v]
 refine gd_of (fun h6=>?_) (fun h6=>?_)
 ·have h6:=dT h6
  refine⟨_,rfl,kk,?_⟩
  rw[h,decide_eq_false (by omega:¬ c.gr.inputs≤60),if_neg (by decide)]
  exact .nl
 have h6:=dF h6
 rw[h,decide_eq_true (by omega:c.gr.inputs≤60),Bool.and_self,if_pos rfl]
 obtain⟨m,hm⟩:=Int.eq_ofNat_of_zero_le g2
 have hm60:m≤60:=by omega
 have hgt:c.gr.inputs.toNat=m:=by rw[hm];rfl
 rw[hgt,shift_p,ld1_p o3 rfl rfl]
 show mkN _ _ _ (aI c.gr.inputs) (aI c.gr.inputs) _ _
 rw[hm]
 refine mk_of (by omega) (by omega) fun S6 k6 n6 o6=>?_
 rw[lenS_s]
 have hrep:List.replicate m [AV.v (.bool false)]=(List.range m).map fun k=>[aB (if k<0 then bitN s k else false)]:=by
  apply List.ext_getElem
  ·simp
  ·intro k h1 h2
   simp
 rw[hrep]at o6
 refine loop20_0 (fun y S'=>S'.n=S6.n∧(∀ x,x<S3.n→S'.obj x=S3.obj x)∧∃ j:Nat,y=aI j∧j≤m∧S'.obj S3.n=some (.cells 4 ((List.range m).map fun k=>[aB (if k<j then bitN s k else false)]) true))
  (fun y _=>m - ((intA y).getD 0).toNat) ⟨rfl,k6.2,0,rfl,Nat.zero_le _,o6⟩ ?_
 rintro _ S7 ⟨n7,f7,j,rfl,hj,o7⟩ KE1 hKE1
 unfold b20_0
 rw[bin_lss,onB_v]
 refine gd_of (fun hlt1=>?_) (fun hge1=>?_)
 ·have hlt1:j<m:=by have:((j:Int)<(m:Int)):=dT hlt1;omega
  rw[bin_shrN (by omega),bin_and1,bin_eql,ixS_s hlt1 o7]
  refine st_of o7 (u0:=aB (if j<j then bitN s j else false)) (by rw[Nat.zero_add];simp[hlt1]) rfl fun S8 n8 o8 f8=>?_
  rw[bin_add (by omega) (by omega)]
  refine hKE1 _ _ ⟨by omega,fun x hx=>(f8 x (by omega)).trans (f7 x hx),j+1,rfl,hlt1,?_⟩ (by simp[intA];omega)
  rw[o8,Nat.zero_add]
  have:=set_range (n:=m) (i:=j) (f:=fun k=>[aB (if k<j then bitN s k else false)]) (f':=fun k=>[aB (if k<j+1 then bitN s k else false)]) hlt1 (fun k hk=>by
   have:(k<j+1)=(k<j):=by apply propext;omega
   simp only[this])
  rw[←this]
  simp[bitN]
 ·have hgj:j=m:=by
    have:¬ ((j:Int)<(m:Int)):=dF hge1
    omega
  subst hgj
  have o7':S7.obj S3.n=some (.cells 4 ((bitsL s j).map fun b=>[aB b]) true):=by
   rw[o7,bitsL,List.map_map]
   congr 2
   apply List.map_congr_left
   intro k hk
   simp[List.mem_range.1 hk]
  rw[ldN_p (n:=2) ((f7 _ (by omega)).trans o3) rfl]
  have call:=own_at33 hc.gr (ins:=bitsL s j) (S:=S7) (xi:=.s S3.n 0 j) (by simp;omega) (fun T K=>by rw[lenS_s,bitsL_len]) (fun T hT=>by
   have:=(hT.2 S3.n (by omega)).trans o7'
   simp only[srcE,this]
   rw[if_pos (by simp)]
   simp[List.take_of_length_le])
  refine callF_at (ans_own_at (f:=fun b=>.bool b) call) ?_
  have k3':Keep S S7:=⟨by have:=kk.1;omega,fun x hx=>(f7 x (by have:=kk.1;omega)).trans (kk.2 x hx)⟩
  exact⟨_,rfl,k3',cv_aL (f:=fun b=>.bool b) _⟩
theorem ans21(v:List Bool){l:Int}(hl:i64R l):Ans Pg 21 [aL aB v,aI l] (aB (isV v l)):=by
 intro S
 refine calls21 ?_
 unfold m21 isV
 rw[bin_geq,onB_v]
 refine gd_of (fun h=>?_) (fun h=>⟨by rw[h,Bool.false_and],rfl⟩)
 have h0:=dT h
 rw[h,Bool.true_and,bin_half hl,lenS_aL,bin_lss,onB_v]
 refine gd_of (fun h1=>?_) (fun h1=>⟨by rw[h1,Bool.false_and],rfl⟩)
 have hlt:=dT h1
 rw[h1,Bool.true_and,bin_half hl]
 refine ix_tree (Int.tdiv_nonneg h0 (by decide)) hlt _ ?_
 rw[bin_and1,bin_eql,bin_neqB]
 refine⟨?_,rfl⟩
 rw[litB,Int.tmod_eq_emod_of_nonneg h0]
theorem ans10{c:Ci}(hc:c.ok)(s:Int){l:Int}(hl:i64R l):Ans Pg 10 [c.av,aI s,aI l] (aB (isB c s l)):=by
 intro S
 refine ACalls.ans_v (calls10 ?_)
 unfold m10
 refine boxA_of rfl fun S1 k1 n1 o1=>?_
 rw[ldN_p (n:=8) o1 rfl]
 refine callF_ans (ans20 hc s) ?_
 refine callF_ans (ans21 _ hl) ?_
 exact⟨by rw[isV_isB],k1⟩
theorem ans9{c:Ci}(hc:c.ok)(s:Int):Ans Pg 9 [c.av,aI s] (aI (afterB c s)):=by
 intro S
 refine ACalls.ans_v (calls9 ?_)
 unfold m9
 refine boxA_of rfl fun S1 k1 n1 o1=>?_
 rw[ldN_p (n:=8) o1 rfl]
 refine callF_ans (ans20 hc s) ?_
 have hil:=fun l=>isV_isB (c:=c) s l
 rw[lenS_aL,bin_eql,onB_v]
 refine gd_of (fun h=>?_) (fun h=>?_)
 ·have hv:valB c s = []:=List.eq_nil_of_length_eq_zero (by have:=dT h;omega)
  refine⟨?_,k1⟩
  have:(c.right && decide (c.gr.inputs≤60))=false:=by
   cases h1:(c.right && decide (c.gr.inputs≤60))with
   |false=>rfl
   |true =>
    unfold valB at hv
    rw[if_pos h1]at hv
    simp only[Bool.and_eq_true]at h1
    have h2:=allB_vars h1.1 s
    obtain⟨g1,g2,g3⟩:=gr_inp h1.1
    rw[hv]at h2
    unfold Gr.vars at h2
    simp at h2;omega
  rw[afterB,this,if_neg (by decide)]
 have hgood:(c.right && decide (c.gr.inputs≤60))=true:=by
  cases h1:(c.right && decide (c.gr.inputs≤60))with
  |true=>rfl
  |false =>
   have:valB c s = []:=by rw[valB,h1,if_neg (by decide)]
   rw[this]at h
   simp at h
 have hr:c.right=true:=by simp only[Bool.and_eq_true]at hgood;exact hgood.1
 have h60:c.gr.inputs≤60:=by simp only[Bool.and_eq_true,decide_eq_true_eq]at hgood;exact hgood.2
 obtain⟨g1,g2,g3⟩:=gr_inp hr
 have hin:=(right_c.1 hr).1
 generalize valB c s=v at *
 rw[afterB,hgood,if_pos rfl,shift_p,ld1_p o1 rfl rfl,lenS_pL]
 refine loop9_0 (fun y w S'=>Keep S1 S'∧∃ i:Nat,w=aI i∧i≤c.latches.length∧y=aI (afterTo c s i))
  (fun _ w _=>c.latches.length - ((intA w).getD 0).toNat) ⟨Keep.refl _,0,rfl,Nat.zero_le _,rfl⟩ ?_
 rintro _ _ S2 ⟨k2,i,rfl,hi,rfl⟩ KE hKE
 unfold b9_0
 rw[bin_lss,onB_v]
 refine gd_of (fun hlt=>?_) (fun hge=>?_)
 ·have hlt:i<c.latches.length:=by simpa using hlt
  have hget:c.latches.getD i (0,0)=c.latches[i]:=by simp[List.getD_eq_getElem?_getD,hlt]
  have hli:=hc.lats _ (List.getElem_mem hlt)
  have hμ:c.latches.length - ((intA (aI (i+1:Nat))).getD 0).toNat<c.latches.length - ((intA (aI i)).getD 0).toNat:=by simp[intA];omega
  rw[ixS_pL hlt,ldN_q2]
  refine boxA_of rfl fun S3 k3 n3 o3=>?_
  refine stA_of o3 rfl rfl fun S4 n4 o4 f4=>?_
  have k4:=k2.trans (k3.st (Nat.le_refl _) n4 f4)
  rw[shift_p,ld1_p o4 rfl rfl]
  refine callF_ans (ans21 v hli.1) ?_
  rw[hil,onB_v]
  have hb:=afterTo_le c s i
  have e:c.inputs+(i:Int)=((c.inputs.toNat+i:Nat):Int):=by omega
  refine gd_of (fun h4=>?_) (fun h4=>?_)
  ·rw[shift_p,ld1_p ((k4.2 _ (by omega)).trans o1) rfl rfl,bin_add (by omega) (by omega),e,bin_shl1 (by omega),bin_or_pow hb.1 hb.2 (by omega),bin_add (by omega) (by omega)]
   exact hKE _ _ _ ⟨k4,i+1,rfl,hlt,by rw[afterTo,hget,if_pos h4]⟩ hμ
  ·rw[bin_add (by omega) (by omega)]
   exact hKE _ _ _ ⟨k4,i+1,rfl,hlt,by rw[afterTo,hget,h4];rfl⟩ hμ
 ·have hge:i=c.latches.length:=by simp at hge;omega
  subst hge
  exact⟨rfl,k1.trans k2⟩
abbrev sL0:ByteArray:=⟨#[108,48]⟩
theorem made_texts{c:Ci}(hc:MadeC c){s:ByteArray}(h1:s≠⟨#[113]⟩)(h2:s≠⟨#[111,117,116]⟩)(h3:s≠⟨#[108,49]⟩)(h4:s≠⟨#[97,45,98]⟩):∀ k (hk:k<c.names.length),c.names[k].text≠s:=by
 obtain⟨b1,b2,t,hn,ht⟩:=hc.names
 intro k hk
 have hm:=List.getElem_mem hk
 generalize c.names[k]=x at hm
 rw[hn]at hm
 rcases List.mem_append.1 hm with hm|hm
 ·cases b1
  ·simp at hm
  ·have:x=⟨108,0,⟨#[113]⟩⟩:=by simpa using hm
   subst this
   exact fun e=>h1 e.symm
 ·cases b2
  ·simp at hm
  ·have:x=⟨111,c.outs.length - 1,t⟩:=by simpa using hm
   subst this
   rcases(ht rfl).2 with rfl|rfl|rfl
   ·exact fun e=>h2 e.symm
   ·exact fun e=>h3 e.symm
   ·exact fun e=>h4 e.symm
theorem find_l0{c:Ci}(hc:MadeC c):findB c sL0=2*(c.inputs+1):=by
 rw[find_miss hc.right (made_texts hc (by decide) (by decide) (by decide) (by decide)),if_neg (by decide)]
 have e1:((sL0[0]!).toNat:Int)=108:=by decide
 have e2:numR (sL0.data.toList.drop 1)=0:=by decide
 have hm:c.many 108=c.latches.length:=rfl
 have hl:=hc.lats
 rw[e1,e2]
 unfold Ci.sig
 rw[if_neg (by decide),hm,if_neg (by omega),if_neg (by decide),if_pos rfl]
 omega
abbrev sL1:ByteArray:=⟨#[108,49]⟩
theorem find_l1{c:Ci}(hc:MadeC c)(hno:∀ k (hk:k<c.names.length),c.names[k].text≠sL1)(h2:2≤c.latches.length):findB c sL1=2*(c.inputs+2):=by
 rw[find_miss hc.right hno,if_neg (by decide)]
 have e1:((sL1[0]!).toNat:Int)=108:=by decide
 have e2:numR (sL1.data.toList.drop 1)=1:=by decide
 have hm:c.many 108=c.latches.length:=rfl
 rw[e1,e2]
 unfold Ci.sig
 rw[if_neg (by decide),hm,if_neg (by omega),if_neg (by decide),if_pos rfl]
 omega
theorem made_name{c:Ci}(hc:MadeC c){i:Nat}(hi:i<c.names.length):0≤c.sig c.names[i].kind c.names[i].pos∧(∀ k (hk:k<c.names.length),k<i→c.names[k].text≠c.names[i].text)∧(0≤c.names[i].kind∧c.names[i].kind<256)∧c.names[i].text.size≤19:=by
 obtain⟨b1,b2,t,hn,ht⟩:=hc.names
 have hinp:=hc.inp
 have hlat:=hc.lats
 have s1:0≤c.sig 108 0:=by
  have hm:c.many 108=c.latches.length:=rfl
  unfold Ci.sig
  rw[if_neg (by decide),hm,if_neg (by omega),if_neg (by decide),if_pos rfl]
  omega
 have s2:b2=true→0≤c.sig 111 (c.outs.length - 1):=fun h=>by
  obtain⟨h0,_⟩:=ht h
  have hm:c.many 111=c.outs.length:=rfl
  have ho:=(right_c.1 hc.right).2.2.2.2.2.2.2.2.1
  unfold Ci.sig
  rw[if_neg (by omega),hm,if_neg (by omega),if_neg (by decide),if_neg (by decide),if_pos rfl]
  have hlt:((c.outs.length:Int) - 1).toNat<c.outs.length:=by omega
  rw[List.getD_eq_getElem?_getD,List.getElem?_eq_getElem hlt,Option.getD_some]
  exact(lit_iff.1 (List.all_eq_true.1 ho _ (List.getElem_mem hlt))).2.2.1
 have ts:b2=true→t.size≤19∧t≠⟨#[113]⟩:=fun h=>by
  rcases(ht h).2 with rfl|rfl|rfl<;>exact⟨by decide,by decide⟩
 have r0:(0:Int)≤108∧(108:Int)<256:=by decide
 have r1:(0:Int)≤111∧(111:Int)<256:=by decide
 have z0:(⟨#[113]⟩:ByteArray).size≤19:=by decide
 have key:∀(l:List Na),l=(if b1 then[⟨108,0,⟨#[113]⟩⟩]else[])++(if b2 then[⟨111,c.outs.length - 1,t⟩]else[])→∀(i:Nat) (hi:i<l.length),0≤c.sig l[i].kind l[i].pos∧(∀ k (hk:k<l.length),k<i→l[k].text≠l[i].text)∧(0≤l[i].kind∧l[i].kind<256)∧l[i].text.size≤19:=by
  intro l hl i hi
  cases b1<;>cases b2
  ·have:l = []:=hl
   subst this;simp at hi
  ·have:l = [⟨111,c.outs.length - 1,t⟩]:=hl
   subst this
   obtain rfl:i=0:=by simpa using hi
   exact⟨s2 rfl,fun k hk h=>by omega,r1,(ts rfl).1⟩
  ·have:l = [⟨108,0,⟨#[113]⟩⟩]:=hl
   subst this
   obtain rfl:i=0:=by simpa using hi
   exact⟨s1,fun k hk h=>by omega,r0,z0⟩
  ·have:l = [⟨108,0,⟨#[113]⟩⟩,⟨111,c.outs.length - 1,t⟩]:=hl
   subst this
   match i,hi with
   |0,_=>exact⟨s1,fun k hk h=>by omega,r0,z0⟩
   |1,_=>exact⟨s2 rfl,fun k hk h=>(by
      obtain rfl:k=0:=by omega
      exact fun e=>(ts rfl).2 e.symm),r1,(ts rfl).1⟩
   |i+2,hi=>exact absurd (show i+2<2 from hi) (by omega)
 exact key _ hn i hi
def cw:Ci:=⟨1,[(5,0)],[],[3],[],[],[],[⟨108,0,⟨#[113]⟩⟩]⟩
theorem cw_names:namesB cw=true:=by
 simp only[namesB,decide_eq_true_eq]
 have hl:cw.names.length=1:=rfl
 have h0:nameOk cw ⟨108,0,⟨#[113]⟩⟩:=⟨by decide,by decide,by decide⟩
 refine⟨fun i h _=>?_,fun i h _=>by omega,by decide⟩
 obtain rfl:i=0:=by omega
 exact h0
theorem cw_right:cw.right=true:=right_c.2 ⟨by decide,by decide,by decide,by decide,by decide,by decide,by decide,by decide,by decide,by decide,by decide,by decide,cw_names⟩
theorem cw_ok:cw.ok:=⟨⟨by decide,by decide⟩,by decide,by decide,(fun p hp=>by
 rw[List.mem_singleton.1 hp];exact⟨⟨by decide,by decide⟩,⟨by decide,by decide⟩⟩),(fun p hp=>by cases hp),⟨fun x hx=>(by rw[List.mem_singleton.1 hx];exact⟨by decide,by decide⟩),by decide⟩,⟨fun x hx=>(by cases hx),by decide⟩,⟨fun x hx=>(by cases hx),by decide⟩,⟨fun x hx=>(by cases hx),by decide⟩,(fun x hx=>by
 rw[List.mem_singleton.1 hx];exact⟨by decide,by decide,⟨by decide,by decide⟩,by decide⟩),by decide⟩
theorem cw_sig0:sigB cw 111 0=3:=by rw[sigB,if_pos cw_right];decide
theorem cw_sig1:sigB cw 111 1 = -1:=by rw[sigB,if_pos cw_right];decide
abbrev sQ:ByteArray:=⟨#[113]⟩
abbrev sX:ByteArray:=⟨#[120]⟩
theorem cw_q:findB cw sQ=4:=by
 rw[find_hit (s:=sQ) cw_right (i:=0) (by decide) rfl (fun k _ h=>by omega)]
 decide
theorem cw_texts{s:ByteArray}(h:s≠sQ):∀ k (hk:k<cw.names.length),cw.names[k].text≠s:=fun k hk=>by
 have hl:cw.names.length=1:=rfl
 obtain rfl:k=0:=by omega
 exact fun e=>h e.symm
theorem cw_l0:findB cw sL0=4:=by
 rw[find_miss cw_right (cw_texts (by decide)),if_neg (by decide)]
 decide
theorem cw_x:findB cw sX = -1:=by
 rw[find_miss cw_right (cw_texts (by decide)),if_pos (by decide)]
theorem cw_is:isB cw 1 2=true:=by rw[isB,cw_right,Bool.true_and];decide
theorem cw_a1:afterB cw 1=2:=by
 have h:isB cw 1 5=true:=by rw[isB,cw_right,Bool.true_and];decide
 rw[afterB,cw_right,if_pos (by decide)]
 show afterTo cw 1 (0+1)=2
 rw[afterTo,show(cw.latches.getD 0 (0,0)).1=5 from rfl,if_pos h,afterTo]
 rfl
theorem cw_a2:afterB cw 2=0:=by
 have h:isB cw 2 5=false:=by rw[isB,cw_right,Bool.true_and];decide
 rw[afterB,cw_right,if_pos (by decide)]
 show afterTo cw 2 (0+1)=0
 rw[afterTo,if_neg (by rw[show(cw.latches.getD 0 (0,0)).1=5 from rfl,h];decide),afterTo]
instance (priority:=2000) jnEqw {S0:Store} {P:AV→Prop} {a:Int} {kd:Nat}:Jn (∃ q,(bin .eql kd (.v (.int .i64 a)) (.v (.int .i64 a)) S0 fun v S=>v=q∧S=S0)∧P q) (P (.v (.bool true))):=⟨by
 have:=J_eql (k:=.i64) (a:=a) (b:=a) (kd:=kd) (S0:=S0) (P:=P)
 rw[decide_eq_true rfl]at this
 exact this⟩
abbrev cwC:List AV:=[aI 1,.l [[aI 5,aI 0]],.nl,.l [[aI 3]],.nl,.nl,.nl,.l [[.v (.int .u8 108),aI 0,.v (.string sQ)]]]
theorem cv_cw{S:Store}{n:Nat}:Cv S n (.a cwC) cw.av:=by
 refine .a _ _ rfl fun k u u2 e1 e2=>?_
 match k with
 |0=>cases e1;cases e2;exact .v _
 |1=>cases e1;cases e2;exact treeP [(5,0)] _ _
 |2=>cases e1;cases e2;exact .nl
 |3=>cases e1;cases e2;exact treeI [3] _ _
 |4=>cases e1;cases e2;exact .nl
 |5=>cases e1;cases e2;exact .nl
 |6=>cases e1;cases e2;exact .nl
 |7=>cases e1;cases e2;exact treeN [⟨108,0,sQ⟩] _ _
 |k+8=>simp at e1
theorem ans_cw{f:FuncId}{vs:List Value}{r:AV}(h:Ans Pg f (cw.av :: vs.map .v) r):Ans Pg f (.a cwC :: vs.map .v) r:=fun S =>
 ansAt_cv (by simp) (fun k u u2 e1 e2=>by
  match k with
  |0=>cases e1;cases e2;exact cv_cw
  |k+1 =>
   simp only[List.getElem?_cons_succ]at e1 e2
   rw[e1]at e2
   cases e2
   rw[List.getElem?_map]at e1
   obtain⟨x,_,rfl⟩:=Option.map_eq_some_iff.1 e1
   exact .v _) (h S)
theorem J_cwOf{S0:Store}{P:AV→Prop}:(∃ q,(part1 cw.gr.av 0 S0 fun v S=>v=q∧S=S0)∧P q)=P (.v (.int .i64 2)):=J_by (op:=fun K=>part1 cw.gr.av 0 S0 K) fun K=>by
 unfold Gr.av Gr.cells
 rw[part10]
 rfl
theorem ans5:Ans Pg 5 [] (aB true):=by
 intro S
 refine ACalls.ans_v (calls5 ?_)
 unfold m5
 rw[bld_of (cs:=[aI 5,aI 0]) rfl]
 refine bslP ?_
 refine bsl1 rfl (fun _ h=>by cases h) ?_
 rw[bld_of (cs:=[.v (.int .u8 108),aI 0,.v (.string sQ)]) rfl]
 refine bslA3 ?_
 rw[bld_of (cs:=cwC) rfl]
 refine boxA_of rfl fun S1 k1 n1 o1=>?_
 refine stA_of (cs':=cwC) o1 rfl rfl fun S2 n2 o2 f2=>?_
 have k2:=k1.st (Nat.le_refl _) n2 f2
 have c1:=ans_cw (vs:=[]) (ans11 cw_ok)
 rw[cw_right]at c1
 have c2:=ans_cw (vs:=[]) (ans12 cw)
 have c3:=ans_cw (vs:=[.int .u8 111,.int .i64 0]) (ans7 (k:=111) (x:=0) cw_ok (by decide) (by decide))
 have c4:=ans_cw (vs:=[.int .u8 111,.int .i64 1]) (ans7 (k:=111) (x:=1) cw_ok (by decide) (by decide))
 rw[cw_sig0]at c3
 rw[cw_sig1]at c4
 have c5:=ans_cw (vs:=[.string sQ]) (ans8 (s:=sQ) cw_ok (by decide))
 have c6:=ans_cw (vs:=[.string sL0]) (ans8 (s:=sL0) cw_ok (by decide))
 have c7:=ans_cw (vs:=[.string sX]) (ans8 (s:=sX) cw_ok (by decide))
 rw[cw_q]at c5
 rw[cw_l0]at c6
 rw[cw_x]at c7
 have c8:=ans_cw (vs:=[.int .i64 1,.int .i64 2]) (ans10 cw_ok 1 (l:=2) ⟨by decide,by decide⟩)
 rw[cw_is]at c8
 have c9:=ans_cw (vs:=[.int .i64 1]) (ans9 cw_ok 1)
 have c10:=ans_cw (vs:=[.int .i64 2]) (ans9 cw_ok 2)
 rw[cw_a1]at c9
 rw[cw_a2]at c10
 show ∃ q:AV,_
 (repeat (first|with_reducible_and_instances (first|refine WJ ?_|refine W (J_ldN (n:=8) o2 (by with_unfolding_all rfl)) ?_|refine W (J_cwOf) ?_|refine W (J_ldq (by with_unfolding_all rfl)) ?_)|refine J_cA (c1) rfl rfl ?_|refine C_A (c1) rfl rfl ?_|refine J_cA (c2) rfl rfl ?_|refine C_A (c2) rfl rfl ?_|refine J_cA (c3) rfl rfl ?_|refine C_A (c3) rfl rfl ?_|refine J_cA (c4) rfl rfl ?_|refine C_A (c4) rfl rfl ?_|refine J_cA (c5) rfl rfl ?_|refine C_A (c5) rfl rfl ?_|refine J_cA (c6) rfl rfl ?_|refine C_A (c6) rfl rfl ?_|refine J_cA (c7) rfl rfl ?_|refine C_A (c7) rfl rfl ?_|refine J_cA (c8) rfl rfl ?_|refine C_A (c8) rfl rfl ?_|refine J_cA (c9) rfl rfl ?_|refine C_A (c9) rfl rfl ?_|refine J_cA (c10) rfl rfl ?_|refine C_A (c10) rfl rfl ?_))
 exact⟨rfl,k2⟩
theorem find_name{c:Ci}(hc:MadeC c){i:Nat}(hi:i<c.names.length):findB c c.names[i].text=c.sig c.names[i].kind c.names[i].pos:=
 find_hit hc.right hi rfl fun k hk h=>(made_name hc hi).2.1 k hk h
def namedTo(c:Ci)(i:Nat):Bool:=(c.names.take i).any fun x=>decide (x.text=sL1)
theorem namedTo_succ{c:Ci}{i:Nat}(h:i<c.names.length):namedTo c (i+1)=(namedTo c i || decide (c.names[i].text=sL1)):=by
 rw[namedTo,List.take_add_one,List.getElem?_eq_getElem h,List.any_append];simp[namedTo]
theorem law3{l:List Int}(hl:∀ x∈l,0≤x∧x<65536):Ans Pg 3 [aL aW16 l] (aB true):=by
 intro S
 refine ACalls.ans_v (calls3 ?_)
 unfold m3
 refine callF_ans ans5 ?_
 rw[un_not,onB_v,gd_nT (b:=true) rfl]
 refine .inl ((made6 hl).mono ?_)
 rintro e S' ⟨tr,rfl,rfl,c,rfl,hc⟩
 show boxN _ _ _ _ _
 refine boxA_of rfl fun S1 k1 n1 o1=>?_
 refine stA_of (cs':=c.cells) o1 rfl rfl fun S2 n2 o2 f2=>?_
 have k2:=k1.st (Nat.le_refl _) n2 f2
 have hC:=hc.ok
 have hnl:=hC.nlen
 refine loop3_0 (fun y T=>Keep S2 T∧∃ i:Nat,y=aI i∧i≤c.names.length) (fun y _=>c.names.length - ((intA y).getD 0).toNat) ⟨Keep.refl _,0,rfl,Nat.zero_le _⟩ ?_
 rintro _ T ⟨kT,i,rfl,hi⟩ KE hKE
 have oT:=(kT.2 _ (by omega)).trans o2
 unfold b3_0
 rw[shift_p,ld1_p (u:=nL c.names) oT rfl rfl,lenS_nL,bin_lss,onB_v]
 refine gd_of (fun hlt=>?_) (fun hge=>?_)
 ·have hlt:i<c.names.length:=by have:=dT hlt;omega
  obtain⟨h1,h2,⟨h3,h4⟩,h5⟩:=made_name hc hlt
  rw[shift_p,ld1_p (u:=nL c.names) oT rfl rfl,ixS_nL hlt,Na.row,ldN_q3]
  refine boxA_of rfl fun S3 k3 n3 o3=>?_
  refine stA_of (cs':=Na.row c.names[i]) o3 rfl rfl fun S4 n4 o4 f4=>?_
  have k4:=k3.st (Nat.le_refl _) n4 f4
  have oT4:=(k4.2 _ (by have:=kT.1;omega)).trans oT
  rw[ldN_p (n:=8) oT4 rfl,shift_p,ld1_p (u:=.v (.int .u8 c.names[i].kind)) o4 rfl rfl,shift_p,ld1_p (u:=aI c.names[i].pos) o4 rfl rfl]
  refine callF_ans (ans7 hC h3 h4) ?_
  have hs:sigB c c.names[i].kind c.names[i].pos=c.sig c.names[i].kind c.names[i].pos:=by rw[sigB,if_pos hc.right]
  rw[hs,bin_lss,onB_v,gd_F (decide_eq_false (by omega))]
  rw[ldN_p (n:=8) oT4 rfl,shift_p,ld1_p (u:=.v (.string c.names[i].text)) o4 rfl rfl]
  refine callF_ans (ans8 hC (by omega)) ?_
  rw[find_name hc hlt,bin_neq,onB_v,decide_eq_true rfl,gd_nT (b:=true) rfl,bin_add (by omega) (by omega)]
  exact hKE _ _ ⟨kT.trans k4,i+1,rfl,hlt⟩ (by simp[intA];omega)
 ·refine loop3_1 (fun y z T'=>T'=T∧∃ i:Nat,z=aI i∧i≤c.names.length∧y=aB (namedTo c i)) (fun _ z _=>c.names.length - ((intA z).getD 0).toNat) ⟨rfl,0,rfl,Nat.zero_le _,rfl⟩ ?_
  rintro _ _ T ⟨rfl,i,rfl,hi,rfl⟩ KE hKE
  unfold b3_1
  rw[shift_p,ld1_p (u:=nL c.names) oT rfl rfl,lenS_nL,bin_lss,onB_v]
  refine gd_of (fun hlt=>?_) (fun hge=>?_)
  ·have hlt:i<c.names.length:=by have:=dT hlt;omega
   rw[onB_v]
   have hs:=namedTo_succ hlt
   refine gd_of (fun hn=>?_) (fun hn=>?_)
   ·rw[bin_add (by omega) (by omega)]
    exact hKE _ _ _ ⟨rfl,i+1,rfl,hlt,by rw[hs,hn,Bool.true_or]⟩ (by simp[intA];omega)
   ·rw[shift_p,ld1_p (u:=nL c.names) oT rfl rfl,ixS_nL hlt,Na.row]
    refine W (shift_q _ _ _) ?_
    refine W (ld1_qj (u:=.v (.string c.names[i].text)) rfl) ?_
    rw[bin_eqlS,bin_add (by omega) (by omega)]
    exact hKE _ _ _ ⟨rfl,i+1,rfl,hlt,by rw[hs,hn,Bool.false_or]⟩ (by simp[intA];omega)
  ·have hge:i=c.names.length:=by have:=dF hge;omega
   subst hge
   have hno:namedTo c c.names.length=false→∀ k (hk:k<c.names.length),c.names[k].text≠sL1:=fun h k hk e=>by
    rw[namedTo,List.take_length,List.any_eq_false]at h
    exact h _ (List.getElem_mem hk) (decide_eq_true e)
   have hL:=hc.lats
   have hI:=hc.inp
   have c1:=ans8 (s:=sL0) hC (by decide)
   have c2:=ans8 (s:=sL1) hC (by decide)
   rw[find_l0 hc]at c1
   have ha1:∀{P:AV→Prop},(∃ q,(bin .add 0 (.v (.int .i64 c.inputs)) (.v (.int .i64 1)) T fun v S=>v=q∧S=T)∧P q)=P (.v (.int .i64 (c.inputs+1))):=J_by (op:=fun K=>bin .add 0 (.v (.int .i64 c.inputs)) (.v (.int .i64 1)) T K) fun K=>bin_add (by omega) (by omega) 0
   have ha2:∀{P:AV→Prop},(∃ q,(bin .add 0 (.v (.int .i64 c.inputs)) (.v (.int .i64 2)) T fun v S=>v=q∧S=T)∧P q)=P (.v (.int .i64 (c.inputs+2))):=J_by (op:=fun K=>bin .add 0 (.v (.int .i64 c.inputs)) (.v (.int .i64 2)) T K) fun K=>bin_add (by omega) (by omega) 0
   have hm1:∀{P:AV→Prop},(∃ q,(bin .mul 0 (.v (.int .i64 2)) (.v (.int .i64 (c.inputs+1))) T fun v S=>v=q∧S=T)∧P q)=P (.v (.int .i64 (2*(c.inputs+1)))):=J_by (op:=fun K=>bin .mul 0 (.v (.int .i64 2)) (.v (.int .i64 (c.inputs+1))) T K) fun K=>bin_mul (by omega) (by omega) 0
   have hm2:∀{P:AV→Prop},(∃ q,(bin .mul 0 (.v (.int .i64 2)) (.v (.int .i64 (c.inputs+2))) T fun v S=>v=q∧S=T)∧P q)=P (.v (.int .i64 (2*(c.inputs+2)))):=J_by (op:=fun K=>bin .mul 0 (.v (.int .i64 2)) (.v (.int .i64 (c.inputs+2))) T K) fun K=>bin_mul (by omega) (by omega) 0
   have hlp:∀{P:AV→Prop},(∃ q,(lenS (pL c.latches) T fun v S=>v=q∧S=T)∧P q)=P (aI c.latches.length):=J_by (op:=fun K=>lenS (pL c.latches) T K) fun K=>by simp
   have kk:=k2.trans kT
   show onB (aB true) _
   cases hb:namedTo c c.names.length with
   |true =>
    (repeat (first|with_reducible_and_instances (first|refine WJ ?_|refine W (J_ldN (n:=8) oT (by with_unfolding_all rfl)) ?_|refine W (J_ldp (u:=aI c.inputs) oT (by with_unfolding_all rfl) (by with_unfolding_all rfl)) ?_|refine W (J_ldp (u:=pL c.latches) oT (by with_unfolding_all rfl) (by with_unfolding_all rfl)) ?_|refine W (ha1) ?_|refine W (ha2) ?_|refine W (hm1) ?_|refine W (hm2) ?_|refine W (hlp) ?_|refine W (J_ldq (by with_unfolding_all rfl)) ?_)|refine J_cA (c1) rfl rfl ?_|refine C_A (c1) rfl rfl ?_|refine J_cA (c2) rfl rfl ?_|refine C_A (c2) rfl rfl ?_))
    exact⟨rfl,kk⟩
   |false =>
    cases h2:decide ((c.latches.length:Int)<2)with
    |true =>
     (repeat (first|with_reducible_and_instances (first|refine WJ ?_|refine W (J_ldN (n:=8) oT (by with_unfolding_all rfl)) ?_|refine W (J_ldp (u:=aI c.inputs) oT (by with_unfolding_all rfl) (by with_unfolding_all rfl)) ?_|refine W (J_ldp (u:=pL c.latches) oT (by with_unfolding_all rfl) (by with_unfolding_all rfl)) ?_|refine W (ha1) ?_|refine W (ha2) ?_|refine W (hm1) ?_|refine W (hm2) ?_|refine W (hlp) ?_|refine W (gd_T h2) ?_|refine W (gd_F h2) ?_|refine W (gd_nT h2) ?_|refine W (gd_nF h2) ?_|refine W (J_ldq (by with_unfolding_all rfl)) ?_)|refine J_cA (c1) rfl rfl ?_|refine C_A (c1) rfl rfl ?_|refine J_cA (c2) rfl rfl ?_|refine C_A (c2) rfl rfl ?_))
     exact⟨rfl,kk⟩
    |false =>
     rw[find_l1 hc (hno hb) (by have:=dF h2;omega)]at c2
     (repeat (first|with_reducible_and_instances (first|refine WJ ?_|refine W (J_ldN (n:=8) oT (by with_unfolding_all rfl)) ?_|refine W (J_ldp (u:=aI c.inputs) oT (by with_unfolding_all rfl) (by with_unfolding_all rfl)) ?_|refine W (J_ldp (u:=pL c.latches) oT (by with_unfolding_all rfl) (by with_unfolding_all rfl)) ?_|refine W (ha1) ?_|refine W (ha2) ?_|refine W (hm1) ?_|refine W (hm2) ?_|refine W (hlp) ?_|refine W (gd_T h2) ?_|refine W (gd_F h2) ?_|refine W (gd_nT h2) ?_|refine W (gd_nF h2) ?_|refine W (J_ldq (by with_unfolding_all rfl)) ?_)|refine J_cA (c1) rfl rfl ?_|refine C_A (c1) rfl rfl ?_|refine J_cA (c2) rfl rfl ?_|refine C_A (c2) rfl rfl ?_))
     exact⟨rfl,kk⟩
section
variable {H:Type} {enc:TypeId × Value→H} {w:World} {sp:Nat→Bool} {held:Bool}
end
section
set_option maxRecDepth 100000
def c4:Code:=(Tryd.f4.body).getD .skip
def r4:List ResultVar:=Tryd.f4.results.toList
def env4_0(y7 y8 y9 y10 y11 y12 y13:AV):List AV:=[y7,y8,y9,y10,y11,y12,y13]
def lv4_0:List Nat:=[7,8,9,10,11,12,13]
def ms4:List (List Nat):=[lv4_0,[]]
def m4(x0 x1 x2:AV)(S:Store)(Q:PoT):Prop:=
 callF Pg 5 [] S Q fun c S=>un .not c S fun d S=>onB d fun b=>gd b (Q (.ret (.v (.bool false))) S) (callF Pg 6 [x0] S Q fun e S=>boxN 29 8 (.a [.v (.int .i64 0),.nl,.nl,.nl,.nl,.nl,.nl,.nl]) S fun f S=>stN 8 f e S fun g S=>shift f 0 S fun h S=>ld1 h S fun i S=>shift f 1 S fun k S=>ld1 k S fun l S=>lenS l S fun m S=>bin .add 0 i m S fun n S=>convI .i64 x1 S fun o S=>bin .shl 0 (.v (.int .i64 1)) n S fun p S=>bin .rem 0 o p S fun q S=>ldN 8 f S fun r S=>callF Pg 9 [r,q] S Q fun s S=>(fun S0:Store=>∃ t:AV,(ldN 8 f S fun u S=>u=t∧S=S0)∧∃ w:AV,(bin .rem 0 x2 (.v (.int .i64 1000)) S fun x S=>x=w∧S=S0)∧∃ y:AV,(bin .shl 0 (.v (.int .i64 1)) n S fun z S=>z=y∧S=S0)∧∃ A:AV,(bin .mul 0 w y S fun B S=>B=A∧S=S0)∧∃ C:AV,(bin .add 0 q A S fun D S=>D=C∧S=S0)∧∃ E:AV,(callF Pg 9 [t,C] S (fun _ _=>False) fun F S=>F=E∧S=S0)∧loopV lv4_0 (vc Pg (c4.at_ [1,1,1,1,1,1,1,1,0,1,0,0]) (ms4.drop 1)) 91 (env4_0 c f n q s E (.v (.int .i64 0))) S (blockK 0 (seqK (vc Pg (c4.at_ [1,1,1,1,1,1,1,1,1]) (ms4.drop 1)) (bodyK Pg r4 Q)))) S)
theorem calls4{x0 x1 x2:AV}{S:Store}{Q:PoT}(h:m4 x0 x1 x2 S Q):ACalls Pg 4 [x0,x1,x2] S Q:=
 calls_of_vc (fn:=Tryd.f4) (c:=c4) (n:=91) Tryd.func4 (by kernel_rfl) (by kernel_rfl) (by kernel_rfl) ms4 (Eq.mpr (by kernel_rfl) h)
def b4_0(y7 y8 y9 y10 y11 y12 y13:AV)(S:Store)(KE0:KeT)(Q:PoT):Prop:=
 shift y8 1 S fun a S=>ld1 a S fun c S=>lenS c S fun d S=>bin .lss 0 y13 d S fun e S=>onB e fun b=>gd b ((fun S0:Store=>∃ f:AV,(shift y8 0 S fun g S=>g=f∧S=S0)∧∃ h:AV,(ld1 f S fun i S=>i=h∧S=S0)∧∃ k:AV,(bin .add 0 h y13 S fun l S=>l=k∧S=S0)∧∃ m:AV,(bin .shr 0 y11 k S fun n S=>n=m∧S=S0)∧∃ o:AV,(bin .rem 0 m (.v (.int .i64 2)) S fun p S=>p=o∧S=S0)∧∃ q:AV,(bin .eql 0 o (.v (.int .i64 1)) S fun r S=>r=q∧S=S0)∧∃ s:AV,(ldN 8 y8 S fun t S=>t=s∧S=S0)∧∃ u:AV,(shift y8 1 S fun w S=>w=u∧S=S0)∧∃ x:AV,(ld1 u S fun y S=>y=x∧S=S0)∧∃ z:AV,(ixS 39 2 x y13 S fun A S=>A=z∧S=S0)∧∃ B:AV,(shift z 0 S fun C S=>C=B∧S=S0)∧∃ D:AV,(ld1 B S fun E S=>E=D∧S=S0)∧∃ F:AV,(callF Pg 10 [s,y10,D] S (fun _ _=>False) fun G S=>G=F∧S=S0)∧∃ H:AV,(bin .neq 1 q F S fun I S=>I=H∧S=S0)∧onB H fun b=>gd b (Q (.ret (.v (.bool false))) S) (bin .add 0 y13 (.v (.int .i64 1)) S fun J S=>KE0 91 (env4_0 y7 y8 y9 y10 y11 y12 J) S)) S) (onB y7 fun b=>gd b (bin .eql 0 y11 y12 S fun K S=>onB K fun b=>gd b (bin .geq 0 y11 (.v (.int .i64 0)) S fun L S=>onB L fun b=>gd b (bin .shl 0 (.v (.int .i64 1)) y9 S fun M S=>bin .lss 0 y11 M S fun N S=>onB N fun b=>gd b (shift y8 0 S fun O S=>ld1 O S fun P S=>bin .shl 0 (.v (.int .i64 1)) P S fun R S=>bin .rem 0 y11 R S fun T S=>bin .eql 0 T (.v (.int .i64 0)) S fun U S=>Q (.ret U) S) (Q (.ret (.v (.bool false))) S)) (Q (.ret (.v (.bool false))) S)) (Q (.ret (.v (.bool false))) S)) (Q (.ret (.v (.bool false))) S))
theorem b4_0_eq(y7 y8 y9 y10 y11 y12 y13:AV)(S:Store)(KE0:KeT)(Q:PoT):vc Pg (c4.at_ [1,1,1,1,1,1,1,1,0,1,0,0]) (ms4.drop 1) (mkE 91 lv4_0 (env4_0 y7 y8 y9 y10 y11 y12 y13)) S (thenK (fgK lv4_0 KE0) (blockK 0 (seqK (vc Pg (c4.at_ [1,1,1,1,1,1,1,1,1]) (ms4.drop 1)) (bodyK Pg r4 Q))))=b4_0 y7 y8 y9 y10 y11 y12 y13 S KE0 Q:=by kernel_rfl
theorem loop4_0{y7 y8 y9 y10 y11 y12:AV}{y130:AV}{S:Store}{Q:PoT}(I:AV→Store→Prop)(μ:AV→Store→Nat)(h0:I y130 S)
    (hr:∀(y13:AV) (S:Store),I y13 S→∀ KE0:KeT,(∀(y13':AV) (S':Store),I y13' S'→μ y13' S'<μ y13 S→KE0 91 (env4_0 y7 y8 y9 y10 y11 y12 y13') S')→b4_0 y7 y8 y9 y10 y11 y12 y13 S KE0 Q):
    loopV lv4_0 (vc Pg (c4.at_ [1,1,1,1,1,1,1,1,0,1,0,0]) (ms4.drop 1)) 91 (env4_0 y7 y8 y9 y10 y11 y12 y130) S (blockK 0 (seqK (vc Pg (c4.at_ [1,1,1,1,1,1,1,1,1]) (ms4.drop 1)) (bodyK Pg r4 Q))):=by
 refine⟨fun n e S=>n=91∧∃ y13:AV,e=(env4_0 y7 y8 y9 y10 y11 y12 y13)∧I y13 S,fun _ e S=>μ (e.getD 6 .j) S,?_,?_⟩
 ·exact⟨_,_,Wk.refl _ _,rfl,_,rfl,h0⟩
 ·rintro _ e S ⟨rfl,y13,rfl,hI⟩
  exact(b4_0_eq _ _ _ _ _ _ _ _ _ _).mpr (hr y13 S hI _ (fun y13' S' hI' hm=>⟨_,_,Wk.refl _ _,⟨rfl,_,rfl,hI'⟩,hm⟩))
end
theorem two_pos(i:Nat):(0:Int)<2 ^ i:=Int.pow_pos (by decide)
theorem bitN_shift(s x:Int){i n:Nat}(h:i<n):bitN (s+x*2 ^ n) i=bitN s i:=by
 obtain⟨k,rfl⟩:∃ k,n=i+(k+1):=⟨n - i - 1,by omega⟩
 have h0:=two_pos i
 have e:x*2 ^ (i+(k+1))=(x*2 ^ k*2)*2 ^ i:=by
  rw[Int.pow_add,Int.pow_succ,Int.mul_comm (2 ^ i),←Int.mul_assoc,←Int.mul_assoc]
 rw[bitN,bitN,Int.fdiv_eq_ediv_of_nonneg _ (Int.le_of_lt h0),Int.fdiv_eq_ediv_of_nonneg _ (Int.le_of_lt h0),e,Int.add_mul_ediv_right _ _ (by omega),Int.add_mul_emod_self_right]
theorem bitsL_shift(s x:Int)(n:Nat):bitsL (s+x*2 ^ n) n=bitsL s n:=by
 unfold bitsL
 exact List.map_congr_left fun i hi=>bitN_shift s x (List.mem_range.1 hi)
theorem isB_congr{c:Ci}{s s':Int}(h:bitsL s c.gr.inputs.toNat=bitsL s' c.gr.inputs.toNat)(l:Int):isB c s l=isB c s' l:=by rw[isB,isB,h]
theorem afterTo_congr{c:Ci}{s s':Int}(h:bitsL s c.gr.inputs.toNat=bitsL s' c.gr.inputs.toNat):∀ i,afterTo c s i=afterTo c s' i
 |0=>by rw[afterTo,afterTo]
 |i+1=>by rw[afterTo,afterTo,afterTo_congr h i,isB_congr h]
theorem afterTo_bit(c:Ci)(s:Int):∀(m i:Nat),i<m→bitN (afterTo c s m) (c.inputs.toNat+i)=isB c s (c.latches.getD i (0,0)).1
 |0,i,h=>by omega
 |m+1,i,h=>by
  rw[afterTo]
  have hA:=afterTo_le c s m
  have h0:=two_pos (c.inputs.toNat+m)
  rcases Nat.lt_or_ge i m with hi|hi
  ·have ih:=afterTo_bit c s m i hi
   split
   ·have:=bitN_shift (afterTo c s m) 1 (i:=c.inputs.toNat+i) (n:=c.inputs.toNat+m) (by omega)
    rw[Int.one_mul]at this
    rw[this,ih]
   ·exact ih
  ·obtain rfl:i=m:=by omega
   cases hb:isB c s (c.latches.getD i (0,0)).1 with
   |true =>
    rw[if_pos rfl,bitN,Int.fdiv_eq_ediv_of_nonneg _ (Int.le_of_lt h0),Int.add_ediv_of_dvd_right ⟨1,by omega⟩,Int.ediv_eq_zero_of_lt hA.1 hA.2,Int.ediv_self (by omega)]
    decide
   |false =>
    rw[if_neg (by decide),bitN,Int.fdiv_eq_ediv_of_nonneg _ (Int.le_of_lt h0),Int.ediv_eq_zero_of_lt hA.1 hA.2]
    decide
theorem afterTo_dvd(c:Ci)(s:Int):∀ m,(2:Int) ^ c.inputs.toNat ∣ afterTo c s m
 |0=>⟨0,by rw[afterTo];omega⟩
 |m+1=>by
  rw[afterTo]
  obtain⟨x,hx⟩:=afterTo_dvd c s m
  split
  ·exact⟨x+2 ^ m,by rw[hx,Int.pow_add,Int.mul_add]⟩
  ·exact⟨x,hx⟩
theorem law4{l:List Int}(hl:∀ x∈l,0≤x∧x<65536){st mo:Int}(h0:0≤st∧st<256)(hmo:i64R mo):Ans Pg 4 [aL aW16 l,.v (.int .u8 st),aI mo] (aB true):=by
 intro S
 refine ACalls.ans_v (calls4 ?_)
 unfold m4
 refine callF_ans ans5 ?_
 rw[un_not,onB_v,gd_nT (b:=true) rfl]
 refine .inl ((made6 hl).mono ?_)
 rintro e S' ⟨tr,rfl,rfl,c,rfl,hc⟩
 show boxN _ _ _ _ _
 refine boxA_of rfl fun S1 k1 n1 o1=>?_
 refine stA_of (cs':=c.cells) o1 rfl rfl fun S2 n2 o2 f2=>?_
 have k2:=k1.st (Nat.le_refl _) n2 f2
 have hC:=hc.ok
 have hL:=hc.lats
 have hI:=hc.inp
 obtain⟨p,hp⟩:=Int.eq_ofNat_of_zero_le hI.1
 obtain⟨g1,g2,g3⟩:=gr_inp hc.right
 have hn:c.inputs+c.latches.length=((p+c.latches.length:Nat):Int):=by rw[hp];omega
 have hpn:p+c.latches.length≤6:=by omega
 have hg:c.gr.inputs.toNat=p+c.latches.length:=by rw[g1,hn];omega
 have hpt:c.inputs.toNat=p:=by rw[hp];omega
 generalize hN:p+c.latches.length=n at *
 have q0:=two_pos n
 have q1:(2:Int) ^ n≤64:=by
  have:2 ^ n≤2 ^ 6:=Nat.pow_le_pow_right (by decide) hpn
  have h2:((2 ^ n:Nat):Int)≤((2 ^ 6:Nat):Int):=Int.ofNat_le.2 this
  rw[Int.natCast_pow]at h2
  exact h2
 generalize hs:st.tmod (2 ^ n)=s
 have hs0:0≤s∧s<2 ^ n:=by
  rw[←hs,Int.tmod_eq_emod_of_nonneg h0.1]
  exact⟨Int.emod_nonneg _ (by omega),Int.emod_lt_of_pos _ q0⟩
 generalize hx:mo.tmod 1000=x
 have hx0:-1000<x∧x<1000:=by
  rw[←hx]
  have h1:=Int.tmod_lt_of_pos mo (b:=1000) (by decide)
  have h2:=Int.lt_tmod_of_pos mo (b:=1000) (by decide)
  omega
 have hxm:-64000≤x*2 ^ n∧x*2 ^ n≤64000:=by
  have h1:x*2 ^ n≤1000*2 ^ n:=Int.mul_le_mul_of_nonneg_right (by omega) (by omega)
  have h2:(-1000)*2 ^ n≤x*2 ^ n:=Int.mul_le_mul_of_nonneg_right (by omega) (by omega)
  omega
 have hab:afterB c (s+x*2 ^ n)=afterB c s:=by
  unfold afterB
  have e:bitsL (s+x*2 ^ n) c.gr.inputs.toNat=bitsL s c.gr.inputs.toNat:=by rw[hg,bitsL_shift]
  split
  ·exact afterTo_congr e _
  ·rfl
 have hA:afterB c s=afterTo c s c.latches.length:=by
  unfold afterB
  rw[hc.right,if_pos (by rw[Bool.true_and];exact decide_eq_true (by omega))]
 rw[shift_p,ld1_p (u:=aI c.inputs) o2 rfl rfl,shift_p,ld1_p (u:=pL c.latches) o2 rfl rfl,lenS_pL,bin_add (by omega) (by omega),convI_64 _ (by omega) (by omega),hn,bin_shl1 (by omega),bin_rem (by omega),hs,ldN_p (n:=8) o2 rfl]
 refine callF_ans (ans9 hC s) ?_
 have c2:=ans9 hC (s+x*2 ^ n)
 rw[hab]at c2
 have r1:∀{P:AV→Prop},(∃ q,(bin .rem 0 (.v (.int .i64 mo)) (.v (.int .i64 1000)) S2 fun v S=>v=q∧S=S2)∧P q)=P (.v (.int .i64 x)):=J_by (op:=fun K=>bin .rem 0 (.v (.int .i64 mo)) (.v (.int .i64 1000)) S2 K) fun K=>by rw[bin_rem (by decide),hx]
 have r2:∀{P:AV→Prop},(∃ q,(bin .shl 0 (.v (.int .i64 1)) (aI n) S2 fun v S=>v=q∧S=S2)∧P q)=P (.v (.int .i64 (2 ^ n))):=J_by (op:=fun K=>bin .shl 0 (.v (.int .i64 1)) (aI n) S2 K) fun K=>bin_shl1 (by omega)
 have r3:∀{P:AV→Prop},(∃ q,(bin .mul 0 (.v (.int .i64 x)) (.v (.int .i64 (2 ^ n))) S2 fun v S=>v=q∧S=S2)∧P q)=P (.v (.int .i64 (x*2 ^ n))):=J_by (op:=fun K=>bin .mul 0 (.v (.int .i64 x)) (.v (.int .i64 (2 ^ n))) S2 K) fun K=>bin_mul (by omega) (by omega) 0
 have r4:∀{P:AV→Prop},(∃ q,(bin .add 0 (.v (.int .i64 s)) (.v (.int .i64 (x*2 ^ n))) S2 fun v S=>v=q∧S=S2)∧P q)=P (.v (.int .i64 (s+x*2 ^ n))):=J_by (op:=fun K=>bin .add 0 (.v (.int .i64 s)) (.v (.int .i64 (x*2 ^ n))) S2 K) fun K=>bin_add (by omega) (by omega) 0
 show ∃ q:AV,_
 (repeat (first|with_reducible_and_instances (first|refine WJ ?_|refine W (J_ldN (n:=8) o2 (by with_unfolding_all rfl)) ?_|refine W (r1) ?_|refine W (r2) ?_|refine W (r3) ?_|refine W (r4) ?_|refine W (J_ldq (by with_unfolding_all rfl)) ?_)|refine J_cA (c2) rfl rfl ?_|refine C_A (c2) rfl rfl ?_))
 have hll:=hC.llen
 refine loop4_0 (fun y T=>T=S2∧∃ i:Nat,y=aI i∧i≤c.latches.length) (fun y _=>c.latches.length - ((intA y).getD 0).toNat) ⟨rfl,0,rfl,Nat.zero_le _⟩ ?_
 rintro _ T ⟨rfl,i,rfl,hi⟩ KE hKE
 unfold b4_0
 rw[shift_p,ld1_p (u:=pL c.latches) o2 rfl rfl,lenS_pL,bin_lss,onB_v]
 refine gd_of (fun hlt=>?_) (fun hge=>?_)
 ·have hlt:i<c.latches.length:=by have:=dT hlt;omega
  have ci:=ans10 hC s (l:=(c.latches[i]).1) (hC.lats _ (List.getElem_mem hlt)).1
  have hbit:=afterTo_bit c s c.latches.length i hlt
  rw[hpt,List.getD_eq_getElem?_getD,List.getElem?_eq_getElem hlt,Option.getD_some,←hA,bitN]at hbit
  have hA0:=afterTo_le c s c.latches.length
  rw[←hA,hpt]at hA0
  have t1:∀{P:AV→Prop},(∃ q,(bin .add 0 (.v (.int .i64 c.inputs)) (aI i) T fun v S=>v=q∧S=T)∧P q)=P (aI (p+i:Nat)):=J_by (op:=fun K=>bin .add 0 (.v (.int .i64 c.inputs)) (aI i) T K) fun K=>by
   rw[bin_add (by omega) (by omega) 0,hp];rfl
  have t2:∀{P:AV→Prop},(∃ q,(bin .shr 0 (aI (afterB c s)) (aI (p+i:Nat)) T fun v S=>v=q∧S=T)∧P q)=P (aI ((afterB c s).fdiv (2 ^ (p+i)))):=J_by (op:=fun K=>bin .shr 0 (aI (afterB c s)) (aI (p+i:Nat)) T K) fun K=>bin_shrN (by omega)
  have hf0:0≤(afterB c s).fdiv (2 ^ (p+i)):=by
   rw[Int.fdiv_eq_ediv_of_nonneg _ (Int.le_of_lt (two_pos _))]
   exact Int.ediv_nonneg hA0.1 (Int.le_of_lt (two_pos _))
  have t3:∀{P:AV→Prop},(∃ q,(bin .rem 0 (aI ((afterB c s).fdiv (2 ^ (p+i)))) (.v (.int .i64 2)) T fun v S=>v=q∧S=T)∧P q)=P (aI ((afterB c s).fdiv (2 ^ (p+i)) % 2)):=J_by (op:=fun K=>bin .rem 0 (aI ((afterB c s).fdiv (2 ^ (p+i)))) (.v (.int .i64 2)) T K) fun K=>by
   rw[bin_rem (by decide),Int.tmod_eq_emod_of_nonneg hf0]
  have t4:∀{P:AV→Prop},(∃ q,(ixS 39 2 (pL c.latches) (aI i) T fun v S=>v=q∧S=T)∧P q)=P (.q [aI c.latches[i].1,aI c.latches[i].2] 0):=J_by (op:=fun K=>ixS 39 2 (pL c.latches) (aI i) T K) fun K=>ixS_pL hlt
  have t5:∀{P:AV→Prop},(∃ q,(ld1 (.q [aI c.latches[i].1,aI c.latches[i].2] (0+0)) T fun v S=>v=q∧S=T)∧P q)=P (aI c.latches[i].1):=J_by (op:=fun K=>ld1 (.q [aI c.latches[i].1,aI c.latches[i].2] (0+0)) T K) fun K=>ld1_qj rfl
  show ∃ q:AV,_
  (repeat (first|with_reducible_and_instances (first|refine WJ ?_|refine W (J_ldN (n:=8) o2 (by with_unfolding_all rfl)) ?_|refine W (J_ldp (u:=aI c.inputs) o2 (by with_unfolding_all rfl) (by with_unfolding_all rfl)) ?_|refine W (J_ldp (u:=pL c.latches) o2 (by with_unfolding_all rfl) (by with_unfolding_all rfl)) ?_|refine W (t1) ?_|refine W (t2) ?_|refine W (t3) ?_|refine W (t4) ?_|refine W (t5) ?_|refine W (J_ldq (by with_unfolding_all rfl)) ?_)|refine J_cA (ci) rfl rfl ?_|refine C_A (ci) rfl rfl ?_))
  have hne:(decide ((afterB c s).fdiv (2 ^ (p+i)) % 2=1) != isB c s (c.latches[i]).1)=false:=by rw[hbit];simp
  rw[gd_F hne,bin_add (by omega) (by omega)]
  exact hKE _ _ ⟨rfl,i+1,rfl,hlt⟩ (by simp[intA];omega)
 ·have hA0:=afterTo_le c s c.latches.length
  rw[←hA,hpt,hN]at hA0
  have hd:=afterTo_dvd c s c.latches.length
  rw[←hA,hpt]at hd
  rw[onB_v,gd_T rfl,bin_eql,onB_v,gd_T (decide_eq_true rfl),bin_geq,onB_v,gd_T (decide_eq_true hA0.1),bin_shl1 (by omega),bin_lss,onB_v,gd_T (decide_eq_true hA0.2),shift_p,ld1_p (u:=aI c.inputs) o2 rfl rfl,hp,bin_shl1 (by omega),bin_rem (by have:=two_pos p;omega),bin_eql,Int.tmod_eq_emod_of_nonneg hA0.1,Int.emod_eq_zero_of_dvd hd]
  exact⟨rfl,k2⟩
end
end Go.Proofs.YtmpjhihpcaephaaDoor.G

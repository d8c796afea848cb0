/- Tree -/
import Derived.Test.YtolgpokppnajdaaGreatProg
import Derived.KernelRfl
import Derived.Test.YtolgpokppnajdaaGreatWfT3
set_option linter.unusedVariables false
set_option linter.unusedSimpArgs false
namespace Go.Proofs.YtolgpokppnajdaaGreat.G
open Go Go.Ab
noncomputable section
theorem ans40{g:Gr}(hg:g.ok)(hi:g.inputs≤1000000)(h0:0≤g.inputs):Ans Pg 40 [g.av] (aI g.vars):=by
 intro S
 have hl:=hg.len
 refine ACalls.ans_v (calls40 ?_)
 unfold m40 Gr.av
 refine boxA_of rfl fun S1 k1 n1 o1=>?_
 rw[shift_p,ld1_p o1 rfl rfl,bin_add (by omega) (by omega),shift_p,ld1_p o1 rfl rfl,lenS_pL,bin_add (by omega) (by omega)]
 exact⟨rfl,k1⟩
theorem ans112{g:Gr}{l:Int}(hg:g.ok)(hl:i64R l):Ans Pg 112 [g.av,aI l] (aB (g.lit l)):=by
 intro S
 refine ACalls.ans_v (calls112 ?_)
 unfold m112 Gr.av Gr.lit
 refine boxA_of rfl fun S1 k1 n1 o1=>?_
 rw[shift_p,ld1_p o1 rfl rfl,bin_geq,onB_v]
 refine gd_of (fun h1=>?_) (fun h1=>⟨by simp only[h1,Bool.false_and],k1⟩)
 rw[shift_p,ld1_p o1 rfl rfl,bin_leq,onB_v]
 refine gd_of (fun h2=>?_) (fun h2=>⟨by simp only[h1,h2,Bool.false_and,Bool.true_and],k1⟩)
 rw[bin_geq,onB_v]
 refine gd_of (fun h3=>?_) (fun h3=>⟨by simp only[h1,h2,h3,Bool.false_and,Bool.true_and],k1⟩)
 rw[bin_half hl,ldN_p (n:=2) o1 rfl]
 refine callF_ans (ans40 hg (by have:=dT h2;omega) (dT h1)) ?_
 rw[bin_lss]
 exact⟨by simp only[h1,h2,h3,Bool.true_and],k1⟩
theorem binP_eq{a b c d:Int}{S:Store}{K:AV→Store→Prop}:binP .i64 .eql (.a [aI a,aI b]) (.a [aI c,aI d]) S K=K (aB (decide ((a,b)=(c,d)))) S:=by
 simp[binP,keyA]
theorem ixA_q{n sz:Nat}{c:List AV}{z:Nat}{S:Store}{K:AV→Store→Prop}(hz:z<n):ixA n sz (.q c 0) (aI z) S K=K (.q c (z*sz)) S:=by
 unfold ixA
 simp only[intA,optP_some,Int.toNat_natCast,shift,Nat.zero_add]
 exact propext ⟨fun h=>h.2,fun h=>⟨⟨by omega,by omega⟩,h⟩⟩
theorem ld1_q1{u v:AV}{S:Store}{K:AV→Store→Prop}:ld1 (.q [u,v] 1) S K=K v S:=by simp[ld1,rd1,place]
theorem ld1_q0{u:AV}{l:List AV}{S:Store}{K:AV→Store→Prop}:ld1 (.q (u :: l) 0) S K=K u S:=by simp[ld1,rd1,place]
theorem right_iff{g:Gr}:g.right=true↔0≤g.inputs∧g.inputs≤2000∧(g.ands.length:Int)≤2000∧g.vars≤2000∧(∀ j,j<g.ands.length→may (g.ands.getD j (0,0)) (g.inputs+1+j)=true)∧g.ands.Nodup:=by
 simp[Gr.right]
theorem nodup_take{α:Type}[DecidableEq α]{l:List α}{i:Nat}(h:i<l.length):(l.take (i+1)).Nodup↔(l.take i).Nodup∧∀ k (hk:k<i),l[k]≠l[i]:=by
 rw[List.take_add_one,List.getElem?_eq_getElem h,List.nodup_append]
 constructor
 ·rintro⟨h1,_,h3⟩
  refine⟨h1,fun k hk=>h3 _ ?_ _ (by simp)⟩
  rw[List.mem_take_iff_getElem]
  exact⟨k,by omega,rfl⟩
 ·rintro⟨h1,h2⟩
  refine⟨h1,by simp,fun a ha b hb=>?_⟩
  have:b=l[i]:=by simpa using hb
  subst this
  rw[List.mem_take_iff_getElem]at ha
  obtain⟨k,hk,rfl⟩:=ha
  exact h2 k (by omega)
theorem may_false1{p:Int × Int}{v:Int}(h:p.2<2):may p v=false:=by simp[may,show ¬ 2≤p.2 by omega]
theorem may_false2{p:Int × Int}{v:Int}(h:p.1.tdiv 2≤p.2.tdiv 2):may p v=false:=by simp[may,show ¬ p.2.tdiv 2<p.1.tdiv 2 by omega]
theorem may_false3{p:Int × Int}{v:Int}(h:v≤p.1.tdiv 2):may p v=false:=by simp[may,show ¬ p.1.tdiv 2<v by omega]
theorem right_may{g:Gr}{i:Nat}(h:i<g.ands.length)(hm:may (g.ands.getD i (0,0)) (g.inputs+1+i)=false):g.right=false:=by
 cases e:g.right with
 |false=>rfl
 |true=>rw[(right_iff.1 e).2.2.2.2.1 i h]at hm;cases hm
theorem ans111{g:Gr}(hg:g.ok):Ans Pg 111 [g.av] (aB g.right):=by
 intro S
 refine ACalls.ans_v (calls111 ?_)
 have hlen:=hg.len
 unfold m111 Gr.av
 refine boxA_of rfl fun S1 k1 n1 o1=>?_
 rw[shift_p,ld1_p o1 rfl rfl,bin_lss,onB_v]
 refine gd_of (fun h1=>⟨?_,k1⟩) (fun h1=>?_)
 ·have h1:=dT h1
  simp[Gr.right,show ¬ 0≤g.inputs by omega]
 have h1:0≤g.inputs:=by simpa using h1
 rw[shift_p,ld1_p o1 rfl rfl,bin_gtr,onB_v]
 refine gd_of (fun h2=>⟨?_,k1⟩) (fun h2=>?_)
 ·have h2:=dT h2
  simp[Gr.right,show ¬ g.inputs≤2000 by omega]
 have h2:g.inputs≤2000:=by simpa using h2
 rw[shift_p,ld1_p o1 rfl rfl,lenS_pL,bin_gtr,onB_v]
 refine gd_of (fun h3=>⟨?_,k1⟩) (fun h3=>?_)
 ·have h3:=dT h3
  have:¬ (g.ands.length:Int)≤2000:=by omega
  simp only[Gr.right,this,decide_false,Bool.false_and,Bool.and_false]
 have h3:g.ands.length≤2000:=by have:=dF h3;omega
 rw[ldN_p (n:=2) o1 rfl]
 refine callF_ans (ans40 hg (by omega) h1) ?_
 rw[bin_gtr,onB_v]
 refine gd_of (fun h4=>⟨?_,k1⟩) (fun h4=>?_)
 ·have h4:=dT h4
  simp[Gr.right,show ¬ g.vars≤2000 by omega]
 have h4:g.vars≤2000:=by simpa using h4
 refine loop111_0 (fun y S'=>S'=S1∧∃ i:Nat,y=aI i∧i≤g.ands.length∧(∀ j,j<i→may (g.ands.getD j (0,0)) (g.inputs+1+j)=true)∧(g.ands.take i).Nodup)
  (fun y _=>g.ands.length - ((intA y).getD 0).toNat) ⟨rfl,0,rfl,Nat.zero_le _,fun j hj=>(Nat.not_lt_zero _ hj).elim,by simp⟩ ?_
 rintro _ S1 ⟨rfl,i,rfl,hi,hmay,hnd⟩ KE hKE
 unfold b111_0
 rw[shift_p,ld1_p o1 rfl rfl,lenS_pL,bin_lss,onB_v]
 refine gd_of (fun hlt=>?_) (fun hge=>?_)
 ·have hlt:i<g.ands.length:=by simpa using hlt
  have hg':g.ands.getD i (0,0)=g.ands[i]:=by simp[List.getD_eq_getElem?_getD,hlt]
  have hp:=hg.pairs _ (List.getElem_mem hlt)
  have e1:∀(c:List AV) (K:AV→Store→Prop),ixA 2 1 (.q c 0) (.v (.int .i64 1)) S1 K=K (.q c 1) S1:=fun c K=>ixA_q (z:=1) (by decide)
  have e0:∀(c:List AV) (K:AV→Store→Prop),ixA 2 1 (.q c 0) (.v (.int .i64 0)) S1 K=K (.q c 0) S1:=fun c K=>ixA_q (z:=0) (by decide)
  show ∃ q24:AV,_
  refine⟨_,by rw[shift_p];exact⟨rfl,rfl⟩,_,by rw[ld1_p o1 rfl rfl];exact⟨rfl,rfl⟩,_,by rw[ixS_pL hlt];exact⟨rfl,rfl⟩,_,by rw[e0];exact⟨rfl,rfl⟩,_,by rw[ld1_q0];exact⟨rfl,rfl⟩,
   _,by rw[shift_p];exact⟨rfl,rfl⟩,_,by rw[ld1_p o1 rfl rfl];exact⟨rfl,rfl⟩,_,by rw[ixS_pL hlt];exact⟨rfl,rfl⟩,_,by rw[e1];exact⟨rfl,rfl⟩,_,by rw[ld1_q1];exact⟨rfl,rfl⟩,?_⟩
  rw[bin_lss,onB_v]
  refine gd_of (fun h5=>⟨?_,k1⟩) (fun h5=>?_)
  ·rw[right_may hlt (by rw[hg'];exact may_false1 (dT h5))]
  rw[bin_half hp.1,bin_half hp.2,bin_leq,onB_v]
  refine gd_of (fun h6=>⟨?_,k1⟩) (fun h6=>?_)
  ·rw[right_may hlt (by rw[hg'];exact may_false2 (dT h6))]
  rw[bin_half hp.1,shift_p,ld1_p o1 rfl rfl,bin_add (by omega) (by omega),bin_add (by omega) (by omega),bin_geq,onB_v]
  refine gd_of (fun h7=>⟨?_,k1⟩) (fun h7=>?_)
  ·rw[right_may hlt (by rw[hg'];exact may_false3 (dT h7))]
  have h5:=dF h5
  have h6:=dF h6
  have h7:=dF h7
  refine loop111_1 (fun y S'=>S'=S1∧∃ k:Nat,y=aI k∧k≤i∧∀ j (hj:j<k) (hk:k≤i),g.ands[j]'(by omega)≠g.ands[i])
   (fun y _=>g.ands.length - ((intA y).getD 0).toNat) ⟨rfl,0,rfl,Nat.zero_le _,fun j hj=>(Nat.not_lt_zero _ hj).elim⟩ ?_
  rintro _ S1 ⟨rfl,k,rfl,hk,hne⟩ KE1 hKE1
  unfold b111_1
  rw[bin_lss,onB_v]
  refine gd_of (fun hlk=>?_) (fun hgk=>?_)
  ·have hlk:k<i:=by simpa using hlk
   have hkl:k<g.ands.length:=by omega
   show ∃ q24:AV,_
   refine⟨_,by rw[shift_p];exact⟨rfl,rfl⟩,_,by rw[ld1_p o1 rfl rfl];exact⟨rfl,rfl⟩,_,by rw[ixS_pL hkl];exact⟨rfl,rfl⟩,_,by rw[ldN_q2];exact⟨rfl,rfl⟩,
    _,by rw[shift_p];exact⟨rfl,rfl⟩,_,by rw[ld1_p o1 rfl rfl];exact⟨rfl,rfl⟩,_,by rw[ixS_pL hlt];exact⟨rfl,rfl⟩,_,by rw[ldN_q2];exact⟨rfl,rfl⟩,_,by rw[binP_eq];exact⟨rfl,rfl⟩,?_⟩
   rw[onB_v]
   refine gd_of (fun h8=>⟨?_,k1⟩) (fun h8=>?_)
   ·have h8:g.ands[k]=g.ands[i]:=dT h8
    have:g.right=false:=by
     cases e:g.right with
     |false=>rfl
     |true =>
      have hnd:=(right_iff.1 e).2.2.2.2.2
      exact absurd h8 (List.pairwise_iff_getElem.1 hnd k i hkl hlt hlk)
    rw[this]
   ·have h8:¬ g.ands[k]=g.ands[i]:=dF h8
    have hadd:∀ K:AV→Store→Prop,∀ S,bin .add 0 (.v (.int .i64 (k:Int))) (.v (.int .i64 1)) S K=K (aI (k+1:Nat)) S:=fun K S=>bin_add (by omega) (by omega) 0
    rw[hadd]
    refine hKE1 _ _ ⟨rfl,k+1,rfl,hlk,fun j hj _=>?_⟩ (by simp[intA];omega)
    rcases Nat.lt_or_ge j k with hj'|hj'
    ·exact hne j hj' (by omega)
    ·have:j=k:=by omega
     subst this
     exact h8
  ·have hge:k=i:=by simp at hgk;omega
   subst hge
   have hadd:∀ K:AV→Store→Prop,∀ S,bin .add 0 (.v (.int .i64 (k:Int))) (.v (.int .i64 1)) S K=K (aI (k+1:Nat)) S:=fun K S=>bin_add (by omega) (by omega) 0
   rw[hadd]
   refine hKE _ _ ⟨rfl,k+1,rfl,hlt,fun j hj=>?_,(nodup_take hlt).2 ⟨hnd,fun j hj=>hne j hj (Nat.le_refl _)⟩⟩ (by simp[intA];omega)
   rcases Nat.lt_or_ge j k with hj'|hj'
   ·exact hmay j hj'
   ·have:j=k:=by omega
    subst this
    rw[hg']
    simp[may,show 2≤(g.ands[j]).2 by omega,show(g.ands[j]).2.tdiv 2<(g.ands[j]).1.tdiv 2 by omega,show(g.ands[j]).1.tdiv 2<g.inputs+1+j by omega]
 ·have hge:i=g.ands.length:=by simp at hge;omega
  subst hge
  rw[List.take_length]at hnd
  rw[right_iff.2 ⟨h1,h2,by omega,h4,hmay,hnd⟩]
  exact⟨rfl,k1⟩
theorem Own.appL{n:Nat}{S:Store}{x:AV}{e sz b:Nat}{es ys:List (List AV)}(h:Own n S x e es)(hn:n≤S.n){K:AV→Store→Prop}(hc:∀ c∈ys,c.length=sz)(hb:(es.length+ys.length)*b≤140737488355328)
    (k:∀ x' S',Own n S' x' e (es++ys)→But S S' x→(x'=x∨∃ m,x' = .s S.n 0 m)→K x' S') {y:AV} (hy:srcE S y=some ys):appS e sz b x y S K:=by
 refine⟨h.isSl,ys,hy,hc,?_⟩
 cases ys with
 |nil=>exact k x S (by simpa using h) ⟨Nat.le_refl _,fun _ _ _=>rfl⟩ (.inl rfl)
 |cons c ys =>
  rcases h with⟨rfl,rfl⟩|⟨id,rfl,h1,h2,h3⟩
  ·refine⟨by simpa using hb,k _ _ (.inr ⟨S.n,rfl,hn,Nat.lt_succ_self _,by simp[Store.new]⟩) ⟨Nat.le_succ _,fun i hi _=>?_⟩ (.inr ⟨_,rfl⟩)⟩
   simp only[Store.new];rw[if_neg (by omega)]
  ·simp only[appE,h3]
   refine⟨⟨trivial,trivial,by simpa using hb⟩,k _ _ (.inr ⟨S.n,by simp,hn,Nat.lt_succ_self _,by simp[Store.new,Store.kill]⟩) ⟨Nat.le_succ _,fun i hi hne=>?_⟩ (.inr ⟨_,rfl⟩)⟩
   have e1:i≠S.n:=by omega
   have e2:i≠id:=fun hq=>hne 0 es.length (by rw[hq])
   simp[Store.new,Store.kill,e1,e2]
theorem bslP{e:Nat}{z1 z2 u v:AV}{S:Store}{K:AV→Store→Prop}(k:K (.l [[u,v]]) S):bslN e 2 1 [z1,z2] [(0,.a [u,v])] S K:=by
 refine⟨[u,v],?_,.inr ?_⟩
 ·simp[fillA,cellsOf,spl,List.range_succ]
 ·simpa[chunks,List.range_succ]using k
@[simp] theorem mx_true(a b:Int){S:Store}{K:AV→Store→Prop}:mxI true (aI a) (aI b) S K=K (aI (if b > a then b else a)) S:=rfl
@[simp] theorem mx_false(a b:Int){S:Store}{K:AV→Store→Prop}:mxI false (aI a) (aI b) S K=K (aI (if b<a then b else a)) S:=rfl
theorem treeP(l:List (Int × Int)):Tree (pL l):=Tree.l fun c hc u hu=>by
 obtain⟨p,_,rfl⟩:=List.mem_map.1 hc
 rcases List.mem_cons.1 hu with rfl|hu
 ·exact Tree.v _
 ·rcases List.mem_cons.1 hu with rfl|hu
  ·exact Tree.v _
  ·simp at hu
theorem Gr.tree(g:Gr):Tree g.av:=Tree.a fun u hu=>by
 rcases List.mem_cons.1 hu with rfl|hu
 ·exact Tree.v _
 ·rcases List.mem_cons.1 hu with rfl|hu
  ·exact treeP _
  ·simp at hu
theorem cv_t3{S:Store}{n:Nat}{x y z x' y' z':AV}(h1:Cv S n x x')(h2:Cv S n y y')(h3:Cv S n z z'):Cv S n (.t [x,y,z]) (.t [x',y',z']):=
 .t _ _ rfl fun k u u2 hk hk2=>by
  match k with
  |0=>cases hk;cases hk2;exact h1
  |1=>cases hk;cases hk2;exact h2
  |2=>cases hk;cases hk2;exact h3
  |k+3=>simp at hk
theorem cv_t2{S:Store}{n:Nat}{x y x' y':AV}(h1:Cv S n x x')(h2:Cv S n y y'):Cv S n (.t [x,y]) (.t [x',y']):=
 .t _ _ rfl fun k u u2 hk hk2=>by
  match k with
  |0=>cases hk;cases hk2;exact h1
  |1=>cases hk;cases hk2;exact h2
  |k+2=>simp at hk
theorem cv_a2{S:Store}{n:Nat}{x y x' y':AV}(h1:Cv S n x x')(h2:Cv S n y y'):Cv S n (.a [x,y]) (.a [x',y']):=
 .a _ _ rfl fun k u u2 hk hk2=>by
  match k with
  |0=>cases hk;cases hk2;exact h1
  |1=>cases hk;cases hk2;exact h2
  |k+2=>simp at hk
theorem gd_two{b c:Bool}{R T:Prop}(h1:b=true→c=true→R)(h2:¬ (b=true∧c=true)→T):gd b (gd c R T) T:=by
 cases b<;>cases c<;>simp_all [gd]
def andT(g:Gr)(x y:Int):Gr × Int × Int:=
 if y=0 then(g,0,0)
 else if x.tdiv 2=y.tdiv 2∧x≠y then(g,0,0)
 else if y=1 then(g,x,0)
 else if x=y then(g,x,0)
 else match g.ands.findIdx? (fun p=>decide (p=(x,y)))with
  |some i=>(g,2*(g.inputs+1+i),0)
  |none=>if 2000≤g.vars then(⟨0,[]⟩,0,2)else(⟨g.inputs,g.ands ++ [(x,y)]⟩,2*(g.vars+1) - 2,0)
def Gr.and(g:Gr)(a b:Int):Gr × Int × Int:=
 if(g.right && (g.lit a && g.lit b))=false then(⟨0,[]⟩,0,1)else andT g (if b > a then b else a) (if b<a then b else a)
def andAV(r:Gr × Int × Int):AV:=.t [r.1.av,aI r.2.1,aI r.2.2]
theorem vars40{i:Int}{x:AV}{n:Nat}(hx:∀(S:Store) (K:AV→Store→Prop),lenS x S K=K (aI n) S)(h0:0≤i)(h1:i≤1000000)(hn:n≤2000000):Ans Pg 40 [.a [aI i,x]] (aI (i+1+n)):=by
 intro S
 refine ACalls.ans_v (calls40 ?_)
 unfold m40
 refine boxA_of rfl fun S1 k1 n1 o1=>?_
 rw[shift_p,ld1_p o1 rfl rfl,bin_add (by omega) (by omega),shift_p,ld1_p o1 rfl rfl,hx,bin_add (by omega) (by omega)]
 exact⟨rfl,k1⟩
theorem ans120{g:Gr}{a b:Int}(hg:g.ok)(ha:i64R a)(hb:i64R b):Ans Pg 120 [g.av,aI a,aI b] (andAV (g.and a b)):=by
 intro S
 refine ACalls.tree (calls120 ?_)
 have hlen:=hg.len
 unfold m120
 have bd:∀{a b:Int} {S:Store} {K:AV→Store→Prop},bld [(0,1),(1,1)] [.v (.int .i64 0),.v (.int .i64 0)] [(0,aI a),(1,aI b)] S K=K (.a [aI a,aI b]) S:=bld_of rfl
 have bz:∀{S:Store} {K:AV→Store→Prop},bld [(0,1),(1,1)] [.v (.int .i64 0),.nl] [] S K=K (.a [aI 0,.nl]) S:=bld_of rfl
 refine boxA_of rfl fun S1 k1 n1 o1=>?_
 refine boxA_of rfl fun S2 k2 n2 o2=>?_
 have k2:=k1.trans k2
 have p1:S2.obj S.n=_:=(‹Keep S1 S2›.2 S.n (by omega)).trans o1
 have fin:∀{S':Store} {v:AV} (r:Gr × Int × Int),Keep S S'→Cv (S'.frz (newer S.n)) S.n v r.1.av→g.and a b=r→∃ q,AEnd.ret (.t [v,aI r.2.1,aI r.2.2]) = .ret q∧Keep S S'∧Cv (S'.frz (newer S.n)) S.n q (andAV (g.and a b)):=
  fun r hk hc e=>⟨_,rfl,hk,by rw[e];exact cv_t3 hc (.v _) (.v _)⟩
 have err:∀ S',Cv (Store.frz S' (newer S.n)) S.n (.a [aI 0,.nl]) (Gr.av ⟨0,[]⟩):=fun _=>cv_a2 (.v _) .nl
 have bad:∀{e:Int},(g.right && (g.lit a && g.lit b))=false→g.and a b=(⟨0,[]⟩,0,1):=fun h=>by simp only[Gr.and];rw[if_pos h]
 rw[ldN_p (n:=2) p1 rfl]
 refine callF_ans (ans111 hg) ?_
 rw[un_not,onB_v]
 refine gd_of (fun h1=>?_) (fun h1=>?_)
 ·rw[bz]
  refine stA_of o2 rfl rfl fun S3 n3 o3 f3=>?_
  rw[ldN_p (n:=2) o3 rfl]
  exact fin (⟨0,[]⟩,0,1) (k2.st (by omega) n3 f3) (err _) (bad (e:=0) (by rw[Bool.not_eq_true']at h1;rw[h1];rfl))
 have h1:g.right=true:=by simpa using h1
 rw[ldN_p (n:=2) p1 rfl]
 refine callF_ans (ans112 hg ha) ?_
 rw[un_not,onB_v]
 refine gd_of (fun h2=>?_) (fun h2=>?_)
 ·rw[bz]
  refine stA_of o2 rfl rfl fun S3 n3 o3 f3=>?_
  rw[ldN_p (n:=2) o3 rfl]
  exact fin (⟨0,[]⟩,0,1) (k2.st (by omega) n3 f3) (err _) (bad (e:=0) (by rw[Bool.not_eq_true']at h2;rw[h1,h2];rfl))
 have h2:g.lit a=true:=by simpa using h2
 rw[ldN_p (n:=2) p1 rfl]
 refine callF_ans (ans112 hg hb) ?_
 rw[un_not,onB_v]
 refine gd_of (fun h3=>?_) (fun h3=>?_)
 ·rw[bz]
  refine stA_of o2 rfl rfl fun S3 n3 o3 f3=>?_
  rw[ldN_p (n:=2) o3 rfl]
  exact fin (⟨0,[]⟩,0,1) (k2.st (by omega) n3 f3) (err _) (bad (e:=0) (by rw[Bool.not_eq_true']at h3;rw[h1,h2,h3];rfl))
 have h3:g.lit b=true:=by simpa using h3
 obtain⟨r1,r2,r3,r4,r5,r6⟩:=right_iff.1 h1
 rw[mx_true,mx_false]
 have hx:i64R (if b > a then b else a):=by split<;>assumption
 have hy:i64R (if b<a then b else a):=by split<;>assumption
 have hand:g.and a b=andT g (if b > a then b else a) (if b<a then b else a):=by
  simp only[Gr.and]
  rw[if_neg (by rw[h1,h2,h3];decide)]
 generalize hex:(if b > a then b else a)=x at *
 generalize hey:(if b<a then b else a)=y at *
 have ok:∀{S':Store},Cv (S'.frz (newer S.n)) S.n (.a g.cells) g.av:=fun{S'}=>g.tree _ _
 rw[bin_eql,onB_v]
 refine gd_of (fun h4=>?_) (fun h4=>?_)
 ·rw[ldN_p (n:=2) p1 rfl]
  refine stA_of o2 rfl rfl fun S3 n3 o3 f3=>?_
  rw[ldN_p (n:=2) o3 rfl]
  exact fin (g,0,0) (k2.st (by omega) n3 f3) ok (hand.trans (by rw[andT,if_pos (dT h4)]))
 have h4:=dF h4
 rw[bin_half hx,bin_half hy,bin_eql,onB_v]
 rw[bin_neq,onB_v]
 refine gd_two (fun h5 h6=>?_) (fun h7=>?_)
 ·rw[ldN_p (n:=2) p1 rfl]
  refine stA_of o2 rfl rfl fun S3 n3 o3 f3=>?_
  rw[ldN_p (n:=2) o3 rfl]
  exact fin (g,0,0) (k2.st (by omega) n3 f3) ok (hand.trans (by rw[andT,if_neg h4,if_pos ⟨dT h5,by simpa using h6⟩]))
 ·have h7:¬ (x.tdiv 2=y.tdiv 2∧x≠y):=fun h=>h7 ⟨by simpa using h.1,by simpa using h.2⟩
  have hand:g.and a b=(if y=1 then(g,x,(0:Int))
   else if x=y then(g,x,0)
   else match g.ands.findIdx? (fun p=>decide (p=(x,y)))with
    |some i=>(g,2*(g.inputs+1+i),0)
    |none=>if 2000≤g.vars then(⟨0,[]⟩,0,2)else(⟨g.inputs,g.ands ++ [(x,y)]⟩,2*(g.vars+1) - 2,0):Gr × Int × Int):=hand.trans (by rw[andT,if_neg h4,if_neg h7])
  rw[bin_eql,onB_v]
  refine gd_of (fun h8=>?_) (fun h8=>?_)
  ·rw[ldN_p (n:=2) p1 rfl]
   refine stA_of o2 rfl rfl fun S3 n3 o3 f3=>?_
   rw[ldN_p (n:=2) o3 rfl]
   exact fin (g,x,0) (k2.st (by omega) n3 f3) ok (hand.trans (by rw[if_pos (dT h8)]))
  have h8:=dF h8
  rw[bin_eql,onB_v]
  refine gd_of (fun h9=>?_) (fun h9=>?_)
  ·rw[ldN_p (n:=2) p1 rfl]
   refine stA_of o2 rfl rfl fun S3 n3 o3 f3=>?_
   rw[ldN_p (n:=2) o3 rfl]
   exact fin (g,x,0) (k2.st (by omega) n3 f3) ok (hand.trans (by rw[if_neg h8,if_pos (dT h9)]))
  have h9:=dF h9
  have hand:=hand.trans (by rw[if_neg h8,if_neg h9])
  refine loop120_0 (fun z S'=>S'=S2∧∃ i:Nat,z=aI i∧i≤g.ands.length∧∀ j (hj:j<g.ands.length),j<i→g.ands[j]≠(x,y))
   (fun z _=>g.ands.length - ((intA z).getD 0).toNat) ⟨rfl,0,rfl,Nat.zero_le _,fun j _ hj=>(Nat.not_lt_zero _ hj).elim⟩ ?_
  rintro _ S2 ⟨rfl,i,rfl,hi,hno⟩ KE hKE
  unfold b120_0
  have hl3:=r3
  have hv:=r4
  unfold Gr.vars at hv
  rw[shift_p,ld1_p p1 rfl rfl,lenS_pL,bin_lss,onB_v]
  refine gd_of (fun hlt=>?_) (fun hge=>?_)
  ·have hlt:i<g.ands.length:=by simpa using hlt
   rw[shift_p,ld1_p p1 rfl rfl,ixS_pL hlt,ldN_q2,bd,binP_eq,onB_v]
   refine gd_of (fun h10=>?_) (fun h10=>?_)
   ·have h10:g.ands[i]=(x,y):=dT h10
    have hf:g.ands.findIdx? (fun p=>decide (p=(x,y)))=some i:=by
     rw[List.findIdx?_eq_some_iff_getElem]
     exact⟨hlt,by simpa using h10,fun j hj=>by simpa using hno j (by omega) hj⟩
    have q:∀ T:Store,Keep S2 T→T.obj S.n=some (.cells 82 [g.cells] true):=fun T hT=>(hT.2 _ (by omega)).trans p1
    have e1:∀{S:Store} {K:AV→Store→Prop},bin .add 0 (aI g.inputs) (aI 1) S K=K (aI (g.inputs+1)) S:=bin_add (by omega) (by omega) 0
    have e2:∀{S:Store} {K:AV→Store→Prop},bin .add 0 (aI (g.inputs+1)) (aI i) S K=K (aI (g.inputs+1+i)) S:=bin_add (by omega) (by omega) 0
    have e3:∀{S:Store} {K:AV→Store→Prop},bin .mul 0 (aI 2) (aI (g.inputs+1+i)) S K=K (aI (2*(g.inputs+1+i))) S:=bin_mul (by omega) (by omega) 0
    refine⟨_,fun T hT=>by rw[ldN_p (n:=2) (q T hT) rfl];exact⟨rfl,rfl⟩,_,fun T hT=>by rw[shift_p];exact⟨rfl,rfl⟩,_,fun T hT=>by rw[ld1_p (q T hT) rfl rfl];exact⟨rfl,rfl⟩,_,fun T hT=>by rw[e1];exact⟨rfl,rfl⟩,_,fun T hT=>by rw[e2];exact⟨rfl,rfl⟩,_,fun T hT=>by rw[e3];exact⟨rfl,rfl⟩,?_⟩
    refine stA_of o2 rfl rfl fun S3 n3 o3 f3=>?_
    have q3:∀ T:Store,Keep S3 T→T.obj S.n=some (.cells 82 [g.cells] true):=fun T hT=>(hT.2 _ (by omega)).trans ((f3 _ (by omega)).trans p1)
    refine⟨fun T hT=>by rw[e3];exact⟨rfl,rfl⟩,fun T hT=>by rw[e2];exact⟨rfl,rfl⟩,fun T hT=>by rw[e1];exact⟨rfl,rfl⟩,fun T hT=>by rw[ld1_p (q3 T hT) rfl rfl];exact⟨rfl,rfl⟩,fun T hT=>by rw[shift_p];exact⟨rfl,rfl⟩,?_⟩
    rw[ldN_p (n:=2) o3 rfl]
    exact fin (g,2*(g.inputs+1+i),0) (k2.st (by omega) n3 f3) ok (hand.trans (by rw[hf]))
   ·have h10:¬ g.ands[i]=(x,y):=dF h10
    have hadd:∀ K:AV→Store→Prop,∀ S,bin .add 0 (.v (.int .i64 (i:Int))) (.v (.int .i64 1)) S K=K (aI (i+1:Nat)) S:=fun K S=>bin_add (by omega) (by omega) 0
    rw[hadd]
    refine hKE _ _ ⟨rfl,i+1,rfl,hlt,fun j hj hj'=>?_⟩ (by simp[intA];omega)
    rcases Nat.lt_or_ge j i with h|h
    ·exact hno j hj h
    ·have:j=i:=by omega
     subst this
     exact h10
  ·have hge:i=g.ands.length:=by simp at hge;omega
   subst hge
   have hf:g.ands.findIdx? (fun p=>decide (p=(x,y)))=none:=by
    rw[List.findIdx?_eq_none_iff]
    intro q hq
    obtain⟨j,hj,rfl⟩:=List.getElem_of_mem hq
    simpa using hno j hj hj
   rw[hf]at hand
   rw[ldN_p (n:=2) p1 rfl]
   refine callF_ans (ans40 hg (by omega) r1) ?_
   rw[bin_geq,onB_v]
   refine gd_of (fun h11=>?_) (fun h11=>?_)
   ·rw[bz]
    refine stA_of o2 rfl rfl fun S3 n3 o3 f3=>?_
    rw[ldN_p (n:=2) o3 rfl]
    exact fin (⟨0,[]⟩,0,2) (k2.st (by omega) n3 f3) (err _) (hand.trans (by simp only[if_pos (dT h11)]))
   have h11:=dF h11
   have hand:g.and a b=(⟨g.inputs,g.ands ++ [(x,y)]⟩,2*(g.vars+1) - 2,0):=hand.trans (by simp only[if_neg h11])
   refine boxA_of rfl fun S3 k3 n3 o3=>?_
   have p3:=(k3.2 S.n (by omega)).trans p1
   rw[shift_p,ld1_p p3 rfl rfl,shift_p]
   refine stF_of o3 (by simp) rfl fun S4 n4 o4 f4=>?_
   have p4:=(f4 S.n (by omega)).trans p3
   rw[shift_p,ld1_p o4 rfl rfl,shift_p,ld1_p p4 rfl rfl]
   have m2:=k2.1
   have m3:=k3.1
   have k4:Keep S S4:=(k2.trans k3).st (by omega) n4 f4
   have v4:S4.obj S1.n=_:=(f4 S1.n (by omega)).trans ((k3.2 S1.n (by omega)).trans o2)
   refine Own.appL (Own.nl S.n S4 124) (by omega) (ys:=g.ands.map fun p=>[aI p.1,aI p.2]) (fun c hc=>by obtain⟨p,_,rfl⟩:=List.mem_map.1 hc;rfl) (by simp;omega) (fun z1 S5 w5 b5 hz5=>?_) rfl
   rw[bd]
   refine bslP ?_
   have k5:Keep S S5:=w5.keep (S0:=S) (Nat.le_refl _) ⟨Nat.le_refl _,fun _ _ _=>rfl⟩ ⟨Nat.le_trans k4.1 b5.1,fun i hi=>(b5.2 i (by have:=k4.1;omega) (fun _ _ h=>by cases h)).trans (k4.2 i hi)⟩
   have e5:∀ i,i<S4.n→S5.obj i=S4.obj i:=fun i hi=>b5.2 i hi (fun _ _ h=>by cases h)
   have z5:∀ i b m,z1 = .s i b m→i=S4.n:=fun i b m e=>by
    rcases hz5 with h|⟨m',h⟩
    ·rw[h]at e;cases e
    ·rw[h]at e;cases e;rfl
   have n5:=b5.1
   refine w5.app (by have:=k5.1;omega) (c:=[aI x,aI y]) rfl (by simp;omega) (fun z2 S6 w6 b6 hz6=>?_) rfl
   have e6:∀ i,i<S4.n→S6.obj i=S4.obj i:=fun i hi=>(b6.2 i (by omega) (fun b m e=>by have:=z5 i b m e;omega)).trans (e5 i hi)
   have n6:=b6.1
   have k6:Keep S S6:=w5.keep (Nat.le_refl _) b6 k5
   obtain⟨m6,hz6⟩:=hz6
   rw[shift_p]
   refine stF_of ((e6 S2.n (by omega)).trans o4) (by simp) (by rw[hz6];rfl) fun S7 n7 o7 f7=>?_
   have p7:S7.obj S.n=_:=(f7 S.n (by omega)).trans ((e6 S.n (by omega)).trans p4)
   have v7:S7.obj S1.n=_:=(f7 S1.n (by omega)).trans ((e6 S1.n (by omega)).trans v4)
   have k7:Keep S S7:=k6.st (by omega) n7 f7
   have w7:Own S.n S7 z2 124 _:=w6.st (id:=S2.n) (fun b m e=>by rw[hz6]at e;injection e;omega) n7 f7
   have hlen2:(((g.ands.map fun p=>[aI p.1,aI p.2]) ++ [[aI x,aI y]]).length:Nat)=g.ands.length+1:=by simp
   have hz:∀(S:Store) (K:AV→Store→Prop),lenS z2 S K=K (aI (g.ands.length+1:Nat)) S:=fun S K=>by
    rcases w7 with⟨h,h'⟩|⟨id,h,_,_,_⟩
    ·rw[h]at hz6;cases hz6
    ·rw[h,lenS_s,List.nil_append,hlen2]
   have q:∀ T:Store,Keep S7 T→T.obj S2.n=some (.cells 82 [[aI g.inputs,z2]] true):=fun T hT=>(hT.2 _ (by omega)).trans o7
   have e1:∀{S:Store} {K:AV→Store→Prop},bin .mul 0 (aI 2) (aI (g.inputs+1+(g.ands.length+1:Nat))) S K=K (aI (2*(g.inputs+1+(g.ands.length+1:Nat)))) S:=bin_mul (by omega) (by omega) 0
   have e2:∀{S:Store} {K:AV→Store→Prop},bin .sub 0 (aI (2*(g.inputs+1+(g.ands.length+1:Nat)))) (aI 2) S K=K (aI (2*(g.inputs+1+(g.ands.length+1:Nat)) - 2)) S:=bin_sub (by omega) (by omega) 0
   refine⟨_,fun T hT=>by rw[ldN_p (n:=2) (q T hT) rfl];exact⟨rfl,rfl⟩,_,fun T hT=>by rw[ldN_p (n:=2) (q T hT) rfl];exact⟨rfl,rfl⟩,_,fun T hT=>callF_ans (vars40 hz r1 (by omega) (by omega)) ⟨rfl,rfl⟩,_,fun T hT=>by rw[e1];exact⟨rfl,rfl⟩,_,fun T hT=>by rw[e2];exact⟨rfl,rfl⟩,?_⟩
   refine stA_of v7 rfl rfl fun S8 n8 o8 f8=>?_
   refine⟨fun T hT=>by rw[e2];exact⟨rfl,rfl⟩,fun T hT=>by rw[e1];exact⟨rfl,rfl⟩,?_⟩
   rw[ldN_p (n:=2) o8 rfl]
   have w8:Own S.n S8 z2 124 _:=w7.st (id:=S1.n) (fun b m e=>by rw[hz6]at e;injection e;omega) n8 f8
   have hv2:g.vars=g.inputs+1+g.ands.length:=rfl
   have:=fin (S':=S8) (v:=.a [aI g.inputs,z2]) (⟨g.inputs,g.ands ++ [(x,y)]⟩,2*(g.vars+1) - 2,0) (k7.st (by omega) n8 f8) (cv_a2 (.v _) (w8.cv rfl (by simp) (fun i c c2 hc hc2=>?_))) hand
   ·rw[hv2,show g.inputs+1+(g.ands.length:Int)+1=g.inputs+1+(g.ands.length+1:Nat)by omega]at this
    exact this
   ·have:c=c2:=by
      rw[List.nil_append]at hc
      rw[List.map_append]at hc2
      exact Option.some.inj (hc.symm.trans hc2)
    subst this
    refine⟨rfl,fun k u u2 hu hu2=>?_⟩
    rw[hu]at hu2;cases hu2
    have hm:=List.mem_of_getElem? hc2
    rw[List.mem_map]at hm
    obtain⟨p,_,rfl⟩:=hm
    match k with
    |0=>cases hu;exact .v _
    |1=>cases hu;exact .v _
    |k+2=>simp at hu
section
variable {S:Store} {K:AV→Store→Prop}
theorem ixStr_b{b:ByteArray}{i:Nat}(h:i<b.size):ixStr (.v (.string b)) (aI i) S K=K (.v (.int .u8 (b[i]).toNat)) S:=by
 simp[ixStr,intA,h]
@[simp] theorem lenStr_b(b:ByteArray):lenStr (.v (.string b)) S K=K (aI b.size) S:=rfl
theorem bytesEq(a b:ByteArray):(a.toList == b.toList)=decide (a=b):=by
 rw[Bool.eq_iff_iff,beq_iff_eq,ByteArray.toList_eq,ByteArray.toList_eq,decide_eq_true_eq]
 exact⟨fun h=>ByteArray.ext (Array.toList_inj.mp h),fun h=>by rw[h]⟩
theorem bin_eqlS(a b:ByteArray)(kd:Nat):bin .eql kd (.v (.string a)) (.v (.string b)) S K=K (aB (decide (a=b))) S:=by simp[bin,b2,strB,bytesEq]
theorem bin_neqS(a b:ByteArray)(kd:Nat):bin .neq kd (.v (.string a)) (.v (.string b)) S K=K (aB (!decide (a=b))) S:=by simp[bin,b2,strB,bytesEq]
theorem ld1_qj{c:List AV}{j:Nat}{u:AV}(h:c[j]? = some u):ld1 (.q c j) S K=K u S:=by simp[ld1,rd1,place,h]
@[simp] theorem shift_q(c:List AV)(j n:Nat):shift (.q c j) n S K=K (.q c (j+n)) S:=rfl
end
def wordB(b:ByteArray):Bool:=decide (∀ i (h:i<b.size),33≤(b[i]).toNat∧(b[i]).toNat≤126) && (decide (0<b.size) && decide (b.size≤20))
theorem ans149(b:ByteArray)(hb:b.size≤9223372036854775807):Ans Pg 149 [.v (.string b)] (aB (wordB b)):=by
 intro S
 refine ACalls.ans_v (calls149 ?_)
 unfold m149
 refine loop149_0 (fun y S'=>S'=S∧∃ i:Nat,y=aI i∧i≤b.size∧∀ j (h:j<b.size),j<i→33≤(b[j]).toNat∧(b[j]).toNat≤126)
  (fun y _=>b.size - ((intA y).getD 0).toNat) ⟨rfl,0,rfl,Nat.zero_le _,fun j _ hj=>(Nat.not_lt_zero _ hj).elim⟩ ?_
 rintro _ S ⟨rfl,i,rfl,hi,hok⟩ KE hKE
 unfold b149_0
 rw[lenStr_b,bin_lss,onB_v]
 refine gd_of (fun hlt=>?_) (fun hge=>?_)
 ·have hlt:i<b.size:=by simpa using hlt
  have bad:¬ (33≤(b[i]).toNat∧(b[i]).toNat≤126)→wordB b=false:=fun h=>by
   simp only[wordB,Bool.and_eq_false_iff,decide_eq_false_iff_not]
   exact .inl fun h'=>h (h' i hlt)
  rw[ixStr_b hlt,bin_lss,onB_v]
  refine gd_of (fun h1=>⟨by rw[bad (fun h=>by have:=dT h1;omega)],Keep.refl _⟩) (fun h1=>?_)
  rw[ixStr_b hlt,bin_gtr,onB_v]
  refine gd_of (fun h2=>⟨by rw[bad (fun h=>by have:=dT h2;omega)],Keep.refl _⟩) (fun h2=>?_)
  have hadd:∀ K:AV→Store→Prop,∀ S,bin .add 0 (.v (.int .i64 (i:Int))) (.v (.int .i64 1)) S K=K (aI (i+1:Nat)) S:=fun K S=>bin_add (by omega) (by omega) 0
  rw[hadd]
  refine hKE _ _ ⟨rfl,i+1,rfl,hlt,fun j hj hj'=>?_⟩ (by simp[intA];omega)
  rcases Nat.lt_or_ge j i with h|h
  ·exact hok j hj h
  ·have:j=i:=by omega
   subst this
   have h1:=dF h1
   have h2:=dF h2
   omega
 ·have hge:i=b.size:=by simp at hge;omega
  subst hge
  have hall:decide (∀ i (h:i<b.size),33≤(b[i]).toNat∧(b[i]).toNat≤126)=true:=decide_eq_true fun j hj=>hok j hj hj
  rw[lenStr_b,bin_gtr,onB_v]
  refine gd_of (fun h1=>?_) (fun h1=>⟨?_,Keep.refl _⟩)
  ·rw[lenStr_b,bin_leq]
   refine⟨?_,Keep.refl _⟩
   simp only[wordB,hall,Bool.true_and,show 0<b.size by simpa using h1,decide_true]
   rw[show decide ((b.size:Int)≤20)=decide (b.size≤20)from decide_eq_decide.2 (by omega)]
  ·simp[wordB,show ¬ 0<b.size by simpa using h1]
theorem ans167(b:ByteArray)(hb:b.size≤9223372036854775807):Ans Pg 167 [.v (.string b)] (aB (wordB b)):=by
 intro S
 refine ACalls.ans_v (calls167 ?_)
 unfold m167
 rw[lenStr_b]
 refine loop167_0 (fun y S'=>S'=S∧∃ i:Nat,y=aI i∧i≤b.size∧∀ j (h:j<b.size),j<i→33≤(b[j]).toNat∧(b[j]).toNat≤126)
  (fun y _=>b.size - ((intA y).getD 0).toNat) ⟨rfl,0,rfl,Nat.zero_le _,fun j _ hj=>(Nat.not_lt_zero _ hj).elim⟩ ?_
 rintro _ S ⟨rfl,i,rfl,hi,hok⟩ KE hKE
 unfold b167_0
 rw[bin_lss,onB_v]
 refine gd_of (fun hlt=>?_) (fun hge=>?_)
 ·have hlt:i<b.size:=by simpa using hlt
  have bad:¬ (33≤(b[i]).toNat∧(b[i]).toNat≤126)→wordB b=false:=fun h=>by
   simp only[wordB,Bool.and_eq_false_iff,decide_eq_false_iff_not]
   exact .inl fun h'=>h (h' i hlt)
  rw[ixStr_b hlt,bin_leq,onB_v]
  refine gd_of (fun h1=>⟨by rw[bad (fun h=>by have:=dT h1;omega)],Keep.refl _⟩) (fun h1=>?_)
  rw[ixStr_b hlt,bin_gtr,onB_v]
  refine gd_of (fun h2=>⟨by rw[bad (fun h=>by have:=dT h2;omega)],Keep.refl _⟩) (fun h2=>?_)
  have hadd:∀ K:AV→Store→Prop,∀ S,bin .add 0 (.v (.int .i64 (i:Int))) (.v (.int .i64 1)) S K=K (aI (i+1:Nat)) S:=fun K S=>bin_add (by omega) (by omega) 0
  rw[hadd]
  refine hKE _ _ ⟨rfl,i+1,rfl,hlt,fun j hj hj'=>?_⟩ (by simp[intA];omega)
  rcases Nat.lt_or_ge j i with h|h
  ·exact hok j hj h
  ·have:j=i:=by omega
   subst this
   have h1:=dF h1
   have h2:=dF h2
   omega
 ·have hge:i=b.size:=by simp at hge;omega
  subst hge
  have hall:decide (∀ i (h:i<b.size),33≤(b[i]).toNat∧(b[i]).toNat≤126)=true:=decide_eq_true fun j hj=>hok j hj hj
  have he:decide (b={ data:=#[] })=decide (b.size=0):=by
   by_cases h:b.size=0
   ·have:b={ data:=#[] }:=byteArray_ext (Array.eq_empty_of_size_eq_zero h)
    subst this
    rfl
   ·have:¬ b={ data:=#[] }:=fun e=>h (by rw[e];rfl)
    simp[this,h]
  rw[bin_neqS,he,onB_v]
  refine gd_of (fun h1=>?_) (fun h1=>⟨?_,Keep.refl _⟩)
  ·have h1:b.size≠0:=by simpa using h1
   rw[lenStr_b,bin_leq]
   refine⟨?_,Keep.refl _⟩
   simp only[wordB,hall,Bool.true_and,show 0<b.size by omega,decide_true]
   rw[show decide ((b.size:Int)≤20)=decide (b.size≤20)from decide_eq_decide.2 (by omega)]
  ·have h1:b.size=0:=by simpa using h1
   simp[wordB,h1]
def rankI(k:Int):Int:=if k=105 then 0 else if k=108 then 1 else if k=111 then 2 else if k=98 then 3 else if k=99 then 4 else if k=102 then 5 else -1
def kindS:ByteArray:={ data:=#[105,108,111,98,99,102] }
def kindAt(i:Nat):Int:=[105,108,111,98,99,102].getD i 0
theorem kindS_get{i:Nat}(h:i<6):∃ h':i<kindS.size,((kindS[i]'h').toNat:Int)=kindAt i:=by
 match i,h with
 |0,_|1,_|2,_|3,_|4,_|5,_=>exact⟨by decide,by decide⟩
theorem rankI_at{k:Int}{i:Nat}(h:i<6)(hk:kindAt i=k):rankI k=i:=by
 subst hk
 match i,h with
 |0,_|1,_|2,_|3,_|4,_|5,_=>decide
theorem rankI_no{k:Int}(h:∀ i,i<6→kindAt i≠k):rankI k = -1:=by
 have h0:(105:Int)≠k:=h 0 (by decide)
 have h1:(108:Int)≠k:=h 1 (by decide)
 have h2:(111:Int)≠k:=h 2 (by decide)
 have h3:(98:Int)≠k:=h 3 (by decide)
 have h4:(99:Int)≠k:=h 4 (by decide)
 have h5:(102:Int)≠k:=h 5 (by decide)
 simp only[rankI]
 rw[if_neg (Ne.symm h0),if_neg (Ne.symm h1),if_neg (Ne.symm h2),if_neg (Ne.symm h3),if_neg (Ne.symm h4),if_neg (Ne.symm h5)]
theorem ans151(k:Int):Ans Pg 151 [.v (.int .u8 k)] (aI (rankI k)):=by
 intro S
 refine ACalls.ans_v (calls151 ?_)
 unfold m151
 refine loop151_0 (fun y S'=>S'=S∧∃ i:Nat,y=aI i∧i≤6∧∀ j,j<i→kindAt j≠k)
  (fun y _=>6 - ((intA y).getD 0).toNat) ⟨rfl,0,rfl,Nat.zero_le _,fun j hj=>(Nat.not_lt_zero _ hj).elim⟩ ?_
 rintro _ S ⟨rfl,i,rfl,hi,hno⟩ KE hKE
 unfold b151_0
 rw[lenStr_b,bin_lss,onB_v]
 refine gd_of (fun hlt=>?_) (fun hge=>?_)
 ·have hlt:i<6:=by have:=dT hlt;exact Int.ofNat_lt.1 this
  obtain⟨h',he⟩:=kindS_get hlt
  show ixStr (.v (.string kindS)) _ _ _
  rw[ixStr_b h',he,bin_eql,onB_v]
  refine gd_of (fun h1=>⟨?_,Keep.refl _⟩) (fun h1=>?_)
  ·rw[rankI_at hlt (dT h1)]
  ·have hadd:∀ K:AV→Store→Prop,∀ S,bin .add 0 (.v (.int .i64 (i:Int))) (.v (.int .i64 1)) S K=K (aI (i+1:Nat)) S:=fun K S=>bin_add (by omega) (by omega) 0
   rw[hadd]
   refine hKE _ _ ⟨rfl,i+1,rfl,hlt,fun j hj=>?_⟩ (by simp[intA];omega)
   rcases Nat.lt_or_ge j i with h|h
   ·exact hno j h
   ·have:j=i:=by omega
    subst this
    exact dF h1
 ·have hge:i=6:=by
    have:¬ ((i:Int)<6):=dF hge
    omega
  subst hge
  rw[rankI_no hno]
  exact⟨rfl,Keep.refl _⟩
theorem ans168(k:Int)(h0:0≤k)(h1:k<256):Ans Pg 168 [.v (.int .u8 k)] (aI (rankI k)):=by
 intro S
 refine ACalls.ans_v (calls168 ?_)
 unfold m168 rngS
 refine loop168_0 (fun S'=>Keep S S'∧∃ i:Nat,S'.obj S.n=some (.sit kindS i)∧i≤6∧∀ j,j<i→kindAt j≠k)
  (fun S'=>match S'.obj S.n with|some (.sit _ i)=>6 - i|_=>0) ⟨(Keep.refl S).new _,0,by rw[new_self];rfl,Nat.zero_le _,fun j hj=>(Nat.not_lt_zero _ hj).elim⟩ ?_
 rintro S1 ⟨k1,i,o1,hi,hno⟩ KE hKE
 unfold b168_0 nextM
 simp only[o1]
 refine⟨fun hlt=>?_,fun hge=>?_⟩
 ·have hlt:i<6:=hlt
  have hdec:(((Utf8.decode kindS i).1:Nat):Int)=kindAt i∧(Utf8.decode kindS i).2=1:=by
   match i,hlt with
   |0,_|1,_|2,_|3,_|4,_|5,_=>exact⟨by decide,by decide⟩
  rw[hdec.1,hdec.2]
  show extr _ _ _ _
  rw[extr0]
  show onB _ _
  rw[onB_v,gd_true,extr1,extr2,convI_v]
  have hw:IntKind.i32.wrap k=k:=by
   rw[IntKind.wrap_i32];omega
  rw[hw,bin_eql,onB_v]
  refine gd_of (fun h2=>⟨?_,k1.upd (Nat.le_refl _) _⟩) (fun h2=>?_)
  ·rw[rankI_at hlt (dT h2).symm]
  ·refine hKE _ ⟨k1.upd (Nat.le_refl _) _,i+1,upd_self _ _,hlt,fun j hj=>?_⟩ (by simp only[upd_self,o1];omega)
   rcases Nat.lt_or_ge j i with h|h
   ·exact hno j h
   ·have:j=i:=by omega
    subst this
    exact Ne.symm (dF h2)
 ·have hge:i=6:=by
    have:¬ (i<6):=hge
    omega
  subst hge
  show extr _ _ _ _
  rw[over,extr0,onB_v,gd_false,rankI_no hno]
  exact⟨rfl,k1⟩
theorem ans185(a:Int):Ans Pg 185 [aI a] (aB false):=by
 intro S
 refine ACalls.ans_v (calls185 ?_)
 unfold m185
 rw[bin_neq]
 exact⟨by simp,Keep.refl _⟩
def cmpZ(a b:Int):Int:=if a<b then -1 else if b<a then 1 else 0
theorem ans170(a b:Int):Ans Pg 170 [aI a,aI b] (aI (cmpZ a b)):=by
 intro S
 refine ACalls.ans_v (calls170 ?_)
 unfold m170
 refine callF_ans (ans185 a) (callF_ans (ans185 b) ?_)
 rw[onB_v,gd_false,onB_v,gd_false,bin_lss,onB_v]
 refine gd_of (fun h=>⟨?_,Keep.refl _⟩) (fun h=>?_)
 ·rw[cmpZ,if_pos (dT h)]
 rw[bin_gtr,onB_v]
 have h:=dF h
 refine gd_of (fun h2=>⟨?_,Keep.refl _⟩) (fun h2=>⟨?_,Keep.refl _⟩)
 ·rw[cmpZ,if_neg h,if_pos (dT h2)]
 ·rw[cmpZ,if_neg h,if_neg (dF h2)]
theorem ans169(a b:Int):Ans Pg 169 [.l [[aI a],[aI b]]] (aI (if a≠0 then a else b)):=by
 intro S
 refine ACalls.ans_v (calls169 ?_)
 unfold m169
 rw[lenS_l]
 refine loop169_0 (fun y S'=>S'=S∧∃ i:Nat,y=aI i∧i≤2∧(1≤i→a=0)∧(2≤i→b=0))
  (fun y _=>2 - ((intA y).getD 0).toNat) ⟨rfl,0,rfl,Nat.zero_le _,fun h=>by omega,fun h=>by omega⟩ ?_
 rintro _ S ⟨rfl,i,rfl,hi,h1,h2⟩ KE hKE
 unfold b169_0
 rw[bin_lss,onB_v]
 refine gd_of (fun hlt=>?_) (fun hge=>?_)
 ·have hlt:i<2:=by have:=dT hlt;exact Int.ofNat_lt.1 this
  have hadd:∀ K:AV→Store→Prop,∀ S,bin .add 0 (.v (.int .i64 (i:Int))) (.v (.int .i64 1)) S K=K (aI (i+1:Nat)) S:=fun K S=>bin_add (by omega) (by omega) 0
  match i,hlt with
  |0,_ =>
   rw[show ∀ K:AV→Store→Prop,ixS 3 1 (.l [[aI a],[aI b]]) (aI ((0:Nat):Int)) S K=K (.q [aI a] 0) S from fun K=>ixS_l (es:=[[aI a],[aI b]]) (i:=0) (by simp) rfl,ld1_qj rfl,bin_neq,onB_v]
   refine gd_of (fun h=>⟨?_,Keep.refl _⟩) (fun h=>?_)
   ·rw[if_pos (by simpa using h)]
   ·rw[hadd]
    exact hKE _ _ ⟨rfl,1,rfl,by decide,fun _=>by simpa using h,fun h=>by omega⟩ (by simp[intA])
  |1,_ =>
   have ha:=h1 (Nat.le_refl _)
   rw[show ∀ K:AV→Store→Prop,ixS 3 1 (.l [[aI a],[aI b]]) (aI ((1:Nat):Int)) S K=K (.q [aI b] 0) S from fun K=>ixS_l (es:=[[aI a],[aI b]]) (i:=1) (by simp) rfl,ld1_qj rfl,bin_neq,onB_v]
   refine gd_of (fun h=>⟨?_,Keep.refl _⟩) (fun h=>?_)
   ·rw[if_neg (by simp[ha])]
   ·rw[hadd]
    exact hKE _ _ ⟨rfl,2,rfl,by decide,fun _=>ha,fun _=>by simpa using h⟩ (by simp[intA])
 ·have hge:i=2:=by
    have:¬ ((i:Int)<2):=dF hge
    omega
  subst hge
  refine⟨?_,Keep.refl _⟩
  rw[h1 (by decide),h2 (by decide)]
  rfl
structure Na where
 kind:Int
 pos:Int
 text:ByteArray
 deriving DecidableEq
structure Ci where
 inputs:Int
 latches:List (Int × Int)
 ands:List (Int × Int)
 outs:List Int
 bads:List Int
 cons:List Int
 fair:List Int
 names:List Na
def Na.row(x:Na):List AV:=[.v (.int .u8 x.kind),aI x.pos,.v (.string x.text)]
def nL(l:List Na):AV:=.l (l.map Na.row)
def Ci.cells(c:Ci):List AV:=[aI c.inputs,pL c.latches,pL c.ands,aL aI c.outs,aL aI c.bads,aL aI c.cons,aL aI c.fair,nL c.names]
def Ci.av(c:Ci):AV:=.a c.cells
def Ci.gr(c:Ci):Gr:=⟨IntKind.i64.wrap (c.inputs+c.latches.length),c.ands⟩
structure Ci.ok (c:Ci):Prop where
 inp:i64R c.inputs
 llen:c.latches.length≤1000000
 alen:c.ands.length≤1000000
 lats:∀ p∈c.latches,i64R p.1∧i64R p.2
 pairs:∀ p∈c.ands,i64R p.1∧i64R p.2
 outs:(∀ x∈c.outs,i64R x)∧c.outs.length≤9223372036854775807
 bads:(∀ x∈c.bads,i64R x)∧c.bads.length≤9223372036854775807
 cons:(∀ x∈c.cons,i64R x)∧c.cons.length≤9223372036854775807
 fair:(∀ x∈c.fair,i64R x)∧c.fair.length≤9223372036854775807
 names:∀ x∈c.names,0≤x.kind∧x.kind<256∧i64R x.pos∧x.text.size≤9223372036854775807
 nlen:c.names.length≤1000000
theorem wrapR(n:Int):i64R (IntKind.i64.wrap n):=by
 unfold i64R
 rw[IntKind.wrap_i64];omega
theorem Ci.ok.gr{c:Ci}(h:c.ok):c.gr.ok:=⟨wrapR _,h.alen,h.pairs⟩
theorem bin_addW{a b:Int}(kd:Nat){S:Store}{K:AV→Store→Prop}:bin .add kd (aI a) (aI b) S K=K (aI (IntKind.i64.wrap (a+b))) S:=by
 simp[bin,b2,isSh,cmpI,ariI]
theorem ans84(c:Ci):Ans Pg 84 [c.av] c.gr.av:=by
 intro S
 refine ACalls.tree (calls84 ?_)
 unfold m84
 refine boxA_of rfl fun S1 k1 n1 o1=>?_
 refine boxA_of rfl fun S2 k2 n2 o2=>?_
 have p1:S2.obj S.n=_:=(k2.2 S.n (by omega)).trans o1
 rw[shift_p,ld1_p p1 rfl rfl,shift_p,ld1_p p1 rfl rfl,lenS_pL,bin_addW,shift_p,ld1_p p1 rfl rfl,bld_of (cs:=c.gr.cells) rfl]
 refine stA_of o2 rfl rfl fun S3 n3 o3 f3=>?_
 rw[ldN_p (n:=2) o3 rfl]
 exact⟨_,rfl,(k1.trans k2).st (by omega) n3 f3,c.gr.tree _ _⟩
theorem ans41(c:Ci):Ans Pg 41 [c.av] c.gr.av:=by
 intro S
 refine ACalls.tree (calls41 ?_)
 unfold m41
 refine boxA_of rfl fun S1 k1 n1 o1=>?_
 refine boxA_of rfl fun S2 k2 n2 o2=>?_
 have p1:S2.obj S.n=_:=(k2.2 S.n (by omega)).trans o1
 rw[shift_p,ld1_p p1 rfl rfl,shift_p,ld1_p p1 rfl rfl,lenS_pL,bin_addW,shift_p,ld1_p p1 rfl rfl,bld_of (cs:=c.gr.cells) rfl]
 refine stA_of o2 rfl rfl fun S3 n3 o3 f3=>?_
 rw[ldN_p (n:=2) o3 rfl]
 exact⟨_,rfl,(k1.trans k2).st (by omega) n3 f3,c.gr.tree _ _⟩
def Ci.many(c:Ci)(k:Int):Int:=if k=105 then c.inputs else if k=108 then c.latches.length else if k=111 then c.outs.length else if k=98 then c.bads.length else if k=99 then c.cons.length else if k=102 then c.fair.length else 0
def Ci.manyE(c:Ci):List (Key × AV):=[(.i 105,aI c.inputs),(.i 108,aI c.latches.length),(.i 111,aI c.outs.length),(.i 98,aI c.bads.length),(.i 99,aI c.cons.length),(.i 102,aI c.fair.length)]
theorem keyI(k:IntKind)(a:Int):keyA (.i k) (.v (.int k a))=some (.i a):=by simp[keyA]
theorem ans127(c:Ci):Ans Pg 127 [c.av] (.mt (.i .i32) c.manyE):=by
 intro S
 refine ACalls.tree (calls127 ?_)
 unfold m127
 refine boxA_of rfl fun S1 k1 n1 o1=>?_
 unfold mkM
 show shift _ _ _ _
 have p1:(S1.new (.map (.i .i32) [] true)).obj S.n=_:=(new_lt (by omega)).trans o1
 have u:∀{es:List (Key × AV)},(Store.upd (S1.new (.map (.i .i32) [] true)) S1.n (.map (.i .i32) es true)).obj S.n=_:=fun{es}=>(upd_ne (by omega)).trans p1
 rw[shift_p,ld1_p p1 rfl rfl,updM_m (new_self _) (keyI _ _)]
 rw[shift_p,ld1_p u rfl rfl,lenS_pL,updM_m (upd_self _ _) (keyI _ _),upd_upd]
 rw[shift_p,ld1_p u rfl rfl,lenS_aL,updM_m (upd_self _ _) (keyI _ _),upd_upd]
 rw[shift_p,ld1_p u rfl rfl,lenS_aL,updM_m (upd_self _ _) (keyI _ _),upd_upd]
 rw[shift_p,ld1_p u rfl rfl,lenS_aL,updM_m (upd_self _ _) (keyI _ _),upd_upd]
 rw[shift_p,ld1_p u rfl rfl,lenS_aL,updM_m (upd_self _ _) (keyI _ _),upd_upd]
 refine⟨_,rfl,(k1.new _).upd (by omega) _,.m' S1.n (.i .i32) c.manyE c.manyE ?_ rfl (fun i e e2 h h2=>by rw[h]at h2;cases h2;rfl) (fun i e e2 h h2=>?_)⟩
 ·rw[frz_ofM (upd_self _ _)]
  have:newer S.n S1.n=true:=by simp[newer];omega
  rw[this]
  rfl
 ·rw[h]at h2;cases h2
  match i with
  |0|1|2|3|4|5=>cases h;exact .v _
  |i+6=>simp[Ci.manyE]at h
theorem lkp_many(c:Ci)(k:Int):((lkp c.manyE (.i k)).getD (aI 0))=aI (c.many k):=by
 by_cases h0:k=105
 ·subst h0;rfl
 by_cases h1:k=108
 ·subst h1;rfl
 by_cases h2:k=111
 ·subst h2;rfl
 by_cases h3:k=98
 ·subst h3;rfl
 by_cases h4:k=99
 ·subst h4;rfl
 by_cases h5:k=102
 ·subst h5;rfl
 have:kix c.manyE (.i k)=none:=by
  rw[kix_none]
  simp[Ci.manyE,h0,h1,h2,h3,h4,h5]
 simp[lkp,this,Ci.many,h0,h1,h2,h3,h4,h5]
theorem rank_many{c:Ci}{k:Int}(h:¬ rankI k<0):c.many k = [c.inputs,c.latches.length,c.outs.length,c.bads.length,c.cons.length,c.fair.length].getD (rankI k).toNat 0:=by
 unfold rankI at h ⊢
 unfold Ci.many
 repeat' split
 all_goals first|rfl|(exfalso;apply h;simp[*])
theorem many_no{c:Ci}{k:Int}(h:rankI k<0):c.many k=0:=by
 unfold rankI at h
 unfold Ci.many
 repeat' split
 all_goals first|rfl|(simp[*]at h)
theorem rank_lt(k:Int):rankI k<6:=by
 unfold rankI
 repeat' split
 all_goals decide
theorem bsl6{e:Nat}{z a b c d f g:Int}{S:Store}{K:AV→Store→Prop}(k:K (.l [[aI a],[aI b],[aI c],[aI d],[aI f],[aI g]]) S):bslN e 1 6 [aI z] [(0,aI a),(1,aI b),(2,aI c),(3,aI d),(4,aI f),(5,aI g)] S K:=by
 refine⟨[aI a,aI b,aI c,aI d,aI f,aI g],?_,.inr ?_⟩
 ·simp[fillA,cells_of_one,spl,List.range_succ,cellsOf,AV.one,Value.oneCell']
 ·simpa[chunks,List.range_succ]using k
theorem ans150(c:Ci)(k:Int):Ans Pg 150 [c.av,.v (.int .u8 k)] (aI (c.many k)):=by
 intro S
 refine ACalls.ans_v (calls150 ?_)
 unfold m150
 refine boxA_of rfl fun S1 k1 n1 o1=>?_
 refine callF_ans (ans151 k) ?_
 rw[bin_lss,onB_v]
 refine gd_of (fun h=>⟨?_,k1⟩) (fun h=>?_)
 ·rw[many_no (dT h)]
 have h:¬ rankI k<0:=dF h
 rw[shift_p,ld1_p o1 rfl rfl,shift_p,ld1_p o1 rfl rfl,lenS_pL,shift_p,ld1_p o1 rfl rfl,lenS_aL,shift_p,ld1_p o1 rfl rfl,lenS_aL,shift_p,ld1_p o1 rfl rfl,lenS_aL,shift_p,ld1_p o1 rfl rfl,lenS_aL]
 refine bsl6 ?_
 obtain⟨r,hr⟩:=Int.eq_ofNat_of_zero_le (show 0≤rankI k by omega)
 have hr6:r<6:=by have:=rank_lt k;omega
 rw[rank_many h,hr]
 match r,hr6 with
 |0,_|1,_|2,_|3,_|4,_|5,_ =>
  rw[ixS_l (by simp) (by rfl),ld1_qj rfl]
  exact⟨rfl,k1⟩
section
set_option maxRecDepth 100000
def c166:Code:=(Tryz.f166.body).getD .skip
def r166:List ResultVar:=Tryz.f166.results.toList
def env166_0(y0 y1 y7 y8:AV):List AV:=[y0,y1,y7,y8]
def lv166_0:List Nat:=[0,1,7,8]
def ms166:List (List Nat):=[lv166_0,[]]
def m166(x0 x1:AV)(S:Store)(Q:PoT):Prop:=
 lenS x0 S fun a S=>loopV lv166_0 (vc Pg (c166.at_ [1,0,1,0,0]) (ms166.drop 1)) 19 (env166_0 x0 x1 a (.v (.int .i64 0))) S (blockK 0 (seqK (vc Pg (c166.at_ [1,1]) (ms166.drop 1)) (bodyK Pg r166 Q)))
theorem calls166{x0 x1:AV}{S:Store}{Q:PoT}(h:m166 x0 x1 S Q):ACalls Pg 166 [x0,x1] S Q:=
 calls_of_vc (fn:=Tryz.f166) (c:=c166) (n:=19) Tryz.func166 (by kernel_rfl) (by kernel_rfl) (by kernel_rfl) ms166 (Eq.mpr (by kernel_rfl) h)
def b166_0(y0 y1 y7 y8:AV)(S:Store)(KE0:KeT)(Q:PoT):Prop:=
 bin .lss 0 y8 y7 S fun a S=>onB a fun b=>gd b (ixS 3 1 y0 y8 S fun c S=>ld1 c S fun d S=>callV Pg y1 [d] S (fun e S=>onB e fun b=>gd b (Q (.ret y8) S) (bin .add 0 y8 (.v (.int .i64 1)) S fun f S=>KE0 19 (env166_0 y0 y1 y7 f) S)) (fun u S=>Q (.pan u) S)) (Q (.ret (.v (.int .i64 (-1)))) S)
theorem b166_0_eq(y0 y1 y7 y8:AV)(S:Store)(KE0:KeT)(Q:PoT):vc Pg (c166.at_ [1,0,1,0,0]) (ms166.drop 1) (mkE 19 lv166_0 (env166_0 y0 y1 y7 y8)) S (thenK (fgK lv166_0 KE0) (blockK 0 (seqK (vc Pg (c166.at_ [1,1]) (ms166.drop 1)) (bodyK Pg r166 Q))))=b166_0 y0 y1 y7 y8 S KE0 Q:=by kernel_rfl
theorem loop166_0{y0 y1 y7:AV}{y80:AV}{S:Store}{Q:PoT}(I:AV→Store→Prop)(μ:AV→Store→Nat)(h0:I y80 S)
    (hr:∀(y8:AV) (S:Store),I y8 S→∀ KE0:KeT,(∀(y8':AV) (S':Store),I y8' S'→μ y8' S'<μ y8 S→KE0 19 (env166_0 y0 y1 y7 y8') S')→b166_0 y0 y1 y7 y8 S KE0 Q):
    loopV lv166_0 (vc Pg (c166.at_ [1,0,1,0,0]) (ms166.drop 1)) 19 (env166_0 y0 y1 y7 y80) S (blockK 0 (seqK (vc Pg (c166.at_ [1,1]) (ms166.drop 1)) (bodyK Pg r166 Q))):=by
 refine⟨fun n e S=>n=19∧∃ y8:AV,e=(env166_0 y0 y1 y7 y8)∧I y8 S,fun _ e S=>μ (e.getD 3 .j) S,?_,?_⟩
 ·exact⟨_,_,Wk.refl _ _,rfl,_,rfl,h0⟩
 ·rintro _ e S ⟨rfl,y8,rfl,hI⟩
  exact(b166_0_eq _ _ _ _ _ _ _).mpr (hr y8 S hI _ (fun y8' S' hI' hm=>⟨_,_,Wk.refl _ _,⟨rfl,_,rfl,hI'⟩,hm⟩))
def c132:Code:=(Tryz.f132.body).getD .skip
def ms132:List (List Nat):=[[]]
def m132(x0 x1:AV)(S:Store)(Q:PoT):Prop:=
 callF Pg 166 [x0,x1] S Q fun a S=>bin .geq 0 a (.v (.int .i64 0)) S fun c S=>Q (.ret c) S
theorem calls132{x0 x1:AV}{S:Store}{Q:PoT}(h:m132 x0 x1 S Q):ACalls Pg 132 [x0,x1] S Q:=
 calls_of_vc (fn:=Tryz.f132) (c:=c132) (n:=9) Tryz.func132 (by kernel_rfl) (by kernel_rfl) (by kernel_rfl) ms132 (Eq.mpr (by kernel_rfl) h)
end
def idxOf(o:Option Nat):Int:=match o with|some i=>i|none=>-1
theorem find_at{α:Type}{g:α→Bool}{l:List α}{i:Nat}(hi:i<l.length)(hg:g l[i]=true)(h:∀ k (hk:k<i),g (l[k]'(Nat.lt_trans hk hi))=false):l.findIdx? g=some i:=by
 rw[List.findIdx?_eq_some_iff_getElem]
 exact⟨hi,hg,fun j hj=>by simp[h j hj]⟩
theorem find_none{α:Type}{g:α→Bool}{l:List α}(h:∀ k (hk:k<l.length),g l[k]=false):l.findIdx? g=none:=by
 rw[List.findIdx?_eq_none_iff]
 intro x hx
 obtain⟨k,hk,rfl⟩:=List.mem_iff_getElem.1 hx
 exact h k hk
theorem at166{α:Type}{f:α→AV}{l:List α}(hl:l.length≤9223372036854775807){g:α→Bool}{fn:FuncId}{fs cs:List AV}{S:Store}
    (hf:∀ x,x∈l→AnsAt Pg fn (fs ++ [f x]++cs) S (aB (g x))):AnsAt Pg 166 [aL f l,.f (.func fn) fs cs] S (aI (idxOf (l.findIdx? g))):=by
 refine calls166 ?_
 unfold m166
 rw[lenS_aL]
 refine loop166_0 (fun y S'=>S'=S∧∃ i:Nat,y=aI i∧i≤l.length∧∀ k (hk:k<l.length),k<i→g l[k]=false) (fun y _=>l.length - ((intA y).getD 0).toNat) ⟨rfl,0,rfl,Nat.zero_le _,fun k _ h=>absurd h (Nat.not_lt_zero _)⟩ ?_
 rintro _ _ ⟨rfl,i,rfl,hi,hk⟩ KE hKE
 unfold b166_0 aI
 rw[bin_lss,onB_v]
 refine gd_of (fun h=>?_) (fun h=>?_)
 ·have hlt:i<l.length:=by simpa using h
  rw[ixS_aL hlt,ld1_q]
  refine callV_at (hf _ (List.getElem_mem hlt)) ?_
  unfold aB
  rw[onB_v]
  refine gd_of (fun hg=>⟨?_,rfl⟩) (fun hg=>?_)
  ·rw[find_at hlt hg (fun k hk'=>hk k _ hk')];rfl
  ·rw[bin_add (by omega) (by omega)]
   refine hKE _ _ ⟨rfl,i+1,rfl,hlt,fun k hk1 hk2=>?_⟩ ?_
   ·by_cases e:k=i
    ·subst e;exact hg
    ·exact hk k hk1 (by omega)
   ·simp[intA,aI];omega
 ·have hge:i=l.length:=by simp at h;omega
  subst hge
  rw[find_none (fun k hk'=>hk k hk' hk')]
  exact⟨rfl,rfl⟩
theorem idx_any{α:Type}(g:α→Bool)(l:List α):decide (0≤idxOf (l.findIdx? g))=l.any g:=by
 cases h:l.findIdx? g with
 |none =>
  rw[List.findIdx?_eq_none_iff]at h
  have:l.any g=false:=by simpa[List.any_eq_false]using h
  rw[this];rfl
 |some i =>
  rw[List.findIdx?_eq_some_iff_getElem]at h
  obtain⟨hi,hg,_⟩:=h
  have:l.any g=true:=List.any_eq_true.2 ⟨_,List.getElem_mem hi,by simpa using hg⟩
  rw[this]
  simp[idxOf]
theorem at132{α:Type}{f:α→AV}{l:List α}(hl:l.length≤9223372036854775807){g:α→Bool}{fn:FuncId}{fs cs:List AV}{S:Store}
    (hf:∀ x,x∈l→AnsAt Pg fn (fs ++ [f x]++cs) S (aB (g x))):AnsAt Pg 132 [aL f l,.f (.func fn) fs cs] S (aB (l.any g)):=by
 refine calls132 ?_
 unfold m132
 refine callF_at (at166 hl hf) ?_
 unfold aI
 rw[bin_geq,idx_any]
 exact⟨rfl,rfl⟩
structure Sp where
 bits:Int
 valid:List Bool
 initial:List Bool
 next:List (List Int)
 fair:List (List Bool)
def Sp.cells(s:Sp):List AV:=[aI s.bits,aL aB s.valid,aL aB s.initial,aL (aL aI) s.next,aL (aL aB) s.fair]
def Sp.av(s:Sp):AV:=.a s.cells
def Sp.small(s:Sp):Prop:=s.valid.length<1048576∧s.next.length<1048576∧s.fair.length<1048576∧∀ x∈s.next,x.length<1048576
def fits(s:Sp)(l:List (List Bool)):Bool:=
 decide (s.next.length=s.valid.length) && s.fair.all (fun p=>decide (p.length=s.valid.length)) && l.all (fun p=>decide (p.length=s.valid.length)) && s.next.all (fun x=>x.all fun i=>decide (0≤i) && decide (i<s.valid.length))
def keyOf(b:ByteArray):Key:=.s b.data.toList
theorem keyOf_inj{a b:ByteArray}(h:keyOf a=keyOf b):a=b:=by
 simp only[keyOf,Key.s.injEq]at h
 exact byteArray_ext (Array.toList_inj.1 h)
theorem ins_keys{es:List (Key × AV)}{x k:Key}{v:AV}:k∈(insM es x v).map (·.1)↔k∈es.map (·.1)∨k=x:=by
 induction es with
 |nil=>simp[insM]
 |cons e es ih =>
  simp only[insM]
  split
  ·rename_i h
   subst h
   simp only[List.map_cons,List.mem_cons]
   constructor
   ·rintro(h|h)
    ·exact .inr h
    ·exact .inl (.inr h)
   ·rintro((h|h)|h)
    ·exact .inl h
    ·exact .inr h
    ·exact .inl h
  ·simp only[List.map_cons,List.mem_cons,ih,or_assoc]
theorem ins_len_in{es:List (Key × AV)}{x:Key}{v:AV}(h:x∈es.map (·.1)):(insM es x v).length=es.length:=by
 induction es with
 |nil=>simp at h
 |cons e es ih =>
  simp only[insM]
  split
  ·rfl
  ·rename_i hne
   have:x∈es.map (·.1):=by
    rcases List.mem_cons.1 h with h|h
    ·exact absurd h.symm hne
    ·exact h
   simp[ih this]
structure Tells (es:List (Key × AV)) (l:List Key):Prop where
 mem:∀ k,k∈es.map (·.1)↔k∈l
 le:es.length≤l.length
 eq:es.length=l.length↔l.Nodup
theorem Tells.nil:Tells [] []:=⟨fun k=>by simp,Nat.le_refl _,by simp⟩
theorem Tells.add{es:List (Key × AV)}{l:List Key}(h:Tells es l)(x:Key)(v:AV):Tells (insM es x v) (l ++ [x]) where
 mem k:=by rw[ins_keys,h.mem,List.mem_append,List.mem_singleton]
 le:=by
  have:=h.le
  by_cases c:x∈es.map (·.1)
  ·rw[ins_len_in c];simp;omega
  ·rw[insM_none (kix_none.2 c)];simp;omega
 eq:=by
  have hle:=h.le
  rw[List.nodup_append]
  by_cases c:x∈es.map (·.1)
  ·rw[ins_len_in c]
   constructor
   ·intro e;simp at e;omega
   ·rintro⟨_,_,h3⟩
    exact absurd rfl (h3 x ((h.mem x).1 c) x (by simp))
  ·rw[insM_none (kix_none.2 c)]
   simp only[List.length_append,List.length_singleton,Nat.add_right_cancel_iff,h.eq]
   constructor
   ·intro e
    refine⟨e,by simp,fun a ha b hb=>?_⟩
    have:b=x:=by simpa using hb
    subst this
    rintro rfl
    exact c ((h.mem _).2 ha)
   ·exact fun e=>e.1
def nameOk(c:Ci)(x:Na):Prop:=wordB x.text=true∧0≤x.pos∧x.pos<c.many x.kind
def nameLt(y x:Na):Prop:=rankI y.kind<rankI x.kind∨rankI y.kind=rankI x.kind∧y.pos<x.pos
structure NamesR (c:Ci) (n:Nat):Prop where
 ok:∀ i (h:i<c.names.length),i<n→nameOk c c.names[i]
 lt:∀ i (h:i+1<c.names.length),i+1<n→nameLt c.names[i] c.names[i+1]
 nodup:((c.names.take n).map fun x=>keyOf x.text).Nodup
open Classical in
def namesB (c:Ci):Bool:=decide (NamesR c c.names.length)
theorem NamesR.zero(c:Ci):NamesR c 0:=⟨fun _ _ h=>by omega,fun _ _ h=>by omega,by simp⟩
theorem NamesR.no_ok{c:Ci}{i:Nat}(h:i<c.names.length)(hn:¬ nameOk c c.names[i]):namesB c=false:=by
 simp only[namesB,decide_eq_false_iff_not]
 exact fun h'=>hn (h'.ok i h h)
theorem NamesR.no_lt{c:Ci}{i:Nat}(h:i+1<c.names.length)(hn:¬ nameLt c.names[i] c.names[i+1]):namesB c=false:=by
 simp only[namesB,decide_eq_false_iff_not]
 exact fun h'=>hn (h'.lt i h h)
@[simp] theorem lenS_nL(l:List Na){S:Store}{K:AV→Store→Prop}:lenS (nL l) S K=K (aI l.length) S:=by simp[nL]
theorem ixS_nL{l:List Na}{e i:Nat}{S:Store}{K:AV→Store→Prop}(h:i<l.length):ixS e 3 (nL l) (aI i) S K=K (.q l[i].row 0) S:=by
 unfold nL
 rw[ixS_l (by simpa using h) (by simp[Na.row])]
 simp
theorem ldN_q3{u v z:AV}{S:Store}{K:AV→Store→Prop}:ldN 3 (.q [u,v,z] 0) S K=K (.a [u,v,z]) S:=by simp[ldN,rdN,place]
theorem keyS(b:ByteArray):keyA .s (.v (.string b))=some (keyOf b):=rfl
theorem lkM_mt{S:Store}{kk:KK}{z:AV}{c:Bool}{k:AV}{key:Key}{es:List (Key × AV)}{K:AV→Store→Prop}(hk:keyA kk k=some key):lkM kk z c (.mt kk es) k S K=K (lkV z c (lkp es key)) S:=by
 simp[lkM,entsA,hk]
theorem lkV_many(c:Ci)(k:Int):lkV (aI 0) false (lkp c.manyE (.i k))=aI (c.many k):=lkp_many c k
theorem wrap32{k:Int}(h0:0≤k)(h1:k<256):IntKind.i32.wrap k=k:=by rw[IntKind.wrap_i32];omega
theorem ans133{c:Ci}(hc:c.ok):Ans Pg 133 [c.av] (aB (namesB c)):=by
 intro S
 refine ACalls.ans_v (calls133 ?_)
 have hlen:=hc.nlen
 unfold m133
 refine boxA_of rfl fun S1 k1 n1 o1=>?_
 rw[ldN_p (n:=8) o1 rfl]
 refine callF_ans (ans127 c) ?_
 unfold mkM
 show shift _ _ _ _
 have k2:=k1.new (.map .s [] true)
 have p2:(S1.new (.map .s [] true)).obj S.n=_:=(new_lt (by omega)).trans o1
 rw[shift_p,ld1_p p2 rfl rfl,lenS_nL]
 refine loop133_0 (fun y S'=>Keep S S'∧S1.n<S'.n∧S'.obj S.n=some (.cells 42 [c.cells] true)∧∃ i:Nat,y=aI i∧i≤c.names.length∧
     (∀ j (h:j<c.names.length),j<i→nameOk c c.names[j])∧(∀ j (h:j+1<c.names.length),j+1<i→nameLt c.names[j] c.names[j+1])∧∃ es,S'.obj S1.n=some (.map .s es true)∧Tells es ((c.names.take i).map fun x=>keyOf x.text))
  (fun y _=>c.names.length - ((intA y).getD 0).toNat) ⟨k2,by simp,p2,0,rfl,Nat.zero_le _,fun j _ h=>by omega,fun j _ h=>by omega,[],new_self _,by simpa using Tells.nil⟩ ?_
 rintro _ S3 ⟨k3,n3,p3,i,rfl,hi,hok,hltn,es,m3,ht⟩ KE hKE
 unfold b133_0
 rw[bin_lss,onB_v]
 refine gd_of (fun hlt=>?_) (fun hge=>?_)
 ·have hlt:i<c.names.length:=by simpa using hlt
  have hx:=hc.names _ (List.getElem_mem hlt)
  rw[ixS_nL hlt]
  generalize hxe:c.names[i]=x at *
  have hno:=fun h=>NamesR.no_ok hlt (hxe ▸ h)
  unfold Na.row
  rw[ldN_q3]
  refine boxA_of rfl fun S4 k4 n4 o4=>?_
  refine stA_of o4 rfl rfl fun S5 n5 o5 f5=>?_
  have k5:Keep S S5:=(k3.trans k4).st (by have:=k3.1;omega) n5 f5
  have p5:S5.obj S.n=_:=(f5 _ (by omega)).trans ((k4.2 _ (by omega)).trans p3)
  have m5:S5.obj S1.n=_:=(f5 _ (by omega)).trans ((k4.2 _ (by omega)).trans m3)
  rw[shift_p,ld1_p o5 rfl rfl]
  refine callF_ans (ans167 x.text hx.2.2.2) ?_
  rw[un_not,onB_v]
  refine gd_of (fun h1=>⟨?_,k5⟩) (fun h1=>?_)
  ·rw[hno (fun h=>by rw[h.1]at h1;cases h1)]
  rw[shift_p,ld1_p o5 rfl rfl]
  refine callF_ans (ans168 x.kind hx.1 hx.2.1) ?_
  rw[bin_lss,onB_v]
  refine gd_of (fun h2=>⟨?_,k5⟩) (fun h2=>?_)
  ·rw[hno (fun h=>by have:=h.2;rw[many_no (dT h2)]at this;omega)]
  rw[shift_p,ld1_p o5 rfl rfl,bin_lss,onB_v]
  refine gd_of (fun h3=>⟨?_,k5⟩) (fun h3=>?_)
  ·rw[hno (fun h=>by have:=h.2;have:=dT h3;omega)]
  rw[shift_p,ld1_p o5 rfl rfl,shift_p,ld1_p o5 rfl rfl,convI_v,wrap32 hx.1 hx.2.1,lkM_mt (keyI _ _)]
  rw[lkV_many]
  rw[bin_geq,onB_v]
  refine gd_of (fun h4=>⟨?_,k5⟩) (fun h4=>?_)
  ·rw[hno (fun h=>by have:=h.2;have:=dT h4;omega)]
  have hgood:nameOk c x:=⟨by simpa using h1,by have:=dF h3;omega,by have:=dF h4;omega⟩
  rw[shift_p,ld1_p o5 rfl rfl,bld_of (cs:=[]) rfl,updM_m m5 (keyS _)]
  have k6:=k5.upd (id:=S1.n) (by omega) (.map .s (insM es (keyOf x.text) (.a [])) true)
  have p6:(Store.upd S5 S1.n (.map .s (insM es (keyOf x.text) (.a [])) true)).obj S.n=_:=(upd_ne (by omega)).trans p5
  have o6:(Store.upd S5 S1.n (.map .s (insM es (keyOf x.text) (.a [])) true)).obj S3.n=_:=(upd_ne (by omega)).trans o5
  have m6:(Store.upd S5 S1.n (.map .s (insM es (keyOf x.text) (.a [])) true)).obj S1.n=_:=upd_self _ _
  have n6:S4.n=(Store.upd S5 S1.n (.map .s (insM es (keyOf x.text) (.a [])) true)).n:=n5.symm
  have n6':S3.n+1=(Store.upd S5 S1.n (.map .s (insM es (keyOf x.text) (.a [])) true)).n:=by rw[←n6,n4]
  generalize Store.upd S5 S1.n (.map .s (insM es (keyOf x.text) (.a [])) true)=S6 at *
  have ht':Tells (insM es (keyOf x.text) (.a [])) ((c.names.take (i+1)).map fun x=>keyOf x.text):=by
   rw[List.take_add_one,List.getElem?_eq_getElem hlt,hxe,List.map_append]
   exact ht.add _ _
  have hok':∀ j (h:j<c.names.length),j<i+1→nameOk c c.names[j]:=fun j hj hj'=>by
   rcases Nat.lt_or_ge j i with h|h
   ·exact hok j hj h
   ·have:j=i:=by omega
    subst this
    rw[hxe];exact hgood
  have hadd:∀ K:AV→Store→Prop,∀ S,bin .add 0 (.v (.int .i64 (i:Int))) (.v (.int .i64 1)) S K=K (aI (i+1:Nat)) S:=fun K S=>bin_add (by omega) (by omega) 0
  have hμ:c.names.length - ((intA (aI (i+1:Nat))).getD 0).toNat<c.names.length - ((intA (aI i)).getD 0).toNat:=by simp[intA];omega
  rw[bin_eql,onB_v]
  refine gd_of (fun h5=>?_) (fun h5=>?_)
  ·have h5:i=0:=by have:=dT h5;omega
   rw[hadd]
   exact hKE _ _ ⟨k6,by omega,p6,i+1,rfl,hlt,hok',fun j hj hj'=>by omega,_,m6,ht'⟩ hμ
  ·have h5:i≠0:=by have:=dF h5;omega
   obtain⟨j,rfl⟩:∃ j,i=j+1:=⟨i - 1,by omega⟩
   have hj:j<c.names.length:=by omega
   have hy:=hc.names _ (List.getElem_mem hj)
   have hsub:∀ K:AV→Store→Prop,∀ S,bin .sub 0 (.v (.int .i64 ((j+1:Nat):Int))) (.v (.int .i64 1)) S K=K (aI j) S:=fun K S=>(bin_sub (by omega) (by omega) 0).trans (by rw[show((j+1:Nat):Int) - 1=j by omega])
   rw[shift_p,ld1_p p6 rfl rfl,hsub,ixS_nL hj]
   have hnl:¬ nameLt c.names[j] x→namesB c=false:=fun h=>NamesR.no_lt hlt (by rw[hxe];exact h)
   generalize hye:c.names[j]=y at *
   unfold Na.row
   rw[ldN_q3]
   refine boxA_of rfl fun S7 k7 n7 o7=>?_
   refine stA_of o7 rfl rfl fun S8 n8 o8 f8=>?_
   have k8:Keep S S8:=(k6.trans k7).st (by have:=k6.1;omega) n8 f8
   have p8:S8.obj S.n=_:=(f8 _ (by omega)).trans ((k7.2 _ (by omega)).trans p6)
   have m8:S8.obj S1.n=_:=(f8 _ (by omega)).trans ((k7.2 _ (by omega)).trans m6)
   have q8:S8.obj S3.n=_:=(f8 _ (by omega)).trans ((k7.2 _ (by omega)).trans o6)
   show ∃ q50:AV,_
   refine⟨_,by rw[shift_p];exact⟨rfl,rfl⟩,?_⟩
   refine⟨_,by rw[ld1_p o8 rfl rfl];exact⟨rfl,rfl⟩,?_⟩
   refine⟨_,callF_ans (ans168 y.kind hy.1 hy.2.1) ⟨rfl,rfl⟩,?_⟩
   refine⟨_,by rw[shift_p];exact⟨rfl,rfl⟩,?_⟩
   refine⟨_,by rw[ld1_p q8 rfl rfl];exact⟨rfl,rfl⟩,?_⟩
   refine⟨_,callF_ans (ans168 x.kind hx.1 hx.2.1) ⟨rfl,rfl⟩,?_⟩
   refine⟨_,callF_ans (ans170 _ _) ⟨rfl,rfl⟩,?_⟩
   refine⟨_,by rw[shift_p];exact⟨rfl,rfl⟩,?_⟩
   refine⟨_,by rw[ld1_p o8 rfl rfl];exact⟨rfl,rfl⟩,?_⟩
   refine⟨_,by rw[shift_p];exact⟨rfl,rfl⟩,?_⟩
   refine⟨_,by rw[ld1_p q8 rfl rfl];exact⟨rfl,rfl⟩,?_⟩
   refine⟨_,callF_ans (ans170 _ _) ⟨rfl,rfl⟩,?_⟩
   refine⟨_,bsl2 rfl rfl ⟨rfl,rfl⟩,?_⟩
   refine⟨_,callF_ans (ans169 _ _) ⟨rfl,rfl⟩,?_⟩
   refine⟨_,by rw[bin_geq];exact⟨rfl,rfl⟩,?_⟩
   rw[onB_v]
   have hcmp:(0≤if cmpZ (rankI y.kind) (rankI x.kind)≠0 then cmpZ (rankI y.kind) (rankI x.kind)else cmpZ y.pos x.pos)↔¬ nameLt y x:=by
    unfold cmpZ nameLt
    repeat' split
    all_goals omega
   refine gd_of (fun h6=>⟨?_,k8⟩) (fun h6=>?_)
   ·rw[hnl (hcmp.1 (dT h6))]
   ·rw[hadd]
    refine hKE _ _ ⟨k8,by omega,p8,j+1+1,rfl,hlt,hok',fun k hk hk'=>?_,_,m8,ht'⟩ hμ
    rcases Nat.lt_or_ge (k+1) (j+1)with h|h
    ·exact hltn k hk h
    ·have:k=j:=by omega
     subst this
     rw[hxe,hye]
     have:=dF h6
     exact Classical.not_not.1 fun hh=>this (hcmp.2 hh)
 ·have hge:i=c.names.length:=by simp at hge;omega
  subst hge
  rw[lenM_m m3,shift_p,ld1_p p3 rfl rfl,lenS_nL,bin_eql]
  refine⟨?_,k3⟩
  congr 3
  simp only[namesB,decide_eq_decide]
  have:=ht.eq
  rw[List.length_map,List.length_take,Nat.min_self]at this
  rw[Int.natCast_inj,this]
  exact⟨fun h=>⟨hok,hltn,h⟩,fun h=>h.nodup⟩
theorem ans114{c:Ci}(hc:c.ok):Ans Pg 114 [c.av] (aB (namesB c)):=by
 intro S
 refine ACalls.ans_v (calls114 ?_)
 have hlen:=hc.nlen
 unfold m114
 refine boxA_of rfl fun S1 k1 n1 o1=>?_
 refine loop114_0 (fun y S'=>Keep S S'∧S.n<S'.n∧S'.obj S.n=some (.cells 42 [c.cells] true)∧∃ i:Nat,y=aI i∧i≤c.names.length∧NamesR c i)
  (fun y _=>c.names.length - ((intA y).getD 0).toNat) ⟨k1,by omega,o1,0,rfl,Nat.zero_le _,NamesR.zero c⟩ ?_
 rintro _ S3 ⟨k3,n3,p3,i,rfl,hi,hR⟩ KE hKE
 unfold b114_0
 rw[shift_p,ld1_p p3 rfl rfl,lenS_nL,bin_lss,onB_v]
 refine gd_of (fun hlt=>?_) (fun hge=>?_)
 ·have hlt:i<c.names.length:=by simpa using hlt
  have hx:=hc.names _ (List.getElem_mem hlt)
  rw[shift_p,ld1_p p3 rfl rfl,ixS_nL hlt]
  generalize hxe:c.names[i]=x at *
  have hno:=fun h=>NamesR.no_ok hlt (hxe ▸ h)
  have hrow:x.row = [.v (.int .u8 x.kind),aI x.pos,.v (.string x.text)]:=rfl
  rw[hrow,ldN_q3]
  refine boxA_of rfl fun S4 k4 n4 o4=>?_
  refine stA_of o4 rfl rfl fun S5 n5 o5 f5=>?_
  have k5:Keep S S5:=(k3.trans k4).st (by have:=k3.1;omega) n5 f5
  have p5:S5.obj S.n=_:=(f5 _ (by omega)).trans ((k4.2 _ (by omega)).trans p3)
  show ∃ q13:AV,_
  refine⟨_,by rw[shift_p];exact⟨rfl,rfl⟩,?_⟩
  refine⟨_,by rw[ld1_p o5 rfl rfl];exact⟨rfl,rfl⟩,?_⟩
  refine⟨_,callF_ans (ans149 x.text hx.2.2.2) ⟨rfl,rfl⟩,?_⟩
  refine⟨_,by rw[un_not];exact⟨rfl,rfl⟩,?_⟩
  rw[onB_v]
  refine gd_of (fun h1=>?_) (fun h1=>?_)
  ·refine⟨_,⟨rfl,rfl⟩,?_⟩
   rw[onB_v,gd_true]
   refine⟨_,⟨rfl,rfl⟩,?_⟩
   rw[onB_v,gd_true]
   exact⟨by rw[hno (fun h=>by rw[h.1]at h1;cases h1)],k5⟩
  refine⟨_,by rw[shift_p];exact⟨rfl,rfl⟩,?_⟩
  refine⟨_,by rw[ld1_p o5 rfl rfl];exact⟨rfl,rfl⟩,?_⟩
  refine⟨_,by rw[bin_lss];exact⟨rfl,rfl⟩,?_⟩
  refine⟨_,⟨rfl,rfl⟩,?_⟩
  rw[onB_v]
  refine gd_of (fun h3=>?_) (fun h3=>?_)
  ·refine⟨_,⟨rfl,rfl⟩,?_⟩
   rw[onB_v,gd_true]
   exact⟨by rw[hno (fun h=>by have:=h.2;have:=dT h3;omega)],k5⟩
  refine⟨_,by rw[shift_p];exact⟨rfl,rfl⟩,?_⟩
  refine⟨_,by rw[ld1_p o5 rfl rfl];exact⟨rfl,rfl⟩,?_⟩
  refine⟨_,by rw[ldN_p (n:=8) p5 rfl];exact⟨rfl,rfl⟩,?_⟩
  refine⟨_,by rw[shift_p];exact⟨rfl,rfl⟩,?_⟩
  refine⟨_,by rw[ld1_p o5 rfl rfl];exact⟨rfl,rfl⟩,?_⟩
  refine⟨_,callF_ans (ans150 c x.kind) ⟨rfl,rfl⟩,?_⟩
  refine⟨_,by rw[bin_geq];exact⟨rfl,rfl⟩,?_⟩
  refine⟨_,⟨rfl,rfl⟩,?_⟩
  rw[onB_v]
  refine gd_of (fun h4=>⟨?_,k5⟩) (fun h4=>?_)
  ·rw[hno (fun h=>by have:=h.2;have:=dT h4;omega)]
  have hgood:nameOk c x:=⟨by simpa using h1,by have:=dF h3;omega,by have:=dF h4;omega⟩
  have hok':∀ j (h:j<c.names.length),j<i+1→nameOk c c.names[j]:=fun j hj hj'=>by
   rcases Nat.lt_or_ge j i with h|h
   ·exact hR.ok j hj h
   ·have:j=i:=by omega
    subst this
    rw[hxe];exact hgood
  refine loop114_1 (fun y S'=>S'=S5∧∃ k:Nat,y=aI k∧k≤i∧∀ j (hj:j<k) (hk:k≤i),(c.names[j]'(by omega)).text≠x.text)
   (fun y _=>i - ((intA y).getD 0).toNat) ⟨rfl,0,rfl,Nat.zero_le _,fun j hj=>(Nat.not_lt_zero _ hj).elim⟩ ?_
  rintro _ S5 ⟨rfl,k,rfl,hk,hne⟩ KE1 hKE1
  unfold b114_1
  rw[bin_lss,onB_v]
  refine gd_of (fun hlk=>?_) (fun hgk=>?_)
  ·have hlk:k<i:=by simpa using hlk
   have hkl:k<c.names.length:=by omega
   show ∃ q70:AV,_
   refine⟨_,by rw[shift_p];exact⟨rfl,rfl⟩,?_⟩
   refine⟨_,by rw[ld1_p p5 rfl rfl];exact⟨rfl,rfl⟩,?_⟩
   refine⟨_,by rw[ixS_nL hkl];exact⟨rfl,rfl⟩,?_⟩
   refine⟨_,by rw[shift_q];exact⟨rfl,rfl⟩,?_⟩
   refine⟨_,by rw[ld1_qj (u:=.v (.string c.names[k].text)) rfl];exact⟨rfl,rfl⟩,?_⟩
   refine⟨_,by rw[shift_p];exact⟨rfl,rfl⟩,?_⟩
   refine⟨_,by rw[ld1_p o5 rfl rfl];exact⟨rfl,rfl⟩,?_⟩
   refine⟨_,by rw[bin_eqlS];exact⟨rfl,rfl⟩,?_⟩
   rw[onB_v]
   refine gd_of (fun h6=>⟨?_,k5⟩) (fun h6=>?_)
   ·have h6:c.names[k].text=x.text:=dT h6
    have:namesB c=false:=by
     simp only[namesB,decide_eq_false_iff_not]
     intro h'
     have hnd:=h'.nodup
     rw[List.take_length]at hnd
     have:=List.pairwise_iff_getElem.1 hnd k i (by simpa using hkl) (by simpa using hlt) hlk
     simp only[List.getElem_map,hxe,h6]at this
     exact this rfl
    rw[this]
   ·have hadd:∀ K:AV→Store→Prop,∀ S,bin .add 0 (.v (.int .i64 (k:Int))) (.v (.int .i64 1)) S K=K (aI (k+1:Nat)) S:=fun K S=>bin_add (by omega) (by omega) 0
    rw[hadd]
    refine hKE1 _ _ ⟨rfl,k+1,rfl,hlk,fun j hj _=>?_⟩ (by simp[intA];omega)
    rcases Nat.lt_or_ge j k with hj'|hj'
    ·exact hne j hj' (by omega)
    ·have:j=k:=by omega
     subst this
     exact dF h6
  ·have hge:k=i:=by simp at hgk;omega
   subst hge
   have hnd':((c.names.take (k+1)).map fun x=>keyOf x.text).Nodup:=by
    have h:=hR.nodup
    rw[List.take_add_one,List.getElem?_eq_getElem hlt,List.map_append,List.nodup_append]
    refine⟨h,by simp,fun a ha b hb=>?_⟩
    rw[List.mem_map]at ha hb
    obtain⟨y,hy,rfl⟩:=ha
    obtain⟨z,hz,rfl⟩:=hb
    have:z=x:=by simpa[hxe]using hz
    subst this
    rw[List.mem_take_iff_getElem]at hy
    obtain⟨j,hj,rfl⟩:=hy
    exact fun e=>hne j (by omega) (Nat.le_refl _) (keyOf_inj e)
   have hadd:∀ K:AV→Store→Prop,∀ S,bin .add 0 (.v (.int .i64 (k:Int))) (.v (.int .i64 1)) S K=K (aI (k+1:Nat)) S:=fun K S=>bin_add (by omega) (by omega) 0
   have hμ:c.names.length - ((intA (aI (k+1:Nat))).getD 0).toNat<c.names.length - ((intA (aI k)).getD 0).toNat:=by simp[intA];omega
   have next:(∀ j (h:j+1<c.names.length),j+1=k→nameLt c.names[j] x)→KE _ (env114_0 (.p S.n 0 0) (aI (k+1:Nat))) S5:=fun hl=>hKE _ _ ⟨k5,by omega,p5,k+1,rfl,hlt,hok',fun j hj hj'=>by
    rcases Nat.lt_or_ge (j+1) k with h|h
    ·exact hR.lt j hj h
    ·have e:j+1=k:=by omega
     have:=hl j hj e
     subst e
     rw[hxe];exact this,hnd'⟩ hμ
   rw[bin_gtr,onB_v]
   refine gd_of (fun h7=>?_) (fun h7=>?_)
   ·obtain⟨j,rfl⟩:∃ j,k=j+1:=⟨k - 1,by have:=dT h7;omega⟩
    have hj:j<c.names.length:=by omega
    have hnl:¬ nameLt c.names[j] x→namesB c=false:=fun h=>NamesR.no_lt hlt (by rw[hxe];exact h)
    have next:=fun(h:nameLt c.names[j] x)=>next (fun j' hj' e=>by
     have:j'=j:=by omega
     subst this
     exact h)
    have hsub:∀ K:AV→Store→Prop,∀ S,bin .sub 0 (.v (.int .i64 ((j+1:Nat):Int))) (.v (.int .i64 1)) S K=K (aI j) S:=fun K S=>(bin_sub (by omega) (by omega) 0).trans (by rw[show((j+1:Nat):Int) - 1=j by omega])
    have hix:∀ K:AV→Store→Prop,ixS 130 3 (nL c.names) (aI j) S5 K=K (.q c.names[j].row 0) S5:=fun K=>ixS_nL hj
    generalize hye:c.names[j]=y at *
    have hrow':y.row = [.v (.int .u8 y.kind),aI y.pos,.v (.string y.text)]:=rfl
    show ∃ q90:AV,_
    refine⟨_,by rw[shift_p];exact⟨rfl,rfl⟩,?_⟩
    refine⟨_,by rw[ld1_p p5 rfl rfl];exact⟨rfl,rfl⟩,?_⟩
    refine⟨_,by rw[hsub];exact⟨rfl,rfl⟩,?_⟩
    refine⟨_,by rw[hix];exact⟨rfl,rfl⟩,?_⟩
    refine⟨_,by rw[shift_q];exact⟨rfl,rfl⟩,?_⟩
    refine⟨_,by rw[ld1_qj (u:=.v (.int .u8 y.kind)) rfl];exact⟨rfl,rfl⟩,?_⟩
    refine⟨_,callF_ans (ans151 y.kind) ⟨rfl,rfl⟩,?_⟩
    refine⟨_,by rw[shift_p];exact⟨rfl,rfl⟩,?_⟩
    refine⟨_,by rw[ld1_p o5 rfl rfl];exact⟨rfl,rfl⟩,?_⟩
    refine⟨_,callF_ans (ans151 x.kind) ⟨rfl,rfl⟩,?_⟩
    show ∃ q110:AV,_
    refine⟨_,by rw[bin_gtr];exact⟨rfl,rfl⟩,?_⟩
    rw[onB_v]
    refine gd_of (fun h8=>?_) (fun h8=>?_)
    ·refine⟨_,⟨rfl,rfl⟩,?_⟩
     rw[onB_v,gd_true]
     refine⟨?_,k5⟩
     have h8:=dT h8
     rw[hnl (by unfold nameLt;omega)]
    have h8:=dF h8
    refine⟨_,by rw[bin_eql];exact⟨rfl,rfl⟩,?_⟩
    rw[onB_v]
    refine gd_of (fun h9=>?_) (fun h9=>?_)
    ·have h9:rankI y.kind=rankI x.kind:=dT h9
     refine⟨_,by rw[shift_p];exact⟨rfl,rfl⟩,?_⟩
     refine⟨_,by rw[ld1_p p5 rfl rfl];exact⟨rfl,rfl⟩,?_⟩
     refine⟨_,by rw[hsub];exact⟨rfl,rfl⟩,?_⟩
     refine⟨_,by rw[hix];exact⟨rfl,rfl⟩,?_⟩
     refine⟨_,by rw[shift_q];exact⟨rfl,rfl⟩,?_⟩
     refine⟨_,by rw[ld1_qj (u:=aI y.pos) rfl];exact⟨rfl,rfl⟩,?_⟩
     refine⟨_,by rw[shift_p];exact⟨rfl,rfl⟩,?_⟩
     refine⟨_,by rw[ld1_p o5 rfl rfl];exact⟨rfl,rfl⟩,?_⟩
     refine⟨_,by rw[bin_geq];exact⟨rfl,rfl⟩,?_⟩
     refine⟨_,⟨rfl,rfl⟩,?_⟩
     refine⟨_,⟨rfl,rfl⟩,?_⟩
     rw[onB_v]
     refine gd_of (fun h10=>⟨?_,k5⟩) (fun h10=>?_)
     ·have h10:=dT h10
      rw[hnl (by unfold nameLt;omega)]
     ·have h10:=dF h10
      rw[hadd]
      exact next (by unfold nameLt;omega)
    ·have h9:¬ rankI y.kind=rankI x.kind:=dF h9
     refine⟨_,⟨rfl,rfl⟩,?_⟩
     refine⟨_,⟨rfl,rfl⟩,?_⟩
     rw[onB_v,gd_false,hadd]
     exact next (by unfold nameLt;omega)
   ·rw[hadd]
    exact next (fun j hj e=>by have:=dF h7;omega)
 ·have hge:i=c.names.length:=by simp at hge;omega
  subst hge
  refine⟨?_,k3⟩
  have:namesB c=true:=by simp only[namesB,decide_eq_true_eq];exact hR
  rw[this]
theorem ans113{g:Gr}{l:List Int}(hg:g.ok)(hl:∀ x∈l,i64R x)(hn:l.length≤9223372036854775807):Ans Pg 113 [g.av,aL aI l] (aB (l.all g.lit && decide (l.length≤2000))):=by
 intro S
 refine ACalls.ans_v (calls113 ?_)
 unfold m113
 refine boxA_of rfl fun S1 k1 n1 o1=>?_
 refine loop113_0 (fun y S'=>S'=S1∧∃ i:Nat,y=aI i∧i≤l.length∧∀ j (h:j<l.length),j<i→g.lit l[j]=true)
  (fun y _=>l.length - ((intA y).getD 0).toNat) ⟨rfl,0,rfl,Nat.zero_le _,fun j _ hj=>(Nat.not_lt_zero _ hj).elim⟩ ?_
 rintro _ S1 ⟨rfl,i,rfl,hi,hok⟩ KE hKE
 unfold b113_0
 rw[lenS_aL,bin_lss,onB_v]
 refine gd_of (fun hlt=>?_) (fun hge=>?_)
 ·have hlt:i<l.length:=by simpa using hlt
  have hm:=List.getElem_mem hlt
  show ∃ q5:AV,_
  refine⟨_,by rw[ldN_p (n:=2) o1 rfl];exact⟨rfl,rfl⟩,?_⟩
  refine⟨_,by rw[ixS_aL hlt];exact⟨rfl,rfl⟩,?_⟩
  refine⟨_,by rw[ld1_q];exact⟨rfl,rfl⟩,?_⟩
  refine⟨_,callF_ans (ans112 hg (hl _ hm)) ⟨rfl,rfl⟩,?_⟩
  refine⟨_,by rw[un_not];exact⟨rfl,rfl⟩,?_⟩
  rw[onB_v]
  refine gd_of (fun h=>⟨?_,k1⟩) (fun h=>?_)
  ·have:l.all g.lit=false:=by
     rw[List.all_eq_false]
     exact⟨_,hm,by simpa using h⟩
   rw[this];rfl
  ·have hadd:∀ K:AV→Store→Prop,∀ S,bin .add 0 (.v (.int .i64 (i:Int))) (.v (.int .i64 1)) S K=K (aI (i+1:Nat)) S:=fun K S=>bin_add (by omega) (by omega) 0
   rw[hadd]
   refine hKE _ _ ⟨rfl,i+1,rfl,hlt,fun j hj hj'=>?_⟩ (by simp[intA];omega)
   rcases Nat.lt_or_ge j i with h'|h'
   ·exact hok j hj h'
   ·have:j=i:=by omega
    subst this
    simpa using h
 ·have hge:i=l.length:=by simp at hge;omega
  subst hge
  rw[lenS_aL,bin_leq]
  refine⟨?_,k1⟩
  have:l.all g.lit=true:=by
   rw[List.all_eq_true]
   intro x hx
   obtain⟨j,hj,rfl⟩:=List.getElem_of_mem hx
   exact hok j hj hj
  rw[this,Bool.true_and,show decide ((l.length:Int)≤2000)=decide (l.length≤2000)from decide_eq_decide.2 (by omega)]
def latOk(g:Gr)(p:Int × Int):Bool:=g.lit p.1 && (decide (0≤p.2) && decide (p.2≤2))
def Ci.manyL(c:Ci):List Int:=[c.inputs,c.latches.length,c.outs.length,c.bads.length,c.cons.length,c.fair.length]
def Ci.right (c:Ci):Bool:=
 c.manyL.all (fun n=>decide (0≤n) && decide (n≤2000)) && (c.gr.right && (c.latches.all (latOk c.gr) && (c.outs.all c.gr.lit && (c.bads.all c.gr.lit && (c.cons.all c.gr.lit && (c.fair.all c.gr.lit && namesB c))))))
theorem at128{S:Store}{g:Gr}{id:Nat}{l:Int}(hg:g.ok)(hl:i64R l)(h:S.obj id=some (.cells 82 [g.cells] true)):AnsAt Pg 128 [aI l,.p id 0 0] S (aB (!g.lit l)):=by
 refine calls128 ?_
 unfold m128
 rw[ldN_p (n:=2) h rfl]
 refine callF_ans (ans88 hg hl) ?_
 rw[un_not]
 exact⟨rfl,rfl⟩
theorem at129{S:Store}{g:Gr}{id fid t:Nat}{p:Int × Int}(hg:g.ok)(hl:i64R p.1)(hid:id<S.n)(hf:fid<S.n)(h:S.obj id=some (.cells 82 [g.cells] true))
    (h2:S.obj fid=some (.cells t [[.f (.func 128) [] [.p id 0 0]]] true)):AnsAt Pg 129 [.a [aI p.1,aI p.2],.p fid 0 0] S (aB (!latOk g p)):=by
 refine ACalls.ans_v (calls129 ?_)
 unfold m129
 refine boxA_of rfl fun S1 k1 n1 o1=>?_
 have h':=(k1.2 _ hid).trans h
 have h2':=(k1.2 _ hf).trans h2
 rw[ld1_p h2' rfl rfl,shift_p,ld1_p o1 rfl rfl]
 refine callV_at (at128 hg hl h') ?_
 rw[onB_v]
 refine gd_of (fun h3=>⟨?_,k1⟩) (fun h3=>?_)
 ·rw[Bool.not_eq_true']at h3
  simp[latOk,h3]
 have h3:g.lit p.1=true:=by simpa using h3
 rw[shift_p,ld1_p o1 rfl rfl,bin_lss,onB_v]
 refine gd_of (fun h4=>⟨?_,k1⟩) (fun h4=>?_)
 ·have h4:=dT h4
  simp[latOk,show ¬ 0≤p.2 by omega]
 rw[shift_p,ld1_p o1 rfl rfl,bin_gtr]
 refine⟨?_,k1⟩
 have h4:=dF h4
 simp only[latOk,h3,Bool.true_and,show 0≤p.2 by omega,decide_true]
 congr 4
 rw[←decide_not]
 exact decide_eq_decide.2 (by omega)
theorem at165{l:List (Int × Int)}(hl:l.length≤9223372036854775807){g:Int × Int→Bool}{fn:FuncId}{fs cs:List AV}{S:Store}
    (hf:∀ x,x∈l→AnsAt Pg fn (fs ++ [.a [aI x.1,aI x.2]]++cs) S (aB (g x))):AnsAt Pg 165 [pL l,.f (.func fn) fs cs] S (aI (idxOf (l.findIdx? g))):=by
 refine calls165 ?_
 unfold m165
 rw[lenS_pL]
 refine loop165_0 (fun y S'=>S'=S∧∃ i:Nat,y=aI i∧i≤l.length∧∀ k (hk:k<l.length),k<i→g l[k]=false) (fun y _=>l.length - ((intA y).getD 0).toNat) ⟨rfl,0,rfl,Nat.zero_le _,fun k _ h=>absurd h (Nat.not_lt_zero _)⟩ ?_
 rintro _ _ ⟨rfl,i,rfl,hi,hk⟩ KE hKE
 unfold b165_0
 rw[bin_lss,onB_v]
 refine gd_of (fun h=>?_) (fun h=>?_)
 ·have hlt:i<l.length:=by simpa using h
  rw[ixS_pL hlt,ldN_q2]
  refine callV_at (hf _ (List.getElem_mem hlt)) ?_
  rw[onB_v]
  refine gd_of (fun hg=>⟨?_,rfl⟩) (fun hg=>?_)
  ·rw[find_at hlt hg (fun k hk'=>hk k _ hk')];rfl
  ·rw[bin_add (by omega) (by omega)]
   refine hKE _ _ ⟨rfl,i+1,rfl,hlt,fun k hk1 hk2=>?_⟩ ?_
   ·by_cases e:k=i
    ·subst e;exact hg
    ·exact hk k hk1 (by omega)
   ·simp[intA,aI];omega
 ·have hge:i=l.length:=by simp at h;omega
  subst hge
  rw[find_none (fun k hk'=>hk k hk' hk')]
  exact⟨rfl,rfl⟩
theorem at131{l:List (Int × Int)}(hl:l.length≤9223372036854775807){g:Int × Int→Bool}{fn:FuncId}{fs cs:List AV}{S:Store}
    (hf:∀ x,x∈l→AnsAt Pg fn (fs ++ [.a [aI x.1,aI x.2]]++cs) S (aB (g x))):AnsAt Pg 131 [pL l,.f (.func fn) fs cs] S (aB (l.any g)):=by
 refine calls131 ?_
 unfold m131
 refine callF_at (at165 hl hf) ?_
 unfold aI
 rw[bin_geq,idx_any]
 exact⟨rfl,rfl⟩
theorem manyE_at{c:Ci}{i:Nat}{e:Key × AV}(h:c.manyE[i]? = some e):∃ h':i<6,e.2=aI (c.manyL[i]'h'):=by
 match i with
 |0|1|2|3|4|5=>cases h;exact⟨by decide,rfl⟩
 |i+6=>simp[Ci.manyE]at h
theorem any_not{l:List Int}{g:Int→Bool}:l.any (fun x=>!g x) = !l.all g:=by
 induction l with
 |nil=>rfl
 |cons a l ih=>simp[ih]
theorem any_notP{l:List (Int × Int)}{g:Int × Int→Bool}:l.any (fun x=>!g x) = !l.all g:=by
 induction l with
 |nil=>rfl
 |cons a l ih=>simp[ih]
theorem nodup_lt6:∀{n:Nat} {l:List Nat},l.Nodup→(∀ x∈l,x<n)→l.length≤n
 |0,l,_,h=>by
  cases l with
  |nil=>simp
  |cons x l=>exact absurd (h x (by simp)) (Nat.not_lt_zero _)
 |n+1,l,hd,h=>by
  have h1:=nodup_lt6 (n:=n) (l:=l.erase n) (hd.erase n) (fun x hx=>by
   have:=(hd.mem_erase_iff).1 hx
   have:=h x this.2
   omega)
  by_cases hm:n∈l
  ·have:=List.length_erase_of_mem hm
   omega
  ·rw[List.erase_of_not_mem hm]at h1
   omega
theorem ans85{c:Ci}(hc:c.ok):Ans Pg 85 [c.av] (aB c.right):=by
 intro S
 refine ACalls.ans_v (calls85 ?_)
 have hg:=hc.gr
 unfold m85
 refine boxA_of rfl fun S1 k1 n1 o1=>?_
 rw[ldN_p (n:=8) o1 rfl]
 refine callF_ans (ans84 c) ?_
 refine boxA_of rfl fun S2 k2 n2 o2=>?_
 refine stA_of o2 rfl rfl fun S3 n3 o3 f3=>?_
 have k3:Keep S S3:=(k1.trans k2).st (by omega) n3 f3
 have p3:S3.obj S.n=_:=(f3 _ (by omega)).trans ((k2.2 _ (by omega)).trans o1)
 rw[ldN_p (n:=8) p3 rfl]
 refine callF_ans (ans127 c) ?_
 show loopV _ _ _ _ _ _
 have hmany:∀(i:Nat) (h:i<6),¬ (0≤c.manyL[i]'h∧c.manyL[i]'h≤2000)→c.right=false:=fun i h hn=>by
  have:c.manyL.all (fun n=>decide (0≤n) && decide (n≤2000))=false:=by
   rw[List.all_eq_false]
   exact⟨_,List.getElem_mem (l:=c.manyL) h,by simpa using hn⟩
  simp only[Ci.right,this,Bool.false_and]
 refine loop85_0 (fun S'=>Keep S S'∧S3.n<S'.n∧S'.obj S.n=some (.cells 42 [c.cells] true)∧S'.obj S1.n=some (.cells 82 [c.gr.cells] true)∧
     ∃ seen,S'.obj S3.n=some (.mit (.mt (.i .i32) c.manyE) 6 seen)∧seen.Nodup∧(∀ i∈seen,∃ h:i<6,0≤c.manyL[i]'h∧c.manyL[i]'h≤2000))
  (fun S'=>match S'.obj S3.n with|some (.mit _ _ seen)=>6 - seen.length|_=>0)
  ⟨k3.new _,by simp,(new_lt (by omega)).trans p3,(new_lt (by omega)).trans o3,[],new_self _,by simp,fun i h=>by simp at h⟩ ?_
 rintro S4 ⟨k4,n4,p4,g4,seen,m4,hnd,hse⟩ KE hKE
 unfold b85_0 nextM
 simp only[m4,mapKK,optP_some]
 refine⟨rfl,fun i e he hi=>?_,fun hall=>?_⟩
 ·obtain⟨hi6,hev⟩:=manyE_at he
  have k5:Keep S (Store.upd S4 S3.n (.mit (.mt (.i .i32) c.manyE) 6 (seen ++ [i]))):=k4.upd (by have:=k3.1;omega) _
  have m5:(Store.upd S4 S3.n (.mit (.mt (.i .i32) c.manyE) 6 (seen ++ [i]))).obj S3.n=_:=upd_self _ _
  have p5:(Store.upd S4 S3.n (.mit (.mt (.i .i32) c.manyE) 6 (seen ++ [i]))).obj S.n=_:=(upd_ne (by omega)).trans p4
  have g5:(Store.upd S4 S3.n (.mit (.mt (.i .i32) c.manyE) 6 (seen ++ [i]))).obj S1.n=_:=(upd_ne (by omega)).trans g4
  have n5:(Store.upd S4 S3.n (.mit (.mt (.i .i32) c.manyE) 6 (seen ++ [i]))).n=S4.n:=rfl
  generalize Store.upd S4 S3.n (.mit (.mt (.i .i32) c.manyE) 6 (seen ++ [i]))=S5 at *
  rw[extr0,onB_v,gd_true]
  unfold entryM
  simp only[m5,mapKK,optP_some]
  refine⟨rfl,i,by simp,e,he,?_⟩
  show extr _ _ _ _
  rw[extr1,hev,bin_lss,onB_v]
  refine gd_of (fun h1=>⟨?_,k5⟩) (fun h1=>?_)
  ·rw[hmany i hi6 (fun h=>by have:=dT h1;omega)]
  rw[bin_gtr,onB_v]
  refine gd_of (fun h2=>⟨?_,k5⟩) (fun h2=>?_)
  ·rw[hmany i hi6 (fun h=>by have:=dT h2;omega)]
  have h1:=dF h1
  have h2:=dF h2
  have hnd':(seen ++ [i]).Nodup:=by
   rw[List.nodup_append]
   refine⟨hnd,by simp,fun a ha b hb=>?_⟩
   have:b=i:=by simpa using hb
   subst this
   rintro rfl
   exact hi ha
  have hse':∀ j∈seen ++ [i],∃ h:j<6,0≤c.manyL[j]'h∧c.manyL[j]'h≤2000:=fun j hj=>by
   rcases List.mem_append.1 hj with hj|hj
   ·exact hse j hj
   ·have:j=i:=by simpa using hj
    subst this
    exact⟨hi6,by omega,by omega⟩
  have hlen:(seen ++ [i]).length≤6:=by
   exact nodup_lt6 hnd' (fun x hx=>(hse' x hx).1)
  refine hKE _ ⟨k5,by omega,p5,g5,_,m5,hnd',hse'⟩ ?_
  simp only[m5,m4]
  simp at hlen ⊢
  omega
 ·unfold over
  rw[extr0,onB_v,gd_false]
  have hm:c.manyL.all (fun n=>decide (0≤n) && decide (n≤2000))=true:=by
   rw[List.all_eq_true]
   intro x hx
   obtain⟨i,hi,rfl⟩:=List.getElem_of_mem hx
   obtain⟨h6,h0,h1⟩:=hse i (hall i hi)
   simp only[Bool.and_eq_true,decide_eq_true_eq]
   exact⟨h0,h1⟩
  have hright:c.right=(c.gr.right && (c.latches.all (latOk c.gr) && (c.outs.all c.gr.lit && (c.bads.all c.gr.lit && (c.cons.all c.gr.lit && (c.fair.all c.gr.lit && namesB c)))))):=by
   simp only[Ci.right,hm,Bool.true_and]
  clear hm hall hse hmany
  refine box1_of rfl fun S5 k5 n5 o5=>?_
  refine st_of o5 rfl rfl fun S6 n6 o6 f6=>?_
  have k6:Keep S S6:=(k4.trans k5).st (by have:=k4.1;omega) n6 f6
  have p6:S6.obj S.n=_:=(f6 _ (by omega)).trans ((k5.2 _ (by omega)).trans p4)
  have g6:S6.obj S1.n=_:=(f6 _ (by omega)).trans ((k5.2 _ (by omega)).trans g4)
  rw[ldN_p (n:=2) g6 rfl]
  refine callF_ans (ans130 hg) ?_
  rw[un_not,onB_v]
  refine gd_of (fun h1=>⟨?_,k6⟩) (fun h1=>?_)
  ·rw[Bool.not_eq_true']at h1
   rw[hright,h1];rfl
  have h1:c.gr.right=true:=by simpa using h1
  rw[shift_p,ld1_p p6 rfl rfl]
  have hlat:=hc.llen
  refine callF_at (at131 (by omega) (g:=fun p=>!latOk c.gr p) (fun p hp=>at129 hg (hc.lats p hp).1 (by omega) (by omega) g6 o6)) ?_
  rw[any_notP,onB_v]
  refine gd_of (fun h2=>⟨?_,k6⟩) (fun h2=>?_)
  ·rw[Bool.not_eq_true']at h2
   rw[hright,h1,h2];rfl
  have h2:c.latches.all (latOk c.gr)=true:=by simpa using h2
  rw[shift_p,ld1_p p6 rfl rfl,shift_p,ld1_p p6 rfl rfl,shift_p,ld1_p p6 rfl rfl,shift_p,ld1_p p6 rfl rfl,bld_of (cs:=[aL aI c.outs,aL aI c.bads,aL aI c.cons,aL aI c.fair]) rfl]
  rw[h1,h2,Bool.true_and,Bool.true_and]at hright
  have call:∀(l:List Int),((∀ x∈l,i64R x)∧l.length≤9223372036854775807)→∀{Q:AEnd→Store→Prop} {K:AV→Store→Prop},K (aB (!l.all c.gr.lit)) S6→callF Pg 132 [aL aI l,.f (.func 128) [] [.p S1.n 0 0]] S6 Q K:=fun l hl Q K k =>
   callF_at (at132 hl.2 (g:=fun x=>!c.gr.lit x) (fun x hx=>at128 hg (hl.1 x hx) g6)) (show K (aB (l.any fun x=>!c.gr.lit x)) S6 by rw[any_not];exact k)
  refine loop85_1 (fun y S'=>S'=S6∧∃ i:Nat,y=aI i∧i≤4∧(1≤i→c.outs.all c.gr.lit=true)∧(2≤i→c.bads.all c.gr.lit=true)∧(3≤i→c.cons.all c.gr.lit=true)∧(4≤i→c.fair.all c.gr.lit=true))
   (fun y _=>4 - ((intA y).getD 0).toNat) ⟨rfl,0,rfl,Nat.zero_le _,fun h=>by omega,fun h=>by omega,fun h=>by omega,fun h=>by omega⟩ ?_
  rintro _ S6 ⟨rfl,i,rfl,hi,a1,a2,a3,a4⟩ KE1 hKE1
  unfold b85_1
  rw[bin_lss,onB_v]
  refine gd_of (fun hlt=>?_) (fun hge=>?_)
  ·have hlt:i<4:=by have:=dT hlt;exact Int.ofNat_lt.1 this
   have hadd:∀ K:AV→Store→Prop,∀ S,bin .add 0 (.v (.int .i64 (i:Int))) (.v (.int .i64 1)) S K=K (aI (i+1:Nat)) S:=fun K S=>bin_add (by omega) (by omega) 0
   match i,hlt with
   |0,_ =>
    refine⟨0,rfl,⟨by decide,by decide⟩,_,rfl,?_⟩
    show ld1 _ _ _
    rw[ld1_p o6 rfl rfl]
    refine call _ hc.outs ?_
    rw[onB_v]
    refine gd_of (fun h=>⟨?_,k6⟩) (fun h=>?_)
    ·rw[Bool.not_eq_true']at h
     rw[hright,h];rfl
    ·rw[hadd]
     exact hKE1 _ _ ⟨rfl,1,rfl,by decide,fun _=>by simpa using h,fun h=>by omega,fun h=>by omega,fun h=>by omega⟩ (by simp[intA])
   |1,_ =>
    have a1:=a1 (by decide)
    refine⟨1,rfl,⟨by decide,by decide⟩,_,rfl,?_⟩
    show ld1 _ _ _
    rw[ld1_p o6 rfl rfl]
    refine call _ hc.bads ?_
    rw[onB_v]
    refine gd_of (fun h=>⟨?_,k6⟩) (fun h=>?_)
    ·rw[Bool.not_eq_true']at h
     rw[hright,a1,h];rfl
    ·rw[hadd]
     exact hKE1 _ _ ⟨rfl,2,rfl,by decide,fun _=>a1,fun _=>by simpa using h,fun h=>by omega,fun h=>by omega⟩ (by simp[intA])
   |2,_ =>
    have a1:=a1 (by decide)
    have a2:=a2 (by decide)
    refine⟨2,rfl,⟨by decide,by decide⟩,_,rfl,?_⟩
    show ld1 _ _ _
    rw[ld1_p o6 rfl rfl]
    refine call _ hc.cons ?_
    rw[onB_v]
    refine gd_of (fun h=>⟨?_,k6⟩) (fun h=>?_)
    ·rw[Bool.not_eq_true']at h
     rw[hright,a1,a2,h];rfl
    ·rw[hadd]
     exact hKE1 _ _ ⟨rfl,3,rfl,by decide,fun _=>a1,fun _=>a2,fun _=>by simpa using h,fun h=>by omega⟩ (by simp[intA])
   |3,_ =>
    have a1:=a1 (by decide)
    have a2:=a2 (by decide)
    have a3:=a3 (by decide)
    refine⟨3,rfl,⟨by decide,by decide⟩,_,rfl,?_⟩
    show ld1 _ _ _
    rw[ld1_p o6 rfl rfl]
    refine call _ hc.fair ?_
    rw[onB_v]
    refine gd_of (fun h=>⟨?_,k6⟩) (fun h=>?_)
    ·rw[Bool.not_eq_true']at h
     rw[hright,a1,a2,a3,h];rfl
    ·rw[hadd]
     exact hKE1 _ _ ⟨rfl,4,rfl,by decide,fun _=>a1,fun _=>a2,fun _=>a3,fun _=>by simpa using h⟩ (by simp[intA])
  ·have hge:i=4:=by
     have:¬ ((i:Int)<4):=dF hge
     omega
   subst hge
   rw[ldN_p (n:=8) p6 rfl]
   refine callF_ans (ans133 hc) ⟨?_,k6⟩
   rw[hright,a1 (by decide),a2 (by decide),a3 (by decide),a4 (by decide)];rfl
theorem right_c{c:Ci}:c.right=true↔(0≤c.inputs∧c.inputs≤2000)∧c.latches.length≤2000∧c.outs.length≤2000∧c.bads.length≤2000∧c.cons.length≤2000∧c.fair.length≤2000∧
    c.gr.right=true∧c.latches.all (latOk c.gr)=true∧c.outs.all c.gr.lit=true∧c.bads.all c.gr.lit=true∧c.cons.all c.gr.lit=true∧c.fair.all c.gr.lit=true∧namesB c=true:=by
 have e:∀ n:Nat,(decide (0≤(n:Int)) && decide ((n:Int)≤2000))=decide (n≤2000):=fun n=>by
  rw[decide_eq_true (by omega:0≤(n:Int)),Bool.true_and]
  exact decide_eq_decide.2 (by omega)
 simp only[Ci.right,Ci.manyL,List.all_cons,List.all_nil,e,Bool.and_eq_true,decide_eq_true_eq,Bool.and_true]
 constructor
 ·rintro⟨⟨a,b1,b2,b3,b4,b5⟩,c1,c2,c3,c4,c5,c6,c7⟩
  exact⟨a,b1,b2,b3,b4,b5,c1,c2,c3,c4,c5,c6,c7⟩
 ·rintro⟨a,b1,b2,b3,b4,b5,c1,c2,c3,c4,c5,c6,c7⟩
  exact⟨⟨a,b1,b2,b3,b4,b5⟩,c1,c2,c3,c4,c5,c6,c7⟩
theorem gd_fo{b:Bool}{A B:Prop}(h2:b=false→B)(h1:b=true→A):gd b A B:=gd_of h1 h2
theorem right_no{c:Ci}(h:¬ c.right=true):c.right=false:=by simpa using h
theorem ans65{c:Ci}(hc:c.ok):Ans Pg 65 [c.av] (aB c.right):=by
 intro S
 refine ACalls.ans_v (calls65 ?_)
 have hg:=hc.gr
 have hll:=hc.llen
 unfold m65
 refine boxA_of rfl fun S1 k1 n1 o1=>?_
 rw[ldN_p (n:=8) o1 rfl]
 refine callF_ans (ans41 c) ?_
 refine boxA_of rfl fun S2 k2 n2 o2=>?_
 refine stA_of o2 rfl rfl fun S3 n3 o3 f3=>?_
 have k3:Keep S S3:=(k1.trans k2).st (by omega) n3 f3
 have p3:S3.obj S.n=_:=(f3 _ (by omega)).trans ((k2.2 _ (by omega)).trans o1)
 rw[shift_p,ld1_p p3 rfl rfl,bin_lss,onB_v]
 refine gd_of (fun h1=>⟨?_,k3⟩) (fun h1=>?_)
 ·rw[right_no fun h=>by have:=(right_c.1 h).1;have:=dT h1;omega]
 rw[shift_p,ld1_p p3 rfl rfl,bin_gtr,onB_v]
 refine gd_of (fun h2=>⟨?_,k3⟩) (fun h2=>?_)
 ·rw[right_no fun h=>by have:=(right_c.1 h).1;have:=dT h2;omega]
 rw[shift_p,ld1_p p3 rfl rfl,lenS_pL,bin_gtr,onB_v]
 refine gd_of (fun h3=>⟨?_,k3⟩) (fun h3=>?_)
 ·rw[right_no fun h=>by have:=(right_c.1 h).2.1;have:=dT h3;omega]
 have h1:=dF h1
 have h2:=dF h2
 have h3:=dF h3
 rw[ldN_p (n:=2) o3 rfl]
 refine callF_ans (ans111 hg) ?_
 rw[un_not,onB_v]
 refine gd_of (fun h4=>⟨?_,k3⟩) (fun h4=>?_)
 ·rw[right_no fun h=>by rw[(right_c.1 h).2.2.2.2.2.2.1]at h4;cases h4]
 have h4:c.gr.right=true:=by simpa using h4
 refine loop65_0 (fun y S'=>S'=S3∧∃ i:Nat,y=aI i∧i≤c.latches.length∧∀ j (h:j<c.latches.length),j<i→latOk c.gr c.latches[j]=true)
  (fun y _=>c.latches.length - ((intA y).getD 0).toNat) ⟨rfl,0,rfl,Nat.zero_le _,fun j _ hj=>(Nat.not_lt_zero _ hj).elim⟩ ?_
 rintro _ S3 ⟨rfl,i,rfl,hi,hok⟩ KE hKE
 unfold b65_0
 rw[shift_p,ld1_p p3 rfl rfl,lenS_pL,bin_lss,onB_v]
 refine gd_of (fun hlt=>?_) (fun hge=>?_)
 ·have hlt:i<c.latches.length:=by simpa using hlt
  have hm:=List.getElem_mem hlt
  have hno:latOk c.gr c.latches[i]=false→c.right=false:=fun h=>right_no fun h'=>by
   have:=List.all_eq_true.1 (right_c.1 h').2.2.2.2.2.2.2.1 _ hm
   rw[h]at this;cases this
  have hix:∀ K:AV→Store→Prop,ixS 66 2 (pL c.latches) (aI i) S3 K=K (.q [aI c.latches[i].1,aI c.latches[i].2] 0) S3:=fun K=>ixS_pL hlt
  have hl:=(hc.lats _ hm).1
  have hnext:latOk c.gr c.latches[i]=true→KE _ (env65_0 (.p S.n 0 0) (.p S1.n 0 0) (aI (i+1:Nat))) S3:=fun h=>hKE _ _ ⟨rfl,i+1,rfl,hlt,fun j hj hj'=>by
   rcases Nat.lt_or_ge j i with h'|h'
   ·exact hok j hj h'
   ·have:j=i:=by omega
    subst this
    exact h⟩ (by simp[intA];omega)
  generalize c.latches[i]=x at *
  show ∃ q28:AV,_
  refine⟨_,by rw[ldN_p (n:=2) o3 rfl];exact⟨rfl,rfl⟩,?_⟩
  refine⟨_,by rw[shift_p];exact⟨rfl,rfl⟩,?_⟩
  refine⟨_,by rw[ld1_p p3 rfl rfl];exact⟨rfl,rfl⟩,?_⟩
  refine⟨_,by rw[hix];exact⟨rfl,rfl⟩,?_⟩
  refine⟨_,by rw[shift_q];exact⟨rfl,rfl⟩,?_⟩
  refine⟨_,by rw[ld1_qj (u:=aI x.1) rfl];exact⟨rfl,rfl⟩,?_⟩
  refine⟨_,callF_ans (ans112 hg hl) ⟨rfl,rfl⟩,?_⟩
  refine⟨_,by rw[un_not];exact⟨rfl,rfl⟩,?_⟩
  rw[onB_v]
  refine gd_of (fun h5=>?_) (fun h5=>?_)
  ·refine⟨_,⟨rfl,rfl⟩,?_⟩
   rw[onB_v,gd_true]
   refine⟨_,⟨rfl,rfl⟩,?_⟩
   rw[onB_v,gd_true]
   refine⟨?_,k3⟩
   rw[Bool.not_eq_true']at h5
   rw[hno (by simp[latOk,h5])]
  have h5:c.gr.lit x.1=true:=by simpa using h5
  refine⟨_,by rw[shift_p];exact⟨rfl,rfl⟩,?_⟩
  refine⟨_,by rw[ld1_p p3 rfl rfl];exact⟨rfl,rfl⟩,?_⟩
  refine⟨_,by rw[hix];exact⟨rfl,rfl⟩,?_⟩
  refine⟨_,by rw[shift_q];exact⟨rfl,rfl⟩,?_⟩
  refine⟨_,by rw[ld1_qj (u:=aI x.2) rfl];exact⟨rfl,rfl⟩,?_⟩
  refine⟨_,by rw[bin_lss];exact⟨rfl,rfl⟩,?_⟩
  refine⟨_,⟨rfl,rfl⟩,?_⟩
  rw[onB_v]
  refine gd_of (fun h6=>?_) (fun h6=>?_)
  ·refine⟨_,⟨rfl,rfl⟩,?_⟩
   rw[onB_v,gd_true]
   refine⟨?_,k3⟩
   have h6:=dT h6
   rw[hno (by simp[latOk,show ¬ 0≤x.2 by omega])]
  refine⟨_,by rw[shift_p];exact⟨rfl,rfl⟩,?_⟩
  refine⟨_,by rw[ld1_p p3 rfl rfl];exact⟨rfl,rfl⟩,?_⟩
  refine⟨_,by rw[hix];exact⟨rfl,rfl⟩,?_⟩
  refine⟨_,by rw[shift_q];exact⟨rfl,rfl⟩,?_⟩
  refine⟨_,by rw[ld1_qj (u:=aI x.2) rfl];exact⟨rfl,rfl⟩,?_⟩
  refine⟨_,by rw[bin_gtr];exact⟨rfl,rfl⟩,?_⟩
  refine⟨_,⟨rfl,rfl⟩,?_⟩
  rw[onB_v]
  refine gd_of (fun h7=>⟨?_,k3⟩) (fun h7=>?_)
  ·have h7:=dT h7
   rw[hno (by simp[latOk,show ¬ x.2≤2 by omega])]
  ·have hadd:∀ K:AV→Store→Prop,∀ S,bin .add 0 (.v (.int .i64 (i:Int))) (.v (.int .i64 1)) S K=K (aI (i+1:Nat)) S:=fun K S=>bin_add (by omega) (by omega) 0
   rw[hadd]
   have h6:=dF h6
   have h7:=dF h7
   exact hnext (by simp[latOk,h5,show 0≤x.2 by omega,show x.2≤2 by omega])
 ·have hge:i=c.latches.length:=by simp at hge;omega
  subst hge
  have h5:c.latches.all (latOk c.gr)=true:=by
   rw[List.all_eq_true]
   intro x hx
   obtain⟨j,hj,rfl⟩:=List.getElem_of_mem hx
   exact hok j hj hj
  rw[ldN_p (n:=2) o3 rfl,shift_p,ld1_p p3 rfl rfl]
  refine callF_ans (ans113 hg hc.outs.1 hc.outs.2) ?_
  rw[onB_v]
  refine gd_fo (fun a1=>⟨?_,k3⟩) (fun a1=>?_)
  ·rw[right_no fun h=>by simp[(right_c.1 h).2.2.2.2.2.2.2.2.1,(right_c.1 h).2.2.1]at a1]
  rw[ldN_p (n:=2) o3 rfl,shift_p,ld1_p p3 rfl rfl]
  refine callF_ans (ans113 hg hc.bads.1 hc.bads.2) ?_
  rw[onB_v]
  refine gd_fo (fun a2=>⟨?_,k3⟩) (fun a2=>?_)
  ·rw[right_no fun h=>by simp[(right_c.1 h).2.2.2.2.2.2.2.2.2.1,(right_c.1 h).2.2.2.1]at a2]
  rw[ldN_p (n:=2) o3 rfl,shift_p,ld1_p p3 rfl rfl]
  refine callF_ans (ans113 hg hc.cons.1 hc.cons.2) ?_
  rw[onB_v]
  refine gd_fo (fun a3=>⟨?_,k3⟩) (fun a3=>?_)
  ·rw[right_no fun h=>by simp[(right_c.1 h).2.2.2.2.2.2.2.2.2.2.1,(right_c.1 h).2.2.2.2.1]at a3]
  rw[ldN_p (n:=2) o3 rfl,shift_p,ld1_p p3 rfl rfl]
  refine callF_ans (ans113 hg hc.fair.1 hc.fair.2) ?_
  rw[onB_v]
  refine gd_fo (fun a4=>⟨?_,k3⟩) (fun a4=>?_)
  ·rw[right_no fun h=>by simp[(right_c.1 h).2.2.2.2.2.2.2.2.2.2.2.1,(right_c.1 h).2.2.2.2.2.1]at a4]
  rw[ldN_p (n:=8) p3 rfl]
  refine callF_ans (ans114 hc) ⟨?_,k3⟩
  rw[Bool.and_eq_true,decide_eq_true_eq]at a1 a2 a3 a4
  congr 3
  rw[Bool.eq_iff_iff]
  exact⟨fun h=>right_c.2 ⟨⟨by omega,by omega⟩,by omega,a1.2,a2.2,a3.2,a4.2,h4,h5,a1.1,a2.1,a3.1,a4.1,h⟩,fun h=>(right_c.1 h).2.2.2.2.2.2.2.2.2.2.2.2⟩
def litB(v:List Bool)(l:Int):Bool:=v.getD (l.tdiv 2).toNat false != decide (l.tmod 2=1)
def allTo(g:Gr)(ins:List Bool):Nat→List Bool
 |0=>false :: ins
 |i+1=>allTo g ins i ++ [litB (allTo g ins i) (g.ands.getD i (0,0)).1 && litB (allTo g ins i) (g.ands.getD i (0,0)).2]
@[simp] theorem allTo_len(g:Gr)(ins:List Bool):∀ i,(allTo g ins i).length=ins.length+1+i
 |0=>rfl
 |i+1=>by simp[allTo,allTo_len g ins i];omega
def allB(g:Gr)(ins:List Bool):List Bool:=if(g.right && decide ((ins.length:Int)=g.inputs))=true then allTo g ins g.ands.length else[]
theorem bitL_at{S:Store}{x:AV}{l:Int}{b:Bool}(hl:i64R l)(hx:∀ K:AV→Store→Prop,K (aB b) S→ixS 4 1 x (aI (l.tdiv 2)) S fun v S=>ld1 v S K):AnsAt Pg 153 [x,aI l] S (aB (b != decide (l.tmod 2=1))):=by
 refine calls153 ?_
 unfold m153
 rw[bin_half hl]
 refine hx _ ?_
 rw[bin_rem (by decide),bin_eql,bin_neqB]
 exact⟨rfl,rfl⟩
theorem may_at{g:Gr}(h:g.right=true){i:Nat}(hi:i<g.ands.length):2≤g.ands[i].2∧g.ands[i].2.tdiv 2<g.ands[i].1.tdiv 2∧g.ands[i].1.tdiv 2<g.inputs+1+i∧0≤g.ands[i].2.tdiv 2:=by
 have:=(right_iff.1 h).2.2.2.2.1 i hi
 rw[show g.ands.getD i (0,0)=g.ands[i]by simp[List.getD_eq_getElem?_getD,hi]]at this
 simp only[may,Bool.and_eq_true,decide_eq_true_eq]at this
 exact⟨this.1,this.2.1,this.2.2,Int.tdiv_nonneg (by omega) (by decide)⟩
theorem ix_own{n:Nat}{S:Store}{x:AV}{v:List Bool}(h:Own n S x 4 (v.map fun b=>[aB b])){z:Int}(h0:0≤z)(h1:z<v.length)(K:AV→Store→Prop)(k:K (aB (v.getD z.toNat false)) S):ixS 4 1 x (aI z) S fun v S=>ld1 v S K:=by
 obtain⟨i,rfl⟩:=Int.eq_ofNat_of_zero_le h0
 have hi:i<v.length:=by omega
 obtain⟨id,rfl,h2,h3,h4⟩:=h.ix (i:=i) (by simpa using hi)
 rw[ixS_s (by simpa using hi) h4,ld1_p h4 (by rw[Nat.zero_add,List.getElem?_map,List.getElem?_eq_getElem hi];rfl) rfl]
 rw[show(v.getD (Int.toNat i) false)=v[i]by simp[List.getD_eq_getElem?_getD,hi]]at k
 exact k
theorem ix_tree{S:Store}{v:List Bool}{z:Int}(h0:0≤z)(h1:z<v.length)(K:AV→Store→Prop)(k:K (aB (v.getD z.toNat false)) S):ixS 4 1 (aL aB v) (aI z) S fun v S=>ld1 v S K:=by
 obtain⟨i,rfl⟩:=Int.eq_ofNat_of_zero_le h0
 have hi:i<v.length:=by omega
 rw[ixS_aL hi,ld1_q]
 rw[show(v.getD (Int.toNat i) false)=v[i]by simp[List.getD_eq_getElem?_getD,hi]]at k
 exact k
def OwnL(f:FuncId)(args:List AV)(l:List Bool):Prop:=
 ∀ S,ACalls Pg f args S (fun r S'=>∃ x,r = .ret x∧Keep S S'∧Own S.n S' x 4 (l.map fun b=>[aB b]))
theorem OwnL.ans{f:FuncId}{args:List AV}{l:List Bool}(h:OwnL f args l):Ans Pg f args (aL aB l):=ACalls.ans_own (f:=fun b=>.bool b) (e:=4) h
theorem src_aL(S:Store)(l:List Bool):srcE S (aL aB l)=some (l.map fun b=>[aB b]):=rfl
theorem own152{g:Gr}(hg:g.ok){ins:List Bool}(hin:ins.length≤1000000):OwnL 152 [g.av,aL aB ins] (allB g ins):=by
 intro S
 refine calls152 ?_
 have hlen:=hg.len
 unfold m152
 refine boxA_of rfl fun S1 k1 n1 o1=>?_
 rw[ldN_p (n:=2) o1 rfl]
 refine callF_ans (ans111 hg) ?_
 rw[un_not,onB_v]
 refine gd_of (fun h1=>⟨_,rfl,k1,?_⟩) (fun h1=>?_)
 ·rw[Bool.not_eq_true']at h1
  rw[allB,h1]
  exact Own.nl _ _ _
 have h1:g.right=true:=by simpa using h1
 rw[lenS_aL,shift_p,ld1_p o1 rfl rfl,bin_neq,onB_v]
 refine gd_of (fun h2=>⟨_,rfl,k1,?_⟩) (fun h2=>?_)
 ·rw[Bool.not_eq_true']at h2
  rw[allB,h2,Bool.and_false]
  exact Own.nl _ _ _
 have h2:decide ((ins.length:Int)=g.inputs)=true:=by simpa using h2
 have h2':=dT h2
 have hres:allB g ins=allTo g ins g.ands.length:=by rw[allB,h1,h2];rfl
 have hb:∀(b:Bool) {S:Store} {K:AV→Store→Prop},K (.l [[aB b]]) S→bslN 4 1 1 [.v (.bool false)] [(0,aB b)] S K:=fun b S K k=>bsl1 rfl (fun _ h=>by cases h) k
 refine⟨[aB false],by simp[fillA,cellsOf,AV.one,Value.oneCell',spl],.inl ?_⟩
 have w2:Own S1.n (S1.new (.cells 4 (chunks 1 1 [aB false]) true)) (.s S1.n 0 1) 4 [[aB false]]:=.inr ⟨S1.n,rfl,Nat.le_refl _,by simp,by rw[new_self];rfl⟩
 have k2:Keep S1 (S1.new (.cells 4 (chunks 1 1 [aB false]) true)):=(Keep.refl _).new _
 generalize S1.new (.cells 4 (chunks 1 1 [aB false]) true)=S2 at *
 refine Own.appL w2 k2.1 (ys:=ins.map fun b=>[aB b]) (fun c hc=>by obtain⟨p,_,rfl⟩:=List.mem_map.1 hc;rfl) (by simp;omega) (fun z1 S3 w3 b3 hz3=>?_) (src_aL _ _)
 have k3:Keep S1 S3:=w2.keep (Nat.le_refl _) b3 k2
 have k3':=k1.trans k3
 refine loop152_0 (fun y z S'=>Keep S1 S'∧∃ i:Nat,z=aI i∧i≤g.ands.length∧Own S1.n S' y 4 ((allTo g ins i).map fun b=>[aB b]))
  (fun _ z _=>g.ands.length - ((intA z).getD 0).toNat) ⟨k3,0,rfl,Nat.zero_le _,w3⟩ ?_
 rintro y _ S4 ⟨k4,i,rfl,hi,w4⟩ KE hKE
 have o4:=(k4.2 S.n (by omega)).trans o1
 unfold b152_0
 rw[shift_p,ld1_p o4 rfl rfl,lenS_pL,bin_lss,onB_v]
 refine gd_of (fun hlt=>?_) (fun hge=>?_)
 ·have hlt:i<g.ands.length:=by simpa using hlt
  obtain⟨q1,q2,q3,q4⟩:=may_at h1 hlt
  have hp:=hg.pairs _ (List.getElem_mem hlt)
  have hget:g.ands.getD i (0,0)=g.ands[i]:=by simp[List.getD_eq_getElem?_getD,hlt]
  have e1:∀(c:List AV) (K:AV→Store→Prop),ixA 2 1 (.q c 0) (.v (.int .i64 1)) S4 K=K (.q c 1) S4:=fun c K=>ixA_q (z:=1) (by decide)
  have e0:∀(c:List AV) (K:AV→Store→Prop),ixA 2 1 (.q c 0) (.v (.int .i64 0)) S4 K=K (.q c 0) S4:=fun c K=>ixA_q (z:=0) (by decide)
  have hadd:∀ K:AV→Store→Prop,∀ S,bin .add 0 (.v (.int .i64 (i:Int))) (.v (.int .i64 1)) S K=K (aI (i+1:Nat)) S:=fun K S=>bin_add (by omega) (by omega) 0
  have hl4:(allTo g ins i).length=ins.length+1+i:=allTo_len g ins i
  have step:∀ b,allTo g ins (i+1)=allTo g ins i ++ [b]→appS 4 1 1 y (.l [[aB b]]) S4 fun v T=>bin .add 0 (aI i) (.v (.int .i64 1)) T fun v' T=>KE 49 (env152_0 (.p S.n 0 0) v v') T:=fun b hb=>by
   refine w4.app k4.1 (c:=[aB b]) rfl (by simp;omega) (fun z5 S5 w5 b5 hz5=>?_) rfl
   rw[hadd]
   refine hKE _ _ _ ⟨w4.keep (Nat.le_refl _) b5 k4,i+1,rfl,hlt,?_⟩ (by simp[intA];omega)
   rw[hb,List.map_append]
   exact w5
  rw[shift_p,ld1_p o4 rfl rfl,ixS_pL hlt,e0,ld1_q0]
  refine callF_at (bitL_at hp.1 (fun K k=>ix_own w4 (by omega) (by rw[hl4];omega) K k)) ?_
  rw[onB_v]
  refine gd_of (fun h3=>?_) (fun h3=>?_)
  ·rw[shift_p,ld1_p o4 rfl rfl,ixS_pL hlt,e1,ld1_q1]
   refine callF_at (bitL_at hp.2 (fun K k=>ix_own w4 (by omega) (by rw[hl4];omega) K k)) ?_
   refine hb _ (step _ ?_)
   simp only[allTo,hget,litB]
   rw[h3,Bool.true_and]
  ·refine hb _ (step _ ?_)
   simp only[allTo,hget,litB]
   rw[h3,Bool.false_and]
 ·have hge:i=g.ands.length:=by simp at hge;omega
  subst hge
  rw[hres]
  exact⟨_,rfl,k1.trans k4,w4.low (by omega)⟩
theorem allB_len{g:Gr}{ins:List Bool}:(allB g ins).length=if(g.right && decide ((ins.length:Int)=g.inputs))=true then(g.vars).toNat else 0:=by
 unfold allB
 split
 ·rename_i h
  simp only[Bool.and_eq_true,decide_eq_true_eq]at h
  rw[allTo_len]
  simp only[Gr.vars,←h.2]
  omega
 ·rfl
def Gr.eval(g:Gr)(l:Int)(ins:List Bool):Bool:=decide (0<(allB g ins).length) && (g.lit l && litB (allB g ins) l)
theorem ans115{g:Gr}(hg:g.ok){l:Int}(hl:i64R l){ins:List Bool}(hin:ins.length≤1000000):Ans Pg 115 [g.av,aI l,aL aB ins] (aB (g.eval l ins)):=by
 intro S
 refine ACalls.ans_v (calls115 ?_)
 unfold m115
 refine boxA_of rfl fun S1 k1 n1 o1=>?_
 rw[ldN_p (n:=2) o1 rfl]
 refine callF_ans (own152 hg hin).ans ?_
 rw[lenS_aL,bin_gtr,onB_v]
 refine gd_fo (fun h1=>⟨?_,k1⟩) (fun h1=>?_)
 ·have h1:=dF h1
  simp[Gr.eval,show ¬ 0<(allB g ins).length by omega]
 have h1:0<(allB g ins).length:=by have:=dT h1;omega
 rw[ldN_p (n:=2) o1 rfl]
 refine callF_ans (ans112 hg hl) ?_
 rw[onB_v]
 refine gd_fo (fun h2=>⟨?_,k1⟩) (fun h2=>?_)
 ·simp[Gr.eval,h2]
 have h3:0≤l.tdiv 2∧l.tdiv 2<(allB g ins).length:=by
  have h4:=h2
  simp only[Gr.lit,Bool.and_eq_true,decide_eq_true_eq]at h4
  have:=allB_len (g:=g) (ins:=ins)
  split at this
  ·exact⟨Int.tdiv_nonneg (by omega) (by decide),by omega⟩
  ·omega
 refine callF_at (bitL_at hl (fun K k=>ix_tree h3.1 h3.2 K k)) ⟨?_,k1⟩
 simp only[Gr.eval,h1,h2,decide_true,Bool.true_and]
 rfl
theorem and1(a:Int):IntKind.i64.wrap ((BitVec.ofInt 64 a &&& BitVec.ofInt 64 1).toNat:Nat)=a % 2:=by
 have h1:(BitVec.ofInt 64 1).toNat=1:=by decide
 rw[BitVec.toNat_and,h1,Nat.and_one_is_mod,BitVec.toNat_ofInt,wrap64 (by omega) (by omega)]
 omega
theorem bin_and1{a:Int}{S:Store}{K:AV→Store→Prop}:bin .and 0 (aI a) (.v (.int .i64 1)) S K=K (aI (a % 2)) S:=by
 show bin .and 0 (.v (.int .i64 a)) (.v (.int .i64 1)) S K=_
 have:b2 .and 0 (.int .i64 a) (.int .i64 1)=some (.int .i64 (a % 2)):=by
  rw[←and1 a];rfl
 show optP (b2 .and 0 (.int .i64 a) (.int .i64 1)) _=_
 rw[this,optP_some]
theorem bin_shr1{a:Int}(h:0≤a){S:Store}{K:AV→Store→Prop}:bin .shr 0 (aI a) (.v (.int .u64 1)) S K=K (aI (a.tdiv 2)) S:=by
 rw[bin_shr (by decide)]
 have:a.fdiv (2 ^ min (Int.toNat 1) IntKind.i64.bits)=a.tdiv 2:=by
  show a.fdiv 2=_
  rw[Int.fdiv_eq_ediv_of_nonneg _ (by decide),Int.tdiv_eq_ediv_of_nonneg h]
 rw[this]
theorem at173{S:Store}{fid t n:Nat}{x:AV}{v:List Bool}{l:Int}(h0:0≤l)(h1:l.tdiv 2<v.length)(hf:S.obj fid=some (.cells t [[x]] true))(hx:Own n S x 4 (v.map fun b=>[aB b])):
    AnsAt Pg 173 [aI l,.p fid 0 0] S (aB (litB v l)):=by
 refine calls173 ?_
 unfold m173
 rw[ld1_p hf rfl rfl,bin_shr1 h0]
 refine ix_own hx (Int.tdiv_nonneg h0 (by decide)) h1 _ ?_
 rw[bin_and1,bin_eql,bin_neqB]
 refine⟨?_,rfl⟩
 rw[litB,show l.tmod 2=l % 2 from Int.tmod_eq_emod_of_nonneg h0]
theorem mkN_lc{e b l c:Nat}{zc:List AV}(hl:l≤c)(hb:b*c≤281474976710656)(hn:c≤9223372036854775807){S:Store}{K:AV→Store→Prop}:mkN e b zc (aI l) (aI c) S K=K (.s S.n 0 l) (S.new (.cells e (List.replicate l zc) true)):=by
 have h1:(b:Int)*c≤281474976710656:=by
  have h:=Int.ofNat_le.2 hb
  rw[Int.natCast_mul]at h
  omega
 have h2:(c:Int)≤9223372036854775807:=by omega
 have h0:(0:Int)≤l:=by omega
 have h3:(l:Int)≤c:=by omega
 simp only[mkN,intA,optP_some,h0,h1,h2,h3,Int.toNat_natCast,and_self,true_and]
theorem own_keep{n:Nat}{S T:Store}{x:AV}{e:Nat}{es:List (List AV)}(h:Own n S x e es)(k:Keep S T):Own n T x e es:=by
 rcases h with h|⟨id,h1,h2,h3,h4⟩
 ·exact .inl h
 ·exact .inr ⟨id,h1,h2,Nat.lt_of_lt_of_le h3 k.1,(k.2 _ h3).trans h4⟩
theorem own_at154{g:Gr}(hg:g.ok){ins:List Bool}(hin:ins.length≤1000000){S:Store}{xi:AV}(hlx:∀(T:Store) (K:AV→Store→Prop),lenS xi T K=K (aI ins.length) T)(hsx:∀ T,Keep S T→srcE T xi=some (ins.map fun b=>[aB b])):
    ACalls Pg 154 [g.av,xi] S (fun r S'=>∃ x,r = .ret x∧Keep S S'∧Own S.n S' x 4 ((allB g ins).map fun b=>[aB b])):=by
 refine calls154 ?_
 have hlen:=hg.len
 unfold m154
 refine boxA_of rfl fun S1 k1 n1 o1=>?_
 rw[ldN_p (n:=2) o1 rfl]
 refine callF_ans (ans130 hg) ?_
 rw[un_not,onB_v]
 refine gd_of (fun h1=>⟨_,rfl,k1,?_⟩) (fun h1=>?_)
 ·rw[Bool.not_eq_true']at h1
  rw[allB,h1]
  exact Own.nl _ _ _
 have h1:g.right=true:=by simpa using h1
 rw[hlx,shift_p,ld1_p o1 rfl rfl,bin_neq,onB_v]
 refine gd_of (fun h2=>⟨_,rfl,k1,?_⟩) (fun h2=>?_)
 ·rw[Bool.not_eq_true']at h2
  rw[allB,h2,Bool.and_false]
  exact Own.nl _ _ _
 have h2:decide ((ins.length:Int)=g.inputs)=true:=by simpa using h2
 have h2':=dT h2
 have hres:allB g ins=allTo g ins g.ands.length:=by rw[allB,h1,h2];rfl
 rw[shift_p,ld1_p o1 rfl rfl,bin_add (by omega) (by omega),shift_p,ld1_p o1 rfl rfl,lenS_pL,bin_add (by omega) (by omega)]
 have hcap:g.inputs+1+(g.ands.length:Int)=((ins.length+1+g.ands.length:Nat):Int):=by omega
 rw[hcap]
 have hmk:∀{K:AV→Store→Prop},mkN 4 1 [.v (.bool false)] (.v (.int .i64 1)) (aI ((ins.length+1+g.ands.length:Nat):Int)) S1 K=K (.s S1.n 0 1) (S1.new (.cells 4 (List.replicate 1 [.v (.bool false)]) true)):=mkN_lc (l:=1) (by omega) (by omega) (by omega)
 rw[hmk]
 have w2:Own S1.n (S1.new (.cells 4 (List.replicate 1 [.v (.bool false)]) true)) (.s S1.n 0 1) 4 [[aB false]]:=.inr ⟨S1.n,rfl,Nat.le_refl _,by simp,by rw[new_self];rfl⟩
 have k2:Keep S1 (S1.new (.cells 4 (List.replicate 1 [.v (.bool false)]) true)):=(Keep.refl _).new _
 have n2:(S1.new (.cells 4 (List.replicate 1 [.v (.bool false)]) true)).n=S1.n+1:=rfl
 generalize S1.new (.cells 4 (List.replicate 1 [.v (.bool false)]) true)=S2 at *
 refine box1_of rfl fun S3 k3 n3 o3=>?_
 refine st_of o3 rfl rfl fun S4 n4 o4 f4=>?_
 have k4:Keep S1 S4:=(k2.trans k3).st (by omega) n4 f4
 have w4:Own S1.n S4 (.s S1.n 0 1) 4 [[aB false]]:=(own_keep w2 k3).st (id:=S2.n) (fun b m e=>by injection e;omega) n4 f4
 rw[ld1_p o4 rfl rfl]
 refine Own.appL w4 k4.1 (ys:=ins.map fun b=>[aB b]) (fun c hc=>by obtain⟨p,_,rfl⟩:=List.mem_map.1 hc;rfl) (by simp;omega) (fun z1 S5 w5 b5 hz5=>?_) (hsx _ (k1.trans k4))
 have k5:Keep S1 S5:=w4.keep (Nat.le_refl _) b5 k4
 have o5:=(b5.2 S2.n (by omega) (fun b m e=>by injection e;omega)).trans o4
 have m5:=b5.1
 have z5:∀ b m,z1≠.s S2.n b m:=fun b m e=>by
  rcases hz5 with h|⟨m',h⟩
  ·rw[h]at e;injection e;omega
  ·rw[h]at e;injection e;omega
 refine st_of o5 rfl (by rcases w5 with⟨h,_⟩|⟨_,h,_⟩<;>rw[h]<;>rfl) fun S6 n6 o6 f6=>?_
 have k6:Keep S1 S6:=k5.st (by omega) n6 f6
 have w6:=w5.st (id:=S2.n) z5 n6 f6
 have p6:=(k6.2 S.n (by omega)).trans o1
 rw[shift_p,ld1_p p6 rfl rfl,lenS_pL]
 refine loop154_0 (fun y S'=>Keep S1 S'∧S2.n<S'.n∧∃ i:Nat,y=aI i∧i≤g.ands.length∧∃ z,S'.obj S2.n=some (.cells 53 [[z]] true)∧(∀ b m,z≠.s S2.n b m)∧Own S1.n S' z 4 ((allTo g ins i).map fun b=>[aB b]))
  (fun y _=>g.ands.length - ((intA y).getD 0).toNat) ⟨k6,by omega,0,rfl,Nat.zero_le _,z1,o6,z5,w6⟩ ?_
 rintro _ S7 ⟨k7,n7,i,rfl,hi,z,o7,hz,w7⟩ KE hKE
 unfold b154_0
 rw[bin_lss,onB_v]
 refine gd_of (fun hlt=>?_) (fun hge=>?_)
 ·have hlt:i<g.ands.length:=by simpa using hlt
  obtain⟨q1,q2,q3,q4⟩:=may_at h1 hlt
  have hp:=hg.pairs _ (List.getElem_mem hlt)
  have hget:g.ands.getD i (0,0)=g.ands[i]:=by simp[List.getD_eq_getElem?_getD,hlt]
  have hl4:(allTo g ins i).length=ins.length+1+i:=allTo_len g ins i
  rw[ixS_pL hlt,ldN_q2]
  generalize g.ands[i]=p at *
  refine boxA_of rfl fun S8 k8 n8 o8=>?_
  refine stA_of o8 rfl rfl fun S9 n9 o9 f9=>?_
  have k9:Keep S7 S9:=k8.st (Nat.le_refl _) n9 f9
  have w9:Own S1.n S9 z 4 _:=own_keep w7 k9
  have v9:=(k9.2 S2.n n7).trans o7
  have e1:∀(T:Store) (K:AV→Store→Prop),ixA 2 1 (.p S7.n 0 0) (.v (.int .i64 1)) T K=K (.p S7.n 0 1) T:=fun T K=>ixA_p (z:=1) (by decide)
  have e0:∀(T:Store) (K:AV→Store→Prop),ixA 2 1 (.p S7.n 0 0) (.v (.int .i64 0)) T K=K (.p S7.n 0 0) T:=fun T K=>ixA_p (z:=0) (by decide)
  have hadd:∀ K:AV→Store→Prop,∀ S,bin .add 0 (.v (.int .i64 (i:Int))) (.v (.int .i64 1)) S K=K (aI (i+1:Nat)) S:=fun K S=>bin_add (by omega) (by omega) 0
  have hp1:0≤p.1:=by
   rcases Int.le_total 0 p.1 with h|h
   ·exact h
   ·have:p.1.tdiv 2≤0:=by
      rw[show p.1.tdiv 2 = -((-p.1).tdiv 2)by rw[Int.neg_tdiv,Int.neg_neg],Int.tdiv_eq_ediv_of_nonneg (by omega)]
      omega
    omega
  have m9:S9.n=S7.n+1:=by omega
  have step:∀ b,allTo g ins (i+1)=allTo g ins i ++ [b]→appS 4 1 1 z (.l [[aB b]]) S9 fun v T=>stN 1 (.p S2.n 0 0) v T fun _ T=>bin .add 0 (aI i) (.v (.int .i64 1)) T fun v' T=>KE 53 (env154_0 (.p S2.n 0 0) (.f (.func 173) [] [.p S2.n 0 0]) (pL g.ands) (aI g.ands.length) v') T:=fun b hb=>by
   refine w9.app (by have:=k7.1;omega) (c:=[aB b]) rfl (by simp;omega) (fun zz T1 wT bT hzT=>?_) rfl
   have kT:Keep S1 T1:=w9.keep (Nat.le_refl _) bT (k7.trans k9)
   have oT:=(bT.2 S2.n (by omega) (fun b m=>hz b m)).trans v9
   have mT:=bT.1
   have hzz:∀ b m,zz≠.s S2.n b m:=fun b m e=>by
    obtain⟨m',h⟩:=hzT
    rw[h]at e;injection e;omega
   refine st_of oT rfl (by rcases wT with⟨h,_⟩|⟨_,h,_⟩<;>rw[h]<;>rfl) fun T2 nT o2 f2=>?_
   rw[hadd]
   refine hKE _ _ ⟨kT.st (by omega) nT f2,by omega,i+1,rfl,hlt,zz,o2,hzz,?_⟩ (by simp[intA];omega)
   rw[hb,List.map_append]
   exact wT.st (id:=S2.n) hzz nT f2
  refine⟨_,fun T hT=>by rw[ld1_p ((hT.2 _ (by omega)).trans v9) rfl rfl];exact⟨rfl,rfl⟩,_,fun T hT=>by rw[e0];exact⟨rfl,rfl⟩,_,fun T hT=>by rw[ld1_p ((hT.2 _ (by omega)).trans o9) rfl rfl];exact⟨rfl,rfl⟩,
   _,fun T hT=>callV_at (at173 hp1 (by rw[hl4];omega) ((hT.2 _ (by omega)).trans v9) (own_keep w9 hT)) ⟨rfl,rfl⟩,?_⟩
  rw[onB_v]
  refine gd_of (fun h3=>?_) (fun h3=>?_)
  ·refine⟨_,fun T hT=>by rw[e1];exact⟨rfl,rfl⟩,_,fun T hT=>by rw[ld1_p ((hT.2 _ (by omega)).trans o9) rfl rfl];exact⟨rfl,rfl⟩,
     _,fun T hT=>callV_at (at173 (by omega) (by rw[hl4];omega) ((hT.2 _ (by omega)).trans v9) (own_keep w9 hT)) ⟨rfl,rfl⟩,_,fun T hT=>⟨rfl,rfl⟩,_,fun T hT=>bsl1 rfl (fun _ h=>by cases h) ⟨rfl,rfl⟩,?_⟩
   refine step _ ?_
   simp only[allTo,hget]
   rw[h3,Bool.true_and]
  ·refine⟨_,fun T hT=>⟨rfl,rfl⟩,_,fun T hT=>bsl1 rfl (fun _ h=>by cases h) ⟨rfl,rfl⟩,?_⟩
   refine step _ ?_
   simp only[allTo,hget]
   rw[h3,Bool.false_and]
 ·have hge:i=g.ands.length:=by simp at hge;omega
  subst hge
  rw[hres,ld1_p o7 rfl rfl]
  exact⟨_,rfl,k1.trans k7,w7.low (by omega)⟩
theorem ans_own_at{α:Type}{f:α→Value}{P:Program}{fn:FuncId}{args:List AV}{S:Store}{e:Nat}{l:List α}(h:ACalls P fn args S (fun r S'=>∃ x,r = .ret x∧Keep S S'∧Own S.n S' x e (l.map fun a=>[.v (f a)]))):AnsAt P fn args S (aL (fun a=>.v (f a)) l):=
 ACalls.tree (h.mono fun r S' ⟨x,h1,h2,h3⟩=>⟨x,h1,h2,h3.cv_v⟩)
def bitN(n:Int)(i:Nat):Bool:=decide (n.fdiv (2 ^ i) % 2=1)
def bitsL(n:Int)(many:Nat):List Bool:=(List.range many).map (bitN n)
@[simp] theorem bitsL_len(n:Int)(m:Nat):(bitsL n m).length=m:=by simp[bitsL]
theorem bitsL_succ(n:Int)(m:Nat):bitsL n (m+1)=bitsL n m ++ [bitN n m]:=by simp[bitsL,List.range_succ]
theorem bin_shrN{a:Int}{i:Nat}(h:i≤64){S:Store}{K:AV→Store→Prop}:bin .shr 0 (aI a) (aI i) S K=K (aI (a.fdiv (2 ^ i))) S:=by
 rw[bin_shr (by omega),show min (Int.toNat i) IntKind.i64.bits=i by rw[Int.toNat_natCast];exact Nat.min_eq_left h]
theorem own116(s:Int){m:Nat}(hm:m≤64):OwnL 116 [aI s,aI m] (bitsL s m):=by
 intro S
 refine calls116 ?_
 unfold m116
 refine loop116_0 (fun y z S'=>Keep S S'∧∃ i:Nat,z=aI i∧i≤m∧Own S.n S' y 4 ((bitsL s i).map fun b=>[aB b]))
  (fun _ z _=>m - ((intA z).getD 0).toNat) ⟨Keep.refl _,0,rfl,Nat.zero_le _,Own.nl _ _ _⟩ ?_
 rintro y _ S1 ⟨k1,i,rfl,hi,w1⟩ KE hKE
 unfold b116_0
 rw[bin_lss,onB_v]
 refine gd_of (fun hlt=>?_) (fun hge=>?_)
 ·have hlt:i<m:=by simpa using hlt
  rw[bin_shrN (by omega),bin_and1,bin_eql]
  refine bsl1 rfl (fun _ h=>by cases h) ?_
  refine w1.app k1.1 (c:=[aB (bitN s i)]) rfl (by simp;omega) (fun z5 S5 w5 b5 hz5=>?_) rfl
  have hadd:∀ K:AV→Store→Prop,∀ S,bin .add 0 (.v (.int .i64 (i:Int))) (.v (.int .i64 1)) S K=K (aI (i+1:Nat)) S:=fun K S=>bin_add (by omega) (by omega) 0
  rw[hadd]
  refine hKE _ _ _ ⟨w1.keep (Nat.le_refl _) b5 k1,i+1,rfl,hlt,?_⟩ (by simp[intA];omega)
  rw[bitsL_succ,List.map_append]
  exact w5
 ·have hge:i=m:=by simp at hge;omega
  subst hge
  exact⟨_,rfl,k1,w1⟩
def isB (c:Ci) (s l:Int):Bool:=c.right && (decide (c.gr.inputs≤60) && c.gr.eval l (bitsL s c.gr.inputs.toNat))
theorem part10{x:AV}{l:List AV}{S:Store}{K:AV→Store→Prop}:part1 (.a (x :: l)) 0 S K=K x S:=by simp[part1,partA]
theorem gr_inp{c:Ci}(h:c.right=true):c.gr.inputs=c.inputs+c.latches.length∧0≤c.gr.inputs∧c.gr.inputs≤2000:=by
 obtain⟨⟨h1,h2⟩,h3,_,_,_,_,h4,_⟩:=right_c.1 h
 have h5:=right_iff.1 h4
 refine⟨?_,h5.1,h5.2.1⟩
 show IntKind.i64.wrap (c.inputs+c.latches.length)=_
 exact wrap64 (by omega) (by omega)
theorem ans68{c:Ci}(hc:c.ok){s l:Int}(hl:i64R l):Ans Pg 68 [c.av,aI s,aI l] (aB (isB c s l)):=by
 intro S
 refine ACalls.ans_v (calls68 ?_)
 unfold m68
 refine boxA_of rfl fun S1 k1 n1 o1=>?_
 rw[ldN_p (n:=8) o1 rfl]
 refine callF_ans (ans65 hc) ?_
 rw[un_not,onB_v]
 refine gd_of (fun h1=>⟨?_,k1⟩) (fun h1=>?_)
 ·rw[Bool.not_eq_true']at h1
  simp[isB,h1]
 have h1:c.right=true:=by simpa using h1
 obtain⟨g1,g2,g3⟩:=gr_inp h1
 rw[ldN_p (n:=8) o1 rfl]
 refine callF_ans (ans41 c) ?_
 unfold Gr.av Gr.cells
 rw[part10,bin_gtr,onB_v]
 refine gd_of (fun h2=>⟨?_,k1⟩) (fun h2=>?_)
 ·have h2:=dT h2
  simp[isB,show ¬ c.gr.inputs≤60 by omega]
 have h2:=dF h2
 obtain⟨m,hm⟩:=Int.eq_ofNat_of_zero_le g2
 show ∃ q11:AV,_
 refine⟨_,by rw[ldN_p (n:=8) o1 rfl];exact⟨rfl,rfl⟩,?_⟩
 refine⟨_,callF_ans (ans41 c) ⟨rfl,rfl⟩,?_⟩
 refine⟨_,by rw[ldN_p (n:=8) o1 rfl];exact⟨rfl,rfl⟩,?_⟩
 refine⟨_,callF_ans (ans41 c) ⟨rfl,rfl⟩,?_⟩
 refine⟨aI m,by unfold Gr.av Gr.cells;rw[part10,hm];exact⟨rfl,rfl⟩,?_⟩
 refine⟨_,callF_ans (own116 s (by omega)).ans ⟨rfl,rfl⟩,?_⟩
 refine⟨_,callF_ans (ans115 hc.gr hl (ins:=bitsL s m) (by simp;omega)) ⟨rfl,rfl⟩,?_⟩
 refine⟨?_,k1⟩
 simp only[isB,h1,Bool.true_and,show c.gr.inputs≤60 by omega,decide_true]
 rw[hm,Int.toNat_natCast]
def afterTo (c:Ci) (s:Int):Nat→Int
 |0=>0
 |i+1=>if isB c s (c.latches.getD i (0,0)).1=true then afterTo c s i+2 ^ (c.inputs.toNat+i)else afterTo c s i
def afterB (c:Ci) (s:Int):Int:=if(c.right && decide (c.gr.inputs≤60))=true then afterTo c s c.latches.length else 0
theorem afterTo_le(c:Ci)(s:Int):∀ i,0≤afterTo c s i∧afterTo c s i<2 ^ (c.inputs.toNat+i)
 |0=>⟨Int.le_refl _,Int.pow_pos (by decide)⟩
 |i+1=>by
  have⟨h1,h2⟩:=afterTo_le c s i
  have h3:(2:Int) ^ (c.inputs.toNat+(i+1))=2*2 ^ (c.inputs.toNat+i):=by rw[←Nat.add_assoc,Int.pow_succ];omega
  have h4:(0:Int)<2 ^ (c.inputs.toNat+i):=Int.pow_pos (by decide)
  unfold afterTo
  split<;>constructor<;>omega
theorem pow_le60{n:Nat}(h:n≤60):(2:Int) ^ n≤1152921504606846976:=by
 have h1:2 ^ n≤2 ^ 60:=Nat.pow_le_pow_right (by decide) h
 have h2:((2 ^ n:Nat):Int)≤((2 ^ 60:Nat):Int):=Int.ofNat_le.2 h1
 rw[Int.natCast_pow]at h2
 exact h2
theorem bin_shl1{i:Nat}(h:i≤60){S:Store}{K:AV→Store→Prop}:bin .shl 0 (.v (.int .i64 1)) (aI i) S K=K (aI (2 ^ i)) S:=by
 have h2:¬ ((i:Int)<0):=by omega
 have h3:min (Int.toNat i) IntKind.i64.bits=i:=by rw[Int.toNat_natCast];exact Nat.min_eq_left (by show i≤64;omega)
 have h4:=pow_le60 h
 have h5:(0:Int)<2 ^ i:=Int.pow_pos (by decide)
 show optP (b2 .shl 0 (.int .i64 1) (.int .i64 i)) _=_
 have:b2 .shl 0 (.int .i64 1) (.int .i64 i)=some (.int .i64 (2 ^ i)):=by
  simp only[b2,isSh,shI,if_neg h2,h3,Int.one_mul]
  rw[wrap64 (by omega) (by omega)]
  rfl
 rw[this,optP_some]
theorem ans59{c:Ci}(hc:c.ok)(s:Int):Ans Pg 59 [c.av,aI s] (aI (afterB c s)):=by
 intro S
 refine ACalls.ans_v (calls59 ?_)
 have hll:=hc.llen
 unfold m59
 refine boxA_of rfl fun S1 k1 n1 o1=>?_
 rw[ldN_p (n:=8) o1 rfl]
 refine callF_ans (ans65 hc) ?_
 rw[un_not,onB_v]
 refine gd_of (fun h1=>⟨?_,k1⟩) (fun h1=>?_)
 ·rw[Bool.not_eq_true']at h1
  simp[afterB,h1]
 have h1:c.right=true:=by simpa using h1
 obtain⟨g1,g2,g3⟩:=gr_inp h1
 have hin:=(right_c.1 h1).1
 rw[ldN_p (n:=8) o1 rfl]
 refine callF_ans (ans41 c) ?_
 unfold Gr.av Gr.cells
 rw[part10,bin_gtr,onB_v]
 refine gd_of (fun h2=>⟨?_,k1⟩) (fun h2=>?_)
 ·have h2:=dT h2
  simp[afterB,show ¬ c.gr.inputs≤60 by omega]
 have h2:=dF h2
 have hres:afterB c s=afterTo c s c.latches.length:=by
  simp only[afterB,h1,Bool.true_and,show c.gr.inputs≤60 by omega,decide_true,if_true]
 obtain⟨m,hm⟩:=Int.eq_ofNat_of_zero_le hin.1
 refine loop59_0 (fun y z S'=>S'=S1∧∃ i:Nat,z=aI i∧i≤c.latches.length∧y=aI (afterTo c s i))
  (fun _ z _=>c.latches.length - ((intA z).getD 0).toNat) ⟨rfl,0,rfl,Nat.zero_le _,rfl⟩ ?_
 rintro _ _ S1 ⟨rfl,i,rfl,hi,rfl⟩ KE hKE
 unfold b59_0
 rw[shift_p,ld1_p o1 rfl rfl,lenS_pL,bin_lss,onB_v]
 refine gd_of (fun hlt=>?_) (fun hge=>?_)
 ·have hlt:i<c.latches.length:=by simpa using hlt
  have hget:c.latches.getD i (0,0)=c.latches[i]:=by simp[List.getD_eq_getElem?_getD,hlt]
  have hadd:∀ K:AV→Store→Prop,∀ S,bin .add 0 (.v (.int .i64 (i:Int))) (.v (.int .i64 1)) S K=K (aI (i+1:Nat)) S:=fun K S=>bin_add (by omega) (by omega) 0
  have hμ:c.latches.length - ((intA (aI (i+1:Nat))).getD 0).toNat<c.latches.length - ((intA (aI i)).getD 0).toNat:=by simp[intA];omega
  show ∃ q16:AV,_
  refine⟨_,by rw[ldN_p (n:=8) o1 rfl];exact⟨rfl,rfl⟩,?_⟩
  refine⟨_,by rw[shift_p];exact⟨rfl,rfl⟩,?_⟩
  refine⟨_,by rw[ld1_p o1 rfl rfl];exact⟨rfl,rfl⟩,?_⟩
  refine⟨_,by rw[ixS_pL hlt];exact⟨rfl,rfl⟩,?_⟩
  refine⟨_,by rw[shift_q];exact⟨rfl,rfl⟩,?_⟩
  refine⟨_,by rw[ld1_qj (u:=aI c.latches[i].1) rfl];exact⟨rfl,rfl⟩,?_⟩
  refine⟨_,callF_ans (ans68 hc (hc.lats _ (List.getElem_mem hlt)).1) ⟨rfl,rfl⟩,?_⟩
  rw[onB_v]
  refine gd_of (fun h3=>?_) (fun h3=>?_)
  ·have hb:=afterTo_le c s i
   have hp:=pow_le60 (n:=c.inputs.toNat+i) (by omega)
   rw[shift_p,ld1_p o1 rfl rfl,bin_add (by omega) (by omega)]
   have e:c.inputs+(i:Int)=((c.inputs.toNat+i:Nat):Int):=by omega
   rw[e,bin_shl1 (by omega),bin_add (by omega) (by omega),hadd]
   exact hKE _ _ _ ⟨rfl,i+1,rfl,hlt,by rw[afterTo,hget,if_pos h3]⟩ hμ
  ·rw[hadd]
   exact hKE _ _ _ ⟨rfl,i+1,rfl,hlt,by rw[afterTo,hget,h3];rfl⟩ hμ
 ·have hge:i=c.latches.length:=by simp at hge;omega
  subst hge
  rw[hres]
  exact⟨rfl,k1⟩
theorem orN{a b:Nat}(ha:a<4611686018427387904)(hb:b<4611686018427387904)(h:a ||| b<4611686018427387904){S:Store}{K:AV→Store→Prop}:bin .or 0 (aI a) (aI b) S K=K (aI (a ||| b:Nat)) S:=by
 show optP (b2 .or 0 (.int .i64 a) (.int .i64 b)) _=_
 have:b2 .or 0 (.int .i64 a) (.int .i64 b)=some (.int .i64 (a ||| b:Nat)):=by
  show(some (Int.ofNat 0)).bind (fun _=>some (Value.int .i64 (IntKind.i64.wrap (BitVec.ofInt 64 a ||| BitVec.ofInt 64 b).toNat)))=_
  have h1:(BitVec.ofInt 64 (a:Int)).toNat=a:=by rw[BitVec.toNat_ofInt];omega
  have h2:(BitVec.ofInt 64 (b:Int)).toNat=b:=by rw[BitVec.toNat_ofInt];omega
  rw[BitVec.toNat_or,h1,h2,wrap64 (by omega) (by omega)]
  rfl
 rw[this,optP_some]
theorem or_add{k q b:Nat}(h:b<2 ^ k):2 ^ k*q ||| b=2 ^ k*q+b:=(Nat.two_pow_add_eq_or_of_lt h q).symm
theorem two_le60{n:Nat}(h:n≤60):2 ^ n≤1152921504606846976:=Nat.pow_le_pow_right (by decide) h
theorem bin_or_pow{a:Int}{k:Nat}(h0:0≤a)(h1:a<2 ^ k)(hk:k≤60){S:Store}{K:AV→Store→Prop}:bin .or 0 (aI a) (aI (2 ^ k)) S K=K (aI (a+2 ^ k)) S:=by
 obtain⟨n,rfl⟩:=Int.eq_ofNat_of_zero_le h0
 have hp:=two_le60 hk
 have e:((2:Int) ^ k)=((2 ^ k:Nat):Int):=by rw[Int.natCast_pow];rfl
 rw[e]at h1 ⊢
 have hn:n<2 ^ k:=by omega
 have ho:n ||| 2 ^ k=n+2 ^ k:=by
  rw[Nat.or_comm]
  have:=or_add (k:=k) (q:=1) hn
  rw[Nat.mul_one]at this
  rw[this];omega
 rw[orN (by omega) (by omega) (by rw[ho];omega),ho,Int.natCast_add]
section
variable {c:Ci} {vals:List (List Bool)} {n mid t:Nat} {S:Store}
def afterV(c:Ci)(v:List Bool):Nat→Int
 |0=>0
 |i+1=>if litB v (c.latches.getD i (0,0)).1=true then afterV c v i+2 ^ (c.inputs.toNat+i)else afterV c v i
theorem afterV_le(c:Ci)(v:List Bool):∀ i,0≤afterV c v i∧afterV c v i<2 ^ (c.inputs.toNat+i)
 |0=>⟨Int.le_refl _,Int.pow_pos (by decide)⟩
 |i+1=>by
  have⟨h1,h2⟩:=afterV_le c v i
  have h3:(2:Int) ^ (c.inputs.toNat+(i+1))=2*2 ^ (c.inputs.toNat+i):=by rw[←Nat.add_assoc,Int.pow_succ];omega
  have h4:(0:Int)<2 ^ (c.inputs.toNat+i):=Int.pow_pos (by decide)
  unfold afterV
  split<;>constructor<;>omega
def begB(c:Ci)(s:Int):Bool:=(List.range c.latches.length).all fun i=>decide ((c.latches.getD i (0,0)).2=2) || decide (s.fdiv (2 ^ (c.inputs.toNat+i)) % 2=(c.latches.getD i (0,0)).2)
end
theorem set_range{α:Type}{n i:Nat}{f f':Nat→α}(hi:i<n)(h:∀ k,k≠i→f' k=f k):((List.range n).map f).set i (f' i)=(List.range n).map f':=by
 apply List.ext_getElem
 ·simp
 ·intro k h1 h2
  rw[List.getElem_set]
  split
  ·rename_i e
   subst e
   simp
  ·rename_i e
   simp[h k (fun h=>e h.symm)]
section
variable {c:Ci} {vals:List (List Bool)} {n mid t:Nat} {S:Store}
theorem afterV_div(c:Ci)(v:List Bool):∀ i,∃ q:Nat,q<2 ^ i∧afterV c v i=((2 ^ c.inputs.toNat*q:Nat):Int)
 |0=>⟨0,by decide,by simp[afterV]⟩
 |i+1=>by
  obtain⟨q,h1,h2⟩:=afterV_div c v i
  have h3:2 ^ (i+1)=2*2 ^ i:=by rw[Nat.pow_succ];omega
  unfold afterV
  split
  ·refine⟨q+2 ^ i,by omega,?_⟩
   rw[h2,Nat.mul_add,←Nat.pow_add,Int.natCast_add,Int.natCast_pow]
   rfl
  ·exact⟨q,by omega,h2⟩
def nextL(c:Ci)(v vs:List Bool):List Int:=((List.range (2 ^ c.inputs.toNat)).filter fun x=>vs.getD ((afterV c v c.latches.length).toNat+x) false).map fun x:Nat=>afterV c v c.latches.length+(x:Int)
end
section
variable {c:Ci} {vals:List (List Bool)} {n mid t:Nat} {S:Store}
end
def valsOf(c:Ci):List (List Bool):=(List.range (2 ^ c.gr.inputs.toNat)).map fun s:Nat=>allB c.gr (bitsL s c.gr.inputs.toNat)
def validOf(c:Ci):List Bool:=(List.range (2 ^ c.gr.inputs.toNat)).map fun s:Nat=>c.cons.all (litB ((valsOf c).getD s []))
def spOf(c:Ci):Sp where
 bits:=c.gr.inputs
 valid:=validOf c
 initial:=(List.range (2 ^ c.gr.inputs.toNat)).map fun s:Nat=>(validOf c).getD s false && begB c s
 next:=(List.range (2 ^ c.gr.inputs.toNat)).map fun s:Nat=>if(validOf c).getD s false=true then nextL c ((valsOf c).getD s []) (validOf c)else[]
 fair:=c.fair.map fun l=>(List.range (2 ^ c.gr.inputs.toNat)).map fun s:Nat=>(validOf c).getD s false && litB ((valsOf c).getD s []) l
def sp0:Sp:=⟨0,[],[],[],[]⟩
def spaceB (c:Ci):Sp × Int:=if c.right=false then(sp0,1)else if 10<c.gr.inputs then(sp0,2)else(spOf c,0)
theorem cv_sp0{S:Store}{n:Nat}:Cv S n (.a [aI 0,.nl,.nl,.nl,.nl]) sp0.av:=
 .a _ _ rfl fun k u u2 hk hk2=>by
  match k with
  |0=>cases hk;cases hk2;exact .v _
  |1|2|3|4=>cases hk;cases hk2;exact .nl
  |k+5=>simp at hk
theorem ldN_off{S:Store}{id t n j:Nat}{cs cs':List AV}{l:Bool}{K:AV→Store→Prop}(h:S.obj id=some (.cells t [cs] l))(hj:j+n≤cs.length)(hc:(cs.drop j).take n=cs'):ldN n (.p id 0 j) S K=K (.a cs') S:=by
 simp[ldN,rdN,place,Store.get,h,hj,hc]
theorem vals_len{c:Ci}(h:c.right=true){s:Nat}(hs:s<2 ^ c.gr.inputs.toNat):(((valsOf c).getD s []).length:Int)=c.gr.vars:=by
 obtain⟨g1,g2,g3⟩:=gr_inp h
 have hr:=(right_c.1 h).2.2.2.2.2.2.1
 have:(valsOf c).getD s []=allB c.gr (bitsL s c.gr.inputs.toNat):=by simp[valsOf,List.getD_eq_getElem?_getD,hs]
 rw[this,allB_len,if_pos]
 ·have:0≤c.gr.vars:=by unfold Gr.vars;omega
  omega
 ·rw[hr,bitsL_len]
  simp;omega
theorem own_tree{α:Type}{f:α→AV}{n:Nat}{S:Store}{x:AV}{e:Nat}{l:List α}(hf:∀ a∈l,Tree (f a))(h:Own n S x e (l.map fun a=>[f a])):Cv (S.frz (newer n)) n x (aL f l):=
 h.cv rfl rfl (fun i c c2 hi hi2=>by
  rw[hi]at hi2
  cases hi2
  refine⟨rfl,fun k u u2 hk hk2=>?_⟩
  rw[hk]at hk2
  cases hk2
  rw[List.getElem?_map]at hi
  obtain⟨a,ha,rfl⟩:=Option.map_eq_some_iff.1 hi
  cases k with
  |zero=>cases hk;exact hf a (List.mem_of_getElem? ha) _ _
  |succ k=>simp at hk)
theorem cv_a5{S:Store}{n:Nat}{x y z u v x' y' z' u' v':AV}(h1:Cv S n x x')(h2:Cv S n y y')(h3:Cv S n z z')(h4:Cv S n u u')(h5:Cv S n v v'):Cv S n (.a [x,y,z,u,v]) (.a [x',y',z',u',v']):=
 .a _ _ rfl fun k w w2 hk hk2=>by
  match k with
  |0=>cases hk;cases hk2;exact h1
  |1=>cases hk;cases hk2;exact h2
  |2=>cases hk;cases hk2;exact h3
  |3=>cases hk;cases hk2;exact h4
  |4=>cases hk;cases hk2;exact h5
  |k+5=>simp at hk
theorem ans66{c:Ci}(hc:c.ok){s:Int}{l:List Int}(hl:∀ x∈l,i64R x)(hn:l.length≤9223372036854775807):Ans Pg 66 [c.av,aI s,aL aI l] (aB (l.all (isB c s))):=by
 intro S
 refine ACalls.ans_v (calls66 ?_)
 unfold m66
 refine boxA_of rfl fun S1 k1 n1 o1=>?_
 refine loop66_0 (fun y S'=>S'=S1∧∃ i:Nat,y=aI i∧i≤l.length∧∀ j (h:j<l.length),j<i→isB c s l[j]=true)
  (fun y _=>l.length - ((intA y).getD 0).toNat) ⟨rfl,0,rfl,Nat.zero_le _,fun j _ hj=>(Nat.not_lt_zero _ hj).elim⟩ ?_
 rintro _ S1 ⟨rfl,i,rfl,hi,hok⟩ KE hKE
 unfold b66_0
 rw[lenS_aL,bin_lss,onB_v]
 refine gd_of (fun hlt=>?_) (fun hge=>?_)
 ·have hlt:i<l.length:=by simpa using hlt
  have hm:=List.getElem_mem hlt
  show ∃ q5:AV,_
  refine⟨_,by rw[ldN_p (n:=8) o1 rfl];exact⟨rfl,rfl⟩,?_⟩
  refine⟨_,by rw[ixS_aL hlt];exact⟨rfl,rfl⟩,?_⟩
  refine⟨_,by rw[ld1_q];exact⟨rfl,rfl⟩,?_⟩
  refine⟨_,callF_ans (ans68 hc (hl _ hm)) ⟨rfl,rfl⟩,?_⟩
  refine⟨_,by rw[un_not];exact⟨rfl,rfl⟩,?_⟩
  rw[onB_v]
  refine gd_of (fun h=>⟨?_,k1⟩) (fun h=>?_)
  ·have:l.all (isB c s)=false:=by
     rw[List.all_eq_false]
     exact⟨_,hm,by simpa using h⟩
   rw[this]
  ·have hadd:∀ K:AV→Store→Prop,∀ S,bin .add 0 (.v (.int .i64 (i:Int))) (.v (.int .i64 1)) S K=K (aI (i+1:Nat)) S:=fun K S=>bin_add (by omega) (by omega) 0
   rw[hadd]
   refine hKE _ _ ⟨rfl,i+1,rfl,hlt,fun j hj hj'=>?_⟩ (by simp[intA];omega)
   rcases Nat.lt_or_ge j i with h'|h'
   ·exact hok j hj h'
   ·have:j=i:=by omega
    subst this
    simpa using h
 ·have hge:i=l.length:=by simp at hge;omega
  subst hge
  refine⟨?_,k1⟩
  have:l.all (isB c s)=true:=by
   rw[List.all_eq_true]
   intro x hx
   obtain⟨j,hj,rfl⟩:=List.getElem_of_mem hx
   exact hok j hj hj
  rw[this]
theorem ans67{c:Ci}(hll:c.latches.length≤1000000)(h0:0≤c.inputs)(h60:c.inputs+c.latches.length≤60){s:Int}(hs:0≤s):Ans Pg 67 [c.av,aI s] (aB (begB c s)):=by
 intro S
 refine ACalls.ans_v (calls67 ?_)
 unfold m67
 refine boxA_of rfl fun S1 k1 n1 o1=>?_
 refine loop67_0 (fun w S'=>S'=S1∧∃ i:Nat,w=aI i∧i≤c.latches.length∧∀ j,j<i→(decide ((c.latches.getD j (0,0)).2=2) || decide (s.fdiv (2 ^ (c.inputs.toNat+j)) % 2=(c.latches.getD j (0,0)).2))=true)
  (fun w _=>c.latches.length - ((intA w).getD 0).toNat) ⟨rfl,0,rfl,Nat.zero_le _,fun j hj=>(Nat.not_lt_zero _ hj).elim⟩ ?_
 rintro _ S1 ⟨rfl,i,rfl,hi,hok⟩ KE hKE
 unfold b67_0
 rw[shift_p,ld1_p o1 rfl rfl,lenS_pL,bin_lss,onB_v]
 refine gd_of (fun hlt=>?_) (fun hge=>?_)
 ·have hlt:i<c.latches.length:=by simpa using hlt
  have hget:c.latches.getD i (0,0)=c.latches[i]:=by simp[List.getD_eq_getElem?_getD,hlt]
  have hadd:∀ K:AV→Store→Prop,∀ S,bin .add 0 (.v (.int .i64 (i:Int))) (.v (.int .i64 1)) S K=K (aI (i+1:Nat)) S:=fun K S=>bin_add (by omega) (by omega) 0
  have hno:(decide ((c.latches.getD i (0,0)).2=2) || decide (s.fdiv (2 ^ (c.inputs.toNat+i)) % 2=(c.latches.getD i (0,0)).2))=false→begB c s=false:=fun hh=>by
   rw[begB,List.all_eq_false]
   exact⟨i,by simpa using hlt,by rw[hh];decide⟩
  rw[hget]at hno
  have hnext:(decide (c.latches[i].2=2) || decide (s.fdiv (2 ^ (c.inputs.toNat+i)) % 2=c.latches[i].2))=true→KE 33 (env67_0 (aI s) (.p S.n 0 0) (aI (i+1:Nat))) S1:=fun hh=>hKE _ _ ⟨rfl,i+1,rfl,hlt,fun j hj=>by
   rcases Nat.lt_or_ge j i with h'|h'
   ·exact hok j h'
   ·have:j=i:=by omega
    subst this
    rw[hget];exact hh⟩ (by simp[intA];omega)
  have e:c.inputs+(i:Int)=((c.inputs.toNat+i:Nat):Int):=by omega
  rw[shift_p,ld1_p o1 rfl rfl,ixS_pL hlt,shift_q,ld1_qj (u:=aI c.latches[i].2) rfl,bin_neq,onB_v]
  generalize c.latches[i]=x at *
  refine gd_of (fun h4=>?_) (fun h4=>?_)
  ·have h4:¬ x.2=2:=by simpa using h4
   have hnn:0≤s.fdiv (2 ^ (c.inputs.toNat+i)):=Int.fdiv_nonneg hs (Int.le_of_lt (Int.pow_pos (by decide)))
   rw[shift_p,ld1_p o1 rfl rfl,bin_add (by omega) (by omega),e,bin_shrN (by omega),bin_rem (by decide),bin_neq,onB_v,show(s.fdiv (2 ^ (c.inputs.toNat+i))).tmod 2=s.fdiv (2 ^ (c.inputs.toNat+i)) % 2 from Int.tmod_eq_emod_of_nonneg hnn]
   refine gd_of (fun h5=>⟨?_,k1⟩) (fun h5=>?_)
   ·have h5:¬ s.fdiv (2 ^ (c.inputs.toNat+i)) % 2=x.2:=by simpa using h5
    rw[hno (by simp only[h4,h5,decide_false,Bool.or_self])]
   ·have h5:s.fdiv (2 ^ (c.inputs.toNat+i)) % 2=x.2:=by simpa using h5
    rw[hadd]
    exact hnext (by simp only[h5,decide_true,Bool.or_true])
  ·have h4:x.2=2:=by simpa using h4
   rw[hadd]
   exact hnext (by simp only[h4,decide_true,Bool.true_or])
 ·have hge:i=c.latches.length:=by simp at hge;omega
  subst hge
  refine⟨?_,k1⟩
  have:begB c s=true:=by
   rw[begB,List.all_eq_true]
   exact fun j hj=>hok j (by simpa using hj)
  rw[this]
theorem vals_get{c:Ci}{s:Nat}(hs:s<2 ^ c.gr.inputs.toNat):(valsOf c).getD s []=allB c.gr (bitsL s c.gr.inputs.toNat):=by
 simp[valsOf,List.getD_eq_getElem?_getD,hs]
theorem isB_eq{c:Ci}(h:c.right=true)(h10:c.gr.inputs≤60){s:Nat}(hs:s<2 ^ c.gr.inputs.toNat){l:Int}(hl:c.gr.lit l=true):isB c s l=litB ((valsOf c).getD s []) l:=by
 have hv:=vals_len h hs
 rw[vals_get hs]at hv ⊢
 obtain⟨g1,g2,g3⟩:=gr_inp h
 have hpos:0<(allB c.gr (bitsL s c.gr.inputs.toNat)).length:=by
  have:1≤c.gr.vars:=by unfold Gr.vars;omega
  omega
 simp only[isB,h,Bool.true_and,h10,decide_true,Gr.eval,hpos,hl]
theorem valid_eq{c:Ci}(h:c.right=true)(h10:c.gr.inputs≤60){s:Nat}(hs:s<2 ^ c.gr.inputs.toNat){l:List Int}(hl:l.all c.gr.lit=true):l.all (isB c s)=l.all (litB ((valsOf c).getD s [])):=by
 have:=List.all_eq_true.1 hl
 clear hl
 induction l with
 |nil=>rfl
 |cons a l ih =>
  rw[List.all_cons,List.all_cons,isB_eq h h10 hs (this a (by simp)),ih fun x hx=>this x (by simp[hx])]
theorem afterTo_eq{c:Ci}(h:c.right=true)(h10:c.gr.inputs≤60){s:Nat}(hs:s<2 ^ c.gr.inputs.toNat):∀{i:Nat},i≤c.latches.length→afterTo c s i=afterV c ((valsOf c).getD s []) i
 |0,_=>rfl
 |i+1,hi=>by
  have hlt:i<c.latches.length:=hi
  have hget:c.latches.getD i (0,0)=c.latches[i]:=by simp[List.getD_eq_getElem?_getD,hlt]
  have hlit:c.gr.lit c.latches[i].1=true:=by
   have:=List.all_eq_true.1 (right_c.1 h).2.2.2.2.2.2.2.1 _ (List.getElem_mem hlt)
   simp only[latOk,Bool.and_eq_true]at this
   exact this.1
  rw[afterTo,afterV,afterTo_eq h h10 hs (by omega),hget,isB_eq h h10 hs hlit]
theorem afterB_eq{c:Ci}(h:c.right=true)(h10:c.gr.inputs≤60){s:Nat}(hs:s<2 ^ c.gr.inputs.toNat):afterB c s=afterV c ((valsOf c).getD s []) c.latches.length:=by
 rw[afterB,h,decide_eq_true h10,Bool.true_and,if_pos rfl,afterTo_eq h h10 hs (Nat.le_refl _)]
abbrev aW16(i:Int):AV:=.v (.int .u16 i)
def pickV(l:List Int)(k:Nat)(n:Int):Int:=if l.length<k+1 then 0 else(l.getD k 0).tmod n
theorem pick_of{S:Store}{aid lid ta tl k:Nat}{l:List Int}{n:Int}{Q:AEnd→Store→Prop}(h1:S.obj aid=some (.cells ta [[aI k]] true))(h2:S.obj lid=some (.cells tl [[aL aW16 l]] true))(hne:lid≠aid)
    (hl:∀ x∈l,0≤x∧x<65536) (hn:0<n) (hk:k≤1000000)
    (K:∀ S',S'.n=S.n→S'.obj aid=some (.cells ta [[aI (k+1:Nat)]] true)→(∀ x,x≠aid→S'.obj x=S.obj x)→Q (.ret (aI (pickV l k n))) S'):ACalls Pg 78 [aI n,.p aid 0 0,.p lid 0 0] S Q:=by
 refine calls78 ?_
 unfold m78
 have hadd:∀ K:AV→Store→Prop,∀ S,bin .add 0 (.v (.int .i64 (k:Int))) (.v (.int .i64 1)) S K=K (aI (k+1:Nat)) S:=fun K S=>bin_add (by omega) (by omega) 0
 rw[ld1_p h1 rfl rfl,hadd]
 refine st_of h1 rfl rfl fun S1 n1 o1 f1=>?_
 have p1:=(f1 lid hne).trans h2
 rw[ld1_p o1 rfl rfl,ld1_p p1 rfl rfl,lenS_aL,bin_gtr,onB_v]
 refine gd_of (fun h=>?_) (fun h=>?_)
 ·have h:=dT h
  have:=K S1 n1 o1 f1
  rw[pickV,if_pos (by omega)]at this
  exact this
 ·have h:=dF h
  have hlt:k<l.length:=by omega
  have hx:=hl _ (List.getElem_mem hlt)
  have hsub:∀ K:AV→Store→Prop,∀ S,bin .sub 0 (.v (.int .i64 ((k+1:Nat):Int))) (.v (.int .i64 1)) S K=K (aI k) S:=fun K S=>(bin_sub (by omega) (by omega) 0).trans (by rw[show((k+1:Nat):Int) - 1=k by omega])
  rw[ld1_p p1 rfl rfl,ld1_p o1 rfl rfl,hsub,ixS_aL hlt,ld1_q,convI_64 _ (by omega) (by omega),bin_rem (by omega)]
  have:=K S1 n1 o1 f1
  rw[pickV,if_neg (by omega),show l.getD k 0=l[k]by simp[List.getD_eq_getElem?_getD,hlt]]at this
  exact this
def xr(x y:Int):Int:=IntKind.i64.wrap (BitVec.ofInt 64 x ^^^ BitVec.ofInt 64 y).toNat
theorem bin_xor{a b:Int}{S:Store}{K:AV→Store→Prop}:bin .xor 0 (aI a) (aI b) S K=K (aI (xr a b)) S:=by
 show optP (b2 .xor 0 (.int .i64 a) (.int .i64 b)) _=_
 have:b2 .xor 0 (.int .i64 a) (.int .i64 b)=some (.int .i64 (xr a b)):=rfl
 rw[this,optP_some]
theorem small_and{g:Gr}(hg:g.ok){a b:Int}(ha:i64R a)(hb:i64R b):(g.and a b).1.ok:=by
 have h0:(⟨0,[]⟩:Gr).ok:=⟨⟨by decide,by decide⟩,by simp,fun p hp=>by simp at hp⟩
 unfold Gr.and
 split
 ·exact h0
 ·rename_i h1
  have hr:g.right=true:=by
   cases e:g.right with
   |true=>rfl
   |false=>exact absurd (by rw[e];rfl) h1
  unfold andT
  have hx:i64R (if b > a then b else a):=by split<;>assumption
  have hy:i64R (if b<a then b else a):=by split<;>assumption
  generalize(if b > a then b else a)=x at *
  generalize(if b<a then b else a)=y at *
  repeat' split
  all_goals first|exact hg|exact h0|skip
  obtain⟨_,_,r3,_⟩:=right_iff.1 hr
  refine⟨hg.inp,by simp;omega,fun p hp=>?_⟩
  rcases List.mem_append.1 hp with hp|hp
  ·exact hg.pairs p hp
  ·have:p=(x,y):=by simpa using hp
   subst this
   exact⟨hx,hy⟩
def madeS(g:Gr)(last:Int)(s:Int):Gr × Int:=
 let many:=2*g.vars
 let r:=g.and (s.tmod many) ((s.tdiv many).tmod many)
 if r.2.2=0 then(r.1,xr r.2.1 ((s.tdiv 7).tmod 2))else(g,last)
def madeTo(n:Int)(l:List Int):Nat→Gr × Int
 |0=>(⟨n,[]⟩,1)
 |i+1=>madeS (madeTo n l i).1 (madeTo n l i).2 (l.getD i 0)
theorem and_inp{g:Gr}{a b:Int}(h:(g.and a b).2.2=0):(g.and a b).1.inputs=g.inputs:=by
 revert h
 unfold Gr.and
 split
 ·intro h;cases h
 ·unfold andT
  generalize(if b > a then b else a)=x
  generalize(if b<a then b else a)=y
  repeat' split
  all_goals first|(intro _;rfl)|(intro h;cases h)
theorem madeTo_inp(n:Int)(l:List Int):∀ i,(madeTo n l i).1.inputs=n
 |0=>rfl
 |i+1=>by
  have ih:=madeTo_inp n l i
  simp only[madeTo,madeS]
  split
  ·rename_i h
   rw[and_inp h,ih]
  ·exact ih
theorem rem_small{a b:Int}(h0:0≤a)(h1:a≤65536)(hb:0<b):0≤a.tmod b∧a.tmod b≤65536:=by
 rw[Int.tmod_eq_emod_of_nonneg h0]
 have h2:=Int.emod_nonneg a (show b≠0 by omega)
 have h3:a % b≤a:=by
  have h4:=Int.mul_ediv_add_emod a b
  have h5:0≤b*(a / b):=Int.mul_nonneg (by omega) (Int.ediv_nonneg h0 (by omega))
  omega
 omega
theorem madeTo_ok{n:Int}(hn:i64R n){l:List Int}(hl:∀ x∈l,0≤x∧x<65536)(h0:0≤n):∀ i,(madeTo n l i).1.ok
 |0=>⟨hn,by simp[madeTo],fun p hp=>by simp[madeTo]at hp⟩
 |i+1=>by
  have ih:=madeTo_ok hn hl h0 i
  have hv:0<2*(madeTo n l i).1.vars:=by
   have:=madeTo_inp n l i
   unfold Gr.vars
   omega
  have hx:0≤l.getD i 0∧l.getD i 0≤65536:=by
   rw[List.getD_eq_getElem?_getD]
   rcases Nat.lt_or_ge i l.length with h|h
   ·rw[List.getElem?_eq_getElem h]
    have:=hl _ (List.getElem_mem h)
    exact⟨this.1,by show l[i]≤65536;omega⟩
   ·rw[List.getElem?_eq_none h]
    exact⟨by decide,by decide⟩
  have hd:0≤(l.getD i 0).tdiv (2*(madeTo n l i).1.vars)∧(l.getD i 0).tdiv (2*(madeTo n l i).1.vars)≤65536:=by
   rw[Int.tdiv_eq_ediv_of_nonneg hx.1]
   have h1:=Int.ediv_nonneg hx.1 (show 0≤2*(madeTo n l i).1.vars by omega)
   have h2:=Int.ediv_le_self (2*(madeTo n l i).1.vars) hx.1
   omega
  have ha:=rem_small hx.1 hx.2 hv
  have hb:=rem_small hd.1 hd.2 hv
  simp only[madeTo,madeS]
  split
  ·exact small_and ih ⟨by omega,by omega⟩ ⟨by omega,by omega⟩
  ·exact ih
theorem lit_iff{g:Gr}{l:Int}:g.lit l=true↔0≤g.inputs∧g.inputs≤2000∧0≤l∧l / 2<g.vars:=by
 simp only[Gr.lit,Bool.and_eq_true,decide_eq_true_eq]
 constructor
 ·rintro⟨h1,h2,h3,h4⟩
  rw[Int.tdiv_eq_ediv_of_nonneg h3]at h4
  exact⟨h1,h2,h3,h4⟩
 ·rintro⟨h1,h2,h3,h4⟩
  rw[Int.tdiv_eq_ediv_of_nonneg h3]
  exact⟨h1,h2,h3,h4⟩
theorem and_right{g:Gr}(h:g.right=true){a b:Int}(e:(g.and a b).2.2=0):
    (g.and a b).1.right=true∧(g.and a b).1.lit (g.and a b).2.1=true∧(g.and a b).1.vars≤g.vars+1∧g.vars≤(g.and a b).1.vars∧(g.and a b).1.inputs=g.inputs:=by
 have hin:=and_inp e
 obtain⟨r1,r2,r3,r4,r5,r6⟩:=right_iff.1 h
 have hv:g.vars=g.inputs+1+g.ands.length:=rfl
 revert e
 unfold Gr.and
 split
 ·intro e;cases e
 ·rename_i hl
  have hl:(g.right && (g.lit a && g.lit b))=true:=by simpa using hl
  simp only[Bool.and_eq_true]at hl
  obtain⟨_,la,lb⟩:=hl
  have lx:g.lit (if b > a then b else a)=true:=by split<;>assumption
  have ly:g.lit (if b<a then b else a)=true:=by split<;>assumption
  have hxy:(if b<a then b else a)≤(if b > a then b else a):=by split<;>split<;>omega
  generalize(if b > a then b else a)=x at *
  generalize(if b<a then b else a)=y at *
  obtain⟨_,_,x0,x1⟩:=lit_iff.1 lx
  obtain⟨_,_,y0,y1⟩:=lit_iff.1 ly
  unfold andT
  split
  ·intro _;exact⟨h,lit_iff.2 ⟨r1,r2,Int.le_refl _,by show(0:Int) / 2<g.vars;omega⟩,by show g.vars≤_;omega,Int.le_refl _,rfl⟩
  rename_i hy0
  split
  ·intro _;exact⟨h,lit_iff.2 ⟨r1,r2,Int.le_refl _,by show(0:Int) / 2<g.vars;omega⟩,by show g.vars≤_;omega,Int.le_refl _,rfl⟩
  rename_i hd
  split
  ·intro _;exact⟨h,lx,by show g.vars≤_;omega,Int.le_refl _,rfl⟩
  rename_i hy1
  split
  ·intro _;exact⟨h,lx,by show g.vars≤_;omega,Int.le_refl _,rfl⟩
  rename_i hne
  rw[Int.tdiv_eq_ediv_of_nonneg x0,Int.tdiv_eq_ediv_of_nonneg y0]at hd
  split
  ·rename_i i hi
   obtain⟨hi,_,_⟩:=List.findIdx?_eq_some_iff_getElem.1 hi
   intro _
   exact⟨h,lit_iff.2 ⟨r1,r2,by show 0≤2*(g.inputs+1+(i:Int));omega,by show 2*(g.inputs+1+(i:Int)) / 2<g.vars;omega⟩,by show g.vars≤_;omega,Int.le_refl _,rfl⟩
  ·rename_i hi
   split
   ·intro e;cases e
   ·rename_i hbig
    intro _
    have hv':(⟨g.inputs,g.ands ++ [(x,y)]⟩:Gr).vars=g.vars+1:=by simp[Gr.vars];omega
    refine⟨right_iff.2 ⟨r1,r2,by simp;omega,by rw[hv'];omega,fun j hj=>?_,?_⟩,lit_iff.2 ⟨r1,r2,by show 0≤2*(g.vars+1) - 2;omega,by rw[hv'];show(2*(g.vars+1) - 2) / 2<_;omega⟩,by rw[hv'];omega,by rw[hv'];omega,rfl⟩
    ·rcases Nat.lt_or_ge j g.ands.length with hj'|hj'
     ·have:=r5 j hj'
      simpa[List.getD_eq_getElem?_getD,List.getElem?_append_left hj']using this
     ·have hj2:j=g.ands.length:=by simp at hj;omega
      subst hj2
      have:(g.ands ++ [(x,y)]).getD g.ands.length (0,0)=(x,y):=by simp[List.getD_eq_getElem?_getD]
      show may ((g.ands ++ [(x,y)]).getD g.ands.length (0,0)) _=true
      rw[this]
      simp only[may,Bool.and_eq_true,decide_eq_true_eq]
      rw[Int.tdiv_eq_ediv_of_nonneg x0,Int.tdiv_eq_ediv_of_nonneg y0]
      refine⟨by omega,?_,?_⟩
      ·have:x / 2≠y / 2:=fun q=>hd ⟨q,hne⟩
       omega
      ·show x / 2<g.inputs+1+(g.ands.length:Int);omega
    ·show(g.ands ++ [(x,y)]).Nodup
     rw[List.nodup_append]
     refine⟨r6,by simp,fun p hp q hq=>?_⟩
     have:q=(x,y):=by simpa using hq
     subst this
     rintro rfl
     have:=List.findIdx?_eq_none_iff.1 hi _ hp
     simp at this
theorem xr_nat(a b:Nat)(ha:a<2 ^ 62)(hb:b<2 ^ 62):xr (a:Int) (b:Int)=((a ^^^ b:Nat):Int):=by
 have h1:a ^^^ b<2 ^ 62:=Nat.xor_lt_two_pow ha hb
 have hp:(2:Nat) ^ 62=4611686018427387904:=by decide
 unfold xr
 have e:(BitVec.ofInt 64 (a:Int) ^^^ BitVec.ofInt 64 (b:Int)).toNat=a ^^^ b:=by
  rw[BitVec.toNat_xor,BitVec.ofInt_natCast,BitVec.ofInt_natCast,BitVec.toNat_ofNat,BitVec.toNat_ofNat,Nat.mod_eq_of_lt (by omega),Nat.mod_eq_of_lt (by omega)]
 rw[e,wrap64 (by omega) (by omega)]
theorem xr_half{a b:Int}(h0:0≤a)(h1:a≤1000000)(hb:b=0∨b=1):0≤xr a b∧xr a b / 2=a / 2∧xr a b≤1000001:=by
 obtain⟨n,rfl⟩:=Int.eq_ofNat_of_zero_le h0
 obtain⟨m,rfl,hm⟩:∃ m:Nat,b=(m:Int)∧m<2:=by rcases hb with rfl|rfl;exact⟨0,rfl,by decide⟩;exact⟨1,rfl,by decide⟩
 have hp:(2:Nat) ^ 62=4611686018427387904:=by decide
 rw[xr_nat n m (by omega) (by omega)]
 have:(n ^^^ m) / 2=n / 2:=by
  rw[Nat.xor_div_two,show m / 2=0 by omega,Nat.xor_zero]
 omega
theorem madeTo_right{n:Int}(h0:0≤n)(hn:n≤100){l:List Int}(hl:∀ x∈l,0≤x∧x<65536):∀ i,i≤40→(madeTo n l i).1.right=true∧(madeTo n l i).1.lit (madeTo n l i).2=true∧n+1≤(madeTo n l i).1.vars∧(madeTo n l i).1.vars≤n+1+i
 |0,_=>by
  refine⟨right_iff.2 ⟨h0,by show n≤2000;omega,by show((0:Nat):Int)≤2000;decide,by show n+1+0≤2000;omega,fun j hj=>by simp[madeTo]at hj,by simp[madeTo]⟩,lit_iff.2 ⟨h0,by show n≤2000;omega,by show(0:Int)≤1;decide,by show(1:Int) / 2<n+1+0;omega⟩,by show _≤n+1+0;omega,by show n+1+0≤_;omega⟩
 |i+1,hi=>by
  obtain⟨h1,h2,h3,h4⟩:=madeTo_right h0 hn hl i (by omega)
  have hx:0≤l.getD i 0:=by
   rw[List.getD_eq_getElem?_getD]
   rcases Nat.lt_or_ge i l.length with h|h
   ·rw[List.getElem?_eq_getElem h]
    exact(hl _ (List.getElem_mem h)).1
   ·rw[List.getElem?_eq_none h]
    exact Int.le_refl 0
  simp only[madeTo,madeS]
  split
  ·rename_i he
   obtain⟨k1,k2,k3,k4,k5⟩:=and_right h1 he
   generalize(madeTo n l i).1.and ((l.getD i 0).tmod (2*(madeTo n l i).1.vars)) (((l.getD i 0).tdiv (2*(madeTo n l i).1.vars)).tmod (2*(madeTo n l i).1.vars))=r at *
   obtain⟨l1,l2,l3,l4⟩:=lit_iff.1 k2
   have hb:((l.getD i 0).tdiv 7).tmod 2=0∨((l.getD i 0).tdiv 7).tmod 2=1:=by
    rw[Int.tdiv_eq_ediv_of_nonneg hx,Int.tmod_eq_emod_of_nonneg (by omega)]
    omega
   obtain⟨q1,q2,_⟩:=xr_half (a:=r.2.1) l3 (by omega) hb
   exact⟨k1,lit_iff.2 ⟨l1,l2,q1,by rw[q2];exact l4⟩,by show _≤r.1.vars;omega,by show r.1.vars≤_;omega⟩
  ·exact⟨h1,h2,h3,by show(madeTo n l i).1.vars≤_;omega⟩
structure MadeC (c:Ci):Prop where
 ok:c.ok
 right:c.right=true
 inp:0≤c.inputs∧c.inputs≤3
 lats:1≤c.latches.length∧c.latches.length≤3
 ands:c.ands.length≤8
 outs:c.outs.length≤2
 bads:c.bads.length≤1
 cons:c.cons.length≤1
 fair:c.fair.length≤1
 names:∃(b1 b2:Bool) (t:ByteArray),c.names=(if b1 then[⟨108,0,⟨#[113]⟩⟩]else[])++(if b2 then[⟨111,c.outs.length - 1,t⟩]else[])∧(b2=true→0<c.outs.length∧(t=⟨#[111,117,116]⟩∨t=⟨#[108,49]⟩∨t=⟨#[97,45,98]⟩))
section
set_option maxRecDepth 100000
def c79:Code:=(Tryz.f79.body).getD .skip
def r79:List ResultVar:=Tryz.f79.results.toList
def env79_0(y1 y4 y6 y7 y8:AV):List AV:=[y1,y4,y6,y7,y8]
def lv79_0:List Nat:=[1,4,6,7,8]
def ms79:List (List Nat):=[lv79_0,[]]
def m79(x0 x1:AV)(S:Store)(Q:PoT):Prop:=
 boxN 82 2 (.a [.v (.int .i64 0),.nl]) S fun c S=>bld [(0,1),(1,1)] [.v (.int .i64 0),.nl] [(0,x0)] S fun d S=>boxN 82 2 (.a [.v (.int .i64 0),.nl]) S fun e S=>stN 2 e d S fun f S=>loopV lv79_0 (vc Pg (c79.at_ [1,1,1,0,1,0,0]) (ms79.drop 1)) 68 (env79_0 x1 c e (.v (.int .i64 1)) (.v (.int .i64 0))) S (blockK 0 (seqK (vc Pg (c79.at_ [1,1,1,1]) (ms79.drop 1)) (bodyK Pg r79 Q)))
theorem calls79{x0 x1:AV}{S:Store}{Q:PoT}(h:m79 x0 x1 S Q):ACalls Pg 79 [x0,x1] S Q:=
 calls_of_vc (fn:=Tryz.f79) (c:=c79) (n:=68) Tryz.func79 (by kernel_rfl) (by kernel_rfl) (by kernel_rfl) ms79 (Eq.mpr (by kernel_rfl) h)
def b79_0(y1 y4 y6 y7 y8:AV)(S:Store)(KE0:KeT)(Q:PoT):Prop:=
 lenS y1 S fun c S=>bin .lss 0 y8 c S fun d S=>onB d fun b=>gd b (bin .lss 0 y8 (.v (.int .i64 40)) S fun e S=>onB e fun b=>gd b (ldN 2 y6 S fun f S=>callF Pg 40 [f] S Q fun g S=>bin .mul 0 (.v (.int .i64 2)) g S fun h S=>(fun S0:Store=>∃ i:AV,(ixS 126 1 y1 y8 S fun k S=>k=i∧S=S0)∧∃ l:AV,(ld1 i S fun m S=>m=l∧S=S0)∧∃ n:AV,(convI .i64 l S fun o S=>o=n∧S=S0)∧∃ p:AV,(bin .rem 0 n h S fun q S=>q=p∧S=S0)∧∃ r:AV,(ixS 126 1 y1 y8 S fun s S=>s=r∧S=S0)∧∃ u:AV,(ld1 r S fun w S=>w=u∧S=S0)∧∃ x:AV,(convI .i64 u S fun y S=>y=x∧S=S0)∧∃ z:AV,(bin .quo 0 x h S fun A S=>A=z∧S=S0)∧∃ B:AV,(bin .rem 0 z h S fun C S=>C=B∧S=S0)∧ldN 2 y6 S fun D S=>callF Pg 120 [D,p,B] S Q fun E S=>extr E 0 S fun F S=>extr E 1 S fun G S=>extr E 2 S fun H S=>boxN 82 2 (.a [.v (.int .i64 0),.nl]) S fun I S=>stN 2 I F S fun J S=>bin .eql 0 H (.v (.int .i64 0)) S fun K S=>onB K fun b=>gd b (∃ L:AV,(∀ T:Store,Keep S T→ldN 2 I T fun M S=>M=L∧S=T)∧∃ N:AV,(∀ T:Store,Keep S T→ixS 126 1 y1 y8 T fun O S=>O=N∧S=T)∧∃ P:AV,(∀ T:Store,Keep S T→ld1 N T fun R S=>R=P∧S=T)∧∃ U:AV,(∀ T:Store,Keep S T→convI .i64 P T fun V S=>V=U∧S=T)∧∃ W:AV,(∀ T:Store,Keep S T→bin .quo 0 U (.v (.int .i64 7)) T fun X S=>X=W∧S=T)∧∃ Y:AV,(∀ T:Store,Keep S T→bin .rem 0 W (.v (.int .i64 2)) T fun Z S=>Z=Y∧S=T)∧∃ a0:AV,(∀ T:Store,Keep S T→bin .xor 0 G Y T fun a1 S=>a1=a0∧S=T)∧stN 2 y6 L S fun a2 S=>(∀ T:Store,Keep S T→bin .xor 0 G Y T fun a3 S=>a3=a0∧S=T)∧(∀ T:Store,Keep S T→bin .rem 0 W (.v (.int .i64 2)) T fun a4 S=>a4=Y∧S=T)∧(∀ T:Store,Keep S T→bin .quo 0 U (.v (.int .i64 7)) T fun a5 S=>a5=W∧S=T)∧(∀ T:Store,Keep S T→convI .i64 P T fun a6 S=>a6=U∧S=T)∧(∀ T:Store,Keep S T→ld1 N T fun a7 S=>a7=P∧S=T)∧(∀ T:Store,Keep S T→ixS 126 1 y1 y8 T fun a8 S=>a8=N∧S=T)∧bin .add 0 y8 (.v (.int .i64 1)) S fun a9 S=>KE0 68 (env79_0 y1 y4 y6 a0 a9) S) (bin .add 0 y8 (.v (.int .i64 1)) S fun b0 S=>KE0 68 (env79_0 y1 y4 y6 y7 b0) S)) S) (ldN 2 y6 S fun b1 S=>stN 2 y4 b1 S fun b2 S=>ldN 2 y4 S fun b3 _=>Q (.ret (.t [b3,y7])) S)) (ldN 2 y6 S fun b4 S=>stN 2 y4 b4 S fun b5 S=>ldN 2 y4 S fun b6 _=>Q (.ret (.t [b6,y7])) S)
theorem b79_0_eq(y1 y4 y6 y7 y8:AV)(S:Store)(KE0:KeT)(Q:PoT):vc Pg (c79.at_ [1,1,1,0,1,0,0]) (ms79.drop 1) (mkE 68 lv79_0 (env79_0 y1 y4 y6 y7 y8)) S (thenK (fgK lv79_0 KE0) (blockK 0 (seqK (vc Pg (c79.at_ [1,1,1,1]) (ms79.drop 1)) (bodyK Pg r79 Q))))=b79_0 y1 y4 y6 y7 y8 S KE0 Q:=by kernel_rfl
theorem loop79_0{y1 y4 y6:AV}{y70 y80:AV}{S:Store}{Q:PoT}(I:AV→AV→Store→Prop)(μ:AV→AV→Store→Nat)(h0:I y70 y80 S)
    (hr:∀(y7 y8:AV) (S:Store),I y7 y8 S→∀ KE0:KeT,(∀(y7' y8':AV) (S':Store),I y7' y8' S'→μ y7' y8' S'<μ y7 y8 S→KE0 68 (env79_0 y1 y4 y6 y7' y8') S')→b79_0 y1 y4 y6 y7 y8 S KE0 Q):
    loopV lv79_0 (vc Pg (c79.at_ [1,1,1,0,1,0,0]) (ms79.drop 1)) 68 (env79_0 y1 y4 y6 y70 y80) S (blockK 0 (seqK (vc Pg (c79.at_ [1,1,1,1]) (ms79.drop 1)) (bodyK Pg r79 Q))):=by
 refine⟨fun n e S=>n=68∧∃ y7 y8:AV,e=(env79_0 y1 y4 y6 y7 y8)∧I y7 y8 S,fun _ e S=>μ (e.getD 3 .j) (e.getD 4 .j) S,?_,?_⟩
 ·exact⟨_,_,Wk.refl _ _,rfl,_,_,rfl,h0⟩
 ·rintro _ e S ⟨rfl,y7,y8,rfl,hI⟩
  exact(b79_0_eq _ _ _ _ _ _ _ _).mpr (hr y7 y8 S hI _ (fun y7' y8' S' hI' hm=>⟨_,_,Wk.refl _ _,⟨rfl,_,_,rfl,hI'⟩,hm⟩))
end
theorem frz_none(S:Store):S.frz (fun _=>false)=S:=by
 cases S with
 |mk n obj =>
  unfold Store.frz
  congr 1
  funext i
  cases h:obj i with
  |none=>simp[h]
  |some o=>simp[h,frz_id]
theorem ansAt_cv{P:Program}{f:FuncId}{args args2:List AV}{S:Store}{r:AV}(hl:args.length=args2.length)(hcv:∀(k:Nat) (u u2:AV),args[k]? = some u→args2[k]? = some u2→Cv S S.n u u2)(h:AnsAt P f args2 S r):AnsAt P f args S r:=by
 refine ACalls.frz (fun _=>false) hl ?_ ?_
 ·rw[frz_none];exact hcv
 ·rw[frz_none];exact h
theorem at79{n:Int}(h0:0≤n)(hn:n≤1000){l:List Int}(hl:∀ x∈l,0≤x∧x<65536)(hlen:l.length≤1000000){S:Store}{x1:AV}(hx1:∀(T:Store) (K:AV→Store→Prop),lenS x1 T K=K (aI l.length) T)
    {P:Nat→AV} (hP:∀ T,Keep S T→∀ i (h:i<l.length),(∀ K:AV→Store→Prop,ixS 126 1 x1 (aI i) T K=K (P i) T)∧∀ K:AV→Store→Prop,ld1 (P i) T K=K (aW16 l[i]) T):
    AnsAt Pg 79 [aI n,x1] S (.t [(madeTo n l (min l.length 40)).1.av,aI (madeTo n l (min l.length 40)).2]):=by
 refine ACalls.tree (calls79 ?_)
 unfold m79
 have hok:=madeTo_ok (n:=n) ⟨by omega,by omega⟩ hl h0
 have hin:=madeTo_inp n l
 refine boxA_of rfl fun S1 k1 n1 o1=>?_
 rw[bld_of (cs:=[aI n,.nl]) rfl]
 refine boxA_of rfl fun S2 k2 n2 o2=>?_
 refine stA_of o2 rfl rfl fun S3 n3 o3 f3=>?_
 have k3:Keep S S3:=(k1.trans k2).st (by omega) n3 f3
 refine loop79_0 (fun y w S'=>Keep S S'∧S3.n≤S'.n∧S'.obj S.n=some (.cells 82 [[aI 0,.nl]] true)∧∃ i:Nat,w=aI i∧i≤min l.length 40∧y=aI (madeTo n l i).2∧
     (((madeTo n l i).1=⟨n,[]⟩∧S'.obj S1.n=some (.cells 82 [[aI n,.nl]] true))∨S'.obj S1.n=some (.cells 82 [(madeTo n l i).1.cells] true)))
  (fun _ w _=>40 - ((intA w).getD 0).toNat) ⟨k3,Nat.le_refl _,(f3 _ (by omega)).trans ((k2.2 _ (by omega)).trans o1),0,rfl,Nat.zero_le _,rfl,.inl ⟨rfl,o3⟩⟩ ?_
 rintro _ _ S4 ⟨k4,n4,p4,i,rfl,hi,rfl,hg⟩ KE hKE
 have hk3:=k3.1
 obtain⟨cs,hcs,hcl,hcv⟩:∃ cs,S4.obj S1.n=some (.cells 82 [cs] true)∧cs.length=2∧∀(T:Store) (m:Nat),Cv T m (.a cs) (madeTo n l i).1.av:=by
  rcases hg with⟨e,h⟩|h
  ·exact⟨_,h,rfl,fun T m=>by rw[e];exact cv_a2 (.v _) .nl⟩
  ·exact⟨_,h,rfl,fun T m=>Gr.tree _ _ _⟩
 have hgi:=hin i
 have hgo:=hok i
 have hlen2:=hgo.len
 have fin:i=min l.length 40→ldN 2 (.p S1.n 0 0) S4 fun v S5=>stN 2 (.p S.n 0 0) v S5 fun _ S5=>ldN 2 (.p S.n 0 0) S5 fun v S6=>∃ r,AEnd.ret (.t [v,aI (madeTo n l i).2]) = .ret r∧Keep S S6∧Cv (S6.frz (newer S.n)) S.n r (.t [(madeTo n l (min l.length 40)).1.av,aI (madeTo n l (min l.length 40)).2]):=fun e=>by
  rw[ldN_p (n:=2) hcs hcl]
  refine stA_of p4 hcl rfl fun S5 n5 o5 f5=>?_
  rw[ldN_p (n:=2) o5 hcl]
  exact⟨_,rfl,k4.st (Nat.le_refl _) n5 f5,by rw[←e];exact cv_t2 (hcv _ _) (.v _)⟩
 unfold b79_0
 rw[hx1,bin_lss,onB_v]
 refine gd_of (fun hlt=>?_) (fun hge=>fin (by have:=dF hge;omega))
 rw[bin_lss,onB_v]
 refine gd_of (fun h40=>?_) (fun hge=>fin (by have:¬ ((i:Int)<40):=dF hge;omega))
 have hlt:i<l.length:=by have:=dT hlt;omega
 have h40:i<40:=by have:((i:Int)<40):=dT h40;omega
 obtain⟨hP1,hP2⟩:=hP S4 k4 i hlt
 have hx:=hl _ (List.getElem_mem hlt)
 have hgd:l.getD i 0=l[i]:=by simp[List.getD_eq_getElem?_getD,hlt]
 have hv:0<2*(madeTo n l i).1.vars:=by unfold Gr.vars;omega
 have hv2:(madeTo n l i).1.vars≤1002000:=by unfold Gr.vars;omega
 have hd:0≤l[i].tdiv (2*(madeTo n l i).1.vars)∧l[i].tdiv (2*(madeTo n l i).1.vars)≤65536:=by
  rw[Int.tdiv_eq_ediv_of_nonneg hx.1]
  have h1:=Int.ediv_nonneg hx.1 (show 0≤2*(madeTo n l i).1.vars by omega)
  have h2:=Int.ediv_le_self (2*(madeTo n l i).1.vars) hx.1
  omega
 have ha:=rem_small hx.1 (by omega) hv
 have hb:=rem_small hd.1 hd.2 hv
 have cv1:∀(T:Store) (k:Nat) (u u2:AV),[AV.a cs][k]? = some u→[(madeTo n l i).1.av][k]? = some u2→Cv T T.n u u2:=fun T k u u2 hu hu2=>by
  match k with
  |0=>cases hu;cases hu2;exact hcv _ _
  |k+1=>simp at hu
 rw[ldN_p (n:=2) hcs hcl]
 have hva:AnsAt Pg 40 [.a cs] S4 (aI (madeTo n l i).1.vars):=ansAt_cv (args2:=[(madeTo n l i).1.av]) rfl (cv1 S4) (ans40 hgo (by omega) (by omega) S4)
 refine callF_at hva ?_
 rw[bin_mul (by omega) (by omega)]
 show ∃ q13:AV,_
 refine⟨_,by rw[hP1];exact⟨rfl,rfl⟩,?_⟩
 refine⟨_,by rw[hP2];exact⟨rfl,rfl⟩,?_⟩
 refine⟨aI l[i],by rw[convI_64 _ (by omega) (by omega)];exact⟨rfl,rfl⟩,?_⟩
 refine⟨aI (l[i].tmod (2*(madeTo n l i).1.vars)),by rw[bin_rem (by omega)];exact⟨rfl,rfl⟩,?_⟩
 refine⟨_,by rw[hP1];exact⟨rfl,rfl⟩,?_⟩
 refine⟨_,by rw[hP2];exact⟨rfl,rfl⟩,?_⟩
 refine⟨aI l[i],by rw[convI_64 _ (by omega) (by omega)];exact⟨rfl,rfl⟩,?_⟩
 refine⟨aI (l[i].tdiv (2*(madeTo n l i).1.vars)),by rw[bin_quo (by omega) (by omega) (by omega)];exact⟨rfl,rfl⟩,?_⟩
 refine⟨aI ((l[i].tdiv (2*(madeTo n l i).1.vars)).tmod (2*(madeTo n l i).1.vars)),by rw[bin_rem (by omega)];exact⟨rfl,rfl⟩,?_⟩
 have hand:AnsAt Pg 120 [.a cs,aI (l[i].tmod (2*(madeTo n l i).1.vars)),aI ((l[i].tdiv (2*(madeTo n l i).1.vars)).tmod (2*(madeTo n l i).1.vars))] S4 (andAV ((madeTo n l i).1.and (l[i].tmod (2*(madeTo n l i).1.vars)) ((l[i].tdiv (2*(madeTo n l i).1.vars)).tmod (2*(madeTo n l i).1.vars)))):=
  ansAt_cv (args2:=[(madeTo n l i).1.av,aI (l[i].tmod (2*(madeTo n l i).1.vars)),aI ((l[i].tdiv (2*(madeTo n l i).1.vars)).tmod (2*(madeTo n l i).1.vars))]) rfl (fun k u u2 hu hu2=>by
   match k with
   |0=>cases hu;cases hu2;exact hcv _ _
   |1|2=>cases hu;cases hu2;exact .v _
   |k+3=>simp at hu) (ans120 hgo ⟨by omega,by omega⟩ ⟨by omega,by omega⟩ S4)
 rw[ldN_p (n:=2) hcs hcl]
 refine callF_at hand ?_
 have hs:madeTo n l (i+1)=madeS (madeTo n l i).1 (madeTo n l i).2 l[i]:=by rw[madeTo,hgd]
 simp only[madeS]at hs
 generalize(madeTo n l i).1.and (l[i].tmod (2*(madeTo n l i).1.vars)) ((l[i].tdiv (2*(madeTo n l i).1.vars)).tmod (2*(madeTo n l i).1.vars))=r at *
 unfold andAV
 rw[extr0,extr1,extr2]
 refine boxA_of rfl fun S5 k5 n5 o5=>?_
 refine stA_of o5 rfl rfl fun S6 n6 o6 f6=>?_
 have k6:Keep S4 S6:=k5.st (Nat.le_refl _) n6 f6
 have p6:=(k6.2 _ (by omega)).trans p4
 have c6:=(k6.2 S1.n (by omega)).trans hcs
 have hadd:∀ K:AV→Store→Prop,∀ S,bin .add 0 (.v (.int .i64 (i:Int))) (.v (.int .i64 1)) S K=K (aI (i+1:Nat)) S:=fun K S=>bin_add (by omega) (by omega) 0
 have hμ:40 - ((intA (aI (i+1:Nat))).getD 0).toNat<40 - ((intA (aI i)).getD 0).toNat:=by simp[intA];omega
 rw[bin_eql,onB_v]
 refine gd_of (fun h=>?_) (fun h=>?_)
 ·have h:r.2.2=0:=dT h
  simp only[h,if_true]at hs
  have qq:0≤l[i].tdiv 7∧l[i].tdiv 7≤65536:=by
   rw[Int.tdiv_eq_ediv_of_nonneg hx.1];omega
  have e1:∀(T:Store) (K:AV→Store→Prop),convI .i64 (aW16 l[i]) T K=K (aI l[i]) T:=fun T K=>convI_64 _ (by omega) (by omega)
  have e2:∀(T:Store) (K:AV→Store→Prop),bin .quo 0 (aI l[i]) (.v (.int .i64 7)) T K=K (aI (l[i].tdiv 7)) T:=fun T K=>bin_quo (by decide) (by omega) (by omega) 0
  have e3:∀(T:Store) (K:AV→Store→Prop),bin .rem 0 (aI (l[i].tdiv 7)) (.v (.int .i64 2)) T K=K (aI ((l[i].tdiv 7).tmod 2)) T:=fun T K=>bin_rem (by decide) _ 0
  have pT:∀{T:Store},Keep S T→_:=fun{T} hT=>hP T hT i hlt
  refine⟨.a r.1.cells,fun T hT=>by rw[ldN_p (n:=2) ((hT.2 _ (by omega)).trans o6) rfl];exact⟨rfl,rfl⟩,P i,fun T hT=>by rw[(pT ((k4.trans k6).trans hT)).1];exact⟨rfl,rfl⟩,_,fun T hT=>by rw[(pT ((k4.trans k6).trans hT)).2];exact⟨rfl,rfl⟩,_,fun T hT=>by rw[e1];exact⟨rfl,rfl⟩,_,fun T hT=>by rw[e2];exact⟨rfl,rfl⟩,_,fun T hT=>by rw[e3];exact⟨rfl,rfl⟩,_,fun T hT=>by rw[bin_xor];exact⟨rfl,rfl⟩,?_⟩
  refine stA_of c6 rfl hcl fun S7 n7 o7 f7=>?_
  have k7:Keep S S7:=(k4.trans k6).st (by omega) n7 f7
  refine⟨fun T hT=>by rw[bin_xor];exact⟨rfl,rfl⟩,fun T hT=>by rw[e3];exact⟨rfl,rfl⟩,fun T hT=>by rw[e2];exact⟨rfl,rfl⟩,fun T hT=>by rw[e1];exact⟨rfl,rfl⟩,fun T hT=>by rw[(pT (k7.trans hT)).2];exact⟨rfl,rfl⟩,fun T hT=>by rw[(pT (k7.trans hT)).1];exact⟨rfl,rfl⟩,?_⟩
  rw[hadd]
  exact hKE _ _ _ ⟨k7,by have:=k6.1;omega,(f7 _ (by omega)).trans p6,i+1,rfl,by omega,by rw[hs],.inr (by rw[hs];exact o7)⟩ hμ
 ·have h:¬ r.2.2=0:=dF h
  simp only[h,if_false]at hs
  rw[hadd]
  refine hKE _ _ _ ⟨k4.trans k6,by have:=k6.1;omega,p6,i+1,rfl,by omega,by rw[hs],?_⟩ hμ
  rcases hg with⟨e,h'⟩|h'
  ·exact .inl ⟨by rw[hs];exact e,(k6.2 S1.n (by omega)).trans h'⟩
  ·exact .inr (by rw[hs];exact(k6.2 S1.n (by omega)).trans h')
section
set_option maxRecDepth 100000
def c35:Code:=(Tryz.f35.body).getD .skip
def r35:List ResultVar:=Tryz.f35.results.toList
def env35_0(y1 y2 y4 y5 y6:AV):List AV:=[y1,y2,y4,y5,y6]
def lv35_0:List Nat:=[1,2,4,5,6]
def env35_1(y1 y2 y4 y5 y8:AV):List AV:=[y1,y2,y4,y5,y8]
def lv35_1:List Nat:=[1,2,4,5,8]
def env35_2(y1 y2 y4 y5 y8 y9 y10:AV):List AV:=[y1,y2,y4,y5,y8,y9,y10]
def lv35_2:List Nat:=[1,2,4,5,8,9,10]
def env35_3(y1 y2 y4 y5 y11:AV):List AV:=[y1,y2,y4,y5,y11]
def lv35_3:List Nat:=[1,2,4,5,11]
def env35_4(y1 y2 y4 y5 y11 y12 y13 y14:AV):List AV:=[y1,y2,y4,y5,y11,y12,y13,y14]
def lv35_4:List Nat:=[1,2,4,5,11,12,13,14]
def ms35:List (List Nat):=[lv35_0,lv35_1,lv35_2,lv35_3,lv35_4,[]]
def m35(x0:AV)(S:Store)(Q:PoT):Prop:=
 boxN 42 8 x0 S fun c S=>boxN 71 5 (.a [.v (.int .i64 0),.nl,.nl,.nl,.nl]) S fun d S=>ldN 8 c S fun e S=>callF Pg 65 [e] S Q fun f S=>un .not f S fun g S=>onB g fun b=>gd b (bld [(0,1),(1,1),(2,1),(3,1),(4,1)] [.v (.int .i64 0),.nl,.nl,.nl,.nl] [] S fun h S=>stN 5 d h S fun i S=>ldN 5 d S fun k _=>Q (.ret (.t [k,.v (.int .i64 1)])) S) (shift c 0 S fun l S=>ld1 l S fun m S=>shift c 1 S fun n S=>ld1 n S fun o S=>lenS o S fun p S=>bin .add 0 m p S fun q S=>bin .gtr 0 q (.v (.int .i64 10)) S fun r S=>onB r fun b=>gd b (bld [(0,1),(1,1),(2,1),(3,1),(4,1)] [.v (.int .i64 0),.nl,.nl,.nl,.nl] [] S fun s S=>stN 5 d s S fun u S=>ldN 5 d S fun w _=>Q (.ret (.t [w,.v (.int .i64 2)])) S) (bld [(0,1),(1,1),(2,1),(3,1),(4,1)] [.v (.int .i64 0),.nl,.nl,.nl,.nl] [(0,q)] S fun x S=>boxN 71 5 (.a [.v (.int .i64 0),.nl,.nl,.nl,.nl]) S fun y S=>stN 5 y x S fun z S=>loopV lv35_0 (vc Pg (c35.at_ [1,1,1,1,1,0,1,0,0]) (ms35.drop 1)) 138 (env35_0 c d q y (.v (.int .i64 0))) S (blockK 0 (seqK (vc Pg (c35.at_ [1,1,1,1,1,1]) (ms35.drop 1)) (bodyK Pg r35 Q)))))
theorem calls35{x0:AV}{S:Store}{Q:PoT}(h:m35 x0 S Q):ACalls Pg 35 [x0] S Q:=
 calls_of_vc (fn:=Tryz.f35) (c:=c35) (n:=138) Tryz.func35 (by kernel_rfl) (by kernel_rfl) (by kernel_rfl) ms35 (Eq.mpr (by kernel_rfl) h)
def b35_0(y1 y2 y4 y5 y6:AV)(S:Store)(KE0:KeT)(Q:PoT):Prop:=
 bin .shl 0 (.v (.int .i64 1)) y4 S fun a S=>bin .lss 0 y6 a S fun c S=>onB c fun b=>gd b (ldN 8 y1 S fun d S=>shift y1 5 S fun e S=>ld1 e S fun f S=>callF Pg 66 [d,y6,f] S Q fun g S=>shift y5 1 S fun h S=>ld1 h S fun i S=>bslN 4 1 1 [.v (.bool false)] [(0,g)] S fun k S=>appS 4 1 1 i k S fun l S=>shift y5 1 S fun m S=>stN 1 m l S fun n S=>∃ o:AV,(∀ T:Store,Keep S T→shift y5 2 T fun p S=>p=o∧S=T)∧∃ q:AV,(∀ T:Store,Keep S T→ld1 o T fun r S=>r=q∧S=T)∧onB g fun b=>gd b (∃ s:AV,(∀ T:Store,Keep S T→ldN 8 y1 T fun t S=>t=s∧S=T)∧∃ u:AV,(∀ T:Store,Keep S T→callF Pg 67 [s,y6] T (fun _ _=>False) fun w S=>w=u∧S=T)∧∃ x:AV,(∀ T:Store,Keep S T→u=x∧T=T)∧∃ y:AV,(∀ T:Store,Keep S T→bslN 4 1 1 [.v (.bool false)] [(0,x)] T fun z S=>z=y∧S=T)∧appS 4 1 1 q y S fun A S=>∃ B:AV,(∀ T:Store,Keep S T→shift y5 2 T fun C S=>C=B∧S=T)∧stN 1 B A S fun D S=>bin .add 0 y6 (.v (.int .i64 1)) S fun E S=>KE0 138 (env35_0 y1 y2 y4 y5 E) S) (∃ F:AV,(∀ T:Store,Keep S T→(.v (.bool false))=F∧T=T)∧∃ G:AV,(∀ T:Store,Keep S T→bslN 4 1 1 [.v (.bool false)] [(0,F)] T fun H S=>H=G∧S=T)∧appS 4 1 1 q G S fun I S=>∃ J:AV,(∀ T:Store,Keep S T→shift y5 2 T fun K S=>K=J∧S=T)∧stN 1 J I S fun L S=>bin .add 0 y6 (.v (.int .i64 1)) S fun M S=>KE0 138 (env35_0 y1 y2 y4 y5 M) S)) (loopV lv35_1 (vc Pg (c35.at_ [1,1,1,1,1,1,0,1,0,0]) (ms35.drop 2)) 138 (env35_1 y1 y2 y4 y5 (.v (.int .i64 0))) S (blockK 2 (seqK (vc Pg (c35.at_ [1,1,1,1,1,1,1]) (ms35.drop 3)) (bodyK Pg r35 Q))))
theorem b35_0_eq(y1 y2 y4 y5 y6:AV)(S:Store)(KE0:KeT)(Q:PoT):vc Pg (c35.at_ [1,1,1,1,1,0,1,0,0]) (ms35.drop 1) (mkE 138 lv35_0 (env35_0 y1 y2 y4 y5 y6)) S (thenK (fgK lv35_0 KE0) (blockK 0 (seqK (vc Pg (c35.at_ [1,1,1,1,1,1]) (ms35.drop 1)) (bodyK Pg r35 Q))))=b35_0 y1 y2 y4 y5 y6 S KE0 Q:=by kernel_rfl
theorem loop35_0{y1 y2 y4 y5:AV}{y60:AV}{S:Store}{Q:PoT}(I:AV→Store→Prop)(μ:AV→Store→Nat)(h0:I y60 S)
    (hr:∀(y6:AV) (S:Store),I y6 S→∀ KE0:KeT,(∀(y6':AV) (S':Store),I y6' S'→μ y6' S'<μ y6 S→KE0 138 (env35_0 y1 y2 y4 y5 y6') S')→b35_0 y1 y2 y4 y5 y6 S KE0 Q):
    loopV lv35_0 (vc Pg (c35.at_ [1,1,1,1,1,0,1,0,0]) (ms35.drop 1)) 138 (env35_0 y1 y2 y4 y5 y60) S (blockK 0 (seqK (vc Pg (c35.at_ [1,1,1,1,1,1]) (ms35.drop 1)) (bodyK Pg r35 Q))):=by
 refine⟨fun n e S=>n=138∧∃ y6:AV,e=(env35_0 y1 y2 y4 y5 y6)∧I y6 S,fun _ e S=>μ (e.getD 4 .j) S,?_,?_⟩
 ·exact⟨_,_,Wk.refl _ _,rfl,_,rfl,h0⟩
 ·rintro _ e S ⟨rfl,y6,rfl,hI⟩
  exact(b35_0_eq _ _ _ _ _ _ _ _).mpr (hr y6 S hI _ (fun y6' S' hI' hm=>⟨_,_,Wk.refl _ _,⟨rfl,_,rfl,hI'⟩,hm⟩))
def b35_1(y1 y2 y4 y5 y8:AV)(S:Store)(KE1:KeT)(Q:PoT):Prop:=
 shift y1 6 S fun a S=>ld1 a S fun c S=>lenS c S fun d S=>bin .lss 0 y8 d S fun e S=>onB e fun b=>gd b (loopV lv35_2 (vc Pg (c35.at_ [1,1,1,1,1,1,0,1,0,0,1,0,0,1,0,1,0,0]) (ms35.drop 3)) 138 (env35_2 y1 y2 y4 y5 y8 .nl (.v (.int .i64 0))) S (blockK 4 (seqK (vc Pg (c35.at_ [1,1,1,1,1,1,0,1,0,0,1,0,0,1,1]) (ms35.drop 3)) (blockK 3 (seqK (vc Pg (c35.at_ [1,1,1,1,1,1,0,1,0,0,1,1]) (ms35.drop 3)) (thenK (fgK lv35_1 KE1) (blockK 2 (seqK (vc Pg (c35.at_ [1,1,1,1,1,1,1]) (ms35.drop 3)) (bodyK Pg r35 Q))))))))) (loopV lv35_3 (vc Pg (c35.at_ [1,1,1,1,1,1,1,0,1,0,0]) (ms35.drop 4)) 138 (env35_3 y1 y2 y4 y5 (.v (.int .i64 0))) S (blockK 6 (seqK (vc Pg (c35.at_ [1,1,1,1,1,1,1,1]) (ms35.drop 5)) (bodyK Pg r35 Q))))
theorem b35_1_eq(y1 y2 y4 y5 y8:AV)(S:Store)(KE1:KeT)(Q:PoT):vc Pg (c35.at_ [1,1,1,1,1,1,0,1,0,0]) (ms35.drop 2) (mkE 138 lv35_1 (env35_1 y1 y2 y4 y5 y8)) S (thenK (fgK lv35_1 KE1) (blockK 2 (seqK (vc Pg (c35.at_ [1,1,1,1,1,1,1]) (ms35.drop 3)) (bodyK Pg r35 Q))))=b35_1 y1 y2 y4 y5 y8 S KE1 Q:=by kernel_rfl
theorem loopw35_1{y1 y2 y4 y5 y8:AV}{S:Store}{Q:PoT}(I:AV→AV→AV→AV→AV→Store→Prop)(μ:AV→AV→AV→AV→AV→Store→Nat)(h0:∃(y1' y2' y4' y5' y8':AV) (S':Store),Wk S (env35_1 y1 y2 y4 y5 y8) S' (env35_1 y1' y2' y4' y5' y8')∧I y1' y2' y4' y5' y8' S')
    (hr:∀(y1 y2 y4 y5 y8:AV) (S:Store),I y1 y2 y4 y5 y8 S→∀ KE1:KeT,(∀(y1' y2' y4' y5' y8':AV) (S':Store) (y1'' y2'' y4'' y5'' y8'':AV) (S'':Store),Wk S' (env35_1 y1' y2' y4' y5' y8') S'' (env35_1 y1'' y2'' y4'' y5'' y8'')→I y1'' y2'' y4'' y5'' y8'' S''→μ y1'' y2'' y4'' y5'' y8'' S''<μ y1 y2 y4 y5 y8 S→KE1 138 (env35_1 y1' y2' y4' y5' y8') S')→b35_1 y1 y2 y4 y5 y8 S KE1 Q):
    loopV lv35_1 (vc Pg (c35.at_ [1,1,1,1,1,1,0,1,0,0]) (ms35.drop 2)) 138 (env35_1 y1 y2 y4 y5 y8) S (blockK 2 (seqK (vc Pg (c35.at_ [1,1,1,1,1,1,1]) (ms35.drop 3)) (bodyK Pg r35 Q))):=by
 obtain⟨y1',y2',y4',y5',y8',S0,hw0,h0⟩:=h0
 refine⟨fun n e S=>n=138∧∃ y1 y2 y4 y5 y8:AV,e=(env35_1 y1 y2 y4 y5 y8)∧I y1 y2 y4 y5 y8 S,fun _ e S=>μ (e.getD 0 .j) (e.getD 1 .j) (e.getD 2 .j) (e.getD 3 .j) (e.getD 4 .j) S,?_,?_⟩
 ·exact⟨_,_,hw0,rfl,_,_,_,_,_,rfl,h0⟩
 ·rintro _ e S ⟨rfl,y1,y2,y4,y5,y8,rfl,hI⟩
  exact(b35_1_eq _ _ _ _ _ _ _ _).mpr (hr y1 y2 y4 y5 y8 S hI _ (fun y1' y2' y4' y5' y8' S' y1'' y2'' y4'' y5'' y8'' S'' hw hI' hm=>⟨_,_,hw,⟨rfl,_,_,_,_,_,rfl,hI'⟩,hm⟩))
def b35_2(y1 y2 y4 y5 y8 y9 y10:AV)(S:Store)(KE2:KeT)(KE1:KeT)(Q:PoT):Prop:=
 bin .shl 0 (.v (.int .i64 1)) y4 S fun a S=>bin .lss 0 y10 a S fun c S=>onB c fun b=>gd b (∃ d:AV,(∀ T:Store,Keep S T→shift y5 1 T fun e S=>e=d∧S=T)∧∃ f:AV,(∀ T:Store,Keep S T→ld1 d T fun g S=>g=f∧S=T)∧∃ h:AV,(∀ T:Store,Keep S T→ixS 4 1 f y10 T fun i S=>i=h∧S=T)∧∃ k:AV,(∀ T:Store,Keep S T→ld1 h T fun l S=>l=k∧S=T)∧onB k fun b=>gd b (∃ m:AV,(∀ T:Store,Keep S T→ldN 8 y1 T fun n S=>n=m∧S=T)∧∃ o:AV,(∀ T:Store,Keep S T→shift y1 6 T fun p S=>p=o∧S=T)∧∃ q:AV,(∀ T:Store,Keep S T→ld1 o T fun r S=>r=q∧S=T)∧∃ s:AV,(∀ T:Store,Keep S T→ixS 3 1 q y8 T fun t S=>t=s∧S=T)∧∃ u:AV,(∀ T:Store,Keep S T→ld1 s T fun w S=>w=u∧S=T)∧∃ x:AV,(∀ T:Store,Keep S T→callF Pg 68 [m,y10,u] T (fun _ _=>False) fun y S=>y=x∧S=T)∧∃ z:AV,(∀ T:Store,Keep S T→x=z∧T=T)∧∃ A:AV,(∀ T:Store,Keep S T→bslN 4 1 1 [.v (.bool false)] [(0,z)] T fun B S=>B=A∧S=T)∧appS 4 1 1 y9 A S fun C S=>bin .add 0 y10 (.v (.int .i64 1)) S fun D S=>KE2 138 (env35_2 y1 y2 y4 y5 y8 C D) S) (∃ E:AV,(∀ T:Store,Keep S T→(.v (.bool false))=E∧T=T)∧∃ F:AV,(∀ T:Store,Keep S T→bslN 4 1 1 [.v (.bool false)] [(0,E)] T fun G S=>G=F∧S=T)∧appS 4 1 1 y9 F S fun H S=>bin .add 0 y10 (.v (.int .i64 1)) S fun I S=>KE2 138 (env35_2 y1 y2 y4 y5 y8 H I) S)) (shift y5 4 S fun J S=>ld1 J S fun K S=>bslN 53 1 1 [.nl] [(0,y9)] S fun L S=>appS 53 1 24 K L S fun M S=>shift y5 4 S fun N S=>stN 1 N M S fun O S=>bin .add 0 y8 (.v (.int .i64 1)) S fun P S=>KE1 138 (env35_1 y1 y2 y4 y5 P) S)
theorem b35_2_eq(y1 y2 y4 y5 y8 y9 y10:AV)(S:Store)(KE2:KeT)(KE1:KeT)(Q:PoT):vc Pg (c35.at_ [1,1,1,1,1,1,0,1,0,0,1,0,0,1,0,1,0,0]) (ms35.drop 3) (mkE 138 lv35_2 (env35_2 y1 y2 y4 y5 y8 y9 y10)) S (thenK (fgK lv35_2 KE2) (blockK 4 (seqK (vc Pg (c35.at_ [1,1,1,1,1,1,0,1,0,0,1,0,0,1,1]) (ms35.drop 3)) (blockK 3 (seqK (vc Pg (c35.at_ [1,1,1,1,1,1,0,1,0,0,1,1]) (ms35.drop 3)) (thenK (fgK lv35_1 KE1) (blockK 2 (seqK (vc Pg (c35.at_ [1,1,1,1,1,1,1]) (ms35.drop 3)) (bodyK Pg r35 Q)))))))))=b35_2 y1 y2 y4 y5 y8 y9 y10 S KE2 KE1 Q:=by kernel_rfl
theorem loop35_2{y1 y2 y4 y5 y8:AV}{y90 y100:AV}{S:Store}{KE1:KeT}{Q:PoT}(I:AV→AV→Store→Prop)(μ:AV→AV→Store→Nat)(h0:I y90 y100 S)
    (hr:∀(y9 y10:AV) (S:Store),I y9 y10 S→∀ KE2:KeT,(∀(y9' y10':AV) (S':Store),I y9' y10' S'→μ y9' y10' S'<μ y9 y10 S→KE2 138 (env35_2 y1 y2 y4 y5 y8 y9' y10') S')→b35_2 y1 y2 y4 y5 y8 y9 y10 S KE2 KE1 Q):
    loopV lv35_2 (vc Pg (c35.at_ [1,1,1,1,1,1,0,1,0,0,1,0,0,1,0,1,0,0]) (ms35.drop 3)) 138 (env35_2 y1 y2 y4 y5 y8 y90 y100) S (blockK 4 (seqK (vc Pg (c35.at_ [1,1,1,1,1,1,0,1,0,0,1,0,0,1,1]) (ms35.drop 3)) (blockK 3 (seqK (vc Pg (c35.at_ [1,1,1,1,1,1,0,1,0,0,1,1]) (ms35.drop 3)) (thenK (fgK lv35_1 KE1) (blockK 2 (seqK (vc Pg (c35.at_ [1,1,1,1,1,1,1]) (ms35.drop 3)) (bodyK Pg r35 Q)))))))):=by
 refine⟨fun n e S=>n=138∧∃ y9 y10:AV,e=(env35_2 y1 y2 y4 y5 y8 y9 y10)∧I y9 y10 S,fun _ e S=>μ (e.getD 5 .j) (e.getD 6 .j) S,?_,?_⟩
 ·exact⟨_,_,Wk.refl _ _,rfl,_,_,rfl,h0⟩
 ·rintro _ e S ⟨rfl,y9,y10,rfl,hI⟩
  exact(b35_2_eq _ _ _ _ _ _ _ _ _ _ _).mpr (hr y9 y10 S hI _ (fun y9' y10' S' hI' hm=>⟨_,_,Wk.refl _ _,⟨rfl,_,_,rfl,hI'⟩,hm⟩))
def b35_3(y1 y2 y4 y5 y11:AV)(S:Store)(KE3:KeT)(Q:PoT):Prop:=
 bin .shl 0 (.v (.int .i64 1)) y4 S fun a S=>bin .lss 0 y11 a S fun c S=>onB c fun b=>gd b (ldN 8 y1 S fun d S=>callF Pg 59 [d,y11] S Q fun e S=>loopV lv35_4 (vc Pg (c35.at_ [1,1,1,1,1,1,1,0,1,0,0,1,0,0,1,1,0,1,0,0]) (ms35.drop 5)) 138 (env35_4 y1 y2 y4 y5 y11 .nl e (.v (.int .i64 0))) S (blockK 8 (seqK (vc Pg (c35.at_ [1,1,1,1,1,1,1,0,1,0,0,1,0,0,1,1,1]) (ms35.drop 5)) (blockK 7 (seqK (vc Pg (c35.at_ [1,1,1,1,1,1,1,0,1,0,0,1,1]) (ms35.drop 5)) (thenK (fgK lv35_3 KE3) (blockK 6 (seqK (vc Pg (c35.at_ [1,1,1,1,1,1,1,1]) (ms35.drop 5)) (bodyK Pg r35 Q))))))))) (ldN 5 y5 S fun f S=>stN 5 y2 f S fun g S=>ldN 5 y2 S fun h _=>Q (.ret (.t [h,.v (.int .i64 0)])) S)
theorem b35_3_eq(y1 y2 y4 y5 y11:AV)(S:Store)(KE3:KeT)(Q:PoT):vc Pg (c35.at_ [1,1,1,1,1,1,1,0,1,0,0]) (ms35.drop 4) (mkE 138 lv35_3 (env35_3 y1 y2 y4 y5 y11)) S (thenK (fgK lv35_3 KE3) (blockK 6 (seqK (vc Pg (c35.at_ [1,1,1,1,1,1,1,1]) (ms35.drop 5)) (bodyK Pg r35 Q))))=b35_3 y1 y2 y4 y5 y11 S KE3 Q:=by kernel_rfl
theorem loopw35_3{y1 y2 y4 y5 y11:AV}{S:Store}{Q:PoT}(I:AV→AV→AV→AV→AV→Store→Prop)(μ:AV→AV→AV→AV→AV→Store→Nat)(h0:∃(y1' y2' y4' y5' y11':AV) (S':Store),Wk S (env35_3 y1 y2 y4 y5 y11) S' (env35_3 y1' y2' y4' y5' y11')∧I y1' y2' y4' y5' y11' S')
    (hr:∀(y1 y2 y4 y5 y11:AV) (S:Store),I y1 y2 y4 y5 y11 S→∀ KE3:KeT,(∀(y1' y2' y4' y5' y11':AV) (S':Store) (y1'' y2'' y4'' y5'' y11'':AV) (S'':Store),Wk S' (env35_3 y1' y2' y4' y5' y11') S'' (env35_3 y1'' y2'' y4'' y5'' y11'')→I y1'' y2'' y4'' y5'' y11'' S''→μ y1'' y2'' y4'' y5'' y11'' S''<μ y1 y2 y4 y5 y11 S→KE3 138 (env35_3 y1' y2' y4' y5' y11') S')→b35_3 y1 y2 y4 y5 y11 S KE3 Q):
    loopV lv35_3 (vc Pg (c35.at_ [1,1,1,1,1,1,1,0,1,0,0]) (ms35.drop 4)) 138 (env35_3 y1 y2 y4 y5 y11) S (blockK 6 (seqK (vc Pg (c35.at_ [1,1,1,1,1,1,1,1]) (ms35.drop 5)) (bodyK Pg r35 Q))):=by
 obtain⟨y1',y2',y4',y5',y11',S0,hw0,h0⟩:=h0
 refine⟨fun n e S=>n=138∧∃ y1 y2 y4 y5 y11:AV,e=(env35_3 y1 y2 y4 y5 y11)∧I y1 y2 y4 y5 y11 S,fun _ e S=>μ (e.getD 0 .j) (e.getD 1 .j) (e.getD 2 .j) (e.getD 3 .j) (e.getD 4 .j) S,?_,?_⟩
 ·exact⟨_,_,hw0,rfl,_,_,_,_,_,rfl,h0⟩
 ·rintro _ e S ⟨rfl,y1,y2,y4,y5,y11,rfl,hI⟩
  exact(b35_3_eq _ _ _ _ _ _ _ _).mpr (hr y1 y2 y4 y5 y11 S hI _ (fun y1' y2' y4' y5' y11' S' y1'' y2'' y4'' y5'' y11'' S'' hw hI' hm=>⟨_,_,hw,⟨rfl,_,_,_,_,_,rfl,hI'⟩,hm⟩))
def b35_4(y1 y2 y4 y5 y11 y12 y13 y14:AV)(S:Store)(KE4:KeT)(KE3:KeT)(Q:PoT):Prop:=
 shift y1 0 S fun a S=>ld1 a S fun c S=>bin .shl 0 (.v (.int .i64 1)) c S fun d S=>bin .lss 0 y14 d S fun e S=>onB e fun b=>gd b (shift y5 1 S fun f S=>ld1 f S fun g S=>ixS 4 1 g y11 S fun h S=>ld1 h S fun i S=>onB i fun b=>gd b (shift y5 1 S fun k S=>ld1 k S fun l S=>bin .add 0 y13 y14 S fun m S=>ixS 4 1 l m S fun n S=>ld1 n S fun o S=>onB o fun b=>gd b (bin .add 0 y13 y14 S fun p S=>bslN 3 1 1 [.v (.int .i64 0)] [(0,p)] S fun q S=>appS 3 1 8 y12 q S fun r S=>bin .add 0 y14 (.v (.int .i64 1)) S fun s S=>KE4 138 (env35_4 y1 y2 y4 y5 y11 r y13 s) S) (bin .add 0 y14 (.v (.int .i64 1)) S fun t S=>KE4 138 (env35_4 y1 y2 y4 y5 y11 y12 y13 t) S)) (shift y5 3 S fun u S=>ld1 u S fun w S=>bslN 34 1 1 [.nl] [(0,y12)] S fun x S=>appS 34 1 24 w x S fun y S=>shift y5 3 S fun z S=>stN 1 z y S fun A S=>bin .add 0 y11 (.v (.int .i64 1)) S fun B S=>KE3 138 (env35_3 y1 y2 y4 y5 B) S)) (shift y5 3 S fun C S=>ld1 C S fun D S=>bslN 34 1 1 [.nl] [(0,y12)] S fun E S=>appS 34 1 24 D E S fun F S=>shift y5 3 S fun G S=>stN 1 G F S fun H S=>bin .add 0 y11 (.v (.int .i64 1)) S fun I S=>KE3 138 (env35_3 y1 y2 y4 y5 I) S)
theorem b35_4_eq(y1 y2 y4 y5 y11 y12 y13 y14:AV)(S:Store)(KE4:KeT)(KE3:KeT)(Q:PoT):vc Pg (c35.at_ [1,1,1,1,1,1,1,0,1,0,0,1,0,0,1,1,0,1,0,0]) (ms35.drop 5) (mkE 138 lv35_4 (env35_4 y1 y2 y4 y5 y11 y12 y13 y14)) S (thenK (fgK lv35_4 KE4) (blockK 8 (seqK (vc Pg (c35.at_ [1,1,1,1,1,1,1,0,1,0,0,1,0,0,1,1,1]) (ms35.drop 5)) (blockK 7 (seqK (vc Pg (c35.at_ [1,1,1,1,1,1,1,0,1,0,0,1,1]) (ms35.drop 5)) (thenK (fgK lv35_3 KE3) (blockK 6 (seqK (vc Pg (c35.at_ [1,1,1,1,1,1,1,1]) (ms35.drop 5)) (bodyK Pg r35 Q)))))))))=b35_4 y1 y2 y4 y5 y11 y12 y13 y14 S KE4 KE3 Q:=by kernel_rfl
theorem loop35_4{y1 y2 y4 y5 y11 y13:AV}{y120 y140:AV}{S:Store}{KE3:KeT}{Q:PoT}(I:AV→AV→Store→Prop)(μ:AV→AV→Store→Nat)(h0:I y120 y140 S)
    (hr:∀(y12 y14:AV) (S:Store),I y12 y14 S→∀ KE4:KeT,(∀(y12' y14':AV) (S':Store),I y12' y14' S'→μ y12' y14' S'<μ y12 y14 S→KE4 138 (env35_4 y1 y2 y4 y5 y11 y12' y13 y14') S')→b35_4 y1 y2 y4 y5 y11 y12 y13 y14 S KE4 KE3 Q):
    loopV lv35_4 (vc Pg (c35.at_ [1,1,1,1,1,1,1,0,1,0,0,1,0,0,1,1,0,1,0,0]) (ms35.drop 5)) 138 (env35_4 y1 y2 y4 y5 y11 y120 y13 y140) S (blockK 8 (seqK (vc Pg (c35.at_ [1,1,1,1,1,1,1,0,1,0,0,1,0,0,1,1,1]) (ms35.drop 5)) (blockK 7 (seqK (vc Pg (c35.at_ [1,1,1,1,1,1,1,0,1,0,0,1,1]) (ms35.drop 5)) (thenK (fgK lv35_3 KE3) (blockK 6 (seqK (vc Pg (c35.at_ [1,1,1,1,1,1,1,1]) (ms35.drop 5)) (bodyK Pg r35 Q)))))))):=by
 refine⟨fun n e S=>n=138∧∃ y12 y14:AV,e=(env35_4 y1 y2 y4 y5 y11 y12 y13 y14)∧I y12 y14 S,fun _ e S=>μ (e.getD 5 .j) (e.getD 7 .j) S,?_,?_⟩
 ·exact⟨_,_,Wk.refl _ _,rfl,_,_,rfl,h0⟩
 ·rintro _ e S ⟨rfl,y12,y14,rfl,hI⟩
  exact(b35_4_eq _ _ _ _ _ _ _ _ _ _ _ _).mpr (hr y12 y14 S hI _ (fun y12' y14' S' hI' hm=>⟨_,_,Wk.refl _ _,⟨rfl,_,_,rfl,hI'⟩,hm⟩))
end
structure Fv (c:Ci) (S S1 S2 S4 S':Store) (m:Nat) (zv zi:AV) (i:Nat):Prop where
 keep:Keep S S'
 n:S4.n≤S'.n
 cb:S'.obj S.n=some (.cells 42 [c.cells] true)
 ob:S'.obj S1.n=some (.cells 71 [[aI 0,.nl,.nl,.nl,.nl]] true)
 sb:S'.obj S2.n=some (.cells 71 [[aI m,zv,zi,.nl,.nl]] true)
 wv:Own S4.n S' zv 4 (((validOf c).take i).map fun b=>[aB b])
 wi:Own S4.n S' zi 4 (((spOf c).initial.take i).map fun b=>[aB b])
 ap:Apart zv zi
 ap':Apart zi zv
structure Ff (c:Ci) (S S1 S2 S4 S':Store) (sp:List AV) (z:AV) (e:Nat) (rows:List AV):Prop where
 keep:Keep S S'
 n:S4.n≤S'.n
 cb:S'.obj S.n=some (.cells 42 [c.cells] true)
 ob:S'.obj S1.n=some (.cells 71 [[aI 0,.nl,.nl,.nl,.nl]] true)
 sb:S'.obj S2.n=some (.cells 71 [sp] true)
 ow:Own S4.n S' z e (rows.map fun v=>[v])
theorem own_cvF{α:Type}{f:α→Value}{n:Nat}{S:Store}{x:AV}{e:Nat}{l:List α}{F:Nat→Bool}(h:Own n S x e (l.map fun a=>[.v (f a)]))(hF:∀ i b m,x = .s i b m→F i=true):Cv (S.frz F) S.n x (aL (fun a=>.v (f a)) l):=by
 rcases h with⟨rfl,h⟩|⟨id,rfl,h1,h2,h3⟩
 ·have:l = []:=List.map_eq_nil_iff.1 h
  subst this
  exact .nl
 ·refine .s id 0 _ e _ _ (by rw[frz_of h3,hF id _ _ rfl];rfl) (by simp) (by simp) (fun i c c2 hi hi2=>?_) (fun i c c2 k u u2 hi hi2 hk hk2=>?_)
  ·rw[Nat.zero_add]at hi;rw[hi]at hi2;cases hi2;rfl
  ·rw[Nat.zero_add]at hi;rw[hi]at hi2;cases hi2
   rw[hk]at hk2;cases hk2
   rw[List.getElem?_map]at hi
   obtain⟨a,_,rfl⟩:=Option.map_eq_some_iff.1 hi
   cases k with
   |zero=>cases hk;exact .v _
   |succ k=>simp at hk
theorem own_trees{α:Type}{f:α→AV}{n:Nat}{S:Store}{x:AV}{e:Nat}{l:List α}(hf:∀ a∈l,Tree (f a))(h:Own n S x e (l.map fun a=>[f a])){k:Nat}(hk:k≤n):Cv (S.frz (newer k)) S.n x (aL f l):=by
 rcases h with⟨rfl,h⟩|⟨id,rfl,h1,h2,h3⟩
 ·have:l = []:=List.map_eq_nil_iff.1 h
  subst this
  exact .nl
 ·refine .s id 0 _ e _ _ (by rw[frz_of h3];have:newer k id=true:=by simp[newer];omega
                             rw[this];rfl) (by simp) (by simp) (fun i c c2 hi hi2=>?_) (fun i c c2 k u u2 hi hi2 hk hk2=>?_)
  ·rw[Nat.zero_add]at hi;rw[hi]at hi2;cases hi2;rfl
  ·rw[Nat.zero_add]at hi;rw[hi]at hi2;cases hi2
   rw[hk]at hk2;cases hk2
   rw[List.getElem?_map]at hi
   obtain⟨a,ha,rfl⟩:=Option.map_eq_some_iff.1 hi
   cases k with
   |zero=>cases hk;exact hf a (List.mem_of_getElem? ha) _ _
   |succ k=>simp at hk
theorem own_cvn{n:Nat}{S0 S:Store}{x:AV}{e:Nat}{l:List Bool}(_:S0.n≤n)(_:n≤S.n)(h:Own n S x e (l.map fun a=>[aB a])):Cv (S.frz (newer n)) S.n x (aL aB l):=
 own_cvF (f:=fun b=>.bool b) h fun i b m e=>by have:=h.lt e;simp[newer];omega
theorem own_cvb{n id:Nat}{S:Store}{x:AV}{e:Nat}{l:List Bool}(_:n≤S.n)(h:Own n S x e (l.map fun a=>[aB a]))(hne:∀ b m,x≠.s id b m):Cv (S.frz (newBut n id)) S.n x (aL aB l):=
 own_cvF (f:=fun b=>.bool b) h fun i b m e=>by
  have:=h.lt e
  have:i≠id:=fun q=>hne b m (by rw[e,q])
  simp[newBut,this];omega
theorem ans35{c:Ci}(hc:c.ok):Ans Pg 35 [c.av] (.t [(spaceB c).1.av,aI (spaceB c).2]):=by
 intro S
 refine ACalls.tree (calls35 ?_)
 have hll:=hc.llen
 unfold m35
 have bz:∀{S:Store} {K:AV→Store→Prop},bld [(0,1),(1,1),(2,1),(3,1),(4,1)] [.v (.int .i64 0),.nl,.nl,.nl,.nl] [] S K=K (.a [aI 0,.nl,.nl,.nl,.nl]) S:=bld_of rfl
 refine boxA_of rfl fun S1 k1 n1 o1=>?_
 refine boxA_of rfl fun S2 k2 n2 o2=>?_
 have k2':=k1.trans k2
 have p2:S2.obj S.n=_:=(k2.2 _ (by omega)).trans o1
 rw[ldN_p (n:=8) p2 rfl]
 refine callF_ans (ans65 hc) ?_
 rw[un_not,onB_v]
 refine gd_of (fun h1=>?_) (fun h1=>?_)
 ·rw[bz]
  refine stA_of o2 rfl rfl fun S3 n3 o3 f3=>?_
  rw[ldN_p (n:=5) o3 rfl]
  rw[Bool.not_eq_true']at h1
  refine⟨_,rfl,k2'.st (by omega) n3 f3,?_⟩
  rw[spaceB,if_pos h1]
  exact cv_t2 cv_sp0 (.v _)
 have h1:c.right=true:=by simpa using h1
 have h1':¬ c.right=false:=by rw[h1];decide
 obtain⟨g1,g2,g3⟩:=gr_inp h1
 have hR:=right_c.1 h1
 have hin:=hR.1
 rw[shift_p,ld1_p p2 rfl rfl,shift_p,ld1_p p2 rfl rfl,lenS_pL,bin_add (by omega) (by omega),←g1,bin_gtr,onB_v]
 refine gd_of (fun h2=>?_) (fun h2=>?_)
 ·rw[bz]
  refine stA_of o2 rfl rfl fun S3 n3 o3 f3=>?_
  rw[ldN_p (n:=5) o3 rfl]
  refine⟨_,rfl,k2'.st (by omega) n3 f3,?_⟩
  rw[spaceB,if_neg h1',if_pos (dT h2)]
  exact cv_t2 cv_sp0 (.v _)
 have h2:¬ 10<c.gr.inputs:=dF h2
 obtain⟨m,hm⟩:=Int.eq_ofNat_of_zero_le g2
 have hm10:m≤10:=by omega
 have hgt:c.gr.inputs.toNat=m:=by rw[hm];rfl
 have hres:spaceB c=(spOf c,0):=by rw[spaceB,if_neg h1',if_neg h2]
 rw[hres]
 have hN1:2 ^ m≤1024:=Nat.pow_le_pow_right (by decide) (show m≤10 by omega)
 have hpow:((2:Int) ^ m)=((2 ^ m:Nat):Int):=by rw[Int.natCast_pow];rfl
 rw[show c.gr.inputs=(m:Int)from hm,bld_of (cs:=[aI m,.nl,.nl,.nl,.nl]) rfl]
 refine boxA_of rfl fun S3 k3 n3 o3=>?_
 refine stA_of o3 rfl rfl fun S4 n4 o4 f4=>?_
 have k4:Keep S S4:=(k2'.trans k3).st (by omega) n4 f4
 have fr4:Fv c S S1 S2 S4 S4 m .nl .nl 0:=⟨k4,Nat.le_refl _,(f4 _ (by omega)).trans ((k3.2 _ (by omega)).trans p2),(f4 _ (by omega)).trans ((k3.2 _ (by omega)).trans o2),o4,Own.nl _ _ _,Own.nl _ _ _,(fun _ _ _ _ _ e=>by cases e),(fun _ _ _ _ _ e=>by cases e)⟩
 have hvalid:validOf c=(List.range (2 ^ m)).map fun s:Nat=>c.cons.all (isB c s):=by
  rw[validOf,hgt]
  apply List.map_congr_left
  intro s hs
  exact(valid_eq h1 (by omega) (by rw[hgt];exact List.mem_range.1 hs) hR.2.2.2.2.2.2.2.2.2.2.1).symm
 have hvl:(validOf c).length=2 ^ m:=by rw[hvalid];simp
 have hinit:(spOf c).initial=(List.range (2 ^ m)).map fun s:Nat=>(validOf c).getD s false && begB c s:=by simp only[spOf,hgt]
 have hil:(spOf c).initial.length=2 ^ m:=by rw[hinit];simp
 refine loop35_0 (fun y S'=>∃(i:Nat) (zv zi:AV),y=aI i∧i≤2 ^ m∧Fv c S S1 S2 S4 S' m zv zi i)
  (fun y _=>2 ^ m - ((intA y).getD 0).toNat) ⟨0,.nl,.nl,rfl,Nat.zero_le _,fr4⟩ ?_
 rintro _ S5 ⟨i,zv,zi,rfl,hi,fr⟩ KE hKE
 have hk4:=k4.1
 have h5n:=fr.n
 unfold b35_0
 rw[bin_shl1 (by omega),hpow,bin_lss,onB_v]
 refine gd_of (fun hlt=>?_) (fun hge=>?_)
 ·have hlt:i<2 ^ m:=by
    have:((i:Int)<((2 ^ m:Nat):Int)):=dT hlt
    omega
  have hadd:∀ K:AV→Store→Prop,∀ S,bin .add 0 (.v (.int .i64 (i:Int))) (.v (.int .i64 1)) S K=K (aI (i+1:Nat)) S:=fun K S=>bin_add (by omega) (by omega) 0
  have hv:(validOf c)[i]? = some (c.cons.all (isB c i)):=by rw[hvalid];simp[hlt]
  have hvg:(validOf c).getD i false=c.cons.all (isB c i):=by rw[List.getD_eq_getElem?_getD,hv];rfl
  have hi2:(spOf c).initial[i]? = some (c.cons.all (isB c i) && begB c i):=by
   rw[hinit,List.getElem?_map,List.getElem?_range hlt]
   show some ((validOf c).getD i false && begB c i)=_
   rw[hvg]
  rw[ldN_p (n:=8) fr.cb rfl,shift_p,ld1_p fr.cb rfl rfl]
  refine callF_ans (ans66 hc (s:=i) hc.cons.1 hc.cons.2) ?_
  rw[shift_p,ld1_p fr.sb rfl rfl]
  refine bsl1 rfl (fun _ h=>by cases h) ?_
  refine fr.wv.app (by omega) (c:=[aB (c.cons.all (isB c i))]) rfl (by rw[List.length_map,List.length_take];omega) (fun z6 S6 w6 b6 hz6=>?_) rfl
  obtain⟨m6,hm6⟩:=hz6
  have n6:=b6.1
  have k6:∀ x,x<S4.n→S6.obj x=S5.obj x:=fun x hx=>b6.2 x (by omega) (fun b m e=>by have:=fr.wv.lt e;omega)
  rw[shift_p]
  refine stF_of ((k6 S2.n (by omega)).trans fr.sb) (by simp) (by rw[hm6];rfl) fun S7 n7 o7 f7=>?_
  have w7:Own S4.n S7 z6 4 _:=w6.st (id:=S2.n) (fun b m e=>by rw[hm6]at e;injection e;omega) n7 f7
  have wi7:Own S4.n S7 zi 4 _:=(fr.wi.but b6 fr.ap).st (id:=S2.n) (fun b m e=>by have:=fr.wi.lt e;omega) n7 f7
  have ap7:Apart zi z6:=fun x b m b' m' e e'=>by
   rw[hm6]at e';injection e' with e1
   have:=fr.wi.lt e
   omega
  have c7:=(f7 S.n (by omega)).trans ((k6 S.n (by omega)).trans fr.cb)
  refine⟨_,fun T hT=>by rw[shift_p];exact⟨rfl,rfl⟩,zi,fun T hT=>by rw[ld1_p ((hT.2 _ (by omega)).trans o7) rfl rfl];exact⟨rfl,rfl⟩,?_⟩
  have step:∀ b,(c.cons.all (isB c i) && begB c i)=b→appS 4 1 1 zi (.l [[aB b]]) S7 fun v T=>∃ q50:AV,(∀ T':Store,Keep T T'→shift (.p S2.n 0 0) 2 T' fun v51 S=>v51=q50∧S=T')∧stN 1 q50 v T fun _ T=>bin .add 0 (aI i) (.v (.int .i64 1)) T fun v' T=>KE 138 (env35_0 (.p S.n 0 0) (.p S1.n 0 0) (aI m) (.p S2.n 0 0) v') T:=fun b hb=>by
   refine wi7.app (by omega) (c:=[aB b]) rfl (by rw[List.length_map,List.length_take];omega) (fun z8 S8 w8 b8 hz8=>?_) rfl
   obtain⟨m8,hm8⟩:=hz8
   have n8:=b8.1
   have k8:∀ x,x<S4.n→S8.obj x=S7.obj x:=fun x hx=>b8.2 x (by omega) (fun b m e=>by have:=wi7.lt e;omega)
   refine⟨_,fun T hT=>by rw[shift_p];exact⟨rfl,rfl⟩,?_⟩
   refine stF_of ((k8 S2.n (by omega)).trans o7) (by simp) (by rw[hm8];rfl) fun S9 n9 o9 f9=>?_
   rw[hadd]
   have old:∀ x,x<S4.n→x≠S2.n→S9.obj x=S5.obj x:=fun x hx hne=>(f9 x hne).trans ((k8 x hx).trans ((f7 x hne).trans (k6 x hx)))
   refine hKE _ _ ⟨i+1,z6,z8,rfl,hlt,⟨by have:=fr.keep.1;omega,fun x hx=>(old x (by omega) (by omega)).trans (fr.keep.2 x hx)⟩,by omega,(old _ (by omega) (by omega)).trans fr.cb,(old _ (by omega) (by omega)).trans fr.ob,o9,?_,?_,fun x b m b' m' e e'=>?_,fun x b m b' m' e e'=>?_⟩ (by simp[intA];omega)
   ·rw[List.take_add_one,hv,List.map_append]
    exact(w7.but b8 ap7).st (id:=S2.n) (fun b m e=>by rw[hm6]at e;injection e;omega) n9 f9
   ·rw[List.take_add_one,hi2,hb,List.map_append]
    exact w8.st (id:=S2.n) (fun b m e=>by rw[hm8]at e;injection e;omega) n9 f9
   ·rw[hm8]at e';injection e' with e1
    have:=w7.lt e
    omega
   ·rw[hm8]at e;injection e with e1
    have:=w7.lt e'
    omega
  rw[onB_v]
  refine gd_of (fun h3=>?_) (fun h3=>?_)
  ·refine⟨_,fun T hT=>by rw[ldN_p (n:=8) ((hT.2 _ (by omega)).trans c7) rfl];exact⟨rfl,rfl⟩,_,fun T hT=>callF_ans (ans67 hll hin.1 (by omega) (by omega)) ⟨rfl,rfl⟩,_,fun T hT=>⟨rfl,rfl⟩,_,fun T hT=>bsl1 rfl (fun _ h=>by cases h) ⟨rfl,rfl⟩,?_⟩
   exact step _ (by rw[h3,Bool.true_and])
  ·refine⟨_,fun T hT=>⟨rfl,rfl⟩,_,fun T hT=>bsl1 rfl (fun _ h=>by cases h) ⟨rfl,rfl⟩,?_⟩
   exact step _ (by rw[h3,Bool.false_and])
 ·have hge:i=2 ^ m:=by
    have:¬ ((i:Int)<((2 ^ m:Nat):Int)):=dF hge
    omega
  subst hge
  have hfl:c.fair.length≤2000:=hR.2.2.2.2.2.1
  have hspf:(spOf c).fair=c.fair.map fun l=>(List.range (2 ^ m)).map fun s:Nat=>(validOf c).getD s false && isB c s l:=by
   simp only[spOf,hgt]
   apply List.map_congr_left
   intro l hl
   apply List.map_congr_left
   intro s hs
   rw[isB_eq h1 (by omega) (by rw[hgt];exact List.mem_range.1 hs) (List.all_eq_true.1 hR.2.2.2.2.2.2.2.2.2.2.2.1 l hl)]
  have hfln:(spOf c).fair.length=c.fair.length:=by rw[hspf,List.length_map]
  have wv:=fr.wv
  have wi:=fr.wi
  rw[List.take_of_length_le (by omega)]at wv wi
  refine loopw35_1 (fun y1 y2 y4 y5 y8 S'=>y1 = .p S.n 0 0∧y2 = .p S1.n 0 0∧y4=aI m∧y5 = .p S2.n 0 0∧∃(k:Nat) (zf:AV),y8=aI k∧k≤c.fair.length∧Ff c S S1 S2 S4 S' [aI m,aL aB (validOf c),aL aB (spOf c).initial,.nl,zf] zf 53 (((spOf c).fair.take k).map fun v=>aL aB v))
   (fun _ _ _ _ y _=>c.fair.length - ((intA y).getD 0).toNat) ⟨_,_,_,_,_,_,Wk.row (newer S4.n) fr.sb (by simp[newer];omega) (es2:=[[aI m,aL aB (validOf c),aL aB (spOf c).initial,.nl,.nl]]) ⟨rfl,fun i c1 c2 e1 e2=>?_⟩,rfl,rfl,rfl,rfl,0,.nl,rfl,Nat.zero_le _,?_⟩ ?_
  ·match i with
   |0 =>
    cases e1;cases e2
    refine⟨rfl,fun k u u2 hk hk2=>?_⟩
    match k with
    |0=>cases hk;cases hk2;exact .v _
    |1=>cases hk;cases hk2;exact(own_cvn hk4 h5n wv)
    |2=>cases hk;cases hk2;exact(own_cvn hk4 h5n wi)
    |3|4=>cases hk;cases hk2;exact .nl'
    |k+5=>simp at hk
   |i+1=>simp at e1
  ·have hlow:∀ x,x<S4.n→x≠S2.n→(S5.tell (newer S4.n) S2.n (.cells 71 [[aI m,aL aB (validOf c),aL aB (spOf c).initial,.nl,.nl]] true)).obj x=S5.obj x:=fun x hx hne=>tell_ne hne (by simp[newer];omega)
   refine⟨⟨by rw[tell_n];exact fr.keep.1,fun x hx=>(hlow x (by omega) (by omega)).trans (fr.keep.2 x hx)⟩,by rw[tell_n];exact fr.n,(hlow _ (by omega) (by omega)).trans fr.cb,(hlow _ (by omega) (by omega)).trans fr.ob,tell_id,Own.nl _ _ _⟩
  clear wv wi fr h5n hi S5 KE hKE
  rintro _ _ _ _ _ S5 ⟨rfl,rfl,rfl,rfl,k,zf,rfl,hk,fr⟩ KE hKE
  unfold b35_1
  have h5n:=fr.n
  rw[shift_p,ld1_p fr.cb rfl rfl,lenS_aL,bin_lss,onB_v]
  refine gd_of (fun hlt=>?_) (fun hge=>?_)
  ·have hlt:k<c.fair.length:=by simpa using hlt
   have hlf:k<(spOf c).fair.length:=by omega
   have hml:=List.getElem_mem hlt
   have hrow:(spOf c).fair[k]=(List.range (2 ^ m)).map fun s:Nat=>(validOf c).getD s false && isB c s c.fair[k]:=by simp only[hspf,List.getElem_map]
   refine loop35_2 (fun y9 y10 S'=>∃ i:Nat,y10=aI i∧i≤2 ^ m∧Ff c S S1 S2 S4 S' [aI m,aL aB (validOf c),aL aB (spOf c).initial,.nl,zf] zf 53 (((spOf c).fair.take k).map fun v=>aL aB v)∧
       Own S4.n S' y9 4 (((spOf c).fair[k].take i).map fun b=>[aB b])∧Apart y9 zf)
    (fun _ y _=>2 ^ m - ((intA y).getD 0).toNat) ⟨0,rfl,Nat.zero_le _,fr,Own.nl _ _ _,fun _ _ _ _ _ e=>by cases e⟩ ?_
   clear fr h5n S5
   rintro y9 _ S5 ⟨i,rfl,hi,fr,w9,ap9⟩ KE2 hKE2
   unfold b35_2
   have h5n:=fr.n
   rw[bin_shl1 (by omega),hpow,bin_lss,onB_v]
   refine gd_of (fun hl2=>?_) (fun hg2=>?_)
   ·have hl2:i<2 ^ m:=by
      have:((i:Int)<((2 ^ m:Nat):Int)):=dT hl2
      omega
    have kT:∀{T:Store} {x:Nat} {o:AObj},Keep S5 T→x<S5.n→S5.obj x=some o→T.obj x=some o:=fun hT hx ho=>(hT.2 _ hx).trans ho
    have hget:(spOf c).fair[k][i]? = some ((validOf c).getD i false && isB c i c.fair[k]):=by rw[hrow,List.getElem?_map,List.getElem?_range hl2];rfl
    have hvi:(validOf c)[i]'(by omega)=(validOf c).getD i false:=by simp[List.getD_eq_getElem?_getD,hvl,hl2]
    have step:∀ b,((validOf c).getD i false && isB c i c.fair[k])=b→appS 4 1 1 y9 (.l [[aB b]]) S5 fun v T=>bin .add 0 (aI i) (.v (.int .i64 1)) T fun v' T=>KE2 138 (env35_2 (.p S.n 0 0) (.p S1.n 0 0) (aI m) (.p S2.n 0 0) (aI k) v v') T:=fun b hb=>by
     refine w9.app (by omega) (c:=[aB b]) rfl (by rw[List.length_map,List.length_take];omega) (fun z8 S8 w8 b8 hz8=>?_) rfl
     obtain⟨m8,hm8⟩:=hz8
     have n8:=b8.1
     have k8:∀ x,x<S4.n→S8.obj x=S5.obj x:=fun x hx=>b8.2 x (by omega) (fun b m e=>by have:=w9.lt e;omega)
     rw[bin_add (by omega) (by omega)]
     refine hKE2 _ _ _ ⟨i+1,rfl,hl2,⟨⟨by have:=fr.keep.1;omega,fun x hx=>(k8 x (by omega)).trans (fr.keep.2 x hx)⟩,by omega,(k8 _ (by omega)).trans fr.cb,(k8 _ (by omega)).trans fr.ob,(k8 _ (by omega)).trans fr.sb,fr.ow.but b8 ap9⟩,?_,fun x b m b' m' e e'=>?_⟩ (by simp[intA];omega)
     ·rw[List.take_add_one,hget,hb,List.map_append]
      exact w8
     ·rw[hm8]at e;injection e with e1
      have:=fr.ow.lt e'
      omega
    refine⟨_,fun T hT=>by rw[shift_p];exact⟨rfl,rfl⟩,_,fun T hT=>by rw[ld1_p (kT hT (by omega) fr.sb) rfl rfl];exact⟨rfl,rfl⟩,_,fun T hT=>by rw[ixS_aL (by omega)];exact⟨rfl,rfl⟩,_,fun T hT=>by rw[ld1_q];exact⟨rfl,rfl⟩,?_⟩
    rw[hvi,onB_v]
    refine gd_of (fun h3=>?_) (fun h3=>?_)
    ·refine⟨_,fun T hT=>by rw[ldN_p (n:=8) (kT hT (by omega) fr.cb) rfl];exact⟨rfl,rfl⟩,_,fun T hT=>by rw[shift_p];exact⟨rfl,rfl⟩,_,fun T hT=>by rw[ld1_p (kT hT (by omega) fr.cb) rfl rfl];exact⟨rfl,rfl⟩,_,fun T hT=>by rw[ixS_aL hlt];exact⟨rfl,rfl⟩,_,fun T hT=>by rw[ld1_q];exact⟨rfl,rfl⟩,
       _,fun T hT=>callF_ans (ans68 hc (hc.fair.1 _ hml)) ⟨rfl,rfl⟩,_,fun T hT=>⟨rfl,rfl⟩,_,fun T hT=>bsl1 rfl (fun _ h=>by cases h) ⟨rfl,rfl⟩,?_⟩
     exact step _ (by rw[h3,Bool.true_and])
    ·refine⟨_,fun T hT=>⟨rfl,rfl⟩,_,fun T hT=>bsl1 rfl (fun _ h=>by cases h) ⟨rfl,rfl⟩,?_⟩
     exact step _ (by rw[h3,Bool.false_and])
   ·have hge:i=2 ^ m:=by
      have:¬ ((i:Int)<((2 ^ m:Nat):Int)):=dF hg2
      omega
    subst hge
    rw[List.take_of_length_le (by rw[hrow];simp)]at w9
    rw[shift_p,ld1_p fr.sb rfl rfl]
    have h9one:y9.one=true:=by rcases w9 with⟨rfl,_⟩|⟨id,rfl,_⟩<;>rfl
    have h9A:∀ cs,y9≠.a cs:=by rcases w9 with⟨rfl,_⟩|⟨id,rfl,_⟩<;>(intro cs h;cases h)
    refine bsl1 h9one h9A ?_
    refine fr.ow.app (by omega) (c:=[y9]) rfl (by rw[List.length_map,List.length_map,List.length_take];omega) (fun z8 S8 w8 b8 hz8=>?_) rfl
    obtain⟨m8,hm8⟩:=hz8
    have n8:=b8.1
    have k8:∀ x,x<S4.n→S8.obj x=S5.obj x:=fun x hx=>b8.2 x (by omega) (fun b m e=>by have:=fr.ow.lt e;omega)
    have w98:Own S4.n S8 y9 4 _:=w9.but b8 (fun x b m b' m' e e'=>ap9 x b' m' b m e' e)
    rw[shift_p]
    refine stF_of ((k8 S2.n (by omega)).trans fr.sb) (by simp) (by rw[hm8];rfl) fun S9 n9 o9 f9=>?_
    rw[bin_add (by omega) (by omega)]
    have w99:Own S4.n S9 y9 4 _:=w98.st (id:=S2.n) (fun b m e=>by have:=w98.lt e;omega) n9 f9
    have w89:=w8.st (id:=S2.n) (fun b m e=>by rw[hm8]at e;injection e;omega) n9 f9
    have hne9:∀ b m',y9≠.s S5.n b m':=fun b m' e=>by have:=w9.lt e;omega
    obtain⟨id,e8,h8a,h8b,h8o⟩:=w89.ix (i:=0) (by simp)
    have hid:id=S5.n:=by rw[hm8]at e8;injection e8 with e;exact e.symm
    subst hid
    have htk:(spOf c).fair.take (k+1)=(spOf c).fair.take k ++ [(spOf c).fair[k]]:=by rw[List.take_add_one,List.getElem?_eq_getElem hlf];rfl
    refine hKE _ _ _ _ _ S9 _ _ _ _ _ _ (Wk.row (newBut S4.n S5.n) h8o (by simp[newBut]) (es2:=(((spOf c).fair.take (k+1)).map fun v=>aL aB v).map fun v=>[v]) ?_) ⟨rfl,rfl,rfl,rfl,k+1,z8,rfl,hlt,?_⟩ (by simp[intA];omega)
    ·rw[htk,List.map_append,List.map_append]
     refine RowsCv.snoc (fun r hr u hu=>?_) rfl (fun k' u u2 e1 e2=>?_)
     ·simp only[List.mem_map]at hr
      obtain⟨x,⟨v,_,rfl⟩,rfl⟩:=hr
      obtain rfl:=List.mem_singleton.1 hu
      exact treeB _
     ·match k' with
      |0=>cases e1;cases e2;exact own_cvb (by omega) w99 hne9
      |k'+1=>simp at e1
    ·have old:∀ x,x<S4.n→x≠S2.n→(S9.tell (newBut S4.n S5.n) S5.n (.cells 53 ((((spOf c).fair.take (k+1)).map fun v=>aL aB v).map fun v=>[v]) true)).obj x=S5.obj x:=fun x hx hne=>(tell_ne (by omega) (by simp[newBut];omega)).trans ((f9 x hne).trans (k8 x hx))
     refine⟨⟨by rw[tell_n];have:=fr.keep.1;omega,fun x hx=>(old x (by omega) (by omega)).trans (fr.keep.2 x hx)⟩,by rw[tell_n];omega,(old _ (by omega) (by omega)).trans fr.cb,(old _ (by omega) (by omega)).trans fr.ob,(tell_ne (by omega) (by simp[newBut];omega)).trans o9,?_⟩
     refine .inr ⟨S5.n,?_,by omega,by rw[tell_n];omega,tell_id⟩
     rw[e8,htk]
     simp
     omega
  ·have hge:k=c.fair.length:=by
     have:¬ ((k:Int)<(c.fair.length:Int)):=dF hge
     omega
   subst hge
   have wf:=fr.ow
   rw[List.take_of_length_le (by omega)]at wf
   have hspn:(spOf c).next=(List.range (2 ^ m)).map fun s:Nat=>if(validOf c).getD s false=true then nextL c ((valsOf c).getD s []) (validOf c)else[]:=by simp only[spOf,hgt]
   have hnl:(spOf c).next.length=2 ^ m:=by rw[hspn];simp
   refine loopw35_3 (fun y1 y2 y4 y5 y11 S'=>y1 = .p S.n 0 0∧y2 = .p S1.n 0 0∧y4=aI m∧y5 = .p S2.n 0 0∧∃(k:Nat) (zn:AV),y11=aI k∧k≤2 ^ m∧Ff c S S1 S2 S4 S' [aI m,aL aB (validOf c),aL aB (spOf c).initial,zn,aL (aL aB) (spOf c).fair] zn 34 (((spOf c).next.take k).map fun v=>aL aI v))
    (fun _ _ _ _ y _=>2 ^ m - ((intA y).getD 0).toNat) ⟨_,_,_,_,_,_,Wk.row (newer S4.n) fr.sb (by simp[newer];omega) (es2:=[[aI m,aL aB (validOf c),aL aB (spOf c).initial,.nl,aL (aL aB) (spOf c).fair]]) ⟨rfl,fun i c1 c2 e1 e2=>?_⟩,rfl,rfl,rfl,rfl,0,.nl,rfl,Nat.zero_le _,?_⟩ ?_
   ·match i with
    |0 =>
     cases e1;cases e2
     refine⟨rfl,fun k u u2 hk hk2=>?_⟩
     match k with
     |0=>cases hk;cases hk2;exact .v _
     |1=>cases hk;cases hk2;exact treeB _ _ _
     |2=>cases hk;cases hk2;exact treeB _ _ _
     |3=>cases hk;cases hk2;exact .nl'
     |4=>cases hk;cases hk2;exact own_trees (fun _ _=>treeB _) (by rw[List.map_map]at wf;exact wf) (by omega)
     |k+5=>simp at hk
    |i+1=>simp at e1
   ·have hlow:∀ x,x<S4.n→x≠S2.n→(S5.tell (newer S4.n) S2.n (.cells 71 [[aI m,aL aB (validOf c),aL aB (spOf c).initial,.nl,aL (aL aB) (spOf c).fair]] true)).obj x=S5.obj x:=fun x hx hne=>tell_ne hne (by simp[newer];omega)
    refine⟨⟨by rw[tell_n];exact fr.keep.1,fun x hx=>(hlow x (by omega) (by omega)).trans (fr.keep.2 x hx)⟩,by rw[tell_n];exact fr.n,(hlow _ (by omega) (by omega)).trans fr.cb,(hlow _ (by omega) (by omega)).trans fr.ob,tell_id,Own.nl _ _ _⟩
   clear wf fr h5n hk S5 KE hKE zf
   rintro _ _ _ _ _ S5 ⟨rfl,rfl,rfl,rfl,k,zn,rfl,hk,fr⟩ KE hKE
   unfold b35_3
   have h5n:=fr.n
   rw[bin_shl1 (by omega),hpow,bin_lss,onB_v]
   refine gd_of (fun hlt=>?_) (fun hge=>?_)
   ·have hlt:k<2 ^ m:=by
      have:((k:Int)<((2 ^ m:Nat):Int)):=dT hlt
      omega
    have hlf:k<(spOf c).next.length:=by omega
    have hrow:(spOf c).next[k]=if(validOf c).getD k false=true then nextL c ((valsOf c).getD k []) (validOf c)else[]:=by simp only[hspn,List.getElem_map,List.getElem_range]
    have htk:(spOf c).next.take (k+1)=(spOf c).next.take k ++ [(spOf c).next[k]]:=by rw[List.take_add_one,List.getElem?_eq_getElem hlf];rfl
    rw[ldN_p (n:=8) fr.cb rfl]
    refine callF_ans (ans59 hc k) ?_
    rw[afterB_eq h1 (by omega) (by rw[hgt];exact hlt)]
    obtain⟨a0,a1⟩:=afterV_le c ((valsOf c).getD k []) c.latches.length
    obtain⟨aq,aq1,aq2⟩:=afterV_div c ((valsOf c).getD k []) c.latches.length
    have hml:c.inputs.toNat+c.latches.length=m:=by omega
    have hin10:c.inputs.toNat≤10:=by omega
    generalize hA:afterV c ((valsOf c).getD k []) c.latches.length=a at *
    have hbnd:∀ x,x<2 ^ c.inputs.toNat→a.toNat+x<2 ^ m:=fun x hx=>by
     rw[aq2]
     have h1:2 ^ c.inputs.toNat*aq+x<2 ^ c.inputs.toNat*(aq+1):=by rw[Nat.mul_add];omega
     have h2:2 ^ c.inputs.toNat*(aq+1)≤2 ^ c.inputs.toNat*2 ^ c.latches.length:=Nat.mul_le_mul_left _ aq1
     rw[←Nat.pow_add,hml]at h2
     have:(((2 ^ c.inputs.toNat*aq:Nat):Int)).toNat=2 ^ c.inputs.toNat*aq:=Int.toNat_natCast _
     omega
    let nt:Nat→List Int:=fun x=>((List.range x).filter fun x=>(validOf c).getD (a.toNat+x) false).map fun x:Nat=>a+(x:Int)
    have nts:∀ x,nt (x+1)=if(validOf c).getD (a.toNat+x) false=true then nt x ++ [a+(x:Int)]else nt x:=fun x=>by
     simp only[nt,List.range_succ,List.filter_append,List.map_append]
     by_cases hq:(validOf c).getD (a.toNat+x) false=true
     ·rw[if_pos hq,List.filter_cons,if_pos hq];rfl
     ·rw[if_neg hq,List.filter_cons,if_neg hq,List.filter_nil,List.map_nil,List.append_nil]
    have ntl:∀ x,(nt x).length≤x:=fun x=>by
     simp only[nt,List.length_map]
     have:=List.length_filter_le (fun x=>(validOf c).getD (a.toNat+x) false) (List.range x)
     simpa using this
    have hN:nextL c ((valsOf c).getD k []) (validOf c)=nt (2 ^ c.inputs.toNat):=by simp only[nextL,hA,nt]
    have hp2:2 ^ c.inputs.toNat≤1024:=Nat.pow_le_pow_right (by decide) hin10
    have hpi:((2:Int) ^ c.inputs.toNat)=((2 ^ c.inputs.toNat:Nat):Int):=by rw[Int.natCast_pow];rfl
    have hci:aI c.inputs=aI (c.inputs.toNat:Int):=by rw[Int.toNat_of_nonneg hin.1]
    refine loop35_4 (fun y12 y14 S'=>∃ x:Nat,y14=aI x∧x≤2 ^ c.inputs.toNat∧(0<x→(validOf c).getD k false=true)∧Ff c S S1 S2 S4 S' [aI m,aL aB (validOf c),aL aB (spOf c).initial,zn,aL (aL aB) (spOf c).fair] zn 34 (((spOf c).next.take k).map fun v=>aL aI v)∧
        Own S4.n S' y12 3 ((nt x).map fun b=>[aI b])∧Apart y12 zn)
     (fun _ y _=>2 ^ c.inputs.toNat - ((intA y).getD 0).toNat) ⟨0,rfl,Nat.zero_le _,fun h=>by omega,fr,Own.nl _ _ _,fun _ _ _ _ _ e=>by cases e⟩ ?_
    clear fr h5n S5
    rintro y12 _ S5 ⟨x,rfl,hx,hx0,fr,w9,ap9⟩ KE4 hKE4
    have h5n:=fr.n
    have fin:nt x=(spOf c).next[k]→shift (.p S2.n 0 0) 3 S5 fun v137 T=>ld1 v137 T fun v138 T=>bslN 34 1 1 [.nl] [(0,y12)] T fun v139 T=>appS 34 1 24 v138 v139 T fun v140 T=>shift (.p S2.n 0 0) 3 T fun v141 T=>stN 1 v141 v140 T fun v142 T=>bin .add 0 (aI k) (.v (.int .i64 1)) T fun v143 T=>KE 138 (env35_3 (.p S.n 0 0) (.p S1.n 0 0) (aI m) (.p S2.n 0 0) v143) T:=fun hxr=>by
     rw[hxr]at w9
     rw[shift_p,ld1_p fr.sb rfl rfl]
     have h9one:y12.one=true:=by rcases w9 with⟨rfl,_⟩|⟨id,rfl,_⟩<;>rfl
     have h9A:∀ cs,y12≠.a cs:=by rcases w9 with⟨rfl,_⟩|⟨id,rfl,_⟩<;>(intro cs h;cases h)
     refine bsl1 h9one h9A ?_
     refine fr.ow.app (by omega) (c:=[y12]) rfl (by rw[List.length_map,List.length_map,List.length_take];omega) (fun z8 S8 w8 b8 hz8=>?_) rfl
     obtain⟨m8,hm8⟩:=hz8
     have n8:=b8.1
     have k8:∀ x,x<S4.n→S8.obj x=S5.obj x:=fun x hx=>b8.2 x (by omega) (fun b m e=>by have:=fr.ow.lt e;omega)
     have w98:Own S4.n S8 y12 3 _:=w9.but b8 (fun x b m b' m' e e'=>ap9 x b' m' b m e' e)
     rw[shift_p]
     refine stF_of ((k8 S2.n (by omega)).trans fr.sb) (by simp) (by rw[hm8];rfl) fun S9 n9 o9 f9=>?_
     rw[bin_add (by omega) (by omega)]
     have w99:Own S4.n S9 y12 3 _:=w98.st (id:=S2.n) (fun b m e=>by have:=w98.lt e;omega) n9 f9
     have w89:=w8.st (id:=S2.n) (fun b m e=>by rw[hm8]at e;injection e;omega) n9 f9
     have hne9:∀ b m',y12≠.s S5.n b m':=fun b m' e=>by have:=w9.lt e;omega
     obtain⟨id,e8,h8a,h8b,h8o⟩:=w89.ix (i:=0) (by simp)
     have hid:id=S5.n:=by rw[hm8]at e8;injection e8 with e;exact e.symm
     subst hid
     refine hKE _ _ _ _ _ S9 _ _ _ _ _ _ (Wk.row (newBut S4.n S5.n) h8o (by simp[newBut]) (es2:=(((spOf c).next.take (k+1)).map fun v=>aL aI v).map fun v=>[v]) ?_) ⟨rfl,rfl,rfl,rfl,k+1,z8,rfl,hlt,?_⟩ (by simp[intA];omega)
     ·rw[htk,List.map_append,List.map_append]
      refine RowsCv.snoc (fun r hr u hu=>?_) rfl (fun k' u u2 e1 e2=>?_)
      ·simp only[List.mem_map]at hr
       obtain⟨x,⟨v,_,rfl⟩,rfl⟩:=hr
       obtain rfl:=List.mem_singleton.1 hu
       exact treeI _
      ·match k' with
       |0 =>
        cases e1;cases e2
        exact own_cvF (f:=fun i=>.int .i64 i) w99 fun i b m e=>by
         have:=w99.lt e
         have:i≠S5.n:=fun q=>hne9 b m (by rw[e,q])
         simp[newBut,this];omega
       |k'+1=>simp at e1
     ·have old:∀ x,x<S4.n→x≠S2.n→(S9.tell (newBut S4.n S5.n) S5.n (.cells 34 ((((spOf c).next.take (k+1)).map fun v=>aL aI v).map fun v=>[v]) true)).obj x=S5.obj x:=fun x hx hne=>(tell_ne (by omega) (by simp[newBut];omega)).trans ((f9 x hne).trans (k8 x hx))
      refine⟨⟨by rw[tell_n];have:=fr.keep.1;omega,fun x hx=>(old x (by omega) (by omega)).trans (fr.keep.2 x hx)⟩,by rw[tell_n];omega,(old _ (by omega) (by omega)).trans fr.cb,(old _ (by omega) (by omega)).trans fr.ob,(tell_ne (by omega) (by simp[newBut];omega)).trans o9,?_⟩
      refine .inr ⟨S5.n,?_,by omega,by rw[tell_n];omega,tell_id⟩
      rw[e8,htk]
      simp
      omega
    unfold b35_4
    rw[shift_p,ld1_p fr.cb rfl rfl,hci,bin_shl1 (by omega),hpi,bin_lss,onB_v]
    have hvk:(validOf c)[k]'(by omega)=(validOf c).getD k false:=by simp[List.getD_eq_getElem?_getD,hvl,hlt]
    refine gd_of (fun hl2=>?_) (fun hg2=>?_)
    ·have hl2:x<2 ^ c.inputs.toNat:=by
       have:((x:Int)<((2 ^ c.inputs.toNat:Nat):Int)):=dT hl2
       omega
     rw[shift_p,ld1_p fr.sb rfl rfl,ixS_aL (by omega),ld1_q,hvk,onB_v]
     refine gd_of (fun h3=>?_) (fun h3=>?_)
     ·have hb:=hbnd x hl2
      have hax:a+(x:Int)=((a.toNat+x:Nat):Int):=by omega
      have hvx:(validOf c)[a.toNat+x]'(by omega)=(validOf c).getD (a.toNat+x) false:=by simp[List.getD_eq_getElem?_getD,hvl,hb]
      rw[shift_p,ld1_p fr.sb rfl rfl,bin_add (by omega) (by omega),hax,ixS_aL (by omega),ld1_q,hvx,onB_v]
      refine gd_of (fun h4=>?_) (fun h4=>?_)
      ·rw[bin_add (by omega) (by omega)]
       refine bsl1 rfl (fun _ h=>by cases h) ?_
       refine w9.app (by omega) (c:=[aI (a+(x:Int))]) rfl (by have:=ntl x;rw[List.length_map];omega) (fun z8 S8 w8 b8 hz8=>?_) rfl
       obtain⟨m8,hm8⟩:=hz8
       have n8:=b8.1
       have k8:∀ x,x<S4.n→S8.obj x=S5.obj x:=fun x hx=>b8.2 x (by omega) (fun b m e=>by have:=w9.lt e;omega)
       rw[bin_add (by omega) (by omega)]
       refine hKE4 _ _ _ ⟨x+1,rfl,hl2,fun _=>h3,⟨⟨by have:=fr.keep.1;omega,fun x hx=>(k8 x (by omega)).trans (fr.keep.2 x hx)⟩,by omega,(k8 _ (by omega)).trans fr.cb,(k8 _ (by omega)).trans fr.ob,(k8 _ (by omega)).trans fr.sb,fr.ow.but b8 ap9⟩,?_,fun x b m b' m' e e'=>?_⟩ (by simp[intA];omega)
       ·rw[nts,if_pos h4,List.map_append]
        exact w8
       ·rw[hm8]at e;injection e with e1
        have:=fr.ow.lt e'
        omega
      ·rw[bin_add (by omega) (by omega)]
       refine hKE4 _ _ _ ⟨x+1,rfl,hl2,fun _=>h3,fr,?_,ap9⟩ (by simp[intA];omega)
       rw[nts,if_neg (by rw[h4];decide)]
       exact w9
     ·refine fin ?_
      have:x=0:=by
       rcases Nat.eq_zero_or_pos x with h|h
       ·exact h
       ·rw[hx0 h]at h3;cases h3
      subst this
      rw[hrow,h3,if_neg (by decide)]
      rfl
    ·have hge:x=2 ^ c.inputs.toNat:=by
       have:¬ ((x:Int)<((2 ^ c.inputs.toNat:Nat):Int)):=dF hg2
       omega
     refine fin ?_
     have hpos:0<2 ^ c.inputs.toNat:=Nat.two_pow_pos _
     rw[hrow,hx0 (by omega),if_pos rfl,hN,hge]
   ·have hge:k=2 ^ m:=by
      have:¬ ((k:Int)<((2 ^ m:Nat):Int)):=dF hge
      omega
    subst hge
    have hnx:=fr.ow
    rw[List.take_of_length_le (by omega)]at hnx
    rw[ldN_p (n:=5) fr.sb rfl]
    refine stA_of fr.ob rfl rfl fun S10 n10 o10 f10=>?_
    rw[ldN_p (n:=5) o10 rfl]
    have w3:Own S.n S10 zn 34 _:=(hnx.st (id:=S1.n) (fun b m e=>by have:=hnx.lt e;omega) n10 f10).low (by omega)
    rw[List.map_map]at w3
    have hbits:(spOf c).bits=(m:Int):=hm
    refine⟨_,rfl,fr.keep.st (by omega) n10 f10,cv_t2 (cv_a5 (by rw[hbits];exact .v _) (treeB _ _ _) (treeB _ _ _) (own_tree (fun _ _=>treeI _) w3) (Tree.aL (fun _ _=>treeB _) _ _)) (.v _)⟩
theorem pickV_rng{l:List Int}(hl:∀ x∈l,0≤x∧x<65536){k:Nat}{n:Int}(hn:0<n):0≤pickV l k n∧pickV l k n<n:=by
 unfold pickV
 split
 ·omega
 ·rename_i h
  have hlt:k<l.length:=by omega
  have hx:=hl _ (List.getElem_mem hlt)
  rw[show l.getD k 0=l[k]by simp[List.getD_eq_getElem?_getD,hlt],Int.tmod_eq_emod_of_nonneg hx.1]
  exact⟨Int.emod_nonneg _ (by omega),Int.emod_lt_of_pos _ hn⟩
structure Fm (S:Store) (l:List Int) (S':Store) (k:Nat) (cs:List AV):Prop where
 keep:Keep S S'
 n:S.n+4≤S'.n
 lo:S'.obj S.n=some (.cells 33 [[aL aW16 l]] true)
 ro:S'.obj (S.n+1)=some (.cells 42 [[aI 0,.nl,.nl,.nl,.nl,.nl,.nl,.nl]] true)
 ao:S'.obj (S.n+2)=some (.cells 3 [[aI k]] true)
 co:S'.obj (S.n+3)=some (.cells 42 [cs] true)
abbrev pickF(S:Store):AV:=.f (.func 78) [] [.p (S.n+2) 0 0,.p S.n 0 0]
theorem Fm.old{S S' S'':Store}{l:List Int}{k:Nat}{cs:List AV}(h:Fm S l S' k cs)(hn:S'.n≤S''.n)(ho:∀ x,x<S.n+4→S''.obj x=S'.obj x):Fm S l S'' k cs:=
 ⟨⟨by have:=h.keep.1;omega,fun x hx=>(ho x (by omega)).trans (h.keep.2 x hx)⟩,by have:=h.n;omega,(ho _ (by omega)).trans h.lo,(ho _ (by omega)).trans h.ro,(ho _ (by omega)).trans h.ao,(ho _ (by omega)).trans h.co⟩
theorem Fm.pick{S S':Store}{l:List Int}{k:Nat}{cs:List AV}(h:Fm S l S' k cs)(hl:∀ x∈l,0≤x∧x<65536){n:Int}(hn:0<n)(hk:k≤1000){K X:AV→Store→Prop}
    (kk:∀ S'',Fm S l S'' (k+1) cs→S''.n=S'.n→(∀ x,x≠S.n+2→S''.obj x=S'.obj x)→K (aI (pickV l k n)) S''):callV Pg (pickF S) [aI n] S' K X:=by
 refine .inl (pick_of h.ao h.lo (by omega) hl hn (by omega) fun S'' n2 o2 f2=>kk S'' ⟨⟨by have:=h.keep.1;omega,fun x hx=>(f2 x (by omega)).trans (h.keep.2 x hx)⟩,by have:=h.n;omega,(f2 _ (by omega)).trans h.lo,(f2 _ (by omega)).trans h.ro,o2,(f2 _ (by omega)).trans h.co⟩ n2 f2)
theorem Fm.st{S S':Store}{l:List Int}{k j:Nat}{cs:List AV}{u:AV}(h:Fm S l S' k cs)(hj:j<cs.length)(hu:u.one=true){K:AV→Store→Prop}
    (kk:∀ S'',Fm S l S'' k (cs.set j u)→S''.n=S'.n→(∀ x,x≠S.n+3→S''.obj x=S'.obj x)→K .j S''):stN 1 (.p (S.n+3) 0 j) u S' K:=
 stF_of h.co hj hu fun S'' n2 o2 f2=>kk S'' ⟨⟨by have:=h.keep.1;omega,fun x hx=>(f2 x (by omega)).trans (h.keep.2 x hx)⟩,by have:=h.n;omega,(f2 _ (by omega)).trans h.lo,(f2 _ (by omega)).trans h.ro,(f2 _ (by omega)).trans h.ao,o2⟩ n2 f2
theorem Fm.kT{S S' T:Store}{l:List Int}{k:Nat}{cs:List AV}(h:Fm S l S' k cs)(hT:Keep S' T):T.obj (S.n+3)=some (.cells 42 [cs] true):=(hT.2 _ (by have:=h.n;omega)).trans h.co
theorem Fm.wk{S S':Store}{l:List Int}{k:Nat}{cs cs2:List AV}(h:Fm S l S' k cs)(hl:cs.length=cs2.length)(hc:∀(k:Nat) (u u2:AV),cs[k]? = some u→cs2[k]? = some u2→Cv (S'.frz (newer (S.n+4))) S'.n u u2)(ls:List AV):
    ∃ S'',Wk S' ls S'' ls∧Fm S l S'' k cs2∧S''.n=S'.n:=by
 refine⟨_,Wk.row (newer (S.n+4)) h.co (by simp[newer]) (es2:=[cs2]) ⟨rfl,fun i c1 c2 e1 e2=>?_⟩,?_,rfl⟩
 ·match i with
  |0=>cases e1;cases e2;exact⟨hl,hc⟩
  |i+1=>simp at e1
 ·have hlow:∀ x,x<S.n+4→x≠S.n+3→(S'.tell (newer (S.n+4)) (S.n+3) (.cells 42 [cs2] true)).obj x=S'.obj x:=fun x hx hne=>tell_ne hne (by simp[newer];omega)
  exact⟨⟨h.keep.1,fun x hx=>(hlow x (by omega) (by omega)).trans (h.keep.2 x hx)⟩,h.n,(hlow _ (by omega) (by omega)).trans h.lo,(hlow _ (by omega) (by omega)).trans h.ro,(hlow _ (by omega) (by omega)).trans h.ao,tell_id⟩
theorem bsl3{e:Nat}{z u v w:AV}{S:Store}{K:AV→Store→Prop}(hu:u.one=true)(hv:v.one=true)(hw:w.one=true)(k:K (.l [[u],[v],[w]]) S):bslN e 1 3 [z] [(0,u),(1,v),(2,w)] S K:=by
 refine⟨[u,v,w],?_,.inr ?_⟩
 ·simp[fillA,cells_of_one hu,cells_of_one hv,cells_of_one hw,spl,List.range_succ]
 ·simpa[chunks,List.range_succ]using k
theorem bslA3{e:Nat}{z1 z2 z3 u v w:AV}{S:Store}{K:AV→Store→Prop}(k:K (.l [[u,v,w]]) S):bslN e 3 1 [z1,z2,z3] [(0,.a [u,v,w])] S K:=by
 refine⟨[u,v,w],?_,.inr ?_⟩
 ·simp[fillA,cellsOf,spl]
 ·simpa[chunks]using k
theorem own_one{n:Nat}{S:Store}{x:AV}{e:Nat}{es:List (List AV)}(h:Own n S x e es):x.one=true:=by rcases h with⟨rfl,_⟩|⟨id,rfl,_⟩<;>rfl
theorem wrap16{x:Int}(h0:0≤x)(h1:x<65536):IntKind.u16.wrap x=x:=by rw[IntKind.wrap_u16];omega
theorem _root_.Go.Ab.Own.fm{S S' S'':Store}{x:AV}{e:Nat}{es:List (List AV)}{id:Nat}(h:Own (S.n+4) S' x e es)(hid:id<S.n+4)(hn:S''.n=S'.n)(ho:∀ y,y≠id→S''.obj y=S'.obj y):Own (S.n+4) S'' x e es:=
 h.st (id:=id) (fun b m e=>by have:=h.lt e;omega) hn ho
theorem own_cvP{n:Nat}{S:Store}{x:AV}{e:Nat}{l:List (Int × Int)}{F:Nat→Bool}{k:Nat}(h:Own n S x e (l.map fun p=>[aI p.1,aI p.2]))(hF:∀ i b m,x = .s i b m→F i=true):Cv (S.frz F) k x (pL l):=by
 rcases h with⟨rfl,h⟩|⟨id,rfl,h1,h2,h3⟩
 ·have:l = []:=List.map_eq_nil_iff.1 h
  subst this
  exact .nl
 ·refine .s id 0 _ e _ _ (by rw[frz_of h3,hF id _ _ rfl];rfl) (by simp) (by simp) (fun i c c2 hi hi2=>?_) (fun i c c2 k u u2 hi hi2 hk hk2=>?_)
  ·rw[Nat.zero_add]at hi;rw[hi]at hi2;cases hi2;rfl
  ·rw[Nat.zero_add]at hi;rw[hi]at hi2;cases hi2
   rw[hk]at hk2;cases hk2
   rw[List.getElem?_map]at hi
   obtain⟨a,_,rfl⟩:=Option.map_eq_some_iff.1 hi
   match k with
   |0=>cases hk;exact .v _
   |1=>cases hk;exact .v _
   |k+2=>simp at hk
theorem own_cvI{n:Nat}{S:Store}{x:AV}{e:Nat}{l:List Int}{F:Nat→Bool}{k:Nat}(h:Own n S x e (l.map fun p=>[aI p]))(hF:∀ i b m,x = .s i b m→F i=true):Cv (S.frz F) k x (aL aI l):=by
 rcases h with⟨rfl,h⟩|⟨id,rfl,h1,h2,h3⟩
 ·have:l = []:=List.map_eq_nil_iff.1 h
  subst this
  exact .nl
 ·refine .s id 0 _ e _ _ (by rw[frz_of h3,hF id _ _ rfl];rfl) (by simp) (by simp) (fun i c c2 hi hi2=>?_) (fun i c c2 k u u2 hi hi2 hk hk2=>?_)
  ·rw[Nat.zero_add]at hi;rw[hi]at hi2;cases hi2;rfl
  ·rw[Nat.zero_add]at hi;rw[hi]at hi2;cases hi2
   rw[hk]at hk2;cases hk2
   rw[List.getElem?_map]at hi
   obtain⟨a,_,rfl⟩:=Option.map_eq_some_iff.1 hi
   match k with
   |0=>cases hk;exact .v _
   |k+1=>simp at hk
theorem own_cvN{n:Nat}{S:Store}{x:AV}{e:Nat}{l:List Na}{F:Nat→Bool}{k:Nat}(h:Own n S x e (l.map Na.row))(hF:∀ i b m,x = .s i b m→F i=true):Cv (S.frz F) k x (nL l):=by
 rcases h with⟨rfl,h⟩|⟨id,rfl,h1,h2,h3⟩
 ·have:l = []:=List.map_eq_nil_iff.1 h
  subst this
  exact .nl
 ·refine .s id 0 _ e _ _ (by rw[frz_of h3,hF id _ _ rfl];rfl) (by simp) (by simp) (fun i c c2 hi hi2=>?_) (fun i c c2 k u u2 hi hi2 hk hk2=>?_)
  ·rw[Nat.zero_add]at hi;rw[hi]at hi2;cases hi2;rfl
  ·rw[Nat.zero_add]at hi;rw[hi]at hi2;cases hi2
   rw[hk]at hk2;cases hk2
   rw[List.getElem?_map]at hi
   obtain⟨a,_,rfl⟩:=Option.map_eq_some_iff.1 hi
   unfold Na.row at hk
   match k with
   |0=>cases hk;exact .v _
   |1=>cases hk;exact .v _
   |2=>cases hk;exact .v _
   |k+3=>simp at hk
theorem _root_.Go.Ab.Own.fF{n:Nat}{S:Store}{x:AV}{e:Nat}{es:List (List AV)}(h:Own n S x e es){m:Nat}(hm:m≤n):∀ i b k,x = .s i b k→newer m i=true:=fun i b k e=>by
 have:=h.lt e
 simp[newer];omega
theorem madeC_of{inp:Int}{lats:List (Int × Int)}{g:Gr}{outs bads cons fair:List Int}{b1 b2:Bool}{t:ByteArray}(h0:0≤inp)(h1:inp≤3)(hl1:1≤lats.length)(hl2:lats.length≤3)
    (hg:g.right=true) (hgi:g.inputs=inp+lats.length) (hga:g.ands.length≤8) (hgok:g.ok) (hlat:∀ p∈lats,g.lit p.1=true∧0≤p.2∧p.2≤2) (ho:∀ x∈outs,g.lit x=true) (hb:∀ x∈bads,g.lit x=true)
    (hc:∀ x∈cons,g.lit x=true) (hf:∀ x∈fair,g.lit x=true) (lo:outs.length≤2) (lb:bads.length≤1) (lc:cons.length≤1) (lf:fair.length≤1)
    (ht:b2=true→0<outs.length∧(t=⟨#[111,117,116]⟩∨t=⟨#[108,49]⟩∨t=⟨#[97,45,98]⟩)):
    MadeC ⟨inp,lats,g.ands,outs,bads,cons,fair,(if b1 then[⟨108,0,⟨#[113]⟩⟩]else[])++(if b2 then[⟨111,outs.length - 1,t⟩]else[])⟩:=by
 have hvg:g.vars=inp+lats.length+1+g.ands.length:=by unfold Gr.vars;omega
 have hi64:∀{x:Int},g.lit x=true→i64R x:=fun h=>by
  obtain⟨_,_,h1,h2⟩:=lit_iff.1 h
  exact⟨by omega,by omega⟩
 have hgr:∀ nm,(⟨inp,lats,g.ands,outs,bads,cons,fair,nm⟩:Ci).gr=g:=fun nm=>by
  show(⟨IntKind.i64.wrap (inp+lats.length),g.ands⟩:Gr)=g
  rw[wrap64 (by omega) (by omega),←hgi]
 have htl:b2=true→wordB t=true∧t.size≤100∧t≠⟨#[113]⟩:=fun h=>by
  rcases(ht h).2 with rfl|rfl|rfl<;>exact⟨by decide,by decide,by decide⟩
 generalize hnm:((if b1 then[⟨108,0,⟨#[113]⟩⟩]else[])++(if b2 then[⟨111,outs.length - 1,t⟩]else[]):List Na)=nm
 have hnl:nm.length≤2:=by subst hnm;cases b1<;>cases b2<;>simp
 have hnames:namesB ⟨inp,lats,g.ands,outs,bads,cons,fair,nm⟩=true:=by
  have e1:nameOk ⟨inp,lats,g.ands,outs,bads,cons,fair,nm⟩ ⟨108,0,⟨#[113]⟩⟩:=⟨by decide,by decide,by simp[Ci.many];omega⟩
  have e2:b2=true→nameOk ⟨inp,lats,g.ands,outs,bads,cons,fair,nm⟩ ⟨111,outs.length - 1,t⟩:=fun h=>⟨(htl h).1,by have:=(ht h).1;show(0:Int)≤outs.length - 1;omega,by have:=(ht h).1;simp[Ci.many];omega⟩
  have e3:nameLt ⟨108,0,⟨#[113]⟩⟩ ⟨111,outs.length - 1,t⟩:=.inl (by show rankI 108<rankI 111;decide)
  simp only[namesB,decide_eq_true_eq]
  subst hnm
  cases b1<;>cases b2
  ·exact⟨fun i h=>by simp at h,fun i h=>by simp at h,by simp⟩
  ·refine⟨fun i h _=>?_,fun i h=>by simp at h,by simp⟩
   match i with
   |0=>exact e2 rfl
   |i+1=>exact absurd (show i+1<1 from h) (by omega)
  ·refine⟨fun i h _=>?_,fun i h=>by simp at h,by simp⟩
   match i with
   |0=>exact e1
   |i+1=>exact absurd (show i+1<1 from h) (by omega)
  ·refine⟨fun i h _=>?_,fun i h _=>?_,?_⟩
   ·match i with
    |0=>exact e1
    |1=>exact e2 rfl
    |i+2=>exact absurd (show i+2<2 from h) (by omega)
   ·match i with
    |0=>exact e3
    |i+1=>exact absurd (show i+1+1<2 from h) (by omega)
   ·have:=(htl rfl).2.2
    simp only[if_true,List.cons_append,List.nil_append,List.length_cons,List.length_nil,List.take_succ_cons,List.take_zero,List.map_cons,List.map_nil,List.nodup_cons,List.mem_singleton,List.not_mem_nil,not_false_eq_true,List.nodup_nil,and_true]
    exact fun h=>this (keyOf_inj h.symm)
 have hnk:∀ x∈nm,0≤x.kind∧x.kind<256∧i64R x.pos∧x.text.size≤9223372036854775807:=by
  subst hnm
  intro x hx
  rcases List.mem_append.1 hx with hx|hx
  ·cases b1
   ·simp at hx
   ·have:x=⟨108,0,⟨#[113]⟩⟩:=by simpa using hx
    subst this
    exact⟨by decide,by decide,⟨by decide,by decide⟩,by decide⟩
  ·cases b2
   ·simp at hx
   ·have:x=⟨111,outs.length - 1,t⟩:=by simpa using hx
    subst this
    have h2:=htl rfl
    exact⟨by show(0:Int)≤111;decide,by show(111:Int)<256;decide,⟨by show _≤(outs.length:Int) - 1;omega,by show(outs.length:Int) - 1≤_;omega⟩,by show t.size≤_;omega⟩
 refine⟨⟨⟨by show _≤inp;omega,by show inp≤_;omega⟩,by show lats.length≤_;omega,by show g.ands.length≤_;omega,fun p hp=>⟨hi64 (hlat p hp).1,⟨by have:=hlat p hp;omega,by have:=hlat p hp;omega⟩⟩,hgok.pairs,⟨fun x hx=>hi64 (ho x hx),by show outs.length≤_;omega⟩,⟨fun x hx=>hi64 (hb x hx),by show bads.length≤_;omega⟩,
  ⟨fun x hx=>hi64 (hc x hx),by show cons.length≤_;omega⟩,⟨fun x hx=>hi64 (hf x hx),by show fair.length≤_;omega⟩,hnk,by show nm.length≤_;omega⟩,right_c.2 ?_,⟨h0,h1⟩,⟨hl1,hl2⟩,hga,lo,lb,lc,lf,⟨b1,b2,t,hnm.symm,ht⟩⟩
 rw[hgr]
 refine⟨⟨h0,by show inp≤_;omega⟩,by show lats.length≤_;omega,by show outs.length≤_;omega,by show bads.length≤_;omega,by show cons.length≤_;omega,by show fair.length≤_;omega,hg,?_,?_,?_,?_,?_,hnames⟩
 ·refine List.all_eq_true.2 fun p hp=>?_
  obtain⟨q1,q2,q3⟩:=hlat p hp
  simp only[latOk,q1,decide_eq_true q2,decide_eq_true q3,Bool.and_self]
 ·exact List.all_eq_true.2 ho
 ·exact List.all_eq_true.2 hb
 ·exact List.all_eq_true.2 hc
 ·exact List.all_eq_true.2 hf
def seedL(l:List Int):List Int:=(List.range (pickV l 2 9).toNat).map fun i=>pickV l (3+i) 65536
def varsL(l:List Int):Int:=(madeTo (pickV l 0 4+(1+pickV l 1 3)) (seedL l) (min (seedL l).length 40)).1.vars
theorem made248{l:List Int}(hl:∀ x∈l,0≤x∧x<65536){S:Store}:ACalls Pg 48 [aL aW16 l] S (fun e S'=>∃ tr,e = .ret tr∧S'=S∧∃ c,tr=c.av∧MadeC c∧c.gr.vars=varsL l):=by
 refine ACalls.treeE (calls48 ?_)
 unfold m48
 refine box1_of rfl fun S1 k1 n1 o1=>?_
 refine boxA_of rfl fun S2 k2 n2 o2=>?_
 refine box1_of rfl fun S3 k3 n3 o3=>?_
 refine st_of o3 rfl rfl fun S4 n4 o4 f4=>?_
 refine boxA_of rfl fun S5 k5 n5 o5=>?_
 have e1:S1.n=S.n+1:=n1
 have e2:S2.n=S.n+2:=by omega
 have e4:S4.n=S.n+3:=by omega
 rw[e1]at o2;rw[e2]at o3 o4 f4;rw[e4]at o5
 rw[e1,e2,e4]
 have fm:Fm S l S5 0 [aI 0,.nl,.nl,.nl,.nl,.nl,.nl,.nl]:=by
  have old4:∀ x,x<S.n+2→S4.obj x=S2.obj x:=fun x hx=>(f4 x (by omega)).trans (k3.2 x (by omega))
  have old5:∀ x,x<S.n+3→S5.obj x=S4.obj x:=fun x hx=>k5.2 x (by omega)
  refine⟨⟨by omega,fun x hx=>(old5 x (by omega)).trans ((old4 x (by omega)).trans ((k2.2 x (by omega)).trans (k1.2 x hx)))⟩,by omega,?_,?_,(old5 _ (by omega)).trans o4,o5⟩
  ·exact(old5 _ (by omega)).trans ((old4 _ (by omega)).trans ((k2.2 _ (by omega)).trans o1))
  ·exact(old5 _ (by omega)).trans ((old4 _ (by omega)).trans o2)
 show callV _ (pickF S) _ _ _ _
 refine fm.pick hl (by decide) (by decide) fun S6 fm n6 f6=>?_
 have pi:=pickV_rng hl (k:=0) (n:=4) (by decide)
 generalize hinp:pickV l 0 4=inp at *
 rw[shift_p]
 refine fm.st (by simp) rfl fun S7 fm n7 f7=>?_
 show callV _ (pickF S) _ _ _ _
 refine fm.pick hl (by decide) (by decide) fun S8 fm n8 f8=>?_
 have pm:=pickV_rng hl (k:=1) (n:=3) (by decide)
 generalize hm3:pickV l 1 3=m3 at *
 rw[bin_add (by omega) (by omega)]
 obtain⟨many,hmany⟩:=Int.eq_ofNat_of_zero_le (show 0≤1+m3 by omega)
 have hm1:1≤many∧many≤3:=by omega
 rw[hmany]
 show callV _ (pickF S) _ _ _ _
 refine fm.pick hl (by decide) (by decide) fun S9 fm n9 f9=>?_
 have pr:=pickV_rng hl (k:=2) (n:=9) (by decide)
 generalize h9:pickV l 2 9=r9 at *
 obtain⟨r0,rfl⟩:=Int.eq_ofNat_of_zero_le pr.1
 replace fm:Fm S l S9 3 [aI inp,.nl,.nl,.nl,.nl,.nl,.nl,.nl]:=fm
 show loopV _ _ _ (env48_0 (.p (S.n+1) 0 0) (pickF S) (.p (S.n+3) 0 0) (aI many) .nl (aI r0)) _ _
 refine loop48_0 (fun y7 y8 S'=>∃(r k:Nat) (sd:List Int),y8=aI r∧(r+sd.length=r0∧k=3+sd.length∧sd=(List.range sd.length).map fun i=>pickV l (3+i) 65536)∧r+sd.length≤8∧k+r≤11∧Fm S l S' k [aI inp,.nl,.nl,.nl,.nl,.nl,.nl,.nl]∧Own (S.n+4) S' y7 126 (sd.map fun x=>[aW16 x])∧∀ x∈sd,0≤x∧x<65536)
  (fun _ y _=>((intA y).getD 0).toNat) ⟨r0,3,[],rfl,⟨by simp,rfl,rfl⟩,by simp;omega,by omega,fm,Own.nl _ _ _,fun _ h=>by cases h⟩ ?_
 rintro y7 _ S1 ⟨r,k,sd,rfl,⟨hrr,hkk,hsq⟩,hr,hk,fm,w7,hsd⟩ KE hKE
 unfold b48_0
 rw[bin_gtr,onB_v]
 refine gd_of (fun hgt=>?_) (fun hle=>?_)
 ·have hgt:0<r:=by have:=dT hgt;omega
  refine fm.pick hl (by decide) (by omega) fun S2 fm n2 f2=>?_
  have px:=pickV_rng hl (k:=k) (n:=65536) (by decide)
  generalize hx:pickV l k 65536=x at *
  have w2:=w7.fm (by omega) n2 f2
  rw[convI_v,wrap16 px.1 px.2]
  refine bsl1 rfl (fun _ h=>by cases h) ?_
  refine w2.app (by have:=fm.n;omega) (c:=[aW16 x]) rfl (by rw[List.length_map];omega) (fun z S3 w3 b3 hz=>?_) rfl
  have n3:=b3.1
  have o3:∀ x,x<S.n+4→S3.obj x=S2.obj x:=fun x hx=>b3.2 x (by have:=fm.n;omega) (fun b m e=>by have:=w2.lt e;omega)
  rw[bin_sub (by omega) (by omega),show(r:Int) - 1=((r - 1:Nat):Int)by omega]
  refine hKE _ _ _ ⟨r - 1,k+1,sd ++ [x],rfl,⟨by simp;omega,by simp;omega,by rw[List.length_append,List.length_singleton,List.range_succ,List.map_append,←hsq];simp[←hx,hkk]⟩,by rw[List.length_append,List.length_singleton];omega,by omega,fm.old n3 o3,by rw[List.map_append];exact w3,fun a ha=>?_⟩ (by simp[intA];omega)
  rcases List.mem_append.1 ha with ha|ha
  ·exact hsd a ha
  ·have:a=x:=by simpa using ha
   subst this
   exact px
 have hle:r=0:=by have:=dF hle;omega
 subst hle
 clear hKE KE
 rw[shift_p,ld1_p fm.co rfl rfl,bin_add (by omega) (by omega)]
 have hlen:∀(T:Store) (K:AV→Store→Prop),lenS y7 T K=K (aI sd.length) T:=fun T K=>by
  rcases w7 with⟨rfl,e⟩|⟨id,rfl,_⟩
  ·have:sd = []:=List.map_eq_nil_iff.1 e
   subst this;rfl
  ·rw[lenS_s,List.length_map]
 obtain⟨q7,hq7⟩:∃ q:Nat,∀(i:Nat),i<sd.length→y7 = .s q 0 sd.length∧q<S1.n∧S1.obj q=some (.cells 126 (sd.map fun x=>[aW16 x]) true):=by
  rcases w7 with⟨rfl,e⟩|⟨id,rfl,h1,h2,h3⟩
  ·have:sd = []:=List.map_eq_nil_iff.1 e
   subst this;exact⟨0,fun i hi=>by simp at hi⟩
  ·exact⟨id,fun i _=>⟨by rw[List.length_map],h2,h3⟩⟩
 have hmade:=at79 (n:=inp+many) (by omega) (by omega) hsd (by omega) (S:=S1) (x1:=y7) hlen (P:=fun i=>.p q7 i 0) (fun T hT i hi=>by
  obtain⟨h1,h2,h3⟩:=hq7 i hi
  have h4:=(hT.2 _ h2).trans h3
  subst h1
  refine⟨fun K=>by rw[ixS_s hi h4,Nat.zero_add],fun K=>by rw[ld1_p h4 (by rw[List.getElem?_map,List.getElem?_eq_getElem hi];rfl) rfl]⟩)
 have hrt:=madeTo_right (n:=inp+many) (by omega) (by omega) hsd (min sd.length 40) (by omega)
 have hgok:=madeTo_ok (n:=inp+many) ⟨by omega,by omega⟩ hsd (by omega) (min sd.length 40)
 have hgin:=madeTo_inp (inp+many) sd (min sd.length 40)
 have hmin:min sd.length 40≤8:=by omega
 have hvars:(madeTo (inp+many) sd (min sd.length 40)).1.vars=varsL l:=by
  have e:sd=seedL l:=by
   rw[hsq,seedL,h9]
   rw[show sd.length=r0 by omega]
   rfl
  rw[varsL,hinp,hm3,hmany,←e]
 generalize(madeTo (inp+many) sd (min sd.length 40)).1=g at *
 generalize(madeTo (inp+many) sd (min sd.length 40)).2=last at *
 obtain⟨hg,hlast,hv1,hv2⟩:=hrt
 have hga:g.ands.length≤8:=by unfold Gr.vars at hv2;omega
 refine callF_at hmade ?_
 rw[extr0,extr1]
 refine boxA_of rfl fun S2 k2 n2 o2=>?_
 refine stA_of o2 rfl rfl fun S3 n3 o3 f3=>?_
 have hb:=fm.n
 replace fm:Fm S l S3 k _:=fm.old (by omega) fun x hx=>(f3 x (by omega)).trans (k2.2 x (by omega))
 rw[shift_p,ld1_p o3 rfl rfl,shift_p]
 refine fm.st (by simp) rfl fun S4 fm n4 f4=>?_
 have o4:=(f4 S1.n (by omega)).trans o3
 rw[ldN_p (n:=2) o4 rfl]
 refine callF_ans (ans40 hgok (by omega) (by omega)) ?_
 rw[bin_mul (by omega) (by omega)]
 have hvp:0<2*g.vars:=by omega
 have plit:∀{x:Int},0≤x∧x<2*g.vars→g.lit x=true:=fun h=>lit_iff.2 ⟨by omega,by omega,h.1,by omega⟩
 show loopV _ _ _ (env48_1 (.p (S.n+1) 0 0) (pickF S) (.p (S.n+3) 0 0) (aI many) (aI last) (aI (2*g.vars)) (aI (0:Nat))) _ _
 replace fm:Fm S l S4 k [aI inp,.nl,pL g.ands,.nl,.nl,.nl,.nl,.nl]:=fm
 refine loop48_1 (fun y12 S'=>∃(i k:Nat) (zl:AV) (lats:List (Int × Int)),y12=aI i∧i≤many∧k≤11+2*i∧Fm S l S' k [aI inp,zl,pL g.ands,.nl,.nl,.nl,.nl,.nl]∧Own (S.n+4) S' zl 66 (lats.map fun p=>[aI p.1,aI p.2])∧lats.length=i∧∀ p∈lats,g.lit p.1=true∧0≤p.2∧p.2≤2)
  (fun y _=>many - ((intA y).getD 0).toNat) ⟨0,k,.nl,[],rfl,Nat.zero_le _,by omega,fm,Own.nl _ _ _,rfl,fun _ h=>by cases h⟩ ?_
 rintro _ S1 ⟨i,k,zl,lats,rfl,hi,hk,fm,wl,hll,hlat⟩ KE hKE
 unfold b48_1
 rw[bin_lss,onB_v]
 refine gd_of (fun hlt=>?_) (fun hge=>?_)
 ·have hlt:i<many:=by have:=dT hlt;omega
  refine fm.pick hl hvp (by omega) fun S2 fm n2 f2=>?_
  have pn:=plit (pickV_rng hl (k:=k) hvp)
  generalize pickV l k (2*g.vars)=n at *
  have w2:=wl.fm (by omega) n2 f2
  rw[bin_eql,onB_v]
  have step:∀ nx:Int,g.lit nx=true→∀(S3:Store) (p5:Int) (k':Nat),0≤p5∧p5<5→k'≤11+2*(i+1)→Fm S l S3 k' [aI inp,zl,pL g.ands,.nl,.nl,.nl,.nl,.nl]→Own (S.n+4) S3 zl 66 (lats.map fun p=>[aI p.1,aI p.2])→
      (∃ q46:AV,(∀ T:Store,Keep S3 T→bin .quo 0 (aI p5) (.v (.int .i64 2)) T fun v S=>v=q46∧S=T)∧∃ q48:AV,(∀ T:Store,Keep S3 T→bld [(0,1),(1,1)] [.v (.int .i64 0),.v (.int .i64 0)] [(0,aI nx),(1,q46)] T fun v S=>v=q48∧S=T)∧
       ∃ q50:AV,(∀ T:Store,Keep S3 T→bslN 66 2 1 [.v (.int .i64 0),.v (.int .i64 0)] [(0,q48)] T fun v S=>v=q50∧S=T)∧appS 66 2 16 zl q50 S3 fun v52 T =>
       ∃ q53:AV,(∀ T':Store,Keep T T'→shift (.p (S.n+3) 0 0) 1 T' fun v S=>v=q53∧S=T')∧stN 1 q53 v52 T fun _ T=>bin .add 0 (aI i) (.v (.int .i64 1)) T fun v T=>KE 156 (env48_1 (.p (S.n+1) 0 0) (pickF S) (.p (S.n+3) 0 0) (aI many) (aI last) (aI (2*g.vars)) v) T):=by
   intro nx hnx S3 p5 k' hp5 hk' fm w3
   have hd:0≤p5.tdiv 2∧p5.tdiv 2≤2:=by rw[Int.tdiv_eq_ediv_of_nonneg hp5.1];omega
   refine⟨_,fun T hT=>by rw[bin_quo (by decide) (by omega) (by omega)];exact⟨rfl,rfl⟩,_,fun T hT=>by rw[bld_of (cs:=[aI nx,aI (p5.tdiv 2)]) rfl];exact⟨rfl,rfl⟩,_,fun T hT=>bslP ⟨rfl,rfl⟩,?_⟩
   refine w3.app (by have:=fm.n;omega) (c:=[aI nx,aI (p5.tdiv 2)]) rfl (by rw[List.length_map];omega) (fun z S4 w4 b4 hz=>?_) rfl
   have n4:=b4.1
   have hn3:=fm.n
   have o4:∀ x,x<S.n+4→S4.obj x=S3.obj x:=fun x hx=>b4.2 x (by omega) (fun b m e=>by have:=w3.lt e;omega)
   refine⟨_,fun T hT=>by rw[shift_p];exact⟨rfl,rfl⟩,?_⟩
   replace fm:=fm.old n4 o4
   refine fm.st (by simp) (own_one w4) fun S5 fm n5 f5=>?_
   have w5:=w4.fm (by omega) n5 f5
   rw[bin_add (by omega) (by omega)]
   refine hKE _ _ ⟨i+1,k',z,lats ++ [(nx,p5.tdiv 2)],rfl,hlt,hk',fm,by rw[List.map_append];exact w5,by simp[hll],fun p hp=>?_⟩ (by simp[intA];omega)
   rcases List.mem_append.1 hp with hp|hp
   ·exact hlat p hp
   ·have:p=(nx,p5.tdiv 2):=by simpa using hp
    subst this
    exact⟨hnx,hd⟩
  have p5:=pickV_rng hl (k:=k+1) (n:=5) (by decide)
  refine gd_of (fun h0=>?_) (fun h0=>?_)
  ·refine⟨_,fun T hT=>by rw[shift_p];exact⟨rfl,rfl⟩,zl,fun T hT=>by rw[ld1_p (fm.kT hT) rfl rfl];exact⟨rfl,rfl⟩,?_⟩
   refine fm.pick hl (by decide) (by omega) fun S3 fm n3 f3=>?_
   have w3:=w2.fm (by omega) n3 f3
   refine⟨fun T hT=>by rw[ld1_p (fm.kT hT) rfl rfl];exact⟨rfl,rfl⟩,fun T hT=>by rw[shift_p];exact⟨rfl,rfl⟩,?_⟩
   exact step _ hlast S3 _ _ p5 (by omega) fm w3
  ·refine⟨_,fun T hT=>by rw[shift_p];exact⟨rfl,rfl⟩,zl,fun T hT=>by rw[ld1_p (fm.kT hT) rfl rfl];exact⟨rfl,rfl⟩,?_⟩
   refine fm.pick hl (by decide) (by omega) fun S3 fm n3 f3=>?_
   have w3:=w2.fm (by omega) n3 f3
   refine⟨fun T hT=>by rw[ld1_p (fm.kT hT) rfl rfl];exact⟨rfl,rfl⟩,fun T hT=>by rw[shift_p];exact⟨rfl,rfl⟩,?_⟩
   exact step _ pn S3 _ _ p5 (by omega) fm w3
 have hge:i=many:=by have:=dF hge;omega
 subst hge
 clear hKE KE
 refine fm.pick hl (by decide) (by omega) fun S2 fm n2 f2=>?_
 have w2:=wl.fm (by omega) n2 f2
 have p3:=pickV_rng hl (k:=k) (n:=3) (by decide)
 generalize pickV l k 3=r3 at *
 obtain⟨r0,rfl⟩:=Int.eq_ofNat_of_zero_le p3.1
 obtain⟨S3,wk3,fm3,n3⟩:=fm.wk (cs2:=[aI inp,pL lats,pL g.ands,.nl,.nl,.nl,.nl,.nl]) rfl (fun k' u u2 e1 e2=>by
  match k' with
  |0=>cases e1;cases e2;exact .v _
  |1=>cases e1;cases e2;exact own_cvP w2 (w2.fF (Nat.le_refl _))
  |2=>cases e1;cases e2;exact treeP _ _ _
  |3|4|5|6|7=>cases e1;cases e2;exact .nl'
  |k+8=>simp at e1) (env48_2 (.p (S.n+1) 0 0) (pickF S) (.p (S.n+3) 0 0) (aI (2*g.vars)) (aI r0))
 show loopV _ _ _ (env48_2 (.p (S.n+1) 0 0) (pickF S) (.p (S.n+3) 0 0) (aI (2*g.vars)) (aI r0)) _ _
 refine loopw48_2 (fun y2 y4 y5 y11 y14 S'=>y2 = .p (S.n+1) 0 0∧y4=pickF S∧y5 = .p (S.n+3) 0 0∧y11=aI (2*g.vars)∧∃(r k:Nat) (zo:AV) (outs:List Int),y14=aI r∧outs.length+r≤2∧k+r≤20∧Fm S l S' k [aI inp,pL lats,pL g.ands,zo,.nl,.nl,.nl,.nl]∧Own (S.n+4) S' zo 3 (outs.map fun p=>[aI p])∧∀ x∈outs,g.lit x=true)
  (fun _ _ _ _ y _=>((intA y).getD 0).toNat) ⟨_,_,_,_,_,S3,wk3,rfl,rfl,rfl,rfl,r0,k+1,.nl,[],rfl,by simp;omega,by omega,fm3,Own.nl _ _ _,fun _ h=>by cases h⟩ ?_
 rintro _ _ _ _ _ S1 ⟨rfl,rfl,rfl,rfl,r,k,zo,outs,rfl,hor,hk,fm,wo,hou⟩ KE hKE
 unfold b48_2
 rw[bin_gtr,onB_v]
 refine gd_of (fun hgt=>?_) (fun hle=>?_)
 ·have hgt:0<r:=by have:=dT hgt;omega
  refine⟨_,fun T hT=>by rw[shift_p];exact⟨rfl,rfl⟩,zo,fun T hT=>by rw[ld1_p (fm.kT hT) rfl rfl];exact⟨rfl,rfl⟩,?_⟩
  refine fm.pick hl hvp (by omega) fun S2 fm n2 f2=>?_
  have pn:=plit (pickV_rng hl (k:=k) hvp)
  generalize pickV l k (2*g.vars)=n at *
  have w2:=wo.fm (by omega) n2 f2
  refine⟨fun T hT=>by rw[ld1_p (fm.kT hT) rfl rfl];exact⟨rfl,rfl⟩,fun T hT=>by rw[shift_p];exact⟨rfl,rfl⟩,_,fun T hT=>bsl1 rfl (fun _ h=>by cases h) ⟨rfl,rfl⟩,?_⟩
  refine w2.app (by have:=fm.n;omega) (c:=[aI n]) rfl (by rw[List.length_map];omega) (fun z S4 w4 b4 hz=>?_) rfl
  have n4:=b4.1
  have hn3:=fm.n
  have o4:∀ x,x<S.n+4→S4.obj x=S2.obj x:=fun x hx=>b4.2 x (by omega) (fun b m e=>by have:=w2.lt e;omega)
  refine⟨_,fun T hT=>by rw[shift_p];exact⟨rfl,rfl⟩,?_⟩
  replace fm:=fm.old n4 o4
  refine fm.st (by simp) (own_one w4) fun S5 fm n5 f5=>?_
  have w5:=w4.fm (by omega) n5 f5
  rw[bin_sub (by omega) (by omega),show(r:Int) - 1=((r - 1:Nat):Int)by omega]
  refine hKE _ _ _ _ _ _ _ _ _ _ _ _ (Wk.refl _ _) ⟨rfl,rfl,rfl,rfl,r - 1,k+1,z,outs ++ [n],rfl,by rw[List.length_append,List.length_singleton];omega,by omega,fm,by rw[List.map_append];exact w5,fun p hp=>?_⟩ (by simp[intA];omega)
  rcases List.mem_append.1 hp with hp|hp
  ·exact hou p hp
  ·have:p=n:=by simpa using hp
   subst this
   exact pn
 have hle:r=0:=by have:=dF hle;omega
 subst hle
 clear hKE KE
 have tail:∀(S':Store) (k:Nat) (zo zb zc:AV) (bads cons:List Int) (r0:Nat),r0≤1→k≤25→Fm S l S' k [aI inp,pL lats,pL g.ands,zo,zb,zc,.nl,.nl]→Own (S.n+4) S' zo 3 (outs.map fun p=>[aI p])→Own (S.n+4) S' zb 3 (bads.map fun p=>[aI p])→Own (S.n+4) S' zc 3 (cons.map fun p=>[aI p])→
     bads.length≤1→cons.length≤1→(∀ x∈bads,g.lit x=true)→(∀ x∈cons,g.lit x=true)→
     loopV lv48_3 (vc Pg (c48.at_ [1,1,1,1,1,1,1,1,1,1,1,1,1,1,1,0,1,0,0]) (ms48.drop 4)) 156 (env48_3 (.p (S.n+1) 0 0) (pickF S) (.p (S.n+3) 0 0) (aI (2*g.vars)) (aI r0)) S'
      (blockK 6 (seqK (vc Pg (c48.at_ [1,1,1,1,1,1,1,1,1,1,1,1,1,1,1,1]) (ms48.drop 4)) (bodyK Pg r48 fun e S'=>∃ r tr,e = .ret r∧Keep S S'∧Cv (S'.frz (newer S.n)) S.n r tr∧∃ c:Ci,tr=c.av∧MadeC c∧c.gr.vars=varsL l))):=by
  intro S' k zo zb zc bads cons r0 hr0 hk fm wo wb wc lb lc hbl hcl
  obtain⟨S3,wk3,fm3,n3⟩:=fm.wk (cs2:=[aI inp,pL lats,pL g.ands,aL aI outs,aL aI bads,aL aI cons,.nl,.nl]) rfl (fun k' u u2 e1 e2=>by
   match k' with
   |0=>cases e1;cases e2;exact .v _
   |1=>cases e1;cases e2;exact treeP _ _ _
   |2=>cases e1;cases e2;exact treeP _ _ _
   |3=>cases e1;cases e2;exact own_cvI wo (wo.fF (Nat.le_refl _))
   |4=>cases e1;cases e2;exact own_cvI wb (wb.fF (Nat.le_refl _))
   |5=>cases e1;cases e2;exact own_cvI wc (wc.fF (Nat.le_refl _))
   |6|7=>cases e1;cases e2;exact .nl'
   |k+8=>simp at e1) (env48_3 (.p (S.n+1) 0 0) (pickF S) (.p (S.n+3) 0 0) (aI (2*g.vars)) (aI r0))
  refine loopw48_3 (fun y2 y4 y5 y11 y15 S'=>y2 = .p (S.n+1) 0 0∧y4=pickF S∧y5 = .p (S.n+3) 0 0∧y11=aI (2*g.vars)∧∃(r k:Nat) (zf:AV) (fair:List Int),y15=aI r∧fair.length+r≤1∧k+r≤26∧Fm S l S' k [aI inp,pL lats,pL g.ands,aL aI outs,aL aI bads,aL aI cons,zf,.nl]∧Own (S.n+4) S' zf 3 (fair.map fun p=>[aI p])∧∀ x∈fair,g.lit x=true)
   (fun _ _ _ _ y _=>((intA y).getD 0).toNat) ⟨_,_,_,_,_,S3,wk3,rfl,rfl,rfl,rfl,r0,k,.nl,[],rfl,by simp;omega,by omega,fm3,Own.nl _ _ _,fun _ h=>by cases h⟩ ?_
  rintro _ _ _ _ _ S1 ⟨rfl,rfl,rfl,rfl,r,k,zf,fair,rfl,hfr,hk,fm,wf,hfl⟩ KE hKE
  unfold b48_3
  rw[bin_gtr,onB_v]
  refine gd_of (fun hgt=>?_) (fun hle=>?_)
  ·have hgt:0<r:=by have:=dT hgt;omega
   refine⟨_,fun T hT=>by rw[shift_p];exact⟨rfl,rfl⟩,zf,fun T hT=>by rw[ld1_p (fm.kT hT) rfl rfl];exact⟨rfl,rfl⟩,?_⟩
   refine fm.pick hl hvp (by omega) fun S2 fm n2 f2=>?_
   have pn:=plit (pickV_rng hl (k:=k) hvp)
   generalize pickV l k (2*g.vars)=n at *
   have w2:=wf.fm (by omega) n2 f2
   refine⟨fun T hT=>by rw[ld1_p (fm.kT hT) rfl rfl];exact⟨rfl,rfl⟩,fun T hT=>by rw[shift_p];exact⟨rfl,rfl⟩,_,fun T hT=>bsl1 rfl (fun _ h=>by cases h) ⟨rfl,rfl⟩,?_⟩
   refine w2.app (by have:=fm.n;omega) (c:=[aI n]) rfl (by rw[List.length_map];omega) (fun z S4 w4 b4 hz=>?_) rfl
   have n4:=b4.1
   have hn3:=fm.n
   have o4:∀ x,x<S.n+4→S4.obj x=S2.obj x:=fun x hx=>b4.2 x (by omega) (fun b m e=>by have:=w2.lt e;omega)
   refine⟨_,fun T hT=>by rw[shift_p];exact⟨rfl,rfl⟩,?_⟩
   replace fm:=fm.old n4 o4
   refine fm.st (by simp) (own_one w4) fun S5 fm n5 f5=>?_
   have w5:=w4.fm (by omega) n5 f5
   rw[bin_sub (by omega) (by omega),show(r:Int) - 1=((r - 1:Nat):Int)by omega]
   refine hKE _ _ _ _ _ _ _ _ _ _ _ _ (Wk.refl _ _) ⟨rfl,rfl,rfl,rfl,r - 1,k+1,z,fair ++ [n],rfl,by rw[List.length_append,List.length_singleton];omega,by omega,fm,by rw[List.map_append];exact w5,fun p hp=>?_⟩ (by simp[intA];omega)
   rcases List.mem_append.1 hp with hp|hp
   ·exact hfl p hp
   ·have:p=n:=by simpa using hp
    subst this
    exact pn
  have hle:r=0:=by have:=dF hle;omega
  subst hle
  clear hKE KE
  have fin:∀(S1:Store) (k:Nat) (zn:AV) (b1 b2:Bool) (t:ByteArray),Fm S l S1 k [aI inp,pL lats,pL g.ands,aL aI outs,aL aI bads,aL aI cons,zf,zn]→Own (S.n+4) S1 zf 3 (fair.map fun p=>[aI p])→(b2=true→0<outs.length∧(t=⟨#[111,117,116]⟩∨t=⟨#[108,49]⟩∨t=⟨#[97,45,98]⟩))→
      Own (S.n+4) S1 zn 130 (((if b1 then[⟨108,0,⟨#[113]⟩⟩]else[])++(if b2 then[⟨111,outs.length - 1,t⟩]else[]):List Na).map Na.row)→
      ldN 8 (.p (S.n+3) 0 0) S1 fun v S1=>stN 8 (.p (S.n+1) 0 0) v S1 fun _ S2=>ldN 8 (.p (S.n+1) 0 0) S2 fun v _=>∃ r tr,AEnd.ret v = .ret r∧Keep S S2∧Cv (S2.frz (newer S.n)) S.n r tr∧∃ c:Ci,tr=c.av∧MadeC c∧c.gr.vars=varsL l:=by
   intro S1 k zn b1 b2 t fm wf ht wn
   rw[ldN_p (n:=8) fm.co rfl]
   refine stA_of fm.ro rfl rfl fun S2 n2 o2 f2=>?_
   rw[ldN_p (n:=8) o2 rfl]
   have wf2:=wf.fm (id:=S.n+1) (by omega) n2 f2
   have wn2:=wn.fm (id:=S.n+1) (by omega) n2 f2
   refine⟨_,_,rfl,fm.keep.st (by omega) n2 f2,?_,⟨inp,lats,g.ands,outs,bads,cons,fair,(if b1 then[⟨108,0,⟨#[113]⟩⟩]else[])++(if b2 then[⟨111,outs.length - 1,t⟩]else[])⟩,rfl,madeC_of pi.1 (by omega) (by omega) (by omega) hg (by rw[hgin,hll]) hga hgok hlat hou hbl hcl hfl (by omega) lb lc (by omega) ht,?_⟩
   rotate_left
   ·have hgi':g.inputs=inp+lats.length:=by rw[hgin,hll]
    have:(Ci.gr ⟨inp,lats,g.ands,outs,bads,cons,fair,(if b1 then[⟨108,0,⟨#[113]⟩⟩]else[])++(if b2 then[⟨111,outs.length - 1,t⟩]else[])⟩)=g:=by
     show(⟨IntKind.i64.wrap (inp+lats.length),g.ands⟩:Gr)=g
     rw[wrap64 (by omega) (by omega),←hgi']
    rw[this];exact hvars
   refine .a _ _ rfl fun k' u u2 e1 e2=>?_
   match k' with
   |0=>cases e1;cases e2;exact .v _
   |1=>cases e1;cases e2;exact treeP _ _ _
   |2=>cases e1;cases e2;exact treeP _ _ _
   |3=>cases e1;cases e2;exact treeI _ _ _
   |4=>cases e1;cases e2;exact treeI _ _ _
   |5=>cases e1;cases e2;exact treeI _ _ _
   |6=>cases e1;cases e2;exact own_cvI wf2 (wf2.fF (by omega))
   |7=>cases e1;cases e2;exact own_cvN wn2 (wn2.fF (by omega))
   |k+8=>simp at e1
  have snd:∀(S1:Store) (k:Nat) (zn:AV) (b1:Bool),k≤100→Fm S l S1 k [aI inp,pL lats,pL g.ands,aL aI outs,aL aI bads,aL aI cons,zf,zn]→Own (S.n+4) S1 zf 3 (fair.map fun p=>[aI p])→Apart zn zf→
      Own (S.n+4) S1 zn 130 (((if b1 then[⟨108,0,⟨#[113]⟩⟩]else[]):List Na).map Na.row)→0<outs.length→
      (∃ q182:AV,(∀ T:Store,Keep S1 T→shift (.p (S.n+3) 0 0) 7 T fun v S=>v=q182∧S=T)∧∃ q184:AV,(∀ T:Store,Keep S1 T→ld1 q182 T fun v S=>v=q184∧S=T)∧∃ q186:AV,(∀ T:Store,Keep S1 T→shift (.p (S.n+3) 0 0) 3 T fun v S=>v=q186∧S=T)∧
       ∃ q188:AV,(∀ T:Store,Keep S1 T→ld1 q186 T fun v S=>v=q188∧S=T)∧∃ q190:AV,(∀ T:Store,Keep S1 T→lenS q188 T fun v S=>v=q190∧S=T)∧∃ q192:AV,(∀ T:Store,Keep S1 T→bin .sub 0 q190 (.v (.int .i64 1)) T fun v S=>v=q192∧S=T)∧
       ∃ q194:AV,(∀ T:Store,Keep S1 T→bslN 9 1 3 [.v (.string ByteArray.empty)] [(0,(.v (.string { data:=#[111,117,116] }))),(1,(.v (.string { data:=#[108,49] }))),(2,(.v (.string { data:=#[97,45,98] })))] T fun v S=>v=q194∧S=T)∧
       callV Pg (pickF S) [.v (.int .i64 3)] S1 (fun v196 S1=>(∀ T:Store,Keep S1 T→bslN 9 1 3 [.v (.string ByteArray.empty)] [(0,(.v (.string { data:=#[111,117,116] }))),(1,(.v (.string { data:=#[108,49] }))),(2,(.v (.string { data:=#[97,45,98] })))] T fun v S=>v=q194∧S=T)∧
        (∀ T:Store,Keep S1 T→bin .sub 0 q190 (.v (.int .i64 1)) T fun v S=>v=q192∧S=T)∧(∀ T:Store,Keep S1 T→lenS q188 T fun v S=>v=q190∧S=T)∧(∀ T:Store,Keep S1 T→ld1 q186 T fun v S=>v=q188∧S=T)∧(∀ T:Store,Keep S1 T→shift (.p (S.n+3) 0 0) 3 T fun v S=>v=q186∧S=T)∧
        (∀ T:Store,Keep S1 T→ld1 q182 T fun v S=>v=q184∧S=T)∧(∀ T:Store,Keep S1 T→shift (.p (S.n+3) 0 0) 7 T fun v S=>v=q182∧S=T)∧
        ∃ q204:AV,(∀ T:Store,Keep S1 T→ixS 9 1 q194 v196 T fun v S=>v=q204∧S=T)∧∃ q206:AV,(∀ T:Store,Keep S1 T→ld1 q204 T fun v S=>v=q206∧S=T)∧
        ∃ q208:AV,(∀ T:Store,Keep S1 T→bld [(0,1),(1,1),(2,1)] [.v (.int .u8 0),.v (.int .i64 0),.v (.string ByteArray.empty)] [(0,(.v (.int .u8 111))),(1,q192),(2,q206)] T fun v S=>v=q208∧S=T)∧
        ∃ q210:AV,(∀ T:Store,Keep S1 T→bslN 130 3 1 [.v (.int .u8 0),.v (.int .i64 0),.v (.string ByteArray.empty)] [(0,q208)] T fun v S=>v=q210∧S=T)∧appS 130 3 32 q184 q210 S1 fun v212 S1 =>
        ∃ q213:AV,(∀ T:Store,Keep S1 T→shift (.p (S.n+3) 0 0) 7 T fun v S=>v=q213∧S=T)∧stN 1 q213 v212 S1 fun _ S1 =>
        ldN 8 (.p (S.n+3) 0 0) S1 fun v S1=>stN 8 (.p (S.n+1) 0 0) v S1 fun _ S2=>ldN 8 (.p (S.n+1) 0 0) S2 fun v _=>∃ r tr,AEnd.ret v = .ret r∧Keep S S2∧Cv (S2.frz (newer S.n)) S.n r tr∧∃ c:Ci,tr=c.av∧MadeC c∧c.gr.vars=varsL l) (fun _ _=>False)):=by
   intro S1 k zn b1 hk fm wf hap wn hol
   have hsub:∀(T:Store) (K:AV→Store→Prop),bin .sub 0 (aI outs.length) (.v (.int .i64 1)) T K=K (aI (outs.length - 1)) T:=fun T K=>bin_sub (by omega) (by omega) 0
   refine⟨_,fun T hT=>by rw[shift_p];exact⟨rfl,rfl⟩,zn,fun T hT=>by rw[ld1_p (fm.kT hT) rfl rfl];exact⟨rfl,rfl⟩,_,fun T hT=>by rw[shift_p];exact⟨rfl,rfl⟩,aL aI outs,fun T hT=>by rw[ld1_p (fm.kT hT) rfl rfl];exact⟨rfl,rfl⟩,aI outs.length,fun T hT=>by rw[lenS_aL];exact⟨rfl,rfl⟩,_,fun T hT=>by rw[hsub];exact⟨rfl,rfl⟩,
    _,fun T hT=>bsl3 rfl rfl rfl ⟨rfl,rfl⟩,?_⟩
   refine fm.pick hl (by decide) (by omega) fun S2 fm n2 f2=>?_
   have p3:=pickV_rng hl (k:=k) (n:=3) (by decide)
   generalize pickV l k 3=x at *
   obtain⟨x,rfl⟩:=Int.eq_ofNat_of_zero_le p3.1
   have wf2:=wf.fm (by omega) n2 f2
   have wn2:=wn.fm (by omega) n2 f2
   refine⟨fun T hT=>bsl3 rfl rfl rfl ⟨rfl,rfl⟩,fun T hT=>by rw[hsub];exact⟨rfl,rfl⟩,fun T hT=>by rw[lenS_aL];exact⟨rfl,rfl⟩,fun T hT=>by rw[ld1_p (fm.kT hT) rfl rfl];exact⟨rfl,rfl⟩,fun T hT=>by rw[shift_p];exact⟨rfl,rfl⟩,fun T hT=>by rw[ld1_p (fm.kT hT) rfl rfl];exact⟨rfl,rfl⟩,fun T hT=>by rw[shift_p];exact⟨rfl,rfl⟩,?_⟩
   obtain⟨t,ht,hx⟩:∃ t:ByteArray,(t=⟨#[111,117,116]⟩∨t=⟨#[108,49]⟩∨t=⟨#[97,45,98]⟩)∧∀(T:Store) (K:AV→Store→Prop),ixS 9 1 (.l [[.v (.string { data:=#[111,117,116] })],[.v (.string { data:=#[108,49] })],[.v (.string { data:=#[97,45,98] })]]) (aI x) T K=K (.q [.v (.string t)] 0) T:=by
    match x,p3 with
    |0,_=>exact⟨_,.inl rfl,fun T K=>ixS_l (i:=0) (by simp) rfl⟩
    |1,_=>exact⟨_,.inr (.inl rfl),fun T K=>ixS_l (i:=1) (by simp) rfl⟩
    |2,_=>exact⟨_,.inr (.inr rfl),fun T K=>ixS_l (i:=2) (by simp) rfl⟩
    |x+3,h=>omega
   refine⟨_,fun T hT=>by rw[hx];exact⟨rfl,rfl⟩,_,fun T hT=>by rw[ld1_q];exact⟨rfl,rfl⟩,_,fun T hT=>by rw[bld_of (cs:=[.v (.int .u8 111),aI (outs.length - 1),.v (.string t)]) rfl];exact⟨rfl,rfl⟩,_,fun T hT=>bslA3 ⟨rfl,rfl⟩,?_⟩
   refine wn2.app (by have:=fm.n;omega) (c:=[.v (.int .u8 111),aI (outs.length - 1),.v (.string t)]) rfl (by cases b1<;>simp) (fun z S4 w4 b4 hz=>?_) rfl
   have n4:=b4.1
   have hn3:=fm.n
   have o4:∀ x,x<S.n+4→S4.obj x=S2.obj x:=fun x hx=>b4.2 x (by omega) (fun b m e=>by have:=wn2.lt e;omega)
   refine⟨_,fun T hT=>by rw[shift_p];exact⟨rfl,rfl⟩,?_⟩
   replace fm:=fm.old n4 o4
   have wf4:=wf2.but b4 hap
   refine fm.st (by simp) (own_one w4) fun S5 fm n5 f5=>?_
   refine fin S5 _ z b1 true t fm (wf4.fm (by omega) n5 f5) (fun _=>⟨hol,ht⟩) ?_
   have w5:=w4.fm (by omega) n5 f5
   rw[List.map_append]
   exact w5
  refine fm.pick hl (by decide) (by omega) fun S2 fm n2 f2=>?_
  have wf2:=wf.fm (by omega) n2 f2
  have p3:=pickV_rng hl (k:=k) (n:=3) (by decide)
  generalize pickV l k 3=x3 at *
  rw[bin_gtr,onB_v]
  refine gd_of (fun hx=>?_) (fun hx=>?_)
  ·rw[shift_p,ld1_p fm.co rfl rfl,bld_of (cs:=[.v (.int .u8 108),aI 0,.v (.string ⟨#[113]⟩)]) rfl]
   refine bslA3 ?_
   refine(Own.nl (S.n+4) S2 130).app (by have:=fm.n;omega) (c:=[.v (.int .u8 108),aI 0,.v (.string ⟨#[113]⟩)]) rfl (by simp) (fun z S4 w4 b4 hz=>?_) rfl
   have n4:=b4.1
   have hn3:=fm.n
   have o4:∀ x,x<S2.n→S4.obj x=S2.obj x:=fun x hx=>b4.2 x (by omega) (fun b m e=>by cases e)
   rw[shift_p]
   replace fm:=fm.old n4 fun x hx=>o4 x (by omega)
   have wf4:=wf2.but b4 (fun _ _ _ _ _ e=>by cases e)
   obtain⟨mz,hmz⟩:=hz
   have hap:Apart z zf:=fun i b m b' m' e e'=>by
    rw[hmz]at e;injection e with e
    have:=wf2.lt e';omega
   refine fm.st (by simp) (own_one w4) fun S5 fm n5 f5=>?_
   have w5:Own (S.n+4) S5 z 130 ([⟨108,0,⟨#[113]⟩⟩].map Na.row):=w4.fm (by omega) n5 f5
   have wf5:=wf4.fm (by omega) n5 f5
   rw[shift_p,ld1_p fm.co rfl rfl,lenS_aL,bin_gtr,onB_v]
   refine gd_of (fun ho=>?_) (fun ho=>fin S5 _ z true false ⟨#[]⟩ fm wf5 (fun h=>by cases h) w5)
   have ho:0<outs.length:=by have:=dT ho;omega
   refine fm.pick hl (by decide) (by omega) fun S6 fm n6 f6=>?_
   have w6:=w5.fm (by omega) n6 f6
   have wf6:=wf5.fm (by omega) n6 f6
   rw[bin_gtr,onB_v]
   refine gd_of (fun _=>?_) (fun _=>fin S6 _ z true false ⟨#[]⟩ fm wf6 (fun h=>by cases h) w6)
   exact snd S6 _ z true (by omega) fm wf6 hap w6 ho
  ·rw[shift_p,ld1_p fm.co rfl rfl,lenS_aL,bin_gtr,onB_v]
   refine gd_of (fun ho=>?_) (fun ho=>fin S2 _ .nl false false ⟨#[]⟩ fm wf2 (fun h=>by cases h) (Own.nl _ _ _))
   have ho:0<outs.length:=by have:=dT ho;omega
   refine fm.pick hl (by decide) (by omega) fun S6 fm n6 f6=>?_
   have wf6:=wf2.fm (by omega) n6 f6
   rw[bin_gtr,onB_v]
   refine gd_of (fun _=>?_) (fun _=>fin S6 _ .nl false false ⟨#[]⟩ fm wf6 (fun h=>by cases h) (Own.nl _ _ _))
   exact snd S6 _ .nl false (by omega) fm wf6 (fun _ _ _ _ _ e=>by cases e) (Own.nl _ _ _) ho
 have last4:∀(S':Store) (k:Nat) (zo zb zc:AV) (bads cons:List Int),k≤24→Fm S l S' k [aI inp,pL lats,pL g.ands,zo,zb,zc,.nl,.nl]→Own (S.n+4) S' zo 3 (outs.map fun p=>[aI p])→Own (S.n+4) S' zb 3 (bads.map fun p=>[aI p])→Own (S.n+4) S' zc 3 (cons.map fun p=>[aI p])→
     bads.length≤1→cons.length≤1→(∀ x∈bads,g.lit x=true)→(∀ x∈cons,g.lit x=true)→∀ X,
     callV Pg (pickF S) [.v (.int .i64 4)] S' (fun v S'=>bin .quo 0 v (.v (.int .i64 2)) S' fun v S'=>loopV lv48_3 (vc Pg (c48.at_ [1,1,1,1,1,1,1,1,1,1,1,1,1,1,1,0,1,0,0]) (ms48.drop 4)) 156 (env48_3 (.p (S.n+1) 0 0) (pickF S) (.p (S.n+3) 0 0) (aI (2*g.vars)) v) S'
      (blockK 6 (seqK (vc Pg (c48.at_ [1,1,1,1,1,1,1,1,1,1,1,1,1,1,1,1]) (ms48.drop 4)) (bodyK Pg r48 fun e S'=>∃ r tr,e = .ret r∧Keep S S'∧Cv (S'.frz (newer S.n)) S.n r tr∧∃ c:Ci,tr=c.av∧MadeC c∧c.gr.vars=varsL l)))) X:=by
  intro S' k zo zb zc bads cons hk fm wo wb wc lb lc hbl hcl X
  refine fm.pick hl (by decide) (by omega) fun S2 fm n2 f2=>?_
  have p4:=pickV_rng hl (k:=k) (n:=4) (by decide)
  generalize pickV l k 4=x4 at *
  have hd:0≤x4.tdiv 2∧x4.tdiv 2≤1:=by rw[Int.tdiv_eq_ediv_of_nonneg p4.1];omega
  rw[bin_quo (by decide) (by omega) (by omega)]
  obtain⟨r0,hr0⟩:=Int.eq_ofNat_of_zero_le hd.1
  rw[hr0]
  exact tail S2 _ zo zb zc bads cons r0 (by omega) (by omega) fm (wo.fm (by omega) n2 f2) (wb.fm (by omega) n2 f2) (wc.fm (by omega) n2 f2) lb lc hbl hcl
 have cons3:∀(S':Store) (k:Nat) (zo zb:AV) (bads:List Int),k≤22→Fm S l S' k [aI inp,pL lats,pL g.ands,zo,zb,.nl,.nl,.nl]→Own (S.n+4) S' zo 3 (outs.map fun p=>[aI p])→Own (S.n+4) S' zb 3 (bads.map fun p=>[aI p])→
     bads.length≤1→(∀ x∈bads,g.lit x=true)→∀ X:AV→Store→Prop,
     callV Pg (pickF S) [.v (.int .i64 3)] S' (fun v S'=>bin .eql 0 v (.v (.int .i64 0)) S' fun v S'=>onB v fun b=>gd b
      (∃ q111:AV,(∀ T:Store,Keep S' T→shift (.p (S.n+3) 0 0) 5 T fun v S=>v=q111∧S=T)∧∃ q113:AV,(∀ T:Store,Keep S' T→ld1 q111 T fun v S=>v=q113∧S=T)∧callV Pg (pickF S) [aI (2*g.vars)] S' (fun v115 S' =>
       (∀ T:Store,Keep S' T→ld1 q111 T fun v S=>v=q113∧S=T)∧(∀ T:Store,Keep S' T→shift (.p (S.n+3) 0 0) 5 T fun v S=>v=q111∧S=T)∧∃ q118:AV,(∀ T:Store,Keep S' T→bslN 3 1 1 [.v (.int .i64 0)] [(0,v115)] T fun v S=>v=q118∧S=T)∧appS 3 1 8 q113 q118 S' fun v120 S' =>
       ∃ q121:AV,(∀ T:Store,Keep S' T→shift (.p (S.n+3) 0 0) 5 T fun v S=>v=q121∧S=T)∧stN 1 q121 v120 S' fun _ S'=>callV Pg (pickF S) [.v (.int .i64 4)] S' (fun v S'=>bin .quo 0 v (.v (.int .i64 2)) S' fun v S'=>loopV lv48_3 (vc Pg (c48.at_ [1,1,1,1,1,1,1,1,1,1,1,1,1,1,1,0,1,0,0]) (ms48.drop 4)) 156 (env48_3 (.p (S.n+1) 0 0) (pickF S) (.p (S.n+3) 0 0) (aI (2*g.vars)) v) S'
      (blockK 6 (seqK (vc Pg (c48.at_ [1,1,1,1,1,1,1,1,1,1,1,1,1,1,1,1]) (ms48.drop 4)) (bodyK Pg r48 fun e S'=>∃ r tr,e = .ret r∧Keep S S'∧Cv (S'.frz (newer S.n)) S.n r tr∧∃ c:Ci,tr=c.av∧MadeC c∧c.gr.vars=varsL l)))) X) (fun _ _=>False))
      (callV Pg (pickF S) [.v (.int .i64 4)] S' (fun v S'=>bin .quo 0 v (.v (.int .i64 2)) S' fun v S'=>loopV lv48_3 (vc Pg (c48.at_ [1,1,1,1,1,1,1,1,1,1,1,1,1,1,1,0,1,0,0]) (ms48.drop 4)) 156 (env48_3 (.p (S.n+1) 0 0) (pickF S) (.p (S.n+3) 0 0) (aI (2*g.vars)) v) S'
      (blockK 6 (seqK (vc Pg (c48.at_ [1,1,1,1,1,1,1,1,1,1,1,1,1,1,1,1]) (ms48.drop 4)) (bodyK Pg r48 fun e S'=>∃ r tr,e = .ret r∧Keep S S'∧Cv (S'.frz (newer S.n)) S.n r tr∧∃ c:Ci,tr=c.av∧MadeC c∧c.gr.vars=varsL l)))) X)) X:=by
  intro S' k zo zb bads hk fm wo wb lb hbl X
  refine fm.pick hl (by decide) (by omega) fun S2 fm n2 f2=>?_
  have wo2:=wo.fm (by omega) n2 f2
  have wb2:=wb.fm (by omega) n2 f2
  rw[bin_eql,onB_v]
  refine gd_of (fun _=>?_) (fun _=>last4 S2 _ zo zb .nl bads [] (by omega) fm wo2 wb2 (Own.nl _ _ _) lb (by simp) hbl (fun _ h=>by cases h) X)
  refine⟨_,fun T hT=>by rw[shift_p];exact⟨rfl,rfl⟩,.nl,fun T hT=>by rw[ld1_p (fm.kT hT) rfl rfl];exact⟨rfl,rfl⟩,?_⟩
  refine fm.pick hl hvp (by omega) fun S3 fm n3 f3=>?_
  have pn:=plit (pickV_rng hl (k:=k+1) hvp)
  generalize pickV l (k+1) (2*g.vars)=n at *
  have hn1:∀ x∈[n],g.lit x=true:=fun x hx=>by rw[List.mem_singleton.1 hx];exact pn
  have wo3:=wo2.fm (by omega) n3 f3
  have wb3:=wb2.fm (by omega) n3 f3
  refine⟨fun T hT=>by rw[ld1_p (fm.kT hT) rfl rfl];exact⟨rfl,rfl⟩,fun T hT=>by rw[shift_p];exact⟨rfl,rfl⟩,_,fun T hT=>bsl1 rfl (fun _ h=>by cases h) ⟨rfl,rfl⟩,?_⟩
  refine(Own.nl (S.n+4) S3 3).app (by have:=fm.n;omega) (c:=[aI n]) rfl (by simp) (fun z S4 w4 b4 hz=>?_) rfl
  have n4:=b4.1
  have hn3:=fm.n
  have o4:∀ x,x<S3.n→S4.obj x=S3.obj x:=fun x hx=>b4.2 x (by omega) (fun b m e=>by cases e)
  refine⟨_,fun T hT=>by rw[shift_p];exact⟨rfl,rfl⟩,?_⟩
  replace fm:=fm.old n4 fun x hx=>o4 x (by omega)
  have wo4:=wo3.but b4 (fun _ _ _ _ _ e=>by cases e)
  have wb4:=wb3.but b4 (fun _ _ _ _ _ e=>by cases e)
  refine fm.st (by simp) (own_one w4) fun S5 fm n5 f5=>?_
  exact last4 S5 _ zo zb z bads [n] (by omega) fm (wo4.fm (by omega) n5 f5) (wb4.fm (by omega) n5 f5) (w4.fm (by omega) n5 f5) lb (by simp) hbl hn1 X
 refine fm.pick hl (by decide) (by omega) fun S2 fm n2 f2=>?_
 have wo2:=wo.fm (by omega) n2 f2
 rw[bin_eql,onB_v]
 refine gd_of (fun _=>?_) (fun _=>cons3 S2 _ zo .nl [] (by omega) fm wo2 (Own.nl _ _ _) (by simp) (fun _ h=>by cases h) _)
 refine⟨_,fun T hT=>by rw[shift_p];exact⟨rfl,rfl⟩,.nl,fun T hT=>by rw[ld1_p (fm.kT hT) rfl rfl];exact⟨rfl,rfl⟩,?_⟩
 refine fm.pick hl hvp (by omega) fun S3 fm n3 f3=>?_
 have pn:=plit (pickV_rng hl (k:=k+1) hvp)
 generalize pickV l (k+1) (2*g.vars)=n at *
 have hn1:∀ x∈[n],g.lit x=true:=fun x hx=>by rw[List.mem_singleton.1 hx];exact pn
 have wo3:=wo2.fm (by omega) n3 f3
 refine⟨fun T hT=>by rw[ld1_p (fm.kT hT) rfl rfl];exact⟨rfl,rfl⟩,fun T hT=>by rw[shift_p];exact⟨rfl,rfl⟩,_,fun T hT=>bsl1 rfl (fun _ h=>by cases h) ⟨rfl,rfl⟩,?_⟩
 refine(Own.nl (S.n+4) S3 3).app (by have:=fm.n;omega) (c:=[aI n]) rfl (by simp) (fun z S4 w4 b4 hz=>?_) rfl
 have n4:=b4.1
 have hn3:=fm.n
 have o4:∀ x,x<S3.n→S4.obj x=S3.obj x:=fun x hx=>b4.2 x (by omega) (fun b m e=>by cases e)
 refine⟨_,fun T hT=>by rw[shift_p];exact⟨rfl,rfl⟩,?_⟩
 replace fm:=fm.old n4 fun x hx=>o4 x (by omega)
 have wo4:=wo3.but b4 (fun _ _ _ _ _ e=>by cases e)
 refine fm.st (by simp) (own_one w4) fun S5 fm n5 f5=>?_
 exact cons3 S5 _ zo z [n] (by omega) fm (wo4.fm (by omega) n5 f5) (w4.fm (by omega) n5 f5) (by simp) hn1 _
theorem nextL_len(c:Ci)(v vs:List Bool):(nextL c v vs).length≤2 ^ c.inputs.toNat:=by
 simp only[nextL,List.length_map]
 have:=List.length_filter_le (fun x=>vs.getD ((afterV c v c.latches.length).toNat+x) false) (List.range (2 ^ c.inputs.toNat))
 simpa using this
structure SpSmall (s:Sp):Prop where
 h1:s.valid.length≤1024
 h2:s.initial.length≤1024
 h3:s.next.length≤1024
 h4:∀ r∈s.next,r.length≤1024
 h5:s.fair.length≤2000
 h6:∀ r∈s.fair,r.length≤1024
theorem spOf_small{c:Ci}(h:c.right=true)(h10:¬ 10<c.gr.inputs):SpSmall (spOf c):=by
 obtain⟨g1,g2,g3⟩:=gr_inp h
 have hR:=right_c.1 h
 have hN:2 ^ c.gr.inputs.toNat≤1024:=Nat.pow_le_pow_right (by decide) (show c.gr.inputs.toNat≤10 by omega)
 have hI:2 ^ c.inputs.toNat≤1024:=Nat.pow_le_pow_right (by decide) (show c.inputs.toNat≤10 by omega)
 refine⟨by simp only[spOf,validOf,List.length_map,List.length_range];exact hN,by simp only[spOf,List.length_map,List.length_range];exact hN,by simp only[spOf,List.length_map,List.length_range];exact hN,fun r hr=>?_,by simp only[spOf,List.length_map];exact hR.2.2.2.2.2.1,fun r hr=>?_⟩
 ·simp only[spOf,List.mem_map]at hr
  obtain⟨s,_,rfl⟩:=hr
  split
  ·have:=nextL_len c ((valsOf c).getD s []) (validOf c)
   omega
  ·simp
 ·simp only[spOf,List.mem_map]at hr
  obtain⟨s,_,rfl⟩:=hr
  rw[List.length_map,List.length_range]
  exact hN
def ca0:Ci:=⟨0,[(3,0)],[],[],[],[],[],[]⟩
theorem names0{c:Ci}(h:c.names = []):namesB c=true:=by
 simp only[namesB,decide_eq_true_eq]
 exact⟨fun i hi=>by simp[h]at hi,fun i hi=>by simp[h]at hi,by simp[h]⟩
theorem ca0_ok:ca0.ok:=by
 refine⟨⟨by decide,by decide⟩,by decide,by decide,fun p hp=>?_,(fun p hp=>by cases hp),⟨(fun _ h=>by cases h),by decide⟩,⟨(fun _ h=>by cases h),by decide⟩,⟨(fun _ h=>by cases h),by decide⟩,⟨(fun _ h=>by cases h),by decide⟩,(fun _ h=>by cases h),by decide⟩
 have:p=(3,0):=by simpa[ca0]using hp
 subst this
 exact⟨⟨by decide,by decide⟩,⟨by decide,by decide⟩⟩
theorem ca0_right:ca0.right=true:=by
 refine right_c.2 ⟨by decide,by decide,by decide,by decide,by decide,by decide,by decide,by decide,by decide,by decide,by decide,by decide,names0 rfl⟩
theorem callF_cv'{P:Program}{f:FuncId}{args args2:List AV}{r:AV}(h:Ans P f args2 r){S:Store}(hl:args.length=args2.length)(hcv:∀(k:Nat) (u u2:AV),args[k]? = some u→args2[k]? = some u2→Cv S S.n u u2){Q:AEnd→Store→Prop}{K:AV→Store→Prop}(k:K r S):callF P f args S Q K:=
 .inl (ACalls.conv hl hcv (ACalls.mono (h S) fun e S' h=>by obtain⟨rfl,rfl⟩:=h;exact k))
theorem cv_ci{S:Store}{n:Nat}{i l l':AV}(hi:Cv S n i i)(h:Cv S n l l'):Cv S n (.a [i,l,.nl,.nl,.nl,.nl,.nl,.nl]) (.a [i,l',.l [],.l [],.l [],.l [],.l [],.l []]):=
 .a _ _ rfl fun k u u2 hk hk2=>by
  match k with
  |0=>cases hk;cases hk2;exact hi
  |1=>cases hk;cases hk2;exact h
  |2|3|4|5|6|7=>cases hk;cases hk2;exact .nl
  |k+8=>simp at hk
theorem treeN(l:List Na):Tree (nL l):=Tree.l fun c hc u hu=>by
 obtain⟨a,ha,rfl⟩:=List.mem_map.1 hc
 unfold Na.row at hu
 simp only[List.mem_cons,List.not_mem_nil,or_false]at hu
 rcases hu with rfl|rfl|rfl<;>exact Tree.v _
theorem made_sp{c:Ci}(h1:c.right=true)(hi:c.inputs≤3)(hl:c.latches.length≤3):spaceB c=(spOf c,0)∧∃ m:Nat,c.inputs.toNat+c.latches.length=m∧m≤6∧c.gr.inputs=m∧c.inputs=(c.inputs.toNat:Int)∧(validOf c).length=2 ^ m∧(spOf c).initial.length=2 ^ m∧(spOf c).next.length=2 ^ m:=by
 obtain⟨g1,g2,g3⟩:=gr_inp h1
 have hin:=(right_c.1 h1).1
 refine⟨by rw[spaceB,if_neg (by rw[h1];decide),if_neg (by omega)],c.inputs.toNat+c.latches.length,rfl,by omega,by omega,by omega,?_,?_,?_⟩
 ·have:c.gr.inputs.toNat=c.inputs.toNat+c.latches.length:=by omega
  simp[validOf,this]
 ·have:c.gr.inputs.toNat=c.inputs.toNat+c.latches.length:=by omega
  simp[spOf,this]
 ·have:c.gr.inputs.toNat=c.inputs.toNat+c.latches.length:=by omega
  simp[spOf,this]
theorem pow_cast(m:Nat):((2:Int) ^ m)=((2 ^ m:Nat):Int):=by rw[Int.natCast_pow];rfl
section
variable {H:Type} {enc:TypeId × Value→H} {w:World} {sp:Nat→Bool} {held:Bool}
theorem i64_wf{n:Int}(h:(Lit.int .i64 n).wf=true):i64R n:=by
 simp[Lit.wf,IntKind.min,IntKind.max,IntKind.bits,IntKind.signed]at h
 exact⟨by omega,by omega⟩
theorem u8_wf{n:Int}(h:(Lit.int .u8 n).wf=true):0≤n∧n<256:=by
 simp[Lit.wf,IntKind.min,IntKind.max,IntKind.bits,IntKind.signed]at h
 omega
theorem u16_wf{n:Int}(h:(Lit.int .u16 n).wf=true):0≤n∧n<65536:=by
 simp[Lit.wf,IntKind.min,IntKind.max,IntKind.bits,IntKind.signed]at h
 omega
theorem opI:Opens enc Pg w sp held 3 1 (fun n:Int=>[aI n]) (fun n=>(Lit.int .i64 n).wf=true):=opens_int Tryz.underlying3
theorem opU:Opens enc Pg w sp held 5 1 (fun n:Int=>[AV.v (.int .u8 n)]) (fun n=>(Lit.int .u8 n).wf=true):=opens_int Tryz.underlying5
theorem opIs:Opens enc Pg w sp held 34 1 (fun l:List Int=>[aL aI l]) (fun l=>l.length≤maxLen∧∀ a∈l,(Lit.int .i64 a).wf=true):=opens_slice Tryz.underlying34 (by kernel_rfl) (by decide) opI
theorem opV:Opens enc Pg w sp held 126 1 (fun n:Int=>[aW16 n]) (fun n=>(Lit.int .u16 n).wf=true):=opens_int Tryz.underlying126
theorem opVs:Opens enc Pg w sp held 33 1 (fun l:List Int=>[aL aW16 l]) (fun l=>l.length≤maxLen∧∀ a∈l,(Lit.int .u16 a).wf=true):=opens_slice Tryz.underlying33 (by kernel_rfl) (by decide) opV
end
inductive Fo where
 |mk (kind:Int) (name:ByteArray) (lit:Int) (kids:List Fo)
def Fo.kind:Fo→Int|.mk k _ _ _=>k
def Fo.lit:Fo→Int|.mk _ _ l _=>l
theorem Fo.ind{P:Fo→Prop}(h:∀ k n l ks,(∀ f∈ks,P f)→P (.mk k n l ks))(f:Fo):P f:=
 Fo.rec (motive_1:=P) (motive_2:=fun l=>∀ f∈l,P f) (fun k n l ks ih=>h k n l ks ih) (fun f hf=>by cases hf)
  (fun a l ha hl f hf=>by
   rcases List.mem_cons.1 hf with rfl|hf
   ·exact ha
   ·exact hl f hf) f
mutual
def Fo.row:Fo→List AV
 |.mk k n l ks=>[aI k,.v (.string n),aI l,.l (Fo.rows ks)]
def Fo.rows:List Fo→List (List AV)
 |[]=>[]
 |f :: fs=>Fo.row f :: Fo.rows fs
end
def foL(l:List Fo):AV:=.l (l.map Fo.row)
theorem Fo.rows_map:∀ l:List Fo,Fo.rows l=l.map Fo.row
 |[]=>by rw[Fo.rows];rfl
 |f :: fs=>by rw[Fo.rows,Fo.rows_map fs];rfl
theorem Fo.row_mk(k:Int)(n:ByteArray)(l:Int)(ks:List Fo):Fo.row (.mk k n l ks) = [aI k,.v (.string n),aI l,foL ks]:=by rw[Fo.row,Fo.rows_map];rfl
def Fo.av(f:Fo):AV:=.a f.row
theorem Fo.row_len(f:Fo):f.row.length=4:=by cases f;rw[Fo.row_mk];rfl
inductive Fo.ok:Fo→Prop
 |mk (k:Int) (n:ByteArray) (l:Int) (ks:List Fo) (h1:i64R k) (h2:i64R l) (h3:n.size≤9223372036854775807) (h4:ks.length≤1000000) (h:∀ f∈ks,Fo.ok f):Fo.ok (.mk k n l ks)
def kidsN(k:Int):Int:=if k<1∨18<k then -1 else if k≤3 then 0 else if k=4∨9≤k∧k≤14 then 1 else 2
mutual
def Fo.mayB:Fo→Int→Bool
 |.mk k n l ks,d=>decide (0<d) && (decide (l=0∨0<l∧k=3) && (decide (n=(⟨#[]⟩:ByteArray)) && (decide ((ks.length:Int)=kidsN k) && Fo.mayBs ks (d - 1))))
def Fo.mayBs:List Fo→Int→Bool
 |[],_=>true
 |f :: fs,d=>Fo.mayB f d && Fo.mayBs fs d
end
theorem Fo.mayBs_all:∀(l:List Fo) (d:Int),Fo.mayBs l d=l.all fun f=>f.mayB d
 |[],d=>by rw[Fo.mayBs];rfl
 |f :: fs,d=>by rw[Fo.mayBs,Fo.mayBs_all fs];rfl
theorem Fo.mayB_mk(k:Int)(n:ByteArray)(l:Int)(ks:List Fo)(d:Int):Fo.mayB (.mk k n l ks) d=(decide (0<d) && (decide (l=0∨0<l∧k=3) && (decide (n=(⟨#[]⟩:ByteArray)) && (decide ((ks.length:Int)=kidsN k) && ks.all fun f=>f.mayB (d - 1))))):=by rw[Fo.mayB,Fo.mayBs_all]
mutual
def Fo.litsB(g:Gr):Fo→Bool
 |.mk k _ l ks=>(decide (k≠3) || g.lit l) && Fo.litsBs g ks
def Fo.litsBs(g:Gr):List Fo→Bool
 |[]=>true
 |f :: fs=>Fo.litsB g f && Fo.litsBs g fs
end
theorem Fo.litsBs_all(g:Gr):∀(l:List Fo),Fo.litsBs g l=l.all fun f=>f.litsB g
 |[]=>by rw[Fo.litsBs];rfl
 |f :: fs=>by rw[Fo.litsBs,Fo.litsBs_all g fs];rfl
theorem Fo.litsB_mk(g:Gr)(k:Int)(n:ByteArray)(l:Int)(ks:List Fo):Fo.litsB g (.mk k n l ks)=((decide (k≠3) || g.lit l) && ks.all fun f=>f.litsB g):=by rw[Fo.litsB,Fo.litsBs_all]
def mayC (c:Ci) (f:Fo):Bool:=c.right && (f.mayB 60 && f.litsB c.gr)
@[simp] theorem lenS_foL(l:List Fo){S:Store}{K:AV→Store→Prop}:lenS (foL l) S K=K (aI l.length) S:=by simp[foL]
theorem ixS_foL{l:List Fo}{e i:Nat}{S:Store}{K:AV→Store→Prop}(h:i<l.length):ixS e 4 (foL l) (aI i) S K=K (.q l[i].row 0) S:=by
 unfold foL
 rw[ixS_l (by simpa using h) (by simp[Fo.row_len])]
 simp
theorem ldN_q{c:List AV}{n:Nat}{S:Store}{K:AV→Store→Prop}(h:c.length=n):ldN n (.q c 0) S K=K (.a c) S:=by
 subst h
 simp[ldN,rdN,place]
section
variable {H:Type} {enc:TypeId × Value→H} {w:World} {sp:Nat→Bool} {held:Bool}
theorem opUs:Opens enc Pg w sp held 25 1 (fun l:List Int=>[aL (fun n=>AV.v (.int .u8 n)) l]) (fun l=>l.length≤maxLen∧∀ a∈l,(Lit.int .u8 a).wf=true):=opens_slice Tryz.underlying25 (by kernel_rfl) (by decide) opU
end
section
variable {H:Type} {enc:TypeId × Value→H} {w:World} {sp:Nat→Bool} {held:Bool}
end
inductive Tn where
 |mk (kind:Int) (state:Int) (back:Int) (states:List Int) (kids:List Tn)
theorem Tn.ind{P:Tn→Prop}(h:∀ k s b ss ks,(∀ t∈ks,P t)→P (.mk k s b ss ks))(t:Tn):P t:=
 Tn.rec (motive_1:=P) (motive_2:=fun l=>∀ t∈l,P t) (fun k s b ss ks ih=>h k s b ss ks ih) (fun t ht=>by cases ht)
  (fun a l ha hl t ht=>by
   rcases List.mem_cons.1 ht with rfl|ht
   ·exact ha
   ·exact hl t ht) t
mutual
def Tn.row:Tn→List AV
 |.mk k s b ss ks=>[aI k,aI s,aI b,aL aI ss,.l (Tn.rows ks)]
def Tn.rows:List Tn→List (List AV)
 |[]=>[]
 |t :: ts=>Tn.row t :: Tn.rows ts
end
def tnL(l:List Tn):AV:=.l (l.map Tn.row)
theorem Tn.rows_map:∀ l:List Tn,Tn.rows l=l.map Tn.row
 |[]=>by rw[Tn.rows];rfl
 |t :: ts=>by rw[Tn.rows,Tn.rows_map ts];rfl
theorem Tn.row_mk(k s b:Int)(ss:List Int)(ks:List Tn):Tn.row (.mk k s b ss ks) = [aI k,aI s,aI b,aL aI ss,tnL ks]:=by rw[Tn.row,Tn.rows_map];rfl
def Tn.av(t:Tn):AV:=.a t.row
theorem Tn.row_len(t:Tn):t.row.length=5:=by cases t;rw[Tn.row_mk];rfl
inductive Tn.got:Tn→Prop
 |mk (k s b:Int) (ss:List Int) (ks:List Tn) (h1:i64R k) (h2:i64R s) (h3:i64R b) (h4:ss.length≤maxLen) (h5:∀ x∈ss,i64R x) (h6:ks.length≤maxLen) (h:∀ t∈ks,Tn.got t):Tn.got (.mk k s b ss ks)
section
variable {H:Type} {enc:TypeId × Value→H} {w:World} {sp:Nat→Bool} {held:Bool}
set_option maxRecDepth 100000 in
theorem opTrN:∀ n,OpensN enc Pg w sp held n 37 5 Tn.row Tn.got∧OpensN enc Pg w sp held n 35 1 (fun l:List Tn=>[tnL l]) (fun l=>l.length≤maxLen∧∀ t∈l,Tn.got t):=by
 intro n
 induction n with
 |zero=>exact⟨OpensN.zero,OpensN.zero⟩
 |succ n ih =>
  refine⟨fun cs x h=>?_,opensN_slice Tryz.underlying35 (by kernel_rfl) (by decide) ih.1⟩
  obtain⟨hl,hf⟩:=trodN_struct Tryz.underlying37 h
  have h2:cs.length=5:=hl.trans (by kernel_rfl)
  have c1:Pg.cellsOf 3=1:=by kernel_rfl
  have c2:Pg.cellsOf 34=1:=by kernel_rfl
  have c3:Pg.cellsOf 35=1:=by kernel_rfl
  match cs,h2 with
  |[d0,d1,d2,d3,d4],_ =>
   simp only[List.mem_cons,List.not_mem_nil,or_false,forall_eq_or_imp,forall_eq,c1,c2,c3,List.drop_zero,List.drop_succ_cons,List.take_succ_cons,List.take_zero]at hf
   obtain⟨⟨y0,h0⟩,⟨y1,h1⟩,⟨y2,h2⟩,⟨y3,h3⟩,⟨y4,h4⟩⟩:=hf
   obtain⟨a0,q0,_,_,r0⟩:=opI n _ _ h0
   obtain⟨a1,q1,_,_,r1⟩:=opI n _ _ h1
   obtain⟨a2,q2,_,_,r2⟩:=opI n _ _ h2
   obtain⟨a3,q3,_,_,r3⟩:=opIs n _ _ h3
   obtain⟨a4,q4,_,_,r4⟩:=ih.2 _ _ h4
   refine⟨.mk a0 a1 a2 a3 a4,.mk _ _ _ _ _ (i64_wf q0) (i64_wf q1) (i64_wf q2) q3.1 (fun x hx=>i64_wf (q3.2 x hx)) q4.1 q4.2,Tn.row_len _,rfl,fun k u c hu hc=>?_⟩
   rw[Tn.row_mk]at hu
   match k,hu,hc with
   |0,hu,hc=>cases hu;cases hc;exact r0 0 _ _ rfl rfl
   |1,hu,hc=>cases hu;cases hc;exact r1 0 _ _ rfl rfl
   |2,hu,hc=>cases hu;cases hc;exact r2 0 _ _ rfl rfl
   |3,hu,hc=>cases hu;cases hc;exact r3 0 _ _ rfl rfl
   |4,hu,hc=>cases hu;cases hc;exact r4 0 _ _ rfl rfl
   |k+5,hu,_=>simp at hu
theorem opTr:Opens enc Pg w sp held 37 5 Tn.row Tn.got:=Opens.of fun n=>(opTrN n).1
end
section
set_option maxRecDepth 100000
def c42:Code:=(Tryz.f42.body).getD .skip
def r42:List ResultVar:=Tryz.f42.results.toList
def env42_0(y1 y2 y4 y5 y6:AV):List AV:=[y1,y2,y4,y5,y6]
def lv42_0:List Nat:=[1,2,4,5,6]
def ms42:List (List Nat):=[lv42_0,[]]
def m42(x0 x1:AV)(S:Store)(Q:PoT):Prop:=
 boxN 24 4 x0 S fun c S=>boxN 24 4 (.a [.v (.int .i64 0),.v (.string ByteArray.empty),.v (.int .i64 0),.nl]) S fun d S=>shift c 0 S fun e S=>ld1 e S fun f S=>bld [(0,1),(1,1),(2,1),(3,1)] [.v (.int .i64 0),.v (.string ByteArray.empty),.v (.int .i64 0),.nl] [(0,f)] S fun g S=>boxN 24 4 (.a [.v (.int .i64 0),.v (.string ByteArray.empty),.v (.int .i64 0),.nl]) S fun h S=>stN 4 h g S fun i S=>shift c 0 S fun k S=>ld1 k S fun l S=>bin .eql 0 l (.v (.int .i64 3)) S fun m S=>onB m fun b=>gd b (∃ n:AV,(∀ T:Store,Keep S T→shift c 1 T fun o S=>o=n∧S=T)∧∃ p:AV,(∀ T:Store,Keep S T→ld1 n T fun q S=>q=p∧S=T)∧∃ r:AV,(∀ T:Store,Keep S T→lenStr p T fun s S=>s=r∧S=T)∧∃ t:AV,(∀ T:Store,Keep S T→bin .mul 0 r (.v (.int .i64 7)) T fun u S=>u=t∧S=T)∧∃ w:AV,(∀ T:Store,Keep S T→shift c 1 T fun x S=>x=w∧S=T)∧∃ y:AV,(∀ T:Store,Keep S T→ld1 w T fun z S=>z=y∧S=T)∧∃ A:AV,(∀ T:Store,Keep S T→ixStr y (.v (.int .i64 0)) T fun B S=>B=A∧S=T)∧∃ C:AV,(∀ T:Store,Keep S T→convI .i64 A T fun D S=>D=C∧S=T)∧∃ E:AV,(∀ T:Store,Keep S T→bin .add 0 t C T fun F S=>F=E∧S=T)∧∃ G:AV,(∀ T:Store,Keep S T→mxI true x1 (.v (.int .i64 1)) T fun H S=>H=G∧S=T)∧∃ I:AV,(∀ T:Store,Keep S T→bin .rem 0 E G T fun J S=>J=I∧S=T)∧∃ K:AV,(∀ T:Store,Keep S T→shift h 2 T fun L S=>L=K∧S=T)∧stN 1 K I S fun M S=>loopV lv42_0 (vc Pg (c42.at_ [1,1,1,0,1,0,0]) (ms42.drop 1)) 46 (env42_0 x1 c d h (.v (.int .i64 0))) S (blockK 0 (seqK (vc Pg (c42.at_ [1,1,1,1]) (ms42.drop 1)) (bodyK Pg r42 Q)))) (loopV lv42_0 (vc Pg (c42.at_ [1,1,1,0,1,0,0]) (ms42.drop 1)) 46 (env42_0 x1 c d h (.v (.int .i64 0))) S (blockK 0 (seqK (vc Pg (c42.at_ [1,1,1,1]) (ms42.drop 1)) (bodyK Pg r42 Q))))
theorem calls42{x0 x1:AV}{S:Store}{Q:PoT}(h:m42 x0 x1 S Q):ACalls Pg 42 [x0,x1] S Q:=
 calls_of_vc (fn:=Tryz.f42) (c:=c42) (n:=46) Tryz.func42 (by kernel_rfl) (by kernel_rfl) (by kernel_rfl) ms42 (Eq.mpr (by kernel_rfl) h)
def b42_0(y1 y2 y4 y5 y6:AV)(S:Store)(KE0:KeT)(Q:PoT):Prop:=
 shift y2 3 S fun a S=>ld1 a S fun c S=>lenS c S fun d S=>bin .lss 0 y6 d S fun e S=>onB e fun b=>gd b (∃ f:AV,(∀ T:Store,Keep S T→shift y5 3 T fun g S=>g=f∧S=T)∧∃ h:AV,(∀ T:Store,Keep S T→ld1 f T fun i S=>i=h∧S=T)∧∃ k:AV,(∀ T:Store,Keep S T→shift y2 3 T fun l S=>l=k∧S=T)∧∃ m:AV,(∀ T:Store,Keep S T→ld1 k T fun n S=>n=m∧S=T)∧∃ o:AV,(∀ T:Store,Keep S T→ixS 24 4 m y6 T fun p S=>p=o∧S=T)∧∃ q:AV,(∀ T:Store,Keep S T→ldN 4 o T fun r S=>r=q∧S=T)∧∃ s:AV,(∀ T:Store,Keep S T→callF Pg 42 [q,y1] T (fun _ _=>False) fun t S=>t=s∧S=T)∧∃ u:AV,(∀ T:Store,Keep S T→bslN 24 4 1 [.v (.int .i64 0),.v (.string ByteArray.empty),.v (.int .i64 0),.nl] [(0,s)] T fun w S=>w=u∧S=T)∧appS 24 4 56 h u S fun x S=>∃ y:AV,(∀ T:Store,Keep S T→shift y5 3 T fun z S=>z=y∧S=T)∧stN 1 y x S fun A S=>bin .add 0 y6 (.v (.int .i64 1)) S fun B S=>KE0 46 (env42_0 y1 y2 y4 y5 B) S) (ldN 4 y5 S fun C S=>stN 4 y4 C S fun D S=>ldN 4 y4 S fun E _=>Q (.ret E) S)
theorem b42_0_eq(y1 y2 y4 y5 y6:AV)(S:Store)(KE0:KeT)(Q:PoT):vc Pg (c42.at_ [1,1,1,0,1,0,0]) (ms42.drop 1) (mkE 46 lv42_0 (env42_0 y1 y2 y4 y5 y6)) S (thenK (fgK lv42_0 KE0) (blockK 0 (seqK (vc Pg (c42.at_ [1,1,1,1]) (ms42.drop 1)) (bodyK Pg r42 Q))))=b42_0 y1 y2 y4 y5 y6 S KE0 Q:=by kernel_rfl
theorem loop42_0{y1 y2 y4 y5:AV}{y60:AV}{S:Store}{Q:PoT}(I:AV→Store→Prop)(μ:AV→Store→Nat)(h0:I y60 S)
    (hr:∀(y6:AV) (S:Store),I y6 S→∀ KE0:KeT,(∀(y6':AV) (S':Store),I y6' S'→μ y6' S'<μ y6 S→KE0 46 (env42_0 y1 y2 y4 y5 y6') S')→b42_0 y1 y2 y4 y5 y6 S KE0 Q):
    loopV lv42_0 (vc Pg (c42.at_ [1,1,1,0,1,0,0]) (ms42.drop 1)) 46 (env42_0 y1 y2 y4 y5 y60) S (blockK 0 (seqK (vc Pg (c42.at_ [1,1,1,1]) (ms42.drop 1)) (bodyK Pg r42 Q))):=by
 refine⟨fun n e S=>n=46∧∃ y6:AV,e=(env42_0 y1 y2 y4 y5 y6)∧I y6 S,fun _ e S=>μ (e.getD 4 .j) S,?_,?_⟩
 ·exact⟨_,_,Wk.refl _ _,rfl,_,rfl,h0⟩
 ·rintro _ e S ⟨rfl,y6,rfl,hI⟩
  exact(b42_0_eq _ _ _ _ _ _ _ _).mpr (hr y6 S hI _ (fun y6' S' hI' hm=>⟨_,_,Wk.refl _ _,⟨rfl,_,rfl,hI'⟩,hm⟩))
def c28:Code:=(Tryz.f28.body).getD .skip
def ms28:List (List Nat):=[[]]
def m28(x0 x1:AV)(S:Store)(Q:PoT):Prop:=
 boxN 42 8 x0 S fun c S=>boxN 24 4 x1 S fun d S=>ldN 8 c S fun e S=>ldN 4 d S fun f S=>callF Pg 55 [e,f] S Q fun g S=>un .not g S fun h S=>onB h fun b=>gd b (Q (.ret (.t [.nl,.v (.int .i64 1)])) S) (ldN 8 c S fun i S=>callF Pg 35 [i] S Q fun k S=>extr k 0 S fun l S=>extr k 1 S fun m S=>boxN 71 5 (.a [.v (.int .i64 0),.nl,.nl,.nl,.nl]) S fun n S=>stN 5 n l S fun o S=>bin .neq 0 m (.v (.int .i64 0)) S fun p S=>onB p fun b=>gd b (Q (.ret (.t [.nl,m])) S) (∃ q:AV,(∀ T:Store,Keep S T→ldN 8 c T fun r S=>r=q∧S=T)∧∃ s:AV,(∀ T:Store,Keep S T→ldN 5 n T fun u S=>u=s∧S=T)∧∃ w:AV,(∀ T:Store,Keep S T→ldN 5 n T fun x S=>x=w∧S=T)∧∃ y:AV,(∀ T:Store,Keep S T→shift n 1 T fun z S=>z=y∧S=T)∧∃ A:AV,(∀ T:Store,Keep S T→ld1 y T fun B S=>B=A∧S=T)∧∃ C:AV,(∀ T:Store,Keep S T→callF Pg 56 [w,A] T (fun _ _=>False) fun D S=>D=C∧S=T)∧∃ E:AV,(∀ T:Store,Keep S T→bld [(0,8),(8,5),(13,1)] [.v (.int .i64 0),.nl,.nl,.nl,.nl,.nl,.nl,.nl,.v (.int .i64 0),.nl,.nl,.nl,.nl,.nl] [(0,q),(1,s),(2,C)] T fun F S=>F=E∧S=T)∧boxN 105 14 E S fun G S=>ldN 4 d S fun H S=>callF Pg 57 [G,H] S Q fun I S=>Q (.ret (.t [I,.v (.int .i64 0)])) S))
theorem calls28{x0 x1:AV}{S:Store}{Q:PoT}(h:m28 x0 x1 S Q):ACalls Pg 28 [x0,x1] S Q:=
 calls_of_vc (fn:=Tryz.f28) (c:=c28) (n:=32) Tryz.func28 (by kernel_rfl) (by kernel_rfl) (by kernel_rfl) ms28 (Eq.mpr (by kernel_rfl) h)
def c57:Code:=(Tryz.f57.body).getD .skip
def r57:List ResultVar:=Tryz.f57.results.toList
def env57_0(y0 y3 y7 y8:AV):List AV:=[y0,y3,y7,y8]
def lv57_0:List Nat:=[0,3,7,8]
def ms57:List (List Nat):=[lv57_0,[]]
def m57(x0 x1:AV)(S:Store)(Q:PoT):Prop:=
 boxN 24 4 x1 S fun a S=>shift a 3 S fun c S=>ld1 c S fun d S=>lenS d S fun e S=>bin .gtr 0 e (.v (.int .i64 0)) S fun f S=>onB f fun b=>gd b (shift a 3 S fun g S=>ld1 g S fun h S=>ixS 24 4 h (.v (.int .i64 0)) S fun i S=>ldN 4 i S fun k S=>callF Pg 57 [x0,k] S Q fun l S=>shift a 3 S fun m S=>ld1 m S fun n S=>lenS n S fun o S=>bin .gtr 0 o (.v (.int .i64 1)) S fun p S=>onB p fun b=>gd b (shift a 3 S fun q S=>ld1 q S fun r S=>ixS 24 4 r (.v (.int .i64 1)) S fun s S=>ldN 4 s S fun t S=>callF Pg 57 [x0,t] S Q fun u S=>shift a 0 S fun w S=>ld1 w S fun x S=>bin .eql 0 x (.v (.int .i64 2)) S fun y S=>onB y fun b=>gd b (nilChk x0 S fun z S=>shift z 8 S fun A S=>shift A 1 S fun B S=>ld1 B S fun C S=>Q (.ret C) S) (bin .eql 0 x (.v (.int .i64 1)) S fun D S=>onB D fun b=>gd b (nilChk x0 S fun E S=>shift E 8 S fun F S=>shift F 1 S fun G S=>ld1 G S fun H S=>callF Pg 106 [x0,H] S Q fun I S=>Q (.ret I) S) (bin .eql 0 x (.v (.int .i64 4)) S fun J S=>onB J fun b=>gd b (callF Pg 106 [x0,l] S Q fun K S=>Q (.ret K) S) (bin .eql 0 x (.v (.int .i64 5)) S fun L S=>onB L fun b=>gd b (callF Pg 39 [l,u] S Q fun M S=>Q (.ret M) S) (bin .eql 0 x (.v (.int .i64 6)) S fun N S=>onB N fun b=>gd b (callF Pg 107 [l,u] S Q fun O S=>Q (.ret O) S) (bin .eql 0 x (.v (.int .i64 7)) S fun P S=>onB P fun b=>gd b (callF Pg 106 [x0,l] S Q fun R S=>callF Pg 107 [R,u] S Q fun T S=>Q (.ret T) S) (bin .eql 0 x (.v (.int .i64 8)) S fun U S=>onB U fun b=>gd b (callF Pg 39 [l,u] S Q fun V S=>callF Pg 107 [l,u] S Q fun W S=>callF Pg 106 [x0,W] S Q fun X S=>callF Pg 107 [V,X] S Q fun Y S=>Q (.ret Y) S) (bin .eql 0 x (.v (.int .i64 9)) S fun Z S=>onB Z fun b=>gd b (callF Pg 108 [x0,l] S Q fun a0 S=>Q (.ret a0) S) (bin .eql 0 x (.v (.int .i64 10)) S fun a1 S=>onB a1 fun b=>gd b (callF Pg 106 [x0,l] S Q fun a2 S=>callF Pg 108 [x0,a2] S Q fun a3 S=>callF Pg 106 [x0,a3] S Q fun a4 S=>Q (.ret a4) S) (bin .eql 0 x (.v (.int .i64 11)) S fun a5 S=>onB a5 fun b=>gd b (nilChk x0 S fun a6 S=>shift a6 8 S fun a7 S=>shift a7 1 S fun a8 S=>ld1 a8 S fun a9 S=>callF Pg 109 [x0,a9,l] S Q fun b0 S=>Q (.ret b0) S) (bin .eql 0 x (.v (.int .i64 12)) S fun b1 S=>onB b1 fun b=>gd b (callF Pg 106 [x0,l] S Q fun b2 S=>callF Pg 110 [x0,b2] S Q fun b3 S=>callF Pg 106 [x0,b3] S Q fun b4 S=>Q (.ret b4) S) (bin .eql 0 x (.v (.int .i64 13)) S fun b5 S=>onB b5 fun b=>gd b (callF Pg 110 [x0,l] S Q fun b7 S=>Q (.ret b7) S) (bin .eql 0 x (.v (.int .i64 14)) S fun b8 S=>onB b8 fun b=>gd b ((fun S0:Store=>∃ b9:AV,(nilChk x0 S fun c0 S=>c0=b9∧S=S0)∧∃ c1:AV,(shift b9 8 S fun c2 S=>c2=c1∧S=S0)∧∃ c3:AV,(shift c1 1 S fun c4 S=>c4=c3∧S=S0)∧∃ c5:AV,(ld1 c3 S fun c6 S=>c6=c5∧S=S0)∧∃ c7:AV,(callF Pg 106 [x0,l] S (fun _ _=>False) fun c8 S=>c8=c7∧S=S0)∧∃ c9:AV,(callF Pg 109 [x0,c5,c7] S (fun _ _=>False) fun d0 S=>d0=c9∧S=S0)∧∃ d1:AV,(callF Pg 106 [x0,c9] S (fun _ _=>False) fun d2 S=>d2=d1∧S=S0)∧Q (.ret d1) S) S) (bin .eql 0 x (.v (.int .i64 15)) S fun d3 S=>onB d3 fun b=>gd b (callF Pg 109 [x0,l,u] S Q fun d4 S=>Q (.ret d4) S) (bin .eql 0 x (.v (.int .i64 16)) S fun d5 S=>onB d5 fun b=>gd b (callF Pg 106 [x0,u] S Q fun d6 S=>callF Pg 107 [l,u] S Q fun d7 S=>callF Pg 106 [x0,d7] S Q fun d8 S=>callF Pg 109 [x0,d6,d8] S Q fun d9 S=>callF Pg 106 [x0,u] S Q fun e0 S=>callF Pg 110 [x0,e0] S Q fun e1 S=>callF Pg 107 [d9,e1] S Q fun e2 S=>callF Pg 106 [x0,e2] S Q fun e3 S=>Q (.ret e3) S) (bin .eql 0 x (.v (.int .i64 17)) S fun e4 S=>onB e4 fun b=>gd b (callF Pg 110 [x0,u] S Q fun e5 S=>callF Pg 39 [l,u] S Q fun e6 S=>callF Pg 109 [x0,u,e6] S Q fun e7 S=>callF Pg 107 [e5,e7] S Q fun e8 S=>Q (.ret e8) S) (bin .eql 0 x (.v (.int .i64 18)) S fun e9 S=>onB e9 fun b=>gd b (callF Pg 106 [x0,l] S Q fun f0 S=>callF Pg 106 [x0,u] S Q fun f1 S=>callF Pg 109 [x0,f0,f1] S Q fun f2 S=>callF Pg 106 [x0,f2] S Q fun f3 S=>Q (.ret f3) S) (loopV lv57_0 (vc Pg (c57.at_ [1,1,1,1,1,1,0,1,0,0]) (ms57.drop 1)) 214 (env57_0 x0 a .nl (.v (.int .i64 0))) S (blockK 1 (seqK (vc Pg (c57.at_ [1,1,1,1,1,1,1]) (ms57.drop 1)) (bodyK Pg r57 Q))))))))))))))))))))) (shift a 0 S fun f4 S=>ld1 f4 S fun f5 S=>bin .eql 0 f5 (.v (.int .i64 2)) S fun f6 S=>onB f6 fun b=>gd b (nilChk x0 S fun f7 S=>shift f7 8 S fun f8 S=>shift f8 1 S fun f9 S=>ld1 f9 S fun g0 S=>Q (.ret g0) S) (bin .eql 0 f5 (.v (.int .i64 1)) S fun g1 S=>onB g1 fun b=>gd b (nilChk x0 S fun g2 S=>shift g2 8 S fun g3 S=>shift g3 1 S fun g4 S=>ld1 g4 S fun g5 S=>callF Pg 106 [x0,g5] S Q fun g6 S=>Q (.ret g6) S) (bin .eql 0 f5 (.v (.int .i64 4)) S fun g7 S=>onB g7 fun b=>gd b (callF Pg 106 [x0,l] S Q fun g8 S=>Q (.ret g8) S) (bin .eql 0 f5 (.v (.int .i64 5)) S fun g9 S=>onB g9 fun b=>gd b (callF Pg 39 [l,.nl] S Q fun h0 S=>Q (.ret h0) S) (bin .eql 0 f5 (.v (.int .i64 6)) S fun h1 S=>onB h1 fun b=>gd b (callF Pg 107 [l,.nl] S Q fun h2 S=>Q (.ret h2) S) (bin .eql 0 f5 (.v (.int .i64 7)) S fun h3 S=>onB h3 fun b=>gd b (callF Pg 106 [x0,l] S Q fun h4 S=>callF Pg 107 [h4,.nl] S Q fun h5 S=>Q (.ret h5) S) (bin .eql 0 f5 (.v (.int .i64 8)) S fun h6 S=>onB h6 fun b=>gd b (callF Pg 39 [l,.nl] S Q fun h7 S=>callF Pg 107 [l,.nl] S Q fun h8 S=>callF Pg 106 [x0,h8] S Q fun h9 S=>callF Pg 107 [h7,h9] S Q fun i0 S=>Q (.ret i0) S) (bin .eql 0 f5 (.v (.int .i64 9)) S fun i1 S=>onB i1 fun b=>gd b (callF Pg 108 [x0,l] S Q fun i2 S=>Q (.ret i2) S) (bin .eql 0 f5 (.v (.int .i64 10)) S fun i3 S=>onB i3 fun b=>gd b (callF Pg 106 [x0,l] S Q fun i4 S=>callF Pg 108 [x0,i4] S Q fun i5 S=>callF Pg 106 [x0,i5] S Q fun i6 S=>Q (.ret i6) S) (bin .eql 0 f5 (.v (.int .i64 11)) S fun i7 S=>onB i7 fun b=>gd b (nilChk x0 S fun i8 S=>shift i8 8 S fun i9 S=>shift i9 1 S fun k0 S=>ld1 k0 S fun k1 S=>callF Pg 109 [x0,k1,l] S Q fun k2 S=>Q (.ret k2) S) (bin .eql 0 f5 (.v (.int .i64 12)) S fun k3 S=>onB k3 fun b=>gd b (callF Pg 106 [x0,l] S Q fun k4 S=>callF Pg 110 [x0,k4] S Q fun k5 S=>callF Pg 106 [x0,k5] S Q fun k6 S=>Q (.ret k6) S) (bin .eql 0 f5 (.v (.int .i64 13)) S fun k7 S=>onB k7 fun b=>gd b (callF Pg 110 [x0,l] S Q fun k8 S=>Q (.ret k8) S) (bin .eql 0 f5 (.v (.int .i64 14)) S fun k9 S=>onB k9 fun b=>gd b ((fun S0:Store=>∃ l0:AV,(nilChk x0 S fun l1 S=>l1=l0∧S=S0)∧∃ l2:AV,(shift l0 8 S fun l3 S=>l3=l2∧S=S0)∧∃ l4:AV,(shift l2 1 S fun l5 S=>l5=l4∧S=S0)∧∃ l6:AV,(ld1 l4 S fun l7 S=>l7=l6∧S=S0)∧∃ l8:AV,(callF Pg 106 [x0,l] S (fun _ _=>False) fun l9 S=>l9=l8∧S=S0)∧∃ aA:AV,(callF Pg 109 [x0,l6,l8] S (fun _ _=>False) fun aB S=>aB=aA∧S=S0)∧∃ aC:AV,(callF Pg 106 [x0,aA] S (fun _ _=>False) fun aD S=>aD=aC∧S=S0)∧Q (.ret aC) S) S) (bin .eql 0 f5 (.v (.int .i64 15)) S fun aE S=>onB aE fun b=>gd b (callF Pg 109 [x0,l,.nl] S Q fun aF S=>Q (.ret aF) S) (bin .eql 0 f5 (.v (.int .i64 16)) S fun aG S=>onB aG fun b=>gd b (callF Pg 106 [x0,.nl] S Q fun aH S=>callF Pg 107 [l,.nl] S Q fun aI S=>callF Pg 106 [x0,aI] S Q fun aJ S=>callF Pg 109 [x0,aH,aJ] S Q fun aK S=>callF Pg 106 [x0,.nl] S Q fun aL S=>callF Pg 110 [x0,aL] S Q fun aM S=>callF Pg 107 [aK,aM] S Q fun aN S=>callF Pg 106 [x0,aN] S Q fun aO S=>Q (.ret aO) S) (bin .eql 0 f5 (.v (.int .i64 17)) S fun aP S=>onB aP fun b=>gd b (callF Pg 110 [x0,.nl] S Q fun aQ S=>callF Pg 39 [l,.nl] S Q fun aR S=>callF Pg 109 [x0,.nl,aR] S Q fun aS S=>callF Pg 107 [aQ,aS] S Q fun aT S=>Q (.ret aT) S) (bin .eql 0 f5 (.v (.int .i64 18)) S fun aU S=>onB aU fun b=>gd b (callF Pg 106 [x0,l] S Q fun aV S=>callF Pg 106 [x0,.nl] S Q fun aW S=>callF Pg 109 [x0,aV,aW] S Q fun aX S=>callF Pg 106 [x0,aX] S Q fun aY S=>Q (.ret aY) S) (loopV lv57_0 (vc Pg (c57.at_ [1,1,1,1,1,1,0,1,0,0]) (ms57.drop 1)) 214 (env57_0 x0 a .nl (.v (.int .i64 0))) S (blockK 1 (seqK (vc Pg (c57.at_ [1,1,1,1,1,1,1]) (ms57.drop 1)) (bodyK Pg r57 Q)))))))))))))))))))))) (shift a 3 S fun aZ S=>ld1 aZ S fun bA S=>lenS bA S fun bB S=>bin .gtr 0 bB (.v (.int .i64 1)) S fun bC S=>onB bC fun b=>gd b (shift a 3 S fun bD S=>ld1 bD S fun bE S=>ixS 24 4 bE (.v (.int .i64 1)) S fun bF S=>ldN 4 bF S fun bG S=>callF Pg 57 [x0,bG] S Q fun bH S=>shift a 0 S fun bI S=>ld1 bI S fun bJ S=>bin .eql 0 bJ (.v (.int .i64 2)) S fun bK S=>onB bK fun b=>gd b (nilChk x0 S fun bL S=>shift bL 8 S fun bM S=>shift bM 1 S fun bN S=>ld1 bN S fun bO S=>Q (.ret bO) S) (bin .eql 0 bJ (.v (.int .i64 1)) S fun bP S=>onB bP fun b=>gd b (nilChk x0 S fun bQ S=>shift bQ 8 S fun bR S=>shift bR 1 S fun bS S=>ld1 bS S fun bT S=>callF Pg 106 [x0,bT] S Q fun bU S=>Q (.ret bU) S) (bin .eql 0 bJ (.v (.int .i64 4)) S fun bV S=>onB bV fun b=>gd b (callF Pg 106 [x0,.nl] S Q fun bW S=>Q (.ret bW) S) (bin .eql 0 bJ (.v (.int .i64 5)) S fun bX S=>onB bX fun b=>gd b (callF Pg 39 [.nl,bH] S Q fun bY S=>Q (.ret bY) S) (bin .eql 0 bJ (.v (.int .i64 6)) S fun bZ S=>onB bZ fun b=>gd b (callF Pg 107 [.nl,bH] S Q fun cA S=>Q (.ret cA) S) (bin .eql 0 bJ (.v (.int .i64 7)) S fun cB S=>onB cB fun b=>gd b (callF Pg 106 [x0,.nl] S Q fun cC S=>callF Pg 107 [cC,bH] S Q fun cD S=>Q (.ret cD) S) (bin .eql 0 bJ (.v (.int .i64 8)) S fun cE S=>onB cE fun b=>gd b (callF Pg 39 [.nl,bH] S Q fun cF S=>callF Pg 107 [.nl,bH] S Q fun cG S=>callF Pg 106 [x0,cG] S Q fun cH S=>callF Pg 107 [cF,cH] S Q fun cI S=>Q (.ret cI) S) (bin .eql 0 bJ (.v (.int .i64 9)) S fun cJ S=>onB cJ fun b=>gd b (callF Pg 108 [x0,.nl] S Q fun cK S=>Q (.ret cK) S) (bin .eql 0 bJ (.v (.int .i64 10)) S fun cL S=>onB cL fun b=>gd b (callF Pg 106 [x0,.nl] S Q fun cM S=>callF Pg 108 [x0,cM] S Q fun cN S=>callF Pg 106 [x0,cN] S Q fun cO S=>Q (.ret cO) S) (bin .eql 0 bJ (.v (.int .i64 11)) S fun cP S=>onB cP fun b=>gd b (nilChk x0 S fun cQ S=>shift cQ 8 S fun cR S=>shift cR 1 S fun cS S=>ld1 cS S fun cT S=>callF Pg 109 [x0,cT,.nl] S Q fun cU S=>Q (.ret cU) S) (bin .eql 0 bJ (.v (.int .i64 12)) S fun cV S=>onB cV fun b=>gd b (callF Pg 106 [x0,.nl] S Q fun cW S=>callF Pg 110 [x0,cW] S Q fun cX S=>callF Pg 106 [x0,cX] S Q fun cY S=>Q (.ret cY) S) (bin .eql 0 bJ (.v (.int .i64 13)) S fun cZ S=>onB cZ fun b=>gd b (callF Pg 110 [x0,.nl] S Q fun dA S=>Q (.ret dA) S) (bin .eql 0 bJ (.v (.int .i64 14)) S fun dB S=>onB dB fun b=>gd b ((fun S0:Store=>∃ dC:AV,(nilChk x0 S fun dD S=>dD=dC∧S=S0)∧∃ dE:AV,(shift dC 8 S fun dF S=>dF=dE∧S=S0)∧∃ dG:AV,(shift dE 1 S fun dH S=>dH=dG∧S=S0)∧∃ dI:AV,(ld1 dG S fun dJ S=>dJ=dI∧S=S0)∧∃ dK:AV,(callF Pg 106 [x0,.nl] S (fun _ _=>False) fun dL S=>dL=dK∧S=S0)∧∃ dM:AV,(callF Pg 109 [x0,dI,dK] S (fun _ _=>False) fun dN S=>dN=dM∧S=S0)∧∃ dO:AV,(callF Pg 106 [x0,dM] S (fun _ _=>False) fun dP S=>dP=dO∧S=S0)∧Q (.ret dO) S) S) (bin .eql 0 bJ (.v (.int .i64 15)) S fun dQ S=>onB dQ fun b=>gd b (callF Pg 109 [x0,.nl,bH] S Q fun dR S=>Q (.ret dR) S) (bin .eql 0 bJ (.v (.int .i64 16)) S fun dS S=>onB dS fun b=>gd b (callF Pg 106 [x0,bH] S Q fun dT S=>callF Pg 107 [.nl,bH] S Q fun dU S=>callF Pg 106 [x0,dU] S Q fun dV S=>callF Pg 109 [x0,dT,dV] S Q fun dW S=>callF Pg 106 [x0,bH] S Q fun dX S=>callF Pg 110 [x0,dX] S Q fun dY S=>callF Pg 107 [dW,dY] S Q fun dZ S=>callF Pg 106 [x0,dZ] S Q fun eA S=>Q (.ret eA) S) (bin .eql 0 bJ (.v (.int .i64 17)) S fun eB S=>onB eB fun b=>gd b (callF Pg 110 [x0,bH] S Q fun eC S=>callF Pg 39 [.nl,bH] S Q fun eD S=>callF Pg 109 [x0,bH,eD] S Q fun eE S=>callF Pg 107 [eC,eE] S Q fun eF S=>Q (.ret eF) S) (bin .eql 0 bJ (.v (.int .i64 18)) S fun eG S=>onB eG fun b=>gd b (callF Pg 106 [x0,.nl] S Q fun eH S=>callF Pg 106 [x0,bH] S Q fun eI S=>callF Pg 109 [x0,eH,eI] S Q fun eJ S=>callF Pg 106 [x0,eJ] S Q fun eK S=>Q (.ret eK) S) (loopV lv57_0 (vc Pg (c57.at_ [1,1,1,1,1,1,0,1,0,0]) (ms57.drop 1)) 214 (env57_0 x0 a .nl (.v (.int .i64 0))) S (blockK 1 (seqK (vc Pg (c57.at_ [1,1,1,1,1,1,1]) (ms57.drop 1)) (bodyK Pg r57 Q))))))))))))))))))))) (shift a 0 S fun eL S=>ld1 eL S fun eM S=>bin .eql 0 eM (.v (.int .i64 2)) S fun eN S=>onB eN fun b=>gd b (nilChk x0 S fun eO S=>shift eO 8 S fun eP S=>shift eP 1 S fun eQ S=>ld1 eQ S fun eR S=>Q (.ret eR) S) (bin .eql 0 eM (.v (.int .i64 1)) S fun eS S=>onB eS fun b=>gd b (nilChk x0 S fun eT S=>shift eT 8 S fun eU S=>shift eU 1 S fun eV S=>ld1 eV S fun eW S=>callF Pg 106 [x0,eW] S Q fun eX S=>Q (.ret eX) S) (bin .eql 0 eM (.v (.int .i64 4)) S fun eY S=>onB eY fun b=>gd b (callF Pg 106 [x0,.nl] S Q fun eZ S=>Q (.ret eZ) S) (bin .eql 0 eM (.v (.int .i64 5)) S fun fA S=>onB fA fun b=>gd b (callF Pg 39 [.nl,.nl] S Q fun fB S=>Q (.ret fB) S) (bin .eql 0 eM (.v (.int .i64 6)) S fun fC S=>onB fC fun b=>gd b (callF Pg 107 [.nl,.nl] S Q fun fD S=>Q (.ret fD) S) (bin .eql 0 eM (.v (.int .i64 7)) S fun fE S=>onB fE fun b=>gd b (callF Pg 106 [x0,.nl] S Q fun fF S=>callF Pg 107 [fF,.nl] S Q fun fG S=>Q (.ret fG) S) (bin .eql 0 eM (.v (.int .i64 8)) S fun fH S=>onB fH fun b=>gd b (callF Pg 39 [.nl,.nl] S Q fun fI S=>callF Pg 107 [.nl,.nl] S Q fun fJ S=>callF Pg 106 [x0,fJ] S Q fun fK S=>callF Pg 107 [fI,fK] S Q fun fL S=>Q (.ret fL) S) (bin .eql 0 eM (.v (.int .i64 9)) S fun fM S=>onB fM fun b=>gd b (callF Pg 108 [x0,.nl] S Q fun fN S=>Q (.ret fN) S) (bin .eql 0 eM (.v (.int .i64 10)) S fun fO S=>onB fO fun b=>gd b (callF Pg 106 [x0,.nl] S Q fun fP S=>callF Pg 108 [x0,fP] S Q fun fQ S=>callF Pg 106 [x0,fQ] S Q fun fR S=>Q (.ret fR) S) (bin .eql 0 eM (.v (.int .i64 11)) S fun fS S=>onB fS fun b=>gd b (nilChk x0 S fun fT S=>shift fT 8 S fun fU S=>shift fU 1 S fun fV S=>ld1 fV S fun fW S=>callF Pg 109 [x0,fW,.nl] S Q fun fX S=>Q (.ret fX) S) (bin .eql 0 eM (.v (.int .i64 12)) S fun fY S=>onB fY fun b=>gd b (callF Pg 106 [x0,.nl] S Q fun fZ S=>callF Pg 110 [x0,fZ] S Q fun gA S=>callF Pg 106 [x0,gA] S Q fun gB S=>Q (.ret gB) S) (bin .eql 0 eM (.v (.int .i64 13)) S fun gC S=>onB gC fun b=>gd b (callF Pg 110 [x0,.nl] S Q fun gD S=>Q (.ret gD) S) (bin .eql 0 eM (.v (.int .i64 14)) S fun gE S=>onB gE fun b=>gd b ((fun S0:Store=>∃ gF:AV,(nilChk x0 S fun gG S=>gG=gF∧S=S0)∧∃ gH:AV,(shift gF 8 S fun gI S=>gI=gH∧S=S0)∧∃ gJ:AV,(shift gH 1 S fun gK S=>gK=gJ∧S=S0)∧∃ gL:AV,(ld1 gJ S fun gM S=>gM=gL∧S=S0)∧∃ gN:AV,(callF Pg 106 [x0,.nl] S (fun _ _=>False) fun gO S=>gO=gN∧S=S0)∧∃ gP:AV,(callF Pg 109 [x0,gL,gN] S (fun _ _=>False) fun gQ S=>gQ=gP∧S=S0)∧∃ gR:AV,(callF Pg 106 [x0,gP] S (fun _ _=>False) fun gS S=>gS=gR∧S=S0)∧Q (.ret gR) S) S) (bin .eql 0 eM (.v (.int .i64 15)) S fun gT S=>onB gT fun b=>gd b (callF Pg 109 [x0,.nl,.nl] S Q fun gU S=>Q (.ret gU) S) (bin .eql 0 eM (.v (.int .i64 16)) S fun gV S=>onB gV fun b=>gd b (callF Pg 106 [x0,.nl] S Q fun gW S=>callF Pg 107 [.nl,.nl] S Q fun gX S=>callF Pg 106 [x0,gX] S Q fun gY S=>callF Pg 109 [x0,gW,gY] S Q fun gZ S=>callF Pg 106 [x0,.nl] S Q fun hA S=>callF Pg 110 [x0,hA] S Q fun hB S=>callF Pg 107 [gZ,hB] S Q fun hC S=>callF Pg 106 [x0,hC] S Q fun hD S=>Q (.ret hD) S) (bin .eql 0 eM (.v (.int .i64 17)) S fun hE S=>onB hE fun b=>gd b (callF Pg 110 [x0,.nl] S Q fun hF S=>callF Pg 39 [.nl,.nl] S Q fun hG S=>callF Pg 109 [x0,.nl,hG] S Q fun hH S=>callF Pg 107 [hF,hH] S Q fun hI S=>Q (.ret hI) S) (bin .eql 0 eM (.v (.int .i64 18)) S fun hJ S=>onB hJ fun b=>gd b (callF Pg 106 [x0,.nl] S Q fun hK S=>callF Pg 106 [x0,.nl] S Q fun hL S=>callF Pg 109 [x0,hK,hL] S Q fun hM S=>callF Pg 106 [x0,hM] S Q fun hN S=>Q (.ret hN) S) (loopV lv57_0 (vc Pg (c57.at_ [1,1,1,1,1,1,0,1,0,0]) (ms57.drop 1)) 214 (env57_0 x0 a .nl (.v (.int .i64 0))) S (blockK 1 (seqK (vc Pg (c57.at_ [1,1,1,1,1,1,1]) (ms57.drop 1)) (bodyK Pg r57 Q))))))))))))))))))))))
theorem calls57{x0 x1:AV}{S:Store}{Q:PoT}(h:m57 x0 x1 S Q):ACalls Pg 57 [x0,x1] S Q:=
 calls_of_vc (fn:=Tryz.f57) (c:=c57) (n:=214) Tryz.func57 (by kernel_rfl) (by kernel_rfl) (by kernel_rfl) ms57 (Eq.mpr (by kernel_rfl) h)
def b57_0(y0 y3 y7 y8:AV)(S:Store)(KE0:KeT)(Q:PoT):Prop:=
 nilChk y0 S fun a S=>shift a 8 S fun c S=>shift c 1 S fun d S=>ld1 d S fun e S=>lenS e S fun f S=>bin .lss 0 y8 f S fun g S=>onB g fun b=>gd b (∃ h:AV,(∀ T:Store,Keep S T→nilChk y0 T fun i S=>i=h∧S=T)∧∃ k:AV,(∀ T:Store,Keep S T→shift h 8 T fun l S=>l=k∧S=T)∧∃ m:AV,(∀ T:Store,Keep S T→shift k 1 T fun n S=>n=m∧S=T)∧∃ o:AV,(∀ T:Store,Keep S T→ld1 m T fun p S=>p=o∧S=T)∧∃ q:AV,(∀ T:Store,Keep S T→ixS 4 1 o y8 T fun r S=>r=q∧S=T)∧∃ s:AV,(∀ T:Store,Keep S T→ld1 q T fun t S=>t=s∧S=T)∧onB s fun b=>gd b (∃ u:AV,(∀ T:Store,Keep S T→nilChk y0 T fun w S=>w=u∧S=T)∧∃ x:AV,(∀ T:Store,Keep S T→shift u 0 T fun y S=>y=x∧S=T)∧∃ z:AV,(∀ T:Store,Keep S T→ldN 8 x T fun A S=>A=z∧S=T)∧∃ B:AV,(∀ T:Store,Keep S T→shift y3 2 T fun C S=>C=B∧S=T)∧∃ D:AV,(∀ T:Store,Keep S T→ld1 B T fun E S=>E=D∧S=T)∧∃ F:AV,(∀ T:Store,Keep S T→callF Pg 68 [z,y8,D] T (fun _ _=>False) fun G S=>G=F∧S=T)∧∃ H:AV,(∀ T:Store,Keep S T→F=H∧T=T)∧∃ I:AV,(∀ T:Store,Keep S T→bslN 4 1 1 [.v (.bool false)] [(0,H)] T fun J S=>J=I∧S=T)∧appS 4 1 1 y7 I S fun K S=>bin .add 0 y8 (.v (.int .i64 1)) S fun L S=>KE0 214 (env57_0 y0 y3 K L) S) (∃ M:AV,(∀ T:Store,Keep S T→(.v (.bool false))=M∧T=T)∧∃ N:AV,(∀ T:Store,Keep S T→bslN 4 1 1 [.v (.bool false)] [(0,M)] T fun O S=>O=N∧S=T)∧appS 4 1 1 y7 N S fun P S=>bin .add 0 y8 (.v (.int .i64 1)) S fun R S=>KE0 214 (env57_0 y0 y3 P R) S)) (Q (.ret y7) S)
theorem b57_0_eq(y0 y3 y7 y8:AV)(S:Store)(KE0:KeT)(Q:PoT):vc Pg (c57.at_ [1,1,1,1,1,1,0,1,0,0]) (ms57.drop 1) (mkE 214 lv57_0 (env57_0 y0 y3 y7 y8)) S (thenK (fgK lv57_0 KE0) (blockK 1 (seqK (vc Pg (c57.at_ [1,1,1,1,1,1,1]) (ms57.drop 1)) (bodyK Pg r57 Q))))=b57_0 y0 y3 y7 y8 S KE0 Q:=by kernel_rfl
theorem loop57_0{y0 y3:AV}{y70 y80:AV}{S:Store}{Q:PoT}(I:AV→AV→Store→Prop)(μ:AV→AV→Store→Nat)(h0:I y70 y80 S)
    (hr:∀(y7 y8:AV) (S:Store),I y7 y8 S→∀ KE0:KeT,(∀(y7' y8':AV) (S':Store),I y7' y8' S'→μ y7' y8' S'<μ y7 y8 S→KE0 214 (env57_0 y0 y3 y7' y8') S')→b57_0 y0 y3 y7 y8 S KE0 Q):
    loopV lv57_0 (vc Pg (c57.at_ [1,1,1,1,1,1,0,1,0,0]) (ms57.drop 1)) 214 (env57_0 y0 y3 y70 y80) S (blockK 1 (seqK (vc Pg (c57.at_ [1,1,1,1,1,1,1]) (ms57.drop 1)) (bodyK Pg r57 Q))):=by
 refine⟨fun n e S=>n=214∧∃ y7 y8:AV,e=(env57_0 y0 y3 y7 y8)∧I y7 y8 S,fun _ e S=>μ (e.getD 2 .j) (e.getD 3 .j) S,?_,?_⟩
 ·exact⟨_,_,Wk.refl _ _,rfl,_,_,rfl,h0⟩
 ·rintro _ e S ⟨rfl,y7,y8,rfl,hI⟩
  exact(b57_0_eq _ _ _ _ _ _ _).mpr (hr y7 y8 S hI _ (fun y7' y8' S' hI' hm=>⟨_,_,Wk.refl _ _,⟨rfl,_,_,rfl,hI'⟩,hm⟩))
end
end
end Go.Proofs.YtolgpokppnajdaaGreat.G

/- Truth -/
import Derived.Test.YtolgpokppnajdaaGreatProg
import Derived.KernelRfl
import Derived.Test.YtolgpokppnajdaaGreatWgT3
set_option linter.unusedVariables false
set_option linter.unusedSimpArgs false
namespace Go.Proofs.YtolgpokppnajdaaGreat.G
open Go Go.Ab
noncomputable section
theorem and1(a:Int):IntKind.i64.wrap ((BitVec.ofInt 64 a &&& BitVec.ofInt 64 1).toNat:Nat)=a % 2:=by
 have h1:(BitVec.ofInt 64 1).toNat=1:=by decide
 rw[BitVec.toNat_and,h1,Nat.and_one_is_mod,BitVec.toNat_ofInt,wrap64 (by omega) (by omega)]
 omega
theorem bin_and1{a:Int}{S:Store}{K:AV→Store→Prop}:bin .and 0 (aI a) (.v (.int .i64 1)) S K=K (aI (a % 2)) S:=by
 show bin .and 0 (.v (.int .i64 a)) (.v (.int .i64 1)) S K=_
 have:b2 .and 0 (.int .i64 a) (.int .i64 1)=some (.int .i64 (a % 2)):=by
  rw[←and1 a];rfl
 show optP (b2 .and 0 (.int .i64 a) (.int .i64 1)) _=_
 rw[this,optP_some]
theorem bin_shr1{a:Int}(h:0≤a){S:Store}{K:AV→Store→Prop}:bin .shr 0 (aI a) (.v (.int .u64 1)) S K=K (aI (a.tdiv 2)) S:=by
 rw[bin_shr (by decide)]
 have:a.fdiv (2 ^ min (Int.toNat 1) IntKind.i64.bits)=a.tdiv 2:=by
  show a.fdiv 2=_
  rw[Int.fdiv_eq_ediv_of_nonneg _ (by decide),Int.tdiv_eq_ediv_of_nonneg h]
 rw[this]
theorem at173{S:Store}{fid t n:Nat}{x:AV}{v:List Bool}{l:Int}(h0:0≤l)(h1:l.tdiv 2<v.length)(hf:S.obj fid=some (.cells t [[x]] true))(hx:Own n S x 4 (v.map fun b=>[aB b])):
    AnsAt Pg 173 [aI l,.p fid 0 0] S (aB (litB v l)):=by
 refine calls173 ?_
 unfold m173
 rw[ld1_p hf rfl rfl,bin_shr1 h0]
 refine ix_own hx (Int.tdiv_nonneg h0 (by decide)) h1 _ ?_
 rw[bin_and1,bin_eql,bin_neqB]
 refine⟨?_,rfl⟩
 rw[litB,show l.tmod 2=l % 2 from Int.tmod_eq_emod_of_nonneg h0]
theorem mkN_lc{e b l c:Nat}{zc:List AV}(hl:l≤c)(hb:b*c≤281474976710656)(hn:c≤9223372036854775807){S:Store}{K:AV→Store→Prop}:mkN e b zc (aI l) (aI c) S K=K (.s S.n 0 l) (S.new (.cells e (List.replicate l zc) true)):=by
 have h1:(b:Int)*c≤281474976710656:=by
  have h:=Int.ofNat_le.2 hb
  rw[Int.natCast_mul]at h
  omega
 have h2:(c:Int)≤9223372036854775807:=by omega
 have h0:(0:Int)≤l:=by omega
 have h3:(l:Int)≤c:=by omega
 simp only[mkN,intA,optP_some,h0,h1,h2,h3,Int.toNat_natCast,and_self,true_and]
theorem own_keep{n:Nat}{S T:Store}{x:AV}{e:Nat}{es:List (List AV)}(h:Own n S x e es)(k:Keep S T):Own n T x e es:=by
 rcases h with h|⟨id,h1,h2,h3,h4⟩
 ·exact .inl h
 ·exact .inr ⟨id,h1,h2,Nat.lt_of_lt_of_le h3 k.1,(k.2 _ h3).trans h4⟩
theorem own_at154{g:Gr}(hg:g.ok){ins:List Bool}(hin:ins.length≤1000000){S:Store}{xi:AV}(hlx:∀(T:Store) (K:AV→Store→Prop),lenS xi T K=K (aI ins.length) T)(hsx:∀ T,Keep S T→srcE T xi=some (ins.map fun b=>[aB b])):
    ACalls Pg 154 [g.av,xi] S (fun r S'=>∃ x,r = .ret x∧Keep S S'∧Own S.n S' x 4 ((allB g ins).map fun b=>[aB b])):=by
 refine calls154 ?_
 have hlen:=hg.len
 unfold m154
 refine boxA_of rfl fun S1 k1 n1 o1=>?_
 rw[ldN_p (n:=2) o1 rfl]
 refine callF_ans (ans130 hg) ?_
 rw[un_not,onB_v]
 refine gd_of (fun h1=>⟨_,rfl,k1,?_⟩) (fun h1=>?_)
 ·rw[Bool.not_eq_true']at h1
  rw[allB,h1]
  exact Own.nl _ _ _
 have h1:g.right=true:=by simpa using h1
 rw[hlx,shift_p,ld1_p o1 rfl rfl,bin_neq,onB_v]
 refine gd_of (fun h2=>⟨_,rfl,k1,?_⟩) (fun h2=>?_)
 ·rw[Bool.not_eq_true']at h2
  rw[allB,h2,Bool.and_false]
  exact Own.nl _ _ _
 have h2:decide ((ins.length:Int)=g.inputs)=true:=by simpa using h2
 have h2':=of_decide_eq_true h2
 have hres:allB g ins=allTo g ins g.ands.length:=by rw[allB,h1,h2];rfl
 rw[shift_p,ld1_p o1 rfl rfl,bin_add (by omega) (by omega),shift_p,ld1_p o1 rfl rfl,lenS_pL,bin_add (by omega) (by omega)]
 have hcap:g.inputs+1+(g.ands.length:Int)=((ins.length+1+g.ands.length:Nat):Int):=by omega
 rw[hcap]
 have hmk:∀{K:AV→Store→Prop},mkN 4 1 [.v (.bool false)] (.v (.int .i64 1)) (aI ((ins.length+1+g.ands.length:Nat):Int)) S1 K=K (.s S1.n 0 1) (S1.new (.cells 4 (List.replicate 1 [.v (.bool false)]) true)):=mkN_lc (l:=1) (by omega) (by omega) (by omega)
 rw[hmk]
 have w2:Own S1.n (S1.new (.cells 4 (List.replicate 1 [.v (.bool false)]) true)) (.s S1.n 0 1) 4 [[aB false]]:=.inr ⟨S1.n,rfl,Nat.le_refl _,by simp,by rw[new_self];rfl⟩
 have k2:Keep S1 (S1.new (.cells 4 (List.replicate 1 [.v (.bool false)]) true)):=(Keep.refl _).new _
 have n2:(S1.new (.cells 4 (List.replicate 1 [.v (.bool false)]) true)).n=S1.n+1:=rfl
 generalize S1.new (.cells 4 (List.replicate 1 [.v (.bool false)]) true)=S2 at *
 refine box1_of rfl fun S3 k3 n3 o3=>?_
 refine st_of o3 rfl rfl fun S4 n4 o4 f4=>?_
 have k4:Keep S1 S4:=(k2.trans k3).st (by omega) n4 f4
 have w4:Own S1.n S4 (.s S1.n 0 1) 4 [[aB false]]:=(own_keep w2 k3).st (id:=S2.n) (fun b m e=>by injection e;omega) n4 f4
 rw[ld1_p o4 rfl rfl]
 refine Own.appL w4 k4.1 (ys:=ins.map fun b=>[aB b]) (fun c hc=>by obtain⟨p,_,rfl⟩:=List.mem_map.1 hc;rfl) (by simp;omega) (fun z1 S5 w5 b5 hz5=>?_) (hsx _ (k1.trans k4))
 have k5:Keep S1 S5:=w4.keep (Nat.le_refl _) b5 k4
 have o5:=(b5.2 S2.n (by omega) (fun b m e=>by injection e;omega)).trans o4
 have m5:=b5.1
 have z5:∀ b m,z1≠.s S2.n b m:=fun b m e=>by
  rcases hz5 with h|⟨m',h⟩
  ·rw[h]at e;injection e;omega
  ·rw[h]at e;injection e;omega
 refine st_of o5 rfl (by rcases w5 with⟨h,_⟩|⟨_,h,_⟩<;>rw[h]<;>rfl) fun S6 n6 o6 f6=>?_
 have k6:Keep S1 S6:=k5.st (by omega) n6 f6
 have w6:=w5.st (id:=S2.n) z5 n6 f6
 have p6:=(k6.2 S.n (by omega)).trans o1
 rw[shift_p,ld1_p p6 rfl rfl,lenS_pL]
 refine loop154_0 (fun y S'=>Keep S1 S'∧S2.n<S'.n∧∃ i:Nat,y=aI i∧i≤g.ands.length∧∃ z,S'.obj S2.n=some (.cells 53 [[z]] true)∧(∀ b m,z≠.s S2.n b m)∧Own S1.n S' z 4 ((allTo g ins i).map fun b=>[aB b]))
  (fun y _=>g.ands.length - ((intA y).getD 0).toNat) ⟨k6,by omega,0,rfl,Nat.zero_le _,z1,o6,z5,w6⟩ ?_
 rintro _ S7 ⟨k7,n7,i,rfl,hi,z,o7,hz,w7⟩ KE hKE
 unfold b154_0
 rw[bin_lss,onB_v]
 refine gd_of (fun hlt=>?_) (fun hge=>?_)
 ·have hlt:i<g.ands.length:=by simpa using hlt
  obtain⟨q1,q2,q3,q4⟩:=may_at h1 hlt
  have hp:=hg.pairs _ (List.getElem_mem hlt)
  have hget:g.ands.getD i (0,0)=g.ands[i]:=by simp[List.getD_eq_getElem?_getD,hlt]
  have hl4:(allTo g ins i).length=ins.length+1+i:=allTo_len g ins i
  rw[ixS_pL hlt,ldN_q2]
  generalize g.ands[i]=p at *
  refine boxA_of rfl fun S8 k8 n8 o8=>?_
  refine stA_of o8 rfl rfl fun S9 n9 o9 f9=>?_
  have k9:Keep S7 S9:=k8.st (Nat.le_refl _) n9 f9
  have w9:Own S1.n S9 z 4 _:=own_keep w7 k9
  have v9:=(k9.2 S2.n n7).trans o7
  have e1:∀(T:Store) (K:AV→Store→Prop),ixA 2 1 (.p S7.n 0 0) (.v (.int .i64 1)) T K=K (.p S7.n 0 1) T:=fun T K=>ixA_p (z:=1) (by decide)
  have e0:∀(T:Store) (K:AV→Store→Prop),ixA 2 1 (.p S7.n 0 0) (.v (.int .i64 0)) T K=K (.p S7.n 0 0) T:=fun T K=>ixA_p (z:=0) (by decide)
  have hadd:∀ K:AV→Store→Prop,∀ S,bin .add 0 (.v (.int .i64 (i:Int))) (.v (.int .i64 1)) S K=K (aI (i+1:Nat)) S:=fun K S=>bin_add (by omega) (by omega) 0
  have hp1:0≤p.1:=by
   rcases Int.le_total 0 p.1 with h|h
   ·exact h
   ·have:p.1.tdiv 2≤0:=by
      rw[show p.1.tdiv 2 = -((-p.1).tdiv 2)by rw[Int.neg_tdiv,Int.neg_neg],Int.tdiv_eq_ediv_of_nonneg (by omega)]
      omega
    omega
  have m9:S9.n=S7.n+1:=by omega
  have step:∀ b,allTo g ins (i+1)=allTo g ins i ++ [b]→appS 4 1 1 z (.l [[aB b]]) S9 fun v T=>stN 1 (.p S2.n 0 0) v T fun _ T=>bin .add 0 (aI i) (.v (.int .i64 1)) T fun v' T=>KE 53 (env154_0 (.p S2.n 0 0) (.f (.func 173) [] [.p S2.n 0 0]) (pL g.ands) (aI g.ands.length) v') T:=fun b hb=>by
   refine w9.app (by have:=k7.1;omega) (c:=[aB b]) rfl (by simp;omega) (fun zz T1 wT bT hzT=>?_) rfl
   have kT:Keep S1 T1:=w9.keep (Nat.le_refl _) bT (k7.trans k9)
   have oT:=(bT.2 S2.n (by omega) (fun b m=>hz b m)).trans v9
   have mT:=bT.1
   have hzz:∀ b m,zz≠.s S2.n b m:=fun b m e=>by
    obtain⟨m',h⟩:=hzT
    rw[h]at e;injection e;omega
   refine st_of oT rfl (by rcases wT with⟨h,_⟩|⟨_,h,_⟩<;>rw[h]<;>rfl) fun T2 nT o2 f2=>?_
   rw[hadd]
   refine hKE _ _ ⟨kT.st (by omega) nT f2,by omega,i+1,rfl,hlt,zz,o2,hzz,?_⟩ (by simp[intA];omega)
   rw[hb,List.map_append]
   exact wT.st (id:=S2.n) hzz nT f2
  refine⟨_,fun T hT=>by rw[ld1_p ((hT.2 _ (by omega)).trans v9) rfl rfl];exact⟨rfl,rfl⟩,_,fun T hT=>by rw[e0];exact⟨rfl,rfl⟩,_,fun T hT=>by rw[ld1_p ((hT.2 _ (by omega)).trans o9) rfl rfl];exact⟨rfl,rfl⟩,
   _,fun T hT=>callV_at (at173 hp1 (by rw[hl4];omega) ((hT.2 _ (by omega)).trans v9) (own_keep w9 hT)) ⟨rfl,rfl⟩,?_⟩
  rw[onB_v]
  refine gd_of (fun h3=>?_) (fun h3=>?_)
  ·refine⟨_,fun T hT=>by rw[e1];exact⟨rfl,rfl⟩,_,fun T hT=>by rw[ld1_p ((hT.2 _ (by omega)).trans o9) rfl rfl];exact⟨rfl,rfl⟩,
     _,fun T hT=>callV_at (at173 (by omega) (by rw[hl4];omega) ((hT.2 _ (by omega)).trans v9) (own_keep w9 hT)) ⟨rfl,rfl⟩,_,fun T hT=>⟨rfl,rfl⟩,_,fun T hT=>bsl1 rfl (fun _ h=>by cases h) ⟨rfl,rfl⟩,?_⟩
   refine step _ ?_
   simp only[allTo,hget]
   rw[h3,Bool.true_and]
  ·refine⟨_,fun T hT=>⟨rfl,rfl⟩,_,fun T hT=>bsl1 rfl (fun _ h=>by cases h) ⟨rfl,rfl⟩,?_⟩
   refine step _ ?_
   simp only[allTo,hget]
   rw[h3,Bool.false_and]
 ·have hge:i=g.ands.length:=by simp at hge;omega
  subst hge
  rw[hres,ld1_p o7 rfl rfl]
  exact⟨_,rfl,k1.trans k7,w7.low (by omega)⟩
theorem ans_own_at{α:Type}{f:α→Value}{P:Program}{fn:FuncId}{args:List AV}{S:Store}{e:Nat}{l:List α}(h:ACalls P fn args S (fun r S'=>∃ x,r = .ret x∧Keep S S'∧Own S.n S' x e (l.map fun a=>[.v (f a)]))):AnsAt P fn args S (aL (fun a=>.v (f a)) l):=
 ACalls.tree (h.mono fun r S' ⟨x,h1,h2,h3⟩=>⟨x,h1,h2,h3.cv_v⟩)
def bitN(n:Int)(i:Nat):Bool:=decide (n.fdiv (2 ^ i) % 2=1)
def bitsL(n:Int)(many:Nat):List Bool:=(List.range many).map (bitN n)
@[simp] theorem bitsL_len(n:Int)(m:Nat):(bitsL n m).length=m:=by simp[bitsL]
theorem bitsL_succ(n:Int)(m:Nat):bitsL n (m+1)=bitsL n m ++ [bitN n m]:=by simp[bitsL,List.range_succ]
theorem bin_shrN{a:Int}{i:Nat}(h:i≤64){S:Store}{K:AV→Store→Prop}:bin .shr 0 (aI a) (aI i) S K=K (aI (a.fdiv (2 ^ i))) S:=by
 rw[bin_shr (by omega),show min (Int.toNat i) IntKind.i64.bits=i by rw[Int.toNat_natCast];exact Nat.min_eq_left h]
theorem own116(s:Int){m:Nat}(hm:m≤64):OwnL 116 [aI s,aI m] (bitsL s m):=by
 intro S
 refine calls116 ?_
 unfold m116
 refine loop116_0 (fun y z S'=>Keep S S'∧∃ i:Nat,z=aI i∧i≤m∧Own S.n S' y 4 ((bitsL s i).map fun b=>[aB b]))
  (fun _ z _=>m - ((intA z).getD 0).toNat) ⟨Keep.refl _,0,rfl,Nat.zero_le _,Own.nl _ _ _⟩ ?_
 rintro y _ S1 ⟨k1,i,rfl,hi,w1⟩ KE hKE
 unfold b116_0
 rw[bin_lss,onB_v]
 refine gd_of (fun hlt=>?_) (fun hge=>?_)
 ·have hlt:i<m:=by simpa using hlt
  rw[bin_shrN (by omega),bin_and1,bin_eql]
  refine bsl1 rfl (fun _ h=>by cases h) ?_
  refine w1.app k1.1 (c:=[aB (bitN s i)]) rfl (by simp;omega) (fun z5 S5 w5 b5 hz5=>?_) rfl
  have hadd:∀ K:AV→Store→Prop,∀ S,bin .add 0 (.v (.int .i64 (i:Int))) (.v (.int .i64 1)) S K=K (aI (i+1:Nat)) S:=fun K S=>bin_add (by omega) (by omega) 0
  rw[hadd]
  refine hKE _ _ _ ⟨w1.keep (Nat.le_refl _) b5 k1,i+1,rfl,hlt,?_⟩ (by simp[intA];omega)
  rw[bitsL_succ,List.map_append]
  exact w5
 ·have hge:i=m:=by simp at hge;omega
  subst hge
  exact⟨_,rfl,k1,w1⟩
def isB (c:Ci) (s l:Int):Bool:=c.right && (decide (c.gr.inputs≤60) && c.gr.eval l (bitsL s c.gr.inputs.toNat))
theorem part10{x:AV}{l:List AV}{S:Store}{K:AV→Store→Prop}:part1 (.a (x :: l)) 0 S K=K x S:=by simp[part1,partA]
theorem gr_inp{c:Ci}(h:c.right=true):c.gr.inputs=c.inputs+c.latches.length∧0≤c.gr.inputs∧c.gr.inputs≤2000:=by
 obtain⟨⟨h1,h2⟩,h3,_,_,_,_,h4,_⟩:=right_c.1 h
 have h5:=right_iff.1 h4
 refine⟨?_,h5.1,h5.2.1⟩
 show IntKind.i64.wrap (c.inputs+c.latches.length)=_
 exact wrap64 (by omega) (by omega)
theorem ans68{c:Ci}(hc:c.ok){s l:Int}(hl:i64R l):Ans Pg 68 [c.av,aI s,aI l] (aB (isB c s l)):=by
 intro S
 refine ACalls.ans_v (calls68 ?_)
 unfold m68
 refine boxA_of rfl fun S1 k1 n1 o1=>?_
 rw[ldN_p (n:=8) o1 rfl]
 refine callF_ans (ans65 hc) ?_
 rw[un_not,onB_v]
 refine gd_of (fun h1=>⟨?_,k1⟩) (fun h1=>?_)
 ·rw[Bool.not_eq_true']at h1
  simp[isB,h1]
 have h1:c.right=true:=by simpa using h1
 obtain⟨g1,g2,g3⟩:=gr_inp h1
 rw[ldN_p (n:=8) o1 rfl]
 refine callF_ans (ans41 c) ?_
 unfold Gr.av Gr.cells
 rw[part10,bin_gtr,onB_v]
 refine gd_of (fun h2=>⟨?_,k1⟩) (fun h2=>?_)
 ·have h2:=of_decide_eq_true h2
  simp[isB,show ¬ c.gr.inputs≤60 by omega]
 have h2:=of_decide_eq_false h2
 obtain⟨m,hm⟩:=Int.eq_ofNat_of_zero_le g2
 show ∃ q11:AV,_
 refine⟨_,by rw[ldN_p (n:=8) o1 rfl];exact⟨rfl,rfl⟩,?_⟩
 refine⟨_,callF_ans (ans41 c) ⟨rfl,rfl⟩,?_⟩
 refine⟨_,by rw[ldN_p (n:=8) o1 rfl];exact⟨rfl,rfl⟩,?_⟩
 refine⟨_,callF_ans (ans41 c) ⟨rfl,rfl⟩,?_⟩
 refine⟨aI m,by unfold Gr.av Gr.cells;rw[part10,hm];exact⟨rfl,rfl⟩,?_⟩
 refine⟨_,callF_ans (own116 s (by omega)).ans ⟨rfl,rfl⟩,?_⟩
 refine⟨_,callF_ans (ans115 hc.gr hl (ins:=bitsL s m) (by simp;omega)) ⟨rfl,rfl⟩,?_⟩
 refine⟨?_,k1⟩
 simp only[isB,h1,Bool.true_and,show c.gr.inputs≤60 by omega,decide_true]
 rw[hm,Int.toNat_natCast]
def afterTo (c:Ci) (s:Int):Nat→Int
 |0=>0
 |i+1=>if isB c s (c.latches.getD i (0,0)).1=true then afterTo c s i+2 ^ (c.inputs.toNat+i)else afterTo c s i
def afterB (c:Ci) (s:Int):Int:=if(c.right && decide (c.gr.inputs≤60))=true then afterTo c s c.latches.length else 0
theorem afterTo_le(c:Ci)(s:Int):∀ i,0≤afterTo c s i∧afterTo c s i<2 ^ (c.inputs.toNat+i)
 |0=>⟨Int.le_refl _,Int.pow_pos (by decide)⟩
 |i+1=>by
  have⟨h1,h2⟩:=afterTo_le c s i
  have h3:(2:Int) ^ (c.inputs.toNat+(i+1))=2*2 ^ (c.inputs.toNat+i):=by rw[←Nat.add_assoc,Int.pow_succ];omega
  have h4:(0:Int)<2 ^ (c.inputs.toNat+i):=Int.pow_pos (by decide)
  unfold afterTo
  split<;>constructor<;>omega
theorem pow_le60{n:Nat}(h:n≤60):(2:Int) ^ n≤1152921504606846976:=by
 have h1:2 ^ n≤2 ^ 60:=Nat.pow_le_pow_right (by decide) h
 have h2:((2 ^ n:Nat):Int)≤((2 ^ 60:Nat):Int):=Int.ofNat_le.2 h1
 rw[Int.natCast_pow]at h2
 exact h2
theorem bin_shl1{i:Nat}(h:i≤60){S:Store}{K:AV→Store→Prop}:bin .shl 0 (.v (.int .i64 1)) (aI i) S K=K (aI (2 ^ i)) S:=by
 have h2:¬ ((i:Int)<0):=by omega
 have h3:min (Int.toNat i) IntKind.i64.bits=i:=by rw[Int.toNat_natCast];exact Nat.min_eq_left (by show i≤64;omega)
 have h4:=pow_le60 h
 have h5:(0:Int)<2 ^ i:=Int.pow_pos (by decide)
 show optP (b2 .shl 0 (.int .i64 1) (.int .i64 i)) _=_
 have:b2 .shl 0 (.int .i64 1) (.int .i64 i)=some (.int .i64 (2 ^ i)):=by
  simp only[b2,isSh,shI,if_neg h2,h3,Int.one_mul]
  rw[wrap64 (by omega) (by omega)]
  rfl
 rw[this,optP_some]
theorem ans59{c:Ci}(hc:c.ok)(s:Int):Ans Pg 59 [c.av,aI s] (aI (afterB c s)):=by
 intro S
 refine ACalls.ans_v (calls59 ?_)
 have hll:=hc.llen
 unfold m59
 refine boxA_of rfl fun S1 k1 n1 o1=>?_
 rw[ldN_p (n:=8) o1 rfl]
 refine callF_ans (ans65 hc) ?_
 rw[un_not,onB_v]
 refine gd_of (fun h1=>⟨?_,k1⟩) (fun h1=>?_)
 ·rw[Bool.not_eq_true']at h1
  simp[afterB,h1]
 have h1:c.right=true:=by simpa using h1
 obtain⟨g1,g2,g3⟩:=gr_inp h1
 have hin:=(right_c.1 h1).1
 rw[ldN_p (n:=8) o1 rfl]
 refine callF_ans (ans41 c) ?_
 unfold Gr.av Gr.cells
 rw[part10,bin_gtr,onB_v]
 refine gd_of (fun h2=>⟨?_,k1⟩) (fun h2=>?_)
 ·have h2:=of_decide_eq_true h2
  simp[afterB,show ¬ c.gr.inputs≤60 by omega]
 have h2:=of_decide_eq_false h2
 have hres:afterB c s=afterTo c s c.latches.length:=by
  simp only[afterB,h1,Bool.true_and,show c.gr.inputs≤60 by omega,decide_true,if_true]
 obtain⟨m,hm⟩:=Int.eq_ofNat_of_zero_le hin.1
 refine loop59_0 (fun y z S'=>S'=S1∧∃ i:Nat,z=aI i∧i≤c.latches.length∧y=aI (afterTo c s i))
  (fun _ z _=>c.latches.length - ((intA z).getD 0).toNat) ⟨rfl,0,rfl,Nat.zero_le _,rfl⟩ ?_
 rintro _ _ S1 ⟨rfl,i,rfl,hi,rfl⟩ KE hKE
 unfold b59_0
 rw[shift_p,ld1_p o1 rfl rfl,lenS_pL,bin_lss,onB_v]
 refine gd_of (fun hlt=>?_) (fun hge=>?_)
 ·have hlt:i<c.latches.length:=by simpa using hlt
  have hget:c.latches.getD i (0,0)=c.latches[i]:=by simp[List.getD_eq_getElem?_getD,hlt]
  have hadd:∀ K:AV→Store→Prop,∀ S,bin .add 0 (.v (.int .i64 (i:Int))) (.v (.int .i64 1)) S K=K (aI (i+1:Nat)) S:=fun K S=>bin_add (by omega) (by omega) 0
  have hμ:c.latches.length - ((intA (aI (i+1:Nat))).getD 0).toNat<c.latches.length - ((intA (aI i)).getD 0).toNat:=by simp[intA];omega
  show ∃ q16:AV,_
  refine⟨_,by rw[ldN_p (n:=8) o1 rfl];exact⟨rfl,rfl⟩,?_⟩
  refine⟨_,by rw[shift_p];exact⟨rfl,rfl⟩,?_⟩
  refine⟨_,by rw[ld1_p o1 rfl rfl];exact⟨rfl,rfl⟩,?_⟩
  refine⟨_,by rw[ixS_pL hlt];exact⟨rfl,rfl⟩,?_⟩
  refine⟨_,by rw[shift_q];exact⟨rfl,rfl⟩,?_⟩
  refine⟨_,by rw[ld1_qj (u:=aI c.latches[i].1) rfl];exact⟨rfl,rfl⟩,?_⟩
  refine⟨_,callF_ans (ans68 hc (hc.lats _ (List.getElem_mem hlt)).1) ⟨rfl,rfl⟩,?_⟩
  rw[onB_v]
  refine gd_of (fun h3=>?_) (fun h3=>?_)
  ·have hb:=afterTo_le c s i
   have hp:=pow_le60 (n:=c.inputs.toNat+i) (by omega)
   rw[shift_p,ld1_p o1 rfl rfl,bin_add (by omega) (by omega)]
   have e:c.inputs+(i:Int)=((c.inputs.toNat+i:Nat):Int):=by omega
   rw[e,bin_shl1 (by omega),bin_add (by omega) (by omega),hadd]
   exact hKE _ _ _ ⟨rfl,i+1,rfl,hlt,by rw[afterTo,hget,if_pos h3]⟩ hμ
  ·rw[hadd]
   exact hKE _ _ _ ⟨rfl,i+1,rfl,hlt,by rw[afterTo,hget,h3];rfl⟩ hμ
 ·have hge:i=c.latches.length:=by simp at hge;omega
  subst hge
  rw[hres]
  exact⟨rfl,k1⟩
theorem orN{a b:Nat}(ha:a<4611686018427387904)(hb:b<4611686018427387904)(h:a ||| b<4611686018427387904){S:Store}{K:AV→Store→Prop}:bin .or 0 (aI a) (aI b) S K=K (aI (a ||| b:Nat)) S:=by
 show optP (b2 .or 0 (.int .i64 a) (.int .i64 b)) _=_
 have:b2 .or 0 (.int .i64 a) (.int .i64 b)=some (.int .i64 (a ||| b:Nat)):=by
  show(some (Int.ofNat 0)).bind (fun _=>some (Value.int .i64 (IntKind.i64.wrap (BitVec.ofInt 64 a ||| BitVec.ofInt 64 b).toNat)))=_
  have h1:(BitVec.ofInt 64 (a:Int)).toNat=a:=by rw[BitVec.toNat_ofInt];omega
  have h2:(BitVec.ofInt 64 (b:Int)).toNat=b:=by rw[BitVec.toNat_ofInt];omega
  rw[BitVec.toNat_or,h1,h2,wrap64 (by omega) (by omega)]
  rfl
 rw[this,optP_some]
theorem or_add{k q b:Nat}(h:b<2 ^ k):2 ^ k*q ||| b=2 ^ k*q+b:=(Nat.two_pow_add_eq_or_of_lt h q).symm
theorem two_le60{n:Nat}(h:n≤60):2 ^ n≤1152921504606846976:=Nat.pow_le_pow_right (by decide) h
theorem bin_or_pow{a:Int}{k:Nat}(h0:0≤a)(h1:a<2 ^ k)(hk:k≤60){S:Store}{K:AV→Store→Prop}:bin .or 0 (aI a) (aI (2 ^ k)) S K=K (aI (a+2 ^ k)) S:=by
 obtain⟨n,rfl⟩:=Int.eq_ofNat_of_zero_le h0
 have hp:=two_le60 hk
 have e:((2:Int) ^ k)=((2 ^ k:Nat):Int):=by rw[Int.natCast_pow];rfl
 rw[e]at h1 ⊢
 have hn:n<2 ^ k:=by omega
 have ho:n ||| 2 ^ k=n+2 ^ k:=by
  rw[Nat.or_comm]
  have:=or_add (k:=k) (q:=1) hn
  rw[Nat.mul_one]at this
  rw[this];omega
 rw[orN (by omega) (by omega) (by rw[ho];omega),ho,Int.natCast_add]
theorem bin_or_low{q x k:Nat}(h1:x<2 ^ k)(h2:2 ^ k*q+x<4611686018427387904){S:Store}{K:AV→Store→Prop}:bin .or 0 (aI (2 ^ k*q:Nat)) (aI x) S K=K (aI (2 ^ k*q+x:Nat)) S:=by
 rw[orN (by omega) (by omega) (by rw[or_add h1];omega),or_add h1]
structure Mk (c:Ci) (vals:List (List Bool)) (n mid t:Nat) (S:Store):Prop where
 lt:mid<S.n
 z:∃ z,S.obj mid=some (.cells t [c.cells++c.gr.cells ++ [z]] true)∧Own n S z 53 (vals.map fun v=>[aL aB v])
theorem Mk.keep{c:Ci}{vals:List (List Bool)}{n mid t:Nat}{S T:Store}(h:Mk c vals n mid t S)(k:Keep S T):Mk c vals n mid t T:=by
 obtain⟨z,h1,h2⟩:=h.z
 exact⟨Nat.lt_of_lt_of_le h.lt k.1,z,(k.2 _ h.lt).trans h1,own_keep h2 k⟩
section
variable {c:Ci} {vals:List (List Bool)} {n mid t:Nat} {S:Store}
theorem at160(h:Mk c vals n mid t S){s:Nat}(hs:s<vals.length){l:Int}(hl:i64R l)(h0:0≤l)(h1:l.tdiv 2<(vals.getD s []).length):AnsAt Pg 160 [.p mid 0 0,aI s,aI l] S (aB (litB (vals.getD s []) l)):=by
 refine calls160 ?_
 unfold m160
 obtain⟨z,hz,hw⟩:=h.z
 rw[nilChk_p,shift_p,ld1_p hz rfl rfl]
 obtain⟨id,rfl,h2,h3,h4⟩:=hw.ix (i:=s) (by simpa using hs)
 rw[show vals.getD s []=vals[s]by simp[List.getD_eq_getElem?_getD,hs]]at h1 ⊢
 rw[ixS_s (by simpa using hs) h4,ld1_p h4 (by rw[Nat.zero_add,List.getElem?_map,List.getElem?_eq_getElem hs];rfl) rfl,bin_half hl]
 refine ix_tree (Int.tdiv_nonneg h0 (by decide)) h1 _ ?_
 rw[bin_and1,bin_eql,bin_neqB]
 refine⟨?_,rfl⟩
 rw[litB,show l.tmod 2=l % 2 from Int.tmod_eq_emod_of_nonneg h0]
theorem at174(h:Mk c vals n mid t S){s:Nat}(hs:s<vals.length){l:Int}(hl:i64R l)(h0:0≤l)(h1:l.tdiv 2<(vals.getD s []).length){a b ta tb:Nat}(ha:S.obj a=some (.cells ta [[.p mid 0 0]] true))(hb:S.obj b=some (.cells tb [[aI s]] true)):
    AnsAt Pg 174 [aI l,.p a 0 0,.p b 0 0] S (aB (!litB (vals.getD s []) l)):=by
 refine calls174 ?_
 unfold m174
 rw[ld1_p ha rfl rfl,ld1_p hb rfl rfl]
 refine callF_at (at160 h hs hl h0 h1) ?_
 rw[un_not]
 exact⟨rfl,rfl⟩
def Lits(l:List Int)(v:List Bool):Prop:=∀ x∈l,i64R x∧0≤x∧x.tdiv 2<v.length
theorem at156(h:Mk c vals n mid t S){s:Nat}(hs:s<vals.length)(hl:Lits c.cons (vals.getD s []))(hn:c.cons.length≤9223372036854775807):AnsAt Pg 156 [.p mid 0 0,aI s] S (aB (c.cons.all (litB (vals.getD s [])))):=by
 refine ACalls.ans_v (calls156 ?_)
 unfold m156
 refine box1_of rfl fun S1 k1 n1 o1=>?_
 refine box1_of rfl fun S2 k2 n2 o2=>?_
 have o1':=(k2.2 S.n (by omega)).trans o1
 have h2:=h.keep (k1.trans k2)
 obtain⟨z,hz,_⟩:=h2.z
 rw[ld1_p o1' rfl rfl,nilChk_p,shift_p,shift_p,ld1_p hz rfl rfl]
 refine callF_at (at132 hn (g:=fun x=>!litB (vals.getD s []) x) (fun x hx=>at174 h2 hs (hl x hx).1 (hl x hx).2.1 (hl x hx).2.2 o1' o2)) ?_
 rw[un_not,any_not,Bool.not_not]
 exact⟨rfl,k1.trans k2⟩
def afterV(c:Ci)(v:List Bool):Nat→Int
 |0=>0
 |i+1=>if litB v (c.latches.getD i (0,0)).1=true then afterV c v i+2 ^ (c.inputs.toNat+i)else afterV c v i
theorem afterV_le(c:Ci)(v:List Bool):∀ i,0≤afterV c v i∧afterV c v i<2 ^ (c.inputs.toNat+i)
 |0=>⟨Int.le_refl _,Int.pow_pos (by decide)⟩
 |i+1=>by
  have⟨h1,h2⟩:=afterV_le c v i
  have h3:(2:Int) ^ (c.inputs.toNat+(i+1))=2*2 ^ (c.inputs.toNat+i):=by rw[←Nat.add_assoc,Int.pow_succ];omega
  have h4:(0:Int)<2 ^ (c.inputs.toNat+i):=Int.pow_pos (by decide)
  unfold afterV
  split<;>constructor<;>omega
theorem at175(h:Mk c vals n mid t S)(h0:0≤c.inputs)(h60:c.inputs+c.latches.length≤60){s:Nat}(hs:s<vals.length)(hl:Lits (c.latches.map (·.1)) (vals.getD s [])):AnsAt Pg 175 [.p mid 0 0,aI s] S (aI (afterV c (vals.getD s []) c.latches.length)):=by
 refine ACalls.ans_v (calls175 ?_)
 unfold m175
 obtain⟨z,hz,_⟩:=h.z
 rw[nilChk_p,shift_p,shift_p,ld1_p hz rfl rfl,lenS_pL]
 refine loop175_0 (fun y w S'=>Keep S S'∧∃ i:Nat,w=aI i∧i≤c.latches.length∧y=aI (afterV c (vals.getD s []) i))
  (fun _ w _=>c.latches.length - ((intA w).getD 0).toNat) ⟨Keep.refl _,0,rfl,Nat.zero_le _,rfl⟩ ?_
 rintro _ _ S1 ⟨k1,i,rfl,hi,rfl⟩ KE hKE
 unfold b175_0
 rw[bin_lss,onB_v]
 refine gd_of (fun hlt=>?_) (fun hge=>?_)
 ·have hlt:i<c.latches.length:=by simpa using hlt
  have hget:c.latches.getD i (0,0)=c.latches[i]:=by simp[List.getD_eq_getElem?_getD,hlt]
  have hadd:∀ K:AV→Store→Prop,∀ S,bin .add 0 (.v (.int .i64 (i:Int))) (.v (.int .i64 1)) S K=K (aI (i+1:Nat)) S:=fun K S=>bin_add (by omega) (by omega) 0
  have hμ:c.latches.length - ((intA (aI (i+1:Nat))).getD 0).toNat<c.latches.length - ((intA (aI i)).getD 0).toNat:=by simp[intA];omega
  have hli:=hl _ (List.mem_map_of_mem (List.getElem_mem hlt))
  rw[ixS_pL hlt,ldN_q2]
  refine boxA_of rfl fun S2 k2 n2 o2=>?_
  refine stA_of o2 rfl rfl fun S3 n3 o3 f3=>?_
  have k3:Keep S S3:=(k1.trans k2).st k1.1 n3 f3
  have h3:=h.keep k3
  obtain⟨z3,hz3,_⟩:=h3.z
  rw[shift_p,ld1_p o3 rfl rfl]
  refine callF_at (at160 h3 hs hli.1 hli.2.1 hli.2.2) ?_
  rw[onB_v]
  refine gd_of (fun h4=>?_) (fun h4=>?_)
  ·have hb:=afterV_le c (vals.getD s []) i
   rw[nilChk_p,shift_p,shift_p,ld1_p hz3 rfl rfl,bin_add (by omega) (by omega)]
   have e:c.inputs+(i:Int)=((c.inputs.toNat+i:Nat):Int):=by omega
   rw[e,bin_shl1 (by omega),bin_or_pow hb.1 hb.2 (by omega),hadd]
   exact hKE _ _ _ ⟨k3,i+1,rfl,hlt,by rw[afterV,hget,if_pos h4]⟩ hμ
  ·rw[hadd]
   exact hKE _ _ _ ⟨k3,i+1,rfl,hlt,by rw[afterV,hget,h4];rfl⟩ hμ
 ·have hge:i=c.latches.length:=by simp at hge;omega
  subst hge
  exact⟨rfl,k1⟩
def begB(c:Ci)(s:Int):Bool:=(List.range c.latches.length).all fun i=>decide ((c.latches.getD i (0,0)).2=2) || decide (s.fdiv (2 ^ (c.inputs.toNat+i)) % 2=(c.latches.getD i (0,0)).2)
theorem at158(h:Mk c vals n mid t S)(h0:0≤c.inputs)(h60:c.inputs+c.latches.length≤60)(s:Int):AnsAt Pg 158 [.p mid 0 0,aI s] S (aB (begB c s)):=by
 refine ACalls.ans_v (calls158 ?_)
 unfold m158
 obtain⟨z,hz,_⟩:=h.z
 rw[nilChk_p,shift_p,shift_p,ld1_p hz rfl rfl,lenS_pL]
 refine loop158_0 (fun w S'=>Keep S S'∧∃ i:Nat,w=aI i∧i≤c.latches.length∧∀ j,j<i→(decide ((c.latches.getD j (0,0)).2=2) || decide (s.fdiv (2 ^ (c.inputs.toNat+j)) % 2=(c.latches.getD j (0,0)).2))=true)
  (fun w _=>c.latches.length - ((intA w).getD 0).toNat) ⟨Keep.refl _,0,rfl,Nat.zero_le _,fun j hj=>(Nat.not_lt_zero _ hj).elim⟩ ?_
 rintro _ S1 ⟨k1,i,rfl,hi,hok⟩ KE hKE
 unfold b158_0
 rw[bin_lss,onB_v]
 refine gd_of (fun hlt=>?_) (fun hge=>?_)
 ·have hlt:i<c.latches.length:=by simpa using hlt
  have hget:c.latches.getD i (0,0)=c.latches[i]:=by simp[List.getD_eq_getElem?_getD,hlt]
  have hadd:∀ K:AV→Store→Prop,∀ S,bin .add 0 (.v (.int .i64 (i:Int))) (.v (.int .i64 1)) S K=K (aI (i+1:Nat)) S:=fun K S=>bin_add (by omega) (by omega) 0
  have hno:(decide ((c.latches.getD i (0,0)).2=2) || decide (s.fdiv (2 ^ (c.inputs.toNat+i)) % 2=(c.latches.getD i (0,0)).2))=false→begB c s=false:=fun hh=>by
   rw[begB,List.all_eq_false]
   exact⟨i,by simpa using hlt,by rw[hh];decide⟩
  rw[ixS_pL hlt,ldN_q2]
  rw[hget]at hno
  have hnext:∀{T:Store},Keep S T→(decide (c.latches[i].2=2) || decide (s.fdiv (2 ^ (c.inputs.toNat+i)) % 2=c.latches[i].2))=true→KE 37 (env158_0 (.p mid 0 0) (aI s) (pL c.latches) (aI c.latches.length) (aI (i+1:Nat))) T:=fun{T} kT hh=>hKE _ _ ⟨kT,i+1,rfl,hlt,fun j hj=>by
   rcases Nat.lt_or_ge j i with h'|h'
   ·exact hok j h'
   ·have:j=i:=by omega
    subst this
    rw[hget];exact hh⟩ (by simp[intA];omega)
  generalize c.latches[i]=x at *
  refine boxA_of rfl fun S2 k2 n2 o2=>?_
  refine stA_of o2 rfl rfl fun S3 n3 o3 f3=>?_
  have k3:Keep S S3:=(k1.trans k2).st k1.1 n3 f3
  obtain⟨z3,hz3,_⟩:=(h.keep k3).z
  have e:c.inputs+(i:Int)=((c.inputs.toNat+i:Nat):Int):=by omega
  show ∃ q12:AV,_
  refine⟨_,by rw[shift_p];exact⟨rfl,rfl⟩,?_⟩
  refine⟨_,by rw[ld1_p o3 rfl rfl];exact⟨rfl,rfl⟩,?_⟩
  refine⟨_,by rw[bin_neq];exact⟨rfl,rfl⟩,?_⟩
  rw[onB_v]
  refine gd_of (fun h4=>?_) (fun h4=>?_)
  ·have h4:¬ x.2=2:=by simpa using h4
   refine⟨_,by rw[nilChk_p];exact⟨rfl,rfl⟩,?_⟩
   refine⟨_,by rw[shift_p];exact⟨rfl,rfl⟩,?_⟩
   refine⟨_,by rw[shift_p];exact⟨rfl,rfl⟩,?_⟩
   refine⟨_,by rw[ld1_p hz3 rfl rfl];exact⟨rfl,rfl⟩,?_⟩
   refine⟨aI ((c.inputs.toNat+i:Nat):Int),by rw[bin_add (by omega) (by omega),e];exact⟨rfl,rfl⟩,?_⟩
   refine⟨_,by rw[bin_shrN (by omega)];exact⟨rfl,rfl⟩,?_⟩
   refine⟨_,by rw[bin_and1];exact⟨rfl,rfl⟩,?_⟩
   refine⟨_,by rw[shift_p];exact⟨rfl,rfl⟩,?_⟩
   refine⟨_,by rw[ld1_p o3 rfl rfl];exact⟨rfl,rfl⟩,?_⟩
   refine⟨_,by rw[bin_neq];exact⟨rfl,rfl⟩,?_⟩
   refine⟨_,⟨rfl,rfl⟩,?_⟩
   rw[onB_v]
   refine gd_of (fun h5=>⟨?_,k3⟩) (fun h5=>?_)
   ·have h5:¬ s.fdiv (2 ^ (c.inputs.toNat+i)) % 2=x.2:=by simpa using h5
    rw[hno (by simp only[h4,h5,decide_false,Bool.or_self])]
   ·have h5:s.fdiv (2 ^ (c.inputs.toNat+i)) % 2=x.2:=by simpa using h5
    rw[hadd]
    exact hnext k3 (by simp only[h5,decide_true,Bool.or_true])
  ·have h4:x.2=2:=by simpa using h4
   refine⟨_,⟨rfl,rfl⟩,?_⟩
   rw[onB_v,gd_false,hadd]
   exact hnext k3 (by simp only[h4,decide_true,Bool.true_or])
 ·have hge:i=c.latches.length:=by simp at hge;omega
  subst hge
  refine⟨?_,k1⟩
  have:begB c s=true:=by
   rw[begB,List.all_eq_true]
   exact fun j hj=>hok j (by simpa using hj)
  rw[this]
end
theorem set_range{α:Type}{n i:Nat}{f f':Nat→α}(hi:i<n)(h:∀ k,k≠i→f' k=f k):((List.range n).map f).set i (f' i)=(List.range n).map f':=by
 apply List.ext_getElem
 ·simp
 ·intro k h1 h2
  rw[List.getElem_set]
  split
  ·rename_i e
   subst e
   simp
  ·rename_i e
   simp[h k (fun h=>e h.symm)]
section
variable {c:Ci} {vals:List (List Bool)} {n mid t:Nat} {S:Store}
theorem each_of(h:Mk c vals n mid t S)(hv:vals.length≤1000000){F:FuncId}{fs cs:List AV}{g:Nat→Bool}(hf:∀ T,Keep S T→∀ i,i<vals.length→AnsAt Pg F (fs ++ [aI i]++cs) T (aB (g i))):
    ACalls Pg 155 [.p mid 0 0,.f (.func F) fs cs] S (fun r S'=>∃ x,r = .ret x∧Keep S S'∧Own S.n S' x 4 (((List.range vals.length).map g).map fun b=>[aB b])):=by
 refine calls155 ?_
 unfold m155
 obtain⟨z,hz,hw⟩:=h.z
 rw[nilChk_p,shift_p,ld1_p hz rfl rfl,hw.len,List.length_map]
 refine mk_of (by omega) (by omega) fun S1 k1 n1 o1=>?_
 rw[lenS_s]
 have hrep:List.replicate vals.length [AV.v (.bool false)]=(List.range vals.length).map fun k=>[aB (if k<0 then g k else false)]:=by
  apply List.ext_getElem
  ·simp
  ·intro k h1 h2
   simp
 rw[hrep]at o1
 refine loop155_0 (fun w S'=>Keep S S'∧S.n<S'.n∧∃ i:Nat,w=aI i∧i≤vals.length∧S'.obj S.n=some (.cells 4 ((List.range vals.length).map fun k=>[aB (if k<i then g k else false)]) true))
  (fun w _=>vals.length - ((intA w).getD 0).toNat) ⟨k1,by omega,0,rfl,Nat.zero_le _,o1⟩ ?_
 rintro _ S2 ⟨k2,n2,i,rfl,hi,o2⟩ KE hKE
 unfold b155_0
 rw[bin_lss,onB_v]
 refine gd_of (fun hlt=>?_) (fun hge=>?_)
 ·have hlt:i<vals.length:=by simpa using hlt
  refine callV_at (hf S2 k2 i hlt) ?_
  rw[ixS_s hlt o2]
  refine st_of o2 (u0:=aB (if i<i then g i else false)) (by rw[Nat.zero_add];simp[hlt]) rfl fun S3 n3 o3 f3=>?_
  rw[bin_add (by omega) (by omega)]
  refine hKE _ _ ⟨k2.st (Nat.le_refl _) n3 f3,by omega,i+1,rfl,hlt,?_⟩ (by simp[intA];omega)
  rw[o3,Nat.zero_add]
  have:=set_range (n:=vals.length) (i:=i) (f:=fun k=>[aB (if k<i then g k else false)]) (f':=fun k=>[aB (if k<i+1 then g k else false)]) hlt (fun k hk=>by
   have:(k<i+1)=(k<i):=by apply propext;omega
   simp only[this])
  rw[←this]
  simp
 ·have hge:i=vals.length:=by simp at hge;omega
  subst hge
  refine⟨_,rfl,k2,.inr ⟨S.n,by simp,Nat.le_refl _,n2,?_⟩⟩
  rw[o2,List.map_map]
  congr 2
  apply List.map_congr_left
  intro k hk
  simp[List.mem_range.1 hk]
theorem afterV_div(c:Ci)(v:List Bool):∀ i,∃ q:Nat,q<2 ^ i∧afterV c v i=((2 ^ c.inputs.toNat*q:Nat):Int)
 |0=>⟨0,by decide,by simp[afterV]⟩
 |i+1=>by
  obtain⟨q,h1,h2⟩:=afterV_div c v i
  have h3:2 ^ (i+1)=2*2 ^ i:=by rw[Nat.pow_succ];omega
  unfold afterV
  split
  ·refine⟨q+2 ^ i,by omega,?_⟩
   rw[h2,Nat.mul_add,←Nat.pow_add,Int.natCast_add,Int.natCast_pow]
   rfl
  ·exact⟨q,by omega,h2⟩
def nextL(c:Ci)(v vs:List Bool):List Int:=((List.range (2 ^ c.inputs.toNat)).filter fun x=>vs.getD ((afterV c v c.latches.length).toNat+x) false).map fun x:Nat=>afterV c v c.latches.length+(x:Int)
theorem next_of(h:Mk c vals n mid t S)(h0:0≤c.inputs)(h60:c.inputs+c.latches.length≤20){s:Nat}(hs:s<vals.length)(hl:Lits (c.latches.map (·.1)) (vals.getD s []))
    {vs:List Bool} (hvl:vs.length=2 ^ (c.inputs.toNat+c.latches.length)) (hsv:s<vs.length):
    ACalls Pg 161 [.p mid 0 0,aI s,aL aB vs] S (fun r S'=>∃ x,r = .ret x∧Keep S S'∧Own S.n S' x 3 ((if vs.getD s false=true then nextL c (vals.getD s []) vs else[]).map fun i=>[aI i])):=by
 refine calls161 ?_
 unfold m161
 refine ix_tree (by omega) (by omega) _ ?_
 rw[un_not,onB_v,Int.toNat_natCast]
 refine gd_of (fun h1=>⟨_,rfl,Keep.refl _,?_⟩) (fun h1=>?_)
 ·rw[Bool.not_eq_true']at h1
  rw[if_neg (by rw[h1];decide)]
  exact Own.nl _ _ _
 have h1:vs.getD s false=true:=by simpa using h1
 rw[if_pos h1]
 refine callF_at (at175 h h0 (by omega) hs hl) ?_
 obtain⟨z,hz,_⟩:=h.z
 obtain⟨m,hm⟩:=Int.eq_ofNat_of_zero_le h0
 have hmt:c.inputs.toNat=m:=by rw[hm];rfl
 rw[nilChk_p,shift_p,shift_p,ld1_p hz rfl rfl]
 rw[show aI c.inputs=aI (m:Int)by rw[hm]]
 rw[bin_shl1 (by omega)]
 obtain⟨q,hq,hA⟩:=afterV_div c (vals.getD s []) c.latches.length
 rw[hmt]at hA
 have e2:((2:Int) ^ m)=((2 ^ m:Nat):Int):=by rw[Int.natCast_pow];rfl
 have hpm:2 ^ m≤1048576:=Nat.pow_le_pow_right (by decide) (show m≤20 by omega)
 have hpt:2 ^ (m+c.latches.length)≤1048576:=Nat.pow_le_pow_right (by decide) (show m+c.latches.length≤20 by omega)
 have hb:∀ x,x<2 ^ m→2 ^ m*q+x<2 ^ (m+c.latches.length):=fun x hx=>by
  have:2 ^ m*(q+1)≤2 ^ m*2 ^ c.latches.length:=Nat.mul_le_mul_left _ hq
  rw[←Nat.pow_add]at this
  rw[Nat.mul_add,Nat.mul_one]at this
  omega
 rw[hmt]at hvl
 rw[e2,hA]
 have hN:nextL c (vals.getD s []) vs=((List.range (2 ^ m)).filter fun x=>vs.getD (2 ^ m*q+x) false).map fun x=>((2 ^ m*q+x:Nat):Int):=by
  unfold nextL
  rw[hA,hmt,Int.toNat_natCast]
  apply List.map_congr_left
  intro x _
  rw[Int.natCast_add]
 rw[hN]
 refine loop161_0 (fun y w S'=>Keep S S'∧∃ i:Nat,w=aI i∧i≤2 ^ m∧Own S.n S' y 3 ((((List.range i).filter fun x=>vs.getD (2 ^ m*q+x) false).map fun x=>((2 ^ m*q+x:Nat):Int)).map fun i=>[aI i]))
  (fun _ w _=>2 ^ m - ((intA w).getD 0).toNat) ⟨Keep.refl _,0,rfl,Nat.zero_le _,Own.nl _ _ _⟩ ?_
 rintro y _ S1 ⟨k1,i,rfl,hi,w1⟩ KE hKE
 unfold b161_0
 rw[bin_lss,onB_v]
 refine gd_of (fun hlt=>?_) (fun hge=>?_)
 ·have hlt:i<2 ^ m:=by
    have:((i:Int)<((2 ^ m:Nat):Int)):=of_decide_eq_true hlt
    omega
  have hbi:=hb i hlt
  have hadd:∀ K:AV→Store→Prop,∀ S,bin .add 0 (.v (.int .i64 (i:Int))) (.v (.int .i64 1)) S K=K (aI (i+1:Nat)) S:=fun K S=>bin_add (by omega) (by omega) 0
  have hμ:2 ^ m - ((intA (aI (i+1:Nat))).getD 0).toNat<2 ^ m - ((intA (aI i)).getD 0).toNat:=by simp[intA];omega
  rw[bin_or_low hlt (by omega)]
  refine ix_tree (by omega) (by omega) _ ?_
  rw[onB_v,Int.toNat_natCast]
  refine gd_of (fun h2=>?_) (fun h2=>?_)
  ·rw[bin_or_low hlt (by omega)]
   refine bsl1 rfl (fun _ h=>by cases h) ?_
   have hfl:=List.length_filter_le (fun x=>vs.getD (2 ^ m*q+x) false) (List.range i)
   rw[List.length_range]at hfl
   refine w1.app k1.1 (c:=[aI ((2 ^ m*q+i:Nat):Int)]) rfl (by rw[List.length_map,List.length_map];omega) (fun z5 S5 w5 b5 hz5=>?_) rfl
   rw[hadd]
   refine hKE _ _ _ ⟨w1.keep (Nat.le_refl _) b5 k1,i+1,rfl,hlt,?_⟩ hμ
   rw[List.range_succ,List.filter_append,List.map_append,List.map_append]
   rw[show List.filter (fun x=>vs.getD (2 ^ m*q+x) false) [i] = [i]by simp only[List.filter_cons,h2,if_true,List.filter_nil]]
   exact w5
  ·rw[hadd]
   refine hKE _ _ _ ⟨k1,i+1,rfl,hlt,?_⟩ hμ
   rw[List.range_succ,List.filter_append,List.map_append,List.map_append]
   rw[show List.filter (fun x=>vs.getD (2 ^ m*q+x) false) [i] = []by simp only[List.filter_cons,h2,List.filter_nil];rfl]
   simpa using w1
 ·have hge:i=2 ^ m:=by
    have:¬ ((i:Int)<((2 ^ m:Nat):Int)):=of_decide_eq_false hge
    omega
  subst hge
  exact⟨_,rfl,k1,w1⟩
end
section
variable {c:Ci} {vals:List (List Bool)} {n mid t:Nat} {S:Store}
theorem at157(h:Mk c vals n mid t S)(h0:0≤c.inputs)(h60:c.inputs+c.latches.length≤60){s:Nat}{vs:List Bool}(hs:s<vs.length){sid pid ts tp:Nat}{cs:List AV}
    (ho:S.obj sid=some (.cells ts [cs] true)) (hc:cs[1]? = some (aL aB vs)) (hp:S.obj pid=some (.cells tp [[.p mid 0 0]] true)):
    AnsAt Pg 157 [aI s,.p sid 0 0,.p pid 0 0] S (aB (vs.getD s false && begB c s)):=by
 refine calls157 ?_
 unfold m157
 rw[shift_p,ld1_p ho rfl hc]
 refine ix_tree (by omega) (by omega) _ ?_
 rw[onB_v,Int.toNat_natCast]
 refine gd_of (fun h1=>?_) (fun h1=>⟨by rw[h1];rfl,rfl⟩)
 rw[ld1_p hp rfl rfl]
 refine callF_at (at158 h h0 h60 s) ⟨by rw[h1];rfl,rfl⟩
theorem at159(h:Mk c vals n mid t S){s:Nat}{vs:List Bool}(hs:s<vs.length)(hsv:s<vals.length){l:Int}(hl:i64R l)(h0:0≤l)(h1:l.tdiv 2<(vals.getD s []).length){sid pid lid ts tp tl:Nat}{cs:List AV}
    (ho:S.obj sid=some (.cells ts [cs] true)) (hc:cs[1]? = some (aL aB vs)) (hp:S.obj pid=some (.cells tp [[.p mid 0 0]] true)) (hll:S.obj lid=some (.cells tl [[aI l]] true)):
    AnsAt Pg 159 [aI s,.p sid 0 0,.p pid 0 0,.p lid 0 0] S (aB (vs.getD s false && litB (vals.getD s []) l)):=by
 refine calls159 ?_
 unfold m159
 rw[shift_p,ld1_p ho rfl hc]
 refine ix_tree (by omega) (by omega) _ ?_
 rw[onB_v,Int.toNat_natCast]
 refine gd_of (fun h2=>?_) (fun h2=>⟨by rw[h2];rfl,rfl⟩)
 rw[ld1_p hp rfl rfl,ld1_p hll rfl rfl]
 refine callF_at (at160 h hsv hl h0 h1) ⟨by rw[h2];rfl,rfl⟩
theorem at155(h:Mk c vals n mid t S)(hv:vals.length≤1000000){F:FuncId}{fs cs:List AV}{g:Nat→Bool}(hf:∀ T,Keep S T→∀ i,i<vals.length→AnsAt Pg F (fs ++ [aI i]++cs) T (aB (g i))):
    AnsAt Pg 155 [.p mid 0 0,.f (.func F) fs cs] S (aL aB ((List.range vals.length).map g)):=
 ans_own_at (f:=fun b=>.bool b) (each_of h hv hf)
theorem at161(h:Mk c vals n mid t S)(h0:0≤c.inputs)(h60:c.inputs+c.latches.length≤20){s:Nat}(hs:s<vals.length)(hl:Lits (c.latches.map (·.1)) (vals.getD s []))
    {vs:List Bool} (hvl:vs.length=2 ^ (c.inputs.toNat+c.latches.length)) (hsv:s<vs.length):
    AnsAt Pg 161 [.p mid 0 0,aI s,aL aB vs] S (aL aI (if vs.getD s false=true then nextL c (vals.getD s []) vs else[])):=
 ans_own_at (f:=fun i=>.int .i64 i) (next_of h h0 h60 hs hl hvl hsv)
theorem own_app_row{α:Type}{f:α→AV}(hf:∀ a,∀ cs,f a≠.a cs){S:Store}{n:Nat}{z:AV}{e:Nat}{rs:List α}{r:α}{K:AV→Store→Prop}(w:Own n S z e (rs.map fun v=>[f v]))(hn:n≤S.n)(hl:rs.length≤1000000)
    (k:∀ x' S',Own n S' x' e ((rs ++ [r]).map fun v=>[f v])→But S S' z→(∃ m,x' = .s S.n 0 m)→K x' S'):appS e 1 24 z (.l [[f r]]) S K:=by
 refine w.app hn (c:=[f r]) rfl (by simp;omega) (fun x' S' w' b' h'=>k x' S' ?_ b' h') rfl
 rw[List.map_append]
 exact w'
end
def valsOf(c:Ci):List (List Bool):=(List.range (2 ^ c.gr.inputs.toNat)).map fun s:Nat=>allB c.gr (bitsL s c.gr.inputs.toNat)
def validOf(c:Ci):List Bool:=(List.range (2 ^ c.gr.inputs.toNat)).map fun s:Nat=>c.cons.all (litB ((valsOf c).getD s []))
def spOf(c:Ci):Sp where
 bits:=c.gr.inputs
 valid:=validOf c
 initial:=(List.range (2 ^ c.gr.inputs.toNat)).map fun s:Nat=>(validOf c).getD s false && begB c s
 next:=(List.range (2 ^ c.gr.inputs.toNat)).map fun s:Nat=>if(validOf c).getD s false=true then nextL c ((valsOf c).getD s []) (validOf c)else[]
 fair:=c.fair.map fun l=>(List.range (2 ^ c.gr.inputs.toNat)).map fun s:Nat=>(validOf c).getD s false && litB ((valsOf c).getD s []) l
def sp0:Sp:=⟨0,[],[],[],[]⟩
def spaceB (c:Ci):Sp × Int:=if c.right=false then(sp0,1)else if 10<c.gr.inputs then(sp0,2)else(spOf c,0)
theorem cv_sp0{S:Store}{n:Nat}:Cv S n (.a [aI 0,.nl,.nl,.nl,.nl]) sp0.av:=
 .a _ _ rfl fun k u u2 hk hk2=>by
  match k with
  |0=>cases hk;cases hk2;exact .v _
  |1|2|3|4=>cases hk;cases hk2;exact .nl
  |k+5=>simp at hk
theorem ldN_off{S:Store}{id t n j:Nat}{cs cs':List AV}{l:Bool}{K:AV→Store→Prop}(h:S.obj id=some (.cells t [cs] l))(hj:j+n≤cs.length)(hc:(cs.drop j).take n=cs'):ldN n (.p id 0 j) S K=K (.a cs') S:=by
 simp[ldN,rdN,place,Store.get,h,hj,hc]
structure Fr (c:Ci) (S S1 S4 S':Store) (a b:Nat) (sp:List AV) (rows:List (List Bool)):Prop where
 keep:Keep S S'
 n:S4.n≤S'.n
 cb:S'.obj S.n=some (.cells 42 [c.cells] true)
 sb:S'.obj S1.n=some (.cells 71 [sp] true)
 pb:S'.obj b=some (.cells 169 [[.p a 0 0]] true)
 mb:∃ z,S'.obj a=some (.cells 171 [c.cells++c.gr.cells ++ [z]] true)∧Own S4.n S' z 53 (rows.map fun v=>[aL aB v])
theorem lits_of{g:Gr}{l:List Int}(hr:∀ x∈l,i64R x)(ha:l.all g.lit=true){v:List Bool}(hv:(v.length:Int)=g.vars):Lits l v:=fun x hx=>by
 have:=List.all_eq_true.1 ha x hx
 simp only[Gr.lit,Bool.and_eq_true,decide_eq_true_eq]at this
 exact⟨hr x hx,this.2.2.1,by omega⟩
theorem vals_len{c:Ci}(h:c.right=true){s:Nat}(hs:s<2 ^ c.gr.inputs.toNat):(((valsOf c).getD s []).length:Int)=c.gr.vars:=by
 obtain⟨g1,g2,g3⟩:=gr_inp h
 have hr:=(right_c.1 h).2.2.2.2.2.2.1
 have:(valsOf c).getD s []=allB c.gr (bitsL s c.gr.inputs.toNat):=by simp[valsOf,List.getD_eq_getElem?_getD,hs]
 rw[this,allB_len,if_pos]
 ·have:0≤c.gr.vars:=by unfold Gr.vars;omega
  omega
 ·rw[hr,bitsL_len]
  simp;omega
theorem lat_lits{g:Gr}{l:List (Int × Int)}(hr:∀ x∈l,i64R x.1∧i64R x.2)(ha:l.all (latOk g)=true){v:List Bool}(hv:(v.length:Int)=g.vars):Lits (l.map (·.1)) v:=by
 refine lits_of (g:=g) (fun x hx=>?_) ?_ hv
 ·obtain⟨p,hp,rfl⟩:=List.mem_map.1 hx
  exact(hr p hp).1
 ·rw[List.all_eq_true]
  intro x hx
  obtain⟨p,hp,rfl⟩:=List.mem_map.1 hx
  have:=List.all_eq_true.1 ha p hp
  simp only[latOk,Bool.and_eq_true]at this
  exact this.1
structure Fr2 (c:Ci) (S S1 S4 S':Store) (a b:Nat) (sp:List AV) (z4:AV) (e4:Nat) (rows:List AV):Prop where
 keep:Keep S S'
 n:S4.n≤S'.n
 cb:S'.obj S.n=some (.cells 42 [c.cells] true)
 sb:S'.obj S1.n=some (.cells 71 [sp] true)
 pb:S'.obj b=some (.cells 169 [[.p a 0 0]] true)
 mb:∃ z,S'.obj a=some (.cells 171 [c.cells++c.gr.cells ++ [z]] true)∧Own S4.n S' z 53 ((valsOf c).map fun v=>[aL aB v])∧Apart z4 z
 ow:Own S4.n S' z4 e4 (rows.map fun v=>[v])
theorem own_tree{α:Type}{f:α→AV}{n:Nat}{S:Store}{x:AV}{e:Nat}{l:List α}(hf:∀ a∈l,Tree (f a))(h:Own n S x e (l.map fun a=>[f a])):Cv (S.frz (newer n)) n x (aL f l):=
 h.cv rfl rfl (fun i c c2 hi hi2=>by
  rw[hi]at hi2
  cases hi2
  refine⟨rfl,fun k u u2 hk hk2=>?_⟩
  rw[hk]at hk2
  cases hk2
  rw[List.getElem?_map]at hi
  obtain⟨a,ha,rfl⟩:=Option.map_eq_some_iff.1 hi
  cases k with
  |zero=>cases hk;exact hf a (List.mem_of_getElem? ha) _ _
  |succ k=>simp at hk)
theorem cv_a5{S:Store}{n:Nat}{x y z u v x' y' z' u' v':AV}(h1:Cv S n x x')(h2:Cv S n y y')(h3:Cv S n z z')(h4:Cv S n u u')(h5:Cv S n v v'):Cv S n (.a [x,y,z,u,v]) (.a [x',y',z',u',v']):=
 .a _ _ rfl fun k w w2 hk hk2=>by
  match k with
  |0=>cases hk;cases hk2;exact h1
  |1=>cases hk;cases hk2;exact h2
  |2=>cases hk;cases hk2;exact h3
  |3=>cases hk;cases hk2;exact h4
  |4=>cases hk;cases hk2;exact h5
  |k+5=>simp at hk
theorem ans117{c:Ci}(hc:c.ok):Ans Pg 117 [c.av] (.t [(spaceB c).1.av,aI (spaceB c).2]):=by
 intro S
 refine ACalls.tree (calls117 ?_)
 unfold m117
 refine boxA_of rfl fun S1 k1 n1 o1=>?_
 refine boxA_of rfl fun S2 k2 n2 o2=>?_
 have k2':=k1.trans k2
 have p2:S2.obj S.n=_:=(k2.2 _ (by omega)).trans o1
 rw[ldN_p (n:=8) p2 rfl]
 refine callF_ans (ans85 hc) ?_
 rw[un_not,onB_v]
 refine gd_of (fun h1=>?_) (fun h1=>?_)
 ·rw[ldN_p (n:=5) o2 rfl]
  refine stA_of o2 rfl rfl fun S3 n3 o3 f3=>?_
  rw[ldN_p (n:=5) o3 rfl]
  rw[Bool.not_eq_true']at h1
  refine⟨_,rfl,k2'.st (by omega) n3 f3,?_⟩
  rw[spaceB,if_pos h1]
  exact cv_t2 cv_sp0 (.v _)
 have h1:c.right=true:=by simpa using h1
 have h1':¬ c.right=false:=by rw[h1];decide
 obtain⟨g1,g2,g3⟩:=gr_inp h1
 have hin:=(right_c.1 h1).1
 obtain⟨m,hm⟩:=Int.eq_ofNat_of_zero_le g2
 have q2:∀ T:Store,Keep S2 T→T.obj S.n=some (.cells 42 [c.cells] true):=fun T hT=>(hT.2 _ (by omega)).trans p2
 refine⟨_,fun T hT=>by rw[ldN_p (n:=8) (q2 T hT) rfl];exact⟨rfl,rfl⟩,_,fun T hT=>by rw[ldN_p (n:=8) (q2 T hT) rfl];exact⟨rfl,rfl⟩,_,fun T hT=>callF_ans (ans84 c) ⟨rfl,rfl⟩,_,fun T hT=>by rw[bld_of (cs:=c.cells++c.gr.cells ++ [.nl]) rfl];exact⟨rfl,rfl⟩,?_⟩
 refine⟨_,rfl,rfl,fun ids S3 hN=>?_⟩
 obtain⟨a,b,rfl⟩:∃ a b,ids = [a,b]:=by
  have:=hN.len
  match ids,this with
  |[a,b],_=>exact⟨a,b,rfl⟩
 have k3:=hN.keep
 have n3:S3.n=S2.n+2:=hN.n
 have ha:=hN.lo a (by simp)
 have hb:=hN.lo b (by simp)
 have ha':=hN.hi a (by simp)
 have hb':=hN.hi b (by simp)
 have hab:a≠b:=by have:=hN.nodup;simp at this;exact this
 have oa:S3.obj a=some (.cells 171 [c.cells++c.gr.cells ++ [.nl]] true):=hN.new 0 a _ rfl rfl
 have ob:S3.obj b=some (.cells 169 [[.v (.pointer none)]] true):=hN.new 1 b _ rfl rfl
 show stN 1 (.p b 0 0) (.p a 0 0) S3 _
 refine st_of ob rfl rfl fun S4 n4 o4 f4=>?_
 have k4:Keep S S4:=(k2'.trans k3).st (by omega) n4 f4
 have fr4:Fr c S S1 S4 S4 a b [aI 0,.nl,.nl,.nl,.nl] []:=⟨k4,Nat.le_refl _,(f4 _ (by omega)).trans (q2 S3 k3),(f4 _ (by omega)).trans ((k3.2 _ (by omega)).trans o2),o4,.nl,(f4 _ hab).trans oa,Own.nl _ _ _⟩
 show ld1 (.p b 0 0) S4 _
 obtain⟨z4,m4,_⟩:=fr4.mb
 rw[ld1_p fr4.pb rfl rfl,nilChk_p,shift_p,shift_p,ld1_p m4 rfl rfl]
 show bin .gtr 0 (aI c.gr.inputs) _ _ _
 rw[bin_gtr,onB_v]
 refine gd_of (fun h2=>?_) (fun h2=>?_)
 ·rw[ldN_p (n:=5) fr4.sb rfl]
  refine stA_of fr4.sb rfl rfl fun S5 n5 o5 f5=>?_
  rw[ldN_p (n:=5) o5 rfl]
  refine⟨_,rfl,k4.st (by omega) n5 f5,?_⟩
  rw[spaceB,if_neg h1',if_pos (of_decide_eq_true h2)]
  exact cv_t2 cv_sp0 (.v _)
 have h2:¬ 10<c.gr.inputs:=of_decide_eq_false h2
 have hm10:m≤10:=by omega
 have hres:spaceB c=(spOf c,0):=by rw[spaceB,if_neg h1',if_neg h2]
 rw[hres]
 show ld1 (.p b 0 0) S4 _
 rw[ld1_p fr4.pb rfl rfl,nilChk_p,shift_p,shift_p,ld1_p m4 rfl rfl]
 show bin .shl 0 _ (aI c.gr.inputs) _ _
 rw[show aI c.gr.inputs=aI (m:Int)by rw[hm],bin_shl1 (by omega),show((2:Int) ^ m)=((2 ^ m:Nat):Int)by rw[Int.natCast_pow];rfl]
 have hN1:2 ^ m≤1024:=Nat.pow_le_pow_right (by decide) (show m≤10 by omega)
 have hgt:c.gr.inputs.toNat=m:=by rw[hm];rfl
 show loopV _ _ _ (env117_0 (.p S.n 0 0) (.p S1.n 0 0) (.p b 0 0) (aI ((2 ^ m:Nat):Int)) (.v (.int .i64 0))) _ _
 refine loop117_0 (fun y S'=>∃ i:Nat,y=aI i∧i≤2 ^ m∧Fr c S S1 S4 S' a b [aI 0,.nl,.nl,.nl,.nl] ((List.range i).map fun s:Nat=>allB c.gr (bitsL s m)))
  (fun y _=>2 ^ m - ((intA y).getD 0).toNat) ⟨0,rfl,Nat.zero_le _,fr4⟩ ?_
 rintro _ S5 ⟨i,rfl,hi,fr⟩ KE hKE
 unfold b117_0
 obtain⟨z,hz,hw⟩:=fr.mb
 rw[bin_lss,onB_v]
 refine gd_of (fun hlt=>?_) (fun hge=>?_)
 ·have hlt:i<2 ^ m:=by
    have:((i:Int)<((2 ^ m:Nat):Int)):=of_decide_eq_true hlt
    omega
  rw[ld1_p fr.pb rfl rfl,nilChk_p,shift_p,shift_p,ld1_p hz rfl rfl]
  show mkN _ _ _ (aI c.gr.inputs) (aI c.gr.inputs) _ _
  rw[show aI c.gr.inputs=aI (m:Int)by rw[hm]]
  refine mk_of (by omega) (by omega) fun S6 k6 n6 o6=>?_
  rw[lenS_s]
  have hrep:List.replicate m [AV.v (.bool false)]=(List.range m).map fun k=>[aB (if k<0 then bitN i k else false)]:=by
   apply List.ext_getElem
   ·simp
   ·intro k h1 h2
    simp
  rw[hrep]at o6
  have hs5:=fr.n
  refine loop117_1 (fun y S'=>S'.n=S6.n∧(∀ x,x<S5.n→S'.obj x=S5.obj x)∧∃ j:Nat,y=aI j∧j≤m∧S'.obj S5.n=some (.cells 4 ((List.range m).map fun k=>[aB (if k<j then bitN i k else false)]) true))
   (fun y _=>m - ((intA y).getD 0).toNat) ⟨rfl,k6.2,0,rfl,Nat.zero_le _,o6⟩ ?_
  rintro _ S7 ⟨n7,f7,j,rfl,hj,o7⟩ KE1 hKE1
  unfold b117_1
  rw[bin_lss,onB_v]
  refine gd_of (fun hlt1=>?_) (fun hge1=>?_)
  ·have hlt1:j<m:=by simpa using hlt1
   rw[bin_shrN (by omega),bin_and1,bin_eql,ixS_s hlt1 o7]
   refine st_of o7 (u0:=aB (if j<j then bitN i j else false)) (by rw[Nat.zero_add];simp[hlt1]) rfl fun S8 n8 o8 f8=>?_
   rw[bin_add (by omega) (by omega)]
   refine hKE1 _ _ ⟨by omega,fun x hx=>(f8 x (by omega)).trans (f7 x hx),j+1,rfl,hlt1,?_⟩ (by simp[intA];omega)
   rw[o8,Nat.zero_add]
   have:=set_range (n:=m) (i:=j) (f:=fun k=>[aB (if k<j then bitN i k else false)]) (f':=fun k=>[aB (if k<j+1 then bitN i k else false)]) hlt1 (fun k hk=>by
    have:(k<j+1)=(k<j):=by apply propext;omega
    simp only[this])
   rw[←this]
   simp[bitN]
  ·have hgj:j=m:=by
     have:¬ ((j:Int)<(m:Int)):=of_decide_eq_false hge1
     omega
   subst hgj
   have o7':S7.obj S5.n=some (.cells 4 ((bitsL i j).map fun b=>[aB b]) true):=by
    rw[o7,bitsL,List.map_map]
    congr 2
    apply List.map_congr_left
    intro k hk
    simp[List.mem_range.1 hk]
   have bp:=(f7 b (by omega)).trans fr.pb
   have bz:=(f7 a (by omega)).trans hz
   have kT:∀{T:Store} {x:Nat} {o:AObj},Keep S7 T→x<S5.n→S7.obj x=some o→T.obj x=some o:=fun hT hx ho=>(hT.2 _ (by omega)).trans ho
   have w7:Own S4.n S7 z 53 (((List.range i).map fun s:Nat=>allB c.gr (bitsL s j)).map fun v=>[aL aB v]):=hw.same (by omega) (fun x _ hx=>f7 x hx)
   refine⟨_,fun T hT=>by rw[ld1_p (kT hT (by omega) bp) rfl rfl];exact⟨rfl,rfl⟩,_,fun T hT=>by rw[ld1_p (kT hT (by omega) bp) rfl rfl];exact⟨rfl,rfl⟩,_,fun T hT=>by rw[nilChk_p];exact⟨rfl,rfl⟩,_,fun T hT=>by rw[shift_p];exact⟨rfl,rfl⟩,
    z,fun T hT=>by rw[ld1_p (kT hT (by omega) bz) rfl rfl];exact⟨rfl,rfl⟩,_,fun T hT=>by rw[ld1_p (kT hT (by omega) bp) rfl rfl];exact⟨rfl,rfl⟩,_,fun T hT=>by rw[nilChk_p];exact⟨rfl,rfl⟩,_,fun T hT=>by rw[shift_p];exact⟨rfl,rfl⟩,
    c.gr.av,fun T hT=>by rw[ldN_off (n:=2) (cs':=c.gr.cells) (kT hT (by omega) bz) (by simp[Ci.cells,Gr.cells]) rfl];exact⟨rfl,rfl⟩,
    aL aB (allB c.gr (bitsL i j)),fun T hT=>callF_at (ans_own_at (f:=fun b=>.bool b) (own_at154 hc.gr (ins:=bitsL i j) (by simp;omega) (fun T K=>by rw[lenS_s,bitsL_len]) (fun T' hT'=>?_))) ⟨rfl,rfl⟩,
    _,fun T hT=>bsl1 rfl (fun _ h=>by cases h) ⟨rfl,rfl⟩,?_⟩
   ·have:=(hT'.2 S5.n (by have:=hT.1;omega)).trans ((hT.2 S5.n (by omega)).trans o7')
    simp only[srcE,this]
    rw[if_pos (by simp)]
    simp[List.take_of_length_le]
   refine own_app_row (f:=aL aB) (fun _ _ h=>by cases h) w7 (by omega) (by simp;omega) (fun z8 S8 w8 b8 hz8=>?_)
   have k8:∀ x,x<S4.n→S8.obj x=S7.obj x:=fun x hx=>b8.2 x (by omega) (fun b m e=>by
    have:=w7.lt e
    omega)
   have n8:=b8.1
   have b8p:=(k8 b (by omega)).trans bp
   refine⟨fun T hT=>by rw[ld1_p ((hT.2 _ (by omega)).trans b8p) rfl rfl];exact⟨rfl,rfl⟩,_,fun T hT=>by rw[nilChk_p];exact⟨rfl,rfl⟩,_,fun T hT=>by rw[shift_p];exact⟨rfl,rfl⟩,?_⟩
   obtain⟨m8,hm8⟩:=hz8
   refine stF_of ((k8 a (by omega)).trans bz) (by simp[Ci.cells,Gr.cells]) (by rw[hm8];rfl) fun S9 n9 o9 f9=>?_
   have b9p:=(f9 b (Ne.symm hab)).trans b8p
   rw[bin_add (by omega) (by omega)]
   have old:∀ x,x<S4.n→x≠a→S9.obj x=S5.obj x:=fun x hx hne=>(f9 x hne).trans ((k8 x hx).trans (f7 x (by omega)))
   have k4n:=k4.1
   refine hKE _ _ ⟨i+1,rfl,hlt,⟨by have:=fr.keep.1;omega,fun x hx=>(old x (by omega) (by omega)).trans (fr.keep.2 x hx)⟩,by omega,(old _ (by omega) (by omega)).trans fr.cb,(old _ (by omega) (by omega)).trans fr.sb,b9p,z8,o9,?_⟩ (by simp[intA];omega)
   rw[List.range_succ,List.map_append]
   exact w8.st (id:=a) (fun b m e=>by rw[hm8]at e;injection e;omega) n9 f9
 ·have hge:i=2 ^ m:=by
    have:¬ ((i:Int)<((2 ^ m:Nat):Int)):=of_decide_eq_false hge
    omega
  subst hge
  have hvals:(List.range (2 ^ m)).map (fun s:Nat=>allB c.gr (bitsL s m))=valsOf c:=by unfold valsOf;rw[hgt]
  rw[hvals]at fr
  clear hw hz z
  have hvl:(valsOf c).length=2 ^ m:=by rw[←hvals];simp
  have hvalid:validOf c=(List.range (valsOf c).length).map fun s:Nat=>c.cons.all (litB ((valsOf c).getD s [])):=by rw[hvl,validOf,hgt]
  have hvv:(validOf c).length=2 ^ m:=by rw[hvalid];simp[hvl]
  have hR:=right_c.1 h1
  have hlen:∀ s,s<(valsOf c).length→(((valsOf c).getD s []).length:Int)=c.gr.vars:=fun s hs=>vals_len h1 (by rw[hgt,←hvl];exact hs)
  have hcons:∀ s,s<(valsOf c).length→Lits c.cons ((valsOf c).getD s []):=fun s hs=>lits_of hc.cons.1 hR.2.2.2.2.2.2.2.2.2.2.1 (hlen s hs)
  have hfair:∀ s,s<(valsOf c).length→Lits c.fair ((valsOf c).getD s []):=fun s hs=>lits_of hc.fair.1 hR.2.2.2.2.2.2.2.2.2.2.2.1 (hlen s hs)
  have hlats:∀ s,s<(valsOf c).length→Lits (c.latches.map (·.1)) ((valsOf c).getD s []):=fun s hs=>lat_lits hc.lats hR.2.2.2.2.2.2.2.1 (hlen s hs)
  have hs5:=fr.n
  obtain⟨z,hz,hw⟩:=fr.mb
  rw[ld1_p fr.pb rfl rfl,nilChk_p,shift_p,shift_p,ld1_p hz rfl rfl,shift_p]
  show stN 1 _ (aI c.gr.inputs) _ _
  refine stF_of fr.sb (by simp) rfl fun S6 n6 o6 f6=>?_
  have b6:=(f6 b (by omega)).trans fr.pb
  have z6:=(f6 a (by omega)).trans hz
  have w6:Own S4.n S6 z 53 _:=hw.st (id:=S1.n) (fun b m e=>by have:=hw.lt e;omega) n6 f6
  have mk6:Mk c (valsOf c) S4.n a 171 S6:=⟨by omega,z,z6,w6⟩
  rw[ld1_p b6 rfl rfl,ld1_p b6 rfl rfl]
  refine callF_at (at155 mk6 (by omega) (g:=fun s=>c.cons.all (litB ((valsOf c).getD s []))) (fun T hT s hs=>at156 (mk6.keep hT) hs (hcons s hs) hc.cons.2)) ?_
  rw[←hvalid,shift_p]
  refine stF_of o6 (by simp) rfl fun S7 n7 o7 f7=>?_
  have b7:=(f7 b (by omega)).trans b6
  have z7:=(f7 a (by omega)).trans z6
  have w7:Own S4.n S7 z 53 _:=w6.st (id:=S1.n) (fun b m e=>by have:=w6.lt e;omega) n7 f7
  have mk7:Mk c (valsOf c) S4.n a 171 S7:=⟨by omega,z,z7,w7⟩
  rw[ld1_p b7 rfl rfl]
  refine callF_at (at155 mk7 (by omega) (g:=fun s=>(validOf c).getD s false && begB c s) (fun T hT s hs=>at157 (mk7.keep hT) hin.1 (by omega) (by omega) ((hT.2 _ (by omega)).trans o7) rfl ((hT.2 _ (by omega)).trans b7))) ?_
  rw[shift_p]
  refine stF_of o7 (by simp) rfl fun S8 n8 o8 f8=>?_
  have b8:=(f8 b (by omega)).trans b7
  have z8:=(f8 a (by omega)).trans z7
  have w8:Own S4.n S8 z 53 _:=w7.st (id:=S1.n) (fun b m e=>by have:=w7.lt e;omega) n8 f8
  have old8:∀ x,x≠S1.n→S8.obj x=S5.obj x:=fun x hx=>(f8 x hx).trans ((f7 x hx).trans (f6 x hx))
  have hinit:(spOf c).initial=(List.range (valsOf c).length).map (fun s:Nat=>(validOf c).getD s false && begB c s):=by rw[hvl];simp only[spOf,hgt]
  rw[←hinit]at o8
  have fr8:Fr2 c S S1 S4 S8 a b [aI c.gr.inputs,aL aB (validOf c),aL aB (spOf c).initial,.nl,.nl] .nl 53 []:=
   ⟨⟨by have:=fr.keep.1;omega,fun x hx=>(old8 x (by omega)).trans (fr.keep.2 x hx)⟩,by omega,(old8 _ (by omega)).trans fr.cb,o8,b8,⟨z,z8,w8,fun _ _ _ _ _ e=>by cases e⟩,Own.nl _ _ _⟩
  rw[shift_p,ld1_p fr8.cb rfl rfl,lenS_aL]
  have hfl:c.fair.length≤2000:=hR.2.2.2.2.2.1
  have hspf:(spOf c).fair=c.fair.map fun l=>(List.range (valsOf c).length).map fun s:Nat=>(validOf c).getD s false && litB ((valsOf c).getD s []) l:=by rw[hvl];simp only[spOf,hgt]
  refine loop117_2 (fun y S'=>∃(i:Nat) (z4:AV),y=aI i∧i≤c.fair.length∧Fr2 c S S1 S4 S' a b [aI c.gr.inputs,aL aB (validOf c),aL aB (spOf c).initial,.nl,z4] z4 53 (((spOf c).fair.take i).map fun v=>aL aB v))
   (fun y _=>c.fair.length - ((intA y).getD 0).toNat) ⟨0,.nl,rfl,Nat.zero_le _,fr8⟩ ?_
  rintro _ S9 ⟨i,z4,rfl,hi,fr9⟩ KE2 hKE2
  unfold b117_2
  have h9n:=fr9.n
  have hk4:=k4.1
  rw[bin_lss,onB_v]
  refine gd_of (fun hlt=>?_) (fun hge=>?_)
  ·have hlt:i<c.fair.length:=by simpa using hlt
   have hlf:i<(spOf c).fair.length:=by rw[hspf,List.length_map];exact hlt
   have hli:=List.getElem_mem hlt
   have hrow:(spOf c).fair[i]=(List.range (valsOf c).length).map fun s:Nat=>(validOf c).getD s false && litB ((valsOf c).getD s []) c.fair[i]:=by simp only[hspf,List.getElem_map]
   have htk:(spOf c).fair.take (i+1)=(spOf c).fair.take i ++ [(spOf c).fair[i]]:=by rw[List.take_add_one,List.getElem?_eq_getElem hlf];rfl
   rw[ixS_aL hlt,ld1_q]
   refine box1_of rfl fun S10 k10 n10 o10=>?_
   refine st_of o10 rfl rfl fun S11 n11 o11 f11=>?_
   have k11:Keep S9 S11:=k10.st (Nat.le_refl _) n11 f11
   obtain⟨zz,hzz,hww,hap⟩:=fr9.mb
   have mk11:Mk c (valsOf c) S4.n a 171 S11:=⟨by have:=k11.1;omega,zz,(k11.2 _ (by omega)).trans hzz,own_keep hww k11⟩
   have m11:=k11.1
   have s11:=(k11.2 _ (by omega)).trans fr9.sb
   have b11:=(k11.2 _ (by omega)).trans fr9.pb
   have kT:∀{T:Store} {x:Nat} {o:AObj},Keep S11 T→x<S11.n→S11.obj x=some o→T.obj x=some o:=fun hT hx ho=>(hT.2 _ hx).trans ho
   refine⟨_,fun T hT=>by rw[shift_p];exact⟨rfl,rfl⟩,z4,fun T hT=>by rw[ld1_p (kT hT (by omega) s11) rfl rfl];exact⟨rfl,rfl⟩,_,fun T hT=>by rw[ld1_p (kT hT (by omega) b11) rfl rfl];exact⟨rfl,rfl⟩,_,fun T hT=>⟨rfl,rfl⟩,
    aL aB (spOf c).fair[i],fun T hT=>callF_at (show AnsAt _ _ _ T (aL aB (spOf c).fair[i])from hrow ▸ at155 (mk11.keep hT) (by omega) (g:=fun s=>(validOf c).getD s false && litB ((valsOf c).getD s []) c.fair[i]) (fun T' hT' s hs =>
     at159 (mk11.keep (hT.trans hT')) (by omega) hs (hfair s hs _ hli).1 (hfair s hs _ hli).2.1 (hfair s hs _ hli).2.2 (kT (hT.trans hT') (by omega) s11) rfl (kT (hT.trans hT') (by omega) b11) (kT (hT.trans hT') (by omega) o11))) ⟨rfl,rfl⟩,
    _,fun T hT=>bsl1 rfl (fun _ h=>by cases h) ⟨rfl,rfl⟩,?_⟩
   refine(own_keep fr9.ow k11).app (by omega) (c:=[aL aB (spOf c).fair[i]]) rfl (by simp;omega) (fun z5 S12 w12 b12 hz12=>?_) rfl
   obtain⟨m12,hm12⟩:=hz12
   have n12:=b12.1
   have k12:∀ x,x<S4.n→S12.obj x=S11.obj x:=fun x hx=>b12.2 x (by omega) (fun b m e=>by have:=fr9.ow.lt e;omega)
   refine⟨_,fun T hT=>by rw[shift_p];exact⟨rfl,rfl⟩,?_⟩
   refine stF_of ((k12 S1.n (by omega)).trans s11) (by simp) (by rw[hm12];rfl) fun S13 n13 o13 f13=>?_
   rw[bin_add (by omega) (by omega)]
   have old:∀ x,x<S4.n→x≠S1.n→S13.obj x=S9.obj x:=fun x hx hne=>(f13 x hne).trans ((k12 x hx).trans (k11.2 x (by omega)))
   have wz:Own S4.n S13 zz 53 _:=((own_keep hww k11).but b12 hap).st (id:=S1.n) (fun b m e=>by have:=hww.lt e;omega) n13 f13
   refine hKE2 _ _ ⟨i+1,z5,rfl,hlt,⟨by have:=fr9.keep.1;omega,fun x hx=>(old x (by omega) (by omega)).trans (fr9.keep.2 x hx)⟩,by omega,(old _ (by omega) (by omega)).trans fr9.cb,o13,(old _ (by omega) (by omega)).trans fr9.pb,⟨zz,(old _ (by omega) (by omega)).trans hzz,wz,fun x b m b' m' e e'=>?_⟩,?_⟩ (by simp[intA];omega)
   ·rw[hm12]at e;injection e with e1 e2 e3
    have:=hww.lt e'
    omega
   ·rw[htk,List.map_append,List.map_append]
    exact w12.st (id:=S1.n) (fun b m e=>by rw[hm12]at e;injection e;omega) n13 f13
  ·have hge:i=c.fair.length:=by
     have:¬ ((i:Int)<(c.fair.length:Int)):=of_decide_eq_false hge
     omega
   subst hge
   rw[List.take_of_length_le (by rw[hspf,List.length_map];exact Nat.le_refl _)]at fr9
   obtain⟨zz,hzz,hww,hap⟩:=fr9.mb
   rw[ld1_p fr9.pb rfl rfl,nilChk_p,shift_p,ld1_p hzz rfl rfl,hww.len,List.length_map]
   have hspn:(spOf c).next=(List.range (valsOf c).length).map fun s:Nat=>if(validOf c).getD s false=true then nextL c ((valsOf c).getD s []) (validOf c)else[]:=by rw[hvl];simp only[spOf,hgt]
   have hnl:(spOf c).next.length=(valsOf c).length:=by rw[hspn,List.length_map,List.length_range]
   refine loop117_3 (fun y S'=>∃(i:Nat) (z3:AV),y=aI i∧i≤(valsOf c).length∧Fr2 c S S1 S4 S' a b [aI c.gr.inputs,aL aB (validOf c),aL aB (spOf c).initial,z3,z4] z3 34 (((spOf c).next.take i).map fun v=>aL aI v)∧
       Own S4.n S' z4 53 (((spOf c).fair.map fun v=>aL aB v).map fun v=>[v])∧Apart z3 z4)
    (fun y _=>(valsOf c).length - ((intA y).getD 0).toNat) ⟨0,.nl,rfl,Nat.zero_le _,⟨fr9.keep,fr9.n,fr9.cb,fr9.sb,fr9.pb,⟨zz,hzz,hww,fun _ _ _ _ _ e=>by cases e⟩,Own.nl _ _ _⟩,fr9.ow,fun _ _ _ _ _ e=>by cases e⟩ ?_
   clear hzz hww hap zz fr9 h9n
   rintro _ S9 ⟨i,z3,rfl,hi,fr9,wf,hap4⟩ KE3 hKE3
   unfold b117_3
   have h9n:=fr9.n
   obtain⟨zz,hzz,hww,hap⟩:=fr9.mb
   rw[bin_lss,onB_v]
   refine gd_of (fun hlt=>?_) (fun hge=>?_)
   ·have hlt:i<(valsOf c).length:=by
      have:((i:Int)<((valsOf c).length:Int)):=of_decide_eq_true hlt
      omega
    have hlf:i<(spOf c).next.length:=by omega
    have hrow:(spOf c).next[i]=if(validOf c).getD i false=true then nextL c ((valsOf c).getD i []) (validOf c)else[]:=by simp only[hspn,List.getElem_map,List.getElem_range]
    have htk:(spOf c).next.take (i+1)=(spOf c).next.take i ++ [(spOf c).next[i]]:=by rw[List.take_add_one,List.getElem?_eq_getElem hlf];rfl
    have mk9:Mk c (valsOf c) S4.n a 171 S9:=⟨by omega,zz,hzz,hww⟩
    have kT:∀{T:Store} {x:Nat} {o:AObj},Keep S9 T→x<S9.n→S9.obj x=some o→T.obj x=some o:=fun hT hx ho=>(hT.2 _ hx).trans ho
    have hmm:m=c.inputs.toNat+c.latches.length:=by omega
    refine⟨_,fun T hT=>by rw[shift_p];exact⟨rfl,rfl⟩,z3,fun T hT=>by rw[ld1_p (kT hT (by omega) fr9.sb) rfl rfl];exact⟨rfl,rfl⟩,_,fun T hT=>by rw[ld1_p (kT hT (by omega) fr9.pb) rfl rfl];exact⟨rfl,rfl⟩,_,fun T hT=>by rw[shift_p];exact⟨rfl,rfl⟩,aL aB (validOf c),fun T hT=>by rw[ld1_p (kT hT (by omega) fr9.sb) rfl rfl];exact⟨rfl,rfl⟩,
     aL aI (spOf c).next[i],fun T hT=>callF_at (show AnsAt _ _ _ T (aL aI (spOf c).next[i])from hrow ▸ at161 (mk9.keep hT) hin.1 (by omega) hlt (hlats i hlt) (by rw[hvv,hmm]) (by omega)) ⟨rfl,rfl⟩,
     _,fun T hT=>bsl1 rfl (fun _ h=>by cases h) ⟨rfl,rfl⟩,?_⟩
    refine fr9.ow.app (by omega) (c:=[aL aI (spOf c).next[i]]) rfl (by simp;omega) (fun z5 S12 w12 b12 hz12=>?_) rfl
    obtain⟨m12,hm12⟩:=hz12
    have n12:=b12.1
    have k12:∀ x,x<S4.n→S12.obj x=S9.obj x:=fun x hx=>b12.2 x (by omega) (fun b m e=>by have:=fr9.ow.lt e;omega)
    refine⟨_,fun T hT=>by rw[shift_p];exact⟨rfl,rfl⟩,?_⟩
    refine stF_of ((k12 S1.n (by omega)).trans fr9.sb) (by simp) (by rw[hm12];rfl) fun S13 n13 o13 f13=>?_
    rw[bin_add (by omega) (by omega)]
    have old:∀ x,x<S4.n→x≠S1.n→S13.obj x=S9.obj x:=fun x hx hne=>(f13 x hne).trans (k12 x hx)
    have wz:Own S4.n S13 zz 53 _:=(hww.but b12 hap).st (id:=S1.n) (fun b m e=>by have:=hww.lt e;omega) n13 f13
    have wf':Own S4.n S13 z4 53 _:=(wf.but b12 hap4).st (id:=S1.n) (fun b m e=>by have:=wf.lt e;omega) n13 f13
    refine hKE3 _ _ ⟨i+1,z5,rfl,hlt,⟨⟨by have:=fr9.keep.1;omega,fun x hx=>(old x (by omega) (by omega)).trans (fr9.keep.2 x hx)⟩,by omega,(old _ (by omega) (by omega)).trans fr9.cb,o13,(old _ (by omega) (by omega)).trans fr9.pb,⟨zz,(old _ (by omega) (by omega)).trans hzz,wz,fun x b m b' m' e e'=>?_⟩,?_⟩,wf',fun x b m b' m' e e'=>?_⟩ (by simp[intA];omega)
    ·rw[hm12]at e;injection e with e1 e2 e3
     have:=hww.lt e'
     omega
    ·rw[htk,List.map_append,List.map_append]
     exact w12.st (id:=S1.n) (fun b m e=>by rw[hm12]at e;injection e;omega) n13 f13
    ·rw[hm12]at e;injection e with e1 e2 e3
     have:=wf.lt e'
     omega
   ·have hge:i=(valsOf c).length:=by
      have:¬ ((i:Int)<((valsOf c).length:Int)):=of_decide_eq_false hge
      omega
    subst hge
    have hnx:=fr9.ow
    rw[List.take_of_length_le (by omega)]at hnx
    rw[ldN_p (n:=5) fr9.sb rfl]
    refine stA_of fr9.sb rfl rfl fun S10 n10 o10 f10=>?_
    rw[ldN_p (n:=5) o10 rfl]
    have w3:Own S.n S10 z3 34 _:=(hnx.st (id:=S1.n) (fun b m e=>by have:=hnx.lt e;omega) n10 f10).low (by omega)
    have w4:Own S.n S10 z4 53 _:=(wf.st (id:=S1.n) (fun b m e=>by have:=wf.lt e;omega) n10 f10).low (by omega)
    rw[List.map_map]at w3 w4
    refine⟨_,rfl,fr9.keep.st (by omega) n10 f10,cv_t2 (cv_a5 (.v _) (treeB _ _ _) (treeB _ _ _) (own_tree (fun _ _=>treeI _) w3) (own_tree (fun _ _=>treeB _) w4)) (.v _)⟩
theorem ans66{c:Ci}(hc:c.ok){s:Int}{l:List Int}(hl:∀ x∈l,i64R x)(hn:l.length≤9223372036854775807):Ans Pg 66 [c.av,aI s,aL aI l] (aB (l.all (isB c s))):=by
 intro S
 refine ACalls.ans_v (calls66 ?_)
 unfold m66
 refine boxA_of rfl fun S1 k1 n1 o1=>?_
 refine loop66_0 (fun y S'=>S'=S1∧∃ i:Nat,y=aI i∧i≤l.length∧∀ j (h:j<l.length),j<i→isB c s l[j]=true)
  (fun y _=>l.length - ((intA y).getD 0).toNat) ⟨rfl,0,rfl,Nat.zero_le _,fun j _ hj=>(Nat.not_lt_zero _ hj).elim⟩ ?_
 rintro _ S1 ⟨rfl,i,rfl,hi,hok⟩ KE hKE
 unfold b66_0
 rw[lenS_aL,bin_lss,onB_v]
 refine gd_of (fun hlt=>?_) (fun hge=>?_)
 ·have hlt:i<l.length:=by simpa using hlt
  have hm:=List.getElem_mem hlt
  show ∃ q5:AV,_
  refine⟨_,by rw[ldN_p (n:=8) o1 rfl];exact⟨rfl,rfl⟩,?_⟩
  refine⟨_,by rw[ixS_aL hlt];exact⟨rfl,rfl⟩,?_⟩
  refine⟨_,by rw[ld1_q];exact⟨rfl,rfl⟩,?_⟩
  refine⟨_,callF_ans (ans68 hc (hl _ hm)) ⟨rfl,rfl⟩,?_⟩
  refine⟨_,by rw[un_not];exact⟨rfl,rfl⟩,?_⟩
  rw[onB_v]
  refine gd_of (fun h=>⟨?_,k1⟩) (fun h=>?_)
  ·have:l.all (isB c s)=false:=by
     rw[List.all_eq_false]
     exact⟨_,hm,by simpa using h⟩
   rw[this]
  ·have hadd:∀ K:AV→Store→Prop,∀ S,bin .add 0 (.v (.int .i64 (i:Int))) (.v (.int .i64 1)) S K=K (aI (i+1:Nat)) S:=fun K S=>bin_add (by omega) (by omega) 0
   rw[hadd]
   refine hKE _ _ ⟨rfl,i+1,rfl,hlt,fun j hj hj'=>?_⟩ (by simp[intA];omega)
   rcases Nat.lt_or_ge j i with h'|h'
   ·exact hok j hj h'
   ·have:j=i:=by omega
    subst this
    simpa using h
 ·have hge:i=l.length:=by simp at hge;omega
  subst hge
  refine⟨?_,k1⟩
  have:l.all (isB c s)=true:=by
   rw[List.all_eq_true]
   intro x hx
   obtain⟨j,hj,rfl⟩:=List.getElem_of_mem hx
   exact hok j hj hj
  rw[this]
theorem ans67{c:Ci}(hll:c.latches.length≤1000000)(h0:0≤c.inputs)(h60:c.inputs+c.latches.length≤60){s:Int}(hs:0≤s):Ans Pg 67 [c.av,aI s] (aB (begB c s)):=by
 intro S
 refine ACalls.ans_v (calls67 ?_)
 unfold m67
 refine boxA_of rfl fun S1 k1 n1 o1=>?_
 refine loop67_0 (fun w S'=>S'=S1∧∃ i:Nat,w=aI i∧i≤c.latches.length∧∀ j,j<i→(decide ((c.latches.getD j (0,0)).2=2) || decide (s.fdiv (2 ^ (c.inputs.toNat+j)) % 2=(c.latches.getD j (0,0)).2))=true)
  (fun w _=>c.latches.length - ((intA w).getD 0).toNat) ⟨rfl,0,rfl,Nat.zero_le _,fun j hj=>(Nat.not_lt_zero _ hj).elim⟩ ?_
 rintro _ S1 ⟨rfl,i,rfl,hi,hok⟩ KE hKE
 unfold b67_0
 rw[shift_p,ld1_p o1 rfl rfl,lenS_pL,bin_lss,onB_v]
 refine gd_of (fun hlt=>?_) (fun hge=>?_)
 ·have hlt:i<c.latches.length:=by simpa using hlt
  have hget:c.latches.getD i (0,0)=c.latches[i]:=by simp[List.getD_eq_getElem?_getD,hlt]
  have hadd:∀ K:AV→Store→Prop,∀ S,bin .add 0 (.v (.int .i64 (i:Int))) (.v (.int .i64 1)) S K=K (aI (i+1:Nat)) S:=fun K S=>bin_add (by omega) (by omega) 0
  have hno:(decide ((c.latches.getD i (0,0)).2=2) || decide (s.fdiv (2 ^ (c.inputs.toNat+i)) % 2=(c.latches.getD i (0,0)).2))=false→begB c s=false:=fun hh=>by
   rw[begB,List.all_eq_false]
   exact⟨i,by simpa using hlt,by rw[hh];decide⟩
  rw[hget]at hno
  have hnext:(decide (c.latches[i].2=2) || decide (s.fdiv (2 ^ (c.inputs.toNat+i)) % 2=c.latches[i].2))=true→KE 33 (env67_0 (aI s) (.p S.n 0 0) (aI (i+1:Nat))) S1:=fun hh=>hKE _ _ ⟨rfl,i+1,rfl,hlt,fun j hj=>by
   rcases Nat.lt_or_ge j i with h'|h'
   ·exact hok j h'
   ·have:j=i:=by omega
    subst this
    rw[hget];exact hh⟩ (by simp[intA];omega)
  have e:c.inputs+(i:Int)=((c.inputs.toNat+i:Nat):Int):=by omega
  rw[shift_p,ld1_p o1 rfl rfl,ixS_pL hlt,shift_q,ld1_qj (u:=aI c.latches[i].2) rfl,bin_neq,onB_v]
  generalize c.latches[i]=x at *
  refine gd_of (fun h4=>?_) (fun h4=>?_)
  ·have h4:¬ x.2=2:=by simpa using h4
   have hnn:0≤s.fdiv (2 ^ (c.inputs.toNat+i)):=Int.fdiv_nonneg hs (Int.le_of_lt (Int.pow_pos (by decide)))
   rw[shift_p,ld1_p o1 rfl rfl,bin_add (by omega) (by omega),e,bin_shrN (by omega),bin_rem (by decide),bin_neq,onB_v,show(s.fdiv (2 ^ (c.inputs.toNat+i))).tmod 2=s.fdiv (2 ^ (c.inputs.toNat+i)) % 2 from Int.tmod_eq_emod_of_nonneg hnn]
   refine gd_of (fun h5=>⟨?_,k1⟩) (fun h5=>?_)
   ·have h5:¬ s.fdiv (2 ^ (c.inputs.toNat+i)) % 2=x.2:=by simpa using h5
    rw[hno (by simp only[h4,h5,decide_false,Bool.or_self])]
   ·have h5:s.fdiv (2 ^ (c.inputs.toNat+i)) % 2=x.2:=by simpa using h5
    rw[hadd]
    exact hnext (by simp only[h5,decide_true,Bool.or_true])
  ·have h4:x.2=2:=by simpa using h4
   rw[hadd]
   exact hnext (by simp only[h4,decide_true,Bool.true_or])
 ·have hge:i=c.latches.length:=by simp at hge;omega
  subst hge
  refine⟨?_,k1⟩
  have:begB c s=true:=by
   rw[begB,List.all_eq_true]
   exact fun j hj=>hok j (by simpa using hj)
  rw[this]
theorem vals_get{c:Ci}{s:Nat}(hs:s<2 ^ c.gr.inputs.toNat):(valsOf c).getD s []=allB c.gr (bitsL s c.gr.inputs.toNat):=by
 simp[valsOf,List.getD_eq_getElem?_getD,hs]
theorem isB_eq{c:Ci}(h:c.right=true)(h10:c.gr.inputs≤60){s:Nat}(hs:s<2 ^ c.gr.inputs.toNat){l:Int}(hl:c.gr.lit l=true):isB c s l=litB ((valsOf c).getD s []) l:=by
 have hv:=vals_len h hs
 rw[vals_get hs]at hv ⊢
 obtain⟨g1,g2,g3⟩:=gr_inp h
 have hpos:0<(allB c.gr (bitsL s c.gr.inputs.toNat)).length:=by
  have:1≤c.gr.vars:=by unfold Gr.vars;omega
  omega
 simp only[isB,h,Bool.true_and,h10,decide_true,Gr.eval,hpos,hl]
theorem valid_eq{c:Ci}(h:c.right=true)(h10:c.gr.inputs≤60){s:Nat}(hs:s<2 ^ c.gr.inputs.toNat){l:List Int}(hl:l.all c.gr.lit=true):l.all (isB c s)=l.all (litB ((valsOf c).getD s [])):=by
 have:=List.all_eq_true.1 hl
 clear hl
 induction l with
 |nil=>rfl
 |cons a l ih =>
  rw[List.all_cons,List.all_cons,isB_eq h h10 hs (this a (by simp)),ih fun x hx=>this x (by simp[hx])]
theorem afterTo_eq{c:Ci}(h:c.right=true)(h10:c.gr.inputs≤60){s:Nat}(hs:s<2 ^ c.gr.inputs.toNat):∀{i:Nat},i≤c.latches.length→afterTo c s i=afterV c ((valsOf c).getD s []) i
 |0,_=>rfl
 |i+1,hi=>by
  have hlt:i<c.latches.length:=hi
  have hget:c.latches.getD i (0,0)=c.latches[i]:=by simp[List.getD_eq_getElem?_getD,hlt]
  have hlit:c.gr.lit c.latches[i].1=true:=by
   have:=List.all_eq_true.1 (right_c.1 h).2.2.2.2.2.2.2.1 _ (List.getElem_mem hlt)
   simp only[latOk,Bool.and_eq_true]at this
   exact this.1
  rw[afterTo,afterV,afterTo_eq h h10 hs (by omega),hget,isB_eq h h10 hs hlit]
theorem afterB_eq{c:Ci}(h:c.right=true)(h10:c.gr.inputs≤60){s:Nat}(hs:s<2 ^ c.gr.inputs.toNat):afterB c s=afterV c ((valsOf c).getD s []) c.latches.length:=by
 rw[afterB,h,decide_eq_true h10,Bool.true_and,if_pos rfl,afterTo_eq h h10 hs (Nat.le_refl _)]
abbrev aW16(i:Int):AV:=.v (.int .u16 i)
def pickV(l:List Int)(k:Nat)(n:Int):Int:=if l.length<k+1 then 0 else(l.getD k 0).tmod n
theorem pick_of{S:Store}{aid lid ta tl k:Nat}{l:List Int}{n:Int}{Q:AEnd→Store→Prop}(h1:S.obj aid=some (.cells ta [[aI k]] true))(h2:S.obj lid=some (.cells tl [[aL aW16 l]] true))(hne:lid≠aid)
    (hl:∀ x∈l,0≤x∧x<65536) (hn:0<n) (hk:k≤1000000)
    (K:∀ S',S'.n=S.n→S'.obj aid=some (.cells ta [[aI (k+1:Nat)]] true)→(∀ x,x≠aid→S'.obj x=S.obj x)→Q (.ret (aI (pickV l k n))) S'):ACalls Pg 78 [aI n,.p aid 0 0,.p lid 0 0] S Q:=by
 refine calls78 ?_
 unfold m78
 have hadd:∀ K:AV→Store→Prop,∀ S,bin .add 0 (.v (.int .i64 (k:Int))) (.v (.int .i64 1)) S K=K (aI (k+1:Nat)) S:=fun K S=>bin_add (by omega) (by omega) 0
 rw[ld1_p h1 rfl rfl,hadd]
 refine st_of h1 rfl rfl fun S1 n1 o1 f1=>?_
 have p1:=(f1 lid hne).trans h2
 rw[ld1_p o1 rfl rfl,ld1_p p1 rfl rfl,lenS_aL,bin_gtr,onB_v]
 refine gd_of (fun h=>?_) (fun h=>?_)
 ·have h:=of_decide_eq_true h
  have:=K S1 n1 o1 f1
  rw[pickV,if_pos (by omega)]at this
  exact this
 ·have h:=of_decide_eq_false h
  have hlt:k<l.length:=by omega
  have hx:=hl _ (List.getElem_mem hlt)
  have hsub:∀ K:AV→Store→Prop,∀ S,bin .sub 0 (.v (.int .i64 ((k+1:Nat):Int))) (.v (.int .i64 1)) S K=K (aI k) S:=fun K S=>(bin_sub (by omega) (by omega) 0).trans (by rw[show((k+1:Nat):Int) - 1=k by omega])
  rw[ld1_p p1 rfl rfl,ld1_p o1 rfl rfl,hsub,ixS_aL hlt,ld1_q,convI_64 _ (by omega) (by omega),bin_rem (by omega)]
  have:=K S1 n1 o1 f1
  rw[pickV,if_neg (by omega),show l.getD k 0=l[k]by simp[List.getD_eq_getElem?_getD,hlt]]at this
  exact this
def xr(x y:Int):Int:=IntKind.i64.wrap (BitVec.ofInt 64 x ^^^ BitVec.ofInt 64 y).toNat
theorem bin_xor{a b:Int}{S:Store}{K:AV→Store→Prop}:bin .xor 0 (aI a) (aI b) S K=K (aI (xr a b)) S:=by
 show optP (b2 .xor 0 (.int .i64 a) (.int .i64 b)) _=_
 have:b2 .xor 0 (.int .i64 a) (.int .i64 b)=some (.int .i64 (xr a b)):=rfl
 rw[this,optP_some]
theorem small_and{g:Gr}(hg:g.ok){a b:Int}(ha:i64R a)(hb:i64R b):(g.and a b).1.ok:=by
 have h0:(⟨0,[]⟩:Gr).ok:=⟨⟨by decide,by decide⟩,by simp,fun p hp=>by simp at hp⟩
 unfold Gr.and
 split
 ·exact h0
 ·rename_i h1
  have hr:g.right=true:=by
   cases e:g.right with
   |true=>rfl
   |false=>exact absurd (by rw[e];rfl) h1
  unfold andT
  have hx:i64R (if b > a then b else a):=by split<;>assumption
  have hy:i64R (if b<a then b else a):=by split<;>assumption
  generalize(if b > a then b else a)=x at *
  generalize(if b<a then b else a)=y at *
  repeat' split
  all_goals first|exact hg|exact h0|skip
  obtain⟨_,_,r3,_⟩:=right_iff.1 hr
  refine⟨hg.inp,by simp;omega,fun p hp=>?_⟩
  rcases List.mem_append.1 hp with hp|hp
  ·exact hg.pairs p hp
  ·have:p=(x,y):=by simpa using hp
   subst this
   exact⟨hx,hy⟩
def madeS(g:Gr)(last:Int)(s:Int):Gr × Int:=
 let many:=2*g.vars
 let r:=g.and (s.tmod many) ((s.tdiv many).tmod many)
 if r.2.2=0 then(r.1,xr r.2.1 ((s.tdiv 7).tmod 2))else(g,last)
def madeTo(n:Int)(l:List Int):Nat→Gr × Int
 |0=>(⟨n,[]⟩,1)
 |i+1=>madeS (madeTo n l i).1 (madeTo n l i).2 (l.getD i 0)
theorem and_inp{g:Gr}{a b:Int}(h:(g.and a b).2.2=0):(g.and a b).1.inputs=g.inputs:=by
 revert h
 unfold Gr.and
 split
 ·intro h;cases h
 ·unfold andT
  generalize(if b > a then b else a)=x
  generalize(if b<a then b else a)=y
  repeat' split
  all_goals first|(intro _;rfl)|(intro h;cases h)
theorem madeTo_inp(n:Int)(l:List Int):∀ i,(madeTo n l i).1.inputs=n
 |0=>rfl
 |i+1=>by
  have ih:=madeTo_inp n l i
  simp only[madeTo,madeS]
  split
  ·rename_i h
   rw[and_inp h,ih]
  ·exact ih
theorem rem_small{a b:Int}(h0:0≤a)(h1:a≤65536)(hb:0<b):0≤a.tmod b∧a.tmod b≤65536:=by
 rw[Int.tmod_eq_emod_of_nonneg h0]
 have h2:=Int.emod_nonneg a (show b≠0 by omega)
 have h3:a % b≤a:=by
  have h4:=Int.mul_ediv_add_emod a b
  have h5:0≤b*(a / b):=Int.mul_nonneg (by omega) (Int.ediv_nonneg h0 (by omega))
  omega
 omega
theorem madeTo_ok{n:Int}(hn:i64R n){l:List Int}(hl:∀ x∈l,0≤x∧x<65536)(h0:0≤n):∀ i,(madeTo n l i).1.ok
 |0=>⟨hn,by simp[madeTo],fun p hp=>by simp[madeTo]at hp⟩
 |i+1=>by
  have ih:=madeTo_ok hn hl h0 i
  have hv:0<2*(madeTo n l i).1.vars:=by
   have:=madeTo_inp n l i
   unfold Gr.vars
   omega
  have hx:0≤l.getD i 0∧l.getD i 0≤65536:=by
   rw[List.getD_eq_getElem?_getD]
   rcases Nat.lt_or_ge i l.length with h|h
   ·rw[List.getElem?_eq_getElem h]
    have:=hl _ (List.getElem_mem h)
    exact⟨this.1,by show l[i]≤65536;omega⟩
   ·rw[List.getElem?_eq_none h]
    exact⟨by decide,by decide⟩
  have hd:0≤(l.getD i 0).tdiv (2*(madeTo n l i).1.vars)∧(l.getD i 0).tdiv (2*(madeTo n l i).1.vars)≤65536:=by
   rw[Int.tdiv_eq_ediv_of_nonneg hx.1]
   have h1:=Int.ediv_nonneg hx.1 (show 0≤2*(madeTo n l i).1.vars by omega)
   have h2:=Int.ediv_le_self (2*(madeTo n l i).1.vars) hx.1
   omega
  have ha:=rem_small hx.1 hx.2 hv
  have hb:=rem_small hd.1 hd.2 hv
  simp only[madeTo,madeS]
  split
  ·exact small_and ih ⟨by omega,by omega⟩ ⟨by omega,by omega⟩
  ·exact ih
theorem lit_iff{g:Gr}{l:Int}:g.lit l=true↔0≤g.inputs∧g.inputs≤2000∧0≤l∧l / 2<g.vars:=by
 simp only[Gr.lit,Bool.and_eq_true,decide_eq_true_eq]
 constructor
 ·rintro⟨h1,h2,h3,h4⟩
  rw[Int.tdiv_eq_ediv_of_nonneg h3]at h4
  exact⟨h1,h2,h3,h4⟩
 ·rintro⟨h1,h2,h3,h4⟩
  rw[Int.tdiv_eq_ediv_of_nonneg h3]
  exact⟨h1,h2,h3,h4⟩
theorem and_right{g:Gr}(h:g.right=true){a b:Int}(e:(g.and a b).2.2=0):
    (g.and a b).1.right=true∧(g.and a b).1.lit (g.and a b).2.1=true∧(g.and a b).1.vars≤g.vars+1∧g.vars≤(g.and a b).1.vars∧(g.and a b).1.inputs=g.inputs:=by
 have hin:=and_inp e
 obtain⟨r1,r2,r3,r4,r5,r6⟩:=right_iff.1 h
 have hv:g.vars=g.inputs+1+g.ands.length:=rfl
 revert e
 unfold Gr.and
 split
 ·intro e;cases e
 ·rename_i hl
  have hl:(g.right && (g.lit a && g.lit b))=true:=by simpa using hl
  simp only[Bool.and_eq_true]at hl
  obtain⟨_,la,lb⟩:=hl
  have lx:g.lit (if b > a then b else a)=true:=by split<;>assumption
  have ly:g.lit (if b<a then b else a)=true:=by split<;>assumption
  have hxy:(if b<a then b else a)≤(if b > a then b else a):=by split<;>split<;>omega
  generalize(if b > a then b else a)=x at *
  generalize(if b<a then b else a)=y at *
  obtain⟨_,_,x0,x1⟩:=lit_iff.1 lx
  obtain⟨_,_,y0,y1⟩:=lit_iff.1 ly
  unfold andT
  split
  ·intro _;exact⟨h,lit_iff.2 ⟨r1,r2,Int.le_refl _,by show(0:Int) / 2<g.vars;omega⟩,by show g.vars≤_;omega,Int.le_refl _,rfl⟩
  rename_i hy0
  split
  ·intro _;exact⟨h,lit_iff.2 ⟨r1,r2,Int.le_refl _,by show(0:Int) / 2<g.vars;omega⟩,by show g.vars≤_;omega,Int.le_refl _,rfl⟩
  rename_i hd
  split
  ·intro _;exact⟨h,lx,by show g.vars≤_;omega,Int.le_refl _,rfl⟩
  rename_i hy1
  split
  ·intro _;exact⟨h,lx,by show g.vars≤_;omega,Int.le_refl _,rfl⟩
  rename_i hne
  rw[Int.tdiv_eq_ediv_of_nonneg x0,Int.tdiv_eq_ediv_of_nonneg y0]at hd
  split
  ·rename_i i hi
   obtain⟨hi,_,_⟩:=List.findIdx?_eq_some_iff_getElem.1 hi
   intro _
   exact⟨h,lit_iff.2 ⟨r1,r2,by show 0≤2*(g.inputs+1+(i:Int));omega,by show 2*(g.inputs+1+(i:Int)) / 2<g.vars;omega⟩,by show g.vars≤_;omega,Int.le_refl _,rfl⟩
  ·rename_i hi
   split
   ·intro e;cases e
   ·rename_i hbig
    intro _
    have hv':(⟨g.inputs,g.ands ++ [(x,y)]⟩:Gr).vars=g.vars+1:=by simp[Gr.vars];omega
    refine⟨right_iff.2 ⟨r1,r2,by simp;omega,by rw[hv'];omega,fun j hj=>?_,?_⟩,lit_iff.2 ⟨r1,r2,by show 0≤2*(g.vars+1) - 2;omega,by rw[hv'];show(2*(g.vars+1) - 2) / 2<_;omega⟩,by rw[hv'];omega,by rw[hv'];omega,rfl⟩
    ·rcases Nat.lt_or_ge j g.ands.length with hj'|hj'
     ·have:=r5 j hj'
      simpa[List.getD_eq_getElem?_getD,List.getElem?_append_left hj']using this
     ·have hj2:j=g.ands.length:=by simp at hj;omega
      subst hj2
      have:(g.ands ++ [(x,y)]).getD g.ands.length (0,0)=(x,y):=by simp[List.getD_eq_getElem?_getD]
      show may ((g.ands ++ [(x,y)]).getD g.ands.length (0,0)) _=true
      rw[this]
      simp only[may,Bool.and_eq_true,decide_eq_true_eq]
      rw[Int.tdiv_eq_ediv_of_nonneg x0,Int.tdiv_eq_ediv_of_nonneg y0]
      refine⟨by omega,?_,?_⟩
      ·have:x / 2≠y / 2:=fun q=>hd ⟨q,hne⟩
       omega
      ·show x / 2<g.inputs+1+(g.ands.length:Int);omega
    ·show(g.ands ++ [(x,y)]).Nodup
     rw[List.nodup_append]
     refine⟨r6,by simp,fun p hp q hq=>?_⟩
     have:q=(x,y):=by simpa using hq
     subst this
     rintro rfl
     have:=List.findIdx?_eq_none_iff.1 hi _ hp
     simp at this
theorem xr_nat(a b:Nat)(ha:a<2 ^ 62)(hb:b<2 ^ 62):xr (a:Int) (b:Int)=((a ^^^ b:Nat):Int):=by
 have h1:a ^^^ b<2 ^ 62:=Nat.xor_lt_two_pow ha hb
 have hp:(2:Nat) ^ 62=4611686018427387904:=by decide
 unfold xr
 have e:(BitVec.ofInt 64 (a:Int) ^^^ BitVec.ofInt 64 (b:Int)).toNat=a ^^^ b:=by
  rw[BitVec.toNat_xor,BitVec.ofInt_natCast,BitVec.ofInt_natCast,BitVec.toNat_ofNat,BitVec.toNat_ofNat,Nat.mod_eq_of_lt (by omega),Nat.mod_eq_of_lt (by omega)]
 rw[e,wrap64 (by omega) (by omega)]
theorem xr_half{a b:Int}(h0:0≤a)(h1:a≤1000000)(hb:b=0∨b=1):0≤xr a b∧xr a b / 2=a / 2∧xr a b≤1000001:=by
 obtain⟨n,rfl⟩:=Int.eq_ofNat_of_zero_le h0
 obtain⟨m,rfl,hm⟩:∃ m:Nat,b=(m:Int)∧m<2:=by rcases hb with rfl|rfl;exact⟨0,rfl,by decide⟩;exact⟨1,rfl,by decide⟩
 have hp:(2:Nat) ^ 62=4611686018427387904:=by decide
 rw[xr_nat n m (by omega) (by omega)]
 have:(n ^^^ m) / 2=n / 2:=by
  rw[Nat.xor_div_two,show m / 2=0 by omega,Nat.xor_zero]
 omega
theorem madeTo_right{n:Int}(h0:0≤n)(hn:n≤100){l:List Int}(hl:∀ x∈l,0≤x∧x<65536):∀ i,i≤40→(madeTo n l i).1.right=true∧(madeTo n l i).1.lit (madeTo n l i).2=true∧n+1≤(madeTo n l i).1.vars∧(madeTo n l i).1.vars≤n+1+i
 |0,_=>by
  refine⟨right_iff.2 ⟨h0,by show n≤2000;omega,by show((0:Nat):Int)≤2000;decide,by show n+1+0≤2000;omega,fun j hj=>by simp[madeTo]at hj,by simp[madeTo]⟩,lit_iff.2 ⟨h0,by show n≤2000;omega,by show(0:Int)≤1;decide,by show(1:Int) / 2<n+1+0;omega⟩,by show _≤n+1+0;omega,by show n+1+0≤_;omega⟩
 |i+1,hi=>by
  obtain⟨h1,h2,h3,h4⟩:=madeTo_right h0 hn hl i (by omega)
  have hx:0≤l.getD i 0:=by
   rw[List.getD_eq_getElem?_getD]
   rcases Nat.lt_or_ge i l.length with h|h
   ·rw[List.getElem?_eq_getElem h]
    exact(hl _ (List.getElem_mem h)).1
   ·rw[List.getElem?_eq_none h]
    exact Int.le_refl 0
  simp only[madeTo,madeS]
  split
  ·rename_i he
   obtain⟨k1,k2,k3,k4,k5⟩:=and_right h1 he
   generalize(madeTo n l i).1.and ((l.getD i 0).tmod (2*(madeTo n l i).1.vars)) (((l.getD i 0).tdiv (2*(madeTo n l i).1.vars)).tmod (2*(madeTo n l i).1.vars))=r at *
   obtain⟨l1,l2,l3,l4⟩:=lit_iff.1 k2
   have hb:((l.getD i 0).tdiv 7).tmod 2=0∨((l.getD i 0).tdiv 7).tmod 2=1:=by
    rw[Int.tdiv_eq_ediv_of_nonneg hx,Int.tmod_eq_emod_of_nonneg (by omega)]
    omega
   obtain⟨q1,q2,_⟩:=xr_half (a:=r.2.1) l3 (by omega) hb
   exact⟨k1,lit_iff.2 ⟨l1,l2,q1,by rw[q2];exact l4⟩,by show _≤r.1.vars;omega,by show r.1.vars≤_;omega⟩
  ·exact⟨h1,h2,h3,by show(madeTo n l i).1.vars≤_;omega⟩
structure MadeC (c:Ci):Prop where
 ok:c.ok
 right:c.right=true
 inp:0≤c.inputs∧c.inputs≤3
 lats:1≤c.latches.length∧c.latches.length≤3
 ands:c.ands.length≤8
 outs:c.outs.length≤2
 bads:c.bads.length≤1
 cons:c.cons.length≤1
 fair:c.fair.length≤1
 names:∃(b1 b2:Bool) (t:ByteArray),c.names=(if b1 then[⟨108,0,⟨#[113]⟩⟩]else[])++(if b2 then[⟨111,c.outs.length - 1,t⟩]else[])∧(b2=true→0<c.outs.length∧(t=⟨#[111,117,116]⟩∨t=⟨#[108,49]⟩∨t=⟨#[97,45,98]⟩))
section
set_option maxRecDepth 100000
def c79:Code:=(Tryz.f79.body).getD .skip
def r79:List ResultVar:=Tryz.f79.results.toList
def env79_0(y1 y4 y6 y7 y8:AV):List AV:=[y1,y4,y6,y7,y8]
def lv79_0:List Nat:=[1,4,6,7,8]
def ms79:List (List Nat):=[lv79_0,[]]
def m79(x0 x1:AV)(S:Store)(Q:PoT):Prop:=
 boxN 82 2 (.a [.v (.int .i64 0),.nl]) S fun c S=>bld [(0,1),(1,1)] [.v (.int .i64 0),.nl] [(0,x0)] S fun d S=>boxN 82 2 (.a [.v (.int .i64 0),.nl]) S fun e S=>stN 2 e d S fun f S=>loopV lv79_0 (vc Pg (c79.at_ [1,1,1,0,1,0,0]) (ms79.drop 1)) 68 (env79_0 x1 c e (.v (.int .i64 1)) (.v (.int .i64 0))) S (blockK 0 (seqK (vc Pg (c79.at_ [1,1,1,1]) (ms79.drop 1)) (bodyK Pg r79 Q)))
theorem calls79{x0 x1:AV}{S:Store}{Q:PoT}(h:m79 x0 x1 S Q):ACalls Pg 79 [x0,x1] S Q:=
 calls_of_vc (fn:=Tryz.f79) (c:=c79) (n:=68) Tryz.func79 (by kernel_rfl) (by kernel_rfl) (by kernel_rfl) ms79 (Eq.mpr (by kernel_rfl) h)
def b79_0(y1 y4 y6 y7 y8:AV)(S:Store)(KE0:KeT)(Q:PoT):Prop:=
 lenS y1 S fun c S=>bin .lss 0 y8 c S fun d S=>onB d fun b=>gd b (bin .lss 0 y8 (.v (.int .i64 40)) S fun e S=>onB e fun b=>gd b (ldN 2 y6 S fun f S=>callF Pg 40 [f] S Q fun g S=>bin .mul 0 (.v (.int .i64 2)) g S fun h S=>(fun S0:Store=>∃ i:AV,(ixS 126 1 y1 y8 S fun k S=>k=i∧S=S0)∧∃ l:AV,(ld1 i S fun m S=>m=l∧S=S0)∧∃ n:AV,(convI .i64 l S fun o S=>o=n∧S=S0)∧∃ p:AV,(bin .rem 0 n h S fun q S=>q=p∧S=S0)∧∃ r:AV,(ixS 126 1 y1 y8 S fun s S=>s=r∧S=S0)∧∃ u:AV,(ld1 r S fun w S=>w=u∧S=S0)∧∃ x:AV,(convI .i64 u S fun y S=>y=x∧S=S0)∧∃ z:AV,(bin .quo 0 x h S fun A S=>A=z∧S=S0)∧∃ B:AV,(bin .rem 0 z h S fun C S=>C=B∧S=S0)∧ldN 2 y6 S fun D S=>callF Pg 120 [D,p,B] S Q fun E S=>extr E 0 S fun F S=>extr E 1 S fun G S=>extr E 2 S fun H S=>boxN 82 2 (.a [.v (.int .i64 0),.nl]) S fun I S=>stN 2 I F S fun J S=>bin .eql 0 H (.v (.int .i64 0)) S fun K S=>onB K fun b=>gd b (∃ L:AV,(∀ T:Store,Keep S T→ldN 2 I T fun M S=>M=L∧S=T)∧∃ N:AV,(∀ T:Store,Keep S T→ixS 126 1 y1 y8 T fun O S=>O=N∧S=T)∧∃ P:AV,(∀ T:Store,Keep S T→ld1 N T fun R S=>R=P∧S=T)∧∃ U:AV,(∀ T:Store,Keep S T→convI .i64 P T fun V S=>V=U∧S=T)∧∃ W:AV,(∀ T:Store,Keep S T→bin .quo 0 U (.v (.int .i64 7)) T fun X S=>X=W∧S=T)∧∃ Y:AV,(∀ T:Store,Keep S T→bin .rem 0 W (.v (.int .i64 2)) T fun Z S=>Z=Y∧S=T)∧∃ a0:AV,(∀ T:Store,Keep S T→bin .xor 0 G Y T fun a1 S=>a1=a0∧S=T)∧stN 2 y6 L S fun a2 S=>(∀ T:Store,Keep S T→bin .xor 0 G Y T fun a3 S=>a3=a0∧S=T)∧(∀ T:Store,Keep S T→bin .rem 0 W (.v (.int .i64 2)) T fun a4 S=>a4=Y∧S=T)∧(∀ T:Store,Keep S T→bin .quo 0 U (.v (.int .i64 7)) T fun a5 S=>a5=W∧S=T)∧(∀ T:Store,Keep S T→convI .i64 P T fun a6 S=>a6=U∧S=T)∧(∀ T:Store,Keep S T→ld1 N T fun a7 S=>a7=P∧S=T)∧(∀ T:Store,Keep S T→ixS 126 1 y1 y8 T fun a8 S=>a8=N∧S=T)∧bin .add 0 y8 (.v (.int .i64 1)) S fun a9 S=>KE0 68 (env79_0 y1 y4 y6 a0 a9) S) (bin .add 0 y8 (.v (.int .i64 1)) S fun b0 S=>KE0 68 (env79_0 y1 y4 y6 y7 b0) S)) S) (ldN 2 y6 S fun b1 S=>stN 2 y4 b1 S fun b2 S=>ldN 2 y4 S fun b3 _=>Q (.ret (.t [b3,y7])) S)) (ldN 2 y6 S fun b4 S=>stN 2 y4 b4 S fun b5 S=>ldN 2 y4 S fun b6 _=>Q (.ret (.t [b6,y7])) S)
theorem b79_0_eq(y1 y4 y6 y7 y8:AV)(S:Store)(KE0:KeT)(Q:PoT):vc Pg (c79.at_ [1,1,1,0,1,0,0]) (ms79.drop 1) (mkE 68 lv79_0 (env79_0 y1 y4 y6 y7 y8)) S (thenK (fgK lv79_0 KE0) (blockK 0 (seqK (vc Pg (c79.at_ [1,1,1,1]) (ms79.drop 1)) (bodyK Pg r79 Q))))=b79_0 y1 y4 y6 y7 y8 S KE0 Q:=by kernel_rfl
theorem loop79_0{y1 y4 y6:AV}{y70 y80:AV}{S:Store}{Q:PoT}(I:AV→AV→Store→Prop)(μ:AV→AV→Store→Nat)(h0:I y70 y80 S)
    (hr:∀(y7 y8:AV) (S:Store),I y7 y8 S→∀ KE0:KeT,(∀(y7' y8':AV) (S':Store),I y7' y8' S'→μ y7' y8' S'<μ y7 y8 S→KE0 68 (env79_0 y1 y4 y6 y7' y8') S')→b79_0 y1 y4 y6 y7 y8 S KE0 Q):
    loopV lv79_0 (vc Pg (c79.at_ [1,1,1,0,1,0,0]) (ms79.drop 1)) 68 (env79_0 y1 y4 y6 y70 y80) S (blockK 0 (seqK (vc Pg (c79.at_ [1,1,1,1]) (ms79.drop 1)) (bodyK Pg r79 Q))):=by
 refine⟨fun n e S=>n=68∧∃ y7 y8:AV,e=(env79_0 y1 y4 y6 y7 y8)∧I y7 y8 S,fun _ e S=>μ (e.getD 3 .j) (e.getD 4 .j) S,?_,?_⟩
 ·exact⟨_,_,Wk.refl _ _,rfl,_,_,rfl,h0⟩
 ·rintro _ e S ⟨rfl,y7,y8,rfl,hI⟩
  exact(b79_0_eq _ _ _ _ _ _ _ _).mpr (hr y7 y8 S hI _ (fun y7' y8' S' hI' hm=>⟨_,_,Wk.refl _ _,⟨rfl,_,_,rfl,hI'⟩,hm⟩))
end
theorem frz_none(S:Store):S.frz (fun _=>false)=S:=by
 cases S with
 |mk n obj =>
  unfold Store.frz
  congr 1
  funext i
  cases h:obj i with
  |none=>simp[h]
  |some o=>simp[h,frz_id]
theorem ansAt_cv{P:Program}{f:FuncId}{args args2:List AV}{S:Store}{r:AV}(hl:args.length=args2.length)(hcv:∀(k:Nat) (u u2:AV),args[k]? = some u→args2[k]? = some u2→Cv S S.n u u2)(h:AnsAt P f args2 S r):AnsAt P f args S r:=by
 refine ACalls.frz (fun _=>false) hl ?_ ?_
 ·rw[frz_none];exact hcv
 ·rw[frz_none];exact h
theorem at79{n:Int}(h0:0≤n)(hn:n≤1000){l:List Int}(hl:∀ x∈l,0≤x∧x<65536)(hlen:l.length≤1000000){S:Store}{x1:AV}(hx1:∀(T:Store) (K:AV→Store→Prop),lenS x1 T K=K (aI l.length) T)
    {P:Nat→AV} (hP:∀ T,Keep S T→∀ i (h:i<l.length),(∀ K:AV→Store→Prop,ixS 126 1 x1 (aI i) T K=K (P i) T)∧∀ K:AV→Store→Prop,ld1 (P i) T K=K (aW16 l[i]) T):
    AnsAt Pg 79 [aI n,x1] S (.t [(madeTo n l (min l.length 40)).1.av,aI (madeTo n l (min l.length 40)).2]):=by
 refine ACalls.tree (calls79 ?_)
 unfold m79
 have hok:=madeTo_ok (n:=n) ⟨by omega,by omega⟩ hl h0
 have hin:=madeTo_inp n l
 refine boxA_of rfl fun S1 k1 n1 o1=>?_
 rw[bld_of (cs:=[aI n,.nl]) rfl]
 refine boxA_of rfl fun S2 k2 n2 o2=>?_
 refine stA_of o2 rfl rfl fun S3 n3 o3 f3=>?_
 have k3:Keep S S3:=(k1.trans k2).st (by omega) n3 f3
 refine loop79_0 (fun y w S'=>Keep S S'∧S3.n≤S'.n∧S'.obj S.n=some (.cells 82 [[aI 0,.nl]] true)∧∃ i:Nat,w=aI i∧i≤min l.length 40∧y=aI (madeTo n l i).2∧
     (((madeTo n l i).1=⟨n,[]⟩∧S'.obj S1.n=some (.cells 82 [[aI n,.nl]] true))∨S'.obj S1.n=some (.cells 82 [(madeTo n l i).1.cells] true)))
  (fun _ w _=>40 - ((intA w).getD 0).toNat) ⟨k3,Nat.le_refl _,(f3 _ (by omega)).trans ((k2.2 _ (by omega)).trans o1),0,rfl,Nat.zero_le _,rfl,.inl ⟨rfl,o3⟩⟩ ?_
 rintro _ _ S4 ⟨k4,n4,p4,i,rfl,hi,rfl,hg⟩ KE hKE
 have hk3:=k3.1
 obtain⟨cs,hcs,hcl,hcv⟩:∃ cs,S4.obj S1.n=some (.cells 82 [cs] true)∧cs.length=2∧∀(T:Store) (m:Nat),Cv T m (.a cs) (madeTo n l i).1.av:=by
  rcases hg with⟨e,h⟩|h
  ·exact⟨_,h,rfl,fun T m=>by rw[e];exact cv_a2 (.v _) .nl⟩
  ·exact⟨_,h,rfl,fun T m=>Gr.tree _ _ _⟩
 have hgi:=hin i
 have hgo:=hok i
 have hlen2:=hgo.len
 have fin:i=min l.length 40→ldN 2 (.p S1.n 0 0) S4 fun v S5=>stN 2 (.p S.n 0 0) v S5 fun _ S5=>ldN 2 (.p S.n 0 0) S5 fun v S6=>∃ r,AEnd.ret (.t [v,aI (madeTo n l i).2]) = .ret r∧Keep S S6∧Cv (S6.frz (newer S.n)) S.n r (.t [(madeTo n l (min l.length 40)).1.av,aI (madeTo n l (min l.length 40)).2]):=fun e=>by
  rw[ldN_p (n:=2) hcs hcl]
  refine stA_of p4 hcl rfl fun S5 n5 o5 f5=>?_
  rw[ldN_p (n:=2) o5 hcl]
  exact⟨_,rfl,k4.st (Nat.le_refl _) n5 f5,by rw[←e];exact cv_t2 (hcv _ _) (.v _)⟩
 unfold b79_0
 rw[hx1,bin_lss,onB_v]
 refine gd_of (fun hlt=>?_) (fun hge=>fin (by have:=of_decide_eq_false hge;omega))
 rw[bin_lss,onB_v]
 refine gd_of (fun h40=>?_) (fun hge=>fin (by have:¬ ((i:Int)<40):=of_decide_eq_false hge;omega))
 have hlt:i<l.length:=by have:=of_decide_eq_true hlt;omega
 have h40:i<40:=by have:((i:Int)<40):=of_decide_eq_true h40;omega
 obtain⟨hP1,hP2⟩:=hP S4 k4 i hlt
 have hx:=hl _ (List.getElem_mem hlt)
 have hgd:l.getD i 0=l[i]:=by simp[List.getD_eq_getElem?_getD,hlt]
 have hv:0<2*(madeTo n l i).1.vars:=by unfold Gr.vars;omega
 have hv2:(madeTo n l i).1.vars≤1002000:=by unfold Gr.vars;omega
 have hd:0≤l[i].tdiv (2*(madeTo n l i).1.vars)∧l[i].tdiv (2*(madeTo n l i).1.vars)≤65536:=by
  rw[Int.tdiv_eq_ediv_of_nonneg hx.1]
  have h1:=Int.ediv_nonneg hx.1 (show 0≤2*(madeTo n l i).1.vars by omega)
  have h2:=Int.ediv_le_self (2*(madeTo n l i).1.vars) hx.1
  omega
 have ha:=rem_small hx.1 (by omega) hv
 have hb:=rem_small hd.1 hd.2 hv
 have cv1:∀(T:Store) (k:Nat) (u u2:AV),[AV.a cs][k]? = some u→[(madeTo n l i).1.av][k]? = some u2→Cv T T.n u u2:=fun T k u u2 hu hu2=>by
  match k with
  |0=>cases hu;cases hu2;exact hcv _ _
  |k+1=>simp at hu
 rw[ldN_p (n:=2) hcs hcl]
 have hva:AnsAt Pg 40 [.a cs] S4 (aI (madeTo n l i).1.vars):=ansAt_cv (args2:=[(madeTo n l i).1.av]) rfl (cv1 S4) (ans40 hgo (by omega) (by omega) S4)
 refine callF_at hva ?_
 rw[bin_mul (by omega) (by omega)]
 show ∃ q13:AV,_
 refine⟨_,by rw[hP1];exact⟨rfl,rfl⟩,?_⟩
 refine⟨_,by rw[hP2];exact⟨rfl,rfl⟩,?_⟩
 refine⟨aI l[i],by rw[convI_64 _ (by omega) (by omega)];exact⟨rfl,rfl⟩,?_⟩
 refine⟨aI (l[i].tmod (2*(madeTo n l i).1.vars)),by rw[bin_rem (by omega)];exact⟨rfl,rfl⟩,?_⟩
 refine⟨_,by rw[hP1];exact⟨rfl,rfl⟩,?_⟩
 refine⟨_,by rw[hP2];exact⟨rfl,rfl⟩,?_⟩
 refine⟨aI l[i],by rw[convI_64 _ (by omega) (by omega)];exact⟨rfl,rfl⟩,?_⟩
 refine⟨aI (l[i].tdiv (2*(madeTo n l i).1.vars)),by rw[bin_quo (by omega) (by omega) (by omega)];exact⟨rfl,rfl⟩,?_⟩
 refine⟨aI ((l[i].tdiv (2*(madeTo n l i).1.vars)).tmod (2*(madeTo n l i).1.vars)),by rw[bin_rem (by omega)];exact⟨rfl,rfl⟩,?_⟩
 have hand:AnsAt Pg 120 [.a cs,aI (l[i].tmod (2*(madeTo n l i).1.vars)),aI ((l[i].tdiv (2*(madeTo n l i).1.vars)).tmod (2*(madeTo n l i).1.vars))] S4 (andAV ((madeTo n l i).1.and (l[i].tmod (2*(madeTo n l i).1.vars)) ((l[i].tdiv (2*(madeTo n l i).1.vars)).tmod (2*(madeTo n l i).1.vars)))):=
  ansAt_cv (args2:=[(madeTo n l i).1.av,aI (l[i].tmod (2*(madeTo n l i).1.vars)),aI ((l[i].tdiv (2*(madeTo n l i).1.vars)).tmod (2*(madeTo n l i).1.vars))]) rfl (fun k u u2 hu hu2=>by
   match k with
   |0=>cases hu;cases hu2;exact hcv _ _
   |1|2=>cases hu;cases hu2;exact .v _
   |k+3=>simp at hu) (ans120 hgo ⟨by omega,by omega⟩ ⟨by omega,by omega⟩ S4)
 rw[ldN_p (n:=2) hcs hcl]
 refine callF_at hand ?_
 have hs:madeTo n l (i+1)=madeS (madeTo n l i).1 (madeTo n l i).2 l[i]:=by rw[madeTo,hgd]
 simp only[madeS]at hs
 generalize(madeTo n l i).1.and (l[i].tmod (2*(madeTo n l i).1.vars)) ((l[i].tdiv (2*(madeTo n l i).1.vars)).tmod (2*(madeTo n l i).1.vars))=r at *
 unfold andAV
 rw[extr0,extr1,extr2]
 refine boxA_of rfl fun S5 k5 n5 o5=>?_
 refine stA_of o5 rfl rfl fun S6 n6 o6 f6=>?_
 have k6:Keep S4 S6:=k5.st (Nat.le_refl _) n6 f6
 have p6:=(k6.2 _ (by omega)).trans p4
 have c6:=(k6.2 S1.n (by omega)).trans hcs
 have hadd:∀ K:AV→Store→Prop,∀ S,bin .add 0 (.v (.int .i64 (i:Int))) (.v (.int .i64 1)) S K=K (aI (i+1:Nat)) S:=fun K S=>bin_add (by omega) (by omega) 0
 have hμ:40 - ((intA (aI (i+1:Nat))).getD 0).toNat<40 - ((intA (aI i)).getD 0).toNat:=by simp[intA];omega
 rw[bin_eql,onB_v]
 refine gd_of (fun h=>?_) (fun h=>?_)
 ·have h:r.2.2=0:=of_decide_eq_true h
  simp only[h,if_true]at hs
  have qq:0≤l[i].tdiv 7∧l[i].tdiv 7≤65536:=by
   rw[Int.tdiv_eq_ediv_of_nonneg hx.1];omega
  have e1:∀(T:Store) (K:AV→Store→Prop),convI .i64 (aW16 l[i]) T K=K (aI l[i]) T:=fun T K=>convI_64 _ (by omega) (by omega)
  have e2:∀(T:Store) (K:AV→Store→Prop),bin .quo 0 (aI l[i]) (.v (.int .i64 7)) T K=K (aI (l[i].tdiv 7)) T:=fun T K=>bin_quo (by decide) (by omega) (by omega) 0
  have e3:∀(T:Store) (K:AV→Store→Prop),bin .rem 0 (aI (l[i].tdiv 7)) (.v (.int .i64 2)) T K=K (aI ((l[i].tdiv 7).tmod 2)) T:=fun T K=>bin_rem (by decide) _ 0
  have pT:∀{T:Store},Keep S T→_:=fun{T} hT=>hP T hT i hlt
  refine⟨.a r.1.cells,fun T hT=>by rw[ldN_p (n:=2) ((hT.2 _ (by omega)).trans o6) rfl];exact⟨rfl,rfl⟩,P i,fun T hT=>by rw[(pT ((k4.trans k6).trans hT)).1];exact⟨rfl,rfl⟩,_,fun T hT=>by rw[(pT ((k4.trans k6).trans hT)).2];exact⟨rfl,rfl⟩,_,fun T hT=>by rw[e1];exact⟨rfl,rfl⟩,_,fun T hT=>by rw[e2];exact⟨rfl,rfl⟩,_,fun T hT=>by rw[e3];exact⟨rfl,rfl⟩,_,fun T hT=>by rw[bin_xor];exact⟨rfl,rfl⟩,?_⟩
  refine stA_of c6 rfl hcl fun S7 n7 o7 f7=>?_
  have k7:Keep S S7:=(k4.trans k6).st (by omega) n7 f7
  refine⟨fun T hT=>by rw[bin_xor];exact⟨rfl,rfl⟩,fun T hT=>by rw[e3];exact⟨rfl,rfl⟩,fun T hT=>by rw[e2];exact⟨rfl,rfl⟩,fun T hT=>by rw[e1];exact⟨rfl,rfl⟩,fun T hT=>by rw[(pT (k7.trans hT)).2];exact⟨rfl,rfl⟩,fun T hT=>by rw[(pT (k7.trans hT)).1];exact⟨rfl,rfl⟩,?_⟩
  rw[hadd]
  exact hKE _ _ _ ⟨k7,by have:=k6.1;omega,(f7 _ (by omega)).trans p6,i+1,rfl,by omega,by rw[hs],.inr (by rw[hs];exact o7)⟩ hμ
 ·have h:¬ r.2.2=0:=of_decide_eq_false h
  simp only[h,if_false]at hs
  rw[hadd]
  refine hKE _ _ _ ⟨k4.trans k6,by have:=k6.1;omega,p6,i+1,rfl,by omega,by rw[hs],?_⟩ hμ
  rcases hg with⟨e,h'⟩|h'
  ·exact .inl ⟨by rw[hs];exact e,(k6.2 S1.n (by omega)).trans h'⟩
  ·exact .inr (by rw[hs];exact(k6.2 S1.n (by omega)).trans h')
section
set_option maxRecDepth 100000
def c35:Code:=(Tryz.f35.body).getD .skip
def r35:List ResultVar:=Tryz.f35.results.toList
def env35_0(y1 y2 y4 y5 y6:AV):List AV:=[y1,y2,y4,y5,y6]
def lv35_0:List Nat:=[1,2,4,5,6]
def env35_1(y1 y2 y4 y5 y8:AV):List AV:=[y1,y2,y4,y5,y8]
def lv35_1:List Nat:=[1,2,4,5,8]
def env35_2(y1 y2 y4 y5 y8 y9 y10:AV):List AV:=[y1,y2,y4,y5,y8,y9,y10]
def lv35_2:List Nat:=[1,2,4,5,8,9,10]
def env35_3(y1 y2 y4 y5 y11:AV):List AV:=[y1,y2,y4,y5,y11]
def lv35_3:List Nat:=[1,2,4,5,11]
def env35_4(y1 y2 y4 y5 y11 y12 y13 y14:AV):List AV:=[y1,y2,y4,y5,y11,y12,y13,y14]
def lv35_4:List Nat:=[1,2,4,5,11,12,13,14]
def ms35:List (List Nat):=[lv35_0,lv35_1,lv35_2,lv35_3,lv35_4,[]]
def m35(x0:AV)(S:Store)(Q:PoT):Prop:=
 boxN 42 8 x0 S fun c S=>boxN 71 5 (.a [.v (.int .i64 0),.nl,.nl,.nl,.nl]) S fun d S=>ldN 8 c S fun e S=>callF Pg 65 [e] S Q fun f S=>un .not f S fun g S=>onB g fun b=>gd b (bld [(0,1),(1,1),(2,1),(3,1),(4,1)] [.v (.int .i64 0),.nl,.nl,.nl,.nl] [] S fun h S=>stN 5 d h S fun i S=>ldN 5 d S fun k _=>Q (.ret (.t [k,.v (.int .i64 1)])) S) (shift c 0 S fun l S=>ld1 l S fun m S=>shift c 1 S fun n S=>ld1 n S fun o S=>lenS o S fun p S=>bin .add 0 m p S fun q S=>bin .gtr 0 q (.v (.int .i64 10)) S fun r S=>onB r fun b=>gd b (bld [(0,1),(1,1),(2,1),(3,1),(4,1)] [.v (.int .i64 0),.nl,.nl,.nl,.nl] [] S fun s S=>stN 5 d s S fun u S=>ldN 5 d S fun w _=>Q (.ret (.t [w,.v (.int .i64 2)])) S) (bld [(0,1),(1,1),(2,1),(3,1),(4,1)] [.v (.int .i64 0),.nl,.nl,.nl,.nl] [(0,q)] S fun x S=>boxN 71 5 (.a [.v (.int .i64 0),.nl,.nl,.nl,.nl]) S fun y S=>stN 5 y x S fun z S=>loopV lv35_0 (vc Pg (c35.at_ [1,1,1,1,1,0,1,0,0]) (ms35.drop 1)) 138 (env35_0 c d q y (.v (.int .i64 0))) S (blockK 0 (seqK (vc Pg (c35.at_ [1,1,1,1,1,1]) (ms35.drop 1)) (bodyK Pg r35 Q)))))
theorem calls35{x0:AV}{S:Store}{Q:PoT}(h:m35 x0 S Q):ACalls Pg 35 [x0] S Q:=
 calls_of_vc (fn:=Tryz.f35) (c:=c35) (n:=138) Tryz.func35 (by kernel_rfl) (by kernel_rfl) (by kernel_rfl) ms35 (Eq.mpr (by kernel_rfl) h)
def b35_0(y1 y2 y4 y5 y6:AV)(S:Store)(KE0:KeT)(Q:PoT):Prop:=
 bin .shl 0 (.v (.int .i64 1)) y4 S fun a S=>bin .lss 0 y6 a S fun c S=>onB c fun b=>gd b (ldN 8 y1 S fun d S=>shift y1 5 S fun e S=>ld1 e S fun f S=>callF Pg 66 [d,y6,f] S Q fun g S=>shift y5 1 S fun h S=>ld1 h S fun i S=>bslN 4 1 1 [.v (.bool false)] [(0,g)] S fun k S=>appS 4 1 1 i k S fun l S=>shift y5 1 S fun m S=>stN 1 m l S fun n S=>∃ o:AV,(∀ T:Store,Keep S T→shift y5 2 T fun p S=>p=o∧S=T)∧∃ q:AV,(∀ T:Store,Keep S T→ld1 o T fun r S=>r=q∧S=T)∧onB g fun b=>gd b (∃ s:AV,(∀ T:Store,Keep S T→ldN 8 y1 T fun t S=>t=s∧S=T)∧∃ u:AV,(∀ T:Store,Keep S T→callF Pg 67 [s,y6] T (fun _ _=>False) fun w S=>w=u∧S=T)∧∃ x:AV,(∀ T:Store,Keep S T→u=x∧T=T)∧∃ y:AV,(∀ T:Store,Keep S T→bslN 4 1 1 [.v (.bool false)] [(0,x)] T fun z S=>z=y∧S=T)∧appS 4 1 1 q y S fun A S=>∃ B:AV,(∀ T:Store,Keep S T→shift y5 2 T fun C S=>C=B∧S=T)∧stN 1 B A S fun D S=>bin .add 0 y6 (.v (.int .i64 1)) S fun E S=>KE0 138 (env35_0 y1 y2 y4 y5 E) S) (∃ F:AV,(∀ T:Store,Keep S T→(.v (.bool false))=F∧T=T)∧∃ G:AV,(∀ T:Store,Keep S T→bslN 4 1 1 [.v (.bool false)] [(0,F)] T fun H S=>H=G∧S=T)∧appS 4 1 1 q G S fun I S=>∃ J:AV,(∀ T:Store,Keep S T→shift y5 2 T fun K S=>K=J∧S=T)∧stN 1 J I S fun L S=>bin .add 0 y6 (.v (.int .i64 1)) S fun M S=>KE0 138 (env35_0 y1 y2 y4 y5 M) S)) (loopV lv35_1 (vc Pg (c35.at_ [1,1,1,1,1,1,0,1,0,0]) (ms35.drop 2)) 138 (env35_1 y1 y2 y4 y5 (.v (.int .i64 0))) S (blockK 2 (seqK (vc Pg (c35.at_ [1,1,1,1,1,1,1]) (ms35.drop 3)) (bodyK Pg r35 Q))))
theorem b35_0_eq(y1 y2 y4 y5 y6:AV)(S:Store)(KE0:KeT)(Q:PoT):vc Pg (c35.at_ [1,1,1,1,1,0,1,0,0]) (ms35.drop 1) (mkE 138 lv35_0 (env35_0 y1 y2 y4 y5 y6)) S (thenK (fgK lv35_0 KE0) (blockK 0 (seqK (vc Pg (c35.at_ [1,1,1,1,1,1]) (ms35.drop 1)) (bodyK Pg r35 Q))))=b35_0 y1 y2 y4 y5 y6 S KE0 Q:=by kernel_rfl
theorem loop35_0{y1 y2 y4 y5:AV}{y60:AV}{S:Store}{Q:PoT}(I:AV→Store→Prop)(μ:AV→Store→Nat)(h0:I y60 S)
    (hr:∀(y6:AV) (S:Store),I y6 S→∀ KE0:KeT,(∀(y6':AV) (S':Store),I y6' S'→μ y6' S'<μ y6 S→KE0 138 (env35_0 y1 y2 y4 y5 y6') S')→b35_0 y1 y2 y4 y5 y6 S KE0 Q):
    loopV lv35_0 (vc Pg (c35.at_ [1,1,1,1,1,0,1,0,0]) (ms35.drop 1)) 138 (env35_0 y1 y2 y4 y5 y60) S (blockK 0 (seqK (vc Pg (c35.at_ [1,1,1,1,1,1]) (ms35.drop 1)) (bodyK Pg r35 Q))):=by
 refine⟨fun n e S=>n=138∧∃ y6:AV,e=(env35_0 y1 y2 y4 y5 y6)∧I y6 S,fun _ e S=>μ (e.getD 4 .j) S,?_,?_⟩
 ·exact⟨_,_,Wk.refl _ _,rfl,_,rfl,h0⟩
 ·rintro _ e S ⟨rfl,y6,rfl,hI⟩
  exact(b35_0_eq _ _ _ _ _ _ _ _).mpr (hr y6 S hI _ (fun y6' S' hI' hm=>⟨_,_,Wk.refl _ _,⟨rfl,_,rfl,hI'⟩,hm⟩))
def b35_1(y1 y2 y4 y5 y8:AV)(S:Store)(KE1:KeT)(Q:PoT):Prop:=
 shift y1 6 S fun a S=>ld1 a S fun c S=>lenS c S fun d S=>bin .lss 0 y8 d S fun e S=>onB e fun b=>gd b (loopV lv35_2 (vc Pg (c35.at_ [1,1,1,1,1,1,0,1,0,0,1,0,0,1,0,1,0,0]) (ms35.drop 3)) 138 (env35_2 y1 y2 y4 y5 y8 .nl (.v (.int .i64 0))) S (blockK 4 (seqK (vc Pg (c35.at_ [1,1,1,1,1,1,0,1,0,0,1,0,0,1,1]) (ms35.drop 3)) (blockK 3 (seqK (vc Pg (c35.at_ [1,1,1,1,1,1,0,1,0,0,1,1]) (ms35.drop 3)) (thenK (fgK lv35_1 KE1) (blockK 2 (seqK (vc Pg (c35.at_ [1,1,1,1,1,1,1]) (ms35.drop 3)) (bodyK Pg r35 Q))))))))) (loopV lv35_3 (vc Pg (c35.at_ [1,1,1,1,1,1,1,0,1,0,0]) (ms35.drop 4)) 138 (env35_3 y1 y2 y4 y5 (.v (.int .i64 0))) S (blockK 6 (seqK (vc Pg (c35.at_ [1,1,1,1,1,1,1,1]) (ms35.drop 5)) (bodyK Pg r35 Q))))
theorem b35_1_eq(y1 y2 y4 y5 y8:AV)(S:Store)(KE1:KeT)(Q:PoT):vc Pg (c35.at_ [1,1,1,1,1,1,0,1,0,0]) (ms35.drop 2) (mkE 138 lv35_1 (env35_1 y1 y2 y4 y5 y8)) S (thenK (fgK lv35_1 KE1) (blockK 2 (seqK (vc Pg (c35.at_ [1,1,1,1,1,1,1]) (ms35.drop 3)) (bodyK Pg r35 Q))))=b35_1 y1 y2 y4 y5 y8 S KE1 Q:=by kernel_rfl
theorem loopw35_1{y1 y2 y4 y5 y8:AV}{S:Store}{Q:PoT}(I:AV→AV→AV→AV→AV→Store→Prop)(μ:AV→AV→AV→AV→AV→Store→Nat)(h0:∃(y1' y2' y4' y5' y8':AV) (S':Store),Wk S (env35_1 y1 y2 y4 y5 y8) S' (env35_1 y1' y2' y4' y5' y8')∧I y1' y2' y4' y5' y8' S')
    (hr:∀(y1 y2 y4 y5 y8:AV) (S:Store),I y1 y2 y4 y5 y8 S→∀ KE1:KeT,(∀(y1' y2' y4' y5' y8':AV) (S':Store) (y1'' y2'' y4'' y5'' y8'':AV) (S'':Store),Wk S' (env35_1 y1' y2' y4' y5' y8') S'' (env35_1 y1'' y2'' y4'' y5'' y8'')→I y1'' y2'' y4'' y5'' y8'' S''→μ y1'' y2'' y4'' y5'' y8'' S''<μ y1 y2 y4 y5 y8 S→KE1 138 (env35_1 y1' y2' y4' y5' y8') S')→b35_1 y1 y2 y4 y5 y8 S KE1 Q):
    loopV lv35_1 (vc Pg (c35.at_ [1,1,1,1,1,1,0,1,0,0]) (ms35.drop 2)) 138 (env35_1 y1 y2 y4 y5 y8) S (blockK 2 (seqK (vc Pg (c35.at_ [1,1,1,1,1,1,1]) (ms35.drop 3)) (bodyK Pg r35 Q))):=by
 obtain⟨y1',y2',y4',y5',y8',S0,hw0,h0⟩:=h0
 refine⟨fun n e S=>n=138∧∃ y1 y2 y4 y5 y8:AV,e=(env35_1 y1 y2 y4 y5 y8)∧I y1 y2 y4 y5 y8 S,fun _ e S=>μ (e.getD 0 .j) (e.getD 1 .j) (e.getD 2 .j) (e.getD 3 .j) (e.getD 4 .j) S,?_,?_⟩
 ·exact⟨_,_,hw0,rfl,_,_,_,_,_,rfl,h0⟩
 ·rintro _ e S ⟨rfl,y1,y2,y4,y5,y8,rfl,hI⟩
  exact(b35_1_eq _ _ _ _ _ _ _ _).mpr (hr y1 y2 y4 y5 y8 S hI _ (fun y1' y2' y4' y5' y8' S' y1'' y2'' y4'' y5'' y8'' S'' hw hI' hm=>⟨_,_,hw,⟨rfl,_,_,_,_,_,rfl,hI'⟩,hm⟩))
def b35_2(y1 y2 y4 y5 y8 y9 y10:AV)(S:Store)(KE2:KeT)(KE1:KeT)(Q:PoT):Prop:=
 bin .shl 0 (.v (.int .i64 1)) y4 S fun a S=>bin .lss 0 y10 a S fun c S=>onB c fun b=>gd b (∃ d:AV,(∀ T:Store,Keep S T→shift y5 1 T fun e S=>e=d∧S=T)∧∃ f:AV,(∀ T:Store,Keep S T→ld1 d T fun g S=>g=f∧S=T)∧∃ h:AV,(∀ T:Store,Keep S T→ixS 4 1 f y10 T fun i S=>i=h∧S=T)∧∃ k:AV,(∀ T:Store,Keep S T→ld1 h T fun l S=>l=k∧S=T)∧onB k fun b=>gd b (∃ m:AV,(∀ T:Store,Keep S T→ldN 8 y1 T fun n S=>n=m∧S=T)∧∃ o:AV,(∀ T:Store,Keep S T→shift y1 6 T fun p S=>p=o∧S=T)∧∃ q:AV,(∀ T:Store,Keep S T→ld1 o T fun r S=>r=q∧S=T)∧∃ s:AV,(∀ T:Store,Keep S T→ixS 3 1 q y8 T fun t S=>t=s∧S=T)∧∃ u:AV,(∀ T:Store,Keep S T→ld1 s T fun w S=>w=u∧S=T)∧∃ x:AV,(∀ T:Store,Keep S T→callF Pg 68 [m,y10,u] T (fun _ _=>False) fun y S=>y=x∧S=T)∧∃ z:AV,(∀ T:Store,Keep S T→x=z∧T=T)∧∃ A:AV,(∀ T:Store,Keep S T→bslN 4 1 1 [.v (.bool false)] [(0,z)] T fun B S=>B=A∧S=T)∧appS 4 1 1 y9 A S fun C S=>bin .add 0 y10 (.v (.int .i64 1)) S fun D S=>KE2 138 (env35_2 y1 y2 y4 y5 y8 C D) S) (∃ E:AV,(∀ T:Store,Keep S T→(.v (.bool false))=E∧T=T)∧∃ F:AV,(∀ T:Store,Keep S T→bslN 4 1 1 [.v (.bool false)] [(0,E)] T fun G S=>G=F∧S=T)∧appS 4 1 1 y9 F S fun H S=>bin .add 0 y10 (.v (.int .i64 1)) S fun I S=>KE2 138 (env35_2 y1 y2 y4 y5 y8 H I) S)) (shift y5 4 S fun J S=>ld1 J S fun K S=>bslN 53 1 1 [.nl] [(0,y9)] S fun L S=>appS 53 1 24 K L S fun M S=>shift y5 4 S fun N S=>stN 1 N M S fun O S=>bin .add 0 y8 (.v (.int .i64 1)) S fun P S=>KE1 138 (env35_1 y1 y2 y4 y5 P) S)
theorem b35_2_eq(y1 y2 y4 y5 y8 y9 y10:AV)(S:Store)(KE2:KeT)(KE1:KeT)(Q:PoT):vc Pg (c35.at_ [1,1,1,1,1,1,0,1,0,0,1,0,0,1,0,1,0,0]) (ms35.drop 3) (mkE 138 lv35_2 (env35_2 y1 y2 y4 y5 y8 y9 y10)) S (thenK (fgK lv35_2 KE2) (blockK 4 (seqK (vc Pg (c35.at_ [1,1,1,1,1,1,0,1,0,0,1,0,0,1,1]) (ms35.drop 3)) (blockK 3 (seqK (vc Pg (c35.at_ [1,1,1,1,1,1,0,1,0,0,1,1]) (ms35.drop 3)) (thenK (fgK lv35_1 KE1) (blockK 2 (seqK (vc Pg (c35.at_ [1,1,1,1,1,1,1]) (ms35.drop 3)) (bodyK Pg r35 Q)))))))))=b35_2 y1 y2 y4 y5 y8 y9 y10 S KE2 KE1 Q:=by kernel_rfl
theorem loop35_2{y1 y2 y4 y5 y8:AV}{y90 y100:AV}{S:Store}{KE1:KeT}{Q:PoT}(I:AV→AV→Store→Prop)(μ:AV→AV→Store→Nat)(h0:I y90 y100 S)
    (hr:∀(y9 y10:AV) (S:Store),I y9 y10 S→∀ KE2:KeT,(∀(y9' y10':AV) (S':Store),I y9' y10' S'→μ y9' y10' S'<μ y9 y10 S→KE2 138 (env35_2 y1 y2 y4 y5 y8 y9' y10') S')→b35_2 y1 y2 y4 y5 y8 y9 y10 S KE2 KE1 Q):
    loopV lv35_2 (vc Pg (c35.at_ [1,1,1,1,1,1,0,1,0,0,1,0,0,1,0,1,0,0]) (ms35.drop 3)) 138 (env35_2 y1 y2 y4 y5 y8 y90 y100) S (blockK 4 (seqK (vc Pg (c35.at_ [1,1,1,1,1,1,0,1,0,0,1,0,0,1,1]) (ms35.drop 3)) (blockK 3 (seqK (vc Pg (c35.at_ [1,1,1,1,1,1,0,1,0,0,1,1]) (ms35.drop 3)) (thenK (fgK lv35_1 KE1) (blockK 2 (seqK (vc Pg (c35.at_ [1,1,1,1,1,1,1]) (ms35.drop 3)) (bodyK Pg r35 Q)))))))):=by
 refine⟨fun n e S=>n=138∧∃ y9 y10:AV,e=(env35_2 y1 y2 y4 y5 y8 y9 y10)∧I y9 y10 S,fun _ e S=>μ (e.getD 5 .j) (e.getD 6 .j) S,?_,?_⟩
 ·exact⟨_,_,Wk.refl _ _,rfl,_,_,rfl,h0⟩
 ·rintro _ e S ⟨rfl,y9,y10,rfl,hI⟩
  exact(b35_2_eq _ _ _ _ _ _ _ _ _ _ _).mpr (hr y9 y10 S hI _ (fun y9' y10' S' hI' hm=>⟨_,_,Wk.refl _ _,⟨rfl,_,_,rfl,hI'⟩,hm⟩))
def b35_3(y1 y2 y4 y5 y11:AV)(S:Store)(KE3:KeT)(Q:PoT):Prop:=
 bin .shl 0 (.v (.int .i64 1)) y4 S fun a S=>bin .lss 0 y11 a S fun c S=>onB c fun b=>gd b (ldN 8 y1 S fun d S=>callF Pg 59 [d,y11] S Q fun e S=>loopV lv35_4 (vc Pg (c35.at_ [1,1,1,1,1,1,1,0,1,0,0,1,0,0,1,1,0,1,0,0]) (ms35.drop 5)) 138 (env35_4 y1 y2 y4 y5 y11 .nl e (.v (.int .i64 0))) S (blockK 8 (seqK (vc Pg (c35.at_ [1,1,1,1,1,1,1,0,1,0,0,1,0,0,1,1,1]) (ms35.drop 5)) (blockK 7 (seqK (vc Pg (c35.at_ [1,1,1,1,1,1,1,0,1,0,0,1,1]) (ms35.drop 5)) (thenK (fgK lv35_3 KE3) (blockK 6 (seqK (vc Pg (c35.at_ [1,1,1,1,1,1,1,1]) (ms35.drop 5)) (bodyK Pg r35 Q))))))))) (ldN 5 y5 S fun f S=>stN 5 y2 f S fun g S=>ldN 5 y2 S fun h _=>Q (.ret (.t [h,.v (.int .i64 0)])) S)
theorem b35_3_eq(y1 y2 y4 y5 y11:AV)(S:Store)(KE3:KeT)(Q:PoT):vc Pg (c35.at_ [1,1,1,1,1,1,1,0,1,0,0]) (ms35.drop 4) (mkE 138 lv35_3 (env35_3 y1 y2 y4 y5 y11)) S (thenK (fgK lv35_3 KE3) (blockK 6 (seqK (vc Pg (c35.at_ [1,1,1,1,1,1,1,1]) (ms35.drop 5)) (bodyK Pg r35 Q))))=b35_3 y1 y2 y4 y5 y11 S KE3 Q:=by kernel_rfl
theorem loopw35_3{y1 y2 y4 y5 y11:AV}{S:Store}{Q:PoT}(I:AV→AV→AV→AV→AV→Store→Prop)(μ:AV→AV→AV→AV→AV→Store→Nat)(h0:∃(y1' y2' y4' y5' y11':AV) (S':Store),Wk S (env35_3 y1 y2 y4 y5 y11) S' (env35_3 y1' y2' y4' y5' y11')∧I y1' y2' y4' y5' y11' S')
    (hr:∀(y1 y2 y4 y5 y11:AV) (S:Store),I y1 y2 y4 y5 y11 S→∀ KE3:KeT,(∀(y1' y2' y4' y5' y11':AV) (S':Store) (y1'' y2'' y4'' y5'' y11'':AV) (S'':Store),Wk S' (env35_3 y1' y2' y4' y5' y11') S'' (env35_3 y1'' y2'' y4'' y5'' y11'')→I y1'' y2'' y4'' y5'' y11'' S''→μ y1'' y2'' y4'' y5'' y11'' S''<μ y1 y2 y4 y5 y11 S→KE3 138 (env35_3 y1' y2' y4' y5' y11') S')→b35_3 y1 y2 y4 y5 y11 S KE3 Q):
    loopV lv35_3 (vc Pg (c35.at_ [1,1,1,1,1,1,1,0,1,0,0]) (ms35.drop 4)) 138 (env35_3 y1 y2 y4 y5 y11) S (blockK 6 (seqK (vc Pg (c35.at_ [1,1,1,1,1,1,1,1]) (ms35.drop 5)) (bodyK Pg r35 Q))):=by
 obtain⟨y1',y2',y4',y5',y11',S0,hw0,h0⟩:=h0
 refine⟨fun n e S=>n=138∧∃ y1 y2 y4 y5 y11:AV,e=(env35_3 y1 y2 y4 y5 y11)∧I y1 y2 y4 y5 y11 S,fun _ e S=>μ (e.getD 0 .j) (e.getD 1 .j) (e.getD 2 .j) (e.getD 3 .j) (e.getD 4 .j) S,?_,?_⟩
 ·exact⟨_,_,hw0,rfl,_,_,_,_,_,rfl,h0⟩
 ·rintro _ e S ⟨rfl,y1,y2,y4,y5,y11,rfl,hI⟩
  exact(b35_3_eq _ _ _ _ _ _ _ _).mpr (hr y1 y2 y4 y5 y11 S hI _ (fun y1' y2' y4' y5' y11' S' y1'' y2'' y4'' y5'' y11'' S'' hw hI' hm=>⟨_,_,hw,⟨rfl,_,_,_,_,_,rfl,hI'⟩,hm⟩))
def b35_4(y1 y2 y4 y5 y11 y12 y13 y14:AV)(S:Store)(KE4:KeT)(KE3:KeT)(Q:PoT):Prop:=
 shift y1 0 S fun a S=>ld1 a S fun c S=>bin .shl 0 (.v (.int .i64 1)) c S fun d S=>bin .lss 0 y14 d S fun e S=>onB e fun b=>gd b (shift y5 1 S fun f S=>ld1 f S fun g S=>ixS 4 1 g y11 S fun h S=>ld1 h S fun i S=>onB i fun b=>gd b (shift y5 1 S fun k S=>ld1 k S fun l S=>bin .add 0 y13 y14 S fun m S=>ixS 4 1 l m S fun n S=>ld1 n S fun o S=>onB o fun b=>gd b (bin .add 0 y13 y14 S fun p S=>bslN 3 1 1 [.v (.int .i64 0)] [(0,p)] S fun q S=>appS 3 1 8 y12 q S fun r S=>bin .add 0 y14 (.v (.int .i64 1)) S fun s S=>KE4 138 (env35_4 y1 y2 y4 y5 y11 r y13 s) S) (bin .add 0 y14 (.v (.int .i64 1)) S fun t S=>KE4 138 (env35_4 y1 y2 y4 y5 y11 y12 y13 t) S)) (shift y5 3 S fun u S=>ld1 u S fun w S=>bslN 34 1 1 [.nl] [(0,y12)] S fun x S=>appS 34 1 24 w x S fun y S=>shift y5 3 S fun z S=>stN 1 z y S fun A S=>bin .add 0 y11 (.v (.int .i64 1)) S fun B S=>KE3 138 (env35_3 y1 y2 y4 y5 B) S)) (shift y5 3 S fun C S=>ld1 C S fun D S=>bslN 34 1 1 [.nl] [(0,y12)] S fun E S=>appS 34 1 24 D E S fun F S=>shift y5 3 S fun G S=>stN 1 G F S fun H S=>bin .add 0 y11 (.v (.int .i64 1)) S fun I S=>KE3 138 (env35_3 y1 y2 y4 y5 I) S)
theorem b35_4_eq(y1 y2 y4 y5 y11 y12 y13 y14:AV)(S:Store)(KE4:KeT)(KE3:KeT)(Q:PoT):vc Pg (c35.at_ [1,1,1,1,1,1,1,0,1,0,0,1,0,0,1,1,0,1,0,0]) (ms35.drop 5) (mkE 138 lv35_4 (env35_4 y1 y2 y4 y5 y11 y12 y13 y14)) S (thenK (fgK lv35_4 KE4) (blockK 8 (seqK (vc Pg (c35.at_ [1,1,1,1,1,1,1,0,1,0,0,1,0,0,1,1,1]) (ms35.drop 5)) (blockK 7 (seqK (vc Pg (c35.at_ [1,1,1,1,1,1,1,0,1,0,0,1,1]) (ms35.drop 5)) (thenK (fgK lv35_3 KE3) (blockK 6 (seqK (vc Pg (c35.at_ [1,1,1,1,1,1,1,1]) (ms35.drop 5)) (bodyK Pg r35 Q)))))))))=b35_4 y1 y2 y4 y5 y11 y12 y13 y14 S KE4 KE3 Q:=by kernel_rfl
theorem loop35_4{y1 y2 y4 y5 y11 y13:AV}{y120 y140:AV}{S:Store}{KE3:KeT}{Q:PoT}(I:AV→AV→Store→Prop)(μ:AV→AV→Store→Nat)(h0:I y120 y140 S)
    (hr:∀(y12 y14:AV) (S:Store),I y12 y14 S→∀ KE4:KeT,(∀(y12' y14':AV) (S':Store),I y12' y14' S'→μ y12' y14' S'<μ y12 y14 S→KE4 138 (env35_4 y1 y2 y4 y5 y11 y12' y13 y14') S')→b35_4 y1 y2 y4 y5 y11 y12 y13 y14 S KE4 KE3 Q):
    loopV lv35_4 (vc Pg (c35.at_ [1,1,1,1,1,1,1,0,1,0,0,1,0,0,1,1,0,1,0,0]) (ms35.drop 5)) 138 (env35_4 y1 y2 y4 y5 y11 y120 y13 y140) S (blockK 8 (seqK (vc Pg (c35.at_ [1,1,1,1,1,1,1,0,1,0,0,1,0,0,1,1,1]) (ms35.drop 5)) (blockK 7 (seqK (vc Pg (c35.at_ [1,1,1,1,1,1,1,0,1,0,0,1,1]) (ms35.drop 5)) (thenK (fgK lv35_3 KE3) (blockK 6 (seqK (vc Pg (c35.at_ [1,1,1,1,1,1,1,1]) (ms35.drop 5)) (bodyK Pg r35 Q)))))))):=by
 refine⟨fun n e S=>n=138∧∃ y12 y14:AV,e=(env35_4 y1 y2 y4 y5 y11 y12 y13 y14)∧I y12 y14 S,fun _ e S=>μ (e.getD 5 .j) (e.getD 7 .j) S,?_,?_⟩
 ·exact⟨_,_,Wk.refl _ _,rfl,_,_,rfl,h0⟩
 ·rintro _ e S ⟨rfl,y12,y14,rfl,hI⟩
  exact(b35_4_eq _ _ _ _ _ _ _ _ _ _ _ _).mpr (hr y12 y14 S hI _ (fun y12' y14' S' hI' hm=>⟨_,_,Wk.refl _ _,⟨rfl,_,_,rfl,hI'⟩,hm⟩))
end
structure Fv (c:Ci) (S S1 S2 S4 S':Store) (m:Nat) (zv zi:AV) (i:Nat):Prop where
 keep:Keep S S'
 n:S4.n≤S'.n
 cb:S'.obj S.n=some (.cells 42 [c.cells] true)
 ob:S'.obj S1.n=some (.cells 71 [[aI 0,.nl,.nl,.nl,.nl]] true)
 sb:S'.obj S2.n=some (.cells 71 [[aI m,zv,zi,.nl,.nl]] true)
 wv:Own S4.n S' zv 4 (((validOf c).take i).map fun b=>[aB b])
 wi:Own S4.n S' zi 4 (((spOf c).initial.take i).map fun b=>[aB b])
 ap:Apart zv zi
 ap':Apart zi zv
structure Ff (c:Ci) (S S1 S2 S4 S':Store) (sp:List AV) (z:AV) (e:Nat) (rows:List AV):Prop where
 keep:Keep S S'
 n:S4.n≤S'.n
 cb:S'.obj S.n=some (.cells 42 [c.cells] true)
 ob:S'.obj S1.n=some (.cells 71 [[aI 0,.nl,.nl,.nl,.nl]] true)
 sb:S'.obj S2.n=some (.cells 71 [sp] true)
 ow:Own S4.n S' z e (rows.map fun v=>[v])
theorem own_cvF{α:Type}{f:α→Value}{n:Nat}{S:Store}{x:AV}{e:Nat}{l:List α}{F:Nat→Bool}(h:Own n S x e (l.map fun a=>[.v (f a)]))(hF:∀ i b m,x = .s i b m→F i=true):Cv (S.frz F) S.n x (aL (fun a=>.v (f a)) l):=by
 rcases h with⟨rfl,h⟩|⟨id,rfl,h1,h2,h3⟩
 ·have:l = []:=List.map_eq_nil_iff.1 h
  subst this
  exact .nl
 ·refine .s id 0 _ e _ _ (by rw[frz_of h3,hF id _ _ rfl];rfl) (by simp) (by simp) (fun i c c2 hi hi2=>?_) (fun i c c2 k u u2 hi hi2 hk hk2=>?_)
  ·rw[Nat.zero_add]at hi;rw[hi]at hi2;cases hi2;rfl
  ·rw[Nat.zero_add]at hi;rw[hi]at hi2;cases hi2
   rw[hk]at hk2;cases hk2
   rw[List.getElem?_map]at hi
   obtain⟨a,_,rfl⟩:=Option.map_eq_some_iff.1 hi
   cases k with
   |zero=>cases hk;exact .v _
   |succ k=>simp at hk
theorem own_trees{α:Type}{f:α→AV}{n:Nat}{S:Store}{x:AV}{e:Nat}{l:List α}(hf:∀ a∈l,Tree (f a))(h:Own n S x e (l.map fun a=>[f a])){k:Nat}(hk:k≤n):Cv (S.frz (newer k)) S.n x (aL f l):=by
 rcases h with⟨rfl,h⟩|⟨id,rfl,h1,h2,h3⟩
 ·have:l = []:=List.map_eq_nil_iff.1 h
  subst this
  exact .nl
 ·refine .s id 0 _ e _ _ (by rw[frz_of h3];have:newer k id=true:=by simp[newer];omega
                             rw[this];rfl) (by simp) (by simp) (fun i c c2 hi hi2=>?_) (fun i c c2 k u u2 hi hi2 hk hk2=>?_)
  ·rw[Nat.zero_add]at hi;rw[hi]at hi2;cases hi2;rfl
  ·rw[Nat.zero_add]at hi;rw[hi]at hi2;cases hi2
   rw[hk]at hk2;cases hk2
   rw[List.getElem?_map]at hi
   obtain⟨a,ha,rfl⟩:=Option.map_eq_some_iff.1 hi
   cases k with
   |zero=>cases hk;exact hf a (List.mem_of_getElem? ha) _ _
   |succ k=>simp at hk
theorem own_cvn{n:Nat}{S0 S:Store}{x:AV}{e:Nat}{l:List Bool}(_:S0.n≤n)(_:n≤S.n)(h:Own n S x e (l.map fun a=>[aB a])):Cv (S.frz (newer n)) S.n x (aL aB l):=
 own_cvF (f:=fun b=>.bool b) h fun i b m e=>by have:=h.lt e;simp[newer];omega
theorem own_cvb{n id:Nat}{S:Store}{x:AV}{e:Nat}{l:List Bool}(_:n≤S.n)(h:Own n S x e (l.map fun a=>[aB a]))(hne:∀ b m,x≠.s id b m):Cv (S.frz (newBut n id)) S.n x (aL aB l):=
 own_cvF (f:=fun b=>.bool b) h fun i b m e=>by
  have:=h.lt e
  have:i≠id:=fun q=>hne b m (by rw[e,q])
  simp[newBut,this];omega
theorem ans35{c:Ci}(hc:c.ok):Ans Pg 35 [c.av] (.t [(spaceB c).1.av,aI (spaceB c).2]):=by
 intro S
 refine ACalls.tree (calls35 ?_)
 have hll:=hc.llen
 unfold m35
 have bz:∀{S:Store} {K:AV→Store→Prop},bld [(0,1),(1,1),(2,1),(3,1),(4,1)] [.v (.int .i64 0),.nl,.nl,.nl,.nl] [] S K=K (.a [aI 0,.nl,.nl,.nl,.nl]) S:=bld_of rfl
 refine boxA_of rfl fun S1 k1 n1 o1=>?_
 refine boxA_of rfl fun S2 k2 n2 o2=>?_
 have k2':=k1.trans k2
 have p2:S2.obj S.n=_:=(k2.2 _ (by omega)).trans o1
 rw[ldN_p (n:=8) p2 rfl]
 refine callF_ans (ans65 hc) ?_
 rw[un_not,onB_v]
 refine gd_of (fun h1=>?_) (fun h1=>?_)
 ·rw[bz]
  refine stA_of o2 rfl rfl fun S3 n3 o3 f3=>?_
  rw[ldN_p (n:=5) o3 rfl]
  rw[Bool.not_eq_true']at h1
  refine⟨_,rfl,k2'.st (by omega) n3 f3,?_⟩
  rw[spaceB,if_pos h1]
  exact cv_t2 cv_sp0 (.v _)
 have h1:c.right=true:=by simpa using h1
 have h1':¬ c.right=false:=by rw[h1];decide
 obtain⟨g1,g2,g3⟩:=gr_inp h1
 have hR:=right_c.1 h1
 have hin:=hR.1
 rw[shift_p,ld1_p p2 rfl rfl,shift_p,ld1_p p2 rfl rfl,lenS_pL,bin_add (by omega) (by omega),←g1,bin_gtr,onB_v]
 refine gd_of (fun h2=>?_) (fun h2=>?_)
 ·rw[bz]
  refine stA_of o2 rfl rfl fun S3 n3 o3 f3=>?_
  rw[ldN_p (n:=5) o3 rfl]
  refine⟨_,rfl,k2'.st (by omega) n3 f3,?_⟩
  rw[spaceB,if_neg h1',if_pos (of_decide_eq_true h2)]
  exact cv_t2 cv_sp0 (.v _)
 have h2:¬ 10<c.gr.inputs:=of_decide_eq_false h2
 obtain⟨m,hm⟩:=Int.eq_ofNat_of_zero_le g2
 have hm10:m≤10:=by omega
 have hgt:c.gr.inputs.toNat=m:=by rw[hm];rfl
 have hres:spaceB c=(spOf c,0):=by rw[spaceB,if_neg h1',if_neg h2]
 rw[hres]
 have hN1:2 ^ m≤1024:=Nat.pow_le_pow_right (by decide) (show m≤10 by omega)
 have hpow:((2:Int) ^ m)=((2 ^ m:Nat):Int):=by rw[Int.natCast_pow];rfl
 rw[show c.gr.inputs=(m:Int)from hm,bld_of (cs:=[aI m,.nl,.nl,.nl,.nl]) rfl]
 refine boxA_of rfl fun S3 k3 n3 o3=>?_
 refine stA_of o3 rfl rfl fun S4 n4 o4 f4=>?_
 have k4:Keep S S4:=(k2'.trans k3).st (by omega) n4 f4
 have fr4:Fv c S S1 S2 S4 S4 m .nl .nl 0:=⟨k4,Nat.le_refl _,(f4 _ (by omega)).trans ((k3.2 _ (by omega)).trans p2),(f4 _ (by omega)).trans ((k3.2 _ (by omega)).trans o2),o4,Own.nl _ _ _,Own.nl _ _ _,(fun _ _ _ _ _ e=>by cases e),(fun _ _ _ _ _ e=>by cases e)⟩
 have hvalid:validOf c=(List.range (2 ^ m)).map fun s:Nat=>c.cons.all (isB c s):=by
  rw[validOf,hgt]
  apply List.map_congr_left
  intro s hs
  exact(valid_eq h1 (by omega) (by rw[hgt];exact List.mem_range.1 hs) hR.2.2.2.2.2.2.2.2.2.2.1).symm
 have hvl:(validOf c).length=2 ^ m:=by rw[hvalid];simp
 have hinit:(spOf c).initial=(List.range (2 ^ m)).map fun s:Nat=>(validOf c).getD s false && begB c s:=by simp only[spOf,hgt]
 have hil:(spOf c).initial.length=2 ^ m:=by rw[hinit];simp
 refine loop35_0 (fun y S'=>∃(i:Nat) (zv zi:AV),y=aI i∧i≤2 ^ m∧Fv c S S1 S2 S4 S' m zv zi i)
  (fun y _=>2 ^ m - ((intA y).getD 0).toNat) ⟨0,.nl,.nl,rfl,Nat.zero_le _,fr4⟩ ?_
 rintro _ S5 ⟨i,zv,zi,rfl,hi,fr⟩ KE hKE
 have hk4:=k4.1
 have h5n:=fr.n
 unfold b35_0
 rw[bin_shl1 (by omega),hpow,bin_lss,onB_v]
 refine gd_of (fun hlt=>?_) (fun hge=>?_)
 ·have hlt:i<2 ^ m:=by
    have:((i:Int)<((2 ^ m:Nat):Int)):=of_decide_eq_true hlt
    omega
  have hadd:∀ K:AV→Store→Prop,∀ S,bin .add 0 (.v (.int .i64 (i:Int))) (.v (.int .i64 1)) S K=K (aI (i+1:Nat)) S:=fun K S=>bin_add (by omega) (by omega) 0
  have hv:(validOf c)[i]? = some (c.cons.all (isB c i)):=by rw[hvalid];simp[hlt]
  have hvg:(validOf c).getD i false=c.cons.all (isB c i):=by rw[List.getD_eq_getElem?_getD,hv];rfl
  have hi2:(spOf c).initial[i]? = some (c.cons.all (isB c i) && begB c i):=by
   rw[hinit,List.getElem?_map,List.getElem?_range hlt]
   show some ((validOf c).getD i false && begB c i)=_
   rw[hvg]
  rw[ldN_p (n:=8) fr.cb rfl,shift_p,ld1_p fr.cb rfl rfl]
  refine callF_ans (ans66 hc (s:=i) hc.cons.1 hc.cons.2) ?_
  rw[shift_p,ld1_p fr.sb rfl rfl]
  refine bsl1 rfl (fun _ h=>by cases h) ?_
  refine fr.wv.app (by omega) (c:=[aB (c.cons.all (isB c i))]) rfl (by rw[List.length_map,List.length_take];omega) (fun z6 S6 w6 b6 hz6=>?_) rfl
  obtain⟨m6,hm6⟩:=hz6
  have n6:=b6.1
  have k6:∀ x,x<S4.n→S6.obj x=S5.obj x:=fun x hx=>b6.2 x (by omega) (fun b m e=>by have:=fr.wv.lt e;omega)
  rw[shift_p]
  refine stF_of ((k6 S2.n (by omega)).trans fr.sb) (by simp) (by rw[hm6];rfl) fun S7 n7 o7 f7=>?_
  have w7:Own S4.n S7 z6 4 _:=w6.st (id:=S2.n) (fun b m e=>by rw[hm6]at e;injection e;omega) n7 f7
  have wi7:Own S4.n S7 zi 4 _:=(fr.wi.but b6 fr.ap).st (id:=S2.n) (fun b m e=>by have:=fr.wi.lt e;omega) n7 f7
  have ap7:Apart zi z6:=fun x b m b' m' e e'=>by
   rw[hm6]at e';injection e' with e1
   have:=fr.wi.lt e
   omega
  have c7:=(f7 S.n (by omega)).trans ((k6 S.n (by omega)).trans fr.cb)
  refine⟨_,fun T hT=>by rw[shift_p];exact⟨rfl,rfl⟩,zi,fun T hT=>by rw[ld1_p ((hT.2 _ (by omega)).trans o7) rfl rfl];exact⟨rfl,rfl⟩,?_⟩
  have step:∀ b,(c.cons.all (isB c i) && begB c i)=b→appS 4 1 1 zi (.l [[aB b]]) S7 fun v T=>∃ q50:AV,(∀ T':Store,Keep T T'→shift (.p S2.n 0 0) 2 T' fun v51 S=>v51=q50∧S=T')∧stN 1 q50 v T fun _ T=>bin .add 0 (aI i) (.v (.int .i64 1)) T fun v' T=>KE 138 (env35_0 (.p S.n 0 0) (.p S1.n 0 0) (aI m) (.p S2.n 0 0) v') T:=fun b hb=>by
   refine wi7.app (by omega) (c:=[aB b]) rfl (by rw[List.length_map,List.length_take];omega) (fun z8 S8 w8 b8 hz8=>?_) rfl
   obtain⟨m8,hm8⟩:=hz8
   have n8:=b8.1
   have k8:∀ x,x<S4.n→S8.obj x=S7.obj x:=fun x hx=>b8.2 x (by omega) (fun b m e=>by have:=wi7.lt e;omega)
   refine⟨_,fun T hT=>by rw[shift_p];exact⟨rfl,rfl⟩,?_⟩
   refine stF_of ((k8 S2.n (by omega)).trans o7) (by simp) (by rw[hm8];rfl) fun S9 n9 o9 f9=>?_
   rw[hadd]
   have old:∀ x,x<S4.n→x≠S2.n→S9.obj x=S5.obj x:=fun x hx hne=>(f9 x hne).trans ((k8 x hx).trans ((f7 x hne).trans (k6 x hx)))
   refine hKE _ _ ⟨i+1,z6,z8,rfl,hlt,⟨by have:=fr.keep.1;omega,fun x hx=>(old x (by omega) (by omega)).trans (fr.keep.2 x hx)⟩,by omega,(old _ (by omega) (by omega)).trans fr.cb,(old _ (by omega) (by omega)).trans fr.ob,o9,?_,?_,fun x b m b' m' e e'=>?_,fun x b m b' m' e e'=>?_⟩ (by simp[intA];omega)
   ·rw[List.take_add_one,hv,List.map_append]
    exact(w7.but b8 ap7).st (id:=S2.n) (fun b m e=>by rw[hm6]at e;injection e;omega) n9 f9
   ·rw[List.take_add_one,hi2,hb,List.map_append]
    exact w8.st (id:=S2.n) (fun b m e=>by rw[hm8]at e;injection e;omega) n9 f9
   ·rw[hm8]at e';injection e' with e1
    have:=w7.lt e
    omega
   ·rw[hm8]at e;injection e with e1
    have:=w7.lt e'
    omega
  rw[onB_v]
  refine gd_of (fun h3=>?_) (fun h3=>?_)
  ·refine⟨_,fun T hT=>by rw[ldN_p (n:=8) ((hT.2 _ (by omega)).trans c7) rfl];exact⟨rfl,rfl⟩,_,fun T hT=>callF_ans (ans67 hll hin.1 (by omega) (by omega)) ⟨rfl,rfl⟩,_,fun T hT=>⟨rfl,rfl⟩,_,fun T hT=>bsl1 rfl (fun _ h=>by cases h) ⟨rfl,rfl⟩,?_⟩
   exact step _ (by rw[h3,Bool.true_and])
  ·refine⟨_,fun T hT=>⟨rfl,rfl⟩,_,fun T hT=>bsl1 rfl (fun _ h=>by cases h) ⟨rfl,rfl⟩,?_⟩
   exact step _ (by rw[h3,Bool.false_and])
 ·have hge:i=2 ^ m:=by
    have:¬ ((i:Int)<((2 ^ m:Nat):Int)):=of_decide_eq_false hge
    omega
  subst hge
  have hfl:c.fair.length≤2000:=hR.2.2.2.2.2.1
  have hspf:(spOf c).fair=c.fair.map fun l=>(List.range (2 ^ m)).map fun s:Nat=>(validOf c).getD s false && isB c s l:=by
   simp only[spOf,hgt]
   apply List.map_congr_left
   intro l hl
   apply List.map_congr_left
   intro s hs
   rw[isB_eq h1 (by omega) (by rw[hgt];exact List.mem_range.1 hs) (List.all_eq_true.1 hR.2.2.2.2.2.2.2.2.2.2.2.1 l hl)]
  have hfln:(spOf c).fair.length=c.fair.length:=by rw[hspf,List.length_map]
  have wv:=fr.wv
  have wi:=fr.wi
  rw[List.take_of_length_le (by omega)]at wv wi
  refine loopw35_1 (fun y1 y2 y4 y5 y8 S'=>y1 = .p S.n 0 0∧y2 = .p S1.n 0 0∧y4=aI m∧y5 = .p S2.n 0 0∧∃(k:Nat) (zf:AV),y8=aI k∧k≤c.fair.length∧Ff c S S1 S2 S4 S' [aI m,aL aB (validOf c),aL aB (spOf c).initial,.nl,zf] zf 53 (((spOf c).fair.take k).map fun v=>aL aB v))
   (fun _ _ _ _ y _=>c.fair.length - ((intA y).getD 0).toNat) ⟨_,_,_,_,_,_,Wk.row (newer S4.n) fr.sb (by simp[newer];omega) (es2:=[[aI m,aL aB (validOf c),aL aB (spOf c).initial,.nl,.nl]]) ⟨rfl,fun i c1 c2 e1 e2=>?_⟩,rfl,rfl,rfl,rfl,0,.nl,rfl,Nat.zero_le _,?_⟩ ?_
  ·match i with
   |0 =>
    cases e1;cases e2
    refine⟨rfl,fun k u u2 hk hk2=>?_⟩
    match k with
    |0=>cases hk;cases hk2;exact .v _
    |1=>cases hk;cases hk2;exact(own_cvn hk4 h5n wv)
    |2=>cases hk;cases hk2;exact(own_cvn hk4 h5n wi)
    |3|4=>cases hk;cases hk2;exact .nl'
    |k+5=>simp at hk
   |i+1=>simp at e1
  ·have hlow:∀ x,x<S4.n→x≠S2.n→(S5.tell (newer S4.n) S2.n (.cells 71 [[aI m,aL aB (validOf c),aL aB (spOf c).initial,.nl,.nl]] true)).obj x=S5.obj x:=fun x hx hne=>tell_ne hne (by simp[newer];omega)
   refine⟨⟨by rw[tell_n];exact fr.keep.1,fun x hx=>(hlow x (by omega) (by omega)).trans (fr.keep.2 x hx)⟩,by rw[tell_n];exact fr.n,(hlow _ (by omega) (by omega)).trans fr.cb,(hlow _ (by omega) (by omega)).trans fr.ob,tell_id,Own.nl _ _ _⟩
  clear wv wi fr h5n hi S5 KE hKE
  rintro _ _ _ _ _ S5 ⟨rfl,rfl,rfl,rfl,k,zf,rfl,hk,fr⟩ KE hKE
  unfold b35_1
  have h5n:=fr.n
  rw[shift_p,ld1_p fr.cb rfl rfl,lenS_aL,bin_lss,onB_v]
  refine gd_of (fun hlt=>?_) (fun hge=>?_)
  ·have hlt:k<c.fair.length:=by simpa using hlt
   have hlf:k<(spOf c).fair.length:=by omega
   have hml:=List.getElem_mem hlt
   have hrow:(spOf c).fair[k]=(List.range (2 ^ m)).map fun s:Nat=>(validOf c).getD s false && isB c s c.fair[k]:=by simp only[hspf,List.getElem_map]
   refine loop35_2 (fun y9 y10 S'=>∃ i:Nat,y10=aI i∧i≤2 ^ m∧Ff c S S1 S2 S4 S' [aI m,aL aB (validOf c),aL aB (spOf c).initial,.nl,zf] zf 53 (((spOf c).fair.take k).map fun v=>aL aB v)∧
       Own S4.n S' y9 4 (((spOf c).fair[k].take i).map fun b=>[aB b])∧Apart y9 zf)
    (fun _ y _=>2 ^ m - ((intA y).getD 0).toNat) ⟨0,rfl,Nat.zero_le _,fr,Own.nl _ _ _,fun _ _ _ _ _ e=>by cases e⟩ ?_
   clear fr h5n S5
   rintro y9 _ S5 ⟨i,rfl,hi,fr,w9,ap9⟩ KE2 hKE2
   unfold b35_2
   have h5n:=fr.n
   rw[bin_shl1 (by omega),hpow,bin_lss,onB_v]
   refine gd_of (fun hl2=>?_) (fun hg2=>?_)
   ·have hl2:i<2 ^ m:=by
      have:((i:Int)<((2 ^ m:Nat):Int)):=of_decide_eq_true hl2
      omega
    have kT:∀{T:Store} {x:Nat} {o:AObj},Keep S5 T→x<S5.n→S5.obj x=some o→T.obj x=some o:=fun hT hx ho=>(hT.2 _ hx).trans ho
    have hget:(spOf c).fair[k][i]? = some ((validOf c).getD i false && isB c i c.fair[k]):=by rw[hrow,List.getElem?_map,List.getElem?_range hl2];rfl
    have hvi:(validOf c)[i]'(by omega)=(validOf c).getD i false:=by simp[List.getD_eq_getElem?_getD,hvl,hl2]
    have step:∀ b,((validOf c).getD i false && isB c i c.fair[k])=b→appS 4 1 1 y9 (.l [[aB b]]) S5 fun v T=>bin .add 0 (aI i) (.v (.int .i64 1)) T fun v' T=>KE2 138 (env35_2 (.p S.n 0 0) (.p S1.n 0 0) (aI m) (.p S2.n 0 0) (aI k) v v') T:=fun b hb=>by
     refine w9.app (by omega) (c:=[aB b]) rfl (by rw[List.length_map,List.length_take];omega) (fun z8 S8 w8 b8 hz8=>?_) rfl
     obtain⟨m8,hm8⟩:=hz8
     have n8:=b8.1
     have k8:∀ x,x<S4.n→S8.obj x=S5.obj x:=fun x hx=>b8.2 x (by omega) (fun b m e=>by have:=w9.lt e;omega)
     rw[bin_add (by omega) (by omega)]
     refine hKE2 _ _ _ ⟨i+1,rfl,hl2,⟨⟨by have:=fr.keep.1;omega,fun x hx=>(k8 x (by omega)).trans (fr.keep.2 x hx)⟩,by omega,(k8 _ (by omega)).trans fr.cb,(k8 _ (by omega)).trans fr.ob,(k8 _ (by omega)).trans fr.sb,fr.ow.but b8 ap9⟩,?_,fun x b m b' m' e e'=>?_⟩ (by simp[intA];omega)
     ·rw[List.take_add_one,hget,hb,List.map_append]
      exact w8
     ·rw[hm8]at e;injection e with e1
      have:=fr.ow.lt e'
      omega
    refine⟨_,fun T hT=>by rw[shift_p];exact⟨rfl,rfl⟩,_,fun T hT=>by rw[ld1_p (kT hT (by omega) fr.sb) rfl rfl];exact⟨rfl,rfl⟩,_,fun T hT=>by rw[ixS_aL (by omega)];exact⟨rfl,rfl⟩,_,fun T hT=>by rw[ld1_q];exact⟨rfl,rfl⟩,?_⟩
    rw[hvi,onB_v]
    refine gd_of (fun h3=>?_) (fun h3=>?_)
    ·refine⟨_,fun T hT=>by rw[ldN_p (n:=8) (kT hT (by omega) fr.cb) rfl];exact⟨rfl,rfl⟩,_,fun T hT=>by rw[shift_p];exact⟨rfl,rfl⟩,_,fun T hT=>by rw[ld1_p (kT hT (by omega) fr.cb) rfl rfl];exact⟨rfl,rfl⟩,_,fun T hT=>by rw[ixS_aL hlt];exact⟨rfl,rfl⟩,_,fun T hT=>by rw[ld1_q];exact⟨rfl,rfl⟩,
       _,fun T hT=>callF_ans (ans68 hc (hc.fair.1 _ hml)) ⟨rfl,rfl⟩,_,fun T hT=>⟨rfl,rfl⟩,_,fun T hT=>bsl1 rfl (fun _ h=>by cases h) ⟨rfl,rfl⟩,?_⟩
     exact step _ (by rw[h3,Bool.true_and])
    ·refine⟨_,fun T hT=>⟨rfl,rfl⟩,_,fun T hT=>bsl1 rfl (fun _ h=>by cases h) ⟨rfl,rfl⟩,?_⟩
     exact step _ (by rw[h3,Bool.false_and])
   ·have hge:i=2 ^ m:=by
      have:¬ ((i:Int)<((2 ^ m:Nat):Int)):=of_decide_eq_false hg2
      omega
    subst hge
    rw[List.take_of_length_le (by rw[hrow];simp)]at w9
    rw[shift_p,ld1_p fr.sb rfl rfl]
    have h9one:y9.one=true:=by rcases w9 with⟨rfl,_⟩|⟨id,rfl,_⟩<;>rfl
    have h9A:∀ cs,y9≠.a cs:=by rcases w9 with⟨rfl,_⟩|⟨id,rfl,_⟩<;>(intro cs h;cases h)
    refine bsl1 h9one h9A ?_
    refine fr.ow.app (by omega) (c:=[y9]) rfl (by rw[List.length_map,List.length_map,List.length_take];omega) (fun z8 S8 w8 b8 hz8=>?_) rfl
    obtain⟨m8,hm8⟩:=hz8
    have n8:=b8.1
    have k8:∀ x,x<S4.n→S8.obj x=S5.obj x:=fun x hx=>b8.2 x (by omega) (fun b m e=>by have:=fr.ow.lt e;omega)
    have w98:Own S4.n S8 y9 4 _:=w9.but b8 (fun x b m b' m' e e'=>ap9 x b' m' b m e' e)
    rw[shift_p]
    refine stF_of ((k8 S2.n (by omega)).trans fr.sb) (by simp) (by rw[hm8];rfl) fun S9 n9 o9 f9=>?_
    rw[bin_add (by omega) (by omega)]
    have w99:Own S4.n S9 y9 4 _:=w98.st (id:=S2.n) (fun b m e=>by have:=w98.lt e;omega) n9 f9
    have w89:=w8.st (id:=S2.n) (fun b m e=>by rw[hm8]at e;injection e;omega) n9 f9
    have hne9:∀ b m',y9≠.s S5.n b m':=fun b m' e=>by have:=w9.lt e;omega
    obtain⟨id,e8,h8a,h8b,h8o⟩:=w89.ix (i:=0) (by simp)
    have hid:id=S5.n:=by rw[hm8]at e8;injection e8 with e;exact e.symm
    subst hid
    have htk:(spOf c).fair.take (k+1)=(spOf c).fair.take k ++ [(spOf c).fair[k]]:=by rw[List.take_add_one,List.getElem?_eq_getElem hlf];rfl
    refine hKE _ _ _ _ _ S9 _ _ _ _ _ _ (Wk.row (newBut S4.n S5.n) h8o (by simp[newBut]) (es2:=(((spOf c).fair.take (k+1)).map fun v=>aL aB v).map fun v=>[v]) ?_) ⟨rfl,rfl,rfl,rfl,k+1,z8,rfl,hlt,?_⟩ (by simp[intA];omega)
    ·rw[htk,List.map_append,List.map_append]
     refine RowsCv.snoc (fun r hr u hu=>?_) rfl (fun k' u u2 e1 e2=>?_)
     ·simp only[List.mem_map]at hr
      obtain⟨x,⟨v,_,rfl⟩,rfl⟩:=hr
      obtain rfl:=List.mem_singleton.1 hu
      exact treeB _
     ·match k' with
      |0=>cases e1;cases e2;exact own_cvb (by omega) w99 hne9
      |k'+1=>simp at e1
    ·have old:∀ x,x<S4.n→x≠S2.n→(S9.tell (newBut S4.n S5.n) S5.n (.cells 53 ((((spOf c).fair.take (k+1)).map fun v=>aL aB v).map fun v=>[v]) true)).obj x=S5.obj x:=fun x hx hne=>(tell_ne (by omega) (by simp[newBut];omega)).trans ((f9 x hne).trans (k8 x hx))
     refine⟨⟨by rw[tell_n];have:=fr.keep.1;omega,fun x hx=>(old x (by omega) (by omega)).trans (fr.keep.2 x hx)⟩,by rw[tell_n];omega,(old _ (by omega) (by omega)).trans fr.cb,(old _ (by omega) (by omega)).trans fr.ob,(tell_ne (by omega) (by simp[newBut];omega)).trans o9,?_⟩
     refine .inr ⟨S5.n,?_,by omega,by rw[tell_n];omega,tell_id⟩
     rw[e8,htk]
     simp
     omega
  ·have hge:k=c.fair.length:=by
     have:¬ ((k:Int)<(c.fair.length:Int)):=of_decide_eq_false hge
     omega
   subst hge
   have wf:=fr.ow
   rw[List.take_of_length_le (by omega)]at wf
   have hspn:(spOf c).next=(List.range (2 ^ m)).map fun s:Nat=>if(validOf c).getD s false=true then nextL c ((valsOf c).getD s []) (validOf c)else[]:=by simp only[spOf,hgt]
   have hnl:(spOf c).next.length=2 ^ m:=by rw[hspn];simp
   refine loopw35_3 (fun y1 y2 y4 y5 y11 S'=>y1 = .p S.n 0 0∧y2 = .p S1.n 0 0∧y4=aI m∧y5 = .p S2.n 0 0∧∃(k:Nat) (zn:AV),y11=aI k∧k≤2 ^ m∧Ff c S S1 S2 S4 S' [aI m,aL aB (validOf c),aL aB (spOf c).initial,zn,aL (aL aB) (spOf c).fair] zn 34 (((spOf c).next.take k).map fun v=>aL aI v))
    (fun _ _ _ _ y _=>2 ^ m - ((intA y).getD 0).toNat) ⟨_,_,_,_,_,_,Wk.row (newer S4.n) fr.sb (by simp[newer];omega) (es2:=[[aI m,aL aB (validOf c),aL aB (spOf c).initial,.nl,aL (aL aB) (spOf c).fair]]) ⟨rfl,fun i c1 c2 e1 e2=>?_⟩,rfl,rfl,rfl,rfl,0,.nl,rfl,Nat.zero_le _,?_⟩ ?_
   ·match i with
    |0 =>
     cases e1;cases e2
     refine⟨rfl,fun k u u2 hk hk2=>?_⟩
     match k with
     |0=>cases hk;cases hk2;exact .v _
     |1=>cases hk;cases hk2;exact treeB _ _ _
     |2=>cases hk;cases hk2;exact treeB _ _ _
     |3=>cases hk;cases hk2;exact .nl'
     |4=>cases hk;cases hk2;exact own_trees (fun _ _=>treeB _) (by rw[List.map_map]at wf;exact wf) (by omega)
     |k+5=>simp at hk
    |i+1=>simp at e1
   ·have hlow:∀ x,x<S4.n→x≠S2.n→(S5.tell (newer S4.n) S2.n (.cells 71 [[aI m,aL aB (validOf c),aL aB (spOf c).initial,.nl,aL (aL aB) (spOf c).fair]] true)).obj x=S5.obj x:=fun x hx hne=>tell_ne hne (by simp[newer];omega)
    refine⟨⟨by rw[tell_n];exact fr.keep.1,fun x hx=>(hlow x (by omega) (by omega)).trans (fr.keep.2 x hx)⟩,by rw[tell_n];exact fr.n,(hlow _ (by omega) (by omega)).trans fr.cb,(hlow _ (by omega) (by omega)).trans fr.ob,tell_id,Own.nl _ _ _⟩
   clear wf fr h5n hk S5 KE hKE zf
   rintro _ _ _ _ _ S5 ⟨rfl,rfl,rfl,rfl,k,zn,rfl,hk,fr⟩ KE hKE
   unfold b35_3
   have h5n:=fr.n
   rw[bin_shl1 (by omega),hpow,bin_lss,onB_v]
   refine gd_of (fun hlt=>?_) (fun hge=>?_)
   ·have hlt:k<2 ^ m:=by
      have:((k:Int)<((2 ^ m:Nat):Int)):=of_decide_eq_true hlt
      omega
    have hlf:k<(spOf c).next.length:=by omega
    have hrow:(spOf c).next[k]=if(validOf c).getD k false=true then nextL c ((valsOf c).getD k []) (validOf c)else[]:=by simp only[hspn,List.getElem_map,List.getElem_range]
    have htk:(spOf c).next.take (k+1)=(spOf c).next.take k ++ [(spOf c).next[k]]:=by rw[List.take_add_one,List.getElem?_eq_getElem hlf];rfl
    rw[ldN_p (n:=8) fr.cb rfl]
    refine callF_ans (ans59 hc k) ?_
    rw[afterB_eq h1 (by omega) (by rw[hgt];exact hlt)]
    obtain⟨a0,a1⟩:=afterV_le c ((valsOf c).getD k []) c.latches.length
    obtain⟨aq,aq1,aq2⟩:=afterV_div c ((valsOf c).getD k []) c.latches.length
    have hml:c.inputs.toNat+c.latches.length=m:=by omega
    have hin10:c.inputs.toNat≤10:=by omega
    generalize hA:afterV c ((valsOf c).getD k []) c.latches.length=a at *
    have hbnd:∀ x,x<2 ^ c.inputs.toNat→a.toNat+x<2 ^ m:=fun x hx=>by
     rw[aq2]
     have h1:2 ^ c.inputs.toNat*aq+x<2 ^ c.inputs.toNat*(aq+1):=by rw[Nat.mul_add];omega
     have h2:2 ^ c.inputs.toNat*(aq+1)≤2 ^ c.inputs.toNat*2 ^ c.latches.length:=Nat.mul_le_mul_left _ aq1
     rw[←Nat.pow_add,hml]at h2
     have:(((2 ^ c.inputs.toNat*aq:Nat):Int)).toNat=2 ^ c.inputs.toNat*aq:=Int.toNat_natCast _
     omega
    let nt:Nat→List Int:=fun x=>((List.range x).filter fun x=>(validOf c).getD (a.toNat+x) false).map fun x:Nat=>a+(x:Int)
    have nts:∀ x,nt (x+1)=if(validOf c).getD (a.toNat+x) false=true then nt x ++ [a+(x:Int)]else nt x:=fun x=>by
     simp only[nt,List.range_succ,List.filter_append,List.map_append]
     by_cases hq:(validOf c).getD (a.toNat+x) false=true
     ·rw[if_pos hq,List.filter_cons,if_pos hq];rfl
     ·rw[if_neg hq,List.filter_cons,if_neg hq,List.filter_nil,List.map_nil,List.append_nil]
    have ntl:∀ x,(nt x).length≤x:=fun x=>by
     simp only[nt,List.length_map]
     have:=List.length_filter_le (fun x=>(validOf c).getD (a.toNat+x) false) (List.range x)
     simpa using this
    have hN:nextL c ((valsOf c).getD k []) (validOf c)=nt (2 ^ c.inputs.toNat):=by simp only[nextL,hA,nt]
    have hp2:2 ^ c.inputs.toNat≤1024:=Nat.pow_le_pow_right (by decide) hin10
    have hpi:((2:Int) ^ c.inputs.toNat)=((2 ^ c.inputs.toNat:Nat):Int):=by rw[Int.natCast_pow];rfl
    have hci:aI c.inputs=aI (c.inputs.toNat:Int):=by rw[Int.toNat_of_nonneg hin.1]
    refine loop35_4 (fun y12 y14 S'=>∃ x:Nat,y14=aI x∧x≤2 ^ c.inputs.toNat∧(0<x→(validOf c).getD k false=true)∧Ff c S S1 S2 S4 S' [aI m,aL aB (validOf c),aL aB (spOf c).initial,zn,aL (aL aB) (spOf c).fair] zn 34 (((spOf c).next.take k).map fun v=>aL aI v)∧
        Own S4.n S' y12 3 ((nt x).map fun b=>[aI b])∧Apart y12 zn)
     (fun _ y _=>2 ^ c.inputs.toNat - ((intA y).getD 0).toNat) ⟨0,rfl,Nat.zero_le _,fun h=>by omega,fr,Own.nl _ _ _,fun _ _ _ _ _ e=>by cases e⟩ ?_
    clear fr h5n S5
    rintro y12 _ S5 ⟨x,rfl,hx,hx0,fr,w9,ap9⟩ KE4 hKE4
    have h5n:=fr.n
    have fin:nt x=(spOf c).next[k]→shift (.p S2.n 0 0) 3 S5 fun v137 T=>ld1 v137 T fun v138 T=>bslN 34 1 1 [.nl] [(0,y12)] T fun v139 T=>appS 34 1 24 v138 v139 T fun v140 T=>shift (.p S2.n 0 0) 3 T fun v141 T=>stN 1 v141 v140 T fun v142 T=>bin .add 0 (aI k) (.v (.int .i64 1)) T fun v143 T=>KE 138 (env35_3 (.p S.n 0 0) (.p S1.n 0 0) (aI m) (.p S2.n 0 0) v143) T:=fun hxr=>by
     rw[hxr]at w9
     rw[shift_p,ld1_p fr.sb rfl rfl]
     have h9one:y12.one=true:=by rcases w9 with⟨rfl,_⟩|⟨id,rfl,_⟩<;>rfl
     have h9A:∀ cs,y12≠.a cs:=by rcases w9 with⟨rfl,_⟩|⟨id,rfl,_⟩<;>(intro cs h;cases h)
     refine bsl1 h9one h9A ?_
     refine fr.ow.app (by omega) (c:=[y12]) rfl (by rw[List.length_map,List.length_map,List.length_take];omega) (fun z8 S8 w8 b8 hz8=>?_) rfl
     obtain⟨m8,hm8⟩:=hz8
     have n8:=b8.1
     have k8:∀ x,x<S4.n→S8.obj x=S5.obj x:=fun x hx=>b8.2 x (by omega) (fun b m e=>by have:=fr.ow.lt e;omega)
     have w98:Own S4.n S8 y12 3 _:=w9.but b8 (fun x b m b' m' e e'=>ap9 x b' m' b m e' e)
     rw[shift_p]
     refine stF_of ((k8 S2.n (by omega)).trans fr.sb) (by simp) (by rw[hm8];rfl) fun S9 n9 o9 f9=>?_
     rw[bin_add (by omega) (by omega)]
     have w99:Own S4.n S9 y12 3 _:=w98.st (id:=S2.n) (fun b m e=>by have:=w98.lt e;omega) n9 f9
     have w89:=w8.st (id:=S2.n) (fun b m e=>by rw[hm8]at e;injection e;omega) n9 f9
     have hne9:∀ b m',y12≠.s S5.n b m':=fun b m' e=>by have:=w9.lt e;omega
     obtain⟨id,e8,h8a,h8b,h8o⟩:=w89.ix (i:=0) (by simp)
     have hid:id=S5.n:=by rw[hm8]at e8;injection e8 with e;exact e.symm
     subst hid
     refine hKE _ _ _ _ _ S9 _ _ _ _ _ _ (Wk.row (newBut S4.n S5.n) h8o (by simp[newBut]) (es2:=(((spOf c).next.take (k+1)).map fun v=>aL aI v).map fun v=>[v]) ?_) ⟨rfl,rfl,rfl,rfl,k+1,z8,rfl,hlt,?_⟩ (by simp[intA];omega)
     ·rw[htk,List.map_append,List.map_append]
      refine RowsCv.snoc (fun r hr u hu=>?_) rfl (fun k' u u2 e1 e2=>?_)
      ·simp only[List.mem_map]at hr
       obtain⟨x,⟨v,_,rfl⟩,rfl⟩:=hr
       obtain rfl:=List.mem_singleton.1 hu
       exact treeI _
      ·match k' with
       |0 =>
        cases e1;cases e2
        exact own_cvF (f:=fun i=>.int .i64 i) w99 fun i b m e=>by
         have:=w99.lt e
         have:i≠S5.n:=fun q=>hne9 b m (by rw[e,q])
         simp[newBut,this];omega
       |k'+1=>simp at e1
     ·have old:∀ x,x<S4.n→x≠S2.n→(S9.tell (newBut S4.n S5.n) S5.n (.cells 34 ((((spOf c).next.take (k+1)).map fun v=>aL aI v).map fun v=>[v]) true)).obj x=S5.obj x:=fun x hx hne=>(tell_ne (by omega) (by simp[newBut];omega)).trans ((f9 x hne).trans (k8 x hx))
      refine⟨⟨by rw[tell_n];have:=fr.keep.1;omega,fun x hx=>(old x (by omega) (by omega)).trans (fr.keep.2 x hx)⟩,by rw[tell_n];omega,(old _ (by omega) (by omega)).trans fr.cb,(old _ (by omega) (by omega)).trans fr.ob,(tell_ne (by omega) (by simp[newBut];omega)).trans o9,?_⟩
      refine .inr ⟨S5.n,?_,by omega,by rw[tell_n];omega,tell_id⟩
      rw[e8,htk]
      simp
      omega
    unfold b35_4
    rw[shift_p,ld1_p fr.cb rfl rfl,hci,bin_shl1 (by omega),hpi,bin_lss,onB_v]
    have hvk:(validOf c)[k]'(by omega)=(validOf c).getD k false:=by simp[List.getD_eq_getElem?_getD,hvl,hlt]
    refine gd_of (fun hl2=>?_) (fun hg2=>?_)
    ·have hl2:x<2 ^ c.inputs.toNat:=by
       have:((x:Int)<((2 ^ c.inputs.toNat:Nat):Int)):=of_decide_eq_true hl2
       omega
     rw[shift_p,ld1_p fr.sb rfl rfl,ixS_aL (by omega),ld1_q,hvk,onB_v]
     refine gd_of (fun h3=>?_) (fun h3=>?_)
     ·have hb:=hbnd x hl2
      have hax:a+(x:Int)=((a.toNat+x:Nat):Int):=by omega
      have hvx:(validOf c)[a.toNat+x]'(by omega)=(validOf c).getD (a.toNat+x) false:=by simp[List.getD_eq_getElem?_getD,hvl,hb]
      rw[shift_p,ld1_p fr.sb rfl rfl,bin_add (by omega) (by omega),hax,ixS_aL (by omega),ld1_q,hvx,onB_v]
      refine gd_of (fun h4=>?_) (fun h4=>?_)
      ·rw[bin_add (by omega) (by omega)]
       refine bsl1 rfl (fun _ h=>by cases h) ?_
       refine w9.app (by omega) (c:=[aI (a+(x:Int))]) rfl (by have:=ntl x;rw[List.length_map];omega) (fun z8 S8 w8 b8 hz8=>?_) rfl
       obtain⟨m8,hm8⟩:=hz8
       have n8:=b8.1
       have k8:∀ x,x<S4.n→S8.obj x=S5.obj x:=fun x hx=>b8.2 x (by omega) (fun b m e=>by have:=w9.lt e;omega)
       rw[bin_add (by omega) (by omega)]
       refine hKE4 _ _ _ ⟨x+1,rfl,hl2,fun _=>h3,⟨⟨by have:=fr.keep.1;omega,fun x hx=>(k8 x (by omega)).trans (fr.keep.2 x hx)⟩,by omega,(k8 _ (by omega)).trans fr.cb,(k8 _ (by omega)).trans fr.ob,(k8 _ (by omega)).trans fr.sb,fr.ow.but b8 ap9⟩,?_,fun x b m b' m' e e'=>?_⟩ (by simp[intA];omega)
       ·rw[nts,if_pos h4,List.map_append]
        exact w8
       ·rw[hm8]at e;injection e with e1
        have:=fr.ow.lt e'
        omega
      ·rw[bin_add (by omega) (by omega)]
       refine hKE4 _ _ _ ⟨x+1,rfl,hl2,fun _=>h3,fr,?_,ap9⟩ (by simp[intA];omega)
       rw[nts,if_neg (by rw[h4];decide)]
       exact w9
     ·refine fin ?_
      have:x=0:=by
       rcases Nat.eq_zero_or_pos x with h|h
       ·exact h
       ·rw[hx0 h]at h3;cases h3
      subst this
      rw[hrow,h3,if_neg (by decide)]
      rfl
    ·have hge:x=2 ^ c.inputs.toNat:=by
       have:¬ ((x:Int)<((2 ^ c.inputs.toNat:Nat):Int)):=of_decide_eq_false hg2
       omega
     refine fin ?_
     have hpos:0<2 ^ c.inputs.toNat:=Nat.two_pow_pos _
     rw[hrow,hx0 (by omega),if_pos rfl,hN,hge]
   ·have hge:k=2 ^ m:=by
      have:¬ ((k:Int)<((2 ^ m:Nat):Int)):=of_decide_eq_false hge
      omega
    subst hge
    have hnx:=fr.ow
    rw[List.take_of_length_le (by omega)]at hnx
    rw[ldN_p (n:=5) fr.sb rfl]
    refine stA_of fr.ob rfl rfl fun S10 n10 o10 f10=>?_
    rw[ldN_p (n:=5) o10 rfl]
    have w3:Own S.n S10 zn 34 _:=(hnx.st (id:=S1.n) (fun b m e=>by have:=hnx.lt e;omega) n10 f10).low (by omega)
    rw[List.map_map]at w3
    have hbits:(spOf c).bits=(m:Int):=hm
    refine⟨_,rfl,fr.keep.st (by omega) n10 f10,cv_t2 (cv_a5 (by rw[hbits];exact .v _) (treeB _ _ _) (treeB _ _ _) (own_tree (fun _ _=>treeI _) w3) (Tree.aL (fun _ _=>treeB _) _ _)) (.v _)⟩
theorem pickV_rng{l:List Int}(hl:∀ x∈l,0≤x∧x<65536){k:Nat}{n:Int}(hn:0<n):0≤pickV l k n∧pickV l k n<n:=by
 unfold pickV
 split
 ·omega
 ·rename_i h
  have hlt:k<l.length:=by omega
  have hx:=hl _ (List.getElem_mem hlt)
  rw[show l.getD k 0=l[k]by simp[List.getD_eq_getElem?_getD,hlt],Int.tmod_eq_emod_of_nonneg hx.1]
  exact⟨Int.emod_nonneg _ (by omega),Int.emod_lt_of_pos _ hn⟩
structure Fm (S:Store) (l:List Int) (S':Store) (k:Nat) (cs:List AV):Prop where
 keep:Keep S S'
 n:S.n+4≤S'.n
 lo:S'.obj S.n=some (.cells 33 [[aL aW16 l]] true)
 ro:S'.obj (S.n+1)=some (.cells 42 [[aI 0,.nl,.nl,.nl,.nl,.nl,.nl,.nl]] true)
 ao:S'.obj (S.n+2)=some (.cells 3 [[aI k]] true)
 co:S'.obj (S.n+3)=some (.cells 42 [cs] true)
abbrev pickF(S:Store):AV:=.f (.func 78) [] [.p (S.n+2) 0 0,.p S.n 0 0]
theorem Fm.old{S S' S'':Store}{l:List Int}{k:Nat}{cs:List AV}(h:Fm S l S' k cs)(hn:S'.n≤S''.n)(ho:∀ x,x<S.n+4→S''.obj x=S'.obj x):Fm S l S'' k cs:=
 ⟨⟨by have:=h.keep.1;omega,fun x hx=>(ho x (by omega)).trans (h.keep.2 x hx)⟩,by have:=h.n;omega,(ho _ (by omega)).trans h.lo,(ho _ (by omega)).trans h.ro,(ho _ (by omega)).trans h.ao,(ho _ (by omega)).trans h.co⟩
theorem Fm.pick{S S':Store}{l:List Int}{k:Nat}{cs:List AV}(h:Fm S l S' k cs)(hl:∀ x∈l,0≤x∧x<65536){n:Int}(hn:0<n)(hk:k≤1000){K X:AV→Store→Prop}
    (kk:∀ S'',Fm S l S'' (k+1) cs→S''.n=S'.n→(∀ x,x≠S.n+2→S''.obj x=S'.obj x)→K (aI (pickV l k n)) S''):callV Pg (pickF S) [aI n] S' K X:=by
 refine .inl (pick_of h.ao h.lo (by omega) hl hn (by omega) fun S'' n2 o2 f2=>kk S'' ⟨⟨by have:=h.keep.1;omega,fun x hx=>(f2 x (by omega)).trans (h.keep.2 x hx)⟩,by have:=h.n;omega,(f2 _ (by omega)).trans h.lo,(f2 _ (by omega)).trans h.ro,o2,(f2 _ (by omega)).trans h.co⟩ n2 f2)
theorem Fm.st{S S':Store}{l:List Int}{k j:Nat}{cs:List AV}{u:AV}(h:Fm S l S' k cs)(hj:j<cs.length)(hu:u.one=true){K:AV→Store→Prop}
    (kk:∀ S'',Fm S l S'' k (cs.set j u)→S''.n=S'.n→(∀ x,x≠S.n+3→S''.obj x=S'.obj x)→K .j S''):stN 1 (.p (S.n+3) 0 j) u S' K:=
 stF_of h.co hj hu fun S'' n2 o2 f2=>kk S'' ⟨⟨by have:=h.keep.1;omega,fun x hx=>(f2 x (by omega)).trans (h.keep.2 x hx)⟩,by have:=h.n;omega,(f2 _ (by omega)).trans h.lo,(f2 _ (by omega)).trans h.ro,(f2 _ (by omega)).trans h.ao,o2⟩ n2 f2
theorem Fm.kT{S S' T:Store}{l:List Int}{k:Nat}{cs:List AV}(h:Fm S l S' k cs)(hT:Keep S' T):T.obj (S.n+3)=some (.cells 42 [cs] true):=(hT.2 _ (by have:=h.n;omega)).trans h.co
theorem bsl3{e:Nat}{z u v w:AV}{S:Store}{K:AV→Store→Prop}(hu:u.one=true)(hv:v.one=true)(hw:w.one=true)(k:K (.l [[u],[v],[w]]) S):bslN e 1 3 [z] [(0,u),(1,v),(2,w)] S K:=by
 refine⟨[u,v,w],?_,.inr ?_⟩
 ·simp[fillA,cells_of_one hu,cells_of_one hv,cells_of_one hw,spl,List.range_succ]
 ·simpa[chunks,List.range_succ]using k
theorem bslA3{e:Nat}{z1 z2 z3 u v w:AV}{S:Store}{K:AV→Store→Prop}(k:K (.l [[u,v,w]]) S):bslN e 3 1 [z1,z2,z3] [(0,.a [u,v,w])] S K:=by
 refine⟨[u,v,w],?_,.inr ?_⟩
 ·simp[fillA,cellsOf,spl]
 ·simpa[chunks]using k
theorem own_one{n:Nat}{S:Store}{x:AV}{e:Nat}{es:List (List AV)}(h:Own n S x e es):x.one=true:=by rcases h with⟨rfl,_⟩|⟨id,rfl,_⟩<;>rfl
theorem wrap16{x:Int}(h0:0≤x)(h1:x<65536):IntKind.u16.wrap x=x:=by rw[IntKind.wrap_u16];omega
theorem _root_.Go.Ab.Own.fm{S S' S'':Store}{x:AV}{e:Nat}{es:List (List AV)}{id:Nat}(h:Own (S.n+4) S' x e es)(hid:id<S.n+4)(hn:S''.n=S'.n)(ho:∀ y,y≠id→S''.obj y=S'.obj y):Own (S.n+4) S'' x e es:=
 h.st (id:=id) (fun b m e=>by have:=h.lt e;omega) hn ho
theorem own_cvP{n:Nat}{S:Store}{x:AV}{e:Nat}{l:List (Int × Int)}{F:Nat→Bool}{k:Nat}(h:Own n S x e (l.map fun p=>[aI p.1,aI p.2]))(hF:∀ i b m,x = .s i b m→F i=true):Cv (S.frz F) k x (pL l):=by
 rcases h with⟨rfl,h⟩|⟨id,rfl,h1,h2,h3⟩
 ·have:l = []:=List.map_eq_nil_iff.1 h
  subst this
  exact .nl
 ·refine .s id 0 _ e _ _ (by rw[frz_of h3,hF id _ _ rfl];rfl) (by simp) (by simp) (fun i c c2 hi hi2=>?_) (fun i c c2 k u u2 hi hi2 hk hk2=>?_)
  ·rw[Nat.zero_add]at hi;rw[hi]at hi2;cases hi2;rfl
  ·rw[Nat.zero_add]at hi;rw[hi]at hi2;cases hi2
   rw[hk]at hk2;cases hk2
   rw[List.getElem?_map]at hi
   obtain⟨a,_,rfl⟩:=Option.map_eq_some_iff.1 hi
   match k with
   |0=>cases hk;exact .v _
   |1=>cases hk;exact .v _
   |k+2=>simp at hk
theorem own_cvI{n:Nat}{S:Store}{x:AV}{e:Nat}{l:List Int}{F:Nat→Bool}{k:Nat}(h:Own n S x e (l.map fun p=>[aI p]))(hF:∀ i b m,x = .s i b m→F i=true):Cv (S.frz F) k x (aL aI l):=by
 rcases h with⟨rfl,h⟩|⟨id,rfl,h1,h2,h3⟩
 ·have:l = []:=List.map_eq_nil_iff.1 h
  subst this
  exact .nl
 ·refine .s id 0 _ e _ _ (by rw[frz_of h3,hF id _ _ rfl];rfl) (by simp) (by simp) (fun i c c2 hi hi2=>?_) (fun i c c2 k u u2 hi hi2 hk hk2=>?_)
  ·rw[Nat.zero_add]at hi;rw[hi]at hi2;cases hi2;rfl
  ·rw[Nat.zero_add]at hi;rw[hi]at hi2;cases hi2
   rw[hk]at hk2;cases hk2
   rw[List.getElem?_map]at hi
   obtain⟨a,_,rfl⟩:=Option.map_eq_some_iff.1 hi
   match k with
   |0=>cases hk;exact .v _
   |k+1=>simp at hk
theorem own_cvN{n:Nat}{S:Store}{x:AV}{e:Nat}{l:List Na}{F:Nat→Bool}{k:Nat}(h:Own n S x e (l.map Na.row))(hF:∀ i b m,x = .s i b m→F i=true):Cv (S.frz F) k x (nL l):=by
 rcases h with⟨rfl,h⟩|⟨id,rfl,h1,h2,h3⟩
 ·have:l = []:=List.map_eq_nil_iff.1 h
  subst this
  exact .nl
 ·refine .s id 0 _ e _ _ (by rw[frz_of h3,hF id _ _ rfl];rfl) (by simp) (by simp) (fun i c c2 hi hi2=>?_) (fun i c c2 k u u2 hi hi2 hk hk2=>?_)
  ·rw[Nat.zero_add]at hi;rw[hi]at hi2;cases hi2;rfl
  ·rw[Nat.zero_add]at hi;rw[hi]at hi2;cases hi2
   rw[hk]at hk2;cases hk2
   rw[List.getElem?_map]at hi
   obtain⟨a,_,rfl⟩:=Option.map_eq_some_iff.1 hi
   unfold Na.row at hk
   match k with
   |0=>cases hk;exact .v _
   |1=>cases hk;exact .v _
   |2=>cases hk;exact .v _
   |k+3=>simp at hk
theorem _root_.Go.Ab.Own.fF{n:Nat}{S:Store}{x:AV}{e:Nat}{es:List (List AV)}(h:Own n S x e es){m:Nat}(hm:m≤n):∀ i b k,x = .s i b k→newer m i=true:=fun i b k e=>by
 have:=h.lt e
 simp[newer];omega
theorem madeC_of{inp:Int}{lats:List (Int × Int)}{g:Gr}{outs bads cons fair:List Int}{b1 b2:Bool}{t:ByteArray}(h0:0≤inp)(h1:inp≤3)(hl1:1≤lats.length)(hl2:lats.length≤3)
    (hg:g.right=true) (hgi:g.inputs=inp+lats.length) (hga:g.ands.length≤8) (hgok:g.ok) (hlat:∀ p∈lats,g.lit p.1=true∧0≤p.2∧p.2≤2) (ho:∀ x∈outs,g.lit x=true) (hb:∀ x∈bads,g.lit x=true)
    (hc:∀ x∈cons,g.lit x=true) (hf:∀ x∈fair,g.lit x=true) (lo:outs.length≤2) (lb:bads.length≤1) (lc:cons.length≤1) (lf:fair.length≤1)
    (ht:b2=true→0<outs.length∧(t=⟨#[111,117,116]⟩∨t=⟨#[108,49]⟩∨t=⟨#[97,45,98]⟩)):
    MadeC ⟨inp,lats,g.ands,outs,bads,cons,fair,(if b1 then[⟨108,0,⟨#[113]⟩⟩]else[])++(if b2 then[⟨111,outs.length - 1,t⟩]else[])⟩:=by
 have hvg:g.vars=inp+lats.length+1+g.ands.length:=by unfold Gr.vars;omega
 have hi64:∀{x:Int},g.lit x=true→i64R x:=fun h=>by
  obtain⟨_,_,h1,h2⟩:=lit_iff.1 h
  exact⟨by omega,by omega⟩
 have hgr:∀ nm,(⟨inp,lats,g.ands,outs,bads,cons,fair,nm⟩:Ci).gr=g:=fun nm=>by
  show(⟨IntKind.i64.wrap (inp+lats.length),g.ands⟩:Gr)=g
  rw[wrap64 (by omega) (by omega),←hgi]
 have htl:b2=true→wordB t=true∧t.size≤100∧t≠⟨#[113]⟩:=fun h=>by
  rcases(ht h).2 with rfl|rfl|rfl<;>exact⟨by decide,by decide,by decide⟩
 generalize hnm:((if b1 then[⟨108,0,⟨#[113]⟩⟩]else[])++(if b2 then[⟨111,outs.length - 1,t⟩]else[]):List Na)=nm
 have hnl:nm.length≤2:=by subst hnm;cases b1<;>cases b2<;>simp
 have hnames:namesB ⟨inp,lats,g.ands,outs,bads,cons,fair,nm⟩=true:=by
  have e1:nameOk ⟨inp,lats,g.ands,outs,bads,cons,fair,nm⟩ ⟨108,0,⟨#[113]⟩⟩:=⟨by decide,by decide,by simp[Ci.many];omega⟩
  have e2:b2=true→nameOk ⟨inp,lats,g.ands,outs,bads,cons,fair,nm⟩ ⟨111,outs.length - 1,t⟩:=fun h=>⟨(htl h).1,by have:=(ht h).1;show(0:Int)≤outs.length - 1;omega,by have:=(ht h).1;simp[Ci.many];omega⟩
  have e3:nameLt ⟨108,0,⟨#[113]⟩⟩ ⟨111,outs.length - 1,t⟩:=.inl (by show rankI 108<rankI 111;decide)
  simp only[namesB,decide_eq_true_eq]
  subst hnm
  cases b1<;>cases b2
  ·exact⟨fun i h=>by simp at h,fun i h=>by simp at h,by simp⟩
  ·refine⟨fun i h _=>?_,fun i h=>by simp at h,by simp⟩
   match i with
   |0=>exact e2 rfl
   |i+1=>exact absurd (show i+1<1 from h) (by omega)
  ·refine⟨fun i h _=>?_,fun i h=>by simp at h,by simp⟩
   match i with
   |0=>exact e1
   |i+1=>exact absurd (show i+1<1 from h) (by omega)
  ·refine⟨fun i h _=>?_,fun i h _=>?_,?_⟩
   ·match i with
    |0=>exact e1
    |1=>exact e2 rfl
    |i+2=>exact absurd (show i+2<2 from h) (by omega)
   ·match i with
    |0=>exact e3
    |i+1=>exact absurd (show i+1+1<2 from h) (by omega)
   ·have:=(htl rfl).2.2
    simp only[if_true,List.cons_append,List.nil_append,List.length_cons,List.length_nil,List.take_succ_cons,List.take_zero,List.map_cons,List.map_nil,List.nodup_cons,List.mem_singleton,List.not_mem_nil,not_false_eq_true,List.nodup_nil,and_true]
    exact fun h=>this (keyOf_inj h.symm)
 have hnk:∀ x∈nm,0≤x.kind∧x.kind<256∧i64R x.pos∧x.text.size≤9223372036854775807:=by
  subst hnm
  intro x hx
  rcases List.mem_append.1 hx with hx|hx
  ·cases b1
   ·simp at hx
   ·have:x=⟨108,0,⟨#[113]⟩⟩:=by simpa using hx
    subst this
    exact⟨by decide,by decide,⟨by decide,by decide⟩,by decide⟩
  ·cases b2
   ·simp at hx
   ·have:x=⟨111,outs.length - 1,t⟩:=by simpa using hx
    subst this
    have h2:=htl rfl
    exact⟨by show(0:Int)≤111;decide,by show(111:Int)<256;decide,⟨by show _≤(outs.length:Int) - 1;omega,by show(outs.length:Int) - 1≤_;omega⟩,by show t.size≤_;omega⟩
 refine⟨⟨⟨by show _≤inp;omega,by show inp≤_;omega⟩,by show lats.length≤_;omega,by show g.ands.length≤_;omega,fun p hp=>⟨hi64 (hlat p hp).1,⟨by have:=hlat p hp;omega,by have:=hlat p hp;omega⟩⟩,hgok.pairs,⟨fun x hx=>hi64 (ho x hx),by show outs.length≤_;omega⟩,⟨fun x hx=>hi64 (hb x hx),by show bads.length≤_;omega⟩,
  ⟨fun x hx=>hi64 (hc x hx),by show cons.length≤_;omega⟩,⟨fun x hx=>hi64 (hf x hx),by show fair.length≤_;omega⟩,hnk,by show nm.length≤_;omega⟩,right_c.2 ?_,⟨h0,h1⟩,⟨hl1,hl2⟩,hga,lo,lb,lc,lf,⟨b1,b2,t,hnm.symm,ht⟩⟩
 rw[hgr]
 refine⟨⟨h0,by show inp≤_;omega⟩,by show lats.length≤_;omega,by show outs.length≤_;omega,by show bads.length≤_;omega,by show cons.length≤_;omega,by show fair.length≤_;omega,hg,?_,?_,?_,?_,?_,hnames⟩
 ·refine List.all_eq_true.2 fun p hp=>?_
  obtain⟨q1,q2,q3⟩:=hlat p hp
  simp only[latOk,q1,decide_eq_true q2,decide_eq_true q3,Bool.and_self]
 ·exact List.all_eq_true.2 ho
 ·exact List.all_eq_true.2 hb
 ·exact List.all_eq_true.2 hc
 ·exact List.all_eq_true.2 hf
def seedL(l:List Int):List Int:=(List.range (pickV l 2 9).toNat).map fun i=>pickV l (3+i) 65536
def varsL(l:List Int):Int:=(madeTo (pickV l 0 4+(1+pickV l 1 3)) (seedL l) (min (seedL l).length 40)).1.vars
def Ci.avZ(c:Ci)(zl:AV):AV:=.a (c.cells.set 1 zl)
theorem _root_.Go.Ab.ACalls.frzR{P:Program}{f:FuncId}{args:List AV}{S:Store}{Z:AV→Store→Prop}
    (h:ACalls P f args S (fun e S'=>∃(D:Nat→Bool) (r tr:AV),e = .ret r∧Cv (S'.frz D) S'.n r tr∧Z tr (S'.frz D))):ACalls P f args S (fun e S'=>∃ tr,e = .ret tr∧Z tr S'):=by
 refine⟨h.1,fun w g vs hh ha=>(h.2 w g vs hh ha).mono ?_⟩
 rintro e w' ⟨_,S',g',h1,h2,h3,D,r,tr,rfl,hcv,hz⟩
 cases e with
 |returned v =>
  have hf:=heap_frz h1 D
  have hm:=mv_frz h1 D
  have hn:(g'.frz S' D).n=S'.n:=h1.n
  have hcut:(g'.frz S' D).cut S'.n=g'.frz S' D:=by
   rw[←hn]
   rfl
  have hr:=R_cv hf hcv (R.mv hm h3)
  rw[hcut]at hr
  exact⟨.ret tr,S'.frz D,_,hf,h2.trans hm,hr,_,rfl,hz⟩
 |panicked chain=>exact h3.elim
 |outgrown=>exact h3.elim
theorem own_cv'{n:Nat}{S S':Store}{x:AV}{e:Nat}{es:List (List AV)}(h:Own n S x e es):Cv S' S.n x x:=by
 rcases h with⟨rfl,_⟩|⟨id,rfl,h1,h2,h3⟩
 ·exact .nl'
 ·exact .s' _ _ _ h2
structure Fz (S:Store) (l:List Int) (N:Nat) (A S':Store) (k:Nat) (cs:List AV):Prop where
 fm:Fm S l S' k cs
 n:N≤S'.n
 hN:S.n+4≤N
 same:∀ x,S.n+4≤x→x<N→S'.obj x=A.obj x
theorem Fz.keep{S A S':Store}{l:List Int}{N k:Nat}{cs:List AV}(h:Fz S l N A S' k cs):Keep S S':=h.fm.keep
theorem Fz.ro{S A S':Store}{l:List Int}{N k:Nat}{cs:List AV}(h:Fz S l N A S' k cs):S'.obj (S.n+1)=some (.cells 42 [[aI 0,.nl,.nl,.nl,.nl,.nl,.nl,.nl]] true):=h.fm.ro
theorem Fz.co{S A S':Store}{l:List Int}{N k:Nat}{cs:List AV}(h:Fz S l N A S' k cs):S'.obj (S.n+3)=some (.cells 42 [cs] true):=h.fm.co
theorem Fz.old{S A S' S'':Store}{l:List Int}{N k:Nat}{cs:List AV}(h:Fz S l N A S' k cs)(hn:S'.n≤S''.n)(ho:∀ x,x<N→S''.obj x=S'.obj x):Fz S l N A S'' k cs:=
 ⟨h.fm.old hn fun x hx=>ho x (by have:=h.hN;omega),by have:=h.n;omega,h.hN,fun x h1 h2=>(ho x h2).trans (h.same x h1 h2)⟩
theorem Fz.pick{S A S':Store}{l:List Int}{N k:Nat}{cs:List AV}(h:Fz S l N A S' k cs)(hl:∀ x∈l,0≤x∧x<65536){n:Int}(hn:0<n)(hk:k≤1000){K X:AV→Store→Prop}
    (kk:∀ S'',Fz S l N A S'' (k+1) cs→S''.n=S'.n→(∀ x,x≠S.n+2→S''.obj x=S'.obj x)→K (aI (pickV l k n)) S''):callV Pg (pickF S) [aI n] S' K X:=
 h.fm.pick hl hn hk fun S'' fm n2 f2=>kk S'' ⟨fm,by have:=h.n;omega,h.hN,fun x h1 h2=>(f2 x (by omega)).trans (h.same x h1 h2)⟩ n2 f2
theorem Fz.st{S A S':Store}{l:List Int}{N k j:Nat}{cs:List AV}{u:AV}(h:Fz S l N A S' k cs)(hj:j<cs.length)(hu:u.one=true){K:AV→Store→Prop}
    (kk:∀ S'',Fz S l N A S'' k (cs.set j u)→S''.n=S'.n→(∀ x,x≠S.n+3→S''.obj x=S'.obj x)→K .j S''):stN 1 (.p (S.n+3) 0 j) u S' K:=
 h.fm.st hj hu fun S'' fm n2 f2=>kk S'' ⟨fm,by have:=h.n;omega,h.hN,fun x h1 h2=>(f2 x (by omega)).trans (h.same x h1 h2)⟩ n2 f2
theorem Fz.kT{S A S' T:Store}{l:List Int}{N k:Nat}{cs:List AV}(h:Fz S l N A S' k cs)(hT:Keep S' T):T.obj (S.n+3)=some (.cells 42 [cs] true):=h.fm.kT hT
theorem Fz.own{S A S':Store}{l:List Int}{N k:Nat}{cs:List AV}(h:Fz S l N A S' k cs){x:AV}{e:Nat}{es:List (List AV)}(w:Own (S.n+4) A x e es)(hA:A.n=N):Own (S.n+4) S' x e es:=by
 rcases w with⟨rfl,e⟩|⟨id,rfl,h1,h2,h3⟩
 ·exact .inl ⟨rfl,e⟩
 ·exact .inr ⟨id,rfl,h1,by have:=h.n;omega,(h.same _ h1 (by omega)).trans h3⟩
theorem Fz.wk{S A S':Store}{l:List Int}{N k:Nat}{cs cs2:List AV}(h:Fz S l N A S' k cs)(hl:cs.length=cs2.length)(hc:∀(k:Nat) (u u2:AV),cs[k]? = some u→cs2[k]? = some u2→Cv (S'.frz (newer N)) S'.n u u2)(ls:List AV):
    ∃ S'',Wk S' ls S'' ls∧Fz S l N A S'' k cs2∧S''.n=S'.n:=by
 have hN:=h.hN
 refine⟨_,Wk.row (id:=S.n+3) (newer N) h.fm.co (by simp[newer];omega) (es2:=[cs2]) ⟨rfl,fun i c1 c2 e1 e2=>?_⟩,?_,rfl⟩
 ·match i with
  |0=>cases e1;cases e2;exact⟨hl,hc⟩
  |i+1=>simp at e1
 ·have hlow:∀ x,x<N→x≠S.n+3→(S'.tell (newer N) (S.n+3) (.cells 42 [cs2] true)).obj x=S'.obj x:=fun x hx hne=>tell_ne hne (by simp[newer];omega)
  exact⟨⟨⟨h.fm.keep.1,fun x hx=>(hlow x (by omega) (by omega)).trans (h.fm.keep.2 x hx)⟩,h.fm.n,(hlow _ (by omega) (by omega)).trans h.fm.lo,(hlow _ (by omega) (by omega)).trans h.fm.ro,(hlow _ (by omega) (by omega)).trans h.fm.ao,tell_id⟩,h.n,hN,fun x h1 h2=>(hlow x h2 (by omega)).trans (h.same x h1 h2)⟩
theorem _root_.Go.Ab.Own.fz{N:Nat}{S' S'':Store}{x:AV}{e:Nat}{es:List (List AV)}{id:Nat}(h:Own N S' x e es)(hid:id<N)(hn:S''.n=S'.n)(ho:∀ y,y≠id→S''.obj y=S'.obj y):Own N S'' x e es:=
 h.st (id:=id) (fun b m e=>by have:=h.lt e;omega) hn ho
theorem madeL48{l:List Int}(hl:∀ x∈l,0≤x∧x<65536){S:Store}:ACalls Pg 48 [aL aW16 l] S (fun e S'=>∃ tr,e = .ret tr∧Keep S S'∧∃(c:Ci) (zl:AV),tr=c.avZ zl∧Own S.n S' zl 66 (c.latches.map fun p=>[aI p.1,aI p.2])∧MadeC c∧c.gr.vars=varsL l):=by
 refine ACalls.frzR (calls48 ?_)
 unfold m48
 refine box1_of rfl fun S1 k1 n1 o1=>?_
 refine boxA_of rfl fun S2 k2 n2 o2=>?_
 refine box1_of rfl fun S3 k3 n3 o3=>?_
 refine st_of o3 rfl rfl fun S4 n4 o4 f4=>?_
 refine boxA_of rfl fun S5 k5 n5 o5=>?_
 have e1:S1.n=S.n+1:=n1
 have e2:S2.n=S.n+2:=by omega
 have e4:S4.n=S.n+3:=by omega
 rw[e1]at o2;rw[e2]at o3 o4 f4;rw[e4]at o5
 rw[e1,e2,e4]
 have fm:Fm S l S5 0 [aI 0,.nl,.nl,.nl,.nl,.nl,.nl,.nl]:=by
  have old4:∀ x,x<S.n+2→S4.obj x=S2.obj x:=fun x hx=>(f4 x (by omega)).trans (k3.2 x (by omega))
  have old5:∀ x,x<S.n+3→S5.obj x=S4.obj x:=fun x hx=>k5.2 x (by omega)
  refine⟨⟨by omega,fun x hx=>(old5 x (by omega)).trans ((old4 x (by omega)).trans ((k2.2 x (by omega)).trans (k1.2 x hx)))⟩,by omega,?_,?_,(old5 _ (by omega)).trans o4,o5⟩
  ·exact(old5 _ (by omega)).trans ((old4 _ (by omega)).trans ((k2.2 _ (by omega)).trans o1))
  ·exact(old5 _ (by omega)).trans ((old4 _ (by omega)).trans o2)
 show callV _ (pickF S) _ _ _ _
 refine fm.pick hl (by decide) (by decide) fun S6 fm n6 f6=>?_
 have pi:=pickV_rng hl (k:=0) (n:=4) (by decide)
 generalize hinp:pickV l 0 4=inp at *
 rw[shift_p]
 refine fm.st (by simp) rfl fun S7 fm n7 f7=>?_
 show callV _ (pickF S) _ _ _ _
 refine fm.pick hl (by decide) (by decide) fun S8 fm n8 f8=>?_
 have pm:=pickV_rng hl (k:=1) (n:=3) (by decide)
 generalize hm3:pickV l 1 3=m3 at *
 rw[bin_add (by omega) (by omega)]
 obtain⟨many,hmany⟩:=Int.eq_ofNat_of_zero_le (show 0≤1+m3 by omega)
 have hm1:1≤many∧many≤3:=by omega
 rw[hmany]
 show callV _ (pickF S) _ _ _ _
 refine fm.pick hl (by decide) (by decide) fun S9 fm n9 f9=>?_
 have pr:=pickV_rng hl (k:=2) (n:=9) (by decide)
 generalize h9:pickV l 2 9=r9 at *
 obtain⟨r0,rfl⟩:=Int.eq_ofNat_of_zero_le pr.1
 replace fm:Fm S l S9 3 [aI inp,.nl,.nl,.nl,.nl,.nl,.nl,.nl]:=fm
 show loopV _ _ _ (env48_0 (.p (S.n+1) 0 0) (pickF S) (.p (S.n+3) 0 0) (aI many) .nl (aI r0)) _ _
 refine loop48_0 (fun y7 y8 S'=>∃(r k:Nat) (sd:List Int),y8=aI r∧(r+sd.length=r0∧k=3+sd.length∧sd=(List.range sd.length).map fun i=>pickV l (3+i) 65536)∧r+sd.length≤8∧k+r≤11∧Fm S l S' k [aI inp,.nl,.nl,.nl,.nl,.nl,.nl,.nl]∧Own (S.n+4) S' y7 126 (sd.map fun x=>[aW16 x])∧∀ x∈sd,0≤x∧x<65536)
  (fun _ y _=>((intA y).getD 0).toNat) ⟨r0,3,[],rfl,⟨by simp,rfl,rfl⟩,by simp;omega,by omega,fm,Own.nl _ _ _,fun _ h=>by cases h⟩ ?_
 rintro y7 _ S1 ⟨r,k,sd,rfl,⟨hrr,hkk,hsq⟩,hr,hk,fm,w7,hsd⟩ KE hKE
 unfold b48_0
 rw[bin_gtr,onB_v]
 refine gd_of (fun hgt=>?_) (fun hle=>?_)
 ·have hgt:0<r:=by have:=of_decide_eq_true hgt;omega
  refine fm.pick hl (by decide) (by omega) fun S2 fm n2 f2=>?_
  have px:=pickV_rng hl (k:=k) (n:=65536) (by decide)
  generalize hx:pickV l k 65536=x at *
  have w2:=w7.fm (by omega) n2 f2
  rw[convI_v,wrap16 px.1 px.2]
  refine bsl1 rfl (fun _ h=>by cases h) ?_
  refine w2.app (by have:=fm.n;omega) (c:=[aW16 x]) rfl (by rw[List.length_map];omega) (fun z S3 w3 b3 hz=>?_) rfl
  have n3:=b3.1
  have o3:∀ x,x<S.n+4→S3.obj x=S2.obj x:=fun x hx=>b3.2 x (by have:=fm.n;omega) (fun b m e=>by have:=w2.lt e;omega)
  rw[bin_sub (by omega) (by omega),show(r:Int) - 1=((r - 1:Nat):Int)by omega]
  refine hKE _ _ _ ⟨r - 1,k+1,sd ++ [x],rfl,⟨by simp;omega,by simp;omega,by rw[List.length_append,List.length_singleton,List.range_succ,List.map_append,←hsq];simp[←hx,hkk]⟩,by rw[List.length_append,List.length_singleton];omega,by omega,fm.old n3 o3,by rw[List.map_append];exact w3,fun a ha=>?_⟩ (by simp[intA];omega)
  rcases List.mem_append.1 ha with ha|ha
  ·exact hsd a ha
  ·have:a=x:=by simpa using ha
   subst this
   exact px
 have hle:r=0:=by have:=of_decide_eq_false hle;omega
 subst hle
 clear hKE KE
 rw[shift_p,ld1_p fm.co rfl rfl,bin_add (by omega) (by omega)]
 have hlen:∀(T:Store) (K:AV→Store→Prop),lenS y7 T K=K (aI sd.length) T:=fun T K=>by
  rcases w7 with⟨rfl,e⟩|⟨id,rfl,_⟩
  ·have:sd = []:=List.map_eq_nil_iff.1 e
   subst this;rfl
  ·rw[lenS_s,List.length_map]
 obtain⟨q7,hq7⟩:∃ q:Nat,∀(i:Nat),i<sd.length→y7 = .s q 0 sd.length∧q<S1.n∧S1.obj q=some (.cells 126 (sd.map fun x=>[aW16 x]) true):=by
  rcases w7 with⟨rfl,e⟩|⟨id,rfl,h1,h2,h3⟩
  ·have:sd = []:=List.map_eq_nil_iff.1 e
   subst this;exact⟨0,fun i hi=>by simp at hi⟩
  ·exact⟨id,fun i _=>⟨by rw[List.length_map],h2,h3⟩⟩
 have hmade:=at79 (n:=inp+many) (by omega) (by omega) hsd (by omega) (S:=S1) (x1:=y7) hlen (P:=fun i=>.p q7 i 0) (fun T hT i hi=>by
  obtain⟨h1,h2,h3⟩:=hq7 i hi
  have h4:=(hT.2 _ h2).trans h3
  subst h1
  refine⟨fun K=>by rw[ixS_s hi h4,Nat.zero_add],fun K=>by rw[ld1_p h4 (by rw[List.getElem?_map,List.getElem?_eq_getElem hi];rfl) rfl]⟩)
 have hrt:=madeTo_right (n:=inp+many) (by omega) (by omega) hsd (min sd.length 40) (by omega)
 have hgok:=madeTo_ok (n:=inp+many) ⟨by omega,by omega⟩ hsd (by omega) (min sd.length 40)
 have hgin:=madeTo_inp (inp+many) sd (min sd.length 40)
 have hmin:min sd.length 40≤8:=by omega
 have hvars:(madeTo (inp+many) sd (min sd.length 40)).1.vars=varsL l:=by
  have e:sd=seedL l:=by
   rw[hsq,seedL,h9]
   rw[show sd.length=r0 by omega]
   rfl
  rw[varsL,hinp,hm3,hmany,←e]
 generalize(madeTo (inp+many) sd (min sd.length 40)).1=g at *
 generalize(madeTo (inp+many) sd (min sd.length 40)).2=last at *
 obtain⟨hg,hlast,hv1,hv2⟩:=hrt
 have hga:g.ands.length≤8:=by unfold Gr.vars at hv2;omega
 refine callF_at hmade ?_
 rw[extr0,extr1]
 refine boxA_of rfl fun S2 k2 n2 o2=>?_
 refine stA_of o2 rfl rfl fun S3 n3 o3 f3=>?_
 have hb:=fm.n
 replace fm:Fm S l S3 k _:=fm.old (by omega) fun x hx=>(f3 x (by omega)).trans (k2.2 x (by omega))
 rw[shift_p,ld1_p o3 rfl rfl,shift_p]
 refine fm.st (by simp) rfl fun S4 fm n4 f4=>?_
 have o4:=(f4 S1.n (by omega)).trans o3
 rw[ldN_p (n:=2) o4 rfl]
 refine callF_ans (ans40 hgok (by omega) (by omega)) ?_
 rw[bin_mul (by omega) (by omega)]
 have hvp:0<2*g.vars:=by omega
 have plit:∀{x:Int},0≤x∧x<2*g.vars→g.lit x=true:=fun h=>lit_iff.2 ⟨by omega,by omega,h.1,by omega⟩
 show loopV _ _ _ (env48_1 (.p (S.n+1) 0 0) (pickF S) (.p (S.n+3) 0 0) (aI many) (aI last) (aI (2*g.vars)) (aI (0:Nat))) _ _
 replace fm:Fm S l S4 k [aI inp,.nl,pL g.ands,.nl,.nl,.nl,.nl,.nl]:=fm
 refine loop48_1 (fun y12 S'=>∃(i k:Nat) (zl:AV) (lats:List (Int × Int)),y12=aI i∧i≤many∧k≤11+2*i∧Fm S l S' k [aI inp,zl,pL g.ands,.nl,.nl,.nl,.nl,.nl]∧Own (S.n+4) S' zl 66 (lats.map fun p=>[aI p.1,aI p.2])∧lats.length=i∧∀ p∈lats,g.lit p.1=true∧0≤p.2∧p.2≤2)
  (fun y _=>many - ((intA y).getD 0).toNat) ⟨0,k,.nl,[],rfl,Nat.zero_le _,by omega,fm,Own.nl _ _ _,rfl,fun _ h=>by cases h⟩ ?_
 rintro _ S1 ⟨i,k,zl,lats,rfl,hi,hk,fm,wl,hll,hlat⟩ KE hKE
 unfold b48_1
 rw[bin_lss,onB_v]
 refine gd_of (fun hlt=>?_) (fun hge=>?_)
 ·have hlt:i<many:=by have:=of_decide_eq_true hlt;omega
  refine fm.pick hl hvp (by omega) fun S2 fm n2 f2=>?_
  have pn:=plit (pickV_rng hl (k:=k) hvp)
  generalize pickV l k (2*g.vars)=n at *
  have w2:=wl.fm (by omega) n2 f2
  rw[bin_eql,onB_v]
  have step:∀ nx:Int,g.lit nx=true→∀(S3:Store) (p5:Int) (k':Nat),0≤p5∧p5<5→k'≤11+2*(i+1)→Fm S l S3 k' [aI inp,zl,pL g.ands,.nl,.nl,.nl,.nl,.nl]→Own (S.n+4) S3 zl 66 (lats.map fun p=>[aI p.1,aI p.2])→
      (∃ q46:AV,(∀ T:Store,Keep S3 T→bin .quo 0 (aI p5) (.v (.int .i64 2)) T fun v S=>v=q46∧S=T)∧∃ q48:AV,(∀ T:Store,Keep S3 T→bld [(0,1),(1,1)] [.v (.int .i64 0),.v (.int .i64 0)] [(0,aI nx),(1,q46)] T fun v S=>v=q48∧S=T)∧
       ∃ q50:AV,(∀ T:Store,Keep S3 T→bslN 66 2 1 [.v (.int .i64 0),.v (.int .i64 0)] [(0,q48)] T fun v S=>v=q50∧S=T)∧appS 66 2 16 zl q50 S3 fun v52 T =>
       ∃ q53:AV,(∀ T':Store,Keep T T'→shift (.p (S.n+3) 0 0) 1 T' fun v S=>v=q53∧S=T')∧stN 1 q53 v52 T fun _ T=>bin .add 0 (aI i) (.v (.int .i64 1)) T fun v T=>KE 156 (env48_1 (.p (S.n+1) 0 0) (pickF S) (.p (S.n+3) 0 0) (aI many) (aI last) (aI (2*g.vars)) v) T):=by
   intro nx hnx S3 p5 k' hp5 hk' fm w3
   have hd:0≤p5.tdiv 2∧p5.tdiv 2≤2:=by rw[Int.tdiv_eq_ediv_of_nonneg hp5.1];omega
   refine⟨_,fun T hT=>by rw[bin_quo (by decide) (by omega) (by omega)];exact⟨rfl,rfl⟩,_,fun T hT=>by rw[bld_of (cs:=[aI nx,aI (p5.tdiv 2)]) rfl];exact⟨rfl,rfl⟩,_,fun T hT=>bslP ⟨rfl,rfl⟩,?_⟩
   refine w3.app (by have:=fm.n;omega) (c:=[aI nx,aI (p5.tdiv 2)]) rfl (by rw[List.length_map];omega) (fun z S4 w4 b4 hz=>?_) rfl
   have n4:=b4.1
   have hn3:=fm.n
   have o4:∀ x,x<S.n+4→S4.obj x=S3.obj x:=fun x hx=>b4.2 x (by omega) (fun b m e=>by have:=w3.lt e;omega)
   refine⟨_,fun T hT=>by rw[shift_p];exact⟨rfl,rfl⟩,?_⟩
   replace fm:=fm.old n4 o4
   refine fm.st (by simp) (own_one w4) fun S5 fm n5 f5=>?_
   have w5:=w4.fm (by omega) n5 f5
   rw[bin_add (by omega) (by omega)]
   refine hKE _ _ ⟨i+1,k',z,lats ++ [(nx,p5.tdiv 2)],rfl,hlt,hk',fm,by rw[List.map_append];exact w5,by simp[hll],fun p hp=>?_⟩ (by simp[intA];omega)
   rcases List.mem_append.1 hp with hp|hp
   ·exact hlat p hp
   ·have:p=(nx,p5.tdiv 2):=by simpa using hp
    subst this
    exact⟨hnx,hd⟩
  have p5:=pickV_rng hl (k:=k+1) (n:=5) (by decide)
  refine gd_of (fun h0=>?_) (fun h0=>?_)
  ·refine⟨_,fun T hT=>by rw[shift_p];exact⟨rfl,rfl⟩,zl,fun T hT=>by rw[ld1_p (fm.kT hT) rfl rfl];exact⟨rfl,rfl⟩,?_⟩
   refine fm.pick hl (by decide) (by omega) fun S3 fm n3 f3=>?_
   have w3:=w2.fm (by omega) n3 f3
   refine⟨fun T hT=>by rw[ld1_p (fm.kT hT) rfl rfl];exact⟨rfl,rfl⟩,fun T hT=>by rw[shift_p];exact⟨rfl,rfl⟩,?_⟩
   exact step _ hlast S3 _ _ p5 (by omega) fm w3
  ·refine⟨_,fun T hT=>by rw[shift_p];exact⟨rfl,rfl⟩,zl,fun T hT=>by rw[ld1_p (fm.kT hT) rfl rfl];exact⟨rfl,rfl⟩,?_⟩
   refine fm.pick hl (by decide) (by omega) fun S3 fm n3 f3=>?_
   have w3:=w2.fm (by omega) n3 f3
   refine⟨fun T hT=>by rw[ld1_p (fm.kT hT) rfl rfl];exact⟨rfl,rfl⟩,fun T hT=>by rw[shift_p];exact⟨rfl,rfl⟩,?_⟩
   exact step _ pn S3 _ _ p5 (by omega) fm w3
 have hge:i=many:=by have:=of_decide_eq_false hge;omega
 subst hge
 clear hKE KE
 refine fm.pick hl (by decide) (by omega) fun S2 fm n2 f2=>?_
 have w2:=wl.fm (by omega) n2 f2
 have p3:=pickV_rng hl (k:=k) (n:=3) (by decide)
 generalize pickV l k 3=r3 at *
 obtain⟨r0,rfl⟩:=Int.eq_ofNat_of_zero_le p3.1
 have hN:S.n+4≤S2.n:=fm.n
 generalize S2=A at *
 obtain⟨N,hNe⟩:∃ N,A.n=N:=⟨_,rfl⟩
 rw[hNe]at hN
 have wA:=w2
 have fz:Fz S l N A A (k+1) [aI inp,zl,pL g.ands,.nl,.nl,.nl,.nl,.nl]:=⟨fm,by omega,hN,fun _ _ _=>rfl⟩
 clear fm
 have fm:=fz
 obtain⟨S3,wk3,fm3,n3⟩:=fm.wk (cs2:=[aI inp,zl,pL g.ands,.nl,.nl,.nl,.nl,.nl]) rfl (fun k' u u2 e1 e2=>by
  match k' with
  |0=>cases e1;cases e2;exact .v _
  |1=>cases e1;cases e2;exact own_cv' w2
  |2=>cases e1;cases e2;exact treeP _ _ _
  |3|4|5|6|7=>cases e1;cases e2;exact .nl'
  |k+8=>simp at e1) (env48_2 (.p (S.n+1) 0 0) (pickF S) (.p (S.n+3) 0 0) (aI (2*g.vars)) (aI r0))
 show loopV _ _ _ (env48_2 (.p (S.n+1) 0 0) (pickF S) (.p (S.n+3) 0 0) (aI (2*g.vars)) (aI r0)) _ _
 refine loopw48_2 (fun y2 y4 y5 y11 y14 S'=>y2 = .p (S.n+1) 0 0∧y4=pickF S∧y5 = .p (S.n+3) 0 0∧y11=aI (2*g.vars)∧∃(r k:Nat) (zo:AV) (outs:List Int),y14=aI r∧outs.length+r≤2∧k+r≤20∧Fz S l N A S' k [aI inp,zl,pL g.ands,zo,.nl,.nl,.nl,.nl]∧Own N S' zo 3 (outs.map fun p=>[aI p])∧∀ x∈outs,g.lit x=true)
  (fun _ _ _ _ y _=>((intA y).getD 0).toNat) ⟨_,_,_,_,_,S3,wk3,rfl,rfl,rfl,rfl,r0,k+1,.nl,[],rfl,by simp;omega,by omega,fm3,Own.nl _ _ _,fun _ h=>by cases h⟩ ?_
 rintro _ _ _ _ _ S1 ⟨rfl,rfl,rfl,rfl,r,k,zo,outs,rfl,hor,hk,fm,wo,hou⟩ KE hKE
 unfold b48_2
 rw[bin_gtr,onB_v]
 refine gd_of (fun hgt=>?_) (fun hle=>?_)
 ·have hgt:0<r:=by have:=of_decide_eq_true hgt;omega
  refine⟨_,fun T hT=>by rw[shift_p];exact⟨rfl,rfl⟩,zo,fun T hT=>by rw[ld1_p (fm.kT hT) rfl rfl];exact⟨rfl,rfl⟩,?_⟩
  refine fm.pick hl hvp (by omega) fun S2 fm n2 f2=>?_
  have pn:=plit (pickV_rng hl (k:=k) hvp)
  generalize pickV l k (2*g.vars)=n at *
  have w2:=wo.fz (by omega) n2 f2
  refine⟨fun T hT=>by rw[ld1_p (fm.kT hT) rfl rfl];exact⟨rfl,rfl⟩,fun T hT=>by rw[shift_p];exact⟨rfl,rfl⟩,_,fun T hT=>bsl1 rfl (fun _ h=>by cases h) ⟨rfl,rfl⟩,?_⟩
  refine w2.app (by have:=fm.n;omega) (c:=[aI n]) rfl (by rw[List.length_map];omega) (fun z S4 w4 b4 hz=>?_) rfl
  have n4:=b4.1
  have hn3:=fm.n
  have o4:∀ x,x<N→S4.obj x=S2.obj x:=fun x hx=>b4.2 x (by omega) (fun b m e=>by have:=w2.lt e;omega)
  refine⟨_,fun T hT=>by rw[shift_p];exact⟨rfl,rfl⟩,?_⟩
  replace fm:=fm.old n4 o4
  refine fm.st (by simp) (own_one w4) fun S5 fm n5 f5=>?_
  have w5:=w4.fz (by omega) n5 f5
  rw[bin_sub (by omega) (by omega),show(r:Int) - 1=((r - 1:Nat):Int)by omega]
  refine hKE _ _ _ _ _ _ _ _ _ _ _ _ (Wk.refl _ _) ⟨rfl,rfl,rfl,rfl,r - 1,k+1,z,outs ++ [n],rfl,by rw[List.length_append,List.length_singleton];omega,by omega,fm,by rw[List.map_append];exact w5,fun p hp=>?_⟩ (by simp[intA];omega)
  rcases List.mem_append.1 hp with hp|hp
  ·exact hou p hp
  ·have:p=n:=by simpa using hp
   subst this
   exact pn
 have hle:r=0:=by have:=of_decide_eq_false hle;omega
 subst hle
 clear hKE KE
 have tail:∀(S':Store) (k:Nat) (zo zb zc:AV) (bads cons:List Int) (r0:Nat),r0≤1→k≤25→Fz S l N A S' k [aI inp,zl,pL g.ands,zo,zb,zc,.nl,.nl]→Own N S' zo 3 (outs.map fun p=>[aI p])→Own N S' zb 3 (bads.map fun p=>[aI p])→Own N S' zc 3 (cons.map fun p=>[aI p])→
     bads.length≤1→cons.length≤1→(∀ x∈bads,g.lit x=true)→(∀ x∈cons,g.lit x=true)→
     loopV lv48_3 (vc Pg (c48.at_ [1,1,1,1,1,1,1,1,1,1,1,1,1,1,1,0,1,0,0]) (ms48.drop 4)) 156 (env48_3 (.p (S.n+1) 0 0) (pickF S) (.p (S.n+3) 0 0) (aI (2*g.vars)) (aI r0)) S'
      (blockK 6 (seqK (vc Pg (c48.at_ [1,1,1,1,1,1,1,1,1,1,1,1,1,1,1,1]) (ms48.drop 4)) (bodyK Pg r48 fun e S'=>∃(D:Nat→Bool) (r tr:AV),e = .ret r∧Cv (S'.frz D) S'.n r tr∧Keep S (S'.frz D)∧∃(c:Ci) (zl:AV),tr=c.avZ zl∧Own S.n (S'.frz D) zl 66 (c.latches.map fun p=>[aI p.1,aI p.2])∧MadeC c∧c.gr.vars=varsL l))):=by
  intro S' k zo zb zc bads cons r0 hr0 hk fm wo wb wc lb lc hbl hcl
  obtain⟨S3,wk3,fm3,n3⟩:=fm.wk (cs2:=[aI inp,zl,pL g.ands,aL aI outs,aL aI bads,aL aI cons,.nl,.nl]) rfl (fun k' u u2 e1 e2=>by
   match k' with
   |0=>cases e1;cases e2;exact .v _
   |1=>cases e1;cases e2;exact own_cv' (fm.own wA hNe)
   |2=>cases e1;cases e2;exact treeP _ _ _
   |3=>cases e1;cases e2;exact own_cvI wo (wo.fF (Nat.le_refl _))
   |4=>cases e1;cases e2;exact own_cvI wb (wb.fF (Nat.le_refl _))
   |5=>cases e1;cases e2;exact own_cvI wc (wc.fF (Nat.le_refl _))
   |6|7=>cases e1;cases e2;exact .nl'
   |k+8=>simp at e1) (env48_3 (.p (S.n+1) 0 0) (pickF S) (.p (S.n+3) 0 0) (aI (2*g.vars)) (aI r0))
  refine loopw48_3 (fun y2 y4 y5 y11 y15 S'=>y2 = .p (S.n+1) 0 0∧y4=pickF S∧y5 = .p (S.n+3) 0 0∧y11=aI (2*g.vars)∧∃(r k:Nat) (zf:AV) (fair:List Int),y15=aI r∧fair.length+r≤1∧k+r≤26∧Fz S l N A S' k [aI inp,zl,pL g.ands,aL aI outs,aL aI bads,aL aI cons,zf,.nl]∧Own N S' zf 3 (fair.map fun p=>[aI p])∧∀ x∈fair,g.lit x=true)
   (fun _ _ _ _ y _=>((intA y).getD 0).toNat) ⟨_,_,_,_,_,S3,wk3,rfl,rfl,rfl,rfl,r0,k,.nl,[],rfl,by simp;omega,by omega,fm3,Own.nl _ _ _,fun _ h=>by cases h⟩ ?_
  rintro _ _ _ _ _ S1 ⟨rfl,rfl,rfl,rfl,r,k,zf,fair,rfl,hfr,hk,fm,wf,hfl⟩ KE hKE
  unfold b48_3
  rw[bin_gtr,onB_v]
  refine gd_of (fun hgt=>?_) (fun hle=>?_)
  ·have hgt:0<r:=by have:=of_decide_eq_true hgt;omega
   refine⟨_,fun T hT=>by rw[shift_p];exact⟨rfl,rfl⟩,zf,fun T hT=>by rw[ld1_p (fm.kT hT) rfl rfl];exact⟨rfl,rfl⟩,?_⟩
   refine fm.pick hl hvp (by omega) fun S2 fm n2 f2=>?_
   have pn:=plit (pickV_rng hl (k:=k) hvp)
   generalize pickV l k (2*g.vars)=n at *
   have w2:=wf.fz (by omega) n2 f2
   refine⟨fun T hT=>by rw[ld1_p (fm.kT hT) rfl rfl];exact⟨rfl,rfl⟩,fun T hT=>by rw[shift_p];exact⟨rfl,rfl⟩,_,fun T hT=>bsl1 rfl (fun _ h=>by cases h) ⟨rfl,rfl⟩,?_⟩
   refine w2.app (by have:=fm.n;omega) (c:=[aI n]) rfl (by rw[List.length_map];omega) (fun z S4 w4 b4 hz=>?_) rfl
   have n4:=b4.1
   have hn3:=fm.n
   have o4:∀ x,x<N→S4.obj x=S2.obj x:=fun x hx=>b4.2 x (by omega) (fun b m e=>by have:=w2.lt e;omega)
   refine⟨_,fun T hT=>by rw[shift_p];exact⟨rfl,rfl⟩,?_⟩
   replace fm:=fm.old n4 o4
   refine fm.st (by simp) (own_one w4) fun S5 fm n5 f5=>?_
   have w5:=w4.fz (by omega) n5 f5
   rw[bin_sub (by omega) (by omega),show(r:Int) - 1=((r - 1:Nat):Int)by omega]
   refine hKE _ _ _ _ _ _ _ _ _ _ _ _ (Wk.refl _ _) ⟨rfl,rfl,rfl,rfl,r - 1,k+1,z,fair ++ [n],rfl,by rw[List.length_append,List.length_singleton];omega,by omega,fm,by rw[List.map_append];exact w5,fun p hp=>?_⟩ (by simp[intA];omega)
   rcases List.mem_append.1 hp with hp|hp
   ·exact hfl p hp
   ·have:p=n:=by simpa using hp
    subst this
    exact pn
  have hle:r=0:=by have:=of_decide_eq_false hle;omega
  subst hle
  clear hKE KE
  have fin:∀(S1:Store) (k:Nat) (zn:AV) (b1 b2:Bool) (t:ByteArray),Fz S l N A S1 k [aI inp,zl,pL g.ands,aL aI outs,aL aI bads,aL aI cons,zf,zn]→Own N S1 zf 3 (fair.map fun p=>[aI p])→(b2=true→0<outs.length∧(t=⟨#[111,117,116]⟩∨t=⟨#[108,49]⟩∨t=⟨#[97,45,98]⟩))→
      Own N S1 zn 130 (((if b1 then[⟨108,0,⟨#[113]⟩⟩]else[])++(if b2 then[⟨111,outs.length - 1,t⟩]else[]):List Na).map Na.row)→
      ldN 8 (.p (S.n+3) 0 0) S1 fun v S1=>stN 8 (.p (S.n+1) 0 0) v S1 fun _ S2=>ldN 8 (.p (S.n+1) 0 0) S2 fun v _=>∃(D:Nat→Bool) (r tr:AV),AEnd.ret v = .ret r∧Cv (S2.frz D) S2.n r tr∧Keep S (S2.frz D)∧∃(c:Ci) (zl:AV),tr=c.avZ zl∧Own S.n (S2.frz D) zl 66 (c.latches.map fun p=>[aI p.1,aI p.2])∧MadeC c∧c.gr.vars=varsL l:=by
   intro S1 k zn b1 b2 t fm wf ht wn
   rw[ldN_p (n:=8) fm.co rfl]
   refine stA_of fm.ro rfl rfl fun S2 n2 o2 f2=>?_
   rw[ldN_p (n:=8) o2 rfl]
   have wf2:=wf.fz (id:=S.n+1) (by omega) n2 f2
   have wn2:=wn.fz (id:=S.n+1) (by omega) n2 f2
   have hid:∀ x,x<N→(S2.frz (newer N)).obj x=S2.obj x:=fun x hx=>frz_false (by simp[newer];omega)
   refine⟨newer N,_,.a [aI inp,zl,pL g.ands,aL aI outs,aL aI bads,aL aI cons,aL aI fair,nL _],rfl,?_,⟨(fm.keep.st (by omega) n2 f2).1,fun x hx=>(hid x (by omega)).trans ((fm.keep.st (by omega) n2 f2).2 x hx)⟩,⟨inp,lats,g.ands,outs,bads,cons,fair,(if b1 then[⟨108,0,⟨#[113]⟩⟩]else[])++(if b2 then[⟨111,outs.length - 1,t⟩]else[])⟩,zl,rfl,?_,madeC_of pi.1 (by omega) (by omega) (by omega) hg (by rw[hgin,hll]) hga hgok hlat hou hbl hcl hfl (by omega) lb lc (by omega) ht,?_⟩
   rotate_left
   ·have wz:=(fm.own wA hNe).st (id:=S.n+1) (fun b m e=>by have:=wA.lt e;omega) n2 f2
    rcases wz with⟨rfl,e⟩|⟨id,rfl,h1,h2,h3⟩
    ·exact .inl ⟨rfl,e⟩
    ·exact .inr ⟨id,rfl,by omega,h2,(hid _ (by have:=wA.lt rfl;omega)).trans h3⟩
   ·have hgi':g.inputs=inp+lats.length:=by rw[hgin,hll]
    have:(Ci.gr ⟨inp,lats,g.ands,outs,bads,cons,fair,(if b1 then[⟨108,0,⟨#[113]⟩⟩]else[])++(if b2 then[⟨111,outs.length - 1,t⟩]else[])⟩)=g:=by
     show(⟨IntKind.i64.wrap (inp+lats.length),g.ands⟩:Gr)=g
     rw[wrap64 (by omega) (by omega),←hgi']
    rw[this];exact hvars
   refine .a _ _ rfl fun k' u u2 e1 e2=>?_
   match k' with
   |0=>cases e1;cases e2;exact .v _
   |1=>cases e1;cases e2;exact own_cv' ((fm.own wA hNe).st (id:=S.n+1) (fun b m e=>by have:=wA.lt e;omega) n2 f2)
   |2=>cases e1;cases e2;exact treeP _ _ _
   |3=>cases e1;cases e2;exact treeI _ _ _
   |4=>cases e1;cases e2;exact treeI _ _ _
   |5=>cases e1;cases e2;exact treeI _ _ _
   |6=>cases e1;cases e2;exact own_cvI wf2 (wf2.fF (Nat.le_refl _))
   |7=>cases e1;cases e2;exact own_cvN wn2 (wn2.fF (Nat.le_refl _))
   |k+8=>simp at e1
  have snd:∀(S1:Store) (k:Nat) (zn:AV) (b1:Bool),k≤100→Fz S l N A S1 k [aI inp,zl,pL g.ands,aL aI outs,aL aI bads,aL aI cons,zf,zn]→Own N S1 zf 3 (fair.map fun p=>[aI p])→Apart zn zf→
      Own N S1 zn 130 (((if b1 then[⟨108,0,⟨#[113]⟩⟩]else[]):List Na).map Na.row)→0<outs.length→
      (∃ q182:AV,(∀ T:Store,Keep S1 T→shift (.p (S.n+3) 0 0) 7 T fun v S=>v=q182∧S=T)∧∃ q184:AV,(∀ T:Store,Keep S1 T→ld1 q182 T fun v S=>v=q184∧S=T)∧∃ q186:AV,(∀ T:Store,Keep S1 T→shift (.p (S.n+3) 0 0) 3 T fun v S=>v=q186∧S=T)∧
       ∃ q188:AV,(∀ T:Store,Keep S1 T→ld1 q186 T fun v S=>v=q188∧S=T)∧∃ q190:AV,(∀ T:Store,Keep S1 T→lenS q188 T fun v S=>v=q190∧S=T)∧∃ q192:AV,(∀ T:Store,Keep S1 T→bin .sub 0 q190 (.v (.int .i64 1)) T fun v S=>v=q192∧S=T)∧
       ∃ q194:AV,(∀ T:Store,Keep S1 T→bslN 9 1 3 [.v (.string ByteArray.empty)] [(0,(.v (.string { data:=#[111,117,116] }))),(1,(.v (.string { data:=#[108,49] }))),(2,(.v (.string { data:=#[97,45,98] })))] T fun v S=>v=q194∧S=T)∧
       callV Pg (pickF S) [.v (.int .i64 3)] S1 (fun v196 S1=>(∀ T:Store,Keep S1 T→bslN 9 1 3 [.v (.string ByteArray.empty)] [(0,(.v (.string { data:=#[111,117,116] }))),(1,(.v (.string { data:=#[108,49] }))),(2,(.v (.string { data:=#[97,45,98] })))] T fun v S=>v=q194∧S=T)∧
        (∀ T:Store,Keep S1 T→bin .sub 0 q190 (.v (.int .i64 1)) T fun v S=>v=q192∧S=T)∧(∀ T:Store,Keep S1 T→lenS q188 T fun v S=>v=q190∧S=T)∧(∀ T:Store,Keep S1 T→ld1 q186 T fun v S=>v=q188∧S=T)∧(∀ T:Store,Keep S1 T→shift (.p (S.n+3) 0 0) 3 T fun v S=>v=q186∧S=T)∧
        (∀ T:Store,Keep S1 T→ld1 q182 T fun v S=>v=q184∧S=T)∧(∀ T:Store,Keep S1 T→shift (.p (S.n+3) 0 0) 7 T fun v S=>v=q182∧S=T)∧
        ∃ q204:AV,(∀ T:Store,Keep S1 T→ixS 9 1 q194 v196 T fun v S=>v=q204∧S=T)∧∃ q206:AV,(∀ T:Store,Keep S1 T→ld1 q204 T fun v S=>v=q206∧S=T)∧
        ∃ q208:AV,(∀ T:Store,Keep S1 T→bld [(0,1),(1,1),(2,1)] [.v (.int .u8 0),.v (.int .i64 0),.v (.string ByteArray.empty)] [(0,(.v (.int .u8 111))),(1,q192),(2,q206)] T fun v S=>v=q208∧S=T)∧
        ∃ q210:AV,(∀ T:Store,Keep S1 T→bslN 130 3 1 [.v (.int .u8 0),.v (.int .i64 0),.v (.string ByteArray.empty)] [(0,q208)] T fun v S=>v=q210∧S=T)∧appS 130 3 32 q184 q210 S1 fun v212 S1 =>
        ∃ q213:AV,(∀ T:Store,Keep S1 T→shift (.p (S.n+3) 0 0) 7 T fun v S=>v=q213∧S=T)∧stN 1 q213 v212 S1 fun _ S1 =>
        ldN 8 (.p (S.n+3) 0 0) S1 fun v S1=>stN 8 (.p (S.n+1) 0 0) v S1 fun _ S2=>ldN 8 (.p (S.n+1) 0 0) S2 fun v _=>∃(D:Nat→Bool) (r tr:AV),AEnd.ret v = .ret r∧Cv (S2.frz D) S2.n r tr∧Keep S (S2.frz D)∧∃(c:Ci) (zl:AV),tr=c.avZ zl∧Own S.n (S2.frz D) zl 66 (c.latches.map fun p=>[aI p.1,aI p.2])∧MadeC c∧c.gr.vars=varsL l) (fun _ _=>False)):=by
   intro S1 k zn b1 hk fm wf hap wn hol
   have hsub:∀(T:Store) (K:AV→Store→Prop),bin .sub 0 (aI outs.length) (.v (.int .i64 1)) T K=K (aI (outs.length - 1)) T:=fun T K=>bin_sub (by omega) (by omega) 0
   refine⟨_,fun T hT=>by rw[shift_p];exact⟨rfl,rfl⟩,zn,fun T hT=>by rw[ld1_p (fm.kT hT) rfl rfl];exact⟨rfl,rfl⟩,_,fun T hT=>by rw[shift_p];exact⟨rfl,rfl⟩,aL aI outs,fun T hT=>by rw[ld1_p (fm.kT hT) rfl rfl];exact⟨rfl,rfl⟩,aI outs.length,fun T hT=>by rw[lenS_aL];exact⟨rfl,rfl⟩,_,fun T hT=>by rw[hsub];exact⟨rfl,rfl⟩,
    _,fun T hT=>bsl3 rfl rfl rfl ⟨rfl,rfl⟩,?_⟩
   refine fm.pick hl (by decide) (by omega) fun S2 fm n2 f2=>?_
   have p3:=pickV_rng hl (k:=k) (n:=3) (by decide)
   generalize pickV l k 3=x at *
   obtain⟨x,rfl⟩:=Int.eq_ofNat_of_zero_le p3.1
   have wf2:=wf.fz (by omega) n2 f2
   have wn2:=wn.fz (by omega) n2 f2
   refine⟨fun T hT=>bsl3 rfl rfl rfl ⟨rfl,rfl⟩,fun T hT=>by rw[hsub];exact⟨rfl,rfl⟩,fun T hT=>by rw[lenS_aL];exact⟨rfl,rfl⟩,fun T hT=>by rw[ld1_p (fm.kT hT) rfl rfl];exact⟨rfl,rfl⟩,fun T hT=>by rw[shift_p];exact⟨rfl,rfl⟩,fun T hT=>by rw[ld1_p (fm.kT hT) rfl rfl];exact⟨rfl,rfl⟩,fun T hT=>by rw[shift_p];exact⟨rfl,rfl⟩,?_⟩
   obtain⟨t,ht,hx⟩:∃ t:ByteArray,(t=⟨#[111,117,116]⟩∨t=⟨#[108,49]⟩∨t=⟨#[97,45,98]⟩)∧∀(T:Store) (K:AV→Store→Prop),ixS 9 1 (.l [[.v (.string { data:=#[111,117,116] })],[.v (.string { data:=#[108,49] })],[.v (.string { data:=#[97,45,98] })]]) (aI x) T K=K (.q [.v (.string t)] 0) T:=by
    match x,p3 with
    |0,_=>exact⟨_,.inl rfl,fun T K=>ixS_l (i:=0) (by simp) rfl⟩
    |1,_=>exact⟨_,.inr (.inl rfl),fun T K=>ixS_l (i:=1) (by simp) rfl⟩
    |2,_=>exact⟨_,.inr (.inr rfl),fun T K=>ixS_l (i:=2) (by simp) rfl⟩
    |x+3,h=>omega
   refine⟨_,fun T hT=>by rw[hx];exact⟨rfl,rfl⟩,_,fun T hT=>by rw[ld1_q];exact⟨rfl,rfl⟩,_,fun T hT=>by rw[bld_of (cs:=[.v (.int .u8 111),aI (outs.length - 1),.v (.string t)]) rfl];exact⟨rfl,rfl⟩,_,fun T hT=>bslA3 ⟨rfl,rfl⟩,?_⟩
   refine wn2.app (by have:=fm.n;omega) (c:=[.v (.int .u8 111),aI (outs.length - 1),.v (.string t)]) rfl (by cases b1<;>simp) (fun z S4 w4 b4 hz=>?_) rfl
   have n4:=b4.1
   have hn3:=fm.n
   have o4:∀ x,x<N→S4.obj x=S2.obj x:=fun x hx=>b4.2 x (by omega) (fun b m e=>by have:=wn2.lt e;omega)
   refine⟨_,fun T hT=>by rw[shift_p];exact⟨rfl,rfl⟩,?_⟩
   replace fm:=fm.old n4 o4
   have wf4:=wf2.but b4 hap
   refine fm.st (by simp) (own_one w4) fun S5 fm n5 f5=>?_
   refine fin S5 _ z b1 true t fm (wf4.fz (by omega) n5 f5) (fun _=>⟨hol,ht⟩) ?_
   have w5:=w4.fz (by omega) n5 f5
   rw[List.map_append]
   exact w5
  refine fm.pick hl (by decide) (by omega) fun S2 fm n2 f2=>?_
  have wf2:=wf.fz (by omega) n2 f2
  have p3:=pickV_rng hl (k:=k) (n:=3) (by decide)
  generalize pickV l k 3=x3 at *
  rw[bin_gtr,onB_v]
  refine gd_of (fun hx=>?_) (fun hx=>?_)
  ·rw[shift_p,ld1_p fm.co rfl rfl,bld_of (cs:=[.v (.int .u8 108),aI 0,.v (.string ⟨#[113]⟩)]) rfl]
   refine bslA3 ?_
   refine(Own.nl N S2 130).app (by have:=fm.n;omega) (c:=[.v (.int .u8 108),aI 0,.v (.string ⟨#[113]⟩)]) rfl (by simp) (fun z S4 w4 b4 hz=>?_) rfl
   have n4:=b4.1
   have hn3:=fm.n
   have o4:∀ x,x<S2.n→S4.obj x=S2.obj x:=fun x hx=>b4.2 x (by omega) (fun b m e=>by cases e)
   rw[shift_p]
   replace fm:=fm.old n4 fun x hx=>o4 x (by omega)
   have wf4:=wf2.but b4 (fun _ _ _ _ _ e=>by cases e)
   obtain⟨mz,hmz⟩:=hz
   have hap:Apart z zf:=fun i b m b' m' e e'=>by
    rw[hmz]at e;injection e with e
    have:=wf2.lt e';omega
   refine fm.st (by simp) (own_one w4) fun S5 fm n5 f5=>?_
   have w5:Own N S5 z 130 ([⟨108,0,⟨#[113]⟩⟩].map Na.row):=w4.fz (by omega) n5 f5
   have wf5:=wf4.fz (by omega) n5 f5
   rw[shift_p,ld1_p fm.co rfl rfl,lenS_aL,bin_gtr,onB_v]
   refine gd_of (fun ho=>?_) (fun ho=>fin S5 _ z true false ⟨#[]⟩ fm wf5 (fun h=>by cases h) w5)
   have ho:0<outs.length:=by have:=of_decide_eq_true ho;omega
   refine fm.pick hl (by decide) (by omega) fun S6 fm n6 f6=>?_
   have w6:=w5.fz (by omega) n6 f6
   have wf6:=wf5.fz (by omega) n6 f6
   rw[bin_gtr,onB_v]
   refine gd_of (fun _=>?_) (fun _=>fin S6 _ z true false ⟨#[]⟩ fm wf6 (fun h=>by cases h) w6)
   exact snd S6 _ z true (by omega) fm wf6 hap w6 ho
  ·rw[shift_p,ld1_p fm.co rfl rfl,lenS_aL,bin_gtr,onB_v]
   refine gd_of (fun ho=>?_) (fun ho=>fin S2 _ .nl false false ⟨#[]⟩ fm wf2 (fun h=>by cases h) (Own.nl _ _ _))
   have ho:0<outs.length:=by have:=of_decide_eq_true ho;omega
   refine fm.pick hl (by decide) (by omega) fun S6 fm n6 f6=>?_
   have wf6:=wf2.fz (by omega) n6 f6
   rw[bin_gtr,onB_v]
   refine gd_of (fun _=>?_) (fun _=>fin S6 _ .nl false false ⟨#[]⟩ fm wf6 (fun h=>by cases h) (Own.nl _ _ _))
   exact snd S6 _ .nl false (by omega) fm wf6 (fun _ _ _ _ _ e=>by cases e) (Own.nl _ _ _) ho
 have last4:∀(S':Store) (k:Nat) (zo zb zc:AV) (bads cons:List Int),k≤24→Fz S l N A S' k [aI inp,zl,pL g.ands,zo,zb,zc,.nl,.nl]→Own N S' zo 3 (outs.map fun p=>[aI p])→Own N S' zb 3 (bads.map fun p=>[aI p])→Own N S' zc 3 (cons.map fun p=>[aI p])→
     bads.length≤1→cons.length≤1→(∀ x∈bads,g.lit x=true)→(∀ x∈cons,g.lit x=true)→∀ X,
     callV Pg (pickF S) [.v (.int .i64 4)] S' (fun v S'=>bin .quo 0 v (.v (.int .i64 2)) S' fun v S'=>loopV lv48_3 (vc Pg (c48.at_ [1,1,1,1,1,1,1,1,1,1,1,1,1,1,1,0,1,0,0]) (ms48.drop 4)) 156 (env48_3 (.p (S.n+1) 0 0) (pickF S) (.p (S.n+3) 0 0) (aI (2*g.vars)) v) S'
      (blockK 6 (seqK (vc Pg (c48.at_ [1,1,1,1,1,1,1,1,1,1,1,1,1,1,1,1]) (ms48.drop 4)) (bodyK Pg r48 fun e S'=>∃(D:Nat→Bool) (r tr:AV),e = .ret r∧Cv (S'.frz D) S'.n r tr∧Keep S (S'.frz D)∧∃(c:Ci) (zl:AV),tr=c.avZ zl∧Own S.n (S'.frz D) zl 66 (c.latches.map fun p=>[aI p.1,aI p.2])∧MadeC c∧c.gr.vars=varsL l)))) X:=by
  intro S' k zo zb zc bads cons hk fm wo wb wc lb lc hbl hcl X
  refine fm.pick hl (by decide) (by omega) fun S2 fm n2 f2=>?_
  have p4:=pickV_rng hl (k:=k) (n:=4) (by decide)
  generalize pickV l k 4=x4 at *
  have hd:0≤x4.tdiv 2∧x4.tdiv 2≤1:=by rw[Int.tdiv_eq_ediv_of_nonneg p4.1];omega
  rw[bin_quo (by decide) (by omega) (by omega)]
  obtain⟨r0,hr0⟩:=Int.eq_ofNat_of_zero_le hd.1
  rw[hr0]
  exact tail S2 _ zo zb zc bads cons r0 (by omega) (by omega) fm (wo.fz (by omega) n2 f2) (wb.fz (by omega) n2 f2) (wc.fz (by omega) n2 f2) lb lc hbl hcl
 have cons3:∀(S':Store) (k:Nat) (zo zb:AV) (bads:List Int),k≤22→Fz S l N A S' k [aI inp,zl,pL g.ands,zo,zb,.nl,.nl,.nl]→Own N S' zo 3 (outs.map fun p=>[aI p])→Own N S' zb 3 (bads.map fun p=>[aI p])→
     bads.length≤1→(∀ x∈bads,g.lit x=true)→∀ X:AV→Store→Prop,
     callV Pg (pickF S) [.v (.int .i64 3)] S' (fun v S'=>bin .eql 0 v (.v (.int .i64 0)) S' fun v S'=>onB v fun b=>gd b
      (∃ q111:AV,(∀ T:Store,Keep S' T→shift (.p (S.n+3) 0 0) 5 T fun v S=>v=q111∧S=T)∧∃ q113:AV,(∀ T:Store,Keep S' T→ld1 q111 T fun v S=>v=q113∧S=T)∧callV Pg (pickF S) [aI (2*g.vars)] S' (fun v115 S' =>
       (∀ T:Store,Keep S' T→ld1 q111 T fun v S=>v=q113∧S=T)∧(∀ T:Store,Keep S' T→shift (.p (S.n+3) 0 0) 5 T fun v S=>v=q111∧S=T)∧∃ q118:AV,(∀ T:Store,Keep S' T→bslN 3 1 1 [.v (.int .i64 0)] [(0,v115)] T fun v S=>v=q118∧S=T)∧appS 3 1 8 q113 q118 S' fun v120 S' =>
       ∃ q121:AV,(∀ T:Store,Keep S' T→shift (.p (S.n+3) 0 0) 5 T fun v S=>v=q121∧S=T)∧stN 1 q121 v120 S' fun _ S'=>callV Pg (pickF S) [.v (.int .i64 4)] S' (fun v S'=>bin .quo 0 v (.v (.int .i64 2)) S' fun v S'=>loopV lv48_3 (vc Pg (c48.at_ [1,1,1,1,1,1,1,1,1,1,1,1,1,1,1,0,1,0,0]) (ms48.drop 4)) 156 (env48_3 (.p (S.n+1) 0 0) (pickF S) (.p (S.n+3) 0 0) (aI (2*g.vars)) v) S'
      (blockK 6 (seqK (vc Pg (c48.at_ [1,1,1,1,1,1,1,1,1,1,1,1,1,1,1,1]) (ms48.drop 4)) (bodyK Pg r48 fun e S'=>∃(D:Nat→Bool) (r tr:AV),e = .ret r∧Cv (S'.frz D) S'.n r tr∧Keep S (S'.frz D)∧∃(c:Ci) (zl:AV),tr=c.avZ zl∧Own S.n (S'.frz D) zl 66 (c.latches.map fun p=>[aI p.1,aI p.2])∧MadeC c∧c.gr.vars=varsL l)))) X) (fun _ _=>False))
      (callV Pg (pickF S) [.v (.int .i64 4)] S' (fun v S'=>bin .quo 0 v (.v (.int .i64 2)) S' fun v S'=>loopV lv48_3 (vc Pg (c48.at_ [1,1,1,1,1,1,1,1,1,1,1,1,1,1,1,0,1,0,0]) (ms48.drop 4)) 156 (env48_3 (.p (S.n+1) 0 0) (pickF S) (.p (S.n+3) 0 0) (aI (2*g.vars)) v) S'
      (blockK 6 (seqK (vc Pg (c48.at_ [1,1,1,1,1,1,1,1,1,1,1,1,1,1,1,1]) (ms48.drop 4)) (bodyK Pg r48 fun e S'=>∃(D:Nat→Bool) (r tr:AV),e = .ret r∧Cv (S'.frz D) S'.n r tr∧Keep S (S'.frz D)∧∃(c:Ci) (zl:AV),tr=c.avZ zl∧Own S.n (S'.frz D) zl 66 (c.latches.map fun p=>[aI p.1,aI p.2])∧MadeC c∧c.gr.vars=varsL l)))) X)) X:=by
  intro S' k zo zb bads hk fm wo wb lb hbl X
  refine fm.pick hl (by decide) (by omega) fun S2 fm n2 f2=>?_
  have wo2:=wo.fz (by omega) n2 f2
  have wb2:=wb.fz (by omega) n2 f2
  rw[bin_eql,onB_v]
  refine gd_of (fun _=>?_) (fun _=>last4 S2 _ zo zb .nl bads [] (by omega) fm wo2 wb2 (Own.nl _ _ _) lb (by simp) hbl (fun _ h=>by cases h) X)
  refine⟨_,fun T hT=>by rw[shift_p];exact⟨rfl,rfl⟩,.nl,fun T hT=>by rw[ld1_p (fm.kT hT) rfl rfl];exact⟨rfl,rfl⟩,?_⟩
  refine fm.pick hl hvp (by omega) fun S3 fm n3 f3=>?_
  have pn:=plit (pickV_rng hl (k:=k+1) hvp)
  generalize pickV l (k+1) (2*g.vars)=n at *
  have hn1:∀ x∈[n],g.lit x=true:=fun x hx=>by rw[List.mem_singleton.1 hx];exact pn
  have wo3:=wo2.fz (by omega) n3 f3
  have wb3:=wb2.fz (by omega) n3 f3
  refine⟨fun T hT=>by rw[ld1_p (fm.kT hT) rfl rfl];exact⟨rfl,rfl⟩,fun T hT=>by rw[shift_p];exact⟨rfl,rfl⟩,_,fun T hT=>bsl1 rfl (fun _ h=>by cases h) ⟨rfl,rfl⟩,?_⟩
  refine(Own.nl N S3 3).app (by have:=fm.n;omega) (c:=[aI n]) rfl (by simp) (fun z S4 w4 b4 hz=>?_) rfl
  have n4:=b4.1
  have hn3:=fm.n
  have o4:∀ x,x<S3.n→S4.obj x=S3.obj x:=fun x hx=>b4.2 x (by omega) (fun b m e=>by cases e)
  refine⟨_,fun T hT=>by rw[shift_p];exact⟨rfl,rfl⟩,?_⟩
  replace fm:=fm.old n4 fun x hx=>o4 x (by omega)
  have wo4:=wo3.but b4 (fun _ _ _ _ _ e=>by cases e)
  have wb4:=wb3.but b4 (fun _ _ _ _ _ e=>by cases e)
  refine fm.st (by simp) (own_one w4) fun S5 fm n5 f5=>?_
  exact last4 S5 _ zo zb z bads [n] (by omega) fm (wo4.fz (by omega) n5 f5) (wb4.fz (by omega) n5 f5) (w4.fz (by omega) n5 f5) lb (by simp) hbl hn1 X
 refine fm.pick hl (by decide) (by omega) fun S2 fm n2 f2=>?_
 have wo2:=wo.fz (by omega) n2 f2
 rw[bin_eql,onB_v]
 refine gd_of (fun _=>?_) (fun _=>cons3 S2 _ zo .nl [] (by omega) fm wo2 (Own.nl _ _ _) (by simp) (fun _ h=>by cases h) _)
 refine⟨_,fun T hT=>by rw[shift_p];exact⟨rfl,rfl⟩,.nl,fun T hT=>by rw[ld1_p (fm.kT hT) rfl rfl];exact⟨rfl,rfl⟩,?_⟩
 refine fm.pick hl hvp (by omega) fun S3 fm n3 f3=>?_
 have pn:=plit (pickV_rng hl (k:=k+1) hvp)
 generalize pickV l (k+1) (2*g.vars)=n at *
 have hn1:∀ x∈[n],g.lit x=true:=fun x hx=>by rw[List.mem_singleton.1 hx];exact pn
 have wo3:=wo2.fz (by omega) n3 f3
 refine⟨fun T hT=>by rw[ld1_p (fm.kT hT) rfl rfl];exact⟨rfl,rfl⟩,fun T hT=>by rw[shift_p];exact⟨rfl,rfl⟩,_,fun T hT=>bsl1 rfl (fun _ h=>by cases h) ⟨rfl,rfl⟩,?_⟩
 refine(Own.nl N S3 3).app (by have:=fm.n;omega) (c:=[aI n]) rfl (by simp) (fun z S4 w4 b4 hz=>?_) rfl
 have n4:=b4.1
 have hn3:=fm.n
 have o4:∀ x,x<S3.n→S4.obj x=S3.obj x:=fun x hx=>b4.2 x (by omega) (fun b m e=>by cases e)
 refine⟨_,fun T hT=>by rw[shift_p];exact⟨rfl,rfl⟩,?_⟩
 replace fm:=fm.old n4 fun x hx=>o4 x (by omega)
 have wo4:=wo3.but b4 (fun _ _ _ _ _ e=>by cases e)
 refine fm.st (by simp) (own_one w4) fun S5 fm n5 f5=>?_
 exact cons3 S5 _ zo z [n] (by omega) fm (wo4.fz (by omega) n5 f5) (w4.fz (by omega) n5 f5) (by simp) hn1 _
section
set_option maxRecDepth 100000
def c32:Code:=(Tryz.f32.body).getD .skip
def ms32:List (List Nat):=[[]]
def m32(x0 x1:AV)(S:Store)(Q:PoT):Prop:=
 boxN 42 8 x0 S fun c S=>boxN 24 4 x1 S fun d S=>ldN 8 c S fun e S=>ldN 4 d S fun f S=>callF Pg 36 [e,f] S Q fun g S=>extr g 0 S fun h S=>extr g 1 S fun i S=>ldN 8 c S fun k S=>ldN 4 d S fun l S=>callF Pg 28 [k,l] S Q fun m S=>extr m 0 S fun n S=>extr m 1 S fun o S=>ldN 8 c S fun p S=>ldN 4 d S fun q S=>callF Pg 60 [p,q] S Q fun r S=>extr r 0 S fun s S=>extr r 1 S fun t S=>boxN 110 3 (.a [.v (.bool false),.v (.int .i64 0),.v (.int .i64 0)]) S fun u S=>stN 3 u s S fun w S=>ldN 8 c S fun x S=>ldN 4 d S fun y S=>callF Pg 61 [x,y] S Q fun z S=>extr z 0 S fun A S=>extr z 1 S fun B S=>boxN 110 3 (.a [.v (.bool false),.v (.int .i64 0),.v (.int .i64 0)]) S fun C S=>stN 3 C A S fun D S=>callF Pg 29 [h,n] S Q fun E S=>onB E fun b=>gd b (bin .eql 0 i o S fun F S=>onB F fun b=>gd b (ldN 3 u S fun G S=>ldN 3 C S fun H S=>eqS [2,1,1] .eql G H S fun I S=>onB I fun b=>gd b (bin .eql 0 t B S fun J S=>Q (.ret J) S) (Q (.ret (.v (.bool false))) S)) (Q (.ret (.v (.bool false))) S)) (Q (.ret (.v (.bool false))) S)
theorem calls32{x0 x1:AV}{S:Store}{Q:PoT}(h:m32 x0 x1 S Q):ACalls Pg 32 [x0,x1] S Q:=
 calls_of_vc (fn:=Tryz.f32) (c:=c32) (n:=55) Tryz.func32 (by kernel_rfl) (by kernel_rfl) (by kernel_rfl) ms32 (Eq.mpr (by kernel_rfl) h)
def c31:Code:=(Tryz.f31.body).getD .skip
def ms31:List (List Nat):=[[]]
def m31(S:Store)(Q:PoT):Prop:=
 bld [(0,1),(1,1)] [.v (.int .i64 0),.v (.int .i64 0)] [(0,(.v (.int .i64 3)))] S fun c S=>bslN 66 2 1 [.v (.int .i64 0),.v (.int .i64 0)] [(0,c)] S fun d S=>bld [(0,1),(1,1),(2,1),(3,1),(4,1),(5,1),(6,1),(7,1)] [.v (.int .i64 0),.nl,.nl,.nl,.nl,.nl,.nl,.nl] [(1,d)] S fun e S=>boxN 42 8 (.a [.v (.int .i64 0),.nl,.nl,.nl,.nl,.nl,.nl,.nl]) S fun f S=>stN 8 f e S fun g S=>bld [(0,1),(1,1),(2,1),(3,1)] [.v (.int .i64 0),.v (.string ByteArray.empty),.v (.int .i64 0),.nl] [(0,(.v (.int .i64 3))),(2,(.v (.int .i64 2)))] S fun h S=>boxN 24 4 (.a [.v (.int .i64 0),.v (.string ByteArray.empty),.v (.int .i64 0),.nl]) S fun i S=>stN 4 i h S fun k S=>∃ l:AV,(∀ T:Store,Keep S T→ldN 8 f T fun m S=>m=l∧S=T)∧∃ n:AV,(∀ T:Store,Keep S T→ldN 4 i T fun o S=>o=n∧S=T)∧∃ p:AV,(∀ T:Store,Keep S T→callF Pg 33 [.v (.int .i64 12),n] T (fun _ _=>False) fun q S=>q=p∧S=T)∧∃ r:AV,(∀ T:Store,Keep S T→callF Pg 33 [.v (.int .i64 14),p] T (fun _ _=>False) fun s S=>s=r∧S=T)∧∃ t:AV,(∀ T:Store,Keep S T→callF Pg 60 [l,r] T (fun _ _=>False) fun u S=>u=t∧S=T)∧∃ w:AV,(∀ T:Store,Keep S T→extr t 0 T fun x S=>x=w∧S=T)∧∃ y:AV,(∀ T:Store,Keep S T→extr t 1 T fun z S=>z=y∧S=T)∧boxN 110 3 (.a [.v (.bool false),.v (.int .i64 0),.v (.int .i64 0)]) S fun A S=>(∀ T:Store,Keep S T→extr t 1 T fun B S=>B=y∧S=T)∧stN 3 A w S fun C S=>(∀ T:Store,Keep S T→extr t 1 T fun D S=>D=y∧S=T)∧ldN 8 f S fun E S=>ldN 4 i S fun F S=>callF Pg 60 [E,F] S Q fun G S=>extr G 0 S fun H S=>extr G 1 S fun I S=>boxN 110 3 (.a [.v (.bool false),.v (.int .i64 0),.v (.int .i64 0)]) S fun J S=>stN 3 J H S fun K S=>(fun S0:Store=>∃ L:AV,(ldN 8 f S fun M S=>M=L∧S=S0)∧∃ N:AV,(ldN 4 i S fun O S=>O=N∧S=S0)∧∃ P:AV,(callF Pg 33 [.v (.int .i64 9),N] S (fun _ _=>False) fun R S=>R=P∧S=S0)∧∃ U:AV,(callF Pg 36 [L,P] S (fun _ _=>False) fun V S=>V=U∧S=S0)∧∃ W:AV,(extr U 0 S fun X S=>X=W∧S=S0)∧∃ Y:AV,(extr U 1 S fun Z S=>Z=Y∧S=S0)∧ldN 8 f S fun a0 S=>bld [(0,1),(1,1),(2,1),(3,1)] [.v (.int .i64 0),.v (.string ByteArray.empty),.v (.int .i64 0),.nl] [(0,(.v (.int .i64 3))),(2,(.v (.int .i64 4)))] S fun a1 S=>callF Pg 36 [a0,a1] S Q fun a2 S=>extr a2 0 S fun a3 S=>extr a2 1 S fun a4 S=>bin .eql 0 y (.v (.int .i64 0)) S fun a5 S=>onB a5 fun b=>gd b (ldN 3 A S fun a6 S=>bld [(0,1),(1,1),(2,1)] [.v (.bool false),.v (.int .i64 0),.v (.int .i64 0)] [(0,(.v (.bool true))),(1,(.v (.int .i64 1))),(2,(.v (.int .i64 (-1))))] S fun a7 S=>eqS [2,1,1] .eql a6 a7 S fun a8 S=>onB a8 fun b=>gd b (bin .eql 0 I (.v (.int .i64 0)) S fun a9 S=>onB a9 fun b=>gd b (ldN 3 J S fun b0 S=>bld [(0,1),(1,1),(2,1)] [.v (.bool false),.v (.int .i64 0),.v (.int .i64 0)] [(1,(.v (.int .i64 1)))] S fun b1 S=>eqS [2,1,1] .eql b0 b1 S fun b2 S=>onB b2 fun b=>gd b (bin .eql 0 Y (.v (.int .i64 0)) S fun b3 S=>onB b3 fun b=>gd b (bslN 4 1 2 [.v (.bool false)] [(0,(.v (.bool true))),(1,(.v (.bool false)))] S fun b4 S=>callF Pg 29 [W,b4] S Q fun b5 S=>onB b5 fun b=>gd b (bin .eql 0 a4 (.v (.int .i64 1)) S fun b6 S=>Q (.ret b6) S) (Q (.ret (.v (.bool false))) S)) (Q (.ret (.v (.bool false))) S)) (Q (.ret (.v (.bool false))) S)) (Q (.ret (.v (.bool false))) S)) (Q (.ret (.v (.bool false))) S)) (Q (.ret (.v (.bool false))) S)) S
theorem calls31{S:Store}{Q:PoT}(h:m31  S Q):ACalls Pg 31 [] S Q:=
 calls_of_vc (fn:=Tryz.f31) (c:=c31) (n:=71) Tryz.func31 (by kernel_rfl) (by kernel_rfl) (by kernel_rfl) ms31 (Eq.mpr (by kernel_rfl) h)
def c9:Code:=(Tryz.f9.body).getD .skip
def r9:List ResultVar:=Tryz.f9.results.toList
def m9(x0 x1:AV)(S:Store)(Q:PoT):Prop:=
 callF Pg 23 [x0,x1] S Q fun c S=>extr c 0 S fun d S=>extr c 1 S fun e S=>boxN 42 8 (.a [.v (.int .i64 0),.nl,.nl,.nl,.nl,.nl,.nl,.nl]) S fun f S=>boxN 24 4 (.a [.v (.int .i64 0),.v (.string ByteArray.empty),.v (.int .i64 0),.nl]) S fun g S=>stN 8 f d S fun h S=>stN 4 g e S fun i S=>callF Pg 31 [] S Q fun k S=>onB k fun b=>gd b (ldN 8 f S fun l S=>ldN 4 g S fun m S=>callF Pg 32 [l,m] S Q fun n S=>Q (.ret n) S) (Q (.ret (.v (.bool false))) S)
def c42:Code:=(Tryz.f42.body).getD .skip
def r42:List ResultVar:=Tryz.f42.results.toList
def env42_0(y1 y2 y4 y5 y6:AV):List AV:=[y1,y2,y4,y5,y6]
def lv42_0:List Nat:=[1,2,4,5,6]
def ms42:List (List Nat):=[lv42_0,[]]
def m42(x0 x1:AV)(S:Store)(Q:PoT):Prop:=
 boxN 24 4 x0 S fun c S=>boxN 24 4 (.a [.v (.int .i64 0),.v (.string ByteArray.empty),.v (.int .i64 0),.nl]) S fun d S=>shift c 0 S fun e S=>ld1 e S fun f S=>bld [(0,1),(1,1),(2,1),(3,1)] [.v (.int .i64 0),.v (.string ByteArray.empty),.v (.int .i64 0),.nl] [(0,f)] S fun g S=>boxN 24 4 (.a [.v (.int .i64 0),.v (.string ByteArray.empty),.v (.int .i64 0),.nl]) S fun h S=>stN 4 h g S fun i S=>shift c 0 S fun k S=>ld1 k S fun l S=>bin .eql 0 l (.v (.int .i64 3)) S fun m S=>onB m fun b=>gd b (∃ n:AV,(∀ T:Store,Keep S T→shift c 1 T fun o S=>o=n∧S=T)∧∃ p:AV,(∀ T:Store,Keep S T→ld1 n T fun q S=>q=p∧S=T)∧∃ r:AV,(∀ T:Store,Keep S T→lenStr p T fun s S=>s=r∧S=T)∧∃ t:AV,(∀ T:Store,Keep S T→bin .mul 0 r (.v (.int .i64 7)) T fun u S=>u=t∧S=T)∧∃ w:AV,(∀ T:Store,Keep S T→shift c 1 T fun x S=>x=w∧S=T)∧∃ y:AV,(∀ T:Store,Keep S T→ld1 w T fun z S=>z=y∧S=T)∧∃ A:AV,(∀ T:Store,Keep S T→ixStr y (.v (.int .i64 0)) T fun B S=>B=A∧S=T)∧∃ C:AV,(∀ T:Store,Keep S T→convI .i64 A T fun D S=>D=C∧S=T)∧∃ E:AV,(∀ T:Store,Keep S T→bin .add 0 t C T fun F S=>F=E∧S=T)∧∃ G:AV,(∀ T:Store,Keep S T→mxI true x1 (.v (.int .i64 1)) T fun H S=>H=G∧S=T)∧∃ I:AV,(∀ T:Store,Keep S T→bin .rem 0 E G T fun J S=>J=I∧S=T)∧∃ K:AV,(∀ T:Store,Keep S T→shift h 2 T fun L S=>L=K∧S=T)∧stN 1 K I S fun M S=>loopV lv42_0 (vc Pg (c42.at_ [1,1,1,0,1,0,0]) (ms42.drop 1)) 46 (env42_0 x1 c d h (.v (.int .i64 0))) S (blockK 0 (seqK (vc Pg (c42.at_ [1,1,1,1]) (ms42.drop 1)) (bodyK Pg r42 Q)))) (loopV lv42_0 (vc Pg (c42.at_ [1,1,1,0,1,0,0]) (ms42.drop 1)) 46 (env42_0 x1 c d h (.v (.int .i64 0))) S (blockK 0 (seqK (vc Pg (c42.at_ [1,1,1,1]) (ms42.drop 1)) (bodyK Pg r42 Q))))
theorem calls42{x0 x1:AV}{S:Store}{Q:PoT}(h:m42 x0 x1 S Q):ACalls Pg 42 [x0,x1] S Q:=
 calls_of_vc (fn:=Tryz.f42) (c:=c42) (n:=46) Tryz.func42 (by kernel_rfl) (by kernel_rfl) (by kernel_rfl) ms42 (Eq.mpr (by kernel_rfl) h)
def b42_0(y1 y2 y4 y5 y6:AV)(S:Store)(KE0:KeT)(Q:PoT):Prop:=
 shift y2 3 S fun a S=>ld1 a S fun c S=>lenS c S fun d S=>bin .lss 0 y6 d S fun e S=>onB e fun b=>gd b (∃ f:AV,(∀ T:Store,Keep S T→shift y5 3 T fun g S=>g=f∧S=T)∧∃ h:AV,(∀ T:Store,Keep S T→ld1 f T fun i S=>i=h∧S=T)∧∃ k:AV,(∀ T:Store,Keep S T→shift y2 3 T fun l S=>l=k∧S=T)∧∃ m:AV,(∀ T:Store,Keep S T→ld1 k T fun n S=>n=m∧S=T)∧∃ o:AV,(∀ T:Store,Keep S T→ixS 24 4 m y6 T fun p S=>p=o∧S=T)∧∃ q:AV,(∀ T:Store,Keep S T→ldN 4 o T fun r S=>r=q∧S=T)∧∃ s:AV,(∀ T:Store,Keep S T→callF Pg 42 [q,y1] T (fun _ _=>False) fun t S=>t=s∧S=T)∧∃ u:AV,(∀ T:Store,Keep S T→bslN 24 4 1 [.v (.int .i64 0),.v (.string ByteArray.empty),.v (.int .i64 0),.nl] [(0,s)] T fun w S=>w=u∧S=T)∧appS 24 4 56 h u S fun x S=>∃ y:AV,(∀ T:Store,Keep S T→shift y5 3 T fun z S=>z=y∧S=T)∧stN 1 y x S fun A S=>bin .add 0 y6 (.v (.int .i64 1)) S fun B S=>KE0 46 (env42_0 y1 y2 y4 y5 B) S) (ldN 4 y5 S fun C S=>stN 4 y4 C S fun D S=>ldN 4 y4 S fun E _=>Q (.ret E) S)
theorem b42_0_eq(y1 y2 y4 y5 y6:AV)(S:Store)(KE0:KeT)(Q:PoT):vc Pg (c42.at_ [1,1,1,0,1,0,0]) (ms42.drop 1) (mkE 46 lv42_0 (env42_0 y1 y2 y4 y5 y6)) S (thenK (fgK lv42_0 KE0) (blockK 0 (seqK (vc Pg (c42.at_ [1,1,1,1]) (ms42.drop 1)) (bodyK Pg r42 Q))))=b42_0 y1 y2 y4 y5 y6 S KE0 Q:=by kernel_rfl
theorem loop42_0{y1 y2 y4 y5:AV}{y60:AV}{S:Store}{Q:PoT}(I:AV→Store→Prop)(μ:AV→Store→Nat)(h0:I y60 S)
    (hr:∀(y6:AV) (S:Store),I y6 S→∀ KE0:KeT,(∀(y6':AV) (S':Store),I y6' S'→μ y6' S'<μ y6 S→KE0 46 (env42_0 y1 y2 y4 y5 y6') S')→b42_0 y1 y2 y4 y5 y6 S KE0 Q):
    loopV lv42_0 (vc Pg (c42.at_ [1,1,1,0,1,0,0]) (ms42.drop 1)) 46 (env42_0 y1 y2 y4 y5 y60) S (blockK 0 (seqK (vc Pg (c42.at_ [1,1,1,1]) (ms42.drop 1)) (bodyK Pg r42 Q))):=by
 refine⟨fun n e S=>n=46∧∃ y6:AV,e=(env42_0 y1 y2 y4 y5 y6)∧I y6 S,fun _ e S=>μ (e.getD 4 .j) S,?_,?_⟩
 ·exact⟨_,_,Wk.refl _ _,rfl,_,rfl,h0⟩
 ·rintro _ e S ⟨rfl,y6,rfl,hI⟩
  exact(b42_0_eq _ _ _ _ _ _ _ _).mpr (hr y6 S hI _ (fun y6' S' hI' hm=>⟨_,_,Wk.refl _ _,⟨rfl,_,rfl,hI'⟩,hm⟩))
def c28:Code:=(Tryz.f28.body).getD .skip
def ms28:List (List Nat):=[[]]
def m28(x0 x1:AV)(S:Store)(Q:PoT):Prop:=
 boxN 42 8 x0 S fun c S=>boxN 24 4 x1 S fun d S=>ldN 8 c S fun e S=>ldN 4 d S fun f S=>callF Pg 55 [e,f] S Q fun g S=>un .not g S fun h S=>onB h fun b=>gd b (Q (.ret (.t [.nl,.v (.int .i64 1)])) S) (ldN 8 c S fun i S=>callF Pg 35 [i] S Q fun k S=>extr k 0 S fun l S=>extr k 1 S fun m S=>boxN 71 5 (.a [.v (.int .i64 0),.nl,.nl,.nl,.nl]) S fun n S=>stN 5 n l S fun o S=>bin .neq 0 m (.v (.int .i64 0)) S fun p S=>onB p fun b=>gd b (Q (.ret (.t [.nl,m])) S) (∃ q:AV,(∀ T:Store,Keep S T→ldN 8 c T fun r S=>r=q∧S=T)∧∃ s:AV,(∀ T:Store,Keep S T→ldN 5 n T fun u S=>u=s∧S=T)∧∃ w:AV,(∀ T:Store,Keep S T→ldN 5 n T fun x S=>x=w∧S=T)∧∃ y:AV,(∀ T:Store,Keep S T→shift n 1 T fun z S=>z=y∧S=T)∧∃ A:AV,(∀ T:Store,Keep S T→ld1 y T fun B S=>B=A∧S=T)∧∃ C:AV,(∀ T:Store,Keep S T→callF Pg 56 [w,A] T (fun _ _=>False) fun D S=>D=C∧S=T)∧∃ E:AV,(∀ T:Store,Keep S T→bld [(0,8),(8,5),(13,1)] [.v (.int .i64 0),.nl,.nl,.nl,.nl,.nl,.nl,.nl,.v (.int .i64 0),.nl,.nl,.nl,.nl,.nl] [(0,q),(1,s),(2,C)] T fun F S=>F=E∧S=T)∧boxN 105 14 E S fun G S=>ldN 4 d S fun H S=>callF Pg 57 [G,H] S Q fun I S=>Q (.ret (.t [I,.v (.int .i64 0)])) S))
theorem calls28{x0 x1:AV}{S:Store}{Q:PoT}(h:m28 x0 x1 S Q):ACalls Pg 28 [x0,x1] S Q:=
 calls_of_vc (fn:=Tryz.f28) (c:=c28) (n:=32) Tryz.func28 (by kernel_rfl) (by kernel_rfl) (by kernel_rfl) ms28 (Eq.mpr (by kernel_rfl) h)
def c61:Code:=(Tryz.f61.body).getD .skip
def r61:List ResultVar:=Tryz.f61.results.toList
def env61_0(y4 y6 y8 y10 y11:AV):List AV:=[y4,y6,y8,y10,y11]
def lv61_0:List Nat:=[4,6,8,10,11]
def ms61:List (List Nat):=[lv61_0,[]]
def m61(x0 x1:AV)(S:Store)(Q:PoT):Prop:=
 boxN 42 8 x0 S fun c S=>boxN 24 4 x1 S fun d S=>boxN 110 3 (.a [.v (.bool false),.v (.int .i64 0),.v (.int .i64 0)]) S fun e S=>ldN 8 c S fun f S=>ldN 4 d S fun g S=>callF Pg 28 [f,g] S Q fun h S=>extr h 0 S fun i S=>extr h 1 S fun k S=>bin .neq 0 k (.v (.int .i64 0)) S fun l S=>onB l fun b=>gd b (bld [(0,1),(1,1),(2,1)] [.v (.bool false),.v (.int .i64 0),.v (.int .i64 0)] [] S fun m S=>stN 3 e m S fun n S=>ldN 3 e S fun o _=>Q (.ret (.t [o,k])) S) (ldN 8 c S fun p S=>callF Pg 35 [p] S Q fun q S=>extr q 0 S fun r S=>extr q 1 S fun s S=>boxN 71 5 (.a [.v (.int .i64 0),.nl,.nl,.nl,.nl]) S fun u S=>stN 5 u r S fun w S=>bld [(0,1),(1,1),(2,1)] [.v (.bool false),.v (.int .i64 0),.v (.int .i64 0)] [(0,(.v (.bool true))),(2,(.v (.int .i64 (-1))))] S fun x S=>boxN 110 3 (.a [.v (.bool false),.v (.int .i64 0),.v (.int .i64 0)]) S fun y S=>stN 3 y x S fun z S=>loopV lv61_0 (vc Pg (c61.at_ [1,1,1,1,1,0,1,0,0]) (ms61.drop 1)) 57 (env61_0 e i u y (.v (.int .i64 0))) S (blockK 0 (seqK (vc Pg (c61.at_ [1,1,1,1,1,1]) (ms61.drop 1)) (bodyK Pg r61 Q))))
theorem calls61{x0 x1:AV}{S:Store}{Q:PoT}(h:m61 x0 x1 S Q):ACalls Pg 61 [x0,x1] S Q:=
 calls_of_vc (fn:=Tryz.f61) (c:=c61) (n:=57) Tryz.func61 (by kernel_rfl) (by kernel_rfl) (by kernel_rfl) ms61 (Eq.mpr (by kernel_rfl) h)
def b61_0(y4 y6 y8 y10 y11:AV)(S:Store)(KE0:KeT)(Q:PoT):Prop:=
 lenS y6 S fun a S=>bin .lss 0 y11 a S fun c S=>onB c fun b=>gd b (shift y8 2 S fun d S=>ld1 d S fun e S=>ixS 4 1 e y11 S fun f S=>ld1 f S fun g S=>un .not g S fun h S=>onB h fun b=>gd b (bin .add 0 y11 (.v (.int .i64 1)) S fun i S=>KE0 57 (env61_0 y4 y6 y8 y10 i) S) (shift y10 1 S fun k S=>ld1 k S fun l S=>bin .add 0 l (.v (.int .i64 1)) S fun m S=>shift y10 1 S fun n S=>stN 1 n m S fun o S=>ixS 4 1 y6 y11 S fun p S=>ld1 p S fun q S=>un .not q S fun r S=>onB r fun b=>gd b (shift y10 0 S fun s S=>ld1 s S fun u S=>onB u fun b=>gd b (shift y10 0 S fun w S=>stN 1 w (.v (.bool false)) S fun x S=>shift y10 2 S fun y S=>stN 1 y y11 S fun z S=>bin .add 0 y11 (.v (.int .i64 1)) S fun A S=>KE0 57 (env61_0 y4 y6 y8 y10 A) S) (bin .add 0 y11 (.v (.int .i64 1)) S fun B S=>KE0 57 (env61_0 y4 y6 y8 y10 B) S)) (bin .add 0 y11 (.v (.int .i64 1)) S fun C S=>KE0 57 (env61_0 y4 y6 y8 y10 C) S))) (ldN 3 y10 S fun D S=>stN 3 y4 D S fun E S=>ldN 3 y4 S fun F _=>Q (.ret (.t [F,.v (.int .i64 0)])) S)
theorem b61_0_eq(y4 y6 y8 y10 y11:AV)(S:Store)(KE0:KeT)(Q:PoT):vc Pg (c61.at_ [1,1,1,1,1,0,1,0,0]) (ms61.drop 1) (mkE 57 lv61_0 (env61_0 y4 y6 y8 y10 y11)) S (thenK (fgK lv61_0 KE0) (blockK 0 (seqK (vc Pg (c61.at_ [1,1,1,1,1,1]) (ms61.drop 1)) (bodyK Pg r61 Q))))=b61_0 y4 y6 y8 y10 y11 S KE0 Q:=by kernel_rfl
theorem loop61_0{y4 y6 y8 y10:AV}{y110:AV}{S:Store}{Q:PoT}(I:AV→Store→Prop)(μ:AV→Store→Nat)(h0:I y110 S)
    (hr:∀(y11:AV) (S:Store),I y11 S→∀ KE0:KeT,(∀(y11':AV) (S':Store),I y11' S'→μ y11' S'<μ y11 S→KE0 57 (env61_0 y4 y6 y8 y10 y11') S')→b61_0 y4 y6 y8 y10 y11 S KE0 Q):
    loopV lv61_0 (vc Pg (c61.at_ [1,1,1,1,1,0,1,0,0]) (ms61.drop 1)) 57 (env61_0 y4 y6 y8 y10 y110) S (blockK 0 (seqK (vc Pg (c61.at_ [1,1,1,1,1,1]) (ms61.drop 1)) (bodyK Pg r61 Q))):=by
 refine⟨fun n e S=>n=57∧∃ y11:AV,e=(env61_0 y4 y6 y8 y10 y11)∧I y11 S,fun _ e S=>μ (e.getD 4 .j) S,?_,?_⟩
 ·exact⟨_,_,Wk.refl _ _,rfl,_,rfl,h0⟩
 ·rintro _ e S ⟨rfl,y11,rfl,hI⟩
  exact(b61_0_eq _ _ _ _ _ _ _ _).mpr (hr y11 S hI _ (fun y11' S' hI' hm=>⟨_,_,Wk.refl _ _,⟨rfl,_,rfl,hI'⟩,hm⟩))
def c57:Code:=(Tryz.f57.body).getD .skip
def r57:List ResultVar:=Tryz.f57.results.toList
def env57_0(y0 y3 y7 y8:AV):List AV:=[y0,y3,y7,y8]
def lv57_0:List Nat:=[0,3,7,8]
def ms57:List (List Nat):=[lv57_0,[]]
def m57(x0 x1:AV)(S:Store)(Q:PoT):Prop:=
 boxN 24 4 x1 S fun a S=>shift a 3 S fun c S=>ld1 c S fun d S=>lenS d S fun e S=>bin .gtr 0 e (.v (.int .i64 0)) S fun f S=>onB f fun b=>gd b (shift a 3 S fun g S=>ld1 g S fun h S=>ixS 24 4 h (.v (.int .i64 0)) S fun i S=>ldN 4 i S fun k S=>callF Pg 57 [x0,k] S Q fun l S=>shift a 3 S fun m S=>ld1 m S fun n S=>lenS n S fun o S=>bin .gtr 0 o (.v (.int .i64 1)) S fun p S=>onB p fun b=>gd b (shift a 3 S fun q S=>ld1 q S fun r S=>ixS 24 4 r (.v (.int .i64 1)) S fun s S=>ldN 4 s S fun t S=>callF Pg 57 [x0,t] S Q fun u S=>shift a 0 S fun w S=>ld1 w S fun x S=>bin .eql 0 x (.v (.int .i64 2)) S fun y S=>onB y fun b=>gd b (nilChk x0 S fun z S=>shift z 8 S fun A S=>shift A 1 S fun B S=>ld1 B S fun C S=>Q (.ret C) S) (bin .eql 0 x (.v (.int .i64 1)) S fun D S=>onB D fun b=>gd b (nilChk x0 S fun E S=>shift E 8 S fun F S=>shift F 1 S fun G S=>ld1 G S fun H S=>callF Pg 106 [x0,H] S Q fun I S=>Q (.ret I) S) (bin .eql 0 x (.v (.int .i64 4)) S fun J S=>onB J fun b=>gd b (callF Pg 106 [x0,l] S Q fun K S=>Q (.ret K) S) (bin .eql 0 x (.v (.int .i64 5)) S fun L S=>onB L fun b=>gd b (callF Pg 39 [l,u] S Q fun M S=>Q (.ret M) S) (bin .eql 0 x (.v (.int .i64 6)) S fun N S=>onB N fun b=>gd b (callF Pg 107 [l,u] S Q fun O S=>Q (.ret O) S) (bin .eql 0 x (.v (.int .i64 7)) S fun P S=>onB P fun b=>gd b (callF Pg 106 [x0,l] S Q fun R S=>callF Pg 107 [R,u] S Q fun T S=>Q (.ret T) S) (bin .eql 0 x (.v (.int .i64 8)) S fun U S=>onB U fun b=>gd b (callF Pg 39 [l,u] S Q fun V S=>callF Pg 107 [l,u] S Q fun W S=>callF Pg 106 [x0,W] S Q fun X S=>callF Pg 107 [V,X] S Q fun Y S=>Q (.ret Y) S) (bin .eql 0 x (.v (.int .i64 9)) S fun Z S=>onB Z fun b=>gd b (callF Pg 108 [x0,l] S Q fun a0 S=>Q (.ret a0) S) (bin .eql 0 x (.v (.int .i64 10)) S fun a1 S=>onB a1 fun b=>gd b (callF Pg 106 [x0,l] S Q fun a2 S=>callF Pg 108 [x0,a2] S Q fun a3 S=>callF Pg 106 [x0,a3] S Q fun a4 S=>Q (.ret a4) S) (bin .eql 0 x (.v (.int .i64 11)) S fun a5 S=>onB a5 fun b=>gd b (nilChk x0 S fun a6 S=>shift a6 8 S fun a7 S=>shift a7 1 S fun a8 S=>ld1 a8 S fun a9 S=>callF Pg 109 [x0,a9,l] S Q fun b0 S=>Q (.ret b0) S) (bin .eql 0 x (.v (.int .i64 12)) S fun b1 S=>onB b1 fun b=>gd b (callF Pg 106 [x0,l] S Q fun b2 S=>callF Pg 110 [x0,b2] S Q fun b3 S=>callF Pg 106 [x0,b3] S Q fun b4 S=>Q (.ret b4) S) (bin .eql 0 x (.v (.int .i64 13)) S fun b5 S=>onB b5 fun b=>gd b (callF Pg 110 [x0,l] S Q fun b7 S=>Q (.ret b7) S) (bin .eql 0 x (.v (.int .i64 14)) S fun b8 S=>onB b8 fun b=>gd b ((fun S0:Store=>∃ b9:AV,(nilChk x0 S fun c0 S=>c0=b9∧S=S0)∧∃ c1:AV,(shift b9 8 S fun c2 S=>c2=c1∧S=S0)∧∃ c3:AV,(shift c1 1 S fun c4 S=>c4=c3∧S=S0)∧∃ c5:AV,(ld1 c3 S fun c6 S=>c6=c5∧S=S0)∧∃ c7:AV,(callF Pg 106 [x0,l] S (fun _ _=>False) fun c8 S=>c8=c7∧S=S0)∧∃ c9:AV,(callF Pg 109 [x0,c5,c7] S (fun _ _=>False) fun d0 S=>d0=c9∧S=S0)∧∃ d1:AV,(callF Pg 106 [x0,c9] S (fun _ _=>False) fun d2 S=>d2=d1∧S=S0)∧Q (.ret d1) S) S) (bin .eql 0 x (.v (.int .i64 15)) S fun d3 S=>onB d3 fun b=>gd b (callF Pg 109 [x0,l,u] S Q fun d4 S=>Q (.ret d4) S) (bin .eql 0 x (.v (.int .i64 16)) S fun d5 S=>onB d5 fun b=>gd b (callF Pg 106 [x0,u] S Q fun d6 S=>callF Pg 107 [l,u] S Q fun d7 S=>callF Pg 106 [x0,d7] S Q fun d8 S=>callF Pg 109 [x0,d6,d8] S Q fun d9 S=>callF Pg 106 [x0,u] S Q fun e0 S=>callF Pg 110 [x0,e0] S Q fun e1 S=>callF Pg 107 [d9,e1] S Q fun e2 S=>callF Pg 106 [x0,e2] S Q fun e3 S=>Q (.ret e3) S) (bin .eql 0 x (.v (.int .i64 17)) S fun e4 S=>onB e4 fun b=>gd b (callF Pg 110 [x0,u] S Q fun e5 S=>callF Pg 39 [l,u] S Q fun e6 S=>callF Pg 109 [x0,u,e6] S Q fun e7 S=>callF Pg 107 [e5,e7] S Q fun e8 S=>Q (.ret e8) S) (bin .eql 0 x (.v (.int .i64 18)) S fun e9 S=>onB e9 fun b=>gd b (callF Pg 106 [x0,l] S Q fun f0 S=>callF Pg 106 [x0,u] S Q fun f1 S=>callF Pg 109 [x0,f0,f1] S Q fun f2 S=>callF Pg 106 [x0,f2] S Q fun f3 S=>Q (.ret f3) S) (loopV lv57_0 (vc Pg (c57.at_ [1,1,1,1,1,1,0,1,0,0]) (ms57.drop 1)) 214 (env57_0 x0 a .nl (.v (.int .i64 0))) S (blockK 1 (seqK (vc Pg (c57.at_ [1,1,1,1,1,1,1]) (ms57.drop 1)) (bodyK Pg r57 Q))))))))))))))))))))) (shift a 0 S fun f4 S=>ld1 f4 S fun f5 S=>bin .eql 0 f5 (.v (.int .i64 2)) S fun f6 S=>onB f6 fun b=>gd b (nilChk x0 S fun f7 S=>shift f7 8 S fun f8 S=>shift f8 1 S fun f9 S=>ld1 f9 S fun g0 S=>Q (.ret g0) S) (bin .eql 0 f5 (.v (.int .i64 1)) S fun g1 S=>onB g1 fun b=>gd b (nilChk x0 S fun g2 S=>shift g2 8 S fun g3 S=>shift g3 1 S fun g4 S=>ld1 g4 S fun g5 S=>callF Pg 106 [x0,g5] S Q fun g6 S=>Q (.ret g6) S) (bin .eql 0 f5 (.v (.int .i64 4)) S fun g7 S=>onB g7 fun b=>gd b (callF Pg 106 [x0,l] S Q fun g8 S=>Q (.ret g8) S) (bin .eql 0 f5 (.v (.int .i64 5)) S fun g9 S=>onB g9 fun b=>gd b (callF Pg 39 [l,.nl] S Q fun h0 S=>Q (.ret h0) S) (bin .eql 0 f5 (.v (.int .i64 6)) S fun h1 S=>onB h1 fun b=>gd b (callF Pg 107 [l,.nl] S Q fun h2 S=>Q (.ret h2) S) (bin .eql 0 f5 (.v (.int .i64 7)) S fun h3 S=>onB h3 fun b=>gd b (callF Pg 106 [x0,l] S Q fun h4 S=>callF Pg 107 [h4,.nl] S Q fun h5 S=>Q (.ret h5) S) (bin .eql 0 f5 (.v (.int .i64 8)) S fun h6 S=>onB h6 fun b=>gd b (callF Pg 39 [l,.nl] S Q fun h7 S=>callF Pg 107 [l,.nl] S Q fun h8 S=>callF Pg 106 [x0,h8] S Q fun h9 S=>callF Pg 107 [h7,h9] S Q fun i0 S=>Q (.ret i0) S) (bin .eql 0 f5 (.v (.int .i64 9)) S fun i1 S=>onB i1 fun b=>gd b (callF Pg 108 [x0,l] S Q fun i2 S=>Q (.ret i2) S) (bin .eql 0 f5 (.v (.int .i64 10)) S fun i3 S=>onB i3 fun b=>gd b (callF Pg 106 [x0,l] S Q fun i4 S=>callF Pg 108 [x0,i4] S Q fun i5 S=>callF Pg 106 [x0,i5] S Q fun i6 S=>Q (.ret i6) S) (bin .eql 0 f5 (.v (.int .i64 11)) S fun i7 S=>onB i7 fun b=>gd b (nilChk x0 S fun i8 S=>shift i8 8 S fun i9 S=>shift i9 1 S fun k0 S=>ld1 k0 S fun k1 S=>callF Pg 109 [x0,k1,l] S Q fun k2 S=>Q (.ret k2) S) (bin .eql 0 f5 (.v (.int .i64 12)) S fun k3 S=>onB k3 fun b=>gd b (callF Pg 106 [x0,l] S Q fun k4 S=>callF Pg 110 [x0,k4] S Q fun k5 S=>callF Pg 106 [x0,k5] S Q fun k6 S=>Q (.ret k6) S) (bin .eql 0 f5 (.v (.int .i64 13)) S fun k7 S=>onB k7 fun b=>gd b (callF Pg 110 [x0,l] S Q fun k8 S=>Q (.ret k8) S) (bin .eql 0 f5 (.v (.int .i64 14)) S fun k9 S=>onB k9 fun b=>gd b ((fun S0:Store=>∃ l0:AV,(nilChk x0 S fun l1 S=>l1=l0∧S=S0)∧∃ l2:AV,(shift l0 8 S fun l3 S=>l3=l2∧S=S0)∧∃ l4:AV,(shift l2 1 S fun l5 S=>l5=l4∧S=S0)∧∃ l6:AV,(ld1 l4 S fun l7 S=>l7=l6∧S=S0)∧∃ l8:AV,(callF Pg 106 [x0,l] S (fun _ _=>False) fun l9 S=>l9=l8∧S=S0)∧∃ aA:AV,(callF Pg 109 [x0,l6,l8] S (fun _ _=>False) fun aB S=>aB=aA∧S=S0)∧∃ aC:AV,(callF Pg 106 [x0,aA] S (fun _ _=>False) fun aD S=>aD=aC∧S=S0)∧Q (.ret aC) S) S) (bin .eql 0 f5 (.v (.int .i64 15)) S fun aE S=>onB aE fun b=>gd b (callF Pg 109 [x0,l,.nl] S Q fun aF S=>Q (.ret aF) S) (bin .eql 0 f5 (.v (.int .i64 16)) S fun aG S=>onB aG fun b=>gd b (callF Pg 106 [x0,.nl] S Q fun aH S=>callF Pg 107 [l,.nl] S Q fun aI S=>callF Pg 106 [x0,aI] S Q fun aJ S=>callF Pg 109 [x0,aH,aJ] S Q fun aK S=>callF Pg 106 [x0,.nl] S Q fun aL S=>callF Pg 110 [x0,aL] S Q fun aM S=>callF Pg 107 [aK,aM] S Q fun aN S=>callF Pg 106 [x0,aN] S Q fun aO S=>Q (.ret aO) S) (bin .eql 0 f5 (.v (.int .i64 17)) S fun aP S=>onB aP fun b=>gd b (callF Pg 110 [x0,.nl] S Q fun aQ S=>callF Pg 39 [l,.nl] S Q fun aR S=>callF Pg 109 [x0,.nl,aR] S Q fun aS S=>callF Pg 107 [aQ,aS] S Q fun aT S=>Q (.ret aT) S) (bin .eql 0 f5 (.v (.int .i64 18)) S fun aU S=>onB aU fun b=>gd b (callF Pg 106 [x0,l] S Q fun aV S=>callF Pg 106 [x0,.nl] S Q fun aW S=>callF Pg 109 [x0,aV,aW] S Q fun aX S=>callF Pg 106 [x0,aX] S Q fun aY S=>Q (.ret aY) S) (loopV lv57_0 (vc Pg (c57.at_ [1,1,1,1,1,1,0,1,0,0]) (ms57.drop 1)) 214 (env57_0 x0 a .nl (.v (.int .i64 0))) S (blockK 1 (seqK (vc Pg (c57.at_ [1,1,1,1,1,1,1]) (ms57.drop 1)) (bodyK Pg r57 Q)))))))))))))))))))))) (shift a 3 S fun aZ S=>ld1 aZ S fun bA S=>lenS bA S fun bB S=>bin .gtr 0 bB (.v (.int .i64 1)) S fun bC S=>onB bC fun b=>gd b (shift a 3 S fun bD S=>ld1 bD S fun bE S=>ixS 24 4 bE (.v (.int .i64 1)) S fun bF S=>ldN 4 bF S fun bG S=>callF Pg 57 [x0,bG] S Q fun bH S=>shift a 0 S fun bI S=>ld1 bI S fun bJ S=>bin .eql 0 bJ (.v (.int .i64 2)) S fun bK S=>onB bK fun b=>gd b (nilChk x0 S fun bL S=>shift bL 8 S fun bM S=>shift bM 1 S fun bN S=>ld1 bN S fun bO S=>Q (.ret bO) S) (bin .eql 0 bJ (.v (.int .i64 1)) S fun bP S=>onB bP fun b=>gd b (nilChk x0 S fun bQ S=>shift bQ 8 S fun bR S=>shift bR 1 S fun bS S=>ld1 bS S fun bT S=>callF Pg 106 [x0,bT] S Q fun bU S=>Q (.ret bU) S) (bin .eql 0 bJ (.v (.int .i64 4)) S fun bV S=>onB bV fun b=>gd b (callF Pg 106 [x0,.nl] S Q fun bW S=>Q (.ret bW) S) (bin .eql 0 bJ (.v (.int .i64 5)) S fun bX S=>onB bX fun b=>gd b (callF Pg 39 [.nl,bH] S Q fun bY S=>Q (.ret bY) S) (bin .eql 0 bJ (.v (.int .i64 6)) S fun bZ S=>onB bZ fun b=>gd b (callF Pg 107 [.nl,bH] S Q fun cA S=>Q (.ret cA) S) (bin .eql 0 bJ (.v (.int .i64 7)) S fun cB S=>onB cB fun b=>gd b (callF Pg 106 [x0,.nl] S Q fun cC S=>callF Pg 107 [cC,bH] S Q fun cD S=>Q (.ret cD) S) (bin .eql 0 bJ (.v (.int .i64 8)) S fun cE S=>onB cE fun b=>gd b (callF Pg 39 [.nl,bH] S Q fun cF S=>callF Pg 107 [.nl,bH] S Q fun cG S=>callF Pg 106 [x0,cG] S Q fun cH S=>callF Pg 107 [cF,cH] S Q fun cI S=>Q (.ret cI) S) (bin .eql 0 bJ (.v (.int .i64 9)) S fun cJ S=>onB cJ fun b=>gd b (callF Pg 108 [x0,.nl] S Q fun cK S=>Q (.ret cK) S) (bin .eql 0 bJ (.v (.int .i64 10)) S fun cL S=>onB cL fun b=>gd b (callF Pg 106 [x0,.nl] S Q fun cM S=>callF Pg 108 [x0,cM] S Q fun cN S=>callF Pg 106 [x0,cN] S Q fun cO S=>Q (.ret cO) S) (bin .eql 0 bJ (.v (.int .i64 11)) S fun cP S=>onB cP fun b=>gd b (nilChk x0 S fun cQ S=>shift cQ 8 S fun cR S=>shift cR 1 S fun cS S=>ld1 cS S fun cT S=>callF Pg 109 [x0,cT,.nl] S Q fun cU S=>Q (.ret cU) S) (bin .eql 0 bJ (.v (.int .i64 12)) S fun cV S=>onB cV fun b=>gd b (callF Pg 106 [x0,.nl] S Q fun cW S=>callF Pg 110 [x0,cW] S Q fun cX S=>callF Pg 106 [x0,cX] S Q fun cY S=>Q (.ret cY) S) (bin .eql 0 bJ (.v (.int .i64 13)) S fun cZ S=>onB cZ fun b=>gd b (callF Pg 110 [x0,.nl] S Q fun dA S=>Q (.ret dA) S) (bin .eql 0 bJ (.v (.int .i64 14)) S fun dB S=>onB dB fun b=>gd b ((fun S0:Store=>∃ dC:AV,(nilChk x0 S fun dD S=>dD=dC∧S=S0)∧∃ dE:AV,(shift dC 8 S fun dF S=>dF=dE∧S=S0)∧∃ dG:AV,(shift dE 1 S fun dH S=>dH=dG∧S=S0)∧∃ dI:AV,(ld1 dG S fun dJ S=>dJ=dI∧S=S0)∧∃ dK:AV,(callF Pg 106 [x0,.nl] S (fun _ _=>False) fun dL S=>dL=dK∧S=S0)∧∃ dM:AV,(callF Pg 109 [x0,dI,dK] S (fun _ _=>False) fun dN S=>dN=dM∧S=S0)∧∃ dO:AV,(callF Pg 106 [x0,dM] S (fun _ _=>False) fun dP S=>dP=dO∧S=S0)∧Q (.ret dO) S) S) (bin .eql 0 bJ (.v (.int .i64 15)) S fun dQ S=>onB dQ fun b=>gd b (callF Pg 109 [x0,.nl,bH] S Q fun dR S=>Q (.ret dR) S) (bin .eql 0 bJ (.v (.int .i64 16)) S fun dS S=>onB dS fun b=>gd b (callF Pg 106 [x0,bH] S Q fun dT S=>callF Pg 107 [.nl,bH] S Q fun dU S=>callF Pg 106 [x0,dU] S Q fun dV S=>callF Pg 109 [x0,dT,dV] S Q fun dW S=>callF Pg 106 [x0,bH] S Q fun dX S=>callF Pg 110 [x0,dX] S Q fun dY S=>callF Pg 107 [dW,dY] S Q fun dZ S=>callF Pg 106 [x0,dZ] S Q fun eA S=>Q (.ret eA) S) (bin .eql 0 bJ (.v (.int .i64 17)) S fun eB S=>onB eB fun b=>gd b (callF Pg 110 [x0,bH] S Q fun eC S=>callF Pg 39 [.nl,bH] S Q fun eD S=>callF Pg 109 [x0,bH,eD] S Q fun eE S=>callF Pg 107 [eC,eE] S Q fun eF S=>Q (.ret eF) S) (bin .eql 0 bJ (.v (.int .i64 18)) S fun eG S=>onB eG fun b=>gd b (callF Pg 106 [x0,.nl] S Q fun eH S=>callF Pg 106 [x0,bH] S Q fun eI S=>callF Pg 109 [x0,eH,eI] S Q fun eJ S=>callF Pg 106 [x0,eJ] S Q fun eK S=>Q (.ret eK) S) (loopV lv57_0 (vc Pg (c57.at_ [1,1,1,1,1,1,0,1,0,0]) (ms57.drop 1)) 214 (env57_0 x0 a .nl (.v (.int .i64 0))) S (blockK 1 (seqK (vc Pg (c57.at_ [1,1,1,1,1,1,1]) (ms57.drop 1)) (bodyK Pg r57 Q))))))))))))))))))))) (shift a 0 S fun eL S=>ld1 eL S fun eM S=>bin .eql 0 eM (.v (.int .i64 2)) S fun eN S=>onB eN fun b=>gd b (nilChk x0 S fun eO S=>shift eO 8 S fun eP S=>shift eP 1 S fun eQ S=>ld1 eQ S fun eR S=>Q (.ret eR) S) (bin .eql 0 eM (.v (.int .i64 1)) S fun eS S=>onB eS fun b=>gd b (nilChk x0 S fun eT S=>shift eT 8 S fun eU S=>shift eU 1 S fun eV S=>ld1 eV S fun eW S=>callF Pg 106 [x0,eW] S Q fun eX S=>Q (.ret eX) S) (bin .eql 0 eM (.v (.int .i64 4)) S fun eY S=>onB eY fun b=>gd b (callF Pg 106 [x0,.nl] S Q fun eZ S=>Q (.ret eZ) S) (bin .eql 0 eM (.v (.int .i64 5)) S fun fA S=>onB fA fun b=>gd b (callF Pg 39 [.nl,.nl] S Q fun fB S=>Q (.ret fB) S) (bin .eql 0 eM (.v (.int .i64 6)) S fun fC S=>onB fC fun b=>gd b (callF Pg 107 [.nl,.nl] S Q fun fD S=>Q (.ret fD) S) (bin .eql 0 eM (.v (.int .i64 7)) S fun fE S=>onB fE fun b=>gd b (callF Pg 106 [x0,.nl] S Q fun fF S=>callF Pg 107 [fF,.nl] S Q fun fG S=>Q (.ret fG) S) (bin .eql 0 eM (.v (.int .i64 8)) S fun fH S=>onB fH fun b=>gd b (callF Pg 39 [.nl,.nl] S Q fun fI S=>callF Pg 107 [.nl,.nl] S Q fun fJ S=>callF Pg 106 [x0,fJ] S Q fun fK S=>callF Pg 107 [fI,fK] S Q fun fL S=>Q (.ret fL) S) (bin .eql 0 eM (.v (.int .i64 9)) S fun fM S=>onB fM fun b=>gd b (callF Pg 108 [x0,.nl] S Q fun fN S=>Q (.ret fN) S) (bin .eql 0 eM (.v (.int .i64 10)) S fun fO S=>onB fO fun b=>gd b (callF Pg 106 [x0,.nl] S Q fun fP S=>callF Pg 108 [x0,fP] S Q fun fQ S=>callF Pg 106 [x0,fQ] S Q fun fR S=>Q (.ret fR) S) (bin .eql 0 eM (.v (.int .i64 11)) S fun fS S=>onB fS fun b=>gd b (nilChk x0 S fun fT S=>shift fT 8 S fun fU S=>shift fU 1 S fun fV S=>ld1 fV S fun fW S=>callF Pg 109 [x0,fW,.nl] S Q fun fX S=>Q (.ret fX) S) (bin .eql 0 eM (.v (.int .i64 12)) S fun fY S=>onB fY fun b=>gd b (callF Pg 106 [x0,.nl] S Q fun fZ S=>callF Pg 110 [x0,fZ] S Q fun gA S=>callF Pg 106 [x0,gA] S Q fun gB S=>Q (.ret gB) S) (bin .eql 0 eM (.v (.int .i64 13)) S fun gC S=>onB gC fun b=>gd b (callF Pg 110 [x0,.nl] S Q fun gD S=>Q (.ret gD) S) (bin .eql 0 eM (.v (.int .i64 14)) S fun gE S=>onB gE fun b=>gd b ((fun S0:Store=>∃ gF:AV,(nilChk x0 S fun gG S=>gG=gF∧S=S0)∧∃ gH:AV,(shift gF 8 S fun gI S=>gI=gH∧S=S0)∧∃ gJ:AV,(shift gH 1 S fun gK S=>gK=gJ∧S=S0)∧∃ gL:AV,(ld1 gJ S fun gM S=>gM=gL∧S=S0)∧∃ gN:AV,(callF Pg 106 [x0,.nl] S (fun _ _=>False) fun gO S=>gO=gN∧S=S0)∧∃ gP:AV,(callF Pg 109 [x0,gL,gN] S (fun _ _=>False) fun gQ S=>gQ=gP∧S=S0)∧∃ gR:AV,(callF Pg 106 [x0,gP] S (fun _ _=>False) fun gS S=>gS=gR∧S=S0)∧Q (.ret gR) S) S) (bin .eql 0 eM (.v (.int .i64 15)) S fun gT S=>onB gT fun b=>gd b (callF Pg 109 [x0,.nl,.nl] S Q fun gU S=>Q (.ret gU) S) (bin .eql 0 eM (.v (.int .i64 16)) S fun gV S=>onB gV fun b=>gd b (callF Pg 106 [x0,.nl] S Q fun gW S=>callF Pg 107 [.nl,.nl] S Q fun gX S=>callF Pg 106 [x0,gX] S Q fun gY S=>callF Pg 109 [x0,gW,gY] S Q fun gZ S=>callF Pg 106 [x0,.nl] S Q fun hA S=>callF Pg 110 [x0,hA] S Q fun hB S=>callF Pg 107 [gZ,hB] S Q fun hC S=>callF Pg 106 [x0,hC] S Q fun hD S=>Q (.ret hD) S) (bin .eql 0 eM (.v (.int .i64 17)) S fun hE S=>onB hE fun b=>gd b (callF Pg 110 [x0,.nl] S Q fun hF S=>callF Pg 39 [.nl,.nl] S Q fun hG S=>callF Pg 109 [x0,.nl,hG] S Q fun hH S=>callF Pg 107 [hF,hH] S Q fun hI S=>Q (.ret hI) S) (bin .eql 0 eM (.v (.int .i64 18)) S fun hJ S=>onB hJ fun b=>gd b (callF Pg 106 [x0,.nl] S Q fun hK S=>callF Pg 106 [x0,.nl] S Q fun hL S=>callF Pg 109 [x0,hK,hL] S Q fun hM S=>callF Pg 106 [x0,hM] S Q fun hN S=>Q (.ret hN) S) (loopV lv57_0 (vc Pg (c57.at_ [1,1,1,1,1,1,0,1,0,0]) (ms57.drop 1)) 214 (env57_0 x0 a .nl (.v (.int .i64 0))) S (blockK 1 (seqK (vc Pg (c57.at_ [1,1,1,1,1,1,1]) (ms57.drop 1)) (bodyK Pg r57 Q))))))))))))))))))))))
theorem calls57{x0 x1:AV}{S:Store}{Q:PoT}(h:m57 x0 x1 S Q):ACalls Pg 57 [x0,x1] S Q:=
 calls_of_vc (fn:=Tryz.f57) (c:=c57) (n:=214) Tryz.func57 (by kernel_rfl) (by kernel_rfl) (by kernel_rfl) ms57 (Eq.mpr (by kernel_rfl) h)
def b57_0(y0 y3 y7 y8:AV)(S:Store)(KE0:KeT)(Q:PoT):Prop:=
 nilChk y0 S fun a S=>shift a 8 S fun c S=>shift c 1 S fun d S=>ld1 d S fun e S=>lenS e S fun f S=>bin .lss 0 y8 f S fun g S=>onB g fun b=>gd b (∃ h:AV,(∀ T:Store,Keep S T→nilChk y0 T fun i S=>i=h∧S=T)∧∃ k:AV,(∀ T:Store,Keep S T→shift h 8 T fun l S=>l=k∧S=T)∧∃ m:AV,(∀ T:Store,Keep S T→shift k 1 T fun n S=>n=m∧S=T)∧∃ o:AV,(∀ T:Store,Keep S T→ld1 m T fun p S=>p=o∧S=T)∧∃ q:AV,(∀ T:Store,Keep S T→ixS 4 1 o y8 T fun r S=>r=q∧S=T)∧∃ s:AV,(∀ T:Store,Keep S T→ld1 q T fun t S=>t=s∧S=T)∧onB s fun b=>gd b (∃ u:AV,(∀ T:Store,Keep S T→nilChk y0 T fun w S=>w=u∧S=T)∧∃ x:AV,(∀ T:Store,Keep S T→shift u 0 T fun y S=>y=x∧S=T)∧∃ z:AV,(∀ T:Store,Keep S T→ldN 8 x T fun A S=>A=z∧S=T)∧∃ B:AV,(∀ T:Store,Keep S T→shift y3 2 T fun C S=>C=B∧S=T)∧∃ D:AV,(∀ T:Store,Keep S T→ld1 B T fun E S=>E=D∧S=T)∧∃ F:AV,(∀ T:Store,Keep S T→callF Pg 68 [z,y8,D] T (fun _ _=>False) fun G S=>G=F∧S=T)∧∃ H:AV,(∀ T:Store,Keep S T→F=H∧T=T)∧∃ I:AV,(∀ T:Store,Keep S T→bslN 4 1 1 [.v (.bool false)] [(0,H)] T fun J S=>J=I∧S=T)∧appS 4 1 1 y7 I S fun K S=>bin .add 0 y8 (.v (.int .i64 1)) S fun L S=>KE0 214 (env57_0 y0 y3 K L) S) (∃ M:AV,(∀ T:Store,Keep S T→(.v (.bool false))=M∧T=T)∧∃ N:AV,(∀ T:Store,Keep S T→bslN 4 1 1 [.v (.bool false)] [(0,M)] T fun O S=>O=N∧S=T)∧appS 4 1 1 y7 N S fun P S=>bin .add 0 y8 (.v (.int .i64 1)) S fun R S=>KE0 214 (env57_0 y0 y3 P R) S)) (Q (.ret y7) S)
theorem b57_0_eq(y0 y3 y7 y8:AV)(S:Store)(KE0:KeT)(Q:PoT):vc Pg (c57.at_ [1,1,1,1,1,1,0,1,0,0]) (ms57.drop 1) (mkE 214 lv57_0 (env57_0 y0 y3 y7 y8)) S (thenK (fgK lv57_0 KE0) (blockK 1 (seqK (vc Pg (c57.at_ [1,1,1,1,1,1,1]) (ms57.drop 1)) (bodyK Pg r57 Q))))=b57_0 y0 y3 y7 y8 S KE0 Q:=by kernel_rfl
theorem loop57_0{y0 y3:AV}{y70 y80:AV}{S:Store}{Q:PoT}(I:AV→AV→Store→Prop)(μ:AV→AV→Store→Nat)(h0:I y70 y80 S)
    (hr:∀(y7 y8:AV) (S:Store),I y7 y8 S→∀ KE0:KeT,(∀(y7' y8':AV) (S':Store),I y7' y8' S'→μ y7' y8' S'<μ y7 y8 S→KE0 214 (env57_0 y0 y3 y7' y8') S')→b57_0 y0 y3 y7 y8 S KE0 Q):
    loopV lv57_0 (vc Pg (c57.at_ [1,1,1,1,1,1,0,1,0,0]) (ms57.drop 1)) 214 (env57_0 y0 y3 y70 y80) S (blockK 1 (seqK (vc Pg (c57.at_ [1,1,1,1,1,1,1]) (ms57.drop 1)) (bodyK Pg r57 Q))):=by
 refine⟨fun n e S=>n=214∧∃ y7 y8:AV,e=(env57_0 y0 y3 y7 y8)∧I y7 y8 S,fun _ e S=>μ (e.getD 2 .j) (e.getD 3 .j) S,?_,?_⟩
 ·exact⟨_,_,Wk.refl _ _,rfl,_,_,rfl,h0⟩
 ·rintro _ e S ⟨rfl,y7,y8,rfl,hI⟩
  exact(b57_0_eq _ _ _ _ _ _ _).mpr (hr y7 y8 S hI _ (fun y7' y8' S' hI' hm=>⟨_,_,Wk.refl _ _,⟨rfl,_,_,rfl,hI'⟩,hm⟩))
def c148:Code:=(Tryz.f148.body).getD .skip
def r148:List ResultVar:=Tryz.f148.results.toList
def env148_0(y0 y1 y5 y6:AV):List AV:=[y0,y1,y5,y6]
def lv148_0:List Nat:=[0,1,5,6]
def ms148:List (List Nat):=[lv148_0,[]]
def m148(x0 x1:AV)(S:Store)(Q:PoT):Prop:=
 loopV lv148_0 (vc Pg (c148.at_ [1,1,0,1,0,0]) (ms148.drop 1)) 28 (env148_0 x0 x1 .nl (.v (.int .i64 0))) S (blockK 0 (seqK (vc Pg (c148.at_ [1,1,1]) (ms148.drop 1)) (bodyK Pg r148 Q)))
theorem calls148{x0 x1:AV}{S:Store}{Q:PoT}(h:m148 x0 x1 S Q):ACalls Pg 148 [x0,x1] S Q:=
 calls_of_vc (fn:=Tryz.f148) (c:=c148) (n:=28) Tryz.func148 (by kernel_rfl) (by kernel_rfl) (by kernel_rfl) ms148 (Eq.mpr (by kernel_rfl) h)
def b148_0(y0 y1 y5 y6:AV)(S:Store)(KE0:KeT)(Q:PoT):Prop:=
 lenS y0 S fun a S=>bin .lss 0 y6 a S fun c S=>onB c fun b=>gd b (ixS 4 1 y0 y6 S fun d S=>ld1 d S fun e S=>onB e fun b=>gd b (ixS 4 1 y1 y6 S fun f S=>ld1 f S fun g S=>un .not g S fun h S=>bslN 4 1 1 [.v (.bool false)] [(0,h)] S fun i S=>appS 4 1 1 y5 i S fun k S=>bin .add 0 y6 (.v (.int .i64 1)) S fun l S=>KE0 28 (env148_0 y0 y1 k l) S) (bslN 4 1 1 [.v (.bool false)] [(0,(.v (.bool false)))] S fun m S=>appS 4 1 1 y5 m S fun n S=>bin .add 0 y6 (.v (.int .i64 1)) S fun o S=>KE0 28 (env148_0 y0 y1 n o) S)) (Q (.ret y5) S)
theorem b148_0_eq(y0 y1 y5 y6:AV)(S:Store)(KE0:KeT)(Q:PoT):vc Pg (c148.at_ [1,1,0,1,0,0]) (ms148.drop 1) (mkE 28 lv148_0 (env148_0 y0 y1 y5 y6)) S (thenK (fgK lv148_0 KE0) (blockK 0 (seqK (vc Pg (c148.at_ [1,1,1]) (ms148.drop 1)) (bodyK Pg r148 Q))))=b148_0 y0 y1 y5 y6 S KE0 Q:=by kernel_rfl
theorem loop148_0{y0 y1:AV}{y50 y60:AV}{S:Store}{Q:PoT}(I:AV→AV→Store→Prop)(μ:AV→AV→Store→Nat)(h0:I y50 y60 S)
    (hr:∀(y5 y6:AV) (S:Store),I y5 y6 S→∀ KE0:KeT,(∀(y5' y6':AV) (S':Store),I y5' y6' S'→μ y5' y6' S'<μ y5 y6 S→KE0 28 (env148_0 y0 y1 y5' y6') S')→b148_0 y0 y1 y5 y6 S KE0 Q):
    loopV lv148_0 (vc Pg (c148.at_ [1,1,0,1,0,0]) (ms148.drop 1)) 28 (env148_0 y0 y1 y50 y60) S (blockK 0 (seqK (vc Pg (c148.at_ [1,1,1]) (ms148.drop 1)) (bodyK Pg r148 Q))):=by
 refine⟨fun n e S=>n=28∧∃ y5 y6:AV,e=(env148_0 y0 y1 y5 y6)∧I y5 y6 S,fun _ e S=>μ (e.getD 2 .j) (e.getD 3 .j) S,?_,?_⟩
 ·exact⟨_,_,Wk.refl _ _,rfl,_,_,rfl,h0⟩
 ·rintro _ e S ⟨rfl,y5,y6,rfl,hI⟩
  exact(b148_0_eq _ _ _ _ _ _ _).mpr (hr y5 y6 S hI _ (fun y5' y6' S' hI' hm=>⟨_,_,Wk.refl _ _,⟨rfl,_,_,rfl,hI'⟩,hm⟩))
def c107:Code:=(Tryz.f107.body).getD .skip
def ms107:List (List Nat):=[[]]
def m107(x0 x1:AV)(S:Store)(Q:PoT):Prop:=
 callF Pg 147 [x0,x1] S Q fun a S=>Q (.ret a) S
theorem calls107{x0 x1:AV}{S:Store}{Q:PoT}(h:m107 x0 x1 S Q):ACalls Pg 107 [x0,x1] S Q:=
 calls_of_vc (fn:=Tryz.f107) (c:=c107) (n:=8) Tryz.func107 (by kernel_rfl) (by kernel_rfl) (by kernel_rfl) ms107 (Eq.mpr (by kernel_rfl) h)
def c106:Code:=(Tryz.f106.body).getD .skip
def ms106:List (List Nat):=[[]]
def m106(x0 x1:AV)(S:Store)(Q:PoT):Prop:=
 nilChk x0 S fun a S=>shift a 8 S fun c S=>shift c 1 S fun d S=>ld1 d S fun e S=>callF Pg 148 [e,x1] S Q fun f S=>Q (.ret f) S
theorem calls106{x0 x1:AV}{S:Store}{Q:PoT}(h:m106 x0 x1 S Q):ACalls Pg 106 [x0,x1] S Q:=
 calls_of_vc (fn:=Tryz.f106) (c:=c106) (n:=12) Tryz.func106 (by kernel_rfl) (by kernel_rfl) (by kernel_rfl) ms106 (Eq.mpr (by kernel_rfl) h)
def c110:Code:=(Tryz.f110.body).getD .skip
def ms110:List (List Nat):=[[]]
def m110(x0 x1:AV)(S:Store)(Q:PoT):Prop:=
 nilChk x0 S fun a S=>shift a 8 S fun c S=>ldN 5 c S fun d S=>callF Pg 56 [d,x1] S Q fun e S=>Q (.ret e) S
theorem calls110{x0 x1:AV}{S:Store}{Q:PoT}(h:m110 x0 x1 S Q):ACalls Pg 110 [x0,x1] S Q:=
 calls_of_vc (fn:=Tryz.f110) (c:=c110) (n:=11) Tryz.func110 (by kernel_rfl) (by kernel_rfl) (by kernel_rfl) ms110 (Eq.mpr (by kernel_rfl) h)
def c108:Code:=(Tryz.f108.body).getD .skip
def ms108:List (List Nat):=[[]]
def m108(x0 x1:AV)(S:Store)(Q:PoT):Prop:=
 (fun S0:Store=>∃ a:AV,(nilChk x0 S fun c S=>c=a∧S=S0)∧∃ d:AV,(shift a 8 S fun e S=>e=d∧S=S0)∧∃ f:AV,(ldN 5 d S fun g S=>g=f∧S=S0)∧∃ h:AV,(nilChk x0 S fun i S=>i=h∧S=S0)∧∃ k:AV,(shift h 13 S fun l S=>l=k∧S=S0)∧∃ m:AV,(ld1 k S fun n S=>n=m∧S=S0)∧∃ o:AV,(callF Pg 39 [x1,m] S (fun _ _=>False) fun p S=>p=o∧S=S0)∧∃ q:AV,(callF Pg 104 [f,o] S (fun _ _=>False) fun r S=>r=q∧S=S0)∧Q (.ret q) S) S
theorem calls108{x0 x1:AV}{S:Store}{Q:PoT}(h:m108 x0 x1 S Q):ACalls Pg 108 [x0,x1] S Q:=
 calls_of_vc (fn:=Tryz.f108) (c:=c108) (n:=16) Tryz.func108 (by kernel_rfl) (by kernel_rfl) (by kernel_rfl) ms108 (Eq.mpr (by kernel_rfl) h)
def c109:Code:=(Tryz.f109.body).getD .skip
def ms109:List (List Nat):=[[]]
def m109(x0 x1 x2:AV)(S:Store)(Q:PoT):Prop:=
 (fun S0:Store=>∃ a:AV,(nilChk x0 S fun c S=>c=a∧S=S0)∧∃ d:AV,(shift a 8 S fun e S=>e=d∧S=S0)∧∃ f:AV,(ldN 5 d S fun g S=>g=f∧S=S0)∧∃ h:AV,(nilChk x0 S fun i S=>i=h∧S=S0)∧∃ k:AV,(shift h 13 S fun l S=>l=k∧S=S0)∧∃ m:AV,(ld1 k S fun n S=>n=m∧S=S0)∧∃ o:AV,(callF Pg 39 [x2,m] S (fun _ _=>False) fun p S=>p=o∧S=S0)∧∃ q:AV,(callF Pg 105 [f,x1,o] S (fun _ _=>False) fun r S=>r=q∧S=S0)∧Q (.ret q) S) S
theorem calls109{x0 x1 x2:AV}{S:Store}{Q:PoT}(h:m109 x0 x1 x2 S Q):ACalls Pg 109 [x0,x1,x2] S Q:=
 calls_of_vc (fn:=Tryz.f109) (c:=c109) (n:=19) Tryz.func109 (by kernel_rfl) (by kernel_rfl) (by kernel_rfl) ms109 (Eq.mpr (by kernel_rfl) h)
def c182:Code:=(Tryz.f182.body).getD .skip
def ms182:List (List Nat):=[[]]
def m182(x0 x1 x2 x3:AV)(S:Store)(Q:PoT):Prop:=
 boxN 177 1 x2 S fun a S=>boxN 177 1 x3 S fun c S=>bin .eql 0 x1 (.v (.int .i64 5)) S fun d S=>onB d fun b=>gd b (ld1 a S fun e S=>ld1 c S fun g S=>callF Pg 200 [x0,e,g] S Q fun h S=>Q (.ret h) S) (bin .eql 0 x1 (.v (.int .i64 6)) S fun i S=>onB i fun b=>gd b (ld1 a S fun k S=>ld1 c S fun l S=>callF Pg 201 [x0,k,l] S Q fun m S=>Q (.ret m) S) (bin .eql 0 x1 (.v (.int .i64 7)) S fun n S=>onB n fun b=>gd b ((fun S0:Store=>∃ o:AV,(ld1 a S fun p S=>p=o∧S=S0)∧∃ q:AV,(callF Pg 180 [x0,o] S (fun _ _=>False) fun r S=>r=q∧S=S0)∧∃ s:AV,(ld1 c S fun t S=>t=s∧S=S0)∧∃ u:AV,(callF Pg 201 [x0,q,s] S (fun _ _=>False) fun w S=>w=u∧S=S0)∧Q (.ret u) S) S) (bin .eql 0 x1 (.v (.int .i64 8)) S fun x S=>onB x fun b=>gd b (callF Pg 178 [x0,(.f (.func 202) [] [a,c])] S Q fun y S=>Q (.ret y) S) (bin .eql 0 x1 (.v (.int .i64 15)) S fun z S=>onB z fun b=>gd b (ld1 a S fun A S=>ld1 c S fun B S=>callF Pg 198 [x0,A,B] S Q fun C S=>Q (.ret C) S) (bin .eql 0 x1 (.v (.int .i64 17)) S fun D S=>onB D fun b=>gd b ((fun S0:Store=>∃ E:AV,(ld1 c S fun F S=>F=E∧S=S0)∧∃ G:AV,(callF Pg 199 [x0,E] S (fun _ _=>False) fun H S=>H=G∧S=S0)∧∃ I:AV,(ld1 c S fun J S=>J=I∧S=S0)∧∃ K:AV,(ld1 a S fun L S=>L=K∧S=S0)∧∃ M:AV,(ld1 c S fun N S=>N=M∧S=S0)∧∃ O:AV,(callF Pg 200 [x0,K,M] S (fun _ _=>False) fun P S=>P=O∧S=S0)∧∃ R:AV,(callF Pg 198 [x0,I,O] S (fun _ _=>False) fun T S=>T=R∧S=S0)∧∃ U:AV,(callF Pg 201 [x0,G,R] S (fun _ _=>False) fun V S=>V=U∧S=S0)∧Q (.ret U) S) S) (bin .eql 0 x1 (.v (.int .i64 16)) S fun W S=>onB W fun b=>gd b (ld1 c S fun X S=>callF Pg 180 [x0,X] S Q fun Y S=>ld1 a S fun Z S=>callF Pg 180 [x0,Z] S Q fun a0 S=>callF Pg 200 [x0,a0,Y] S Q fun a1 S=>callF Pg 198 [x0,Y,a1] S Q fun a2 S=>callF Pg 199 [x0,Y] S Q fun a3 S=>callF Pg 201 [x0,a2,a3] S Q fun a4 S=>callF Pg 180 [x0,a4] S Q fun a5 S=>Q (.ret a5) S) ((fun S0:Store=>∃ a6:AV,(ld1 a S fun a7 S=>a7=a6∧S=S0)∧∃ a8:AV,(callF Pg 180 [x0,a6] S (fun _ _=>False) fun a9 S=>a9=a8∧S=S0)∧∃ b0:AV,(ld1 c S fun b1 S=>b1=b0∧S=S0)∧∃ b2:AV,(callF Pg 180 [x0,b0] S (fun _ _=>False) fun b3 S=>b3=b2∧S=S0)∧∃ b5:AV,(callF Pg 198 [x0,a8,b2] S (fun _ _=>False) fun b6 S=>b6=b5∧S=S0)∧∃ b7:AV,(callF Pg 180 [x0,b5] S (fun _ _=>False) fun b8 S=>b8=b7∧S=S0)∧Q (.ret b7) S) S)))))))
theorem calls182{x0 x1 x2 x3:AV}{S:Store}{Q:PoT}(h:m182 x0 x1 x2 x3 S Q):ACalls Pg 182 [x0,x1,x2,x3] S Q:=
 calls_of_vc (fn:=Tryz.f182) (c:=c182) (n:=87) Tryz.func182 (by kernel_rfl) (by kernel_rfl) (by kernel_rfl) ms182 (Eq.mpr (by kernel_rfl) h)
def c202:Code:=(Tryz.f202.body).getD .skip
def ms202:List (List Nat):=[[]]
def m202(x0 x1 x2:AV)(S:Store)(Q:PoT):Prop:=
 (fun S0:Store=>∃ a:AV,(ld1 x1 S fun c S=>c=a∧S=S0)∧∃ d:AV,(ixS 4 1 a x0 S fun e S=>e=d∧S=S0)∧∃ f:AV,(ld1 d S fun g S=>g=f∧S=S0)∧∃ h:AV,(ld1 x2 S fun i S=>i=h∧S=S0)∧∃ k:AV,(ixS 4 1 h x0 S fun l S=>l=k∧S=S0)∧∃ m:AV,(ld1 k S fun n S=>n=m∧S=S0)∧∃ o:AV,(bin .eql 1 f m S fun p S=>p=o∧S=S0)∧Q (.ret o) S) S
theorem calls202{x0 x1 x2:AV}{S:Store}{Q:PoT}(h:m202 x0 x1 x2 S Q):ACalls Pg 202 [x0,x1,x2] S Q:=
 calls_of_vc (fn:=Tryz.f202) (c:=c202) (n:=14) Tryz.func202 (by kernel_rfl) (by kernel_rfl) (by kernel_rfl) ms202 (Eq.mpr (by kernel_rfl) h)
def c163:Code:=(Tryz.f163.body).getD .skip
def ms163:List (List Nat):=[[]]
def m163(x0 x1:AV)(S:Store)(Q:PoT):Prop:=
 boxN 174 1 x0 S fun a S=>boxN 24 4 x1 S fun c S=>shift c 0 S fun d S=>ld1 d S fun e S=>bin .eql 0 e (.v (.int .i64 3)) S fun g S=>onB g fun b=>gd b (ld1 a S fun h S=>callF Pg 178 [h,(.f (.func 179) [] [a,c])] S Q fun i S=>Q (.ret i) S) (bin .eql 0 e (.v (.int .i64 2)) S fun k S=>onB k fun b=>gd b (ld1 a S fun l S=>nilChk l S fun m S=>shift m 8 S fun n S=>shift n 1 S fun o S=>ld1 o S fun p S=>Q (.ret p) S) (bin .eql 0 e (.v (.int .i64 1)) S fun q S=>onB q fun b=>gd b ((fun S0:Store=>∃ r:AV,(ld1 a S fun s S=>s=r∧S=S0)∧∃ t:AV,(ld1 a S fun u S=>u=t∧S=S0)∧∃ w:AV,(nilChk t S fun x S=>x=w∧S=S0)∧∃ y:AV,(shift w 8 S fun z S=>z=y∧S=S0)∧∃ A:AV,(shift y 1 S fun B S=>B=A∧S=S0)∧∃ C:AV,(ld1 A S fun D S=>D=C∧S=S0)∧∃ E:AV,(callF Pg 180 [r,C] S (fun _ _=>False) fun F S=>F=E∧S=S0)∧Q (.ret E) S) S) ((fun S0:Store=>∃ G:AV,(ld1 a S fun H S=>H=G∧S=S0)∧∃ I:AV,(shift c 3 S fun J S=>J=I∧S=S0)∧∃ K:AV,(ld1 I S fun L S=>L=K∧S=S0)∧∃ M:AV,(ixS 24 4 K (.v (.int .i64 0)) S fun N S=>N=M∧S=S0)∧∃ O:AV,(ldN 4 M S fun P S=>P=O∧S=S0)∧∃ R:AV,(callF Pg 163 [G,O] S (fun _ _=>False) fun T S=>T=R∧S=S0)∧shift c 3 S fun U S=>ld1 U S fun V S=>lenS V S fun W S=>bin .eql 0 W (.v (.int .i64 1)) S fun X S=>onB X fun b=>gd b (ld1 a S fun Y S=>shift c 0 S fun Z S=>ld1 Z S fun a0 S=>callF Pg 181 [Y,a0,R] S Q fun a1 S=>Q (.ret a1) S) ((fun S0:Store=>∃ a2:AV,(ld1 a S fun a3 S=>a3=a2∧S=S0)∧∃ a4:AV,(shift c 0 S fun a5 S=>a5=a4∧S=S0)∧∃ a6:AV,(ld1 a4 S fun a7 S=>a7=a6∧S=S0)∧∃ a8:AV,(ld1 a S fun a9 S=>a9=a8∧S=S0)∧∃ b0:AV,(shift c 3 S fun b1 S=>b1=b0∧S=S0)∧∃ b2:AV,(ld1 b0 S fun b3 S=>b3=b2∧S=S0)∧∃ b4:AV,(ixS 24 4 b2 (.v (.int .i64 1)) S fun b5 S=>b5=b4∧S=S0)∧∃ b7:AV,(ldN 4 b4 S fun b8 S=>b8=b7∧S=S0)∧∃ b9:AV,(callF Pg 163 [a8,b7] S (fun _ _=>False) fun c0 S=>c0=b9∧S=S0)∧∃ c1:AV,(callF Pg 182 [a2,a6,R,b9] S (fun _ _=>False) fun c2 S=>c2=c1∧S=S0)∧Q (.ret c1) S) S)) S)))
theorem calls163{x0 x1:AV}{S:Store}{Q:PoT}(h:m163 x0 x1 S Q):ACalls Pg 163 [x0,x1] S Q:=
 calls_of_vc (fn:=Tryz.f163) (c:=c163) (n:=55) Tryz.func163 (by kernel_rfl) (by kernel_rfl) (by kernel_rfl) ms163 (Eq.mpr (by kernel_rfl) h)
def c179:Code:=(Tryz.f179.body).getD .skip
def ms179:List (List Nat):=[[]]
def m179(x0 x1 x2:AV)(S:Store)(Q:PoT):Prop:=
 (fun S0:Store=>∃ a:AV,(ld1 x1 S fun c S=>c=a∧S=S0)∧∃ d:AV,(nilChk a S fun e S=>e=d∧S=S0)∧∃ f:AV,(shift d 0 S fun g S=>g=f∧S=S0)∧∃ h:AV,(ldN 8 f S fun i S=>i=h∧S=S0)∧∃ k:AV,(shift x2 2 S fun l S=>l=k∧S=S0)∧∃ m:AV,(ld1 k S fun n S=>n=m∧S=S0)∧∃ o:AV,(callF Pg 171 [h,x0,m] S (fun _ _=>False) fun p S=>p=o∧S=S0)∧Q (.ret o) S) S
theorem calls179{x0 x1 x2:AV}{S:Store}{Q:PoT}(h:m179 x0 x1 x2 S Q):ACalls Pg 179 [x0,x1,x2] S Q:=
 calls_of_vc (fn:=Tryz.f179) (c:=c179) (n:=13) Tryz.func179 (by kernel_rfl) (by kernel_rfl) (by kernel_rfl) ms179 (Eq.mpr (by kernel_rfl) h)
def c118:Code:=(Tryz.f118.body).getD .skip
def ms118:List (List Nat):=[[]]
def m118(x0 x1 x2:AV)(S:Store)(Q:PoT):Prop:=
 boxN 42 8 x0 S fun a S=>boxN 71 5 x1 S fun c S=>boxN 24 4 x2 S fun d S=>∃ e:AV,(∀ T:Store,Keep S T→ldN 8 a T fun f S=>f=e∧S=T)∧∃ g:AV,(∀ T:Store,Keep S T→ldN 5 c T fun h S=>h=g∧S=T)∧∃ i:AV,(∀ T:Store,Keep S T→ldN 5 c T fun k S=>k=i∧S=T)∧∃ l:AV,(∀ T:Store,Keep S T→shift c 1 T fun m S=>m=l∧S=T)∧∃ n:AV,(∀ T:Store,Keep S T→ld1 l T fun o S=>o=n∧S=T)∧∃ p:AV,(∀ T:Store,Keep S T→callF Pg 162 [i,n] T (fun _ _=>False) fun q S=>q=p∧S=T)∧∃ r:AV,(∀ T:Store,Keep S T→bld [(0,8),(8,5),(13,1)] [.v (.int .i64 0),.nl,.nl,.nl,.nl,.nl,.nl,.nl,.v (.int .i64 0),.nl,.nl,.nl,.nl,.nl] [(0,e),(1,g),(2,p)] T fun s S=>s=r∧S=T)∧boxN 176 14 r S fun t S=>ldN 4 d S fun u S=>callF Pg 163 [t,u] S Q fun w S=>Q (.ret w) S
theorem calls118{x0 x1 x2:AV}{S:Store}{Q:PoT}(h:m118 x0 x1 x2 S Q):ACalls Pg 118 [x0,x1,x2] S Q:=
 calls_of_vc (fn:=Tryz.f118) (c:=c118) (n:=19) Tryz.func118 (by kernel_rfl) (by kernel_rfl) (by kernel_rfl) ms118 (Eq.mpr (by kernel_rfl) h)
def c69:Code:=(Tryz.f69.body).getD .skip
def ms69:List (List Nat):=[[]]
def m69(x0 x1:AV)(S:Store)(Q:PoT):Prop:=
 boxN 42 8 x0 S fun c S=>boxN 24 4 x1 S fun d S=>boxN 71 5 (.a [.v (.int .i64 0),.nl,.nl,.nl,.nl]) S fun e S=>ldN 8 c S fun f S=>ldN 4 d S fun g S=>callF Pg 52 [f,g] S Q fun h S=>un .not h S fun i S=>onB i fun b=>gd b (bld [(0,1),(1,1),(2,1),(3,1),(4,1)] [.v (.int .i64 0),.nl,.nl,.nl,.nl] [] S fun k S=>stN 5 e k S fun l S=>ldN 5 e S fun m _=>Q (.ret (.t [.nl,m,.v (.int .i64 1)])) S) (ldN 8 c S fun n S=>callF Pg 117 [n] S Q fun o S=>extr o 0 S fun p S=>extr o 1 S fun q S=>boxN 71 5 (.a [.v (.int .i64 0),.nl,.nl,.nl,.nl]) S fun r S=>stN 5 r p S fun s S=>bin .neq 0 q (.v (.int .i64 0)) S fun u S=>onB u fun b=>gd b (∃ w:AV,(∀ T:Store,Keep S T→ldN 5 r T fun x S=>x=w∧S=T)∧stN 5 e w S fun y S=>ldN 5 e S fun z _=>Q (.ret (.t [.nl,z,q])) S) (∃ A:AV,(∀ T:Store,Keep S T→ldN 8 c T fun B S=>B=A∧S=T)∧∃ C:AV,(∀ T:Store,Keep S T→ldN 5 r T fun D S=>D=C∧S=T)∧∃ E:AV,(∀ T:Store,Keep S T→ldN 4 d T fun F S=>F=E∧S=T)∧∃ G:AV,(∀ T:Store,Keep S T→callF Pg 118 [A,C,E] T (fun _ _=>False) fun H S=>H=G∧S=T)∧∃ I:AV,(∀ T:Store,Keep S T→ldN 5 r T fun J S=>J=I∧S=T)∧stN 5 e I S fun K S=>ldN 5 e S fun L _=>Q (.ret (.t [G,L,.v (.int .i64 0)])) S))
theorem calls69{x0 x1:AV}{S:Store}{Q:PoT}(h:m69 x0 x1 S Q):ACalls Pg 69 [x0,x1] S Q:=
 calls_of_vc (fn:=Tryz.f69) (c:=c69) (n:=28) Tryz.func69 (by kernel_rfl) (by kernel_rfl) (by kernel_rfl) ms69 (Eq.mpr (by kernel_rfl) h)
def c36:Code:=(Tryz.f36.body).getD .skip
def ms36:List (List Nat):=[[]]
def m36(x0 x1:AV)(S:Store)(Q:PoT):Prop:=
 boxN 42 8 x0 S fun c S=>boxN 24 4 x1 S fun d S=>ldN 8 c S fun e S=>ldN 4 d S fun f S=>callF Pg 69 [e,f] S Q fun g S=>extr g 0 S fun h S=>extr g 1 S fun i S=>extr g 2 S fun k S=>boxN 71 5 (.a [.v (.int .i64 0),.nl,.nl,.nl,.nl]) S fun l S=>stN 5 l i S fun m S=>Q (.ret (.t [h,k])) S
theorem calls36{x0 x1:AV}{S:Store}{Q:PoT}(h:m36 x0 x1 S Q):ACalls Pg 36 [x0,x1] S Q:=
 calls_of_vc (fn:=Tryz.f36) (c:=c36) (n:=18) Tryz.func36 (by kernel_rfl) (by kernel_rfl) (by kernel_rfl) ms36 (Eq.mpr (by kernel_rfl) h)
def c60:Code:=(Tryz.f60.body).getD .skip
def r60:List ResultVar:=Tryz.f60.results.toList
def env60_0(y4 y6 y23 y24 y25:AV):List AV:=[y4,y6,y23,y24,y25]
def lv60_0:List Nat:=[4,6,23,24,25]
def ms60:List (List Nat):=[lv60_0,[]]
def m60(x0 x1:AV)(S:Store)(Q:PoT):Prop:=
 boxN 42 8 x0 S fun c S=>boxN 24 4 x1 S fun d S=>boxN 110 3 (.a [.v (.bool false),.v (.int .i64 0),.v (.int .i64 0)]) S fun e S=>ldN 8 c S fun f S=>ldN 4 d S fun g S=>callF Pg 69 [f,g] S Q fun h S=>extr h 0 S fun i S=>extr h 1 S fun k S=>extr h 2 S fun l S=>boxN 71 5 (.a [.v (.int .i64 0),.nl,.nl,.nl,.nl]) S fun m S=>stN 5 m k S fun n S=>bin .neq 0 l (.v (.int .i64 0)) S fun o S=>onB o fun b=>gd b (ldN 3 e S fun p S=>stN 3 e p S fun q S=>ldN 3 e S fun r _=>Q (.ret (.t [r,l])) S) (shift e 2 S fun s S=>stN 1 s (.v (.int .i64 (-1))) S fun u S=>shift m 2 S fun w S=>ld1 w S fun x S=>lenS x S fun y S=>loopV lv60_0 (vc Pg (c60.at_ [1,1,1,1,0,1,0,0]) (ms60.drop 1)) 54 (env60_0 e i x y (.v (.int .i64 0))) S (blockK 0 (seqK (vc Pg (c60.at_ [1,1,1,1,1]) (ms60.drop 1)) (bodyK Pg r60 Q))))
theorem calls60{x0 x1:AV}{S:Store}{Q:PoT}(h:m60 x0 x1 S Q):ACalls Pg 60 [x0,x1] S Q:=
 calls_of_vc (fn:=Tryz.f60) (c:=c60) (n:=54) Tryz.func60 (by kernel_rfl) (by kernel_rfl) (by kernel_rfl) ms60 (Eq.mpr (by kernel_rfl) h)
def b60_0(y4 y6 y23 y24 y25:AV)(S:Store)(KE0:KeT)(Q:PoT):Prop:=
 bin .lss 0 y25 y24 S fun a S=>onB a fun b=>gd b (ixS 4 1 y23 y25 S fun c S=>ld1 c S fun d S=>un .not d S fun e S=>onB e fun b=>gd b (bin .add 0 y25 (.v (.int .i64 1)) S fun f S=>KE0 54 (env60_0 y4 y6 y23 y24 f) S) (shift y4 1 S fun g S=>ld1 g S fun h S=>bin .add 0 h (.v (.int .i64 1)) S fun i S=>shift y4 1 S fun k S=>stN 1 k i S fun l S=>ixS 4 1 y6 y25 S fun m S=>ld1 m S fun n S=>un .not n S fun o S=>onB o fun b=>gd b (shift y4 2 S fun p S=>ld1 p S fun q S=>bin .lss 0 q (.v (.int .i64 0)) S fun r S=>onB r fun b=>gd b (shift y4 2 S fun s S=>stN 1 s y25 S fun u S=>bin .add 0 y25 (.v (.int .i64 1)) S fun w S=>KE0 54 (env60_0 y4 y6 y23 y24 w) S) (bin .add 0 y25 (.v (.int .i64 1)) S fun x S=>KE0 54 (env60_0 y4 y6 y23 y24 x) S)) (bin .add 0 y25 (.v (.int .i64 1)) S fun y S=>KE0 54 (env60_0 y4 y6 y23 y24 y) S))) (shift y4 2 S fun z S=>ld1 z S fun A S=>bin .lss 0 A (.v (.int .i64 0)) S fun B S=>shift y4 0 S fun C S=>stN 1 C B S fun D S=>ldN 3 y4 S fun E S=>stN 3 y4 E S fun F S=>ldN 3 y4 S fun G _=>Q (.ret (.t [G,.v (.int .i64 0)])) S)
theorem b60_0_eq(y4 y6 y23 y24 y25:AV)(S:Store)(KE0:KeT)(Q:PoT):vc Pg (c60.at_ [1,1,1,1,0,1,0,0]) (ms60.drop 1) (mkE 54 lv60_0 (env60_0 y4 y6 y23 y24 y25)) S (thenK (fgK lv60_0 KE0) (blockK 0 (seqK (vc Pg (c60.at_ [1,1,1,1,1]) (ms60.drop 1)) (bodyK Pg r60 Q))))=b60_0 y4 y6 y23 y24 y25 S KE0 Q:=by kernel_rfl
theorem loop60_0{y4 y6 y23 y24:AV}{y250:AV}{S:Store}{Q:PoT}(I:AV→Store→Prop)(μ:AV→Store→Nat)(h0:I y250 S)
    (hr:∀(y25:AV) (S:Store),I y25 S→∀ KE0:KeT,(∀(y25':AV) (S':Store),I y25' S'→μ y25' S'<μ y25 S→KE0 54 (env60_0 y4 y6 y23 y24 y25') S')→b60_0 y4 y6 y23 y24 y25 S KE0 Q):
    loopV lv60_0 (vc Pg (c60.at_ [1,1,1,1,0,1,0,0]) (ms60.drop 1)) 54 (env60_0 y4 y6 y23 y24 y250) S (blockK 0 (seqK (vc Pg (c60.at_ [1,1,1,1,1]) (ms60.drop 1)) (bodyK Pg r60 Q))):=by
 refine⟨fun n e S=>n=54∧∃ y25:AV,e=(env60_0 y4 y6 y23 y24 y25)∧I y25 S,fun _ e S=>μ (e.getD 4 .j) S,?_,?_⟩
 ·exact⟨_,_,Wk.refl _ _,rfl,_,rfl,h0⟩
 ·rintro _ e S ⟨rfl,y25,rfl,hI⟩
  exact(b60_0_eq _ _ _ _ _ _ _ _).mpr (hr y25 S hI _ (fun y25' S' hI' hm=>⟨_,_,Wk.refl _ _,⟨rfl,_,rfl,hI'⟩,hm⟩))
def c178:Code:=(Tryz.f178.body).getD .skip
def r178:List ResultVar:=Tryz.f178.results.toList
def env178_0(y1 y5 y19 y20 y21:AV):List AV:=[y1,y5,y19,y20,y21]
def lv178_0:List Nat:=[1,5,19,20,21]
def ms178:List (List Nat):=[lv178_0,[]]
def m178(x0 x1:AV)(S:Store)(Q:PoT):Prop:=
 nilChk x0 S fun a S=>shift a 8 S fun c S=>shift c 1 S fun d S=>ld1 d S fun e S=>lenS e S fun f S=>mkN 4 1 [.v (.bool false)] f f S fun g S=>nilChk x0 S fun h S=>shift h 8 S fun i S=>shift i 1 S fun k S=>ld1 k S fun l S=>lenS l S fun m S=>loopV lv178_0 (vc Pg (c178.at_ [1,1,0,1,0,0]) (ms178.drop 1)) 37 (env178_0 x1 g l m (.v (.int .i64 0))) S (blockK 0 (seqK (vc Pg (c178.at_ [1,1,1]) (ms178.drop 1)) (bodyK Pg r178 Q)))
theorem calls178{x0 x1:AV}{S:Store}{Q:PoT}(h:m178 x0 x1 S Q):ACalls Pg 178 [x0,x1] S Q:=
 calls_of_vc (fn:=Tryz.f178) (c:=c178) (n:=37) Tryz.func178 (by kernel_rfl) (by kernel_rfl) (by kernel_rfl) ms178 (Eq.mpr (by kernel_rfl) h)
def b178_0(y1 y5 y19 y20 y21:AV)(S:Store)(KE0:KeT)(Q:PoT):Prop:=
 bin .lss 0 y21 y20 S fun a S=>onB a fun b=>gd b (ixS 4 1 y19 y21 S fun c S=>ld1 c S fun d S=>onB d fun b=>gd b (callV Pg y1 [y21] S (fun e S=>ixS 4 1 y5 y21 S fun f S=>stN 1 f e S fun g S=>bin .add 0 y21 (.v (.int .i64 1)) S fun h S=>KE0 37 (env178_0 y1 y5 y19 y20 h) S) (fun u S=>Q (.pan u) S)) (ixS 4 1 y5 y21 S fun i S=>stN 1 i (.v (.bool false)) S fun k S=>bin .add 0 y21 (.v (.int .i64 1)) S fun l S=>KE0 37 (env178_0 y1 y5 y19 y20 l) S)) (Q (.ret y5) S)
theorem b178_0_eq(y1 y5 y19 y20 y21:AV)(S:Store)(KE0:KeT)(Q:PoT):vc Pg (c178.at_ [1,1,0,1,0,0]) (ms178.drop 1) (mkE 37 lv178_0 (env178_0 y1 y5 y19 y20 y21)) S (thenK (fgK lv178_0 KE0) (blockK 0 (seqK (vc Pg (c178.at_ [1,1,1]) (ms178.drop 1)) (bodyK Pg r178 Q))))=b178_0 y1 y5 y19 y20 y21 S KE0 Q:=by kernel_rfl
theorem loop178_0{y1 y5 y19 y20:AV}{y210:AV}{S:Store}{Q:PoT}(I:AV→Store→Prop)(μ:AV→Store→Nat)(h0:I y210 S)
    (hr:∀(y21:AV) (S:Store),I y21 S→∀ KE0:KeT,(∀(y21':AV) (S':Store),I y21' S'→μ y21' S'<μ y21 S→KE0 37 (env178_0 y1 y5 y19 y20 y21') S')→b178_0 y1 y5 y19 y20 y21 S KE0 Q):
    loopV lv178_0 (vc Pg (c178.at_ [1,1,0,1,0,0]) (ms178.drop 1)) 37 (env178_0 y1 y5 y19 y20 y210) S (blockK 0 (seqK (vc Pg (c178.at_ [1,1,1]) (ms178.drop 1)) (bodyK Pg r178 Q))):=by
 refine⟨fun n e S=>n=37∧∃ y21:AV,e=(env178_0 y1 y5 y19 y20 y21)∧I y21 S,fun _ e S=>μ (e.getD 4 .j) S,?_,?_⟩
 ·exact⟨_,_,Wk.refl _ _,rfl,_,rfl,h0⟩
 ·rintro _ e S ⟨rfl,y21,rfl,hI⟩
  exact(b178_0_eq _ _ _ _ _ _ _ _).mpr (hr y21 S hI _ (fun y21' S' hI' hm=>⟨_,_,Wk.refl _ _,⟨rfl,_,rfl,hI'⟩,hm⟩))
def c180:Code:=(Tryz.f180.body).getD .skip
def ms180:List (List Nat):=[[]]
def m180(x0 x1:AV)(S:Store)(Q:PoT):Prop:=
 boxN 177 1 x1 S fun a S=>callF Pg 178 [x0,(.f (.func 196) [] [a])] S Q fun c S=>Q (.ret c) S
theorem calls180{x0 x1:AV}{S:Store}{Q:PoT}(h:m180 x0 x1 S Q):ACalls Pg 180 [x0,x1] S Q:=
 calls_of_vc (fn:=Tryz.f180) (c:=c180) (n:=8) Tryz.func180 (by kernel_rfl) (by kernel_rfl) (by kernel_rfl) ms180 (Eq.mpr (by kernel_rfl) h)
def c196:Code:=(Tryz.f196.body).getD .skip
def ms196:List (List Nat):=[[]]
def m196(x0 x1:AV)(S:Store)(Q:PoT):Prop:=
 ld1 x1 S fun a S=>ixS 4 1 a x0 S fun c S=>ld1 c S fun d S=>un .not d S fun e S=>Q (.ret e) S
theorem calls196{x0 x1:AV}{S:Store}{Q:PoT}(h:m196 x0 x1 S Q):ACalls Pg 196 [x0,x1] S Q:=
 calls_of_vc (fn:=Tryz.f196) (c:=c196) (n:=9) Tryz.func196 (by kernel_rfl) (by kernel_rfl) (by kernel_rfl) ms196 (Eq.mpr (by kernel_rfl) h)
def c200:Code:=(Tryz.f200.body).getD .skip
def ms200:List (List Nat):=[[]]
def m200(x0 x1 x2:AV)(S:Store)(Q:PoT):Prop:=
 boxN 177 1 x1 S fun a S=>boxN 177 1 x2 S fun c S=>callF Pg 178 [x0,(.f (.func 212) [] [a,c])] S Q fun d S=>Q (.ret d) S
theorem calls200{x0 x1 x2:AV}{S:Store}{Q:PoT}(h:m200 x0 x1 x2 S Q):ACalls Pg 200 [x0,x1,x2] S Q:=
 calls_of_vc (fn:=Tryz.f200) (c:=c200) (n:=10) Tryz.func200 (by kernel_rfl) (by kernel_rfl) (by kernel_rfl) ms200 (Eq.mpr (by kernel_rfl) h)
def c212:Code:=(Tryz.f212.body).getD .skip
def ms212:List (List Nat):=[[]]
def m212(x0 x1 x2:AV)(S:Store)(Q:PoT):Prop:=
 ld1 x1 S fun a S=>ixS 4 1 a x0 S fun c S=>ld1 c S fun d S=>onB d fun b=>gd b (ld1 x2 S fun e S=>ixS 4 1 e x0 S fun f S=>ld1 f S fun g S=>Q (.ret g) S) (Q (.ret (.v (.bool false))) S)
theorem calls212{x0 x1 x2:AV}{S:Store}{Q:PoT}(h:m212 x0 x1 x2 S Q):ACalls Pg 212 [x0,x1,x2] S Q:=
 calls_of_vc (fn:=Tryz.f212) (c:=c212) (n:=15) Tryz.func212 (by kernel_rfl) (by kernel_rfl) (by kernel_rfl) ms212 (Eq.mpr (by kernel_rfl) h)
def c201:Code:=(Tryz.f201.body).getD .skip
def ms201:List (List Nat):=[[]]
def m201(x0 x1 x2:AV)(S:Store)(Q:PoT):Prop:=
 boxN 177 1 x1 S fun a S=>boxN 177 1 x2 S fun c S=>callF Pg 178 [x0,(.f (.func 213) [] [a,c])] S Q fun d S=>Q (.ret d) S
theorem calls201{x0 x1 x2:AV}{S:Store}{Q:PoT}(h:m201 x0 x1 x2 S Q):ACalls Pg 201 [x0,x1,x2] S Q:=
 calls_of_vc (fn:=Tryz.f201) (c:=c201) (n:=10) Tryz.func201 (by kernel_rfl) (by kernel_rfl) (by kernel_rfl) ms201 (Eq.mpr (by kernel_rfl) h)
def c213:Code:=(Tryz.f213.body).getD .skip
def ms213:List (List Nat):=[[]]
def m213(x0 x1 x2:AV)(S:Store)(Q:PoT):Prop:=
 ld1 x1 S fun a S=>ixS 4 1 a x0 S fun c S=>ld1 c S fun d S=>onB d fun b=>gd b (Q (.ret (.v (.bool true))) S) (ld1 x2 S fun e S=>ixS 4 1 e x0 S fun f S=>ld1 f S fun g S=>Q (.ret g) S)
theorem calls213{x0 x1 x2:AV}{S:Store}{Q:PoT}(h:m213 x0 x1 x2 S Q):ACalls Pg 213 [x0,x1,x2] S Q:=
 calls_of_vc (fn:=Tryz.f213) (c:=c213) (n:=15) Tryz.func213 (by kernel_rfl) (by kernel_rfl) (by kernel_rfl) ms213 (Eq.mpr (by kernel_rfl) h)
def c197:Code:=(Tryz.f197.body).getD .skip
def ms197:List (List Nat):=[[]]
def m197(x0 x1:AV)(S:Store)(Q:PoT):Prop:=
 (fun S0:Store=>∃ a:AV,(nilChk x0 S fun c S=>c=a∧S=S0)∧∃ d:AV,(shift a 8 S fun e S=>e=d∧S=S0)∧∃ f:AV,(ldN 5 d S fun g S=>g=f∧S=S0)∧∃ h:AV,(nilChk x0 S fun i S=>i=h∧S=S0)∧∃ k:AV,(shift h 13 S fun l S=>l=k∧S=S0)∧∃ m:AV,(ld1 k S fun n S=>n=m∧S=S0)∧∃ o:AV,(callF Pg 200 [x0,x1,m] S (fun _ _=>False) fun p S=>p=o∧S=S0)∧∃ q:AV,(callF Pg 210 [f,o] S (fun _ _=>False) fun r S=>r=q∧S=S0)∧Q (.ret q) S) S
theorem calls197{x0 x1:AV}{S:Store}{Q:PoT}(h:m197 x0 x1 S Q):ACalls Pg 197 [x0,x1] S Q:=
 calls_of_vc (fn:=Tryz.f197) (c:=c197) (n:=17) Tryz.func197 (by kernel_rfl) (by kernel_rfl) (by kernel_rfl) ms197 (Eq.mpr (by kernel_rfl) h)
def c198:Code:=(Tryz.f198.body).getD .skip
def ms198:List (List Nat):=[[]]
def m198(x0 x1 x2:AV)(S:Store)(Q:PoT):Prop:=
 (fun S0:Store=>∃ a:AV,(nilChk x0 S fun c S=>c=a∧S=S0)∧∃ d:AV,(shift a 8 S fun e S=>e=d∧S=S0)∧∃ f:AV,(ldN 5 d S fun g S=>g=f∧S=S0)∧∃ h:AV,(nilChk x0 S fun i S=>i=h∧S=S0)∧∃ k:AV,(shift h 13 S fun l S=>l=k∧S=S0)∧∃ m:AV,(ld1 k S fun n S=>n=m∧S=S0)∧∃ o:AV,(callF Pg 200 [x0,x2,m] S (fun _ _=>False) fun p S=>p=o∧S=S0)∧∃ q:AV,(callF Pg 211 [f,x1,o] S (fun _ _=>False) fun r S=>r=q∧S=S0)∧Q (.ret q) S) S
theorem calls198{x0 x1 x2:AV}{S:Store}{Q:PoT}(h:m198 x0 x1 x2 S Q):ACalls Pg 198 [x0,x1,x2] S Q:=
 calls_of_vc (fn:=Tryz.f198) (c:=c198) (n:=20) Tryz.func198 (by kernel_rfl) (by kernel_rfl) (by kernel_rfl) ms198 (Eq.mpr (by kernel_rfl) h)
def c199:Code:=(Tryz.f199.body).getD .skip
def ms199:List (List Nat):=[[]]
def m199(x0 x1:AV)(S:Store)(Q:PoT):Prop:=
 nilChk x0 S fun a S=>shift a 8 S fun c S=>ldN 5 c S fun d S=>callF Pg 162 [d,x1] S Q fun e S=>Q (.ret e) S
theorem calls199{x0 x1:AV}{S:Store}{Q:PoT}(h:m199 x0 x1 S Q):ACalls Pg 199 [x0,x1] S Q:=
 calls_of_vc (fn:=Tryz.f199) (c:=c199) (n:=11) Tryz.func199 (by kernel_rfl) (by kernel_rfl) (by kernel_rfl) ms199 (Eq.mpr (by kernel_rfl) h)
def c181:Code:=(Tryz.f181.body).getD .skip
def ms181:List (List Nat):=[[]]
def m181(x0 x1 x2:AV)(S:Store)(Q:PoT):Prop:=
 bin .eql 0 x1 (.v (.int .i64 9)) S fun a S=>onB a fun b=>gd b (callF Pg 197 [x0,x2] S Q fun c S=>Q (.ret c) S) (bin .eql 0 x1 (.v (.int .i64 10)) S fun d S=>onB d fun b=>gd b (callF Pg 180 [x0,x2] S Q fun e S=>callF Pg 197 [x0,e] S Q fun f S=>callF Pg 180 [x0,f] S Q fun g S=>Q (.ret g) S) (bin .eql 0 x1 (.v (.int .i64 11)) S fun h S=>onB h fun b=>gd b (nilChk x0 S fun i S=>shift i 8 S fun k S=>shift k 1 S fun l S=>ld1 l S fun m S=>callF Pg 198 [x0,m,x2] S Q fun n S=>Q (.ret n) S) (bin .eql 0 x1 (.v (.int .i64 12)) S fun o S=>onB o fun b=>gd b (callF Pg 180 [x0,x2] S Q fun p S=>callF Pg 199 [x0,p] S Q fun q S=>callF Pg 180 [x0,q] S Q fun r S=>Q (.ret r) S) (bin .eql 0 x1 (.v (.int .i64 13)) S fun s S=>onB s fun b=>gd b (callF Pg 199 [x0,x2] S Q fun t S=>Q (.ret t) S) (bin .eql 0 x1 (.v (.int .i64 14)) S fun u S=>onB u fun b=>gd b ((fun S0:Store=>∃ w:AV,(nilChk x0 S fun x S=>x=w∧S=S0)∧∃ y:AV,(shift w 8 S fun z S=>z=y∧S=S0)∧∃ A:AV,(shift y 1 S fun B S=>B=A∧S=S0)∧∃ C:AV,(ld1 A S fun D S=>D=C∧S=S0)∧∃ E:AV,(callF Pg 180 [x0,x2] S (fun _ _=>False) fun F S=>F=E∧S=S0)∧∃ G:AV,(callF Pg 198 [x0,C,E] S (fun _ _=>False) fun H S=>H=G∧S=S0)∧∃ I:AV,(callF Pg 180 [x0,G] S (fun _ _=>False) fun J S=>J=I∧S=S0)∧Q (.ret I) S) S) (callF Pg 180 [x0,x2] S Q fun K S=>Q (.ret K) S))))))
theorem calls181{x0 x1 x2:AV}{S:Store}{Q:PoT}(h:m181 x0 x1 x2 S Q):ACalls Pg 181 [x0,x1,x2] S Q:=
 calls_of_vc (fn:=Tryz.f181) (c:=c181) (n:=63) Tryz.func181 (by kernel_rfl) (by kernel_rfl) (by kernel_rfl) ms181 (Eq.mpr (by kernel_rfl) h)
def c187:Code:=(Tryz.f187.body).getD .skip
def r187:List ResultVar:=Tryz.f187.results.toList
def env187_0(y1 y5 y6 y22 y23:AV):List AV:=[y1,y5,y6,y22,y23]
def lv187_0:List Nat:=[1,5,6,22,23]
def ms187:List (List Nat):=[lv187_0,[]]
def m187(x0 x1:AV)(S:Store)(Q:PoT):Prop:=
 boxN 42 8 x0 S fun c S=>ldN 8 c S fun d S=>callF Pg 84 [d] S Q fun e S=>boxN 82 2 (.a [.v (.int .i64 0),.nl]) S fun f S=>stN 2 f e S fun g S=>ldN 8 c S fun h S=>callF Pg 85 [h] S Q fun i S=>un .not i S fun k S=>onB k fun b=>gd b (Q (.ret .nl) S) (shift f 0 S fun l S=>ld1 l S fun m S=>bin .gtr 0 m (.v (.int .i64 60)) S fun n S=>onB n fun b=>gd b (Q (.ret .nl) S) (shift f 0 S fun o S=>ld1 o S fun p S=>mkN 4 1 [.v (.bool false)] p p S fun q S=>lenS q S fun r S=>loopV lv187_0 (vc Pg (c187.at_ [1,1,1,1,0,1,0,0]) (ms187.drop 1)) 38 (env187_0 x1 f q r (.v (.int .i64 0))) S (blockK 0 (seqK (vc Pg (c187.at_ [1,1,1,1,1]) (ms187.drop 1)) (bodyK Pg r187 Q)))))
theorem calls187{x0 x1:AV}{S:Store}{Q:PoT}(h:m187 x0 x1 S Q):ACalls Pg 187 [x0,x1] S Q:=
 calls_of_vc (fn:=Tryz.f187) (c:=c187) (n:=38) Tryz.func187 (by kernel_rfl) (by kernel_rfl) (by kernel_rfl) ms187 (Eq.mpr (by kernel_rfl) h)
def b187_0(y1 y5 y6 y22 y23:AV)(S:Store)(KE0:KeT)(Q:PoT):Prop:=
 bin .lss 0 y23 y22 S fun a S=>onB a fun b=>gd b (bin .shr 0 y1 y23 S fun c S=>bin .and 0 c (.v (.int .i64 1)) S fun d S=>bin .eql 0 d (.v (.int .i64 1)) S fun e S=>ixS 4 1 y6 y23 S fun f S=>stN 1 f e S fun g S=>bin .add 0 y23 (.v (.int .i64 1)) S fun h S=>KE0 38 (env187_0 y1 y5 y6 y22 h) S) (ldN 2 y5 S fun i S=>callF Pg 154 [i,y6] S Q fun k S=>Q (.ret k) S)
theorem b187_0_eq(y1 y5 y6 y22 y23:AV)(S:Store)(KE0:KeT)(Q:PoT):vc Pg (c187.at_ [1,1,1,1,0,1,0,0]) (ms187.drop 1) (mkE 38 lv187_0 (env187_0 y1 y5 y6 y22 y23)) S (thenK (fgK lv187_0 KE0) (blockK 0 (seqK (vc Pg (c187.at_ [1,1,1,1,1]) (ms187.drop 1)) (bodyK Pg r187 Q))))=b187_0 y1 y5 y6 y22 y23 S KE0 Q:=by kernel_rfl
theorem loop187_0{y1 y5 y6 y22:AV}{y230:AV}{S:Store}{Q:PoT}(I:AV→Store→Prop)(μ:AV→Store→Nat)(h0:I y230 S)
    (hr:∀(y23:AV) (S:Store),I y23 S→∀ KE0:KeT,(∀(y23':AV) (S':Store),I y23' S'→μ y23' S'<μ y23 S→KE0 38 (env187_0 y1 y5 y6 y22 y23') S')→b187_0 y1 y5 y6 y22 y23 S KE0 Q):
    loopV lv187_0 (vc Pg (c187.at_ [1,1,1,1,0,1,0,0]) (ms187.drop 1)) 38 (env187_0 y1 y5 y6 y22 y230) S (blockK 0 (seqK (vc Pg (c187.at_ [1,1,1,1,1]) (ms187.drop 1)) (bodyK Pg r187 Q))):=by
 refine⟨fun n e S=>n=38∧∃ y23:AV,e=(env187_0 y1 y5 y6 y22 y23)∧I y23 S,fun _ e S=>μ (e.getD 4 .j) S,?_,?_⟩
 ·exact⟨_,_,Wk.refl _ _,rfl,_,rfl,h0⟩
 ·rintro _ e S ⟨rfl,y23,rfl,hI⟩
  exact(b187_0_eq _ _ _ _ _ _ _ _).mpr (hr y23 S hI _ (fun y23' S' hI' hm=>⟨_,_,Wk.refl _ _,⟨rfl,_,rfl,hI'⟩,hm⟩))
def c186:Code:=(Tryz.f186.body).getD .skip
def ms186:List (List Nat):=[[]]
def m186(x0 x1:AV)(S:Store)(Q:PoT):Prop:=
 bin .geq 0 x1 (.v (.int .i64 0)) S fun a S=>onB a fun b=>gd b (bin .quo 0 x1 (.v (.int .i64 2)) S fun c S=>lenS x0 S fun d S=>bin .lss 0 c d S fun e S=>onB e fun b=>gd b (bin .quo 0 x1 (.v (.int .i64 2)) S fun f S=>ixS 4 1 x0 f S fun g S=>ld1 g S fun h S=>bin .and 0 x1 (.v (.int .i64 1)) S fun i S=>bin .eql 0 i (.v (.int .i64 1)) S fun k S=>bin .neq 1 h k S fun l S=>Q (.ret l) S) (Q (.ret (.v (.bool false))) S)) (Q (.ret (.v (.bool false))) S)
theorem calls186{x0 x1:AV}{S:Store}{Q:PoT}(h:m186 x0 x1 S Q):ACalls Pg 186 [x0,x1] S Q:=
 calls_of_vc (fn:=Tryz.f186) (c:=c186) (n:=25) Tryz.func186 (by kernel_rfl) (by kernel_rfl) (by kernel_rfl) ms186 (Eq.mpr (by kernel_rfl) h)
def c171:Code:=(Tryz.f171.body).getD .skip
def ms171:List (List Nat):=[[]]
def m171(x0 x1 x2:AV)(S:Store)(Q:PoT):Prop:=
 boxN 42 8 x0 S fun a S=>ldN 8 a S fun c S=>callF Pg 187 [c,x1] S Q fun d S=>callF Pg 186 [d,x2] S Q fun e S=>Q (.ret e) S
theorem calls171{x0 x1 x2:AV}{S:Store}{Q:PoT}(h:m171 x0 x1 x2 S Q):ACalls Pg 171 [x0,x1,x2] S Q:=
 calls_of_vc (fn:=Tryz.f171) (c:=c171) (n:=12) Tryz.func171 (by kernel_rfl) (by kernel_rfl) (by kernel_rfl) ms171 (Eq.mpr (by kernel_rfl) h)
def c46:Code:=(Tryz.f46.body).getD .skip
def r46:List ResultVar:=Tryz.f46.results.toList
def env46_0(y1 y2 y5:AV):List AV:=[y1,y2,y5]
def lv46_0:List Nat:=[1,2,5]
def ms46:List (List Nat):=[lv46_0,[]]
def m46(x0 x1:AV)(S:Store)(Q:PoT):Prop:=
 boxN 24 4 x0 S fun a S=>(fun S0:Store=>∃ c:AV,(bin .lss 0 x1 (.v (.int .i64 1)) S fun d S=>d=c∧S=S0)∧onB c fun b=>gd b (∃ e:AV,((.v (.bool true))=e∧S=S0)∧onB e fun b=>gd b (∃ f:AV,((.v (.bool true))=f∧S=S0)∧onB f fun b=>gd b (∃ g:AV,((.v (.bool true))=g∧S=S0)∧onB g fun b=>gd b (∃ h:AV,((.v (.bool true))=h∧S=S0)∧onB h fun b=>gd b (Q (.ret (.v (.bool false))) S) (loopV lv46_0 (vc Pg (c46.at_ [1,1,0,1,0,0]) (ms46.drop 1)) 53 (env46_0 x1 a (.v (.int .i64 0))) S (blockK 0 (seqK (vc Pg (c46.at_ [1,1,1]) (ms46.drop 1)) (bodyK Pg r46 Q))))) (∃ i:AV,(shift a 0 S fun k S=>k=i∧S=S0)∧∃ l:AV,(ld1 i S fun m S=>m=l∧S=S0)∧∃ n:AV,(bin .neq 0 l (.v (.int .i64 3)) S fun o S=>o=n∧S=S0)∧onB n fun b=>gd b (∃ p:AV,(shift a 2 S fun q S=>q=p∧S=S0)∧∃ r:AV,(ld1 p S fun s S=>s=r∧S=S0)∧∃ t:AV,(bin .neq 0 r (.v (.int .i64 0)) S fun u S=>u=t∧S=S0)∧∃ w:AV,(t=w∧S=S0)∧∃ x:AV,(w=x∧S=S0)∧onB x fun b=>gd b (Q (.ret (.v (.bool false))) S) (loopV lv46_0 (vc Pg (c46.at_ [1,1,0,1,0,0]) (ms46.drop 1)) 53 (env46_0 x1 a (.v (.int .i64 0))) S (blockK 0 (seqK (vc Pg (c46.at_ [1,1,1]) (ms46.drop 1)) (bodyK Pg r46 Q))))) (∃ y:AV,((.v (.bool false))=y∧S=S0)∧∃ z:AV,(y=z∧S=S0)∧onB z fun b=>gd b (Q (.ret (.v (.bool false))) S) (loopV lv46_0 (vc Pg (c46.at_ [1,1,0,1,0,0]) (ms46.drop 1)) 53 (env46_0 x1 a (.v (.int .i64 0))) S (blockK 0 (seqK (vc Pg (c46.at_ [1,1,1]) (ms46.drop 1)) (bodyK Pg r46 Q))))))) (∃ A:AV,(shift a 2 S fun B S=>B=A∧S=S0)∧∃ C:AV,(ld1 A S fun D S=>D=C∧S=S0)∧∃ E:AV,(bin .lss 0 C (.v (.int .i64 0)) S fun F S=>F=E∧S=S0)∧∃ G:AV,(E=G∧S=S0)∧onB G fun b=>gd b (∃ H:AV,((.v (.bool true))=H∧S=S0)∧onB H fun b=>gd b (Q (.ret (.v (.bool false))) S) (loopV lv46_0 (vc Pg (c46.at_ [1,1,0,1,0,0]) (ms46.drop 1)) 53 (env46_0 x1 a (.v (.int .i64 0))) S (blockK 0 (seqK (vc Pg (c46.at_ [1,1,1]) (ms46.drop 1)) (bodyK Pg r46 Q))))) (∃ I:AV,(shift a 0 S fun J S=>J=I∧S=S0)∧∃ K:AV,(ld1 I S fun L S=>L=K∧S=S0)∧∃ M:AV,(bin .neq 0 K (.v (.int .i64 3)) S fun N S=>N=M∧S=S0)∧onB M fun b=>gd b (∃ O:AV,(shift a 2 S fun P S=>P=O∧S=S0)∧∃ R:AV,(ld1 O S fun T S=>T=R∧S=S0)∧∃ U:AV,(bin .neq 0 R (.v (.int .i64 0)) S fun V S=>V=U∧S=S0)∧∃ W:AV,(U=W∧S=S0)∧∃ X:AV,(W=X∧S=S0)∧onB X fun b=>gd b (Q (.ret (.v (.bool false))) S) (loopV lv46_0 (vc Pg (c46.at_ [1,1,0,1,0,0]) (ms46.drop 1)) 53 (env46_0 x1 a (.v (.int .i64 0))) S (blockK 0 (seqK (vc Pg (c46.at_ [1,1,1]) (ms46.drop 1)) (bodyK Pg r46 Q))))) (∃ Y:AV,((.v (.bool false))=Y∧S=S0)∧∃ Z:AV,(Y=Z∧S=S0)∧onB Z fun b=>gd b (Q (.ret (.v (.bool false))) S) (loopV lv46_0 (vc Pg (c46.at_ [1,1,0,1,0,0]) (ms46.drop 1)) 53 (env46_0 x1 a (.v (.int .i64 0))) S (blockK 0 (seqK (vc Pg (c46.at_ [1,1,1]) (ms46.drop 1)) (bodyK Pg r46 Q)))))))) (∃ a0:AV,(shift a 1 S fun a1 S=>a1=a0∧S=S0)∧∃ a2:AV,(ld1 a0 S fun a3 S=>a3=a2∧S=S0)∧∃ a4:AV,(bin .neq 0 a2 (.v (.string { data:=#[] })) S fun a5 S=>a5=a4∧S=S0)∧∃ a6:AV,(a4=a6∧S=S0)∧onB a6 fun b=>gd b (∃ a7:AV,((.v (.bool true))=a7∧S=S0)∧onB a7 fun b=>gd b (∃ a8:AV,((.v (.bool true))=a8∧S=S0)∧onB a8 fun b=>gd b (Q (.ret (.v (.bool false))) S) (loopV lv46_0 (vc Pg (c46.at_ [1,1,0,1,0,0]) (ms46.drop 1)) 53 (env46_0 x1 a (.v (.int .i64 0))) S (blockK 0 (seqK (vc Pg (c46.at_ [1,1,1]) (ms46.drop 1)) (bodyK Pg r46 Q))))) (∃ a9:AV,(shift a 0 S fun b0 S=>b0=a9∧S=S0)∧∃ b1:AV,(ld1 a9 S fun b2 S=>b2=b1∧S=S0)∧∃ b3:AV,(bin .neq 0 b1 (.v (.int .i64 3)) S fun b5 S=>b5=b3∧S=S0)∧onB b3 fun b=>gd b (∃ b7:AV,(shift a 2 S fun b9 S=>b9=b7∧S=S0)∧∃ c0:AV,(ld1 b7 S fun c1 S=>c1=c0∧S=S0)∧∃ c2:AV,(bin .neq 0 c0 (.v (.int .i64 0)) S fun c3 S=>c3=c2∧S=S0)∧∃ c4:AV,(c2=c4∧S=S0)∧∃ c5:AV,(c4=c5∧S=S0)∧onB c5 fun b=>gd b (Q (.ret (.v (.bool false))) S) (loopV lv46_0 (vc Pg (c46.at_ [1,1,0,1,0,0]) (ms46.drop 1)) 53 (env46_0 x1 a (.v (.int .i64 0))) S (blockK 0 (seqK (vc Pg (c46.at_ [1,1,1]) (ms46.drop 1)) (bodyK Pg r46 Q))))) (∃ c6:AV,((.v (.bool false))=c6∧S=S0)∧∃ c7:AV,(c6=c7∧S=S0)∧onB c7 fun b=>gd b (Q (.ret (.v (.bool false))) S) (loopV lv46_0 (vc Pg (c46.at_ [1,1,0,1,0,0]) (ms46.drop 1)) 53 (env46_0 x1 a (.v (.int .i64 0))) S (blockK 0 (seqK (vc Pg (c46.at_ [1,1,1]) (ms46.drop 1)) (bodyK Pg r46 Q))))))) (∃ c8:AV,(shift a 2 S fun c9 S=>c9=c8∧S=S0)∧∃ d0:AV,(ld1 c8 S fun d1 S=>d1=d0∧S=S0)∧∃ d2:AV,(bin .lss 0 d0 (.v (.int .i64 0)) S fun d3 S=>d3=d2∧S=S0)∧∃ d4:AV,(d2=d4∧S=S0)∧onB d4 fun b=>gd b (∃ d5:AV,((.v (.bool true))=d5∧S=S0)∧onB d5 fun b=>gd b (Q (.ret (.v (.bool false))) S) (loopV lv46_0 (vc Pg (c46.at_ [1,1,0,1,0,0]) (ms46.drop 1)) 53 (env46_0 x1 a (.v (.int .i64 0))) S (blockK 0 (seqK (vc Pg (c46.at_ [1,1,1]) (ms46.drop 1)) (bodyK Pg r46 Q))))) (∃ d6:AV,(shift a 0 S fun d7 S=>d7=d6∧S=S0)∧∃ d8:AV,(ld1 d6 S fun d9 S=>d9=d8∧S=S0)∧∃ e0:AV,(bin .neq 0 d8 (.v (.int .i64 3)) S fun e1 S=>e1=e0∧S=S0)∧onB e0 fun b=>gd b (∃ e2:AV,(shift a 2 S fun e3 S=>e3=e2∧S=S0)∧∃ e4:AV,(ld1 e2 S fun e5 S=>e5=e4∧S=S0)∧∃ e6:AV,(bin .neq 0 e4 (.v (.int .i64 0)) S fun e7 S=>e7=e6∧S=S0)∧∃ e8:AV,(e6=e8∧S=S0)∧∃ e9:AV,(e8=e9∧S=S0)∧onB e9 fun b=>gd b (Q (.ret (.v (.bool false))) S) (loopV lv46_0 (vc Pg (c46.at_ [1,1,0,1,0,0]) (ms46.drop 1)) 53 (env46_0 x1 a (.v (.int .i64 0))) S (blockK 0 (seqK (vc Pg (c46.at_ [1,1,1]) (ms46.drop 1)) (bodyK Pg r46 Q))))) (∃ f0:AV,((.v (.bool false))=f0∧S=S0)∧∃ f1:AV,(f0=f1∧S=S0)∧onB f1 fun b=>gd b (Q (.ret (.v (.bool false))) S) (loopV lv46_0 (vc Pg (c46.at_ [1,1,0,1,0,0]) (ms46.drop 1)) 53 (env46_0 x1 a (.v (.int .i64 0))) S (blockK 0 (seqK (vc Pg (c46.at_ [1,1,1]) (ms46.drop 1)) (bodyK Pg r46 Q))))))))) (∃ f2:AV,(shift a 0 S fun f3 S=>f3=f2∧S=S0)∧∃ f4:AV,(ld1 f2 S fun f5 S=>f5=f4∧S=S0)∧∃ f6:AV,(callF Pg 64 [f4] S (fun _ _=>False) fun f7 S=>f7=f6∧S=S0)∧∃ f8:AV,(shift a 3 S fun f9 S=>f9=f8∧S=S0)∧∃ g0:AV,(ld1 f8 S fun g1 S=>g1=g0∧S=S0)∧∃ g2:AV,(lenS g0 S fun g3 S=>g3=g2∧S=S0)∧∃ g4:AV,(bin .neq 0 f6 g2 S fun g5 S=>g5=g4∧S=S0)∧∃ g6:AV,(g4=g6∧S=S0)∧onB g6 fun b=>gd b (∃ g7:AV,((.v (.bool true))=g7∧S=S0)∧onB g7 fun b=>gd b (∃ g8:AV,((.v (.bool true))=g8∧S=S0)∧onB g8 fun b=>gd b (∃ g9:AV,((.v (.bool true))=g9∧S=S0)∧onB g9 fun b=>gd b (Q (.ret (.v (.bool false))) S) (loopV lv46_0 (vc Pg (c46.at_ [1,1,0,1,0,0]) (ms46.drop 1)) 53 (env46_0 x1 a (.v (.int .i64 0))) S (blockK 0 (seqK (vc Pg (c46.at_ [1,1,1]) (ms46.drop 1)) (bodyK Pg r46 Q))))) (∃ h0:AV,(shift a 0 S fun h1 S=>h1=h0∧S=S0)∧∃ h2:AV,(ld1 h0 S fun h3 S=>h3=h2∧S=S0)∧∃ h4:AV,(bin .neq 0 h2 (.v (.int .i64 3)) S fun h5 S=>h5=h4∧S=S0)∧onB h4 fun b=>gd b (∃ h6:AV,(shift a 2 S fun h7 S=>h7=h6∧S=S0)∧∃ h8:AV,(ld1 h6 S fun h9 S=>h9=h8∧S=S0)∧∃ i0:AV,(bin .neq 0 h8 (.v (.int .i64 0)) S fun i1 S=>i1=i0∧S=S0)∧∃ i2:AV,(i0=i2∧S=S0)∧∃ i3:AV,(i2=i3∧S=S0)∧onB i3 fun b=>gd b (Q (.ret (.v (.bool false))) S) (loopV lv46_0 (vc Pg (c46.at_ [1,1,0,1,0,0]) (ms46.drop 1)) 53 (env46_0 x1 a (.v (.int .i64 0))) S (blockK 0 (seqK (vc Pg (c46.at_ [1,1,1]) (ms46.drop 1)) (bodyK Pg r46 Q))))) (∃ i4:AV,((.v (.bool false))=i4∧S=S0)∧∃ i5:AV,(i4=i5∧S=S0)∧onB i5 fun b=>gd b (Q (.ret (.v (.bool false))) S) (loopV lv46_0 (vc Pg (c46.at_ [1,1,0,1,0,0]) (ms46.drop 1)) 53 (env46_0 x1 a (.v (.int .i64 0))) S (blockK 0 (seqK (vc Pg (c46.at_ [1,1,1]) (ms46.drop 1)) (bodyK Pg r46 Q))))))) (∃ i6:AV,(shift a 2 S fun i7 S=>i7=i6∧S=S0)∧∃ i8:AV,(ld1 i6 S fun i9 S=>i9=i8∧S=S0)∧∃ k0:AV,(bin .lss 0 i8 (.v (.int .i64 0)) S fun k1 S=>k1=k0∧S=S0)∧∃ k2:AV,(k0=k2∧S=S0)∧onB k2 fun b=>gd b (∃ k3:AV,((.v (.bool true))=k3∧S=S0)∧onB k3 fun b=>gd b (Q (.ret (.v (.bool false))) S) (loopV lv46_0 (vc Pg (c46.at_ [1,1,0,1,0,0]) (ms46.drop 1)) 53 (env46_0 x1 a (.v (.int .i64 0))) S (blockK 0 (seqK (vc Pg (c46.at_ [1,1,1]) (ms46.drop 1)) (bodyK Pg r46 Q))))) (∃ k4:AV,(shift a 0 S fun k5 S=>k5=k4∧S=S0)∧∃ k6:AV,(ld1 k4 S fun k7 S=>k7=k6∧S=S0)∧∃ k8:AV,(bin .neq 0 k6 (.v (.int .i64 3)) S fun k9 S=>k9=k8∧S=S0)∧onB k8 fun b=>gd b (∃ l0:AV,(shift a 2 S fun l1 S=>l1=l0∧S=S0)∧∃ l2:AV,(ld1 l0 S fun l3 S=>l3=l2∧S=S0)∧∃ l4:AV,(bin .neq 0 l2 (.v (.int .i64 0)) S fun l5 S=>l5=l4∧S=S0)∧∃ l6:AV,(l4=l6∧S=S0)∧∃ l7:AV,(l6=l7∧S=S0)∧onB l7 fun b=>gd b (Q (.ret (.v (.bool false))) S) (loopV lv46_0 (vc Pg (c46.at_ [1,1,0,1,0,0]) (ms46.drop 1)) 53 (env46_0 x1 a (.v (.int .i64 0))) S (blockK 0 (seqK (vc Pg (c46.at_ [1,1,1]) (ms46.drop 1)) (bodyK Pg r46 Q))))) (∃ l8:AV,((.v (.bool false))=l8∧S=S0)∧∃ l9:AV,(l8=l9∧S=S0)∧onB l9 fun b=>gd b (Q (.ret (.v (.bool false))) S) (loopV lv46_0 (vc Pg (c46.at_ [1,1,0,1,0,0]) (ms46.drop 1)) 53 (env46_0 x1 a (.v (.int .i64 0))) S (blockK 0 (seqK (vc Pg (c46.at_ [1,1,1]) (ms46.drop 1)) (bodyK Pg r46 Q)))))))) (∃ aA:AV,(shift a 1 S fun aB S=>aB=aA∧S=S0)∧∃ aC:AV,(ld1 aA S fun aD S=>aD=aC∧S=S0)∧∃ aE:AV,(bin .neq 0 aC (.v (.string { data:=#[] })) S fun aF S=>aF=aE∧S=S0)∧∃ aG:AV,(aE=aG∧S=S0)∧onB aG fun b=>gd b (∃ aH:AV,((.v (.bool true))=aH∧S=S0)∧onB aH fun b=>gd b (∃ aI:AV,((.v (.bool true))=aI∧S=S0)∧onB aI fun b=>gd b (Q (.ret (.v (.bool false))) S) (loopV lv46_0 (vc Pg (c46.at_ [1,1,0,1,0,0]) (ms46.drop 1)) 53 (env46_0 x1 a (.v (.int .i64 0))) S (blockK 0 (seqK (vc Pg (c46.at_ [1,1,1]) (ms46.drop 1)) (bodyK Pg r46 Q))))) (∃ aJ:AV,(shift a 0 S fun aK S=>aK=aJ∧S=S0)∧∃ aL:AV,(ld1 aJ S fun aM S=>aM=aL∧S=S0)∧∃ aN:AV,(bin .neq 0 aL (.v (.int .i64 3)) S fun aO S=>aO=aN∧S=S0)∧onB aN fun b=>gd b (∃ aP:AV,(shift a 2 S fun aQ S=>aQ=aP∧S=S0)∧∃ aR:AV,(ld1 aP S fun aS S=>aS=aR∧S=S0)∧∃ aT:AV,(bin .neq 0 aR (.v (.int .i64 0)) S fun aU S=>aU=aT∧S=S0)∧∃ aV:AV,(aT=aV∧S=S0)∧∃ aW:AV,(aV=aW∧S=S0)∧onB aW fun b=>gd b (Q (.ret (.v (.bool false))) S) (loopV lv46_0 (vc Pg (c46.at_ [1,1,0,1,0,0]) (ms46.drop 1)) 53 (env46_0 x1 a (.v (.int .i64 0))) S (blockK 0 (seqK (vc Pg (c46.at_ [1,1,1]) (ms46.drop 1)) (bodyK Pg r46 Q))))) (∃ aX:AV,((.v (.bool false))=aX∧S=S0)∧∃ aY:AV,(aX=aY∧S=S0)∧onB aY fun b=>gd b (Q (.ret (.v (.bool false))) S) (loopV lv46_0 (vc Pg (c46.at_ [1,1,0,1,0,0]) (ms46.drop 1)) 53 (env46_0 x1 a (.v (.int .i64 0))) S (blockK 0 (seqK (vc Pg (c46.at_ [1,1,1]) (ms46.drop 1)) (bodyK Pg r46 Q))))))) (∃ aZ:AV,(shift a 2 S fun bA S=>bA=aZ∧S=S0)∧∃ bB:AV,(ld1 aZ S fun bC S=>bC=bB∧S=S0)∧∃ bD:AV,(bin .lss 0 bB (.v (.int .i64 0)) S fun bE S=>bE=bD∧S=S0)∧∃ bF:AV,(bD=bF∧S=S0)∧onB bF fun b=>gd b (∃ bG:AV,((.v (.bool true))=bG∧S=S0)∧onB bG fun b=>gd b (Q (.ret (.v (.bool false))) S) (loopV lv46_0 (vc Pg (c46.at_ [1,1,0,1,0,0]) (ms46.drop 1)) 53 (env46_0 x1 a (.v (.int .i64 0))) S (blockK 0 (seqK (vc Pg (c46.at_ [1,1,1]) (ms46.drop 1)) (bodyK Pg r46 Q))))) (∃ bH:AV,(shift a 0 S fun bI S=>bI=bH∧S=S0)∧∃ bJ:AV,(ld1 bH S fun bK S=>bK=bJ∧S=S0)∧∃ bL:AV,(bin .neq 0 bJ (.v (.int .i64 3)) S fun bM S=>bM=bL∧S=S0)∧onB bL fun b=>gd b (∃ bN:AV,(shift a 2 S fun bO S=>bO=bN∧S=S0)∧∃ bP:AV,(ld1 bN S fun bQ S=>bQ=bP∧S=S0)∧∃ bR:AV,(bin .neq 0 bP (.v (.int .i64 0)) S fun bS S=>bS=bR∧S=S0)∧∃ bT:AV,(bR=bT∧S=S0)∧∃ bU:AV,(bT=bU∧S=S0)∧onB bU fun b=>gd b (Q (.ret (.v (.bool false))) S) (loopV lv46_0 (vc Pg (c46.at_ [1,1,0,1,0,0]) (ms46.drop 1)) 53 (env46_0 x1 a (.v (.int .i64 0))) S (blockK 0 (seqK (vc Pg (c46.at_ [1,1,1]) (ms46.drop 1)) (bodyK Pg r46 Q))))) (∃ bV:AV,((.v (.bool false))=bV∧S=S0)∧∃ bW:AV,(bV=bW∧S=S0)∧onB bW fun b=>gd b (Q (.ret (.v (.bool false))) S) (loopV lv46_0 (vc Pg (c46.at_ [1,1,0,1,0,0]) (ms46.drop 1)) 53 (env46_0 x1 a (.v (.int .i64 0))) S (blockK 0 (seqK (vc Pg (c46.at_ [1,1,1]) (ms46.drop 1)) (bodyK Pg r46 Q)))))))))) S
theorem calls46{x0 x1:AV}{S:Store}{Q:PoT}(h:m46 x0 x1 S Q):ACalls Pg 46 [x0,x1] S Q:=
 calls_of_vc (fn:=Tryz.f46) (c:=c46) (n:=53) Tryz.func46 (by kernel_rfl) (by kernel_rfl) (by kernel_rfl) ms46 (Eq.mpr (by kernel_rfl) h)
def b46_0(y1 y2 y5:AV)(S:Store)(KE0:KeT)(Q:PoT):Prop:=
 shift y2 3 S fun a S=>ld1 a S fun c S=>lenS c S fun d S=>bin .lss 0 y5 d S fun e S=>onB e fun b=>gd b (shift y2 3 S fun f S=>ld1 f S fun g S=>ixS 24 4 g y5 S fun h S=>ldN 4 h S fun i S=>bin .sub 0 y1 (.v (.int .i64 1)) S fun k S=>callF Pg 46 [i,k] S Q fun l S=>un .not l S fun m S=>onB m fun b=>gd b (Q (.ret (.v (.bool false))) S) (bin .add 0 y5 (.v (.int .i64 1)) S fun n S=>KE0 53 (env46_0 y1 y2 n) S)) (Q (.ret (.v (.bool true))) S)
theorem b46_0_eq(y1 y2 y5:AV)(S:Store)(KE0:KeT)(Q:PoT):vc Pg (c46.at_ [1,1,0,1,0,0]) (ms46.drop 1) (mkE 53 lv46_0 (env46_0 y1 y2 y5)) S (thenK (fgK lv46_0 KE0) (blockK 0 (seqK (vc Pg (c46.at_ [1,1,1]) (ms46.drop 1)) (bodyK Pg r46 Q))))=b46_0 y1 y2 y5 S KE0 Q:=by kernel_rfl
theorem loop46_0{y1 y2:AV}{y50:AV}{S:Store}{Q:PoT}(I:AV→Store→Prop)(μ:AV→Store→Nat)(h0:I y50 S)
    (hr:∀(y5:AV) (S:Store),I y5 S→∀ KE0:KeT,(∀(y5':AV) (S':Store),I y5' S'→μ y5' S'<μ y5 S→KE0 53 (env46_0 y1 y2 y5') S')→b46_0 y1 y2 y5 S KE0 Q):
    loopV lv46_0 (vc Pg (c46.at_ [1,1,0,1,0,0]) (ms46.drop 1)) 53 (env46_0 y1 y2 y50) S (blockK 0 (seqK (vc Pg (c46.at_ [1,1,1]) (ms46.drop 1)) (bodyK Pg r46 Q))):=by
 refine⟨fun n e S=>n=53∧∃ y5:AV,e=(env46_0 y1 y2 y5)∧I y5 S,fun _ e S=>μ (e.getD 2 .j) S,?_,?_⟩
 ·exact⟨_,_,Wk.refl _ _,rfl,_,rfl,h0⟩
 ·rintro _ e S ⟨rfl,y5,rfl,hI⟩
  exact(b46_0_eq _ _ _ _ _ _).mpr (hr y5 S hI _ (fun y5' S' hI' hm=>⟨_,_,Wk.refl _ _,⟨rfl,_,rfl,hI'⟩,hm⟩))
def c86:Code:=(Tryz.f86.body).getD .skip
def ms86:List (List Nat):=[[]]
def m86(x0 x1:AV)(S:Store)(Q:PoT):Prop:=
 boxN 24 4 x0 S fun a S=>boxN 134 1 x1 S fun c S=>shift a 0 S fun d S=>ld1 d S fun e S=>bin .neq 0 e (.v (.int .i64 3)) S fun g S=>onB g fun b=>gd b (shift a 3 S fun h S=>ld1 h S fun i S=>callF Pg 72 [i,(.f (.func 134) [] [c])] S Q fun k S=>un .not k S fun l S=>Q (.ret l) S) (ld1 c S fun m S=>shift a 2 S fun n S=>ld1 n S fun o S=>callV Pg m [o] S (fun p S=>onB p fun b=>gd b (shift a 3 S fun q S=>ld1 q S fun r S=>callF Pg 72 [r,(.f (.func 134) [] [c])] S Q fun s S=>un .not s S fun t S=>Q (.ret t) S) (Q (.ret (.v (.bool false))) S)) (fun u S=>Q (.pan u) S))
theorem calls86{x0 x1:AV}{S:Store}{Q:PoT}(h:m86 x0 x1 S Q):ACalls Pg 86 [x0,x1] S Q:=
 calls_of_vc (fn:=Tryz.f86) (c:=c86) (n:=23) Tryz.func86 (by kernel_rfl) (by kernel_rfl) (by kernel_rfl) ms86 (Eq.mpr (by kernel_rfl) h)
def c134:Code:=(Tryz.f134.body).getD .skip
def ms134:List (List Nat):=[[]]
def m134(x0 x1:AV)(S:Store)(Q:PoT):Prop:=
 boxN 24 4 x0 S fun a S=>ldN 4 a S fun c S=>ld1 x1 S fun d S=>callF Pg 86 [c,d] S Q fun e S=>un .not e S fun f S=>Q (.ret f) S
theorem calls134{x0 x1:AV}{S:Store}{Q:PoT}(h:m134 x0 x1 S Q):ACalls Pg 134 [x0,x1] S Q:=
 calls_of_vc (fn:=Tryz.f134) (c:=c134) (n:=8) Tryz.func134 (by kernel_rfl) (by kernel_rfl) (by kernel_rfl) ms134 (Eq.mpr (by kernel_rfl) h)
def c52:Code:=(Tryz.f52.body).getD .skip
def ms52:List (List Nat):=[[]]
def m52(x0 x1:AV)(S:Store)(Q:PoT):Prop:=
 boxN 42 8 x0 S fun c S=>boxN 24 4 x1 S fun d S=>ldN 8 c S fun e S=>callF Pg 84 [e] S Q fun g S=>boxN 82 2 (.a [.v (.int .i64 0),.nl]) S fun h S=>stN 2 h g S fun i S=>ldN 8 c S fun k S=>callF Pg 85 [k] S Q fun l S=>onB l fun b=>gd b (ldN 4 d S fun m S=>callF Pg 43 [m,.v (.int .i64 60)] S Q fun n S=>onB n fun b=>gd b (ldN 4 d S fun o S=>callF Pg 86 [o,(.f (.func 87) [] [h])] S Q fun p S=>Q (.ret p) S) (Q (.ret (.v (.bool false))) S)) (Q (.ret (.v (.bool false))) S)
theorem calls52{x0 x1:AV}{S:Store}{Q:PoT}(h:m52 x0 x1 S Q):ACalls Pg 52 [x0,x1] S Q:=
 calls_of_vc (fn:=Tryz.f52) (c:=c52) (n:=19) Tryz.func52 (by kernel_rfl) (by kernel_rfl) (by kernel_rfl) ms52 (Eq.mpr (by kernel_rfl) h)
def c87:Code:=(Tryz.f87.body).getD .skip
def ms87:List (List Nat):=[[]]
def m87(x0 x1:AV)(S:Store)(Q:PoT):Prop:=
 ldN 2 x1 S fun a S=>callF Pg 88 [a,x0] S Q fun c S=>Q (.ret c) S
theorem calls87{x0 x1:AV}{S:Store}{Q:PoT}(h:m87 x0 x1 S Q):ACalls Pg 87 [x0,x1] S Q:=
 calls_of_vc (fn:=Tryz.f87) (c:=c87) (n:=7) Tryz.func87 (by kernel_rfl) (by kernel_rfl) (by kernel_rfl) ms87 (Eq.mpr (by kernel_rfl) h)
def c101:Code:=(Tryz.f101.body).getD .skip
def r101:List ResultVar:=Tryz.f101.results.toList
def env101_0(y2 y3 y5:AV):List AV:=[y2,y3,y5]
def lv101_0:List Nat:=[2,3,5]
def ms101:List (List Nat):=[lv101_0,[]]
def m101(x0 x1:AV)(S:Store)(Q:PoT):Prop:=
 boxN 82 2 x0 S fun a S=>boxN 24 4 x1 S fun c S=>shift c 0 S fun d S=>ld1 d S fun e S=>bin .eql 0 e (.v (.int .i64 3)) S fun f S=>onB f fun b=>gd b (ldN 2 a S fun g S=>shift c 2 S fun h S=>ld1 h S fun i S=>callF Pg 112 [g,i] S Q fun k S=>un .not k S fun l S=>onB l fun b=>gd b (Q (.ret (.v (.bool false))) S) (loopV lv101_0 (vc Pg (c101.at_ [1,1,0,1,0,0]) (ms101.drop 1)) 31 (env101_0 a c (.v (.int .i64 0))) S (blockK 0 (seqK (vc Pg (c101.at_ [1,1,1]) (ms101.drop 1)) (bodyK Pg r101 Q))))) (loopV lv101_0 (vc Pg (c101.at_ [1,1,0,1,0,0]) (ms101.drop 1)) 31 (env101_0 a c (.v (.int .i64 0))) S (blockK 0 (seqK (vc Pg (c101.at_ [1,1,1]) (ms101.drop 1)) (bodyK Pg r101 Q))))
theorem calls101{x0 x1:AV}{S:Store}{Q:PoT}(h:m101 x0 x1 S Q):ACalls Pg 101 [x0,x1] S Q:=
 calls_of_vc (fn:=Tryz.f101) (c:=c101) (n:=31) Tryz.func101 (by kernel_rfl) (by kernel_rfl) (by kernel_rfl) ms101 (Eq.mpr (by kernel_rfl) h)
def b101_0(y2 y3 y5:AV)(S:Store)(KE0:KeT)(Q:PoT):Prop:=
 shift y3 3 S fun a S=>ld1 a S fun c S=>lenS c S fun d S=>bin .lss 0 y5 d S fun e S=>onB e fun b=>gd b ((fun S0:Store=>∃ f:AV,(ldN 2 y2 S fun g S=>g=f∧S=S0)∧∃ h:AV,(shift y3 3 S fun i S=>i=h∧S=S0)∧∃ k:AV,(ld1 h S fun l S=>l=k∧S=S0)∧∃ m:AV,(ixS 24 4 k y5 S fun n S=>n=m∧S=S0)∧∃ o:AV,(ldN 4 m S fun p S=>p=o∧S=S0)∧∃ q:AV,(callF Pg 101 [f,o] S (fun _ _=>False) fun r S=>r=q∧S=S0)∧∃ s:AV,(un .not q S fun t S=>t=s∧S=S0)∧onB s fun b=>gd b (Q (.ret (.v (.bool false))) S) (bin .add 0 y5 (.v (.int .i64 1)) S fun u S=>KE0 31 (env101_0 y2 y3 u) S)) S) (Q (.ret (.v (.bool true))) S)
theorem b101_0_eq(y2 y3 y5:AV)(S:Store)(KE0:KeT)(Q:PoT):vc Pg (c101.at_ [1,1,0,1,0,0]) (ms101.drop 1) (mkE 31 lv101_0 (env101_0 y2 y3 y5)) S (thenK (fgK lv101_0 KE0) (blockK 0 (seqK (vc Pg (c101.at_ [1,1,1]) (ms101.drop 1)) (bodyK Pg r101 Q))))=b101_0 y2 y3 y5 S KE0 Q:=by kernel_rfl
theorem loop101_0{y2 y3:AV}{y50:AV}{S:Store}{Q:PoT}(I:AV→Store→Prop)(μ:AV→Store→Nat)(h0:I y50 S)
    (hr:∀(y5:AV) (S:Store),I y5 S→∀ KE0:KeT,(∀(y5':AV) (S':Store),I y5' S'→μ y5' S'<μ y5 S→KE0 31 (env101_0 y2 y3 y5') S')→b101_0 y2 y3 y5 S KE0 Q):
    loopV lv101_0 (vc Pg (c101.at_ [1,1,0,1,0,0]) (ms101.drop 1)) 31 (env101_0 y2 y3 y50) S (blockK 0 (seqK (vc Pg (c101.at_ [1,1,1]) (ms101.drop 1)) (bodyK Pg r101 Q))):=by
 refine⟨fun n e S=>n=31∧∃ y5:AV,e=(env101_0 y2 y3 y5)∧I y5 S,fun _ e S=>μ (e.getD 2 .j) S,?_,?_⟩
 ·exact⟨_,_,Wk.refl _ _,rfl,_,rfl,h0⟩
 ·rintro _ e S ⟨rfl,y5,rfl,hI⟩
  exact(b101_0_eq _ _ _ _ _ _).mpr (hr y5 S hI _ (fun y5' S' hI' hm=>⟨_,_,Wk.refl _ _,⟨rfl,_,rfl,hI'⟩,hm⟩))
def c55:Code:=(Tryz.f55.body).getD .skip
def ms55:List (List Nat):=[[]]
def m55(x0 x1:AV)(S:Store)(Q:PoT):Prop:=
 boxN 42 8 x0 S fun a S=>boxN 24 4 x1 S fun c S=>(fun S0:Store=>∃ d:AV,(ldN 8 a S fun e S=>e=d∧S=S0)∧∃ f:AV,(callF Pg 65 [d] S (fun _ _=>False) fun g S=>g=f∧S=S0)∧onB f fun b=>gd b (∃ h:AV,(ldN 4 c S fun i S=>i=h∧S=S0)∧∃ k:AV,(callF Pg 46 [h,.v (.int .i64 60)] S (fun _ _=>False) fun l S=>l=k∧S=S0)∧∃ m:AV,(k=m∧S=S0)∧onB m fun b=>gd b (∃ n:AV,(ldN 8 a S fun o S=>o=n∧S=S0)∧∃ p:AV,(callF Pg 41 [n] S (fun _ _=>False) fun q S=>q=p∧S=S0)∧∃ r:AV,(ldN 4 c S fun s S=>s=r∧S=S0)∧∃ t:AV,(callF Pg 101 [p,r] S (fun _ _=>False) fun u S=>u=t∧S=S0)∧∃ w:AV,(t=w∧S=S0)∧Q (.ret w) S) (∃ x:AV,((.v (.bool false))=x∧S=S0)∧Q (.ret x) S)) (∃ y:AV,((.v (.bool false))=y∧S=S0)∧onB y fun b=>gd b (∃ z:AV,(ldN 8 a S fun A S=>A=z∧S=S0)∧∃ B:AV,(callF Pg 41 [z] S (fun _ _=>False) fun C S=>C=B∧S=S0)∧∃ D:AV,(ldN 4 c S fun E S=>E=D∧S=S0)∧∃ F:AV,(callF Pg 101 [B,D] S (fun _ _=>False) fun G S=>G=F∧S=S0)∧∃ H:AV,(F=H∧S=S0)∧Q (.ret H) S) (∃ I:AV,((.v (.bool false))=I∧S=S0)∧Q (.ret I) S))) S
theorem calls55{x0 x1:AV}{S:Store}{Q:PoT}(h:m55 x0 x1 S Q):ACalls Pg 55 [x0,x1] S Q:=
 calls_of_vc (fn:=Tryz.f55) (c:=c55) (n:=17) Tryz.func55 (by kernel_rfl) (by kernel_rfl) (by kernel_rfl) ms55 (Eq.mpr (by kernel_rfl) h)
end
end
end Go.Proofs.YtolgpokppnajdaaGreat.G

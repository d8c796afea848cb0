/- Tree -/
import Derived.Test.YtfhekpnddoihkaaGreatTgT5
set_option linter.unusedVariables false
set_option linter.unusedSimpArgs false
namespace Go.Proofs.YtfhekpnddoihkaaGreat.G
open Go Go.Ab
noncomputable section
set_option linter.unusedSectionVars false
theorem LJ_T0{e:Nat}{t:Tn}{l:List Tn}{S0:Store}{P:AV→Prop}:(∃ q,(∀ T,Keep S0 T→ixS e 5 (tnL (t :: l)) (.v (.int .i64 0)) T fun v S=>v=q∧S=T)∧P q)=P (.q t.row 0):=LJ_of (op:=fun T K=>ixS e 5 (tnL (t :: l)) (.v (.int .i64 0)) T K) fun T hT K=>ixT0
theorem LJ_Ti{e i:Nat}{l:List Tn}(h:i<l.length){S0:Store}{P:AV→Prop}:(∃ q,(∀ T,Keep S0 T→ixS e 5 (tnL l) (aI i) T fun v S=>v=q∧S=T)∧P q)=P (.q l[i].row 0):=LJ_of (op:=fun T K=>ixS e 5 (tnL l) (aI i) T K) fun T hT K=>ixS_tnL h
theorem LJ_T1{e:Nat}{t t1:Tn}{l:List Tn}{S0:Store}{P:AV→Prop}:(∃ q,(∀ T,Keep S0 T→ixS e 5 (tnL (t :: t1 :: l)) (.v (.int .i64 1)) T fun v S=>v=q∧S=T)∧P q)=P (.q t1.row 0):=LJ_Ti (i:=1) (l:=t :: t1 :: l) (by simp)
theorem LJ_lenT{l:List Tn}{S0:Store}{P:AV→Prop}:(∃ q,(∀ T,Keep S0 T→lenS (tnL l) T fun v S=>v=q∧S=T)∧P q)=P (aI l.length):=LJ_of (op:=fun T K=>lenS (tnL l) T K) fun T hT K=>lenS_tnL l
theorem PlR.one{c:Ci}{id:Nat}{S S':Store}{n:Int}{r:Int × Bool}{e:AEnd}(h:PlR c id S n r e S'):PlR c id S n (seqR r (0,true)) e S':=by
 obtain⟨n',h1,h2,h3,h4⟩:=h
 unfold seqR
 cases hr:r.2 with
 |false=>exact⟨n',by rw[h1,hr,if_neg (by simp)],h2,(fun h=>by simp at h),h4⟩
 |true=>exact⟨n',by rw[h1,hr,if_pos ⟨rfl,rfl⟩],h2,(fun _=>by rw[if_pos ⟨rfl,rfl⟩];show n'=IntKind.i64.wrap (n+IntKind.i64.wrap (r.1+0));rw[wrap_wrap',Int.add_zero];exact h3 hr),h4⟩
section
variable {c:Ci} (hc:Cs c) {id:Nat} {ks:List Tn} (hk:∀ t∈ks,HK c id t) (hkl:ks.length≤1000000) {ss:List Int} (hs:ss.length≤1000000) (tk s a:Int) {S:Store} {n:Int} (h:S.obj id=some (plO c n)) (hid:id<S.n) (hn:i64R n)
include hc hk hkl hs h hid hn
theorem pl49(f:Fo):ACalls Pg 49 [.p id 0 0,f.av,(Tn.mk tk s a ss ks).av] S (PlR c id S n (0,leafB 1 tk a ss ks)):=by
 refine calls49 ?_
 unfold m49
 have cl:=ans88 tk s a ss ks 1
 rw[Tn.av,Tn.row_mk]at cl ⊢
 refine boxA_of (Fo.row_len f) fun S1 k1 n1 o1=>?_
 refine boxA_of rfl fun S2 k2 n2 o2=>?_
 have kk:=k1.trans k2
 rw[ldN_p (n:=5) o2 rfl]
 exact callF_ans cl (PlR.same kk ((kk.2 _ hid).trans h) hn)
theorem pl50(k:Int)(nm:ByteArray){l:Int}(hl:i64R l)(fs:List Fo):ACalls Pg 50 [.p id 0 0,(Fo.mk k nm l fs).av,(Tn.mk tk s a ss ks).av] S (PlR c id S n (0,leafB 1 tk a ss ks && isB c s l)):=by
 refine calls50 ?_
 unfold m50
 have cl:=ans88 tk s a ss ks 1
 rw[Tn.av,Tn.row_mk]at cl ⊢
 rw[Fo.av,Fo.row_mk]
 refine boxA_of rfl fun S1 k1 n1 o1=>?_
 refine boxA_of rfl fun S2 k2 n2 o2=>?_
 have kk:=k1.trans k2
 have p1:=(k2.2 _ (by omega)).trans o1
 have q:=(kk.2 _ hid).trans h
 rw[ldN_p (n:=5) o2 rfl]
 refine callF_ans cl ?_
 rw[onB_v]
 refine gd_of (fun e=>?_) (fun e=>?_)
 ·rw[e,Bool.true_and,shift_p,ld1_p o2 rfl rfl,shift_p,ld1_p p1 rfl rfl]
  exact callF_at (at89 hc.ok q s hl) (PlR.same kk q hn)
 ·rw[e,Bool.false_and]
  exact PlR.same kk q hn
theorem pl51(k l2:Int)(nm n2:ByteArray){l:Int}(hl:i64R l)(fs:List Fo):ACalls Pg 51 [.p id 0 0,(Fo.mk k nm l2 [.mk 3 n2 l fs]).av,(Tn.mk tk s a ss ks).av] S (PlR c id S n (0,leafB 1 tk a ss ks && !isB c s l)):=by
 refine calls51 ?_
 unfold m51
 have cl:=ans88 tk s a ss ks 1
 rw[Tn.av,Tn.row_mk]at cl ⊢
 rw[Fo.av,Fo.row_mk]
 have r2:(Fo.mk 3 n2 l fs).row[2]? = some (aI l):=by rw[Fo.row_mk];rfl
 refine boxA_of rfl fun S1 k1 n1 o1=>?_
 refine boxA_of rfl fun S2 k2 n2 o2=>?_
 have kk:=k1.trans k2
 have p1:=(k2.2 _ (by omega)).trans o1
 have q:=(kk.2 _ hid).trans h
 show ∃ q:AV,_
 cases e:leafB 1 tk a ss ks with
 |false =>
  rw[e]at cl
  (repeat (first|with_reducible_and_instances (first|refine WJ ?_|refine W (J_ldN (n:=5) o2 (by with_unfolding_all rfl)) ?_|refine W (gd_T e) ?_|refine W (gd_F e) ?_|refine W (gd_nT e) ?_|refine W (gd_nF e) ?_|refine W (J_ldq (by with_unfolding_all rfl)) ?_)|refine J_cA (cl) rfl rfl ?_|refine C_A (cl) rfl rfl ?_))
  rw[Bool.false_and]
  exact PlR.same kk q hn
 |true =>
  rw[e]at cl
  (repeat (first|with_reducible_and_instances (first|refine WJ ?_|refine W (J_ldN (n:=5) o2 (by with_unfolding_all rfl)) ?_|refine W (J_ldp o2 (by with_unfolding_all rfl) (by with_unfolding_all rfl)) ?_|refine W (J_ldp p1 (by with_unfolding_all rfl) (by with_unfolding_all rfl)) ?_|refine W (J_F0) ?_|refine W (J_ldq r2) ?_|refine W (gd_T e) ?_|refine W (gd_F e) ?_|refine W (gd_nT e) ?_|refine W (gd_nF e) ?_|refine W (J_ldq (by with_unfolding_all rfl)) ?_)|refine J_cA (cl) rfl rfl ?_|refine C_A (cl) rfl rfl ?_|refine J_cI (at89 hc.ok q s hl) rfl rfl ?_|refine C_I (at89 hc.ok q s hl) rfl rfl ?_))
  rw[Bool.true_and]
  exact PlR.same kk q hn
theorem pl52{f g:Fo}(hf:Pu f)(hg:Pu g)(k l:Int)(nm:ByteArray):ACalls Pg 52 [.p id 0 0,(Fo.mk k nm l [f,g]).av,(Tn.mk tk s a ss ks).av] S (PlR c id S n (if tk=2∧a=0∧ss = []then Tn.accs c ks [f,g] [s,s] 0 else(0,false))):=by
 refine calls52 ?_
 unfold m52
 have cb:=ans90 tk s a ss ks 2
 rw[Tn.av,Tn.row_mk]at cb ⊢
 rw[Fo.av,Fo.row_mk]
 refine boxA_of rfl fun S1 k1 n1 o1=>?_
 refine boxA_of rfl fun S2 k2 n2 o2=>?_
 have kk:=k1.trans k2
 have p1:=(k2.2 _ (by omega)).trans o1
 have q:=(kk.2 _ hid).trans h
 show ∃ q:AV,_
 by_cases e1:¬ (tk=2∧a=0∧ss.length=0)
 ·rw[show(decide (tk=2) && decide (a=0∧ss.length=0))=false by rw[←Bool.decide_and];exact decide_eq_false e1]at cb
  (repeat (first|with_reducible_and_instances (first|refine WJ ?_|refine W (LJ_ldN (n:=5) o2 (by omega) (by with_unfolding_all rfl)) ?_|refine W (J_ldq (by with_unfolding_all rfl)) ?_)|refine J_cA (cb) rfl rfl ?_|refine C_A (cb) rfl rfl ?_|refine L_cA (cb) rfl rfl ?_))
  rw[if_neg (fun hq=>e1 ⟨hq.1,hq.2.1,by rw[hq.2.2];rfl⟩)]
  exact PlR.same kk q hn
 have e1:=Decidable.not_not.1 e1
 rw[show(decide (tk=2) && decide (a=0∧ss.length=0))=true by rw[←Bool.decide_and];exact decide_eq_true e1]at cb
 rw[if_pos ⟨e1.1,e1.2.1,List.eq_nil_of_length_eq_zero e1.2.2⟩]
 (repeat (first|with_reducible_and_instances (first|refine WJ ?_|refine W (LJ_ldN (n:=5) o2 (by omega) (by with_unfolding_all rfl)) ?_|refine W (LJ_ldp o2 (by omega) (by with_unfolding_all rfl) (by with_unfolding_all rfl)) ?_|refine W (LJ_lenT) ?_|refine W (J_ldq (by with_unfolding_all rfl)) ?_)|refine J_cA (cb) rfl rfl ?_|refine C_A (cb) rfl rfl ?_|refine L_cA (cb) rfl rfl ?_))
 by_cases e2:¬ ks.length=2
 ·rw[show decide ((ks.length:Int)=2)=false from decide_eq_false (by omega)]
  (repeat (first|with_reducible_and_instances (first|refine WJ ?_|refine W (J_ldq (by with_unfolding_all rfl)) ?_)))
  rw[accs_len c ks _ _ _ (fun hq=>e2 (by have:=hq.1;simpa using this.symm))]
  exact PlR.same kk q hn
 have e2:=Decidable.not_not.1 e2
 rw[show decide ((ks.length:Int)=2)=true from decide_eq_true (by omega)]
 obtain⟨t0,t1,rfl⟩:∃ t0 t1,ks = [t0,t1]:=by
  match ks,e2 with
  |[t0,t1],_=>exact⟨t0,t1,rfl⟩
 rw[accs_seq,seq_none]
 (repeat (first|with_reducible_and_instances (first|refine WJ ?_|refine W (LJ_ldp o2 (by omega) (by with_unfolding_all rfl) (by with_unfolding_all rfl)) ?_|refine W (LJ_ldp p1 (by omega) (by with_unfolding_all rfl) (by with_unfolding_all rfl)) ?_|refine W (LJ_F0) ?_|refine W (LJ_T0) ?_|refine W (LJ_ldNq (Fo.row_len _)) ?_|refine W (LJ_ldNq (Tn.row_len _)) ?_|refine W (J_ldq (by with_unfolding_all rfl)) ?_)))
 refine callF_pl (pl91 (hk t0 (by simp)) hf q (by omega) hn s) fun m S3 hm h1 hn3 q3 f3=>?_
 have o3:=(f3 _ (by omega) (by omega)).trans o2
 have p3:=(f3 _ (by omega) (by omega)).trans p1
 have kk3:∀ x,x<S.n→x≠id→S3.obj x=S.obj x:=fun x hx hne=>(f3 x (by have:=kk.1;omega) hne).trans (kk.2 x hx)
 cases e3:(rat c t0 f s).2 with
 |false =>
  (repeat (first|with_reducible_and_instances (first|refine WJ ?_|refine W (J_ldq (by with_unfolding_all rfl)) ?_)))
  exact PlR.seqF e3 hm (by omega) q3 kk3
 |true =>
  (repeat (first|with_reducible_and_instances (first|refine WJ ?_|refine W (LJ_ldp o3 (by omega) (by with_unfolding_all rfl) (by with_unfolding_all rfl)) ?_|refine W (LJ_ldp p3 (by omega) (by with_unfolding_all rfl) (by with_unfolding_all rfl)) ?_|refine W (LJ_F1) ?_|refine W (LJ_T1) ?_|refine W (LJ_ldNq (Fo.row_len _)) ?_|refine W (LJ_ldNq (Tn.row_len _)) ?_|refine W (J_ldq (by with_unfolding_all rfl)) ?_)))
  refine callF_pr (pl91 (hk t1 (by simp)) hg q3 (by omega) hm s) fun S4 hp=>?_
  (repeat (first|with_reducible_and_instances (first|refine WJ ?_|refine W (J_ldq (by with_unfolding_all rfl)) ?_)))
  exact PlR.seq e3 (h1 e3) (by omega) kk3 hp.one
theorem pl92{f g:Fo}(hf:Pu f)(hg:Pu g):ACalls Pg 92 [.p id 0 0,(Tn.mk tk s a ss ks).av,foL [f,g]] S (PlR c id S n (if tk=3∧0≤a∧a≤1∧ss = []then Tn.accs c ks [[f,g].getD a.toNat fo0] [s] 0 else(0,false))):=by
 refine calls92 ?_
 unfold m92
 rw[Tn.av,Tn.row_mk]
 refine boxA_of rfl fun S1 k1 n1 o1=>?_
 have q:=(k1.2 _ hid).trans h
 rw[shift_p,ld1_p o1 rfl rfl,bin_neq,onB_v]
 by_cases e1:¬ tk=3
 ·rw[decide_eq_false e1,if_neg (fun hq=>e1 hq.1)]
  exact PlR.same k1 q hn
 have e1:=Decidable.not_not.1 e1
 rw[decide_eq_true e1,gd_nT (b:=true) rfl,shift_p,ld1_p o1 rfl rfl,bin_lss,onB_v]
 by_cases e2:a<0
 ·rw[decide_eq_true e2,if_neg (fun hq=>by omega)]
  exact PlR.same k1 q hn
 rw[decide_eq_false e2,gd_false,shift_p,ld1_p o1 rfl rfl,bin_gtr,onB_v]
 by_cases e3:1<a
 ·rw[decide_eq_true e3,if_neg (fun hq=>by omega)]
  exact PlR.same k1 q hn
 rw[decide_eq_false e3,gd_false,shift_p,ld1_p o1 rfl rfl,lenS_aL,bin_gtr,onB_v]
 by_cases e4:¬ ss = []
 ·rw[slen0 e4,if_neg (fun hq=>e4 hq.2.2.2)]
  exact PlR.same k1 q hn
 have e4:=Decidable.not_not.1 e4
 rw[show decide ((0:Int)<(ss.length:Int))=false from decide_eq_false (by simp[e4]),gd_false,if_pos ⟨e1,by omega,by omega,e4⟩,shift_p,ld1_p o1 rfl rfl,lenS_tnL,bin_neq,onB_v]
 by_cases e5:¬ ks.length=1
 ·rw[show decide ((ks.length:Int)=1)=false from decide_eq_false (by omega),accs_len c ks _ _ _ (fun hq=>e5 (by have:=hq.1;simpa using this.symm))]
  exact PlR.same k1 q hn
 have e5:=Decidable.not_not.1 e5
 rw[show decide ((ks.length:Int)=1)=true from decide_eq_true (by omega),gd_nT (b:=true) rfl]
 obtain⟨t0,rfl⟩:=List.length_eq_one_iff.1 e5
 obtain⟨j,rfl⟩:=Int.eq_ofNat_of_zero_le (show 0≤a by omega)
 have hj:j < [f,g].length:=by simp;omega
 rw[Int.toNat_natCast,List.getD_eq_getElem?_getD,List.getElem?_eq_getElem hj,Option.getD_some,seq_none]
 have hx:Pu [f,g][j]:=by
  match j,hj with
  |0,_=>exact hf
  |1,_=>exact hg
 show ∃ q:AV,_
 (repeat (first|with_reducible_and_instances (first|refine WJ ?_|refine W (LJ_ldp o1 (by omega) (by with_unfolding_all rfl) (by with_unfolding_all rfl)) ?_|refine W (LJ_Fi hj) ?_|refine W (LJ_T0) ?_|refine W (LJ_ldNq (Fo.row_len _)) ?_|refine W (LJ_ldNq (Tn.row_len _)) ?_|refine W (J_ldq (by with_unfolding_all rfl)) ?_)))
 exact callF_pr (pl91 (hk t0 (by simp)) hx q (by omega) hn s) fun S4 hp=>(hp.up k1).one
theorem pl53{f g:Fo}(hf:Pu f)(hg:Pu g)(k l:Int)(nm:ByteArray):ACalls Pg 53 [.p id 0 0,(Fo.mk k nm l [f,g]).av,(Tn.mk tk s a ss ks).av] S (PlR c id S n (if tk=3∧0≤a∧a≤1∧ss = []then Tn.accs c ks [[f,g].getD a.toNat fo0] [s] 0 else(0,false))):=by
 refine calls53 ?_
 unfold m53
 rw[Fo.av,Fo.row_mk]
 refine boxA_of rfl fun S1 k1 n1 o1=>?_
 refine boxA_of (Tn.row_len _) fun S2 k2 n2 o2=>?_
 have kk:=k1.trans k2
 have p1:=(k2.2 _ (by omega)).trans o1
 have q:=(kk.2 _ hid).trans h
 rw[ldN_p (n:=5) o2 (Tn.row_len _),shift_p,ld1_p p1 rfl rfl]
 exact callF_pr (pl92 hc hk hkl hs tk s a q (by omega) hn hf hg) fun S4 hp=>hp.up kk
end
set_option linter.unusedSectionVars false
def wayB (c:Ci) (s:Int) (ss:List Int):Bool:=chainS c ss && decide (ss≠[]∧ss.getD 0 0=s)
theorem at95{c:Ci}(hc:Cs c){id:Nat}{S:Store}{n:Int}(h:S.obj id=some (plO c n))(hid:id<S.n)(tk s a:Int){ss:List Int}(hs:ss.length≤1000000)(ks:List Tn):AnsAt Pg 95 [.p id 0 0,(Tn.mk tk s a ss ks).av] S (aB (wayB c s ss)):=by
 refine ACalls.ans_v (calls95 ?_)
 unfold m95
 rw[Tn.av,Tn.row_mk]
 refine boxA_of rfl fun S1 k1 n1 o1=>?_
 have q:=(k1.2 _ hid).trans h
 rw[shift_p,ld1_p o1 rfl rfl,lenS_aL]
 refine loop95_0 (fun y S'=>S'=S1∧∃ i:Nat,y=aI i∧i≤ss.length∧∀ m (h:m+1<ss.length),m+1<i→behindS c (ss[m]'(by omega)) ss[m+1]=true) (fun y _=>ss.length - ((intA y).getD 0).toNat) ⟨rfl,0,rfl,Nat.zero_le _,fun m _ h=>by omega⟩ ?_
 rintro _ S1 ⟨rfl,i,rfl,hi,hch⟩ KE hKE
 unfold b95_0
 rw[bin_lss,onB_v]
 refine gd_of (fun hlt=>?_) (fun hge=>?_)
 ·have hlt:i<ss.length:=by have:=dT hlt;omega
  have hadd:∀(T:Store) (K:AV→Store→Prop),bin .add 0 (aI i) (.v (.int .i64 1)) T K=K (aI (i+1:Nat)) T:=fun T K=>bin_add (by omega) (by omega) 0
  rw[ixS_aL hlt,ld1_q,bin_gtr,onB_v]
  refine gd_of (fun h0=>?_) (fun h0=>?_)
  ·have h0:=dT h0
   obtain⟨m,rfl⟩:∃ m,i=m+1:=⟨i - 1,by omega⟩
   have hm:m<ss.length:=by omega
   rw[shift_p,ld1_p o1 rfl rfl,show ∀ K:AV→Store→Prop,bin .sub 0 (aI (m+1:Nat)) (.v (.int .i64 1)) S1 K=K (aI m) S1 from fun K=>(bin_sub (by omega) (by omega) 0).trans (by rw[show(((m+1:Nat):Nat):Int) - 1=m by omega]),ixS_aL hm,ld1_q]
   refine callF_at (at93 hc q (by omega) ss[m] ss[m+1]) ?_
   rw[un_not,onB_v]
   refine gd_of (fun hb=>⟨?_,k1⟩) (fun hb=>?_)
   ·rw[wayB,chain_no hlt (by simpa using hb),Bool.false_and]
   ·rw[hadd]
    refine hKE _ _ ⟨rfl,m+2,rfl,hlt,fun m' hm' hi'=>?_⟩ (by simp[intA];omega)
    by_cases e:m'=m
    ·subst e;simpa using hb
    ·exact hch m' hm' (by omega)
  ·have h0:=dF h0
   rw[hadd]
   exact hKE _ _ ⟨rfl,i+1,rfl,hlt,fun m' hm' hi'=>by omega⟩ (by simp[intA];omega)
 ·have hge:i=ss.length:=by have:=dF hge;omega
  subst hge
  rw[wayB,chain_yes fun m hm=>hch m hm hm,Bool.true_and]
  show ∃ q:AV,_
  (repeat (first|with_reducible_and_instances (first|refine WJ ?_|refine W (J_ldp o1 (by with_unfolding_all rfl) (by with_unfolding_all rfl)) ?_|refine W (J_ldq (by with_unfolding_all rfl)) ?_)))
  cases ss with
  |nil =>
   rw[show decide ((0:Int)<((([]:List Int).length:Nat):Int))=false from decide_eq_false (by simp)]
   (repeat (first|with_reducible_and_instances (first|refine WJ ?_|refine W (J_ldq (by with_unfolding_all rfl)) ?_)))
   exact⟨rfl,k1⟩
  |cons x sr =>
   rw[show decide ((0:Int)<(((x :: sr).length:Nat):Int))=true from decide_eq_true (by rw[List.length_cons];omega)]
   (repeat (first|with_reducible_and_instances (first|refine WJ ?_|refine W (J_ldp o1 (by with_unfolding_all rfl) (by with_unfolding_all rfl)) ?_|refine W (J_ix0) ?_|refine W (J_ldq (by with_unfolding_all rfl)) ?_)))
   refine⟨?_,k1⟩
   rw[show decide ((x :: sr)≠[]∧(x :: sr).getD 0 0=s)=decide (x=s)from decide_eq_decide.2 ⟨fun h=>h.2,fun h=>⟨by simp,h⟩⟩]
theorem rat2(c:Ci)(t:Tn)(f:Fo)(s:Int):(rat c t f s).2=((t.acc c f).2 && decide (t.st=s))∧((rat c t f s).2=true→(rat c t f s).1=(t.acc c f).1):=by
 unfold rat
 by_cases h:t.st=s
 ·rw[if_pos h,decide_eq_true h,Bool.and_true];exact⟨rfl,fun _=>rfl⟩
 ·rw[if_neg h,decide_eq_false h,Bool.and_false];exact⟨rfl,fun h=>by cases h⟩
theorem pl97{c:Ci}{id:Nat}{ts:List Tn}(hk:∀ t∈ts,HK c id t){ss:List Int}(hs:ss.length≤1000000)(hl:ss.length≤ts.length){f:Fo}(hf:Pu f){S:Store}{n:Int}(h:S.obj id=some (plO c n))(hid:id<S.n)(hn:i64R n):
    ACalls Pg 97 [.p id 0 0,aL aI ss,f.av,tnL ts] S (PlR c id S n (Tn.accs c (ts.take ss.length) (List.replicate ss.length f) ss 0)):=by
 refine calls97 ?_
 unfold m97
 refine boxA_of (Fo.row_len f) fun S1 k1 n1 o1=>?_
 have q:=(k1.2 _ hid).trans h
 rw[lenS_aL]
 refine loop97_0 (fun y S'=>∃(i:Nat) (m cur:Int),y=aI i∧i≤ss.length∧S1.n≤S'.n∧S'.obj id=some (plO c cur)∧i64R cur∧cur=IntKind.i64.wrap (n+m)∧(∀ x,x<S1.n→x≠id→S'.obj x=S1.obj x)∧
     Tn.accs c (ts.take ss.length) (List.replicate ss.length f) ss 0=Tn.accs c ((ts.take ss.length).drop i) (List.replicate (ss.length - i) f) (ss.drop i) m)
  (fun y _=>ss.length - ((intA y).getD 0).toNat) ⟨0,0,n,rfl,Nat.zero_le _,Nat.le_refl _,q,hn,by rw[Int.add_zero,wrap_rng hn],fun x _ _=>rfl,rfl⟩ ?_
 rintro _ S2 ⟨i,m,cur,rfl,hi,n2,q2,hcur,hm,f2,he⟩ KE hKE
 unfold b97_0
 have o2:=(f2 _ (by omega) (by omega)).trans o1
 have kk:∀ x,x<S.n→x≠id→S2.obj x=S.obj x:=fun x hx hne=>(f2 x (by omega) hne).trans (k1.2 x hx)
 rw[bin_lss,onB_v]
 refine gd_of (fun hlt=>?_) (fun hge=>?_)
 ·have hlt:i<ss.length:=by have:=dT hlt;omega
  have hit:i<ts.length:=by omega
  have hit2:i<(ts.take ss.length).length:=by simp;omega
  have hadd:∀(T:Store) (K:AV→Store→Prop),bin .add 0 (aI i) (.v (.int .i64 1)) T K=K (aI (i+1:Nat)) T:=fun T K=>bin_add (by omega) (by omega) 0
  have hti:(ts.take ss.length)[i]=ts[i]:=by simp
  rw[List.drop_eq_getElem_cons hit2,List.drop_eq_getElem_cons hlt,show ss.length - i=(ss.length - (i+1))+1 by omega,List.replicate_succ,accs_cons,hti]at he
  rw[ixS_aL hlt,ld1_q]
  obtain⟨r1,r2⟩:=rat2 c ts[i] f ss[i]
  rw[←r1]at he
  show ∃ q:AV,_
  (repeat (first|with_reducible_and_instances (first|refine WJ ?_|refine W (LJ_ldN (n:=4) o2 (by omega) (Fo.row_len _)) ?_|refine W (LJ_Ti hit) ?_|refine W (LJ_ldNq (Tn.row_len _)) ?_|refine W (J_ldq (by with_unfolding_all rfl)) ?_)))
  refine callF_pl (pl91 (hk _ (List.getElem_mem hit)) hf q2 (by omega) hcur ss[i]) fun m3 S3 hm3 h1 hn3 q3 f3=>?_
  have kk3:∀ x,x<S1.n→x≠id→S3.obj x=S1.obj x:=fun x hx hne=>(f3 x (by omega) hne).trans (f2 x hx hne)
  cases e3:(rat c ts[i] f ss[i]).2 with
  |false =>
   rw[e3,if_neg (by decide)]at he
   (repeat (first|with_reducible_and_instances (first|refine WJ ?_|refine W (J_ldq (by with_unfolding_all rfl)) ?_)))
   rw[he]
   exact⟨m3,rfl,hm3,(fun h=>by cases h),by have:=k1.1;omega,q3,fun x hx hne=>(kk3 x (by omega) hne).trans (k1.2 x hx)⟩
  |true =>
   rw[e3,if_pos rfl,←r2 e3]at he
   (repeat (first|with_reducible_and_instances (first|refine WJ ?_|refine W (J_ldq (by with_unfolding_all rfl)) ?_)))
   rw[hadd]
   refine hKE _ _ ⟨i+1,_,m3,rfl,hlt,by omega,q3,hm3,?_,kk3,he⟩ (by simp[intA];omega)
   rw[h1 e3,hm,wrap_wrap,wrap_wrap',Int.add_assoc]
 ·have hge:i=ss.length:=by have:=dF hge;omega
  subst hge
  rw[List.drop_of_length_le (by simp;omega),List.drop_length,Nat.sub_self,List.replicate_zero,accs_nil]at he
  rw[he]
  exact⟨cur,rfl,hcur,fun _=>hm,by have:=k1.1;omega,q2,kk⟩
set_option linter.unusedSectionVars false
theorem slc_take{l:List Int}{e n:Nat}(h:n≤l.length){S:Store}{K:AV→Store→Prop}:slc e 1 (aL aI l) none (some (aI n)) none S K=K (aL aI (l.take n)) S:=by
 simp only[slc,aL,bnd,intA,optP_some,List.length_map,Int.sub_zero,Int.toNat_natCast,Int.toNat_zero,List.drop_zero,←List.map_take]
 apply propext
 constructor
 ·rintro⟨_,_,hK⟩
  exact hK
 ·intro hK
  exact⟨⟨by omega,by omega,by omega⟩,fun c hc=>by obtain⟨x,_,rfl⟩:=List.mem_map.1 hc;rfl,hK⟩
theorem slc_drop{l:List Int}{e n:Nat}(h:n≤l.length){S:Store}{K:AV→Store→Prop}:slc e 1 (aL aI l) (some (aI n)) none none S K=K (aL aI (l.drop n)) S:=by
 have ht:(((l.length:Nat):Int) - (n:Int)).toNat=l.length - n:=by omega
 simp only[slc,aL,bnd,intA,optP_some,List.length_map,Int.toNat_natCast,ht]
 have h2:((l.map fun x=>[aI x]).drop n).take (l.length - n)=(l.drop n).map fun x=>[aI x]:=by
  rw[←List.map_drop,List.take_of_length_le (by simp)]
 rw[h2]
 apply propext
 constructor
 ·rintro⟨_,_,hK⟩
  exact hK
 ·intro hK
  exact⟨⟨by omega,by omega,by omega⟩,fun c hc=>by obtain⟨x,_,rfl⟩:=List.mem_map.1 hc;rfl,hK⟩
theorem way_true{c:Ci}{s:Int}{ss:List Int}(h:wayB c s ss=true):chainS c ss=true∧ss≠[]∧ss.getD 0 0=s:=by
 unfold wayB at h
 rw[Bool.and_eq_true,decide_eq_true_eq]at h
 exact h
theorem way_false{c:Ci}{s:Int}{ss:List Int}(h:wayB c s ss=false):¬ (ss≠[]∧ss.getD 0 0=s∧chainS c ss=true):=fun hq=>by
 unfold wayB at h
 rw[hq.2.2,Bool.true_and]at h
 exact dF h ⟨hq.1,hq.2.1⟩
section
variable {c:Ci} (hc:Cs c) {id:Nat} {ks:List Tn} (hk:∀ t∈ks,HK c id t) (hkl:ks.length≤1000000) {ss:List Int} (hs:ss.length≤1000000) (tk s a:Int) {S:Store} {n:Int} (h:S.obj id=some (plO c n)) (hid:id<S.n) (hn:i64R n)
include hc hk hkl hs h hid hn
theorem pl57{f g:Fo}(hf:Pu f)(hg:Pu g)(k l:Int)(nm:ByteArray):ACalls Pg 57 [.p id 0 0,(Fo.mk k nm l [f,g]).av,(Tn.mk tk s a ss ks).av] S (PlR c id S n (pathR c f g tk s a ss ks)):=by
 refine calls57 ?_
 unfold m57 pathR
 rw[Fo.av,Fo.row_mk,Tn.av,Tn.row_mk]
 refine boxA_of rfl fun S1 k1 n1 o1=>?_
 refine boxA_of rfl fun S2 k2 n2 o2=>?_
 have kk:=k1.trans k2
 have p1:=(k2.2 _ (by omega)).trans o1
 have q:=(kk.2 _ hid).trans h
 have cw:=at95 hc q (by omega) tk s a hs ks
 rw[Tn.av,Tn.row_mk]at cw
 rw[shift_p,ld1_p o2 rfl rfl,lenS_aL,bin_sub (by omega) (by omega),shift_p,ld1_p o2 rfl rfl,bin_neq,onB_v]
 by_cases e1:¬ tk=5
 ·rw[decide_eq_false e1,if_neg (fun hq=>e1 hq.2.2.2.1)]
  exact PlR.same kk q hn
 have e1:=Decidable.not_not.1 e1
 rw[decide_eq_true e1,gd_nT (b:=true) rfl,shift_p,ld1_p o2 rfl rfl,bin_neq,onB_v]
 by_cases e2:¬ a=0
 ·rw[decide_eq_false e2,if_neg (fun hq=>e2 hq.2.2.1)]
  exact PlR.same kk q hn
 have e2:=Decidable.not_not.1 e2
 rw[decide_eq_true e2,gd_nT (b:=true) rfl,ldN_p (n:=5) o2 rfl]
 refine callF_at cw ?_
 rw[un_not,onB_v]
 cases e3:wayB c s ss with
 |false =>
  rw[if_neg (fun hq=>way_false e3 ⟨hq.1,hq.2.1,hq.2.2.2.2⟩)]
  exact PlR.same kk q hn
 |true =>
 obtain⟨w1,w2,w3⟩:=way_true e3
 rw[if_pos ⟨w2,w3,e2,e1,w1⟩,gd_nT (b:=true) rfl]
 have hpos:0<ss.length:=List.length_pos_iff.2 w2
 obtain⟨i,hi⟩:∃ i:Nat,ss.length=i+1:=⟨ss.length - 1,by omega⟩
 have hi1:i<ss.length:=by omega
 rw[show((ss.length:Nat):Int) - 1=i by omega,shift_p,ld1_p o2 rfl rfl,lenS_tnL,bin_add (by omega) (by omega),bin_neq,onB_v]
 have hlast:ss.getD (ss.length - 1) 0=ss[i]:=by simp[List.getD_eq_getElem?_getD,hi]
 rw[hlast,show ss.length - 1=i by omega]
 by_cases e4:¬ ks.length=i+2
 ·rw[show decide ((ks.length:Int)=(i:Int)+2)=false from decide_eq_false (by omega),accs_len c ks _ _ _ (fun hq=>e4 (by have:=hq.1;simp at this;omega))]
  exact PlR.same kk q hn
 have e4:=Decidable.not_not.1 e4
 have hA:i<ks.length:=by omega
 have hB:i+1<ks.length:=by omega
 rw[show decide ((ks.length:Int)=(i:Int)+2)=true from decide_eq_true (by omega),gd_nT (b:=true) rfl,shift_p,ld1_p o2 rfl rfl,ixS_aL hi1,ld1_q]
 have eks:ks=ks.take i ++ [ks[i],ks[i+1]]:=by
  conv=>lhs;rw[←List.take_append_drop i ks]
  rw[List.drop_eq_getElem_cons hA,List.drop_eq_getElem_cons hB,List.drop_of_length_le (by omega)]
 have ess:ss ++ [ss[i]]=ss.take i ++ [ss[i],ss[i]]:=by
  have es0:=List.take_append_drop i ss
  rw[List.drop_eq_getElem_cons hi1,List.drop_of_length_le (by omega)]at es0
  exact(congrArg (fun l=>l ++ [ss[i]]) es0.symm).trans (by show(_++_)++_=_;rw[List.append_assoc];rfl)
 have etot:Tn.accs c ks (List.replicate i f ++ [g,foG]) (ss ++ [ss[i]]) 0=seqR (Tn.accs c (ks.take i) (List.replicate i f) (ss.take i) 0) (seqR (rat c ks[i] g ss[i]) (seqR (rat c ks[i+1] foG ss[i]) (0,true))):=by
  conv=>lhs;rw[eks]
  rw[ess,accs_app c _ _ _ _ _ _ (by simp;omega) (by simp;omega),accs_seq,seq_none]
 rw[etot]
 have lslc:∀{P:AV→Prop},(∃ q,(∀ T,Keep S2 T→slc 3 1 (aL aI ss) none (some (aI i)) none T fun v S=>v=q∧S=T)∧P q)=P (aL aI (ss.take i)):=LJ_of (op:=fun T K=>slc 3 1 (aL aI ss) none (some (aI i)) none T K) fun T hT K=>slc_take (by omega)
 have hti:(ss.take i).length=i:=by simp;omega
 show ∃ q:AV,_
 (repeat (first|with_reducible_and_instances (first|refine WJ ?_|refine W (LJ_ldp o2 (by omega) (by with_unfolding_all rfl) (by with_unfolding_all rfl)) ?_|refine W (LJ_ldp p1 (by omega) (by with_unfolding_all rfl) (by with_unfolding_all rfl)) ?_|refine W (lslc) ?_|refine W (LJ_F0) ?_|refine W (LJ_ldNq (Fo.row_len _)) ?_|refine W (J_ldq (by with_unfolding_all rfl)) ?_)))
 have hal:=pl97 (ts:=ks) hk (ss:=ss.take i) (by omega) (by omega) hf q (by omega) hn
 rw[hti]at hal
 refine callF_pl hal fun m3 S3 hm3 h1 hn3 q3 f3=>?_
 have o3:=(f3 _ (by omega) (by omega)).trans o2
 have p3:=(f3 _ (by omega) (by omega)).trans p1
 have kk3:∀ x,x<S.n→x≠id→S3.obj x=S.obj x:=fun x hx hne=>(f3 x (by have:=kk.1;omega) hne).trans (kk.2 x hx)
 rw[onB_v]
 cases e5:(Tn.accs c (ks.take i) (List.replicate i f) (ss.take i) 0).2 with
 |false =>
  show ∃ q:AV,_
  (repeat (first|with_reducible_and_instances (first|refine WJ ?_|refine W (J_ldq (by with_unfolding_all rfl)) ?_)))
  exact PlR.seqF e5 hm3 (by omega) q3 kk3
 |true =>
  show ∃ q:AV,_
  (repeat (first|with_reducible_and_instances (first|refine WJ ?_|refine W (LJ_ldp o3 (by omega) (by with_unfolding_all rfl) (by with_unfolding_all rfl)) ?_|refine W (LJ_ldp p3 (by omega) (by with_unfolding_all rfl) (by with_unfolding_all rfl)) ?_|refine W (LJ_F1) ?_|refine W (LJ_ldNq (Fo.row_len _)) ?_|refine W (LJ_Ti hA) ?_|refine W (LJ_ldNq (Tn.row_len _)) ?_|refine W (J_ldq (by with_unfolding_all rfl)) ?_)))
  refine callF_pl (pl91 (hk _ (List.getElem_mem hA)) hg q3 (by omega) hm3 ss[i]) fun m4 S4 hm4 h2 hn4 q4 f4=>?_
  have o4:=(f4 _ (by omega) (by omega)).trans o3
  have p4:=(f4 _ (by omega) (by omega)).trans p3
  cases e6:(rat c ks[i] g ss[i]).2 with
  |false =>
   (repeat (first|with_reducible_and_instances (first|refine WJ ?_|refine W (J_ldq (by with_unfolding_all rfl)) ?_)))
   exact PlR.seq e5 (h1 e5) (by omega) kk3 (PlR.seqF e6 hm4 hn4 q4 f4)
  |true =>
   have ladd:∀{P:AV→Prop},(∃ q,(∀ T,Keep S4 T→bin .add 0 (aI i) (.v (.int .i64 1)) T fun v S=>v=q∧S=T)∧P q)=P (aI (i+1:Nat)):=LJ_of (op:=fun T K=>bin .add 0 (aI i) (.v (.int .i64 1)) T K) fun T hT K=>bin_add (by omega) (by omega) 0
   (repeat (first|with_reducible_and_instances (first|refine WJ ?_|refine W (LJ_ldp o4 (by omega) (by with_unfolding_all rfl) (by with_unfolding_all rfl)) ?_|refine W (ladd) ?_|refine W (LJ_Ti hB) ?_|refine W (LJ_ldNq (Tn.row_len _)) ?_|refine W (J_ldq (by with_unfolding_all rfl)) ?_)|refine J_cA (ans94) rfl rfl ?_|refine C_A (ans94) rfl rfl ?_|refine L_cA (ans94) rfl rfl ?_))
   refine callF_pr (pl91 (hk _ (List.getElem_mem hB)) (f:=foG) (.o _ _ (by decide) (.c _ (by decide))) q4 (by omega) hm4 ss[i]) fun S5 hp=>?_
   (repeat (first|with_reducible_and_instances (first|refine WJ ?_|refine W (J_ldq (by with_unfolding_all rfl)) ?_)))
   exact PlR.seq e5 (h1 e5) (by omega) kk3 (PlR.seq e6 (h2 e6) hn4 f4 hp.one)
end
theorem cv_2{S:Store}{n:Nat}{x x' y y':AV}(h:Cv S n x x')(k:Cv S n y y'):∀(i:Nat) (u u2:AV),[x,y][i]? = some u→[x',y'][i]? = some u2→Cv S n u u2
 |0,_,_,h1,h2=>by cases h1;cases h2;exact h
 |1,_,_,h1,h2=>by cases h1;cases h2;exact k
 |i+2,_,_,h1,_=>by simp at h1
theorem cv_3{S:Store}{n:Nat}{x x' y y' z z':AV}(h:Cv S n x x')(k:Cv S n y y')(q:Cv S n z z'):∀(i:Nat) (u u2:AV),[x,y,z][i]? = some u→[x',y',z'][i]? = some u2→Cv S n u u2
 |0,_,_,h1,h2=>by cases h1;cases h2;exact h
 |1,_,_,h1,h2=>by cases h1;cases h2;exact k
 |2,_,_,h1,h2=>by cases h1;cases h2;exact q
 |i+3,_,_,h1,_=>by simp at h1
theorem news2{a b:AObj}{S:Store}{K:List Nat→Store→Prop}(h:∀ i j S',Keep S S'→S.n≤i→i<S'.n→S.n≤j→j<S'.n→i≠j→S'.obj i=some a→S'.obj j=some b→K [i,j] S'):newsV [a,b] S K:=by
 intro ids S' hn
 match ids,hn.len with
 |[i,j],_ =>
  have hd:=hn.nodup
  simp only[List.nodup_cons,List.mem_singleton]at hd
  exact h i j S' hn.keep (hn.lo i (by simp)) (hn.hi i (by simp)) (hn.lo j (by simp)) (hn.hi j (by simp)) hd.1 (hn.new 0 i a rfl rfl) (hn.new 1 j b rfl rfl)
set_option linter.unusedSectionVars false
theorem LJ_bld{pl:List (Nat × Nat)}{zc:List AV}{parts:List (Nat × AV)}{cs:List AV}(h:fillA (fun i=>pl[i]?) zc parts=some cs){S0:Store}{P:AV→Prop}:(∃ q,(∀ T,Keep S0 T→bld pl zc parts T fun v S=>v=q∧S=T)∧P q)=P (.a cs):=LJ_of (op:=fun T K=>bld pl zc parts T K) fun T hT K=>bld_of h
theorem L_bslA4{e:Nat}{z1 z2 z3 z4:AV}{r:List AV}(hr:r.length=4){S0:Store}{P:AV→Prop}(k:P (.l [r])):∃ q,(∀ T,Keep S0 T→bslN e 4 1 [z1,z2,z3,z4] [(0,.a r)] T fun v S=>v=q∧S=T)∧P q:=⟨_,fun T hT=>bslA4 hr ⟨rfl,rfl⟩,k⟩
theorem L_bslA42{e:Nat}{z1 z2 z3 z4:AV}{r r2:List AV}(hr:r.length=4)(hr2:r2.length=4){S0:Store}{P:AV→Prop}(k:P (.l [r,r2])):∃ q,(∀ T,Keep S0 T→bslN e 4 2 [z1,z2,z3,z4] [(0,.a r),(1,.a r2)] T fun v S=>v=q∧S=T)∧P q:=⟨_,fun T hT=>bslA42 hr hr2 ⟨rfl,rfl⟩,k⟩
theorem fo2_cv2{f:FuncId}{k:Int}{r:AV}{g:Fo}(h:Ans Pg f [aI k,foL [fo2,g]] r)(S:Store):AnsAt Pg f [aI k,.l [[aI 2,.v (.string ByteArray.empty),aI 0,.nl],g.row]] S r:=by
 refine ansAt_cv (args2:=[aI k,foL [fo2,g]]) rfl (fun j u u2 e1 e2=>?_) (h S)
 match j with
 |0=>cases e1;cases e2;exact .v _
 |1 =>
  cases e1;cases e2
  refine .l _ _ rfl (fun i c c2 h1 h2=>?_) (fun i c c2 k u u2 h1 h2 h3 h4=>?_)
  ·match i with
   |0=>cases h1;cases h2;rw[Fo.row_len];rfl
   |1=>cases h1;cases h2;rfl
   |i+2=>simp at h1
  ·match i with
   |0=>cases h1;cases h2;exact fo2_row k u u2 h3 h4
   |1=>cases h1;cases h2;rw[h3]at h4;cases h4;exact Fo.tree g u (List.mem_of_getElem? h3) _ _
   |i+2=>simp at h1
 |j+2=>simp at e1
section
variable {c:Ci} (hc:Cs c) {id:Nat} {ks:List Tn} (hk:∀ t∈ks,HK c id t) (hkl:ks.length≤1000000) {ss:List Int} (hs:ss.length≤1000000) (tk s a:Int) {S:Store} {n:Int} (h:S.obj id=some (plO c n)) (hid:id<S.n) (hn:i64R n)
include hc hk hkl hs h hid hn
theorem pl55{f:Fo}(hf:Pu f)(k l:Int)(nm:ByteArray):ACalls Pg 55 [.p id 0 0,(Fo.mk k nm l [f]).av,(Tn.mk tk s a ss ks).av] S (PlR c id S n (pathR c fo2 f tk s a ss ks)):=by
 refine calls55 ?_
 unfold m55
 have hto:=fo2_cv2 (g:=f) (ans62 15 [fo2,f])
 have hu:=fun{S2:Store} (q:S2.obj id=some (plO c n)) (hi:id<S2.n)=>pl57 hc hk hkl hs tk s a q hi hn (f:=fo2) (.c _ (by decide)) hf 15 0 ⟨#[]⟩
 rw[Fo.av,Fo.row_mk]
 refine boxA_of rfl fun S1 k1 n1 o1=>?_
 refine boxA_of (Tn.row_len _) fun S2 k2 n2 o2=>?_
 have kk:=k1.trans k2
 have p1:=(k2.2 _ (by omega)).trans o1
 have q:=(kk.2 _ hid).trans h
 show ∃ q:AV,_
 (repeat (first|with_reducible_and_instances (first|refine WJ ?_|refine W (LJ_bld (cs:=[aI 2,.v (.string ByteArray.empty),aI 0,.nl]) (by with_unfolding_all rfl)) ?_|refine W (LJ_ldp p1 (by omega) (by with_unfolding_all rfl) (by with_unfolding_all rfl)) ?_|refine W (LJ_F0) ?_|refine W (LJ_ldNq (Fo.row_len _)) ?_|refine W (LJ_ldN (n:=5) o2 (by omega) (Tn.row_len _)) ?_|refine W (J_ldq (by with_unfolding_all rfl)) ?_)|refine L_cI ((fun T _=>hto T)) rfl rfl ?_|refine L_bslA42 rfl (Fo.row_len _) ?_))
 exact callF_pr (hu q (by omega)) fun S3 hp=>hp.up kk
theorem pl59(f:Fo):ACalls Pg 59 [.p id 0 0,f.av,(Tn.mk tk s a ss ks).av] S (PlR c id S n (1,leafB 7 tk a ss ks)):=by
 refine calls59 ?_
 unfold m59
 have cl:=ans88 tk s a ss ks 7
 rw[Tn.av,Tn.row_mk]at cl ⊢
 refine boxA_of (Fo.row_len f) fun S1 k1 n1 o1=>?_
 refine boxA_of rfl fun S2 k2 n2 o2=>?_
 have kk:=k1.trans k2
 have q:=(kk.2 _ hid).trans h
 rw[nilChk_p,shift_p,ld1_p q rfl rfl,bin_addW,nilChk_p,shift_p]
 refine stF_of q (by rw[plC_len];decide) rfl fun S3 n3 o3 f3=>?_
 rw[ldN_p (n:=5) ((f3 _ (by omega)).trans o2) rfl]
 refine callF_ans cl ?_
 exact⟨IntKind.i64.wrap (n+1),rfl,wrapR _,fun _=>rfl,by have:=kk.1;omega,o3,fun x hx hne=>(f3 x hne).trans (kk.2 x hx)⟩
theorem pl54{f:Fo}(hf:Pu f)(k l:Int)(nm:ByteArray):ACalls Pg 54 [.p id 0 0,(Fo.mk k nm l [f]).av,(Tn.mk tk s a ss ks).av] S
    (PlR c id S n (if tk=4∧a=0∧ss = []∧(ks.map Tn.st).length=2∧behindS c s ((ks.map Tn.st).getD 0 0)=true then Tn.accs c ks [[f].getD 0 fo0,foG] [(ks.map Tn.st).getD 0 0,(ks.map Tn.st).getD 0 0] 0 else(0,false))):=by
 refine calls54 ?_
 unfold m54
 have cb:=ans90 tk s a ss ks 4
 rw[Tn.av,Tn.row_mk]at cb ⊢
 rw[Fo.av,Fo.row_mk]
 refine boxA_of rfl fun S1 k1 n1 o1=>?_
 refine boxA_of rfl fun S2 k2 n2 o2=>?_
 have kk:=k1.trans k2
 have p1:=(k2.2 _ (by omega)).trans o1
 have q:=(kk.2 _ hid).trans h
 rw[ldN_p (n:=5) o2 rfl]
 refine callF_ans cb ?_
 rw[un_not,onB_v]
 by_cases e1:¬ (tk=4∧a=0∧ss.length=0)
 ·rw[show(decide (tk=4) && decide (a=0∧ss.length=0))=false by rw[←Bool.decide_and];exact decide_eq_false e1,if_neg (fun hq=>e1 ⟨hq.1,hq.2.1,by rw[hq.2.2.1];rfl⟩)]
  exact PlR.same kk q hn
 have e1:=Decidable.not_not.1 e1
 rw[show(decide (tk=4) && decide (a=0∧ss.length=0))=true by rw[←Bool.decide_and];exact decide_eq_true e1,gd_nT (b:=true) rfl,shift_p,ld1_p o2 rfl rfl,lenS_tnL,bin_neq,onB_v]
 by_cases e2:¬ ks.length=2
 ·rw[show decide ((ks.length:Int)=2)=false from decide_eq_false (by omega),if_neg (fun hq=>e2 (by have:=hq.2.2.2.1;rwa [List.length_map]at this))]
  exact PlR.same kk q hn
 have e2:=Decidable.not_not.1 e2
 rw[show decide ((ks.length:Int)=2)=true from decide_eq_true (by omega),gd_nT (b:=true) rfl]
 obtain⟨t0,t1,rfl⟩:∃ t0 t1,ks = [t0,t1]:=by
  match ks,e2 with
  |[t0,t1],_=>exact⟨t0,t1,rfl⟩
 have ld1q:∀(T:Store) (K:AV→Store→Prop),ld1 (.q t0.row 1) T K=K (aI t0.st) T:=fun T K=>by simp[ld1,rd1,place,Tn.row1]
 rw[shift_p,ld1_p o2 rfl rfl,ixT0]
 have sq:∀ K:AV→Store→Prop,shift (.q t0.row 0) 1 S2 K=K (.q t0.row 1) S2:=fun K=>rfl
 rw[sq,ld1q]
 have cbh:=at93 hc q (by omega) s t0.st
 show ∃ q:AV,_
 have hbh:∀ T,Keep S2 T→AnsAt Pg 93 [.p id 0 0,aI s,aI t0.st] T (aB (behindS c s t0.st)):=fun T hT=>at93 hc ((hT.2 _ (by omega)).trans q) (by have:=hT.1;omega) s t0.st
 cases e5:behindS c s t0.st with
 |false =>
  rw[e5]at hbh
  (repeat (first|with_reducible_and_instances (first|refine WJ ?_|refine W (LJ_ldp o2 (by omega) (by with_unfolding_all rfl) (by with_unfolding_all rfl)) ?_|refine W (J_ldq (by with_unfolding_all rfl)) ?_)|refine L_cI (hbh) rfl rfl ?_))
  rw[if_neg (fun hq=>by have:=hq.2.2.2.2;rw[show([t0,t1].map Tn.st).getD 0 0=t0.st from rfl,e5]at this;cases this)]
  exact PlR.same kk q hn
 |true =>
  rw[e5]at hbh
  rw[if_pos ⟨e1.1,e1.2.1,List.eq_nil_of_length_eq_zero e1.2.2,rfl,e5⟩]
  rw[show Tn.accs c [t0,t1] [[f].getD 0 fo0,foG] [([t0,t1].map Tn.st).getD 0 0,([t0,t1].map Tn.st).getD 0 0] 0=Tn.accs c [t0,t1] [f,foG] [t0.st,t0.st] 0 from rfl,accs_seq,seq_none]
  (repeat (first|with_reducible_and_instances (first|refine WJ ?_|refine W (LJ_ldp o2 (by omega) (by with_unfolding_all rfl) (by with_unfolding_all rfl)) ?_|refine W (LJ_ldp p1 (by omega) (by with_unfolding_all rfl) (by with_unfolding_all rfl)) ?_|refine W (LJ_F0) ?_|refine W (LJ_T0) ?_|refine W (LJ_ldNq (Fo.row_len _)) ?_|refine W (LJ_ldNq (Tn.row_len _)) ?_|refine W (J_ldq (by with_unfolding_all rfl)) ?_)|refine L_cI (hbh) rfl rfl ?_))
  refine callF_pl (pl91 (hk t0 (by simp)) hf q (by omega) hn t0.st) fun m S3 hm h1 hn3 q3 f3=>?_
  have o3:=(f3 _ (by omega) (by omega)).trans o2
  have kk3:∀ x,x<S.n→x≠id→S3.obj x=S.obj x:=fun x hx hne=>(f3 x (by have:=kk.1;omega) hne).trans (kk.2 x hx)
  cases e3:(rat c t0 f t0.st).2 with
  |false =>
   (repeat (first|with_reducible_and_instances (first|refine WJ ?_|refine W (J_ldq (by with_unfolding_all rfl)) ?_)))
   exact PlR.seqF e3 hm (by omega) q3 kk3
  |true =>
   (repeat (first|with_reducible_and_instances (first|refine WJ ?_|refine W (LJ_ldp o3 (by omega) (by with_unfolding_all rfl) (by with_unfolding_all rfl)) ?_|refine W (LJ_T1) ?_|refine W (LJ_ldNq (Tn.row_len _)) ?_|refine W (J_ldq (by with_unfolding_all rfl)) ?_)|refine J_cA (ans94) rfl rfl ?_|refine C_A (ans94) rfl rfl ?_|refine L_cA (ans94) rfl rfl ?_))
   refine callF_pr (pl91 (hk t1 (by simp)) (f:=foG) (.o _ _ (by decide) (.c _ (by decide))) q3 (by omega) hm t0.st) fun S4 hp=>?_
   (repeat (first|with_reducible_and_instances (first|refine WJ ?_|refine W (J_ldq (by with_unfolding_all rfl)) ?_)))
   exact PlR.seq e3 (h1 e3) (by omega) kk3 hp.one
theorem pl58{f g:Fo}(hf:Pu f)(hg:Pu g)(k l:Int)(nm:ByteArray):ACalls Pg 58 [.p id 0 0,(Fo.mk k nm l [f,g]).av,(Tn.mk tk s a ss ks).av] S
    (PlR c id S n (if tk=3∧0≤a∧a≤1∧ss = []then Tn.accs c ks [if a=0 then foOne 13 g else foTwo 15 g (foTwo 5 f g)] [s] 0 else(0,false))):=by
 refine calls58 ?_
 unfold m58
 rw[Fo.av,Fo.row_mk]
 refine boxA_of rfl fun S1 k1 n1 o1=>?_
 refine boxA_of (Tn.row_len _) fun S2 k2 n2 o2=>?_
 have kk:=k1.trans k2
 have p1:=(k2.2 _ (by omega)).trans o1
 have q:=(kk.2 _ hid).trans h
 show ∃ q:AV,_
 (repeat (first|with_reducible_and_instances (first|refine WJ ?_|refine W (LJ_ldp p1 (by omega) (by with_unfolding_all rfl) (by with_unfolding_all rfl)) ?_|refine W (LJ_F0) ?_|refine W (LJ_F1) ?_|refine W (LJ_ldNq (Fo.row_len _)) ?_|refine W (J_ldq (by with_unfolding_all rfl)) ?_)))
 refine news2 fun i j S3 k3 hi hi2 hj hj2 hij oi oj=>?_
 dsimp only[List.headD_cons,List.tail_cons]
 refine stA_of oi (Fo.row_len f) rfl fun S4 n4 o4 f4=>?_
 have p4:=(f4 _ (by omega)).trans ((k3.2 _ (by omega)).trans p1)
 refine⟨fun T hT=>by rw[ldN_q (Fo.row_len _)];exact⟨rfl,rfl⟩,fun T hT=>by rw[ixF1];exact⟨rfl,rfl⟩,fun T hT=>by rw[ld1_p ((hT.2 _ (by have:=k3.1;omega)).trans p4) rfl rfl];exact⟨rfl,rfl⟩,fun T hT=>⟨rfl,rfl⟩,?_⟩
 refine stA_of ((f4 _ (by omega)).trans oj) (Fo.row_len g) rfl fun S5 n5 o5 f5=>?_
 have a5:=(f5 _ hij).trans o4
 have t5:=(f5 _ (by omega)).trans ((f4 _ (by omega)).trans ((k3.2 _ (by omega)).trans o2))
 have k5:Keep S S5:=((kk.trans k3).st (id:=i) (by have:=kk.1;omega) n4 f4).st (id:=j) (by have:=kk.1;omega) n5 f5
 have q5:=(k5.2 _ hid).trans h
 show ∃ q:AV,_
 refine W (LJ_ldN (n:=5) t5 (by have:=k3.1;omega) (Tn.row_len _)) ?_
 (repeat (first|with_reducible_and_instances (first|refine WJ ?_|refine W (LJ_ldN (n:=5) t5 (by have:=k3.1;omega) (Tn.row_len _)) ?_|refine W (LJ_ldN (n:=4) o5 (by omega) (Fo.row_len _)) ?_|refine W (LJ_ldN (n:=4) a5 (by omega) (Fo.row_len _)) ?_|refine W (J_ldq (by with_unfolding_all rfl)) ?_)|refine J_cA (ans62 13 [g]) rfl rfl ?_|refine C_A (ans62 13 [g]) rfl rfl ?_|refine L_cA (ans62 13 [g]) rfl rfl ?_|refine J_cA (ans62 5 [f,g]) rfl rfl ?_|refine C_A (ans62 5 [f,g]) rfl rfl ?_|refine L_cA (ans62 5 [f,g]) rfl rfl ?_|refine J_cA (ans62 15 [g,foTwo 5 f g]) rfl rfl ?_|refine C_A (ans62 15 [g,foTwo 5 f g]) rfl rfl ?_|refine L_cA (ans62 15 [g,foTwo 5 f g]) rfl rfl ?_|refine L_bslA4 (Fo.row_len _) ?_|refine L_bslA42 (Fo.row_len _) (Fo.row_len _) ?_))
 have hfi:=pl92 hc hk hkl hs tk s a q5 (by have:=k5.1;omega) hn (f:=foOne 13 g) (g:=foTwo 15 g (foTwo 5 f g)) (.o _ _ (by decide) hg) (.t _ _ _ (by decide) hg (.t _ _ _ (by decide) hf hg))
 by_cases e:tk=3∧0≤a∧a≤1∧ss = []
 ·rw[if_pos e]at hfi ⊢
  have h01:a=0∨a=1:=by omega
  rcases h01 with rfl|rfl
  ·rw[if_pos rfl]
   exact callF_pr hfi fun S6 hp=>hp.up k5
  ·rw[if_neg (by decide)]
   exact callF_pr hfi fun S6 hp=>hp.up k5
 ·rw[if_neg e]at hfi ⊢
  exact callF_pr hfi fun S6 hp=>hp.up k5
end
set_option linter.unusedSectionVars false
theorem at96{c:Ci}(hc:c.ok){n:Int}{id a b ta tb:Nat}{S:Store}(h:S.obj id=some (plO c n)){l:Int}(ha:S.obj a=some (.cells ta [[.p id 0 0]] true))(hb:S.obj b=some (.cells tb [[aI l]] true))(hl:i64R l)(s:Int):
    AnsAt Pg 96 ([] ++ [aI s] ++ [.p a 0 0,.p b 0 0]) S (aB (isB c s l)):=by
 refine calls96 ?_
 unfold m96
 rw[ld1_p ha rfl rfl,ld1_p hb rfl rfl]
 exact callF_at (at89 hc h s hl) ⟨rfl,rfl⟩
section
variable {c:Ci} (hc:Cs c) {id:Nat} {ks:List Tn} (hk:∀ t∈ks,HK c id t) (hkl:ks.length≤1000000) {ss:List Int} (hs:ss.length≤1000000) (tk s a:Int) {S:Store} {n:Int} (h:S.obj id=some (plO c n)) (hid:id<S.n) (hn:i64R n)
include hc hk hkl hs h hid hn
theorem pl56{f:Fo}(hf:Pu f)(k l:Int)(nm:ByteArray):ACalls Pg 56 [.p id 0 0,(Fo.mk k nm l [f]).av,(Tn.mk tk s a ss ks).av] S (PlR c id S n (loopR c f tk s a ss ks)):=by
 refine calls56 ?_
 unfold m56 loopR
 rw[Fo.av,Fo.row_mk,Tn.av,Tn.row_mk]
 refine box1_of rfl fun S1 k1 n1 o1=>?_
 refine boxA_of rfl fun S2 k2 n2 o2=>?_
 refine boxA_of rfl fun S3 k3 n3 o3=>?_
 have kk:=(k1.trans k2).trans k3
 have p1:=(k3.2 _ (by omega)).trans ((k2.2 _ (by omega)).trans o1)
 have p2:=(k3.2 _ (by omega)).trans o2
 have q:=(kk.2 _ hid).trans h
 have cw:=at95 hc q (by omega) tk s a hs ks
 rw[Tn.av,Tn.row_mk]at cw
 rw[shift_p,ld1_p o3 rfl rfl,lenS_aL]
 show ∃ q:AV,_
 (repeat (first|with_reducible_and_instances (first|refine WJ ?_|refine W (J_ldp o3 (by with_unfolding_all rfl) (by with_unfolding_all rfl)) ?_|refine W (J_ldq (by with_unfolding_all rfl)) ?_)))
 by_cases e1:¬ tk=6
 ·rw[decide_eq_false e1,Bool.not_false]
  (repeat (first|with_reducible_and_instances (first|refine WJ ?_|refine W (J_ldp o3 (by with_unfolding_all rfl) (by with_unfolding_all rfl)) ?_|refine W (J_ldq (by with_unfolding_all rfl)) ?_)))
  rw[if_neg (fun hq=>e1 hq.2.2.2.2.1)]
  exact PlR.same kk q hn
 have e1:=Decidable.not_not.1 e1
 rw[decide_eq_true e1,Bool.not_true]
 cases e2:wayB c s ss with
 |false =>
  rw[e2]at cw
  (repeat (first|with_reducible_and_instances (first|refine WJ ?_|refine W (J_ldp o3 (by with_unfolding_all rfl) (by with_unfolding_all rfl)) ?_|refine W (J_ldp p1 (by with_unfolding_all rfl) (by with_unfolding_all rfl)) ?_|refine W (J_ldN (n:=5) o3 (by with_unfolding_all rfl)) ?_|refine W (J_ldq (by with_unfolding_all rfl)) ?_)|refine J_cI (cw) rfl rfl ?_|refine C_I (cw) rfl rfl ?_))
  rw[Bool.not_false]
  (repeat (first|with_reducible_and_instances (first|refine WJ ?_|refine W (J_ldp o3 (by with_unfolding_all rfl) (by with_unfolding_all rfl)) ?_|refine W (J_ldq (by with_unfolding_all rfl)) ?_)))
  rw[if_neg (fun hq=>way_false e2 ⟨hq.1,hq.2.1,hq.2.2.2.2.2.2.1⟩)]
  exact PlR.same kk q hn
 |true =>
 rw[e2]at cw
 obtain⟨w1,w2,w3⟩:=way_true e2
 have hpos:0<ss.length:=List.length_pos_iff.2 w2
 (repeat (first|with_reducible_and_instances (first|refine WJ ?_|refine W (J_ldp o3 (by with_unfolding_all rfl) (by with_unfolding_all rfl)) ?_|refine W (J_ldp p1 (by with_unfolding_all rfl) (by with_unfolding_all rfl)) ?_|refine W (J_ldN (n:=5) o3 (by with_unfolding_all rfl)) ?_|refine W (J_ldq (by with_unfolding_all rfl)) ?_)|refine J_cI (cw) rfl rfl ?_|refine C_I (cw) rfl rfl ?_))
 rw[Bool.not_true]
 (repeat (first|with_reducible_and_instances (first|refine WJ ?_|refine W (J_ldp o3 (by with_unfolding_all rfl) (by with_unfolding_all rfl)) ?_|refine W (J_ldq (by with_unfolding_all rfl)) ?_)))
 by_cases e3:a<0
 ·rw[decide_eq_true e3]
  (repeat (first|with_reducible_and_instances (first|refine WJ ?_|refine W (J_ldp o3 (by with_unfolding_all rfl) (by with_unfolding_all rfl)) ?_|refine W (J_ldq (by with_unfolding_all rfl)) ?_)))
  rw[if_neg (fun hq=>by have:=hq.2.2.1;omega)]
  exact PlR.same kk q hn
 rw[decide_eq_false e3]
 (repeat (first|with_reducible_and_instances (first|refine WJ ?_|refine W (J_ldp o3 (by with_unfolding_all rfl) (by with_unfolding_all rfl)) ?_|refine W (J_ldq (by with_unfolding_all rfl)) ?_)))
 by_cases e4:((ss.length:Nat):Int)≤a
 ·rw[decide_eq_true e4]
  (repeat (first|with_reducible_and_instances (first|refine WJ ?_|refine W (J_ldp o3 (by with_unfolding_all rfl) (by with_unfolding_all rfl)) ?_|refine W (J_ldq (by with_unfolding_all rfl)) ?_)))
  rw[if_neg (fun hq=>by have:=hq.2.2.2.1;omega)]
  exact PlR.same kk q hn
 rw[decide_eq_false e4]
 (repeat (first|with_reducible_and_instances (first|refine WJ ?_|refine W (J_ldp o3 (by with_unfolding_all rfl) (by with_unfolding_all rfl)) ?_|refine W (J_lenT) ?_|refine W (J_ldq (by with_unfolding_all rfl)) ?_)))
 by_cases e5:¬ ks.length=ss.length
 ·rw[show decide ((ks.length:Int)=(ss.length:Int))=false from decide_eq_false (by omega),Bool.not_false]
  (repeat (first|with_reducible_and_instances (first|refine WJ ?_|refine W (J_ldp o3 (by with_unfolding_all rfl) (by with_unfolding_all rfl)) ?_|refine W (J_ldq (by with_unfolding_all rfl)) ?_)))
  rw[accs_len c ks _ _ _ (fun hq=>e5 hq.2.symm)]
  split<;>exact PlR.same kk q hn
 have e5:=Decidable.not_not.1 e5
 rw[show decide ((ks.length:Int)=(ss.length:Int))=true from decide_eq_true (by omega),Bool.not_true]
 obtain⟨i0,hi0⟩:∃ i0:Nat,ss.length=i0+1:=⟨ss.length - 1,by omega⟩
 obtain⟨j,rfl⟩:=Int.eq_ofNat_of_zero_le (show 0≤a by omega)
 have hj:j<ss.length:=by omega
 have hi1:i0<ss.length:=by omega
 have lsub:∀{S0:Store} {P:AV→Prop},(∃ q,(bin .sub 0 (aI ss.length) (.v (.int .i64 1)) S0 fun v S=>v=q∧S=S0)∧P q)=P (aI i0):=fun{S0 P}=>J_of (op:=fun K=>bin .sub 0 (aI ss.length) (.v (.int .i64 1)) S0 K) fun K=>(bin_sub (by omega) (by omega) 0).trans (by rw[show((ss.length:Nat):Int) - 1=i0 by omega])
 have hlast:ss.getD (ss.length - 1) 0=ss[i0]:=by simp[List.getD_eq_getElem?_getD,hi0]
 have hat:ss.getD (((j:Nat):Int)).toNat 0=ss[j]:=by simp[List.getD_eq_getElem?_getD,hj]
 have cbh:=at93 hc q (by omega) ss[i0] ss[j]
 cases e6:behindS c ss[i0] ss[j]with
 |false =>
  rw[e6]at cbh
  (repeat (first|with_reducible_and_instances (first|refine WJ ?_|refine W (J_ldp o3 (by with_unfolding_all rfl) (by with_unfolding_all rfl)) ?_|refine W (J_ldp p1 (by with_unfolding_all rfl) (by with_unfolding_all rfl)) ?_|refine W (lsub) ?_|refine W (J_ix hi1) ?_|refine W (J_ix hj) ?_|refine W (J_ldq (by with_unfolding_all rfl)) ?_)|refine J_cI (cbh) rfl rfl ?_|refine C_I (cbh) rfl rfl ?_))
  rw[Bool.not_false]
  (repeat (first|with_reducible_and_instances (first|refine WJ ?_|refine W (J_ldp o3 (by with_unfolding_all rfl) (by with_unfolding_all rfl)) ?_|refine W (J_ldq (by with_unfolding_all rfl)) ?_)))
  rw[if_neg (fun hq=>by have:=hq.2.2.2.2.2.1;rw[hlast,hat,e6]at this;cases this)]
  exact PlR.same kk q hn
 |true =>
 rw[e6]at cbh
 (repeat (first|with_reducible_and_instances (first|refine WJ ?_|refine W (J_ldp o3 (by with_unfolding_all rfl) (by with_unfolding_all rfl)) ?_|refine W (J_ldp p1 (by with_unfolding_all rfl) (by with_unfolding_all rfl)) ?_|refine W (lsub) ?_|refine W (J_ix hi1) ?_|refine W (J_ix hj) ?_|refine W (J_ldq (by with_unfolding_all rfl)) ?_)|refine J_cI (cbh) rfl rfl ?_|refine C_I (cbh) rfl rfl ?_))
 rw[Bool.not_true]
 (repeat (first|with_reducible_and_instances (first|refine WJ ?_|refine W (J_ldp o3 (by with_unfolding_all rfl) (by with_unfolding_all rfl)) ?_|refine W (J_ldq (by with_unfolding_all rfl)) ?_)))
 have hfair:=hc.ok.fair
 rw[ld1_p p1 rfl rfl,nilChk_p,shift_p,shift_p,ld1_p q rfl rfl,lenS_aL]
 rw[Int.toNat_natCast]
 have no:metS c (ss.drop j)=false→∀ T,Keep S T→T.obj id=some (plO c n)→PlR c id S n (if ss≠[]∧ss.getD 0 0=s∧0≤(j:Int)∧(j:Int)<ss.length∧tk=6∧behindS c (ss.getD (ss.length - 1) 0) (ss.getD j 0)=true∧chainS c ss=true∧metS c (ss.drop j)=true then Tn.accs c ks (List.replicate ss.length f) ss 0 else(0,false)) (.ret (aB false)) T:=fun hm T hT ht=>by
  rw[if_neg (fun hq=>by have:=hq.2.2.2.2.2.2.2;rw[hm]at this;cases this)]
  exact PlR.same hT ht hn
 refine loop56_0 (fun y S'=>∃ i:Nat,y=aI i∧i≤c.fair.length∧Keep S3 S'∧∀ m (h:m<c.fair.length),m<i→((ss.drop j).any fun s=>isB c s c.fair[m])=true) (fun y _=>c.fair.length - ((intA y).getD 0).toNat) ⟨0,rfl,Nat.zero_le _,Keep.refl _,fun m _ h=>by omega⟩ ?_
 rintro _ S4 ⟨i,rfl,hif,k4,hmet⟩ KE hKE
 unfold b56_0
 have q4:=(k4.2 _ (by omega)).trans q
 have p14:=(k4.2 _ (by omega)).trans p1
 have p24:=(k4.2 _ (by omega)).trans p2
 have p34:=(k4.2 _ (by omega)).trans o3
 have n4:=k4.1
 rw[bin_lss,onB_v]
 refine gd_of (fun hlt=>?_) (fun hge=>?_)
 ·have hlt:i<c.fair.length:=by have:=dT hlt;omega
  rw[ixS_aL hlt,ld1_q]
  refine box1_of rfl fun S5 k5 n5 o5=>?_
  refine st_of o5 rfl rfl fun S6 n6 o6 f6=>?_
  have k6:=k5.st (Nat.le_refl _) n6 f6
  have q6:=(k6.2 _ (by omega)).trans q4
  have p16:=(k6.2 _ (by omega)).trans p14
  have p36:=(k6.2 _ (by omega)).trans p34
  rw[shift_p,ld1_p p36 rfl rfl,shift_p,ld1_p p36 rfl rfl,slc_drop (by omega)]
  refine callF_at (at84 (f:=aI) (l:=ss.drop j) (by simp;omega) (g:=fun s=>isB c s c.fair[i]) (fs:=[]) (cs:=[.p S.n 0 0,.p S4.n 0 0]) fun x hx=>at96 hc.ok q6 p16 o6 (hfair.1 _ (List.getElem_mem hlt)) x) ?_
  rw[un_not,onB_v]
  refine gd_of (fun hb=>?_) (fun hb=>?_)
  ·refine no (all_no hlt (by simpa using hb)) S6 ((kk.trans k4).trans k6) q6
  ·rw[bin_add (by omega) (by omega)]
   exact hKE _ _ ⟨i+1,rfl,hlt,k4.trans k6,lt_step (p:=fun l=>((ss.drop j).any fun s=>isB c s l)=true) (hi:=hlt) hmet (by simpa using hb)⟩ (by simp[intA];omega)
 ·have hge:i=c.fair.length:=by have:=dF hge;omega
  subst hge
  rw[if_pos ⟨w2,w3,by omega,by omega,e1,by rw[hlast,show ss.getD j 0=ss[j]by simp[List.getD_eq_getElem?_getD,hj]];exact e6,w1,all_lt fun m hm=>hmet m hm hm⟩]
  clear no
  have hal:=pl97 (ts:=ks) hk hs (by omega) hf q4 (by omega) hn
  rw[show ks.take ss.length=ks by rw[←e5];exact List.take_length]at hal
  show ∃ q:AV,_
  (repeat (first|with_reducible_and_instances (first|refine WJ ?_|refine W (LJ_ldp p14 (by omega) (by with_unfolding_all rfl) (by with_unfolding_all rfl)) ?_|refine W (LJ_ldp p34 (by omega) (by with_unfolding_all rfl) (by with_unfolding_all rfl)) ?_|refine W (LJ_ldp p24 (by omega) (by with_unfolding_all rfl) (by with_unfolding_all rfl)) ?_|refine W (LJ_F0) ?_|refine W (LJ_ldNq (Fo.row_len _)) ?_|refine W (J_ldq (by with_unfolding_all rfl)) ?_)))
  exact callF_pr hal fun S5 hp=>hp.up (kk.trans k4)
end
set_option linter.unusedSectionVars false
theorem J_lkT{kk:KK}{z k:AV}{key:Key}{es:List (Key × AV)}{r:AV}(hk:keyA kk k=some key)(hr:lkV z true (lkp es key)=r){S0:Store}{P:AV→Prop}:(∃ q,(lkM kk z true (.mt kk es) k S0 fun v S=>v=q∧S=S0)∧P q)=P r:=J_of (op:=fun K=>lkM kk z true (.mt kk es) k S0 K) fun K=>by rw[lkM_mt hk,hr]
section
variable {c:Ci} (hc:Cs c) {id:Nat} {ks:List Tn} (hk:∀ t∈ks,HK c id t) (hkl:ks.length≤1000000) {ss:List Int} (hs:ss.length≤1000000) (tk s a:Int) {S:Store} {n:Int} (h:S.obj id=some (plO c n)) (hid:id<S.n) (hn:i64R n)
include hc hk hkl hs h hid hn
theorem play_go(w:FuncId)(k:Int)(f:Fo)(hf:f.row[0]? = some (aI k))(hl:lkV (.v .nilFunc) true (lkp waysE (.i k)) = .t [.f (.func w) [] [],aB true])(r:Int × Bool)(hr:validS c s=true→Tn.acc c (.mk tk s a ss ks) f=r)
    (hw:∀ S2:Store,S2.obj id=some (plO c n)→id<S2.n→ACalls Pg w [.p id 0 0,f.av,(Tn.mk tk s a ss ks).av] S2 (PlR c id S2 n r)):
    ACalls Pg 30 [.p id 0 0,f.av,(Tn.mk tk s a ss ks).av] S (PlR c id S n (Tn.acc c (.mk tk s a ss ks) f)):=by
 refine calls30 ?_
 unfold m30
 refine boxA_of (Fo.row_len f) fun S1 k1 n1 o1=>?_
 refine boxA_of (Tn.row_len _) fun S2 k2 n2 o2=>?_
 have kk:=k1.trans k2
 have p1:=(k2.2 _ (by omega)).trans o1
 have q:=(kk.2 _ hid).trans h
 have r1:=Tn.row1 (.mk tk s a ss ks)
 show ∃ q:AV,_
 (repeat (first|with_reducible_and_instances (first|refine WJ ?_|refine W (J_nil) ?_|refine W (J_ldp q (by with_unfolding_all rfl) (by with_unfolding_all rfl)) ?_|refine W (J_ldp p1 (by with_unfolding_all rfl) hf) ?_|refine W (J_lkT (keyI _ _) hl) ?_|refine W (J_ext (by with_unfolding_all rfl)) ?_|refine W (J_ldq (by with_unfolding_all rfl)) ?_)))
 rw[ld1_p o2 rfl r1]
 refine callF_at (at60 hc q (by omega) s) ?_
 rw[onB_v]
 refine gd_of (fun hv=>?_) (fun hv=>?_)
 ·rw[hr hv,ldN_p (n:=4) p1 (Fo.row_len f),ldN_p (n:=5) o2 (Tn.row_len _)]
  exact callV_pr (fs:=[]) (cs:=[]) (hw S2 q (by omega)) fun S' hp=>hp.up kk
 ·rw[acc_inv _ hv]
  exact PlR.same kk q hn
theorem play_no(f:Fo)(hf:f.row[0]? = some (aI 1))(hr:validS c s=true→Tn.acc c (.mk tk s a ss ks) f=(0,false)):
    ACalls Pg 30 [.p id 0 0,f.av,(Tn.mk tk s a ss ks).av] S (PlR c id S n (Tn.acc c (.mk tk s a ss ks) f)):=by
 refine calls30 ?_
 unfold m30
 refine boxA_of (Fo.row_len f) fun S1 k1 n1 o1=>?_
 refine boxA_of (Tn.row_len _) fun S2 k2 n2 o2=>?_
 have kk:=k1.trans k2
 have p1:=(k2.2 _ (by omega)).trans o1
 have q:=(kk.2 _ hid).trans h
 have hl:lkV (.v .nilFunc) true (lkp waysE (.i 1)) = .t [.v .nilFunc,aB false]:=rfl
 show ∃ q:AV,_
 (repeat (first|with_reducible_and_instances (first|refine WJ ?_|refine W (J_nil) ?_|refine W (J_ldp q (by with_unfolding_all rfl) (by with_unfolding_all rfl)) ?_|refine W (J_ldp p1 (by with_unfolding_all rfl) hf) ?_|refine W (J_lkT (keyI _ _) hl) ?_|refine W (J_ext (by with_unfolding_all rfl)) ?_|refine W (J_ldq (by with_unfolding_all rfl)) ?_)))
 have:Tn.acc c (.mk tk s a ss ks) f=(0,false):=by
  cases hv:validS c s with
  |true=>exact hr hv
  |false=>exact acc_inv _ hv
 rw[this]
 exact PlR.same kk q hn
theorem play_all{f:Fo}(hf:Pu f):ACalls Pg 30 [.p id 0 0,f.av,(Tn.mk tk s a ss ks).av] S (PlR c id S n (Tn.acc c (.mk tk s a ss ks) f)):=by
 have r0:∀(k l:Int) (nm:ByteArray) (fs:List Fo),(Fo.mk k nm l fs).row[0]? = some (aI k):=fun k l nm fs=>by rw[Fo.row_mk];rfl
 cases hf with
 |c k hkd =>
  rcases hkd with rfl|rfl
  ·exact play_no hc hk hkl hs tk s a h hid hn _ (r0 _ _ _ _) acc_1
  ·exact play_go hc hk hkl hs tk s a h hid hn 49 2 _ (r0 _ _ _ _) rfl _ acc_2 fun S2 q hi=>pl49 hc hk hkl hs tk s a q hi hn _
 |a l h0 hl=>exact play_go hc hk hkl hs tk s a h hid hn 50 3 _ (r0 _ _ _ _) rfl _ acc_3 fun S2 q hi=>pl50 hc hk hkl hs tk s a q hi hn _ _ hl _
 |n l h0 hl=>exact play_go hc hk hkl hs tk s a h hid hn 51 4 _ (r0 _ _ _ _) rfl _ acc_4 fun S2 q hi=>pl51 hc hk hkl hs tk s a q hi hn _ _ _ _ hl _
 |o k f hkd hf =>
  have:k=9∨k=11∨k=13∨k=10∨k=12∨k=14:=by omega
  rcases this with rfl|rfl|rfl|rfl|rfl|rfl
  ·exact play_go hc hk hkl hs tk s a h hid hn 54 9 _ (r0 _ _ _ _) rfl _ acc_9 fun S2 q hi=>pl54 hc hk hkl hs tk s a q hi hn hf _ _ _
  ·exact play_go hc hk hkl hs tk s a h hid hn 55 11 _ (r0 _ _ _ _) rfl _ acc_11 fun S2 q hi=>pl55 hc hk hkl hs tk s a q hi hn hf _ _ _
  ·exact play_go hc hk hkl hs tk s a h hid hn 56 13 _ (r0 _ _ _ _) rfl _ acc_13 fun S2 q hi=>pl56 hc hk hkl hs tk s a q hi hn hf _ _ _
  ·exact play_go hc hk hkl hs tk s a h hid hn 59 10 _ (r0 _ _ _ _) rfl _ (acc_t (by decide)) fun S2 q hi=>pl59 hc hk hkl hs tk s a q hi hn _
  ·exact play_go hc hk hkl hs tk s a h hid hn 59 12 _ (r0 _ _ _ _) rfl _ (acc_t (by decide)) fun S2 q hi=>pl59 hc hk hkl hs tk s a q hi hn _
  ·exact play_go hc hk hkl hs tk s a h hid hn 59 14 _ (r0 _ _ _ _) rfl _ (acc_t (by decide)) fun S2 q hi=>pl59 hc hk hkl hs tk s a q hi hn _
 |t k f g hkd hf hg =>
  have:k=5∨k=6∨k=15∨k=17∨k=16∨k=18:=by omega
  rcases this with rfl|rfl|rfl|rfl|rfl|rfl
  ·exact play_go hc hk hkl hs tk s a h hid hn 52 5 _ (r0 _ _ _ _) rfl _ acc_5 fun S2 q hi=>pl52 hc hk hkl hs tk s a q hi hn hf hg _ _ _
  ·exact play_go hc hk hkl hs tk s a h hid hn 53 6 _ (r0 _ _ _ _) rfl _ acc_6 fun S2 q hi=>pl53 hc hk hkl hs tk s a q hi hn hf hg _ _ _
  ·exact play_go hc hk hkl hs tk s a h hid hn 57 15 _ (r0 _ _ _ _) rfl _ acc_15 fun S2 q hi=>pl57 hc hk hkl hs tk s a q hi hn hf hg _ _ _
  ·exact play_go hc hk hkl hs tk s a h hid hn 58 17 _ (r0 _ _ _ _) rfl _ acc_17 fun S2 q hi=>pl58 hc hk hkl hs tk s a q hi hn hf hg _ _ _
  ·exact play_go hc hk hkl hs tk s a h hid hn 59 16 _ (r0 _ _ _ _) rfl _ (acc_t (by decide)) fun S2 q hi=>pl59 hc hk hkl hs tk s a q hi hn _
  ·exact play_go hc hk hkl hs tk s a h hid hn 59 18 _ (r0 _ _ _ _) rfl _ (acc_t (by decide)) fun S2 q hi=>pl59 hc hk hkl hs tk s a q hi hn _
end
theorem pl30{c:Ci}(hc:Cs c)(id:Nat):∀ t:Tn,t.ok→HK c id t:=by
 intro t
 induction t using Tn.ind with
 |h tk s a ss ks ih =>
  intro ht f hf S n h hid hn
  cases ht with
  |mk _ _ _ _ _ h1 h2 h3 h4 h5 h6 h7=>exact play_all hc (fun t ht=>ih t ht (h7 t ht)) h6 h4 tk s a h hid hn hf
theorem ans29:Ans Pg 29 [] (.mt (.i .i64) waysE):=by
 intro S
 refine ACalls.tree (calls29 ?_)
 unfold m29 mkM
 dsimp only
 rw[updM_m (new_self _) (keyI _ _)]
 repeat rw[updM_m (upd_self _ _) (keyI _ _),upd_upd]
 refine⟨_,rfl,((Keep.refl S).new _).upd (Nat.le_refl _) _,.m' S.n (.i .i64) waysE waysE ?_ rfl (fun i e e2 h h2=>by rw[h]at h2;cases h2;rfl) (fun i e e2 h h2=>?_)⟩
 ·rw[frz_ofM (upd_self _ _)]
  have:newer S.n S.n=true:=by simp[newer]
  rw[this]
  rfl
 ·rw[h]at h2;cases h2
  have hm:e∈waysE:=List.mem_of_getElem? h
  have hf:∀ w:FuncId,Cv ((Store.upd (S.new (.map (.i .i64) [] true)) S.n (.map (.i .i64) waysE true)).frz (newer S.n)) S.n (.f (.func w) [] []) (.f (.func w) [] []):=fun w=>.f _ _ _ _ _ rfl rfl (fun k u u2 h=>by simp at h) (fun k u u2 h=>by simp at h)
  simp only[waysE,List.mem_cons,List.not_mem_nil,or_false]at hm
  rcases hm with rfl|rfl|rfl|rfl|rfl|rfl|rfl|rfl|rfl|rfl|rfl|rfl|rfl|rfl|rfl<;>exact hf _
set_option linter.unusedSectionVars false
def acceptB (c:Ci) (f:Fo) (t:Tn):Int × Bool:=
 if mayC c f=false∨60<c.gr.inputs then(0,false)else if(t.acc c (f.push false)).2=true then t.acc c (f.push false)else(0,false)
def pl01:(Int × Bool) ⊕ (List Fo × List Int)→Prop
 |.inl r=>r.1=0∨r.1=1
 |.inr _=>True
theorem pl_ite{p:Prop}[Decidable p]{x y:(Int × Bool) ⊕ (List Fo × List Int)}(h1:pl01 x)(h2:pl01 y):pl01 (if p then x else y):=by
 split
 ·exact h1
 ·exact h2
theorem plan_01(c:Ci)(f:Fo)(tk s a:Int)(ss kst:List Int):pl01 (planA c f tk s a ss kst):=by
 obtain⟨k,nm,l,fs⟩:=f
 unfold planA
 repeat' (first|exact trivial|exact Or.inl rfl|exact Or.inr rfl|refine pl_ite ?_ ?_)
theorem acc_rng{c:Ci}{t:Tn}{f:Fo}:i64R (t.acc c f).1:=by
 obtain⟨tk,s,a,ss,ks⟩:=t
 rw[acc_mk]
 have h:=plan_01 c f tk s a ss (ks.map Tn.st)
 generalize planA c f tk s a ss (ks.map Tn.st)=x at h
 cases x with
 |inl r =>
  show i64R r.1
  have h:r.1=0∨r.1=1:=h
  exact⟨by omega,by omega⟩
 |inr p=>exact accs_rng c ks _ _ ⟨by decide,by decide⟩
theorem may_parts{c:Ci}{f:Fo}(h:mayC c f=true):c.right=true∧f.mayB 60=true:=by
 unfold mayC at h
 rw[Bool.and_eq_true,Bool.and_eq_true]at h
 exact⟨h.1,h.2.1⟩
theorem ans17{c:Ci}(hc:c.ok){f:Fo}(hf:f.ok){t:Tn}(ht:t.ok):Ans Pg 17 [c.av,f.av,t.av] (aR (acceptB c f t)):=by
 intro S
 refine ACalls.ansT (calls17 ?_)
 unfold m17 acceptB
 refine boxA_of rfl fun S1 k1 n1 o1=>?_
 refine boxA_of (Fo.row_len f) fun S2 k2 n2 o2=>?_
 refine boxA_of (Tn.row_len t) fun S3 k3 n3 o3=>?_
 have kk:=(k1.trans k2).trans k3
 have p1:=(k3.2 _ (by omega)).trans ((k2.2 _ (by omega)).trans o1)
 have p2:=(k3.2 _ (by omega)).trans o2
 rw[ldN_p (n:=8) p1 rfl,ldN_p (n:=4) p2 (Fo.row_len f)]
 refine callF_ans (ans33 hc hf) ?_
 rw[un_not,onB_v]
 cases hm:mayC c f with
 |false =>
  rw[if_pos (.inl rfl)]
  exact⟨rfl,kk⟩
 |true =>
 rw[gd_nT (b:=true) rfl]
 obtain⟨hr,hmay⟩:=may_parts hm
 obtain⟨g1,g2,g3⟩:=gr_inp hr
 rw[shift_p,ld1_p p1 rfl rfl,shift_p,ld1_p p1 rfl rfl,lenS_pL,bin_add (by omega) (by omega),←g1,bin_gtr,onB_v]
 by_cases e1:60<c.gr.inputs
 ·rw[decide_eq_true e1,if_pos (.inr e1)]
  exact⟨rfl,kk⟩
 rw[decide_eq_false e1,gd_false,if_neg (by rintro(h|h);cases h;exact e1 h)]
 have hcs:Cs c:=⟨hc,hr,by omega⟩
 have hpu:=push_pu f hf hmay false
 show ∃ q:AV,_
 (repeat (first|with_reducible_and_instances (first|refine WJ ?_|refine W (J_ldN (n:=8) p1 (by with_unfolding_all rfl)) ?_|refine W (J_ldN (n:=4) p2 (Fo.row_len f)) ?_|refine W (J_ldN (n:=5) o3 (Tn.row_len t)) ?_|refine W (J_ext (by with_unfolding_all rfl)) ?_|refine W (J_ldq (by with_unfolding_all rfl)) ?_)|refine J_cA (ans27 f hf hmay false) rfl rfl ?_|refine C_A (ans27 f hf hmay false) rfl rfl ?_|refine J_cA (ans34 hcs t ht (f.push false) hpu) rfl rfl ?_|refine C_A (ans34 hcs t ht (f.push false) hpu) rfl rfl ?_))
 refine gd_of (fun h=>?_) (fun h=>?_)
 ·rw[if_neg (by simpa using h)]
  exact⟨rfl,kk⟩
 ·have h:(t.acc c (f.push false)).2=true:=by simpa using h
  rw[if_pos h]
  exact⟨by unfold aR;rw[h],kk⟩
theorem ans16{c:Ci}(hc:c.ok){f:Fo}(hf:f.ok){t:Tn}(ht:t.ok):Ans Pg 16 [c.av,f.av,t.av] (aR (acceptB c f t)):=by
 intro S
 refine ACalls.ansT (calls16 ?_)
 unfold m16 acceptB
 refine boxA_of rfl fun S1 k1 n1 o1=>?_
 refine boxA_of (Fo.row_len f) fun S2 k2 n2 o2=>?_
 refine boxA_of (Tn.row_len t) fun S3 k3 n3 o3=>?_
 have kk:=(k1.trans k2).trans k3
 have p1:=(k3.2 _ (by omega)).trans ((k2.2 _ (by omega)).trans o1)
 have p2:=(k3.2 _ (by omega)).trans o2
 rw[ldN_p (n:=8) p1 rfl,ldN_p (n:=4) p2 (Fo.row_len f)]
 refine callF_ans (ans28 hc hf) ?_
 rw[un_not,onB_v]
 cases hm:mayC c f with
 |false =>
  rw[if_pos (.inl rfl)]
  exact⟨rfl,kk⟩
 |true =>
 rw[gd_nT (b:=true) rfl]
 obtain⟨hr,hmay⟩:=may_parts hm
 obtain⟨g1,g2,g3⟩:=gr_inp hr
 rw[shift_p,ld1_p p1 rfl rfl,shift_p,ld1_p p1 rfl rfl,lenS_pL,bin_add (by omega) (by omega),←g1,bin_gtr,onB_v]
 by_cases e1:60<c.gr.inputs
 ·rw[decide_eq_true e1,if_pos (.inr e1)]
  exact⟨rfl,kk⟩
 rw[decide_eq_false e1,gd_false,if_neg (by rintro(h|h);cases h;exact e1 h)]
 have hcs:Cs c:=⟨hc,hr,by omega⟩
 have hpu:=push_pu f hf hmay false
 show ∃ q:AV,_
 (repeat (first|with_reducible_and_instances (first|refine WJ ?_|refine W (LJ_ldN (n:=8) p1 (by omega) (by with_unfolding_all rfl)) ?_|refine W (LJ_bld (cs:=plC c 0) (by with_unfolding_all rfl)) ?_|refine W (J_ldq (by with_unfolding_all rfl)) ?_)|refine J_cA (ans29) rfl rfl ?_|refine C_A (ans29) rfl rfl ?_|refine L_cA (ans29) rfl rfl ?_))
 refine boxA_of (plC_len c 0) fun S4 k4 n4 o4=>?_
 have p24:=(k4.2 _ (by omega)).trans p2
 have p34:=(k4.2 _ (by omega)).trans o3
 show ∃ q:AV,_
 (repeat (first|with_reducible_and_instances (first|refine WJ ?_|refine W (LJ_ldN (n:=4) p24 (by omega) (Fo.row_len f)) ?_|refine W (LJ_ldN (n:=5) p34 (by omega) (Tn.row_len t)) ?_|refine W (J_ldq (by with_unfolding_all rfl)) ?_)|refine J_cA (ans32) rfl rfl ?_|refine C_A (ans32) rfl rfl ?_|refine L_cA (ans32) rfl rfl ?_|refine J_cA (ans31 f hf hmay false) rfl rfl ?_|refine C_A (ans31 f hf hmay false) rfl rfl ?_|refine L_cA (ans31 f hf hmay false) rfl rfl ?_))
 refine callF_pl (pl30 hcs S3.n t ht (f.push false) hpu S4 0 o4 (by omega) ⟨by decide,by decide⟩) fun n' S5 hn' h1 hn5 q5 f5=>?_
 have k5:Keep S S5:=⟨by have:=kk.1;omega,fun x hx=>(f5 x (by have:=kk.1;omega) (by have:=kk.1;omega)).trans ((k4.2 x (by have:=kk.1;omega)).trans (kk.2 x hx))⟩
 cases e2:(t.acc c (f.push false)).2 with
 |false =>
  (repeat (first|with_reducible_and_instances (first|refine WJ ?_|refine W (J_ldq (by with_unfolding_all rfl)) ?_)))
  exact⟨rfl,k5⟩
 |true =>
  (repeat (first|with_reducible_and_instances (first|refine WJ ?_|refine W (J_ldq (by with_unfolding_all rfl)) ?_)))
  rw[nilChk_p,shift_p,ld1_p q5 rfl rfl,h1 e2,Int.zero_add,wrap_rng acc_rng]
  exact⟨by unfold aR;rw[if_pos rfl,e2],k5⟩
mutual
def Tn.sizeF:Tn→Int→Int
 |.mk _ _ _ ss ks,m=>if 40<ss.length then -1 else Tn.sizeFs ks m
def Tn.sizeFs:List Tn→Int→Int
 |[],m=>m
 |t :: ts,m=>if 0≤m then Tn.sizeFs ts (Tn.sizeF t (m - 1))else m
end
theorem sizeFs_rng:∀(l:List Tn),(∀ t∈l,∀ m:Int,-1≤m→-1≤t.sizeF m∧t.sizeF m≤m)→∀ m:Int,-1≤m→-1≤Tn.sizeFs l m∧Tn.sizeFs l m≤m
 |[],_,m,h=>by rw[Tn.sizeFs];omega
 |t :: ts,h,m,hm=>by
  rw[Tn.sizeFs]
  split
  ·have h1:=h t (by simp) (m - 1) (by omega)
   have h2:=sizeFs_rng ts (fun g hg=>h g (by simp[hg])) (t.sizeF (m - 1)) h1.1
   omega
  ·omega
theorem sizeF_rng:∀(t:Tn) (m:Int),-1≤m→-1≤t.sizeF m∧t.sizeF m≤m:=by
 intro t
 induction t using Tn.ind with
 |h k s b ss ks ih =>
  intro m hm
  rw[Tn.sizeF]
  split
  ·omega
  ·exact sizeFs_rng ks ih m hm
theorem ans6:∀(t:Tn),t.got→∀{m:Int},-1≤m→i64R m→Ans Pg 6 [t.av,aI m] (aI (t.sizeF m)):=by
 intro t
 induction t using Tn.ind with
 |h k s b ss ks ih =>
  intro hg m hm1 hm S
  cases hg with
  |mk _ _ _ _ _ h1 h2 h3 h4 h5 h6 hks =>
  have hmx:maxLen=9223372036854775807:=by decide
  refine ACalls.ans_v (calls6 ?_)
  unfold m6
  rw[Tn.av,Tn.row_mk]
  refine boxA_of rfl fun S1 k1 n1 o1=>?_
  rw[shift_p,ld1_p o1 rfl rfl,lenS_aL,bin_gtr,onB_v,Tn.sizeF]
  refine gd_of (fun h=>?_) (fun h=>?_)
  ·have h:=dT h
   rw[if_pos (by omega)]
   exact⟨rfl,k1⟩
  have h:=dF h
  rw[if_neg (by omega)]
  refine loop6_0 (fun y z T=>T=S1∧∃(i:Nat) (x:Int),z=aI i∧y=aI x∧i≤ks.length∧-1≤x∧x≤m∧Tn.sizeFs ks m=Tn.sizeFs (ks.drop i) x) (fun _ z _=>ks.length - ((intA z).getD 0).toNat) ⟨rfl,0,m,rfl,rfl,Nat.zero_le _,hm1,Int.le_refl _,rfl⟩ ?_
  rintro _ _ S1 ⟨rfl,i,x,rfl,rfl,hi,hx1,hx2,he⟩ KE hKE
  unfold b6_0
  rw[shift_p,ld1_p o1 rfl rfl,lenS_tnL,bin_lss,onB_v]
  have hmr:=hm.2
  refine gd_of (fun hlt=>?_) (fun hge=>?_)
  ·have hlt:i<ks.length:=by have:=dT hlt;omega
   rw[List.drop_eq_getElem_cons hlt,Tn.sizeFs]at he
   rw[bin_geq,onB_v]
   refine gd_of (fun h=>?_) (fun h=>?_)
   ·have h:=dT h
    rw[if_pos h]at he
    rw[shift_p,ld1_p o1 rfl rfl,ixS_tnL hlt,ldN_q (Tn.row_len _),bin_sub (by omega) (by omega)]
    refine callF_ans (ih _ (List.getElem_mem hlt) (hks _ (List.getElem_mem hlt)) (m:=x - 1) (by omega) ⟨by omega,by omega⟩) ?_
    rw[show ∀ K:AV→Store→Prop,bin .add 0 (aI i) (.v (.int .i64 1)) S1 K=K (aI (i+1:Nat)) S1 from fun K=>bin_add (by omega) (by omega) 0]
    have hr:=sizeF_rng ks[i] (x - 1) (by omega)
    exact hKE _ _ _ ⟨rfl,i+1,_,rfl,rfl,hlt,hr.1,by omega,he⟩ (by simp[intA];omega)
   ·have h:=dF h
    rw[if_neg h]at he
    rw[he]
    exact⟨rfl,k1⟩
  ·have hge:i=ks.length:=by have:=dF hge;omega
   subst hge
   rw[List.drop_length,Tn.sizeFs]at he
   rw[he]
   exact⟨rfl,k1⟩
theorem ans7{c:Ci}(hc:c.ok){f:Fo}(hf:f.ok){t:Tn}(ht:t.ok):Ans Pg 7 [c.av,f.av,t.av] (aB true):=by
 intro S
 refine ACalls.ans_v (calls7 ?_)
 unfold m7
 refine boxA_of rfl fun S1 k1 n1 o1=>?_
 refine boxA_of (Fo.row_len f) fun S2 k2 n2 o2=>?_
 refine boxA_of (Tn.row_len t) fun S3 k3 n3 o3=>?_
 have kk:=(k1.trans k2).trans k3
 have p1:=(k3.2 _ (by omega)).trans ((k2.2 _ (by omega)).trans o1)
 have p2:=(k3.2 _ (by omega)).trans o2
 rw[ldN_p (n:=8) p1 rfl,ldN_p (n:=4) p2 (Fo.row_len f),ldN_p (n:=5) o3 (Tn.row_len t)]
 refine callF_ans (ans16 hc hf ht) ?_
 rw[extr0,extr1,ldN_p (n:=8) p1 rfl,ldN_p (n:=4) p2 (Fo.row_len f),ldN_p (n:=5) o3 (Tn.row_len t)]
 refine callF_ans (ans17 hc hf ht) ?_
 rw[extr0,extr1,bin_eql,onB_v,gd_T (decide_eq_true rfl),bin_eqlB,beq_self_eq_true]
 exact⟨rfl,kk⟩
abbrev tnLf(s:Int):Tn:=.mk 1 s 0 [] []
abbrev tnLp(a:Int):Tn:=.mk 6 0 a [0,1] [tnLf 0,tnLf 1]
theorem is0:isB ca0 0 3=true:=by rw[isB,ca0_right,Bool.true_and];decide
theorem is1:isB ca0 1 3=false:=by rw[isB,ca0_right,Bool.true_and];decide
theorem after0:afterB ca0 0=1:=by
 rw[afterB,if_pos (by rw[ca0_right];decide)]
 show(if isB ca0 0 3=true then 0+2 ^ (0+0)else 0)=(1:Int)
 rw[is0];rfl
theorem after1:afterB ca0 1=0:=by
 rw[afterB,if_pos (by rw[ca0_right];decide)]
 show(if isB ca0 1 3=true then 0+2 ^ (0+0)else 0)=(0:Int)
 rw[is1];rfl
theorem valid0:validS ca0 0=true:=rfl
theorem valid1:validS ca0 1=true:=rfl
theorem beh01:behindS ca0 0 1=true:=by rw[behindS,valid0,valid1,after0];rfl
theorem beh10:behindS ca0 1 0=true:=by rw[behindS,valid0,valid1,after1];rfl
theorem beh11:behindS ca0 1 1=false:=by rw[behindS,valid1,after1];rfl
theorem chain01:chainS ca0 [0,1]=true:=by
 show(behindS ca0 0 1 && true)=true
 rw[beh01];rfl
theorem may0:mayC ca0 foG=true:=by rw[mayC,ca0_right];decide
theorem mayT:mayC ca0 (foOne 14 (.mk 1 ⟨#[]⟩ 0 []))=true:=by rw[mayC,ca0_right];decide
theorem pushG:foG.push false=foG:=by rw[push_one (by decide),push_const (by decide)];rfl
theorem pushT:(foOne 14 (.mk 1 ⟨#[]⟩ 0 [])).push false=foOne 14 (.mk 1 ⟨#[]⟩ 0 []):=by rw[push_one (by decide),push_const (by decide)];rfl
theorem small0:¬ 60<ca0.gr.inputs:=by decide
theorem leaf0:(tnLf 0).acc ca0 fo2=(0,true):=by rw[acc_2 valid0];rfl
theorem leaf1:(tnLf 1).acc ca0 fo2=(0,true):=by rw[acc_2 valid1];rfl
theorem accG:acceptB ca0 foG (tnLp 0)=(0,true):=by
 have h:(tnLp 0).acc ca0 foG=(0,true):=by
  rw[acc_13 valid0,loopR,if_pos ⟨by decide,rfl,by decide,by decide,rfl,beh10,chain01,rfl⟩]
  show Tn.accs ca0 [tnLf 0,tnLf 1] [fo2,fo2] [0,1] 0=_
  rw[accs_seq,seq_none,rat,rat,if_pos (show(tnLf 0).st=0 from rfl),if_pos (show(tnLf 1).st=1 from rfl),leaf0,leaf1]
  rfl
 rw[acceptB,if_neg (by rw[may0];rintro(h|h);cases h;exact small0 h),pushG,h,if_pos rfl]
theorem accN:acceptB ca0 foG (tnLp 1)=(0,false):=by
 have h:(tnLp 1).acc ca0 foG=(0,false):=by
  rw[acc_13 valid0,loopR,if_neg]
  intro h
  have this:behindS ca0 1 1=true:=h.2.2.2.2.2.1
  rw[beh11]at this
  cases this
 rw[acceptB,if_neg (by rw[may0];rintro(h|h);cases h;exact small0 h),pushG,h,if_neg (by decide)]
theorem accT:acceptB ca0 (foOne 14 (.mk 1 ⟨#[]⟩ 0 [])) (.mk 7 0 0 [] [])=(1,true):=by
 have h:(Tn.mk 7 0 0 [] []).acc ca0 (foOne 14 (.mk 1 ⟨#[]⟩ 0 []))=(1,true):=by rw[acc_t (by decide) valid0];rfl
 rw[acceptB,if_neg (by rw[mayT];rintro(h|h);cases h;exact small0 h),pushT,h,if_pos rfl]
theorem pushN:pushB (foOne 4 foG)=foOne 12 (.mk 1 ⟨#[]⟩ 0 []):=by
 rw[pushB,if_pos (by decide),push_not,push_one (by decide),push_const (by decide)];rfl
theorem cv_fo1{S:Store}{n:Nat}{k l:Int}{f:Fo}{r:List AV}(hl:r.length=4)(hr:∀(k:Nat) (u u2:AV),r[k]? = some u→f.row[k]? = some u2→Cv S n u u2):Cv S n (.a [aI k,.v (.string ⟨#[]⟩),aI l,.l [r]]) (Fo.mk k ⟨#[]⟩ l [f]).av:=by
 rw[Fo.av,Fo.row_mk]
 refine .a _ _ rfl fun k u u2 e1 e2=>?_
 match k with
 |0=>cases e1;cases e2;exact .v _
 |1=>cases e1;cases e2;exact .v _
 |2=>cases e1;cases e2;exact .v _
 |3 =>
  cases e1;cases e2
  refine .l _ _ rfl (fun i c c2 h1 h2=>?_) (fun i c c2 k u u2 h1 h2 h3 h4=>?_)
  ·match i with
   |0=>cases h1;cases h2;rw[Fo.row_len,hl]
   |i+1=>simp at h1
  ·match i with
   |0=>cases h1;cases h2;exact hr k u u2 h3 h4
   |i+1=>simp at h1
 |k+4=>simp at e1
theorem cv_fo0{S:Store}{n:Nat}(k l:Int):∀(j:Nat) (u u2:AV),[aI k,.v (.string ⟨#[]⟩),aI l,AV.nl][j]? = some u→(Fo.mk k ⟨#[]⟩ l []).row[j]? = some u2→Cv S n u u2:=fun j u u2 e1 e2=>by
 rw[Fo.row_mk]at e2
 match j with
 |0=>cases e1;cases e2;exact .v _
 |1=>cases e1;cases e2;exact .v _
 |2=>cases e1;cases e2;exact .v _
 |3=>cases e1;cases e2;exact .nl
 |j+4=>simp at e1
theorem cv_tn0{S:Store}{n:Nat}(k s a:Int):∀(j:Nat) (u u2:AV),[aI k,aI s,aI a,AV.nl,AV.nl][j]? = some u→(Tn.mk k s a [] []).row[j]? = some u2→Cv S n u u2:=fun j u u2 e1 e2=>by
 rw[Tn.row_mk]at e2
 match j with
 |0=>cases e1;cases e2;exact .v _
 |1=>cases e1;cases e2;exact .v _
 |2=>cases e1;cases e2;exact .v _
 |3=>cases e1;cases e2;exact .nl
 |4=>cases e1;cases e2;exact .nl
 |j+5=>simp at e1
theorem cv_tl{S:Store}{n:Nat}(k s a:Int):Cv S n (.a [aI k,aI s,aI a,.nl,.nl]) (Tn.mk k s a [] []).av:=.a _ _ (by rw[Tn.row_len];rfl) (cv_tn0 k s a)
theorem cv_lp{S:Store}{n:Nat}(a:Int):Cv S n (.a [aI 6,aI 0,aI a,.l [[aI 0],[aI 1]],.l [[aI 1,aI 0,aI 0,.nl,.nl],[aI 1,aI 1,aI 0,.nl,.nl]]]) (tnLp a).av:=by
 rw[Tn.av,Tn.row_mk]
 refine .a _ _ rfl fun k u u2 e1 e2=>?_
 match k with
 |0=>cases e1;cases e2;exact .v _
 |1=>cases e1;cases e2;exact .v _
 |2=>cases e1;cases e2;exact .v _
 |3=>cases e1;cases e2;exact treeI [0,1] _ _
 |4 =>
  cases e1;cases e2
  refine .l _ _ rfl (fun i c c2 h1 h2=>?_) (fun i c c2 k u u2 h1 h2 h3 h4=>?_)
  ·match i with
   |0=>cases h1;cases h2;rw[Tn.row_len];rfl
   |1=>cases h1;cases h2;rw[Tn.row_len];rfl
   |i+2=>simp at h1
  ·match i with
   |0=>cases h1;cases h2;exact cv_tn0 1 0 0 k u u2 h3 h4
   |1=>cases h1;cases h2;exact cv_tn0 1 1 0 k u u2 h3 h4
   |i+2=>simp at h1
 |k+5=>simp at e1
theorem bslT2{e:Nat}{z1 z2 z3 z4 z5:AV}{r r2:List AV}{S:Store}{K:AV→Store→Prop}(hr:r.length=5)(hr2:r2.length=5)(k:K (.l [r,r2]) S):bslN e 5 2 [z1,z2,z3,z4,z5] [(0,.a r),(1,.a r2)] S K:=by
 match r,hr,r2,hr2 with
 |[u,v,w,x,y],_,[u2,v2,w2,x2,y2],_ =>
  refine⟨[u,v,w,x,y,u2,v2,w2,x2,y2],?_,.inr ?_⟩
  ·simp[fillA,cellsOf,spl,List.range_succ]
  ·simpa[chunks,List.range_succ]using k
theorem bslT1{e:Nat}{z1 z2 z3 z4 z5:AV}{r:List AV}{S:Store}{K:AV→Store→Prop}(hr:r.length=5)(k:K (.l [r]) S):bslN e 5 1 [z1,z2,z3,z4,z5] [(0,.a r)] S K:=by
 match r,hr with
 |[u,v,w,x,y],_ =>
  refine⟨[u,v,w,x,y],?_,.inr ?_⟩
  ·simp[fillA,cellsOf,spl,List.range_succ]
  ·simpa[chunks,List.range_succ]using k
theorem okG:foG.ok:=Pu.ok (.o _ _ (by decide) (.c _ (by decide)))
theorem okLf(s:Int)(h:i64R s):(tnLf s).ok:=.mk _ _ _ _ _ ⟨by decide,by decide⟩ h ⟨by decide,by decide⟩ (by decide) (fun x hx=>by cases hx) (by decide) (fun x hx=>by cases hx)
theorem okLp(a:Int)(h:i64R a):(tnLp a).ok:=.mk _ _ _ _ _ ⟨by decide,by decide⟩ ⟨by decide,by decide⟩ h (by decide) (fun x hx=>by
 simp only[List.mem_cons,List.not_mem_nil,or_false]at hx
 rcases hx with rfl|rfl<;>exact⟨by decide,by decide⟩) (by simp) (fun x hx=>by
 simp only[List.mem_cons,List.not_mem_nil,or_false]at hx
 rcases hx with rfl|rfl
 ·exact okLf 0 ⟨by decide,by decide⟩
 ·exact okLf 1 ⟨by decide,by decide⟩)
theorem ans8:Ans Pg 8 [] (aB true):=by
 intro S
 refine ACalls.ans_v (calls8 ?_)
 unfold m8
 have h1:=ans16 ca0_ok okG (okLp 0 ⟨by decide,by decide⟩)
 have h2:=ans16 ca0_ok okG (okLp 1 ⟨by decide,by decide⟩)
 have h3:=ans16 ca0_ok (f:=foOne 14 (.mk 1 ⟨#[]⟩ 0 [])) (Pu.ok (.o _ _ (by decide) (.c _ (by decide)))) (t:=.mk 7 0 0 [] []) (.mk _ _ _ _ _ ⟨by decide,by decide⟩ ⟨by decide,by decide⟩ ⟨by decide,by decide⟩ (by decide) (fun x hx=>by cases hx) (by decide) (fun x hx=>by cases hx))
 have h4:=ans18 (f:=foOne 4 foG) (.mk _ _ _ _ ⟨by decide,by decide⟩ ⟨by decide,by decide⟩ (by decide) (by simp) fun g hg=>by rw[List.mem_singleton.1 hg];exact okG)
 rw[accG]at h1
 rw[accN]at h2
 rw[accT]at h3
 rw[pushN]at h4
 have hci:∀(T:Store) (n:Nat),Cv T n (.a [aI 0,.l [[aI 3,aI 0]],.nl,.nl,.nl,.nl,.nl,.nl]) ca0.av:=fun T n=>cv_ci (.v _) (treeP [(3,0)] _ _)
 have hfG:∀(T:Store) (n:Nat),Cv T n (.a [aI 13,.v (.string ⟨#[]⟩),aI 0,.l [[aI 2,.v (.string ⟨#[]⟩),aI 0,.nl]]]) foG.av:=fun T n=>cv_fo1 rfl (cv_fo0 2 0)
 rw[bld_of (cs:=[aI 3,aI 0]) rfl]
 refine bslP ?_
 rw[bld_of (cs:=[aI 0,.l [[aI 3,aI 0]],.nl,.nl,.nl,.nl,.nl,.nl]) rfl]
 refine boxA_of rfl fun S1 k1 n1 o1=>?_
 refine stA_of (cs':=[aI 0,.l [[aI 3,aI 0]],.nl,.nl,.nl,.nl,.nl,.nl]) o1 rfl rfl fun S2 n2 o2 f2=>?_
 have k2:=k1.st (Nat.le_refl _) n2 f2
 rw[bld_of (cs:=[aI 2,.v (.string ⟨#[]⟩),aI 0,.nl]) rfl]
 refine bslA4 rfl ?_
 rw[bld_of (cs:=[aI 13,.v (.string ⟨#[]⟩),aI 0,.l [[aI 2,.v (.string ⟨#[]⟩),aI 0,.nl]]]) rfl]
 refine boxA_of rfl fun S3 k3 n3 o3=>?_
 refine stA_of (cs':=[aI 13,.v (.string ⟨#[]⟩),aI 0,.l [[aI 2,.v (.string ⟨#[]⟩),aI 0,.nl]]]) o3 rfl rfl fun S4 n4 o4 f4=>?_
 have k4:=k3.st (Nat.le_refl _) n4 f4
 refine bsl2 rfl rfl ?_
 rw[bld_of (cs:=[aI 1,aI 0,aI 0,.nl,.nl]) rfl,bld_of (cs:=[aI 1,aI 1,aI 0,.nl,.nl]) rfl]
 refine bslT2 rfl rfl ?_
 rw[bld_of (cs:=[aI 6,aI 0,aI 0,.l [[aI 0],[aI 1]],.l [[aI 1,aI 0,aI 0,.nl,.nl],[aI 1,aI 1,aI 0,.nl,.nl]]]) rfl]
 refine boxA_of rfl fun S5 k5 n5 o5=>?_
 refine stA_of (cs':=[aI 6,aI 0,aI 0,.l [[aI 0],[aI 1]],.l [[aI 1,aI 0,aI 0,.nl,.nl],[aI 1,aI 1,aI 0,.nl,.nl]]]) o5 rfl rfl fun S6 n6 o6 f6=>?_
 have k6:=k5.st (Nat.le_refl _) n6 f6
 have p6:=(k6.2 _ (by omega)).trans ((k4.2 _ (by omega)).trans o2)
 have q6:=(k6.2 _ (by omega)).trans o4
 rw[ldN_p (n:=8) p6 rfl,ldN_p (n:=4) q6 rfl,ldN_p (n:=5) o6 rfl]
 refine callF_cv' (args:=[.a [aI 0,.l [[aI 3,aI 0]],.nl,.nl,.nl,.nl,.nl,.nl],.a [aI 13,.v (.string ⟨#[]⟩),aI 0,.l [[aI 2,.v (.string ⟨#[]⟩),aI 0,.nl]]],.a [aI 6,aI 0,aI 0,.l [[aI 0],[aI 1]],.l [[aI 1,aI 0,aI 0,.nl,.nl],[aI 1,aI 1,aI 0,.nl,.nl]]]]) h1 rfl (cv_3 (hci _ _) (hfG _ _) (cv_lp 0)) ?_
 rw[extr0,extr1,shift_p]
 refine stF_of o6 (by decide) rfl fun S7 n7 o7 f7=>?_
 have o7:S7.obj S4.n=some (.cells 37 [[aI 6,aI 0,aI 1,.l [[aI 0],[aI 1]],.l [[aI 1,aI 0,aI 0,.nl,.nl],[aI 1,aI 1,aI 0,.nl,.nl]]]] true):=o7
 have p7:=(f7 _ (by omega)).trans p6
 have q7:=(f7 _ (by omega)).trans q6
 have k7:Keep S S7:=((k2.trans k4).trans k6).st (id:=S4.n) (by have:=k2.1;have:=k4.1;omega) n7 f7
 rw[ldN_p (n:=8) p7 rfl,ldN_p (n:=4) q7 rfl,ldN_p (n:=5) o7 rfl]
 refine callF_cv' (args:=[.a [aI 0,.l [[aI 3,aI 0]],.nl,.nl,.nl,.nl,.nl,.nl],.a [aI 13,.v (.string ⟨#[]⟩),aI 0,.l [[aI 2,.v (.string ⟨#[]⟩),aI 0,.nl]]],.a [aI 6,aI 0,aI 1,.l [[aI 0],[aI 1]],.l [[aI 1,aI 0,aI 0,.nl,.nl],[aI 1,aI 1,aI 0,.nl,.nl]]]]) h2 rfl (cv_3 (hci _ _) (hfG _ _) (cv_lp 1)) ?_
 rw[extr0,extr1,ldN_p (n:=8) p7 rfl,bld_of (cs:=[aI 1,.v (.string ⟨#[]⟩),aI 0,.nl]) rfl]
 refine bslA4 rfl ?_
 rw[bld_of (cs:=[aI 14,.v (.string ⟨#[]⟩),aI 0,.l [[aI 1,.v (.string ⟨#[]⟩),aI 0,.nl]]]) rfl,bld_of (cs:=[aI 7,aI 0,aI 0,.nl,.nl]) rfl]
 refine callF_cv' (args:=[.a [aI 0,.l [[aI 3,aI 0]],.nl,.nl,.nl,.nl,.nl,.nl],.a [aI 14,.v (.string ⟨#[]⟩),aI 0,.l [[aI 1,.v (.string ⟨#[]⟩),aI 0,.nl]]],.a [aI 7,aI 0,aI 0,.nl,.nl]]) h3 rfl (cv_3 (hci _ _) (cv_fo1 rfl (cv_fo0 1 0)) (cv_tl 7 0 0)) ?_
 rw[extr0,extr1,ldN_p (n:=4) q7 rfl]
 refine bslA4 rfl ?_
 rw[bld_of (cs:=[aI 4,.v (.string ⟨#[]⟩),aI 0,.l [[aI 13,.v (.string ⟨#[]⟩),aI 0,.l [[aI 2,.v (.string ⟨#[]⟩),aI 0,.nl]]]]]) rfl]
 refine callF_cv' (args:=[.a [aI 4,.v (.string ⟨#[]⟩),aI 0,.l [[aI 13,.v (.string ⟨#[]⟩),aI 0,.l [[aI 2,.v (.string ⟨#[]⟩),aI 0,.nl]]]]]]) h4 rfl (fun k u u2 e1 e2=>?_) ?_
 ·match k with
  |0 =>
   cases e1;cases e2
   refine cv_fo1 rfl fun k u u2 e1 e2=>?_
   have hh:Cv S7 S7.n (.a [aI 13,.v (.string ⟨#[]⟩),aI 0,.l [[aI 2,.v (.string ⟨#[]⟩),aI 0,.nl]]]) foG.av:=hfG _ _
   cases hh with
   |a _ _ hl hR=>exact hR k u u2 e1 e2
  |k+1=>simp at e1
 refine boxA_of rfl fun S8 k8 n8 o8=>?_
 refine stA_of (cs':=(foOne 12 (.mk 1 ⟨#[]⟩ 0 [])).row) o8 (Fo.row_len _) rfl fun S9 n9 o9 f9=>?_
 have k9:=k8.st (Nat.le_refl _) n9 f9
 rw[Fo.row_mk]at o9
 rw[onB_v,gd_T rfl,bin_eql,onB_v,gd_T (decide_eq_true rfl),un_not,onB_v,gd_nF rfl,onB_v,gd_T rfl,bin_eql,onB_v,gd_T (decide_eq_true rfl),shift_p,ld1_p o9 rfl rfl,bin_eql,onB_v,gd_T (decide_eq_true rfl),shift_p,ld1_p o9 rfl rfl,lenS_foL,bin_eql,onB_v,gd_T (decide_eq_true (show(([Fo.mk 1 ⟨#[]⟩ 0 []].length:Nat):Int)=1 from rfl)),shift_p,ld1_p o9 rfl rfl,ixF0]
 have rk:(Fo.mk 1 ⟨#[]⟩ 0 []).row[0]? = some (aI 1):=by rw[Fo.row_mk];rfl
 have sq:∀ K:AV→Store→Prop,shift (.q (Fo.mk 1 ⟨#[]⟩ 0 []).row 0) 0 S9 K=K (.q (Fo.mk 1 ⟨#[]⟩ 0 []).row 0) S9:=fun K=>rfl
 rw[sq,show ∀ K:AV→Store→Prop,ld1 (.q (Fo.mk 1 ⟨#[]⟩ 0 []).row 0) S9 K=K (aI 1) S9 from fun K=>by simp[ld1,rd1,place,rk],bin_eql]
 exact⟨rfl,k7.trans k9⟩
def nextsTo (c:Ci) (s:Int) (k:Nat):List Int:=((List.range k).map fun x:Nat=>afterB c s+(x:Int)).filter (validS c)
def nextsB (c:Ci) (s:Int):List Int:=if validS c s=true then nextsTo c s (2 ^ c.inputs.toNat)else[]
theorem nextsTo_succ(c:Ci)(s:Int)(k:Nat):nextsTo c s (k+1)=nextsTo c s k++(if validS c (afterB c s+(k:Int))=true then[afterB c s+(k:Int)]else[]):=by
 unfold nextsTo
 rw[List.range_succ,List.map_append,List.filter_append]
 congr 1
 simp[List.filter_cons]
theorem nextsTo_len(c:Ci)(s:Int)(k:Nat):(nextsTo c s k).length≤k:=by
 unfold nextsTo
 have:=List.length_filter_le (validS c) ((List.range k).map fun x:Nat=>afterB c s+(x:Int))
 simpa using this
theorem after_rng{c:Ci}(hc:Cs c)(s:Int):0≤afterB c s∧afterB c s≤1152921504606846976:=by
 obtain⟨m,h1,h2,h3,h4,h5⟩:=hc.sum
 unfold afterB
 rw[if_pos (by rw[hc.right,h2];simp;omega)]
 have:=afterTo_le c s c.latches.length
 have h6:=pow_le60 (n:=c.inputs.toNat+c.latches.length) (by omega)
 omega
theorem ans42{c:Ci}(hc:Cs c)(hi:c.inputs≤30)(s:Int):Ans Pg 42 [c.av,aI s] (aL aI (nextsB c s)):=by
 refine ACalls.ans_own (f:=fun n=>.int .i64 n) (e:=3) fun S=>calls42 ?_
 obtain⟨m,h1,h2,h3,h4,h5⟩:=hc.sum
 obtain⟨a0,a1⟩:=after_rng hc s
 unfold m42
 obtain⟨j,hj⟩:=Int.eq_ofNat_of_zero_le h4
 have hj30:j≤30:=by omega
 have hp:2 ^ j≤2 ^ 30:=Nat.pow_le_pow_right (by decide) hj30
 have hp2:(2:Nat) ^ 30=1073741824:=by decide
 refine boxA_of rfl fun S1 k1 n1 o1=>?_
 refine loop42_0 (fun y z S'=>∃ i:Nat,z=aI i∧i≤2 ^ j∧Keep S S'∧S1.n≤S'.n∧S'.obj S.n=some (.cells 29 [c.cells] true)∧(0<i→validS c s=true)∧Own S1.n S' y 3 ((nextsTo c s i).map fun n=>[.v (.int .i64 n)]))
  (fun _ z _=>2 ^ j - ((intA z).getD 0).toNat) ⟨0,rfl,Nat.zero_le _,k1,Nat.le_refl _,o1,(fun h=>by omega),.nl _ _ _⟩ ?_
 rintro y _ S2 ⟨i,rfl,hi,k2,n2,o2,hv,w2⟩ KE hKE
 unfold b42_0
 have hadd:∀(T:Store) (K:AV→Store→Prop),bin .add 0 (aI i) (.v (.int .i64 1)) T K=K (aI (i+1:Nat)) T:=fun T K=>bin_add (by omega) (by omega) 0
 have fin:validS c s=false∨i=2 ^ j→Own S1.n S2 y 3 ((nextsB c s).map fun n=>[.v (.int .i64 n)]):=by
  intro h
  unfold nextsB
  rcases h with h|h
  ·rw[if_neg (by simp[h])]
   have:i=0:=by
    rcases Nat.eq_zero_or_pos i with h0|h0
    ·exact h0
    ·rw[hv h0]at h;cases h
   subst this
   exact w2
  ·cases e:validS c s with
   |true=>rw[if_pos rfl,hj,Int.toNat_natCast,←h];exact w2
   |false =>
    have:i=0:=by
     rcases Nat.eq_zero_or_pos i with h0|h0
     ·exact h0
     ·rw[hv h0]at e;cases e
    have h2:0<2 ^ j:=Nat.pow_pos (by decide)
    omega
 rw[shift_p,ld1_p o2 rfl rfl]
 show bin .shl 0 (.v (.int .i64 1)) (aI c.inputs) _ _
 have hpc:((2:Int) ^ j)=((2 ^ j:Nat):Int):=by rw[Int.natCast_pow];rfl
 rw[hj,bin_shl1 (by omega),hpc,bin_lss,onB_v]
 refine gd_of (fun hlt=>?_) (fun hge=>?_)
 ·have hlt:i<2 ^ j:=by have:=dT hlt;omega
  rw[ldN_p (n:=8) o2 rfl]
  refine callF_ans (ans65 hc s) ?_
  rw[onB_v]
  refine gd_of (fun hvs=>?_) (fun hvs=>⟨_,rfl,k2,(fin (.inl hvs)).low k1.1⟩)
  rw[ldN_p (n:=8) o2 rfl]
  refine callF_ans (ans78 hc.ok s) ?_
  rw[bin_add (by omega) (by omega),ldN_p (n:=8) o2 rfl]
  refine callF_ans (ans65 hc (afterB c s+i)) ?_
  rw[onB_v]
  have hlen:=nextsTo_len c s i
  refine gd_of (fun hvt=>?_) (fun hvt=>?_)
  ·refine bsl1 rfl (fun _ h=>by cases h) ?_
   refine w2.app (c:=[aI (afterB c s+i)]) (by omega) rfl (by simp;omega) (fun z S3 w3 b3 hz=>?_) rfl
   obtain⟨m3,hm3⟩:=hz
   have n3:=b3.1
   have old3:∀ x,x<S1.n→S3.obj x=S2.obj x:=fun x hx=>b3.2 x (by omega) (fun b m e=>by have:=w2.lt e;omega)
   rw[hadd]
   refine hKE _ _ _ ⟨i+1,rfl,hlt,⟨by have:=k2.1;omega,fun x hx=>(old3 x (by omega)).trans (k2.2 x hx)⟩,by omega,(old3 _ (by omega)).trans o2,fun _=>hvs,?_⟩ (by simp[intA];omega)
   rw[nextsTo_succ,if_pos hvt,List.map_append]
   exact w3
  ·rw[hadd]
   refine hKE _ _ _ ⟨i+1,rfl,hlt,k2,n2,o2,fun _=>hvs,?_⟩ (by simp[intA];omega)
   rw[nextsTo_succ,if_neg (by simp[hvt]),List.append_nil]
   exact w2
 ·have hge:i=2 ^ j:=by have:=dF hge;omega
  exact⟨_,rfl,k2,(fin (.inr hge)).low k1.1⟩
theorem nexts_rng{c:Ci}(hc:Cs c)(hi:c.inputs≤30){s x:Int}(h:x∈nextsB c s):0≤x∧x≤1152921505680588800:=by
 obtain⟨a0,a1⟩:=after_rng hc s
 obtain⟨m,h1,h2,h3,h4,h5⟩:=hc.sum
 unfold nextsB at h
 split at h
 ·unfold nextsTo at h
  have h:=(List.mem_filter.1 h).1
  obtain⟨k,hk,rfl⟩:=List.mem_map.1 h
  have hk:=List.mem_range.1 hk
  have hp:2 ^ c.inputs.toNat≤2 ^ 30:=Nat.pow_le_pow_right (by decide) (by omega)
  have hp2:(2:Nat) ^ 30=1073741824:=by decide
  omega
 ·cases h
theorem nexts_len{c:Ci}(hi:c.inputs≤30)(s:Int):(nextsB c s).length≤1073741824:=by
 unfold nextsB
 split
 ·have:=nextsTo_len c s (2 ^ c.inputs.toNat)
  have hp:2 ^ c.inputs.toNat≤2 ^ 30:=Nat.pow_le_pow_right (by decide) (by omega)
  have hp2:(2:Nat) ^ 30=1073741824:=by decide
  omega
 ·simp
abbrev intsR(ss:List Int):List (List AV):=ss.map fun a=>[aI a]
def XsOk(S:Store)(lo hi:Nat)(xs:AV):Prop:=xs = .nl∨∃(id:Nat) (ss:List Int),xs = .s id 0 ss.length∧lo≤id∧id<hi∧S.obj id=some (.cells 3 (intsR ss) true)∧ss.length≤1000∧∀ a∈ss,i64R a
inductive Lv (S:Store):Nat→Nat→List AV→Prop
 |leaf (lo hi:Nat) (kd s b:Int) (xs:AV) (h0:i64R kd) (hs:i64R s) (hb:i64R b) (h1:lo≤hi) (hx:XsOk S lo hi xs):Lv S lo hi [aI kd,aI s,aI b,xs,.nl]
 |kids (lo hi:Nat) (kd s b:Int) (xs:AV) (id:Nat) (rs:List (List AV)) (bd:Nat→Nat) (h0:i64R kd) (hs:i64R s) (hb:i64R b) (hx:XsOk S lo (bd 0) xs) (h1:lo≤bd 0)
    (hm:∀ i,i<rs.length→bd i≤bd (i+1)) (h2:bd rs.length≤id) (h3:id<hi) (ho:S.obj id=some (.cells 37 rs true)) (hl:rs.length≤1000)
    (h:∀ i (hi:i<rs.length),Lv S (bd i) (bd (i+1)) rs[i]):Lv S lo hi [aI kd,aI s,aI b,xs,.s id 0 rs.length]
def LvL(S:Store)(lo hi:Nat)(rs:List (List AV)):Prop:=∃ bd:Nat→Nat,lo≤bd 0∧bd rs.length≤hi∧(∀ i,i<rs.length→bd i≤bd (i+1))∧∀ i (hi:i<rs.length),Lv S (bd i) (bd (i+1)) rs[i]
theorem bd_mono{bd:Nat→Nat}{n:Nat}(hm:∀ i,i<n→bd i≤bd (i+1)){i j:Nat}(hij:i≤j)(hj:j≤n):bd i≤bd j:=by
 induction j with
 |zero=>have:i=0:=by omega
        rw[this];exact Nat.le_refl _
 |succ j ih =>
  by_cases e:i=j+1
  ·rw[e];exact Nat.le_refl _
  ·exact Nat.le_trans (ih (by omega) (by omega)) (hm j (by omega))
theorem XsOk.frame{S S':Store}{lo hi:Nat}{xs:AV}(h:XsOk S lo hi xs)(hf:∀ i,lo≤i→i<hi→S'.obj i=S.obj i):XsOk S' lo hi xs:=by
 rcases h with h|⟨id,ss,h1,h2,h3,h4,h5,h6⟩
 ·exact .inl h
 ·exact .inr ⟨id,ss,h1,h2,h3,(hf id h2 h3).trans h4,h5,h6⟩
theorem XsOk.mono{S:Store}{lo hi lo' hi':Nat}{xs:AV}(h:XsOk S lo hi xs)(hl:lo'≤lo)(hh:hi≤hi'):XsOk S lo' hi' xs:=by
 rcases h with h|⟨id,ss,h1,h2,h3,h4⟩
 ·exact .inl h
 ·exact .inr ⟨id,ss,h1,by omega,by omega,h4⟩
theorem Lv.le{S:Store}{lo hi:Nat}{r:List AV}(h:Lv S lo hi r):lo≤hi:=by
 cases h with
 |leaf _ _ kd s b xs h0 hs hb h1 hx=>exact h1
 |kids _ _ kd s b xs id rs bd h0 hs hb hx h1 hm h2 h3 ho hl h =>
  have:=bd_mono hm (Nat.zero_le _) (Nat.le_refl _)
  omega
theorem Lv.len{S:Store}{lo hi:Nat}{r:List AV}(h:Lv S lo hi r):r.length=5:=by cases h<;>rfl
theorem Lv.mono{S:Store}{lo hi lo' hi':Nat}{r:List AV}(h:Lv S lo hi r)(hl:lo'≤lo)(hh:hi≤hi'):Lv S lo' hi' r:=by
 have hle:=h.le
 cases h with
 |leaf _ _ kd s b xs h0 hs hb h1 hx=>exact .leaf _ _ _ _ _ _ h0 hs hb (by omega) (hx.mono hl hh)
 |kids _ _ kd s b xs id rs bd h0 hs hb hx h1 hm h2 h3 ho hln h=>exact .kids _ _ _ _ _ _ _ _ bd h0 hs hb (hx.mono hl (Nat.le_refl _)) (by omega) hm h2 (by omega) ho hln h
theorem Lv.frame{S S':Store}{lo hi:Nat}{r:List AV}(h:Lv S lo hi r):(∀ i,lo≤i→i<hi→S'.obj i=S.obj i)→Lv S' lo hi r:=by
 induction h with
 |leaf lo hi kd s b xs h0 hs hb h1 hx=>exact fun hf=>.leaf _ _ _ _ _ _ h0 hs hb h1 (hx.frame hf)
 |kids lo hi kd s b xs id rs bd h0 hs hb hx h1 hm h2 h3 ho hl h ih =>
  intro hf
  have b0:=bd_mono hm (Nat.zero_le rs.length) (Nat.le_refl _)
  refine .kids _ _ _ _ _ _ _ _ bd h0 hs hb (hx.frame fun i a b=>hf i a (by omega)) h1 hm h2 h3 ((hf id (by omega) h3).trans ho) hl fun i hi=>ih i hi fun j a b=>hf j ?_ ?_
  ·have:=bd_mono hm (Nat.zero_le i) (Nat.le_of_lt hi);omega
  ·have:=bd_mono hm (show i+1≤rs.length from hi) (Nat.le_refl _);omega
theorem LvL.nil(S:Store)(lo:Nat):LvL S lo lo []:=⟨fun _=>lo,Nat.le_refl _,Nat.le_refl _,fun i h=>by simp at h,fun i h=>by simp at h⟩
theorem LvL.frame{S S':Store}{lo hi:Nat}{rs:List (List AV)}(h:LvL S lo hi rs)(hf:∀ i,lo≤i→i<hi→S'.obj i=S.obj i):LvL S' lo hi rs:=by
 obtain⟨bd,h1,h2,hm,h⟩:=h
 refine⟨bd,h1,h2,hm,fun i hi=>(h i hi).frame fun j a b=>hf j ?_ ?_⟩
 ·have:=bd_mono hm (Nat.zero_le i) (Nat.le_of_lt hi);omega
 ·have:=bd_mono hm (show i+1≤rs.length from hi) (Nat.le_refl _);omega
theorem LvL.snoc{S:Store}{lo hi a b:Nat}{rs:List (List AV)}{r:List AV}(h:LvL S lo hi rs)(hr:Lv S a b r)(ha:hi≤a):LvL S lo b (rs ++ [r]):=by
 obtain⟨bd,h1,h2,hm,h⟩:=h
 have hab:=hr.le
 have hbm:=fun i (hi:i≤rs.length)=>bd_mono hm hi (Nat.le_refl _)
 refine⟨fun i=>if i≤rs.length then bd i else b,?_,?_,fun i hi=>?_,fun i hi=>?_⟩
 ·show lo≤(if 0≤rs.length then bd 0 else b)
  rw[if_pos (Nat.zero_le _)];exact h1
 ·show(if(rs ++ [r]).length≤rs.length then bd (rs ++ [r]).length else b)≤b
  rw[if_neg (by simp)];exact Nat.le_refl _
 ·simp only[List.length_append,List.length_cons,List.length_nil]at hi
  show(if i≤rs.length then bd i else b)≤(if i+1≤rs.length then bd (i+1)else b)
  by_cases e:i=rs.length
  ·rw[if_pos (by omega),if_neg (by omega),e];omega
  ·rw[if_pos (by omega),if_pos (by omega)];exact hm i (by omega)
 ·have hi2:i<rs.length+1:=by simpa using hi
  show Lv S (if i≤rs.length then bd i else b) (if i+1≤rs.length then bd (i+1)else b) _
  by_cases e:i=rs.length
  ·subst e
   rw[if_pos (Nat.le_refl _),if_neg (by omega)]
   simp only[List.getElem_concat_length]
   exact hr.mono (by omega) (Nat.le_refl _)
  ·rw[if_pos (by omega),if_pos (by omega),List.getElem_append_left (by omega)]
   exact h i (by omega)
theorem Lv.of{S:Store}{lo mid h' hi:Nat}{kd s b:Int}{xs:AV}{id:Nat}{rs:List (List AV)}(h0:i64R kd)(hs:i64R s)(hb:i64R b)(hx:XsOk S lo mid xs)(hlm:lo≤mid)(hk:LvL S mid h' rs)(h2:h'≤id)(h3:id<hi)(ho:S.obj id=some (.cells 37 rs true))(hl:rs.length≤1000):
    Lv S lo hi [aI kd,aI s,aI b,xs,.s id 0 rs.length]:=by
 obtain⟨bd,k1,k2,hm,h⟩:=hk
 exact .kids _ _ _ _ _ _ _ _ bd h0 hs hb (hx.mono (Nat.le_refl _) k1) (by omega) hm (by omega) h3 ho hl h
def XsW(S:Store)(xs:AV):Prop:=xs = .nl∨∃(id:Nat) (ss:List Int),xs = .s id 0 ss.length∧S.obj id=some (.cells 3 (intsR ss) true)∧ss.length≤2000∧∀ a∈ss,i64R a
inductive Lw (S:Store):List AV→Prop
 |leaf (kd s b:Int) (xs:AV) (h0:i64R kd) (hs:i64R s) (hb:i64R b) (hx:XsW S xs):Lw S [aI kd,aI s,aI b,xs,.nl]
 |kids (kd s b:Int) (xs:AV) (id m:Nat) (rs:List (List AV)) (h0:i64R kd) (hs:i64R s) (hb:i64R b) (hx:XsW S xs) (ho:S.obj id=some (.cells 37 rs true)) (hm:m≤rs.length) (hl:rs.length≤2000) (h:∀ i (hi:i<rs.length),Lw S rs[i]):Lw S [aI kd,aI s,aI b,xs,.s id 0 m]
theorem XsOk.w{S:Store}{lo hi:Nat}{xs:AV}(h:XsOk S lo hi xs):XsW S xs:=by
 rcases h with h|⟨id,ss,h1,h2,h3,h4,h5,h6⟩
 ·exact .inl h
 ·exact .inr ⟨id,ss,h1,h4,by omega,h6⟩
theorem Lv.w{S:Store}{lo hi:Nat}{r:List AV}(h:Lv S lo hi r):Lw S r:=by
 induction h with
 |leaf lo hi kd s b xs h0 hs hb h1 hx=>exact .leaf _ _ _ _ h0 hs hb hx.w
 |kids lo hi kd s b xs id rs bd h0 hs hb hx h1 hm h2 h3 ho hl h ih=>exact .kids _ _ _ _ _ _ rs h0 hs hb hx.w ho (Nat.le_refl _) (by omega) ih
theorem XsW.cv{S:Store}{xs:AV}(h:XsW S xs){m:Nat}:∃ ss:List Int,ss.length≤2000∧(∀ a∈ss,i64R a)∧Cv (S.frz allD) m xs (aL aI ss):=by
 rcases h with rfl|⟨id,ss,rfl,h1,h2,h3⟩
 ·exact⟨[],by simp,(fun a h=>by cases h),.nl⟩
 ·refine⟨ss,h2,h3,?_⟩
  have hf:(S.frz allD).obj id=some (.cells 3 (intsR ss) false):=by rw[frz_of h1];rfl
  refine .s id 0 _ _ (intsR ss) (intsR ss) hf (by simp) (by simp) (fun i c c2 e1 e2=>?_) (fun i c c2 k u u2 e1 e2 e3 e4=>?_)
  ·rw[Nat.zero_add,e2]at e1;cases e1;rfl
  ·rw[Nat.zero_add,e2]at e1
   cases e1
   rw[e4]at e3
   cases e3
   rw[List.getElem?_map]at e2
   obtain⟨a,_,rfl⟩:=Option.map_eq_some_iff.1 e2
   match k with
   |0=>cases e4;exact .v _
   |k+1=>simp at e4
theorem Lw.cv{S:Store}{r:List AV}(h:Lw S r)(m:Nat):∃ t:Tn,t.ok∧r.length=5∧∀(k:Nat) (u u2:AV),r[k]? = some u→t.row[k]? = some u2→Cv (S.frz allD) m u u2:=by
 induction h with
 |leaf kd s b xs h0 hs hb hx =>
  obtain⟨ss,s1,s2,s3⟩:=hx.cv (m:=m)
  refine⟨.mk kd s b ss [],.mk _ _ _ _ _ h0 hs hb (by omega) s2 (by decide) (fun t ht=>by cases ht),rfl,fun k u u2 e1 e2=>?_⟩
  rw[Tn.row_mk]at e2
  match k with
  |0=>cases e1;cases e2;exact .v _
  |1=>cases e1;cases e2;exact .v _
  |2=>cases e1;cases e2;exact .v _
  |3=>cases e1;cases e2;exact s3
  |4=>cases e1;cases e2;exact .nl
  |k+5=>simp at e1
 |kids kd s b xs id n rs h0 hs hb hx ho hm hl h ih =>
  obtain⟨ss,s1,s2,s3⟩:=hx.cv (m:=m)
  have hch:∀ i:Fin rs.length,∃ t:Tn,t.ok∧rs[i].length=5∧∀(k:Nat) (u u2:AV),rs[i][k]? = some u→t.row[k]? = some u2→Cv (S.frz allD) m u u2:=fun i=>ih i.1 i.2
  obtain⟨f,hf⟩:=Classical.axiomOfChoice hch
  let ts:List Tn:=List.ofFn fun i:Fin n=>f ⟨i.1,by omega⟩
  have tl:ts.length=n:=List.length_ofFn
  have tg:∀ i (hi:i<n),ts[i]? = some (f ⟨i,by omega⟩):=fun i hi=>by
   rw[List.getElem?_eq_getElem (by omega),List.getElem_ofFn]
  refine⟨.mk kd s b ss ts,.mk _ _ _ _ _ h0 hs hb (by omega) s2 (by omega) (fun t ht=>?_),rfl,fun k u u2 e1 e2=>?_⟩
  ·obtain⟨i,hi,rfl⟩:=List.getElem_of_mem ht
   have:=tg i (by omega)
   rw[List.getElem?_eq_getElem hi]at this
   rw[Option.some.inj this]
   exact(hf _).1
  ·rw[Tn.row_mk]at e2
   match k with
   |0=>cases e1;cases e2;exact .v _
   |1=>cases e1;cases e2;exact .v _
   |2=>cases e1;cases e2;exact .v _
   |3=>cases e1;cases e2;exact s3
   |4 =>
    cases e1;cases e2
    have hfz:(S.frz allD).obj id=some (.cells 37 rs false):=by rw[frz_of ho];rfl
    refine .s id 0 n _ rs (ts.map Tn.row) hfz (by omega) (by rw[List.length_map,tl]) (fun i c c2 e1 e2=>?_) (fun i c c2 k u u2 e1 e2 e3 e4=>?_)
    ·rw[Nat.zero_add]at e1
     rw[List.getElem?_map]at e2
     obtain⟨t,ht,rfl⟩:=Option.map_eq_some_iff.1 e2
     have hi:i<n:=by rw[←tl];exact(List.getElem?_eq_some_iff.1 ht).1
     rw[List.getElem?_eq_getElem (show i<rs.length by omega)]at e1
     cases e1
     rw[Tn.row_len]
     exact(hf ⟨i,by omega⟩).2.1
    ·rw[Nat.zero_add]at e1
     rw[List.getElem?_map]at e2
     obtain⟨t,ht,rfl⟩:=Option.map_eq_some_iff.1 e2
     have hi:i<n:=by rw[←tl];exact(List.getElem?_eq_some_iff.1 ht).1
     rw[tg i hi]at ht
     cases ht
     rw[List.getElem?_eq_getElem (show i<rs.length by omega)]at e1
     cases e1
     exact(hf ⟨i,by omega⟩).2.2 k u u2 e3 e4
   |k+5=>simp at e1
theorem Lw.av{S:Store}{r:List AV}(h:Lw S r)(m:Nat):∃ t:Tn,t.ok∧Cv (S.frz allD) m (.a r) t.av:=by
 obtain⟨t,h1,h2,h3⟩:=h.cv m
 exact⟨t,h1,.a r t.row (by rw[h2,Tn.row_len]) h3⟩
theorem Lw.set{S:Store}{r:List AV}(h:Lw S r){j:Nat}(hj:j<3){v:Int}(hv:i64R v):Lw S (r.set j (aI v)):=by
 cases h with
 |leaf kd s b xs h0 hs hb hx =>
  match j,hj with
  |0,_=>exact .leaf _ _ _ _ hv hs hb hx
  |1,_=>exact .leaf _ _ _ _ h0 hv hb hx
  |2,_=>exact .leaf _ _ _ _ h0 hs hv hx
 |kids kd s b xs id n rs h0 hs hb hx ho hm hl h =>
  match j,hj with
  |0,_=>exact .kids _ _ _ _ _ _ rs hv hs hb hx ho hm hl h
  |1,_=>exact .kids _ _ _ _ _ _ rs h0 hv hb hx ho hm hl h
  |2,_=>exact .kids _ _ _ _ _ _ rs h0 hs hv hx ho hm hl h
inductive Cx (S:Store):Nat→Nat→List AV→Nat→Nat→Nat→Nat→List AV→Prop
 |here (lo hi:Nat) (kd s b:Int) (xs:AV) (id:Nat) (rs:List (List AV)) (bd:Nat→Nat) (h0:i64R kd) (hs:i64R s) (hb:i64R b) (hx:XsOk S lo (bd 0) xs) (h1:lo≤bd 0)
    (hm:∀ i,i<rs.length→bd i≤bd (i+1)) (h2:bd rs.length≤id) (h3:id<hi) (ho:S.obj id=some (.cells 37 rs true)) (hl:rs.length≤1000)
    (h:∀ i (hi:i<rs.length),Lv S (bd i) (bd (i+1)) rs[i]) (j:Nat) (hj:j<rs.length):Cx S lo hi [aI kd,aI s,aI b,xs,.s id 0 rs.length] id j (bd j) (bd (j+1)) rs[j]
 |there (lo hi:Nat) (kd s b:Int) (xs:AV) (id:Nat) (rs:List (List AV)) (bd:Nat→Nat) (h0:i64R kd) (hs:i64R s) (hb:i64R b) (hx:XsOk S lo (bd 0) xs) (h1:lo≤bd 0)
    (hm:∀ i,i<rs.length→bd i≤bd (i+1)) (h2:bd rs.length≤id) (h3:id<hi) (ho:S.obj id=some (.cells 37 rs true)) (hl:rs.length≤1000)
    (h:∀ i (hi:i<rs.length),Lv S (bd i) (bd (i+1)) rs[i]) (j:Nat) (hj:j<rs.length) (id2 j2 a2 b2:Nat) (r2:List AV) (hc:Cx S (bd j) (bd (j+1)) rs[j] id2 j2 a2 b2 r2):Cx S lo hi [aI kd,aI s,aI b,xs,.s id 0 rs.length] id2 j2 a2 b2 r2
theorem Cx.snoc{S:Store}{lo hi id j a b:Nat}{row r:List AV}(h:Cx S lo hi row id j a b r):∀{id2 j2 a2 b2:Nat} {r2:List AV},Cx S a b r id2 j2 a2 b2 r2→Cx S lo hi row id2 j2 a2 b2 r2:=by
 induction h with
 |here lo hi kd s b xs id rs bd h0 hs hb hx h1 hm h2 h3 ho hl h j hj=>exact fun k=>.there _ _ _ _ _ _ _ rs bd h0 hs hb hx h1 hm h2 h3 ho hl h j hj _ _ _ _ _ k
 |there lo hi kd s b xs id rs bd h0 hs hb hx h1 hm h2 h3 ho hl h j hj id2 j2 a2 b2 r2 hc ih=>exact fun k=>.there _ _ _ _ _ _ _ rs bd h0 hs hb hx h1 hm h2 h3 ho hl h j hj _ _ _ _ _ (ih k)
theorem Cx.at_{S:Store}{lo hi id j a b:Nat}{row r:List AV}(h:Cx S lo hi row id j a b r):Lv S a b r∧lo≤a∧b≤id∧id<hi∧∃ rs,S.obj id=some (.cells 37 rs true)∧rs[j]? = some r:=by
 induction h with
 |here lo hi kd s b xs id rs bd h0 hs hb hx h1 hm h2 h3 ho hl h j hj =>
  refine⟨h j hj,?_,?_,h3,rs,ho,List.getElem?_eq_getElem hj⟩
  ·have:=bd_mono hm (Nat.zero_le j) (Nat.le_of_lt hj);omega
  ·have:=bd_mono hm (show j+1≤rs.length from hj) (Nat.le_refl _);omega
 |there lo hi kd s b xs id rs bd h0 hs hb hx h1 hm h2 h3 ho hl h j hj id2 j2 a2 b2 r2 hc ih =>
  obtain⟨i1,i2,i3,i4,i5⟩:=ih
  have e1:=bd_mono hm (Nat.zero_le j) (Nat.le_of_lt hj)
  have e2:=bd_mono hm (show j+1≤rs.length from hj) (Nat.le_refl _)
  exact⟨i1,by omega,i3,by omega,i5⟩
theorem Lv.step{S:Store}{lo hi:Nat}{kd s b:AV}{xs:AV}{id n:Nat}(h:Lv S lo hi [kd,s,b,xs,.s id 0 n]):∃ rs,S.obj id=some (.cells 37 rs true)∧n=rs.length∧n≤1000∧∀ j,j<n→∃ a b' r,rs[j]? = some r∧Cx S lo hi [kd,s,b,xs,.s id 0 n] id j a b' r:=by
 cases h with
 |kids _ _ kd s b xs id rs bd h0 hs hb hx h1 hm h2 h3 ho hl h=>exact⟨rs,ho,rfl,hl,fun j hj=>⟨_,_,_,List.getElem?_eq_getElem hj,.here _ _ _ _ _ _ _ rs bd h0 hs hb hx h1 hm h2 h3 ho hl h j hj⟩⟩
theorem Cx.mod{S:Store}{lo hi id j a b:Nat}{row r:List AV}(h:Cx S lo hi row id j a b r){S':Store}{r':List AV}(hr':Lw S' r'):∀{rs0:List (List AV)},S.obj id=some (.cells 37 rs0 true)→S'.obj id=some (.cells 37 (rs0.set j r') true)→(∀ i,lo≤i→i<hi→i≠id→¬ (a≤i∧i<b)→S'.obj i=S.obj i)→Lw S' row:=by
 induction h with
 |here lo hi kd s b xs id rs bd h0 hs hb hx h1 hm h2 h3 ho hl h j hj =>
  intro rs0 ho0 ho' hf
  rw[ho]at ho0
  injection ho0 with ho0
  injection ho0 with _ ho0 _
  subst ho0
  have m0:=bd_mono hm (Nat.zero_le rs.length) (Nat.le_refl _)
  have hxw:XsW S' xs:=XsOk.w (S:=S') (lo:=lo) (hi:=bd 0) (hx.frame fun i p q=>hf i p (by omega) (by omega) (fun e=>by have:=bd_mono hm (Nat.zero_le j) (Nat.le_of_lt hj);omega))
  have e:(rs.set j r').length=rs.length:=List.length_set
  refine .kids _ _ _ _ _ _ (rs.set j r') h0 hs hb hxw ho' (by omega) (by omega) fun i hi=>?_
  rw[List.getElem_set]
  split
  ·exact hr'
  ·rename_i hne
   rw[e]at hi
   refine Lv.w (lo:=bd i) (hi:=bd (i+1)) ((h i hi).frame fun x p q=>hf x ?_ ?_ ?_ ?_)
   ·have:=bd_mono hm (Nat.zero_le i) (Nat.le_of_lt hi);omega
   ·have:=bd_mono hm (show i+1≤rs.length from hi) (Nat.le_refl _);omega
   ·have:=bd_mono hm (show i+1≤rs.length from hi) (Nat.le_refl _);omega
   ·rcases Nat.lt_or_gt_of_ne hne with hij|hij
    ·have:=bd_mono hm (show j+1≤i from hij) (Nat.le_of_lt hi);omega
    ·have:=bd_mono hm (show i+1≤j from hij) (Nat.le_of_lt hj);omega
 |there lo hi kd s b xs id rs bd h0 hs hb hx h1 hm h2 h3 ho hl h j hj id2 j2 a2 b2 r2 hc ih =>
  intro rs0 ho0 ho' hf
  obtain⟨_,i2,i3,i4,_⟩:=hc.at_
  have i1:a2≤b2:=hc.at_.1.le
  have m0:=bd_mono hm (Nat.zero_le rs.length) (Nat.le_refl _)
  have mj:=bd_mono hm (Nat.zero_le j) (Nat.le_of_lt hj)
  have mj2:=bd_mono hm (show j+1≤rs.length from hj) (Nat.le_refl _)
  have hxw:XsW S' xs:=XsOk.w (S:=S') (lo:=lo) (hi:=bd 0) (hx.frame fun i p q=>hf i p (by omega) (by omega) (by omega))
  refine .kids _ _ _ _ _ _ rs h0 hs hb hxw ((hf id (by omega) h3 (by omega) (by omega)).trans ho) (Nat.le_refl _) (by omega) fun i hi=>?_
  by_cases e:i=j
  ·subst e
   exact ih ho0 ho' fun x p q r t=>hf x (by omega) (by omega) r t
  ·refine Lv.w (lo:=bd i) (hi:=bd (i+1)) ((h i hi).frame fun x p q=>hf x ?_ ?_ ?_ ?_)
   ·have:=bd_mono hm (Nat.zero_le i) (Nat.le_of_lt hi);omega
   ·have:=bd_mono hm (show i+1≤rs.length from hi) (Nat.le_refl _);omega
   ·rcases Nat.lt_or_gt_of_ne e with hij|hij
    ·have:=bd_mono hm (show i+1≤j from hij) (Nat.le_of_lt hj);omega
    ·have:=bd_mono hm (show j+1≤i from hij) (Nat.le_of_lt hi);omega
   ·rcases Nat.lt_or_gt_of_ne e with hij|hij
    ·have:=bd_mono hm (show i+1≤j from hij) (Nat.le_of_lt hj);omega
    ·have:=bd_mono hm (show j+1≤i from hij) (Nat.le_of_lt hi);omega
set_option linter.unusedSectionVars false
def Nw(S S':Store):Prop:=S.n≤S'.n∧∀ i o,i<S'.n→S'.obj i=some o→o.frzs=true∨(i<S.n∧S.obj i=some o)
theorem Nw.refl(S:Store):Nw S S:=⟨Nat.le_refl _,fun i o hi h=>.inr ⟨hi,h⟩⟩
theorem Nw.trans{S S' S'':Store}(h:Nw S S')(k:Nw S' S''):Nw S S'':=⟨Nat.le_trans h.1 k.1,fun i o hi ho=>by
 rcases k.2 i o hi ho with h1|⟨h1,h2⟩
 ·exact .inl h1
 ·exact h.2 i o h1 h2⟩
theorem Nw.st{S S':Store}{id:Nat}{o:AObj}(hn:S'.n=S.n)(ho:S'.obj id=some o)(hc:o.frzs=true)(hf:∀ x,x≠id→S'.obj x=S.obj x):Nw S S':=⟨by omega,fun i p hi h=>by
 by_cases e:i=id
 ·subst e;rw[ho]at h;cases h;exact .inl hc
 ·exact .inr ⟨by omega,(hf i e).symm.trans h⟩⟩
theorem Nw.box{S S':Store}{o:AObj}(k:Keep S S')(hn:S'.n=S.n+1)(ho:S'.obj S.n=some o)(hc:o.frzs=true):Nw S S':=⟨k.1,fun i p hi h=>by
 by_cases e:i=S.n
 ·subst e;rw[ho]at h;cases h;exact .inl hc
 ·exact .inr ⟨by omega,(k.2 i (by omega)).symm.trans h⟩⟩
theorem Nw.plain{S:Store}(h:Nw S0 S):∀ i o,i<S.n→S.obj i=some o→o.frzs=true:=fun i o hi ho=>by
 rcases h.2 i o hi ho with h|⟨h,_⟩
 ·exact h
 ·exact absurd h (Nat.not_lt_zero _)
theorem Nw.new(S:Store){o:AObj}(hc:o.frzs=true):Nw S (S.new o):=Nw.box ((Keep.refl S).new _) rfl (new_self _) hc
theorem Nw.kill(S:Store)(id:Nat):Nw S (S.kill id):=⟨Nat.le_refl _,fun i o hi h=>by
 simp only[Store.kill]at h
 split at h
 ·cases h
 ·exact .inr ⟨hi,h⟩⟩
theorem Own.appX{n:Nat}{S:Store}{x:AV}{e sz b:Nat}{es ys:List (List AV)}(h:Own n S x e es)(hn:n≤S.n){K:AV→Store→Prop}(hne:ys≠[])(hc:∀ c∈ys,c.length=sz)(hb:(es.length+ys.length)*b≤140737488355328)
    (k:∀ x' S',Own n S' x' e (es++ys)→But S S' x→x' = .s S.n 0 (es++ys).length→S'.n=S.n+1→Nw S S'→K x' S') {y:AV} (hy:srcE S y=some ys):appS e sz b x y S K:=by
 refine⟨h.isSl,ys,hy,hc,?_⟩
 cases ys with
 |nil=>exact absurd rfl hne
 |cons c ys =>
  rcases h with⟨rfl,rfl⟩|⟨id,rfl,h1,h2,h3⟩
  ·refine⟨by simpa using hb,k _ _ (.inr ⟨S.n,rfl,hn,Nat.lt_succ_self _,by simp[Store.new]⟩) ⟨Nat.le_succ _,fun i hi _=>?_⟩ (by simp) rfl (Nw.new S rfl)⟩
   simp only[Store.new];rw[if_neg (by omega)]
  ·simp only[appE,h3]
   refine⟨⟨trivial,trivial,by simpa using hb⟩,k _ _ (.inr ⟨S.n,by simp,hn,Nat.lt_succ_self _,by simp[Store.new,Store.kill]⟩) ⟨Nat.le_succ _,fun i hi hne=>?_⟩ (by simp) rfl ?_⟩
   ·have e1:i≠S.n:=by omega
    have e2:i≠id:=fun hq=>hne 0 es.length (by rw[hq])
    simp[Store.new,Store.kill,e1,e2]
   ·exact(Nw.kill S id).trans (Nw.new (S.kill id) rfl)
theorem bslT2_live{e:Nat}{z1 z2 z3 z4 z5:AV}{r r2:List AV}{S:Store}{K:AV→Store→Prop}(hr:r.length=5)(hr2:r2.length=5)(k:∀ S',Keep S S'→S'.n=S.n+1→S'.obj S.n=some (.cells e [r,r2] true)→K (.s S.n 0 2) S'):bslN e 5 2 [z1,z2,z3,z4,z5] [(0,.a r),(1,.a r2)] S K:=by
 match r,hr,r2,hr2 with
 |[u,v,w,x,y],_,[u2,v2,w2,x2,y2],_ =>
  refine⟨[u,v,w,x,y,u2,v2,w2,x2,y2],?_,.inl ?_⟩
  ·simp[fillA,cellsOf,spl,List.range_succ]
  ·have:=k (S.new (.cells e [[u,v,w,x,y],[u2,v2,w2,x2,y2]] true)) ((Keep.refl S).new _) rfl (new_self _)
   simpa[chunks,List.range_succ]using this
theorem bslT1_live{e:Nat}{z1 z2 z3 z4 z5:AV}{r:List AV}{S:Store}{K:AV→Store→Prop}(hr:r.length=5)(k:∀ S',Keep S S'→S'.n=S.n+1→S'.obj S.n=some (.cells e [r] true)→K (.s S.n 0 1) S'):bslN e 5 1 [z1,z2,z3,z4,z5] [(0,.a r)] S K:=by
 match r,hr with
 |[u,v,w,x,y],_ =>
  refine⟨[u,v,w,x,y],?_,.inl ?_⟩
  ·simp[fillA,cellsOf,spl,List.range_succ]
  ·have:=k (S.new (.cells e [[u,v,w,x,y]] true)) ((Keep.refl S).new _) rfl (new_self _)
   simpa[chunks,List.range_succ]using this
theorem bsl1_live{e:Nat}{z u:AV}{S:Store}{K:AV→Store→Prop}(hu:u.one=true)(hA:∀ cs,u≠.a cs)(k:∀ S',Keep S S'→S'.n=S.n+1→S'.obj S.n=some (.cells e [[u]] true)→K (.s S.n 0 1) S'):bslN e 1 1 [z] [(0,u)] S K:=by
 refine⟨[u],?_,.inl ?_⟩
 ·have:cellsOf u=some [u]:=by cases u<;>first|rfl|(simp[AV.one]at hu;simp[cellsOf,AV.one,hu];done)|(simp[AV.one]at hu)|(simp[cellsOf,hu])
  simp[fillA,this,spl]
 ·have:=k (S.new (.cells e [[u]] true)) ((Keep.refl S).new _) rfl (new_self _)
  simpa[chunks]using this
def grC(c:Ci)(l:List Int)(k:Nat):List AV:=c.cells ++ [aL aU8 l,aI k]
theorem grC_len(c:Ci)(l:List Int)(k:Nat):(grC c l k).length=10:=rfl
abbrev grO(c:Ci)(l:List Int)(k:Nat):AObj:=.cells 52 [grC c l k] true
theorem ldN_gr{c:Ci}{l:List Int}{k:Nat}{id:Nat}{S:Store}{K:AV→Store→Prop}(h:S.obj id=some (grO c l k)):ldN 8 (.p id 0 0) S K=K c.av S:=by
 simp[ldN,rdN,place,Store.get,h,grC,Ci.cells,Ci.av]
def PP:Nat→Nat
 |0=>0
 |d+1=>9+9*PP d
structure Gw (c:Ci) (l:List Int):Prop where
 made:MadeC c
 cs:Cs c
 lr:∀ x∈l,0≤x∧x<256
 len:l.length≤9223372036854775807
section
variable {c:Ci} {l:List Int} (hg:Gw c l) {id:Nat} {at_:Nat} {S:Store} (h:S.obj id=some (grO c l at_)) (ha:at_≤1099511627776)
include hg h ha
theorem gr_pick{n:Int}(hn:0<n){Q:AEnd→Store→Prop}{K:AV→Store→Prop}(k:∀(r:Int) (S':Store),0≤r→r<n→S'.n=S.n→S'.obj id=some (grO c l (at_+1))→(∀ x,x≠id→S'.obj x=S.obj x)→K (aI r) S'):
    callF Pg 15 [.p id 0 0,aI n] S Q K:=by
 refine .inl (ACalls.mono (Q:=fun e S'=>∃ r:Int,e = .ret (aI r)∧0≤r∧r<n∧S'.n=S.n∧S'.obj id=some (grO c l (at_+1))∧∀ x,x≠id→S'.obj x=S.obj x) (calls15 ?_) fun e S' ⟨r,he,h1,h2,h3,h4,h5⟩=>by subst he;exact k r S' h1 h2 h3 h4 h5)
 unfold m15
 have hlr:=hg.lr
 have hll:=hg.len
 rw[nilChk_p,shift_p,ld1_p h rfl rfl,bin_add (by omega) (by omega),nilChk_p,shift_p]
 refine stF_of h (by rw[grC_len];decide) rfl fun S1 n1 o1 f1=>?_
 have o1:S1.obj id=some (grO c l (at_+1)):=o1
 show ∃ q:AV,_
 (repeat (first|with_reducible_and_instances (first|refine WJ ?_|refine W (J_nil) ?_|refine W (J_ldp o1 (by with_unfolding_all rfl) (by with_unfolding_all rfl)) ?_|refine W (J_ldq (by with_unfolding_all rfl)) ?_)))
 by_cases hlt:(l.length:Int)<((at_+1:Nat):Int)
 ·rw[decide_eq_true hlt]
  (repeat (first|with_reducible_and_instances (first|refine WJ ?_|refine W (J_ldq (by with_unfolding_all rfl)) ?_)))
  exact⟨0,rfl,Int.le_refl _,hn,n1,o1,f1⟩
 ·rw[decide_eq_false hlt]
  have hk:at_<l.length:=by omega
  have hx:=hlr _ (List.getElem_mem hk)
  have rsub:∀{P:AV→Prop},(∃ q,(bin .sub 0 (aI (at_+1:Nat)) (.v (.int .i64 1)) S1 fun v S=>v=q∧S=S1)∧P q)=P (aI at_):=J_of (op:=fun K=>bin .sub 0 (aI (at_+1:Nat)) (.v (.int .i64 1)) S1 K) fun K=>(bin_sub (by omega) (by omega) 0).trans (by rw[show(((at_+1:Nat):Nat):Int) - 1=at_ by omega])
  have rconv:∀{P:AV→Prop},(∃ q,(convI .i64 (aU8 l[at_]) S1 fun v S=>v=q∧S=S1)∧P q)=P (aI l[at_]):=J_of (op:=fun K=>convI .i64 (aU8 l[at_]) S1 K) fun K=>convI_64 _ (by omega) (by omega)
  have rrem:∀{P:AV→Prop},(∃ q,(bin .rem 0 (aI l[at_]) (aI n) S1 fun v S=>v=q∧S=S1)∧P q)=P (aI (l[at_].tmod n)):=J_of (op:=fun K=>bin .rem 0 (aI l[at_]) (aI n) S1 K) fun K=>bin_rem (by omega) .i64 0
  (repeat (first|with_reducible_and_instances (first|refine WJ ?_|refine W (J_nil) ?_|refine W (J_ldp o1 (by with_unfolding_all rfl) (by with_unfolding_all rfl)) ?_|refine W (rsub) ?_|refine W (J_ix hk) ?_|refine W (rconv) ?_|refine W (rrem) ?_|refine W (J_ldq (by with_unfolding_all rfl)) ?_)))
  refine⟨_,rfl,?_,?_,n1,o1,f1⟩
  ·rw[Int.tmod_eq_emod_of_nonneg hx.1];exact Int.emod_nonneg _ (by omega)
  ·rw[Int.tmod_eq_emod_of_nonneg hx.1];exact Int.emod_lt_of_pos _ hn
theorem gr_next{s:Int}(hs:i64R s){Q:AEnd→Store→Prop}{K:AV→Store→Prop}(k:∀(r:Int) (k':Nat) (S':Store),i64R r→at_≤k'→k'≤at_+1→S'.n=S.n→S'.obj id=some (grO c l k')→(∀ x,x≠id→S'.obj x=S.obj x)→K (aI r) S'):
    callF Pg 25 [.p id 0 0,aI s] S Q K:=by
 refine .inl (ACalls.mono (Q:=fun e S'=>∃(r:Int) (k':Nat),e = .ret (aI r)∧i64R r∧at_≤k'∧k'≤at_+1∧S'.n=S.n∧S'.obj id=some (grO c l k')∧∀ x,x≠id→S'.obj x=S.obj x) (calls25 ?_) fun e S' ⟨r,k',he,h1,h2,h3,h4,h5,h6⟩=>by subst he;exact k r k' S' h1 h2 h3 h4 h5 h6)
 unfold m25
 have hin:=hg.made.inp
 have hcs:=hg.cs
 have hnl:=nexts_len (c:=c) (by omega) s
 rw[nilChk_p,shift_p,Nat.zero_add,ldN_gr h]
 refine callF_ans (ans42 hcs (by omega) s) ?_
 rw[lenS_aL,bin_eql,onB_v]
 refine gd_of (fun h0=>⟨s,at_,rfl,hs,Nat.le_refl _,by omega,rfl,h,fun x _=>rfl⟩) (fun h0=>?_)
 have h0:=dF h0
 rw[lenS_aL]
 refine gr_pick hg h ha (by omega) fun r S1 r0 r1 n1 o1 f1=>?_
 obtain⟨j,rfl⟩:=Int.eq_ofNat_of_zero_le r0
 have hj:j<(nextsB c s).length:=by omega
 rw[ixS_aL hj,ld1_q]
 have hx:=nexts_rng hcs (by omega) (List.getElem_mem hj)
 exact⟨_,_,rfl,⟨by omega,by omega⟩,by omega,Nat.le_refl _,n1,o1,f1⟩
end
theorem tno2{k j:Int}(h:¬ k=j){S:Store}{A:AV→Store→Prop}{B:Store→Prop}(hB:B S):bin .eql 0 (.v (.int .i64 k)) (.v (.int .i64 j)) S (fun v S=>onB v fun b=>gd b (A v S) (B S)):=by
 rw[bin_eql,onB_v,decide_eq_false h];exact hB
theorem tyes2{k j:Int}(h:k=j){S:Store}{A:AV→Store→Prop}{B:Store→Prop}(hA:A (aB true) S):bin .eql 0 (.v (.int .i64 k)) (.v (.int .i64 j)) S (fun v S=>onB v fun b=>gd b (A v S) (B S)):=by
 rw[bin_eql,onB_v,decide_eq_true h];exact hA
abbrev zeroT:List AV:=[aI 0,aI 0,aI 0,.nl,.nl]
structure Gst (c:Ci) (l:List Int) (id:Nat) (S:Store) (fr:List AV) (T:Store) (tr:List AV) (k:Nat):Prop where
 n:S.n+4≤T.n
 fo:T.obj S.n=some (.cells 32 [fr] true)
 zo:T.obj (S.n+1)=some (.cells 37 [zeroT] true)
 to:T.obj (S.n+2)=some (.cells 37 [tr] true)
 yo:T.obj (S.n+3)=some (.cells 32 [[aI 2,.v (.string ByteArray.empty),aI 0,.nl]] true)
 go:T.obj id=some (grO c l k)
 old:∀ x,x<S.n→x≠id→T.obj x=S.obj x
 nw:Nw S T
section
variable {c:Ci} {l:List Int} {id:Nat} {S:Store} (hid:id<S.n)
include hid
theorem Gst.mv{fr tr:List AV}{T T':Store}{k k':Nat}(h:Gst c l id S fr T tr k)(hw:Nw T T')(hf:∀ x,x<T.n→x≠id→T'.obj x=T.obj x)(hg:T'.obj id=some (grO c l k')):Gst c l id S fr T' tr k':=by
 have:=h.n
 have hn:=hw.1
 exact⟨by omega,(hf _ (by omega) (by omega)).trans h.fo,(hf _ (by omega) (by omega)).trans h.zo,(hf _ (by omega) (by omega)).trans h.to,(hf _ (by omega) (by omega)).trans h.yo,hg,fun x hx hne=>(hf x (by omega) hne).trans (h.old x hx hne),h.nw.trans hw⟩
theorem Gst.pk{fr tr:List AV}{T T':Store}{k k':Nat}(h:Gst c l id S fr T tr k)(hn:T'.n=T.n)(hf:∀ x,x≠id→T'.obj x=T.obj x)(hg:T'.obj id=some (grO c l k')):Gst c l id S fr T' tr k':=
 h.mv hid (Nw.st hn hg rfl hf) (fun x _ hne=>hf x hne) hg
theorem Gst.keep{fr tr:List AV}{T T':Store}{k:Nat}(h:Gst c l id S fr T tr k)(hk:Keep T T')(hw:Nw T T'):Gst c l id S fr T' tr k:=
 h.mv hid hw (fun x hx _=>hk.2 x hx) ((hk.2 _ (by have:=h.n;omega)).trans h.go)
theorem Gst.st{fr tr tr':List AV}{T T':Store}{k:Nat}(h:Gst c l id S fr T tr k)(hn:T'.n=T.n)(ho:T'.obj (S.n+2)=some (.cells 37 [tr'] true))(hf:∀ x,x≠S.n+2→T'.obj x=T.obj x):Gst c l id S fr T' tr' k:=by
 have:=h.n
 exact⟨by omega,(hf _ (by omega)).trans h.fo,(hf _ (by omega)).trans h.zo,ho,(hf _ (by omega)).trans h.yo,(hf _ (by omega)).trans h.go,fun x hx hne=>(hf x (by omega)).trans (h.old x hx hne),h.nw.trans (Nw.st hn ho rfl hf)⟩
theorem Gst.stB{fr tr:List AV}{T T':Store}{k y:Nat}(h:Gst c l id S fr T tr k)(hy:S.n+4≤y)(hn:T'.n=T.n){o:AObj}(ho:T'.obj y=some o)(hc:o.frzs=true)(hf:∀ x,x≠y→T'.obj x=T.obj x):Gst c l id S fr T' tr k:=by
 have:=h.n
 exact⟨by omega,(hf _ (by omega)).trans h.fo,(hf _ (by omega)).trans h.zo,(hf _ (by omega)).trans h.to,(hf _ (by omega)).trans h.yo,(hf _ (by omega)).trans h.go,fun x hx hne=>(hf x (by omega)).trans (h.old x hx hne),h.nw.trans (Nw.st hn ho hc hf)⟩
theorem Gst.lo{fr tr:List AV}{T T':Store}{k:Nat}(h:Gst c l id S fr T tr k)(hw:Nw T T')(hf:∀ x,x<S.n+4→T'.obj x=T.obj x):Gst c l id S fr T' tr k:=by
 have:=h.n
 have hn:=hw.1
 exact⟨by omega,(hf _ (by omega)).trans h.fo,(hf _ (by omega)).trans h.zo,(hf _ (by omega)).trans h.to,(hf _ (by omega)).trans h.yo,(hf _ (by omega)).trans h.go,fun x hx hne=>(hf x (by omega)).trans (h.old x hx hne),h.nw.trans hw⟩
theorem Gst.set{fr tr:List AV}{T:Store}{k j:Nat}{u:AV}(h:Gst c l id S fr T tr k)(hj:j<tr.length)(hu:u.one=true){K:AV→Store→Prop}(kk:∀ T':Store,T'.n=T.n→Gst c l id S fr T' (tr.set j u) k→(∀ x,x≠S.n+2→T'.obj x=T.obj x)→K .j T'):stN 1 (.p (S.n+2) 0 j) u T K:=
 stF_of h.to hj hu fun T' n' o' f'=>kk T' n' (h.st hid n' o' f') f'
def GrQ(c:Ci)(l:List Int)(id:Nat)(S:Store)(k d:Nat)(e:AEnd)(S':Store):Prop:=
 ∃(r:List AV) (k':Nat),e = .ret (.a r)∧Lv S' S.n S'.n r∧k≤k'∧k'≤k+PP d∧Nw S S'∧S'.obj id=some (grO c l k')∧∀ x,x<S.n→x≠id→S'.obj x=S.obj x
theorem gr_fin{fr:List AV}{T:Store}{k k0 d lo hi:Nat}{kd s b xs xk:AV}(h:Gst c l id S fr T [kd,s,b,xs,xk] k)(h1:k0≤k)(h2:k≤k0+PP d)(hv:Lv T lo hi [kd,s,b,xs,xk])(hlo:S.n+4≤lo)(hhi:hi≤T.n):
    ldN 5 (.p (S.n+2) 0 0) T fun v T=>stN 5 (.p (S.n+1) 0 0) v T fun _ T=>ldN 5 (.p (S.n+1) 0 0) T fun v _=>GrQ c l id S k0 d (.ret v) T:=by
 have hn:=h.n
 rw[ldN_p (n:=5) h.to rfl]
 refine stA_of h.zo rfl rfl fun T1 n1 o1 f1=>?_
 rw[ldN_p (n:=5) o1 rfl]
 exact⟨_,k,rfl,(hv.frame fun i a b=>f1 i (by omega)).mono (by omega) (by omega),h1,h2,h.nw.trans (Nw.st n1 o1 rfl f1),(f1 _ (by omega)).trans h.go,fun x hx hne=>(f1 x (by omega)).trans (h.old x hx hne)⟩
end
def GrK(c:Ci)(l:List Int)(d:Nat):Prop:=∀{f:Fo},Pu f→∀{s:Int},i64R s→∀{S:Store} {id k:Nat},S.obj id=some (grO c l k)→id<S.n→k+PP d≤1099511627776→ACalls Pg 13 [.p id 0 0,f.av,aI s,aI d] S (GrQ c l id S k d)
theorem callF_gr{P:Program}{f:FuncId}{args:List AV}{c:Ci}{l:List Int}{id:Nat}{S:Store}{k d:Nat}(h:ACalls P f args S (GrQ c l id S k d)){Q:AEnd→Store→Prop}{K:AV→Store→Prop}
    (kk:∀(r:List AV) (k':Nat) (S':Store),Lv S' S.n S'.n r→k≤k'→k'≤k+PP d→Nw S S'→S'.obj id=some (grO c l k')→(∀ x,x<S.n→x≠id→S'.obj x=S.obj x)→K (.a r) S'):callF P f args S Q K:=
 .inl (h.mono fun e S' ⟨r,k',he,h1,h2,h3,h4,h5,h6⟩=>by subst he;exact kk r k' S' h1 h2 h3 h4 h5 h6)
theorem callF_gw{c:Ci}{l:List Int}{d:Nat}(IH:GrK c l d){f:Fo}(hf:Pu f){fa:AV}(hfa:∀(S:Store) (n:Nat),Cv S n fa f.av){s:Int}(hs:i64R s){S:Store}{id k:Nat}(h:S.obj id=some (grO c l k))(hid:id<S.n)(hk:k+PP d≤1099511627776)
    {Q:AEnd→Store→Prop} {K:AV→Store→Prop} (kk:∀(r:List AV) (k':Nat) (S':Store),Lv S' S.n S'.n r→k≤k'→k'≤k+PP d→Nw S S'→S'.obj id=some (grO c l k')→(∀ x,x<S.n→x≠id→S'.obj x=S.obj x)→K (.a r) S'):
    callF Pg 13 [.p id 0 0,fa,aI s,aI d] S Q K:=
 callF_gr (ACalls.conv (args:=[.p id 0 0,fa,aI s,aI d]) (args2:=[.p id 0 0,f.av,aI s,aI d]) rfl (fun j u u2 e1 e2=>by
  match j with
  |0=>cases e1;cases e2;exact .p _ _ _ hid
  |1=>cases e1;cases e2;exact hfa _ _
  |2=>cases e1;cases e2;exact .v _
  |3=>cases e1;cases e2;exact .v _
  |j+4=>simp at e1) (IH hf hs h hid hk)) kk
set_option linter.unusedSectionVars false
theorem lfLv{S:Store}(lo:Nat){kd s:Int}(hk:0≤kd∧kd≤100)(hs:i64R s):Lv S lo lo [aI kd,aI s,aI 0,.nl,.nl]:=.leaf _ _ _ _ _ _ ⟨by omega,by omega⟩ hs ⟨by decide,by decide⟩ (Nat.le_refl _) (.inl rfl)
section
variable {c:Ci} {l:List Int} (hg:Gw c l) {s:Int} (hs:i64R s) {S:Store} {id k:Nat} (h:S.obj id=some (grO c l k)) (hid:id<S.n)
include hg hs h hid
theorem grow_0(f:Fo):ACalls Pg 13 [.p id 0 0,f.av,aI s,aI (0:Nat)] S (GrQ c l id S k 0):=by
 obtain⟨kd,nm,lf,fs⟩:=f
 refine calls13 ?_
 unfold m13
 rw[Fo.av,Fo.row_mk]
 refine boxA_of rfl fun S1 k1 n1 o1=>?_
 refine boxA_of rfl fun S2 k2 n2 o2=>?_
 rw[bld_of (cs:=[aI 1,aI s,aI 0,.nl,.nl]) rfl]
 refine boxA_of rfl fun S3 k3 n3 o3=>?_
 refine stA_of (cs':=[aI 1,aI s,aI 0,.nl,.nl]) o3 rfl rfl fun S4 n4 o4 f4=>?_
 rw[bld_of (cs:=[aI 2,.v (.string ByteArray.empty),aI 0,.nl]) rfl]
 refine boxA_of rfl fun S5 k5 n5 o5=>?_
 refine stA_of (cs':=[aI 2,.v (.string ByteArray.empty),aI 0,.nl]) o5 rfl rfl fun S6 n6 o6 f6=>?_
 have nw0:Nw S S6:=((Nw.box k1 n1 o1 rfl).trans (Nw.box k2 n2 o2 rfl)).trans (((Nw.box k3 n3 o3 rfl).trans (Nw.st n4 o4 rfl f4)).trans ((Nw.box k5 n5 o5 rfl).trans (Nw.st n6 o6 rfl f6)))
 have e1:S1.n=S.n+1:=n1
 have e2:S2.n=S.n+2:=by omega
 have e4:S4.n=S.n+3:=by omega
 have k4:=k3.st (Nat.le_refl _) n4 f4
 have k6:=k5.st (Nat.le_refl _) n6 f6
 have kS:Keep S S6:=((k1.trans k2).trans k4).trans k6
 rw[e1]at o2
 rw[e2]at o4
 rw[e4]at o6
 have g0:Gst c l id S [aI kd,.v (.string nm),aI lf,foL fs] S6 [aI 1,aI s,aI 0,.nl,.nl] k:=⟨by omega,(k6.2 _ (by omega)).trans ((k4.2 _ (by omega)).trans ((k2.2 _ (by omega)).trans o1)),(k6.2 _ (by omega)).trans ((k4.2 _ (by omega)).trans o2),(k6.2 _ (by omega)).trans o4,o6,(kS.2 _ hid).trans h,fun x hx _=>kS.2 x hx,nw0⟩
 rw[e1,e2,e4]
 rw[bin_lss,onB_v,decide_eq_true (by decide),gd_true]
 exact gr_fin hid g0 (Nat.le_refl _) (by omega) (lfLv (S.n+4) (by decide) hs) (Nat.le_refl _) (by omega)
variable {d:Nat} (hk:k+PP (d+1)≤1099511627776) (hd:d≤8) (IH:GrK c l d)
include hk hd IH
theorem grow_leaf{kd:Int}(hkd:kd=1∨kd=2∨kd=3∨kd=4)(lf:Int)(fs:List Fo):ACalls Pg 13 [.p id 0 0,(Fo.mk kd ⟨#[]⟩ lf fs).av,aI s,aI (d+1:Nat)] S (GrQ c l id S k (d+1)):=by
 refine calls13 ?_
 unfold m13
 rw[Fo.av,Fo.row_mk]
 refine boxA_of rfl fun S1 k1 n1 o1=>?_
 refine boxA_of rfl fun S2 k2 n2 o2=>?_
 rw[bld_of (cs:=[aI 1,aI s,aI 0,.nl,.nl]) rfl]
 refine boxA_of rfl fun S3 k3 n3 o3=>?_
 refine stA_of (cs':=[aI 1,aI s,aI 0,.nl,.nl]) o3 rfl rfl fun S4 n4 o4 f4=>?_
 rw[bld_of (cs:=[aI 2,.v (.string ByteArray.empty),aI 0,.nl]) rfl]
 refine boxA_of rfl fun S5 k5 n5 o5=>?_
 refine stA_of (cs':=[aI 2,.v (.string ByteArray.empty),aI 0,.nl]) o5 rfl rfl fun S6 n6 o6 f6=>?_
 have nw0:Nw S S6:=((Nw.box k1 n1 o1 rfl).trans (Nw.box k2 n2 o2 rfl)).trans (((Nw.box k3 n3 o3 rfl).trans (Nw.st n4 o4 rfl f4)).trans ((Nw.box k5 n5 o5 rfl).trans (Nw.st n6 o6 rfl f6)))
 have e1:S1.n=S.n+1:=n1
 have e2:S2.n=S.n+2:=by omega
 have e4:S4.n=S.n+3:=by omega
 have k4:=k3.st (Nat.le_refl _) n4 f4
 have k6:=k5.st (Nat.le_refl _) n6 f6
 have kS:Keep S S6:=((k1.trans k2).trans k4).trans k6
 rw[e1]at o2
 rw[e2]at o4
 rw[e4]at o6
 have g0:Gst c l id S [aI kd,.v (.string ⟨#[]⟩),aI lf,foL fs] S6 [aI 1,aI s,aI 0,.nl,.nl] k:=⟨by omega,(k6.2 _ (by omega)).trans ((k4.2 _ (by omega)).trans ((k2.2 _ (by omega)).trans o1)),(k6.2 _ (by omega)).trans ((k4.2 _ (by omega)).trans o2),(k6.2 _ (by omega)).trans o4,o6,(kS.2 _ hid).trans h,fun x hx _=>kS.2 x hx,nw0⟩
 rw[e1,e2,e4]
 rw[bin_lss,onB_v,decide_eq_false (by omega),gd_false,shift_p,ld1_p g0.fo rfl rfl]
 have lsb:∀(T:Store) (K:AV→Store→Prop),bin .sub 0 (aI (d+1:Nat)) (.v (.int .i64 1)) T K=K (aI d) T:=fun T K=>(bin_sub (by omega) (by omega) 0).trans (by rw[show(((d+1:Nat):Nat):Int) - 1=d by omega])
 have lsl:∀{T0:Store} {P:AV→Prop},(∃ q,(∀ T,Keep T0 T→bin .sub 0 (aI (d+1:Nat)) (.v (.int .i64 1)) T fun v S=>v=q∧S=T)∧P q)=P (aI d):=fun{T0 P}=>LJ_of (op:=fun T K=>bin .sub 0 (aI (d+1:Nat)) (.v (.int .i64 1)) T K) fun T hT K=>lsb T K
 have hP:PP (d+1)=9+9*PP d:=rfl
 repeat (refine tno2 (by omega) ?_)
 exact gr_fin hid g0 (Nat.le_refl _) (by omega) (lfLv (S.n+4) (by decide) hs) (Nat.le_refl _) (by omega)
theorem taken_fin{fr:List AV}{T:Store}(g:Gst c l id S fr T [aI 1,aI s,aI 0,.nl,.nl] k):shift (.p (S.n+2) 0 0) 0 T fun v T=>stN 1 v (.v (.int .i64 7)) T fun _ T=>ldN 5 (.p (S.n+2) 0 0) T fun v T=>stN 5 (.p (S.n+1) 0 0) v T fun _ T=>ldN 5 (.p (S.n+1) 0 0) T fun v _=>GrQ c l id S k (d+1) (.ret v) T:=by
 rw[shift_p]
 refine g.set hid (by simp) rfl fun T1 n1 g1 f1=>?_
 have gn:=g1.n
 exact gr_fin hid g1 (Nat.le_refl _) (by omega) (lfLv (S.n+4) (by decide) hs) (Nat.le_refl _) (by omega)
theorem grow_taken{kd:Int}(hkd:kd=10∨kd=12∨kd=14∨kd=16∨kd=18)(lf:Int)(fs:List Fo):ACalls Pg 13 [.p id 0 0,(Fo.mk kd ⟨#[]⟩ lf fs).av,aI s,aI (d+1:Nat)] S (GrQ c l id S k (d+1)):=by
 refine calls13 ?_
 unfold m13
 rw[Fo.av,Fo.row_mk]
 refine boxA_of rfl fun S1 k1 n1 o1=>?_
 refine boxA_of rfl fun S2 k2 n2 o2=>?_
 rw[bld_of (cs:=[aI 1,aI s,aI 0,.nl,.nl]) rfl]
 refine boxA_of rfl fun S3 k3 n3 o3=>?_
 refine stA_of (cs':=[aI 1,aI s,aI 0,.nl,.nl]) o3 rfl rfl fun S4 n4 o4 f4=>?_
 rw[bld_of (cs:=[aI 2,.v (.string ByteArray.empty),aI 0,.nl]) rfl]
 refine boxA_of rfl fun S5 k5 n5 o5=>?_
 refine stA_of (cs':=[aI 2,.v (.string ByteArray.empty),aI 0,.nl]) o5 rfl rfl fun S6 n6 o6 f6=>?_
 have nw0:Nw S S6:=((Nw.box k1 n1 o1 rfl).trans (Nw.box k2 n2 o2 rfl)).trans (((Nw.box k3 n3 o3 rfl).trans (Nw.st n4 o4 rfl f4)).trans ((Nw.box k5 n5 o5 rfl).trans (Nw.st n6 o6 rfl f6)))
 have e1:S1.n=S.n+1:=n1
 have e2:S2.n=S.n+2:=by omega
 have e4:S4.n=S.n+3:=by omega
 have k4:=k3.st (Nat.le_refl _) n4 f4
 have k6:=k5.st (Nat.le_refl _) n6 f6
 have kS:Keep S S6:=((k1.trans k2).trans k4).trans k6
 rw[e1]at o2
 rw[e2]at o4
 rw[e4]at o6
 have g0:Gst c l id S [aI kd,.v (.string ⟨#[]⟩),aI lf,foL fs] S6 [aI 1,aI s,aI 0,.nl,.nl] k:=⟨by omega,(k6.2 _ (by omega)).trans ((k4.2 _ (by omega)).trans ((k2.2 _ (by omega)).trans o1)),(k6.2 _ (by omega)).trans ((k4.2 _ (by omega)).trans o2),(k6.2 _ (by omega)).trans o4,o6,(kS.2 _ hid).trans h,fun x hx _=>kS.2 x hx,nw0⟩
 rw[e1,e2,e4]
 rw[bin_lss,onB_v,decide_eq_false (by omega),gd_false,shift_p,ld1_p g0.fo rfl rfl]
 have lsb:∀(T:Store) (K:AV→Store→Prop),bin .sub 0 (aI (d+1:Nat)) (.v (.int .i64 1)) T K=K (aI d) T:=fun T K=>(bin_sub (by omega) (by omega) 0).trans (by rw[show(((d+1:Nat):Nat):Int) - 1=d by omega])
 have lsl:∀{T0:Store} {P:AV→Prop},(∃ q,(∀ T,Keep T0 T→bin .sub 0 (aI (d+1:Nat)) (.v (.int .i64 1)) T fun v S=>v=q∧S=T)∧P q)=P (aI d):=fun{T0 P}=>LJ_of (op:=fun T K=>bin .sub 0 (aI (d+1:Nat)) (.v (.int .i64 1)) T K) fun T hT K=>lsb T K
 have hP:PP (d+1)=9+9*PP d:=rfl
 rcases hkd with rfl|rfl|rfl|rfl|rfl
 ·repeat (refine tno2 (by decide) ?_)
  refine tyes2 rfl ?_
  rw[onB_v,gd_true]
  exact taken_fin hg hs h hid hk hd IH g0
 ·repeat (refine tno2 (by decide) ?_)
  refine tyes2 rfl ?_
  rw[onB_v,gd_true]
  exact taken_fin hg hs h hid hk hd IH g0
 ·repeat (refine tno2 (by decide) ?_)
  refine tyes2 rfl ?_
  rw[onB_v,gd_true]
  exact taken_fin hg hs h hid hk hd IH g0
 ·repeat (refine tno2 (by decide) ?_)
  refine tyes2 rfl ?_
  rw[onB_v,gd_true]
  exact taken_fin hg hs h hid hk hd IH g0
 ·repeat (refine tno2 (by decide) ?_)
  refine tyes2 rfl ?_
  exact taken_fin hg hs h hid hk hd IH g0
theorem two_fin{fr:List AV}{kd:Int}(hkd:0≤kd∧kd≤100){T1 T2 T3:Store}{k3:Nat}(g3:Gst c l id S fr T3 [aI kd,aI s,aI 0,.nl,.nl] k3)(h1:k≤k3)(h2:k3≤k+PP (d+1))(gn:S.n+4≤T1.n){r0 r1:List AV}(l0:Lv T2 T1.n T2.n r0)(l1:Lv T3 T2.n T3.n r1)(w3:∀ x,x<T2.n→x≠id→T3.obj x=T2.obj x):
    bslN 37 5 2 [.v (.int .i64 0),.v (.int .i64 0),.v (.int .i64 0),.nl,.nl] [(0,.a r0),(1,.a r1)] T3 fun v47 W=>∃ q48:AV,(∀ T:Store,Keep W T→shift (.p (S.n+2) 0 0) 4 T fun v S=>v=q48∧S=T)∧stN 1 q48 v47 W fun _ W=>ldN 5 (.p (S.n+2) 0 0) W fun v W=>stN 5 (.p (S.n+1) 0 0) v W fun _ W=>ldN 5 (.p (S.n+1) 0 0) W fun v _=>GrQ c l id S k (d+1) (.ret v) W:=by
 have b0:=l0.le
 have b1:=l1.le
 refine bslT2_live l0.len l1.len fun T4 k4 n4 o4=>?_
 have g4:=g3.keep hid k4 (Nw.box k4 n4 o4 rfl)
 refine L_shift ?_
 refine g4.set hid (by simp) rfl fun T5 n5 g5 f5=>?_
 have hf:∀ x,T1.n≤x→x<T2.n→T5.obj x=T2.obj x:=fun x hx hx2=>(f5 x (by omega)).trans ((k4.2 x (by omega)).trans (w3 x hx2 (by omega)))
 have m0:Lv T5 T1.n T2.n r0:=l0.frame fun x a b=>hf x a b
 have m1:Lv T5 T2.n T3.n r1:=l1.frame fun x a b=>(f5 x (by omega)).trans (k4.2 x b)
 have hl:LvL T5 T1.n T3.n [r0,r1]:=((LvL.nil T5 T1.n).snoc m0 (Nat.le_refl _)).snoc m1 (Nat.le_refl _)
 have hv:Lv T5 (S.n+4) (T3.n+1) [aI kd,aI s,aI 0,.nl,.s T3.n 0 2]:=Lv.of (rs:=[r0,r1]) ⟨by omega,by omega⟩ hs ⟨by decide,by decide⟩ (mid:=T1.n) (.inl rfl) (by omega) hl (Nat.le_refl _) (Nat.lt_succ_self _) ((f5 _ (by omega)).trans o4) (by simp)
 exact gr_fin hid g5 h1 h2 hv (Nat.le_refl _) (by omega)
theorem grow_and{f g:Fo}(hf:Pu f)(hgf:Pu g):ACalls Pg 13 [.p id 0 0,(Fo.mk 5 ⟨#[]⟩ 0 [f,g]).av,aI s,aI (d+1:Nat)] S (GrQ c l id S k (d+1)):=by
 refine calls13 ?_
 unfold m13
 rw[Fo.av,Fo.row_mk]
 refine boxA_of rfl fun S1 k1 n1 o1=>?_
 refine boxA_of rfl fun S2 k2 n2 o2=>?_
 rw[bld_of (cs:=[aI 1,aI s,aI 0,.nl,.nl]) rfl]
 refine boxA_of rfl fun S3 k3 n3 o3=>?_
 refine stA_of (cs':=[aI 1,aI s,aI 0,.nl,.nl]) o3 rfl rfl fun S4 n4 o4 f4=>?_
 rw[bld_of (cs:=[aI 2,.v (.string ByteArray.empty),aI 0,.nl]) rfl]
 refine boxA_of rfl fun S5 k5 n5 o5=>?_
 refine stA_of (cs':=[aI 2,.v (.string ByteArray.empty),aI 0,.nl]) o5 rfl rfl fun S6 n6 o6 f6=>?_
 have nw0:Nw S S6:=((Nw.box k1 n1 o1 rfl).trans (Nw.box k2 n2 o2 rfl)).trans (((Nw.box k3 n3 o3 rfl).trans (Nw.st n4 o4 rfl f4)).trans ((Nw.box k5 n5 o5 rfl).trans (Nw.st n6 o6 rfl f6)))
 have e1:S1.n=S.n+1:=n1
 have e2:S2.n=S.n+2:=by omega
 have e4:S4.n=S.n+3:=by omega
 have k4:=k3.st (Nat.le_refl _) n4 f4
 have k6:=k5.st (Nat.le_refl _) n6 f6
 have kS:Keep S S6:=((k1.trans k2).trans k4).trans k6
 rw[e1]at o2
 rw[e2]at o4
 rw[e4]at o6
 have g0:Gst c l id S [aI 5,.v (.string ⟨#[]⟩),aI 0,foL [f,g]] S6 [aI 1,aI s,aI 0,.nl,.nl] k:=⟨by omega,(k6.2 _ (by omega)).trans ((k4.2 _ (by omega)).trans ((k2.2 _ (by omega)).trans o1)),(k6.2 _ (by omega)).trans ((k4.2 _ (by omega)).trans o2),(k6.2 _ (by omega)).trans o4,o6,(kS.2 _ hid).trans h,fun x hx _=>kS.2 x hx,nw0⟩
 rw[e1,e2,e4]
 rw[bin_lss,onB_v,decide_eq_false (by omega),gd_false,shift_p,ld1_p g0.fo rfl rfl]
 have lsb:∀(T:Store) (K:AV→Store→Prop),bin .sub 0 (aI (d+1:Nat)) (.v (.int .i64 1)) T K=K (aI d) T:=fun T K=>(bin_sub (by omega) (by omega) 0).trans (by rw[show(((d+1:Nat):Nat):Int) - 1=d by omega])
 have lsl:∀{T0:Store} {P:AV→Prop},(∃ q,(∀ T,Keep T0 T→bin .sub 0 (aI (d+1:Nat)) (.v (.int .i64 1)) T fun v S=>v=q∧S=T)∧P q)=P (aI d):=fun{T0 P}=>LJ_of (op:=fun T K=>bin .sub 0 (aI (d+1:Nat)) (.v (.int .i64 1)) T K) fun T hT K=>lsb T K
 have hP:PP (d+1)=9+9*PP d:=rfl
 refine tyes2 rfl ?_
 rw[shift_p]
 refine g0.set hid (by simp) rfl fun T1 m1 g1 w1=>?_
 have gn:=g1.n
 show ∃ q:AV,_
 (repeat (first|with_reducible_and_instances (first|refine WJ ?_|refine W (LJ_ldp g1.fo (by omega) (by with_unfolding_all rfl) (by with_unfolding_all rfl)) ?_|refine W (LJ_F0) ?_|refine W (LJ_F1) ?_|refine W (LJ_ldNq (Fo.row_len _)) ?_|refine W (lsl) ?_|refine W (J_ldq (by with_unfolding_all rfl)) ?_)))
 refine callF_gw IH hf (fun S n=>Fo.tr f S n) hs g1.go (by omega) (by omega) fun r0 k1 T2 l0 a1 b1 m2 g2 w2=>?_
 have g2':=g1.mv hid m2 w2 g2
 have h2n:=m2.1
 refine⟨fun T hT=>by rw[lsb];exact⟨rfl,rfl⟩,fun T hT=>by rw[ldN_q (Fo.row_len _)];exact⟨rfl,rfl⟩,fun T hT=>by rw[ixF1];exact⟨rfl,rfl⟩,fun T hT=>by rw[ld1_p ((hT.2 _ (by omega)).trans g2'.fo) rfl rfl];exact⟨rfl,rfl⟩,fun T hT=>⟨rfl,rfl⟩,?_⟩
 refine callF_gw IH hgf (fun S n=>Fo.tr g S n) hs g2 (by omega) (by omega) fun r1 k2 T3 l1 a2 b2 m3 g3 w3=>?_
 have g3':=g2'.mv hid m3 w3 g3
 exact two_fin hg hs h hid hk hd IH (kd:=2) (by decide) g3' (by omega) (by omega) gn l0 l1 w3
theorem one_fin{fr:List AV}{kd b:Int}(hkd:0≤kd∧kd≤100)(hb:0≤b∧b≤100){T:Store}{k1:Nat}(g:Gst c l id S fr T [aI kd,aI s,aI b,.nl,.nl] k1)(ha:k≤k1)(hb2:k1≤k+1){f:Fo}(hf:Pu f){fa:AV}(hfa:∀(S:Store) (n:Nat),Cv S n fa f.av):
    callF Pg 13 [.p id 0 0,fa,aI s,aI d] T (GrQ c l id S k (d+1)) fun v T=>bslN 37 5 1 [.v (.int .i64 0),.v (.int .i64 0),.v (.int .i64 0),.nl,.nl] [(0,v)] T fun v T=>shift (.p (S.n+2) 0 0) 4 T fun v2 T=>stN 1 v2 v T fun _ T=>ldN 5 (.p (S.n+2) 0 0) T fun v T=>stN 5 (.p (S.n+1) 0 0) v T fun _ T=>ldN 5 (.p (S.n+1) 0 0) T fun v _=>GrQ c l id S k (d+1) (.ret v) T:=by
 have hP:PP (d+1)=9+9*PP d:=rfl
 have gn:=g.n
 refine callF_gw IH hf hfa hs g.go (by omega) (by omega) fun r0 k2 T2 l0 a1 b1 m2 g2 w2=>?_
 have g2':=g.mv hid m2 w2 g2
 have b0:=l0.le
 refine bslT1_live l0.len fun T3 k3 n3 o3=>?_
 have g3:=g2'.keep hid k3 (Nw.box k3 n3 o3 rfl)
 rw[shift_p]
 refine g3.set hid (by simp) rfl fun T4 m4 g4 w4=>?_
 have m0:Lv T4 T.n T2.n r0:=l0.frame fun x a b=>(w4 x (by omega)).trans (k3.2 x b)
 have hl:LvL T4 T.n T2.n [r0]:=(LvL.nil T4 T.n).snoc m0 (Nat.le_refl _)
 have hv:Lv T4 (S.n+4) (T2.n+1) [aI kd,aI s,aI b,.nl,.s T2.n 0 1]:=Lv.of (rs:=[r0]) ⟨by omega,by omega⟩ hs ⟨by omega,by omega⟩ (mid:=T.n) (.inl rfl) gn hl (Nat.le_refl _) (Nat.lt_succ_self _) ((w4 _ (by omega)).trans o3) (by simp)
 exact gr_fin hid g4 (by omega) (by omega) hv (Nat.le_refl _) (by omega)
theorem grow_or{f g:Fo}(hf:Pu f)(hgf:Pu g):ACalls Pg 13 [.p id 0 0,(Fo.mk 6 ⟨#[]⟩ 0 [f,g]).av,aI s,aI (d+1:Nat)] S (GrQ c l id S k (d+1)):=by
 refine calls13 ?_
 unfold m13
 rw[Fo.av,Fo.row_mk]
 refine boxA_of rfl fun S1 k1 n1 o1=>?_
 refine boxA_of rfl fun S2 k2 n2 o2=>?_
 rw[bld_of (cs:=[aI 1,aI s,aI 0,.nl,.nl]) rfl]
 refine boxA_of rfl fun S3 k3 n3 o3=>?_
 refine stA_of (cs':=[aI 1,aI s,aI 0,.nl,.nl]) o3 rfl rfl fun S4 n4 o4 f4=>?_
 rw[bld_of (cs:=[aI 2,.v (.string ByteArray.empty),aI 0,.nl]) rfl]
 refine boxA_of rfl fun S5 k5 n5 o5=>?_
 refine stA_of (cs':=[aI 2,.v (.string ByteArray.empty),aI 0,.nl]) o5 rfl rfl fun S6 n6 o6 f6=>?_
 have nw0:Nw S S6:=((Nw.box k1 n1 o1 rfl).trans (Nw.box k2 n2 o2 rfl)).trans (((Nw.box k3 n3 o3 rfl).trans (Nw.st n4 o4 rfl f4)).trans ((Nw.box k5 n5 o5 rfl).trans (Nw.st n6 o6 rfl f6)))
 have e1:S1.n=S.n+1:=n1
 have e2:S2.n=S.n+2:=by omega
 have e4:S4.n=S.n+3:=by omega
 have k4:=k3.st (Nat.le_refl _) n4 f4
 have k6:=k5.st (Nat.le_refl _) n6 f6
 have kS:Keep S S6:=((k1.trans k2).trans k4).trans k6
 rw[e1]at o2
 rw[e2]at o4
 rw[e4]at o6
 have g0:Gst c l id S [aI 6,.v (.string ⟨#[]⟩),aI 0,foL [f,g]] S6 [aI 1,aI s,aI 0,.nl,.nl] k:=⟨by omega,(k6.2 _ (by omega)).trans ((k4.2 _ (by omega)).trans ((k2.2 _ (by omega)).trans o1)),(k6.2 _ (by omega)).trans ((k4.2 _ (by omega)).trans o2),(k6.2 _ (by omega)).trans o4,o6,(kS.2 _ hid).trans h,fun x hx _=>kS.2 x hx,nw0⟩
 rw[e1,e2,e4]
 rw[bin_lss,onB_v,decide_eq_false (by omega),gd_false,shift_p,ld1_p g0.fo rfl rfl]
 have lsb:∀(T:Store) (K:AV→Store→Prop),bin .sub 0 (aI (d+1:Nat)) (.v (.int .i64 1)) T K=K (aI d) T:=fun T K=>(bin_sub (by omega) (by omega) 0).trans (by rw[show(((d+1:Nat):Nat):Int) - 1=d by omega])
 have lsl:∀{T0:Store} {P:AV→Prop},(∃ q,(∀ T,Keep T0 T→bin .sub 0 (aI (d+1:Nat)) (.v (.int .i64 1)) T fun v S=>v=q∧S=T)∧P q)=P (aI d):=fun{T0 P}=>LJ_of (op:=fun T K=>bin .sub 0 (aI (d+1:Nat)) (.v (.int .i64 1)) T K) fun T hT K=>lsb T K
 have hP:PP (d+1)=9+9*PP d:=rfl
 refine tno2 (by decide) (tyes2 rfl ?_)
 have gn:=g0.n
 refine gr_pick hg g0.go (by omega) (by decide) fun r T1 r0 r1 m1 q1 w1=>?_
 have g1:=g0.pk hid m1 w1 q1
 rw[shift_p]
 refine g1.set hid (by simp) rfl fun T2 m2 g2 w2=>?_
 rw[shift_p]
 refine g2.set hid (by simp) rfl fun T3 m3 g3 w3=>?_
 obtain⟨j,rfl⟩:=Int.eq_ofNat_of_zero_le r0
 have hj:j < [f,g].length:=by simp;omega
 rw[shift_p,ld1_p g3.fo rfl rfl,shift_p,ld1_p g3.to rfl rfl]
 rw[ixS_foL hj,ldN_q (Fo.row_len _),lsb]
 have hx:Pu [f,g][j]:=by
  match j,hj with
  |0,_=>exact hf
  |1,_=>exact hgf
 exact one_fin hg hs h hid hk hd IH (kd:=3) (b:=j) (by decide) (by omega) g3 (by omega) (by omega) hx (fun S n=>Fo.tr _ S n)
theorem grow_er{f g:Fo}(hf:Pu f)(hgf:Pu g):ACalls Pg 13 [.p id 0 0,(Fo.mk 17 ⟨#[]⟩ 0 [f,g]).av,aI s,aI (d+1:Nat)] S (GrQ c l id S k (d+1)):=by
 refine calls13 ?_
 unfold m13
 rw[Fo.av,Fo.row_mk]
 refine boxA_of rfl fun S1 k1 n1 o1=>?_
 refine boxA_of rfl fun S2 k2 n2 o2=>?_
 rw[bld_of (cs:=[aI 1,aI s,aI 0,.nl,.nl]) rfl]
 refine boxA_of rfl fun S3 k3 n3 o3=>?_
 refine stA_of (cs':=[aI 1,aI s,aI 0,.nl,.nl]) o3 rfl rfl fun S4 n4 o4 f4=>?_
 rw[bld_of (cs:=[aI 2,.v (.string ByteArray.empty),aI 0,.nl]) rfl]
 refine boxA_of rfl fun S5 k5 n5 o5=>?_
 refine stA_of (cs':=[aI 2,.v (.string ByteArray.empty),aI 0,.nl]) o5 rfl rfl fun S6 n6 o6 f6=>?_
 have nw0:Nw S S6:=((Nw.box k1 n1 o1 rfl).trans (Nw.box k2 n2 o2 rfl)).trans (((Nw.box k3 n3 o3 rfl).trans (Nw.st n4 o4 rfl f4)).trans ((Nw.box k5 n5 o5 rfl).trans (Nw.st n6 o6 rfl f6)))
 have e1:S1.n=S.n+1:=n1
 have e2:S2.n=S.n+2:=by omega
 have e4:S4.n=S.n+3:=by omega
 have k4:=k3.st (Nat.le_refl _) n4 f4
 have k6:=k5.st (Nat.le_refl _) n6 f6
 have kS:Keep S S6:=((k1.trans k2).trans k4).trans k6
 rw[e1]at o2
 rw[e2]at o4
 rw[e4]at o6
 have g0:Gst c l id S [aI 17,.v (.string ⟨#[]⟩),aI 0,foL [f,g]] S6 [aI 1,aI s,aI 0,.nl,.nl] k:=⟨by omega,(k6.2 _ (by omega)).trans ((k4.2 _ (by omega)).trans ((k2.2 _ (by omega)).trans o1)),(k6.2 _ (by omega)).trans ((k4.2 _ (by omega)).trans o2),(k6.2 _ (by omega)).trans o4,o6,(kS.2 _ hid).trans h,fun x hx _=>kS.2 x hx,nw0⟩
 rw[e1,e2,e4]
 rw[bin_lss,onB_v,decide_eq_false (by omega),gd_false,shift_p,ld1_p g0.fo rfl rfl]
 have lsb:∀(T:Store) (K:AV→Store→Prop),bin .sub 0 (aI (d+1:Nat)) (.v (.int .i64 1)) T K=K (aI d) T:=fun T K=>(bin_sub (by omega) (by omega) 0).trans (by rw[show(((d+1:Nat):Nat):Int) - 1=d by omega])
 have lsl:∀{T0:Store} {P:AV→Prop},(∃ q,(∀ T,Keep T0 T→bin .sub 0 (aI (d+1:Nat)) (.v (.int .i64 1)) T fun v S=>v=q∧S=T)∧P q)=P (aI d):=fun{T0 P}=>LJ_of (op:=fun T K=>bin .sub 0 (aI (d+1:Nat)) (.v (.int .i64 1)) T K) fun T hT K=>lsb T K
 have hP:PP (d+1)=9+9*PP d:=rfl
 refine tno2 (by decide) (tno2 (by decide) (tyes2 rfl ?_))
 have gn:=g0.n
 refine gr_pick hg g0.go (by omega) (by decide) fun r T1 r0 r1 m1 q1 w1=>?_
 have g1:=g0.pk hid m1 w1 q1
 rw[shift_p]
 refine g1.set hid (by simp) rfl fun T2 m2 g2 w2=>?_
 rw[shift_p]
 refine g2.set hid (by simp) rfl fun T3 m3 g3 w3=>?_
 rw[shift_p,ld1_p g3.fo rfl rfl,ixF1,ldN_q (Fo.row_len _)]
 refine callF_ans (ans23 g) ?_
 refine boxA_of rfl fun T4 k4 m4 q4=>?_
 refine stA_of (cs':=(foOne 13 g).row) q4 (Fo.row_len _) rfl fun T5 m5 q5 w5=>?_
 have k5:=k4.st (Nat.le_refl _) m5 w5
 have g5:=g3.keep hid k5 ((Nw.box k4 m4 q4 rfl).trans (Nw.st m5 q5 rfl w5))
 have gn5:=g5.n
 rw[shift_p,ld1_p g5.to rfl rfl,bin_eql,onB_v]
 refine gd_of (fun e=>?_) (fun e=>?_)
 ·show ∃ q:AV,_
  have cu:=ans24 g (foTwo 5 f g)
  rw[show(foTwo 5 f g).av = .a [aI 5,.v (.string ⟨#[]⟩),aI 0,foL [f,g]]by rw[Fo.av,Fo.row_mk]]at cu
  (repeat (first|with_reducible_and_instances (first|refine WJ ?_|refine W (LJ_ldp g5.fo (by omega) (by with_unfolding_all rfl) (by with_unfolding_all rfl)) ?_|refine W (LJ_F1) ?_|refine W (LJ_ldNq (Fo.row_len _)) ?_|refine W (LJ_bld (cs:=[aI 5,.v (.string ⟨#[]⟩),aI 0,foL [f,g]]) (by with_unfolding_all rfl)) ?_|refine W (J_ldq (by with_unfolding_all rfl)) ?_)|refine J_cA (cu) rfl rfl ?_|refine C_A (cu) rfl rfl ?_|refine L_cA (cu) rfl rfl ?_))
  refine stA_of (cs':=(foTwo 15 g (foTwo 5 f g)).row) q5 (Fo.row_len _) (Fo.row_len _) fun T6 m6 q6 w6=>?_
  have g6:=g5.stB hid (y:=T3.n) (by omega) m6 q6 rfl w6
  rw[ldN_p (n:=4) q6 (Fo.row_len _),lsb]
  exact one_fin hg hs h hid hk hd IH (kd:=3) (b:=r) (by decide) (by omega) g6 (by omega) (by omega) (.t _ _ _ (by decide) hgf (.t _ _ _ (by decide) hf hgf)) (fun S n=>Fo.tr _ S n)
 ·rw[ldN_p (n:=4) q5 (Fo.row_len _),lsb]
  exact one_fin hg hs h hid hk hd IH (kd:=3) (b:=r) (by decide) (by omega) g5 (by omega) (by omega) (.o _ _ (by decide) hgf) (fun S n=>Fo.tr _ S n)
theorem grow_ex{f:Fo}(hf:Pu f):ACalls Pg 13 [.p id 0 0,(Fo.mk 9 ⟨#[]⟩ 0 [f]).av,aI s,aI (d+1:Nat)] S (GrQ c l id S k (d+1)):=by
 refine calls13 ?_
 unfold m13
 rw[Fo.av,Fo.row_mk]
 refine boxA_of rfl fun S1 k1 n1 o1=>?_
 refine boxA_of rfl fun S2 k2 n2 o2=>?_
 rw[bld_of (cs:=[aI 1,aI s,aI 0,.nl,.nl]) rfl]
 refine boxA_of rfl fun S3 k3 n3 o3=>?_
 refine stA_of (cs':=[aI 1,aI s,aI 0,.nl,.nl]) o3 rfl rfl fun S4 n4 o4 f4=>?_
 rw[bld_of (cs:=[aI 2,.v (.string ByteArray.empty),aI 0,.nl]) rfl]
 refine boxA_of rfl fun S5 k5 n5 o5=>?_
 refine stA_of (cs':=[aI 2,.v (.string ByteArray.empty),aI 0,.nl]) o5 rfl rfl fun S6 n6 o6 f6=>?_
 have nw0:Nw S S6:=((Nw.box k1 n1 o1 rfl).trans (Nw.box k2 n2 o2 rfl)).trans (((Nw.box k3 n3 o3 rfl).trans (Nw.st n4 o4 rfl f4)).trans ((Nw.box k5 n5 o5 rfl).trans (Nw.st n6 o6 rfl f6)))
 have e1:S1.n=S.n+1:=n1
 have e2:S2.n=S.n+2:=by omega
 have e4:S4.n=S.n+3:=by omega
 have k4:=k3.st (Nat.le_refl _) n4 f4
 have k6:=k5.st (Nat.le_refl _) n6 f6
 have kS:Keep S S6:=((k1.trans k2).trans k4).trans k6
 rw[e1]at o2
 rw[e2]at o4
 rw[e4]at o6
 have g0:Gst c l id S [aI 9,.v (.string ⟨#[]⟩),aI 0,foL [f]] S6 [aI 1,aI s,aI 0,.nl,.nl] k:=⟨by omega,(k6.2 _ (by omega)).trans ((k4.2 _ (by omega)).trans ((k2.2 _ (by omega)).trans o1)),(k6.2 _ (by omega)).trans ((k4.2 _ (by omega)).trans o2),(k6.2 _ (by omega)).trans o4,o6,(kS.2 _ hid).trans h,fun x hx _=>kS.2 x hx,nw0⟩
 rw[e1,e2,e4]
 rw[bin_lss,onB_v,decide_eq_false (by omega),gd_false,shift_p,ld1_p g0.fo rfl rfl]
 have lsb:∀(T:Store) (K:AV→Store→Prop),bin .sub 0 (aI (d+1:Nat)) (.v (.int .i64 1)) T K=K (aI d) T:=fun T K=>(bin_sub (by omega) (by omega) 0).trans (by rw[show(((d+1:Nat):Nat):Int) - 1=d by omega])
 have lsl:∀{T0:Store} {P:AV→Prop},(∃ q,(∀ T,Keep T0 T→bin .sub 0 (aI (d+1:Nat)) (.v (.int .i64 1)) T fun v S=>v=q∧S=T)∧P q)=P (aI d):=fun{T0 P}=>LJ_of (op:=fun T K=>bin .sub 0 (aI (d+1:Nat)) (.v (.int .i64 1)) T K) fun T hT K=>lsb T K
 have hP:PP (d+1)=9+9*PP d:=rfl
 refine tno2 (by decide) (tno2 (by decide) (tno2 (by decide) (tyes2 rfl ?_)))
 have gn:=g0.n
 rw[shift_p]
 refine g0.set hid (by simp) rfl fun T1 m1 g1 w1=>?_
 refine gr_next hg g1.go (by omega) hs fun s' k1 T2 hs' a1 b1 m2 q2 w2=>?_
 have g2:=g1.pk hid m2 w2 q2
 have gn2:=g2.n
 show ∃ q:AV,_
 (repeat (first|with_reducible_and_instances (first|refine WJ ?_|refine W (LJ_ldp g2.fo (by omega) (by with_unfolding_all rfl) (by with_unfolding_all rfl)) ?_|refine W (LJ_F0) ?_|refine W (LJ_ldNq (Fo.row_len _)) ?_|refine W (lsl) ?_|refine W (LJ_ldN (n:=4) g2.yo (by omega) (by with_unfolding_all rfl)) ?_|refine W (J_ldq (by with_unfolding_all rfl)) ?_)))
 refine callF_gw IH hf (fun S n=>Fo.tr f S n) hs' g2.go (by omega) (by omega) fun r0 k3 T3 l0 a3 b3 m3 q3 w3=>?_
 have g3:=g2.mv hid m3 w3 q3
 have gn3:=g3.n
 refine⟨fun T hT=>by rw[lsb];exact⟨rfl,rfl⟩,fun T hT=>by rw[ldN_p (n:=4) ((hT.2 _ (by omega)).trans g3.yo) rfl];exact⟨rfl,rfl⟩,?_⟩
 refine⟨_,fun T hT=>callF_cv' (args:=[.a [aI 2,.v (.string ByteArray.empty),aI 0,.nl]]) (ans23 fo2) rfl (fun j u u2 e1 e2=>by
  match j with
  |0=>cases e1;cases e2;exact fo2_nl
  |j+1=>simp at e1) ⟨rfl,rfl⟩,?_⟩
 refine callF_gw IH (f:=foG) (.o _ _ (by decide) (.c _ (by decide))) (fun S n=>Fo.tr _ S n) hs' q3 (by omega) (by omega) fun r1 k4 T4 l1 a4 b4 m4 q4 w4=>?_
 have g4:=g3.mv hid m4 w4 q4
 exact two_fin hg hs h hid hk hd IH (kd:=4) (by decide) g4 (by omega) (by omega) gn2 l0 l1 w4
end
set_option linter.unusedSectionVars false
theorem LJ_ixO{e ix n i t:Nat}{es:List (List AV)}{lv:Bool}{S0:Store}(h:S0.obj ix=some (.cells e es lv))(hid:ix<S0.n)(hi:i<n){P:AV→Prop}:(∃ q,(∀ T,Keep S0 T→ixS e t (.s ix 0 n) (aI i) T fun v S=>v=q∧S=T)∧P q)=P (.p ix (0+i) 0):=
 LJ_of (op:=fun T K=>ixS e t (.s ix 0 n) (aI i) T K) fun T hT K=>ixS_s hi ((hT.2 _ hid).trans h)
theorem LJ_lenO{ix n:Nat}{S0:Store}{P:AV→Prop}:(∃ q,(∀ T,Keep S0 T→lenS (.s ix 0 n) T fun v S=>v=q∧S=T)∧P q)=P (aI n):=LJ_of (op:=fun T K=>lenS (.s ix 0 n) T K) fun T hT K=>lenS_s _ _ _
theorem LJ_subN{n m:Nat}(h:n=m+1)(hn:n≤1000000){S0:Store}{P:AV→Prop}:(∃ q,(∀ T,Keep S0 T→bin .sub 0 (aI n) (.v (.int .i64 1)) T fun v S=>v=q∧S=T)∧P q)=P (aI m):=LJ_of (op:=fun T K=>bin .sub 0 (aI n) (.v (.int .i64 1)) T K) fun T hT K=>(bin_sub (by omega) (by omega) 0).trans (by rw[show((n:Nat):Int) - 1=m by omega])
theorem sub_N{n m:Nat}(h:n=m+1)(hn:n≤1000000){T:Store}{K:AV→Store→Prop}:bin .sub 0 (aI n) (.v (.int .i64 1)) T K=K (aI m) T:=(bin_sub (by omega) (by omega) 0).trans (by rw[show((n:Nat):Int) - 1=m by omega])
theorem map_at{l:List Int}{i:Nat}(hi:i<l.length):(l.map fun a=>[aI a])[0+i]? = some [aI l[i]]:=by rw[Nat.zero_add,List.getElem?_map,List.getElem?_eq_getElem hi];rfl
section
variable {c:Ci} {l:List Int} (hg:Gw c l) {s:Int} (hs:i64R s) {S:Store} {id k:Nat} (h:S.obj id=some (grO c l k)) (hid:id<S.n) {d:Nat} (hk:k+PP (d+1)≤1099511627776) (hd:d≤8) (IH:GrK c l d)
include hg hs h hid hk hd IH
theorem path_two{fr:List AV}{T:Store}{k1:Nat}{xs:AV}{ss:List Int}(g:Gst c l id S fr T [aI 5,aI s,aI 0,xs,.nl] k1)(hk1:k≤k1)(hk2:k1≤k+3)(ws:Own (S.n+4) T xs 3 (ss.map fun a=>[aI a])){m:Nat}(hlen:ss.length=m+1)(hl3:m≤2)(hss:∀ x∈ss,i64R x)
    {ia ib:Nat} (hia:S.n+4≤ia) (hia2:ia<T.n) (hib:S.n+4≤ib) (hib2:ib<T.n) {f0 f1:Fo} (h0:Pu f0) (h1:Pu f1) {ra:List AV} (hra:ra.length=4) (cva:∀(S:Store) (n:Nat),Cv S n (.a ra) f0.av) (oa:T.obj ia=some (.cells 32 [ra] true)) (ob:T.obj ib=some (.cells 32 [f1.row] true)):
    loopV lv13_2 (vc Pg (c13.at_ [1,1,1,1,0,1,0,1,1,1,1,1,1,1,1,1,0,1,1,1,1,1,0,1,0,0]) (ms13.drop 2)) 306 (env13_2 (.p id 0 0) (aI (d+1:Nat)) (.p (S.n+1) 0 0) (.p (S.n+2) 0 0) (.p (S.n+3) 0 0) (.p ia 0 0) (.p ib 0 0) (aI m) (.v (.int .i64 0))) T (blockK 3 (seqK (vc Pg (c13.at_ [1,1,1,1,0,1,0,1,1,1,1,1,1,1,1,1,0,1,1,1,1,1,1]) (ms13.drop 2)) (blockK 0 (seqK (vc Pg (c13.at_ [1,1,1,1,1]) (ms13.drop 5)) (bodyK Pg r13 (GrQ c l id S k (d+1))))))):=by
 have hP:PP (d+1)=9+9*PP d:=rfl
 have gTn:=g.n
 have lsb:∀(T:Store) (K:AV→Store→Prop),bin .sub 0 (aI (d+1:Nat)) (.v (.int .i64 1)) T K=K (aI d) T:=fun T K=>sub_N rfl (by omega)
 refine loop13_2 (fun y T'=>∃(i k':Nat) (xk:AV) (ks:List (List AV)) (h':Nat),y=aI i∧i≤m∧T.n≤T'.n∧Gst c l id S fr T' [aI 5,aI s,aI 0,xs,xk] k'∧Own (S.n+4) T' xs 3 (ss.map fun a=>[aI a])∧Own T.n T' xk 37 ks∧ks.length=i∧(LvL T' T.n h' ks∧h'≤T'.n∧∀ b m q,xk = .s q b m→h'≤q)∧k1≤k'∧k'≤k1+i*PP d∧
     T'.obj ia=some (.cells 32 [ra] true)∧T'.obj ib=some (.cells 32 [f1.row] true))
  (fun y _=>m - ((intA y).getD 0).toNat) ⟨0,k1,.nl,[],T.n,rfl,Nat.zero_le _,Nat.le_refl _,g,ws,.nl _ _ _,rfl,⟨LvL.nil _ _,Nat.le_refl _,fun b m q e=>by cases e⟩,Nat.le_refl _,by omega,oa,ob⟩ ?_
 rintro _ T1 ⟨i,k',xk,ks,h',rfl,hi,n1,g1,ws1,wk1,hks,⟨hall,hh1,hh2⟩,b1,b2,oa1,ob1⟩ KE hKE
 unfold b13_2
 have gn1:=g1.n
 have hil:i<ss.length:=by omega
 have hml:m<ss.length:=by omega
 obtain⟨ix,rfl,hx1,hx2,hx3⟩:=ws1.ix (i:=i) (by simp;omega)
 rw[List.length_map]at *
 have hxT:ix<T.n:=by have:=ws.lt rfl;omega
 have hmul:i*PP d≤2*PP d:=Nat.mul_le_mul_right _ (by omega)
 rw[bin_lss,onB_v]
 refine gd_of (fun hlt=>?_) (fun hge=>?_)
 ·have hlt:i<m:=by have:=dT hlt;omega
  have hmul2:(i+1)*PP d=i*PP d+PP d:=Nat.succ_mul _ _
  show ∃ q:AV,_
  (repeat (first|with_reducible_and_instances (first|refine WJ ?_|refine W (LJ_ldp g1.to (by omega) (by with_unfolding_all rfl) (by with_unfolding_all rfl)) ?_|refine W (LJ_ldN (n:=4) oa1 (by omega) hra) ?_|refine W (LJ_ixO hx3 hx2 hil) ?_|refine W (LJ_ldp hx3 hx2 (map_at hil) (by with_unfolding_all rfl)) ?_|refine W (LJ_subN (by with_unfolding_all rfl) (by omega)) ?_|refine W (J_ldq (by with_unfolding_all rfl)) ?_)))
  refine callF_gw IH h0 cva (hss _ (List.getElem_mem hil)) g1.go (by omega) (by omega) fun r k2 T2 lr a2 c2 m2 q2 w2=>?_
  have g2:=g1.mv hid m2 w2 q2
  have gn2:=g2.n
  have h2n:=m2.1
  have lle:=lr.le
  refine⟨fun T hT=>by rw[ld1_p ((hT.2 _ (by omega)).trans g2.to) rfl rfl];exact⟨rfl,rfl⟩,fun T hT=>⟨rfl,rfl⟩,?_⟩
  refine bslT1 lr.len ?_
  refine⟨fun T hT=>by rw[ld1_p ((hT.2 _ (by omega)).trans g2.to) rfl rfl];exact⟨rfl,rfl⟩,fun T hT=>⟨rfl,rfl⟩,?_⟩
  have wk2:Own T.n T2 xk 37 ks:=wk1.same h2n fun x hx hx'=>w2 x hx' (by omega)
  refine Own.appX wk2 (ys:=[r]) (by omega) (by simp) (by simpa using lr.len) (by simp;omega) (fun z T3 w3 b3 hz n3 nw3=>?_) rfl
  have old3:∀ x,x<T2.n→(∀ b m,xk≠.s x b m)→T3.obj x=T2.obj x:=fun x hx hne=>b3.2 x hx hne
  have xkT:∀ q b m,xk = .s q b m→T.n≤q∧q<T1.n:=fun q b m e=>wk1.lt e
  have g3:=g2.lo hid nw3 (fun x hx=>old3 x (by omega) (fun b m e=>by have:=xkT _ _ _ e;omega))
  refine L_shift ?_
  refine g3.set hid (by simp) (by rw[hz];rfl) fun T4 n4 g4 f4=>?_
  have hkeep:∀ x,S.n+4≤x→x<T.n→T4.obj x=T1.obj x:=fun x hx hx2=>(f4 x (by omega)).trans ((old3 x (by omega) (fun b m e=>by have:=xkT _ _ _ e;omega)).trans (w2 x (by omega) (by omega)))
  have ha:LvL T4 T.n h' ks:=hall.frame fun x a b=>(f4 x (by omega)).trans ((old3 x (by omega) (fun b' m' e=>by have:=hh2 _ _ _ e;omega)).trans (w2 x (by omega) (by omega)))
  have hr4:Lv T4 T1.n T2.n r:=lr.frame fun x a b=>(f4 x (by omega)).trans (old3 x b (fun b' m' e=>by have:=xkT _ _ _ e;omega))
  rw[bin_add (by omega) (by omega)]
  refine hKE _ _ ⟨i+1,k2,z,ks ++ [r],T2.n,rfl,hlt,by omega,g4,?_,?_,by simp[hks],⟨ha.snoc hr4 hh1,by omega,fun b m q e=>by rw[hz]at e;injection e;omega⟩,by omega,by omega,(hkeep _ hia hia2).trans oa1,(hkeep _ hib hib2).trans ob1⟩ (by simp[intA];omega)
  ·exact .inr ⟨ix,by rw[List.length_map],hx1,by omega,(hkeep _ hx1 hxT).trans hx3⟩
  ·exact w3.st (id:=S.n+2) (fun b m e=>by rw[hz]at e;injection e;omega) n4 f4
 ·have hge:i=m:=by have:=dF hge;omega
  subst hge
  show ∃ q:AV,_
  (repeat (first|with_reducible_and_instances (first|refine WJ ?_|refine W (LJ_ldp g1.to (by omega) (by with_unfolding_all rfl) (by with_unfolding_all rfl)) ?_|refine W (LJ_ldN (n:=4) ob1 (by omega) (Fo.row_len _)) ?_|refine W (LJ_ldN (n:=4) g1.yo (by omega) (by with_unfolding_all rfl)) ?_|refine W (LJ_ixO hx3 hx2 hil) ?_|refine W (LJ_ldp hx3 hx2 (map_at hil) (by with_unfolding_all rfl)) ?_|refine W (LJ_subN (by with_unfolding_all rfl) (by omega)) ?_|refine W (J_ldq (by with_unfolding_all rfl)) ?_)))
  have hsl:=hss _ (List.getElem_mem hil)
  refine callF_gw IH h1 (fun S n=>Fo.tr f1 S n) hsl g1.go (by omega) (by omega) fun r0 k2 T2 l0 a2 c2 m2 q2 w2=>?_
  have g2:=g1.mv hid m2 w2 q2
  have gn2:=g2.n
  have h2n:=m2.1
  have hx32:=(w2 _ hx2 (by omega)).trans hx3
  have hxT2:ix<T2.n:=by omega
  refine⟨fun T hT=>by rw[lsb];exact⟨rfl,rfl⟩,fun T hT=>by rw[ld1_p ((hT.2 _ hxT2).trans hx32) (map_at hil) rfl];exact⟨rfl,rfl⟩,fun T hT=>by rw[ixS_s hil ((hT.2 _ hxT2).trans hx32)];exact⟨rfl,rfl⟩,fun T hT=>by rw[ld1_p ((hT.2 _ (by omega)).trans g2.to) rfl rfl];exact⟨rfl,rfl⟩,fun T hT=>⟨rfl,rfl⟩,fun T hT=>by rw[ldN_p (n:=4) ((hT.2 _ (by omega)).trans g2.yo) rfl];exact⟨rfl,rfl⟩,fun T hT=>by rw[ld1_p ((hT.2 _ (by omega)).trans g2.to) rfl rfl];exact⟨rfl,rfl⟩,fun T hT=>⟨rfl,rfl⟩,?_⟩
  refine⟨_,fun T hT=>callF_cv' (args:=[.a [aI 2,.v (.string ByteArray.empty),aI 0,.nl]]) (ans23 fo2) rfl (fun j u u2 e1 e2=>by
   match j with
   |0=>cases e1;cases e2;exact fo2_nl
   |j+1=>simp at e1) ⟨rfl,rfl⟩,?_⟩
  refine callF_gw IH (f:=foG) (.o _ _ (by decide) (.c _ (by decide))) (fun S n=>Fo.tr _ S n) hsl q2 (by omega) (by omega) fun r1 k3 T3 l1 a3 c3 m3 q3 w3=>?_
  have g3:=g2.mv hid m3 w3 q3
  have gn3:=g3.n
  have h3n:=m3.1
  have b0:=l0.le
  have b1':=l1.le
  refine⟨fun T hT=>by rw[ld1_p ((hT.2 _ (by omega)).trans g3.to) rfl rfl];exact⟨rfl,rfl⟩,fun T hT=>⟨rfl,rfl⟩,?_⟩
  refine bslT2 l0.len l1.len ?_
  refine⟨fun T hT=>by rw[ld1_p ((hT.2 _ (by omega)).trans g3.to) rfl rfl];exact⟨rfl,rfl⟩,fun T hT=>⟨rfl,rfl⟩,?_⟩
  have wk3:Own T.n T3 xk 37 ks:=wk1.same (by omega) fun x hx hx'=>(w3 x (by omega) (by omega)).trans (w2 x hx' (by omega))
  have hx33:=(w3 _ hxT2 (by omega)).trans hx32
  have xkT:∀ q b m,xk = .s q b m→T.n≤q∧q<T1.n:=fun q b m e=>wk1.lt e
  refine Own.appX wk3 (ys:=[r0,r1]) (by omega) (by simp) (fun c hc=>by
   simp only[List.mem_cons,List.not_mem_nil,or_false]at hc
   rcases hc with rfl|rfl
   ·exact l0.len
   ·exact l1.len) (by simp;omega) (fun z T4 w4 b4 hz n4 nw4=>?_) rfl
  have old4:∀ x,x<T3.n→(∀ b m,xk≠.s x b m)→T4.obj x=T3.obj x:=fun x hx hne=>b4.2 x hx hne
  have g4:=g3.lo hid nw4 (fun x hx=>old4 x (by omega) (fun b m e=>by have:=xkT _ _ _ e;omega))
  refine L_shift ?_
  refine g4.set hid (by simp) (by rw[hz];rfl) fun T5 n5 g5 f5=>?_
  have hx35:T5.obj ix=_:=(f5 _ (by omega)).trans ((old4 _ (by omega) (fun b m e=>by have:=xkT _ _ _ e;omega)).trans hx33)
  have w5:Own T.n T5 z 37 (ks ++ [r0,r1]):=w4.st (id:=S.n+2) (fun b m e=>by have:=w4.lt e;omega) n5 f5
  have ha:LvL T5 T.n h' ks:=hall.frame fun x a b=>(f5 x (by omega)).trans ((old4 x (by omega) (fun b' m' e=>by have:=hh2 _ _ _ e;omega)).trans ((w3 x (by omega) (by omega)).trans (w2 x (by omega) (by omega))))
  have hr0:Lv T5 T1.n T2.n r0:=l0.frame fun x a b=>(f5 x (by omega)).trans ((old4 x (by omega) (fun b' m' e=>by have:=xkT _ _ _ e;omega)).trans (w3 x b (by omega)))
  have hr1:Lv T5 T2.n T3.n r1:=l1.frame fun x a b=>(f5 x (by omega)).trans (old4 x b (fun b' m' e=>by have:=xkT _ _ _ e;omega))
  have hL:LvL T5 T.n T3.n (ks ++ [r0,r1]):=by
   have:=(ha.snoc hr0 hh1).snoc hr1 (Nat.le_refl _)
   rw[List.append_assoc]at this
   exact this
  have hzl:(ks ++ [r0,r1]).length≤1000:=by simp;omega
  have zo:T5.obj T3.n=some (.cells 37 (ks ++ [r0,r1]) true):=by
   obtain⟨q,e1,_,_,e4⟩:=w5.ix (i:=0) (by simp)
   rw[hz]at e1
   injection e1 with e1
   rw[e1];exact e4
  rw[hz]at g5
  have xok:XsOk T5 (S.n+4) T.n (.s ix 0 ss.length):=.inr ⟨ix,ss,rfl,hx1,hxT,hx35,by omega,hss⟩
  have hv:Lv T5 (S.n+4) (T3.n+1) [aI 5,aI s,aI 0,.s ix 0 ss.length,.s T3.n 0 (ks ++ [r0,r1]).length]:=Lv.of ⟨by decide,by decide⟩ hs ⟨by decide,by decide⟩ xok gTn hL (Nat.le_refl _) (Nat.lt_succ_self _) zo hzl
  exact gr_fin hid g5 (by omega) (by omega) hv (Nat.le_refl _) (by omega)
end
set_option linter.unusedSectionVars false
theorem news2X{a b:AObj}{S:Store}{K:List Nat→Store→Prop}(ha:a.frzs=true)(hb:b.frzs=true)(h:∀ i j S',Keep S S'→S.n≤i→i<S'.n→S.n≤j→j<S'.n→i≠j→S'.obj i=some a→S'.obj j=some b→Nw S S'→K [i,j] S'):newsV [a,b] S K:=by
 intro ids S' hn
 have hN:=hn.n
 match ids,hn.len with
 |[i,j],_ =>
  have hd:=hn.nodup
  simp only[List.nodup_cons,List.mem_singleton]at hd
  have i1:=hn.lo i (by simp)
  have i2:=hn.hi i (by simp)
  have j1:=hn.lo j (by simp)
  have j2:=hn.hi j (by simp)
  have oi:=hn.new 0 i a rfl rfl
  have oj:=hn.new 1 j b rfl rfl
  simp only[List.length_cons,List.length_nil]at hN
  refine h i j S' hn.keep i1 i2 j1 j2 hd.1 oi oj ⟨by omega,fun x o hx ho=>?_⟩
  by_cases e1:x=i
  ·rw[e1,oi]at ho;cases ho;exact .inl ha
  ·by_cases e2:x=j
   ·rw[e2,oj]at ho;cases ho;exact .inl hb
   ·have hne:=hd.1
    exact .inr ⟨by omega,(hn.old x (by omega)).symm.trans ho⟩
theorem LJ_lenF{l:List Fo}{S0:Store}{P:AV→Prop}:(∃ q,(∀ T,Keep S0 T→lenS (foL l) T fun v S=>v=q∧S=T)∧P q)=P (aI l.length):=LJ_of (op:=fun T K=>lenS (foL l) T K) fun T hT K=>lenS_foL l
section
variable {c:Ci} {l:List Int} (hg:Gw c l) {s:Int} (hs:i64R s) {S:Store} {id k:Nat} (h:S.obj id=some (grO c l k)) (hid:id<S.n) {d:Nat} (hk:k+PP (d+1)≤1099511627776) (hd:d≤8) (IH:GrK c l d)
include hg hs h hid hk hd IH
theorem path_one{kd:Int}{nm:ByteArray}{lf:Int}{fs:List Fo}{n1:Nat}(hn1:n1≤1)(hfl:fs.length=n1+1){f0 f1:Fo}(hf1:fs[n1]? = some f1)(h1:Pu f1)(h15:kd=15→fs = [f0,f1]∧Pu f0){T:Store}{k1:Nat}{xs:AV}(g:Gst c l id S [aI kd,.v (.string nm),aI lf,foL fs] T [aI 5,aI s,aI 0,xs,.nl] k1)(ws:Own (S.n+4) T xs 3 [[aI s]]){r:Nat}(hr:r≤2)(ha:k≤k1)(hb:k1+r≤k+3):
    loopV lv13_0 (vc Pg (c13.at_ [1,1,1,1,0,1,0,1,1,1,1,1,1,1,1,1,0,1,0,1,0,0]) (ms13.drop 1)) 306 (env13_0 (.p id 0 0) (aI (d+1:Nat)) (.p S.n 0 0) (.p (S.n+1) 0 0) (.p (S.n+2) 0 0) (.p (S.n+3) 0 0) (aI r)) T (blockK 1 (seqK (vc Pg (c13.at_ [1,1,1,1,0,1,0,1,1,1,1,1,1,1,1,1,0,1,1]) (ms13.drop 1)) (blockK 0 (seqK (vc Pg (c13.at_ [1,1,1,1,1]) (ms13.drop 5)) (bodyK Pg r13 (GrQ c l id S k (d+1))))))):=by
 have hP:PP (d+1)=9+9*PP d:=rfl
 refine loop13_0 (fun y T'=>∃(i k' m:Nat) (xs:AV) (ss:List Int),y=aI i∧m+i≤2∧k'+i≤k+3∧k≤k'∧Gst c l id S [aI kd,.v (.string nm),aI lf,foL fs] T' [aI 5,aI s,aI 0,xs,.nl] k'∧Own (S.n+4) T' xs 3 (ss.map fun a=>[aI a])∧ss.length=m+1∧∀ x∈ss,i64R x)
  (fun y _=>((intA y).getD 0).toNat) ⟨r,k1,0,xs,[s],rfl,by omega,hb,ha,g,ws,rfl,fun x hx=>by rw[List.mem_singleton.1 hx];exact hs⟩ ?_
 rintro _ T1 ⟨i,k',m,xs,ss,rfl,hm,hki,hkk,g1,ws1,hlen,hss⟩ KE hKE
 unfold b13_0
 have gn1:=g1.n
 have hml:m<ss.length:=by omega
 obtain⟨ix,rfl,hx1,hx2,hx3⟩:=ws1.ix (i:=m) (by simp;omega)
 rw[List.length_map]at *
 rw[bin_gtr,onB_v]
 refine gd_of (fun hlt=>?_) (fun hge=>?_)
 ·obtain⟨i',rfl⟩:∃ i',i=i'+1:=⟨i - 1,by have:=dT hlt;omega⟩
  show ∃ q:AV,_
  (repeat (first|with_reducible_and_instances (first|refine WJ ?_|refine W (LJ_ldp g1.to (by omega) (by with_unfolding_all rfl) (by with_unfolding_all rfl)) ?_|refine W (LJ_lenO) ?_|refine W (LJ_subN hlen (by omega)) ?_|refine W (LJ_ixO hx3 hx2 hml) ?_|refine W (LJ_ldp hx3 hx2 (map_at hml) (by with_unfolding_all rfl)) ?_|refine W (J_ldq (by with_unfolding_all rfl)) ?_)))
  refine gr_next hg g1.go (by omega) (hss _ (List.getElem_mem hml)) fun v k2 T2 hv a2 b2 m2 q2 w2=>?_
  have g2:=g1.pk hid m2 w2 q2
  have gn2:=g2.n
  refine⟨fun T hT=>by rw[ld1_p ((hT.2 _ (by omega)).trans g2.to) rfl rfl];exact⟨rfl,rfl⟩,fun T hT=>⟨rfl,rfl⟩,?_⟩
  refine bsl1 rfl (fun _ h=>by cases h) ?_
  refine⟨fun T hT=>by rw[ld1_p ((hT.2 _ (by omega)).trans g2.to) rfl rfl];exact⟨rfl,rfl⟩,fun T hT=>⟨rfl,rfl⟩,?_⟩
  have ws2:Own (S.n+4) T2 (.s ix 0 ss.length) 3 (ss.map fun a=>[aI a]):=.inr ⟨ix,by rw[List.length_map],hx1,by omega,(w2 _ (by omega)).trans hx3⟩
  refine Own.appX ws2 (ys:=[[aI v]]) (by omega) (by simp) (by simp) (by simp;omega) (fun z T3 w3 b3 hm3 n3 nw3=>?_) rfl
  have old3:∀ x,x<S.n+4→T3.obj x=T2.obj x:=fun x hx=>b3.2 x (by omega) (fun b m e=>by have:=ws2.lt e;omega)
  have g3:=g2.lo hid nw3 old3
  refine L_shift ?_
  refine g3.set hid (by simp) (by rw[hm3];rfl) fun T4 n4 g4 f4=>?_
  rw[sub_N rfl (by omega)]
  refine hKE _ _ ⟨i',k2,m+1,z,ss ++ [v],rfl,by omega,by omega,by omega,g4,?_,by simp[hlen],fun x hx=>?_⟩ (by simp[intA])
  ·rw[List.map_append]
   exact w3.st (id:=S.n+2) (fun b m e=>by rw[hm3]at e;injection e;omega) n4 f4
  ·rcases List.mem_append.1 hx with hx|hx
   ·exact hss x hx
   ·rw[List.mem_singleton.1 hx];exact hv
 ·have hge:i=0:=by have:=dF hge;omega
  subst hge
  have hfn:n1<fs.length:=by omega
  have hfe:fs[n1]=f1:=by rw[List.getElem?_eq_getElem hfn]at hf1;exact Option.some.inj hf1
  show ∃ q:AV,_
  (repeat (first|with_reducible_and_instances (first|refine WJ ?_|refine W (LJ_ldN (n:=4) g1.yo (by omega) (by with_unfolding_all rfl)) ?_|refine W (LJ_ldp g1.fo (by omega) (by with_unfolding_all rfl) (by with_unfolding_all rfl)) ?_|refine W (LJ_lenF) ?_|refine W (LJ_subN hfl (by omega)) ?_|refine W (LJ_Fi hfn) ?_|refine W (LJ_ldNq (Fo.row_len _)) ?_|refine W (J_ldq (by with_unfolding_all rfl)) ?_)))
  rw[hfe]
  refine news2X rfl rfl fun ia ib T2 k2 hi hi2 hj hj2 hij oi oj nw2=>?_
  dsimp only[List.headD_cons,List.tail_cons]
  refine stA_of (cs':=[aI 2,.v (.string ByteArray.empty),aI 0,.nl]) oi rfl rfl fun T3 n3 o3 f3=>?_
  have k2n:=k2.1
  have g2:=g1.keep hid k2 nw2
  have g3:=g2.stB hid (y:=ia) (by omega) n3 o3 rfl f3
  have gn3:=g3.n
  refine⟨fun T hT=>by rw[ldN_q (Fo.row_len _)];exact⟨rfl,rfl⟩,fun T hT=>by rw[ixS_foL hfn,hfe];exact⟨rfl,rfl⟩,fun T hT=>by rw[sub_N hfl (by omega)];exact⟨rfl,rfl⟩,fun T hT=>by rw[lenS_foL];exact⟨rfl,rfl⟩,fun T hT=>by rw[ld1_p ((hT.2 _ (by omega)).trans g3.fo) rfl rfl];exact⟨rfl,rfl⟩,fun T hT=>⟨rfl,rfl⟩,fun T hT=>by rw[ld1_p ((hT.2 _ (by omega)).trans g3.fo) rfl rfl];exact⟨rfl,rfl⟩,fun T hT=>⟨rfl,rfl⟩,?_⟩
  refine stA_of (cs':=f1.row) ((f3 _ (by omega)).trans oj) (Fo.row_len _) rfl fun T4 n4 o4 f4=>?_
  have g4:=g3.stB hid (y:=ib) (by omega) n4 o4 rfl f4
  have gn4:=g4.n
  have oi4:=(f4 _ hij).trans o3
  have hx4:T4.obj ix=_:=(f4 _ (by omega)).trans ((f3 _ (by omega)).trans ((k2.2 _ hx2).trans hx3))
  rw[shift_p,ld1_p g4.fo rfl rfl,bin_eql,onB_v]
  refine gd_of (fun e=>?_) (fun e=>?_)
  ·obtain⟨rfl,h0⟩:=h15 (dT e)
   rw[shift_p,ld1_p g4.fo rfl rfl,ixF0,ldN_q (Fo.row_len _)]
   refine stA_of (cs':=f0.row) oi4 (Fo.row_len _) rfl fun T5 n5 o5 f5=>?_
   have g5:=g4.stB hid (y:=ia) (by omega) n5 o5 rfl f5
   rw[shift_p,ld1_p g5.to rfl rfl,lenS_s,sub_N hlen (by omega)]
   have ws5:Own (S.n+4) T5 (.s ix 0 ss.length) 3 (ss.map fun a=>[aI a]):=.inr ⟨ix,by rw[List.length_map],hx1,by omega,(f5 _ (by omega)).trans hx4⟩
   exact path_two hg hs h hid hk hd IH g5 hkk (by omega) ws5 hlen (by omega) hss (by omega) (by omega) (by omega) (by omega) h0 h1 (Fo.row_len _) (fun S n=>Fo.tr f0 S n) o5 ((f5 _ (by omega)).trans o4)
  ·rw[shift_p,ld1_p g4.to rfl rfl,lenS_s,sub_N hlen (by omega)]
   have ws4:Own (S.n+4) T4 (.s ix 0 ss.length) 3 (ss.map fun a=>[aI a]):=.inr ⟨ix,by rw[List.length_map],hx1,by omega,hx4⟩
   exact path_two hg hs h hid hk hd IH g4 hkk (by omega) ws4 hlen (by omega) hss (by omega) (by omega) (by omega) (by omega) (f0:=fo2) (.c _ (by decide)) h1 rfl (fun S n=>fo2_nl) oi4 o4
end
set_option linter.unusedSectionVars false
section
variable {c:Ci} {l:List Int} (hg:Gw c l) {s:Int} (hs:i64R s) {S:Store} {id k:Nat} (h:S.obj id=some (grO c l k)) (hid:id<S.n) {d:Nat} (hk:k+PP (d+1)≤1099511627776) (hd:d≤8) (IH:GrK c l d)
include hg hs h hid hk hd IH
theorem loop_four{fr0:List AV}{f0:Fo}(h0:Pu f0)(hfr:fr0[3]? = some (foL [f0])){T:Store}{k1:Nat}{xs:AV}{ss:List Int}{b:Int}(hb:0≤b∧b≤100)(g:Gst c l id S fr0 T [aI 6,aI s,aI b,xs,.nl] k1)(hk1:k≤k1)(hk2:k1≤k+9)(ws:Own (S.n+4) T xs 3 (ss.map fun a=>[aI a]))(hlen:ss.length≤9)(hss:∀ x∈ss,i64R x):
    loopV lv13_4 (vc Pg (c13.at_ [1,1,1,1,0,1,0,1,1,1,1,1,1,1,1,1,1,1,0,1,1,1,0,0]) (ms13.drop 5)) 306 (env13_4 (.p id 0 0) (aI (d+1:Nat)) (.p S.n 0 0) (.p (S.n+1) 0 0) (.p (S.n+2) 0 0) (.v (.int .i64 0))) T (blockK 9 (blockK 0 (seqK (vc Pg (c13.at_ [1,1,1,1,1]) (ms13.drop 5)) (bodyK Pg r13 (GrQ c l id S k (d+1)))))):=by
 have hP:PP (d+1)=9+9*PP d:=rfl
 have gTn:=g.n
 refine loop13_4 (fun y T'=>∃(i k':Nat) (xk:AV) (ks:List (List AV)) (h':Nat),y=aI i∧i≤ss.length∧T.n≤T'.n∧Gst c l id S fr0 T' [aI 6,aI s,aI b,xs,xk] k'∧Own (S.n+4) T' xs 3 (ss.map fun a=>[aI a])∧Own T.n T' xk 37 ks∧ks.length=i∧(LvL T' T.n h' ks∧h'≤T'.n∧∀ b m q,xk = .s q b m→h'≤q)∧k1≤k'∧k'≤k1+i*PP d)
  (fun y _=>ss.length - ((intA y).getD 0).toNat) ⟨0,k1,.nl,[],T.n,rfl,Nat.zero_le _,Nat.le_refl _,g,ws,.nl _ _ _,rfl,⟨LvL.nil _ _,Nat.le_refl _,fun b m q e=>by cases e⟩,Nat.le_refl _,by omega⟩ ?_
 rintro _ T1 ⟨i,k',xk,ks,h',rfl,hi,n1,g1,ws1,wk1,hks,⟨hall,hh1,hh2⟩,b1,b2⟩ KE hKE
 unfold b13_4
 have gn1:=g1.n
 rw[shift_p,ld1_p g1.to rfl rfl,ws1.len,List.length_map,bin_lss,onB_v]
 have hmul:i*PP d≤9*PP d:=Nat.mul_le_mul_right _ (by omega)
 refine gd_of (fun hlt=>?_) (fun hge=>?_)
 ·have hlt:i<ss.length:=by have:=dT hlt;omega
  have hmul2:(i+1)*PP d=i*PP d+PP d:=Nat.succ_mul _ _
  have hmul3:(i+1)*PP d≤9*PP d:=Nat.mul_le_mul_right _ (by omega)
  obtain⟨ix,rfl,hx1,hx2,hx3⟩:=ws1.ix (i:=i) (by simp;omega)
  rw[List.length_map]at *
  have hxT:ix<T.n:=by have:=ws.lt rfl;omega
  show ∃ q:AV,_
  (repeat (first|with_reducible_and_instances (first|refine WJ ?_|refine W (LJ_ldp g1.to (by omega) (by with_unfolding_all rfl) (by with_unfolding_all rfl)) ?_|refine W (LJ_ldp g1.fo (by omega) (by with_unfolding_all rfl) hfr) ?_|refine W (LJ_F0) ?_|refine W (LJ_ldNq (Fo.row_len _)) ?_|refine W (LJ_ixO hx3 hx2 hlt) ?_|refine W (LJ_ldp hx3 hx2 (map_at hlt) (by with_unfolding_all rfl)) ?_|refine W (LJ_subN (by with_unfolding_all rfl) (by omega)) ?_|refine W (J_ldq (by with_unfolding_all rfl)) ?_)))
  refine callF_gw IH h0 (fun S n=>Fo.tr f0 S n) (hss _ (List.getElem_mem hlt)) g1.go (by omega) (by omega) fun r k2 T2 lr a2 c2 m2 q2 w2=>?_
  have g2:=g1.mv hid m2 w2 q2
  have gn2:=g2.n
  have h2n:=m2.1
  have lle:=lr.le
  refine⟨fun T hT=>by rw[ld1_p ((hT.2 _ (by omega)).trans g2.to) rfl rfl];exact⟨rfl,rfl⟩,fun T hT=>⟨rfl,rfl⟩,?_⟩
  refine bslT1 lr.len ?_
  refine⟨fun T hT=>by rw[ld1_p ((hT.2 _ (by omega)).trans g2.to) rfl rfl];exact⟨rfl,rfl⟩,fun T hT=>⟨rfl,rfl⟩,?_⟩
  have wk2:Own T.n T2 xk 37 ks:=wk1.same h2n fun x hx hx'=>w2 x hx' (by omega)
  refine Own.appX wk2 (ys:=[r]) (by omega) (by simp) (by simpa using lr.len) (by simp;omega) (fun z T3 w3 b3 hz n3 nw3=>?_) rfl
  have old3:∀ x,x<T2.n→(∀ b m,xk≠.s x b m)→T3.obj x=T2.obj x:=fun x hx hne=>b3.2 x hx hne
  have xkT:∀ q b m,xk = .s q b m→T.n≤q∧q<T1.n:=fun q b m e=>wk1.lt e
  have g3:=g2.lo hid nw3 (fun x hx=>old3 x (by omega) (fun b m e=>by have:=xkT _ _ _ e;omega))
  refine L_shift ?_
  refine g3.set hid (by simp) (by rw[hz];rfl) fun T4 n4 g4 f4=>?_
  have hkeep:∀ x,S.n+4≤x→x<T.n→T4.obj x=T1.obj x:=fun x hx hx2=>(f4 x (by omega)).trans ((old3 x (by omega) (fun b m e=>by have:=xkT _ _ _ e;omega)).trans (w2 x (by omega) (by omega)))
  have ha:LvL T4 T.n h' ks:=hall.frame fun x a b=>(f4 x (by omega)).trans ((old3 x (by omega) (fun b' m' e=>by have:=hh2 _ _ _ e;omega)).trans (w2 x (by omega) (by omega)))
  have hr4:Lv T4 T1.n T2.n r:=lr.frame fun x a b=>(f4 x (by omega)).trans (old3 x b (fun b' m' e=>by have:=xkT _ _ _ e;omega))
  rw[bin_add (by omega) (by omega)]
  refine hKE _ _ ⟨i+1,k2,z,ks ++ [r],T2.n,rfl,hlt,by omega,g4,?_,?_,by simp[hks],⟨ha.snoc hr4 hh1,by omega,fun b m q e=>by rw[hz]at e;injection e;omega⟩,by omega,by omega⟩ (by simp[intA];omega)
  ·exact .inr ⟨ix,by rw[List.length_map],hx1,by omega,(hkeep _ hx1 hxT).trans hx3⟩
  ·exact w3.st (id:=S.n+2) (fun b m e=>by rw[hz]at e;injection e;omega) n4 f4
 ·have hge:i=ss.length:=by have:=dF hge;omega
  subst hge
  have xlt:∀ q b m,xs = .s q b m→q<T.n:=fun q b m e=>(ws.lt e).2
  have xok:XsOk T1 (S.n+4) T.n xs:=by
   rcases ws1 with⟨e,_⟩|⟨q,e1,e2,e3,e4⟩
   ·exact .inl e
   ·exact .inr ⟨q,ss,by rw[e1,List.length_map],e2,xlt _ _ _ e1,e4,by omega,hss⟩
  rcases wk1 with⟨rfl,rfl⟩|⟨q,e1,e2,e3,e4⟩
  ·exact gr_fin hid g1 (by omega) (by omega) (.leaf (S.n+4) T.n _ _ _ _ ⟨by decide,by decide⟩ hs ⟨by omega,by omega⟩ (by omega) xok) (Nat.le_refl _) n1
  ·rw[e1]at g1
   have hv:Lv T1 (S.n+4) T1.n [aI 6,aI s,aI b,xs,.s q 0 ks.length]:=Lv.of ⟨by decide,by decide⟩ hs ⟨by omega,by omega⟩ xok (by omega) hall (hh2 _ _ _ e1) e3 e4 (by omega)
   exact gr_fin hid g1 (by omega) (by omega) hv (Nat.le_refl _) (Nat.le_refl _)
theorem loop_one{fr0:List AV}{f0:Fo}(h0:Pu f0)(hfr:fr0[3]? = some (foL [f0])){T:Store}{k1:Nat}{xs:AV}(g:Gst c l id S fr0 T [aI 6,aI s,aI 0,xs,.nl] k1)(ws:Own (S.n+4) T xs 3 [[aI s]]){r:Nat}(hr:r≤8)(ha:k≤k1)(hb:k1+r≤k+9):
    loopV lv13_1 (vc Pg (c13.at_ [1,1,1,1,0,1,0,1,1,1,1,1,1,1,1,1,1,1,0,1,0,1,0,0]) (ms13.drop 3)) 306 (env13_1 (.p id 0 0) (aI (d+1:Nat)) (.p S.n 0 0) (.p (S.n+1) 0 0) (.p (S.n+2) 0 0) (aI r)) T (blockK 5 (seqK (vc Pg (c13.at_ [1,1,1,1,0,1,0,1,1,1,1,1,1,1,1,1,1,1,0,1,1]) (ms13.drop 4)) (blockK 0 (seqK (vc Pg (c13.at_ [1,1,1,1,1]) (ms13.drop 5)) (bodyK Pg r13 (GrQ c l id S k (d+1))))))):=by
 have hP:PP (d+1)=9+9*PP d:=rfl
 refine loop13_1 (fun y T'=>∃(i k' m:Nat) (xs:AV) (ss:List Int),y=aI i∧m+i≤8∧k'+i≤k+9∧k≤k'∧Gst c l id S fr0 T' [aI 6,aI s,aI 0,xs,.nl] k'∧Own (S.n+4) T' xs 3 (ss.map fun a=>[aI a])∧ss.length=m+1∧∀ x∈ss,i64R x)
  (fun y _=>((intA y).getD 0).toNat) ⟨r,k1,0,xs,[s],rfl,by omega,hb,ha,g,ws,rfl,fun x hx=>by rw[List.mem_singleton.1 hx];exact hs⟩ ?_
 rintro _ T1 ⟨i,k',m,xs,ss,rfl,hm,hki,hkk,g1,ws1,hlen,hss⟩ KE1 hKE1
 unfold b13_1
 have gn1:=g1.n
 rw[bin_gtr,onB_v]
 refine gd_of (fun hlt=>?_) (fun hge=>?_)
 ·obtain⟨i',rfl⟩:∃ i',i=i'+1:=⟨i - 1,by have:=dT hlt;omega⟩
  have hml:m<ss.length:=by omega
  obtain⟨ix,rfl,hx1,hx2,hx3⟩:=ws1.ix (i:=m) (by simp;omega)
  rw[List.length_map]at *
  rw[shift_p,ld1_p g1.to rfl rfl,shift_p,ld1_p g1.to rfl rfl,lenS_s,sub_N hlen (by omega),ixS_s hml hx3,ld1_p hx3 (map_at hml) rfl]
  refine gr_next hg g1.go (by omega) (hss _ (List.getElem_mem hml)) fun v k2 T2 hv a2 b2 m2 q2 w2=>?_
  have g2:=g1.pk hid m2 w2 q2
  have gn2:=g2.n
  have hx32:=(w2 _ (by omega)).trans hx3
  have ws2:Own (S.n+4) T2 (.s ix 0 ss.length) 3 (ss.map fun a=>[aI a]):=.inr ⟨ix,by rw[List.length_map],hx1,by omega,hx32⟩
  refine loop13_3 (fun y z T'=>T'=T2∧∃(b:Int) (j:Nat),y=aI b∧z=aI j∧-1≤b∧b<ss.length∧j≤ss.length) (fun _ z _=>ss.length - ((intA z).getD 0).toNat) ⟨rfl,-1,0,rfl,rfl,by omega,by omega,Nat.zero_le _⟩ ?_
  rintro _ _ T2 ⟨rfl,b,j,rfl,rfl,hb1,hb2,hj⟩ KE3 hKE3
  unfold b13_3
  rw[shift_p,ld1_p g2.to rfl rfl,lenS_s,bin_lss,onB_v]
  refine gd_of (fun hlj=>?_) (fun hgj=>?_)
  ·have hlj:j<ss.length:=by have:=dT hlj;omega
   rw[shift_p,ld1_p g2.to rfl rfl,ixS_s hlj hx32,ld1_p hx32 (map_at hlj) rfl,bin_eql,onB_v]
   refine gd_of (fun _=>?_) (fun _=>?_)
   ·rw[bin_add (by omega) (by omega)]
    exact hKE3 _ _ _ ⟨rfl,j,j+1,rfl,rfl,by omega,by omega,hlj⟩ (by simp[intA];omega)
   ·rw[bin_add (by omega) (by omega)]
    exact hKE3 _ _ _ ⟨rfl,b,j+1,rfl,rfl,hb1,hb2,hlj⟩ (by simp[intA];omega)
  ·have step:shift (.p (S.n+2) 0 0) 3 T2 fun v1 T=>ld1 v1 T fun v1 T=>bslN 3 1 1 [.v (.int .i64 0)] [(0,aI v)] T fun v2 T=>appS 3 1 8 v1 v2 T fun v3 T=>shift (.p (S.n+2) 0 0) 3 T fun v4 T=>stN 1 v4 v3 T fun _ T=>bin .sub 0 (aI (i'+1:Nat)) (.v (.int .i64 1)) T fun v5 T=>KE1 306 (env13_1 (.p id 0 0) (aI (d+1:Nat)) (.p S.n 0 0) (.p (S.n+1) 0 0) (.p (S.n+2) 0 0) v5) T:=by
     rw[shift_p,ld1_p g2.to rfl rfl]
     refine bsl1 rfl (fun _ h=>by cases h) ?_
     refine Own.appX ws2 (ys:=[[aI v]]) (by omega) (by simp) (by simp) (by simp;omega) (fun z T3 w3 b3 hm3 n3 nw3=>?_) rfl
     have old3:∀ x,x<S.n+4→T3.obj x=T2.obj x:=fun x hx=>b3.2 x (by omega) (fun b m e=>by have:=ws2.lt e;omega)
     have g3:=g2.lo hid nw3 old3
     rw[shift_p]
     refine g3.set hid (by simp) (by rw[hm3];rfl) fun T4 n4 g4 f4=>?_
     rw[sub_N rfl (by omega)]
     refine hKE1 _ _ ⟨i',k2,m+1,z,ss ++ [v],rfl,by omega,by omega,by omega,g4,?_,by simp[hlen],fun x hx=>?_⟩ (by simp[intA])
     ·rw[List.map_append]
      exact w3.st (id:=S.n+2) (fun b m e=>by rw[hm3]at e;injection e;omega) n4 f4
     ·rcases List.mem_append.1 hx with hx|hx
      ·exact hss x hx
      ·rw[List.mem_singleton.1 hx];exact hv
   rw[bin_geq,onB_v]
   refine gd_of (fun hb0=>?_) (fun hb0=>step)
   have hb0:=dT hb0
   rw[bin_lss,onB_v]
   refine gd_of (fun h4=>?_) (fun h4=>step)
   rw[shift_p]
   refine g2.set hid (by simp) rfl fun T4 n4 g4 f4=>?_
   exact loop_four hg hs h hid hk hd IH h0 hfr (b:=b) (by omega) g4 (by omega) (by omega) (ws2.st (id:=S.n+2) (fun b m e=>by injection e;omega) n4 f4) (by omega) hss
 ·have hge:i=0:=by have:=dF hge;omega
  subst hge
  exact loop_four hg hs h hid hk hd IH h0 hfr (b:=0) (by decide) g1 hkk (by omega) ws1 (by omega) hss
end
set_option linter.unusedSectionVars false
section
variable {c:Ci} {l:List Int} (hg:Gw c l) {s:Int} (hs:i64R s) {S:Store} {id k:Nat} (h:S.obj id=some (grO c l k)) (hid:id<S.n) {d:Nat} (hk:k+PP (d+1)≤1099511627776) (hd:d≤8) (IH:GrK c l d)
include hg hs h hid hk hd IH
theorem grow_ef{f:Fo}(hf:Pu f):ACalls Pg 13 [.p id 0 0,(Fo.mk 11 ⟨#[]⟩ 0 [f]).av,aI s,aI (d+1:Nat)] S (GrQ c l id S k (d+1)):=by
 refine calls13 ?_
 unfold m13
 rw[Fo.av,Fo.row_mk]
 refine boxA_of rfl fun S1 k1 n1 o1=>?_
 refine boxA_of rfl fun S2 k2 n2 o2=>?_
 rw[bld_of (cs:=[aI 1,aI s,aI 0,.nl,.nl]) rfl]
 refine boxA_of rfl fun S3 k3 n3 o3=>?_
 refine stA_of (cs':=[aI 1,aI s,aI 0,.nl,.nl]) o3 rfl rfl fun S4 n4 o4 f4=>?_
 rw[bld_of (cs:=[aI 2,.v (.string ByteArray.empty),aI 0,.nl]) rfl]
 refine boxA_of rfl fun S5 k5 n5 o5=>?_
 refine stA_of (cs':=[aI 2,.v (.string ByteArray.empty),aI 0,.nl]) o5 rfl rfl fun S6 n6 o6 f6=>?_
 have nw0:Nw S S6:=((Nw.box k1 n1 o1 rfl).trans (Nw.box k2 n2 o2 rfl)).trans (((Nw.box k3 n3 o3 rfl).trans (Nw.st n4 o4 rfl f4)).trans ((Nw.box k5 n5 o5 rfl).trans (Nw.st n6 o6 rfl f6)))
 have e1:S1.n=S.n+1:=n1
 have e2:S2.n=S.n+2:=by omega
 have e4:S4.n=S.n+3:=by omega
 have k4:=k3.st (Nat.le_refl _) n4 f4
 have k6:=k5.st (Nat.le_refl _) n6 f6
 have kS:Keep S S6:=((k1.trans k2).trans k4).trans k6
 rw[e1]at o2
 rw[e2]at o4
 rw[e4]at o6
 have g0:Gst c l id S [aI 11,.v (.string ⟨#[]⟩),aI 0,foL [f]] S6 [aI 1,aI s,aI 0,.nl,.nl] k:=⟨by omega,(k6.2 _ (by omega)).trans ((k4.2 _ (by omega)).trans ((k2.2 _ (by omega)).trans o1)),(k6.2 _ (by omega)).trans ((k4.2 _ (by omega)).trans o2),(k6.2 _ (by omega)).trans o4,o6,(kS.2 _ hid).trans h,fun x hx _=>kS.2 x hx,nw0⟩
 rw[e1,e2,e4]
 rw[bin_lss,onB_v,decide_eq_false (by omega),gd_false,shift_p,ld1_p g0.fo rfl rfl]
 have lsb:∀(T:Store) (K:AV→Store→Prop),bin .sub 0 (aI (d+1:Nat)) (.v (.int .i64 1)) T K=K (aI d) T:=fun T K=>(bin_sub (by omega) (by omega) 0).trans (by rw[show(((d+1:Nat):Nat):Int) - 1=d by omega])
 have lsl:∀{T0:Store} {P:AV→Prop},(∃ q,(∀ T,Keep T0 T→bin .sub 0 (aI (d+1:Nat)) (.v (.int .i64 1)) T fun v S=>v=q∧S=T)∧P q)=P (aI d):=fun{T0 P}=>LJ_of (op:=fun T K=>bin .sub 0 (aI (d+1:Nat)) (.v (.int .i64 1)) T K) fun T hT K=>lsb T K
 have hP:PP (d+1)=9+9*PP d:=rfl
 refine tno2 (by decide) (tno2 (by decide) (tno2 (by decide) (tno2 (by decide) (tyes2 rfl ?_))))
 rw[onB_v,gd_true]
 have gn:=g0.n
 refine bsl1_live rfl (fun _ h=>by cases h) fun T1 kk1 m1 q1=>?_
 have g1:=g0.keep hid kk1 (Nw.box kk1 m1 q1 rfl)
 rw[shift_p]
 refine g1.set hid (by simp) rfl fun T2 m2 g2 w2=>?_
 rw[shift_p]
 refine g2.set hid (by simp) rfl fun T3 m3 g3 w3=>?_
 have gn3:=g3.n
 refine gr_pick hg g3.go (by omega) (by decide) fun r T4 r0 r1 m4 q4 w4=>?_
 have g4:=g3.pk hid m4 w4 q4
 obtain⟨j,rfl⟩:=Int.eq_ofNat_of_zero_le r0
 have ws:Own (S.n+4) T4 (.s S6.n 0 1) 3 [[aI s]]:=.inr ⟨S6.n,rfl,by omega,by omega,(w4 _ (by omega)).trans ((w3 _ (by omega)).trans ((w2 _ (by omega)).trans q1))⟩
 exact path_one hg hs h hid hk hd IH (n1:=0) (by decide) rfl (f0:=f) rfl hf (fun e=>by cases e) g4 ws (by omega) (by omega) (by omega)
theorem grow_eu{f g:Fo}(hf:Pu f)(hgf:Pu g):ACalls Pg 13 [.p id 0 0,(Fo.mk 15 ⟨#[]⟩ 0 [f,g]).av,aI s,aI (d+1:Nat)] S (GrQ c l id S k (d+1)):=by
 refine calls13 ?_
 unfold m13
 rw[Fo.av,Fo.row_mk]
 refine boxA_of rfl fun S1 k1 n1 o1=>?_
 refine boxA_of rfl fun S2 k2 n2 o2=>?_
 rw[bld_of (cs:=[aI 1,aI s,aI 0,.nl,.nl]) rfl]
 refine boxA_of rfl fun S3 k3 n3 o3=>?_
 refine stA_of (cs':=[aI 1,aI s,aI 0,.nl,.nl]) o3 rfl rfl fun S4 n4 o4 f4=>?_
 rw[bld_of (cs:=[aI 2,.v (.string ByteArray.empty),aI 0,.nl]) rfl]
 refine boxA_of rfl fun S5 k5 n5 o5=>?_
 refine stA_of (cs':=[aI 2,.v (.string ByteArray.empty),aI 0,.nl]) o5 rfl rfl fun S6 n6 o6 f6=>?_
 have nw0:Nw S S6:=((Nw.box k1 n1 o1 rfl).trans (Nw.box k2 n2 o2 rfl)).trans (((Nw.box k3 n3 o3 rfl).trans (Nw.st n4 o4 rfl f4)).trans ((Nw.box k5 n5 o5 rfl).trans (Nw.st n6 o6 rfl f6)))
 have e1:S1.n=S.n+1:=n1
 have e2:S2.n=S.n+2:=by omega
 have e4:S4.n=S.n+3:=by omega
 have k4:=k3.st (Nat.le_refl _) n4 f4
 have k6:=k5.st (Nat.le_refl _) n6 f6
 have kS:Keep S S6:=((k1.trans k2).trans k4).trans k6
 rw[e1]at o2
 rw[e2]at o4
 rw[e4]at o6
 have g0:Gst c l id S [aI 15,.v (.string ⟨#[]⟩),aI 0,foL [f,g]] S6 [aI 1,aI s,aI 0,.nl,.nl] k:=⟨by omega,(k6.2 _ (by omega)).trans ((k4.2 _ (by omega)).trans ((k2.2 _ (by omega)).trans o1)),(k6.2 _ (by omega)).trans ((k4.2 _ (by omega)).trans o2),(k6.2 _ (by omega)).trans o4,o6,(kS.2 _ hid).trans h,fun x hx _=>kS.2 x hx,nw0⟩
 rw[e1,e2,e4]
 rw[bin_lss,onB_v,decide_eq_false (by omega),gd_false,shift_p,ld1_p g0.fo rfl rfl]
 have lsb:∀(T:Store) (K:AV→Store→Prop),bin .sub 0 (aI (d+1:Nat)) (.v (.int .i64 1)) T K=K (aI d) T:=fun T K=>(bin_sub (by omega) (by omega) 0).trans (by rw[show(((d+1:Nat):Nat):Int) - 1=d by omega])
 have lsl:∀{T0:Store} {P:AV→Prop},(∃ q,(∀ T,Keep T0 T→bin .sub 0 (aI (d+1:Nat)) (.v (.int .i64 1)) T fun v S=>v=q∧S=T)∧P q)=P (aI d):=fun{T0 P}=>LJ_of (op:=fun T K=>bin .sub 0 (aI (d+1:Nat)) (.v (.int .i64 1)) T K) fun T hT K=>lsb T K
 have hP:PP (d+1)=9+9*PP d:=rfl
 refine tno2 (by decide) (tno2 (by decide) (tno2 (by decide) (tno2 (by decide) (tno2 (by decide) (tyes2 rfl ?_)))))
 have gn:=g0.n
 refine bsl1_live rfl (fun _ h=>by cases h) fun T1 kk1 m1 q1=>?_
 have g1:=g0.keep hid kk1 (Nw.box kk1 m1 q1 rfl)
 rw[shift_p]
 refine g1.set hid (by simp) rfl fun T2 m2 g2 w2=>?_
 rw[shift_p]
 refine g2.set hid (by simp) rfl fun T3 m3 g3 w3=>?_
 have gn3:=g3.n
 refine gr_pick hg g3.go (by omega) (by decide) fun r T4 r0 r1 m4 q4 w4=>?_
 have g4:=g3.pk hid m4 w4 q4
 obtain⟨j,rfl⟩:=Int.eq_ofNat_of_zero_le r0
 have ws:Own (S.n+4) T4 (.s S6.n 0 1) 3 [[aI s]]:=.inr ⟨S6.n,rfl,by omega,by omega,(w4 _ (by omega)).trans ((w3 _ (by omega)).trans ((w2 _ (by omega)).trans q1))⟩
 exact path_one hg hs h hid hk hd IH (n1:=1) (by decide) rfl (f0:=f) rfl hgf (fun _=>⟨rfl,hf⟩) g4 ws (by omega) (by omega) (by omega)
theorem grow_eg{f:Fo}(hf:Pu f):ACalls Pg 13 [.p id 0 0,(Fo.mk 13 ⟨#[]⟩ 0 [f]).av,aI s,aI (d+1:Nat)] S (GrQ c l id S k (d+1)):=by
 refine calls13 ?_
 unfold m13
 rw[Fo.av,Fo.row_mk]
 refine boxA_of rfl fun S1 k1 n1 o1=>?_
 refine boxA_of rfl fun S2 k2 n2 o2=>?_
 rw[bld_of (cs:=[aI 1,aI s,aI 0,.nl,.nl]) rfl]
 refine boxA_of rfl fun S3 k3 n3 o3=>?_
 refine stA_of (cs':=[aI 1,aI s,aI 0,.nl,.nl]) o3 rfl rfl fun S4 n4 o4 f4=>?_
 rw[bld_of (cs:=[aI 2,.v (.string ByteArray.empty),aI 0,.nl]) rfl]
 refine boxA_of rfl fun S5 k5 n5 o5=>?_
 refine stA_of (cs':=[aI 2,.v (.string ByteArray.empty),aI 0,.nl]) o5 rfl rfl fun S6 n6 o6 f6=>?_
 have nw0:Nw S S6:=((Nw.box k1 n1 o1 rfl).trans (Nw.box k2 n2 o2 rfl)).trans (((Nw.box k3 n3 o3 rfl).trans (Nw.st n4 o4 rfl f4)).trans ((Nw.box k5 n5 o5 rfl).trans (Nw.st n6 o6 rfl f6)))
 have e1:S1.n=S.n+1:=n1
 have e2:S2.n=S.n+2:=by omega
 have e4:S4.n=S.n+3:=by omega
 have k4:=k3.st (Nat.le_refl _) n4 f4
 have k6:=k5.st (Nat.le_refl _) n6 f6
 have kS:Keep S S6:=((k1.trans k2).trans k4).trans k6
 rw[e1]at o2
 rw[e2]at o4
 rw[e4]at o6
 have g0:Gst c l id S [aI 13,.v (.string ⟨#[]⟩),aI 0,foL [f]] S6 [aI 1,aI s,aI 0,.nl,.nl] k:=⟨by omega,(k6.2 _ (by omega)).trans ((k4.2 _ (by omega)).trans ((k2.2 _ (by omega)).trans o1)),(k6.2 _ (by omega)).trans ((k4.2 _ (by omega)).trans o2),(k6.2 _ (by omega)).trans o4,o6,(kS.2 _ hid).trans h,fun x hx _=>kS.2 x hx,nw0⟩
 rw[e1,e2,e4]
 rw[bin_lss,onB_v,decide_eq_false (by omega),gd_false,shift_p,ld1_p g0.fo rfl rfl]
 have lsb:∀(T:Store) (K:AV→Store→Prop),bin .sub 0 (aI (d+1:Nat)) (.v (.int .i64 1)) T K=K (aI d) T:=fun T K=>(bin_sub (by omega) (by omega) 0).trans (by rw[show(((d+1:Nat):Nat):Int) - 1=d by omega])
 have lsl:∀{T0:Store} {P:AV→Prop},(∃ q,(∀ T,Keep T0 T→bin .sub 0 (aI (d+1:Nat)) (.v (.int .i64 1)) T fun v S=>v=q∧S=T)∧P q)=P (aI d):=fun{T0 P}=>LJ_of (op:=fun T K=>bin .sub 0 (aI (d+1:Nat)) (.v (.int .i64 1)) T K) fun T hT K=>lsb T K
 have hP:PP (d+1)=9+9*PP d:=rfl
 refine tno2 (by decide) (tno2 (by decide) (tno2 (by decide) (tno2 (by decide) (tno2 (by decide) (tno2 (by decide) (tyes2 rfl ?_))))))
 have gn:=g0.n
 refine bsl1_live rfl (fun _ h=>by cases h) fun T1 kk1 m1 q1=>?_
 have g1:=g0.keep hid kk1 (Nw.box kk1 m1 q1 rfl)
 rw[shift_p]
 refine g1.set hid (by simp) rfl fun T2 m2 g2 w2=>?_
 rw[shift_p]
 refine g2.set hid (by simp) rfl fun T3 m3 g3 w3=>?_
 have gn3:=g3.n
 refine gr_pick hg g3.go (by omega) (by decide) fun r T4 r0 r1 m4 q4 w4=>?_
 have g4:=g3.pk hid m4 w4 q4
 obtain⟨j,rfl⟩:=Int.eq_ofNat_of_zero_le r0
 have ws:Own (S.n+4) T4 (.s S6.n 0 1) 3 [[aI s]]:=.inr ⟨S6.n,rfl,by omega,by omega,(w4 _ (by omega)).trans ((w3 _ (by omega)).trans ((w2 _ (by omega)).trans q1))⟩
 rw[show ∀ K:AV→Store→Prop,bin .add 0 (.v (.int .i64 1)) (aI j) T4 K=K (aI (j+1:Nat)) T4 from fun K=>(bin_add (by omega) (by omega) 0).trans (by rw[show(1:Int)+j=(j+1:Nat)by omega])]
 exact loop_one hg hs h hid hk hd IH hf rfl g4 ws (by omega) (by omega) (by omega)
end
theorem gr_grow{c:Ci}{l:List Int}(hg:Gw c l):∀ d,d≤8→GrK c l d:=by
 intro d
 induction d with
 |zero=>exact fun _ f hf s hs S id k h hid hk=>grow_0 hg hs h hid f
 |succ d ih =>
  intro hd f hf s hs S id k h hid hk
  have IH:GrK c l d:=fun{f} hf {s} hs {S id k} h1 h2 h3=>ih (by omega) hf hs h1 h2 h3
  have hd8:d≤8:=by omega
  cases hf with
  |c kd hkd=>exact grow_leaf hg hs h hid hk hd8 IH (by omega) 0 []
  |a lf h0 hl=>exact grow_leaf hg hs h hid hk hd8 IH (by omega) lf []
  |n lf h0 hl=>exact grow_leaf hg hs h hid hk hd8 IH (by omega) 0 _
  |o kd f hkd hf =>
   have:kd=9∨kd=11∨kd=13∨(kd=10∨kd=12∨kd=14∨kd=16∨kd=18):=by omega
   rcases this with rfl|rfl|rfl|hh
   ·exact grow_ex hg hs h hid hk hd8 IH hf
   ·exact grow_ef hg hs h hid hk hd8 IH hf
   ·exact grow_eg hg hs h hid hk hd8 IH hf
   ·exact grow_taken hg hs h hid hk hd8 IH hh 0 _
  |t kd f g hkd hf hgf =>
   have:kd=5∨kd=6∨kd=15∨kd=17∨(kd=10∨kd=12∨kd=14∨kd=16∨kd=18):=by omega
   rcases this with rfl|rfl|rfl|rfl|hh
   ·exact grow_and hg hs h hid hk hd8 IH hf hgf
   ·exact grow_or hg hs h hid hk hd8 IH hf hgf
   ·exact grow_eu hg hs h hid hk hd8 IH hf hgf
   ·exact grow_er hg hs h hid hk hd8 IH hf hgf
   ·exact grow_taken hg hs h hid hk hd8 IH hh 0 _
theorem grown5{c:Ci}{l:List Int}(hg:Gw c l){f:Fo}(hf:f.ok)(hm:f.mayB 60=true){S:Store}{Q:AEnd→Store→Prop}{K:AV→Store→Prop}(kk:∀(r:List AV) (S':Store),Lv S' S.n S'.n r→Nw S S'→Keep S S'→K (.a r) S'):callF Pg 5 [c.av,f.av,aL aU8 l] S Q K:=by
 refine .inl (ACalls.mono (Q:=fun e S'=>∃ r:List AV,e = .ret (.a r)∧Lv S' S.n S'.n r∧Nw S S'∧Keep S S') (calls5 ?_) fun e S' ⟨r,he,h1,h2,h3⟩=>by subst he;exact kk r S' h1 h2 h3)
 unfold m5
 obtain⟨m,h1,h2,h3,h4,h5⟩:=hg.cs.sum
 have hpb:pushB f=f.push false:=by rw[pushB,if_pos hm]
 have cp:=ans14 hf
 rw[hpb]at cp
 have hpu:=push_pu f hf hm false
 have hp2:(1:Int)≤2 ^ m:=by have:(0:Int)<2 ^ m:=Int.pow_pos (by decide);omega
 have hp3:=pow_le60 h3
 refine boxA_of rfl fun S1 k1 n1 o1=>?_
 refine boxA_of (Fo.row_len f) fun S2 k2 n2 o2=>?_
 refine boxA_of rfl fun S3 k3 n3 o3=>?_
 have kk:=(k1.trans k2).trans k3
 have p1:=(k3.2 _ (by omega)).trans ((k2.2 _ (by omega)).trans o1)
 rw[ldN_p (n:=8) p1 rfl,bld_of (cs:=grC c l 0) rfl]
 refine boxA_of (grC_len c l 0) fun S4 k4 n4 o4=>?_
 have nw4:Nw S S4:=((Nw.box k1 n1 o1 rfl).trans (Nw.box k2 n2 o2 rfl)).trans ((Nw.box k3 n3 o3 rfl).trans (Nw.box k4 n4 o4 rfl))
 have p14:=(k4.2 _ (by omega)).trans p1
 have p24:=(k4.2 _ (by omega)).trans ((k3.2 _ (by omega)).trans o2)
 have rlen:∀{P:AV→Prop},(∃ q,(∀ T,Keep S4 T→lenS (pL c.latches) T fun v S=>v=q∧S=T)∧P q)=P (aI c.latches.length):=LJ_of (op:=fun T K=>lenS (pL c.latches) T K) fun T hT K=>lenS_pL _
 have radd:∀{P:AV→Prop},(∃ q,(∀ T,Keep S4 T→bin .add 0 (aI c.inputs) (aI c.latches.length) T fun v S=>v=q∧S=T)∧P q)=P (aI m):=LJ_of (op:=fun T K=>bin .add 0 (aI c.inputs) (aI c.latches.length) T K) fun T hT K=>(bin_add (by omega) (by omega) 0).trans (by rw[h1])
 have rshl:∀{P:AV→Prop},(∃ q,(∀ T,Keep S4 T→bin .shl 0 (.v (.int .i64 1)) (aI m) T fun v S=>v=q∧S=T)∧P q)=P (aI (2 ^ m)):=LJ_of (op:=fun T K=>bin .shl 0 (.v (.int .i64 1)) (aI m) T K) fun T hT K=>bin_shl1 h3
 show ∃ q:AV,_
 (repeat (first|with_reducible_and_instances (first|refine WJ ?_|refine W (LJ_ldN (n:=4) p24 (by omega) (Fo.row_len f)) ?_|refine W (LJ_ldp p14 (by omega) (by with_unfolding_all rfl) (by with_unfolding_all rfl)) ?_|refine W (rlen) ?_|refine W (radd) ?_|refine W (rshl) ?_|refine W (J_ldq (by with_unfolding_all rfl)) ?_)|refine J_cA (cp) rfl rfl ?_|refine C_A (cp) rfl rfl ?_|refine L_cA (cp) rfl rfl ?_))
 refine gr_pick hg o4 (by omega) (by omega) fun r S5 r0 r1 n5 q5 f5=>?_
 refine callF_gr (gr_grow hg 8 (Nat.le_refl _) hpu (s:=r) ⟨by omega,by omega⟩ q5 (by omega) (by decide)) fun t k' S6 lt a1 b1 w6 q6 f6=>?_
 have n6:=w6.1
 have o36:=(f6 _ (by omega) (by omega)).trans ((f5 _ (by omega)).trans ((k4.2 _ (by omega)).trans o3))
 refine stA_of (cs':=t) o36 lt.len rfl fun S7 n7 o7 f7=>?_
 rw[ldN_p (n:=5) o7 lt.len]
 have:=kk.1
 exact⟨t,rfl,(lt.frame fun x a b=>f7 x (by omega)).mono (by omega) (by omega),(nw4.trans (Nw.st n5 q5 rfl f5)).trans (w6.trans (Nw.st n7 o7 rfl f7)),⟨by omega,fun x hx=>(f7 x (by omega)).trans ((f6 x (by omega) (by omega)).trans ((f5 x (by omega)).trans ((k4.2 x (by omega)).trans (kk.2 x hx))))⟩⟩
set_option linter.unusedSectionVars false
theorem stE_of{S:Store}{K:AV→Store→Prop}{id t i j n:Nat}{es:List (List AV)}{cs cs' us:List AV}{u:AV}(h:S.obj id=some (.cells t es true))(hi:es[i]? = some cs)(hu:cellsOf u=some us)(hn:us.length=n)(hj:j+us.length≤cs.length)(hs:spl cs j us=cs')
    (k:∀ S',S'.n=S.n→S'.obj id=some (.cells t (es.set i cs') true)→(∀ x,x≠id→S'.obj x=S.obj x)→K .j S'):stN n (.p id i j) u S K:=by
 refine⟨us,hu,hn,?_⟩
 simp only[stS,h]
 simp only[hi,Option.bind_some,if_pos hj,hs]
 exact⟨_,rfl,k _ rfl (upd_self _ _) fun x hx=>upd_ne hx⟩
theorem stG_of{S:Store}{K:AV→Store→Prop}{id t i j:Nat}{es:List (List AV)}{cs:List AV}{u:AV}(h:S.obj id=some (.cells t es true))(hi:es[i]? = some cs)(hj:j<cs.length)(hu:u.one=true)
    (k:∀ S',S'.n=S.n→S'.obj id=some (.cells t (es.set i (cs.set j u)) true)→(∀ x,x≠id→S'.obj x=S.obj x)→K .j S'):stN 1 (.p id i j) u S K:=
 stE_of h hi (cells_of_one hu) rfl (by simp;omega) (by
  simp only[spl,List.length_singleton]
  rw[List.set_eq_take_append_cons_drop,if_pos hj]
  simp) k
theorem Lv.open{S:Store}{a b:Nat}{row:List AV}(h:Lv S a b row)(hbn:b≤S.n):∃(kd s bb:Int) (xs xk:AV) (ss:List Int) (es:List (List AV)),row = [aI kd,aI s,aI bb,xs,xk]∧Own a S xs 3 (intsR ss)∧(∀ q o m,xs = .s q o m→q<b)∧ss.length≤1000∧(∀ x∈ss,i64R x)∧Own a S xk 37 es∧(∀ q o m,xk = .s q o m→q<b)∧es.length≤1000∧(∀ r∈es,r.length=5)∧
    (∀ S' x',XsW S' x'→(∀ y,a≤y→y<b→(∀ o m,xs≠.s y o m)→S'.obj y=S.obj y)→Lw S' [aI kd,aI s,aI bb,x',xk])∧
    (∀ S' id' m (rs':List (List AV)),S'.obj id'=some (.cells 37 rs' true)→m≤rs'.length→rs'.length≤2000→(∀ i (hi:i<rs'.length),(∃ h:i<es.length,rs'[i]=es[i])∨Lw S' rs'[i])→(∀ y,a≤y→y<b→(∀ o m,xk≠.s y o m)→S'.obj y=S.obj y)→Lw S' [aI kd,aI s,aI bb,xs,.s id' 0 m]):=by
 have hX:∀{lo hi:Nat} {xs:AV},XsOk S lo hi xs→hi≤S.n→∃ ss:List Int,Own lo S xs 3 (intsR ss)∧(∀ q o m,xs = .s q o m→q<hi)∧ss.length≤1000∧∀ x∈ss,i64R x:=fun h hn=>by
  rcases h with rfl|⟨q,ss,rfl,h2,h3,h4,h5,h6⟩
  ·exact⟨[],.inl ⟨rfl,rfl⟩,(fun q o m e=>by cases e),by simp,(fun x h=>by cases h)⟩
  ·exact⟨ss,.inr ⟨q,by rw[List.length_map],h2,by omega,h4⟩,fun q o m e=>by cases e;exact h3,h5,h6⟩
 cases h with
 |leaf _ _ kd s bb xs h0 hs hb h1 hx =>
  obtain⟨ss,s1,s2,s3,s4⟩:=hX hx hbn
  refine⟨kd,s,bb,xs,.nl,ss,[],rfl,s1,s2,s3,s4,.inl ⟨rfl,rfl⟩,(fun q o m e=>by cases e),by simp,(fun r h=>by cases h),fun S' x' hx' hf=>.leaf _ _ _ _ h0 hs hb hx',fun S' id' m rs' ho hm hl hr hf=>.kids _ _ _ _ _ _ rs' h0 hs hb (hx.frame fun i p q=>hf i p q (fun o m e=>by cases e)).w ho hm hl fun i hi=>?_⟩
  rcases hr i hi with⟨h,_⟩|h
  ·simp at h
  ·exact h
 |kids _ _ kd s bb xs id rs bd h0 hs hb hx h1 hm h2 h3 ho hl h =>
  have m0:=bd_mono hm (Nat.zero_le rs.length) (Nat.le_refl _)
  obtain⟨ss,s1,s2,s3,s4⟩:=hX hx (by omega)
  have hk:∀(S':Store),(∀ y,bd 0≤y→y<id→S'.obj y=S.obj y)→∀ i (hi:i<rs.length),Lw S' rs[i]:=fun S' hf i hi=>((h i hi).frame fun x p q=>hf x (by
   have:=bd_mono hm (Nat.zero_le i) (Nat.le_of_lt hi);omega) (by
   have:=bd_mono hm (show i+1≤rs.length from hi) (Nat.le_refl _);omega)).w
  refine⟨kd,s,bb,xs,.s id 0 rs.length,ss,rs,rfl,s1,(fun q o m e=>by have:=s2 q o m e;omega),s3,s4,.inr ⟨id,rfl,by omega,by omega,ho⟩,(fun q o m e=>by cases e;exact h3),hl,(fun r hr=>by
   obtain⟨i,hi,rfl⟩:=List.getElem_of_mem hr
   exact(h i hi).len),fun S' x' hx' hf=>?_,fun S' id' m rs' ho' hm' hl' hr hf=>?_⟩
  ·refine .kids _ _ _ _ _ _ rs h0 hs hb hx' ((hf id (by omega) h3 (fun o m e=>by have:=s2 _ _ _ e;omega)).trans ho) (Nat.le_refl _) (by omega) (hk S' fun y p q=>hf y (by omega) (by omega) (fun o m e=>by have:=s2 _ _ _ e;omega))
  ·refine .kids _ _ _ _ _ _ rs' h0 hs hb (hx.frame fun i p q=>hf i p (by omega) (fun o m e=>by cases e;omega)).w ho' hm' hl' fun i hi=>?_
   rcases hr i hi with⟨h,e⟩|h
   ·rw[e];exact hk S' (fun y p q=>hf y (by omega) (by omega) (fun o m e=>by cases e;omega)) i h
   ·exact h
def Pl(T:Store)(lo tn:Nat)(r:List AV)(p:AV):Prop:=p = .p tn 0 0∨∃(id j a b:Nat) (row:List AV),p = .p id j 0∧Cx T lo tn r id j a b row
structure Pn (T:Store) (lo tn:Nat) (id j a b:Nat) (rs:List (List AV)) (row:List AV):Prop where
 ho:T.obj id=some (.cells 37 rs true)
 hr:rs[j]? = some row
 lv:Lv T a b row
 loa:lo≤a
 bid:b≤id
 idn:id≤tn
 back:∀{T':Store} {row':List AV},Lw T' row'→T'.obj id=some (.cells 37 (rs.set j row') true)→(∀ x,lo≤x→x<T.n→x≠id→¬ (a≤x∧x<b)→T'.obj x=T.obj x)→∃ rr,T'.obj tn=some (.cells 37 [rr] true)∧Lw T' rr
theorem Pl.pn{T:Store}{lo tn:Nat}{r:List AV}{p:AV}(hp:Pl T lo tn r p)(h0:T.obj tn=some (.cells 37 [r] true))(hl:Lv T lo tn r)(hn:T.n=tn+1):∃(id j a b:Nat) (rs:List (List AV)) (row:List AV),p = .p id j 0∧Pn T lo tn id j a b rs row:=by
 have hle:=hl.le
 rcases hp with rfl|⟨id,j,a,b,row,rfl,hc⟩
 ·exact⟨tn,0,lo,tn,[r],r,rfl,h0,rfl,hl,Nat.le_refl _,Nat.le_refl _,Nat.le_refl _,fun{T' row'} hw ho _=>⟨row',ho,hw⟩⟩
 ·obtain⟨h1,h2,h3,h4,rs,h5,h6⟩:=hc.at_
  refine⟨id,j,a,b,rs,row,rfl,h5,h6,h1,h2,h3,by omega,fun{T' row'} hw ho hf=>⟨r,(hf tn hle (by omega) (by omega) (by omega)).trans h0,?_⟩⟩
  exact hc.mod hw h5 ho fun i p q hne hab=>hf i p (by omega) hne hab
theorem Pl.step{T:Store}{lo tn:Nat}{r:List AV}(h0:T.obj tn=some (.cells 37 [r] true))(hl:Lv T lo tn r){id j:Nat}(hp:Pl T lo tn r (.p id j 0)){rs:List (List AV)}{kd s b xs:AV}{id2 n:Nat}(ho:T.obj id=some (.cells 37 rs true))(hr:rs[j]? = some [kd,s,b,xs,.s id2 0 n]){i:Nat}(hi:i<n):Pl T lo tn r (.p id2 i 0):=by
 rcases hp with h|⟨id',j',a,b',row,h,hc⟩
 ·cases h
  rw[h0]at ho
  cases ho
  cases hr
  obtain⟨_,_,_,_,hst⟩:=hl.step
  obtain⟨a,b',r',_,hc⟩:=hst i hi
  exact .inr ⟨_,_,a,b',r',rfl,hc⟩
 ·cases h
  obtain⟨h1,h2,h3,h4,rs',h5,h6⟩:=hc.at_
  rw[h5]at ho
  cases ho
  rw[h6]at hr
  cases hr
  obtain⟨_,_,_,_,hst⟩:=h1.step
  obtain⟨a,b',r',_,hc2⟩:=hst i hi
  exact .inr ⟨_,_,a,b',r',rfl,hc.snoc hc2⟩
theorem ok_gotT{t:Tn}(h:t.ok):t.got:=by
 induction h with
 |mk k s b ss ks h1 h2 h3 h4 h5 h6 h ih=>exact .mk _ _ _ _ _ h1 h2 h3 (by unfold maxLen;omega) h5 (by unfold maxLen;omega) ih
theorem keep0(S:Store):Keep S0 S:=⟨Nat.zero_le _,fun x h=>absurd h (Nat.not_lt_zero _)⟩
theorem tg_fin{c:Ci}(hc:c.ok){f:Fo}(hf:f.ok){T:Store}{q0 q1 tn:Nat}(hp:T.plain)(h0:T.obj q0=some (.cells 29 [c.cells] true))(h1:T.obj q1=some (.cells 32 [f.row] true))(h2:∃ rr,T.obj tn=some (.cells 37 [rr] true)∧Lw T rr):
    callF Pg 8 [] T (fun e S'=>e = .ret (aB true)∧Keep S0 S') fun v S=>onB v fun b=>gd b (ldN 8 (.p q0 0 0) S fun v1 S=>ldN 4 (.p q1 0 0) S fun v2 S=>ldN 5 (.p tn 0 0) S fun v3 S=>callF Pg 7 [v1,v2,v3] S (fun e S'=>e = .ret (aB true)∧Keep S0 S') fun v S=>AEnd.ret v = .ret (aB true)∧Keep S0 S) (AEnd.ret (.v (.bool false)) = .ret (aB true)∧Keep S0 S):=by
 obtain⟨rr,h2,hw⟩:=h2
 refine callF_ans ans8 ?_
 obtain⟨t,tok,tcv⟩:=hw.av T.n
 have hlen:rr.length=5:=by cases hw<;>rfl
 rw[onB_v,gd_true,ldN_p (n:=8) h0 rfl,ldN_p (n:=4) h1 (Fo.row_len f),ldN_p (n:=5) h2 hlen]
 exact callF_lend (args:=[.a c.cells,.a f.row,.a rr]) (args2:=[c.av,f.av,t.av]) hp rfl (cv_3 (Ci.tr' c _ _) (Fo.tr f _ _) tcv) (ans7 hc hf tok) ⟨rfl,keep0 _⟩
structure Gd (c:Ci) (d:Int) (f:Fo):Prop where
 ok:f.ok
 may:f.mayB d=true
 lits:f.litsB c.gr=true
theorem ResV.gd{c:Ci}{f:Fo}(h:ResV c.gr.vars f)(hc:MadeC c):Gd c 7 f:=⟨h.ok,h.may,h.litsC hc⟩
theorem law3{l m ls:List Int}(hl:∀ x∈l,0≤x∧x<65536)(hm:∀ x∈m,0≤x∧x<256)(hls:∀ x∈ls,0≤x∧x<256)(hlsz:ls.length≤9223372036854775807){how:Int}(hh:0≤how∧how<256){n:Int}(hn:i64R n):AnsAt Pg 3 [aL aW16 l,aL aU8 m,aL aU8 ls,aU8 how,aI n] S0 (aB true):=by
 refine ACalls.ans_v (calls3 ?_)
 unfold m3
 refine .inl ((of4 hl hm).mono ?_)
 rintro e S' ⟨tr,rfl,rfl,c,f,rfl,hc,hcv,hf⟩
 show extr _ _ _ _
 rw[extr0,extr1]
 refine boxA_of rfl fun S2 k2 n2 o2=>?_
 refine boxA_of rfl fun S3 k3 n3 o3=>?_
 refine stA_of (cs':=c.cells) ((k3.2 _ (by omega)).trans o2) rfl rfl fun S4 n4 o4 f4=>?_
 refine stA_of (cs':=f.row) ((f4 _ (by omega)).trans o3) (Fo.row_len f) rfl fun S5 n5 o5 f5=>?_
 have p5:=(f5 _ (by omega)).trans o4
 have hcs:Cs c:=⟨hc.ok,hc.right,by
  obtain⟨g1,g2,g3⟩:=gr_inp hc.right
  have:=hc.inp
  have:=hc.lats
  omega⟩
 have hg:Gw c ls:=⟨hc,hcs,hls,hlsz⟩
 have gf:=hf.gd hc
 have hm60:f.mayB 60=true:=mayB_mono f (by decide) gf.may
 rw[ldN_p (n:=8) p5 rfl,ldN_p (n:=4) o5 (Fo.row_len f)]
 refine grown5 hg hf.ok hm60 fun r S6 l6 w6 k6=>?_
 have le6:=w6.1
 refine boxA_of rfl fun S7 k7 n7 o7=>?_
 refine stA_of (cs':=r) o7 l6.len rfl fun T nT oT fT=>?_
 have nwT:Nw S0 T:=(((Nw.box k2 n2 o2 rfl).trans (Nw.box k3 n3 o3 rfl)).trans ((Nw.st n4 o4 rfl f4).trans (Nw.st n5 o5 rfl f5))).trans (w6.trans ((Nw.box k7 n7 o7 rfl).trans (Nw.st nT oT rfl fT)))
 have tn:T.n=S6.n+1:=by omega
 have q0T:=(fT _ (by omega)).trans ((k7.2 _ (by omega)).trans ((k6.2 _ (by omega)).trans p5))
 have q1T:=(fT _ (by omega)).trans ((k7.2 _ (by omega)).trans ((k6.2 _ (by omega)).trans o5))
 have lT:Lv T S5.n S6.n r:=l6.frame fun x a b=>(fT x (by omega)).trans (k7.2 x b)
 obtain⟨t,tok,tcv⟩:=lT.w.av T.n
 have hpl:T.plain:=nwT.plain
 have csz:∀{Q:AEnd→Store→Prop} {K:AV→Store→Prop},K (aI (t.sizeF 3000)) T→callF Pg 6 [.a r,.v (.int .i64 3000)] T Q K:=fun k=>callF_lend (args:=[.a r,.v (.int .i64 3000)]) (args2:=[t.av,aI 3000]) hpl rfl (cv_2 tcv (.v _)) (ans6 t (ok_gotT tok) (m:=3000) (by decide) ⟨by decide,by decide⟩) k
 rw[ldN_p (n:=5) oT lT.len]
 refine csz ?_
 rw[bin_lss,onB_v]
 refine gd_of (fun hneg=>?_) (fun hpos=>?_)
 ·rw[ldN_p (n:=5) oT lT.len]
  refine csz ?_
  rw[bin_lss,onB_v,gd_T hneg]
  exact callF_ans ans8 ⟨rfl,keep0 _⟩
 rw[ldN_p (n:=8) q0T rfl,ldN_p (n:=4) q1T (Fo.row_len f),ldN_p (n:=5) oT lT.len]
 refine callF_lend (args:=[.a c.cells,.a f.row,.a r]) (args2:=[c.av,f.av,t.av]) hpl rfl (cv_3 (Ci.tr' c _ _) (Fo.tr f _ _) tcv) (ans7 hc.ok hf.ok tok) ?_
 rw[un_not,onB_v,gd_nT (b:=true) rfl]
 refine loop3_0 (fun p y S=>S=T∧∃ i:Nat,y=aI i∧i≤16∧Pl T S5.n S6.n r p) (fun _ y _=>(16 - (intA y).getD 0).toNat) ⟨rfl,0,rfl,by omega,.inl rfl⟩ ?_
 rintro p y T' ⟨rfl,i,rfl,hi,hp⟩ KE hKE
 obtain⟨id,j,a,b,rs,row,rfl,pn⟩:=hp.pn oT lT tn
 obtain⟨ho,hr,lv,loa,bid,idn,back⟩:=pn
 have lab:=lv.le
 obtain⟨kd,s,bb,xs,xk,ss,es,rfl,oX,oX2,ss1,ss2,oK,oK2,es1,es2,modX,modK⟩:=lv.open (show b≤T'.n by omega)
 have fin:∀{U:Store},Nw T' U→U.obj S0.n=T'.obj S0.n→U.obj S2.n=T'.obj S2.n→(∃ rr,U.obj S6.n=some (.cells 37 [rr] true)∧Lw U rr)→_:=fun{U} w h0 h1 h2=>tg_fin hc.ok hf.ok (nwT.trans w).plain (h0.trans q0T) (h1.trans q1T) h2
 have oKl:∀{U:Store} {K:AV→Store→Prop},lenS xk U K=K (aI es.length) U:=by
  intro U K
  rcases oK with⟨h,h2⟩|⟨q,h,_⟩
  ·rw[h,h2];rfl
  ·rw[h];rfl
 have eA:absC (.agg #[.int .i64 0,.int .i64 0,.int .i64 0,.slice none 0 0,.slice none 0 0]) = .a zeroT:=by kernel_rfl
 have hrl:([aI kd,aI s,aI bb,xs,xk]:List AV).length=5:=rfl
 unfold b3_0
 have hq:=Int.tdiv_nonneg hh.1 (show(0:Int)≤16 by decide)
 have hq2:how.tdiv 16≤15:=by rw[Int.tdiv_eq_ediv_of_nonneg hh.1];omega
 rw[convI_64 _ (by omega) (by omega),bin_quo (by decide) (by omega) (by omega),bin_lss,onB_v]
 refine gd_of (fun hlt=>?_) (fun _=>?_)
 have hlt:=dT hlt
 rw[nilChk_p,shift_p,ld1_p ho hr rfl,oK.len,bin_gtr,onB_v]
 refine gd_of (fun hpos=>?_) (fun _=>?_)
 ·have hpos:=dT hpos
  obtain⟨kid,rfl,kid1,kid2,kid3⟩:=oK.ix (i:=0) (by omega)
  show ∃ q:AV,_
  have hmod:((i:Int).tmod es.length)=((i % es.length:Nat):Int):=by rw[Int.tmod_eq_emod_of_nonneg (by omega)];exact(Int.natCast_emod _ _).symm
  have hml:i % es.length<es.length:=Nat.mod_lt _ (by omega)
  refine⟨_,by rw[nilChk_p];exact⟨rfl,rfl⟩,?_⟩
  refine⟨_,by rw[shift_p];exact⟨rfl,rfl⟩,?_⟩
  refine⟨_,by rw[ld1_p ho hr rfl];exact⟨rfl,rfl⟩,?_⟩
  refine⟨_,by rw[nilChk_p];exact⟨rfl,rfl⟩,?_⟩
  refine⟨_,by rw[shift_p];exact⟨rfl,rfl⟩,?_⟩
  refine⟨_,by rw[ld1_p ho hr rfl];exact⟨rfl,rfl⟩,?_⟩
  refine⟨_,by rw[lenS_s];exact⟨rfl,rfl⟩,?_⟩
  refine⟨_,by rw[bin_rem (by omega),hmod];exact⟨rfl,rfl⟩,?_⟩
  refine⟨_,by rw[ixS_s hml kid3,Nat.zero_add];exact⟨rfl,rfl⟩,?_⟩
  rw[bin_add (by omega) (by omega)]
  exact hKE _ _ _ ⟨rfl,i+1,rfl,by omega,hp.step oT lT ho hr hml⟩ (by simp[intA];omega)
 all_goals
  have hmod6:=Int.emod_lt_of_pos how (show(0:Int)<6 by decide)
  rw[bin_rem (by decide)]
  rw[bin_eql,onB_v]
  refine gd_of (fun _=>?_) (fun _=>?_)
  ·have e1:0≤how.tdiv 6:=Int.tdiv_nonneg hh.1 (by decide)
   have e2:how.tdiv 6≤43:=by rw[Int.tdiv_eq_ediv_of_nonneg hh.1];omega
   have e3:0≤(how.tdiv 6).tmod 8:=Int.tmod_nonneg _ e1
   have e4:(how.tdiv 6).tmod 8<8:=Int.tmod_lt_of_pos _ (by decide)
   rw[convI_64 _ (by omega) (by omega),bin_quo (by decide) (by omega) (by omega),bin_rem (by decide),bin_add (by omega) (by omega),nilChk_p,shift_p]
   refine stG_of ho hr (by rw[hrl];decide) rfl fun T1 n1 o1 f1=>?_
   exact fin (Nw.st n1 o1 rfl f1) (f1 _ (by omega)) (f1 _ (by omega)) (back ((lv.frame fun x p q=>f1 x (by omega)).w.set (by decide) ⟨by omega,by omega⟩) o1 fun x _ _ hne _=>f1 x hne)
  rw[bin_eql,onB_v]
  refine gd_of (fun _=>?_) (fun _=>?_)
  ·rw[nilChk_p,shift_p]
   refine stG_of ho hr (by rw[hrl];decide) rfl fun T1 n1 o1 f1=>?_
   exact fin (Nw.st n1 o1 rfl f1) (f1 _ (by omega)) (f1 _ (by omega)) (back ((lv.frame fun x p q=>f1 x (by omega)).w.set (by decide) hn) o1 fun x _ _ hne _=>f1 x hne)
  rw[bin_eql,onB_v]
  refine gd_of (fun _=>?_) (fun _=>?_)
  ·rw[nilChk_p,shift_p]
   refine stG_of ho hr (by rw[hrl];decide) rfl fun T1 n1 o1 f1=>?_
   exact fin (Nw.st n1 o1 rfl f1) (f1 _ (by omega)) (f1 _ (by omega)) (back ((lv.frame fun x p q=>f1 x (by omega)).w.set (by decide) hn) o1 fun x _ _ hne _=>f1 x hne)
  rw[bin_eql,onB_v]
  refine gd_of (fun _=>?_) (fun _=>?_)
  ·rw[nilChk_p,shift_p,ld1_p ho hr rfl]
   refine bsl1 rfl (fun _ h=>by cases h) ?_
   refine Own.appX oX (ys:=[[aI n]]) (by omega) (by simp) (by simp) (by simp;omega) (fun z T1 ow1 b1 hz n1 nw1=>?_) rfl
   have hz2:z = .s T'.n 0 (ss ++ [n]).length:=by rw[hz];simp
   have z1:T1.obj T'.n=some (.cells 3 (intsR (ss ++ [n])) true):=by
    rcases ow1 with⟨e,_⟩|⟨q,e1,e2,e3,e4⟩
    ·rw[hz]at e;cases e
    ·rw[hz]at e1;cases e1;rw[e4];simp[intsR]
   have old:∀ x,x<T'.n→(∀ o m,xs≠.s x o m)→T1.obj x=T'.obj x:=b1.2
   rw[nilChk_p,shift_p]
   have id1:=(old id (by omega) (fun o m e=>by have:=oX2 _ _ _ e;omega)).trans ho
   refine stG_of id1 hr (by rw[hrl];decide) (by rw[hz];rfl) fun T2 n2' o2' f2=>?_
   have old2:∀ x,x<T'.n→x≠id→(∀ o m,xs≠.s x o m)→T2.obj x=T'.obj x:=fun x hx hne h=>(f2 x hne).trans (old x hx h)
   have low:∀ x,x<S5.n→T2.obj x=T'.obj x:=fun x hx=>old2 x (by omega) (by omega) (fun o m e=>by have:=oX.lt e;omega)
   refine fin (nw1.trans (Nw.st n2' o2' rfl f2)) (low _ (by omega)) (low _ (by omega)) (back ?_ o2' fun x _ hx hne hab=>old2 x hx hne (fun o m e=>hab ⟨(oX.lt e).1,oX2 _ _ _ e⟩))
   refine modX T2 z (.inr ⟨T'.n,ss ++ [n],hz2,(f2 _ (by omega)).trans z1,by simp;omega,fun x hx=>?_⟩) fun y p q h=>old2 y (by omega) (by omega) h
   rcases List.mem_append.1 hx with hx|hx
   ·exact ss2 x hx
   ·rw[List.mem_singleton.1 hx];exact hn
  rw[bin_eql,onB_v]
  refine gd_of (fun _=>?_) (fun _=>?_)
  ·have hoU:∀{U:Store},Keep T' U→U.obj id=some (.cells 37 rs true):=fun hU=>(hU.2 id (by omega)).trans ho
   refine⟨_,fun U hU=>by rw[nilChk_p];exact⟨rfl,rfl⟩,?_⟩
   refine⟨_,fun U hU=>by rw[shift_p];exact⟨rfl,rfl⟩,?_⟩
   refine⟨_,fun U hU=>by rw[ld1_p (hoU hU) hr rfl];exact⟨rfl,rfl⟩,?_⟩
   refine⟨_,fun U hU=>by rw[bld_of (cs:=[aI 1,aI n,aI 0,.nl,.nl]) rfl];exact⟨rfl,rfl⟩,?_⟩
   refine⟨_,fun U hU=>by rw[oKl];exact⟨rfl,rfl⟩,?_⟩
   refine⟨.l [zeroT],fun U hU=>?_,?_⟩
   ·rw[eA];exact bslT1 rfl ⟨rfl,rfl⟩
   refine Own.appX oK (ys:=[zeroT]) (by omega) (by simp) (by simp) (by simp;omega) (fun z T1 ow1 b1 hz n1 nw1=>?_) rfl
   have hz2:z = .s T'.n 0 (es.length+1):=by rw[hz];simp
   have z1:T1.obj T'.n=some (.cells 37 (es ++ [zeroT]) true):=by
    rcases ow1 with⟨e,_⟩|⟨q,e1,e2,e3,e4⟩
    ·rw[hz]at e;cases e
    ·rw[hz]at e1;cases e1;exact e4
   subst hz2
   have old:∀ x,x<T'.n→(∀ o m,xk≠.s x o m)→T1.obj x=T'.obj x:=b1.2
   have id1:=(old id (by omega) (fun o m e=>by have:=oK2 _ _ _ e;omega)).trans ho
   have zg:(es ++ [zeroT])[es.length]? = some zeroT:=by simp
   have zs:(es ++ [zeroT]).set es.length [aI 1,aI n,aI 0,.nl,.nl]=es ++ [[aI 1,aI n,aI 0,.nl,.nl]]:=by rw[List.set_append_right _ _ (Nat.le_refl _)];simp
   have ixU:∀{U:Store} {es':List (List AV)} {K:AV→Store→Prop},U.obj T'.n=some (.cells 37 es' true)→ixS 37 5 (.s T'.n 0 (es.length+1)) (aI es.length) U K=K (.p T'.n es.length 0) U:=fun h=>by rw[ixS_s (Nat.lt_succ_self _) h,Nat.zero_add]
   refine⟨_,fun U hU=>by rw[ixU ((hU.2 _ (by omega)).trans z1)];exact⟨rfl,rfl⟩,?_⟩
   refine⟨_,fun U hU=>by rw[nilChk_p];exact⟨rfl,rfl⟩,?_⟩
   refine⟨_,fun U hU=>by rw[shift_p];exact⟨rfl,rfl⟩,?_⟩
   have done:∀(T3:Store),T3.n=T1.n→Nw T1 T3→T3.obj T'.n=some (.cells 37 (es ++ [[aI 1,aI n,aI 0,.nl,.nl]]) true)→T3.obj id=some (.cells 37 (rs.set j [aI kd,aI s,aI bb,xs,.s T'.n 0 (es.length+1)]) true)→(∀ x,x≠id→x≠T'.n→T3.obj x=T1.obj x)→Nw T' T3∧T3.obj S0.n=T'.obj S0.n∧T3.obj S2.n=T'.obj S2.n∧∃ rr,T3.obj S6.n=some (.cells 37 [rr] true)∧Lw T3 rr:=fun T3 e1 e2 e3 e4 e5=>by
    have old2:∀ x,x<T'.n→x≠id→(∀ o m,xk≠.s x o m)→T3.obj x=T'.obj x:=fun x hx hne h=>(e5 x hne (by omega)).trans (old x hx h)
    have low:∀ x,x<S5.n→T3.obj x=T'.obj x:=fun x hx=>old2 x (by omega) (by omega) (fun o m e=>by have:=oK.lt e;omega)
    refine⟨nw1.trans e2,low _ (by omega),low _ (by omega),back ?_ e4 fun x _ hx hne hab=>old2 x hx hne (fun o m e=>hab ⟨(oK.lt e).1,oK2 _ _ _ e⟩)⟩
    refine modK T3 T'.n (es.length+1) _ e3 (by simp) (by simp;omega) (fun i hi=>?_) fun y p q h=>old2 y (by omega) (by omega) h
    by_cases h:i<es.length
    ·exact .inl ⟨h,List.getElem_append_left h⟩
    ·refine .inr ?_
     have:i=es.length:=by simp at hi;omega
     subst this
     simp only[List.getElem_concat_length]
     exact .leaf _ _ _ _ ⟨by decide,by decide⟩ hn ⟨by decide,by decide⟩ (.inl rfl)
   refine⟨?_,?_⟩
   ·refine stE_of (cs':=[aI 1,aI n,aI 0,.nl,.nl]) (us:=[aI 1,aI n,aI 0,.nl,.nl]) z1 zg rfl rfl (Nat.le_refl 5) rfl fun T2 n2' o2' f2=>?_
    rw[zs]at o2'
    refine⟨fun U hU=>by rw[shift_p];exact⟨rfl,rfl⟩,fun U hU=>by rw[nilChk_p];exact⟨rfl,rfl⟩,?_⟩
    refine stG_of ((f2 id (by omega)).trans id1) hr (by rw[hrl];decide) rfl fun T3 n3' o3' f3=>?_
    have z3:=(f3 T'.n (by omega)).trans o2'
    refine⟨fun U hU=>by rw[ixU ((hU.2 _ (by omega)).trans z3)];exact⟨rfl,rfl⟩,?_⟩
    obtain⟨d1,d2,d3,d4⟩:=done T3 (by omega) ((Nw.st n2' o2' rfl f2).trans (Nw.st n3' o3' rfl f3)) z3 o3' fun x h1 h2=>(f3 x h1).trans (f2 x h2)
    exact fin d1 d2 d3 d4
   ·refine stG_of id1 hr (by rw[hrl];decide) rfl fun T2 n2' o2' f2=>?_
    have z2:=(f2 T'.n (by omega)).trans z1
    refine⟨fun U hU=>by rw[ixU ((hU.2 _ (by omega)).trans z2)];exact⟨rfl,rfl⟩,?_⟩
    refine stE_of (cs':=[aI 1,aI n,aI 0,.nl,.nl]) (us:=[aI 1,aI n,aI 0,.nl,.nl]) z2 zg rfl rfl (Nat.le_refl 5) rfl fun T3 n3' o3' f3=>?_
    rw[zs]at o3'
    refine⟨fun U hU=>by rw[shift_p];exact⟨rfl,rfl⟩,fun U hU=>by rw[nilChk_p];exact⟨rfl,rfl⟩,?_⟩
    obtain⟨d1,d2,d3,d4⟩:=done T3 (by omega) ((Nw.st n2' o2' rfl f2).trans (Nw.st n3' o3' rfl f3)) o3' ((f3 id (by omega)).trans o2') fun x h1 h2=>(f3 x h2).trans (f2 x h1)
    exact fin d1 d2 d3 d4
  rw[nilChk_p,shift_p,ld1_p ho hr rfl,oK.len,bin_gtr,onB_v]
  refine gd_of (fun hpos=>?_) (fun _=>?_)
  ·have hpos:=dT hpos
   obtain⟨kid,rfl,kid1,kid2,kid3⟩:=oK.ix (i:=0) (by omega)
   have hoU:∀{U:Store},Keep T' U→U.obj id=some (.cells 37 rs true):=fun hU=>(hU.2 id (by omega)).trans ho
   refine⟨_,fun U hU=>by rw[nilChk_p];exact⟨rfl,rfl⟩,?_⟩
   refine⟨_,fun U hU=>by rw[shift_p];exact⟨rfl,rfl⟩,?_⟩
   refine⟨_,fun U hU=>by rw[ld1_p (hoU hU) hr rfl];exact⟨rfl,rfl⟩,?_⟩
   refine⟨_,fun U hU=>by rw[nilChk_p];exact⟨rfl,rfl⟩,?_⟩
   refine⟨_,fun U hU=>by rw[shift_p];exact⟨rfl,rfl⟩,?_⟩
   refine⟨_,fun U hU=>by rw[ld1_p (hoU hU) hr rfl];exact⟨rfl,rfl⟩,?_⟩
   refine⟨_,fun U hU=>by rw[lenS_s];exact⟨rfl,rfl⟩,?_⟩
   refine⟨_,fun U hU=>by rw[bin_sub (by omega) (by omega)];exact⟨rfl,rfl⟩,?_⟩
   refine⟨.s kid 0 (es.length - 1),fun U hU=>?_,?_⟩
   ·have e1:((es.length:Int) - 1).toNat=es.length - 1:=by omega
    have e2:(0:Int)≤(es.length:Int) - 1:=by omega
    simp[slc,bnd,intA,optP,e1,e2]
    omega
   refine⟨_,fun U hU=>by rw[nilChk_p];exact⟨rfl,rfl⟩,?_⟩
   refine⟨_,fun U hU=>by rw[shift_p];exact⟨rfl,rfl⟩,?_⟩
   refine stG_of ho hr (by rw[hrl];decide) rfl fun T1 n1 o1 f1=>?_
   exact fin (Nw.st n1 o1 rfl f1) (f1 _ (by omega)) (f1 _ (by omega)) (back (modK T1 kid (es.length - 1) es ((f1 kid (by have:=oK2 _ _ _ rfl;omega)).trans kid3) (by omega) (by omega) (fun i hi=>.inl ⟨hi,rfl⟩) fun y p q _=>f1 y (by omega)) o1 fun x _ _ hne _=>f1 x hne)
  ·exact fin (Nw.refl T') rfl rfl ⟨r,oT,lT.w⟩
end
end Go.Proofs.YtfhekpnddoihkaaGreat.G

/- Binary -/
import Derived.Test.YtodfhmmjemlmeaaGreatDoorProg
import Derived.KernelRfl
import Derived.Test.YtodfhmmjemlmeaaGreatDoorBqT5
set_option linter.unusedVariables false
set_option linter.unusedSimpArgs false
namespace Go.Proofs.YtodfhmmjemlmeaaGreatDoor.G
open Go Go.Ab
noncomputable section
theorem binP_same'{k:IntKind}{a b:Int}{S:Store}{K:AV→Store→Prop}:binP k .neq (.a [.v (.int k a),.v (.int k b)]) (.a [.v (.int k a),.v (.int k b)]) S K=K (.v (.bool false)) S:=by
 simp[binP,keyA]
theorem ans60{g:Gr}(hg:g.ok):Ans Pg 60 [g.av,g.av] (aB true):=by
 intro S
 refine ACalls.ans_v (calls60 ?_)
 unfold m60
 have hlen:=hg.len
 refine boxA_of rfl fun S1 k1 n1 o1=>?_
 refine boxA_of rfl fun S2 k2 n2 o2=>?_
 have p2:=(k2.2 _ (by omega)).trans o1
 have kk:=k1.trans k2
 rw[shift_p,ld1_p (u:=aI g.inputs) p2 rfl rfl,shift_p,ld1_p (u:=aI g.inputs) o2 rfl rfl,bin_neq,decide_eq_true rfl,onB_v,gd_nT (b:=true) rfl]
 rw[shift_p,ld1_p (u:=pL g.ands) p2 rfl rfl,lenS_pL,shift_p,ld1_p (u:=pL g.ands) o2 rfl rfl,lenS_pL,bin_neq,decide_eq_true rfl,onB_v,gd_nT (b:=true) rfl]
 refine loop60_0 (fun y T=>T=S2∧∃ i:Nat,y=aI i∧i≤g.ands.length) (fun y _=>g.ands.length - ((intA y).getD 0).toNat) ⟨rfl,0,rfl,Nat.zero_le _⟩ ?_
 rintro _ T ⟨rfl,i,rfl,hi⟩ KE hKE
 unfold b60_0
 rw[shift_p,ld1_p (u:=pL g.ands) p2 rfl rfl,lenS_pL,bin_lss,onB_v]
 refine gd_of (fun hlt=>?_) (fun _=>⟨rfl,kk⟩)
 have hlt:i<g.ands.length:=by have:=dT hlt;omega
 refine W J_shift (W (J_ldp (u:=pL g.ands) p2 rfl rfl) (W (J_ixp hlt) ⟨_,W ldN_q2 ⟨rfl,rfl⟩,W J_shift (W (J_ldp (u:=pL g.ands) o2 rfl rfl) (W (J_ixp hlt) ⟨_,W ldN_q2 ⟨rfl,rfl⟩,_,W binP_same' ⟨rfl,rfl⟩,?_⟩))⟩))
 rw[onB_v,gd_false]
 rw[bin_add (by omega) (by omega)]
 exact hKE _ _ ⟨rfl,i+1,rfl,hlt⟩ (by simp[intA];omega)
theorem eqS_pp{a b:Int}{S:Store}{K:AV→Store→Prop}:eqS [1,1] .neq (.a [aI a,aI b]) (.a [aI a,aI b]) S K=K (.v (.bool false)) S:=by
 simp[eqS,eqA,eqV]
theorem eqS_na{x:Na}{S:Store}{K:AV→Store→Prop}:eqS [1,1,3] .neq (.a x.row) (.a x.row) S K=K (.v (.bool false)) S:=by
 have:(x.text == x.text)=true:=by
  show(x.text.data == x.text.data)=true
  simp
 simp[eqS,eqA,eqV,Na.row,this]
theorem ans62{l:List Int}(hl:l.length≤9223372036854775807):Ans Pg 62 [aL aI l,aL aI l] (aB true):=by
 intro S
 refine calls62 ?_
 unfold m62
 rw[lenS_aL,lenS_aL,bin_neq,onB_v,gd_nT (decide_eq_true rfl)]
 refine loop62_0 (fun y T=>T=S∧∃ i:Nat,y=aI i∧i≤l.length) (fun y _=>l.length - ((intA y).getD 0).toNat) ⟨rfl,0,rfl,Nat.zero_le _⟩ ?_
 rintro _ T ⟨rfl,i,rfl,hi⟩ KE hKE
 unfold b62_0
 rw[lenS_aL,bin_lss,onB_v]
 refine gd_of (fun hlt=>?_) (fun _=>⟨rfl,rfl⟩)
 have hlt:i<l.length:=by have:=dT hlt;omega
 refine W (J_ix hlt) ⟨_,by rw[ld1_q];exact⟨rfl,rfl⟩,W (J_ix hlt) ⟨_,by rw[ld1_q];exact⟨rfl,rfl⟩,W J_neqS ?_⟩⟩
 rw[onB_v,gd_false,bin_add (by omega) (by omega)]
 exact hKE _ _ ⟨rfl,i+1,rfl,hlt⟩ (by simp[intA];omega)
theorem J_ixn{l:List Na}{e i:Nat}{S0:Store}{P:AV→Prop}(h:i<l.length):(∃ q,(ixS e 3 (nL l) (aI i) S0 fun v S=>v=q∧S=S0)∧P q)=P (.q l[i].row 0):=J_by (op:=fun K=>ixS e 3 (nL l) (aI i) S0 K) fun K=>ixS_nL h
theorem J_lennL{l:List Na}{S0:Store}{P:AV→Prop}:(∃ q,(lenS (nL l) S0 fun v S=>v=q∧S=S0)∧P q)=P (aI l.length):=J_by (op:=fun K=>lenS (nL l) S0 K) fun K=>lenS_nL _
theorem ans25{c:Ci}(hc:c.ok):Ans Pg 25 [c.av,c.av] (aB true):=by
 intro S
 refine ACalls.ans_v (calls25 ?_)
 unfold m25
 have hll:=hc.llen
 have hnl:=hc.nlen
 refine boxA_of rfl fun S1 k1 n1 o1=>?_
 refine boxA_of rfl fun S2 k2 n2 o2=>?_
 have p2:=(k2.2 _ (by omega)).trans o1
 have kk:=k1.trans k2
 refine W (J_ldN (n:=8) p2 rfl) (J_callA (ans61 c) (W (J_ldN (n:=8) o2 rfl) (J_callA (ans61 c) (J_callA (ans60 hc.gr) (W J_notB ?_)))))
 rw[onB_v,gd_nT rfl]
 refine W J_shift (W (J_ldp (u:=aI c.inputs) p2 rfl rfl) (W J_shift (W (J_ldp (u:=aI c.inputs) o2 rfl rfl) (W J_neqS (W J_mvS ?_)))))
 rw[onB_v,gd_false]
 refine W J_shift (W (J_ldp (u:=pL c.latches) p2 rfl rfl) (W J_lenpL' (W J_shift (W (J_ldp (u:=pL c.latches) o2 rfl rfl) (W J_lenpL' (W J_neqS (W J_mvS ?_)))))))
 rw[onB_v,gd_false]
 refine W J_shift (W (J_ldp (u:=nL c.names) p2 rfl rfl) (W J_lennL (W J_shift (W (J_ldp (u:=nL c.names) o2 rfl rfl) (W J_lennL (W J_neqS (W J_mvS ?_)))))))
 rw[onB_v,gd_false]
 refine loop25_0 (fun y T=>S2=T∧∃ i:Nat,y=aI i∧i≤c.latches.length) (fun y _=>c.latches.length - ((intA y).getD 0).toNat) ⟨rfl,0,rfl,Nat.zero_le _⟩ ?_
 rintro _ T ⟨rfl,i,rfl,hi⟩ KE hKE
 unfold b25_0
 rw[shift_p,ld1_p (u:=pL c.latches) p2 rfl rfl,lenS_pL,bin_lss,onB_v]
 refine gd_of (fun hlt=>?_) (fun _=>?_)
 ·have hlt:i<c.latches.length:=by have:=dT hlt;omega
  refine W J_shift (W (J_ldp (u:=pL c.latches) p2 rfl rfl) (W (J_ixp hlt) ⟨_,W ldN_q2 ⟨rfl,rfl⟩,W J_shift (W (J_ldp (u:=pL c.latches) o2 rfl rfl) (W (J_ixp hlt) ⟨_,W ldN_q2 ⟨rfl,rfl⟩,_,W eqS_pp ⟨rfl,rfl⟩,?_⟩))⟩))
  rw[onB_v,gd_false,bin_add (by omega) (by omega)]
  exact hKE _ _ ⟨rfl,i+1,rfl,hlt⟩ (by simp[intA];omega)
 refine loop25_1 (fun y T=>S2=T∧∃ i:Nat,y=aI i∧i≤c.names.length) (fun y _=>c.names.length - ((intA y).getD 0).toNat) ⟨rfl,0,rfl,Nat.zero_le _⟩ ?_
 rintro _ T ⟨rfl,i,rfl,hi⟩ KE hKE
 unfold b25_1
 rw[shift_p,ld1_p (u:=nL c.names) p2 rfl rfl,lenS_nL,bin_lss,onB_v]
 refine gd_of (fun hlt=>?_) (fun _=>?_)
 ·have hlt:i<c.names.length:=by have:=dT hlt;omega
  refine W J_shift (W (J_ldp (u:=nL c.names) p2 rfl rfl) (W (J_ixn hlt) ⟨_,W ldN_q3 ⟨rfl,rfl⟩,W J_shift (W (J_ldp (u:=nL c.names) o2 rfl rfl) (W (J_ixn hlt) ⟨_,W ldN_q3 ⟨rfl,rfl⟩,_,W (eqS_na (x:=c.names[i])) ⟨rfl,rfl⟩,?_⟩))⟩))
  rw[onB_v,gd_false,bin_add (by omega) (by omega)]
  exact hKE _ _ ⟨rfl,i+1,rfl,hlt⟩ (by simp[intA];omega)
 rw[shift_p,ld1_p (u:=aL aI c.outs) p2 rfl rfl,shift_p,ld1_p (u:=aL aI c.outs) o2 rfl rfl]
 refine callF_ans (ans62 hc.outs.2) ?_
 rw[onB_v,gd_true,shift_p,ld1_p (u:=aL aI c.bads) p2 rfl rfl,shift_p,ld1_p (u:=aL aI c.bads) o2 rfl rfl]
 refine callF_ans (ans62 hc.bads.2) ?_
 rw[onB_v,gd_true,shift_p,ld1_p (u:=aL aI c.cons) p2 rfl rfl,shift_p,ld1_p (u:=aL aI c.cons) o2 rfl rfl]
 refine callF_ans (ans62 hc.cons.2) ?_
 rw[onB_v,gd_true,shift_p,ld1_p (u:=aL aI c.fair) p2 rfl rfl,shift_p,ld1_p (u:=aL aI c.fair) o2 rfl rfl]
 refine callF_ans (ans62 hc.fair.2) ?_
 exact⟨rfl,kk⟩
theorem e0C{p:Ci × Int}{S:Store}{K:AV→Store→Prop}:extr (retC p) 0 S K=K p.1.av S:=ext_t rfl
theorem e1C{p:Ci × Int}{S:Store}{K:AV→Store→Prop}:extr (retC p) 1 S K=K (aI p.2) S:=ext_t rfl
theorem cE_ok:cE.ok:=ok_of_small ⟨by decide,by decide⟩ (by decide) (fun _ h=>by cases h) (fun _ h=>by cases h) (fun _ h=>by cases h) (fun _ h=>by cases h) (fun _ h=>by cases h) (fun _ h=>by cases h) (fun _ h=>by cases h)
instance (priority:=2000) jnEqII {S0:Store} {P:AV→Prop} {k:IntKind} {a:Int} {kd:Nat}:Jn (∃ q,(bin .eql kd (.v (.int k a)) (.v (.int k a)) S0 fun v S=>v=q∧S=S0)∧P q) (P (.v (.bool true))):=⟨by
 have:=J_eql (k:=k) (a:=a) (b:=a) (kd:=kd) (S0:=S0) (P:=P)
 rw[decide_eq_true rfl]at this
 exact this⟩
theorem made_items{c:Ci}(h:MadeC c):c.items≤21:=by
 obtain⟨b1,b2,t,hn⟩:=h.names
 have hl:c.names.length≤2:=by
  rw[hn.1]
  cases b1<;>cases b2<;>simp
 have:=h.inp
 have:=h.lats
 have:=h.ands
 have:=h.outs
 have:=h.bads
 have:=h.cons
 have:=h.fair
 unfold Ci.items
 omega
theorem u8_byte{x:Int}(h:0≤x∧x<256):x=(((UInt8.ofNat x.toNat).toNat:Nat):Int):=by rw[UInt8.toNat_ofNat'];omega
theorem parseB_ok(s:Bs):(parseB s).1.ok:=by
 unfold parseB
 split
 ·exact cE_ok
 ·rename_i h
  cases ho:oB s with
  |error e=>exact cE_ok
  |ok c =>
   unfold outP
   simp only
   split
   ·exact oB_ok (by omega) c ho
   ·exact cE_ok
theorem ans28(s:Bs):Ans Pg 28 [aT s] (aB true):=by
 intro S
 refine ACalls.ans_v (calls28 ?_)
 unfold m28
 refine callF_ans (ans31 s) ?_
 rw[e0C,e1C]
 refine boxA_of rfl fun S1 k1 n1 o1=>?_
 refine stA_of (cs':=(parseB s).1.cells) o1 rfl rfl fun S2 n2 o2 f2=>?_
 have k2:=k1.st (Nat.le_refl _) n2 f2
 refine callF_ans (ans63 s) ?_
 rw[e0C,e1C]
 refine boxA_of rfl fun S3 k3 n3 o3=>?_
 refine stA_of (cs':=(parseB s).1.cells) o3 rfl rfl fun S4 n4 o4 f4=>?_
 have k4:=k3.st (Nat.le_refl _) n4 f4
 rw[ldN_p (n:=8) ((k4.2 _ (by omega)).trans o2) rfl,ldN_p (n:=8) o4 rfl]
 refine callF_ans (ans25 (parseB_ok s)) ?_
 rw[onB_v,gd_true,bin_eql,decide_eq_true rfl]
 exact⟨rfl,k2.trans k4⟩
theorem sameB{s:Bs}{S:Store}{Q:AEnd→Store→Prop}{K:AV→Store→Prop}(k:K (aB true) S):callF Pg 28 [aT s] S Q K:=callF_ans (ans28 s) k
def c1B:Ci:=⟨2,[],[(4,2)],[],[],[],[],[]⟩
def s1B:Bs:=[97,105,103,32,51,32,50,32,48,32,48,32,49,10,2,2]
def s2B:Bs:=[97,105,103,32,51,32,50,32,48,32,48,32,49,10,2]
def s3B:Bs:=[97,97,103,32,51,32,50,32,48,32,48,32,49,10,2,2]
def s4B:Bs:=[97,105,103,32,51,32,50,32,48,32,48,32,49,10,7,2]
def t1B:Bs:=[97,105,103,32,51,32,50,32,48,32,48,32,49,32,48,32,48,32,48,32,48,10,2,2]
theorem oB1:oB s1B = .ok c1B:=by kernel_rfl
theorem oB2:oB s2B = .error 21:=by kernel_rfl
theorem oB3:oB s3B = .error 20:=by kernel_rfl
theorem oB4:oB s4B = .ok ⟨2,[],[(-1,-3)],[],[],[],[],[]⟩:=by kernel_rfl
theorem rB1:c1B.right=true:=right_c.2 ⟨by decide,by decide,by decide,by decide,by decide,by decide,by decide,by decide,by decide,by decide,by decide,by decide,by
 simp only[namesB,decide_eq_true_eq]
 exact NamesR.zero c1B⟩
theorem pB1:parseB s1B=(c1B,0):=by
 unfold parseB
 rw[if_neg (by decide),oB1]
 show(if c1B.right=true then _ else _)=_
 rw[if_pos rB1]
theorem pB2:(parseB s2B).2=21:=by unfold parseB;rw[if_neg (by decide),oB2];rfl
theorem pB3:(parseB s3B).2=20:=by unfold parseB;rw[if_neg (by decide),oB3];rfl
theorem pB4:(parseB s4B).2=22:=by
 unfold parseB
 rw[if_neg (by decide),oB4]
 unfold outP
 simp only
 rw[if_neg]
 intro hr
 have:=(right_c.1 hr).2.2.2.2.2.2.1
 revert this
 decide +kernel
theorem tB1:c1B.binT=t1B:=by
 have d2:deltaT 2 = [2]:=by rw[deltaT];rfl
 have e:c1B.binT=c1B.headB [97,105,103]++(deltaT 2++deltaT 2):=by
  have e1:((2:Int)*(c1B.inputs+c1B.latches.length+1)+2*((0:Nat):Int) - 4).toNat=2:=by decide
  have e2:((4:Int) - 2).toNat=2:=by decide
  simp only[Ci.binT,c1B,latsBT,Ci.colsT,colT,andsBT,namesT,List.append_nil,List.nil_append]
  rfl
 rw[e,d2]
 decide +kernel
theorem okB1:c1B.ok:=by have:=parseB_ok s1B;rw[pB1]at this;exact this
theorem ans27:Ans Pg 27 [] (aB true):=by
 intro S
 refine ACalls.ans_v (calls27 ?_)
 unfold m27
 refine callF_ans (ans31 s1B) ?_
 rw[e0C,e1C,pB1]
 dsimp only
 refine boxA_of rfl fun S1 k1 n1 o1=>?_
 refine stA_of (cs':=c1B.cells) o1 rfl rfl fun S2 n2 o2 f2=>?_
 have k2:=k1.st (Nat.le_refl _) n2 f2
 rw[ldN_p (n:=8) o2 rfl]
 have hp:=ans29 okB1 (by decide)
 rw[if_pos rB1,tB1]at hp
 refine callF_ans hp ?_
 rw[extr0,extr1]
 refine callF_ans (ans31 s2B) ?_
 rw[e0C,e1C,pB2]
 refine boxA_of rfl fun S3 k3 n3 o3=>?_
 refine stA_of (cs':=(parseB s2B).1.cells) o3 rfl rfl fun S4 n4 o4 f4=>?_
 have k4:=k3.st (Nat.le_refl _) n4 f4
 refine callF_ans (ans31 s3B) ?_
 rw[e0C,e1C,pB3]
 refine boxA_of rfl fun S5 k5 n5 o5=>?_
 refine stA_of (cs':=(parseB s3B).1.cells) o5 rfl rfl fun S6 n6 o6 f6=>?_
 have k6:=k5.st (Nat.le_refl _) n6 f6
 refine callF_ans (ans31 s4B) ?_
 rw[e0C,e1C,pB4]
 refine boxA_of rfl fun S7 k7 n7 o7=>?_
 refine stA_of (cs':=(parseB s4B).1.cells) o7 rfl rfl fun S8 n8 o8 f8=>?_
 have k8:=k7.st (Nat.le_refl _) n8 f8
 have o8':S8.obj S.n=some (.cells 29 [c1B.cells] true):=(k8.2 _ (by omega)).trans ((k6.2 _ (by omega)).trans ((k4.2 _ (by omega)).trans o2))
 have kk:Keep S S8:=((k2.trans k4).trans k6).trans k8
 rw[bin_eql,onB_v,gd_T (decide_eq_true rfl),shift_p,ld1_p (u:=pL c1B.ands) o8' rfl rfl,lenS_pL,bin_eql,onB_v,gd_T (b:=decide (((c1B.ands.length:Nat):Int)=1)) (by decide),shift_p,ld1_p (u:=pL c1B.ands) o8' rfl rfl]
 refine W (ixS_pL (l:=c1B.ands) (i:=0) (by decide)) ?_
 refine W ldN_q2 ?_
 refine⟨[aI 4,aI 2],rfl,?_⟩
 refine W (binP_eq (a:=4) (b:=2) (c:=4) (d:=2)) ?_
 rw[onB_v,gd_T (decide_eq_true rfl),bin_eql,onB_v,gd_T (decide_eq_true rfl)]
 refine W (bin_eqlS ⟨t1B.toArray⟩ ⟨t1B.toArray⟩ 0) ?_
 rw[decide_eq_true rfl,onB_v,gd_true,bin_eql,onB_v,gd_T (decide_eq_true rfl),bin_eql,onB_v,gd_T (decide_eq_true rfl),bin_eql,decide_eq_true rfl]
 exact⟨rfl,kk⟩
theorem law11{s:ByteArray}:Ans Pg 11 [.v (.string s)] (aB true):=by
 intro S
 have hs:=ans28 s.data.toList
 rw[←aT_data]at hs
 refine calls11 ?_
 unfold m11
 refine callF_ans ans27 ?_
 rw[onB_v,gd_true,lenStr_b,bin_gtr,onB_v]
 refine gd_of (fun _=>?_) (fun _=>callF_ans hs ⟨rfl,rfl⟩)
 rw[lenStr_b,bin_leq,onB_v]
 exact gd_of (fun _=>⟨rfl,rfl⟩) (fun _=>callF_ans hs ⟨rfl,rfl⟩)
theorem two_B{c:Ci}(hc:c.ok):∃(b:Bs) (e:Int),Ans Pg 29 [c.av] (.t [aT b,aI e])∧Ans Pg 30 [c.av] (.t [aT b,aI e]):=by
 have h1:=ans29 hc hc.nlen
 have h2:=ans30 hc hc.nlen
 obtain⟨b,e,he⟩:∃(b:Bs) (e:Int),(if c.right=true then AV.t [aT c.binT,aI 0]else .t [aT [],aI 1]) = .t [aT b,aI e]:=by
  split
  ·exact⟨_,_,rfl⟩
  ·exact⟨_,_,rfl⟩
 rw[he]at h1 h2
 exact⟨b,e,h1,h2⟩
theorem law13{c:Ci}(hg:c.got):Ans Pg 13 [c.av] (aB true):=by
 intro S
 refine ACalls.ans_v (calls13 ?_)
 unfold m13
 refine boxA_of rfl fun S1 k1 n1 o1=>?_
 rw[shift_p,ld1_p (u:=pL c.ands) o1 rfl rfl,lenS_pL,bin_gtr,onB_v]
 refine gd_of (fun _=>callF_ans ans27 ⟨rfl,k1⟩) (fun h60a=>?_)
 rw[shift_p,ld1_p (u:=pL c.latches) o1 rfl rfl,lenS_pL,bin_gtr,onB_v]
 refine gd_of (fun _=>callF_ans ans27 ⟨rfl,k1⟩) (fun h60l=>?_)
 rw[shift_p,ld1_p (u:=nL c.names) o1 rfl rfl,lenS_nL,bin_gtr,onB_v]
 refine gd_of (fun _=>callF_ans ans27 ⟨rfl,k1⟩) (fun h60n=>?_)
 have hc:c.ok:=hg.ok (by have:=dF h60l;omega) (by have:=dF h60a;omega) (by have:=dF h60n;omega)
 rw[ldN_p (n:=8) o1 rfl]
 obtain⟨b,e,h1,h2⟩:=two_B hc
 refine callF_ans h1 ?_
 rw[extr0,extr1,ldN_p (n:=8) o1 rfl]
 refine callF_ans h2 ?_
 rw[extr0,extr1]
 refine callF_ans ans27 ?_
 rw[onB_v,gd_true]
 refine W (bin_eqlS ⟨b.toArray⟩ ⟨b.toArray⟩ 0) ?_
 rw[decide_eq_true rfl,onB_v,gd_true,bin_eql,decide_eq_true rfl]
 exact⟨rfl,k1⟩
theorem law12{l:List Int}(hl:∀ x∈l,0≤x∧x<65536):Ans Pg 12 [aL aW16 l] (aB true):=by
 intro S
 refine ACalls.ans_v (calls12 ?_)
 unfold m12
 refine .inl ((made222 hl).mono ?_)
 rintro e S' ⟨tr,rfl,rfl,c,rfl,hm,-,-⟩
 have hc:c.ok:=hm.ok
 show boxN _ _ _ _ _
 refine boxA_of rfl fun S1 k1 n1 o1=>?_
 refine stA_of (cs':=c.cells) o1 rfl rfl fun S2 n2 o2 f2=>?_
 have k2:=k1.st (Nat.le_refl _) n2 f2
 obtain⟨b,e,h1,h2⟩:=two_B hc
 rw[ldN_p (n:=8) o2 rfl]
 refine callF_ans h1 ?_
 rw[extr0,extr1,ldN_p (n:=8) o2 rfl]
 refine callF_ans h2 ?_
 rw[extr0,extr1]
 refine callF_ans ans27 ?_
 rw[onB_v,gd_true]
 refine W (bin_eqlS ⟨b.toArray⟩ ⟨b.toArray⟩ 0) ?_
 rw[decide_eq_true rfl,onB_v,gd_true,bin_eql,decide_eq_true rfl,onB_v,gd_true]
 refine sameB ?_
 exact⟨rfl,k2⟩
section
variable {H:Type} {enc:TypeId × Value→H} {w:World} {sp:Nat→Bool} {held:Bool}
end
section
set_option maxRecDepth 100000
def c14:Code:=(Tryz.f14.body).getD .skip
def r14:List ResultVar:=Tryz.f14.results.toList
def env14_0(y1 y5 y6:AV):List AV:=[y1,y5,y6]
def lv14_0:List Nat:=[1,5,6]
def ms14:List (List Nat):=[lv14_0,[]]
def m14(x0 x1:AV)(S:Store)(Q:PoT):Prop:=
 convI .i64 x0 S fun c S=>bin .rem 0 c (.v (.int .i64 1000)) S fun d S=>bin .add 0 (.v (.int .i64 100)) d S fun e S=>bld [(0,1),(1,1),(2,1),(3,1),(4,1),(5,1),(6,1),(7,1)] [.v (.int .i64 0),.nl,.nl,.nl,.nl,.nl,.nl,.nl] [(0,e)] S fun f S=>boxN 29 8 (.a [.v (.int .i64 0),.nl,.nl,.nl,.nl,.nl,.nl,.nl]) S fun g S=>stN 8 g f S fun h S=>loopV lv14_0 (vc Pg (c14.at_ [1,1,0,1,0,0]) (ms14.drop 1)) 106 (env14_0 x1 g (.v (.int .i64 0))) S (blockK 0 (seqK (vc Pg (c14.at_ [1,1,1]) (ms14.drop 1)) (bodyK Pg r14 Q)))
theorem calls14{x0 x1:AV}{S:Store}{Q:PoT}(h:m14 x0 x1 S Q):ACalls Pg 14 [x0,x1] S Q:=
 calls_of_vc (fn:=Tryz.f14) (c:=c14) (n:=106) Tryz.func14 (by kernel_rfl) (by kernel_rfl) (by kernel_rfl) ms14 (Eq.mpr (by kernel_rfl) h)
def b14_0(y1 y5 y6:AV)(S:Store)(KE0:KeT)(Q:PoT):Prop:=
 bin .add 0 y6 (.v (.int .i64 1)) S fun a S=>lenS y1 S fun c S=>bin .lss 0 a c S fun d S=>onB d fun b=>gd b (bin .lss 0 y6 (.v (.int .i64 12)) S fun e S=>onB e fun b=>gd b (shift y5 0 S fun f S=>ld1 f S fun g S=>bin .add 0 g (.v (.int .i64 1)) S fun h S=>shift y5 2 S fun i S=>ld1 i S fun k S=>lenS k S fun l S=>bin .add 0 h l S fun m S=>ixS 40 1 y1 y6 S fun n S=>ld1 n S fun o S=>convI .i64 o S fun p S=>bin .sub 0 m (.v (.int .i64 2)) S fun q S=>bin .rem 0 p q S fun r S=>bin .add 0 (.v (.int .i64 2)) r S fun s S=>bin .add 0 y6 (.v (.int .i64 1)) S fun t S=>ixS 40 1 y1 t S fun u S=>ld1 u S fun w S=>convI .i64 w S fun x S=>bin .sub 0 s (.v (.int .i64 1)) S fun y S=>bin .rem 0 x y S fun z S=>bin .add 0 (.v (.int .i64 1)) z S fun A S=>∃ B:AV,(∀ T:Store,Keep S T→shift y5 2 T fun C S=>C=B∧S=T)∧∃ D:AV,(∀ T:Store,Keep S T→ld1 B T fun E S=>E=D∧S=T)∧∃ F:AV,(∀ T:Store,Keep S T→bin .mul 0 (.v (.int .i64 2)) s T fun G S=>G=F∧S=T)∧∃ H:AV,(∀ T:Store,Keep S T→ixS 40 1 y1 y6 T fun I S=>I=H∧S=T)∧∃ J:AV,(∀ T:Store,Keep S T→ld1 H T fun K S=>K=J∧S=T)∧∃ L:AV,(∀ T:Store,Keep S T→convI .i64 J T fun M S=>M=L∧S=T)∧∃ N:AV,(∀ T:Store,Keep S T→bin .rem 0 L (.v (.int .i64 2)) T fun O S=>O=N∧S=T)∧∃ P:AV,(∀ T:Store,Keep S T→bin .add 0 F N T fun R S=>R=P∧S=T)∧∃ U:AV,(∀ T:Store,Keep S T→bin .mul 0 (.v (.int .i64 2)) A T fun V S=>V=U∧S=T)∧∃ W:AV,(∀ T:Store,Keep S T→bin .add 0 y6 (.v (.int .i64 1)) T fun X S=>X=W∧S=T)∧∃ Y:AV,(∀ T:Store,Keep S T→ixS 40 1 y1 W T fun Z S=>Z=Y∧S=T)∧∃ a0:AV,(∀ T:Store,Keep S T→ld1 Y T fun a1 S=>a1=a0∧S=T)∧∃ a2:AV,(∀ T:Store,Keep S T→convI .i64 a0 T fun a3 S=>a3=a2∧S=T)∧∃ a4:AV,(∀ T:Store,Keep S T→bin .rem 0 a2 (.v (.int .i64 2)) T fun a5 S=>a5=a4∧S=T)∧∃ a6:AV,(∀ T:Store,Keep S T→bin .add 0 U a4 T fun a7 S=>a7=a6∧S=T)∧∃ a8:AV,(∀ T:Store,Keep S T→bld [(0,1),(1,1)] [.v (.int .i64 0),.v (.int .i64 0)] [(0,P),(1,a6)] T fun a9 S=>a9=a8∧S=T)∧∃ b0:AV,(∀ T:Store,Keep S T→bslN 48 2 1 [.v (.int .i64 0),.v (.int .i64 0)] [(0,a8)] T fun b1 S=>b1=b0∧S=T)∧appS 48 2 16 D b0 S fun b2 S=>∃ b3:AV,(∀ T:Store,Keep S T→shift y5 2 T fun b4 S=>b4=b3∧S=T)∧stN 1 b3 b2 S fun b5 S=>bin .add 0 y6 (.v (.int .i64 2)) S fun b6 S=>KE0 106 (env14_0 y1 y5 b6) S) (ldN 8 y5 S fun b7 S=>callF Pg 29 [b7] S Q fun b8 S=>extr b8 0 S fun b9 S=>extr b8 1 S fun c0 S=>ldN 8 y5 S fun c1 S=>callF Pg 30 [c1] S Q fun c2 S=>extr c2 0 S fun c3 S=>extr c2 1 S fun c4 S=>callF Pg 27 [] S Q fun c5 S=>onB c5 fun b=>gd b (bin .eql 0 b9 c3 S fun c6 S=>onB c6 fun b=>gd b (bin .eql 0 c0 c4 S fun c7 S=>onB c7 fun b=>gd b (callF Pg 28 [b9] S Q fun c8 S=>Q (.ret c8) S) (Q (.ret (.v (.bool false))) S)) (Q (.ret (.v (.bool false))) S)) (Q (.ret (.v (.bool false))) S))) (ldN 8 y5 S fun c9 S=>callF Pg 29 [c9] S Q fun d0 S=>extr d0 0 S fun d1 S=>extr d0 1 S fun d2 S=>ldN 8 y5 S fun d3 S=>callF Pg 30 [d3] S Q fun d4 S=>extr d4 0 S fun d5 S=>extr d4 1 S fun d6 S=>callF Pg 27 [] S Q fun d7 S=>onB d7 fun b=>gd b (bin .eql 0 d1 d5 S fun d8 S=>onB d8 fun b=>gd b (bin .eql 0 d2 d6 S fun d9 S=>onB d9 fun b=>gd b (callF Pg 28 [d1] S Q fun e0 S=>Q (.ret e0) S) (Q (.ret (.v (.bool false))) S)) (Q (.ret (.v (.bool false))) S)) (Q (.ret (.v (.bool false))) S))
theorem b14_0_eq(y1 y5 y6:AV)(S:Store)(KE0:KeT)(Q:PoT):vc Pg (c14.at_ [1,1,0,1,0,0]) (ms14.drop 1) (mkE 106 lv14_0 (env14_0 y1 y5 y6)) S (thenK (fgK lv14_0 KE0) (blockK 0 (seqK (vc Pg (c14.at_ [1,1,1]) (ms14.drop 1)) (bodyK Pg r14 Q))))=b14_0 y1 y5 y6 S KE0 Q:=by kernel_rfl
theorem loop14_0{y1 y5:AV}{y60:AV}{S:Store}{Q:PoT}(I:AV→Store→Prop)(μ:AV→Store→Nat)(h0:I y60 S)
    (hr:∀(y6:AV) (S:Store),I y6 S→∀ KE0:KeT,(∀(y6':AV) (S':Store),I y6' S'→μ y6' S'<μ y6 S→KE0 106 (env14_0 y1 y5 y6') S')→b14_0 y1 y5 y6 S KE0 Q):
    loopV lv14_0 (vc Pg (c14.at_ [1,1,0,1,0,0]) (ms14.drop 1)) 106 (env14_0 y1 y5 y60) S (blockK 0 (seqK (vc Pg (c14.at_ [1,1,1]) (ms14.drop 1)) (bodyK Pg r14 Q))):=by
 refine⟨fun n e S=>n=106∧∃ y6:AV,e=(env14_0 y1 y5 y6)∧I y6 S,fun _ e S=>μ (e.getD 2 .j) S,?_,?_⟩
 ·exact⟨_,_,Wk.refl _ _,rfl,_,rfl,h0⟩
 ·rintro _ e S ⟨rfl,y6,rfl,hI⟩
  exact(b14_0_eq _ _ _ _ _ _).mpr (hr y6 S hI _ (fun y6' S' hI' hm=>⟨_,_,Wk.refl _ _,⟨rfl,_,rfl,hI'⟩,hm⟩))
def c17:Code:=(Tryz.f17.body).getD .skip
def ms17:List (List Nat):=[[]]
def m17(x0:AV)(S:Store)(Q:PoT):Prop:=
 callF Pg 27 [] S Q fun c S=>un .not c S fun d S=>onB d fun b=>gd b (Q (.ret (.v (.bool false))) S) (callF Pg 22 [x0] S Q fun e S=>boxN 29 8 (.a [.v (.int .i64 0),.nl,.nl,.nl,.nl,.nl,.nl,.nl]) S fun f S=>stN 8 f e S fun g S=>ldN 8 f S fun h S=>callF Pg 29 [h] S Q fun i S=>extr i 0 S fun k S=>extr i 1 S fun l S=>callF Pg 31 [k] S Q fun m S=>extr m 0 S fun n S=>extr m 1 S fun o S=>boxN 29 8 (.a [.v (.int .i64 0),.nl,.nl,.nl,.nl,.nl,.nl,.nl]) S fun p S=>stN 8 p n S fun q S=>ldN 8 p S fun r S=>callF Pg 20 [r] S Q fun s S=>extr s 0 S fun t S=>extr s 1 S fun u S=>callF Pg 24 [t] S Q fun w S=>extr w 0 S fun x S=>extr w 1 S fun y S=>boxN 29 8 (.a [.v (.int .i64 0),.nl,.nl,.nl,.nl,.nl,.nl,.nl]) S fun z S=>stN 8 z x S fun A S=>ldN 8 z S fun B S=>callF Pg 29 [B] S Q fun C S=>extr C 0 S fun D S=>extr C 1 S fun E S=>onB c fun b=>gd b (bin .eql 0 l (.v (.int .i64 0)) S fun F S=>onB F fun b=>gd b (bin .eql 0 o (.v (.int .i64 0)) S fun G S=>onB G fun b=>gd b (bin .eql 0 u (.v (.int .i64 0)) S fun H S=>onB H fun b=>gd b (bin .eql 0 y (.v (.int .i64 0)) S fun I S=>onB I fun b=>gd b (bin .eql 0 E (.v (.int .i64 0)) S fun J S=>onB J fun b=>gd b (ldN 8 f S fun K S=>ldN 8 p S fun L S=>callF Pg 25 [K,L] S Q fun M S=>onB M fun b=>gd b (ldN 8 f S fun N S=>ldN 8 z S fun O S=>callF Pg 25 [N,O] S Q fun P S=>onB P fun b=>gd b (bin .eql 0 k D S fun R S=>Q (.ret R) S) (Q (.ret (.v (.bool false))) S)) (Q (.ret (.v (.bool false))) S)) (Q (.ret (.v (.bool false))) S)) (Q (.ret (.v (.bool false))) S)) (Q (.ret (.v (.bool false))) S)) (Q (.ret (.v (.bool false))) S)) (Q (.ret (.v (.bool false))) S)) (Q (.ret (.v (.bool false))) S))
theorem calls17{x0:AV}{S:Store}{Q:PoT}(h:m17 x0 S Q):ACalls Pg 17 [x0] S Q:=
 calls_of_vc (fn:=Tryz.f17) (c:=c17) (n:=81) Tryz.func17 (by kernel_rfl) (by kernel_rfl) (by kernel_rfl) ms17 (Eq.mpr (by kernel_rfl) h)
def c16:Code:=(Tryz.f16.body).getD .skip
def ms16:List (List Nat):=[[]]
def m16(x0:AV)(S:Store)(Q:PoT):Prop:=
 callF Pg 27 [] S Q fun c S=>un .not c S fun d S=>onB d fun b=>gd b (Q (.ret (.v (.bool false))) S) (callF Pg 22 [x0] S Q fun e S=>boxN 29 8 (.a [.v (.int .i64 0),.nl,.nl,.nl,.nl,.nl,.nl,.nl]) S fun f S=>stN 8 f e S fun g S=>shift f 7 S fun h S=>stN 1 h .nl S fun i S=>ldN 8 f S fun k S=>callF Pg 29 [k] S Q fun l S=>extr l 0 S fun m S=>extr l 1 S fun n S=>ldN 8 f S fun o S=>callF Pg 20 [o] S Q fun p S=>extr p 0 S fun q S=>extr p 1 S fun r S=>onB c fun b=>gd b (bin .eql 0 n (.v (.int .i64 0)) S fun s S=>onB s fun b=>gd b (bin .eql 0 r (.v (.int .i64 0)) S fun t S=>onB t fun b=>gd b (lenStr m S fun u S=>lenStr q S fun w S=>bin .leq 0 u w S fun x S=>Q (.ret x) S) (Q (.ret (.v (.bool false))) S)) (Q (.ret (.v (.bool false))) S)) (Q (.ret (.v (.bool false))) S))
theorem calls16{x0:AV}{S:Store}{Q:PoT}(h:m16 x0 S Q):ACalls Pg 16 [x0] S Q:=
 calls_of_vc (fn:=Tryz.f16) (c:=c16) (n:=41) Tryz.func16 (by kernel_rfl) (by kernel_rfl) (by kernel_rfl) ms16 (Eq.mpr (by kernel_rfl) h)
def c15:Code:=(Tryz.f15.body).getD .skip
def ms15:List (List Nat):=[[]]
def m15(x0 x1 x2 x3:AV)(S:Store)(Q:PoT):Prop:=
 callF Pg 22 [x0] S Q fun a S=>callF Pg 30 [a] S Q fun c S=>extr c 0 S fun d S=>extr c 1 S fun e S=>bin .eql 0 d (.v (.string { data:=#[] })) S fun f S=>onB f fun b=>gd b (Q (.ret (.v (.bool false))) S) (convI .i64 x1 S fun g S=>lenStr d S fun h S=>bin .rem 0 g h S fun i S=>(fun S0:Store=>∃ k:AV,((none:Option AV)=none∧slcStr d none (some i) S fun l S=>l=k∧S=S0)∧∃ m:AV,(bslN 5 1 1 [.v (.int .u8 0)] [(0,x2)] S fun n S=>n=m∧S=S0)∧∃ o:AV,(convBS m S fun p S=>p=o∧S=S0)∧∃ q:AV,(bin .add 0 k o S fun r S=>r=q∧S=S0)∧∃ s:AV,(bin .add 0 i (.v (.int .i64 1)) S fun t S=>t=s∧S=S0)∧∃ u:AV,((none:Option AV)=none∧slcStr d (some s) none S fun w S=>w=u∧S=S0)∧∃ x:AV,(bin .add 0 q u S fun y S=>y=x∧S=S0)∧bin .rem 0 x3 (.v (.int .u8 4)) S fun z S=>bin .eql 0 z (.v (.int .u8 1)) S fun A S=>onB A fun b=>gd b ((fun S0:Store=>∃ B:AV,((none:Option AV)=none∧slcStr d none (some i) S fun C S=>C=B∧S=S0)∧∃ D:AV,(bin .add 0 i (.v (.int .i64 1)) S fun E S=>E=D∧S=S0)∧∃ F:AV,((none:Option AV)=none∧slcStr d (some D) none S fun G S=>G=F∧S=S0)∧∃ H:AV,(bin .add 0 B F S fun I S=>I=H∧S=S0)∧callF Pg 27 [] S Q fun J S=>onB J fun b=>gd b (callF Pg 28 [H] S Q fun K S=>Q (.ret K) S) (Q (.ret (.v (.bool false))) S)) S) (bin .eql 0 z (.v (.int .u8 2)) S fun L S=>onB L fun b=>gd b ((none:Option AV)=none∧slcStr d none (some i) S fun M S=>callF Pg 27 [] S Q fun N S=>onB N fun b=>gd b (callF Pg 28 [M] S Q fun O S=>Q (.ret O) S) (Q (.ret (.v (.bool false))) S)) (bin .eql 0 z (.v (.int .u8 3)) S fun P S=>onB P fun b=>gd b ((fun S0:Store=>∃ R:AV,((none:Option AV)=none∧slcStr d none (some i) S fun T S=>T=R∧S=S0)∧∃ U:AV,(bslN 5 1 1 [.v (.int .u8 0)] [(0,x2)] S fun V S=>V=U∧S=S0)∧∃ W:AV,(convBS U S fun X S=>X=W∧S=S0)∧∃ Y:AV,(bin .add 0 R W S fun Z S=>Z=Y∧S=S0)∧∃ a0:AV,((none:Option AV)=none∧slcStr d (some i) none S fun a1 S=>a1=a0∧S=S0)∧∃ a2:AV,(bin .add 0 Y a0 S fun a3 S=>a3=a2∧S=S0)∧callF Pg 27 [] S Q fun a4 S=>onB a4 fun b=>gd b (callF Pg 28 [a2] S Q fun a5 S=>Q (.ret a5) S) (Q (.ret (.v (.bool false))) S)) S) (callF Pg 27 [] S Q fun a6 S=>onB a6 fun b=>gd b (callF Pg 28 [x] S Q fun a7 S=>Q (.ret a7) S) (Q (.ret (.v (.bool false))) S))))) S)
theorem calls15{x0 x1 x2 x3:AV}{S:Store}{Q:PoT}(h:m15 x0 x1 x2 x3 S Q):ACalls Pg 15 [x0,x1,x2,x3] S Q:=
 calls_of_vc (fn:=Tryz.f15) (c:=c15) (n:=73) Tryz.func15 (by kernel_rfl) (by kernel_rfl) (by kernel_rfl) ms15 (Eq.mpr (by kernel_rfl) h)
end
theorem bin_size{c:Ci}(hm:MadeC c):c.binT.length≤1000:=by
 have h1:=bin_le hm.right
 have h2:=aag_len (nums_of hm.right)
 have h3:=made_items hm
 omega
theorem law17{l:List Int}(hl:∀ x∈l,0≤x∧x<65536):Ans Pg 17 [aL aW16 l] (aB true):=by
 intro S
 refine ACalls.ans_v (calls17 ?_)
 unfold m17
 refine callF_ans ans27 ?_
 rw[un_not,onB_v,gd_nT rfl]
 refine .inl ((made222 hl).mono ?_)
 rintro e S' ⟨tr,rfl,rfl,c,rfl,hm,-,-⟩
 have hc:c.ok:=hm.ok
 have hr:=hm.right
 have hlen:=aag_len (nums_of hr)
 have hit:=made_items hm
 have hbl:=bin_size hm
 have p1:parseP c.aagT=(c,0):=by
  have:=parse_back (rest:=[]) hr (.inl rfl) (by rw[List.append_nil];omega)
  rwa [List.append_nil]at this
 have p2:parseB c.binT=(c,0):=by
  have:=parseB_back (rest:=[]) hr (.inl rfl) (by rw[List.append_nil];omega)
  rwa [List.append_nil]at this
 have h1:=ans20 hc hc.nlen
 rw[if_pos hr]at h1
 have h2:=ans29 hc hc.nlen
 rw[if_pos hr]at h2
 show boxN _ _ _ _ _
 refine boxA_of rfl fun S1 k1 n1 o1=>?_
 refine stA_of (cs':=c.cells) o1 rfl rfl fun S2 n2 o2 f2=>?_
 have k2:=k1.st (Nat.le_refl _) n2 f2
 rw[ldN_p (n:=8) o2 rfl]
 refine callF_ans h2 ?_
 rw[extr0,extr1]
 refine callF_ans (ans31 c.binT) ?_
 rw[e0C,e1C,p2]
 dsimp only
 refine boxA_of rfl fun S3 k3 n3 o3=>?_
 refine stA_of (cs':=c.cells) o3 rfl rfl fun S4 n4 o4 f4=>?_
 have k4:=k3.st (Nat.le_refl _) n4 f4
 rw[ldN_p (n:=8) o4 rfl]
 refine callF_ans h1 ?_
 rw[extr0,extr1]
 refine callF_ans (ans24 c.aagT) ?_
 rw[e0C,e1C,p1]
 dsimp only
 refine boxA_of rfl fun S5 k5 n5 o5=>?_
 refine stA_of (cs':=c.cells) o5 rfl rfl fun S6 n6 o6 f6=>?_
 have k6:=k5.st (Nat.le_refl _) n6 f6
 rw[ldN_p (n:=8) o6 rfl]
 refine callF_ans h2 ?_
 rw[extr0,extr1]
 rw[onB_v,gd_true,bin_eql,onB_v,gd_T (decide_eq_true rfl),bin_eql,onB_v,gd_T (decide_eq_true rfl),bin_eql,onB_v,gd_T (decide_eq_true rfl),bin_eql,onB_v,gd_T (decide_eq_true rfl),bin_eql,onB_v,gd_T (decide_eq_true rfl)]
 have q2:=(k6.2 _ (by omega)).trans ((k4.2 _ (by omega)).trans o2)
 have q4:=(k6.2 _ (by omega)).trans o4
 rw[ldN_p (n:=8) q2 rfl,ldN_p (n:=8) q4 rfl]
 refine callF_ans (ans25 hc) ?_
 rw[onB_v,gd_true,ldN_p (n:=8) q2 rfl,ldN_p (n:=8) o6 rfl]
 refine callF_ans (ans25 hc) ?_
 rw[onB_v,gd_true]
 refine W (bin_eqlS ⟨c.binT.toArray⟩ ⟨c.binT.toArray⟩ 0) ?_
 rw[decide_eq_true rfl]
 exact⟨rfl,(k2.trans k4).trans k6⟩
def Ci.noN(c:Ci):Ci:={ c with names:=[] }
theorem cvK(c:Ci){S:Store}{m:Nat}:Cv S m (.a (c.cells.set 7 .nl)) c.noN.av:=by
 refine .a (c.cells.set 7 .nl) c.noN.cells rfl fun k u u2 h1 h2=>?_
 match k with
 |0=>cases h1;cases h2;exact .v _
 |1=>cases h1;cases h2;exact treeP _ _ _
 |2=>cases h1;cases h2;exact treeP _ _ _
 |3=>cases h1;cases h2;exact treeI _ _ _
 |4=>cases h1;cases h2;exact treeI _ _ _
 |5=>cases h1;cases h2;exact treeI _ _ _
 |6=>cases h1;cases h2;exact treeI _ _ _
 |7=>cases h1;cases h2;exact .nl
 |k+8=>cases h1
theorem law16{l:List Int}(hl:∀ x∈l,0≤x∧x<65536):Ans Pg 16 [aL aW16 l] (aB true):=by
 intro S
 refine ACalls.ans_v (calls16 ?_)
 unfold m16
 refine callF_ans ans27 ?_
 rw[un_not,onB_v,gd_nT rfl]
 refine .inl ((made222 hl).mono ?_)
 rintro e S' ⟨tr,rfl,rfl,c,rfl,hm,-,-⟩
 have hc0:c.ok:=hm.ok
 have hc:c.noN.ok:=⟨hc0.inp,hc0.llen,hc0.alen,hc0.lats,hc0.pairs,hc0.outs,hc0.bads,hc0.cons,hc0.fair,(fun x hx=>by cases hx),Nat.zero_le _⟩
 have hr:c.noN.right=true:=by
  obtain⟨a,b1,b2,b3,b4,b5,c1,c2,c3,c4,c5,c6,c7⟩:=right_c.1 hm.right
  refine right_c.2 ⟨a,b1,b2,b3,b4,b5,c1,c2,c3,c4,c5,c6,?_⟩
  simp only[namesB,decide_eq_true_eq]
  exact NamesR.zero _
 have hle:=bin_le hr
 have h1:=ans20 hc hc.nlen
 rw[if_pos hr]at h1
 have h2:=ans29 hc hc.nlen
 rw[if_pos hr]at h2
 show boxN _ _ _ _ _
 refine boxA_of rfl fun S1 k1 n1 o1=>?_
 refine stA_of (cs':=c.cells) o1 rfl rfl fun S2 n2 o2 f2=>?_
 have k2:=k1.st (Nat.le_refl _) n2 f2
 rw[shift_p]
 refine stF_of o2 (by simp[Ci.cells]) rfl fun S3 n3 o3 f3=>?_
 have k3:=k2.st (Nat.le_refl _) n3 f3
 rw[ldN_p (n:=8) o3 rfl]
 refine callF_cv' (args:=[.a (c.cells.set 7 .nl)]) h2 rfl (cv_1 (cvK c)) ?_
 rw[extr0,extr1,ldN_p (n:=8) o3 rfl]
 refine callF_cv' (args:=[.a (c.cells.set 7 .nl)]) h1 rfl (cv_1 (cvK c)) ?_
 rw[extr0,extr1,onB_v,gd_true,bin_eql,onB_v,gd_T (decide_eq_true rfl),bin_eql,onB_v,gd_T (decide_eq_true rfl),lenT,lenT,bin_leq,decide_eq_true (by omega)]
 exact⟨rfl,k3⟩
theorem law15{l:List Int}(hl:∀ x∈l,0≤x∧x<65536){at_ byv how:Int}(ha:0≤at_∧at_<65536)(hb:0≤byv∧byv<256)(hh:0≤how∧how<256):Ans Pg 15 [aL aW16 l,.v (.int .u16 at_),.v (.int .u8 byv),.v (.int .u8 how)] (aB true):=by
 intro S
 refine calls15 ?_
 unfold m15
 refine .inl ((made222 hl).mono ?_)
 rintro e S ⟨tr,rfl,rfl,c,rfl,hm,-,-⟩
 have hc:c.ok:=hm.ok
 have hr:=hm.right
 have hlen:=bin_size hm
 have h2:=ans30 hc hc.nlen
 rw[if_pos hr]at h2
 have hpos:0<c.binT.length:=by rw[Ci.binT,Ci.headB];simp
 generalize c.binT=s at h2 hlen hpos
 refine callF_ans h2 ?_
 rw[extr0,extr1]
 refine W (bin_eqlS ⟨s.toArray⟩ ⟨#[]⟩ 0) ?_
 rw[onB_v]
 refine gd_of (fun h0=>absurd (ab_eq (a:=s) (b:=[]) |>.1 (dT h0)) (fun e=>by rw[e]at hpos;simp at hpos)) (fun _=>?_)
 rw[convI_64 _ (by omega) (by omega),lenT,bin_rem (by omega)]
 obtain⟨k,hk,hkl⟩:∃ k:Nat,at_.tmod (s.length:Int)=k∧k<s.length:=by
  have h1:=Int.emod_nonneg at_ (show(s.length:Int)≠0 by omega)
  have h2:=Int.emod_lt_of_pos at_ (show(0:Int)<s.length by omega)
  rw[Int.tmod_eq_emod_of_nonneg ha.1]
  exact⟨(at_ % (s.length:Int)).toNat,by omega,by omega⟩
 rw[hk]
 have hby:=u8_byte hb
 have sl0:∀{P:AV→Prop},P (aT (s.take k))→∃ q,((none:Option AV)=none∧slcStr (aT s) none (some (aI k)) S fun v S'=>v=q∧S'=S)∧P q:=fun{P} kk=>⟨_,⟨rfl,slcT0 (by omega) ⟨rfl,rfl⟩⟩,kk⟩
 have sl1:∀{P:AV→Prop},P (aT (s.drop (k+1)))→∃ q,((none:Option AV)=none∧slcStr (aT s) (some (aI ((k:Int)+1))) none S fun v S'=>v=q∧S'=S)∧P q:=fun{P} kk=>⟨_,⟨rfl,slcTe (a:=k+1) (by omega) ⟨rfl,rfl⟩⟩,kk⟩
 have sl2:∀{P:AV→Prop},P (aT (s.drop k))→∃ q,((none:Option AV)=none∧slcStr (aT s) (some (aI (k:Int))) none S fun v S'=>v=q∧S'=S)∧P q:=fun{P} kk=>⟨_,⟨rfl,slcTe (a:=k) (by omega) ⟨rfl,rfl⟩⟩,kk⟩
 have ht:(s.take k).length≤s.length:=by rw[List.length_take];omega
 have hd:(s.drop (k+1)).length≤s.length:=by rw[List.length_drop];omega
 have hd2:(s.drop k).length≤s.length:=by rw[List.length_drop];omega
 have one:∀{P:AV→Prop},P (aT [UInt8.ofNat byv.toNat])→∃ q,(bslN 5 1 1 [.v (.int .u8 0)] [(0,.v (.int .u8 (((UInt8.ofNat byv.toNat).toNat:Nat):Int)))] S fun v S'=>v=q∧S'=S)∧∃ q2,(convBS q S fun v S'=>v=q2∧S'=S)∧P q2:=fun{P} kk=>⟨_,bsl1 rfl (fun _ h=>by cases h) ⟨rfl,rfl⟩,aT [UInt8.ofNat byv.toNat],by
  show convBS (.l ([UInt8.ofNat byv.toNat].map byteR)) _ _
  rw[convBS_l];exact⟨rfl,rfl⟩,kk⟩
 have fin:∀ t:Bs,callF Pg 27 [] S (fun e S'=>e = .ret (aB true)∧S'=S) fun v35 W=>onB v35 fun b=>gd b (callF Pg 28 [aT t] W (fun e S'=>e = .ret (aB true)∧S'=S) fun v37 W=>(fun(e:AEnd) S'=>e = .ret (aB true)∧S'=S) (.ret v37) W) ((fun(e:AEnd) S'=>e = .ret (aB true)∧S'=S) (.ret (.v (.bool false))) W):=fun t=>by
  refine callF_ans ans27 ?_
  rw[onB_v,gd_true]
  exact sameB ⟨rfl,rfl⟩
 refine sl0 ?_
 rw[hby]
 refine one ?_
 refine W (J_addT (by simp only[List.length_cons,List.length_nil];omega)) (W (J_add (by omega) (by omega)) (sl1 (W (J_addT (by simp only[List.length_append,List.length_cons,List.length_nil];omega)) ?_)))
 rw[bin_rem (by decide),bin_eql,onB_v]
 refine gd_of (fun _=>?_) (fun _=>?_)
 ·refine sl0 (W (J_add (by omega) (by omega)) (sl1 (W (J_addT (by omega)) ?_)))
  exact fin _
 rw[bin_eql,onB_v]
 refine gd_of (fun _=>⟨rfl,slcT0 (by omega) (fin _)⟩) (fun _=>?_)
 rw[bin_eql,onB_v]
 refine gd_of (fun _=>?_) (fun _=>fin _)
 refine sl0 (one (W (J_addT (by simp only[List.length_cons,List.length_nil];omega)) (sl2 (W (J_addT (by simp only[List.length_append,List.length_cons,List.length_nil];omega)) ?_))))
 exact fin _
theorem tmod_rng{a m:Int}(ha:0≤a)(hm:0<m):0≤a.tmod m∧a.tmod m<m:=by
 rw[Int.tmod_eq_emod_of_nonneg ha]
 exact⟨Int.emod_nonneg _ (by omega),Int.emod_lt_of_pos _ hm⟩
theorem gd2{b1 b2:Bool}{A F:Prop}(h1:b1=true→b2=true→A)(hF:F):gd b1 (gd b2 A F) F:=by
 cases b1
 ·exact hF
 ·cases b2
  ·exact hF
  ·exact h1 rfl rfl
def zA(x:AV)(j:Nat):AV:=if j=1 then x else .nl
def pairR(ga:List (Int × Int)):List (List AV):=ga.map fun p=>[aI p.1,aI p.2]
theorem law14{n:Int}{l:List Int}(hn:0≤n∧n<65536)(hl:∀ x∈l,0≤x∧x<65536)(hll:l.length≤maxLen):Ans Pg 14 [.v (.int .u16 n),aL aW16 l] (aB true):=by
 intro S
 refine ACalls.ans_v (calls14 ?_)
 unfold m14
 have hmax:l.length≤9223372036854775807:=hll
 rw[convI_64 _ (by omega) (by omega),bin_rem (by decide)]
 have hr:=tmod_rng (a:=n) (m:=1000) hn.1 (by decide)
 rw[bin_add (by omega) (by omega)]
 generalize hinp:100+n.tmod 1000=inp
 have hi:100≤inp∧inp≤1099:=by omega
 refine⟨cells8 inp (zA .nl),rfl,?_⟩
 refine boxA_of (cs:=zero8) rfl fun S1 k1 n1 o1=>?_
 refine stA_of (cs':=cells8 inp (zA .nl)) o1 rfl rfl fun S2 n2 o2 f2=>?_
 have k2:=k1.st (Nat.le_refl _) n2 f2
 refine loop14_0 (fun y T=>∃(k:Nat) (ga:List (Int × Int)) (x:AV),y=aI (2*k:Nat)∧k≤6∧ga.length=k∧(∀ p∈ga,i64R p.1∧i64R p.2)∧Keep S T∧S.n<T.n∧T.obj S.n=some (.cells 29 [cells8 inp (zA x)] true)∧Own (S.n+1) T x 48 (pairR ga)) (fun y _=>12 - ((intA y).getD 0).toNat)
  ⟨0,[],.nl,rfl,by decide,rfl,(fun p hp=>by cases hp),k2,by omega,o2,.nl _ _ _⟩ ?_
 rintro _ T ⟨k,ga,x,rfl,hk,hga,hrng,kT,nT,oT,hown⟩ KE hKE
 unfold b14_0
 rw[bin_add (by omega) (by omega),lenS_aL,bin_lss,onB_v,bin_lss,onB_v]
 refine gd2 (fun h1 h2=>?_) ?_
 ·have h1:2*k+1<l.length:=by have:=dT h1;omega
  have h2:2*k<12:=by have:=dT h2;omega
  have x0:=hl _ (List.getElem_mem (show 2*k<l.length by omega))
  have x1:=hl _ (List.getElem_mem h1)
  have hpl:(pairR ga).length=k:=by simp[pairR,hga]
  rw[shift_p,ld1_p (u:=aI inp) oT rfl rfl,bin_add (by omega) (by omega),shift_p,ld1_p (u:=x) oT rfl rfl,hown.len,hpl,bin_add (by omega) (by omega)]
  rw[ixS_aL (show 2*k<l.length by omega),ld1_q,convI_64 _ (by omega) (by omega),bin_sub (by omega) (by omega),bin_rem (by omega)]
  have m1:=tmod_rng (a:=l[2*k]) (m:=inp+1+(k:Int) - 2) x0.1 (by omega)
  rw[bin_add (by omega) (by omega)]
  generalize ha:2+l[2*k].tmod (inp+1+(k:Int) - 2)=a
  have ha':2≤a∧a≤1200:=by omega
  have e1:((2*k:Nat):Int)+1=((2*k+1:Nat):Int):=by omega
  rw[bin_add (by omega) (by omega),e1,ixS_aL h1,ld1_q,convI_64 _ (by omega) (by omega),bin_sub (by omega) (by omega),bin_rem (by omega)]
  have m2:=tmod_rng (a:=l[2*k+1]) (m:=a - 1) x1.1 (by omega)
  rw[bin_add (by omega) (by omega)]
  generalize hb:1+l[2*k+1].tmod (a - 1)=b
  have hb':1≤b∧b≤1200:=by omega
  have m3:=tmod_rng (a:=l[2*k]) (m:=2) x0.1 (by decide)
  have m4:=tmod_rng (a:=l[2*k+1]) (m:=2) x1.1 (by decide)
  refine L_shift ?_
  refine L_ldp (u:=x) oT nT rfl rfl ?_
  refine⟨_,fun U hU=>by rw[bin_mul (by omega) (by omega)];exact⟨rfl,rfl⟩,?_⟩
  refine⟨_,fun U hU=>by rw[ixS_aL (show 2*k<l.length by omega)];exact⟨rfl,rfl⟩,?_⟩
  refine⟨_,fun U hU=>by rw[ld1_q];exact⟨rfl,rfl⟩,?_⟩
  refine⟨_,fun U hU=>by rw[convI_64 _ (by omega) (by omega)];exact⟨rfl,rfl⟩,?_⟩
  refine⟨_,fun U hU=>by rw[bin_rem (by decide)];exact⟨rfl,rfl⟩,?_⟩
  refine⟨_,fun U hU=>by rw[bin_add (by omega) (by omega)];exact⟨rfl,rfl⟩,?_⟩
  refine⟨_,fun U hU=>by rw[bin_mul (by omega) (by omega)];exact⟨rfl,rfl⟩,?_⟩
  refine⟨aI (2*k+1:Nat),fun U hU=>by rw[bin_add (by omega) (by omega),e1];exact⟨rfl,rfl⟩,?_⟩
  refine⟨_,fun U hU=>by rw[ixS_aL h1];exact⟨rfl,rfl⟩,?_⟩
  refine⟨_,fun U hU=>by rw[ld1_q];exact⟨rfl,rfl⟩,?_⟩
  refine⟨_,fun U hU=>by rw[convI_64 _ (by omega) (by omega)];exact⟨rfl,rfl⟩,?_⟩
  refine⟨_,fun U hU=>by rw[bin_rem (by decide)];exact⟨rfl,rfl⟩,?_⟩
  refine⟨_,fun U hU=>by rw[bin_add (by omega) (by omega)];exact⟨rfl,rfl⟩,?_⟩
  generalize hu:2*a+l[2*k].tmod 2=u
  generalize hv:2*b+l[2*k+1].tmod 2=v
  refine⟨_,fun U hU=>⟨[aI u,aI v],rfl,rfl,rfl⟩,?_⟩
  refine⟨_,fun U hU=>bslA2 rfl ⟨rfl,rfl⟩,?_⟩
  refine hown.app (by omega) (c:=[aI u,aI v]) rfl (by rw[hpl];omega) (fun x' T2 w2 b2 hx2=>?_) rfl
  have hxn:∀ b m,x≠.s S.n b m:=fun b m e=>by have:=(hown.lt e).1;omega
  have o2':=(b2.2 S.n nT hxn).trans oT
  have n2':=b2.1
  refine L_shift ?_
  have hx1:x'.one=true:=by obtain⟨m,rfl⟩:=hx2;rfl
  refine stF_of o2' (by simp[cells8]) hx1 fun T3 n3 o3 f3=>?_
  have e2:((2*k:Nat):Int)+2=((2*(k+1):Nat):Int):=by omega
  rw[bin_add (by omega) (by omega),e2]
  refine hKE _ _ ⟨k+1,ga ++ [(u,v)],x',rfl,by omega,by simp[hga],fun p hp=>?_,⟨by have:=kT.1;omega,fun j hj=>?_⟩,by omega,o3,?_⟩ (by simp[intA];omega)
  ·rcases List.mem_append.1 hp with hp|hp
   ·exact hrng p hp
   ·rw[List.mem_singleton.1 hp]
    exact⟨⟨by show _≤u;omega,by show u≤_;omega⟩,⟨by show _≤v;omega,by show v≤_;omega⟩⟩
  ·rw[f3 j (by omega),b2.2 j (by have:=kT.1;omega) (fun b m e=>by have:=(hown.lt e).1;omega),kT.2 j hj]
  ·have e3:pairR (ga ++ [(u,v)])=pairR ga ++ [[aI u,aI v]]:=by simp[pairR]
   rw[e3]
   exact w2.st (fun b m e=>by have:=(w2.lt e).1;omega) n3 f3
 ·
  have hc:Ci.ok ⟨inp,[],ga,[],[],[],[],[]⟩:=⟨⟨by show _≤inp;omega,by show inp≤_;omega⟩,Nat.zero_le _,by show ga.length≤_;omega,(fun p hp=>by cases hp),hrng,⟨fun x hx=>(by cases hx),Nat.zero_le _⟩,⟨fun x hx=>(by cases hx),Nat.zero_le _⟩,⟨fun x hx=>(by cases hx),Nat.zero_le _⟩,⟨fun x hx=>(by cases hx),Nat.zero_le _⟩,(fun x hx=>by cases hx),Nat.zero_le _⟩
  have hrows:Rows T (S.n+1) (zA x) (Ci.rowsOf ⟨inp,[],ga,[],[],[],[],[]⟩):=by
   refine⟨fun j hj=>?_,fun i j hi hj hne a b m b' m' e e'=>?_⟩
   ·match j,hj with
    |0,_=>exact .nl _ _ _
    |1,_=>exact hown
    |2,_=>exact .nl _ _ _
    |3,_=>exact .nl _ _ _
    |4,_=>exact .nl _ _ _
    |5,_=>exact .nl _ _ _
    |6,_=>exact .nl _ _ _
    |7,_=>exact .nl _ _ _
   ·unfold zA at e e'
    by_cases h1:i=1
    ·by_cases h2:j=1
     ·omega
     ·rw[if_neg h2]at e';cases e'
    ·rw[if_neg h1]at e;cases e
  have hrf:=hrows.frz
  obtain⟨b,e,h1,h2⟩:=two_B hc
  rw[ldN_p (n:=8) oT rfl]
  refine callF_frz (newer (S.n+1)) (args:=[.a (cells8 inp (zA x))]) (args2:=[Ci.av ⟨inp,[],ga,[],[],[],[],[]⟩]) rfl (cv_1 ?_) h1 ?_
  ·have:=hrf.cva (D:=fun _=>false) (m:=T.n)
   rw[frz_none]at this
   exact this
  have oF:(T.frz (newer (S.n+1))).obj S.n=some (.cells 29 [cells8 inp (zA x)] true):=by rw[frz_false (by simp[newer])];exact oT
  have kF:Keep S (T.frz (newer (S.n+1))):=⟨kT.1,fun j hj=>by rw[frz_false (by simp[newer];omega)];exact kT.2 j hj⟩
  generalize T.frz (newer (S.n+1))=F at hrf oF kF
  rw[extr0,extr1,ldN_p (n:=8) oF rfl]
  refine callF_cv' (args:=[.a (cells8 inp (zA x))]) h2 rfl (cv_1 ?_) ?_
  ·have:=hrf.cva (D:=fun _=>false) (m:=F.n)
   rw[frz_none]at this
   exact this
  rw[extr0,extr1]
  refine callF_ans ans27 ?_
  rw[onB_v,gd_true]
  refine W (bin_eqlS ⟨b.toArray⟩ ⟨b.toArray⟩ 0) ?_
  rw[decide_eq_true rfl,onB_v,gd_true,bin_eql,decide_eq_true rfl,onB_v,gd_true]
  exact sameB ⟨rfl,kF⟩
end
end Go.Proofs.YtodfhmmjemlmeaaGreatDoor.G

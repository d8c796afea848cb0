/- Base -/
import Derived.Test.YtmpjhihpcaephaaGreatDoorProg
import Derived.KernelRfl
import Derived.Test.YtmpjhihpcaephaaGreatDoorBxT5
set_option linter.unusedVariables false
set_option linter.unusedSimpArgs false
namespace Go.Proofs.YtmpjhihpcaephaaGreatDoor.G
open Go Go.Ab
noncomputable section
inductive Few:Fo→Prop
 |a (l:Int) (h:0≤l):Few (.mk 3 ⟨#[]⟩ l [])
 |t:Few (.mk 2 ⟨#[]⟩ 0 [])
 |o (k:Int) (f:Fo) (hk:k=4∨k=9∨k=13) (h:Few f):Few (.mk k ⟨#[]⟩ 0 [f])
 |tw (k:Int) (f g:Fo) (hk:k=5∨k=15) (h:Few f) (h2:Few g):Few (.mk k ⟨#[]⟩ 0 [f,g])
theorem few_base:∀(f:Fo) (d:Int),f.mayB d=true→Few f.baseF:=by
 intro f
 induction f using Fo.ind with
 |h k n l ks ih =>
  intro d hm
  obtain⟨hlen,hn,hl,hk⟩:=may_len hm
  have hl0:0≤l:=by
   rw[mayB_eq,Bool.and_eq_true,decide_eq_true_eq]at hm
   obtain⟨⟨_,_,_,h3⟩,_⟩:=hm
   omega
  have hL:((ks.map Fo.baseF).length:Int)=kidsN k:=by rw[List.length_map];exact hlen
  have hF:∀ g∈ks.map Fo.baseF,Few g:=fun g hg=>by
   obtain⟨f,hf,rfl⟩:=List.mem_map.1 hg
   exact ih f hf _ (hk f hf)
  rw[Fo.baseF_mk]
  generalize ks.map Fo.baseF=ls at hL hF
  have hr:1≤k∧k≤18:=by
   rcases Classical.em (k<1∨18<k)with h|h
   ·rw[kidsN,if_pos h]at hL;omega
   ·omega
  have n4:∀{f:Fo},Few f→Few (nF f):=fun h=>.o 4 _ (.inl rfl) h
  have a5:∀{f g:Fo},Few f→Few g→Few (fT 5 f g):=fun h h'=>.tw 5 _ _ (.inl rfl) h h'
  have u15:∀{f g:Fo},Few f→Few g→Few (fT 15 f g):=fun h h'=>.tw 15 _ _ (.inr rfl) h h'
  have x9:∀{f:Fo},Few f→Few (fO 9 f):=fun h=>.o 9 _ (.inr (.inl rfl)) h
  have g13:∀{f:Fo},Few f→Few (fO 13 f):=fun h=>.o 13 _ (.inr (.inr rfl)) h
  rcases(by omega:k=1∨k=2∨k=3∨k=4∨k=5∨k=6∨k=7∨k=8∨k=9∨k=10∨k=11∨k=12∨k=13∨k=14∨k=15∨k=16∨k=17∨k=18)with rfl|rfl|rfl|rfl|rfl|rfl|rfl|rfl|rfl|rfl|rfl|rfl|rfl|rfl|rfl|rfl|rfl|rfl
  ·exact n4 .t
  ·obtain rfl:ls = []:=List.length_eq_zero_iff.1 (by have:kidsN 2=0:=rfl;omega)
   exact .t
  ·exact .a l hl0
  ·obtain⟨a,rfl⟩:=len1 hL;exact n4 (hF a (by simp))
  ·obtain⟨a,b,rfl⟩:=len2 hL;exact a5 (hF a (by simp)) (hF b (by simp))
  ·obtain⟨a,b,rfl⟩:=len2 hL;exact n4 (a5 (n4 (hF a (by simp))) (n4 (hF b (by simp))))
  ·obtain⟨a,b,rfl⟩:=len2 hL;exact n4 (a5 (hF a (by simp)) (n4 (hF b (by simp))))
  ·obtain⟨a,b,rfl⟩:=len2 hL;exact a5 (n4 (a5 (hF a (by simp)) (n4 (hF b (by simp))))) (n4 (a5 (hF b (by simp)) (n4 (hF a (by simp)))))
  ·obtain⟨a,rfl⟩:=len1 hL;exact x9 (hF a (by simp))
  ·obtain⟨a,rfl⟩:=len1 hL;exact n4 (x9 (n4 (hF a (by simp))))
  ·obtain⟨a,rfl⟩:=len1 hL;exact u15 .t (hF a (by simp))
  ·obtain⟨a,rfl⟩:=len1 hL;exact n4 (g13 (n4 (hF a (by simp))))
  ·obtain⟨a,rfl⟩:=len1 hL;exact g13 (hF a (by simp))
  ·obtain⟨a,rfl⟩:=len1 hL;exact n4 (u15 .t (n4 (hF a (by simp))))
  ·obtain⟨a,b,rfl⟩:=len2 hL;exact u15 (hF a (by simp)) (hF b (by simp))
  ·obtain⟨a,b,rfl⟩:=len2 hL;exact a5 (n4 (u15 (n4 (hF b (by simp))) (a5 (n4 (hF a (by simp))) (n4 (hF b (by simp)))))) (n4 (g13 (n4 (hF b (by simp)))))
  ·obtain⟨a,b,rfl⟩:=len2 hL;exact n4 (a5 (n4 (g13 (hF b (by simp)))) (n4 (u15 (hF b (by simp)) (a5 (hF a (by simp)) (hF b (by simp))))))
  ·obtain⟨a,b,rfl⟩:=len2 hL;exact n4 (u15 (n4 (hF a (by simp))) (n4 (hF b (by simp))))
theorem Few.again{f:Fo}(h:Few f):f.baseF=f:=by
 induction h with
 |a l h=>rw[Fo.baseF_mk];rfl
 |t=>rw[Fo.baseF_mk];rfl
 |o k f hk h ih =>
  rw[Fo.baseF_mk,List.map_cons,ih,List.map_nil]
  rcases hk with rfl|rfl|rfl<;>rfl
 |tw k f g hk h h2 ih ih2 =>
  rw[Fo.baseF_mk,List.map_cons,List.map_cons,ih,ih2,List.map_nil]
  rcases hk with rfl|rfl<;>rfl
theorem Few.may{f:Fo}(h:Few f):∀{d:Int},f.deepF d=true→f.mayB d=true:=by
 induction h with
 |a l h =>
  intro d hd
  rw[Fo.deepF,Bool.and_eq_true,decide_eq_true_eq]at hd
  rw[mayB_eq,decide_eq_true ⟨hd.1,rfl,rfl,by omega⟩];rfl
 |t =>
  intro d hd
  rw[Fo.deepF,Bool.and_eq_true,decide_eq_true_eq]at hd
  rw[mayB_eq,decide_eq_true ⟨hd.1,rfl,rfl,.inl rfl⟩];rfl
 |o k f hk h ih =>
  intro d hd
  rw[Fo.deepF,Bool.and_eq_true,decide_eq_true_eq,Fo.deepFs_all,List.all_cons,List.all_nil,Bool.and_true]at hd
  rw[mayB_eq,decide_eq_true ⟨hd.1,by rcases hk with rfl|rfl|rfl<;>rfl,rfl,.inl rfl⟩,List.all_cons,ih hd.2];rfl
 |tw k f g hk h h2 ih ih2 =>
  intro d hd
  rw[Fo.deepF,Bool.and_eq_true,decide_eq_true_eq,Fo.deepFs_all,List.all_cons,List.all_cons,List.all_nil,Bool.and_true,Bool.and_eq_true]at hd
  rw[mayB_eq,decide_eq_true ⟨hd.1,by rcases hk with rfl|rfl<;>rfl,rfl,.inl rfl⟩,List.all_cons,List.all_cons,ih hd.2.1,ih2 hd.2.2];rfl
theorem Few.kinds{k l:Int}{n:ByteArray}{ks:List Fo}(h:Few (.mk k n l ks)):(k=2∨k=3∨k=4∨k=5∨k=9∨k=13∨k=15)∧∀ f∈ks,Few f:=by
 cases h with
 |a l h=>exact⟨.inr (.inl rfl),fun f h=>by cases h⟩
 |t=>exact⟨.inl rfl,fun f h=>by cases h⟩
 |o _ f hk h=>exact⟨by omega,fun g hg=>by rw[List.mem_singleton.1 hg];exact h⟩
 |tw _ f g hk h h2 =>
  refine⟨by omega,fun u hu=>?_⟩
  simp only[List.mem_cons,List.not_mem_nil,or_false]at hu
  rcases hu with rfl|rfl
  ·exact h
  ·exact h2
theorem ans21:∀(f:Fo),f.ok→Few f→Ans Pg 21 [f.av] (aB true):=by
 intro f
 induction f using Fo.ind with
 |h k n l ks ih =>
  intro hok hf S
  obtain⟨h1,h2,h3,h4,h5⟩:=hok.inv
  obtain⟨hk,hks⟩:=hf.kinds
  refine ACalls.ans_v (calls21 ?_)
  unfold m21
  rw[Fo.av,Fo.row_mk]
  refine boxA_of rfl fun S1 k1 n1 o1=>?_
  have lp:loopV lv21_0 (vc Pg (c21.at_ [1,1,0,1,0,0]) (ms21.drop 1)) 28 (env21_0 (.p S.n 0 0) (.v (.int .i64 0))) S1 (blockK 1 (seqK (vc Pg (c21.at_ [1,1,1]) (ms21.drop 1)) (bodyK Pg r21 fun r S'=>r = .ret (aB true)∧Keep S S'))):=by
   refine loop21_0 (fun y S'=>S'=S1∧∃ i:Nat,y=aI i∧i≤ks.length) (fun y _=>ks.length - ((intA y).getD 0).toNat) ⟨rfl,0,rfl,Nat.zero_le _⟩ ?_
   rintro _ _ ⟨rfl,i,rfl,hi⟩ KE hKE
   unfold b21_0
   rw[shift_p,ld1_p (u:=foL ks) o1 rfl rfl,lenS_foL,bin_lss,onB_v]
   refine gd_of (fun hlt=>?_) (fun _=>⟨rfl,k1⟩)
   have hlt:i<ks.length:=by have:=dT hlt;omega
   have hmem:=List.getElem_mem hlt
   rw[shift_p,ld1_p (u:=foL ks) o1 rfl rfl,ixS_foL hlt,ldN_q (Fo.row_len _)]
   refine callF_ans (ih _ hmem (h5 _ hmem) (hks _ hmem)) ?_
   rw[un_not,onB_v,gd_nT (b:=true) rfl,bin_add (by omega) (by omega)]
   exact hKE _ _ ⟨rfl,i+1,rfl,hlt⟩ (by simp[intA];omega)
  rw[shift_p,ld1_p (u:=aI k) o1 rfl rfl]
  rcases hk with rfl|rfl|rfl|rfl|rfl|rfl|rfl
  ·exact eq_yes rfl (on_yes lp)
  ·exact eq_no (by decide) (eq_yes rfl (on_yes lp))
  ·exact eq_no (by decide) (eq_no (by decide) (eq_yes rfl (on_yes lp)))
  ·exact eq_no (by decide) (eq_no (by decide) (eq_no (by decide) (eq_yes rfl (on_yes lp))))
  ·exact eq_no (by decide) (eq_no (by decide) (eq_no (by decide) (eq_no (by decide) (eq_yes rfl (on_yes lp)))))
  ·exact eq_no (by decide) (eq_no (by decide) (eq_no (by decide) (eq_no (by decide) (eq_no (by decide) (eq_no (by decide) (eq_yes rfl lp))))))
  ·exact eq_no (by decide) (eq_no (by decide) (eq_no (by decide) (eq_no (by decide) (eq_no (by decide) (eq_yes rfl (on_yes lp))))))
theorem got_of_ok:∀(f:Fo),f.ok→f.got:=by
 intro f
 induction f using Fo.ind with
 |h k n l ks ih =>
  intro h
  obtain⟨h1,h2,h3,h4,h5⟩:=h.inv
  have hmx:maxLen=9223372036854775807:=by decide
  exact .mk _ _ _ _ h1 h2 (by omega) (by omega) fun f hf=>ih f hf (h5 f hf)
theorem law4{f:Fo}(hf:f.got):Ans Pg 4 [f.av] (aB true):=by
 intro S
 refine ACalls.ans_v (calls4 ?_)
 unfold m4
 rw[show f.av = .a f.row from rfl]
 refine boxA_of (Fo.row_len f) fun S1 k1 n1 o1=>?_
 have ca:=ans10
 have c1:=ans11 f hf (m:=300) ⟨by decide,by decide⟩
 have c2:=ans12 f hf (m:=8) ⟨by decide,by decide⟩
 show ∃ q:AV,_
 cases e1:decide (f.leftF 300<0)with
 |true =>
  (repeat (first|with_reducible_and_instances (first|refine WJ ?_|refine W (J_ldN (n:=4) o1 (Fo.row_len f)) ?_|refine W (gd_T e1) ?_|refine W (gd_F e1) ?_|refine W (gd_nT e1) ?_|refine W (gd_nF e1) ?_|refine W (J_ldq (by with_unfolding_all rfl)) ?_)|refine J_cA (ca) rfl rfl ?_|refine C_A (ca) rfl rfl ?_|refine J_cA (c1) rfl rfl ?_|refine C_A (c1) rfl rfl ?_|refine J_cA (c2) rfl rfl ?_|refine C_A (c2) rfl rfl ?_))
  exact⟨rfl,k1⟩
 |false =>
  have hok:=got_ok f hf (m:=300) (by decide) (by have:=dF e1;omega)
  cases e2:f.deepF 8 with
  |false =>
   (repeat (first|with_reducible_and_instances (first|refine WJ ?_|refine W (J_ldN (n:=4) o1 (Fo.row_len f)) ?_|refine W (gd_T e1) ?_|refine W (gd_F e1) ?_|refine W (gd_nT e1) ?_|refine W (gd_nF e1) ?_|refine W (gd_T e2) ?_|refine W (gd_F e2) ?_|refine W (gd_nT e2) ?_|refine W (gd_nF e2) ?_|refine W (J_ldq (by with_unfolding_all rfl)) ?_)|refine J_cA (ca) rfl rfl ?_|refine C_A (ca) rfl rfl ?_|refine J_cA (c1) rfl rfl ?_|refine C_A (c1) rfl rfl ?_|refine J_cA (c2) rfl rfl ?_|refine C_A (c2) rfl rfl ?_))
   exact⟨rfl,k1⟩
  |true =>
   have c3:=ans14 hok
   have c4:=ans15 hok
   have c5:=ans13 (baseN f) (baseN_ok hok)
   (repeat (first|with_reducible_and_instances (first|refine WJ ?_|refine W (J_ldN (n:=4) o1 (Fo.row_len f)) ?_|refine W (gd_T e1) ?_|refine W (gd_F e1) ?_|refine W (gd_nT e1) ?_|refine W (gd_nF e1) ?_|refine W (gd_T e2) ?_|refine W (gd_F e2) ?_|refine W (gd_nT e2) ?_|refine W (gd_nF e2) ?_|refine W (J_ldq (by with_unfolding_all rfl)) ?_)|refine J_cA (ca) rfl rfl ?_|refine C_A (ca) rfl rfl ?_|refine J_cA (c1) rfl rfl ?_|refine C_A (c1) rfl rfl ?_|refine J_cA (c2) rfl rfl ?_|refine C_A (c2) rfl rfl ?_|refine J_cA (c3) rfl rfl ?_|refine C_A (c3) rfl rfl ?_|refine J_cA (c4) rfl rfl ?_|refine C_A (c4) rfl rfl ?_|refine J_cA (c5) rfl rfl ?_|refine C_A (c5) rfl rfl ?_))
   exact⟨rfl,k1⟩
theorem law7{l:List Int}(hl:∀ x∈l,0≤x∧x<256){m:Int}(hm:0≤m∧m<256):Ans Pg 7 [aL aU8 l,aU8 m] (aB true):=by
 intro S
 refine ACalls.ans_v (calls7 ?_)
 unfold m7
 refine callF_ans ans10 ?_
 rw[un_not,onB_v,gd_nT (b:=true) rfl,convI_64 _ (by omega) (by omega)]
 refine .inl ((resM20 hl (m:=m) hm.1 (by omega)).mono ?_)
 rintro e S' ⟨tr,rfl,rfl,f,rfl,hok,hmay⟩
 show callF _ _ _ _ _ _
 refine callF_ans (ans14 hok) ?_
 have hN:baseN f=f.baseF:=by unfold baseN;rw[if_pos (mayB_mono f (by decide) hmay)]
 have hfew:Few (baseN f):=by rw[hN];exact few_base f _ hmay
 have okN:=baseN_ok hok
 refine boxA_of rfl fun S1 k1 n1 o1=>?_
 refine stA_of (cs':=(baseN f).row) o1 (Fo.row_len _) rfl fun S2 n2 o2 f2=>?_
 have k2:=k1.st (Nat.le_refl _) n2 f2
 have c1:=ans21 _ okN hfew
 have c2:=ans12 _ (got_of_ok _ okN) (m:=60) ⟨by decide,by decide⟩
 have c3:=ans14 okN
 have c4:=ans13 (baseN f) okN
 show onB (aB true) _
 cases e1:(baseN f).deepF 60 with
 |false =>
  (repeat (first|with_reducible_and_instances (first|refine WJ ?_|refine W (J_ldN (n:=4) o2 (Fo.row_len (baseN f))) ?_|refine W (gd_T e1) ?_|refine W (gd_F e1) ?_|refine W (gd_nT e1) ?_|refine W (gd_nF e1) ?_|refine W (J_ldq (by with_unfolding_all rfl)) ?_)|refine J_cA (c1) rfl rfl ?_|refine C_A (c1) rfl rfl ?_|refine J_cA (c2) rfl rfl ?_|refine C_A (c2) rfl rfl ?_))
  exact⟨rfl,k2⟩
 |true =>
  have hb:baseN (baseN f)=baseN f:=by
   rw[show baseN (baseN f)=(baseN f).baseF by rw[baseN,if_pos (hfew.may e1)],hfew.again]
  rw[hb]at c3
  (repeat (first|with_reducible_and_instances (first|refine WJ ?_|refine W (J_ldN (n:=4) o2 (Fo.row_len (baseN f))) ?_|refine W (gd_T e1) ?_|refine W (gd_F e1) ?_|refine W (gd_nT e1) ?_|refine W (gd_nF e1) ?_|refine W (J_ldq (by with_unfolding_all rfl)) ?_)|refine J_cA (c1) rfl rfl ?_|refine C_A (c1) rfl rfl ?_|refine J_cA (c2) rfl rfl ?_|refine C_A (c2) rfl rfl ?_|refine J_cA (c3) rfl rfl ?_|refine C_A (c3) rfl rfl ?_|refine J_cA (c4) rfl rfl ?_|refine C_A (c4) rfl rfl ?_))
  exact⟨rfl,k2⟩
section
set_option maxRecDepth 100000
def c5:Code:=(Tryz.f5.body).getD .skip
def r5:List ResultVar:=Tryz.f5.results.toList
def ms5:List (List Nat):=[[20]]
def m5(x0 x1 x2:AV)(S:Store)(Q:PoT):Prop:=
 callF Pg 16 [x0] S Q fun c S=>callF Pg 17 [x1] S Q fun d S=>boxN 35 4 (.a [.v (.int .i64 0),.v (.string ByteArray.empty),.v (.int .i64 0),.nl]) S fun e S=>boxN 29 8 (.a [.v (.int .i64 0),.nl,.nl,.nl,.nl,.nl,.nl,.nl]) S fun f S=>stN 4 e c S fun g S=>stN 8 f d S fun h S=>ldN 8 f S fun i S=>ldN 4 e S fun k S=>callF Pg 18 [i,k] S Q fun l S=>extr l 0 S fun m S=>extr l 1 S fun n S=>boxN 35 4 (.a [.v (.int .i64 0),.v (.string ByteArray.empty),.v (.int .i64 0),.nl]) S fun o S=>stN 4 o m S fun p S=>ldN 8 f S fun q S=>ldN 4 e S fun r S=>callF Pg 19 [q,r] S Q fun s S=>extr s 0 S fun t S=>extr s 1 S fun u S=>boxN 35 4 (.a [.v (.int .i64 0),.v (.string ByteArray.empty),.v (.int .i64 0),.nl]) S fun w S=>stN 4 w t S fun x S=>convI .i64 x2 S fun y S=>callF Pg 20 [x0,y] S Q fun z S=>boxN 35 4 (.a [.v (.int .i64 0),.v (.string ByteArray.empty),.v (.int .i64 0),.nl]) S fun A S=>stN 4 A z S fun B S=>(fun S0:Store=>∃ C:AV,(callF Pg 10 [] S (fun _ _=>False) fun D S=>D=C∧S=S0)∧onB C fun b=>gd b (∃ E:AV,(ldN 4 o S fun F S=>F=E∧S=S0)∧∃ G:AV,(ldN 4 w S fun H S=>H=G∧S=S0)∧∃ I:AV,(callF Pg 13 [E,G] S (fun _ _=>False) fun J S=>J=I∧S=S0)∧∃ K:AV,(I=K∧S=S0)∧onB K fun b=>gd b (∃ L:AV,(bin .eql 0 n u S fun M S=>M=L∧S=S0)∧∃ N:AV,(L=N∧S=S0)∧onB N fun b=>gd b (∃ O:AV,(ldN 4 o S fun P S=>P=O∧S=S0)∧∃ R:AV,(callF Pg 14 [O] S (fun _ _=>False) fun T S=>T=R∧S=S0)∧∃ U:AV,(ldN 4 w S fun V S=>V=U∧S=S0)∧∃ W:AV,(callF Pg 15 [U] S (fun _ _=>False) fun X S=>X=W∧S=S0)∧∃ Y:AV,(callF Pg 13 [R,W] S (fun _ _=>False) fun Z S=>Z=Y∧S=S0)∧∃ a0:AV,(Y=a0∧S=S0)∧onB a0 fun b=>gd b (∃ a1:AV,(ldN 4 A S fun a2 S=>a2=a1∧S=S0)∧∃ a3:AV,(callF Pg 14 [a1] S (fun _ _=>False) fun a4 S=>a4=a3∧S=S0)∧∃ a5:AV,(ldN 4 A S fun a6 S=>a6=a5∧S=S0)∧∃ a7:AV,(callF Pg 15 [a5] S (fun _ _=>False) fun a8 S=>a8=a7∧S=S0)∧∃ a9:AV,(callF Pg 13 [a3,a7] S (fun _ _=>False) fun b0 S=>b0=a9∧S=S0)∧∃ b1:AV,(a9=b1∧S=S0)∧Q (.ret b1) S) (∃ b2:AV,((.v (.bool false))=b2∧S=S0)∧Q (.ret b2) S)) (∃ b3:AV,((.v (.bool false))=b3∧S=S0)∧onB b3 fun b=>gd b (∃ b4:AV,(ldN 4 A S fun b5 S=>b5=b4∧S=S0)∧∃ b6:AV,(callF Pg 14 [b4] S (fun _ _=>False) fun b7 S=>b7=b6∧S=S0)∧∃ b8:AV,(ldN 4 A S fun b9 S=>b9=b8∧S=S0)∧∃ c0:AV,(callF Pg 15 [b8] S (fun _ _=>False) fun c1 S=>c1=c0∧S=S0)∧∃ c2:AV,(callF Pg 13 [b6,c0] S (fun _ _=>False) fun c3 S=>c3=c2∧S=S0)∧∃ c4:AV,(c2=c4∧S=S0)∧Q (.ret c4) S) (∃ c5:AV,((.v (.bool false))=c5∧S=S0)∧Q (.ret c5) S))) (∃ c6:AV,((.v (.bool false))=c6∧S=S0)∧onB c6 fun b=>gd b (∃ c7:AV,(ldN 4 o S fun c8 S=>c8=c7∧S=S0)∧∃ c9:AV,(callF Pg 14 [c7] S (fun _ _=>False) fun d0 S=>d0=c9∧S=S0)∧∃ d1:AV,(ldN 4 w S fun d2 S=>d2=d1∧S=S0)∧∃ d3:AV,(callF Pg 15 [d1] S (fun _ _=>False) fun d4 S=>d4=d3∧S=S0)∧∃ d5:AV,(callF Pg 13 [c9,d3] S (fun _ _=>False) fun d6 S=>d6=d5∧S=S0)∧∃ d7:AV,(d5=d7∧S=S0)∧onB d7 fun b=>gd b (∃ d8:AV,(ldN 4 A S fun d9 S=>d9=d8∧S=S0)∧∃ e0:AV,(callF Pg 14 [d8] S (fun _ _=>False) fun e1 S=>e1=e0∧S=S0)∧∃ e2:AV,(ldN 4 A S fun e3 S=>e3=e2∧S=S0)∧∃ e4:AV,(callF Pg 15 [e2] S (fun _ _=>False) fun e5 S=>e5=e4∧S=S0)∧∃ e6:AV,(callF Pg 13 [e0,e4] S (fun _ _=>False) fun e7 S=>e7=e6∧S=S0)∧∃ e8:AV,(e6=e8∧S=S0)∧Q (.ret e8) S) (∃ e9:AV,((.v (.bool false))=e9∧S=S0)∧Q (.ret e9) S)) (∃ f0:AV,((.v (.bool false))=f0∧S=S0)∧onB f0 fun b=>gd b (∃ f1:AV,(ldN 4 A S fun f2 S=>f2=f1∧S=S0)∧∃ f3:AV,(callF Pg 14 [f1] S (fun _ _=>False) fun f4 S=>f4=f3∧S=S0)∧∃ f5:AV,(ldN 4 A S fun f6 S=>f6=f5∧S=S0)∧∃ f7:AV,(callF Pg 15 [f5] S (fun _ _=>False) fun f8 S=>f8=f7∧S=S0)∧∃ f9:AV,(callF Pg 13 [f3,f7] S (fun _ _=>False) fun g0 S=>g0=f9∧S=S0)∧∃ g1:AV,(f9=g1∧S=S0)∧Q (.ret g1) S) (∃ g2:AV,((.v (.bool false))=g2∧S=S0)∧Q (.ret g2) S)))) (∃ g3:AV,((.v (.bool false))=g3∧S=S0)∧onB g3 fun b=>gd b (∃ g4:AV,(bin .eql 0 n u S fun g5 S=>g5=g4∧S=S0)∧∃ g6:AV,(g4=g6∧S=S0)∧onB g6 fun b=>gd b (∃ g7:AV,(ldN 4 o S fun g8 S=>g8=g7∧S=S0)∧∃ g9:AV,(callF Pg 14 [g7] S (fun _ _=>False) fun h0 S=>h0=g9∧S=S0)∧∃ h1:AV,(ldN 4 w S fun h2 S=>h2=h1∧S=S0)∧∃ h3:AV,(callF Pg 15 [h1] S (fun _ _=>False) fun h4 S=>h4=h3∧S=S0)∧∃ h5:AV,(callF Pg 13 [g9,h3] S (fun _ _=>False) fun h6 S=>h6=h5∧S=S0)∧∃ h7:AV,(h5=h7∧S=S0)∧onB h7 fun b=>gd b (∃ h8:AV,(ldN 4 A S fun h9 S=>h9=h8∧S=S0)∧∃ i0:AV,(callF Pg 14 [h8] S (fun _ _=>False) fun i1 S=>i1=i0∧S=S0)∧∃ i2:AV,(ldN 4 A S fun i3 S=>i3=i2∧S=S0)∧∃ i4:AV,(callF Pg 15 [i2] S (fun _ _=>False) fun i5 S=>i5=i4∧S=S0)∧∃ i6:AV,(callF Pg 13 [i0,i4] S (fun _ _=>False) fun i7 S=>i7=i6∧S=S0)∧∃ i8:AV,(i6=i8∧S=S0)∧Q (.ret i8) S) (∃ i9:AV,((.v (.bool false))=i9∧S=S0)∧Q (.ret i9) S)) (∃ k0:AV,((.v (.bool false))=k0∧S=S0)∧onB k0 fun b=>gd b (∃ k1:AV,(ldN 4 A S fun k2 S=>k2=k1∧S=S0)∧∃ k3:AV,(callF Pg 14 [k1] S (fun _ _=>False) fun k4 S=>k4=k3∧S=S0)∧∃ k5:AV,(ldN 4 A S fun k6 S=>k6=k5∧S=S0)∧∃ k7:AV,(callF Pg 15 [k5] S (fun _ _=>False) fun k8 S=>k8=k7∧S=S0)∧∃ k9:AV,(callF Pg 13 [k3,k7] S (fun _ _=>False) fun l0 S=>l0=k9∧S=S0)∧∃ l1:AV,(k9=l1∧S=S0)∧Q (.ret l1) S) (∃ l2:AV,((.v (.bool false))=l2∧S=S0)∧Q (.ret l2) S))) (∃ l3:AV,((.v (.bool false))=l3∧S=S0)∧onB l3 fun b=>gd b (∃ l4:AV,(ldN 4 o S fun l5 S=>l5=l4∧S=S0)∧∃ l6:AV,(callF Pg 14 [l4] S (fun _ _=>False) fun l7 S=>l7=l6∧S=S0)∧∃ l8:AV,(ldN 4 w S fun l9 S=>l9=l8∧S=S0)∧∃ aA:AV,(callF Pg 15 [l8] S (fun _ _=>False) fun aB S=>aB=aA∧S=S0)∧∃ aC:AV,(callF Pg 13 [l6,aA] S (fun _ _=>False) fun aD S=>aD=aC∧S=S0)∧∃ aE:AV,(aC=aE∧S=S0)∧onB aE fun b=>gd b (∃ aF:AV,(ldN 4 A S fun aG S=>aG=aF∧S=S0)∧∃ aH:AV,(callF Pg 14 [aF] S (fun _ _=>False) fun aI S=>aI=aH∧S=S0)∧∃ aJ:AV,(ldN 4 A S fun aK S=>aK=aJ∧S=S0)∧∃ aL:AV,(callF Pg 15 [aJ] S (fun _ _=>False) fun aM S=>aM=aL∧S=S0)∧∃ aN:AV,(callF Pg 13 [aH,aL] S (fun _ _=>False) fun aO S=>aO=aN∧S=S0)∧∃ aP:AV,(aN=aP∧S=S0)∧Q (.ret aP) S) (∃ aQ:AV,((.v (.bool false))=aQ∧S=S0)∧Q (.ret aQ) S)) (∃ aR:AV,((.v (.bool false))=aR∧S=S0)∧onB aR fun b=>gd b (∃ aS:AV,(ldN 4 A S fun aT S=>aT=aS∧S=S0)∧∃ aU:AV,(callF Pg 14 [aS] S (fun _ _=>False) fun aV S=>aV=aU∧S=S0)∧∃ aW:AV,(ldN 4 A S fun aX S=>aX=aW∧S=S0)∧∃ aY:AV,(callF Pg 15 [aW] S (fun _ _=>False) fun aZ S=>aZ=aY∧S=S0)∧∃ bA:AV,(callF Pg 13 [aU,aY] S (fun _ _=>False) fun bB S=>bB=bA∧S=S0)∧∃ bC:AV,(bA=bC∧S=S0)∧Q (.ret bC) S) (∃ bD:AV,((.v (.bool false))=bD∧S=S0)∧Q (.ret bD) S))))) S
theorem calls5{x0 x1 x2:AV}{S:Store}{Q:PoT}(h:m5 x0 x1 x2 S Q):ACalls Pg 5 [x0,x1,x2] S Q:=
 calls_of_vc (fn:=Tryz.f5) (c:=c5) (n:=59) Tryz.func5 (by kernel_rfl) (by kernel_rfl) (by kernel_rfl) ms5 (Eq.mpr (by kernel_rfl) h)
def c6:Code:=(Tryz.f6.body).getD .skip
def r6:List ResultVar:=Tryz.f6.results.toList
def ms6:List (List Nat):=[[20]]
def m6(x0 x1 x2 x3:AV)(S:Store)(Q:PoT):Prop:=
 callF Pg 16 [x0] S Q fun c S=>callF Pg 17 [x1] S Q fun d S=>boxN 35 4 (.a [.v (.int .i64 0),.v (.string ByteArray.empty),.v (.int .i64 0),.nl]) S fun e S=>boxN 29 8 (.a [.v (.int .i64 0),.nl,.nl,.nl,.nl,.nl,.nl,.nl]) S fun f S=>stN 4 e c S fun g S=>stN 8 f d S fun h S=>bin .rem 0 x2 (.v (.int .u8 4)) S fun i S=>bin .eql 0 i (.v (.int .u8 0)) S fun k S=>onB k fun b=>gd b (shift e 2 S fun l S=>stN 1 l x3 S fun m S=>ldN 8 f S fun n S=>ldN 4 e S fun o S=>callF Pg 18 [n,o] S Q fun p S=>extr p 0 S fun q S=>extr p 1 S fun r S=>boxN 35 4 (.a [.v (.int .i64 0),.v (.string ByteArray.empty),.v (.int .i64 0),.nl]) S fun s S=>stN 4 s q S fun t S=>ldN 8 f S fun u S=>ldN 4 e S fun w S=>callF Pg 19 [u,w] S Q fun x S=>extr x 0 S fun y S=>extr x 1 S fun z S=>boxN 35 4 (.a [.v (.int .i64 0),.v (.string ByteArray.empty),.v (.int .i64 0),.nl]) S fun A S=>stN 4 A y S fun B S=>(fun S0:Store=>∃ C:AV,(callF Pg 10 [] S (fun _ _=>False) fun D S=>D=C∧S=S0)∧onB C fun b=>gd b (∃ E:AV,(ldN 4 s S fun F S=>F=E∧S=S0)∧∃ G:AV,(ldN 4 A S fun H S=>H=G∧S=S0)∧∃ I:AV,(callF Pg 13 [E,G] S (fun _ _=>False) fun J S=>J=I∧S=S0)∧∃ K:AV,(I=K∧S=S0)∧onB K fun b=>gd b (∃ L:AV,(bin .eql 0 r z S fun M S=>M=L∧S=S0)∧∃ N:AV,(L=N∧S=S0)∧onB N fun b=>gd b (∃ O:AV,(ldN 4 e S fun P S=>P=O∧S=S0)∧∃ R:AV,(callF Pg 14 [O] S (fun _ _=>False) fun T S=>T=R∧S=S0)∧∃ U:AV,(ldN 4 e S fun V S=>V=U∧S=S0)∧∃ W:AV,(callF Pg 15 [U] S (fun _ _=>False) fun X S=>X=W∧S=S0)∧∃ Y:AV,(callF Pg 13 [R,W] S (fun _ _=>False) fun Z S=>Z=Y∧S=S0)∧∃ a0:AV,(Y=a0∧S=S0)∧Q (.ret a0) S) (∃ a1:AV,((.v (.bool false))=a1∧S=S0)∧Q (.ret a1) S)) (∃ a2:AV,((.v (.bool false))=a2∧S=S0)∧onB a2 fun b=>gd b (∃ a3:AV,(ldN 4 e S fun a4 S=>a4=a3∧S=S0)∧∃ a5:AV,(callF Pg 14 [a3] S (fun _ _=>False) fun a6 S=>a6=a5∧S=S0)∧∃ a7:AV,(ldN 4 e S fun a8 S=>a8=a7∧S=S0)∧∃ a9:AV,(callF Pg 15 [a7] S (fun _ _=>False) fun b0 S=>b0=a9∧S=S0)∧∃ b1:AV,(callF Pg 13 [a5,a9] S (fun _ _=>False) fun b2 S=>b2=b1∧S=S0)∧∃ b3:AV,(b1=b3∧S=S0)∧Q (.ret b3) S) (∃ b4:AV,((.v (.bool false))=b4∧S=S0)∧Q (.ret b4) S))) (∃ b5:AV,((.v (.bool false))=b5∧S=S0)∧onB b5 fun b=>gd b (∃ b6:AV,(bin .eql 0 r z S fun b7 S=>b7=b6∧S=S0)∧∃ b8:AV,(b6=b8∧S=S0)∧onB b8 fun b=>gd b (∃ c0:AV,(ldN 4 e S fun c1 S=>c1=c0∧S=S0)∧∃ c2:AV,(callF Pg 14 [c0] S (fun _ _=>False) fun c3 S=>c3=c2∧S=S0)∧∃ c4:AV,(ldN 4 e S fun c5 S=>c5=c4∧S=S0)∧∃ c6:AV,(callF Pg 15 [c4] S (fun _ _=>False) fun c7 S=>c7=c6∧S=S0)∧∃ c8:AV,(callF Pg 13 [c2,c6] S (fun _ _=>False) fun c9 S=>c9=c8∧S=S0)∧∃ d0:AV,(c8=d0∧S=S0)∧Q (.ret d0) S) (∃ d1:AV,((.v (.bool false))=d1∧S=S0)∧Q (.ret d1) S)) (∃ d2:AV,((.v (.bool false))=d2∧S=S0)∧onB d2 fun b=>gd b (∃ d3:AV,(ldN 4 e S fun d4 S=>d4=d3∧S=S0)∧∃ d5:AV,(callF Pg 14 [d3] S (fun _ _=>False) fun d6 S=>d6=d5∧S=S0)∧∃ d7:AV,(ldN 4 e S fun d8 S=>d8=d7∧S=S0)∧∃ d9:AV,(callF Pg 15 [d7] S (fun _ _=>False) fun e0 S=>e0=d9∧S=S0)∧∃ e1:AV,(callF Pg 13 [d5,d9] S (fun _ _=>False) fun e2 S=>e2=e1∧S=S0)∧∃ e3:AV,(e1=e3∧S=S0)∧Q (.ret e3) S) (∃ e4:AV,((.v (.bool false))=e4∧S=S0)∧Q (.ret e4) S)))) S) (bin .eql 0 i (.v (.int .u8 1)) S fun e5 S=>onB e5 fun b=>gd b (shift f 0 S fun e6 S=>stN 1 e6 x3 S fun e7 S=>ldN 8 f S fun e8 S=>ldN 4 e S fun e9 S=>callF Pg 18 [e8,e9] S Q fun f0 S=>extr f0 0 S fun f1 S=>extr f0 1 S fun f2 S=>boxN 35 4 (.a [.v (.int .i64 0),.v (.string ByteArray.empty),.v (.int .i64 0),.nl]) S fun f3 S=>stN 4 f3 f1 S fun f4 S=>ldN 8 f S fun f5 S=>ldN 4 e S fun f6 S=>callF Pg 19 [f5,f6] S Q fun f7 S=>extr f7 0 S fun f8 S=>extr f7 1 S fun f9 S=>boxN 35 4 (.a [.v (.int .i64 0),.v (.string ByteArray.empty),.v (.int .i64 0),.nl]) S fun g0 S=>stN 4 g0 f8 S fun g1 S=>(fun S0:Store=>∃ g2:AV,(callF Pg 10 [] S (fun _ _=>False) fun g3 S=>g3=g2∧S=S0)∧onB g2 fun b=>gd b (∃ g4:AV,(ldN 4 f3 S fun g5 S=>g5=g4∧S=S0)∧∃ g6:AV,(ldN 4 g0 S fun g7 S=>g7=g6∧S=S0)∧∃ g8:AV,(callF Pg 13 [g4,g6] S (fun _ _=>False) fun g9 S=>g9=g8∧S=S0)∧∃ h0:AV,(g8=h0∧S=S0)∧onB h0 fun b=>gd b (∃ h1:AV,(bin .eql 0 f2 f9 S fun h2 S=>h2=h1∧S=S0)∧∃ h3:AV,(h1=h3∧S=S0)∧onB h3 fun b=>gd b (∃ h4:AV,(ldN 4 e S fun h5 S=>h5=h4∧S=S0)∧∃ h6:AV,(callF Pg 14 [h4] S (fun _ _=>False) fun h7 S=>h7=h6∧S=S0)∧∃ h8:AV,(ldN 4 e S fun h9 S=>h9=h8∧S=S0)∧∃ i0:AV,(callF Pg 15 [h8] S (fun _ _=>False) fun i1 S=>i1=i0∧S=S0)∧∃ i2:AV,(callF Pg 13 [h6,i0] S (fun _ _=>False) fun i3 S=>i3=i2∧S=S0)∧∃ i4:AV,(i2=i4∧S=S0)∧Q (.ret i4) S) (∃ i5:AV,((.v (.bool false))=i5∧S=S0)∧Q (.ret i5) S)) (∃ i6:AV,((.v (.bool false))=i6∧S=S0)∧onB i6 fun b=>gd b (∃ i7:AV,(ldN 4 e S fun i8 S=>i8=i7∧S=S0)∧∃ i9:AV,(callF Pg 14 [i7] S (fun _ _=>False) fun k0 S=>k0=i9∧S=S0)∧∃ k1:AV,(ldN 4 e S fun k2 S=>k2=k1∧S=S0)∧∃ k3:AV,(callF Pg 15 [k1] S (fun _ _=>False) fun k4 S=>k4=k3∧S=S0)∧∃ k5:AV,(callF Pg 13 [i9,k3] S (fun _ _=>False) fun k6 S=>k6=k5∧S=S0)∧∃ k7:AV,(k5=k7∧S=S0)∧Q (.ret k7) S) (∃ k8:AV,((.v (.bool false))=k8∧S=S0)∧Q (.ret k8) S))) (∃ k9:AV,((.v (.bool false))=k9∧S=S0)∧onB k9 fun b=>gd b (∃ l0:AV,(bin .eql 0 f2 f9 S fun l1 S=>l1=l0∧S=S0)∧∃ l2:AV,(l0=l2∧S=S0)∧onB l2 fun b=>gd b (∃ l3:AV,(ldN 4 e S fun l4 S=>l4=l3∧S=S0)∧∃ l5:AV,(callF Pg 14 [l3] S (fun _ _=>False) fun l6 S=>l6=l5∧S=S0)∧∃ l7:AV,(ldN 4 e S fun l8 S=>l8=l7∧S=S0)∧∃ l9:AV,(callF Pg 15 [l7] S (fun _ _=>False) fun aA S=>aA=l9∧S=S0)∧∃ aB:AV,(callF Pg 13 [l5,l9] S (fun _ _=>False) fun aC S=>aC=aB∧S=S0)∧∃ aD:AV,(aB=aD∧S=S0)∧Q (.ret aD) S) (∃ aE:AV,((.v (.bool false))=aE∧S=S0)∧Q (.ret aE) S)) (∃ aF:AV,((.v (.bool false))=aF∧S=S0)∧onB aF fun b=>gd b (∃ aG:AV,(ldN 4 e S fun aH S=>aH=aG∧S=S0)∧∃ aI:AV,(callF Pg 14 [aG] S (fun _ _=>False) fun aJ S=>aJ=aI∧S=S0)∧∃ aK:AV,(ldN 4 e S fun aL S=>aL=aK∧S=S0)∧∃ aM:AV,(callF Pg 15 [aK] S (fun _ _=>False) fun aN S=>aN=aM∧S=S0)∧∃ aO:AV,(callF Pg 13 [aI,aM] S (fun _ _=>False) fun aP S=>aP=aO∧S=S0)∧∃ aQ:AV,(aO=aQ∧S=S0)∧Q (.ret aQ) S) (∃ aR:AV,((.v (.bool false))=aR∧S=S0)∧Q (.ret aR) S)))) S) (bin .eql 0 i (.v (.int .u8 2)) S fun aS S=>onB aS fun b=>gd b (ldN 4 e S fun aT S=>bslN 35 4 1 [.v (.int .i64 0),.v (.string ByteArray.empty),.v (.int .i64 0),.nl] [(0,aT)] S fun aU S=>bld [(0,1),(1,1),(2,1),(3,1)] [.v (.int .i64 0),.v (.string ByteArray.empty),.v (.int .i64 0),.nl] [(0,x3),(3,aU)] S fun aV S=>stN 4 e aV S fun aW S=>ldN 8 f S fun aX S=>ldN 4 e S fun aY S=>callF Pg 18 [aX,aY] S Q fun aZ S=>extr aZ 0 S fun bA S=>extr aZ 1 S fun bB S=>boxN 35 4 (.a [.v (.int .i64 0),.v (.string ByteArray.empty),.v (.int .i64 0),.nl]) S fun bC S=>stN 4 bC bA S fun bD S=>ldN 8 f S fun bE S=>ldN 4 e S fun bF S=>callF Pg 19 [bE,bF] S Q fun bG S=>extr bG 0 S fun bH S=>extr bG 1 S fun bI S=>boxN 35 4 (.a [.v (.int .i64 0),.v (.string ByteArray.empty),.v (.int .i64 0),.nl]) S fun bJ S=>stN 4 bJ bH S fun bK S=>(fun S0:Store=>∃ bL:AV,(callF Pg 10 [] S (fun _ _=>False) fun bM S=>bM=bL∧S=S0)∧onB bL fun b=>gd b (∃ bN:AV,(ldN 4 bC S fun bO S=>bO=bN∧S=S0)∧∃ bP:AV,(ldN 4 bJ S fun bQ S=>bQ=bP∧S=S0)∧∃ bR:AV,(callF Pg 13 [bN,bP] S (fun _ _=>False) fun bS S=>bS=bR∧S=S0)∧∃ bT:AV,(bR=bT∧S=S0)∧onB bT fun b=>gd b (∃ bU:AV,(bin .eql 0 bB bI S fun bV S=>bV=bU∧S=S0)∧∃ bW:AV,(bU=bW∧S=S0)∧onB bW fun b=>gd b (∃ bX:AV,(ldN 4 e S fun bY S=>bY=bX∧S=S0)∧∃ bZ:AV,(callF Pg 14 [bX] S (fun _ _=>False) fun cA S=>cA=bZ∧S=S0)∧∃ cB:AV,(ldN 4 e S fun cC S=>cC=cB∧S=S0)∧∃ cD:AV,(callF Pg 15 [cB] S (fun _ _=>False) fun cE S=>cE=cD∧S=S0)∧∃ cF:AV,(callF Pg 13 [bZ,cD] S (fun _ _=>False) fun cG S=>cG=cF∧S=S0)∧∃ cH:AV,(cF=cH∧S=S0)∧Q (.ret cH) S) (∃ cI:AV,((.v (.bool false))=cI∧S=S0)∧Q (.ret cI) S)) (∃ cJ:AV,((.v (.bool false))=cJ∧S=S0)∧onB cJ fun b=>gd b (∃ cK:AV,(ldN 4 e S fun cL S=>cL=cK∧S=S0)∧∃ cM:AV,(callF Pg 14 [cK] S (fun _ _=>False) fun cN S=>cN=cM∧S=S0)∧∃ cO:AV,(ldN 4 e S fun cP S=>cP=cO∧S=S0)∧∃ cQ:AV,(callF Pg 15 [cO] S (fun _ _=>False) fun cR S=>cR=cQ∧S=S0)∧∃ cS:AV,(callF Pg 13 [cM,cQ] S (fun _ _=>False) fun cT S=>cT=cS∧S=S0)∧∃ cU:AV,(cS=cU∧S=S0)∧Q (.ret cU) S) (∃ cV:AV,((.v (.bool false))=cV∧S=S0)∧Q (.ret cV) S))) (∃ cW:AV,((.v (.bool false))=cW∧S=S0)∧onB cW fun b=>gd b (∃ cX:AV,(bin .eql 0 bB bI S fun cY S=>cY=cX∧S=S0)∧∃ cZ:AV,(cX=cZ∧S=S0)∧onB cZ fun b=>gd b (∃ dA:AV,(ldN 4 e S fun dB S=>dB=dA∧S=S0)∧∃ dC:AV,(callF Pg 14 [dA] S (fun _ _=>False) fun dD S=>dD=dC∧S=S0)∧∃ dE:AV,(ldN 4 e S fun dF S=>dF=dE∧S=S0)∧∃ dG:AV,(callF Pg 15 [dE] S (fun _ _=>False) fun dH S=>dH=dG∧S=S0)∧∃ dI:AV,(callF Pg 13 [dC,dG] S (fun _ _=>False) fun dJ S=>dJ=dI∧S=S0)∧∃ dK:AV,(dI=dK∧S=S0)∧Q (.ret dK) S) (∃ dL:AV,((.v (.bool false))=dL∧S=S0)∧Q (.ret dL) S)) (∃ dM:AV,((.v (.bool false))=dM∧S=S0)∧onB dM fun b=>gd b (∃ dN:AV,(ldN 4 e S fun dO S=>dO=dN∧S=S0)∧∃ dP:AV,(callF Pg 14 [dN] S (fun _ _=>False) fun dQ S=>dQ=dP∧S=S0)∧∃ dR:AV,(ldN 4 e S fun dS S=>dS=dR∧S=S0)∧∃ dT:AV,(callF Pg 15 [dR] S (fun _ _=>False) fun dU S=>dU=dT∧S=S0)∧∃ dV:AV,(callF Pg 13 [dP,dT] S (fun _ _=>False) fun dW S=>dW=dV∧S=S0)∧∃ dX:AV,(dV=dX∧S=S0)∧Q (.ret dX) S) (∃ dY:AV,((.v (.bool false))=dY∧S=S0)∧Q (.ret dY) S)))) S) (callF Pg 20 [x0,.v (.int .i64 9)] S Q fun dZ S=>bslN 35 4 1 [.v (.int .i64 0),.v (.string ByteArray.empty),.v (.int .i64 0),.nl] [(0,dZ)] S fun eA S=>bld [(0,1),(1,1),(2,1),(3,1)] [.v (.int .i64 0),.v (.string ByteArray.empty),.v (.int .i64 0),.nl] [(0,(.v (.int .i64 9))),(2,x3),(3,eA)] S fun eB S=>stN 4 e eB S fun eC S=>ldN 8 f S fun eD S=>ldN 4 e S fun eE S=>callF Pg 18 [eD,eE] S Q fun eF S=>extr eF 0 S fun eG S=>extr eF 1 S fun eH S=>boxN 35 4 (.a [.v (.int .i64 0),.v (.string ByteArray.empty),.v (.int .i64 0),.nl]) S fun eI S=>stN 4 eI eG S fun eJ S=>ldN 8 f S fun eK S=>ldN 4 e S fun eL S=>callF Pg 19 [eK,eL] S Q fun eM S=>extr eM 0 S fun eN S=>extr eM 1 S fun eO S=>boxN 35 4 (.a [.v (.int .i64 0),.v (.string ByteArray.empty),.v (.int .i64 0),.nl]) S fun eP S=>stN 4 eP eN S fun eQ S=>(fun S0:Store=>∃ eR:AV,(callF Pg 10 [] S (fun _ _=>False) fun eS S=>eS=eR∧S=S0)∧onB eR fun b=>gd b (∃ eT:AV,(ldN 4 eI S fun eU S=>eU=eT∧S=S0)∧∃ eV:AV,(ldN 4 eP S fun eW S=>eW=eV∧S=S0)∧∃ eX:AV,(callF Pg 13 [eT,eV] S (fun _ _=>False) fun eY S=>eY=eX∧S=S0)∧∃ eZ:AV,(eX=eZ∧S=S0)∧onB eZ fun b=>gd b (∃ fA:AV,(bin .eql 0 eH eO S fun fB S=>fB=fA∧S=S0)∧∃ fC:AV,(fA=fC∧S=S0)∧onB fC fun b=>gd b (∃ fD:AV,(ldN 4 e S fun fE S=>fE=fD∧S=S0)∧∃ fF:AV,(callF Pg 14 [fD] S (fun _ _=>False) fun fG S=>fG=fF∧S=S0)∧∃ fH:AV,(ldN 4 e S fun fI S=>fI=fH∧S=S0)∧∃ fJ:AV,(callF Pg 15 [fH] S (fun _ _=>False) fun fK S=>fK=fJ∧S=S0)∧∃ fL:AV,(callF Pg 13 [fF,fJ] S (fun _ _=>False) fun fM S=>fM=fL∧S=S0)∧∃ fN:AV,(fL=fN∧S=S0)∧Q (.ret fN) S) (∃ fO:AV,((.v (.bool false))=fO∧S=S0)∧Q (.ret fO) S)) (∃ fP:AV,((.v (.bool false))=fP∧S=S0)∧onB fP fun b=>gd b (∃ fQ:AV,(ldN 4 e S fun fR S=>fR=fQ∧S=S0)∧∃ fS:AV,(callF Pg 14 [fQ] S (fun _ _=>False) fun fT S=>fT=fS∧S=S0)∧∃ fU:AV,(ldN 4 e S fun fV S=>fV=fU∧S=S0)∧∃ fW:AV,(callF Pg 15 [fU] S (fun _ _=>False) fun fX S=>fX=fW∧S=S0)∧∃ fY:AV,(callF Pg 13 [fS,fW] S (fun _ _=>False) fun fZ S=>fZ=fY∧S=S0)∧∃ gA:AV,(fY=gA∧S=S0)∧Q (.ret gA) S) (∃ gB:AV,((.v (.bool false))=gB∧S=S0)∧Q (.ret gB) S))) (∃ gC:AV,((.v (.bool false))=gC∧S=S0)∧onB gC fun b=>gd b (∃ gD:AV,(bin .eql 0 eH eO S fun gE S=>gE=gD∧S=S0)∧∃ gF:AV,(gD=gF∧S=S0)∧onB gF fun b=>gd b (∃ gG:AV,(ldN 4 e S fun gH S=>gH=gG∧S=S0)∧∃ gI:AV,(callF Pg 14 [gG] S (fun _ _=>False) fun gJ S=>gJ=gI∧S=S0)∧∃ gK:AV,(ldN 4 e S fun gL S=>gL=gK∧S=S0)∧∃ gM:AV,(callF Pg 15 [gK] S (fun _ _=>False) fun gN S=>gN=gM∧S=S0)∧∃ gO:AV,(callF Pg 13 [gI,gM] S (fun _ _=>False) fun gP S=>gP=gO∧S=S0)∧∃ gQ:AV,(gO=gQ∧S=S0)∧Q (.ret gQ) S) (∃ gR:AV,((.v (.bool false))=gR∧S=S0)∧Q (.ret gR) S)) (∃ gS:AV,((.v (.bool false))=gS∧S=S0)∧onB gS fun b=>gd b (∃ gT:AV,(ldN 4 e S fun gU S=>gU=gT∧S=S0)∧∃ gV:AV,(callF Pg 14 [gT] S (fun _ _=>False) fun gW S=>gW=gV∧S=S0)∧∃ gX:AV,(ldN 4 e S fun gY S=>gY=gX∧S=S0)∧∃ gZ:AV,(callF Pg 15 [gX] S (fun _ _=>False) fun hA S=>hA=gZ∧S=S0)∧∃ hB:AV,(callF Pg 13 [gV,gZ] S (fun _ _=>False) fun hC S=>hC=hB∧S=S0)∧∃ hD:AV,(hB=hD∧S=S0)∧Q (.ret hD) S) (∃ hE:AV,((.v (.bool false))=hE∧S=S0)∧Q (.ret hE) S)))) S)))
theorem calls6{x0 x1 x2 x3:AV}{S:Store}{Q:PoT}(h:m6 x0 x1 x2 x3 S Q):ACalls Pg 6 [x0,x1,x2,x3] S Q:=
 calls_of_vc (fn:=Tryz.f6) (c:=c6) (n:=70) Tryz.func6 (by kernel_rfl) (by kernel_rfl) (by kernel_rfl) ms6 (Eq.mpr (by kernel_rfl) h)
end
theorem may_nodes:∀(f:Fo) (d:Nat),f.mayB d=true→f.nodes≤2 ^ d - 1∧f.short:=by
 intro f
 induction f using Fo.ind with
 |h k n l ks ih =>
  intro d h
  obtain⟨hl,hn,_,hk⟩:=may_len h
  have h0:0<(d:Int):=by
   rw[mayB_eq,Bool.and_eq_true,decide_eq_true_eq]at h
   exact h.1.1
  obtain⟨e,rfl⟩:∃ e,d=e+1:=⟨d - 1,by omega⟩
  have hk':∀ f∈ks,f.mayB (e:Int)=true:=fun f hf=>by
   have:=hk f hf
   rwa [show((e+1:Nat):Int) - 1=(e:Int)by omega]at this
  have hkl:=kidsN_le k
  refine⟨?_,.mk _ _ _ _ (by rw[hn];decide) fun f hf=>(ih f hf _ (hk' f hf)).2⟩
  rw[Fo.nodes]
  have hp:1≤2 ^ e:=Nat.one_le_two_pow
  rw[Nat.pow_succ]
  have hL:=nodesL_le (m:=2 ^ e - 1) ks fun f hf=>(ih f hf _ (hk' f hf)).1
  have h2:ks.length≤2:=by omega
  have:ks.length*(2 ^ e - 1)≤2*(2 ^ e - 1):=Nat.mul_le_mul_right _ h2
  omega
theorem law5{l m:List Int}(hl:∀ x∈l,0≤x∧x<256)(hm:∀ x∈m,0≤x∧x<65536){y:Int}(hy:0≤y∧y<256):Ans Pg 5 [aL aU8 l,aL aW16 m,aU8 y] (aB true):=by
 intro S
 refine ACalls.ans_v (calls5 ?_)
 unfold m5
 refine .inl ((made16 hl).mono ?_)
 rintro e S' ⟨tr,rfl,rfl,f,rfl,hf⟩
 refine .inl ((made17 hm).mono ?_)
 rintro e S' ⟨tr,rfl,rfl,c,rfl,hc⟩
 show boxN _ _ _ _ _
 have hF:=MadeF.ok _ _ hf
 obtain⟨hN,hS⟩:=madeF_nodes f 6 hf
 have hN:f.nodes≤2000:=by have:(2:Nat) ^ 7=128:=by decide
                          omega
 refine boxA_of rfl fun S1 k1 n1 o1=>?_
 refine boxA_of rfl fun S2 k2 n2 o2=>?_
 refine stA_of (cs':=f.row) ((k2.2 _ (by omega)).trans o1) (Fo.row_len _) rfl fun S3 n3 o3 f3=>?_
 refine stA_of (cs':=c.cells) ((f3 _ (by omega)).trans o2) rfl rfl fun S4 n4 o4 f4=>?_
 have oF:=(f4 _ (by omega)).trans o3
 have k4:=((k1.trans k2).st (Nat.le_refl _) n3 f3).st (id:=S1.n) (by omega) n4 f4
 rw[ldN_p (n:=8) o4 rfl,ldN_p (n:=4) oF (Fo.row_len _)]
 obtain⟨g,e,hr,hg⟩:=ResT_of hc.ok hF
 have c1:=ans18 hc.ok hF hN hS
 rw[hr]at c1
 have c2:=ans19 hc.ok hF hN hS
 rw[hr]at c2
 refine callF_ans c1 ?_
 rw[extr0,extr1]
 refine boxA_of rfl fun S5 k5 n5 o5=>?_
 refine stA_of (cs':=g.row) o5 (Fo.row_len _) rfl fun S6 n6 o6 f6=>?_
 have k6:=k5.st (Nat.le_refl _) n6 f6
 have oC6:=(k6.2 _ (by omega)).trans o4
 have oF6:=(k6.2 _ (by omega)).trans oF
 rw[ldN_p (n:=8) oC6 rfl,ldN_p (n:=4) oF6 (Fo.row_len _)]
 refine callF_ans c2 ?_
 rw[extr0,extr1]
 refine boxA_of rfl fun S7 k7 n7 o7=>?_
 refine stA_of (cs':=g.row) o7 (Fo.row_len _) rfl fun S8 n8 o8 f8=>?_
 have k8:=k7.st (Nat.le_refl _) n8 f8
 have o68:=(k8.2 _ (by omega)).trans o6
 have oF8:=(k8.2 _ (by omega)).trans oF6
 have ca:=ans10
 have kk:=(k4.trans k6).trans k8
 rw[convI_64 _ (by omega) (by omega)]
 refine .inl ((resM20 hl (m:=y) hy.1 (by omega)).mono ?_)
 rintro e' S' ⟨tr,rfl,rfl,x,rfl,hxok,hmay⟩
 refine boxA_of rfl fun S9 k9 n9 o9=>?_
 refine stA_of (cs':=x.row) o9 (Fo.row_len _) rfl fun S10 n10 o10 f10=>?_
 have k10:=k9.st (Nat.le_refl _) n10 f10
 have p6:=(k10.2 _ (by omega)).trans o68
 have p8:=(k10.2 _ (by omega)).trans o8
 have s1:=ans13 g hg
 have b1:=ans14 hg
 have b2:=ans15 hg
 have s2:=ans13 (baseN g) (baseN_ok hg)
 have b3:=ans14 hxok
 have b4:=ans15 hxok
 have s3:=ans13 (baseN x) (baseN_ok hxok)
 have kk:=kk.trans k10
 show ∃ q:AV,_
 (repeat (first|with_reducible_and_instances (first|refine WJ ?_|refine W (J_ldN (n:=4) p6 (Fo.row_len _)) ?_|refine W (J_ldN (n:=4) p8 (Fo.row_len _)) ?_|refine W (J_ldN (n:=4) o10 (Fo.row_len _)) ?_|refine W (J_ldq (by with_unfolding_all rfl)) ?_)|refine J_cA (ca) rfl rfl ?_|refine C_A (ca) rfl rfl ?_|refine J_cA (s1) rfl rfl ?_|refine C_A (s1) rfl rfl ?_|refine J_cA (s2) rfl rfl ?_|refine C_A (s2) rfl rfl ?_|refine J_cA (s3) rfl rfl ?_|refine C_A (s3) rfl rfl ?_|refine J_cA (b1) rfl rfl ?_|refine C_A (b1) rfl rfl ?_|refine J_cA (b2) rfl rfl ?_|refine C_A (b2) rfl rfl ?_|refine J_cA (b3) rfl rfl ?_|refine C_A (b3) rfl rfl ?_|refine J_cA (b4) rfl rfl ?_|refine C_A (b4) rfl rfl ?_))
 exact⟨rfl,kk⟩
theorem law6{l m:List Int}(hl:∀ x∈l,0≤x∧x<256)(hm:∀ x∈m,0≤x∧x<65536){how n:Int}(hn:i64R n):Ans Pg 6 [aL aU8 l,aL aW16 m,aU8 how,aI n] (aB true):=by
 intro S
 refine ACalls.ans_v (calls6 ?_)
 unfold m6
 refine .inl ((made16 hl).mono ?_)
 rintro e S' ⟨tr,rfl,rfl,f,rfl,hf⟩
 refine .inl ((made17 hm).mono ?_)
 rintro e S' ⟨tr,rfl,rfl,c,rfl,hc⟩
 show boxN _ _ _ _ _
 have hF:=MadeF.ok _ _ hf
 obtain⟨hN,hS⟩:=madeF_nodes f 6 hf
 have hN:f.nodes≤127:=by have:(2:Nat) ^ 7=128:=by decide
                         omega
 refine boxA_of rfl fun S1 k1 n1 o1=>?_
 refine boxA_of rfl fun S2 k2 n2 o2=>?_
 refine stA_of (cs':=f.row) ((k2.2 _ (by omega)).trans o1) (Fo.row_len _) rfl fun S3 n3 o3 f3=>?_
 refine stA_of (cs':=c.cells) ((f3 _ (by omega)).trans o2) rfl rfl fun S4 n4 o4 f4=>?_
 have oF:=(f4 _ (by omega)).trans o3
 have k4:=((k1.trans k2).st (Nat.le_refl _) n3 f3).st (id:=S1.n) (by omega) n4 f4
 have hC:=hc.ok
 rw[bin_rem (by decide),bin_eql,onB_v]
 refine gd_of (fun _=>?_) (fun _=>?_)
 ·obtain⟨fk,fn,fl,fs⟩:=f
  rw[shift_p]
  refine stF_of oF (by simp[Fo.row_mk]) rfl fun T n5 o5' f5=>?_
  have hF':(Fo.mk fk fn n fs).ok:=by
   obtain⟨q1,q2,q3,q4,q5⟩:=hF.inv
   exact .mk _ _ _ _ q1 hn q3 q4 q5
  have hS':(Fo.mk fk fn n fs).short:=by cases hS with|mk _ _ _ _ a b=>exact .mk _ _ _ _ a b
  have hN':(Fo.mk fk fn n fs).nodes≤2000:=by
   rw[Fo.nodes]at hN ⊢;omega
  have oF':T.obj _=some (.cells _ [(Fo.mk fk fn n fs).row] true):=o5'
  have oC':=(f5 _ (by omega)).trans o4
  have k4':=k4.st (id:=S'.n) (Nat.le_refl _) n5 f5
  rw[ldN_p (n:=8) oC' rfl,ldN_p (n:=4) oF' (Fo.row_len _)]
  obtain⟨g,e,hr,hg⟩:=ResT_of hC hF'
  have c1:=ans18 hC hF' hN' hS'
  rw[hr]at c1
  have c2:=ans19 hC hF' hN' hS'
  rw[hr]at c2
  refine callF_ans c1 ?_
  rw[extr0,extr1]
  refine boxA_of rfl fun S5 k5 n5 o5=>?_
  refine stA_of (cs':=g.row) o5 (Fo.row_len _) rfl fun S6 n6 o6 f6=>?_
  have k6:=k5.st (Nat.le_refl _) n6 f6
  have oC6:=(k6.2 _ (by omega)).trans oC'
  have oF6:=(k6.2 _ (by omega)).trans oF'
  rw[ldN_p (n:=8) oC6 rfl,ldN_p (n:=4) oF6 (Fo.row_len _)]
  refine callF_ans c2 ?_
  rw[extr0,extr1]
  refine boxA_of rfl fun S7 k7 n7 o7=>?_
  refine stA_of (cs':=g.row) o7 (Fo.row_len _) rfl fun S8 n8 o8 f8=>?_
  have k8:=k7.st (Nat.le_refl _) n8 f8
  have o68:=(k8.2 _ (by omega)).trans o6
  have oF8:=(k8.2 _ (by omega)).trans oF6
  have ca:=ans10
  have kk:=(k4'.trans k6).trans k8
  have s1:=ans13 g hg
  have b1:=ans14 hF'
  have b2:=ans15 hF'
  have s2:=ans13 (baseN _) (baseN_ok hF')
  show ∃ q:AV,_
  (repeat (first|with_reducible_and_instances (first|refine WJ ?_|refine W (J_ldN (n:=4) o68 (Fo.row_len _)) ?_|refine W (J_ldN (n:=4) o8 (Fo.row_len _)) ?_|refine W (J_ldN (n:=4) oF8 (Fo.row_len _)) ?_|refine W (J_ldq (by with_unfolding_all rfl)) ?_)|refine J_cA (ca) rfl rfl ?_|refine C_A (ca) rfl rfl ?_|refine J_cA (s1) rfl rfl ?_|refine C_A (s1) rfl rfl ?_|refine J_cA (s2) rfl rfl ?_|refine C_A (s2) rfl rfl ?_|refine J_cA (b1) rfl rfl ?_|refine C_A (b1) rfl rfl ?_|refine J_cA (b2) rfl rfl ?_|refine C_A (b2) rfl rfl ?_))
  exact⟨rfl,kk⟩
 rw[bin_eql,onB_v]
 refine gd_of (fun _=>?_) (fun _=>?_)
 ·rw[shift_p]
  refine stF_of o4 (by simp[Ci.cells]) rfl fun T n5 o5' f5=>?_
  have hC':({ c with inputs:=n }:Ci).ok:=⟨hn,hC.llen,hC.alen,hC.lats,hC.pairs,hC.outs,hC.bads,hC.cons,hC.fair,hC.names,hC.nlen⟩
  have oC':T.obj _=some (.cells _ [({ c with inputs:=n }:Ci).cells] true):=o5'
  have oF':=(f5 _ (by omega)).trans oF
  have hN':f.nodes≤2000:=by omega
  have k4':=k4.st (id:=S1.n) (by omega) n5 f5
  rw[ldN_p (n:=8) oC' rfl,ldN_p (n:=4) oF' (Fo.row_len _)]
  obtain⟨g,e,hr,hg⟩:=ResT_of hC' hF
  have c1:=ans18 hC' hF hN' hS
  rw[hr]at c1
  have c2:=ans19 hC' hF hN' hS
  rw[hr]at c2
  refine callF_ans c1 ?_
  rw[extr0,extr1]
  refine boxA_of rfl fun S5 k5 n5 o5=>?_
  refine stA_of (cs':=g.row) o5 (Fo.row_len _) rfl fun S6 n6 o6 f6=>?_
  have k6:=k5.st (Nat.le_refl _) n6 f6
  have oC6:=(k6.2 _ (by omega)).trans oC'
  have oF6:=(k6.2 _ (by omega)).trans oF'
  rw[ldN_p (n:=8) oC6 rfl,ldN_p (n:=4) oF6 (Fo.row_len _)]
  refine callF_ans c2 ?_
  rw[extr0,extr1]
  refine boxA_of rfl fun S7 k7 n7 o7=>?_
  refine stA_of (cs':=g.row) o7 (Fo.row_len _) rfl fun S8 n8 o8 f8=>?_
  have k8:=k7.st (Nat.le_refl _) n8 f8
  have o68:=(k8.2 _ (by omega)).trans o6
  have oF8:=(k8.2 _ (by omega)).trans oF6
  have ca:=ans10
  have kk:=(k4'.trans k6).trans k8
  have s1:=ans13 g hg
  have b1:=ans14 hF
  have b2:=ans15 hF
  have s2:=ans13 (baseN _) (baseN_ok hF)
  show ∃ q:AV,_
  (repeat (first|with_reducible_and_instances (first|refine WJ ?_|refine W (J_ldN (n:=4) o68 (Fo.row_len _)) ?_|refine W (J_ldN (n:=4) o8 (Fo.row_len _)) ?_|refine W (J_ldN (n:=4) oF8 (Fo.row_len _)) ?_|refine W (J_ldq (by with_unfolding_all rfl)) ?_)|refine J_cA (ca) rfl rfl ?_|refine C_A (ca) rfl rfl ?_|refine J_cA (s1) rfl rfl ?_|refine C_A (s1) rfl rfl ?_|refine J_cA (s2) rfl rfl ?_|refine C_A (s2) rfl rfl ?_|refine J_cA (b1) rfl rfl ?_|refine C_A (b1) rfl rfl ?_|refine J_cA (b2) rfl rfl ?_|refine C_A (b2) rfl rfl ?_))
  exact⟨rfl,kk⟩
 rw[bin_eql,onB_v]
 refine gd_of (fun _=>?_) (fun _=>?_)
 ·rw[ldN_p (n:=4) oF (Fo.row_len _)]
  refine bslA4 (Fo.row_len _) ?_
  rw[bld_of (cs:=(Fo.mk n ⟨#[]⟩ 0 [f]).row) (by rw[Fo.row_mk];rfl)]
  refine stA_of oF (Fo.row_len _) (Fo.row_len _) fun T n5 o5' f5=>?_
  have hF':(Fo.mk n ⟨#[]⟩ 0 [f]).ok:=fO_ok hn hF
  have hS':(Fo.mk n ⟨#[]⟩ 0 [f]).short:=.mk _ _ _ _ (by decide) fun g hg=>by rw[List.mem_singleton.1 hg];exact hS
  have hN':(Fo.mk n ⟨#[]⟩ 0 [f]).nodes≤2000:=by
   rw[Fo.nodes,Fo.nodesL,Fo.nodesL];omega
  have oC':=(f5 _ (by omega)).trans o4
  have k4':=k4.st (id:=S'.n) (Nat.le_refl _) n5 f5
  rw[ldN_p (n:=8) oC' rfl,ldN_p (n:=4) o5' (Fo.row_len _)]
  obtain⟨g,e,hr,hg⟩:=ResT_of hC hF'
  have c1:=ans18 hC hF' hN' hS'
  rw[hr]at c1
  have c2:=ans19 hC hF' hN' hS'
  rw[hr]at c2
  refine callF_ans c1 ?_
  rw[extr0,extr1]
  refine boxA_of rfl fun S5 k5 n5 o5=>?_
  refine stA_of (cs':=g.row) o5 (Fo.row_len _) rfl fun S6 n6 o6 f6=>?_
  have k6:=k5.st (Nat.le_refl _) n6 f6
  have oC6:=(k6.2 _ (by omega)).trans oC'
  have oF6:=(k6.2 _ (by omega)).trans o5'
  rw[ldN_p (n:=8) oC6 rfl,ldN_p (n:=4) oF6 (Fo.row_len _)]
  refine callF_ans c2 ?_
  rw[extr0,extr1]
  refine boxA_of rfl fun S7 k7 n7 o7=>?_
  refine stA_of (cs':=g.row) o7 (Fo.row_len _) rfl fun S8 n8 o8 f8=>?_
  have k8:=k7.st (Nat.le_refl _) n8 f8
  have o68:=(k8.2 _ (by omega)).trans o6
  have oF8:=(k8.2 _ (by omega)).trans oF6
  have ca:=ans10
  have kk:=(k4'.trans k6).trans k8
  have s1:=ans13 g hg
  have b1:=ans14 hF'
  have b2:=ans15 hF'
  have s2:=ans13 (baseN _) (baseN_ok hF')
  show ∃ q:AV,_
  (repeat (first|with_reducible_and_instances (first|refine WJ ?_|refine W (J_ldN (n:=4) o68 (Fo.row_len _)) ?_|refine W (J_ldN (n:=4) o8 (Fo.row_len _)) ?_|refine W (J_ldN (n:=4) oF8 (Fo.row_len _)) ?_|refine W (J_ldq (by with_unfolding_all rfl)) ?_)|refine J_cA (ca) rfl rfl ?_|refine C_A (ca) rfl rfl ?_|refine J_cA (s1) rfl rfl ?_|refine C_A (s1) rfl rfl ?_|refine J_cA (s2) rfl rfl ?_|refine C_A (s2) rfl rfl ?_|refine J_cA (b1) rfl rfl ?_|refine C_A (b1) rfl rfl ?_|refine J_cA (b2) rfl rfl ?_|refine C_A (b2) rfl rfl ?_))
  exact⟨rfl,kk⟩
 ·refine .inl ((resM20 hl (m:=9) (by decide) (by decide)).mono ?_)
  rintro e' S' ⟨tr,rfl,rfl,x,rfl,hxok,hmay⟩
  obtain⟨xN,xS⟩:=may_nodes x 7 hmay
  refine bslA4 (Fo.row_len _) ?_
  rw[bld_of (cs:=(Fo.mk 9 ⟨#[]⟩ n [x]).row) (by rw[Fo.row_mk];rfl)]
  refine stA_of oF (Fo.row_len _) (Fo.row_len _) fun T n5 o5' f5=>?_
  have hF':(Fo.mk 9 ⟨#[]⟩ n [x]).ok:=.mk _ _ _ _ ⟨by decide,by decide⟩ hn (by decide) (by simp) fun g hg=>by rw[List.mem_singleton.1 hg];exact hxok
  have hS':(Fo.mk 9 ⟨#[]⟩ n [x]).short:=.mk _ _ _ _ (by decide) fun g hg=>by rw[List.mem_singleton.1 hg];exact xS
  have hN':(Fo.mk 9 ⟨#[]⟩ n [x]).nodes≤2000:=by
   rw[Fo.nodes,Fo.nodesL,Fo.nodesL]
   have:(2:Nat) ^ 7=128:=by decide
   omega
  have oC':=(f5 _ (by omega)).trans o4
  have k4':=k4.st (by omega) n5 f5
  rw[ldN_p (n:=8) oC' rfl,ldN_p (n:=4) o5' (Fo.row_len _)]
  obtain⟨g,e,hr,hg⟩:=ResT_of hC hF'
  have c1:=ans18 hC hF' hN' hS'
  rw[hr]at c1
  have c2:=ans19 hC hF' hN' hS'
  rw[hr]at c2
  refine callF_ans c1 ?_
  rw[extr0,extr1]
  refine boxA_of rfl fun S5 k5 n5 o5=>?_
  refine stA_of (cs':=g.row) o5 (Fo.row_len _) rfl fun S6 n6 o6 f6=>?_
  have k6:=k5.st (Nat.le_refl _) n6 f6
  have oC6:=(k6.2 _ (by omega)).trans oC'
  have oF6:=(k6.2 _ (by omega)).trans o5'
  rw[ldN_p (n:=8) oC6 rfl,ldN_p (n:=4) oF6 (Fo.row_len _)]
  refine callF_ans c2 ?_
  rw[extr0,extr1]
  refine boxA_of rfl fun S7 k7 n7 o7=>?_
  refine stA_of (cs':=g.row) o7 (Fo.row_len _) rfl fun S8 n8 o8 f8=>?_
  have k8:=k7.st (Nat.le_refl _) n8 f8
  have o68:=(k8.2 _ (by omega)).trans o6
  have oF8:=(k8.2 _ (by omega)).trans oF6
  have ca:=ans10
  have kk:=(k4'.trans k6).trans k8
  have s1:=ans13 g hg
  have b1:=ans14 hF'
  have b2:=ans15 hF'
  have s2:=ans13 (baseN _) (baseN_ok hF')
  show ∃ q:AV,_
  (repeat (first|with_reducible_and_instances (first|refine WJ ?_|refine W (J_ldN (n:=4) o68 (Fo.row_len _)) ?_|refine W (J_ldN (n:=4) o8 (Fo.row_len _)) ?_|refine W (J_ldN (n:=4) oF8 (Fo.row_len _)) ?_|refine W (J_ldq (by with_unfolding_all rfl)) ?_)|refine J_cA (ca) rfl rfl ?_|refine C_A (ca) rfl rfl ?_|refine J_cA (s1) rfl rfl ?_|refine C_A (s1) rfl rfl ?_|refine J_cA (s2) rfl rfl ?_|refine C_A (s2) rfl rfl ?_|refine J_cA (b1) rfl rfl ?_|refine C_A (b1) rfl rfl ?_|refine J_cA (b2) rfl rfl ?_|refine C_A (b2) rfl rfl ?_))
  exact⟨rfl,kk⟩
end
end Go.Proofs.YtmpjhihpcaephaaGreatDoor.G

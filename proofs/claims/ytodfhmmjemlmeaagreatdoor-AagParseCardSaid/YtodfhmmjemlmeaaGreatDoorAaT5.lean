/- Aag -/
import Derived.Test.YtodfhmmjemlmeaaGreatDoorAaT4
set_option linter.unusedVariables false
set_option linter.unusedSimpArgs false
namespace Go.Proofs.YtodfhmmjemlmeaaGreatDoor.G
open Go Go.Ab
noncomputable section
theorem reset_P{own reset:Int}(h:0≤reset):resetP own reset=if reset≠own∧2≤reset then none else some (if reset=own then 2 else reset):=by
 unfold resetP
 by_cases h1:reset=own
 ·rw[if_pos h1,if_neg (fun e=>e.1 h1),if_pos h1]
 ·rw[if_neg h1,if_neg h1]
  by_cases h2:2≤reset
  ·rw[if_neg (by omega),if_pos ⟨h1,h2⟩]
  ·rw[if_pos (by omega),if_neg (fun e=>h2 e.2)]
section
variable {S0 T:Store} {l l':Bs} {bad:Bool} {M:List Int} {inp:Int} {r:Nat→List (List AV)} {y z:Nat→AV} {c:Ci}
theorem RkZ.nums2(h:RkZ S0 T l false inp r z z)(hl:l.length≤1000000){least most:Nat}(hm:most≤3){Q:AEnd→Store→Prop}{K:AV→Store→Prop}
    (k:∀(ns:List Int) (b:Bs) (bd:Bool) T' id,most≤ns.length→b.length≤l.length→T.n≤T'.n→RkZ S0 T' b bd inp r z z→T'.obj id=some (.cells 3 (ns.map fun x=>[aI x]) true)→T.n≤id→id<T'.n→(bd=false→numbersP least most l=some (ns,b))→(bd=true→numbersP least most l=none)→K (.s id 0 ns.length) T')
    (hmost:1≤most):callF Pg 69 [.p S0.n 0 0,aI least,aI most] T Q K:=
 h.nums hl hm (fun ns b hns T' id n1 k1 o1 h1 h2 _=>k ns b false T' id (by have:=(numbersP_ok hns).1;omega) (by have:=(numbersP_ok hns).2.1;omega) n1 k1 o1 h1 h2 (fun _=>hns) (fun e=>by cases e))
  (fun hn ns b T' id hl _ hb n1 k1 o1 h1 h2 _=>k ns b true T' id hl hb n1 k1 o1 h1 h2 (fun e=>by cases e) (fun _=>hn)) hmost
def restP(M:List Int)(N4:Nat)(la:List (Int × Int) × Bs):Option Ci:=(colsP M la.2).bind fun co=>(andsP (2*(M.getD 1 0+M.getD 2 0+1)) N4 0 co.2).bind fun an=>(namesP an.2.length an.2).map fun na =>
 ⟨M.getD 1 0,la.1,an.1,co.1.1,co.1.2.1,co.1.2.2.1,co.1.2.2.2,na⟩
def QfP(S:Store)(o:Ci × Int)(e:AEnd)(S':Store):Prop:=∃ r,e = .ret r∧Keep S S'∧Cv (S'.frz (newer S.n)) S.n r (retC o)
theorem QfP.mk{S S':Store}{o:Ci × Int}{r:AV}(h1:Keep S S')(h2:Cv (S'.frz (newer S.n)) S.n r (retC o)):QfP S o (.ret r) S':=⟨r,rfl,h1,h2⟩
theorem cv_bad{S:Store}{m:Nat}{e:Int}{o:Ci × Int}(h:o=(cE,e)):Cv S m (.t [.a zero8,aI e]) (retC o):=by
 subst h
 exact .t _ _ rfl (cvT2 cv_zero8 (.v _))
theorem ans32(s:Bs):Ans Pg 32 [aT s] (retC (parseP s)):=by
 intro S
 refine ACalls.tree (calls32 (Q:=QfP S (parseP s)) ?_)
 unfold m32
 rw[parseP_o]
 refine boxA_of (cs:=zero8) rfl fun S1 k1 n1 o1=>?_
 rw[lenT,bin_gtr,onB_v]
 refine gd_of (fun hl=>?_) (fun hl=>?_)
 ·have hl:20000<s.length:=by have:(20000:Int)<s.length:=dT hl
                             omega
  rw[if_pos hl]
  refine⟨zero8,rfl,?_⟩
  refine stA_of (cs':=zero8) o1 rfl rfl fun S2 n2 o2 f2=>?_
  rw[ldN_p (n:=8) o2 rfl]
  exact QfP.mk (k1.st (Nat.le_refl _) n2 f2) (cv_bad rfl)
 have hl:¬ 20000<s.length:=by have:¬ (20000:Int)<s.length:=dF hl
                              omega
 rw[if_neg hl]
 refine⟨rkC s false 0 (fun _=>.nl),rfl,?_⟩
 refine boxA_of (cs:=rkC s false 0 (fun _=>.nl)) rfl fun S2 k2 n2 o2=>?_
 have hn1:S1.n=S.n+1:=n1
 have hz0:RkZ S1 S2 s false 0 (rowsM [] cE) (fun _=>.nl) (fun _=>.nl):=⟨k2,by omega,o2,⟨fun j hj=>.inl ⟨rfl,by
  match j,hj with
  |0,_=>rfl
  |1,_=>rfl
  |2,_=>rfl
  |3,_=>rfl
  |4,_=>rfl
  |5,_=>rfl
  |6,_=>rfl
  |7,_=>rfl⟩,fun i j _ _ _ a b m b' m' e=>by cases e⟩⟩
 refine hz0.head (by omega) (word:=[97,97,103]) (fun M l1 hh U z1 hZ1=>?_) (fun hh U hU=>?_)
 case refine_2 =>
  rw[un_not,onB_v]
  refine gd_of (fun _=>?_) (fun h=>by cases h)
  refine⟨zero8,rfl,?_⟩
  have t1:=(hU.2 _ (by omega)).trans o1
  have un:=hU.1
  refine stA_of (cs':=zero8) t1 rfl rfl fun U2 n3 o3 f3=>?_
  rw[ldN_p (n:=8) o3 rfl]
  have ho:oP s = .error 20:=by unfold oP;rw[hh]
  rw[ho]
  exact QfP.mk ((k1.trans hU).st (Nat.le_refl _) n3 f3) (cv_bad rfl)
 rw[un_not,onB_v]
 refine gd_of (fun h=>by cases h) (fun _=>?_)
 have hM0:=headP_ok hh
 have hl1:l1.length≤20000:=by omega
 have hMl:=hM0.1
 have hM:∀ j,0≤M.getD j 0∧M.getD j 0≤2000:=fun j=>by
  rw[List.getD_eq_getElem?_getD]
  cases hg:M[j]? with
  |none=>exact⟨by decide,by decide⟩
  |some v=>exact hM0.2.2.1 v (List.mem_of_getElem? hg)
 have hmi:∀ j,aI (M.getD j 0)=aI ((mAt M j:Nat):Int):=fun j=>by
  have:=hM j
  congr 1
  show _=(((M.getD j 0).toNat:Nat):Int)
  omega
 have hmN:∀ j,mAt M j≤2000:=fun j=>by
  have:=hM j
  show(M.getD j 0).toNat≤2000
  omega
 have hm1:=hM 1
 have hm2:=hM 2
 have hoP:oP s=match bodyP M l1 with|none=>.error 21|some c=>.ok c:=by
  unfold oP;rw[hh];simp only;cases bodyP M l1<;>rfl
 have hbody:bodyP M l1=(inputsP (mAt M 1) 0 l1).bind fun l1=>(latchesP (2*(M.getD 1 0+1)) (mAt M 2) 0 l1).bind fun la=>(colsP M la.2).bind fun co =>
  (andsP (2*(M.getD 1 0+M.getD 2 0+1)) (mAt M 4) 0 co.2).bind fun an=>(namesP an.2.length an.2).map fun na =>
   ⟨M.getD 1 0,la.1,an.1,co.1.1,co.1.2.1,co.1.2.2.1,co.1.2.2.2,na⟩:=rfl
 have hrm7:∀ c:Ci,rowsM M c 7=M.map fun x=>[aI x]:=fun c=>rfl
 have hokB:∀ cc,bodyP M l1=some cc→cc.ok:=fun cc h=>(bodyP_ok hM0.2.2.1 (by omega) h).1
 generalize hn1':mAt M 1=N1 at hbody
 have hN1:N1≤2000:=by rw[←hn1'];exact hmN 1
 have hN1i:(N1:Int)=M.getD 1 0:=by rw[←hn1'];show(((M.getD 1 0).toNat:Nat):Int)=_;omega
 generalize hn2':mAt M 2=N2 at hbody
 have hN2:N2≤2000:=by rw[←hn2'];exact hmN 2
 have hN2i:(N2:Int)=M.getD 2 0:=by rw[←hn2'];show(((M.getD 2 0).toNat:Nat):Int)=_;omega
 generalize hn4':mAt M 4=N4 at hbody
 have hN4:N4≤2000:=by rw[←hn4'];exact hmN 4
 have hmA1:aI (M.getD 1 0)=aI N1:=by rw[hmi,hn1']
 have hmA2:aI (M.getD 2 0)=aI N2:=by rw[hmi,hn2']
 have hmA4:aI (M.getD 4 0)=aI N4:=by rw[hmi,hn4']
 have hS1n:S.n<S1.n:=by omega
 have t1:∀{V:Store},Keep S1 V→V.obj S.n=some (.cells 29 [zero8] true):=fun{V} h=>(h.2 _ hS1n).trans o1
 have bad21:bodyP M l1=none→outP (oP s)=(cE,21):=fun h=>by rw[hoP,h];rfl
 have put0:∀(V:Store) (e:Int),Keep S1 V→outP (oP s)=(cE,e)→extr (.t [.a zero8,aI e]) 0 V fun v201 W=>extr (.t [.a zero8,aI e]) 1 W fun v202 W=>stN 8 (.p S.n 0 0) v201 W fun _ W=>ldN 8 (.p S.n 0 0) W fun v204 _=>QfP S (outP (oP s)) (.ret (.t [v204,v202])) W:=by
  intro V e hk he
  rw[extr0,extr1]
  refine stA_of (cs':=zero8) (t1 hk) rfl rfl fun U2 n3 o3 f3=>?_
  rw[ldN_p (n:=8) o3 rfl]
  exact QfP.mk ((k1.trans hk).st (Nat.le_refl _) n3 f3) (cv_bad he)
 have fin:∀(V:Store) (b:Bs) (bd:Bool) (c':Ci) (z:Nat→AV),RkZ S1 V b bd c'.inputs (rowsM M c') z z→c'.names = []→b.length≤l1.length→(bd=false→bodyP M l1=(namesP b.length b).map fun na=>c'.setN na)→(bd=true→bodyP M l1=none)→
     callF Pg 72 [.p S1.n 0 0] V (QfP S (outP (oP s))) fun v199 W=>callF Pg 73 [.p S1.n 0 0] W (QfP S (outP (oP s))) fun v200 W=>extr v200 0 W fun v201 W=>extr v200 1 W fun v202 W=>stN 8 (.p S.n 0 0) v201 W fun _ W=>ldN 8 (.p S.n 0 0) W fun v204 _=>QfP S (outP (oP s)) (.ret (.t [v204,v202])) W:=by
  intro V b bd c' z hz hcn hbl hgood hbad
  refine hz.names (by omega) hcn (fun hb ns hns b' T' z' hZ=>?_) (fun hb b' r' T' z' hZ=>?_)
  ·have hB:=hgood hb
   rw[hns,Option.map_some]at hB
   have hout:outP (oP s)=if(c'.setN ns).right=true then(c'.setN ns,0)else(cE,22):=by rw[hoP,hB];rfl
   refine hZ.told (M:=M) (c:=c'.setN ns) (fun e=>by cases e) (fun _=>⟨rfl,rfl,hokB _ hB,fun hr T2 hk=>put0 T2 22 hk (by rw[hout,if_neg hr]),fun hr T2 hk hrf hid=>?_⟩)
   rw[if_pos hr]at hout
   rw[extr0,extr1]
   refine stA_of (cs':=cells8 c'.inputs z') (t1 hk) rfl rfl fun U2 n3 o3 f3=>?_
   rw[ldN_p (n:=8) o3 rfl]
   refine QfP.mk ((k1.trans hk).st (Nat.le_refl _) n3 f3) ?_
   rw[hout]
   refine .t _ _ rfl (cvT2 (RowsF.cva (c:=c'.setN ns) (S:=U2) (fun j hj=>?_)) (.v _))
   rcases hrf j hj with h|⟨id,e,e1,e2⟩
   ·exact .inl h
   ·have:=hid id 0 _ ⟨j,hj,e1⟩
    exact .inr ⟨id,e,e1,(f3 _ (by omega)).trans e2⟩
  ·have hB:bodyP M l1=none:=by
     rcases hb with hb|hb
     ·exact hbad hb
     ·cases hbd:bd with
      |true=>exact hbad hbd
      |false=>rw[hgood hbd,hb];rfl
   exact hZ.told (M:=M) (c:=c') (fun _ T2 hk=>put0 T2 21 hk (bad21 hB)) (fun e=>by cases e)
 have loop2':∀(V:Store) (l4:Bs) (bd:Bool) (la:List (Int × Int)) (L:List (List Int)) (z:Nat→AV),l4.length≤l1.length→RkZ S1 V l4 bd (M.getD 1 0) (rowsM M ⟨M.getD 1 0,la,[],L.getD 0 [],L.getD 1 [],L.getD 2 [],L.getD 3 [],[]⟩) z z→
     (bd=false→bodyP M l1=(andsP (2*(M.getD 1 0+M.getD 2 0+1)) N4 0 l4).bind fun an=>(namesP an.2.length an.2).map fun na=>⟨M.getD 1 0,la,an.1,L.getD 0 [],L.getD 1 [],L.getD 2 [],L.getD 3 [],na⟩)→(bd=true→bodyP M l1=none)→
     loopV lv32_2 (vc Pg (c32.at_ [1,1,1,1,1,1,1,0,1,0,0]) (ms32.drop 3)) 165 (env32_2 (.p S.n 0 0) (.p S1.n 0 0) (.v (.int .i64 0))) V (blockK 4 (seqK (vc Pg (c32.at_ [1,1,1,1,1,1,1,1]) (ms32.drop 3)) (bodyK Pg r32 (QfP S (outP (oP s)))))):=by
  intro V l4 bd la L z hl4 hZ hgood hbad
  refine loop32_2 (fun y V=>∃(i:Nat) (ga:List (Int × Int)) (l5:Bs) (bd:Bool) (z:Nat→AV),y=aI i∧i≤N4∧ga.length=i∧l5.length≤l1.length∧RkZ S1 V l5 bd (M.getD 1 0) (rowsM M ⟨M.getD 1 0,la,ga,L.getD 0 [],L.getD 1 [],L.getD 2 [],L.getD 3 [],[]⟩) z z∧(bd=false→bodyP M l1=((andsP (2*(M.getD 1 0+M.getD 2 0+1)) (N4 - i) i l5).map fun p=>(ga++p.1,p.2)).bind fun an=>(namesP an.2.length an.2).map fun na=>⟨M.getD 1 0,la,an.1,L.getD 0 [],L.getD 1 [],L.getD 2 [],L.getD 3 [],na⟩)∧(bd=true→bodyP M l1=none)) (fun y _=>N4 - ((intA y).getD 0).toNat)
   ⟨0,[],l4,bd,z,rfl,Nat.zero_le _,rfl,hl4,hZ,fun e=>by rw[hgood e];simp,hbad⟩ ?_
  rintro _ V ⟨i,ga,l5,bd,z,rfl,hi,hga,hl5,hV,hg,hb⟩ KE hKE
  unfold b32_2
  refine W (hV.mAt (M:=M) (hrm7 _) (j:=4) (by omega)) ?_
  rw[hmA4,bin_lss,onB_v]
  have done:(bd=false→i=N4)→_:=fun hx=>fin V l5 bd ⟨M.getD 1 0,la,ga,L.getD 0 [],L.getD 1 [],L.getD 2 [],L.getD 3 [],[]⟩ z hV rfl hl5 (fun e=>by
   rw[hg e,hx e,Nat.sub_self,andsP]
   simp[Ci.setN]) hb
  refine gd_of (fun hlt=>?_) (fun hge=>done (fun _=>by have:=dF hge;omega))
  have hlt:i<N4:=by have:=dT hlt;omega
  rw[nilChk_p,shift_p,hV.ldb,un_not,onB_v]
  refine gd_of (fun hb0=>?_) (fun hb1=>done (fun e=>by rw[e]at hb1;cases hb1))
  have hb0:bd=false:=by simpa using hb0
  subst hb0
  have hq:=hg rfl
  have e5:N4 - i=(N4 - (i+1))+1:=by omega
  rw[e5,andsP]at hq
  have put:∀(ns:List Int) (b:Bs) (bd2:Bool) (V1:Store) (id:Nat),3≤ns.length→b.length≤l5.length→RkZ S1 V1 b bd2 (M.getD 1 0) (rowsM M ⟨M.getD 1 0,la,ga,L.getD 0 [],L.getD 1 [],L.getD 2 [],L.getD 3 [],[]⟩) z z→V1.obj id=some (.cells 3 (ns.map fun x=>[aI x]) true)→id<V1.n→
      (bd2=false→bodyP M l1=((andsP (2*(M.getD 1 0+M.getD 2 0+1)) (N4 - (i+1)) (i+1) b).map fun p=>(ga ++ [(ns.getD 1 0,ns.getD 2 0)]++p.1,p.2)).bind fun an=>(namesP an.2.length an.2).map fun na=>⟨M.getD 1 0,la,an.1,L.getD 0 [],L.getD 1 [],L.getD 2 [],L.getD 3 [],na⟩)→(bd2=true→bodyP M l1=none)→
      (∃ q141:AV,(∀ T:Store,Keep V1 T→nilChk (.p S1.n 0 0) T fun v S=>v=q141∧S=T)∧∃ q143:AV,(∀ T:Store,Keep V1 T→shift q141 3 T fun v S=>v=q143∧S=T)∧∃ q145:AV,(∀ T:Store,Keep V1 T→shift q143 2 T fun v S=>v=q145∧S=T)∧∃ q147:AV,(∀ T:Store,Keep V1 T→ld1 q145 T fun v S=>v=q147∧S=T)∧
       ∃ q149:AV,(∀ T:Store,Keep V1 T→ixS 3 1 (.s id 0 ns.length) (.v (.int .i64 1)) T fun v S=>v=q149∧S=T)∧∃ q151:AV,(∀ T:Store,Keep V1 T→ld1 q149 T fun v S=>v=q151∧S=T)∧∃ q153:AV,(∀ T:Store,Keep V1 T→ixS 3 1 (.s id 0 ns.length) (.v (.int .i64 2)) T fun v S=>v=q153∧S=T)∧∃ q155:AV,(∀ T:Store,Keep V1 T→ld1 q153 T fun v S=>v=q155∧S=T)∧
       ∃ q157:AV,(∀ T:Store,Keep V1 T→bld [(0,1),(1,1)] [.v (.int .i64 0),.v (.int .i64 0)] [(0,q151),(1,q155)] T fun v S=>v=q157∧S=T)∧∃ q159:AV,(∀ T:Store,Keep V1 T→bslN 48 2 1 [.v (.int .i64 0),.v (.int .i64 0)] [(0,q157)] T fun v S=>v=q159∧S=T)∧
       appS 48 2 16 q147 q159 V1 fun v161 W=>∃ q162:AV,(∀ T:Store,Keep W T→nilChk (.p S1.n 0 0) T fun v S=>v=q162∧S=T)∧∃ q164:AV,(∀ T:Store,Keep W T→shift q162 3 T fun v S=>v=q164∧S=T)∧∃ q166:AV,(∀ T:Store,Keep W T→shift q164 2 T fun v S=>v=q166∧S=T)∧stN 1 q166 v161 W fun _ W=>bin .add 0 (aI i) (.v (.int .i64 1)) W fun v169 W=>KE 165 (env32_2 (.p S.n 0 0) (.p S1.n 0 0) v169) W):=by
   intro ns b bd2 V1 id hns hbl hV1 o1 hid h1 h2
   refine⟨_,fun U hU=>by rw[nilChk_p];exact⟨rfl,rfl⟩,?_⟩
   refine L_shift ?_
   refine L_shift ?_
   refine⟨z 1,fun U hU=>W ((hV1.keep hU).ldz (j:=1) (by decide)) ⟨rfl,rfl⟩,?_⟩
   refine Lix o1 hid (j:=1) (by omega) rfl ?_
   refine Lix o1 hid (j:=2) (by omega) rfl ?_
   refine⟨_,fun U hU=>⟨[aI (ns.getD 1 0),aI (ns.getD 2 0)],rfl,rfl,rfl⟩,?_⟩
   refine⟨_,fun U hU=>bslA2 rfl ⟨rfl,rfl⟩,?_⟩
   refine hV1.app (j:=1) (by decide) rfl (c:=[aI (ns.getD 1 0),aI (ns.getD 2 0)]) rfl (by simp[rowsM,Ci.rowsOf];omega) rfl fun x' V2 hx' nV2 hV2 fV2=>?_
   refine⟨_,fun U hU=>by rw[nilChk_p];exact⟨rfl,rfl⟩,?_⟩
   refine L_shift ?_
   refine L_shift ?_
   refine hV2.st (i:=rkI 1) (rkC_sz (by decide)) (by decide) hx' fun V3 nV3 fV3 hV3=>?_
   rw[bin_add (by omega) (by omega)]
   rw[←rowsM_addA (M:=M) ⟨M.getD 1 0,la,ga,L.getD 0 [],L.getD 1 [],L.getD 2 [],L.getD 3 [],[]⟩ (ns.getD 1 0,ns.getD 2 0)]at hV3
   exact hKE _ _ ⟨i+1,ga ++ [(ns.getD 1 0,ns.getD 2 0)],b,bd2,_,rfl,hlt,by simp[hga],by omega,hV3,h1,h2⟩ (by simp[intA];omega)
  refine hV.nums2 (least:=3) (most:=3) (by omega) (by decide) (fun ns b bd2 V1 id hns hbl nV1 hV1 o1 hid1 hid2 hgd hbd=>?_) (by decide)
  have hS1V:=hV.lt
  have hg0:(ns.map fun x=>[aI x])[0]? = some [aI (ns.getD 0 0)]:=by
   rw[List.getElem?_map,List.getElem?_eq_getElem (by omega),List.getD_eq_getElem?_getD,List.getElem?_eq_getElem (by omega)]
   rfl
  refine⟨.p id 0 0,W (ixS_s (i:=0) (by omega) o1) ⟨rfl,rfl⟩,aI (ns.getD 0 0),by rw[ld1_p o1 hg0 rfl];exact⟨rfl,rfl⟩,?_⟩
  refine hV1.JM (M:=M) (hrm7 _) (j:=1) (by omega) ?_
  refine hV1.JM (M:=M) (hrm7 _) (j:=2) (by omega) ?_
  refine W (J_add (by omega) (by omega)) (W (J_add (by omega) (by omega)) (W (J_add (by omega) (by omega)) (W (J_mulI (by omega) (by omega)) (W J_neq ?_))))
  rw[onB_v]
  have e6:2*(M.getD 1 0+M.getD 2 0+1+(i:Int))=2*(M.getD 1 0+M.getD 2 0+1)+2*(i:Int):=by omega
  have hnone:bd2=true→bodyP M l1=none:=fun e=>by rw[hq,hbd e];rfl
  rw[e6]
  refine gd_of (fun hne=>?_) (fun heq=>?_)
  ·have hne:¬ ns.getD 0 0=2*(M.getD 1 0+M.getD 2 0+1)+2*(i:Int):=fun e=>by rw[decide_eq_true e]at hne;cases hne
   rw[nilChk_p,shift_p]
   refine hV1.setBad fun V2 n2 f2 hV2=>put ns b true V2 id hns hbl hV2 ((f2 _ (by omega)).trans o1) (by omega) (fun e=>by cases e) (fun _=>?_)
   cases hb2:bd2 with
   |true=>exact hnone hb2
   |false =>
    rw[hq,hgd hb2]
    simp only
    rw[if_neg hne];rfl
  ·have heq:ns.getD 0 0=2*(M.getD 1 0+M.getD 2 0+1)+2*(i:Int):=by
     by_cases e:ns.getD 0 0=2*(M.getD 1 0+M.getD 2 0+1)+2*(i:Int)
     ·exact e
     ·rw[decide_eq_false e]at heq;cases heq
   refine put ns b bd2 V1 id hns hbl hV1 o1 hid2 (fun e=>?_) hnone
   rw[hq,hgd e]
   simp only
   rw[if_pos heq,Option.map_map]
   congr 2
   funext p
   simp
 have loop1':∀(V:Store) (l2:Bs) (bd:Bool) (z:Nat→AV),l2.length≤l1.length→RkZ S1 V l2 bd (M.getD 1 0) (rowsM M cE) z z→
     (bd=false→bodyP M l1=(latchesP (2*(M.getD 1 0+1)) N2 0 l2).bind fun la=>(colsP M la.2).bind fun co=>(andsP (2*(M.getD 1 0+M.getD 2 0+1)) N4 0 co.2).bind fun an=>(namesP an.2.length an.2).map fun na=>⟨M.getD 1 0,la.1,an.1,co.1.1,co.1.2.1,co.1.2.2.1,co.1.2.2.2,na⟩)→(bd=true→bodyP M l1=none)→
     loopV lv32_1 (vc Pg (c32.at_ [1,1,1,1,1,0,1,0,0]) (ms32.drop 2)) 165 (env32_1 (.p S.n 0 0) (.p S1.n 0 0) (.v (.int .i64 0))) V (blockK 2 (seqK (vc Pg (c32.at_ [1,1,1,1,1,1]) (ms32.drop 2)) (bodyK Pg r32 (QfP S (outP (oP s)))))):=by
  intro V l2 bd z hl2 hZ hgood hbad
  replace hgood:bd=false→bodyP M l1=(latchesP (2*(M.getD 1 0+1)) N2 0 l2).bind (restP M N4):=hgood
  refine loop32_1 (fun y V=>∃(i:Nat) (pre:List (Int × Int)) (l3:Bs) (bd:Bool) (z:Nat→AV),y=aI i∧i≤N2∧pre.length=i∧l3.length≤l1.length∧RkZ S1 V l3 bd (M.getD 1 0) (rowsM M ⟨M.getD 1 0,pre,[],[],[],[],[],[]⟩) z z∧(bd=false→bodyP M l1=((latchesP (2*(M.getD 1 0+1)) (N2 - i) i l3).map fun p=>(pre++p.1,p.2)).bind (restP M N4))∧(bd=true→bodyP M l1=none)) (fun y _=>N2 - ((intA y).getD 0).toNat)
   ⟨0,[],l2,bd,z,rfl,Nat.zero_le _,rfl,hl2,hZ,fun e=>by rw[hgood e];simp,hbad⟩ ?_
  rintro _ V ⟨i,pre,l3,bd,z,rfl,hi,hpre,hl3,hV,hg,hb⟩ KE hKE
  unfold b32_1
  refine W (hV.mAt (M:=M) (hrm7 _) (j:=2) (by omega)) ?_
  rw[hmA2,bin_lss,onB_v]
  have done:(bd=false→i=N2)→callF Pg 71 [.p S1.n 0 0] V (QfP S (outP (oP s))) fun v88 W=>loopV lv32_2 (vc Pg (c32.at_ [1,1,1,1,1,1,1,0,1,0,0]) (ms32.drop 3)) 165 (env32_2 (.p S.n 0 0) (.p S1.n 0 0) (.v (.int .i64 0))) W (blockK 4 (seqK (vc Pg (c32.at_ [1,1,1,1,1,1,1,1]) (ms32.drop 3)) (bodyK Pg r32 (QfP S (outP (oP s)))))):=by
   intro hx
   refine Rk.columns (c:=⟨M.getD 1 0,pre,[],[],[],[],[],[]⟩) ⟨z,hV⟩ (by omega) hMl hM rfl fun V2 hcs=>?_
   obtain⟨L,b,bd2,hL,hLl,hbl,⟨z2,hz2⟩,hc1,hc2⟩:=hcs
   have hnone:bd2=true→bodyP M l1=none:=fun e=>by
    rcases hc2 e with h|h
    ·exact hb h
    ·cases hbd:bd with
     |true=>exact hb hbd
     |false =>
      rw[hg hbd,hx hbd,Nat.sub_self,latchesP]
      simp[restP,colsP_N,h]
   refine loop2' V2 b bd2 pre L z2 (by omega) hz2 (fun e=>?_) hnone
   obtain⟨hbd,hcol⟩:=hc1 e
   rw[hg hbd,hx hbd,Nat.sub_self,latchesP]
   have hcol2:colsN M 4 l3=some (L,b):=by rw[hcol];simp[colsN]
   simp[restP,colsP_N,hcol2,tup]
  refine gd_of (fun hlt=>?_) (fun hge=>done (fun _=>by have:=dF hge;omega))
  have hlt:i<N2:=by have:=dT hlt;omega
  rw[nilChk_p,shift_p,hV.ldb,un_not,onB_v]
  refine gd_of (fun hb0=>?_) (fun hb1=>done (fun e=>by rw[e]at hb1;cases hb1))
  have hb0:bd=false:=by simpa using hb0
  subst hb0
  have hq:=hg rfl
  have e5:N2 - i=(N2 - (i+1))+1:=by omega
  rw[e5,latchesP]at hq
  refine W (hV.mAt (M:=M) (hrm7 _) (j:=1) (by omega)) ?_
  rw[bin_add (by omega) (by omega),bin_add (by omega) (by omega),bin_mul (by omega) (by omega)]
  have e6:2*(M.getD 1 0+(i:Int)+1)=2*(M.getD 1 0+1)+2*(i:Int):=by omega
  rw[e6]
  generalize hown:2*(M.getD 1 0+1)+2*(i:Int)=own at hq
  have put:∀(ns:List Int) (b:Bs) (bd2:Bool) (V1:Store) (id:Nat),3≤ns.length→b.length≤l3.length→RkZ S1 V1 b bd2 (M.getD 1 0) (rowsM M ⟨M.getD 1 0,pre,[],[],[],[],[],[]⟩) z z→V1.obj id=some (.cells 3 (ns.map fun x=>[aI x]) true)→id<V1.n→
      (bd2=false→0≤ns.getD 2 0∧(∀ k,resetP own (ns.getD 2 0)=some k→bodyP M l1=((latchesP (2*(M.getD 1 0+1)) (N2 - (i+1)) (i+1) b).map fun p=>(pre ++ [(ns.getD 1 0,k)]++p.1,p.2)).bind (restP M N4))∧(resetP own (ns.getD 2 0)=none→bodyP M l1=none))→(bd2=true→bodyP M l1=none)→
      (∃ q68:AV,(∀ T:Store,Keep V1 T→ixS 3 1 (.s id 0 ns.length) (.v (.int .i64 1)) T fun v S=>v=q68∧S=T)∧∃ q70:AV,(∀ T:Store,Keep V1 T→ld1 q68 T fun v S=>v=q70∧S=T)∧∃ q72:AV,(∀ T:Store,Keep V1 T→ixS 3 1 (.s id 0 ns.length) (.v (.int .i64 2)) T fun v S=>v=q72∧S=T)∧∃ q74:AV,(∀ T:Store,Keep V1 T→ld1 q72 T fun v S=>v=q74∧S=T)∧
       callF Pg 70 [.p S1.n 0 0,aI own,q70,q74] V1 (QfP S (outP (oP s))) fun v76 W=>bin .add 0 (aI i) (.v (.int .i64 1)) W fun v77 W=>KE 165 (env32_1 (.p S.n 0 0) (.p S1.n 0 0) v77) W):=by
   intro ns b bd2 V1 id hns hbl hV1 o1 hid h1 h2
   refine Lix o1 hid (j:=1) (by omega) rfl ?_
   refine Lix o1 hid (j:=2) (by omega) rfl ?_
   refine hV1.reset (by simp[rowsM,Ci.rowsOf];omega) fun V2 z2 hV2=>?_
   rw[bin_add (by omega) (by omega)]
   rw[←rowsM_addL (M:=M) ⟨M.getD 1 0,pre,[],[],[],[],[],[]⟩ (ns.getD 1 0,if ns.getD 2 0=own then 2 else ns.getD 2 0)]at hV2
   refine hKE _ _ ⟨i+1,pre ++ [(ns.getD 1 0,if ns.getD 2 0=own then 2 else ns.getD 2 0)],b,_,z2,rfl,hlt,by simp[hpre],by omega,hV2,fun e=>?_,fun e=>?_⟩ (by simp[intA];omega)
   ·rw[Bool.or_eq_false_iff]at e
    obtain⟨h3,h4,h5⟩:=h1 e.1
    exact h4 _ (by rw[reset_P h3,if_neg (dF e.2)])
   ·rw[Bool.or_eq_true]at e
    cases hb2:bd2 with
    |true=>exact h2 hb2
    |false =>
     obtain⟨h3,h4,h5⟩:=h1 hb2
     rcases e with e|e
     ·rw[hb2]at e;cases e
     ·exact h5 (by rw[reset_P h3,if_pos (dT e)])
  refine hV.nums2 (least:=2) (most:=3) (by omega) (by decide) (fun ns b bd2 V1 id hns hbl nV1 hV1 o1 hid1 hid2 hgd hbd=>?_) (by decide)
  have hS1V:=hV.lt
  have hnone:bd2=true→bodyP M l1=none:=fun e=>by rw[hq,hbd e];rfl
  refine W (ix0 o1 (j:=0) (by omega) rfl) ?_
  rw[bin_neq,onB_v]
  refine gd_of (fun hne=>?_) (fun heq=>?_)
  ·have hne:¬ ns.getD 0 0=own:=fun e=>by rw[decide_eq_true e]at hne;cases hne
   rw[nilChk_p,shift_p]
   refine hV1.setBad fun V2 n2 f2 hV2=>put ns b true V2 id hns hbl hV2 ((f2 _ (by omega)).trans o1) (by omega) (fun e=>by cases e) (fun _=>?_)
   cases hb2:bd2 with
   |true=>exact hnone hb2
   |false =>
    rw[hq,hgd hb2]
    simp only
    rw[if_neg hne];rfl
  ·have heq:ns.getD 0 0=own:=by
     by_cases e:ns.getD 0 0=own
     ·exact e
     ·rw[decide_eq_false e]at heq;cases heq
   refine put ns b bd2 V1 id hns hbl hV1 o1 hid2 (fun e=>?_) hnone
   have hnum:=hgd e
   have hns1:=numbersP_ok hnum
   rw[hnum]at hq
   simp only at hq
   rw[if_pos heq,heq]at hq
   refine⟨(getD_rng hns1.2.2 2).1,fun k hk=>?_,fun hk=>?_⟩
   ·rw[hq,hk]
    simp only[Option.map_map]
    congr 2
    funext p
    simp
   ·rw[hq,hk];rfl
 refine loop32_0 (fun y V=>∃(i:Nat) (l2:Bs) (bd:Bool) (z:Nat→AV),y=aI i∧i≤N1∧l2.length≤l1.length∧RkZ S1 V l2 bd (M.getD 1 0) (rowsM M cE) z z∧(bd=false→inputsP N1 0 l1=inputsP (N1 - i) i l2)∧(bd=true→bodyP M l1=none)) (fun y _=>N1 - ((intA y).getD 0).toNat)
  ⟨0,l1,false,z1,rfl,Nat.zero_le _,Nat.le_refl _,hZ1,fun _=>rfl,fun e=>by cases e⟩ ?_
 rintro _ V ⟨i,l2,bd,z,rfl,hi,hl2,hV,hg,hb⟩ KE hKE
 unfold b32_0
 refine W (hV.mAt (M:=M) (hrm7 _) (j:=1) (by omega)) ?_
 rw[hmA1,bin_lss,onB_v]
 have loop1:(bd=false→inputsP N1 0 l1=some l2)→loopV lv32_1 (vc Pg (c32.at_ [1,1,1,1,1,0,1,0,0]) (ms32.drop 2)) 165 (env32_1 (.p S.n 0 0) (.p S1.n 0 0) (.v (.int .i64 0))) V (blockK 2 (seqK (vc Pg (c32.at_ [1,1,1,1,1,1]) (ms32.drop 2)) (bodyK Pg r32 (QfP S (outP (oP s)))))):=
  fun hin=>loop1' V l2 bd z hl2 hV (fun e=>by rw[hbody,hin e];rfl) hb
 refine gd_of (fun hlt=>?_) (fun hge=>?_)
 ·have hlt:i<N1:=by have:=dT hlt;omega
  rw[nilChk_p,shift_p,hV.ldb,un_not,onB_v]
  refine gd_of (fun hb0=>?_) (fun hb1=>loop1 (fun e=>by rw[e]at hb1;cases hb1))
  have hb0:bd=false:=by simpa using hb0
  subst hb0
  have hq:=hg rfl
  have e5:N1 - i=(N1 - (i+1))+1:=by omega
  rw[e5,inputsP]at hq
  have put:∀(ns:List Int) (b:Bs) (bd2:Bool) (V1:Store) (id:Nat),1≤ns.length→b.length≤l2.length→RkZ S1 V1 b bd2 (M.getD 1 0) (rowsM M cE) z z→V1.obj id=some (.cells 3 (ns.map fun x=>[aI x]) true)→(bd2=false→ns.getD 0 0=2*((i:Int)+1)→inputsP N1 0 l1=inputsP (N1 - (i+1)) (i+1) b)→(bd2=true∨ns.getD 0 0≠2*((i:Int)+1)→bodyP M l1=none)→
      ixS 3 1 (.s id 0 ns.length) (.v (.int .i64 0)) V1 fun v29 W=>ld1 v29 W fun v30 W=>bin .add 0 (aI i) (.v (.int .i64 1)) W fun v31 W=>bin .mul 0 (.v (.int .i64 2)) v31 W fun v32 W=>bin .neq 0 v30 v32 W fun v33 W=>onB v33 fun b34=>gd b34 (nilChk (.p S1.n 0 0) W fun v35 W=>shift v35 1 W fun v36 W=>stN 1 v36 (.v (.bool true)) W fun _ W=>bin .add 0 (aI i) (.v (.int .i64 1)) W fun v38 W=>KE 165 (env32_0 (.p S.n 0 0) (.p S1.n 0 0) v38) W) (bin .add 0 (aI i) (.v (.int .i64 1)) W fun v39 W=>KE 165 (env32_0 (.p S.n 0 0) (.p S1.n 0 0) v39) W):=by
   intro ns b bd2 V1 id hns hbl hV1 o1 h1 h2
   refine W (ix0 o1 (j:=0) hns rfl) ?_
   rw[bin_add (by omega) (by omega),bin_mul (by omega) (by omega),bin_neq,onB_v]
   refine gd_of (fun hne=>?_) (fun heq=>?_)
   ·rw[nilChk_p,shift_p]
    refine hV1.setBad fun V2 n2 f2 hV2=>?_
    rw[bin_add (by omega) (by omega)]
    exact hKE _ _ ⟨i+1,b,true,z,rfl,hlt,by omega,hV2,(fun e=>by cases e),(fun _=>h2 (.inr (by simpa using hne)))⟩ (by simp[intA];omega)
   ·rw[bin_add (by omega) (by omega)]
    have heq:ns.getD 0 0=2*((i:Int)+1):=by simpa using heq
    exact hKE _ _ ⟨i+1,b,bd2,z,rfl,hlt,by omega,hV1,(fun e=>h1 e heq),(fun e=>h2 (.inl e))⟩ (by simp[intA];omega)
  refine hV.nums (least:=1) (most:=1) (by omega) (by decide) (fun ns b hns V1 id nV1 hV1 o1 hid1 hid2 fV1=>?_) (fun hn ns b V1 id hns1 hrng hbl nV1 hV1 o1 hid1 hid2 fV1=>?_) (by decide)
  ·have hns1:=numbersP_ok hns
   rw[hns]at hq
   have hq:inputsP N1 0 l1=if ns.getD 0 0=2*((i:Int)+1)then inputsP (N1 - (i+1)) (i+1) b else none:=hq
   refine put ns b false V1 id (by omega) (by omega) hV1 o1 (fun _ e=>by rw[hq,if_pos e]) (fun e=>?_)
   rcases e with e|e
   ·cases e
   ·rw[hbody,hq,if_neg e];rfl
  ·exact put ns b true V1 id hns1 hbl hV1 o1 (fun e=>by cases e) (fun _=>by rw[hbody,hq,hn];rfl)
 ·have hge:i=N1:=by have:=dF hge;omega
  subst hge
  exact loop1 (fun e=>by rw[hg e,Nat.sub_self,inputsP])
end
theorem binP_same'{k:IntKind}{a b:Int}{S:Store}{K:AV→Store→Prop}:binP k .neq (.a [.v (.int k a),.v (.int k b)]) (.a [.v (.int k a),.v (.int k b)]) S K=K (.v (.bool false)) S:=by
 simp[binP,keyA]
theorem ans60{g:Gr}(hg:g.ok):Ans Pg 60 [g.av,g.av] (aB true):=by
 intro S
 refine ACalls.ans_v (calls60 ?_)
 unfold m60
 have hlen:=hg.len
 refine boxA_of rfl fun S1 k1 n1 o1=>?_
 refine boxA_of rfl fun S2 k2 n2 o2=>?_
 have p2:=(k2.2 _ (by omega)).trans o1
 have kk:=k1.trans k2
 rw[shift_p,ld1_p (u:=aI g.inputs) p2 rfl rfl,shift_p,ld1_p (u:=aI g.inputs) o2 rfl rfl,bin_neq,decide_eq_true rfl,onB_v,gd_nT (b:=true) rfl]
 rw[shift_p,ld1_p (u:=pL g.ands) p2 rfl rfl,lenS_pL,shift_p,ld1_p (u:=pL g.ands) o2 rfl rfl,lenS_pL,bin_neq,decide_eq_true rfl,onB_v,gd_nT (b:=true) rfl]
 refine loop60_0 (fun y T=>T=S2∧∃ i:Nat,y=aI i∧i≤g.ands.length) (fun y _=>g.ands.length - ((intA y).getD 0).toNat) ⟨rfl,0,rfl,Nat.zero_le _⟩ ?_
 rintro _ T ⟨rfl,i,rfl,hi⟩ KE hKE
 unfold b60_0
 rw[shift_p,ld1_p (u:=pL g.ands) p2 rfl rfl,lenS_pL,bin_lss,onB_v]
 refine gd_of (fun hlt=>?_) (fun _=>⟨rfl,kk⟩)
 have hlt:i<g.ands.length:=by have:=dT hlt;omega
 refine W J_shift (W (J_ldp (u:=pL g.ands) p2 rfl rfl) (W (J_ixp hlt) ⟨_,W ldN_q2 ⟨rfl,rfl⟩,W J_shift (W (J_ldp (u:=pL g.ands) o2 rfl rfl) (W (J_ixp hlt) ⟨_,W ldN_q2 ⟨rfl,rfl⟩,_,W binP_same' ⟨rfl,rfl⟩,?_⟩))⟩))
 rw[onB_v,gd_false]
 rw[bin_add (by omega) (by omega)]
 exact hKE _ _ ⟨rfl,i+1,rfl,hlt⟩ (by simp[intA];omega)
theorem eqS_pp{a b:Int}{S:Store}{K:AV→Store→Prop}:eqS [1,1] .neq (.a [aI a,aI b]) (.a [aI a,aI b]) S K=K (.v (.bool false)) S:=by
 simp[eqS,eqA,eqV]
theorem eqS_na{x:Na}{S:Store}{K:AV→Store→Prop}:eqS [1,1,3] .neq (.a x.row) (.a x.row) S K=K (.v (.bool false)) S:=by
 have:(x.text == x.text)=true:=by
  show(x.text.data == x.text.data)=true
  simp
 simp[eqS,eqA,eqV,Na.row,this]
theorem ans62{l:List Int}(hl:l.length≤9223372036854775807):Ans Pg 62 [aL aI l,aL aI l] (aB true):=by
 intro S
 refine calls62 ?_
 unfold m62
 rw[lenS_aL,lenS_aL,bin_neq,onB_v,gd_nT (decide_eq_true rfl)]
 refine loop62_0 (fun y T=>T=S∧∃ i:Nat,y=aI i∧i≤l.length) (fun y _=>l.length - ((intA y).getD 0).toNat) ⟨rfl,0,rfl,Nat.zero_le _⟩ ?_
 rintro _ T ⟨rfl,i,rfl,hi⟩ KE hKE
 unfold b62_0
 rw[lenS_aL,bin_lss,onB_v]
 refine gd_of (fun hlt=>?_) (fun _=>⟨rfl,rfl⟩)
 have hlt:i<l.length:=by have:=dT hlt;omega
 refine W (J_ix hlt) ⟨_,by rw[ld1_q];exact⟨rfl,rfl⟩,W (J_ix hlt) ⟨_,by rw[ld1_q];exact⟨rfl,rfl⟩,W J_neqS ?_⟩⟩
 rw[onB_v,gd_false,bin_add (by omega) (by omega)]
 exact hKE _ _ ⟨rfl,i+1,rfl,hlt⟩ (by simp[intA];omega)
theorem J_ixn{l:List Na}{e i:Nat}{S0:Store}{P:AV→Prop}(h:i<l.length):(∃ q,(ixS e 3 (nL l) (aI i) S0 fun v S=>v=q∧S=S0)∧P q)=P (.q l[i].row 0):=J_by (op:=fun K=>ixS e 3 (nL l) (aI i) S0 K) fun K=>ixS_nL h
theorem J_lennL{l:List Na}{S0:Store}{P:AV→Prop}:(∃ q,(lenS (nL l) S0 fun v S=>v=q∧S=S0)∧P q)=P (aI l.length):=J_by (op:=fun K=>lenS (nL l) S0 K) fun K=>lenS_nL _
theorem ans25{c:Ci}(hc:c.ok):Ans Pg 25 [c.av,c.av] (aB true):=by
 intro S
 refine ACalls.ans_v (calls25 ?_)
 unfold m25
 have hll:=hc.llen
 have hnl:=hc.nlen
 refine boxA_of rfl fun S1 k1 n1 o1=>?_
 refine boxA_of rfl fun S2 k2 n2 o2=>?_
 have p2:=(k2.2 _ (by omega)).trans o1
 have kk:=k1.trans k2
 refine W (J_ldN (n:=8) p2 rfl) (J_callA (ans61 c) (W (J_ldN (n:=8) o2 rfl) (J_callA (ans61 c) (J_callA (ans60 hc.gr) (W J_notB ?_)))))
 rw[onB_v,gd_nT rfl]
 refine W J_shift (W (J_ldp (u:=aI c.inputs) p2 rfl rfl) (W J_shift (W (J_ldp (u:=aI c.inputs) o2 rfl rfl) (W J_neqS (W J_mvS ?_)))))
 rw[onB_v,gd_false]
 refine W J_shift (W (J_ldp (u:=pL c.latches) p2 rfl rfl) (W J_lenpL' (W J_shift (W (J_ldp (u:=pL c.latches) o2 rfl rfl) (W J_lenpL' (W J_neqS (W J_mvS ?_)))))))
 rw[onB_v,gd_false]
 refine W J_shift (W (J_ldp (u:=nL c.names) p2 rfl rfl) (W J_lennL (W J_shift (W (J_ldp (u:=nL c.names) o2 rfl rfl) (W J_lennL (W J_neqS (W J_mvS ?_)))))))
 rw[onB_v,gd_false]
 refine loop25_0 (fun y T=>S2=T∧∃ i:Nat,y=aI i∧i≤c.latches.length) (fun y _=>c.latches.length - ((intA y).getD 0).toNat) ⟨rfl,0,rfl,Nat.zero_le _⟩ ?_
 rintro _ T ⟨rfl,i,rfl,hi⟩ KE hKE
 unfold b25_0
 rw[shift_p,ld1_p (u:=pL c.latches) p2 rfl rfl,lenS_pL,bin_lss,onB_v]
 refine gd_of (fun hlt=>?_) (fun _=>?_)
 ·have hlt:i<c.latches.length:=by have:=dT hlt;omega
  refine W J_shift (W (J_ldp (u:=pL c.latches) p2 rfl rfl) (W (J_ixp hlt) ⟨_,W ldN_q2 ⟨rfl,rfl⟩,W J_shift (W (J_ldp (u:=pL c.latches) o2 rfl rfl) (W (J_ixp hlt) ⟨_,W ldN_q2 ⟨rfl,rfl⟩,_,W eqS_pp ⟨rfl,rfl⟩,?_⟩))⟩))
  rw[onB_v,gd_false,bin_add (by omega) (by omega)]
  exact hKE _ _ ⟨rfl,i+1,rfl,hlt⟩ (by simp[intA];omega)
 refine loop25_1 (fun y T=>S2=T∧∃ i:Nat,y=aI i∧i≤c.names.length) (fun y _=>c.names.length - ((intA y).getD 0).toNat) ⟨rfl,0,rfl,Nat.zero_le _⟩ ?_
 rintro _ T ⟨rfl,i,rfl,hi⟩ KE hKE
 unfold b25_1
 rw[shift_p,ld1_p (u:=nL c.names) p2 rfl rfl,lenS_nL,bin_lss,onB_v]
 refine gd_of (fun hlt=>?_) (fun _=>?_)
 ·have hlt:i<c.names.length:=by have:=dT hlt;omega
  refine W J_shift (W (J_ldp (u:=nL c.names) p2 rfl rfl) (W (J_ixn hlt) ⟨_,W ldN_q3 ⟨rfl,rfl⟩,W J_shift (W (J_ldp (u:=nL c.names) o2 rfl rfl) (W (J_ixn hlt) ⟨_,W ldN_q3 ⟨rfl,rfl⟩,_,W (eqS_na (x:=c.names[i])) ⟨rfl,rfl⟩,?_⟩))⟩))
  rw[onB_v,gd_false,bin_add (by omega) (by omega)]
  exact hKE _ _ ⟨rfl,i+1,rfl,hlt⟩ (by simp[intA];omega)
 rw[shift_p,ld1_p (u:=aL aI c.outs) p2 rfl rfl,shift_p,ld1_p (u:=aL aI c.outs) o2 rfl rfl]
 refine callF_ans (ans62 hc.outs.2) ?_
 rw[onB_v,gd_true,shift_p,ld1_p (u:=aL aI c.bads) p2 rfl rfl,shift_p,ld1_p (u:=aL aI c.bads) o2 rfl rfl]
 refine callF_ans (ans62 hc.bads.2) ?_
 rw[onB_v,gd_true,shift_p,ld1_p (u:=aL aI c.cons) p2 rfl rfl,shift_p,ld1_p (u:=aL aI c.cons) o2 rfl rfl]
 refine callF_ans (ans62 hc.cons.2) ?_
 rw[onB_v,gd_true,shift_p,ld1_p (u:=aL aI c.fair) p2 rfl rfl,shift_p,ld1_p (u:=aL aI c.fair) o2 rfl rfl]
 refine callF_ans (ans62 hc.fair.2) ?_
 exact⟨rfl,kk⟩
theorem e0C{p:Ci × Int}{S:Store}{K:AV→Store→Prop}:extr (retC p) 0 S K=K p.1.av S:=ext_t rfl
theorem e1C{p:Ci × Int}{S:Store}{K:AV→Store→Prop}:extr (retC p) 1 S K=K (aI p.2) S:=ext_t rfl
theorem cE_ok:cE.ok:=ok_of_small ⟨by decide,by decide⟩ (by decide) (fun _ h=>by cases h) (fun _ h=>by cases h) (fun _ h=>by cases h) (fun _ h=>by cases h) (fun _ h=>by cases h) (fun _ h=>by cases h) (fun _ h=>by cases h)
theorem parse_ok(s:Bs):(parseP s).1.ok:=by
 rw[parseP_o]
 split
 ·exact cE_ok
 ·rename_i h
  cases ho:oP s with
  |error e=>exact cE_ok
  |ok c =>
   unfold outP
   simp only
   split
   ·exact(oP_ok (by omega) c ho).1
   ·exact cE_ok
theorem ans19(s:Bs):Ans Pg 19 [aT s] (aB true):=by
 intro S
 refine ACalls.ans_v (calls19 ?_)
 unfold m19
 refine callF_ans (ans24 s) ?_
 rw[e0C,e1C]
 refine boxA_of rfl fun S1 k1 n1 o1=>?_
 refine stA_of (cs':=(parseP s).1.cells) o1 rfl rfl fun S2 n2 o2 f2=>?_
 have k2:=k1.st (Nat.le_refl _) n2 f2
 refine callF_ans (ans32 s) ?_
 rw[e0C,e1C]
 refine boxA_of rfl fun S3 k3 n3 o3=>?_
 refine stA_of (cs':=(parseP s).1.cells) o3 rfl rfl fun S4 n4 o4 f4=>?_
 have k4:=k3.st (Nat.le_refl _) n4 f4
 rw[ldN_p (n:=8) ((k4.2 _ (by omega)).trans o2) rfl,ldN_p (n:=8) o4 rfl]
 refine callF_ans (ans25 (parse_ok s)) ?_
 rw[onB_v,gd_true,bin_eql,decide_eq_true rfl]
 exact⟨rfl,k2.trans k4⟩
def c1A:Ci:=⟨0,[(3,0)],[],[],[],[],[],[]⟩
def s1A:Bs:=[97,97,103,32,49,32,48,32,49,32,48,32,48,10,50,32,51,10]
def s2A:Bs:=[97,97,103,32,49,32,48,32,49,32,48,32,48,10,50,32,52,10]
def s3A:Bs:=[97,97,103,32,49,32,48,32,49,32,48,32,48,10,51,32,51,10]
def s4A:Bs:=[97,105,103,32,49,32,48,32,49,32,48,32,48,10,50,32,51,10]
def t1A:Bs:=[97,97,103,32,49,32,48,32,49,32,48,32,48,32,48,32,48,32,48,32,48,10,50,32,51,10]
theorem oA1:oP s1A = .ok c1A:=by kernel_rfl
theorem oA2:∃ c:Ci,oP s2A = .ok c∧c.latches = [(4,0)]∧c.inputs=0∧c.ands = []:=⟨⟨0,[(4,0)],[],[],[],[],[],[]⟩,by kernel_rfl,rfl,rfl,rfl⟩
theorem oA3:oP s3A = .error 21:=by kernel_rfl
theorem oA4:oP s4A = .error 20:=by kernel_rfl
theorem rA1:c1A.right=true:=right_c.2 ⟨by decide,by decide,by decide,by decide,by decide,by decide,by decide,by decide,by decide,by decide,by decide,by decide,by
 simp only[namesB,decide_eq_true_eq]
 exact NamesR.zero c1A⟩
theorem pA1:parseP s1A=(c1A,0):=by
 rw[parseP_o,if_neg (by decide),oA1]
 show(if c1A.right=true then _ else _)=_
 rw[if_pos rA1]
theorem pA2:(parseP s2A).2=22:=by
 obtain⟨c,h,hl,hi,ha⟩:=oA2
 rw[parseP_o,if_neg (by decide),h]
 show((if c.right=true then(c,0)else(cE,22):Ci × Int)).2=_
 rw[if_neg]
 intro hr
 have h1:(c.latches.all (latOk c.gr))=true:=by
  unfold Ci.right at hr
  simp only[Bool.and_eq_true]at hr
  exact hr.2.2.1
 rw[hl]at h1
 have hg:c.gr=(⟨0,[(4,0)],[],[],[],[],[],[]⟩:Ci).gr:=by
  unfold Ci.gr
  rw[hl,hi,ha]
 rw[hg]at h1
 revert h1
 decide +kernel
theorem pA3:(parseP s3A).2=21:=by rw[parseP_o,if_neg (by decide),oA3];rfl
theorem pA4:(parseP s4A).2=20:=by rw[parseP_o,if_neg (by decide),oA4];rfl
theorem tA1:c1A.aagT=t1A:=by decide +kernel
theorem okA1:c1A.ok:=by have:=parse_ok s1A;rw[pA1]at this;exact this
def cN:Ci:=⟨-1,[],[],[],[],[],[],[]⟩
theorem rN:¬ cN.right=true:=by
 intro hr
 unfold Ci.right at hr
 simp only[Bool.and_eq_true]at hr
 have:=hr.1
 revert this
 decide +kernel
theorem okN:cN.ok:=⟨⟨by decide,by decide⟩,by decide,by decide,(fun p hp=>by cases hp),(fun p hp=>by cases hp),⟨fun x hx=>(by cases hx),by decide⟩,⟨fun x hx=>(by cases hx),by decide⟩,⟨fun x hx=>(by cases hx),by decide⟩,⟨fun x hx=>(by cases hx),by decide⟩,(fun x hx=>by cases hx),by decide⟩
theorem cvN{S:Store}{m:Nat}{i:Int}:Cv S m (.a [aI i,.nl,.nl,.nl,.nl,.nl,.nl,.nl]) (Ci.av ⟨i,[],[],[],[],[],[],[]⟩):=by
 refine .a _ (Ci.cells ⟨i,[],[],[],[],[],[],[]⟩) rfl fun k u u2 h1 h2=>?_
 match k with
 |0=>cases h1;cases h2;exact .v _
 |1=>cases h1;cases h2;exact .nl
 |2=>cases h1;cases h2;exact .nl
 |3=>cases h1;cases h2;exact .nl
 |4=>cases h1;cases h2;exact .nl
 |5=>cases h1;cases h2;exact .nl
 |6=>cases h1;cases h2;exact .nl
 |7=>cases h1;cases h2;exact .nl
 |k+8=>cases h1
theorem J_eqT{a b:Bs}{kd:Nat}{S0:Store}{P:AV→Prop}:(∃ q,(bin .eql kd (aT a) (aT b) S0 fun v S=>v=q∧S=S0)∧P q)=P (aB (decide (a=b))):=J_by (op:=fun K=>bin .eql kd (aT a) (aT b) S0 K) fun K=>by
 rw[bin_eqlS]
 have e:decide ((⟨a.toArray⟩:ByteArray)=⟨b.toArray⟩)=decide (a=b):=decide_eq_decide.2 ab_eq
 rw[e]
instance (priority:=2000) jnEqII {S0:Store} {P:AV→Prop} {k:IntKind} {a:Int} {kd:Nat}:Jn (∃ q,(bin .eql kd (.v (.int k a)) (.v (.int k a)) S0 fun v S=>v=q∧S=S0)∧P q) (P (.v (.bool true))):=⟨by
 have:=J_eql (k:=k) (a:=a) (b:=a) (kd:=kd) (S0:=S0) (P:=P)
 rw[decide_eq_true rfl]at this
 exact this⟩
theorem J_eqTT{a:Bs}{kd:Nat}{S0:Store}{P:AV→Prop}:(∃ q,(bin .eql kd (aT a) (aT a) S0 fun v S=>v=q∧S=S0)∧P q)=P (.v (.bool true)):=by
 rw[J_eqT,decide_eq_true rfl]
theorem ans18:Ans Pg 18 [] (aB true):=by
 intro S
 refine ACalls.ans_v (calls18 ?_)
 unfold m18
 refine callF_ans (ans24 s1A) ?_
 rw[e0C,e1C,pA1]
 dsimp only
 refine boxA_of rfl fun S1 k1 n1 o1=>?_
 refine stA_of (cs':=c1A.cells) o1 rfl rfl fun S2 n2 o2 f2=>?_
 have k2:=k1.st (Nat.le_refl _) n2 f2
 rw[ldN_p (n:=8) o2 rfl]
 have hp:=ans20 okA1 (by decide)
 rw[if_pos rA1,tA1]at hp
 refine callF_ans hp ?_
 rw[extr0,extr1]
 refine callF_ans (ans24 s2A) ?_
 rw[e0C,e1C,pA2]
 refine boxA_of rfl fun S3 k3 n3 o3=>?_
 refine stA_of (cs':=(parseP s2A).1.cells) o3 rfl rfl fun S4 n4 o4 f4=>?_
 have k4:=k3.st (Nat.le_refl _) n4 f4
 refine callF_ans (ans24 s3A) ?_
 rw[e0C,e1C,pA3]
 refine boxA_of rfl fun S5 k5 n5 o5=>?_
 refine stA_of (cs':=(parseP s3A).1.cells) o5 rfl rfl fun S6 n6 o6 f6=>?_
 have k6:=k5.st (Nat.le_refl _) n6 f6
 refine callF_ans (ans24 s4A) ?_
 rw[e0C,e1C,pA4]
 refine boxA_of rfl fun S7 k7 n7 o7=>?_
 refine stA_of (cs':=(parseP s4A).1.cells) o7 rfl rfl fun S8 n8 o8 f8=>?_
 have k8:=k7.st (Nat.le_refl _) n8 f8
 refine⟨[aI (-1),.nl,.nl,.nl,.nl,.nl,.nl,.nl],rfl,?_⟩
 have hq:=ans20 okN (by decide)
 rw[if_neg rN]at hq
 refine callF_cv' (args:=[.a [aI (-1),.nl,.nl,.nl,.nl,.nl,.nl,.nl]]) hq rfl (cv_1 (cvN (i:=-1))) ?_
 rw[extr0,extr1]
 have o8':S8.obj S.n=some (.cells 29 [c1A.cells] true):=(k8.2 _ (by omega)).trans ((k6.2 _ (by omega)).trans ((k4.2 _ (by omega)).trans o2))
 have kk:Keep S S8:=((k2.trans k4).trans k6).trans k8
 have hix:∀{P:AV→Prop},(∃ q,(ixS 51 2 (pL c1A.latches) (.v (.int .i64 0)) S8 fun v S=>v=q∧S=S8)∧P q)=P (.q [aI 3,aI 0] 0):=J_by (op:=fun K=>ixS 51 2 (pL c1A.latches) (.v (.int .i64 0)) S8 K) fun K=>ixS_pL (l:=c1A.latches) (i:=0) (by decide)
 have hln:∀{P:AV→Prop},(∃ q,(lenS (pL c1A.latches) S8 fun v S=>v=q∧S=S8)∧P q)=P (.v (.int .i64 1)):=J_by (op:=fun K=>lenS (pL c1A.latches) S8 K) fun K=>lenS_pL _
 show ∃ q:AV,_
 (repeat (first|with_reducible_and_instances (first|refine WJ ?_|refine W (J_ldp (u:=pL c1A.latches) o8' (by with_unfolding_all rfl) (by with_unfolding_all rfl)) ?_|refine W (hln) ?_|refine W (hix) ?_|refine W (J_eqTT (a:=t1A)) ?_|refine W (J_ldq (by with_unfolding_all rfl)) ?_)))
 exact⟨rfl,kk⟩
theorem law3{s:ByteArray}:Ans Pg 3 [.v (.string s)] (aB true):=by
 intro S
 have hs:=ans19 s.data.toList
 rw[←aT_data]at hs
 refine calls3 ?_
 unfold m3
 refine callF_ans ans18 ?_
 rw[onB_v,gd_true,lenStr_b,bin_gtr,onB_v]
 refine gd_of (fun _=>?_) (fun _=>callF_ans hs ⟨rfl,rfl⟩)
 rw[lenStr_b,bin_leq,onB_v]
 exact gd_of (fun _=>⟨rfl,rfl⟩) (fun _=>callF_ans hs ⟨rfl,rfl⟩)
end
end Go.Proofs.YtodfhmmjemlmeaaGreatDoor.G

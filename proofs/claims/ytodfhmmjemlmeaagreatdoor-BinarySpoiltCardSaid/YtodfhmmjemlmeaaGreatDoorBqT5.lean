/- Binary -/
import Derived.Test.YtodfhmmjemlmeaaGreatDoorProg
import Derived.KernelRfl
import Derived.Test.YtodfhmmjemlmeaaGreatDoorBqT4
set_option linter.unusedVariables false
set_option linter.unusedSimpArgs false
namespace Go.Proofs.YtodfhmmjemlmeaaGreatDoor.G
open Go Go.Ab
noncomputable section
theorem bslA2{e:Nat}{zc:List AV}{a b:AV}(hz:zc.length=2){S:Store}{K:AV→Store→Prop}(k:K (.l [[a,b]]) S):bslN e 2 1 zc [(0,.a [a,b])] S K:=by
 refine⟨[a,b],?_,.inr ?_⟩
 ·match zc,hz with
  |[x,y],_=>simp[fillA,cellsOf,spl,List.range_succ]
 ·simpa[chunks,List.range_succ]using k
theorem bslP3{e:Nat}{zc:List AV}{a b c:AV}(hz:zc.length=3){S:Store}{K:AV→Store→Prop}(k:K (.l [[a,b,c]]) S):bslN e 3 1 zc [(0,.a [a,b,c])] S K:=by
 refine⟨[a,b,c],?_,.inr ?_⟩
 ·match zc,hz with
  |[x,y,w],_=>simp[fillA,cellsOf,spl,List.range_succ]
 ·simpa[chunks,List.range_succ]using k
section
variable {S0 T:Store} {l:Bs} {M:List Int} {c:Ci} {inp:Int} {r:Nat→List (List AV)} {y z:Nat→AV}
theorem TkZ.Jm(h:TkZ S0 T l M inp r y z){j:Nat}(hj:j<9){P:AV→Prop}(k:P (aI (M.getD j 0))):
    ∃ q1,(nilChk (.p S0.n 0 0) T fun v S=>v=q1∧S=T)∧∃ q3,(shift q1 1 T fun v S=>v=q3∧S=T)∧∃ q5,(ixA 9 1 q3 (aI j) T fun v S=>v=q5∧S=T)∧∃ q7,(ld1 q5 T fun v S=>v=q7∧S=T)∧P q7:=by
 refine⟨_,by rw[nilChk_p];exact⟨rfl,rfl⟩,_,by rw[shift_p];exact⟨rfl,rfl⟩,_,by rw[ixA_pj hj];exact⟨rfl,rfl⟩,_,?_,k⟩
 rw[Nat.zero_add,h.ldm hj]
 exact⟨rfl,rfl⟩
theorem TkZ.lats(h:TkZ S0 T l M inp r y z)(hM:∀ j,0≤M.getD j 0∧M.getD j 0≤2000):AnsAt Pg 55 [.p S0.n 0 0] T (.t [aI (M.getD 2 0),aI (2*(M.getD 1 0+1))]):=by
 refine calls55 ?_
 unfold m55
 have m1:=hM 1
 refine h.Jm (j:=2) (by decide) ?_
 refine h.Jm (j:=1) (by decide) ?_
 refine W (J_add (by omega) (by omega)) (W (J_mulI (by omega) (by omega)) ?_)
 exact⟨rfl,rfl⟩
theorem TkZ.gates(h:TkZ S0 T l M inp r y z)(hM:∀ j,0≤M.getD j 0∧M.getD j 0≤2000):AnsAt Pg 58 [.p S0.n 0 0] T (.t [aI (M.getD 4 0),aI (2*(M.getD 1 0+M.getD 2 0+1))]):=by
 refine calls58 ?_
 unfold m58
 have m1:=hM 1
 have m2:=hM 2
 refine h.Jm (j:=4) (by decide) ?_
 refine h.Jm (j:=1) (by decide) ?_
 refine h.Jm (j:=2) (by decide) ?_
 refine W (J_add (by omega) (by omega)) (W (J_add (by omega) (by omega)) (W (J_mulI (by omega) (by omega)) ?_))
 exact⟨rfl,rfl⟩
def Ci.addL(c:Ci)(p:Int × Int):Ci:={ c with latches:=c.latches ++ [p] }
def Ci.addA(c:Ci)(p:Int × Int):Ci:={ c with ands:=c.ands ++ [p] }
def Ci.addN(c:Ci)(x:Na):Ci:={ c with names:=c.names ++ [x] }
def Ci.setK(c:Ci)(L:List (List Int)):Ci:={ c with outs:=L.getD 0 [],bads:=L.getD 1 [],cons:=L.getD 2 [],fair:=L.getD 3 [] }
theorem rows_addL(c:Ci)(p:Int × Int):(c.addL p).rowsOf=updZ c.rowsOf 0 (c.rowsOf 0 ++ [[aI p.1,aI p.2]]):=by
 funext j
 match j with
 |0=>simp[Ci.rowsOf,updZ,Ci.addL]
 |1=>rfl
 |2=>rfl
 |3=>rfl
 |4=>rfl
 |5=>rfl
 |6=>rfl
 |j+7=>rfl
theorem rows_addA(c:Ci)(p:Int × Int):(c.addA p).rowsOf=updZ c.rowsOf 1 (c.rowsOf 1 ++ [[aI p.1,aI p.2]]):=by
 funext j
 match j with
 |0=>rfl
 |1=>simp[Ci.rowsOf,updZ,Ci.addA]
 |2=>rfl
 |3=>rfl
 |4=>rfl
 |5=>rfl
 |6=>rfl
 |j+7=>rfl
theorem rows_addN(c:Ci)(x:Na):(c.addN x).rowsOf=updZ c.rowsOf 6 (c.rowsOf 6 ++ [x.row]):=by
 funext j
 match j with
 |0=>rfl
 |1=>rfl
 |2=>rfl
 |3=>rfl
 |4=>rfl
 |5=>rfl
 |6=>simp[Ci.rowsOf,updZ,Ci.addN]
 |j+7=>rfl
theorem rows_setK(c:Ci)(pre:List (List Int))(cur:List Int)(x:Int)(h:pre.length<4):(c.setK (pre ++ [cur ++ [x]])).rowsOf=updZ (c.setK (pre ++ [cur])).rowsOf (2+pre.length) ((c.setK (pre ++ [cur])).rowsOf (2+pre.length) ++ [[aI x]]):=by
 funext j
 match pre,h with
 |[],_ =>
  match j with
  |2=>simp[Ci.rowsOf,updZ,Ci.setK]
  |0=>rfl
  |1=>rfl
  |3=>rfl
  |4=>rfl
  |5=>rfl
  |6=>rfl
  |j+7=>rfl
 |[a],_ =>
  match j with
  |3=>simp[Ci.rowsOf,updZ,Ci.setK]
  |0=>rfl
  |1=>rfl
  |2=>rfl
  |4=>rfl
  |5=>rfl
  |6=>rfl
  |j+7=>rfl
 |[a,b],_ =>
  match j with
  |4=>simp[Ci.rowsOf,updZ,Ci.setK]
  |0=>rfl
  |1=>rfl
  |2=>rfl
  |3=>rfl
  |5=>rfl
  |6=>rfl
  |j+7=>rfl
 |[a,b,d],_ =>
  match j with
  |5=>simp[Ci.rowsOf,updZ,Ci.setK]
  |0=>rfl
  |1=>rfl
  |2=>rfl
  |3=>rfl
  |4=>rfl
  |6=>rfl
  |j+7=>rfl
theorem rows_len(c:Ci)(pre:List (List Int))(cur:List Int)(h:pre.length<4):((c.setK (pre ++ [cur])).rowsOf (2+pre.length)).length=cur.length:=by
 match pre,h with
 |[],_=>simp[Ci.rowsOf,Ci.setK]
 |[a],_=>simp[Ci.rowsOf,Ci.setK]
 |[a,b],_=>simp[Ci.rowsOf,Ci.setK]
 |[a,b,d],_=>simp[Ci.rowsOf,Ci.setK]
theorem setK_nil(c:Ci)(pre:List (List Int))(h:pre.length<4):c.setK (pre ++ [[]])=c.setK pre:=by
 match pre,h with
 |[],_=>rfl
 |[a],_=>rfl
 |[a,b],_=>rfl
 |[a,b,d],_=>rfl
theorem Tk.latch(h:Tk S0 T l M c)(hl:c.latches.length≤1000000){own next reset:Int}{Q:AEnd→Store→Prop}{K:AV→Store→Prop}
    (h1:∀ k,resetP own reset=some k→∀ T',T.n≤T'.n→Tk S0 T' l M (c.addL (next,k))→K (.t []) T') (h0:resetP own reset=none→Q (wr 21) T):
    callF Pg 56 [.p S0.n 0 0,aI own,aI next,aI reset] T Q K:=by
 refine .inl (calls56 ?_)
 unfold m56
 obtain⟨z,h⟩:=h
 have put:∀ k,resetP own reset=some k→ld1 (.p S0.n 0 11) T fun v5 S=>bld [(0,1),(1,1)] [aI 0,aI 0] [(0,aI next),(1,aI k)] S fun v7 S=>bslN 51 2 1 [aI 0,aI 0] [(0,v7)] S fun v8 S=>appS 51 2 16 v5 v8 S fun v9 S=>nilChk (.p S0.n 0 0) S fun v10 S=>shift v10 10 S fun v11 S=>shift v11 1 S fun v12 S=>stN 1 v12 v9 S fun _ S=>K (.t []) S:=by
  intro k hk
  refine W (h.ldz (j:=0) (by decide)) ?_
  refine⟨[aI next,aI k],rfl,?_⟩
  refine bslA2 rfl ?_
  refine h.app (j:=0) (by decide) rfl (c:=[aI next,aI k]) rfl (by simp[Ci.rowsOf];omega) rfl fun x' T' hx n' h' _=>?_
  rw[nilChk_p,shift_p,shift_p]
  refine h'.st (i:=11+0) (tkC_sz h.len (by decide)) (by decide) hx h.len fun T2 n2 f2 h2=>?_
  exact h1 k hk T2 (by omega) (Tk.of h2 rfl (rows_addL c _))
 have e2:∀{K':AV→Store→Prop},(nilChk (.p S0.n 0 0) T fun v S=>shift v 10 S fun v S=>shift v 1 S K')=K' (.p S0.n 0 11) T:=fun{K'}=>by rw[nilChk_p,shift_p,shift_p]
 rw[bin_eql,onB_v]
 refine gd_of (fun ho=>?_) (fun ho=>?_)
 ·have ho:=dT ho
  rw[e2]
  exact put 2 (by rw[resetP,if_pos ho])
 have ho:=dF ho
 rw[bin_eql,onB_v]
 refine gd_of (fun h00=>?_) (fun h00=>?_)
 ·rw[h00,onB_v,gd_true,e2]
  exact put reset (by rw[resetP,if_neg ho,if_pos (.inl (dT h00))])
 have h00:=dF h00
 rw[bin_eql,onB_v]
 refine gd_of (fun h01=>?_) (fun h01=>?_)
 ·rw[e2]
  exact put reset (by rw[resetP,if_neg ho,if_pos (.inr (dT h01))])
 ·have h01:=dF h01
  exact Want_c (fun h=>by cases h) (fun _=>h0 (by rw[resetP,if_neg ho,if_neg (fun e=>e.elim h00 h01)]))
def colIx(i:Nat):Nat:=match i with|0=>3|1=>5|2=>6|_=>8
def colsN(M:List Int):Nat→Bs→Option (List (List Int) × Bs)
 |0,l=>some ([],l)
 |n+1,l=>(columnP (mAt M (colIx (3 - n))) l).bind fun o=>(colsN M n o.2).map fun p=>(o.1 :: p.1,p.2)
theorem colsN_s(M:List Int)(n:Nat)(l:Bs):colsN M (n+1) l=(columnP (mAt M (colIx (3 - n))) l).bind fun o=>(colsN M n o.2).map fun p=>(o.1 :: p.1,p.2):=rfl
def tup(L:List (List Int)):List Int × List Int × List Int × List Int:=(L.getD 0 [],L.getD 1 [],L.getD 2 [],L.getD 3 [])
theorem colsP_N(M:List Int)(l:Bs):colsP M l=(colsN M 4 l).map fun p=>(tup p.1,p.2):=by
 simp only[colsP,colsN]
 simp[colIx,Option.map_eq_bind,Function.comp_def,tup,Option.bind_assoc]
theorem columnP_add:∀(a b:Nat) (l:Bs),columnP (a+b) l=(columnP a l).bind fun p=>(columnP b p.2).map fun q=>(p.1++q.1,q.2)
 |0,b,l=>by simp[columnP]
 |a+1,b,l=>by
  rw[Nat.add_right_comm,columnP,columnP]
  split
  ·rw[columnP_add a b]
   simp[Option.map_bind,Option.bind_map,Option.map_map,Function.comp_def]
  ·rfl
theorem tkT_c{i:Nat}(h:i<4):tkT (2+i)=3:=by
 match i,h with
 |0,_=>rfl
 |1,_=>rfl
 |2,_=>rfl
 |3,_=>rfl
theorem Tk.columns(h:Tk S0 T l M c)(hl:l.length≤1000000)(hM:∀ j,0≤M.getD j 0∧M.getD j 0≤2000)(hc:c.setK []=c){Q:AEnd→Store→Prop}{K:AV→Store→Prop}
    (h1:∀ L b,colsN M 4 l=some (L,b)→∀ T',Tk S0 T' b M (c.setK L)→K (.t []) T')
    (h0:colsN M 4 l=none→∀ T',Keep S0 T'→Q (wr 21) T'):callF Pg 57 [.p S0.n 0 0] T Q K:=by
 refine .inl (calls57 ?_)
 unfold m57
 rw[nilChk_p,shift_p]
 have part:∀(j:Nat) (m:Int) {P:AV→Prop},P (.a [.p S0.n 0 (10+j),aI m])→∃ q3,(nilChk (.p S0.n 0 (0+10)) T fun v S=>v=q3∧S=T)∧∃ q5,(shift q3 j T fun v S=>v=q5∧S=T)∧∃ q7,(bld [(0,1),(1,1)] [.v (.pointer none),aI 0] [(0,q5),(1,aI m)] T fun v S=>v=q7∧S=T)∧P q7:=fun j m P k=>by
  refine⟨_,by rw[nilChk_p];exact⟨rfl,rfl⟩,_,by rw[shift_p];exact⟨rfl,rfl⟩,_,⟨[.p S0.n 0 (10+j),aI m],?_,rfl,rfl⟩,k⟩
  simp[fillA,cellsOf,spl,AV.one,Value.oneCell']
 refine part 3 3 (part 4 5 (part 5 6 (part 6 8 ?_)))
 refine⟨_,⟨[.p S0.n 0 13,aI 3,.p S0.n 0 14,aI 5,.p S0.n 0 15,aI 6,.p S0.n 0 16,aI 8],rfl,rfl,rfl⟩,?_⟩
 refine loop57_0 (fun y U=>∃(i:Nat) (pre:List (List Int)) (l':Bs),y=aI i∧i≤4∧pre.length=i∧l'.length≤l.length∧Tk S0 U l' M (c.setK pre)∧colsN M 4 l=(colsN M (4 - i) l').map fun p=>(pre++p.1,p.2)) (fun y _=>4 - ((intA y).getD 0).toNat)
  ⟨0,[],l,rfl,by decide,rfl,Nat.le_refl _,by rw[hc];exact h,by simp⟩ ?_
 rintro _ U ⟨i,pre,l',rfl,hi,hpre,hl',hU,hq⟩ KE hKE
 unfold b57_0
 rw[bin_lss,onB_v]
 refine gd_of (fun hlt=>?_) (fun hge=>?_)
 ·have hlt:i<4:=by have:(i:Int)<4:=dT hlt
                   omega
  have hci:=hM (colIx i)
  have hci9:colIx i<9:=by unfold colIx;split<;>decide
  have hpart:∀{K:AV→Store→Prop},partN (.a [.p S0.n 0 13,aI 3,.p S0.n 0 14,aI 5,.p S0.n 0 15,aI 6,.p S0.n 0 16,aI 8]) 2 (i*2) U K=K (.a [.p S0.n 0 (11+(2+i)),aI (colIx i)]) U:=fun{K}=>by
   match i,hlt with
   |0,_=>simp[partN,partA,colIx]
   |1,_=>simp[partN,partA,colIx]
   |2,_=>simp[partN,partA,colIx]
   |3,_=>simp[partN,partA,colIx]
  refine⟨(i:Int),rfl,⟨by omega,by omega⟩,?_⟩
  rw[Int.toNat_natCast,hpart]
  refine boxA_of rfl fun U1 k1 n1 o1=>?_
  refine stA_of (cs':=[.p S0.n 0 (11+(2+i)),aI (colIx i)]) o1 rfl rfl fun U2 n2 o2 f2=>?_
  have kU:Keep U U2:=k1.st (Nat.le_refl _) n2 f2
  have hU2:=hU.keep kU
  obtain⟨zz,hz2⟩:=hU2
  have hSU:S0.n<U.n:=by obtain⟨z,hz⟩:=hU;exact hz.lt
  refine W J_shift (W (J_ldp (u:=aI (colIx i)) o2 rfl rfl) ?_)
  refine hz2.Jm hci9 ?_
  have hcm:aI (M.getD (colIx i) 0)=aI ((mAt M (colIx i):Nat):Int):=by congr 1;show _=(((M.getD (colIx i) 0).toNat:Nat):Int);omega
  rw[hcm]
  have e3:4 - i=(4 - (i+1))+1:=by omega
  have e4:3 - (4 - (i+1))=i:=by omega
  rw[e3,colsN_s M (4 - (i+1)) l',e4]at hq
  generalize hnn:mAt M (colIx i)=nn at hq
  have hnn2:nn≤2000:=by rw[←hnn];show(M.getD (colIx i) 0).toNat≤2000;omega
  refine loop57_1 (fun y V=>∃(j:Nat) (cur:List Int) (l2:Bs),y=aI j∧j≤nn∧cur.length=j∧l2.length≤l.length∧Tk S0 V l2 M (c.setK (pre ++ [cur]))∧V.obj U.n=some (.cells _ [[.p S0.n 0 (11+(2+i)),aI (colIx i)]] true)∧U.n<V.n∧columnP nn l'=(columnP (nn - j) l2).map fun p=>(cur++p.1,p.2)) (fun y _=>nn - ((intA y).getD 0).toNat)
   ⟨0,[],l',rfl,Nat.zero_le _,rfl,hl',by rw[setK_nil _ _ (by omega)];exact⟨zz,hz2⟩,o2,by omega,by simp⟩ ?_
  rintro _ V ⟨j,cur,l2,rfl,hj,hcur,hl2,⟨zv,hV⟩,oV,nV,hcol⟩ KE1 hKE1
  unfold b57_1
  rw[bin_lss,onB_v]
  refine gd_of (fun hlt2=>?_) (fun hge2=>?_)
  ·have hlt2:j<nn:=by have:=dT hlt2;omega
   have e5:nn - j=1+(nn - (j+1)):=by omega
   have pnn:∀{V':Store},Keep V V'→(ld1 (.p U.n 0 0) V' fun v S=>v = .p S0.n 0 (11+(2+i))∧S=V'):=fun{V'} k=>by
    rw[ld1_p ((k.2 _ nV).trans oV) rfl rfl];exact⟨rfl,rfl⟩
   refine L_shift ?_
   refine⟨_,fun V' hV'=>pnn hV',?_⟩
   refine L_shift ?_
   refine⟨_,fun V' hV'=>pnn hV',?_⟩
   refine⟨_,fun V' hV'=>by rw[nilChk_p];exact⟨rfl,rfl⟩,?_⟩
   refine⟨zv (2+i),fun V' hV'=>by rw[(hV.keep hV').ldz (by omega)];exact⟨rfl,rfl⟩,?_⟩
   have fail:numbersP 1 1 l2=none→colsN M 4 l=none:=fun hn=>by
    rw[hq,hcol,e5,columnP_add,columnP,hn];rfl
   refine hV.nums (least:=1) (most:=1) (by omega) (by decide) (fun ns b hns V1 id nV1 hV1 o1' hid1 hid2 fV1=>?_) (fun hn V' hV'=>h0 (fail hn) V' hV')
   have hns1:=numbersP_ok hns
   obtain⟨x,hx⟩:∃ x,ns = [x]:=List.length_eq_one_iff.1 hns1.1
   subst hx
   have hUS:U.n≠S0.n:=by omega
   have oV1:=(fV1 _ hUS nV).trans oV
   have nUV1:U.n<V1.n:=by omega
   have pn1:∀{V':Store},Keep V1 V'→(ld1 (.p U.n 0 0) V' fun v S=>v = .p S0.n 0 (11+(2+i))∧S=V'):=fun{V'} k=>by
    rw[ld1_p ((k.2 _ nUV1).trans oV1) rfl rfl];exact⟨rfl,rfl⟩
   refine⟨fun V' hV'=>by rw[(hV1.keep hV').ldz (by omega)];exact⟨rfl,rfl⟩,?_⟩
   refine⟨fun V' hV'=>by rw[nilChk_p];exact⟨rfl,rfl⟩,?_⟩
   refine⟨fun V' hV'=>pn1 hV',?_⟩
   refine⟨fun V' hV'=>by rw[shift_p];exact⟨rfl,rfl⟩,?_⟩
   refine⟨fun V' hV'=>pn1 hV',?_⟩
   refine⟨fun V' hV'=>by rw[shift_p];exact⟨rfl,rfl⟩,?_⟩
   refine⟨.p id 0 0,fun V' hV'=>by
    refine W (ixS_s (i:=0) (by decide) ((hV'.2 id hid2).trans o1')) ?_
    exact⟨rfl,rfl⟩,?_⟩
   refine⟨aI x,fun V' hV'=>by rw[ld1_p ((hV'.2 id hid2).trans o1') rfl rfl];exact⟨rfl,rfl⟩,?_⟩
   refine⟨_,fun V' hV'=>bslI1 ⟨rfl,rfl⟩,?_⟩
   have hrl:=rows_len c pre cur (by omega)
   rw[hpre]at hrl
   refine hV1.app (j:=2+i) (by omega) (tkT_c hlt) (c:=[aI x]) rfl (by rw[hrl];omega) rfl fun x' V2 hx' nV2 hV2 fV2=>?_
   have hzU:∀ b m,zv (2+i)≠.s U.n b m:=fun b m e=>by
    rcases hV1.rows.own (2+i) (by omega)with⟨e',_⟩|⟨id',e',_,_,ho⟩
    ·rw[e']at e;cases e
    ·rw[e']at e
     cases e
     rw[ho,tkT_c hlt]at oV1
     injection oV1 with oV1
     injection oV1 with oV1
     cases oV1
   have oV2:=(fV2 _ nUV1 hzU).trans oV1
   have nUV2:U.n<V2.n:=by omega
   have pn2:∀{V':Store},Keep V2 V'→(ld1 (.p U.n 0 0) V' fun v S=>v = .p S0.n 0 (11+(2+i))∧S=V'):=fun{V'} k=>by
    rw[ld1_p ((k.2 _ nUV2).trans oV2) rfl rfl];exact⟨rfl,rfl⟩
   refine⟨fun V' hV'=>pn2 hV',?_⟩
   refine⟨fun V' hV'=>by rw[shift_p];exact⟨rfl,rfl⟩,?_⟩
   refine⟨_,fun V' hV'=>by rw[nilChk_p];exact⟨rfl,rfl⟩,?_⟩
   refine hV2.st (i:=11+(2+i)) (tkC_sz hV1.len (by omega)) (by omega) hx' hV1.len fun V3 nV3 fV3 hV3=>?_
   rw[bin_add (by omega) (by omega)]
   have hrs:=rows_setK c pre cur x (by omega)
   rw[hpre]at hrs
   refine hKE1 _ _ ⟨j+1,cur ++ [x],b,rfl,hlt2,by simp[hcur],by have:=hns1.2.1;omega,Tk.of hV3 rfl hrs,(fV3 _ hUS).trans oV2,by omega,?_⟩ (by simp[intA];omega)
   rw[hcol,e5,columnP_add,columnP,hns]
   simp[columnP,Option.map_map,Function.comp_def]
  ·have hge2:j=nn:=by have:=dF hge2;omega
   subst hge2
   rw[bin_add (by omega) (by omega)]
   refine hKE _ _ ⟨i+1,pre ++ [cur],l2,rfl,by omega,by simp[hpre],hl2,⟨zv,hV⟩,?_⟩ (by simp[intA];omega)
   rw[hq,hcol,Nat.sub_self]
   simp[columnP,Option.map_map,Function.comp_def]
 ·have hge:i=4:=by have:¬ (i:Int)<4:=dF hge
                   omega
  subst hge
  refine h1 pre l' ?_ U hU
  rw[hq]
  simp[colsN]
end
theorem name_cut(a:Bs):nameP a=match cutC 32 a with
    |none=>none
    |some (w0,t)=>if(32:UInt8)∉t∧2≤w0.length∧0≤numR (w0.drop 1)then some ⟨(w0.getD 0 0).toNat,numR (w0.drop 1),⟨t.toArray⟩⟩else none:=by
 unfold nameP
 rw[wordsL_cut a]
 cases hc:cutC 32 a with
 |none=>rfl
 |some p =>
  obtain⟨w0,t⟩:=p
  by_cases ht:(32:UInt8)∈t
  ·simp only[ht,not_true,false_and,if_false]
   rw[wordsL_cut t]
   cases hc2:cutC 32 t with
   |none=>exact absurd ht (cutC_no hc2)
   |some q =>
    simp only
    cases hw:wordsL q.2 with
    |nil=>exact absurd hw (wordsL_ne _)
    |cons x y=>rfl
  ·simp only[ht,not_false_eq_true,true_and]
   rw[wordsL_one ht]
theorem contains32(t:Bs):(0≤Lib.indexByte t 32)↔(32:UInt8)∈t:=by
 have h:=indexByte_cut 32 t
 cases hc:cutC 32 t with
 |none =>
  rw[hc]at h
  have h:Lib.indexByte t 32 = -1:=h
  constructor
  ·intro h0;omega
  ·intro hm;exact absurd hm (cutC_no hc)
 |some p =>
  rw[hc]at h
  have h:Lib.indexByte t 32=(p.1.length:Int):=h
  constructor
  ·intro _
   have:=(cutC_some (a:=p.1) (b:=p.2) hc).1
   rw[this]
   exact List.mem_append_right _ List.mem_cons_self
  ·intro _;omega
theorem slcT{w:Bs}(h:1≤w.length){S:Store}{K:AV→Store→Prop}(k:K (aT (w.drop 1)) S):slcStr (aT w) (some (.v (.int .i64 1))) none S K:=by
 refine slc1 (b:=⟨w.toArray⟩) (by simpa[ByteArray.size]using h) ?_
 have e:=(extract_list (b:=⟨w.toArray⟩) (by simpa[ByteArray.size]using h)).1
 have e2:(ByteArray.extract ⟨w.toArray⟩ 1 (ByteArray.size ⟨w.toArray⟩))=⟨(w.drop 1).toArray⟩:=by
  apply ByteArray.ext
  apply Array.ext'
  exact e
 rw[e2]
 exact k
theorem ixStrT{w:Bs}(h:0<w.length){S:Store}{K:AV→Store→Prop}:ixStr (aT w) (.v (.int .i64 0)) S K=K (.v (.int .u8 (w.getD 0 0).toNat)) S:=by
 have e:=ixStr_b (b:=⟨w.toArray⟩) (i:=0) (S:=S) (K:=K) (by simpa[ByteArray.size]using h)
 refine Eq.trans e ?_
 congr 3
 match w,h with
 |b :: r,_=>rfl
theorem neT{w:Bs}{S:Store}{K:AV→Store→Prop}:bin .neq 0 (aT w) (.v (.string { data:=#[] })) S K=K (aB (!decide (w = []))) S:=by
 refine(bin_neqS ⟨w.toArray⟩ ⟨#[]⟩ 0).trans ?_
 have e:decide ((⟨w.toArray⟩:ByteArray)=⟨#[]⟩)=decide (w = []):=decide_eq_decide.2 (ab_eq (b:=[]))
 rw[e]
def leftN(id:Nat)(T:Store):Nat:=match T.obj id with
 |some (.cells _ ((.v (.string b) :: _) :: _) _)=>b.size
 |_=>0
section
variable {S0 T:Store} {l:Bs} {M:List Int} {c:Ci} {inp:Int} {r:Nat→List (List AV)} {y z:Nat→AV}
theorem TkZ.left(h:TkZ S0 T l M inp r y z):leftN S0.n T=l.length:=by
 unfold leftN
 rw[h.ob]
 simp[tkC,aT,ByteArray.size]
def Ci.setN(c:Ci)(ns:List Na):Ci:={ c with names:=ns }
theorem Tk.names(h:Tk S0 T l M c)(hl:l.length≤1000000)(hc:c.names = []){Q:AEnd→Store→Prop}{K:AV→Store→Prop}
    (h1:∀ ns,namesP l.length l=some ns→∀ b T',Tk S0 T' b M (c.setN ns)→K (.t []) T')
    (h0:namesP l.length l=none→∀ T',Keep S0 T'→Q (wr 21) T'):callF Pg 59 [.p S0.n 0 0] T Q K:=by
 refine .inl (calls59 ?_)
 unfold m59
 refine loop59_0 (fun U=>∃ pre l',pre.length+l'.length≤l.length∧Tk S0 U l' M (c.setN pre)∧namesP l.length l=(namesP l'.length l').map fun p=>pre++p) (fun U=>leftN S0.n U)
  ⟨[],l,by simp,by have e:c.setN []=c:=by rw[←hc];rfl
                   rw[e];exact h,by simp⟩ ?_
 rintro U ⟨pre,l',hl',⟨z,hU⟩,hq⟩ KE hKE
 unfold b59_0
 rw[nilChk_p,shift_p,hU.ldl,neT,onB_v]
 refine gd_of (fun hne=>?_) (fun he=>?_)
 ·have hne:l'≠[]:=by simpa using hne
  obtain⟨n',hn'⟩:∃ n',l'.length=n'+1:=⟨l'.length - 1,by have:=List.length_pos_iff.2 hne;omega⟩
  have hstep:namesP l'.length l'=match cutC 10 l' with
      |none=>none
      |some (a,r)=>if a = [99]then some []else match nameP a with
       |some x=>(namesP r.length r).map fun p=>x :: p
       |none=>none:=by
   rw[hn',namesP,if_neg hne]
   cases hcc:cutC 10 l' with
   |none=>rfl
   |some p =>
    obtain⟨pa,pr⟩:=p
    have hlen:=cutC_len hcc
    simp only
    first
     |(rw[namesP_mono pr.length n' pr (Nat.le_refl _) (by omega)];done)
     |(rw[namesP_mono pr.length n' pr (Nat.le_refl _) (by omega)];rfl)
  have bad:namesP l'.length l'=none→∀ V,Keep S0 V→Q (wr 21) V:=fun hn V hV=>h0 (by rw[hq,hn];rfl) V hV
  refine hU.line (by omega) (fun a b hcut V nV hV fV=>?_) (fun hcut=>bad (by rw[hstep,hcut]) _ hU.kp)
  have hab:=cutC_len hcut
  rw[hcut]at hstep
  refine W (bin_eqlS ⟨a.toArray⟩ ⟨#[99]⟩ 0) ?_
  rw[onB_v]
  refine gd_of (fun h99=>?_) (fun h99=>?_)
  ·have h99:a = [99]:=ab_eq.1 (dT h99)
   refine h1 pre ?_ b V ⟨z,hV⟩
   rw[hq,hstep]
   simp[h99]
  have h99:a≠[99]:=fun e=>dF h99 (by rw[e])
  have hstep:namesP l'.length l'=match nameP a with
      |some x=>(namesP b.length b).map fun p=>x :: p
      |none=>none:=by
   rw[hstep];exact if_neg h99
  refine callF_ans (ans96 32 (by omega)) ?_
  have hnm:=name_cut a
  unfold cutR
  cases hc32:cutC 32 a with
  |none =>
   rw[hc32]at hnm
   have hb2:=bad (by rw[hstep,hnm])
   show extr _ _ _ _
   rw[ext_t (i:=0) rfl,ext_t (i:=1) rfl,ext_t (i:=2) rfl,onB_v,gd_false]
   exact Want_c (fun h=>by cases h) (fun _=>hb2 _ hV.kp)
  |some p =>
   obtain⟨w0,t⟩:=p
   rw[hc32]at hnm
   have hnm:nameP a=if(32:UInt8)∉t∧2≤w0.length∧0≤numR (w0.drop 1)then some ⟨(w0.getD 0 0).toNat,numR (w0.drop 1),⟨t.toArray⟩⟩else none:=hnm
   have hal:=cutC_len hc32
   have bad2:¬ ((32:UInt8)∉t∧2≤w0.length∧0≤numR (w0.drop 1))→∀ V,Keep S0 V→Q (wr 21) V:=fun hn=>bad (by rw[hstep,hnm,if_neg hn])
   show extr _ _ _ _
   rw[ext_t (i:=0) rfl,ext_t (i:=1) rfl,ext_t (i:=2) rfl,onB_v,gd_true]
   have hlw:∀{S:Store} {K:AV→Store→Prop},lenStr (aT w0) S K=K (aI w0.length) S:=fun{S K}=>by
    refine(lenStr_b (S:=S) (K:=K) ⟨w0.toArray⟩).trans ?_
    simp[ByteArray.size]
   rw[hlw,bin_gtr,onB_v]
   refine gd_of (fun h2=>?_) (fun h2=>Want_c (fun h=>by cases h) (fun _=>bad2 (fun e=>dF h2 (by have:=e.2.1;omega)) _ hV.kp))
   have h2:2≤w0.length:=by have:=dT h2;omega
   refine callF_ans (ans97 ⟨t.toArray⟩ 32) ?_
   have hct:decide (0≤Lib.indexByte (ByteArray.data ⟨t.toArray⟩).toList 32)=decide ((32:UInt8)∈t):=decide_eq_decide.2 (contains32 t)
   rw[hct,un_not]
   refine Want_c (fun h3=>?_) (fun h3=>bad2 (fun e=>by simp at h3;exact e.1 h3) _ hV.kp)
   have h3:(32:UInt8)∉t:=by simpa using h3
   refine⟨rfl,slcT (by omega) ?_⟩
   refine callF_ans (numT (by rw[List.length_drop];omega)) ?_
   rw[bin_geq]
   refine Want_c (fun h4=>?_) (fun h4=>bad2 (fun e=>dF h4 e.2.2) _ hV.kp)
   have h4:0≤numR (w0.drop 1):=dT h4
   rw[if_pos ⟨h3,h2,h4⟩]at hnm
   generalize hx:(Na.mk ((w0.getD 0 0).toNat:Int) (numR (w0.drop 1)) ⟨t.toArray⟩)=x at hnm
   have hr:=rows_addN (c.setN pre) x
   have hrow:x.row = [.v (.int .u8 (w0.getD 0 0).toNat),aI (numR (w0.drop 1)),aT t]:=by rw[←hx];rfl
   rw[hrow]at hr
   refine⟨_,fun U hU=>by rw[nilChk_p];exact⟨rfl,rfl⟩,?_⟩
   refine L_shift ?_
   refine L_shift ?_
   refine⟨z 6,fun U hU=>W ((hV.keep hU).ldz (j:=6) (by decide)) ⟨rfl,rfl⟩,?_⟩
   refine⟨_,fun U hU=>by rw[ixStrT (by omega)];exact⟨rfl,rfl⟩,?_⟩
   refine⟨_,fun U hU=>⟨[.v (.int .u8 (w0.getD 0 0).toNat),aI (numR (w0.drop 1)),aT t],rfl,rfl,rfl⟩,?_⟩
   refine⟨_,fun U hU=>bslP3 rfl ⟨rfl,rfl⟩,?_⟩
   refine hV.app (j:=6) (by decide) rfl (c:=[.v (.int .u8 (w0.getD 0 0).toNat),aI (numR (w0.drop 1)),aT t]) rfl (by simp[Ci.rowsOf,Ci.setN];omega) rfl fun x' V2 hx' nV2 hV2 fV2=>?_
   refine⟨_,fun U hU=>by rw[nilChk_p];exact⟨rfl,rfl⟩,?_⟩
   refine L_shift ?_
   refine L_shift ?_
   refine hV2.st (i:=11+6) (tkC_sz hV.len (by decide)) (by decide) hx' hV.len fun V3 nV3 fV3 hV3=>?_
   refine hKE V3 ⟨pre ++ [x],b,by simp;omega,Tk.of hV3 rfl hr,?_⟩ ?_
   ·rw[hq,hstep,hnm]
    simp[Option.map_map,Function.comp_def]
   ·rw[hU.left,hV3.left];omega
 ·have he:l' = []:=by simpa using he
  subst he
  exact h1 pre (by rw[hq];simp[namesP]) [] U ⟨z,hU⟩
theorem Lix{e n id:Nat}{ns:List Int}(o:T.obj id=some (.cells e (ns.map fun x=>[aI x]) true))(hid:id<T.n){j:Nat}(hj:j<n)(hn:ns.length=n){P:AV→Prop}(k:P (aI (ns.getD j 0))):
    ∃ q1,(∀ U,Keep T U→ixS e 1 (.s id 0 n) (aI j) U fun v S=>v=q1∧S=U)∧∃ q3,(∀ U,Keep T U→ld1 q1 U fun v S=>v=q3∧S=U)∧P q3:=by
 have hg:(ns.map fun x=>[aI x])[j]? = some [aI (ns.getD j 0)]:=by
  rw[List.getElem?_map,List.getElem?_eq_getElem (by omega),List.getD_eq_getElem?_getD,List.getElem?_eq_getElem (by omega)]
  rfl
 refine⟨.p id j 0,fun U hU=>by rw[ixS_s hj ((hU.2 id hid).trans o),Nat.zero_add];exact⟨rfl,rfl⟩,aI (ns.getD j 0),fun U hU=>by rw[ld1_p ((hU.2 id hid).trans o) hg rfl];exact⟨rfl,rfl⟩,k⟩
theorem ix0{e n id:Nat}{ns:List Int}(o:T.obj id=some (.cells e (ns.map fun x=>[aI x]) true)){j:Nat}(hj:j<n)(hn:ns.length=n){K:AV→Store→Prop}:(ixS e 1 (.s id 0 n) (aI j) T fun v S=>ld1 v S K)=K (aI (ns.getD j 0)) T:=by
 have hg:(ns.map fun x=>[aI x])[j]? = some [aI (ns.getD j 0)]:=by
  rw[List.getElem?_map,List.getElem?_eq_getElem (by omega),List.getD_eq_getElem?_getD,List.getElem?_eq_getElem (by omega)]
  rfl
 rw[ixS_s hj o,Nat.zero_add,ld1_p o hg rfl]
theorem Tk.parse(h:Tk S0 T l (List.replicate 9 0) cE)(hl:l.length≤1000000){Q:AEnd→Store→Prop}{K:AV→Store→Prop}
    (h1:∀ M b cc,headP [97,97,103] l=some (M,b)→bodyP M b=some cc→∀ b' T',Tk S0 T' b' M cc→K (.t []) T')
    (h20:headP [97,97,103] l=none→∀ T',Keep S0 T'→Q (wr 20) T')
    (h21:∀ M b,headP [97,97,103] l=some (M,b)→bodyP M b=none→∀ T',Keep S0 T'→Q (wr 21) T'):callF Pg 51 [.p S0.n 0 0] T Q K:=by
 refine .inl (calls51 ?_)
 unfold m51
 refine h.head hl (word:=[97,97,103]) (fun M l1 hh U1 nU1 hU1=>?_) h20
 replace h1:=h1 M l1
 replace h21:=h21 M l1 hh
 have hM0:=headP_ok hh
 have hl1:l1.length≤1000000:=by omega
 have hM:∀ j,0≤M.getD j 0∧M.getD j 0≤2000:=fun j=>by
  rw[List.getD_eq_getElem?_getD]
  cases hg:M[j]? with
  |none=>exact⟨by decide,by decide⟩
  |some v=>exact hM0.2.2.1 v (List.mem_of_getElem? hg)
 have hmi:∀ j,aI (M.getD j 0)=aI ((mAt M j:Nat):Int):=fun j=>by
  have:=hM j
  congr 1
  show _=(((M.getD j 0).toNat:Nat):Int)
  omega
 have hmN:∀ j,mAt M j≤2000:=fun j=>by
  have:=hM j
  show(M.getD j 0).toNat≤2000
  omega
 have hm1:=hM 1
 have hm2:=hM 2
 obtain⟨z1,hZ1⟩:=hU1
 rw[nilChk_p,shift_p,Nat.zero_add]
 refine W (ixA_pj (z:=1) (by decide)) ?_
 rw[hZ1.ldm (j:=1) (by decide),hmi]
 have hbody:bodyP M l1=(inputsP (mAt M 1) 0 l1).bind fun l1=>(latchesP (2*(M.getD 1 0+1)) (mAt M 2) 0 l1).bind fun la=>(colsP M la.2).bind fun co =>
  (andsP (2*(M.getD 1 0+M.getD 2 0+1)) (mAt M 4) 0 co.2).bind fun an=>(namesP an.2.length an.2).map fun na =>
   ⟨M.getD 1 0,la.1,an.1,co.1.1,co.1.2.1,co.1.2.2.1,co.1.2.2.2,na⟩:=rfl
 generalize hn1:mAt M 1=N1 at hbody
 have hN1:N1≤2000:=by rw[←hn1];exact hmN 1
 refine loop51_0 (fun y V=>∃(i:Nat) (l2:Bs),y=aI i∧i≤N1∧l2.length≤l1.length∧Tk S0 V l2 M (cE.inp (M.getD 1 0))∧inputsP N1 0 l1=inputsP (N1 - i) i l2) (fun y _=>N1 - ((intA y).getD 0).toNat)
  ⟨0,l1,rfl,Nat.zero_le _,Nat.le_refl _,⟨z1,hZ1⟩,rfl⟩ ?_
 rintro _ V ⟨i,l2,rfl,hi,hl2,⟨zv,hV⟩,hq⟩ KE hKE
 unfold b51_0
 rw[bin_lss,onB_v]
 refine gd_of (fun hlt=>?_) (fun hge=>?_)
 ·have hlt:i<N1:=by have:=dT hlt;omega
  have e5:N1 - i=(N1 - (i+1))+1:=by omega
  rw[e5,inputsP]at hq
  refine hV.nums (least:=1) (most:=1) (by omega) (by decide) (fun ns b hns V1 id nV1 hV1 o1 hid1 hid2 fV1=>?_) (fun hn V' hV'=>h21 (by rw[hbody,hq,hn];rfl) V' hV')
  have hns1:=numbersP_ok hns
  rw[hns]at hq
  have hq:inputsP N1 0 l1=if ns.getD 0 0=2*((i:Int)+1)then inputsP (N1 - (i+1)) (i+1) b else none:=hq
  refine W (ix0 o1 (j:=0) (by decide) hns1.1) ?_
  rw[bin_add (by omega) (by omega),bin_mul (by omega) (by omega),bin_eql]
  refine Want_c (fun hw=>?_) (fun hw=>h21 (by rw[hbody,hq,if_neg (dF hw)];rfl) _ hV1.kp)
  rw[bin_add (by omega) (by omega)]
  rw[if_pos (dT hw)]at hq
  exact hKE _ _ ⟨i+1,b,rfl,hlt,by have:=hns1.2.1;omega,⟨zv,hV1⟩,hq⟩ (by simp[intA];omega)
 have hge:i=N1:=by have:=dF hge;omega
 subst hge
 rw[Nat.sub_self,inputsP]at hq
 rw[hq,Option.bind_some]at hbody
 refine callF_at (hV.lats hM) ?_
 rw[extr0,extr1,hmi]
 generalize hn2:mAt M 2=N2 at hbody
 have hN2:N2≤2000:=by rw[←hn2];exact hmN 2
 refine loop51_1 (fun y V=>∃(i:Nat) (pre:List (Int × Int)) (l3:Bs),y=aI i∧i≤N2∧pre.length=i∧l3.length≤l1.length∧Tk S0 V l3 M ⟨M.getD 1 0,pre,[],[],[],[],[],[]⟩∧latchesP (2*(M.getD 1 0+1)) N2 0 l2=(latchesP (2*(M.getD 1 0+1)) (N2 - i) i l3).map fun p=>(pre++p.1,p.2)) (fun y _=>N2 - ((intA y).getD 0).toNat)
  ⟨0,[],l2,rfl,Nat.zero_le _,rfl,hl2,⟨zv,hV⟩,by simp⟩ ?_
 rintro _ V ⟨i,pre,l3,rfl,hi,hpre,hl3,⟨zv,hV⟩,hq⟩ KE hKE
 unfold b51_1
 rw[bin_lss,onB_v]
 refine gd_of (fun hlt=>?_) (fun hge=>?_)
 ·have hlt:i<N2:=by have:=dT hlt;omega
  have e5:N2 - i=(N2 - (i+1))+1:=by omega
  rw[e5,latchesP]at hq
  refine hV.nums (least:=2) (most:=3) (by omega) (by decide) (fun ns b hns V1 id nV1 hV1 o1 hid1 hid2 fV1=>?_) (fun hn V' hV'=>h21 (by rw[hbody,hq,hn];rfl) V' hV')
  have hns1:=numbersP_ok hns
  rw[hns]at hq
  refine W (ix0 o1 (j:=0) (by decide) hns1.1) ?_
  rw[bin_mul (by omega) (by omega),bin_add (by omega) (by omega),bin_eql]
  simp only at hq
  refine Want_c (fun hw=>?_) (fun hw=>h21 (by rw[hbody,hq,if_neg (dF hw)];rfl) _ hV1.kp)
  rw[if_pos (dT hw)]at hq
  refine Lix o1 hid2 (j:=0) (by decide) hns1.1 ?_
  refine Lix o1 hid2 (j:=1) (by decide) hns1.1 ?_
  refine Lix o1 hid2 (j:=2) (by decide) hns1.1 ?_
  refine Tk.latch (c:=⟨M.getD 1 0,pre,[],[],[],[],[],[]⟩) ⟨zv,hV1⟩ (by show pre.length≤_;omega) (fun k hk V2 nV2 hV2=>?_) (fun hk=>h21 (by rw[hbody,hq,hk];rfl) _ hV1.kp)
  rw[hk]at hq
  rw[bin_add (by omega) (by omega)]
  refine hKE _ _ ⟨i+1,pre ++ [(ns.getD 1 0,k)],b,rfl,hlt,by simp[hpre],by have:=hns1.2.1;omega,hV2,?_⟩ (by simp[intA];omega)
  rw[hq]
  simp[Option.map_map,Function.comp_def]
 have hge:i=N2:=by have:=dF hge;omega
 subst hge
 rw[Nat.sub_self,latchesP]at hq
 rw[hq,Option.map_some,Option.bind_some]at hbody
 simp only[List.append_nil,colsP_N]at hbody
 refine Tk.columns (c:=⟨M.getD 1 0,pre,[],[],[],[],[],[]⟩) ⟨zv,hV⟩ (by omega) hM rfl (fun L l4 hcl V2 hV2=>?_) (fun hn V' hV'=>h21 (by rw[hbody,hn];rfl) V' hV')
 rw[hcl,Option.map_some,Option.bind_some]at hbody
 have hcok:=colsP_ok (M:=M) (l:=l3) (q:=(tup L,l4)) (by rw[colsP_N,hcl];rfl)
 have hl4:l4.length≤l1.length:=by have:=hcok.1;simp only at this;omega
 obtain⟨z4,hZ4⟩:=hV2
 refine callF_at (hZ4.gates hM) ?_
 rw[extr0,extr1,hmi]
 simp only at hbody
 generalize hn4:mAt M 4=N4 at hbody
 have hN4:N4≤2000:=by rw[←hn4];exact hmN 4
 refine loop51_2 (fun y V=>∃(i:Nat) (ga:List (Int × Int)) (l5:Bs),y=aI i∧i≤N4∧ga.length=i∧l5.length≤l1.length∧Tk S0 V l5 M ⟨M.getD 1 0,pre,ga,L.getD 0 [],L.getD 1 [],L.getD 2 [],L.getD 3 [],[]⟩∧andsP (2*(M.getD 1 0+M.getD 2 0+1)) N4 0 l4=(andsP (2*(M.getD 1 0+M.getD 2 0+1)) (N4 - i) i l5).map fun p=>(ga++p.1,p.2)) (fun y _=>N4 - ((intA y).getD 0).toNat)
  ⟨0,[],l4,rfl,Nat.zero_le _,rfl,hl4,⟨z4,hZ4⟩,by simp⟩ ?_
 rintro _ V ⟨i,ga,l5,rfl,hi,hga,hl5,⟨zv,hV⟩,hq⟩ KE hKE
 unfold b51_2
 rw[bin_lss,onB_v]
 refine gd_of (fun hlt=>?_) (fun hge=>?_)
 ·have hlt:i<N4:=by have:=dT hlt;omega
  have e5:N4 - i=(N4 - (i+1))+1:=by omega
  rw[e5,andsP]at hq
  refine hV.nums (least:=3) (most:=3) (by omega) (by decide) (fun ns b hns V1 id nV1 hV1 o1 hid1 hid2 fV1=>?_) (fun hn V' hV'=>h21 (by rw[hbody,hq,hn];rfl) V' hV')
  have hns1:=numbersP_ok hns
  rw[hns]at hq
  refine W (ix0 o1 (j:=0) (by decide) hns1.1) ?_
  rw[bin_mul (by omega) (by omega),bin_add (by omega) (by omega),bin_eql]
  simp only at hq
  refine Want_c (fun hw=>?_) (fun hw=>h21 (by rw[hbody,hq,if_neg (dF hw)];rfl) _ hV1.kp)
  rw[if_pos (dT hw)]at hq
  refine⟨_,fun U hU=>by rw[nilChk_p];exact⟨rfl,rfl⟩,?_⟩
  refine L_shift ?_
  refine L_shift ?_
  refine⟨zv 1,fun U hU=>W ((hV1.keep hU).ldz (j:=1) (by decide)) ⟨rfl,rfl⟩,?_⟩
  refine Lix o1 hid2 (j:=1) (by decide) hns1.1 ?_
  refine Lix o1 hid2 (j:=2) (by decide) hns1.1 ?_
  refine⟨_,fun U hU=>⟨[aI (ns.getD 1 0),aI (ns.getD 2 0)],rfl,rfl,rfl⟩,?_⟩
  refine⟨_,fun U hU=>bslA2 rfl ⟨rfl,rfl⟩,?_⟩
  refine hV1.app (j:=1) (by decide) rfl (c:=[aI (ns.getD 1 0),aI (ns.getD 2 0)]) rfl (by simp[Ci.rowsOf];omega) rfl fun x' V2 hx' nV2 hV2 fV2=>?_
  refine⟨_,fun U hU=>by rw[nilChk_p];exact⟨rfl,rfl⟩,?_⟩
  refine L_shift ?_
  refine L_shift ?_
  refine hV2.st (i:=11+1) (tkC_sz hV1.len (by decide)) (by decide) hx' hV1.len fun V3 nV3 fV3 hV3=>?_
  rw[bin_add (by omega) (by omega)]
  refine hKE _ _ ⟨i+1,ga ++ [(ns.getD 1 0,ns.getD 2 0)],b,rfl,hlt,by simp[hga],by have:=hns1.2.1;omega,Tk.of hV3 rfl (rows_addA ⟨M.getD 1 0,pre,ga,L.getD 0 [],L.getD 1 [],L.getD 2 [],L.getD 3 [],[]⟩ _),?_⟩ (by simp[intA];omega)
  rw[hq]
  simp[Option.map_map,Function.comp_def]
 have hge:i=N4:=by have:=dF hge;omega
 subst hge
 rw[Nat.sub_self,andsP]at hq
 rw[hq,Option.map_some,Option.bind_some]at hbody
 simp only[List.append_nil]at hbody
 refine Tk.names (c:=⟨M.getD 1 0,pre,ga,L.getD 0 [],L.getD 1 [],L.getD 2 [],L.getD 3 [],[]⟩) ⟨zv,hV⟩ (by omega) rfl (fun ns hns b' V3 hV3=>?_) (fun hn V' hV'=>h21 (by rw[hbody,hn];rfl) V' hV')
 rw[hns,Option.map_some]at hbody
 exact h1 _ hh hbody b' V3 hV3
end
def opsTk:Array Oper:=match Tryz.f91.body with|some (.seq (.region _ ops _) _)=>ops|_=>#[]
def cTk:Code:=match Tryz.f91.body with|some (.seq (.region _ _ _) c)=>c|_=>.skip
def oTk : Oper := (opsTk.toList.head?).getD { dst := none, op := .move (.tmp 0), type := 0, pos := "", after := #[], guard := none }
def restTk:List Oper:=opsTk.toList.tail
def mTk(x0 x1 u5:AV)(S:Store)(K:Store→Prop):Prop:=
 tasN 121 (.a [.v (.int .i64 0)]) u5 S fun v1 S=>extr v1 0 S fun v2 S=>extr v1 1 S fun v3 S=>boxN 121 1 (.a [.v (.int .i64 0)]) S fun v4 S=>stN 1 v4 v2 S fun v5 S=>onB v3 fun b6=>gd b6 (∃ q7:AV,(∀ T:Store,Keep S T→bld [(0,1),(1,1),(2,1),(3,1),(4,1),(5,1),(6,1),(7,1)] [.v (.int .i64 0),.nl,.nl,.nl,.nl,.nl,.nl,.nl] [] T fun v8 S=>v8=q7∧S=T)∧∃ q9:AV,(∀ T:Store,Keep S T→shift v4 0 T fun v10 S=>v10=q9∧S=T)∧∃ q11:AV,(∀ T:Store,Keep S T→ld1 q9 T fun v12 S=>v12=q11∧S=T)∧stN 8 x0 q7 S fun v13 S=>(∀ T:Store,Keep S T→ld1 q9 T fun v14 S=>v14=q11∧S=T)∧(∀ T:Store,Keep S T→shift v4 0 T fun v15 S=>v15=q9∧S=T)∧stN 1 x1 q11 S fun v16 S=>K S) (K S)
set_option maxRecDepth 100000 in
theorem mTk_eq:(fun(x0 x1 u5:AV) (S:Store) (Kq:Bool→Store→Prop) (b:Bool)=>vcOps Pg opsTk restTk (fun _=>false) (setD (ofArgs 13 [x0,x1]) oTk.dst u5) S (fun env' S'=>vc Pg cTk [] env' S' (bodyR Pg Tryz.f91.results.toList b Kq)) (fun _ _ _=>False))=(fun(x0 x1 u5:AV) (S:Store) (Kq:Bool→Store→Prop) (b:Bool)=>mTk x0 x1 u5 S (Kq b)):=by kernel_rfl
set_option maxRecDepth 100000 in
theorem recTk{x0 x1:AV}{S:Store}{u:Option AV}{Kq:Bool→Store→Prop}(h:mTk x0 x1 (u.getD (.v .nilIface)) S (Kq u.isSome)):ARec Pg 91 [x0,x1] S u Kq:=
 rec_of_vc (fn:=Tryz.f91) (id:=0) (ops:=opsTk) (o:=oTk) (rest:=restTk) (c:=cTk) (n:=13) Tryz.func91 (by kernel_rfl) (by kernel_rfl) (by kernel_rfl) (by kernel_rfl) (by kernel_rfl) [] ((congrFun (congrFun (congrFun (congrFun (congrFun (congrFun mTk_eq x0) x1) (u.getD (.v .nilIface))) S) Kq) u.isSome).mpr h)
def c50:Code:=(Tryz.f50.body).getD .skip
def r50:List ResultVar:=Tryz.f50.results.toList
def finTk (v4 v5:AV) (Q:AEnd→Store→Prop) (u:Option AV) (S:Store):Prop:=leavesU Pg r50 Q (setD (setD (ofArgs 28 []) (some 4) v4) (some 5) v5) [(91,[v4,v5])] u S
def m50 (x0 x1:AV) (S:Store) (Q:AEnd→Store→Prop):Prop:=
 boxN 29 8 (.a [.v (.int .i64 0),.nl,.nl,.nl,.nl,.nl,.nl,.nl]) S fun v1 S=>boxN 30 1 (.v (.int .i64 0)) S fun v2 S=>lenStr x0 S fun v3 S=>bin .gtr 0 v3 (.v (.int .i64 20000)) S fun v4 S=>onB v4 fun b5=>gd b5 (ldN 8 v1 S fun v6 S=>stN 8 v1 v6 S fun v7 S=>stN 1 v2 (.v (.int .i64 2)) S fun v8 S=>ldN 8 v1 S fun v9 _=>ld1 v2 S fun v10 _=>Q (.ret (.t [v9,v10])) S) (bld [(0,1),(1,9),(10,8)] [.v (.string ByteArray.empty),.v (.int .i64 0),.v (.int .i64 0),.v (.int .i64 0),.v (.int .i64 0),.v (.int .i64 0),.v (.int .i64 0),.v (.int .i64 0),.v (.int .i64 0),.v (.int .i64 0),.v (.int .i64 0),.nl,.nl,.nl,.nl,.nl,.nl,.nl] [(0,x0)] S fun v11 S=>boxN 81 18 v11 S fun v12 S=>callV Pg x1 [v12] S (fun v14 S=>nilChk v12 S fun v15 S=>shift v15 10 S fun v16 S=>ldN 8 v16 S fun v17 S=>callV Pg (.f (.func 33) [] []) [v17] S (fun v18 S=>callV Pg (.f (.func 92) [] []) [v18,.v (.int .i64 22)] S (fun v19 S=>nilChk v12 S fun v20 S=>shift v20 10 S fun v21 S=>ldN 8 v21 S fun v22 S=>stN 8 v1 v22 S fun v23 S=>stN 1 v2 (.v (.int .i64 0)) S fun v24 S=>finTk v1 v2 Q none S) (fun u S=>finTk v1 v2 Q (some u) S)) (fun u S=>finTk v1 v2 Q (some u) S)) (fun u S=>finTk v1 v2 Q (some u) S))
set_option maxRecDepth 100000 in
theorem m50_eq:(fun(x0 x1:AV) (S:Store) (Q:AEnd→Store→Prop)=>vcT Pg c50 [] (ofArgs 28 [x0,x1]) S [] (bodyU Pg r50 Q))=(fun(x0 x1:AV) (S:Store) (Q:AEnd→Store→Prop)=>m50 x0 x1 S Q):=by kernel_rfl
set_option maxRecDepth 100000 in
theorem calls50{x0 x1:AV}{S:Store}{Q:AEnd→Store→Prop}(h:m50 x0 x1 S Q):ACalls Pg 50 [x0,x1] S Q:=
 calls_of_vcU (fn:=Tryz.f50) (c:=c50) (n:=28) Tryz.func50 (by kernel_rfl) (by kernel_rfl) (by kernel_rfl) [] ((congrFun (congrFun (congrFun (congrFun m50_eq x0) x1) S) Q).mpr h)
theorem leavesU_cons{P:Program}{rs:List ResultVar}{Q:AEnd→Store→Prop}{env:Env}{f:FuncId}{xs:List AV}{ds:List Off}{u:Option AV}{S:Store}(h:ARec P f xs S u (fun b S'=>leavesU P rs Q env ds (nxU b u) S')):leavesU P rs Q env ((f,xs) :: ds) u S:=by
 cases u<;>exact h
set_option maxRecDepth 100000 in
theorem lvTk:(fun(v4 v5:AV) (Q:AEnd→Store→Prop) (S':Store)=>leavesU Pg r50 Q (setD (setD (ofArgs 28 []) (some 4) v4) (some 5) v5) [] none S')=(fun(v4 v5:AV) (Q:AEnd→Store→Prop) (S':Store)=>ldN 8 v4 S' fun a _=>ld1 v5 S' fun e _=>Q (.ret (.t [a,e])) S'):=by kernel_rfl
theorem finTk_none{v4 v5:AV}{Q:AEnd→Store→Prop}{S:Store}(h:mTk v4 v5 (.v .nilIface) S fun S'=>ldN 8 v4 S' fun a _=>ld1 v5 S' fun e _=>Q (.ret (.t [a,e])) S'):finTk v4 v5 Q none S:=by
 rw[←congrFun (congrFun (congrFun lvTk v4) v5) Q]at h
 exact leavesU_cons (recTk (u:=none) h)
theorem finTk_some{v4 v5 x:AV}{Q:AEnd→Store→Prop}{S:Store}(h:mTk v4 v5 x S fun S'=>ldN 8 v4 S' fun a _=>ld1 v5 S' fun e _=>Q (.ret (.t [a,e])) S'):finTk v4 v5 Q (some x) S:=by
 rw[←congrFun (congrFun (congrFun lvTk v4) v5) Q]at h
 exact leavesU_cons (recTk (u:=some x) h)
theorem tasN_i{t:TypeId}{z y:AV}{S:Store}{K:AV→Store→Prop}:tasN t z (.i t y) S K=K (.t [y,aB true]) S:=by
 simp[tasN]
theorem tasN_nil{t:TypeId}{z:AV}{S:Store}{K:AV→Store→Prop}:tasN t z (.v .nilIface) S K=K (.t [z,aB false]) S:=rfl
theorem ldN_j{id t j n:Nat}{cs:List AV}{l:Bool}{S:Store}{K:AV→Store→Prop}(h:S.obj id=some (.cells t [cs] l))(hj:j+n≤cs.length):ldN n (.p id 0 j) S K=K (.a ((cs.drop j).take n)) S:=by
 simp[ldN,rdN,place,Store.get,h,hj]
def RowsF(S:Store)(z:Nat→AV)(r:Nat→List (List AV)):Prop:=∀ j,j<7→(z j = .nl∧r j = [])∨∃ id e,z j = .s id 0 (r j).length∧S.obj id=some (.cells e (r j) false)
theorem Rows.frz{S:Store}{n:Nat}{z:Nat→AV}{r:Nat→List (List AV)}(h:Rows S n z r):RowsF (S.frz (newer n)) z r:=fun j hj=>by
 rcases h.own j (by omega)with h|⟨id,h1,h2,h3,h4⟩
 ·exact .inl h
 ·refine .inr ⟨id,tkT j,h1,?_⟩
  rw[frz_of h4]
  simp[newer,h2]
theorem RowsF.cv{S:Store}{z:Nat→AV}{r:Nat→List (List AV)}(h:RowsF S z r){j:Nat}(hj:j<7)(ht:∀ x∈r j,∀ u∈x,Tree u){D:Nat→Bool}{m:Nat}:Cv (S.frz D) m (z j) (.l (r j)):=by
 rcases h j hj with⟨h1,h2⟩|⟨id,e,h1,h2⟩
 ·rw[h1,h2];exact .nl
 ·rw[h1]
  refine .s id 0 _ e (r j) (r j) (by rw[frz_of h2];rfl) (by simp) rfl (fun i c c2 h3 h4=>?_) (fun i c c2 k u u2 h3 h4 h5 h6=>?_)
  ·rw[Nat.zero_add]at h3;rw[h3]at h4;cases h4;rfl
  ·rw[Nat.zero_add]at h3;rw[h3]at h4;cases h4;rw[h5]at h6;cases h6
   exact ht _ (List.mem_of_getElem? h3) _ (List.mem_of_getElem? h5) _ _
theorem rowsOf_tree(c:Ci)(j:Nat):∀ x∈c.rowsOf j,∀ u∈x,Tree u:=by
 intro x hx u hu
 match j with
 |0=>obtain⟨p,_,rfl⟩:=List.mem_map.1 hx;simp at hu;rcases hu with rfl|rfl<;>exact Tree.v _
 |1=>obtain⟨p,_,rfl⟩:=List.mem_map.1 hx;simp at hu;rcases hu with rfl|rfl<;>exact Tree.v _
 |2=>obtain⟨p,_,rfl⟩:=List.mem_map.1 hx;simp at hu;subst hu;exact Tree.v _
 |3=>obtain⟨p,_,rfl⟩:=List.mem_map.1 hx;simp at hu;subst hu;exact Tree.v _
 |4=>obtain⟨p,_,rfl⟩:=List.mem_map.1 hx;simp at hu;subst hu;exact Tree.v _
 |5=>obtain⟨p,_,rfl⟩:=List.mem_map.1 hx;simp at hu;subst hu;exact Tree.v _
 |6=>obtain⟨p,_,rfl⟩:=List.mem_map.1 hx;simp[Na.row]at hu;rcases hu with rfl|rfl|rfl<;>exact Tree.v _
 |j+7=>cases hx
def cells8(inp:Int)(z:Nat→AV):List AV:=[aI inp,z 0,z 1,z 2,z 3,z 4,z 5,z 6]
theorem tkC_drop{l:Bs}{M:List Int}{inp:Int}{z:Nat→AV}(h:M.length=9):((tkC l M inp z).drop 10).take 8=cells8 inp z:=by
 obtain⟨a,b,c,d,e,f,g,i,k,rfl⟩:=nine h
 rfl
theorem RowsF.cva{S:Store}{z:Nat→AV}{c:Ci}(h:RowsF S z c.rowsOf){D:Nat→Bool}{m:Nat}:Cv (S.frz D) m (.a (cells8 c.inputs z)) c.av:=by
 refine .a (cells8 c.inputs z) c.cells rfl fun k u u2 h1 h2=>?_
 have hz:∀ j,j<7→Cv (S.frz D) m (z j) (.l (c.rowsOf j)):=fun j hj=>h.cv hj (rowsOf_tree c j)
 match k with
 |0=>cases h1;cases h2;exact .v _
 |1=>cases h1;cases h2;exact hz 0 (by decide)
 |2=>cases h1;cases h2;exact hz 1 (by decide)
 |3=>cases h1;cases h2;exact hz 2 (by decide)
 |4=>cases h1;cases h2;exact hz 3 (by decide)
 |5=>cases h1;cases h2;exact hz 4 (by decide)
 |6=>cases h1;cases h2;exact hz 5 (by decide)
 |7=>cases h1;cases h2;exact hz 6 (by decide)
 |k+8=>cases h1
def zero8:List AV:=[aI 0,.nl,.nl,.nl,.nl,.nl,.nl,.nl]
theorem cv_zero8{S:Store}{m:Nat}:Cv S m (.a zero8) cE.av:=by
 refine .a zero8 cE.cells rfl fun k u u2 h1 h2=>?_
 match k with
 |0=>cases h1;cases h2;exact .v _
 |1=>cases h1;cases h2;exact .nl
 |2=>cases h1;cases h2;exact .nl
 |3=>cases h1;cases h2;exact .nl
 |4=>cases h1;cases h2;exact .nl
 |5=>cases h1;cases h2;exact .nl
 |6=>cases h1;cases h2;exact .nl
 |7=>cases h1;cases h2;exact .nl
 |k+8=>cases h1
def outP (o:Except Int Ci):Ci × Int:=match o with
 |.error e=>(cE,e)
 |.ok c=>if c.right=true then(c,0)else(cE,22)
def retC(p:Ci × Int):AV:=.t [p.1.av,aI p.2]
def Takes(f:FuncId)(s:Bs)(o:Except Int Ci):Prop:=∀(S0 T:Store) (Q:AEnd→Store→Prop) (K:AV→Store→Prop),Tk S0 T s (List.replicate 9 0) cE→(∀ cc,o = .ok cc→∀ M b T',Tk S0 T' b M cc→K (.t []) T')→(∀ e,o = .error e→∀ T',Keep S0 T'→Q (wr e) T')→callF Pg f [.p S0.n 0 0] T Q K
theorem callV_F{f:FuncId}{args:List AV}{S:Store}{K X:AV→Store→Prop}(h:callF Pg f args S (fun e S=>match e with|.ret _=>True|.pan x=>X x S) K):callV Pg (.f (.func f) [] []) args S K X:=by
 show ACallX _ _ ([]++args ++ []) _ _
 rw[List.nil_append,List.append_nil]
 exact h
theorem ans50{f:FuncId}{s:Bs}{o:Except Int Ci}(hf:s.length≤20000→Takes f s o)(hok:s.length≤20000→∀ c,o = .ok c→c.ok):Ans Pg 50 [aT s,.f (.func f) [] []] (retC (if 20000<s.length then(cE,2)else outP o)):=by
 intro S
 refine ACalls.tree (calls50 ?_)
 unfold m50
 refine boxA_of (cs:=zero8) rfl fun S1 k1 n1 o1=>?_
 refine box1_of rfl fun S2 k2 n2 o2=>?_
 have o1':=(k2.2 _ (by omega)).trans o1
 have hlw:∀{S:Store} {K:AV→Store→Prop},lenStr (aT s) S K=K (aI s.length) S:=fun{S K}=>by
  refine(lenStr_b (S:=S) (K:=K) ⟨s.toArray⟩).trans ?_
  simp[ByteArray.size]
 have hn1:S1.n=S.n+1:=n1
 have hn2:S2.n=S1.n+1:=n2
 have k12:Keep S S2:=k1.trans k2
 rw[hlw,bin_gtr,onB_v]
 refine gd_of (fun hl=>?_) (fun hl=>?_)
 ·have hl:20000<s.length:=by have:(20000:Int)<s.length:=dT hl
                             omega
  rw[if_pos hl,ldN_p (n:=8) o1' rfl]
  refine stA_of (cs':=zero8) o1' rfl rfl fun S3 n3 o3 f3=>?_
  have o2':=(f3 _ (by omega:S1.n≠S.n)).trans o2
  refine stF_of o2' (by simp) rfl fun S4 n4 o4 f4=>?_
  rw[ldN_p (n:=8) ((f4 _ (by omega)).trans o3) rfl,ld1_p o4 rfl rfl]
  refine⟨_,rfl,⟨by omega,fun j hj=>by rw[f4 j (by omega),f3 j (by omega),k12.2 j hj]⟩,?_⟩
  exact .t _ _ rfl (cvT2 cv_zero8 (.v _))
 have hl:¬ 20000<s.length:=by have:¬ (20000:Int)<s.length:=dF hl
                              omega
 rw[if_neg hl]
 refine⟨tkC s (List.replicate 9 0) 0 (fun _=>.nl),rfl,?_⟩
 refine boxA_of (cs:=tkC s (List.replicate 9 0) 0 (fun _=>.nl)) rfl fun S3 k3 n3 o3=>?_
 have X:∀(e:Int) (T:Store),outP o=(cE,e)→Keep S2 T→finTk (.p S.n 0 0) (.p S1.n 0 0) (fun e S'=>∃ r,e = .ret r∧Keep S S'∧Cv (S'.frz (newer S.n)) S.n r (retC (outP o))) (some (.i 121 (.a [aI e]))) T:=by
  intro e T he hT
  refine finTk_some ?_
  unfold mTk
  rw[tasN_i,extr0,extr1]
  have t1:=(hT.2 _ (by omega)).trans o1'
  have t2:=(hT.2 _ (by omega)).trans o2
  have tn:=hT.1
  refine boxA_of (cs:=[aI 0]) rfl fun T1 e1 m1 p1=>?_
  refine stA_of (cs':=[aI e]) p1 rfl rfl fun T2 m2 p2 g2=>?_
  rw[onB_v,gd_true]
  have kT2:Keep T T2:=e1.st (Nat.le_refl _) m2 g2
  have hTn:T.n<T2.n:=by omega
  refine⟨.a zero8,fun U hU=>⟨zero8,rfl,rfl,rfl⟩,?_⟩
  refine L_shift ?_
  refine L_ldp (u:=aI e) p2 hTn rfl rfl ?_
  refine stA_of (cs':=zero8) ((kT2.2 _ (by omega)).trans t1) rfl rfl fun T3 m3 p3 g3=>?_
  have p2':=(g3 _ (by omega:T.n≠S.n)).trans p2
  refine⟨fun U hU=>by rw[Nat.zero_add,ld1_p ((hU.2 _ (by omega)).trans p2') rfl rfl];exact⟨rfl,rfl⟩,?_⟩
  refine⟨fun U hU=>by rw[shift_p];exact⟨rfl,rfl⟩,?_⟩
  refine stF_of (((g3 _ (by omega:S1.n≠S.n)).trans (kT2.2 _ (by omega))).trans t2) (by simp) rfl fun T4 m4 p4 g4=>?_
  show ldN 8 _ T4 _
  rw[ldN_p (n:=8) ((g4 _ (by omega)).trans p3) rfl,ld1_p p4 rfl rfl]
  refine⟨_,rfl,⟨by omega,fun j hj=>by rw[g4 j (by omega),g3 j (by omega),kT2.2 j (by omega),hT.2 j (by omega),k12.2 j hj]⟩,?_⟩
  rw[he]
  exact .t _ _ rfl (cvT2 cv_zero8 (.v _))
 have hTk:Tk S2 S3 s (List.replicate 9 0) cE:=⟨fun _=>.nl,⟨rfl,k3,by omega,o3,⟨fun j hj=>.inl ⟨rfl,by
  match j,hj with
  |0,_=>rfl
  |1,_=>rfl
  |2,_=>rfl
  |3,_=>rfl
  |4,_=>rfl
  |5,_=>rfl
  |6,_=>rfl
  |7,_=>rfl⟩,fun i j _ _ _ a b m b' m' e=>by cases e⟩⟩⟩
 refine callV_F (hf (by omega) S2 S3 _ _ hTk (fun cc hcc M b T hT=>?_) (fun e he T hT=>X e T (by rw[he];rfl) hT))
 obtain⟨z,hz⟩:=hT
 rw[nilChk_p,shift_p,ldN_j hz.ob (by rw[tkC_len hz.len];decide),Nat.zero_add,tkC_drop hz.len]
 refine callV_F ?_
 have hrf:=hz.rows.frz
 refine callF_frz (newer (S2.n+1)) (args:=[.a (cells8 cc.inputs z)]) (args2:=[cc.av]) rfl (cv_1 ?_) (ans33 (hok (by omega) cc hcc)) ?_
 ·have:=hrf.cva (D:=fun _=>false) (m:=T.n)
  rw[frz_none]at this
  exact this
 have hout:outP o=if cc.right=true then(cc,0)else(cE,22):=by rw[hcc];rfl
 have hkf:Keep S2 (T.frz (newer (S2.n+1))):=⟨hz.kp.1,fun j hj=>by rw[frz_false (by simp[newer];omega)];exact hz.kp.2 j hj⟩
 have hobf:(T.frz (newer (S2.n+1))).obj S2.n=some (.cells 81 [tkC b M cc.inputs z] true):=by rw[frz_false (by simp[newer])];exact hz.ob
 have hltf:S2.n<(T.frz (newer (S2.n+1))).n:=hz.lt
 have hnF:(T.frz (newer (S2.n+1))).n=T.n:=rfl
 generalize T.frz (newer (S2.n+1))=F at hrf hkf hobf hltf hnF
 refine callV_F (want_c (fun hr=>?_) (fun hr=>X 22 F (by rw[hout,if_neg (by rw[hr];decide)]) hkf))
 rw[if_pos hr]at hout
 rw[nilChk_p,shift_p,ldN_j hobf (by rw[tkC_len hz.len];decide),Nat.zero_add,tkC_drop hz.len]
 have f1:=(hkf.2 _ (by omega)).trans o1'
 have f2:=(hkf.2 _ (by omega)).trans o2
 have fn:=hkf.1
 refine stA_of (cs':=cells8 cc.inputs z) f1 rfl rfl fun T3 m3 p3 g3=>?_
 refine stF_of ((g3 _ (by omega:S1.n≠S.n)).trans f2) (by simp) rfl fun T4 m4 p4 g4=>?_
 refine finTk_none ?_
 unfold mTk
 rw[tasN_nil,extr0,extr1]
 refine boxA_of (cs:=[aI 0]) rfl fun T5 e5 m5 p5=>?_
 refine stA_of (cs':=[aI 0]) p5 rfl rfl fun T6 m6 p6 g6=>?_
 rw[onB_v,gd_false]
 have k6:Keep T4 T6:=e5.st (Nat.le_refl _) m6 g6
 show ldN 8 _ T6 _
 rw[ldN_p (n:=8) ((k6.2 _ (by omega)).trans ((g4 _ (by omega)).trans p3)) rfl,ld1_p ((k6.2 _ (by omega)).trans p4) rfl rfl]
 refine⟨_,rfl,⟨by have:=k6.1;omega,fun j hj=>by rw[k6.2 j (by omega),g4 j (by omega),g3 j (by omega),hkf.2 j (by omega),k12.2 j hj]⟩,?_⟩
 rw[hout]
 refine .t _ _ rfl (cvT2 ?_ (.v _))
 refine RowsF.cva (S:=T6) (fun j hj=>?_)
 rcases hrf j hj with h|⟨id,e,h1,h2⟩
 ·exact .inl h
 ·refine .inr ⟨id,e,h1,?_⟩
  have hlive:∀{i:Nat} {t:TypeId} {es:List (List AV)},F.obj i=some (.cells t es true)→id≠i:=fun{i t es} hi e=>by rw[e,hi]at h2;cases h2
  have i1:=hlive f1
  have i2:=hlive f2
  have hidF:id<T4.n:=by
   rcases hz.rows.own j (by omega)with⟨e1,_⟩|⟨id',e1,_,e3,_⟩
   ·rw[e1]at h1;cases h1
   ·rw[e1]at h1;cases h1;omega
  rw[k6.2 _ hidF,g4 _ i2,g3 _ i1]
  exact h2
def oP (s:Bs):Except Int Ci:=match headP [97,97,103] s with
 |none=>.error 20
 |some (M,r)=>match bodyP M r with
  |none=>.error 21
  |some c=>.ok c
theorem parseP_o(s:Bs):parseP s=if 20000<s.length then(cE,2)else outP (oP s):=by
 unfold parseP oP
 split
 ·rfl
 ·cases headP [97,97,103] s with
  |none=>rfl
  |some p =>
   obtain⟨M,r⟩:=p
   simp only
   cases bodyP M r<;>rfl
theorem oP_ok{s:Bs}(hs:s.length≤1000000):∀ c,oP s = .ok c→c.ok∧c.items≤s.length:=by
 intro c h
 unfold oP at h
 cases hh:headP [97,97,103] s with
 |none=>rw[hh]at h;cases h
 |some p =>
  obtain⟨M,r⟩:=p
  rw[hh]at h
  simp only at h
  have hM:=headP_ok hh
  cases hb:bodyP M r with
  |none=>rw[hb]at h;cases h
  |some c' =>
   rw[hb]at h
   cases h
   have:=bodyP_ok hM.2.2.1 (l:=r) (by omega) hb
   exact⟨this.1,by have:=this.2;omega⟩
theorem takes_aag{s:Bs}(hs:s.length≤20000):Takes 51 s (oP s):=by
 intro S0 T Q K h h1 h0
 refine h.parse (by omega) (fun M b cc hh hb b' T' hT'=>h1 cc (by unfold oP;rw[hh];simp only;rw[hb]) M b' T' hT') (fun hh T' hT'=>h0 20 (by unfold oP;rw[hh]) T' hT') (fun M b hh hb T' hT'=>h0 21 (by unfold oP;rw[hh];simp only;rw[hb]) T' hT')
theorem cvAv(c:Ci){S:Store}{m:Nat}:Cv S m c.av c.av:=(Tree.a (cs:=c.cells) fun u hu=>by
 simp only[Ci.cells,List.mem_cons,List.not_mem_nil,or_false]at hu
 rcases hu with rfl|rfl|rfl|rfl|rfl|rfl|rfl|rfl
 ·exact Tree.v _
 ·exact treeP _
 ·exact treeP _
 ·exact treeI _
 ·exact treeI _
 ·exact treeI _
 ·exact treeI _
 ·exact treeN _) S m
theorem ans24(s:Bs):Ans Pg 24 [aT s] (retC (parseP s)):=by
 intro S
 refine ACalls.tree (calls24 ?_)
 unfold m24
 refine boxA_of rfl fun S1 k1 n1 o1=>?_
 refine callF_ans (ans50 (fun h=>takes_aag h) (o:=oP s) (fun h c hc=>(oP_ok (by omega) c hc).1)) ?_
 rw[←parseP_o]
 have e0:∀{S:Store} {K:AV→Store→Prop},extr (retC (parseP s)) 0 S K=K (parseP s).1.av S:=fun{S K}=>ext_t rfl
 have e1:∀{S:Store} {K:AV→Store→Prop},extr (retC (parseP s)) 1 S K=K (aI (parseP s).2) S:=fun{S K}=>ext_t rfl
 rw[e0,e1]
 refine stA_of (cs':=(parseP s).1.cells) o1 rfl rfl fun S2 n2 o2 f2=>?_
 rw[ldN_p (n:=8) o2 rfl]
 exact⟨_,rfl,k1.st (Nat.le_refl _) n2 f2,.t _ _ rfl (cvT2 (cvAv _) (.v _))⟩
def takeN:Nat→Nat→Nat→Bs→Option (Nat × Bs)
 |0,_,_,_=>none
 |_+1,_,_,[]=>none
 |k+1,i,n,b :: r=>if b.toNat<128 then(if i=0∨0<b.toNat then some (n+b.toNat*128 ^ i,r)else none)
   else takeN k (i+1) (n+(b.toNat - 128)*128 ^ i) r
def takeD(l:Bs):Option (Nat × Bs):=takeN 3 0 0 l
theorem takeN_ok:∀{k i n:Nat} {l r:Bs} {m:Nat},takeN k i n l=some (m,r)→n<128 ^ i→m<128 ^ (i+k)∧r.length<l.length
 |0,_,_,_,_,_,h,_=>by rw[takeN]at h;cases h
 |_+1,_,_,[],_,_,h,_=>by rw[takeN]at h;cases h
 |k+1,i,n,b :: l,r,m,h,hn=>by
  rw[takeN]at h
  have hb:=b.toNat_lt
  have hp:128 ^ (i+1)=128*128 ^ i:=by rw[Nat.pow_succ,Nat.mul_comm]
  generalize 128 ^ i=P at *
  have hbp:b.toNat*P≤255*P:=Nat.mul_le_mul_right _ (by omega)
  split at h
  ·rename_i h1
   have h1p:b.toNat*P≤127*P:=Nat.mul_le_mul_right _ (by omega)
   split at h
   ·cases h
    refine⟨?_,by simp⟩
    have h2:128 ^ (i+1)≤128 ^ (i+(k+1)):=Nat.pow_le_pow_right (by decide) (by omega)
    omega
   ·cases h
  ·have h1p:(b.toNat - 128)*P≤127*P:=Nat.mul_le_mul_right _ (by omega)
   obtain⟨g1,g2⟩:=takeN_ok h (by omega)
   refine⟨?_,by simp;omega⟩
   have e:i+1+k=i+(k+1):=by omega
   rw[e]at g1
   exact g1
theorem takeD_ok{l r:Bs}{m:Nat}(h:takeD l=some (m,r)):m<2097152∧r.length<l.length:=by
 have:=takeN_ok h (by decide)
 exact⟨this.1,this.2⟩
def deltaT(n:Nat):Bs:=if h:n<128 then[UInt8.ofNat n]else UInt8.ofNat (128+n % 128) :: deltaT (n / 128)
termination_by n
decreasing_by omega
theorem take_deltaN:∀(k i a n:Nat) (rest:Bs),1≤k→n<128 ^ k→(i=0∨0<n)→takeN k i a (deltaT n++rest)=some (a+n*128 ^ i,rest)
 |0,_,_,_,_,h,_,_=>by omega
 |k+1,i,a,n,rest,_,hn,hi=>by
  rw[deltaT]
  split
  ·rename_i h
   have e:(UInt8.ofNat n).toNat=n:=by rw[UInt8.toNat_ofNat'];omega
   show takeN (k+1) i a (UInt8.ofNat n :: rest)=_
   rw[takeN,e,if_pos h,if_pos hi]
  ·rename_i h
   have e:(UInt8.ofNat (128+n % 128)).toNat=128+n % 128:=by rw[UInt8.toNat_ofNat'];omega
   have hk:1≤k:=by
    rcases Nat.eq_zero_or_pos k with e|e
    ·subst e;simp at hn;omega
    ·exact e
   show takeN (k+1) i a (UInt8.ofNat (128+n % 128) :: (deltaT (n / 128)++rest))=_
   rw[takeN,e,if_neg (by omega),take_deltaN k (i+1) _ (n / 128) rest hk (by rw[Nat.pow_succ]at hn;omega) (.inr (by omega))]
   have hp:128 ^ (i+1)=128*128 ^ i:=by rw[Nat.pow_succ,Nat.mul_comm]
   have e2:128+n % 128 - 128=n % 128:=by omega
   generalize 128 ^ i=P at *
   have e3:n=n % 128+n / 128*128:=by omega
   have e4:n*P=n % 128*P+n / 128*(128*P):=by
    conv=>lhs;rw[e3]
    rw[Nat.add_mul,Nat.mul_assoc]
   rw[hp,e2,e4,Nat.add_assoc]
theorem take_delta{n:Nat}(h:n<2097152)(rest:Bs):takeD (deltaT n++rest)=some (n,rest):=by
 have e:128 ^ 3=2097152:=by decide
 have:=take_deltaN 3 0 0 n rest (by decide) (by rw[e];exact h) (.inl rfl)
 simpa[takeD]using this
theorem deltaT_len{n:Nat}(h:n<16384):(deltaT n).length≤2:=by
 rw[deltaT]
 split
 ·simp
 ·rw[deltaT,dif_pos (by omega)];simp
def latchesB(first:Int):Nat→Nat→Bs→Option (List (Int × Int) × Bs)
 |0,_,l=>some ([],l)
 |n+1,i,l=>match numbersP 1 2 l with
  |some (ns,r)=>match resetP (first+2*(i:Int)) (ns.getD 1 0)with
   |some k=>(latchesB first n (i+1) r).map fun p=>((ns.getD 0 0,k) :: p.1,p.2)
   |none=>none
  |none=>none
def andsB(first:Int):Nat→Nat→Bs→Option (List (Int × Int) × Bs)
 |0,_,l=>some ([],l)
 |n+1,i,l=>match takeD l with
  |none=>none
  |some (a,l1)=>match takeD l1 with
   |none=>none
   |some (b,l2)=>(andsB first n (i+1) l2).map fun p=>((first+2*(i:Int) - a,first+2*(i:Int) - a - b) :: p.1,p.2)
def restB(M:List Int)(N4:Nat)(la:List (Int × Int) × Bs):Option Ci:=(colsP M la.2).bind fun co=>(andsB (2*(M.getD 1 0+M.getD 2 0+1)) N4 0 co.2).bind fun an=>(namesP an.2.length an.2).map fun na =>
 ⟨M.getD 1 0,la.1,an.1,co.1.1,co.1.2.1,co.1.2.2.1,co.1.2.2.2,na⟩
def bodyB(M:List Int)(l:Bs):Option Ci:=(latchesB (2*(M.getD 1 0+1)) (mAt M 2) 0 l).bind (restB M (mAt M 4))
theorem latchesB_ok{first:Int}:∀{n i:Nat} {l:Bs} {q:List (Int × Int) × Bs},latchesB first n i l=some q→q.2.length+n≤l.length∧q.1.length=n∧pairs6 q.1
 |0,_,l,q,h=>by rw[latchesB]at h;cases h;exact⟨Nat.le_refl _,rfl,fun p hp=>by cases hp⟩
 |n+1,i,l,q,h=>by
  rw[latchesB]at h
  split at h
  ·rename_i ns r' hn
   split at h
   ·rename_i k hk
    obtain⟨p,hp,rfl⟩:=Option.map_eq_some_iff.1 h
    obtain⟨h1,h2,h3⟩:=latchesB_ok hp
    obtain⟨h4,h5,h6⟩:=numbersP_ok hn
    refine⟨by show p.2.length+(n+1)≤_;omega,by simp[h2],fun x hx=>?_⟩
    rcases List.mem_cons.1 hx with rfl|hx
    ·have:=resetP_rng hk
     exact⟨getD_rng h6 0,⟨this.1,by show k≤_;omega⟩⟩
    ·exact h3 x hx
   ·cases h
  ·cases h
theorem andsB_ok{first:Int}(h0:0≤first∧first≤100000):∀{n i:Nat} {l:Bs} {q:List (Int × Int) × Bs},n+i≤10000→andsB first n i l=some q→q.2.length+n≤l.length∧q.1.length=n∧∀ p∈q.1,i64R p.1∧i64R p.2
 |0,_,l,q,_,h=>by rw[andsB]at h;cases h;exact⟨Nat.le_refl _,rfl,fun p hp=>by cases hp⟩
 |n+1,i,l,q,hi,h=>by
  rw[andsB]at h
  split at h
  ·cases h
  ·rename_i a l1 ha
   split at h
   ·cases h
   ·rename_i b l2 hb
    obtain⟨p,hp,rfl⟩:=Option.map_eq_some_iff.1 h
    obtain⟨h1,h2,h3⟩:=andsB_ok h0 (by omega) hp
    have ha:=takeD_ok ha
    have hb:=takeD_ok hb
    refine⟨by show p.2.length+(n+1)≤_;omega,by simp[h2],fun x hx=>?_⟩
    rcases List.mem_cons.1 hx with rfl|hx
    ·exact⟨⟨by show _≤first+2*(i:Int) - a;omega,by show first+2*(i:Int) - a≤_;omega⟩,⟨by show _≤first+2*(i:Int) - a - b;omega,by show first+2*(i:Int) - a - b≤_;omega⟩⟩
    ·exact h3 x hx
theorem bodyB_ok{M:List Int}(hM:∀ x∈M,0≤x∧x≤2000){l:Bs}(hl:l.length≤1000000){c:Ci}(h:bodyB M l=some c):c.ok:=by
 have at_:∀ i,0≤M.getD i 0∧M.getD i 0≤2000:=fun i=>by
  rw[List.getD_eq_getElem?_getD]
  cases e:M[i]? with
  |none=>exact⟨by decide,by decide⟩
  |some x=>exact hM x (List.mem_of_getElem? e)
 unfold bodyB restB at h
 obtain⟨la,hla,h⟩:=Option.bind_eq_some_iff.1 h
 obtain⟨co,hco,h⟩:=Option.bind_eq_some_iff.1 h
 obtain⟨an,han,h⟩:=Option.bind_eq_some_iff.1 h
 obtain⟨na,hna,rfl⟩:=Option.map_eq_some_iff.1 h
 have a1:=at_ 1
 have a2:=at_ 2
 have a4:=at_ 4
 have m4:mAt M 4=(M.getD 4 0).toNat:=rfl
 obtain⟨b1,b2,b3⟩:=latchesB_ok hla
 obtain⟨c1,c2,c3,c4,c5⟩:=colsP_ok hco
 obtain⟨d1,d2,d3⟩:=andsB_ok (by omega) (by omega) han
 obtain⟨e1,e2⟩:=namesP_ok hna
 refine⟨⟨by show _≤M.getD 1 0;omega,by show M.getD 1 0≤_;omega⟩,by show la.1.length≤_;omega,by show an.1.length≤_;omega,pairs_ok b3,d3,⟨lits_ok c2,by show co.1.1.length≤_;omega⟩,⟨lits_ok c3,by show co.1.2.1.length≤_;omega⟩,⟨lits_ok c4,by show co.1.2.2.1.length≤_;omega⟩,⟨lits_ok c5,by show co.1.2.2.2.length≤_;omega⟩,
  fun x hx=>by obtain⟨a,b,c,d⟩:=e2 x hx;exact⟨a,b,⟨by omega,by omega⟩,by omega⟩,by show na.length≤_;omega⟩
def oB (s:Bs):Except Int Ci:=match headP [97,105,103] s with
 |none=>.error 20
 |some (M,r)=>match bodyB M r with
  |none=>.error 21
  |some c=>.ok c
def parseB (s:Bs):Ci × Int:=if 20000<s.length then(cE,2)else outP (oB s)
theorem oB_ok{s:Bs}(hs:s.length≤1000000):∀ c,oB s = .ok c→c.ok:=by
 intro c h
 unfold oB at h
 cases hh:headP [97,105,103] s with
 |none=>rw[hh]at h;cases h
 |some p =>
  obtain⟨M,r⟩:=p
  rw[hh]at h
  simp only at h
  have hM:=headP_ok hh
  cases hb:bodyB M r with
  |none=>rw[hb]at h;cases h
  |some c' =>
   rw[hb]at h
   cases h
   exact bodyB_ok hM.2.2.1 (l:=r) (by omega) hb
def latsBT(first:Int):Nat→List (Int × Int)→Bs
 |_,[]=>[]
 |i,p :: r=>ln (latN (first+2*(i:Int)) p)++latsBT first (i+1) r
def andsBT(first:Int):Nat→List (Int × Int)→Bs
 |_,[]=>[]
 |i,p :: r=>deltaT (first+2*(i:Int) - p.1).toNat++(deltaT (p.1 - p.2).toNat++andsBT first (i+1) r)
def Ci.binT(c:Ci):Bs:=c.headB [97,105,103]++(latsBT (2*(c.inputs+1)) 0 c.latches++(c.colsT++(andsBT (2*(c.inputs+c.latches.length+1)) 0 c.ands++namesT c.names)))
def stairs(first:Int)(l:List (Int × Int)):Prop:=∀ i (h:i<l.length),0≤l[i].2∧l[i].2<l[i].1∧l[i].1<first+2*(i:Int)
theorem stairs_of{c:Ci}(h:c.right=true):stairs (2*(c.inputs+c.latches.length+1)) c.ands:=by
 obtain⟨hi,hl,ho,hb,hc,hf,hg,h1,h2,h3,h4,h5,h6⟩:=right_c.1 h
 obtain⟨g1,g2,g3⟩:=gr_inp h
 obtain⟨r1,r2,r3,r4,r5,r6⟩:=right_iff.1 hg
 intro i hi'
 have hm:=r5 i hi'
 have e:c.gr.ands=c.ands:=rfl
 rw[e,List.getD_eq_getElem?_getD,List.getElem?_eq_getElem hi',Option.getD_some,g1]at hm
 simp only[may,Bool.and_eq_true,decide_eq_true_eq]at hm
 obtain⟨a1,a2,a3⟩:=hm
 rw[Int.tdiv_eq_ediv_of_nonneg (by omega)]at a2
 have hp:0≤c.ands[i].1:=by
  rcases Int.lt_or_le c.ands[i].1 0 with hn|hn
  ·have e:c.ands[i].1.tdiv 2 = -((-c.ands[i].1).tdiv 2):=by rw[Int.neg_tdiv];omega
   rw[e,Int.tdiv_eq_ediv_of_nonneg (by omega)]at a2
   omega
  ·exact hn
 rw[Int.tdiv_eq_ediv_of_nonneg hp]at a2 a3
 omega
theorem latsB_back{first:Int}(h0:2≤first)(rest:Bs):∀(l:List (Int × Int)) (i:Nat),first+2*((l.length+i:Nat):Int)≤999999→(∀ p∈l,(0≤p.1∧p.1≤999999)∧(0≤p.2∧p.2≤2))→
    latchesB first l.length i (latsBT first i l++rest)=some (l,rest)
 |[],i,_,_=>rfl
 |p :: r,i,h,hp=>by
  have hp0:=hp p List.mem_cons_self
  rw[List.length_cons]at h
  have hl:(latN (first+2*(i:Int)) p).length≤2∧1≤(latN (first+2*(i:Int)) p).length:=by
   unfold latN
   split
   ·simp
   ·split<;>simp
  have hm:∀ x∈latN (first+2*(i:Int)) p,0≤x∧x≤999999:=by
   intro x hx
   unfold latN at hx
   rcases List.mem_cons.1 hx with rfl|hx
   ·exact hp0.1
   ·split at hx
    ·rw[List.mem_singleton.1 hx];decide
    ·split at hx
     ·rw[List.mem_singleton.1 hx];omega
     ·cases hx
  rw[latsBT,List.append_assoc,List.length_cons,latchesB,numbersP_ln _ (by unfold latN;simp) hm (by omega) (by omega)]
  have hr:=reset_back (own:=first+2*(i:Int)) (by omega) hp0.2
  have e1:(latN (first+2*(i:Int)) p++List.replicate (2 - (latN (first+2*(i:Int)) p).length) 0).getD 1 0=((first+2*(i:Int)) :: latN (first+2*(i:Int)) p++List.replicate (3 - ((first+2*(i:Int)) :: latN (first+2*(i:Int)) p).length) 0).getD 2 0:=by
   rw[List.length_cons,show 3 - ((latN (first+2*(i:Int)) p).length+1)=2 - (latN (first+2*(i:Int)) p).length by omega,List.cons_append]
   rfl
  have e0:(latN (first+2*(i:Int)) p++List.replicate (2 - (latN (first+2*(i:Int)) p).length) 0).getD 0 0=p.1:=by simp[latN]
  simp only
  rw[e1,hr,e0]
  simp only
  rw[latsB_back h0 rest r (i+1) (by rw[show r.length+(i+1)=r.length+1+i by omega];exact h) (fun q hq=>hp q (List.mem_cons_of_mem _ hq))]
  rfl
theorem andsB_back{first:Int}(rest:Bs):∀(l:List (Int × Int)) (i:Nat),0≤first→first+2*((l.length+i:Nat):Int)≤999999→stairs (first+2*(i:Int)) l→andsB first l.length i (andsBT first i l++rest)=some (l,rest)
 |[],i,_,_,_=>rfl
 |p :: r,i,h0,h,hs=>by
  rw[List.length_cons]at h
  obtain⟨s1,s2,s3⟩:=hs 0 (by simp)
  have s1:0≤p.2:=s1
  have s2:p.2<p.1:=s2
  have s3:p.1<first+2*(i:Int)+2*((0:Nat):Int):=s3
  rw[andsBT,List.append_assoc,List.append_assoc,List.length_cons,andsB,take_delta (by omega)]
  simp only
  rw[take_delta (by omega)]
  simp only
  rw[andsB_back rest r (i+1) h0 (by rw[show r.length+(i+1)=r.length+1+i by omega];exact h) (fun k hk=>by
   have:=hs (k+1) (by simp;omega)
   have e:(p :: r)[k+1]'(by simp;omega)=r[k]:=rfl
   rw[e]at this
   omega)]
  rw[Option.map_some]
  congr 3
  cases p
  simp only at s1 s2 s3 ⊢
  congr 1<;>omega
theorem bodyB_back{c:Ci}(hr:c.right=true){rest:Bs}(hrest:restOk rest):
    bodyB c.headT ((latsBT (2*(c.inputs+1)) 0 c.latches++(c.colsT++(andsBT (2*(c.inputs+c.latches.length+1)) 0 c.ands++namesT c.names)))++rest)=some c:=by
 have h:=nums_of hr
 have hi:=h.inp
 have hs:=h.sum
 have e2:mAt c.headT 2=c.latches.length:=by simp[mAt,Ci.headT]
 have e4:mAt c.headT 4=c.ands.length:=by simp[mAt,Ci.headT]
 have d1:c.headT.getD 1 0=c.inputs:=by simp[Ci.headT]
 have d2:c.headT.getD 2 0=c.latches.length:=by simp[Ci.headT]
 unfold bodyB restB
 rw[e2,e4,d1,d2,List.append_assoc,List.append_assoc,List.append_assoc,latsB_back (by omega) _ _ _ (by omega) h.lats,Option.bind_some]
 simp only
 rw[cols_back h,Option.bind_some]
 simp only
 rw[andsB_back _ _ _ (by omega) (by omega) (by simpa using stairs_of hr),Option.bind_some]
 simp only
 rw[names_back _ _ _ (fun x hx=>(h.names x hx).1) (Nat.le_refl _) hrest]
 rfl
theorem parseB_back{c:Ci}(hc:c.right=true){rest:Bs}(hr:restOk rest)(hl:(c.binT++rest).length≤20000):parseB (c.binT++rest)=(c,0):=by
 have h:=nums_of hc
 unfold parseB oB
 rw[if_neg (by omega),Ci.binT,List.append_assoc,head_back h ⟨by decide,by decide⟩]
 simp only
 rw[bodyB_back hc hr]
 simp only[outP]
 rw[if_pos hc]
theorem ln_ge:∀ ns:List Int,2*ns.length≤(ln ns).length
 |[]=>by simp[ln,lineL]
 |[a]=>by
  have:1≤(dg a).length:=List.length_pos_iff.2 (dg_ne a)
  simp[ln,lineL];omega
 |a :: b :: r=>by
  have h1:1≤(dg a).length:=List.length_pos_iff.2 (dg_ne a)
  have h2:=ln_ge (b :: r)
  simp only[ln,lineL,List.length_append,List.length_cons,List.length_nil]at h2 ⊢
  omega
theorem latsB_le{first:Int}:∀(l:List (Int × Int)) (i:Nat),(latsBT first i l).length≤(latsT first i l).length
 |[],_=>Nat.le_refl _
 |p :: r,i=>by
  have h:=latsB_le (first:=first) r (i+1)
  simp only[latsBT,latsT,List.length_append]
  have h2:(ln (latN (first+2*(i:Int)) p)).length≤(ln ((first+2*(i:Int)) :: latN (first+2*(i:Int)) p)).length:=by
   cases hl:latN (first+2*(i:Int)) p with
   |nil=>simp[ln,lineL]
   |cons x y=>simp only[ln,lineL,List.length_append,List.length_cons];omega
  omega
theorem andsB_le{first:Int}:∀(l:List (Int × Int)) (i:Nat),0≤first→first+2*((l.length+i:Nat):Int)≤16000→stairs (first+2*(i:Int)) l→(andsBT first i l).length≤4*l.length∧(andsBT first i l).length≤(andsT first i l).length
 |[],_,_,_,_=>by simp[andsBT,andsT]
 |p :: r,i,h0,h,hs=>by
  rw[List.length_cons]at h
  obtain⟨s1,s2,s3⟩:=hs 0 (by simp)
  have s1:0≤p.2:=s1
  have s2:p.2<p.1:=s2
  have s3:p.1<first+2*(i:Int)+2*((0:Nat):Int):=s3
  have h1:=deltaT_len (n:=(first+2*(i:Int) - p.1).toNat) (by omega)
  have h2:=deltaT_len (n:=(p.1 - p.2).toNat) (by omega)
  obtain⟨h3,h4⟩:=andsB_le r (i+1) h0 (by rw[show r.length+(i+1)=r.length+1+i by omega];exact h) (fun k hk=>by
   have:=hs (k+1) (by simp;omega)
   have e:(p :: r)[k+1]'(by simp;omega)=r[k]:=rfl
   rw[e]at this
   omega)
  have h5:=ln_ge [first+2*(i:Int),p.1,p.2]
  simp only[andsBT,andsT,List.length_append,List.length_cons,List.length_nil]at h5 ⊢
  omega
theorem bin_le{c:Ci}(hr:c.right=true):c.binT.length≤c.aagT.length:=by
 have h:=nums_of hr
 have hi:=h.inp
 have hs:=h.sum
 have h1:=latsB_le (first:=2*(c.inputs+1)) c.latches 0
 have h2:=(andsB_le (first:=2*(c.inputs+c.latches.length+1)) c.ands 0 (by omega) (by omega) (by simpa using stairs_of hr)).2
 simp only[Ci.binT,Ci.aagT,Ci.headB,List.length_append,List.length_cons]
 omega
theorem bin_or8{a:Nat}(h:a<256){S:Store}{K:AV→Store→Prop}:bin .or 0 (.v (.int .u8 a)) (.v (.int .u8 128)) S K=K (.v (.int .u8 (128+a % 128:Nat))) S:=by
 have key:∀ a:Fin 256,IntKind.u8.wrap ((BitVec.ofInt 8 (a.val:Int) ||| BitVec.ofInt 8 128).toNat:Nat)=((128+a.val % 128:Nat):Int):=by decide +kernel
 have e:=key ⟨a,h⟩
 show optP (b2 .or 0 (.int .u8 a) (.int .u8 128)) _=_
 have:b2 .or 0 (.int .u8 a) (.int .u8 128)=some (.int .u8 (128+a % 128:Nat)):=by
  show(some (IntKind.u8.wrap ((BitVec.ofInt 8 (a:Int) ||| BitVec.ofInt 8 128).toNat:Nat))).map (Value.int .u8)=_
  rw[e];rfl
 rw[this,optP_some]
theorem byte_of{n:Nat}(h:n<256):(((UInt8.ofNat n).toNat:Nat):Int)=n:=by rw[UInt8.toNat_ofNat'];omega
theorem wrap_u8(n:Nat):IntKind.u8.wrap (n:Int)=((n % 256:Nat):Int):=by
 show(n:Int) % (2 ^ 8:Int)=_
 have e:(2 ^ 8:Int)=256:=rfl
 rw[e];omega
theorem bin_shr7{n:Nat}{S:Store}{K:AV→Store→Prop}:bin .shr 0 (aI n) (.v (.int .u64 7)) S K=K (aI (n / 128:Nat)) S:=by
 rw[bin_shr (by decide)]
 have:(n:Int).fdiv (2 ^ min (Int.toNat 7) IntKind.i64.bits)=((n / 128:Nat):Int):=by
  show(n:Int).fdiv 128=_
  rw[Int.fdiv_eq_ediv_of_nonneg _ (by decide)];omega
 rw[this]
theorem fit_bp:fitsAt Pg 93 55=true:=by kernel_rfl
section
variable {S:Store} {n id t:Nat} {bs:Bs} {z:AV}
theorem wrote99(hf:fitsAt Pg t 55=true)(h:Bld S n id t bs z)(b:UInt8)(hl:bs.length+1≤140737488355328):
    ACalls Pg 99 [.p id 0 0,.v (.int .u8 b.toNat)] S (Wrote S n id t (bs ++ [b]) z (.v .nilIface)):=by
 refine calls99 ?_
 unfold m99
 refine .inl ((wrote112 hf h).mono ?_)
 rintro e S1 ⟨rfl,h1,n1,f1⟩
 show nilChk _ _ _
 obtain⟨ad,ho,had⟩:=h1.ob
 rw[nilChk_p,shift_p,ld1_p ho rfl rfl]
 refine bsl1 rfl (fun _ h=>by cases h) ?_
 refine h1.own.app h1.le (c:=byteR b) rfl (by simp;omega) (fun z5 S5 w5 b5 hz=>?_) rfl
 rw[←List.map_singleton,←List.map_append]at w5
 have hid:S5.obj id=some (.cells t [[ad,z]] true):=(b5.2 id (Nat.lt_of_lt_of_le h1.lt h1.le) h1.ne).trans ho
 have hz5:∀ b m,z5≠.s id b m:=fun b m e=>by
  have:=(w5.lt e).1
  have:=h.lt
  omega
 rw[nilChk_p,shift_p]
 refine stF_of hid (by simp) (own_one w5) fun S6 n6 o6 f6=>?_
 have h5:=b5.1
 have hle:=h.le
 refine⟨rfl,z5,⟨⟨ad,o6,had⟩,h.lt,by omega,w5.st hz5 n6 f6⟩,⟨by omega,fun i hi hne hzi=>?_,fun i b m e hi=>?_⟩⟩
 ·rw[f6 i hne,b5.2 i (by omega) hzi,f1 i hne]
 ·obtain⟨m',rfl⟩:=hz
  cases e;omega
theorem wrote64(hf:fitsAt Pg t 55=true)(h:Bld S n id t bs z)(m:Nat)(hm:m≤1000000)(hl:bs.length≤1000000000):
    ACalls Pg 64 [.p id 0 0,aI m] S (Wrote S n id t (bs++deltaT m) z (.t [])):=by
 refine calls64 ?_
 unfold m64
 refine loop64_0 (fun y T=>∃(k:Nat) (pre:Bs) (z':AV),y=aI k∧k≤m∧pre.length+k≤m∧pre++deltaT k=deltaT m∧Bld T n id t (bs++pre) z'∧Stp S id z T z') (fun y _=>((intA y).getD 0).toNat) ⟨m,[],z,rfl,Nat.le_refl _,by simp,rfl,by simpa using h,Stp.refl _ _ _⟩ ?_
 rintro _ T ⟨k,pre,z',rfl,hk,hpl,hpre,hb,hs⟩ KE hKE
 unfold b64_0
 rw[bin_geq,onB_v]
 refine gd_of (fun hge=>?_) (fun hlt=>?_)
 ·have hge:128≤k:=by have:=dT hge;omega
  rw[nilChk_p,shift_p,shift_p,convI_v,wrap_u8,bin_or8 (Nat.mod_lt _ (by decide))]
  have e1:128+k % 256 % 128=128+k % 128:=by omega
  have e2:((128+k % 128:Nat):Int)=(((UInt8.ofNat (128+k % 128)).toNat:Nat):Int):=by rw[byte_of (by omega)]
  rw[e1,e2]
  refine .inl ((wrote99 hf hb _ (by rw[List.length_append];omega)).mono ?_)
  rintro e T' ⟨rfl,z2,h2,s2⟩
  show bin _ _ _ _ _ _
  rw[bin_shr7]
  refine hKE _ _ ⟨k / 128,pre ++ [UInt8.ofNat (128+k % 128)],z2,rfl,by omega,by simp;omega,?_,by rw[←List.append_assoc];exact h2,hs.trans s2⟩ (by simp[intA];omega)
  rw[←hpre]
  conv=>rhs;rw[deltaT,dif_neg (by omega)]
  simp
 ·have hlt:k<128:=by have:=dF hlt;omega
  rw[nilChk_p,shift_p,shift_p,convI_v,wrap_u8]
  have e2:((k % 256:Nat):Int)=(((UInt8.ofNat k).toNat:Nat):Int):=by rw[byte_of (by omega)];omega
  rw[e2]
  refine .inl ((wrote99 hf hb _ (by rw[List.length_append];omega)).mono ?_)
  rintro e T' ⟨rfl,z2,h2,s2⟩
  refine⟨rfl,z2,?_,hs.trans s2⟩
  rw[←hpre,deltaT,dif_pos hlt,←List.append_assoc]
  exact h2
end
theorem latsBT_app(first:Int):∀(a b:List (Int × Int)) (i:Nat),latsBT first i (a++b)=latsBT first i a++latsBT first (i+a.length) b
 |[],b,i=>rfl
 |p :: a,b,i=>by
  rw[List.cons_append,latsBT,latsBT,latsBT_app first a b (i+1),List.append_assoc,List.length_cons]
  have e:i+1+a.length=i+(a.length+1):=by omega
  rw[e]
theorem latsBT_take{first:Int}{l:List (Int × Int)}{i:Nat}(h:i<l.length):latsBT first 0 (l.take (i+1))=latsBT first 0 (l.take i)++ln (latN (first+2*(i:Int)) l[i]):=by
 rw[List.take_add_one,List.getElem?_eq_getElem h,latsBT_app]
 have e:0+(l.take i).length=i:=by rw[List.length_take];omega
 rw[e]
 simp[latsBT]
theorem andsBT_app(first:Int):∀(a b:List (Int × Int)) (i:Nat),andsBT first i (a++b)=andsBT first i a++andsBT first (i+a.length) b
 |[],b,i=>rfl
 |p :: a,b,i=>by
  rw[List.cons_append,andsBT,andsBT,andsBT_app first a b (i+1),List.append_assoc,List.append_assoc,List.length_cons]
  have e:i+1+a.length=i+(a.length+1):=by omega
  rw[e]
theorem andsBT_take{first:Int}{l:List (Int × Int)}{i:Nat}(h:i<l.length):andsBT first 0 (l.take (i+1))=andsBT first 0 (l.take i)++(deltaT (first+2*(i:Int) - l[i].1).toNat++deltaT (l[i].1 - l[i].2).toNat):=by
 rw[List.take_add_one,List.getElem?_eq_getElem h,andsBT_app]
 have e:0+(l.take i).length=i:=by rw[List.length_take];omega
 rw[e]
 simp[andsBT]
theorem stairs_take{first:Int}{l:List (Int × Int)}(h:stairs first l)(i:Nat):stairs first (l.take i):=fun k hk=>by
 rw[List.length_take]at hk
 rw[List.getElem_take]
 exact h k (by omega)
theorem ans29{c:Ci}(hok:c.ok)(hnl:c.names.length≤1000000):Ans Pg 29 [c.av] (if c.right=true then .t [aT c.binT,aI 0]else .t [aT [],aI 1]):=by
 intro S
 refine ACalls.tree ((calls29 (Q:=fun r S'=>(r = .ret (if c.right=true then .t [aT c.binT,aI 0]else .t [aT [],aI 1]))∧Keep S S') ?_).mono ?_)
 case refine_2 =>
  rintro r S' ⟨rfl,hk⟩
  refine⟨_,rfl,hk,?_⟩
  split
  ·exact .t _ _ rfl (cvT2 (.v _) (.v _))
  ·exact .t _ _ rfl (cvT2 (.v _) (.v _))
 unfold m29
 refine boxA_of rfl fun S1 k1 n1 o1=>?_
 rw[ldN_p (n:=8) o1 rfl]
 refine callF_ans (ans33 hok) ?_
 rw[un_not,onB_v]
 refine gd_of (fun hr=>?_) (fun hr=>?_)
 ·have hr:¬ c.right=true:=by simpa using hr
  rw[if_neg hr]
  exact⟨rfl,k1⟩
 have hr:c.right=true:=by simpa using hr
 rw[if_pos hr]
 have hc:=nums_of hr
 have hi:=hc.inp
 have hsum:=hc.sum
 refine⟨[.v (.pointer none),.nl],rfl,?_⟩
 refine boxA_of rfl fun S2 k2 n2 o2=>?_
 have hobj:∀{T:Store} {bs:Bs},Pr 93 S1 T bs→T.obj S.n=some (.cells 29 [c.cells] true):=fun{T bs} h=>(h.obj (by omega)).trans o1
 have hpr:Pr 93 S1 S2 []:=⟨.nl,⟨⟨_,o2,.inl rfl⟩,Nat.lt_succ_self _,by omega,.nl _ _ _⟩,k2⟩
 have late:∀{T:Store} {bs:Bs} {P:AV→AV→Prop},Pr 93 S1 T bs→P (.p S1.n 0 0) c.av→∃ q1,(∀ U,Keep T U→nilChk (.p S1.n 0 0) U fun v S=>v=q1∧S=U)∧∃ q2,(∀ U,Keep T U→shift q1 0 U fun v S=>v=q2∧S=U)∧∃ q3,(∀ U,Keep T U→ldN 8 (.p S.n 0 0) U fun v S=>v=q3∧S=U)∧P q2 q3:=fun{T bs P} hp k=>by
  refine⟨_,fun U hU=>by rw[nilChk_p];exact⟨rfl,rfl⟩,?_⟩
  refine L_shift ?_
  have hT:=hobj hp
  obtain⟨z,hb,hk⟩:=hp
  have hTn:S.n<T.n:=by have:=hk.1;omega
  exact L_ldN hT hTn rfl k
 refine late hpr ?_
 refine hpr.call (fun z hb=>wrote34 fit_bp hb hc (word:=[97,105,103]) (by decide) (by simp)) fun S3 h3=>?_
 have hh:=head_len hc [97,105,103]
 simp only[List.length_cons,List.length_nil]at hh
 rw[List.nil_append]at h3
 rw[shift_p,ld1_p (u:=pL c.latches) (hobj h3) rfl rfl,lenS_pL]
 have hf2:(2:Int)≤2*(c.inputs+1):=by omega
 have hlat:∀ i,(latsBT (2*(c.inputs+1)) 0 (c.latches.take i)).length≤22*2000:=fun i=>by
  have h1:=latsB_le (first:=2*(c.inputs+1)) (c.latches.take i) 0
  have h2:=lats_len hf2 (c.latches.take i) 0 (by rw[List.length_take];omega) (fun p hp'=>hc.lats p (List.mem_of_mem_take hp'))
  rw[List.length_take]at h2
  omega
 generalize hB1:c.headB [97,105,103]=B1 at h3
 have hB1l:B1.length≤100000:=by rw[←hB1];omega
 refine loop29_0 (fun y T=>∃ i:Nat,y=aI i∧i≤c.latches.length∧Pr 93 S1 T (B1++latsBT (2*(c.inputs+1)) 0 (c.latches.take i))) (fun y _=>c.latches.length - ((intA y).getD 0).toNat) ⟨0,rfl,Nat.zero_le _,by simpa[latsBT]using h3⟩ ?_
 rintro _ T ⟨i,rfl,hile,hp⟩ KE hKE
 unfold b29_0
 rw[bin_lss,onB_v]
 refine gd_of (fun hlt=>?_) (fun hge=>?_)
 ·have hlt:i<c.latches.length:=by have:=dT hlt;omega
  have hll:=hlat i
  refine late hp ?_
  obtain⟨z,hb,hk⟩:=hp
  refine .inl ((wrote37 fit_bp hb hc hlt (m:=0) (x:=.nl) (xs:=[]) (.nl _ _ _) ⟨by simp,fun y h=>by cases h⟩ (fun b k e=>by cases e) (fun j b k b' k' e=>by cases e) (Nat.zero_le _) (by rw[List.length_append];omega)).mono ?_)
  rintro e T' ⟨rfl,z',hb',hs⟩
  show bin _ _ _ _ _ _
  rw[bin_add (by omega) (by omega)]
  refine hKE _ _ ⟨i+1,rfl,hlt,z',?_,⟨Nat.le_trans hk.1 hs.n,fun j hj=>?_⟩⟩ (by simp[intA];omega)
  ·rw[latsBT_take hlt,←List.append_assoc]
   simpa using hb'
  ·rw[hs.old j (by have:=hk.1;omega) (by omega) (fun b m e=>by have:=(hb.own.lt e).1;omega) (fun b m e=>by cases e),hk.2 j hj]
 have hge:i=c.latches.length:=by have:=dF hge;omega
 subst hge
 have hll:=hlat c.latches.length
 rw[List.take_length]at hp hll
 generalize hB2:B1++latsBT (2*(c.inputs+1)) 0 c.latches=B2 at hp
 have hB2l:B2.length≤1000000:=by rw[←hB2,List.length_append];omega
 refine late hp ?_
 refine hp.call (fun z hb=>wrote39 fit_bp hb hc (by omega)) fun T' hp=>?_
 have hcl:=colsTo_len hc 4
 rw[colsTo_4]at hcl
 generalize hB3:B2++c.colsT=B3 at hp
 have hB3l:B3.length≤2000000:=by rw[←hB3,List.length_append];omega
 rw[shift_p,ld1_p (u:=aI c.inputs) (hobj hp) rfl rfl,shift_p,ld1_p (u:=pL c.latches) (hobj hp) rfl rfl,lenS_pL,bin_add (by omega) (by omega),bin_mul (by omega) (by omega),shift_p,ld1_p (u:=pL c.ands) (hobj hp) rfl rfl,lenS_pL]
 have hst:=stairs_of hr
 have hand:∀ i,(andsBT (2*(c.inputs+c.latches.length+1)) 0 (c.ands.take i)).length≤8000:=fun i=>by
  have h1:=(andsB_le (c.ands.take i) 0 (first:=2*(c.inputs+c.latches.length+1)) (by omega) (by rw[List.length_take];omega) (by simpa using stairs_take hst i)).1
  rw[List.length_take]at h1
  omega
 have e0:2*(c.inputs+(c.latches.length:Int))=2*(c.inputs+c.latches.length+1)+2*((0:Nat):Int) - 2:=by omega
 rw[e0]
 generalize hfst:2*(c.inputs+(c.latches.length:Int)+1)=first at hst hand
 have hfr:0≤first∧first≤4002:=by omega
 refine loop29_1 (fun x y T=>∃ i:Nat,y=aI i∧x=aI (first+2*(i:Int) - 2)∧i≤c.ands.length∧Pr 93 S1 T (B3++andsBT first 0 (c.ands.take i))) (fun _ y _=>c.ands.length - ((intA y).getD 0).toNat) ⟨0,rfl,rfl,Nat.zero_le _,by simpa[andsBT]using hp⟩ ?_
 rintro _ _ T ⟨i,rfl,rfl,hile,hp⟩ KE hKE
 unfold b29_1
 rw[bin_lss,onB_v]
 refine gd_of (fun hlt=>?_) (fun hge=>?_)
 ·have hlt:i<c.ands.length:=by have:=dT hlt;omega
  have ha:=hst i hlt
  have hal:=hand i
  rw[ixS_pL hlt,ldN_q2]
  refine boxA_of rfl fun T1 e1 n1' p1=>?_
  refine stA_of (cs':=[aI c.ands[i].1,aI c.ands[i].2]) p1 rfl rfl fun T2 n2' p2 f2=>?_
  have kT:Keep T T2:=e1.st (Nat.le_refl _) n2' f2
  have hp2:=hp.keep kT
  have hTS:S1.n+1≤T.n:=by obtain⟨z,hb,hk⟩:=hp;exact hb.le
  rw[bin_add (by omega) (by omega)]
  refine W (ixA_p (n:=2) (z:=0) (by decide)) ?_
  rw[ld1_p (u:=aI c.ands[i].1) p2 rfl rfl,bin_sub (by omega) (by omega)]
  have e4:first+2*(i:Int) - 2+2=first+2*(i:Int):=by omega
  rw[e4]
  have e5:first+2*(i:Int) - c.ands[i].1=(((first+2*(i:Int) - c.ands[i].1).toNat:Nat):Int):=by omega
  rw[e5]
  have hd1:=deltaT_len (n:=(first+2*(i:Int) - c.ands[i].1).toNat) (by omega)
  have hd2:=deltaT_len (n:=(c.ands[i].1 - c.ands[i].2).toNat) (by omega)
  obtain⟨z2,hb2,hk2⟩:=hp2
  have hzT:∀ b m,z2≠.s T.n b m:=fun b m e=>by
   rcases hb2.own with⟨e',_⟩|⟨j,e',_,_,ho⟩
   ·rw[e']at e;cases e
   ·rw[e']at e
    cases e
    rw[p2]at ho
    injection ho with ho
    injection ho with ho
    cases ho
  refine .inl ((wrote64 fit_bp hb2 _ (by omega) (by rw[List.length_append];omega)).mono ?_)
  rintro e T3 ⟨rfl,z3,hb3,s3⟩
  have p3:=(s3.old T.n (by omega) (by omega) hzT).trans p2
  show ixA _ _ _ _ _ _
  refine W (ixA_p (n:=2) (z:=0) (by decide)) ?_
  rw[ld1_p (u:=aI c.ands[i].1) p3 rfl rfl]
  refine W (ixA_p (n:=2) (z:=1) (by decide)) ?_
  rw[ld1_p (u:=aI c.ands[i].2) p3 rfl rfl,bin_sub (by omega) (by omega)]
  have e6:c.ands[i].1 - c.ands[i].2=(((c.ands[i].1 - c.ands[i].2).toNat:Nat):Int):=by omega
  rw[e6]
  have hp3:=Pr.step hb2 hk2 hb3 s3
  refine hp3.call (fun z hb=>wrote64 fit_bp hb _ (by omega) (by simp only[List.length_append];omega)) fun T' hp'=>?_
  rw[bin_add (by omega) (by omega)]
  have e7:first+2*((i+1:Nat):Int) - 2=first+2*(i:Int):=by omega
  refine hKE _ _ _ ⟨i+1,rfl,by rw[e7],hlt,?_⟩ (by simp[intA];omega)
  rw[andsBT_take hlt]
  simpa using hp'
 have hge:i=c.ands.length:=by have:=dF hge;omega
 subst hge
 have hal:=hand c.ands.length
 rw[List.take_length]at hp hal
 generalize hB4:B3++andsBT first 0 c.ands=B4 at hp
 have hB4l:B4.length≤3000000:=by rw[←hB4,List.length_append];omega
 refine late hp ?_
 refine hp.call (fun z hb=>wrote40 fit_bp hb hc hnl (by omega)) fun T' hp=>?_
 have hnm:=names_len c.names hc.names
 have hall:B4++namesT c.names=c.binT:=by
  rw[←hB4,←hB3,←hB2,←hB1,←hfst,Ci.binT];simp
 obtain⟨z,hb,hk⟩:=hp
 rw[nilChk_p,shift_p,shift_p]
 refine .inl ((wrote41 hb (by rw[hall,Ci.binT,Ci.headB];simp) (by rw[List.length_append];omega)).mono ?_)
 rintro e T2 ⟨rfl,hn2,ho2⟩
 rw[hall]
 exact⟨rfl,⟨by have:=hk.1;omega,fun j hj=>by rw[ho2 j (by omega),hk.2 j (by omega),k1.2 j hj]⟩⟩
set_option maxRecDepth 100000 in
theorem deltaN:∀(k m:Nat),m<k→m≤1000000→Ans Pg 65 [aI m] (aT (deltaT m))
 |0,m,h,_=>by omega
 |k+1,m,h,hm=>fun S=>by
  refine calls65 ?_
  unfold m65
  rw[bin_lss,onB_v]
  refine gd_of (fun h1=>?_) (fun h1=>?_)
  ·have h1:m<128:=by have:(m:Int)<128:=dT h1
                     omega
   rw[convI_v,wrap_u8]
   have e2:((m % 256:Nat):Int)=(((UInt8.ofNat m).toNat:Nat):Int):=by rw[byte_of (by omega)];omega
   rw[e2]
   refine bsl1 rfl (fun _ h=>by cases h) ?_
   show convBS (.l ([UInt8.ofNat m].map byteR)) _ _
   rw[convBS_l,deltaT,dif_pos h1]
   exact⟨rfl,rfl⟩
  ·have h1:¬ m<128:=by have:¬ (m:Int)<128:=dF h1
                       omega
   have e1:(m:Int).tmod 128=((m % 128:Nat):Int):=by rw[Int.tmod_eq_emod_of_nonneg (by omega)];omega
   have e2:(m:Int).tdiv 128=((m / 128:Nat):Int):=by rw[Int.tdiv_eq_ediv_of_nonneg (by omega)];omega
   have e3:(128+((m % 128:Nat):Int))=((128+m % 128:Nat):Int):=by omega
   have e4:(128+m % 128) % 256=128+m % 128:=by omega
   refine⟨aI ((m % 128:Nat)),by rw[bin_rem (by decide),e1];exact⟨rfl,rfl⟩,?_⟩
   refine⟨aI ((128+m % 128:Nat)),by rw[bin_add (by omega) (by omega),e3];exact⟨rfl,rfl⟩,?_⟩
   refine⟨.v (.int .u8 (((UInt8.ofNat (128+m % 128)).toNat:Nat):Int)),by rw[convI_v,wrap_u8,e4,byte_of (by omega)];exact⟨rfl,rfl⟩,?_⟩
   refine⟨.l ([UInt8.ofNat (128+m % 128)].map byteR),bsl1 rfl (fun _ h=>by cases h) ⟨rfl,rfl⟩,?_⟩
   refine⟨_,by rw[convBS_l];exact⟨rfl,rfl⟩,?_⟩
   refine⟨aI ((m / 128:Nat)),by rw[bin_quo (by decide) (by omega) (by omega),e2];exact⟨rfl,rfl⟩,?_⟩
   refine J_callA (deltaN k (m / 128) (by omega) (by omega)) ?_
   have hl:∀(j m:Nat),m≤j→(deltaT m).length≤m+1:=fun j=>by
    induction j with
    |zero=>intro m hm;obtain rfl:m=0:=by omega
           rw[deltaT];simp
    |succ j ih =>
     intro m hm
     rw[deltaT]
     split
     ·simp
     ·have:=ih (m / 128) (by omega)
      simp;omega
   have hl:=hl _ (m / 128) (Nat.le_refl _)
   refine W (J_addT (by simp only[List.length_cons,List.length_nil];omega)) ?_
   have ed:deltaT m=UInt8.ofNat (128+m % 128) :: deltaT (m / 128):=by
    conv=>lhs;rw[deltaT,dif_neg h1]
   rw[ed]
   exact⟨rfl,rfl⟩
theorem ans65{n:Int}(h:0≤n∧n≤1000000):Ans Pg 65 [aI n] (aT (deltaT n.toNat)):=by
 have e:n=((n.toNat:Nat):Int):=by omega
 have:=deltaN _ n.toNat (Nat.lt_succ_self _) (by omega)
 rw[←e]at this
 exact this
theorem ans30{c:Ci}(hok:c.ok)(hnl:c.names.length≤1000000):Ans Pg 30 [c.av] (if c.right=true then .t [aT c.binT,aI 0]else .t [aT [],aI 1]):=by
 intro S
 refine ACalls.tree ((calls30 (Q:=fun r S'=>(r = .ret (if c.right=true then .t [aT c.binT,aI 0]else .t [aT [],aI 1]))∧Keep S S') ?_).mono ?_)
 case refine_2 =>
  rintro r S' ⟨rfl,hk⟩
  refine⟨_,rfl,hk,?_⟩
  split
  ·exact .t _ _ rfl (cvT2 (.v _) (.v _))
  ·exact .t _ _ rfl (cvT2 (.v _) (.v _))
 unfold m30
 refine boxA_of rfl fun S1 k1 n1 o1=>?_
 rw[ldN_p (n:=8) o1 rfl]
 refine callF_ans (ans42 hok) ?_
 rw[un_not,onB_v]
 refine gd_of (fun hr=>?_) (fun hr=>?_)
 ·have hr:¬ c.right=true:=by simpa using hr
  rw[if_neg hr]
  exact⟨rfl,k1⟩
 have hr:c.right=true:=by simpa using hr
 rw[if_pos hr]
 have hc:=nums_of hr
 have hi:=hc.inp
 have hsum:=hc.sum
 rw[ldN_p (n:=8) o1 rfl]
 refine callF_ans (ans43 hc) ?_
 have hh:=head_len hc [97,105,103]
 simp only[List.length_cons,List.length_nil]at hh
 have hhb:[97,105,103]++32 :: ln c.headT=c.headB [97,105,103]:=rfl
 have hlh:(32 :: ln c.headT).length≤100:=by
  have:=congrArg List.length hhb
  rw[List.length_append]at this
  omega
 refine W (bin_addT (a:=[97,105,103]) (by simp only[List.length_cons,List.length_nil]at hlh ⊢;omega)) ?_
 rw[hhb]
 have hf2:(2:Int)≤2*(c.inputs+1):=by omega
 have hlat:∀ i,(latsBT (2*(c.inputs+1)) 0 (c.latches.take i)).length≤22*2000:=fun i=>by
  have h1:=latsB_le (first:=2*(c.inputs+1)) (c.latches.take i) 0
  have h2:=lats_len hf2 (c.latches.take i) 0 (by rw[List.length_take];omega) (fun p hp'=>hc.lats p (List.mem_of_mem_take hp'))
  rw[List.length_take]at h2
  omega
 generalize hB1:c.headB [97,105,103]=B1
 have hB1l:B1.length≤100000:=by rw[←hB1];omega
 refine loop30_0 (fun y z T=>∃ i:Nat,z=aI i∧i≤c.latches.length∧y=aT (B1++latsBT (2*(c.inputs+1)) 0 (c.latches.take i))∧S1=T) (fun _ z _=>c.latches.length - ((intA z).getD 0).toNat) ⟨0,rfl,Nat.zero_le _,by simp[latsBT],rfl⟩ ?_
 rintro _ _ _ ⟨i,rfl,hile,rfl,rfl⟩ KE hKE
 unfold b30_0
 rw[shift_p,ld1_p (u:=pL c.latches) o1 rfl rfl,lenS_pL,bin_lss,onB_v]
 have hll:=hlat i
 refine gd_of (fun hlt=>?_) (fun hge=>?_)
 ·have hlt:i<c.latches.length:=by have:=dT hlt;omega
  rw[ldN_p (n:=8) o1 rfl]
  refine callF_ans (ans44 hc hlt) ?_
  have hll2:=hlat (i+1)
  rw[latsBT_take hlt,List.length_append]at hll2
  rw[bin_addT (by simp only[List.length_append];omega),bin_add (by omega) (by omega)]
  refine hKE _ _ _ ⟨i+1,rfl,hlt,?_,rfl⟩ (by simp[intA];omega)
  rw[latsBT_take hlt,List.append_assoc]
 have hge:i=c.latches.length:=by have:=dF hge;omega
 subst hge
 rw[List.take_length]at hll ⊢
 generalize hB2:B1++latsBT (2*(c.inputs+1)) 0 c.latches=B2
 have hB2l:B2.length≤1000000:=by rw[←hB2,List.length_append];omega
 have hcl:=colsTo_len hc 4
 rw[colsTo_4]at hcl
 have hcl2:(colT c.outs).length+(colT c.bads).length+(colT c.cons).length+(colT c.fair).length≤176000:=by
  simp only[Ci.colsT,List.length_append]at hcl
  omega
 refine W J_shift (W (J_ldp (u:=aL aI c.outs) o1 rfl rfl) (J_callA (ans45 hc.outs.1 hc.outs.2) (W (J_addT (by omega)) ?_)))
 refine W J_shift (W (J_ldp (u:=aL aI c.bads) o1 rfl rfl) (J_callA (ans45 hc.bads.1 hc.bads.2) (W (J_addT (by simp only[List.length_append];omega)) ?_)))
 refine W J_shift (W (J_ldp (u:=aL aI c.cons) o1 rfl rfl) (J_callA (ans45 hc.cons.1 hc.cons.2) (W (J_addT (by simp only[List.length_append];omega)) ?_)))
 refine W J_shift (W (J_ldp (u:=aL aI c.fair) o1 rfl rfl) (J_callA (ans45 hc.fair.1 hc.fair.2) (W (J_addT (by simp only[List.length_append];omega)) ?_)))
 have hcs:B2++colT c.outs++colT c.bads++colT c.cons++colT c.fair=B2++c.colsT:=by simp[Ci.colsT]
 rw[hcs]
 generalize hB3:B2++c.colsT=B3
 have hB3l:B3.length≤2000000:=by rw[←hB3,List.length_append];omega
 have hst:=stairs_of hr
 have hand:∀ i,(andsBT (2*(c.inputs+c.latches.length+1)) 0 (c.ands.take i)).length≤8000:=fun i=>by
  have h1:=(andsB_le (c.ands.take i) 0 (first:=2*(c.inputs+c.latches.length+1)) (by omega) (by rw[List.length_take];omega) (by simpa using stairs_take hst i)).1
  rw[List.length_take]at h1
  omega
 refine loop30_1 (fun y z T=>∃ i:Nat,z=aI i∧i≤c.ands.length∧y=aT (B3++andsBT (2*(c.inputs+c.latches.length+1)) 0 (c.ands.take i))∧S1=T) (fun _ z _=>c.ands.length - ((intA z).getD 0).toNat) ⟨0,rfl,Nat.zero_le _,by simp[andsBT],rfl⟩ ?_
 rintro _ _ _ ⟨i,rfl,hile,rfl,rfl⟩ KE hKE
 unfold b30_1
 rw[shift_p,ld1_p (u:=pL c.ands) o1 rfl rfl,lenS_pL,bin_lss,onB_v]
 have hal:=hand i
 refine gd_of (fun hlt=>?_) (fun hge=>?_)
 ·have hlt:i<c.ands.length:=by have:=dT hlt;omega
  have ha:=hst i hlt
  rw[shift_p,ld1_p (u:=aI c.inputs) o1 rfl rfl,shift_p,ld1_p (u:=pL c.latches) o1 rfl rfl,lenS_pL,bin_add (by omega) (by omega),bin_add (by omega) (by omega),bin_add (by omega) (by omega),bin_mul (by omega) (by omega)]
  have e2:2*(c.inputs+(c.latches.length:Int)+1+(i:Int))=2*(c.inputs+c.latches.length+1)+2*(i:Int):=by omega
  rw[e2]
  have hd1:=deltaT_len (n:=(2*(c.inputs+c.latches.length+1)+2*(i:Int) - c.ands[i].1).toNat) (by omega)
  have hd2:=deltaT_len (n:=(c.ands[i].1 - c.ands[i].2).toNat) (by omega)
  show ∃ q:AV,_
  refine W J_shift (W (J_ldp (u:=pL c.ands) o1 rfl rfl) (W (J_ixp hlt) (W (J_ixA (n:=2) (z:=0) (by decide)) (W (J_ldq (u:=aI c.ands[i].1) rfl) (W (J_sub (by omega) (by omega)) ?_)))))
  refine J_callA (ans65 ⟨by omega,by omega⟩) ?_
  refine W (J_addT (by simp only[List.length_append];omega)) ?_
  refine W J_shift (W (J_ldp (u:=pL c.ands) o1 rfl rfl) (W (J_ixp hlt) (W (J_ixA (n:=2) (z:=0) (by decide)) (W (J_ldq (u:=aI c.ands[i].1) rfl) ?_))))
  refine W J_shift (W (J_ldp (u:=pL c.ands) o1 rfl rfl) (W (J_ixp hlt) (W (J_ixA (n:=2) (z:=1) (by decide)) (W (J_ldq (u:=aI c.ands[i].2) rfl) (W (J_sub (by omega) (by omega)) ?_)))))
  refine J_callA (ans65 ⟨by omega,by omega⟩) ?_
  refine W (J_addT (by simp only[List.length_append];omega)) ?_
  rw[bin_add (by omega) (by omega)]
  refine hKE _ _ _ ⟨i+1,rfl,hlt,?_,rfl⟩ (by simp[intA];omega)
  rw[andsBT_take hlt]
  simp
 have hge:i=c.ands.length:=by have:=dF hge;omega
 subst hge
 rw[List.take_length]at hal ⊢
 generalize hB4:B3++andsBT (2*(c.inputs+c.latches.length+1)) 0 c.ands=B4
 have hB4l:B4.length≤3000000:=by rw[←hB4,List.length_append];omega
 have hnm:=names_len c.names hc.names
 rw[ldN_p (n:=8) o1 rfl]
 refine callF_ans (ans46 hc hnl) ?_
 rw[bin_addT (by omega)]
 have hall:B4++namesT c.names=c.binT:=by
  rw[←hB4,←hB3,←hB2,←hB1,Ci.binT];simp
 rw[hall]
 exact⟨rfl,k1⟩
section
set_option maxRecDepth 100000
def c98:Code:=(Tryz.f98.body).getD .skip
def r98:List ResultVar:=Tryz.f98.results.toList
def env98_0(y0 y3 y4 y5:AV):List AV:=[y0,y3,y4,y5]
def lv98_0:List Nat:=[0,3,4,5]
def ms98:List (List Nat):=[lv98_0,[]]
def m98(x0:AV)(S:Store)(Q:PoT):Prop:=
 loopV lv98_0 (vc Pg (c98.at_ [1,1,0,1,0,0]) (ms98.drop 1)) 54 (env98_0 x0 (.v (.int .i64 0)) (.v (.int .i64 1)) (.v (.int .i64 0))) S (blockK 0 (seqK (vc Pg (c98.at_ [1,1,1]) (ms98.drop 1)) (bodyK Pg r98 Q)))
theorem calls98{x0:AV}{S:Store}{Q:PoT}(h:m98 x0 S Q):ACalls Pg 98 [x0] S Q:=
 calls_of_vc (fn:=Tryz.f98) (c:=c98) (n:=54) Tryz.func98 (by kernel_rfl) (by kernel_rfl) (by kernel_rfl) ms98 (Eq.mpr (by kernel_rfl) h)
def b98_0(y0 y3 y4 y5:AV)(S:Store)(KE0:KeT)(Q:PoT):Prop:=
 bin .lss 0 y5 (.v (.int .i64 3)) S fun a S=>onB a fun b=>gd b (nilChk y0 S fun c S=>shift c 0 S fun d S=>ld1 d S fun e S=>lenStr e S fun f S=>bin .lss 0 y5 f S fun g S=>onB g fun b=>gd b (nilChk y0 S fun h S=>shift h 0 S fun i S=>ld1 i S fun k S=>ixStr k y5 S fun l S=>convI .i64 l S fun m S=>bin .rem 0 m (.v (.int .i64 128)) S fun n S=>bin .mul 0 n y4 S fun o S=>bin .add 0 y3 o S fun p S=>bin .mul 0 y4 (.v (.int .i64 128)) S fun q S=>bin .lss 0 m (.v (.int .i64 128)) S fun r S=>onB r fun b=>gd b (nilChk y0 S fun s S=>shift s 0 S fun t S=>ld1 t S fun u S=>bin .add 0 y5 (.v (.int .i64 1)) S fun w S=>(none:Option AV)=none∧slcStr u (some w) none S fun x S=>nilChk y0 S fun y S=>shift y 0 S fun z S=>stN 1 z x S fun A S=>bin .gtr 0 y5 (.v (.int .i64 0)) S fun B S=>onB B fun b=>gd b (bin .eql 0 m (.v (.int .i64 0)) S fun C S=>onB C fun b=>gd b (Q (.ret (.v (.int .i64 (-1)))) S) (Q (.ret p) S)) (Q (.ret p) S)) (bin .add 0 y5 (.v (.int .i64 1)) S fun D S=>KE0 54 (env98_0 y0 p q D) S)) (Q (.ret (.v (.int .i64 (-1)))) S)) (Q (.ret (.v (.int .i64 (-1)))) S)
theorem b98_0_eq(y0 y3 y4 y5:AV)(S:Store)(KE0:KeT)(Q:PoT):vc Pg (c98.at_ [1,1,0,1,0,0]) (ms98.drop 1) (mkE 54 lv98_0 (env98_0 y0 y3 y4 y5)) S (thenK (fgK lv98_0 KE0) (blockK 0 (seqK (vc Pg (c98.at_ [1,1,1]) (ms98.drop 1)) (bodyK Pg r98 Q))))=b98_0 y0 y3 y4 y5 S KE0 Q:=by kernel_rfl
theorem loop98_0{y0:AV}{y30 y40 y50:AV}{S:Store}{Q:PoT}(I:AV→AV→AV→Store→Prop)(μ:AV→AV→AV→Store→Nat)(h0:I y30 y40 y50 S)
    (hr:∀(y3 y4 y5:AV) (S:Store),I y3 y4 y5 S→∀ KE0:KeT,(∀(y3' y4' y5':AV) (S':Store),I y3' y4' y5' S'→μ y3' y4' y5' S'<μ y3 y4 y5 S→KE0 54 (env98_0 y0 y3' y4' y5') S')→b98_0 y0 y3 y4 y5 S KE0 Q):
    loopV lv98_0 (vc Pg (c98.at_ [1,1,0,1,0,0]) (ms98.drop 1)) 54 (env98_0 y0 y30 y40 y50) S (blockK 0 (seqK (vc Pg (c98.at_ [1,1,1]) (ms98.drop 1)) (bodyK Pg r98 Q))):=by
 refine⟨fun n e S=>n=54∧∃ y3 y4 y5:AV,e=(env98_0 y0 y3 y4 y5)∧I y3 y4 y5 S,fun _ e S=>μ (e.getD 1 .j) (e.getD 2 .j) (e.getD 3 .j) S,?_,?_⟩
 ·exact⟨_,_,Wk.refl _ _,rfl,_,_,_,rfl,h0⟩
 ·rintro _ e S ⟨rfl,y3,y4,y5,rfl,hI⟩
  exact(b98_0_eq _ _ _ _ _ _ _).mpr (hr y3 y4 y5 S hI _ (fun y3' y4' y5' S' hI' hm=>⟨_,_,Wk.refl _ _,⟨rfl,_,_,_,rfl,hI'⟩,hm⟩))
def c63:Code:=(Tryz.f63.body).getD .skip
def r63:List ResultVar:=Tryz.f63.results.toList
def env63_0(y2 y4 y5:AV):List AV:=[y2,y4,y5]
def lv63_0:List Nat:=[2,4,5]
def env63_1(y2 y4 y7:AV):List AV:=[y2,y4,y7]
def lv63_1:List Nat:=[2,4,7]
def ms63:List (List Nat):=[lv63_0,lv63_1,[69,68,70,71,72,98]]
def m63(x0:AV)(S:Store)(Q:PoT):Prop:=
 boxN 29 8 (.a [.v (.int .i64 0),.nl,.nl,.nl,.nl,.nl,.nl,.nl]) S fun c S=>lenStr x0 S fun d S=>bin .gtr 0 d (.v (.int .i64 20000)) S fun e S=>onB e fun b=>gd b (bld [(0,1),(1,1),(2,1),(3,1),(4,1),(5,1),(6,1),(7,1)] [.v (.int .i64 0),.nl,.nl,.nl,.nl,.nl,.nl,.nl] [] S fun f S=>stN 8 c f S fun g S=>ldN 8 c S fun h _=>Q (.ret (.t [h,.v (.int .i64 2)])) S) (bld [(0,1),(1,1),(2,1),(3,8)] [.v (.string ByteArray.empty),.v (.bool false),.nl,.v (.int .i64 0),.nl,.nl,.nl,.nl,.nl,.nl,.nl] [(0,x0)] S fun i S=>boxN 100 11 i S fun k S=>callF Pg 68 [k,(.v (.string { data:=#[97,105,103] }))] S Q fun l S=>un .not l S fun m S=>onB m fun b=>gd b (bld [(0,1),(1,1),(2,1),(3,1),(4,1),(5,1),(6,1),(7,1)] [.v (.int .i64 0),.nl,.nl,.nl,.nl,.nl,.nl,.nl] [] S fun n S=>stN 8 c n S fun o S=>ldN 8 c S fun p _=>Q (.ret (.t [p,.v (.int .i64 20)])) S) (loopV lv63_0 (vc Pg (c63.at_ [1,1,1,1,0,1,0,0]) (ms63.drop 1)) 134 (env63_0 c k (.v (.int .i64 0))) S (blockK 0 (seqK (vc Pg (c63.at_ [1,1,1,1,1]) (ms63.drop 1)) (bodyK Pg r63 Q)))))
theorem calls63{x0:AV}{S:Store}{Q:PoT}(h:m63 x0 S Q):ACalls Pg 63 [x0] S Q:=
 calls_of_vc (fn:=Tryz.f63) (c:=c63) (n:=134) Tryz.func63 (by kernel_rfl) (by kernel_rfl) (by kernel_rfl) ms63 (Eq.mpr (by kernel_rfl) h)
def b63_0(y2 y4 y5:AV)(S:Store)(KE0:KeT)(Q:PoT):Prop:=
 nilChk y4 S fun a S=>shift a 2 S fun c S=>ld1 c S fun d S=>ixS 3 1 d (.v (.int .i64 2)) S fun e S=>ld1 e S fun f S=>bin .lss 0 y5 f S fun g S=>onB g fun b=>gd b (nilChk y4 S fun h S=>shift h 1 S fun i S=>ld1 i S fun k S=>un .not k S fun l S=>onB l fun b=>gd b (callF Pg 69 [y4,.v (.int .i64 1),.v (.int .i64 2)] S Q fun m S=>∃ n:AV,(∀ T:Store,Keep S T→nilChk y4 T fun o S=>o=n∧S=T)∧∃ p:AV,(∀ T:Store,Keep S T→shift n 2 T fun q S=>q=p∧S=T)∧∃ r:AV,(∀ T:Store,Keep S T→ld1 p T fun s S=>s=r∧S=T)∧∃ t:AV,(∀ T:Store,Keep S T→ixS 3 1 r (.v (.int .i64 1)) T fun u S=>u=t∧S=T)∧∃ w:AV,(∀ T:Store,Keep S T→ld1 t T fun x S=>x=w∧S=T)∧∃ y:AV,(∀ T:Store,Keep S T→bin .add 0 w y5 T fun z S=>z=y∧S=T)∧∃ A:AV,(∀ T:Store,Keep S T→bin .add 0 y (.v (.int .i64 1)) T fun B S=>B=A∧S=T)∧∃ C:AV,(∀ T:Store,Keep S T→bin .mul 0 (.v (.int .i64 2)) A T fun D S=>D=C∧S=T)∧∃ E:AV,(∀ T:Store,Keep S T→ixS 3 1 m (.v (.int .i64 0)) T fun F S=>F=E∧S=T)∧∃ G:AV,(∀ T:Store,Keep S T→ld1 E T fun H S=>H=G∧S=T)∧∃ I:AV,(∀ T:Store,Keep S T→ixS 3 1 m (.v (.int .i64 1)) T fun J S=>J=I∧S=T)∧∃ K:AV,(∀ T:Store,Keep S T→ld1 I T fun L S=>L=K∧S=T)∧callF Pg 70 [y4,C,G,K] S Q fun M S=>bin .add 0 y5 (.v (.int .i64 1)) S fun N S=>KE0 134 (env63_0 y2 y4 N) S) (callF Pg 71 [y4] S Q fun O S=>loopV lv63_1 (vc Pg (c63.at_ [1,1,1,1,1,1,0,1,0,0]) (ms63.drop 2)) 134 (env63_1 y2 y4 (.v (.int .i64 0))) S (blockK 2 (seqK (vc Pg (c63.at_ [1,1,1,1,1,1,1]) (ms63.drop 2)) (bodyK Pg r63 Q))))) (callF Pg 71 [y4] S Q fun P S=>loopV lv63_1 (vc Pg (c63.at_ [1,1,1,1,1,1,0,1,0,0]) (ms63.drop 2)) 134 (env63_1 y2 y4 (.v (.int .i64 0))) S (blockK 2 (seqK (vc Pg (c63.at_ [1,1,1,1,1,1,1]) (ms63.drop 2)) (bodyK Pg r63 Q))))
theorem b63_0_eq(y2 y4 y5:AV)(S:Store)(KE0:KeT)(Q:PoT):vc Pg (c63.at_ [1,1,1,1,0,1,0,0]) (ms63.drop 1) (mkE 134 lv63_0 (env63_0 y2 y4 y5)) S (thenK (fgK lv63_0 KE0) (blockK 0 (seqK (vc Pg (c63.at_ [1,1,1,1,1]) (ms63.drop 1)) (bodyK Pg r63 Q))))=b63_0 y2 y4 y5 S KE0 Q:=by kernel_rfl
theorem loop63_0{y2 y4:AV}{y50:AV}{S:Store}{Q:PoT}(I:AV→Store→Prop)(μ:AV→Store→Nat)(h0:I y50 S)
    (hr:∀(y5:AV) (S:Store),I y5 S→∀ KE0:KeT,(∀(y5':AV) (S':Store),I y5' S'→μ y5' S'<μ y5 S→KE0 134 (env63_0 y2 y4 y5') S')→b63_0 y2 y4 y5 S KE0 Q):
    loopV lv63_0 (vc Pg (c63.at_ [1,1,1,1,0,1,0,0]) (ms63.drop 1)) 134 (env63_0 y2 y4 y50) S (blockK 0 (seqK (vc Pg (c63.at_ [1,1,1,1,1]) (ms63.drop 1)) (bodyK Pg r63 Q))):=by
 refine⟨fun n e S=>n=134∧∃ y5:AV,e=(env63_0 y2 y4 y5)∧I y5 S,fun _ e S=>μ (e.getD 2 .j) S,?_,?_⟩
 ·exact⟨_,_,Wk.refl _ _,rfl,_,rfl,h0⟩
 ·rintro _ e S ⟨rfl,y5,rfl,hI⟩
  exact(b63_0_eq _ _ _ _ _ _).mpr (hr y5 S hI _ (fun y5' S' hI' hm=>⟨_,_,Wk.refl _ _,⟨rfl,_,rfl,hI'⟩,hm⟩))
def b63_1(y2 y4 y7:AV)(S:Store)(KE1:KeT)(Q:PoT):Prop:=
 nilChk y4 S fun a S=>shift a 2 S fun c S=>ld1 c S fun d S=>ixS 3 1 d (.v (.int .i64 4)) S fun e S=>ld1 e S fun f S=>bin .lss 0 y7 f S fun g S=>onB g fun b=>gd b (nilChk y4 S fun h S=>shift h 1 S fun i S=>ld1 i S fun k S=>un .not k S fun l S=>onB l fun b=>gd b (callF Pg 98 [y4] S Q fun m S=>callF Pg 98 [y4] S Q fun n S=>bin .lss 0 m (.v (.int .i64 0)) S fun o S=>onB o fun b=>gd b (nilChk y4 S fun p S=>shift p 1 S fun q S=>stN 1 q (.v (.bool true)) S fun r S=>(fun S0:Store=>∃ s:AV,(nilChk y4 S fun u S=>u=s∧S=S0)∧∃ w:AV,(shift s 2 S fun x S=>x=w∧S=S0)∧∃ y:AV,(ld1 w S fun z S=>z=y∧S=S0)∧∃ A:AV,(ixS 3 1 y (.v (.int .i64 1)) S fun B S=>B=A∧S=S0)∧∃ C:AV,(ld1 A S fun D S=>D=C∧S=S0)∧∃ E:AV,(nilChk y4 S fun F S=>F=E∧S=S0)∧∃ G:AV,(shift E 2 S fun H S=>H=G∧S=S0)∧∃ I:AV,(ld1 G S fun J S=>J=I∧S=S0)∧∃ K:AV,(ixS 3 1 I (.v (.int .i64 2)) S fun L S=>L=K∧S=S0)∧∃ M:AV,(ld1 K S fun N S=>N=M∧S=S0)∧∃ O:AV,(bin .add 0 C M S fun P S=>P=O∧S=S0)∧∃ R:AV,(bin .add 0 O (.v (.int .i64 1)) S fun T S=>T=R∧S=S0)∧∃ U:AV,(bin .add 0 R y7 S fun V S=>V=U∧S=S0)∧∃ W:AV,(bin .mul 0 (.v (.int .i64 2)) U S fun X S=>X=W∧S=S0)∧nilChk y4 S fun Y S=>shift Y 3 S fun Z S=>shift Z 2 S fun a0 S=>ld1 a0 S fun a1 S=>bin .sub 0 W m S fun a2 S=>bin .sub 0 W m S fun a3 S=>bin .sub 0 a3 n S fun a4 S=>bld [(0,1),(1,1)] [.v (.int .i64 0),.v (.int .i64 0)] [(0,a2),(1,a4)] S fun a5 S=>bslN 48 2 1 [.v (.int .i64 0),.v (.int .i64 0)] [(0,a5)] S fun a6 S=>appS 48 2 16 a1 a6 S fun a7 S=>nilChk y4 S fun a8 S=>shift a8 3 S fun a9 S=>shift a9 2 S fun b0 S=>stN 1 b0 a7 S fun b1 S=>bin .add 0 y7 (.v (.int .i64 1)) S fun b2 S=>KE1 134 (env63_1 y2 y4 b2) S) S) (bin .lss 0 n (.v (.int .i64 0)) S fun b3 S=>onB b3 fun b=>gd b (nilChk y4 S fun b4 S=>shift b4 1 S fun b5 S=>stN 1 b5 (.v (.bool true)) S fun b6 S=>(fun S0:Store=>∃ b7:AV,(nilChk y4 S fun b8 S=>b8=b7∧S=S0)∧∃ b9:AV,(shift b7 2 S fun c0 S=>c0=b9∧S=S0)∧∃ c1:AV,(ld1 b9 S fun c2 S=>c2=c1∧S=S0)∧∃ c3:AV,(ixS 3 1 c1 (.v (.int .i64 1)) S fun c4 S=>c4=c3∧S=S0)∧∃ c5:AV,(ld1 c3 S fun c6 S=>c6=c5∧S=S0)∧∃ c7:AV,(nilChk y4 S fun c8 S=>c8=c7∧S=S0)∧∃ c9:AV,(shift c7 2 S fun d0 S=>d0=c9∧S=S0)∧∃ d1:AV,(ld1 c9 S fun d2 S=>d2=d1∧S=S0)∧∃ d3:AV,(ixS 3 1 d1 (.v (.int .i64 2)) S fun d4 S=>d4=d3∧S=S0)∧∃ d5:AV,(ld1 d3 S fun d6 S=>d6=d5∧S=S0)∧∃ d7:AV,(bin .add 0 c5 d5 S fun d8 S=>d8=d7∧S=S0)∧∃ d9:AV,(bin .add 0 d7 (.v (.int .i64 1)) S fun e0 S=>e0=d9∧S=S0)∧∃ e1:AV,(bin .add 0 d9 y7 S fun e2 S=>e2=e1∧S=S0)∧∃ e3:AV,(bin .mul 0 (.v (.int .i64 2)) e1 S fun e4 S=>e4=e3∧S=S0)∧nilChk y4 S fun e5 S=>shift e5 3 S fun e6 S=>shift e6 2 S fun e7 S=>ld1 e7 S fun e8 S=>bin .sub 0 e3 m S fun e9 S=>bin .sub 0 e3 m S fun f0 S=>bin .sub 0 f0 n S fun f1 S=>bld [(0,1),(1,1)] [.v (.int .i64 0),.v (.int .i64 0)] [(0,e9),(1,f1)] S fun f2 S=>bslN 48 2 1 [.v (.int .i64 0),.v (.int .i64 0)] [(0,f2)] S fun f3 S=>appS 48 2 16 e8 f3 S fun f4 S=>nilChk y4 S fun f5 S=>shift f5 3 S fun f6 S=>shift f6 2 S fun f7 S=>stN 1 f7 f4 S fun f8 S=>bin .add 0 y7 (.v (.int .i64 1)) S fun f9 S=>KE1 134 (env63_1 y2 y4 f9) S) S) ((fun S0:Store=>∃ g0:AV,(nilChk y4 S fun g1 S=>g1=g0∧S=S0)∧∃ g2:AV,(shift g0 2 S fun g3 S=>g3=g2∧S=S0)∧∃ g4:AV,(ld1 g2 S fun g5 S=>g5=g4∧S=S0)∧∃ g6:AV,(ixS 3 1 g4 (.v (.int .i64 1)) S fun g7 S=>g7=g6∧S=S0)∧∃ g8:AV,(ld1 g6 S fun g9 S=>g9=g8∧S=S0)∧∃ h0:AV,(nilChk y4 S fun h1 S=>h1=h0∧S=S0)∧∃ h2:AV,(shift h0 2 S fun h3 S=>h3=h2∧S=S0)∧∃ h4:AV,(ld1 h2 S fun h5 S=>h5=h4∧S=S0)∧∃ h6:AV,(ixS 3 1 h4 (.v (.int .i64 2)) S fun h7 S=>h7=h6∧S=S0)∧∃ h8:AV,(ld1 h6 S fun h9 S=>h9=h8∧S=S0)∧∃ i0:AV,(bin .add 0 g8 h8 S fun i1 S=>i1=i0∧S=S0)∧∃ i2:AV,(bin .add 0 i0 (.v (.int .i64 1)) S fun i3 S=>i3=i2∧S=S0)∧∃ i4:AV,(bin .add 0 i2 y7 S fun i5 S=>i5=i4∧S=S0)∧∃ i6:AV,(bin .mul 0 (.v (.int .i64 2)) i4 S fun i7 S=>i7=i6∧S=S0)∧nilChk y4 S fun i8 S=>shift i8 3 S fun i9 S=>shift i9 2 S fun k0 S=>ld1 k0 S fun k1 S=>bin .sub 0 i6 m S fun k2 S=>bin .sub 0 i6 m S fun k3 S=>bin .sub 0 k3 n S fun k4 S=>bld [(0,1),(1,1)] [.v (.int .i64 0),.v (.int .i64 0)] [(0,k2),(1,k4)] S fun k5 S=>bslN 48 2 1 [.v (.int .i64 0),.v (.int .i64 0)] [(0,k5)] S fun k6 S=>appS 48 2 16 k1 k6 S fun k7 S=>nilChk y4 S fun k8 S=>shift k8 3 S fun k9 S=>shift k9 2 S fun l0 S=>stN 1 l0 k7 S fun l1 S=>bin .add 0 y7 (.v (.int .i64 1)) S fun l2 S=>KE1 134 (env63_1 y2 y4 l2) S) S))) (callF Pg 72 [y4] S Q fun l3 S=>callF Pg 73 [y4] S Q fun l4 S=>extr l4 0 S fun l5 S=>extr l4 1 S fun l6 S=>stN 8 y2 l5 S fun l7 S=>ldN 8 y2 S fun l8 _=>Q (.ret (.t [l8,l6])) S)) (callF Pg 72 [y4] S Q fun l9 S=>callF Pg 73 [y4] S Q fun aA S=>extr aA 0 S fun aB S=>extr aA 1 S fun aC S=>stN 8 y2 aB S fun aD S=>ldN 8 y2 S fun aE _=>Q (.ret (.t [aE,aC])) S)
theorem b63_1_eq(y2 y4 y7:AV)(S:Store)(KE1:KeT)(Q:PoT):vc Pg (c63.at_ [1,1,1,1,1,1,0,1,0,0]) (ms63.drop 2) (mkE 134 lv63_1 (env63_1 y2 y4 y7)) S (thenK (fgK lv63_1 KE1) (blockK 2 (seqK (vc Pg (c63.at_ [1,1,1,1,1,1,1]) (ms63.drop 2)) (bodyK Pg r63 Q))))=b63_1 y2 y4 y7 S KE1 Q:=by kernel_rfl
theorem loop63_1{y2 y4:AV}{y70:AV}{S:Store}{Q:PoT}(I:AV→Store→Prop)(μ:AV→Store→Nat)(h0:I y70 S)
    (hr:∀(y7:AV) (S:Store),I y7 S→∀ KE1:KeT,(∀(y7':AV) (S':Store),I y7' S'→μ y7' S'<μ y7 S→KE1 134 (env63_1 y2 y4 y7') S')→b63_1 y2 y4 y7 S KE1 Q):
    loopV lv63_1 (vc Pg (c63.at_ [1,1,1,1,1,1,0,1,0,0]) (ms63.drop 2)) 134 (env63_1 y2 y4 y70) S (blockK 2 (seqK (vc Pg (c63.at_ [1,1,1,1,1,1,1]) (ms63.drop 2)) (bodyK Pg r63 Q))):=by
 refine⟨fun n e S=>n=134∧∃ y7:AV,e=(env63_1 y2 y4 y7)∧I y7 S,fun _ e S=>μ (e.getD 2 .j) S,?_,?_⟩
 ·exact⟨_,_,Wk.refl _ _,rfl,_,rfl,h0⟩
 ·rintro _ e S ⟨rfl,y7,rfl,hI⟩
  exact(b63_1_eq _ _ _ _ _ _).mpr (hr y7 S hI _ (fun y7' S' hI' hm=>⟨_,_,Wk.refl _ _,⟨rfl,_,rfl,hI'⟩,hm⟩))
def c67:Code:=(Tryz.f67.body).getD .skip
def r67:List ResultVar:=Tryz.f67.results.toList
def env67_0(y1 y2 y5:AV):List AV:=[y1,y2,y5]
def lv67_0:List Nat:=[1,2,5]
def ms67:List (List Nat):=[lv67_0,[53]]
def m67(x0:AV)(S:Store)(Q:PoT):Prop:=
 boxN 96 1 x0 S fun a S=>loopV lv67_0 (vc Pg (c67.at_ [1,0,1,0,0]) (ms67.drop 1)) 62 (env67_0 a (.v (.int .i64 0)) (.v (.int .i64 0))) S (blockK 0 (seqK (vc Pg (c67.at_ [1,1]) (ms67.drop 1)) (bodyK Pg r67 Q)))
theorem calls67{x0:AV}{S:Store}{Q:PoT}(h:m67 x0 S Q):ACalls Pg 67 [x0] S Q:=
 calls_of_vc (fn:=Tryz.f67) (c:=c67) (n:=62) Tryz.func67 (by kernel_rfl) (by kernel_rfl) (by kernel_rfl) ms67 (Eq.mpr (by kernel_rfl) h)
def b67_0(y1 y2 y5:AV)(S:Store)(KE0:KeT)(Q:PoT):Prop:=
 bin .lss 0 y5 (.v (.int .i64 3)) S fun a S=>onB a fun b=>gd b (∃ c:AV,(∀ T:Store,Keep S T→shift y1 0 T fun d S=>d=c∧S=T)∧∃ e:AV,(∀ T:Store,Keep S T→ld1 c T fun f S=>f=e∧S=T)∧∃ g:AV,(∀ T:Store,Keep S T→shift y1 0 T fun h S=>h=g∧S=T)∧∃ i:AV,(∀ T:Store,Keep S T→ld1 g T fun k S=>k=i∧S=T)∧∃ l:AV,(∀ T:Store,Keep S T→nilChk i T fun m S=>m=l∧S=T)∧∃ n:AV,(∀ T:Store,Keep S T→shift l 0 T fun o S=>o=n∧S=T)∧∃ p:AV,(∀ T:Store,Keep S T→ld1 n T fun q S=>q=p∧S=T)∧∃ r:AV,(∀ T:Store,Keep S T→lenStr p T fun s S=>s=r∧S=T)∧∃ t:AV,(∀ T:Store,Keep S T→bin .lss 0 y5 r T fun u S=>u=t∧S=T)∧callF Pg 53 [e,t] S Q fun w S=>shift y1 0 S fun x S=>ld1 x S fun y S=>nilChk y S fun z S=>shift z 0 S fun A S=>ld1 A S fun B S=>ixStr B y5 S fun C S=>convI .i64 C S fun D S=>bin .andNot 0 D (.v (.int .i64 128)) S fun E S=>bin .mul 0 (.v (.int .i64 7)) y5 S fun F S=>bin .shl 0 E F S fun G S=>bin .or 0 y2 G S fun H S=>bin .lss 0 D (.v (.int .i64 128)) S fun I S=>onB I fun b=>gd b (shift y1 0 S fun J S=>ld1 J S fun K S=>bin .eql 0 y5 (.v (.int .i64 0)) S fun L S=>onB L fun b=>gd b (callF Pg 53 [K,.v (.bool true)] S Q fun M S=>∃ N:AV,(∀ T:Store,Keep S T→shift y1 0 T fun O S=>O=N∧S=T)∧∃ P:AV,(∀ T:Store,Keep S T→ld1 N T fun R S=>R=P∧S=T)∧∃ U:AV,(∀ T:Store,Keep S T→shift y1 0 T fun V S=>V=U∧S=T)∧∃ W:AV,(∀ T:Store,Keep S T→ld1 U T fun X S=>X=W∧S=T)∧∃ Y:AV,(∀ T:Store,Keep S T→nilChk W T fun Z S=>Z=Y∧S=T)∧∃ a0:AV,(∀ T:Store,Keep S T→shift Y 0 T fun a1 S=>a1=a0∧S=T)∧∃ a2:AV,(∀ T:Store,Keep S T→ld1 a0 T fun a3 S=>a3=a2∧S=T)∧∃ a4:AV,(∀ T:Store,Keep S T→bin .add 0 y5 (.v (.int .i64 1)) T fun a5 S=>a5=a4∧S=T)∧∃ a6:AV,(∀ T:Store,Keep S T→(none:Option AV)=none∧slcStr a2 (some a4) none T fun a7 S=>a7=a6∧S=T)∧∃ a8:AV,(∀ T:Store,Keep S T→nilChk P T fun a9 S=>a9=a8∧S=T)∧∃ b0:AV,(∀ T:Store,Keep S T→shift a8 0 T fun b1 S=>b1=b0∧S=T)∧stN 1 b0 a6 S fun b2 S=>Q (.ret H) S) (bin .gtr 0 D (.v (.int .i64 0)) S fun b4 S=>callF Pg 53 [K,b4] S Q fun b5 S=>∃ b6:AV,(∀ T:Store,Keep S T→shift y1 0 T fun b7 S=>b7=b6∧S=T)∧∃ b8:AV,(∀ T:Store,Keep S T→ld1 b6 T fun b9 S=>b9=b8∧S=T)∧∃ c0:AV,(∀ T:Store,Keep S T→shift y1 0 T fun c1 S=>c1=c0∧S=T)∧∃ c2:AV,(∀ T:Store,Keep S T→ld1 c0 T fun c3 S=>c3=c2∧S=T)∧∃ c4:AV,(∀ T:Store,Keep S T→nilChk c2 T fun c5 S=>c5=c4∧S=T)∧∃ c6:AV,(∀ T:Store,Keep S T→shift c4 0 T fun c7 S=>c7=c6∧S=T)∧∃ c8:AV,(∀ T:Store,Keep S T→ld1 c6 T fun c9 S=>c9=c8∧S=T)∧∃ d0:AV,(∀ T:Store,Keep S T→bin .add 0 y5 (.v (.int .i64 1)) T fun d1 S=>d1=d0∧S=T)∧∃ d2:AV,(∀ T:Store,Keep S T→(none:Option AV)=none∧slcStr c8 (some d0) none T fun d3 S=>d3=d2∧S=T)∧∃ d4:AV,(∀ T:Store,Keep S T→nilChk b8 T fun d5 S=>d5=d4∧S=T)∧∃ d6:AV,(∀ T:Store,Keep S T→shift d4 0 T fun d7 S=>d7=d6∧S=T)∧stN 1 d6 d2 S fun d8 S=>Q (.ret H) S)) (bin .add 0 y5 (.v (.int .i64 1)) S fun d9 S=>KE0 62 (env67_0 y1 H d9) S)) (shift y1 0 S fun e0 S=>ld1 e0 S fun e1 S=>callF Pg 53 [e1,.v (.bool false)] S Q fun e2 S=>Q (.ret (.v (.int .i64 0))) S)
theorem b67_0_eq(y1 y2 y5:AV)(S:Store)(KE0:KeT)(Q:PoT):vc Pg (c67.at_ [1,0,1,0,0]) (ms67.drop 1) (mkE 62 lv67_0 (env67_0 y1 y2 y5)) S (thenK (fgK lv67_0 KE0) (blockK 0 (seqK (vc Pg (c67.at_ [1,1]) (ms67.drop 1)) (bodyK Pg r67 Q))))=b67_0 y1 y2 y5 S KE0 Q:=by kernel_rfl
theorem loop67_0{y1:AV}{y20 y50:AV}{S:Store}{Q:PoT}(I:AV→AV→Store→Prop)(μ:AV→AV→Store→Nat)(h0:I y20 y50 S)
    (hr:∀(y2 y5:AV) (S:Store),I y2 y5 S→∀ KE0:KeT,(∀(y2' y5':AV) (S':Store),I y2' y5' S'→μ y2' y5' S'<μ y2 y5 S→KE0 62 (env67_0 y1 y2' y5') S')→b67_0 y1 y2 y5 S KE0 Q):
    loopV lv67_0 (vc Pg (c67.at_ [1,0,1,0,0]) (ms67.drop 1)) 62 (env67_0 y1 y20 y50) S (blockK 0 (seqK (vc Pg (c67.at_ [1,1]) (ms67.drop 1)) (bodyK Pg r67 Q))):=by
 refine⟨fun n e S=>n=62∧∃ y2 y5:AV,e=(env67_0 y1 y2 y5)∧I y2 y5 S,fun _ e S=>μ (e.getD 1 .j) (e.getD 2 .j) S,?_,?_⟩
 ·exact⟨_,_,Wk.refl _ _,rfl,_,_,rfl,h0⟩
 ·rintro _ e S ⟨rfl,y2,y5,rfl,hI⟩
  exact(b67_0_eq _ _ _ _ _ _).mpr (hr y2 y5 S hI _ (fun y2' y5' S' hI' hm=>⟨_,_,Wk.refl _ _,⟨rfl,_,_,rfl,hI'⟩,hm⟩))
def c66:Code:=(Tryz.f66.body).getD .skip
def r66:List ResultVar:=Tryz.f66.results.toList
def env66_0(y2 y4 y20 y21:AV):List AV:=[y2,y4,y20,y21]
def lv66_0:List Nat:=[2,4,20,21]
def env66_1(y2 y4 y50 y51:AV):List AV:=[y2,y4,y50,y51]
def lv66_1:List Nat:=[2,4,50,51]
def ms66:List (List Nat):=[lv66_0,lv66_1,[67,54,52,56,57,59]]
def m66(x0:AV)(S:Store)(Q:PoT):Prop:=
 bld [(0,1)] [.v (.pointer none)] [(0,x0)] S fun c S=>boxN 96 1 (.a [.v (.pointer none)]) S fun d S=>stN 1 d c S fun e S=>shift d 0 S fun f S=>ld1 f S fun g S=>callF Pg 52 [g,(.v (.string { data:=#[97,105,103] }))] S Q fun h S=>shift d 0 S fun i S=>ld1 i S fun k S=>callF Pg 55 [k] S Q fun l S=>extr l 0 S fun m S=>extr l 1 S fun n S=>loopV lv66_0 (vc Pg (c66.at_ [1,1,1,0,1,0,0]) (ms66.drop 1)) 84 (env66_0 d n m (.v (.int .i64 0))) S (blockK 0 (seqK (vc Pg (c66.at_ [1,1,1,1]) (ms66.drop 1)) (bodyK Pg r66 Q)))
theorem calls66{x0:AV}{S:Store}{Q:PoT}(h:m66 x0 S Q):ACalls Pg 66 [x0] S Q:=
 calls_of_vc (fn:=Tryz.f66) (c:=c66) (n:=84) Tryz.func66 (by kernel_rfl) (by kernel_rfl) (by kernel_rfl) ms66 (Eq.mpr (by kernel_rfl) h)
def b66_0(y2 y4 y20 y21:AV)(S:Store)(KE0:KeT)(Q:PoT):Prop:=
 bin .lss 0 y21 y20 S fun a S=>onB a fun b=>gd b (shift y2 0 S fun c S=>ld1 c S fun d S=>callF Pg 54 [d,.v (.int .i64 1),.v (.int .i64 2)] S Q fun e S=>∃ f:AV,(∀ T:Store,Keep S T→shift y2 0 T fun g S=>g=f∧S=T)∧∃ h:AV,(∀ T:Store,Keep S T→ld1 f T fun i S=>i=h∧S=T)∧∃ k:AV,(∀ T:Store,Keep S T→bin .mul 0 (.v (.int .i64 2)) y21 T fun l S=>l=k∧S=T)∧∃ m:AV,(∀ T:Store,Keep S T→bin .add 0 y4 k T fun n S=>n=m∧S=T)∧∃ o:AV,(∀ T:Store,Keep S T→ixS 3 1 e (.v (.int .i64 0)) T fun p S=>p=o∧S=T)∧∃ q:AV,(∀ T:Store,Keep S T→ld1 o T fun r S=>r=q∧S=T)∧∃ s:AV,(∀ T:Store,Keep S T→ixS 3 1 e (.v (.int .i64 1)) T fun t S=>t=s∧S=T)∧∃ u:AV,(∀ T:Store,Keep S T→ld1 s T fun w S=>w=u∧S=T)∧callF Pg 56 [h,m,q,u] S Q fun x S=>bin .add 0 y21 (.v (.int .i64 1)) S fun y S=>KE0 84 (env66_0 y2 y4 y20 y) S) (shift y2 0 S fun z S=>ld1 z S fun A S=>callF Pg 57 [A] S Q fun B S=>shift y2 0 S fun C S=>ld1 C S fun D S=>callF Pg 58 [D] S Q fun E S=>extr E 0 S fun F S=>extr E 1 S fun G S=>loopV lv66_1 (vc Pg (c66.at_ [1,1,1,1,1,1,0,1,0,0]) (ms66.drop 2)) 84 (env66_1 y2 G F (.v (.int .i64 0))) S (blockK 2 (seqK (vc Pg (c66.at_ [1,1,1,1,1,1,1]) (ms66.drop 2)) (bodyK Pg r66 Q))))
theorem b66_0_eq(y2 y4 y20 y21:AV)(S:Store)(KE0:KeT)(Q:PoT):vc Pg (c66.at_ [1,1,1,0,1,0,0]) (ms66.drop 1) (mkE 84 lv66_0 (env66_0 y2 y4 y20 y21)) S (thenK (fgK lv66_0 KE0) (blockK 0 (seqK (vc Pg (c66.at_ [1,1,1,1]) (ms66.drop 1)) (bodyK Pg r66 Q))))=b66_0 y2 y4 y20 y21 S KE0 Q:=by kernel_rfl
theorem loop66_0{y2 y4 y20:AV}{y210:AV}{S:Store}{Q:PoT}(I:AV→Store→Prop)(μ:AV→Store→Nat)(h0:I y210 S)
    (hr:∀(y21:AV) (S:Store),I y21 S→∀ KE0:KeT,(∀(y21':AV) (S':Store),I y21' S'→μ y21' S'<μ y21 S→KE0 84 (env66_0 y2 y4 y20 y21') S')→b66_0 y2 y4 y20 y21 S KE0 Q):
    loopV lv66_0 (vc Pg (c66.at_ [1,1,1,0,1,0,0]) (ms66.drop 1)) 84 (env66_0 y2 y4 y20 y210) S (blockK 0 (seqK (vc Pg (c66.at_ [1,1,1,1]) (ms66.drop 1)) (bodyK Pg r66 Q))):=by
 refine⟨fun n e S=>n=84∧∃ y21:AV,e=(env66_0 y2 y4 y20 y21)∧I y21 S,fun _ e S=>μ (e.getD 3 .j) S,?_,?_⟩
 ·exact⟨_,_,Wk.refl _ _,rfl,_,rfl,h0⟩
 ·rintro _ e S ⟨rfl,y21,rfl,hI⟩
  exact(b66_0_eq _ _ _ _ _ _ _).mpr (hr y21 S hI _ (fun y21' S' hI' hm=>⟨_,_,Wk.refl _ _,⟨rfl,_,rfl,hI'⟩,hm⟩))
def b66_1(y2 y4 y50 y51:AV)(S:Store)(KE1:KeT)(Q:PoT):Prop:=
 bin .lss 0 y51 y50 S fun a S=>onB a fun b=>gd b (bin .mul 0 (.v (.int .i64 2)) y51 S fun c S=>bin .add 0 y4 c S fun d S=>ldN 1 y2 S fun e S=>callF Pg 67 [e] S Q fun f S=>bin .sub 0 d f S fun g S=>∃ h:AV,(∀ T:Store,Keep S T→shift y2 0 T fun i S=>i=h∧S=T)∧∃ k:AV,(∀ T:Store,Keep S T→ld1 h T fun l S=>l=k∧S=T)∧∃ m:AV,(∀ T:Store,Keep S T→shift y2 0 T fun n S=>n=m∧S=T)∧∃ o:AV,(∀ T:Store,Keep S T→ld1 m T fun p S=>p=o∧S=T)∧∃ q:AV,(∀ T:Store,Keep S T→nilChk o T fun r S=>r=q∧S=T)∧∃ s:AV,(∀ T:Store,Keep S T→shift q 10 T fun u S=>u=s∧S=T)∧∃ w:AV,(∀ T:Store,Keep S T→shift s 2 T fun x S=>x=w∧S=T)∧∃ y:AV,(∀ T:Store,Keep S T→ld1 w T fun z S=>z=y∧S=T)∧∃ A:AV,(∀ T:Store,Keep S T→ldN 1 y2 T fun B S=>B=A∧S=T)∧callF Pg 67 [A] S Q fun C S=>(∀ T:Store,Keep S T→ld1 w T fun D S=>D=y∧S=T)∧(∀ T:Store,Keep S T→shift s 2 T fun E S=>E=w∧S=T)∧(∀ T:Store,Keep S T→shift q 10 T fun F S=>F=s∧S=T)∧(∀ T:Store,Keep S T→nilChk o T fun G S=>G=q∧S=T)∧(∀ T:Store,Keep S T→ld1 m T fun H S=>H=o∧S=T)∧(∀ T:Store,Keep S T→shift y2 0 T fun I S=>I=m∧S=T)∧(∀ T:Store,Keep S T→ld1 h T fun J S=>J=k∧S=T)∧(∀ T:Store,Keep S T→shift y2 0 T fun K S=>K=h∧S=T)∧∃ L:AV,(∀ T:Store,Keep S T→bin .sub 0 g C T fun M S=>M=L∧S=T)∧∃ N:AV,(∀ T:Store,Keep S T→bld [(0,1),(1,1)] [.v (.int .i64 0),.v (.int .i64 0)] [(0,g),(1,L)] T fun O S=>O=N∧S=T)∧∃ P:AV,(∀ T:Store,Keep S T→bslN 48 2 1 [.v (.int .i64 0),.v (.int .i64 0)] [(0,N)] T fun R S=>R=P∧S=T)∧appS 48 2 16 y P S fun U S=>(∀ T:Store,Keep S T→ld1 h T fun V S=>V=k∧S=T)∧(∀ T:Store,Keep S T→shift y2 0 T fun W S=>W=h∧S=T)∧∃ X:AV,(∀ T:Store,Keep S T→nilChk k T fun Y S=>Y=X∧S=T)∧∃ Z:AV,(∀ T:Store,Keep S T→shift X 10 T fun a0 S=>a0=Z∧S=T)∧∃ a1:AV,(∀ T:Store,Keep S T→shift Z 2 T fun a2 S=>a2=a1∧S=T)∧stN 1 a1 U S fun a3 S=>bin .add 0 y51 (.v (.int .i64 1)) S fun a4 S=>KE1 84 (env66_1 y2 y4 y50 a4) S) (shift y2 0 S fun a5 S=>ld1 a5 S fun a6 S=>callF Pg 59 [a6] S Q fun a7 S=>Q (.ret (.t [])) S)
theorem b66_1_eq(y2 y4 y50 y51:AV)(S:Store)(KE1:KeT)(Q:PoT):vc Pg (c66.at_ [1,1,1,1,1,1,0,1,0,0]) (ms66.drop 2) (mkE 84 lv66_1 (env66_1 y2 y4 y50 y51)) S (thenK (fgK lv66_1 KE1) (blockK 2 (seqK (vc Pg (c66.at_ [1,1,1,1,1,1,1]) (ms66.drop 2)) (bodyK Pg r66 Q))))=b66_1 y2 y4 y50 y51 S KE1 Q:=by kernel_rfl
theorem loop66_1{y2 y4 y50:AV}{y510:AV}{S:Store}{Q:PoT}(I:AV→Store→Prop)(μ:AV→Store→Nat)(h0:I y510 S)
    (hr:∀(y51:AV) (S:Store),I y51 S→∀ KE1:KeT,(∀(y51':AV) (S':Store),I y51' S'→μ y51' S'<μ y51 S→KE1 84 (env66_1 y2 y4 y50 y51') S')→b66_1 y2 y4 y50 y51 S KE1 Q):
    loopV lv66_1 (vc Pg (c66.at_ [1,1,1,1,1,1,0,1,0,0]) (ms66.drop 2)) 84 (env66_1 y2 y4 y50 y510) S (blockK 2 (seqK (vc Pg (c66.at_ [1,1,1,1,1,1,1]) (ms66.drop 2)) (bodyK Pg r66 Q))):=by
 refine⟨fun n e S=>n=84∧∃ y51:AV,e=(env66_1 y2 y4 y50 y51)∧I y51 S,fun _ e S=>μ (e.getD 3 .j) S,?_,?_⟩
 ·exact⟨_,_,Wk.refl _ _,rfl,_,rfl,h0⟩
 ·rintro _ e S ⟨rfl,y51,rfl,hI⟩
  exact(b66_1_eq _ _ _ _ _ _ _).mpr (hr y51 S hI _ (fun y51' S' hI' hm=>⟨_,_,Wk.refl _ _,⟨rfl,_,rfl,hI'⟩,hm⟩))
def c31:Code:=(Tryz.f31.body).getD .skip
def ms31:List (List Nat):=[[]]
def m31(x0:AV)(S:Store)(Q:PoT):Prop:=
 boxN 29 8 (.a [.v (.int .i64 0),.nl,.nl,.nl,.nl,.nl,.nl,.nl]) S fun c S=>callF Pg 50 [x0,(.f (.func 66) [] [])] S Q fun d S=>extr d 0 S fun e S=>extr d 1 S fun g S=>stN 8 c e S fun h S=>ldN 8 c S fun i _=>Q (.ret (.t [i,g])) S
theorem calls31{x0:AV}{S:Store}{Q:PoT}(h:m31 x0 S Q):ACalls Pg 31 [x0] S Q:=
 calls_of_vc (fn:=Tryz.f31) (c:=c31) (n:=8) Tryz.func31 (by kernel_rfl) (by kernel_rfl) (by kernel_rfl) ms31 (Eq.mpr (by kernel_rfl) h)
end
def FrB(S0 T T':Store):Prop:=T.n≤T'.n∧∀ i c,i≠S0.n→i<T.n→T.obj i=some (.cells 96 [c] true)→T'.obj i=some (.cells 96 [c] true)
theorem FrB.refl(S0 T:Store):FrB S0 T T:=⟨Nat.le_refl _,fun _ _ _ _ h=>h⟩
theorem FrB.trans{S0 T U V:Store}(h:FrB S0 T U)(k:FrB S0 U V):FrB S0 T V:=⟨Nat.le_trans h.1 k.1,fun i c hi hn e=>k.2 i c hi (Nat.lt_of_lt_of_le hn h.1) (h.2 i c hi hn e)⟩
theorem FrB.keep{S0 T U:Store}(h:Keep T U):FrB S0 T U:=⟨h.1,fun i c hi hn e=>(h.2 i hn).trans e⟩
theorem FrB.st{S0 T U:Store}(n:U.n=T.n)(f:∀ x,x≠S0.n→U.obj x=T.obj x):FrB S0 T U:=⟨by omega,fun i c hi hn e=>(f i hi).trans e⟩
theorem FrB.of{S0 T U:Store}(n:T.n≤U.n)(f:∀ x,x≠S0.n→x<T.n→U.obj x=T.obj x):FrB S0 T U:=⟨n,fun i c hi hn e=>(f i hi hn).trans e⟩
theorem FrB.app{S0 T U:Store}{m e:Nat}{x:AV}{es:List (List AV)}(h:Own m T x e es)(he:e≠96)(n:T.n≤U.n)(f:∀ i,i<T.n→(∀ b m,x≠.s i b m)→U.obj i=T.obj i):FrB S0 T U:=⟨n,fun i c hi hn hc=>by
 rw[f i hn (fun b k hx=>?_),hc]
 rcases h with⟨rfl,_⟩|⟨j,rfl,_,_,ho⟩
 ·cases hx
 ·cases hx
  rw[hc]at ho
  injection ho with ho
  injection ho with h1
  exact he h1.symm⟩
section
variable {S0 T:Store} {l:Bs} {M:List Int} {c:Ci}
theorem Tk.headB(h:Tk S0 T l (List.replicate 9 0) c)(hl:l.length≤1000000){word:Bs}{Q:AEnd→Store→Prop}{K:AV→Store→Prop}
    (h1:∀ M b,headP word l=some (M,b)→∀ T',T.n≤T'.n→Tk S0 T' b M (c.inp (M.getD 1 0))→(∀ x,x≠S0.n→T'.obj x=T.obj x)→K (.t []) T')
    (h0:headP word l=none→∀ T',Keep S0 T'→Q (wr 20) T'):callF Pg 52 [.p S0.n 0 0,aT word] T Q K:=by
 refine .inl (calls52 ?_)
 unfold m52
 obtain⟨z0,h⟩:=h
 refine h.line hl (fun a b hc T1 n1 k1 f1=>?_) (fun hc=>h0 (by simp[headP,hc]) _ h.kp)
 have hab:=cutC_len hc
 refine callF_ans (ans93 (by omega)) ?_
 have hw:∀ w∈wordsL a,w.length≤1000000:=fun w hw=>by have:=(wordsL_mem hw).2.1;omega
 have hne:=wordsL_ne a
 have hP:headP word l=if headOk word (wordsL a)=true then some (headM (wordsL a).tail,b)else none:=by
  unfold headP;rw[hc]
 generalize wordsL a=ws at hw hne hP
 match ws,hne with
 |w0 :: ws,_ =>
 have bad:∀{T':Store},Keep S0 T'→¬ headOk word (w0 :: ws)=true→Q (wr 20) T':=fun hk hn=>h0 (by rw[hP,if_neg hn]) _ hk
 have hok:headOk word (w0 :: ws)=true↔w0=word∧(5≤ws.length∧ws.length≤9)∧(∀ x∈ws,0≤numR x∧numR x≤2000)∧(headM ws).getD 0 0=(headM ws).getD 1 0+(headM ws).getD 2 0+(headM ws).getD 4 0∧(headM ws).getD 7 0=0:=by
  simp only[headOk,Bool.and_eq_true,decide_eq_true_eq,List.all_eq_true,List.head?_cons,Option.some.injEq,List.tail_cons,List.length_cons]
  constructor
  ·rintro⟨e1,e2,e3,e4⟩;exact⟨e1,⟨by omega,by omega⟩,e3,dT e4⟩
  ·rintro⟨e1,e2,e3,e4⟩;exact⟨e1,⟨by omega,by omega⟩,e3,decide_eq_true e4⟩
 refine W (ixS_aL (i:=0) (by simp)) ?_
 rw[List.getElem_cons_zero,ld1_q,bin_eqlS,onB_v]
 refine gd_of (fun hw0=>?_) (fun hw0=>want_c (fun h=>by cases h) (fun _=>bad k1.kp (fun e=>dF hw0 (by rw[(hok.1 e).1]))))
 have hw0:=ab_eq.1 (dT hw0)
 rw[lenS_aL,bin_gtr,onB_v]
 refine gd_of (fun h5=>?_) (fun h5=>want_c (fun h=>by cases h) (fun _=>bad k1.kp (fun e=>dF h5 (by have:=(hok.1 e).2.1;rw[List.length_cons];omega))))
 have h5:5≤ws.length:=by have:=dT h5;rw[List.length_cons]at this;omega
 rw[lenS_aL,bin_leq]
 refine want_c (fun h9=>?_) (fun h9=>bad k1.kp (fun e=>dF h9 (by have:=(hok.1 e).2.1;rw[List.length_cons];omega)))
 have h9:ws.length≤9:=by have:=dT h9;rw[List.length_cons]at this;omega
 rw[slc_tl (by simp),List.tail_cons,lenS_aL]
 refine loop52_0 (fun y U=>∃ i:Nat,y=aI i∧i≤ws.length∧(∀ x∈ws.take i,0≤numR x∧numR x≤2000)∧T.n≤U.n∧(∀ x,x≠S0.n→U.obj x=T.obj x)∧Tk S0 U b ((ws.take i).map numR++List.replicate (9 - i) 0) c) (fun y _=>ws.length - ((intA y).getD 0).toNat)
  ⟨0,rfl,Nat.zero_le _,fun x hx=>(by simp at hx),n1,f1,⟨z0,by simpa using k1⟩⟩ ?_
 rintro _ U ⟨i,rfl,hi,hall,nU,fU,z,hU⟩ KE hKE
 unfold b52_0
 rw[bin_lss,onB_v]
 refine gd_of (fun hlt=>?_) (fun hge=>?_)
 ·have hlt:i<ws.length:=by have:=dT hlt;omega
  have htk:((ws.take i).map numR).length=i:=by simp;omega
  rw[ixS_aL hlt,ld1_q]
  refine L_callA (numT (by have:=hw _ (List.mem_cons_of_mem _ (List.getElem_mem hlt));omega)) ?_
  refine⟨_,fun T hT=>by rw[nilChk_p];exact⟨rfl,rfl⟩,?_⟩
  refine L_shift ?_
  refine⟨_,fun T hT=>by rw[ixA_pj (by omega)];exact⟨rfl,rfl⟩,?_⟩
  rw[Nat.zero_add]
  refine hU.st (tkC_sm hU.len (by omega)) (by omega) rfl (by rw[List.length_set];exact hU.len) fun U2 nU2 fU2 hU2=>?_
  rw[set_row htk (by omega),←map_take1 hlt]at hU2
  have hg:((ws.take (i+1)).map numR++List.replicate (9 - (i+1)) 0).getD i 0=numR ws[i]:=by
   rw[List.getD_eq_getElem?_getD,map_take1 hlt,List.append_assoc,List.getElem?_append_right (by omega),htk,Nat.sub_self]
   rfl
  have kU2:Keep S0 U2:=hU2.kp
  rw[nilChk_p,shift_p,Nat.zero_add,ixA_pj (by omega),hU2.ldm (by omega),hg,bin_geq,onB_v]
  refine gd_of (fun hn=>?_) (fun hn=>want_c (fun h=>by cases h) (fun _=>bad kU2 (fun e=>dF hn ((hok.1 e).2.2.1 _ (List.getElem_mem hlt)).1)))
  rw[nilChk_p,shift_p,Nat.zero_add,ixA_pj (by omega),hU2.ldm (by omega),hg,bin_leq]
  refine want_c (fun hx=>?_) (fun hx=>bad kU2 (fun e=>dF hx ((hok.1 e).2.2.1 _ (List.getElem_mem hlt)).2))
  rw[bin_add (by omega) (by omega)]
  refine hKE _ _ ⟨i+1,rfl,hlt,fun x hx'=>?_,by omega,fun x hx=>(fU2 x hx).trans (fU x hx),z,hU2⟩ (by simp[intA];omega)
  rw[List.take_add_one,List.getElem?_eq_getElem hlt]at hx'
  rcases List.mem_append.1 hx' with hx'|hx'
  ·exact hall x hx'
  ·rw[Option.toList_some,List.mem_singleton]at hx'
   rw[hx']
   exact⟨dT hn,dT hx⟩
 ·have hge:i=ws.length:=by have:=dF hge;omega
  subst hge
  rw[List.take_length]at hall hU
  have hM:∀ j,0≤(headM ws).getD j 0∧(headM ws).getD j 0≤2000:=fun j=>by
   rw[List.getD_eq_getElem?_getD]
   cases hg:(headM ws)[j]? with
   |none=>exact⟨by decide,by decide⟩
   |some v =>
    rw[Option.getD_some]
    rcases List.mem_append.1 (List.mem_of_getElem? hg)with hx|hx
    ·obtain⟨w,hw',rfl⟩:=List.mem_map.1 hx
     exact hall w hw'
    ·rw[(List.mem_replicate.1 hx).2];decide
  have hU:TkZ S0 U b (headM ws) c.inputs c.rowsOf z z:=hU
  have m1:=hM 1
  have m2:=hM 2
  have m4:=hM 4
  refine hU.Lm (j:=0) (by decide) ?_
  refine hU.Lm (j:=1) (by decide) ?_
  refine hU.Lm (j:=2) (by decide) ?_
  refine⟨_,fun T hT=>by rw[bin_add (by omega) (by omega)];exact⟨rfl,rfl⟩,?_⟩
  refine hU.Lm (j:=4) (by decide) ?_
  refine⟨_,fun T hT=>by rw[bin_add (by omega) (by omega)];exact⟨rfl,rfl⟩,?_⟩
  refine⟨_,fun T hT=>by rw[bin_eql];exact⟨rfl,rfl⟩,?_⟩
  rw[onB_v]
  refine gd_of (fun hs=>?_) (fun hs=>?_)
  ·refine hU.Lm (j:=7) (by decide) ?_
   refine⟨_,fun T hT=>by rw[bin_eql];exact⟨rfl,rfl⟩,?_⟩
   refine⟨_,fun T hT=>⟨rfl,rfl⟩,?_⟩
   refine want_c (fun h7=>?_) (fun h7=>bad hU.kp (fun e=>dF h7 (hok.1 e).2.2.2.2))
   rw[nilChk_p,shift_p,Nat.zero_add]
   refine W (ixA_pj (z:=1) (by decide)) ?_
   rw[hU.ldm (by decide),nilChk_p,shift_p,shift_p]
   refine hU.st (tkC_si hU.len) (by decide) rfl hU.len fun U2 nU2 fU2 hU2=>?_
   refine h1 (headM ws) b ?_ U2 (by omega) ⟨z,hU2⟩ (fun x hx=>(fU2 x hx).trans (fU x hx))
   rw[hP,if_pos (hok.2 ⟨hw0,⟨h5,h9⟩,hall,dT hs,dT h7⟩)]
   rfl
  ·refine⟨_,fun T hT=>⟨rfl,rfl⟩,?_⟩
   exact want_c (fun h=>by cases h) (fun _=>bad hU.kp (fun e=>dF hs (hok.1 e).2.2.2.1))
theorem Tk.latchB(h:Tk S0 T l M c)(hl:c.latches.length≤1000000){own next reset:Int}{Q:AEnd→Store→Prop}{K:AV→Store→Prop}
    (h1:∀ k,resetP own reset=some k→∀ T',T.n≤T'.n→Tk S0 T' l M (c.addL (next,k))→FrB S0 T T'→K (.t []) T') (h0:resetP own reset=none→Q (wr 21) T):
    callF Pg 56 [.p S0.n 0 0,aI own,aI next,aI reset] T Q K:=by
 refine .inl (calls56 ?_)
 unfold m56
 obtain⟨z,h⟩:=h
 have put:∀ k,resetP own reset=some k→ld1 (.p S0.n 0 11) T fun v5 S=>bld [(0,1),(1,1)] [aI 0,aI 0] [(0,aI next),(1,aI k)] S fun v7 S=>bslN 51 2 1 [aI 0,aI 0] [(0,v7)] S fun v8 S=>appS 51 2 16 v5 v8 S fun v9 S=>nilChk (.p S0.n 0 0) S fun v10 S=>shift v10 10 S fun v11 S=>shift v11 1 S fun v12 S=>stN 1 v12 v9 S fun _ S=>K (.t []) S:=by
  intro k hk
  refine W (h.ldz (j:=0) (by decide)) ?_
  refine⟨[aI next,aI k],rfl,?_⟩
  refine bslA2 rfl ?_
  refine h.app (j:=0) (by decide) rfl (c:=[aI next,aI k]) rfl (by simp[Ci.rowsOf];omega) rfl fun x' T' hx n' h' f'=>?_
  rw[nilChk_p,shift_p,shift_p]
  refine h'.st (i:=11+0) (tkC_sz h.len (by decide)) (by decide) hx h.len fun T2 n2 f2 h2=>?_
  exact h1 k hk T2 (by omega) (Tk.of h2 rfl (rows_addL c _)) ((FrB.app (h.rows.own 0 (by decide)) (by decide) n' f').trans (FrB.st n2 f2))
 have e2:∀{K':AV→Store→Prop},(nilChk (.p S0.n 0 0) T fun v S=>shift v 10 S fun v S=>shift v 1 S K')=K' (.p S0.n 0 11) T:=fun{K'}=>by rw[nilChk_p,shift_p,shift_p]
 rw[bin_eql,onB_v]
 refine gd_of (fun ho=>?_) (fun ho=>?_)
 ·have ho:=dT ho
  rw[e2]
  exact put 2 (by rw[resetP,if_pos ho])
 have ho:=dF ho
 rw[bin_eql,onB_v]
 refine gd_of (fun h00=>?_) (fun h00=>?_)
 ·rw[h00,onB_v,gd_true,e2]
  exact put reset (by rw[resetP,if_neg ho,if_pos (.inl (dT h00))])
 have h00:=dF h00
 rw[bin_eql,onB_v]
 refine gd_of (fun h01=>?_) (fun h01=>?_)
 ·rw[e2]
  exact put reset (by rw[resetP,if_neg ho,if_pos (.inr (dT h01))])
 ·have h01:=dF h01
  exact Want_c (fun h=>by cases h) (fun _=>h0 (by rw[resetP,if_neg ho,if_neg (fun e=>e.elim h00 h01)]))
theorem Tk.columnsB(h:Tk S0 T l M c)(hl:l.length≤1000000)(hM:∀ j,0≤M.getD j 0∧M.getD j 0≤2000)(hc:c.setK []=c){Q:AEnd→Store→Prop}{K:AV→Store→Prop}
    (h1:∀ L b,colsN M 4 l=some (L,b)→∀ T',T.n≤T'.n→Tk S0 T' b M (c.setK L)→FrB S0 T T'→K (.t []) T')
    (h0:colsN M 4 l=none→∀ T',Keep S0 T'→Q (wr 21) T'):callF Pg 57 [.p S0.n 0 0] T Q K:=by
 refine .inl (calls57 ?_)
 unfold m57
 rw[nilChk_p,shift_p]
 have part:∀(j:Nat) (m:Int) {P:AV→Prop},P (.a [.p S0.n 0 (10+j),aI m])→∃ q3,(nilChk (.p S0.n 0 (0+10)) T fun v S=>v=q3∧S=T)∧∃ q5,(shift q3 j T fun v S=>v=q5∧S=T)∧∃ q7,(bld [(0,1),(1,1)] [.v (.pointer none),aI 0] [(0,q5),(1,aI m)] T fun v S=>v=q7∧S=T)∧P q7:=fun j m P k=>by
  refine⟨_,by rw[nilChk_p];exact⟨rfl,rfl⟩,_,by rw[shift_p];exact⟨rfl,rfl⟩,_,⟨[.p S0.n 0 (10+j),aI m],?_,rfl,rfl⟩,k⟩
  simp[fillA,cellsOf,spl,AV.one,Value.oneCell']
 refine part 3 3 (part 4 5 (part 5 6 (part 6 8 ?_)))
 refine⟨_,⟨[.p S0.n 0 13,aI 3,.p S0.n 0 14,aI 5,.p S0.n 0 15,aI 6,.p S0.n 0 16,aI 8],rfl,rfl,rfl⟩,?_⟩
 refine loop57_0 (fun y U=>∃(i:Nat) (pre:List (List Int)) (l':Bs),y=aI i∧i≤4∧pre.length=i∧l'.length≤l.length∧FrB S0 T U∧Tk S0 U l' M (c.setK pre)∧colsN M 4 l=(colsN M (4 - i) l').map fun p=>(pre++p.1,p.2)) (fun y _=>4 - ((intA y).getD 0).toNat)
  ⟨0,[],l,rfl,by decide,rfl,Nat.le_refl _,FrB.refl _ _,by rw[hc];exact h,by simp⟩ ?_
 rintro _ U ⟨i,pre,l',rfl,hi,hpre,hl',fU,hU,hq⟩ KE hKE
 unfold b57_0
 rw[bin_lss,onB_v]
 refine gd_of (fun hlt=>?_) (fun hge=>?_)
 ·have hlt:i<4:=by have:(i:Int)<4:=dT hlt
                   omega
  have hci:=hM (colIx i)
  have hci9:colIx i<9:=by unfold colIx;split<;>decide
  have hpart:∀{K:AV→Store→Prop},partN (.a [.p S0.n 0 13,aI 3,.p S0.n 0 14,aI 5,.p S0.n 0 15,aI 6,.p S0.n 0 16,aI 8]) 2 (i*2) U K=K (.a [.p S0.n 0 (11+(2+i)),aI (colIx i)]) U:=fun{K}=>by
   match i,hlt with
   |0,_=>simp[partN,partA,colIx]
   |1,_=>simp[partN,partA,colIx]
   |2,_=>simp[partN,partA,colIx]
   |3,_=>simp[partN,partA,colIx]
  refine⟨(i:Int),rfl,⟨by omega,by omega⟩,?_⟩
  rw[Int.toNat_natCast,hpart]
  refine boxA_of rfl fun U1 k1 n1 o1=>?_
  refine stA_of (cs':=[.p S0.n 0 (11+(2+i)),aI (colIx i)]) o1 rfl rfl fun U2 n2 o2 f2=>?_
  have kU:Keep U U2:=k1.st (Nat.le_refl _) n2 f2
  have hU2:=hU.keep kU
  obtain⟨zz,hz2⟩:=hU2
  have hSU:S0.n<U.n:=by obtain⟨z,hz⟩:=hU;exact hz.lt
  refine W J_shift (W (J_ldp (u:=aI (colIx i)) o2 rfl rfl) ?_)
  refine hz2.Jm hci9 ?_
  have hcm:aI (M.getD (colIx i) 0)=aI ((mAt M (colIx i):Nat):Int):=by congr 1;show _=(((M.getD (colIx i) 0).toNat:Nat):Int);omega
  rw[hcm]
  have e3:4 - i=(4 - (i+1))+1:=by omega
  have e4:3 - (4 - (i+1))=i:=by omega
  rw[e3,colsN_s M (4 - (i+1)) l',e4]at hq
  generalize hnn:mAt M (colIx i)=nn at hq
  have hnn2:nn≤2000:=by rw[←hnn];show(M.getD (colIx i) 0).toNat≤2000;omega
  refine loop57_1 (fun y V=>∃(j:Nat) (cur:List Int) (l2:Bs),y=aI j∧j≤nn∧cur.length=j∧l2.length≤l.length∧FrB S0 T V∧Tk S0 V l2 M (c.setK (pre ++ [cur]))∧V.obj U.n=some (.cells _ [[.p S0.n 0 (11+(2+i)),aI (colIx i)]] true)∧U.n<V.n∧columnP nn l'=(columnP (nn - j) l2).map fun p=>(cur++p.1,p.2)) (fun y _=>nn - ((intA y).getD 0).toNat)
   ⟨0,[],l',rfl,Nat.zero_le _,rfl,hl',fU.trans (FrB.keep kU),by rw[setK_nil _ _ (by omega)];exact⟨zz,hz2⟩,o2,by omega,by simp⟩ ?_
  rintro _ V ⟨j,cur,l2,rfl,hj,hcur,hl2,fTV,⟨zv,hV⟩,oV,nV,hcol⟩ KE1 hKE1
  unfold b57_1
  rw[bin_lss,onB_v]
  refine gd_of (fun hlt2=>?_) (fun hge2=>?_)
  ·have hlt2:j<nn:=by have:=dT hlt2;omega
   have e5:nn - j=1+(nn - (j+1)):=by omega
   have pnn:∀{V':Store},Keep V V'→(ld1 (.p U.n 0 0) V' fun v S=>v = .p S0.n 0 (11+(2+i))∧S=V'):=fun{V'} k=>by
    rw[ld1_p ((k.2 _ nV).trans oV) rfl rfl];exact⟨rfl,rfl⟩
   refine L_shift ?_
   refine⟨_,fun V' hV'=>pnn hV',?_⟩
   refine L_shift ?_
   refine⟨_,fun V' hV'=>pnn hV',?_⟩
   refine⟨_,fun V' hV'=>by rw[nilChk_p];exact⟨rfl,rfl⟩,?_⟩
   refine⟨zv (2+i),fun V' hV'=>by rw[(hV.keep hV').ldz (by omega)];exact⟨rfl,rfl⟩,?_⟩
   have fail:numbersP 1 1 l2=none→colsN M 4 l=none:=fun hn=>by
    rw[hq,hcol,e5,columnP_add,columnP,hn];rfl
   refine hV.nums (least:=1) (most:=1) (by omega) (by decide) (fun ns b hns V1 id nV1 hV1 o1' hid1 hid2 fV1=>?_) (fun hn V' hV'=>h0 (fail hn) V' hV')
   have hns1:=numbersP_ok hns
   obtain⟨x,hx⟩:∃ x,ns = [x]:=List.length_eq_one_iff.1 hns1.1
   subst hx
   have hUS:U.n≠S0.n:=by omega
   have oV1:=(fV1 _ hUS nV).trans oV
   have nUV1:U.n<V1.n:=by omega
   have pn1:∀{V':Store},Keep V1 V'→(ld1 (.p U.n 0 0) V' fun v S=>v = .p S0.n 0 (11+(2+i))∧S=V'):=fun{V'} k=>by
    rw[ld1_p ((k.2 _ nUV1).trans oV1) rfl rfl];exact⟨rfl,rfl⟩
   refine⟨fun V' hV'=>by rw[(hV1.keep hV').ldz (by omega)];exact⟨rfl,rfl⟩,?_⟩
   refine⟨fun V' hV'=>by rw[nilChk_p];exact⟨rfl,rfl⟩,?_⟩
   refine⟨fun V' hV'=>pn1 hV',?_⟩
   refine⟨fun V' hV'=>by rw[shift_p];exact⟨rfl,rfl⟩,?_⟩
   refine⟨fun V' hV'=>pn1 hV',?_⟩
   refine⟨fun V' hV'=>by rw[shift_p];exact⟨rfl,rfl⟩,?_⟩
   refine⟨.p id 0 0,fun V' hV'=>by
    refine W (ixS_s (i:=0) (by decide) ((hV'.2 id hid2).trans o1')) ?_
    exact⟨rfl,rfl⟩,?_⟩
   refine⟨aI x,fun V' hV'=>by rw[ld1_p ((hV'.2 id hid2).trans o1') rfl rfl];exact⟨rfl,rfl⟩,?_⟩
   refine⟨_,fun V' hV'=>bslI1 ⟨rfl,rfl⟩,?_⟩
   have hrl:=rows_len c pre cur (by omega)
   rw[hpre]at hrl
   refine hV1.app (j:=2+i) (by omega) (tkT_c hlt) (c:=[aI x]) rfl (by rw[hrl];omega) rfl fun x' V2 hx' nV2 hV2 fV2=>?_
   have hzU:∀ b m,zv (2+i)≠.s U.n b m:=fun b m e=>by
    rcases hV1.rows.own (2+i) (by omega)with⟨e',_⟩|⟨id',e',_,_,ho⟩
    ·rw[e']at e;cases e
    ·rw[e']at e
     cases e
     rw[ho,tkT_c hlt]at oV1
     injection oV1 with oV1
     injection oV1 with oV1
     cases oV1
   have oV2:=(fV2 _ nUV1 hzU).trans oV1
   have nUV2:U.n<V2.n:=by omega
   have pn2:∀{V':Store},Keep V2 V'→(ld1 (.p U.n 0 0) V' fun v S=>v = .p S0.n 0 (11+(2+i))∧S=V'):=fun{V'} k=>by
    rw[ld1_p ((k.2 _ nUV2).trans oV2) rfl rfl];exact⟨rfl,rfl⟩
   refine⟨fun V' hV'=>pn2 hV',?_⟩
   refine⟨fun V' hV'=>by rw[shift_p];exact⟨rfl,rfl⟩,?_⟩
   refine⟨_,fun V' hV'=>by rw[nilChk_p];exact⟨rfl,rfl⟩,?_⟩
   refine hV2.st (i:=11+(2+i)) (tkC_sz hV1.len (by omega)) (by omega) hx' hV1.len fun V3 nV3 fV3 hV3=>?_
   rw[bin_add (by omega) (by omega)]
   have hrs:=rows_setK c pre cur x (by omega)
   rw[hpre]at hrs
   refine hKE1 _ _ ⟨j+1,cur ++ [x],b,rfl,hlt2,by simp[hcur],by have:=hns1.2.1;omega,((fTV.trans (FrB.of nV1 fV1)).trans (FrB.app (hV1.rows.own (2+i) (by omega)) (by rw[tkT_c hlt];decide) nV2 fV2)).trans (FrB.st nV3 fV3),Tk.of hV3 rfl hrs,(fV3 _ hUS).trans oV2,by omega,?_⟩ (by simp[intA];omega)
   rw[hcol,e5,columnP_add,columnP,hns]
   simp[columnP,Option.map_map,Function.comp_def]
  ·have hge2:j=nn:=by have:=dF hge2;omega
   subst hge2
   rw[bin_add (by omega) (by omega)]
   refine hKE _ _ ⟨i+1,pre ++ [cur],l2,rfl,by omega,by simp[hpre],hl2,fTV,⟨zv,hV⟩,?_⟩ (by simp[intA];omega)
   rw[hq,hcol,Nat.sub_self]
   simp[columnP,Option.map_map,Function.comp_def]
 ·have hge:i=4:=by have:¬ (i:Int)<4:=dF hge
                   omega
  subst hge
  refine h1 pre l' ?_ U fU.1 hU fU
  rw[hq]
  simp[colsN]
end
section
set_option maxRecDepth 100000
def c100:Code:=(Tryz.f100.body).getD .skip
def r100:List ResultVar:=Tryz.f100.results.toList
def env100_0(y0 y3 y4 y5:AV):List AV:=[y0,y3,y4,y5]
def lv100_0:List Nat:=[0,3,4,5]
def ms100:List (List Nat):=[lv100_0,[]]
def m100(x0:AV)(S:Store)(Q:PoT):Prop:=
 loopV lv100_0 (vc Pg (c100.at_ [1,1,1,0,1,0,0]) (ms100.drop 1)) 32 (env100_0 x0 .nl (.v (.int .i64 0)) (.v (.int .i64 0))) S (blockK 0 (seqK (vc Pg (c100.at_ [1,1,1,1]) (ms100.drop 1)) (bodyK Pg r100 Q)))
theorem calls100{x0:AV}{S:Store}{Q:PoT}(h:m100 x0 S Q):ACalls Pg 100 [x0] S Q:=
 calls_of_vc (fn:=Tryz.f100) (c:=c100) (n:=32) Tryz.func100 (by kernel_rfl) (by kernel_rfl) (by kernel_rfl) ms100 (Eq.mpr (by kernel_rfl) h)
def b100_0(y0 y3 y4 y5:AV)(S:Store)(KE0:KeT)(Q:PoT):Prop:=
 lenStr y0 S fun a S=>bin .leq 0 y5 a S fun c S=>onB c fun b=>gd b (lenStr y0 S fun d S=>bin .eql 0 y5 d S fun e S=>onB e fun b=>gd b ((none:Option AV)=none∧slcStr y0 (some y4) (some y5) S fun f S=>bslN 9 1 1 [.v (.string ByteArray.empty)] [(0,f)] S fun g S=>appS 9 1 16 y3 g S fun h S=>bin .add 0 y5 (.v (.int .i64 1)) S fun i S=>bin .add 0 y5 (.v (.int .i64 1)) S fun k S=>KE0 32 (env100_0 y0 h i k) S) (ixStr y0 y5 S fun l S=>bin .eql 0 l (.v (.int .u8 32)) S fun m S=>onB m fun b=>gd b ((none:Option AV)=none∧slcStr y0 (some y4) (some y5) S fun n S=>bslN 9 1 1 [.v (.string ByteArray.empty)] [(0,n)] S fun o S=>appS 9 1 16 y3 o S fun p S=>bin .add 0 y5 (.v (.int .i64 1)) S fun q S=>bin .add 0 y5 (.v (.int .i64 1)) S fun r S=>KE0 32 (env100_0 y0 p q r) S) (bin .add 0 y5 (.v (.int .i64 1)) S fun s S=>KE0 32 (env100_0 y0 y3 y4 s) S))) (Q (.ret y3) S)
theorem b100_0_eq(y0 y3 y4 y5:AV)(S:Store)(KE0:KeT)(Q:PoT):vc Pg (c100.at_ [1,1,1,0,1,0,0]) (ms100.drop 1) (mkE 32 lv100_0 (env100_0 y0 y3 y4 y5)) S (thenK (fgK lv100_0 KE0) (blockK 0 (seqK (vc Pg (c100.at_ [1,1,1,1]) (ms100.drop 1)) (bodyK Pg r100 Q))))=b100_0 y0 y3 y4 y5 S KE0 Q:=by kernel_rfl
theorem loop100_0{y0:AV}{y30 y40 y50:AV}{S:Store}{Q:PoT}(I:AV→AV→AV→Store→Prop)(μ:AV→AV→AV→Store→Nat)(h0:I y30 y40 y50 S)
    (hr:∀(y3 y4 y5:AV) (S:Store),I y3 y4 y5 S→∀ KE0:KeT,(∀(y3' y4' y5':AV) (S':Store),I y3' y4' y5' S'→μ y3' y4' y5' S'<μ y3 y4 y5 S→KE0 32 (env100_0 y0 y3' y4' y5') S')→b100_0 y0 y3 y4 y5 S KE0 Q):
    loopV lv100_0 (vc Pg (c100.at_ [1,1,1,0,1,0,0]) (ms100.drop 1)) 32 (env100_0 y0 y30 y40 y50) S (blockK 0 (seqK (vc Pg (c100.at_ [1,1,1,1]) (ms100.drop 1)) (bodyK Pg r100 Q))):=by
 refine⟨fun n e S=>n=32∧∃ y3 y4 y5:AV,e=(env100_0 y0 y3 y4 y5)∧I y3 y4 y5 S,fun _ e S=>μ (e.getD 1 .j) (e.getD 2 .j) (e.getD 3 .j) S,?_,?_⟩
 ·exact⟨_,_,Wk.refl _ _,rfl,_,_,_,rfl,h0⟩
 ·rintro _ e S ⟨rfl,y3,y4,y5,rfl,hI⟩
  exact(b100_0_eq _ _ _ _ _ _ _).mpr (hr y3 y4 y5 S hI _ (fun y3' y4' y5' S' hI' hm=>⟨_,_,Wk.refl _ _,⟨rfl,_,_,_,rfl,hI'⟩,hm⟩))
end
theorem bin_mulW{a b:Int}(kd:Nat){S:Store}{K:AV→Store→Prop}:bin .mul kd (aI a) (aI b) S K=K (aI (IntKind.i64.wrap (a*b))) S:=by
 simp[bin,b2,isSh,cmpI,ariI]
theorem bin_subW{a b:Int}(kd:Nat){S:Store}{K:AV→Store→Prop}:bin .sub kd (aI a) (aI b) S K=K (aI (IntKind.i64.wrap (a - b))) S:=by
 simp[bin,b2,isSh,cmpI,ariI]
theorem numLong{s:ByteArray}(hs:6<s.size)(h2:s.size≤1000000):Ans Pg 102 [.v (.string s)] (aI (-1)):=by
 intro S
 refine calls102 ?_
 unfold m102
 refine loop102_0 (fun y3 y4 S'=>S'=S∧∃(i:Nat) (k:Int),y3=aI k∧y4=aI i∧i≤s.size)
  (fun _ y _=>s.size - ((intA y).getD 0).toNat) ⟨rfl,0,0,rfl,rfl,Nat.zero_le _⟩ ?_
 rintro _ _ _ ⟨rfl,i,k,rfl,rfl,hi⟩ KE hKE
 unfold b102_0
 rw[lenStr_b,bin_lss,onB_v]
 refine gd_of (fun h=>?_) (fun h=>?_)
 ·have h:i<s.size:=by simpa using h
  rw[ixStr_b h,bin_lss,onB_v]
  refine gd_of (fun h1=>⟨rfl,rfl⟩) (fun h1=>?_)
  have h1:=dF h1
  rw[ixStr_b h,bin_gtr,onB_v]
  refine gd_of (fun h2=>⟨rfl,rfl⟩) (fun h2=>?_)
  have h2:=dF h2
  rw[bin_mulW,ixStr_b h,convI_64 _ (by omega) (by omega),bin_addW,bin_subW,bin_add (by omega) (by omega)]
  exact hKE _ _ _ ⟨rfl,i+1,_,rfl,rfl,h⟩ (by simp[intA];omega)
 ·have hge:i=s.size:=by have:=dF h;omega
  rw[lenStr_b,bin_lss,onB_v]
  refine gd_of (fun h1=>⟨rfl,rfl⟩) (fun h1=>?_)
  rw[lenStr_b,bin_gtr,onB_v]
  refine gd_of (fun h6=>⟨rfl,rfl⟩) (fun h6=>absurd (dF h6) (by omega))
theorem numRT{l:Bs}(hl:l.length≤1000000):Ans Pg 102 [aT l] (aI (numR l)):=by
 by_cases h:l.length≤6
 ·exact ans102 (s:=⟨l.toArray⟩) (by simp[ByteArray.size];omega)
 ·rw[numR_long (by omega)]
  exact numLong (s:=⟨l.toArray⟩) (by simp[ByteArray.size];omega) (by simp[ByteArray.size];omega)
theorem extT{w:Bs}{a b:Nat}:(ByteArray.extract ⟨w.toArray⟩ a b)=⟨((w.drop a).take (b - a)).toArray⟩:=by
 apply ByteArray.ext
 apply Array.ext'
 rw[ByteArray.data_extract,Array.toList_extract]
theorem slcTT{w:Bs}{a b:Nat}(hab:a≤b)(hb:b≤w.length){S:Store}{K:AV→Store→Prop}(k:K (aT ((w.drop a).take (b - a))) S):slcStr (aT w) (some (aI a)) (some (aI b)) S K:=by
 refine⟨a,rfl,b,rfl,⟨by omega,by omega,by simp[ByteArray.size];omega⟩,?_⟩
 rw[Int.toNat_natCast,Int.toNat_natCast,extT]
 exact k
theorem slcT0{w:Bs}{b:Nat}(hb:b≤w.length){S:Store}{K:AV→Store→Prop}(k:K (aT (w.take b)) S):slcStr (aT w) none (some (aI b)) S K:=by
 refine⟨0,rfl,b,rfl,⟨by omega,by omega,by simp[ByteArray.size];omega⟩,?_⟩
 rw[Int.toNat_natCast,extT]
 exact k
theorem slcTe{w:Bs}{a:Nat}(ha:a≤w.length){S:Store}{K:AV→Store→Prop}(k:K (aT (w.drop a)) S):slcStr (aT w) (some (aI a)) none S K:=by
 refine⟨a,rfl,w.length,by simp[bnd,ByteArray.size],⟨by omega,by omega,by simp[ByteArray.size]⟩,?_⟩
 rw[Int.toNat_natCast,Int.toNat_natCast,extT,List.take_of_length_le (by simp)]
 exact k
theorem lenT{w:Bs}{S:Store}{K:AV→Store→Prop}:lenStr (aT w) S K=K (aI w.length) S:=by
 refine(lenStr_b (S:=S) (K:=K) ⟨w.toArray⟩).trans ?_
 simp[ByteArray.size]
theorem ixT{w:Bs}{i:Nat}(h:i<w.length){S:Store}{K:AV→Store→Prop}:ixStr (aT w) (aI i) S K=K (.v (.int .u8 (w[i]).toNat)) S:=by
 have e:=ixStr_b (b:=⟨w.toArray⟩) (i:=i) (S:=S) (K:=K) (by simpa[ByteArray.size]using h)
 exact e
theorem take_cut{w:Bs}{a i:Nat}(hai:a≤i)(hi:i<w.length):w.drop a=(w.drop a).take (i - a)++w[i] :: w.drop (i+1):=by
 conv=>lhs;rw[←List.take_append_drop (i - a) (w.drop a)]
 rw[List.drop_drop]
 have e:a+(i - a)=i:=by omega
 rw[e,List.drop_eq_getElem_cons hi]
theorem take_one{w:Bs}{a i:Nat}(hai:a≤i)(hi:i<w.length):(w.drop a).take (i+1 - a)=(w.drop a).take (i - a) ++ [w[i]]:=by
 have e:i+1 - a=(i - a)+1:=by omega
 rw[e,List.take_add_one,List.getElem?_drop]
 have e2:a+(i - a)=i:=by omega
 rw[e2,List.getElem?_eq_getElem hi]
 rfl
theorem ans100{s:Bs}(hs:s.length≤1000000):Ans Pg 100 [aT s] (aL aT (wordsL s)):=by
 refine ACalls.ans_own (f:=fun l:Bs=>Value.string ⟨l.toArray⟩) (e:=9) fun S=>?_
 refine calls100 ?_
 unfold m100
 have hw1:=wordsL_len s
 refine loop100_0 (fun y z x T=>∃(a i:Nat) (ws:List Bs),z=aI a∧x=aI i∧i≤s.length+1∧ws.length≤i∧Keep S T∧Own S.n T y 9 (ws.map fun w=>[aT w])∧((i=s.length+1∧ws=wordsL s)∨(a≤i∧i≤s.length∧wordsL s=ws++wordsL (s.drop a)∧(32:UInt8)∉(s.drop a).take (i - a)))) (fun _ _ x _=>s.length+1 - ((intA x).getD 0).toNat)
  ⟨0,0,[],rfl,rfl,by omega,Nat.le_refl _,Keep.refl _,.nl _ _ _,.inr ⟨Nat.le_refl _,Nat.zero_le _,rfl,by simp⟩⟩ ?_
 rintro y _ _ T ⟨a,i,ws,rfl,rfl,hi,hwi,kT,ho,hor⟩ KE hKE
 unfold b100_0
 rw[lenT,bin_leq,onB_v]
 refine gd_of (fun hle=>?_) (fun hgt=>?_)
 ·have hle:i≤s.length:=by have:=dT hle;omega
  obtain⟨hai,_,hws,h32⟩:a≤i∧i≤s.length∧wordsL s=ws++wordsL (s.drop a)∧(32:UInt8)∉(s.drop a).take (i - a):=by
   rcases hor with⟨e,_⟩|h
   ·omega
   ·exact h
  have put:((i+1=s.length+1∧ws ++ [(s.drop a).take (i - a)]=wordsL s)∨(i+1≤s.length∧wordsL s=(ws ++ [(s.drop a).take (i - a)])++wordsL (s.drop (i+1))))→
      bslN 9 1 1 [.v (.string ByteArray.empty)] [(0,aT ((s.drop a).take (i - a)))] T fun v8 T=>appS 9 1 16 y v8 T fun v9 T=>bin .add 0 (aI i) (.v (.int .i64 1)) T fun v10 T=>bin .add 0 (aI i) (.v (.int .i64 1)) T fun v11 T=>KE 32 (env100_0 (aT s) v9 v10 v11) T:=fun hc=>by
   refine bsl1 rfl (fun _ h=>by cases h) ?_
   refine ho.app kT.1 (c:=[aT ((s.drop a).take (i - a))]) rfl (by simp;omega) (fun x' T' w' b' _=>?_) rfl
   rw[bin_add (by omega) (by omega),bin_add (by omega) (by omega)]
   refine hKE _ _ _ _ ⟨i+1,i+1,ws ++ [(s.drop a).take (i - a)],rfl,rfl,by omega,by simp;omega,ho.keep (Nat.le_refl _) b' kT,by rw[List.map_append];exact w',?_⟩ (by simp[intA];omega)
   rcases hc with hc|⟨h1,h2⟩
   ·exact .inl hc
   ·exact .inr ⟨Nat.le_refl _,h1,h2,by simp⟩
  rw[lenT,bin_eql,onB_v]
  refine gd_of (fun he=>?_) (fun hne=>?_)
  ·have he:i=s.length:=by have:=dT he;omega
   refine⟨rfl,slcTT hai hle ?_⟩
   have hfull:(s.drop a).take (i - a)=s.drop a:=List.take_of_length_le (by rw[List.length_drop];omega)
   exact put (.inl ⟨by omega,by rw[hws,hfull];rw[hfull]at h32;rw[wordsL_one h32]⟩)
  ·have hlt:i<s.length:=by have:=dF hne;omega
   rw[ixT hlt,bin_eql,onB_v]
   refine gd_of (fun he=>?_) (fun hne=>?_)
   ·have he:s[i]=32:=by
      have h:=dT he
      apply UInt8.toNat_inj.1
      show(s[i]).toNat=32
      omega
    refine⟨rfl,slcTT hai hle ?_⟩
    refine put (.inr ⟨hlt,?_⟩)
    have hc:=take_cut hai hlt
    rw[he]at hc
    rw[hws]
    conv=>lhs;rw[hc]
    rw[wordsL_app _ h32]
    simp
   ·rw[bin_add (by omega) (by omega)]
    refine hKE _ _ _ _ ⟨a,i+1,ws,rfl,rfl,by omega,by omega,kT,ho,.inr ⟨by omega,hlt,hws,?_⟩⟩ (by simp[intA];omega)
    rw[take_one hai hlt]
    intro hm
    rcases List.mem_append.1 hm with hm|hm
    ·exact h32 hm
    ·have h:=dF hne
     rw[List.mem_singleton]at hm
     exact h (by rw[←hm];rfl)
 ·have hi:i=s.length+1:=by have:=dF hgt;omega
  rcases hor with⟨_,rfl⟩|⟨_,h,_⟩
  ·exact⟨y,rfl,kT,ho⟩
  ·omega
theorem bin_shlK{a k:Nat}(hk:k≤60)(h:a*2 ^ k<4611686018427387904){S:Store}{K:AV→Store→Prop}:bin .shl 0 (aI a) (aI k) S K=K (aI (a*2 ^ k:Nat)) S:=by
 have h2:¬ ((k:Int)<0):=by omega
 have h3:min (Int.toNat k) IntKind.i64.bits=k:=by rw[Int.toNat_natCast];exact Nat.min_eq_left (by show k≤64;omega)
 have h4:(a:Int)*2 ^ k=((a*2 ^ k:Nat):Int):=by rw[Int.natCast_mul,Int.natCast_pow];rfl
 show optP (b2 .shl 0 (.int .i64 a) (.int .i64 k)) _=_
 have:b2 .shl 0 (.int .i64 a) (.int .i64 k)=some (.int .i64 (a*2 ^ k:Nat)):=by
  simp only[b2,isSh,shI,if_neg h2,h3,h4]
  rw[wrap64 (by omega) (by omega)]
  rfl
 rw[this,optP_some]
theorem bin_or_high{q x k:Nat}(h1:x<2 ^ k)(h2:2 ^ k*q+x<4611686018427387904){S:Store}{K:AV→Store→Prop}:bin .or 0 (aI x) (aI (2 ^ k*q:Nat)) S K=K (aI (2 ^ k*q+x:Nat)) S:=by
 rw[orN (by omega) (by omega) (by rw[Nat.or_comm,or_add h1];omega),Nat.or_comm,or_add h1]
theorem bin_low7{c:Nat}(h:c<256){S:Store}{K:AV→Store→Prop}:bin .andNot 0 (aI c) (.v (.int .i64 128)) S K=K (aI (c % 128:Nat)) S:=by
 have key:∀ a:Fin 256,IntKind.i64.wrap ((BitVec.ofInt 64 (a.val:Int) &&& ~~~BitVec.ofInt 64 128).toNat:Nat)=((a.val % 128:Nat):Int):=by decide +kernel
 have e:=key ⟨c,h⟩
 show optP (b2 .andNot 0 (.int .i64 c) (.int .i64 128)) _=_
 have:b2 .andNot 0 (.int .i64 c) (.int .i64 128)=some (.int .i64 (c % 128:Nat)):=by
  show(some (IntKind.i64.wrap ((BitVec.ofInt 64 (c:Int) &&& ~~~BitVec.ofInt 64 128).toNat:Nat))).map (Value.int .i64)=_
  rw[e];rfl
 rw[this,optP_some]
theorem pow7(i:Nat):128 ^ i=2 ^ (7*i):=by rw[Nat.pow_mul]
section
variable {S0 T:Store} {l:Bs} {M:List Int} {c:Ci} {inp:Int} {r:Nat→List (List AV)} {z:Nat→AV}
set_option maxRecDepth 100000 in
theorem TkZ.delta(h:TkZ S0 T l M inp r z z)(hl:l.length≤1000000){Q:AEnd→Store→Prop}{K:AV→Store→Prop}
    (h1:∀ m b,takeD l=some (m,b)→∀ T',T.n≤T'.n→TkZ S0 T' b M inp r z z→(∀ x,x≠S0.n→x<T.n→T'.obj x=T.obj x)→K (aI (m:Nat)) T')
    (h0:takeD l=none→∀ T',Keep S0 T'→Q (wr 21) T'):callF Pg 67 [.a [.p S0.n 0 0]] T Q K:=by
 refine .inl (calls67 ?_)
 unfold m67
 refine boxA_of (cs:=[.p S0.n 0 0]) rfl fun T1 k1 n1 o1=>?_
 have h':=h.keep k1
 have hlt:=h.lt
 have lpn:∀{P:AV→AV→Prop},P (.p T.n 0 (0+0)) (.p S0.n 0 0)→∃ q4,(∀ U,Keep T1 U→shift (.p T.n 0 0) 0 U fun v S=>v=q4∧S=U)∧∃ q6,(∀ U,Keep T1 U→ld1 q4 U fun v S=>v=q6∧S=U)∧P q4 q6:=fun k=>L_shift (L_ldp o1 (by omega) rfl rfl k)
 refine loop67_0 (fun x y U=>∃ i n:Nat,x=aI n∧y=aI i∧i≤3∧n<128 ^ i∧U=T1∧takeD l=takeN (3 - i) i n (l.drop i)) (fun _ y _=>3 - ((intA y).getD 0).toNat) ⟨0,0,rfl,rfl,by decide,by decide,rfl,by simp[takeD]⟩ ?_
 rintro _ _ _ ⟨i,n,rfl,rfl,hi,hn,rfl,hq⟩ KE hKE
 unfold b67_0
 rw[bin_lss,onB_v]
 refine gd_of (fun hlt3=>?_) (fun hge=>?_)
 ·have hi3:i<3:=by have:(i:Int)<3:=dT hlt3
                   omega
  have e3:3 - i=(3 - (i+1))+1:=by omega
  rw[e3]at hq
  refine lpn ?_
  refine lpn ?_
  refine⟨_,fun U hU=>by rw[nilChk_p];exact⟨rfl,rfl⟩,?_⟩
  refine L_shift ?_
  refine⟨aT l,fun U hU=>W (h'.keep hU).ldl ⟨rfl,rfl⟩,?_⟩
  refine⟨aI l.length,fun U hU=>by rw[lenT];exact⟨rfl,rfl⟩,?_⟩
  refine⟨aB (decide ((i:Int)<l.length)),fun U hU=>by rw[bin_lss];exact⟨rfl,rfl⟩,?_⟩
  refine Want_c (fun hw=>?_) (fun hw=>h0 (by
   have hw:=dF hw
   rw[hq,List.drop_eq_nil_of_le (by omega),takeN]) _ h'.kp)
  have hw:i<l.length:=by have:=dT hw;omega
  rw[List.drop_eq_getElem_cons hw,takeN]at hq
  have hc:=(l[i]).toNat_lt
  rw[shift_p,ld1_p o1 rfl rfl,nilChk_p,shift_p,h'.ldl,ixT hw,convI_64 .u8 (by omega) (by omega),bin_low7 (by omega),bin_mul (by omega) (by omega)]
  have e7:7*(i:Int)=((7*i:Nat):Int):=by omega
  have hP:2 ^ (7*i)≤2 ^ 14:=Nat.pow_le_pow_right (by decide) (by omega)
  have hP2:(2:Nat) ^ 14=16384:=by decide
  have hmul:∀ x,x<128→2 ^ (7*i)*x≤16384*127:=fun x hx=>Nat.mul_le_mul (by omega) (by omega)
  have hb:=hmul (l[i].toNat % 128) (Nat.mod_lt _ (by decide))
  rw[pow7 i]at hn hq
  rw[e7,bin_shlK (by omega) (by rw[Nat.mul_comm];omega),Nat.mul_comm (l[i].toNat % 128),bin_or_high hn (by omega),bin_lss,onB_v]
  refine gd_of (fun h128=>?_) (fun h128=>?_)
  ·have h128:l[i].toNat<128:=by have:((l[i].toNat:Nat):Int)<128:=dT h128
                                omega
   rw[if_pos h128]at hq
   have ev:2 ^ (7*i)*(l[i].toNat % 128)+n=n+l[i].toNat*2 ^ (7*i):=by
    rw[Nat.mod_eq_of_lt h128,Nat.mul_comm,Nat.add_comm]
   rw[ev,shift_p,ld1_p o1 rfl rfl,bin_eql,onB_v]
   refine gd_of (fun hi0=>?_) (fun hi0=>?_)
   ·have hi0:i=0:=by have:=dT hi0;omega
    refine Want_c (fun _=>?_) (fun h=>by cases h)
    rw[if_pos (.inl hi0)]at hq
    refine lpn ?_
    refine lpn ?_
    refine⟨_,fun U hU=>by rw[nilChk_p];exact⟨rfl,rfl⟩,?_⟩
    refine L_shift ?_
    refine⟨aT l,fun U hU=>W (h'.keep hU).ldl ⟨rfl,rfl⟩,?_⟩
    refine⟨aI (i+1:Nat),fun U hU=>by rw[bin_add (by omega) (by omega)];exact⟨rfl,rfl⟩,?_⟩
    refine⟨_,fun U hU=>⟨rfl,slcTe (a:=i+1) (by omega) ⟨rfl,rfl⟩⟩,?_⟩
    refine⟨_,fun U hU=>by rw[nilChk_p];exact⟨rfl,rfl⟩,?_⟩
    refine L_shift ?_
    refine h'.st tkC_sl (by decide) rfl h.len fun T2 n2 f2 h2=>h1 _ _ hq T2 (by have:=k1.1;omega) h2 fun x hx hx2=>?_
    rw[f2 x hx,k1.2 x hx2]
   ·have hi0:¬ i=0:=by have:=dF hi0;omega
    rw[bin_gtr]
    refine Want_c (fun h0'=>?_) (fun h0'=>h0 (by
     have h0':¬ (0:Int)<((l[i].toNat:Nat):Int):=dF h0'
     rw[hq,if_neg]
     intro e
     rcases e with e|e
     ·exact hi0 e
     ·omega) _ h'.kp)
    have h0':(0:Int)<((l[i].toNat:Nat):Int):=dT h0'
    rw[if_pos (.inr (by omega))]at hq
    refine lpn ?_
    refine lpn ?_
    refine⟨_,fun U hU=>by rw[nilChk_p];exact⟨rfl,rfl⟩,?_⟩
    refine L_shift ?_
    refine⟨aT l,fun U hU=>W (h'.keep hU).ldl ⟨rfl,rfl⟩,?_⟩
    refine⟨aI (i+1:Nat),fun U hU=>by rw[bin_add (by omega) (by omega)];exact⟨rfl,rfl⟩,?_⟩
    refine⟨_,fun U hU=>⟨rfl,slcTe (a:=i+1) (by omega) ⟨rfl,rfl⟩⟩,?_⟩
    refine⟨_,fun U hU=>by rw[nilChk_p];exact⟨rfl,rfl⟩,?_⟩
    refine L_shift ?_
    refine h'.st tkC_sl (by decide) rfl h.len fun T2 n2 f2 h2=>h1 _ _ hq T2 (by have:=k1.1;omega) h2 fun x hx hx2=>?_
    rw[f2 x hx,k1.2 x hx2]
  ·have h128:¬ l[i].toNat<128:=by have:¬ ((l[i].toNat:Nat):Int)<128:=dF h128
                                  omega
   rw[if_neg h128]at hq
   have ev:2 ^ (7*i)*(l[i].toNat % 128)+n=n+(l[i].toNat - 128)*2 ^ (7*i):=by
    have:l[i].toNat % 128=l[i].toNat - 128:=by omega
    rw[this,Nat.mul_comm,Nat.add_comm]
   have hb2:=hb
   rw[ev,bin_add (by omega) (by omega)]
   refine hKE _ _ _ ⟨i+1,_,rfl,rfl,hi3,?_,rfl,hq⟩ (by simp[intA];omega)
   rw[pow7,←ev]
   have e8:2 ^ (7*(i+1))=2 ^ (7*i)*128:=by rw[Nat.mul_add,Nat.pow_add]
   rw[e8]
   have e9:2 ^ (7*i)*(l[i].toNat % 128)+2 ^ (7*i)≤2 ^ (7*i)*128:=by
    rw[←Nat.mul_succ]
    exact Nat.mul_le_mul_left _ (Nat.mod_lt _ (by decide))
   omega
 ·have hi3:i=3:=by have:¬ (i:Int)<3:=dF hge
                   omega
  subst hi3
  rw[shift_p,ld1_p o1 rfl rfl]
  exact Want_c (fun h=>by cases h) (fun _=>h0 (by rw[hq,Nat.sub_self,takeN]) _ h'.kp)
theorem takes_bin{s:Bs}(hs:s.length≤20000):Takes 66 s (oB s):=by
 intro S0 T Q K h h1 h0
 refine .inl (calls66 ?_)
 unfold m66
 have hTlt:S0.n<T.n:=by obtain⟨z,hz⟩:=h;exact hz.lt
 have hne:T.n≠S0.n:=by omega
 refine⟨[.p S0.n 0 0],rfl,?_⟩
 refine boxA_of (cs:=[.v (.pointer none)]) rfl fun T1 k1 n1 o1=>?_
 refine stA_of (cs':=[.p S0.n 0 0]) o1 rfl rfl fun T2 n2 o2 f2=>?_
 have kT:Keep T T2:=k1.st (Nat.le_refl _) n2 f2
 have BX:∀{U V:Store},(U.obj T.n=some (.cells 96 [[.p S0.n 0 0]] true)∧T.n<U.n)→FrB S0 U V→(V.obj T.n=some (.cells 96 [[.p S0.n 0 0]] true)∧T.n<V.n):=fun{U V} hb hf=>⟨hf.2 T.n _ hne hb.2 hb.1,Nat.lt_of_lt_of_le hb.2 hf.1⟩
 have lpn:∀{U:Store},(U.obj T.n=some (.cells 96 [[.p S0.n 0 0]] true)∧T.n<U.n)→∀{P:AV→AV→Prop},P (.p T.n 0 (0+0)) (.p S0.n 0 0)→∃ q4,(∀ V,Keep U V→shift (.p T.n 0 0) 0 V fun v S=>v=q4∧S=V)∧∃ q6,(∀ V,Keep U V→ld1 q4 V fun v S=>v=q6∧S=V)∧P q4 q6:=fun{U} hb {P} k=>L_shift (L_ldp hb.1 hb.2 rfl rfl k)
 rw[shift_p,ld1_p o2 rfl rfl]
 refine Tk.headB (h.keep kT) (by omega) (word:=[97,105,103]) (fun M l1 hh U1 nU1 hU1 fU1=>?_) (fun hh T' hT'=>h0 20 (by unfold oB;rw[hh]) T' hT')
 have bx1:=BX ⟨o2,by omega⟩ (FrB.of nU1 fun x hx _=>fU1 x hx)
 have hM0:=headP_ok hh
 have hl1:l1.length≤1000000:=by omega
 have hM:∀ j,0≤M.getD j 0∧M.getD j 0≤2000:=fun j=>by
  rw[List.getD_eq_getElem?_getD]
  cases hg:M[j]? with
  |none=>exact⟨by decide,by decide⟩
  |some v=>exact hM0.2.2.1 v (List.mem_of_getElem? hg)
 have hmi:∀ j,aI (M.getD j 0)=aI ((mAt M j:Nat):Int):=fun j=>by
  have:=hM j
  congr 1
  show _=(((M.getD j 0).toNat:Nat):Int)
  omega
 have hmN:∀ j,mAt M j≤2000:=fun j=>by
  have:=hM j
  show(M.getD j 0).toNat≤2000
  omega
 have hm1:=hM 1
 have hm2:=hM 2
 have h1:∀ cc,bodyB M l1=some cc→∀ M b T',Tk S0 T' b M cc→K (.t []) T':=fun cc hb=>h1 cc (by unfold oB;rw[hh];simp only;rw[hb])
 have h21:bodyB M l1=none→∀ T',Keep S0 T'→Q (wr 21) T':=fun hb=>h0 21 (by unfold oB;rw[hh];simp only;rw[hb])
 obtain⟨z1,hZ1⟩:=hU1
 rw[shift_p,ld1_p bx1.1 rfl rfl]
 refine callF_at (hZ1.lats hM) ?_
 rw[extr0,extr1,hmi]
 have hbody:bodyB M l1=(latchesB (2*(M.getD 1 0+1)) (mAt M 2) 0 l1).bind (restB M (mAt M 4)):=rfl
 generalize hn2:mAt M 2=N2 at hbody
 have hN2:N2≤2000:=by rw[←hn2];exact hmN 2
 refine loop66_0 (fun y V=>∃(i:Nat) (pre:List (Int × Int)) (l3:Bs),y=aI i∧i≤N2∧pre.length=i∧l3.length≤l1.length∧(V.obj T.n=some (.cells 96 [[.p S0.n 0 0]] true)∧T.n<V.n)∧Tk S0 V l3 M ⟨M.getD 1 0,pre,[],[],[],[],[],[]⟩∧latchesB (2*(M.getD 1 0+1)) N2 0 l1=(latchesB (2*(M.getD 1 0+1)) (N2 - i) i l3).map fun p=>(pre++p.1,p.2)) (fun y _=>N2 - ((intA y).getD 0).toNat)
  ⟨0,[],l1,rfl,Nat.zero_le _,rfl,Nat.le_refl _,bx1,⟨z1,hZ1⟩,by simp⟩ ?_
 rintro _ V ⟨i,pre,l3,rfl,hi,hpre,hl3,bx,⟨zv,hV⟩,hq⟩ KE hKE
 unfold b66_0
 rw[bin_lss,onB_v]
 refine gd_of (fun hlt=>?_) (fun hge=>?_)
 ·have hlt:i<N2:=by have:=dT hlt;omega
  have e5:N2 - i=(N2 - (i+1))+1:=by omega
  rw[e5,latchesB]at hq
  rw[shift_p,ld1_p bx.1 rfl rfl]
  refine hV.nums (least:=1) (most:=2) (by omega) (by decide) (fun ns b hns V1 id nV1 hV1 o1 hid1 hid2 fV1=>?_) (fun hn V' hV'=>h21 (by rw[hbody,hq,hn];rfl) V' hV')
  have hns1:=numbersP_ok hns
  rw[hns]at hq
  simp only at hq
  have bxv:=BX bx (FrB.of nV1 fV1)
  refine lpn bxv ?_
  refine⟨_,fun U hU=>by rw[bin_mul (by omega) (by omega)];exact⟨rfl,rfl⟩,?_⟩
  refine⟨_,fun U hU=>by rw[bin_add (by omega) (by omega)];exact⟨rfl,rfl⟩,?_⟩
  refine Lix o1 hid2 (j:=0) (by decide) hns1.1 ?_
  refine Lix o1 hid2 (j:=1) (by decide) hns1.1 ?_
  refine Tk.latchB (c:=⟨M.getD 1 0,pre,[],[],[],[],[],[]⟩) ⟨zv,hV1⟩ (by show pre.length≤_;omega) (fun k hk V2 nV2 hV2 fV2=>?_) (fun hk=>h21 (by rw[hbody,hq,hk];rfl) _ hV1.kp)
  rw[hk]at hq
  rw[bin_add (by omega) (by omega)]
  refine hKE _ _ ⟨i+1,pre ++ [(ns.getD 0 0,k)],b,rfl,hlt,by simp[hpre],by have:=hns1.2.1;omega,BX bxv fV2,hV2,?_⟩ (by simp[intA];omega)
  rw[hq]
  simp[Option.map_map,Function.comp_def]
 have hge:i=N2:=by have:=dF hge;omega
 subst hge
 rw[Nat.sub_self,latchesB]at hq
 rw[hq,Option.map_some,Option.bind_some]at hbody
 simp only[List.append_nil,restB,colsP_N]at hbody
 rw[shift_p,ld1_p bx.1 rfl rfl]
 refine Tk.columnsB (c:=⟨M.getD 1 0,pre,[],[],[],[],[],[]⟩) ⟨zv,hV⟩ (by omega) hM rfl (fun L l4 hcl V2 nV2 hV2 fV2=>?_) (fun hn V' hV'=>h21 (by rw[hbody,hn];rfl) V' hV')
 rw[hcl,Option.map_some,Option.bind_some]at hbody
 have hcok:=colsP_ok (M:=M) (l:=l3) (q:=(tup L,l4)) (by rw[colsP_N,hcl];rfl)
 have hl4:l4.length≤l1.length:=by have:=hcok.1;simp only at this;omega
 have bx4:=BX bx fV2
 obtain⟨z4,hZ4⟩:=hV2
 rw[shift_p,ld1_p bx4.1 rfl rfl]
 refine callF_at (hZ4.gates hM) ?_
 rw[extr0,extr1,hmi]
 simp only at hbody
 generalize hn4:mAt M 4=N4 at hbody
 have hN4:N4≤2000:=by rw[←hn4];exact hmN 4
 refine loop66_1 (fun y V=>∃(i:Nat) (ga:List (Int × Int)) (l5:Bs),y=aI i∧i≤N4∧ga.length=i∧l5.length≤l1.length∧(V.obj T.n=some (.cells 96 [[.p S0.n 0 0]] true)∧T.n<V.n)∧Tk S0 V l5 M ⟨M.getD 1 0,pre,ga,L.getD 0 [],L.getD 1 [],L.getD 2 [],L.getD 3 [],[]⟩∧andsB (2*(M.getD 1 0+M.getD 2 0+1)) N4 0 l4=(andsB (2*(M.getD 1 0+M.getD 2 0+1)) (N4 - i) i l5).map fun p=>(ga++p.1,p.2)) (fun y _=>N4 - ((intA y).getD 0).toNat)
  ⟨0,[],l4,rfl,Nat.zero_le _,rfl,hl4,bx4,⟨z4,hZ4⟩,by simp⟩ ?_
 rintro _ V ⟨i,ga,l5,rfl,hi,hga,hl5,bx,⟨zv,hV⟩,hq⟩ KE hKE
 unfold b66_1
 rw[bin_lss,onB_v]
 refine gd_of (fun hlt=>?_) (fun hge=>?_)
 ·have hlt:i<N4:=by have:=dT hlt;omega
  have e5:N4 - i=(N4 - (i+1))+1:=by omega
  rw[e5,andsB]at hq
  rw[bin_mul (by omega) (by omega),bin_add (by omega) (by omega),ldN_p (n:=1) bx.1 rfl]
  refine hV.delta (by omega) (fun a l6 ha V1 nV1 hV1 fV1=>?_) (fun hn V' hV'=>h21 (by rw[hbody,hq,hn];rfl) V' hV')
  have hak:=takeD_ok ha
  rw[ha]at hq
  simp only at hq
  rw[bin_sub (by omega) (by omega)]
  have bx1':=BX bx (FrB.of nV1 fV1)
  refine lpn bx1' ?_
  refine lpn bx1' ?_
  refine⟨_,fun U hU=>by rw[nilChk_p];exact⟨rfl,rfl⟩,?_⟩
  refine L_shift ?_
  refine L_shift ?_
  refine⟨zv 1,fun U hU=>W ((hV1.keep hU).ldz (j:=1) (by decide)) ⟨rfl,rfl⟩,?_⟩
  refine L_ldN bx1'.1 bx1'.2 rfl ?_
  refine hV1.delta (by omega) (fun b l7 hb V2 nV2 hV2 fV2=>?_) (fun hn V' hV'=>h21 (by rw[hbody,hq,hn];rfl) V' hV')
  have hbk:=takeD_ok hb
  rw[hb]at hq
  simp only at hq
  have bx2':=BX bx1' (FrB.of nV2 fV2)
  have pn2:∀{V':Store},Keep V2 V'→(ld1 (.p T.n 0 0) V' fun v S=>v = .p S0.n 0 0∧S=V'):=fun{V'} k=>by
   rw[ld1_p ((k.2 _ bx2'.2).trans bx2'.1) rfl rfl];exact⟨rfl,rfl⟩
  refine⟨fun U hU=>W ((hV2.keep hU).ldz (j:=1) (by decide)) ⟨rfl,rfl⟩,?_⟩
  refine⟨fun U hU=>by rw[shift_p];exact⟨rfl,rfl⟩,?_⟩
  refine⟨fun U hU=>by rw[shift_p];exact⟨rfl,rfl⟩,?_⟩
  refine⟨fun U hU=>by rw[nilChk_p];exact⟨rfl,rfl⟩,?_⟩
  refine⟨fun U hU=>pn2 hU,?_⟩
  refine⟨fun U hU=>by rw[shift_p];exact⟨rfl,rfl⟩,?_⟩
  refine⟨fun U hU=>pn2 hU,?_⟩
  refine⟨fun U hU=>by rw[shift_p];exact⟨rfl,rfl⟩,?_⟩
  refine⟨_,fun U hU=>by rw[bin_sub (by omega) (by omega)];exact⟨rfl,rfl⟩,?_⟩
  refine⟨_,fun U hU=>⟨[aI (2*(M.getD 1 0+M.getD 2 0+1)+2*(i:Int) - a),aI (2*(M.getD 1 0+M.getD 2 0+1)+2*(i:Int) - a - b)],rfl,rfl,rfl⟩,?_⟩
  refine⟨_,fun U hU=>bslA2 rfl ⟨rfl,rfl⟩,?_⟩
  refine hV2.app (j:=1) (by decide) rfl (c:=[aI (2*(M.getD 1 0+M.getD 2 0+1)+2*(i:Int) - a),aI (2*(M.getD 1 0+M.getD 2 0+1)+2*(i:Int) - a - b)]) rfl (by simp[Ci.rowsOf];omega) rfl fun x' V3 hx' nV3 hV3 fV3=>?_
  have bx3':=BX bx2' (FrB.app (hV2.rows.own 1 (by decide)) (by decide) nV3 fV3)
  refine⟨fun U hU=>by rw[ld1_p ((hU.2 _ bx3'.2).trans bx3'.1) rfl rfl];exact⟨rfl,rfl⟩,?_⟩
  refine⟨fun U hU=>by rw[shift_p];exact⟨rfl,rfl⟩,?_⟩
  refine⟨_,fun U hU=>by rw[nilChk_p];exact⟨rfl,rfl⟩,?_⟩
  refine L_shift ?_
  refine L_shift ?_
  refine hV3.st (i:=11+1) (tkC_sz hV2.len (by decide)) (by decide) hx' hV2.len fun V4 nV4 fV4 hV4=>?_
  rw[bin_add (by omega) (by omega)]
  refine hKE _ _ ⟨i+1,ga ++ [(2*(M.getD 1 0+M.getD 2 0+1)+2*(i:Int) - a,2*(M.getD 1 0+M.getD 2 0+1)+2*(i:Int) - a - b)],l7,rfl,hlt,by simp[hga],by omega,BX bx3' (FrB.st nV4 fV4),Tk.of hV4 rfl (rows_addA ⟨M.getD 1 0,pre,ga,L.getD 0 [],L.getD 1 [],L.getD 2 [],L.getD 3 [],[]⟩ _),?_⟩ (by simp[intA];omega)
  rw[hq]
  simp[Option.map_map,Function.comp_def]
 have hge:i=N4:=by have:=dF hge;omega
 subst hge
 rw[Nat.sub_self,andsB]at hq
 rw[hq,Option.map_some,Option.bind_some]at hbody
 simp only[List.append_nil]at hbody
 rw[shift_p,ld1_p bx.1 rfl rfl]
 refine Tk.names (c:=⟨M.getD 1 0,pre,ga,L.getD 0 [],L.getD 1 [],L.getD 2 [],L.getD 3 [],[]⟩) ⟨zv,hV⟩ (by omega) rfl (fun ns hns b' V3 hV3=>?_) (fun hn V' hV'=>h21 (by rw[hbody,hn];rfl) V' hV')
 rw[hns,Option.map_some]at hbody
 exact h1 _ hbody M b' V3 hV3
theorem ans31(s:Bs):Ans Pg 31 [aT s] (retC (parseB s)):=by
 intro S
 refine ACalls.tree (calls31 ?_)
 unfold m31
 refine boxA_of rfl fun S1 k1 n1 o1=>?_
 refine callF_ans (ans50 (fun h=>takes_bin h) (o:=oB s) (fun h c hc=>oB_ok (by omega) c hc)) ?_
 have hp:(if 20000<s.length then(cE,2)else outP (oB s))=parseB s:=rfl
 rw[hp]
 have e0:∀{S:Store} {K:AV→Store→Prop},extr (retC (parseB s)) 0 S K=K (parseB s).1.av S:=fun{S K}=>ext_t rfl
 have e1:∀{S:Store} {K:AV→Store→Prop},extr (retC (parseB s)) 1 S K=K (aI (parseB s).2) S:=fun{S K}=>ext_t rfl
 rw[e0,e1]
 refine stA_of (cs':=(parseB s).1.cells) o1 rfl rfl fun S2 n2 o2 f2=>?_
 rw[ldN_p (n:=8) o2 rfl]
 exact⟨_,rfl,k1.st (Nat.le_refl _) n2 f2,.t _ _ rfl (cvT2 (cvAv _) (.v _))⟩
end
section
set_option maxRecDepth 100000
def c72:Code:=(Tryz.f72.body).getD .skip
def r72:List ResultVar:=Tryz.f72.results.toList
def env72_0(y0:AV):List AV:=[y0]
def lv72_0:List Nat:=[0]
def ms72:List (List Nat):=[lv72_0,[101]]
def m72(x0:AV)(S:Store)(Q:PoT):Prop:=
 loopV lv72_0 (vc Pg (c72.at_ [0,0]) (ms72.drop 1)) 73 (env72_0 x0) S (blockK 0 (bodyK Pg r72 Q))
theorem calls72{x0:AV}{S:Store}{Q:PoT}(h:m72 x0 S Q):ACalls Pg 72 [x0] S Q:=
 calls_of_vc (fn:=Tryz.f72) (c:=c72) (n:=73) Tryz.func72 (by kernel_rfl) (by kernel_rfl) (by kernel_rfl) ms72 (Eq.mpr (by kernel_rfl) h)
def b72_0(y0:AV)(S:Store)(KE0:KeT)(Q:PoT):Prop:=
 nilChk y0 S fun a S=>shift a 0 S fun c S=>ld1 c S fun d S=>bin .neq 0 d (.v (.string { data:=#[] })) S fun e S=>onB e fun b=>gd b (nilChk y0 S fun f S=>shift f 1 S fun g S=>ld1 g S fun h S=>un .not h S fun i S=>onB i fun b=>gd b (callF Pg 101 [y0] S Q fun k S=>bin .eql 0 k (.v (.string { data:=#[99] })) S fun l S=>onB l fun b=>gd b (Q (.ret (.t [])) S) (callF Pg 100 [k] S Q fun m S=>nilChk y0 S fun n S=>shift n 1 S fun o S=>ld1 o S fun p S=>onB p fun b=>gd b (nilChk y0 S fun q S=>shift q 1 S fun r S=>stN 1 r (.v (.bool true)) S fun s S=>Q (.ret (.t [])) S) (lenS m S fun u S=>bin .neq 0 u (.v (.int .i64 2)) S fun w S=>onB w fun b=>gd b (nilChk y0 S fun x S=>shift x 1 S fun y S=>stN 1 y (.v (.bool true)) S fun z S=>Q (.ret (.t [])) S) (ixS 9 1 m (.v (.int .i64 0)) S fun A S=>ld1 A S fun B S=>lenStr B S fun C S=>bin .lss 0 C (.v (.int .i64 2)) S fun D S=>onB D fun b=>gd b (nilChk y0 S fun E S=>shift E 1 S fun F S=>stN 1 F (.v (.bool true)) S fun G S=>Q (.ret (.t [])) S) (ixS 9 1 m (.v (.int .i64 0)) S fun H S=>ld1 H S fun I S=>(none:Option AV)=none∧slcStr I (some (.v (.int .i64 1))) none S fun J S=>callF Pg 102 [J] S Q fun K S=>bin .lss 0 K (.v (.int .i64 0)) S fun L S=>onB L fun b=>gd b (nilChk y0 S fun M S=>shift M 1 S fun N S=>stN 1 N (.v (.bool true)) S fun O S=>Q (.ret (.t [])) S) (∃ P:AV,(∀ T:Store,Keep S T→nilChk y0 T fun R S=>R=P∧S=T)∧∃ U:AV,(∀ T:Store,Keep S T→shift P 3 T fun V S=>V=U∧S=T)∧∃ W:AV,(∀ T:Store,Keep S T→shift U 7 T fun X S=>X=W∧S=T)∧∃ Y:AV,(∀ T:Store,Keep S T→ld1 W T fun Z S=>Z=Y∧S=T)∧∃ a0:AV,(∀ T:Store,Keep S T→ixS 9 1 m (.v (.int .i64 0)) T fun a1 S=>a1=a0∧S=T)∧∃ a2:AV,(∀ T:Store,Keep S T→ld1 a0 T fun a3 S=>a3=a2∧S=T)∧∃ a4:AV,(∀ T:Store,Keep S T→ixStr a2 (.v (.int .i64 0)) T fun a5 S=>a5=a4∧S=T)∧∃ a6:AV,(∀ T:Store,Keep S T→ixS 9 1 m (.v (.int .i64 0)) T fun a7 S=>a7=a6∧S=T)∧∃ a8:AV,(∀ T:Store,Keep S T→ld1 a6 T fun a9 S=>a9=a8∧S=T)∧∃ b0:AV,(∀ T:Store,Keep S T→(none:Option AV)=none∧slcStr a8 (some (.v (.int .i64 1))) none T fun b1 S=>b1=b0∧S=T)∧∃ b2:AV,(∀ T:Store,Keep S T→callF Pg 102 [b0] T (fun _ _=>False) fun b3 S=>b3=b2∧S=T)∧∃ b4:AV,(∀ T:Store,Keep S T→ixS 9 1 m (.v (.int .i64 1)) T fun b6 S=>b6=b4∧S=T)∧∃ b7:AV,(∀ T:Store,Keep S T→ld1 b4 T fun b8 S=>b8=b7∧S=T)∧∃ b9:AV,(∀ T:Store,Keep S T→bld [(0,1),(1,1),(2,1)] [.v (.int .u8 0),.v (.int .i64 0),.v (.string ByteArray.empty)] [(0,a4),(1,b2),(2,b7)] T fun c0 S=>c0=b9∧S=T)∧∃ c1:AV,(∀ T:Store,Keep S T→bslN 75 3 1 [.v (.int .u8 0),.v (.int .i64 0),.v (.string ByteArray.empty)] [(0,b9)] T fun c2 S=>c2=c1∧S=T)∧appS 75 3 32 Y c1 S fun c3 S=>∃ c4:AV,(∀ T:Store,Keep S T→nilChk y0 T fun c5 S=>c5=c4∧S=T)∧∃ c6:AV,(∀ T:Store,Keep S T→shift c4 3 T fun c7 S=>c7=c6∧S=T)∧∃ c8:AV,(∀ T:Store,Keep S T→shift c6 7 T fun c9 S=>c9=c8∧S=T)∧stN 1 c8 c3 S fun d0 S=>KE0 73 (env72_0 y0) S)))))) (Q (.ret (.t [])) S)) (Q (.ret (.t [])) S)
theorem b72_0_eq(y0:AV)(S:Store)(KE0:KeT)(Q:PoT):vc Pg (c72.at_ [0,0]) (ms72.drop 1) (mkE 73 lv72_0 (env72_0 y0)) S (thenK (fgK lv72_0 KE0) (blockK 0 (bodyK Pg r72 Q)))=b72_0 y0 S KE0 Q:=by kernel_rfl
theorem loop72_0{y0:AV}{S:Store}{Q:PoT}(I:Store→Prop)(μ:Store→Nat)(h0:I  S)
    (hr:∀(S:Store),I  S→∀ KE0:KeT,(∀(S':Store),I  S'→μ  S'<μ  S→KE0 73 (env72_0 y0) S')→b72_0 y0 S KE0 Q):
    loopV lv72_0 (vc Pg (c72.at_ [0,0]) (ms72.drop 1)) 73 (env72_0 y0) S (blockK 0 (bodyK Pg r72 Q)):=by
 refine⟨fun n e S=>n=73∧e=(env72_0 y0)∧I  S,fun _ e S=>μ  S,?_,?_⟩
 ·exact⟨_,_,Wk.refl _ _,rfl,rfl,h0⟩
 ·rintro _ e S ⟨rfl,rfl,hI⟩
  exact(b72_0_eq _ _ _ _).mpr (hr  S hI _ (fun  S' hI' hm=>⟨_,_,Wk.refl _ _,⟨rfl,rfl,hI'⟩,hm⟩))
def c73:Code:=(Tryz.f73.body).getD .skip
def ms73:List (List Nat):=[[]]
def m73(x0:AV)(S:Store)(Q:PoT):Prop:=
 boxN 29 8 (.a [.v (.int .i64 0),.nl,.nl,.nl,.nl,.nl,.nl,.nl]) S fun c S=>nilChk x0 S fun d S=>shift d 1 S fun e S=>ld1 e S fun f S=>onB f fun b=>gd b (bld [(0,1),(1,1),(2,1),(3,1),(4,1),(5,1),(6,1),(7,1)] [.v (.int .i64 0),.nl,.nl,.nl,.nl,.nl,.nl,.nl] [] S fun g S=>stN 8 c g S fun h S=>ldN 8 c S fun i _=>Q (.ret (.t [i,.v (.int .i64 21)])) S) (nilChk x0 S fun k S=>shift k 3 S fun l S=>ldN 8 l S fun m S=>callF Pg 42 [m] S Q fun n S=>un .not n S fun o S=>onB o fun b=>gd b (bld [(0,1),(1,1),(2,1),(3,1),(4,1),(5,1),(6,1),(7,1)] [.v (.int .i64 0),.nl,.nl,.nl,.nl,.nl,.nl,.nl] [] S fun p S=>stN 8 c p S fun q S=>ldN 8 c S fun r _=>Q (.ret (.t [r,.v (.int .i64 22)])) S) (nilChk x0 S fun s S=>shift s 3 S fun u S=>ldN 8 u S fun w S=>stN 8 c w S fun x S=>ldN 8 c S fun y _=>Q (.ret (.t [y,.v (.int .i64 0)])) S))
theorem calls73{x0:AV}{S:Store}{Q:PoT}(h:m73 x0 S Q):ACalls Pg 73 [x0] S Q:=
 calls_of_vc (fn:=Tryz.f73) (c:=c73) (n:=20) Tryz.func73 (by kernel_rfl) (by kernel_rfl) (by kernel_rfl) ms73 (Eq.mpr (by kernel_rfl) h)
def c68:Code:=(Tryz.f68.body).getD .skip
def r68:List ResultVar:=Tryz.f68.results.toList
def env68_0(y0 y5 y6:AV):List AV:=[y0,y5,y6]
def lv68_0:List Nat:=[0,5,6]
def ms68:List (List Nat):=[lv68_0,[101]]
def m68(x0 x1:AV)(S:Store)(Q:PoT):Prop:=
 callF Pg 101 [x0] S Q fun a S=>callF Pg 100 [a] S Q fun c S=>nilChk x0 S fun d S=>shift d 1 S fun e S=>ld1 e S fun f S=>onB f fun b=>gd b (Q (.ret (.v (.bool false))) S) (ixS 9 1 c (.v (.int .i64 0)) S fun g S=>ld1 g S fun h S=>bin .neq 0 h x1 S fun i S=>onB i fun b=>gd b (Q (.ret (.v (.bool false))) S) (lenS c S fun k S=>bin .lss 0 k (.v (.int .i64 6)) S fun l S=>onB l fun b=>gd b (Q (.ret (.v (.bool false))) S) (lenS c S fun m S=>bin .gtr 0 m (.v (.int .i64 10)) S fun n S=>onB n fun b=>gd b (Q (.ret (.v (.bool false))) S) (loopV lv68_0 (vc Pg (c68.at_ [1,1,1,0,1,0,0]) (ms68.drop 1)) 107 (env68_0 x0 c (.v (.int .i64 1))) S (blockK 0 (seqK (vc Pg (c68.at_ [1,1,1,1]) (ms68.drop 1)) (bodyK Pg r68 Q)))))))
theorem calls68{x0 x1:AV}{S:Store}{Q:PoT}(h:m68 x0 x1 S Q):ACalls Pg 68 [x0,x1] S Q:=
 calls_of_vc (fn:=Tryz.f68) (c:=c68) (n:=107) Tryz.func68 (by kernel_rfl) (by kernel_rfl) (by kernel_rfl) ms68 (Eq.mpr (by kernel_rfl) h)
def b68_0(y0 y5 y6:AV)(S:Store)(KE0:KeT)(Q:PoT):Prop:=
 bin .lss 0 y6 (.v (.int .i64 10)) S fun a S=>onB a fun b=>gd b (lenS y5 S fun c S=>bin .lss 0 y6 c S fun d S=>onB d fun b=>gd b (ixS 9 1 y5 y6 S fun e S=>ld1 e S fun f S=>callF Pg 102 [f] S Q fun g S=>bin .lss 0 g (.v (.int .i64 0)) S fun h S=>onB h fun b=>gd b (Q (.ret (.v (.bool false))) S) (bin .gtr 0 g (.v (.int .i64 2000)) S fun i S=>onB i fun b=>gd b (Q (.ret (.v (.bool false))) S) (nilChk y0 S fun k S=>shift k 2 S fun l S=>ld1 l S fun m S=>bslN 3 1 1 [.v (.int .i64 0)] [(0,g)] S fun n S=>appS 3 1 8 m n S fun o S=>nilChk y0 S fun p S=>shift p 2 S fun q S=>stN 1 q o S fun r S=>bin .add 0 y6 (.v (.int .i64 1)) S fun s S=>KE0 107 (env68_0 y0 y5 s) S))) (bin .lss 0 (.v (.int .i64 0)) (.v (.int .i64 0)) S fun t S=>onB t fun b=>gd b (Q (.ret (.v (.bool false))) S) (bin .gtr 0 (.v (.int .i64 0)) (.v (.int .i64 2000)) S fun u S=>onB u fun b=>gd b (Q (.ret (.v (.bool false))) S) (nilChk y0 S fun w S=>shift w 2 S fun x S=>ld1 x S fun y S=>bslN 3 1 1 [.v (.int .i64 0)] [(0,(.v (.int .i64 0)))] S fun z S=>appS 3 1 8 y z S fun A S=>nilChk y0 S fun B S=>shift B 2 S fun C S=>stN 1 C A S fun D S=>bin .add 0 y6 (.v (.int .i64 1)) S fun E S=>KE0 107 (env68_0 y0 y5 E) S)))) (nilChk y0 S fun F S=>shift F 2 S fun G S=>ld1 G S fun H S=>ixS 3 1 H (.v (.int .i64 1)) S fun I S=>ld1 I S fun J S=>nilChk y0 S fun K S=>shift K 3 S fun L S=>shift L 0 S fun M S=>stN 1 M J S fun N S=>(fun S0:Store=>∃ O:AV,(nilChk y0 S fun P S=>P=O∧S=S0)∧∃ R:AV,(shift O 2 S fun T S=>T=R∧S=S0)∧∃ U:AV,(ld1 R S fun V S=>V=U∧S=S0)∧∃ W:AV,(ixS 3 1 U (.v (.int .i64 0)) S fun X S=>X=W∧S=S0)∧∃ Y:AV,(ld1 W S fun Z S=>Z=Y∧S=S0)∧∃ a0:AV,(nilChk y0 S fun a1 S=>a1=a0∧S=S0)∧∃ a2:AV,(shift a0 2 S fun a3 S=>a3=a2∧S=S0)∧∃ a4:AV,(ld1 a2 S fun a5 S=>a5=a4∧S=S0)∧∃ a6:AV,(ixS 3 1 a4 (.v (.int .i64 1)) S fun a7 S=>a7=a6∧S=S0)∧∃ a8:AV,(ld1 a6 S fun a9 S=>a9=a8∧S=S0)∧∃ b0:AV,(nilChk y0 S fun b1 S=>b1=b0∧S=S0)∧∃ b2:AV,(shift b0 2 S fun b3 S=>b3=b2∧S=S0)∧∃ b4:AV,(ld1 b2 S fun b5 S=>b5=b4∧S=S0)∧∃ b6:AV,(ixS 3 1 b4 (.v (.int .i64 2)) S fun b7 S=>b7=b6∧S=S0)∧∃ b8:AV,(ld1 b6 S fun b9 S=>b9=b8∧S=S0)∧∃ c0:AV,(bin .add 0 a8 b8 S fun c1 S=>c1=c0∧S=S0)∧∃ c2:AV,(nilChk y0 S fun c3 S=>c3=c2∧S=S0)∧∃ c4:AV,(shift c2 2 S fun c5 S=>c5=c4∧S=S0)∧∃ c6:AV,(ld1 c4 S fun c7 S=>c7=c6∧S=S0)∧∃ c8:AV,(ixS 3 1 c6 (.v (.int .i64 4)) S fun c9 S=>c9=c8∧S=S0)∧∃ d0:AV,(ld1 c8 S fun d1 S=>d1=d0∧S=S0)∧∃ d2:AV,(bin .add 0 c0 d0 S fun d3 S=>d3=d2∧S=S0)∧∃ d4:AV,(bin .eql 0 Y d2 S fun d5 S=>d5=d4∧S=S0)∧onB d4 fun b=>gd b (∃ d6:AV,(nilChk y0 S fun d7 S=>d7=d6∧S=S0)∧∃ d8:AV,(shift d6 2 S fun d9 S=>d9=d8∧S=S0)∧∃ e0:AV,(ld1 d8 S fun e1 S=>e1=e0∧S=S0)∧∃ e2:AV,(ixS 3 1 e0 (.v (.int .i64 7)) S fun e3 S=>e3=e2∧S=S0)∧∃ e4:AV,(ld1 e2 S fun e5 S=>e5=e4∧S=S0)∧∃ e6:AV,(bin .eql 0 e4 (.v (.int .i64 0)) S fun e7 S=>e7=e6∧S=S0)∧∃ e8:AV,(e6=e8∧S=S0)∧Q (.ret e8) S) (∃ e9:AV,((.v (.bool false))=e9∧S=S0)∧Q (.ret e9) S)) S)
theorem b68_0_eq(y0 y5 y6:AV)(S:Store)(KE0:KeT)(Q:PoT):vc Pg (c68.at_ [1,1,1,0,1,0,0]) (ms68.drop 1) (mkE 107 lv68_0 (env68_0 y0 y5 y6)) S (thenK (fgK lv68_0 KE0) (blockK 0 (seqK (vc Pg (c68.at_ [1,1,1,1]) (ms68.drop 1)) (bodyK Pg r68 Q))))=b68_0 y0 y5 y6 S KE0 Q:=by kernel_rfl
theorem loop68_0{y0 y5:AV}{y60:AV}{S:Store}{Q:PoT}(I:AV→Store→Prop)(μ:AV→Store→Nat)(h0:I y60 S)
    (hr:∀(y6:AV) (S:Store),I y6 S→∀ KE0:KeT,(∀(y6':AV) (S':Store),I y6' S'→μ y6' S'<μ y6 S→KE0 107 (env68_0 y0 y5 y6') S')→b68_0 y0 y5 y6 S KE0 Q):
    loopV lv68_0 (vc Pg (c68.at_ [1,1,1,0,1,0,0]) (ms68.drop 1)) 107 (env68_0 y0 y5 y60) S (blockK 0 (seqK (vc Pg (c68.at_ [1,1,1,1]) (ms68.drop 1)) (bodyK Pg r68 Q))):=by
 refine⟨fun n e S=>n=107∧∃ y6:AV,e=(env68_0 y0 y5 y6)∧I y6 S,fun _ e S=>μ (e.getD 2 .j) S,?_,?_⟩
 ·exact⟨_,_,Wk.refl _ _,rfl,_,rfl,h0⟩
 ·rintro _ e S ⟨rfl,y6,rfl,hI⟩
  exact(b68_0_eq _ _ _ _ _ _).mpr (hr y6 S hI _ (fun y6' S' hI' hm=>⟨_,_,Wk.refl _ _,⟨rfl,_,rfl,hI'⟩,hm⟩))
def c70:Code:=(Tryz.f70.body).getD .skip
def ms70:List (List Nat):=[[]]
def m70(x0 x1 x2 x3:AV)(S:Store)(Q:PoT):Prop:=
 bin .eql 0 x3 x1 S fun a S=>onB a fun b=>gd b (bin .gtr 0 (.v (.int .i64 2)) (.v (.int .i64 2)) S fun c S=>onB c fun b=>gd b (nilChk x0 S fun d S=>shift d 1 S fun e S=>stN 1 e (.v (.bool true)) S fun f S=>nilChk x0 S fun g S=>shift g 3 S fun h S=>shift h 1 S fun i S=>ld1 i S fun k S=>bld [(0,1),(1,1)] [.v (.int .i64 0),.v (.int .i64 0)] [(0,x2),(1,(.v (.int .i64 2)))] S fun l S=>bslN 51 2 1 [.v (.int .i64 0),.v (.int .i64 0)] [(0,l)] S fun m S=>appS 51 2 16 k m S fun n S=>nilChk x0 S fun o S=>shift o 3 S fun p S=>shift p 1 S fun q S=>stN 1 q n S fun r S=>Q (.ret (.t [])) S) (bin .eql 0 (.v (.int .i64 2)) (.v (.int .i64 2)) S fun s S=>onB s fun b=>gd b (bin .neq 0 x3 x1 S fun u S=>onB u fun b=>gd b (nilChk x0 S fun w S=>shift w 1 S fun x S=>stN 1 x (.v (.bool true)) S fun y S=>nilChk x0 S fun z S=>shift z 3 S fun A S=>shift A 1 S fun B S=>ld1 B S fun C S=>bld [(0,1),(1,1)] [.v (.int .i64 0),.v (.int .i64 0)] [(0,x2),(1,(.v (.int .i64 2)))] S fun D S=>bslN 51 2 1 [.v (.int .i64 0),.v (.int .i64 0)] [(0,D)] S fun E S=>appS 51 2 16 C E S fun F S=>nilChk x0 S fun G S=>shift G 3 S fun H S=>shift H 1 S fun I S=>stN 1 I F S fun J S=>Q (.ret (.t [])) S) (nilChk x0 S fun K S=>shift K 3 S fun L S=>shift L 1 S fun M S=>ld1 M S fun N S=>bld [(0,1),(1,1)] [.v (.int .i64 0),.v (.int .i64 0)] [(0,x2),(1,(.v (.int .i64 2)))] S fun O S=>bslN 51 2 1 [.v (.int .i64 0),.v (.int .i64 0)] [(0,O)] S fun P S=>appS 51 2 16 N P S fun R S=>nilChk x0 S fun T S=>shift T 3 S fun U S=>shift U 1 S fun V S=>stN 1 V R S fun W S=>Q (.ret (.t [])) S)) (nilChk x0 S fun X S=>shift X 3 S fun Y S=>shift Y 1 S fun Z S=>ld1 Z S fun a0 S=>bld [(0,1),(1,1)] [.v (.int .i64 0),.v (.int .i64 0)] [(0,x2),(1,(.v (.int .i64 2)))] S fun a1 S=>bslN 51 2 1 [.v (.int .i64 0),.v (.int .i64 0)] [(0,a1)] S fun a2 S=>appS 51 2 16 a0 a2 S fun a3 S=>nilChk x0 S fun a4 S=>shift a4 3 S fun a5 S=>shift a5 1 S fun a6 S=>stN 1 a6 a3 S fun a7 S=>Q (.ret (.t [])) S))) (bin .gtr 0 x3 (.v (.int .i64 2)) S fun a8 S=>onB a8 fun b=>gd b (nilChk x0 S fun a9 S=>shift a9 1 S fun b0 S=>stN 1 b0 (.v (.bool true)) S fun b1 S=>nilChk x0 S fun b3 S=>shift b3 3 S fun b5 S=>shift b5 1 S fun b6 S=>ld1 b6 S fun b7 S=>bld [(0,1),(1,1)] [.v (.int .i64 0),.v (.int .i64 0)] [(0,x2),(1,x3)] S fun b8 S=>bslN 51 2 1 [.v (.int .i64 0),.v (.int .i64 0)] [(0,b8)] S fun b9 S=>appS 51 2 16 b7 b9 S fun c0 S=>nilChk x0 S fun c1 S=>shift c1 3 S fun c2 S=>shift c2 1 S fun c3 S=>stN 1 c3 c0 S fun c4 S=>Q (.ret (.t [])) S) (bin .eql 0 x3 (.v (.int .i64 2)) S fun c5 S=>onB c5 fun b=>gd b (bin .neq 0 x3 x1 S fun c6 S=>onB c6 fun b=>gd b (nilChk x0 S fun c7 S=>shift c7 1 S fun c8 S=>stN 1 c8 (.v (.bool true)) S fun c9 S=>nilChk x0 S fun d0 S=>shift d0 3 S fun d1 S=>shift d1 1 S fun d2 S=>ld1 d2 S fun d3 S=>bld [(0,1),(1,1)] [.v (.int .i64 0),.v (.int .i64 0)] [(0,x2),(1,x3)] S fun d4 S=>bslN 51 2 1 [.v (.int .i64 0),.v (.int .i64 0)] [(0,d4)] S fun d5 S=>appS 51 2 16 d3 d5 S fun d6 S=>nilChk x0 S fun d7 S=>shift d7 3 S fun d8 S=>shift d8 1 S fun d9 S=>stN 1 d9 d6 S fun e0 S=>Q (.ret (.t [])) S) (nilChk x0 S fun e1 S=>shift e1 3 S fun e2 S=>shift e2 1 S fun e3 S=>ld1 e3 S fun e4 S=>bld [(0,1),(1,1)] [.v (.int .i64 0),.v (.int .i64 0)] [(0,x2),(1,x3)] S fun e5 S=>bslN 51 2 1 [.v (.int .i64 0),.v (.int .i64 0)] [(0,e5)] S fun e6 S=>appS 51 2 16 e4 e6 S fun e7 S=>nilChk x0 S fun e8 S=>shift e8 3 S fun e9 S=>shift e9 1 S fun f0 S=>stN 1 f0 e7 S fun f1 S=>Q (.ret (.t [])) S)) (nilChk x0 S fun f2 S=>shift f2 3 S fun f3 S=>shift f3 1 S fun f4 S=>ld1 f4 S fun f5 S=>bld [(0,1),(1,1)] [.v (.int .i64 0),.v (.int .i64 0)] [(0,x2),(1,x3)] S fun f6 S=>bslN 51 2 1 [.v (.int .i64 0),.v (.int .i64 0)] [(0,f6)] S fun f7 S=>appS 51 2 16 f5 f7 S fun f8 S=>nilChk x0 S fun f9 S=>shift f9 3 S fun g0 S=>shift g0 1 S fun g1 S=>stN 1 g1 f8 S fun g2 S=>Q (.ret (.t [])) S)))
theorem calls70{x0 x1 x2 x3:AV}{S:Store}{Q:PoT}(h:m70 x0 x1 x2 x3 S Q):ACalls Pg 70 [x0,x1,x2,x3] S Q:=
 calls_of_vc (fn:=Tryz.f70) (c:=c70) (n:=41) Tryz.func70 (by kernel_rfl) (by kernel_rfl) (by kernel_rfl) ms70 (Eq.mpr (by kernel_rfl) h)
def c103:Code:=(Tryz.f103.body).getD .skip
def r103:List ResultVar:=Tryz.f103.results.toList
def env103_0(y0 y1 y5 y6:AV):List AV:=[y0,y1,y5,y6]
def lv103_0:List Nat:=[0,1,5,6]
def ms103:List (List Nat):=[lv103_0,[69]]
def m103(x0 x1:AV)(S:Store)(Q:PoT):Prop:=
 loopV lv103_0 (vc Pg (c103.at_ [1,1,0,1,0,0]) (ms103.drop 1)) 27 (env103_0 x0 x1 .nl (.v (.int .i64 0))) S (blockK 0 (seqK (vc Pg (c103.at_ [1,1,1]) (ms103.drop 1)) (bodyK Pg r103 Q)))
theorem calls103{x0 x1:AV}{S:Store}{Q:PoT}(h:m103 x0 x1 S Q):ACalls Pg 103 [x0,x1] S Q:=
 calls_of_vc (fn:=Tryz.f103) (c:=c103) (n:=27) Tryz.func103 (by kernel_rfl) (by kernel_rfl) (by kernel_rfl) ms103 (Eq.mpr (by kernel_rfl) h)
def b103_0(y0 y1 y5 y6:AV)(S:Store)(KE0:KeT)(Q:PoT):Prop:=
 bin .lss 0 y6 y1 S fun a S=>onB a fun b=>gd b (nilChk y0 S fun c S=>shift c 1 S fun d S=>ld1 d S fun e S=>un .not e S fun f S=>onB f fun b=>gd b (callF Pg 69 [y0,.v (.int .i64 1),.v (.int .i64 1)] S Q fun g S=>ixS 3 1 g (.v (.int .i64 0)) S fun h S=>ld1 h S fun i S=>bslN 3 1 1 [.v (.int .i64 0)] [(0,i)] S fun k S=>appS 3 1 8 y5 k S fun l S=>bin .add 0 y6 (.v (.int .i64 1)) S fun m S=>KE0 27 (env103_0 y0 y1 l m) S) (Q (.ret y5) S)) (Q (.ret y5) S)
theorem b103_0_eq(y0 y1 y5 y6:AV)(S:Store)(KE0:KeT)(Q:PoT):vc Pg (c103.at_ [1,1,0,1,0,0]) (ms103.drop 1) (mkE 27 lv103_0 (env103_0 y0 y1 y5 y6)) S (thenK (fgK lv103_0 KE0) (blockK 0 (seqK (vc Pg (c103.at_ [1,1,1]) (ms103.drop 1)) (bodyK Pg r103 Q))))=b103_0 y0 y1 y5 y6 S KE0 Q:=by kernel_rfl
theorem loop103_0{y0 y1:AV}{y50 y60:AV}{S:Store}{Q:PoT}(I:AV→AV→Store→Prop)(μ:AV→AV→Store→Nat)(h0:I y50 y60 S)
    (hr:∀(y5 y6:AV) (S:Store),I y5 y6 S→∀ KE0:KeT,(∀(y5' y6':AV) (S':Store),I y5' y6' S'→μ y5' y6' S'<μ y5 y6 S→KE0 27 (env103_0 y0 y1 y5' y6') S')→b103_0 y0 y1 y5 y6 S KE0 Q):
    loopV lv103_0 (vc Pg (c103.at_ [1,1,0,1,0,0]) (ms103.drop 1)) 27 (env103_0 y0 y1 y50 y60) S (blockK 0 (seqK (vc Pg (c103.at_ [1,1,1]) (ms103.drop 1)) (bodyK Pg r103 Q))):=by
 refine⟨fun n e S=>n=27∧∃ y5 y6:AV,e=(env103_0 y0 y1 y5 y6)∧I y5 y6 S,fun _ e S=>μ (e.getD 2 .j) (e.getD 3 .j) S,?_,?_⟩
 ·exact⟨_,_,Wk.refl _ _,rfl,_,_,rfl,h0⟩
 ·rintro _ e S ⟨rfl,y5,y6,rfl,hI⟩
  exact(b103_0_eq _ _ _ _ _ _ _).mpr (hr y5 y6 S hI _ (fun y5' y6' S' hI' hm=>⟨_,_,Wk.refl _ _,⟨rfl,_,_,rfl,hI'⟩,hm⟩))
def c71:Code:=(Tryz.f71.body).getD .skip
def ms71:List (List Nat):=[[103]]
def m71(x0:AV)(S:Store)(Q:PoT):Prop:=
 nilChk x0 S fun a S=>shift a 2 S fun c S=>ld1 c S fun d S=>ixS 3 1 d (.v (.int .i64 3)) S fun e S=>ld1 e S fun f S=>callF Pg 103 [x0,f] S Q fun g S=>nilChk x0 S fun h S=>shift h 3 S fun i S=>shift i 3 S fun k S=>stN 1 k g S fun l S=>nilChk x0 S fun m S=>shift m 2 S fun n S=>ld1 n S fun o S=>ixS 3 1 o (.v (.int .i64 5)) S fun p S=>ld1 p S fun q S=>callF Pg 103 [x0,q] S Q fun r S=>nilChk x0 S fun s S=>shift s 3 S fun u S=>shift u 4 S fun w S=>stN 1 w r S fun x S=>nilChk x0 S fun y S=>shift y 2 S fun z S=>ld1 z S fun A S=>ixS 3 1 A (.v (.int .i64 6)) S fun B S=>ld1 B S fun C S=>callF Pg 103 [x0,C] S Q fun D S=>nilChk x0 S fun E S=>shift E 3 S fun F S=>shift F 5 S fun G S=>stN 1 G D S fun H S=>nilChk x0 S fun I S=>shift I 2 S fun J S=>ld1 J S fun K S=>ixS 3 1 K (.v (.int .i64 8)) S fun L S=>ld1 L S fun M S=>callF Pg 103 [x0,M] S Q fun N S=>nilChk x0 S fun O S=>shift O 3 S fun P S=>shift P 6 S fun R S=>stN 1 R N S fun T S=>Q (.ret (.t [])) S
theorem calls71{x0:AV}{S:Store}{Q:PoT}(h:m71 x0 S Q):ACalls Pg 71 [x0] S Q:=
 calls_of_vc (fn:=Tryz.f71) (c:=c71) (n:=50) Tryz.func71 (by kernel_rfl) (by kernel_rfl) (by kernel_rfl) ms71 (Eq.mpr (by kernel_rfl) h)
def c69:Code:=(Tryz.f69.body).getD .skip
def r69:List ResultVar:=Tryz.f69.results.toList
def env69_0(y0 y1 y2 y7 y8 y9:AV):List AV:=[y0,y1,y2,y7,y8,y9]
def lv69_0:List Nat:=[0,1,2,7,8,9]
def env69_1(y2 y8:AV):List AV:=[y2,y8]
def lv69_1:List Nat:=[2,8]
def ms69:List (List Nat):=[lv69_0,lv69_1,[101]]
def m69(x0 x1 x2:AV)(S:Store)(Q:PoT):Prop:=
 callF Pg 101 [x0] S Q fun a S=>callF Pg 100 [a] S Q fun c S=>loopV lv69_0 (vc Pg (c69.at_ [1,1,1,0,1,0,0]) (ms69.drop 1)) 55 (env69_0 x0 x1 x2 c .nl (.v (.int .i64 0))) S (blockK 0 (seqK (vc Pg (c69.at_ [1,1,1,1]) (ms69.drop 1)) (bodyK Pg r69 Q)))
theorem calls69{x0 x1 x2:AV}{S:Store}{Q:PoT}(h:m69 x0 x1 x2 S Q):ACalls Pg 69 [x0,x1,x2] S Q:=
 calls_of_vc (fn:=Tryz.f69) (c:=c69) (n:=55) Tryz.func69 (by kernel_rfl) (by kernel_rfl) (by kernel_rfl) ms69 (Eq.mpr (by kernel_rfl) h)
def b69_0(y0 y1 y2 y7 y8 y9:AV)(S:Store)(KE0:KeT)(Q:PoT):Prop:=
 lenS y7 S fun a S=>bin .lss 0 y9 a S fun c S=>onB c fun b=>gd b (ixS 9 1 y7 y9 S fun d S=>ld1 d S fun e S=>callF Pg 102 [e] S Q fun f S=>bin .lss 0 f (.v (.int .i64 0)) S fun g S=>onB g fun b=>gd b (nilChk y0 S fun h S=>shift h 1 S fun i S=>stN 1 i (.v (.bool true)) S fun k S=>bslN 3 1 1 [.v (.int .i64 0)] [(0,f)] S fun l S=>appS 3 1 8 y8 l S fun m S=>bin .add 0 y9 (.v (.int .i64 1)) S fun n S=>KE0 55 (env69_0 y0 y1 y2 y7 m n) S) (bslN 3 1 1 [.v (.int .i64 0)] [(0,f)] S fun o S=>appS 3 1 8 y8 o S fun p S=>bin .add 0 y9 (.v (.int .i64 1)) S fun q S=>KE0 55 (env69_0 y0 y1 y2 y7 p q) S)) (lenS y7 S fun r S=>bin .lss 0 r y1 S fun s S=>onB s fun b=>gd b (nilChk y0 S fun t S=>shift t 1 S fun u S=>stN 1 u (.v (.bool true)) S fun w S=>loopV lv69_1 (vc Pg (c69.at_ [1,1,1,1,1,0,0,0]) (ms69.drop 2)) 55 (env69_1 y2 y8) S (blockK 2 (seqK (vc Pg (c69.at_ [1,1,1,1,1,1]) (ms69.drop 2)) (bodyK Pg r69 Q)))) (lenS y7 S fun x S=>bin .gtr 0 x y2 S fun y S=>onB y fun b=>gd b (nilChk y0 S fun z S=>shift z 1 S fun A S=>stN 1 A (.v (.bool true)) S fun B S=>loopV lv69_1 (vc Pg (c69.at_ [1,1,1,1,1,0,0,0]) (ms69.drop 2)) 55 (env69_1 y2 y8) S (blockK 2 (seqK (vc Pg (c69.at_ [1,1,1,1,1,1]) (ms69.drop 2)) (bodyK Pg r69 Q)))) (loopV lv69_1 (vc Pg (c69.at_ [1,1,1,1,1,0,0,0]) (ms69.drop 2)) 55 (env69_1 y2 y8) S (blockK 2 (seqK (vc Pg (c69.at_ [1,1,1,1,1,1]) (ms69.drop 2)) (bodyK Pg r69 Q))))))
theorem b69_0_eq(y0 y1 y2 y7 y8 y9:AV)(S:Store)(KE0:KeT)(Q:PoT):vc Pg (c69.at_ [1,1,1,0,1,0,0]) (ms69.drop 1) (mkE 55 lv69_0 (env69_0 y0 y1 y2 y7 y8 y9)) S (thenK (fgK lv69_0 KE0) (blockK 0 (seqK (vc Pg (c69.at_ [1,1,1,1]) (ms69.drop 1)) (bodyK Pg r69 Q))))=b69_0 y0 y1 y2 y7 y8 y9 S KE0 Q:=by kernel_rfl
theorem loop69_0{y0 y1 y2 y7:AV}{y80 y90:AV}{S:Store}{Q:PoT}(I:AV→AV→Store→Prop)(μ:AV→AV→Store→Nat)(h0:I y80 y90 S)
    (hr:∀(y8 y9:AV) (S:Store),I y8 y9 S→∀ KE0:KeT,(∀(y8' y9':AV) (S':Store),I y8' y9' S'→μ y8' y9' S'<μ y8 y9 S→KE0 55 (env69_0 y0 y1 y2 y7 y8' y9') S')→b69_0 y0 y1 y2 y7 y8 y9 S KE0 Q):
    loopV lv69_0 (vc Pg (c69.at_ [1,1,1,0,1,0,0]) (ms69.drop 1)) 55 (env69_0 y0 y1 y2 y7 y80 y90) S (blockK 0 (seqK (vc Pg (c69.at_ [1,1,1,1]) (ms69.drop 1)) (bodyK Pg r69 Q))):=by
 refine⟨fun n e S=>n=55∧∃ y8 y9:AV,e=(env69_0 y0 y1 y2 y7 y8 y9)∧I y8 y9 S,fun _ e S=>μ (e.getD 4 .j) (e.getD 5 .j) S,?_,?_⟩
 ·exact⟨_,_,Wk.refl _ _,rfl,_,_,rfl,h0⟩
 ·rintro _ e S ⟨rfl,y8,y9,rfl,hI⟩
  exact(b69_0_eq _ _ _ _ _ _ _ _ _).mpr (hr y8 y9 S hI _ (fun y8' y9' S' hI' hm=>⟨_,_,Wk.refl _ _,⟨rfl,_,_,rfl,hI'⟩,hm⟩))
def b69_1(y2 y8:AV)(S:Store)(KE1:KeT)(Q:PoT):Prop:=
 lenS y8 S fun a S=>bin .lss 0 a y2 S fun c S=>onB c fun b=>gd b (bslN 3 1 1 [.v (.int .i64 0)] [(0,(.v (.int .i64 0)))] S fun d S=>appS 3 1 8 y8 d S fun e S=>KE1 55 (env69_1 y2 e) S) (Q (.ret y8) S)
theorem b69_1_eq(y2 y8:AV)(S:Store)(KE1:KeT)(Q:PoT):vc Pg (c69.at_ [1,1,1,1,1,0,0,0]) (ms69.drop 2) (mkE 55 lv69_1 (env69_1 y2 y8)) S (thenK (fgK lv69_1 KE1) (blockK 2 (seqK (vc Pg (c69.at_ [1,1,1,1,1,1]) (ms69.drop 2)) (bodyK Pg r69 Q))))=b69_1 y2 y8 S KE1 Q:=by kernel_rfl
theorem loop69_1{y2:AV}{y80:AV}{S:Store}{Q:PoT}(I:AV→Store→Prop)(μ:AV→Store→Nat)(h0:I y80 S)
    (hr:∀(y8:AV) (S:Store),I y8 S→∀ KE1:KeT,(∀(y8':AV) (S':Store),I y8' S'→μ y8' S'<μ y8 S→KE1 55 (env69_1 y2 y8') S')→b69_1 y2 y8 S KE1 Q):
    loopV lv69_1 (vc Pg (c69.at_ [1,1,1,1,1,0,0,0]) (ms69.drop 2)) 55 (env69_1 y2 y80) S (blockK 2 (seqK (vc Pg (c69.at_ [1,1,1,1,1,1]) (ms69.drop 2)) (bodyK Pg r69 Q))):=by
 refine⟨fun n e S=>n=55∧∃ y8:AV,e=(env69_1 y2 y8)∧I y8 S,fun _ e S=>μ (e.getD 1 .j) S,?_,?_⟩
 ·exact⟨_,_,Wk.refl _ _,rfl,_,rfl,h0⟩
 ·rintro _ e S ⟨rfl,y8,rfl,hI⟩
  exact(b69_1_eq _ _ _ _ _).mpr (hr y8 S hI _ (fun y8' S' hI' hm=>⟨_,_,Wk.refl _ _,⟨rfl,_,rfl,hI'⟩,hm⟩))
def c101:Code:=(Tryz.f101.body).getD .skip
def r101:List ResultVar:=Tryz.f101.results.toList
def env101_0(y0 y3:AV):List AV:=[y0,y3]
def lv101_0:List Nat:=[0,3]
def ms101:List (List Nat):=[lv101_0,[]]
def m101(x0:AV)(S:Store)(Q:PoT):Prop:=
 loopV lv101_0 (vc Pg (c101.at_ [1,0,1,0,0]) (ms101.drop 1)) 41 (env101_0 x0 (.v (.int .i64 0))) S (blockK 0 (seqK (vc Pg (c101.at_ [1,1]) (ms101.drop 1)) (bodyK Pg r101 Q)))
theorem calls101{x0:AV}{S:Store}{Q:PoT}(h:m101 x0 S Q):ACalls Pg 101 [x0] S Q:=
 calls_of_vc (fn:=Tryz.f101) (c:=c101) (n:=41) Tryz.func101 (by kernel_rfl) (by kernel_rfl) (by kernel_rfl) ms101 (Eq.mpr (by kernel_rfl) h)
def b101_0(y0 y3:AV)(S:Store)(KE0:KeT)(Q:PoT):Prop:=
 nilChk y0 S fun a S=>shift a 0 S fun c S=>ld1 c S fun d S=>lenStr d S fun e S=>bin .lss 0 y3 e S fun f S=>onB f fun b=>gd b (nilChk y0 S fun g S=>shift g 0 S fun h S=>ld1 h S fun i S=>ixStr i y3 S fun k S=>bin .eql 0 k (.v (.int .u8 10)) S fun l S=>onB l fun b=>gd b (nilChk y0 S fun m S=>shift m 0 S fun n S=>ld1 n S fun o S=>(none:Option AV)=none∧slcStr o none (some y3) S fun p S=>nilChk y0 S fun q S=>shift q 0 S fun r S=>ld1 r S fun s S=>bin .add 0 y3 (.v (.int .i64 1)) S fun t S=>(none:Option AV)=none∧slcStr s (some t) none S fun u S=>nilChk y0 S fun w S=>shift w 0 S fun x S=>stN 1 x u S fun y S=>Q (.ret p) S) (bin .add 0 y3 (.v (.int .i64 1)) S fun z S=>KE0 41 (env101_0 y0 z) S)) (nilChk y0 S fun A S=>shift A 1 S fun B S=>stN 1 B (.v (.bool true)) S fun C S=>Q (.ret (.v (.string { data:=#[] }))) S)
theorem b101_0_eq(y0 y3:AV)(S:Store)(KE0:KeT)(Q:PoT):vc Pg (c101.at_ [1,0,1,0,0]) (ms101.drop 1) (mkE 41 lv101_0 (env101_0 y0 y3)) S (thenK (fgK lv101_0 KE0) (blockK 0 (seqK (vc Pg (c101.at_ [1,1]) (ms101.drop 1)) (bodyK Pg r101 Q))))=b101_0 y0 y3 S KE0 Q:=by kernel_rfl
theorem loop101_0{y0:AV}{y30:AV}{S:Store}{Q:PoT}(I:AV→Store→Prop)(μ:AV→Store→Nat)(h0:I y30 S)
    (hr:∀(y3:AV) (S:Store),I y3 S→∀ KE0:KeT,(∀(y3':AV) (S':Store),I y3' S'→μ y3' S'<μ y3 S→KE0 41 (env101_0 y0 y3') S')→b101_0 y0 y3 S KE0 Q):
    loopV lv101_0 (vc Pg (c101.at_ [1,0,1,0,0]) (ms101.drop 1)) 41 (env101_0 y0 y30) S (blockK 0 (seqK (vc Pg (c101.at_ [1,1]) (ms101.drop 1)) (bodyK Pg r101 Q))):=by
 refine⟨fun n e S=>n=41∧∃ y3:AV,e=(env101_0 y0 y3)∧I y3 S,fun _ e S=>μ (e.getD 1 .j) S,?_,?_⟩
 ·exact⟨_,_,Wk.refl _ _,rfl,_,rfl,h0⟩
 ·rintro _ e S ⟨rfl,y3,rfl,hI⟩
  exact(b101_0_eq _ _ _ _ _).mpr (hr y3 S hI _ (fun y3' S' hI' hm=>⟨_,_,Wk.refl _ _,⟨rfl,_,rfl,hI'⟩,hm⟩))
end
def rkC(l:Bs)(bad:Bool)(inp:Int)(y:Nat→AV):List AV:=[aT l,aB bad,y 7,aI inp,y 0,y 1,y 2,y 3,y 4,y 5,y 6]
def rkI(j:Nat):Nat:=if j=7 then 2 else 4+j
structure RkZ (S0 T:Store) (l:Bs) (bad:Bool) (inp:Int) (r:Nat→List (List AV)) (y z:Nat→AV):Prop where
 kp:Keep S0 T
 lt:S0.n<T.n
 ob:T.obj S0.n=some (.cells 100 [rkC l bad inp y] true)
 rows:Rows T (S0.n+1) z r
def rowsM(M:List Int)(c:Ci)(j:Nat):List (List AV):=if j=7 then M.map fun x=>[aI x]else c.rowsOf j
def Rk(S0 T:Store)(l:Bs)(bad:Bool)(M:List Int)(c:Ci):Prop:=∃ z,RkZ S0 T l bad c.inputs (rowsM M c) z z
section
variable {S0 T:Store} {l l':Bs} {bad:Bool} {M:List Int} {inp:Int} {r:Nat→List (List AV)} {y z:Nat→AV} {c:Ci}
theorem rkC_z{j:Nat}(hj:j<8):(rkC l bad inp y)[rkI j]? = some (y j):=by
 match j,hj with
 |0,_=>rfl
 |1,_=>rfl
 |2,_=>rfl
 |3,_=>rfl
 |4,_=>rfl
 |5,_=>rfl
 |6,_=>rfl
 |7,_=>rfl
theorem rkC_sz{j:Nat}(hj:j<8){x:AV}:(rkC l bad inp y).set (rkI j) x=rkC l bad inp (updZ y j x):=by
 match j,hj with
 |0,_=>rfl
 |1,_=>rfl
 |2,_=>rfl
 |3,_=>rfl
 |4,_=>rfl
 |5,_=>rfl
 |6,_=>rfl
 |7,_=>rfl
theorem RkZ.keep(h:RkZ S0 T l bad inp r y z){T':Store}(k:Keep T T'):RkZ S0 T' l bad inp r y z:=
 ⟨h.kp.trans k,Nat.lt_of_lt_of_le h.lt k.1,(k.2 _ h.lt).trans h.ob,h.rows.keep k⟩
theorem RkZ.st(h:RkZ S0 T l bad inp r y z){bad':Bool}{inp':Int}{y':Nat→AV}{i:Nat}{u:AV}(hc:(rkC l bad inp y).set i u=rkC l' bad' inp' y')(hi:i<11)(hu:u.one=true){K:AV→Store→Prop}
    (k:∀ T',T'.n=T.n→(∀ x,x≠S0.n→T'.obj x=T.obj x)→RkZ S0 T' l' bad' inp' r y' z→K .j T'):stN 1 (.p S0.n 0 i) u T K:=by
 refine stF_of h.ob (by simpa[rkC]using hi) hu fun T' n' o' f'=>k T' n' f' ⟨?_,by rw[n'];exact h.lt,by rw[o',hc],⟨fun j hj=>?_,h.rows.dis⟩⟩
 ·exact⟨by rw[n'];exact h.kp.1,fun j hj=>by rw[f' j (by omega)];exact h.kp.2 j hj⟩
 ·exact(h.rows.own j hj).st (fun b m e=>by have:=((h.rows.own j hj).lt e).1;omega) n' f'
theorem RkZ.setBad(h:RkZ S0 T l bad inp r y z){K:AV→Store→Prop}(k:∀ T',T'.n=T.n→(∀ x,x≠S0.n→T'.obj x=T.obj x)→RkZ S0 T' l true inp r y z→K .j T'):stN 1 (.p S0.n 0 1) (.v (.bool true)) T K:=
 h.st rfl (by decide) rfl k
theorem Rows.appT{S:Store}{n:Nat}{z:Nat→AV}{r:Nat→List (List AV)}(h:Rows S n z r)(hn:n≤S.n){j:Nat}(hj:j<8){e sz b:Nat}(he:tkT j=e){c:List AV}(hc:c.length=sz)(hb:((r j).length+1)*b≤140737488355328){x:AV}(hx:srcE S x=some [c]){K:AV→Store→Prop}
    (k:∀ x' S',x'.one=true→S.n≤S'.n→Rows S' n (updZ z j x') (updZ r j (r j ++ [c]))→(∀ i,i<S.n→(∀ b m,z j≠.s i b m)→S'.obj i=S.obj i)→K x' S'):appS e sz b (z j) x S K:=by
 subst he
 refine(h.own j hj).app hn hc hb (fun x' T' w' b' hx'=>?_) hx
 obtain⟨m,rfl⟩:=hx'
 refine k _ T' rfl b'.1 ⟨fun i hi=>?_,?_⟩ b'.2
 ·unfold updZ
  split
  ·rename_i hij
   subst hij
   exact w'
  ·rename_i hij
   exact(h.own i hi).but b' fun a b m b' m' e e'=>h.dis i j hi hj hij a _ _ b m e' e
 ·intro i k hi hk hne a b m b' m' e e'
  unfold updZ at e e'
  split at e
  ·split at e'
   ·omega
   ·cases e
    have:=((h.own k hk).lt e').2
    omega
  ·split at e'
   ·cases e'
    have:=((h.own i hi).lt e).2
    omega
   ·exact h.dis i k hi hk hne a b m b' m' e e'
theorem RkZ.app(h:RkZ S0 T l bad inp r y z){j:Nat}(hj:j<8){e sz b:Nat}(he:tkT j=e){c:List AV}(hc:c.length=sz)(hb:((r j).length+1)*b≤140737488355328){x:AV}(hx:srcE T x=some [c]){K:AV→Store→Prop}
    (k:∀ x' T',x'.one=true→T.n≤T'.n→RkZ S0 T' l bad inp (updZ r j (r j ++ [c])) y (updZ z j x')→(∀ x,x<T.n→(∀ b m,z j≠.s x b m)→T'.obj x=T.obj x)→K x' T'):appS e sz b (z j) x T K:=by
 refine h.rows.appT h.lt hj he hc hb hx fun x' T' hx' n' hr hf=>k x' T' hx' n' ⟨⟨Nat.le_trans h.kp.1 n',fun i hi=>?_⟩,Nat.lt_of_lt_of_le h.lt n',?_,hr⟩ hf
 ·rw[hf i (by have:=h.kp.1;omega) (fun b m e=>by have:=((h.rows.own j hj).lt e).1;omega)]
  exact h.kp.2 i hi
 ·rw[hf _ h.lt (fun b m e=>by have:=((h.rows.own j hj).lt e).1;omega)]
  exact h.ob
theorem RkZ.ldz(h:RkZ S0 T l bad inp r y z){j:Nat}(hj:j<8){K:AV→Store→Prop}:ld1 (.p S0.n 0 (rkI j)) T K=K (y j) T:=ld1_p h.ob rfl (rkC_z hj)
theorem RkZ.ldb(h:RkZ S0 T l bad inp r y z){K:AV→Store→Prop}:ld1 (.p S0.n 0 1) T K=K (aB bad) T:=ld1_p h.ob rfl rfl
theorem RkZ.ldl(h:RkZ S0 T l bad inp r y z){K:AV→Store→Prop}:ld1 (.p S0.n 0 0) T K=K (aT l) T:=ld1_p h.ob rfl rfl
theorem Rk.of{z:Nat→AV}(h:RkZ S0 T l bad inp r z z)(hi:c.inputs=inp)(hr:rowsM M c=r):Rk S0 T l bad M c:=by
 subst hi
 subst hr
 exact⟨z,h⟩
theorem RkZ.mAt(h:RkZ S0 T l bad inp r z z)(hr:r 7=M.map fun x=>[aI x]){j:Nat}(hj:j<M.length){K:AV→Store→Prop}:(nilChk (.p S0.n 0 0) T fun v S=>shift v 2 S fun v S=>ld1 v S fun v S=>ixS 3 1 v (aI j) S fun v S=>ld1 v S K)=K (aI (M.getD j 0)) T:=by
 have ho:=h.rows.own 7 (by decide)
 rw[hr]at ho
 obtain⟨id,e1,_,e3,e4⟩:=ho.ix (i:=j) (by simpa using hj)
 rw[nilChk_p,shift_p]
 refine(h.ldz (j:=7) (by decide)).trans ?_
 rw[e1]
 rw[List.length_map]at *
 exact ix0 e4 hj rfl
theorem RkZ.line(h:RkZ S0 T l false inp r z z)(hl:l.length≤1000000){Q:AEnd→Store→Prop}{K:AV→Store→Prop}
    (h1:∀ a b,cutC 10 l=some (a,b)→∀ T',T.n≤T'.n→RkZ S0 T' b false inp r z z→(∀ x,x≠S0.n→T'.obj x=T.obj x)→K (aT a) T')
    (h0:cutC 10 l=none→∀ T',T.n≤T'.n→RkZ S0 T' l true inp r z z→(∀ x,x≠S0.n→T'.obj x=T.obj x)→K (aT []) T'):callF Pg 101 [.p S0.n 0 0] T Q K:=by
 refine .inl (calls101 ?_)
 unfold m101
 refine loop101_0 (fun y U=>U=T∧∃ i:Nat,y=aI i∧i≤l.length∧(10:UInt8)∉l.take i) (fun y _=>l.length - ((intA y).getD 0).toNat) ⟨rfl,0,rfl,Nat.zero_le _,by simp⟩ ?_
 rintro _ _ ⟨rfl,i,rfl,hi,h10⟩ KE hKE
 unfold b101_0
 rw[nilChk_p,shift_p,h.ldl,lenT,bin_lss,onB_v]
 refine gd_of (fun hlt=>?_) (fun hge=>?_)
 ·have hlt:i<l.length:=by have:=dT hlt;omega
  rw[nilChk_p,shift_p,h.ldl,ixT hlt,bin_eql,onB_v]
  refine gd_of (fun he=>?_) (fun hne=>?_)
  ·have he:l[i]=10:=by
     have h:=dT he
     apply UInt8.toNat_inj.1
     show(l[i]).toNat=10
     omega
   have hc:=take_cut (w:=l) (a:=0) (Nat.zero_le i) hlt
   rw[he,List.drop_zero,Nat.sub_zero]at hc
   have hcut:cutC 10 l=some (l.take i,l.drop (i+1)):=by
    conv=>lhs;rw[hc]
    exact cutC_app _ h10
   rw[nilChk_p,shift_p,h.ldl]
   refine⟨rfl,slcT0 (Nat.le_of_lt hlt) ?_⟩
   rw[nilChk_p,shift_p,h.ldl,bin_add (by omega) (by omega)]
   refine⟨rfl,slcTe (a:=i+1) (by omega) ?_⟩
   rw[nilChk_p,shift_p]
   exact h.st (l':=l.drop (i+1)) rfl (by decide) rfl fun T' n' f' h'=>h1 _ _ hcut T' (by omega) h' f'
  ·rw[bin_add (by omega) (by omega)]
   refine hKE _ _ ⟨rfl,i+1,rfl,hlt,?_⟩ (by simp[intA];omega)
   have:=take_one (w:=l) (a:=0) (Nat.zero_le i) hlt
   rw[List.drop_zero,Nat.sub_zero,Nat.sub_zero]at this
   rw[this]
   intro hm
   rcases List.mem_append.1 hm with hm|hm
   ·exact h10 hm
   ·rw[List.mem_singleton]at hm
    exact dF hne (by rw[←hm];rfl)
 ·have hge:i=l.length:=by have:=dF hge;omega
  subst hge
  rw[List.take_length]at h10
  rw[nilChk_p,shift_p]
  exact h.setBad fun T' n' f' h'=>h0 (cutC_none h10) T' (by omega) h' f'
end
def lenA(y:AV):Nat:=match y with|.s _ _ n=>n|_=>0
section
variable {S0 T:Store} {l l':Bs} {bad:Bool} {M:List Int} {inp:Int} {r:Nat→List (List AV)} {y z:Nat→AV} {c:Ci}
theorem RkZ.nums(h:RkZ S0 T l false inp r z z)(hl:l.length≤1000000){least most:Nat}(hm:most≤3){Q:AEnd→Store→Prop}{K:AV→Store→Prop}
    (h1:∀ ns b,numbersP least most l=some (ns,b)→∀ T' id,T.n≤T'.n→RkZ S0 T' b false inp r z z→T'.obj id=some (.cells 3 (ns.map fun x=>[aI x]) true)→T.n≤id→id<T'.n→(∀ x,x≠S0.n→x<T.n→T'.obj x=T.obj x)→K (.s id 0 ns.length) T')
    (h0:numbersP least most l=none→∀(ns:List Int) (b:Bs) T' id,most≤ns.length→(∀ x∈ns,-1≤x∧x≤999999)→b.length≤l.length→T.n≤T'.n→RkZ S0 T' b true inp r z z→T'.obj id=some (.cells 3 (ns.map fun x=>[aI x]) true)→T.n≤id→id<T'.n→(∀ x,x≠S0.n→x<T.n→T'.obj x=T.obj x)→K (.s id 0 ns.length) T')
    (hmost:1≤most):callF Pg 69 [.p S0.n 0 0,aI least,aI most] T Q K:=by
 refine .inl (calls69 ?_)
 unfold m69
 have go:∀(a b:Bs) (bad0:Bool) (T1:Store),a.length≤1000000→b.length≤l.length→T.n≤T1.n→RkZ S0 T1 b bad0 inp r z z→(∀ x,x≠S0.n→T1.obj x=T.obj x)→
     (bad0=false→numbersP least most l=if least≤(wordsL a).length∧(wordsL a).length≤most∧(wordsL a).all (fun x=>decide (0≤numR x))=true then some ((wordsL a).map numR++List.replicate (most - (wordsL a).length) 0,b)else none)→(bad0=true→numbersP least most l=none)→
     callF Pg 100 [aT a] T1 (fun e S'=>match e with|.ret r=>K r S'|.pan x=>Q (.pan x) S') fun v2 S=>loopV lv69_0 (vc Pg (c69.at_ [1,1,1,0,1,0,0]) (ms69.drop 1)) 55 (env69_0 (.p S0.n 0 0) (aI least) (aI most) v2 .nl (.v (.int .i64 0))) S (blockK 0 (seqK (vc Pg (c69.at_ [1,1,1,1]) (ms69.drop 1)) (bodyK Pg r69 (fun e S'=>match e with|.ret r=>K r S'|.pan x=>Q (.pan x) S')))):=by
  intro a b bad0 T1 ha hbl n1 k1 f1 hP hPb
  refine callF_ans (ans100 ha) ?_
  have hw:∀ w∈wordsL a,w.length≤1000000:=fun w hw=>by have:=(wordsL_mem hw).2.1;omega
  have hwl:=wordsL_len a
  generalize wordsL a=ws at hw hwl hP
  refine loop69_0 (fun y x U=>∃(i:Nat),x=aI i∧i≤ws.length∧U.n≥T1.n∧RkZ S0 U b (bad0 || !(ws.take i).all fun x=>decide (0≤numR x)) inp r z z∧Own T1.n U y 3 (((ws.take i).map numR).map fun x=>[aI x])∧(∀ x,x≠S0.n→x<T1.n→U.obj x=T1.obj x)) (fun _ x _=>ws.length - ((intA x).getD 0).toNat)
   ⟨0,rfl,Nat.zero_le _,Nat.le_refl _,by simpa using k1,.nl _ _ _,fun _ _ _=>rfl⟩ ?_
  rintro y _ U ⟨i,rfl,hi,nU,kU,ho,fU⟩ KE hKE
  unfold b69_0
  rw[lenS_aL,bin_lss,onB_v]
  refine gd_of (fun hlt=>?_) (fun hge=>?_)
  ·have hlt:i<ws.length:=by have:=dT hlt;omega
   have hall:((ws.take (i+1)).all fun x=>decide (0≤numR x))=(((ws.take i).all fun x=>decide (0≤numR x)) && decide (0≤numR ws[i])):=by
    rw[List.take_add_one,List.getElem?_eq_getElem hlt,List.all_append]
    simp
   rw[ixS_aL hlt,ld1_q]
   refine callF_ans (numRT (hw _ (List.getElem_mem hlt))) ?_
   have put:∀(U2:Store) (bad2:Bool),U2.n=U.n→(∀ x,x≠S0.n→U2.obj x=U.obj x)→bad2=(bad0 || !(ws.take (i+1)).all fun x=>decide (0≤numR x))→RkZ S0 U2 b bad2 inp r z z→
       bslN 3 1 1 [.v (.int .i64 0)] [(0,aI (numR ws[i]))] U2 fun v14 S=>appS 3 1 8 y v14 S fun v15 S=>bin .add 0 (aI i) (.v (.int .i64 1)) S fun v16 S=>KE 55 (env69_0 (.p S0.n 0 0) (aI least) (aI most) (aL aT ws) v15 v16) S:=by
    intro U2 bad2 n2 f2 hb2 k2
    refine bslI1 ?_
    have ho2:Own T1.n U2 y 3 (((ws.take i).map numR).map fun x=>[aI x]):=ho.st (fun b m e=>by have:=(ho.lt e).1;have:=k1.lt;omega) n2 f2
    refine ho2.app (by omega) (c:=[aI (numR ws[i])]) rfl (by simp;omega) (fun x' U3 w3 b3 _=>?_) rfl
    rw[bin_add (by omega) (by omega)]
    have hk1:=k1.lt
    have k3:RkZ S0 U3 b bad2 inp r z z:=⟨⟨Nat.le_trans k2.kp.1 b3.1,fun x hx=>by rw[b3.2 x (by have:=k2.kp.1;omega) (fun b m e=>by have:=(ho2.lt e).1;have:=k1.kp.1;omega)];exact k2.kp.2 x hx⟩,Nat.lt_of_lt_of_le k2.lt b3.1,(b3.2 _ k2.lt (fun b m e=>by have:=(ho2.lt e).1;omega)).trans k2.ob,⟨fun j hj=>(k2.rows.own j hj).but b3 fun q b m b' m' e e'=>by
     have h1:=(ho2.lt e).1
     have h2:=((k1.rows.own j hj).lt e').2
     omega,k2.rows.dis⟩⟩
    refine hKE _ _ _ ⟨i+1,rfl,hlt,by have:=b3.1;omega,by rw[←hb2];exact k3,by rw[map_take1 hlt,List.map_append];exact w3,fun x hx hx2=>?_⟩ (by simp[intA];omega)
    rw[b3.2 x (by omega) (fun b m e=>by have:=(ho2.lt e).1;omega),f2 x hx,fU x hx hx2]
   rw[bin_lss,onB_v]
   refine gd_of (fun hn=>?_) (fun hn=>?_)
   ·rw[nilChk_p,shift_p]
    refine kU.setBad fun U2 n2 f2 k2=>put U2 true n2 f2 ?_ k2
    have hn:=dT hn
    rw[hall,decide_eq_false (by omega)]
    simp
   ·refine put U _ rfl (fun _ _=>rfl) ?_ kU
    have hn:=dF hn
    rw[hall,decide_eq_true (by omega),Bool.and_true]
  ·have hge:i=ws.length:=by have:=dF hge;omega
   subst hge
   rw[List.take_length]at kU ho
   have hrng:∀ x∈ws.map numR,-1≤x∧x≤999999:=fun x hx=>by
    obtain⟨w,_,rfl⟩:=List.mem_map.1 hx
    exact numR_rng w
   have pad:∀(V:Store) (bad2:Bool),V.n=U.n→(∀ x,x≠S0.n→V.obj x=U.obj x)→RkZ S0 V b bad2 inp r z z→(bad2=false→numbersP least most l=some (ws.map numR++List.replicate (most - ws.length) 0,b))→(bad2=true→numbersP least most l=none)→
       loopV lv69_1 (vc Pg (c69.at_ [1,1,1,1,1,0,0,0]) (ms69.drop 2)) 55 (env69_1 (aI most) y) V (blockK 2 (seqK (vc Pg (c69.at_ [1,1,1,1,1,1]) (ms69.drop 2)) (bodyK Pg r69 (fun e S'=>match e with|.ret r=>K r S'|.pan x=>Q (.pan x) S')))):=by
    intro V bad2 nV fV kV hg hb
    have hoV:Own T1.n V y 3 ((ws.map numR).map fun x=>[aI x]):=ho.st (fun b m e=>by have:=(ho.lt e).1;have:=k1.lt;omega) nV fV
    refine loop69_1 (fun y W=>∃ k:Nat,(k=0∨ws.length+k≤most)∧V.n≤W.n∧RkZ S0 W b bad2 inp r z z∧Own T1.n W y 3 ((ws.map numR++List.replicate k 0).map fun x=>[aI x])∧(∀ x,x≠S0.n→x<T1.n→W.obj x=V.obj x)) (fun y _=>most - lenA y)
     ⟨0,.inl rfl,Nat.le_refl _,kV,by simpa using hoV,fun _ _ _=>rfl⟩ ?_
    rintro y W ⟨k,hk,nW,kW,hoW,fW⟩ KE1 hKE1
    unfold b69_1
    rw[hoW.len,bin_lss,onB_v]
    have hlen:((ws.map numR++List.replicate k 0).map fun x:Int=>[aI x]).length=ws.length+k:=by simp
    rw[hlen]
    refine gd_of (fun hlt=>?_) (fun hge=>?_)
    ·have hlt:ws.length+k<most:=by have:=dT hlt;omega
     refine bslI1 ?_
     refine hoW.app (by omega) (c:=[aI 0]) rfl (by rw[hlen];omega) (fun x' W3 w3 b3 hx3=>?_) rfl
     obtain⟨m3,hm3⟩:=hx3
     have hk1:=k1.lt
     refine hKE1 _ _ ⟨k+1,.inr (by omega),by have:=b3.1;omega,⟨⟨Nat.le_trans kW.kp.1 b3.1,fun x hx=>by rw[b3.2 x (by have:=kW.kp.1;omega) (fun b m e=>by have:=(hoW.lt e).1;have:=k1.kp.1;omega)];exact kW.kp.2 x hx⟩,Nat.lt_of_lt_of_le kW.lt b3.1,(b3.2 _ kW.lt (fun b m e=>by have:=(hoW.lt e).1;omega)).trans kW.ob,⟨fun j hj=>(kW.rows.own j hj).but b3 fun q b m b' m' e e'=>by
      have h1:=(hoW.lt e).1
      have h2:=((k1.rows.own j hj).lt e').2
      omega,kW.rows.dis⟩⟩,?_,fun x hx hx2=>?_⟩ ?_
     ·have e:ws.map numR++List.replicate (k+1) 0=(ws.map numR++List.replicate k 0) ++ [0]:=by rw[List.replicate_succ'];simp
      rw[e,List.map_append]
      exact w3
     ·rw[b3.2 x (by omega) (fun b m e=>by have:=(hoW.lt e).1;omega),fW x hx hx2]
     ·have e1:lenA y=ws.length+k:=by
        rcases hoW with⟨rfl,h2⟩|⟨id,rfl,_⟩
        ·have:=congrArg List.length h2
         rw[hlen]at this
         exact this.symm
        ·exact hlen
      have e2:lenA x'=ws.length+k+1:=by
       rcases w3 with⟨h1,h2⟩|⟨id,rfl,_⟩
       ·simp at h2
       ·simp only[List.length_append,hlen];rfl
      rw[e1,e2];omega
    ·have hge:most≤ws.length+k:=by have:=dF hge;omega
     have hne:0<((ws.map numR++List.replicate k 0).map fun x:Int=>[aI x]).length:=by rw[hlen];omega
     obtain⟨id,e1,e2,e3,e4⟩:=hoW.ix hne
     rw[e1,List.length_map]
     have fT:∀ x,x≠S0.n→x<T.n→W.obj x=T.obj x:=fun x hx hx2=>by rw[fW x hx (by omega),fV x hx,fU x hx (by omega),f1 x hx]
     cases hb2:bad2 with
     |false =>
      subst hb2
      have hP2:=hg rfl
      have hk2:k=most - ws.length:=by
       rcases hk with hk|hk
       ·have hlen2:=(numbersP_ok hP2).1
        simp at hlen2
        omega
       ·omega
      subst hk2
      exact h1 _ b hP2 W id (by omega) kW e4 (by omega) e3 fT
     |true =>
      subst hb2
      refine h0 (hb rfl) _ b W id (by simp;omega) (fun x hx=>?_) hbl (by omega) kW e4 (by omega) e3 fT
      rcases List.mem_append.1 hx with hx|hx
      ·exact hrng x hx
      ·rw[(List.mem_replicate.1 hx).2];decide
   have hbadP:∀{p:Prop},¬ (least≤ws.length∧ws.length≤most)→numbersP least most l=none:=fun hn=>by
    cases hb0:bad0 with
    |true=>exact hPb hb0
    |false=>rw[hP hb0,if_neg (fun e=>hn ⟨e.1,e.2.1⟩)]
   rw[lenS_aL,bin_lss,onB_v]
   refine gd_of (fun hs=>?_) (fun hs=>?_)
   ·have hs:=dT hs
    rw[nilChk_p,shift_p]
    exact kU.setBad fun V nV fV kV=>pad V true nV fV kV (fun e=>by cases e) (fun _=>hbadP (p:=True) (by omega))
   have hs:=dF hs
   rw[lenS_aL,bin_gtr,onB_v]
   refine gd_of (fun hg=>?_) (fun hg=>?_)
   ·have hg:=dT hg
    rw[nilChk_p,shift_p]
    exact kU.setBad fun V nV fV kV=>pad V true nV fV kV (fun e=>by cases e) (fun _=>hbadP (p:=True) (by omega))
   have hg:=dF hg
   refine pad U _ rfl (fun _ _=>rfl) kU (fun e=>?_) (fun e=>?_)
   ·rw[Bool.or_eq_false_iff]at e
    rw[hP e.1,if_pos ⟨by omega,by omega,by simpa using e.2⟩]
   ·rw[Bool.or_eq_true]at e
    rcases e with e|e
    ·exact hPb e
    ·cases hb0:bad0 with
     |true=>exact hPb hb0
     |false =>
      rw[hP hb0,if_neg]
      rintro⟨_,_,h3⟩
      rw[h3]at e
      cases e
 refine h.line hl (fun a b hc T1 n1 k1 f1=>?_) (fun hc T1 n1 k1 f1=>?_)
 ·have hab:=cutC_len hc
  exact go a b false T1 (by omega) (by omega) n1 k1 f1 (fun _=>by unfold numbersP;rw[hc]) (fun e=>by cases e)
 ·exact go [] l true T1 (by simp) (Nat.le_refl _) n1 k1 f1 (fun e=>by cases e) (fun _=>by unfold numbersP;rw[hc])
end
section
variable {S0 T:Store} {l l':Bs} {bad:Bool} {M:List Int} {inp:Int} {r:Nat→List (List AV)} {y z:Nat→AV} {c:Ci}
theorem RkZ.reset(h:RkZ S0 T l bad inp r z z)(hl:(r 0).length≤1000000){own next reset:Int}{Q:AEnd→Store→Prop}{K:AV→Store→Prop}
    (h1:∀ T' z',RkZ S0 T' l (bad || decide (reset≠own∧2≤reset)) inp (updZ r 0 (r 0 ++ [[aI next,aI (if reset=own then 2 else reset)]])) z' z'→K (.t []) T'):callF Pg 70 [.p S0.n 0 0,aI own,aI next,aI reset] T Q K:=by
 refine .inl (calls70 ?_)
 unfold m70
 have put:∀(T1:Store) (bd:Bool) (k:Int),RkZ S0 T1 l bd inp r z z→bd=(bad || decide (reset≠own∧2≤reset))→k=(if reset=own then 2 else reset)→
     nilChk (.p S0.n 0 0) T1 fun v8 S=>shift v8 3 S fun v9 S=>shift v9 1 S fun v10 S=>ld1 v10 S fun v11 S=>bld [(0,1),(1,1)] [aI 0,aI 0] [(0,aI next),(1,aI k)] S fun v12 S=>bslN 51 2 1 [aI 0,aI 0] [(0,v12)] S fun v13 S=>appS 51 2 16 v11 v13 S fun v14 S=>nilChk (.p S0.n 0 0) S fun v15 S=>shift v15 3 S fun v16 S=>shift v16 1 S fun v17 S=>stN 1 v17 v14 S fun _ S=>K (.t []) S:=by
  intro T1 bd k hk hb hkk
  subst hb
  subst hkk
  rw[nilChk_p,shift_p,shift_p]
  refine W (hk.ldz (j:=0) (by decide)) ?_
  refine⟨[aI next,aI (if reset=own then 2 else reset)],rfl,?_⟩
  refine bslA2 rfl ?_
  refine hk.app (j:=0) (by decide) rfl (c:=[aI next,aI (if reset=own then 2 else reset)]) rfl (by omega) rfl fun x' T2 hx n2 h2 _=>?_
  rw[nilChk_p,shift_p,shift_p]
  exact h2.st (i:=rkI 0) (rkC_sz (by decide)) (by decide) hx fun T3 n3 f3 h3=>h1 T3 _ h3
 rw[bin_eql,onB_v]
 refine gd_of (fun ho=>?_) (fun ho=>?_)
 ·have ho:=dT ho
  rw[bin_gtr,onB_v,gd_F (by decide),bin_eql,onB_v,gd_T (by decide),bin_neq,onB_v,gd_F (by rw[decide_eq_true ho];rfl)]
  exact put T bad 2 h (by rw[decide_eq_false (fun e=>e.1 ho),Bool.or_false]) (by rw[if_pos ho])
 have ho:=dF ho
 rw[bin_gtr,onB_v]
 refine gd_of (fun hg=>?_) (fun hg=>?_)
 ·have hg:=dT hg
  rw[nilChk_p,shift_p]
  refine h.setBad fun T1 n1 f1 h1'=>put T1 true reset h1' (by rw[decide_eq_true ⟨ho,by omega⟩,Bool.or_true]) (by rw[if_neg ho])
 have hg:=dF hg
 rw[bin_eql,onB_v]
 refine gd_of (fun he=>?_) (fun he=>?_)
 ·have he:=dT he
  rw[bin_neq,onB_v,gd_T (by rw[decide_eq_false ho];rfl),nilChk_p,shift_p]
  refine h.setBad fun T1 n1 f1 h1'=>put T1 true reset h1' (by rw[decide_eq_true ⟨ho,by omega⟩,Bool.or_true]) (by rw[if_neg ho])
 ·have he:=dF he
  exact put T bad reset h (by rw[decide_eq_false (fun e=>by have:=e.2;omega),Bool.or_false]) (by rw[if_neg ho])
theorem RkZ.but{V V':Store}{x:AV}{l0:Bs}{bad0:Bool}{inp0:Int}{r0:Nat→List (List AV)}{y0:Nat→AV}(hT:RkZ S0 T l0 bad0 inp0 r0 y0 z)(h:RkZ S0 V l bad inp r y z)(b3:But V V' x)(hx:∀ i b m,x = .s i b m→T.n≤i):RkZ S0 V' l bad inp r y z:=by
 have h1:=hT.lt
 have h2:=hT.kp.1
 refine⟨⟨Nat.le_trans h.kp.1 b3.1,fun i hi=>by rw[b3.2 i (by have:=h.kp.1;omega) (fun b m e=>by have:=hx _ _ _ e;omega)];exact h.kp.2 i hi⟩,Nat.lt_of_lt_of_le h.lt b3.1,(b3.2 _ h.lt (fun b m e=>by have:=hx _ _ _ e;omega)).trans h.ob,⟨fun j hj=>(h.rows.own j hj).but b3 fun q b m b' m' e e'=>?_,h.rows.dis⟩⟩
 have h3:=hx _ _ _ e
 have h4:=((hT.rows.own j hj).lt e').2
 omega
theorem RkZ.column(h:RkZ S0 T l bad inp r z z)(hl:l.length≤1000000){n:Nat}(hn:n≤2000){Q:AEnd→Store→Prop}{K:AV→Store→Prop}
    (h1:∀ xs b,columnP n l=some (xs,b)→bad=false→∀ T' y,T.n≤T'.n→RkZ S0 T' b false inp r z z→Own T.n T' y 3 (xs.map fun x=>[aI x])→K y T')
    (h0:(bad=true∨columnP n l=none)→∀(xs:List Int) (b:Bs) T' y,T.n≤T'.n→RkZ S0 T' b true inp r z z→Own T.n T' y 3 (xs.map fun x=>[aI x])→xs.length≤2000→b.length≤l.length→K y T'):
    callF Pg 103 [.p S0.n 0 0,aI n] T Q K:=by
 refine .inl (calls103 ?_)
 unfold m103
 have hlt0:=h.lt
 refine loop103_0 (fun y x U=>∃(j:Nat) (xs:List Int) (b:Bs) (bd:Bool),x=aI j∧j≤n∧xs.length=j∧T.n≤U.n∧b.length≤l.length∧RkZ S0 U b bd inp r z z∧Own T.n U y 3 (xs.map fun x=>[aI x])∧(bd=false→bad=false∧columnP n l=(columnP (n - j) b).map fun p=>(xs++p.1,p.2))∧(bd=true→bad=true∨columnP n l=none)) (fun _ x _=>n - ((intA x).getD 0).toNat)
  ⟨0,[],l,bad,rfl,Nat.zero_le _,rfl,Nat.le_refl _,Nat.le_refl _,h,.nl _ _ _,fun e=>⟨e,by simp⟩,fun e=>.inl e⟩ ?_
 rintro y _ U ⟨j,xs,b,bd,rfl,hj,hxs,nU,hb,hU,ho,hg,hbd⟩ KE hKE
 unfold b103_0
 rw[bin_lss,onB_v]
 refine gd_of (fun hlt=>?_) (fun hge=>?_)
 ·have hlt:j<n:=by have:=dT hlt;omega
  rw[nilChk_p,shift_p,hU.ldb,un_not,onB_v]
  refine gd_of (fun hb0=>?_) (fun hb1=>?_)
  ·have hb0:bd=false:=by simpa using hb0
   subst hb0
   obtain⟨hbad,hcol⟩:=hg rfl
   have e5:n - j=1+(n - (j+1)):=by omega
   have put:∀(ns:List Int) (b2:Bs) (bd2:Bool) (V:Store) (id:Nat),1≤ns.length→b2.length≤b.length→U.n≤V.n→RkZ S0 V b2 bd2 inp r z z→V.obj id=some (.cells 3 (ns.map fun x=>[aI x]) true)→id<V.n→(∀ x,x≠S0.n→x<U.n→V.obj x=U.obj x)→
       (bd2=false→columnP n l=(columnP (n - (j+1)) b2).map fun p=>(xs ++ [ns.getD 0 0]++p.1,p.2))→(bd2=true→columnP n l=none)→
       ixS 3 1 (.s id 0 ns.length) (.v (.int .i64 0)) V fun v9 S=>ld1 v9 S fun v10 S=>bslN 3 1 1 [.v (.int .i64 0)] [(0,v10)] S fun v11 S=>appS 3 1 8 y v11 S fun v12 S=>bin .add 0 (aI j) (.v (.int .i64 1)) S fun v13 S=>KE 27 (env103_0 (.p S0.n 0 0) (aI n) v12 v13) S:=by
    intro ns b2 bd2 V id hns hb2 nV hV oV hid fV hgood hbad2
    refine W (ix0 oV (j:=0) hns rfl) ?_
    refine bslI1 ?_
    have ho2:Own T.n V y 3 (xs.map fun x=>[aI x]):=ho.same nV fun i h1 h2=>fV i (by omega) h2
    refine ho2.app (by omega) (c:=[aI (ns.getD 0 0)]) rfl (by simp;omega) (fun x' V2 w3 b3 _=>?_) rfl
    rw[bin_add (by omega) (by omega)]
    refine hKE _ _ _ ⟨j+1,xs ++ [ns.getD 0 0],b2,bd2,rfl,hlt,by simp[hxs],by have:=b3.1;omega,by omega,h.but hV b3 (fun i b m e=>(ho2.lt e).1),by rw[List.map_append];exact w3,fun e=>⟨hbad,by rw[hgood e]⟩,fun e=>.inr (hbad2 e)⟩ (by simp[intA];omega)
   refine hU.nums (least:=1) (most:=1) (by omega) (by decide) (fun ns b2 hns V id nV hV oV hid1 hid2 fV=>?_) (fun hnn ns b2 V id hn1 hrng hb2 nV hV oV hid1 hid2 fV=>?_) (by decide)
   ·have hns1:=numbersP_ok hns
    obtain⟨x,rfl⟩:∃ x,ns = [x]:=List.length_eq_one_iff.1 hns1.1
    refine put [x] b2 false V id (by simp) (by omega) nV hV oV hid2 fV (fun _=>?_) (fun e=>by cases e)
    rw[hcol,e5,columnP_add,columnP,hns]
    simp[columnP,Option.map_map,Function.comp_def]
   ·refine put ns b2 true V id hn1 hb2 nV hV oV hid2 fV (fun e=>by cases e) (fun _=>?_)
    rw[hcol,e5,columnP_add,columnP,hnn]
    rfl
  ·have hb1:bd=true:=by simpa using hb1
   subst hb1
   exact h0 (hbd rfl) xs b U y nU hU ho (by omega) hb
 ·have hge:j=n:=by have:=dF hge;omega
  subst hge
  cases hbd0:bd with
  |true =>
   subst hbd0
   exact h0 (hbd rfl) xs b U y nU hU ho (by omega) hb
  |false =>
   subst hbd0
   obtain⟨hbad,hcol⟩:=hg rfl
   refine h1 xs b ?_ hbad U y nU hU ho
   rw[hcol,Nat.sub_self]
   simp[columnP]
theorem RkZ.setRow(h:RkZ S0 T l bad inp r z z){j:Nat}(hj:j<8){n:Nat}{y:AV}{es:List (List AV)}(ho:Own n T y (tkT j) es)(hn:S0.n+1≤n)(hap:∀ i,i<8→∀ a b m,z i = .s a b m→a<n){K:AV→Store→Prop}
    (k:∀ T',T'.n=T.n→(∀ x,x≠S0.n→T'.obj x=T.obj x)→RkZ S0 T' l bad inp (updZ r j es) (updZ z j y) (updZ z j y)→K .j T'):stN 1 (.p S0.n 0 (rkI j)) y T K:=by
 refine h.st (rkC_sz hj) (by unfold rkI;split<;>omega) (own_one ho) fun T' n' f' h'=>k T' n' f' ⟨h'.kp,h'.lt,h'.ob,⟨fun i hi=>?_,fun i k hi hk hne a b m b' m' e e'=>?_⟩⟩
 ·unfold updZ
  split
  ·rename_i hij
   subst hij
   exact(ho.low hn).st (fun b m e=>by have:=(ho.lt e).1;omega) n' f'
  ·exact h'.rows.own i hi
 ·unfold updZ at e e'
  split at e
  ·split at e'
   ·omega
   ·have:=(ho.lt e).1
    have:=hap k hk _ _ _ e'
    omega
  ·split at e'
   ·have:=(ho.lt e').1
    have:=hap i hi _ _ _ e
    omega
   ·exact h.rows.dis i k hi hk hne a b m b' m' e e'
theorem rowsM_setK(c:Ci)(pre:List (List Int))(xs:List Int)(h:pre.length<4):rowsM M (c.setK (pre ++ [xs]))=updZ (rowsM M (c.setK pre)) (2+pre.length) (xs.map fun x=>[aI x]):=by
 funext j
 match pre,h with
 |[],_ =>
  match j with
  |2=>rfl
  |0=>rfl
  |1=>rfl
  |3=>rfl
  |4=>rfl
  |5=>rfl
  |6=>rfl
  |7=>rfl
  |j+8=>rfl
 |[a],_ =>
  match j with
  |3=>rfl
  |0=>rfl
  |1=>rfl
  |2=>rfl
  |4=>rfl
  |5=>rfl
  |6=>rfl
  |7=>rfl
  |j+8=>rfl
 |[a,b],_ =>
  match j with
  |4=>rfl
  |0=>rfl
  |1=>rfl
  |2=>rfl
  |3=>rfl
  |5=>rfl
  |6=>rfl
  |7=>rfl
  |j+8=>rfl
 |[a,b,d],_ =>
  match j with
  |5=>rfl
  |0=>rfl
  |1=>rfl
  |2=>rfl
  |3=>rfl
  |4=>rfl
  |6=>rfl
  |7=>rfl
  |j+8=>rfl
def ColSt(S0 V:Store)(M:List Int)(l:Bs)(bad:Bool)(c:Ci)(i:Nat):Prop:=∃(pre:List (List Int)) (b:Bs) (bd:Bool),pre.length=i∧(∀ xs∈pre,xs.length≤2000)∧b.length≤l.length∧Rk S0 V b bd M (c.setK pre)∧(bd=false→bad=false∧colsN M 4 l=(colsN M (4 - i) b).map fun p=>(pre++p.1,p.2))∧(bd=true→bad=true∨colsN M 4 l=none)
theorem ColSt.step{V:Store}{i:Nat}(hi:i<4)(hMl:M.length=9)(hM:∀ j,0≤M.getD j 0∧M.getD j 0≤2000)(hl:l.length≤1000000)(h:ColSt S0 V M l bad c i){Q:AEnd→Store→Prop}{K:Store→Prop}(k:∀ V',ColSt S0 V' M l bad c (i+1)→K V'):
    nilChk (.p S0.n 0 0) V fun v S=>shift v 2 S fun v S=>ld1 v S fun v S=>ixS 3 1 v (aI (colIx i)) S fun v S=>ld1 v S fun v5 S=>callF Pg 103 [.p S0.n 0 0,v5] S Q fun v6 S=>nilChk (.p S0.n 0 0) S fun v7 S=>shift v7 3 S fun v8 S=>shift v8 (3+i) S fun v9 S=>stN 1 v9 v6 S fun _ S=>K S:=by
 obtain⟨pre,b,bd,hpre,hpl,hb,⟨z,hz⟩,hg,hbd⟩:=h
 have hci:colIx i<9:=by unfold colIx;split<;>decide
 have hcm:=hM (colIx i)
 refine W (hz.mAt (M:=M) rfl (by omega)) ?_
 have hcm2:aI (M.getD (colIx i) 0)=aI ((mAt M (colIx i):Nat):Int):=by congr 1;show _=(((M.getD (colIx i) 0).toNat:Nat):Int);omega
 rw[hcm2]
 have e3:4 - i=(4 - (i+1))+1:=by omega
 have e4:3 - (4 - (i+1))=i:=by omega
 have hnn2:mAt M (colIx i)≤2000:=by show(M.getD (colIx i) 0).toNat≤2000;omega
 have hnext:bd=false→colsN M 4 l=((columnP (mAt M (colIx i)) b).bind fun o=>(colsN M (4 - (i+1)) o.2).map fun p=>(o.1 :: p.1,p.2)).map fun p=>(pre++p.1,p.2):=fun e=>by
  have hq:=(hg e).2
  rw[e3,colsN_s M (4 - (i+1)) b,e4]at hq
  exact hq
 have put:∀(xs:List Int) (b2:Bs) (bd2:Bool) (V2:Store) (y:AV),xs.length≤2000→b2.length≤b.length→V.n≤V2.n→RkZ S0 V2 b2 bd2 c.inputs (rowsM M (c.setK pre)) z z→Own V.n V2 y 3 (xs.map fun x=>[aI x])→
     (bd2=false→bad=false∧colsN M 4 l=(colsN M (4 - (i+1)) b2).map fun p=>(pre ++ [xs]++p.1,p.2))→(bd2=true→bad=true∨colsN M 4 l=none)→
     nilChk (.p S0.n 0 0) V2 fun v7 S=>shift v7 3 S fun v8 S=>shift v8 (3+i) S fun v9 S=>stN 1 v9 y S fun _ S=>K S:=by
  intro xs b2 bd2 V2 y hxs hb2 nV2 hV2 hy h1 h2
  rw[nilChk_p,shift_p,shift_p]
  have e6:0+3+(3+i)=rkI (2+i):=by unfold rkI;rw[if_neg (by omega)];omega
  rw[e6]
  refine hV2.setRow (j:=2+i) (by omega) (n:=V.n) (by rw[tkT_c hi];exact hy) hz.lt (fun q hq a b m e=>((hz.rows.own q hq).lt e).2) fun V3 n3 f3 h3=>?_
  refine k V3 ⟨pre ++ [xs],b2,bd2,by simp[hpre],fun w hw=>?_,by omega,Rk.of h3 rfl (by rw[rowsM_setK c pre xs (by omega),hpre]),h1,h2⟩
  rcases List.mem_append.1 hw with hw|hw
  ·exact hpl w hw
  ·rw[List.mem_singleton.1 hw];exact hxs
 refine hz.column (by omega) hnn2 (fun xs b2 hc hb0 V2 y nV2 hV2 hy=>?_) (fun hn xs b2 V2 y nV2 hV2 hy hxs hb2=>?_)
 ·have hck:=columnP_ok hc
  have hxl:xs.length=mAt M (colIx i):=hck.2.1
  have hbl:b2.length+mAt M (colIx i)≤b.length:=hck.1
  refine put xs b2 false V2 y (by omega) (by omega) nV2 hV2 hy (fun _=>⟨(hg hb0).1,?_⟩) (fun e=>by cases e)
  rw[hnext hb0,hc]
  simp[Option.map_map,Function.comp_def]
 ·refine put xs b2 true V2 y hxs hb2 nV2 hV2 hy (fun e=>by cases e) (fun _=>?_)
  cases hb0:bd with
  |true=>exact hbd hb0
  |false =>
   right
   rcases hn with hn|hn
   ·rw[hb0]at hn;cases hn
   ·rw[hnext hb0,hn];rfl
theorem Rk.columns(h:Rk S0 T l bad M c)(hl:l.length≤1000000)(hMl:M.length=9)(hM:∀ j,0≤M.getD j 0∧M.getD j 0≤2000)(hc:c.setK []=c){Q:AEnd→Store→Prop}{K:AV→Store→Prop}
    (k:∀ V,ColSt S0 V M l bad c 4→K (.t []) V):callF Pg 71 [.p S0.n 0 0] T Q K:=by
 refine .inl (calls71 ?_)
 unfold m71
 have h0:ColSt S0 T M l bad c 0:=⟨[],l,bad,rfl,(fun _ h=>by cases h),Nat.le_refl _,by rw[hc];exact h,fun e=>⟨e,by simp⟩,fun e=>.inl e⟩
 refine h0.step (i:=0) (by decide) hMl hM hl fun V1 h1=>?_
 refine h1.step (i:=1) (by decide) hMl hM hl fun V2 h2=>?_
 refine h2.step (i:=2) (by decide) hMl hM hl fun V3 h3=>?_
 refine h3.step (i:=3) (by decide) hMl hM hl fun V4 h4=>?_
 exact k V4 h4
end
section
variable {S0 T:Store} {l l':Bs} {bad:Bool} {M:List Int} {inp:Int} {r:Nat→List (List AV)} {y z:Nat→AV} {c:Ci}
theorem RkZ.JM(h:RkZ S0 T l bad inp r z z)(hr:r 7=M.map fun x=>[aI x]){j:Nat}(hj:j<M.length){P:AV→Prop}(k:P (aI (M.getD j 0))):
    ∃ q1,(nilChk (.p S0.n 0 0) T fun v S=>v=q1∧S=T)∧∃ q2,(shift q1 2 T fun v S=>v=q2∧S=T)∧∃ q3,(ld1 q2 T fun v S=>v=q3∧S=T)∧∃ q4,(ixS 3 1 q3 (aI j) T fun v S=>v=q4∧S=T)∧∃ q5,(ld1 q4 T fun v S=>v=q5∧S=T)∧P q5:=by
 have ho:=h.rows.own 7 (by decide)
 rw[hr]at ho
 obtain⟨id,e1,_,e3,e4⟩:=ho.ix (i:=j) (by simpa using hj)
 have hg:(M.map fun x=>[aI x])[j]? = some [aI (M.getD j 0)]:=by
  rw[List.getElem?_map,List.getElem?_eq_getElem (by omega),List.getD_eq_getElem?_getD,List.getElem?_eq_getElem (by omega)]
  rfl
 refine⟨_,by rw[nilChk_p];exact⟨rfl,rfl⟩,_,by rw[shift_p];exact⟨rfl,rfl⟩,z 7,W (h.ldz (j:=7) (by decide)) ⟨rfl,rfl⟩,.p id j 0,?_,_,by rw[ld1_p e4 hg rfl];exact⟨rfl,rfl⟩,k⟩
 rw[e1]
 refine W (ixS_s (e:=tkT 7) (by simpa using hj) e4) ?_
 rw[Nat.zero_add]
 exact⟨rfl,rfl⟩
theorem rowsM_M(M:List Int)(v:Int)(c:Ci):rowsM (M ++ [v]) c=updZ (rowsM M c) 7 (rowsM M c 7 ++ [[aI v]]):=by
 funext j
 by_cases h:j=7
 ·subst h;simp[rowsM,updZ]
 ·simp[rowsM,updZ,h]
theorem headM_at(ws:List Bs)(hw:ws.length≤9){k:Nat}(hk:k<9):(headM ws).take (k+1)=(headM ws).take k ++ [if h:k<ws.length then numR ws[k]else 0]:=by
 have hl:(headM ws).length=9:=by simp[headM];omega
 rw[List.take_add_one,List.getElem?_eq_getElem (by omega)]
 congr 1
 show[_]=_
 congr 1
 simp only[headM]
 split
 ·rename_i h
  rw[List.getElem_append_left (by simpa using h),List.getElem_map]
 ·rename_i h
  rw[List.getElem_append_right (by simp;omega),List.getElem_replicate]
theorem RkZ.head(h:RkZ S0 T l false 0 (rowsM [] cE) z z)(hl:l.length≤1000000){word:Bs}{Q:AEnd→Store→Prop}{K:AV→Store→Prop}
    (h1:∀ M b,headP word l=some (M,b)→∀ T' z',RkZ S0 T' b false (M.getD 1 0) (rowsM M cE) z' z'→K (aB true) T')
    (h0:headP word l=none→∀ T',Keep S0 T'→K (aB false) T'):callF Pg 68 [.p S0.n 0 0,aT word] T Q K:=by
 refine .inl (calls68 ?_)
 unfold m68
 refine h.line hl (fun a b hc T1 n1 k1 f1=>?_) (fun hc T1 n1 k1 f1=>?_)
 case refine_2 =>
  refine callF_ans (ans100 (by simp)) ?_
  rw[nilChk_p,shift_p,k1.ldb,onB_v,gd_true]
  exact h0 (by simp[headP,hc]) T1 k1.kp
 have hab:=cutC_len hc
 refine callF_ans (ans100 (by omega)) ?_
 have hw:∀ w∈wordsL a,w.length≤1000000:=fun w hw=>by have:=(wordsL_mem hw).2.1;omega
 have hne:=wordsL_ne a
 have hP:headP word l=if headOk word (wordsL a)=true then some (headM (wordsL a).tail,b)else none:=by
  unfold headP;rw[hc]
 generalize wordsL a=ws0 at hw hne hP
 obtain⟨w0,ws,rfl⟩:∃ w0 ws,ws0=w0 :: ws:=by
  cases ws0 with
  |nil=>exact absurd rfl hne
  |cons x y=>exact⟨x,y,rfl⟩
 have bad:∀{T':Store},Keep S0 T'→¬ headOk word (w0 :: ws)=true→K (aB false) T':=fun hk hn=>h0 (by rw[hP,if_neg hn]) _ hk
 have hok:headOk word (w0 :: ws)=true↔w0=word∧(5≤ws.length∧ws.length≤9)∧(∀ x∈ws,0≤numR x∧numR x≤2000)∧(headM ws).getD 0 0=(headM ws).getD 1 0+(headM ws).getD 2 0+(headM ws).getD 4 0∧(headM ws).getD 7 0=0:=by
  simp only[headOk,Bool.and_eq_true,decide_eq_true_eq,List.all_eq_true,List.head?_cons,Option.some.injEq,List.tail_cons,List.length_cons]
  constructor
  ·rintro⟨e1,e2,e3,e4⟩;exact⟨e1,⟨by omega,by omega⟩,e3,dT e4⟩
  ·rintro⟨e1,e2,e3,e4⟩;exact⟨e1,⟨by omega,by omega⟩,e3,decide_eq_true e4⟩
 rw[nilChk_p,shift_p,k1.ldb,onB_v,gd_false]
 refine W (ixS_aL (i:=0) (by simp)) ?_
 rw[List.getElem_cons_zero,ld1_q,bin_neqS,onB_v]
 refine gd_of (fun hw0=>bad k1.kp (fun e=>by rw[(hok.1 e).1]at hw0;simp at hw0)) (fun hw0=>?_)
 have hw0:w0=word:=ab_eq.1 (by simpa using hw0)
 rw[lenS_aL,bin_lss,onB_v]
 refine gd_of (fun h5=>bad k1.kp (fun e=>by have:=(hok.1 e).2.1;have h:=dT h5;rw[List.length_cons]at h;omega)) (fun h5=>?_)
 have h5:5≤ws.length:=by have:=dF h5;rw[List.length_cons]at this;omega
 rw[lenS_aL,bin_gtr,onB_v]
 refine gd_of (fun h9=>bad k1.kp (fun e=>by have:=(hok.1 e).2.1;have h:=dT h9;rw[List.length_cons]at h;omega)) (fun h9=>?_)
 have h9:ws.length≤9:=by have:=dF h9;rw[List.length_cons]at this;omega
 have hl9:(headM ws).length=9:=by simp[headM];omega
 refine loop68_0 (fun y U=>∃(k:Nat) (z':Nat→AV),y=aI (k+1:Nat)∧k≤9∧(∀ x∈ws.take k,0≤numR x∧numR x≤2000)∧RkZ S0 U b false 0 (rowsM ((headM ws).take k) cE) z' z') (fun y _=>10 - ((intA y).getD 0).toNat)
  ⟨0,z,rfl,by decide,fun x hx=>(by simp at hx),by simpa using k1⟩ ?_
 rintro _ U ⟨k,z',rfl,hk,hall,hU⟩ KE hKE
 unfold b68_0
 rw[bin_lss,onB_v]
 refine gd_of (fun hlt=>?_) (fun hge=>?_)
 ·have hlt:k<9:=by have:=dT hlt;omega
  have put:∀ v:Int,(headM ws).take (k+1)=(headM ws).take k ++ [v]→(∀ x∈ws.take (k+1),0≤numR x∧numR x≤2000)→
      nilChk (.p S0.n 0 0) U fun v29 S=>shift v29 2 S fun v30 S=>ld1 v30 S fun v31 S=>bslN 3 1 1 [.v (.int .i64 0)] [(0,aI v)] S fun v32 S=>appS 3 1 8 v31 v32 S fun v33 S=>nilChk (.p S0.n 0 0) S fun v34 S=>shift v34 2 S fun v35 S=>stN 1 v35 v33 S fun _ S=>bin .add 0 (aI (k+1:Nat)) (.v (.int .i64 1)) S fun v37 S=>KE 107 (env68_0 (.p S0.n 0 0) (aL aT (w0 :: ws)) v37) S:=by
   intro v hv hall2
   rw[nilChk_p,shift_p]
   refine W (hU.ldz (j:=7) (by decide)) ?_
   refine bslI1 ?_
   refine hU.app (j:=7) (by decide) rfl (c:=[aI v]) rfl (by simp[rowsM];omega) rfl fun x' U2 hx' n2 h2 _=>?_
   rw[nilChk_p,shift_p]
   refine h2.st (i:=rkI 7) (rkC_sz (by decide)) (by decide) hx' fun U3 n3 f3 h3=>?_
   rw[bin_add (by omega) (by omega)]
   rw[←rowsM_M,←hv]at h3
   exact hKE _ _ ⟨k+1,_,rfl,hlt,hall2,h3⟩ (by simp[intA];omega)
  have hM:=headM_at ws h9 hlt
  rw[lenS_aL,bin_lss,onB_v]
  refine gd_of (fun hin=>?_) (fun hout=>?_)
  ·have hin:k<ws.length:=by have:=dT hin;rw[List.length_cons]at this;omega
   rw[dif_pos hin]at hM
   rw[ixS_aL (by rw[List.length_cons];omega),List.getElem_cons_succ,ld1_q]
   refine callF_ans (numRT (hw _ (List.mem_cons_of_mem _ (List.getElem_mem hin)))) ?_
   rw[bin_lss,onB_v]
   refine gd_of (fun hn=>bad hU.kp (fun e=>by have:=((hok.1 e).2.2.1 _ (List.getElem_mem hin)).1;have h:=dT hn;omega)) (fun hn=>?_)
   have hn:=dF hn
   rw[bin_gtr,onB_v]
   refine gd_of (fun hx=>bad hU.kp (fun e=>by have:=((hok.1 e).2.2.1 _ (List.getElem_mem hin)).2;have h:=dT hx;omega)) (fun hx=>?_)
   have hx:=dF hx
   refine put _ hM fun x hx'=>?_
   rw[List.take_add_one,List.getElem?_eq_getElem hin]at hx'
   rcases List.mem_append.1 hx' with hx'|hx'
   ·exact hall x hx'
   ·rw[Option.toList_some,List.mem_singleton]at hx'
    rw[hx']
    exact⟨by omega,by omega⟩
  ·have hout:ws.length≤k:=by have:=dF hout;rw[List.length_cons]at this;omega
   rw[dif_neg (by omega)]at hM
   rw[bin_lss,onB_v,gd_F (by decide),bin_gtr,onB_v,gd_F (by decide)]
   refine put 0 hM fun x hx'=>hall x ?_
   rw[List.take_of_length_le (by omega)]at hx' ⊢
   exact hx'
 ·have hge:k=9:=by have:=dF hge;omega
  subst hge
  rw[List.take_of_length_le (by omega)]at hall hU
  have hM:∀ j,0≤(headM ws).getD j 0∧(headM ws).getD j 0≤2000:=fun j=>by
   rw[List.getD_eq_getElem?_getD]
   cases hg:(headM ws)[j]? with
   |none=>exact⟨by decide,by decide⟩
   |some v =>
    rw[Option.getD_some]
    rcases List.mem_append.1 (List.mem_of_getElem? hg)with hx|hx
    ·obtain⟨w,hw',rfl⟩:=List.mem_map.1 hx
     exact hall w hw'
    ·rw[(List.mem_replicate.1 hx).2];decide
  have m1:=hM 1
  have m2:=hM 2
  have m4:=hM 4
  refine W (hU.mAt (M:=headM ws) rfl (j:=1) (by omega)) ?_
  rw[nilChk_p,shift_p,shift_p]
  refine hU.st (l':=b) (bad':=false) (inp':=(headM ws).getD 1 0) (y':=z') rfl (by decide) rfl fun U2 n2 f2 h2=>?_
  refine h2.JM (M:=headM ws) rfl (j:=0) (by omega) ?_
  refine h2.JM (M:=headM ws) rfl (j:=1) (by omega) ?_
  refine h2.JM (M:=headM ws) rfl (j:=2) (by omega) ?_
  refine W (J_add (by omega) (by omega)) ?_
  refine h2.JM (M:=headM ws) rfl (j:=4) (by omega) ?_
  refine W (J_add (by omega) (by omega)) (W J_eql ?_)
  rw[onB_v]
  refine gd_of (fun hs=>?_) (fun hs=>?_)
  ·refine h2.JM (M:=headM ws) rfl (j:=7) (by omega) (W J_eql (W J_mvS ?_))
   by_cases h7:(headM ws).getD 7 0=0
   ·show K (aB (decide _)) U2
    rw[decide_eq_true h7]
    refine h1 (headM ws) b ?_ U2 z' h2
    rw[hP,if_pos (hok.2 ⟨hw0,⟨h5,h9⟩,hall,dT hs,h7⟩)]
    rfl
   ·show K (aB (decide _)) U2
    rw[decide_eq_false h7]
    exact bad h2.kp (fun e=>h7 (hok.1 e).2.2.2.2)
  ·refine W J_mvS ?_
   exact bad h2.kp (fun e=>dF hs (hok.1 e).2.2.2.1)
theorem rowsM_addN(c:Ci)(x:Na):rowsM M (c.addN x)=updZ (rowsM M c) 6 (rowsM M c 6 ++ [x.row]):=by
 funext j
 unfold rowsM
 rw[rows_addN]
 unfold updZ
 by_cases h7:j=7
 ·subst h7;rfl
 ·by_cases h6:j=6
  ·subst h6;rfl
  ·simp[h7,h6]
theorem rowsM_addL(c:Ci)(p:Int × Int):rowsM M (c.addL p)=updZ (rowsM M c) 0 (rowsM M c 0 ++ [[aI p.1,aI p.2]]):=by
 funext j
 unfold rowsM
 rw[rows_addL]
 unfold updZ
 by_cases h7:j=7
 ·subst h7;rfl
 ·by_cases h6:j=0
  ·subst h6;rfl
  ·simp[h7,h6]
theorem rowsM_addA(c:Ci)(p:Int × Int):rowsM M (c.addA p)=updZ (rowsM M c) 1 (rowsM M c 1 ++ [[aI p.1,aI p.2]]):=by
 funext j
 unfold rowsM
 rw[rows_addA]
 unfold updZ
 by_cases h7:j=7
 ·subst h7;rfl
 ·by_cases h6:j=1
  ·subst h6;rfl
  ·simp[h7,h6]
def leftR(id:Nat)(T:Store):Nat:=match T.obj id with
 |some (.cells _ ((.v (.string b) :: _) :: _) _)=>b.size
 |_=>0
theorem RkZ.left(h:RkZ S0 T l bad inp r y z):leftR S0.n T=l.length:=by
 unfold leftR
 rw[h.ob]
 simp[rkC,aT,ByteArray.size]
end
section
variable {S0 T:Store} {l l':Bs} {bad:Bool} {M:List Int} {inp:Int} {r:Nat→List (List AV)} {y z:Nat→AV} {c:Ci}
theorem RkZ.names(h:RkZ S0 T l bad c.inputs (rowsM M c) z z)(hl:l.length≤1000000)(hc:c.names = []){Q:AEnd→Store→Prop}{K:AV→Store→Prop}
    (h1:bad=false→∀ ns,namesP l.length l=some ns→∀ b T' z',RkZ S0 T' b false c.inputs (rowsM M (c.setN ns)) z' z'→K (.t []) T')
    (h0:(bad=true∨namesP l.length l=none)→∀ b r' T' z',RkZ S0 T' b true c.inputs r' z' z'→K (.t []) T'):callF Pg 72 [.p S0.n 0 0] T Q K:=by
 refine .inl (calls72 ?_)
 unfold m72
 refine loop72_0 (fun U=>∃ pre l' z',pre.length+l'.length≤l.length∧RkZ S0 U l' bad c.inputs (rowsM M (c.setN pre)) z' z'∧namesP l.length l=(namesP l'.length l').map fun p=>pre++p) (fun U=>leftR S0.n U)
  ⟨[],l,z,by simp,by have e:c.setN []=c:=by rw[←hc];rfl
                     rw[e];exact h,by simp⟩ ?_
 rintro U ⟨pre,l',z,hl',hU,hq⟩ KE hKE
 unfold b72_0
 rw[nilChk_p,shift_p,hU.ldl,neT,onB_v]
 refine gd_of (fun hne=>?_) (fun he=>?_)
 ·have hne:l'≠[]:=by simpa using hne
  rw[nilChk_p,shift_p,hU.ldb,un_not,onB_v]
  refine gd_of (fun hb0=>?_) (fun hb1=>?_)
  ·have hb0:bad=false:=by simpa using hb0
   subst hb0
   obtain⟨n',hn'⟩:∃ n',l'.length=n'+1:=⟨l'.length - 1,by have:=List.length_pos_iff.2 hne;omega⟩
   have hstep:namesP l'.length l'=match cutC 10 l' with
       |none=>none
       |some (a,r)=>if a = [99]then some []else match nameP a with
        |some x=>(namesP r.length r).map fun p=>x :: p
        |none=>none:=by
    rw[hn',namesP,if_neg hne]
    cases hcc:cutC 10 l' with
    |none=>rfl
    |some p =>
     obtain⟨pa,pr⟩:=p
     have hlen:=cutC_len hcc
     simp only
     first
      |(rw[namesP_mono pr.length n' pr (Nat.le_refl _) (by omega)];done)
      |(rw[namesP_mono pr.length n' pr (Nat.le_refl _) (by omega)];rfl)
   have bad:namesP l'.length l'=none→∀(b:Bs) (V:Store) {r':Nat→List (List AV)} {z':Nat→AV} {bd:Bool},RkZ S0 V b bd c.inputs r' z' z'→nilChk (.p S0.n 0 0) V fun v S=>shift v 1 S fun v S=>stN 1 v (.v (.bool true)) S fun _ S=>K (.t []) S:=fun hn b V {r' z' bd} hV=>by
    rw[nilChk_p,shift_p]
    exact hV.setBad fun V2 n2 f2 h2=>h0 (.inr (by rw[hq,hn];rfl)) _ _ V2 _ h2
   refine hU.line (by omega) (fun a b hcut V nV hV fV=>?_) (fun hcut V nV hV fV=>?_)
   case refine_2 =>
    have hnone:namesP l'.length l'=none:=by rw[hstep,hcut]
    refine W (bin_eqlS ⟨([]:Bs).toArray⟩ ⟨#[99]⟩ 0) ?_
    rw[onB_v]
    refine gd_of (fun h99=>absurd (ab_eq (a:=[]) (b:=[99]) |>.1 (dT h99)) (by decide)) (fun h99=>?_)
    refine callF_ans (ans100 (s:=[]) (by simp)) ?_
    rw[nilChk_p,shift_p,hV.ldb,onB_v,gd_true]
    exact bad hnone _ V hV
   have hab:=cutC_len hcut
   rw[hcut]at hstep
   refine W (bin_eqlS ⟨a.toArray⟩ ⟨#[99]⟩ 0) ?_
   rw[onB_v]
   refine gd_of (fun h99=>?_) (fun h99=>?_)
   ·have h99:a = [99]:=ab_eq.1 (dT h99)
    refine h1 rfl pre ?_ b V z hV
    rw[hq,hstep]
    simp[h99]
   have h99:a≠[99]:=fun e=>dF h99 (by rw[e])
   have hstep:namesP l'.length l'=match nameP a with
       |some x=>(namesP b.length b).map fun p=>x :: p
       |none=>none:=by
    rw[hstep];exact if_neg h99
   refine callF_ans (ans100 (by omega)) ?_
   rw[nilChk_p,shift_p,hV.ldb,onB_v,gd_false]
   have hnm:nameP a=match wordsL a with
    |[w0,w1]=>if 2≤w0.length∧0≤numR (w0.drop 1)then some ⟨(w0.getD 0 0).toNat,numR (w0.drop 1),⟨w1.toArray⟩⟩else none
    |_=>none:=rfl
   have hwm:∀ w∈wordsL a,w.length≤1000000:=fun w hw=>by have:=(wordsL_mem hw).2.1;omega
   generalize wordsL a=ws at hnm hwm
   rw[lenS_aL,bin_neq,onB_v]
   refine gd_of (fun h2=>?_) (fun h2=>?_)
   ·have h2:ws.length≠2:=fun e=>by rw[e]at h2;simp at h2
    refine bad ?_ b V hV
    rw[hstep,hnm]
    match ws,h2 with
    |[],_=>rfl
    |[_],_=>rfl
    |[_,_],h=>exact absurd rfl h
    |_ :: _ :: _ :: _,_=>rfl
   have h2:ws.length=2:=by
    have h2:¬ ¬ ((ws.length:Int)=2):=fun hn=>by rw[decide_eq_false hn]at h2;cases h2
    omega
   obtain⟨w0,w1,rfl⟩:∃ w0 w1,ws = [w0,w1]:=by
    match ws,h2 with
    |[w0,w1],_=>exact⟨w0,w1,rfl⟩
   have hnm:nameP a=if 2≤w0.length∧0≤numR (w0.drop 1)then some ⟨(w0.getD 0 0).toNat,numR (w0.drop 1),⟨w1.toArray⟩⟩else none:=hnm
   have hw0:=hwm w0 List.mem_cons_self
   refine W (ixS_aL (f:=aT) (l:=[w0,w1]) (i:=0) (by simp)) ?_
   rw[List.getElem_cons_zero,ld1_q,lenT,bin_lss,onB_v]
   refine gd_of (fun h3=>?_) (fun h3=>?_)
   ·refine bad ?_ b V hV
    rw[hstep,hnm,if_neg]
    intro e
    have:=e.1
    have:=dT h3
    omega
   have h3:2≤w0.length:=by have:=dF h3;omega
   refine W (ixS_aL (f:=aT) (l:=[w0,w1]) (i:=0) (by simp)) ?_
   rw[List.getElem_cons_zero,ld1_q]
   refine⟨rfl,slcT (by omega) ?_⟩
   refine callF_ans (numRT (by rw[List.length_drop];omega)) ?_
   rw[bin_lss,onB_v]
   refine gd_of (fun h4=>?_) (fun h4=>?_)
   ·refine bad ?_ b V hV
    rw[hstep,hnm,if_neg]
    intro e
    have:=e.2
    have:=dT h4
    omega
   have h4:0≤numR (w0.drop 1):=by have:=dF h4;omega
   rw[if_pos ⟨h3,h4⟩]at hnm
   generalize hx:(Na.mk ((w0.getD 0 0).toNat:Int) (numR (w0.drop 1)) ⟨w1.toArray⟩)=x at hnm
   have hr:=rowsM_addN (M:=M) (c.setN pre) x
   have hrow:x.row = [.v (.int .u8 (w0.getD 0 0).toNat),aI (numR (w0.drop 1)),aT w1]:=by rw[←hx];rfl
   rw[hrow]at hr
   have ix0L:∀{P:AV→Prop},P (aT w0)→∃ q53,(∀ U,Keep V U→ixS 9 1 (aL aT [w0,w1]) (.v (.int .i64 0)) U fun v S=>v=q53∧S=U)∧∃ q55,(∀ U,Keep V U→ld1 q53 U fun v S=>v=q55∧S=U)∧P q55:=fun{P} k =>
    ⟨_,fun U hU=>W (ixS_aL (f:=aT) (l:=[w0,w1]) (i:=0) (by simp)) ⟨rfl,rfl⟩,_,fun U hU=>by rw[ld1_q];exact⟨rfl,rfl⟩,k⟩
   have ix1L:∀{P:AV→Prop},P (aT w1)→∃ q53,(∀ U,Keep V U→ixS 9 1 (aL aT [w0,w1]) (.v (.int .i64 1)) U fun v S=>v=q53∧S=U)∧∃ q55,(∀ U,Keep V U→ld1 q53 U fun v S=>v=q55∧S=U)∧P q55:=fun{P} k =>
    ⟨_,fun U hU=>W (ixS_aL (f:=aT) (l:=[w0,w1]) (i:=1) (by simp)) ⟨rfl,rfl⟩,_,fun U hU=>by rw[ld1_q];exact⟨rfl,rfl⟩,k⟩
   refine⟨_,fun U hU=>by rw[nilChk_p];exact⟨rfl,rfl⟩,?_⟩
   refine L_shift ?_
   refine L_shift ?_
   refine⟨z 6,fun U hU=>W ((hV.keep hU).ldz (j:=6) (by decide)) ⟨rfl,rfl⟩,?_⟩
   refine ix0L ?_
   refine⟨_,fun U hU=>by rw[ixStrT (by omega)];exact⟨rfl,rfl⟩,?_⟩
   refine ix0L ?_
   refine⟨_,fun U hU=>⟨rfl,slcT (by omega) ⟨rfl,rfl⟩⟩,?_⟩
   refine L_callA (numRT (by rw[List.length_drop];omega)) ?_
   refine ix1L ?_
   refine⟨_,fun U hU=>⟨[.v (.int .u8 (w0.getD 0 0).toNat),aI (numR (w0.drop 1)),aT w1],rfl,rfl,rfl⟩,?_⟩
   refine⟨_,fun U hU=>bslP3 rfl ⟨rfl,rfl⟩,?_⟩
   refine hV.app (j:=6) (by decide) rfl (c:=[.v (.int .u8 (w0.getD 0 0).toNat),aI (numR (w0.drop 1)),aT w1]) rfl (by simp[rowsM,Ci.rowsOf,Ci.setN];omega) rfl fun x' V2 hx' nV2 hV2 fV2=>?_
   refine⟨_,fun U hU=>by rw[nilChk_p];exact⟨rfl,rfl⟩,?_⟩
   refine L_shift ?_
   refine L_shift ?_
   refine hV2.st (i:=rkI 6) (rkC_sz (by decide)) (by decide) hx' fun V3 nV3 fV3 hV3=>?_
   rw[←hr]at hV3
   refine hKE V3 ⟨pre ++ [x],b,_,by simp;omega,hV3,?_⟩ ?_
   ·rw[hq,hstep,hnm]
    simp[Option.map_map,Function.comp_def]
   ·rw[hU.left,hV3.left];omega
  ·have hb1:bad=true:=by simpa using hb1
   subst hb1
   exact h0 (.inl rfl) _ _ U _ hU
 ·have he:l' = []:=by simpa using he
  subst he
  cases hb:bad with
  |true =>
   subst hb
   exact h0 (.inl rfl) _ _ U _ hU
  |false =>
   subst hb
   exact h1 rfl pre (by rw[hq];simp[namesP]) [] U z hU
def midB(a b i:Nat):Bool:=decide (a≤i∧i<b)
theorem RkZ.told(h:RkZ S0 T l bad inp r z z){Q:AEnd→Store→Prop}{K:AV→Store→Prop}
    (h1:bad=true→∀ T',Keep S0 T'→K (.t [.a zero8,aI 21]) T')
    (h2:bad=false→c.inputs=inp∧r=rowsM M c∧c.ok∧(¬ c.right=true→∀ T',Keep S0 T'→K (.t [.a zero8,aI 22]) T')∧(c.right=true→∀ T',Keep S0 T'→RowsF T' z c.rowsOf→(∀ i b m,(∃ j,j<7∧z j = .s i b m)→S0.n<i)→K (.t [.a (cells8 c.inputs z),aI 0]) T')):
    callF Pg 73 [.p S0.n 0 0] T Q K:=by
 refine .inl (calls73 ?_)
 unfold m73
 refine boxA_of (cs:=zero8) rfl fun T1 k1 n1 o1=>?_
 have hT1:=h.keep k1
 rw[nilChk_p,shift_p,hT1.ldb,onB_v]
 refine gd_of (fun hb=>?_) (fun hb=>?_)
 ·refine⟨zero8,rfl,?_⟩
  refine stA_of (cs':=zero8) o1 rfl rfl fun T2 n2 o2 f2=>?_
  rw[ldN_p (n:=8) o2 rfl]
  exact h1 hb T2 (h.kp.trans (k1.st (Nat.le_refl _) n2 f2))
 obtain⟨rfl,rfl,hok,hbad,hgood⟩:=h2 hb
 have hlt:=h.lt
 rw[nilChk_p,shift_p,ldN_j hT1.ob (by simp[rkC])]
 have hrows:RowsF (T1.frz (midB (S0.n+1) T.n)) z c.rowsOf:=fun j hj=>by
  have hj7:rowsM M c j=c.rowsOf j:=by unfold rowsM;rw[if_neg (by omega)]
  have ho:=h.rows.own j (by omega)
  rw[hj7]at ho
  rcases ho with ho|⟨id,e1,e2,e3,e4⟩
  ·exact .inl ho
  ·refine .inr ⟨id,tkT j,e1,?_⟩
   have e5:=(k1.2 _ e3).trans e4
   rw[frz_of e5]
   simp[midB,e2,e3]
 have hc8:((rkC l bad c.inputs z).drop (0+3)).take 8=cells8 c.inputs z:=rfl
 rw[hc8]
 refine callF_frz (midB (S0.n+1) T.n) (args:=[.a (cells8 c.inputs z)]) (args2:=[c.av]) rfl (cv_1 ?_) (ans42 hok) ?_
 ·have:=hrows.cva (D:=fun _=>false) (m:=T1.n)
  rw[frz_none]at this
  exact this
 have ob1:(T1.frz (midB (S0.n+1) T.n)).obj T.n=some (.cells 29 [zero8] true):=by rw[frz_false (by unfold midB;exact decide_eq_false (by omega))];exact o1
 have obt:(T1.frz (midB (S0.n+1) T.n)).obj S0.n=some (.cells 100 [rkC l bad c.inputs z] true):=by rw[frz_false (by unfold midB;exact decide_eq_false (by omega))];exact hT1.ob
 have kp:Keep S0 (T1.frz (midB (S0.n+1) T.n)):=⟨hT1.kp.1,fun j hj=>by rw[frz_false (by unfold midB;exact decide_eq_false (by omega))];exact hT1.kp.2 j hj⟩
 generalize T1.frz (midB (S0.n+1) T.n)=F at hrows ob1 obt kp
 rw[un_not,onB_v]
 refine gd_of (fun hr=>?_) (fun hr=>?_)
 ·have hr:¬ c.right=true:=by simpa using hr
  refine⟨zero8,rfl,?_⟩
  refine stA_of (cs':=zero8) ob1 rfl rfl fun T2 n2 o2 f2=>?_
  rw[ldN_p (n:=8) o2 rfl]
  exact hbad hr T2 (kp.st (by omega) n2 f2)
 ·have hr:c.right=true:=by simpa using hr
  rw[nilChk_p,shift_p,ldN_j obt (by simp[rkC]),hc8]
  refine stA_of (cs':=cells8 c.inputs z) ob1 rfl rfl fun T2 n2 o2 f2=>?_
  rw[ldN_p (n:=8) o2 rfl]
  refine hgood hr T2 (kp.st (by omega) n2 f2) (fun j hj=>?_) (fun i b m ⟨j,hj,e⟩=>by have:=((h.rows.own j (by omega)).lt e).1;omega)
  rcases hrows j hj with h|⟨id,e,e1,e2⟩
  ·exact .inl h
  ·refine .inr ⟨id,e,e1,?_⟩
   rw[f2 _ (fun hid=>by
    rw[hid,ob1]at e2
    have:=congrArg (fun o:Option AObj=>match o with|some (.cells _ _ b)=>b|_=>true) e2
    cases this)]
   exact e2
end
theorem reset_P{own reset:Int}(h:0≤reset):resetP own reset=if reset≠own∧2≤reset then none else some (if reset=own then 2 else reset):=by
 unfold resetP
 by_cases h1:reset=own
 ·rw[if_pos h1,if_neg (fun e=>e.1 h1),if_pos h1]
 ·rw[if_neg h1,if_neg h1]
  by_cases h2:2≤reset
  ·rw[if_neg (by omega),if_pos ⟨h1,h2⟩]
  ·rw[if_pos (by omega),if_neg (fun e=>h2 e.2)]
section
variable {S0 T:Store} {l l':Bs} {bad:Bool} {M:List Int} {inp:Int} {r:Nat→List (List AV)} {y z:Nat→AV} {c:Ci}
theorem RkZ.nums2(h:RkZ S0 T l false inp r z z)(hl:l.length≤1000000){least most:Nat}(hm:most≤3){Q:AEnd→Store→Prop}{K:AV→Store→Prop}
    (k:∀(ns:List Int) (b:Bs) (bd:Bool) T' id,most≤ns.length→b.length≤l.length→T.n≤T'.n→RkZ S0 T' b bd inp r z z→T'.obj id=some (.cells 3 (ns.map fun x=>[aI x]) true)→T.n≤id→id<T'.n→(bd=false→numbersP least most l=some (ns,b))→(bd=true→numbersP least most l=none)→K (.s id 0 ns.length) T')
    (hmost:1≤most):callF Pg 69 [.p S0.n 0 0,aI least,aI most] T Q K:=
 h.nums hl hm (fun ns b hns T' id n1 k1 o1 h1 h2 _=>k ns b false T' id (by have:=(numbersP_ok hns).1;omega) (by have:=(numbersP_ok hns).2.1;omega) n1 k1 o1 h1 h2 (fun _=>hns) (fun e=>by cases e))
  (fun hn ns b T' id hl _ hb n1 k1 o1 h1 h2 _=>k ns b true T' id hl hb n1 k1 o1 h1 h2 (fun e=>by cases e) (fun _=>hn)) hmost
def QfP(S:Store)(o:Ci × Int)(e:AEnd)(S':Store):Prop:=∃ r,e = .ret r∧Keep S S'∧Cv (S'.frz (newer S.n)) S.n r (retC o)
theorem QfP.mk{S S':Store}{o:Ci × Int}{r:AV}(h1:Keep S S')(h2:Cv (S'.frz (newer S.n)) S.n r (retC o)):QfP S o (.ret r) S':=⟨r,rfl,h1,h2⟩
theorem cv_bad{S:Store}{m:Nat}{e:Int}{o:Ci × Int}(h:o=(cE,e)):Cv S m (.t [.a zero8,aI e]) (retC o):=by
 subst h
 exact .t _ _ rfl (cvT2 cv_zero8 (.v _))
end
section
variable {S0 T:Store} {l l':Bs} {bad:Bool} {M:List Int} {inp:Int} {r:Nat→List (List AV)} {y z:Nat→AV} {c:Ci}
set_option maxRecDepth 100000 in
theorem RkZ.take(h:RkZ S0 T l bad inp r z z)(hl:l.length≤1000000){Q:AEnd→Store→Prop}{K:AV→Store→Prop}
    (k:∀(a:Int) (b:Bs) T',(-1≤a∧a<2097152)→b.length≤l.length→T.n≤T'.n→RkZ S0 T' b bad inp r z z→(0≤a→takeD l=some (a.toNat,b))→(a<0→takeD l=none)→K (aI a) T'):callF Pg 98 [.p S0.n 0 0] T Q K:=by
 refine .inl (calls98 ?_)
 unfold m98
 refine loop98_0 (fun x u y U=>∃ i n:Nat,x=aI n∧u=aI (128 ^ i:Nat)∧y=aI i∧i≤3∧n<128 ^ i∧U=T∧takeD l=takeN (3 - i) i n (l.drop i)) (fun _ _ y _=>3 - ((intA y).getD 0).toNat) ⟨0,0,rfl,rfl,rfl,by decide,by decide,rfl,by simp[takeD]⟩ ?_
 rintro _ _ _ _ ⟨i,n,rfl,rfl,rfl,hi,hn,rfl,hq⟩ KE hKE
 have none':takeD l=none→K (aI (-1)) _:=fun e=>k (-1) l _ ⟨by decide,by decide⟩ (Nat.le_refl _) (Nat.le_refl _) h (fun e=>by omega) (fun _=>e)
 unfold b98_0
 rw[bin_lss,onB_v]
 refine gd_of (fun hlt3=>?_) (fun hge=>?_)
 ·have hi3:i<3:=by have:(i:Int)<3:=dT hlt3
                   omega
  have e3:3 - i=(3 - (i+1))+1:=by omega
  rw[e3]at hq
  rw[nilChk_p,shift_p,h.ldl,lenT,bin_lss,onB_v]
  refine gd_of (fun hw=>?_) (fun hw=>none' (by
   have hw:=dF hw
   rw[hq,List.drop_eq_nil_of_le (by omega),takeN]))
  have hw:i<l.length:=by have:=dT hw;omega
  rw[List.drop_eq_getElem_cons hw,takeN]at hq
  have hc:=(l[i]).toNat_lt
  have hP:128 ^ i≤128 ^ 2:=Nat.pow_le_pow_right (by decide) (by omega)
  have hP2:(128:Nat) ^ 2=16384:=by decide
  have hP3:128 ^ (i+1)=128 ^ i*128:=Nat.pow_succ _ _
  have hmul:l[i].toNat % 128*128 ^ i≤127*16384:=Nat.mul_le_mul (by omega) (by omega)
  have hsq:l[i].toNat % 128*128 ^ i+128 ^ i≤128 ^ i*128:=by
   rw[←Nat.succ_mul,Nat.mul_comm (128 ^ i)]
   exact Nat.mul_le_mul_right _ (Nat.mod_lt _ (by decide))
  generalize 128 ^ i=P at *
  have et:((l[i].toNat:Nat):Int).tmod 128=((l[i].toNat % 128:Nat):Int):=by rw[Int.tmod_eq_emod_of_nonneg (by omega)];omega
  have em:((l[i].toNat % 128:Nat):Int)*(P:Int)=((l[i].toNat % 128*P:Nat):Int):=by rw[Int.natCast_mul]
  rw[nilChk_p,shift_p,h.ldl,ixT hw,convI_64 .u8 (by omega) (by omega),bin_rem (by decide),et,bin_mul (by omega) (by omega),em,bin_add (by omega) (by omega),bin_mul (by omega) (by omega),bin_lss,onB_v]
  refine gd_of (fun h128=>?_) (fun h128=>?_)
  ·have h128:l[i].toNat<128:=by have:((l[i].toNat:Nat):Int)<128:=dT h128
                                omega
   rw[if_pos h128]at hq
   rw[Nat.mod_eq_of_lt h128]at hmul hsq ⊢
   rw[nilChk_p,shift_p,h.ldl,bin_add (by omega) (by omega)]
   refine⟨rfl,slcTe (a:=i+1) (by omega) ?_⟩
   rw[nilChk_p,shift_p]
   refine h.st (l':=l.drop (i+1)) rfl (by decide) rfl fun T' n' f' h'=>?_
   have hdl:(l.drop (i+1)).length≤l.length:=by rw[List.length_drop];omega
   have good:takeD l=some (n+l[i].toNat*P,l.drop (i+1))→K (aI ((n:Int)+((l[i].toNat*P:Nat):Int))) T':=fun e=>by
    refine k _ (l.drop (i+1)) T' ⟨by omega,by omega⟩ hdl (by omega) h' (fun _=>?_) (fun e=>by omega)
    rw[e]
    have e2:((n:Int)+((l[i].toNat*P:Nat):Int)).toNat=n+l[i].toNat*P:=by omega
    rw[e2]
   rw[bin_gtr,onB_v]
   refine gd_of (fun hi0=>?_) (fun hi0=>good (by rw[hq,if_pos (.inl (by have:=dF hi0;omega))]))
   have hi0:0<i:=by have:=dT hi0;omega
   rw[bin_eql,onB_v]
   refine gd_of (fun hc0=>?_) (fun hc0=>good (by rw[hq,if_pos (.inr (by have:=dF hc0;omega))]))
   have hc0:((l[i].toNat:Nat):Int)=0:=dT hc0
   exact k (-1) (l.drop (i+1)) T' ⟨by decide,by decide⟩ hdl (by omega) h' (fun e=>by omega) (fun _=>by
    rw[hq,if_neg]
    intro e
    rcases e with e|e
    ·omega
    ·omega)
  ·have h128:¬ l[i].toNat<128:=by have:¬ ((l[i].toNat:Nat):Int)<128:=dF h128
                                  omega
   rw[if_neg h128]at hq
   have e1:l[i].toNat % 128=l[i].toNat - 128:=by omega
   rw[bin_add (by omega) (by omega)]
   refine hKE _ _ _ _ ⟨i+1,n+(l[i].toNat - 128)*P,by rw[e1];rfl,by rw[hP3];rfl,rfl,hi3,?_,rfl,hq⟩ (by simp[intA];omega)
   rw[hP3,←e1]
   omega
 ·have hi3:i=3:=by have:¬ (i:Int)<3:=dF hge
                   omega
  subst hi3
  exact none' (by rw[hq,Nat.sub_self,takeN])
theorem RkZ.LM(h:RkZ S0 T l bad inp r z z)(hr:r 7=M.map fun x=>[aI x]){j:Nat}(hj:j<M.length){P:AV→Prop}(k:P (aI (M.getD j 0))):
    ∃ q1,(∀ U,Keep T U→nilChk (.p S0.n 0 0) U fun v S=>v=q1∧S=U)∧∃ q2,(∀ U,Keep T U→shift q1 2 U fun v S=>v=q2∧S=U)∧∃ q3,(∀ U,Keep T U→ld1 q2 U fun v S=>v=q3∧S=U)∧∃ q4,(∀ U,Keep T U→ixS 3 1 q3 (aI j) U fun v S=>v=q4∧S=U)∧∃ q5,(∀ U,Keep T U→ld1 q4 U fun v S=>v=q5∧S=U)∧P q5:=by
 have ho:=h.rows.own 7 (by decide)
 rw[hr]at ho
 obtain⟨id,e1,_,e3,e4⟩:=ho.ix (i:=j) (by simpa using hj)
 have hg:(M.map fun x=>[aI x])[j]? = some [aI (M.getD j 0)]:=by
  rw[List.getElem?_map,List.getElem?_eq_getElem (by omega),List.getD_eq_getElem?_getD,List.getElem?_eq_getElem (by omega)]
  rfl
 refine⟨_,fun U hU=>by rw[nilChk_p];exact⟨rfl,rfl⟩,_,fun U hU=>by rw[shift_p];exact⟨rfl,rfl⟩,z 7,fun U hU=>W ((h.keep hU).ldz (j:=7) (by decide)) ⟨rfl,rfl⟩,.p id j 0,fun U hU=>?_,_,fun U hU=>by rw[ld1_p ((hU.2 _ e3).trans e4) hg rfl];exact⟨rfl,rfl⟩,k⟩
 rw[e1]
 refine W (ixS_s (e:=tkT 7) (by simpa using hj) ((hU.2 _ e3).trans e4)) ?_
 rw[Nat.zero_add]
 exact⟨rfl,rfl⟩
theorem ans63(s:Bs):Ans Pg 63 [aT s] (retC (parseB s)):=by
 intro S
 refine ACalls.tree (calls63 (Q:=QfP S (parseB s)) ?_)
 unfold m63
 have hpb:parseB s=if 20000<s.length then(cE,2)else outP (oB s):=rfl
 rw[hpb]
 refine boxA_of (cs:=zero8) rfl fun S1 k1 n1 o1=>?_
 rw[lenT,bin_gtr,onB_v]
 refine gd_of (fun hl=>?_) (fun hl=>?_)
 ·have hl:20000<s.length:=by have:(20000:Int)<s.length:=dT hl
                             omega
  rw[if_pos hl]
  refine⟨zero8,rfl,?_⟩
  refine stA_of (cs':=zero8) o1 rfl rfl fun S2 n2 o2 f2=>?_
  rw[ldN_p (n:=8) o2 rfl]
  exact QfP.mk (k1.st (Nat.le_refl _) n2 f2) (cv_bad rfl)
 have hl:¬ 20000<s.length:=by have:¬ (20000:Int)<s.length:=dF hl
                              omega
 rw[if_neg hl]
 refine⟨rkC s false 0 (fun _=>.nl),rfl,?_⟩
 refine boxA_of (cs:=rkC s false 0 (fun _=>.nl)) rfl fun S2 k2 n2 o2=>?_
 have hn1:S1.n=S.n+1:=n1
 have hz0:RkZ S1 S2 s false 0 (rowsM [] cE) (fun _=>.nl) (fun _=>.nl):=⟨k2,by omega,o2,⟨fun j hj=>.inl ⟨rfl,by
  match j,hj with
  |0,_=>rfl
  |1,_=>rfl
  |2,_=>rfl
  |3,_=>rfl
  |4,_=>rfl
  |5,_=>rfl
  |6,_=>rfl
  |7,_=>rfl⟩,fun i j _ _ _ a b m b' m' e=>by cases e⟩⟩
 refine hz0.head (by omega) (word:=[97,105,103]) (fun M l1 hh U z1 hZ1=>?_) (fun hh U hU=>?_)
 case refine_2 =>
  rw[un_not,onB_v]
  refine gd_of (fun _=>?_) (fun h=>by cases h)
  refine⟨zero8,rfl,?_⟩
  have t1:=(hU.2 _ (by omega)).trans o1
  have un:=hU.1
  refine stA_of (cs':=zero8) t1 rfl rfl fun U2 n3 o3 f3=>?_
  rw[ldN_p (n:=8) o3 rfl]
  have ho:oB s = .error 20:=by unfold oB;rw[hh]
  rw[ho]
  exact QfP.mk ((k1.trans hU).st (Nat.le_refl _) n3 f3) (cv_bad rfl)
 rw[un_not,onB_v]
 refine gd_of (fun h=>by cases h) (fun _=>?_)
 have hM0:=headP_ok hh
 have hl1:l1.length≤20000:=by omega
 have hMl:=hM0.1
 have hM:∀ j,0≤M.getD j 0∧M.getD j 0≤2000:=fun j=>by
  rw[List.getD_eq_getElem?_getD]
  cases hg:M[j]? with
  |none=>exact⟨by decide,by decide⟩
  |some v=>exact hM0.2.2.1 v (List.mem_of_getElem? hg)
 have hmi:∀ j,aI (M.getD j 0)=aI ((mAt M j:Nat):Int):=fun j=>by
  have:=hM j
  congr 1
  show _=(((M.getD j 0).toNat:Nat):Int)
  omega
 have hmN:∀ j,mAt M j≤2000:=fun j=>by
  have:=hM j
  show(M.getD j 0).toNat≤2000
  omega
 have hm1:=hM 1
 have hm2:=hM 2
 have hoP:oB s=match bodyB M l1 with|none=>.error 21|some c=>.ok c:=by
  unfold oB
  first
   |(rw[hh];done)
   |(rw[hh];simp only;cases bodyB M l1<;>rfl)
 have hbody:bodyB M l1=(latchesB (2*(M.getD 1 0+1)) (mAt M 2) 0 l1).bind (restB M (mAt M 4)):=rfl
 have hrm7:∀ c:Ci,rowsM M c 7=M.map fun x=>[aI x]:=fun c=>rfl
 have hokB:∀ cc,bodyB M l1=some cc→cc.ok:=fun cc h=>bodyB_ok hM0.2.2.1 (by omega) h
 generalize hn2':mAt M 2=N2 at hbody
 have hN2:N2≤2000:=by rw[←hn2'];exact hmN 2
 generalize hn4':mAt M 4=N4 at hbody
 have hN4:N4≤2000:=by rw[←hn4'];exact hmN 4
 have hmA2:aI (M.getD 2 0)=aI N2:=by rw[hmi,hn2']
 have hmA4:aI (M.getD 4 0)=aI N4:=by rw[hmi,hn4']
 have hS1n:S.n<S1.n:=by omega
 have t1:∀{V:Store},Keep S1 V→V.obj S.n=some (.cells 29 [zero8] true):=fun{V} h=>(h.2 _ hS1n).trans o1
 have bad21:bodyB M l1=none→outP (oB s)=(cE,21):=fun h=>by rw[hoP,h];rfl
 have put0:∀(V:Store) (e:Int),Keep S1 V→outP (oB s)=(cE,e)→extr (.t [.a zero8,aI e]) 0 V fun v201 W=>extr (.t [.a zero8,aI e]) 1 W fun v202 W=>stN 8 (.p S.n 0 0) v201 W fun _ W=>ldN 8 (.p S.n 0 0) W fun v204 _=>QfP S (outP (oB s)) (.ret (.t [v204,v202])) W:=by
  intro V e hk he
  rw[extr0,extr1]
  refine stA_of (cs':=zero8) (t1 hk) rfl rfl fun U2 n3 o3 f3=>?_
  rw[ldN_p (n:=8) o3 rfl]
  exact QfP.mk ((k1.trans hk).st (Nat.le_refl _) n3 f3) (cv_bad he)
 have fin:∀(V:Store) (b:Bs) (bd:Bool) (c':Ci) (z:Nat→AV),RkZ S1 V b bd c'.inputs (rowsM M c') z z→c'.names = []→b.length≤l1.length→(bd=false→bodyB M l1=(namesP b.length b).map fun na=>c'.setN na)→(bd=true→bodyB M l1=none)→
     callF Pg 72 [.p S1.n 0 0] V (QfP S (outP (oB s))) fun v199 W=>callF Pg 73 [.p S1.n 0 0] W (QfP S (outP (oB s))) fun v200 W=>extr v200 0 W fun v201 W=>extr v200 1 W fun v202 W=>stN 8 (.p S.n 0 0) v201 W fun _ W=>ldN 8 (.p S.n 0 0) W fun v204 _=>QfP S (outP (oB s)) (.ret (.t [v204,v202])) W:=by
  intro V b bd c' z hz hcn hbl hgood hbad
  refine hz.names (by omega) hcn (fun hb ns hns b' T' z' hZ=>?_) (fun hb b' r' T' z' hZ=>?_)
  ·have hB:=hgood hb
   rw[hns,Option.map_some]at hB
   have hout:outP (oB s)=if(c'.setN ns).right=true then(c'.setN ns,0)else(cE,22):=by rw[hoP,hB];rfl
   refine hZ.told (M:=M) (c:=c'.setN ns) (fun e=>by cases e) (fun _=>⟨rfl,rfl,hokB _ hB,fun hr T2 hk=>put0 T2 22 hk (by rw[hout,if_neg hr]),fun hr T2 hk hrf hid=>?_⟩)
   rw[if_pos hr]at hout
   rw[extr0,extr1]
   refine stA_of (cs':=cells8 c'.inputs z') (t1 hk) rfl rfl fun U2 n3 o3 f3=>?_
   rw[ldN_p (n:=8) o3 rfl]
   refine QfP.mk ((k1.trans hk).st (Nat.le_refl _) n3 f3) ?_
   rw[hout]
   refine .t _ _ rfl (cvT2 (RowsF.cva (c:=c'.setN ns) (S:=U2) (fun j hj=>?_)) (.v _))
   rcases hrf j hj with h|⟨id,e,e1,e2⟩
   ·exact .inl h
   ·have:=hid id 0 _ ⟨j,hj,e1⟩
    exact .inr ⟨id,e,e1,(f3 _ (by omega)).trans e2⟩
  ·have hB:bodyB M l1=none:=by
     rcases hb with hb|hb
     ·exact hbad hb
     ·cases hbd:bd with
      |true=>exact hbad hbd
      |false=>rw[hgood hbd,hb];rfl
   exact hZ.told (M:=M) (c:=c') (fun _ T2 hk=>put0 T2 21 hk (bad21 hB)) (fun e=>by cases e)
 have loop1':∀(V:Store) (l4:Bs) (bd:Bool) (la:List (Int × Int)) (L:List (List Int)) (z:Nat→AV),l4.length≤l1.length→RkZ S1 V l4 bd (M.getD 1 0) (rowsM M ⟨M.getD 1 0,la,[],L.getD 0 [],L.getD 1 [],L.getD 2 [],L.getD 3 [],[]⟩) z z→
     (bd=false→bodyB M l1=(andsB (2*(M.getD 1 0+M.getD 2 0+1)) N4 0 l4).bind fun an=>(namesP an.2.length an.2).map fun na=>⟨M.getD 1 0,la,an.1,L.getD 0 [],L.getD 1 [],L.getD 2 [],L.getD 3 [],na⟩)→(bd=true→bodyB M l1=none)→
     loopV lv63_1 (vc Pg (c63.at_ [1,1,1,1,1,1,0,1,0,0]) (ms63.drop 2)) 134 (env63_1 (.p S.n 0 0) (.p S1.n 0 0) (.v (.int .i64 0))) V (blockK 2 (seqK (vc Pg (c63.at_ [1,1,1,1,1,1,1]) (ms63.drop 2)) (bodyK Pg r63 (QfP S (outP (oB s)))))):=by
  intro V l4 bd la L z hl4 hZ hgood hbad
  refine loop63_1 (fun y V=>∃(i:Nat) (ga:List (Int × Int)) (l5:Bs) (bd:Bool) (z:Nat→AV),y=aI i∧i≤N4∧ga.length=i∧l5.length≤l1.length∧RkZ S1 V l5 bd (M.getD 1 0) (rowsM M ⟨M.getD 1 0,la,ga,L.getD 0 [],L.getD 1 [],L.getD 2 [],L.getD 3 [],[]⟩) z z∧(bd=false→bodyB M l1=((andsB (2*(M.getD 1 0+M.getD 2 0+1)) (N4 - i) i l5).map fun p=>(ga++p.1,p.2)).bind fun an=>(namesP an.2.length an.2).map fun na=>⟨M.getD 1 0,la,an.1,L.getD 0 [],L.getD 1 [],L.getD 2 [],L.getD 3 [],na⟩)∧(bd=true→bodyB M l1=none)) (fun y _=>N4 - ((intA y).getD 0).toNat)
   ⟨0,[],l4,bd,z,rfl,Nat.zero_le _,rfl,hl4,hZ,fun e=>by rw[hgood e];simp,hbad⟩ ?_
  rintro _ V ⟨i,ga,l5,bd,z,rfl,hi,hga,hl5,hV,hg,hb⟩ KE hKE
  unfold b63_1
  refine W (hV.mAt (M:=M) (hrm7 _) (j:=4) (by omega)) ?_
  rw[hmA4,bin_lss,onB_v]
  have done:(bd=false→i=N4)→_:=fun hx=>fin V l5 bd ⟨M.getD 1 0,la,ga,L.getD 0 [],L.getD 1 [],L.getD 2 [],L.getD 3 [],[]⟩ z hV rfl hl5 (fun e=>by
   rw[hg e,hx e,Nat.sub_self,andsB]
   simp[Ci.setN]) hb
  refine gd_of (fun hlt=>?_) (fun hge=>done (fun _=>by have:=dF hge;omega))
  have hlt:i<N4:=by have:=dT hlt;omega
  rw[nilChk_p,shift_p,hV.ldb,un_not,onB_v]
  refine gd_of (fun hb0=>?_) (fun hb1=>done (fun e=>by rw[e]at hb1;cases hb1))
  have hb0:bd=false:=by simpa using hb0
  subst hb0
  have hq:=hg rfl
  have e5:N4 - i=(N4 - (i+1))+1:=by omega
  rw[e5,andsB]at hq
  have put:∀(a b:Int) (l7:Bs) (bd2:Bool) (V1:Store),(-1≤a∧a<2097152)→(-1≤b∧b<2097152)→l7.length≤l5.length→RkZ S1 V1 l7 bd2 (M.getD 1 0) (rowsM M ⟨M.getD 1 0,la,ga,L.getD 0 [],L.getD 1 [],L.getD 2 [],L.getD 3 [],[]⟩) z z→
      (bd2=false→bodyB M l1=((andsB (2*(M.getD 1 0+M.getD 2 0+1)) (N4 - (i+1)) (i+1) l7).map fun p=>(ga ++ [(2*(M.getD 1 0+M.getD 2 0+1)+2*(i:Int) - a,2*(M.getD 1 0+M.getD 2 0+1)+2*(i:Int) - a - b)]++p.1,p.2)).bind fun an=>(namesP an.2.length an.2).map fun na=>⟨M.getD 1 0,la,an.1,L.getD 0 [],L.getD 1 [],L.getD 2 [],L.getD 3 [],na⟩)→(bd2=true→bodyB M l1=none)→
      (∃ q76:AV,(nilChk (.p S1.n 0 0) V1 fun v S=>v=q76∧S=V1)∧∃ q78:AV,(shift q76 2 V1 fun v S=>v=q78∧S=V1)∧∃ q80:AV,(ld1 q78 V1 fun v S=>v=q80∧S=V1)∧∃ q82:AV,(ixS 3 1 q80 (.v (.int .i64 1)) V1 fun v S=>v=q82∧S=V1)∧∃ q84:AV,(ld1 q82 V1 fun v S=>v=q84∧S=V1)∧∃ q86:AV,(nilChk (.p S1.n 0 0) V1 fun v S=>v=q86∧S=V1)∧∃ q88:AV,(shift q86 2 V1 fun v S=>v=q88∧S=V1)∧∃ q90:AV,(ld1 q88 V1 fun v S=>v=q90∧S=V1)∧∃ q92:AV,(ixS 3 1 q90 (.v (.int .i64 2)) V1 fun v S=>v=q92∧S=V1)∧∃ q94:AV,(ld1 q92 V1 fun v S=>v=q94∧S=V1)∧
       ∃ q96:AV,(bin .add 0 q84 q94 V1 fun v S=>v=q96∧S=V1)∧∃ q98:AV,(bin .add 0 q96 (.v (.int .i64 1)) V1 fun v S=>v=q98∧S=V1)∧∃ q100:AV,(bin .add 0 q98 (aI i) V1 fun v S=>v=q100∧S=V1)∧∃ q102:AV,(bin .mul 0 (.v (.int .i64 2)) q100 V1 fun v S=>v=q102∧S=V1)∧
       nilChk (.p S1.n 0 0) V1 fun v104 W=>shift v104 3 W fun v105 W=>shift v105 2 W fun v106 W=>ld1 v106 W fun v107 W=>bin .sub 0 q102 (aI a) W fun v108 W=>bin .sub 0 q102 (aI a) W fun v109 W=>bin .sub 0 v109 (aI b) W fun v110 W=>bld [(0,1),(1,1)] [.v (.int .i64 0),.v (.int .i64 0)] [(0,v108),(1,v110)] W fun v111 W=>bslN 48 2 1 [.v (.int .i64 0),.v (.int .i64 0)] [(0,v111)] W fun v112 W=>appS 48 2 16 v107 v112 W fun v113 W=>nilChk (.p S1.n 0 0) W fun v114 W=>shift v114 3 W fun v115 W=>shift v115 2 W fun v116 W=>stN 1 v116 v113 W fun _ W=>bin .add 0 (aI i) (.v (.int .i64 1)) W fun v118 W=>KE 134 (env63_1 (.p S.n 0 0) (.p S1.n 0 0) v118) W):=by
   intro a b l7 bd2 V1 ha hb' hl7 hV1 h1 h2
   refine hV1.JM (M:=M) (hrm7 _) (j:=1) (by omega) ?_
   refine hV1.JM (M:=M) (hrm7 _) (j:=2) (by omega) ?_
   refine W (J_add (by omega) (by omega)) (W (J_add (by omega) (by omega)) (W (J_add (by omega) (by omega)) (W (J_mulI (by omega) (by omega)) ?_)))
   have e6:2*(M.getD 1 0+M.getD 2 0+1+(i:Int))=2*(M.getD 1 0+M.getD 2 0+1)+2*(i:Int):=by omega
   rw[e6,nilChk_p,shift_p,shift_p]
   refine W (hV1.ldz (j:=1) (by decide)) ?_
   rw[bin_sub (by omega) (by omega),bin_sub (by omega) (by omega),bin_sub (by omega) (by omega)]
   refine⟨[aI (2*(M.getD 1 0+M.getD 2 0+1)+2*(i:Int) - a),aI (2*(M.getD 1 0+M.getD 2 0+1)+2*(i:Int) - a - b)],rfl,?_⟩
   refine bslA2 rfl ?_
   refine hV1.app (j:=1) (by decide) rfl (c:=[aI (2*(M.getD 1 0+M.getD 2 0+1)+2*(i:Int) - a),aI (2*(M.getD 1 0+M.getD 2 0+1)+2*(i:Int) - a - b)]) rfl (by simp[rowsM,Ci.rowsOf];omega) rfl fun x' V2 hx' nV2 hV2 fV2=>?_
   rw[nilChk_p,shift_p,shift_p]
   refine hV2.st (i:=rkI 1) (rkC_sz (by decide)) (by decide) hx' fun V3 nV3 fV3 hV3=>?_
   rw[bin_add (by omega) (by omega)]
   rw[←rowsM_addA (M:=M) ⟨M.getD 1 0,la,ga,L.getD 0 [],L.getD 1 [],L.getD 2 [],L.getD 3 [],[]⟩ (2*(M.getD 1 0+M.getD 2 0+1)+2*(i:Int) - a,2*(M.getD 1 0+M.getD 2 0+1)+2*(i:Int) - a - b)]at hV3
   exact hKE _ _ ⟨i+1,ga ++ [(2*(M.getD 1 0+M.getD 2 0+1)+2*(i:Int) - a,2*(M.getD 1 0+M.getD 2 0+1)+2*(i:Int) - a - b)],l7,bd2,_,rfl,hlt,by simp[hga],by omega,hV3,h1,h2⟩ (by simp[intA];omega)
  refine hV.take (by omega) fun a l6 V1 ha hl6 nV1 hV1 ha1 ha0=>?_
  refine hV1.take (by omega) fun b l7 V2 hb' hl7 nV2 hV2 hb1 hb0=>?_
  rw[bin_lss,onB_v]
  refine gd_of (fun hna=>?_) (fun hna=>?_)
  ·have hna:a<0:=dT hna
   rw[nilChk_p,shift_p]
   refine hV2.setBad fun V3 n3 f3 hV3=>put a b l7 true V3 ha hb' (by omega) hV3 (fun e=>by cases e) (fun _=>by rw[hq,ha0 hna];rfl)
  have hna:¬ a<0:=dF hna
  rw[ha1 (by omega)]at hq
  simp only at hq
  rw[bin_lss,onB_v]
  refine gd_of (fun hnb=>?_) (fun hnb=>?_)
  ·have hnb:b<0:=dT hnb
   rw[nilChk_p,shift_p]
   refine hV2.setBad fun V3 n3 f3 hV3=>put a b l7 true V3 ha hb' (by omega) hV3 (fun e=>by cases e) (fun _=>by rw[hq,hb0 hnb];rfl)
  have hnb:¬ b<0:=dF hnb
  rw[hb1 (by omega)]at hq
  simp only at hq
  refine put a b l7 false V2 ha hb' (by omega) hV2 (fun _=>?_) (fun e=>by cases e)
  have ea:((a.toNat:Nat):Int)=a:=by omega
  have eb:((b.toNat:Nat):Int)=b:=by omega
  rw[hq,ea,eb,Option.map_map]
  congr 2
  funext p
  simp
 refine loop63_0 (fun y V=>∃(i:Nat) (pre:List (Int × Int)) (l3:Bs) (bd:Bool) (z:Nat→AV),y=aI i∧i≤N2∧pre.length=i∧l3.length≤l1.length∧RkZ S1 V l3 bd (M.getD 1 0) (rowsM M ⟨M.getD 1 0,pre,[],[],[],[],[],[]⟩) z z∧(bd=false→bodyB M l1=((latchesB (2*(M.getD 1 0+1)) (N2 - i) i l3).map fun p=>(pre++p.1,p.2)).bind (restB M N4))∧(bd=true→bodyB M l1=none)) (fun y _=>N2 - ((intA y).getD 0).toNat)
  ⟨0,[],l1,false,z1,rfl,Nat.zero_le _,rfl,Nat.le_refl _,hZ1,fun e=>by rw[hbody];simp,fun e=>by cases e⟩ ?_
 rintro _ V ⟨i,pre,l3,bd,z,rfl,hi,hpre,hl3,hV,hg,hb⟩ KE hKE
 unfold b63_0
 refine W (hV.mAt (M:=M) (hrm7 _) (j:=2) (by omega)) ?_
 rw[hmA2,bin_lss,onB_v]
 have done:(bd=false→i=N2)→callF Pg 71 [.p S1.n 0 0] V (QfP S (outP (oB s))) fun v55 W=>loopV lv63_1 (vc Pg (c63.at_ [1,1,1,1,1,1,0,1,0,0]) (ms63.drop 2)) 134 (env63_1 (.p S.n 0 0) (.p S1.n 0 0) (.v (.int .i64 0))) W (blockK 2 (seqK (vc Pg (c63.at_ [1,1,1,1,1,1,1]) (ms63.drop 2)) (bodyK Pg r63 (QfP S (outP (oB s)))))):=by
  intro hx
  refine Rk.columns (c:=⟨M.getD 1 0,pre,[],[],[],[],[],[]⟩) ⟨z,hV⟩ (by omega) hMl hM rfl fun V2 hcs=>?_
  obtain⟨L,b,bd2,hL,hLl,hbl,⟨z2,hz2⟩,hc1,hc2⟩:=hcs
  have hnone:bd2=true→bodyB M l1=none:=fun e=>by
   rcases hc2 e with h|h
   ·exact hb h
   ·cases hbd:bd with
    |true=>exact hb hbd
    |false =>
     rw[hg hbd,hx hbd,Nat.sub_self,latchesB]
     simp[restB,colsP_N,h]
  refine loop1' V2 b bd2 pre L z2 (by omega) hz2 (fun e=>?_) hnone
  obtain⟨hbd,hcol⟩:=hc1 e
  rw[hg hbd,hx hbd,Nat.sub_self,latchesB]
  have hcol2:colsN M 4 l3=some (L,b):=by rw[hcol];simp[colsN]
  simp[restB,colsP_N,hcol2,tup]
 refine gd_of (fun hlt=>?_) (fun hge=>done (fun _=>by have:=dF hge;omega))
 have hlt:i<N2:=by have:=dT hlt;omega
 rw[nilChk_p,shift_p,hV.ldb,un_not,onB_v]
 refine gd_of (fun hb0=>?_) (fun hb1=>done (fun e=>by rw[e]at hb1;cases hb1))
 have hb0:bd=false:=by simpa using hb0
 subst hb0
 have hq:=hg rfl
 have e5:N2 - i=(N2 - (i+1))+1:=by omega
 rw[e5,latchesB]at hq
 refine hV.nums2 (least:=1) (most:=2) (by omega) (by decide) (fun ns b bd2 V1 id hns hbl nV1 hV1 o1' hid1 hid2 hgd hbd=>?_) (by decide)
 refine hV1.LM (M:=M) (hrm7 _) (j:=1) (by omega) ?_
 refine⟨_,fun U hU=>by rw[bin_add (by omega) (by omega)];exact⟨rfl,rfl⟩,?_⟩
 refine⟨_,fun U hU=>by rw[bin_add (by omega) (by omega)];exact⟨rfl,rfl⟩,?_⟩
 refine⟨_,fun U hU=>by rw[bin_mul (by omega) (by omega)];exact⟨rfl,rfl⟩,?_⟩
 have e6:2*(M.getD 1 0+(i:Int)+1)=2*(M.getD 1 0+1)+2*(i:Int):=by omega
 rw[e6]
 generalize hown:2*(M.getD 1 0+1)+2*(i:Int)=own at hq
 refine Lix o1' hid2 (j:=0) (by omega) rfl ?_
 refine Lix o1' hid2 (j:=1) (by omega) rfl ?_
 refine hV1.reset (by simp[rowsM,Ci.rowsOf];omega) fun V2 z2 hV2=>?_
 rw[bin_add (by omega) (by omega)]
 rw[←rowsM_addL (M:=M) ⟨M.getD 1 0,pre,[],[],[],[],[],[]⟩ (ns.getD 0 0,if ns.getD 1 0=own then 2 else ns.getD 1 0)]at hV2
 refine hKE _ _ ⟨i+1,pre ++ [(ns.getD 0 0,if ns.getD 1 0=own then 2 else ns.getD 1 0)],b,_,z2,rfl,hlt,by simp[hpre],by omega,hV2,fun e=>?_,fun e=>?_⟩ (by simp[intA];omega)
 ·rw[Bool.or_eq_false_iff]at e
  have hnum:=hgd e.1
  have hns1:=numbersP_ok hnum
  rw[hq,hnum]
  simp only
  rw[reset_P (getD_rng hns1.2.2 1).1,if_neg (dF e.2)]
  simp only[Option.map_map]
  congr 2
  funext p
  simp
 ·rw[Bool.or_eq_true]at e
  cases hb2:bd2 with
  |true=>rw[hq,hbd hb2];rfl
  |false =>
   have hnum:=hgd hb2
   have hns1:=numbersP_ok hnum
   rcases e with e|e
   ·rw[hb2]at e;cases e
   ·rw[hq,hnum]
    simp only
    rw[reset_P (getD_rng hns1.2.2 1).1,if_pos (dT e)]
    rfl
end
section
set_option maxRecDepth 100000
def c7:Code:=(Tryz.f7.body).getD .skip
def r7:List ResultVar:=Tryz.f7.results.toList
def m8(x0:AV)(S:Store)(Q:PoT):Prop:=
 callF Pg 18 [] S Q fun c S=>un .not c S fun d S=>onB d fun b=>gd b (Q (.ret (.v (.bool false))) S) (callF Pg 22 [x0] S Q fun e S=>boxN 29 8 (.a [.v (.int .i64 0),.nl,.nl,.nl,.nl,.nl,.nl,.nl]) S fun f S=>stN 8 f e S fun g S=>ldN 8 f S fun h S=>callF Pg 20 [h] S Q fun i S=>extr i 0 S fun k S=>extr i 1 S fun l S=>callF Pg 24 [k] S Q fun m S=>extr m 0 S fun n S=>extr m 1 S fun o S=>boxN 29 8 (.a [.v (.int .i64 0),.nl,.nl,.nl,.nl,.nl,.nl,.nl]) S fun p S=>stN 8 p n S fun q S=>bin .add 0 k (.v (.string { data:=#[99,10,97,110,121,116,104,105,110,103] })) S fun r S=>callF Pg 24 [r] S Q fun s S=>extr s 0 S fun t S=>extr s 1 S fun u S=>boxN 29 8 (.a [.v (.int .i64 0),.nl,.nl,.nl,.nl,.nl,.nl,.nl]) S fun w S=>stN 8 w t S fun x S=>onB c fun b=>gd b (bin .eql 0 l (.v (.int .i64 0)) S fun y S=>onB y fun b=>gd b (bin .eql 0 o (.v (.int .i64 0)) S fun z S=>onB z fun b=>gd b (bin .eql 0 u (.v (.int .i64 0)) S fun A S=>onB A fun b=>gd b (ldN 8 f S fun B S=>ldN 8 p S fun C S=>callF Pg 25 [B,C] S Q fun D S=>onB D fun b=>gd b (ldN 8 f S fun E S=>ldN 8 w S fun F S=>callF Pg 25 [E,F] S Q fun G S=>Q (.ret G) S) (Q (.ret (.v (.bool false))) S)) (Q (.ret (.v (.bool false))) S)) (Q (.ret (.v (.bool false))) S)) (Q (.ret (.v (.bool false))) S)) (Q (.ret (.v (.bool false))) S))
def c5:Code:=(Tryz.f5.body).getD .skip
def r5:List ResultVar:=Tryz.f5.results.toList
def m5(x0:AV)(S:Store)(Q:PoT):Prop:=
 callF Pg 22 [x0] S Q fun c S=>boxN 29 8 (.a [.v (.int .i64 0),.nl,.nl,.nl,.nl,.nl,.nl,.nl]) S fun d S=>stN 8 d c S fun e S=>ldN 8 d S fun f S=>callF Pg 20 [f] S Q fun g S=>extr g 0 S fun h S=>extr g 1 S fun i S=>ldN 8 d S fun k S=>callF Pg 21 [k] S Q fun l S=>extr l 0 S fun m S=>extr l 1 S fun n S=>callF Pg 18 [] S Q fun o S=>onB o fun b=>gd b (bin .eql 0 h m S fun p S=>onB p fun b=>gd b (bin .eql 0 i n S fun q S=>onB q fun b=>gd b (callF Pg 19 [h] S Q fun r S=>Q (.ret r) S) (Q (.ret (.v (.bool false))) S)) (Q (.ret (.v (.bool false))) S)) (Q (.ret (.v (.bool false))) S)
def c4:Code:=(Tryz.f4.body).getD .skip
def r4:List ResultVar:=Tryz.f4.results.toList
def m4(x0:AV)(S:Store)(Q:PoT):Prop:=
 boxN 29 8 x0 S fun a S=>shift a 2 S fun c S=>ld1 c S fun d S=>lenS d S fun e S=>bin .gtr 0 e (.v (.int .i64 60)) S fun f S=>onB f fun b=>gd b (callF Pg 18 [] S Q fun g S=>Q (.ret g) S) (shift a 1 S fun h S=>ld1 h S fun i S=>lenS i S fun k S=>bin .gtr 0 k (.v (.int .i64 60)) S fun l S=>onB l fun b=>gd b (callF Pg 18 [] S Q fun m S=>Q (.ret m) S) (shift a 7 S fun n S=>ld1 n S fun o S=>lenS o S fun p S=>bin .gtr 0 p (.v (.int .i64 60)) S fun q S=>onB q fun b=>gd b (callF Pg 18 [] S Q fun r S=>Q (.ret r) S) (shift a 0 S fun s S=>ld1 s S fun t S=>bin .gtr 0 t (.v (.int .i64 60)) S fun u S=>onB u fun b=>gd b (callF Pg 18 [] S Q fun w S=>Q (.ret w) S) (ldN 8 a S fun x S=>callF Pg 20 [x] S Q fun y S=>extr y 0 S fun z S=>extr y 1 S fun A S=>ldN 8 a S fun B S=>callF Pg 21 [B] S Q fun C S=>extr C 0 S fun D S=>extr C 1 S fun E S=>callF Pg 18 [] S Q fun F S=>onB F fun b=>gd b (bin .eql 0 z D S fun G S=>onB G fun b=>gd b (bin .eql 0 A E S fun H S=>Q (.ret H) S) (Q (.ret (.v (.bool false))) S)) (Q (.ret (.v (.bool false))) S)))))
def m18(S:Store)(Q:PoT):Prop:=
 callF Pg 24 [(.v (.string { data:=#[97,97,103,32,49,32,48,32,49,32,48,32,48,10,50,32,51,10] }))] S Q fun c S=>extr c 0 S fun d S=>extr c 1 S fun e S=>boxN 29 8 (.a [.v (.int .i64 0),.nl,.nl,.nl,.nl,.nl,.nl,.nl]) S fun f S=>stN 8 f d S fun g S=>ldN 8 f S fun h S=>callF Pg 20 [h] S Q fun i S=>extr i 0 S fun k S=>extr i 1 S fun l S=>callF Pg 24 [(.v (.string { data:=#[97,97,103,32,49,32,48,32,49,32,48,32,48,10,50,32,52,10] }))] S Q fun m S=>extr m 0 S fun n S=>extr m 1 S fun o S=>boxN 29 8 (.a [.v (.int .i64 0),.nl,.nl,.nl,.nl,.nl,.nl,.nl]) S fun p S=>stN 8 p n S fun q S=>callF Pg 24 [(.v (.string { data:=#[97,97,103,32,49,32,48,32,49,32,48,32,48,10,51,32,51,10] }))] S Q fun r S=>extr r 0 S fun s S=>extr r 1 S fun t S=>boxN 29 8 (.a [.v (.int .i64 0),.nl,.nl,.nl,.nl,.nl,.nl,.nl]) S fun u S=>stN 8 u s S fun w S=>callF Pg 24 [(.v (.string { data:=#[97,105,103,32,49,32,48,32,49,32,48,32,48,10,50,32,51,10] }))] S Q fun x S=>extr x 0 S fun y S=>extr x 1 S fun z S=>boxN 29 8 (.a [.v (.int .i64 0),.nl,.nl,.nl,.nl,.nl,.nl,.nl]) S fun A S=>stN 8 A y S fun B S=>bld [(0,1),(1,1),(2,1),(3,1),(4,1),(5,1),(6,1),(7,1)] [.v (.int .i64 0),.nl,.nl,.nl,.nl,.nl,.nl,.nl] [(0,(.v (.int .i64 (-1))))] S fun C S=>callF Pg 20 [C] S Q fun D S=>extr D 0 S fun E S=>extr D 1 S fun F S=>(fun S0:Store=>∃ G:AV,(bin .eql 0 e (.v (.int .i64 0)) S0 fun H S=>H=G∧S=S0)∧∃ t31:Bool,wantT G true=some t31∧∃ I:AV,gd t31 (shift f 1 S0 fun J S=>J=I∧S=S0) (I = .v undef)∧∃ t34:Bool,wantT G true=some t34∧∃ K:AV,gd t34 (ld1 I S0 fun L S=>L=K∧S=S0) (K = .v undef)∧∃ t37:Bool,wantT G true=some t37∧∃ M:AV,gd t37 (lenS K S0 fun N S=>N=M∧S=S0) (M = .v undef)∧∃ t40:Bool,wantT G true=some t40∧∃ O:AV,gd t40 (bin .eql 0 M (.v (.int .i64 1)) S0 fun P S=>P=O∧S=S0) (O = .v undef)∧∃ R:AV,(pick G O (.v (.bool false)) S0 fun T S=>T=R∧S=S0)∧∃ t45:Bool,wantT R true=some t45∧∃ U:AV,gd t45 (shift f 1 S0 fun V S=>V=U∧S=S0) (U = .v undef)∧∃ t48:Bool,wantT R true=some t48∧∃ W:AV,gd t48 (ld1 U S0 fun X S=>X=W∧S=S0) (W = .v undef)∧∃ t51:Bool,wantT R true=some t51∧∃ Y:AV,gd t51 (ixS 51 2 W (.v (.int .i64 0)) S0 fun Z S=>Z=Y∧S=S0) (Y = .v undef)∧∃ t54:Bool,wantT R true=some t54∧∃ a0:AV,gd t54 (shift Y 0 S0 fun a1 S=>a1=a0∧S=S0) (a0 = .v undef)∧∃ t57:Bool,wantT R true=some t57∧∃ a2:AV,gd t57 (ld1 a0 S0 fun a3 S=>a3=a2∧S=S0) (a2 = .v undef)∧∃ t60:Bool,wantT R true=some t60∧∃ a4:AV,gd t60 (bin .eql 0 a2 (.v (.int .i64 3)) S0 fun a5 S=>a5=a4∧S=S0) (a4 = .v undef)∧∃ a6:AV,(pick R a4 (.v (.bool false)) S0 fun a7 S=>a7=a6∧S=S0)∧∃ t65:Bool,wantT a6 true=some t65∧∃ a8:AV,gd t65 (a8=l) (a8 = .v undef)∧∃ t67:Bool,wantT a6 true=some t67∧∃ a9:AV,gd t67 (bin .eql 0 a8 (.v (.int .i64 0)) S0 fun b0 S=>b0=a9∧S=S0) (a9 = .v undef)∧∃ b1:AV,(pick a6 a9 (.v (.bool false)) S0 fun b2 S=>b2=b1∧S=S0)∧∃ t72:Bool,wantT b1 true=some t72∧∃ b3:AV,gd t72 (b3=k) (b3 = .v undef)∧∃ t74:Bool,wantT b1 true=some t74∧∃ b4:AV,gd t74 (bin .eql 0 b3 (.v (.string { data:=#[97,97,103,32,49,32,48,32,49,32,48,32,48,32,48,32,48,32,48,32,48,10,50,32,51,10] })) S0 fun b5 S=>b5=b4∧S=S0) (b4 = .v undef)∧∃ b6:AV,(pick b1 b4 (.v (.bool false)) S0 fun b7 S=>b7=b6∧S=S0)∧∃ t79:Bool,wantT b6 true=some t79∧∃ b8:AV,gd t79 (b8=o) (b8 = .v undef)∧∃ t81:Bool,wantT b6 true=some t81∧∃ b9:AV,gd t81 (bin .eql 0 b8 (.v (.int .i64 22)) S0 fun c0 S=>c0=b9∧S=S0) (b9 = .v undef)∧∃ c1:AV,(pick b6 b9 (.v (.bool false)) S0 fun c2 S=>c2=c1∧S=S0)∧∃ t86:Bool,wantT c1 true=some t86∧∃ c3:AV,gd t86 (c3=t) (c3 = .v undef)∧∃ t88:Bool,wantT c1 true=some t88∧∃ c4:AV,gd t88 (bin .eql 0 c3 (.v (.int .i64 21)) S0 fun c5 S=>c5=c4∧S=S0) (c4 = .v undef)∧∃ c6:AV,(pick c1 c4 (.v (.bool false)) S0 fun c7 S=>c7=c6∧S=S0)∧∃ t93:Bool,wantT c6 true=some t93∧∃ c8:AV,gd t93 (c8=z) (c8 = .v undef)∧∃ t95:Bool,wantT c6 true=some t95∧∃ c9:AV,gd t95 (bin .eql 0 c8 (.v (.int .i64 20)) S0 fun d0 S=>d0=c9∧S=S0) (c9 = .v undef)∧∃ d1:AV,(pick c6 c9 (.v (.bool false)) S0 fun d2 S=>d2=d1∧S=S0)∧∃ t100:Bool,wantT d1 true=some t100∧∃ d3:AV,gd t100 (d3=F) (d3 = .v undef)∧∃ t102:Bool,wantT d1 true=some t102∧∃ d4:AV,gd t102 (bin .eql 0 d3 (.v (.int .i64 1)) S0 fun d5 S=>d5=d4∧S=S0) (d4 = .v undef)∧∃ d6:AV,(pick d1 d4 (.v (.bool false)) S0 fun d7 S=>d7=d6∧S=S0)∧(fun S:Store=>Q (.ret d6) S) S0) S
def c3:Code:=(Tryz.f3.body).getD .skip
def r3:List ResultVar:=Tryz.f3.results.toList
def m3(x0:AV)(S:Store)(Q:PoT):Prop:=
 callF Pg 18 [] S Q fun a S=>onB a fun b=>gd b (lenStr x0 S fun c S=>bin .gtr 0 c (.v (.int .i64 600)) S fun d S=>onB d fun b=>gd b (lenStr x0 S fun e S=>bin .leq 0 e (.v (.int .i64 20000)) S fun f S=>onB f fun b=>gd b (Q (.ret (.v (.bool true))) S) (callF Pg 19 [x0] S Q fun g S=>Q (.ret g) S)) (callF Pg 19 [x0] S Q fun h S=>Q (.ret h) S)) (Q (.ret (.v (.bool false))) S)
def c60:Code:=(Tryz.f60.body).getD .skip
def r60:List ResultVar:=Tryz.f60.results.toList
def env60_0(y2 y3 y5:AV):List AV:=[y2,y3,y5]
def lv60_0:List Nat:=[2,3,5]
def ms60:List (List Nat):=[lv60_0,[]]
def m60(x0 x1:AV)(S:Store)(Q:PoT):Prop:=
 boxN 70 2 x0 S fun a S=>boxN 70 2 x1 S fun c S=>shift a 0 S fun d S=>ld1 d S fun e S=>shift c 0 S fun f S=>ld1 f S fun g S=>bin .neq 0 e g S fun h S=>onB h fun b=>gd b (Q (.ret (.v (.bool false))) S) (shift a 1 S fun i S=>ld1 i S fun k S=>lenS k S fun l S=>shift c 1 S fun m S=>ld1 m S fun n S=>lenS n S fun o S=>bin .neq 0 l o S fun p S=>onB p fun b=>gd b (Q (.ret (.v (.bool false))) S) (loopV lv60_0 (vc Pg (c60.at_ [1,1,0,1,0,0]) (ms60.drop 1)) 38 (env60_0 a c (.v (.int .i64 0))) S (blockK 0 (seqK (vc Pg (c60.at_ [1,1,1]) (ms60.drop 1)) (bodyK Pg r60 Q)))))
theorem calls60{x0 x1:AV}{S:Store}{Q:PoT}(h:m60 x0 x1 S Q):ACalls Pg 60 [x0,x1] S Q:=
 calls_of_vc (fn:=Tryz.f60) (c:=c60) (n:=38) Tryz.func60 (by kernel_rfl) (by kernel_rfl) (by kernel_rfl) ms60 (Eq.mpr (by kernel_rfl) h)
def b60_0(y2 y3 y5:AV)(S:Store)(KE0:KeT)(Q:PoT):Prop:=
 shift y2 1 S fun a S=>ld1 a S fun c S=>lenS c S fun d S=>bin .lss 0 y5 d S fun e S=>onB e fun b=>gd b ((fun S0:Store=>∃ f:AV,(shift y2 1 S fun g S=>g=f∧S=S0)∧∃ h:AV,(ld1 f S fun i S=>i=h∧S=S0)∧∃ k:AV,(ixS 48 2 h y5 S fun l S=>l=k∧S=S0)∧∃ m:AV,(ldN 2 k S fun n S=>n=m∧S=S0)∧∃ o:AV,(shift y3 1 S fun p S=>p=o∧S=S0)∧∃ q:AV,(ld1 o S fun r S=>r=q∧S=S0)∧∃ s:AV,(ixS 48 2 q y5 S fun t S=>t=s∧S=S0)∧∃ u:AV,(ldN 2 s S fun w S=>w=u∧S=S0)∧∃ x:AV,(binP .i64 .neq m u S fun y S=>y=x∧S=S0)∧onB x fun b=>gd b (Q (.ret (.v (.bool false))) S) (bin .add 0 y5 (.v (.int .i64 1)) S fun z S=>KE0 38 (env60_0 y2 y3 z) S)) S) (Q (.ret (.v (.bool true))) S)
theorem b60_0_eq(y2 y3 y5:AV)(S:Store)(KE0:KeT)(Q:PoT):vc Pg (c60.at_ [1,1,0,1,0,0]) (ms60.drop 1) (mkE 38 lv60_0 (env60_0 y2 y3 y5)) S (thenK (fgK lv60_0 KE0) (blockK 0 (seqK (vc Pg (c60.at_ [1,1,1]) (ms60.drop 1)) (bodyK Pg r60 Q))))=b60_0 y2 y3 y5 S KE0 Q:=by kernel_rfl
theorem loop60_0{y2 y3:AV}{y50:AV}{S:Store}{Q:PoT}(I:AV→Store→Prop)(μ:AV→Store→Nat)(h0:I y50 S)
    (hr:∀(y5:AV) (S:Store),I y5 S→∀ KE0:KeT,(∀(y5':AV) (S':Store),I y5' S'→μ y5' S'<μ y5 S→KE0 38 (env60_0 y2 y3 y5') S')→b60_0 y2 y3 y5 S KE0 Q):
    loopV lv60_0 (vc Pg (c60.at_ [1,1,0,1,0,0]) (ms60.drop 1)) 38 (env60_0 y2 y3 y50) S (blockK 0 (seqK (vc Pg (c60.at_ [1,1,1]) (ms60.drop 1)) (bodyK Pg r60 Q))):=by
 refine⟨fun n e S=>n=38∧∃ y5:AV,e=(env60_0 y2 y3 y5)∧I y5 S,fun _ e S=>μ (e.getD 2 .j) S,?_,?_⟩
 ·exact⟨_,_,Wk.refl _ _,rfl,_,rfl,h0⟩
 ·rintro _ e S ⟨rfl,y5,rfl,hI⟩
  exact(b60_0_eq _ _ _ _ _ _).mpr (hr y5 S hI _ (fun y5' S' hI' hm=>⟨_,_,Wk.refl _ _,⟨rfl,_,rfl,hI'⟩,hm⟩))
def c62:Code:=(Tryz.f62.body).getD .skip
def r62:List ResultVar:=Tryz.f62.results.toList
def env62_0(y0 y1 y5:AV):List AV:=[y0,y1,y5]
def lv62_0:List Nat:=[0,1,5]
def ms62:List (List Nat):=[lv62_0,[]]
def m62(x0 x1:AV)(S:Store)(Q:PoT):Prop:=
 lenS x0 S fun a S=>lenS x1 S fun c S=>bin .neq 0 a c S fun d S=>onB d fun b=>gd b (Q (.ret (.v (.bool false))) S) (loopV lv62_0 (vc Pg (c62.at_ [1,1,0,1,0,0]) (ms62.drop 1)) 26 (env62_0 x0 x1 (.v (.int .i64 0))) S (blockK 0 (seqK (vc Pg (c62.at_ [1,1,1]) (ms62.drop 1)) (bodyK Pg r62 Q))))
theorem calls62{x0 x1:AV}{S:Store}{Q:PoT}(h:m62 x0 x1 S Q):ACalls Pg 62 [x0,x1] S Q:=
 calls_of_vc (fn:=Tryz.f62) (c:=c62) (n:=26) Tryz.func62 (by kernel_rfl) (by kernel_rfl) (by kernel_rfl) ms62 (Eq.mpr (by kernel_rfl) h)
def b62_0(y0 y1 y5:AV)(S:Store)(KE0:KeT)(Q:PoT):Prop:=
 lenS y0 S fun a S=>bin .lss 0 y5 a S fun c S=>onB c fun b=>gd b ((fun S0:Store=>∃ d:AV,(ixS 3 1 y0 y5 S fun e S=>e=d∧S=S0)∧∃ f:AV,(ld1 d S fun g S=>g=f∧S=S0)∧∃ h:AV,(ixS 3 1 y1 y5 S fun i S=>i=h∧S=S0)∧∃ k:AV,(ld1 h S fun l S=>l=k∧S=S0)∧∃ m:AV,(bin .neq 0 f k S fun n S=>n=m∧S=S0)∧onB m fun b=>gd b (Q (.ret (.v (.bool false))) S) (bin .add 0 y5 (.v (.int .i64 1)) S fun o S=>KE0 26 (env62_0 y0 y1 o) S)) S) (Q (.ret (.v (.bool true))) S)
theorem b62_0_eq(y0 y1 y5:AV)(S:Store)(KE0:KeT)(Q:PoT):vc Pg (c62.at_ [1,1,0,1,0,0]) (ms62.drop 1) (mkE 26 lv62_0 (env62_0 y0 y1 y5)) S (thenK (fgK lv62_0 KE0) (blockK 0 (seqK (vc Pg (c62.at_ [1,1,1]) (ms62.drop 1)) (bodyK Pg r62 Q))))=b62_0 y0 y1 y5 S KE0 Q:=by kernel_rfl
theorem loop62_0{y0 y1:AV}{y50:AV}{S:Store}{Q:PoT}(I:AV→Store→Prop)(μ:AV→Store→Nat)(h0:I y50 S)
    (hr:∀(y5:AV) (S:Store),I y5 S→∀ KE0:KeT,(∀(y5':AV) (S':Store),I y5' S'→μ y5' S'<μ y5 S→KE0 26 (env62_0 y0 y1 y5') S')→b62_0 y0 y1 y5 S KE0 Q):
    loopV lv62_0 (vc Pg (c62.at_ [1,1,0,1,0,0]) (ms62.drop 1)) 26 (env62_0 y0 y1 y50) S (blockK 0 (seqK (vc Pg (c62.at_ [1,1,1]) (ms62.drop 1)) (bodyK Pg r62 Q))):=by
 refine⟨fun n e S=>n=26∧∃ y5:AV,e=(env62_0 y0 y1 y5)∧I y5 S,fun _ e S=>μ (e.getD 2 .j) S,?_,?_⟩
 ·exact⟨_,_,Wk.refl _ _,rfl,_,rfl,h0⟩
 ·rintro _ e S ⟨rfl,y5,rfl,hI⟩
  exact(b62_0_eq _ _ _ _ _ _).mpr (hr y5 S hI _ (fun y5' S' hI' hm=>⟨_,_,Wk.refl _ _,⟨rfl,_,rfl,hI'⟩,hm⟩))
def c25:Code:=(Tryz.f25.body).getD .skip
def r25:List ResultVar:=Tryz.f25.results.toList
def env25_0(y2 y3 y5:AV):List AV:=[y2,y3,y5]
def lv25_0:List Nat:=[2,3,5]
def env25_1(y2 y3 y6:AV):List AV:=[y2,y3,y6]
def lv25_1:List Nat:=[2,3,6]
def ms25:List (List Nat):=[lv25_0,lv25_1,[]]
def m25(x0 x1:AV)(S:Store)(Q:PoT):Prop:=
 boxN 29 8 x0 S fun a S=>boxN 29 8 x1 S fun c S=>(fun S0:Store=>∃ d:AV,(ldN 8 a S fun e S=>e=d∧S=S0)∧∃ f:AV,(callF Pg 61 [d] S (fun _ _=>False) fun g S=>g=f∧S=S0)∧∃ h:AV,(ldN 8 c S fun i S=>i=h∧S=S0)∧∃ k:AV,(callF Pg 61 [h] S (fun _ _=>False) fun l S=>l=k∧S=S0)∧∃ m:AV,(callF Pg 60 [f,k] S (fun _ _=>False) fun n S=>n=m∧S=S0)∧∃ o:AV,(un .not m S fun p S=>p=o∧S=S0)∧onB o fun b=>gd b (∃ q:AV,((.v (.bool true))=q∧S=S0)∧onB q fun b=>gd b (∃ r:AV,((.v (.bool true))=r∧S=S0)∧onB r fun b=>gd b (∃ s:AV,((.v (.bool true))=s∧S=S0)∧onB s fun b=>gd b (Q (.ret (.v (.bool false))) S) (loopV lv25_0 (vc Pg (c25.at_ [1,1,0,1,0,0]) (ms25.drop 1)) 100 (env25_0 a c (.v (.int .i64 0))) S (blockK 0 (seqK (vc Pg (c25.at_ [1,1,1]) (ms25.drop 1)) (bodyK Pg r25 Q))))) (∃ t:AV,(shift a 7 S fun u S=>u=t∧S=S0)∧∃ w:AV,(ld1 t S fun x S=>x=w∧S=S0)∧∃ y:AV,(lenS w S fun z S=>z=y∧S=S0)∧∃ A:AV,(shift c 7 S fun B S=>B=A∧S=S0)∧∃ C:AV,(ld1 A S fun D S=>D=C∧S=S0)∧∃ E:AV,(lenS C S fun F S=>F=E∧S=S0)∧∃ G:AV,(bin .neq 0 y E S fun H S=>H=G∧S=S0)∧∃ I:AV,(G=I∧S=S0)∧onB I fun b=>gd b (Q (.ret (.v (.bool false))) S) (loopV lv25_0 (vc Pg (c25.at_ [1,1,0,1,0,0]) (ms25.drop 1)) 100 (env25_0 a c (.v (.int .i64 0))) S (blockK 0 (seqK (vc Pg (c25.at_ [1,1,1]) (ms25.drop 1)) (bodyK Pg r25 Q)))))) (∃ J:AV,(shift a 1 S fun K S=>K=J∧S=S0)∧∃ L:AV,(ld1 J S fun M S=>M=L∧S=S0)∧∃ N:AV,(lenS L S fun O S=>O=N∧S=S0)∧∃ P:AV,(shift c 1 S fun R S=>R=P∧S=S0)∧∃ T:AV,(ld1 P S fun U S=>U=T∧S=S0)∧∃ V:AV,(lenS T S fun W S=>W=V∧S=S0)∧∃ X:AV,(bin .neq 0 N V S fun Y S=>Y=X∧S=S0)∧∃ Z:AV,(X=Z∧S=S0)∧onB Z fun b=>gd b (∃ a0:AV,((.v (.bool true))=a0∧S=S0)∧onB a0 fun b=>gd b (Q (.ret (.v (.bool false))) S) (loopV lv25_0 (vc Pg (c25.at_ [1,1,0,1,0,0]) (ms25.drop 1)) 100 (env25_0 a c (.v (.int .i64 0))) S (blockK 0 (seqK (vc Pg (c25.at_ [1,1,1]) (ms25.drop 1)) (bodyK Pg r25 Q))))) (∃ a1:AV,(shift a 7 S fun a2 S=>a2=a1∧S=S0)∧∃ a3:AV,(ld1 a1 S fun a4 S=>a4=a3∧S=S0)∧∃ a5:AV,(lenS a3 S fun a6 S=>a6=a5∧S=S0)∧∃ a7:AV,(shift c 7 S fun a8 S=>a8=a7∧S=S0)∧∃ a9:AV,(ld1 a7 S fun b0 S=>b0=a9∧S=S0)∧∃ b1:AV,(lenS a9 S fun b2 S=>b2=b1∧S=S0)∧∃ b3:AV,(bin .neq 0 a5 b1 S fun b4 S=>b4=b3∧S=S0)∧∃ b5:AV,(b3=b5∧S=S0)∧onB b5 fun b=>gd b (Q (.ret (.v (.bool false))) S) (loopV lv25_0 (vc Pg (c25.at_ [1,1,0,1,0,0]) (ms25.drop 1)) 100 (env25_0 a c (.v (.int .i64 0))) S (blockK 0 (seqK (vc Pg (c25.at_ [1,1,1]) (ms25.drop 1)) (bodyK Pg r25 Q))))))) (∃ b6:AV,(shift a 0 S fun b7 S=>b7=b6∧S=S0)∧∃ b8:AV,(ld1 b6 S fun b9 S=>b9=b8∧S=S0)∧∃ c0:AV,(shift c 0 S fun c1 S=>c1=c0∧S=S0)∧∃ c2:AV,(ld1 c0 S fun c3 S=>c3=c2∧S=S0)∧∃ c4:AV,(bin .neq 0 b8 c2 S fun c5 S=>c5=c4∧S=S0)∧∃ c6:AV,(c4=c6∧S=S0)∧onB c6 fun b=>gd b (∃ c7:AV,((.v (.bool true))=c7∧S=S0)∧onB c7 fun b=>gd b (∃ c8:AV,((.v (.bool true))=c8∧S=S0)∧onB c8 fun b=>gd b (Q (.ret (.v (.bool false))) S) (loopV lv25_0 (vc Pg (c25.at_ [1,1,0,1,0,0]) (ms25.drop 1)) 100 (env25_0 a c (.v (.int .i64 0))) S (blockK 0 (seqK (vc Pg (c25.at_ [1,1,1]) (ms25.drop 1)) (bodyK Pg r25 Q))))) (∃ c9:AV,(shift a 7 S fun d0 S=>d0=c9∧S=S0)∧∃ d1:AV,(ld1 c9 S fun d2 S=>d2=d1∧S=S0)∧∃ d3:AV,(lenS d1 S fun d4 S=>d4=d3∧S=S0)∧∃ d5:AV,(shift c 7 S fun d6 S=>d6=d5∧S=S0)∧∃ d7:AV,(ld1 d5 S fun d8 S=>d8=d7∧S=S0)∧∃ d9:AV,(lenS d7 S fun e0 S=>e0=d9∧S=S0)∧∃ e1:AV,(bin .neq 0 d3 d9 S fun e2 S=>e2=e1∧S=S0)∧∃ e3:AV,(e1=e3∧S=S0)∧onB e3 fun b=>gd b (Q (.ret (.v (.bool false))) S) (loopV lv25_0 (vc Pg (c25.at_ [1,1,0,1,0,0]) (ms25.drop 1)) 100 (env25_0 a c (.v (.int .i64 0))) S (blockK 0 (seqK (vc Pg (c25.at_ [1,1,1]) (ms25.drop 1)) (bodyK Pg r25 Q)))))) (∃ e4:AV,(shift a 1 S fun e5 S=>e5=e4∧S=S0)∧∃ e6:AV,(ld1 e4 S fun e7 S=>e7=e6∧S=S0)∧∃ e8:AV,(lenS e6 S fun e9 S=>e9=e8∧S=S0)∧∃ f0:AV,(shift c 1 S fun f1 S=>f1=f0∧S=S0)∧∃ f2:AV,(ld1 f0 S fun f3 S=>f3=f2∧S=S0)∧∃ f4:AV,(lenS f2 S fun f5 S=>f5=f4∧S=S0)∧∃ f6:AV,(bin .neq 0 e8 f4 S fun f7 S=>f7=f6∧S=S0)∧∃ f8:AV,(f6=f8∧S=S0)∧onB f8 fun b=>gd b (∃ f9:AV,((.v (.bool true))=f9∧S=S0)∧onB f9 fun b=>gd b (Q (.ret (.v (.bool false))) S) (loopV lv25_0 (vc Pg (c25.at_ [1,1,0,1,0,0]) (ms25.drop 1)) 100 (env25_0 a c (.v (.int .i64 0))) S (blockK 0 (seqK (vc Pg (c25.at_ [1,1,1]) (ms25.drop 1)) (bodyK Pg r25 Q))))) (∃ g0:AV,(shift a 7 S fun g1 S=>g1=g0∧S=S0)∧∃ g2:AV,(ld1 g0 S fun g3 S=>g3=g2∧S=S0)∧∃ g4:AV,(lenS g2 S fun g5 S=>g5=g4∧S=S0)∧∃ g6:AV,(shift c 7 S fun g7 S=>g7=g6∧S=S0)∧∃ g8:AV,(ld1 g6 S fun g9 S=>g9=g8∧S=S0)∧∃ h0:AV,(lenS g8 S fun h1 S=>h1=h0∧S=S0)∧∃ h2:AV,(bin .neq 0 g4 h0 S fun h3 S=>h3=h2∧S=S0)∧∃ h4:AV,(h2=h4∧S=S0)∧onB h4 fun b=>gd b (Q (.ret (.v (.bool false))) S) (loopV lv25_0 (vc Pg (c25.at_ [1,1,0,1,0,0]) (ms25.drop 1)) 100 (env25_0 a c (.v (.int .i64 0))) S (blockK 0 (seqK (vc Pg (c25.at_ [1,1,1]) (ms25.drop 1)) (bodyK Pg r25 Q)))))))) S
theorem calls25{x0 x1:AV}{S:Store}{Q:PoT}(h:m25 x0 x1 S Q):ACalls Pg 25 [x0,x1] S Q:=
 calls_of_vc (fn:=Tryz.f25) (c:=c25) (n:=100) Tryz.func25 (by kernel_rfl) (by kernel_rfl) (by kernel_rfl) ms25 (Eq.mpr (by kernel_rfl) h)
def b25_0(y2 y3 y5:AV)(S:Store)(KE0:KeT)(Q:PoT):Prop:=
 shift y2 1 S fun a S=>ld1 a S fun c S=>lenS c S fun d S=>bin .lss 0 y5 d S fun e S=>onB e fun b=>gd b ((fun S0:Store=>∃ f:AV,(shift y2 1 S fun g S=>g=f∧S=S0)∧∃ h:AV,(ld1 f S fun i S=>i=h∧S=S0)∧∃ k:AV,(ixS 51 2 h y5 S fun l S=>l=k∧S=S0)∧∃ m:AV,(ldN 2 k S fun n S=>n=m∧S=S0)∧∃ o:AV,(shift y3 1 S fun p S=>p=o∧S=S0)∧∃ q:AV,(ld1 o S fun r S=>r=q∧S=S0)∧∃ s:AV,(ixS 51 2 q y5 S fun t S=>t=s∧S=S0)∧∃ u:AV,(ldN 2 s S fun w S=>w=u∧S=S0)∧∃ x:AV,(eqS [1,1] .neq m u S fun y S=>y=x∧S=S0)∧onB x fun b=>gd b (Q (.ret (.v (.bool false))) S) (bin .add 0 y5 (.v (.int .i64 1)) S fun z S=>KE0 100 (env25_0 y2 y3 z) S)) S) (loopV lv25_1 (vc Pg (c25.at_ [1,1,1,0,1,0,0]) (ms25.drop 2)) 100 (env25_1 y2 y3 (.v (.int .i64 0))) S (blockK 2 (seqK (vc Pg (c25.at_ [1,1,1,1]) (ms25.drop 2)) (bodyK Pg r25 Q))))
theorem b25_0_eq(y2 y3 y5:AV)(S:Store)(KE0:KeT)(Q:PoT):vc Pg (c25.at_ [1,1,0,1,0,0]) (ms25.drop 1) (mkE 100 lv25_0 (env25_0 y2 y3 y5)) S (thenK (fgK lv25_0 KE0) (blockK 0 (seqK (vc Pg (c25.at_ [1,1,1]) (ms25.drop 1)) (bodyK Pg r25 Q))))=b25_0 y2 y3 y5 S KE0 Q:=by kernel_rfl
theorem loop25_0{y2 y3:AV}{y50:AV}{S:Store}{Q:PoT}(I:AV→Store→Prop)(μ:AV→Store→Nat)(h0:I y50 S)
    (hr:∀(y5:AV) (S:Store),I y5 S→∀ KE0:KeT,(∀(y5':AV) (S':Store),I y5' S'→μ y5' S'<μ y5 S→KE0 100 (env25_0 y2 y3 y5') S')→b25_0 y2 y3 y5 S KE0 Q):
    loopV lv25_0 (vc Pg (c25.at_ [1,1,0,1,0,0]) (ms25.drop 1)) 100 (env25_0 y2 y3 y50) S (blockK 0 (seqK (vc Pg (c25.at_ [1,1,1]) (ms25.drop 1)) (bodyK Pg r25 Q))):=by
 refine⟨fun n e S=>n=100∧∃ y5:AV,e=(env25_0 y2 y3 y5)∧I y5 S,fun _ e S=>μ (e.getD 2 .j) S,?_,?_⟩
 ·exact⟨_,_,Wk.refl _ _,rfl,_,rfl,h0⟩
 ·rintro _ e S ⟨rfl,y5,rfl,hI⟩
  exact(b25_0_eq _ _ _ _ _ _).mpr (hr y5 S hI _ (fun y5' S' hI' hm=>⟨_,_,Wk.refl _ _,⟨rfl,_,rfl,hI'⟩,hm⟩))
def b25_1(y2 y3 y6:AV)(S:Store)(KE1:KeT)(Q:PoT):Prop:=
 shift y2 7 S fun a S=>ld1 a S fun c S=>lenS c S fun d S=>bin .lss 0 y6 d S fun e S=>onB e fun b=>gd b ((fun S0:Store=>∃ f:AV,(shift y2 7 S fun g S=>g=f∧S=S0)∧∃ h:AV,(ld1 f S fun i S=>i=h∧S=S0)∧∃ k:AV,(ixS 75 3 h y6 S fun l S=>l=k∧S=S0)∧∃ m:AV,(ldN 3 k S fun n S=>n=m∧S=S0)∧∃ o:AV,(shift y3 7 S fun p S=>p=o∧S=S0)∧∃ q:AV,(ld1 o S fun r S=>r=q∧S=S0)∧∃ s:AV,(ixS 75 3 q y6 S fun t S=>t=s∧S=S0)∧∃ u:AV,(ldN 3 s S fun w S=>w=u∧S=S0)∧∃ x:AV,(eqS [1,1,3] .neq m u S fun y S=>y=x∧S=S0)∧onB x fun b=>gd b (Q (.ret (.v (.bool false))) S) (bin .add 0 y6 (.v (.int .i64 1)) S fun z S=>KE1 100 (env25_1 y2 y3 z) S)) S) (shift y2 3 S fun A S=>ld1 A S fun B S=>shift y3 3 S fun C S=>ld1 C S fun D S=>callF Pg 62 [B,D] S Q fun E S=>onB E fun b=>gd b (shift y2 4 S fun F S=>ld1 F S fun G S=>shift y3 4 S fun H S=>ld1 H S fun I S=>callF Pg 62 [G,I] S Q fun J S=>onB J fun b=>gd b (shift y2 5 S fun K S=>ld1 K S fun L S=>shift y3 5 S fun M S=>ld1 M S fun N S=>callF Pg 62 [L,N] S Q fun O S=>onB O fun b=>gd b (shift y2 6 S fun P S=>ld1 P S fun R S=>shift y3 6 S fun T S=>ld1 T S fun U S=>callF Pg 62 [R,U] S Q fun V S=>Q (.ret V) S) (Q (.ret (.v (.bool false))) S)) (Q (.ret (.v (.bool false))) S)) (Q (.ret (.v (.bool false))) S))
theorem b25_1_eq(y2 y3 y6:AV)(S:Store)(KE1:KeT)(Q:PoT):vc Pg (c25.at_ [1,1,1,0,1,0,0]) (ms25.drop 2) (mkE 100 lv25_1 (env25_1 y2 y3 y6)) S (thenK (fgK lv25_1 KE1) (blockK 2 (seqK (vc Pg (c25.at_ [1,1,1,1]) (ms25.drop 2)) (bodyK Pg r25 Q))))=b25_1 y2 y3 y6 S KE1 Q:=by kernel_rfl
theorem loop25_1{y2 y3:AV}{y60:AV}{S:Store}{Q:PoT}(I:AV→Store→Prop)(μ:AV→Store→Nat)(h0:I y60 S)
    (hr:∀(y6:AV) (S:Store),I y6 S→∀ KE1:KeT,(∀(y6':AV) (S':Store),I y6' S'→μ y6' S'<μ y6 S→KE1 100 (env25_1 y2 y3 y6') S')→b25_1 y2 y3 y6 S KE1 Q):
    loopV lv25_1 (vc Pg (c25.at_ [1,1,1,0,1,0,0]) (ms25.drop 2)) 100 (env25_1 y2 y3 y60) S (blockK 2 (seqK (vc Pg (c25.at_ [1,1,1,1]) (ms25.drop 2)) (bodyK Pg r25 Q))):=by
 refine⟨fun n e S=>n=100∧∃ y6:AV,e=(env25_1 y2 y3 y6)∧I y6 S,fun _ e S=>μ (e.getD 2 .j) S,?_,?_⟩
 ·exact⟨_,_,Wk.refl _ _,rfl,_,rfl,h0⟩
 ·rintro _ e S ⟨rfl,y6,rfl,hI⟩
  exact(b25_1_eq _ _ _ _ _ _).mpr (hr y6 S hI _ (fun y6' S' hI' hm=>⟨_,_,Wk.refl _ _,⟨rfl,_,rfl,hI'⟩,hm⟩))
def m19(x0:AV)(S:Store)(Q:PoT):Prop:=
 callF Pg 24 [x0] S Q fun c S=>extr c 0 S fun d S=>extr c 1 S fun e S=>boxN 29 8 (.a [.v (.int .i64 0),.nl,.nl,.nl,.nl,.nl,.nl,.nl]) S fun f S=>stN 8 f d S fun g S=>callF Pg 32 [x0] S Q fun h S=>extr h 0 S fun i S=>extr h 1 S fun k S=>boxN 29 8 (.a [.v (.int .i64 0),.nl,.nl,.nl,.nl,.nl,.nl,.nl]) S fun l S=>stN 8 l i S fun m S=>ldN 8 f S fun n S=>ldN 8 l S fun o S=>callF Pg 25 [n,o] S Q fun p S=>onB p fun b=>gd b (bin .eql 0 e k S fun q S=>Q (.ret q) S) (Q (.ret (.v (.bool false))) S)
end
end
end Go.Proofs.YtodfhmmjemlmeaaGreatDoor.G

/- Circuit -/
import Derived.Lib.IndexLaws
import Derived.Test.YtmpjhihpcaephaaGreatDoorProg
import Derived.KernelRfl
import Derived.Test.YtmpjhihpcaephaaGreatDoorCwT3
set_option linter.unusedVariables false
set_option linter.unusedSimpArgs false
namespace Go.Proofs.YtmpjhihpcaephaaGreatDoor.G
open Go Go.Ab
noncomputable section
theorem at60{l:List Na}(hl:l.length≤9223372036854775807){g:Na→Bool}{fn:FuncId}{fs cs:List AV}{S:Store}
    (hf:∀ x,x∈l→AnsAt Pg fn (fs ++ [.a x.row]++cs) S (aB (g x))):AnsAt Pg 60 [nL l,.f (.func fn) fs cs] S (aI (idxOf (l.findIdx? g))):=by
 refine calls60 ?_
 unfold m60
 rw[lenS_nL]
 refine loop60_0 (fun y S'=>S'=S∧∃ i:Nat,y=aI i∧i≤l.length∧∀ k (hk:k<l.length),k<i→g l[k]=false) (fun y _=>l.length - ((intA y).getD 0).toNat) ⟨rfl,0,rfl,Nat.zero_le _,fun k _ h=>absurd h (Nat.not_lt_zero _)⟩ ?_
 rintro _ _ ⟨rfl,i,rfl,hi,hk⟩ KE hKE
 unfold b60_0
 rw[bin_lss,onB_v]
 refine gd_of (fun h=>?_) (fun h=>?_)
 ·have hlt:i<l.length:=by simpa using h
  rw[ixS_nL hlt,ldN_q (c:=l[i].row) (n:=3) rfl]
  refine callV_at (hf _ (List.getElem_mem hlt)) ?_
  rw[onB_v]
  refine gd_of (fun hg=>⟨?_,rfl⟩) (fun hg=>?_)
  ·rw[find_at hlt hg (fun k hk'=>hk k _ hk')];rfl
  ·rw[bin_add (by omega) (by omega)]
   refine hKE _ _ ⟨rfl,i+1,rfl,hlt,fun k hk1 hk2=>?_⟩ ?_
   ·by_cases e:k=i
    ·subst e;exact hg
    ·exact hk k hk1 (by omega)
   ·simp[intA];omega
 ·have:i=l.length:=by have:=dF h;omega
  subst this
  refine⟨?_,rfl⟩
  rw[find_none (fun k hk'=>hk k hk' hk')]
  rfl
theorem at61{S:Store}{x:Na}{s:ByteArray}{id t:Nat}(h:S.obj id=some (.cells t [[.v (.string s)]] true))(hid:id<S.n):AnsAt Pg 61 [.a x.row,.p id 0 0] S (aB (decide (x.text=s))):=by
 refine ACalls.ans_v (calls61 ?_)
 unfold m61
 refine boxA_of rfl fun S1 k1 n1 o1=>?_
 rw[shift_p,ld1_p (u:=.v (.string x.text)) o1 rfl rfl,ld1_p ((k1.2 _ hid).trans h) rfl rfl,bin_eqlS]
 exact⟨rfl,k1⟩
theorem slc1{b:ByteArray}(h:1≤b.size){S:Store}{K:AV→Store→Prop}(k:K (.v (.string (b.extract 1 b.size))) S):slcStr (.v (.string b)) (some (.v (.int .i64 1))) none S K:=by
 have e:(0≤(1:Int)∧(1:Int)≤(b.size:Int)∧(b.size:Int)≤b.size)∧K (.v (.string (b.extract (1:Int).toNat (b.size:Int).toNat))) S:=⟨⟨by decide,by omega,by omega⟩,k⟩
 exact⟨1,rfl,b.size,rfl,e⟩
theorem extract_list{b:ByteArray}(h:1≤b.size):(b.extract 1 b.size).data.toList=b.data.toList.drop 1∧(b.extract 1 b.size).size=b.size - 1:=by
 refine⟨?_,?_⟩
 ·rw[ByteArray.data_extract,Array.toList_extract]
  show(b.data.toList.drop 1).take (b.size - 1)=_
  exact List.take_of_length_le (by rw[List.length_drop,Array.length_toList];exact Nat.le_refl _)
 ·rw[ByteArray.size_extract];omega
def findB (c:Ci) (s:ByteArray):Int:=
 if c.right=true then
  match c.names.find? fun n=>decide (n.text=s)with
  |some n=>c.sig n.kind n.pos
  |none=>if s.size<2 then -1 else c.sig (s[0]!).toNat (numR (s.data.toList.drop 1))
 else -1
theorem names_word{c:Ci}(hr:c.right=true):∀ x∈c.names,0<x.text.size:=by
 obtain⟨_,_,_,_,_,_,_,_,_,_,_,_,hn⟩:=right_c.1 hr
 simp only[namesB,decide_eq_true_eq]at hn
 intro x hx
 obtain⟨i,hi,rfl⟩:=List.getElem_of_mem hx
 have h:=(hn.ok i hi hi).1
 simp only[wordB,Bool.and_eq_true,decide_eq_true_eq]at h
 exact h.2.1
theorem find_hit{c:Ci}{s:ByteArray}(hr:c.right=true){i:Nat}(hi:i<c.names.length)(h:c.names[i].text=s)(hno:∀ k (hk:k<c.names.length),k<i→c.names[k].text≠s):findB c s=c.sig c.names[i].kind c.names[i].pos:=by
 unfold findB
 rw[if_pos hr,List.find?_eq_some_iff_getElem.2 ⟨by simpa using h,i,hi,rfl,fun j hj=>by simpa using hno j _ hj⟩]
theorem find_miss{c:Ci}{s:ByteArray}(hr:c.right=true)(hno:∀ k (hk:k<c.names.length),c.names[k].text≠s):findB c s=if s.size<2 then -1 else c.sig (s[0]!).toNat (numR (s.data.toList.drop 1)):=by
 unfold findB
 rw[if_pos hr,List.find?_eq_none.2 fun x hx=>by
  obtain⟨i,hi,rfl⟩:=List.getElem_of_mem hx
  simpa using hno i hi]
theorem u8_lt(b:UInt8):(0:Int)≤b.toNat∧(b.toNat:Int)<256:=⟨by omega,by have:=b.toNat_lt;omega⟩
theorem sig_neg{c:Ci}{k:Int}:c.sig k (-1) = -1:=by unfold Ci.sig;rw[if_pos (by decide)]
theorem ans25{c:Ci}(hc:c.ok){s:ByteArray}(hs:s.size≤281474976710656):Ans Pg 25 [c.av,.v (.string s)] (aI (findB c s)):=by
 intro S
 refine ACalls.ans_v (calls25 ?_)
 unfold m25
 refine boxA_of rfl fun S1 k1 n1 o1=>?_
 refine box1_of rfl fun S2 k2 n2 o2=>?_
 have p1:=(k2.2 _ (by omega)).trans o1
 have kk:=k1.trans k2
 rw[ldN_p (n:=8) p1 rfl]
 refine callF_ans (ans22 hc) ?_
 rw[un_not,onB_v]
 refine gd_of (fun h=>⟨by unfold findB;rw[if_neg (by simpa using h)],kk⟩) (fun h=>?_)
 have hr:c.right=true:=by simpa using h
 have hw:=names_word hr
 rw[ld1_p o2 rfl rfl,bin_eqlS,onB_v]
 refine gd_of (fun h=>⟨?_,kk⟩) (fun h=>?_)
 ·have h:s=⟨#[]⟩:=dT h
  subst h
  rw[find_miss hr (fun k hk e=>by have:=hw _ (List.getElem_mem hk);rw[e]at this;exact absurd this (by decide)),if_pos (by decide)]
 have h1:1≤s.size:=by
  have h:=dF h
  rcases Nat.eq_zero_or_pos s.size with e|e
  ·exact absurd (byteArray_ext (Array.eq_empty_of_size_eq_zero e)) h
  ·exact e
 rw[shift_p,ld1_p (u:=nL c.names) p1 rfl rfl]
 refine callF_at (at60 (by have:=hc.nlen;omega) (g:=fun x=>decide (x.text=s)) (fs:=[]) (cs:=[.p S1.n 0 0]) fun x _=>at61 o2 (by omega)) ?_
 rw[bin_geq,onB_v]
 have hq:∀{v:Int},v=findB c s→(AEnd.ret (aI v) = .ret (aI (findB c s))∧Keep S S2):=fun e=>⟨by rw[e],kk⟩
 cases hf:c.names.findIdx? fun x=>decide (x.text=s)with
 |some i =>
  obtain⟨hi,hy,hn⟩:=List.findIdx?_eq_some_iff_getElem.1 hf
  have hit:=find_hit hr hi (dT hy) (fun k hk hki=>by have:=hn k hki;simpa using this)
  have nok:=hc.names _ (List.getElem_mem hi)
  refine gd_of (fun _=>?_) (fun h=>by have:=dF h;simp only[idxOf]at this;omega)
  show ∃ q:AV,_
  refine⟨_,by rw[ldN_p (n:=8) p1 rfl];exact⟨rfl,rfl⟩,?_⟩
  refine⟨_,by rw[shift_p];exact⟨rfl,rfl⟩,?_⟩
  refine⟨_,by rw[ld1_p (u:=nL c.names) p1 rfl rfl];exact⟨rfl,rfl⟩,?_⟩
  refine⟨_,by rw[show idxOf (some i)=(i:Int)from rfl,ixS_nL hi];exact⟨rfl,rfl⟩,?_⟩
  refine⟨_,⟨rfl,rfl⟩,?_⟩
  refine⟨_,by rw[ld1_qj (u:=.v (.int .u8 c.names[i].kind)) rfl];exact⟨rfl,rfl⟩,?_⟩
  refine⟨_,by rw[shift_p];exact⟨rfl,rfl⟩,?_⟩
  refine⟨_,by rw[ld1_p (u:=nL c.names) p1 rfl rfl];exact⟨rfl,rfl⟩,?_⟩
  refine⟨_,by rw[show idxOf (some i)=(i:Int)from rfl,ixS_nL hi];exact⟨rfl,rfl⟩,?_⟩
  refine⟨_,⟨rfl,rfl⟩,?_⟩
  refine⟨_,by rw[ld1_qj (u:=aI c.names[i].pos) rfl];exact⟨rfl,rfl⟩,?_⟩
  refine⟨_,callF_ans (ans59 hc hr nok.1 nok.2.1) ⟨rfl,rfl⟩,?_⟩
  exact hq hit.symm
 |none =>
  have hn:=List.findIdx?_eq_none_iff.1 hf
  have miss:=find_miss hr (s:=s) (fun k hk e=>by have:=hn _ (List.getElem_mem hk);simp[e]at this)
  refine gd_of (fun h=>by have:=dT h;simp only[idxOf]at this;omega) (fun _=>?_)
  have h0:0<s.size:=by omega
  have hix:∀(S:Store) (K:AV→Store→Prop),ixStr (.v (.string s)) (.v (.int .i64 0)) S K=K (.v (.int .u8 (s[0]).toNat)) S:=fun S K=>ixStr_b (i:=0) h0
  obtain⟨e1,e2⟩:=extract_list h1
  show ∃ q:AV,_
  refine⟨_,by rw[ldN_p (n:=8) p1 rfl];exact⟨rfl,rfl⟩,?_⟩
  refine⟨_,by rw[ld1_p o2 rfl rfl];exact⟨rfl,rfl⟩,?_⟩
  refine⟨_,by rw[hix];exact⟨rfl,rfl⟩,?_⟩
  refine⟨_,by rw[ld1_p o2 rfl rfl];exact⟨rfl,rfl⟩,?_⟩
  refine⟨_,⟨rfl,slc1 h1 ⟨rfl,rfl⟩⟩,?_⟩
  refine⟨_,callF_ans (ans62 (by omega)) ⟨rfl,rfl⟩,?_⟩
  refine⟨_,callF_ans (ans59 hc hr (u8_lt _).1 (u8_lt _).2) ⟨rfl,rfl⟩,?_⟩
  refine hq ?_
  rw[miss,e1]
  by_cases h2:s.size<2
  ·rw[if_pos h2]
   have:s.data.toList.drop 1 = []:=List.drop_eq_nil_of_le (by rw[Array.length_toList];exact(by omega:s.size≤1))
   rw[this]
   exact sig_neg
  ·rw[if_neg h2,getElem!_pos s 0 h0]
theorem ans32{c:Ci}(hc:c.ok){s:ByteArray}(hs:s.size≤19):Ans Pg 32 [c.av,.v (.string s)] (aI (findB c s)):=by
 intro S
 refine ACalls.ans_v (calls32 ?_)
 unfold m32
 refine boxA_of rfl fun S1 k1 n1 o1=>?_
 rw[ldN_p (n:=8) o1 rfl]
 refine callF_ans (ans28 hc) ?_
 rw[un_not,onB_v]
 refine gd_of (fun h=>⟨by unfold findB;rw[if_neg (by simpa using h)],k1⟩) (fun h=>?_)
 have hr:c.right=true:=by simpa using h
 have hsig:∀ k x,sigB c k x=c.sig k x:=fun k x=>by unfold sigB;rw[if_pos hr]
 refine loop32_0 (fun y S'=>S'=S1∧∃ i:Nat,y=aI i∧i≤c.names.length∧∀ k (hk:k<c.names.length),k<i→c.names[k].text≠s) (fun y _=>c.names.length - ((intA y).getD 0).toNat) ⟨rfl,0,rfl,Nat.zero_le _,fun k _ h=>absurd h (Nat.not_lt_zero _)⟩ ?_
 rintro _ _ ⟨rfl,i,rfl,hi,hno⟩ KE hKE
 unfold b32_0
 have hq:∀{v:Int},v=findB c s→(AEnd.ret (aI v) = .ret (aI (findB c s))∧Keep S _):=fun e=>⟨by rw[e],k1⟩
 rw[shift_p,ld1_p (u:=nL c.names) o1 rfl rfl,lenS_nL,bin_lss,onB_v]
 refine gd_of (fun hlt=>?_) (fun hge=>?_)
 ·have hlt:i<c.names.length:=by simpa using hlt
  rw[shift_p,ld1_p (u:=nL c.names) o1 rfl rfl,ixS_nL hlt,shift_q,ld1_qj (u:=.v (.string c.names[i].text)) rfl,bin_eqlS,onB_v]
  refine gd_of (fun he=>?_) (fun he=>?_)
  ·have hit:=find_hit hr hlt (dT he) hno
   show ∃ q:AV,_
   refine⟨_,by rw[ldN_p (n:=8) o1 rfl];exact⟨rfl,rfl⟩,?_⟩
   refine⟨_,by rw[shift_p];exact⟨rfl,rfl⟩,?_⟩
   refine⟨_,by rw[ld1_p (u:=nL c.names) o1 rfl rfl];exact⟨rfl,rfl⟩,?_⟩
   refine⟨_,by rw[ixS_nL hlt];exact⟨rfl,rfl⟩,?_⟩
   refine⟨_,⟨rfl,rfl⟩,?_⟩
   refine⟨_,by rw[ld1_qj (u:=.v (.int .u8 c.names[i].kind)) rfl];exact⟨rfl,rfl⟩,?_⟩
   refine⟨_,by rw[shift_p];exact⟨rfl,rfl⟩,?_⟩
   refine⟨_,by rw[ld1_p (u:=nL c.names) o1 rfl rfl];exact⟨rfl,rfl⟩,?_⟩
   refine⟨_,by rw[ixS_nL hlt];exact⟨rfl,rfl⟩,?_⟩
   refine⟨_,⟨rfl,rfl⟩,?_⟩
   refine⟨_,by rw[ld1_qj (u:=aI c.names[i].pos) rfl];exact⟨rfl,rfl⟩,?_⟩
   refine⟨_,callF_ans (ans31 hc) ⟨rfl,rfl⟩,?_⟩
   exact hq (by rw[hsig,hit])
  ·have hn:=hc.nlen
   rw[bin_add (by omega) (by omega)]
   refine hKE _ _ ⟨rfl,i+1,rfl,hlt,fun k hk1 hk2=>?_⟩ (by simp[intA];omega)
   by_cases e:k=i
   ·subst e;exact dF he
   ·exact hno k hk1 (by omega)
 ·have hge:i=c.names.length:=by have:=dF hge;omega
  subst hge
  have miss:=find_miss hr (s:=s) fun k hk=>hno k hk hk
  rw[lenStr_b,bin_lss,onB_v]
  refine gd_of (fun h2=>hq (by rw[miss,if_pos (by have:=dT h2;omega)])) (fun h2=>?_)
  have h2:=dF h2
  have h0:0<s.size:=by omega
  have hix:∀(S:Store) (K:AV→Store→Prop),ixStr (.v (.string s)) (.v (.int .i64 0)) S K=K (.v (.int .u8 (s[0]).toNat)) S:=fun S K=>ixStr_b (i:=0) h0
  obtain⟨e1,e2⟩:=extract_list (b:=s) (by omega)
  show ∃ q:AV,_
  refine⟨_,by rw[ldN_p (n:=8) o1 rfl];exact⟨rfl,rfl⟩,?_⟩
  refine⟨_,by rw[hix];exact⟨rfl,rfl⟩,?_⟩
  refine⟨_,⟨rfl,slc1 (by omega) ⟨rfl,rfl⟩⟩,?_⟩
  refine⟨_,callF_ans (ans70 (by omega)) ⟨rfl,rfl⟩,?_⟩
  refine⟨_,callF_ans (ans31 hc) ⟨rfl,rfl⟩,?_⟩
  refine hq ?_
  rw[miss,if_neg (by omega),hsig,e1,getElem!_pos s 0 h0]
section
set_option maxRecDepth 100000
def c64:Code:=(Tryz.f64.body).getD .skip
def r64:List ResultVar:=Tryz.f64.results.toList
def env64_0(y1 y5 y6 y22 y23:AV):List AV:=[y1,y5,y6,y22,y23]
def lv64_0:List Nat:=[1,5,6,22,23]
def ms64:List (List Nat):=[lv64_0,[]]
def m64(x0 x1:AV)(S:Store)(Q:PoT):Prop:=
 boxN 29 8 x0 S fun c S=>ldN 8 c S fun d S=>callF Pg 23 [d] S Q fun e S=>boxN 56 2 (.a [.v (.int .i64 0),.nl]) S fun f S=>stN 2 f e S fun g S=>ldN 8 c S fun h S=>callF Pg 22 [h] S Q fun i S=>un .not i S fun k S=>onB k fun b=>gd b (Q (.ret .nl) S) (shift f 0 S fun l S=>ld1 l S fun m S=>bin .gtr 0 m (.v (.int .i64 60)) S fun n S=>onB n fun b=>gd b (Q (.ret .nl) S) (shift f 0 S fun o S=>ld1 o S fun p S=>mkN 4 1 [.v (.bool false)] p p S fun q S=>lenS q S fun r S=>loopV lv64_0 (vc Pg (c64.at_ [1,1,1,1,0,1,0,0]) (ms64.drop 1)) 38 (env64_0 x1 f q r (.v (.int .i64 0))) S (blockK 0 (seqK (vc Pg (c64.at_ [1,1,1,1,1]) (ms64.drop 1)) (bodyK Pg r64 Q)))))
theorem calls64{x0 x1:AV}{S:Store}{Q:PoT}(h:m64 x0 x1 S Q):ACalls Pg 64 [x0,x1] S Q:=
 calls_of_vc (fn:=Tryz.f64) (c:=c64) (n:=38) Tryz.func64 (by kernel_rfl) (by kernel_rfl) (by kernel_rfl) ms64 (Eq.mpr (by kernel_rfl) h)
def b64_0(y1 y5 y6 y22 y23:AV)(S:Store)(KE0:KeT)(Q:PoT):Prop:=
 bin .lss 0 y23 y22 S fun a S=>onB a fun b=>gd b (bin .shr 0 y1 y23 S fun c S=>bin .and 0 c (.v (.int .i64 1)) S fun d S=>bin .eql 0 d (.v (.int .i64 1)) S fun e S=>ixS 4 1 y6 y23 S fun f S=>stN 1 f e S fun g S=>bin .add 0 y23 (.v (.int .i64 1)) S fun h S=>KE0 38 (env64_0 y1 y5 y6 y22 h) S) (ldN 2 y5 S fun i S=>callF Pg 108 [i,y6] S Q fun k S=>Q (.ret k) S)
theorem b64_0_eq(y1 y5 y6 y22 y23:AV)(S:Store)(KE0:KeT)(Q:PoT):vc Pg (c64.at_ [1,1,1,1,0,1,0,0]) (ms64.drop 1) (mkE 38 lv64_0 (env64_0 y1 y5 y6 y22 y23)) S (thenK (fgK lv64_0 KE0) (blockK 0 (seqK (vc Pg (c64.at_ [1,1,1,1,1]) (ms64.drop 1)) (bodyK Pg r64 Q))))=b64_0 y1 y5 y6 y22 y23 S KE0 Q:=by kernel_rfl
theorem loop64_0{y1 y5 y6 y22:AV}{y230:AV}{S:Store}{Q:PoT}(I:AV→Store→Prop)(μ:AV→Store→Nat)(h0:I y230 S)
    (hr:∀(y23:AV) (S:Store),I y23 S→∀ KE0:KeT,(∀(y23':AV) (S':Store),I y23' S'→μ y23' S'<μ y23 S→KE0 38 (env64_0 y1 y5 y6 y22 y23') S')→b64_0 y1 y5 y6 y22 y23 S KE0 Q):
    loopV lv64_0 (vc Pg (c64.at_ [1,1,1,1,0,1,0,0]) (ms64.drop 1)) 38 (env64_0 y1 y5 y6 y22 y230) S (blockK 0 (seqK (vc Pg (c64.at_ [1,1,1,1,1]) (ms64.drop 1)) (bodyK Pg r64 Q))):=by
 refine⟨fun n e S=>n=38∧∃ y23:AV,e=(env64_0 y1 y5 y6 y22 y23)∧I y23 S,fun _ e S=>μ (e.getD 4 .j) S,?_,?_⟩
 ·exact⟨_,_,Wk.refl _ _,rfl,_,rfl,h0⟩
 ·rintro _ e S ⟨rfl,y23,rfl,hI⟩
  exact(b64_0_eq _ _ _ _ _ _ _ _).mpr (hr y23 S hI _ (fun y23' S' hI' hm=>⟨_,_,Wk.refl _ _,⟨rfl,_,rfl,hI'⟩,hm⟩))
def c63:Code:=(Tryz.f63.body).getD .skip
def ms63:List (List Nat):=[[]]
def m63(x0 x1:AV)(S:Store)(Q:PoT):Prop:=
 bin .geq 0 x1 (.v (.int .i64 0)) S fun a S=>onB a fun b=>gd b (bin .quo 0 x1 (.v (.int .i64 2)) S fun c S=>lenS x0 S fun d S=>bin .lss 0 c d S fun e S=>onB e fun b=>gd b (bin .quo 0 x1 (.v (.int .i64 2)) S fun f S=>ixS 4 1 x0 f S fun g S=>ld1 g S fun h S=>bin .and 0 x1 (.v (.int .i64 1)) S fun i S=>bin .eql 0 i (.v (.int .i64 1)) S fun k S=>bin .neq 1 h k S fun l S=>Q (.ret l) S) (Q (.ret (.v (.bool false))) S)) (Q (.ret (.v (.bool false))) S)
theorem calls63{x0 x1:AV}{S:Store}{Q:PoT}(h:m63 x0 x1 S Q):ACalls Pg 63 [x0,x1] S Q:=
 calls_of_vc (fn:=Tryz.f63) (c:=c63) (n:=25) Tryz.func63 (by kernel_rfl) (by kernel_rfl) (by kernel_rfl) ms63 (Eq.mpr (by kernel_rfl) h)
def c26:Code:=(Tryz.f26.body).getD .skip
def ms26:List (List Nat):=[[]]
def m26(x0 x1 x2:AV)(S:Store)(Q:PoT):Prop:=
 boxN 29 8 x0 S fun a S=>ldN 8 a S fun c S=>callF Pg 64 [c,x1] S Q fun d S=>callF Pg 63 [d,x2] S Q fun e S=>Q (.ret e) S
theorem calls26{x0 x1 x2:AV}{S:Store}{Q:PoT}(h:m26 x0 x1 x2 S Q):ACalls Pg 26 [x0,x1,x2] S Q:=
 calls_of_vc (fn:=Tryz.f26) (c:=c26) (n:=12) Tryz.func26 (by kernel_rfl) (by kernel_rfl) (by kernel_rfl) ms26 (Eq.mpr (by kernel_rfl) h)
def c27:Code:=(Tryz.f27.body).getD .skip
def r27:List ResultVar:=Tryz.f27.results.toList
def env27_0(y2 y4 y5 y15 y16 y17:AV):List AV:=[y2,y4,y5,y15,y16,y17]
def lv27_0:List Nat:=[2,4,5,15,16,17]
def ms27:List (List Nat):=[lv27_0,[]]
def m27(x0 x1:AV)(S:Store)(Q:PoT):Prop:=
 boxN 29 8 x0 S fun a S=>ldN 8 a S fun c S=>callF Pg 64 [c,x1] S Q fun d S=>lenS d S fun e S=>bin .eql 0 e (.v (.int .i64 0)) S fun f S=>onB f fun b=>gd b (Q (.ret (.v (.int .i64 0))) S) (shift a 1 S fun g S=>ld1 g S fun h S=>lenS h S fun i S=>loopV lv27_0 (vc Pg (c27.at_ [1,1,1,0,1,0,0]) (ms27.drop 1)) 35 (env27_0 a (.v (.int .i64 0)) d h i (.v (.int .i64 0))) S (blockK 0 (seqK (vc Pg (c27.at_ [1,1,1,1]) (ms27.drop 1)) (bodyK Pg r27 Q))))
theorem calls27{x0 x1:AV}{S:Store}{Q:PoT}(h:m27 x0 x1 S Q):ACalls Pg 27 [x0,x1] S Q:=
 calls_of_vc (fn:=Tryz.f27) (c:=c27) (n:=35) Tryz.func27 (by kernel_rfl) (by kernel_rfl) (by kernel_rfl) ms27 (Eq.mpr (by kernel_rfl) h)
def b27_0(y2 y4 y5 y15 y16 y17:AV)(S:Store)(KE0:KeT)(Q:PoT):Prop:=
 bin .lss 0 y17 y16 S fun c S=>onB c fun b=>gd b (ixS 23 2 y15 y17 S fun d S=>ldN 2 d S fun e S=>boxN 23 2 (.a [.v (.int .i64 0),.v (.int .i64 0)]) S fun f S=>stN 2 f e S fun g S=>shift f 0 S fun h S=>ld1 h S fun i S=>callF Pg 63 [y5,i] S Q fun k S=>onB k fun b=>gd b (shift y2 0 S fun l S=>ld1 l S fun m S=>bin .add 0 m y17 S fun n S=>bin .shl 0 (.v (.int .i64 1)) n S fun o S=>bin .or 0 y4 o S fun p S=>bin .add 0 y17 (.v (.int .i64 1)) S fun q S=>KE0 35 (env27_0 y2 p y5 y15 y16 q) S) (bin .add 0 y17 (.v (.int .i64 1)) S fun r S=>KE0 35 (env27_0 y2 y4 y5 y15 y16 r) S)) (Q (.ret y4) S)
theorem b27_0_eq(y2 y4 y5 y15 y16 y17:AV)(S:Store)(KE0:KeT)(Q:PoT):vc Pg (c27.at_ [1,1,1,0,1,0,0]) (ms27.drop 1) (mkE 35 lv27_0 (env27_0 y2 y4 y5 y15 y16 y17)) S (thenK (fgK lv27_0 KE0) (blockK 0 (seqK (vc Pg (c27.at_ [1,1,1,1]) (ms27.drop 1)) (bodyK Pg r27 Q))))=b27_0 y2 y4 y5 y15 y16 y17 S KE0 Q:=by kernel_rfl
theorem loop27_0{y2 y5 y15 y16:AV}{y40 y170:AV}{S:Store}{Q:PoT}(I:AV→AV→Store→Prop)(μ:AV→AV→Store→Nat)(h0:I y40 y170 S)
    (hr:∀(y4 y17:AV) (S:Store),I y4 y17 S→∀ KE0:KeT,(∀(y4' y17':AV) (S':Store),I y4' y17' S'→μ y4' y17' S'<μ y4 y17 S→KE0 35 (env27_0 y2 y4' y5 y15 y16 y17') S')→b27_0 y2 y4 y5 y15 y16 y17 S KE0 Q):
    loopV lv27_0 (vc Pg (c27.at_ [1,1,1,0,1,0,0]) (ms27.drop 1)) 35 (env27_0 y2 y40 y5 y15 y16 y170) S (blockK 0 (seqK (vc Pg (c27.at_ [1,1,1,1]) (ms27.drop 1)) (bodyK Pg r27 Q))):=by
 refine⟨fun n e S=>n=35∧∃ y4 y17:AV,e=(env27_0 y2 y4 y5 y15 y16 y17)∧I y4 y17 S,fun _ e S=>μ (e.getD 1 .j) (e.getD 5 .j) S,?_,?_⟩
 ·exact⟨_,_,Wk.refl _ _,rfl,_,_,rfl,h0⟩
 ·rintro _ e S ⟨rfl,y4,y17,rfl,hI⟩
  exact(b27_0_eq _ _ _ _ _ _ _ _ _).mpr (hr y4 y17 S hI _ (fun y4' y17' S' hI' hm=>⟨_,_,Wk.refl _ _,⟨rfl,_,_,rfl,hI'⟩,hm⟩))
end
def valB (c:Ci) (s:Int):List Bool:=if(c.right && decide (c.gr.inputs≤60))=true then allB c.gr (bitsL s c.gr.inputs.toNat)else[]
def isV(v:List Bool)(l:Int):Bool:=decide (0≤l) && (decide (l.tdiv 2<v.length) && litB v l)
theorem allB_vars{c:Ci}(h:c.right=true)(s:Int):((allB c.gr (bitsL s c.gr.inputs.toNat)).length:Int)=c.gr.vars:=by
 obtain⟨g1,g2,g3⟩:=gr_inp h
 have hr:=(right_c.1 h).2.2.2.2.2.2.1
 rw[allB_len,if_pos]
 ·have:0≤c.gr.vars:=by unfold Gr.vars;omega
  omega
 ·rw[hr,bitsL_len]
  simp;omega
theorem isV_isB{c:Ci}(s l:Int):isV (valB c s) l=isB c s l:=by
 unfold valB isB
 cases h:c.right with
 |false =>
  rw[Bool.false_and,if_neg (by decide),Bool.false_and]
  simp only[isV,Bool.and_eq_false_iff,decide_eq_false_iff_not]
  by_cases h0:0≤l
  ·refine .inr (.inl ?_)
   have:=Int.tdiv_nonneg h0 (show(0:Int)≤2 by decide)
   simp;omega
  ·exact .inl h0
 |true =>
  cases h6:decide (c.gr.inputs≤60)with
  |false =>
   rw[Bool.and_false,if_neg (by decide),Bool.false_and,Bool.and_false]
   simp only[isV,Bool.and_eq_false_iff,decide_eq_false_iff_not]
   by_cases h0:0≤l
   ·refine .inr (.inl ?_)
    have:=Int.tdiv_nonneg h0 (show(0:Int)≤2 by decide)
    simp;omega
   ·exact .inl h0
  |true =>
   rw[Bool.true_and,if_pos rfl,Bool.true_and,Bool.true_and]
   obtain⟨g1,g2,g3⟩:=gr_inp h
   have hv:=allB_vars h s
   have hpos:0<(allB c.gr (bitsL s c.gr.inputs.toNat)).length:=by
    have:1≤c.gr.vars:=by unfold Gr.vars;omega
    omega
   simp only[isV,Gr.eval,hpos,decide_true,Bool.true_and,hv,Gr.lit,g2,g3,Bool.and_assoc]
theorem ans64{c:Ci}(hc:c.ok)(s:Int):Ans Pg 64 [c.av,aI s] (aL aB (valB c s)):=by
 intro S
 refine ACalls.tree (calls64 ?_)
 unfold m64 valB
 refine boxA_of rfl fun S1 k1 n1 o1=>?_
 rw[ldN_p (n:=8) o1 rfl]
 refine callF_ans (ans23 c) ?_
 refine boxA_of rfl fun S2 k2 n2 o2=>?_
 refine stA_of (cs':=c.gr.cells) o2 rfl rfl fun S3 n3 o3 f3=>?_
 have k3:=k2.st (Nat.le_refl _) n3 f3
 have kk:=k1.trans k3
 rw[ldN_p (n:=8) ((k3.2 _ (by omega)).trans o1) rfl]
 refine callF_ans (ans22 hc) ?_
 rw[un_not,onB_v]
 refine gd_of (fun h=>?_) (fun h=>?_)
 ·have h:c.right=false:=by simpa using h
  refine⟨_,rfl,kk,?_⟩
  rw[h,Bool.false_and,if_neg (by decide)]
  exact .nl
 have h:c.right=true:=by simpa using h
 obtain⟨g1,g2,g3⟩:=gr_inp h
 rw[shift_p,ld1_p o3 rfl rfl,bin_gtr,onB_v]
 refine gd_of (fun h6=>?_) (fun h6=>?_)
 ·have h6:=dT h6
  refine⟨_,rfl,kk,?_⟩
  rw[h,decide_eq_false (by omega:¬ c.gr.inputs≤60),if_neg (by decide)]
  exact .nl
 have h6:=dF h6
 rw[h,decide_eq_true (by omega:c.gr.inputs≤60),Bool.and_self,if_pos rfl]
 obtain⟨m,hm⟩:=Int.eq_ofNat_of_zero_le g2
 have hm60:m≤60:=by omega
 have hgt:c.gr.inputs.toNat=m:=by rw[hm];rfl
 rw[hgt,shift_p,ld1_p o3 rfl rfl]
 show mkN _ _ _ (aI c.gr.inputs) (aI c.gr.inputs) _ _
 rw[hm]
 refine mk_of (by omega) (by omega) fun S6 k6 n6 o6=>?_
 rw[lenS_s]
 have hrep:List.replicate m [AV.v (.bool false)]=(List.range m).map fun k=>[aB (if k<0 then bitN s k else false)]:=by
  apply List.ext_getElem
  ·simp
  ·intro k h1 h2
   simp
 rw[hrep]at o6
 refine loop64_0 (fun y S'=>S'.n=S6.n∧(∀ x,x<S3.n→S'.obj x=S3.obj x)∧∃ j:Nat,y=aI j∧j≤m∧S'.obj S3.n=some (.cells 4 ((List.range m).map fun k=>[aB (if k<j then bitN s k else false)]) true))
  (fun y _=>m - ((intA y).getD 0).toNat) ⟨rfl,k6.2,0,rfl,Nat.zero_le _,o6⟩ ?_
 rintro _ S7 ⟨n7,f7,j,rfl,hj,o7⟩ KE1 hKE1
 unfold b64_0
 rw[bin_lss,onB_v]
 refine gd_of (fun hlt1=>?_) (fun hge1=>?_)
 ·have hlt1:j<m:=by have:((j:Int)<(m:Int)):=dT hlt1;omega
  rw[bin_shrN (by omega),bin_and1,bin_eql,ixS_s hlt1 o7]
  refine st_of o7 (u0:=aB (if j<j then bitN s j else false)) (by rw[Nat.zero_add];simp[hlt1]) rfl fun S8 n8 o8 f8=>?_
  rw[bin_add (by omega) (by omega)]
  refine hKE1 _ _ ⟨by omega,fun x hx=>(f8 x (by omega)).trans (f7 x hx),j+1,rfl,hlt1,?_⟩ (by simp[intA];omega)
  rw[o8,Nat.zero_add]
  have:=set_range (n:=m) (i:=j) (f:=fun k=>[aB (if k<j then bitN s k else false)]) (f':=fun k=>[aB (if k<j+1 then bitN s k else false)]) hlt1 (fun k hk=>by
   have:(k<j+1)=(k<j):=by apply propext;omega
   simp only[this])
  rw[←this]
  simp[bitN]
 ·have hgj:j=m:=by
    have:¬ ((j:Int)<(m:Int)):=dF hge1
    omega
  subst hgj
  have o7':S7.obj S3.n=some (.cells 4 ((bitsL s j).map fun b=>[aB b]) true):=by
   rw[o7,bitsL,List.map_map]
   congr 2
   apply List.map_congr_left
   intro k hk
   simp[List.mem_range.1 hk]
  rw[ldN_p (n:=2) ((f7 _ (by omega)).trans o3) rfl]
  have call:=own_at108 hc.gr (ins:=bitsL s j) (S:=S7) (xi:=.s S3.n 0 j) (by simp;omega) (fun T K=>by rw[lenS_s,bitsL_len]) (fun T hT=>by
   have:=(hT.2 S3.n (by omega)).trans o7'
   simp only[srcE,this]
   rw[if_pos (by simp)]
   simp[List.take_of_length_le])
  refine callF_at (ans_own_at (f:=fun b=>.bool b) call) ?_
  have k3':Keep S S7:=⟨by have:=kk.1;omega,fun x hx=>(f7 x (by have:=kk.1;omega)).trans (kk.2 x hx)⟩
  exact⟨_,rfl,k3',cv_aL (f:=fun b=>.bool b) _⟩
theorem ans63(v:List Bool){l:Int}(hl:i64R l):Ans Pg 63 [aL aB v,aI l] (aB (isV v l)):=by
 intro S
 refine calls63 ?_
 unfold m63 isV
 rw[bin_geq,onB_v]
 refine gd_of (fun h=>?_) (fun h=>⟨by rw[h,Bool.false_and],rfl⟩)
 have h0:=dT h
 rw[h,Bool.true_and,bin_half hl,lenS_aL,bin_lss,onB_v]
 refine gd_of (fun h1=>?_) (fun h1=>⟨by rw[h1,Bool.false_and],rfl⟩)
 have hlt:=dT h1
 rw[h1,Bool.true_and,bin_half hl]
 refine ix_tree (Int.tdiv_nonneg h0 (by decide)) hlt _ ?_
 rw[bin_and1,bin_eql,bin_neqB]
 refine⟨?_,rfl⟩
 rw[litB,Int.tmod_eq_emod_of_nonneg h0]
theorem ans26{c:Ci}(hc:c.ok)(s:Int){l:Int}(hl:i64R l):Ans Pg 26 [c.av,aI s,aI l] (aB (isB c s l)):=by
 intro S
 refine ACalls.ans_v (calls26 ?_)
 unfold m26
 refine boxA_of rfl fun S1 k1 n1 o1=>?_
 rw[ldN_p (n:=8) o1 rfl]
 refine callF_ans (ans64 hc s) ?_
 refine callF_ans (ans63 _ hl) ?_
 exact⟨by rw[isV_isB],k1⟩
theorem ans27{c:Ci}(hc:c.ok)(s:Int):Ans Pg 27 [c.av,aI s] (aI (afterB c s)):=by
 intro S
 refine ACalls.ans_v (calls27 ?_)
 unfold m27
 refine boxA_of rfl fun S1 k1 n1 o1=>?_
 rw[ldN_p (n:=8) o1 rfl]
 refine callF_ans (ans64 hc s) ?_
 have hil:=fun l=>isV_isB (c:=c) s l
 rw[lenS_aL,bin_eql,onB_v]
 refine gd_of (fun h=>?_) (fun h=>?_)
 ·have hv:valB c s = []:=List.eq_nil_of_length_eq_zero (by have:=dT h;omega)
  refine⟨?_,k1⟩
  have:(c.right && decide (c.gr.inputs≤60))=false:=by
   cases h1:(c.right && decide (c.gr.inputs≤60))with
   |false=>rfl
   |true =>
    unfold valB at hv
    rw[if_pos h1]at hv
    simp only[Bool.and_eq_true]at h1
    have h2:=allB_vars h1.1 s
    obtain⟨g1,g2,g3⟩:=gr_inp h1.1
    rw[hv]at h2
    unfold Gr.vars at h2
    simp at h2;omega
  rw[afterB,this,if_neg (by decide)]
 have hgood:(c.right && decide (c.gr.inputs≤60))=true:=by
  cases h1:(c.right && decide (c.gr.inputs≤60))with
  |true=>rfl
  |false =>
   have:valB c s = []:=by rw[valB,h1,if_neg (by decide)]
   rw[this]at h
   simp at h
 have hr:c.right=true:=by simp only[Bool.and_eq_true]at hgood;exact hgood.1
 have h60:c.gr.inputs≤60:=by simp only[Bool.and_eq_true,decide_eq_true_eq]at hgood;exact hgood.2
 obtain⟨g1,g2,g3⟩:=gr_inp hr
 have hin:=(right_c.1 hr).1
 generalize valB c s=v at *
 rw[afterB,hgood,if_pos rfl,shift_p,ld1_p o1 rfl rfl,lenS_pL]
 refine loop27_0 (fun y w S'=>Keep S1 S'∧∃ i:Nat,w=aI i∧i≤c.latches.length∧y=aI (afterTo c s i))
  (fun _ w _=>c.latches.length - ((intA w).getD 0).toNat) ⟨Keep.refl _,0,rfl,Nat.zero_le _,rfl⟩ ?_
 rintro _ _ S2 ⟨k2,i,rfl,hi,rfl⟩ KE hKE
 unfold b27_0
 rw[bin_lss,onB_v]
 refine gd_of (fun hlt=>?_) (fun hge=>?_)
 ·have hlt:i<c.latches.length:=by simpa using hlt
  have hget:c.latches.getD i (0,0)=c.latches[i]:=by simp[List.getD_eq_getElem?_getD,hlt]
  have hli:=hc.lats _ (List.getElem_mem hlt)
  have hμ:c.latches.length - ((intA (aI (i+1:Nat))).getD 0).toNat<c.latches.length - ((intA (aI i)).getD 0).toNat:=by simp[intA];omega
  rw[ixS_pL hlt,ldN_q2]
  refine boxA_of rfl fun S3 k3 n3 o3=>?_
  refine stA_of o3 rfl rfl fun S4 n4 o4 f4=>?_
  have k4:=k2.trans (k3.st (Nat.le_refl _) n4 f4)
  rw[shift_p,ld1_p o4 rfl rfl]
  refine callF_ans (ans63 v hli.1) ?_
  rw[hil,onB_v]
  have hb:=afterTo_le c s i
  have e:c.inputs+(i:Int)=((c.inputs.toNat+i:Nat):Int):=by omega
  refine gd_of (fun h4=>?_) (fun h4=>?_)
  ·rw[shift_p,ld1_p ((k4.2 _ (by omega)).trans o1) rfl rfl,bin_add (by omega) (by omega),e,bin_shl1 (by omega),bin_or_pow hb.1 hb.2 (by omega),bin_add (by omega) (by omega)]
   exact hKE _ _ _ ⟨k4,i+1,rfl,hlt,by rw[afterTo,hget,if_pos h4]⟩ hμ
  ·rw[bin_add (by omega) (by omega)]
   exact hKE _ _ _ ⟨k4,i+1,rfl,hlt,by rw[afterTo,hget,h4];rfl⟩ hμ
 ·have hge:i=c.latches.length:=by simp at hge;omega
  subst hge
  exact⟨rfl,k1.trans k2⟩
abbrev sL0:ByteArray:=⟨#[108,48]⟩
def cw:Ci:=⟨1,[(5,0)],[],[3],[],[],[],[⟨108,0,⟨#[113]⟩⟩]⟩
theorem cw_names:namesB cw=true:=by
 simp only[namesB,decide_eq_true_eq]
 have hl:cw.names.length=1:=rfl
 have h0:nameOk cw ⟨108,0,⟨#[113]⟩⟩:=⟨by decide,by decide,by decide⟩
 refine⟨fun i h _=>?_,fun i h _=>by omega,by decide⟩
 obtain rfl:i=0:=by omega
 exact h0
theorem cw_right:cw.right=true:=right_c.2 ⟨by decide,by decide,by decide,by decide,by decide,by decide,by decide,by decide,by decide,by decide,by decide,by decide,cw_names⟩
theorem cw_ok:cw.ok:=⟨⟨by decide,by decide⟩,by decide,by decide,(fun p hp=>by
 rw[List.mem_singleton.1 hp];exact⟨⟨by decide,by decide⟩,⟨by decide,by decide⟩⟩),(fun p hp=>by cases hp),⟨fun x hx=>(by rw[List.mem_singleton.1 hx];exact⟨by decide,by decide⟩),by decide⟩,⟨fun x hx=>(by cases hx),by decide⟩,⟨fun x hx=>(by cases hx),by decide⟩,⟨fun x hx=>(by cases hx),by decide⟩,(fun x hx=>by
 rw[List.mem_singleton.1 hx];exact⟨by decide,by decide,⟨by decide,by decide⟩,by decide⟩),by decide⟩
theorem cw_sig0:sigB cw 111 0=3:=by rw[sigB,if_pos cw_right];decide
theorem cw_sig1:sigB cw 111 1 = -1:=by rw[sigB,if_pos cw_right];decide
abbrev sQ:ByteArray:=⟨#[113]⟩
abbrev sX:ByteArray:=⟨#[120]⟩
theorem cw_q:findB cw sQ=4:=by
 rw[find_hit (s:=sQ) cw_right (i:=0) (by decide) rfl (fun k _ h=>by omega)]
 decide
theorem cw_texts{s:ByteArray}(h:s≠sQ):∀ k (hk:k<cw.names.length),cw.names[k].text≠s:=fun k hk=>by
 have hl:cw.names.length=1:=rfl
 obtain rfl:k=0:=by omega
 exact fun e=>h e.symm
theorem cw_l0:findB cw sL0=4:=by
 rw[find_miss cw_right (cw_texts (by decide)),if_neg (by decide)]
 decide
theorem cw_x:findB cw sX = -1:=by
 rw[find_miss cw_right (cw_texts (by decide)),if_pos (by decide)]
theorem cw_is:isB cw 1 2=true:=by rw[isB,cw_right,Bool.true_and];decide
theorem cw_a1:afterB cw 1=2:=by
 have h:isB cw 1 5=true:=by rw[isB,cw_right,Bool.true_and];decide
 rw[afterB,cw_right,if_pos (by decide)]
 show afterTo cw 1 (0+1)=2
 rw[afterTo,show(cw.latches.getD 0 (0,0)).1=5 from rfl,if_pos h,afterTo]
 rfl
theorem cw_a2:afterB cw 2=0:=by
 have h:isB cw 2 5=false:=by rw[isB,cw_right,Bool.true_and];decide
 rw[afterB,cw_right,if_pos (by decide)]
 show afterTo cw 2 (0+1)=0
 rw[afterTo,if_neg (by rw[show(cw.latches.getD 0 (0,0)).1=5 from rfl,h];decide),afterTo]
instance (priority:=2000) jnEqw {S0:Store} {P:AV→Prop} {a:Int} {kd:Nat}:Jn (∃ q,(bin .eql kd (.v (.int .i64 a)) (.v (.int .i64 a)) S0 fun v S=>v=q∧S=S0)∧P q) (P (.v (.bool true))):=⟨by
 have:=J_eql (k:=.i64) (a:=a) (b:=a) (kd:=kd) (S0:=S0) (P:=P)
 rw[decide_eq_true rfl]at this
 exact this⟩
abbrev cwC:List AV:=[aI 1,.l [[aI 5,aI 0]],.nl,.l [[aI 3]],.nl,.nl,.nl,.l [[.v (.int .u8 108),aI 0,.v (.string sQ)]]]
theorem cv_cw{S:Store}{n:Nat}:Cv S n (.a cwC) cw.av:=by
 refine .a _ _ rfl fun k u u2 e1 e2=>?_
 match k with
 |0=>cases e1;cases e2;exact .v _
 |1=>cases e1;cases e2;exact treeP [(5,0)] _ _
 |2=>cases e1;cases e2;exact .nl
 |3=>cases e1;cases e2;exact treeI [3] _ _
 |4=>cases e1;cases e2;exact .nl
 |5=>cases e1;cases e2;exact .nl
 |6=>cases e1;cases e2;exact .nl
 |7=>cases e1;cases e2;exact treeN [⟨108,0,sQ⟩] _ _
 |k+8=>simp at e1
theorem ans_cw{f:FuncId}{vs:List Value}{r:AV}(h:Ans Pg f (cw.av :: vs.map .v) r):Ans Pg f (.a cwC :: vs.map .v) r:=fun S =>
 ansAt_cv (by simp) (fun k u u2 e1 e2=>by
  match k with
  |0=>cases e1;cases e2;exact cv_cw
  |k+1 =>
   simp only[List.getElem?_cons_succ]at e1 e2
   rw[e1]at e2
   cases e2
   rw[List.getElem?_map]at e1
   obtain⟨x,_,rfl⟩:=Option.map_eq_some_iff.1 e1
   exact .v _) (h S)
theorem J_cwOf{S0:Store}{P:AV→Prop}:(∃ q,(part1 cw.gr.av 0 S0 fun v S=>v=q∧S=S0)∧P q)=P (.v (.int .i64 2)):=J_by (op:=fun K=>part1 cw.gr.av 0 S0 K) fun K=>by
 unfold Gr.av Gr.cells
 rw[part10]
 rfl
theorem ans8:Ans Pg 8 [] (aB true):=by
 intro S
 refine ACalls.ans_v (calls8 ?_)
 unfold m8
 rw[bld_of (cs:=[aI 5,aI 0]) rfl]
 refine bslP ?_
 refine bsl1 rfl (fun _ h=>by cases h) ?_
 rw[bld_of (cs:=[.v (.int .u8 108),aI 0,.v (.string sQ)]) rfl]
 refine bslA3 ?_
 rw[bld_of (cs:=cwC) rfl]
 refine boxA_of rfl fun S1 k1 n1 o1=>?_
 refine stA_of (cs':=cwC) o1 rfl rfl fun S2 n2 o2 f2=>?_
 have k2:=k1.st (Nat.le_refl _) n2 f2
 have c1:=ans_cw (vs:=[]) (ans22 cw_ok)
 rw[cw_right]at c1
 have c2:=ans_cw (vs:=[]) (ans23 cw)
 have c3:=ans_cw (vs:=[.int .u8 111,.int .i64 0]) (ans24 (k:=111) (x:=0) cw_ok (by decide) (by decide))
 have c4:=ans_cw (vs:=[.int .u8 111,.int .i64 1]) (ans24 (k:=111) (x:=1) cw_ok (by decide) (by decide))
 rw[cw_sig0]at c3
 rw[cw_sig1]at c4
 have c5:=ans_cw (vs:=[.string sQ]) (ans25 (s:=sQ) cw_ok (by decide))
 have c6:=ans_cw (vs:=[.string sL0]) (ans25 (s:=sL0) cw_ok (by decide))
 have c7:=ans_cw (vs:=[.string sX]) (ans25 (s:=sX) cw_ok (by decide))
 rw[cw_q]at c5
 rw[cw_l0]at c6
 rw[cw_x]at c7
 have c8:=ans_cw (vs:=[.int .i64 1,.int .i64 2]) (ans26 cw_ok 1 (l:=2) ⟨by decide,by decide⟩)
 rw[cw_is]at c8
 have c9:=ans_cw (vs:=[.int .i64 1]) (ans27 cw_ok 1)
 have c10:=ans_cw (vs:=[.int .i64 2]) (ans27 cw_ok 2)
 rw[cw_a1]at c9
 rw[cw_a2]at c10
 show ∃ q:AV,_
 (repeat (first|with_reducible_and_instances (first|refine WJ ?_|refine W (J_ldN (n:=8) o2 (by with_unfolding_all rfl)) ?_|refine W (J_cwOf) ?_|refine W (J_ldq (by with_unfolding_all rfl)) ?_)|refine J_cA (c1) rfl rfl ?_|refine C_A (c1) rfl rfl ?_|refine J_cA (c2) rfl rfl ?_|refine C_A (c2) rfl rfl ?_|refine J_cA (c3) rfl rfl ?_|refine C_A (c3) rfl rfl ?_|refine J_cA (c4) rfl rfl ?_|refine C_A (c4) rfl rfl ?_|refine J_cA (c5) rfl rfl ?_|refine C_A (c5) rfl rfl ?_|refine J_cA (c6) rfl rfl ?_|refine C_A (c6) rfl rfl ?_|refine J_cA (c7) rfl rfl ?_|refine C_A (c7) rfl rfl ?_|refine J_cA (c8) rfl rfl ?_|refine C_A (c8) rfl rfl ?_|refine J_cA (c9) rfl rfl ?_|refine C_A (c9) rfl rfl ?_|refine J_cA (c10) rfl rfl ?_|refine C_A (c10) rfl rfl ?_))
 exact⟨rfl,k2⟩
theorem binP_same{k:IntKind}{a b:Int}{S:Store}{K:AV→Store→Prop}:binP k .neq (.a [.v (.int k a),.v (.int k b)]) (.a [.v (.int k a),.v (.int k b)]) S K=K (.v (.bool false)) S:=by
 simp[binP,keyA]
theorem ans29{g:Gr}(hg:g.ok):Ans Pg 29 [g.av,g.av] (aB true):=by
 intro S
 refine ACalls.ans_v (calls29 ?_)
 unfold m29
 have hlen:=hg.len
 refine boxA_of rfl fun S1 k1 n1 o1=>?_
 refine boxA_of rfl fun S2 k2 n2 o2=>?_
 have p2:=(k2.2 _ (by omega)).trans o1
 have kk:=k1.trans k2
 rw[shift_p,ld1_p (u:=aI g.inputs) p2 rfl rfl,shift_p,ld1_p (u:=aI g.inputs) o2 rfl rfl,bin_neq,decide_eq_true rfl,onB_v,gd_nT (b:=true) rfl]
 rw[shift_p,ld1_p (u:=pL g.ands) p2 rfl rfl,lenS_pL,shift_p,ld1_p (u:=pL g.ands) o2 rfl rfl,lenS_pL,bin_neq,decide_eq_true rfl,onB_v,gd_nT (b:=true) rfl]
 refine loop29_0 (fun y T=>T=S2∧∃ i:Nat,y=aI i∧i≤g.ands.length) (fun y _=>g.ands.length - ((intA y).getD 0).toNat) ⟨rfl,0,rfl,Nat.zero_le _⟩ ?_
 rintro _ T ⟨rfl,i,rfl,hi⟩ KE hKE
 unfold b29_0
 rw[shift_p,ld1_p (u:=pL g.ands) p2 rfl rfl,lenS_pL,bin_lss,onB_v]
 refine gd_of (fun hlt=>?_) (fun _=>⟨rfl,kk⟩)
 have hlt:i<g.ands.length:=by have:=dT hlt;omega
 have t4:∀{P:AV→Prop},(∃ q,(ixS 90 2 (pL g.ands) (aI i) T fun v S=>v=q∧S=T)∧P q)=P (.q [aI g.ands[i].1,aI g.ands[i].2] 0):=J_by (op:=fun K=>ixS 90 2 (pL g.ands) (aI i) T K) fun K=>ixS_pL hlt
 have t5:∀{P:AV→Prop},(∃ q,(ldN 2 (.q [aI g.ands[i].1,aI g.ands[i].2] 0) T fun v S=>v=q∧S=T)∧P q)=P (.a [aI g.ands[i].1,aI g.ands[i].2]):=J_by (op:=fun K=>ldN 2 (.q [aI g.ands[i].1,aI g.ands[i].2] 0) T K) fun K=>ldN_q2
 have t6:∀{P:AV→Prop},(∃ q,(binP .i64 .neq (.a [aI g.ands[i].1,aI g.ands[i].2]) (.a [aI g.ands[i].1,aI g.ands[i].2]) T fun v S=>v=q∧S=T)∧P q)=P (.v (.bool false)):=J_by (op:=fun K=>binP .i64 .neq (.a [aI g.ands[i].1,aI g.ands[i].2]) (.a [aI g.ands[i].1,aI g.ands[i].2]) T K) fun K=>binP_same
 show ∃ q:AV,_
 (repeat (first|with_reducible_and_instances (first|refine WJ ?_|refine W (J_ldp (u:=pL g.ands) p2 (by with_unfolding_all rfl) (by with_unfolding_all rfl)) ?_|refine W (J_ldp (u:=pL g.ands) o2 (by with_unfolding_all rfl) (by with_unfolding_all rfl)) ?_|refine W (t4) ?_|refine W (t5) ?_|refine W (t6) ?_|refine W (J_ldq (by with_unfolding_all rfl)) ?_)))
 rw[bin_add (by omega) (by omega)]
 exact hKE _ _ ⟨rfl,i+1,rfl,hlt⟩ (by simp[intA];omega)
instance (priority:=2000) jnEqbb {S0:Store} {P:AV→Prop} {a:Bool}:Jn (∃ q,(bin .eql 1 (.v (.bool a)) (.v (.bool a)) S0 fun v S=>v=q∧S=S0)∧P q) (P (.v (.bool true))):=⟨by
 have:=J_eqlB (a:=a) (b:=a) (S0:=S0) (P:=P)
 rw[show(a == a)=true by simp]at this
 exact this⟩
theorem ans9{c:Ci}(hc:c.ok){k x st l:Int}(hk0:0≤k)(hk1:k<256){s:ByteArray}(hs:s.size≤19)(hl:i64R l):Ans Pg 9 [c.av,.v (.int .u8 k),aI x,.v (.string s),aI st,aI l] (aB true):=by
 intro S
 refine ACalls.ans_v (calls9 ?_)
 unfold m9
 refine boxA_of rfl fun S1 k1 n1 o1=>?_
 have c1:=ans22 hc
 have d1:=ans28 hc
 have c2:=ans23 c
 have d2:=ans30 c
 have c3:=ans29 hc.gr
 have c4:=ans24 hc (k:=k) (x:=x) hk0 hk1
 have d4:=ans31 hc (k:=k) (x:=x)
 have c5:=ans25 hc (s:=s) (by omega)
 have d5:=ans32 hc (s:=s) hs
 have c6:=ans26 hc st hl
 have d6:=ans33 hc (s:=st) hl
 have c7:=ans27 hc st
 have d7:=ans34 hc st
 show ∃ q:AV,_
 (repeat (first|with_reducible_and_instances (first|refine WJ ?_|refine W (J_ldN (n:=8) o1 (by with_unfolding_all rfl)) ?_|refine W (J_ldq (by with_unfolding_all rfl)) ?_)|refine J_cA (c1) rfl rfl ?_|refine C_A (c1) rfl rfl ?_|refine J_cA (d1) rfl rfl ?_|refine C_A (d1) rfl rfl ?_|refine J_cA (c2) rfl rfl ?_|refine C_A (c2) rfl rfl ?_|refine J_cA (d2) rfl rfl ?_|refine C_A (d2) rfl rfl ?_|refine J_cA (c3) rfl rfl ?_|refine C_A (c3) rfl rfl ?_|refine J_cA (c4) rfl rfl ?_|refine C_A (c4) rfl rfl ?_|refine J_cA (d4) rfl rfl ?_|refine C_A (d4) rfl rfl ?_|refine J_cA (c5) rfl rfl ?_|refine C_A (c5) rfl rfl ?_|refine J_cA (d5) rfl rfl ?_|refine C_A (d5) rfl rfl ?_|refine J_cA (c6) rfl rfl ?_|refine C_A (c6) rfl rfl ?_|refine J_cA (d6) rfl rfl ?_|refine C_A (d6) rfl rfl ?_|refine J_cA (c7) rfl rfl ?_|refine C_A (c7) rfl rfl ?_|refine J_cA (d7) rfl rfl ?_|refine C_A (d7) rfl rfl ?_))
 exact⟨rfl,k1⟩
theorem bslP2{e:Nat}{z1 z2 u v u2 v2:AV}{S:Store}{K:AV→Store→Prop}(k:K (.l [[u,v],[u2,v2]]) S):bslN e 2 2 [z1,z2] [(0,.a [u,v]),(1,.a [u2,v2])] S K:=by
 refine⟨[u,v,u2,v2],?_,.inr ?_⟩
 ·simp[fillA,cellsOf,spl,List.range_succ]
 ·simpa[chunks,List.range_succ]using k
abbrev sI49:ByteArray:=⟨#[105,52,57]⟩
theorem law3{n st l:Int}(hn:0≤n∧n<256)(hl:0≤l∧l<256):Ans Pg 3 [.v (.int .u8 n),aI st,.v (.int .u8 l)] (aB true):=by
 intro S
 refine ACalls.ans_v (calls3 ?_)
 unfold m3
 have h1:0≤n.tmod 20∧n.tmod 20<20:=by rw[Int.tmod_eq_emod_of_nonneg hn.1];omega
 generalize hx:n.tmod 20=x at h1
 rw[convI_64 _ (by omega) (by omega),bin_rem (by decide),hx,bin_add (by omega) (by omega),bld_of (cs:=[aI 3,aI 0]) rfl,bld_of (cs:=[aI 4,aI 0]) rfl]
 refine bslP2 ?_
 rw[bld_of (cs:=[aI (50+x),.l [[aI 3,aI 0],[aI 4,aI 0]],.nl,.nl,.nl,.nl,.nl,.nl]) rfl]
 refine boxA_of rfl fun S1 k1 n1 o1=>?_
 refine stA_of (cs':=[aI (50+x),.l [[aI 3,aI 0],[aI 4,aI 0]],.nl,.nl,.nl,.nl,.nl,.nl]) o1 rfl rfl fun S2 n2 o2 f2=>?_
 have k2:=k1.st (Nat.le_refl _) n2 f2
 refine callF_ans ans8 ?_
 rw[onB_v,gd_T rfl,ldN_p (n:=8) o2 rfl,convI_64 _ (by omega) (by omega)]
 have nn:∀ y:Int,y∈([]:List Int)→i64R y:=fun y h=>by cases h
 have hC:(⟨50+x,[(3,0),(4,0)],[],[],[],[],[],[]⟩:Ci).ok:={
  inp:=⟨by show _≤50+x;omega,by show 50+x≤_;omega⟩
  llen:=(by decide:(2:Nat)≤1000000)
  alen:=Nat.zero_le _
  lats:=fun p hp=>by
   have hp:p∈[((3:Int),(0:Int)),(4,0)]:=hp
   simp only[List.mem_cons,List.not_mem_nil,or_false]at hp
   rcases hp with rfl|rfl<;>exact⟨⟨by decide,by decide⟩,⟨by decide,by decide⟩⟩
  pairs:=fun p hp=>by cases hp
  outs:=⟨nn,Nat.zero_le _⟩
  bads:=⟨nn,Nat.zero_le _⟩
  cons:=⟨nn,Nat.zero_le _⟩
  fair:=⟨nn,Nat.zero_le _⟩
  names:=fun p hp=>by cases hp
  nlen:=Nat.zero_le _ }
 have cc:=ans9 hC (k:=108) (x:=1) (st:=st) (l:=l) (by decide) (by decide) (s:=sI49) (by decide) ⟨by omega,by omega⟩
 refine callF_cv' (args:=[.a [aI (50+x),.l [[aI 3,aI 0],[aI 4,aI 0]],.nl,.nl,.nl,.nl,.nl,.nl],.v (.int .u8 108),aI 1,.v (.string sI49),aI st,aI l]) cc rfl (fun k u u2 e1 e2=>?_) ⟨rfl,k2⟩
 match k with
 |0=>cases e1;cases e2;exact cv_ci (.v _) (treeP [(3,0),(4,0)] _ _)
 |1=>cases e1;cases e2;exact .v _
 |2=>cases e1;cases e2;exact .v _
 |3=>cases e1;cases e2;exact .v _
 |4=>cases e1;cases e2;exact .v _
 |5=>cases e1;cases e2;exact .v _
 |k+6=>simp at e1
section
variable {H:Type} {enc:TypeId × Value→H} {w:World} {sp:Nat→Bool} {held:Bool}
end
end
end Go.Proofs.YtmpjhihpcaephaaGreatDoor.G

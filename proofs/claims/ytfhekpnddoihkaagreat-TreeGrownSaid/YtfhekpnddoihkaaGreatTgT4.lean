/- Tree -/
import Derived.Test.YtfhekpnddoihkaaGreatProg
import Derived.KernelRfl
import Derived.Test.YtfhekpnddoihkaaGreatTgT3
set_option linter.unusedVariables false
set_option linter.unusedSimpArgs false
namespace Go.Proofs.YtfhekpnddoihkaaGreat.G
open Go Go.Ab
noncomputable section
def keyOf(b:ByteArray):Key:=.s b.data.toList
theorem keyOf_inj{a b:ByteArray}(h:keyOf a=keyOf b):a=b:=by
 simp only[keyOf,Key.s.injEq]at h
 exact byteArray_ext (Array.toList_inj.1 h)
theorem ins_keys{es:List (Key × AV)}{x k:Key}{v:AV}:k∈(insM es x v).map (·.1)↔k∈es.map (·.1)∨k=x:=by
 induction es with
 |nil=>simp[insM]
 |cons e es ih =>
  simp only[insM]
  split
  ·rename_i h
   subst h
   simp only[List.map_cons,List.mem_cons]
   constructor
   ·rintro(h|h)
    ·exact .inr h
    ·exact .inl (.inr h)
   ·rintro((h|h)|h)
    ·exact .inl h
    ·exact .inr h
    ·exact .inl h
  ·simp only[List.map_cons,List.mem_cons,ih,or_assoc]
theorem ins_len_in{es:List (Key × AV)}{x:Key}{v:AV}(h:x∈es.map (·.1)):(insM es x v).length=es.length:=by
 induction es with
 |nil=>simp at h
 |cons e es ih =>
  simp only[insM]
  split
  ·rfl
  ·rename_i hne
   have:x∈es.map (·.1):=by
    rcases List.mem_cons.1 h with h|h
    ·exact absurd h.symm hne
    ·exact h
   simp[ih this]
structure Tells (es:List (Key × AV)) (l:List Key):Prop where
 mem:∀ k,k∈es.map (·.1)↔k∈l
 le:es.length≤l.length
 eq:es.length=l.length↔l.Nodup
theorem Tells.nil:Tells [] []:=⟨fun k=>by simp,Nat.le_refl _,by simp⟩
theorem Tells.add{es:List (Key × AV)}{l:List Key}(h:Tells es l)(x:Key)(v:AV):Tells (insM es x v) (l ++ [x]) where
 mem k:=by rw[ins_keys,h.mem,List.mem_append,List.mem_singleton]
 le:=by
  have:=h.le
  by_cases c:x∈es.map (·.1)
  ·rw[ins_len_in c];simp;omega
  ·rw[insM_none (kix_none.2 c)];simp;omega
 eq:=by
  have hle:=h.le
  rw[List.nodup_append]
  by_cases c:x∈es.map (·.1)
  ·rw[ins_len_in c]
   constructor
   ·intro e;simp at e;omega
   ·rintro⟨_,_,h3⟩
    exact absurd rfl (h3 x ((h.mem x).1 c) x (by simp))
  ·rw[insM_none (kix_none.2 c)]
   simp only[List.length_append,List.length_singleton,Nat.add_right_cancel_iff,h.eq]
   constructor
   ·intro e
    refine⟨e,by simp,fun a ha b hb=>?_⟩
    have:b=x:=by simpa using hb
    subst this
    rintro rfl
    exact c ((h.mem _).2 ha)
   ·exact fun e=>e.1
def nameOk(c:Ci)(x:Na):Prop:=wordB x.text=true∧0≤x.pos∧x.pos<c.many x.kind
def nameLt(y x:Na):Prop:=rankI y.kind<rankI x.kind∨rankI y.kind=rankI x.kind∧y.pos<x.pos
structure NamesR (c:Ci) (n:Nat):Prop where
 ok:∀ i (h:i<c.names.length),i<n→nameOk c c.names[i]
 lt:∀ i (h:i+1<c.names.length),i+1<n→nameLt c.names[i] c.names[i+1]
 nodup:((c.names.take n).map fun x=>keyOf x.text).Nodup
open Classical in
def namesB (c:Ci):Bool:=decide (NamesR c c.names.length)
theorem NamesR.zero(c:Ci):NamesR c 0:=⟨fun _ _ h=>by omega,fun _ _ h=>by omega,by simp⟩
theorem NamesR.no_ok{c:Ci}{i:Nat}(h:i<c.names.length)(hn:¬ nameOk c c.names[i]):namesB c=false:=by
 simp only[namesB,decide_eq_false_iff_not]
 exact fun h'=>hn (h'.ok i h h)
theorem NamesR.no_lt{c:Ci}{i:Nat}(h:i+1<c.names.length)(hn:¬ nameLt c.names[i] c.names[i+1]):namesB c=false:=by
 simp only[namesB,decide_eq_false_iff_not]
 exact fun h'=>hn (h'.lt i h h)
@[simp] theorem lenS_nL(l:List Na){S:Store}{K:AV→Store→Prop}:lenS (nL l) S K=K (aI l.length) S:=by simp[nL]
theorem ixS_nL{l:List Na}{e i:Nat}{S:Store}{K:AV→Store→Prop}(h:i<l.length):ixS e 3 (nL l) (aI i) S K=K (.q l[i].row 0) S:=by
 unfold nL
 rw[ixS_l (by simpa using h) (by simp[Na.row])]
 simp
theorem ldN_q3{u v z:AV}{S:Store}{K:AV→Store→Prop}:ldN 3 (.q [u,v,z] 0) S K=K (.a [u,v,z]) S:=by simp[ldN,rdN,place]
theorem keyS(b:ByteArray):keyA .s (.v (.string b))=some (keyOf b):=rfl
theorem lkM_mt{S:Store}{kk:KK}{z:AV}{c:Bool}{k:AV}{key:Key}{es:List (Key × AV)}{K:AV→Store→Prop}(hk:keyA kk k=some key):lkM kk z c (.mt kk es) k S K=K (lkV z c (lkp es key)) S:=by
 simp[lkM,entsA,hk]
theorem lkV_many(c:Ci)(k:Int):lkV (aI 0) false (lkp c.manyE (.i k))=aI (c.many k):=lkp_many c k
theorem wrap32{k:Int}(h0:0≤k)(h1:k<256):IntKind.i32.wrap k=k:=by rw[IntKind.wrap_i32];omega
theorem ans85{c:Ci}(hc:c.ok):Ans Pg 85 [c.av] (aB (namesB c)):=by
 intro S
 refine ACalls.ans_v (calls85 ?_)
 have hlen:=hc.nlen
 unfold m85
 refine boxA_of rfl fun S1 k1 n1 o1=>?_
 rw[ldN_p (n:=8) o1 rfl]
 refine callF_ans (ans79 c) ?_
 unfold mkM
 show shift _ _ _ _
 have k2:=k1.new (.map .s [] true)
 have p2:(S1.new (.map .s [] true)).obj S.n=_:=(new_lt (by omega)).trans o1
 rw[shift_p,ld1_p p2 rfl rfl,lenS_nL]
 refine loop85_0 (fun y S'=>Keep S S'∧S1.n<S'.n∧S'.obj S.n=some (.cells 29 [c.cells] true)∧∃ i:Nat,y=aI i∧i≤c.names.length∧
     (∀ j (h:j<c.names.length),j<i→nameOk c c.names[j])∧(∀ j (h:j+1<c.names.length),j+1<i→nameLt c.names[j] c.names[j+1])∧∃ es,S'.obj S1.n=some (.map .s es true)∧Tells es ((c.names.take i).map fun x=>keyOf x.text))
  (fun y _=>c.names.length - ((intA y).getD 0).toNat) ⟨k2,by simp,p2,0,rfl,Nat.zero_le _,fun j _ h=>by omega,fun j _ h=>by omega,[],new_self _,by simpa using Tells.nil⟩ ?_
 rintro _ S3 ⟨k3,n3,p3,i,rfl,hi,hok,hltn,es,m3,ht⟩ KE hKE
 unfold b85_0
 rw[bin_lss,onB_v]
 refine gd_of (fun hlt=>?_) (fun hge=>?_)
 ·have hlt:i<c.names.length:=by simpa using hlt
  have hx:=hc.names _ (List.getElem_mem hlt)
  rw[ixS_nL hlt]
  generalize hxe:c.names[i]=x at *
  have hno:=fun h=>NamesR.no_ok hlt (hxe ▸ h)
  unfold Na.row
  rw[ldN_q3]
  refine boxA_of rfl fun S4 k4 n4 o4=>?_
  refine stA_of o4 rfl rfl fun S5 n5 o5 f5=>?_
  have k5:Keep S S5:=(k3.trans k4).st (by have:=k3.1;omega) n5 f5
  have p5:S5.obj S.n=_:=(f5 _ (by omega)).trans ((k4.2 _ (by omega)).trans p3)
  have m5:S5.obj S1.n=_:=(f5 _ (by omega)).trans ((k4.2 _ (by omega)).trans m3)
  rw[shift_p,ld1_p o5 rfl rfl]
  refine callF_ans (ans107 x.text hx.2.2.2) ?_
  rw[un_not,onB_v]
  refine gd_of (fun h1=>⟨?_,k5⟩) (fun h1=>?_)
  ·rw[hno (fun h=>by rw[h.1]at h1;cases h1)]
  rw[shift_p,ld1_p o5 rfl rfl]
  refine callF_ans (ans108 x.kind hx.1 hx.2.1) ?_
  rw[bin_lss,onB_v]
  refine gd_of (fun h2=>⟨?_,k5⟩) (fun h2=>?_)
  ·rw[hno (fun h=>by have:=h.2;rw[many_no (dT h2)]at this;omega)]
  rw[shift_p,ld1_p o5 rfl rfl,bin_lss,onB_v]
  refine gd_of (fun h3=>⟨?_,k5⟩) (fun h3=>?_)
  ·rw[hno (fun h=>by have:=h.2;have:=dT h3;omega)]
  rw[shift_p,ld1_p o5 rfl rfl,shift_p,ld1_p o5 rfl rfl,convI_v,wrap32 hx.1 hx.2.1,lkM_mt (keyI _ _)]
  rw[lkV_many]
  rw[bin_geq,onB_v]
  refine gd_of (fun h4=>⟨?_,k5⟩) (fun h4=>?_)
  ·rw[hno (fun h=>by have:=h.2;have:=dT h4;omega)]
  have hgood:nameOk c x:=⟨by simpa using h1,by have:=dF h3;omega,by have:=dF h4;omega⟩
  rw[shift_p,ld1_p o5 rfl rfl,bld_of (cs:=[]) rfl,updM_m m5 (keyS _)]
  have k6:=k5.upd (id:=S1.n) (by omega) (.map .s (insM es (keyOf x.text) (.a [])) true)
  have p6:(Store.upd S5 S1.n (.map .s (insM es (keyOf x.text) (.a [])) true)).obj S.n=_:=(upd_ne (by omega)).trans p5
  have o6:(Store.upd S5 S1.n (.map .s (insM es (keyOf x.text) (.a [])) true)).obj S3.n=_:=(upd_ne (by omega)).trans o5
  have m6:(Store.upd S5 S1.n (.map .s (insM es (keyOf x.text) (.a [])) true)).obj S1.n=_:=upd_self _ _
  have n6:S4.n=(Store.upd S5 S1.n (.map .s (insM es (keyOf x.text) (.a [])) true)).n:=n5.symm
  have n6':S3.n+1=(Store.upd S5 S1.n (.map .s (insM es (keyOf x.text) (.a [])) true)).n:=by rw[←n6,n4]
  generalize Store.upd S5 S1.n (.map .s (insM es (keyOf x.text) (.a [])) true)=S6 at *
  have ht':Tells (insM es (keyOf x.text) (.a [])) ((c.names.take (i+1)).map fun x=>keyOf x.text):=by
   rw[List.take_add_one,List.getElem?_eq_getElem hlt,hxe,List.map_append]
   exact ht.add _ _
  have hok':∀ j (h:j<c.names.length),j<i+1→nameOk c c.names[j]:=fun j hj hj'=>by
   rcases Nat.lt_or_ge j i with h|h
   ·exact hok j hj h
   ·have:j=i:=by omega
    subst this
    rw[hxe];exact hgood
  have hadd:∀ K:AV→Store→Prop,∀ S,bin .add 0 (.v (.int .i64 (i:Int))) (.v (.int .i64 1)) S K=K (aI (i+1:Nat)) S:=fun K S=>bin_add (by omega) (by omega) 0
  have hμ:c.names.length - ((intA (aI (i+1:Nat))).getD 0).toNat<c.names.length - ((intA (aI i)).getD 0).toNat:=by simp[intA];omega
  rw[bin_eql,onB_v]
  refine gd_of (fun h5=>?_) (fun h5=>?_)
  ·have h5:i=0:=by have:=dT h5;omega
   rw[hadd]
   exact hKE _ _ ⟨k6,by omega,p6,i+1,rfl,hlt,hok',fun j hj hj'=>by omega,_,m6,ht'⟩ hμ
  ·have h5:i≠0:=by have:=dF h5;omega
   obtain⟨j,rfl⟩:∃ j,i=j+1:=⟨i - 1,by omega⟩
   have hj:j<c.names.length:=by omega
   have hy:=hc.names _ (List.getElem_mem hj)
   have hsub:∀ K:AV→Store→Prop,∀ S,bin .sub 0 (.v (.int .i64 ((j+1:Nat):Int))) (.v (.int .i64 1)) S K=K (aI j) S:=fun K S=>(bin_sub (by omega) (by omega) 0).trans (by rw[show((j+1:Nat):Int) - 1=j by omega])
   rw[shift_p,ld1_p p6 rfl rfl,hsub,ixS_nL hj]
   have hnl:¬ nameLt c.names[j] x→namesB c=false:=fun h=>NamesR.no_lt hlt (by rw[hxe];exact h)
   generalize hye:c.names[j]=y at *
   unfold Na.row
   rw[ldN_q3]
   refine boxA_of rfl fun S7 k7 n7 o7=>?_
   refine stA_of o7 rfl rfl fun S8 n8 o8 f8=>?_
   have k8:Keep S S8:=(k6.trans k7).st (by have:=k6.1;omega) n8 f8
   have p8:S8.obj S.n=_:=(f8 _ (by omega)).trans ((k7.2 _ (by omega)).trans p6)
   have m8:S8.obj S1.n=_:=(f8 _ (by omega)).trans ((k7.2 _ (by omega)).trans m6)
   have q8:S8.obj S3.n=_:=(f8 _ (by omega)).trans ((k7.2 _ (by omega)).trans o6)
   show ∃ q50:AV,_
   refine⟨_,by rw[shift_p];exact⟨rfl,rfl⟩,?_⟩
   refine⟨_,by rw[ld1_p o8 rfl rfl];exact⟨rfl,rfl⟩,?_⟩
   refine⟨_,callF_ans (ans108 y.kind hy.1 hy.2.1) ⟨rfl,rfl⟩,?_⟩
   refine⟨_,by rw[shift_p];exact⟨rfl,rfl⟩,?_⟩
   refine⟨_,by rw[ld1_p q8 rfl rfl];exact⟨rfl,rfl⟩,?_⟩
   refine⟨_,callF_ans (ans108 x.kind hx.1 hx.2.1) ⟨rfl,rfl⟩,?_⟩
   refine⟨_,callF_ans (ans110 _ _) ⟨rfl,rfl⟩,?_⟩
   refine⟨_,by rw[shift_p];exact⟨rfl,rfl⟩,?_⟩
   refine⟨_,by rw[ld1_p o8 rfl rfl];exact⟨rfl,rfl⟩,?_⟩
   refine⟨_,by rw[shift_p];exact⟨rfl,rfl⟩,?_⟩
   refine⟨_,by rw[ld1_p q8 rfl rfl];exact⟨rfl,rfl⟩,?_⟩
   refine⟨_,callF_ans (ans110 _ _) ⟨rfl,rfl⟩,?_⟩
   refine⟨_,bsl2 rfl rfl ⟨rfl,rfl⟩,?_⟩
   refine⟨_,callF_ans (ans109 _ _) ⟨rfl,rfl⟩,?_⟩
   refine⟨_,by rw[bin_geq];exact⟨rfl,rfl⟩,?_⟩
   rw[onB_v]
   have hcmp:(0≤if cmpZ (rankI y.kind) (rankI x.kind)≠0 then cmpZ (rankI y.kind) (rankI x.kind)else cmpZ y.pos x.pos)↔¬ nameLt y x:=by
    unfold cmpZ nameLt
    repeat' split
    all_goals omega
   refine gd_of (fun h6=>⟨?_,k8⟩) (fun h6=>?_)
   ·rw[hnl (hcmp.1 (dT h6))]
   ·rw[hadd]
    refine hKE _ _ ⟨k8,by omega,p8,j+1+1,rfl,hlt,hok',fun k hk hk'=>?_,_,m8,ht'⟩ hμ
    rcases Nat.lt_or_ge (k+1) (j+1)with h|h
    ·exact hltn k hk h
    ·have:k=j:=by omega
     subst this
     rw[hxe,hye]
     have:=dF h6
     exact Classical.not_not.1 fun hh=>this (hcmp.2 hh)
 ·have hge:i=c.names.length:=by simp at hge;omega
  subst hge
  rw[lenM_m m3,shift_p,ld1_p p3 rfl rfl,lenS_nL,bin_eql]
  refine⟨?_,k3⟩
  congr 3
  simp only[namesB,decide_eq_decide]
  have:=ht.eq
  rw[List.length_map,List.length_take,Nat.min_self]at this
  rw[Int.natCast_inj,this]
  exact⟨fun h=>⟨hok,hltn,h⟩,fun h=>h.nodup⟩
theorem ans100{c:Ci}(hc:c.ok):Ans Pg 100 [c.av] (aB (namesB c)):=by
 intro S
 refine ACalls.ans_v (calls100 ?_)
 have hlen:=hc.nlen
 unfold m100
 refine boxA_of rfl fun S1 k1 n1 o1=>?_
 refine loop100_0 (fun y S'=>Keep S S'∧S.n<S'.n∧S'.obj S.n=some (.cells 29 [c.cells] true)∧∃ i:Nat,y=aI i∧i≤c.names.length∧NamesR c i)
  (fun y _=>c.names.length - ((intA y).getD 0).toNat) ⟨k1,by omega,o1,0,rfl,Nat.zero_le _,NamesR.zero c⟩ ?_
 rintro _ S3 ⟨k3,n3,p3,i,rfl,hi,hR⟩ KE hKE
 unfold b100_0
 rw[shift_p,ld1_p p3 rfl rfl,lenS_nL,bin_lss,onB_v]
 refine gd_of (fun hlt=>?_) (fun hge=>?_)
 ·have hlt:i<c.names.length:=by simpa using hlt
  have hx:=hc.names _ (List.getElem_mem hlt)
  rw[shift_p,ld1_p p3 rfl rfl,ixS_nL hlt]
  generalize hxe:c.names[i]=x at *
  have hno:=fun h=>NamesR.no_ok hlt (hxe ▸ h)
  have hrow:x.row = [.v (.int .u8 x.kind),aI x.pos,.v (.string x.text)]:=rfl
  rw[hrow,ldN_q3]
  refine boxA_of rfl fun S4 k4 n4 o4=>?_
  refine stA_of o4 rfl rfl fun S5 n5 o5 f5=>?_
  have k5:Keep S S5:=(k3.trans k4).st (by have:=k3.1;omega) n5 f5
  have p5:S5.obj S.n=_:=(f5 _ (by omega)).trans ((k4.2 _ (by omega)).trans p3)
  show ∃ q13:AV,_
  refine⟨_,by rw[shift_p];exact⟨rfl,rfl⟩,?_⟩
  refine⟨_,by rw[ld1_p o5 rfl rfl];exact⟨rfl,rfl⟩,?_⟩
  refine⟨_,callF_ans (ans113 x.text hx.2.2.2) ⟨rfl,rfl⟩,?_⟩
  refine⟨_,by rw[un_not];exact⟨rfl,rfl⟩,?_⟩
  rw[onB_v]
  refine gd_of (fun h1=>?_) (fun h1=>?_)
  ·refine⟨_,⟨rfl,rfl⟩,?_⟩
   rw[onB_v,gd_true]
   refine⟨_,⟨rfl,rfl⟩,?_⟩
   rw[onB_v,gd_true]
   exact⟨by rw[hno (fun h=>by rw[h.1]at h1;cases h1)],k5⟩
  refine⟨_,by rw[shift_p];exact⟨rfl,rfl⟩,?_⟩
  refine⟨_,by rw[ld1_p o5 rfl rfl];exact⟨rfl,rfl⟩,?_⟩
  refine⟨_,by rw[bin_lss];exact⟨rfl,rfl⟩,?_⟩
  refine⟨_,⟨rfl,rfl⟩,?_⟩
  rw[onB_v]
  refine gd_of (fun h3=>?_) (fun h3=>?_)
  ·refine⟨_,⟨rfl,rfl⟩,?_⟩
   rw[onB_v,gd_true]
   exact⟨by rw[hno (fun h=>by have:=h.2;have:=dT h3;omega)],k5⟩
  refine⟨_,by rw[shift_p];exact⟨rfl,rfl⟩,?_⟩
  refine⟨_,by rw[ld1_p o5 rfl rfl];exact⟨rfl,rfl⟩,?_⟩
  refine⟨_,by rw[ldN_p (n:=8) p5 rfl];exact⟨rfl,rfl⟩,?_⟩
  refine⟨_,by rw[shift_p];exact⟨rfl,rfl⟩,?_⟩
  refine⟨_,by rw[ld1_p o5 rfl rfl];exact⟨rfl,rfl⟩,?_⟩
  refine⟨_,callF_ans (ans114 c x.kind) ⟨rfl,rfl⟩,?_⟩
  refine⟨_,by rw[bin_geq];exact⟨rfl,rfl⟩,?_⟩
  refine⟨_,⟨rfl,rfl⟩,?_⟩
  rw[onB_v]
  refine gd_of (fun h4=>⟨?_,k5⟩) (fun h4=>?_)
  ·rw[hno (fun h=>by have:=h.2;have:=dT h4;omega)]
  have hgood:nameOk c x:=⟨by simpa using h1,by have:=dF h3;omega,by have:=dF h4;omega⟩
  have hok':∀ j (h:j<c.names.length),j<i+1→nameOk c c.names[j]:=fun j hj hj'=>by
   rcases Nat.lt_or_ge j i with h|h
   ·exact hR.ok j hj h
   ·have:j=i:=by omega
    subst this
    rw[hxe];exact hgood
  refine loop100_1 (fun y S'=>S'=S5∧∃ k:Nat,y=aI k∧k≤i∧∀ j (hj:j<k) (hk:k≤i),(c.names[j]'(by omega)).text≠x.text)
   (fun y _=>i - ((intA y).getD 0).toNat) ⟨rfl,0,rfl,Nat.zero_le _,fun j hj=>(Nat.not_lt_zero _ hj).elim⟩ ?_
  rintro _ S5 ⟨rfl,k,rfl,hk,hne⟩ KE1 hKE1
  unfold b100_1
  rw[bin_lss,onB_v]
  refine gd_of (fun hlk=>?_) (fun hgk=>?_)
  ·have hlk:k<i:=by simpa using hlk
   have hkl:k<c.names.length:=by omega
   show ∃ q70:AV,_
   refine⟨_,by rw[shift_p];exact⟨rfl,rfl⟩,?_⟩
   refine⟨_,by rw[ld1_p p5 rfl rfl];exact⟨rfl,rfl⟩,?_⟩
   refine⟨_,by rw[ixS_nL hkl];exact⟨rfl,rfl⟩,?_⟩
   refine⟨_,by rw[shift_q];exact⟨rfl,rfl⟩,?_⟩
   refine⟨_,by rw[ld1_qj (u:=.v (.string c.names[k].text)) rfl];exact⟨rfl,rfl⟩,?_⟩
   refine⟨_,by rw[shift_p];exact⟨rfl,rfl⟩,?_⟩
   refine⟨_,by rw[ld1_p o5 rfl rfl];exact⟨rfl,rfl⟩,?_⟩
   refine⟨_,by rw[bin_eqlS];exact⟨rfl,rfl⟩,?_⟩
   rw[onB_v]
   refine gd_of (fun h6=>⟨?_,k5⟩) (fun h6=>?_)
   ·have h6:c.names[k].text=x.text:=dT h6
    have:namesB c=false:=by
     simp only[namesB,decide_eq_false_iff_not]
     intro h'
     have hnd:=h'.nodup
     rw[List.take_length]at hnd
     have:=List.pairwise_iff_getElem.1 hnd k i (by simpa using hkl) (by simpa using hlt) hlk
     simp only[List.getElem_map,hxe,h6]at this
     exact this rfl
    rw[this]
   ·have hadd:∀ K:AV→Store→Prop,∀ S,bin .add 0 (.v (.int .i64 (k:Int))) (.v (.int .i64 1)) S K=K (aI (k+1:Nat)) S:=fun K S=>bin_add (by omega) (by omega) 0
    rw[hadd]
    refine hKE1 _ _ ⟨rfl,k+1,rfl,hlk,fun j hj _=>?_⟩ (by simp[intA];omega)
    rcases Nat.lt_or_ge j k with hj'|hj'
    ·exact hne j hj' (by omega)
    ·have:j=k:=by omega
     subst this
     exact dF h6
  ·have hge:k=i:=by simp at hgk;omega
   subst hge
   have hnd':((c.names.take (k+1)).map fun x=>keyOf x.text).Nodup:=by
    have h:=hR.nodup
    rw[List.take_add_one,List.getElem?_eq_getElem hlt,List.map_append,List.nodup_append]
    refine⟨h,by simp,fun a ha b hb=>?_⟩
    rw[List.mem_map]at ha hb
    obtain⟨y,hy,rfl⟩:=ha
    obtain⟨z,hz,rfl⟩:=hb
    have:z=x:=by simpa[hxe]using hz
    subst this
    rw[List.mem_take_iff_getElem]at hy
    obtain⟨j,hj,rfl⟩:=hy
    exact fun e=>hne j (by omega) (Nat.le_refl _) (keyOf_inj e)
   have hadd:∀ K:AV→Store→Prop,∀ S,bin .add 0 (.v (.int .i64 (k:Int))) (.v (.int .i64 1)) S K=K (aI (k+1:Nat)) S:=fun K S=>bin_add (by omega) (by omega) 0
   have hμ:c.names.length - ((intA (aI (k+1:Nat))).getD 0).toNat<c.names.length - ((intA (aI k)).getD 0).toNat:=by simp[intA];omega
   have next:(∀ j (h:j+1<c.names.length),j+1=k→nameLt c.names[j] x)→KE _ (env100_0 (.p S.n 0 0) (aI (k+1:Nat))) S5:=fun hl=>hKE _ _ ⟨k5,by omega,p5,k+1,rfl,hlt,hok',fun j hj hj'=>by
    rcases Nat.lt_or_ge (j+1) k with h|h
    ·exact hR.lt j hj h
    ·have e:j+1=k:=by omega
     have:=hl j hj e
     subst e
     rw[hxe];exact this,hnd'⟩ hμ
   rw[bin_gtr,onB_v]
   refine gd_of (fun h7=>?_) (fun h7=>?_)
   ·obtain⟨j,rfl⟩:∃ j,k=j+1:=⟨k - 1,by have:=dT h7;omega⟩
    have hj:j<c.names.length:=by omega
    have hnl:¬ nameLt c.names[j] x→namesB c=false:=fun h=>NamesR.no_lt hlt (by rw[hxe];exact h)
    have next:=fun(h:nameLt c.names[j] x)=>next (fun j' hj' e=>by
     have:j'=j:=by omega
     subst this
     exact h)
    have hsub:∀ K:AV→Store→Prop,∀ S,bin .sub 0 (.v (.int .i64 ((j+1:Nat):Int))) (.v (.int .i64 1)) S K=K (aI j) S:=fun K S=>(bin_sub (by omega) (by omega) 0).trans (by rw[show((j+1:Nat):Int) - 1=j by omega])
    have hix:∀ K:AV→Store→Prop,ixS 64 3 (nL c.names) (aI j) S5 K=K (.q c.names[j].row 0) S5:=fun K=>ixS_nL hj
    generalize hye:c.names[j]=y at *
    have hrow':y.row = [.v (.int .u8 y.kind),aI y.pos,.v (.string y.text)]:=rfl
    show ∃ q90:AV,_
    refine⟨_,by rw[shift_p];exact⟨rfl,rfl⟩,?_⟩
    refine⟨_,by rw[ld1_p p5 rfl rfl];exact⟨rfl,rfl⟩,?_⟩
    refine⟨_,by rw[hsub];exact⟨rfl,rfl⟩,?_⟩
    refine⟨_,by rw[hix];exact⟨rfl,rfl⟩,?_⟩
    refine⟨_,by rw[shift_q];exact⟨rfl,rfl⟩,?_⟩
    refine⟨_,by rw[ld1_qj (u:=.v (.int .u8 y.kind)) rfl];exact⟨rfl,rfl⟩,?_⟩
    refine⟨_,callF_ans (ans115 y.kind) ⟨rfl,rfl⟩,?_⟩
    refine⟨_,by rw[shift_p];exact⟨rfl,rfl⟩,?_⟩
    refine⟨_,by rw[ld1_p o5 rfl rfl];exact⟨rfl,rfl⟩,?_⟩
    refine⟨_,callF_ans (ans115 x.kind) ⟨rfl,rfl⟩,?_⟩
    show ∃ q110:AV,_
    refine⟨_,by rw[bin_gtr];exact⟨rfl,rfl⟩,?_⟩
    rw[onB_v]
    refine gd_of (fun h8=>?_) (fun h8=>?_)
    ·refine⟨_,⟨rfl,rfl⟩,?_⟩
     rw[onB_v,gd_true]
     refine⟨?_,k5⟩
     have h8:=dT h8
     rw[hnl (by unfold nameLt;omega)]
    have h8:=dF h8
    refine⟨_,by rw[bin_eql];exact⟨rfl,rfl⟩,?_⟩
    rw[onB_v]
    refine gd_of (fun h9=>?_) (fun h9=>?_)
    ·have h9:rankI y.kind=rankI x.kind:=dT h9
     refine⟨_,by rw[shift_p];exact⟨rfl,rfl⟩,?_⟩
     refine⟨_,by rw[ld1_p p5 rfl rfl];exact⟨rfl,rfl⟩,?_⟩
     refine⟨_,by rw[hsub];exact⟨rfl,rfl⟩,?_⟩
     refine⟨_,by rw[hix];exact⟨rfl,rfl⟩,?_⟩
     refine⟨_,by rw[shift_q];exact⟨rfl,rfl⟩,?_⟩
     refine⟨_,by rw[ld1_qj (u:=aI y.pos) rfl];exact⟨rfl,rfl⟩,?_⟩
     refine⟨_,by rw[shift_p];exact⟨rfl,rfl⟩,?_⟩
     refine⟨_,by rw[ld1_p o5 rfl rfl];exact⟨rfl,rfl⟩,?_⟩
     refine⟨_,by rw[bin_geq];exact⟨rfl,rfl⟩,?_⟩
     refine⟨_,⟨rfl,rfl⟩,?_⟩
     refine⟨_,⟨rfl,rfl⟩,?_⟩
     rw[onB_v]
     refine gd_of (fun h10=>⟨?_,k5⟩) (fun h10=>?_)
     ·have h10:=dT h10
      rw[hnl (by unfold nameLt;omega)]
     ·have h10:=dF h10
      rw[hadd]
      exact next (by unfold nameLt;omega)
    ·have h9:¬ rankI y.kind=rankI x.kind:=dF h9
     refine⟨_,⟨rfl,rfl⟩,?_⟩
     refine⟨_,⟨rfl,rfl⟩,?_⟩
     rw[onB_v,gd_false,hadd]
     exact next (by unfold nameLt;omega)
   ·rw[hadd]
    exact next (fun j hj e=>by have:=dF h7;omega)
 ·have hge:i=c.names.length:=by simp at hge;omega
  subst hge
  refine⟨?_,k3⟩
  have:namesB c=true:=by simp only[namesB,decide_eq_true_eq];exact hR
  rw[this]
theorem ans99{g:Gr}{l:List Int}(hg:g.ok)(hl:∀ x∈l,i64R x)(hn:l.length≤9223372036854775807):Ans Pg 99 [g.av,aL aI l] (aB (l.all g.lit && decide (l.length≤2000))):=by
 intro S
 refine ACalls.ans_v (calls99 ?_)
 unfold m99
 refine boxA_of rfl fun S1 k1 n1 o1=>?_
 refine loop99_0 (fun y S'=>S'=S1∧∃ i:Nat,y=aI i∧i≤l.length∧∀ j (h:j<l.length),j<i→g.lit l[j]=true)
  (fun y _=>l.length - ((intA y).getD 0).toNat) ⟨rfl,0,rfl,Nat.zero_le _,fun j _ hj=>(Nat.not_lt_zero _ hj).elim⟩ ?_
 rintro _ S1 ⟨rfl,i,rfl,hi,hok⟩ KE hKE
 unfold b99_0
 rw[lenS_aL,bin_lss,onB_v]
 refine gd_of (fun hlt=>?_) (fun hge=>?_)
 ·have hlt:i<l.length:=by simpa using hlt
  have hm:=List.getElem_mem hlt
  show ∃ q5:AV,_
  refine⟨_,by rw[ldN_p (n:=2) o1 rfl];exact⟨rfl,rfl⟩,?_⟩
  refine⟨_,by rw[ixS_aL hlt];exact⟨rfl,rfl⟩,?_⟩
  refine⟨_,by rw[ld1_q];exact⟨rfl,rfl⟩,?_⟩
  refine⟨_,callF_ans (ans77 hg (hl _ hm)) ⟨rfl,rfl⟩,?_⟩
  refine⟨_,by rw[un_not];exact⟨rfl,rfl⟩,?_⟩
  rw[onB_v]
  refine gd_of (fun h=>⟨?_,k1⟩) (fun h=>?_)
  ·have:l.all g.lit=false:=by
     rw[List.all_eq_false]
     exact⟨_,hm,by simpa using h⟩
   rw[this];rfl
  ·have hadd:∀ K:AV→Store→Prop,∀ S,bin .add 0 (.v (.int .i64 (i:Int))) (.v (.int .i64 1)) S K=K (aI (i+1:Nat)) S:=fun K S=>bin_add (by omega) (by omega) 0
   rw[hadd]
   refine hKE _ _ ⟨rfl,i+1,rfl,hlt,fun j hj hj'=>?_⟩ (by simp[intA];omega)
   rcases Nat.lt_or_ge j i with h'|h'
   ·exact hok j hj h'
   ·have:j=i:=by omega
    subst this
    simpa using h
 ·have hge:i=l.length:=by simp at hge;omega
  subst hge
  rw[lenS_aL,bin_leq]
  refine⟨?_,k1⟩
  have:l.all g.lit=true:=by
   rw[List.all_eq_true]
   intro x hx
   obtain⟨j,hj,rfl⟩:=List.getElem_of_mem hx
   exact hok j hj hj
  rw[this,Bool.true_and,show decide ((l.length:Int)≤2000)=decide (l.length≤2000)from decide_eq_decide.2 (by omega)]
def latOk(g:Gr)(p:Int × Int):Bool:=g.lit p.1 && (decide (0≤p.2) && decide (p.2≤2))
def Ci.manyL(c:Ci):List Int:=[c.inputs,c.latches.length,c.outs.length,c.bads.length,c.cons.length,c.fair.length]
def Ci.right (c:Ci):Bool:=
 c.manyL.all (fun n=>decide (0≤n) && decide (n≤2000)) && (c.gr.right && (c.latches.all (latOk c.gr) && (c.outs.all c.gr.lit && (c.bads.all c.gr.lit && (c.cons.all c.gr.lit && (c.fair.all c.gr.lit && namesB c))))))
theorem at80{S:Store}{g:Gr}{id:Nat}{l:Int}(hg:g.ok)(hl:i64R l)(h:S.obj id=some (.cells 48 [g.cells] true)):AnsAt Pg 80 [aI l,.p id 0 0] S (aB (!g.lit l)):=by
 refine calls80 ?_
 unfold m80
 rw[ldN_p (n:=2) h rfl]
 refine callF_ans (ans48 hg hl) ?_
 rw[un_not]
 exact⟨rfl,rfl⟩
theorem at81{S:Store}{g:Gr}{id fid t:Nat}{p:Int × Int}(hg:g.ok)(hl:i64R p.1)(hid:id<S.n)(hf:fid<S.n)(h:S.obj id=some (.cells 48 [g.cells] true))
    (h2:S.obj fid=some (.cells t [[.f (.func 80) [] [.p id 0 0]]] true)):AnsAt Pg 81 [.a [aI p.1,aI p.2],.p fid 0 0] S (aB (!latOk g p)):=by
 refine ACalls.ans_v (calls81 ?_)
 unfold m81
 refine boxA_of rfl fun S1 k1 n1 o1=>?_
 have h':=(k1.2 _ hid).trans h
 have h2':=(k1.2 _ hf).trans h2
 rw[ld1_p h2' rfl rfl,shift_p,ld1_p o1 rfl rfl]
 refine callV_at (at80 hg hl h') ?_
 rw[onB_v]
 refine gd_of (fun h3=>⟨?_,k1⟩) (fun h3=>?_)
 ·rw[Bool.not_eq_true']at h3
  simp[latOk,h3]
 have h3:g.lit p.1=true:=by simpa using h3
 rw[shift_p,ld1_p o1 rfl rfl,bin_lss,onB_v]
 refine gd_of (fun h4=>⟨?_,k1⟩) (fun h4=>?_)
 ·have h4:=dT h4
  simp[latOk,show ¬ 0≤p.2 by omega]
 rw[shift_p,ld1_p o1 rfl rfl,bin_gtr]
 refine⟨?_,k1⟩
 have h4:=dF h4
 simp only[latOk,h3,Bool.true_and,show 0≤p.2 by omega,decide_true]
 congr 4
 rw[←decide_not]
 exact decide_eq_decide.2 (by omega)
theorem at105{l:List (Int × Int)}(hl:l.length≤9223372036854775807){g:Int × Int→Bool}{fn:FuncId}{fs cs:List AV}{S:Store}
    (hf:∀ x,x∈l→AnsAt Pg fn (fs ++ [.a [aI x.1,aI x.2]]++cs) S (aB (g x))):AnsAt Pg 105 [pL l,.f (.func fn) fs cs] S (aI (idxOf (l.findIdx? g))):=by
 refine calls105 ?_
 unfold m105
 rw[lenS_pL]
 refine loop105_0 (fun y S'=>S'=S∧∃ i:Nat,y=aI i∧i≤l.length∧∀ k (hk:k<l.length),k<i→g l[k]=false) (fun y _=>l.length - ((intA y).getD 0).toNat) ⟨rfl,0,rfl,Nat.zero_le _,fun k _ h=>absurd h (Nat.not_lt_zero _)⟩ ?_
 rintro _ _ ⟨rfl,i,rfl,hi,hk⟩ KE hKE
 unfold b105_0
 rw[bin_lss,onB_v]
 refine gd_of (fun h=>?_) (fun h=>?_)
 ·have hlt:i<l.length:=by simpa using h
  rw[ixS_pL hlt,ldN_q2]
  refine callV_at (hf _ (List.getElem_mem hlt)) ?_
  rw[onB_v]
  refine gd_of (fun hg=>⟨?_,rfl⟩) (fun hg=>?_)
  ·rw[find_at hlt hg (fun k hk'=>hk k _ hk')];rfl
  ·rw[bin_add (by omega) (by omega)]
   refine hKE _ _ ⟨rfl,i+1,rfl,hlt,fun k hk1 hk2=>?_⟩ ?_
   ·by_cases e:k=i
    ·subst e;exact hg
    ·exact hk k hk1 (by omega)
   ·simp[intA,aI];omega
 ·have hge:i=l.length:=by simp at h;omega
  subst hge
  rw[find_none (fun k hk'=>hk k hk' hk')]
  exact⟨rfl,rfl⟩
theorem at83{l:List (Int × Int)}(hl:l.length≤9223372036854775807){g:Int × Int→Bool}{fn:FuncId}{fs cs:List AV}{S:Store}
    (hf:∀ x,x∈l→AnsAt Pg fn (fs ++ [.a [aI x.1,aI x.2]]++cs) S (aB (g x))):AnsAt Pg 83 [pL l,.f (.func fn) fs cs] S (aB (l.any g)):=by
 refine calls83 ?_
 unfold m83
 refine callF_at (at105 hl hf) ?_
 unfold aI
 rw[bin_geq,idx_any]
 exact⟨rfl,rfl⟩
theorem manyE_at{c:Ci}{i:Nat}{e:Key × AV}(h:c.manyE[i]? = some e):∃ h':i<6,e.2=aI (c.manyL[i]'h'):=by
 match i with
 |0|1|2|3|4|5=>cases h;exact⟨by decide,rfl⟩
 |i+6=>simp[Ci.manyE]at h
theorem any_not{l:List Int}{g:Int→Bool}:l.any (fun x=>!g x) = !l.all g:=by
 induction l with
 |nil=>rfl
 |cons a l ih=>simp[ih]
theorem any_notP{l:List (Int × Int)}{g:Int × Int→Bool}:l.any (fun x=>!g x) = !l.all g:=by
 induction l with
 |nil=>rfl
 |cons a l ih=>simp[ih]
theorem nodup_lt6:∀{n:Nat} {l:List Nat},l.Nodup→(∀ x∈l,x<n)→l.length≤n
 |0,l,_,h=>by
  cases l with
  |nil=>simp
  |cons x l=>exact absurd (h x (by simp)) (Nat.not_lt_zero _)
 |n+1,l,hd,h=>by
  have h1:=nodup_lt6 (n:=n) (l:=l.erase n) (hd.erase n) (fun x hx=>by
   have:=(hd.mem_erase_iff).1 hx
   have:=h x this.2
   omega)
  by_cases hm:n∈l
  ·have:=List.length_erase_of_mem hm
   omega
  ·rw[List.erase_of_not_mem hm]at h1
   omega
theorem ans45{c:Ci}(hc:c.ok):Ans Pg 45 [c.av] (aB c.right):=by
 intro S
 refine ACalls.ans_v (calls45 ?_)
 have hg:=hc.gr
 unfold m45
 refine boxA_of rfl fun S1 k1 n1 o1=>?_
 rw[ldN_p (n:=8) o1 rfl]
 refine callF_ans (ans44 c) ?_
 refine boxA_of rfl fun S2 k2 n2 o2=>?_
 refine stA_of o2 rfl rfl fun S3 n3 o3 f3=>?_
 have k3:Keep S S3:=(k1.trans k2).st (by omega) n3 f3
 have p3:S3.obj S.n=_:=(f3 _ (by omega)).trans ((k2.2 _ (by omega)).trans o1)
 rw[ldN_p (n:=8) p3 rfl]
 refine callF_ans (ans79 c) ?_
 show loopV _ _ _ _ _ _
 have hmany:∀(i:Nat) (h:i<6),¬ (0≤c.manyL[i]'h∧c.manyL[i]'h≤2000)→c.right=false:=fun i h hn=>by
  have:c.manyL.all (fun n=>decide (0≤n) && decide (n≤2000))=false:=by
   rw[List.all_eq_false]
   exact⟨_,List.getElem_mem (l:=c.manyL) h,by simpa using hn⟩
  simp only[Ci.right,this,Bool.false_and]
 refine loop45_0 (fun S'=>Keep S S'∧S3.n<S'.n∧S'.obj S.n=some (.cells 29 [c.cells] true)∧S'.obj S1.n=some (.cells 48 [c.gr.cells] true)∧
     ∃ seen,S'.obj S3.n=some (.mit (.mt (.i .i32) c.manyE) 6 seen)∧seen.Nodup∧(∀ i∈seen,∃ h:i<6,0≤c.manyL[i]'h∧c.manyL[i]'h≤2000))
  (fun S'=>match S'.obj S3.n with|some (.mit _ _ seen)=>6 - seen.length|_=>0)
  ⟨k3.new _,by simp,(new_lt (by omega)).trans p3,(new_lt (by omega)).trans o3,[],new_self _,by simp,fun i h=>by simp at h⟩ ?_
 rintro S4 ⟨k4,n4,p4,g4,seen,m4,hnd,hse⟩ KE hKE
 unfold b45_0 nextM
 simp only[m4,mapKK,optP_some]
 refine⟨rfl,fun i e he hi=>?_,fun hall=>?_⟩
 ·obtain⟨hi6,hev⟩:=manyE_at he
  have k5:Keep S (Store.upd S4 S3.n (.mit (.mt (.i .i32) c.manyE) 6 (seen ++ [i]))):=k4.upd (by have:=k3.1;omega) _
  have m5:(Store.upd S4 S3.n (.mit (.mt (.i .i32) c.manyE) 6 (seen ++ [i]))).obj S3.n=_:=upd_self _ _
  have p5:(Store.upd S4 S3.n (.mit (.mt (.i .i32) c.manyE) 6 (seen ++ [i]))).obj S.n=_:=(upd_ne (by omega)).trans p4
  have g5:(Store.upd S4 S3.n (.mit (.mt (.i .i32) c.manyE) 6 (seen ++ [i]))).obj S1.n=_:=(upd_ne (by omega)).trans g4
  have n5:(Store.upd S4 S3.n (.mit (.mt (.i .i32) c.manyE) 6 (seen ++ [i]))).n=S4.n:=rfl
  generalize Store.upd S4 S3.n (.mit (.mt (.i .i32) c.manyE) 6 (seen ++ [i]))=S5 at *
  rw[extr0,onB_v,gd_true]
  unfold entryM
  simp only[m5,mapKK,optP_some]
  refine⟨rfl,i,by simp,e,he,?_⟩
  show extr _ _ _ _
  rw[extr1,hev,bin_lss,onB_v]
  refine gd_of (fun h1=>⟨?_,k5⟩) (fun h1=>?_)
  ·rw[hmany i hi6 (fun h=>by have:=dT h1;omega)]
  rw[bin_gtr,onB_v]
  refine gd_of (fun h2=>⟨?_,k5⟩) (fun h2=>?_)
  ·rw[hmany i hi6 (fun h=>by have:=dT h2;omega)]
  have h1:=dF h1
  have h2:=dF h2
  have hnd':(seen ++ [i]).Nodup:=by
   rw[List.nodup_append]
   refine⟨hnd,by simp,fun a ha b hb=>?_⟩
   have:b=i:=by simpa using hb
   subst this
   rintro rfl
   exact hi ha
  have hse':∀ j∈seen ++ [i],∃ h:j<6,0≤c.manyL[j]'h∧c.manyL[j]'h≤2000:=fun j hj=>by
   rcases List.mem_append.1 hj with hj|hj
   ·exact hse j hj
   ·have:j=i:=by simpa using hj
    subst this
    exact⟨hi6,by omega,by omega⟩
  have hlen:(seen ++ [i]).length≤6:=by
   exact nodup_lt6 hnd' (fun x hx=>(hse' x hx).1)
  refine hKE _ ⟨k5,by omega,p5,g5,_,m5,hnd',hse'⟩ ?_
  simp only[m5,m4]
  simp at hlen ⊢
  omega
 ·unfold over
  rw[extr0,onB_v,gd_false]
  have hm:c.manyL.all (fun n=>decide (0≤n) && decide (n≤2000))=true:=by
   rw[List.all_eq_true]
   intro x hx
   obtain⟨i,hi,rfl⟩:=List.getElem_of_mem hx
   obtain⟨h6,h0,h1⟩:=hse i (hall i hi)
   simp only[Bool.and_eq_true,decide_eq_true_eq]
   exact⟨h0,h1⟩
  have hright:c.right=(c.gr.right && (c.latches.all (latOk c.gr) && (c.outs.all c.gr.lit && (c.bads.all c.gr.lit && (c.cons.all c.gr.lit && (c.fair.all c.gr.lit && namesB c)))))):=by
   simp only[Ci.right,hm,Bool.true_and]
  clear hm hall hse hmany
  refine box1_of rfl fun S5 k5 n5 o5=>?_
  refine st_of o5 rfl rfl fun S6 n6 o6 f6=>?_
  have k6:Keep S S6:=(k4.trans k5).st (by have:=k4.1;omega) n6 f6
  have p6:S6.obj S.n=_:=(f6 _ (by omega)).trans ((k5.2 _ (by omega)).trans p4)
  have g6:S6.obj S1.n=_:=(f6 _ (by omega)).trans ((k5.2 _ (by omega)).trans g4)
  rw[ldN_p (n:=2) g6 rfl]
  refine callF_ans (ans82 hg) ?_
  rw[un_not,onB_v]
  refine gd_of (fun h1=>⟨?_,k6⟩) (fun h1=>?_)
  ·rw[Bool.not_eq_true']at h1
   rw[hright,h1];rfl
  have h1:c.gr.right=true:=by simpa using h1
  rw[shift_p,ld1_p p6 rfl rfl]
  have hlat:=hc.llen
  refine callF_at (at83 (by omega) (g:=fun p=>!latOk c.gr p) (fun p hp=>at81 hg (hc.lats p hp).1 (by omega) (by omega) g6 o6)) ?_
  rw[any_notP,onB_v]
  refine gd_of (fun h2=>⟨?_,k6⟩) (fun h2=>?_)
  ·rw[Bool.not_eq_true']at h2
   rw[hright,h1,h2];rfl
  have h2:c.latches.all (latOk c.gr)=true:=by simpa using h2
  rw[shift_p,ld1_p p6 rfl rfl,shift_p,ld1_p p6 rfl rfl,shift_p,ld1_p p6 rfl rfl,shift_p,ld1_p p6 rfl rfl,bld_of (cs:=[aL aI c.outs,aL aI c.bads,aL aI c.cons,aL aI c.fair]) rfl]
  rw[h1,h2,Bool.true_and,Bool.true_and]at hright
  have call:∀(l:List Int),((∀ x∈l,i64R x)∧l.length≤9223372036854775807)→∀{Q:AEnd→Store→Prop} {K:AV→Store→Prop},K (aB (!l.all c.gr.lit)) S6→callF Pg 84 [aL aI l,.f (.func 80) [] [.p S1.n 0 0]] S6 Q K:=fun l hl Q K k =>
   callF_at (at84 hl.2 (g:=fun x=>!c.gr.lit x) (fun x hx=>at80 hg (hl.1 x hx) g6)) (show K (aB (l.any fun x=>!c.gr.lit x)) S6 by rw[any_not];exact k)
  refine loop45_1 (fun y S'=>S'=S6∧∃ i:Nat,y=aI i∧i≤4∧(1≤i→c.outs.all c.gr.lit=true)∧(2≤i→c.bads.all c.gr.lit=true)∧(3≤i→c.cons.all c.gr.lit=true)∧(4≤i→c.fair.all c.gr.lit=true))
   (fun y _=>4 - ((intA y).getD 0).toNat) ⟨rfl,0,rfl,Nat.zero_le _,fun h=>by omega,fun h=>by omega,fun h=>by omega,fun h=>by omega⟩ ?_
  rintro _ S6 ⟨rfl,i,rfl,hi,a1,a2,a3,a4⟩ KE1 hKE1
  unfold b45_1
  rw[bin_lss,onB_v]
  refine gd_of (fun hlt=>?_) (fun hge=>?_)
  ·have hlt:i<4:=by have:=dT hlt;exact Int.ofNat_lt.1 this
   have hadd:∀ K:AV→Store→Prop,∀ S,bin .add 0 (.v (.int .i64 (i:Int))) (.v (.int .i64 1)) S K=K (aI (i+1:Nat)) S:=fun K S=>bin_add (by omega) (by omega) 0
   match i,hlt with
   |0,_ =>
    refine⟨0,rfl,⟨by decide,by decide⟩,_,rfl,?_⟩
    show ld1 _ _ _
    rw[ld1_p o6 rfl rfl]
    refine call _ hc.outs ?_
    rw[onB_v]
    refine gd_of (fun h=>⟨?_,k6⟩) (fun h=>?_)
    ·rw[Bool.not_eq_true']at h
     rw[hright,h];rfl
    ·rw[hadd]
     exact hKE1 _ _ ⟨rfl,1,rfl,by decide,fun _=>by simpa using h,fun h=>by omega,fun h=>by omega,fun h=>by omega⟩ (by simp[intA])
   |1,_ =>
    have a1:=a1 (by decide)
    refine⟨1,rfl,⟨by decide,by decide⟩,_,rfl,?_⟩
    show ld1 _ _ _
    rw[ld1_p o6 rfl rfl]
    refine call _ hc.bads ?_
    rw[onB_v]
    refine gd_of (fun h=>⟨?_,k6⟩) (fun h=>?_)
    ·rw[Bool.not_eq_true']at h
     rw[hright,a1,h];rfl
    ·rw[hadd]
     exact hKE1 _ _ ⟨rfl,2,rfl,by decide,fun _=>a1,fun _=>by simpa using h,fun h=>by omega,fun h=>by omega⟩ (by simp[intA])
   |2,_ =>
    have a1:=a1 (by decide)
    have a2:=a2 (by decide)
    refine⟨2,rfl,⟨by decide,by decide⟩,_,rfl,?_⟩
    show ld1 _ _ _
    rw[ld1_p o6 rfl rfl]
    refine call _ hc.cons ?_
    rw[onB_v]
    refine gd_of (fun h=>⟨?_,k6⟩) (fun h=>?_)
    ·rw[Bool.not_eq_true']at h
     rw[hright,a1,a2,h];rfl
    ·rw[hadd]
     exact hKE1 _ _ ⟨rfl,3,rfl,by decide,fun _=>a1,fun _=>a2,fun _=>by simpa using h,fun h=>by omega⟩ (by simp[intA])
   |3,_ =>
    have a1:=a1 (by decide)
    have a2:=a2 (by decide)
    have a3:=a3 (by decide)
    refine⟨3,rfl,⟨by decide,by decide⟩,_,rfl,?_⟩
    show ld1 _ _ _
    rw[ld1_p o6 rfl rfl]
    refine call _ hc.fair ?_
    rw[onB_v]
    refine gd_of (fun h=>⟨?_,k6⟩) (fun h=>?_)
    ·rw[Bool.not_eq_true']at h
     rw[hright,a1,a2,a3,h];rfl
    ·rw[hadd]
     exact hKE1 _ _ ⟨rfl,4,rfl,by decide,fun _=>a1,fun _=>a2,fun _=>a3,fun _=>by simpa using h⟩ (by simp[intA])
  ·have hge:i=4:=by
     have:¬ ((i:Int)<4):=dF hge
     omega
   subst hge
   rw[ldN_p (n:=8) p6 rfl]
   refine callF_ans (ans85 hc) ⟨?_,k6⟩
   rw[hright,a1 (by decide),a2 (by decide),a3 (by decide),a4 (by decide)];rfl
theorem right_c{c:Ci}:c.right=true↔(0≤c.inputs∧c.inputs≤2000)∧c.latches.length≤2000∧c.outs.length≤2000∧c.bads.length≤2000∧c.cons.length≤2000∧c.fair.length≤2000∧
    c.gr.right=true∧c.latches.all (latOk c.gr)=true∧c.outs.all c.gr.lit=true∧c.bads.all c.gr.lit=true∧c.cons.all c.gr.lit=true∧c.fair.all c.gr.lit=true∧namesB c=true:=by
 have e:∀ n:Nat,(decide (0≤(n:Int)) && decide ((n:Int)≤2000))=decide (n≤2000):=fun n=>by
  rw[decide_eq_true (by omega:0≤(n:Int)),Bool.true_and]
  exact decide_eq_decide.2 (by omega)
 simp only[Ci.right,Ci.manyL,List.all_cons,List.all_nil,e,Bool.and_eq_true,decide_eq_true_eq,Bool.and_true]
 constructor
 ·rintro⟨⟨a,b1,b2,b3,b4,b5⟩,c1,c2,c3,c4,c5,c6,c7⟩
  exact⟨a,b1,b2,b3,b4,b5,c1,c2,c3,c4,c5,c6,c7⟩
 ·rintro⟨a,b1,b2,b3,b4,b5,c1,c2,c3,c4,c5,c6,c7⟩
  exact⟨⟨a,b1,b2,b3,b4,b5⟩,c1,c2,c3,c4,c5,c6,c7⟩
theorem gd_fo{b:Bool}{A B:Prop}(h2:b=false→B)(h1:b=true→A):gd b A B:=gd_of h1 h2
theorem right_no{c:Ci}(h:¬ c.right=true):c.right=false:=by simpa using h
theorem ans63{c:Ci}(hc:c.ok):Ans Pg 63 [c.av] (aB c.right):=by
 intro S
 refine ACalls.ans_v (calls63 ?_)
 have hg:=hc.gr
 have hll:=hc.llen
 unfold m63
 refine boxA_of rfl fun S1 k1 n1 o1=>?_
 rw[ldN_p (n:=8) o1 rfl]
 refine callF_ans (ans12 c) ?_
 refine boxA_of rfl fun S2 k2 n2 o2=>?_
 refine stA_of o2 rfl rfl fun S3 n3 o3 f3=>?_
 have k3:Keep S S3:=(k1.trans k2).st (by omega) n3 f3
 have p3:S3.obj S.n=_:=(f3 _ (by omega)).trans ((k2.2 _ (by omega)).trans o1)
 rw[shift_p,ld1_p p3 rfl rfl,bin_lss,onB_v]
 refine gd_of (fun h1=>⟨?_,k3⟩) (fun h1=>?_)
 ·rw[right_no fun h=>by have:=(right_c.1 h).1;have:=dT h1;omega]
 rw[shift_p,ld1_p p3 rfl rfl,bin_gtr,onB_v]
 refine gd_of (fun h2=>⟨?_,k3⟩) (fun h2=>?_)
 ·rw[right_no fun h=>by have:=(right_c.1 h).1;have:=dT h2;omega]
 rw[shift_p,ld1_p p3 rfl rfl,lenS_pL,bin_gtr,onB_v]
 refine gd_of (fun h3=>⟨?_,k3⟩) (fun h3=>?_)
 ·rw[right_no fun h=>by have:=(right_c.1 h).2.1;have:=dT h3;omega]
 have h1:=dF h1
 have h2:=dF h2
 have h3:=dF h3
 rw[ldN_p (n:=2) o3 rfl]
 refine callF_ans (ans76 hg) ?_
 rw[un_not,onB_v]
 refine gd_of (fun h4=>⟨?_,k3⟩) (fun h4=>?_)
 ·rw[right_no fun h=>by rw[(right_c.1 h).2.2.2.2.2.2.1]at h4;cases h4]
 have h4:c.gr.right=true:=by simpa using h4
 refine loop63_0 (fun y S'=>S'=S3∧∃ i:Nat,y=aI i∧i≤c.latches.length∧∀ j (h:j<c.latches.length),j<i→latOk c.gr c.latches[j]=true)
  (fun y _=>c.latches.length - ((intA y).getD 0).toNat) ⟨rfl,0,rfl,Nat.zero_le _,fun j _ hj=>(Nat.not_lt_zero _ hj).elim⟩ ?_
 rintro _ S3 ⟨rfl,i,rfl,hi,hok⟩ KE hKE
 unfold b63_0
 rw[shift_p,ld1_p p3 rfl rfl,lenS_pL,bin_lss,onB_v]
 refine gd_of (fun hlt=>?_) (fun hge=>?_)
 ·have hlt:i<c.latches.length:=by simpa using hlt
  have hm:=List.getElem_mem hlt
  have hno:latOk c.gr c.latches[i]=false→c.right=false:=fun h=>right_no fun h'=>by
   have:=List.all_eq_true.1 (right_c.1 h').2.2.2.2.2.2.2.1 _ hm
   rw[h]at this;cases this
  have hix:∀ K:AV→Store→Prop,ixS 59 2 (pL c.latches) (aI i) S3 K=K (.q [aI c.latches[i].1,aI c.latches[i].2] 0) S3:=fun K=>ixS_pL hlt
  have hl:=(hc.lats _ hm).1
  have hnext:latOk c.gr c.latches[i]=true→KE _ (env63_0 (.p S.n 0 0) (.p S1.n 0 0) (aI (i+1:Nat))) S3:=fun h=>hKE _ _ ⟨rfl,i+1,rfl,hlt,fun j hj hj'=>by
   rcases Nat.lt_or_ge j i with h'|h'
   ·exact hok j hj h'
   ·have:j=i:=by omega
    subst this
    exact h⟩ (by simp[intA];omega)
  generalize c.latches[i]=x at *
  show ∃ q28:AV,_
  refine⟨_,by rw[ldN_p (n:=2) o3 rfl];exact⟨rfl,rfl⟩,?_⟩
  refine⟨_,by rw[shift_p];exact⟨rfl,rfl⟩,?_⟩
  refine⟨_,by rw[ld1_p p3 rfl rfl];exact⟨rfl,rfl⟩,?_⟩
  refine⟨_,by rw[hix];exact⟨rfl,rfl⟩,?_⟩
  refine⟨_,by rw[shift_q];exact⟨rfl,rfl⟩,?_⟩
  refine⟨_,by rw[ld1_qj (u:=aI x.1) rfl];exact⟨rfl,rfl⟩,?_⟩
  refine⟨_,callF_ans (ans77 hg hl) ⟨rfl,rfl⟩,?_⟩
  refine⟨_,by rw[un_not];exact⟨rfl,rfl⟩,?_⟩
  rw[onB_v]
  refine gd_of (fun h5=>?_) (fun h5=>?_)
  ·refine⟨_,⟨rfl,rfl⟩,?_⟩
   rw[onB_v,gd_true]
   refine⟨_,⟨rfl,rfl⟩,?_⟩
   rw[onB_v,gd_true]
   refine⟨?_,k3⟩
   rw[Bool.not_eq_true']at h5
   rw[hno (by simp[latOk,h5])]
  have h5:c.gr.lit x.1=true:=by simpa using h5
  refine⟨_,by rw[shift_p];exact⟨rfl,rfl⟩,?_⟩
  refine⟨_,by rw[ld1_p p3 rfl rfl];exact⟨rfl,rfl⟩,?_⟩
  refine⟨_,by rw[hix];exact⟨rfl,rfl⟩,?_⟩
  refine⟨_,by rw[shift_q];exact⟨rfl,rfl⟩,?_⟩
  refine⟨_,by rw[ld1_qj (u:=aI x.2) rfl];exact⟨rfl,rfl⟩,?_⟩
  refine⟨_,by rw[bin_lss];exact⟨rfl,rfl⟩,?_⟩
  refine⟨_,⟨rfl,rfl⟩,?_⟩
  rw[onB_v]
  refine gd_of (fun h6=>?_) (fun h6=>?_)
  ·refine⟨_,⟨rfl,rfl⟩,?_⟩
   rw[onB_v,gd_true]
   refine⟨?_,k3⟩
   have h6:=dT h6
   rw[hno (by simp[latOk,show ¬ 0≤x.2 by omega])]
  refine⟨_,by rw[shift_p];exact⟨rfl,rfl⟩,?_⟩
  refine⟨_,by rw[ld1_p p3 rfl rfl];exact⟨rfl,rfl⟩,?_⟩
  refine⟨_,by rw[hix];exact⟨rfl,rfl⟩,?_⟩
  refine⟨_,by rw[shift_q];exact⟨rfl,rfl⟩,?_⟩
  refine⟨_,by rw[ld1_qj (u:=aI x.2) rfl];exact⟨rfl,rfl⟩,?_⟩
  refine⟨_,by rw[bin_gtr];exact⟨rfl,rfl⟩,?_⟩
  refine⟨_,⟨rfl,rfl⟩,?_⟩
  rw[onB_v]
  refine gd_of (fun h7=>⟨?_,k3⟩) (fun h7=>?_)
  ·have h7:=dT h7
   rw[hno (by simp[latOk,show ¬ x.2≤2 by omega])]
  ·have hadd:∀ K:AV→Store→Prop,∀ S,bin .add 0 (.v (.int .i64 (i:Int))) (.v (.int .i64 1)) S K=K (aI (i+1:Nat)) S:=fun K S=>bin_add (by omega) (by omega) 0
   rw[hadd]
   have h6:=dF h6
   have h7:=dF h7
   exact hnext (by simp[latOk,h5,show 0≤x.2 by omega,show x.2≤2 by omega])
 ·have hge:i=c.latches.length:=by simp at hge;omega
  subst hge
  have h5:c.latches.all (latOk c.gr)=true:=by
   rw[List.all_eq_true]
   intro x hx
   obtain⟨j,hj,rfl⟩:=List.getElem_of_mem hx
   exact hok j hj hj
  rw[ldN_p (n:=2) o3 rfl,shift_p,ld1_p p3 rfl rfl]
  refine callF_ans (ans99 hg hc.outs.1 hc.outs.2) ?_
  rw[onB_v]
  refine gd_fo (fun a1=>⟨?_,k3⟩) (fun a1=>?_)
  ·rw[right_no fun h=>by simp[(right_c.1 h).2.2.2.2.2.2.2.2.1,(right_c.1 h).2.2.1]at a1]
  rw[ldN_p (n:=2) o3 rfl,shift_p,ld1_p p3 rfl rfl]
  refine callF_ans (ans99 hg hc.bads.1 hc.bads.2) ?_
  rw[onB_v]
  refine gd_fo (fun a2=>⟨?_,k3⟩) (fun a2=>?_)
  ·rw[right_no fun h=>by simp[(right_c.1 h).2.2.2.2.2.2.2.2.2.1,(right_c.1 h).2.2.2.1]at a2]
  rw[ldN_p (n:=2) o3 rfl,shift_p,ld1_p p3 rfl rfl]
  refine callF_ans (ans99 hg hc.cons.1 hc.cons.2) ?_
  rw[onB_v]
  refine gd_fo (fun a3=>⟨?_,k3⟩) (fun a3=>?_)
  ·rw[right_no fun h=>by simp[(right_c.1 h).2.2.2.2.2.2.2.2.2.2.1,(right_c.1 h).2.2.2.2.1]at a3]
  rw[ldN_p (n:=2) o3 rfl,shift_p,ld1_p p3 rfl rfl]
  refine callF_ans (ans99 hg hc.fair.1 hc.fair.2) ?_
  rw[onB_v]
  refine gd_fo (fun a4=>⟨?_,k3⟩) (fun a4=>?_)
  ·rw[right_no fun h=>by simp[(right_c.1 h).2.2.2.2.2.2.2.2.2.2.2.1,(right_c.1 h).2.2.2.2.2.1]at a4]
  rw[ldN_p (n:=8) p3 rfl]
  refine callF_ans (ans100 hc) ⟨?_,k3⟩
  rw[Bool.and_eq_true,decide_eq_true_eq]at a1 a2 a3 a4
  congr 3
  rw[Bool.eq_iff_iff]
  exact⟨fun h=>right_c.2 ⟨⟨by omega,by omega⟩,by omega,a1.2,a2.2,a3.2,a4.2,h4,h5,a1.1,a2.1,a3.1,a4.1,h⟩,fun h=>(right_c.1 h).2.2.2.2.2.2.2.2.2.2.2.2⟩
def litB(v:List Bool)(l:Int):Bool:=v.getD (l.tdiv 2).toNat false != decide (l.tmod 2=1)
def allTo(g:Gr)(ins:List Bool):Nat→List Bool
 |0=>false :: ins
 |i+1=>allTo g ins i ++ [litB (allTo g ins i) (g.ands.getD i (0,0)).1 && litB (allTo g ins i) (g.ands.getD i (0,0)).2]
@[simp] theorem allTo_len(g:Gr)(ins:List Bool):∀ i,(allTo g ins i).length=ins.length+1+i
 |0=>rfl
 |i+1=>by simp[allTo,allTo_len g ins i];omega
def allB(g:Gr)(ins:List Bool):List Bool:=if(g.right && decide ((ins.length:Int)=g.inputs))=true then allTo g ins g.ands.length else[]
theorem bitL_at{S:Store}{x:AV}{l:Int}{b:Bool}(hl:i64R l)(hx:∀ K:AV→Store→Prop,K (aB b) S→ixS 4 1 x (aI (l.tdiv 2)) S fun v S=>ld1 v S K):AnsAt Pg 117 [x,aI l] S (aB (b != decide (l.tmod 2=1))):=by
 refine calls117 ?_
 unfold m117
 rw[bin_half hl]
 refine hx _ ?_
 rw[bin_rem (by decide),bin_eql,bin_neqB]
 exact⟨rfl,rfl⟩
theorem may_at{g:Gr}(h:g.right=true){i:Nat}(hi:i<g.ands.length):2≤g.ands[i].2∧g.ands[i].2.tdiv 2<g.ands[i].1.tdiv 2∧g.ands[i].1.tdiv 2<g.inputs+1+i∧0≤g.ands[i].2.tdiv 2:=by
 have:=(right_iff.1 h).2.2.2.2.1 i hi
 rw[show g.ands.getD i (0,0)=g.ands[i]by simp[List.getD_eq_getElem?_getD,hi]]at this
 simp only[may,Bool.and_eq_true,decide_eq_true_eq]at this
 exact⟨this.1,this.2.1,this.2.2,Int.tdiv_nonneg (by omega) (by decide)⟩
theorem ix_own{n:Nat}{S:Store}{x:AV}{v:List Bool}(h:Own n S x 4 (v.map fun b=>[aB b])){z:Int}(h0:0≤z)(h1:z<v.length)(K:AV→Store→Prop)(k:K (aB (v.getD z.toNat false)) S):ixS 4 1 x (aI z) S fun v S=>ld1 v S K:=by
 obtain⟨i,rfl⟩:=Int.eq_ofNat_of_zero_le h0
 have hi:i<v.length:=by omega
 obtain⟨id,rfl,h2,h3,h4⟩:=h.ix (i:=i) (by simpa using hi)
 rw[ixS_s (by simpa using hi) h4,ld1_p h4 (by rw[Nat.zero_add,List.getElem?_map,List.getElem?_eq_getElem hi];rfl) rfl]
 rw[show(v.getD (Int.toNat i) false)=v[i]by simp[List.getD_eq_getElem?_getD,hi]]at k
 exact k
theorem ix_tree{S:Store}{v:List Bool}{z:Int}(h0:0≤z)(h1:z<v.length)(K:AV→Store→Prop)(k:K (aB (v.getD z.toNat false)) S):ixS 4 1 (aL aB v) (aI z) S fun v S=>ld1 v S K:=by
 obtain⟨i,rfl⟩:=Int.eq_ofNat_of_zero_le h0
 have hi:i<v.length:=by omega
 rw[ixS_aL hi,ld1_q]
 rw[show(v.getD (Int.toNat i) false)=v[i]by simp[List.getD_eq_getElem?_getD,hi]]at k
 exact k
def OwnL(f:FuncId)(args:List AV)(l:List Bool):Prop:=
 ∀ S,ACalls Pg f args S (fun r S'=>∃ x,r = .ret x∧Keep S S'∧Own S.n S' x 4 (l.map fun b=>[aB b]))
theorem OwnL.ans{f:FuncId}{args:List AV}{l:List Bool}(h:OwnL f args l):Ans Pg f args (aL aB l):=ACalls.ans_own (f:=fun b=>.bool b) (e:=4) h
theorem src_aL(S:Store)(l:List Bool):srcE S (aL aB l)=some (l.map fun b=>[aB b]):=rfl
theorem own116{g:Gr}(hg:g.ok){ins:List Bool}(hin:ins.length≤1000000):OwnL 116 [g.av,aL aB ins] (allB g ins):=by
 intro S
 refine calls116 ?_
 have hlen:=hg.len
 unfold m116
 refine boxA_of rfl fun S1 k1 n1 o1=>?_
 rw[ldN_p (n:=2) o1 rfl]
 refine callF_ans (ans76 hg) ?_
 rw[un_not,onB_v]
 refine gd_of (fun h1=>⟨_,rfl,k1,?_⟩) (fun h1=>?_)
 ·rw[Bool.not_eq_true']at h1
  rw[allB,h1]
  exact Own.nl _ _ _
 have h1:g.right=true:=by simpa using h1
 rw[lenS_aL,shift_p,ld1_p o1 rfl rfl,bin_neq,onB_v]
 refine gd_of (fun h2=>⟨_,rfl,k1,?_⟩) (fun h2=>?_)
 ·rw[Bool.not_eq_true']at h2
  rw[allB,h2,Bool.and_false]
  exact Own.nl _ _ _
 have h2:decide ((ins.length:Int)=g.inputs)=true:=by simpa using h2
 have h2':=dT h2
 have hres:allB g ins=allTo g ins g.ands.length:=by rw[allB,h1,h2];rfl
 have hb:∀(b:Bool) {S:Store} {K:AV→Store→Prop},K (.l [[aB b]]) S→bslN 4 1 1 [.v (.bool false)] [(0,aB b)] S K:=fun b S K k=>bsl1 rfl (fun _ h=>by cases h) k
 refine⟨[aB false],by simp[fillA,cellsOf,AV.one,Value.oneCell',spl],.inl ?_⟩
 have w2:Own S1.n (S1.new (.cells 4 (chunks 1 1 [aB false]) true)) (.s S1.n 0 1) 4 [[aB false]]:=.inr ⟨S1.n,rfl,Nat.le_refl _,by simp,by rw[new_self];rfl⟩
 have k2:Keep S1 (S1.new (.cells 4 (chunks 1 1 [aB false]) true)):=(Keep.refl _).new _
 generalize S1.new (.cells 4 (chunks 1 1 [aB false]) true)=S2 at *
 refine Own.appL w2 k2.1 (ys:=ins.map fun b=>[aB b]) (fun c hc=>by obtain⟨p,_,rfl⟩:=List.mem_map.1 hc;rfl) (by simp;omega) (fun z1 S3 w3 b3 hz3=>?_) (src_aL _ _)
 have k3:Keep S1 S3:=w2.keep (Nat.le_refl _) b3 k2
 have k3':=k1.trans k3
 refine loop116_0 (fun y z S'=>Keep S1 S'∧∃ i:Nat,z=aI i∧i≤g.ands.length∧Own S1.n S' y 4 ((allTo g ins i).map fun b=>[aB b]))
  (fun _ z _=>g.ands.length - ((intA z).getD 0).toNat) ⟨k3,0,rfl,Nat.zero_le _,w3⟩ ?_
 rintro y _ S4 ⟨k4,i,rfl,hi,w4⟩ KE hKE
 have o4:=(k4.2 S.n (by omega)).trans o1
 unfold b116_0
 rw[shift_p,ld1_p o4 rfl rfl,lenS_pL,bin_lss,onB_v]
 refine gd_of (fun hlt=>?_) (fun hge=>?_)
 ·have hlt:i<g.ands.length:=by simpa using hlt
  obtain⟨q1,q2,q3,q4⟩:=may_at h1 hlt
  have hp:=hg.pairs _ (List.getElem_mem hlt)
  have hget:g.ands.getD i (0,0)=g.ands[i]:=by simp[List.getD_eq_getElem?_getD,hlt]
  have e1:∀(c:List AV) (K:AV→Store→Prop),ixA 2 1 (.q c 0) (.v (.int .i64 1)) S4 K=K (.q c 1) S4:=fun c K=>ixA_q (z:=1) (by decide)
  have e0:∀(c:List AV) (K:AV→Store→Prop),ixA 2 1 (.q c 0) (.v (.int .i64 0)) S4 K=K (.q c 0) S4:=fun c K=>ixA_q (z:=0) (by decide)
  have hadd:∀ K:AV→Store→Prop,∀ S,bin .add 0 (.v (.int .i64 (i:Int))) (.v (.int .i64 1)) S K=K (aI (i+1:Nat)) S:=fun K S=>bin_add (by omega) (by omega) 0
  have hl4:(allTo g ins i).length=ins.length+1+i:=allTo_len g ins i
  have step:∀ b,allTo g ins (i+1)=allTo g ins i ++ [b]→appS 4 1 1 y (.l [[aB b]]) S4 fun v T=>bin .add 0 (aI i) (.v (.int .i64 1)) T fun v' T=>KE 49 (env116_0 (.p S.n 0 0) v v') T:=fun b hb=>by
   refine w4.app k4.1 (c:=[aB b]) rfl (by simp;omega) (fun z5 S5 w5 b5 hz5=>?_) rfl
   rw[hadd]
   refine hKE _ _ _ ⟨w4.keep (Nat.le_refl _) b5 k4,i+1,rfl,hlt,?_⟩ (by simp[intA];omega)
   rw[hb,List.map_append]
   exact w5
  rw[shift_p,ld1_p o4 rfl rfl,ixS_pL hlt,e0,ld1_q0]
  refine callF_at (bitL_at hp.1 (fun K k=>ix_own w4 (by omega) (by rw[hl4];omega) K k)) ?_
  rw[onB_v]
  refine gd_of (fun h3=>?_) (fun h3=>?_)
  ·rw[shift_p,ld1_p o4 rfl rfl,ixS_pL hlt,e1,ld1_q1]
   refine callF_at (bitL_at hp.2 (fun K k=>ix_own w4 (by omega) (by rw[hl4];omega) K k)) ?_
   refine hb _ (step _ ?_)
   simp only[allTo,hget,litB]
   rw[h3,Bool.true_and]
  ·refine hb _ (step _ ?_)
   simp only[allTo,hget,litB]
   rw[h3,Bool.false_and]
 ·have hge:i=g.ands.length:=by simp at hge;omega
  subst hge
  rw[hres]
  exact⟨_,rfl,k1.trans k4,w4.low (by omega)⟩
theorem allB_len{g:Gr}{ins:List Bool}:(allB g ins).length=if(g.right && decide ((ins.length:Int)=g.inputs))=true then(g.vars).toNat else 0:=by
 unfold allB
 split
 ·rename_i h
  simp only[Bool.and_eq_true,decide_eq_true_eq]at h
  rw[allTo_len]
  simp only[Gr.vars,←h.2]
  omega
 ·rfl
def Gr.eval(g:Gr)(l:Int)(ins:List Bool):Bool:=decide (0<(allB g ins).length) && (g.lit l && litB (allB g ins) l)
theorem ans101{g:Gr}(hg:g.ok){l:Int}(hl:i64R l){ins:List Bool}(hin:ins.length≤1000000):Ans Pg 101 [g.av,aI l,aL aB ins] (aB (g.eval l ins)):=by
 intro S
 refine ACalls.ans_v (calls101 ?_)
 unfold m101
 refine boxA_of rfl fun S1 k1 n1 o1=>?_
 rw[ldN_p (n:=2) o1 rfl]
 refine callF_ans (own116 hg hin).ans ?_
 rw[lenS_aL,bin_gtr,onB_v]
 refine gd_fo (fun h1=>⟨?_,k1⟩) (fun h1=>?_)
 ·have h1:=dF h1
  simp[Gr.eval,show ¬ 0<(allB g ins).length by omega]
 have h1:0<(allB g ins).length:=by have:=dT h1;omega
 rw[ldN_p (n:=2) o1 rfl]
 refine callF_ans (ans77 hg hl) ?_
 rw[onB_v]
 refine gd_fo (fun h2=>⟨?_,k1⟩) (fun h2=>?_)
 ·simp[Gr.eval,h2]
 have h3:0≤l.tdiv 2∧l.tdiv 2<(allB g ins).length:=by
  have h4:=h2
  simp only[Gr.lit,Bool.and_eq_true,decide_eq_true_eq]at h4
  have:=allB_len (g:=g) (ins:=ins)
  split at this
  ·exact⟨Int.tdiv_nonneg (by omega) (by decide),by omega⟩
  ·omega
 refine callF_at (bitL_at hl (fun K k=>ix_tree h3.1 h3.2 K k)) ⟨?_,k1⟩
 simp only[Gr.eval,h1,h2,decide_true,Bool.true_and]
 rfl
theorem and1(a:Int):IntKind.i64.wrap ((BitVec.ofInt 64 a &&& BitVec.ofInt 64 1).toNat:Nat)=a % 2:=by
 have h1:(BitVec.ofInt 64 1).toNat=1:=by decide
 rw[BitVec.toNat_and,h1,Nat.and_one_is_mod,BitVec.toNat_ofInt,wrap64 (by omega) (by omega)]
 omega
theorem bin_and1{a:Int}{S:Store}{K:AV→Store→Prop}:bin .and 0 (aI a) (.v (.int .i64 1)) S K=K (aI (a % 2)) S:=by
 show bin .and 0 (.v (.int .i64 a)) (.v (.int .i64 1)) S K=_
 have:b2 .and 0 (.int .i64 a) (.int .i64 1)=some (.int .i64 (a % 2)):=by
  rw[←and1 a];rfl
 show optP (b2 .and 0 (.int .i64 a) (.int .i64 1)) _=_
 rw[this,optP_some]
theorem bin_shr1{a:Int}(h:0≤a){S:Store}{K:AV→Store→Prop}:bin .shr 0 (aI a) (.v (.int .u64 1)) S K=K (aI (a.tdiv 2)) S:=by
 rw[bin_shr (by decide)]
 have:a.fdiv (2 ^ min (Int.toNat 1) IntKind.i64.bits)=a.tdiv 2:=by
  show a.fdiv 2=_
  rw[Int.fdiv_eq_ediv_of_nonneg _ (by decide),Int.tdiv_eq_ediv_of_nonneg h]
 rw[this]
theorem at128{S:Store}{fid t n:Nat}{x:AV}{v:List Bool}{l:Int}(h0:0≤l)(h1:l.tdiv 2<v.length)(hf:S.obj fid=some (.cells t [[x]] true))(hx:Own n S x 4 (v.map fun b=>[aB b])):
    AnsAt Pg 128 [aI l,.p fid 0 0] S (aB (litB v l)):=by
 refine calls128 ?_
 unfold m128
 rw[ld1_p hf rfl rfl,bin_shr1 h0]
 refine ix_own hx (Int.tdiv_nonneg h0 (by decide)) h1 _ ?_
 rw[bin_and1,bin_eql,bin_neqB]
 refine⟨?_,rfl⟩
 rw[litB,show l.tmod 2=l % 2 from Int.tmod_eq_emod_of_nonneg h0]
theorem mkN_lc{e b l c:Nat}{zc:List AV}(hl:l≤c)(hb:b*c≤281474976710656)(hn:c≤9223372036854775807){S:Store}{K:AV→Store→Prop}:mkN e b zc (aI l) (aI c) S K=K (.s S.n 0 l) (S.new (.cells e (List.replicate l zc) true)):=by
 have h1:(b:Int)*c≤281474976710656:=by
  have h:=Int.ofNat_le.2 hb
  rw[Int.natCast_mul]at h
  omega
 have h2:(c:Int)≤9223372036854775807:=by omega
 have h0:(0:Int)≤l:=by omega
 have h3:(l:Int)≤c:=by omega
 simp only[mkN,intA,optP_some,h0,h1,h2,h3,Int.toNat_natCast,and_self,true_and]
theorem own_keep{n:Nat}{S T:Store}{x:AV}{e:Nat}{es:List (List AV)}(h:Own n S x e es)(k:Keep S T):Own n T x e es:=by
 rcases h with h|⟨id,h1,h2,h3,h4⟩
 ·exact .inl h
 ·exact .inr ⟨id,h1,h2,Nat.lt_of_lt_of_le h3 k.1,(k.2 _ h3).trans h4⟩
theorem own_at125{g:Gr}(hg:g.ok){ins:List Bool}(hin:ins.length≤1000000){S:Store}{xi:AV}(hlx:∀(T:Store) (K:AV→Store→Prop),lenS xi T K=K (aI ins.length) T)(hsx:∀ T,Keep S T→srcE T xi=some (ins.map fun b=>[aB b])):
    ACalls Pg 125 [g.av,xi] S (fun r S'=>∃ x,r = .ret x∧Keep S S'∧Own S.n S' x 4 ((allB g ins).map fun b=>[aB b])):=by
 refine calls125 ?_
 have hlen:=hg.len
 unfold m125
 refine boxA_of rfl fun S1 k1 n1 o1=>?_
 rw[ldN_p (n:=2) o1 rfl]
 refine callF_ans (ans82 hg) ?_
 rw[un_not,onB_v]
 refine gd_of (fun h1=>⟨_,rfl,k1,?_⟩) (fun h1=>?_)
 ·rw[Bool.not_eq_true']at h1
  rw[allB,h1]
  exact Own.nl _ _ _
 have h1:g.right=true:=by simpa using h1
 rw[hlx,shift_p,ld1_p o1 rfl rfl,bin_neq,onB_v]
 refine gd_of (fun h2=>⟨_,rfl,k1,?_⟩) (fun h2=>?_)
 ·rw[Bool.not_eq_true']at h2
  rw[allB,h2,Bool.and_false]
  exact Own.nl _ _ _
 have h2:decide ((ins.length:Int)=g.inputs)=true:=by simpa using h2
 have h2':=dT h2
 have hres:allB g ins=allTo g ins g.ands.length:=by rw[allB,h1,h2];rfl
 rw[shift_p,ld1_p o1 rfl rfl,bin_add (by omega) (by omega),shift_p,ld1_p o1 rfl rfl,lenS_pL,bin_add (by omega) (by omega)]
 have hcap:g.inputs+1+(g.ands.length:Int)=((ins.length+1+g.ands.length:Nat):Int):=by omega
 rw[hcap]
 have hmk:∀{K:AV→Store→Prop},mkN 4 1 [.v (.bool false)] (.v (.int .i64 1)) (aI ((ins.length+1+g.ands.length:Nat):Int)) S1 K=K (.s S1.n 0 1) (S1.new (.cells 4 (List.replicate 1 [.v (.bool false)]) true)):=mkN_lc (l:=1) (by omega) (by omega) (by omega)
 rw[hmk]
 have w2:Own S1.n (S1.new (.cells 4 (List.replicate 1 [.v (.bool false)]) true)) (.s S1.n 0 1) 4 [[aB false]]:=.inr ⟨S1.n,rfl,Nat.le_refl _,by simp,by rw[new_self];rfl⟩
 have k2:Keep S1 (S1.new (.cells 4 (List.replicate 1 [.v (.bool false)]) true)):=(Keep.refl _).new _
 have n2:(S1.new (.cells 4 (List.replicate 1 [.v (.bool false)]) true)).n=S1.n+1:=rfl
 generalize S1.new (.cells 4 (List.replicate 1 [.v (.bool false)]) true)=S2 at *
 refine box1_of rfl fun S3 k3 n3 o3=>?_
 refine st_of o3 rfl rfl fun S4 n4 o4 f4=>?_
 have k4:Keep S1 S4:=(k2.trans k3).st (by omega) n4 f4
 have w4:Own S1.n S4 (.s S1.n 0 1) 4 [[aB false]]:=(own_keep w2 k3).st (id:=S2.n) (fun b m e=>by injection e;omega) n4 f4
 rw[ld1_p o4 rfl rfl]
 refine Own.appL w4 k4.1 (ys:=ins.map fun b=>[aB b]) (fun c hc=>by obtain⟨p,_,rfl⟩:=List.mem_map.1 hc;rfl) (by simp;omega) (fun z1 S5 w5 b5 hz5=>?_) (hsx _ (k1.trans k4))
 have k5:Keep S1 S5:=w4.keep (Nat.le_refl _) b5 k4
 have o5:=(b5.2 S2.n (by omega) (fun b m e=>by injection e;omega)).trans o4
 have m5:=b5.1
 have z5:∀ b m,z1≠.s S2.n b m:=fun b m e=>by
  rcases hz5 with h|⟨m',h⟩
  ·rw[h]at e;injection e;omega
  ·rw[h]at e;injection e;omega
 refine st_of o5 rfl (by rcases w5 with⟨h,_⟩|⟨_,h,_⟩<;>rw[h]<;>rfl) fun S6 n6 o6 f6=>?_
 have k6:Keep S1 S6:=k5.st (by omega) n6 f6
 have w6:=w5.st (id:=S2.n) z5 n6 f6
 have p6:=(k6.2 S.n (by omega)).trans o1
 rw[shift_p,ld1_p p6 rfl rfl,lenS_pL]
 refine loop125_0 (fun y S'=>Keep S1 S'∧S2.n<S'.n∧∃ i:Nat,y=aI i∧i≤g.ands.length∧∃ z,S'.obj S2.n=some (.cells 121 [[z]] true)∧(∀ b m,z≠.s S2.n b m)∧Own S1.n S' z 4 ((allTo g ins i).map fun b=>[aB b]))
  (fun y _=>g.ands.length - ((intA y).getD 0).toNat) ⟨k6,by omega,0,rfl,Nat.zero_le _,z1,o6,z5,w6⟩ ?_
 rintro _ S7 ⟨k7,n7,i,rfl,hi,z,o7,hz,w7⟩ KE hKE
 unfold b125_0
 rw[bin_lss,onB_v]
 refine gd_of (fun hlt=>?_) (fun hge=>?_)
 ·have hlt:i<g.ands.length:=by simpa using hlt
  obtain⟨q1,q2,q3,q4⟩:=may_at h1 hlt
  have hp:=hg.pairs _ (List.getElem_mem hlt)
  have hget:g.ands.getD i (0,0)=g.ands[i]:=by simp[List.getD_eq_getElem?_getD,hlt]
  have hl4:(allTo g ins i).length=ins.length+1+i:=allTo_len g ins i
  rw[ixS_pL hlt,ldN_q2]
  generalize g.ands[i]=p at *
  refine boxA_of rfl fun S8 k8 n8 o8=>?_
  refine stA_of o8 rfl rfl fun S9 n9 o9 f9=>?_
  have k9:Keep S7 S9:=k8.st (Nat.le_refl _) n9 f9
  have w9:Own S1.n S9 z 4 _:=own_keep w7 k9
  have v9:=(k9.2 S2.n n7).trans o7
  have e1:∀(T:Store) (K:AV→Store→Prop),ixA 2 1 (.p S7.n 0 0) (.v (.int .i64 1)) T K=K (.p S7.n 0 1) T:=fun T K=>ixA_p (z:=1) (by decide)
  have e0:∀(T:Store) (K:AV→Store→Prop),ixA 2 1 (.p S7.n 0 0) (.v (.int .i64 0)) T K=K (.p S7.n 0 0) T:=fun T K=>ixA_p (z:=0) (by decide)
  have hadd:∀ K:AV→Store→Prop,∀ S,bin .add 0 (.v (.int .i64 (i:Int))) (.v (.int .i64 1)) S K=K (aI (i+1:Nat)) S:=fun K S=>bin_add (by omega) (by omega) 0
  have hp1:0≤p.1:=by
   rcases Int.le_total 0 p.1 with h|h
   ·exact h
   ·have:p.1.tdiv 2≤0:=by
      rw[show p.1.tdiv 2 = -((-p.1).tdiv 2)by rw[Int.neg_tdiv,Int.neg_neg],Int.tdiv_eq_ediv_of_nonneg (by omega)]
      omega
    omega
  have m9:S9.n=S7.n+1:=by omega
  have step:∀ b,allTo g ins (i+1)=allTo g ins i ++ [b]→appS 4 1 1 z (.l [[aB b]]) S9 fun v T=>stN 1 (.p S2.n 0 0) v T fun _ T=>bin .add 0 (aI i) (.v (.int .i64 1)) T fun v' T=>KE 53 (env125_0 (.p S2.n 0 0) (.f (.func 128) [] [.p S2.n 0 0]) (pL g.ands) (aI g.ands.length) v') T:=fun b hb=>by
   refine w9.app (by have:=k7.1;omega) (c:=[aB b]) rfl (by simp;omega) (fun zz T1 wT bT hzT=>?_) rfl
   have kT:Keep S1 T1:=w9.keep (Nat.le_refl _) bT (k7.trans k9)
   have oT:=(bT.2 S2.n (by omega) (fun b m=>hz b m)).trans v9
   have mT:=bT.1
   have hzz:∀ b m,zz≠.s S2.n b m:=fun b m e=>by
    obtain⟨m',h⟩:=hzT
    rw[h]at e;injection e;omega
   refine st_of oT rfl (by rcases wT with⟨h,_⟩|⟨_,h,_⟩<;>rw[h]<;>rfl) fun T2 nT o2 f2=>?_
   rw[hadd]
   refine hKE _ _ ⟨kT.st (by omega) nT f2,by omega,i+1,rfl,hlt,zz,o2,hzz,?_⟩ (by simp[intA];omega)
   rw[hb,List.map_append]
   exact wT.st (id:=S2.n) hzz nT f2
  refine⟨_,fun T hT=>by rw[ld1_p ((hT.2 _ (by omega)).trans v9) rfl rfl];exact⟨rfl,rfl⟩,_,fun T hT=>by rw[e0];exact⟨rfl,rfl⟩,_,fun T hT=>by rw[ld1_p ((hT.2 _ (by omega)).trans o9) rfl rfl];exact⟨rfl,rfl⟩,
   _,fun T hT=>callV_at (at128 hp1 (by rw[hl4];omega) ((hT.2 _ (by omega)).trans v9) (own_keep w9 hT)) ⟨rfl,rfl⟩,?_⟩
  rw[onB_v]
  refine gd_of (fun h3=>?_) (fun h3=>?_)
  ·refine⟨_,fun T hT=>by rw[e1];exact⟨rfl,rfl⟩,_,fun T hT=>by rw[ld1_p ((hT.2 _ (by omega)).trans o9) rfl rfl];exact⟨rfl,rfl⟩,
     _,fun T hT=>callV_at (at128 (by omega) (by rw[hl4];omega) ((hT.2 _ (by omega)).trans v9) (own_keep w9 hT)) ⟨rfl,rfl⟩,_,fun T hT=>⟨rfl,rfl⟩,_,fun T hT=>bsl1 rfl (fun _ h=>by cases h) ⟨rfl,rfl⟩,?_⟩
   refine step _ ?_
   simp only[allTo,hget]
   rw[h3,Bool.true_and]
  ·refine⟨_,fun T hT=>⟨rfl,rfl⟩,_,fun T hT=>bsl1 rfl (fun _ h=>by cases h) ⟨rfl,rfl⟩,?_⟩
   refine step _ ?_
   simp only[allTo,hget]
   rw[h3,Bool.false_and]
 ·have hge:i=g.ands.length:=by simp at hge;omega
  subst hge
  rw[hres,ld1_p o7 rfl rfl]
  exact⟨_,rfl,k1.trans k7,w7.low (by omega)⟩
theorem ans_own_at{α:Type}{f:α→Value}{P:Program}{fn:FuncId}{args:List AV}{S:Store}{e:Nat}{l:List α}(h:ACalls P fn args S (fun r S'=>∃ x,r = .ret x∧Keep S S'∧Own S.n S' x e (l.map fun a=>[.v (f a)]))):AnsAt P fn args S (aL (fun a=>.v (f a)) l):=
 ACalls.tree (h.mono fun r S' ⟨x,h1,h2,h3⟩=>⟨x,h1,h2,h3.cv_v⟩)
def bitN(n:Int)(i:Nat):Bool:=decide (n.fdiv (2 ^ i) % 2=1)
def bitsL(n:Int)(many:Nat):List Bool:=(List.range many).map (bitN n)
@[simp] theorem bitsL_len(n:Int)(m:Nat):(bitsL n m).length=m:=by simp[bitsL]
theorem bitsL_succ(n:Int)(m:Nat):bitsL n (m+1)=bitsL n m ++ [bitN n m]:=by simp[bitsL,List.range_succ]
theorem bin_shrN{a:Int}{i:Nat}(h:i≤64){S:Store}{K:AV→Store→Prop}:bin .shr 0 (aI a) (aI i) S K=K (aI (a.fdiv (2 ^ i))) S:=by
 rw[bin_shr (by omega),show min (Int.toNat i) IntKind.i64.bits=i by rw[Int.toNat_natCast];exact Nat.min_eq_left h]
theorem own102(s:Int){m:Nat}(hm:m≤64):OwnL 102 [aI s,aI m] (bitsL s m):=by
 intro S
 refine calls102 ?_
 unfold m102
 refine loop102_0 (fun y z S'=>Keep S S'∧∃ i:Nat,z=aI i∧i≤m∧Own S.n S' y 4 ((bitsL s i).map fun b=>[aB b]))
  (fun _ z _=>m - ((intA z).getD 0).toNat) ⟨Keep.refl _,0,rfl,Nat.zero_le _,Own.nl _ _ _⟩ ?_
 rintro y _ S1 ⟨k1,i,rfl,hi,w1⟩ KE hKE
 unfold b102_0
 rw[bin_lss,onB_v]
 refine gd_of (fun hlt=>?_) (fun hge=>?_)
 ·have hlt:i<m:=by simpa using hlt
  rw[bin_shrN (by omega),bin_and1,bin_eql]
  refine bsl1 rfl (fun _ h=>by cases h) ?_
  refine w1.app k1.1 (c:=[aB (bitN s i)]) rfl (by simp;omega) (fun z5 S5 w5 b5 hz5=>?_) rfl
  have hadd:∀ K:AV→Store→Prop,∀ S,bin .add 0 (.v (.int .i64 (i:Int))) (.v (.int .i64 1)) S K=K (aI (i+1:Nat)) S:=fun K S=>bin_add (by omega) (by omega) 0
  rw[hadd]
  refine hKE _ _ _ ⟨w1.keep (Nat.le_refl _) b5 k1,i+1,rfl,hlt,?_⟩ (by simp[intA];omega)
  rw[bitsL_succ,List.map_append]
  exact w5
 ·have hge:i=m:=by simp at hge;omega
  subst hge
  exact⟨_,rfl,k1,w1⟩
def isB (c:Ci) (s l:Int):Bool:=c.right && (decide (c.gr.inputs≤60) && c.gr.eval l (bitsL s c.gr.inputs.toNat))
theorem part10{x:AV}{l:List AV}{S:Store}{K:AV→Store→Prop}:part1 (.a (x :: l)) 0 S K=K x S:=by simp[part1,partA]
theorem gr_inp{c:Ci}(h:c.right=true):c.gr.inputs=c.inputs+c.latches.length∧0≤c.gr.inputs∧c.gr.inputs≤2000:=by
 obtain⟨⟨h1,h2⟩,h3,_,_,_,_,h4,_⟩:=right_c.1 h
 have h5:=right_iff.1 h4
 refine⟨?_,h5.1,h5.2.1⟩
 show IntKind.i64.wrap (c.inputs+c.latches.length)=_
 exact wrap64 (by omega) (by omega)
theorem ans67{c:Ci}(hc:c.ok){s l:Int}(hl:i64R l):Ans Pg 67 [c.av,aI s,aI l] (aB (isB c s l)):=by
 intro S
 refine ACalls.ans_v (calls67 ?_)
 unfold m67
 refine boxA_of rfl fun S1 k1 n1 o1=>?_
 rw[ldN_p (n:=8) o1 rfl]
 refine callF_ans (ans63 hc) ?_
 rw[un_not,onB_v]
 refine gd_of (fun h1=>⟨?_,k1⟩) (fun h1=>?_)
 ·rw[Bool.not_eq_true']at h1
  simp[isB,h1]
 have h1:c.right=true:=by simpa using h1
 obtain⟨g1,g2,g3⟩:=gr_inp h1
 rw[ldN_p (n:=8) o1 rfl]
 refine callF_ans (ans12 c) ?_
 unfold Gr.av Gr.cells
 rw[part10,bin_gtr,onB_v]
 refine gd_of (fun h2=>⟨?_,k1⟩) (fun h2=>?_)
 ·have h2:=dT h2
  simp[isB,show ¬ c.gr.inputs≤60 by omega]
 have h2:=dF h2
 obtain⟨m,hm⟩:=Int.eq_ofNat_of_zero_le g2
 show ∃ q11:AV,_
 refine⟨_,by rw[ldN_p (n:=8) o1 rfl];exact⟨rfl,rfl⟩,?_⟩
 refine⟨_,callF_ans (ans12 c) ⟨rfl,rfl⟩,?_⟩
 refine⟨_,by rw[ldN_p (n:=8) o1 rfl];exact⟨rfl,rfl⟩,?_⟩
 refine⟨_,callF_ans (ans12 c) ⟨rfl,rfl⟩,?_⟩
 refine⟨aI m,by unfold Gr.av Gr.cells;rw[part10,hm];exact⟨rfl,rfl⟩,?_⟩
 refine⟨_,callF_ans (own102 s (by omega)).ans ⟨rfl,rfl⟩,?_⟩
 refine⟨_,callF_ans (ans101 hc.gr hl (ins:=bitsL s m) (by simp;omega)) ⟨rfl,rfl⟩,?_⟩
 refine⟨?_,k1⟩
 simp only[isB,h1,Bool.true_and,show c.gr.inputs≤60 by omega,decide_true]
 rw[hm,Int.toNat_natCast]
def afterTo (c:Ci) (s:Int):Nat→Int
 |0=>0
 |i+1=>if isB c s (c.latches.getD i (0,0)).1=true then afterTo c s i+2 ^ (c.inputs.toNat+i)else afterTo c s i
def afterB (c:Ci) (s:Int):Int:=if(c.right && decide (c.gr.inputs≤60))=true then afterTo c s c.latches.length else 0
theorem afterTo_le(c:Ci)(s:Int):∀ i,0≤afterTo c s i∧afterTo c s i<2 ^ (c.inputs.toNat+i)
 |0=>⟨Int.le_refl _,Int.pow_pos (by decide)⟩
 |i+1=>by
  have⟨h1,h2⟩:=afterTo_le c s i
  have h3:(2:Int) ^ (c.inputs.toNat+(i+1))=2*2 ^ (c.inputs.toNat+i):=by rw[←Nat.add_assoc,Int.pow_succ];omega
  have h4:(0:Int)<2 ^ (c.inputs.toNat+i):=Int.pow_pos (by decide)
  unfold afterTo
  split<;>constructor<;>omega
theorem pow_le60{n:Nat}(h:n≤60):(2:Int) ^ n≤1152921504606846976:=by
 have h1:2 ^ n≤2 ^ 60:=Nat.pow_le_pow_right (by decide) h
 have h2:((2 ^ n:Nat):Int)≤((2 ^ 60:Nat):Int):=Int.ofNat_le.2 h1
 rw[Int.natCast_pow]at h2
 exact h2
theorem bin_shl1{i:Nat}(h:i≤60){S:Store}{K:AV→Store→Prop}:bin .shl 0 (.v (.int .i64 1)) (aI i) S K=K (aI (2 ^ i)) S:=by
 have h2:¬ ((i:Int)<0):=by omega
 have h3:min (Int.toNat i) IntKind.i64.bits=i:=by rw[Int.toNat_natCast];exact Nat.min_eq_left (by show i≤64;omega)
 have h4:=pow_le60 h
 have h5:(0:Int)<2 ^ i:=Int.pow_pos (by decide)
 show optP (b2 .shl 0 (.int .i64 1) (.int .i64 i)) _=_
 have:b2 .shl 0 (.int .i64 1) (.int .i64 i)=some (.int .i64 (2 ^ i)):=by
  simp only[b2,isSh,shI,if_neg h2,h3,Int.one_mul]
  rw[wrap64 (by omega) (by omega)]
  rfl
 rw[this,optP_some]
theorem ans78{c:Ci}(hc:c.ok)(s:Int):Ans Pg 78 [c.av,aI s] (aI (afterB c s)):=by
 intro S
 refine ACalls.ans_v (calls78 ?_)
 have hll:=hc.llen
 unfold m78
 refine boxA_of rfl fun S1 k1 n1 o1=>?_
 rw[ldN_p (n:=8) o1 rfl]
 refine callF_ans (ans63 hc) ?_
 rw[un_not,onB_v]
 refine gd_of (fun h1=>⟨?_,k1⟩) (fun h1=>?_)
 ·rw[Bool.not_eq_true']at h1
  simp[afterB,h1]
 have h1:c.right=true:=by simpa using h1
 obtain⟨g1,g2,g3⟩:=gr_inp h1
 have hin:=(right_c.1 h1).1
 rw[ldN_p (n:=8) o1 rfl]
 refine callF_ans (ans12 c) ?_
 unfold Gr.av Gr.cells
 rw[part10,bin_gtr,onB_v]
 refine gd_of (fun h2=>⟨?_,k1⟩) (fun h2=>?_)
 ·have h2:=dT h2
  simp[afterB,show ¬ c.gr.inputs≤60 by omega]
 have h2:=dF h2
 have hres:afterB c s=afterTo c s c.latches.length:=by
  simp only[afterB,h1,Bool.true_and,show c.gr.inputs≤60 by omega,decide_true,if_true]
 obtain⟨m,hm⟩:=Int.eq_ofNat_of_zero_le hin.1
 refine loop78_0 (fun y z S'=>S'=S1∧∃ i:Nat,z=aI i∧i≤c.latches.length∧y=aI (afterTo c s i))
  (fun _ z _=>c.latches.length - ((intA z).getD 0).toNat) ⟨rfl,0,rfl,Nat.zero_le _,rfl⟩ ?_
 rintro _ _ S1 ⟨rfl,i,rfl,hi,rfl⟩ KE hKE
 unfold b78_0
 rw[shift_p,ld1_p o1 rfl rfl,lenS_pL,bin_lss,onB_v]
 refine gd_of (fun hlt=>?_) (fun hge=>?_)
 ·have hlt:i<c.latches.length:=by simpa using hlt
  have hget:c.latches.getD i (0,0)=c.latches[i]:=by simp[List.getD_eq_getElem?_getD,hlt]
  have hadd:∀ K:AV→Store→Prop,∀ S,bin .add 0 (.v (.int .i64 (i:Int))) (.v (.int .i64 1)) S K=K (aI (i+1:Nat)) S:=fun K S=>bin_add (by omega) (by omega) 0
  have hμ:c.latches.length - ((intA (aI (i+1:Nat))).getD 0).toNat<c.latches.length - ((intA (aI i)).getD 0).toNat:=by simp[intA];omega
  show ∃ q16:AV,_
  refine⟨_,by rw[ldN_p (n:=8) o1 rfl];exact⟨rfl,rfl⟩,?_⟩
  refine⟨_,by rw[shift_p];exact⟨rfl,rfl⟩,?_⟩
  refine⟨_,by rw[ld1_p o1 rfl rfl];exact⟨rfl,rfl⟩,?_⟩
  refine⟨_,by rw[ixS_pL hlt];exact⟨rfl,rfl⟩,?_⟩
  refine⟨_,by rw[shift_q];exact⟨rfl,rfl⟩,?_⟩
  refine⟨_,by rw[ld1_qj (u:=aI c.latches[i].1) rfl];exact⟨rfl,rfl⟩,?_⟩
  refine⟨_,callF_ans (ans67 hc (hc.lats _ (List.getElem_mem hlt)).1) ⟨rfl,rfl⟩,?_⟩
  rw[onB_v]
  refine gd_of (fun h3=>?_) (fun h3=>?_)
  ·have hb:=afterTo_le c s i
   have hp:=pow_le60 (n:=c.inputs.toNat+i) (by omega)
   rw[shift_p,ld1_p o1 rfl rfl,bin_add (by omega) (by omega)]
   have e:c.inputs+(i:Int)=((c.inputs.toNat+i:Nat):Int):=by omega
   rw[e,bin_shl1 (by omega),bin_add (by omega) (by omega),hadd]
   exact hKE _ _ _ ⟨rfl,i+1,rfl,hlt,by rw[afterTo,hget,if_pos h3]⟩ hμ
  ·rw[hadd]
   exact hKE _ _ _ ⟨rfl,i+1,rfl,hlt,by rw[afterTo,hget,h3];rfl⟩ hμ
 ·have hge:i=c.latches.length:=by simp at hge;omega
  subst hge
  rw[hres]
  exact⟨rfl,k1⟩
theorem orN{a b:Nat}(ha:a<4611686018427387904)(hb:b<4611686018427387904)(h:a ||| b<4611686018427387904){S:Store}{K:AV→Store→Prop}:bin .or 0 (aI a) (aI b) S K=K (aI (a ||| b:Nat)) S:=by
 show optP (b2 .or 0 (.int .i64 a) (.int .i64 b)) _=_
 have:b2 .or 0 (.int .i64 a) (.int .i64 b)=some (.int .i64 (a ||| b:Nat)):=by
  show(some (Int.ofNat 0)).bind (fun _=>some (Value.int .i64 (IntKind.i64.wrap (BitVec.ofInt 64 a ||| BitVec.ofInt 64 b).toNat)))=_
  have h1:(BitVec.ofInt 64 (a:Int)).toNat=a:=by rw[BitVec.toNat_ofInt];omega
  have h2:(BitVec.ofInt 64 (b:Int)).toNat=b:=by rw[BitVec.toNat_ofInt];omega
  rw[BitVec.toNat_or,h1,h2,wrap64 (by omega) (by omega)]
  rfl
 rw[this,optP_some]
theorem or_add{k q b:Nat}(h:b<2 ^ k):2 ^ k*q ||| b=2 ^ k*q+b:=(Nat.two_pow_add_eq_or_of_lt h q).symm
theorem two_le60{n:Nat}(h:n≤60):2 ^ n≤1152921504606846976:=Nat.pow_le_pow_right (by decide) h
theorem bin_or_pow{a:Int}{k:Nat}(h0:0≤a)(h1:a<2 ^ k)(hk:k≤60){S:Store}{K:AV→Store→Prop}:bin .or 0 (aI a) (aI (2 ^ k)) S K=K (aI (a+2 ^ k)) S:=by
 obtain⟨n,rfl⟩:=Int.eq_ofNat_of_zero_le h0
 have hp:=two_le60 hk
 have e:((2:Int) ^ k)=((2 ^ k:Nat):Int):=by rw[Int.natCast_pow];rfl
 rw[e]at h1 ⊢
 have hn:n<2 ^ k:=by omega
 have ho:n ||| 2 ^ k=n+2 ^ k:=by
  rw[Nat.or_comm]
  have:=or_add (k:=k) (q:=1) hn
  rw[Nat.mul_one]at this
  rw[this];omega
 rw[orN (by omega) (by omega) (by rw[ho];omega),ho,Int.natCast_add]
section
variable {c:Ci} {vals:List (List Bool)} {n mid t:Nat} {S:Store}
end
theorem set_range{α:Type}{n i:Nat}{f f':Nat→α}(hi:i<n)(h:∀ k,k≠i→f' k=f k):((List.range n).map f).set i (f' i)=(List.range n).map f':=by
 apply List.ext_getElem
 ·simp
 ·intro k h1 h2
  rw[List.getElem_set]
  split
  ·rename_i e
   subst e
   simp
  ·rename_i e
   simp[h k (fun h=>e h.symm)]
section
variable {c:Ci} {vals:List (List Bool)} {n mid t:Nat} {S:Store}
end
section
variable {c:Ci} {vals:List (List Bool)} {n mid t:Nat} {S:Store}
end
abbrev aW16(i:Int):AV:=.v (.int .u16 i)
def pickV(l:List Int)(k:Nat)(n:Int):Int:=if l.length<k+1 then 0 else(l.getD k 0).tmod n
theorem pick_of{S:Store}{aid lid ta tl k:Nat}{l:List Int}{n:Int}{Q:AEnd→Store→Prop}(h1:S.obj aid=some (.cells ta [[aI k]] true))(h2:S.obj lid=some (.cells tl [[aL aW16 l]] true))(hne:lid≠aid)
    (hl:∀ x∈l,0≤x∧x<65536) (hn:0<n) (hk:k≤1000000)
    (K:∀ S',S'.n=S.n→S'.obj aid=some (.cells ta [[aI (k+1:Nat)]] true)→(∀ x,x≠aid→S'.obj x=S.obj x)→Q (.ret (aI (pickV l k n))) S'):ACalls Pg 19 [aI n,.p aid 0 0,.p lid 0 0] S Q:=by
 refine calls19 ?_
 unfold m19
 have hadd:∀ K:AV→Store→Prop,∀ S,bin .add 0 (.v (.int .i64 (k:Int))) (.v (.int .i64 1)) S K=K (aI (k+1:Nat)) S:=fun K S=>bin_add (by omega) (by omega) 0
 rw[ld1_p h1 rfl rfl,hadd]
 refine st_of h1 rfl rfl fun S1 n1 o1 f1=>?_
 have p1:=(f1 lid hne).trans h2
 rw[ld1_p o1 rfl rfl,ld1_p p1 rfl rfl,lenS_aL,bin_gtr,onB_v]
 refine gd_of (fun h=>?_) (fun h=>?_)
 ·have h:=dT h
  have:=K S1 n1 o1 f1
  rw[pickV,if_pos (by omega)]at this
  exact this
 ·have h:=dF h
  have hlt:k<l.length:=by omega
  have hx:=hl _ (List.getElem_mem hlt)
  have hsub:∀ K:AV→Store→Prop,∀ S,bin .sub 0 (.v (.int .i64 ((k+1:Nat):Int))) (.v (.int .i64 1)) S K=K (aI k) S:=fun K S=>(bin_sub (by omega) (by omega) 0).trans (by rw[show((k+1:Nat):Int) - 1=k by omega])
  rw[ld1_p p1 rfl rfl,ld1_p o1 rfl rfl,hsub,ixS_aL hlt,ld1_q,convI_64 _ (by omega) (by omega),bin_rem (by omega)]
  have:=K S1 n1 o1 f1
  rw[pickV,if_neg (by omega),show l.getD k 0=l[k]by simp[List.getD_eq_getElem?_getD,hlt]]at this
  exact this
def xr(x y:Int):Int:=IntKind.i64.wrap (BitVec.ofInt 64 x ^^^ BitVec.ofInt 64 y).toNat
theorem bin_xor{a b:Int}{S:Store}{K:AV→Store→Prop}:bin .xor 0 (aI a) (aI b) S K=K (aI (xr a b)) S:=by
 show optP (b2 .xor 0 (.int .i64 a) (.int .i64 b)) _=_
 have:b2 .xor 0 (.int .i64 a) (.int .i64 b)=some (.int .i64 (xr a b)):=rfl
 rw[this,optP_some]
theorem small_and{g:Gr}(hg:g.ok){a b:Int}(ha:i64R a)(hb:i64R b):(g.and a b).1.ok:=by
 have h0:(⟨0,[]⟩:Gr).ok:=⟨⟨by decide,by decide⟩,by simp,fun p hp=>by simp at hp⟩
 unfold Gr.and
 split
 ·exact h0
 ·rename_i h1
  have hr:g.right=true:=by
   cases e:g.right with
   |true=>rfl
   |false=>exact absurd (by rw[e];rfl) h1
  unfold andT
  have hx:i64R (if b > a then b else a):=by split<;>assumption
  have hy:i64R (if b<a then b else a):=by split<;>assumption
  generalize(if b > a then b else a)=x at *
  generalize(if b<a then b else a)=y at *
  repeat' split
  all_goals first|exact hg|exact h0|skip
  obtain⟨_,_,r3,_⟩:=right_iff.1 hr
  refine⟨hg.inp,by simp;omega,fun p hp=>?_⟩
  rcases List.mem_append.1 hp with hp|hp
  ·exact hg.pairs p hp
  ·have:p=(x,y):=by simpa using hp
   subst this
   exact⟨hx,hy⟩
def madeS(g:Gr)(last:Int)(s:Int):Gr × Int:=
 let many:=2*g.vars
 let r:=g.and (s.tmod many) ((s.tdiv many).tmod many)
 if r.2.2=0 then(r.1,xr r.2.1 ((s.tdiv 7).tmod 2))else(g,last)
def madeTo(n:Int)(l:List Int):Nat→Gr × Int
 |0=>(⟨n,[]⟩,1)
 |i+1=>madeS (madeTo n l i).1 (madeTo n l i).2 (l.getD i 0)
theorem and_inp{g:Gr}{a b:Int}(h:(g.and a b).2.2=0):(g.and a b).1.inputs=g.inputs:=by
 revert h
 unfold Gr.and
 split
 ·intro h;cases h
 ·unfold andT
  generalize(if b > a then b else a)=x
  generalize(if b<a then b else a)=y
  repeat' split
  all_goals first|(intro _;rfl)|(intro h;cases h)
theorem madeTo_inp(n:Int)(l:List Int):∀ i,(madeTo n l i).1.inputs=n
 |0=>rfl
 |i+1=>by
  have ih:=madeTo_inp n l i
  simp only[madeTo,madeS]
  split
  ·rename_i h
   rw[and_inp h,ih]
  ·exact ih
theorem rem_small{a b:Int}(h0:0≤a)(h1:a≤65536)(hb:0<b):0≤a.tmod b∧a.tmod b≤65536:=by
 rw[Int.tmod_eq_emod_of_nonneg h0]
 have h2:=Int.emod_nonneg a (show b≠0 by omega)
 have h3:a % b≤a:=by
  have h4:=Int.mul_ediv_add_emod a b
  have h5:0≤b*(a / b):=Int.mul_nonneg (by omega) (Int.ediv_nonneg h0 (by omega))
  omega
 omega
theorem madeTo_ok{n:Int}(hn:i64R n){l:List Int}(hl:∀ x∈l,0≤x∧x<65536)(h0:0≤n):∀ i,(madeTo n l i).1.ok
 |0=>⟨hn,by simp[madeTo],fun p hp=>by simp[madeTo]at hp⟩
 |i+1=>by
  have ih:=madeTo_ok hn hl h0 i
  have hv:0<2*(madeTo n l i).1.vars:=by
   have:=madeTo_inp n l i
   unfold Gr.vars
   omega
  have hx:0≤l.getD i 0∧l.getD i 0≤65536:=by
   rw[List.getD_eq_getElem?_getD]
   rcases Nat.lt_or_ge i l.length with h|h
   ·rw[List.getElem?_eq_getElem h]
    have:=hl _ (List.getElem_mem h)
    exact⟨this.1,by show l[i]≤65536;omega⟩
   ·rw[List.getElem?_eq_none h]
    exact⟨by decide,by decide⟩
  have hd:0≤(l.getD i 0).tdiv (2*(madeTo n l i).1.vars)∧(l.getD i 0).tdiv (2*(madeTo n l i).1.vars)≤65536:=by
   rw[Int.tdiv_eq_ediv_of_nonneg hx.1]
   have h1:=Int.ediv_nonneg hx.1 (show 0≤2*(madeTo n l i).1.vars by omega)
   have h2:=Int.ediv_le_self (2*(madeTo n l i).1.vars) hx.1
   omega
  have ha:=rem_small hx.1 hx.2 hv
  have hb:=rem_small hd.1 hd.2 hv
  simp only[madeTo,madeS]
  split
  ·exact small_and ih ⟨by omega,by omega⟩ ⟨by omega,by omega⟩
  ·exact ih
theorem lit_iff{g:Gr}{l:Int}:g.lit l=true↔0≤g.inputs∧g.inputs≤2000∧0≤l∧l / 2<g.vars:=by
 simp only[Gr.lit,Bool.and_eq_true,decide_eq_true_eq]
 constructor
 ·rintro⟨h1,h2,h3,h4⟩
  rw[Int.tdiv_eq_ediv_of_nonneg h3]at h4
  exact⟨h1,h2,h3,h4⟩
 ·rintro⟨h1,h2,h3,h4⟩
  rw[Int.tdiv_eq_ediv_of_nonneg h3]
  exact⟨h1,h2,h3,h4⟩
theorem and_right{g:Gr}(h:g.right=true){a b:Int}(e:(g.and a b).2.2=0):
    (g.and a b).1.right=true∧(g.and a b).1.lit (g.and a b).2.1=true∧(g.and a b).1.vars≤g.vars+1∧g.vars≤(g.and a b).1.vars∧(g.and a b).1.inputs=g.inputs:=by
 have hin:=and_inp e
 obtain⟨r1,r2,r3,r4,r5,r6⟩:=right_iff.1 h
 have hv:g.vars=g.inputs+1+g.ands.length:=rfl
 revert e
 unfold Gr.and
 split
 ·intro e;cases e
 ·rename_i hl
  have hl:(g.right && (g.lit a && g.lit b))=true:=by simpa using hl
  simp only[Bool.and_eq_true]at hl
  obtain⟨_,la,lb⟩:=hl
  have lx:g.lit (if b > a then b else a)=true:=by split<;>assumption
  have ly:g.lit (if b<a then b else a)=true:=by split<;>assumption
  have hxy:(if b<a then b else a)≤(if b > a then b else a):=by split<;>split<;>omega
  generalize(if b > a then b else a)=x at *
  generalize(if b<a then b else a)=y at *
  obtain⟨_,_,x0,x1⟩:=lit_iff.1 lx
  obtain⟨_,_,y0,y1⟩:=lit_iff.1 ly
  unfold andT
  split
  ·intro _;exact⟨h,lit_iff.2 ⟨r1,r2,Int.le_refl _,by show(0:Int) / 2<g.vars;omega⟩,by show g.vars≤_;omega,Int.le_refl _,rfl⟩
  rename_i hy0
  split
  ·intro _;exact⟨h,lit_iff.2 ⟨r1,r2,Int.le_refl _,by show(0:Int) / 2<g.vars;omega⟩,by show g.vars≤_;omega,Int.le_refl _,rfl⟩
  rename_i hd
  split
  ·intro _;exact⟨h,lx,by show g.vars≤_;omega,Int.le_refl _,rfl⟩
  rename_i hy1
  split
  ·intro _;exact⟨h,lx,by show g.vars≤_;omega,Int.le_refl _,rfl⟩
  rename_i hne
  rw[Int.tdiv_eq_ediv_of_nonneg x0,Int.tdiv_eq_ediv_of_nonneg y0]at hd
  split
  ·rename_i i hi
   obtain⟨hi,_,_⟩:=List.findIdx?_eq_some_iff_getElem.1 hi
   intro _
   exact⟨h,lit_iff.2 ⟨r1,r2,by show 0≤2*(g.inputs+1+(i:Int));omega,by show 2*(g.inputs+1+(i:Int)) / 2<g.vars;omega⟩,by show g.vars≤_;omega,Int.le_refl _,rfl⟩
  ·rename_i hi
   split
   ·intro e;cases e
   ·rename_i hbig
    intro _
    have hv':(⟨g.inputs,g.ands ++ [(x,y)]⟩:Gr).vars=g.vars+1:=by simp[Gr.vars];omega
    refine⟨right_iff.2 ⟨r1,r2,by simp;omega,by rw[hv'];omega,fun j hj=>?_,?_⟩,lit_iff.2 ⟨r1,r2,by show 0≤2*(g.vars+1) - 2;omega,by rw[hv'];show(2*(g.vars+1) - 2) / 2<_;omega⟩,by rw[hv'];omega,by rw[hv'];omega,rfl⟩
    ·rcases Nat.lt_or_ge j g.ands.length with hj'|hj'
     ·have:=r5 j hj'
      simpa[List.getD_eq_getElem?_getD,List.getElem?_append_left hj']using this
     ·have hj2:j=g.ands.length:=by simp at hj;omega
      subst hj2
      have:(g.ands ++ [(x,y)]).getD g.ands.length (0,0)=(x,y):=by simp[List.getD_eq_getElem?_getD]
      show may ((g.ands ++ [(x,y)]).getD g.ands.length (0,0)) _=true
      rw[this]
      simp only[may,Bool.and_eq_true,decide_eq_true_eq]
      rw[Int.tdiv_eq_ediv_of_nonneg x0,Int.tdiv_eq_ediv_of_nonneg y0]
      refine⟨by omega,?_,?_⟩
      ·have:x / 2≠y / 2:=fun q=>hd ⟨q,hne⟩
       omega
      ·show x / 2<g.inputs+1+(g.ands.length:Int);omega
    ·show(g.ands ++ [(x,y)]).Nodup
     rw[List.nodup_append]
     refine⟨r6,by simp,fun p hp q hq=>?_⟩
     have:q=(x,y):=by simpa using hq
     subst this
     rintro rfl
     have:=List.findIdx?_eq_none_iff.1 hi _ hp
     simp at this
theorem xr_nat(a b:Nat)(ha:a<2 ^ 62)(hb:b<2 ^ 62):xr (a:Int) (b:Int)=((a ^^^ b:Nat):Int):=by
 have h1:a ^^^ b<2 ^ 62:=Nat.xor_lt_two_pow ha hb
 have hp:(2:Nat) ^ 62=4611686018427387904:=by decide
 unfold xr
 have e:(BitVec.ofInt 64 (a:Int) ^^^ BitVec.ofInt 64 (b:Int)).toNat=a ^^^ b:=by
  rw[BitVec.toNat_xor,BitVec.ofInt_natCast,BitVec.ofInt_natCast,BitVec.toNat_ofNat,BitVec.toNat_ofNat,Nat.mod_eq_of_lt (by omega),Nat.mod_eq_of_lt (by omega)]
 rw[e,wrap64 (by omega) (by omega)]
theorem xr_half{a b:Int}(h0:0≤a)(h1:a≤1000000)(hb:b=0∨b=1):0≤xr a b∧xr a b / 2=a / 2∧xr a b≤1000001:=by
 obtain⟨n,rfl⟩:=Int.eq_ofNat_of_zero_le h0
 obtain⟨m,rfl,hm⟩:∃ m:Nat,b=(m:Int)∧m<2:=by rcases hb with rfl|rfl;exact⟨0,rfl,by decide⟩;exact⟨1,rfl,by decide⟩
 have hp:(2:Nat) ^ 62=4611686018427387904:=by decide
 rw[xr_nat n m (by omega) (by omega)]
 have:(n ^^^ m) / 2=n / 2:=by
  rw[Nat.xor_div_two,show m / 2=0 by omega,Nat.xor_zero]
 omega
theorem madeTo_right{n:Int}(h0:0≤n)(hn:n≤100){l:List Int}(hl:∀ x∈l,0≤x∧x<65536):∀ i,i≤40→(madeTo n l i).1.right=true∧(madeTo n l i).1.lit (madeTo n l i).2=true∧n+1≤(madeTo n l i).1.vars∧(madeTo n l i).1.vars≤n+1+i
 |0,_=>by
  refine⟨right_iff.2 ⟨h0,by show n≤2000;omega,by show((0:Nat):Int)≤2000;decide,by show n+1+0≤2000;omega,fun j hj=>by simp[madeTo]at hj,by simp[madeTo]⟩,lit_iff.2 ⟨h0,by show n≤2000;omega,by show(0:Int)≤1;decide,by show(1:Int) / 2<n+1+0;omega⟩,by show _≤n+1+0;omega,by show n+1+0≤_;omega⟩
 |i+1,hi=>by
  obtain⟨h1,h2,h3,h4⟩:=madeTo_right h0 hn hl i (by omega)
  have hx:0≤l.getD i 0:=by
   rw[List.getD_eq_getElem?_getD]
   rcases Nat.lt_or_ge i l.length with h|h
   ·rw[List.getElem?_eq_getElem h]
    exact(hl _ (List.getElem_mem h)).1
   ·rw[List.getElem?_eq_none h]
    exact Int.le_refl 0
  simp only[madeTo,madeS]
  split
  ·rename_i he
   obtain⟨k1,k2,k3,k4,k5⟩:=and_right h1 he
   generalize(madeTo n l i).1.and ((l.getD i 0).tmod (2*(madeTo n l i).1.vars)) (((l.getD i 0).tdiv (2*(madeTo n l i).1.vars)).tmod (2*(madeTo n l i).1.vars))=r at *
   obtain⟨l1,l2,l3,l4⟩:=lit_iff.1 k2
   have hb:((l.getD i 0).tdiv 7).tmod 2=0∨((l.getD i 0).tdiv 7).tmod 2=1:=by
    rw[Int.tdiv_eq_ediv_of_nonneg hx,Int.tmod_eq_emod_of_nonneg (by omega)]
    omega
   obtain⟨q1,q2,_⟩:=xr_half (a:=r.2.1) l3 (by omega) hb
   exact⟨k1,lit_iff.2 ⟨l1,l2,q1,by rw[q2];exact l4⟩,by show _≤r.1.vars;omega,by show r.1.vars≤_;omega⟩
  ·exact⟨h1,h2,h3,by show(madeTo n l i).1.vars≤_;omega⟩
structure MadeC (c:Ci):Prop where
 ok:c.ok
 right:c.right=true
 inp:0≤c.inputs∧c.inputs≤3
 lats:1≤c.latches.length∧c.latches.length≤3
 ands:c.ands.length≤8
 outs:c.outs.length≤2
 bads:c.bads.length≤1
 cons:c.cons.length≤1
 fair:c.fair.length≤1
 names:∃(b1 b2:Bool) (t:ByteArray),c.names=(if b1 then[⟨108,0,⟨#[113]⟩⟩]else[])++(if b2 then[⟨111,c.outs.length - 1,t⟩]else[])∧(b2=true→0<c.outs.length∧(t=⟨#[111,117,116]⟩∨t=⟨#[108,49]⟩∨t=⟨#[97,45,98]⟩))
section
set_option maxRecDepth 100000
def c20:Code:=(Tryz.f20.body).getD .skip
def r20:List ResultVar:=Tryz.f20.results.toList
def env20_0(y1 y4 y6 y7 y8:AV):List AV:=[y1,y4,y6,y7,y8]
def lv20_0:List Nat:=[1,4,6,7,8]
def ms20:List (List Nat):=[lv20_0,[]]
def m20(x0 x1:AV)(S:Store)(Q:PoT):Prop:=
 boxN 48 2 (.a [.v (.int .i64 0),.nl]) S fun c S=>bld [(0,1),(1,1)] [.v (.int .i64 0),.nl] [(0,x0)] S fun d S=>boxN 48 2 (.a [.v (.int .i64 0),.nl]) S fun e S=>stN 2 e d S fun f S=>loopV lv20_0 (vc Pg (c20.at_ [1,1,1,0,1,0,0]) (ms20.drop 1)) 68 (env20_0 x1 c e (.v (.int .i64 1)) (.v (.int .i64 0))) S (blockK 0 (seqK (vc Pg (c20.at_ [1,1,1,1]) (ms20.drop 1)) (bodyK Pg r20 Q)))
theorem calls20{x0 x1:AV}{S:Store}{Q:PoT}(h:m20 x0 x1 S Q):ACalls Pg 20 [x0,x1] S Q:=
 calls_of_vc (fn:=Tryz.f20) (c:=c20) (n:=68) Tryz.func20 (by kernel_rfl) (by kernel_rfl) (by kernel_rfl) ms20 (Eq.mpr (by kernel_rfl) h)
def b20_0(y1 y4 y6 y7 y8:AV)(S:Store)(KE0:KeT)(Q:PoT):Prop:=
 lenS y1 S fun c S=>bin .lss 0 y8 c S fun d S=>onB d fun b=>gd b (bin .lss 0 y8 (.v (.int .i64 40)) S fun e S=>onB e fun b=>gd b (ldN 2 y6 S fun f S=>callF Pg 11 [f] S Q fun g S=>bin .mul 0 (.v (.int .i64 2)) g S fun h S=>(fun S0:Store=>∃ i:AV,(ixS 60 1 y1 y8 S fun k S=>k=i∧S=S0)∧∃ l:AV,(ld1 i S fun m S=>m=l∧S=S0)∧∃ n:AV,(convI .i64 l S fun o S=>o=n∧S=S0)∧∃ p:AV,(bin .rem 0 n h S fun q S=>q=p∧S=S0)∧∃ r:AV,(ixS 60 1 y1 y8 S fun s S=>s=r∧S=S0)∧∃ u:AV,(ld1 r S fun w S=>w=u∧S=S0)∧∃ x:AV,(convI .i64 u S fun y S=>y=x∧S=S0)∧∃ z:AV,(bin .quo 0 x h S fun A S=>A=z∧S=S0)∧∃ B:AV,(bin .rem 0 z h S fun C S=>C=B∧S=S0)∧ldN 2 y6 S fun D S=>callF Pg 36 [D,p,B] S Q fun E S=>extr E 0 S fun F S=>extr E 1 S fun G S=>extr E 2 S fun H S=>boxN 48 2 (.a [.v (.int .i64 0),.nl]) S fun I S=>stN 2 I F S fun J S=>bin .eql 0 H (.v (.int .i64 0)) S fun K S=>onB K fun b=>gd b (∃ L:AV,(∀ T:Store,Keep S T→ldN 2 I T fun M S=>M=L∧S=T)∧∃ N:AV,(∀ T:Store,Keep S T→ixS 60 1 y1 y8 T fun O S=>O=N∧S=T)∧∃ P:AV,(∀ T:Store,Keep S T→ld1 N T fun R S=>R=P∧S=T)∧∃ U:AV,(∀ T:Store,Keep S T→convI .i64 P T fun V S=>V=U∧S=T)∧∃ W:AV,(∀ T:Store,Keep S T→bin .quo 0 U (.v (.int .i64 7)) T fun X S=>X=W∧S=T)∧∃ Y:AV,(∀ T:Store,Keep S T→bin .rem 0 W (.v (.int .i64 2)) T fun Z S=>Z=Y∧S=T)∧∃ a0:AV,(∀ T:Store,Keep S T→bin .xor 0 G Y T fun a1 S=>a1=a0∧S=T)∧stN 2 y6 L S fun a2 S=>(∀ T:Store,Keep S T→bin .xor 0 G Y T fun a3 S=>a3=a0∧S=T)∧(∀ T:Store,Keep S T→bin .rem 0 W (.v (.int .i64 2)) T fun a4 S=>a4=Y∧S=T)∧(∀ T:Store,Keep S T→bin .quo 0 U (.v (.int .i64 7)) T fun a5 S=>a5=W∧S=T)∧(∀ T:Store,Keep S T→convI .i64 P T fun a6 S=>a6=U∧S=T)∧(∀ T:Store,Keep S T→ld1 N T fun a7 S=>a7=P∧S=T)∧(∀ T:Store,Keep S T→ixS 60 1 y1 y8 T fun a8 S=>a8=N∧S=T)∧bin .add 0 y8 (.v (.int .i64 1)) S fun a9 S=>KE0 68 (env20_0 y1 y4 y6 a0 a9) S) (bin .add 0 y8 (.v (.int .i64 1)) S fun b0 S=>KE0 68 (env20_0 y1 y4 y6 y7 b0) S)) S) (ldN 2 y6 S fun b1 S=>stN 2 y4 b1 S fun b2 S=>ldN 2 y4 S fun b3 _=>Q (.ret (.t [b3,y7])) S)) (ldN 2 y6 S fun b4 S=>stN 2 y4 b4 S fun b5 S=>ldN 2 y4 S fun b6 _=>Q (.ret (.t [b6,y7])) S)
theorem b20_0_eq(y1 y4 y6 y7 y8:AV)(S:Store)(KE0:KeT)(Q:PoT):vc Pg (c20.at_ [1,1,1,0,1,0,0]) (ms20.drop 1) (mkE 68 lv20_0 (env20_0 y1 y4 y6 y7 y8)) S (thenK (fgK lv20_0 KE0) (blockK 0 (seqK (vc Pg (c20.at_ [1,1,1,1]) (ms20.drop 1)) (bodyK Pg r20 Q))))=b20_0 y1 y4 y6 y7 y8 S KE0 Q:=by kernel_rfl
theorem loop20_0{y1 y4 y6:AV}{y70 y80:AV}{S:Store}{Q:PoT}(I:AV→AV→Store→Prop)(μ:AV→AV→Store→Nat)(h0:I y70 y80 S)
    (hr:∀(y7 y8:AV) (S:Store),I y7 y8 S→∀ KE0:KeT,(∀(y7' y8':AV) (S':Store),I y7' y8' S'→μ y7' y8' S'<μ y7 y8 S→KE0 68 (env20_0 y1 y4 y6 y7' y8') S')→b20_0 y1 y4 y6 y7 y8 S KE0 Q):
    loopV lv20_0 (vc Pg (c20.at_ [1,1,1,0,1,0,0]) (ms20.drop 1)) 68 (env20_0 y1 y4 y6 y70 y80) S (blockK 0 (seqK (vc Pg (c20.at_ [1,1,1,1]) (ms20.drop 1)) (bodyK Pg r20 Q))):=by
 refine⟨fun n e S=>n=68∧∃ y7 y8:AV,e=(env20_0 y1 y4 y6 y7 y8)∧I y7 y8 S,fun _ e S=>μ (e.getD 3 .j) (e.getD 4 .j) S,?_,?_⟩
 ·exact⟨_,_,Wk.refl _ _,rfl,_,_,rfl,h0⟩
 ·rintro _ e S ⟨rfl,y7,y8,rfl,hI⟩
  exact(b20_0_eq _ _ _ _ _ _ _ _).mpr (hr y7 y8 S hI _ (fun y7' y8' S' hI' hm=>⟨_,_,Wk.refl _ _,⟨rfl,_,_,rfl,hI'⟩,hm⟩))
end
theorem frz_none(S:Store):S.frz (fun _=>false)=S:=by
 cases S with
 |mk n obj =>
  unfold Store.frz
  congr 1
  funext i
  cases h:obj i with
  |none=>simp[h]
  |some o=>simp[h,frz_id]
theorem ansAt_cv{P:Program}{f:FuncId}{args args2:List AV}{S:Store}{r:AV}(hl:args.length=args2.length)(hcv:∀(k:Nat) (u u2:AV),args[k]? = some u→args2[k]? = some u2→Cv S S.n u u2)(h:AnsAt P f args2 S r):AnsAt P f args S r:=by
 refine ACalls.frz (fun _=>false) hl ?_ ?_
 ·rw[frz_none];exact hcv
 ·rw[frz_none];exact h
theorem at20{n:Int}(h0:0≤n)(hn:n≤1000){l:List Int}(hl:∀ x∈l,0≤x∧x<65536)(hlen:l.length≤1000000){S:Store}{x1:AV}(hx1:∀(T:Store) (K:AV→Store→Prop),lenS x1 T K=K (aI l.length) T)
    {P:Nat→AV} (hP:∀ T,Keep S T→∀ i (h:i<l.length),(∀ K:AV→Store→Prop,ixS 60 1 x1 (aI i) T K=K (P i) T)∧∀ K:AV→Store→Prop,ld1 (P i) T K=K (aW16 l[i]) T):
    AnsAt Pg 20 [aI n,x1] S (.t [(madeTo n l (min l.length 40)).1.av,aI (madeTo n l (min l.length 40)).2]):=by
 refine ACalls.tree (calls20 ?_)
 unfold m20
 have hok:=madeTo_ok (n:=n) ⟨by omega,by omega⟩ hl h0
 have hin:=madeTo_inp n l
 refine boxA_of rfl fun S1 k1 n1 o1=>?_
 rw[bld_of (cs:=[aI n,.nl]) rfl]
 refine boxA_of rfl fun S2 k2 n2 o2=>?_
 refine stA_of o2 rfl rfl fun S3 n3 o3 f3=>?_
 have k3:Keep S S3:=(k1.trans k2).st (by omega) n3 f3
 refine loop20_0 (fun y w S'=>Keep S S'∧S3.n≤S'.n∧S'.obj S.n=some (.cells 48 [[aI 0,.nl]] true)∧∃ i:Nat,w=aI i∧i≤min l.length 40∧y=aI (madeTo n l i).2∧
     (((madeTo n l i).1=⟨n,[]⟩∧S'.obj S1.n=some (.cells 48 [[aI n,.nl]] true))∨S'.obj S1.n=some (.cells 48 [(madeTo n l i).1.cells] true)))
  (fun _ w _=>40 - ((intA w).getD 0).toNat) ⟨k3,Nat.le_refl _,(f3 _ (by omega)).trans ((k2.2 _ (by omega)).trans o1),0,rfl,Nat.zero_le _,rfl,.inl ⟨rfl,o3⟩⟩ ?_
 rintro _ _ S4 ⟨k4,n4,p4,i,rfl,hi,rfl,hg⟩ KE hKE
 have hk3:=k3.1
 obtain⟨cs,hcs,hcl,hcv⟩:∃ cs,S4.obj S1.n=some (.cells 48 [cs] true)∧cs.length=2∧∀(T:Store) (m:Nat),Cv T m (.a cs) (madeTo n l i).1.av:=by
  rcases hg with⟨e,h⟩|h
  ·exact⟨_,h,rfl,fun T m=>by rw[e];exact cv_a2 (.v _) .nl⟩
  ·exact⟨_,h,rfl,fun T m=>Gr.tree _ _ _⟩
 have hgi:=hin i
 have hgo:=hok i
 have hlen2:=hgo.len
 have fin:i=min l.length 40→ldN 2 (.p S1.n 0 0) S4 fun v S5=>stN 2 (.p S.n 0 0) v S5 fun _ S5=>ldN 2 (.p S.n 0 0) S5 fun v S6=>∃ r,AEnd.ret (.t [v,aI (madeTo n l i).2]) = .ret r∧Keep S S6∧Cv (S6.frz (newer S.n)) S.n r (.t [(madeTo n l (min l.length 40)).1.av,aI (madeTo n l (min l.length 40)).2]):=fun e=>by
  rw[ldN_p (n:=2) hcs hcl]
  refine stA_of p4 hcl rfl fun S5 n5 o5 f5=>?_
  rw[ldN_p (n:=2) o5 hcl]
  exact⟨_,rfl,k4.st (Nat.le_refl _) n5 f5,by rw[←e];exact cv_t2 (hcv _ _) (.v _)⟩
 unfold b20_0
 rw[hx1,bin_lss,onB_v]
 refine gd_of (fun hlt=>?_) (fun hge=>fin (by have:=dF hge;omega))
 rw[bin_lss,onB_v]
 refine gd_of (fun h40=>?_) (fun hge=>fin (by have:¬ ((i:Int)<40):=dF hge;omega))
 have hlt:i<l.length:=by have:=dT hlt;omega
 have h40:i<40:=by have:((i:Int)<40):=dT h40;omega
 obtain⟨hP1,hP2⟩:=hP S4 k4 i hlt
 have hx:=hl _ (List.getElem_mem hlt)
 have hgd:l.getD i 0=l[i]:=by simp[List.getD_eq_getElem?_getD,hlt]
 have hv:0<2*(madeTo n l i).1.vars:=by unfold Gr.vars;omega
 have hv2:(madeTo n l i).1.vars≤1002000:=by unfold Gr.vars;omega
 have hd:0≤l[i].tdiv (2*(madeTo n l i).1.vars)∧l[i].tdiv (2*(madeTo n l i).1.vars)≤65536:=by
  rw[Int.tdiv_eq_ediv_of_nonneg hx.1]
  have h1:=Int.ediv_nonneg hx.1 (show 0≤2*(madeTo n l i).1.vars by omega)
  have h2:=Int.ediv_le_self (2*(madeTo n l i).1.vars) hx.1
  omega
 have ha:=rem_small hx.1 (by omega) hv
 have hb:=rem_small hd.1 hd.2 hv
 have cv1:∀(T:Store) (k:Nat) (u u2:AV),[AV.a cs][k]? = some u→[(madeTo n l i).1.av][k]? = some u2→Cv T T.n u u2:=fun T k u u2 hu hu2=>by
  match k with
  |0=>cases hu;cases hu2;exact hcv _ _
  |k+1=>simp at hu
 rw[ldN_p (n:=2) hcs hcl]
 have hva:AnsAt Pg 11 [.a cs] S4 (aI (madeTo n l i).1.vars):=ansAt_cv (args2:=[(madeTo n l i).1.av]) rfl (cv1 S4) (ans11 hgo (by omega) (by omega) S4)
 refine callF_at hva ?_
 rw[bin_mul (by omega) (by omega)]
 show ∃ q13:AV,_
 refine⟨_,by rw[hP1];exact⟨rfl,rfl⟩,?_⟩
 refine⟨_,by rw[hP2];exact⟨rfl,rfl⟩,?_⟩
 refine⟨aI l[i],by rw[convI_64 _ (by omega) (by omega)];exact⟨rfl,rfl⟩,?_⟩
 refine⟨aI (l[i].tmod (2*(madeTo n l i).1.vars)),by rw[bin_rem (by omega)];exact⟨rfl,rfl⟩,?_⟩
 refine⟨_,by rw[hP1];exact⟨rfl,rfl⟩,?_⟩
 refine⟨_,by rw[hP2];exact⟨rfl,rfl⟩,?_⟩
 refine⟨aI l[i],by rw[convI_64 _ (by omega) (by omega)];exact⟨rfl,rfl⟩,?_⟩
 refine⟨aI (l[i].tdiv (2*(madeTo n l i).1.vars)),by rw[bin_quo (by omega) (by omega) (by omega)];exact⟨rfl,rfl⟩,?_⟩
 refine⟨aI ((l[i].tdiv (2*(madeTo n l i).1.vars)).tmod (2*(madeTo n l i).1.vars)),by rw[bin_rem (by omega)];exact⟨rfl,rfl⟩,?_⟩
 have hand:AnsAt Pg 36 [.a cs,aI (l[i].tmod (2*(madeTo n l i).1.vars)),aI ((l[i].tdiv (2*(madeTo n l i).1.vars)).tmod (2*(madeTo n l i).1.vars))] S4 (andAV ((madeTo n l i).1.and (l[i].tmod (2*(madeTo n l i).1.vars)) ((l[i].tdiv (2*(madeTo n l i).1.vars)).tmod (2*(madeTo n l i).1.vars)))):=
  ansAt_cv (args2:=[(madeTo n l i).1.av,aI (l[i].tmod (2*(madeTo n l i).1.vars)),aI ((l[i].tdiv (2*(madeTo n l i).1.vars)).tmod (2*(madeTo n l i).1.vars))]) rfl (fun k u u2 hu hu2=>by
   match k with
   |0=>cases hu;cases hu2;exact hcv _ _
   |1|2=>cases hu;cases hu2;exact .v _
   |k+3=>simp at hu) (ans36 hgo ⟨by omega,by omega⟩ ⟨by omega,by omega⟩ S4)
 rw[ldN_p (n:=2) hcs hcl]
 refine callF_at hand ?_
 have hs:madeTo n l (i+1)=madeS (madeTo n l i).1 (madeTo n l i).2 l[i]:=by rw[madeTo,hgd]
 simp only[madeS]at hs
 generalize(madeTo n l i).1.and (l[i].tmod (2*(madeTo n l i).1.vars)) ((l[i].tdiv (2*(madeTo n l i).1.vars)).tmod (2*(madeTo n l i).1.vars))=r at *
 unfold andAV
 rw[extr0,extr1,extr2]
 refine boxA_of rfl fun S5 k5 n5 o5=>?_
 refine stA_of o5 rfl rfl fun S6 n6 o6 f6=>?_
 have k6:Keep S4 S6:=k5.st (Nat.le_refl _) n6 f6
 have p6:=(k6.2 _ (by omega)).trans p4
 have c6:=(k6.2 S1.n (by omega)).trans hcs
 have hadd:∀ K:AV→Store→Prop,∀ S,bin .add 0 (.v (.int .i64 (i:Int))) (.v (.int .i64 1)) S K=K (aI (i+1:Nat)) S:=fun K S=>bin_add (by omega) (by omega) 0
 have hμ:40 - ((intA (aI (i+1:Nat))).getD 0).toNat<40 - ((intA (aI i)).getD 0).toNat:=by simp[intA];omega
 rw[bin_eql,onB_v]
 refine gd_of (fun h=>?_) (fun h=>?_)
 ·have h:r.2.2=0:=dT h
  simp only[h,if_true]at hs
  have qq:0≤l[i].tdiv 7∧l[i].tdiv 7≤65536:=by
   rw[Int.tdiv_eq_ediv_of_nonneg hx.1];omega
  have e1:∀(T:Store) (K:AV→Store→Prop),convI .i64 (aW16 l[i]) T K=K (aI l[i]) T:=fun T K=>convI_64 _ (by omega) (by omega)
  have e2:∀(T:Store) (K:AV→Store→Prop),bin .quo 0 (aI l[i]) (.v (.int .i64 7)) T K=K (aI (l[i].tdiv 7)) T:=fun T K=>bin_quo (by decide) (by omega) (by omega) 0
  have e3:∀(T:Store) (K:AV→Store→Prop),bin .rem 0 (aI (l[i].tdiv 7)) (.v (.int .i64 2)) T K=K (aI ((l[i].tdiv 7).tmod 2)) T:=fun T K=>bin_rem (by decide) _ 0
  have pT:∀{T:Store},Keep S T→_:=fun{T} hT=>hP T hT i hlt
  refine⟨.a r.1.cells,fun T hT=>by rw[ldN_p (n:=2) ((hT.2 _ (by omega)).trans o6) rfl];exact⟨rfl,rfl⟩,P i,fun T hT=>by rw[(pT ((k4.trans k6).trans hT)).1];exact⟨rfl,rfl⟩,_,fun T hT=>by rw[(pT ((k4.trans k6).trans hT)).2];exact⟨rfl,rfl⟩,_,fun T hT=>by rw[e1];exact⟨rfl,rfl⟩,_,fun T hT=>by rw[e2];exact⟨rfl,rfl⟩,_,fun T hT=>by rw[e3];exact⟨rfl,rfl⟩,_,fun T hT=>by rw[bin_xor];exact⟨rfl,rfl⟩,?_⟩
  refine stA_of c6 rfl hcl fun S7 n7 o7 f7=>?_
  have k7:Keep S S7:=(k4.trans k6).st (by omega) n7 f7
  refine⟨fun T hT=>by rw[bin_xor];exact⟨rfl,rfl⟩,fun T hT=>by rw[e3];exact⟨rfl,rfl⟩,fun T hT=>by rw[e2];exact⟨rfl,rfl⟩,fun T hT=>by rw[e1];exact⟨rfl,rfl⟩,fun T hT=>by rw[(pT (k7.trans hT)).2];exact⟨rfl,rfl⟩,fun T hT=>by rw[(pT (k7.trans hT)).1];exact⟨rfl,rfl⟩,?_⟩
  rw[hadd]
  exact hKE _ _ _ ⟨k7,by have:=k6.1;omega,(f7 _ (by omega)).trans p6,i+1,rfl,by omega,by rw[hs],.inr (by rw[hs];exact o7)⟩ hμ
 ·have h:¬ r.2.2=0:=dF h
  simp only[h,if_false]at hs
  rw[hadd]
  refine hKE _ _ _ ⟨k4.trans k6,by have:=k6.1;omega,p6,i+1,rfl,by omega,by rw[hs],?_⟩ hμ
  rcases hg with⟨e,h'⟩|h'
  ·exact .inl ⟨by rw[hs];exact e,(k6.2 S1.n (by omega)).trans h'⟩
  ·exact .inr (by rw[hs];exact(k6.2 S1.n (by omega)).trans h')
theorem pickV_rng{l:List Int}(hl:∀ x∈l,0≤x∧x<65536){k:Nat}{n:Int}(hn:0<n):0≤pickV l k n∧pickV l k n<n:=by
 unfold pickV
 split
 ·omega
 ·rename_i h
  have hlt:k<l.length:=by omega
  have hx:=hl _ (List.getElem_mem hlt)
  rw[show l.getD k 0=l[k]by simp[List.getD_eq_getElem?_getD,hlt],Int.tmod_eq_emod_of_nonneg hx.1]
  exact⟨Int.emod_nonneg _ (by omega),Int.emod_lt_of_pos _ hn⟩
structure Fm (S:Store) (l:List Int) (S':Store) (k:Nat) (cs:List AV):Prop where
 keep:Keep S S'
 n:S.n+4≤S'.n
 lo:S'.obj S.n=some (.cells 22 [[aL aW16 l]] true)
 ro:S'.obj (S.n+1)=some (.cells 29 [[aI 0,.nl,.nl,.nl,.nl,.nl,.nl,.nl]] true)
 ao:S'.obj (S.n+2)=some (.cells 3 [[aI k]] true)
 co:S'.obj (S.n+3)=some (.cells 29 [cs] true)
abbrev pickF(S:Store):AV:=.f (.func 19) [] [.p (S.n+2) 0 0,.p S.n 0 0]
theorem Fm.old{S S' S'':Store}{l:List Int}{k:Nat}{cs:List AV}(h:Fm S l S' k cs)(hn:S'.n≤S''.n)(ho:∀ x,x<S.n+4→S''.obj x=S'.obj x):Fm S l S'' k cs:=
 ⟨⟨by have:=h.keep.1;omega,fun x hx=>(ho x (by omega)).trans (h.keep.2 x hx)⟩,by have:=h.n;omega,(ho _ (by omega)).trans h.lo,(ho _ (by omega)).trans h.ro,(ho _ (by omega)).trans h.ao,(ho _ (by omega)).trans h.co⟩
theorem Fm.pick{S S':Store}{l:List Int}{k:Nat}{cs:List AV}(h:Fm S l S' k cs)(hl:∀ x∈l,0≤x∧x<65536){n:Int}(hn:0<n)(hk:k≤1000){K X:AV→Store→Prop}
    (kk:∀ S'',Fm S l S'' (k+1) cs→S''.n=S'.n→(∀ x,x≠S.n+2→S''.obj x=S'.obj x)→K (aI (pickV l k n)) S''):callV Pg (pickF S) [aI n] S' K X:=by
 refine .inl (pick_of h.ao h.lo (by omega) hl hn (by omega) fun S'' n2 o2 f2=>kk S'' ⟨⟨by have:=h.keep.1;omega,fun x hx=>(f2 x (by omega)).trans (h.keep.2 x hx)⟩,by have:=h.n;omega,(f2 _ (by omega)).trans h.lo,(f2 _ (by omega)).trans h.ro,o2,(f2 _ (by omega)).trans h.co⟩ n2 f2)
theorem Fm.st{S S':Store}{l:List Int}{k j:Nat}{cs:List AV}{u:AV}(h:Fm S l S' k cs)(hj:j<cs.length)(hu:u.one=true){K:AV→Store→Prop}
    (kk:∀ S'',Fm S l S'' k (cs.set j u)→S''.n=S'.n→(∀ x,x≠S.n+3→S''.obj x=S'.obj x)→K .j S''):stN 1 (.p (S.n+3) 0 j) u S' K:=
 stF_of h.co hj hu fun S'' n2 o2 f2=>kk S'' ⟨⟨by have:=h.keep.1;omega,fun x hx=>(f2 x (by omega)).trans (h.keep.2 x hx)⟩,by have:=h.n;omega,(f2 _ (by omega)).trans h.lo,(f2 _ (by omega)).trans h.ro,(f2 _ (by omega)).trans h.ao,o2⟩ n2 f2
theorem Fm.kT{S S' T:Store}{l:List Int}{k:Nat}{cs:List AV}(h:Fm S l S' k cs)(hT:Keep S' T):T.obj (S.n+3)=some (.cells 29 [cs] true):=(hT.2 _ (by have:=h.n;omega)).trans h.co
theorem Fm.wk{S S':Store}{l:List Int}{k:Nat}{cs cs2:List AV}(h:Fm S l S' k cs)(hl:cs.length=cs2.length)(hc:∀(k:Nat) (u u2:AV),cs[k]? = some u→cs2[k]? = some u2→Cv (S'.frz (newer (S.n+4))) S'.n u u2)(ls:List AV):
    ∃ S'',Wk S' ls S'' ls∧Fm S l S'' k cs2∧S''.n=S'.n:=by
 refine⟨_,Wk.row (newer (S.n+4)) h.co (by simp[newer]) (es2:=[cs2]) ⟨rfl,fun i c1 c2 e1 e2=>?_⟩,?_,rfl⟩
 ·match i with
  |0=>cases e1;cases e2;exact⟨hl,hc⟩
  |i+1=>simp at e1
 ·have hlow:∀ x,x<S.n+4→x≠S.n+3→(S'.tell (newer (S.n+4)) (S.n+3) (.cells 29 [cs2] true)).obj x=S'.obj x:=fun x hx hne=>tell_ne hne (by simp[newer];omega)
  exact⟨⟨h.keep.1,fun x hx=>(hlow x (by omega) (by omega)).trans (h.keep.2 x hx)⟩,h.n,(hlow _ (by omega) (by omega)).trans h.lo,(hlow _ (by omega) (by omega)).trans h.ro,(hlow _ (by omega) (by omega)).trans h.ao,tell_id⟩
theorem bsl3{e:Nat}{z u v w:AV}{S:Store}{K:AV→Store→Prop}(hu:u.one=true)(hv:v.one=true)(hw:w.one=true)(k:K (.l [[u],[v],[w]]) S):bslN e 1 3 [z] [(0,u),(1,v),(2,w)] S K:=by
 refine⟨[u,v,w],?_,.inr ?_⟩
 ·simp[fillA,cells_of_one hu,cells_of_one hv,cells_of_one hw,spl,List.range_succ]
 ·simpa[chunks,List.range_succ]using k
theorem bslA3{e:Nat}{z1 z2 z3 u v w:AV}{S:Store}{K:AV→Store→Prop}(k:K (.l [[u,v,w]]) S):bslN e 3 1 [z1,z2,z3] [(0,.a [u,v,w])] S K:=by
 refine⟨[u,v,w],?_,.inr ?_⟩
 ·simp[fillA,cellsOf,spl]
 ·simpa[chunks]using k
theorem own_one{n:Nat}{S:Store}{x:AV}{e:Nat}{es:List (List AV)}(h:Own n S x e es):x.one=true:=by rcases h with⟨rfl,_⟩|⟨id,rfl,_⟩<;>rfl
theorem wrap16{x:Int}(h0:0≤x)(h1:x<65536):IntKind.u16.wrap x=x:=by rw[IntKind.wrap_u16];omega
theorem _root_.Go.Ab.Own.fm{S S' S'':Store}{x:AV}{e:Nat}{es:List (List AV)}{id:Nat}(h:Own (S.n+4) S' x e es)(hid:id<S.n+4)(hn:S''.n=S'.n)(ho:∀ y,y≠id→S''.obj y=S'.obj y):Own (S.n+4) S'' x e es:=
 h.st (id:=id) (fun b m e=>by have:=h.lt e;omega) hn ho
theorem own_cvP{n:Nat}{S:Store}{x:AV}{e:Nat}{l:List (Int × Int)}{F:Nat→Bool}{k:Nat}(h:Own n S x e (l.map fun p=>[aI p.1,aI p.2]))(hF:∀ i b m,x = .s i b m→F i=true):Cv (S.frz F) k x (pL l):=by
 rcases h with⟨rfl,h⟩|⟨id,rfl,h1,h2,h3⟩
 ·have:l = []:=List.map_eq_nil_iff.1 h
  subst this
  exact .nl
 ·refine .s id 0 _ e _ _ (by rw[frz_of h3,hF id _ _ rfl];rfl) (by simp) (by simp) (fun i c c2 hi hi2=>?_) (fun i c c2 k u u2 hi hi2 hk hk2=>?_)
  ·rw[Nat.zero_add]at hi;rw[hi]at hi2;cases hi2;rfl
  ·rw[Nat.zero_add]at hi;rw[hi]at hi2;cases hi2
   rw[hk]at hk2;cases hk2
   rw[List.getElem?_map]at hi
   obtain⟨a,_,rfl⟩:=Option.map_eq_some_iff.1 hi
   match k with
   |0=>cases hk;exact .v _
   |1=>cases hk;exact .v _
   |k+2=>simp at hk
theorem own_cvI{n:Nat}{S:Store}{x:AV}{e:Nat}{l:List Int}{F:Nat→Bool}{k:Nat}(h:Own n S x e (l.map fun p=>[aI p]))(hF:∀ i b m,x = .s i b m→F i=true):Cv (S.frz F) k x (aL aI l):=by
 rcases h with⟨rfl,h⟩|⟨id,rfl,h1,h2,h3⟩
 ·have:l = []:=List.map_eq_nil_iff.1 h
  subst this
  exact .nl
 ·refine .s id 0 _ e _ _ (by rw[frz_of h3,hF id _ _ rfl];rfl) (by simp) (by simp) (fun i c c2 hi hi2=>?_) (fun i c c2 k u u2 hi hi2 hk hk2=>?_)
  ·rw[Nat.zero_add]at hi;rw[hi]at hi2;cases hi2;rfl
  ·rw[Nat.zero_add]at hi;rw[hi]at hi2;cases hi2
   rw[hk]at hk2;cases hk2
   rw[List.getElem?_map]at hi
   obtain⟨a,_,rfl⟩:=Option.map_eq_some_iff.1 hi
   match k with
   |0=>cases hk;exact .v _
   |k+1=>simp at hk
theorem own_cvN{n:Nat}{S:Store}{x:AV}{e:Nat}{l:List Na}{F:Nat→Bool}{k:Nat}(h:Own n S x e (l.map Na.row))(hF:∀ i b m,x = .s i b m→F i=true):Cv (S.frz F) k x (nL l):=by
 rcases h with⟨rfl,h⟩|⟨id,rfl,h1,h2,h3⟩
 ·have:l = []:=List.map_eq_nil_iff.1 h
  subst this
  exact .nl
 ·refine .s id 0 _ e _ _ (by rw[frz_of h3,hF id _ _ rfl];rfl) (by simp) (by simp) (fun i c c2 hi hi2=>?_) (fun i c c2 k u u2 hi hi2 hk hk2=>?_)
  ·rw[Nat.zero_add]at hi;rw[hi]at hi2;cases hi2;rfl
  ·rw[Nat.zero_add]at hi;rw[hi]at hi2;cases hi2
   rw[hk]at hk2;cases hk2
   rw[List.getElem?_map]at hi
   obtain⟨a,_,rfl⟩:=Option.map_eq_some_iff.1 hi
   unfold Na.row at hk
   match k with
   |0=>cases hk;exact .v _
   |1=>cases hk;exact .v _
   |2=>cases hk;exact .v _
   |k+3=>simp at hk
theorem _root_.Go.Ab.Own.fF{n:Nat}{S:Store}{x:AV}{e:Nat}{es:List (List AV)}(h:Own n S x e es){m:Nat}(hm:m≤n):∀ i b k,x = .s i b k→newer m i=true:=fun i b k e=>by
 have:=h.lt e
 simp[newer];omega
theorem madeC_of{inp:Int}{lats:List (Int × Int)}{g:Gr}{outs bads cons fair:List Int}{b1 b2:Bool}{t:ByteArray}(h0:0≤inp)(h1:inp≤3)(hl1:1≤lats.length)(hl2:lats.length≤3)
    (hg:g.right=true) (hgi:g.inputs=inp+lats.length) (hga:g.ands.length≤8) (hgok:g.ok) (hlat:∀ p∈lats,g.lit p.1=true∧0≤p.2∧p.2≤2) (ho:∀ x∈outs,g.lit x=true) (hb:∀ x∈bads,g.lit x=true)
    (hc:∀ x∈cons,g.lit x=true) (hf:∀ x∈fair,g.lit x=true) (lo:outs.length≤2) (lb:bads.length≤1) (lc:cons.length≤1) (lf:fair.length≤1)
    (ht:b2=true→0<outs.length∧(t=⟨#[111,117,116]⟩∨t=⟨#[108,49]⟩∨t=⟨#[97,45,98]⟩)):
    MadeC ⟨inp,lats,g.ands,outs,bads,cons,fair,(if b1 then[⟨108,0,⟨#[113]⟩⟩]else[])++(if b2 then[⟨111,outs.length - 1,t⟩]else[])⟩:=by
 have hvg:g.vars=inp+lats.length+1+g.ands.length:=by unfold Gr.vars;omega
 have hi64:∀{x:Int},g.lit x=true→i64R x:=fun h=>by
  obtain⟨_,_,h1,h2⟩:=lit_iff.1 h
  exact⟨by omega,by omega⟩
 have hgr:∀ nm,(⟨inp,lats,g.ands,outs,bads,cons,fair,nm⟩:Ci).gr=g:=fun nm=>by
  show(⟨IntKind.i64.wrap (inp+lats.length),g.ands⟩:Gr)=g
  rw[wrap64 (by omega) (by omega),←hgi]
 have htl:b2=true→wordB t=true∧t.size≤100∧t≠⟨#[113]⟩:=fun h=>by
  rcases(ht h).2 with rfl|rfl|rfl<;>exact⟨by decide,by decide,by decide⟩
 generalize hnm:((if b1 then[⟨108,0,⟨#[113]⟩⟩]else[])++(if b2 then[⟨111,outs.length - 1,t⟩]else[]):List Na)=nm
 have hnl:nm.length≤2:=by subst hnm;cases b1<;>cases b2<;>simp
 have hnames:namesB ⟨inp,lats,g.ands,outs,bads,cons,fair,nm⟩=true:=by
  have e1:nameOk ⟨inp,lats,g.ands,outs,bads,cons,fair,nm⟩ ⟨108,0,⟨#[113]⟩⟩:=⟨by decide,by decide,by simp[Ci.many];omega⟩
  have e2:b2=true→nameOk ⟨inp,lats,g.ands,outs,bads,cons,fair,nm⟩ ⟨111,outs.length - 1,t⟩:=fun h=>⟨(htl h).1,by have:=(ht h).1;show(0:Int)≤outs.length - 1;omega,by have:=(ht h).1;simp[Ci.many];omega⟩
  have e3:nameLt ⟨108,0,⟨#[113]⟩⟩ ⟨111,outs.length - 1,t⟩:=.inl (by show rankI 108<rankI 111;decide)
  simp only[namesB,decide_eq_true_eq]
  subst hnm
  cases b1<;>cases b2
  ·exact⟨fun i h=>by simp at h,fun i h=>by simp at h,by simp⟩
  ·refine⟨fun i h _=>?_,fun i h=>by simp at h,by simp⟩
   match i with
   |0=>exact e2 rfl
   |i+1=>exact absurd (show i+1<1 from h) (by omega)
  ·refine⟨fun i h _=>?_,fun i h=>by simp at h,by simp⟩
   match i with
   |0=>exact e1
   |i+1=>exact absurd (show i+1<1 from h) (by omega)
  ·refine⟨fun i h _=>?_,fun i h _=>?_,?_⟩
   ·match i with
    |0=>exact e1
    |1=>exact e2 rfl
    |i+2=>exact absurd (show i+2<2 from h) (by omega)
   ·match i with
    |0=>exact e3
    |i+1=>exact absurd (show i+1+1<2 from h) (by omega)
   ·have:=(htl rfl).2.2
    simp only[if_true,List.cons_append,List.nil_append,List.length_cons,List.length_nil,List.take_succ_cons,List.take_zero,List.map_cons,List.map_nil,List.nodup_cons,List.mem_singleton,List.not_mem_nil,not_false_eq_true,List.nodup_nil,and_true]
    exact fun h=>this (keyOf_inj h.symm)
 have hnk:∀ x∈nm,0≤x.kind∧x.kind<256∧i64R x.pos∧x.text.size≤9223372036854775807:=by
  subst hnm
  intro x hx
  rcases List.mem_append.1 hx with hx|hx
  ·cases b1
   ·simp at hx
   ·have:x=⟨108,0,⟨#[113]⟩⟩:=by simpa using hx
    subst this
    exact⟨by decide,by decide,⟨by decide,by decide⟩,by decide⟩
  ·cases b2
   ·simp at hx
   ·have:x=⟨111,outs.length - 1,t⟩:=by simpa using hx
    subst this
    have h2:=htl rfl
    exact⟨by show(0:Int)≤111;decide,by show(111:Int)<256;decide,⟨by show _≤(outs.length:Int) - 1;omega,by show(outs.length:Int) - 1≤_;omega⟩,by show t.size≤_;omega⟩
 refine⟨⟨⟨by show _≤inp;omega,by show inp≤_;omega⟩,by show lats.length≤_;omega,by show g.ands.length≤_;omega,fun p hp=>⟨hi64 (hlat p hp).1,⟨by have:=hlat p hp;omega,by have:=hlat p hp;omega⟩⟩,hgok.pairs,⟨fun x hx=>hi64 (ho x hx),by show outs.length≤_;omega⟩,⟨fun x hx=>hi64 (hb x hx),by show bads.length≤_;omega⟩,
  ⟨fun x hx=>hi64 (hc x hx),by show cons.length≤_;omega⟩,⟨fun x hx=>hi64 (hf x hx),by show fair.length≤_;omega⟩,hnk,by show nm.length≤_;omega⟩,right_c.2 ?_,⟨h0,h1⟩,⟨hl1,hl2⟩,hga,lo,lb,lc,lf,⟨b1,b2,t,hnm.symm,ht⟩⟩
 rw[hgr]
 refine⟨⟨h0,by show inp≤_;omega⟩,by show lats.length≤_;omega,by show outs.length≤_;omega,by show bads.length≤_;omega,by show cons.length≤_;omega,by show fair.length≤_;omega,hg,?_,?_,?_,?_,?_,hnames⟩
 ·refine List.all_eq_true.2 fun p hp=>?_
  obtain⟨q1,q2,q3⟩:=hlat p hp
  simp only[latOk,q1,decide_eq_true q2,decide_eq_true q3,Bool.and_self]
 ·exact List.all_eq_true.2 ho
 ·exact List.all_eq_true.2 hb
 ·exact List.all_eq_true.2 hc
 ·exact List.all_eq_true.2 hf
def seedL(l:List Int):List Int:=(List.range (pickV l 2 9).toNat).map fun i=>pickV l (3+i) 65536
def varsL(l:List Int):Int:=(madeTo (pickV l 0 4+(1+pickV l 1 3)) (seedL l) (min (seedL l).length 40)).1.vars
theorem made29{l:List Int}(hl:∀ x∈l,0≤x∧x<65536){S:Store}:ACalls Pg 9 [aL aW16 l] S (fun e S'=>∃ tr,e = .ret tr∧S'=S∧∃ c,tr=c.av∧MadeC c∧c.gr.vars=varsL l∧c.inputs=pickV l 0 4):=by
 refine ACalls.treeE (calls9 ?_)
 unfold m9
 refine box1_of rfl fun S1 k1 n1 o1=>?_
 refine boxA_of rfl fun S2 k2 n2 o2=>?_
 refine box1_of rfl fun S3 k3 n3 o3=>?_
 refine st_of o3 rfl rfl fun S4 n4 o4 f4=>?_
 refine boxA_of rfl fun S5 k5 n5 o5=>?_
 have e1:S1.n=S.n+1:=n1
 have e2:S2.n=S.n+2:=by omega
 have e4:S4.n=S.n+3:=by omega
 rw[e1]at o2;rw[e2]at o3 o4 f4;rw[e4]at o5
 rw[e1,e2,e4]
 have fm:Fm S l S5 0 [aI 0,.nl,.nl,.nl,.nl,.nl,.nl,.nl]:=by
  have old4:∀ x,x<S.n+2→S4.obj x=S2.obj x:=fun x hx=>(f4 x (by omega)).trans (k3.2 x (by omega))
  have old5:∀ x,x<S.n+3→S5.obj x=S4.obj x:=fun x hx=>k5.2 x (by omega)
  refine⟨⟨by omega,fun x hx=>(old5 x (by omega)).trans ((old4 x (by omega)).trans ((k2.2 x (by omega)).trans (k1.2 x hx)))⟩,by omega,?_,?_,(old5 _ (by omega)).trans o4,o5⟩
  ·exact(old5 _ (by omega)).trans ((old4 _ (by omega)).trans ((k2.2 _ (by omega)).trans o1))
  ·exact(old5 _ (by omega)).trans ((old4 _ (by omega)).trans o2)
 show callV _ (pickF S) _ _ _ _
 refine fm.pick hl (by decide) (by decide) fun S6 fm n6 f6=>?_
 have pi:=pickV_rng hl (k:=0) (n:=4) (by decide)
 generalize hinp:pickV l 0 4=inp at *
 rw[shift_p]
 refine fm.st (by simp) rfl fun S7 fm n7 f7=>?_
 show callV _ (pickF S) _ _ _ _
 refine fm.pick hl (by decide) (by decide) fun S8 fm n8 f8=>?_
 have pm:=pickV_rng hl (k:=1) (n:=3) (by decide)
 generalize hm3:pickV l 1 3=m3 at *
 rw[bin_add (by omega) (by omega)]
 obtain⟨many,hmany⟩:=Int.eq_ofNat_of_zero_le (show 0≤1+m3 by omega)
 have hm1:1≤many∧many≤3:=by omega
 rw[hmany]
 show callV _ (pickF S) _ _ _ _
 refine fm.pick hl (by decide) (by decide) fun S9 fm n9 f9=>?_
 have pr:=pickV_rng hl (k:=2) (n:=9) (by decide)
 generalize h9:pickV l 2 9=r9 at *
 obtain⟨r0,rfl⟩:=Int.eq_ofNat_of_zero_le pr.1
 replace fm:Fm S l S9 3 [aI inp,.nl,.nl,.nl,.nl,.nl,.nl,.nl]:=fm
 show loopV _ _ _ (env9_0 (.p (S.n+1) 0 0) (pickF S) (.p (S.n+3) 0 0) (aI many) .nl (aI r0)) _ _
 refine loop9_0 (fun y7 y8 S'=>∃(r k:Nat) (sd:List Int),y8=aI r∧(r+sd.length=r0∧k=3+sd.length∧sd=(List.range sd.length).map fun i=>pickV l (3+i) 65536)∧r+sd.length≤8∧k+r≤11∧Fm S l S' k [aI inp,.nl,.nl,.nl,.nl,.nl,.nl,.nl]∧Own (S.n+4) S' y7 60 (sd.map fun x=>[aW16 x])∧∀ x∈sd,0≤x∧x<65536)
  (fun _ y _=>((intA y).getD 0).toNat) ⟨r0,3,[],rfl,⟨by simp,rfl,rfl⟩,by simp;omega,by omega,fm,Own.nl _ _ _,fun _ h=>by cases h⟩ ?_
 rintro y7 _ S1 ⟨r,k,sd,rfl,⟨hrr,hkk,hsq⟩,hr,hk,fm,w7,hsd⟩ KE hKE
 unfold b9_0
 rw[bin_gtr,onB_v]
 refine gd_of (fun hgt=>?_) (fun hle=>?_)
 ·have hgt:0<r:=by have:=dT hgt;omega
  refine fm.pick hl (by decide) (by omega) fun S2 fm n2 f2=>?_
  have px:=pickV_rng hl (k:=k) (n:=65536) (by decide)
  generalize hx:pickV l k 65536=x at *
  have w2:=w7.fm (by omega) n2 f2
  rw[convI_v,wrap16 px.1 px.2]
  refine bsl1 rfl (fun _ h=>by cases h) ?_
  refine w2.app (by have:=fm.n;omega) (c:=[aW16 x]) rfl (by rw[List.length_map];omega) (fun z S3 w3 b3 hz=>?_) rfl
  have n3:=b3.1
  have o3:∀ x,x<S.n+4→S3.obj x=S2.obj x:=fun x hx=>b3.2 x (by have:=fm.n;omega) (fun b m e=>by have:=w2.lt e;omega)
  rw[bin_sub (by omega) (by omega),show(r:Int) - 1=((r - 1:Nat):Int)by omega]
  refine hKE _ _ _ ⟨r - 1,k+1,sd ++ [x],rfl,⟨by simp;omega,by simp;omega,by rw[List.length_append,List.length_singleton,List.range_succ,List.map_append,←hsq];simp[←hx,hkk]⟩,by rw[List.length_append,List.length_singleton];omega,by omega,fm.old n3 o3,by rw[List.map_append];exact w3,fun a ha=>?_⟩ (by simp[intA];omega)
  rcases List.mem_append.1 ha with ha|ha
  ·exact hsd a ha
  ·have:a=x:=by simpa using ha
   subst this
   exact px
 have hle:r=0:=by have:=dF hle;omega
 subst hle
 clear hKE KE
 rw[shift_p,ld1_p fm.co rfl rfl,bin_add (by omega) (by omega)]
 have hlen:∀(T:Store) (K:AV→Store→Prop),lenS y7 T K=K (aI sd.length) T:=fun T K=>by
  rcases w7 with⟨rfl,e⟩|⟨id,rfl,_⟩
  ·have:sd = []:=List.map_eq_nil_iff.1 e
   subst this;rfl
  ·rw[lenS_s,List.length_map]
 obtain⟨q7,hq7⟩:∃ q:Nat,∀(i:Nat),i<sd.length→y7 = .s q 0 sd.length∧q<S1.n∧S1.obj q=some (.cells 60 (sd.map fun x=>[aW16 x]) true):=by
  rcases w7 with⟨rfl,e⟩|⟨id,rfl,h1,h2,h3⟩
  ·have:sd = []:=List.map_eq_nil_iff.1 e
   subst this;exact⟨0,fun i hi=>by simp at hi⟩
  ·exact⟨id,fun i _=>⟨by rw[List.length_map],h2,h3⟩⟩
 have hmade:=at20 (n:=inp+many) (by omega) (by omega) hsd (by omega) (S:=S1) (x1:=y7) hlen (P:=fun i=>.p q7 i 0) (fun T hT i hi=>by
  obtain⟨h1,h2,h3⟩:=hq7 i hi
  have h4:=(hT.2 _ h2).trans h3
  subst h1
  refine⟨fun K=>by rw[ixS_s hi h4,Nat.zero_add],fun K=>by rw[ld1_p h4 (by rw[List.getElem?_map,List.getElem?_eq_getElem hi];rfl) rfl]⟩)
 have hrt:=madeTo_right (n:=inp+many) (by omega) (by omega) hsd (min sd.length 40) (by omega)
 have hgok:=madeTo_ok (n:=inp+many) ⟨by omega,by omega⟩ hsd (by omega) (min sd.length 40)
 have hgin:=madeTo_inp (inp+many) sd (min sd.length 40)
 have hmin:min sd.length 40≤8:=by omega
 have hvars:(madeTo (inp+many) sd (min sd.length 40)).1.vars=varsL l:=by
  have e:sd=seedL l:=by
   rw[hsq,seedL,h9]
   rw[show sd.length=r0 by omega]
   rfl
  rw[varsL,hinp,hm3,hmany,←e]
 generalize(madeTo (inp+many) sd (min sd.length 40)).1=g at *
 generalize(madeTo (inp+many) sd (min sd.length 40)).2=last at *
 obtain⟨hg,hlast,hv1,hv2⟩:=hrt
 have hga:g.ands.length≤8:=by unfold Gr.vars at hv2;omega
 refine callF_at hmade ?_
 rw[extr0,extr1]
 refine boxA_of rfl fun S2 k2 n2 o2=>?_
 refine stA_of o2 rfl rfl fun S3 n3 o3 f3=>?_
 have hb:=fm.n
 replace fm:Fm S l S3 k _:=fm.old (by omega) fun x hx=>(f3 x (by omega)).trans (k2.2 x (by omega))
 rw[shift_p,ld1_p o3 rfl rfl,shift_p]
 refine fm.st (by simp) rfl fun S4 fm n4 f4=>?_
 have o4:=(f4 S1.n (by omega)).trans o3
 rw[ldN_p (n:=2) o4 rfl]
 refine callF_ans (ans11 hgok (by omega) (by omega)) ?_
 rw[bin_mul (by omega) (by omega)]
 have hvp:0<2*g.vars:=by omega
 have plit:∀{x:Int},0≤x∧x<2*g.vars→g.lit x=true:=fun h=>lit_iff.2 ⟨by omega,by omega,h.1,by omega⟩
 show loopV _ _ _ (env9_1 (.p (S.n+1) 0 0) (pickF S) (.p (S.n+3) 0 0) (aI many) (aI last) (aI (2*g.vars)) (aI (0:Nat))) _ _
 replace fm:Fm S l S4 k [aI inp,.nl,pL g.ands,.nl,.nl,.nl,.nl,.nl]:=fm
 refine loop9_1 (fun y12 S'=>∃(i k:Nat) (zl:AV) (lats:List (Int × Int)),y12=aI i∧i≤many∧k≤11+2*i∧Fm S l S' k [aI inp,zl,pL g.ands,.nl,.nl,.nl,.nl,.nl]∧Own (S.n+4) S' zl 59 (lats.map fun p=>[aI p.1,aI p.2])∧lats.length=i∧∀ p∈lats,g.lit p.1=true∧0≤p.2∧p.2≤2)
  (fun y _=>many - ((intA y).getD 0).toNat) ⟨0,k,.nl,[],rfl,Nat.zero_le _,by omega,fm,Own.nl _ _ _,rfl,fun _ h=>by cases h⟩ ?_
 rintro _ S1 ⟨i,k,zl,lats,rfl,hi,hk,fm,wl,hll,hlat⟩ KE hKE
 unfold b9_1
 rw[bin_lss,onB_v]
 refine gd_of (fun hlt=>?_) (fun hge=>?_)
 ·have hlt:i<many:=by have:=dT hlt;omega
  refine fm.pick hl hvp (by omega) fun S2 fm n2 f2=>?_
  have pn:=plit (pickV_rng hl (k:=k) hvp)
  generalize pickV l k (2*g.vars)=n at *
  have w2:=wl.fm (by omega) n2 f2
  rw[bin_eql,onB_v]
  have step:∀ nx:Int,g.lit nx=true→∀(S3:Store) (p5:Int) (k':Nat),0≤p5∧p5<5→k'≤11+2*(i+1)→Fm S l S3 k' [aI inp,zl,pL g.ands,.nl,.nl,.nl,.nl,.nl]→Own (S.n+4) S3 zl 59 (lats.map fun p=>[aI p.1,aI p.2])→
      (∃ q46:AV,(∀ T:Store,Keep S3 T→bin .quo 0 (aI p5) (.v (.int .i64 2)) T fun v S=>v=q46∧S=T)∧∃ q48:AV,(∀ T:Store,Keep S3 T→bld [(0,1),(1,1)] [.v (.int .i64 0),.v (.int .i64 0)] [(0,aI nx),(1,q46)] T fun v S=>v=q48∧S=T)∧
       ∃ q50:AV,(∀ T:Store,Keep S3 T→bslN 59 2 1 [.v (.int .i64 0),.v (.int .i64 0)] [(0,q48)] T fun v S=>v=q50∧S=T)∧appS 59 2 16 zl q50 S3 fun v52 T =>
       ∃ q53:AV,(∀ T':Store,Keep T T'→shift (.p (S.n+3) 0 0) 1 T' fun v S=>v=q53∧S=T')∧stN 1 q53 v52 T fun _ T=>bin .add 0 (aI i) (.v (.int .i64 1)) T fun v T=>KE 156 (env9_1 (.p (S.n+1) 0 0) (pickF S) (.p (S.n+3) 0 0) (aI many) (aI last) (aI (2*g.vars)) v) T):=by
   intro nx hnx S3 p5 k' hp5 hk' fm w3
   have hd:0≤p5.tdiv 2∧p5.tdiv 2≤2:=by rw[Int.tdiv_eq_ediv_of_nonneg hp5.1];omega
   refine⟨_,fun T hT=>by rw[bin_quo (by decide) (by omega) (by omega)];exact⟨rfl,rfl⟩,_,fun T hT=>by rw[bld_of (cs:=[aI nx,aI (p5.tdiv 2)]) rfl];exact⟨rfl,rfl⟩,_,fun T hT=>bslP ⟨rfl,rfl⟩,?_⟩
   refine w3.app (by have:=fm.n;omega) (c:=[aI nx,aI (p5.tdiv 2)]) rfl (by rw[List.length_map];omega) (fun z S4 w4 b4 hz=>?_) rfl
   have n4:=b4.1
   have hn3:=fm.n
   have o4:∀ x,x<S.n+4→S4.obj x=S3.obj x:=fun x hx=>b4.2 x (by omega) (fun b m e=>by have:=w3.lt e;omega)
   refine⟨_,fun T hT=>by rw[shift_p];exact⟨rfl,rfl⟩,?_⟩
   replace fm:=fm.old n4 o4
   refine fm.st (by simp) (own_one w4) fun S5 fm n5 f5=>?_
   have w5:=w4.fm (by omega) n5 f5
   rw[bin_add (by omega) (by omega)]
   refine hKE _ _ ⟨i+1,k',z,lats ++ [(nx,p5.tdiv 2)],rfl,hlt,hk',fm,by rw[List.map_append];exact w5,by simp[hll],fun p hp=>?_⟩ (by simp[intA];omega)
   rcases List.mem_append.1 hp with hp|hp
   ·exact hlat p hp
   ·have:p=(nx,p5.tdiv 2):=by simpa using hp
    subst this
    exact⟨hnx,hd⟩
  have p5:=pickV_rng hl (k:=k+1) (n:=5) (by decide)
  refine gd_of (fun h0=>?_) (fun h0=>?_)
  ·refine⟨_,fun T hT=>by rw[shift_p];exact⟨rfl,rfl⟩,zl,fun T hT=>by rw[ld1_p (fm.kT hT) rfl rfl];exact⟨rfl,rfl⟩,?_⟩
   refine fm.pick hl (by decide) (by omega) fun S3 fm n3 f3=>?_
   have w3:=w2.fm (by omega) n3 f3
   refine⟨fun T hT=>by rw[ld1_p (fm.kT hT) rfl rfl];exact⟨rfl,rfl⟩,fun T hT=>by rw[shift_p];exact⟨rfl,rfl⟩,?_⟩
   exact step _ hlast S3 _ _ p5 (by omega) fm w3
  ·refine⟨_,fun T hT=>by rw[shift_p];exact⟨rfl,rfl⟩,zl,fun T hT=>by rw[ld1_p (fm.kT hT) rfl rfl];exact⟨rfl,rfl⟩,?_⟩
   refine fm.pick hl (by decide) (by omega) fun S3 fm n3 f3=>?_
   have w3:=w2.fm (by omega) n3 f3
   refine⟨fun T hT=>by rw[ld1_p (fm.kT hT) rfl rfl];exact⟨rfl,rfl⟩,fun T hT=>by rw[shift_p];exact⟨rfl,rfl⟩,?_⟩
   exact step _ pn S3 _ _ p5 (by omega) fm w3
 have hge:i=many:=by have:=dF hge;omega
 subst hge
 clear hKE KE
 refine fm.pick hl (by decide) (by omega) fun S2 fm n2 f2=>?_
 have w2:=wl.fm (by omega) n2 f2
 have p3:=pickV_rng hl (k:=k) (n:=3) (by decide)
 generalize pickV l k 3=r3 at *
 obtain⟨r0,rfl⟩:=Int.eq_ofNat_of_zero_le p3.1
 obtain⟨S3,wk3,fm3,n3⟩:=fm.wk (cs2:=[aI inp,pL lats,pL g.ands,.nl,.nl,.nl,.nl,.nl]) rfl (fun k' u u2 e1 e2=>by
  match k' with
  |0=>cases e1;cases e2;exact .v _
  |1=>cases e1;cases e2;exact own_cvP w2 (w2.fF (Nat.le_refl _))
  |2=>cases e1;cases e2;exact treeP _ _ _
  |3|4|5|6|7=>cases e1;cases e2;exact .nl'
  |k+8=>simp at e1) (env9_2 (.p (S.n+1) 0 0) (pickF S) (.p (S.n+3) 0 0) (aI (2*g.vars)) (aI r0))
 show loopV _ _ _ (env9_2 (.p (S.n+1) 0 0) (pickF S) (.p (S.n+3) 0 0) (aI (2*g.vars)) (aI r0)) _ _
 refine loopw9_2 (fun y2 y4 y5 y11 y14 S'=>y2 = .p (S.n+1) 0 0∧y4=pickF S∧y5 = .p (S.n+3) 0 0∧y11=aI (2*g.vars)∧∃(r k:Nat) (zo:AV) (outs:List Int),y14=aI r∧outs.length+r≤2∧k+r≤20∧Fm S l S' k [aI inp,pL lats,pL g.ands,zo,.nl,.nl,.nl,.nl]∧Own (S.n+4) S' zo 3 (outs.map fun p=>[aI p])∧∀ x∈outs,g.lit x=true)
  (fun _ _ _ _ y _=>((intA y).getD 0).toNat) ⟨_,_,_,_,_,S3,wk3,rfl,rfl,rfl,rfl,r0,k+1,.nl,[],rfl,by simp;omega,by omega,fm3,Own.nl _ _ _,fun _ h=>by cases h⟩ ?_
 rintro _ _ _ _ _ S1 ⟨rfl,rfl,rfl,rfl,r,k,zo,outs,rfl,hor,hk,fm,wo,hou⟩ KE hKE
 unfold b9_2
 rw[bin_gtr,onB_v]
 refine gd_of (fun hgt=>?_) (fun hle=>?_)
 ·have hgt:0<r:=by have:=dT hgt;omega
  refine⟨_,fun T hT=>by rw[shift_p];exact⟨rfl,rfl⟩,zo,fun T hT=>by rw[ld1_p (fm.kT hT) rfl rfl];exact⟨rfl,rfl⟩,?_⟩
  refine fm.pick hl hvp (by omega) fun S2 fm n2 f2=>?_
  have pn:=plit (pickV_rng hl (k:=k) hvp)
  generalize pickV l k (2*g.vars)=n at *
  have w2:=wo.fm (by omega) n2 f2
  refine⟨fun T hT=>by rw[ld1_p (fm.kT hT) rfl rfl];exact⟨rfl,rfl⟩,fun T hT=>by rw[shift_p];exact⟨rfl,rfl⟩,_,fun T hT=>bsl1 rfl (fun _ h=>by cases h) ⟨rfl,rfl⟩,?_⟩
  refine w2.app (by have:=fm.n;omega) (c:=[aI n]) rfl (by rw[List.length_map];omega) (fun z S4 w4 b4 hz=>?_) rfl
  have n4:=b4.1
  have hn3:=fm.n
  have o4:∀ x,x<S.n+4→S4.obj x=S2.obj x:=fun x hx=>b4.2 x (by omega) (fun b m e=>by have:=w2.lt e;omega)
  refine⟨_,fun T hT=>by rw[shift_p];exact⟨rfl,rfl⟩,?_⟩
  replace fm:=fm.old n4 o4
  refine fm.st (by simp) (own_one w4) fun S5 fm n5 f5=>?_
  have w5:=w4.fm (by omega) n5 f5
  rw[bin_sub (by omega) (by omega),show(r:Int) - 1=((r - 1:Nat):Int)by omega]
  refine hKE _ _ _ _ _ _ _ _ _ _ _ _ (Wk.refl _ _) ⟨rfl,rfl,rfl,rfl,r - 1,k+1,z,outs ++ [n],rfl,by rw[List.length_append,List.length_singleton];omega,by omega,fm,by rw[List.map_append];exact w5,fun p hp=>?_⟩ (by simp[intA];omega)
  rcases List.mem_append.1 hp with hp|hp
  ·exact hou p hp
  ·have:p=n:=by simpa using hp
   subst this
   exact pn
 have hle:r=0:=by have:=dF hle;omega
 subst hle
 clear hKE KE
 have tail:∀(S':Store) (k:Nat) (zo zb zc:AV) (bads cons:List Int) (r0:Nat),r0≤1→k≤25→Fm S l S' k [aI inp,pL lats,pL g.ands,zo,zb,zc,.nl,.nl]→Own (S.n+4) S' zo 3 (outs.map fun p=>[aI p])→Own (S.n+4) S' zb 3 (bads.map fun p=>[aI p])→Own (S.n+4) S' zc 3 (cons.map fun p=>[aI p])→
     bads.length≤1→cons.length≤1→(∀ x∈bads,g.lit x=true)→(∀ x∈cons,g.lit x=true)→
     loopV lv9_3 (vc Pg (c9.at_ [1,1,1,1,1,1,1,1,1,1,1,1,1,1,1,0,1,0,0]) (ms9.drop 4)) 156 (env9_3 (.p (S.n+1) 0 0) (pickF S) (.p (S.n+3) 0 0) (aI (2*g.vars)) (aI r0)) S'
      (blockK 6 (seqK (vc Pg (c9.at_ [1,1,1,1,1,1,1,1,1,1,1,1,1,1,1,1]) (ms9.drop 4)) (bodyK Pg r9 fun e S'=>∃ r tr,e = .ret r∧Keep S S'∧Cv (S'.frz (newer S.n)) S.n r tr∧∃ c:Ci,tr=c.av∧MadeC c∧c.gr.vars=varsL l∧c.inputs=inp))):=by
  intro S' k zo zb zc bads cons r0 hr0 hk fm wo wb wc lb lc hbl hcl
  obtain⟨S3,wk3,fm3,n3⟩:=fm.wk (cs2:=[aI inp,pL lats,pL g.ands,aL aI outs,aL aI bads,aL aI cons,.nl,.nl]) rfl (fun k' u u2 e1 e2=>by
   match k' with
   |0=>cases e1;cases e2;exact .v _
   |1=>cases e1;cases e2;exact treeP _ _ _
   |2=>cases e1;cases e2;exact treeP _ _ _
   |3=>cases e1;cases e2;exact own_cvI wo (wo.fF (Nat.le_refl _))
   |4=>cases e1;cases e2;exact own_cvI wb (wb.fF (Nat.le_refl _))
   |5=>cases e1;cases e2;exact own_cvI wc (wc.fF (Nat.le_refl _))
   |6|7=>cases e1;cases e2;exact .nl'
   |k+8=>simp at e1) (env9_3 (.p (S.n+1) 0 0) (pickF S) (.p (S.n+3) 0 0) (aI (2*g.vars)) (aI r0))
  refine loopw9_3 (fun y2 y4 y5 y11 y15 S'=>y2 = .p (S.n+1) 0 0∧y4=pickF S∧y5 = .p (S.n+3) 0 0∧y11=aI (2*g.vars)∧∃(r k:Nat) (zf:AV) (fair:List Int),y15=aI r∧fair.length+r≤1∧k+r≤26∧Fm S l S' k [aI inp,pL lats,pL g.ands,aL aI outs,aL aI bads,aL aI cons,zf,.nl]∧Own (S.n+4) S' zf 3 (fair.map fun p=>[aI p])∧∀ x∈fair,g.lit x=true)
   (fun _ _ _ _ y _=>((intA y).getD 0).toNat) ⟨_,_,_,_,_,S3,wk3,rfl,rfl,rfl,rfl,r0,k,.nl,[],rfl,by simp;omega,by omega,fm3,Own.nl _ _ _,fun _ h=>by cases h⟩ ?_
  rintro _ _ _ _ _ S1 ⟨rfl,rfl,rfl,rfl,r,k,zf,fair,rfl,hfr,hk,fm,wf,hfl⟩ KE hKE
  unfold b9_3
  rw[bin_gtr,onB_v]
  refine gd_of (fun hgt=>?_) (fun hle=>?_)
  ·have hgt:0<r:=by have:=dT hgt;omega
   refine⟨_,fun T hT=>by rw[shift_p];exact⟨rfl,rfl⟩,zf,fun T hT=>by rw[ld1_p (fm.kT hT) rfl rfl];exact⟨rfl,rfl⟩,?_⟩
   refine fm.pick hl hvp (by omega) fun S2 fm n2 f2=>?_
   have pn:=plit (pickV_rng hl (k:=k) hvp)
   generalize pickV l k (2*g.vars)=n at *
   have w2:=wf.fm (by omega) n2 f2
   refine⟨fun T hT=>by rw[ld1_p (fm.kT hT) rfl rfl];exact⟨rfl,rfl⟩,fun T hT=>by rw[shift_p];exact⟨rfl,rfl⟩,_,fun T hT=>bsl1 rfl (fun _ h=>by cases h) ⟨rfl,rfl⟩,?_⟩
   refine w2.app (by have:=fm.n;omega) (c:=[aI n]) rfl (by rw[List.length_map];omega) (fun z S4 w4 b4 hz=>?_) rfl
   have n4:=b4.1
   have hn3:=fm.n
   have o4:∀ x,x<S.n+4→S4.obj x=S2.obj x:=fun x hx=>b4.2 x (by omega) (fun b m e=>by have:=w2.lt e;omega)
   refine⟨_,fun T hT=>by rw[shift_p];exact⟨rfl,rfl⟩,?_⟩
   replace fm:=fm.old n4 o4
   refine fm.st (by simp) (own_one w4) fun S5 fm n5 f5=>?_
   have w5:=w4.fm (by omega) n5 f5
   rw[bin_sub (by omega) (by omega),show(r:Int) - 1=((r - 1:Nat):Int)by omega]
   refine hKE _ _ _ _ _ _ _ _ _ _ _ _ (Wk.refl _ _) ⟨rfl,rfl,rfl,rfl,r - 1,k+1,z,fair ++ [n],rfl,by rw[List.length_append,List.length_singleton];omega,by omega,fm,by rw[List.map_append];exact w5,fun p hp=>?_⟩ (by simp[intA];omega)
   rcases List.mem_append.1 hp with hp|hp
   ·exact hfl p hp
   ·have:p=n:=by simpa using hp
    subst this
    exact pn
  have hle:r=0:=by have:=dF hle;omega
  subst hle
  clear hKE KE
  have fin:∀(S1:Store) (k:Nat) (zn:AV) (b1 b2:Bool) (t:ByteArray),Fm S l S1 k [aI inp,pL lats,pL g.ands,aL aI outs,aL aI bads,aL aI cons,zf,zn]→Own (S.n+4) S1 zf 3 (fair.map fun p=>[aI p])→(b2=true→0<outs.length∧(t=⟨#[111,117,116]⟩∨t=⟨#[108,49]⟩∨t=⟨#[97,45,98]⟩))→
      Own (S.n+4) S1 zn 64 (((if b1 then[⟨108,0,⟨#[113]⟩⟩]else[])++(if b2 then[⟨111,outs.length - 1,t⟩]else[]):List Na).map Na.row)→
      ldN 8 (.p (S.n+3) 0 0) S1 fun v S1=>stN 8 (.p (S.n+1) 0 0) v S1 fun _ S2=>ldN 8 (.p (S.n+1) 0 0) S2 fun v _=>∃ r tr,AEnd.ret v = .ret r∧Keep S S2∧Cv (S2.frz (newer S.n)) S.n r tr∧∃ c:Ci,tr=c.av∧MadeC c∧c.gr.vars=varsL l∧c.inputs=inp:=by
   intro S1 k zn b1 b2 t fm wf ht wn
   rw[ldN_p (n:=8) fm.co rfl]
   refine stA_of fm.ro rfl rfl fun S2 n2 o2 f2=>?_
   rw[ldN_p (n:=8) o2 rfl]
   have wf2:=wf.fm (id:=S.n+1) (by omega) n2 f2
   have wn2:=wn.fm (id:=S.n+1) (by omega) n2 f2
   refine⟨_,_,rfl,fm.keep.st (by omega) n2 f2,?_,⟨inp,lats,g.ands,outs,bads,cons,fair,(if b1 then[⟨108,0,⟨#[113]⟩⟩]else[])++(if b2 then[⟨111,outs.length - 1,t⟩]else[])⟩,rfl,madeC_of pi.1 (by omega) (by omega) (by omega) hg (by rw[hgin,hll]) hga hgok hlat hou hbl hcl hfl (by omega) lb lc (by omega) ht,?_,rfl⟩
   rotate_left
   ·have hgi':g.inputs=inp+lats.length:=by rw[hgin,hll]
    have:(Ci.gr ⟨inp,lats,g.ands,outs,bads,cons,fair,(if b1 then[⟨108,0,⟨#[113]⟩⟩]else[])++(if b2 then[⟨111,outs.length - 1,t⟩]else[])⟩)=g:=by
     show(⟨IntKind.i64.wrap (inp+lats.length),g.ands⟩:Gr)=g
     rw[wrap64 (by omega) (by omega),←hgi']
    rw[this];exact hvars
   refine .a _ _ rfl fun k' u u2 e1 e2=>?_
   match k' with
   |0=>cases e1;cases e2;exact .v _
   |1=>cases e1;cases e2;exact treeP _ _ _
   |2=>cases e1;cases e2;exact treeP _ _ _
   |3=>cases e1;cases e2;exact treeI _ _ _
   |4=>cases e1;cases e2;exact treeI _ _ _
   |5=>cases e1;cases e2;exact treeI _ _ _
   |6=>cases e1;cases e2;exact own_cvI wf2 (wf2.fF (by omega))
   |7=>cases e1;cases e2;exact own_cvN wn2 (wn2.fF (by omega))
   |k+8=>simp at e1
  have snd:∀(X0:AV→Store→Prop) (S1:Store) (k:Nat) (zn:AV) (b1:Bool),k≤100→Fm S l S1 k [aI inp,pL lats,pL g.ands,aL aI outs,aL aI bads,aL aI cons,zf,zn]→Own (S.n+4) S1 zf 3 (fair.map fun p=>[aI p])→Apart zn zf→
      Own (S.n+4) S1 zn 64 (((if b1 then[⟨108,0,⟨#[113]⟩⟩]else[]):List Na).map Na.row)→0<outs.length→
      (∃ q182:AV,(∀ T:Store,Keep S1 T→shift (.p (S.n+3) 0 0) 7 T fun v S=>v=q182∧S=T)∧∃ q184:AV,(∀ T:Store,Keep S1 T→ld1 q182 T fun v S=>v=q184∧S=T)∧∃ q186:AV,(∀ T:Store,Keep S1 T→shift (.p (S.n+3) 0 0) 3 T fun v S=>v=q186∧S=T)∧
       ∃ q188:AV,(∀ T:Store,Keep S1 T→ld1 q186 T fun v S=>v=q188∧S=T)∧∃ q190:AV,(∀ T:Store,Keep S1 T→lenS q188 T fun v S=>v=q190∧S=T)∧∃ q192:AV,(∀ T:Store,Keep S1 T→bin .sub 0 q190 (.v (.int .i64 1)) T fun v S=>v=q192∧S=T)∧
       ∃ q194:AV,(∀ T:Store,Keep S1 T→bslN 9 1 3 [.v (.string ByteArray.empty)] [(0,(.v (.string { data:=#[111,117,116] }))),(1,(.v (.string { data:=#[108,49] }))),(2,(.v (.string { data:=#[97,45,98] })))] T fun v S=>v=q194∧S=T)∧
       callV Pg (pickF S) [.v (.int .i64 3)] S1 (fun v196 S1=>(∀ T:Store,Keep S1 T→bslN 9 1 3 [.v (.string ByteArray.empty)] [(0,(.v (.string { data:=#[111,117,116] }))),(1,(.v (.string { data:=#[108,49] }))),(2,(.v (.string { data:=#[97,45,98] })))] T fun v S=>v=q194∧S=T)∧
        (∀ T:Store,Keep S1 T→bin .sub 0 q190 (.v (.int .i64 1)) T fun v S=>v=q192∧S=T)∧(∀ T:Store,Keep S1 T→lenS q188 T fun v S=>v=q190∧S=T)∧(∀ T:Store,Keep S1 T→ld1 q186 T fun v S=>v=q188∧S=T)∧(∀ T:Store,Keep S1 T→shift (.p (S.n+3) 0 0) 3 T fun v S=>v=q186∧S=T)∧
        (∀ T:Store,Keep S1 T→ld1 q182 T fun v S=>v=q184∧S=T)∧(∀ T:Store,Keep S1 T→shift (.p (S.n+3) 0 0) 7 T fun v S=>v=q182∧S=T)∧
        ∃ q204:AV,(∀ T:Store,Keep S1 T→ixS 9 1 q194 v196 T fun v S=>v=q204∧S=T)∧∃ q206:AV,(∀ T:Store,Keep S1 T→ld1 q204 T fun v S=>v=q206∧S=T)∧
        ∃ q208:AV,(∀ T:Store,Keep S1 T→bld [(0,1),(1,1),(2,1)] [.v (.int .u8 0),.v (.int .i64 0),.v (.string ByteArray.empty)] [(0,(.v (.int .u8 111))),(1,q192),(2,q206)] T fun v S=>v=q208∧S=T)∧
        ∃ q210:AV,(∀ T:Store,Keep S1 T→bslN 64 3 1 [.v (.int .u8 0),.v (.int .i64 0),.v (.string ByteArray.empty)] [(0,q208)] T fun v S=>v=q210∧S=T)∧appS 64 3 32 q184 q210 S1 fun v212 S1 =>
        ∃ q213:AV,(∀ T:Store,Keep S1 T→shift (.p (S.n+3) 0 0) 7 T fun v S=>v=q213∧S=T)∧stN 1 q213 v212 S1 fun _ S1 =>
        ldN 8 (.p (S.n+3) 0 0) S1 fun v S1=>stN 8 (.p (S.n+1) 0 0) v S1 fun _ S2=>ldN 8 (.p (S.n+1) 0 0) S2 fun v _=>∃ r tr,AEnd.ret v = .ret r∧Keep S S2∧Cv (S2.frz (newer S.n)) S.n r tr∧∃ c:Ci,tr=c.av∧MadeC c∧c.gr.vars=varsL l∧c.inputs=inp) X0):=by
   intro X0 S1 k zn b1 hk fm wf hap wn hol
   have hsub:∀(T:Store) (K:AV→Store→Prop),bin .sub 0 (aI outs.length) (.v (.int .i64 1)) T K=K (aI (outs.length - 1)) T:=fun T K=>bin_sub (by omega) (by omega) 0
   refine⟨_,fun T hT=>by rw[shift_p];exact⟨rfl,rfl⟩,zn,fun T hT=>by rw[ld1_p (fm.kT hT) rfl rfl];exact⟨rfl,rfl⟩,_,fun T hT=>by rw[shift_p];exact⟨rfl,rfl⟩,aL aI outs,fun T hT=>by rw[ld1_p (fm.kT hT) rfl rfl];exact⟨rfl,rfl⟩,aI outs.length,fun T hT=>by rw[lenS_aL];exact⟨rfl,rfl⟩,_,fun T hT=>by rw[hsub];exact⟨rfl,rfl⟩,
    _,fun T hT=>bsl3 rfl rfl rfl ⟨rfl,rfl⟩,?_⟩
   refine fm.pick hl (by decide) (by omega) fun S2 fm n2 f2=>?_
   have p3:=pickV_rng hl (k:=k) (n:=3) (by decide)
   generalize pickV l k 3=x at *
   obtain⟨x,rfl⟩:=Int.eq_ofNat_of_zero_le p3.1
   have wf2:=wf.fm (by omega) n2 f2
   have wn2:=wn.fm (by omega) n2 f2
   refine⟨fun T hT=>bsl3 rfl rfl rfl ⟨rfl,rfl⟩,fun T hT=>by rw[hsub];exact⟨rfl,rfl⟩,fun T hT=>by rw[lenS_aL];exact⟨rfl,rfl⟩,fun T hT=>by rw[ld1_p (fm.kT hT) rfl rfl];exact⟨rfl,rfl⟩,fun T hT=>by rw[shift_p];exact⟨rfl,rfl⟩,fun T hT=>by rw[ld1_p (fm.kT hT) rfl rfl];exact⟨rfl,rfl⟩,fun T hT=>by rw[shift_p];exact⟨rfl,rfl⟩,?_⟩
   obtain⟨t,ht,hx⟩:∃ t:ByteArray,(t=⟨#[111,117,116]⟩∨t=⟨#[108,49]⟩∨t=⟨#[97,45,98]⟩)∧∀(T:Store) (K:AV→Store→Prop),ixS 9 1 (.l [[.v (.string { data:=#[111,117,116] })],[.v (.string { data:=#[108,49] })],[.v (.string { data:=#[97,45,98] })]]) (aI x) T K=K (.q [.v (.string t)] 0) T:=by
    match x,p3 with
    |0,_=>exact⟨_,.inl rfl,fun T K=>ixS_l (i:=0) (by simp) rfl⟩
    |1,_=>exact⟨_,.inr (.inl rfl),fun T K=>ixS_l (i:=1) (by simp) rfl⟩
    |2,_=>exact⟨_,.inr (.inr rfl),fun T K=>ixS_l (i:=2) (by simp) rfl⟩
    |x+3,h=>omega
   refine⟨_,fun T hT=>by rw[hx];exact⟨rfl,rfl⟩,_,fun T hT=>by rw[ld1_q];exact⟨rfl,rfl⟩,_,fun T hT=>by rw[bld_of (cs:=[.v (.int .u8 111),aI (outs.length - 1),.v (.string t)]) rfl];exact⟨rfl,rfl⟩,_,fun T hT=>bslA3 ⟨rfl,rfl⟩,?_⟩
   refine wn2.app (by have:=fm.n;omega) (c:=[.v (.int .u8 111),aI (outs.length - 1),.v (.string t)]) rfl (by cases b1<;>simp) (fun z S4 w4 b4 hz=>?_) rfl
   have n4:=b4.1
   have hn3:=fm.n
   have o4:∀ x,x<S.n+4→S4.obj x=S2.obj x:=fun x hx=>b4.2 x (by omega) (fun b m e=>by have:=wn2.lt e;omega)
   refine⟨_,fun T hT=>by rw[shift_p];exact⟨rfl,rfl⟩,?_⟩
   replace fm:=fm.old n4 o4
   have wf4:=wf2.but b4 hap
   refine fm.st (by simp) (own_one w4) fun S5 fm n5 f5=>?_
   refine fin S5 _ z b1 true t fm (wf4.fm (by omega) n5 f5) (fun _=>⟨hol,ht⟩) ?_
   have w5:=w4.fm (by omega) n5 f5
   rw[List.map_append]
   exact w5
  refine fm.pick hl (by decide) (by omega) fun S2 fm n2 f2=>?_
  have wf2:=wf.fm (by omega) n2 f2
  have p3:=pickV_rng hl (k:=k) (n:=3) (by decide)
  generalize pickV l k 3=x3 at *
  rw[bin_gtr,onB_v]
  refine gd_of (fun hx=>?_) (fun hx=>?_)
  ·rw[shift_p,ld1_p fm.co rfl rfl,bld_of (cs:=[.v (.int .u8 108),aI 0,.v (.string ⟨#[113]⟩)]) rfl]
   refine bslA3 ?_
   refine(Own.nl (S.n+4) S2 64).app (by have:=fm.n;omega) (c:=[.v (.int .u8 108),aI 0,.v (.string ⟨#[113]⟩)]) rfl (by simp) (fun z S4 w4 b4 hz=>?_) rfl
   have n4:=b4.1
   have hn3:=fm.n
   have o4:∀ x,x<S2.n→S4.obj x=S2.obj x:=fun x hx=>b4.2 x (by omega) (fun b m e=>by cases e)
   rw[shift_p]
   replace fm:=fm.old n4 fun x hx=>o4 x (by omega)
   have wf4:=wf2.but b4 (fun _ _ _ _ _ e=>by cases e)
   obtain⟨mz,hmz⟩:=hz
   have hap:Apart z zf:=fun i b m b' m' e e'=>by
    rw[hmz]at e;injection e with e
    have:=wf2.lt e';omega
   refine fm.st (by simp) (own_one w4) fun S5 fm n5 f5=>?_
   have w5:Own (S.n+4) S5 z 64 ([⟨108,0,⟨#[113]⟩⟩].map Na.row):=w4.fm (by omega) n5 f5
   have wf5:=wf4.fm (by omega) n5 f5
   rw[shift_p,ld1_p fm.co rfl rfl,lenS_aL,bin_gtr,onB_v]
   refine gd_of (fun ho=>?_) (fun ho=>fin S5 _ z true false ⟨#[]⟩ fm wf5 (fun h=>by cases h) w5)
   have ho:0<outs.length:=by have:=dT ho;omega
   refine fm.pick hl (by decide) (by omega) fun S6 fm n6 f6=>?_
   have w6:=w5.fm (by omega) n6 f6
   have wf6:=wf5.fm (by omega) n6 f6
   rw[bin_gtr,onB_v]
   refine gd_of (fun _=>?_) (fun _=>fin S6 _ z true false ⟨#[]⟩ fm wf6 (fun h=>by cases h) w6)
   exact snd _ S6 _ z true (by omega) fm wf6 hap w6 ho
  ·rw[shift_p,ld1_p fm.co rfl rfl,lenS_aL,bin_gtr,onB_v]
   refine gd_of (fun ho=>?_) (fun ho=>fin S2 _ .nl false false ⟨#[]⟩ fm wf2 (fun h=>by cases h) (Own.nl _ _ _))
   have ho:0<outs.length:=by have:=dT ho;omega
   refine fm.pick hl (by decide) (by omega) fun S6 fm n6 f6=>?_
   have wf6:=wf2.fm (by omega) n6 f6
   rw[bin_gtr,onB_v]
   refine gd_of (fun _=>?_) (fun _=>fin S6 _ .nl false false ⟨#[]⟩ fm wf6 (fun h=>by cases h) (Own.nl _ _ _))
   exact snd _ S6 _ .nl false (by omega) fm wf6 (fun _ _ _ _ _ e=>by cases e) (Own.nl _ _ _) ho
 have last4:∀(S':Store) (k:Nat) (zo zb zc:AV) (bads cons:List Int),k≤24→Fm S l S' k [aI inp,pL lats,pL g.ands,zo,zb,zc,.nl,.nl]→Own (S.n+4) S' zo 3 (outs.map fun p=>[aI p])→Own (S.n+4) S' zb 3 (bads.map fun p=>[aI p])→Own (S.n+4) S' zc 3 (cons.map fun p=>[aI p])→
     bads.length≤1→cons.length≤1→(∀ x∈bads,g.lit x=true)→(∀ x∈cons,g.lit x=true)→∀ X,
     callV Pg (pickF S) [.v (.int .i64 4)] S' (fun v S'=>bin .quo 0 v (.v (.int .i64 2)) S' fun v S'=>loopV lv9_3 (vc Pg (c9.at_ [1,1,1,1,1,1,1,1,1,1,1,1,1,1,1,0,1,0,0]) (ms9.drop 4)) 156 (env9_3 (.p (S.n+1) 0 0) (pickF S) (.p (S.n+3) 0 0) (aI (2*g.vars)) v) S'
      (blockK 6 (seqK (vc Pg (c9.at_ [1,1,1,1,1,1,1,1,1,1,1,1,1,1,1,1]) (ms9.drop 4)) (bodyK Pg r9 fun e S'=>∃ r tr,e = .ret r∧Keep S S'∧Cv (S'.frz (newer S.n)) S.n r tr∧∃ c:Ci,tr=c.av∧MadeC c∧c.gr.vars=varsL l∧c.inputs=inp)))) X:=by
  intro S' k zo zb zc bads cons hk fm wo wb wc lb lc hbl hcl X
  refine fm.pick hl (by decide) (by omega) fun S2 fm n2 f2=>?_
  have p4:=pickV_rng hl (k:=k) (n:=4) (by decide)
  generalize pickV l k 4=x4 at *
  have hd:0≤x4.tdiv 2∧x4.tdiv 2≤1:=by rw[Int.tdiv_eq_ediv_of_nonneg p4.1];omega
  rw[bin_quo (by decide) (by omega) (by omega)]
  obtain⟨r0,hr0⟩:=Int.eq_ofNat_of_zero_le hd.1
  rw[hr0]
  exact tail S2 _ zo zb zc bads cons r0 (by omega) (by omega) fm (wo.fm (by omega) n2 f2) (wb.fm (by omega) n2 f2) (wc.fm (by omega) n2 f2) lb lc hbl hcl
 have cons3:∀(X0:AV→Store→Prop) (S':Store) (k:Nat) (zo zb:AV) (bads:List Int),k≤22→Fm S l S' k [aI inp,pL lats,pL g.ands,zo,zb,.nl,.nl,.nl]→Own (S.n+4) S' zo 3 (outs.map fun p=>[aI p])→Own (S.n+4) S' zb 3 (bads.map fun p=>[aI p])→
     bads.length≤1→(∀ x∈bads,g.lit x=true)→∀ X:AV→Store→Prop,
     callV Pg (pickF S) [.v (.int .i64 3)] S' (fun v S'=>bin .eql 0 v (.v (.int .i64 0)) S' fun v S'=>onB v fun b=>gd b
      (∃ q111:AV,(∀ T:Store,Keep S' T→shift (.p (S.n+3) 0 0) 5 T fun v S=>v=q111∧S=T)∧∃ q113:AV,(∀ T:Store,Keep S' T→ld1 q111 T fun v S=>v=q113∧S=T)∧callV Pg (pickF S) [aI (2*g.vars)] S' (fun v115 S' =>
       (∀ T:Store,Keep S' T→ld1 q111 T fun v S=>v=q113∧S=T)∧(∀ T:Store,Keep S' T→shift (.p (S.n+3) 0 0) 5 T fun v S=>v=q111∧S=T)∧∃ q118:AV,(∀ T:Store,Keep S' T→bslN 3 1 1 [.v (.int .i64 0)] [(0,v115)] T fun v S=>v=q118∧S=T)∧appS 3 1 8 q113 q118 S' fun v120 S' =>
       ∃ q121:AV,(∀ T:Store,Keep S' T→shift (.p (S.n+3) 0 0) 5 T fun v S=>v=q121∧S=T)∧stN 1 q121 v120 S' fun _ S'=>callV Pg (pickF S) [.v (.int .i64 4)] S' (fun v S'=>bin .quo 0 v (.v (.int .i64 2)) S' fun v S'=>loopV lv9_3 (vc Pg (c9.at_ [1,1,1,1,1,1,1,1,1,1,1,1,1,1,1,0,1,0,0]) (ms9.drop 4)) 156 (env9_3 (.p (S.n+1) 0 0) (pickF S) (.p (S.n+3) 0 0) (aI (2*g.vars)) v) S'
      (blockK 6 (seqK (vc Pg (c9.at_ [1,1,1,1,1,1,1,1,1,1,1,1,1,1,1,1]) (ms9.drop 4)) (bodyK Pg r9 fun e S'=>∃ r tr,e = .ret r∧Keep S S'∧Cv (S'.frz (newer S.n)) S.n r tr∧∃ c:Ci,tr=c.av∧MadeC c∧c.gr.vars=varsL l∧c.inputs=inp)))) X) X0)
      (callV Pg (pickF S) [.v (.int .i64 4)] S' (fun v S'=>bin .quo 0 v (.v (.int .i64 2)) S' fun v S'=>loopV lv9_3 (vc Pg (c9.at_ [1,1,1,1,1,1,1,1,1,1,1,1,1,1,1,0,1,0,0]) (ms9.drop 4)) 156 (env9_3 (.p (S.n+1) 0 0) (pickF S) (.p (S.n+3) 0 0) (aI (2*g.vars)) v) S'
      (blockK 6 (seqK (vc Pg (c9.at_ [1,1,1,1,1,1,1,1,1,1,1,1,1,1,1,1]) (ms9.drop 4)) (bodyK Pg r9 fun e S'=>∃ r tr,e = .ret r∧Keep S S'∧Cv (S'.frz (newer S.n)) S.n r tr∧∃ c:Ci,tr=c.av∧MadeC c∧c.gr.vars=varsL l∧c.inputs=inp)))) X)) X:=by
  intro X0 S' k zo zb bads hk fm wo wb lb hbl X
  refine fm.pick hl (by decide) (by omega) fun S2 fm n2 f2=>?_
  have wo2:=wo.fm (by omega) n2 f2
  have wb2:=wb.fm (by omega) n2 f2
  rw[bin_eql,onB_v]
  refine gd_of (fun _=>?_) (fun _=>last4 S2 _ zo zb .nl bads [] (by omega) fm wo2 wb2 (Own.nl _ _ _) lb (by simp) hbl (fun _ h=>by cases h) X)
  refine⟨_,fun T hT=>by rw[shift_p];exact⟨rfl,rfl⟩,.nl,fun T hT=>by rw[ld1_p (fm.kT hT) rfl rfl];exact⟨rfl,rfl⟩,?_⟩
  refine fm.pick hl hvp (by omega) fun S3 fm n3 f3=>?_
  have pn:=plit (pickV_rng hl (k:=k+1) hvp)
  generalize pickV l (k+1) (2*g.vars)=n at *
  have hn1:∀ x∈[n],g.lit x=true:=fun x hx=>by rw[List.mem_singleton.1 hx];exact pn
  have wo3:=wo2.fm (by omega) n3 f3
  have wb3:=wb2.fm (by omega) n3 f3
  refine⟨fun T hT=>by rw[ld1_p (fm.kT hT) rfl rfl];exact⟨rfl,rfl⟩,fun T hT=>by rw[shift_p];exact⟨rfl,rfl⟩,_,fun T hT=>bsl1 rfl (fun _ h=>by cases h) ⟨rfl,rfl⟩,?_⟩
  refine(Own.nl (S.n+4) S3 3).app (by have:=fm.n;omega) (c:=[aI n]) rfl (by simp) (fun z S4 w4 b4 hz=>?_) rfl
  have n4:=b4.1
  have hn3:=fm.n
  have o4:∀ x,x<S3.n→S4.obj x=S3.obj x:=fun x hx=>b4.2 x (by omega) (fun b m e=>by cases e)
  refine⟨_,fun T hT=>by rw[shift_p];exact⟨rfl,rfl⟩,?_⟩
  replace fm:=fm.old n4 fun x hx=>o4 x (by omega)
  have wo4:=wo3.but b4 (fun _ _ _ _ _ e=>by cases e)
  have wb4:=wb3.but b4 (fun _ _ _ _ _ e=>by cases e)
  refine fm.st (by simp) (own_one w4) fun S5 fm n5 f5=>?_
  exact last4 S5 _ zo zb z bads [n] (by omega) fm (wo4.fm (by omega) n5 f5) (wb4.fm (by omega) n5 f5) (w4.fm (by omega) n5 f5) lb (by simp) hbl hn1 X
 refine fm.pick hl (by decide) (by omega) fun S2 fm n2 f2=>?_
 have wo2:=wo.fm (by omega) n2 f2
 rw[bin_eql,onB_v]
 refine gd_of (fun _=>?_) (fun _=>cons3 _ S2 _ zo .nl [] (by omega) fm wo2 (Own.nl _ _ _) (by simp) (fun _ h=>by cases h) _)
 refine⟨_,fun T hT=>by rw[shift_p];exact⟨rfl,rfl⟩,.nl,fun T hT=>by rw[ld1_p (fm.kT hT) rfl rfl];exact⟨rfl,rfl⟩,?_⟩
 refine fm.pick hl hvp (by omega) fun S3 fm n3 f3=>?_
 have pn:=plit (pickV_rng hl (k:=k+1) hvp)
 generalize pickV l (k+1) (2*g.vars)=n at *
 have hn1:∀ x∈[n],g.lit x=true:=fun x hx=>by rw[List.mem_singleton.1 hx];exact pn
 have wo3:=wo2.fm (by omega) n3 f3
 refine⟨fun T hT=>by rw[ld1_p (fm.kT hT) rfl rfl];exact⟨rfl,rfl⟩,fun T hT=>by rw[shift_p];exact⟨rfl,rfl⟩,_,fun T hT=>bsl1 rfl (fun _ h=>by cases h) ⟨rfl,rfl⟩,?_⟩
 refine(Own.nl (S.n+4) S3 3).app (by have:=fm.n;omega) (c:=[aI n]) rfl (by simp) (fun z S4 w4 b4 hz=>?_) rfl
 have n4:=b4.1
 have hn3:=fm.n
 have o4:∀ x,x<S3.n→S4.obj x=S3.obj x:=fun x hx=>b4.2 x (by omega) (fun b m e=>by cases e)
 refine⟨_,fun T hT=>by rw[shift_p];exact⟨rfl,rfl⟩,?_⟩
 replace fm:=fm.old n4 fun x hx=>o4 x (by omega)
 have wo4:=wo3.but b4 (fun _ _ _ _ _ e=>by cases e)
 refine fm.st (by simp) (own_one w4) fun S5 fm n5 f5=>?_
 exact cons3 _ S5 _ zo z [n] (by omega) fm (wo4.fm (by omega) n5 f5) (w4.fm (by omega) n5 f5) (by simp) hn1 _
structure SpSmall (s:Sp):Prop where
 h1:s.valid.length≤1024
 h2:s.initial.length≤1024
 h3:s.next.length≤1024
 h4:∀ r∈s.next,r.length≤1024
 h5:s.fair.length≤2000
 h6:∀ r∈s.fair,r.length≤1024
def ca0:Ci:=⟨0,[(3,0)],[],[],[],[],[],[]⟩
theorem names0{c:Ci}(h:c.names = []):namesB c=true:=by
 simp only[namesB,decide_eq_true_eq]
 exact⟨fun i hi=>by simp[h]at hi,fun i hi=>by simp[h]at hi,by simp[h]⟩
theorem ca0_ok:ca0.ok:=by
 refine⟨⟨by decide,by decide⟩,by decide,by decide,fun p hp=>?_,(fun p hp=>by cases hp),⟨(fun _ h=>by cases h),by decide⟩,⟨(fun _ h=>by cases h),by decide⟩,⟨(fun _ h=>by cases h),by decide⟩,⟨(fun _ h=>by cases h),by decide⟩,(fun _ h=>by cases h),by decide⟩
 have:p=(3,0):=by simpa[ca0]using hp
 subst this
 exact⟨⟨by decide,by decide⟩,⟨by decide,by decide⟩⟩
theorem ca0_right:ca0.right=true:=by
 refine right_c.2 ⟨by decide,by decide,by decide,by decide,by decide,by decide,by decide,by decide,by decide,by decide,by decide,by decide,names0 rfl⟩
theorem callF_cv'{P:Program}{f:FuncId}{args args2:List AV}{r:AV}(h:Ans P f args2 r){S:Store}(hl:args.length=args2.length)(hcv:∀(k:Nat) (u u2:AV),args[k]? = some u→args2[k]? = some u2→Cv S S.n u u2){Q:AEnd→Store→Prop}{K:AV→Store→Prop}(k:K r S):callF P f args S Q K:=
 .inl (ACalls.conv hl hcv (ACalls.mono (h S) fun e S' h=>by obtain⟨rfl,rfl⟩:=h;exact k))
theorem cv_ci{S:Store}{n:Nat}{i l l':AV}(hi:Cv S n i i)(h:Cv S n l l'):Cv S n (.a [i,l,.nl,.nl,.nl,.nl,.nl,.nl]) (.a [i,l',.l [],.l [],.l [],.l [],.l [],.l []]):=
 .a _ _ rfl fun k u u2 hk hk2=>by
  match k with
  |0=>cases hk;cases hk2;exact hi
  |1=>cases hk;cases hk2;exact h
  |2|3|4|5|6|7=>cases hk;cases hk2;exact .nl
  |k+8=>simp at hk
theorem treeN(l:List Na):Tree (nL l):=Tree.l fun c hc u hu=>by
 obtain⟨a,ha,rfl⟩:=List.mem_map.1 hc
 unfold Na.row at hu
 simp only[List.mem_cons,List.not_mem_nil,or_false]at hu
 rcases hu with rfl|rfl|rfl<;>exact Tree.v _
section
variable {H:Type} {enc:TypeId × Value→H} {w:World} {sp:Nat→Bool} {held:Bool}
theorem i64_wf{n:Int}(h:(Lit.int .i64 n).wf=true):i64R n:=by
 simp[Lit.wf,IntKind.min,IntKind.max,IntKind.bits,IntKind.signed]at h
 exact⟨by omega,by omega⟩
theorem u8_wf{n:Int}(h:(Lit.int .u8 n).wf=true):0≤n∧n<256:=by
 simp[Lit.wf,IntKind.min,IntKind.max,IntKind.bits,IntKind.signed]at h
 omega
theorem u16_wf{n:Int}(h:(Lit.int .u16 n).wf=true):0≤n∧n<65536:=by
 simp[Lit.wf,IntKind.min,IntKind.max,IntKind.bits,IntKind.signed]at h
 omega
theorem opI:Opens enc Pg w sp held 3 1 (fun n:Int=>[aI n]) (fun n=>(Lit.int .i64 n).wf=true):=opens_int Tryz.underlying3
theorem opU:Opens enc Pg w sp held 5 1 (fun n:Int=>[AV.v (.int .u8 n)]) (fun n=>(Lit.int .u8 n).wf=true):=opens_int Tryz.underlying5
theorem opV:Opens enc Pg w sp held 60 1 (fun n:Int=>[aW16 n]) (fun n=>(Lit.int .u16 n).wf=true):=opens_int Tryz.underlying60
theorem opVs:Opens enc Pg w sp held 22 1 (fun l:List Int=>[aL aW16 l]) (fun l=>l.length≤maxLen∧∀ a∈l,(Lit.int .u16 a).wf=true):=opens_slice Tryz.underlying22 (by kernel_rfl) (by decide) opV
end
inductive Fo where
 |mk (kind:Int) (name:ByteArray) (lit:Int) (kids:List Fo)
def Fo.kind:Fo→Int|.mk k _ _ _=>k
def Fo.lit:Fo→Int|.mk _ _ l _=>l
theorem Fo.ind{P:Fo→Prop}(h:∀ k n l ks,(∀ f∈ks,P f)→P (.mk k n l ks))(f:Fo):P f:=
 Fo.rec (motive_1:=P) (motive_2:=fun l=>∀ f∈l,P f) (fun k n l ks ih=>h k n l ks ih) (fun f hf=>by cases hf)
  (fun a l ha hl f hf=>by
   rcases List.mem_cons.1 hf with rfl|hf
   ·exact ha
   ·exact hl f hf) f
mutual
def Fo.row:Fo→List AV
 |.mk k n l ks=>[aI k,.v (.string n),aI l,.l (Fo.rows ks)]
def Fo.rows:List Fo→List (List AV)
 |[]=>[]
 |f :: fs=>Fo.row f :: Fo.rows fs
end
def foL(l:List Fo):AV:=.l (l.map Fo.row)
theorem Fo.rows_map:∀ l:List Fo,Fo.rows l=l.map Fo.row
 |[]=>by rw[Fo.rows];rfl
 |f :: fs=>by rw[Fo.rows,Fo.rows_map fs];rfl
theorem Fo.row_mk(k:Int)(n:ByteArray)(l:Int)(ks:List Fo):Fo.row (.mk k n l ks) = [aI k,.v (.string n),aI l,foL ks]:=by rw[Fo.row,Fo.rows_map];rfl
def Fo.av(f:Fo):AV:=.a f.row
theorem Fo.row_len(f:Fo):f.row.length=4:=by cases f;rw[Fo.row_mk];rfl
inductive Fo.ok:Fo→Prop
 |mk (k:Int) (n:ByteArray) (l:Int) (ks:List Fo) (h1:i64R k) (h2:i64R l) (h3:n.size≤9223372036854775807) (h4:ks.length≤1000000) (h:∀ f∈ks,Fo.ok f):Fo.ok (.mk k n l ks)
def kidsN(k:Int):Int:=if k<1∨18<k then -1 else if k≤3 then 0 else if k=4∨9≤k∧k≤14 then 1 else 2
mutual
def Fo.mayB:Fo→Int→Bool
 |.mk k n l ks,d=>decide (0<d) && (decide (l=0∨0<l∧k=3) && (decide (n=(⟨#[]⟩:ByteArray)) && (decide ((ks.length:Int)=kidsN k) && Fo.mayBs ks (d - 1))))
def Fo.mayBs:List Fo→Int→Bool
 |[],_=>true
 |f :: fs,d=>Fo.mayB f d && Fo.mayBs fs d
end
theorem Fo.mayBs_all:∀(l:List Fo) (d:Int),Fo.mayBs l d=l.all fun f=>f.mayB d
 |[],d=>by rw[Fo.mayBs];rfl
 |f :: fs,d=>by rw[Fo.mayBs,Fo.mayBs_all fs];rfl
theorem Fo.mayB_mk(k:Int)(n:ByteArray)(l:Int)(ks:List Fo)(d:Int):Fo.mayB (.mk k n l ks) d=(decide (0<d) && (decide (l=0∨0<l∧k=3) && (decide (n=(⟨#[]⟩:ByteArray)) && (decide ((ks.length:Int)=kidsN k) && ks.all fun f=>f.mayB (d - 1))))):=by rw[Fo.mayB,Fo.mayBs_all]
mutual
def Fo.litsB(g:Gr):Fo→Bool
 |.mk k _ l ks=>(decide (k≠3) || g.lit l) && Fo.litsBs g ks
def Fo.litsBs(g:Gr):List Fo→Bool
 |[]=>true
 |f :: fs=>Fo.litsB g f && Fo.litsBs g fs
end
theorem Fo.litsBs_all(g:Gr):∀(l:List Fo),Fo.litsBs g l=l.all fun f=>f.litsB g
 |[]=>by rw[Fo.litsBs];rfl
 |f :: fs=>by rw[Fo.litsBs,Fo.litsBs_all g fs];rfl
theorem Fo.litsB_mk(g:Gr)(k:Int)(n:ByteArray)(l:Int)(ks:List Fo):Fo.litsB g (.mk k n l ks)=((decide (k≠3) || g.lit l) && ks.all fun f=>f.litsB g):=by rw[Fo.litsB,Fo.litsBs_all]
def mayC (c:Ci) (f:Fo):Bool:=c.right && (f.mayB 60 && f.litsB c.gr)
@[simp] theorem lenS_foL(l:List Fo){S:Store}{K:AV→Store→Prop}:lenS (foL l) S K=K (aI l.length) S:=by simp[foL]
theorem ixS_foL{l:List Fo}{e i:Nat}{S:Store}{K:AV→Store→Prop}(h:i<l.length):ixS e 4 (foL l) (aI i) S K=K (.q l[i].row 0) S:=by
 unfold foL
 rw[ixS_l (by simpa using h) (by simp[Fo.row_len])]
 simp
theorem ldN_q{c:List AV}{n:Nat}{S:Store}{K:AV→Store→Prop}(h:c.length=n):ldN n (.q c 0) S K=K (.a c) S:=by
 subst h
 simp[ldN,rdN,place]
section
variable {H:Type} {enc:TypeId × Value→H} {w:World} {sp:Nat→Bool} {held:Bool}
theorem opUs:Opens enc Pg w sp held 23 1 (fun l:List Int=>[aL (fun n=>AV.v (.int .u8 n)) l]) (fun l=>l.length≤maxLen∧∀ a∈l,(Lit.int .u8 a).wf=true):=opens_slice Tryz.underlying23 (by kernel_rfl) (by decide) opU
end
section
variable {H:Type} {enc:TypeId × Value→H} {w:World} {sp:Nat→Bool} {held:Bool}
end
inductive Tn where
 |mk (kind:Int) (state:Int) (back:Int) (states:List Int) (kids:List Tn)
theorem Tn.ind{P:Tn→Prop}(h:∀ k s b ss ks,(∀ t∈ks,P t)→P (.mk k s b ss ks))(t:Tn):P t:=
 Tn.rec (motive_1:=P) (motive_2:=fun l=>∀ t∈l,P t) (fun k s b ss ks ih=>h k s b ss ks ih) (fun t ht=>by cases ht)
  (fun a l ha hl t ht=>by
   rcases List.mem_cons.1 ht with rfl|ht
   ·exact ha
   ·exact hl t ht) t
mutual
def Tn.row:Tn→List AV
 |.mk k s b ss ks=>[aI k,aI s,aI b,aL aI ss,.l (Tn.rows ks)]
def Tn.rows:List Tn→List (List AV)
 |[]=>[]
 |t :: ts=>Tn.row t :: Tn.rows ts
end
def tnL(l:List Tn):AV:=.l (l.map Tn.row)
theorem Tn.rows_map:∀ l:List Tn,Tn.rows l=l.map Tn.row
 |[]=>by rw[Tn.rows];rfl
 |t :: ts=>by rw[Tn.rows,Tn.rows_map ts];rfl
theorem Tn.row_mk(k s b:Int)(ss:List Int)(ks:List Tn):Tn.row (.mk k s b ss ks) = [aI k,aI s,aI b,aL aI ss,tnL ks]:=by rw[Tn.row,Tn.rows_map];rfl
def Tn.av(t:Tn):AV:=.a t.row
theorem Tn.row_len(t:Tn):t.row.length=5:=by cases t;rw[Tn.row_mk];rfl
inductive Tn.got:Tn→Prop
 |mk (k s b:Int) (ss:List Int) (ks:List Tn) (h1:i64R k) (h2:i64R s) (h3:i64R b) (h4:ss.length≤maxLen) (h5:∀ x∈ss,i64R x) (h6:ks.length≤maxLen) (h:∀ t∈ks,Tn.got t):Tn.got (.mk k s b ss ks)
section
variable {H:Type} {enc:TypeId × Value→H} {w:World} {sp:Nat→Bool} {held:Bool}
end
section
set_option maxRecDepth 100000
def c21:Code:=(Tryz.f21.body).getD .skip
def r21:List ResultVar:=Tryz.f21.results.toList
def env21_0(y1 y2 y4 y5 y6:AV):List AV:=[y1,y2,y4,y5,y6]
def lv21_0:List Nat:=[1,2,4,5,6]
def ms21:List (List Nat):=[lv21_0,[]]
def m21(x0 x1:AV)(S:Store)(Q:PoT):Prop:=
 boxN 32 4 x0 S fun c S=>boxN 32 4 (.a [.v (.int .i64 0),.v (.string ByteArray.empty),.v (.int .i64 0),.nl]) S fun d S=>shift c 0 S fun e S=>ld1 e S fun f S=>bld [(0,1),(1,1),(2,1),(3,1)] [.v (.int .i64 0),.v (.string ByteArray.empty),.v (.int .i64 0),.nl] [(0,f)] S fun g S=>boxN 32 4 (.a [.v (.int .i64 0),.v (.string ByteArray.empty),.v (.int .i64 0),.nl]) S fun h S=>stN 4 h g S fun i S=>shift c 0 S fun k S=>ld1 k S fun l S=>bin .eql 0 l (.v (.int .i64 3)) S fun m S=>onB m fun b=>gd b (∃ n:AV,(∀ T:Store,Keep S T→shift c 1 T fun o S=>o=n∧S=T)∧∃ p:AV,(∀ T:Store,Keep S T→ld1 n T fun q S=>q=p∧S=T)∧∃ r:AV,(∀ T:Store,Keep S T→lenStr p T fun s S=>s=r∧S=T)∧∃ t:AV,(∀ T:Store,Keep S T→bin .mul 0 r (.v (.int .i64 7)) T fun u S=>u=t∧S=T)∧∃ w:AV,(∀ T:Store,Keep S T→shift c 1 T fun x S=>x=w∧S=T)∧∃ y:AV,(∀ T:Store,Keep S T→ld1 w T fun z S=>z=y∧S=T)∧∃ A:AV,(∀ T:Store,Keep S T→ixStr y (.v (.int .i64 0)) T fun B S=>B=A∧S=T)∧∃ C:AV,(∀ T:Store,Keep S T→convI .i64 A T fun D S=>D=C∧S=T)∧∃ E:AV,(∀ T:Store,Keep S T→bin .add 0 t C T fun F S=>F=E∧S=T)∧∃ G:AV,(∀ T:Store,Keep S T→mxI true x1 (.v (.int .i64 1)) T fun H S=>H=G∧S=T)∧∃ I:AV,(∀ T:Store,Keep S T→bin .rem 0 E G T fun J S=>J=I∧S=T)∧∃ K:AV,(∀ T:Store,Keep S T→shift h 2 T fun L S=>L=K∧S=T)∧stN 1 K I S fun M S=>loopV lv21_0 (vc Pg (c21.at_ [1,1,1,0,1,0,0]) (ms21.drop 1)) 46 (env21_0 x1 c d h (.v (.int .i64 0))) S (blockK 0 (seqK (vc Pg (c21.at_ [1,1,1,1]) (ms21.drop 1)) (bodyK Pg r21 Q)))) (loopV lv21_0 (vc Pg (c21.at_ [1,1,1,0,1,0,0]) (ms21.drop 1)) 46 (env21_0 x1 c d h (.v (.int .i64 0))) S (blockK 0 (seqK (vc Pg (c21.at_ [1,1,1,1]) (ms21.drop 1)) (bodyK Pg r21 Q))))
theorem calls21{x0 x1:AV}{S:Store}{Q:PoT}(h:m21 x0 x1 S Q):ACalls Pg 21 [x0,x1] S Q:=
 calls_of_vc (fn:=Tryz.f21) (c:=c21) (n:=46) Tryz.func21 (by kernel_rfl) (by kernel_rfl) (by kernel_rfl) ms21 (Eq.mpr (by kernel_rfl) h)
def b21_0(y1 y2 y4 y5 y6:AV)(S:Store)(KE0:KeT)(Q:PoT):Prop:=
 shift y2 3 S fun a S=>ld1 a S fun c S=>lenS c S fun d S=>bin .lss 0 y6 d S fun e S=>onB e fun b=>gd b (∃ f:AV,(∀ T:Store,Keep S T→shift y5 3 T fun g S=>g=f∧S=T)∧∃ h:AV,(∀ T:Store,Keep S T→ld1 f T fun i S=>i=h∧S=T)∧∃ k:AV,(∀ T:Store,Keep S T→shift y2 3 T fun l S=>l=k∧S=T)∧∃ m:AV,(∀ T:Store,Keep S T→ld1 k T fun n S=>n=m∧S=T)∧∃ o:AV,(∀ T:Store,Keep S T→ixS 32 4 m y6 T fun p S=>p=o∧S=T)∧∃ q:AV,(∀ T:Store,Keep S T→ldN 4 o T fun r S=>r=q∧S=T)∧∃ s:AV,(∀ T:Store,Keep S T→callF Pg 21 [q,y1] T (fun _ _=>False) fun t S=>t=s∧S=T)∧∃ u:AV,(∀ T:Store,Keep S T→bslN 32 4 1 [.v (.int .i64 0),.v (.string ByteArray.empty),.v (.int .i64 0),.nl] [(0,s)] T fun w S=>w=u∧S=T)∧appS 32 4 56 h u S fun x S=>∃ y:AV,(∀ T:Store,Keep S T→shift y5 3 T fun z S=>z=y∧S=T)∧stN 1 y x S fun A S=>bin .add 0 y6 (.v (.int .i64 1)) S fun B S=>KE0 46 (env21_0 y1 y2 y4 y5 B) S) (ldN 4 y5 S fun C S=>stN 4 y4 C S fun D S=>ldN 4 y4 S fun E _=>Q (.ret E) S)
theorem b21_0_eq(y1 y2 y4 y5 y6:AV)(S:Store)(KE0:KeT)(Q:PoT):vc Pg (c21.at_ [1,1,1,0,1,0,0]) (ms21.drop 1) (mkE 46 lv21_0 (env21_0 y1 y2 y4 y5 y6)) S (thenK (fgK lv21_0 KE0) (blockK 0 (seqK (vc Pg (c21.at_ [1,1,1,1]) (ms21.drop 1)) (bodyK Pg r21 Q))))=b21_0 y1 y2 y4 y5 y6 S KE0 Q:=by kernel_rfl
theorem loop21_0{y1 y2 y4 y5:AV}{y60:AV}{S:Store}{Q:PoT}(I:AV→Store→Prop)(μ:AV→Store→Nat)(h0:I y60 S)
    (hr:∀(y6:AV) (S:Store),I y6 S→∀ KE0:KeT,(∀(y6':AV) (S':Store),I y6' S'→μ y6' S'<μ y6 S→KE0 46 (env21_0 y1 y2 y4 y5 y6') S')→b21_0 y1 y2 y4 y5 y6 S KE0 Q):
    loopV lv21_0 (vc Pg (c21.at_ [1,1,1,0,1,0,0]) (ms21.drop 1)) 46 (env21_0 y1 y2 y4 y5 y60) S (blockK 0 (seqK (vc Pg (c21.at_ [1,1,1,1]) (ms21.drop 1)) (bodyK Pg r21 Q))):=by
 refine⟨fun n e S=>n=46∧∃ y6:AV,e=(env21_0 y1 y2 y4 y5 y6)∧I y6 S,fun _ e S=>μ (e.getD 4 .j) S,?_,?_⟩
 ·exact⟨_,_,Wk.refl _ _,rfl,_,rfl,h0⟩
 ·rintro _ e S ⟨rfl,y6,rfl,hI⟩
  exact(b21_0_eq _ _ _ _ _ _ _ _).mpr (hr y6 S hI _ (fun y6' S' hI' hm=>⟨_,_,Wk.refl _ _,⟨rfl,_,rfl,hI'⟩,hm⟩))
def c122:Code:=(Tryz.f122.body).getD .skip
def r122:List ResultVar:=Tryz.f122.results.toList
def env122_0(y1 y5 y6 y22 y23:AV):List AV:=[y1,y5,y6,y22,y23]
def lv122_0:List Nat:=[1,5,6,22,23]
def ms122:List (List Nat):=[lv122_0,[]]
def m122(x0 x1:AV)(S:Store)(Q:PoT):Prop:=
 boxN 29 8 x0 S fun c S=>ldN 8 c S fun d S=>callF Pg 44 [d] S Q fun e S=>boxN 48 2 (.a [.v (.int .i64 0),.nl]) S fun f S=>stN 2 f e S fun g S=>ldN 8 c S fun h S=>callF Pg 45 [h] S Q fun i S=>un .not i S fun k S=>onB k fun b=>gd b (Q (.ret .nl) S) (shift f 0 S fun l S=>ld1 l S fun m S=>bin .gtr 0 m (.v (.int .i64 60)) S fun n S=>onB n fun b=>gd b (Q (.ret .nl) S) (shift f 0 S fun o S=>ld1 o S fun p S=>mkN 4 1 [.v (.bool false)] p p S fun q S=>lenS q S fun r S=>loopV lv122_0 (vc Pg (c122.at_ [1,1,1,1,0,1,0,0]) (ms122.drop 1)) 38 (env122_0 x1 f q r (.v (.int .i64 0))) S (blockK 0 (seqK (vc Pg (c122.at_ [1,1,1,1,1]) (ms122.drop 1)) (bodyK Pg r122 Q)))))
theorem calls122{x0 x1:AV}{S:Store}{Q:PoT}(h:m122 x0 x1 S Q):ACalls Pg 122 [x0,x1] S Q:=
 calls_of_vc (fn:=Tryz.f122) (c:=c122) (n:=38) Tryz.func122 (by kernel_rfl) (by kernel_rfl) (by kernel_rfl) ms122 (Eq.mpr (by kernel_rfl) h)
def b122_0(y1 y5 y6 y22 y23:AV)(S:Store)(KE0:KeT)(Q:PoT):Prop:=
 bin .lss 0 y23 y22 S fun a S=>onB a fun b=>gd b (bin .shr 0 y1 y23 S fun c S=>bin .and 0 c (.v (.int .i64 1)) S fun d S=>bin .eql 0 d (.v (.int .i64 1)) S fun e S=>ixS 4 1 y6 y23 S fun f S=>stN 1 f e S fun g S=>bin .add 0 y23 (.v (.int .i64 1)) S fun h S=>KE0 38 (env122_0 y1 y5 y6 y22 h) S) (ldN 2 y5 S fun i S=>callF Pg 125 [i,y6] S Q fun k S=>Q (.ret k) S)
theorem b122_0_eq(y1 y5 y6 y22 y23:AV)(S:Store)(KE0:KeT)(Q:PoT):vc Pg (c122.at_ [1,1,1,1,0,1,0,0]) (ms122.drop 1) (mkE 38 lv122_0 (env122_0 y1 y5 y6 y22 y23)) S (thenK (fgK lv122_0 KE0) (blockK 0 (seqK (vc Pg (c122.at_ [1,1,1,1,1]) (ms122.drop 1)) (bodyK Pg r122 Q))))=b122_0 y1 y5 y6 y22 y23 S KE0 Q:=by kernel_rfl
theorem loop122_0{y1 y5 y6 y22:AV}{y230:AV}{S:Store}{Q:PoT}(I:AV→Store→Prop)(μ:AV→Store→Nat)(h0:I y230 S)
    (hr:∀(y23:AV) (S:Store),I y23 S→∀ KE0:KeT,(∀(y23':AV) (S':Store),I y23' S'→μ y23' S'<μ y23 S→KE0 38 (env122_0 y1 y5 y6 y22 y23') S')→b122_0 y1 y5 y6 y22 y23 S KE0 Q):
    loopV lv122_0 (vc Pg (c122.at_ [1,1,1,1,0,1,0,0]) (ms122.drop 1)) 38 (env122_0 y1 y5 y6 y22 y230) S (blockK 0 (seqK (vc Pg (c122.at_ [1,1,1,1,1]) (ms122.drop 1)) (bodyK Pg r122 Q))):=by
 refine⟨fun n e S=>n=38∧∃ y23:AV,e=(env122_0 y1 y5 y6 y22 y23)∧I y23 S,fun _ e S=>μ (e.getD 4 .j) S,?_,?_⟩
 ·exact⟨_,_,Wk.refl _ _,rfl,_,rfl,h0⟩
 ·rintro _ e S ⟨rfl,y23,rfl,hI⟩
  exact(b122_0_eq _ _ _ _ _ _ _ _).mpr (hr y23 S hI _ (fun y23' S' hI' hm=>⟨_,_,Wk.refl _ _,⟨rfl,_,rfl,hI'⟩,hm⟩))
def c121:Code:=(Tryz.f121.body).getD .skip
def ms121:List (List Nat):=[[]]
def m121(x0 x1:AV)(S:Store)(Q:PoT):Prop:=
 bin .geq 0 x1 (.v (.int .i64 0)) S fun a S=>onB a fun b=>gd b (bin .quo 0 x1 (.v (.int .i64 2)) S fun c S=>lenS x0 S fun d S=>bin .lss 0 c d S fun e S=>onB e fun b=>gd b (bin .quo 0 x1 (.v (.int .i64 2)) S fun f S=>ixS 4 1 x0 f S fun g S=>ld1 g S fun h S=>bin .and 0 x1 (.v (.int .i64 1)) S fun i S=>bin .eql 0 i (.v (.int .i64 1)) S fun k S=>bin .neq 1 h k S fun l S=>Q (.ret l) S) (Q (.ret (.v (.bool false))) S)) (Q (.ret (.v (.bool false))) S)
theorem calls121{x0 x1:AV}{S:Store}{Q:PoT}(h:m121 x0 x1 S Q):ACalls Pg 121 [x0,x1] S Q:=
 calls_of_vc (fn:=Tryz.f121) (c:=c121) (n:=25) Tryz.func121 (by kernel_rfl) (by kernel_rfl) (by kernel_rfl) ms121 (Eq.mpr (by kernel_rfl) h)
def c111:Code:=(Tryz.f111.body).getD .skip
def ms111:List (List Nat):=[[]]
def m111(x0 x1 x2:AV)(S:Store)(Q:PoT):Prop:=
 boxN 29 8 x0 S fun a S=>ldN 8 a S fun c S=>callF Pg 122 [c,x1] S Q fun d S=>callF Pg 121 [d,x2] S Q fun e S=>Q (.ret e) S
theorem calls111{x0 x1 x2:AV}{S:Store}{Q:PoT}(h:m111 x0 x1 x2 S Q):ACalls Pg 111 [x0,x1,x2] S Q:=
 calls_of_vc (fn:=Tryz.f111) (c:=c111) (n:=12) Tryz.func111 (by kernel_rfl) (by kernel_rfl) (by kernel_rfl) ms111 (Eq.mpr (by kernel_rfl) h)
def c112:Code:=(Tryz.f112.body).getD .skip
def r112:List ResultVar:=Tryz.f112.results.toList
def env112_0(y2 y4 y5 y15 y16 y17:AV):List AV:=[y2,y4,y5,y15,y16,y17]
def lv112_0:List Nat:=[2,4,5,15,16,17]
def ms112:List (List Nat):=[lv112_0,[]]
def m112(x0 x1:AV)(S:Store)(Q:PoT):Prop:=
 boxN 29 8 x0 S fun a S=>ldN 8 a S fun c S=>callF Pg 122 [c,x1] S Q fun d S=>lenS d S fun e S=>bin .eql 0 e (.v (.int .i64 0)) S fun f S=>onB f fun b=>gd b (Q (.ret (.v (.int .i64 0))) S) (shift a 1 S fun g S=>ld1 g S fun h S=>lenS h S fun i S=>loopV lv112_0 (vc Pg (c112.at_ [1,1,1,0,1,0,0]) (ms112.drop 1)) 35 (env112_0 a (.v (.int .i64 0)) d h i (.v (.int .i64 0))) S (blockK 0 (seqK (vc Pg (c112.at_ [1,1,1,1]) (ms112.drop 1)) (bodyK Pg r112 Q))))
theorem calls112{x0 x1:AV}{S:Store}{Q:PoT}(h:m112 x0 x1 S Q):ACalls Pg 112 [x0,x1] S Q:=
 calls_of_vc (fn:=Tryz.f112) (c:=c112) (n:=35) Tryz.func112 (by kernel_rfl) (by kernel_rfl) (by kernel_rfl) ms112 (Eq.mpr (by kernel_rfl) h)
def b112_0(y2 y4 y5 y15 y16 y17:AV)(S:Store)(KE0:KeT)(Q:PoT):Prop:=
 bin .lss 0 y17 y16 S fun c S=>onB c fun b=>gd b (ixS 59 2 y15 y17 S fun d S=>ldN 2 d S fun e S=>boxN 59 2 (.a [.v (.int .i64 0),.v (.int .i64 0)]) S fun f S=>stN 2 f e S fun g S=>shift f 0 S fun h S=>ld1 h S fun i S=>callF Pg 121 [y5,i] S Q fun k S=>onB k fun b=>gd b (shift y2 0 S fun l S=>ld1 l S fun m S=>bin .add 0 m y17 S fun n S=>bin .shl 0 (.v (.int .i64 1)) n S fun o S=>bin .or 0 y4 o S fun p S=>bin .add 0 y17 (.v (.int .i64 1)) S fun q S=>KE0 35 (env112_0 y2 p y5 y15 y16 q) S) (bin .add 0 y17 (.v (.int .i64 1)) S fun r S=>KE0 35 (env112_0 y2 y4 y5 y15 y16 r) S)) (Q (.ret y4) S)
theorem b112_0_eq(y2 y4 y5 y15 y16 y17:AV)(S:Store)(KE0:KeT)(Q:PoT):vc Pg (c112.at_ [1,1,1,0,1,0,0]) (ms112.drop 1) (mkE 35 lv112_0 (env112_0 y2 y4 y5 y15 y16 y17)) S (thenK (fgK lv112_0 KE0) (blockK 0 (seqK (vc Pg (c112.at_ [1,1,1,1]) (ms112.drop 1)) (bodyK Pg r112 Q))))=b112_0 y2 y4 y5 y15 y16 y17 S KE0 Q:=by kernel_rfl
theorem loop112_0{y2 y5 y15 y16:AV}{y40 y170:AV}{S:Store}{Q:PoT}(I:AV→AV→Store→Prop)(μ:AV→AV→Store→Nat)(h0:I y40 y170 S)
    (hr:∀(y4 y17:AV) (S:Store),I y4 y17 S→∀ KE0:KeT,(∀(y4' y17':AV) (S':Store),I y4' y17' S'→μ y4' y17' S'<μ y4 y17 S→KE0 35 (env112_0 y2 y4' y5 y15 y16 y17') S')→b112_0 y2 y4 y5 y15 y16 y17 S KE0 Q):
    loopV lv112_0 (vc Pg (c112.at_ [1,1,1,0,1,0,0]) (ms112.drop 1)) 35 (env112_0 y2 y40 y5 y15 y16 y170) S (blockK 0 (seqK (vc Pg (c112.at_ [1,1,1,1]) (ms112.drop 1)) (bodyK Pg r112 Q))):=by
 refine⟨fun n e S=>n=35∧∃ y4 y17:AV,e=(env112_0 y2 y4 y5 y15 y16 y17)∧I y4 y17 S,fun _ e S=>μ (e.getD 1 .j) (e.getD 5 .j) S,?_,?_⟩
 ·exact⟨_,_,Wk.refl _ _,rfl,_,_,rfl,h0⟩
 ·rintro _ e S ⟨rfl,y4,y17,rfl,hI⟩
  exact(b112_0_eq _ _ _ _ _ _ _ _ _).mpr (hr y4 y17 S hI _ (fun y4' y17' S' hI' hm=>⟨_,_,Wk.refl _ _,⟨rfl,_,_,rfl,hI'⟩,hm⟩))
def c26:Code:=(Tryz.f26.body).getD .skip
def r26:List ResultVar:=Tryz.f26.results.toList
def env26_0(y1 y2 y5:AV):List AV:=[y1,y2,y5]
def lv26_0:List Nat:=[1,2,5]
def ms26:List (List Nat):=[lv26_0,[]]
def m26(x0 x1:AV)(S:Store)(Q:PoT):Prop:=
 boxN 32 4 x0 S fun a S=>(fun S0:Store=>∃ c:AV,(bin .lss 0 x1 (.v (.int .i64 1)) S fun d S=>d=c∧S=S0)∧onB c fun b=>gd b (∃ e:AV,((.v (.bool true))=e∧S=S0)∧onB e fun b=>gd b (∃ f:AV,((.v (.bool true))=f∧S=S0)∧onB f fun b=>gd b (∃ g:AV,((.v (.bool true))=g∧S=S0)∧onB g fun b=>gd b (∃ h:AV,((.v (.bool true))=h∧S=S0)∧onB h fun b=>gd b (Q (.ret (.v (.bool false))) S) (loopV lv26_0 (vc Pg (c26.at_ [1,1,0,1,0,0]) (ms26.drop 1)) 53 (env26_0 x1 a (.v (.int .i64 0))) S (blockK 0 (seqK (vc Pg (c26.at_ [1,1,1]) (ms26.drop 1)) (bodyK Pg r26 Q))))) (∃ i:AV,(shift a 0 S fun k S=>k=i∧S=S0)∧∃ l:AV,(ld1 i S fun m S=>m=l∧S=S0)∧∃ n:AV,(bin .neq 0 l (.v (.int .i64 3)) S fun o S=>o=n∧S=S0)∧onB n fun b=>gd b (∃ p:AV,(shift a 2 S fun q S=>q=p∧S=S0)∧∃ r:AV,(ld1 p S fun s S=>s=r∧S=S0)∧∃ t:AV,(bin .neq 0 r (.v (.int .i64 0)) S fun u S=>u=t∧S=S0)∧∃ w:AV,(t=w∧S=S0)∧∃ x:AV,(w=x∧S=S0)∧onB x fun b=>gd b (Q (.ret (.v (.bool false))) S) (loopV lv26_0 (vc Pg (c26.at_ [1,1,0,1,0,0]) (ms26.drop 1)) 53 (env26_0 x1 a (.v (.int .i64 0))) S (blockK 0 (seqK (vc Pg (c26.at_ [1,1,1]) (ms26.drop 1)) (bodyK Pg r26 Q))))) (∃ y:AV,((.v (.bool false))=y∧S=S0)∧∃ z:AV,(y=z∧S=S0)∧onB z fun b=>gd b (Q (.ret (.v (.bool false))) S) (loopV lv26_0 (vc Pg (c26.at_ [1,1,0,1,0,0]) (ms26.drop 1)) 53 (env26_0 x1 a (.v (.int .i64 0))) S (blockK 0 (seqK (vc Pg (c26.at_ [1,1,1]) (ms26.drop 1)) (bodyK Pg r26 Q))))))) (∃ A:AV,(shift a 2 S fun B S=>B=A∧S=S0)∧∃ C:AV,(ld1 A S fun D S=>D=C∧S=S0)∧∃ E:AV,(bin .lss 0 C (.v (.int .i64 0)) S fun F S=>F=E∧S=S0)∧∃ G:AV,(E=G∧S=S0)∧onB G fun b=>gd b (∃ H:AV,((.v (.bool true))=H∧S=S0)∧onB H fun b=>gd b (Q (.ret (.v (.bool false))) S) (loopV lv26_0 (vc Pg (c26.at_ [1,1,0,1,0,0]) (ms26.drop 1)) 53 (env26_0 x1 a (.v (.int .i64 0))) S (blockK 0 (seqK (vc Pg (c26.at_ [1,1,1]) (ms26.drop 1)) (bodyK Pg r26 Q))))) (∃ I:AV,(shift a 0 S fun J S=>J=I∧S=S0)∧∃ K:AV,(ld1 I S fun L S=>L=K∧S=S0)∧∃ M:AV,(bin .neq 0 K (.v (.int .i64 3)) S fun N S=>N=M∧S=S0)∧onB M fun b=>gd b (∃ O:AV,(shift a 2 S fun P S=>P=O∧S=S0)∧∃ R:AV,(ld1 O S fun T S=>T=R∧S=S0)∧∃ U:AV,(bin .neq 0 R (.v (.int .i64 0)) S fun V S=>V=U∧S=S0)∧∃ W:AV,(U=W∧S=S0)∧∃ X:AV,(W=X∧S=S0)∧onB X fun b=>gd b (Q (.ret (.v (.bool false))) S) (loopV lv26_0 (vc Pg (c26.at_ [1,1,0,1,0,0]) (ms26.drop 1)) 53 (env26_0 x1 a (.v (.int .i64 0))) S (blockK 0 (seqK (vc Pg (c26.at_ [1,1,1]) (ms26.drop 1)) (bodyK Pg r26 Q))))) (∃ Y:AV,((.v (.bool false))=Y∧S=S0)∧∃ Z:AV,(Y=Z∧S=S0)∧onB Z fun b=>gd b (Q (.ret (.v (.bool false))) S) (loopV lv26_0 (vc Pg (c26.at_ [1,1,0,1,0,0]) (ms26.drop 1)) 53 (env26_0 x1 a (.v (.int .i64 0))) S (blockK 0 (seqK (vc Pg (c26.at_ [1,1,1]) (ms26.drop 1)) (bodyK Pg r26 Q)))))))) (∃ a0:AV,(shift a 1 S fun a1 S=>a1=a0∧S=S0)∧∃ a2:AV,(ld1 a0 S fun a3 S=>a3=a2∧S=S0)∧∃ a4:AV,(bin .neq 0 a2 (.v (.string { data:=#[] })) S fun a5 S=>a5=a4∧S=S0)∧∃ a6:AV,(a4=a6∧S=S0)∧onB a6 fun b=>gd b (∃ a7:AV,((.v (.bool true))=a7∧S=S0)∧onB a7 fun b=>gd b (∃ a8:AV,((.v (.bool true))=a8∧S=S0)∧onB a8 fun b=>gd b (Q (.ret (.v (.bool false))) S) (loopV lv26_0 (vc Pg (c26.at_ [1,1,0,1,0,0]) (ms26.drop 1)) 53 (env26_0 x1 a (.v (.int .i64 0))) S (blockK 0 (seqK (vc Pg (c26.at_ [1,1,1]) (ms26.drop 1)) (bodyK Pg r26 Q))))) (∃ a9:AV,(shift a 0 S fun b0 S=>b0=a9∧S=S0)∧∃ b1:AV,(ld1 a9 S fun b2 S=>b2=b1∧S=S0)∧∃ b3:AV,(bin .neq 0 b1 (.v (.int .i64 3)) S fun b5 S=>b5=b3∧S=S0)∧onB b3 fun b=>gd b (∃ b7:AV,(shift a 2 S fun b9 S=>b9=b7∧S=S0)∧∃ c0:AV,(ld1 b7 S fun c1 S=>c1=c0∧S=S0)∧∃ c2:AV,(bin .neq 0 c0 (.v (.int .i64 0)) S fun c3 S=>c3=c2∧S=S0)∧∃ c4:AV,(c2=c4∧S=S0)∧∃ c5:AV,(c4=c5∧S=S0)∧onB c5 fun b=>gd b (Q (.ret (.v (.bool false))) S) (loopV lv26_0 (vc Pg (c26.at_ [1,1,0,1,0,0]) (ms26.drop 1)) 53 (env26_0 x1 a (.v (.int .i64 0))) S (blockK 0 (seqK (vc Pg (c26.at_ [1,1,1]) (ms26.drop 1)) (bodyK Pg r26 Q))))) (∃ c6:AV,((.v (.bool false))=c6∧S=S0)∧∃ c7:AV,(c6=c7∧S=S0)∧onB c7 fun b=>gd b (Q (.ret (.v (.bool false))) S) (loopV lv26_0 (vc Pg (c26.at_ [1,1,0,1,0,0]) (ms26.drop 1)) 53 (env26_0 x1 a (.v (.int .i64 0))) S (blockK 0 (seqK (vc Pg (c26.at_ [1,1,1]) (ms26.drop 1)) (bodyK Pg r26 Q))))))) (∃ c8:AV,(shift a 2 S fun c9 S=>c9=c8∧S=S0)∧∃ d0:AV,(ld1 c8 S fun d1 S=>d1=d0∧S=S0)∧∃ d2:AV,(bin .lss 0 d0 (.v (.int .i64 0)) S fun d3 S=>d3=d2∧S=S0)∧∃ d4:AV,(d2=d4∧S=S0)∧onB d4 fun b=>gd b (∃ d5:AV,((.v (.bool true))=d5∧S=S0)∧onB d5 fun b=>gd b (Q (.ret (.v (.bool false))) S) (loopV lv26_0 (vc Pg (c26.at_ [1,1,0,1,0,0]) (ms26.drop 1)) 53 (env26_0 x1 a (.v (.int .i64 0))) S (blockK 0 (seqK (vc Pg (c26.at_ [1,1,1]) (ms26.drop 1)) (bodyK Pg r26 Q))))) (∃ d6:AV,(shift a 0 S fun d7 S=>d7=d6∧S=S0)∧∃ d8:AV,(ld1 d6 S fun d9 S=>d9=d8∧S=S0)∧∃ e0:AV,(bin .neq 0 d8 (.v (.int .i64 3)) S fun e1 S=>e1=e0∧S=S0)∧onB e0 fun b=>gd b (∃ e2:AV,(shift a 2 S fun e3 S=>e3=e2∧S=S0)∧∃ e4:AV,(ld1 e2 S fun e5 S=>e5=e4∧S=S0)∧∃ e6:AV,(bin .neq 0 e4 (.v (.int .i64 0)) S fun e7 S=>e7=e6∧S=S0)∧∃ e8:AV,(e6=e8∧S=S0)∧∃ e9:AV,(e8=e9∧S=S0)∧onB e9 fun b=>gd b (Q (.ret (.v (.bool false))) S) (loopV lv26_0 (vc Pg (c26.at_ [1,1,0,1,0,0]) (ms26.drop 1)) 53 (env26_0 x1 a (.v (.int .i64 0))) S (blockK 0 (seqK (vc Pg (c26.at_ [1,1,1]) (ms26.drop 1)) (bodyK Pg r26 Q))))) (∃ f0:AV,((.v (.bool false))=f0∧S=S0)∧∃ f1:AV,(f0=f1∧S=S0)∧onB f1 fun b=>gd b (Q (.ret (.v (.bool false))) S) (loopV lv26_0 (vc Pg (c26.at_ [1,1,0,1,0,0]) (ms26.drop 1)) 53 (env26_0 x1 a (.v (.int .i64 0))) S (blockK 0 (seqK (vc Pg (c26.at_ [1,1,1]) (ms26.drop 1)) (bodyK Pg r26 Q))))))))) (∃ f2:AV,(shift a 0 S fun f3 S=>f3=f2∧S=S0)∧∃ f4:AV,(ld1 f2 S fun f5 S=>f5=f4∧S=S0)∧∃ f6:AV,(callF Pg 39 [f4] S (fun _ _=>False) fun f7 S=>f7=f6∧S=S0)∧∃ f8:AV,(shift a 3 S fun f9 S=>f9=f8∧S=S0)∧∃ g0:AV,(ld1 f8 S fun g1 S=>g1=g0∧S=S0)∧∃ g2:AV,(lenS g0 S fun g3 S=>g3=g2∧S=S0)∧∃ g4:AV,(bin .neq 0 f6 g2 S fun g5 S=>g5=g4∧S=S0)∧∃ g6:AV,(g4=g6∧S=S0)∧onB g6 fun b=>gd b (∃ g7:AV,((.v (.bool true))=g7∧S=S0)∧onB g7 fun b=>gd b (∃ g8:AV,((.v (.bool true))=g8∧S=S0)∧onB g8 fun b=>gd b (∃ g9:AV,((.v (.bool true))=g9∧S=S0)∧onB g9 fun b=>gd b (Q (.ret (.v (.bool false))) S) (loopV lv26_0 (vc Pg (c26.at_ [1,1,0,1,0,0]) (ms26.drop 1)) 53 (env26_0 x1 a (.v (.int .i64 0))) S (blockK 0 (seqK (vc Pg (c26.at_ [1,1,1]) (ms26.drop 1)) (bodyK Pg r26 Q))))) (∃ h0:AV,(shift a 0 S fun h1 S=>h1=h0∧S=S0)∧∃ h2:AV,(ld1 h0 S fun h3 S=>h3=h2∧S=S0)∧∃ h4:AV,(bin .neq 0 h2 (.v (.int .i64 3)) S fun h5 S=>h5=h4∧S=S0)∧onB h4 fun b=>gd b (∃ h6:AV,(shift a 2 S fun h7 S=>h7=h6∧S=S0)∧∃ h8:AV,(ld1 h6 S fun h9 S=>h9=h8∧S=S0)∧∃ i0:AV,(bin .neq 0 h8 (.v (.int .i64 0)) S fun i1 S=>i1=i0∧S=S0)∧∃ i2:AV,(i0=i2∧S=S0)∧∃ i3:AV,(i2=i3∧S=S0)∧onB i3 fun b=>gd b (Q (.ret (.v (.bool false))) S) (loopV lv26_0 (vc Pg (c26.at_ [1,1,0,1,0,0]) (ms26.drop 1)) 53 (env26_0 x1 a (.v (.int .i64 0))) S (blockK 0 (seqK (vc Pg (c26.at_ [1,1,1]) (ms26.drop 1)) (bodyK Pg r26 Q))))) (∃ i4:AV,((.v (.bool false))=i4∧S=S0)∧∃ i5:AV,(i4=i5∧S=S0)∧onB i5 fun b=>gd b (Q (.ret (.v (.bool false))) S) (loopV lv26_0 (vc Pg (c26.at_ [1,1,0,1,0,0]) (ms26.drop 1)) 53 (env26_0 x1 a (.v (.int .i64 0))) S (blockK 0 (seqK (vc Pg (c26.at_ [1,1,1]) (ms26.drop 1)) (bodyK Pg r26 Q))))))) (∃ i6:AV,(shift a 2 S fun i7 S=>i7=i6∧S=S0)∧∃ i8:AV,(ld1 i6 S fun i9 S=>i9=i8∧S=S0)∧∃ k0:AV,(bin .lss 0 i8 (.v (.int .i64 0)) S fun k1 S=>k1=k0∧S=S0)∧∃ k2:AV,(k0=k2∧S=S0)∧onB k2 fun b=>gd b (∃ k3:AV,((.v (.bool true))=k3∧S=S0)∧onB k3 fun b=>gd b (Q (.ret (.v (.bool false))) S) (loopV lv26_0 (vc Pg (c26.at_ [1,1,0,1,0,0]) (ms26.drop 1)) 53 (env26_0 x1 a (.v (.int .i64 0))) S (blockK 0 (seqK (vc Pg (c26.at_ [1,1,1]) (ms26.drop 1)) (bodyK Pg r26 Q))))) (∃ k4:AV,(shift a 0 S fun k5 S=>k5=k4∧S=S0)∧∃ k6:AV,(ld1 k4 S fun k7 S=>k7=k6∧S=S0)∧∃ k8:AV,(bin .neq 0 k6 (.v (.int .i64 3)) S fun k9 S=>k9=k8∧S=S0)∧onB k8 fun b=>gd b (∃ l0:AV,(shift a 2 S fun l1 S=>l1=l0∧S=S0)∧∃ l2:AV,(ld1 l0 S fun l3 S=>l3=l2∧S=S0)∧∃ l4:AV,(bin .neq 0 l2 (.v (.int .i64 0)) S fun l5 S=>l5=l4∧S=S0)∧∃ l6:AV,(l4=l6∧S=S0)∧∃ l7:AV,(l6=l7∧S=S0)∧onB l7 fun b=>gd b (Q (.ret (.v (.bool false))) S) (loopV lv26_0 (vc Pg (c26.at_ [1,1,0,1,0,0]) (ms26.drop 1)) 53 (env26_0 x1 a (.v (.int .i64 0))) S (blockK 0 (seqK (vc Pg (c26.at_ [1,1,1]) (ms26.drop 1)) (bodyK Pg r26 Q))))) (∃ l8:AV,((.v (.bool false))=l8∧S=S0)∧∃ l9:AV,(l8=l9∧S=S0)∧onB l9 fun b=>gd b (Q (.ret (.v (.bool false))) S) (loopV lv26_0 (vc Pg (c26.at_ [1,1,0,1,0,0]) (ms26.drop 1)) 53 (env26_0 x1 a (.v (.int .i64 0))) S (blockK 0 (seqK (vc Pg (c26.at_ [1,1,1]) (ms26.drop 1)) (bodyK Pg r26 Q)))))))) (∃ aA:AV,(shift a 1 S fun aB S=>aB=aA∧S=S0)∧∃ aC:AV,(ld1 aA S fun aD S=>aD=aC∧S=S0)∧∃ aE:AV,(bin .neq 0 aC (.v (.string { data:=#[] })) S fun aF S=>aF=aE∧S=S0)∧∃ aG:AV,(aE=aG∧S=S0)∧onB aG fun b=>gd b (∃ aH:AV,((.v (.bool true))=aH∧S=S0)∧onB aH fun b=>gd b (∃ aI:AV,((.v (.bool true))=aI∧S=S0)∧onB aI fun b=>gd b (Q (.ret (.v (.bool false))) S) (loopV lv26_0 (vc Pg (c26.at_ [1,1,0,1,0,0]) (ms26.drop 1)) 53 (env26_0 x1 a (.v (.int .i64 0))) S (blockK 0 (seqK (vc Pg (c26.at_ [1,1,1]) (ms26.drop 1)) (bodyK Pg r26 Q))))) (∃ aJ:AV,(shift a 0 S fun aK S=>aK=aJ∧S=S0)∧∃ aL:AV,(ld1 aJ S fun aM S=>aM=aL∧S=S0)∧∃ aN:AV,(bin .neq 0 aL (.v (.int .i64 3)) S fun aO S=>aO=aN∧S=S0)∧onB aN fun b=>gd b (∃ aP:AV,(shift a 2 S fun aQ S=>aQ=aP∧S=S0)∧∃ aR:AV,(ld1 aP S fun aS S=>aS=aR∧S=S0)∧∃ aT:AV,(bin .neq 0 aR (.v (.int .i64 0)) S fun aU S=>aU=aT∧S=S0)∧∃ aV:AV,(aT=aV∧S=S0)∧∃ aW:AV,(aV=aW∧S=S0)∧onB aW fun b=>gd b (Q (.ret (.v (.bool false))) S) (loopV lv26_0 (vc Pg (c26.at_ [1,1,0,1,0,0]) (ms26.drop 1)) 53 (env26_0 x1 a (.v (.int .i64 0))) S (blockK 0 (seqK (vc Pg (c26.at_ [1,1,1]) (ms26.drop 1)) (bodyK Pg r26 Q))))) (∃ aX:AV,((.v (.bool false))=aX∧S=S0)∧∃ aY:AV,(aX=aY∧S=S0)∧onB aY fun b=>gd b (Q (.ret (.v (.bool false))) S) (loopV lv26_0 (vc Pg (c26.at_ [1,1,0,1,0,0]) (ms26.drop 1)) 53 (env26_0 x1 a (.v (.int .i64 0))) S (blockK 0 (seqK (vc Pg (c26.at_ [1,1,1]) (ms26.drop 1)) (bodyK Pg r26 Q))))))) (∃ aZ:AV,(shift a 2 S fun bA S=>bA=aZ∧S=S0)∧∃ bB:AV,(ld1 aZ S fun bC S=>bC=bB∧S=S0)∧∃ bD:AV,(bin .lss 0 bB (.v (.int .i64 0)) S fun bE S=>bE=bD∧S=S0)∧∃ bF:AV,(bD=bF∧S=S0)∧onB bF fun b=>gd b (∃ bG:AV,((.v (.bool true))=bG∧S=S0)∧onB bG fun b=>gd b (Q (.ret (.v (.bool false))) S) (loopV lv26_0 (vc Pg (c26.at_ [1,1,0,1,0,0]) (ms26.drop 1)) 53 (env26_0 x1 a (.v (.int .i64 0))) S (blockK 0 (seqK (vc Pg (c26.at_ [1,1,1]) (ms26.drop 1)) (bodyK Pg r26 Q))))) (∃ bH:AV,(shift a 0 S fun bI S=>bI=bH∧S=S0)∧∃ bJ:AV,(ld1 bH S fun bK S=>bK=bJ∧S=S0)∧∃ bL:AV,(bin .neq 0 bJ (.v (.int .i64 3)) S fun bM S=>bM=bL∧S=S0)∧onB bL fun b=>gd b (∃ bN:AV,(shift a 2 S fun bO S=>bO=bN∧S=S0)∧∃ bP:AV,(ld1 bN S fun bQ S=>bQ=bP∧S=S0)∧∃ bR:AV,(bin .neq 0 bP (.v (.int .i64 0)) S fun bS S=>bS=bR∧S=S0)∧∃ bT:AV,(bR=bT∧S=S0)∧∃ bU:AV,(bT=bU∧S=S0)∧onB bU fun b=>gd b (Q (.ret (.v (.bool false))) S) (loopV lv26_0 (vc Pg (c26.at_ [1,1,0,1,0,0]) (ms26.drop 1)) 53 (env26_0 x1 a (.v (.int .i64 0))) S (blockK 0 (seqK (vc Pg (c26.at_ [1,1,1]) (ms26.drop 1)) (bodyK Pg r26 Q))))) (∃ bV:AV,((.v (.bool false))=bV∧S=S0)∧∃ bW:AV,(bV=bW∧S=S0)∧onB bW fun b=>gd b (Q (.ret (.v (.bool false))) S) (loopV lv26_0 (vc Pg (c26.at_ [1,1,0,1,0,0]) (ms26.drop 1)) 53 (env26_0 x1 a (.v (.int .i64 0))) S (blockK 0 (seqK (vc Pg (c26.at_ [1,1,1]) (ms26.drop 1)) (bodyK Pg r26 Q)))))))))) S
theorem calls26{x0 x1:AV}{S:Store}{Q:PoT}(h:m26 x0 x1 S Q):ACalls Pg 26 [x0,x1] S Q:=
 calls_of_vc (fn:=Tryz.f26) (c:=c26) (n:=53) Tryz.func26 (by kernel_rfl) (by kernel_rfl) (by kernel_rfl) ms26 (Eq.mpr (by kernel_rfl) h)
def b26_0(y1 y2 y5:AV)(S:Store)(KE0:KeT)(Q:PoT):Prop:=
 shift y2 3 S fun a S=>ld1 a S fun c S=>lenS c S fun d S=>bin .lss 0 y5 d S fun e S=>onB e fun b=>gd b (shift y2 3 S fun f S=>ld1 f S fun g S=>ixS 32 4 g y5 S fun h S=>ldN 4 h S fun i S=>bin .sub 0 y1 (.v (.int .i64 1)) S fun k S=>callF Pg 26 [i,k] S Q fun l S=>un .not l S fun m S=>onB m fun b=>gd b (Q (.ret (.v (.bool false))) S) (bin .add 0 y5 (.v (.int .i64 1)) S fun n S=>KE0 53 (env26_0 y1 y2 n) S)) (Q (.ret (.v (.bool true))) S)
theorem b26_0_eq(y1 y2 y5:AV)(S:Store)(KE0:KeT)(Q:PoT):vc Pg (c26.at_ [1,1,0,1,0,0]) (ms26.drop 1) (mkE 53 lv26_0 (env26_0 y1 y2 y5)) S (thenK (fgK lv26_0 KE0) (blockK 0 (seqK (vc Pg (c26.at_ [1,1,1]) (ms26.drop 1)) (bodyK Pg r26 Q))))=b26_0 y1 y2 y5 S KE0 Q:=by kernel_rfl
theorem loop26_0{y1 y2:AV}{y50:AV}{S:Store}{Q:PoT}(I:AV→Store→Prop)(μ:AV→Store→Nat)(h0:I y50 S)
    (hr:∀(y5:AV) (S:Store),I y5 S→∀ KE0:KeT,(∀(y5':AV) (S':Store),I y5' S'→μ y5' S'<μ y5 S→KE0 53 (env26_0 y1 y2 y5') S')→b26_0 y1 y2 y5 S KE0 Q):
    loopV lv26_0 (vc Pg (c26.at_ [1,1,0,1,0,0]) (ms26.drop 1)) 53 (env26_0 y1 y2 y50) S (blockK 0 (seqK (vc Pg (c26.at_ [1,1,1]) (ms26.drop 1)) (bodyK Pg r26 Q))):=by
 refine⟨fun n e S=>n=53∧∃ y5:AV,e=(env26_0 y1 y2 y5)∧I y5 S,fun _ e S=>μ (e.getD 2 .j) S,?_,?_⟩
 ·exact⟨_,_,Wk.refl _ _,rfl,_,rfl,h0⟩
 ·rintro _ e S ⟨rfl,y5,rfl,hI⟩
  exact(b26_0_eq _ _ _ _ _ _).mpr (hr y5 S hI _ (fun y5' S' hI' hm=>⟨_,_,Wk.refl _ _,⟨rfl,_,rfl,hI'⟩,hm⟩))
def c46:Code:=(Tryz.f46.body).getD .skip
def ms46:List (List Nat):=[[]]
def m46(x0 x1:AV)(S:Store)(Q:PoT):Prop:=
 boxN 32 4 x0 S fun a S=>boxN 91 1 x1 S fun c S=>shift a 0 S fun d S=>ld1 d S fun e S=>bin .neq 0 e (.v (.int .i64 3)) S fun g S=>onB g fun b=>gd b (shift a 3 S fun h S=>ld1 h S fun i S=>callF Pg 75 [i,(.f (.func 86) [] [c])] S Q fun k S=>un .not k S fun l S=>Q (.ret l) S) (ld1 c S fun m S=>shift a 2 S fun n S=>ld1 n S fun o S=>callV Pg m [o] S (fun p S=>onB p fun b=>gd b (shift a 3 S fun q S=>ld1 q S fun r S=>callF Pg 75 [r,(.f (.func 86) [] [c])] S Q fun s S=>un .not s S fun t S=>Q (.ret t) S) (Q (.ret (.v (.bool false))) S)) (fun u S=>Q (.pan u) S))
theorem calls46{x0 x1:AV}{S:Store}{Q:PoT}(h:m46 x0 x1 S Q):ACalls Pg 46 [x0,x1] S Q:=
 calls_of_vc (fn:=Tryz.f46) (c:=c46) (n:=23) Tryz.func46 (by kernel_rfl) (by kernel_rfl) (by kernel_rfl) ms46 (Eq.mpr (by kernel_rfl) h)
def c86:Code:=(Tryz.f86.body).getD .skip
def ms86:List (List Nat):=[[]]
def m86(x0 x1:AV)(S:Store)(Q:PoT):Prop:=
 boxN 32 4 x0 S fun a S=>ldN 4 a S fun c S=>ld1 x1 S fun d S=>callF Pg 46 [c,d] S Q fun e S=>un .not e S fun f S=>Q (.ret f) S
theorem calls86{x0 x1:AV}{S:Store}{Q:PoT}(h:m86 x0 x1 S Q):ACalls Pg 86 [x0,x1] S Q:=
 calls_of_vc (fn:=Tryz.f86) (c:=c86) (n:=8) Tryz.func86 (by kernel_rfl) (by kernel_rfl) (by kernel_rfl) ms86 (Eq.mpr (by kernel_rfl) h)
def c28:Code:=(Tryz.f28.body).getD .skip
def ms28:List (List Nat):=[[]]
def m28(x0 x1:AV)(S:Store)(Q:PoT):Prop:=
 boxN 29 8 x0 S fun c S=>boxN 32 4 x1 S fun d S=>ldN 8 c S fun e S=>callF Pg 44 [e] S Q fun g S=>boxN 48 2 (.a [.v (.int .i64 0),.nl]) S fun h S=>stN 2 h g S fun i S=>ldN 8 c S fun k S=>callF Pg 45 [k] S Q fun l S=>onB l fun b=>gd b (ldN 4 d S fun m S=>callF Pg 35 [m,.v (.int .i64 60)] S Q fun n S=>onB n fun b=>gd b (ldN 4 d S fun o S=>callF Pg 46 [o,(.f (.func 47) [] [h])] S Q fun p S=>Q (.ret p) S) (Q (.ret (.v (.bool false))) S)) (Q (.ret (.v (.bool false))) S)
theorem calls28{x0 x1:AV}{S:Store}{Q:PoT}(h:m28 x0 x1 S Q):ACalls Pg 28 [x0,x1] S Q:=
 calls_of_vc (fn:=Tryz.f28) (c:=c28) (n:=19) Tryz.func28 (by kernel_rfl) (by kernel_rfl) (by kernel_rfl) ms28 (Eq.mpr (by kernel_rfl) h)
def c47:Code:=(Tryz.f47.body).getD .skip
def ms47:List (List Nat):=[[]]
def m47(x0 x1:AV)(S:Store)(Q:PoT):Prop:=
 ldN 2 x1 S fun a S=>callF Pg 48 [a,x0] S Q fun c S=>Q (.ret c) S
theorem calls47{x0 x1:AV}{S:Store}{Q:PoT}(h:m47 x0 x1 S Q):ACalls Pg 47 [x0,x1] S Q:=
 calls_of_vc (fn:=Tryz.f47) (c:=c47) (n:=7) Tryz.func47 (by kernel_rfl) (by kernel_rfl) (by kernel_rfl) ms47 (Eq.mpr (by kernel_rfl) h)
def c64:Code:=(Tryz.f64.body).getD .skip
def r64:List ResultVar:=Tryz.f64.results.toList
def env64_0(y2 y3 y5:AV):List AV:=[y2,y3,y5]
def lv64_0:List Nat:=[2,3,5]
def ms64:List (List Nat):=[lv64_0,[]]
def m64(x0 x1:AV)(S:Store)(Q:PoT):Prop:=
 boxN 48 2 x0 S fun a S=>boxN 32 4 x1 S fun c S=>shift c 0 S fun d S=>ld1 d S fun e S=>bin .eql 0 e (.v (.int .i64 3)) S fun f S=>onB f fun b=>gd b (ldN 2 a S fun g S=>shift c 2 S fun h S=>ld1 h S fun i S=>callF Pg 77 [g,i] S Q fun k S=>un .not k S fun l S=>onB l fun b=>gd b (Q (.ret (.v (.bool false))) S) (loopV lv64_0 (vc Pg (c64.at_ [1,1,0,1,0,0]) (ms64.drop 1)) 31 (env64_0 a c (.v (.int .i64 0))) S (blockK 0 (seqK (vc Pg (c64.at_ [1,1,1]) (ms64.drop 1)) (bodyK Pg r64 Q))))) (loopV lv64_0 (vc Pg (c64.at_ [1,1,0,1,0,0]) (ms64.drop 1)) 31 (env64_0 a c (.v (.int .i64 0))) S (blockK 0 (seqK (vc Pg (c64.at_ [1,1,1]) (ms64.drop 1)) (bodyK Pg r64 Q))))
theorem calls64{x0 x1:AV}{S:Store}{Q:PoT}(h:m64 x0 x1 S Q):ACalls Pg 64 [x0,x1] S Q:=
 calls_of_vc (fn:=Tryz.f64) (c:=c64) (n:=31) Tryz.func64 (by kernel_rfl) (by kernel_rfl) (by kernel_rfl) ms64 (Eq.mpr (by kernel_rfl) h)
def b64_0(y2 y3 y5:AV)(S:Store)(KE0:KeT)(Q:PoT):Prop:=
 shift y3 3 S fun a S=>ld1 a S fun c S=>lenS c S fun d S=>bin .lss 0 y5 d S fun e S=>onB e fun b=>gd b ((fun S0:Store=>∃ f:AV,(ldN 2 y2 S fun g S=>g=f∧S=S0)∧∃ h:AV,(shift y3 3 S fun i S=>i=h∧S=S0)∧∃ k:AV,(ld1 h S fun l S=>l=k∧S=S0)∧∃ m:AV,(ixS 32 4 k y5 S fun n S=>n=m∧S=S0)∧∃ o:AV,(ldN 4 m S fun p S=>p=o∧S=S0)∧∃ q:AV,(callF Pg 64 [f,o] S (fun _ _=>False) fun r S=>r=q∧S=S0)∧∃ s:AV,(un .not q S fun t S=>t=s∧S=S0)∧onB s fun b=>gd b (Q (.ret (.v (.bool false))) S) (bin .add 0 y5 (.v (.int .i64 1)) S fun u S=>KE0 31 (env64_0 y2 y3 u) S)) S) (Q (.ret (.v (.bool true))) S)
theorem b64_0_eq(y2 y3 y5:AV)(S:Store)(KE0:KeT)(Q:PoT):vc Pg (c64.at_ [1,1,0,1,0,0]) (ms64.drop 1) (mkE 31 lv64_0 (env64_0 y2 y3 y5)) S (thenK (fgK lv64_0 KE0) (blockK 0 (seqK (vc Pg (c64.at_ [1,1,1]) (ms64.drop 1)) (bodyK Pg r64 Q))))=b64_0 y2 y3 y5 S KE0 Q:=by kernel_rfl
theorem loop64_0{y2 y3:AV}{y50:AV}{S:Store}{Q:PoT}(I:AV→Store→Prop)(μ:AV→Store→Nat)(h0:I y50 S)
    (hr:∀(y5:AV) (S:Store),I y5 S→∀ KE0:KeT,(∀(y5':AV) (S':Store),I y5' S'→μ y5' S'<μ y5 S→KE0 31 (env64_0 y2 y3 y5') S')→b64_0 y2 y3 y5 S KE0 Q):
    loopV lv64_0 (vc Pg (c64.at_ [1,1,0,1,0,0]) (ms64.drop 1)) 31 (env64_0 y2 y3 y50) S (blockK 0 (seqK (vc Pg (c64.at_ [1,1,1]) (ms64.drop 1)) (bodyK Pg r64 Q))):=by
 refine⟨fun n e S=>n=31∧∃ y5:AV,e=(env64_0 y2 y3 y5)∧I y5 S,fun _ e S=>μ (e.getD 2 .j) S,?_,?_⟩
 ·exact⟨_,_,Wk.refl _ _,rfl,_,rfl,h0⟩
 ·rintro _ e S ⟨rfl,y5,rfl,hI⟩
  exact(b64_0_eq _ _ _ _ _ _).mpr (hr y5 S hI _ (fun y5' S' hI' hm=>⟨_,_,Wk.refl _ _,⟨rfl,_,rfl,hI'⟩,hm⟩))
def c33:Code:=(Tryz.f33.body).getD .skip
def ms33:List (List Nat):=[[]]
def m33(x0 x1:AV)(S:Store)(Q:PoT):Prop:=
 boxN 29 8 x0 S fun a S=>boxN 32 4 x1 S fun c S=>(fun S0:Store=>∃ d:AV,(ldN 8 a S fun e S=>e=d∧S=S0)∧∃ f:AV,(callF Pg 63 [d] S (fun _ _=>False) fun g S=>g=f∧S=S0)∧onB f fun b=>gd b (∃ h:AV,(ldN 4 c S fun i S=>i=h∧S=S0)∧∃ k:AV,(callF Pg 26 [h,.v (.int .i64 60)] S (fun _ _=>False) fun l S=>l=k∧S=S0)∧∃ m:AV,(k=m∧S=S0)∧onB m fun b=>gd b (∃ n:AV,(ldN 8 a S fun o S=>o=n∧S=S0)∧∃ p:AV,(callF Pg 12 [n] S (fun _ _=>False) fun q S=>q=p∧S=S0)∧∃ r:AV,(ldN 4 c S fun s S=>s=r∧S=S0)∧∃ t:AV,(callF Pg 64 [p,r] S (fun _ _=>False) fun u S=>u=t∧S=S0)∧∃ w:AV,(t=w∧S=S0)∧Q (.ret w) S) (∃ x:AV,((.v (.bool false))=x∧S=S0)∧Q (.ret x) S)) (∃ y:AV,((.v (.bool false))=y∧S=S0)∧onB y fun b=>gd b (∃ z:AV,(ldN 8 a S fun A S=>A=z∧S=S0)∧∃ B:AV,(callF Pg 12 [z] S (fun _ _=>False) fun C S=>C=B∧S=S0)∧∃ D:AV,(ldN 4 c S fun E S=>E=D∧S=S0)∧∃ F:AV,(callF Pg 64 [B,D] S (fun _ _=>False) fun G S=>G=F∧S=S0)∧∃ H:AV,(F=H∧S=S0)∧Q (.ret H) S) (∃ I:AV,((.v (.bool false))=I∧S=S0)∧Q (.ret I) S))) S
theorem calls33{x0 x1:AV}{S:Store}{Q:PoT}(h:m33 x0 x1 S Q):ACalls Pg 33 [x0,x1] S Q:=
 calls_of_vc (fn:=Tryz.f33) (c:=c33) (n:=17) Tryz.func33 (by kernel_rfl) (by kernel_rfl) (by kernel_rfl) ms33 (Eq.mpr (by kernel_rfl) h)
def c74:Code:=(Tryz.f74.body).getD .skip
def ms74:List (List Nat):=[[]]
def m74(x0:AV)(S:Store)(Q:PoT):Prop:=
 bin .lss 0 x0 (.v (.int .i64 1)) S fun a S=>onB a fun b=>gd b (Q (.ret (.v (.int .i64 (-1)))) S) (bin .gtr 0 x0 (.v (.int .i64 18)) S fun c S=>onB c fun b=>gd b (Q (.ret (.v (.int .i64 (-1)))) S) (bin .leq 0 x0 (.v (.int .i64 3)) S fun d S=>onB d fun b=>gd b (Q (.ret (.v (.int .i64 0))) S) (bin .eql 0 x0 (.v (.int .i64 4)) S fun e S=>onB e fun b=>gd b (Q (.ret (.v (.int .i64 1))) S) (bin .geq 0 x0 (.v (.int .i64 9)) S fun f S=>onB f fun b=>gd b (bin .leq 0 x0 (.v (.int .i64 14)) S fun g S=>onB g fun b=>gd b (Q (.ret (.v (.int .i64 1))) S) (Q (.ret (.v (.int .i64 2))) S)) (Q (.ret (.v (.int .i64 2))) S)))))
theorem calls74{x0:AV}{S:Store}{Q:PoT}(h:m74 x0 S Q):ACalls Pg 74 [x0] S Q:=
 calls_of_vc (fn:=Tryz.f74) (c:=c74) (n:=24) Tryz.func74 (by kernel_rfl) (by kernel_rfl) (by kernel_rfl) ms74 (Eq.mpr (by kernel_rfl) h)
def c39:Code:=(Tryz.f39.body).getD .skip
def ms39:List (List Nat):=[[]]
def m39(x0:AV)(S:Store)(Q:PoT):Prop:=
 bin .lss 0 x0 (.v (.int .i64 1)) S fun a S=>onB a fun b=>gd b (Q (.ret (.v (.int .i64 (-1)))) S) (bin .gtr 0 x0 (.v (.int .i64 18)) S fun c S=>onB c fun b=>gd b (Q (.ret (.v (.int .i64 (-1)))) S) (bin .leq 0 x0 (.v (.int .i64 3)) S fun d S=>onB d fun b=>gd b (Q (.ret (.v (.int .i64 0))) S) (bin .eql 0 x0 (.v (.int .i64 4)) S fun e S=>onB e fun b=>gd b (Q (.ret (.v (.int .i64 1))) S) (bin .geq 0 x0 (.v (.int .i64 9)) S fun f S=>onB f fun b=>gd b (bin .leq 0 x0 (.v (.int .i64 14)) S fun g S=>onB g fun b=>gd b (Q (.ret (.v (.int .i64 1))) S) (Q (.ret (.v (.int .i64 2))) S)) (Q (.ret (.v (.int .i64 2))) S)))))
theorem calls39{x0:AV}{S:Store}{Q:PoT}(h:m39 x0 S Q):ACalls Pg 39 [x0] S Q:=
 calls_of_vc (fn:=Tryz.f39) (c:=c39) (n:=24) Tryz.func39 (by kernel_rfl) (by kernel_rfl) (by kernel_rfl) ms39 (Eq.mpr (by kernel_rfl) h)
def c103:Code:=(Tryz.f103.body).getD .skip
def r103:List ResultVar:=Tryz.f103.results.toList
def env103_0(y0 y1 y7 y8:AV):List AV:=[y0,y1,y7,y8]
def lv103_0:List Nat:=[0,1,7,8]
def ms103:List (List Nat):=[lv103_0,[]]
def m103(x0 x1:AV)(S:Store)(Q:PoT):Prop:=
 lenS x0 S fun a S=>loopV lv103_0 (vc Pg (c103.at_ [1,0,1,0,0]) (ms103.drop 1)) 19 (env103_0 x0 x1 a (.v (.int .i64 0))) S (blockK 0 (seqK (vc Pg (c103.at_ [1,1]) (ms103.drop 1)) (bodyK Pg r103 Q)))
theorem calls103{x0 x1:AV}{S:Store}{Q:PoT}(h:m103 x0 x1 S Q):ACalls Pg 103 [x0,x1] S Q:=
 calls_of_vc (fn:=Tryz.f103) (c:=c103) (n:=19) Tryz.func103 (by kernel_rfl) (by kernel_rfl) (by kernel_rfl) ms103 (Eq.mpr (by kernel_rfl) h)
def b103_0(y0 y1 y7 y8:AV)(S:Store)(KE0:KeT)(Q:PoT):Prop:=
 bin .lss 0 y8 y7 S fun a S=>onB a fun b=>gd b (ixS 32 4 y0 y8 S fun c S=>ldN 4 c S fun d S=>callV Pg y1 [d] S (fun e S=>onB e fun b=>gd b (Q (.ret y8) S) (bin .add 0 y8 (.v (.int .i64 1)) S fun f S=>KE0 19 (env103_0 y0 y1 y7 f) S)) (fun u S=>Q (.pan u) S)) (Q (.ret (.v (.int .i64 (-1)))) S)
theorem b103_0_eq(y0 y1 y7 y8:AV)(S:Store)(KE0:KeT)(Q:PoT):vc Pg (c103.at_ [1,0,1,0,0]) (ms103.drop 1) (mkE 19 lv103_0 (env103_0 y0 y1 y7 y8)) S (thenK (fgK lv103_0 KE0) (blockK 0 (seqK (vc Pg (c103.at_ [1,1]) (ms103.drop 1)) (bodyK Pg r103 Q))))=b103_0 y0 y1 y7 y8 S KE0 Q:=by kernel_rfl
theorem loop103_0{y0 y1 y7:AV}{y80:AV}{S:Store}{Q:PoT}(I:AV→Store→Prop)(μ:AV→Store→Nat)(h0:I y80 S)
    (hr:∀(y8:AV) (S:Store),I y8 S→∀ KE0:KeT,(∀(y8':AV) (S':Store),I y8' S'→μ y8' S'<μ y8 S→KE0 19 (env103_0 y0 y1 y7 y8') S')→b103_0 y0 y1 y7 y8 S KE0 Q):
    loopV lv103_0 (vc Pg (c103.at_ [1,0,1,0,0]) (ms103.drop 1)) 19 (env103_0 y0 y1 y7 y80) S (blockK 0 (seqK (vc Pg (c103.at_ [1,1]) (ms103.drop 1)) (bodyK Pg r103 Q))):=by
 refine⟨fun n e S=>n=19∧∃ y8:AV,e=(env103_0 y0 y1 y7 y8)∧I y8 S,fun _ e S=>μ (e.getD 3 .j) S,?_,?_⟩
 ·exact⟨_,_,Wk.refl _ _,rfl,_,rfl,h0⟩
 ·rintro _ e S ⟨rfl,y8,rfl,hI⟩
  exact(b103_0_eq _ _ _ _ _ _ _).mpr (hr y8 S hI _ (fun y8' S' hI' hm=>⟨_,_,Wk.refl _ _,⟨rfl,_,rfl,hI'⟩,hm⟩))
def c75:Code:=(Tryz.f75.body).getD .skip
def ms75:List (List Nat):=[[]]
def m75(x0 x1:AV)(S:Store)(Q:PoT):Prop:=
 callF Pg 103 [x0,x1] S Q fun a S=>bin .geq 0 a (.v (.int .i64 0)) S fun c S=>Q (.ret c) S
theorem calls75{x0 x1:AV}{S:Store}{Q:PoT}(h:m75 x0 x1 S Q):ACalls Pg 75 [x0,x1] S Q:=
 calls_of_vc (fn:=Tryz.f75) (c:=c75) (n:=9) Tryz.func75 (by kernel_rfl) (by kernel_rfl) (by kernel_rfl) ms75 (Eq.mpr (by kernel_rfl) h)
def c73:Code:=(Tryz.f73.body).getD .skip
def ms73:List (List Nat):=[[]]
def m73(x0 x1:AV)(S:Store)(Q:PoT):Prop:=
 boxN 32 4 x0 S fun a S=>ldN 4 a S fun c S=>ld1 x1 S fun d S=>bin .sub 0 d (.v (.int .i64 1)) S fun e S=>callF Pg 35 [c,e] S Q fun f S=>un .not f S fun g S=>Q (.ret g) S
theorem calls73{x0 x1:AV}{S:Store}{Q:PoT}(h:m73 x0 x1 S Q):ACalls Pg 73 [x0,x1] S Q:=
 calls_of_vc (fn:=Tryz.f73) (c:=c73) (n:=9) Tryz.func73 (by kernel_rfl) (by kernel_rfl) (by kernel_rfl) ms73 (Eq.mpr (by kernel_rfl) h)
def c35:Code:=(Tryz.f35.body).getD .skip
def ms35:List (List Nat):=[[]]
def m35(x0 x1:AV)(S:Store)(Q:PoT):Prop:=
 boxN 32 4 x0 S fun a S=>boxN 3 1 x1 S fun c S=>shift a 2 S fun d S=>ld1 d S fun e S=>bin .eql 0 e (.v (.int .i64 0)) S fun g S=>onB g fun b=>gd b ((fun S0:Store=>∃ h:AV,(ld1 c S fun i S=>i=h∧S=S0)∧∃ k:AV,(bin .gtr 0 h (.v (.int .i64 0)) S fun l S=>l=k∧S=S0)∧onB k fun b=>gd b (∃ m:AV,((.v (.bool true))=m∧S=S0)∧onB m fun b=>gd b (∃ n:AV,(shift a 1 S fun o S=>o=n∧S=S0)∧∃ p:AV,(ld1 n S fun q S=>q=p∧S=S0)∧∃ r:AV,(bin .eql 0 p (.v (.string { data:=#[] })) S fun s S=>s=r∧S=S0)∧∃ t:AV,(r=t∧S=S0)∧onB t fun b=>gd b (∃ u:AV,(shift a 3 S fun w S=>w=u∧S=S0)∧∃ x:AV,(ld1 u S fun y S=>y=x∧S=S0)∧∃ z:AV,(lenS x S fun A S=>A=z∧S=S0)∧∃ B:AV,(shift a 0 S fun C S=>C=B∧S=S0)∧∃ D:AV,(ld1 B S fun E S=>E=D∧S=S0)∧∃ F:AV,(callF Pg 74 [D] S (fun _ _=>False) fun G S=>G=F∧S=S0)∧∃ H:AV,(bin .eql 0 z F S fun I S=>I=H∧S=S0)∧∃ J:AV,(H=J∧S=S0)∧onB J fun b=>gd b (∃ K:AV,(shift a 3 S fun L S=>L=K∧S=S0)∧∃ M:AV,(ld1 K S fun N S=>N=M∧S=S0)∧∃ O:AV,(callF Pg 75 [M,(.f (.func 73) [] [c])] S (fun _ _=>False) fun P S=>P=O∧S=S0)∧∃ R:AV,(un .not O S fun T S=>T=R∧S=S0)∧∃ U:AV,(R=U∧S=S0)∧Q (.ret U) S) (∃ V:AV,((.v (.bool false))=V∧S=S0)∧Q (.ret V) S)) (∃ W:AV,((.v (.bool false))=W∧S=S0)∧onB W fun b=>gd b (∃ X:AV,(shift a 3 S fun Y S=>Y=X∧S=S0)∧∃ Z:AV,(ld1 X S fun a0 S=>a0=Z∧S=S0)∧∃ a1:AV,(callF Pg 75 [Z,(.f (.func 73) [] [c])] S (fun _ _=>False) fun a2 S=>a2=a1∧S=S0)∧∃ a3:AV,(un .not a1 S fun a4 S=>a4=a3∧S=S0)∧∃ a5:AV,(a3=a5∧S=S0)∧Q (.ret a5) S) (∃ a6:AV,((.v (.bool false))=a6∧S=S0)∧Q (.ret a6) S))) (∃ a7:AV,((.v (.bool false))=a7∧S=S0)∧onB a7 fun b=>gd b (∃ a8:AV,(shift a 3 S fun a9 S=>a9=a8∧S=S0)∧∃ b0:AV,(ld1 a8 S fun b1 S=>b1=b0∧S=S0)∧∃ b2:AV,(lenS b0 S fun b3 S=>b3=b2∧S=S0)∧∃ b4:AV,(shift a 0 S fun b5 S=>b5=b4∧S=S0)∧∃ b7:AV,(ld1 b4 S fun b8 S=>b8=b7∧S=S0)∧∃ b9:AV,(callF Pg 74 [b7] S (fun _ _=>False) fun c0 S=>c0=b9∧S=S0)∧∃ c1:AV,(bin .eql 0 b2 b9 S fun c2 S=>c2=c1∧S=S0)∧∃ c3:AV,(c1=c3∧S=S0)∧onB c3 fun b=>gd b (∃ c4:AV,(shift a 3 S fun c5 S=>c5=c4∧S=S0)∧∃ c6:AV,(ld1 c4 S fun c7 S=>c7=c6∧S=S0)∧∃ c8:AV,(callF Pg 75 [c6,(.f (.func 73) [] [c])] S (fun _ _=>False) fun c9 S=>c9=c8∧S=S0)∧∃ d0:AV,(un .not c8 S fun d1 S=>d1=d0∧S=S0)∧∃ d2:AV,(d0=d2∧S=S0)∧Q (.ret d2) S) (∃ d3:AV,((.v (.bool false))=d3∧S=S0)∧Q (.ret d3) S)) (∃ d4:AV,((.v (.bool false))=d4∧S=S0)∧onB d4 fun b=>gd b (∃ d5:AV,(shift a 3 S fun d6 S=>d6=d5∧S=S0)∧∃ d7:AV,(ld1 d5 S fun d8 S=>d8=d7∧S=S0)∧∃ d9:AV,(callF Pg 75 [d7,(.f (.func 73) [] [c])] S (fun _ _=>False) fun e0 S=>e0=d9∧S=S0)∧∃ e1:AV,(un .not d9 S fun e2 S=>e2=e1∧S=S0)∧∃ e3:AV,(e1=e3∧S=S0)∧Q (.ret e3) S) (∃ e4:AV,((.v (.bool false))=e4∧S=S0)∧Q (.ret e4) S)))) (∃ e5:AV,((.v (.bool false))=e5∧S=S0)∧onB e5 fun b=>gd b (∃ e6:AV,(shift a 1 S fun e7 S=>e7=e6∧S=S0)∧∃ e8:AV,(ld1 e6 S fun e9 S=>e9=e8∧S=S0)∧∃ f0:AV,(bin .eql 0 e8 (.v (.string { data:=#[] })) S fun f1 S=>f1=f0∧S=S0)∧∃ f2:AV,(f0=f2∧S=S0)∧onB f2 fun b=>gd b (∃ f3:AV,(shift a 3 S fun f4 S=>f4=f3∧S=S0)∧∃ f5:AV,(ld1 f3 S fun f6 S=>f6=f5∧S=S0)∧∃ f7:AV,(lenS f5 S fun f8 S=>f8=f7∧S=S0)∧∃ f9:AV,(shift a 0 S fun g0 S=>g0=f9∧S=S0)∧∃ g1:AV,(ld1 f9 S fun g2 S=>g2=g1∧S=S0)∧∃ g3:AV,(callF Pg 74 [g1] S (fun _ _=>False) fun g4 S=>g4=g3∧S=S0)∧∃ g5:AV,(bin .eql 0 f7 g3 S fun g6 S=>g6=g5∧S=S0)∧∃ g7:AV,(g5=g7∧S=S0)∧onB g7 fun b=>gd b (∃ g8:AV,(shift a 3 S fun g9 S=>g9=g8∧S=S0)∧∃ h0:AV,(ld1 g8 S fun h1 S=>h1=h0∧S=S0)∧∃ h2:AV,(callF Pg 75 [h0,(.f (.func 73) [] [c])] S (fun _ _=>False) fun h3 S=>h3=h2∧S=S0)∧∃ h4:AV,(un .not h2 S fun h5 S=>h5=h4∧S=S0)∧∃ h6:AV,(h4=h6∧S=S0)∧Q (.ret h6) S) (∃ h7:AV,((.v (.bool false))=h7∧S=S0)∧Q (.ret h7) S)) (∃ h8:AV,((.v (.bool false))=h8∧S=S0)∧onB h8 fun b=>gd b (∃ h9:AV,(shift a 3 S fun i0 S=>i0=h9∧S=S0)∧∃ i1:AV,(ld1 h9 S fun i2 S=>i2=i1∧S=S0)∧∃ i3:AV,(callF Pg 75 [i1,(.f (.func 73) [] [c])] S (fun _ _=>False) fun i4 S=>i4=i3∧S=S0)∧∃ i5:AV,(un .not i3 S fun i6 S=>i6=i5∧S=S0)∧∃ i7:AV,(i5=i7∧S=S0)∧Q (.ret i7) S) (∃ i8:AV,((.v (.bool false))=i8∧S=S0)∧Q (.ret i8) S))) (∃ i9:AV,((.v (.bool false))=i9∧S=S0)∧onB i9 fun b=>gd b (∃ k0:AV,(shift a 3 S fun k1 S=>k1=k0∧S=S0)∧∃ k2:AV,(ld1 k0 S fun k3 S=>k3=k2∧S=S0)∧∃ k4:AV,(lenS k2 S fun k5 S=>k5=k4∧S=S0)∧∃ k6:AV,(shift a 0 S fun k7 S=>k7=k6∧S=S0)∧∃ k8:AV,(ld1 k6 S fun k9 S=>k9=k8∧S=S0)∧∃ l0:AV,(callF Pg 74 [k8] S (fun _ _=>False) fun l1 S=>l1=l0∧S=S0)∧∃ l2:AV,(bin .eql 0 k4 l0 S fun l3 S=>l3=l2∧S=S0)∧∃ l4:AV,(l2=l4∧S=S0)∧onB l4 fun b=>gd b (∃ l5:AV,(shift a 3 S fun l6 S=>l6=l5∧S=S0)∧∃ l7:AV,(ld1 l5 S fun l8 S=>l8=l7∧S=S0)∧∃ l9:AV,(callF Pg 75 [l7,(.f (.func 73) [] [c])] S (fun _ _=>False) fun aA S=>aA=l9∧S=S0)∧∃ aB:AV,(un .not l9 S fun aC S=>aC=aB∧S=S0)∧∃ aD:AV,(aB=aD∧S=S0)∧Q (.ret aD) S) (∃ aE:AV,((.v (.bool false))=aE∧S=S0)∧Q (.ret aE) S)) (∃ aF:AV,((.v (.bool false))=aF∧S=S0)∧onB aF fun b=>gd b (∃ aG:AV,(shift a 3 S fun aH S=>aH=aG∧S=S0)∧∃ aI:AV,(ld1 aG S fun aJ S=>aJ=aI∧S=S0)∧∃ aK:AV,(callF Pg 75 [aI,(.f (.func 73) [] [c])] S (fun _ _=>False) fun aL S=>aL=aK∧S=S0)∧∃ aM:AV,(un .not aK S fun aN S=>aN=aM∧S=S0)∧∃ aO:AV,(aM=aO∧S=S0)∧Q (.ret aO) S) (∃ aP:AV,((.v (.bool false))=aP∧S=S0)∧Q (.ret aP) S))))) S) (shift a 2 S fun aQ S=>ld1 aQ S fun aR S=>bin .gtr 0 aR (.v (.int .i64 0)) S fun aS S=>onB aS fun b=>gd b (shift a 0 S fun aT S=>ld1 aT S fun aU S=>bin .eql 0 aU (.v (.int .i64 3)) S fun aV S=>(fun S0:Store=>∃ aW:AV,(ld1 c S fun aX S=>aX=aW∧S=S0)∧∃ aY:AV,(bin .gtr 0 aW (.v (.int .i64 0)) S fun aZ S=>aZ=aY∧S=S0)∧onB aY fun b=>gd b (∃ bA:AV,(aV=bA∧S=S0)∧onB bA fun b=>gd b (∃ bB:AV,(shift a 1 S fun bC S=>bC=bB∧S=S0)∧∃ bD:AV,(ld1 bB S fun bE S=>bE=bD∧S=S0)∧∃ bF:AV,(bin .eql 0 bD (.v (.string { data:=#[] })) S fun bG S=>bG=bF∧S=S0)∧∃ bH:AV,(bF=bH∧S=S0)∧onB bH fun b=>gd b (∃ bI:AV,(shift a 3 S fun bJ S=>bJ=bI∧S=S0)∧∃ bK:AV,(ld1 bI S fun bL S=>bL=bK∧S=S0)∧∃ bM:AV,(lenS bK S fun bN S=>bN=bM∧S=S0)∧∃ bO:AV,(shift a 0 S fun bP S=>bP=bO∧S=S0)∧∃ bQ:AV,(ld1 bO S fun bR S=>bR=bQ∧S=S0)∧∃ bS:AV,(callF Pg 74 [bQ] S (fun _ _=>False) fun bT S=>bT=bS∧S=S0)∧∃ bU:AV,(bin .eql 0 bM bS S fun bV S=>bV=bU∧S=S0)∧∃ bW:AV,(bU=bW∧S=S0)∧onB bW fun b=>gd b (∃ bX:AV,(shift a 3 S fun bY S=>bY=bX∧S=S0)∧∃ bZ:AV,(ld1 bX S fun cA S=>cA=bZ∧S=S0)∧∃ cB:AV,(callF Pg 75 [bZ,(.f (.func 73) [] [c])] S (fun _ _=>False) fun cC S=>cC=cB∧S=S0)∧∃ cD:AV,(un .not cB S fun cE S=>cE=cD∧S=S0)∧∃ cF:AV,(cD=cF∧S=S0)∧Q (.ret cF) S) (∃ cG:AV,((.v (.bool false))=cG∧S=S0)∧Q (.ret cG) S)) (∃ cH:AV,((.v (.bool false))=cH∧S=S0)∧onB cH fun b=>gd b (∃ cI:AV,(shift a 3 S fun cJ S=>cJ=cI∧S=S0)∧∃ cK:AV,(ld1 cI S fun cL S=>cL=cK∧S=S0)∧∃ cM:AV,(callF Pg 75 [cK,(.f (.func 73) [] [c])] S (fun _ _=>False) fun cN S=>cN=cM∧S=S0)∧∃ cO:AV,(un .not cM S fun cP S=>cP=cO∧S=S0)∧∃ cQ:AV,(cO=cQ∧S=S0)∧Q (.ret cQ) S) (∃ cR:AV,((.v (.bool false))=cR∧S=S0)∧Q (.ret cR) S))) (∃ cS:AV,((.v (.bool false))=cS∧S=S0)∧onB cS fun b=>gd b (∃ cT:AV,(shift a 3 S fun cU S=>cU=cT∧S=S0)∧∃ cV:AV,(ld1 cT S fun cW S=>cW=cV∧S=S0)∧∃ cX:AV,(lenS cV S fun cY S=>cY=cX∧S=S0)∧∃ cZ:AV,(shift a 0 S fun dA S=>dA=cZ∧S=S0)∧∃ dB:AV,(ld1 cZ S fun dC S=>dC=dB∧S=S0)∧∃ dD:AV,(callF Pg 74 [dB] S (fun _ _=>False) fun dE S=>dE=dD∧S=S0)∧∃ dF:AV,(bin .eql 0 cX dD S fun dG S=>dG=dF∧S=S0)∧∃ dH:AV,(dF=dH∧S=S0)∧onB dH fun b=>gd b (∃ dI:AV,(shift a 3 S fun dJ S=>dJ=dI∧S=S0)∧∃ dK:AV,(ld1 dI S fun dL S=>dL=dK∧S=S0)∧∃ dM:AV,(callF Pg 75 [dK,(.f (.func 73) [] [c])] S (fun _ _=>False) fun dN S=>dN=dM∧S=S0)∧∃ dO:AV,(un .not dM S fun dP S=>dP=dO∧S=S0)∧∃ dQ:AV,(dO=dQ∧S=S0)∧Q (.ret dQ) S) (∃ dR:AV,((.v (.bool false))=dR∧S=S0)∧Q (.ret dR) S)) (∃ dS:AV,((.v (.bool false))=dS∧S=S0)∧onB dS fun b=>gd b (∃ dT:AV,(shift a 3 S fun dU S=>dU=dT∧S=S0)∧∃ dV:AV,(ld1 dT S fun dW S=>dW=dV∧S=S0)∧∃ dX:AV,(callF Pg 75 [dV,(.f (.func 73) [] [c])] S (fun _ _=>False) fun dY S=>dY=dX∧S=S0)∧∃ dZ:AV,(un .not dX S fun eA S=>eA=dZ∧S=S0)∧∃ eB:AV,(dZ=eB∧S=S0)∧Q (.ret eB) S) (∃ eC:AV,((.v (.bool false))=eC∧S=S0)∧Q (.ret eC) S)))) (∃ eD:AV,((.v (.bool false))=eD∧S=S0)∧onB eD fun b=>gd b (∃ eE:AV,(shift a 1 S fun eF S=>eF=eE∧S=S0)∧∃ eG:AV,(ld1 eE S fun eH S=>eH=eG∧S=S0)∧∃ eI:AV,(bin .eql 0 eG (.v (.string { data:=#[] })) S fun eJ S=>eJ=eI∧S=S0)∧∃ eK:AV,(eI=eK∧S=S0)∧onB eK fun b=>gd b (∃ eL:AV,(shift a 3 S fun eM S=>eM=eL∧S=S0)∧∃ eN:AV,(ld1 eL S fun eO S=>eO=eN∧S=S0)∧∃ eP:AV,(lenS eN S fun eQ S=>eQ=eP∧S=S0)∧∃ eR:AV,(shift a 0 S fun eS S=>eS=eR∧S=S0)∧∃ eT:AV,(ld1 eR S fun eU S=>eU=eT∧S=S0)∧∃ eV:AV,(callF Pg 74 [eT] S (fun _ _=>False) fun eW S=>eW=eV∧S=S0)∧∃ eX:AV,(bin .eql 0 eP eV S fun eY S=>eY=eX∧S=S0)∧∃ eZ:AV,(eX=eZ∧S=S0)∧onB eZ fun b=>gd b (∃ fA:AV,(shift a 3 S fun fB S=>fB=fA∧S=S0)∧∃ fC:AV,(ld1 fA S fun fD S=>fD=fC∧S=S0)∧∃ fE:AV,(callF Pg 75 [fC,(.f (.func 73) [] [c])] S (fun _ _=>False) fun fF S=>fF=fE∧S=S0)∧∃ fG:AV,(un .not fE S fun fH S=>fH=fG∧S=S0)∧∃ fI:AV,(fG=fI∧S=S0)∧Q (.ret fI) S) (∃ fJ:AV,((.v (.bool false))=fJ∧S=S0)∧Q (.ret fJ) S)) (∃ fK:AV,((.v (.bool false))=fK∧S=S0)∧onB fK fun b=>gd b (∃ fL:AV,(shift a 3 S fun fM S=>fM=fL∧S=S0)∧∃ fN:AV,(ld1 fL S fun fO S=>fO=fN∧S=S0)∧∃ fP:AV,(callF Pg 75 [fN,(.f (.func 73) [] [c])] S (fun _ _=>False) fun fQ S=>fQ=fP∧S=S0)∧∃ fR:AV,(un .not fP S fun fS S=>fS=fR∧S=S0)∧∃ fT:AV,(fR=fT∧S=S0)∧Q (.ret fT) S) (∃ fU:AV,((.v (.bool false))=fU∧S=S0)∧Q (.ret fU) S))) (∃ fV:AV,((.v (.bool false))=fV∧S=S0)∧onB fV fun b=>gd b (∃ fW:AV,(shift a 3 S fun fX S=>fX=fW∧S=S0)∧∃ fY:AV,(ld1 fW S fun fZ S=>fZ=fY∧S=S0)∧∃ gA:AV,(lenS fY S fun gB S=>gB=gA∧S=S0)∧∃ gC:AV,(shift a 0 S fun gD S=>gD=gC∧S=S0)∧∃ gE:AV,(ld1 gC S fun gF S=>gF=gE∧S=S0)∧∃ gG:AV,(callF Pg 74 [gE] S (fun _ _=>False) fun gH S=>gH=gG∧S=S0)∧∃ gI:AV,(bin .eql 0 gA gG S fun gJ S=>gJ=gI∧S=S0)∧∃ gK:AV,(gI=gK∧S=S0)∧onB gK fun b=>gd b (∃ gL:AV,(shift a 3 S fun gM S=>gM=gL∧S=S0)∧∃ gN:AV,(ld1 gL S fun gO S=>gO=gN∧S=S0)∧∃ gP:AV,(callF Pg 75 [gN,(.f (.func 73) [] [c])] S (fun _ _=>False) fun gQ S=>gQ=gP∧S=S0)∧∃ gR:AV,(un .not gP S fun gS S=>gS=gR∧S=S0)∧∃ gT:AV,(gR=gT∧S=S0)∧Q (.ret gT) S) (∃ gU:AV,((.v (.bool false))=gU∧S=S0)∧Q (.ret gU) S)) (∃ gV:AV,((.v (.bool false))=gV∧S=S0)∧onB gV fun b=>gd b (∃ gW:AV,(shift a 3 S fun gX S=>gX=gW∧S=S0)∧∃ gY:AV,(ld1 gW S fun gZ S=>gZ=gY∧S=S0)∧∃ hA:AV,(callF Pg 75 [gY,(.f (.func 73) [] [c])] S (fun _ _=>False) fun hB S=>hB=hA∧S=S0)∧∃ hC:AV,(un .not hA S fun hD S=>hD=hC∧S=S0)∧∃ hE:AV,(hC=hE∧S=S0)∧Q (.ret hE) S) (∃ hF:AV,((.v (.bool false))=hF∧S=S0)∧Q (.ret hF) S))))) S) ((fun S0:Store=>∃ hG:AV,(ld1 c S fun hH S=>hH=hG∧S=S0)∧∃ hI:AV,(bin .gtr 0 hG (.v (.int .i64 0)) S fun hJ S=>hJ=hI∧S=S0)∧onB hI fun b=>gd b (∃ hK:AV,((.v (.bool false))=hK∧S=S0)∧onB hK fun b=>gd b (∃ hL:AV,(shift a 1 S fun hM S=>hM=hL∧S=S0)∧∃ hN:AV,(ld1 hL S fun hO S=>hO=hN∧S=S0)∧∃ hP:AV,(bin .eql 0 hN (.v (.string { data:=#[] })) S fun hQ S=>hQ=hP∧S=S0)∧∃ hR:AV,(hP=hR∧S=S0)∧onB hR fun b=>gd b (∃ hS:AV,(shift a 3 S fun hT S=>hT=hS∧S=S0)∧∃ hU:AV,(ld1 hS S fun hV S=>hV=hU∧S=S0)∧∃ hW:AV,(lenS hU S fun hX S=>hX=hW∧S=S0)∧∃ hY:AV,(shift a 0 S fun hZ S=>hZ=hY∧S=S0)∧∃ iA:AV,(ld1 hY S fun iB S=>iB=iA∧S=S0)∧∃ iC:AV,(callF Pg 74 [iA] S (fun _ _=>False) fun iD S=>iD=iC∧S=S0)∧∃ iE:AV,(bin .eql 0 hW iC S fun iF S=>iF=iE∧S=S0)∧∃ iG:AV,(iE=iG∧S=S0)∧onB iG fun b=>gd b (∃ iH:AV,(shift a 3 S fun iI S=>iI=iH∧S=S0)∧∃ iJ:AV,(ld1 iH S fun iK S=>iK=iJ∧S=S0)∧∃ iL:AV,(callF Pg 75 [iJ,(.f (.func 73) [] [c])] S (fun _ _=>False) fun iM S=>iM=iL∧S=S0)∧∃ iN:AV,(un .not iL S fun iO S=>iO=iN∧S=S0)∧∃ iP:AV,(iN=iP∧S=S0)∧Q (.ret iP) S) (∃ iQ:AV,((.v (.bool false))=iQ∧S=S0)∧Q (.ret iQ) S)) (∃ iR:AV,((.v (.bool false))=iR∧S=S0)∧onB iR fun b=>gd b (∃ iS:AV,(shift a 3 S fun iT S=>iT=iS∧S=S0)∧∃ iU:AV,(ld1 iS S fun iV S=>iV=iU∧S=S0)∧∃ iW:AV,(callF Pg 75 [iU,(.f (.func 73) [] [c])] S (fun _ _=>False) fun iX S=>iX=iW∧S=S0)∧∃ iY:AV,(un .not iW S fun iZ S=>iZ=iY∧S=S0)∧∃ jA:AV,(iY=jA∧S=S0)∧Q (.ret jA) S) (∃ jB:AV,((.v (.bool false))=jB∧S=S0)∧Q (.ret jB) S))) (∃ jC:AV,((.v (.bool false))=jC∧S=S0)∧onB jC fun b=>gd b (∃ jD:AV,(shift a 3 S fun jE S=>jE=jD∧S=S0)∧∃ jF:AV,(ld1 jD S fun jG S=>jG=jF∧S=S0)∧∃ jH:AV,(lenS jF S fun jI S=>jI=jH∧S=S0)∧∃ jJ:AV,(shift a 0 S fun jK S=>jK=jJ∧S=S0)∧∃ jL:AV,(ld1 jJ S fun jM S=>jM=jL∧S=S0)∧∃ jN:AV,(callF Pg 74 [jL] S (fun _ _=>False) fun jO S=>jO=jN∧S=S0)∧∃ jP:AV,(bin .eql 0 jH jN S fun jQ S=>jQ=jP∧S=S0)∧∃ jR:AV,(jP=jR∧S=S0)∧onB jR fun b=>gd b (∃ jS:AV,(shift a 3 S fun jT S=>jT=jS∧S=S0)∧∃ jU:AV,(ld1 jS S fun jV S=>jV=jU∧S=S0)∧∃ jW:AV,(callF Pg 75 [jU,(.f (.func 73) [] [c])] S (fun _ _=>False) fun jX S=>jX=jW∧S=S0)∧∃ jY:AV,(un .not jW S fun jZ S=>jZ=jY∧S=S0)∧∃ kA:AV,(jY=kA∧S=S0)∧Q (.ret kA) S) (∃ kB:AV,((.v (.bool false))=kB∧S=S0)∧Q (.ret kB) S)) (∃ kC:AV,((.v (.bool false))=kC∧S=S0)∧onB kC fun b=>gd b (∃ kD:AV,(shift a 3 S fun kE S=>kE=kD∧S=S0)∧∃ kF:AV,(ld1 kD S fun kG S=>kG=kF∧S=S0)∧∃ kH:AV,(callF Pg 75 [kF,(.f (.func 73) [] [c])] S (fun _ _=>False) fun kI S=>kI=kH∧S=S0)∧∃ kJ:AV,(un .not kH S fun kK S=>kK=kJ∧S=S0)∧∃ kL:AV,(kJ=kL∧S=S0)∧Q (.ret kL) S) (∃ kM:AV,((.v (.bool false))=kM∧S=S0)∧Q (.ret kM) S)))) (∃ kN:AV,((.v (.bool false))=kN∧S=S0)∧onB kN fun b=>gd b (∃ kO:AV,(shift a 1 S fun kP S=>kP=kO∧S=S0)∧∃ kQ:AV,(ld1 kO S fun kR S=>kR=kQ∧S=S0)∧∃ kS:AV,(bin .eql 0 kQ (.v (.string { data:=#[] })) S fun kT S=>kT=kS∧S=S0)∧∃ kU:AV,(kS=kU∧S=S0)∧onB kU fun b=>gd b (∃ kV:AV,(shift a 3 S fun kW S=>kW=kV∧S=S0)∧∃ kX:AV,(ld1 kV S fun kY S=>kY=kX∧S=S0)∧∃ kZ:AV,(lenS kX S fun lA S=>lA=kZ∧S=S0)∧∃ lB:AV,(shift a 0 S fun lC S=>lC=lB∧S=S0)∧∃ lD:AV,(ld1 lB S fun lE S=>lE=lD∧S=S0)∧∃ lF:AV,(callF Pg 74 [lD] S (fun _ _=>False) fun lG S=>lG=lF∧S=S0)∧∃ lH:AV,(bin .eql 0 kZ lF S fun lI S=>lI=lH∧S=S0)∧∃ lJ:AV,(lH=lJ∧S=S0)∧onB lJ fun b=>gd b (∃ lK:AV,(shift a 3 S fun lL S=>lL=lK∧S=S0)∧∃ lM:AV,(ld1 lK S fun lN S=>lN=lM∧S=S0)∧∃ lO:AV,(callF Pg 75 [lM,(.f (.func 73) [] [c])] S (fun _ _=>False) fun lP S=>lP=lO∧S=S0)∧∃ lQ:AV,(un .not lO S fun lR S=>lR=lQ∧S=S0)∧∃ lS:AV,(lQ=lS∧S=S0)∧Q (.ret lS) S) (∃ lT:AV,((.v (.bool false))=lT∧S=S0)∧Q (.ret lT) S)) (∃ lU:AV,((.v (.bool false))=lU∧S=S0)∧onB lU fun b=>gd b (∃ lV:AV,(shift a 3 S fun lW S=>lW=lV∧S=S0)∧∃ lX:AV,(ld1 lV S fun lY S=>lY=lX∧S=S0)∧∃ lZ:AV,(callF Pg 75 [lX,(.f (.func 73) [] [c])] S (fun _ _=>False) fun mA S=>mA=lZ∧S=S0)∧∃ mB:AV,(un .not lZ S fun mC S=>mC=mB∧S=S0)∧∃ mD:AV,(mB=mD∧S=S0)∧Q (.ret mD) S) (∃ mE:AV,((.v (.bool false))=mE∧S=S0)∧Q (.ret mE) S))) (∃ mF:AV,((.v (.bool false))=mF∧S=S0)∧onB mF fun b=>gd b (∃ mG:AV,(shift a 3 S fun mH S=>mH=mG∧S=S0)∧∃ mI:AV,(ld1 mG S fun mJ S=>mJ=mI∧S=S0)∧∃ mK:AV,(lenS mI S fun mL S=>mL=mK∧S=S0)∧∃ mM:AV,(shift a 0 S fun mN S=>mN=mM∧S=S0)∧∃ mO:AV,(ld1 mM S fun mP S=>mP=mO∧S=S0)∧∃ mQ:AV,(callF Pg 74 [mO] S (fun _ _=>False) fun mR S=>mR=mQ∧S=S0)∧∃ mS:AV,(bin .eql 0 mK mQ S fun mT S=>mT=mS∧S=S0)∧∃ mU:AV,(mS=mU∧S=S0)∧onB mU fun b=>gd b (∃ mV:AV,(shift a 3 S fun mW S=>mW=mV∧S=S0)∧∃ mX:AV,(ld1 mV S fun mY S=>mY=mX∧S=S0)∧∃ mZ:AV,(callF Pg 75 [mX,(.f (.func 73) [] [c])] S (fun _ _=>False) fun nA S=>nA=mZ∧S=S0)∧∃ nB:AV,(un .not mZ S fun nC S=>nC=nB∧S=S0)∧∃ nD:AV,(nB=nD∧S=S0)∧Q (.ret nD) S) (∃ nE:AV,((.v (.bool false))=nE∧S=S0)∧Q (.ret nE) S)) (∃ nF:AV,((.v (.bool false))=nF∧S=S0)∧onB nF fun b=>gd b (∃ nG:AV,(shift a 3 S fun nH S=>nH=nG∧S=S0)∧∃ nI:AV,(ld1 nG S fun nJ S=>nJ=nI∧S=S0)∧∃ nK:AV,(callF Pg 75 [nI,(.f (.func 73) [] [c])] S (fun _ _=>False) fun nL S=>nL=nK∧S=S0)∧∃ nM:AV,(un .not nK S fun nN S=>nN=nM∧S=S0)∧∃ nO:AV,(nM=nO∧S=S0)∧Q (.ret nO) S) (∃ nP:AV,((.v (.bool false))=nP∧S=S0)∧Q (.ret nP) S))))) S))
theorem calls35{x0 x1:AV}{S:Store}{Q:PoT}(h:m35 x0 x1 S Q):ACalls Pg 35 [x0,x1] S Q:=
 calls_of_vc (fn:=Tryz.f35) (c:=c35) (n:=47) Tryz.func35 (by kernel_rfl) (by kernel_rfl) (by kernel_rfl) ms35 (Eq.mpr (by kernel_rfl) h)
end
def bit(p:List Bool)(i:Nat):Bool:=p.getD i false
def nx(s:Sp)(i:Nat):List Int:=s.next.getD i []
def tab{α:Type}(n:Nat)(f:Nat→α):List α:=(List.range n).map f
@[simp] theorem tab_len{α:Type}(n:Nat)(f:Nat→α):(tab n f).length=n:=by simp[tab]
def exP(s:Sp)(p:List Bool):List Bool:=tab p.length fun i=>bit s.valid i && (nx s i).any fun k=>bit p k.toNat
def andP(a b:List Bool):List Bool:=tab a.length fun i=>bit a i && bit b i
inductive Reach (s:Sp) (p q:List Bool):Nat→Prop
 |base (i:Nat) (h1:bit q i=true) (h2:bit s.valid i=true):Reach s p q i
 |step (i k:Nat) (h1:bit p i=true) (h2:bit s.valid i=true) (h3:(k:Int)∈nx s i) (h:Reach s p q k):Reach s p q i
open Classical in
def euP (s:Sp) (p q:List Bool):List Bool:=tab q.length fun i=>decide (Reach s p q i)
@[simp] theorem andP_len(a b:List Bool):(andP a b).length=a.length:=by simp[andP]
@[simp] theorem exP_len(s:Sp)(p:List Bool):(exP s p).length=p.length:=by simp[exP]
@[simp] theorem euP_len(s:Sp)(p q:List Bool):(euP s p q).length=q.length:=by simp[euP]
def Sub(a b:List Bool):Prop:=∀ i,bit a i=true→bit b i=true
def stepP (s:Sp) (z f:List Bool):List Bool:=andP z (exP s (euP s z (andP z f)))
@[simp] theorem stepP_len(s:Sp)(z f:List Bool):(stepP s z f).length=z.length:=by simp[stepP]
def Stay(s:Sp)(fs:List (List Bool))(z:List Bool):Prop:=∀ f∈fs,Sub z (stepP s z f)
def fairL(s:Sp):List (List Bool):=if s.fair.isEmpty then[s.valid]else s.fair
def InEG(s:Sp)(p:List Bool)(i:Nat):Prop:=∃ z:List Bool,z.length=p.length∧Sub z (andP p s.valid)∧Stay s (fairL s) z∧bit z i=true
open Classical in
def egP (s:Sp) (p:List Bool):List Bool:=tab p.length fun i=>decide (InEG s p i)
@[simp] theorem egP_len(s:Sp)(p:List Bool):(egP s p).length=p.length:=by simp[egP]
def orP(a b:List Bool):List Bool:=tab a.length fun i=>bit a i || bit b i
@[simp] theorem orP_len(a b:List Bool):(orP a b).length=a.length:=by simp[orP]
structure In (s:Sp) (p:List Bool):Prop where
 len:p.length=s.valid.length
 sub:Sub p s.valid
theorem may_cases{k:Int}{n:ByteArray}{l:Int}{ks:List Fo}{d:Int}(h:Fo.mayB (.mk k n l ks) d=true):
    n=(⟨#[]⟩:ByteArray)∧0<d∧(((k=1∨k=2)∧ks = []∧l=0)∨(k=3∧ks = []∧0≤l)∨((k=4∨9≤k∧k≤14)∧l=0∧∃ f,ks = [f]∧f.mayB (d - 1)=true)∨((5≤k∧k≤8∨15≤k∧k≤18)∧l=0∧∃ f g,ks = [f,g]∧f.mayB (d - 1)=true∧g.mayB (d - 1)=true)):=by
 rw[Fo.mayB_mk]at h
 simp only[Bool.and_eq_true,decide_eq_true_eq,List.all_eq_true]at h
 obtain⟨h1,h2,h3,h4,h5⟩:=h
 refine⟨h3,h1,?_⟩
 unfold kidsN at h4
 split at h4
 ·omega
 split at h4
 ·have:ks = []:=List.eq_nil_of_length_eq_zero (by omega)
  by_cases hk:k=3
  ·exact .inr (.inl ⟨hk,this,by omega⟩)
  ·exact .inl ⟨by omega,this,by omega⟩
 split at h4
 ·rename_i hk
  obtain⟨f,rfl⟩:=List.length_eq_one_iff.1 (show ks.length=1 by omega)
  exact .inr (.inr (.inl ⟨hk,by omega,f,rfl,h5 f (by simp)⟩))
 ·match ks,h4,h5 with
  |[f,g],_,h5=>exact .inr (.inr (.inr ⟨by omega,by omega,f,g,rfl,h5 f (by simp),h5 g (by simp)⟩))
  |[],h4,_=>simp at h4
  |[_],h4,_=>simp at h4
  |_ :: _ :: _ :: _,h4,_=>simp at h4;omega
theorem J_eqS{a b:ByteArray}{S0:Store}{P:AV→Prop}:(∃ q,(bin .eql 0 (.v (.string a)) (.v (.string b)) S0 fun v S=>v=q∧S=S0)∧P q)=P (aB (decide (a=b))):=J_by (op:=fun K=>bin .eql 0 (.v (.string a)) (.v (.string b)) S0 K) fun K=>bin_eqlS _ _ _
theorem J_neS{a b:ByteArray}{S0:Store}{P:AV→Prop}:(∃ q,(bin .neq 0 (.v (.string a)) (.v (.string b)) S0 fun v S=>v=q∧S=S0)∧P q)=P (aB (!decide (a=b))):=J_by (op:=fun K=>bin .neq 0 (.v (.string a)) (.v (.string b)) S0 K) fun K=>bin_neqS _ _ _
theorem J_lenfoL{l:List Fo}{S0:Store}{P:AV→Prop}:(∃ q,(lenS (foL l) S0 fun v S=>v=q∧S=S0)∧P q)=P (aI l.length):=J_by (op:=fun K=>lenS (foL l) S0 K) fun K=>lenS_foL _
theorem kids_at(k:Int){f:FuncId}{m:AV→Store→(AEnd→Store→Prop)→Prop}(hm:∀(S:Store) (Q:AEnd→Store→Prop),m (aI k) S Q→ACalls Pg f [aI k] S Q)
    (hd:∀(S:Store) (Q:AEnd→Store→Prop),m (aI k) S Q=(bin .lss 0 (aI k) (.v (.int .i64 1)) S fun v S=>onB v fun b=>gd b (Q (.ret (aI (-1))) S) (bin .gtr 0 (aI k) (.v (.int .i64 18)) S fun v S=>onB v fun b=>gd b (Q (.ret (aI (-1))) S) (bin .leq 0 (aI k) (.v (.int .i64 3)) S fun v S=>onB v fun b=>gd b (Q (.ret (aI 0)) S)
     (bin .eql 0 (aI k) (.v (.int .i64 4)) S fun v S=>onB v fun b=>gd b (Q (.ret (aI 1)) S) (bin .geq 0 (aI k) (.v (.int .i64 9)) S fun v S=>onB v fun b=>gd b (bin .leq 0 (aI k) (.v (.int .i64 14)) S fun v S=>onB v fun b=>gd b (Q (.ret (aI 1)) S) (Q (.ret (aI 2)) S)) (Q (.ret (aI 2)) S))))))):
    Ans Pg f [aI k] (aI (kidsN k)):=by
 intro S
 refine hm S _ ?_
 rw[hd,bin_lss,onB_v]
 unfold kidsN
 refine gd_of (fun h=>⟨by rw[if_pos (.inl (dT h))],rfl⟩) (fun h1=>?_)
 have h1:=dF h1
 rw[bin_gtr,onB_v]
 refine gd_of (fun h=>⟨by rw[if_pos (.inr (dT h))],rfl⟩) (fun h2=>?_)
 have h2:=dF h2
 rw[if_neg (by omega),bin_leq,onB_v]
 refine gd_of (fun h=>⟨by rw[if_pos (dT h)],rfl⟩) (fun h3=>?_)
 have h3:=dF h3
 rw[if_neg h3,bin_eql,onB_v]
 refine gd_of (fun h=>⟨by rw[if_pos (.inl (dT h))],rfl⟩) (fun h4=>?_)
 have h4:=dF h4
 rw[bin_geq,onB_v]
 refine gd_of (fun h5=>?_) (fun h5=>?_)
 ·have h5:=dT h5
  rw[bin_leq,onB_v]
  refine gd_of (fun h=>⟨by rw[if_pos (.inr ⟨h5,dT h⟩)],rfl⟩) (fun h=>⟨by have:=dF h;rw[if_neg (by omega)],rfl⟩)
 ·have h5:=dF h5
  exact⟨by rw[if_neg (by omega)],rfl⟩
theorem ans74(k:Int):Ans Pg 74 [aI k] (aI (kidsN k)):=kids_at k (m:=m74) (fun S Q h=>calls74 h) fun S Q=>rfl
theorem ans39(k:Int):Ans Pg 39 [aI k] (aI (kidsN k)):=kids_at k (m:=m39) (fun S Q h=>calls39 h) fun S Q=>rfl
theorem at103{l:List Fo}(hl:l.length≤9223372036854775807){g:Fo→Bool}{fn:FuncId}{fs cs:List AV}{S:Store}
    (hf:∀ x,x∈l→AnsAt Pg fn (fs ++ [x.av]++cs) S (aB (g x))):AnsAt Pg 103 [foL l,.f (.func fn) fs cs] S (aI (idxOf (l.findIdx? g))):=by
 refine calls103 ?_
 unfold m103
 rw[lenS_foL]
 refine loop103_0 (fun y S'=>S'=S∧∃ i:Nat,y=aI i∧i≤l.length∧∀ k (hk:k<l.length),k<i→g l[k]=false) (fun y _=>l.length - ((intA y).getD 0).toNat) ⟨rfl,0,rfl,Nat.zero_le _,fun k _ h=>absurd h (Nat.not_lt_zero _)⟩ ?_
 rintro _ _ ⟨rfl,i,rfl,hi,hk⟩ KE hKE
 unfold b103_0
 rw[bin_lss,onB_v]
 refine gd_of (fun h=>?_) (fun h=>?_)
 ·have hlt:i<l.length:=by simpa using h
  rw[ixS_foL hlt,ldN_q (Fo.row_len _)]
  refine callV_at (hf _ (List.getElem_mem hlt)) ?_
  rw[onB_v]
  refine gd_of (fun hg=>⟨?_,rfl⟩) (fun hg=>?_)
  ·rw[find_at hlt hg (fun k hk'=>hk k _ hk')];rfl
  ·rw[bin_add (by omega) (by omega)]
   refine hKE _ _ ⟨rfl,i+1,rfl,hlt,fun k hk1 hk2=>?_⟩ ?_
   ·by_cases e:k=i
    ·subst e;exact hg
    ·exact hk k hk1 (by omega)
   ·simp[intA];omega
 ·have hge:i=l.length:=by simp at h;omega
  subst hge
  rw[find_none (fun k hk'=>hk k hk' hk')]
  exact⟨rfl,rfl⟩
theorem at75{l:List Fo}(hl:l.length≤9223372036854775807){g:Fo→Bool}{fn:FuncId}{fs cs:List AV}{S:Store}
    (hf:∀ x,x∈l→AnsAt Pg fn (fs ++ [x.av]++cs) S (aB (g x))):AnsAt Pg 75 [foL l,.f (.func fn) fs cs] S (aB (l.any g)):=by
 refine calls75 ?_
 unfold m75
 refine callF_at (at103 hl hf) ?_
 rw[bin_geq,idx_any]
 exact⟨rfl,rfl⟩
theorem any_notF{l:List Fo}{g:Fo→Bool}:l.any (fun x=>!g x) = !l.all g:=by
 induction l with
 |nil=>rfl
 |cons a l ih=>rw[List.any_cons,List.all_cons,ih,Bool.not_and]
theorem Fo.ok.inv{k:Int}{n:ByteArray}{l:Int}{ks:List Fo}(h:Fo.ok (.mk k n l ks)):i64R k∧i64R l∧n.size≤9223372036854775807∧ks.length≤1000000∧∀ f∈ks,Fo.ok f:=by
 cases h with
 |mk k n l ks h1 h2 h3 h4 h=>exact⟨h1,h2,h3,h4,h⟩
theorem at73{S:Store}{id t:Nat}{d:Int}{f:Fo}{b:Bool}(h:S.obj id=some (.cells t [[aI d]] true))(hid:id<S.n)(h0:0<d)(hd:i64R d)(hr:Ans Pg 35 [f.av,aI (d - 1)] (aB b)):
    AnsAt Pg 73 [f.av,.p id 0 0] S (aB (!b)):=by
 refine ACalls.ans_v (calls73 ?_)
 unfold m73 Fo.av
 refine boxA_of (Fo.row_len f) fun S1 k1 n1 o1=>?_
 rw[ldN_p (n:=4) o1 (Fo.row_len f),ld1_p ((k1.2 _ hid).trans h) rfl rfl,bin_sub (by have:=hd.2;omega) (by have:=hd.2;omega)]
 refine callF_ans hr ?_
 rw[un_not]
 exact⟨rfl,k1⟩
theorem ans35:∀(f:Fo),f.ok→∀ d,i64R d→Ans Pg 35 [f.av,aI d] (aB (f.mayB d)):=by
 intro f
 induction f using Fo.ind with
 |h k n l ks ih =>
  intro hok d hd S
  obtain⟨h1,h2,h3,h4,h5⟩:=hok.inv
  refine ACalls.ans_v (calls35 ?_)
  unfold m35 Fo.av
  rw[Fo.row_mk,Fo.mayB_mk]
  refine boxA_of rfl fun S1 k1 n1 o1=>?_
  refine box1_of rfl fun S2 k2 n2 o2=>?_
  have p2:=(k2.2 _ (by omega)).trans o1
  have kk:=k1.trans k2
  have hcont:0<d→AnsAt Pg 75 [foL ks,.f (.func 73) [] [.p S1.n 0 0]] S2 (aB (!ks.all fun f=>f.mayB (d - 1))):=fun h0=>by
   rw[←any_notF]
   exact at75 (by omega) fun x hx=>at73 o2 (by omega) h0 hd (ih x hx (h5 x hx) (d - 1) ⟨by have:=hd.2;omega,by have:=hd.2;omega⟩)
  rw[shift_p,ld1_p p2 rfl rfl,bin_eql,onB_v]
  have hk:=ans74 k
  have fin:∀(b:Bool) (E:AEnd),b=(decide (0<d) && (decide (l=0∨0<l∧k=3) && (decide (n=(⟨#[]⟩:ByteArray)) && (decide ((ks.length:Int)=kidsN k) && ks.all fun f=>f.mayB (d - 1)))))→E = .ret (aB b)→
      E = .ret (aB (decide (0<d) && (decide (l=0∨0<l∧k=3) && (decide (n=(⟨#[]⟩:ByteArray)) && (decide ((ks.length:Int)=kidsN k) && ks.all fun f=>f.mayB (d - 1))))))∧Keep S S2:=fun b E h1 h2=>⟨by rw[←h1];exact h2,kk⟩
  refine gd_of (fun hl0=>?_) (fun hl0=>?_)
  ·have hlit:decide (l=0∨0<l∧k=3)=true:=decide_eq_true (.inl (dT hl0))
   show ∃ q:AV,_
   cases e1:decide (0<d)with
   |false =>
    (repeat (first|with_reducible_and_instances (first|refine WJ ?_|refine W (J_ldp o2 (by with_unfolding_all rfl) (by with_unfolding_all rfl)) ?_|refine W (J_ldp p2 (by with_unfolding_all rfl) (by with_unfolding_all rfl)) ?_|refine W (gd_T e1) ?_|refine W (gd_F e1) ?_|refine W (gd_nT e1) ?_|refine W (gd_nF e1) ?_|refine W (J_ldq (by with_unfolding_all rfl)) ?_)))
    exact⟨by rw[Bool.false_and],kk⟩
   |true =>
    cases e2:decide (n=(⟨#[]⟩:ByteArray))with
    |false =>
     (repeat (first|with_reducible_and_instances (first|refine WJ ?_|refine W (J_ldp o2 (by with_unfolding_all rfl) (by with_unfolding_all rfl)) ?_|refine W (J_ldp p2 (by with_unfolding_all rfl) (by with_unfolding_all rfl)) ?_|refine W (J_eqS) ?_|refine W (gd_T e1) ?_|refine W (gd_F e1) ?_|refine W (gd_nT e1) ?_|refine W (gd_nF e1) ?_|refine W (gd_T e2) ?_|refine W (gd_F e2) ?_|refine W (gd_nT e2) ?_|refine W (gd_nF e2) ?_|refine W (J_ldq (by with_unfolding_all rfl)) ?_)))
     exact⟨by rw[Bool.true_and,Bool.false_and,Bool.and_false],kk⟩
    |true =>
     cases e3:decide ((ks.length:Int)=kidsN k)with
     |false =>
      (repeat (first|with_reducible_and_instances (first|refine WJ ?_|refine W (J_ldp o2 (by with_unfolding_all rfl) (by with_unfolding_all rfl)) ?_|refine W (J_ldp p2 (by with_unfolding_all rfl) (by with_unfolding_all rfl)) ?_|refine W (J_eqS) ?_|refine W (J_lenfoL) ?_|refine W (gd_T e1) ?_|refine W (gd_F e1) ?_|refine W (gd_nT e1) ?_|refine W (gd_nF e1) ?_|refine W (gd_T e2) ?_|refine W (gd_F e2) ?_|refine W (gd_nT e2) ?_|refine W (gd_nF e2) ?_|refine W (gd_T e3) ?_|refine W (gd_F e3) ?_|refine W (gd_nT e3) ?_|refine W (gd_nF e3) ?_|refine W (J_ldq (by with_unfolding_all rfl)) ?_)|refine J_cA (hk) rfl rfl ?_|refine C_A (hk) rfl rfl ?_))
      exact⟨by rw[Bool.true_and,Bool.true_and,Bool.false_and,Bool.and_false],kk⟩
     |true =>
      (repeat (first|with_reducible_and_instances (first|refine WJ ?_|refine W (J_ldp o2 (by with_unfolding_all rfl) (by with_unfolding_all rfl)) ?_|refine W (J_ldp p2 (by with_unfolding_all rfl) (by with_unfolding_all rfl)) ?_|refine W (J_eqS) ?_|refine W (J_lenfoL) ?_|refine W (gd_T e1) ?_|refine W (gd_F e1) ?_|refine W (gd_nT e1) ?_|refine W (gd_nF e1) ?_|refine W (gd_T e2) ?_|refine W (gd_F e2) ?_|refine W (gd_nT e2) ?_|refine W (gd_nF e2) ?_|refine W (gd_T e3) ?_|refine W (gd_F e3) ?_|refine W (gd_nT e3) ?_|refine W (gd_nF e3) ?_|refine W (J_ldq (by with_unfolding_all rfl)) ?_)|refine J_cI (hcont (dT e1)) rfl rfl ?_|refine C_I (hcont (dT e1)) rfl rfl ?_|refine J_cA (hk) rfl rfl ?_|refine C_A (hk) rfl rfl ?_))
      exact⟨by rw[hlit,Bool.true_and,Bool.true_and,Bool.true_and,Bool.true_and,Bool.not_not],kk⟩
  ·have hl0':=dF hl0
   rw[shift_p,ld1_p p2 rfl rfl,bin_gtr,onB_v]
   refine gd_of (fun hl1=>?_) (fun hl1=>?_)
   ·have hlit:decide (l=0∨0<l∧k=3)=decide (k=3):=decide_eq_decide.2 ⟨fun h=>by rcases h with h|h;exact absurd h hl0';exact h.2,fun h=>.inr ⟨dT hl1,h⟩⟩
    rw[shift_p,ld1_p p2 rfl rfl,bin_eql,hlit]
    show ∃ q:AV,_
    cases e1:decide (0<d)with
    |false =>
     (repeat (first|with_reducible_and_instances (first|refine WJ ?_|refine W (J_ldp o2 (by with_unfolding_all rfl) (by with_unfolding_all rfl)) ?_|refine W (J_ldp p2 (by with_unfolding_all rfl) (by with_unfolding_all rfl)) ?_|refine W (gd_T e1) ?_|refine W (gd_F e1) ?_|refine W (gd_nT e1) ?_|refine W (gd_nF e1) ?_|refine W (J_ldq (by with_unfolding_all rfl)) ?_)))
     exact⟨by rw[Bool.false_and],kk⟩
    |true =>
     cases e4:decide (k=3)with
     |false =>
      (repeat (first|with_reducible_and_instances (first|refine WJ ?_|refine W (J_ldp o2 (by with_unfolding_all rfl) (by with_unfolding_all rfl)) ?_|refine W (J_ldp p2 (by with_unfolding_all rfl) (by with_unfolding_all rfl)) ?_|refine W (gd_T e1) ?_|refine W (gd_F e1) ?_|refine W (gd_nT e1) ?_|refine W (gd_nF e1) ?_|refine W (J_ldq (by with_unfolding_all rfl)) ?_)))
      exact⟨by rw[Bool.false_and,Bool.and_false],kk⟩
     |true =>
      cases e2:decide (n=(⟨#[]⟩:ByteArray))with
      |false =>
       (repeat (first|with_reducible_and_instances (first|refine WJ ?_|refine W (J_ldp o2 (by with_unfolding_all rfl) (by with_unfolding_all rfl)) ?_|refine W (J_ldp p2 (by with_unfolding_all rfl) (by with_unfolding_all rfl)) ?_|refine W (J_eqS) ?_|refine W (gd_T e1) ?_|refine W (gd_F e1) ?_|refine W (gd_nT e1) ?_|refine W (gd_nF e1) ?_|refine W (gd_T e2) ?_|refine W (gd_F e2) ?_|refine W (gd_nT e2) ?_|refine W (gd_nF e2) ?_|refine W (J_ldq (by with_unfolding_all rfl)) ?_)))
       exact⟨by rw[Bool.true_and,Bool.true_and,Bool.false_and],kk⟩
      |true =>
       cases e3:decide ((ks.length:Int)=kidsN k)with
       |false =>
        (repeat (first|with_reducible_and_instances (first|refine WJ ?_|refine W (J_ldp o2 (by with_unfolding_all rfl) (by with_unfolding_all rfl)) ?_|refine W (J_ldp p2 (by with_unfolding_all rfl) (by with_unfolding_all rfl)) ?_|refine W (J_eqS) ?_|refine W (J_lenfoL) ?_|refine W (gd_T e1) ?_|refine W (gd_F e1) ?_|refine W (gd_nT e1) ?_|refine W (gd_nF e1) ?_|refine W (gd_T e2) ?_|refine W (gd_F e2) ?_|refine W (gd_nT e2) ?_|refine W (gd_nF e2) ?_|refine W (gd_T e3) ?_|refine W (gd_F e3) ?_|refine W (gd_nT e3) ?_|refine W (gd_nF e3) ?_|refine W (J_ldq (by with_unfolding_all rfl)) ?_)|refine J_cA (hk) rfl rfl ?_|refine C_A (hk) rfl rfl ?_))
        exact⟨by rw[Bool.true_and,Bool.true_and,Bool.true_and,Bool.false_and],kk⟩
       |true =>
        (repeat (first|with_reducible_and_instances (first|refine WJ ?_|refine W (J_ldp o2 (by with_unfolding_all rfl) (by with_unfolding_all rfl)) ?_|refine W (J_ldp p2 (by with_unfolding_all rfl) (by with_unfolding_all rfl)) ?_|refine W (J_eqS) ?_|refine W (J_lenfoL) ?_|refine W (gd_T e1) ?_|refine W (gd_F e1) ?_|refine W (gd_nT e1) ?_|refine W (gd_nF e1) ?_|refine W (gd_T e2) ?_|refine W (gd_F e2) ?_|refine W (gd_nT e2) ?_|refine W (gd_nF e2) ?_|refine W (gd_T e3) ?_|refine W (gd_F e3) ?_|refine W (gd_nT e3) ?_|refine W (gd_nF e3) ?_|refine W (J_ldq (by with_unfolding_all rfl)) ?_)|refine J_cI (hcont (dT e1)) rfl rfl ?_|refine C_I (hcont (dT e1)) rfl rfl ?_|refine J_cA (hk) rfl rfl ?_|refine C_A (hk) rfl rfl ?_))
        exact⟨by rw[Bool.true_and,Bool.true_and,Bool.true_and,Bool.true_and,Bool.not_not],kk⟩
   ·have hlit:decide (l=0∨0<l∧k=3)=false:=decide_eq_false fun h=>by rcases h with h|h;exact absurd h hl0';exact absurd h.1 (dF hl1)
    show ∃ q:AV,_
    rw[hlit]
    cases e1:decide (0<d)with
    |false =>
     (repeat (first|with_reducible_and_instances (first|refine WJ ?_|refine W (J_ldp o2 (by with_unfolding_all rfl) (by with_unfolding_all rfl)) ?_|refine W (J_ldp p2 (by with_unfolding_all rfl) (by with_unfolding_all rfl)) ?_|refine W (gd_T e1) ?_|refine W (gd_F e1) ?_|refine W (gd_nT e1) ?_|refine W (gd_nF e1) ?_|refine W (J_ldq (by with_unfolding_all rfl)) ?_)))
     exact⟨by rw[Bool.false_and],kk⟩
    |true =>
     (repeat (first|with_reducible_and_instances (first|refine WJ ?_|refine W (J_ldp o2 (by with_unfolding_all rfl) (by with_unfolding_all rfl)) ?_|refine W (J_ldp p2 (by with_unfolding_all rfl) (by with_unfolding_all rfl)) ?_|refine W (gd_T e1) ?_|refine W (gd_F e1) ?_|refine W (gd_nT e1) ?_|refine W (gd_nF e1) ?_|refine W (J_ldq (by with_unfolding_all rfl)) ?_)))
     exact⟨by rw[Bool.false_and,Bool.and_false],kk⟩
theorem mayB_eq(k:Int)(n:ByteArray)(l:Int)(ks:List Fo)(d:Int):Fo.mayB (.mk k n l ks) d=(decide (0<d∧kidsN k=ks.length∧n=(⟨#[]⟩:ByteArray)∧(l=0∨0<l∧k=3)) && ks.all fun f=>f.mayB (d - 1)):=by
 rw[Fo.mayB_mk,←Bool.and_assoc,←Bool.and_assoc,←Bool.and_assoc]
 congr 1
 rw[←Bool.decide_and,←Bool.decide_and,←Bool.decide_and]
 exact decide_eq_decide.2 ⟨fun⟨⟨⟨h1,h2⟩,h3⟩,h4⟩=>⟨h1,h4.symm,h3,h2⟩,fun⟨h1,h4,h3,h2⟩=>⟨⟨⟨h1,h2⟩,h3⟩,h4.symm⟩⟩
theorem all_lt{α:Type}{l:List α}{g:α→Bool}(h:∀ j (h:j<l.length),g l[j]=true):l.all g=true:=List.all_eq_true.2 fun x hx=>by
 obtain⟨j,hj,rfl⟩:=List.getElem_of_mem hx
 exact h j hj
theorem all_no{α:Type}{l:List α}{g:α→Bool}{i:Nat}(hi:i<l.length)(h:g l[i]=false):l.all g=false:=List.all_eq_false.2 ⟨_,List.getElem_mem hi,by simp[h]⟩
theorem lt_step{α:Type}{l:List α}{p:α→Prop}{i:Nat}{hi:i<l.length}(hok:∀ j (h:j<l.length),j<i→p l[j])(h:p l[i]):∀ j (h:j<l.length),j<i+1→p l[j]:=fun j hj hj'=>by
 rcases Nat.lt_or_ge j i with h'|h'
 ·exact hok j hj h'
 ·have:j=i:=by omega
  subst this
  exact h
theorem ans26:∀(f:Fo),f.ok→∀ d,i64R d→Ans Pg 26 [f.av,aI d] (aB (f.mayB d)):=by
 intro f
 induction f using Fo.ind with
 |h k n l ks ih =>
  intro hok d hd S
  obtain⟨h1,h2,h3,h4,h5⟩:=hok.inv
  refine ACalls.ans_v (calls26 ?_)
  unfold m26 Fo.av
  rw[Fo.row_mk,mayB_eq]
  refine boxA_of rfl fun S1 k1 n1 o1=>?_
  have hk:=ans39 k
  have bad:∀{E:AEnd},¬ (0<d∧kidsN k=ks.length∧n=(⟨#[]⟩:ByteArray)∧(l=0∨0<l∧k=3))→E = .ret (aB false)→E = .ret (aB (decide (0<d∧kidsN k=ks.length∧n=(⟨#[]⟩:ByteArray)∧(l=0∨0<l∧k=3)) && ks.all fun f=>f.mayB (d - 1)))∧Keep S S1:=fun h1 h2=>⟨by rw[decide_eq_false h1,Bool.false_and];exact h2,k1⟩
  have main:0<d∧kidsN k=ks.length∧n=(⟨#[]⟩:ByteArray)∧(l=0∨0<l∧k=3)→loopV lv26_0 (vc Pg (c26.at_ [1,1,0,1,0,0]) (ms26.drop 1)) 53 (env26_0 (aI d) (.p S.n 0 0) (.v (.int .i64 0))) S1 (blockK 0 (seqK (vc Pg (c26.at_ [1,1,1]) (ms26.drop 1)) (bodyK Pg r26 fun r S'=>r = .ret (aB (decide (0<d∧kidsN k=ks.length∧n=(⟨#[]⟩:ByteArray)∧(l=0∨0<l∧k=3)) && ks.all fun f=>f.mayB (d - 1)))∧Keep S S'))):=fun good=>by
   rw[decide_eq_true good,Bool.true_and]
   refine loop26_0 (fun y S'=>S'=S1∧∃ i:Nat,y=aI i∧i≤ks.length∧∀ j (h:j<ks.length),j<i→ks[j].mayB (d - 1)=true)
    (fun y _=>ks.length - ((intA y).getD 0).toNat) ⟨rfl,0,rfl,Nat.zero_le _,fun j _ hj=>(Nat.not_lt_zero _ hj).elim⟩ ?_
   rintro _ S1 ⟨rfl,i,rfl,hi,hall⟩ KE hKE
   unfold b26_0
   rw[shift_p,ld1_p o1 rfl rfl,lenS_foL,bin_lss,onB_v]
   refine gd_of (fun hlt=>?_) (fun hge=>?_)
   ·have hlt:i<ks.length:=by simpa using hlt
    have hm:=List.getElem_mem hlt
    rw[shift_p,ld1_p o1 rfl rfl,ixS_foL hlt,ldN_q (Fo.row_len _),bin_sub (by have:=hd.2;omega) (by have:=hd.2;omega)]
    refine callF_ans (ih _ hm (h5 _ hm) (d - 1) ⟨by have:=hd.2;omega,by have:=hd.2;omega⟩) ?_
    rw[un_not,onB_v]
    refine gd_of (fun h=>⟨by rw[all_no hlt (by simpa using h)],k1⟩) (fun h=>?_)
    rw[bin_add (by omega) (by omega)]
    exact hKE _ _ ⟨rfl,i+1,rfl,hlt,lt_step (p:=fun f=>f.mayB (d - 1)=true) (hi:=hlt) hall (by simpa using h)⟩ (by simp[intA];omega)
   ·have hge:i=ks.length:=by simp at hge;omega
    subst hge
    exact⟨by rw[all_lt fun j hj=>hall j hj hj],k1⟩
  show ∃ q:AV,_
  cases e1:decide (d<1)with
  |true =>
   (repeat (first|with_reducible_and_instances (first|refine WJ ?_|refine W (gd_T e1) ?_|refine W (gd_F e1) ?_|refine W (gd_nT e1) ?_|refine W (gd_nF e1) ?_|refine W (J_ldq (by with_unfolding_all rfl)) ?_)))
   exact bad (fun h=>by have:=dT e1;omega) rfl
  |false =>
   cases e2:decide (kidsN k=ks.length)with
   |false =>
    (repeat (first|with_reducible_and_instances (first|refine WJ ?_|refine W (J_ldp o1 (by with_unfolding_all rfl) (by with_unfolding_all rfl)) ?_|refine W (J_lenfoL) ?_|refine W (gd_T e1) ?_|refine W (gd_F e1) ?_|refine W (gd_nT e1) ?_|refine W (gd_nF e1) ?_|refine W (gd_T e2) ?_|refine W (gd_F e2) ?_|refine W (gd_nT e2) ?_|refine W (gd_nF e2) ?_|refine W (J_ldq (by with_unfolding_all rfl)) ?_)|refine J_cA (hk) rfl rfl ?_|refine C_A (hk) rfl rfl ?_))
    exact bad (fun h=>dF e2 h.2.1) rfl
   |true =>
    cases e3:decide (n=(⟨#[]⟩:ByteArray))with
    |false =>
     (repeat (first|with_reducible_and_instances (first|refine WJ ?_|refine W (J_ldp o1 (by with_unfolding_all rfl) (by with_unfolding_all rfl)) ?_|refine W (J_lenfoL) ?_|refine W (J_neS) ?_|refine W (gd_T e1) ?_|refine W (gd_F e1) ?_|refine W (gd_nT e1) ?_|refine W (gd_nF e1) ?_|refine W (gd_T e2) ?_|refine W (gd_F e2) ?_|refine W (gd_nT e2) ?_|refine W (gd_nF e2) ?_|refine W (gd_T e3) ?_|refine W (gd_F e3) ?_|refine W (gd_nT e3) ?_|refine W (gd_nF e3) ?_|refine W (J_ldq (by with_unfolding_all rfl)) ?_)|refine J_cA (hk) rfl rfl ?_|refine C_A (hk) rfl rfl ?_))
     exact bad (fun h=>dF e3 h.2.2.1) rfl
    |true =>
     cases e4:decide (l<0)with
     |true =>
      (repeat (first|with_reducible_and_instances (first|refine WJ ?_|refine W (J_ldp o1 (by with_unfolding_all rfl) (by with_unfolding_all rfl)) ?_|refine W (J_lenfoL) ?_|refine W (J_neS) ?_|refine W (gd_T e1) ?_|refine W (gd_F e1) ?_|refine W (gd_nT e1) ?_|refine W (gd_nF e1) ?_|refine W (gd_T e2) ?_|refine W (gd_F e2) ?_|refine W (gd_nT e2) ?_|refine W (gd_nF e2) ?_|refine W (gd_T e3) ?_|refine W (gd_F e3) ?_|refine W (gd_nT e3) ?_|refine W (gd_nF e3) ?_|refine W (gd_T e4) ?_|refine W (gd_F e4) ?_|refine W (gd_nT e4) ?_|refine W (gd_nF e4) ?_|refine W (J_ldq (by with_unfolding_all rfl)) ?_)|refine J_cA (hk) rfl rfl ?_|refine C_A (hk) rfl rfl ?_))
      exact bad (fun h=>by have:=dT e4;have:=h.2.2.2;omega) rfl
     |false =>
      have e1':=dF e1
      have e2':=dT e2
      have e3':=dT e3
      have e4':=dF e4
      cases e5:decide (k=3)with
      |true =>
       (repeat (first|with_reducible_and_instances (first|refine WJ ?_|refine W (J_ldp o1 (by with_unfolding_all rfl) (by with_unfolding_all rfl)) ?_|refine W (J_lenfoL) ?_|refine W (J_neS) ?_|refine W (gd_T e1) ?_|refine W (gd_F e1) ?_|refine W (gd_nT e1) ?_|refine W (gd_nF e1) ?_|refine W (gd_T e2) ?_|refine W (gd_F e2) ?_|refine W (gd_nT e2) ?_|refine W (gd_nF e2) ?_|refine W (gd_T e3) ?_|refine W (gd_F e3) ?_|refine W (gd_nT e3) ?_|refine W (gd_nF e3) ?_|refine W (gd_T e4) ?_|refine W (gd_F e4) ?_|refine W (gd_nT e4) ?_|refine W (gd_nF e4) ?_|refine W (gd_T e5) ?_|refine W (gd_F e5) ?_|refine W (gd_nT e5) ?_|refine W (gd_nF e5) ?_|refine W (J_ldq (by with_unfolding_all rfl)) ?_)|refine J_cA (hk) rfl rfl ?_|refine C_A (hk) rfl rfl ?_))
       have e5':=dT e5
       exact main ⟨by omega,e2',e3',by omega⟩
      |false =>
       have e5':=dF e5
       cases e6:decide (l=0)with
       |true =>
        (repeat (first|with_reducible_and_instances (first|refine WJ ?_|refine W (J_ldp o1 (by with_unfolding_all rfl) (by with_unfolding_all rfl)) ?_|refine W (J_lenfoL) ?_|refine W (J_neS) ?_|refine W (gd_T e1) ?_|refine W (gd_F e1) ?_|refine W (gd_nT e1) ?_|refine W (gd_nF e1) ?_|refine W (gd_T e2) ?_|refine W (gd_F e2) ?_|refine W (gd_nT e2) ?_|refine W (gd_nF e2) ?_|refine W (gd_T e3) ?_|refine W (gd_F e3) ?_|refine W (gd_nT e3) ?_|refine W (gd_nF e3) ?_|refine W (gd_T e4) ?_|refine W (gd_F e4) ?_|refine W (gd_nT e4) ?_|refine W (gd_nF e4) ?_|refine W (gd_T e5) ?_|refine W (gd_F e5) ?_|refine W (gd_nT e5) ?_|refine W (gd_nF e5) ?_|refine W (gd_T e6) ?_|refine W (gd_F e6) ?_|refine W (gd_nT e6) ?_|refine W (gd_nF e6) ?_|refine W (J_ldq (by with_unfolding_all rfl)) ?_)|refine J_cA (hk) rfl rfl ?_|refine C_A (hk) rfl rfl ?_))
        exact main ⟨by omega,e2',e3',.inl (dT e6)⟩
       |false =>
        (repeat (first|with_reducible_and_instances (first|refine WJ ?_|refine W (J_ldp o1 (by with_unfolding_all rfl) (by with_unfolding_all rfl)) ?_|refine W (J_lenfoL) ?_|refine W (J_neS) ?_|refine W (gd_T e1) ?_|refine W (gd_F e1) ?_|refine W (gd_nT e1) ?_|refine W (gd_nF e1) ?_|refine W (gd_T e2) ?_|refine W (gd_F e2) ?_|refine W (gd_nT e2) ?_|refine W (gd_nF e2) ?_|refine W (gd_T e3) ?_|refine W (gd_F e3) ?_|refine W (gd_nT e3) ?_|refine W (gd_nF e3) ?_|refine W (gd_T e4) ?_|refine W (gd_F e4) ?_|refine W (gd_nT e4) ?_|refine W (gd_nF e4) ?_|refine W (gd_T e5) ?_|refine W (gd_F e5) ?_|refine W (gd_nT e5) ?_|refine W (gd_nF e5) ?_|refine W (gd_T e6) ?_|refine W (gd_F e6) ?_|refine W (gd_nT e6) ?_|refine W (gd_nF e6) ?_|refine W (J_ldq (by with_unfolding_all rfl)) ?_)|refine J_cA (hk) rfl rfl ?_|refine C_A (hk) rfl rfl ?_))
        exact bad (fun h=>by have:=dF e6;have:=h.2.2.2;omega) rfl
def IsLit(g:Gr)(S:Store)(fn:FuncId)(cs:List AV):Prop:=∀ T,Keep S T→∀ l,i64R l→AnsAt Pg fn ([] ++ [aI l]++cs) T (aB (g.lit l))
theorem at46{g:Gr}:∀(f:Fo),f.ok→∀{S:Store} {fn:FuncId} {cs:List AV},IsLit g S fn cs→AnsAt Pg 46 [f.av,.f (.func fn) [] cs] S (aB (f.litsB g)):=by
 intro f
 induction f using Fo.ind with
 |h k n l ks ih =>
  intro hok S fn cs hfn
  obtain⟨h1,h2,h3,h4,h5⟩:=hok.inv
  refine ACalls.ans_v (calls46 ?_)
  unfold m46 Fo.av
  rw[Fo.row_mk,Fo.litsB_mk]
  refine boxA_of rfl fun S1 k1 n1 o1=>?_
  refine box1_of rfl fun S2 k2 n2 o2=>?_
  have p2:=(k2.2 _ (by omega)).trans o1
  have kk:=k1.trans k2
  have hkid:∀ x∈ks,AnsAt Pg 86 ([] ++ [x.av] ++ [.p S1.n 0 0]) S2 (aB (!x.litsB g)):=fun x hx=>by
   refine ACalls.ans_v (calls86 ?_)
   unfold m86 Fo.av
   refine boxA_of (Fo.row_len x) fun S3 k3 n3 o3=>?_
   rw[ldN_p (n:=4) o3 (Fo.row_len x),ld1_p ((k3.2 _ (by omega)).trans o2) rfl rfl]
   refine callF_at (ih x hx (h5 x hx) (S:=S3) (fn:=fn) (cs:=cs) fun T hT=>hfn T ((kk.trans k3).trans hT)) ?_
   rw[un_not]
   exact⟨rfl,k3⟩
  have hcont:=at75 (l:=ks) (by omega) hkid
  rw[any_notF]at hcont
  rw[shift_p,ld1_p p2 rfl rfl,bin_neq,onB_v]
  refine gd_of (fun h=>?_) (fun h=>?_)
  ·rw[shift_p,ld1_p p2 rfl rfl]
   refine callF_at hcont ?_
   rw[un_not,Bool.not_not]
   have:(decide (k≠3) || g.lit l)=true:=by simp at h;simp[h]
   exact⟨by rw[this,Bool.true_and],kk⟩
  ·have hk3:decide (k≠3)=false:=by simp at h;simp[h]
   rw[hk3,Bool.false_or,ld1_p o2 rfl rfl,shift_p,ld1_p p2 rfl rfl]
   refine callV_at (hfn S2 kk l h2) ?_
   rw[onB_v]
   refine gd_of (fun hg=>?_) (fun hg=>⟨by rw[hg,Bool.false_and],kk⟩)
   rw[shift_p,ld1_p p2 rfl rfl]
   refine callF_at hcont ?_
   rw[un_not,Bool.not_not]
   exact⟨by rw[hg,Bool.true_and],kk⟩
theorem ans28{c:Ci}(hc:c.ok){f:Fo}(hf:f.ok):Ans Pg 28 [c.av,f.av] (aB (mayC c f)):=by
 intro S
 refine ACalls.ans_v (calls28 ?_)
 unfold m28 mayC
 refine boxA_of rfl fun S1 k1 n1 o1=>?_
 refine boxA_of (Fo.row_len f) fun S2 k2 n2 o2=>?_
 have p2:=(k2.2 _ (by omega)).trans o1
 rw[ldN_p (n:=8) p2 rfl]
 refine callF_ans (ans44 c) ?_
 refine boxA_of rfl fun S3 k3 n3 o3=>?_
 refine stA_of (cs':=c.gr.cells) o3 rfl rfl fun S4 n4 o4 f4=>?_
 have k4:=k3.st (Nat.le_refl _) n4 f4
 have kk:=(k1.trans k2).trans k4
 rw[ldN_p (n:=8) ((k4.2 _ (by omega)).trans p2) rfl]
 refine callF_ans (ans45 hc) ?_
 rw[onB_v]
 refine gd_of (fun h=>?_) (fun h=>⟨by rw[h,Bool.false_and],kk⟩)
 rw[h,Bool.true_and,ldN_p (n:=4) ((k4.2 _ (by omega)).trans o2) (Fo.row_len f)]
 refine callF_ans (ans35 f hf 60 ⟨by decide,by decide⟩) ?_
 rw[onB_v]
 refine gd_of (fun h=>?_) (fun h=>⟨by rw[h,Bool.false_and],kk⟩)
 rw[h,Bool.true_and,ldN_p (n:=4) ((k4.2 _ (by omega)).trans o2) (Fo.row_len f)]
 refine callF_at (at46 (g:=c.gr) f hf fun T hT l hl=>?_) ⟨rfl,kk⟩
 refine calls47 ?_
 unfold m47
 rw[ldN_p (n:=2) ((hT.2 _ (by omega)).trans o4) rfl]
 exact callF_ans (ans48 hc.gr hl) ⟨rfl,rfl⟩
theorem ans64{g:Gr}(hg:g.ok):∀(f:Fo),f.ok→Ans Pg 64 [g.av,f.av] (aB (f.litsB g)):=by
 intro f
 induction f using Fo.ind with
 |h k n l ks ih =>
  intro hok S
  obtain⟨h1,h2,h3,h4,h5⟩:=hok.inv
  refine ACalls.ans_v (calls64 ?_)
  unfold m64 Fo.av
  rw[Fo.row_mk,Fo.litsB_mk]
  refine boxA_of rfl fun S1 k1 n1 o1=>?_
  refine boxA_of rfl fun S2 k2 n2 o2=>?_
  have p2:=(k2.2 _ (by omega)).trans o1
  have kk:=k1.trans k2
  have main:(decide (k≠3) || g.lit l)=true→loopV lv64_0 (vc Pg (c64.at_ [1,1,0,1,0,0]) (ms64.drop 1)) 31 (env64_0 (.p S.n 0 0) (.p S1.n 0 0) (.v (.int .i64 0))) S2 (blockK 0 (seqK (vc Pg (c64.at_ [1,1,1]) (ms64.drop 1)) (bodyK Pg r64 fun r S'=>r = .ret (aB ((decide (k≠3) || g.lit l) && ks.all fun f=>f.litsB g))∧Keep S S'))):=fun good=>by
   rw[good,Bool.true_and]
   refine loop64_0 (fun y S'=>S'=S2∧∃ i:Nat,y=aI i∧i≤ks.length∧∀ j (h:j<ks.length),j<i→ks[j].litsB g=true)
    (fun y _=>ks.length - ((intA y).getD 0).toNat) ⟨rfl,0,rfl,Nat.zero_le _,fun j _ hj=>(Nat.not_lt_zero _ hj).elim⟩ ?_
   rintro _ S2 ⟨rfl,i,rfl,hi,hall⟩ KE hKE
   unfold b64_0
   rw[shift_p,ld1_p o2 rfl rfl,lenS_foL,bin_lss,onB_v]
   refine gd_of (fun hlt=>?_) (fun hge=>?_)
   ·have hlt:i<ks.length:=by simpa using hlt
    have hm:=List.getElem_mem hlt
    show ∃ q:AV,_
    refine⟨_,by rw[ldN_p (n:=2) p2 rfl];exact⟨rfl,rfl⟩,?_⟩
    refine⟨_,by rw[shift_p];exact⟨rfl,rfl⟩,?_⟩
    refine⟨_,by rw[ld1_p o2 rfl rfl];exact⟨rfl,rfl⟩,?_⟩
    refine⟨_,by rw[ixS_foL hlt];exact⟨rfl,rfl⟩,?_⟩
    refine⟨_,by rw[ldN_q (Fo.row_len _)];exact⟨rfl,rfl⟩,?_⟩
    refine⟨_,callF_ans (ih _ hm (h5 _ hm)) ⟨rfl,rfl⟩,?_⟩
    refine⟨_,by rw[un_not];exact⟨rfl,rfl⟩,?_⟩
    rw[onB_v]
    refine gd_of (fun h=>⟨by rw[all_no hlt (by simpa using h)],kk⟩) (fun h=>?_)
    rw[bin_add (by omega) (by omega)]
    exact hKE _ _ ⟨rfl,i+1,rfl,hlt,lt_step (p:=fun f=>f.litsB g=true) (hi:=hlt) hall (by simpa using h)⟩ (by simp[intA];omega)
   ·have hge:i=ks.length:=by simp at hge;omega
    subst hge
    exact⟨by rw[all_lt fun j hj=>hall j hj hj],kk⟩
  rw[shift_p,ld1_p o2 rfl rfl,bin_eql,onB_v]
  refine gd_of (fun h=>?_) (fun h=>main (by simp at h;simp[h]))
  have hk3:decide (k≠3)=false:=by simp at h;simp[h]
  rw[ldN_p (n:=2) p2 rfl,shift_p,ld1_p o2 rfl rfl]
  refine callF_ans (ans77 hg h2) ?_
  rw[un_not,onB_v]
  refine gd_of (fun hl=>⟨by rw[hk3,Bool.false_or,show g.lit l=false by simpa using hl,Bool.false_and],kk⟩) (fun hl=>main (by rw[hk3,Bool.false_or];simpa using hl))
theorem ans33{c:Ci}(hc:c.ok){f:Fo}(hf:f.ok):Ans Pg 33 [c.av,f.av] (aB (mayC c f)):=by
 intro S
 refine ACalls.ans_v (calls33 ?_)
 unfold m33 mayC
 refine boxA_of rfl fun S1 k1 n1 o1=>?_
 refine boxA_of (Fo.row_len f) fun S2 k2 n2 o2=>?_
 have p2:=(k2.2 _ (by omega)).trans o1
 have kk:=k1.trans k2
 have c1:=ans63 hc
 have c2:=ans26 f hf 60 ⟨by decide,by decide⟩
 have c3:=ans12 c
 have c4:=ans64 hc.gr f hf
 show ∃ q:AV,_
 cases e1:c.right with
 |false =>
  (repeat (first|with_reducible_and_instances (first|refine WJ ?_|refine W (J_ldN (n:=8) p2 (by with_unfolding_all rfl)) ?_|refine W (J_ldN (n:=4) o2 (Fo.row_len f)) ?_|refine W (gd_T e1) ?_|refine W (gd_F e1) ?_|refine W (gd_nT e1) ?_|refine W (gd_nF e1) ?_|refine W (J_ldq (by with_unfolding_all rfl)) ?_)|refine J_cA (c1) rfl rfl ?_|refine C_A (c1) rfl rfl ?_))
  exact⟨by rw[Bool.false_and],kk⟩
 |true =>
  cases e2:f.mayB 60 with
  |false =>
   (repeat (first|with_reducible_and_instances (first|refine WJ ?_|refine W (J_ldN (n:=8) p2 (by with_unfolding_all rfl)) ?_|refine W (J_ldN (n:=4) o2 (Fo.row_len f)) ?_|refine W (gd_T e1) ?_|refine W (gd_F e1) ?_|refine W (gd_nT e1) ?_|refine W (gd_nF e1) ?_|refine W (gd_T e2) ?_|refine W (gd_F e2) ?_|refine W (gd_nT e2) ?_|refine W (gd_nF e2) ?_|refine W (J_ldq (by with_unfolding_all rfl)) ?_)|refine J_cA (c1) rfl rfl ?_|refine C_A (c1) rfl rfl ?_|refine J_cA (c2) rfl rfl ?_|refine C_A (c2) rfl rfl ?_))
   exact⟨by rw[Bool.false_and,Bool.and_false],kk⟩
  |true =>
   (repeat (first|with_reducible_and_instances (first|refine WJ ?_|refine W (J_ldN (n:=8) p2 (by with_unfolding_all rfl)) ?_|refine W (J_ldN (n:=4) o2 (Fo.row_len f)) ?_|refine W (gd_T e1) ?_|refine W (gd_F e1) ?_|refine W (gd_nT e1) ?_|refine W (gd_nF e1) ?_|refine W (gd_T e2) ?_|refine W (gd_F e2) ?_|refine W (gd_nT e2) ?_|refine W (gd_nF e2) ?_|refine W (J_ldq (by with_unfolding_all rfl)) ?_)|refine J_cA (c1) rfl rfl ?_|refine C_A (c1) rfl rfl ?_|refine J_cA (c2) rfl rfl ?_|refine C_A (c2) rfl rfl ?_|refine J_cA (c3) rfl rfl ?_|refine C_A (c3) rfl rfl ?_|refine J_cA (c4) rfl rfl ?_|refine C_A (c4) rfl rfl ?_))
   exact⟨by rw[Bool.true_and,Bool.true_and],kk⟩
def valB (c:Ci) (s:Int):List Bool:=if(c.right && decide (c.gr.inputs≤60))=true then allB c.gr (bitsL s c.gr.inputs.toNat)else[]
def isV(v:List Bool)(l:Int):Bool:=decide (0≤l) && (decide (l.tdiv 2<v.length) && litB v l)
theorem allB_vars{c:Ci}(h:c.right=true)(s:Int):((allB c.gr (bitsL s c.gr.inputs.toNat)).length:Int)=c.gr.vars:=by
 obtain⟨g1,g2,g3⟩:=gr_inp h
 have hr:=(right_c.1 h).2.2.2.2.2.2.1
 rw[allB_len,if_pos]
 ·have:0≤c.gr.vars:=by unfold Gr.vars;omega
  omega
 ·rw[hr,bitsL_len]
  simp;omega
theorem isV_isB{c:Ci}(s l:Int):isV (valB c s) l=isB c s l:=by
 unfold valB isB
 cases h:c.right with
 |false =>
  rw[Bool.false_and,if_neg (by decide),Bool.false_and]
  simp only[isV,Bool.and_eq_false_iff,decide_eq_false_iff_not]
  by_cases h0:0≤l
  ·refine .inr (.inl ?_)
   have:=Int.tdiv_nonneg h0 (show(0:Int)≤2 by decide)
   simp;omega
  ·exact .inl h0
 |true =>
  cases h6:decide (c.gr.inputs≤60)with
  |false =>
   rw[Bool.and_false,if_neg (by decide),Bool.false_and,Bool.and_false]
   simp only[isV,Bool.and_eq_false_iff,decide_eq_false_iff_not]
   by_cases h0:0≤l
   ·refine .inr (.inl ?_)
    have:=Int.tdiv_nonneg h0 (show(0:Int)≤2 by decide)
    simp;omega
   ·exact .inl h0
  |true =>
   rw[Bool.true_and,if_pos rfl,Bool.true_and,Bool.true_and]
   obtain⟨g1,g2,g3⟩:=gr_inp h
   have hv:=allB_vars h s
   have hpos:0<(allB c.gr (bitsL s c.gr.inputs.toNat)).length:=by
    have:1≤c.gr.vars:=by unfold Gr.vars;omega
    omega
   simp only[isV,Gr.eval,hpos,decide_true,Bool.true_and,hv,Gr.lit,g2,g3,Bool.and_assoc]
theorem ans122{c:Ci}(hc:c.ok)(s:Int):Ans Pg 122 [c.av,aI s] (aL aB (valB c s)):=by
 intro S
 refine ACalls.tree (calls122 ?_)
 unfold m122 valB
 refine boxA_of rfl fun S1 k1 n1 o1=>?_
 rw[ldN_p (n:=8) o1 rfl]
 refine callF_ans (ans44 c) ?_
 refine boxA_of rfl fun S2 k2 n2 o2=>?_
 refine stA_of (cs':=c.gr.cells) o2 rfl rfl fun S3 n3 o3 f3=>?_
 have k3:=k2.st (Nat.le_refl _) n3 f3
 have kk:=k1.trans k3
 rw[ldN_p (n:=8) ((k3.2 _ (by omega)).trans o1) rfl]
 refine callF_ans (ans45 hc) ?_
 rw[un_not,onB_v]
 refine gd_of (fun h=>?_) (fun h=>?_)
 ·have h:c.right=false:=by simpa using h
  refine⟨_,rfl,kk,?_⟩
  rw[h,Bool.false_and,if_neg (by decide)]
  exact .nl
 have h:c.right=true:=by simpa using h
 obtain⟨g1,g2,g3⟩:=gr_inp h
 rw[shift_p,ld1_p o3 rfl rfl,bin_gtr,onB_v]
 refine gd_of (fun h6=>?_) (fun h6=>?_)
 ·have h6:=dT h6
  refine⟨_,rfl,kk,?_⟩
  rw[h,decide_eq_false (by omega:¬ c.gr.inputs≤60),if_neg (by decide)]
  exact .nl
 have h6:=dF h6
 rw[h,decide_eq_true (by omega:c.gr.inputs≤60),Bool.and_self,if_pos rfl]
 obtain⟨m,hm⟩:=Int.eq_ofNat_of_zero_le g2
 have hm60:m≤60:=by omega
 have hgt:c.gr.inputs.toNat=m:=by rw[hm];rfl
 rw[hgt,shift_p,ld1_p o3 rfl rfl]
 show mkN _ _ _ (aI c.gr.inputs) (aI c.gr.inputs) _ _
 rw[hm]
 refine mk_of (by omega) (by omega) fun S6 k6 n6 o6=>?_
 rw[lenS_s]
 have hrep:List.replicate m [AV.v (.bool false)]=(List.range m).map fun k=>[aB (if k<0 then bitN s k else false)]:=by
  apply List.ext_getElem
  ·simp
  ·intro k h1 h2
   simp
 rw[hrep]at o6
 refine loop122_0 (fun y S'=>S'.n=S6.n∧(∀ x,x<S3.n→S'.obj x=S3.obj x)∧∃ j:Nat,y=aI j∧j≤m∧S'.obj S3.n=some (.cells 4 ((List.range m).map fun k=>[aB (if k<j then bitN s k else false)]) true))
  (fun y _=>m - ((intA y).getD 0).toNat) ⟨rfl,k6.2,0,rfl,Nat.zero_le _,o6⟩ ?_
 rintro _ S7 ⟨n7,f7,j,rfl,hj,o7⟩ KE1 hKE1
 unfold b122_0
 rw[bin_lss,onB_v]
 refine gd_of (fun hlt1=>?_) (fun hge1=>?_)
 ·have hlt1:j<m:=by have:((j:Int)<(m:Int)):=dT hlt1;omega
  rw[bin_shrN (by omega),bin_and1,bin_eql,ixS_s hlt1 o7]
  refine st_of o7 (u0:=aB (if j<j then bitN s j else false)) (by rw[Nat.zero_add];simp[hlt1]) rfl fun S8 n8 o8 f8=>?_
  rw[bin_add (by omega) (by omega)]
  refine hKE1 _ _ ⟨by omega,fun x hx=>(f8 x (by omega)).trans (f7 x hx),j+1,rfl,hlt1,?_⟩ (by simp[intA];omega)
  rw[o8,Nat.zero_add]
  have:=set_range (n:=m) (i:=j) (f:=fun k=>[aB (if k<j then bitN s k else false)]) (f':=fun k=>[aB (if k<j+1 then bitN s k else false)]) hlt1 (fun k hk=>by
   have:(k<j+1)=(k<j):=by apply propext;omega
   simp only[this])
  rw[←this]
  simp[bitN]
 ·have hgj:j=m:=by
    have:¬ ((j:Int)<(m:Int)):=dF hge1
    omega
  subst hgj
  have o7':S7.obj S3.n=some (.cells 4 ((bitsL s j).map fun b=>[aB b]) true):=by
   rw[o7,bitsL,List.map_map]
   congr 2
   apply List.map_congr_left
   intro k hk
   simp[List.mem_range.1 hk]
  rw[ldN_p (n:=2) ((f7 _ (by omega)).trans o3) rfl]
  have call:=own_at125 hc.gr (ins:=bitsL s j) (S:=S7) (xi:=.s S3.n 0 j) (by simp;omega) (fun T K=>by rw[lenS_s,bitsL_len]) (fun T hT=>by
   have:=(hT.2 S3.n (by omega)).trans o7'
   simp only[srcE,this]
   rw[if_pos (by simp)]
   simp[List.take_of_length_le])
  refine callF_at (ans_own_at (f:=fun b=>.bool b) call) ?_
  have k3':Keep S S7:=⟨by have:=kk.1;omega,fun x hx=>(f7 x (by have:=kk.1;omega)).trans (kk.2 x hx)⟩
  exact⟨_,rfl,k3',cv_aL (f:=fun b=>.bool b) _⟩
theorem ans121(v:List Bool){l:Int}(hl:i64R l):Ans Pg 121 [aL aB v,aI l] (aB (isV v l)):=by
 intro S
 refine calls121 ?_
 unfold m121 isV
 rw[bin_geq,onB_v]
 refine gd_of (fun h=>?_) (fun h=>⟨by rw[h,Bool.false_and],rfl⟩)
 have h0:=dT h
 rw[h,Bool.true_and,bin_half hl,lenS_aL,bin_lss,onB_v]
 refine gd_of (fun h1=>?_) (fun h1=>⟨by rw[h1,Bool.false_and],rfl⟩)
 have hlt:=dT h1
 rw[h1,Bool.true_and,bin_half hl]
 refine ix_tree (Int.tdiv_nonneg h0 (by decide)) hlt _ ?_
 rw[bin_and1,bin_eql,bin_neqB]
 refine⟨?_,rfl⟩
 rw[litB,Int.tmod_eq_emod_of_nonneg h0]
theorem ans111{c:Ci}(hc:c.ok)(s:Int){l:Int}(hl:i64R l):Ans Pg 111 [c.av,aI s,aI l] (aB (isB c s l)):=by
 intro S
 refine ACalls.ans_v (calls111 ?_)
 unfold m111
 refine boxA_of rfl fun S1 k1 n1 o1=>?_
 rw[ldN_p (n:=8) o1 rfl]
 refine callF_ans (ans122 hc s) ?_
 refine callF_ans (ans121 _ hl) ?_
 exact⟨by rw[isV_isB],k1⟩
theorem ans112{c:Ci}(hc:c.ok)(s:Int):Ans Pg 112 [c.av,aI s] (aI (afterB c s)):=by
 intro S
 refine ACalls.ans_v (calls112 ?_)
 unfold m112
 refine boxA_of rfl fun S1 k1 n1 o1=>?_
 rw[ldN_p (n:=8) o1 rfl]
 refine callF_ans (ans122 hc s) ?_
 have hil:=fun l=>isV_isB (c:=c) s l
 rw[lenS_aL,bin_eql,onB_v]
 refine gd_of (fun h=>?_) (fun h=>?_)
 ·have hv:valB c s = []:=List.eq_nil_of_length_eq_zero (by have:=dT h;omega)
  refine⟨?_,k1⟩
  have:(c.right && decide (c.gr.inputs≤60))=false:=by
   cases h1:(c.right && decide (c.gr.inputs≤60))with
   |false=>rfl
   |true =>
    unfold valB at hv
    rw[if_pos h1]at hv
    simp only[Bool.and_eq_true]at h1
    have h2:=allB_vars h1.1 s
    obtain⟨g1,g2,g3⟩:=gr_inp h1.1
    rw[hv]at h2
    unfold Gr.vars at h2
    simp at h2;omega
  rw[afterB,this,if_neg (by decide)]
 have hgood:(c.right && decide (c.gr.inputs≤60))=true:=by
  cases h1:(c.right && decide (c.gr.inputs≤60))with
  |true=>rfl
  |false =>
   have:valB c s = []:=by rw[valB,h1,if_neg (by decide)]
   rw[this]at h
   simp at h
 have hr:c.right=true:=by simp only[Bool.and_eq_true]at hgood;exact hgood.1
 have h60:c.gr.inputs≤60:=by simp only[Bool.and_eq_true,decide_eq_true_eq]at hgood;exact hgood.2
 obtain⟨g1,g2,g3⟩:=gr_inp hr
 have hin:=(right_c.1 hr).1
 generalize valB c s=v at *
 rw[afterB,hgood,if_pos rfl,shift_p,ld1_p o1 rfl rfl,lenS_pL]
 refine loop112_0 (fun y w S'=>Keep S1 S'∧∃ i:Nat,w=aI i∧i≤c.latches.length∧y=aI (afterTo c s i))
  (fun _ w _=>c.latches.length - ((intA w).getD 0).toNat) ⟨Keep.refl _,0,rfl,Nat.zero_le _,rfl⟩ ?_
 rintro _ _ S2 ⟨k2,i,rfl,hi,rfl⟩ KE hKE
 unfold b112_0
 rw[bin_lss,onB_v]
 refine gd_of (fun hlt=>?_) (fun hge=>?_)
 ·have hlt:i<c.latches.length:=by simpa using hlt
  have hget:c.latches.getD i (0,0)=c.latches[i]:=by simp[List.getD_eq_getElem?_getD,hlt]
  have hli:=hc.lats _ (List.getElem_mem hlt)
  have hμ:c.latches.length - ((intA (aI (i+1:Nat))).getD 0).toNat<c.latches.length - ((intA (aI i)).getD 0).toNat:=by simp[intA];omega
  rw[ixS_pL hlt,ldN_q2]
  refine boxA_of rfl fun S3 k3 n3 o3=>?_
  refine stA_of o3 rfl rfl fun S4 n4 o4 f4=>?_
  have k4:=k2.trans (k3.st (Nat.le_refl _) n4 f4)
  rw[shift_p,ld1_p o4 rfl rfl]
  refine callF_ans (ans121 v hli.1) ?_
  rw[hil,onB_v]
  have hb:=afterTo_le c s i
  have e:c.inputs+(i:Int)=((c.inputs.toNat+i:Nat):Int):=by omega
  refine gd_of (fun h4=>?_) (fun h4=>?_)
  ·rw[shift_p,ld1_p ((k4.2 _ (by omega)).trans o1) rfl rfl,bin_add (by omega) (by omega),e,bin_shl1 (by omega),bin_or_pow hb.1 hb.2 (by omega),bin_add (by omega) (by omega)]
   exact hKE _ _ _ ⟨k4,i+1,rfl,hlt,by rw[afterTo,hget,if_pos h4]⟩ hμ
  ·rw[bin_add (by omega) (by omega)]
   exact hKE _ _ _ ⟨k4,i+1,rfl,hlt,by rw[afterTo,hget,h4];rfl⟩ hμ
 ·have hge:i=c.latches.length:=by simp at hge;omega
  subst hge
  exact⟨rfl,k1.trans k2⟩
set_option linter.unusedSectionVars false
structure SpOk (s:Sp):Prop where
 small:SpSmall s
 next:s.next.length=s.valid.length
 fair:∀ r∈s.fair,r.length=s.valid.length
 mem:∀ x∈s.next,∀ i∈x,0≤i∧i<s.valid.length
 ini:s.initial.length=s.valid.length
section
variable {c:Ci} {s:Sp} {fr:List Bool} {tid:Nat} {S:Store}
theorem J_nil{id i j:Nat}{S0:Store}{P:AV→Prop}:(∃ q,(nilChk (.p id i j) S0 fun v S=>v=q∧S=S0)∧P q)=P (.p id i j):=J_by (op:=fun K=>nilChk (.p id i j) S0 K) fun K=>nilChk_p _ _ _ _ _
variable (hs:SpOk s) (hfr:In s fr)
include hs hfr
omit hfr in
end
section
variable {c:Ci} {s:Sp} {fr:List Bool} {tid:Nat} {S:Store}
variable (hs:SpOk s) (hfr:In s fr)
include hs hfr
end
section
variable {c:Ci} {s:Sp} {fr:List Bool} {tid:Nat} {S:Store}
variable (hs:SpOk s) (hfr:In s fr)
include hs
include hfr
end
theorem tno{k j:Int}(h:¬ k=j){S:Store}{A B:Store→Prop}(hB:B S):bin .eql 0 (.v (.int .i64 k)) (.v (.int .i64 j)) S (fun v S=>onB v fun b=>gd b (A S) (B S)):=by
 rw[bin_eql,onB_v,decide_eq_false h];exact hB
theorem tyes{k j:Int}(h:k=j){S:Store}{A B:Store→Prop}(hA:A S):bin .eql 0 (.v (.int .i64 k)) (.v (.int .i64 j)) S (fun v S=>onB v fun b=>gd b (A S) (B S)):=by
 rw[bin_eql,onB_v,decide_eq_true h];exact hA
set_option linter.unusedSectionVars false
section
variable {c:Ci} {s:Sp} {fr:List Bool} {tid:Nat} (hs:SpOk s) (hfr:In s fr) (hc:c.ok)
include hs hfr hc
end
section
set_option maxRecDepth 100000
def c37:Code:=(Tryz.f37.body).getD .skip
def ms37:List (List Nat):=[[]]
def m37(x0 x1 x2:AV)(S:Store)(Q:PoT):Prop:=
 ld1 x1 S fun a S=>bin .add 0 a (.v (.int .i64 1)) S fun c S=>stN 1 x1 c S fun d S=>ld1 x1 S fun e S=>ld1 x2 S fun f S=>lenS f S fun g S=>bin .gtr 0 e g S fun h S=>onB h fun b=>gd b (Q (.ret (.v (.int .i64 0))) S) (ld1 x2 S fun i S=>ld1 x1 S fun k S=>bin .sub 0 k (.v (.int .i64 1)) S fun l S=>ixS 5 1 i l S fun m S=>ld1 m S fun n S=>convI .i64 n S fun o S=>bin .rem 0 o x0 S fun p S=>Q (.ret p) S)
theorem calls37{x0 x1 x2:AV}{S:Store}{Q:PoT}(h:m37 x0 x1 x2 S Q):ACalls Pg 37 [x0,x1,x2] S Q:=
 calls_of_vc (fn:=Tryz.f37) (c:=c37) (n:=19) Tryz.func37 (by kernel_rfl) (by kernel_rfl) (by kernel_rfl) ms37 (Eq.mpr (by kernel_rfl) h)
def c38:Code:=(Tryz.f38.body).getD .skip
def r38:List ResultVar:=Tryz.f38.results.toList
def env38_0(y0 y4 y6 y8 y9:AV):List AV:=[y0,y4,y6,y8,y9]
def lv38_0:List Nat:=[0,4,6,8,9]
def ms38:List (List Nat):=[lv38_0,[0]]
def m38(x0 x1 x2 x3 x4:AV)(S:Store)(Q:PoT):Prop:=
 boxN 32 4 (.a [.v (.int .i64 0),.v (.string ByteArray.empty),.v (.int .i64 0),.nl]) S fun c S=>ld1 x1 S fun d S=>callV Pg d [.v (.int .i64 18)] S (fun e S=>bin .add 0 (.v (.int .i64 1)) e S fun f S=>bin .eql 0 x0 (.v (.int .i64 0)) S fun g S=>onB g fun b=>gd b (ld1 x1 S fun h S=>callV Pg h [.v (.int .i64 7)] S (fun i S=>bin .quo 0 i (.v (.int .i64 5)) S fun k S=>bin .sub 0 (.v (.int .i64 3)) k S fun l S=>bld [(0,1),(1,1),(2,1),(3,1)] [.v (.int .i64 0),.v (.string ByteArray.empty),.v (.int .i64 0),.nl] [(0,l)] S fun m S=>boxN 32 4 (.a [.v (.int .i64 0),.v (.string ByteArray.empty),.v (.int .i64 0),.nl]) S fun n S=>stN 4 n m S fun o S=>bin .eql 0 l (.v (.int .i64 3)) S fun p S=>onB p fun b=>gd b (bslN 9 1 7 [.v (.string ByteArray.empty)] [(0,(.v (.string { data:=#[113] }))),(1,(.v (.string { data:=#[108,48] }))),(2,(.v (.string { data:=#[111,117,116] }))),(3,(.v (.string { data:=#[108,49] }))),(4,(.v (.string { data:=#[105,48] }))),(5,(.v (.string { data:=#[111,48] }))),(6,(.v (.string { data:=#[97,45,98] })))] S fun q S=>ld1 x1 S fun r S=>callV Pg r [.v (.int .i64 7)] S (fun s S=>ixS 9 1 q s S fun t S=>ld1 t S fun w S=>shift n 1 S fun x S=>stN 1 x w S fun y S=>callF Pg 39 [l] S Q fun z S=>loopV lv38_0 (vc Pg (c38.at_ [1,1,1,1,1,0,1,0,0]) (ms38.drop 1)) 55 (env38_0 x0 x4 c n z) S (blockK 0 (seqK (vc Pg (c38.at_ [1,1,1,1,1,1]) (ms38.drop 1)) (bodyK Pg r38 Q)))) (fun u S=>Q (.pan u) S)) (callF Pg 39 [l] S Q fun A S=>loopV lv38_0 (vc Pg (c38.at_ [1,1,1,1,1,0,1,0,0]) (ms38.drop 1)) 55 (env38_0 x0 x4 c n A) S (blockK 0 (seqK (vc Pg (c38.at_ [1,1,1,1,1,1]) (ms38.drop 1)) (bodyK Pg r38 Q))))) (fun u S=>Q (.pan u) S)) (ld1 x2 S fun B S=>ld1 x3 S fun C S=>lenS C S fun D S=>bin .geq 0 B D S fun E S=>onB E fun b=>gd b (ld1 x1 S fun F S=>callV Pg F [.v (.int .i64 7)] S (fun G S=>bin .quo 0 G (.v (.int .i64 5)) S fun H S=>bin .sub 0 (.v (.int .i64 3)) H S fun I S=>bld [(0,1),(1,1),(2,1),(3,1)] [.v (.int .i64 0),.v (.string ByteArray.empty),.v (.int .i64 0),.nl] [(0,I)] S fun J S=>boxN 32 4 (.a [.v (.int .i64 0),.v (.string ByteArray.empty),.v (.int .i64 0),.nl]) S fun K S=>stN 4 K J S fun L S=>bin .eql 0 I (.v (.int .i64 3)) S fun M S=>onB M fun b=>gd b (bslN 9 1 7 [.v (.string ByteArray.empty)] [(0,(.v (.string { data:=#[113] }))),(1,(.v (.string { data:=#[108,48] }))),(2,(.v (.string { data:=#[111,117,116] }))),(3,(.v (.string { data:=#[108,49] }))),(4,(.v (.string { data:=#[105,48] }))),(5,(.v (.string { data:=#[111,48] }))),(6,(.v (.string { data:=#[97,45,98] })))] S fun N S=>ld1 x1 S fun O S=>callV Pg O [.v (.int .i64 7)] S (fun P S=>ixS 9 1 N P S fun R S=>ld1 R S fun T S=>shift K 1 S fun U S=>stN 1 U T S fun V S=>callF Pg 39 [I] S Q fun W S=>loopV lv38_0 (vc Pg (c38.at_ [1,1,1,1,1,0,1,0,0]) (ms38.drop 1)) 55 (env38_0 x0 x4 c K W) S (blockK 0 (seqK (vc Pg (c38.at_ [1,1,1,1,1,1]) (ms38.drop 1)) (bodyK Pg r38 Q)))) (fun u S=>Q (.pan u) S)) (callF Pg 39 [I] S Q fun X S=>loopV lv38_0 (vc Pg (c38.at_ [1,1,1,1,1,0,1,0,0]) (ms38.drop 1)) 55 (env38_0 x0 x4 c K X) S (blockK 0 (seqK (vc Pg (c38.at_ [1,1,1,1,1,1]) (ms38.drop 1)) (bodyK Pg r38 Q))))) (fun u S=>Q (.pan u) S)) (ld1 x2 S fun Y S=>bin .gtr 0 Y (.v (.int .i64 30)) S fun Z S=>onB Z fun b=>gd b (ld1 x1 S fun a0 S=>callV Pg a0 [.v (.int .i64 7)] S (fun a1 S=>bin .quo 0 a1 (.v (.int .i64 5)) S fun a2 S=>bin .sub 0 (.v (.int .i64 3)) a2 S fun a3 S=>bld [(0,1),(1,1),(2,1),(3,1)] [.v (.int .i64 0),.v (.string ByteArray.empty),.v (.int .i64 0),.nl] [(0,a3)] S fun a4 S=>boxN 32 4 (.a [.v (.int .i64 0),.v (.string ByteArray.empty),.v (.int .i64 0),.nl]) S fun a5 S=>stN 4 a5 a4 S fun a6 S=>bin .eql 0 a3 (.v (.int .i64 3)) S fun a7 S=>onB a7 fun b=>gd b (bslN 9 1 7 [.v (.string ByteArray.empty)] [(0,(.v (.string { data:=#[113] }))),(1,(.v (.string { data:=#[108,48] }))),(2,(.v (.string { data:=#[111,117,116] }))),(3,(.v (.string { data:=#[108,49] }))),(4,(.v (.string { data:=#[105,48] }))),(5,(.v (.string { data:=#[111,48] }))),(6,(.v (.string { data:=#[97,45,98] })))] S fun a8 S=>ld1 x1 S fun a9 S=>callV Pg a9 [.v (.int .i64 7)] S (fun b0 S=>ixS 9 1 a8 b0 S fun b1 S=>ld1 b1 S fun b2 S=>shift a5 1 S fun b3 S=>stN 1 b3 b2 S fun b4 S=>callF Pg 39 [a3] S Q fun b5 S=>loopV lv38_0 (vc Pg (c38.at_ [1,1,1,1,1,0,1,0,0]) (ms38.drop 1)) 55 (env38_0 x0 x4 c a5 b5) S (blockK 0 (seqK (vc Pg (c38.at_ [1,1,1,1,1,1]) (ms38.drop 1)) (bodyK Pg r38 Q)))) (fun u S=>Q (.pan u) S)) (callF Pg 39 [a3] S Q fun b7 S=>loopV lv38_0 (vc Pg (c38.at_ [1,1,1,1,1,0,1,0,0]) (ms38.drop 1)) 55 (env38_0 x0 x4 c a5 b7) S (blockK 0 (seqK (vc Pg (c38.at_ [1,1,1,1,1,1]) (ms38.drop 1)) (bodyK Pg r38 Q))))) (fun u S=>Q (.pan u) S)) (bld [(0,1),(1,1),(2,1),(3,1)] [.v (.int .i64 0),.v (.string ByteArray.empty),.v (.int .i64 0),.nl] [(0,f)] S fun b8 S=>boxN 32 4 (.a [.v (.int .i64 0),.v (.string ByteArray.empty),.v (.int .i64 0),.nl]) S fun b9 S=>stN 4 b9 b8 S fun c0 S=>bin .eql 0 f (.v (.int .i64 3)) S fun c1 S=>onB c1 fun b=>gd b (bslN 9 1 7 [.v (.string ByteArray.empty)] [(0,(.v (.string { data:=#[113] }))),(1,(.v (.string { data:=#[108,48] }))),(2,(.v (.string { data:=#[111,117,116] }))),(3,(.v (.string { data:=#[108,49] }))),(4,(.v (.string { data:=#[105,48] }))),(5,(.v (.string { data:=#[111,48] }))),(6,(.v (.string { data:=#[97,45,98] })))] S fun c2 S=>ld1 x1 S fun c3 S=>callV Pg c3 [.v (.int .i64 7)] S (fun c4 S=>ixS 9 1 c2 c4 S fun c5 S=>ld1 c5 S fun c6 S=>shift b9 1 S fun c7 S=>stN 1 c7 c6 S fun c8 S=>callF Pg 39 [f] S Q fun c9 S=>loopV lv38_0 (vc Pg (c38.at_ [1,1,1,1,1,0,1,0,0]) (ms38.drop 1)) 55 (env38_0 x0 x4 c b9 c9) S (blockK 0 (seqK (vc Pg (c38.at_ [1,1,1,1,1,1]) (ms38.drop 1)) (bodyK Pg r38 Q)))) (fun u S=>Q (.pan u) S)) (callF Pg 39 [f] S Q fun d0 S=>loopV lv38_0 (vc Pg (c38.at_ [1,1,1,1,1,0,1,0,0]) (ms38.drop 1)) 55 (env38_0 x0 x4 c b9 d0) S (blockK 0 (seqK (vc Pg (c38.at_ [1,1,1,1,1,1]) (ms38.drop 1)) (bodyK Pg r38 Q)))))))) (fun u S=>Q (.pan u) S)
theorem calls38{x0 x1 x2 x3 x4:AV}{S:Store}{Q:PoT}(h:m38 x0 x1 x2 x3 x4 S Q):ACalls Pg 38 [x0,x1,x2,x3,x4] S Q:=
 calls_of_vc (fn:=Tryz.f38) (c:=c38) (n:=55) Tryz.func38 (by kernel_rfl) (by kernel_rfl) (by kernel_rfl) ms38 (Eq.mpr (by kernel_rfl) h)
def b38_0(y0 y4 y6 y8 y9:AV)(S:Store)(KE0:KeT)(Q:PoT):Prop:=
 bin .gtr 0 y9 (.v (.int .i64 0)) S fun a S=>onB a fun b=>gd b (∃ c:AV,(∀ T:Store,Keep S T→shift y8 3 T fun d S=>d=c∧S=T)∧∃ e:AV,(∀ T:Store,Keep S T→ld1 c T fun f S=>f=e∧S=T)∧∃ g:AV,(∀ T:Store,Keep S T→ld1 y4 T fun h S=>h=g∧S=T)∧∃ i:AV,(∀ T:Store,Keep S T→bin .sub 0 y0 (.v (.int .i64 1)) T fun k S=>k=i∧S=T)∧callV Pg g [i] S (fun l S=>(∀ T:Store,Keep S T→ld1 c T fun m S=>m=e∧S=T)∧(∀ T:Store,Keep S T→shift y8 3 T fun n S=>n=c∧S=T)∧∃ o:AV,(∀ T:Store,Keep S T→bslN 32 4 1 [.v (.int .i64 0),.v (.string ByteArray.empty),.v (.int .i64 0),.nl] [(0,l)] T fun p S=>p=o∧S=T)∧appS 32 4 56 e o S fun q S=>∃ r:AV,(∀ T:Store,Keep S T→shift y8 3 T fun s S=>s=r∧S=T)∧stN 1 r q S fun t S=>bin .sub 0 y9 (.v (.int .i64 1)) S fun w S=>KE0 55 (env38_0 y0 y4 y6 y8 w) S) (fun u S=>Q (.pan u) S)) (ldN 4 y8 S fun x S=>stN 4 y6 x S fun y S=>ldN 4 y6 S fun z _=>Q (.ret z) S)
theorem b38_0_eq(y0 y4 y6 y8 y9:AV)(S:Store)(KE0:KeT)(Q:PoT):vc Pg (c38.at_ [1,1,1,1,1,0,1,0,0]) (ms38.drop 1) (mkE 55 lv38_0 (env38_0 y0 y4 y6 y8 y9)) S (thenK (fgK lv38_0 KE0) (blockK 0 (seqK (vc Pg (c38.at_ [1,1,1,1,1,1]) (ms38.drop 1)) (bodyK Pg r38 Q))))=b38_0 y0 y4 y6 y8 y9 S KE0 Q:=by kernel_rfl
theorem loop38_0{y0 y4 y6 y8:AV}{y90:AV}{S:Store}{Q:PoT}(I:AV→Store→Prop)(μ:AV→Store→Nat)(h0:I y90 S)
    (hr:∀(y9:AV) (S:Store),I y9 S→∀ KE0:KeT,(∀(y9':AV) (S':Store),I y9' S'→μ y9' S'<μ y9 S→KE0 55 (env38_0 y0 y4 y6 y8 y9') S')→b38_0 y0 y4 y6 y8 y9 S KE0 Q):
    loopV lv38_0 (vc Pg (c38.at_ [1,1,1,1,1,0,1,0,0]) (ms38.drop 1)) 55 (env38_0 y0 y4 y6 y8 y90) S (blockK 0 (seqK (vc Pg (c38.at_ [1,1,1,1,1,1]) (ms38.drop 1)) (bodyK Pg r38 Q))):=by
 refine⟨fun n e S=>n=55∧∃ y9:AV,e=(env38_0 y0 y4 y6 y8 y9)∧I y9 S,fun _ e S=>μ (e.getD 4 .j) S,?_,?_⟩
 ·exact⟨_,_,Wk.refl _ _,rfl,_,rfl,h0⟩
 ·rintro _ e S ⟨rfl,y9,rfl,hI⟩
  exact(b38_0_eq _ _ _ _ _ _ _ _).mpr (hr y9 S hI _ (fun y9' S' hI' hm=>⟨_,_,Wk.refl _ _,⟨rfl,_,rfl,hI'⟩,hm⟩))
def c22:Code:=(Tryz.f22.body).getD .skip
def ms22:List (List Nat):=[[0]]
def m22(x0:AV)(S:Store)(Q:PoT):Prop:=
 boxN 23 1 x0 S fun c S=>boxN 32 4 (.a [.v (.int .i64 0),.v (.string ByteArray.empty),.v (.int .i64 0),.nl]) S fun d S=>boxN 3 1 (.v (.int .i64 0)) S fun e S=>stN 1 e (.v (.int .i64 0)) S fun g S=>boxN 55 1 (.v .nilFunc) S fun h S=>stN 1 h (.f (.func 37) [] [e,c]) S fun i S=>boxN 84 1 (.v .nilFunc) S fun k S=>stN 1 k (.f (.func 38) [] [h,e,c,k]) S fun l S=>ld1 k S fun m S=>callV Pg m [.v (.int .i64 6)] S (fun n S=>stN 4 d n S fun o S=>ldN 4 d S fun p _=>Q (.ret p) S) (fun u S=>Q (.pan u) S)
theorem calls22{x0:AV}{S:Store}{Q:PoT}(h:m22 x0 S Q):ACalls Pg 22 [x0] S Q:=
 calls_of_vc (fn:=Tryz.f22) (c:=c22) (n:=10) Tryz.func22 (by kernel_rfl) (by kernel_rfl) (by kernel_rfl) ms22 (Eq.mpr (by kernel_rfl) h)
end
abbrev aU8(n:Int):AV:=.v (.int .u8 n)
def wordsL:List ByteArray:=[⟨#[113]⟩,⟨#[108,48]⟩,⟨#[111,117,116]⟩,⟨#[108,49]⟩,⟨#[105,48]⟩,⟨#[111,48]⟩,⟨#[97,45,98]⟩]
inductive MadeF:Nat→Fo→Prop
 |mk (d:Nat) (k:Int) (n:ByteArray) (ks:List Fo) (h1:1≤k) (h2:k≤18) (h3:(ks.length:Int)=kidsN k) (h4:k=3→n∈wordsL) (h5:¬ k=3→n=⟨#[]⟩) (h6:ks≠[]→0<d) (h:∀ f∈ks,MadeF (d - 1) f):MadeF d (.mk k n 0 ks)
theorem kidsN_le(k:Int):kidsN k≤2:=by unfold kidsN;split;omega;split;omega;split<;>omega
theorem Fo.tree:∀(f:Fo),∀ u∈f.row,Tree u:=by
 intro f
 induction f using Fo.ind with
 |h k n l ks ih =>
  intro u hu
  rw[Fo.row_mk]at hu
  simp only[List.mem_cons,List.not_mem_nil,or_false]at hu
  rcases hu with rfl|rfl|rfl|rfl
  ·exact Tree.v _
  ·exact Tree.v _
  ·exact Tree.v _
  ·refine Tree.l fun c hc u hu=>?_
   obtain⟨f,hf,rfl⟩:=List.mem_map.1 hc
   exact ih f hf u hu
theorem MadeF.ok:∀(f:Fo) (d:Nat),MadeF d f→f.ok:=by
 intro f
 induction f using Fo.ind with
 |h k n l ks ih =>
  intro d h
  cases h with
  |mk d _ _ _ h1 h2 h3 h4 h5 h6 h =>
   have hk:=kidsN_le k
   have hn:n.size≤3:=by
    by_cases hk:k=3
    ·have:=h4 hk
     simp only[wordsL,List.mem_cons,List.not_mem_nil,or_false]at this
     rcases this with rfl|rfl|rfl|rfl|rfl|rfl|rfl<;>decide
    ·rw[h5 hk];decide
   exact .mk _ _ _ _ ⟨by omega,by omega⟩ ⟨by decide,by decide⟩ (by omega) (by omega) fun f hf=>ih f hf _ (h f hf)
theorem pickG_of{S:Store}{aid lid ta tl k:Nat}{l:List Int}{n:Int}{Q:AEnd→Store→Prop}(h1:S.obj aid=some (.cells ta [[aI k]] true))(h2:S.obj lid=some (.cells tl [[aL aU8 l]] true))(hne:lid≠aid)
    (hl:∀ x∈l,0≤x∧x<256) (hn:0<n) (hk:k≤1000000)
    (K:∀ S',S'.n=S.n→S'.obj aid=some (.cells ta [[aI (k+1:Nat)]] true)→(∀ x,x≠aid→S'.obj x=S.obj x)→Q (.ret (aI (pickV l k n))) S'):ACalls Pg 37 [aI n,.p aid 0 0,.p lid 0 0] S Q:=by
 refine calls37 ?_
 unfold m37
 have hadd:∀ K:AV→Store→Prop,∀ S,bin .add 0 (.v (.int .i64 (k:Int))) (.v (.int .i64 1)) S K=K (aI (k+1:Nat)) S:=fun K S=>bin_add (by omega) (by omega) 0
 rw[ld1_p h1 rfl rfl,hadd]
 refine st_of h1 rfl rfl fun S1 n1 o1 f1=>?_
 have p1:=(f1 lid hne).trans h2
 rw[ld1_p o1 rfl rfl,ld1_p p1 rfl rfl,lenS_aL,bin_gtr,onB_v]
 refine gd_of (fun h=>?_) (fun h=>?_)
 ·have h:=dT h
  have:=K S1 n1 o1 f1
  rw[pickV,if_pos (by omega)]at this
  exact this
 ·have h:=dF h
  have hlt:k<l.length:=by omega
  have hx:=hl _ (List.getElem_mem hlt)
  have hsub:∀ K:AV→Store→Prop,∀ S,bin .sub 0 (.v (.int .i64 ((k+1:Nat):Int))) (.v (.int .i64 1)) S K=K (aI k) S:=fun K S=>(bin_sub (by omega) (by omega) 0).trans (by rw[show((k+1:Nat):Int) - 1=k by omega])
  rw[ld1_p p1 rfl rfl,ld1_p o1 rfl rfl,hsub,ixS_aL hlt,ld1_q,convI_64 _ (by omega) (by omega),bin_rem (by omega)]
  have:=K S1 n1 o1 f1
  rw[pickV,if_neg (by omega),show l.getD k 0=l[k]by simp[List.getD_eq_getElem?_getD,hlt]]at this
  exact this
abbrev pickG(b:Nat):AV:=.f (.func 37) [] [.p (b+2) 0 0,.p b 0 0]
abbrev makeG(b:Nat):AV:=.f (.func 38) [] [.p (b+3) 0 0,.p (b+2) 0 0,.p b 0 0,.p (b+4) 0 0]
structure Mg (b:Nat) (l:List Int) (k:Nat) (S:Store):Prop where
 n:b+5≤S.n
 lo:S.obj b=some (.cells 23 [[aL aU8 l]] true)
 ao:S.obj (b+2)=some (.cells 3 [[aI k]] true)
 po:S.obj (b+3)=some (.cells 55 [[pickG b]] true)
 mo:S.obj (b+4)=some (.cells 84 [[makeG b]] true)
def Ch(b:Nat)(S S':Store):Prop:=S.n≤S'.n∧∀ i,i<S.n→i≠b+2→S'.obj i=S.obj i
theorem Ch.trans{b:Nat}{S S' S'':Store}(h:Ch b S S')(k:Ch b S' S''):Ch b S S'':=⟨Nat.le_trans h.1 k.1,fun i hi hb=>(k.2 i (by have:=h.1;omega) hb).trans (h.2 i hi hb)⟩
theorem Ch.keep{b:Nat}{S S':Store}(k:Keep S S'):Ch b S S':=⟨k.1,fun i hi _=>k.2 i hi⟩
theorem Ch.st{b id:Nat}{S0 S S':Store}(h:Ch b S0 S)(hid:S0.n≤id∨id=b+2)(hn:S'.n=S.n)(ho:∀ x,x≠id→S'.obj x=S.obj x):Ch b S0 S':=⟨by have:=h.1;omega,fun i hi hb=>(ho i (by omega)).trans (h.2 i hi hb)⟩
theorem Ch.low{b:Nat}{S0 S S':Store}(h:Ch b S0 S)(hn:S.n≤S'.n)(ho:∀ x,x<S0.n→S'.obj x=S.obj x):Ch b S0 S':=⟨Nat.le_trans h.1 hn,fun i hi hb=>(ho i hi).trans (h.2 i hi hb)⟩
theorem Mg.mv{b k:Nat}{l:List Int}{S S':Store}(h:Mg b l k S)(hn:S.n≤S'.n)(ho:∀ i,i<b+5→S'.obj i=S.obj i):Mg b l k S':=⟨by have:=h.n;omega,(ho _ (by omega)).trans h.lo,(ho _ (by omega)).trans h.ao,(ho _ (by omega)).trans h.po,(ho _ (by omega)).trans h.mo⟩
theorem Mg.keep{b k:Nat}{l:List Int}{S S':Store}(h:Mg b l k S)(q:Keep S S'):Mg b l k S':=h.mv q.1 fun i hi=>q.2 i (by have:=h.n;omega)
theorem Mg.st{b k id:Nat}{l:List Int}{S S':Store}(h:Mg b l k S)(hid:b+5≤id)(hn:S'.n=S.n)(ho:∀ x,x≠id→S'.obj x=S.obj x):Mg b l k S':=h.mv (by omega) fun i hi=>ho i (by omega)
theorem Mg.pick{b k:Nat}{l:List Int}{S:Store}(h:Mg b l k S)(hl:∀ x∈l,0≤x∧x<256){n:Int}(hn:0<n)(hk:k≤1000){K X:AV→Store→Prop}
    (kk:∀ S',Mg b l (k+1) S'→S'.n=S.n→(∀ x,x≠b+2→S'.obj x=S.obj x)→K (aI (pickV l k n)) S'):callV Pg (pickG b) [aI n] S K X:=
 .inl (pickG_of h.ao h.lo (by omega) hl hn (by omega) fun S' n2 o2 f2=>kk S' ⟨by have:=h.n;omega,(f2 _ (by omega)).trans h.lo,o2,(f2 _ (by omega)).trans h.po,(f2 _ (by omega)).trans h.mo⟩ n2 f2)
def mostP:Nat→Nat
 |0=>3
 |d+1=>3+2*mostP d
theorem mostP_pos:∀ d,3≤mostP d
 |0=>by decide
 |d+1=>by unfold mostP;omega
def MadeQ(b:Nat)(l:List Int)(k d:Nat)(T:Store)(tr:AV)(T':Store):Prop:=∃(f:Fo) (k':Nat),tr=f.av∧Mg b l k' T'∧Ch b T T'∧k≤k'∧k'≤k+mostP d∧MadeF d f
theorem bslA4{e:Nat}{z1 z2 z3 z4:AV}{r:List AV}{S:Store}{K:AV→Store→Prop}(hr:r.length=4)(k:K (.l [r]) S):bslN e 4 1 [z1,z2,z3,z4] [(0,.a r)] S K:=by
 match r,hr with
 |[u,v,w,x],_ =>
  refine⟨[u,v,w,x],?_,.inr ?_⟩
  ·simp[fillA,cellsOf,spl]
  ·simpa[chunks]using k
theorem bsl7{e:Nat}{z:AV}{a1 a2 a3 a4 a5 a6 a7:ByteArray}{S:Store}{K:AV→Store→Prop}(k:K (aL (fun a=>.v (.string a)) [a1,a2,a3,a4,a5,a6,a7]) S):
    bslN e 1 7 [z] [(0,.v (.string a1)),(1,.v (.string a2)),(2,.v (.string a3)),(3,.v (.string a4)),(4,.v (.string a5)),(5,.v (.string a6)),(6,.v (.string a7))] S K:=by
 refine⟨[.v (.string a1),.v (.string a2),.v (.string a3),.v (.string a4),.v (.string a5),.v (.string a6),.v (.string a7)],?_,.inr ?_⟩
 ·have h:∀ a:ByteArray,cellsOf (.v (.string a))=some [.v (.string a)]:=fun _=>rfl
  simp[fillA,h,spl,List.range_succ]
 ·simpa[chunks,List.range_succ,aL]using k
section
variable {b:Nat} {l:List Int} (hl:∀ x∈l,0≤x∧x<256) {d:Nat}
 (ih:∀ d',d=d'+1→∀{k:Nat} {T:Store},Mg b l k T→k+mostP d'≤1000→ACalls Pg 38 [aI d',.p (b+3) 0 0,.p (b+2) 0 0,.p b 0 0,.p (b+4) 0 0] T (fun e T'=>∃ tr,e = .ret tr∧MadeQ b l k d' T tr T'))
include ih
theorem kids_of{T0 T:Store}{k0 k fid:Nat}{kd:Int}{nm:ByteArray}{r:Int}{Q:AEnd→Store→Prop}(hm:Mg b l k T)(h0:b+5≤T0.n)(hc:Ch b T0 T)(hb:b+2<T0.n)(hf:T0.n<fid)(hfT:fid<T.n)(hv1:T.obj T0.n=some (.cells 32 [(Fo.mk 0 ⟨#[]⟩ 0 []).row.set 3 .nl] true))
    (ho:T.obj fid=some (.cells 32 [[aI kd,.v (.string nm),aI 0,.nl]] true)) (hr:r=kidsN kd) (h1:1≤kd) (h2:kd≤18) (h3:kd=3→nm∈wordsL) (h4:¬ kd=3→nm=⟨#[]⟩) (h5:kd≤3∨0<d) (hd:d≤6)
    (hk0:k0≤k) (hk:k≤k0+3) (hk1:k0+mostP d≤1000) (hQ:∀ rr tr T',Cv (T'.frz (newer T0.n)) T'.n rr tr→MadeQ b l k0 d T0 tr T'→Q (.ret rr) T'):
    loopV lv38_0 (vc Pg (c38.at_ [1,1,1,1,1,0,1,0,0]) (ms38.drop 1)) 55 (env38_0 (aI d) (.p (b+4) 0 0) (.p T0.n 0 0) (.p fid 0 0) (aI r)) T (blockK 0 (seqK (vc Pg (c38.at_ [1,1,1,1,1,1]) (ms38.drop 1)) (bodyK Pg r38 Q))):=by
 have hr0:0≤r∧r≤2∧(kd≤3→r=0):=by
  have hle:=kidsN_le kd
  subst hr
  refine⟨?_,hle,fun h=>?_⟩
  ·unfold kidsN
   rw[if_neg (by omega)]
   split
   ·omega
   split<;>omega
  ·unfold kidsN
   rw[if_neg (by omega),if_pos h]
 have hP:∀ d',d=d'+1→mostP d=3+2*mostP d':=fun d' e=>by subst e;rfl
 refine loop38_0 (fun y S'=>∃(i k':Nat) (ks:List Fo) (yk:AV),y=aI i∧(i:Int)+ks.length=r∧Mg b l k' S'∧Ch b T0 S'∧fid<S'.n∧S'.obj T0.n=some (.cells 32 [(Fo.mk 0 ⟨#[]⟩ 0 []).row.set 3 .nl] true)∧
     S'.obj fid=some (.cells 32 [[aI kd,.v (.string nm),aI 0,yk]] true)∧Own (fid+1) S' yk 32 (ks.map Fo.row)∧(∀ f∈ks,MadeF (d - 1) f)∧k0≤k'∧k'+i*mostP (d - 1)≤k0+3+r.toNat*mostP (d - 1))
  (fun y _=>((intA y).getD 0).toNat) ⟨r.toNat,k,[],.nl,by rw[show((r.toNat:Nat):Int)=r by omega],by simp;omega,hm,hc,hfT,hv1,ho,.nl _ _ _,(fun f h=>by cases h),hk0,by omega⟩ ?_
 rintro _ S1 ⟨i,k',ks,yk,rfl,hi,m1,c1,f1,v1,o1,w1,hks,hk2,hk3⟩ KE hKE
 unfold b38_0
 have mn:=m1.n
 rw[bin_gtr,onB_v]
 refine gd_of (fun h=>?_) (fun h=>?_)
 ·have hpos:0<i:=by have:=dT h;omega
  obtain⟨i',rfl⟩:∃ i',i=i'+1:=⟨i - 1,by omega⟩
  have hd0:0<d:=by
   rcases h5 with h5|h5
   ·have:=hr0.2.2 h5
    omega
   ·exact h5
  obtain⟨d',rfl⟩:∃ d',d=d'+1:=⟨d - 1,by omega⟩
  have hP':=hP d' rfl
  rw[show d'+1 - 1=d' from rfl]at hk3 hks
  have hi2:i'+1≤2:=by omega
  have hrt:r.toNat≤2:=by omega
  have hmul:r.toNat*mostP d'≤2*mostP d':=Nat.mul_le_mul_right _ hrt
  have hsplit:(i'+1)*mostP d'=i'*mostP d'+mostP d':=Nat.succ_mul _ _
  refine L_shift ?_
  refine L_ldp o1 f1 rfl rfl ?_
  refine L_ldp m1.mo (by omega) rfl rfl ?_
  refine⟨aI d',fun T hT=>by rw[bin_sub (by omega) (by omega),show((d'+1:Nat):Int) - 1=d' by omega];exact⟨rfl,rfl⟩,?_⟩
  refine .inl ((ih d' rfl m1 (by omega)).mono ?_)
  rintro e S2 ⟨tr,rfl,f,k2,rfl,m2,c2,hk4,hk5,hf2⟩
  show _∧_
  have o2:=(c2.2 _ f1 (by omega)).trans o1
  have n2:=c2.1
  have w2:Own (fid+1) S2 yk 32 (ks.map Fo.row):=w1.same n2 fun j hj hj2=>c2.2 j hj2 (by omega)
  refine⟨fun T hT=>by rw[ld1_p ((hT.2 _ (by omega)).trans o2) rfl rfl];exact⟨rfl,rfl⟩,fun T hT=>⟨rfl,rfl⟩,?_⟩
  refine⟨.l [f.row],fun T hT=>bslA4 (Fo.row_len f) ⟨rfl,rfl⟩,?_⟩
  refine w2.app (c:=f.row) (by omega) (Fo.row_len f) (by rw[List.length_map];omega) (fun z S3 w3 b3 hz3=>?_) rfl
  obtain⟨m3,hm3⟩:=hz3
  have n3:=b3.1
  have k3:∀ x,x<fid+1→S3.obj x=S2.obj x:=fun x hx=>b3.2 x (by omega) (fun b m e=>by have:=w2.lt e;omega)
  refine L_shift ?_
  refine stF_of ((k3 _ (by omega)).trans o2) (by simp) (by rw[hm3];rfl) fun S4 n4 o4 f4=>?_
  rw[bin_sub (by omega) (by omega),show((i'+1:Nat):Int) - 1=i' by omega]
  have old:∀ x,x<fid→S4.obj x=S2.obj x:=fun x hx=>(f4 x (by omega)).trans (k3 x (by omega))
  refine hKE _ _ ⟨i',k2,ks ++ [f],z,rfl,by simp;omega,m2.mv (by omega) fun x hx=>old x (by omega),(c1.trans c2).low (by omega) fun x hx=>old x (by omega),by omega,(old _ hf).trans ((c2.2 _ (by omega) (by omega)).trans v1),o4,?_,?_,by omega,?_⟩ (by simp[intA])
  ·rw[List.map_append]
   exact w3.st (id:=fid) (fun b m e=>by rw[hm3]at e;injection e;omega) n4 f4
  ·intro g hg
   rcases List.mem_append.1 hg with hg|hg
   ·exact hks g hg
   ·rw[List.mem_singleton.1 hg];exact hf2
  ·show k2+i'*mostP d'≤k0+3+r.toNat*mostP d'
   omega
 ·have hge:i=0:=by have:=dF h;omega
  subst hge
  rw[ldN_p (n:=4) o1 rfl]
  refine stA_of v1 rfl (by rw[List.length_set,Fo.row_len]) fun S2 n2 o2 f2=>?_
  rw[ldN_p (n:=4) o2 rfl]
  have w2:Own (fid+1) S2 yk 32 (ks.map Fo.row):=w1.st (id:=T0.n) (fun b m e=>by have:=w1.lt e;omega) n2 f2
  refine hQ _ (Fo.mk kd nm 0 ks).av S2 ?_ ⟨.mk kd nm 0 ks,k',rfl,m1.st (id:=T0.n) (by omega) n2 f2,c1.st (.inl (Nat.le_refl _)) n2 f2,hk2,?_,.mk _ _ _ _ h1 h2 (by omega) h3 h4 (fun hne=>?_) hks⟩
  ·rw[Fo.av,Fo.row_mk]
   refine .a _ _ rfl fun k u u2 e1 e2=>?_
   match k with
   |0=>cases e1;cases e2;exact .v _
   |1=>cases e1;cases e2;exact .v _
   |2=>cases e1;cases e2;exact .v _
   |3=>cases e1;cases e2;exact own_rows (fun r hr u hu=>by obtain⟨f,_,rfl⟩:=List.mem_map.1 hr;exact Fo.tree f u hu) w2 (by omega)
   |k+4=>simp at e1
  ·rcases Nat.eq_zero_or_pos d with hz|hz
   ·have:r=0:=hr0.2.2 (by omega)
    rw[this]at hk3
    have:=mostP_pos d
    simp at hk3
    omega
   ·obtain⟨d',rfl⟩:∃ d',d=d'+1:=⟨d - 1,by omega⟩
    have hP':=hP d' rfl
    have hmul:r.toNat*mostP d'≤2*mostP d':=Nat.mul_le_mul_right _ (by omega)
    rw[show d'+1 - 1=d' from rfl]at hk3
    omega
  ·rcases h5 with h5|h5
   ·have:=hr0.2.2 h5
    have:ks = []:=List.eq_nil_of_length_eq_zero (by omega)
    exact absurd this hne
   ·exact h5
end
section
variable {b:Nat} {l:List Int} (hl:∀ x∈l,0≤x∧x<256) {d:Nat}
 (ih:∀ d',d=d'+1→∀{k:Nat} {T:Store},Mg b l k T→k+mostP d'≤1000→ACalls Pg 38 [aI d',.p (b+3) 0 0,.p (b+2) 0 0,.p b 0 0,.p (b+4) 0 0] T (fun e T'=>∃ tr,e = .ret tr∧MadeQ b l k d' T tr T'))
include hl ih
theorem rest_of{T0 T:Store}{k0 k:Nat}{kd:Int}{Q:AEnd→Store→Prop}(hm:Mg b l k T)(h0:b+5≤T0.n)(hc:Ch b T0 T)(hT:T0.n<T.n)(hv1:T.obj T0.n=some (.cells 32 [(Fo.mk 0 ⟨#[]⟩ 0 []).row.set 3 .nl] true))
    (h1:1≤kd) (h2:kd≤18) (h5:kd≤3∨0<d) (hd:d≤6) (hk0:k0≤k) (hk:k≤k0+2) (hk1:k0+mostP d≤1000) (hQ:∀ rr tr T',Cv (T'.frz (newer T0.n)) T'.n rr tr→MadeQ b l k0 d T0 tr T'→Q (.ret rr) T'):
    bld [(0,1),(1,1),(2,1),(3,1)] [.v (.int .i64 0),.v (.string ByteArray.empty),.v (.int .i64 0),.nl] [(0,(aI kd))] T fun v11 S=>boxN 32 4 (.a [.v (.int .i64 0),.v (.string ByteArray.empty),.v (.int .i64 0),.nl]) S fun v12 S=>stN 4 v12 v11 S fun v13 S=>bin .eql 0 (aI kd) (.v (.int .i64 3)) S fun v14 S=>onB v14 fun b15=>gd b15 (bslN 9 1 7 [.v (.string ByteArray.empty)] [(0,(.v (.string { data:=#[113] }))),(1,(.v (.string { data:=#[108,48] }))),(2,(.v (.string { data:=#[111,117,116] }))),(3,(.v (.string { data:=#[108,49] }))),(4,(.v (.string { data:=#[105,48] }))),(5,(.v (.string { data:=#[111,48] }))),(6,(.v (.string { data:=#[97,45,98] })))] S fun v16 S=>ld1 (.p (b+3) 0 0) S fun v17 S=>callV Pg v17 [.v (.int .i64 7)] S (fun v18 S=>ixS 9 1 v16 v18 S fun v19 S=>ld1 v19 S fun v20 S=>shift v12 1 S fun v21 S=>stN 1 v21 v20 S fun v22 S=>callF Pg 39 [(aI kd)] S Q fun v23 S=>loopV lv38_0 (vc Pg (c38.at_ [1,1,1,1,1,0,1,0,0]) (ms38.drop 1)) 55 (env38_0 (aI d) (.p (b+4) 0 0) (.p T0.n 0 0) v12 v23) S (blockK 0 (seqK (vc Pg (c38.at_ [1,1,1,1,1,1]) (ms38.drop 1)) (bodyK Pg r38 Q)))) (fun u S=>Q (.pan u) S)) (callF Pg 39 [(aI kd)] S Q fun v24 S=>loopV lv38_0 (vc Pg (c38.at_ [1,1,1,1,1,0,1,0,0]) (ms38.drop 1)) 55 (env38_0 (aI d) (.p (b+4) 0 0) (.p T0.n 0 0) v12 v24) S (blockK 0 (seqK (vc Pg (c38.at_ [1,1,1,1,1,1]) (ms38.drop 1)) (bodyK Pg r38 Q)))):=by
 have hmp:=mostP_pos d
 rw[bld_of (cs:=[aI kd,.v (.string ⟨#[]⟩),aI 0,.nl]) rfl]
 refine boxA_of rfl fun S1 k1 n1 o1=>?_
 refine stA_of (cs':=[aI kd,.v (.string ⟨#[]⟩),aI 0,.nl]) o1 rfl rfl fun S2 n2 o2 f2=>?_
 have k2:=k1.st (Nat.le_refl _) n2 f2
 have m2:=hm.keep k2
 have c2:=hc.trans (Ch.keep (b:=b) k2)
 have v2:=(k2.2 _ hT).trans hv1
 rw[bin_eql,onB_v]
 refine gd_of (fun h=>?_) (fun h=>?_)
 ·have h:kd=3:=dT h
  refine bsl7 ?_
  rw[ld1_p m2.po rfl rfl]
  refine m2.pick hl (by omega) (by omega) fun S3 m3 n3 f3=>?_
  obtain⟨q0,q7⟩:=pickV_rng (l:=l) (k:=k) (n:=7) (fun x hx=>⟨(hl x hx).1,by have:=(hl x hx).2;omega⟩) (by omega)
  generalize pickV l k 7=p at *
  obtain⟨p,rfl⟩:=Int.eq_ofNat_of_zero_le q0
  have hp:p<wordsL.length:=by simp[wordsL];omega
  rw[show ∀ K:AV→Store→Prop,ixS 9 1 (aL (fun a=>.v (.string a)) [⟨#[113]⟩,⟨#[108,48]⟩,⟨#[111,117,116]⟩,⟨#[108,49]⟩,⟨#[105,48]⟩,⟨#[111,48]⟩,⟨#[97,45,98]⟩]) (aI p) S3 K=K (.q [.v (.string wordsL[p])] 0) S3 from fun K=>ixS_aL (l:=wordsL) hp]
  rw[ld1_q,shift_p]
  have o3:=(f3 T.n (by have:=hm.n;omega)).trans o2
  refine stF_of o3 (by simp) rfl fun S4 n4 o4 f4=>?_
  refine callF_ans (ans39 kd) ?_
  exact kids_of ih (nm:=wordsL[p]) (m3.st (id:=T.n) (by have:=hm.n;omega) n4 f4) h0 ((c2.st (.inr rfl) n3 f3).st (.inl (by omega)) n4 f4) (by omega) hT (by omega) ((f4 _ (by omega)).trans ((f3 _ (by omega)).trans v2)) o4 rfl h1 h2 (fun _=>List.getElem_mem _) (fun h'=>absurd h h') h5 hd (by omega) (by omega) hk1 hQ
 ·have h:¬ kd=3:=dF h
  refine callF_ans (ans39 kd) ?_
  exact kids_of ih (nm:=⟨#[]⟩) m2 h0 c2 (by omega) hT (by omega) v2 o2 rfl h1 h2 (fun h'=>absurd h' h) (fun _=>rfl) h5 hd (by omega) (by omega) hk1 hQ
theorem make_step(hd:d≤6){k:Nat}{T:Store}(hm:Mg b l k T)(hk:k+mostP d≤1000):ACalls Pg 38 [aI d,.p (b+3) 0 0,.p (b+2) 0 0,.p b 0 0,.p (b+4) 0 0] T (fun e T'=>∃ tr,e = .ret tr∧MadeQ b l k d T tr T'):=by
 have hmp:=mostP_pos d
 have h0:=hm.n
 refine(ACalls.treeW (Φ:=fun tr T'=>MadeQ b l k d T tr T') (calls38 ?_)).mono ?_
 ·unfold m38
  refine boxA_of (cs:=(Fo.mk 0 ⟨#[]⟩ 0 []).row.set 3 .nl) (by rw[List.length_set,Fo.row_len]) fun S1 k1 n1 o1=>?_
  have hQ:∀ rr tr T',Cv (T'.frz (newer T.n)) T'.n rr tr→MadeQ b l k d T tr T'→∃ r tr,AEnd.ret rr = .ret r∧Cv (T'.frz (newer T.n)) T'.n r tr∧MadeQ b l k d T tr T':=fun rr tr T' h1 h2=>⟨rr,tr,rfl,h1,h2⟩
  have m1:=hm.keep k1
  rw[ld1_p m1.po rfl rfl]
  refine m1.pick hl (by omega) (by omega) fun S2 m2 n2 f2=>?_
  obtain⟨p0,p18⟩:=pickV_rng (l:=l) (k:=k) (n:=18) (fun x hx=>⟨(hl x hx).1,by have:=(hl x hx).2;omega⟩) (by omega)
  generalize pickV l k 18=pk at *
  have c2:Ch b T S2:=(Ch.keep (b:=b) k1).st (.inr rfl) n2 f2
  have v2:=(f2 _ (by omega)).trans o1
  rw[bin_add (by omega) (by omega),bin_eql,onB_v]
  refine gd_of (fun h=>?_) (fun h=>?_)
  ·
   rw[ld1_p m2.po rfl rfl]
   refine m2.pick hl (by omega) (by omega) fun S3 m3 n3 f3=>?_
   obtain⟨q0,q7⟩:=pickV_rng (l:=l) (k:=k+1) (n:=7) (fun x hx=>⟨(hl x hx).1,by have:=(hl x hx).2;omega⟩) (by omega)
   generalize pickV l (k+1) 7=p at *
   have hq:p.tdiv 5=p / 5:=Int.tdiv_eq_ediv_of_nonneg q0
   rw[bin_quo (by omega) (by omega) (by omega),bin_sub (by omega) (by omega)]
   exact rest_of hl ih (kd:=3 - p.tdiv 5) m3 h0 (c2.st (.inr rfl) n3 f3) (by omega) ((f3 _ (by omega)).trans v2) (by omega) (by omega) (.inl (by omega)) hd (by omega) (by omega) hk hQ
  have hd0:¬ (d:Int)=0:=dF h
  rw[ld1_p m2.ao rfl rfl,ld1_p m2.lo rfl rfl,lenS_aL,bin_geq,onB_v]
  refine gd_of (fun h=>?_) (fun h=>?_)
  ·
   rw[ld1_p m2.po rfl rfl]
   refine m2.pick hl (by omega) (by omega) fun S3 m3 n3 f3=>?_
   obtain⟨q0,q7⟩:=pickV_rng (l:=l) (k:=k+1) (n:=7) (fun x hx=>⟨(hl x hx).1,by have:=(hl x hx).2;omega⟩) (by omega)
   generalize pickV l (k+1) 7=p at *
   have hq:p.tdiv 5=p / 5:=Int.tdiv_eq_ediv_of_nonneg q0
   rw[bin_quo (by omega) (by omega) (by omega),bin_sub (by omega) (by omega)]
   exact rest_of hl ih (kd:=3 - p.tdiv 5) m3 h0 (c2.st (.inr rfl) n3 f3) (by omega) ((f3 _ (by omega)).trans v2) (by omega) (by omega) (.inl (by omega)) hd (by omega) (by omega) hk hQ
  rw[ld1_p m2.ao rfl rfl,bin_gtr,onB_v]
  refine gd_of (fun h=>?_) (fun h=>?_)
  ·
   rw[ld1_p m2.po rfl rfl]
   refine m2.pick hl (by omega) (by omega) fun S3 m3 n3 f3=>?_
   obtain⟨q0,q7⟩:=pickV_rng (l:=l) (k:=k+1) (n:=7) (fun x hx=>⟨(hl x hx).1,by have:=(hl x hx).2;omega⟩) (by omega)
   generalize pickV l (k+1) 7=p at *
   have hq:p.tdiv 5=p / 5:=Int.tdiv_eq_ediv_of_nonneg q0
   rw[bin_quo (by omega) (by omega) (by omega),bin_sub (by omega) (by omega)]
   exact rest_of hl ih (kd:=3 - p.tdiv 5) m3 h0 (c2.st (.inr rfl) n3 f3) (by omega) ((f3 _ (by omega)).trans v2) (by omega) (by omega) (.inl (by omega)) hd (by omega) (by omega) hk hQ
  exact rest_of hl ih (kd:=1+pk) m2 h0 c2 (by omega) v2 (by omega) (by omega) (.inr (by omega)) hd (by omega) (by omega) hk hQ
 ·rintro e T' ⟨tr,T1,rfl,rfl,f,k',rfl,m',c',h1,h2,h3⟩
  have old:∀ i,i<T.n→(T1.frz (newer T.n)).obj i=T1.obj i:=fun i hi=>frz_false (by simp[newer];omega)
  exact⟨_,rfl,f,k',rfl,m'.mv (Nat.le_refl _) fun i hi=>old i (by omega),⟨c'.1,fun i hi hb=>(old i hi).trans (c'.2 i hi hb)⟩,h1,h2,h3⟩
end
theorem make_of{b:Nat}{l:List Int}(hl:∀ x∈l,0≤x∧x<256):∀{d:Nat},d≤6→∀{k:Nat} {T:Store},Mg b l k T→k+mostP d≤1000→ACalls Pg 38 [aI d,.p (b+3) 0 0,.p (b+2) 0 0,.p b 0 0,.p (b+4) 0 0] T (fun e T'=>∃ tr,e = .ret tr∧MadeQ b l k d T tr T'):=by
 intro d
 induction d with
 |zero=>exact fun hd {k T} hm hk=>make_step hl (fun d' h=>by omega) hd hm hk
 |succ d ih =>
  intro hd k T hm hk
  refine make_step hl (fun d' h {k T} hm hk=>?_) hd hm hk
  obtain rfl:d=d':=by omega
  exact ih (by omega) hm hk
theorem made22{l:List Int}(hl:∀ x∈l,0≤x∧x<256){S:Store}:ACalls Pg 22 [aL aU8 l] S (fun e S'=>∃ tr,e = .ret tr∧S'=S∧∃ f:Fo,tr=f.av∧MadeF 6 f):=by
 refine ACalls.treeE (calls22 ?_)
 unfold m22
 refine box1_of rfl fun S1 k1 n1 o1=>?_
 refine boxA_of rfl fun S2 k2 n2 o2=>?_
 refine box1_of rfl fun S3 k3 n3 o3=>?_
 refine st_of o3 rfl rfl fun S4 n4 o4 f4=>?_
 refine box1_of rfl fun S5 k5 n5 o5=>?_
 refine st_of o5 rfl rfl fun S6 n6 o6 f6=>?_
 refine box1_of rfl fun S7 k7 n7 o7=>?_
 refine st_of o7 rfl rfl fun S8 n8 o8 f8=>?_
 rw[ld1_p o8 rfl rfl]
 have e2:S2.n=S.n+2:=by omega
 have e4:S4.n=S.n+3:=by omega
 have e6:S6.n=S.n+4:=by omega
 rw[e2]at o3 o4 f4
 rw[e4]at o5 o6 f6
 rw[e6]at o7 o8 f8
 have q8:∀ i,i<S.n+4→S8.obj i=S6.obj i:=fun i hi=>(f8 i (by omega)).trans (k7.2 i (by omega))
 have q6:∀ i,i<S.n+3→S8.obj i=S4.obj i:=fun i hi=>(q8 i (by omega)).trans ((f6 i (by omega)).trans (k5.2 i (by omega)))
 have q4:∀ i,i<S.n+2→S8.obj i=S2.obj i:=fun i hi=>(q6 i (by omega)).trans ((f4 i (by omega)).trans (k3.2 i (by omega)))
 have hm:Mg S.n l 0 S8:=⟨by omega,(q4 _ (by omega)).trans ((k2.2 _ (by omega)).trans o1),(q6 _ (by omega)).trans o4,(q8 _ (by omega)).trans (by rw[o6,e2];rfl),by rw[o8,e2,e4];rfl⟩
 refine .inl ?_
 rw[e2,e4,e6]
 refine(make_of (d:=6) hl (Nat.le_refl _) hm (by decide)).mono ?_
 rintro e S9 ⟨tr,rfl,f,k',rfl,m9,c9,_,_,hf⟩
 show stN 4 _ _ _ _
 have n9:=m9.n
 have c9n:=c9.1
 refine stA_of ((c9.2 S1.n (by omega) (by omega)).trans ((q4 _ (by omega)).trans o2)) (Fo.row_len f) rfl fun S10 n10 o10 f10=>?_
 rw[ldN_p (n:=4) o10 (Fo.row_len f)]
 refine⟨_,f.av,rfl,⟨by omega,fun i hi=>(f10 i (by omega)).trans ((c9.2 i (by omega) (by omega)).trans ((q4 i (by omega)).trans ((k2.2 i (by omega)).trans (k1.2 i hi))))⟩,Tree.a (fun u hu=>Fo.tree f u hu) _ _,f,rfl,hf⟩
end
end Go.Proofs.YtfhekpnddoihkaaGreat.G

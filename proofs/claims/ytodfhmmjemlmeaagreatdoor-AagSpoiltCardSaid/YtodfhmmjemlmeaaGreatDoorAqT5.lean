/- Aag -/
import Derived.Test.YtodfhmmjemlmeaaGreatDoorProg
import Derived.KernelRfl
import Derived.Test.YtodfhmmjemlmeaaGreatDoorAqT4
set_option linter.unusedVariables false
set_option linter.unusedSimpArgs false
namespace Go.Proofs.YtodfhmmjemlmeaaGreatDoor.G
open Go Go.Ab
noncomputable section
theorem wrap_byte{a:Int}(h:0≤a∧a<256):IntKind.u8.wrap a=(((UInt8.ofNat a.toNat).toNat:Nat):Int):=by
 rw[UInt8.toNat_ofNat']
 show a % (2 ^ 8:Int)=_
 have e:(2 ^ 8:Int)=256:=rfl
 rw[e]
 omega
theorem J_addT{a b:Bs}{S0:Store}{P:AV→Prop}(h:a.length+b.length≤9223372036854775807):(∃ q,(bin .add 0 (aT a) (aT b) S0 fun v S=>v=q∧S=S0)∧P q)=P (aT (a++b)):=J_by (op:=fun K=>bin .add 0 (aT a) (aT b) S0 K) fun K=>bin_addT h
theorem ldq0{c:List AV}{j:Nat}{u:AV}(h:c[j]? = some u){S:Store}{K:AV→Store→Prop}:ld1 (.q c j) S K=K u S:=by simp[ld1,rd1,place,h]
theorem digitsN:∀(k m:Nat),m<k→m≤9223372036854775807→Ans Pg 26 [aI m] (aT (Lib.decDigits m))
 |0,m,h,_=>by omega
 |k+1,m,h,hm=>fun S=>by
  refine calls26 ?_
  unfold m26
  have e1:(m:Int).tmod 10=((m % 10:Nat):Int):=by rw[Int.tmod_eq_emod_of_nonneg (by omega)];omega
  have e2:(m:Int).tdiv 10=((m / 10:Nat):Int):=by rw[Int.tdiv_eq_ediv_of_nonneg (by omega)];omega
  rw[bin_rem (by decide),e1,bin_add (by omega) (by omega),convI_v,wrap_byte (by omega)]
  have e3:(48+((m % 10:Nat):Int)).toNat=48+m % 10:=by omega
  rw[e3]
  refine bsl1 rfl (fun _ h=>by cases h) ?_
  show convBS (.l ([UInt8.ofNat (48+m % 10)].map byteR)) _ _
  rw[convBS_l,bin_lss,onB_v]
  rw[Lib.decDigits]
  refine gd_of (fun h1=>?_) (fun h1=>?_)
  ·have h1:(m:Int)<10:=dT h1
   have h1:m<10:=by omega
   rw[dif_pos h1,Nat.mod_eq_of_lt h1]
   exact⟨rfl,rfl⟩
  ·have h1:¬ (m:Int)<10:=dF h1
   have h1:¬ m<10:=by omega
   rw[dif_neg h1,bin_quo (by decide) (by omega) (by omega),e2]
   refine callF_ans (digitsN k (m / 10) (by omega) (by omega)) ?_
   have hl:=digits_length 19 (m / 10) (by decide) (by have e:(10:Nat) ^ 19=10000000000000000000:=by decide
                                                      omega)
   rw[bin_addT (by simp;omega)]
   exact⟨rfl,rfl⟩
theorem ans26{n:Int}(h:0≤n∧n≤9223372036854775807):Ans Pg 26 [aI n] (aT (dg n)):=by
 have e:n=((n.toNat:Nat):Int):=by omega
 have:=digitsN _ n.toNat (Nat.lt_succ_self _) (by omega)
 rw[←e]at this
 exact this
def spT:List Int→Bs
 |[]=>[]
 |x :: r=>32 :: (dg x++spT r)
theorem spT_line:∀ ns:List Int,ns≠[]→32 :: lineL ns=spT ns
 |[],h=>absurd rfl h
 |[a],_=>by simp[spT,lineL]
 |a :: b :: r,_=>by rw[lineL,spT,←spT_line (b :: r) (by simp)]
theorem spT_app:∀ a b:List Int,spT (a++b)=spT a++spT b
 |[],b=>rfl
 |x :: a,b=>by rw[List.cons_append,spT,spT,spT_app a b];simp
theorem spT_take{l:List Int}{i:Nat}(h:i<l.length):spT (l.take (i+1))=spT (l.take i)++32 :: dg l[i]:=by
 rw[List.take_add_one,List.getElem?_eq_getElem h,spT_app]
 simp[spT]
theorem spT_len:∀ ns:List Int,(∀ x∈ns,0≤x∧x≤999999)→(spT ns).length≤7*ns.length
 |[],_=>by simp[spT]
 |x :: r,h=>by
  have h1:=spT_len r fun y hy=>h y (List.mem_cons_of_mem _ hy)
  have h2:=dg_len (h x List.mem_cons_self).1 (h x List.mem_cons_self).2
  simp only[spT,List.length_cons,List.length_append]
  omega
theorem ans43{c:Ci}(hc:Nums c):Ans Pg 43 [c.av] (aT (32 :: ln c.headT)):=by
 intro S
 refine ACalls.ans_v (calls43 ?_)
 unfold m43
 have hi:=hc.inp
 have hs:=hc.sum
 refine boxA_of rfl fun S1 k1 n1 o1=>?_
 have rd:∀{j:Nat} {u:AV} {K:AV→Store→Prop},c.cells[j]? = some u→(shift (.p S.n 0 0) j S1 fun v S=>ld1 v S K)=K u S1:=fun{j u K} hu=>by rw[shift_p,Nat.zero_add,ld1_p o1 rfl hu]
 rw[rd (u:=aI c.inputs) rfl,rd (u:=pL c.latches) rfl,lenS_pL,bin_add (by omega) (by omega),rd (u:=pL c.ands) rfl,lenS_pL,bin_add (by omega) (by omega)]
 rw[rd (u:=aI c.inputs) rfl,rd (u:=pL c.latches) rfl,lenS_pL,rd (u:=aL aI c.outs) rfl,lenS_aL,rd (u:=pL c.ands) rfl,lenS_pL,rd (u:=aL aI c.bads) rfl,lenS_aL,rd (u:=aL aI c.cons) rfl,lenS_aL,rd (u:=aL aI c.fair) rfl,lenS_aL]
 refine bslI9 ?_
 show loopV _ _ _ (env43_0 (aL aI c.headT) _ _) _ _
 have hr:=headT_rng hc
 have hr6:∀ x∈c.headT,0≤x∧x≤999999:=fun x hx=>by have:=hr x hx;omega
 have hl9:c.headT.length=9:=rfl
 have he:32 :: ln c.headT=spT c.headT ++ [10]:=by rw[←spT_line _ (by simp[Ci.headT])];simp[ln]
 rw[he]
 generalize c.headT=l at hr6 hl9
 refine loop43_0 (fun y z T=>∃ i:Nat,z=aI i∧i≤l.length∧y=aT (spT (l.take i))∧S1=T) (fun _ z _=>l.length - ((intA z).getD 0).toNat) ⟨0,rfl,Nat.zero_le _,rfl,rfl⟩ ?_
 rintro _ _ _ ⟨i,rfl,hile,rfl,rfl⟩ KE hKE
 unfold b43_0
 rw[lenS_aL,bin_lss,onB_v]
 refine gd_of (fun hlt=>?_) (fun hge=>?_)
 ·have hlt:i<l.length:=by have:=dT hlt;omega
  have hx:=hr6 _ (List.getElem_mem hlt)
  have h1:=spT_len (l.take i) fun y hy=>hr6 y (List.mem_of_mem_take hy)
  rw[List.length_take]at h1
  have h2:=dg_len hx.1 hx.2
  refine W (bin_addT (b:=[32]) (by simp only[List.length_cons,List.length_nil];omega)) ?_
  rw[ixS_aL hlt,ld1_q]
  refine callF_ans (ans26 (n:=l[i]) ⟨hx.1,by omega⟩) ?_
  rw[bin_addT (by simp only[List.length_append,List.length_cons,List.length_nil];omega),bin_add (by omega) (by omega)]
  refine hKE _ _ _ ⟨i+1,rfl,hlt,?_,rfl⟩ (by simp[intA];omega)
  rw[spT_take hlt];simp
 ·have hge:i=l.length:=by have:=dF hge;omega
  subst hge
  rw[List.take_length]
  have h1:=spT_len l hr6
  refine W (bin_addT (b:=[10]) (by simp only[List.length_cons,List.length_nil];omega)) ?_
  exact⟨rfl,k1⟩
theorem ans45{l:List Int}(h:lits6 l)(hl:l.length≤2000):Ans Pg 45 [aL aI l] (aT (colT l)):=by
 intro S
 refine calls45 ?_
 unfold m45
 refine loop45_0 (fun y z T=>∃ i:Nat,z=aI i∧i≤l.length∧y=aT (colT (l.take i))∧T=S) (fun _ z _=>l.length - ((intA z).getD 0).toNat) ⟨0,rfl,Nat.zero_le _,rfl,rfl⟩ ?_
 rintro _ _ _ ⟨i,rfl,hile,rfl,rfl⟩ KE hKE
 unfold b45_0
 rw[lenS_aL,bin_lss,onB_v]
 refine gd_of (fun hlt=>?_) (fun hge=>?_)
 ·have hlt:i<l.length:=by have:=dT hlt;omega
  have hx:=h _ (List.getElem_mem hlt)
  have h1:=col_len (l.take i) fun y hy=>h y (List.mem_of_mem_take hy)
  rw[List.length_take]at h1
  have h2:=dg_len hx.1 hx.2
  rw[ixS_aL hlt,ld1_q]
  refine callF_ans (ans26 (n:=l[i]) ⟨hx.1,by omega⟩) ?_
  rw[bin_addT (by omega)]
  refine W (bin_addT (b:=[10]) (by simp only[List.length_append,List.length_cons,List.length_nil];omega)) ?_
  rw[bin_add (by omega) (by omega)]
  refine hKE _ _ _ ⟨i+1,rfl,hlt,?_,rfl⟩ (by simp[intA];omega)
  rw[colT_take hlt];simp[ln,lineL]
 ·have hge:i=l.length:=by have:=dF hge;omega
  subst hge
  rw[List.take_length]
  exact⟨rfl,rfl⟩
theorem ans44{c:Ci}(hc:Nums c){i:Nat}(hi:i<c.latches.length):Ans Pg 44 [c.av,aI i] (aT (ln (latN (2*(c.inputs+1)+2*(i:Int)) c.latches[i]))):=by
 intro S
 refine ACalls.ans_v (calls44 ?_)
 unfold m44
 have hinp:=hc.inp
 have hs:=hc.sum
 have hp:=hc.lats _ (List.getElem_mem hi)
 refine boxA_of rfl fun S1 k1 n1 o1=>?_
 have h2:=dg_len hp.1.1 hp.1.2
 rw[shift_p,ld1_p (u:=pL c.latches) o1 rfl rfl,ixS_pL hi]
 refine WJ ?_
 refine W (ldq0 (u:=aI c.latches[i].1) rfl) ?_
 refine callF_ans (ans26 (n:=c.latches[i].1) ⟨hp.1.1,by omega⟩) ?_
 rw[shift_p,ld1_p (u:=pL c.latches) o1 rfl rfl,ixS_pL hi]
 refine WJ ?_
 refine W (ldq0 (u:=aI c.latches[i].2) rfl) ?_
 rw[bin_eql,onB_v]
 refine gd_of (fun h1=>?_) (fun h1=>?_)
 ·refine W (bin_addT (b:=[32,49]) (by simp only[List.length_cons,List.length_nil];omega)) ?_
  refine W (bin_addT (b:=[10]) (by simp only[List.length_append,List.length_cons,List.length_nil];omega)) ?_
  refine⟨?_,k1⟩
  have d1:dg 1 = [49]:=by decide +kernel
  rw[latN,if_pos (dT h1)]
  simp[ln,lineL,d1]
 ·rw[bin_eql,onB_v]
  have h1:=dF h1
  refine gd_of (fun h3=>?_) (fun h3=>?_)
  ·refine W (bin_addT (b:=[32]) (by simp only[List.length_cons,List.length_nil];omega)) ?_
   rw[shift_p,ld1_p (u:=aI c.inputs) o1 rfl rfl,bin_add (by omega) (by omega),bin_add (by omega) (by omega),bin_mul (by omega) (by omega)]
   have e:2*(c.inputs+(i:Int)+1)=2*(c.inputs+1)+2*(i:Int):=by omega
   rw[e]
   refine callF_ans (ans26 (n:=2*(c.inputs+1)+2*(i:Int)) ⟨by omega,by omega⟩) ?_
   have h4:=dg_len (n:=2*(c.inputs+1)+2*(i:Int)) (by omega) (by omega)
   rw[bin_addT (by simp only[List.length_append,List.length_cons,List.length_nil];omega)]
   refine W (bin_addT (b:=[10]) (by simp only[List.length_append,List.length_cons,List.length_nil];omega)) ?_
   refine⟨?_,k1⟩
   rw[latN,if_neg h1,if_pos (dT h3)]
   simp[ln,lineL]
  ·refine W (bin_addT (b:=[10]) (by simp only[List.length_cons,List.length_nil];omega)) ?_
   refine⟨?_,k1⟩
   rw[latN,if_neg h1,if_neg (dF h3)]
   simp[ln,lineL]
theorem ans46{c:Ci}(hc:Nums c)(hnl:c.names.length≤1000000):Ans Pg 46 [c.av] (aT (namesT c.names)):=by
 intro S
 refine ACalls.ans_v (calls46 ?_)
 unfold m46
 refine boxA_of rfl fun S1 k1 n1 o1=>?_
 refine loop46_0 (fun y z T=>∃ i:Nat,z=aI i∧i≤c.names.length∧y=aT (namesT (c.names.take i))∧Keep S T∧T.obj S.n=some (.cells 29 [c.cells] true)) (fun _ z _=>c.names.length - ((intA z).getD 0).toNat) ⟨0,rfl,Nat.zero_le _,rfl,k1,o1⟩ ?_
 rintro _ _ T ⟨i,rfl,hile,rfl,kT,oT⟩ KE hKE
 unfold b46_0
 rw[shift_p,ld1_p (u:=nL c.names) oT rfl rfl,lenS_nL,bin_lss,onB_v]
 refine gd_of (fun hlt=>?_) (fun hge=>?_)
 ·have hlt:i<c.names.length:=by have:=dT hlt;omega
  obtain⟨⟨hk,hp,htx⟩,hsz⟩:=hc.names _ (List.getElem_mem hlt)
  have htk:=names_len (c.names.take i) (fun x hx=>hc.names x (List.mem_of_mem_take hx))
  have htl:(c.names.take i).length≤1000000:=by rw[List.length_take];omega
  have hkb:(((UInt8.ofNat c.names[i].kind.toNat).toNat:Nat):Int)=c.names[i].kind:=by rw[kind_byte hk];omega
  have hdg:=dg_len hp.1 hp.2
  have hts:c.names[i].text.data.toList.length=c.names[i].text.size:=by simp
  have hix:∀{P:AV→Prop},(∃ q,(ixS 75 3 (nL c.names) (aI i) T fun v S=>v=q∧S=T)∧P q)=P (.q c.names[i].row 0):=J_by (op:=fun K=>ixS 75 3 (nL c.names) (aI i) T K) fun K=>ixS_nL hlt
  refine W J_shift (W (J_ldp (u:=nL c.names) oT rfl rfl) (W hix (W J_shiftq (W (J_ldq (u:=.v (.int .u8 c.names[i].kind)) rfl) ?_))))
  rw[←hkb]
  refine⟨_,bsl1 rfl (fun _ h=>by cases h) ⟨rfl,rfl⟩,?_⟩
  refine⟨_,by
   show convBS (.l ([UInt8.ofNat c.names[i].kind.toNat].map byteR)) _ _
   rw[convBS_l];exact⟨rfl,rfl⟩,?_⟩
  refine W (J_addT (by simp only[List.length_cons,List.length_nil];omega)) ?_
  refine W J_shift (W (J_ldp (u:=nL c.names) oT rfl rfl) (W hix (W J_shiftq (W (J_ldq (u:=aI c.names[i].pos) rfl) ?_))))
  refine J_callA (ans26 (n:=c.names[i].pos) ⟨hp.1,by omega⟩) ?_
  refine W (J_addT (by simp only[List.length_append,List.length_cons,List.length_nil];omega)) ?_
  refine W (J_addT (b:=[32]) (by simp only[List.length_append,List.length_cons,List.length_nil];omega)) ?_
  refine W J_shift (W (J_ldp (u:=nL c.names) oT rfl rfl) (W hix (W J_shiftq (W (J_ldq (u:=.v (.string c.names[i].text)) rfl) ?_))))
  rw[aT_data]
  refine W (J_addT (by simp only[List.length_append,List.length_cons,List.length_nil];omega)) ?_
  refine W (J_addT (b:=[10]) (by simp only[List.length_append,List.length_cons,List.length_nil];omega)) ?_
  rw[bin_add (by omega) (by omega)]
  refine hKE _ _ _ ⟨i+1,rfl,hlt,?_,kT,oT⟩ (by simp[intA];omega)
  rw[namesT_take hlt];simp[nameL]
 ·have hge:i=c.names.length:=by have:=dF hge;omega
  subst hge
  rw[List.take_length]
  exact⟨rfl,kT⟩
theorem J_mulI{a b:Int}{S0:Store}{P:AV→Prop}(h:-9223372036854775808≤a*b)(h':a*b≤9223372036854775807):(∃ q,(bin .mul 0 (aI a) (aI b) S0 fun v S=>v=q∧S=S0)∧P q)=P (aI (a*b)):=J_by (op:=fun K=>bin .mul 0 (aI a) (aI b) S0 K) fun K=>bin_mul h h' 0
theorem J_ixp{l:List (Int × Int)}{e i:Nat}{S0:Store}{P:AV→Prop}(h:i<l.length):(∃ q,(ixS e 2 (pL l) (aI i) S0 fun v S=>v=q∧S=S0)∧P q)=P (.q [aI l[i].1,aI l[i].2] 0):=J_by (op:=fun K=>ixS e 2 (pL l) (aI i) S0 K) fun K=>ixS_pL h
theorem J_ixA{n sz z:Nat}{c:List AV}{S0:Store}{P:AV→Prop}(hz:z<n):(∃ q,(ixA n sz (.q c 0) (aI z) S0 fun v S=>v=q∧S=S0)∧P q)=P (.q c (z*sz)):=J_by (op:=fun K=>ixA n sz (.q c 0) (aI z) S0 K) fun K=>ixA_q hz
theorem J_lenpL'{l:List (Int × Int)}{S0:Store}{P:AV→Prop}:(∃ q,(lenS (pL l) S0 fun v S=>v=q∧S=S0)∧P q)=P (aI l.length):=J_by (op:=fun K=>lenS (pL l) S0 K) fun K=>lenS_pL _
theorem ans21{c:Ci}(hok:c.ok)(hnl:c.names.length≤1000000):Ans Pg 21 [c.av] (if c.right=true then .t [aT c.aagT,aI 0]else .t [aT [],aI 1]):=by
 intro S
 refine ACalls.tree ((calls21 (Q:=fun r S'=>(r = .ret (if c.right=true then .t [aT c.aagT,aI 0]else .t [aT [],aI 1]))∧Keep S S') ?_).mono ?_)
 case refine_2 =>
  rintro r S' ⟨rfl,hk⟩
  refine⟨_,rfl,hk,?_⟩
  split
  ·exact .t _ _ rfl (cvT2 (.v _) (.v _))
  ·exact .t _ _ rfl (cvT2 (.v _) (.v _))
 unfold m21
 refine boxA_of rfl fun S1 k1 n1 o1=>?_
 rw[ldN_p (n:=8) o1 rfl]
 refine callF_ans (ans42 hok) ?_
 rw[un_not,onB_v]
 refine gd_of (fun hr=>?_) (fun hr=>?_)
 ·have hr:¬ c.right=true:=by simpa using hr
  rw[if_neg hr]
  exact⟨rfl,k1⟩
 have hr:c.right=true:=by simpa using hr
 rw[if_pos hr]
 have hc:=nums_of hr
 have hi:=hc.inp
 have hsum:=hc.sum
 rw[ldN_p (n:=8) o1 rfl]
 refine callF_ans (ans43 hc) ?_
 have hh:=head_len hc [97,97,103]
 simp only[List.length_cons,List.length_nil]at hh
 have hhb:[97,97,103]++32 :: ln c.headT=c.headB [97,97,103]:=rfl
 have hlh:(32 :: ln c.headT).length≤100:=by
  have:=congrArg List.length hhb
  rw[List.length_append]at this
  omega
 refine W (bin_addT (a:=[97,97,103]) (by simp only[List.length_cons,List.length_nil]at hlh ⊢;omega)) ?_
 rw[hhb]
 refine loop21_0 (fun y z T=>∃ i:Nat,z=aI i∧(i:Int)≤c.inputs∧y=aT (c.headB [97,97,103]++insT i 0)∧S1=T) (fun _ z _=>c.inputs.toNat - ((intA z).getD 0).toNat) ⟨0,rfl,by omega,by simp[insT],rfl⟩ ?_
 rintro _ _ _ ⟨i,rfl,hile,rfl,rfl⟩ KE hKE
 unfold b21_0
 rw[shift_p,ld1_p (u:=aI c.inputs) o1 rfl rfl,bin_lss,onB_v]
 refine gd_of (fun hlt=>?_) (fun hge=>?_)
 ·have hlt:(i:Int)<c.inputs:=dT hlt
  have hl1:=ins_len i 0 (by omega)
  rw[bin_add (by omega) (by omega),bin_mul (by omega) (by omega)]
  refine callF_ans (ans26 (n:=2*((i:Int)+1)) ⟨by omega,by omega⟩) ?_
  have hd:=dg_len (n:=2*((i:Int)+1)) (by omega) (by omega)
  rw[bin_addT (by simp only[List.length_append];omega)]
  refine W (bin_addT (b:=[10]) (by simp only[List.length_append,List.length_cons,List.length_nil];omega)) ?_
  rw[bin_add (by omega) (by omega)]
  refine hKE _ _ _ ⟨i+1,rfl,by omega,?_,rfl⟩ (by simp[intA];omega)
  rw[insT_app,Nat.zero_add];simp[ln,lineL]
 have hge:¬ (i:Int)<c.inputs:=dF hge
 have hin:i=c.inputs.toNat:=by omega
 have hil:=ins_len i 0 (by omega)
 generalize hB1:c.headB [97,97,103]++insT i 0=B1
 have hB1l:B1.length≤100000:=by rw[←hB1,List.length_append];omega
 have hf2:(2:Int)≤2*(c.inputs+1):=by omega
 refine loop21_1 (fun y z T=>∃ i:Nat,z=aI i∧i≤c.latches.length∧y=aT (B1++latsT (2*(c.inputs+1)) 0 (c.latches.take i))∧S1=T) (fun _ z _=>c.latches.length - ((intA z).getD 0).toNat) ⟨0,rfl,Nat.zero_le _,by simp[latsT],rfl⟩ ?_
 rintro _ _ _ ⟨i,rfl,hile,rfl,rfl⟩ KE hKE
 unfold b21_1
 rw[shift_p,ld1_p (u:=pL c.latches) o1 rfl rfl,lenS_pL,bin_lss,onB_v]
 refine gd_of (fun hlt=>?_) (fun hge=>?_)
 ·have hlt:i<c.latches.length:=by have:=dT hlt;omega
  have hll:=lats_len hf2 (c.latches.take i) 0 (by rw[List.length_take];omega) (fun p hp'=>hc.lats p (List.mem_of_mem_take hp'))
  rw[List.length_take]at hll
  have hp:=hc.lats _ (List.getElem_mem hlt)
  refine W J_shift (W (J_ldp (u:=aI c.inputs) o1 rfl rfl) (W (J_add (by omega) (by omega)) (W (J_add (by omega) (by omega)) (W (J_mulI (by omega) (by omega)) ?_))))
  have e:2*(c.inputs+(i:Int)+1)=2*(c.inputs+1)+2*(i:Int):=by omega
  rw[e]
  refine J_callA (ans26 (n:=2*(c.inputs+1)+2*(i:Int)) ⟨by omega,by omega⟩) ?_
  have hd:=dg_len (n:=2*(c.inputs+1)+2*(i:Int)) (by omega) (by omega)
  refine W (J_addT (by simp only[List.length_append];omega)) ?_
  refine W (J_addT (b:=[32]) (by simp only[List.length_append,List.length_cons,List.length_nil];omega)) ?_
  refine W (J_ldN (n:=8) o1 rfl) ?_
  refine J_callA (ans44 hc hlt) ?_
  have hla:=ln_len (latN (2*(c.inputs+1)+2*(i:Int)) c.latches[i]) (by
   intro x hx
   unfold latN at hx
   rcases List.mem_cons.1 hx with rfl|hx
   ·exact hp.1
   split at hx
   ·rw[List.mem_singleton.1 hx];omega
   split at hx
   ·rw[List.mem_singleton.1 hx];omega
   ·cases hx)
  have hl2:(latN (2*(c.inputs+1)+2*(i:Int)) c.latches[i]).length≤2:=by
   unfold latN
   split
   ·simp
   ·split<;>simp
  refine W (J_addT (by simp only[List.length_append,List.length_cons,List.length_nil];omega)) ?_
  rw[bin_add (by omega) (by omega)]
  refine hKE _ _ _ ⟨i+1,rfl,hlt,?_,rfl⟩ (by simp[intA];omega)
  rw[latsT_take hlt]
  have:ln ((2*(c.inputs+1)+2*(i:Int)) :: latN (2*(c.inputs+1)+2*(i:Int)) c.latches[i])=dg (2*(c.inputs+1)+2*(i:Int)) ++ [32]++ln (latN (2*(c.inputs+1)+2*(i:Int)) c.latches[i]):=by
   unfold latN
   simp[ln,lineL]
  rw[this]
  simp
 have hge:i=c.latches.length:=by have:=dF hge;omega
 subst hge
 rw[List.take_length]
 have hll:=lats_len hf2 c.latches 0 (by omega) hc.lats
 generalize hB2:B1++latsT (2*(c.inputs+1)) 0 c.latches=B2
 have hB2l:B2.length≤1000000:=by rw[←hB2,List.length_append];omega
 have hcl:=colsTo_len hc 4
 rw[colsTo_4]at hcl
 have hcl2:(colT c.outs).length+(colT c.bads).length+(colT c.cons).length+(colT c.fair).length≤176000:=by
  simp only[Ci.colsT,List.length_append]at hcl
  omega
 refine W J_shift (W (J_ldp (u:=aL aI c.outs) o1 rfl rfl) (J_callA (ans45 hc.outs.1 hc.outs.2) (W (J_addT (by omega)) ?_)))
 refine W J_shift (W (J_ldp (u:=aL aI c.bads) o1 rfl rfl) (J_callA (ans45 hc.bads.1 hc.bads.2) (W (J_addT (by simp only[List.length_append];omega)) ?_)))
 refine W J_shift (W (J_ldp (u:=aL aI c.cons) o1 rfl rfl) (J_callA (ans45 hc.cons.1 hc.cons.2) (W (J_addT (by simp only[List.length_append];omega)) ?_)))
 refine W J_shift (W (J_ldp (u:=aL aI c.fair) o1 rfl rfl) (J_callA (ans45 hc.fair.1 hc.fair.2) (W (J_addT (by simp only[List.length_append];omega)) ?_)))
 have hcs:B2++colT c.outs++colT c.bads++colT c.cons++colT c.fair=B2++c.colsT:=by simp[Ci.colsT]
 rw[hcs]
 generalize hB3:B2++c.colsT=B3
 have hB3l:B3.length≤2000000:=by rw[←hB3,List.length_append];omega
 refine loop21_2 (fun y z T=>∃ i:Nat,z=aI i∧i≤c.ands.length∧y=aT (B3++andsT (2*(c.inputs+c.latches.length+1)) 0 (c.ands.take i))∧S1=T) (fun _ z _=>c.ands.length - ((intA z).getD 0).toNat) ⟨0,rfl,Nat.zero_le _,by simp[andsT],rfl⟩ ?_
 rintro _ _ _ ⟨i,rfl,hile,rfl,rfl⟩ KE hKE
 unfold b21_2
 rw[shift_p,ld1_p (u:=pL c.ands) o1 rfl rfl,lenS_pL,bin_lss,onB_v]
 refine gd_of (fun hlt=>?_) (fun hge=>?_)
 ·have hlt:i<c.ands.length:=by have:=dT hlt;omega
  have ha:=hc.pairs _ (List.getElem_mem hlt)
  have hal:=ands_len (first:=2*(c.inputs+c.latches.length+1)) (by omega) (c.ands.take i) 0 (by rw[List.length_take];omega) (fun p hp'=>hc.pairs p (List.mem_of_mem_take hp'))
  rw[List.length_take]at hal
  have d1:=dg_len ha.1.1 ha.1.2
  have d2:=dg_len ha.2.1 ha.2.2
  have d3:=dg_len (n:=2*(c.inputs+(c.latches.length:Int)+1+(i:Int))) (by omega) (by omega)
  refine W J_shift (W (J_ldp (u:=aI c.inputs) o1 rfl rfl) (W J_shift (W (J_ldp (u:=pL c.latches) o1 rfl rfl) (W J_lenpL' (W (J_add (by omega) (by omega)) (W (J_add (by omega) (by omega)) (W (J_add (by omega) (by omega)) (W (J_mulI (by omega) (by omega)) ?_))))))))
  refine J_callA (ans26 (n:=2*(c.inputs+(c.latches.length:Int)+1+(i:Int))) ⟨by omega,by omega⟩) ?_
  refine W (J_addT (by simp only[List.length_append];omega)) ?_
  refine W (J_addT (b:=[32]) (by simp only[List.length_append,List.length_cons,List.length_nil];omega)) ?_
  refine W J_shift (W (J_ldp (u:=pL c.ands) o1 rfl rfl) (W (J_ixp hlt) (W (J_ixA (n:=2) (z:=0) (by decide)) (W (J_ldq (u:=aI c.ands[i].1) rfl) ?_))))
  refine J_callA (ans26 (n:=c.ands[i].1) ⟨by omega,by omega⟩) ?_
  refine W (J_addT (by simp only[List.length_append,List.length_cons,List.length_nil];omega)) ?_
  refine W (J_addT (b:=[32]) (by simp only[List.length_append,List.length_cons,List.length_nil];omega)) ?_
  refine W J_shift (W (J_ldp (u:=pL c.ands) o1 rfl rfl) (W (J_ixp hlt) (W (J_ixA (n:=2) (z:=1) (by decide)) (W (J_ldq (u:=aI c.ands[i].2) rfl) ?_))))
  refine J_callA (ans26 (n:=c.ands[i].2) ⟨by omega,by omega⟩) ?_
  refine W (J_addT (by simp only[List.length_append,List.length_cons,List.length_nil];omega)) ?_
  refine W (J_addT (b:=[10]) (by simp only[List.length_append,List.length_cons,List.length_nil];omega)) ?_
  rw[bin_add (by omega) (by omega)]
  refine hKE _ _ _ ⟨i+1,rfl,hlt,?_,rfl⟩ (by simp[intA];omega)
  rw[andsT_take hlt]
  have e2:2*(c.inputs+(c.latches.length:Int)+1+(i:Int))=2*(c.inputs+c.latches.length+1)+2*(i:Int):=by omega
  rw[e2]
  simp[ln,lineL]
 have hge:i=c.ands.length:=by have:=dF hge;omega
 subst hge
 rw[List.take_length]
 have hal:=ands_len (first:=2*(c.inputs+c.latches.length+1)) (by omega) c.ands 0 (by omega) hc.pairs
 generalize hB4:B3++andsT (2*(c.inputs+c.latches.length+1)) 0 c.ands=B4
 have hB4l:B4.length≤3000000:=by rw[←hB4,List.length_append];omega
 have hnm:=names_len c.names hc.names
 rw[ldN_p (n:=8) o1 rfl]
 refine callF_ans (ans46 hc hnl) ?_
 rw[bin_addT (by omega)]
 have hall:B4++namesT c.names=c.aagT:=by
  rw[←hB4,←hB3,←hB2,←hB1,Ci.aagT,←hin];simp
 rw[hall]
 exact⟨rfl,k1⟩
theorem ans95{s:ByteArray}(hs:s.size≤281474976710656):Ans Pg 95 [.v (.string s)] (aI (numR s.data.toList)):=by
 intro S
 rw[←num_eq]
 refine calls95 ?_
 unfold m95
 refine callF_ans (ans119 hs) ?_
 unfold atoiR numA
 have hsz:s.data.toList.length=s.size:=Array.length_toList
 match h:Lib.atoiAll s.data.toList with
 |.syntax =>
  show extr _ _ _ _
  rw[extr0,extr1,nilE,onB_v,gd_T rfl]
  exact⟨rfl,rfl⟩
 |.range =>
  show extr _ _ _ _
  rw[extr0,extr1,nilE,onB_v,gd_T rfl]
  exact⟨rfl,rfl⟩
 |.ok v =>
  show extr _ _ _ _
  obtain⟨v1,v2⟩:=Lib.atoiAll_bounds h
  rw[extr0,extr1,nil4,onB_v,gd_F rfl,bin_lss,onB_v,hsz]
  refine gd_of (fun hv=>⟨by show AEnd.ret _=AEnd.ret (aI (if v<0 then -1 else _));rw[if_pos (dT hv)],rfl⟩) (fun hv=>?_)
  have hv:=dF hv
  rw[lenStr_b,bin_gtr,onB_v]
  refine gd_of (fun h6=>⟨by show AEnd.ret _=AEnd.ret (aI (if v<0 then -1 else if 6<s.size then -1 else _));rw[if_neg hv,if_pos (by have:=dT h6;omega)],rfl⟩) (fun h6=>?_)
  have h6:=dF h6
  refine callF_ans (ans84 (n:=v) ⟨by omega,by omega⟩) ?_
  rw[bin_neqS,onB_v]
  have he:((⟨(Lib.itoa v).toArray⟩:ByteArray)=s)↔Lib.itoa v=s.data.toList:=by
   constructor
   ·intro e;rw[←e]
   ·intro e;rw[e]
  refine gd_of (fun hn=>⟨?_,rfl⟩) (fun hn=>⟨?_,rfl⟩)
  ·show AEnd.ret _=AEnd.ret (aI (if v<0 then -1 else if 6<s.size then -1 else if Lib.itoa v≠s.data.toList then -1 else v))
   rw[if_neg hv,if_neg (by omega),if_pos (fun e=>by rw[he.2 e]at hn;simp at hn)]
  ·show AEnd.ret _=AEnd.ret (aI (if v<0 then -1 else if 6<s.size then -1 else if Lib.itoa v≠s.data.toList then -1 else v))
   rw[if_neg hv,if_neg (by omega),if_neg (fun e=>e (he.1 (by simpa using hn)))]
theorem numT{l:Bs}(hl:l.length≤281474976710656):Ans Pg 95 [aT l] (aI (numR l)):=by
 have:=ans95 (s:=⟨l.toArray⟩) (by simpa[ByteArray.size]using hl)
 exact this
theorem ext_t{vs:List AV}{i:Nat}{u:AV}(h:vs[i]? = some u){S:Store}{K:AV→Store→Prop}:extr (.t vs) i S K=K u S:=by simp[extr,h]
def wr(e:Int):AEnd:=.pan (.i 121 (.a [aI e]))
theorem want_c{b:Bool}{e:Int}{S:Store}{Q:AEnd→Store→Prop}{K:AV→Store→Prop}(h1:b=true→K (.t []) S)(h0:b=false→Q (wr e) S):callF Pg 92 [aB b,aI e] S Q K:=by
 refine .inl (calls92 ?_)
 unfold m92
 rw[un_not,onB_v]
 refine gd_of (fun h=>?_) (fun h=>?_)
 ·exact⟨[aI e],rfl,h0 (by simpa using h)⟩
 ·exact h1 (by simpa using h)
theorem Want_c{b:Bool}{x:AV}{S:Store}{Q:AEnd→Store→Prop}{K:AV→Store→Prop}(h1:b=true→K (.t []) S)(h0:b=false→Q (wr 21) S):callF Pg 53 [x,aB b] S Q K:=by
 refine .inl (calls53 ?_)
 unfold m53
 exact want_c (fun h=>h1 h) (fun h=>h0 h)
def tkT(j:Nat):Nat:=match j with|0=>51|1=>48|6=>75|_=>3
def Ci.rowsOf(c:Ci)(j:Nat):List (List AV):=match j with
 |0=>c.latches.map fun p=>[aI p.1,aI p.2]
 |1=>c.ands.map fun p=>[aI p.1,aI p.2]
 |2=>c.outs.map fun x=>[aI x]
 |3=>c.bads.map fun x=>[aI x]
 |4=>c.cons.map fun x=>[aI x]
 |5=>c.fair.map fun x=>[aI x]
 |6=>c.names.map Na.row
 |_=>[]
structure Rows (S:Store) (n:Nat) (z:Nat→AV) (r:Nat→List (List AV)):Prop where
 own:∀ j,j<8→Own n S (z j) (tkT j) (r j)
 dis:∀ i j,i<8→j<8→i≠j→∀ a b m b' m',z i = .s a b m→z j≠.s a b' m'
theorem Rows.keep{S T:Store}{n:Nat}{z:Nat→AV}{r:Nat→List (List AV)}(h:Rows S n z r)(k:Keep S T):Rows T n z r:=⟨fun j hj=>own_keep (h.own j hj) k,h.dis⟩
def updZ{α:Type}(z:Nat→α)(j:Nat)(x:α)(i:Nat):α:=if i=j then x else z i
def tkC(l:Bs)(M:List Int)(inp:Int)(y:Nat→AV):List AV:=aT l :: (M.map aI ++ [aI inp,y 0,y 1,y 2,y 3,y 4,y 5,y 6])
theorem nine{M:List Int}(h:M.length=9):∃ a b c d e f g i j,M = [a,b,c,d,e,f,g,i,j]:=by
 match M,h with
 |[a,b,c,d,e,f,g,i,j],_=>exact⟨a,b,c,d,e,f,g,i,j,rfl⟩
section
variable {l l':Bs} {M:List Int} {inp:Int} {y:Nat→AV}
theorem tkC_len(h:M.length=9):(tkC l M inp y).length=18:=by simp[tkC,h]
theorem tkC_m(h:M.length=9){i:Nat}(hi:i<9):(tkC l M inp y)[1+i]? = some (aI (M.getD i 0)):=by
 rw[Nat.add_comm 1 i]
 show(M.map aI++_)[i]? = _
 rw[List.getElem?_append_left (by simp[h];exact hi),List.getElem?_map,List.getD_eq_getElem?_getD,List.getElem?_eq_getElem (by omega)]
 rfl
theorem tkC_z(h:M.length=9){j:Nat}(hj:j<7):(tkC l M inp y)[11+j]? = some (y j):=by
 obtain⟨a,b,c,d,e,f,g,i,k,rfl⟩:=nine h
 match j,hj with
 |0,_=>rfl
 |1,_=>rfl
 |2,_=>rfl
 |3,_=>rfl
 |4,_=>rfl
 |5,_=>rfl
 |6,_=>rfl
theorem tkC_sl:(tkC l M inp y).set 0 (aT l')=tkC l' M inp y:=rfl
theorem tkC_sm(h:M.length=9){i:Nat}(hi:i<9){v:Int}:(tkC l M inp y).set (1+i) (aI v)=tkC l (M.set i v) inp y:=by
 rw[Nat.add_comm 1 i]
 show aT l :: (M.map aI++_).set i _=_
 rw[List.set_append_left _ _ (by simp[h];exact hi),←List.map_set]
 rfl
theorem tkC_si(h:M.length=9){v:Int}:(tkC l M inp y).set 10 (aI v)=tkC l M v y:=by
 obtain⟨a,b,c,d,e,f,g,i,k,rfl⟩:=nine h
 rfl
theorem tkC_sz(h:M.length=9){j:Nat}(hj:j<7){x:AV}:(tkC l M inp y).set (11+j) x=tkC l M inp (updZ y j x):=by
 obtain⟨a,b,c,d,e,f,g,i,k,rfl⟩:=nine h
 match j,hj with
 |0,_=>rfl
 |1,_=>rfl
 |2,_=>rfl
 |3,_=>rfl
 |4,_=>rfl
 |5,_=>rfl
 |6,_=>rfl
end
structure TkZ (S0 T:Store) (l:Bs) (M:List Int) (inp:Int) (r:Nat→List (List AV)) (y z:Nat→AV):Prop where
 len:M.length=9
 kp:Keep S0 T
 lt:S0.n<T.n
 ob:T.obj S0.n=some (.cells 81 [tkC l M inp y] true)
 rows:Rows T (S0.n+1) z r
def Tk(S0 T:Store)(l:Bs)(M:List Int)(c:Ci):Prop:=∃ z,TkZ S0 T l M c.inputs c.rowsOf z z
section
variable {S0 T:Store} {l:Bs} {M:List Int} {inp:Int} {r:Nat→List (List AV)} {y z:Nat→AV} {c:Ci}
theorem TkZ.keep(h:TkZ S0 T l M inp r y z){T':Store}(k:Keep T T'):TkZ S0 T' l M inp r y z:=
 ⟨h.len,h.kp.trans k,Nat.lt_of_lt_of_le h.lt k.1,(k.2 _ h.lt).trans h.ob,h.rows.keep k⟩
theorem TkZ.st(h:TkZ S0 T l M inp r y z){l':Bs}{M':List Int}{inp':Int}{y':Nat→AV}{i:Nat}{u:AV}(hc:(tkC l M inp y).set i u=tkC l' M' inp' y')(hi:i<18)(hu:u.one=true)(hl:M'.length=9){K:AV→Store→Prop}
    (k:∀ T',T'.n=T.n→(∀ x,x≠S0.n→T'.obj x=T.obj x)→TkZ S0 T' l' M' inp' r y' z→K .j T'):stN 1 (.p S0.n 0 i) u T K:=by
 refine stF_of h.ob (by rw[tkC_len h.len];exact hi) hu fun T' n' o' f'=>k T' n' f' ⟨hl,?_,by rw[n'];exact h.lt,by rw[o',hc],⟨fun j hj=>?_,h.rows.dis⟩⟩
 ·exact⟨by rw[n'];exact h.kp.1,fun j hj=>by rw[f' j (by omega)];exact h.kp.2 j hj⟩
 ·exact(h.rows.own j hj).st (fun b m e=>by have:=((h.rows.own j hj).lt e).1;omega) n' f'
theorem TkZ.app(h:TkZ S0 T l M inp r y z){j:Nat}(hj:j<7){e sz b:Nat}(he:tkT j=e){c:List AV}(hc:c.length=sz)(hb:((r j).length+1)*b≤140737488355328){x:AV}(hx:srcE T x=some [c]){K:AV→Store→Prop}
    (k:∀ x' T',x'.one=true→T.n≤T'.n→TkZ S0 T' l M inp (updZ r j (r j ++ [c])) y (updZ z j x')→(∀ x,x<T.n→(∀ b m,z j≠.s x b m)→T'.obj x=T.obj x)→K x' T'):appS e sz b (z j) x T K:=by
 subst he
 refine(h.rows.own j (by omega)).app h.lt hc hb (fun x' T' w' b' hx'=>?_) hx
 obtain⟨m,rfl⟩:=hx'
 have hlow:∀ i,i<8→i≠j→∀ a b m,z i = .s a b m→∀ b' m',z j≠.s a b' m':=fun i hi hne a b m e b' m' e'=>h.rows.dis i j hi (by omega) hne a b m b' m' e e'
 refine k _ T' rfl b'.1 (?_) b'.2
 refine⟨h.len,⟨Nat.le_trans h.kp.1 b'.1,fun i hi=>?_⟩,Nat.lt_of_lt_of_le h.lt b'.1,?_,⟨fun i hi=>?_,?_⟩⟩
 ·rw[b'.2 i (by have:=h.kp.1;omega) (fun b m e=>by have:=((h.rows.own j (by omega)).lt e).1;omega)]
  exact h.kp.2 i hi
 ·rw[b'.2 _ h.lt (fun b m e=>by have:=((h.rows.own j (by omega)).lt e).1;omega)]
  exact h.ob
 ·unfold updZ
  split
  ·rename_i hij
   subst hij
   exact w'
  ·rename_i hij
   exact(h.rows.own i hi).but b' fun a b m b' m' e e'=>hlow i hi hij a _ _ e' b m e
 ·intro i k hi hk hne a b m b' m' e e'
  unfold updZ at e e'
  split at e
  ·split at e'
   ·omega
   ·cases e
    have:=((h.rows.own k hk).lt e').2
    omega
  ·split at e'
   ·cases e'
    have:=((h.rows.own i hi).lt e).2
    omega
   ·exact h.rows.dis i k hi hk hne a b m b' m' e e'
theorem TkZ.ldz(h:TkZ S0 T l M inp r y z){j:Nat}(hj:j<7){K:AV→Store→Prop}:ld1 (.p S0.n 0 (11+j)) T K=K (y j) T:=ld1_p h.ob rfl (tkC_z h.len hj)
theorem TkZ.ldm(h:TkZ S0 T l M inp r y z){j:Nat}(hj:j<9){K:AV→Store→Prop}:ld1 (.p S0.n 0 (1+j)) T K=K (aI (M.getD j 0)) T:=ld1_p h.ob rfl (tkC_m h.len hj)
theorem TkZ.ldl(h:TkZ S0 T l M inp r y z){K:AV→Store→Prop}:ld1 (.p S0.n 0 0) T K=K (aT l) T:=ld1_p h.ob rfl rfl
theorem Tk.keep(h:Tk S0 T l M c){T':Store}(k:Keep T T'):Tk S0 T' l M c:=by
 obtain⟨z,h⟩:=h
 exact⟨z,h.keep k⟩
theorem Tk.kp(h:Tk S0 T l M c):Keep S0 T:=by
 obtain⟨z,h⟩:=h
 exact h.kp
theorem TkZ.line(h:TkZ S0 T l M inp r z z)(hl:l.length≤1000000){e:Int}{Q:AEnd→Store→Prop}{K:AV→Store→Prop}(h1:∀ a b,cutC 10 l=some (a,b)→∀ T',T.n≤T'.n→TkZ S0 T' b M inp r z z→(∀ x,x≠S0.n→T'.obj x=T.obj x)→K (aT a) T')(h0:cutC 10 l=none→Q (wr e) T):
    callF Pg 94 [.p S0.n 0 0,aI e] T Q K:=by
 refine .inl (calls94 ?_)
 unfold m94
 rw[nilChk_p,shift_p,h.ldl]
 refine callF_ans (ans96 10 (by omega)) ?_
 unfold cutR
 cases hc:cutC 10 l with
 |none =>
  show extr _ _ _ _
  rw[ext_t (i:=0) rfl,ext_t (i:=1) rfl,ext_t (i:=2) rfl]
  exact want_c (fun h=>by cases h) (fun _=>h0 hc)
 |some p =>
  obtain⟨a,b⟩:=p
  show extr _ _ _ _
  rw[ext_t (i:=0) rfl,ext_t (i:=1) rfl,ext_t (i:=2) rfl]
  refine want_c (fun _=>?_) (fun h=>by cases h)
  rw[nilChk_p,shift_p]
  refine h.st tkC_sl (by decide) rfl h.len fun T' n' f' h'=>?_
  exact h1 a b hc T' (by rw[n'];exact Nat.le_refl _) h' f'
theorem Tk.line(h:Tk S0 T l M c)(hl:l.length≤1000000){e:Int}{Q:AEnd→Store→Prop}{K:AV→Store→Prop}(h1:∀ a b,cutC 10 l=some (a,b)→∀ T',T.n≤T'.n→Tk S0 T' b M c→K (aT a) T')(h0:cutC 10 l=none→Q (wr e) T):
    callF Pg 94 [.p S0.n 0 0,aI e] T Q K:=by
 obtain⟨z,h⟩:=h
 exact h.line hl (fun a b hc T' hn h' _=>h1 a b hc T' hn ⟨z,h'⟩) h0
theorem Tk.of{z:Nat→AV}(h:TkZ S0 T l M inp r z z)(hi:c.inputs=inp)(hr:c.rowsOf=r):Tk S0 T l M c:=by
 subst hi
 subst hr
 exact⟨z,h⟩
end
theorem set_row{w:List Int}{i most:Nat}(hw:w.length=i)(hi:i<most)(v:Int):(w++List.replicate (most - i) 0).set i v=(w ++ [v])++List.replicate (most - (i+1)) 0:=by
 subst hw
 rw[List.set_append_right _ _ (Nat.le_refl _),Nat.sub_self]
 have e:most - w.length=(most - (w.length+1))+1:=by omega
 rw[e,List.replicate_succ]
 simp
theorem map_take1{ws:List Bs}{i:Nat}(h:i<ws.length):(ws.take (i+1)).map numR=(ws.take i).map numR ++ [numR ws[i]]:=by
 rw[List.take_add_one,List.getElem?_eq_getElem h,List.map_append]
 rfl
theorem ixA_pj{n id j z:Nat}(hz:z<n){S:Store}{K:AV→Store→Prop}:ixA n 1 (.p id 0 j) (aI z) S K=K (.p id 0 (j+z)) S:=by
 simp only[ixA,aI,intA,optP_some]
 have h1:((z:Int))<n:=by omega
 have h2:(0:Int)≤z:=by omega
 simp[h1,h2,shift_p]
section
variable {S0 T:Store} {l:Bs} {M:List Int} {c:Ci}
theorem TkZ.nums{inp:Int}{r:Nat→List (List AV)}{z:Nat→AV}(h:TkZ S0 T l M inp r z z)(hl:l.length≤1000000){least most:Nat}(hm:most≤3){Q:AEnd→Store→Prop}{K:AV→Store→Prop}
    (h1:∀ ns b,numbersP least most l=some (ns,b)→∀ T' id,T.n≤T'.n→TkZ S0 T' b M inp r z z→T'.obj id=some (.cells 3 (ns.map fun x=>[aI x]) true)→T.n≤id→id<T'.n→(∀ x,x≠S0.n→x<T.n→T'.obj x=T.obj x)→K (.s id 0 most) T')
    (h0:numbersP least most l=none→∀ T',Keep S0 T'→Q (wr 21) T'):callF Pg 54 [.p S0.n 0 0,aI least,aI most] T Q K:=by
 refine .inl (calls54 ?_)
 unfold m54
 refine h.line hl (fun a b hc T1 n1 k1 f1=>?_) (fun hc=>h0 (by simp[numbersP,hc]) _ h.kp)
 have hab:=cutC_len hc
 refine callF_ans (ans93 (by omega)) ?_
 have hw:∀ w∈wordsL a,w.length≤1000000:=fun w hw=>by have:=(wordsL_mem hw).2.1;omega
 have hwl:=wordsL_len a
 have hP:numbersP least most l=if least≤(wordsL a).length∧(wordsL a).length≤most∧(wordsL a).all (fun x=>decide (0≤numR x))=true then some ((wordsL a).map numR++List.replicate (most - (wordsL a).length) 0,b)else none:=by
  unfold numbersP;rw[hc]
 generalize wordsL a=ws at hw hwl hP
 rw[lenS_aL,bin_geq,onB_v]
 refine gd_of (fun hge=>?_) (fun hge=>?_)
 ·have hge:least≤ws.length:=by have:=dT hge;omega
  rw[lenS_aL,bin_leq]
  refine Want_c (fun hle=>?_) (fun hle=>?_)
  ·have hle:ws.length≤most:=by have:=dT hle;omega
   refine mk_of (by omega) (by omega) fun T2 k2 n2 o2=>?_
   rw[lenS_aL]
   refine loop54_0 (fun y U=>∃ i:Nat,y=aI i∧i≤ws.length∧(∀ x∈(ws.take i).map numR,0≤x)∧Keep T1 U∧T1.n<U.n∧U.obj T1.n=some (.cells 3 (((ws.take i).map numR++List.replicate (most - i) 0).map fun x=>[aI x]) true)) (fun y _=>ws.length - ((intA y).getD 0).toNat)
    ⟨0,rfl,Nat.zero_le _,fun x hx=>(by simp at hx),k2,by omega,by simpa using o2⟩ ?_
   rintro _ U ⟨i,rfl,hi,hall,kU,nU,oU⟩ KE hKE
   unfold b54_0
   rw[bin_lss,onB_v]
   refine gd_of (fun hlt=>?_) (fun hge2=>?_)
   ·have hlt:i<ws.length:=by have:=dT hlt;omega
    have htk:((ws.take i).map numR).length=i:=by simp;omega
    have hrow:(((ws.take i).map numR++List.replicate (most - i) 0).map fun x=>[aI x])[i]? = some [aI 0]:=by
     rw[List.getElem?_map,List.getElem?_append_right (by omega),htk,Nat.sub_self,List.getElem?_replicate,if_pos (by omega)]
     rfl
    rw[ixS_aL hlt,ld1_q]
    refine callF_ans (numT (by have:=hw _ (List.getElem_mem hlt);omega)) ?_
    rw[ixS_s (by omega) oU,Nat.zero_add]
    have hset:((((ws.take i).map numR++List.replicate (most - i) 0).map fun x=>[aI x]).set i [aI (numR ws[i])])=(((ws.take (i+1)).map numR++List.replicate (most - (i+1)) 0).map fun x=>[aI x]):=by
     rw[←List.map_set (f:=fun x=>[aI x]),set_row htk (by omega),map_take1 hlt]
    refine st_of oU hrow rfl fun U2 nU2 oU2 fU2=>?_
    rw[hset]at oU2
    have hrow2:(((ws.take (i+1)).map numR++List.replicate (most - (i+1)) 0).map fun x=>[aI x])[i]? = some [aI (numR ws[i])]:=by
     rw[List.getElem?_map,List.getElem?_append_left (by rw[map_take1 hlt,List.length_append,htk];simp),map_take1 hlt,List.getElem?_append_right (by omega),htk,Nat.sub_self]
     rfl
    rw[ixS_s (by omega) oU2,Nat.zero_add,ld1_p oU2 hrow2 rfl,bin_geq]
    have kU2:Keep T1 U2:=kU.st (Nat.le_refl _) nU2 fU2
    refine Want_c (fun hn=>?_) (fun hn=>?_)
    ·rw[bin_add (by omega) (by omega)]
     refine hKE _ _ ⟨i+1,rfl,hlt,fun x hx=>?_,kU2,by omega,oU2⟩ (by simp[intA];omega)
     rw[map_take1 hlt]at hx
     rcases List.mem_append.1 hx with hx|hx
     ·exact hall x hx
     ·rw[List.mem_singleton.1 hx];exact dT hn
    ·refine h0 ?_ _ (k1.kp.trans kU2)
     rw[hP,if_neg]
     rintro⟨_,_,h3⟩
     have:=List.all_eq_true.1 h3 _ (List.getElem_mem hlt)
     rw[hn]at this
     cases this
   ·have hge2:i=ws.length:=by have:=dF hge2;omega
    subst hge2
    rw[List.take_length]at hall oU
    refine h1 _ b (by
     rw[hP,if_pos]
     exact⟨hge,hle,List.all_eq_true.2 fun x hx=>decide_eq_true (hall _ (List.mem_map_of_mem hx))⟩) U T1.n (Nat.le_trans n1 kU.1) (k1.keep kU) oU n1 nU (fun x hx hx2=>(kU.2 x (Nat.lt_of_lt_of_le hx2 n1)).trans (f1 x hx))
  ·have hle:¬ ws.length≤most:=by have:=dF hle;omega
   exact h0 (by rw[hP,if_neg (fun e=>hle e.2.1)]) _ k1.kp
 ·have hge:¬ least≤ws.length:=by have:=dF hge;omega
  exact Want_c (fun h=>by cases h) (fun _=>h0 (by rw[hP,if_neg (fun e=>hge e.1)]) _ k1.kp)
theorem TkZ.Lm{inp:Int}{r:Nat→List (List AV)}{y z:Nat→AV}(h:TkZ S0 T l M inp r y z){j:Nat}(hj:j<9){P:AV→Prop}(k:P (aI (M.getD j 0))):
    ∃ q1,(∀ U,Keep T U→nilChk (.p S0.n 0 0) U fun v S=>v=q1∧S=U)∧∃ q3,(∀ U,Keep T U→shift q1 1 U fun v S=>v=q3∧S=U)∧∃ q5,(∀ U,Keep T U→ixA 9 1 q3 (aI j) U fun v S=>v=q5∧S=U)∧∃ q7,(∀ U,Keep T U→ld1 q5 U fun v S=>v=q7∧S=U)∧P q7:=by
 refine⟨_,fun T hT=>by rw[nilChk_p];exact⟨rfl,rfl⟩,?_⟩
 refine L_shift ?_
 refine⟨_,fun T hT=>by rw[ixA_pj hj];exact⟨rfl,rfl⟩,?_⟩
 refine⟨_,fun T hT=>?_,k⟩
 rw[Nat.zero_add,(h.keep hT).ldm hj]
 exact⟨rfl,rfl⟩
theorem ab_eq{a b:Bs}:((⟨a.toArray⟩:ByteArray)=⟨b.toArray⟩)↔a=b:=by
 constructor
 ·intro e
  have:=congrArg (fun x:ByteArray=>x.data.toList) e
  simpa using this
 ·intro e;rw[e]
theorem slc_tl{α:Type}{f:α→AV}{l:List α}{e:Nat}(h:0<l.length){S:Store}{K:AV→Store→Prop}:slc e 1 (aL f l) (some (.v (.int .i64 1))) none none S K=K (aL f l.tail) S:=by
 have h1:(1:Int)≤l.length:=by omega
 have h2:((l.length:Int) - 1).toNat=l.length - 1:=by omega
 simp only[slc,aL,bnd,intA,optP_some,List.length_map]
 have h3:List.take ((l.length:Int) - 1).toNat (List.drop (Int.toNat 1) (List.map (fun x=>[f x]) l))=List.map (fun x=>[f x]) l.tail:=by
  rw[h2]
  cases l with
  |nil=>simp at h
  |cons a l=>simp[List.take_of_length_le]
 rw[h3]
 simp[h1]
def Ci.inp(c:Ci)(i:Int):Ci:={ c with inputs:=i }
theorem Tk.head(h:Tk S0 T l (List.replicate 9 0) c)(hl:l.length≤1000000){word:Bs}{Q:AEnd→Store→Prop}{K:AV→Store→Prop}
    (h1:∀ M b,headP word l=some (M,b)→∀ T',T.n≤T'.n→Tk S0 T' b M (c.inp (M.getD 1 0))→K (.t []) T')
    (h0:headP word l=none→∀ T',Keep S0 T'→Q (wr 20) T'):callF Pg 52 [.p S0.n 0 0,aT word] T Q K:=by
 refine .inl (calls52 ?_)
 unfold m52
 refine h.line hl (fun a b hc T1 n1 k1=>?_) (fun hc=>h0 (by simp[headP,hc]) _ h.kp)
 have hab:=cutC_len hc
 refine callF_ans (ans93 (by omega)) ?_
 have hw:∀ w∈wordsL a,w.length≤1000000:=fun w hw=>by have:=(wordsL_mem hw).2.1;omega
 have hne:=wordsL_ne a
 have hP:headP word l=if headOk word (wordsL a)=true then some (headM (wordsL a).tail,b)else none:=by
  unfold headP;rw[hc]
 generalize wordsL a=ws at hw hne hP
 match ws,hne with
 |w0 :: ws,_ =>
 have bad:∀{T':Store},Keep S0 T'→¬ headOk word (w0 :: ws)=true→Q (wr 20) T':=fun hk hn=>h0 (by rw[hP,if_neg hn]) _ hk
 have hok:headOk word (w0 :: ws)=true↔w0=word∧(5≤ws.length∧ws.length≤9)∧(∀ x∈ws,0≤numR x∧numR x≤2000)∧(headM ws).getD 0 0=(headM ws).getD 1 0+(headM ws).getD 2 0+(headM ws).getD 4 0∧(headM ws).getD 7 0=0:=by
  simp only[headOk,Bool.and_eq_true,decide_eq_true_eq,List.all_eq_true,List.head?_cons,Option.some.injEq,List.tail_cons,List.length_cons]
  constructor
  ·rintro⟨e1,e2,e3,e4⟩;exact⟨e1,⟨by omega,by omega⟩,e3,dT e4⟩
  ·rintro⟨e1,e2,e3,e4⟩;exact⟨e1,⟨by omega,by omega⟩,e3,decide_eq_true e4⟩
 refine W (ixS_aL (i:=0) (by simp)) ?_
 rw[List.getElem_cons_zero,ld1_q,bin_eqlS,onB_v]
 refine gd_of (fun hw0=>?_) (fun hw0=>want_c (fun h=>by cases h) (fun _=>bad k1.kp (fun e=>dF hw0 (by rw[(hok.1 e).1]))))
 have hw0:=ab_eq.1 (dT hw0)
 rw[lenS_aL,bin_gtr,onB_v]
 refine gd_of (fun h5=>?_) (fun h5=>want_c (fun h=>by cases h) (fun _=>bad k1.kp (fun e=>dF h5 (by have:=(hok.1 e).2.1;rw[List.length_cons];omega))))
 have h5:5≤ws.length:=by have:=dT h5;rw[List.length_cons]at this;omega
 rw[lenS_aL,bin_leq]
 refine want_c (fun h9=>?_) (fun h9=>bad k1.kp (fun e=>dF h9 (by have:=(hok.1 e).2.1;rw[List.length_cons];omega)))
 have h9:ws.length≤9:=by have:=dT h9;rw[List.length_cons]at this;omega
 rw[slc_tl (by simp),List.tail_cons,lenS_aL]
 refine loop52_0 (fun y U=>∃ i:Nat,y=aI i∧i≤ws.length∧(∀ x∈ws.take i,0≤numR x∧numR x≤2000)∧T.n≤U.n∧Tk S0 U b ((ws.take i).map numR++List.replicate (9 - i) 0) c) (fun y _=>ws.length - ((intA y).getD 0).toNat)
  ⟨0,rfl,Nat.zero_le _,fun x hx=>(by simp at hx),n1,by simpa using k1⟩ ?_
 rintro _ U ⟨i,rfl,hi,hall,nU,z,hU⟩ KE hKE
 unfold b52_0
 rw[bin_lss,onB_v]
 refine gd_of (fun hlt=>?_) (fun hge=>?_)
 ·have hlt:i<ws.length:=by have:=dT hlt;omega
  have htk:((ws.take i).map numR).length=i:=by simp;omega
  rw[ixS_aL hlt,ld1_q]
  refine L_callA (numT (by have:=hw _ (List.mem_cons_of_mem _ (List.getElem_mem hlt));omega)) ?_
  refine⟨_,fun T hT=>by rw[nilChk_p];exact⟨rfl,rfl⟩,?_⟩
  refine L_shift ?_
  refine⟨_,fun T hT=>by rw[ixA_pj (by omega)];exact⟨rfl,rfl⟩,?_⟩
  rw[Nat.zero_add]
  refine hU.st (tkC_sm hU.len (by omega)) (by omega) rfl (by rw[List.length_set];exact hU.len) fun U2 nU2 fU2 hU2=>?_
  rw[set_row htk (by omega),←map_take1 hlt]at hU2
  have hg:((ws.take (i+1)).map numR++List.replicate (9 - (i+1)) 0).getD i 0=numR ws[i]:=by
   rw[List.getD_eq_getElem?_getD,map_take1 hlt,List.append_assoc,List.getElem?_append_right (by omega),htk,Nat.sub_self]
   rfl
  have kU2:Keep S0 U2:=hU2.kp
  rw[nilChk_p,shift_p,Nat.zero_add,ixA_pj (by omega),hU2.ldm (by omega),hg,bin_geq,onB_v]
  refine gd_of (fun hn=>?_) (fun hn=>want_c (fun h=>by cases h) (fun _=>bad kU2 (fun e=>dF hn ((hok.1 e).2.2.1 _ (List.getElem_mem hlt)).1)))
  rw[nilChk_p,shift_p,Nat.zero_add,ixA_pj (by omega),hU2.ldm (by omega),hg,bin_leq]
  refine want_c (fun hx=>?_) (fun hx=>bad kU2 (fun e=>dF hx ((hok.1 e).2.2.1 _ (List.getElem_mem hlt)).2))
  rw[bin_add (by omega) (by omega)]
  refine hKE _ _ ⟨i+1,rfl,hlt,fun x hx'=>?_,by omega,z,hU2⟩ (by simp[intA];omega)
  rw[List.take_add_one,List.getElem?_eq_getElem hlt]at hx'
  rcases List.mem_append.1 hx' with hx'|hx'
  ·exact hall x hx'
  ·rw[Option.toList_some,List.mem_singleton]at hx'
   rw[hx']
   exact⟨dT hn,dT hx⟩
 ·have hge:i=ws.length:=by have:=dF hge;omega
  subst hge
  rw[List.take_length]at hall hU
  have hM:∀ j,0≤(headM ws).getD j 0∧(headM ws).getD j 0≤2000:=fun j=>by
   rw[List.getD_eq_getElem?_getD]
   cases hg:(headM ws)[j]? with
   |none=>exact⟨by decide,by decide⟩
   |some v =>
    rw[Option.getD_some]
    rcases List.mem_append.1 (List.mem_of_getElem? hg)with hx|hx
    ·obtain⟨w,hw',rfl⟩:=List.mem_map.1 hx
     exact hall w hw'
    ·rw[(List.mem_replicate.1 hx).2];decide
  have hU:TkZ S0 U b (headM ws) c.inputs c.rowsOf z z:=hU
  have m1:=hM 1
  have m2:=hM 2
  have m4:=hM 4
  refine hU.Lm (j:=0) (by decide) ?_
  refine hU.Lm (j:=1) (by decide) ?_
  refine hU.Lm (j:=2) (by decide) ?_
  refine⟨_,fun T hT=>by rw[bin_add (by omega) (by omega)];exact⟨rfl,rfl⟩,?_⟩
  refine hU.Lm (j:=4) (by decide) ?_
  refine⟨_,fun T hT=>by rw[bin_add (by omega) (by omega)];exact⟨rfl,rfl⟩,?_⟩
  refine⟨_,fun T hT=>by rw[bin_eql];exact⟨rfl,rfl⟩,?_⟩
  rw[onB_v]
  refine gd_of (fun hs=>?_) (fun hs=>?_)
  ·refine hU.Lm (j:=7) (by decide) ?_
   refine⟨_,fun T hT=>by rw[bin_eql];exact⟨rfl,rfl⟩,?_⟩
   refine⟨_,fun T hT=>⟨rfl,rfl⟩,?_⟩
   refine want_c (fun h7=>?_) (fun h7=>bad hU.kp (fun e=>dF h7 (hok.1 e).2.2.2.2))
   rw[nilChk_p,shift_p,Nat.zero_add]
   refine W (ixA_pj (z:=1) (by decide)) ?_
   rw[hU.ldm (by decide),nilChk_p,shift_p,shift_p]
   refine hU.st (tkC_si hU.len) (by decide) rfl hU.len fun U2 nU2 fU2 hU2=>?_
   refine h1 (headM ws) b ?_ U2 (by omega) ⟨z,hU2⟩
   rw[hP,if_pos (hok.2 ⟨hw0,⟨h5,h9⟩,hall,dT hs,dT h7⟩)]
   rfl
  ·refine⟨_,fun T hT=>⟨rfl,rfl⟩,?_⟩
   exact want_c (fun h=>by cases h) (fun _=>bad hU.kp (fun e=>dF hs (hok.1 e).2.2.2.1))
end
theorem bslA2{e:Nat}{zc:List AV}{a b:AV}(hz:zc.length=2){S:Store}{K:AV→Store→Prop}(k:K (.l [[a,b]]) S):bslN e 2 1 zc [(0,.a [a,b])] S K:=by
 refine⟨[a,b],?_,.inr ?_⟩
 ·match zc,hz with
  |[x,y],_=>simp[fillA,cellsOf,spl,List.range_succ]
 ·simpa[chunks,List.range_succ]using k
theorem bslP3{e:Nat}{zc:List AV}{a b c:AV}(hz:zc.length=3){S:Store}{K:AV→Store→Prop}(k:K (.l [[a,b,c]]) S):bslN e 3 1 zc [(0,.a [a,b,c])] S K:=by
 refine⟨[a,b,c],?_,.inr ?_⟩
 ·match zc,hz with
  |[x,y,w],_=>simp[fillA,cellsOf,spl,List.range_succ]
 ·simpa[chunks,List.range_succ]using k
section
variable {S0 T:Store} {l:Bs} {M:List Int} {c:Ci} {inp:Int} {r:Nat→List (List AV)} {y z:Nat→AV}
theorem TkZ.Jm(h:TkZ S0 T l M inp r y z){j:Nat}(hj:j<9){P:AV→Prop}(k:P (aI (M.getD j 0))):
    ∃ q1,(nilChk (.p S0.n 0 0) T fun v S=>v=q1∧S=T)∧∃ q3,(shift q1 1 T fun v S=>v=q3∧S=T)∧∃ q5,(ixA 9 1 q3 (aI j) T fun v S=>v=q5∧S=T)∧∃ q7,(ld1 q5 T fun v S=>v=q7∧S=T)∧P q7:=by
 refine⟨_,by rw[nilChk_p];exact⟨rfl,rfl⟩,_,by rw[shift_p];exact⟨rfl,rfl⟩,_,by rw[ixA_pj hj];exact⟨rfl,rfl⟩,_,?_,k⟩
 rw[Nat.zero_add,h.ldm hj]
 exact⟨rfl,rfl⟩
theorem TkZ.lats(h:TkZ S0 T l M inp r y z)(hM:∀ j,0≤M.getD j 0∧M.getD j 0≤2000):AnsAt Pg 55 [.p S0.n 0 0] T (.t [aI (M.getD 2 0),aI (2*(M.getD 1 0+1))]):=by
 refine calls55 ?_
 unfold m55
 have m1:=hM 1
 refine h.Jm (j:=2) (by decide) ?_
 refine h.Jm (j:=1) (by decide) ?_
 refine W (J_add (by omega) (by omega)) (W (J_mulI (by omega) (by omega)) ?_)
 exact⟨rfl,rfl⟩
theorem TkZ.gates(h:TkZ S0 T l M inp r y z)(hM:∀ j,0≤M.getD j 0∧M.getD j 0≤2000):AnsAt Pg 58 [.p S0.n 0 0] T (.t [aI (M.getD 4 0),aI (2*(M.getD 1 0+M.getD 2 0+1))]):=by
 refine calls58 ?_
 unfold m58
 have m1:=hM 1
 have m2:=hM 2
 refine h.Jm (j:=4) (by decide) ?_
 refine h.Jm (j:=1) (by decide) ?_
 refine h.Jm (j:=2) (by decide) ?_
 refine W (J_add (by omega) (by omega)) (W (J_add (by omega) (by omega)) (W (J_mulI (by omega) (by omega)) ?_))
 exact⟨rfl,rfl⟩
def Ci.addL(c:Ci)(p:Int × Int):Ci:={ c with latches:=c.latches ++ [p] }
def Ci.addA(c:Ci)(p:Int × Int):Ci:={ c with ands:=c.ands ++ [p] }
def Ci.addN(c:Ci)(x:Na):Ci:={ c with names:=c.names ++ [x] }
def Ci.setK(c:Ci)(L:List (List Int)):Ci:={ c with outs:=L.getD 0 [],bads:=L.getD 1 [],cons:=L.getD 2 [],fair:=L.getD 3 [] }
theorem rows_addL(c:Ci)(p:Int × Int):(c.addL p).rowsOf=updZ c.rowsOf 0 (c.rowsOf 0 ++ [[aI p.1,aI p.2]]):=by
 funext j
 match j with
 |0=>simp[Ci.rowsOf,updZ,Ci.addL]
 |1=>rfl
 |2=>rfl
 |3=>rfl
 |4=>rfl
 |5=>rfl
 |6=>rfl
 |j+7=>rfl
theorem rows_addA(c:Ci)(p:Int × Int):(c.addA p).rowsOf=updZ c.rowsOf 1 (c.rowsOf 1 ++ [[aI p.1,aI p.2]]):=by
 funext j
 match j with
 |0=>rfl
 |1=>simp[Ci.rowsOf,updZ,Ci.addA]
 |2=>rfl
 |3=>rfl
 |4=>rfl
 |5=>rfl
 |6=>rfl
 |j+7=>rfl
theorem rows_addN(c:Ci)(x:Na):(c.addN x).rowsOf=updZ c.rowsOf 6 (c.rowsOf 6 ++ [x.row]):=by
 funext j
 match j with
 |0=>rfl
 |1=>rfl
 |2=>rfl
 |3=>rfl
 |4=>rfl
 |5=>rfl
 |6=>simp[Ci.rowsOf,updZ,Ci.addN]
 |j+7=>rfl
theorem rows_setK(c:Ci)(pre:List (List Int))(cur:List Int)(x:Int)(h:pre.length<4):(c.setK (pre ++ [cur ++ [x]])).rowsOf=updZ (c.setK (pre ++ [cur])).rowsOf (2+pre.length) ((c.setK (pre ++ [cur])).rowsOf (2+pre.length) ++ [[aI x]]):=by
 funext j
 match pre,h with
 |[],_ =>
  match j with
  |2=>simp[Ci.rowsOf,updZ,Ci.setK]
  |0=>rfl
  |1=>rfl
  |3=>rfl
  |4=>rfl
  |5=>rfl
  |6=>rfl
  |j+7=>rfl
 |[a],_ =>
  match j with
  |3=>simp[Ci.rowsOf,updZ,Ci.setK]
  |0=>rfl
  |1=>rfl
  |2=>rfl
  |4=>rfl
  |5=>rfl
  |6=>rfl
  |j+7=>rfl
 |[a,b],_ =>
  match j with
  |4=>simp[Ci.rowsOf,updZ,Ci.setK]
  |0=>rfl
  |1=>rfl
  |2=>rfl
  |3=>rfl
  |5=>rfl
  |6=>rfl
  |j+7=>rfl
 |[a,b,d],_ =>
  match j with
  |5=>simp[Ci.rowsOf,updZ,Ci.setK]
  |0=>rfl
  |1=>rfl
  |2=>rfl
  |3=>rfl
  |4=>rfl
  |6=>rfl
  |j+7=>rfl
theorem rows_len(c:Ci)(pre:List (List Int))(cur:List Int)(h:pre.length<4):((c.setK (pre ++ [cur])).rowsOf (2+pre.length)).length=cur.length:=by
 match pre,h with
 |[],_=>simp[Ci.rowsOf,Ci.setK]
 |[a],_=>simp[Ci.rowsOf,Ci.setK]
 |[a,b],_=>simp[Ci.rowsOf,Ci.setK]
 |[a,b,d],_=>simp[Ci.rowsOf,Ci.setK]
theorem setK_nil(c:Ci)(pre:List (List Int))(h:pre.length<4):c.setK (pre ++ [[]])=c.setK pre:=by
 match pre,h with
 |[],_=>rfl
 |[a],_=>rfl
 |[a,b],_=>rfl
 |[a,b,d],_=>rfl
theorem Tk.latch(h:Tk S0 T l M c)(hl:c.latches.length≤1000000){own next reset:Int}{Q:AEnd→Store→Prop}{K:AV→Store→Prop}
    (h1:∀ k,resetP own reset=some k→∀ T',T.n≤T'.n→Tk S0 T' l M (c.addL (next,k))→K (.t []) T') (h0:resetP own reset=none→Q (wr 21) T):
    callF Pg 56 [.p S0.n 0 0,aI own,aI next,aI reset] T Q K:=by
 refine .inl (calls56 ?_)
 unfold m56
 obtain⟨z,h⟩:=h
 have put:∀ k,resetP own reset=some k→ld1 (.p S0.n 0 11) T fun v5 S=>bld [(0,1),(1,1)] [aI 0,aI 0] [(0,aI next),(1,aI k)] S fun v7 S=>bslN 51 2 1 [aI 0,aI 0] [(0,v7)] S fun v8 S=>appS 51 2 16 v5 v8 S fun v9 S=>nilChk (.p S0.n 0 0) S fun v10 S=>shift v10 10 S fun v11 S=>shift v11 1 S fun v12 S=>stN 1 v12 v9 S fun _ S=>K (.t []) S:=by
  intro k hk
  refine W (h.ldz (j:=0) (by decide)) ?_
  refine⟨[aI next,aI k],rfl,?_⟩
  refine bslA2 rfl ?_
  refine h.app (j:=0) (by decide) rfl (c:=[aI next,aI k]) rfl (by simp[Ci.rowsOf];omega) rfl fun x' T' hx n' h' _=>?_
  rw[nilChk_p,shift_p,shift_p]
  refine h'.st (i:=11+0) (tkC_sz h.len (by decide)) (by decide) hx h.len fun T2 n2 f2 h2=>?_
  exact h1 k hk T2 (by omega) (Tk.of h2 rfl (rows_addL c _))
 have e2:∀{K':AV→Store→Prop},(nilChk (.p S0.n 0 0) T fun v S=>shift v 10 S fun v S=>shift v 1 S K')=K' (.p S0.n 0 11) T:=fun{K'}=>by rw[nilChk_p,shift_p,shift_p]
 rw[bin_eql,onB_v]
 refine gd_of (fun ho=>?_) (fun ho=>?_)
 ·have ho:=dT ho
  rw[e2]
  exact put 2 (by rw[resetP,if_pos ho])
 have ho:=dF ho
 rw[bin_eql,onB_v]
 refine gd_of (fun h00=>?_) (fun h00=>?_)
 ·rw[h00,onB_v,gd_true,e2]
  exact put reset (by rw[resetP,if_neg ho,if_pos (.inl (dT h00))])
 have h00:=dF h00
 rw[bin_eql,onB_v]
 refine gd_of (fun h01=>?_) (fun h01=>?_)
 ·rw[e2]
  exact put reset (by rw[resetP,if_neg ho,if_pos (.inr (dT h01))])
 ·have h01:=dF h01
  exact Want_c (fun h=>by cases h) (fun _=>h0 (by rw[resetP,if_neg ho,if_neg (fun e=>e.elim h00 h01)]))
def colIx(i:Nat):Nat:=match i with|0=>3|1=>5|2=>6|_=>8
def colsN(M:List Int):Nat→Bs→Option (List (List Int) × Bs)
 |0,l=>some ([],l)
 |n+1,l=>(columnP (mAt M (colIx (3 - n))) l).bind fun o=>(colsN M n o.2).map fun p=>(o.1 :: p.1,p.2)
theorem colsN_s(M:List Int)(n:Nat)(l:Bs):colsN M (n+1) l=(columnP (mAt M (colIx (3 - n))) l).bind fun o=>(colsN M n o.2).map fun p=>(o.1 :: p.1,p.2):=rfl
def tup(L:List (List Int)):List Int × List Int × List Int × List Int:=(L.getD 0 [],L.getD 1 [],L.getD 2 [],L.getD 3 [])
theorem colsP_N(M:List Int)(l:Bs):colsP M l=(colsN M 4 l).map fun p=>(tup p.1,p.2):=by
 simp only[colsP,colsN]
 simp[colIx,Option.map_eq_bind,Function.comp_def,tup,Option.bind_assoc]
theorem columnP_add:∀(a b:Nat) (l:Bs),columnP (a+b) l=(columnP a l).bind fun p=>(columnP b p.2).map fun q=>(p.1++q.1,q.2)
 |0,b,l=>by simp[columnP]
 |a+1,b,l=>by
  rw[Nat.add_right_comm,columnP,columnP]
  split
  ·rw[columnP_add a b]
   simp[Option.map_bind,Option.bind_map,Option.map_map,Function.comp_def]
  ·rfl
theorem tkT_c{i:Nat}(h:i<4):tkT (2+i)=3:=by
 match i,h with
 |0,_=>rfl
 |1,_=>rfl
 |2,_=>rfl
 |3,_=>rfl
theorem Tk.columns(h:Tk S0 T l M c)(hl:l.length≤1000000)(hM:∀ j,0≤M.getD j 0∧M.getD j 0≤2000)(hc:c.setK []=c){Q:AEnd→Store→Prop}{K:AV→Store→Prop}
    (h1:∀ L b,colsN M 4 l=some (L,b)→∀ T',Tk S0 T' b M (c.setK L)→K (.t []) T')
    (h0:colsN M 4 l=none→∀ T',Keep S0 T'→Q (wr 21) T'):callF Pg 57 [.p S0.n 0 0] T Q K:=by
 refine .inl (calls57 ?_)
 unfold m57
 rw[nilChk_p,shift_p]
 have part:∀(j:Nat) (m:Int) {P:AV→Prop},P (.a [.p S0.n 0 (10+j),aI m])→∃ q3,(nilChk (.p S0.n 0 (0+10)) T fun v S=>v=q3∧S=T)∧∃ q5,(shift q3 j T fun v S=>v=q5∧S=T)∧∃ q7,(bld [(0,1),(1,1)] [.v (.pointer none),aI 0] [(0,q5),(1,aI m)] T fun v S=>v=q7∧S=T)∧P q7:=fun j m P k=>by
  refine⟨_,by rw[nilChk_p];exact⟨rfl,rfl⟩,_,by rw[shift_p];exact⟨rfl,rfl⟩,_,⟨[.p S0.n 0 (10+j),aI m],?_,rfl,rfl⟩,k⟩
  simp[fillA,cellsOf,spl,AV.one,Value.oneCell']
 refine part 3 3 (part 4 5 (part 5 6 (part 6 8 ?_)))
 refine⟨_,⟨[.p S0.n 0 13,aI 3,.p S0.n 0 14,aI 5,.p S0.n 0 15,aI 6,.p S0.n 0 16,aI 8],rfl,rfl,rfl⟩,?_⟩
 refine loop57_0 (fun y U=>∃(i:Nat) (pre:List (List Int)) (l':Bs),y=aI i∧i≤4∧pre.length=i∧l'.length≤l.length∧Tk S0 U l' M (c.setK pre)∧colsN M 4 l=(colsN M (4 - i) l').map fun p=>(pre++p.1,p.2)) (fun y _=>4 - ((intA y).getD 0).toNat)
  ⟨0,[],l,rfl,by decide,rfl,Nat.le_refl _,by rw[hc];exact h,by simp⟩ ?_
 rintro _ U ⟨i,pre,l',rfl,hi,hpre,hl',hU,hq⟩ KE hKE
 unfold b57_0
 rw[bin_lss,onB_v]
 refine gd_of (fun hlt=>?_) (fun hge=>?_)
 ·have hlt:i<4:=by have:(i:Int)<4:=dT hlt
                   omega
  have hci:=hM (colIx i)
  have hci9:colIx i<9:=by unfold colIx;split<;>decide
  have hpart:∀{K:AV→Store→Prop},partN (.a [.p S0.n 0 13,aI 3,.p S0.n 0 14,aI 5,.p S0.n 0 15,aI 6,.p S0.n 0 16,aI 8]) 2 (i*2) U K=K (.a [.p S0.n 0 (11+(2+i)),aI (colIx i)]) U:=fun{K}=>by
   match i,hlt with
   |0,_=>simp[partN,partA,colIx]
   |1,_=>simp[partN,partA,colIx]
   |2,_=>simp[partN,partA,colIx]
   |3,_=>simp[partN,partA,colIx]
  refine⟨(i:Int),rfl,⟨by omega,by omega⟩,?_⟩
  rw[Int.toNat_natCast,hpart]
  refine boxA_of rfl fun U1 k1 n1 o1=>?_
  refine stA_of (cs':=[.p S0.n 0 (11+(2+i)),aI (colIx i)]) o1 rfl rfl fun U2 n2 o2 f2=>?_
  have kU:Keep U U2:=k1.st (Nat.le_refl _) n2 f2
  have hU2:=hU.keep kU
  obtain⟨zz,hz2⟩:=hU2
  have hSU:S0.n<U.n:=by obtain⟨z,hz⟩:=hU;exact hz.lt
  refine W J_shift (W (J_ldp (u:=aI (colIx i)) o2 rfl rfl) ?_)
  refine hz2.Jm hci9 ?_
  have hcm:aI (M.getD (colIx i) 0)=aI ((mAt M (colIx i):Nat):Int):=by congr 1;show _=(((M.getD (colIx i) 0).toNat:Nat):Int);omega
  rw[hcm]
  have e3:4 - i=(4 - (i+1))+1:=by omega
  have e4:3 - (4 - (i+1))=i:=by omega
  rw[e3,colsN_s M (4 - (i+1)) l',e4]at hq
  generalize hnn:mAt M (colIx i)=nn at hq
  have hnn2:nn≤2000:=by rw[←hnn];show(M.getD (colIx i) 0).toNat≤2000;omega
  refine loop57_1 (fun y V=>∃(j:Nat) (cur:List Int) (l2:Bs),y=aI j∧j≤nn∧cur.length=j∧l2.length≤l.length∧Tk S0 V l2 M (c.setK (pre ++ [cur]))∧V.obj U.n=some (.cells _ [[.p S0.n 0 (11+(2+i)),aI (colIx i)]] true)∧U.n<V.n∧columnP nn l'=(columnP (nn - j) l2).map fun p=>(cur++p.1,p.2)) (fun y _=>nn - ((intA y).getD 0).toNat)
   ⟨0,[],l',rfl,Nat.zero_le _,rfl,hl',by rw[setK_nil _ _ (by omega)];exact⟨zz,hz2⟩,o2,by omega,by simp⟩ ?_
  rintro _ V ⟨j,cur,l2,rfl,hj,hcur,hl2,⟨zv,hV⟩,oV,nV,hcol⟩ KE1 hKE1
  unfold b57_1
  rw[bin_lss,onB_v]
  refine gd_of (fun hlt2=>?_) (fun hge2=>?_)
  ·have hlt2:j<nn:=by have:=dT hlt2;omega
   have e5:nn - j=1+(nn - (j+1)):=by omega
   have pnn:∀{V':Store},Keep V V'→(ld1 (.p U.n 0 0) V' fun v S=>v = .p S0.n 0 (11+(2+i))∧S=V'):=fun{V'} k=>by
    rw[ld1_p ((k.2 _ nV).trans oV) rfl rfl];exact⟨rfl,rfl⟩
   refine L_shift ?_
   refine⟨_,fun V' hV'=>pnn hV',?_⟩
   refine L_shift ?_
   refine⟨_,fun V' hV'=>pnn hV',?_⟩
   refine⟨_,fun V' hV'=>by rw[nilChk_p];exact⟨rfl,rfl⟩,?_⟩
   refine⟨zv (2+i),fun V' hV'=>by rw[(hV.keep hV').ldz (by omega)];exact⟨rfl,rfl⟩,?_⟩
   have fail:numbersP 1 1 l2=none→colsN M 4 l=none:=fun hn=>by
    rw[hq,hcol,e5,columnP_add,columnP,hn];rfl
   refine hV.nums (least:=1) (most:=1) (by omega) (by decide) (fun ns b hns V1 id nV1 hV1 o1' hid1 hid2 fV1=>?_) (fun hn V' hV'=>h0 (fail hn) V' hV')
   have hns1:=numbersP_ok hns
   obtain⟨x,hx⟩:∃ x,ns = [x]:=List.length_eq_one_iff.1 hns1.1
   subst hx
   have hUS:U.n≠S0.n:=by omega
   have oV1:=(fV1 _ hUS nV).trans oV
   have nUV1:U.n<V1.n:=by omega
   have pn1:∀{V':Store},Keep V1 V'→(ld1 (.p U.n 0 0) V' fun v S=>v = .p S0.n 0 (11+(2+i))∧S=V'):=fun{V'} k=>by
    rw[ld1_p ((k.2 _ nUV1).trans oV1) rfl rfl];exact⟨rfl,rfl⟩
   refine⟨fun V' hV'=>by rw[(hV1.keep hV').ldz (by omega)];exact⟨rfl,rfl⟩,?_⟩
   refine⟨fun V' hV'=>by rw[nilChk_p];exact⟨rfl,rfl⟩,?_⟩
   refine⟨fun V' hV'=>pn1 hV',?_⟩
   refine⟨fun V' hV'=>by rw[shift_p];exact⟨rfl,rfl⟩,?_⟩
   refine⟨fun V' hV'=>pn1 hV',?_⟩
   refine⟨fun V' hV'=>by rw[shift_p];exact⟨rfl,rfl⟩,?_⟩
   refine⟨.p id 0 0,fun V' hV'=>by
    refine W (ixS_s (i:=0) (by decide) ((hV'.2 id hid2).trans o1')) ?_
    exact⟨rfl,rfl⟩,?_⟩
   refine⟨aI x,fun V' hV'=>by rw[ld1_p ((hV'.2 id hid2).trans o1') rfl rfl];exact⟨rfl,rfl⟩,?_⟩
   refine⟨_,fun V' hV'=>bslI1 ⟨rfl,rfl⟩,?_⟩
   have hrl:=rows_len c pre cur (by omega)
   rw[hpre]at hrl
   refine hV1.app (j:=2+i) (by omega) (tkT_c hlt) (c:=[aI x]) rfl (by rw[hrl];omega) rfl fun x' V2 hx' nV2 hV2 fV2=>?_
   have hzU:∀ b m,zv (2+i)≠.s U.n b m:=fun b m e=>by
    rcases hV1.rows.own (2+i) (by omega)with⟨e',_⟩|⟨id',e',_,_,ho⟩
    ·rw[e']at e;cases e
    ·rw[e']at e
     cases e
     rw[ho,tkT_c hlt]at oV1
     injection oV1 with oV1
     injection oV1 with oV1
     cases oV1
   have oV2:=(fV2 _ nUV1 hzU).trans oV1
   have nUV2:U.n<V2.n:=by omega
   have pn2:∀{V':Store},Keep V2 V'→(ld1 (.p U.n 0 0) V' fun v S=>v = .p S0.n 0 (11+(2+i))∧S=V'):=fun{V'} k=>by
    rw[ld1_p ((k.2 _ nUV2).trans oV2) rfl rfl];exact⟨rfl,rfl⟩
   refine⟨fun V' hV'=>pn2 hV',?_⟩
   refine⟨fun V' hV'=>by rw[shift_p];exact⟨rfl,rfl⟩,?_⟩
   refine⟨_,fun V' hV'=>by rw[nilChk_p];exact⟨rfl,rfl⟩,?_⟩
   refine hV2.st (i:=11+(2+i)) (tkC_sz hV1.len (by omega)) (by omega) hx' hV1.len fun V3 nV3 fV3 hV3=>?_
   rw[bin_add (by omega) (by omega)]
   have hrs:=rows_setK c pre cur x (by omega)
   rw[hpre]at hrs
   refine hKE1 _ _ ⟨j+1,cur ++ [x],b,rfl,hlt2,by simp[hcur],by have:=hns1.2.1;omega,Tk.of hV3 rfl hrs,(fV3 _ hUS).trans oV2,by omega,?_⟩ (by simp[intA];omega)
   rw[hcol,e5,columnP_add,columnP,hns]
   simp[columnP,Option.map_map,Function.comp_def]
  ·have hge2:j=nn:=by have:=dF hge2;omega
   subst hge2
   rw[bin_add (by omega) (by omega)]
   refine hKE _ _ ⟨i+1,pre ++ [cur],l2,rfl,by omega,by simp[hpre],hl2,⟨zv,hV⟩,?_⟩ (by simp[intA];omega)
   rw[hq,hcol,Nat.sub_self]
   simp[columnP,Option.map_map,Function.comp_def]
 ·have hge:i=4:=by have:¬ (i:Int)<4:=dF hge
                   omega
  subst hge
  refine h1 pre l' ?_ U hU
  rw[hq]
  simp[colsN]
end
theorem name_cut(a:Bs):nameP a=match cutC 32 a with
    |none=>none
    |some (w0,t)=>if(32:UInt8)∉t∧2≤w0.length∧0≤numR (w0.drop 1)then some ⟨(w0.getD 0 0).toNat,numR (w0.drop 1),⟨t.toArray⟩⟩else none:=by
 unfold nameP
 rw[wordsL_cut a]
 cases hc:cutC 32 a with
 |none=>rfl
 |some p =>
  obtain⟨w0,t⟩:=p
  by_cases ht:(32:UInt8)∈t
  ·simp only[ht,not_true,false_and,if_false]
   rw[wordsL_cut t]
   cases hc2:cutC 32 t with
   |none=>exact absurd ht (cutC_no hc2)
   |some q =>
    simp only
    cases hw:wordsL q.2 with
    |nil=>exact absurd hw (wordsL_ne _)
    |cons x y=>rfl
  ·simp only[ht,not_false_eq_true,true_and]
   rw[wordsL_one ht]
theorem contains32(t:Bs):(0≤Lib.indexByte t 32)↔(32:UInt8)∈t:=by
 have h:=indexByte_cut 32 t
 cases hc:cutC 32 t with
 |none =>
  rw[hc]at h
  have h:Lib.indexByte t 32 = -1:=h
  constructor
  ·intro h0;omega
  ·intro hm;exact absurd hm (cutC_no hc)
 |some p =>
  rw[hc]at h
  have h:Lib.indexByte t 32=(p.1.length:Int):=h
  constructor
  ·intro _
   have:=(cutC_some (a:=p.1) (b:=p.2) hc).1
   rw[this]
   exact List.mem_append_right _ List.mem_cons_self
  ·intro _;omega
theorem slcT{w:Bs}(h:1≤w.length){S:Store}{K:AV→Store→Prop}(k:K (aT (w.drop 1)) S):slcStr (aT w) (some (.v (.int .i64 1))) none S K:=by
 refine slc1 (b:=⟨w.toArray⟩) (by simpa[ByteArray.size]using h) ?_
 have e:=(extract_list (b:=⟨w.toArray⟩) (by simpa[ByteArray.size]using h)).1
 have e2:(ByteArray.extract ⟨w.toArray⟩ 1 (ByteArray.size ⟨w.toArray⟩))=⟨(w.drop 1).toArray⟩:=by
  apply ByteArray.ext
  apply Array.ext'
  exact e
 rw[e2]
 exact k
theorem ixStrT{w:Bs}(h:0<w.length){S:Store}{K:AV→Store→Prop}:ixStr (aT w) (.v (.int .i64 0)) S K=K (.v (.int .u8 (w.getD 0 0).toNat)) S:=by
 have e:=ixStr_b (b:=⟨w.toArray⟩) (i:=0) (S:=S) (K:=K) (by simpa[ByteArray.size]using h)
 refine Eq.trans e ?_
 congr 3
 match w,h with
 |b :: r,_=>rfl
theorem neT{w:Bs}{S:Store}{K:AV→Store→Prop}:bin .neq 0 (aT w) (.v (.string { data:=#[] })) S K=K (aB (!decide (w = []))) S:=by
 refine(bin_neqS ⟨w.toArray⟩ ⟨#[]⟩ 0).trans ?_
 have e:decide ((⟨w.toArray⟩:ByteArray)=⟨#[]⟩)=decide (w = []):=decide_eq_decide.2 (ab_eq (b:=[]))
 rw[e]
def leftN(id:Nat)(T:Store):Nat:=match T.obj id with
 |some (.cells _ ((.v (.string b) :: _) :: _) _)=>b.size
 |_=>0
section
variable {S0 T:Store} {l:Bs} {M:List Int} {c:Ci} {inp:Int} {r:Nat→List (List AV)} {y z:Nat→AV}
theorem TkZ.left(h:TkZ S0 T l M inp r y z):leftN S0.n T=l.length:=by
 unfold leftN
 rw[h.ob]
 simp[tkC,aT,ByteArray.size]
def Ci.setN(c:Ci)(ns:List Na):Ci:={ c with names:=ns }
theorem Tk.names(h:Tk S0 T l M c)(hl:l.length≤1000000)(hc:c.names = []){Q:AEnd→Store→Prop}{K:AV→Store→Prop}
    (h1:∀ ns,namesP l.length l=some ns→∀ b T',Tk S0 T' b M (c.setN ns)→K (.t []) T')
    (h0:namesP l.length l=none→∀ T',Keep S0 T'→Q (wr 21) T'):callF Pg 59 [.p S0.n 0 0] T Q K:=by
 refine .inl (calls59 ?_)
 unfold m59
 refine loop59_0 (fun U=>∃ pre l',pre.length+l'.length≤l.length∧Tk S0 U l' M (c.setN pre)∧namesP l.length l=(namesP l'.length l').map fun p=>pre++p) (fun U=>leftN S0.n U)
  ⟨[],l,by simp,by have e:c.setN []=c:=by rw[←hc];rfl
                   rw[e];exact h,by simp⟩ ?_
 rintro U ⟨pre,l',hl',⟨z,hU⟩,hq⟩ KE hKE
 unfold b59_0
 rw[nilChk_p,shift_p,hU.ldl,neT,onB_v]
 refine gd_of (fun hne=>?_) (fun he=>?_)
 ·have hne:l'≠[]:=by simpa using hne
  obtain⟨n',hn'⟩:∃ n',l'.length=n'+1:=⟨l'.length - 1,by have:=List.length_pos_iff.2 hne;omega⟩
  have hstep:namesP l'.length l'=match cutC 10 l' with
      |none=>none
      |some (a,r)=>if a = [99]then some []else match nameP a with
       |some x=>(namesP r.length r).map fun p=>x :: p
       |none=>none:=by
   rw[hn',namesP,if_neg hne]
   cases hcc:cutC 10 l' with
   |none=>rfl
   |some p =>
    obtain⟨pa,pr⟩:=p
    have hlen:=cutC_len hcc
    simp only
    first
     |(rw[namesP_mono pr.length n' pr (Nat.le_refl _) (by omega)];done)
     |(rw[namesP_mono pr.length n' pr (Nat.le_refl _) (by omega)];rfl)
  have bad:namesP l'.length l'=none→∀ V,Keep S0 V→Q (wr 21) V:=fun hn V hV=>h0 (by rw[hq,hn];rfl) V hV
  refine hU.line (by omega) (fun a b hcut V nV hV fV=>?_) (fun hcut=>bad (by rw[hstep,hcut]) _ hU.kp)
  have hab:=cutC_len hcut
  rw[hcut]at hstep
  refine W (bin_eqlS ⟨a.toArray⟩ ⟨#[99]⟩ 0) ?_
  rw[onB_v]
  refine gd_of (fun h99=>?_) (fun h99=>?_)
  ·have h99:a = [99]:=ab_eq.1 (dT h99)
   refine h1 pre ?_ b V ⟨z,hV⟩
   rw[hq,hstep]
   simp[h99]
  have h99:a≠[99]:=fun e=>dF h99 (by rw[e])
  have hstep:namesP l'.length l'=match nameP a with
      |some x=>(namesP b.length b).map fun p=>x :: p
      |none=>none:=by
   rw[hstep];exact if_neg h99
  refine callF_ans (ans96 32 (by omega)) ?_
  have hnm:=name_cut a
  unfold cutR
  cases hc32:cutC 32 a with
  |none =>
   rw[hc32]at hnm
   have hb2:=bad (by rw[hstep,hnm])
   show extr _ _ _ _
   rw[ext_t (i:=0) rfl,ext_t (i:=1) rfl,ext_t (i:=2) rfl,onB_v,gd_false]
   exact Want_c (fun h=>by cases h) (fun _=>hb2 _ hV.kp)
  |some p =>
   obtain⟨w0,t⟩:=p
   rw[hc32]at hnm
   have hnm:nameP a=if(32:UInt8)∉t∧2≤w0.length∧0≤numR (w0.drop 1)then some ⟨(w0.getD 0 0).toNat,numR (w0.drop 1),⟨t.toArray⟩⟩else none:=hnm
   have hal:=cutC_len hc32
   have bad2:¬ ((32:UInt8)∉t∧2≤w0.length∧0≤numR (w0.drop 1))→∀ V,Keep S0 V→Q (wr 21) V:=fun hn=>bad (by rw[hstep,hnm,if_neg hn])
   show extr _ _ _ _
   rw[ext_t (i:=0) rfl,ext_t (i:=1) rfl,ext_t (i:=2) rfl,onB_v,gd_true]
   have hlw:∀{S:Store} {K:AV→Store→Prop},lenStr (aT w0) S K=K (aI w0.length) S:=fun{S K}=>by
    refine(lenStr_b (S:=S) (K:=K) ⟨w0.toArray⟩).trans ?_
    simp[ByteArray.size]
   rw[hlw,bin_gtr,onB_v]
   refine gd_of (fun h2=>?_) (fun h2=>Want_c (fun h=>by cases h) (fun _=>bad2 (fun e=>dF h2 (by have:=e.2.1;omega)) _ hV.kp))
   have h2:2≤w0.length:=by have:=dT h2;omega
   refine callF_ans (ans97 ⟨t.toArray⟩ 32) ?_
   have hct:decide (0≤Lib.indexByte (ByteArray.data ⟨t.toArray⟩).toList 32)=decide ((32:UInt8)∈t):=decide_eq_decide.2 (contains32 t)
   rw[hct,un_not]
   refine Want_c (fun h3=>?_) (fun h3=>bad2 (fun e=>by simp at h3;exact e.1 h3) _ hV.kp)
   have h3:(32:UInt8)∉t:=by simpa using h3
   refine⟨rfl,slcT (by omega) ?_⟩
   refine callF_ans (numT (by rw[List.length_drop];omega)) ?_
   rw[bin_geq]
   refine Want_c (fun h4=>?_) (fun h4=>bad2 (fun e=>dF h4 e.2.2) _ hV.kp)
   have h4:0≤numR (w0.drop 1):=dT h4
   rw[if_pos ⟨h3,h2,h4⟩]at hnm
   generalize hx:(Na.mk ((w0.getD 0 0).toNat:Int) (numR (w0.drop 1)) ⟨t.toArray⟩)=x at hnm
   have hr:=rows_addN (c.setN pre) x
   have hrow:x.row = [.v (.int .u8 (w0.getD 0 0).toNat),aI (numR (w0.drop 1)),aT t]:=by rw[←hx];rfl
   rw[hrow]at hr
   refine⟨_,fun U hU=>by rw[nilChk_p];exact⟨rfl,rfl⟩,?_⟩
   refine L_shift ?_
   refine L_shift ?_
   refine⟨z 6,fun U hU=>W ((hV.keep hU).ldz (j:=6) (by decide)) ⟨rfl,rfl⟩,?_⟩
   refine⟨_,fun U hU=>by rw[ixStrT (by omega)];exact⟨rfl,rfl⟩,?_⟩
   refine⟨_,fun U hU=>⟨[.v (.int .u8 (w0.getD 0 0).toNat),aI (numR (w0.drop 1)),aT t],rfl,rfl,rfl⟩,?_⟩
   refine⟨_,fun U hU=>bslP3 rfl ⟨rfl,rfl⟩,?_⟩
   refine hV.app (j:=6) (by decide) rfl (c:=[.v (.int .u8 (w0.getD 0 0).toNat),aI (numR (w0.drop 1)),aT t]) rfl (by simp[Ci.rowsOf,Ci.setN];omega) rfl fun x' V2 hx' nV2 hV2 fV2=>?_
   refine⟨_,fun U hU=>by rw[nilChk_p];exact⟨rfl,rfl⟩,?_⟩
   refine L_shift ?_
   refine L_shift ?_
   refine hV2.st (i:=11+6) (tkC_sz hV.len (by decide)) (by decide) hx' hV.len fun V3 nV3 fV3 hV3=>?_
   refine hKE V3 ⟨pre ++ [x],b,by simp;omega,Tk.of hV3 rfl hr,?_⟩ ?_
   ·rw[hq,hstep,hnm]
    simp[Option.map_map,Function.comp_def]
   ·rw[hU.left,hV3.left];omega
 ·have he:l' = []:=by simpa using he
  subst he
  exact h1 pre (by rw[hq];simp[namesP]) [] U ⟨z,hU⟩
theorem Lix{e n id:Nat}{ns:List Int}(o:T.obj id=some (.cells e (ns.map fun x=>[aI x]) true))(hid:id<T.n){j:Nat}(hj:j<n)(hn:ns.length=n){P:AV→Prop}(k:P (aI (ns.getD j 0))):
    ∃ q1,(∀ U,Keep T U→ixS e 1 (.s id 0 n) (aI j) U fun v S=>v=q1∧S=U)∧∃ q3,(∀ U,Keep T U→ld1 q1 U fun v S=>v=q3∧S=U)∧P q3:=by
 have hg:(ns.map fun x=>[aI x])[j]? = some [aI (ns.getD j 0)]:=by
  rw[List.getElem?_map,List.getElem?_eq_getElem (by omega),List.getD_eq_getElem?_getD,List.getElem?_eq_getElem (by omega)]
  rfl
 refine⟨.p id j 0,fun U hU=>by rw[ixS_s hj ((hU.2 id hid).trans o),Nat.zero_add];exact⟨rfl,rfl⟩,aI (ns.getD j 0),fun U hU=>by rw[ld1_p ((hU.2 id hid).trans o) hg rfl];exact⟨rfl,rfl⟩,k⟩
theorem ix0{e n id:Nat}{ns:List Int}(o:T.obj id=some (.cells e (ns.map fun x=>[aI x]) true)){j:Nat}(hj:j<n)(hn:ns.length=n){K:AV→Store→Prop}:(ixS e 1 (.s id 0 n) (aI j) T fun v S=>ld1 v S K)=K (aI (ns.getD j 0)) T:=by
 have hg:(ns.map fun x=>[aI x])[j]? = some [aI (ns.getD j 0)]:=by
  rw[List.getElem?_map,List.getElem?_eq_getElem (by omega),List.getD_eq_getElem?_getD,List.getElem?_eq_getElem (by omega)]
  rfl
 rw[ixS_s hj o,Nat.zero_add,ld1_p o hg rfl]
theorem Tk.parse(h:Tk S0 T l (List.replicate 9 0) cE)(hl:l.length≤1000000){Q:AEnd→Store→Prop}{K:AV→Store→Prop}
    (h1:∀ M b cc,headP [97,97,103] l=some (M,b)→bodyP M b=some cc→∀ b' T',Tk S0 T' b' M cc→K (.t []) T')
    (h20:headP [97,97,103] l=none→∀ T',Keep S0 T'→Q (wr 20) T')
    (h21:∀ M b,headP [97,97,103] l=some (M,b)→bodyP M b=none→∀ T',Keep S0 T'→Q (wr 21) T'):callF Pg 51 [.p S0.n 0 0] T Q K:=by
 refine .inl (calls51 ?_)
 unfold m51
 refine h.head hl (word:=[97,97,103]) (fun M l1 hh U1 nU1 hU1=>?_) h20
 replace h1:=h1 M l1
 replace h21:=h21 M l1 hh
 have hM0:=headP_ok hh
 have hl1:l1.length≤1000000:=by omega
 have hM:∀ j,0≤M.getD j 0∧M.getD j 0≤2000:=fun j=>by
  rw[List.getD_eq_getElem?_getD]
  cases hg:M[j]? with
  |none=>exact⟨by decide,by decide⟩
  |some v=>exact hM0.2.2.1 v (List.mem_of_getElem? hg)
 have hmi:∀ j,aI (M.getD j 0)=aI ((mAt M j:Nat):Int):=fun j=>by
  have:=hM j
  congr 1
  show _=(((M.getD j 0).toNat:Nat):Int)
  omega
 have hmN:∀ j,mAt M j≤2000:=fun j=>by
  have:=hM j
  show(M.getD j 0).toNat≤2000
  omega
 have hm1:=hM 1
 have hm2:=hM 2
 obtain⟨z1,hZ1⟩:=hU1
 rw[nilChk_p,shift_p,Nat.zero_add]
 refine W (ixA_pj (z:=1) (by decide)) ?_
 rw[hZ1.ldm (j:=1) (by decide),hmi]
 have hbody:bodyP M l1=(inputsP (mAt M 1) 0 l1).bind fun l1=>(latchesP (2*(M.getD 1 0+1)) (mAt M 2) 0 l1).bind fun la=>(colsP M la.2).bind fun co =>
  (andsP (2*(M.getD 1 0+M.getD 2 0+1)) (mAt M 4) 0 co.2).bind fun an=>(namesP an.2.length an.2).map fun na =>
   ⟨M.getD 1 0,la.1,an.1,co.1.1,co.1.2.1,co.1.2.2.1,co.1.2.2.2,na⟩:=rfl
 generalize hn1:mAt M 1=N1 at hbody
 have hN1:N1≤2000:=by rw[←hn1];exact hmN 1
 refine loop51_0 (fun y V=>∃(i:Nat) (l2:Bs),y=aI i∧i≤N1∧l2.length≤l1.length∧Tk S0 V l2 M (cE.inp (M.getD 1 0))∧inputsP N1 0 l1=inputsP (N1 - i) i l2) (fun y _=>N1 - ((intA y).getD 0).toNat)
  ⟨0,l1,rfl,Nat.zero_le _,Nat.le_refl _,⟨z1,hZ1⟩,rfl⟩ ?_
 rintro _ V ⟨i,l2,rfl,hi,hl2,⟨zv,hV⟩,hq⟩ KE hKE
 unfold b51_0
 rw[bin_lss,onB_v]
 refine gd_of (fun hlt=>?_) (fun hge=>?_)
 ·have hlt:i<N1:=by have:=dT hlt;omega
  have e5:N1 - i=(N1 - (i+1))+1:=by omega
  rw[e5,inputsP]at hq
  refine hV.nums (least:=1) (most:=1) (by omega) (by decide) (fun ns b hns V1 id nV1 hV1 o1 hid1 hid2 fV1=>?_) (fun hn V' hV'=>h21 (by rw[hbody,hq,hn];rfl) V' hV')
  have hns1:=numbersP_ok hns
  rw[hns]at hq
  have hq:inputsP N1 0 l1=if ns.getD 0 0=2*((i:Int)+1)then inputsP (N1 - (i+1)) (i+1) b else none:=hq
  refine W (ix0 o1 (j:=0) (by decide) hns1.1) ?_
  rw[bin_add (by omega) (by omega),bin_mul (by omega) (by omega),bin_eql]
  refine Want_c (fun hw=>?_) (fun hw=>h21 (by rw[hbody,hq,if_neg (dF hw)];rfl) _ hV1.kp)
  rw[bin_add (by omega) (by omega)]
  rw[if_pos (dT hw)]at hq
  exact hKE _ _ ⟨i+1,b,rfl,hlt,by have:=hns1.2.1;omega,⟨zv,hV1⟩,hq⟩ (by simp[intA];omega)
 have hge:i=N1:=by have:=dF hge;omega
 subst hge
 rw[Nat.sub_self,inputsP]at hq
 rw[hq,Option.bind_some]at hbody
 refine callF_at (hV.lats hM) ?_
 rw[extr0,extr1,hmi]
 generalize hn2:mAt M 2=N2 at hbody
 have hN2:N2≤2000:=by rw[←hn2];exact hmN 2
 refine loop51_1 (fun y V=>∃(i:Nat) (pre:List (Int × Int)) (l3:Bs),y=aI i∧i≤N2∧pre.length=i∧l3.length≤l1.length∧Tk S0 V l3 M ⟨M.getD 1 0,pre,[],[],[],[],[],[]⟩∧latchesP (2*(M.getD 1 0+1)) N2 0 l2=(latchesP (2*(M.getD 1 0+1)) (N2 - i) i l3).map fun p=>(pre++p.1,p.2)) (fun y _=>N2 - ((intA y).getD 0).toNat)
  ⟨0,[],l2,rfl,Nat.zero_le _,rfl,hl2,⟨zv,hV⟩,by simp⟩ ?_
 rintro _ V ⟨i,pre,l3,rfl,hi,hpre,hl3,⟨zv,hV⟩,hq⟩ KE hKE
 unfold b51_1
 rw[bin_lss,onB_v]
 refine gd_of (fun hlt=>?_) (fun hge=>?_)
 ·have hlt:i<N2:=by have:=dT hlt;omega
  have e5:N2 - i=(N2 - (i+1))+1:=by omega
  rw[e5,latchesP]at hq
  refine hV.nums (least:=2) (most:=3) (by omega) (by decide) (fun ns b hns V1 id nV1 hV1 o1 hid1 hid2 fV1=>?_) (fun hn V' hV'=>h21 (by rw[hbody,hq,hn];rfl) V' hV')
  have hns1:=numbersP_ok hns
  rw[hns]at hq
  refine W (ix0 o1 (j:=0) (by decide) hns1.1) ?_
  rw[bin_mul (by omega) (by omega),bin_add (by omega) (by omega),bin_eql]
  simp only at hq
  refine Want_c (fun hw=>?_) (fun hw=>h21 (by rw[hbody,hq,if_neg (dF hw)];rfl) _ hV1.kp)
  rw[if_pos (dT hw)]at hq
  refine Lix o1 hid2 (j:=0) (by decide) hns1.1 ?_
  refine Lix o1 hid2 (j:=1) (by decide) hns1.1 ?_
  refine Lix o1 hid2 (j:=2) (by decide) hns1.1 ?_
  refine Tk.latch (c:=⟨M.getD 1 0,pre,[],[],[],[],[],[]⟩) ⟨zv,hV1⟩ (by show pre.length≤_;omega) (fun k hk V2 nV2 hV2=>?_) (fun hk=>h21 (by rw[hbody,hq,hk];rfl) _ hV1.kp)
  rw[hk]at hq
  rw[bin_add (by omega) (by omega)]
  refine hKE _ _ ⟨i+1,pre ++ [(ns.getD 1 0,k)],b,rfl,hlt,by simp[hpre],by have:=hns1.2.1;omega,hV2,?_⟩ (by simp[intA];omega)
  rw[hq]
  simp[Option.map_map,Function.comp_def]
 have hge:i=N2:=by have:=dF hge;omega
 subst hge
 rw[Nat.sub_self,latchesP]at hq
 rw[hq,Option.map_some,Option.bind_some]at hbody
 simp only[List.append_nil,colsP_N]at hbody
 refine Tk.columns (c:=⟨M.getD 1 0,pre,[],[],[],[],[],[]⟩) ⟨zv,hV⟩ (by omega) hM rfl (fun L l4 hcl V2 hV2=>?_) (fun hn V' hV'=>h21 (by rw[hbody,hn];rfl) V' hV')
 rw[hcl,Option.map_some,Option.bind_some]at hbody
 have hcok:=colsP_ok (M:=M) (l:=l3) (q:=(tup L,l4)) (by rw[colsP_N,hcl];rfl)
 have hl4:l4.length≤l1.length:=by have:=hcok.1;simp only at this;omega
 obtain⟨z4,hZ4⟩:=hV2
 refine callF_at (hZ4.gates hM) ?_
 rw[extr0,extr1,hmi]
 simp only at hbody
 generalize hn4:mAt M 4=N4 at hbody
 have hN4:N4≤2000:=by rw[←hn4];exact hmN 4
 refine loop51_2 (fun y V=>∃(i:Nat) (ga:List (Int × Int)) (l5:Bs),y=aI i∧i≤N4∧ga.length=i∧l5.length≤l1.length∧Tk S0 V l5 M ⟨M.getD 1 0,pre,ga,L.getD 0 [],L.getD 1 [],L.getD 2 [],L.getD 3 [],[]⟩∧andsP (2*(M.getD 1 0+M.getD 2 0+1)) N4 0 l4=(andsP (2*(M.getD 1 0+M.getD 2 0+1)) (N4 - i) i l5).map fun p=>(ga++p.1,p.2)) (fun y _=>N4 - ((intA y).getD 0).toNat)
  ⟨0,[],l4,rfl,Nat.zero_le _,rfl,hl4,⟨z4,hZ4⟩,by simp⟩ ?_
 rintro _ V ⟨i,ga,l5,rfl,hi,hga,hl5,⟨zv,hV⟩,hq⟩ KE hKE
 unfold b51_2
 rw[bin_lss,onB_v]
 refine gd_of (fun hlt=>?_) (fun hge=>?_)
 ·have hlt:i<N4:=by have:=dT hlt;omega
  have e5:N4 - i=(N4 - (i+1))+1:=by omega
  rw[e5,andsP]at hq
  refine hV.nums (least:=3) (most:=3) (by omega) (by decide) (fun ns b hns V1 id nV1 hV1 o1 hid1 hid2 fV1=>?_) (fun hn V' hV'=>h21 (by rw[hbody,hq,hn];rfl) V' hV')
  have hns1:=numbersP_ok hns
  rw[hns]at hq
  refine W (ix0 o1 (j:=0) (by decide) hns1.1) ?_
  rw[bin_mul (by omega) (by omega),bin_add (by omega) (by omega),bin_eql]
  simp only at hq
  refine Want_c (fun hw=>?_) (fun hw=>h21 (by rw[hbody,hq,if_neg (dF hw)];rfl) _ hV1.kp)
  rw[if_pos (dT hw)]at hq
  refine⟨_,fun U hU=>by rw[nilChk_p];exact⟨rfl,rfl⟩,?_⟩
  refine L_shift ?_
  refine L_shift ?_
  refine⟨zv 1,fun U hU=>W ((hV1.keep hU).ldz (j:=1) (by decide)) ⟨rfl,rfl⟩,?_⟩
  refine Lix o1 hid2 (j:=1) (by decide) hns1.1 ?_
  refine Lix o1 hid2 (j:=2) (by decide) hns1.1 ?_
  refine⟨_,fun U hU=>⟨[aI (ns.getD 1 0),aI (ns.getD 2 0)],rfl,rfl,rfl⟩,?_⟩
  refine⟨_,fun U hU=>bslA2 rfl ⟨rfl,rfl⟩,?_⟩
  refine hV1.app (j:=1) (by decide) rfl (c:=[aI (ns.getD 1 0),aI (ns.getD 2 0)]) rfl (by simp[Ci.rowsOf];omega) rfl fun x' V2 hx' nV2 hV2 fV2=>?_
  refine⟨_,fun U hU=>by rw[nilChk_p];exact⟨rfl,rfl⟩,?_⟩
  refine L_shift ?_
  refine L_shift ?_
  refine hV2.st (i:=11+1) (tkC_sz hV1.len (by decide)) (by decide) hx' hV1.len fun V3 nV3 fV3 hV3=>?_
  rw[bin_add (by omega) (by omega)]
  refine hKE _ _ ⟨i+1,ga ++ [(ns.getD 1 0,ns.getD 2 0)],b,rfl,hlt,by simp[hga],by have:=hns1.2.1;omega,Tk.of hV3 rfl (rows_addA ⟨M.getD 1 0,pre,ga,L.getD 0 [],L.getD 1 [],L.getD 2 [],L.getD 3 [],[]⟩ _),?_⟩ (by simp[intA];omega)
  rw[hq]
  simp[Option.map_map,Function.comp_def]
 have hge:i=N4:=by have:=dF hge;omega
 subst hge
 rw[Nat.sub_self,andsP]at hq
 rw[hq,Option.map_some,Option.bind_some]at hbody
 simp only[List.append_nil]at hbody
 refine Tk.names (c:=⟨M.getD 1 0,pre,ga,L.getD 0 [],L.getD 1 [],L.getD 2 [],L.getD 3 [],[]⟩) ⟨zv,hV⟩ (by omega) rfl (fun ns hns b' V3 hV3=>?_) (fun hn V' hV'=>h21 (by rw[hbody,hn];rfl) V' hV')
 rw[hns,Option.map_some]at hbody
 exact h1 _ hh hbody b' V3 hV3
end
def opsTk:Array Oper:=match Tryz.f91.body with|some (.seq (.region _ ops _) _)=>ops|_=>#[]
def cTk:Code:=match Tryz.f91.body with|some (.seq (.region _ _ _) c)=>c|_=>.skip
def oTk : Oper := (opsTk.toList.head?).getD { dst := none, op := .move (.tmp 0), type := 0, pos := "", after := #[], guard := none }
def restTk:List Oper:=opsTk.toList.tail
def mTk(x0 x1 u5:AV)(S:Store)(K:Store→Prop):Prop:=
 tasN 121 (.a [.v (.int .i64 0)]) u5 S fun v1 S=>extr v1 0 S fun v2 S=>extr v1 1 S fun v3 S=>boxN 121 1 (.a [.v (.int .i64 0)]) S fun v4 S=>stN 1 v4 v2 S fun v5 S=>onB v3 fun b6=>gd b6 (∃ q7:AV,(∀ T:Store,Keep S T→bld [(0,1),(1,1),(2,1),(3,1),(4,1),(5,1),(6,1),(7,1)] [.v (.int .i64 0),.nl,.nl,.nl,.nl,.nl,.nl,.nl] [] T fun v8 S=>v8=q7∧S=T)∧∃ q9:AV,(∀ T:Store,Keep S T→shift v4 0 T fun v10 S=>v10=q9∧S=T)∧∃ q11:AV,(∀ T:Store,Keep S T→ld1 q9 T fun v12 S=>v12=q11∧S=T)∧stN 8 x0 q7 S fun v13 S=>(∀ T:Store,Keep S T→ld1 q9 T fun v14 S=>v14=q11∧S=T)∧(∀ T:Store,Keep S T→shift v4 0 T fun v15 S=>v15=q9∧S=T)∧stN 1 x1 q11 S fun v16 S=>K S) (K S)
set_option maxRecDepth 100000 in
theorem mTk_eq:(fun(x0 x1 u5:AV) (S:Store) (Kq:Bool→Store→Prop) (b:Bool)=>vcOps Pg opsTk restTk (fun _=>false) (setD (ofArgs 13 [x0,x1]) oTk.dst u5) S (fun env' S'=>vc Pg cTk [] env' S' (bodyR Pg Tryz.f91.results.toList b Kq)) (fun _ _ _=>False))=(fun(x0 x1 u5:AV) (S:Store) (Kq:Bool→Store→Prop) (b:Bool)=>mTk x0 x1 u5 S (Kq b)):=by kernel_rfl
set_option maxRecDepth 100000 in
theorem recTk{x0 x1:AV}{S:Store}{u:Option AV}{Kq:Bool→Store→Prop}(h:mTk x0 x1 (u.getD (.v .nilIface)) S (Kq u.isSome)):ARec Pg 91 [x0,x1] S u Kq:=
 rec_of_vc (fn:=Tryz.f91) (id:=0) (ops:=opsTk) (o:=oTk) (rest:=restTk) (c:=cTk) (n:=13) Tryz.func91 (by kernel_rfl) (by kernel_rfl) (by kernel_rfl) (by kernel_rfl) (by kernel_rfl) [] ((congrFun (congrFun (congrFun (congrFun (congrFun (congrFun mTk_eq x0) x1) (u.getD (.v .nilIface))) S) Kq) u.isSome).mpr h)
def c50:Code:=(Tryz.f50.body).getD .skip
def r50:List ResultVar:=Tryz.f50.results.toList
def finTk (v4 v5:AV) (Q:AEnd→Store→Prop) (u:Option AV) (S:Store):Prop:=leavesU Pg r50 Q (setD (setD (ofArgs 28 []) (some 4) v4) (some 5) v5) [(91,[v4,v5])] u S
def m50 (x0 x1:AV) (S:Store) (Q:AEnd→Store→Prop):Prop:=
 boxN 29 8 (.a [.v (.int .i64 0),.nl,.nl,.nl,.nl,.nl,.nl,.nl]) S fun v1 S=>boxN 30 1 (.v (.int .i64 0)) S fun v2 S=>lenStr x0 S fun v3 S=>bin .gtr 0 v3 (.v (.int .i64 20000)) S fun v4 S=>onB v4 fun b5=>gd b5 (ldN 8 v1 S fun v6 S=>stN 8 v1 v6 S fun v7 S=>stN 1 v2 (.v (.int .i64 2)) S fun v8 S=>ldN 8 v1 S fun v9 _=>ld1 v2 S fun v10 _=>Q (.ret (.t [v9,v10])) S) (bld [(0,1),(1,9),(10,8)] [.v (.string ByteArray.empty),.v (.int .i64 0),.v (.int .i64 0),.v (.int .i64 0),.v (.int .i64 0),.v (.int .i64 0),.v (.int .i64 0),.v (.int .i64 0),.v (.int .i64 0),.v (.int .i64 0),.v (.int .i64 0),.nl,.nl,.nl,.nl,.nl,.nl,.nl] [(0,x0)] S fun v11 S=>boxN 81 18 v11 S fun v12 S=>callV Pg x1 [v12] S (fun v14 S=>nilChk v12 S fun v15 S=>shift v15 10 S fun v16 S=>ldN 8 v16 S fun v17 S=>callV Pg (.f (.func 33) [] []) [v17] S (fun v18 S=>callV Pg (.f (.func 92) [] []) [v18,.v (.int .i64 22)] S (fun v19 S=>nilChk v12 S fun v20 S=>shift v20 10 S fun v21 S=>ldN 8 v21 S fun v22 S=>stN 8 v1 v22 S fun v23 S=>stN 1 v2 (.v (.int .i64 0)) S fun v24 S=>finTk v1 v2 Q none S) (fun u S=>finTk v1 v2 Q (some u) S)) (fun u S=>finTk v1 v2 Q (some u) S)) (fun u S=>finTk v1 v2 Q (some u) S))
set_option maxRecDepth 100000 in
theorem m50_eq:(fun(x0 x1:AV) (S:Store) (Q:AEnd→Store→Prop)=>vcT Pg c50 [] (ofArgs 28 [x0,x1]) S [] (bodyU Pg r50 Q))=(fun(x0 x1:AV) (S:Store) (Q:AEnd→Store→Prop)=>m50 x0 x1 S Q):=by kernel_rfl
set_option maxRecDepth 100000 in
theorem calls50{x0 x1:AV}{S:Store}{Q:AEnd→Store→Prop}(h:m50 x0 x1 S Q):ACalls Pg 50 [x0,x1] S Q:=
 calls_of_vcU (fn:=Tryz.f50) (c:=c50) (n:=28) Tryz.func50 (by kernel_rfl) (by kernel_rfl) (by kernel_rfl) [] ((congrFun (congrFun (congrFun (congrFun m50_eq x0) x1) S) Q).mpr h)
theorem leavesU_cons{P:Program}{rs:List ResultVar}{Q:AEnd→Store→Prop}{env:Env}{f:FuncId}{xs:List AV}{ds:List Off}{u:Option AV}{S:Store}(h:ARec P f xs S u (fun b S'=>leavesU P rs Q env ds (nxU b u) S')):leavesU P rs Q env ((f,xs) :: ds) u S:=by
 cases u<;>exact h
set_option maxRecDepth 100000 in
theorem lvTk:(fun(v4 v5:AV) (Q:AEnd→Store→Prop) (S':Store)=>leavesU Pg r50 Q (setD (setD (ofArgs 28 []) (some 4) v4) (some 5) v5) [] none S')=(fun(v4 v5:AV) (Q:AEnd→Store→Prop) (S':Store)=>ldN 8 v4 S' fun a _=>ld1 v5 S' fun e _=>Q (.ret (.t [a,e])) S'):=by kernel_rfl
theorem finTk_none{v4 v5:AV}{Q:AEnd→Store→Prop}{S:Store}(h:mTk v4 v5 (.v .nilIface) S fun S'=>ldN 8 v4 S' fun a _=>ld1 v5 S' fun e _=>Q (.ret (.t [a,e])) S'):finTk v4 v5 Q none S:=by
 rw[←congrFun (congrFun (congrFun lvTk v4) v5) Q]at h
 exact leavesU_cons (recTk (u:=none) h)
theorem finTk_some{v4 v5 x:AV}{Q:AEnd→Store→Prop}{S:Store}(h:mTk v4 v5 x S fun S'=>ldN 8 v4 S' fun a _=>ld1 v5 S' fun e _=>Q (.ret (.t [a,e])) S'):finTk v4 v5 Q (some x) S:=by
 rw[←congrFun (congrFun (congrFun lvTk v4) v5) Q]at h
 exact leavesU_cons (recTk (u:=some x) h)
theorem tasN_i{t:TypeId}{z y:AV}{S:Store}{K:AV→Store→Prop}:tasN t z (.i t y) S K=K (.t [y,aB true]) S:=by
 simp[tasN]
theorem tasN_nil{t:TypeId}{z:AV}{S:Store}{K:AV→Store→Prop}:tasN t z (.v .nilIface) S K=K (.t [z,aB false]) S:=rfl
theorem ldN_j{id t j n:Nat}{cs:List AV}{l:Bool}{S:Store}{K:AV→Store→Prop}(h:S.obj id=some (.cells t [cs] l))(hj:j+n≤cs.length):ldN n (.p id 0 j) S K=K (.a ((cs.drop j).take n)) S:=by
 simp[ldN,rdN,place,Store.get,h,hj]
def RowsF(S:Store)(z:Nat→AV)(r:Nat→List (List AV)):Prop:=∀ j,j<7→(z j = .nl∧r j = [])∨∃ id e,z j = .s id 0 (r j).length∧S.obj id=some (.cells e (r j) false)
theorem Rows.frz{S:Store}{n:Nat}{z:Nat→AV}{r:Nat→List (List AV)}(h:Rows S n z r):RowsF (S.frz (newer n)) z r:=fun j hj=>by
 rcases h.own j (by omega)with h|⟨id,h1,h2,h3,h4⟩
 ·exact .inl h
 ·refine .inr ⟨id,tkT j,h1,?_⟩
  rw[frz_of h4]
  simp[newer,h2]
theorem RowsF.cv{S:Store}{z:Nat→AV}{r:Nat→List (List AV)}(h:RowsF S z r){j:Nat}(hj:j<7)(ht:∀ x∈r j,∀ u∈x,Tree u){D:Nat→Bool}{m:Nat}:Cv (S.frz D) m (z j) (.l (r j)):=by
 rcases h j hj with⟨h1,h2⟩|⟨id,e,h1,h2⟩
 ·rw[h1,h2];exact .nl
 ·rw[h1]
  refine .s id 0 _ e (r j) (r j) (by rw[frz_of h2];rfl) (by simp) rfl (fun i c c2 h3 h4=>?_) (fun i c c2 k u u2 h3 h4 h5 h6=>?_)
  ·rw[Nat.zero_add]at h3;rw[h3]at h4;cases h4;rfl
  ·rw[Nat.zero_add]at h3;rw[h3]at h4;cases h4;rw[h5]at h6;cases h6
   exact ht _ (List.mem_of_getElem? h3) _ (List.mem_of_getElem? h5) _ _
theorem rowsOf_tree(c:Ci)(j:Nat):∀ x∈c.rowsOf j,∀ u∈x,Tree u:=by
 intro x hx u hu
 match j with
 |0=>obtain⟨p,_,rfl⟩:=List.mem_map.1 hx;simp at hu;rcases hu with rfl|rfl<;>exact Tree.v _
 |1=>obtain⟨p,_,rfl⟩:=List.mem_map.1 hx;simp at hu;rcases hu with rfl|rfl<;>exact Tree.v _
 |2=>obtain⟨p,_,rfl⟩:=List.mem_map.1 hx;simp at hu;subst hu;exact Tree.v _
 |3=>obtain⟨p,_,rfl⟩:=List.mem_map.1 hx;simp at hu;subst hu;exact Tree.v _
 |4=>obtain⟨p,_,rfl⟩:=List.mem_map.1 hx;simp at hu;subst hu;exact Tree.v _
 |5=>obtain⟨p,_,rfl⟩:=List.mem_map.1 hx;simp at hu;subst hu;exact Tree.v _
 |6=>obtain⟨p,_,rfl⟩:=List.mem_map.1 hx;simp[Na.row]at hu;rcases hu with rfl|rfl|rfl<;>exact Tree.v _
 |j+7=>cases hx
def cells8(inp:Int)(z:Nat→AV):List AV:=[aI inp,z 0,z 1,z 2,z 3,z 4,z 5,z 6]
theorem tkC_drop{l:Bs}{M:List Int}{inp:Int}{z:Nat→AV}(h:M.length=9):((tkC l M inp z).drop 10).take 8=cells8 inp z:=by
 obtain⟨a,b,c,d,e,f,g,i,k,rfl⟩:=nine h
 rfl
theorem RowsF.cva{S:Store}{z:Nat→AV}{c:Ci}(h:RowsF S z c.rowsOf){D:Nat→Bool}{m:Nat}:Cv (S.frz D) m (.a (cells8 c.inputs z)) c.av:=by
 refine .a (cells8 c.inputs z) c.cells rfl fun k u u2 h1 h2=>?_
 have hz:∀ j,j<7→Cv (S.frz D) m (z j) (.l (c.rowsOf j)):=fun j hj=>h.cv hj (rowsOf_tree c j)
 match k with
 |0=>cases h1;cases h2;exact .v _
 |1=>cases h1;cases h2;exact hz 0 (by decide)
 |2=>cases h1;cases h2;exact hz 1 (by decide)
 |3=>cases h1;cases h2;exact hz 2 (by decide)
 |4=>cases h1;cases h2;exact hz 3 (by decide)
 |5=>cases h1;cases h2;exact hz 4 (by decide)
 |6=>cases h1;cases h2;exact hz 5 (by decide)
 |7=>cases h1;cases h2;exact hz 6 (by decide)
 |k+8=>cases h1
def zero8:List AV:=[aI 0,.nl,.nl,.nl,.nl,.nl,.nl,.nl]
theorem cv_zero8{S:Store}{m:Nat}:Cv S m (.a zero8) cE.av:=by
 refine .a zero8 cE.cells rfl fun k u u2 h1 h2=>?_
 match k with
 |0=>cases h1;cases h2;exact .v _
 |1=>cases h1;cases h2;exact .nl
 |2=>cases h1;cases h2;exact .nl
 |3=>cases h1;cases h2;exact .nl
 |4=>cases h1;cases h2;exact .nl
 |5=>cases h1;cases h2;exact .nl
 |6=>cases h1;cases h2;exact .nl
 |7=>cases h1;cases h2;exact .nl
 |k+8=>cases h1
def outP (o:Except Int Ci):Ci × Int:=match o with
 |.error e=>(cE,e)
 |.ok c=>if c.right=true then(c,0)else(cE,22)
def retC(p:Ci × Int):AV:=.t [p.1.av,aI p.2]
def Takes(f:FuncId)(s:Bs)(o:Except Int Ci):Prop:=∀(S0 T:Store) (Q:AEnd→Store→Prop) (K:AV→Store→Prop),Tk S0 T s (List.replicate 9 0) cE→(∀ cc,o = .ok cc→∀ M b T',Tk S0 T' b M cc→K (.t []) T')→(∀ e,o = .error e→∀ T',Keep S0 T'→Q (wr e) T')→callF Pg f [.p S0.n 0 0] T Q K
theorem callV_F{f:FuncId}{args:List AV}{S:Store}{K X:AV→Store→Prop}(h:callF Pg f args S (fun e S=>match e with|.ret _=>True|.pan x=>X x S) K):callV Pg (.f (.func f) [] []) args S K X:=by
 show ACallX _ _ ([]++args ++ []) _ _
 rw[List.nil_append,List.append_nil]
 exact h
theorem ans50{f:FuncId}{s:Bs}{o:Except Int Ci}(hf:s.length≤20000→Takes f s o)(hok:s.length≤20000→∀ c,o = .ok c→c.ok):Ans Pg 50 [aT s,.f (.func f) [] []] (retC (if 20000<s.length then(cE,2)else outP o)):=by
 intro S
 refine ACalls.tree (calls50 ?_)
 unfold m50
 refine boxA_of (cs:=zero8) rfl fun S1 k1 n1 o1=>?_
 refine box1_of rfl fun S2 k2 n2 o2=>?_
 have o1':=(k2.2 _ (by omega)).trans o1
 have hlw:∀{S:Store} {K:AV→Store→Prop},lenStr (aT s) S K=K (aI s.length) S:=fun{S K}=>by
  refine(lenStr_b (S:=S) (K:=K) ⟨s.toArray⟩).trans ?_
  simp[ByteArray.size]
 have hn1:S1.n=S.n+1:=n1
 have hn2:S2.n=S1.n+1:=n2
 have k12:Keep S S2:=k1.trans k2
 rw[hlw,bin_gtr,onB_v]
 refine gd_of (fun hl=>?_) (fun hl=>?_)
 ·have hl:20000<s.length:=by have:(20000:Int)<s.length:=dT hl
                             omega
  rw[if_pos hl,ldN_p (n:=8) o1' rfl]
  refine stA_of (cs':=zero8) o1' rfl rfl fun S3 n3 o3 f3=>?_
  have o2':=(f3 _ (by omega:S1.n≠S.n)).trans o2
  refine stF_of o2' (by simp) rfl fun S4 n4 o4 f4=>?_
  rw[ldN_p (n:=8) ((f4 _ (by omega)).trans o3) rfl,ld1_p o4 rfl rfl]
  refine⟨_,rfl,⟨by omega,fun j hj=>by rw[f4 j (by omega),f3 j (by omega),k12.2 j hj]⟩,?_⟩
  exact .t _ _ rfl (cvT2 cv_zero8 (.v _))
 have hl:¬ 20000<s.length:=by have:¬ (20000:Int)<s.length:=dF hl
                              omega
 rw[if_neg hl]
 refine⟨tkC s (List.replicate 9 0) 0 (fun _=>.nl),rfl,?_⟩
 refine boxA_of (cs:=tkC s (List.replicate 9 0) 0 (fun _=>.nl)) rfl fun S3 k3 n3 o3=>?_
 have X:∀(e:Int) (T:Store),outP o=(cE,e)→Keep S2 T→finTk (.p S.n 0 0) (.p S1.n 0 0) (fun e S'=>∃ r,e = .ret r∧Keep S S'∧Cv (S'.frz (newer S.n)) S.n r (retC (outP o))) (some (.i 121 (.a [aI e]))) T:=by
  intro e T he hT
  refine finTk_some ?_
  unfold mTk
  rw[tasN_i,extr0,extr1]
  have t1:=(hT.2 _ (by omega)).trans o1'
  have t2:=(hT.2 _ (by omega)).trans o2
  have tn:=hT.1
  refine boxA_of (cs:=[aI 0]) rfl fun T1 e1 m1 p1=>?_
  refine stA_of (cs':=[aI e]) p1 rfl rfl fun T2 m2 p2 g2=>?_
  rw[onB_v,gd_true]
  have kT2:Keep T T2:=e1.st (Nat.le_refl _) m2 g2
  have hTn:T.n<T2.n:=by omega
  refine⟨.a zero8,fun U hU=>⟨zero8,rfl,rfl,rfl⟩,?_⟩
  refine L_shift ?_
  refine L_ldp (u:=aI e) p2 hTn rfl rfl ?_
  refine stA_of (cs':=zero8) ((kT2.2 _ (by omega)).trans t1) rfl rfl fun T3 m3 p3 g3=>?_
  have p2':=(g3 _ (by omega:T.n≠S.n)).trans p2
  refine⟨fun U hU=>by rw[Nat.zero_add,ld1_p ((hU.2 _ (by omega)).trans p2') rfl rfl];exact⟨rfl,rfl⟩,?_⟩
  refine⟨fun U hU=>by rw[shift_p];exact⟨rfl,rfl⟩,?_⟩
  refine stF_of (((g3 _ (by omega:S1.n≠S.n)).trans (kT2.2 _ (by omega))).trans t2) (by simp) rfl fun T4 m4 p4 g4=>?_
  show ldN 8 _ T4 _
  rw[ldN_p (n:=8) ((g4 _ (by omega)).trans p3) rfl,ld1_p p4 rfl rfl]
  refine⟨_,rfl,⟨by omega,fun j hj=>by rw[g4 j (by omega),g3 j (by omega),kT2.2 j (by omega),hT.2 j (by omega),k12.2 j hj]⟩,?_⟩
  rw[he]
  exact .t _ _ rfl (cvT2 cv_zero8 (.v _))
 have hTk:Tk S2 S3 s (List.replicate 9 0) cE:=⟨fun _=>.nl,⟨rfl,k3,by omega,o3,⟨fun j hj=>.inl ⟨rfl,by
  match j,hj with
  |0,_=>rfl
  |1,_=>rfl
  |2,_=>rfl
  |3,_=>rfl
  |4,_=>rfl
  |5,_=>rfl
  |6,_=>rfl
  |7,_=>rfl⟩,fun i j _ _ _ a b m b' m' e=>by cases e⟩⟩⟩
 refine callV_F (hf (by omega) S2 S3 _ _ hTk (fun cc hcc M b T hT=>?_) (fun e he T hT=>X e T (by rw[he];rfl) hT))
 obtain⟨z,hz⟩:=hT
 rw[nilChk_p,shift_p,ldN_j hz.ob (by rw[tkC_len hz.len];decide),Nat.zero_add,tkC_drop hz.len]
 refine callV_F ?_
 have hrf:=hz.rows.frz
 refine callF_frz (newer (S2.n+1)) (args:=[.a (cells8 cc.inputs z)]) (args2:=[cc.av]) rfl (cv_1 ?_) (ans33 (hok (by omega) cc hcc)) ?_
 ·have:=hrf.cva (D:=fun _=>false) (m:=T.n)
  rw[frz_none]at this
  exact this
 have hout:outP o=if cc.right=true then(cc,0)else(cE,22):=by rw[hcc];rfl
 have hkf:Keep S2 (T.frz (newer (S2.n+1))):=⟨hz.kp.1,fun j hj=>by rw[frz_false (by simp[newer];omega)];exact hz.kp.2 j hj⟩
 have hobf:(T.frz (newer (S2.n+1))).obj S2.n=some (.cells 81 [tkC b M cc.inputs z] true):=by rw[frz_false (by simp[newer])];exact hz.ob
 have hltf:S2.n<(T.frz (newer (S2.n+1))).n:=hz.lt
 have hnF:(T.frz (newer (S2.n+1))).n=T.n:=rfl
 generalize T.frz (newer (S2.n+1))=F at hrf hkf hobf hltf hnF
 refine callV_F (want_c (fun hr=>?_) (fun hr=>X 22 F (by rw[hout,if_neg (by rw[hr];decide)]) hkf))
 rw[if_pos hr]at hout
 rw[nilChk_p,shift_p,ldN_j hobf (by rw[tkC_len hz.len];decide),Nat.zero_add,tkC_drop hz.len]
 have f1:=(hkf.2 _ (by omega)).trans o1'
 have f2:=(hkf.2 _ (by omega)).trans o2
 have fn:=hkf.1
 refine stA_of (cs':=cells8 cc.inputs z) f1 rfl rfl fun T3 m3 p3 g3=>?_
 refine stF_of ((g3 _ (by omega:S1.n≠S.n)).trans f2) (by simp) rfl fun T4 m4 p4 g4=>?_
 refine finTk_none ?_
 unfold mTk
 rw[tasN_nil,extr0,extr1]
 refine boxA_of (cs:=[aI 0]) rfl fun T5 e5 m5 p5=>?_
 refine stA_of (cs':=[aI 0]) p5 rfl rfl fun T6 m6 p6 g6=>?_
 rw[onB_v,gd_false]
 have k6:Keep T4 T6:=e5.st (Nat.le_refl _) m6 g6
 show ldN 8 _ T6 _
 rw[ldN_p (n:=8) ((k6.2 _ (by omega)).trans ((g4 _ (by omega)).trans p3)) rfl,ld1_p ((k6.2 _ (by omega)).trans p4) rfl rfl]
 refine⟨_,rfl,⟨by have:=k6.1;omega,fun j hj=>by rw[k6.2 j (by omega),g4 j (by omega),g3 j (by omega),hkf.2 j (by omega),k12.2 j hj]⟩,?_⟩
 rw[hout]
 refine .t _ _ rfl (cvT2 ?_ (.v _))
 refine RowsF.cva (S:=T6) (fun j hj=>?_)
 rcases hrf j hj with h|⟨id,e,h1,h2⟩
 ·exact .inl h
 ·refine .inr ⟨id,e,h1,?_⟩
  have hlive:∀{i:Nat} {t:TypeId} {es:List (List AV)},F.obj i=some (.cells t es true)→id≠i:=fun{i t es} hi e=>by rw[e,hi]at h2;cases h2
  have i1:=hlive f1
  have i2:=hlive f2
  have hidF:id<T4.n:=by
   rcases hz.rows.own j (by omega)with⟨e1,_⟩|⟨id',e1,_,e3,_⟩
   ·rw[e1]at h1;cases h1
   ·rw[e1]at h1;cases h1;omega
  rw[k6.2 _ hidF,g4 _ i2,g3 _ i1]
  exact h2
def oP (s:Bs):Except Int Ci:=match headP [97,97,103] s with
 |none=>.error 20
 |some (M,r)=>match bodyP M r with
  |none=>.error 21
  |some c=>.ok c
theorem parseP_o(s:Bs):parseP s=if 20000<s.length then(cE,2)else outP (oP s):=by
 unfold parseP oP
 split
 ·rfl
 ·cases headP [97,97,103] s with
  |none=>rfl
  |some p =>
   obtain⟨M,r⟩:=p
   simp only
   cases bodyP M r<;>rfl
theorem oP_ok{s:Bs}(hs:s.length≤1000000):∀ c,oP s = .ok c→c.ok∧c.items≤s.length:=by
 intro c h
 unfold oP at h
 cases hh:headP [97,97,103] s with
 |none=>rw[hh]at h;cases h
 |some p =>
  obtain⟨M,r⟩:=p
  rw[hh]at h
  simp only at h
  have hM:=headP_ok hh
  cases hb:bodyP M r with
  |none=>rw[hb]at h;cases h
  |some c' =>
   rw[hb]at h
   cases h
   have:=bodyP_ok hM.2.2.1 (l:=r) (by omega) hb
   exact⟨this.1,by have:=this.2;omega⟩
theorem takes_aag{s:Bs}(hs:s.length≤20000):Takes 51 s (oP s):=by
 intro S0 T Q K h h1 h0
 refine h.parse (by omega) (fun M b cc hh hb b' T' hT'=>h1 cc (by unfold oP;rw[hh];simp only;rw[hb]) M b' T' hT') (fun hh T' hT'=>h0 20 (by unfold oP;rw[hh]) T' hT') (fun M b hh hb T' hT'=>h0 21 (by unfold oP;rw[hh];simp only;rw[hb]) T' hT')
theorem cvAv(c:Ci){S:Store}{m:Nat}:Cv S m c.av c.av:=(Tree.a (cs:=c.cells) fun u hu=>by
 simp only[Ci.cells,List.mem_cons,List.not_mem_nil,or_false]at hu
 rcases hu with rfl|rfl|rfl|rfl|rfl|rfl|rfl|rfl
 ·exact Tree.v _
 ·exact treeP _
 ·exact treeP _
 ·exact treeI _
 ·exact treeI _
 ·exact treeI _
 ·exact treeI _
 ·exact treeN _) S m
theorem ans24(s:Bs):Ans Pg 24 [aT s] (retC (parseP s)):=by
 intro S
 refine ACalls.tree (calls24 ?_)
 unfold m24
 refine boxA_of rfl fun S1 k1 n1 o1=>?_
 refine callF_ans (ans50 (fun h=>takes_aag h) (o:=oP s) (fun h c hc=>(oP_ok (by omega) c hc).1)) ?_
 rw[←parseP_o]
 have e0:∀{S:Store} {K:AV→Store→Prop},extr (retC (parseP s)) 0 S K=K (parseP s).1.av S:=fun{S K}=>ext_t rfl
 have e1:∀{S:Store} {K:AV→Store→Prop},extr (retC (parseP s)) 1 S K=K (aI (parseP s).2) S:=fun{S K}=>ext_t rfl
 rw[e0,e1]
 refine stA_of (cs':=(parseP s).1.cells) o1 rfl rfl fun S2 n2 o2 f2=>?_
 rw[ldN_p (n:=8) o2 rfl]
 exact⟨_,rfl,k1.st (Nat.le_refl _) n2 f2,.t _ _ rfl (cvT2 (cvAv _) (.v _))⟩
theorem bin_mulW{a b:Int}(kd:Nat){S:Store}{K:AV→Store→Prop}:bin .mul kd (aI a) (aI b) S K=K (aI (IntKind.i64.wrap (a*b))) S:=by
 simp[bin,b2,isSh,cmpI,ariI]
theorem bin_subW{a b:Int}(kd:Nat){S:Store}{K:AV→Store→Prop}:bin .sub kd (aI a) (aI b) S K=K (aI (IntKind.i64.wrap (a - b))) S:=by
 simp[bin,b2,isSh,cmpI,ariI]
theorem numLong{s:ByteArray}(hs:6<s.size)(h2:s.size≤1000000):Ans Pg 102 [.v (.string s)] (aI (-1)):=by
 intro S
 refine calls102 ?_
 unfold m102
 refine loop102_0 (fun y3 y4 S'=>S'=S∧∃(i:Nat) (k:Int),y3=aI k∧y4=aI i∧i≤s.size)
  (fun _ y _=>s.size - ((intA y).getD 0).toNat) ⟨rfl,0,0,rfl,rfl,Nat.zero_le _⟩ ?_
 rintro _ _ _ ⟨rfl,i,k,rfl,rfl,hi⟩ KE hKE
 unfold b102_0
 rw[lenStr_b,bin_lss,onB_v]
 refine gd_of (fun h=>?_) (fun h=>?_)
 ·have h:i<s.size:=by simpa using h
  rw[ixStr_b h,bin_lss,onB_v]
  refine gd_of (fun h1=>⟨rfl,rfl⟩) (fun h1=>?_)
  have h1:=dF h1
  rw[ixStr_b h,bin_gtr,onB_v]
  refine gd_of (fun h2=>⟨rfl,rfl⟩) (fun h2=>?_)
  have h2:=dF h2
  rw[bin_mulW,ixStr_b h,convI_64 _ (by omega) (by omega),bin_addW,bin_subW,bin_add (by omega) (by omega)]
  exact hKE _ _ _ ⟨rfl,i+1,_,rfl,rfl,h⟩ (by simp[intA];omega)
 ·have hge:i=s.size:=by have:=dF h;omega
  rw[lenStr_b,bin_lss,onB_v]
  refine gd_of (fun h1=>⟨rfl,rfl⟩) (fun h1=>?_)
  rw[lenStr_b,bin_gtr,onB_v]
  refine gd_of (fun h6=>⟨rfl,rfl⟩) (fun h6=>absurd (dF h6) (by omega))
theorem numRT{l:Bs}(hl:l.length≤1000000):Ans Pg 102 [aT l] (aI (numR l)):=by
 by_cases h:l.length≤6
 ·exact ans102 (s:=⟨l.toArray⟩) (by simp[ByteArray.size];omega)
 ·rw[numR_long (by omega)]
  exact numLong (s:=⟨l.toArray⟩) (by simp[ByteArray.size];omega) (by simp[ByteArray.size];omega)
theorem extT{w:Bs}{a b:Nat}:(ByteArray.extract ⟨w.toArray⟩ a b)=⟨((w.drop a).take (b - a)).toArray⟩:=by
 apply ByteArray.ext
 apply Array.ext'
 rw[ByteArray.data_extract,Array.toList_extract]
theorem slcTT{w:Bs}{a b:Nat}(hab:a≤b)(hb:b≤w.length){S:Store}{K:AV→Store→Prop}(k:K (aT ((w.drop a).take (b - a))) S):slcStr (aT w) (some (aI a)) (some (aI b)) S K:=by
 refine⟨a,rfl,b,rfl,⟨by omega,by omega,by simp[ByteArray.size];omega⟩,?_⟩
 rw[Int.toNat_natCast,Int.toNat_natCast,extT]
 exact k
theorem slcT0{w:Bs}{b:Nat}(hb:b≤w.length){S:Store}{K:AV→Store→Prop}(k:K (aT (w.take b)) S):slcStr (aT w) none (some (aI b)) S K:=by
 refine⟨0,rfl,b,rfl,⟨by omega,by omega,by simp[ByteArray.size];omega⟩,?_⟩
 rw[Int.toNat_natCast,extT]
 exact k
theorem slcTe{w:Bs}{a:Nat}(ha:a≤w.length){S:Store}{K:AV→Store→Prop}(k:K (aT (w.drop a)) S):slcStr (aT w) (some (aI a)) none S K:=by
 refine⟨a,rfl,w.length,by simp[bnd,ByteArray.size],⟨by omega,by omega,by simp[ByteArray.size]⟩,?_⟩
 rw[Int.toNat_natCast,Int.toNat_natCast,extT,List.take_of_length_le (by simp)]
 exact k
theorem lenT{w:Bs}{S:Store}{K:AV→Store→Prop}:lenStr (aT w) S K=K (aI w.length) S:=by
 refine(lenStr_b (S:=S) (K:=K) ⟨w.toArray⟩).trans ?_
 simp[ByteArray.size]
theorem ixT{w:Bs}{i:Nat}(h:i<w.length){S:Store}{K:AV→Store→Prop}:ixStr (aT w) (aI i) S K=K (.v (.int .u8 (w[i]).toNat)) S:=by
 have e:=ixStr_b (b:=⟨w.toArray⟩) (i:=i) (S:=S) (K:=K) (by simpa[ByteArray.size]using h)
 exact e
theorem take_cut{w:Bs}{a i:Nat}(hai:a≤i)(hi:i<w.length):w.drop a=(w.drop a).take (i - a)++w[i] :: w.drop (i+1):=by
 conv=>lhs;rw[←List.take_append_drop (i - a) (w.drop a)]
 rw[List.drop_drop]
 have e:a+(i - a)=i:=by omega
 rw[e,List.drop_eq_getElem_cons hi]
theorem take_one{w:Bs}{a i:Nat}(hai:a≤i)(hi:i<w.length):(w.drop a).take (i+1 - a)=(w.drop a).take (i - a) ++ [w[i]]:=by
 have e:i+1 - a=(i - a)+1:=by omega
 rw[e,List.take_add_one,List.getElem?_drop]
 have e2:a+(i - a)=i:=by omega
 rw[e2,List.getElem?_eq_getElem hi]
 rfl
theorem ans100{s:Bs}(hs:s.length≤1000000):Ans Pg 100 [aT s] (aL aT (wordsL s)):=by
 refine ACalls.ans_own (f:=fun l:Bs=>Value.string ⟨l.toArray⟩) (e:=9) fun S=>?_
 refine calls100 ?_
 unfold m100
 have hw1:=wordsL_len s
 refine loop100_0 (fun y z x T=>∃(a i:Nat) (ws:List Bs),z=aI a∧x=aI i∧i≤s.length+1∧ws.length≤i∧Keep S T∧Own S.n T y 9 (ws.map fun w=>[aT w])∧((i=s.length+1∧ws=wordsL s)∨(a≤i∧i≤s.length∧wordsL s=ws++wordsL (s.drop a)∧(32:UInt8)∉(s.drop a).take (i - a)))) (fun _ _ x _=>s.length+1 - ((intA x).getD 0).toNat)
  ⟨0,0,[],rfl,rfl,by omega,Nat.le_refl _,Keep.refl _,.nl _ _ _,.inr ⟨Nat.le_refl _,Nat.zero_le _,rfl,by simp⟩⟩ ?_
 rintro y _ _ T ⟨a,i,ws,rfl,rfl,hi,hwi,kT,ho,hor⟩ KE hKE
 unfold b100_0
 rw[lenT,bin_leq,onB_v]
 refine gd_of (fun hle=>?_) (fun hgt=>?_)
 ·have hle:i≤s.length:=by have:=dT hle;omega
  obtain⟨hai,_,hws,h32⟩:a≤i∧i≤s.length∧wordsL s=ws++wordsL (s.drop a)∧(32:UInt8)∉(s.drop a).take (i - a):=by
   rcases hor with⟨e,_⟩|h
   ·omega
   ·exact h
  have put:((i+1=s.length+1∧ws ++ [(s.drop a).take (i - a)]=wordsL s)∨(i+1≤s.length∧wordsL s=(ws ++ [(s.drop a).take (i - a)])++wordsL (s.drop (i+1))))→
      bslN 9 1 1 [.v (.string ByteArray.empty)] [(0,aT ((s.drop a).take (i - a)))] T fun v8 T=>appS 9 1 16 y v8 T fun v9 T=>bin .add 0 (aI i) (.v (.int .i64 1)) T fun v10 T=>bin .add 0 (aI i) (.v (.int .i64 1)) T fun v11 T=>KE 32 (env100_0 (aT s) v9 v10 v11) T:=fun hc=>by
   refine bsl1 rfl (fun _ h=>by cases h) ?_
   refine ho.app kT.1 (c:=[aT ((s.drop a).take (i - a))]) rfl (by simp;omega) (fun x' T' w' b' _=>?_) rfl
   rw[bin_add (by omega) (by omega),bin_add (by omega) (by omega)]
   refine hKE _ _ _ _ ⟨i+1,i+1,ws ++ [(s.drop a).take (i - a)],rfl,rfl,by omega,by simp;omega,ho.keep (Nat.le_refl _) b' kT,by rw[List.map_append];exact w',?_⟩ (by simp[intA];omega)
   rcases hc with hc|⟨h1,h2⟩
   ·exact .inl hc
   ·exact .inr ⟨Nat.le_refl _,h1,h2,by simp⟩
  rw[lenT,bin_eql,onB_v]
  refine gd_of (fun he=>?_) (fun hne=>?_)
  ·have he:i=s.length:=by have:=dT he;omega
   refine⟨rfl,slcTT hai hle ?_⟩
   have hfull:(s.drop a).take (i - a)=s.drop a:=List.take_of_length_le (by rw[List.length_drop];omega)
   exact put (.inl ⟨by omega,by rw[hws,hfull];rw[hfull]at h32;rw[wordsL_one h32]⟩)
  ·have hlt:i<s.length:=by have:=dF hne;omega
   rw[ixT hlt,bin_eql,onB_v]
   refine gd_of (fun he=>?_) (fun hne=>?_)
   ·have he:s[i]=32:=by
      have h:=dT he
      apply UInt8.toNat_inj.1
      show(s[i]).toNat=32
      omega
    refine⟨rfl,slcTT hai hle ?_⟩
    refine put (.inr ⟨hlt,?_⟩)
    have hc:=take_cut hai hlt
    rw[he]at hc
    rw[hws]
    conv=>lhs;rw[hc]
    rw[wordsL_app _ h32]
    simp
   ·rw[bin_add (by omega) (by omega)]
    refine hKE _ _ _ _ ⟨a,i+1,ws,rfl,rfl,by omega,by omega,kT,ho,.inr ⟨by omega,hlt,hws,?_⟩⟩ (by simp[intA];omega)
    rw[take_one hai hlt]
    intro hm
    rcases List.mem_append.1 hm with hm|hm
    ·exact h32 hm
    ·have h:=dF hne
     rw[List.mem_singleton]at hm
     exact h (by rw[←hm];rfl)
 ·have hi:i=s.length+1:=by have:=dF hgt;omega
  rcases hor with⟨_,rfl⟩|⟨_,h,_⟩
  ·exact⟨y,rfl,kT,ho⟩
  ·omega
def rkC(l:Bs)(bad:Bool)(inp:Int)(y:Nat→AV):List AV:=[aT l,aB bad,y 7,aI inp,y 0,y 1,y 2,y 3,y 4,y 5,y 6]
def rkI(j:Nat):Nat:=if j=7 then 2 else 4+j
structure RkZ (S0 T:Store) (l:Bs) (bad:Bool) (inp:Int) (r:Nat→List (List AV)) (y z:Nat→AV):Prop where
 kp:Keep S0 T
 lt:S0.n<T.n
 ob:T.obj S0.n=some (.cells 100 [rkC l bad inp y] true)
 rows:Rows T (S0.n+1) z r
def rowsM(M:List Int)(c:Ci)(j:Nat):List (List AV):=if j=7 then M.map fun x=>[aI x]else c.rowsOf j
def Rk(S0 T:Store)(l:Bs)(bad:Bool)(M:List Int)(c:Ci):Prop:=∃ z,RkZ S0 T l bad c.inputs (rowsM M c) z z
section
variable {S0 T:Store} {l l':Bs} {bad:Bool} {M:List Int} {inp:Int} {r:Nat→List (List AV)} {y z:Nat→AV} {c:Ci}
theorem rkC_z{j:Nat}(hj:j<8):(rkC l bad inp y)[rkI j]? = some (y j):=by
 match j,hj with
 |0,_=>rfl
 |1,_=>rfl
 |2,_=>rfl
 |3,_=>rfl
 |4,_=>rfl
 |5,_=>rfl
 |6,_=>rfl
 |7,_=>rfl
theorem rkC_sz{j:Nat}(hj:j<8){x:AV}:(rkC l bad inp y).set (rkI j) x=rkC l bad inp (updZ y j x):=by
 match j,hj with
 |0,_=>rfl
 |1,_=>rfl
 |2,_=>rfl
 |3,_=>rfl
 |4,_=>rfl
 |5,_=>rfl
 |6,_=>rfl
 |7,_=>rfl
theorem RkZ.keep(h:RkZ S0 T l bad inp r y z){T':Store}(k:Keep T T'):RkZ S0 T' l bad inp r y z:=
 ⟨h.kp.trans k,Nat.lt_of_lt_of_le h.lt k.1,(k.2 _ h.lt).trans h.ob,h.rows.keep k⟩
theorem RkZ.st(h:RkZ S0 T l bad inp r y z){bad':Bool}{inp':Int}{y':Nat→AV}{i:Nat}{u:AV}(hc:(rkC l bad inp y).set i u=rkC l' bad' inp' y')(hi:i<11)(hu:u.one=true){K:AV→Store→Prop}
    (k:∀ T',T'.n=T.n→(∀ x,x≠S0.n→T'.obj x=T.obj x)→RkZ S0 T' l' bad' inp' r y' z→K .j T'):stN 1 (.p S0.n 0 i) u T K:=by
 refine stF_of h.ob (by simpa[rkC]using hi) hu fun T' n' o' f'=>k T' n' f' ⟨?_,by rw[n'];exact h.lt,by rw[o',hc],⟨fun j hj=>?_,h.rows.dis⟩⟩
 ·exact⟨by rw[n'];exact h.kp.1,fun j hj=>by rw[f' j (by omega)];exact h.kp.2 j hj⟩
 ·exact(h.rows.own j hj).st (fun b m e=>by have:=((h.rows.own j hj).lt e).1;omega) n' f'
theorem RkZ.setBad(h:RkZ S0 T l bad inp r y z){K:AV→Store→Prop}(k:∀ T',T'.n=T.n→(∀ x,x≠S0.n→T'.obj x=T.obj x)→RkZ S0 T' l true inp r y z→K .j T'):stN 1 (.p S0.n 0 1) (.v (.bool true)) T K:=
 h.st rfl (by decide) rfl k
theorem Rows.appT{S:Store}{n:Nat}{z:Nat→AV}{r:Nat→List (List AV)}(h:Rows S n z r)(hn:n≤S.n){j:Nat}(hj:j<8){e sz b:Nat}(he:tkT j=e){c:List AV}(hc:c.length=sz)(hb:((r j).length+1)*b≤140737488355328){x:AV}(hx:srcE S x=some [c]){K:AV→Store→Prop}
    (k:∀ x' S',x'.one=true→S.n≤S'.n→Rows S' n (updZ z j x') (updZ r j (r j ++ [c]))→(∀ i,i<S.n→(∀ b m,z j≠.s i b m)→S'.obj i=S.obj i)→K x' S'):appS e sz b (z j) x S K:=by
 subst he
 refine(h.own j hj).app hn hc hb (fun x' T' w' b' hx'=>?_) hx
 obtain⟨m,rfl⟩:=hx'
 refine k _ T' rfl b'.1 ⟨fun i hi=>?_,?_⟩ b'.2
 ·unfold updZ
  split
  ·rename_i hij
   subst hij
   exact w'
  ·rename_i hij
   exact(h.own i hi).but b' fun a b m b' m' e e'=>h.dis i j hi hj hij a _ _ b m e' e
 ·intro i k hi hk hne a b m b' m' e e'
  unfold updZ at e e'
  split at e
  ·split at e'
   ·omega
   ·cases e
    have:=((h.own k hk).lt e').2
    omega
  ·split at e'
   ·cases e'
    have:=((h.own i hi).lt e).2
    omega
   ·exact h.dis i k hi hk hne a b m b' m' e e'
theorem RkZ.app(h:RkZ S0 T l bad inp r y z){j:Nat}(hj:j<8){e sz b:Nat}(he:tkT j=e){c:List AV}(hc:c.length=sz)(hb:((r j).length+1)*b≤140737488355328){x:AV}(hx:srcE T x=some [c]){K:AV→Store→Prop}
    (k:∀ x' T',x'.one=true→T.n≤T'.n→RkZ S0 T' l bad inp (updZ r j (r j ++ [c])) y (updZ z j x')→(∀ x,x<T.n→(∀ b m,z j≠.s x b m)→T'.obj x=T.obj x)→K x' T'):appS e sz b (z j) x T K:=by
 refine h.rows.appT h.lt hj he hc hb hx fun x' T' hx' n' hr hf=>k x' T' hx' n' ⟨⟨Nat.le_trans h.kp.1 n',fun i hi=>?_⟩,Nat.lt_of_lt_of_le h.lt n',?_,hr⟩ hf
 ·rw[hf i (by have:=h.kp.1;omega) (fun b m e=>by have:=((h.rows.own j hj).lt e).1;omega)]
  exact h.kp.2 i hi
 ·rw[hf _ h.lt (fun b m e=>by have:=((h.rows.own j hj).lt e).1;omega)]
  exact h.ob
theorem RkZ.ldz(h:RkZ S0 T l bad inp r y z){j:Nat}(hj:j<8){K:AV→Store→Prop}:ld1 (.p S0.n 0 (rkI j)) T K=K (y j) T:=ld1_p h.ob rfl (rkC_z hj)
theorem RkZ.ldb(h:RkZ S0 T l bad inp r y z){K:AV→Store→Prop}:ld1 (.p S0.n 0 1) T K=K (aB bad) T:=ld1_p h.ob rfl rfl
theorem RkZ.ldl(h:RkZ S0 T l bad inp r y z){K:AV→Store→Prop}:ld1 (.p S0.n 0 0) T K=K (aT l) T:=ld1_p h.ob rfl rfl
theorem Rk.of{z:Nat→AV}(h:RkZ S0 T l bad inp r z z)(hi:c.inputs=inp)(hr:rowsM M c=r):Rk S0 T l bad M c:=by
 subst hi
 subst hr
 exact⟨z,h⟩
theorem RkZ.mAt(h:RkZ S0 T l bad inp r z z)(hr:r 7=M.map fun x=>[aI x]){j:Nat}(hj:j<M.length){K:AV→Store→Prop}:(nilChk (.p S0.n 0 0) T fun v S=>shift v 2 S fun v S=>ld1 v S fun v S=>ixS 3 1 v (aI j) S fun v S=>ld1 v S K)=K (aI (M.getD j 0)) T:=by
 have ho:=h.rows.own 7 (by decide)
 rw[hr]at ho
 obtain⟨id,e1,_,e3,e4⟩:=ho.ix (i:=j) (by simpa using hj)
 rw[nilChk_p,shift_p]
 refine(h.ldz (j:=7) (by decide)).trans ?_
 rw[e1]
 rw[List.length_map]at *
 exact ix0 e4 hj rfl
theorem RkZ.line(h:RkZ S0 T l false inp r z z)(hl:l.length≤1000000){Q:AEnd→Store→Prop}{K:AV→Store→Prop}
    (h1:∀ a b,cutC 10 l=some (a,b)→∀ T',T.n≤T'.n→RkZ S0 T' b false inp r z z→(∀ x,x≠S0.n→T'.obj x=T.obj x)→K (aT a) T')
    (h0:cutC 10 l=none→∀ T',T.n≤T'.n→RkZ S0 T' l true inp r z z→(∀ x,x≠S0.n→T'.obj x=T.obj x)→K (aT []) T'):callF Pg 101 [.p S0.n 0 0] T Q K:=by
 refine .inl (calls101 ?_)
 unfold m101
 refine loop101_0 (fun y U=>U=T∧∃ i:Nat,y=aI i∧i≤l.length∧(10:UInt8)∉l.take i) (fun y _=>l.length - ((intA y).getD 0).toNat) ⟨rfl,0,rfl,Nat.zero_le _,by simp⟩ ?_
 rintro _ _ ⟨rfl,i,rfl,hi,h10⟩ KE hKE
 unfold b101_0
 rw[nilChk_p,shift_p,h.ldl,lenT,bin_lss,onB_v]
 refine gd_of (fun hlt=>?_) (fun hge=>?_)
 ·have hlt:i<l.length:=by have:=dT hlt;omega
  rw[nilChk_p,shift_p,h.ldl,ixT hlt,bin_eql,onB_v]
  refine gd_of (fun he=>?_) (fun hne=>?_)
  ·have he:l[i]=10:=by
     have h:=dT he
     apply UInt8.toNat_inj.1
     show(l[i]).toNat=10
     omega
   have hc:=take_cut (w:=l) (a:=0) (Nat.zero_le i) hlt
   rw[he,List.drop_zero,Nat.sub_zero]at hc
   have hcut:cutC 10 l=some (l.take i,l.drop (i+1)):=by
    conv=>lhs;rw[hc]
    exact cutC_app _ h10
   rw[nilChk_p,shift_p,h.ldl]
   refine⟨rfl,slcT0 (Nat.le_of_lt hlt) ?_⟩
   rw[nilChk_p,shift_p,h.ldl,bin_add (by omega) (by omega)]
   refine⟨rfl,slcTe (a:=i+1) (by omega) ?_⟩
   rw[nilChk_p,shift_p]
   exact h.st (l':=l.drop (i+1)) rfl (by decide) rfl fun T' n' f' h'=>h1 _ _ hcut T' (by omega) h' f'
  ·rw[bin_add (by omega) (by omega)]
   refine hKE _ _ ⟨rfl,i+1,rfl,hlt,?_⟩ (by simp[intA];omega)
   have:=take_one (w:=l) (a:=0) (Nat.zero_le i) hlt
   rw[List.drop_zero,Nat.sub_zero,Nat.sub_zero]at this
   rw[this]
   intro hm
   rcases List.mem_append.1 hm with hm|hm
   ·exact h10 hm
   ·rw[List.mem_singleton]at hm
    exact dF hne (by rw[←hm];rfl)
 ·have hge:i=l.length:=by have:=dF hge;omega
  subst hge
  rw[List.take_length]at h10
  rw[nilChk_p,shift_p]
  exact h.setBad fun T' n' f' h'=>h0 (cutC_none h10) T' (by omega) h' f'
end
def lenA(y:AV):Nat:=match y with|.s _ _ n=>n|_=>0
section
variable {S0 T:Store} {l l':Bs} {bad:Bool} {M:List Int} {inp:Int} {r:Nat→List (List AV)} {y z:Nat→AV} {c:Ci}
theorem RkZ.nums(h:RkZ S0 T l false inp r z z)(hl:l.length≤1000000){least most:Nat}(hm:most≤3){Q:AEnd→Store→Prop}{K:AV→Store→Prop}
    (h1:∀ ns b,numbersP least most l=some (ns,b)→∀ T' id,T.n≤T'.n→RkZ S0 T' b false inp r z z→T'.obj id=some (.cells 3 (ns.map fun x=>[aI x]) true)→T.n≤id→id<T'.n→(∀ x,x≠S0.n→x<T.n→T'.obj x=T.obj x)→K (.s id 0 ns.length) T')
    (h0:numbersP least most l=none→∀(ns:List Int) (b:Bs) T' id,most≤ns.length→(∀ x∈ns,-1≤x∧x≤999999)→b.length≤l.length→T.n≤T'.n→RkZ S0 T' b true inp r z z→T'.obj id=some (.cells 3 (ns.map fun x=>[aI x]) true)→T.n≤id→id<T'.n→(∀ x,x≠S0.n→x<T.n→T'.obj x=T.obj x)→K (.s id 0 ns.length) T')
    (hmost:1≤most):callF Pg 69 [.p S0.n 0 0,aI least,aI most] T Q K:=by
 refine .inl (calls69 ?_)
 unfold m69
 have go:∀(a b:Bs) (bad0:Bool) (T1:Store),a.length≤1000000→b.length≤l.length→T.n≤T1.n→RkZ S0 T1 b bad0 inp r z z→(∀ x,x≠S0.n→T1.obj x=T.obj x)→
     (bad0=false→numbersP least most l=if least≤(wordsL a).length∧(wordsL a).length≤most∧(wordsL a).all (fun x=>decide (0≤numR x))=true then some ((wordsL a).map numR++List.replicate (most - (wordsL a).length) 0,b)else none)→(bad0=true→numbersP least most l=none)→
     callF Pg 100 [aT a] T1 (fun e S'=>match e with|.ret r=>K r S'|.pan x=>Q (.pan x) S') fun v2 S=>loopV lv69_0 (vc Pg (c69.at_ [1,1,1,0,1,0,0]) (ms69.drop 1)) 55 (env69_0 (.p S0.n 0 0) (aI least) (aI most) v2 .nl (.v (.int .i64 0))) S (blockK 0 (seqK (vc Pg (c69.at_ [1,1,1,1]) (ms69.drop 1)) (bodyK Pg r69 (fun e S'=>match e with|.ret r=>K r S'|.pan x=>Q (.pan x) S')))):=by
  intro a b bad0 T1 ha hbl n1 k1 f1 hP hPb
  refine callF_ans (ans100 ha) ?_
  have hw:∀ w∈wordsL a,w.length≤1000000:=fun w hw=>by have:=(wordsL_mem hw).2.1;omega
  have hwl:=wordsL_len a
  generalize wordsL a=ws at hw hwl hP
  refine loop69_0 (fun y x U=>∃(i:Nat),x=aI i∧i≤ws.length∧U.n≥T1.n∧RkZ S0 U b (bad0 || !(ws.take i).all fun x=>decide (0≤numR x)) inp r z z∧Own T1.n U y 3 (((ws.take i).map numR).map fun x=>[aI x])∧(∀ x,x≠S0.n→x<T1.n→U.obj x=T1.obj x)) (fun _ x _=>ws.length - ((intA x).getD 0).toNat)
   ⟨0,rfl,Nat.zero_le _,Nat.le_refl _,by simpa using k1,.nl _ _ _,fun _ _ _=>rfl⟩ ?_
  rintro y _ U ⟨i,rfl,hi,nU,kU,ho,fU⟩ KE hKE
  unfold b69_0
  rw[lenS_aL,bin_lss,onB_v]
  refine gd_of (fun hlt=>?_) (fun hge=>?_)
  ·have hlt:i<ws.length:=by have:=dT hlt;omega
   have hall:((ws.take (i+1)).all fun x=>decide (0≤numR x))=(((ws.take i).all fun x=>decide (0≤numR x)) && decide (0≤numR ws[i])):=by
    rw[List.take_add_one,List.getElem?_eq_getElem hlt,List.all_append]
    simp
   rw[ixS_aL hlt,ld1_q]
   refine callF_ans (numRT (hw _ (List.getElem_mem hlt))) ?_
   have put:∀(U2:Store) (bad2:Bool),U2.n=U.n→(∀ x,x≠S0.n→U2.obj x=U.obj x)→bad2=(bad0 || !(ws.take (i+1)).all fun x=>decide (0≤numR x))→RkZ S0 U2 b bad2 inp r z z→
       bslN 3 1 1 [.v (.int .i64 0)] [(0,aI (numR ws[i]))] U2 fun v14 S=>appS 3 1 8 y v14 S fun v15 S=>bin .add 0 (aI i) (.v (.int .i64 1)) S fun v16 S=>KE 55 (env69_0 (.p S0.n 0 0) (aI least) (aI most) (aL aT ws) v15 v16) S:=by
    intro U2 bad2 n2 f2 hb2 k2
    refine bslI1 ?_
    have ho2:Own T1.n U2 y 3 (((ws.take i).map numR).map fun x=>[aI x]):=ho.st (fun b m e=>by have:=(ho.lt e).1;have:=k1.lt;omega) n2 f2
    refine ho2.app (by omega) (c:=[aI (numR ws[i])]) rfl (by simp;omega) (fun x' U3 w3 b3 _=>?_) rfl
    rw[bin_add (by omega) (by omega)]
    have hk1:=k1.lt
    have k3:RkZ S0 U3 b bad2 inp r z z:=⟨⟨Nat.le_trans k2.kp.1 b3.1,fun x hx=>by rw[b3.2 x (by have:=k2.kp.1;omega) (fun b m e=>by have:=(ho2.lt e).1;have:=k1.kp.1;omega)];exact k2.kp.2 x hx⟩,Nat.lt_of_lt_of_le k2.lt b3.1,(b3.2 _ k2.lt (fun b m e=>by have:=(ho2.lt e).1;omega)).trans k2.ob,⟨fun j hj=>(k2.rows.own j hj).but b3 fun q b m b' m' e e'=>by
     have h1:=(ho2.lt e).1
     have h2:=((k1.rows.own j hj).lt e').2
     omega,k2.rows.dis⟩⟩
    refine hKE _ _ _ ⟨i+1,rfl,hlt,by have:=b3.1;omega,by rw[←hb2];exact k3,by rw[map_take1 hlt,List.map_append];exact w3,fun x hx hx2=>?_⟩ (by simp[intA];omega)
    rw[b3.2 x (by omega) (fun b m e=>by have:=(ho2.lt e).1;omega),f2 x hx,fU x hx hx2]
   rw[bin_lss,onB_v]
   refine gd_of (fun hn=>?_) (fun hn=>?_)
   ·rw[nilChk_p,shift_p]
    refine kU.setBad fun U2 n2 f2 k2=>put U2 true n2 f2 ?_ k2
    have hn:=dT hn
    rw[hall,decide_eq_false (by omega)]
    simp
   ·refine put U _ rfl (fun _ _=>rfl) ?_ kU
    have hn:=dF hn
    rw[hall,decide_eq_true (by omega),Bool.and_true]
  ·have hge:i=ws.length:=by have:=dF hge;omega
   subst hge
   rw[List.take_length]at kU ho
   have hrng:∀ x∈ws.map numR,-1≤x∧x≤999999:=fun x hx=>by
    obtain⟨w,_,rfl⟩:=List.mem_map.1 hx
    exact numR_rng w
   have pad:∀(V:Store) (bad2:Bool),V.n=U.n→(∀ x,x≠S0.n→V.obj x=U.obj x)→RkZ S0 V b bad2 inp r z z→(bad2=false→numbersP least most l=some (ws.map numR++List.replicate (most - ws.length) 0,b))→(bad2=true→numbersP least most l=none)→
       loopV lv69_1 (vc Pg (c69.at_ [1,1,1,1,1,0,0,0]) (ms69.drop 2)) 55 (env69_1 (aI most) y) V (blockK 2 (seqK (vc Pg (c69.at_ [1,1,1,1,1,1]) (ms69.drop 2)) (bodyK Pg r69 (fun e S'=>match e with|.ret r=>K r S'|.pan x=>Q (.pan x) S')))):=by
    intro V bad2 nV fV kV hg hb
    have hoV:Own T1.n V y 3 ((ws.map numR).map fun x=>[aI x]):=ho.st (fun b m e=>by have:=(ho.lt e).1;have:=k1.lt;omega) nV fV
    refine loop69_1 (fun y W=>∃ k:Nat,(k=0∨ws.length+k≤most)∧V.n≤W.n∧RkZ S0 W b bad2 inp r z z∧Own T1.n W y 3 ((ws.map numR++List.replicate k 0).map fun x=>[aI x])∧(∀ x,x≠S0.n→x<T1.n→W.obj x=V.obj x)) (fun y _=>most - lenA y)
     ⟨0,.inl rfl,Nat.le_refl _,kV,by simpa using hoV,fun _ _ _=>rfl⟩ ?_
    rintro y W ⟨k,hk,nW,kW,hoW,fW⟩ KE1 hKE1
    unfold b69_1
    rw[hoW.len,bin_lss,onB_v]
    have hlen:((ws.map numR++List.replicate k 0).map fun x:Int=>[aI x]).length=ws.length+k:=by simp
    rw[hlen]
    refine gd_of (fun hlt=>?_) (fun hge=>?_)
    ·have hlt:ws.length+k<most:=by have:=dT hlt;omega
     refine bslI1 ?_
     refine hoW.app (by omega) (c:=[aI 0]) rfl (by rw[hlen];omega) (fun x' W3 w3 b3 hx3=>?_) rfl
     obtain⟨m3,hm3⟩:=hx3
     have hk1:=k1.lt
     refine hKE1 _ _ ⟨k+1,.inr (by omega),by have:=b3.1;omega,⟨⟨Nat.le_trans kW.kp.1 b3.1,fun x hx=>by rw[b3.2 x (by have:=kW.kp.1;omega) (fun b m e=>by have:=(hoW.lt e).1;have:=k1.kp.1;omega)];exact kW.kp.2 x hx⟩,Nat.lt_of_lt_of_le kW.lt b3.1,(b3.2 _ kW.lt (fun b m e=>by have:=(hoW.lt e).1;omega)).trans kW.ob,⟨fun j hj=>(kW.rows.own j hj).but b3 fun q b m b' m' e e'=>by
      have h1:=(hoW.lt e).1
      have h2:=((k1.rows.own j hj).lt e').2
      omega,kW.rows.dis⟩⟩,?_,fun x hx hx2=>?_⟩ ?_
     ·have e:ws.map numR++List.replicate (k+1) 0=(ws.map numR++List.replicate k 0) ++ [0]:=by rw[List.replicate_succ'];simp
      rw[e,List.map_append]
      exact w3
     ·rw[b3.2 x (by omega) (fun b m e=>by have:=(hoW.lt e).1;omega),fW x hx hx2]
     ·have e1:lenA y=ws.length+k:=by
        rcases hoW with⟨rfl,h2⟩|⟨id,rfl,_⟩
        ·have:=congrArg List.length h2
         rw[hlen]at this
         exact this.symm
        ·exact hlen
      have e2:lenA x'=ws.length+k+1:=by
       rcases w3 with⟨h1,h2⟩|⟨id,rfl,_⟩
       ·simp at h2
       ·simp only[List.length_append,hlen];rfl
      rw[e1,e2];omega
    ·have hge:most≤ws.length+k:=by have:=dF hge;omega
     have hne:0<((ws.map numR++List.replicate k 0).map fun x:Int=>[aI x]).length:=by rw[hlen];omega
     obtain⟨id,e1,e2,e3,e4⟩:=hoW.ix hne
     rw[e1,List.length_map]
     have fT:∀ x,x≠S0.n→x<T.n→W.obj x=T.obj x:=fun x hx hx2=>by rw[fW x hx (by omega),fV x hx,fU x hx (by omega),f1 x hx]
     cases hb2:bad2 with
     |false =>
      subst hb2
      have hP2:=hg rfl
      have hk2:k=most - ws.length:=by
       rcases hk with hk|hk
       ·have hlen2:=(numbersP_ok hP2).1
        simp at hlen2
        omega
       ·omega
      subst hk2
      exact h1 _ b hP2 W id (by omega) kW e4 (by omega) e3 fT
     |true =>
      subst hb2
      refine h0 (hb rfl) _ b W id (by simp;omega) (fun x hx=>?_) hbl (by omega) kW e4 (by omega) e3 fT
      rcases List.mem_append.1 hx with hx|hx
      ·exact hrng x hx
      ·rw[(List.mem_replicate.1 hx).2];decide
   have hbadP:∀{p:Prop},¬ (least≤ws.length∧ws.length≤most)→numbersP least most l=none:=fun hn=>by
    cases hb0:bad0 with
    |true=>exact hPb hb0
    |false=>rw[hP hb0,if_neg (fun e=>hn ⟨e.1,e.2.1⟩)]
   rw[lenS_aL,bin_lss,onB_v]
   refine gd_of (fun hs=>?_) (fun hs=>?_)
   ·have hs:=dT hs
    rw[nilChk_p,shift_p]
    exact kU.setBad fun V nV fV kV=>pad V true nV fV kV (fun e=>by cases e) (fun _=>hbadP (p:=True) (by omega))
   have hs:=dF hs
   rw[lenS_aL,bin_gtr,onB_v]
   refine gd_of (fun hg=>?_) (fun hg=>?_)
   ·have hg:=dT hg
    rw[nilChk_p,shift_p]
    exact kU.setBad fun V nV fV kV=>pad V true nV fV kV (fun e=>by cases e) (fun _=>hbadP (p:=True) (by omega))
   have hg:=dF hg
   refine pad U _ rfl (fun _ _=>rfl) kU (fun e=>?_) (fun e=>?_)
   ·rw[Bool.or_eq_false_iff]at e
    rw[hP e.1,if_pos ⟨by omega,by omega,by simpa using e.2⟩]
   ·rw[Bool.or_eq_true]at e
    rcases e with e|e
    ·exact hPb e
    ·cases hb0:bad0 with
     |true=>exact hPb hb0
     |false =>
      rw[hP hb0,if_neg]
      rintro⟨_,_,h3⟩
      rw[h3]at e
      cases e
 refine h.line hl (fun a b hc T1 n1 k1 f1=>?_) (fun hc T1 n1 k1 f1=>?_)
 ·have hab:=cutC_len hc
  exact go a b false T1 (by omega) (by omega) n1 k1 f1 (fun _=>by unfold numbersP;rw[hc]) (fun e=>by cases e)
 ·exact go [] l true T1 (by simp) (Nat.le_refl _) n1 k1 f1 (fun e=>by cases e) (fun _=>by unfold numbersP;rw[hc])
end
section
variable {S0 T:Store} {l l':Bs} {bad:Bool} {M:List Int} {inp:Int} {r:Nat→List (List AV)} {y z:Nat→AV} {c:Ci}
theorem RkZ.reset(h:RkZ S0 T l bad inp r z z)(hl:(r 0).length≤1000000){own next reset:Int}{Q:AEnd→Store→Prop}{K:AV→Store→Prop}
    (h1:∀ T' z',RkZ S0 T' l (bad || decide (reset≠own∧2≤reset)) inp (updZ r 0 (r 0 ++ [[aI next,aI (if reset=own then 2 else reset)]])) z' z'→K (.t []) T'):callF Pg 70 [.p S0.n 0 0,aI own,aI next,aI reset] T Q K:=by
 refine .inl (calls70 ?_)
 unfold m70
 have put:∀(T1:Store) (bd:Bool) (k:Int),RkZ S0 T1 l bd inp r z z→bd=(bad || decide (reset≠own∧2≤reset))→k=(if reset=own then 2 else reset)→
     nilChk (.p S0.n 0 0) T1 fun v8 S=>shift v8 3 S fun v9 S=>shift v9 1 S fun v10 S=>ld1 v10 S fun v11 S=>bld [(0,1),(1,1)] [aI 0,aI 0] [(0,aI next),(1,aI k)] S fun v12 S=>bslN 51 2 1 [aI 0,aI 0] [(0,v12)] S fun v13 S=>appS 51 2 16 v11 v13 S fun v14 S=>nilChk (.p S0.n 0 0) S fun v15 S=>shift v15 3 S fun v16 S=>shift v16 1 S fun v17 S=>stN 1 v17 v14 S fun _ S=>K (.t []) S:=by
  intro T1 bd k hk hb hkk
  subst hb
  subst hkk
  rw[nilChk_p,shift_p,shift_p]
  refine W (hk.ldz (j:=0) (by decide)) ?_
  refine⟨[aI next,aI (if reset=own then 2 else reset)],rfl,?_⟩
  refine bslA2 rfl ?_
  refine hk.app (j:=0) (by decide) rfl (c:=[aI next,aI (if reset=own then 2 else reset)]) rfl (by omega) rfl fun x' T2 hx n2 h2 _=>?_
  rw[nilChk_p,shift_p,shift_p]
  exact h2.st (i:=rkI 0) (rkC_sz (by decide)) (by decide) hx fun T3 n3 f3 h3=>h1 T3 _ h3
 rw[bin_eql,onB_v]
 refine gd_of (fun ho=>?_) (fun ho=>?_)
 ·have ho:=dT ho
  rw[bin_gtr,onB_v,gd_F (by decide),bin_eql,onB_v,gd_T (by decide),bin_neq,onB_v,gd_F (by rw[decide_eq_true ho];rfl)]
  exact put T bad 2 h (by rw[decide_eq_false (fun e=>e.1 ho),Bool.or_false]) (by rw[if_pos ho])
 have ho:=dF ho
 rw[bin_gtr,onB_v]
 refine gd_of (fun hg=>?_) (fun hg=>?_)
 ·have hg:=dT hg
  rw[nilChk_p,shift_p]
  refine h.setBad fun T1 n1 f1 h1'=>put T1 true reset h1' (by rw[decide_eq_true ⟨ho,by omega⟩,Bool.or_true]) (by rw[if_neg ho])
 have hg:=dF hg
 rw[bin_eql,onB_v]
 refine gd_of (fun he=>?_) (fun he=>?_)
 ·have he:=dT he
  rw[bin_neq,onB_v,gd_T (by rw[decide_eq_false ho];rfl),nilChk_p,shift_p]
  refine h.setBad fun T1 n1 f1 h1'=>put T1 true reset h1' (by rw[decide_eq_true ⟨ho,by omega⟩,Bool.or_true]) (by rw[if_neg ho])
 ·have he:=dF he
  exact put T bad reset h (by rw[decide_eq_false (fun e=>by have:=e.2;omega),Bool.or_false]) (by rw[if_neg ho])
theorem RkZ.but{V V':Store}{x:AV}{l0:Bs}{bad0:Bool}{inp0:Int}{r0:Nat→List (List AV)}{y0:Nat→AV}(hT:RkZ S0 T l0 bad0 inp0 r0 y0 z)(h:RkZ S0 V l bad inp r y z)(b3:But V V' x)(hx:∀ i b m,x = .s i b m→T.n≤i):RkZ S0 V' l bad inp r y z:=by
 have h1:=hT.lt
 have h2:=hT.kp.1
 refine⟨⟨Nat.le_trans h.kp.1 b3.1,fun i hi=>by rw[b3.2 i (by have:=h.kp.1;omega) (fun b m e=>by have:=hx _ _ _ e;omega)];exact h.kp.2 i hi⟩,Nat.lt_of_lt_of_le h.lt b3.1,(b3.2 _ h.lt (fun b m e=>by have:=hx _ _ _ e;omega)).trans h.ob,⟨fun j hj=>(h.rows.own j hj).but b3 fun q b m b' m' e e'=>?_,h.rows.dis⟩⟩
 have h3:=hx _ _ _ e
 have h4:=((hT.rows.own j hj).lt e').2
 omega
theorem RkZ.column(h:RkZ S0 T l bad inp r z z)(hl:l.length≤1000000){n:Nat}(hn:n≤2000){Q:AEnd→Store→Prop}{K:AV→Store→Prop}
    (h1:∀ xs b,columnP n l=some (xs,b)→bad=false→∀ T' y,T.n≤T'.n→RkZ S0 T' b false inp r z z→Own T.n T' y 3 (xs.map fun x=>[aI x])→K y T')
    (h0:(bad=true∨columnP n l=none)→∀(xs:List Int) (b:Bs) T' y,T.n≤T'.n→RkZ S0 T' b true inp r z z→Own T.n T' y 3 (xs.map fun x=>[aI x])→xs.length≤2000→b.length≤l.length→K y T'):
    callF Pg 103 [.p S0.n 0 0,aI n] T Q K:=by
 refine .inl (calls103 ?_)
 unfold m103
 have hlt0:=h.lt
 refine loop103_0 (fun y x U=>∃(j:Nat) (xs:List Int) (b:Bs) (bd:Bool),x=aI j∧j≤n∧xs.length=j∧T.n≤U.n∧b.length≤l.length∧RkZ S0 U b bd inp r z z∧Own T.n U y 3 (xs.map fun x=>[aI x])∧(bd=false→bad=false∧columnP n l=(columnP (n - j) b).map fun p=>(xs++p.1,p.2))∧(bd=true→bad=true∨columnP n l=none)) (fun _ x _=>n - ((intA x).getD 0).toNat)
  ⟨0,[],l,bad,rfl,Nat.zero_le _,rfl,Nat.le_refl _,Nat.le_refl _,h,.nl _ _ _,fun e=>⟨e,by simp⟩,fun e=>.inl e⟩ ?_
 rintro y _ U ⟨j,xs,b,bd,rfl,hj,hxs,nU,hb,hU,ho,hg,hbd⟩ KE hKE
 unfold b103_0
 rw[bin_lss,onB_v]
 refine gd_of (fun hlt=>?_) (fun hge=>?_)
 ·have hlt:j<n:=by have:=dT hlt;omega
  rw[nilChk_p,shift_p,hU.ldb,un_not,onB_v]
  refine gd_of (fun hb0=>?_) (fun hb1=>?_)
  ·have hb0:bd=false:=by simpa using hb0
   subst hb0
   obtain⟨hbad,hcol⟩:=hg rfl
   have e5:n - j=1+(n - (j+1)):=by omega
   have put:∀(ns:List Int) (b2:Bs) (bd2:Bool) (V:Store) (id:Nat),1≤ns.length→b2.length≤b.length→U.n≤V.n→RkZ S0 V b2 bd2 inp r z z→V.obj id=some (.cells 3 (ns.map fun x=>[aI x]) true)→id<V.n→(∀ x,x≠S0.n→x<U.n→V.obj x=U.obj x)→
       (bd2=false→columnP n l=(columnP (n - (j+1)) b2).map fun p=>(xs ++ [ns.getD 0 0]++p.1,p.2))→(bd2=true→columnP n l=none)→
       ixS 3 1 (.s id 0 ns.length) (.v (.int .i64 0)) V fun v9 S=>ld1 v9 S fun v10 S=>bslN 3 1 1 [.v (.int .i64 0)] [(0,v10)] S fun v11 S=>appS 3 1 8 y v11 S fun v12 S=>bin .add 0 (aI j) (.v (.int .i64 1)) S fun v13 S=>KE 27 (env103_0 (.p S0.n 0 0) (aI n) v12 v13) S:=by
    intro ns b2 bd2 V id hns hb2 nV hV oV hid fV hgood hbad2
    refine W (ix0 oV (j:=0) hns rfl) ?_
    refine bslI1 ?_
    have ho2:Own T.n V y 3 (xs.map fun x=>[aI x]):=ho.same nV fun i h1 h2=>fV i (by omega) h2
    refine ho2.app (by omega) (c:=[aI (ns.getD 0 0)]) rfl (by simp;omega) (fun x' V2 w3 b3 _=>?_) rfl
    rw[bin_add (by omega) (by omega)]
    refine hKE _ _ _ ⟨j+1,xs ++ [ns.getD 0 0],b2,bd2,rfl,hlt,by simp[hxs],by have:=b3.1;omega,by omega,h.but hV b3 (fun i b m e=>(ho2.lt e).1),by rw[List.map_append];exact w3,fun e=>⟨hbad,by rw[hgood e]⟩,fun e=>.inr (hbad2 e)⟩ (by simp[intA];omega)
   refine hU.nums (least:=1) (most:=1) (by omega) (by decide) (fun ns b2 hns V id nV hV oV hid1 hid2 fV=>?_) (fun hnn ns b2 V id hn1 hrng hb2 nV hV oV hid1 hid2 fV=>?_) (by decide)
   ·have hns1:=numbersP_ok hns
    obtain⟨x,rfl⟩:∃ x,ns = [x]:=List.length_eq_one_iff.1 hns1.1
    refine put [x] b2 false V id (by simp) (by omega) nV hV oV hid2 fV (fun _=>?_) (fun e=>by cases e)
    rw[hcol,e5,columnP_add,columnP,hns]
    simp[columnP,Option.map_map,Function.comp_def]
   ·refine put ns b2 true V id hn1 hb2 nV hV oV hid2 fV (fun e=>by cases e) (fun _=>?_)
    rw[hcol,e5,columnP_add,columnP,hnn]
    rfl
  ·have hb1:bd=true:=by simpa using hb1
   subst hb1
   exact h0 (hbd rfl) xs b U y nU hU ho (by omega) hb
 ·have hge:j=n:=by have:=dF hge;omega
  subst hge
  cases hbd0:bd with
  |true =>
   subst hbd0
   exact h0 (hbd rfl) xs b U y nU hU ho (by omega) hb
  |false =>
   subst hbd0
   obtain⟨hbad,hcol⟩:=hg rfl
   refine h1 xs b ?_ hbad U y nU hU ho
   rw[hcol,Nat.sub_self]
   simp[columnP]
theorem RkZ.setRow(h:RkZ S0 T l bad inp r z z){j:Nat}(hj:j<8){n:Nat}{y:AV}{es:List (List AV)}(ho:Own n T y (tkT j) es)(hn:S0.n+1≤n)(hap:∀ i,i<8→∀ a b m,z i = .s a b m→a<n){K:AV→Store→Prop}
    (k:∀ T',T'.n=T.n→(∀ x,x≠S0.n→T'.obj x=T.obj x)→RkZ S0 T' l bad inp (updZ r j es) (updZ z j y) (updZ z j y)→K .j T'):stN 1 (.p S0.n 0 (rkI j)) y T K:=by
 refine h.st (rkC_sz hj) (by unfold rkI;split<;>omega) (own_one ho) fun T' n' f' h'=>k T' n' f' ⟨h'.kp,h'.lt,h'.ob,⟨fun i hi=>?_,fun i k hi hk hne a b m b' m' e e'=>?_⟩⟩
 ·unfold updZ
  split
  ·rename_i hij
   subst hij
   exact(ho.low hn).st (fun b m e=>by have:=(ho.lt e).1;omega) n' f'
  ·exact h'.rows.own i hi
 ·unfold updZ at e e'
  split at e
  ·split at e'
   ·omega
   ·have:=(ho.lt e).1
    have:=hap k hk _ _ _ e'
    omega
  ·split at e'
   ·have:=(ho.lt e').1
    have:=hap i hi _ _ _ e
    omega
   ·exact h.rows.dis i k hi hk hne a b m b' m' e e'
theorem rowsM_setK(c:Ci)(pre:List (List Int))(xs:List Int)(h:pre.length<4):rowsM M (c.setK (pre ++ [xs]))=updZ (rowsM M (c.setK pre)) (2+pre.length) (xs.map fun x=>[aI x]):=by
 funext j
 match pre,h with
 |[],_ =>
  match j with
  |2=>rfl
  |0=>rfl
  |1=>rfl
  |3=>rfl
  |4=>rfl
  |5=>rfl
  |6=>rfl
  |7=>rfl
  |j+8=>rfl
 |[a],_ =>
  match j with
  |3=>rfl
  |0=>rfl
  |1=>rfl
  |2=>rfl
  |4=>rfl
  |5=>rfl
  |6=>rfl
  |7=>rfl
  |j+8=>rfl
 |[a,b],_ =>
  match j with
  |4=>rfl
  |0=>rfl
  |1=>rfl
  |2=>rfl
  |3=>rfl
  |5=>rfl
  |6=>rfl
  |7=>rfl
  |j+8=>rfl
 |[a,b,d],_ =>
  match j with
  |5=>rfl
  |0=>rfl
  |1=>rfl
  |2=>rfl
  |3=>rfl
  |4=>rfl
  |6=>rfl
  |7=>rfl
  |j+8=>rfl
def ColSt(S0 V:Store)(M:List Int)(l:Bs)(bad:Bool)(c:Ci)(i:Nat):Prop:=∃(pre:List (List Int)) (b:Bs) (bd:Bool),pre.length=i∧(∀ xs∈pre,xs.length≤2000)∧b.length≤l.length∧Rk S0 V b bd M (c.setK pre)∧(bd=false→bad=false∧colsN M 4 l=(colsN M (4 - i) b).map fun p=>(pre++p.1,p.2))∧(bd=true→bad=true∨colsN M 4 l=none)
theorem ColSt.step{V:Store}{i:Nat}(hi:i<4)(hMl:M.length=9)(hM:∀ j,0≤M.getD j 0∧M.getD j 0≤2000)(hl:l.length≤1000000)(h:ColSt S0 V M l bad c i){Q:AEnd→Store→Prop}{K:Store→Prop}(k:∀ V',ColSt S0 V' M l bad c (i+1)→K V'):
    nilChk (.p S0.n 0 0) V fun v S=>shift v 2 S fun v S=>ld1 v S fun v S=>ixS 3 1 v (aI (colIx i)) S fun v S=>ld1 v S fun v5 S=>callF Pg 103 [.p S0.n 0 0,v5] S Q fun v6 S=>nilChk (.p S0.n 0 0) S fun v7 S=>shift v7 3 S fun v8 S=>shift v8 (3+i) S fun v9 S=>stN 1 v9 v6 S fun _ S=>K S:=by
 obtain⟨pre,b,bd,hpre,hpl,hb,⟨z,hz⟩,hg,hbd⟩:=h
 have hci:colIx i<9:=by unfold colIx;split<;>decide
 have hcm:=hM (colIx i)
 refine W (hz.mAt (M:=M) rfl (by omega)) ?_
 have hcm2:aI (M.getD (colIx i) 0)=aI ((mAt M (colIx i):Nat):Int):=by congr 1;show _=(((M.getD (colIx i) 0).toNat:Nat):Int);omega
 rw[hcm2]
 have e3:4 - i=(4 - (i+1))+1:=by omega
 have e4:3 - (4 - (i+1))=i:=by omega
 have hnn2:mAt M (colIx i)≤2000:=by show(M.getD (colIx i) 0).toNat≤2000;omega
 have hnext:bd=false→colsN M 4 l=((columnP (mAt M (colIx i)) b).bind fun o=>(colsN M (4 - (i+1)) o.2).map fun p=>(o.1 :: p.1,p.2)).map fun p=>(pre++p.1,p.2):=fun e=>by
  have hq:=(hg e).2
  rw[e3,colsN_s M (4 - (i+1)) b,e4]at hq
  exact hq
 have put:∀(xs:List Int) (b2:Bs) (bd2:Bool) (V2:Store) (y:AV),xs.length≤2000→b2.length≤b.length→V.n≤V2.n→RkZ S0 V2 b2 bd2 c.inputs (rowsM M (c.setK pre)) z z→Own V.n V2 y 3 (xs.map fun x=>[aI x])→
     (bd2=false→bad=false∧colsN M 4 l=(colsN M (4 - (i+1)) b2).map fun p=>(pre ++ [xs]++p.1,p.2))→(bd2=true→bad=true∨colsN M 4 l=none)→
     nilChk (.p S0.n 0 0) V2 fun v7 S=>shift v7 3 S fun v8 S=>shift v8 (3+i) S fun v9 S=>stN 1 v9 y S fun _ S=>K S:=by
  intro xs b2 bd2 V2 y hxs hb2 nV2 hV2 hy h1 h2
  rw[nilChk_p,shift_p,shift_p]
  have e6:0+3+(3+i)=rkI (2+i):=by unfold rkI;rw[if_neg (by omega)];omega
  rw[e6]
  refine hV2.setRow (j:=2+i) (by omega) (n:=V.n) (by rw[tkT_c hi];exact hy) hz.lt (fun q hq a b m e=>((hz.rows.own q hq).lt e).2) fun V3 n3 f3 h3=>?_
  refine k V3 ⟨pre ++ [xs],b2,bd2,by simp[hpre],fun w hw=>?_,by omega,Rk.of h3 rfl (by rw[rowsM_setK c pre xs (by omega),hpre]),h1,h2⟩
  rcases List.mem_append.1 hw with hw|hw
  ·exact hpl w hw
  ·rw[List.mem_singleton.1 hw];exact hxs
 refine hz.column (by omega) hnn2 (fun xs b2 hc hb0 V2 y nV2 hV2 hy=>?_) (fun hn xs b2 V2 y nV2 hV2 hy hxs hb2=>?_)
 ·have hck:=columnP_ok hc
  have hxl:xs.length=mAt M (colIx i):=hck.2.1
  have hbl:b2.length+mAt M (colIx i)≤b.length:=hck.1
  refine put xs b2 false V2 y (by omega) (by omega) nV2 hV2 hy (fun _=>⟨(hg hb0).1,?_⟩) (fun e=>by cases e)
  rw[hnext hb0,hc]
  simp[Option.map_map,Function.comp_def]
 ·refine put xs b2 true V2 y hxs hb2 nV2 hV2 hy (fun e=>by cases e) (fun _=>?_)
  cases hb0:bd with
  |true=>exact hbd hb0
  |false =>
   right
   rcases hn with hn|hn
   ·rw[hb0]at hn;cases hn
   ·rw[hnext hb0,hn];rfl
theorem Rk.columns(h:Rk S0 T l bad M c)(hl:l.length≤1000000)(hMl:M.length=9)(hM:∀ j,0≤M.getD j 0∧M.getD j 0≤2000)(hc:c.setK []=c){Q:AEnd→Store→Prop}{K:AV→Store→Prop}
    (k:∀ V,ColSt S0 V M l bad c 4→K (.t []) V):callF Pg 71 [.p S0.n 0 0] T Q K:=by
 refine .inl (calls71 ?_)
 unfold m71
 have h0:ColSt S0 T M l bad c 0:=⟨[],l,bad,rfl,(fun _ h=>by cases h),Nat.le_refl _,by rw[hc];exact h,fun e=>⟨e,by simp⟩,fun e=>.inl e⟩
 refine h0.step (i:=0) (by decide) hMl hM hl fun V1 h1=>?_
 refine h1.step (i:=1) (by decide) hMl hM hl fun V2 h2=>?_
 refine h2.step (i:=2) (by decide) hMl hM hl fun V3 h3=>?_
 refine h3.step (i:=3) (by decide) hMl hM hl fun V4 h4=>?_
 exact k V4 h4
end
section
variable {S0 T:Store} {l l':Bs} {bad:Bool} {M:List Int} {inp:Int} {r:Nat→List (List AV)} {y z:Nat→AV} {c:Ci}
theorem RkZ.JM(h:RkZ S0 T l bad inp r z z)(hr:r 7=M.map fun x=>[aI x]){j:Nat}(hj:j<M.length){P:AV→Prop}(k:P (aI (M.getD j 0))):
    ∃ q1,(nilChk (.p S0.n 0 0) T fun v S=>v=q1∧S=T)∧∃ q2,(shift q1 2 T fun v S=>v=q2∧S=T)∧∃ q3,(ld1 q2 T fun v S=>v=q3∧S=T)∧∃ q4,(ixS 3 1 q3 (aI j) T fun v S=>v=q4∧S=T)∧∃ q5,(ld1 q4 T fun v S=>v=q5∧S=T)∧P q5:=by
 have ho:=h.rows.own 7 (by decide)
 rw[hr]at ho
 obtain⟨id,e1,_,e3,e4⟩:=ho.ix (i:=j) (by simpa using hj)
 have hg:(M.map fun x=>[aI x])[j]? = some [aI (M.getD j 0)]:=by
  rw[List.getElem?_map,List.getElem?_eq_getElem (by omega),List.getD_eq_getElem?_getD,List.getElem?_eq_getElem (by omega)]
  rfl
 refine⟨_,by rw[nilChk_p];exact⟨rfl,rfl⟩,_,by rw[shift_p];exact⟨rfl,rfl⟩,z 7,W (h.ldz (j:=7) (by decide)) ⟨rfl,rfl⟩,.p id j 0,?_,_,by rw[ld1_p e4 hg rfl];exact⟨rfl,rfl⟩,k⟩
 rw[e1]
 refine W (ixS_s (e:=tkT 7) (by simpa using hj) e4) ?_
 rw[Nat.zero_add]
 exact⟨rfl,rfl⟩
theorem rowsM_M(M:List Int)(v:Int)(c:Ci):rowsM (M ++ [v]) c=updZ (rowsM M c) 7 (rowsM M c 7 ++ [[aI v]]):=by
 funext j
 by_cases h:j=7
 ·subst h;simp[rowsM,updZ]
 ·simp[rowsM,updZ,h]
theorem headM_at(ws:List Bs)(hw:ws.length≤9){k:Nat}(hk:k<9):(headM ws).take (k+1)=(headM ws).take k ++ [if h:k<ws.length then numR ws[k]else 0]:=by
 have hl:(headM ws).length=9:=by simp[headM];omega
 rw[List.take_add_one,List.getElem?_eq_getElem (by omega)]
 congr 1
 show[_]=_
 congr 1
 simp only[headM]
 split
 ·rename_i h
  rw[List.getElem_append_left (by simpa using h),List.getElem_map]
 ·rename_i h
  rw[List.getElem_append_right (by simp;omega),List.getElem_replicate]
theorem RkZ.head(h:RkZ S0 T l false 0 (rowsM [] cE) z z)(hl:l.length≤1000000){word:Bs}{Q:AEnd→Store→Prop}{K:AV→Store→Prop}
    (h1:∀ M b,headP word l=some (M,b)→∀ T' z',RkZ S0 T' b false (M.getD 1 0) (rowsM M cE) z' z'→K (aB true) T')
    (h0:headP word l=none→∀ T',Keep S0 T'→K (aB false) T'):callF Pg 68 [.p S0.n 0 0,aT word] T Q K:=by
 refine .inl (calls68 ?_)
 unfold m68
 refine h.line hl (fun a b hc T1 n1 k1 f1=>?_) (fun hc T1 n1 k1 f1=>?_)
 case refine_2 =>
  refine callF_ans (ans100 (by simp)) ?_
  rw[nilChk_p,shift_p,k1.ldb,onB_v,gd_true]
  exact h0 (by simp[headP,hc]) T1 k1.kp
 have hab:=cutC_len hc
 refine callF_ans (ans100 (by omega)) ?_
 have hw:∀ w∈wordsL a,w.length≤1000000:=fun w hw=>by have:=(wordsL_mem hw).2.1;omega
 have hne:=wordsL_ne a
 have hP:headP word l=if headOk word (wordsL a)=true then some (headM (wordsL a).tail,b)else none:=by
  unfold headP;rw[hc]
 generalize wordsL a=ws0 at hw hne hP
 obtain⟨w0,ws,rfl⟩:∃ w0 ws,ws0=w0 :: ws:=by
  cases ws0 with
  |nil=>exact absurd rfl hne
  |cons x y=>exact⟨x,y,rfl⟩
 have bad:∀{T':Store},Keep S0 T'→¬ headOk word (w0 :: ws)=true→K (aB false) T':=fun hk hn=>h0 (by rw[hP,if_neg hn]) _ hk
 have hok:headOk word (w0 :: ws)=true↔w0=word∧(5≤ws.length∧ws.length≤9)∧(∀ x∈ws,0≤numR x∧numR x≤2000)∧(headM ws).getD 0 0=(headM ws).getD 1 0+(headM ws).getD 2 0+(headM ws).getD 4 0∧(headM ws).getD 7 0=0:=by
  simp only[headOk,Bool.and_eq_true,decide_eq_true_eq,List.all_eq_true,List.head?_cons,Option.some.injEq,List.tail_cons,List.length_cons]
  constructor
  ·rintro⟨e1,e2,e3,e4⟩;exact⟨e1,⟨by omega,by omega⟩,e3,dT e4⟩
  ·rintro⟨e1,e2,e3,e4⟩;exact⟨e1,⟨by omega,by omega⟩,e3,decide_eq_true e4⟩
 rw[nilChk_p,shift_p,k1.ldb,onB_v,gd_false]
 refine W (ixS_aL (i:=0) (by simp)) ?_
 rw[List.getElem_cons_zero,ld1_q,bin_neqS,onB_v]
 refine gd_of (fun hw0=>bad k1.kp (fun e=>by rw[(hok.1 e).1]at hw0;simp at hw0)) (fun hw0=>?_)
 have hw0:w0=word:=ab_eq.1 (by simpa using hw0)
 rw[lenS_aL,bin_lss,onB_v]
 refine gd_of (fun h5=>bad k1.kp (fun e=>by have:=(hok.1 e).2.1;have h:=dT h5;rw[List.length_cons]at h;omega)) (fun h5=>?_)
 have h5:5≤ws.length:=by have:=dF h5;rw[List.length_cons]at this;omega
 rw[lenS_aL,bin_gtr,onB_v]
 refine gd_of (fun h9=>bad k1.kp (fun e=>by have:=(hok.1 e).2.1;have h:=dT h9;rw[List.length_cons]at h;omega)) (fun h9=>?_)
 have h9:ws.length≤9:=by have:=dF h9;rw[List.length_cons]at this;omega
 have hl9:(headM ws).length=9:=by simp[headM];omega
 refine loop68_0 (fun y U=>∃(k:Nat) (z':Nat→AV),y=aI (k+1:Nat)∧k≤9∧(∀ x∈ws.take k,0≤numR x∧numR x≤2000)∧RkZ S0 U b false 0 (rowsM ((headM ws).take k) cE) z' z') (fun y _=>10 - ((intA y).getD 0).toNat)
  ⟨0,z,rfl,by decide,fun x hx=>(by simp at hx),by simpa using k1⟩ ?_
 rintro _ U ⟨k,z',rfl,hk,hall,hU⟩ KE hKE
 unfold b68_0
 rw[bin_lss,onB_v]
 refine gd_of (fun hlt=>?_) (fun hge=>?_)
 ·have hlt:k<9:=by have:=dT hlt;omega
  have put:∀ v:Int,(headM ws).take (k+1)=(headM ws).take k ++ [v]→(∀ x∈ws.take (k+1),0≤numR x∧numR x≤2000)→
      nilChk (.p S0.n 0 0) U fun v29 S=>shift v29 2 S fun v30 S=>ld1 v30 S fun v31 S=>bslN 3 1 1 [.v (.int .i64 0)] [(0,aI v)] S fun v32 S=>appS 3 1 8 v31 v32 S fun v33 S=>nilChk (.p S0.n 0 0) S fun v34 S=>shift v34 2 S fun v35 S=>stN 1 v35 v33 S fun _ S=>bin .add 0 (aI (k+1:Nat)) (.v (.int .i64 1)) S fun v37 S=>KE 107 (env68_0 (.p S0.n 0 0) (aL aT (w0 :: ws)) v37) S:=by
   intro v hv hall2
   rw[nilChk_p,shift_p]
   refine W (hU.ldz (j:=7) (by decide)) ?_
   refine bslI1 ?_
   refine hU.app (j:=7) (by decide) rfl (c:=[aI v]) rfl (by simp[rowsM];omega) rfl fun x' U2 hx' n2 h2 _=>?_
   rw[nilChk_p,shift_p]
   refine h2.st (i:=rkI 7) (rkC_sz (by decide)) (by decide) hx' fun U3 n3 f3 h3=>?_
   rw[bin_add (by omega) (by omega)]
   rw[←rowsM_M,←hv]at h3
   exact hKE _ _ ⟨k+1,_,rfl,hlt,hall2,h3⟩ (by simp[intA];omega)
  have hM:=headM_at ws h9 hlt
  rw[lenS_aL,bin_lss,onB_v]
  refine gd_of (fun hin=>?_) (fun hout=>?_)
  ·have hin:k<ws.length:=by have:=dT hin;rw[List.length_cons]at this;omega
   rw[dif_pos hin]at hM
   rw[ixS_aL (by rw[List.length_cons];omega),List.getElem_cons_succ,ld1_q]
   refine callF_ans (numRT (hw _ (List.mem_cons_of_mem _ (List.getElem_mem hin)))) ?_
   rw[bin_lss,onB_v]
   refine gd_of (fun hn=>bad hU.kp (fun e=>by have:=((hok.1 e).2.2.1 _ (List.getElem_mem hin)).1;have h:=dT hn;omega)) (fun hn=>?_)
   have hn:=dF hn
   rw[bin_gtr,onB_v]
   refine gd_of (fun hx=>bad hU.kp (fun e=>by have:=((hok.1 e).2.2.1 _ (List.getElem_mem hin)).2;have h:=dT hx;omega)) (fun hx=>?_)
   have hx:=dF hx
   refine put _ hM fun x hx'=>?_
   rw[List.take_add_one,List.getElem?_eq_getElem hin]at hx'
   rcases List.mem_append.1 hx' with hx'|hx'
   ·exact hall x hx'
   ·rw[Option.toList_some,List.mem_singleton]at hx'
    rw[hx']
    exact⟨by omega,by omega⟩
  ·have hout:ws.length≤k:=by have:=dF hout;rw[List.length_cons]at this;omega
   rw[dif_neg (by omega)]at hM
   rw[bin_lss,onB_v,gd_F (by decide),bin_gtr,onB_v,gd_F (by decide)]
   refine put 0 hM fun x hx'=>hall x ?_
   rw[List.take_of_length_le (by omega)]at hx' ⊢
   exact hx'
 ·have hge:k=9:=by have:=dF hge;omega
  subst hge
  rw[List.take_of_length_le (by omega)]at hall hU
  have hM:∀ j,0≤(headM ws).getD j 0∧(headM ws).getD j 0≤2000:=fun j=>by
   rw[List.getD_eq_getElem?_getD]
   cases hg:(headM ws)[j]? with
   |none=>exact⟨by decide,by decide⟩
   |some v =>
    rw[Option.getD_some]
    rcases List.mem_append.1 (List.mem_of_getElem? hg)with hx|hx
    ·obtain⟨w,hw',rfl⟩:=List.mem_map.1 hx
     exact hall w hw'
    ·rw[(List.mem_replicate.1 hx).2];decide
  have m1:=hM 1
  have m2:=hM 2
  have m4:=hM 4
  refine W (hU.mAt (M:=headM ws) rfl (j:=1) (by omega)) ?_
  rw[nilChk_p,shift_p,shift_p]
  refine hU.st (l':=b) (bad':=false) (inp':=(headM ws).getD 1 0) (y':=z') rfl (by decide) rfl fun U2 n2 f2 h2=>?_
  refine h2.JM (M:=headM ws) rfl (j:=0) (by omega) ?_
  refine h2.JM (M:=headM ws) rfl (j:=1) (by omega) ?_
  refine h2.JM (M:=headM ws) rfl (j:=2) (by omega) ?_
  refine W (J_add (by omega) (by omega)) ?_
  refine h2.JM (M:=headM ws) rfl (j:=4) (by omega) ?_
  refine W (J_add (by omega) (by omega)) (W J_eql ?_)
  rw[onB_v]
  refine gd_of (fun hs=>?_) (fun hs=>?_)
  ·refine h2.JM (M:=headM ws) rfl (j:=7) (by omega) (W J_eql (W J_mvS ?_))
   by_cases h7:(headM ws).getD 7 0=0
   ·show K (aB (decide _)) U2
    rw[decide_eq_true h7]
    refine h1 (headM ws) b ?_ U2 z' h2
    rw[hP,if_pos (hok.2 ⟨hw0,⟨h5,h9⟩,hall,dT hs,h7⟩)]
    rfl
   ·show K (aB (decide _)) U2
    rw[decide_eq_false h7]
    exact bad h2.kp (fun e=>h7 (hok.1 e).2.2.2.2)
  ·refine W J_mvS ?_
   exact bad h2.kp (fun e=>dF hs (hok.1 e).2.2.2.1)
theorem rowsM_addN(c:Ci)(x:Na):rowsM M (c.addN x)=updZ (rowsM M c) 6 (rowsM M c 6 ++ [x.row]):=by
 funext j
 unfold rowsM
 rw[rows_addN]
 unfold updZ
 by_cases h7:j=7
 ·subst h7;rfl
 ·by_cases h6:j=6
  ·subst h6;rfl
  ·simp[h7,h6]
theorem rowsM_addL(c:Ci)(p:Int × Int):rowsM M (c.addL p)=updZ (rowsM M c) 0 (rowsM M c 0 ++ [[aI p.1,aI p.2]]):=by
 funext j
 unfold rowsM
 rw[rows_addL]
 unfold updZ
 by_cases h7:j=7
 ·subst h7;rfl
 ·by_cases h6:j=0
  ·subst h6;rfl
  ·simp[h7,h6]
theorem rowsM_addA(c:Ci)(p:Int × Int):rowsM M (c.addA p)=updZ (rowsM M c) 1 (rowsM M c 1 ++ [[aI p.1,aI p.2]]):=by
 funext j
 unfold rowsM
 rw[rows_addA]
 unfold updZ
 by_cases h7:j=7
 ·subst h7;rfl
 ·by_cases h6:j=1
  ·subst h6;rfl
  ·simp[h7,h6]
def leftR(id:Nat)(T:Store):Nat:=match T.obj id with
 |some (.cells _ ((.v (.string b) :: _) :: _) _)=>b.size
 |_=>0
theorem RkZ.left(h:RkZ S0 T l bad inp r y z):leftR S0.n T=l.length:=by
 unfold leftR
 rw[h.ob]
 simp[rkC,aT,ByteArray.size]
end
section
variable {S0 T:Store} {l l':Bs} {bad:Bool} {M:List Int} {inp:Int} {r:Nat→List (List AV)} {y z:Nat→AV} {c:Ci}
theorem RkZ.names(h:RkZ S0 T l bad c.inputs (rowsM M c) z z)(hl:l.length≤1000000)(hc:c.names = []){Q:AEnd→Store→Prop}{K:AV→Store→Prop}
    (h1:bad=false→∀ ns,namesP l.length l=some ns→∀ b T' z',RkZ S0 T' b false c.inputs (rowsM M (c.setN ns)) z' z'→K (.t []) T')
    (h0:(bad=true∨namesP l.length l=none)→∀ b r' T' z',RkZ S0 T' b true c.inputs r' z' z'→K (.t []) T'):callF Pg 72 [.p S0.n 0 0] T Q K:=by
 refine .inl (calls72 ?_)
 unfold m72
 refine loop72_0 (fun U=>∃ pre l' z',pre.length+l'.length≤l.length∧RkZ S0 U l' bad c.inputs (rowsM M (c.setN pre)) z' z'∧namesP l.length l=(namesP l'.length l').map fun p=>pre++p) (fun U=>leftR S0.n U)
  ⟨[],l,z,by simp,by have e:c.setN []=c:=by rw[←hc];rfl
                     rw[e];exact h,by simp⟩ ?_
 rintro U ⟨pre,l',z,hl',hU,hq⟩ KE hKE
 unfold b72_0
 rw[nilChk_p,shift_p,hU.ldl,neT,onB_v]
 refine gd_of (fun hne=>?_) (fun he=>?_)
 ·have hne:l'≠[]:=by simpa using hne
  rw[nilChk_p,shift_p,hU.ldb,un_not,onB_v]
  refine gd_of (fun hb0=>?_) (fun hb1=>?_)
  ·have hb0:bad=false:=by simpa using hb0
   subst hb0
   obtain⟨n',hn'⟩:∃ n',l'.length=n'+1:=⟨l'.length - 1,by have:=List.length_pos_iff.2 hne;omega⟩
   have hstep:namesP l'.length l'=match cutC 10 l' with
       |none=>none
       |some (a,r)=>if a = [99]then some []else match nameP a with
        |some x=>(namesP r.length r).map fun p=>x :: p
        |none=>none:=by
    rw[hn',namesP,if_neg hne]
    cases hcc:cutC 10 l' with
    |none=>rfl
    |some p =>
     obtain⟨pa,pr⟩:=p
     have hlen:=cutC_len hcc
     simp only
     first
      |(rw[namesP_mono pr.length n' pr (Nat.le_refl _) (by omega)];done)
      |(rw[namesP_mono pr.length n' pr (Nat.le_refl _) (by omega)];rfl)
   have bad:namesP l'.length l'=none→∀(b:Bs) (V:Store) {r':Nat→List (List AV)} {z':Nat→AV} {bd:Bool},RkZ S0 V b bd c.inputs r' z' z'→nilChk (.p S0.n 0 0) V fun v S=>shift v 1 S fun v S=>stN 1 v (.v (.bool true)) S fun _ S=>K (.t []) S:=fun hn b V {r' z' bd} hV=>by
    rw[nilChk_p,shift_p]
    exact hV.setBad fun V2 n2 f2 h2=>h0 (.inr (by rw[hq,hn];rfl)) _ _ V2 _ h2
   refine hU.line (by omega) (fun a b hcut V nV hV fV=>?_) (fun hcut V nV hV fV=>?_)
   case refine_2 =>
    have hnone:namesP l'.length l'=none:=by rw[hstep,hcut]
    refine W (bin_eqlS ⟨([]:Bs).toArray⟩ ⟨#[99]⟩ 0) ?_
    rw[onB_v]
    refine gd_of (fun h99=>absurd (ab_eq (a:=[]) (b:=[99]) |>.1 (dT h99)) (by decide)) (fun h99=>?_)
    refine callF_ans (ans100 (s:=[]) (by simp)) ?_
    rw[nilChk_p,shift_p,hV.ldb,onB_v,gd_true]
    exact bad hnone _ V hV
   have hab:=cutC_len hcut
   rw[hcut]at hstep
   refine W (bin_eqlS ⟨a.toArray⟩ ⟨#[99]⟩ 0) ?_
   rw[onB_v]
   refine gd_of (fun h99=>?_) (fun h99=>?_)
   ·have h99:a = [99]:=ab_eq.1 (dT h99)
    refine h1 rfl pre ?_ b V z hV
    rw[hq,hstep]
    simp[h99]
   have h99:a≠[99]:=fun e=>dF h99 (by rw[e])
   have hstep:namesP l'.length l'=match nameP a with
       |some x=>(namesP b.length b).map fun p=>x :: p
       |none=>none:=by
    rw[hstep];exact if_neg h99
   refine callF_ans (ans100 (by omega)) ?_
   rw[nilChk_p,shift_p,hV.ldb,onB_v,gd_false]
   have hnm:nameP a=match wordsL a with
    |[w0,w1]=>if 2≤w0.length∧0≤numR (w0.drop 1)then some ⟨(w0.getD 0 0).toNat,numR (w0.drop 1),⟨w1.toArray⟩⟩else none
    |_=>none:=rfl
   have hwm:∀ w∈wordsL a,w.length≤1000000:=fun w hw=>by have:=(wordsL_mem hw).2.1;omega
   generalize wordsL a=ws at hnm hwm
   rw[lenS_aL,bin_neq,onB_v]
   refine gd_of (fun h2=>?_) (fun h2=>?_)
   ·have h2:ws.length≠2:=fun e=>by rw[e]at h2;simp at h2
    refine bad ?_ b V hV
    rw[hstep,hnm]
    match ws,h2 with
    |[],_=>rfl
    |[_],_=>rfl
    |[_,_],h=>exact absurd rfl h
    |_ :: _ :: _ :: _,_=>rfl
   have h2:ws.length=2:=by
    have h2:¬ ¬ ((ws.length:Int)=2):=fun hn=>by rw[decide_eq_false hn]at h2;cases h2
    omega
   obtain⟨w0,w1,rfl⟩:∃ w0 w1,ws = [w0,w1]:=by
    match ws,h2 with
    |[w0,w1],_=>exact⟨w0,w1,rfl⟩
   have hnm:nameP a=if 2≤w0.length∧0≤numR (w0.drop 1)then some ⟨(w0.getD 0 0).toNat,numR (w0.drop 1),⟨w1.toArray⟩⟩else none:=hnm
   have hw0:=hwm w0 List.mem_cons_self
   refine W (ixS_aL (f:=aT) (l:=[w0,w1]) (i:=0) (by simp)) ?_
   rw[List.getElem_cons_zero,ld1_q,lenT,bin_lss,onB_v]
   refine gd_of (fun h3=>?_) (fun h3=>?_)
   ·refine bad ?_ b V hV
    rw[hstep,hnm,if_neg]
    intro e
    have:=e.1
    have:=dT h3
    omega
   have h3:2≤w0.length:=by have:=dF h3;omega
   refine W (ixS_aL (f:=aT) (l:=[w0,w1]) (i:=0) (by simp)) ?_
   rw[List.getElem_cons_zero,ld1_q]
   refine⟨rfl,slcT (by omega) ?_⟩
   refine callF_ans (numRT (by rw[List.length_drop];omega)) ?_
   rw[bin_lss,onB_v]
   refine gd_of (fun h4=>?_) (fun h4=>?_)
   ·refine bad ?_ b V hV
    rw[hstep,hnm,if_neg]
    intro e
    have:=e.2
    have:=dT h4
    omega
   have h4:0≤numR (w0.drop 1):=by have:=dF h4;omega
   rw[if_pos ⟨h3,h4⟩]at hnm
   generalize hx:(Na.mk ((w0.getD 0 0).toNat:Int) (numR (w0.drop 1)) ⟨w1.toArray⟩)=x at hnm
   have hr:=rowsM_addN (M:=M) (c.setN pre) x
   have hrow:x.row = [.v (.int .u8 (w0.getD 0 0).toNat),aI (numR (w0.drop 1)),aT w1]:=by rw[←hx];rfl
   rw[hrow]at hr
   have ix0L:∀{P:AV→Prop},P (aT w0)→∃ q53,(∀ U,Keep V U→ixS 9 1 (aL aT [w0,w1]) (.v (.int .i64 0)) U fun v S=>v=q53∧S=U)∧∃ q55,(∀ U,Keep V U→ld1 q53 U fun v S=>v=q55∧S=U)∧P q55:=fun{P} k =>
    ⟨_,fun U hU=>W (ixS_aL (f:=aT) (l:=[w0,w1]) (i:=0) (by simp)) ⟨rfl,rfl⟩,_,fun U hU=>by rw[ld1_q];exact⟨rfl,rfl⟩,k⟩
   have ix1L:∀{P:AV→Prop},P (aT w1)→∃ q53,(∀ U,Keep V U→ixS 9 1 (aL aT [w0,w1]) (.v (.int .i64 1)) U fun v S=>v=q53∧S=U)∧∃ q55,(∀ U,Keep V U→ld1 q53 U fun v S=>v=q55∧S=U)∧P q55:=fun{P} k =>
    ⟨_,fun U hU=>W (ixS_aL (f:=aT) (l:=[w0,w1]) (i:=1) (by simp)) ⟨rfl,rfl⟩,_,fun U hU=>by rw[ld1_q];exact⟨rfl,rfl⟩,k⟩
   refine⟨_,fun U hU=>by rw[nilChk_p];exact⟨rfl,rfl⟩,?_⟩
   refine L_shift ?_
   refine L_shift ?_
   refine⟨z 6,fun U hU=>W ((hV.keep hU).ldz (j:=6) (by decide)) ⟨rfl,rfl⟩,?_⟩
   refine ix0L ?_
   refine⟨_,fun U hU=>by rw[ixStrT (by omega)];exact⟨rfl,rfl⟩,?_⟩
   refine ix0L ?_
   refine⟨_,fun U hU=>⟨rfl,slcT (by omega) ⟨rfl,rfl⟩⟩,?_⟩
   refine L_callA (numRT (by rw[List.length_drop];omega)) ?_
   refine ix1L ?_
   refine⟨_,fun U hU=>⟨[.v (.int .u8 (w0.getD 0 0).toNat),aI (numR (w0.drop 1)),aT w1],rfl,rfl,rfl⟩,?_⟩
   refine⟨_,fun U hU=>bslP3 rfl ⟨rfl,rfl⟩,?_⟩
   refine hV.app (j:=6) (by decide) rfl (c:=[.v (.int .u8 (w0.getD 0 0).toNat),aI (numR (w0.drop 1)),aT w1]) rfl (by simp[rowsM,Ci.rowsOf,Ci.setN];omega) rfl fun x' V2 hx' nV2 hV2 fV2=>?_
   refine⟨_,fun U hU=>by rw[nilChk_p];exact⟨rfl,rfl⟩,?_⟩
   refine L_shift ?_
   refine L_shift ?_
   refine hV2.st (i:=rkI 6) (rkC_sz (by decide)) (by decide) hx' fun V3 nV3 fV3 hV3=>?_
   rw[←hr]at hV3
   refine hKE V3 ⟨pre ++ [x],b,_,by simp;omega,hV3,?_⟩ ?_
   ·rw[hq,hstep,hnm]
    simp[Option.map_map,Function.comp_def]
   ·rw[hU.left,hV3.left];omega
  ·have hb1:bad=true:=by simpa using hb1
   subst hb1
   exact h0 (.inl rfl) _ _ U _ hU
 ·have he:l' = []:=by simpa using he
  subst he
  cases hb:bad with
  |true =>
   subst hb
   exact h0 (.inl rfl) _ _ U _ hU
  |false =>
   subst hb
   exact h1 rfl pre (by rw[hq];simp[namesP]) [] U z hU
def midB(a b i:Nat):Bool:=decide (a≤i∧i<b)
theorem RkZ.told(h:RkZ S0 T l bad inp r z z){Q:AEnd→Store→Prop}{K:AV→Store→Prop}
    (h1:bad=true→∀ T',Keep S0 T'→K (.t [.a zero8,aI 21]) T')
    (h2:bad=false→c.inputs=inp∧r=rowsM M c∧c.ok∧(¬ c.right=true→∀ T',Keep S0 T'→K (.t [.a zero8,aI 22]) T')∧(c.right=true→∀ T',Keep S0 T'→RowsF T' z c.rowsOf→(∀ i b m,(∃ j,j<7∧z j = .s i b m)→S0.n<i)→K (.t [.a (cells8 c.inputs z),aI 0]) T')):
    callF Pg 73 [.p S0.n 0 0] T Q K:=by
 refine .inl (calls73 ?_)
 unfold m73
 refine boxA_of (cs:=zero8) rfl fun T1 k1 n1 o1=>?_
 have hT1:=h.keep k1
 rw[nilChk_p,shift_p,hT1.ldb,onB_v]
 refine gd_of (fun hb=>?_) (fun hb=>?_)
 ·refine⟨zero8,rfl,?_⟩
  refine stA_of (cs':=zero8) o1 rfl rfl fun T2 n2 o2 f2=>?_
  rw[ldN_p (n:=8) o2 rfl]
  exact h1 hb T2 (h.kp.trans (k1.st (Nat.le_refl _) n2 f2))
 obtain⟨rfl,rfl,hok,hbad,hgood⟩:=h2 hb
 have hlt:=h.lt
 rw[nilChk_p,shift_p,ldN_j hT1.ob (by simp[rkC])]
 have hrows:RowsF (T1.frz (midB (S0.n+1) T.n)) z c.rowsOf:=fun j hj=>by
  have hj7:rowsM M c j=c.rowsOf j:=by unfold rowsM;rw[if_neg (by omega)]
  have ho:=h.rows.own j (by omega)
  rw[hj7]at ho
  rcases ho with ho|⟨id,e1,e2,e3,e4⟩
  ·exact .inl ho
  ·refine .inr ⟨id,tkT j,e1,?_⟩
   have e5:=(k1.2 _ e3).trans e4
   rw[frz_of e5]
   simp[midB,e2,e3]
 have hc8:((rkC l bad c.inputs z).drop (0+3)).take 8=cells8 c.inputs z:=rfl
 rw[hc8]
 refine callF_frz (midB (S0.n+1) T.n) (args:=[.a (cells8 c.inputs z)]) (args2:=[c.av]) rfl (cv_1 ?_) (ans42 hok) ?_
 ·have:=hrows.cva (D:=fun _=>false) (m:=T1.n)
  rw[frz_none]at this
  exact this
 have ob1:(T1.frz (midB (S0.n+1) T.n)).obj T.n=some (.cells 29 [zero8] true):=by rw[frz_false (by unfold midB;exact decide_eq_false (by omega))];exact o1
 have obt:(T1.frz (midB (S0.n+1) T.n)).obj S0.n=some (.cells 100 [rkC l bad c.inputs z] true):=by rw[frz_false (by unfold midB;exact decide_eq_false (by omega))];exact hT1.ob
 have kp:Keep S0 (T1.frz (midB (S0.n+1) T.n)):=⟨hT1.kp.1,fun j hj=>by rw[frz_false (by unfold midB;exact decide_eq_false (by omega))];exact hT1.kp.2 j hj⟩
 generalize T1.frz (midB (S0.n+1) T.n)=F at hrows ob1 obt kp
 rw[un_not,onB_v]
 refine gd_of (fun hr=>?_) (fun hr=>?_)
 ·have hr:¬ c.right=true:=by simpa using hr
  refine⟨zero8,rfl,?_⟩
  refine stA_of (cs':=zero8) ob1 rfl rfl fun T2 n2 o2 f2=>?_
  rw[ldN_p (n:=8) o2 rfl]
  exact hbad hr T2 (kp.st (by omega) n2 f2)
 ·have hr:c.right=true:=by simpa using hr
  rw[nilChk_p,shift_p,ldN_j obt (by simp[rkC]),hc8]
  refine stA_of (cs':=cells8 c.inputs z) ob1 rfl rfl fun T2 n2 o2 f2=>?_
  rw[ldN_p (n:=8) o2 rfl]
  refine hgood hr T2 (kp.st (by omega) n2 f2) (fun j hj=>?_) (fun i b m ⟨j,hj,e⟩=>by have:=((h.rows.own j (by omega)).lt e).1;omega)
  rcases hrows j hj with h|⟨id,e,e1,e2⟩
  ·exact .inl h
  ·refine .inr ⟨id,e,e1,?_⟩
   rw[f2 _ (fun hid=>by
    rw[hid,ob1]at e2
    have:=congrArg (fun o:Option AObj=>match o with|some (.cells _ _ b)=>b|_=>true) e2
    cases this)]
   exact e2
end
theorem reset_P{own reset:Int}(h:0≤reset):resetP own reset=if reset≠own∧2≤reset then none else some (if reset=own then 2 else reset):=by
 unfold resetP
 by_cases h1:reset=own
 ·rw[if_pos h1,if_neg (fun e=>e.1 h1),if_pos h1]
 ·rw[if_neg h1,if_neg h1]
  by_cases h2:2≤reset
  ·rw[if_neg (by omega),if_pos ⟨h1,h2⟩]
  ·rw[if_pos (by omega),if_neg (fun e=>h2 e.2)]
section
variable {S0 T:Store} {l l':Bs} {bad:Bool} {M:List Int} {inp:Int} {r:Nat→List (List AV)} {y z:Nat→AV} {c:Ci}
theorem RkZ.nums2(h:RkZ S0 T l false inp r z z)(hl:l.length≤1000000){least most:Nat}(hm:most≤3){Q:AEnd→Store→Prop}{K:AV→Store→Prop}
    (k:∀(ns:List Int) (b:Bs) (bd:Bool) T' id,most≤ns.length→b.length≤l.length→T.n≤T'.n→RkZ S0 T' b bd inp r z z→T'.obj id=some (.cells 3 (ns.map fun x=>[aI x]) true)→T.n≤id→id<T'.n→(bd=false→numbersP least most l=some (ns,b))→(bd=true→numbersP least most l=none)→K (.s id 0 ns.length) T')
    (hmost:1≤most):callF Pg 69 [.p S0.n 0 0,aI least,aI most] T Q K:=
 h.nums hl hm (fun ns b hns T' id n1 k1 o1 h1 h2 _=>k ns b false T' id (by have:=(numbersP_ok hns).1;omega) (by have:=(numbersP_ok hns).2.1;omega) n1 k1 o1 h1 h2 (fun _=>hns) (fun e=>by cases e))
  (fun hn ns b T' id hl _ hb n1 k1 o1 h1 h2 _=>k ns b true T' id hl hb n1 k1 o1 h1 h2 (fun e=>by cases e) (fun _=>hn)) hmost
def restP(M:List Int)(N4:Nat)(la:List (Int × Int) × Bs):Option Ci:=(colsP M la.2).bind fun co=>(andsP (2*(M.getD 1 0+M.getD 2 0+1)) N4 0 co.2).bind fun an=>(namesP an.2.length an.2).map fun na =>
 ⟨M.getD 1 0,la.1,an.1,co.1.1,co.1.2.1,co.1.2.2.1,co.1.2.2.2,na⟩
def QfP(S:Store)(o:Ci × Int)(e:AEnd)(S':Store):Prop:=∃ r,e = .ret r∧Keep S S'∧Cv (S'.frz (newer S.n)) S.n r (retC o)
theorem QfP.mk{S S':Store}{o:Ci × Int}{r:AV}(h1:Keep S S')(h2:Cv (S'.frz (newer S.n)) S.n r (retC o)):QfP S o (.ret r) S':=⟨r,rfl,h1,h2⟩
theorem cv_bad{S:Store}{m:Nat}{e:Int}{o:Ci × Int}(h:o=(cE,e)):Cv S m (.t [.a zero8,aI e]) (retC o):=by
 subst h
 exact .t _ _ rfl (cvT2 cv_zero8 (.v _))
theorem ans32(s:Bs):Ans Pg 32 [aT s] (retC (parseP s)):=by
 intro S
 refine ACalls.tree (calls32 (Q:=QfP S (parseP s)) ?_)
 unfold m32
 rw[parseP_o]
 refine boxA_of (cs:=zero8) rfl fun S1 k1 n1 o1=>?_
 rw[lenT,bin_gtr,onB_v]
 refine gd_of (fun hl=>?_) (fun hl=>?_)
 ·have hl:20000<s.length:=by have:(20000:Int)<s.length:=dT hl
                             omega
  rw[if_pos hl]
  refine⟨zero8,rfl,?_⟩
  refine stA_of (cs':=zero8) o1 rfl rfl fun S2 n2 o2 f2=>?_
  rw[ldN_p (n:=8) o2 rfl]
  exact QfP.mk (k1.st (Nat.le_refl _) n2 f2) (cv_bad rfl)
 have hl:¬ 20000<s.length:=by have:¬ (20000:Int)<s.length:=dF hl
                              omega
 rw[if_neg hl]
 refine⟨rkC s false 0 (fun _=>.nl),rfl,?_⟩
 refine boxA_of (cs:=rkC s false 0 (fun _=>.nl)) rfl fun S2 k2 n2 o2=>?_
 have hn1:S1.n=S.n+1:=n1
 have hz0:RkZ S1 S2 s false 0 (rowsM [] cE) (fun _=>.nl) (fun _=>.nl):=⟨k2,by omega,o2,⟨fun j hj=>.inl ⟨rfl,by
  match j,hj with
  |0,_=>rfl
  |1,_=>rfl
  |2,_=>rfl
  |3,_=>rfl
  |4,_=>rfl
  |5,_=>rfl
  |6,_=>rfl
  |7,_=>rfl⟩,fun i j _ _ _ a b m b' m' e=>by cases e⟩⟩
 refine hz0.head (by omega) (word:=[97,97,103]) (fun M l1 hh U z1 hZ1=>?_) (fun hh U hU=>?_)
 case refine_2 =>
  rw[un_not,onB_v]
  refine gd_of (fun _=>?_) (fun h=>by cases h)
  refine⟨zero8,rfl,?_⟩
  have t1:=(hU.2 _ (by omega)).trans o1
  have un:=hU.1
  refine stA_of (cs':=zero8) t1 rfl rfl fun U2 n3 o3 f3=>?_
  rw[ldN_p (n:=8) o3 rfl]
  have ho:oP s = .error 20:=by unfold oP;rw[hh]
  rw[ho]
  exact QfP.mk ((k1.trans hU).st (Nat.le_refl _) n3 f3) (cv_bad rfl)
 rw[un_not,onB_v]
 refine gd_of (fun h=>by cases h) (fun _=>?_)
 have hM0:=headP_ok hh
 have hl1:l1.length≤20000:=by omega
 have hMl:=hM0.1
 have hM:∀ j,0≤M.getD j 0∧M.getD j 0≤2000:=fun j=>by
  rw[List.getD_eq_getElem?_getD]
  cases hg:M[j]? with
  |none=>exact⟨by decide,by decide⟩
  |some v=>exact hM0.2.2.1 v (List.mem_of_getElem? hg)
 have hmi:∀ j,aI (M.getD j 0)=aI ((mAt M j:Nat):Int):=fun j=>by
  have:=hM j
  congr 1
  show _=(((M.getD j 0).toNat:Nat):Int)
  omega
 have hmN:∀ j,mAt M j≤2000:=fun j=>by
  have:=hM j
  show(M.getD j 0).toNat≤2000
  omega
 have hm1:=hM 1
 have hm2:=hM 2
 have hoP:oP s=match bodyP M l1 with|none=>.error 21|some c=>.ok c:=by
  unfold oP
  first
   |(rw[hh];done)
   |(rw[hh];simp only;cases bodyP M l1<;>rfl)
 have hbody:bodyP M l1=(inputsP (mAt M 1) 0 l1).bind fun l1=>(latchesP (2*(M.getD 1 0+1)) (mAt M 2) 0 l1).bind fun la=>(colsP M la.2).bind fun co =>
  (andsP (2*(M.getD 1 0+M.getD 2 0+1)) (mAt M 4) 0 co.2).bind fun an=>(namesP an.2.length an.2).map fun na =>
   ⟨M.getD 1 0,la.1,an.1,co.1.1,co.1.2.1,co.1.2.2.1,co.1.2.2.2,na⟩:=rfl
 have hrm7:∀ c:Ci,rowsM M c 7=M.map fun x=>[aI x]:=fun c=>rfl
 have hokB:∀ cc,bodyP M l1=some cc→cc.ok:=fun cc h=>(bodyP_ok hM0.2.2.1 (by omega) h).1
 generalize hn1':mAt M 1=N1 at hbody
 have hN1:N1≤2000:=by rw[←hn1'];exact hmN 1
 have hN1i:(N1:Int)=M.getD 1 0:=by rw[←hn1'];show(((M.getD 1 0).toNat:Nat):Int)=_;omega
 generalize hn2':mAt M 2=N2 at hbody
 have hN2:N2≤2000:=by rw[←hn2'];exact hmN 2
 have hN2i:(N2:Int)=M.getD 2 0:=by rw[←hn2'];show(((M.getD 2 0).toNat:Nat):Int)=_;omega
 generalize hn4':mAt M 4=N4 at hbody
 have hN4:N4≤2000:=by rw[←hn4'];exact hmN 4
 have hmA1:aI (M.getD 1 0)=aI N1:=by rw[hmi,hn1']
 have hmA2:aI (M.getD 2 0)=aI N2:=by rw[hmi,hn2']
 have hmA4:aI (M.getD 4 0)=aI N4:=by rw[hmi,hn4']
 have hS1n:S.n<S1.n:=by omega
 have t1:∀{V:Store},Keep S1 V→V.obj S.n=some (.cells 29 [zero8] true):=fun{V} h=>(h.2 _ hS1n).trans o1
 have bad21:bodyP M l1=none→outP (oP s)=(cE,21):=fun h=>by rw[hoP,h];rfl
 have put0:∀(V:Store) (e:Int),Keep S1 V→outP (oP s)=(cE,e)→extr (.t [.a zero8,aI e]) 0 V fun v201 W=>extr (.t [.a zero8,aI e]) 1 W fun v202 W=>stN 8 (.p S.n 0 0) v201 W fun _ W=>ldN 8 (.p S.n 0 0) W fun v204 _=>QfP S (outP (oP s)) (.ret (.t [v204,v202])) W:=by
  intro V e hk he
  rw[extr0,extr1]
  refine stA_of (cs':=zero8) (t1 hk) rfl rfl fun U2 n3 o3 f3=>?_
  rw[ldN_p (n:=8) o3 rfl]
  exact QfP.mk ((k1.trans hk).st (Nat.le_refl _) n3 f3) (cv_bad he)
 have fin:∀(V:Store) (b:Bs) (bd:Bool) (c':Ci) (z:Nat→AV),RkZ S1 V b bd c'.inputs (rowsM M c') z z→c'.names = []→b.length≤l1.length→(bd=false→bodyP M l1=(namesP b.length b).map fun na=>c'.setN na)→(bd=true→bodyP M l1=none)→
     callF Pg 72 [.p S1.n 0 0] V (QfP S (outP (oP s))) fun v199 W=>callF Pg 73 [.p S1.n 0 0] W (QfP S (outP (oP s))) fun v200 W=>extr v200 0 W fun v201 W=>extr v200 1 W fun v202 W=>stN 8 (.p S.n 0 0) v201 W fun _ W=>ldN 8 (.p S.n 0 0) W fun v204 _=>QfP S (outP (oP s)) (.ret (.t [v204,v202])) W:=by
  intro V b bd c' z hz hcn hbl hgood hbad
  refine hz.names (by omega) hcn (fun hb ns hns b' T' z' hZ=>?_) (fun hb b' r' T' z' hZ=>?_)
  ·have hB:=hgood hb
   rw[hns,Option.map_some]at hB
   have hout:outP (oP s)=if(c'.setN ns).right=true then(c'.setN ns,0)else(cE,22):=by rw[hoP,hB];rfl
   refine hZ.told (M:=M) (c:=c'.setN ns) (fun e=>by cases e) (fun _=>⟨rfl,rfl,hokB _ hB,fun hr T2 hk=>put0 T2 22 hk (by rw[hout,if_neg hr]),fun hr T2 hk hrf hid=>?_⟩)
   rw[if_pos hr]at hout
   rw[extr0,extr1]
   refine stA_of (cs':=cells8 c'.inputs z') (t1 hk) rfl rfl fun U2 n3 o3 f3=>?_
   rw[ldN_p (n:=8) o3 rfl]
   refine QfP.mk ((k1.trans hk).st (Nat.le_refl _) n3 f3) ?_
   rw[hout]
   refine .t _ _ rfl (cvT2 (RowsF.cva (c:=c'.setN ns) (S:=U2) (fun j hj=>?_)) (.v _))
   rcases hrf j hj with h|⟨id,e,e1,e2⟩
   ·exact .inl h
   ·have:=hid id 0 _ ⟨j,hj,e1⟩
    exact .inr ⟨id,e,e1,(f3 _ (by omega)).trans e2⟩
  ·have hB:bodyP M l1=none:=by
     rcases hb with hb|hb
     ·exact hbad hb
     ·cases hbd:bd with
      |true=>exact hbad hbd
      |false=>rw[hgood hbd,hb];rfl
   exact hZ.told (M:=M) (c:=c') (fun _ T2 hk=>put0 T2 21 hk (bad21 hB)) (fun e=>by cases e)
 have loop2':∀(V:Store) (l4:Bs) (bd:Bool) (la:List (Int × Int)) (L:List (List Int)) (z:Nat→AV),l4.length≤l1.length→RkZ S1 V l4 bd (M.getD 1 0) (rowsM M ⟨M.getD 1 0,la,[],L.getD 0 [],L.getD 1 [],L.getD 2 [],L.getD 3 [],[]⟩) z z→
     (bd=false→bodyP M l1=(andsP (2*(M.getD 1 0+M.getD 2 0+1)) N4 0 l4).bind fun an=>(namesP an.2.length an.2).map fun na=>⟨M.getD 1 0,la,an.1,L.getD 0 [],L.getD 1 [],L.getD 2 [],L.getD 3 [],na⟩)→(bd=true→bodyP M l1=none)→
     loopV lv32_2 (vc Pg (c32.at_ [1,1,1,1,1,1,1,0,1,0,0]) (ms32.drop 3)) 165 (env32_2 (.p S.n 0 0) (.p S1.n 0 0) (.v (.int .i64 0))) V (blockK 4 (seqK (vc Pg (c32.at_ [1,1,1,1,1,1,1,1]) (ms32.drop 3)) (bodyK Pg r32 (QfP S (outP (oP s)))))):=by
  intro V l4 bd la L z hl4 hZ hgood hbad
  refine loop32_2 (fun y V=>∃(i:Nat) (ga:List (Int × Int)) (l5:Bs) (bd:Bool) (z:Nat→AV),y=aI i∧i≤N4∧ga.length=i∧l5.length≤l1.length∧RkZ S1 V l5 bd (M.getD 1 0) (rowsM M ⟨M.getD 1 0,la,ga,L.getD 0 [],L.getD 1 [],L.getD 2 [],L.getD 3 [],[]⟩) z z∧(bd=false→bodyP M l1=((andsP (2*(M.getD 1 0+M.getD 2 0+1)) (N4 - i) i l5).map fun p=>(ga++p.1,p.2)).bind fun an=>(namesP an.2.length an.2).map fun na=>⟨M.getD 1 0,la,an.1,L.getD 0 [],L.getD 1 [],L.getD 2 [],L.getD 3 [],na⟩)∧(bd=true→bodyP M l1=none)) (fun y _=>N4 - ((intA y).getD 0).toNat)
   ⟨0,[],l4,bd,z,rfl,Nat.zero_le _,rfl,hl4,hZ,fun e=>by rw[hgood e];simp,hbad⟩ ?_
  rintro _ V ⟨i,ga,l5,bd,z,rfl,hi,hga,hl5,hV,hg,hb⟩ KE hKE
  unfold b32_2
  refine W (hV.mAt (M:=M) (hrm7 _) (j:=4) (by omega)) ?_
  rw[hmA4,bin_lss,onB_v]
  have done:(bd=false→i=N4)→_:=fun hx=>fin V l5 bd ⟨M.getD 1 0,la,ga,L.getD 0 [],L.getD 1 [],L.getD 2 [],L.getD 3 [],[]⟩ z hV rfl hl5 (fun e=>by
   rw[hg e,hx e,Nat.sub_self,andsP]
   simp[Ci.setN]) hb
  refine gd_of (fun hlt=>?_) (fun hge=>done (fun _=>by have:=dF hge;omega))
  have hlt:i<N4:=by have:=dT hlt;omega
  rw[nilChk_p,shift_p,hV.ldb,un_not,onB_v]
  refine gd_of (fun hb0=>?_) (fun hb1=>done (fun e=>by rw[e]at hb1;cases hb1))
  have hb0:bd=false:=by simpa using hb0
  subst hb0
  have hq:=hg rfl
  have e5:N4 - i=(N4 - (i+1))+1:=by omega
  rw[e5,andsP]at hq
  have put:∀(ns:List Int) (b:Bs) (bd2:Bool) (V1:Store) (id:Nat),3≤ns.length→b.length≤l5.length→RkZ S1 V1 b bd2 (M.getD 1 0) (rowsM M ⟨M.getD 1 0,la,ga,L.getD 0 [],L.getD 1 [],L.getD 2 [],L.getD 3 [],[]⟩) z z→V1.obj id=some (.cells 3 (ns.map fun x=>[aI x]) true)→id<V1.n→
      (bd2=false→bodyP M l1=((andsP (2*(M.getD 1 0+M.getD 2 0+1)) (N4 - (i+1)) (i+1) b).map fun p=>(ga ++ [(ns.getD 1 0,ns.getD 2 0)]++p.1,p.2)).bind fun an=>(namesP an.2.length an.2).map fun na=>⟨M.getD 1 0,la,an.1,L.getD 0 [],L.getD 1 [],L.getD 2 [],L.getD 3 [],na⟩)→(bd2=true→bodyP M l1=none)→
      (∃ q141:AV,(∀ T:Store,Keep V1 T→nilChk (.p S1.n 0 0) T fun v S=>v=q141∧S=T)∧∃ q143:AV,(∀ T:Store,Keep V1 T→shift q141 3 T fun v S=>v=q143∧S=T)∧∃ q145:AV,(∀ T:Store,Keep V1 T→shift q143 2 T fun v S=>v=q145∧S=T)∧∃ q147:AV,(∀ T:Store,Keep V1 T→ld1 q145 T fun v S=>v=q147∧S=T)∧
       ∃ q149:AV,(∀ T:Store,Keep V1 T→ixS 3 1 (.s id 0 ns.length) (.v (.int .i64 1)) T fun v S=>v=q149∧S=T)∧∃ q151:AV,(∀ T:Store,Keep V1 T→ld1 q149 T fun v S=>v=q151∧S=T)∧∃ q153:AV,(∀ T:Store,Keep V1 T→ixS 3 1 (.s id 0 ns.length) (.v (.int .i64 2)) T fun v S=>v=q153∧S=T)∧∃ q155:AV,(∀ T:Store,Keep V1 T→ld1 q153 T fun v S=>v=q155∧S=T)∧
       ∃ q157:AV,(∀ T:Store,Keep V1 T→bld [(0,1),(1,1)] [.v (.int .i64 0),.v (.int .i64 0)] [(0,q151),(1,q155)] T fun v S=>v=q157∧S=T)∧∃ q159:AV,(∀ T:Store,Keep V1 T→bslN 48 2 1 [.v (.int .i64 0),.v (.int .i64 0)] [(0,q157)] T fun v S=>v=q159∧S=T)∧
       appS 48 2 16 q147 q159 V1 fun v161 W=>∃ q162:AV,(∀ T:Store,Keep W T→nilChk (.p S1.n 0 0) T fun v S=>v=q162∧S=T)∧∃ q164:AV,(∀ T:Store,Keep W T→shift q162 3 T fun v S=>v=q164∧S=T)∧∃ q166:AV,(∀ T:Store,Keep W T→shift q164 2 T fun v S=>v=q166∧S=T)∧stN 1 q166 v161 W fun _ W=>bin .add 0 (aI i) (.v (.int .i64 1)) W fun v169 W=>KE 165 (env32_2 (.p S.n 0 0) (.p S1.n 0 0) v169) W):=by
   intro ns b bd2 V1 id hns hbl hV1 o1 hid h1 h2
   refine⟨_,fun U hU=>by rw[nilChk_p];exact⟨rfl,rfl⟩,?_⟩
   refine L_shift ?_
   refine L_shift ?_
   refine⟨z 1,fun U hU=>W ((hV1.keep hU).ldz (j:=1) (by decide)) ⟨rfl,rfl⟩,?_⟩
   refine Lix o1 hid (j:=1) (by omega) rfl ?_
   refine Lix o1 hid (j:=2) (by omega) rfl ?_
   refine⟨_,fun U hU=>⟨[aI (ns.getD 1 0),aI (ns.getD 2 0)],rfl,rfl,rfl⟩,?_⟩
   refine⟨_,fun U hU=>bslA2 rfl ⟨rfl,rfl⟩,?_⟩
   refine hV1.app (j:=1) (by decide) rfl (c:=[aI (ns.getD 1 0),aI (ns.getD 2 0)]) rfl (by simp[rowsM,Ci.rowsOf];omega) rfl fun x' V2 hx' nV2 hV2 fV2=>?_
   refine⟨_,fun U hU=>by rw[nilChk_p];exact⟨rfl,rfl⟩,?_⟩
   refine L_shift ?_
   refine L_shift ?_
   refine hV2.st (i:=rkI 1) (rkC_sz (by decide)) (by decide) hx' fun V3 nV3 fV3 hV3=>?_
   rw[bin_add (by omega) (by omega)]
   rw[←rowsM_addA (M:=M) ⟨M.getD 1 0,la,ga,L.getD 0 [],L.getD 1 [],L.getD 2 [],L.getD 3 [],[]⟩ (ns.getD 1 0,ns.getD 2 0)]at hV3
   exact hKE _ _ ⟨i+1,ga ++ [(ns.getD 1 0,ns.getD 2 0)],b,bd2,_,rfl,hlt,by simp[hga],by omega,hV3,h1,h2⟩ (by simp[intA];omega)
  refine hV.nums2 (least:=3) (most:=3) (by omega) (by decide) (fun ns b bd2 V1 id hns hbl nV1 hV1 o1 hid1 hid2 hgd hbd=>?_) (by decide)
  have hS1V:=hV.lt
  have hg0:(ns.map fun x=>[aI x])[0]? = some [aI (ns.getD 0 0)]:=by
   rw[List.getElem?_map,List.getElem?_eq_getElem (by omega),List.getD_eq_getElem?_getD,List.getElem?_eq_getElem (by omega)]
   rfl
  refine⟨.p id 0 0,W (ixS_s (i:=0) (by omega) o1) ⟨rfl,rfl⟩,aI (ns.getD 0 0),by rw[ld1_p o1 hg0 rfl];exact⟨rfl,rfl⟩,?_⟩
  refine hV1.JM (M:=M) (hrm7 _) (j:=1) (by omega) ?_
  refine hV1.JM (M:=M) (hrm7 _) (j:=2) (by omega) ?_
  refine W (J_add (by omega) (by omega)) (W (J_add (by omega) (by omega)) (W (J_add (by omega) (by omega)) (W (J_mulI (by omega) (by omega)) (W J_neq ?_))))
  rw[onB_v]
  have e6:2*(M.getD 1 0+M.getD 2 0+1+(i:Int))=2*(M.getD 1 0+M.getD 2 0+1)+2*(i:Int):=by omega
  have hnone:bd2=true→bodyP M l1=none:=fun e=>by rw[hq,hbd e];rfl
  rw[e6]
  refine gd_of (fun hne=>?_) (fun heq=>?_)
  ·have hne:¬ ns.getD 0 0=2*(M.getD 1 0+M.getD 2 0+1)+2*(i:Int):=fun e=>by rw[decide_eq_true e]at hne;cases hne
   rw[nilChk_p,shift_p]
   refine hV1.setBad fun V2 n2 f2 hV2=>put ns b true V2 id hns hbl hV2 ((f2 _ (by omega)).trans o1) (by omega) (fun e=>by cases e) (fun _=>?_)
   cases hb2:bd2 with
   |true=>exact hnone hb2
   |false =>
    rw[hq,hgd hb2]
    simp only
    rw[if_neg hne];rfl
  ·have heq:ns.getD 0 0=2*(M.getD 1 0+M.getD 2 0+1)+2*(i:Int):=by
     by_cases e:ns.getD 0 0=2*(M.getD 1 0+M.getD 2 0+1)+2*(i:Int)
     ·exact e
     ·rw[decide_eq_false e]at heq;cases heq
   refine put ns b bd2 V1 id hns hbl hV1 o1 hid2 (fun e=>?_) hnone
   rw[hq,hgd e]
   simp only
   rw[if_pos heq,Option.map_map]
   congr 2
   funext p
   simp
 have loop1':∀(V:Store) (l2:Bs) (bd:Bool) (z:Nat→AV),l2.length≤l1.length→RkZ S1 V l2 bd (M.getD 1 0) (rowsM M cE) z z→
     (bd=false→bodyP M l1=(latchesP (2*(M.getD 1 0+1)) N2 0 l2).bind fun la=>(colsP M la.2).bind fun co=>(andsP (2*(M.getD 1 0+M.getD 2 0+1)) N4 0 co.2).bind fun an=>(namesP an.2.length an.2).map fun na=>⟨M.getD 1 0,la.1,an.1,co.1.1,co.1.2.1,co.1.2.2.1,co.1.2.2.2,na⟩)→(bd=true→bodyP M l1=none)→
     loopV lv32_1 (vc Pg (c32.at_ [1,1,1,1,1,0,1,0,0]) (ms32.drop 2)) 165 (env32_1 (.p S.n 0 0) (.p S1.n 0 0) (.v (.int .i64 0))) V (blockK 2 (seqK (vc Pg (c32.at_ [1,1,1,1,1,1]) (ms32.drop 2)) (bodyK Pg r32 (QfP S (outP (oP s)))))):=by
  intro V l2 bd z hl2 hZ hgood hbad
  replace hgood:bd=false→bodyP M l1=(latchesP (2*(M.getD 1 0+1)) N2 0 l2).bind (restP M N4):=hgood
  refine loop32_1 (fun y V=>∃(i:Nat) (pre:List (Int × Int)) (l3:Bs) (bd:Bool) (z:Nat→AV),y=aI i∧i≤N2∧pre.length=i∧l3.length≤l1.length∧RkZ S1 V l3 bd (M.getD 1 0) (rowsM M ⟨M.getD 1 0,pre,[],[],[],[],[],[]⟩) z z∧(bd=false→bodyP M l1=((latchesP (2*(M.getD 1 0+1)) (N2 - i) i l3).map fun p=>(pre++p.1,p.2)).bind (restP M N4))∧(bd=true→bodyP M l1=none)) (fun y _=>N2 - ((intA y).getD 0).toNat)
   ⟨0,[],l2,bd,z,rfl,Nat.zero_le _,rfl,hl2,hZ,fun e=>by rw[hgood e];simp,hbad⟩ ?_
  rintro _ V ⟨i,pre,l3,bd,z,rfl,hi,hpre,hl3,hV,hg,hb⟩ KE hKE
  unfold b32_1
  refine W (hV.mAt (M:=M) (hrm7 _) (j:=2) (by omega)) ?_
  rw[hmA2,bin_lss,onB_v]
  have done:(bd=false→i=N2)→callF Pg 71 [.p S1.n 0 0] V (QfP S (outP (oP s))) fun v88 W=>loopV lv32_2 (vc Pg (c32.at_ [1,1,1,1,1,1,1,0,1,0,0]) (ms32.drop 3)) 165 (env32_2 (.p S.n 0 0) (.p S1.n 0 0) (.v (.int .i64 0))) W (blockK 4 (seqK (vc Pg (c32.at_ [1,1,1,1,1,1,1,1]) (ms32.drop 3)) (bodyK Pg r32 (QfP S (outP (oP s)))))):=by
   intro hx
   refine Rk.columns (c:=⟨M.getD 1 0,pre,[],[],[],[],[],[]⟩) ⟨z,hV⟩ (by omega) hMl hM rfl fun V2 hcs=>?_
   obtain⟨L,b,bd2,hL,hLl,hbl,⟨z2,hz2⟩,hc1,hc2⟩:=hcs
   have hnone:bd2=true→bodyP M l1=none:=fun e=>by
    rcases hc2 e with h|h
    ·exact hb h
    ·cases hbd:bd with
     |true=>exact hb hbd
     |false =>
      rw[hg hbd,hx hbd,Nat.sub_self,latchesP]
      simp[restP,colsP_N,h]
   refine loop2' V2 b bd2 pre L z2 (by omega) hz2 (fun e=>?_) hnone
   obtain⟨hbd,hcol⟩:=hc1 e
   rw[hg hbd,hx hbd,Nat.sub_self,latchesP]
   have hcol2:colsN M 4 l3=some (L,b):=by rw[hcol];simp[colsN]
   simp[restP,colsP_N,hcol2,tup]
  refine gd_of (fun hlt=>?_) (fun hge=>done (fun _=>by have:=dF hge;omega))
  have hlt:i<N2:=by have:=dT hlt;omega
  rw[nilChk_p,shift_p,hV.ldb,un_not,onB_v]
  refine gd_of (fun hb0=>?_) (fun hb1=>done (fun e=>by rw[e]at hb1;cases hb1))
  have hb0:bd=false:=by simpa using hb0
  subst hb0
  have hq:=hg rfl
  have e5:N2 - i=(N2 - (i+1))+1:=by omega
  rw[e5,latchesP]at hq
  refine W (hV.mAt (M:=M) (hrm7 _) (j:=1) (by omega)) ?_
  rw[bin_add (by omega) (by omega),bin_add (by omega) (by omega),bin_mul (by omega) (by omega)]
  have e6:2*(M.getD 1 0+(i:Int)+1)=2*(M.getD 1 0+1)+2*(i:Int):=by omega
  rw[e6]
  generalize hown:2*(M.getD 1 0+1)+2*(i:Int)=own at hq
  have put:∀(ns:List Int) (b:Bs) (bd2:Bool) (V1:Store) (id:Nat),3≤ns.length→b.length≤l3.length→RkZ S1 V1 b bd2 (M.getD 1 0) (rowsM M ⟨M.getD 1 0,pre,[],[],[],[],[],[]⟩) z z→V1.obj id=some (.cells 3 (ns.map fun x=>[aI x]) true)→id<V1.n→
      (bd2=false→0≤ns.getD 2 0∧(∀ k,resetP own (ns.getD 2 0)=some k→bodyP M l1=((latchesP (2*(M.getD 1 0+1)) (N2 - (i+1)) (i+1) b).map fun p=>(pre ++ [(ns.getD 1 0,k)]++p.1,p.2)).bind (restP M N4))∧(resetP own (ns.getD 2 0)=none→bodyP M l1=none))→(bd2=true→bodyP M l1=none)→
      (∃ q68:AV,(∀ T:Store,Keep V1 T→ixS 3 1 (.s id 0 ns.length) (.v (.int .i64 1)) T fun v S=>v=q68∧S=T)∧∃ q70:AV,(∀ T:Store,Keep V1 T→ld1 q68 T fun v S=>v=q70∧S=T)∧∃ q72:AV,(∀ T:Store,Keep V1 T→ixS 3 1 (.s id 0 ns.length) (.v (.int .i64 2)) T fun v S=>v=q72∧S=T)∧∃ q74:AV,(∀ T:Store,Keep V1 T→ld1 q72 T fun v S=>v=q74∧S=T)∧
       callF Pg 70 [.p S1.n 0 0,aI own,q70,q74] V1 (QfP S (outP (oP s))) fun v76 W=>bin .add 0 (aI i) (.v (.int .i64 1)) W fun v77 W=>KE 165 (env32_1 (.p S.n 0 0) (.p S1.n 0 0) v77) W):=by
   intro ns b bd2 V1 id hns hbl hV1 o1 hid h1 h2
   refine Lix o1 hid (j:=1) (by omega) rfl ?_
   refine Lix o1 hid (j:=2) (by omega) rfl ?_
   refine hV1.reset (by simp[rowsM,Ci.rowsOf];omega) fun V2 z2 hV2=>?_
   rw[bin_add (by omega) (by omega)]
   rw[←rowsM_addL (M:=M) ⟨M.getD 1 0,pre,[],[],[],[],[],[]⟩ (ns.getD 1 0,if ns.getD 2 0=own then 2 else ns.getD 2 0)]at hV2
   refine hKE _ _ ⟨i+1,pre ++ [(ns.getD 1 0,if ns.getD 2 0=own then 2 else ns.getD 2 0)],b,_,z2,rfl,hlt,by simp[hpre],by omega,hV2,fun e=>?_,fun e=>?_⟩ (by simp[intA];omega)
   ·rw[Bool.or_eq_false_iff]at e
    obtain⟨h3,h4,h5⟩:=h1 e.1
    exact h4 _ (by rw[reset_P h3,if_neg (dF e.2)])
   ·rw[Bool.or_eq_true]at e
    cases hb2:bd2 with
    |true=>exact h2 hb2
    |false =>
     obtain⟨h3,h4,h5⟩:=h1 hb2
     rcases e with e|e
     ·rw[hb2]at e;cases e
     ·exact h5 (by rw[reset_P h3,if_pos (dT e)])
  refine hV.nums2 (least:=2) (most:=3) (by omega) (by decide) (fun ns b bd2 V1 id hns hbl nV1 hV1 o1 hid1 hid2 hgd hbd=>?_) (by decide)
  have hS1V:=hV.lt
  have hnone:bd2=true→bodyP M l1=none:=fun e=>by rw[hq,hbd e];rfl
  refine W (ix0 o1 (j:=0) (by omega) rfl) ?_
  rw[bin_neq,onB_v]
  refine gd_of (fun hne=>?_) (fun heq=>?_)
  ·have hne:¬ ns.getD 0 0=own:=fun e=>by rw[decide_eq_true e]at hne;cases hne
   rw[nilChk_p,shift_p]
   refine hV1.setBad fun V2 n2 f2 hV2=>put ns b true V2 id hns hbl hV2 ((f2 _ (by omega)).trans o1) (by omega) (fun e=>by cases e) (fun _=>?_)
   cases hb2:bd2 with
   |true=>exact hnone hb2
   |false =>
    rw[hq,hgd hb2]
    simp only
    rw[if_neg hne];rfl
  ·have heq:ns.getD 0 0=own:=by
     by_cases e:ns.getD 0 0=own
     ·exact e
     ·rw[decide_eq_false e]at heq;cases heq
   refine put ns b bd2 V1 id hns hbl hV1 o1 hid2 (fun e=>?_) hnone
   have hnum:=hgd e
   have hns1:=numbersP_ok hnum
   rw[hnum]at hq
   simp only at hq
   rw[if_pos heq,heq]at hq
   refine⟨(getD_rng hns1.2.2 2).1,fun k hk=>?_,fun hk=>?_⟩
   ·rw[hq,hk]
    simp only[Option.map_map]
    congr 2
    funext p
    simp
   ·rw[hq,hk];rfl
 refine loop32_0 (fun y V=>∃(i:Nat) (l2:Bs) (bd:Bool) (z:Nat→AV),y=aI i∧i≤N1∧l2.length≤l1.length∧RkZ S1 V l2 bd (M.getD 1 0) (rowsM M cE) z z∧(bd=false→inputsP N1 0 l1=inputsP (N1 - i) i l2)∧(bd=true→bodyP M l1=none)) (fun y _=>N1 - ((intA y).getD 0).toNat)
  ⟨0,l1,false,z1,rfl,Nat.zero_le _,Nat.le_refl _,hZ1,fun _=>rfl,fun e=>by cases e⟩ ?_
 rintro _ V ⟨i,l2,bd,z,rfl,hi,hl2,hV,hg,hb⟩ KE hKE
 unfold b32_0
 refine W (hV.mAt (M:=M) (hrm7 _) (j:=1) (by omega)) ?_
 rw[hmA1,bin_lss,onB_v]
 have loop1:(bd=false→inputsP N1 0 l1=some l2)→loopV lv32_1 (vc Pg (c32.at_ [1,1,1,1,1,0,1,0,0]) (ms32.drop 2)) 165 (env32_1 (.p S.n 0 0) (.p S1.n 0 0) (.v (.int .i64 0))) V (blockK 2 (seqK (vc Pg (c32.at_ [1,1,1,1,1,1]) (ms32.drop 2)) (bodyK Pg r32 (QfP S (outP (oP s)))))):=
  fun hin=>loop1' V l2 bd z hl2 hV (fun e=>by rw[hbody,hin e];rfl) hb
 refine gd_of (fun hlt=>?_) (fun hge=>?_)
 ·have hlt:i<N1:=by have:=dT hlt;omega
  rw[nilChk_p,shift_p,hV.ldb,un_not,onB_v]
  refine gd_of (fun hb0=>?_) (fun hb1=>loop1 (fun e=>by rw[e]at hb1;cases hb1))
  have hb0:bd=false:=by simpa using hb0
  subst hb0
  have hq:=hg rfl
  have e5:N1 - i=(N1 - (i+1))+1:=by omega
  rw[e5,inputsP]at hq
  have put:∀(ns:List Int) (b:Bs) (bd2:Bool) (V1:Store) (id:Nat),1≤ns.length→b.length≤l2.length→RkZ S1 V1 b bd2 (M.getD 1 0) (rowsM M cE) z z→V1.obj id=some (.cells 3 (ns.map fun x=>[aI x]) true)→(bd2=false→ns.getD 0 0=2*((i:Int)+1)→inputsP N1 0 l1=inputsP (N1 - (i+1)) (i+1) b)→(bd2=true∨ns.getD 0 0≠2*((i:Int)+1)→bodyP M l1=none)→
      ixS 3 1 (.s id 0 ns.length) (.v (.int .i64 0)) V1 fun v29 W=>ld1 v29 W fun v30 W=>bin .add 0 (aI i) (.v (.int .i64 1)) W fun v31 W=>bin .mul 0 (.v (.int .i64 2)) v31 W fun v32 W=>bin .neq 0 v30 v32 W fun v33 W=>onB v33 fun b34=>gd b34 (nilChk (.p S1.n 0 0) W fun v35 W=>shift v35 1 W fun v36 W=>stN 1 v36 (.v (.bool true)) W fun _ W=>bin .add 0 (aI i) (.v (.int .i64 1)) W fun v38 W=>KE 165 (env32_0 (.p S.n 0 0) (.p S1.n 0 0) v38) W) (bin .add 0 (aI i) (.v (.int .i64 1)) W fun v39 W=>KE 165 (env32_0 (.p S.n 0 0) (.p S1.n 0 0) v39) W):=by
   intro ns b bd2 V1 id hns hbl hV1 o1 h1 h2
   refine W (ix0 o1 (j:=0) hns rfl) ?_
   rw[bin_add (by omega) (by omega),bin_mul (by omega) (by omega),bin_neq,onB_v]
   refine gd_of (fun hne=>?_) (fun heq=>?_)
   ·rw[nilChk_p,shift_p]
    refine hV1.setBad fun V2 n2 f2 hV2=>?_
    rw[bin_add (by omega) (by omega)]
    exact hKE _ _ ⟨i+1,b,true,z,rfl,hlt,by omega,hV2,(fun e=>by cases e),(fun _=>h2 (.inr (by simpa using hne)))⟩ (by simp[intA];omega)
   ·rw[bin_add (by omega) (by omega)]
    have heq:ns.getD 0 0=2*((i:Int)+1):=by simpa using heq
    exact hKE _ _ ⟨i+1,b,bd2,z,rfl,hlt,by omega,hV1,(fun e=>h1 e heq),(fun e=>h2 (.inl e))⟩ (by simp[intA];omega)
  refine hV.nums (least:=1) (most:=1) (by omega) (by decide) (fun ns b hns V1 id nV1 hV1 o1 hid1 hid2 fV1=>?_) (fun hn ns b V1 id hns1 hrng hbl nV1 hV1 o1 hid1 hid2 fV1=>?_) (by decide)
  ·have hns1:=numbersP_ok hns
   rw[hns]at hq
   have hq:inputsP N1 0 l1=if ns.getD 0 0=2*((i:Int)+1)then inputsP (N1 - (i+1)) (i+1) b else none:=hq
   refine put ns b false V1 id (by omega) (by omega) hV1 o1 (fun _ e=>by rw[hq,if_pos e]) (fun e=>?_)
   rcases e with e|e
   ·cases e
   ·rw[hbody,hq,if_neg e];rfl
  ·exact put ns b true V1 id hns1 hbl hV1 o1 (fun e=>by cases e) (fun _=>by rw[hbody,hq,hn];rfl)
 ·have hge:i=N1:=by have:=dF hge;omega
  subst hge
  exact loop1 (fun e=>by rw[hg e,Nat.sub_self,inputsP])
end
theorem binP_same'{k:IntKind}{a b:Int}{S:Store}{K:AV→Store→Prop}:binP k .neq (.a [.v (.int k a),.v (.int k b)]) (.a [.v (.int k a),.v (.int k b)]) S K=K (.v (.bool false)) S:=by
 simp[binP,keyA]
theorem ans60{g:Gr}(hg:g.ok):Ans Pg 60 [g.av,g.av] (aB true):=by
 intro S
 refine ACalls.ans_v (calls60 ?_)
 unfold m60
 have hlen:=hg.len
 refine boxA_of rfl fun S1 k1 n1 o1=>?_
 refine boxA_of rfl fun S2 k2 n2 o2=>?_
 have p2:=(k2.2 _ (by omega)).trans o1
 have kk:=k1.trans k2
 rw[shift_p,ld1_p (u:=aI g.inputs) p2 rfl rfl,shift_p,ld1_p (u:=aI g.inputs) o2 rfl rfl,bin_neq,decide_eq_true rfl,onB_v,gd_nT (b:=true) rfl]
 rw[shift_p,ld1_p (u:=pL g.ands) p2 rfl rfl,lenS_pL,shift_p,ld1_p (u:=pL g.ands) o2 rfl rfl,lenS_pL,bin_neq,decide_eq_true rfl,onB_v,gd_nT (b:=true) rfl]
 refine loop60_0 (fun y T=>T=S2∧∃ i:Nat,y=aI i∧i≤g.ands.length) (fun y _=>g.ands.length - ((intA y).getD 0).toNat) ⟨rfl,0,rfl,Nat.zero_le _⟩ ?_
 rintro _ T ⟨rfl,i,rfl,hi⟩ KE hKE
 unfold b60_0
 rw[shift_p,ld1_p (u:=pL g.ands) p2 rfl rfl,lenS_pL,bin_lss,onB_v]
 refine gd_of (fun hlt=>?_) (fun _=>⟨rfl,kk⟩)
 have hlt:i<g.ands.length:=by have:=dT hlt;omega
 refine W J_shift (W (J_ldp (u:=pL g.ands) p2 rfl rfl) (W (J_ixp hlt) ⟨_,W ldN_q2 ⟨rfl,rfl⟩,W J_shift (W (J_ldp (u:=pL g.ands) o2 rfl rfl) (W (J_ixp hlt) ⟨_,W ldN_q2 ⟨rfl,rfl⟩,_,W binP_same' ⟨rfl,rfl⟩,?_⟩))⟩))
 rw[onB_v,gd_false]
 rw[bin_add (by omega) (by omega)]
 exact hKE _ _ ⟨rfl,i+1,rfl,hlt⟩ (by simp[intA];omega)
theorem eqS_pp{a b:Int}{S:Store}{K:AV→Store→Prop}:eqS [1,1] .neq (.a [aI a,aI b]) (.a [aI a,aI b]) S K=K (.v (.bool false)) S:=by
 simp[eqS,eqA,eqV]
theorem eqS_na{x:Na}{S:Store}{K:AV→Store→Prop}:eqS [1,1,3] .neq (.a x.row) (.a x.row) S K=K (.v (.bool false)) S:=by
 have:(x.text == x.text)=true:=by
  show(x.text.data == x.text.data)=true
  simp
 simp[eqS,eqA,eqV,Na.row,this]
theorem ans62{l:List Int}(hl:l.length≤9223372036854775807):Ans Pg 62 [aL aI l,aL aI l] (aB true):=by
 intro S
 refine calls62 ?_
 unfold m62
 rw[lenS_aL,lenS_aL,bin_neq,onB_v,gd_nT (decide_eq_true rfl)]
 refine loop62_0 (fun y T=>T=S∧∃ i:Nat,y=aI i∧i≤l.length) (fun y _=>l.length - ((intA y).getD 0).toNat) ⟨rfl,0,rfl,Nat.zero_le _⟩ ?_
 rintro _ T ⟨rfl,i,rfl,hi⟩ KE hKE
 unfold b62_0
 rw[lenS_aL,bin_lss,onB_v]
 refine gd_of (fun hlt=>?_) (fun _=>⟨rfl,rfl⟩)
 have hlt:i<l.length:=by have:=dT hlt;omega
 refine W (J_ix hlt) ⟨_,by rw[ld1_q];exact⟨rfl,rfl⟩,W (J_ix hlt) ⟨_,by rw[ld1_q];exact⟨rfl,rfl⟩,W J_neqS ?_⟩⟩
 rw[onB_v,gd_false,bin_add (by omega) (by omega)]
 exact hKE _ _ ⟨rfl,i+1,rfl,hlt⟩ (by simp[intA];omega)
theorem J_ixn{l:List Na}{e i:Nat}{S0:Store}{P:AV→Prop}(h:i<l.length):(∃ q,(ixS e 3 (nL l) (aI i) S0 fun v S=>v=q∧S=S0)∧P q)=P (.q l[i].row 0):=J_by (op:=fun K=>ixS e 3 (nL l) (aI i) S0 K) fun K=>ixS_nL h
theorem J_lennL{l:List Na}{S0:Store}{P:AV→Prop}:(∃ q,(lenS (nL l) S0 fun v S=>v=q∧S=S0)∧P q)=P (aI l.length):=J_by (op:=fun K=>lenS (nL l) S0 K) fun K=>lenS_nL _
theorem ans25{c:Ci}(hc:c.ok):Ans Pg 25 [c.av,c.av] (aB true):=by
 intro S
 refine ACalls.ans_v (calls25 ?_)
 unfold m25
 have hll:=hc.llen
 have hnl:=hc.nlen
 refine boxA_of rfl fun S1 k1 n1 o1=>?_
 refine boxA_of rfl fun S2 k2 n2 o2=>?_
 have p2:=(k2.2 _ (by omega)).trans o1
 have kk:=k1.trans k2
 refine W (J_ldN (n:=8) p2 rfl) (J_callA (ans61 c) (W (J_ldN (n:=8) o2 rfl) (J_callA (ans61 c) (J_callA (ans60 hc.gr) (W J_notB ?_)))))
 rw[onB_v,gd_nT rfl]
 refine W J_shift (W (J_ldp (u:=aI c.inputs) p2 rfl rfl) (W J_shift (W (J_ldp (u:=aI c.inputs) o2 rfl rfl) (W J_neqS (W J_mvS ?_)))))
 rw[onB_v,gd_false]
 refine W J_shift (W (J_ldp (u:=pL c.latches) p2 rfl rfl) (W J_lenpL' (W J_shift (W (J_ldp (u:=pL c.latches) o2 rfl rfl) (W J_lenpL' (W J_neqS (W J_mvS ?_)))))))
 rw[onB_v,gd_false]
 refine W J_shift (W (J_ldp (u:=nL c.names) p2 rfl rfl) (W J_lennL (W J_shift (W (J_ldp (u:=nL c.names) o2 rfl rfl) (W J_lennL (W J_neqS (W J_mvS ?_)))))))
 rw[onB_v,gd_false]
 refine loop25_0 (fun y T=>S2=T∧∃ i:Nat,y=aI i∧i≤c.latches.length) (fun y _=>c.latches.length - ((intA y).getD 0).toNat) ⟨rfl,0,rfl,Nat.zero_le _⟩ ?_
 rintro _ T ⟨rfl,i,rfl,hi⟩ KE hKE
 unfold b25_0
 rw[shift_p,ld1_p (u:=pL c.latches) p2 rfl rfl,lenS_pL,bin_lss,onB_v]
 refine gd_of (fun hlt=>?_) (fun _=>?_)
 ·have hlt:i<c.latches.length:=by have:=dT hlt;omega
  refine W J_shift (W (J_ldp (u:=pL c.latches) p2 rfl rfl) (W (J_ixp hlt) ⟨_,W ldN_q2 ⟨rfl,rfl⟩,W J_shift (W (J_ldp (u:=pL c.latches) o2 rfl rfl) (W (J_ixp hlt) ⟨_,W ldN_q2 ⟨rfl,rfl⟩,_,W eqS_pp ⟨rfl,rfl⟩,?_⟩))⟩))
  rw[onB_v,gd_false,bin_add (by omega) (by omega)]
  exact hKE _ _ ⟨rfl,i+1,rfl,hlt⟩ (by simp[intA];omega)
 refine loop25_1 (fun y T=>S2=T∧∃ i:Nat,y=aI i∧i≤c.names.length) (fun y _=>c.names.length - ((intA y).getD 0).toNat) ⟨rfl,0,rfl,Nat.zero_le _⟩ ?_
 rintro _ T ⟨rfl,i,rfl,hi⟩ KE hKE
 unfold b25_1
 rw[shift_p,ld1_p (u:=nL c.names) p2 rfl rfl,lenS_nL,bin_lss,onB_v]
 refine gd_of (fun hlt=>?_) (fun _=>?_)
 ·have hlt:i<c.names.length:=by have:=dT hlt;omega
  refine W J_shift (W (J_ldp (u:=nL c.names) p2 rfl rfl) (W (J_ixn hlt) ⟨_,W ldN_q3 ⟨rfl,rfl⟩,W J_shift (W (J_ldp (u:=nL c.names) o2 rfl rfl) (W (J_ixn hlt) ⟨_,W ldN_q3 ⟨rfl,rfl⟩,_,W (eqS_na (x:=c.names[i])) ⟨rfl,rfl⟩,?_⟩))⟩))
  rw[onB_v,gd_false,bin_add (by omega) (by omega)]
  exact hKE _ _ ⟨rfl,i+1,rfl,hlt⟩ (by simp[intA];omega)
 rw[shift_p,ld1_p (u:=aL aI c.outs) p2 rfl rfl,shift_p,ld1_p (u:=aL aI c.outs) o2 rfl rfl]
 refine callF_ans (ans62 hc.outs.2) ?_
 rw[onB_v,gd_true,shift_p,ld1_p (u:=aL aI c.bads) p2 rfl rfl,shift_p,ld1_p (u:=aL aI c.bads) o2 rfl rfl]
 refine callF_ans (ans62 hc.bads.2) ?_
 rw[onB_v,gd_true,shift_p,ld1_p (u:=aL aI c.cons) p2 rfl rfl,shift_p,ld1_p (u:=aL aI c.cons) o2 rfl rfl]
 refine callF_ans (ans62 hc.cons.2) ?_
 rw[onB_v,gd_true,shift_p,ld1_p (u:=aL aI c.fair) p2 rfl rfl,shift_p,ld1_p (u:=aL aI c.fair) o2 rfl rfl]
 refine callF_ans (ans62 hc.fair.2) ?_
 exact⟨rfl,kk⟩
theorem e0C{p:Ci × Int}{S:Store}{K:AV→Store→Prop}:extr (retC p) 0 S K=K p.1.av S:=ext_t rfl
theorem e1C{p:Ci × Int}{S:Store}{K:AV→Store→Prop}:extr (retC p) 1 S K=K (aI p.2) S:=ext_t rfl
theorem cE_ok:cE.ok:=ok_of_small ⟨by decide,by decide⟩ (by decide) (fun _ h=>by cases h) (fun _ h=>by cases h) (fun _ h=>by cases h) (fun _ h=>by cases h) (fun _ h=>by cases h) (fun _ h=>by cases h) (fun _ h=>by cases h)
theorem parse_ok(s:Bs):(parseP s).1.ok:=by
 rw[parseP_o]
 split
 ·exact cE_ok
 ·rename_i h
  cases ho:oP s with
  |error e=>exact cE_ok
  |ok c =>
   unfold outP
   simp only
   split
   ·exact(oP_ok (by omega) c ho).1
   ·exact cE_ok
theorem ans19(s:Bs):Ans Pg 19 [aT s] (aB true):=by
 intro S
 refine ACalls.ans_v (calls19 ?_)
 unfold m19
 refine callF_ans (ans24 s) ?_
 rw[e0C,e1C]
 refine boxA_of rfl fun S1 k1 n1 o1=>?_
 refine stA_of (cs':=(parseP s).1.cells) o1 rfl rfl fun S2 n2 o2 f2=>?_
 have k2:=k1.st (Nat.le_refl _) n2 f2
 refine callF_ans (ans32 s) ?_
 rw[e0C,e1C]
 refine boxA_of rfl fun S3 k3 n3 o3=>?_
 refine stA_of (cs':=(parseP s).1.cells) o3 rfl rfl fun S4 n4 o4 f4=>?_
 have k4:=k3.st (Nat.le_refl _) n4 f4
 rw[ldN_p (n:=8) ((k4.2 _ (by omega)).trans o2) rfl,ldN_p (n:=8) o4 rfl]
 refine callF_ans (ans25 (parse_ok s)) ?_
 rw[onB_v,gd_true,bin_eql,decide_eq_true rfl]
 exact⟨rfl,k2.trans k4⟩
def c1A:Ci:=⟨0,[(3,0)],[],[],[],[],[],[]⟩
def s1A:Bs:=[97,97,103,32,49,32,48,32,49,32,48,32,48,10,50,32,51,10]
def s2A:Bs:=[97,97,103,32,49,32,48,32,49,32,48,32,48,10,50,32,52,10]
def s3A:Bs:=[97,97,103,32,49,32,48,32,49,32,48,32,48,10,51,32,51,10]
def s4A:Bs:=[97,105,103,32,49,32,48,32,49,32,48,32,48,10,50,32,51,10]
def t1A:Bs:=[97,97,103,32,49,32,48,32,49,32,48,32,48,32,48,32,48,32,48,32,48,10,50,32,51,10]
theorem oA1:oP s1A = .ok c1A:=by kernel_rfl
theorem oA2:∃ c:Ci,oP s2A = .ok c∧c.latches = [(4,0)]∧c.inputs=0∧c.ands = []:=⟨⟨0,[(4,0)],[],[],[],[],[],[]⟩,by kernel_rfl,rfl,rfl,rfl⟩
theorem oA3:oP s3A = .error 21:=by kernel_rfl
theorem oA4:oP s4A = .error 20:=by kernel_rfl
theorem rA1:c1A.right=true:=right_c.2 ⟨by decide,by decide,by decide,by decide,by decide,by decide,by decide,by decide,by decide,by decide,by decide,by decide,by
 simp only[namesB,decide_eq_true_eq]
 exact NamesR.zero c1A⟩
theorem pA1:parseP s1A=(c1A,0):=by
 rw[parseP_o,if_neg (by decide),oA1]
 show(if c1A.right=true then _ else _)=_
 rw[if_pos rA1]
theorem pA2:(parseP s2A).2=22:=by
 obtain⟨c,h,hl,hi,ha⟩:=oA2
 rw[parseP_o,if_neg (by decide),h]
 show((if c.right=true then(c,0)else(cE,22):Ci × Int)).2=_
 rw[if_neg]
 intro hr
 have h1:(c.latches.all (latOk c.gr))=true:=by
  unfold Ci.right at hr
  simp only[Bool.and_eq_true]at hr
  exact hr.2.2.1
 rw[hl]at h1
 have hg:c.gr=(⟨0,[(4,0)],[],[],[],[],[],[]⟩:Ci).gr:=by
  unfold Ci.gr
  rw[hl,hi,ha]
 rw[hg]at h1
 revert h1
 decide +kernel
theorem pA3:(parseP s3A).2=21:=by rw[parseP_o,if_neg (by decide),oA3];rfl
theorem pA4:(parseP s4A).2=20:=by rw[parseP_o,if_neg (by decide),oA4];rfl
theorem tA1:c1A.aagT=t1A:=by decide +kernel
theorem okA1:c1A.ok:=by have:=parse_ok s1A;rw[pA1]at this;exact this
def cN:Ci:=⟨-1,[],[],[],[],[],[],[]⟩
theorem rN:¬ cN.right=true:=by
 intro hr
 unfold Ci.right at hr
 simp only[Bool.and_eq_true]at hr
 have:=hr.1
 revert this
 decide +kernel
theorem okN:cN.ok:=⟨⟨by decide,by decide⟩,by decide,by decide,(fun p hp=>by cases hp),(fun p hp=>by cases hp),⟨fun x hx=>(by cases hx),by decide⟩,⟨fun x hx=>(by cases hx),by decide⟩,⟨fun x hx=>(by cases hx),by decide⟩,⟨fun x hx=>(by cases hx),by decide⟩,(fun x hx=>by cases hx),by decide⟩
theorem cvN{S:Store}{m:Nat}{i:Int}:Cv S m (.a [aI i,.nl,.nl,.nl,.nl,.nl,.nl,.nl]) (Ci.av ⟨i,[],[],[],[],[],[],[]⟩):=by
 refine .a _ (Ci.cells ⟨i,[],[],[],[],[],[],[]⟩) rfl fun k u u2 h1 h2=>?_
 match k with
 |0=>cases h1;cases h2;exact .v _
 |1=>cases h1;cases h2;exact .nl
 |2=>cases h1;cases h2;exact .nl
 |3=>cases h1;cases h2;exact .nl
 |4=>cases h1;cases h2;exact .nl
 |5=>cases h1;cases h2;exact .nl
 |6=>cases h1;cases h2;exact .nl
 |7=>cases h1;cases h2;exact .nl
 |k+8=>cases h1
theorem J_eqT{a b:Bs}{kd:Nat}{S0:Store}{P:AV→Prop}:(∃ q,(bin .eql kd (aT a) (aT b) S0 fun v S=>v=q∧S=S0)∧P q)=P (aB (decide (a=b))):=J_by (op:=fun K=>bin .eql kd (aT a) (aT b) S0 K) fun K=>by
 rw[bin_eqlS]
 have e:decide ((⟨a.toArray⟩:ByteArray)=⟨b.toArray⟩)=decide (a=b):=decide_eq_decide.2 ab_eq
 rw[e]
instance (priority:=2000) jnEqII {S0:Store} {P:AV→Prop} {k:IntKind} {a:Int} {kd:Nat}:Jn (∃ q,(bin .eql kd (.v (.int k a)) (.v (.int k a)) S0 fun v S=>v=q∧S=S0)∧P q) (P (.v (.bool true))):=⟨by
 have:=J_eql (k:=k) (a:=a) (b:=a) (kd:=kd) (S0:=S0) (P:=P)
 rw[decide_eq_true rfl]at this
 exact this⟩
theorem J_eqTT{a:Bs}{kd:Nat}{S0:Store}{P:AV→Prop}:(∃ q,(bin .eql kd (aT a) (aT a) S0 fun v S=>v=q∧S=S0)∧P q)=P (.v (.bool true)):=by
 rw[J_eqT,decide_eq_true rfl]
theorem ans18:Ans Pg 18 [] (aB true):=by
 intro S
 refine ACalls.ans_v (calls18 ?_)
 unfold m18
 refine callF_ans (ans24 s1A) ?_
 rw[e0C,e1C,pA1]
 dsimp only
 refine boxA_of rfl fun S1 k1 n1 o1=>?_
 refine stA_of (cs':=c1A.cells) o1 rfl rfl fun S2 n2 o2 f2=>?_
 have k2:=k1.st (Nat.le_refl _) n2 f2
 rw[ldN_p (n:=8) o2 rfl]
 have hp:=ans20 okA1 (by decide)
 rw[if_pos rA1,tA1]at hp
 refine callF_ans hp ?_
 rw[extr0,extr1]
 refine callF_ans (ans24 s2A) ?_
 rw[e0C,e1C,pA2]
 refine boxA_of rfl fun S3 k3 n3 o3=>?_
 refine stA_of (cs':=(parseP s2A).1.cells) o3 rfl rfl fun S4 n4 o4 f4=>?_
 have k4:=k3.st (Nat.le_refl _) n4 f4
 refine callF_ans (ans24 s3A) ?_
 rw[e0C,e1C,pA3]
 refine boxA_of rfl fun S5 k5 n5 o5=>?_
 refine stA_of (cs':=(parseP s3A).1.cells) o5 rfl rfl fun S6 n6 o6 f6=>?_
 have k6:=k5.st (Nat.le_refl _) n6 f6
 refine callF_ans (ans24 s4A) ?_
 rw[e0C,e1C,pA4]
 refine boxA_of rfl fun S7 k7 n7 o7=>?_
 refine stA_of (cs':=(parseP s4A).1.cells) o7 rfl rfl fun S8 n8 o8 f8=>?_
 have k8:=k7.st (Nat.le_refl _) n8 f8
 refine⟨[aI (-1),.nl,.nl,.nl,.nl,.nl,.nl,.nl],rfl,?_⟩
 have hq:=ans20 okN (by decide)
 rw[if_neg rN]at hq
 refine callF_cv' (args:=[.a [aI (-1),.nl,.nl,.nl,.nl,.nl,.nl,.nl]]) hq rfl (cv_1 (cvN (i:=-1))) ?_
 rw[extr0,extr1]
 have o8':S8.obj S.n=some (.cells 29 [c1A.cells] true):=(k8.2 _ (by omega)).trans ((k6.2 _ (by omega)).trans ((k4.2 _ (by omega)).trans o2))
 have kk:Keep S S8:=((k2.trans k4).trans k6).trans k8
 have hix:∀{P:AV→Prop},(∃ q,(ixS 51 2 (pL c1A.latches) (.v (.int .i64 0)) S8 fun v S=>v=q∧S=S8)∧P q)=P (.q [aI 3,aI 0] 0):=J_by (op:=fun K=>ixS 51 2 (pL c1A.latches) (.v (.int .i64 0)) S8 K) fun K=>ixS_pL (l:=c1A.latches) (i:=0) (by decide)
 have hln:∀{P:AV→Prop},(∃ q,(lenS (pL c1A.latches) S8 fun v S=>v=q∧S=S8)∧P q)=P (.v (.int .i64 1)):=J_by (op:=fun K=>lenS (pL c1A.latches) S8 K) fun K=>lenS_pL _
 show ∃ q:AV,_
 (repeat (first|with_reducible_and_instances (first|refine WJ ?_|refine W (J_ldp (u:=pL c1A.latches) o8' (by with_unfolding_all rfl) (by with_unfolding_all rfl)) ?_|refine W (hln) ?_|refine W (hix) ?_|refine W (J_eqTT (a:=t1A)) ?_|refine W (J_ldq (by with_unfolding_all rfl)) ?_)))
 exact⟨rfl,kk⟩
theorem law3{s:ByteArray}:Ans Pg 3 [.v (.string s)] (aB true):=by
 intro S
 have hs:=ans19 s.data.toList
 rw[←aT_data]at hs
 refine calls3 ?_
 unfold m3
 refine callF_ans ans18 ?_
 rw[onB_v,gd_true,lenStr_b,bin_gtr,onB_v]
 refine gd_of (fun _=>?_) (fun _=>callF_ans hs ⟨rfl,rfl⟩)
 rw[lenStr_b,bin_leq,onB_v]
 exact gd_of (fun _=>⟨rfl,rfl⟩) (fun _=>callF_ans hs ⟨rfl,rfl⟩)
section
set_option maxRecDepth 100000
def c4:Code:=(Tryz.f4.body).getD .skip
def r4:List ResultVar:=Tryz.f4.results.toList
def ms4:List (List Nat):=[[]]
def m4(x0:AV)(S:Store)(Q:PoT):Prop:=
 boxN 29 8 x0 S fun a S=>shift a 2 S fun c S=>ld1 c S fun d S=>lenS d S fun e S=>bin .gtr 0 e (.v (.int .i64 60)) S fun f S=>onB f fun b=>gd b (callF Pg 18 [] S Q fun g S=>Q (.ret g) S) (shift a 1 S fun h S=>ld1 h S fun i S=>lenS i S fun k S=>bin .gtr 0 k (.v (.int .i64 60)) S fun l S=>onB l fun b=>gd b (callF Pg 18 [] S Q fun m S=>Q (.ret m) S) (shift a 7 S fun n S=>ld1 n S fun o S=>lenS o S fun p S=>bin .gtr 0 p (.v (.int .i64 60)) S fun q S=>onB q fun b=>gd b (callF Pg 18 [] S Q fun r S=>Q (.ret r) S) (shift a 0 S fun s S=>ld1 s S fun t S=>bin .gtr 0 t (.v (.int .i64 60)) S fun u S=>onB u fun b=>gd b (callF Pg 18 [] S Q fun w S=>Q (.ret w) S) (ldN 8 a S fun x S=>callF Pg 20 [x] S Q fun y S=>extr y 0 S fun z S=>extr y 1 S fun A S=>ldN 8 a S fun B S=>callF Pg 21 [B] S Q fun C S=>extr C 0 S fun D S=>extr C 1 S fun E S=>callF Pg 18 [] S Q fun F S=>onB F fun b=>gd b (bin .eql 0 z D S fun G S=>onB G fun b=>gd b (bin .eql 0 A E S fun H S=>Q (.ret H) S) (Q (.ret (.v (.bool false))) S)) (Q (.ret (.v (.bool false))) S)))))
theorem calls4{x0:AV}{S:Store}{Q:PoT}(h:m4 x0 S Q):ACalls Pg 4 [x0] S Q:=
 calls_of_vc (fn:=Tryz.f4) (c:=c4) (n:=50) Tryz.func4 (by kernel_rfl) (by kernel_rfl) (by kernel_rfl) ms4 (Eq.mpr (by kernel_rfl) h)
end
theorem law4{c:Ci}(hg:c.got):Ans Pg 4 [c.av] (aB true):=by
 intro S
 refine ACalls.ans_v (calls4 ?_)
 unfold m4
 refine boxA_of rfl fun S1 k1 n1 o1=>?_
 rw[shift_p,ld1_p (u:=pL c.ands) o1 rfl rfl,lenS_pL,bin_gtr,onB_v]
 refine gd_of (fun _=>callF_ans ans18 ⟨rfl,k1⟩) (fun h60a=>?_)
 rw[shift_p,ld1_p (u:=pL c.latches) o1 rfl rfl,lenS_pL,bin_gtr,onB_v]
 refine gd_of (fun _=>callF_ans ans18 ⟨rfl,k1⟩) (fun h60l=>?_)
 rw[shift_p,ld1_p (u:=nL c.names) o1 rfl rfl,lenS_nL,bin_gtr,onB_v]
 refine gd_of (fun _=>callF_ans ans18 ⟨rfl,k1⟩) (fun h60n=>?_)
 have hc:c.ok:=hg.ok (by have:=dF h60l;omega) (by have:=dF h60a;omega) (by have:=dF h60n;omega)
 rw[shift_p,ld1_p (u:=aI c.inputs) o1 rfl rfl,bin_gtr,onB_v]
 refine gd_of (fun _=>callF_ans ans18 ⟨rfl,k1⟩) (fun _=>?_)
 rw[ldN_p (n:=8) o1 rfl]
 have h1:=ans20 hc hc.nlen
 have h2:=ans21 hc hc.nlen
 obtain⟨b,e,he⟩:∃(b:Bs) (e:Int),(if c.right=true then AV.t [aT c.aagT,aI 0]else .t [aT [],aI 1]) = .t [aT b,aI e]:=by
  split
  ·exact⟨_,_,rfl⟩
  ·exact⟨_,_,rfl⟩
 rw[he]at h1 h2
 refine callF_ans h1 ?_
 rw[extr0,extr1,ldN_p (n:=8) o1 rfl]
 refine callF_ans h2 ?_
 rw[extr0,extr1]
 refine callF_ans ans18 ?_
 rw[onB_v,gd_true]
 refine W (bin_eqlS ⟨b.toArray⟩ ⟨b.toArray⟩ 0) ?_
 rw[decide_eq_true rfl,onB_v,gd_true,bin_eql,decide_eq_true rfl]
 exact⟨rfl,k1⟩
section
variable {H:Type} {enc:TypeId × Value→H} {w:World} {sp:Nat→Bool} {held:Bool}
theorem opUs:Opens enc Pg w sp held 37 1 (fun l:List Int=>[aL (fun n=>AV.v (.int .u8 n)) l]) (fun l=>l.length≤maxLen∧∀ a∈l,(Lit.int .u8 a).wf=true):=opens_slice Tryz.underlying37 (by kernel_rfl) (by decide) opU
end
section
set_option maxRecDepth 100000
def c5:Code:=(Tryz.f5.body).getD .skip
def r5:List ResultVar:=Tryz.f5.results.toList
def ms5:List (List Nat):=[[]]
def m5(x0:AV)(S:Store)(Q:PoT):Prop:=
 callF Pg 22 [x0] S Q fun c S=>boxN 29 8 (.a [.v (.int .i64 0),.nl,.nl,.nl,.nl,.nl,.nl,.nl]) S fun d S=>stN 8 d c S fun e S=>ldN 8 d S fun f S=>callF Pg 20 [f] S Q fun g S=>extr g 0 S fun h S=>extr g 1 S fun i S=>ldN 8 d S fun k S=>callF Pg 21 [k] S Q fun l S=>extr l 0 S fun m S=>extr l 1 S fun n S=>callF Pg 18 [] S Q fun o S=>onB o fun b=>gd b (bin .eql 0 h m S fun p S=>onB p fun b=>gd b (bin .eql 0 i n S fun q S=>onB q fun b=>gd b (callF Pg 19 [h] S Q fun r S=>Q (.ret r) S) (Q (.ret (.v (.bool false))) S)) (Q (.ret (.v (.bool false))) S)) (Q (.ret (.v (.bool false))) S)
theorem calls5{x0:AV}{S:Store}{Q:PoT}(h:m5 x0 S Q):ACalls Pg 5 [x0] S Q:=
 calls_of_vc (fn:=Tryz.f5) (c:=c5) (n:=35) Tryz.func5 (by kernel_rfl) (by kernel_rfl) (by kernel_rfl) ms5 (Eq.mpr (by kernel_rfl) h)
end
theorem law5{l:List Int}(hl:∀ x∈l,0≤x∧x<65536):Ans Pg 5 [aL aW16 l] (aB true):=by
 intro S
 refine ACalls.ans_v (calls5 ?_)
 unfold m5
 refine .inl ((made222 hl).mono ?_)
 rintro e S' ⟨tr,rfl,rfl,c,rfl,hm,-,-⟩
 have hc:c.ok:=hm.ok
 show boxN _ _ _ _ _
 refine boxA_of rfl fun S1 k1 n1 o1=>?_
 refine stA_of (cs':=c.cells) o1 rfl rfl fun S2 n2 o2 f2=>?_
 have k2:=k1.st (Nat.le_refl _) n2 f2
 have h1:=ans20 hc hc.nlen
 have h2:=ans21 hc hc.nlen
 obtain⟨b,e,he⟩:∃(b:Bs) (e:Int),(if c.right=true then AV.t [aT c.aagT,aI 0]else .t [aT [],aI 1]) = .t [aT b,aI e]:=by
  split
  ·exact⟨_,_,rfl⟩
  ·exact⟨_,_,rfl⟩
 rw[he]at h1 h2
 rw[ldN_p (n:=8) o2 rfl]
 refine callF_ans h1 ?_
 rw[extr0,extr1,ldN_p (n:=8) o2 rfl]
 refine callF_ans h2 ?_
 rw[extr0,extr1]
 refine callF_ans ans18 ?_
 rw[onB_v,gd_true]
 refine W (bin_eqlS ⟨b.toArray⟩ ⟨b.toArray⟩ 0) ?_
 rw[decide_eq_true rfl,onB_v,gd_true,bin_eql,decide_eq_true rfl,onB_v,gd_true]
 refine callF_ans (ans19 b) ?_
 exact⟨rfl,k2⟩
section
set_option maxRecDepth 100000
def c8:Code:=(Tryz.f8.body).getD .skip
def ms8:List (List Nat):=[[]]
def m8(x0:AV)(S:Store)(Q:PoT):Prop:=
 callF Pg 18 [] S Q fun c S=>un .not c S fun d S=>onB d fun b=>gd b (Q (.ret (.v (.bool false))) S) (callF Pg 22 [x0] S Q fun e S=>boxN 29 8 (.a [.v (.int .i64 0),.nl,.nl,.nl,.nl,.nl,.nl,.nl]) S fun f S=>stN 8 f e S fun g S=>ldN 8 f S fun h S=>callF Pg 20 [h] S Q fun i S=>extr i 0 S fun k S=>extr i 1 S fun l S=>callF Pg 24 [k] S Q fun m S=>extr m 0 S fun n S=>extr m 1 S fun o S=>boxN 29 8 (.a [.v (.int .i64 0),.nl,.nl,.nl,.nl,.nl,.nl,.nl]) S fun p S=>stN 8 p n S fun q S=>bin .add 0 k (.v (.string { data:=#[99,10,97,110,121,116,104,105,110,103] })) S fun r S=>callF Pg 24 [r] S Q fun s S=>extr s 0 S fun t S=>extr s 1 S fun u S=>boxN 29 8 (.a [.v (.int .i64 0),.nl,.nl,.nl,.nl,.nl,.nl,.nl]) S fun w S=>stN 8 w t S fun x S=>onB c fun b=>gd b (bin .eql 0 l (.v (.int .i64 0)) S fun y S=>onB y fun b=>gd b (bin .eql 0 o (.v (.int .i64 0)) S fun z S=>onB z fun b=>gd b (bin .eql 0 u (.v (.int .i64 0)) S fun A S=>onB A fun b=>gd b (ldN 8 f S fun B S=>ldN 8 p S fun C S=>callF Pg 25 [B,C] S Q fun D S=>onB D fun b=>gd b (ldN 8 f S fun E S=>ldN 8 w S fun F S=>callF Pg 25 [E,F] S Q fun G S=>Q (.ret G) S) (Q (.ret (.v (.bool false))) S)) (Q (.ret (.v (.bool false))) S)) (Q (.ret (.v (.bool false))) S)) (Q (.ret (.v (.bool false))) S)) (Q (.ret (.v (.bool false))) S))
theorem calls8{x0:AV}{S:Store}{Q:PoT}(h:m8 x0 S Q):ACalls Pg 8 [x0] S Q:=
 calls_of_vc (fn:=Tryz.f8) (c:=c8) (n:=55) Tryz.func8 (by kernel_rfl) (by kernel_rfl) (by kernel_rfl) ms8 (Eq.mpr (by kernel_rfl) h)
end
theorem made_items{c:Ci}(h:MadeC c):c.items≤21:=by
 obtain⟨b1,b2,t,hn⟩:=h.names
 have hl:c.names.length≤2:=by
  rw[hn.1]
  cases b1<;>cases b2<;>simp
 have:=h.inp
 have:=h.lats
 have:=h.ands
 have:=h.outs
 have:=h.bads
 have:=h.cons
 have:=h.fair
 unfold Ci.items
 omega
theorem law8{l:List Int}(hl:∀ x∈l,0≤x∧x<65536):Ans Pg 8 [aL aW16 l] (aB true):=by
 intro S
 refine ACalls.ans_v (calls8 ?_)
 unfold m8
 refine callF_ans ans18 ?_
 rw[un_not,onB_v,gd_nT rfl]
 refine .inl ((made222 hl).mono ?_)
 rintro e S' ⟨tr,rfl,rfl,c,rfl,hm,-,-⟩
 have hc:c.ok:=hm.ok
 have hr:=hm.right
 have hlen:=aag_len (nums_of hr)
 have hit:=made_items hm
 have p1:parseP c.aagT=(c,0):=by
  have:=parse_back (rest:=[]) hr (.inl rfl) (by rw[List.append_nil];omega)
  rwa [List.append_nil]at this
 have p2:parseP (c.aagT ++ [99,10,97,110,121,116,104,105,110,103])=(c,0):=parse_back hr (.inr ⟨_,rfl⟩) (by simp only[List.length_append,List.length_cons,List.length_nil];omega)
 have h1:=ans20 hc hc.nlen
 rw[if_pos hr]at h1
 show boxN _ _ _ _ _
 refine boxA_of rfl fun S1 k1 n1 o1=>?_
 refine stA_of (cs':=c.cells) o1 rfl rfl fun S2 n2 o2 f2=>?_
 have k2:=k1.st (Nat.le_refl _) n2 f2
 rw[ldN_p (n:=8) o2 rfl]
 refine callF_ans h1 ?_
 rw[extr0,extr1]
 refine callF_ans (ans24 c.aagT) ?_
 rw[e0C,e1C,p1]
 dsimp only
 refine boxA_of rfl fun S3 k3 n3 o3=>?_
 refine stA_of (cs':=c.cells) o3 rfl rfl fun S4 n4 o4 f4=>?_
 have k4:=k3.st (Nat.le_refl _) n4 f4
 refine W (bin_addT (b:=[99,10,97,110,121,116,104,105,110,103]) (by simp only[List.length_cons,List.length_nil];omega)) ?_
 refine callF_ans (ans24 _) ?_
 rw[e0C,e1C,p2]
 dsimp only
 refine boxA_of rfl fun S5 k5 n5 o5=>?_
 refine stA_of (cs':=c.cells) o5 rfl rfl fun S6 n6 o6 f6=>?_
 have k6:=k5.st (Nat.le_refl _) n6 f6
 rw[onB_v,gd_true,bin_eql,onB_v,gd_T (decide_eq_true rfl),bin_eql,onB_v,gd_T (decide_eq_true rfl),bin_eql,onB_v,gd_T (decide_eq_true rfl)]
 have q2:=(k6.2 _ (by omega)).trans ((k4.2 _ (by omega)).trans o2)
 have q4:=(k6.2 _ (by omega)).trans o4
 rw[ldN_p (n:=8) q2 rfl,ldN_p (n:=8) q4 rfl]
 refine callF_ans (ans25 hc) ?_
 rw[onB_v,gd_true,ldN_p (n:=8) q2 rfl,ldN_p (n:=8) o6 rfl]
 refine callF_ans (ans25 hc) ?_
 exact⟨rfl,(k2.trans k4).trans k6⟩
section
set_option maxRecDepth 100000
def c10:Code:=(Tryz.f10.body).getD .skip
def r10:List ResultVar:=Tryz.f10.results.toList
def env10_0(y0 y1 y5 y6:AV):List AV:=[y0,y1,y5,y6]
def lv10_0:List Nat:=[0,1,5,6]
def ms10:List (List Nat):=[lv10_0,[]]
def m10(x0 x1:AV)(S:Store)(Q:PoT):Prop:=
 loopV lv10_0 (vc Pg (c10.at_ [1,1,0,1,0,0]) (ms10.drop 1)) 45 (env10_0 x0 x1 (.v (.string { data:=#[97,97,103] })) (.v (.int .i64 0))) S (blockK 0 (seqK (vc Pg (c10.at_ [1,1,1]) (ms10.drop 1)) (bodyK Pg r10 Q)))
theorem calls10{x0 x1:AV}{S:Store}{Q:PoT}(h:m10 x0 x1 S Q):ACalls Pg 10 [x0,x1] S Q:=
 calls_of_vc (fn:=Tryz.f10) (c:=c10) (n:=45) Tryz.func10 (by kernel_rfl) (by kernel_rfl) (by kernel_rfl) ms10 (Eq.mpr (by kernel_rfl) h)
def b10_0(y0 y1 y5 y6:AV)(S:Store)(KE0:KeT)(Q:PoT):Prop:=
 lenS y0 S fun a S=>bin .lss 0 y6 a S fun c S=>onB c fun b=>gd b (bin .lss 0 y6 (.v (.int .i64 12)) S fun d S=>onB d fun b=>gd b (ixS 40 1 y0 y6 S fun e S=>ld1 e S fun f S=>convI .i64 f S fun g S=>bin .lss 0 g (.v (.int .i64 60000)) S fun h S=>onB h fun b=>gd b (bin .rem 0 g (.v (.int .i64 3)) S fun i S=>bin .add 0 y5 (.v (.string { data:=#[32] })) S fun k S=>callF Pg 26 [i] S Q fun l S=>bin .add 0 k l S fun m S=>bin .add 0 y6 (.v (.int .i64 1)) S fun n S=>KE0 45 (env10_0 y0 y1 m n) S) (bin .add 0 y5 (.v (.string { data:=#[32] })) S fun o S=>callF Pg 26 [g] S Q fun p S=>bin .add 0 o p S fun q S=>bin .add 0 y6 (.v (.int .i64 1)) S fun r S=>KE0 45 (env10_0 y0 y1 q r) S)) (onB y1 fun b=>gd b (bin .add 0 y5 (.v (.string { data:=#[10,50,10,52,32,50,10] })) S fun s S=>callF Pg 18 [] S Q fun t S=>onB t fun b=>gd b (callF Pg 19 [s] S Q fun u S=>onB u fun b=>gd b (bin .add 0 s (.v (.string { data:=#[10] })) S fun w S=>callF Pg 19 [w] S Q fun x S=>Q (.ret x) S) (Q (.ret (.v (.bool false))) S)) (Q (.ret (.v (.bool false))) S)) (callF Pg 18 [] S Q fun y S=>onB y fun b=>gd b (callF Pg 19 [y5] S Q fun z S=>onB z fun b=>gd b (bin .add 0 y5 (.v (.string { data:=#[10] })) S fun A S=>callF Pg 19 [A] S Q fun B S=>Q (.ret B) S) (Q (.ret (.v (.bool false))) S)) (Q (.ret (.v (.bool false))) S)))) (onB y1 fun b=>gd b (bin .add 0 y5 (.v (.string { data:=#[10,50,10,52,32,50,10] })) S fun C S=>callF Pg 18 [] S Q fun D S=>onB D fun b=>gd b (callF Pg 19 [C] S Q fun E S=>onB E fun b=>gd b (bin .add 0 C (.v (.string { data:=#[10] })) S fun F S=>callF Pg 19 [F] S Q fun G S=>Q (.ret G) S) (Q (.ret (.v (.bool false))) S)) (Q (.ret (.v (.bool false))) S)) (callF Pg 18 [] S Q fun H S=>onB H fun b=>gd b (callF Pg 19 [y5] S Q fun I S=>onB I fun b=>gd b (bin .add 0 y5 (.v (.string { data:=#[10] })) S fun J S=>callF Pg 19 [J] S Q fun K S=>Q (.ret K) S) (Q (.ret (.v (.bool false))) S)) (Q (.ret (.v (.bool false))) S)))
theorem b10_0_eq(y0 y1 y5 y6:AV)(S:Store)(KE0:KeT)(Q:PoT):vc Pg (c10.at_ [1,1,0,1,0,0]) (ms10.drop 1) (mkE 45 lv10_0 (env10_0 y0 y1 y5 y6)) S (thenK (fgK lv10_0 KE0) (blockK 0 (seqK (vc Pg (c10.at_ [1,1,1]) (ms10.drop 1)) (bodyK Pg r10 Q))))=b10_0 y0 y1 y5 y6 S KE0 Q:=by kernel_rfl
theorem loop10_0{y0 y1:AV}{y50 y60:AV}{S:Store}{Q:PoT}(I:AV→AV→Store→Prop)(μ:AV→AV→Store→Nat)(h0:I y50 y60 S)
    (hr:∀(y5 y6:AV) (S:Store),I y5 y6 S→∀ KE0:KeT,(∀(y5' y6':AV) (S':Store),I y5' y6' S'→μ y5' y6' S'<μ y5 y6 S→KE0 45 (env10_0 y0 y1 y5' y6') S')→b10_0 y0 y1 y5 y6 S KE0 Q):
    loopV lv10_0 (vc Pg (c10.at_ [1,1,0,1,0,0]) (ms10.drop 1)) 45 (env10_0 y0 y1 y50 y60) S (blockK 0 (seqK (vc Pg (c10.at_ [1,1,1]) (ms10.drop 1)) (bodyK Pg r10 Q))):=by
 refine⟨fun n e S=>n=45∧∃ y5 y6:AV,e=(env10_0 y0 y1 y5 y6)∧I y5 y6 S,fun _ e S=>μ (e.getD 2 .j) (e.getD 3 .j) S,?_,?_⟩
 ·exact⟨_,_,Wk.refl _ _,rfl,_,_,rfl,h0⟩
 ·rintro _ e S ⟨rfl,y5,y6,rfl,hI⟩
  exact(b10_0_eq _ _ _ _ _ _ _).mpr (hr y5 y6 S hI _ (fun y5' y6' S' hI' hm=>⟨_,_,Wk.refl _ _,⟨rfl,_,_,rfl,hI'⟩,hm⟩))
end
theorem sameC{s:Bs}{S:Store}{Q:AEnd→Store→Prop}{K:AV→Store→Prop}(k:K (aB true) S):callF Pg 19 [aT s] S Q K:=callF_ans (ans19 s) k
theorem law10{l:List Int}(hl:∀ x∈l,0≤x∧x<65536){b:Bool}:Ans Pg 10 [aL aW16 l,aB b] (aB true):=by
 intro S
 refine calls10 ?_
 unfold m10
 refine loop10_0 (fun y x T=>T=S∧∃(i:Nat) (s:Bs),x=aI i∧y=aT s∧i≤12∧s.length≤3+20*i) (fun _ x _=>12 - ((intA x).getD 0).toNat) ⟨rfl,0,[97,97,103],rfl,rfl,by decide,by decide⟩ ?_
 rintro _ _ T ⟨rfl,i,s,rfl,rfl,hi,hs⟩ KE hKE
 unfold b10_0
 rw[lenS_aL,bin_lss,onB_v]
 have hlen:∀ s2:Bs,s2.length≤1000→bin .add 0 (aT s2) (.v (.string { data:=#[10] })) T fun v26 W=>callF Pg 19 [v26] W (fun e S'=>e = .ret (aB true)∧S'=T) fun v27 W=>(fun(e:AEnd) S'=>e = .ret (aB true)∧S'=T) (.ret v27) W:=fun s2 h2=>by
  refine W (bin_addT (b:=[10]) (by simp only[List.length_cons,List.length_nil];omega)) ?_
  exact sameC ⟨rfl,rfl⟩
 have fin:gd b (bin .add 0 (aT s) (.v (.string { data:=#[10,50,10,52,32,50,10] })) T fun v21 W=>callF Pg 18 [] W (fun e S'=>e = .ret (aB true)∧S'=T) fun v22 W=>onB v22 fun b=>gd b (callF Pg 19 [v21] W (fun e S'=>e = .ret (aB true)∧S'=T) fun v24 W=>onB v24 fun b=>gd b (bin .add 0 v21 (.v (.string { data:=#[10] })) W fun v26 W=>callF Pg 19 [v26] W (fun e S'=>e = .ret (aB true)∧S'=T) fun v27 W=>(fun(e:AEnd) S'=>e = .ret (aB true)∧S'=T) (.ret v27) W) ((fun(e:AEnd) S'=>e = .ret (aB true)∧S'=T) (.ret (.v (.bool false))) W)) ((fun(e:AEnd) S'=>e = .ret (aB true)∧S'=T) (.ret (.v (.bool false))) W))
     (callF Pg 18 [] T (fun e S'=>e = .ret (aB true)∧S'=T) fun v28 W=>onB v28 fun b=>gd b (callF Pg 19 [aT s] W (fun e S'=>e = .ret (aB true)∧S'=T) fun v30 W=>onB v30 fun b=>gd b (bin .add 0 (aT s) (.v (.string { data:=#[10] })) W fun v32 W=>callF Pg 19 [v32] W (fun e S'=>e = .ret (aB true)∧S'=T) fun v33 W=>(fun(e:AEnd) S'=>e = .ret (aB true)∧S'=T) (.ret v33) W) ((fun(e:AEnd) S'=>e = .ret (aB true)∧S'=T) (.ret (.v (.bool false))) W)) ((fun(e:AEnd) S'=>e = .ret (aB true)∧S'=T) (.ret (.v (.bool false))) W)):=by
  refine gd_of (fun _=>?_) (fun _=>?_)
  ·refine W (bin_addT (b:=[10,50,10,52,32,50,10]) (by simp only[List.length_cons,List.length_nil];omega)) ?_
   refine callF_ans ans18 ?_
   rw[onB_v,gd_true]
   refine sameC ?_
   rw[onB_v,gd_true]
   exact hlen _ (by simp only[List.length_append,List.length_cons,List.length_nil];omega)
  ·refine callF_ans ans18 ?_
   rw[onB_v,gd_true]
   refine sameC ?_
   rw[onB_v,gd_true]
   exact hlen _ (by omega)
 refine gd_of (fun hlt=>?_) (fun _=>by rw[onB_v];exact fin)
 have hlt:i<l.length:=by have:=dT hlt;omega
 rw[bin_lss,onB_v]
 refine gd_of (fun h12=>?_) (fun _=>by rw[onB_v];exact fin)
 have h12:i<12:=by have:(i:Int)<12:=dT h12
                   omega
 have hx:=hl _ (List.getElem_mem hlt)
 rw[ixS_aL hlt,ld1_q,convI_64 _ (by omega) (by omega),bin_lss,onB_v]
 have put:∀ n:Int,0≤n∧n≤65535→bin .add 0 (aT s) (.v (.string { data:=#[32] })) T fun v12 W=>callF Pg 26 [aI n] W (fun e S'=>e = .ret (aB true)∧S'=T) fun v13 W=>bin .add 0 v12 v13 W fun v14 W=>bin .add 0 (aI i) (.v (.int .i64 1)) W fun v15 W=>KE 45 (env10_0 (aL aW16 l) (aB b) v14 v15) W:=fun n hn=>by
  have hd:=dg_len hn.1 (by omega:n≤999999)
  refine W (bin_addT (b:=[32]) (by simp only[List.length_cons,List.length_nil];omega)) ?_
  refine callF_ans (ans26 (n:=n) ⟨hn.1,by omega⟩) ?_
  rw[bin_addT (by simp only[List.length_append,List.length_cons,List.length_nil];omega),bin_add (by omega) (by omega)]
  exact hKE _ _ _ ⟨rfl,i+1,_,rfl,rfl,h12,by simp only[List.length_append,List.length_cons,List.length_nil];omega⟩ (by simp[intA];omega)
 refine gd_of (fun _=>?_) (fun _=>put _ (by omega))
 rw[bin_rem (by decide)]
 exact put _ (by rw[Int.tmod_eq_emod_of_nonneg hx.1];omega)
section
variable {H:Type} {enc:TypeId × Value→H} {w:World} {sp:Nat→Bool} {held:Bool}
theorem opB:Opens enc Pg w sp held 4 1 (fun b:Bool=>[aB b]) (fun _=>True):=opens_bool Tryz.underlying4
end
section
set_option maxRecDepth 100000
def c7:Code:=(Tryz.f7.body).getD .skip
def r7:List ResultVar:=Tryz.f7.results.toList
def ms7:List (List Nat):=[[]]
def m7(x0 x1 x2 x3:AV)(S:Store)(Q:PoT):Prop:=
 callF Pg 22 [x0] S Q fun a S=>callF Pg 21 [a] S Q fun c S=>extr c 0 S fun d S=>extr c 1 S fun e S=>bin .eql 0 d (.v (.string { data:=#[] })) S fun f S=>onB f fun b=>gd b (Q (.ret (.v (.bool false))) S) (convI .i64 x1 S fun g S=>lenStr d S fun h S=>bin .rem 0 g h S fun i S=>(fun S0:Store=>∃ k:AV,((none:Option AV)=none∧slcStr d none (some i) S fun l S=>l=k∧S=S0)∧∃ m:AV,(bslN 5 1 1 [.v (.int .u8 0)] [(0,x2)] S fun n S=>n=m∧S=S0)∧∃ o:AV,(convBS m S fun p S=>p=o∧S=S0)∧∃ q:AV,(bin .add 0 k o S fun r S=>r=q∧S=S0)∧∃ s:AV,(bin .add 0 i (.v (.int .i64 1)) S fun t S=>t=s∧S=S0)∧∃ u:AV,((none:Option AV)=none∧slcStr d (some s) none S fun w S=>w=u∧S=S0)∧∃ x:AV,(bin .add 0 q u S fun y S=>y=x∧S=S0)∧bin .rem 0 x3 (.v (.int .u8 4)) S fun z S=>bin .eql 0 z (.v (.int .u8 1)) S fun A S=>onB A fun b=>gd b ((fun S0:Store=>∃ B:AV,((none:Option AV)=none∧slcStr d none (some i) S fun C S=>C=B∧S=S0)∧∃ D:AV,(bin .add 0 i (.v (.int .i64 1)) S fun E S=>E=D∧S=S0)∧∃ F:AV,((none:Option AV)=none∧slcStr d (some D) none S fun G S=>G=F∧S=S0)∧∃ H:AV,(bin .add 0 B F S fun I S=>I=H∧S=S0)∧callF Pg 18 [] S Q fun J S=>onB J fun b=>gd b (callF Pg 19 [H] S Q fun K S=>Q (.ret K) S) (Q (.ret (.v (.bool false))) S)) S) (bin .eql 0 z (.v (.int .u8 2)) S fun L S=>onB L fun b=>gd b ((none:Option AV)=none∧slcStr d none (some i) S fun M S=>callF Pg 18 [] S Q fun N S=>onB N fun b=>gd b (callF Pg 19 [M] S Q fun O S=>Q (.ret O) S) (Q (.ret (.v (.bool false))) S)) (bin .eql 0 z (.v (.int .u8 3)) S fun P S=>onB P fun b=>gd b (bin .add 0 d (.v (.string { data:=#[99,10] })) S fun R S=>(none:Option AV)=none∧slcStr d none (some i) S fun T S=>bin .add 0 R T S fun U S=>callF Pg 18 [] S Q fun V S=>onB V fun b=>gd b (callF Pg 19 [U] S Q fun W S=>Q (.ret W) S) (Q (.ret (.v (.bool false))) S)) (callF Pg 18 [] S Q fun X S=>onB X fun b=>gd b (callF Pg 19 [x] S Q fun Y S=>Q (.ret Y) S) (Q (.ret (.v (.bool false))) S))))) S)
theorem calls7{x0 x1 x2 x3:AV}{S:Store}{Q:PoT}(h:m7 x0 x1 x2 x3 S Q):ACalls Pg 7 [x0,x1,x2,x3] S Q:=
 calls_of_vc (fn:=Tryz.f7) (c:=c7) (n:=68) Tryz.func7 (by kernel_rfl) (by kernel_rfl) (by kernel_rfl) ms7 (Eq.mpr (by kernel_rfl) h)
end
theorem u8_byte{x:Int}(h:0≤x∧x<256):x=(((UInt8.ofNat x.toNat).toNat:Nat):Int):=by rw[UInt8.toNat_ofNat'];omega
theorem law7{l:List Int}(hl:∀ x∈l,0≤x∧x<65536){at_ byv how:Int}(ha:0≤at_∧at_<65536)(hb:0≤byv∧byv<256)(hh:0≤how∧how<256):Ans Pg 7 [aL aW16 l,.v (.int .u16 at_),.v (.int .u8 byv),.v (.int .u8 how)] (aB true):=by
 intro S
 refine calls7 ?_
 unfold m7
 refine .inl ((made222 hl).mono ?_)
 rintro e S ⟨tr,rfl,rfl,c,rfl,hm,-,-⟩
 have hc:c.ok:=hm.ok
 have hr:=hm.right
 have hlen:=aag_len (nums_of hr)
 have hit:=made_items hm
 have h2:=ans21 hc hc.nlen
 rw[if_pos hr]at h2
 have hpos:0<c.aagT.length:=by rw[Ci.aagT,Ci.headB];simp
 generalize c.aagT=s at h2 hlen hpos
 refine callF_ans h2 ?_
 rw[extr0,extr1]
 refine W (bin_eqlS ⟨s.toArray⟩ ⟨#[]⟩ 0) ?_
 rw[onB_v]
 refine gd_of (fun h0=>absurd (ab_eq (a:=s) (b:=[]) |>.1 (dT h0)) (fun e=>by rw[e]at hpos;simp at hpos)) (fun _=>?_)
 rw[convI_64 _ (by omega) (by omega),lenT,bin_rem (by omega)]
 obtain⟨k,hk,hkl⟩:∃ k:Nat,at_.tmod (s.length:Int)=k∧k<s.length:=by
  have h1:=Int.emod_nonneg at_ (show(s.length:Int)≠0 by omega)
  have h2:=Int.emod_lt_of_pos at_ (show(0:Int)<s.length by omega)
  rw[Int.tmod_eq_emod_of_nonneg ha.1]
  exact⟨(at_ % (s.length:Int)).toNat,by omega,by omega⟩
 rw[hk]
 have hby:=u8_byte hb
 have sl0:∀{P:AV→Prop},P (aT (s.take k))→∃ q,((none:Option AV)=none∧slcStr (aT s) none (some (aI k)) S fun v S'=>v=q∧S'=S)∧P q:=fun{P} kk=>⟨_,⟨rfl,slcT0 (by omega) ⟨rfl,rfl⟩⟩,kk⟩
 have sl1:∀{P:AV→Prop},P (aT (s.drop (k+1)))→∃ q,((none:Option AV)=none∧slcStr (aT s) (some (aI ((k:Int)+1))) none S fun v S'=>v=q∧S'=S)∧P q:=fun{P} kk=>⟨_,⟨rfl,slcTe (a:=k+1) (by omega) ⟨rfl,rfl⟩⟩,kk⟩
 have ht:(s.take k).length≤s.length:=by rw[List.length_take];omega
 have hd:(s.drop (k+1)).length≤s.length:=by rw[List.length_drop];omega
 have fin:∀ t:Bs,callF Pg 18 [] S (fun e S'=>e = .ret (aB true)∧S'=S) fun v35 W=>onB v35 fun b=>gd b (callF Pg 19 [aT t] W (fun e S'=>e = .ret (aB true)∧S'=S) fun v37 W=>(fun(e:AEnd) S'=>e = .ret (aB true)∧S'=S) (.ret v37) W) ((fun(e:AEnd) S'=>e = .ret (aB true)∧S'=S) (.ret (.v (.bool false))) W):=fun t=>by
  refine callF_ans ans18 ?_
  rw[onB_v,gd_true]
  exact sameC ⟨rfl,rfl⟩
 refine sl0 ?_
 rw[hby]
 refine⟨_,bsl1 rfl (fun _ h=>by cases h) ⟨rfl,rfl⟩,?_⟩
 refine⟨aT [UInt8.ofNat byv.toNat],by
  show convBS (.l ([UInt8.ofNat byv.toNat].map byteR)) _ _
  rw[convBS_l];exact⟨rfl,rfl⟩,?_⟩
 refine W (J_addT (by simp only[List.length_cons,List.length_nil];omega)) (W (J_add (by omega) (by omega)) (sl1 (W (J_addT (by simp only[List.length_append,List.length_cons,List.length_nil];omega)) ?_)))
 rw[bin_rem (by decide),bin_eql,onB_v]
 refine gd_of (fun _=>?_) (fun _=>?_)
 ·refine sl0 (W (J_add (by omega) (by omega)) (sl1 (W (J_addT (by omega)) ?_)))
  exact fin _
 rw[bin_eql,onB_v]
 refine gd_of (fun _=>⟨rfl,slcT0 (by omega) (fin _)⟩) (fun _=>?_)
 rw[bin_eql,onB_v]
 refine gd_of (fun _=>?_) (fun _=>fin _)
 refine W (bin_addT (b:=[99,10]) (by simp only[List.length_cons,List.length_nil];omega)) ?_
 refine⟨rfl,slcT0 (by omega) ?_⟩
 rw[bin_addT (by simp only[List.length_append,List.length_cons,List.length_nil];omega)]
 exact fin _
section
set_option maxRecDepth 100000
def c23:Code:=(Tryz.f23.body).getD .skip
def r23:List ResultVar:=Tryz.f23.results.toList
def env23_0(y0 y3 y4 y5:AV):List AV:=[y0,y3,y4,y5]
def lv23_0:List Nat:=[0,3,4,5]
def ms23:List (List Nat):=[lv23_0,[]]
def m23(x0:AV)(S:Store)(Q:PoT):Prop:=
 bslN 9 1 26 [.v (.string ByteArray.empty)] [(0,(.v (.string { data:=#[97,97,103,32,49,32,48,32,49,32,48,32,48,10] }))),(1,(.v (.string { data:=#[97,97,103,32,51,32,49,32,49,32,49,32,49,10] }))),(2,(.v (.string { data:=#[97,97,103,32,50,32,49,32,49,32,48,32,48,32,49,32,49,32,48,32,49,10] }))),(3,(.v (.string { data:=#[50,10] }))),(4,(.v (.string { data:=#[52,32,53,10] }))),(5,(.v (.string { data:=#[50,32,51,10] }))),(6,(.v (.string { data:=#[52,32,53,32,49,10] }))),(7,(.v (.string { data:=#[52,32,53,32,52,10] }))),(8,(.v (.string { data:=#[50,32,51,32,50,10] }))),(9,(.v (.string { data:=#[50,32,51,32,48,10] }))),(10,(.v (.string { data:=#[52,32,53,32,51,10] }))),(11,(.v (.string { data:=#[54,10] }))),(12,(.v (.string { data:=#[54,32,52,32,50,10] }))),(13,(.v (.string { data:=#[51,10] }))),(14,(.v (.string { data:=#[49,10] }))),(15,(.v (.string { data:=#[48,10] }))),(16,(.v (.string { data:=#[108,48,32,113,10] }))),(17,(.v (.string { data:=#[105,48,32,105,110,10] }))),(18,(.v (.string { data:=#[111,48,32,111,117,116,10] }))),(19,(.v (.string { data:=#[99,10] }))),(20,(.v (.string { data:=#[97,110,121,10] }))),(21,(.v (.string { data:=#[10] }))),(22,(.v (.string { data:=#[99,48,32,99,111,110,10] }))),(23,(.v (.string { data:=#[102,48,32,102,97,105,114] }))),(24,(.v (.string { data:=#[108,48,32,113,32,114,10] }))),(25,(.v (.string { data:=#[120,48,32,121,10] })))] S fun a S=>loopV lv23_0 (vc Pg (c23.at_ [1,1,1,0,1,0,0]) (ms23.drop 1)) 48 (env23_0 x0 a (.v (.string { data:=#[] })) (.v (.int .i64 0))) S (blockK 0 (seqK (vc Pg (c23.at_ [1,1,1,1]) (ms23.drop 1)) (bodyK Pg r23 Q)))
theorem calls23{x0:AV}{S:Store}{Q:PoT}(h:m23 x0 S Q):ACalls Pg 23 [x0] S Q:=
 calls_of_vc (fn:=Tryz.f23) (c:=c23) (n:=48) Tryz.func23 (by kernel_rfl) (by kernel_rfl) (by kernel_rfl) ms23 (Eq.mpr (by kernel_rfl) h)
def b23_0(y0 y3 y4 y5:AV)(S:Store)(KE0:KeT)(Q:PoT):Prop:=
 lenS y0 S fun a S=>bin .lss 0 y5 a S fun c S=>onB c fun b=>gd b (bin .lss 0 y5 (.v (.int .i64 14)) S fun d S=>onB d fun b=>gd b (ixS 5 1 y0 y5 S fun e S=>ld1 e S fun f S=>convI .i64 f S fun g S=>lenS y3 S fun h S=>bin .rem 0 g h S fun i S=>bin .eql 0 y5 (.v (.int .i64 0)) S fun k S=>onB k fun b=>gd b (ixS 5 1 y0 y5 S fun l S=>ld1 l S fun m S=>bin .lss 0 m (.v (.int .u8 200)) S fun n S=>onB n fun b=>gd b (ixS 5 1 y0 y5 S fun o S=>ld1 o S fun p S=>convI .i64 p S fun q S=>bin .rem 0 q (.v (.int .i64 3)) S fun r S=>ixS 9 1 y3 r S fun s S=>ld1 s S fun t S=>bin .add 0 y4 t S fun u S=>bin .add 0 y5 (.v (.int .i64 1)) S fun w S=>KE0 48 (env23_0 y0 y3 u w) S) (ixS 9 1 y3 i S fun x S=>ld1 x S fun y S=>bin .add 0 y4 y S fun z S=>bin .add 0 y5 (.v (.int .i64 1)) S fun A S=>KE0 48 (env23_0 y0 y3 z A) S)) (ixS 9 1 y3 i S fun B S=>ld1 B S fun C S=>bin .add 0 y4 C S fun D S=>bin .add 0 y5 (.v (.int .i64 1)) S fun E S=>KE0 48 (env23_0 y0 y3 D E) S)) (Q (.ret y4) S)) (Q (.ret y4) S)
theorem b23_0_eq(y0 y3 y4 y5:AV)(S:Store)(KE0:KeT)(Q:PoT):vc Pg (c23.at_ [1,1,1,0,1,0,0]) (ms23.drop 1) (mkE 48 lv23_0 (env23_0 y0 y3 y4 y5)) S (thenK (fgK lv23_0 KE0) (blockK 0 (seqK (vc Pg (c23.at_ [1,1,1,1]) (ms23.drop 1)) (bodyK Pg r23 Q))))=b23_0 y0 y3 y4 y5 S KE0 Q:=by kernel_rfl
theorem loop23_0{y0 y3:AV}{y40 y50:AV}{S:Store}{Q:PoT}(I:AV→AV→Store→Prop)(μ:AV→AV→Store→Nat)(h0:I y40 y50 S)
    (hr:∀(y4 y5:AV) (S:Store),I y4 y5 S→∀ KE0:KeT,(∀(y4' y5':AV) (S':Store),I y4' y5' S'→μ y4' y5' S'<μ y4 y5 S→KE0 48 (env23_0 y0 y3 y4' y5') S')→b23_0 y0 y3 y4 y5 S KE0 Q):
    loopV lv23_0 (vc Pg (c23.at_ [1,1,1,0,1,0,0]) (ms23.drop 1)) 48 (env23_0 y0 y3 y40 y50) S (blockK 0 (seqK (vc Pg (c23.at_ [1,1,1,1]) (ms23.drop 1)) (bodyK Pg r23 Q))):=by
 refine⟨fun n e S=>n=48∧∃ y4 y5:AV,e=(env23_0 y0 y3 y4 y5)∧I y4 y5 S,fun _ e S=>μ (e.getD 2 .j) (e.getD 3 .j) S,?_,?_⟩
 ·exact⟨_,_,Wk.refl _ _,rfl,_,_,rfl,h0⟩
 ·rintro _ e S ⟨rfl,y4,y5,rfl,hI⟩
  exact(b23_0_eq _ _ _ _ _ _ _).mpr (hr y4 y5 S hI _ (fun y4' y5' S' hI' hm=>⟨_,_,Wk.refl _ _,⟨rfl,_,_,rfl,hI'⟩,hm⟩))
def c6:Code:=(Tryz.f6.body).getD .skip
def r6:List ResultVar:=Tryz.f6.results.toList
def ms6:List (List Nat):=[[]]
def m6(x0:AV)(S:Store)(Q:PoT):Prop:=
 callF Pg 18 [] S Q fun a S=>onB a fun b=>gd b (callF Pg 23 [x0] S Q fun c S=>callF Pg 19 [c] S Q fun d S=>Q (.ret d) S) (Q (.ret (.v (.bool false))) S)
theorem calls6{x0:AV}{S:Store}{Q:PoT}(h:m6 x0 S Q):ACalls Pg 6 [x0] S Q:=
 calls_of_vc (fn:=Tryz.f6) (c:=c6) (n:=9) Tryz.func6 (by kernel_rfl) (by kernel_rfl) (by kernel_rfl) ms6 (Eq.mpr (by kernel_rfl) h)
end
abbrev aU8'(n:Int):AV:=.v (.int .u8 n)
def piecesL:List Bs:=[[97,97,103,32,49,32,48,32,49,32,48,32,48,10],[97,97,103,32,51,32,49,32,49,32,49,32,49,10],[97,97,103,32,50,32,49,32,49,32,48,32,48,32,49,32,49,32,48,32,49,10],[50,10],[52,32,53,10],[50,32,51,10],[52,32,53,32,49,10],[52,32,53,32,52,10],[50,32,51,32,50,10],[50,32,51,32,48,10],[52,32,53,32,51,10],[54,10],[54,32,52,32,50,10],[51,10],[49,10],[48,10],[108,48,32,113,10],[105,48,32,105,110,10],[111,48,32,111,117,116,10],[99,10],[97,110,121,10],[10],[99,48,32,99,111,110,10],[102,48,32,102,97,105,114],[108,48,32,113,32,114,10],[120,48,32,121,10]]
theorem bslPieces{e:Nat}{z:AV}{S:Store}{K:AV→Store→Prop}(k:K (aL aT piecesL) S):bslN e 1 26 [z] [(0,aT [97,97,103,32,49,32,48,32,49,32,48,32,48,10]),(1,aT [97,97,103,32,51,32,49,32,49,32,49,32,49,10]),(2,aT [97,97,103,32,50,32,49,32,49,32,48,32,48,32,49,32,49,32,48,32,49,10]),(3,aT [50,10]),(4,aT [52,32,53,10]),(5,aT [50,32,51,10]),(6,aT [52,32,53,32,49,10]),(7,aT [52,32,53,32,52,10]),(8,aT [50,32,51,32,50,10]),(9,aT [50,32,51,32,48,10]),(10,aT [52,32,53,32,51,10]),(11,aT [54,10]),(12,aT [54,32,52,32,50,10]),(13,aT [51,10]),(14,aT [49,10]),(15,aT [48,10]),(16,aT [108,48,32,113,10]),(17,aT [105,48,32,105,110,10]),(18,aT [111,48,32,111,117,116,10]),(19,aT [99,10]),(20,aT [97,110,121,10]),(21,aT [10]),(22,aT [99,48,32,99,111,110,10]),(23,aT [102,48,32,102,97,105,114]),(24,aT [108,48,32,113,32,114,10]),(25,aT [120,48,32,121,10])] S K:=by
 refine⟨[aT [97,97,103,32,49,32,48,32,49,32,48,32,48,10],aT [97,97,103,32,51,32,49,32,49,32,49,32,49,10],aT [97,97,103,32,50,32,49,32,49,32,48,32,48,32,49,32,49,32,48,32,49,10],aT [50,10],aT [52,32,53,10],aT [50,32,51,10],aT [52,32,53,32,49,10],aT [52,32,53,32,52,10],aT [50,32,51,32,50,10],aT [50,32,51,32,48,10],aT [52,32,53,32,51,10],aT [54,10],aT [54,32,52,32,50,10],aT [51,10],aT [49,10],aT [48,10],aT [108,48,32,113,10],aT [105,48,32,105,110,10],aT [111,48,32,111,117,116,10],aT [99,10],aT [97,110,121,10],aT [10],aT [99,48,32,99,111,110,10],aT [102,48,32,102,97,105,114],aT [108,48,32,113,32,114,10],aT [120,48,32,121,10]],by kernel_rfl,.inr (Eq.mp ?_ k)⟩
 have e:aL aT piecesL = .l (chunks 1 26 [aT [97,97,103,32,49,32,48,32,49,32,48,32,48,10],aT [97,97,103,32,51,32,49,32,49,32,49,32,49,10],aT [97,97,103,32,50,32,49,32,49,32,48,32,48,32,49,32,49,32,48,32,49,10],aT [50,10],aT [52,32,53,10],aT [50,32,51,10],aT [52,32,53,32,49,10],aT [52,32,53,32,52,10],aT [50,32,51,32,50,10],aT [50,32,51,32,48,10],aT [52,32,53,32,51,10],aT [54,10],aT [54,32,52,32,50,10],aT [51,10],aT [49,10],aT [48,10],aT [108,48,32,113,10],aT [105,48,32,105,110,10],aT [111,48,32,111,117,116,10],aT [99,10],aT [97,110,121,10],aT [10],aT [99,48,32,99,111,110,10],aT [102,48,32,102,97,105,114],aT [108,48,32,113,32,114,10],aT [120,48,32,121,10]]):=by kernel_rfl
 rw[e]
theorem pieces_len:∀ p∈piecesL,p.length≤30:=by decide
theorem made23{l:List Int}(hl:∀ x∈l,0≤x∧x<256){S:Store}:ACalls Pg 23 [aL aU8' l] S (fun e S'=>∃ s:Bs,e = .ret (aT s)∧S'=S∧s.length≤600):=by
 refine calls23 ?_
 unfold m23
 refine bslPieces ?_
 refine loop23_0 (fun y x T=>T=S∧∃(i:Nat) (s:Bs),x=aI i∧y=aT s∧i≤14∧s.length≤30*i) (fun _ x _=>14 - ((intA x).getD 0).toNat) ⟨rfl,0,[],rfl,rfl,by decide,by decide⟩ ?_
 rintro _ _ T ⟨rfl,i,s,rfl,rfl,hi,hs⟩ KE hKE
 unfold b23_0
 rw[lenS_aL,bin_lss,onB_v]
 have fin:∃ s':Bs,AEnd.ret (aT s) = .ret (aT s')∧T=T∧s'.length≤600:=⟨s,rfl,rfl,by omega⟩
 refine gd_of (fun hlt=>?_) (fun _=>fin)
 have hlt:i<l.length:=by have:=dT hlt;omega
 rw[bin_lss,onB_v]
 refine gd_of (fun h14=>?_) (fun _=>fin)
 have h14:i<14:=by have:(i:Int)<14:=dT h14
                   omega
 have hx:=hl _ (List.getElem_mem hlt)
 have put:∀ n:Int,0≤n∧n<26→ixS 9 1 (aL aT piecesL) (aI n) T fun v26 W=>ld1 v26 W fun v27 W=>bin .add 0 (aT s) v27 W fun v28 W=>bin .add 0 (aI i) (.v (.int .i64 1)) W fun v29 W=>KE 48 (env23_0 (aL aU8' l) (aL aT piecesL) v28 v29) W:=fun n hn=>by
  obtain⟨k,rfl⟩:∃ k:Nat,n=k:=⟨n.toNat,by omega⟩
  have hk:k<piecesL.length:=by have e:piecesL.length=26:=rfl
                               omega
  have hp:=pieces_len _ (List.getElem_mem hk)
  rw[ixS_aL hk,ld1_q,bin_addT (by omega),bin_add (by omega) (by omega)]
  exact hKE _ _ _ ⟨rfl,i+1,_,rfl,rfl,h14,by simp only[List.length_append];omega⟩ (by simp[intA];omega)
 have hpl:(aL aT piecesL)=(aL aT piecesL):=rfl
 rw[ixS_aL hlt,ld1_q,convI_64 _ (by omega) (by omega),lenS_aL]
 have e26:((piecesL.length:Nat):Int)=26:=rfl
 rw[e26,bin_rem (by decide),bin_eql,onB_v]
 have hr26:0≤(l[i]).tmod 26∧(l[i]).tmod 26<26:=by rw[Int.tmod_eq_emod_of_nonneg hx.1];omega
 refine gd_of (fun _=>?_) (fun _=>put _ hr26)
 rw[ixS_aL hlt,ld1_q,bin_lss,onB_v]
 refine gd_of (fun _=>?_) (fun _=>put _ hr26)
 rw[ixS_aL hlt,ld1_q,convI_64 _ (by omega) (by omega),bin_rem (by decide)]
 exact put _ (by rw[Int.tmod_eq_emod_of_nonneg hx.1];omega)
theorem law6{l:List Int}(hl:∀ x∈l,0≤x∧x<256):Ans Pg 6 [aL aU8' l] (aB true):=by
 intro S
 refine calls6 ?_
 unfold m6
 refine callF_ans ans18 ?_
 rw[onB_v,gd_true]
 refine .inl ((made23 hl).mono ?_)
 rintro e S' ⟨s,rfl,rfl,hs⟩
 exact sameC ⟨rfl,rfl⟩
section
set_option maxRecDepth 100000
def c9:Code:=(Tryz.f9.body).getD .skip
def r9:List ResultVar:=Tryz.f9.results.toList
def ms9:List (List Nat):=[[]]
def m9(x0 x1 x2:AV)(S:Store)(Q:PoT):Prop:=
 callF Pg 18 [] S Q fun c S=>un .not c S fun d S=>onB d fun b=>gd b (Q (.ret (.v (.bool false))) S) (onB x2 fun b=>gd b (callF Pg 23 [x1] S Q fun e S=>callF Pg 24 [e] S Q fun f S=>extr f 0 S fun g S=>extr f 1 S fun h S=>boxN 29 8 (.a [.v (.int .i64 0),.nl,.nl,.nl,.nl,.nl,.nl,.nl]) S fun i S=>stN 8 i g S fun k S=>bin .neq 0 h (.v (.int .i64 0)) S fun l S=>onB l fun b=>gd b (Q (.ret c) S) (ldN 8 i S fun m S=>callF Pg 20 [m] S Q fun n S=>extr n 0 S fun o S=>extr n 1 S fun p S=>callF Pg 24 [o] S Q fun q S=>extr q 0 S fun r S=>extr q 1 S fun s S=>boxN 29 8 (.a [.v (.int .i64 0),.nl,.nl,.nl,.nl,.nl,.nl,.nl]) S fun t S=>stN 8 t r S fun u S=>onB c fun b=>gd b (bin .eql 0 p (.v (.int .i64 0)) S fun w S=>onB w fun b=>gd b (bin .eql 0 s (.v (.int .i64 0)) S fun x S=>onB x fun b=>gd b (ldN 8 i S fun y S=>ldN 8 t S fun z S=>callF Pg 25 [y,z] S Q fun A S=>Q (.ret A) S) (Q (.ret (.v (.bool false))) S)) (Q (.ret (.v (.bool false))) S)) (Q (.ret (.v (.bool false))) S))) (lenStr x0 S fun B S=>bin .gtr 0 B (.v (.int .i64 600)) S fun C S=>onB C fun b=>gd b (callF Pg 23 [x1] S Q fun D S=>callF Pg 24 [D] S Q fun E S=>extr E 0 S fun F S=>extr E 1 S fun G S=>boxN 29 8 (.a [.v (.int .i64 0),.nl,.nl,.nl,.nl,.nl,.nl,.nl]) S fun H S=>stN 8 H F S fun I S=>bin .neq 0 G (.v (.int .i64 0)) S fun J S=>onB J fun b=>gd b (Q (.ret c) S) (ldN 8 H S fun K S=>callF Pg 20 [K] S Q fun L S=>extr L 0 S fun M S=>extr L 1 S fun N S=>callF Pg 24 [M] S Q fun O S=>extr O 0 S fun P S=>extr O 1 S fun R S=>boxN 29 8 (.a [.v (.int .i64 0),.nl,.nl,.nl,.nl,.nl,.nl,.nl]) S fun T S=>stN 8 T P S fun U S=>onB c fun b=>gd b (bin .eql 0 N (.v (.int .i64 0)) S fun V S=>onB V fun b=>gd b (bin .eql 0 R (.v (.int .i64 0)) S fun W S=>onB W fun b=>gd b (ldN 8 H S fun X S=>ldN 8 T S fun Y S=>callF Pg 25 [X,Y] S Q fun Z S=>Q (.ret Z) S) (Q (.ret (.v (.bool false))) S)) (Q (.ret (.v (.bool false))) S)) (Q (.ret (.v (.bool false))) S))) (callF Pg 24 [x0] S Q fun a0 S=>extr a0 0 S fun a1 S=>extr a0 1 S fun a2 S=>boxN 29 8 (.a [.v (.int .i64 0),.nl,.nl,.nl,.nl,.nl,.nl,.nl]) S fun a3 S=>stN 8 a3 a1 S fun a4 S=>bin .neq 0 a2 (.v (.int .i64 0)) S fun a5 S=>onB a5 fun b=>gd b (Q (.ret c) S) (ldN 8 a3 S fun a6 S=>callF Pg 20 [a6] S Q fun a7 S=>extr a7 0 S fun a8 S=>extr a7 1 S fun a9 S=>callF Pg 24 [a8] S Q fun b0 S=>extr b0 0 S fun b1 S=>extr b0 1 S fun b2 S=>boxN 29 8 (.a [.v (.int .i64 0),.nl,.nl,.nl,.nl,.nl,.nl,.nl]) S fun b5 S=>stN 8 b5 b1 S fun b6 S=>onB c fun b=>gd b (bin .eql 0 a9 (.v (.int .i64 0)) S fun b7 S=>onB b7 fun b=>gd b (bin .eql 0 b2 (.v (.int .i64 0)) S fun b8 S=>onB b8 fun b=>gd b (ldN 8 a3 S fun b9 S=>ldN 8 b5 S fun c0 S=>callF Pg 25 [b9,c0] S Q fun c1 S=>Q (.ret c1) S) (Q (.ret (.v (.bool false))) S)) (Q (.ret (.v (.bool false))) S)) (Q (.ret (.v (.bool false))) S)))))
theorem calls9{x0 x1 x2:AV}{S:Store}{Q:PoT}(h:m9 x0 x1 x2 S Q):ACalls Pg 9 [x0,x1,x2] S Q:=
 calls_of_vc (fn:=Tryz.f9) (c:=c9) (n:=57) Tryz.func9 (by kernel_rfl) (by kernel_rfl) (by kernel_rfl) ms9 (Eq.mpr (by kernel_rfl) h)
end
theorem again{s:Bs}(hs:s.length≤600)(he:(parseP s).2=0):(parseP s).1.right=true∧parseP (parseP s).1.aagT=((parseP s).1,0):=by
 rw[parseP_o,if_neg (by omega)]at he ⊢
 cases ho:oP s with
 |error e =>
  rw[ho]at he
  exfalso
  unfold oP at ho
  have he:e=0:=he
  subst he
  split at ho
  ·cases ho
  ·split at ho<;>cases ho
 |ok c =>
  rw[ho]at he
  have hk:=oP_ok (by omega) c ho
  by_cases hr:c.right=true
  ·have e:outP (.ok c)=(c,0):=by show(if c.right=true then _ else _)=_;rw[if_pos hr]
   rw[e]
   have hlen:=aag_len (nums_of hr)
   refine⟨hr,?_⟩
   have:=parse_back (rest:=[]) hr (.inl rfl) (by rw[List.append_nil];have:=hk.2;omega)
   rwa [List.append_nil]at this
  ·exfalso
   have e:outP (.ok c)=(cE,22):=by show(if c.right=true then _ else _)=_;rw[if_neg hr]
   rw[e]at he
   cases he
theorem law9{s0:Bs}{l:List Int}(hl:∀ x∈l,0≤x∧x<256){b:Bool}:Ans Pg 9 [aT s0,aL aU8' l,aB b] (aB true):=by
 intro S
 refine ACalls.ans_v (calls9 ?_)
 unfold m9
 refine callF_ans ans18 ?_
 rw[un_not,onB_v,gd_nT rfl,onB_v]
 refine gd_of (fun _=>?_) (fun _=>?_)
 ·refine .inl ((made23 hl).mono ?_)
  rintro e S ⟨s,rfl,rfl,hs⟩
  refine callF_ans (ans24 s) ?_
  rw[e0C,e1C]
  refine boxA_of rfl fun S1 k1 n1 o1=>?_
  refine stA_of (cs':=(parseP s).1.cells) o1 rfl rfl fun S2 n2 o2 f2=>?_
  have k2:=k1.st (Nat.le_refl _) n2 f2
  rw[bin_neq,onB_v]
  refine gd_of (fun _=>⟨rfl,k2⟩) (fun he=>?_)
  have he:(parseP s).2=0:=by
   by_cases e:(parseP s).2=0
   ·exact e
   ·rw[decide_eq_false e]at he;cases he
  obtain⟨hr,hq⟩:=again hs he
  have hc:=parse_ok s
  have h1:=ans20 hc hc.nlen
  rw[if_pos hr]at h1
  rw[ldN_p (n:=8) o2 rfl]
  refine callF_ans h1 ?_
  rw[extr0,extr1]
  refine callF_ans (ans24 _) ?_
  rw[e0C,e1C,hq]
  dsimp only
  refine boxA_of rfl fun S3 k3 n3 o3=>?_
  refine stA_of (cs':=(parseP s).1.cells) o3 rfl rfl fun S4 n4 o4 f4=>?_
  have k4:=k3.st (Nat.le_refl _) n4 f4
  rw[onB_v,gd_true,bin_eql,onB_v,gd_T (decide_eq_true rfl),bin_eql,onB_v,gd_T (decide_eq_true rfl)]
  rw[ldN_p (n:=8) ((k4.2 _ (by omega)).trans o2) rfl,ldN_p (n:=8) o4 rfl]
  refine callF_ans (ans25 hc) ?_
  exact⟨rfl,k2.trans k4⟩
 rw[lenT,bin_gtr,onB_v]
 refine gd_of (fun _=>?_) (fun h6=>?_)
 ·refine .inl ((made23 hl).mono ?_)
  rintro e S ⟨s,rfl,rfl,hs⟩
  refine callF_ans (ans24 s) ?_
  rw[e0C,e1C]
  refine boxA_of rfl fun S1 k1 n1 o1=>?_
  refine stA_of (cs':=(parseP s).1.cells) o1 rfl rfl fun S2 n2 o2 f2=>?_
  have k2:=k1.st (Nat.le_refl _) n2 f2
  rw[bin_neq,onB_v]
  refine gd_of (fun _=>⟨rfl,k2⟩) (fun he=>?_)
  have he:(parseP s).2=0:=by
   by_cases e:(parseP s).2=0
   ·exact e
   ·rw[decide_eq_false e]at he;cases he
  obtain⟨hr,hq⟩:=again hs he
  have hc:=parse_ok s
  have h1:=ans20 hc hc.nlen
  rw[if_pos hr]at h1
  rw[ldN_p (n:=8) o2 rfl]
  refine callF_ans h1 ?_
  rw[extr0,extr1]
  refine callF_ans (ans24 _) ?_
  rw[e0C,e1C,hq]
  dsimp only
  refine boxA_of rfl fun S3 k3 n3 o3=>?_
  refine stA_of (cs':=(parseP s).1.cells) o3 rfl rfl fun S4 n4 o4 f4=>?_
  have k4:=k3.st (Nat.le_refl _) n4 f4
  rw[onB_v,gd_true,bin_eql,onB_v,gd_T (decide_eq_true rfl),bin_eql,onB_v,gd_T (decide_eq_true rfl)]
  rw[ldN_p (n:=8) ((k4.2 _ (by omega)).trans o2) rfl,ldN_p (n:=8) o4 rfl]
  refine callF_ans (ans25 hc) ?_
  exact⟨rfl,k2.trans k4⟩
 have hs:s0.length≤600:=by have:¬ (600:Int)<s0.length:=dF h6
                           omega
 generalize s0=s at hs
 refine callF_ans (ans24 s) ?_
 rw[e0C,e1C]
 refine boxA_of rfl fun S1 k1 n1 o1=>?_
 refine stA_of (cs':=(parseP s).1.cells) o1 rfl rfl fun S2 n2 o2 f2=>?_
 have k2:=k1.st (Nat.le_refl _) n2 f2
 rw[bin_neq,onB_v]
 refine gd_of (fun _=>⟨rfl,k2⟩) (fun he=>?_)
 have he:(parseP s).2=0:=by
  by_cases e:(parseP s).2=0
  ·exact e
  ·rw[decide_eq_false e]at he;cases he
 obtain⟨hr,hq⟩:=again hs he
 have hc:=parse_ok s
 have h1:=ans20 hc hc.nlen
 rw[if_pos hr]at h1
 rw[ldN_p (n:=8) o2 rfl]
 refine callF_ans h1 ?_
 rw[extr0,extr1]
 refine callF_ans (ans24 _) ?_
 rw[e0C,e1C,hq]
 dsimp only
 refine boxA_of rfl fun S3 k3 n3 o3=>?_
 refine stA_of (cs':=(parseP s).1.cells) o3 rfl rfl fun S4 n4 o4 f4=>?_
 have k4:=k3.st (Nat.le_refl _) n4 f4
 rw[onB_v,gd_true,bin_eql,onB_v,gd_T (decide_eq_true rfl),bin_eql,onB_v,gd_T (decide_eq_true rfl)]
 rw[ldN_p (n:=8) ((k4.2 _ (by omega)).trans o2) rfl,ldN_p (n:=8) o4 rfl]
 refine callF_ans (ans25 hc) ?_
 exact⟨rfl,k2.trans k4⟩
end
end Go.Proofs.YtodfhmmjemlmeaaGreatDoor.G

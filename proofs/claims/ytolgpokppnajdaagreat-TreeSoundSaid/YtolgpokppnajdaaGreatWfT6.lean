/- Tree -/
import Derived.Test.YtolgpokppnajdaaGreatProg
import Derived.KernelRfl
import Derived.Test.YtolgpokppnajdaaGreatWfT5
set_option linter.unusedVariables false
set_option linter.unusedSimpArgs false
namespace Go.Proofs.YtolgpokppnajdaaGreat.G
open Go Go.Ab
noncomputable section
abbrev kidF(a b:Nat):AV:=.f (.func 73) [] [.p a 0 0,.p b 0 0]
theorem treepush_loop{ks:List Fo}{k k2 l:Int}{n:ByteArray}{t:Bool}(hl:ks.length≤1000000)(hf:∀ f∈ks,Ans Pg 44 [f.av,aB t,dualM] (f.push t).av){S S4:Store}{o:Nat}{Q:AEnd→Store→Prop}(kk:Keep S S4)(h0:S.n<S4.n)
    (ho:S.n+2<o) (ho2:o<S4.n) (oa:S4.obj S.n=some (.cells 24 [[aI k,.v (.string n),aI l,foL ks]] true)) (om:S4.obj (S.n+1)=some (.cells 87 [[dualM]] true)) (ob:S4.obj (S.n+2)=some (.cells 24 [fo0r] true)) (oc:S4.obj o=some (.cells 24 [[aI k2,.v (.string ⟨#[]⟩),aI 0,.nl]] true))
    (hQ:∀(r:AV) (T:Store),Keep S T→Cv (T.frz (newer S.n)) S.n r (Fo.mk k2 ⟨#[]⟩ 0 (Fo.pushs ks t)).av→Q (.ret r) T):
    loopV lv44_0 (vc Pg (c44.at_ [1,1,1,1,1,0,1,0,0]) (ms44.drop 1)) 86 (env44_0 (aB t) (.p (S.n+2) 0 0) (kidF S.n (S.n+1)) (.p o 0 0) (aI ks.length) (.v (.int .i64 0))) S4 (blockK 1 (seqK (vc Pg (c44.at_ [1,1,1,1,1,1]) (ms44.drop 1)) (bodyK Pg r44 Q))):=by
 refine loop44_0 (fun y S'=>∃(i:Nat) (z:AV),y=aI i∧i≤ks.length∧Keep S S'∧S4.n≤S'.n∧S'.obj S.n=some (.cells 24 [[aI k,.v (.string n),aI l,foL ks]] true)∧S'.obj (S.n+1)=some (.cells 87 [[dualM]] true)∧S'.obj (S.n+2)=some (.cells 24 [fo0r] true)∧
     S'.obj o=some (.cells 24 [[aI k2,.v (.string ⟨#[]⟩),aI 0,z]] true)∧Own S4.n S' z 24 (((ks.take i).map fun f=>f.push t).map Fo.row))
  (fun y _=>ks.length - ((intA y).getD 0).toNat) ⟨0,.nl,rfl,Nat.zero_le _,kk,Nat.le_refl _,oa,om,ob,oc,.nl _ _ _⟩ ?_
 rintro _ S5 ⟨i,z,rfl,hi,k5,n5,oa,om,ob,oc,w5⟩ KE hKE
 unfold b44_0
 rw[bin_lss,onB_v]
 refine gd_of (fun hlt=>?_) (fun hge=>?_)
 ·have hlt:i<ks.length:=by have:=dT hlt;omega
  have hmem:=List.getElem_mem hlt
  (repeat (first|with_reducible_and_instances (first|refine WJ ?_|refine W (LJ_ldp oc (by omega) (by with_unfolding_all rfl) (by with_unfolding_all rfl)) ?_|refine W (J_ldq (by with_unfolding_all rfl)) ?_)|refine L_cV ((fun T hT=>at73 (t:=t) ((hT.2 _ (by omega)).trans oa) (by have:=hT.1;omega) ((hT.2 _ (by omega)).trans om) (by have:=hT.1;omega) hlt (hf _ hmem))) rfl rfl ?_))
  refine LJ_bsl4 (Fo.row_len _) ?_
  refine w5.app (c:=(ks[i].push t).row) (by omega) (Fo.row_len _) (by simp;omega) (fun z' S6 w6 b6 hz=>?_) rfl
  obtain⟨m6,hm6⟩:=hz
  have n6:=b6.1
  have old6:∀ x,x<S4.n→S6.obj x=S5.obj x:=fun x hx=>b6.2 x (by omega) (fun b m e=>by have:=w5.lt e;omega)
  refine L_shift ?_
  refine stF_of ((old6 _ (by omega)).trans oc) (by simp) (by rw[hm6];rfl) fun S7 n7 o7 f7=>?_
  rw[bin_add (by omega) (by omega)]
  have old7:∀ x,x<o→S7.obj x=S5.obj x:=fun x hx=>(f7 x (by omega)).trans (old6 x (by omega))
  refine hKE _ _ ⟨i+1,z',rfl,hlt,⟨by have:=k5.1;omega,fun x hx=>(old7 x (by omega)).trans (k5.2 x hx)⟩,by omega,(old7 _ (by omega)).trans oa,(old7 _ (by omega)).trans om,(old7 _ (by omega)).trans ob,o7,?_⟩ (by simp[intA];omega)
  rw[List.take_add_one,List.getElem?_eq_getElem hlt,List.map_append,List.map_append]
  exact w6.st (id:=o) (fun b m e=>by rw[hm6]at e;injection e;omega) n7 f7
 ·have hge:i=ks.length:=by have:=dF hge;omega
  subst hge
  rw[ldN_p (n:=4) oc rfl]
  refine stA_of ob rfl rfl fun S6 n6 o6 f6=>?_
  rw[ldN_p (n:=4) o6 rfl]
  have w6:Own S4.n S6 z 24 _:=w5.st (id:=S.n+2) (fun b m e=>by have:=w5.lt e;omega) n6 f6
  rw[List.take_length]at w6
  refine hQ _ _ (k5.st (by omega) n6 f6) ?_
  rw[Fo.av,Fo.row_mk,Fo.pushs_map]
  refine .a _ _ rfl fun k u u2 e1 e2=>?_
  match k with
  |0=>cases e1;cases e2;exact .v _
  |1=>cases e1;cases e2;exact .v _
  |2=>cases e1;cases e2;exact .v _
  |3=>cases e1;cases e2;exact own_rows (fun r hr u hu=>by obtain⟨f,_,rfl⟩:=List.mem_map.1 hr;exact Fo.tree f u hu) w6 (by omega)
  |k+4=>simp at e1
theorem ans44:∀(f:Fo),f.ok→∀{d:Int},f.mayB d=true→∀ t,Ans Pg 44 [f.av,aB t,dualM] (f.push t).av:=by
 intro f
 induction f using Fo.ind with
 |h k n l ks ih =>
  intro hok d hm t S
  obtain⟨h1,h2,h3,h4,h5⟩:=hok.inv
  have hf:∀ f∈ks,∀ d,f.mayB d=true→∀ t,Ans Pg 44 [f.av,aB t,dualM] (f.push t).av:=fun f hf d hd t=>ih f hf (h5 f hf) hd t
  have hall:∀ f∈ks,f.mayB (d - 1)=true:=fun f hf=>by
   rw[Fo.mayB_mk]at hm
   simp only[Bool.and_eq_true,List.all_eq_true]at hm
   exact hm.2.2.2.2 f hf
  refine ACalls.tree (calls44 ?_)
  unfold m44
  rw[Fo.av,Fo.row_mk]
  refine boxA_of rfl fun S1 k1 n1 o1=>?_
  refine box1_of rfl fun S2 k2 n2 o2=>?_
  refine boxA_of rfl fun S3 k3 n3 o3=>?_
  rw[show S2.n=S.n+2 by omega]at o3
  rw[n1]at o2
  rw[show S2.n=S.n+2 by omega,n1]
  have p3:=(k3.2 _ (by omega)).trans ((k2.2 _ (by omega)).trans o1)
  have q3:=(k3.2 _ (by omega)).trans o2
  have kk:=(k1.trans k2).trans k3
  rw[shift_p,ld1_p p3 rfl rfl]
  have ck:∀(T:Store),T.obj S.n=some (.cells 24 [[aI k,.v (.string n),aI l,foL ks]] true)→T.obj (S.n+1)=some (.cells 87 [[dualM]] true)→S.n+1<T.n→∀(i:Nat) (hi:i<ks.length) (t:Bool),AnsAt Pg 73 ([] ++ [aI i,aB t] ++ [.p S.n 0 0,.p (S.n+1) 0 0]) T (ks[i].push t).av:=
   fun T ho hm hn i hi t=>at73 ho (by omega) hm hn hi (hf _ (List.getElem_mem hi) _ (hall _ (List.getElem_mem hi)) t)
  have fin:∀(g:Fo) (T:Store),Keep S T→T.obj (S.n+2)=some (.cells 24 [fo0r] true)→g=Fo.push (.mk k n l ks) t→stN 4 (.p (S.n+2) 0 0) g.av T (fun _ T2=>ldN 4 (.p (S.n+2) 0 0) T2 fun v S'=>∃ r,AEnd.ret v = .ret r∧Keep S S'∧Cv (S'.frz (newer S.n)) S.n r (Fo.push (.mk k n l ks) t).av):=by
   intro g T hT ho hg
   rw[Fo.av]
   refine stA_of ho (Fo.row_len g) rfl fun T1 n1 o1 f1=>?_
   rw[ldN_p (n:=4) o1 (Fo.row_len g)]
   exact⟨_,rfl,hT.st (by omega) n1 f1,by rw[←hg];exact Fo.tr g _ _⟩
  have dflt:∀(T:Store) (o:Nat) (k2:Int),Keep S T→S.n+2<o→o<T.n→T.obj S.n=some (.cells 24 [[aI k,.v (.string n),aI l,foL ks]] true)→T.obj (S.n+1)=some (.cells 87 [[dualM]] true)→T.obj (S.n+2)=some (.cells 24 [fo0r] true)→T.obj o=some (.cells 24 [[aI k2,.v (.string ⟨#[]⟩),aI 0,.nl]] true)→
      Fo.push (.mk k n l ks) t = .mk k2 ⟨#[]⟩ 0 (Fo.pushs ks t)→
      loopV lv44_0 (vc Pg (c44.at_ [1,1,1,1,1,0,1,0,0]) (ms44.drop 1)) 86 (env44_0 (aB t) (.p (S.n+2) 0 0) (kidF S.n (S.n+1)) (.p o 0 0) (aI ks.length) (.v (.int .i64 0))) T (blockK 1 (seqK (vc Pg (c44.at_ [1,1,1,1,1,1]) (ms44.drop 1)) (bodyK Pg r44 fun e S'=>∃ r,e = .ret r∧Keep S S'∧Cv (S'.frz (newer S.n)) S.n r (Fo.push (.mk k n l ks) t).av))):=fun T o k2 hT ho ho2 oa om ob oc he =>
   treepush_loop h4 (fun f hf'=>hf f hf' _ (hall f hf') t) hT (by omega) ho ho2 oa om ob oc fun r T' hT' hr=>⟨r,rfl,hT',by rw[he];exact hr⟩
  have rest:¬ k=3→¬ k=4→¬ k=7→¬ k=8→(k=1∨k=2∨k=5∨k=6∨9≤k∧k≤18)→shift (.p S.n 0 0) 0 S3 fun v53 T=>ld1 v53 T fun v54 T=>bld [(0,1),(1,1),(2,1),(3,1)] fo0r [(0,v54)] T fun v55 T=>boxN 24 4 (.a fo0r) T fun v56 T=>stN 4 v56 v55 T fun _ T=>gd t (ld1 (.p (S.n+1) 0 0) T fun v59 T=>shift (.p S.n 0 0) 0 T fun v60 T=>ld1 v60 T fun v61 T=>lkM (.i .i64) (.v (.int .i64 0)) false v59 v61 T fun v62 T=>shift v56 0 T fun v63 T=>stN 1 v63 v62 T fun _ T =>
      shift (.p S.n 0 0) 3 T fun v65 T=>ld1 v65 T fun v66 T=>lenS v66 T fun v67 T =>
      loopV lv44_0 (vc Pg (c44.at_ [1,1,1,1,1,0,1,0,0]) (ms44.drop 1)) 86 (env44_0 (aB t) (.p (S.n+2) 0 0) (kidF S.n (S.n+1)) v56 v67 (.v (.int .i64 0))) T (blockK 1 (seqK (vc Pg (c44.at_ [1,1,1,1,1,1]) (ms44.drop 1)) (bodyK Pg r44 fun e S'=>∃ r,e = .ret r∧Keep S S'∧Cv (S'.frz (newer S.n)) S.n r (Fo.push (.mk k n l ks) t).av))))
      (shift (.p S.n 0 0) 3 T fun v65 T=>ld1 v65 T fun v66 T=>lenS v66 T fun v67 T=>loopV lv44_0 (vc Pg (c44.at_ [1,1,1,1,1,0,1,0,0]) (ms44.drop 1)) 86 (env44_0 (aB t) (.p (S.n+2) 0 0) (kidF S.n (S.n+1)) v56 v67 (.v (.int .i64 0))) T (blockK 1 (seqK (vc Pg (c44.at_ [1,1,1,1,1,1]) (ms44.drop 1)) (bodyK Pg r44 fun e S'=>∃ r,e = .ret r∧Keep S S'∧Cv (S'.frz (newer S.n)) S.n r (Fo.push (.mk k n l ks) t).av)))):=by
   intro h3 h4' h7 h8 hkd
   have he:Fo.push (.mk k n l ks) t = .mk (if t then dualK k else k) ⟨#[]⟩ 0 (Fo.pushs ks t):=by rw[Fo.push,if_neg h3,if_neg h4',if_neg h7,if_neg h8]
   rw[shift_p,ld1_p p3 rfl rfl,bld_of (cs:=[aI k,.v (.string ⟨#[]⟩),aI 0,.nl]) rfl]
   refine boxA_of rfl fun S4 k4 n4 o4=>?_
   refine stA_of (cs':=[aI k,.v (.string ⟨#[]⟩),aI 0,.nl]) o4 rfl rfl fun S5 n5 o5 f5=>?_
   have k5:=k4.st (Nat.le_refl _) n5 f5
   have p5:=(k5.2 _ (by omega)).trans p3
   have q5:=(k5.2 _ (by omega)).trans q3
   have r5:=(k5.2 _ (by omega)).trans o3
   refine gd_of (fun ht=>?_) (fun ht=>?_)
   ·subst ht
    rw[ld1_p q5 rfl rfl,shift_p,ld1_p p5 rfl rfl,lkM_mt (keyI _ _),dual_lk hkd,shift_p]
    refine stF_of o5 (by simp) rfl fun S6 n6 o6 f6=>?_
    rw[shift_p,ld1_p ((f6 _ (by omega)).trans p5) rfl rfl,lenS_foL]
    exact dflt S6 S3.n (dualK k) ((kk.trans k5).st (by omega) n6 f6) (by omega) (by omega) ((f6 _ (by omega)).trans p5) ((f6 _ (by omega)).trans q5) ((f6 _ (by omega)).trans r5) o6 he
   ·subst ht
    rw[shift_p,ld1_p p5 rfl rfl,lenS_foL]
    exact dflt S5 S3.n k (kk.trans k5) (by omega) (by omega) p5 q5 r5 o5 he
  obtain⟨rfl,hd,hc⟩:=may_cases hm
  rcases hc with⟨hk,rfl,rfl⟩|⟨rfl,rfl,h0⟩|⟨hk,rfl,f,rfl,hfm⟩|⟨hk,rfl,f,g,rfl,hfm,hgm⟩
  ·repeat (refine tno (by omega) ?_)
   exact rest (by omega) (by omega) (by omega) (by omega) (by omega)
  ·refine tyes rfl ?_
   rw[onB_v]
   refine gd_of (fun ht=>?_) (fun ht=>?_)
   ·subst ht
    rw[ldN_p (n:=4) p3 rfl]
    refine bslA4 (r:=[aI 3,.v (.string ⟨#[]⟩),aI l,foL []]) rfl ?_
    refine C_A (ans74 4 [.mk 3 ⟨#[]⟩ l []]) rfl (by rw[show foL [Fo.mk 3 ⟨#[]⟩ l []] = .l [Fo.row (.mk 3 ⟨#[]⟩ l [])]from rfl,Fo.row_mk]) ?_
    exact fin (foOne 4 (.mk 3 ⟨#[]⟩ l [])) _ kk o3 (by rw[push_atom];rfl)
   ·subst ht
    rw[ldN_p (n:=4) p3 rfl]
    have:=fin (.mk 3 ⟨#[]⟩ l []) _ kk o3 (by rw[push_atom];rfl)
    rw[Fo.av,Fo.row_mk]at this
    exact this
  ·have cf:=fun t=>ck S3 p3 q3 (by omega) 0 (by simp) t
   by_cases h4:k=4
   ·subst h4
    refine tno (by decide) (tyes rfl ?_)
    rw[un_not]
    refine callV_at (cf _) ?_
    exact fin _ _ kk o3 push_not.symm
   ·repeat (refine tno (by omega) ?_)
    exact rest (by omega) (by omega) (by omega) (by omega) (by omega)
  ·have cf:=fun t=>ck S3 p3 q3 (by omega) 0 (by simp) t
   have cg:=fun t=>ck S3 p3 q3 (by omega) 1 (by simp) t
   by_cases h7:k=7
   ·subst h7
    refine tno (by decide) (tno (by decide) (tyes rfl ?_))
    rw[onB_v]
    refine gd_of (fun ht=>?_) (fun ht=>?_)
    ·subst ht
     refine callV_at (cf false) (callV_at (cg true) ?_)
     refine bslA42 (Fo.row_len _) (Fo.row_len _) (callF_ans (ans74 5 [f.push false,g.push true]) ?_)
     exact fin (foTwo 5 (f.push false) (g.push true)) _ kk o3 (by rw[push_imp];rfl)
    ·subst ht
     refine callV_at (cf true) (callV_at (cg false) ?_)
     refine bslA42 (Fo.row_len _) (Fo.row_len _) (callF_ans (ans74 6 [f.push true,g.push false]) ?_)
     exact fin (foTwo 6 (f.push true) (g.push false)) _ kk o3 (by rw[push_imp];rfl)
   by_cases h8:k=8
   ·subst h8
    refine tno (by decide) (tno (by decide) (tno (by decide) (tyes rfl ?_)))
    refine callV_at (cf false) (callV_at (cg t) ?_)
    refine bslA42 (Fo.row_len _) (Fo.row_len _) (callF_ans (ans74 5 [f.push false,g.push t]) ?_)
    refine callV_at (cf true) ?_
    rw[un_not]
    refine callV_at (cg (!t)) ?_
    refine bslA42 (Fo.row_len _) (Fo.row_len _) (callF_ans (ans74 5 [f.push true,g.push (!t)]) ?_)
    refine bslA42 (Fo.row_len _) (Fo.row_len _) (callF_ans (ans74 6 [foTwo 5 (f.push false) (g.push t),foTwo 5 (f.push true) (g.push (!t))]) ?_)
    exact fin _ _ kk o3 push_same.symm
   ·repeat (refine tno (by omega) ?_)
    exact rest (by omega) (by omega) (by omega) (by omega) (by omega)
def pushB(f:Fo):Fo:=if f.mayB 60=true then f.push false else fo0
theorem ans21{f:Fo}(hf:f.ok):Ans Pg 21 [f.av] (pushB f).av:=by
 intro S
 refine ACalls.tree (calls21 ?_)
 unfold m21 pushB
 refine boxA_of (Fo.row_len f) fun S1 k1 n1 o1=>?_
 refine boxA_of rfl fun S2 k2 n2 o2=>?_
 have p2:=(k2.2 _ (by omega)).trans o1
 rw[ldN_p (n:=4) p2 (Fo.row_len f)]
 refine callF_ans (ans43 f hf 60 ⟨by decide,by decide⟩) ?_
 rw[un_not,onB_v]
 refine gd_of (fun h=>?_) (fun h=>?_)
 ·have h:f.mayB 60=false:=by simpa using h
  rw[h,if_neg (by decide),bld_of (cs:=fo0r) rfl]
  refine stA_of (cs':=fo0r) o2 rfl rfl fun S3 n3 o3 f3=>?_
  rw[ldN_p (n:=4) o3 rfl]
  refine⟨_,rfl,(k1.trans k2).st (by omega) n3 f3,?_⟩
  rw[Fo.av,Fo.row_mk]
  refine .a _ _ rfl fun k u u2 e1 e2=>?_
  match k with
  |0=>cases e1;cases e2;exact .v _
  |1=>cases e1;cases e2;exact .v _
  |2=>cases e1;cases e2;exact .v _
  |3=>cases e1;cases e2;exact .nl
  |k+4=>simp at e1
 ·have h:f.mayB 60=true:=by simpa using h
  rw[h,if_pos rfl]
  (repeat (first|with_reducible_and_instances (first|refine WJ ?_|refine W (LJ_ldN (n:=4) p2 (by omega) (Fo.row_len f)) ?_|refine W (J_ldq (by with_unfolding_all rfl)) ?_)|refine J_cA (ans45) rfl rfl ?_|refine C_A (ans45) rfl rfl ?_|refine L_cA (ans45) rfl rfl ?_|refine J_cA (ans44 f hf h false) rfl rfl ?_|refine C_A (ans44 f hf h false) rfl rfl ?_|refine L_cA (ans44 f hf h false) rfl rfl ?_))
  refine stA_of o2 (Fo.row_len _) rfl fun S3 n3 o3 f3=>?_
  rw[ldN_p (n:=4) o3 (Fo.row_len _)]
  exact⟨_,rfl,(k1.trans k2).st (by omega) n3 f3,Fo.tr _ _ _⟩
theorem ans22{f:Fo}(hf:f.ok):Ans Pg 22 [f.av] (pushB f).av:=by
 intro S
 refine ACalls.tree (calls22 ?_)
 unfold m22 pushB
 refine boxA_of (Fo.row_len f) fun S1 k1 n1 o1=>?_
 refine boxA_of rfl fun S2 k2 n2 o2=>?_
 have p2:=(k2.2 _ (by omega)).trans o1
 rw[ldN_p (n:=4) p2 (Fo.row_len f)]
 refine callF_ans (ans46 f hf 60 ⟨by decide,by decide⟩) ?_
 rw[un_not,onB_v]
 refine gd_of (fun h=>?_) (fun h=>?_)
 ·have h:f.mayB 60=false:=by simpa using h
  rw[h,if_neg (by decide),bld_of (cs:=fo0r) rfl]
  refine stA_of (cs':=fo0r) o2 rfl rfl fun S3 n3 o3 f3=>?_
  rw[ldN_p (n:=4) o3 rfl]
  refine⟨_,rfl,(k1.trans k2).st (by omega) n3 f3,?_⟩
  rw[Fo.av,Fo.row_mk]
  refine .a _ _ rfl fun k u u2 e1 e2=>?_
  match k with
  |0=>cases e1;cases e2;exact .v _
  |1=>cases e1;cases e2;exact .v _
  |2=>cases e1;cases e2;exact .v _
  |3=>cases e1;cases e2;exact .nl
  |k+4=>simp at e1
 ·have h:f.mayB 60=true:=by simpa using h
  rw[h,if_pos rfl,ldN_p (n:=4) p2 (Fo.row_len f)]
  refine callF_ans (ans47 f hf h false) ?_
  refine stA_of o2 (Fo.row_len _) rfl fun S3 n3 o3 f3=>?_
  rw[ldN_p (n:=4) o3 (Fo.row_len _)]
  exact⟨_,rfl,(k1.trans k2).st (by omega) n3 f3,Fo.tr _ _ _⟩
structure Cs (c:Ci):Prop where
 ok:c.ok
 right:c.right=true
 small:c.gr.inputs≤60
theorem Cs.sum{c:Ci}(h:Cs c):∃ m:Nat,c.inputs+c.latches.length=m∧c.gr.inputs=m∧m≤60∧0≤c.inputs∧c.inputs≤60:=by
 obtain⟨g1,g2,g3⟩:=gr_inp h.right
 have hin:=(right_c.1 h.right).1
 have:=h.small
 exact⟨c.gr.inputs.toNat,by omega,by omega,by omega,hin.1,by omega⟩
theorem ans58{c:Ci}(hc:Cs c)(s:Int):Ans Pg 58 [c.av,aI s] (aB (validS c s)):=by
 intro S
 obtain⟨m,h1,h2,h3,h4,h5⟩:=hc.sum
 have hcon:=hc.ok.cons
 refine ACalls.ans_v (calls58 ?_)
 unfold m58 validS
 rw[h2,Int.toNat_natCast]
 refine boxA_of rfl fun S1 k1 n1 o1=>?_
 rw[shift_p,ld1_p o1 rfl rfl,shift_p,ld1_p o1 rfl rfl,lenS_pL,bin_add (by omega) (by omega),h1,bin_lss,onB_v]
 refine gd_of (fun h=>⟨?_,k1⟩) (fun h=>?_)
 ·have:=dT h
  rw[decide_eq_false (by omega),Bool.false_and]
 have h0:=dF h
 rw[bin_shl1 h3,bin_geq,onB_v,decide_eq_true (show 0≤s by omega),Bool.true_and]
 refine gd_of (fun h=>⟨?_,k1⟩) (fun h=>?_)
 ·have:=dT h
  rw[decide_eq_false (by omega),Bool.false_and]
 have h6:=dF h
 rw[decide_eq_true (show s<2 ^ m by omega),Bool.true_and]
 refine loop58_0 (fun y S'=>S'=S1∧∃ i:Nat,y=aI i∧i≤c.cons.length∧∀ j (h:j<c.cons.length),j<i→isB c s c.cons[j]=true) (fun y _=>c.cons.length - ((intA y).getD 0).toNat) ⟨rfl,0,rfl,Nat.zero_le _,fun j _ h=>by omega⟩ ?_
 rintro _ S1 ⟨rfl,i,rfl,hi,hall⟩ KE hKE
 unfold b58_0
 rw[shift_p,ld1_p o1 rfl rfl,lenS_aL,bin_lss,onB_v]
 refine gd_of (fun hlt=>?_) (fun hge=>?_)
 ·have hlt:i<c.cons.length:=by have:=dT hlt;omega
  show ∃ q:AV,_
  refine⟨_,by rw[ldN_p (n:=8) o1 rfl];exact⟨rfl,rfl⟩,?_⟩
  refine⟨_,by rw[shift_p];exact⟨rfl,rfl⟩,?_⟩
  refine⟨_,by rw[ld1_p o1 rfl rfl];exact⟨rfl,rfl⟩,?_⟩
  refine⟨_,by rw[ixS_aL hlt];exact⟨rfl,rfl⟩,?_⟩
  refine⟨_,by rw[ld1_q];exact⟨rfl,rfl⟩,?_⟩
  refine⟨_,callF_ans (ans68 hc.ok (s:=s) (hcon.1 _ (List.getElem_mem hlt))) ⟨rfl,rfl⟩,?_⟩
  refine⟨_,by rw[un_not];exact⟨rfl,rfl⟩,?_⟩
  rw[onB_v]
  refine gd_of (fun h=>⟨by rw[all_no hlt (by simpa using h)],k1⟩) (fun h=>?_)
  rw[bin_add (by omega) (by omega)]
  exact hKE _ _ ⟨rfl,i+1,rfl,hlt,lt_step (p:=fun l=>isB c s l=true) (hi:=hlt) hall (by simpa using h)⟩ (by simp[intA];omega)
 ·have hge:i=c.cons.length:=by have:=dF hge;omega
  subst hge
  exact⟨by rw[all_lt fun j hj=>hall j hj hj],k1⟩
theorem J_shr{a b:Int}(hb:0≤b){S0:Store}{P:AV→Prop}:(∃ q,(bin .shr 0 (aI a) (aI b) S0 fun v S=>v=q∧S=S0)∧P q)=P (aI (a.fdiv (2 ^ min b.toNat 64))):=J_by (op:=fun K=>bin .shr 0 (aI a) (aI b) S0 K) fun K=>bin_shr hb .i64 .i64 0
theorem ans82(f g:Fo):Ans Pg 82 [f.av,g.av] (foTwo 15 f g).av:=by
 intro S
 refine ACalls.tree (calls82 ?_)
 unfold m82
 refine boxA_of (Fo.row_len f) fun S1 k1 n1 o1=>?_
 refine boxA_of (Fo.row_len g) fun S2 k2 n2 o2=>?_
 refine boxA_of rfl fun S3 k3 n3 o3=>?_
 rw[ldN_p (n:=4) ((k3.2 _ (by omega)).trans ((k2.2 _ (by omega)).trans o1)) (Fo.row_len f),ldN_p (n:=4) ((k3.2 _ (by omega)).trans o2) (Fo.row_len g)]
 refine callF_ans (ans76 15 f g) ?_
 refine stA_of o3 (Fo.row_len _) rfl fun S4 n4 o4 f4=>?_
 rw[ldN_p (n:=4) o4 (Fo.row_len _)]
 exact⟨_,rfl,((k1.trans k2).trans k3).st (by omega) n4 f4,Fo.tr _ _ _⟩
theorem ans81(f:Fo):Ans Pg 81 [f.av] (foOne 13 f).av:=by
 intro S
 refine ACalls.tree (calls81 ?_)
 unfold m81
 refine boxA_of (Fo.row_len f) fun S1 k1 n1 o1=>?_
 refine boxA_of rfl fun S2 k2 n2 o2=>?_
 rw[ldN_p (n:=4) ((k2.2 _ (by omega)).trans o1) (Fo.row_len f)]
 refine callF_ans (ans75 13 f) ?_
 refine stA_of o2 (Fo.row_len _) rfl fun S3 n3 o3 f3=>?_
 rw[ldN_p (n:=4) o3 (Fo.row_len _)]
 exact⟨_,rfl,(k1.trans k2).st (by omega) n3 f3,Fo.tr _ _ _⟩
@[simp] theorem lenS_tnL(l:List Tn){S:Store}{K:AV→Store→Prop}:lenS (tnL l) S K=K (aI l.length) S:=by simp[tnL]
theorem ixS_tnL{l:List Tn}{e i:Nat}{S:Store}{K:AV→Store→Prop}(h:i<l.length):ixS e 5 (tnL l) (aI i) S K=K (.q l[i].row 0) S:=by
 unfold tnL
 rw[ixS_l (by simpa using h) (by simp[Tn.row_len])]
 simp
theorem nil_len{α:Type}{l:List α}:decide ((l.length:Int)=0)=decide (l.length=0):=decide_eq_decide.2 ⟨fun h=>by omega,fun h=>by omega⟩
inductive Tn.ok:Tn→Prop
 |mk (k s b:Int) (ss:List Int) (ks:List Tn) (h1:i64R k) (h2:i64R s) (h3:i64R b) (h4:ss.length≤1000000) (h5:∀ x∈ss,i64R x) (h6:ks.length≤1000000) (h:∀ t∈ks,Tn.ok t):Tn.ok (.mk k s b ss ks)
abbrev aR(r:Int × Bool):AV:=.t [aI r.1,aB r.2]
theorem ACalls.ansT{P:Program}{fn:FuncId}{args:List AV}{S:Store}{r:Int × Bool}(h:ACalls P fn args S (fun e S'=>e = .ret (aR r)∧Keep S S')):AnsAt P fn args S (aR r):=
 ACalls.tree (ACalls.mono h fun e S' ⟨h1,h2⟩=>⟨_,h1,h2,cv_t2 (.v _) (.v _)⟩)
theorem J_ext{vs:List AV}{i:Nat}{u:AV}(h:vs[i]? = some u){S0:Store}{P:AV→Prop}:(∃ q,(extr (.t vs) i S0 fun v S=>v=q∧S=S0)∧P q)=P u:=J_by (op:=fun K=>extr (.t vs) i S0 K) fun K=>by simp[extr,h]
theorem J_ix0{α:Type}{x:α}{l:List α}{f:α→AV}{e:Nat}{S0:Store}{P:AV→Prop}:(∃ q,(ixS e 1 (aL f (x :: l)) (.v (.int .i64 0)) S0 fun v S=>v=q∧S=S0)∧P q)=P (.q [f x] 0):=
 J_of (op:=fun K=>ixS e 1 (aL f (x :: l)) (.v (.int .i64 0)) S0 K) fun K=>ixS_aL (i:=0) (by simp)
theorem Tn.tree:∀(t:Tn),∀ u∈t.row,Tree u:=by
 intro t
 induction t using Tn.ind with
 |h k s b ss ks ih =>
  intro u hu
  rw[Tn.row_mk]at hu
  simp only[List.mem_cons,List.not_mem_nil,or_false]at hu
  rcases hu with rfl|rfl|rfl|rfl|rfl
  ·exact Tree.v _
  ·exact Tree.v _
  ·exact Tree.v _
  ·exact treeI _
  ·refine Tree.l fun c hc u hu=>?_
   obtain⟨t,ht,rfl⟩:=List.mem_map.1 hc
   exact ih t ht u hu
theorem Tn.tr(t:Tn):Tree t.av:=Tree.a fun u hu=>Tn.tree t u hu
theorem tnL_tr(l:List Tn):Tree (tnL l):=Tree.l fun c hc u hu=>by
 obtain⟨t,ht,rfl⟩:=List.mem_map.1 hc
 exact Tn.tree t u hu
theorem own_in{n:Nat}{S:Store}{x:AV}{e:Nat}{l:List Int}(h:Own n S x e (l.map fun a=>[aI a])){k m:Nat}(hk:k≤n):Cv (S.frz (newer k)) m x (aL aI l):=
 own_rows (fun r hr u hu=>by obtain⟨f,_,rfl⟩:=List.mem_map.1 hr;rw[List.mem_singleton.1 hu];exact Tree.v _) h hk
theorem chain_no{c:Ci}{ss:List Int}{i:Nat}(hi:i+1<ss.length)(h:behindS c ss[i] ss[i+1]=false):chainS c ss=false:=by
 unfold chainS
 rw[List.all_eq_false]
 refine⟨i,List.mem_range.2 (by omega),?_⟩
 simp[List.getD_eq_getElem?_getD,show i<ss.length by omega,hi,h]
theorem chain_yes{c:Ci}{ss:List Int}(h:∀ i (hi:i+1<ss.length),behindS c (ss[i]'(by omega)) ss[i+1]=true):chainS c ss=true:=by
 unfold chainS
 rw[List.all_eq_true]
 intro i hi
 have hi:=List.mem_range.1 hi
 have hi2:i+1<ss.length:=by omega
 simp[List.getD_eq_getElem?_getD,show i<ss.length by omega,hi2,h i hi2]
def pathR (c:Ci) (f0 f1:Fo) (tk s a:Int) (ss:List Int) (ks:List Tn):Int × Bool:=
 if ss≠[]∧ss.getD 0 0=s∧a=0∧tk=5∧chainS c ss=true then Tn.accs c ks (List.replicate (ss.length - 1) f0 ++ [f1,foG]) (ss ++ [ss.getD (ss.length - 1) 0]) 0 else(0,false)
def loopR (c:Ci) (f0:Fo) (tk s a:Int) (ss:List Int) (ks:List Tn):Int × Bool:=
 if ss≠[]∧ss.getD 0 0=s∧0≤a∧a<ss.length∧tk=6∧behindS c (ss.getD (ss.length - 1) 0) (ss.getD a.toNat 0)=true∧chainS c ss=true∧metS c (ss.drop a.toNat)=true then Tn.accs c ks (List.replicate ss.length f0) ss 0 else(0,false)
def leafB(j tk a:Int)(ss:List Int)(ks:List Tn):Bool:=decide (tk=j) && decide (a=0∧ss.length=0∧ks.length=0)
theorem leaf_eq(j tk a:Int)(ss:List Int)(ks:List Tn):decide (tk=j∧a=0∧ss = []∧ks.map Tn.st = [])=leafB j tk a ss ks:=by
 unfold leafB
 rw[←Bool.decide_and]
 refine decide_eq_decide.2 ?_
 rw[List.length_eq_zero_iff,List.length_eq_zero_iff,List.map_eq_nil_iff]
def runA (c:Ci) (ks:List Tn):(Int × Bool) ⊕ (List Fo × List Int)→Int × Bool
 |.inl r=>r
 |.inr p=>Tn.accs c ks p.1 p.2 0
section
variable {c:Ci} {tk s a l:Int} {ss:List Int} {ks:List Tn} {nm:ByteArray} {fs:List Fo}
theorem acc_mk{f:Fo}:Tn.acc c (.mk tk s a ss ks) f=runA c ks (planA c f tk s a ss (ks.map Tn.st)):=by
 rw[Tn.acc]
 cases planA c f tk s a ss (ks.map Tn.st)<;>rfl
theorem runA_ite{p:Prop}[Decidable p]{x:List Fo}{y:List Int}{r:Int × Bool}:runA c ks (if p then .inr (x,y)else .inl r)=if p then Tn.accs c ks x y 0 else r:=by split<;>rfl
theorem acc_inv(f:Fo)(h:validS c s=false):Tn.acc c (.mk tk s a ss ks) f=(0,false):=by
 obtain⟨k,n,l,fs⟩:=f
 rw[acc_mk,planA,if_pos h];first|rfl|(simp[runA];done)
theorem acc_1(h:validS c s=true):Tn.acc c (.mk tk s a ss ks) (.mk 1 nm l fs)=(0,false):=by
 rw[acc_mk,planA,if_neg (by simp[h]),if_pos rfl];first|rfl|(simp[runA];done)
theorem acc_2(h:validS c s=true):Tn.acc c (.mk tk s a ss ks) (.mk 2 nm l fs)=(0,leafB 1 tk a ss ks):=by
 rw[acc_mk,planA,if_neg (by simp[h]),if_neg (by decide),if_pos rfl,leaf_eq];first|rfl|(simp[runA];done)
theorem acc_3(h:validS c s=true):Tn.acc c (.mk tk s a ss ks) (.mk 3 nm l fs)=(0,leafB 1 tk a ss ks && isB c s l):=by
 rw[acc_mk,planA,if_neg (by simp[h]),if_neg (by decide),if_neg (by decide),if_pos rfl,leaf_eq];first|rfl|(simp[runA];done)
theorem acc_4{n2:ByteArray}{l2:Int}{f2:List Fo}(h:validS c s=true):Tn.acc c (.mk tk s a ss ks) (.mk 4 nm l [.mk 3 n2 l2 f2])=(0,leafB 1 tk a ss ks && !isB c s l2):=by
 rw[acc_mk,planA,if_neg (by simp[h]),if_neg (by decide),if_neg (by decide),if_neg (by decide),if_pos rfl,leaf_eq];first|rfl|(simp[runA];done)
theorem acc_5(h:validS c s=true):Tn.acc c (.mk tk s a ss ks) (.mk 5 nm l fs)=if tk=2∧a=0∧ss = []then Tn.accs c ks fs [s,s] 0 else(0,false):=by
 rw[acc_mk,planA,if_neg (by simp[h]),if_neg (by decide),if_neg (by decide),if_neg (by decide),if_neg (by decide),if_pos rfl]
 exact runA_ite
theorem acc_6(h:validS c s=true):Tn.acc c (.mk tk s a ss ks) (.mk 6 nm l fs)=if tk=3∧0≤a∧a≤1∧ss = []then Tn.accs c ks [fs.getD a.toNat fo0] [s] 0 else(0,false):=by
 rw[acc_mk,planA,if_neg (by simp[h]),if_neg (by decide),if_neg (by decide),if_neg (by decide),if_neg (by decide),if_neg (by decide),if_pos rfl]
 exact runA_ite
theorem acc_9(h:validS c s=true):Tn.acc c (.mk tk s a ss ks) (.mk 9 nm l fs)=if tk=4∧a=0∧ss = []∧(ks.map Tn.st).length=2∧behindS c s ((ks.map Tn.st).getD 0 0)=true then Tn.accs c ks [fs.getD 0 fo0,foG] [(ks.map Tn.st).getD 0 0,(ks.map Tn.st).getD 0 0] 0 else(0,false):=by
 rw[acc_mk,planA,if_neg (by simp[h]),if_neg (by decide),if_neg (by decide),if_neg (by decide),if_neg (by decide),if_neg (by decide),if_neg (by decide),if_pos rfl]
 exact runA_ite
theorem acc_11{f:Fo}(h:validS c s=true):Tn.acc c (.mk tk s a ss ks) (.mk 11 nm l [f])=pathR c fo2 f tk s a ss ks:=by
 rw[acc_mk,planA,if_neg (by simp[h]),if_neg (by decide),if_neg (by decide),if_neg (by decide),if_neg (by decide),if_neg (by decide),if_neg (by decide),if_neg (by decide),if_pos (.inl rfl),pathR,if_pos rfl,if_pos rfl]
 exact runA_ite
theorem acc_15{f g:Fo}(h:validS c s=true):Tn.acc c (.mk tk s a ss ks) (.mk 15 nm l [f,g])=pathR c f g tk s a ss ks:=by
 rw[acc_mk,planA,if_neg (by simp[h]),if_neg (by decide),if_neg (by decide),if_neg (by decide),if_neg (by decide),if_neg (by decide),if_neg (by decide),if_neg (by decide),if_pos (.inr rfl),pathR]
 exact runA_ite
theorem acc_13{f:Fo}(h:validS c s=true):Tn.acc c (.mk tk s a ss ks) (.mk 13 nm l [f])=loopR c f tk s a ss ks:=by
 rw[acc_mk,planA,if_neg (by simp[h]),if_neg (by decide),if_neg (by decide),if_neg (by decide),if_neg (by decide),if_neg (by decide),if_neg (by decide),if_neg (by decide),if_neg (by decide),if_pos rfl,loopR]
 exact runA_ite
theorem acc_17{f g:Fo}(h:validS c s=true):Tn.acc c (.mk tk s a ss ks) (.mk 17 nm l [f,g])=if tk=3∧0≤a∧a≤1∧ss = []then Tn.accs c ks [if a=0 then foOne 13 g else foTwo 15 g (foTwo 5 f g)] [s] 0 else(0,false):=by
 rw[acc_mk,planA,if_neg (by simp[h]),if_neg (by decide),if_neg (by decide),if_neg (by decide),if_neg (by decide),if_neg (by decide),if_neg (by decide),if_neg (by decide),if_neg (by decide),if_neg (by decide),if_pos rfl]
 exact runA_ite
theorem acc_t{k:Int}(hk:k=10∨k=12∨k=14∨k=16∨k=18)(h:validS c s=true):Tn.acc c (.mk tk s a ss ks) (.mk k nm l fs)=(1,leafB 7 tk a ss ks):=by
 rw[acc_mk,planA,if_neg (by simp[h]),if_neg (by omega),if_neg (by omega),if_neg (by omega),if_neg (by omega),if_neg (by omega),if_neg (by omega),if_neg (by omega),if_neg (by omega),if_neg (by omega),if_neg (by omega),leaf_eq];first|rfl|(simp[runA];done)
end
set_option linter.unusedSectionVars false
theorem J_F0{e:Nat}{f:Fo}{l:List Fo}{S0:Store}{P:AV→Prop}:(∃ q,(ixS e 4 (foL (f :: l)) (.v (.int .i64 0)) S0 fun v S=>v=q∧S=S0)∧P q)=P (.q f.row 0):=J_of (op:=fun K=>ixS e 4 (foL (f :: l)) (.v (.int .i64 0)) S0 K) fun K=>ixF0
theorem ixT0{e:Nat}{f:Tn}{l:List Tn}{S:Store}{K:AV→Store→Prop}:ixS e 5 (tnL (f :: l)) (.v (.int .i64 0)) S K=K (.q f.row 0) S:=ixS_tnL (i:=0) (by simp)
theorem J_lenT{l:List Tn}{S0:Store}{P:AV→Prop}:(∃ q,(lenS (tnL l) S0 fun v S=>v=q∧S=S0)∧P q)=P (aI l.length):=J_of (op:=fun K=>lenS (tnL l) S0 K) fun K=>lenS_tnL l
theorem Tn.row1(t:Tn):t.row[1]? = some (aI t.st):=by cases t;rw[Tn.row_mk];rfl
theorem slen0{ss:List Int}:(¬ ss = [])→decide ((0:Int)<(ss.length:Int))=true:=fun h=>decide_eq_true (by have:=List.length_pos_iff.2 h;omega)
section
variable {c:Ci} (hc:Cs c) {ks:List Tn} (hk:ks.length≤1000000) (IH:∀ t∈ks,∀ f,Pu f→Ans Pg 80 [c.av,f.av,t.av] (aR (t.acc c f))) {ss:List Int} (hs:ss.length≤1000000) (tk s a:Int)
include hc hk IH hs
variable (hv:validS c s=true)
include hv
omit hv
end
def waysE:List (Key × AV):=[(.i 2,.f (.func 89) [] []),(.i 3,.f (.func 90) [] []),(.i 4,.f (.func 91) [] []),(.i 5,.f (.func 92) [] []),(.i 6,.f (.func 93) [] []),
 (.i 9,.f (.func 94) [] []),(.i 11,.f (.func 95) [] []),(.i 13,.f (.func 96) [] []),(.i 15,.f (.func 97) [] []),(.i 17,.f (.func 98) [] []),
 (.i 10,.f (.func 99) [] []),(.i 12,.f (.func 99) [] []),(.i 14,.f (.func 99) [] []),(.i 16,.f (.func 99) [] []),(.i 18,.f (.func 99) [] [])]
def plC(c:Ci)(n:Int):List AV:=c.cells ++ [aI n,.mt (.i .i64) waysE]
theorem plC_len(c:Ci)(n:Int):(plC c n).length=10:=rfl
abbrev plO(c:Ci)(n:Int):AObj:=.cells 100 [plC c n] true
theorem ldN_pl{c:Ci}{n:Int}{id:Nat}{S:Store}{K:AV→Store→Prop}(h:S.obj id=some (plO c n)):ldN 8 (.p id 0 0) S K=K c.av S:=by
 simp[ldN,rdN,place,Store.get,h,plC,Ci.cells,Ci.av]
theorem J_pl{c:Ci}{n:Int}{id:Nat}{S0:Store}{P:AV→Prop}(h:S0.obj id=some (plO c n)):(∃ q,(ldN 8 (.p id 0 0) S0 fun v S=>v=q∧S=S0)∧P q)=P c.av:=J_of (op:=fun K=>ldN 8 (.p id 0 0) S0 K) fun K=>ldN_pl h
theorem at137{c:Ci}(hc:c.ok){n:Int}{id:Nat}{S:Store}(h:S.obj id=some (plO c n))(s:Int){l:Int}(hl:i64R l):AnsAt Pg 137 [.p id 0 0,aI s,aI l] S (aB (isB c s l)):=by
 refine calls137 ?_
 unfold m137
 rw[nilChk_p,shift_p,Nat.zero_add,ldN_pl h]
 exact callF_ans (ans171 hc s hl) ⟨rfl,rfl⟩
theorem at146{c:Ci}(hc:c.ok){n:Int}{id a b ta tb:Nat}{S:Store}(h:S.obj id=some (plO c n)){s:Int}(ha:S.obj a=some (.cells ta [[.p id 0 0]] true))(hb:S.obj b=some (.cells tb [[aI s]] true)){l:Int}(hl:i64R l):
    AnsAt Pg 146 ([] ++ [aI l] ++ [.p a 0 0,.p b 0 0]) S (aB (!isB c s l)):=by
 refine calls146 ?_
 unfold m146
 rw[ld1_p ha rfl rfl,ld1_p hb rfl rfl]
 refine callF_at (at137 hc h s hl) ?_
 rw[un_not]
 exact⟨rfl,rfl⟩
theorem any_notI{l:List Int}{g:Int→Bool}:l.any (fun x=>!g x) = !l.all g:=by
 induction l with
 |nil=>rfl
 |cons a l ih=>rw[List.any_cons,List.all_cons,ih,Bool.not_and]
theorem at100{c:Ci}(hc:Cs c){n:Int}{id:Nat}{S:Store}(h:S.obj id=some (plO c n))(hid:id<S.n)(s:Int):AnsAt Pg 100 [.p id 0 0,aI s] S (aB (validS c s)):=by
 obtain⟨m,h1,h2,h3,h4,h5⟩:=hc.sum
 have hcon:=hc.ok.cons
 have hll:=hc.ok.llen
 refine ACalls.ans_v (calls100 ?_)
 unfold m100 validS
 rw[h2,Int.toNat_natCast]
 refine box1_of rfl fun S1 k1 n1 o1=>?_
 refine box1_of rfl fun S2 k2 n2 o2=>?_
 have kk:=k1.trans k2
 have p1:=(k2.2 _ (by omega)).trans o1
 have q:=(kk.2 _ hid).trans h
 have radd:∀{P:AV→Prop},(∃ q,(bin .add 0 (aI c.inputs) (aI c.latches.length) S2 fun v S=>v=q∧S=S2)∧P q)=P (aI m):=J_of (op:=fun K=>bin .add 0 (aI c.inputs) (aI c.latches.length) S2 K) fun K=>(bin_add (by omega) (by omega) 0).trans (by rw[h1])
 have rlen:∀{P:AV→Prop},(∃ q,(lenS (pL c.latches) S2 fun v S=>v=q∧S=S2)∧P q)=P (aI c.latches.length):=J_of (op:=fun K=>lenS (pL c.latches) S2 K) fun K=>lenS_pL _
 have rshl:∀{P:AV→Prop},(∃ q,(bin .shl 0 (.v (.int .i64 1)) (aI m) S2 fun v S=>v=q∧S=S2)∧P q)=P (aI (2 ^ m)):=J_of (op:=fun K=>bin .shl 0 (.v (.int .i64 1)) (aI m) S2 K) fun K=>bin_shl1 h3
 show ∃ q:AV,_
 (repeat (first|with_reducible_and_instances (first|refine WJ ?_|refine W (J_ldp p1 (by with_unfolding_all rfl) (by with_unfolding_all rfl)) ?_|refine W (J_ldp o2 (by with_unfolding_all rfl) (by with_unfolding_all rfl)) ?_|refine W (J_nil) ?_|refine W (J_ldp q (by with_unfolding_all rfl) (by with_unfolding_all rfl)) ?_|refine W (rlen) ?_|refine W (radd) ?_|refine W (J_ldq (by with_unfolding_all rfl)) ?_)))
 cases e1:decide (0≤s)with
 |false =>
  (repeat (first|with_reducible_and_instances (first|refine WJ ?_|refine W (J_ldq (by with_unfolding_all rfl)) ?_)))
  exact⟨by rw[Bool.false_and],kk⟩
 |true =>
  (repeat (first|with_reducible_and_instances (first|refine WJ ?_|refine W (J_ldp o2 (by with_unfolding_all rfl) (by with_unfolding_all rfl)) ?_|refine W (rshl) ?_|refine W (J_ldq (by with_unfolding_all rfl)) ?_)))
  cases e2:decide (s<2 ^ m)with
  |false =>
   (repeat (first|with_reducible_and_instances (first|refine WJ ?_|refine W (J_ldq (by with_unfolding_all rfl)) ?_)))
   exact⟨by rw[Bool.false_and,Bool.and_false],kk⟩
  |true =>
   have hcf:=at132 (f:=aI) (l:=c.cons) hcon.2 (fs:=[]) (cs:=[.p S.n 0 0,.p S1.n 0 0]) (S:=S2) fun x hx=>at146 (s:=s) hc.ok q p1 o2 (hcon.1 x hx)
   rw[any_notI]at hcf
   (repeat (first|with_reducible_and_instances (first|refine WJ ?_|refine W (J_ldp p1 (by with_unfolding_all rfl) (by with_unfolding_all rfl)) ?_|refine W (J_nil) ?_|refine W (J_ldp q (by with_unfolding_all rfl) (by with_unfolding_all rfl)) ?_|refine W (J_ldq (by with_unfolding_all rfl)) ?_)|refine J_cI (hcf) rfl rfl ?_|refine C_I (hcf) rfl rfl ?_))
   exact⟨by rw[Bool.true_and,Bool.true_and,Bool.not_not],kk⟩
theorem at141{c:Ci}(hc:Cs c){n:Int}{id:Nat}{S:Store}(h:S.obj id=some (plO c n))(hid:id<S.n)(s t:Int):AnsAt Pg 141 [.p id 0 0,aI s,aI t] S (aB (behindS c s t)):=by
 obtain⟨m,h1,h2,h3,h4,h5⟩:=hc.sum
 refine calls141 ?_
 unfold m141 behindS
 show ∃ q:AV,_
 cases e1:validS c s with
 |false =>
  (repeat (first|with_reducible_and_instances (first|refine WJ ?_|refine W (gd_T e1) ?_|refine W (gd_F e1) ?_|refine W (gd_nT e1) ?_|refine W (gd_nF e1) ?_|refine W (J_ldq (by with_unfolding_all rfl)) ?_)|refine J_cI (at100 hc h hid s) rfl rfl ?_|refine C_I (at100 hc h hid s) rfl rfl ?_))
  exact⟨by rw[Bool.false_and],rfl⟩
 |true =>
  cases e2:validS c t with
  |false =>
   (repeat (first|with_reducible_and_instances (first|refine WJ ?_|refine W (gd_T e1) ?_|refine W (gd_F e1) ?_|refine W (gd_nT e1) ?_|refine W (gd_nF e1) ?_|refine W (gd_T e2) ?_|refine W (gd_F e2) ?_|refine W (gd_nT e2) ?_|refine W (gd_nF e2) ?_|refine W (J_ldq (by with_unfolding_all rfl)) ?_)|refine J_cI (at100 hc h hid s) rfl rfl ?_|refine C_I (at100 hc h hid s) rfl rfl ?_|refine J_cI (at100 hc h hid t) rfl rfl ?_|refine C_I (at100 hc h hid t) rfl rfl ?_))
   exact⟨by rw[Bool.false_and,Bool.and_false],rfl⟩
  |true =>
   (repeat (first|with_reducible_and_instances (first|refine WJ ?_|refine W (J_nil) ?_|refine W (J_pl h) ?_|refine W (J_ldp h (by with_unfolding_all rfl) (by with_unfolding_all rfl)) ?_|refine W (J_shr h4) ?_|refine W (gd_T e1) ?_|refine W (gd_F e1) ?_|refine W (gd_nT e1) ?_|refine W (gd_nF e1) ?_|refine W (gd_T e2) ?_|refine W (gd_F e2) ?_|refine W (gd_nT e2) ?_|refine W (gd_nF e2) ?_|refine W (J_ldq (by with_unfolding_all rfl)) ?_)|refine J_cI (at100 hc h hid s) rfl rfl ?_|refine C_I (at100 hc h hid s) rfl rfl ?_|refine J_cI (at100 hc h hid t) rfl rfl ?_|refine C_I (at100 hc h hid t) rfl rfl ?_|refine J_cA (ans172 hc.ok s) rfl rfl ?_|refine C_A (ans172 hc.ok s) rfl rfl ?_))
   exact⟨by rw[Bool.true_and,Bool.true_and],rfl⟩
theorem ans138(tk s a:Int)(ss:List Int)(ks:List Tn)(j:Int):Ans Pg 138 [(Tn.mk tk s a ss ks).av,aI j] (aB (decide (tk=j) && decide (a=0∧ss.length=0))):=by
 intro S
 refine ACalls.ans_v (calls138 ?_)
 unfold m138
 rw[Tn.av,Tn.row_mk]
 refine boxA_of rfl fun S1 k1 n1 o1=>?_
 rw[shift_p,ld1_p o1 rfl rfl,bin_eql,onB_v]
 refine gd_of (fun h=>?_) (fun h=>⟨by rw[h,Bool.false_and],k1⟩)
 rw[h,Bool.true_and,shift_p,ld1_p o1 rfl rfl,bin_eql,onB_v]
 refine gd_of (fun h=>?_) (fun h=>⟨?_,k1⟩)
 ·have h1:=dT h
  rw[shift_p,ld1_p o1 rfl rfl,lenS_aL,bin_eql]
  exact⟨by rw[nil_len];congr 3;exact decide_eq_decide.2 ⟨fun h=>⟨h1,h⟩,fun h=>h.2⟩,k1⟩
 ·have h1:=dF h
  rw[decide_eq_false (fun h=>by omega)]
theorem ans136(tk s a:Int)(ss:List Int)(ks:List Tn)(j:Int):Ans Pg 136 [(Tn.mk tk s a ss ks).av,aI j] (aB (leafB j tk a ss ks)):=by
 intro S
 refine ACalls.ans_v (calls136 ?_)
 unfold m136 leafB
 have cb:=ans138 tk s a ss ks j
 rw[Tn.av,Tn.row_mk]at cb ⊢
 refine boxA_of rfl fun S1 k1 n1 o1=>?_
 rw[ldN_p (n:=5) o1 rfl]
 refine callF_ans cb ?_
 rw[onB_v]
 refine gd_of (fun h=>?_) (fun h=>⟨?_,k1⟩)
 ·rw[shift_p,ld1_p o1 rfl rfl,lenS_tnL,bin_eql]
  simp only[Bool.and_eq_true,decide_eq_true_eq]at h
  exact⟨by rw[nil_len,decide_eq_true h.1,Bool.true_and];congr 3;exact decide_eq_decide.2 ⟨fun h3=>⟨h.2.1,h.2.2,h3⟩,fun h=>h.2.2⟩,k1⟩
 ·cases e:decide (tk=j)with
  |false=>rw[Bool.false_and]
  |true =>
   rw[e,Bool.true_and]at h
   have:=dF h
   rw[decide_eq_false (fun h=>this ⟨h.1,h.2.1⟩)];rfl
theorem fo2_nl{S:Store}{n:Nat}:Cv S n (.a [aI 2,.v (.string ByteArray.empty),aI 0,.nl]) fo2.av:=by
 rw[Fo.av,Fo.row_mk]
 refine .a _ _ rfl fun k u u2 e1 e2=>?_
 match k with
 |0=>cases e1;cases e2;exact .v _
 |1=>cases e1;cases e2;exact .v _
 |2=>cases e1;cases e2;exact .v _
 |3=>cases e1;cases e2;exact .nl
 |k+4=>simp at e1
theorem fo2_row{S:Store}{n:Nat}:∀(k:Nat) (u u2:AV),[aI 2,.v (.string ByteArray.empty),aI 0,AV.nl][k]? = some u→fo2.row[k]? = some u2→Cv S n u u2:=fun k u u2 e1 e2=>by
 rw[Fo.row_mk]at e2
 match k with
 |0=>cases e1;cases e2;exact .v _
 |1=>cases e1;cases e2;exact .v _
 |2=>cases e1;cases e2;exact .v _
 |3=>cases e1;cases e2;exact .nl
 |k+4=>simp at e1
theorem fo2_cv{f:FuncId}{k:Int}{r:AV}(h:Ans Pg f [aI k,foL [fo2]] r)(S:Store):AnsAt Pg f [aI k,.l [[aI 2,.v (.string ByteArray.empty),aI 0,.nl]]] S r:=by
 refine ansAt_cv (args2:=[aI k,foL [fo2]]) rfl (fun j u u2 e1 e2=>?_) (h S)
 match j with
 |0=>cases e1;cases e2;exact .v _
 |1 =>
  cases e1;cases e2
  refine .l _ _ rfl (fun i c c2 h1 h2=>?_) (fun i c c2 k u u2 h1 h2 h3 h4=>?_)
  ·match i with
   |0=>cases h1;cases h2;rw[Fo.row_len];rfl
   |i+1=>simp at h1
  ·match i with
   |0=>cases h1;cases h2;exact fo2_row k u u2 h3 h4
   |i+1=>simp at h1
 |j+2=>simp at e1
theorem ans142:Ans Pg 142 [] foG.av:=by
 intro S
 refine ACalls.tree (calls142 ?_)
 unfold m142
 refine boxA_of rfl fun S1 k1 n1 o1=>?_
 rw[bld_of (cs:=[aI 2,.v (.string ByteArray.empty),aI 0,.nl]) rfl]
 refine bslA4 rfl ?_
 refine callF_at (fo2_cv (fun S=>ans74 13 [fo2] S) S1) ?_
 refine stA_of o1 (Fo.row_len _) rfl fun S2 n2 o2 f2=>?_
 rw[ldN_p (n:=4) o2 (Fo.row_len _)]
 exact⟨_,rfl,k1.st (Nat.le_refl _) n2 f2,Fo.tr _ _ _⟩
def seqR(a b:Int × Bool):Int × Bool:=if a.2=true∧b.2=true then(IntKind.i64.wrap (a.1+b.1),true)else(0,false)
def rat (c:Ci) (t:Tn) (f:Fo) (s:Int):Int × Bool:=if t.st=s then t.acc c f else(0,false)
theorem wrap_rng{n:Int}(h:i64R n):IntKind.i64.wrap n=n:=wrap64 h.1 h.2
theorem accs_no(c:Ci):∀(ts:List Tn) (fs:List Fo) (ss:List Int) (n:Int),(Tn.accs c ts fs ss n).2=false→Tn.accs c ts fs ss n=(0,false):=by
 intro ts
 induction ts with
 |nil =>
  intro fs ss n h
  cases fs<;>cases ss<;>first|(simp[Tn.accs]at h;done)|(simp[Tn.accs])
 |cons t ts ih =>
  intro fs ss n h
  cases fs with
  |nil=>cases ss<;>simp[Tn.accs]
  |cons f fs =>
   cases ss with
   |nil=>simp[Tn.accs]
   |cons s ss =>
    rw[accs_cons]at h ⊢
    split at h
    ·rename_i hq
     rw[if_pos hq]
     exact ih fs ss _ h
    ·rename_i hq
     rw[if_neg hq]
theorem accs_rng(c:Ci):∀(ts:List Tn) (fs:List Fo) (ss:List Int) {n:Int},i64R n→i64R (Tn.accs c ts fs ss n).1:=by
 have z:i64R 0:=⟨by decide,by decide⟩
 intro ts
 induction ts with
 |nil =>
  intro fs ss n h
  cases fs<;>cases ss<;>simp[Tn.accs]<;>first|exact h|exact z
 |cons t ts ih =>
  intro fs ss n h
  cases fs with
  |nil=>cases ss<;>simp[Tn.accs]<;>exact z
  |cons f fs =>
   cases ss with
   |nil=>simp[Tn.accs];exact z
   |cons s ss =>
    rw[accs_cons]
    split
    ·exact ih fs ss (wrapR _)
    ·exact z
theorem accs_from(c:Ci)(ts:List Tn)(fs:List Fo)(ss:List Int){n:Int}(hn:i64R n):Tn.accs c ts fs ss n=seqR (n,true) (Tn.accs c ts fs ss 0):=by
 obtain⟨h1,h2⟩:=accs_on c ts fs ss n 0
 unfold seqR
 cases e:(Tn.accs c ts fs ss n).2 with
 |false=>rw[←h1,e,accs_no _ _ _ _ _ e,if_neg (by simp)]
 |true =>
  have h3:=h2 e
  rw[Int.zero_add,wrap_rng (accs_rng c ts fs ss hn)]at h3
  rw[←h1,e,if_pos ⟨rfl,rfl⟩,←h3,←e]
theorem accs_seq{c:Ci}{t:Tn}{ts:List Tn}{f:Fo}{fs:List Fo}{s:Int}{ss:List Int}:Tn.accs c (t :: ts) (f :: fs) (s :: ss) 0=seqR (rat c t f s) (Tn.accs c ts fs ss 0):=by
 rw[accs_cons,rat]
 by_cases h:t.st=s
 ·rw[if_pos h,decide_eq_true h,Bool.and_true]
  split
  ·rename_i h2
   rw[Int.zero_add,accs_from _ _ _ _ (wrapR _)]
   unfold seqR
   rw[h2]
   split
   ·show(IntKind.i64.wrap (IntKind.i64.wrap _+_),true)=_
    rw[wrap_wrap]
   ·rfl
  ·rename_i h2
   unfold seqR
   rw[if_neg (fun hq=>h2 hq.1)]
 ·rw[if_neg h,decide_eq_false h,Bool.and_false,if_neg (by decide)]
  unfold seqR
  rw[if_neg (by simp)]
theorem accs_none{c:Ci}:Tn.accs c [] [] [] 0=(0,true):=by rw[Tn.accs]
theorem seq_none{c:Ci}{t:Tn}{f:Fo}{s:Int}:Tn.accs c [t] [f] [s] 0=seqR (rat c t f s) (0,true):=by rw[accs_seq,accs_none]
theorem seq_assoc(a b d:Int × Bool):seqR (seqR a b) d=seqR a (seqR b d):=by
 unfold seqR
 cases a.2<;>cases b.2<;>cases d.2<;>simp
 rw[wrap_wrap,wrap_wrap',Int.add_assoc]
theorem accs_app(c:Ci):∀(ts:List Tn) (fs:List Fo) (ss:List Int) (ts2:List Tn) (fs2:List Fo) (ss2:List Int),fs.length=ts.length→ss.length=ts.length→Tn.accs c (ts++ts2) (fs++fs2) (ss++ss2) 0=seqR (Tn.accs c ts fs ss 0) (Tn.accs c ts2 fs2 ss2 0):=by
 intro ts
 induction ts with
 |nil =>
  intro fs ss ts2 fs2 ss2 h1 h2
  obtain rfl:=List.eq_nil_of_length_eq_zero h1
  obtain rfl:=List.eq_nil_of_length_eq_zero h2
  rw[accs_none,List.nil_append,List.nil_append,List.nil_append]
  exact accs_from c ts2 fs2 ss2 ⟨by decide,by decide⟩
 |cons t ts ih =>
  intro fs ss ts2 fs2 ss2 h1 h2
  match fs,ss,h1,h2 with
  |f :: fs,s :: ss,h1,h2 =>
   rw[List.cons_append,List.cons_append,List.cons_append,accs_seq,accs_seq,ih fs ss ts2 fs2 ss2 (by simpa using h1) (by simpa using h2),seq_assoc]
def PlR(c:Ci)(id:Nat)(S:Store)(n:Int)(r:Int × Bool)(e:AEnd)(S':Store):Prop:=
 ∃ n',e = .ret (aB r.2)∧i64R n'∧(r.2=true→n'=IntKind.i64.wrap (n+r.1))∧S.n≤S'.n∧S'.obj id=some (plO c n')∧∀ x,x<S.n→x≠id→S'.obj x=S.obj x
theorem PlR.up{c:Ci}{id:Nat}{S S2 S':Store}{n:Int}{r:Int × Bool}{e:AEnd}(k:Keep S S2)(h:PlR c id S2 n r e S'):PlR c id S n r e S':=by
 obtain⟨n',h1,h2,h3,h4,h5,h6⟩:=h
 exact⟨n',h1,h2,h3,by have:=k.1;omega,h5,fun x hx hne=>(h6 x (by have:=k.1;omega) hne).trans (k.2 x hx)⟩
theorem PlR.same{c:Ci}{id:Nat}{S S':Store}{n:Int}{b:Bool}(k:Keep S S')(ho:S'.obj id=some (plO c n))(hn:i64R n):PlR c id S n (0,b) (.ret (aB b)) S':=
 ⟨n,rfl,hn,fun _=>by rw[Int.add_zero,wrap_rng hn],k.1,ho,fun x hx _=>k.2 x hx⟩
theorem PlR.seq{c:Ci}{id:Nat}{S S1 S2:Store}{n:Int}{n1:Int}{a b:Int × Bool}{e:AEnd}(ha:a.2=true)(h1:n1=IntKind.i64.wrap (n+a.1))(hn:S.n≤S1.n)(ho:∀ x,x<S.n→x≠id→S1.obj x=S.obj x)(h:PlR c id S1 n1 b e S2):PlR c id S n (seqR a b) e S2:=by
 obtain⟨n',e1,e2,e3,e4,e5,e6⟩:=h
 refine⟨n',?_,e2,fun hq=>?_,by omega,e5,fun x hx hne=>(e6 x (by omega) hne).trans (ho x hx hne)⟩
 ·rw[e1]
  unfold seqR
  cases hb:b.2 with
  |true=>rw[if_pos ⟨ha,rfl⟩]
  |false=>rw[if_neg (by simp)]
 ·unfold seqR at hq ⊢
  split at hq
  ·rename_i h2
   rw[if_pos h2,e3 h2.2,h1]
   show IntKind.i64.wrap (IntKind.i64.wrap (n+a.1)+b.1)=IntKind.i64.wrap (n+IntKind.i64.wrap (a.1+b.1))
   rw[wrap_wrap,wrap_wrap',Int.add_assoc]
  ·cases hq
theorem PlR.seqF{c:Ci}{id:Nat}{S S1:Store}{n n1:Int}{a b:Int × Bool}(ha:a.2=false)(h1:i64R n1)(hn:S.n≤S1.n)(ho:S1.obj id=some (plO c n1))(hk:∀ x,x<S.n→x≠id→S1.obj x=S.obj x):PlR c id S n (seqR a b) (.ret (aB false)) S1:=by
 have:seqR a b=(0,false):=by unfold seqR;rw[if_neg (by simp[ha])]
 rw[this]
 exact⟨n1,rfl,h1,(fun h=>by cases h),hn,ho,hk⟩
theorem callF_pl{P:Program}{f:FuncId}{args:List AV}{c:Ci}{id:Nat}{S:Store}{n:Int}{r:Int × Bool}(h:ACalls P f args S (PlR c id S n r)){Q:AEnd→Store→Prop}{K:AV→Store→Prop}
    (k:∀ n' S',i64R n'→(r.2=true→n'=IntKind.i64.wrap (n+r.1))→S.n≤S'.n→S'.obj id=some (plO c n')→(∀ x,x<S.n→x≠id→S'.obj x=S.obj x)→K (aB r.2) S'):callF P f args S Q K:=
 .inl (h.mono fun e S' ⟨n',he,h1,h2,h3,h4,h5⟩=>by subst he;exact k n' S' h1 h2 h3 h4 h5)
theorem callF_pr{P:Program}{f:FuncId}{args:List AV}{c:Ci}{id:Nat}{S:Store}{n:Int}{r:Int × Bool}(h:ACalls P f args S (PlR c id S n r)){Q:AEnd→Store→Prop}{K:AV→Store→Prop}
    (k:∀ S',PlR c id S n r (.ret (aB r.2)) S'→K (aB r.2) S'):callF P f args S Q K:=
 .inl (h.mono fun e S' hp=>by
  have hp':=hp
  obtain⟨n',he,_⟩:=hp
  subst he
  exact k S' hp')
theorem callV_pr{P:Program}{f:FuncId}{fs args cs:List AV}{c:Ci}{id:Nat}{S:Store}{n:Int}{r:Int × Bool}(h:ACalls P f (fs++args++cs) S (PlR c id S n r)){K X:AV→Store→Prop}
    (k:∀ S',PlR c id S n r (.ret (aB r.2)) S'→K (aB r.2) S'):callV P (.f (.func f) fs cs) args S K X:=
 .inl (h.mono fun e S' hp=>by
  have hp':=hp
  obtain⟨n',he,_⟩:=hp
  subst he
  exact k S' hp')
def HK(c:Ci)(id:Nat)(t:Tn):Prop:=∀ f,Pu f→∀(S:Store) (n:Int),S.obj id=some (plO c n)→id<S.n→i64R n→ACalls Pg 54 [.p id 0 0,f.av,t.av] S (PlR c id S n (t.acc c f))
theorem pl139{c:Ci}{id:Nat}{t:Tn}(ht:HK c id t){f:Fo}(hf:Pu f){S:Store}{n:Int}(h:S.obj id=some (plO c n))(hid:id<S.n)(hn:i64R n)(s:Int):
    ACalls Pg 139 [.p id 0 0,aI s,f.av,t.av] S (PlR c id S n (rat c t f s)):=by
 refine calls139 ?_
 unfold m139
 have h1:t.row[1]? = some (aI t.st):=Tn.row1 t
 refine boxA_of (Fo.row_len f) fun S1 k1 n1 o1=>?_
 refine boxA_of (Tn.row_len t) fun S2 k2 n2 o2=>?_
 have kk:=k1.trans k2
 have p1:=(k2.2 _ (by omega)).trans o1
 have q:=(kk.2 _ hid).trans h
 rw[shift_p,Nat.zero_add,ld1_p o2 rfl h1,bin_eql,onB_v]
 unfold rat
 refine gd_of (fun e=>?_) (fun e=>?_)
 ·rw[if_pos (dT e),ldN_p (n:=4) p1 (Fo.row_len f),ldN_p (n:=5) o2 (Tn.row_len t)]
  exact callF_pr (ht f hf S2 n q (by omega) hn) fun S' hp=>hp.up kk
 ·rw[if_neg (dF e)]
  exact PlR.same kk q hn
set_option linter.unusedSectionVars false
theorem LJ_T0{e:Nat}{t:Tn}{l:List Tn}{S0:Store}{P:AV→Prop}:(∃ q,(∀ T,Keep S0 T→ixS e 5 (tnL (t :: l)) (.v (.int .i64 0)) T fun v S=>v=q∧S=T)∧P q)=P (.q t.row 0):=LJ_of (op:=fun T K=>ixS e 5 (tnL (t :: l)) (.v (.int .i64 0)) T K) fun T hT K=>ixT0
theorem LJ_Ti{e i:Nat}{l:List Tn}(h:i<l.length){S0:Store}{P:AV→Prop}:(∃ q,(∀ T,Keep S0 T→ixS e 5 (tnL l) (aI i) T fun v S=>v=q∧S=T)∧P q)=P (.q l[i].row 0):=LJ_of (op:=fun T K=>ixS e 5 (tnL l) (aI i) T K) fun T hT K=>ixS_tnL h
theorem LJ_T1{e:Nat}{t t1:Tn}{l:List Tn}{S0:Store}{P:AV→Prop}:(∃ q,(∀ T,Keep S0 T→ixS e 5 (tnL (t :: t1 :: l)) (.v (.int .i64 1)) T fun v S=>v=q∧S=T)∧P q)=P (.q t1.row 0):=LJ_Ti (i:=1) (l:=t :: t1 :: l) (by simp)
theorem LJ_lenT{l:List Tn}{S0:Store}{P:AV→Prop}:(∃ q,(∀ T,Keep S0 T→lenS (tnL l) T fun v S=>v=q∧S=T)∧P q)=P (aI l.length):=LJ_of (op:=fun T K=>lenS (tnL l) T K) fun T hT K=>lenS_tnL l
theorem PlR.one{c:Ci}{id:Nat}{S S':Store}{n:Int}{r:Int × Bool}{e:AEnd}(h:PlR c id S n r e S'):PlR c id S n (seqR r (0,true)) e S':=by
 obtain⟨n',h1,h2,h3,h4⟩:=h
 unfold seqR
 cases hr:r.2 with
 |false=>exact⟨n',by rw[h1,hr,if_neg (by simp)],h2,(fun h=>by simp at h),h4⟩
 |true=>exact⟨n',by rw[h1,hr,if_pos ⟨rfl,rfl⟩],h2,(fun _=>by rw[if_pos ⟨rfl,rfl⟩];show n'=IntKind.i64.wrap (n+IntKind.i64.wrap (r.1+0));rw[wrap_wrap',Int.add_zero];exact h3 hr),h4⟩
section
variable {c:Ci} (hc:Cs c) {id:Nat} {ks:List Tn} (hk:∀ t∈ks,HK c id t) (hkl:ks.length≤1000000) {ss:List Int} (hs:ss.length≤1000000) (tk s a:Int) {S:Store} {n:Int} (h:S.obj id=some (plO c n)) (hid:id<S.n) (hn:i64R n)
include hc hk hkl hs h hid hn
theorem pl89(f:Fo):ACalls Pg 89 [.p id 0 0,f.av,(Tn.mk tk s a ss ks).av] S (PlR c id S n (0,leafB 1 tk a ss ks)):=by
 refine calls89 ?_
 unfold m89
 have cl:=ans136 tk s a ss ks 1
 rw[Tn.av,Tn.row_mk]at cl ⊢
 refine boxA_of (Fo.row_len f) fun S1 k1 n1 o1=>?_
 refine boxA_of rfl fun S2 k2 n2 o2=>?_
 have kk:=k1.trans k2
 rw[ldN_p (n:=5) o2 rfl]
 exact callF_ans cl (PlR.same kk ((kk.2 _ hid).trans h) hn)
theorem pl90(k:Int)(nm:ByteArray){l:Int}(hl:i64R l)(fs:List Fo):ACalls Pg 90 [.p id 0 0,(Fo.mk k nm l fs).av,(Tn.mk tk s a ss ks).av] S (PlR c id S n (0,leafB 1 tk a ss ks && isB c s l)):=by
 refine calls90 ?_
 unfold m90
 have cl:=ans136 tk s a ss ks 1
 rw[Tn.av,Tn.row_mk]at cl ⊢
 rw[Fo.av,Fo.row_mk]
 refine boxA_of rfl fun S1 k1 n1 o1=>?_
 refine boxA_of rfl fun S2 k2 n2 o2=>?_
 have kk:=k1.trans k2
 have p1:=(k2.2 _ (by omega)).trans o1
 have q:=(kk.2 _ hid).trans h
 rw[ldN_p (n:=5) o2 rfl]
 refine callF_ans cl ?_
 rw[onB_v]
 refine gd_of (fun e=>?_) (fun e=>?_)
 ·rw[e,Bool.true_and,shift_p,ld1_p o2 rfl rfl,shift_p,ld1_p p1 rfl rfl]
  exact callF_at (at137 hc.ok q s hl) (PlR.same kk q hn)
 ·rw[e,Bool.false_and]
  exact PlR.same kk q hn
theorem pl91(k l2:Int)(nm n2:ByteArray){l:Int}(hl:i64R l)(fs:List Fo):ACalls Pg 91 [.p id 0 0,(Fo.mk k nm l2 [.mk 3 n2 l fs]).av,(Tn.mk tk s a ss ks).av] S (PlR c id S n (0,leafB 1 tk a ss ks && !isB c s l)):=by
 refine calls91 ?_
 unfold m91
 have cl:=ans136 tk s a ss ks 1
 rw[Tn.av,Tn.row_mk]at cl ⊢
 rw[Fo.av,Fo.row_mk]
 have r2:(Fo.mk 3 n2 l fs).row[2]? = some (aI l):=by rw[Fo.row_mk];rfl
 refine boxA_of rfl fun S1 k1 n1 o1=>?_
 refine boxA_of rfl fun S2 k2 n2 o2=>?_
 have kk:=k1.trans k2
 have p1:=(k2.2 _ (by omega)).trans o1
 have q:=(kk.2 _ hid).trans h
 show ∃ q:AV,_
 cases e:leafB 1 tk a ss ks with
 |false =>
  rw[e]at cl
  (repeat (first|with_reducible_and_instances (first|refine WJ ?_|refine W (J_ldN (n:=5) o2 (by with_unfolding_all rfl)) ?_|refine W (gd_T e) ?_|refine W (gd_F e) ?_|refine W (gd_nT e) ?_|refine W (gd_nF e) ?_|refine W (J_ldq (by with_unfolding_all rfl)) ?_)|refine J_cA (cl) rfl rfl ?_|refine C_A (cl) rfl rfl ?_))
  rw[Bool.false_and]
  exact PlR.same kk q hn
 |true =>
  rw[e]at cl
  (repeat (first|with_reducible_and_instances (first|refine WJ ?_|refine W (J_ldN (n:=5) o2 (by with_unfolding_all rfl)) ?_|refine W (J_ldp o2 (by with_unfolding_all rfl) (by with_unfolding_all rfl)) ?_|refine W (J_ldp p1 (by with_unfolding_all rfl) (by with_unfolding_all rfl)) ?_|refine W (J_F0) ?_|refine W (J_ldq r2) ?_|refine W (gd_T e) ?_|refine W (gd_F e) ?_|refine W (gd_nT e) ?_|refine W (gd_nF e) ?_|refine W (J_ldq (by with_unfolding_all rfl)) ?_)|refine J_cA (cl) rfl rfl ?_|refine C_A (cl) rfl rfl ?_|refine J_cI (at137 hc.ok q s hl) rfl rfl ?_|refine C_I (at137 hc.ok q s hl) rfl rfl ?_))
  rw[Bool.true_and]
  exact PlR.same kk q hn
theorem pl92{f g:Fo}(hf:Pu f)(hg:Pu g)(k l:Int)(nm:ByteArray):ACalls Pg 92 [.p id 0 0,(Fo.mk k nm l [f,g]).av,(Tn.mk tk s a ss ks).av] S (PlR c id S n (if tk=2∧a=0∧ss = []then Tn.accs c ks [f,g] [s,s] 0 else(0,false))):=by
 refine calls92 ?_
 unfold m92
 have cb:=ans138 tk s a ss ks 2
 rw[Tn.av,Tn.row_mk]at cb ⊢
 rw[Fo.av,Fo.row_mk]
 refine boxA_of rfl fun S1 k1 n1 o1=>?_
 refine boxA_of rfl fun S2 k2 n2 o2=>?_
 have kk:=k1.trans k2
 have p1:=(k2.2 _ (by omega)).trans o1
 have q:=(kk.2 _ hid).trans h
 show ∃ q:AV,_
 by_cases e1:¬ (tk=2∧a=0∧ss.length=0)
 ·rw[show(decide (tk=2) && decide (a=0∧ss.length=0))=false by rw[←Bool.decide_and];exact decide_eq_false e1]at cb
  (repeat (first|with_reducible_and_instances (first|refine WJ ?_|refine W (LJ_ldN (n:=5) o2 (by omega) (by with_unfolding_all rfl)) ?_|refine W (J_ldq (by with_unfolding_all rfl)) ?_)|refine J_cA (cb) rfl rfl ?_|refine C_A (cb) rfl rfl ?_|refine L_cA (cb) rfl rfl ?_))
  rw[if_neg (fun hq=>e1 ⟨hq.1,hq.2.1,by rw[hq.2.2];rfl⟩)]
  exact PlR.same kk q hn
 have e1:=Decidable.not_not.1 e1
 rw[show(decide (tk=2) && decide (a=0∧ss.length=0))=true by rw[←Bool.decide_and];exact decide_eq_true e1]at cb
 rw[if_pos ⟨e1.1,e1.2.1,List.eq_nil_of_length_eq_zero e1.2.2⟩]
 (repeat (first|with_reducible_and_instances (first|refine WJ ?_|refine W (LJ_ldN (n:=5) o2 (by omega) (by with_unfolding_all rfl)) ?_|refine W (LJ_ldp o2 (by omega) (by with_unfolding_all rfl) (by with_unfolding_all rfl)) ?_|refine W (LJ_lenT) ?_|refine W (J_ldq (by with_unfolding_all rfl)) ?_)|refine J_cA (cb) rfl rfl ?_|refine C_A (cb) rfl rfl ?_|refine L_cA (cb) rfl rfl ?_))
 by_cases e2:¬ ks.length=2
 ·rw[show decide ((ks.length:Int)=2)=false from decide_eq_false (by omega)]
  (repeat (first|with_reducible_and_instances (first|refine WJ ?_|refine W (J_ldq (by with_unfolding_all rfl)) ?_)))
  rw[accs_len c ks _ _ _ (fun hq=>e2 (by have:=hq.1;simpa using this.symm))]
  exact PlR.same kk q hn
 have e2:=Decidable.not_not.1 e2
 rw[show decide ((ks.length:Int)=2)=true from decide_eq_true (by omega)]
 obtain⟨t0,t1,rfl⟩:∃ t0 t1,ks = [t0,t1]:=by
  match ks,e2 with
  |[t0,t1],_=>exact⟨t0,t1,rfl⟩
 rw[accs_seq,seq_none]
 (repeat (first|with_reducible_and_instances (first|refine WJ ?_|refine W (LJ_ldp o2 (by omega) (by with_unfolding_all rfl) (by with_unfolding_all rfl)) ?_|refine W (LJ_ldp p1 (by omega) (by with_unfolding_all rfl) (by with_unfolding_all rfl)) ?_|refine W (LJ_F0) ?_|refine W (LJ_T0) ?_|refine W (LJ_ldNq (Fo.row_len _)) ?_|refine W (LJ_ldNq (Tn.row_len _)) ?_|refine W (J_ldq (by with_unfolding_all rfl)) ?_)))
 refine callF_pl (pl139 (hk t0 (by simp)) hf q (by omega) hn s) fun m S3 hm h1 hn3 q3 f3=>?_
 have o3:=(f3 _ (by omega) (by omega)).trans o2
 have p3:=(f3 _ (by omega) (by omega)).trans p1
 have kk3:∀ x,x<S.n→x≠id→S3.obj x=S.obj x:=fun x hx hne=>(f3 x (by have:=kk.1;omega) hne).trans (kk.2 x hx)
 cases e3:(rat c t0 f s).2 with
 |false =>
  (repeat (first|with_reducible_and_instances (first|refine WJ ?_|refine W (J_ldq (by with_unfolding_all rfl)) ?_)))
  exact PlR.seqF e3 hm (by omega) q3 kk3
 |true =>
  (repeat (first|with_reducible_and_instances (first|refine WJ ?_|refine W (LJ_ldp o3 (by omega) (by with_unfolding_all rfl) (by with_unfolding_all rfl)) ?_|refine W (LJ_ldp p3 (by omega) (by with_unfolding_all rfl) (by with_unfolding_all rfl)) ?_|refine W (LJ_F1) ?_|refine W (LJ_T1) ?_|refine W (LJ_ldNq (Fo.row_len _)) ?_|refine W (LJ_ldNq (Tn.row_len _)) ?_|refine W (J_ldq (by with_unfolding_all rfl)) ?_)))
  refine callF_pr (pl139 (hk t1 (by simp)) hg q3 (by omega) hm s) fun S4 hp=>?_
  (repeat (first|with_reducible_and_instances (first|refine WJ ?_|refine W (J_ldq (by with_unfolding_all rfl)) ?_)))
  exact PlR.seq e3 (h1 e3) (by omega) kk3 hp.one
theorem pl140{f g:Fo}(hf:Pu f)(hg:Pu g):ACalls Pg 140 [.p id 0 0,(Tn.mk tk s a ss ks).av,foL [f,g]] S (PlR c id S n (if tk=3∧0≤a∧a≤1∧ss = []then Tn.accs c ks [[f,g].getD a.toNat fo0] [s] 0 else(0,false))):=by
 refine calls140 ?_
 unfold m140
 rw[Tn.av,Tn.row_mk]
 refine boxA_of rfl fun S1 k1 n1 o1=>?_
 have q:=(k1.2 _ hid).trans h
 rw[shift_p,ld1_p o1 rfl rfl,bin_neq,onB_v]
 by_cases e1:¬ tk=3
 ·rw[decide_eq_false e1,if_neg (fun hq=>e1 hq.1)]
  exact PlR.same k1 q hn
 have e1:=Decidable.not_not.1 e1
 rw[decide_eq_true e1,gd_nT (b:=true) rfl,shift_p,ld1_p o1 rfl rfl,bin_lss,onB_v]
 by_cases e2:a<0
 ·rw[decide_eq_true e2,if_neg (fun hq=>by omega)]
  exact PlR.same k1 q hn
 rw[decide_eq_false e2,gd_false,shift_p,ld1_p o1 rfl rfl,bin_gtr,onB_v]
 by_cases e3:1<a
 ·rw[decide_eq_true e3,if_neg (fun hq=>by omega)]
  exact PlR.same k1 q hn
 rw[decide_eq_false e3,gd_false,shift_p,ld1_p o1 rfl rfl,lenS_aL,bin_gtr,onB_v]
 by_cases e4:¬ ss = []
 ·rw[slen0 e4,if_neg (fun hq=>e4 hq.2.2.2)]
  exact PlR.same k1 q hn
 have e4:=Decidable.not_not.1 e4
 rw[show decide ((0:Int)<(ss.length:Int))=false from decide_eq_false (by simp[e4]),gd_false,if_pos ⟨e1,by omega,by omega,e4⟩,shift_p,ld1_p o1 rfl rfl,lenS_tnL,bin_neq,onB_v]
 by_cases e5:¬ ks.length=1
 ·rw[show decide ((ks.length:Int)=1)=false from decide_eq_false (by omega),accs_len c ks _ _ _ (fun hq=>e5 (by have:=hq.1;simpa using this.symm))]
  exact PlR.same k1 q hn
 have e5:=Decidable.not_not.1 e5
 rw[show decide ((ks.length:Int)=1)=true from decide_eq_true (by omega),gd_nT (b:=true) rfl]
 obtain⟨t0,rfl⟩:=List.length_eq_one_iff.1 e5
 obtain⟨j,rfl⟩:=Int.eq_ofNat_of_zero_le (show 0≤a by omega)
 have hj:j < [f,g].length:=by simp;omega
 rw[Int.toNat_natCast,List.getD_eq_getElem?_getD,List.getElem?_eq_getElem hj,Option.getD_some,seq_none]
 have hx:Pu [f,g][j]:=by
  match j,hj with
  |0,_=>exact hf
  |1,_=>exact hg
 show ∃ q:AV,_
 (repeat (first|with_reducible_and_instances (first|refine WJ ?_|refine W (LJ_ldp o1 (by omega) (by with_unfolding_all rfl) (by with_unfolding_all rfl)) ?_|refine W (LJ_Fi hj) ?_|refine W (LJ_T0) ?_|refine W (LJ_ldNq (Fo.row_len _)) ?_|refine W (LJ_ldNq (Tn.row_len _)) ?_|refine W (J_ldq (by with_unfolding_all rfl)) ?_)))
 exact callF_pr (pl139 (hk t0 (by simp)) hx q (by omega) hn s) fun S4 hp=>(hp.up k1).one
theorem pl93{f g:Fo}(hf:Pu f)(hg:Pu g)(k l:Int)(nm:ByteArray):ACalls Pg 93 [.p id 0 0,(Fo.mk k nm l [f,g]).av,(Tn.mk tk s a ss ks).av] S (PlR c id S n (if tk=3∧0≤a∧a≤1∧ss = []then Tn.accs c ks [[f,g].getD a.toNat fo0] [s] 0 else(0,false))):=by
 refine calls93 ?_
 unfold m93
 rw[Fo.av,Fo.row_mk]
 refine boxA_of rfl fun S1 k1 n1 o1=>?_
 refine boxA_of (Tn.row_len _) fun S2 k2 n2 o2=>?_
 have kk:=k1.trans k2
 have p1:=(k2.2 _ (by omega)).trans o1
 have q:=(kk.2 _ hid).trans h
 rw[ldN_p (n:=5) o2 (Tn.row_len _),shift_p,ld1_p p1 rfl rfl]
 exact callF_pr (pl140 hc hk hkl hs tk s a q (by omega) hn hf hg) fun S4 hp=>hp.up kk
end
set_option linter.unusedSectionVars false
def wayB (c:Ci) (s:Int) (ss:List Int):Bool:=chainS c ss && decide (ss≠[]∧ss.getD 0 0=s)
theorem at143{c:Ci}(hc:Cs c){id:Nat}{S:Store}{n:Int}(h:S.obj id=some (plO c n))(hid:id<S.n)(tk s a:Int){ss:List Int}(hs:ss.length≤1000000)(ks:List Tn):AnsAt Pg 143 [.p id 0 0,(Tn.mk tk s a ss ks).av] S (aB (wayB c s ss)):=by
 refine ACalls.ans_v (calls143 ?_)
 unfold m143
 rw[Tn.av,Tn.row_mk]
 refine boxA_of rfl fun S1 k1 n1 o1=>?_
 have q:=(k1.2 _ hid).trans h
 rw[shift_p,ld1_p o1 rfl rfl,lenS_aL]
 refine loop143_0 (fun y S'=>S'=S1∧∃ i:Nat,y=aI i∧i≤ss.length∧∀ m (h:m+1<ss.length),m+1<i→behindS c (ss[m]'(by omega)) ss[m+1]=true) (fun y _=>ss.length - ((intA y).getD 0).toNat) ⟨rfl,0,rfl,Nat.zero_le _,fun m _ h=>by omega⟩ ?_
 rintro _ S1 ⟨rfl,i,rfl,hi,hch⟩ KE hKE
 unfold b143_0
 rw[bin_lss,onB_v]
 refine gd_of (fun hlt=>?_) (fun hge=>?_)
 ·have hlt:i<ss.length:=by have:=dT hlt;omega
  have hadd:∀(T:Store) (K:AV→Store→Prop),bin .add 0 (aI i) (.v (.int .i64 1)) T K=K (aI (i+1:Nat)) T:=fun T K=>bin_add (by omega) (by omega) 0
  rw[ixS_aL hlt,ld1_q,bin_gtr,onB_v]
  refine gd_of (fun h0=>?_) (fun h0=>?_)
  ·have h0:=dT h0
   obtain⟨m,rfl⟩:∃ m,i=m+1:=⟨i - 1,by omega⟩
   have hm:m<ss.length:=by omega
   rw[shift_p,ld1_p o1 rfl rfl,show ∀ K:AV→Store→Prop,bin .sub 0 (aI (m+1:Nat)) (.v (.int .i64 1)) S1 K=K (aI m) S1 from fun K=>(bin_sub (by omega) (by omega) 0).trans (by rw[show(((m+1:Nat):Nat):Int) - 1=m by omega]),ixS_aL hm,ld1_q]
   refine callF_at (at141 hc q (by omega) ss[m] ss[m+1]) ?_
   rw[un_not,onB_v]
   refine gd_of (fun hb=>⟨?_,k1⟩) (fun hb=>?_)
   ·rw[wayB,chain_no hlt (by simpa using hb),Bool.false_and]
   ·rw[hadd]
    refine hKE _ _ ⟨rfl,m+2,rfl,hlt,fun m' hm' hi'=>?_⟩ (by simp[intA];omega)
    by_cases e:m'=m
    ·subst e;simpa using hb
    ·exact hch m' hm' (by omega)
  ·have h0:=dF h0
   rw[hadd]
   exact hKE _ _ ⟨rfl,i+1,rfl,hlt,fun m' hm' hi'=>by omega⟩ (by simp[intA];omega)
 ·have hge:i=ss.length:=by have:=dF hge;omega
  subst hge
  rw[wayB,chain_yes fun m hm=>hch m hm hm,Bool.true_and]
  show ∃ q:AV,_
  (repeat (first|with_reducible_and_instances (first|refine WJ ?_|refine W (J_ldp o1 (by with_unfolding_all rfl) (by with_unfolding_all rfl)) ?_|refine W (J_ldq (by with_unfolding_all rfl)) ?_)))
  cases ss with
  |nil =>
   rw[show decide ((0:Int)<((([]:List Int).length:Nat):Int))=false from decide_eq_false (by simp)]
   (repeat (first|with_reducible_and_instances (first|refine WJ ?_|refine W (J_ldq (by with_unfolding_all rfl)) ?_)))
   exact⟨rfl,k1⟩
  |cons x sr =>
   rw[show decide ((0:Int)<(((x :: sr).length:Nat):Int))=true from decide_eq_true (by rw[List.length_cons];omega)]
   (repeat (first|with_reducible_and_instances (first|refine WJ ?_|refine W (J_ldp o1 (by with_unfolding_all rfl) (by with_unfolding_all rfl)) ?_|refine W (J_ix0) ?_|refine W (J_ldq (by with_unfolding_all rfl)) ?_)))
   refine⟨?_,k1⟩
   rw[show decide ((x :: sr)≠[]∧(x :: sr).getD 0 0=s)=decide (x=s)from decide_eq_decide.2 ⟨fun h=>h.2,fun h=>⟨by simp,h⟩⟩]
theorem rat2(c:Ci)(t:Tn)(f:Fo)(s:Int):(rat c t f s).2=((t.acc c f).2 && decide (t.st=s))∧((rat c t f s).2=true→(rat c t f s).1=(t.acc c f).1):=by
 unfold rat
 by_cases h:t.st=s
 ·rw[if_pos h,decide_eq_true h,Bool.and_true];exact⟨rfl,fun _=>rfl⟩
 ·rw[if_neg h,decide_eq_false h,Bool.and_false];exact⟨rfl,fun h=>by cases h⟩
theorem pl145{c:Ci}{id:Nat}{ts:List Tn}(hk:∀ t∈ts,HK c id t){ss:List Int}(hs:ss.length≤1000000)(hl:ss.length≤ts.length){f:Fo}(hf:Pu f){S:Store}{n:Int}(h:S.obj id=some (plO c n))(hid:id<S.n)(hn:i64R n):
    ACalls Pg 145 [.p id 0 0,aL aI ss,f.av,tnL ts] S (PlR c id S n (Tn.accs c (ts.take ss.length) (List.replicate ss.length f) ss 0)):=by
 refine calls145 ?_
 unfold m145
 refine boxA_of (Fo.row_len f) fun S1 k1 n1 o1=>?_
 have q:=(k1.2 _ hid).trans h
 rw[lenS_aL]
 refine loop145_0 (fun y S'=>∃(i:Nat) (m cur:Int),y=aI i∧i≤ss.length∧S1.n≤S'.n∧S'.obj id=some (plO c cur)∧i64R cur∧cur=IntKind.i64.wrap (n+m)∧(∀ x,x<S1.n→x≠id→S'.obj x=S1.obj x)∧
     Tn.accs c (ts.take ss.length) (List.replicate ss.length f) ss 0=Tn.accs c ((ts.take ss.length).drop i) (List.replicate (ss.length - i) f) (ss.drop i) m)
  (fun y _=>ss.length - ((intA y).getD 0).toNat) ⟨0,0,n,rfl,Nat.zero_le _,Nat.le_refl _,q,hn,by rw[Int.add_zero,wrap_rng hn],fun x _ _=>rfl,rfl⟩ ?_
 rintro _ S2 ⟨i,m,cur,rfl,hi,n2,q2,hcur,hm,f2,he⟩ KE hKE
 unfold b145_0
 have o2:=(f2 _ (by omega) (by omega)).trans o1
 have kk:∀ x,x<S.n→x≠id→S2.obj x=S.obj x:=fun x hx hne=>(f2 x (by omega) hne).trans (k1.2 x hx)
 rw[bin_lss,onB_v]
 refine gd_of (fun hlt=>?_) (fun hge=>?_)
 ·have hlt:i<ss.length:=by have:=dT hlt;omega
  have hit:i<ts.length:=by omega
  have hit2:i<(ts.take ss.length).length:=by simp;omega
  have hadd:∀(T:Store) (K:AV→Store→Prop),bin .add 0 (aI i) (.v (.int .i64 1)) T K=K (aI (i+1:Nat)) T:=fun T K=>bin_add (by omega) (by omega) 0
  have hti:(ts.take ss.length)[i]=ts[i]:=by simp
  rw[List.drop_eq_getElem_cons hit2,List.drop_eq_getElem_cons hlt,show ss.length - i=(ss.length - (i+1))+1 by omega,List.replicate_succ,accs_cons,hti]at he
  rw[ixS_aL hlt,ld1_q]
  obtain⟨r1,r2⟩:=rat2 c ts[i] f ss[i]
  rw[←r1]at he
  show ∃ q:AV,_
  (repeat (first|with_reducible_and_instances (first|refine WJ ?_|refine W (LJ_ldN (n:=4) o2 (by omega) (Fo.row_len _)) ?_|refine W (LJ_Ti hit) ?_|refine W (LJ_ldNq (Tn.row_len _)) ?_|refine W (J_ldq (by with_unfolding_all rfl)) ?_)))
  refine callF_pl (pl139 (hk _ (List.getElem_mem hit)) hf q2 (by omega) hcur ss[i]) fun m3 S3 hm3 h1 hn3 q3 f3=>?_
  have kk3:∀ x,x<S1.n→x≠id→S3.obj x=S1.obj x:=fun x hx hne=>(f3 x (by omega) hne).trans (f2 x hx hne)
  cases e3:(rat c ts[i] f ss[i]).2 with
  |false =>
   rw[e3,if_neg (by decide)]at he
   (repeat (first|with_reducible_and_instances (first|refine WJ ?_|refine W (J_ldq (by with_unfolding_all rfl)) ?_)))
   rw[he]
   exact⟨m3,rfl,hm3,(fun h=>by cases h),by have:=k1.1;omega,q3,fun x hx hne=>(kk3 x (by omega) hne).trans (k1.2 x hx)⟩
  |true =>
   rw[e3,if_pos rfl,←r2 e3]at he
   (repeat (first|with_reducible_and_instances (first|refine WJ ?_|refine W (J_ldq (by with_unfolding_all rfl)) ?_)))
   rw[hadd]
   refine hKE _ _ ⟨i+1,_,m3,rfl,hlt,by omega,q3,hm3,?_,kk3,he⟩ (by simp[intA];omega)
   rw[h1 e3,hm,wrap_wrap,wrap_wrap',Int.add_assoc]
 ·have hge:i=ss.length:=by have:=dF hge;omega
  subst hge
  rw[List.drop_of_length_le (by simp;omega),List.drop_length,Nat.sub_self,List.replicate_zero,accs_nil]at he
  rw[he]
  exact⟨cur,rfl,hcur,fun _=>hm,by have:=k1.1;omega,q2,kk⟩
set_option linter.unusedSectionVars false
theorem slc_take{l:List Int}{e n:Nat}(h:n≤l.length){S:Store}{K:AV→Store→Prop}:slc e 1 (aL aI l) none (some (aI n)) none S K=K (aL aI (l.take n)) S:=by
 simp only[slc,aL,bnd,intA,optP_some,List.length_map,Int.sub_zero,Int.toNat_natCast,Int.toNat_zero,List.drop_zero,←List.map_take]
 apply propext
 constructor
 ·rintro⟨_,_,hK⟩
  exact hK
 ·intro hK
  exact⟨⟨by omega,by omega,by omega⟩,fun c hc=>by obtain⟨x,_,rfl⟩:=List.mem_map.1 hc;rfl,hK⟩
theorem slc_drop{l:List Int}{e n:Nat}(h:n≤l.length){S:Store}{K:AV→Store→Prop}:slc e 1 (aL aI l) (some (aI n)) none none S K=K (aL aI (l.drop n)) S:=by
 have ht:(((l.length:Nat):Int) - (n:Int)).toNat=l.length - n:=by omega
 simp only[slc,aL,bnd,intA,optP_some,List.length_map,Int.toNat_natCast,ht]
 have h2:((l.map fun x=>[aI x]).drop n).take (l.length - n)=(l.drop n).map fun x=>[aI x]:=by
  rw[←List.map_drop,List.take_of_length_le (by simp)]
 rw[h2]
 apply propext
 constructor
 ·rintro⟨_,_,hK⟩
  exact hK
 ·intro hK
  exact⟨⟨by omega,by omega,by omega⟩,fun c hc=>by obtain⟨x,_,rfl⟩:=List.mem_map.1 hc;rfl,hK⟩
theorem way_true{c:Ci}{s:Int}{ss:List Int}(h:wayB c s ss=true):chainS c ss=true∧ss≠[]∧ss.getD 0 0=s:=by
 unfold wayB at h
 rw[Bool.and_eq_true,decide_eq_true_eq]at h
 exact h
theorem way_false{c:Ci}{s:Int}{ss:List Int}(h:wayB c s ss=false):¬ (ss≠[]∧ss.getD 0 0=s∧chainS c ss=true):=fun hq=>by
 unfold wayB at h
 rw[hq.2.2,Bool.true_and]at h
 exact dF h ⟨hq.1,hq.2.1⟩
section
variable {c:Ci} (hc:Cs c) {id:Nat} {ks:List Tn} (hk:∀ t∈ks,HK c id t) (hkl:ks.length≤1000000) {ss:List Int} (hs:ss.length≤1000000) (tk s a:Int) {S:Store} {n:Int} (h:S.obj id=some (plO c n)) (hid:id<S.n) (hn:i64R n)
include hc hk hkl hs h hid hn
theorem pl97{f g:Fo}(hf:Pu f)(hg:Pu g)(k l:Int)(nm:ByteArray):ACalls Pg 97 [.p id 0 0,(Fo.mk k nm l [f,g]).av,(Tn.mk tk s a ss ks).av] S (PlR c id S n (pathR c f g tk s a ss ks)):=by
 refine calls97 ?_
 unfold m97 pathR
 rw[Fo.av,Fo.row_mk,Tn.av,Tn.row_mk]
 refine boxA_of rfl fun S1 k1 n1 o1=>?_
 refine boxA_of rfl fun S2 k2 n2 o2=>?_
 have kk:=k1.trans k2
 have p1:=(k2.2 _ (by omega)).trans o1
 have q:=(kk.2 _ hid).trans h
 have cw:=at143 hc q (by omega) tk s a hs ks
 rw[Tn.av,Tn.row_mk]at cw
 rw[shift_p,ld1_p o2 rfl rfl,lenS_aL,bin_sub (by omega) (by omega),shift_p,ld1_p o2 rfl rfl,bin_neq,onB_v]
 by_cases e1:¬ tk=5
 ·rw[decide_eq_false e1,if_neg (fun hq=>e1 hq.2.2.2.1)]
  exact PlR.same kk q hn
 have e1:=Decidable.not_not.1 e1
 rw[decide_eq_true e1,gd_nT (b:=true) rfl,shift_p,ld1_p o2 rfl rfl,bin_neq,onB_v]
 by_cases e2:¬ a=0
 ·rw[decide_eq_false e2,if_neg (fun hq=>e2 hq.2.2.1)]
  exact PlR.same kk q hn
 have e2:=Decidable.not_not.1 e2
 rw[decide_eq_true e2,gd_nT (b:=true) rfl,ldN_p (n:=5) o2 rfl]
 refine callF_at cw ?_
 rw[un_not,onB_v]
 cases e3:wayB c s ss with
 |false =>
  rw[if_neg (fun hq=>way_false e3 ⟨hq.1,hq.2.1,hq.2.2.2.2⟩)]
  exact PlR.same kk q hn
 |true =>
 obtain⟨w1,w2,w3⟩:=way_true e3
 rw[if_pos ⟨w2,w3,e2,e1,w1⟩,gd_nT (b:=true) rfl]
 have hpos:0<ss.length:=List.length_pos_iff.2 w2
 obtain⟨i,hi⟩:∃ i:Nat,ss.length=i+1:=⟨ss.length - 1,by omega⟩
 have hi1:i<ss.length:=by omega
 rw[show((ss.length:Nat):Int) - 1=i by omega,shift_p,ld1_p o2 rfl rfl,lenS_tnL,bin_add (by omega) (by omega),bin_neq,onB_v]
 have hlast:ss.getD (ss.length - 1) 0=ss[i]:=by simp[List.getD_eq_getElem?_getD,hi]
 rw[hlast,show ss.length - 1=i by omega]
 by_cases e4:¬ ks.length=i+2
 ·rw[show decide ((ks.length:Int)=(i:Int)+2)=false from decide_eq_false (by omega),accs_len c ks _ _ _ (fun hq=>e4 (by have:=hq.1;simp at this;omega))]
  exact PlR.same kk q hn
 have e4:=Decidable.not_not.1 e4
 have hA:i<ks.length:=by omega
 have hB:i+1<ks.length:=by omega
 rw[show decide ((ks.length:Int)=(i:Int)+2)=true from decide_eq_true (by omega),gd_nT (b:=true) rfl,shift_p,ld1_p o2 rfl rfl,ixS_aL hi1,ld1_q]
 have eks:ks=ks.take i ++ [ks[i],ks[i+1]]:=by
  conv=>lhs;rw[←List.take_append_drop i ks]
  rw[List.drop_eq_getElem_cons hA,List.drop_eq_getElem_cons hB,List.drop_of_length_le (by omega)]
 have ess:ss ++ [ss[i]]=ss.take i ++ [ss[i],ss[i]]:=by
  have es0:=List.take_append_drop i ss
  rw[List.drop_eq_getElem_cons hi1,List.drop_of_length_le (by omega)]at es0
  exact(congrArg (fun l=>l ++ [ss[i]]) es0.symm).trans (by show(_++_)++_=_;rw[List.append_assoc];rfl)
 have etot:Tn.accs c ks (List.replicate i f ++ [g,foG]) (ss ++ [ss[i]]) 0=seqR (Tn.accs c (ks.take i) (List.replicate i f) (ss.take i) 0) (seqR (rat c ks[i] g ss[i]) (seqR (rat c ks[i+1] foG ss[i]) (0,true))):=by
  conv=>lhs;rw[eks]
  rw[ess,accs_app c _ _ _ _ _ _ (by simp;omega) (by simp;omega),accs_seq,seq_none]
 rw[etot]
 have lslc:∀{P:AV→Prop},(∃ q,(∀ T,Keep S2 T→slc 3 1 (aL aI ss) none (some (aI i)) none T fun v S=>v=q∧S=T)∧P q)=P (aL aI (ss.take i)):=LJ_of (op:=fun T K=>slc 3 1 (aL aI ss) none (some (aI i)) none T K) fun T hT K=>slc_take (by omega)
 have hti:(ss.take i).length=i:=by simp;omega
 show ∃ q:AV,_
 (repeat (first|with_reducible_and_instances (first|refine WJ ?_|refine W (LJ_ldp o2 (by omega) (by with_unfolding_all rfl) (by with_unfolding_all rfl)) ?_|refine W (LJ_ldp p1 (by omega) (by with_unfolding_all rfl) (by with_unfolding_all rfl)) ?_|refine W (lslc) ?_|refine W (LJ_F0) ?_|refine W (LJ_ldNq (Fo.row_len _)) ?_|refine W (J_ldq (by with_unfolding_all rfl)) ?_)))
 have hal:=pl145 (ts:=ks) hk (ss:=ss.take i) (by omega) (by omega) hf q (by omega) hn
 rw[hti]at hal
 refine callF_pl hal fun m3 S3 hm3 h1 hn3 q3 f3=>?_
 have o3:=(f3 _ (by omega) (by omega)).trans o2
 have p3:=(f3 _ (by omega) (by omega)).trans p1
 have kk3:∀ x,x<S.n→x≠id→S3.obj x=S.obj x:=fun x hx hne=>(f3 x (by have:=kk.1;omega) hne).trans (kk.2 x hx)
 rw[onB_v]
 cases e5:(Tn.accs c (ks.take i) (List.replicate i f) (ss.take i) 0).2 with
 |false =>
  show ∃ q:AV,_
  (repeat (first|with_reducible_and_instances (first|refine WJ ?_|refine W (J_ldq (by with_unfolding_all rfl)) ?_)))
  exact PlR.seqF e5 hm3 (by omega) q3 kk3
 |true =>
  show ∃ q:AV,_
  (repeat (first|with_reducible_and_instances (first|refine WJ ?_|refine W (LJ_ldp o3 (by omega) (by with_unfolding_all rfl) (by with_unfolding_all rfl)) ?_|refine W (LJ_ldp p3 (by omega) (by with_unfolding_all rfl) (by with_unfolding_all rfl)) ?_|refine W (LJ_F1) ?_|refine W (LJ_ldNq (Fo.row_len _)) ?_|refine W (LJ_Ti hA) ?_|refine W (LJ_ldNq (Tn.row_len _)) ?_|refine W (J_ldq (by with_unfolding_all rfl)) ?_)))
  refine callF_pl (pl139 (hk _ (List.getElem_mem hA)) hg q3 (by omega) hm3 ss[i]) fun m4 S4 hm4 h2 hn4 q4 f4=>?_
  have o4:=(f4 _ (by omega) (by omega)).trans o3
  have p4:=(f4 _ (by omega) (by omega)).trans p3
  cases e6:(rat c ks[i] g ss[i]).2 with
  |false =>
   (repeat (first|with_reducible_and_instances (first|refine WJ ?_|refine W (J_ldq (by with_unfolding_all rfl)) ?_)))
   exact PlR.seq e5 (h1 e5) (by omega) kk3 (PlR.seqF e6 hm4 hn4 q4 f4)
  |true =>
   have ladd:∀{P:AV→Prop},(∃ q,(∀ T,Keep S4 T→bin .add 0 (aI i) (.v (.int .i64 1)) T fun v S=>v=q∧S=T)∧P q)=P (aI (i+1:Nat)):=LJ_of (op:=fun T K=>bin .add 0 (aI i) (.v (.int .i64 1)) T K) fun T hT K=>bin_add (by omega) (by omega) 0
   (repeat (first|with_reducible_and_instances (first|refine WJ ?_|refine W (LJ_ldp o4 (by omega) (by with_unfolding_all rfl) (by with_unfolding_all rfl)) ?_|refine W (ladd) ?_|refine W (LJ_Ti hB) ?_|refine W (LJ_ldNq (Tn.row_len _)) ?_|refine W (J_ldq (by with_unfolding_all rfl)) ?_)|refine J_cA (ans142) rfl rfl ?_|refine C_A (ans142) rfl rfl ?_|refine L_cA (ans142) rfl rfl ?_))
   refine callF_pr (pl139 (hk _ (List.getElem_mem hB)) (f:=foG) (.o _ _ (by decide) (.c _ (by decide))) q4 (by omega) hm4 ss[i]) fun S5 hp=>?_
   (repeat (first|with_reducible_and_instances (first|refine WJ ?_|refine W (J_ldq (by with_unfolding_all rfl)) ?_)))
   exact PlR.seq e5 (h1 e5) (by omega) kk3 (PlR.seq e6 (h2 e6) hn4 f4 hp.one)
end
section
set_option maxRecDepth 100000
def c9:Code:=(Tryz.f9.body).getD .skip
def r9:List ResultVar:=Tryz.f9.results.toList
def m9(x0 x1:AV)(S:Store)(Q:PoT):Prop:=
 callF Pg 23 [x0,x1] S Q fun c S=>extr c 0 S fun d S=>extr c 1 S fun e S=>boxN 42 8 (.a [.v (.int .i64 0),.nl,.nl,.nl,.nl,.nl,.nl,.nl]) S fun f S=>boxN 24 4 (.a [.v (.int .i64 0),.v (.string ByteArray.empty),.v (.int .i64 0),.nl]) S fun g S=>stN 8 f d S fun h S=>stN 4 g e S fun i S=>callF Pg 31 [] S Q fun k S=>onB k fun b=>gd b (ldN 8 f S fun l S=>ldN 4 g S fun m S=>callF Pg 32 [l,m] S Q fun n S=>Q (.ret n) S) (Q (.ret (.v (.bool false))) S)
end
theorem cv_3{S:Store}{n:Nat}{x x' y y' z z':AV}(h:Cv S n x x')(k:Cv S n y y')(q:Cv S n z z'):∀(i:Nat) (u u2:AV),[x,y,z][i]? = some u→[x',y',z'][i]? = some u2→Cv S n u u2
 |0,_,_,h1,h2=>by cases h1;cases h2;exact h
 |1,_,_,h1,h2=>by cases h1;cases h2;exact k
 |2,_,_,h1,h2=>by cases h1;cases h2;exact q
 |i+3,_,_,h1,_=>by simp at h1
theorem news2{a b:AObj}{S:Store}{K:List Nat→Store→Prop}(h:∀ i j S',Keep S S'→S.n≤i→i<S'.n→S.n≤j→j<S'.n→i≠j→S'.obj i=some a→S'.obj j=some b→K [i,j] S'):newsV [a,b] S K:=by
 intro ids S' hn
 match ids,hn.len with
 |[i,j],_ =>
  have hd:=hn.nodup
  simp only[List.nodup_cons,List.mem_singleton]at hd
  exact h i j S' hn.keep (hn.lo i (by simp)) (hn.hi i (by simp)) (hn.lo j (by simp)) (hn.hi j (by simp)) hd.1 (hn.new 0 i a rfl rfl) (hn.new 1 j b rfl rfl)
set_option linter.unusedSectionVars false
theorem LJ_bld{pl:List (Nat × Nat)}{zc:List AV}{parts:List (Nat × AV)}{cs:List AV}(h:fillA (fun i=>pl[i]?) zc parts=some cs){S0:Store}{P:AV→Prop}:(∃ q,(∀ T,Keep S0 T→bld pl zc parts T fun v S=>v=q∧S=T)∧P q)=P (.a cs):=LJ_of (op:=fun T K=>bld pl zc parts T K) fun T hT K=>bld_of h
theorem L_bslA4{e:Nat}{z1 z2 z3 z4:AV}{r:List AV}(hr:r.length=4){S0:Store}{P:AV→Prop}(k:P (.l [r])):∃ q,(∀ T,Keep S0 T→bslN e 4 1 [z1,z2,z3,z4] [(0,.a r)] T fun v S=>v=q∧S=T)∧P q:=⟨_,fun T hT=>bslA4 hr ⟨rfl,rfl⟩,k⟩
theorem L_bslA42{e:Nat}{z1 z2 z3 z4:AV}{r r2:List AV}(hr:r.length=4)(hr2:r2.length=4){S0:Store}{P:AV→Prop}(k:P (.l [r,r2])):∃ q,(∀ T,Keep S0 T→bslN e 4 2 [z1,z2,z3,z4] [(0,.a r),(1,.a r2)] T fun v S=>v=q∧S=T)∧P q:=⟨_,fun T hT=>bslA42 hr hr2 ⟨rfl,rfl⟩,k⟩
theorem fo2_cv2{f:FuncId}{k:Int}{r:AV}{g:Fo}(h:Ans Pg f [aI k,foL [fo2,g]] r)(S:Store):AnsAt Pg f [aI k,.l [[aI 2,.v (.string ByteArray.empty),aI 0,.nl],g.row]] S r:=by
 refine ansAt_cv (args2:=[aI k,foL [fo2,g]]) rfl (fun j u u2 e1 e2=>?_) (h S)
 match j with
 |0=>cases e1;cases e2;exact .v _
 |1 =>
  cases e1;cases e2
  refine .l _ _ rfl (fun i c c2 h1 h2=>?_) (fun i c c2 k u u2 h1 h2 h3 h4=>?_)
  ·match i with
   |0=>cases h1;cases h2;rw[Fo.row_len];rfl
   |1=>cases h1;cases h2;rfl
   |i+2=>simp at h1
  ·match i with
   |0=>cases h1;cases h2;exact fo2_row k u u2 h3 h4
   |1=>cases h1;cases h2;rw[h3]at h4;cases h4;exact Fo.tree g u (List.mem_of_getElem? h3) _ _
   |i+2=>simp at h1
 |j+2=>simp at e1
section
variable {c:Ci} (hc:Cs c) {id:Nat} {ks:List Tn} (hk:∀ t∈ks,HK c id t) (hkl:ks.length≤1000000) {ss:List Int} (hs:ss.length≤1000000) (tk s a:Int) {S:Store} {n:Int} (h:S.obj id=some (plO c n)) (hid:id<S.n) (hn:i64R n)
include hc hk hkl hs h hid hn
theorem pl95{f:Fo}(hf:Pu f)(k l:Int)(nm:ByteArray):ACalls Pg 95 [.p id 0 0,(Fo.mk k nm l [f]).av,(Tn.mk tk s a ss ks).av] S (PlR c id S n (pathR c fo2 f tk s a ss ks)):=by
 refine calls95 ?_
 unfold m95
 have hto:=fo2_cv2 (g:=f) (ans74 15 [fo2,f])
 have hu:=fun{S2:Store} (q:S2.obj id=some (plO c n)) (hi:id<S2.n)=>pl97 hc hk hkl hs tk s a q hi hn (f:=fo2) (.c _ (by decide)) hf 15 0 ⟨#[]⟩
 rw[Fo.av,Fo.row_mk]
 refine boxA_of rfl fun S1 k1 n1 o1=>?_
 refine boxA_of (Tn.row_len _) fun S2 k2 n2 o2=>?_
 have kk:=k1.trans k2
 have p1:=(k2.2 _ (by omega)).trans o1
 have q:=(kk.2 _ hid).trans h
 show ∃ q:AV,_
 (repeat (first|with_reducible_and_instances (first|refine WJ ?_|refine W (LJ_bld (cs:=[aI 2,.v (.string ByteArray.empty),aI 0,.nl]) (by with_unfolding_all rfl)) ?_|refine W (LJ_ldp p1 (by omega) (by with_unfolding_all rfl) (by with_unfolding_all rfl)) ?_|refine W (LJ_F0) ?_|refine W (LJ_ldNq (Fo.row_len _)) ?_|refine W (LJ_ldN (n:=5) o2 (by omega) (Tn.row_len _)) ?_|refine W (J_ldq (by with_unfolding_all rfl)) ?_)|refine L_cI ((fun T _=>hto T)) rfl rfl ?_|refine L_bslA42 rfl (Fo.row_len _) ?_))
 exact callF_pr (hu q (by omega)) fun S3 hp=>hp.up kk
theorem pl99(f:Fo):ACalls Pg 99 [.p id 0 0,f.av,(Tn.mk tk s a ss ks).av] S (PlR c id S n (1,leafB 7 tk a ss ks)):=by
 refine calls99 ?_
 unfold m99
 have cl:=ans136 tk s a ss ks 7
 rw[Tn.av,Tn.row_mk]at cl ⊢
 refine boxA_of (Fo.row_len f) fun S1 k1 n1 o1=>?_
 refine boxA_of rfl fun S2 k2 n2 o2=>?_
 have kk:=k1.trans k2
 have q:=(kk.2 _ hid).trans h
 rw[nilChk_p,shift_p,ld1_p q rfl rfl,bin_addW,nilChk_p,shift_p]
 refine stF_of q (by rw[plC_len];decide) rfl fun S3 n3 o3 f3=>?_
 rw[ldN_p (n:=5) ((f3 _ (by omega)).trans o2) rfl]
 refine callF_ans cl ?_
 exact⟨IntKind.i64.wrap (n+1),rfl,wrapR _,fun _=>rfl,by have:=kk.1;omega,o3,fun x hx hne=>(f3 x hne).trans (kk.2 x hx)⟩
theorem pl94{f:Fo}(hf:Pu f)(k l:Int)(nm:ByteArray):ACalls Pg 94 [.p id 0 0,(Fo.mk k nm l [f]).av,(Tn.mk tk s a ss ks).av] S
    (PlR c id S n (if tk=4∧a=0∧ss = []∧(ks.map Tn.st).length=2∧behindS c s ((ks.map Tn.st).getD 0 0)=true then Tn.accs c ks [[f].getD 0 fo0,foG] [(ks.map Tn.st).getD 0 0,(ks.map Tn.st).getD 0 0] 0 else(0,false))):=by
 refine calls94 ?_
 unfold m94
 have cb:=ans138 tk s a ss ks 4
 rw[Tn.av,Tn.row_mk]at cb ⊢
 rw[Fo.av,Fo.row_mk]
 refine boxA_of rfl fun S1 k1 n1 o1=>?_
 refine boxA_of rfl fun S2 k2 n2 o2=>?_
 have kk:=k1.trans k2
 have p1:=(k2.2 _ (by omega)).trans o1
 have q:=(kk.2 _ hid).trans h
 rw[ldN_p (n:=5) o2 rfl]
 refine callF_ans cb ?_
 rw[un_not,onB_v]
 by_cases e1:¬ (tk=4∧a=0∧ss.length=0)
 ·rw[show(decide (tk=4) && decide (a=0∧ss.length=0))=false by rw[←Bool.decide_and];exact decide_eq_false e1,if_neg (fun hq=>e1 ⟨hq.1,hq.2.1,by rw[hq.2.2.1];rfl⟩)]
  exact PlR.same kk q hn
 have e1:=Decidable.not_not.1 e1
 rw[show(decide (tk=4) && decide (a=0∧ss.length=0))=true by rw[←Bool.decide_and];exact decide_eq_true e1,gd_nT (b:=true) rfl,shift_p,ld1_p o2 rfl rfl,lenS_tnL,bin_neq,onB_v]
 by_cases e2:¬ ks.length=2
 ·rw[show decide ((ks.length:Int)=2)=false from decide_eq_false (by omega),if_neg (fun hq=>e2 (by have:=hq.2.2.2.1;rwa [List.length_map]at this))]
  exact PlR.same kk q hn
 have e2:=Decidable.not_not.1 e2
 rw[show decide ((ks.length:Int)=2)=true from decide_eq_true (by omega),gd_nT (b:=true) rfl]
 obtain⟨t0,t1,rfl⟩:∃ t0 t1,ks = [t0,t1]:=by
  match ks,e2 with
  |[t0,t1],_=>exact⟨t0,t1,rfl⟩
 have ld1q:∀(T:Store) (K:AV→Store→Prop),ld1 (.q t0.row 1) T K=K (aI t0.st) T:=fun T K=>by simp[ld1,rd1,place,Tn.row1]
 rw[shift_p,ld1_p o2 rfl rfl,ixT0]
 have sq:∀ K:AV→Store→Prop,shift (.q t0.row 0) 1 S2 K=K (.q t0.row 1) S2:=fun K=>rfl
 rw[sq,ld1q]
 have cbh:=at141 hc q (by omega) s t0.st
 show ∃ q:AV,_
 have hbh:∀ T,Keep S2 T→AnsAt Pg 141 [.p id 0 0,aI s,aI t0.st] T (aB (behindS c s t0.st)):=fun T hT=>at141 hc ((hT.2 _ (by omega)).trans q) (by have:=hT.1;omega) s t0.st
 cases e5:behindS c s t0.st with
 |false =>
  rw[e5]at hbh
  (repeat (first|with_reducible_and_instances (first|refine WJ ?_|refine W (LJ_ldp o2 (by omega) (by with_unfolding_all rfl) (by with_unfolding_all rfl)) ?_|refine W (J_ldq (by with_unfolding_all rfl)) ?_)|refine L_cI (hbh) rfl rfl ?_))
  rw[if_neg (fun hq=>by have:=hq.2.2.2.2;rw[show([t0,t1].map Tn.st).getD 0 0=t0.st from rfl,e5]at this;cases this)]
  exact PlR.same kk q hn
 |true =>
  rw[e5]at hbh
  rw[if_pos ⟨e1.1,e1.2.1,List.eq_nil_of_length_eq_zero e1.2.2,rfl,e5⟩]
  rw[show Tn.accs c [t0,t1] [[f].getD 0 fo0,foG] [([t0,t1].map Tn.st).getD 0 0,([t0,t1].map Tn.st).getD 0 0] 0=Tn.accs c [t0,t1] [f,foG] [t0.st,t0.st] 0 from rfl,accs_seq,seq_none]
  (repeat (first|with_reducible_and_instances (first|refine WJ ?_|refine W (LJ_ldp o2 (by omega) (by with_unfolding_all rfl) (by with_unfolding_all rfl)) ?_|refine W (LJ_ldp p1 (by omega) (by with_unfolding_all rfl) (by with_unfolding_all rfl)) ?_|refine W (LJ_F0) ?_|refine W (LJ_T0) ?_|refine W (LJ_ldNq (Fo.row_len _)) ?_|refine W (LJ_ldNq (Tn.row_len _)) ?_|refine W (J_ldq (by with_unfolding_all rfl)) ?_)|refine L_cI (hbh) rfl rfl ?_))
  refine callF_pl (pl139 (hk t0 (by simp)) hf q (by omega) hn t0.st) fun m S3 hm h1 hn3 q3 f3=>?_
  have o3:=(f3 _ (by omega) (by omega)).trans o2
  have kk3:∀ x,x<S.n→x≠id→S3.obj x=S.obj x:=fun x hx hne=>(f3 x (by have:=kk.1;omega) hne).trans (kk.2 x hx)
  cases e3:(rat c t0 f t0.st).2 with
  |false =>
   (repeat (first|with_reducible_and_instances (first|refine WJ ?_|refine W (J_ldq (by with_unfolding_all rfl)) ?_)))
   exact PlR.seqF e3 hm (by omega) q3 kk3
  |true =>
   (repeat (first|with_reducible_and_instances (first|refine WJ ?_|refine W (LJ_ldp o3 (by omega) (by with_unfolding_all rfl) (by with_unfolding_all rfl)) ?_|refine W (LJ_T1) ?_|refine W (LJ_ldNq (Tn.row_len _)) ?_|refine W (J_ldq (by with_unfolding_all rfl)) ?_)|refine J_cA (ans142) rfl rfl ?_|refine C_A (ans142) rfl rfl ?_|refine L_cA (ans142) rfl rfl ?_))
   refine callF_pr (pl139 (hk t1 (by simp)) (f:=foG) (.o _ _ (by decide) (.c _ (by decide))) q3 (by omega) hm t0.st) fun S4 hp=>?_
   (repeat (first|with_reducible_and_instances (first|refine WJ ?_|refine W (J_ldq (by with_unfolding_all rfl)) ?_)))
   exact PlR.seq e3 (h1 e3) (by omega) kk3 hp.one
theorem pl98{f g:Fo}(hf:Pu f)(hg:Pu g)(k l:Int)(nm:ByteArray):ACalls Pg 98 [.p id 0 0,(Fo.mk k nm l [f,g]).av,(Tn.mk tk s a ss ks).av] S
    (PlR c id S n (if tk=3∧0≤a∧a≤1∧ss = []then Tn.accs c ks [if a=0 then foOne 13 g else foTwo 15 g (foTwo 5 f g)] [s] 0 else(0,false))):=by
 refine calls98 ?_
 unfold m98
 rw[Fo.av,Fo.row_mk]
 refine boxA_of rfl fun S1 k1 n1 o1=>?_
 refine boxA_of (Tn.row_len _) fun S2 k2 n2 o2=>?_
 have kk:=k1.trans k2
 have p1:=(k2.2 _ (by omega)).trans o1
 have q:=(kk.2 _ hid).trans h
 show ∃ q:AV,_
 (repeat (first|with_reducible_and_instances (first|refine WJ ?_|refine W (LJ_ldp p1 (by omega) (by with_unfolding_all rfl) (by with_unfolding_all rfl)) ?_|refine W (LJ_F0) ?_|refine W (LJ_F1) ?_|refine W (LJ_ldNq (Fo.row_len _)) ?_|refine W (J_ldq (by with_unfolding_all rfl)) ?_)))
 refine news2 fun i j S3 k3 hi hi2 hj hj2 hij oi oj=>?_
 dsimp only[List.headD_cons,List.tail_cons]
 refine stA_of oi (Fo.row_len f) rfl fun S4 n4 o4 f4=>?_
 have p4:=(f4 _ (by omega)).trans ((k3.2 _ (by omega)).trans p1)
 refine⟨fun T hT=>by rw[ldN_q (Fo.row_len _)];exact⟨rfl,rfl⟩,fun T hT=>by rw[ixF1];exact⟨rfl,rfl⟩,fun T hT=>by rw[ld1_p ((hT.2 _ (by have:=k3.1;omega)).trans p4) rfl rfl];exact⟨rfl,rfl⟩,fun T hT=>⟨rfl,rfl⟩,?_⟩
 refine stA_of ((f4 _ (by omega)).trans oj) (Fo.row_len g) rfl fun S5 n5 o5 f5=>?_
 have a5:=(f5 _ hij).trans o4
 have t5:=(f5 _ (by omega)).trans ((f4 _ (by omega)).trans ((k3.2 _ (by omega)).trans o2))
 have k5:Keep S S5:=((kk.trans k3).st (id:=i) (by have:=kk.1;omega) n4 f4).st (id:=j) (by have:=kk.1;omega) n5 f5
 have q5:=(k5.2 _ hid).trans h
 show ∃ q:AV,_
 refine W (LJ_ldN (n:=5) t5 (by have:=k3.1;omega) (Tn.row_len _)) ?_
 (repeat (first|with_reducible_and_instances (first|refine WJ ?_|refine W (LJ_ldN (n:=5) t5 (by have:=k3.1;omega) (Tn.row_len _)) ?_|refine W (LJ_ldN (n:=4) o5 (by omega) (Fo.row_len _)) ?_|refine W (LJ_ldN (n:=4) a5 (by omega) (Fo.row_len _)) ?_|refine W (J_ldq (by with_unfolding_all rfl)) ?_)|refine J_cA (ans74 13 [g]) rfl rfl ?_|refine C_A (ans74 13 [g]) rfl rfl ?_|refine L_cA (ans74 13 [g]) rfl rfl ?_|refine J_cA (ans74 5 [f,g]) rfl rfl ?_|refine C_A (ans74 5 [f,g]) rfl rfl ?_|refine L_cA (ans74 5 [f,g]) rfl rfl ?_|refine J_cA (ans74 15 [g,foTwo 5 f g]) rfl rfl ?_|refine C_A (ans74 15 [g,foTwo 5 f g]) rfl rfl ?_|refine L_cA (ans74 15 [g,foTwo 5 f g]) rfl rfl ?_|refine L_bslA4 (Fo.row_len _) ?_|refine L_bslA42 (Fo.row_len _) (Fo.row_len _) ?_))
 have hfi:=pl140 hc hk hkl hs tk s a q5 (by have:=k5.1;omega) hn (f:=foOne 13 g) (g:=foTwo 15 g (foTwo 5 f g)) (.o _ _ (by decide) hg) (.t _ _ _ (by decide) hg (.t _ _ _ (by decide) hf hg))
 by_cases e:tk=3∧0≤a∧a≤1∧ss = []
 ·rw[if_pos e]at hfi ⊢
  have h01:a=0∨a=1:=by omega
  rcases h01 with rfl|rfl
  ·rw[if_pos rfl]
   exact callF_pr hfi fun S6 hp=>hp.up k5
  ·rw[if_neg (by decide)]
   exact callF_pr hfi fun S6 hp=>hp.up k5
 ·rw[if_neg e]at hfi ⊢
  exact callF_pr hfi fun S6 hp=>hp.up k5
end
set_option linter.unusedSectionVars false
theorem at144{c:Ci}(hc:c.ok){n:Int}{id a b ta tb:Nat}{S:Store}(h:S.obj id=some (plO c n)){l:Int}(ha:S.obj a=some (.cells ta [[.p id 0 0]] true))(hb:S.obj b=some (.cells tb [[aI l]] true))(hl:i64R l)(s:Int):
    AnsAt Pg 144 ([] ++ [aI s] ++ [.p a 0 0,.p b 0 0]) S (aB (isB c s l)):=by
 refine calls144 ?_
 unfold m144
 rw[ld1_p ha rfl rfl,ld1_p hb rfl rfl]
 exact callF_at (at137 hc h s hl) ⟨rfl,rfl⟩
section
variable {c:Ci} (hc:Cs c) {id:Nat} {ks:List Tn} (hk:∀ t∈ks,HK c id t) (hkl:ks.length≤1000000) {ss:List Int} (hs:ss.length≤1000000) (tk s a:Int) {S:Store} {n:Int} (h:S.obj id=some (plO c n)) (hid:id<S.n) (hn:i64R n)
include hc hk hkl hs h hid hn
theorem pl96{f:Fo}(hf:Pu f)(k l:Int)(nm:ByteArray):ACalls Pg 96 [.p id 0 0,(Fo.mk k nm l [f]).av,(Tn.mk tk s a ss ks).av] S (PlR c id S n (loopR c f tk s a ss ks)):=by
 refine calls96 ?_
 unfold m96 loopR
 rw[Fo.av,Fo.row_mk,Tn.av,Tn.row_mk]
 refine box1_of rfl fun S1 k1 n1 o1=>?_
 refine boxA_of rfl fun S2 k2 n2 o2=>?_
 refine boxA_of rfl fun S3 k3 n3 o3=>?_
 have kk:=(k1.trans k2).trans k3
 have p1:=(k3.2 _ (by omega)).trans ((k2.2 _ (by omega)).trans o1)
 have p2:=(k3.2 _ (by omega)).trans o2
 have q:=(kk.2 _ hid).trans h
 have cw:=at143 hc q (by omega) tk s a hs ks
 rw[Tn.av,Tn.row_mk]at cw
 rw[shift_p,ld1_p o3 rfl rfl,lenS_aL]
 show ∃ q:AV,_
 (repeat (first|with_reducible_and_instances (first|refine WJ ?_|refine W (J_ldp o3 (by with_unfolding_all rfl) (by with_unfolding_all rfl)) ?_|refine W (J_ldq (by with_unfolding_all rfl)) ?_)))
 by_cases e1:¬ tk=6
 ·rw[decide_eq_false e1,Bool.not_false]
  (repeat (first|with_reducible_and_instances (first|refine WJ ?_|refine W (J_ldp o3 (by with_unfolding_all rfl) (by with_unfolding_all rfl)) ?_|refine W (J_ldq (by with_unfolding_all rfl)) ?_)))
  rw[if_neg (fun hq=>e1 hq.2.2.2.2.1)]
  exact PlR.same kk q hn
 have e1:=Decidable.not_not.1 e1
 rw[decide_eq_true e1,Bool.not_true]
 cases e2:wayB c s ss with
 |false =>
  rw[e2]at cw
  (repeat (first|with_reducible_and_instances (first|refine WJ ?_|refine W (J_ldp o3 (by with_unfolding_all rfl) (by with_unfolding_all rfl)) ?_|refine W (J_ldp p1 (by with_unfolding_all rfl) (by with_unfolding_all rfl)) ?_|refine W (J_ldN (n:=5) o3 (by with_unfolding_all rfl)) ?_|refine W (J_ldq (by with_unfolding_all rfl)) ?_)|refine J_cI (cw) rfl rfl ?_|refine C_I (cw) rfl rfl ?_))
  rw[Bool.not_false]
  (repeat (first|with_reducible_and_instances (first|refine WJ ?_|refine W (J_ldp o3 (by with_unfolding_all rfl) (by with_unfolding_all rfl)) ?_|refine W (J_ldq (by with_unfolding_all rfl)) ?_)))
  rw[if_neg (fun hq=>way_false e2 ⟨hq.1,hq.2.1,hq.2.2.2.2.2.2.1⟩)]
  exact PlR.same kk q hn
 |true =>
 rw[e2]at cw
 obtain⟨w1,w2,w3⟩:=way_true e2
 have hpos:0<ss.length:=List.length_pos_iff.2 w2
 (repeat (first|with_reducible_and_instances (first|refine WJ ?_|refine W (J_ldp o3 (by with_unfolding_all rfl) (by with_unfolding_all rfl)) ?_|refine W (J_ldp p1 (by with_unfolding_all rfl) (by with_unfolding_all rfl)) ?_|refine W (J_ldN (n:=5) o3 (by with_unfolding_all rfl)) ?_|refine W (J_ldq (by with_unfolding_all rfl)) ?_)|refine J_cI (cw) rfl rfl ?_|refine C_I (cw) rfl rfl ?_))
 rw[Bool.not_true]
 (repeat (first|with_reducible_and_instances (first|refine WJ ?_|refine W (J_ldp o3 (by with_unfolding_all rfl) (by with_unfolding_all rfl)) ?_|refine W (J_ldq (by with_unfolding_all rfl)) ?_)))
 by_cases e3:a<0
 ·rw[decide_eq_true e3]
  (repeat (first|with_reducible_and_instances (first|refine WJ ?_|refine W (J_ldp o3 (by with_unfolding_all rfl) (by with_unfolding_all rfl)) ?_|refine W (J_ldq (by with_unfolding_all rfl)) ?_)))
  rw[if_neg (fun hq=>by have:=hq.2.2.1;omega)]
  exact PlR.same kk q hn
 rw[decide_eq_false e3]
 (repeat (first|with_reducible_and_instances (first|refine WJ ?_|refine W (J_ldp o3 (by with_unfolding_all rfl) (by with_unfolding_all rfl)) ?_|refine W (J_ldq (by with_unfolding_all rfl)) ?_)))
 by_cases e4:((ss.length:Nat):Int)≤a
 ·rw[decide_eq_true e4]
  (repeat (first|with_reducible_and_instances (first|refine WJ ?_|refine W (J_ldp o3 (by with_unfolding_all rfl) (by with_unfolding_all rfl)) ?_|refine W (J_ldq (by with_unfolding_all rfl)) ?_)))
  rw[if_neg (fun hq=>by have:=hq.2.2.2.1;omega)]
  exact PlR.same kk q hn
 rw[decide_eq_false e4]
 (repeat (first|with_reducible_and_instances (first|refine WJ ?_|refine W (J_ldp o3 (by with_unfolding_all rfl) (by with_unfolding_all rfl)) ?_|refine W (J_lenT) ?_|refine W (J_ldq (by with_unfolding_all rfl)) ?_)))
 by_cases e5:¬ ks.length=ss.length
 ·rw[show decide ((ks.length:Int)=(ss.length:Int))=false from decide_eq_false (by omega),Bool.not_false]
  (repeat (first|with_reducible_and_instances (first|refine WJ ?_|refine W (J_ldp o3 (by with_unfolding_all rfl) (by with_unfolding_all rfl)) ?_|refine W (J_ldq (by with_unfolding_all rfl)) ?_)))
  rw[accs_len c ks _ _ _ (fun hq=>e5 hq.2.symm)]
  split<;>exact PlR.same kk q hn
 have e5:=Decidable.not_not.1 e5
 rw[show decide ((ks.length:Int)=(ss.length:Int))=true from decide_eq_true (by omega),Bool.not_true]
 obtain⟨i0,hi0⟩:∃ i0:Nat,ss.length=i0+1:=⟨ss.length - 1,by omega⟩
 obtain⟨j,rfl⟩:=Int.eq_ofNat_of_zero_le (show 0≤a by omega)
 have hj:j<ss.length:=by omega
 have hi1:i0<ss.length:=by omega
 have lsub:∀{S0:Store} {P:AV→Prop},(∃ q,(bin .sub 0 (aI ss.length) (.v (.int .i64 1)) S0 fun v S=>v=q∧S=S0)∧P q)=P (aI i0):=fun{S0 P}=>J_of (op:=fun K=>bin .sub 0 (aI ss.length) (.v (.int .i64 1)) S0 K) fun K=>(bin_sub (by omega) (by omega) 0).trans (by rw[show((ss.length:Nat):Int) - 1=i0 by omega])
 have hlast:ss.getD (ss.length - 1) 0=ss[i0]:=by simp[List.getD_eq_getElem?_getD,hi0]
 have hat:ss.getD (((j:Nat):Int)).toNat 0=ss[j]:=by simp[List.getD_eq_getElem?_getD,hj]
 have cbh:=at141 hc q (by omega) ss[i0] ss[j]
 cases e6:behindS c ss[i0] ss[j]with
 |false =>
  rw[e6]at cbh
  (repeat (first|with_reducible_and_instances (first|refine WJ ?_|refine W (J_ldp o3 (by with_unfolding_all rfl) (by with_unfolding_all rfl)) ?_|refine W (J_ldp p1 (by with_unfolding_all rfl) (by with_unfolding_all rfl)) ?_|refine W (lsub) ?_|refine W (J_ix hi1) ?_|refine W (J_ix hj) ?_|refine W (J_ldq (by with_unfolding_all rfl)) ?_)|refine J_cI (cbh) rfl rfl ?_|refine C_I (cbh) rfl rfl ?_))
  rw[Bool.not_false]
  (repeat (first|with_reducible_and_instances (first|refine WJ ?_|refine W (J_ldp o3 (by with_unfolding_all rfl) (by with_unfolding_all rfl)) ?_|refine W (J_ldq (by with_unfolding_all rfl)) ?_)))
  rw[if_neg (fun hq=>by have:=hq.2.2.2.2.2.1;rw[hlast,hat,e6]at this;cases this)]
  exact PlR.same kk q hn
 |true =>
 rw[e6]at cbh
 (repeat (first|with_reducible_and_instances (first|refine WJ ?_|refine W (J_ldp o3 (by with_unfolding_all rfl) (by with_unfolding_all rfl)) ?_|refine W (J_ldp p1 (by with_unfolding_all rfl) (by with_unfolding_all rfl)) ?_|refine W (lsub) ?_|refine W (J_ix hi1) ?_|refine W (J_ix hj) ?_|refine W (J_ldq (by with_unfolding_all rfl)) ?_)|refine J_cI (cbh) rfl rfl ?_|refine C_I (cbh) rfl rfl ?_))
 rw[Bool.not_true]
 (repeat (first|with_reducible_and_instances (first|refine WJ ?_|refine W (J_ldp o3 (by with_unfolding_all rfl) (by with_unfolding_all rfl)) ?_|refine W (J_ldq (by with_unfolding_all rfl)) ?_)))
 have hfair:=hc.ok.fair
 rw[ld1_p p1 rfl rfl,nilChk_p,shift_p,shift_p,ld1_p q rfl rfl,lenS_aL]
 rw[Int.toNat_natCast]
 have no:metS c (ss.drop j)=false→∀ T,Keep S T→T.obj id=some (plO c n)→PlR c id S n (if ss≠[]∧ss.getD 0 0=s∧0≤(j:Int)∧(j:Int)<ss.length∧tk=6∧behindS c (ss.getD (ss.length - 1) 0) (ss.getD j 0)=true∧chainS c ss=true∧metS c (ss.drop j)=true then Tn.accs c ks (List.replicate ss.length f) ss 0 else(0,false)) (.ret (aB false)) T:=fun hm T hT ht=>by
  rw[if_neg (fun hq=>by have:=hq.2.2.2.2.2.2.2;rw[hm]at this;cases this)]
  exact PlR.same hT ht hn
 refine loop96_0 (fun y S'=>∃ i:Nat,y=aI i∧i≤c.fair.length∧Keep S3 S'∧∀ m (h:m<c.fair.length),m<i→((ss.drop j).any fun s=>isB c s c.fair[m])=true) (fun y _=>c.fair.length - ((intA y).getD 0).toNat) ⟨0,rfl,Nat.zero_le _,Keep.refl _,fun m _ h=>by omega⟩ ?_
 rintro _ S4 ⟨i,rfl,hif,k4,hmet⟩ KE hKE
 unfold b96_0
 have q4:=(k4.2 _ (by omega)).trans q
 have p14:=(k4.2 _ (by omega)).trans p1
 have p24:=(k4.2 _ (by omega)).trans p2
 have p34:=(k4.2 _ (by omega)).trans o3
 have n4:=k4.1
 rw[bin_lss,onB_v]
 refine gd_of (fun hlt=>?_) (fun hge=>?_)
 ·have hlt:i<c.fair.length:=by have:=dT hlt;omega
  rw[ixS_aL hlt,ld1_q]
  refine box1_of rfl fun S5 k5 n5 o5=>?_
  refine st_of o5 rfl rfl fun S6 n6 o6 f6=>?_
  have k6:=k5.st (Nat.le_refl _) n6 f6
  have q6:=(k6.2 _ (by omega)).trans q4
  have p16:=(k6.2 _ (by omega)).trans p14
  have p36:=(k6.2 _ (by omega)).trans p34
  rw[shift_p,ld1_p p36 rfl rfl,shift_p,ld1_p p36 rfl rfl,slc_drop (by omega)]
  refine callF_at (at132 (f:=aI) (l:=ss.drop j) (by simp;omega) (g:=fun s=>isB c s c.fair[i]) (fs:=[]) (cs:=[.p S.n 0 0,.p S4.n 0 0]) fun x hx=>at144 hc.ok q6 p16 o6 (hfair.1 _ (List.getElem_mem hlt)) x) ?_
  rw[un_not,onB_v]
  refine gd_of (fun hb=>?_) (fun hb=>?_)
  ·refine no (all_no hlt (by simpa using hb)) S6 ((kk.trans k4).trans k6) q6
  ·rw[bin_add (by omega) (by omega)]
   exact hKE _ _ ⟨i+1,rfl,hlt,k4.trans k6,lt_step (p:=fun l=>((ss.drop j).any fun s=>isB c s l)=true) (hi:=hlt) hmet (by simpa using hb)⟩ (by simp[intA];omega)
 ·have hge:i=c.fair.length:=by have:=dF hge;omega
  subst hge
  rw[if_pos ⟨w2,w3,by omega,by omega,e1,by rw[hlast,show ss.getD j 0=ss[j]by simp[List.getD_eq_getElem?_getD,hj]];exact e6,w1,all_lt fun m hm=>hmet m hm hm⟩]
  clear no
  have hal:=pl145 (ts:=ks) hk hs (by omega) hf q4 (by omega) hn
  rw[show ks.take ss.length=ks by rw[←e5];exact List.take_length]at hal
  show ∃ q:AV,_
  (repeat (first|with_reducible_and_instances (first|refine WJ ?_|refine W (LJ_ldp p14 (by omega) (by with_unfolding_all rfl) (by with_unfolding_all rfl)) ?_|refine W (LJ_ldp p34 (by omega) (by with_unfolding_all rfl) (by with_unfolding_all rfl)) ?_|refine W (LJ_ldp p24 (by omega) (by with_unfolding_all rfl) (by with_unfolding_all rfl)) ?_|refine W (LJ_F0) ?_|refine W (LJ_ldNq (Fo.row_len _)) ?_|refine W (J_ldq (by with_unfolding_all rfl)) ?_)))
  exact callF_pr hal fun S5 hp=>hp.up (kk.trans k4)
end
set_option linter.unusedSectionVars false
theorem J_lkT{kk:KK}{z k:AV}{key:Key}{es:List (Key × AV)}{r:AV}(hk:keyA kk k=some key)(hr:lkV z true (lkp es key)=r){S0:Store}{P:AV→Prop}:(∃ q,(lkM kk z true (.mt kk es) k S0 fun v S=>v=q∧S=S0)∧P q)=P r:=J_of (op:=fun K=>lkM kk z true (.mt kk es) k S0 K) fun K=>by rw[lkM_mt hk,hr]
section
variable {c:Ci} (hc:Cs c) {id:Nat} {ks:List Tn} (hk:∀ t∈ks,HK c id t) (hkl:ks.length≤1000000) {ss:List Int} (hs:ss.length≤1000000) (tk s a:Int) {S:Store} {n:Int} (h:S.obj id=some (plO c n)) (hid:id<S.n) (hn:i64R n)
include hc hk hkl hs h hid hn
theorem play_go(w:FuncId)(k:Int)(f:Fo)(hf:f.row[0]? = some (aI k))(hl:lkV (.v .nilFunc) true (lkp waysE (.i k)) = .t [.f (.func w) [] [],aB true])(r:Int × Bool)(hr:validS c s=true→Tn.acc c (.mk tk s a ss ks) f=r)
    (hw:∀ S2:Store,S2.obj id=some (plO c n)→id<S2.n→ACalls Pg w [.p id 0 0,f.av,(Tn.mk tk s a ss ks).av] S2 (PlR c id S2 n r)):
    ACalls Pg 54 [.p id 0 0,f.av,(Tn.mk tk s a ss ks).av] S (PlR c id S n (Tn.acc c (.mk tk s a ss ks) f)):=by
 refine calls54 ?_
 unfold m54
 refine boxA_of (Fo.row_len f) fun S1 k1 n1 o1=>?_
 refine boxA_of (Tn.row_len _) fun S2 k2 n2 o2=>?_
 have kk:=k1.trans k2
 have p1:=(k2.2 _ (by omega)).trans o1
 have q:=(kk.2 _ hid).trans h
 have r1:=Tn.row1 (.mk tk s a ss ks)
 show ∃ q:AV,_
 (repeat (first|with_reducible_and_instances (first|refine WJ ?_|refine W (J_nil) ?_|refine W (J_ldp q (by with_unfolding_all rfl) (by with_unfolding_all rfl)) ?_|refine W (J_ldp p1 (by with_unfolding_all rfl) hf) ?_|refine W (J_lkT (keyI _ _) hl) ?_|refine W (J_ext (by with_unfolding_all rfl)) ?_|refine W (J_ldq (by with_unfolding_all rfl)) ?_)))
 rw[ld1_p o2 rfl r1]
 refine callF_at (at100 hc q (by omega) s) ?_
 rw[onB_v]
 refine gd_of (fun hv=>?_) (fun hv=>?_)
 ·rw[hr hv,ldN_p (n:=4) p1 (Fo.row_len f),ldN_p (n:=5) o2 (Tn.row_len _)]
  exact callV_pr (fs:=[]) (cs:=[]) (hw S2 q (by omega)) fun S' hp=>hp.up kk
 ·rw[acc_inv _ hv]
  exact PlR.same kk q hn
theorem play_no(f:Fo)(hf:f.row[0]? = some (aI 1))(hr:validS c s=true→Tn.acc c (.mk tk s a ss ks) f=(0,false)):
    ACalls Pg 54 [.p id 0 0,f.av,(Tn.mk tk s a ss ks).av] S (PlR c id S n (Tn.acc c (.mk tk s a ss ks) f)):=by
 refine calls54 ?_
 unfold m54
 refine boxA_of (Fo.row_len f) fun S1 k1 n1 o1=>?_
 refine boxA_of (Tn.row_len _) fun S2 k2 n2 o2=>?_
 have kk:=k1.trans k2
 have p1:=(k2.2 _ (by omega)).trans o1
 have q:=(kk.2 _ hid).trans h
 have hl:lkV (.v .nilFunc) true (lkp waysE (.i 1)) = .t [.v .nilFunc,aB false]:=rfl
 show ∃ q:AV,_
 (repeat (first|with_reducible_and_instances (first|refine WJ ?_|refine W (J_nil) ?_|refine W (J_ldp q (by with_unfolding_all rfl) (by with_unfolding_all rfl)) ?_|refine W (J_ldp p1 (by with_unfolding_all rfl) hf) ?_|refine W (J_lkT (keyI _ _) hl) ?_|refine W (J_ext (by with_unfolding_all rfl)) ?_|refine W (J_ldq (by with_unfolding_all rfl)) ?_)))
 have:Tn.acc c (.mk tk s a ss ks) f=(0,false):=by
  cases hv:validS c s with
  |true=>exact hr hv
  |false=>exact acc_inv _ hv
 rw[this]
 exact PlR.same kk q hn
theorem play_all{f:Fo}(hf:Pu f):ACalls Pg 54 [.p id 0 0,f.av,(Tn.mk tk s a ss ks).av] S (PlR c id S n (Tn.acc c (.mk tk s a ss ks) f)):=by
 have r0:∀(k l:Int) (nm:ByteArray) (fs:List Fo),(Fo.mk k nm l fs).row[0]? = some (aI k):=fun k l nm fs=>by rw[Fo.row_mk];rfl
 cases hf with
 |c k hkd =>
  rcases hkd with rfl|rfl
  ·exact play_no hc hk hkl hs tk s a h hid hn _ (r0 _ _ _ _) acc_1
  ·exact play_go hc hk hkl hs tk s a h hid hn 89 2 _ (r0 _ _ _ _) rfl _ acc_2 fun S2 q hi=>pl89 hc hk hkl hs tk s a q hi hn _
 |a l h0 hl=>exact play_go hc hk hkl hs tk s a h hid hn 90 3 _ (r0 _ _ _ _) rfl _ acc_3 fun S2 q hi=>pl90 hc hk hkl hs tk s a q hi hn _ _ hl _
 |n l h0 hl=>exact play_go hc hk hkl hs tk s a h hid hn 91 4 _ (r0 _ _ _ _) rfl _ acc_4 fun S2 q hi=>pl91 hc hk hkl hs tk s a q hi hn _ _ _ _ hl _
 |o k f hkd hf =>
  have:k=9∨k=11∨k=13∨k=10∨k=12∨k=14:=by omega
  rcases this with rfl|rfl|rfl|rfl|rfl|rfl
  ·exact play_go hc hk hkl hs tk s a h hid hn 94 9 _ (r0 _ _ _ _) rfl _ acc_9 fun S2 q hi=>pl94 hc hk hkl hs tk s a q hi hn hf _ _ _
  ·exact play_go hc hk hkl hs tk s a h hid hn 95 11 _ (r0 _ _ _ _) rfl _ acc_11 fun S2 q hi=>pl95 hc hk hkl hs tk s a q hi hn hf _ _ _
  ·exact play_go hc hk hkl hs tk s a h hid hn 96 13 _ (r0 _ _ _ _) rfl _ acc_13 fun S2 q hi=>pl96 hc hk hkl hs tk s a q hi hn hf _ _ _
  ·exact play_go hc hk hkl hs tk s a h hid hn 99 10 _ (r0 _ _ _ _) rfl _ (acc_t (by decide)) fun S2 q hi=>pl99 hc hk hkl hs tk s a q hi hn _
  ·exact play_go hc hk hkl hs tk s a h hid hn 99 12 _ (r0 _ _ _ _) rfl _ (acc_t (by decide)) fun S2 q hi=>pl99 hc hk hkl hs tk s a q hi hn _
  ·exact play_go hc hk hkl hs tk s a h hid hn 99 14 _ (r0 _ _ _ _) rfl _ (acc_t (by decide)) fun S2 q hi=>pl99 hc hk hkl hs tk s a q hi hn _
 |t k f g hkd hf hg =>
  have:k=5∨k=6∨k=15∨k=17∨k=16∨k=18:=by omega
  rcases this with rfl|rfl|rfl|rfl|rfl|rfl
  ·exact play_go hc hk hkl hs tk s a h hid hn 92 5 _ (r0 _ _ _ _) rfl _ acc_5 fun S2 q hi=>pl92 hc hk hkl hs tk s a q hi hn hf hg _ _ _
  ·exact play_go hc hk hkl hs tk s a h hid hn 93 6 _ (r0 _ _ _ _) rfl _ acc_6 fun S2 q hi=>pl93 hc hk hkl hs tk s a q hi hn hf hg _ _ _
  ·exact play_go hc hk hkl hs tk s a h hid hn 97 15 _ (r0 _ _ _ _) rfl _ acc_15 fun S2 q hi=>pl97 hc hk hkl hs tk s a q hi hn hf hg _ _ _
  ·exact play_go hc hk hkl hs tk s a h hid hn 98 17 _ (r0 _ _ _ _) rfl _ acc_17 fun S2 q hi=>pl98 hc hk hkl hs tk s a q hi hn hf hg _ _ _
  ·exact play_go hc hk hkl hs tk s a h hid hn 99 16 _ (r0 _ _ _ _) rfl _ (acc_t (by decide)) fun S2 q hi=>pl99 hc hk hkl hs tk s a q hi hn _
  ·exact play_go hc hk hkl hs tk s a h hid hn 99 18 _ (r0 _ _ _ _) rfl _ (acc_t (by decide)) fun S2 q hi=>pl99 hc hk hkl hs tk s a q hi hn _
end
theorem pl54{c:Ci}(hc:Cs c)(id:Nat):∀ t:Tn,t.ok→HK c id t:=by
 intro t
 induction t using Tn.ind with
 |h tk s a ss ks ih =>
  intro ht f hf S n h hid hn
  cases ht with
  |mk _ _ _ _ _ h1 h2 h3 h4 h5 h6 h7=>exact play_all hc (fun t ht=>ih t ht (h7 t ht)) h6 h4 tk s a h hid hn hf
theorem ans53:Ans Pg 53 [] (.mt (.i .i64) waysE):=by
 intro S
 refine ACalls.tree (calls53 ?_)
 unfold m53 mkM
 dsimp only
 rw[updM_m (new_self _) (keyI _ _)]
 repeat rw[updM_m (upd_self _ _) (keyI _ _),upd_upd]
 refine⟨_,rfl,((Keep.refl S).new _).upd (Nat.le_refl _) _,.m' S.n (.i .i64) waysE waysE ?_ rfl (fun i e e2 h h2=>by rw[h]at h2;cases h2;rfl) (fun i e e2 h h2=>?_)⟩
 ·rw[frz_ofM (upd_self _ _)]
  have:newer S.n S.n=true:=by simp[newer]
  rw[this]
  rfl
 ·rw[h]at h2;cases h2
  have hm:e∈waysE:=List.mem_of_getElem? h
  have hf:∀ w:FuncId,Cv ((Store.upd (S.new (.map (.i .i64) [] true)) S.n (.map (.i .i64) waysE true)).frz (newer S.n)) S.n (.f (.func w) [] []) (.f (.func w) [] []):=fun w=>.f _ _ _ _ _ rfl rfl (fun k u u2 h=>by simp at h) (fun k u u2 h=>by simp at h)
  simp only[waysE,List.mem_cons,List.not_mem_nil,or_false]at hm
  rcases hm with rfl|rfl|rfl|rfl|rfl|rfl|rfl|rfl|rfl|rfl|rfl|rfl|rfl|rfl|rfl<;>exact hf _
set_option linter.unusedSectionVars false
def acceptB (c:Ci) (f:Fo) (t:Tn):Int × Bool:=
 if mayC c f=false∨60<c.gr.inputs then(0,false)else if(t.acc c (f.push false)).2=true then t.acc c (f.push false)else(0,false)
def pl01:(Int × Bool) ⊕ (List Fo × List Int)→Prop
 |.inl r=>r.1=0∨r.1=1
 |.inr _=>True
theorem pl_ite{p:Prop}[Decidable p]{x y:(Int × Bool) ⊕ (List Fo × List Int)}(h1:pl01 x)(h2:pl01 y):pl01 (if p then x else y):=by
 split
 ·exact h1
 ·exact h2
theorem plan_01(c:Ci)(f:Fo)(tk s a:Int)(ss kst:List Int):pl01 (planA c f tk s a ss kst):=by
 obtain⟨k,nm,l,fs⟩:=f
 unfold planA
 repeat' (first|exact trivial|exact Or.inl rfl|exact Or.inr rfl|refine pl_ite ?_ ?_)
theorem acc_rng{c:Ci}{t:Tn}{f:Fo}:i64R (t.acc c f).1:=by
 obtain⟨tk,s,a,ss,ks⟩:=t
 rw[acc_mk]
 have h:=plan_01 c f tk s a ss (ks.map Tn.st)
 generalize planA c f tk s a ss (ks.map Tn.st)=x at h
 cases x with
 |inl r =>
  show i64R r.1
  have h:r.1=0∨r.1=1:=h
  exact⟨by omega,by omega⟩
 |inr p=>exact accs_rng c ks _ _ ⟨by decide,by decide⟩
theorem may_parts{c:Ci}{f:Fo}(h:mayC c f=true):c.right=true∧f.mayB 60=true:=by
 unfold mayC at h
 rw[Bool.and_eq_true,Bool.and_eq_true]at h
 exact⟨h.1,h.2.1⟩
theorem ans27{c:Ci}(hc:c.ok){f:Fo}(hf:f.ok){t:Tn}(ht:t.ok):Ans Pg 27 [c.av,f.av,t.av] (aR (acceptB c f t)):=by
 intro S
 refine ACalls.ansT (calls27 ?_)
 unfold m27 acceptB
 refine boxA_of rfl fun S1 k1 n1 o1=>?_
 refine boxA_of (Fo.row_len f) fun S2 k2 n2 o2=>?_
 refine boxA_of (Tn.row_len t) fun S3 k3 n3 o3=>?_
 have kk:=(k1.trans k2).trans k3
 have p1:=(k3.2 _ (by omega)).trans ((k2.2 _ (by omega)).trans o1)
 have p2:=(k3.2 _ (by omega)).trans o2
 rw[ldN_p (n:=8) p1 rfl,ldN_p (n:=4) p2 (Fo.row_len f)]
 refine callF_ans (ans52 hc hf) ?_
 rw[un_not,onB_v]
 cases hm:mayC c f with
 |false =>
  rw[if_pos (.inl rfl)]
  exact⟨rfl,kk⟩
 |true =>
 rw[gd_nT (b:=true) rfl]
 obtain⟨hr,hmay⟩:=may_parts hm
 obtain⟨g1,g2,g3⟩:=gr_inp hr
 rw[shift_p,ld1_p p1 rfl rfl,shift_p,ld1_p p1 rfl rfl,lenS_pL,bin_add (by omega) (by omega),←g1,bin_gtr,onB_v]
 by_cases e1:60<c.gr.inputs
 ·rw[decide_eq_true e1,if_pos (.inr e1)]
  exact⟨rfl,kk⟩
 rw[decide_eq_false e1,gd_false,if_neg (by rintro(h|h);cases h;exact e1 h)]
 have hcs:Cs c:=⟨hc,hr,by omega⟩
 have hpu:=push_pu f hf hmay false
 show ∃ q:AV,_
 (repeat (first|with_reducible_and_instances (first|refine WJ ?_|refine W (LJ_ldN (n:=8) p1 (by omega) (by with_unfolding_all rfl)) ?_|refine W (LJ_bld (cs:=plC c 0) (by with_unfolding_all rfl)) ?_|refine W (J_ldq (by with_unfolding_all rfl)) ?_)|refine J_cA (ans53) rfl rfl ?_|refine C_A (ans53) rfl rfl ?_|refine L_cA (ans53) rfl rfl ?_))
 refine boxA_of (plC_len c 0) fun S4 k4 n4 o4=>?_
 have p24:=(k4.2 _ (by omega)).trans p2
 have p34:=(k4.2 _ (by omega)).trans o3
 show ∃ q:AV,_
 (repeat (first|with_reducible_and_instances (first|refine WJ ?_|refine W (LJ_ldN (n:=4) p24 (by omega) (Fo.row_len f)) ?_|refine W (LJ_ldN (n:=5) p34 (by omega) (Tn.row_len t)) ?_|refine W (J_ldq (by with_unfolding_all rfl)) ?_)|refine J_cA (ans45) rfl rfl ?_|refine C_A (ans45) rfl rfl ?_|refine L_cA (ans45) rfl rfl ?_|refine J_cA (ans44 f hf hmay false) rfl rfl ?_|refine C_A (ans44 f hf hmay false) rfl rfl ?_|refine L_cA (ans44 f hf hmay false) rfl rfl ?_))
 refine callF_pl (pl54 hcs S3.n t ht (f.push false) hpu S4 0 o4 (by omega) ⟨by decide,by decide⟩) fun n' S5 hn' h1 hn5 q5 f5=>?_
 have k5:Keep S S5:=⟨by have:=kk.1;omega,fun x hx=>(f5 x (by have:=kk.1;omega) (by have:=kk.1;omega)).trans ((k4.2 x (by have:=kk.1;omega)).trans (kk.2 x hx))⟩
 cases e2:(t.acc c (f.push false)).2 with
 |false =>
  (repeat (first|with_reducible_and_instances (first|refine WJ ?_|refine W (J_ldq (by with_unfolding_all rfl)) ?_)))
  exact⟨rfl,k5⟩
 |true =>
  (repeat (first|with_reducible_and_instances (first|refine WJ ?_|refine W (J_ldq (by with_unfolding_all rfl)) ?_)))
  rw[nilChk_p,shift_p,ld1_p q5 rfl rfl,h1 e2,Int.zero_add,wrap_rng acc_rng]
  exact⟨by unfold aR;rw[if_pos rfl,e2],k5⟩
mutual
def Tn.sizeF:Tn→Int→Int
 |.mk _ _ _ ss ks,m=>if 40<ss.length then -1 else Tn.sizeFs ks m
def Tn.sizeFs:List Tn→Int→Int
 |[],m=>m
 |t :: ts,m=>if 0≤m then Tn.sizeFs ts (Tn.sizeF t (m - 1))else m
end
theorem sizeFs_rng:∀(l:List Tn),(∀ t∈l,∀ m:Int,-1≤m→-1≤t.sizeF m∧t.sizeF m≤m)→∀ m:Int,-1≤m→-1≤Tn.sizeFs l m∧Tn.sizeFs l m≤m
 |[],_,m,h=>by rw[Tn.sizeFs];omega
 |t :: ts,h,m,hm=>by
  rw[Tn.sizeFs]
  split
  ·have h1:=h t (by simp) (m - 1) (by omega)
   have h2:=sizeFs_rng ts (fun g hg=>h g (by simp[hg])) (t.sizeF (m - 1)) h1.1
   omega
  ·omega
theorem sizeF_rng:∀(t:Tn) (m:Int),-1≤m→-1≤t.sizeF m∧t.sizeF m≤m:=by
 intro t
 induction t using Tn.ind with
 |h k s b ss ks ih =>
  intro m hm
  rw[Tn.sizeF]
  split
  ·omega
  ·exact sizeFs_rng ks ih m hm
theorem ans24:∀(t:Tn),t.got→∀{m:Int},-1≤m→i64R m→Ans Pg 24 [t.av,aI m] (aI (t.sizeF m)):=by
 intro t
 induction t using Tn.ind with
 |h k s b ss ks ih =>
  intro hg m hm1 hm S
  cases hg with
  |mk _ _ _ _ _ h1 h2 h3 h4 h5 h6 hks =>
  have hmx:maxLen=9223372036854775807:=by decide
  refine ACalls.ans_v (calls24 ?_)
  unfold m24
  rw[Tn.av,Tn.row_mk]
  refine boxA_of rfl fun S1 k1 n1 o1=>?_
  rw[shift_p,ld1_p o1 rfl rfl,lenS_aL,bin_gtr,onB_v,Tn.sizeF]
  refine gd_of (fun h=>?_) (fun h=>?_)
  ·have h:=dT h
   rw[if_pos (by omega)]
   exact⟨rfl,k1⟩
  have h:=dF h
  rw[if_neg (by omega)]
  refine loop24_0 (fun y z T=>T=S1∧∃(i:Nat) (x:Int),z=aI i∧y=aI x∧i≤ks.length∧-1≤x∧x≤m∧Tn.sizeFs ks m=Tn.sizeFs (ks.drop i) x) (fun _ z _=>ks.length - ((intA z).getD 0).toNat) ⟨rfl,0,m,rfl,rfl,Nat.zero_le _,hm1,Int.le_refl _,rfl⟩ ?_
  rintro _ _ S1 ⟨rfl,i,x,rfl,rfl,hi,hx1,hx2,he⟩ KE hKE
  unfold b24_0
  rw[shift_p,ld1_p o1 rfl rfl,lenS_tnL,bin_lss,onB_v]
  have hmr:=hm.2
  refine gd_of (fun hlt=>?_) (fun hge=>?_)
  ·have hlt:i<ks.length:=by have:=dT hlt;omega
   rw[List.drop_eq_getElem_cons hlt,Tn.sizeFs]at he
   rw[bin_geq,onB_v]
   refine gd_of (fun h=>?_) (fun h=>?_)
   ·have h:=dT h
    rw[if_pos h]at he
    rw[shift_p,ld1_p o1 rfl rfl,ixS_tnL hlt,ldN_q (Tn.row_len _),bin_sub (by omega) (by omega)]
    refine callF_ans (ih _ (List.getElem_mem hlt) (hks _ (List.getElem_mem hlt)) (m:=x - 1) (by omega) ⟨by omega,by omega⟩) ?_
    rw[show ∀ K:AV→Store→Prop,bin .add 0 (aI i) (.v (.int .i64 1)) S1 K=K (aI (i+1:Nat)) S1 from fun K=>bin_add (by omega) (by omega) 0]
    have hr:=sizeF_rng ks[i] (x - 1) (by omega)
    exact hKE _ _ _ ⟨rfl,i+1,_,rfl,rfl,hlt,hr.1,by omega,he⟩ (by simp[intA];omega)
   ·have h:=dF h
    rw[if_neg h]at he
    rw[he]
    exact⟨rfl,k1⟩
  ·have hge:i=ks.length:=by have:=dF hge;omega
   subst hge
   rw[List.drop_length,Tn.sizeFs]at he
   rw[he]
   exact⟨rfl,k1⟩
theorem sizeFs_kids:∀(l:List Tn) (m:Int),-1≤m→0≤Tn.sizeFs l m→(l.length:Int)≤m∧∀ t∈l,∃ m',-1≤m'∧m'<m∧0≤t.sizeF m'
 |[],m,_,h=>⟨by simpa[Tn.sizeFs]using h,fun f hf=>by cases hf⟩
 |t :: ts,m,hm,h=>by
  rw[Tn.sizeFs]at h
  split at h
  ·have hr:=sizeF_rng t (m - 1) (by omega)
   have hr2:=(sizeFs_rng ts (fun g _=>sizeF_rng g) (t.sizeF (m - 1)) hr.1).2
   obtain⟨h1,h2⟩:=sizeFs_kids ts _ hr.1 h
   refine⟨by simp;omega,fun g hg=>?_⟩
   rcases List.mem_cons.1 hg with rfl|hg
   ·exact⟨m - 1,by omega,by omega,by omega⟩
   ·obtain⟨m',h3,h4,h5⟩:=h2 g hg
    exact⟨m',h3,by omega,h5⟩
  ·omega
theorem got_okT:∀(t:Tn),t.got→∀{m:Int},-1≤m→m≤1000000→0≤t.sizeF m→t.ok:=by
 intro t
 induction t using Tn.ind with
 |h k s b ss ks ih =>
  intro hg m hm0 hm h
  cases hg with
  |mk _ _ _ _ _ h1 h2 h3 h4 h5 h6 hks =>
  rw[Tn.sizeF]at h
  split at h
  ·omega
  obtain⟨h7,h8⟩:=sizeFs_kids ks m hm0 h
  refine .mk _ _ _ _ _ h1 h2 h3 (by omega) h5 (by omega) fun t ht=>?_
  obtain⟨m',h9,h10,h11⟩:=h8 t ht
  exact ih t ht (hks t ht) h9 (by omega) h11
abbrev tnLf(s:Int):Tn:=.mk 1 s 0 [] []
abbrev tnLp(a:Int):Tn:=.mk 6 0 a [0,1] [tnLf 0,tnLf 1]
theorem is0:isB ca0 0 3=true:=by rw[isB,ca0_right,Bool.true_and];decide
theorem is1:isB ca0 1 3=false:=by rw[isB,ca0_right,Bool.true_and];decide
theorem after0:afterB ca0 0=1:=by
 rw[afterB,if_pos (by rw[ca0_right];decide)]
 show(if isB ca0 0 3=true then 0+2 ^ (0+0)else 0)=(1:Int)
 rw[is0];rfl
theorem after1:afterB ca0 1=0:=by
 rw[afterB,if_pos (by rw[ca0_right];decide)]
 show(if isB ca0 1 3=true then 0+2 ^ (0+0)else 0)=(0:Int)
 rw[is1];rfl
theorem valid0:validS ca0 0=true:=rfl
theorem valid1:validS ca0 1=true:=rfl
theorem beh01:behindS ca0 0 1=true:=by rw[behindS,valid0,valid1,after0];rfl
theorem beh10:behindS ca0 1 0=true:=by rw[behindS,valid0,valid1,after1];rfl
theorem beh11:behindS ca0 1 1=false:=by rw[behindS,valid1,after1];rfl
theorem chain01:chainS ca0 [0,1]=true:=by
 show(behindS ca0 0 1 && true)=true
 rw[beh01];rfl
theorem may0:mayC ca0 foG=true:=by rw[mayC,ca0_right];decide
theorem mayT:mayC ca0 (foOne 14 (.mk 1 ⟨#[]⟩ 0 []))=true:=by rw[mayC,ca0_right];decide
theorem pushG:foG.push false=foG:=by rw[push_one (by decide),push_const (by decide)];rfl
theorem pushT:(foOne 14 (.mk 1 ⟨#[]⟩ 0 [])).push false=foOne 14 (.mk 1 ⟨#[]⟩ 0 []):=by rw[push_one (by decide),push_const (by decide)];rfl
theorem small0:¬ 60<ca0.gr.inputs:=by decide
theorem leaf0:(tnLf 0).acc ca0 fo2=(0,true):=by rw[acc_2 valid0];rfl
theorem leaf1:(tnLf 1).acc ca0 fo2=(0,true):=by rw[acc_2 valid1];rfl
theorem accG:acceptB ca0 foG (tnLp 0)=(0,true):=by
 have h:(tnLp 0).acc ca0 foG=(0,true):=by
  rw[acc_13 valid0,loopR,if_pos ⟨by decide,rfl,by decide,by decide,rfl,beh10,chain01,rfl⟩]
  show Tn.accs ca0 [tnLf 0,tnLf 1] [fo2,fo2] [0,1] 0=_
  rw[accs_seq,seq_none,rat,rat,if_pos (show(tnLf 0).st=0 from rfl),if_pos (show(tnLf 1).st=1 from rfl),leaf0,leaf1]
  rfl
 rw[acceptB,if_neg (by rw[may0];rintro(h|h);cases h;exact small0 h),pushG,h,if_pos rfl]
theorem accN:acceptB ca0 foG (tnLp 1)=(0,false):=by
 have h:(tnLp 1).acc ca0 foG=(0,false):=by
  rw[acc_13 valid0,loopR,if_neg]
  intro h
  have this:behindS ca0 1 1=true:=h.2.2.2.2.2.1
  rw[beh11]at this
  cases this
 rw[acceptB,if_neg (by rw[may0];rintro(h|h);cases h;exact small0 h),pushG,h,if_neg (by decide)]
theorem accT:acceptB ca0 (foOne 14 (.mk 1 ⟨#[]⟩ 0 [])) (.mk 7 0 0 [] [])=(1,true):=by
 have h:(Tn.mk 7 0 0 [] []).acc ca0 (foOne 14 (.mk 1 ⟨#[]⟩ 0 []))=(1,true):=by rw[acc_t (by decide) valid0];rfl
 rw[acceptB,if_neg (by rw[mayT];rintro(h|h);cases h;exact small0 h),pushT,h,if_pos rfl]
theorem pushN:pushB (foOne 4 foG)=foOne 12 (.mk 1 ⟨#[]⟩ 0 []):=by
 rw[pushB,if_pos (by decide),push_not,push_one (by decide),push_const (by decide)];rfl
theorem cv_fo1{S:Store}{n:Nat}{k l:Int}{f:Fo}{r:List AV}(hl:r.length=4)(hr:∀(k:Nat) (u u2:AV),r[k]? = some u→f.row[k]? = some u2→Cv S n u u2):Cv S n (.a [aI k,.v (.string ⟨#[]⟩),aI l,.l [r]]) (Fo.mk k ⟨#[]⟩ l [f]).av:=by
 rw[Fo.av,Fo.row_mk]
 refine .a _ _ rfl fun k u u2 e1 e2=>?_
 match k with
 |0=>cases e1;cases e2;exact .v _
 |1=>cases e1;cases e2;exact .v _
 |2=>cases e1;cases e2;exact .v _
 |3 =>
  cases e1;cases e2
  refine .l _ _ rfl (fun i c c2 h1 h2=>?_) (fun i c c2 k u u2 h1 h2 h3 h4=>?_)
  ·match i with
   |0=>cases h1;cases h2;rw[Fo.row_len,hl]
   |i+1=>simp at h1
  ·match i with
   |0=>cases h1;cases h2;exact hr k u u2 h3 h4
   |i+1=>simp at h1
 |k+4=>simp at e1
theorem cv_fo0{S:Store}{n:Nat}(k l:Int):∀(j:Nat) (u u2:AV),[aI k,.v (.string ⟨#[]⟩),aI l,AV.nl][j]? = some u→(Fo.mk k ⟨#[]⟩ l []).row[j]? = some u2→Cv S n u u2:=fun j u u2 e1 e2=>by
 rw[Fo.row_mk]at e2
 match j with
 |0=>cases e1;cases e2;exact .v _
 |1=>cases e1;cases e2;exact .v _
 |2=>cases e1;cases e2;exact .v _
 |3=>cases e1;cases e2;exact .nl
 |j+4=>simp at e1
theorem cv_tn0{S:Store}{n:Nat}(k s a:Int):∀(j:Nat) (u u2:AV),[aI k,aI s,aI a,AV.nl,AV.nl][j]? = some u→(Tn.mk k s a [] []).row[j]? = some u2→Cv S n u u2:=fun j u u2 e1 e2=>by
 rw[Tn.row_mk]at e2
 match j with
 |0=>cases e1;cases e2;exact .v _
 |1=>cases e1;cases e2;exact .v _
 |2=>cases e1;cases e2;exact .v _
 |3=>cases e1;cases e2;exact .nl
 |4=>cases e1;cases e2;exact .nl
 |j+5=>simp at e1
theorem cv_tl{S:Store}{n:Nat}(k s a:Int):Cv S n (.a [aI k,aI s,aI a,.nl,.nl]) (Tn.mk k s a [] []).av:=.a _ _ (by rw[Tn.row_len];rfl) (cv_tn0 k s a)
theorem cv_lp{S:Store}{n:Nat}(a:Int):Cv S n (.a [aI 6,aI 0,aI a,.l [[aI 0],[aI 1]],.l [[aI 1,aI 0,aI 0,.nl,.nl],[aI 1,aI 1,aI 0,.nl,.nl]]]) (tnLp a).av:=by
 rw[Tn.av,Tn.row_mk]
 refine .a _ _ rfl fun k u u2 e1 e2=>?_
 match k with
 |0=>cases e1;cases e2;exact .v _
 |1=>cases e1;cases e2;exact .v _
 |2=>cases e1;cases e2;exact .v _
 |3=>cases e1;cases e2;exact treeI [0,1] _ _
 |4 =>
  cases e1;cases e2
  refine .l _ _ rfl (fun i c c2 h1 h2=>?_) (fun i c c2 k u u2 h1 h2 h3 h4=>?_)
  ·match i with
   |0=>cases h1;cases h2;rw[Tn.row_len];rfl
   |1=>cases h1;cases h2;rw[Tn.row_len];rfl
   |i+2=>simp at h1
  ·match i with
   |0=>cases h1;cases h2;exact cv_tn0 1 0 0 k u u2 h3 h4
   |1=>cases h1;cases h2;exact cv_tn0 1 1 0 k u u2 h3 h4
   |i+2=>simp at h1
 |k+5=>simp at e1
theorem bslT2{e:Nat}{z1 z2 z3 z4 z5:AV}{r r2:List AV}{S:Store}{K:AV→Store→Prop}(hr:r.length=5)(hr2:r2.length=5)(k:K (.l [r,r2]) S):bslN e 5 2 [z1,z2,z3,z4,z5] [(0,.a r),(1,.a r2)] S K:=by
 match r,hr,r2,hr2 with
 |[u,v,w,x,y],_,[u2,v2,w2,x2,y2],_ =>
  refine⟨[u,v,w,x,y,u2,v2,w2,x2,y2],?_,.inr ?_⟩
  ·simp[fillA,cellsOf,spl,List.range_succ]
  ·simpa[chunks,List.range_succ]using k
theorem bslT1{e:Nat}{z1 z2 z3 z4 z5:AV}{r:List AV}{S:Store}{K:AV→Store→Prop}(hr:r.length=5)(k:K (.l [r]) S):bslN e 5 1 [z1,z2,z3,z4,z5] [(0,.a r)] S K:=by
 match r,hr with
 |[u,v,w,x,y],_ =>
  refine⟨[u,v,w,x,y],?_,.inr ?_⟩
  ·simp[fillA,cellsOf,spl,List.range_succ]
  ·simpa[chunks,List.range_succ]using k
theorem okG:foG.ok:=Pu.ok (.o _ _ (by decide) (.c _ (by decide)))
theorem okLf(s:Int)(h:i64R s):(tnLf s).ok:=.mk _ _ _ _ _ ⟨by decide,by decide⟩ h ⟨by decide,by decide⟩ (by decide) (fun x hx=>by cases hx) (by decide) (fun x hx=>by cases hx)
theorem okLp(a:Int)(h:i64R a):(tnLp a).ok:=.mk _ _ _ _ _ ⟨by decide,by decide⟩ ⟨by decide,by decide⟩ h (by decide) (fun x hx=>by
 simp only[List.mem_cons,List.not_mem_nil,or_false]at hx
 rcases hx with rfl|rfl<;>exact⟨by decide,by decide⟩) (by simp) (fun x hx=>by
 simp only[List.mem_cons,List.not_mem_nil,or_false]at hx
 rcases hx with rfl|rfl
 ·exact okLf 0 ⟨by decide,by decide⟩
 ·exact okLf 1 ⟨by decide,by decide⟩)
theorem ans19:Ans Pg 19 [] (aB true):=by
 intro S
 refine ACalls.ans_v (calls19 ?_)
 unfold m19
 have h1:=ans27 ca0_ok okG (okLp 0 ⟨by decide,by decide⟩)
 have h2:=ans27 ca0_ok okG (okLp 1 ⟨by decide,by decide⟩)
 have h3:=ans27 ca0_ok (f:=foOne 14 (.mk 1 ⟨#[]⟩ 0 [])) (Pu.ok (.o _ _ (by decide) (.c _ (by decide)))) (t:=.mk 7 0 0 [] []) (.mk _ _ _ _ _ ⟨by decide,by decide⟩ ⟨by decide,by decide⟩ ⟨by decide,by decide⟩ (by decide) (fun x hx=>by cases hx) (by decide) (fun x hx=>by cases hx))
 have h4:=ans21 (f:=foOne 4 foG) (.mk _ _ _ _ ⟨by decide,by decide⟩ ⟨by decide,by decide⟩ (by decide) (by simp) fun g hg=>by rw[List.mem_singleton.1 hg];exact okG)
 rw[accG]at h1
 rw[accN]at h2
 rw[accT]at h3
 rw[pushN]at h4
 have hci:∀(T:Store) (n:Nat),Cv T n (.a [aI 0,.l [[aI 3,aI 0]],.nl,.nl,.nl,.nl,.nl,.nl]) ca0.av:=fun T n=>cv_ci (.v _) (treeP [(3,0)] _ _)
 have hfG:∀(T:Store) (n:Nat),Cv T n (.a [aI 13,.v (.string ⟨#[]⟩),aI 0,.l [[aI 2,.v (.string ⟨#[]⟩),aI 0,.nl]]]) foG.av:=fun T n=>cv_fo1 rfl (cv_fo0 2 0)
 rw[bld_of (cs:=[aI 3,aI 0]) rfl]
 refine bslP ?_
 rw[bld_of (cs:=[aI 0,.l [[aI 3,aI 0]],.nl,.nl,.nl,.nl,.nl,.nl]) rfl]
 refine boxA_of rfl fun S1 k1 n1 o1=>?_
 refine stA_of (cs':=[aI 0,.l [[aI 3,aI 0]],.nl,.nl,.nl,.nl,.nl,.nl]) o1 rfl rfl fun S2 n2 o2 f2=>?_
 have k2:=k1.st (Nat.le_refl _) n2 f2
 rw[bld_of (cs:=[aI 2,.v (.string ⟨#[]⟩),aI 0,.nl]) rfl]
 refine bslA4 rfl ?_
 rw[bld_of (cs:=[aI 13,.v (.string ⟨#[]⟩),aI 0,.l [[aI 2,.v (.string ⟨#[]⟩),aI 0,.nl]]]) rfl]
 refine boxA_of rfl fun S3 k3 n3 o3=>?_
 refine stA_of (cs':=[aI 13,.v (.string ⟨#[]⟩),aI 0,.l [[aI 2,.v (.string ⟨#[]⟩),aI 0,.nl]]]) o3 rfl rfl fun S4 n4 o4 f4=>?_
 have k4:=k3.st (Nat.le_refl _) n4 f4
 refine bsl2 rfl rfl ?_
 rw[bld_of (cs:=[aI 1,aI 0,aI 0,.nl,.nl]) rfl,bld_of (cs:=[aI 1,aI 1,aI 0,.nl,.nl]) rfl]
 refine bslT2 rfl rfl ?_
 rw[bld_of (cs:=[aI 6,aI 0,aI 0,.l [[aI 0],[aI 1]],.l [[aI 1,aI 0,aI 0,.nl,.nl],[aI 1,aI 1,aI 0,.nl,.nl]]]) rfl]
 refine boxA_of rfl fun S5 k5 n5 o5=>?_
 refine stA_of (cs':=[aI 6,aI 0,aI 0,.l [[aI 0],[aI 1]],.l [[aI 1,aI 0,aI 0,.nl,.nl],[aI 1,aI 1,aI 0,.nl,.nl]]]) o5 rfl rfl fun S6 n6 o6 f6=>?_
 have k6:=k5.st (Nat.le_refl _) n6 f6
 have p6:=(k6.2 _ (by omega)).trans ((k4.2 _ (by omega)).trans o2)
 have q6:=(k6.2 _ (by omega)).trans o4
 rw[ldN_p (n:=8) p6 rfl,ldN_p (n:=4) q6 rfl,ldN_p (n:=5) o6 rfl]
 refine callF_cv' (args:=[.a [aI 0,.l [[aI 3,aI 0]],.nl,.nl,.nl,.nl,.nl,.nl],.a [aI 13,.v (.string ⟨#[]⟩),aI 0,.l [[aI 2,.v (.string ⟨#[]⟩),aI 0,.nl]]],.a [aI 6,aI 0,aI 0,.l [[aI 0],[aI 1]],.l [[aI 1,aI 0,aI 0,.nl,.nl],[aI 1,aI 1,aI 0,.nl,.nl]]]]) h1 rfl (cv_3 (hci _ _) (hfG _ _) (cv_lp 0)) ?_
 rw[extr0,extr1,shift_p]
 refine stF_of o6 (by decide) rfl fun S7 n7 o7 f7=>?_
 have o7:S7.obj S4.n=some (.cells 37 [[aI 6,aI 0,aI 1,.l [[aI 0],[aI 1]],.l [[aI 1,aI 0,aI 0,.nl,.nl],[aI 1,aI 1,aI 0,.nl,.nl]]]] true):=o7
 have p7:=(f7 _ (by omega)).trans p6
 have q7:=(f7 _ (by omega)).trans q6
 have k7:Keep S S7:=((k2.trans k4).trans k6).st (id:=S4.n) (by have:=k2.1;have:=k4.1;omega) n7 f7
 rw[ldN_p (n:=8) p7 rfl,ldN_p (n:=4) q7 rfl,ldN_p (n:=5) o7 rfl]
 refine callF_cv' (args:=[.a [aI 0,.l [[aI 3,aI 0]],.nl,.nl,.nl,.nl,.nl,.nl],.a [aI 13,.v (.string ⟨#[]⟩),aI 0,.l [[aI 2,.v (.string ⟨#[]⟩),aI 0,.nl]]],.a [aI 6,aI 0,aI 1,.l [[aI 0],[aI 1]],.l [[aI 1,aI 0,aI 0,.nl,.nl],[aI 1,aI 1,aI 0,.nl,.nl]]]]) h2 rfl (cv_3 (hci _ _) (hfG _ _) (cv_lp 1)) ?_
 rw[extr0,extr1,ldN_p (n:=8) p7 rfl,bld_of (cs:=[aI 1,.v (.string ⟨#[]⟩),aI 0,.nl]) rfl]
 refine bslA4 rfl ?_
 rw[bld_of (cs:=[aI 14,.v (.string ⟨#[]⟩),aI 0,.l [[aI 1,.v (.string ⟨#[]⟩),aI 0,.nl]]]) rfl,bld_of (cs:=[aI 7,aI 0,aI 0,.nl,.nl]) rfl]
 refine callF_cv' (args:=[.a [aI 0,.l [[aI 3,aI 0]],.nl,.nl,.nl,.nl,.nl,.nl],.a [aI 14,.v (.string ⟨#[]⟩),aI 0,.l [[aI 1,.v (.string ⟨#[]⟩),aI 0,.nl]]],.a [aI 7,aI 0,aI 0,.nl,.nl]]) h3 rfl (cv_3 (hci _ _) (cv_fo1 rfl (cv_fo0 1 0)) (cv_tl 7 0 0)) ?_
 rw[extr0,extr1,ldN_p (n:=4) q7 rfl]
 refine bslA4 rfl ?_
 rw[bld_of (cs:=[aI 4,.v (.string ⟨#[]⟩),aI 0,.l [[aI 13,.v (.string ⟨#[]⟩),aI 0,.l [[aI 2,.v (.string ⟨#[]⟩),aI 0,.nl]]]]]) rfl]
 refine callF_cv' (args:=[.a [aI 4,.v (.string ⟨#[]⟩),aI 0,.l [[aI 13,.v (.string ⟨#[]⟩),aI 0,.l [[aI 2,.v (.string ⟨#[]⟩),aI 0,.nl]]]]]]) h4 rfl (fun k u u2 e1 e2=>?_) ?_
 ·match k with
  |0 =>
   cases e1;cases e2
   refine cv_fo1 rfl fun k u u2 e1 e2=>?_
   have hh:Cv S7 S7.n (.a [aI 13,.v (.string ⟨#[]⟩),aI 0,.l [[aI 2,.v (.string ⟨#[]⟩),aI 0,.nl]]]) foG.av:=hfG _ _
   cases hh with
   |a _ _ hl hR=>exact hR k u u2 e1 e2
  |k+1=>simp at e1
 refine boxA_of rfl fun S8 k8 n8 o8=>?_
 refine stA_of (cs':=(foOne 12 (.mk 1 ⟨#[]⟩ 0 [])).row) o8 (Fo.row_len _) rfl fun S9 n9 o9 f9=>?_
 have k9:=k8.st (Nat.le_refl _) n9 f9
 rw[Fo.row_mk]at o9
 rw[onB_v,gd_T rfl,bin_eql,onB_v,gd_T (decide_eq_true rfl),un_not,onB_v,gd_nF rfl,onB_v,gd_T rfl,bin_eql,onB_v,gd_T (decide_eq_true rfl),shift_p,ld1_p o9 rfl rfl,bin_eql,onB_v,gd_T (decide_eq_true rfl),shift_p,ld1_p o9 rfl rfl,lenS_foL,bin_eql,onB_v,gd_T (decide_eq_true (show(([Fo.mk 1 ⟨#[]⟩ 0 []].length:Nat):Int)=1 from rfl)),shift_p,ld1_p o9 rfl rfl,ixF0]
 have rk:(Fo.mk 1 ⟨#[]⟩ 0 []).row[0]? = some (aI 1):=by rw[Fo.row_mk];rfl
 have sq:∀ K:AV→Store→Prop,shift (.q (Fo.mk 1 ⟨#[]⟩ 0 []).row 0) 0 S9 K=K (.q (Fo.mk 1 ⟨#[]⟩ 0 []).row 0) S9:=fun K=>rfl
 rw[sq,show ∀ K:AV→Store→Prop,ld1 (.q (Fo.mk 1 ⟨#[]⟩ 0 []).row 0) S9 K=K (aI 1) S9 from fun K=>by simp[ld1,rd1,place,rk],bin_eql]
 exact⟨rfl,k7.trans k9⟩
def nextsTo (c:Ci) (s:Int) (k:Nat):List Int:=((List.range k).map fun x:Nat=>afterB c s+(x:Int)).filter (validS c)
def nextsB (c:Ci) (s:Int):List Int:=if validS c s=true then nextsTo c s (2 ^ c.inputs.toNat)else[]
theorem nextsTo_succ(c:Ci)(s:Int)(k:Nat):nextsTo c s (k+1)=nextsTo c s k++(if validS c (afterB c s+(k:Int))=true then[afterB c s+(k:Int)]else[]):=by
 unfold nextsTo
 rw[List.range_succ,List.map_append,List.filter_append]
 congr 1
 simp[List.filter_cons]
theorem nextsTo_len(c:Ci)(s:Int)(k:Nat):(nextsTo c s k).length≤k:=by
 unfold nextsTo
 have:=List.length_filter_le (validS c) ((List.range k).map fun x:Nat=>afterB c s+(x:Int))
 simpa using this
theorem after_rng{c:Ci}(hc:Cs c)(s:Int):0≤afterB c s∧afterB c s≤1152921504606846976:=by
 obtain⟨m,h1,h2,h3,h4,h5⟩:=hc.sum
 unfold afterB
 rw[if_pos (by rw[hc.right,h2];simp;omega)]
 have:=afterTo_le c s c.latches.length
 have h6:=pow_le60 (n:=c.inputs.toNat+c.latches.length) (by omega)
 omega
theorem ans30{c:Ci}(hc:Cs c)(hi:c.inputs≤30)(s:Int):Ans Pg 30 [c.av,aI s] (aL aI (nextsB c s)):=by
 refine ACalls.ans_own (f:=fun n=>.int .i64 n) (e:=3) fun S=>calls30 ?_
 obtain⟨m,h1,h2,h3,h4,h5⟩:=hc.sum
 obtain⟨a0,a1⟩:=after_rng hc s
 unfold m30
 obtain⟨j,hj⟩:=Int.eq_ofNat_of_zero_le h4
 have hj30:j≤30:=by omega
 have hp:2 ^ j≤2 ^ 30:=Nat.pow_le_pow_right (by decide) hj30
 have hp2:(2:Nat) ^ 30=1073741824:=by decide
 refine boxA_of rfl fun S1 k1 n1 o1=>?_
 refine loop30_0 (fun y z S'=>∃ i:Nat,z=aI i∧i≤2 ^ j∧Keep S S'∧S1.n≤S'.n∧S'.obj S.n=some (.cells 42 [c.cells] true)∧(0<i→validS c s=true)∧Own S1.n S' y 3 ((nextsTo c s i).map fun n=>[.v (.int .i64 n)]))
  (fun _ z _=>2 ^ j - ((intA z).getD 0).toNat) ⟨0,rfl,Nat.zero_le _,k1,Nat.le_refl _,o1,(fun h=>by omega),.nl _ _ _⟩ ?_
 rintro y _ S2 ⟨i,rfl,hi,k2,n2,o2,hv,w2⟩ KE hKE
 unfold b30_0
 have hadd:∀(T:Store) (K:AV→Store→Prop),bin .add 0 (aI i) (.v (.int .i64 1)) T K=K (aI (i+1:Nat)) T:=fun T K=>bin_add (by omega) (by omega) 0
 have fin:validS c s=false∨i=2 ^ j→Own S1.n S2 y 3 ((nextsB c s).map fun n=>[.v (.int .i64 n)]):=by
  intro h
  unfold nextsB
  rcases h with h|h
  ·rw[if_neg (by simp[h])]
   have:i=0:=by
    rcases Nat.eq_zero_or_pos i with h0|h0
    ·exact h0
    ·rw[hv h0]at h;cases h
   subst this
   exact w2
  ·cases e:validS c s with
   |true=>rw[if_pos rfl,hj,Int.toNat_natCast,←h];exact w2
   |false =>
    have:i=0:=by
     rcases Nat.eq_zero_or_pos i with h0|h0
     ·exact h0
     ·rw[hv h0]at e;cases e
    have h2:0<2 ^ j:=Nat.pow_pos (by decide)
    omega
 rw[shift_p,ld1_p o2 rfl rfl]
 show bin .shl 0 (.v (.int .i64 1)) (aI c.inputs) _ _
 have hpc:((2:Int) ^ j)=((2 ^ j:Nat):Int):=by rw[Int.natCast_pow];rfl
 rw[hj,bin_shl1 (by omega),hpc,bin_lss,onB_v]
 refine gd_of (fun hlt=>?_) (fun hge=>?_)
 ·have hlt:i<2 ^ j:=by have:=dT hlt;omega
  rw[ldN_p (n:=8) o2 rfl]
  refine callF_ans (ans58 hc s) ?_
  rw[onB_v]
  refine gd_of (fun hvs=>?_) (fun hvs=>⟨_,rfl,k2,(fin (.inl hvs)).low k1.1⟩)
  rw[ldN_p (n:=8) o2 rfl]
  refine callF_ans (ans59 hc.ok s) ?_
  rw[bin_add (by omega) (by omega),ldN_p (n:=8) o2 rfl]
  refine callF_ans (ans58 hc (afterB c s+i)) ?_
  rw[onB_v]
  have hlen:=nextsTo_len c s i
  refine gd_of (fun hvt=>?_) (fun hvt=>?_)
  ·refine bsl1 rfl (fun _ h=>by cases h) ?_
   refine w2.app (c:=[aI (afterB c s+i)]) (by omega) rfl (by simp;omega) (fun z S3 w3 b3 hz=>?_) rfl
   obtain⟨m3,hm3⟩:=hz
   have n3:=b3.1
   have old3:∀ x,x<S1.n→S3.obj x=S2.obj x:=fun x hx=>b3.2 x (by omega) (fun b m e=>by have:=w2.lt e;omega)
   rw[hadd]
   refine hKE _ _ _ ⟨i+1,rfl,hlt,⟨by have:=k2.1;omega,fun x hx=>(old3 x (by omega)).trans (k2.2 x hx)⟩,by omega,(old3 _ (by omega)).trans o2,fun _=>hvs,?_⟩ (by simp[intA];omega)
   rw[nextsTo_succ,if_pos hvt,List.map_append]
   exact w3
  ·rw[hadd]
   refine hKE _ _ _ ⟨i+1,rfl,hlt,k2,n2,o2,fun _=>hvs,?_⟩ (by simp[intA];omega)
   rw[nextsTo_succ,if_neg (by simp[hvt]),List.append_nil]
   exact w2
 ·have hge:i=2 ^ j:=by have:=dF hge;omega
  exact⟨_,rfl,k2,(fin (.inr hge)).low k1.1⟩
theorem nexts_rng{c:Ci}(hc:Cs c)(hi:c.inputs≤30){s x:Int}(h:x∈nextsB c s):0≤x∧x≤1152921505680588800:=by
 obtain⟨a0,a1⟩:=after_rng hc s
 obtain⟨m,h1,h2,h3,h4,h5⟩:=hc.sum
 unfold nextsB at h
 split at h
 ·unfold nextsTo at h
  have h:=(List.mem_filter.1 h).1
  obtain⟨k,hk,rfl⟩:=List.mem_map.1 h
  have hk:=List.mem_range.1 hk
  have hp:2 ^ c.inputs.toNat≤2 ^ 30:=Nat.pow_le_pow_right (by decide) (by omega)
  have hp2:(2:Nat) ^ 30=1073741824:=by decide
  omega
 ·cases h
theorem nexts_len{c:Ci}(hi:c.inputs≤30)(s:Int):(nextsB c s).length≤1073741824:=by
 unfold nextsB
 split
 ·have:=nextsTo_len c s (2 ^ c.inputs.toNat)
  have hp:2 ^ c.inputs.toNat≤2 ^ 30:=Nat.pow_le_pow_right (by decide) (by omega)
  have hp2:(2:Nat) ^ 30=1073741824:=by decide
  omega
 ·simp
structure Gd (c:Ci) (d:Int) (f:Fo):Prop where
 ok:f.ok
 may:f.mayB d=true
 lits:f.litsB c.gr=true
theorem ResV.gd{c:Ci}{f:Fo}(h:ResV c.gr.vars f)(hc:MadeC c):Gd c 7 f:=⟨h.ok,h.may,h.litsC hc⟩
theorem Gd.truth{c:Ci}{d:Int}{f:Fo}(h:Gd c d f)(hd:d≤60)(hc:MadeC c):truthB c f=(semC c f,0):=by
 have hm:mayC c f=true:=by rw[mayC,hc.right,mayB_mono f hd h.may,h.lits];rfl
 rw[truthB,if_neg (by rw[hm];decide),if_pos (by rw[(made_sp hc.right hc.inp.2 hc.lats.2).1])]
theorem made_ok{c:Ci}(hc:MadeC c):SpOk (spOf c):=spOf_ok hc.right (by
 obtain⟨g1,g2,g3⟩:=gr_inp hc.right
 have:=hc.inp
 have:=hc.lats
 omega)
theorem semC_one{c:Ci}(k:Int)(f:Fo)(hk:3<k):semC c (foOne k f)=oneP (spOf c) (egP (spOf c) (spOf c).valid) k (semC c f):=sem_one hk
theorem semC_two{c:Ci}(k:Int)(f g:Fo)(hk:3<k):semC c (foTwo k f g)=twoP (spOf c) (egP (spOf c) (spOf c).valid) k (semC c f) (semC c g):=sem_two hk
theorem orP_comm{s:Sp}{a b:List Bool}(ha:In s a)(hb:In s b):orP a b=orP b a:=(ha.or hb).eq (hb.or ha) fun i _=>by
 rw[bit_or (by rw[ha.len,hb.len]),bit_or (by rw[ha.len,hb.len]),Bool.or_comm]
theorem not_not{s:Sp}{p:List Bool}(h:In s p):notP s (notP s p)=p:=(in_not _ _).eq h fun i hi=>by
 rw[bit_not,bit_not,hi,Bool.true_and,Bool.true_and,Bool.not_not]
theorem not_and{s:Sp}{p q:List Bool}(h:In s p)(k:In s q):notP s (andP p q)=orP (notP s p) (notP s q):=(in_not _ _).eq ((in_not _ _).or (in_not _ _)) fun i hi=>by
 rw[bit_not,bit_and,bit_or (by rw[(in_not s p).len,(in_not s q).len]),bit_not,bit_not,hi]
 cases bit p i<;>cases bit q i<;>rfl
theorem not_nor{s:Sp}{p q:List Bool}(h:In s p)(k:In s q):notP s (orP (notP s p) q)=andP p (notP s q):=(in_not _ _).eq h.and fun i hi=>by
 rw[bit_not,bit_and,bit_or (by rw[(in_not s p).len,k.len]),bit_not,bit_not,hi]
 cases bit p i<;>cases bit q i<;>rfl
theorem not_same{s:Sp}{p q:List Bool}(h:In s p)(k:In s q):notP s (orP (andP p q) (notP s (orP p q)))=orP (andP p (notP s q)) (andP (notP s p) q):=(in_not _ _).eq (h.and.or (in_not _ _).and) fun i hi=>by
 rw[bit_not,bit_or (by rw[h.and.len,(in_not _ _).len]),bit_and,bit_not,bit_or (by rw[h.len,k.len]),bit_or (by rw[h.and.len,(in_not s p).and.len]),bit_and,bit_and,bit_not,bit_not,hi]
 cases bit p i<;>cases bit q i<;>rfl
theorem In.nextP{s:Sp}{fr p:List Bool}(h:In s p):In s (nextP s fr p):=In.ex (by simp[h.len])
theorem In.untilP{s:Sp}{fr p q:List Bool}(h:In s q):In s (untilP s fr p q):=In.eu (by simp[h.len])
section
variable {s:Sp} {fr:List Bool} {at_:Int→List Bool} (ha:∀ l,In s (at_ l))
include ha
theorem sem_push:∀(f:Fo) {d:Int},f.mayB d=true→∀ t,(f.push t).sem s fr at_=if t then notP s (f.sem s fr at_)else f.sem s fr at_:=by
 intro f
 induction f using Fo.ind with
 |h k n l ks ih =>
  intro d hm t
  have hin:=in_sem (s:=s) (fr:=fr) (at_:=at_) ha (.mk k n l ks) d hm
  obtain⟨rfl,hd,hc⟩:=may_cases hm
  rcases hc with⟨hk,rfl,rfl⟩|⟨rfl,rfl,h0⟩|⟨hk,rfl,f,rfl,hfm⟩|⟨hk,rfl,f,g,rfl,hfm,hgm⟩
  ·rw[push_const hk]
   rcases hk with rfl|rfl
   ·cases t with
    |false=>rfl
    |true =>
     rw[if_pos rfl,if_pos rfl,show dualK 1=2 from rfl,sem_true,sem_false,not_not (in_valid s)]
   ·cases t with
    |false=>rfl
    |true =>
     rw[if_pos rfl,if_pos rfl,show dualK 2=1 from rfl,sem_true,sem_false]
  ·rw[push_atom]
   cases t with
   |false=>rfl
   |true =>
    rw[if_pos rfl,if_pos rfl,sem_one (by decide)]
    rfl
  ·have ihf:=fun t=>ih f (by simp) hfm t
   have inf:=in_sem (s:=s) (fr:=fr) (at_:=at_) ha f _ hfm
   by_cases h4:k=4
   ·subst h4
    rw[push_not,ihf,sem_one (by decide)]
    show _=if t=true then notP s (notP s (f.sem s fr at_))else notP s (f.sem s fr at_)
    cases t with
    |false=>rfl
    |true=>rw[if_neg (by decide),if_pos rfl,not_not inf]
   rw[push_one (by omega),show Fo.sem s fr at_ (.mk k ⟨#[]⟩ 0 [f])=oneP s fr k (f.sem s fr at_)from sem_one (by omega)]
   cases t with
   |false =>
    rw[if_neg (by decide),if_neg (by decide),sem_one (by omega),ihf,if_neg (by decide)]
   |true =>
    rw[if_pos rfl,if_pos rfl]
    have hdk:=dual_one (k:=k) (by omega)
    rw[sem_one (by omega),ihf,if_pos rfl]
    generalize f.sem s fr at_=p at *
    have:k=9∨k=10∨k=11∨k=12∨k=13∨k=14:=by omega
    rcases this with rfl|rfl|rfl|rfl|rfl|rfl
    ·show notP s (nextP s fr (notP s (notP s p)))=notP s (nextP s fr p)
     rw[not_not inf]
    ·show nextP s fr (notP s p)=notP s (notP s (nextP s fr (notP s p)))
     rw[not_not (In.nextP (in_not _ _))]
    ·show notP s (untilP s fr s.valid (notP s (notP s p)))=notP s (untilP s fr s.valid p)
     rw[not_not inf]
    ·show egP s (notP s p)=notP s (notP s (egP s (notP s p)))
     rw[not_not (In.eg (in_not s p).len)]
    ·show notP s (egP s (notP s (notP s p)))=notP s (egP s p)
     rw[not_not inf]
    ·show untilP s fr s.valid (notP s p)=notP s (notP s (untilP s fr s.valid (notP s p)))
     rw[not_not (In.untilP (in_not _ _))]
  ·have ihf:=fun t=>ih f (by simp) hfm t
   have ihg:=fun t=>ih g (by simp) hgm t
   have inf:=in_sem (s:=s) (fr:=fr) (at_:=at_) ha f _ hfm
   have ing:=in_sem (s:=s) (fr:=fr) (at_:=at_) ha g _ hgm
   by_cases h7:k=7
   ·subst h7
    rw[push_imp,sem_two (by decide)]
    show _=if t=true then notP s (orP (notP s (f.sem s fr at_)) (g.sem s fr at_))else orP (notP s (f.sem s fr at_)) (g.sem s fr at_)
    cases t with
    |false =>
     rw[if_neg (by decide),if_neg (by decide),sem_two (by decide),ihf,ihg]
     rfl
    |true =>
     rw[if_pos rfl,if_pos rfl,sem_two (by decide),ihf,ihg,not_nor inf ing]
     rfl
   by_cases h8:k=8
   ·subst h8
    rw[push_same,sem_two (by decide),sem_two (by decide),sem_two (by decide),sem_two (by decide),ihf,ihf,ihg,ihg]
    show orP (andP (f.sem s fr at_) (if t=true then notP s (g.sem s fr at_)else g.sem s fr at_)) (andP (notP s (f.sem s fr at_)) (if(!t)=true then notP s (g.sem s fr at_)else g.sem s fr at_))=if t=true then notP s (orP (andP (f.sem s fr at_) (g.sem s fr at_)) (notP s (orP (f.sem s fr at_) (g.sem s fr at_))))else orP (andP (f.sem s fr at_) (g.sem s fr at_)) (notP s (orP (f.sem s fr at_) (g.sem s fr at_)))
    cases t with
    |false =>
     rw[if_neg (by decide),if_pos (show(!false)=true from rfl),if_neg (by decide),not_or inf ing]
    |true =>
     rw[if_pos rfl,if_neg (show ¬ (!true)=true by decide),if_pos rfl,not_same inf ing]
   rw[push_two (by omega),show Fo.sem s fr at_ (.mk k ⟨#[]⟩ 0 [f,g])=twoP s fr k (f.sem s fr at_) (g.sem s fr at_)from sem_two (by omega)]
   cases t with
   |false =>
    rw[if_neg (by decide),if_neg (by decide),sem_two (by omega),ihf,ihg,if_neg (by decide),if_neg (by decide)]
   |true =>
    rw[if_pos rfl,if_pos rfl]
    have hdk:=dual_two (k:=k) (by omega)
    rw[sem_two (by omega),ihf,ihg,if_pos rfl,if_pos rfl]
    generalize f.sem s fr at_=p at *
    generalize g.sem s fr at_=q at *
    have:k=5∨k=6∨k=15∨k=16∨k=17∨k=18:=by omega
    rcases this with rfl|rfl|rfl|rfl|rfl|rfl
    ·show orP (notP s p) (notP s q)=notP s (andP p q)
     rw[not_and inf ing]
    ·show andP (notP s p) (notP s q)=notP s (orP p q)
     rw[not_or inf ing]
    ·show notP s (untilP s fr (notP s (notP s p)) (notP s (notP s q)))=notP s (untilP s fr p q)
     rw[not_not inf,not_not ing]
    ·show orP (egP s (notP s q)) (untilP s fr (notP s q) (andP (notP s p) (notP s q)))=notP s (notP s (orP (untilP s fr (notP s q) (notP s (orP p q))) (egP s (notP s q))))
     rw[not_or inf ing,not_not ((In.untilP (in_not _ _)).or (In.eg (in_not s q).len)),orP_comm (s:=s) (In.eg (in_not s q).len) (In.untilP (in_not _ _))]
    ·show notP s (orP (untilP s fr (notP s (notP s q)) (notP s (orP (notP s p) (notP s q)))) (egP s (notP s (notP s q))))=notP s (orP (egP s q) (untilP s fr q (andP p q)))
     rw[not_not ing,not_nor inf (in_not _ _),not_not ing,orP_comm (s:=s) (In.eg ing.len) (In.untilP inf.and)]
    ·show untilP s fr (notP s p) (notP s q)=notP s (notP s (untilP s fr (notP s p) (notP s q)))
     rw[not_not (In.untilP (in_not _ _))]
end
theorem may_push:∀(f:Fo) {d:Int},f.mayB d=true→∀ t,(f.push t).mayB (2*d)=true:=by
 have one:∀{k d:Int} {f:Fo},(k=4∨9≤k∧k≤14)→f.mayB (d - 1)=true→0<d→(foOne k f).mayB d=true:=fun{k d f} hk hf hd=>by
  rw[Fo.mayB_mk]
  simp only[Bool.and_eq_true,decide_eq_true_eq,List.all_cons,List.all_nil,Bool.and_true]
  refine⟨hd,by simp,trivial,?_,hf⟩
  unfold kidsN
  rw[if_neg (by omega),if_neg (by omega),if_pos hk];rfl
 have two:∀{k d:Int} {f g:Fo},(5≤k∧k≤8∨15≤k∧k≤18)→f.mayB (d - 1)=true→g.mayB (d - 1)=true→0<d→(foTwo k f g).mayB d=true:=fun{k d f g} hk hf hg hd=>by
  rw[Fo.mayB_mk]
  simp only[Bool.and_eq_true,decide_eq_true_eq,List.all_cons,List.all_nil,Bool.and_true]
  refine⟨hd,by simp,trivial,?_,hf,hg⟩
  unfold kidsN
  rw[if_neg (by omega),if_neg (by omega),if_neg (by omega)];rfl
 intro f
 induction f using Fo.ind with
 |h k n l ks ih =>
  intro d hm t
  have hm0:=hm
  obtain⟨rfl,hd,hc⟩:=may_cases hm
  rcases hc with⟨hk,rfl,rfl⟩|⟨rfl,rfl,h0⟩|⟨hk,rfl,f,rfl,hfm⟩|⟨hk,rfl,f,g,rfl,hfm,hgm⟩
  ·rw[push_const hk,Fo.mayB_mk]
   simp only[Bool.and_eq_true,decide_eq_true_eq,List.all_nil,Bool.and_true]
   refine⟨by omega,by simp,trivial,?_⟩
   rcases hk with rfl|rfl<;>cases t<;>rfl
  ·rw[push_atom]
   cases t with
   |false=>exact mayB_mono _ (by omega) hm0
   |true=>exact one (.inl rfl) (mayB_mono _ (by omega) hm0) (by omega)
  ·have hf:=fun t=>ih f (by simp) hfm t
   by_cases h4:k=4
   ·subst h4
    rw[push_not]
    exact mayB_mono _ (by omega) (hf _)
   rw[push_one (by omega)]
   refine one ?_ (mayB_mono _ (by omega) (hf _)) (by omega)
   have:=dual_one (k:=k) (by omega)
   split<;>omega
  ·have hf:=fun t=>ih f (by simp) hfm t
   have hg:=fun t=>ih g (by simp) hgm t
   by_cases h7:k=7
   ·subst h7
    rw[push_imp]
    split<;>exact two (by omega) (mayB_mono _ (by omega) (hf _)) (mayB_mono _ (by omega) (hg _)) (by omega)
   by_cases h8:k=8
   ·subst h8
    rw[push_same]
    exact two (by omega) (two (by omega) (mayB_mono _ (by omega) (hf _)) (mayB_mono _ (by omega) (hg _)) (by omega)) (two (by omega) (mayB_mono _ (by omega) (hf _)) (mayB_mono _ (by omega) (hg _)) (by omega)) (by omega)
   rw[push_two (by omega)]
   refine two ?_ (mayB_mono _ (by omega) (hf _)) (mayB_mono _ (by omega) (hg _)) (by omega)
   have:=dual_two (k:=k) (by omega)
   split<;>omega
theorem lits_push{gr:Gr}:∀(f:Fo) {d:Int},f.mayB d=true→f.litsB gr=true→∀ t,(f.push t).litsB gr=true:=by
 have one:∀{k:Int} {f:Fo},k≠3→f.litsB gr=true→(foOne k f).litsB gr=true:=fun{k f} hk hf=>by
  rw[Fo.litsB_mk]
  simp only[List.all_cons,List.all_nil,Bool.and_true,hf,decide_eq_true hk,Bool.true_or]
 have two:∀{k:Int} {f g:Fo},k≠3→f.litsB gr=true→g.litsB gr=true→(foTwo k f g).litsB gr=true:=fun{k f g} hk hf hg=>by
  rw[Fo.litsB_mk]
  simp only[List.all_cons,List.all_nil,Bool.and_true,hf,hg,decide_eq_true hk,Bool.true_or]
 intro f
 induction f using Fo.ind with
 |h k n l ks ih =>
  intro d hm hl t
  have hl0:=hl
  have hkl:∀ f∈ks,f.litsB gr=true:=by
   rw[Fo.litsB_mk,Bool.and_eq_true,List.all_eq_true]at hl
   exact hl.2
  obtain⟨rfl,hd,hc⟩:=may_cases hm
  rcases hc with⟨hk,rfl,rfl⟩|⟨rfl,rfl,h0⟩|⟨hk,rfl,f,rfl,hfm⟩|⟨hk,rfl,f,g,rfl,hfm,hgm⟩
  ·rw[push_const hk,Fo.litsB_mk]
   simp only[List.all_nil,Bool.and_true]
   rw[Bool.or_eq_true]
   refine .inl (decide_eq_true ?_)
   rcases hk with rfl|rfl<;>cases t<;>decide
  ·rw[push_atom]
   cases t with
   |false=>exact hl0
   |true=>exact one (by decide) hl0
  ·have hf:=fun t=>ih f (by simp) hfm (hkl f (by simp)) t
   by_cases h4:k=4
   ·subst h4
    rw[push_not]
    exact hf _
   rw[push_one (by omega)]
   refine one ?_ (hf _)
   have:=dual_one (k:=k) (by omega)
   split<;>omega
  ·have hf:=fun t=>ih f (by simp) hfm (hkl f (by simp)) t
   have hg:=fun t=>ih g (by simp) hgm (hkl g (by simp)) t
   by_cases h7:k=7
   ·subst h7
    rw[push_imp]
    split<;>exact two (by decide) (hf _) (hg _)
   by_cases h8:k=8
   ·subst h8
    rw[push_same]
    exact two (by decide) (two (by decide) (hf _) (hg _)) (two (by decide) (hf _) (hg _))
   rw[push_two (by omega)]
   refine two ?_ (hf _) (hg _)
   have:=dual_two (k:=k) (by omega)
   split<;>omega
theorem Gd.push{c:Ci}{d:Int}{f:Fo}(h:Gd c d f)(t:Bool):Gd c (2*d) (f.push t):=⟨(push_pu f h.ok h.may t).ok,may_push f h.may t,lits_push f h.may h.lits t⟩
theorem semC_push{c:Ci}{d:Int}{f:Fo}(h:Gd c d f):semC c (f.push false)=semC c f:=sem_push (fun l=>in_each _ _) f h.may false
section
set_option maxRecDepth 100000
end
set_option linter.unusedSectionVars false
section
variable {s:Sp} (hs:SpOk s)
include hs
theorem ex_at{p:List Bool}(hp:p.length=s.valid.length){i:Nat}:bit (exP s p) i=true↔bit s.valid i=true∧∃ k∈nx s i,bit p k.toNat=true:=by
 rw[bit_ex]
 refine⟨fun h=>h.2,fun h=>⟨?_,h⟩⟩
 have:=bit_lt h.1
 omega
theorem eu_at{p q:List Bool}(hq:q.length=s.valid.length){i:Nat}:bit (euP s p q) i=true↔Reach s p q i:=by
 rw[bit_eu]
 refine⟨fun h=>h.2,fun h=>⟨?_,h⟩⟩
 have:=bit_lt (reach_valid h)
 omega
end
set_option linter.unusedSectionVars false
set_option linter.unusedSectionVars false
section
variable {P:AV→Prop} {S0:Store} {A:AV→Prop}
end
section
set_option maxRecDepth 100000
end
set_option linter.unusedSectionVars false
set_option linter.unusedSectionVars false
section
variable {s:Sp} {p q:List Bool}
end
mutual
def Tn.nodes:Tn→Nat
 |.mk _ _ _ _ ks=>1+Tn.nodesL ks
def Tn.nodesL:List Tn→Nat
 |[]=>0
 |t :: ts=>Tn.nodes t+Tn.nodesL ts
end
theorem nodesL_mem:∀{l:List Tn} {t:Tn},t∈l→t.nodes≤Tn.nodesL l
 |t0 :: ts,t,h=>by
  rw[Tn.nodesL]
  rcases List.mem_cons.1 h with rfl|h
  ·omega
  ·have:=nodesL_mem h
   omega
def AllOk(c:Ci):List Tn→List Fo→List Int→Prop
 |[],[],[]=>True
 |t :: ts,f :: fs,s :: ss=>t.acc c f=(0,true)∧t.st=s∧AllOk c ts fs ss
 |_,_,_=>False
theorem allOk_get{c:Ci}:∀{ts:List Tn} {fs:List Fo} {ss:List Int},AllOk c ts fs ss→∀ i (hf:i<fs.length),∃ t∈ts,∃ hs:i<ss.length,t.acc c fs[i]=(0,true)∧t.st=ss[i]
 |[],[],[],_,i,hf=>by simp at hf
 |t :: ts,f :: fs,s :: ss,h,0,hf=>⟨t,by simp,by simp,h.1,h.2.1⟩
 |t :: ts,f :: fs,s :: ss,h,i+1,hf=>by
  obtain⟨u,hu,hs,h1,h2⟩:=allOk_get h.2.2 i (by simpa using hf)
  exact⟨u,by simp[hu],by simpa using hs,h1,h2⟩
 |[],[],_ :: _,h,_,_=>h.elim
 |[],_ :: _,_,h,_,_=>h.elim
 |_ :: _,[],_,h,_,_=>by simp[AllOk]at h
 |_ :: _,_ :: _,[],h,_,_=>by simp[AllOk]at h
theorem accs_cnt{c:Ci}:∀(ts:List Tn),(∀ t∈ts,∀ f,(t.acc c f).2=true→0≤(t.acc c f).1∧(t.acc c f).1≤t.nodes)→∀(fs:List Fo) (ss:List Int) (n:Int),0≤n→n+Tn.nodesL ts≤1099511627776→(Tn.accs c ts fs ss n).2=true→
    n≤(Tn.accs c ts fs ss n).1∧(Tn.accs c ts fs ss n).1≤n+Tn.nodesL ts∧((Tn.accs c ts fs ss n).1=n→AllOk c ts fs ss):=by
 intro ts
 induction ts with
 |nil =>
  intro _ fs ss n h0 hn h
  cases fs<;>cases ss<;>simp[Tn.accs,Tn.nodesL,AllOk]at h ⊢
 |cons t ts ih =>
  intro hk fs ss n h0 hn h
  cases fs with
  |nil=>cases ss<;>simp[Tn.accs]at h
  |cons f fs =>
   cases ss with
   |nil=>simp[Tn.accs]at h
   |cons s ss =>
    rw[Tn.nodesL]at hn ⊢
    rw[accs_cons]at h ⊢
    split at h
    ·rename_i hc
     rw[if_pos hc]
     rw[Bool.and_eq_true,decide_eq_true_eq]at hc
     obtain⟨h1,h2⟩:=hk t (by simp) f hc.1
     have hw:IntKind.i64.wrap (n+(t.acc c f).1)=n+(t.acc c f).1:=wrap64 (by omega) (by omega)
     rw[hw]at h ⊢
     obtain⟨h3,h4,h5⟩:=ih (fun u hu=>hk u (by simp[hu])) fs ss _ (by omega) (by omega) h
     refine⟨by omega,by omega,fun he=>?_⟩
     have hz:(t.acc c f).1=0:=by omega
     rw[hz,Int.add_zero]at h5 h3 he
     exact⟨Prod.ext hz hc.1,hc.2,h5 he⟩
    ·cases h
theorem acc_cnt(c:Ci):∀(t:Tn),t.nodes≤1099511627776→∀ f,(t.acc c f).2=true→0≤(t.acc c f).1∧(t.acc c f).1≤t.nodes:=by
 intro t
 induction t using Tn.ind with
 |h tk s a ss ks ih =>
  intro hn f h
  rw[Tn.nodes]at hn ⊢
  rw[acc_mk]at h ⊢
  have hp:=plan_01 c f tk s a ss (ks.map Tn.st)
  generalize planA c f tk s a ss (ks.map Tn.st)=x at h hp ⊢
  cases x with
  |inl r =>
   have hp:r.1=0∨r.1=1:=hp
   show 0≤r.1∧r.1≤_
   omega
  |inr p =>
   have h:(Tn.accs c ks p.1 p.2 0).2=true:=h
   show 0≤(Tn.accs c ks p.1 p.2 0).1∧(Tn.accs c ks p.1 p.2 0).1≤_
   obtain⟨h1,h2,_⟩:=accs_cnt ks (fun t ht=>ih t ht (by have:=nodesL_mem ht;omega)) p.1 p.2 0 (Int.le_refl _) (by omega) h
   omega
section
variable {s:Sp} (hs:SpOk s)
include hs
theorem lasso{p:List Bool}(hp:p.length=s.valid.length)(w:Nat→Nat){n a:Nat}(ha:a<n)(hv:∀ i,i<n→bit s.valid (w i)=true)(hpw:∀ i,i<n→bit p (w i)=true)(hch:∀ i,i+1<n→(w (i+1):Int)∈nx s (w i))(hback:(w a:Int)∈nx s (w (n - 1)))
    (hf:∀ f∈fairL s,∃ j,a≤j∧j<n∧bit f (w j)=true):∀ i,i<n→bit (egP s p) (w i)=true:=by
 intro i0 hi0
 let z:List Bool:=tab p.length fun x=>(List.range n).any fun i=>decide (w i=x)
 have hz:∀ x,bit z x=true↔∃ i,i<n∧w i=x:=fun x=>by
  constructor
  ·intro h
   have hx:x<p.length:=by simpa[z]using bit_lt h
   rw[bit_tab hx,List.any_eq_true]at h
   obtain⟨i,h1,h2⟩:=h
   exact⟨i,List.mem_range.1 h1,dT h2⟩
  ·rintro⟨i,h1,rfl⟩
   have hx:w i<p.length:=bit_lt (hpw i h1)
   rw[bit_tab hx,List.any_eq_true]
   exact⟨i,List.mem_range.2 h1,decide_eq_true rfl⟩
 refine bit_eg.2 ⟨z,by simp[z],fun x hx=>?_,fun f hff x hx=>?_,(hz _).2 ⟨i0,hi0,rfl⟩⟩
 ·obtain⟨i,h1,rfl⟩:=(hz x).1 hx
  rw[bit_and,hpw i h1,hv i h1];rfl
 ·obtain⟨j,hj1,hj2,hj3⟩:=hf f hff
  have hzi:∀ i,i<n→bit z (w i)=true:=fun i hi=>(hz _).2 ⟨i,hi,rfl⟩
  have down:∀ m,m<n→Reach s z (andP z f) (w m)→∀ k,k≤m→Reach s z (andP z f) (w (m - k)):=fun m hm h k=>by
   induction k with
   |zero=>intro _;exact h
   |succ k ih =>
    intro hk
    have h1:=ih (by omega)
    have h2:=hch (m - (k+1)) (by omega)
    rw[show m - (k+1)+1=m - k by omega]at h2
    exact .step _ (w (m - k)) (hzi _ (by omega)) (hv _ (by omega)) h2 h1
  have rj:Reach s z (andP z f) (w j):=.base _ (by rw[bit_and,hzi j hj2,hj3];rfl) (hv j hj2)
  have ra:Reach s z (andP z f) (w a):=by
   have:=down j hj2 rj (j - a) (by omega)
   rwa [show j - (j - a)=a by omega]at this
  have rn:Reach s z (andP z f) (w (n - 1)):=.step _ (w a) (hzi _ (by omega)) (hv _ (by omega)) hback ra
  have rall:∀ i,i<n→Reach s z (andP z f) (w i):=fun i hi=>by
   have:=down (n - 1) (by omega) rn (n - 1 - i) (by omega)
   rwa [show n - 1 - (n - 1 - i)=i by omega]at this
  obtain⟨i,h1,rfl⟩:=(hz x).1 hx
  have hzl:z.length=s.valid.length:=by simp[z,hp]
  rw[stepP,bit_and,hx,Bool.true_and,ex_at hs (by simp[hzl])]
  refine⟨hv i h1,?_⟩
  by_cases hlast:i+1<n
  ·exact⟨_,hch i hlast,by rw[Int.toNat_natCast,eu_at hs (by simp[hzl])];exact rall _ hlast⟩
  ·have:i=n - 1:=by omega
   subst this
   exact⟨_,hback,by rw[Int.toNat_natCast,eu_at hs (by simp[hzl])];exact ra⟩
omit hs
theorem path_reach{p q:List Bool}(w:Nat→Nat)(n:Nat)(hv:∀ i,i≤n→bit s.valid (w i)=true)(hpw:∀ i,i<n→bit p (w i)=true)(hq:bit q (w n)=true)(hch:∀ i,i<n→(w (i+1):Int)∈nx s (w i)):Reach s p q (w 0):=by
 have:∀ k,k≤n→Reach s p q (w (n - k)):=fun k=>by
  induction k with
  |zero=>intro _;exact .base _ hq (hv n (Nat.le_refl _))
  |succ k ih =>
   intro hk
   have h1:=ih (by omega)
   have h2:=hch (n - (k+1)) (by omega)
   rw[show n - (k+1)+1=n - k by omega]at h2
   exact .step _ (w (n - k)) (hpw _ (by omega)) (hv _ (by omega)) h2 h1
 have h:=this n (Nat.le_refl _)
 rwa [Nat.sub_self]at h
end
section
variable {c:Ci} (hc:MadeC c)
include hc
theorem made_in:∃ m:Nat,c.gr.inputs=m∧m≤6∧c.inputs.toNat+c.latches.length=m:=by
 obtain⟨g1,g2,g3⟩:=gr_inp hc.right
 have:=hc.inp
 have:=hc.lats
 exact⟨c.inputs.toNat+c.latches.length,by omega,by omega,rfl⟩
theorem valid_bit{s:Int}(h:validS c s=true):0≤s∧s.toNat<2 ^ c.gr.inputs.toNat∧bit (spOf c).valid s.toNat=true:=by
 obtain⟨m,h1,h2,h3⟩:=made_in hc
 unfold validS at h
 rw[Bool.and_eq_true,Bool.and_eq_true,decide_eq_true_eq,decide_eq_true_eq]at h
 obtain⟨h4,h5,h6⟩:=h
 have hlt:s.toNat<2 ^ c.gr.inputs.toNat:=by
  have:((2:Int) ^ c.gr.inputs.toNat)=((2 ^ c.gr.inputs.toNat:Nat):Int):=pow_cast _
  omega
 refine⟨h4,hlt,?_⟩
 have hl:c.cons.all c.gr.lit=true:=by
  obtain⟨_,_,_,_,_,_,_,_,_,_,hcc,_⟩:=right_c.1 hc.right
  exact hcc
 have:=valid_eq hc.right (by omega) hlt hl
 rw[Int.toNat_of_nonneg h4]at this
 show(validOf c).getD s.toNat false=true
 unfold validOf
 rw[List.getD_eq_getElem?_getD,List.getElem?_map,List.getElem?_range hlt]
 show c.cons.all (litB ((valsOf c).getD s.toNat []))=true
 rw[←this]
 exact h6
theorem behind_nx{s t:Int}(h:behindS c s t=true):validS c s=true∧validS c t=true∧(((t.toNat:Nat)):Int)∈nx (spOf c) s.toNat:=by
 obtain⟨m,h1,h2,h3⟩:=made_in hc
 have hin:=hc.inp
 unfold behindS at h
 rw[Bool.and_eq_true,Bool.and_eq_true,decide_eq_true_eq]at h
 obtain⟨hs,ht,hb⟩:=h
 refine⟨hs,ht,?_⟩
 obtain⟨s0,s1,s2⟩:=valid_bit hc hs
 obtain⟨t0,t1,t2⟩:=valid_bit hc ht
 have haf:=afterB_eq hc.right (by omega) (s:=s.toNat) s1
 rw[Int.toNat_of_nonneg s0]at haf
 obtain⟨q,hq1,hq2⟩:=afterV_div c ((valsOf c).getD s.toNat []) c.latches.length
 have hmin:min c.inputs.toNat 64=c.inputs.toNat:=by omega
 rw[hmin,haf,hq2,←Int.toNat_of_nonneg t0,fdivN,fdivN,Nat.mul_div_cancel_left _ (Nat.two_pow_pos _)]at hb
 have hb:q=t.toNat / 2 ^ c.inputs.toNat:=Int.ofNat_inj.1 hb
 have hx:t.toNat=2 ^ c.inputs.toNat*q+t.toNat % 2 ^ c.inputs.toNat:=by rw[hb];exact(Nat.div_add_mod _ _).symm
 have hxl:t.toNat % 2 ^ c.inputs.toNat<2 ^ c.inputs.toNat:=Nat.mod_lt _ (Nat.two_pow_pos _)
 have hsv:(validOf c).getD s.toNat false=true:=s2
 have htv:(validOf c).getD t.toNat false=true:=t2
 have hnx:nx (spOf c) s.toNat=nextL c ((valsOf c).getD s.toNat []) (validOf c):=by
  show((spOf c).next).getD s.toNat []=_
  rw[List.getD_eq_getElem?_getD]
  show(((List.range (2 ^ c.gr.inputs.toNat)).map fun s:Nat=>if(validOf c).getD s false=true then nextL c ((valsOf c).getD s []) (validOf c)else[])[s.toNat]?).getD []=_
  rw[List.getElem?_map,List.getElem?_range s1]
  show(if(validOf c).getD s.toNat false=true then nextL c ((valsOf c).getD s.toNat []) (validOf c)else[])=_
  rw[if_pos hsv]
 rw[hnx]
 unfold nextL
 rw[hq2]
 refine List.mem_map.2 ⟨t.toNat % 2 ^ c.inputs.toNat,List.mem_filter.2 ⟨List.mem_range.2 hxl,?_⟩,?_⟩
 ·rw[Int.toNat_natCast,←hx];exact htv
 ·omega
theorem fair_bit{f:List Bool}(hf:f∈fairL (spOf c)):f=(spOf c).valid∨∃ l∈c.fair,∀ s:Int,validS c s=true→isB c s l=true→bit f s.toNat=true:=by
 unfold fairL at hf
 split at hf
 ·exact .inl (List.mem_singleton.1 hf)
 ·right
  have hf:f∈c.fair.map fun l=>(List.range (2 ^ c.gr.inputs.toNat)).map fun s:Nat=>(validOf c).getD s false && litB ((valsOf c).getD s []) l:=hf
  obtain⟨l,hl,rfl⟩:=List.mem_map.1 hf
  refine⟨l,hl,fun s hv hi=>?_⟩
  obtain⟨m,h1,h2,h3⟩:=made_in hc
  obtain⟨s0,s1,s2⟩:=valid_bit hc hv
  have hff:c.fair.all c.gr.lit=true:=by
   obtain⟨_,_,_,_,_,_,_,_,_,_,_,hff,_⟩:=right_c.1 hc.right
   exact hff
  have hlit:=List.all_eq_true.1 hff l hl
  have e:=isB_eq hc.right (by omega) s1 hlit
  rw[Int.toNat_of_nonneg s0]at e
  show List.getD _ _ _=true
  rw[List.getD_eq_getElem?_getD,List.getElem?_map,List.getElem?_range s1]
  show((validOf c).getD s.toNat false && litB ((valsOf c).getD s.toNat []) l)=true
  rw[←e,hi,Bool.and_true]
  exact s2
end
section
variable {c:Ci} (hc:MadeC c)
include hc
omit hc in
theorem pu_in{f:Fo}(h:Pu f):In (spOf c) (semC c f):=by
 induction h with
 |c k hk =>
  rcases hk with rfl|rfl
  ·rw[semC,sem_false];exact in_not _ _
  ·rw[semC,sem_true];exact in_valid _
 |a l h0 hl=>rw[semC,sem_atom];exact in_each _ _
 |n l h0 hl=>rw[semC,sem_one (by decide),sem_atom];exact in_one (in_each _ _) _
 |o k f hk h ih=>rw[semC_one k f (by omega)];exact in_one ih _
 |t k f g hk h h2 ih ih2=>rw[semC_two k f g (by omega)];exact in_two ih ih2 _
omit hc in
theorem semC_G:semC c foG=egP (spOf c) (spOf c).valid:=by
 rw[semC_one 13 fo2 (by decide)]
 show egP _ (semC c fo2)=_
 rw[semC,sem_true]
omit hc in
theorem semC_2:semC c fo2=(spOf c).valid:=by rw[semC,sem_true]
theorem chain_at{ss:List Int}(h:chainS c ss=true){i:Nat}(hi:i+1<ss.length):behindS c (ss.getD i 0) (ss.getD (i+1) 0)=true:=by
 unfold chainS at h
 exact List.all_eq_true.1 h i (List.mem_range.2 (by omega))
theorem chain_valid{ss:List Int}(h:chainS c ss=true)(h0:validS c (ss.getD 0 0)=true){i:Nat}(hi:i<ss.length):validS c (ss.getD i 0)=true:=by
 cases i with
 |zero=>exact h0
 |succ i=>exact(behind_nx hc (chain_at hc h hi)).2.1
theorem sound_path{f0 f1:Fo}{s:Int}{ss:List Int}(h0:Pu f0)(h1:Pu f1)(hv:validS c s=true)(hne:ss≠[])(hd:ss.getD 0 0=s)(hch:chainS c ss=true)
    (hkey:∀ i (hf:i<(List.replicate (ss.length - 1) f0 ++ [f1,foG]).length),∃ hs:i<(ss ++ [ss.getD (ss.length - 1) 0]).length,bit (semC c (List.replicate (ss.length - 1) f0 ++ [f1,foG])[i]) ((ss ++ [ss.getD (ss.length - 1) 0])[i]).toNat=true):
    bit (untilP (spOf c) (egP (spOf c) (spOf c).valid) (semC c f0) (semC c f1)) s.toNat=true:=by
 have hs:=made_ok hc
 have hpos:0<ss.length:=List.length_pos_iff.2 hne
 have hg:∀ i,i<ss.length→(ss ++ [ss.getD (ss.length - 1) 0]).getD i 0=ss.getD i 0:=fun i hi=>by
  rw[List.getD_eq_getElem?_getD,List.getElem?_append_left hi,←List.getD_eq_getElem?_getD]
 have hk:∀ i (f:Fo),(List.replicate (ss.length - 1) f0 ++ [f1,foG])[i]? = some f→bit (semC c f) (((ss ++ [ss.getD (ss.length - 1) 0]).getD i 0)).toNat=true:=fun i f hf=>by
  obtain⟨hlt,he⟩:=List.getElem?_eq_some_iff.1 hf
  obtain⟨hs2,h2⟩:=hkey i hlt
  rw[he]at h2
  rw[List.getD_eq_getElem?_getD,List.getElem?_eq_getElem hs2]
  exact h2
 rw[untilP,eu_at hs (by rw[andP_len,(pu_in h1).len])]
 rw[←hd]
 have hi1:=pu_in (c:=c) h1
 refine path_reach (fun i=>(ss.getD i 0).toNat) (ss.length - 1) (fun i hi=>?_) (fun i hi=>?_) ?_ (fun i hi=>?_)
 ·exact(valid_bit hc (chain_valid hc hch (by rw[hd];exact hv) (by omega))).2.2
 ·have:=hk i f0 (by rw[List.getElem?_append_left (by simpa using hi),List.getElem?_replicate,if_pos hi])
  rwa [hg i (by omega)]at this
 ·have e1:=hk (ss.length - 1) f1 (by rw[List.getElem?_append_right (by simp)];simp)
  have e2:=hk ss.length foG (by rw[List.getElem?_append_right (by simp)];simp;rw[show ss.length - (ss.length - 1)=1 by omega];rfl)
  rw[hg _ (by omega)]at e1
  rw[List.getD_eq_getElem?_getD,List.getElem?_append_right (Nat.le_refl _),Nat.sub_self]at e2
  have e2:bit (semC c foG) ((ss.getD (ss.length - 1) 0)).toNat=true:=e2
  rw[semC_G]at e2
  rw[bit_and,e1,e2];rfl
 ·have:=(behind_nx hc (chain_at hc hch (i:=i) (by omega))).2.2
  exact this
theorem sound_loop{f0:Fo}{s:Int}{ss:List Int}{a:Nat}(h0:Pu f0)(hv:validS c s=true)(hne:ss≠[])(hd:ss.getD 0 0=s)(ha:a<ss.length)(hb:behindS c (ss.getD (ss.length - 1) 0) (ss.getD a 0)=true)(hch:chainS c ss=true)(hm:metS c (ss.drop a)=true)
    (hkey:∀ i (hf:i<(List.replicate ss.length f0).length),∃ hs:i<ss.length,bit (semC c (List.replicate ss.length f0)[i]) (ss[i]).toNat=true):
    bit (egP (spOf c) (semC c f0)) s.toNat=true:=by
 have hs:=made_ok hc
 have hpos:0<ss.length:=List.length_pos_iff.2 hne
 have hval:∀ i,i<ss.length→validS c (ss.getD i 0)=true:=fun i hi=>chain_valid hc hch (by rw[hd];exact hv) hi
 have:=lasso hs (pu_in (c:=c) h0).len (fun i=>(ss.getD i 0).toNat) ha (fun i hi=>(valid_bit hc (hval i hi)).2.2) (fun i hi=>?_) (fun i hi=>(behind_nx hc (chain_at hc hch hi)).2.2) (behind_nx hc hb).2.2 (fun f hf=>?_) 0 hpos
 ·rw[←hd];exact this
 ·obtain⟨hs2,h2⟩:=hkey i (by simpa using hi)
  rw[List.getElem_replicate]at h2
  show bit _ (ss.getD i 0).toNat=true
  rw[List.getD_eq_getElem?_getD,List.getElem?_eq_getElem hs2]
  exact h2
 ·rcases fair_bit hc hf with rfl|⟨l,hl,hb⟩
  ·exact⟨a,Nat.le_refl _,ha,(valid_bit hc (hval a ha)).2.2⟩
  ·unfold metS at hm
   have:=List.all_eq_true.1 hm l hl
   rw[List.any_eq_true]at this
   obtain⟨x,hx,hxl⟩:=this
   obtain⟨j,hj,rfl⟩:=List.getElem_of_mem hx
   have hj2:a+j<ss.length:=by rw[List.length_drop]at hj;omega
   have e:ss.getD (a+j) 0=(ss.drop a)[j]:=by rw[List.getElem_drop,List.getD_eq_getElem?_getD,List.getElem?_eq_getElem hj2];rfl
   refine⟨a+j,by omega,hj2,?_⟩
   show bit f (ss.getD (a+j) 0).toNat=true
   exact hb _ (hval _ hj2) (by rw[e];exact hxl)
theorem sound:∀(t:Tn),t.nodes≤1099511627776→∀ f,Pu f→t.acc c f=(0,true)→validS c t.st=true∧bit (semC c f) t.st.toNat=true:=by
 have hs:=made_ok hc
 intro t
 induction t using Tn.ind with
 |h tk s a ss ks ih =>
  intro hn f hf h
  rw[Tn.nodes]at hn
  have hv:validS c s=true:=by
   cases hv:validS c s with
   |true=>rfl
   |false=>rw[acc_inv _ hv]at h;cases h
  refine⟨hv,?_⟩
  show bit (semC c f) s.toNat=true
  obtain⟨v0,v1,v2⟩:=valid_bit hc hv
  have key:∀(fs:List Fo) (sts:List Int),(∀ f∈fs,Pu f)→Tn.accs c ks fs sts 0=(0,true)→∀ i (hf:i<fs.length),∃ hs:i<sts.length,bit (semC c fs[i]) (sts[i]).toNat=true:=fun fs sts hfs ha i hi=>by
   obtain⟨_,_,h3⟩:=accs_cnt ks (fun t ht=>acc_cnt c t (by have:=nodesL_mem ht;omega)) fs sts 0 (Int.le_refl _) (by omega) (by rw[ha])
   obtain⟨u,hu,hsl,h4,h5⟩:=allOk_get (h3 (by rw[ha])) i hi
   refine⟨hsl,?_⟩
   have:=(ih u hu (by have:=nodesL_mem hu;omega) fs[i] (hfs _ (List.getElem_mem hi)) h4).2
   rwa [h5]at this
  cases hf with
  |c k hk =>
   rcases hk with rfl|rfl
   ·rw[acc_1 hv]at h;cases h
   ·rw[semC,sem_true];exact v2
  |a l h0 hl =>
   rw[acc_3 hv]at h
   have h:=congrArg Prod.snd h
   have h:(leafB 1 tk a ss ks && isB c s l)=true:=h
   rw[Bool.and_eq_true]at h
   rw[semC,sem_atom,atomP,bit_each,v2,Int.toNat_of_nonneg v0,h.2];rfl
  |n l h0 hl =>
   rw[acc_4 hv]at h
   have h:=congrArg Prod.snd h
   have h:(leafB 1 tk a ss ks && !isB c s l)=true:=h
   rw[Bool.and_eq_true]at h
   rw[semC,sem_one (by decide),sem_atom]
   show bit (notP _ (atomP c (spOf c) l)) _=true
   rw[bit_not,atomP,bit_each,v2,Int.toNat_of_nonneg v0]
   simpa using h.2
  |o k f hk hf =>
   have:k=9∨k=11∨k=13∨(k=10∨k=12∨k=14∨k=16∨k=18):=by omega
   rcases this with rfl|rfl|rfl|hk
   ·rw[acc_9 hv]at h
    split at h
    ·rename_i hcd
     obtain⟨_,_,_,hl2,hb⟩:=hcd
     have hk:=key [f,foG] _ (fun x hx=>by
      simp only[List.mem_cons,List.not_mem_nil,or_false]at hx
      rcases hx with rfl|rfl
      ·exact hf
      ·exact .o _ _ (by decide) (.c _ (by decide))) h
     obtain⟨_,e1⟩:=hk 0 (by simp)
     obtain⟨_,e2⟩:=hk 1 (by simp)
     have e1:bit (semC c f) ((ks.map Tn.st).getD 0 0).toNat=true:=e1
     have e2:bit (semC c foG) ((ks.map Tn.st).getD 0 0).toNat=true:=e2
     rw[semC_G]at e2
     rw[semC_one 9 f (by decide)]
     show bit (nextP _ _ _) _=true
     rw[nextP,ex_at hs (by rw[andP_len,(pu_in hf).len])]
     exact⟨v2,_,(behind_nx hc hb).2.2,by rw[Int.toNat_natCast,bit_and,e1,e2];rfl⟩
    ·cases h
   ·rw[acc_11 hv,pathR]at h
    split at h
    ·rename_i hcd
     obtain⟨h1,h2,_,_,h5⟩:=hcd
     rw[semC_one 11 f (by decide)]
     show bit (untilP _ _ (spOf c).valid _) _=true
     have:=sound_path hc (f0:=fo2) (.c _ (by decide)) hf hv h1 h2 h5 (key _ _ (fun x hx=>by
      rcases List.mem_append.1 hx with hx|hx
      ·rw[(List.mem_replicate.1 hx).2];exact .c _ (by decide)
      ·simp only[List.mem_cons,List.not_mem_nil,or_false]at hx
       rcases hx with rfl|rfl
       ·exact hf
       ·exact .o _ _ (by decide) (.c _ (by decide))) h)
     rwa [semC_2]at this
    ·cases h
   ·rw[acc_13 hv,loopR]at h
    split at h
    ·rename_i hcd
     obtain⟨h1,h2,h3,h4,_,h6,h7,h8⟩:=hcd
     rw[semC_one 13 f (by decide)]
     show bit (egP _ _) _=true
     exact sound_loop hc hf hv h1 h2 (by omega) h6 h7 h8 (key _ _ (fun x hx=>by rw[(List.mem_replicate.1 hx).2];exact hf) h)
    ·cases h
   ·rw[acc_t hk hv]at h
    have:=congrArg Prod.fst h
    have:(1:Int)=0:=this
    omega
  |t k f g hk hf hg =>
   have:k=5∨k=6∨k=15∨k=17∨(k=10∨k=12∨k=14∨k=16∨k=18):=by omega
   rcases this with rfl|rfl|rfl|rfl|hk
   ·rw[acc_5 hv]at h
    split at h
    ·have hk:=key [f,g] [s,s] (fun x hx=>by
       simp only[List.mem_cons,List.not_mem_nil,or_false]at hx
       rcases hx with rfl|rfl
       ·exact hf
       ·exact hg) h
     obtain⟨_,e1⟩:=hk 0 (by simp)
     obtain⟨_,e2⟩:=hk 1 (by simp)
     have e1:bit (semC c f) s.toNat=true:=e1
     have e2:bit (semC c g) s.toNat=true:=e2
     rw[semC_two 5 f g (by decide)]
     show bit (andP _ _) _=true
     rw[bit_and,e1,e2];rfl
    ·cases h
   ·rw[acc_6 hv]at h
    split at h
    ·rename_i hcd
     rw[semC_two 6 f g (by decide)]
     show bit (orP _ _) _=true
     rw[bit_or (by rw[(pu_in hf).len,(pu_in hg).len])]
     have h01:a=0∨a=1:=by omega
     rcases h01 with rfl|rfl
     ·obtain⟨_,e1⟩:=key [f] [s] (fun x hx=>by rw[List.mem_singleton.1 hx];exact hf) h 0 (by simp)
      have e1:bit (semC c f) s.toNat=true:=e1
      rw[e1];rfl
     ·obtain⟨_,e1⟩:=key [g] [s] (fun x hx=>by rw[List.mem_singleton.1 hx];exact hg) h 0 (by simp)
      have e1:bit (semC c g) s.toNat=true:=e1
      rw[e1,Bool.or_true]
    ·cases h
   ·rw[acc_15 hv,pathR]at h
    split at h
    ·rename_i hcd
     obtain⟨h1,h2,_,_,h5⟩:=hcd
     rw[semC_two 15 f g (by decide)]
     show bit (untilP _ _ _ _) _=true
     exact sound_path hc hf hg hv h1 h2 h5 (key _ _ (fun x hx=>by
      rcases List.mem_append.1 hx with hx|hx
      ·rw[(List.mem_replicate.1 hx).2];exact hf
      ·simp only[List.mem_cons,List.not_mem_nil,or_false]at hx
       rcases hx with rfl|rfl
       ·exact hg
       ·exact .o _ _ (by decide) (.c _ (by decide))) h)
    ·cases h
   ·rw[acc_17 hv]at h
    split at h
    ·rename_i hcd
     rw[semC_two 17 f g (by decide)]
     show bit (orP (egP _ _) (untilP _ _ _ (andP _ _))) _=true
     have l1:(egP (spOf c) (semC c g)).length=(spOf c).valid.length:=(In.eg (pu_in hg).len).len
     have l2:(untilP (spOf c) (egP (spOf c) (spOf c).valid) (semC c g) (andP (semC c f) (semC c g))).length=(spOf c).valid.length:=(In.untilP (pu_in hf).and).len
     rw[bit_or (by rw[l1,l2])]
     have h01:a=0∨a=1:=by omega
     rcases h01 with rfl|rfl
     ·obtain⟨_,e1⟩:=key [foOne 13 g] [s] (fun x hx=>by rw[List.mem_singleton.1 hx];exact .o _ _ (by decide) hg) h 0 (by simp)
      have e1:bit (semC c (foOne 13 g)) s.toNat=true:=e1
      rw[semC_one 13 g (by decide)]at e1
      have e1:bit (egP (spOf c) (semC c g)) s.toNat=true:=e1
      rw[e1];rfl
     ·obtain⟨_,e1⟩:=key [foTwo 15 g (foTwo 5 f g)] [s] (fun x hx=>by rw[List.mem_singleton.1 hx];exact .t _ _ _ (by decide) hg (.t _ _ _ (by decide) hf hg)) h 0 (by simp)
      have e1:bit (semC c (foTwo 15 g (foTwo 5 f g))) s.toNat=true:=e1
      rw[semC_two 15 g _ (by decide),semC_two 5 f g (by decide)]at e1
      have e1:bit (untilP (spOf c) (egP (spOf c) (spOf c).valid) (semC c g) (andP (semC c f) (semC c g))) s.toNat=true:=e1
      rw[e1,Bool.or_true]
    ·cases h
   ·rw[acc_t hk hv]at h
    have:=congrArg Prod.fst h
    have:(1:Int)=0:=this
    omega
end
def grC(c:Ci)(l:List Int)(k:Nat):List AV:=c.cells ++ [aL aU8 l,aI k]
theorem grC_len(c:Ci)(l:List Int)(k:Nat):(grC c l k).length=10:=rfl
abbrev grO(c:Ci)(l:List Int)(k:Nat):AObj:=.cells 93 [grC c l k] true
theorem ldN_gr{c:Ci}{l:List Int}{k:Nat}{id:Nat}{S:Store}{K:AV→Store→Prop}(h:S.obj id=some (grO c l k)):ldN 8 (.p id 0 0) S K=K c.av S:=by
 simp[ldN,rdN,place,Store.get,h,grC,Ci.cells,Ci.av]
def PP:Nat→Nat
 |0=>0
 |d+1=>9+9*PP d
def NN:Nat→Nat
 |0=>1
 |d+1=>1+10*NN d
theorem NN_pos:∀ d,1≤NN d
 |0=>Nat.le_refl _
 |d+1=>by unfold NN;omega
structure Gw (c:Ci) (l:List Int):Prop where
 made:MadeC c
 cs:Cs c
 lr:∀ x∈l,0≤x∧x<256
 len:l.length≤9223372036854775807
section
variable {c:Ci} {l:List Int} (hg:Gw c l) {id:Nat} {at_:Nat} {S:Store} (h:S.obj id=some (grO c l at_)) (ha:at_≤1099511627776)
include hg h ha
theorem gr_pick{n:Int}(hn:0<n){Q:AEnd→Store→Prop}{K:AV→Store→Prop}(k:∀(r:Int) (S':Store),0≤r→r<n→S'.n=S.n→S'.obj id=some (grO c l (at_+1))→(∀ x,x≠id→S'.obj x=S.obj x)→K (aI r) S'):
    callF Pg 51 [.p id 0 0,aI n] S Q K:=by
 refine .inl (ACalls.mono (Q:=fun e S'=>∃ r:Int,e = .ret (aI r)∧0≤r∧r<n∧S'.n=S.n∧S'.obj id=some (grO c l (at_+1))∧∀ x,x≠id→S'.obj x=S.obj x) (calls51 ?_) fun e S' ⟨r,he,h1,h2,h3,h4,h5⟩=>by subst he;exact k r S' h1 h2 h3 h4 h5)
 unfold m51
 have hlr:=hg.lr
 have hll:=hg.len
 rw[nilChk_p,shift_p,ld1_p h rfl rfl,bin_add (by omega) (by omega),nilChk_p,shift_p]
 refine stF_of h (by rw[grC_len];decide) rfl fun S1 n1 o1 f1=>?_
 have o1:S1.obj id=some (grO c l (at_+1)):=o1
 show ∃ q:AV,_
 (repeat (first|with_reducible_and_instances (first|refine WJ ?_|refine W (J_nil) ?_|refine W (J_ldp o1 (by with_unfolding_all rfl) (by with_unfolding_all rfl)) ?_|refine W (J_ldq (by with_unfolding_all rfl)) ?_)))
 by_cases hlt:(l.length:Int)<((at_+1:Nat):Int)
 ·rw[decide_eq_true hlt]
  (repeat (first|with_reducible_and_instances (first|refine WJ ?_|refine W (J_ldq (by with_unfolding_all rfl)) ?_)))
  exact⟨0,rfl,Int.le_refl _,hn,n1,o1,f1⟩
 ·rw[decide_eq_false hlt]
  have hk:at_<l.length:=by omega
  have hx:=hlr _ (List.getElem_mem hk)
  have rsub:∀{P:AV→Prop},(∃ q,(bin .sub 0 (aI (at_+1:Nat)) (.v (.int .i64 1)) S1 fun v S=>v=q∧S=S1)∧P q)=P (aI at_):=J_of (op:=fun K=>bin .sub 0 (aI (at_+1:Nat)) (.v (.int .i64 1)) S1 K) fun K=>(bin_sub (by omega) (by omega) 0).trans (by rw[show(((at_+1:Nat):Nat):Int) - 1=at_ by omega])
  have rconv:∀{P:AV→Prop},(∃ q,(convI .i64 (aU8 l[at_]) S1 fun v S=>v=q∧S=S1)∧P q)=P (aI l[at_]):=J_of (op:=fun K=>convI .i64 (aU8 l[at_]) S1 K) fun K=>convI_64 _ (by omega) (by omega)
  have rrem:∀{P:AV→Prop},(∃ q,(bin .rem 0 (aI l[at_]) (aI n) S1 fun v S=>v=q∧S=S1)∧P q)=P (aI (l[at_].tmod n)):=J_of (op:=fun K=>bin .rem 0 (aI l[at_]) (aI n) S1 K) fun K=>bin_rem (by omega) .i64 0
  (repeat (first|with_reducible_and_instances (first|refine WJ ?_|refine W (J_nil) ?_|refine W (J_ldp o1 (by with_unfolding_all rfl) (by with_unfolding_all rfl)) ?_|refine W (rsub) ?_|refine W (J_ix hk) ?_|refine W (rconv) ?_|refine W (rrem) ?_|refine W (J_ldq (by with_unfolding_all rfl)) ?_)))
  refine⟨_,rfl,?_,?_,n1,o1,f1⟩
  ·rw[Int.tmod_eq_emod_of_nonneg hx.1];exact Int.emod_nonneg _ (by omega)
  ·rw[Int.tmod_eq_emod_of_nonneg hx.1];exact Int.emod_lt_of_pos _ hn
theorem gr_next{s:Int}(hs:i64R s){Q:AEnd→Store→Prop}{K:AV→Store→Prop}(k:∀(r:Int) (k':Nat) (S':Store),i64R r→at_≤k'→k'≤at_+1→S'.n=S.n→S'.obj id=some (grO c l k')→(∀ x,x≠id→S'.obj x=S.obj x)→K (aI r) S'):
    callF Pg 83 [.p id 0 0,aI s] S Q K:=by
 refine .inl (ACalls.mono (Q:=fun e S'=>∃(r:Int) (k':Nat),e = .ret (aI r)∧i64R r∧at_≤k'∧k'≤at_+1∧S'.n=S.n∧S'.obj id=some (grO c l k')∧∀ x,x≠id→S'.obj x=S.obj x) (calls83 ?_) fun e S' ⟨r,k',he,h1,h2,h3,h4,h5,h6⟩=>by subst he;exact k r k' S' h1 h2 h3 h4 h5 h6)
 unfold m83
 have hin:=hg.made.inp
 have hcs:=hg.cs
 have hnl:=nexts_len (c:=c) (by omega) s
 rw[nilChk_p,shift_p,Nat.zero_add,ldN_gr h]
 refine callF_ans (ans30 hcs (by omega) s) ?_
 rw[lenS_aL,bin_eql,onB_v]
 refine gd_of (fun h0=>⟨s,at_,rfl,hs,Nat.le_refl _,by omega,rfl,h,fun x _=>rfl⟩) (fun h0=>?_)
 have h0:=dF h0
 rw[lenS_aL]
 refine gr_pick hg h ha (by omega) fun r S1 r0 r1 n1 o1 f1=>?_
 obtain⟨j,rfl⟩:=Int.eq_ofNat_of_zero_le r0
 have hj:j<(nextsB c s).length:=by omega
 rw[ixS_aL hj,ld1_q]
 have hx:=nexts_rng hcs (by omega) (List.getElem_mem hj)
 exact⟨_,_,rfl,⟨by omega,by omega⟩,by omega,Nat.le_refl _,n1,o1,f1⟩
end
def GrR(c:Ci)(l:List Int)(id:Nat)(S:Store)(k d:Nat)(e:AEnd)(S':Store):Prop:=
 ∃(t:Tn) (k':Nat),e = .ret t.av∧t.ok∧t.nodes≤NN d∧k≤k'∧k'≤k+PP d∧S.n≤S'.n∧S'.obj id=some (grO c l k')∧∀ x,x<S.n→x≠id→S'.obj x=S.obj x
theorem callF_gr{P:Program}{f:FuncId}{args:List AV}{c:Ci}{l:List Int}{id:Nat}{S:Store}{k d:Nat}(h:ACalls P f args S (GrR c l id S k d)){Q:AEnd→Store→Prop}{K:AV→Store→Prop}
    (kk:∀(t:Tn) (k':Nat) (S':Store),t.ok→t.nodes≤NN d→k≤k'→k'≤k+PP d→S.n≤S'.n→S'.obj id=some (grO c l k')→(∀ x,x<S.n→x≠id→S'.obj x=S.obj x)→K t.av S'):callF P f args S Q K:=
 .inl (h.mono fun e S' ⟨t,k',he,h1,h2,h3,h4,h5,h6,h7⟩=>by subst he;exact kk t k' S' h1 h2 h3 h4 h5 h6 h7)
set_option linter.unusedSectionVars false
theorem tno2{k j:Int}(h:¬ k=j){S:Store}{A:AV→Store→Prop}{B:Store→Prop}(hB:B S):bin .eql 0 (.v (.int .i64 k)) (.v (.int .i64 j)) S (fun v S=>onB v fun b=>gd b (A v S) (B S)):=by
 rw[bin_eql,onB_v,decide_eq_false h];exact hB
theorem tyes2{k j:Int}(h:k=j){S:Store}{A:AV→Store→Prop}{B:Store→Prop}(hA:A (aB true) S):bin .eql 0 (.v (.int .i64 k)) (.v (.int .i64 j)) S (fun v S=>onB v fun b=>gd b (A v S) (B S)):=by
 rw[bin_eql,onB_v,decide_eq_true h];exact hA
abbrev zeroT:List AV:=[aI 0,aI 0,aI 0,.nl,.nl]
structure Gst (c:Ci) (l:List Int) (id:Nat) (S:Store) (fr:List AV) (T:Store) (tr:List AV) (k:Nat):Prop where
 n:S.n+4≤T.n
 fo:T.obj S.n=some (.cells 24 [fr] true)
 zo:T.obj (S.n+1)=some (.cells 37 [zeroT] true)
 to:T.obj (S.n+2)=some (.cells 37 [tr] true)
 yo:T.obj (S.n+3)=some (.cells 24 [[aI 2,.v (.string ByteArray.empty),aI 0,.nl]] true)
 go:T.obj id=some (grO c l k)
 old:∀ x,x<S.n→x≠id→T.obj x=S.obj x
section
variable {c:Ci} {l:List Int} {id:Nat} {S:Store} (hid:id<S.n)
include hid
theorem Gst.mv{fr tr:List AV}{T T':Store}{k k':Nat}(h:Gst c l id S fr T tr k)(hn:T.n≤T'.n)(hf:∀ x,x<T.n→x≠id→T'.obj x=T.obj x)(hg:T'.obj id=some (grO c l k')):Gst c l id S fr T' tr k':=by
 have:=h.n
 exact⟨by omega,(hf _ (by omega) (by omega)).trans h.fo,(hf _ (by omega) (by omega)).trans h.zo,(hf _ (by omega) (by omega)).trans h.to,(hf _ (by omega) (by omega)).trans h.yo,hg,fun x hx hne=>(hf x (by omega) hne).trans (h.old x hx hne)⟩
theorem Gst.keep{fr tr:List AV}{T T':Store}{k:Nat}(h:Gst c l id S fr T tr k)(hk:Keep T T'):Gst c l id S fr T' tr k:=
 h.mv hid hk.1 (fun x hx _=>hk.2 x hx) ((hk.2 _ (by have:=h.n;omega)).trans h.go)
theorem Gst.st{fr tr tr':List AV}{T T':Store}{k:Nat}(h:Gst c l id S fr T tr k)(hn:T'.n=T.n)(ho:T'.obj (S.n+2)=some (.cells 37 [tr'] true))(hf:∀ x,x≠S.n+2→T'.obj x=T.obj x):Gst c l id S fr T' tr' k:=by
 have:=h.n
 exact⟨by omega,(hf _ (by omega)).trans h.fo,(hf _ (by omega)).trans h.zo,ho,(hf _ (by omega)).trans h.yo,(hf _ (by omega)).trans h.go,fun x hx hne=>(hf x (by omega)).trans (h.old x hx hne)⟩
theorem Gst.stB{fr tr:List AV}{T T':Store}{k y:Nat}(h:Gst c l id S fr T tr k)(hy:S.n+4≤y)(hn:T'.n=T.n)(hf:∀ x,x≠y→T'.obj x=T.obj x):Gst c l id S fr T' tr k:=by
 have:=h.n
 exact⟨by omega,(hf _ (by omega)).trans h.fo,(hf _ (by omega)).trans h.zo,(hf _ (by omega)).trans h.to,(hf _ (by omega)).trans h.yo,(hf _ (by omega)).trans h.go,fun x hx hne=>(hf x (by omega)).trans (h.old x hx hne)⟩
theorem Gst.set{fr tr:List AV}{T:Store}{k j:Nat}{u:AV}(h:Gst c l id S fr T tr k)(hj:j<tr.length)(hu:u.one=true){K:AV→Store→Prop}(kk:∀ T':Store,T'.n=T.n→Gst c l id S fr T' (tr.set j u) k→(∀ x,x≠S.n+2→T'.obj x=T.obj x)→K .j T'):stN 1 (.p (S.n+2) 0 j) u T K:=
 stF_of h.to hj hu fun T' n' o' f'=>kk T' n' (h.st hid n' o' f') f'
def GrQ(c:Ci)(l:List Int)(id:Nat)(S:Store)(k d:Nat)(e:AEnd)(S':Store):Prop:=∃ r tr,e = .ret r∧Cv (S'.frz (newer S.n)) S'.n r tr∧
 ∃(t:Tn) (k':Nat),tr=t.av∧t.ok∧t.nodes≤NN d∧k≤k'∧k'≤k+PP d∧S.n≤S'.n∧S'.obj id=some (grO c l k')∧∀ x,x<S.n→x≠id→S'.obj x=S.obj x
theorem gr_fin{fr:List AV}{T:Store}{k k0 d:Nat}{kd s b:Int}{xs xk:AV}{ss:List Int}{ks:List Tn}(h:Gst c l id S fr T [aI kd,aI s,aI b,xs,xk] k)(h1:k0≤k)(h2:k≤k0+PP d)(hok:(Tn.mk kd s b ss ks).ok)(hnd:(Tn.mk kd s b ss ks).nodes≤NN d)
    (h4:∀ T':Store,T'.n=T.n→(∀ x,x≠S.n+1→T'.obj x=T.obj x)→Cv (T'.frz (newer S.n)) T'.n xs (aL aI ss)∧Cv (T'.frz (newer S.n)) T'.n xk (tnL ks)):
    ldN 5 (.p (S.n+2) 0 0) T fun v T=>stN 5 (.p (S.n+1) 0 0) v T fun _ T=>ldN 5 (.p (S.n+1) 0 0) T fun v _=>GrQ c l id S k0 d (.ret v) T:=by
 have hn:=h.n
 rw[ldN_p (n:=5) h.to rfl]
 refine stA_of h.zo rfl rfl fun T1 n1 o1 f1=>?_
 rw[ldN_p (n:=5) o1 rfl]
 obtain⟨c1,c2⟩:=h4 T1 n1 f1
 refine⟨_,(Tn.mk kd s b ss ks).av,rfl,?_,_,k,rfl,hok,hnd,h1,h2,by omega,(f1 _ (by omega)).trans h.go,fun x hx hne=>(f1 x (by omega)).trans (h.old x hx hne)⟩
 rw[Tn.av,Tn.row_mk]
 refine .a _ _ rfl fun j u u2 e1 e2=>?_
 match j with
 |0=>cases e1;cases e2;exact .v _
 |1=>cases e1;cases e2;exact .v _
 |2=>cases e1;cases e2;exact .v _
 |3=>cases e1;cases e2;exact c1
 |4=>cases e1;cases e2;exact c2
 |j+5=>simp at e1
end
theorem gr_of{P:Program}{f:FuncId}{args:List AV}{c:Ci}{l:List Int}{id:Nat}{S:Store}{k d:Nat}(hid:id<S.n)(h:ACalls P f args S (GrQ c l id S k d)):ACalls P f args S (GrR c l id S k d):=by
 refine(ACalls.treeW (Φ:=fun tr S'=>∃(t:Tn) (k':Nat),tr=t.av∧t.ok∧t.nodes≤NN d∧k≤k'∧k'≤k+PP d∧S.n≤S'.n∧S'.obj id=some (grO c l k')∧∀ x,x<S.n→x≠id→S'.obj x=S.obj x) (h.mono fun e S' ⟨r,tr,h1,h2,h3⟩=>⟨r,tr,h1,h2,h3⟩)).mono ?_
 rintro e S'' ⟨tr,S',rfl,rfl,t,k',rfl,h1,h2,h3,h4,h5,h6,h7⟩
 have hold:∀ x,x<S.n→(S'.frz (newer S.n)).obj x=S'.obj x:=fun x hx=>frz_false (by simp[newer];omega)
 exact⟨t,k',rfl,h1,h2,h3,h4,h5,(hold id hid).trans h6,fun x hx hne=>(hold x hx).trans (h7 x hx hne)⟩
def GrK(c:Ci)(l:List Int)(d:Nat):Prop:=∀{f:Fo},Pu f→∀{s:Int},i64R s→∀{S:Store} {id k:Nat},S.obj id=some (grO c l k)→id<S.n→k+PP d≤1099511627776→ACalls Pg 50 [.p id 0 0,f.av,aI s,aI d] S (GrR c l id S k d)
theorem callF_gw{c:Ci}{l:List Int}{d:Nat}(IH:GrK c l d){f:Fo}(hf:Pu f){fa:AV}(hfa:∀(S:Store) (n:Nat),Cv S n fa f.av){s:Int}(hs:i64R s){S:Store}{id k:Nat}(h:S.obj id=some (grO c l k))(hid:id<S.n)(hk:k+PP d≤1099511627776)
    {Q:AEnd→Store→Prop} {K:AV→Store→Prop} (kk:∀(t:Tn) (k':Nat) (S':Store),t.ok→t.nodes≤NN d→k≤k'→k'≤k+PP d→S.n≤S'.n→S'.obj id=some (grO c l k')→(∀ x,x<S.n→x≠id→S'.obj x=S.obj x)→K t.av S'):
    callF Pg 50 [.p id 0 0,fa,aI s,aI d] S Q K:=
 callF_gr (ACalls.conv (args:=[.p id 0 0,fa,aI s,aI d]) (args2:=[.p id 0 0,f.av,aI s,aI d]) rfl (fun j u u2 e1 e2=>by
  match j with
  |0=>cases e1;cases e2;exact .p _ _ _ hid
  |1=>cases e1;cases e2;exact hfa _ _
  |2=>cases e1;cases e2;exact .v _
  |3=>cases e1;cases e2;exact .v _
  |j+4=>simp at e1) (IH hf hs h hid hk)) kk
theorem okT{kd s b:Int}{ss:List Int}{ks:List Tn}(h1:0≤kd∧kd≤100)(h2:i64R s)(h3:0≤b∧b≤100)(h4:ss.length≤1000)(h5:∀ x∈ss,i64R x)(h6:ks.length≤1000)(h7:∀ t∈ks,t.ok):(Tn.mk kd s b ss ks).ok:=
 .mk _ _ _ _ _ ⟨by omega,by omega⟩ h2 ⟨by omega,by omega⟩ (by omega) h5 (by omega) h7
theorem nodes_mk{kd s b:Int}{ss:List Int}{ks:List Tn}:(Tn.mk kd s b ss ks).nodes=1+Tn.nodesL ks:=by rw[Tn.nodes]
theorem nodesL_le:∀{ks:List Tn} {N:Nat},(∀ t∈ks,t.nodes≤N)→Tn.nodesL ks≤ks.length*N
 |[],_,_=>by rw[Tn.nodesL];omega
 |t :: ts,N,h=>by
  rw[Tn.nodesL,List.length_cons,Nat.succ_mul]
  have h1:=h t (by simp)
  have h2:=nodesL_le (fun u hu=>h u (by simp[hu])) (ks:=ts) (N:=N)
  omega
theorem nodes_le{kd s b:Int}{ss:List Int}{ks:List Tn}{d:Nat}(hl:ks.length≤10)(h:∀ t∈ks,t.nodes≤NN d):(Tn.mk kd s b ss ks).nodes≤NN (d+1):=by
 rw[nodes_mk,NN]
 have:=nodesL_le h
 have:=Nat.mul_le_mul_right (NN d) hl
 omega
theorem L_bslT2{e:Nat}{z1 z2 z3 z4 z5:AV}{r r2:List AV}(hr:r.length=5)(hr2:r2.length=5){S0:Store}{P:AV→Prop}(k:P (.l [r,r2])):∃ q,(∀ T,Keep S0 T→bslN e 5 2 [z1,z2,z3,z4,z5] [(0,.a r),(1,.a r2)] T fun v S=>v=q∧S=T)∧P q:=⟨_,fun T hT=>bslT2 hr hr2 ⟨rfl,rfl⟩,k⟩
theorem L_bslT1{e:Nat}{z1 z2 z3 z4 z5:AV}{r:List AV}(hr:r.length=5){S0:Store}{P:AV→Prop}(k:P (.l [r])):∃ q,(∀ T,Keep S0 T→bslN e 5 1 [z1,z2,z3,z4,z5] [(0,.a r)] T fun v S=>v=q∧S=T)∧P q:=⟨_,fun T hT=>bslT1 hr ⟨rfl,rfl⟩,k⟩
set_option linter.unusedSectionVars false
section
variable {c:Ci} {l:List Int} (hg:Gw c l) {s:Int} (hs:i64R s) {S:Store} {id k:Nat} (h:S.obj id=some (grO c l k)) (hid:id<S.n)
include hg hs h hid
theorem leaf_t:(tnLf s).ok∧∀ d,(tnLf s).nodes≤NN d:=⟨okLf s hs,fun d=>by
 rw[nodes_mk,Tn.nodesL]
 exact NN_pos d⟩
theorem grow_0(f:Fo):ACalls Pg 50 [.p id 0 0,f.av,aI s,aI (0:Nat)] S (GrR c l id S k 0):=by
 obtain⟨kd,nm,lf,fs⟩:=f
 refine gr_of hid (calls50 ?_)
 unfold m50
 rw[Fo.av,Fo.row_mk]
 refine boxA_of rfl fun S1 k1 n1 o1=>?_
 refine boxA_of rfl fun S2 k2 n2 o2=>?_
 rw[bld_of (cs:=[aI 1,aI s,aI 0,.nl,.nl]) rfl]
 refine boxA_of rfl fun S3 k3 n3 o3=>?_
 refine stA_of (cs':=[aI 1,aI s,aI 0,.nl,.nl]) o3 rfl rfl fun S4 n4 o4 f4=>?_
 rw[bld_of (cs:=[aI 2,.v (.string ByteArray.empty),aI 0,.nl]) rfl]
 refine boxA_of rfl fun S5 k5 n5 o5=>?_
 refine stA_of (cs':=[aI 2,.v (.string ByteArray.empty),aI 0,.nl]) o5 rfl rfl fun S6 n6 o6 f6=>?_
 have e1:S1.n=S.n+1:=n1
 have e2:S2.n=S.n+2:=by omega
 have e4:S4.n=S.n+3:=by omega
 have k4:=k3.st (Nat.le_refl _) n4 f4
 have k6:=k5.st (Nat.le_refl _) n6 f6
 have kS:Keep S S6:=((k1.trans k2).trans k4).trans k6
 rw[e1]at o2
 rw[e2]at o4
 rw[e4]at o6
 have g0:Gst c l id S [aI kd,.v (.string nm),aI lf,foL fs] S6 [aI 1,aI s,aI 0,.nl,.nl] k:=⟨by omega,(k6.2 _ (by omega)).trans ((k4.2 _ (by omega)).trans ((k2.2 _ (by omega)).trans o1)),(k6.2 _ (by omega)).trans ((k4.2 _ (by omega)).trans o2),(k6.2 _ (by omega)).trans o4,o6,(kS.2 _ hid).trans h,fun x hx _=>kS.2 x hx⟩
 rw[e1,e2,e4]
 rw[bin_lss,onB_v,decide_eq_true (by decide),gd_true]
 exact gr_fin hid g0 (Nat.le_refl _) (by omega) (leaf_t hg hs h hid).1 ((leaf_t hg hs h hid).2 0) fun T' _ _=>⟨.nl,.nl⟩
variable {d:Nat} (hk:k+PP (d+1)≤1099511627776) (hd:d≤8) (IH:GrK c l d)
include hk hd IH
theorem grow_leaf{kd:Int}(hkd:kd=1∨kd=2∨kd=3∨kd=4)(lf:Int)(fs:List Fo):ACalls Pg 50 [.p id 0 0,(Fo.mk kd ⟨#[]⟩ lf fs).av,aI s,aI (d+1:Nat)] S (GrR c l id S k (d+1)):=by
 refine gr_of hid (calls50 ?_)
 unfold m50
 rw[Fo.av,Fo.row_mk]
 refine boxA_of rfl fun S1 k1 n1 o1=>?_
 refine boxA_of rfl fun S2 k2 n2 o2=>?_
 rw[bld_of (cs:=[aI 1,aI s,aI 0,.nl,.nl]) rfl]
 refine boxA_of rfl fun S3 k3 n3 o3=>?_
 refine stA_of (cs':=[aI 1,aI s,aI 0,.nl,.nl]) o3 rfl rfl fun S4 n4 o4 f4=>?_
 rw[bld_of (cs:=[aI 2,.v (.string ByteArray.empty),aI 0,.nl]) rfl]
 refine boxA_of rfl fun S5 k5 n5 o5=>?_
 refine stA_of (cs':=[aI 2,.v (.string ByteArray.empty),aI 0,.nl]) o5 rfl rfl fun S6 n6 o6 f6=>?_
 have e1:S1.n=S.n+1:=n1
 have e2:S2.n=S.n+2:=by omega
 have e4:S4.n=S.n+3:=by omega
 have k4:=k3.st (Nat.le_refl _) n4 f4
 have k6:=k5.st (Nat.le_refl _) n6 f6
 have kS:Keep S S6:=((k1.trans k2).trans k4).trans k6
 rw[e1]at o2
 rw[e2]at o4
 rw[e4]at o6
 have g0:Gst c l id S [aI kd,.v (.string ⟨#[]⟩),aI lf,foL fs] S6 [aI 1,aI s,aI 0,.nl,.nl] k:=⟨by omega,(k6.2 _ (by omega)).trans ((k4.2 _ (by omega)).trans ((k2.2 _ (by omega)).trans o1)),(k6.2 _ (by omega)).trans ((k4.2 _ (by omega)).trans o2),(k6.2 _ (by omega)).trans o4,o6,(kS.2 _ hid).trans h,fun x hx _=>kS.2 x hx⟩
 rw[e1,e2,e4]
 rw[bin_lss,onB_v,decide_eq_false (by omega),gd_false,shift_p,ld1_p g0.fo rfl rfl]
 have lsb:∀(T:Store) (K:AV→Store→Prop),bin .sub 0 (aI (d+1:Nat)) (.v (.int .i64 1)) T K=K (aI d) T:=fun T K=>(bin_sub (by omega) (by omega) 0).trans (by rw[show(((d+1:Nat):Nat):Int) - 1=d by omega])
 have lsl:∀{T0:Store} {P:AV→Prop},(∃ q,(∀ T,Keep T0 T→bin .sub 0 (aI (d+1:Nat)) (.v (.int .i64 1)) T fun v S=>v=q∧S=T)∧P q)=P (aI d):=fun{T0 P}=>LJ_of (op:=fun T K=>bin .sub 0 (aI (d+1:Nat)) (.v (.int .i64 1)) T K) fun T hT K=>lsb T K
 have hP:PP (d+1)=9+9*PP d:=rfl
 repeat (refine tno2 (by omega) ?_)
 exact gr_fin hid g0 (Nat.le_refl _) (by omega) (leaf_t hg hs h hid).1 ((leaf_t hg hs h hid).2 _) fun T' _ _=>⟨.nl,.nl⟩
theorem taken_fin{fr:List AV}{T:Store}(g:Gst c l id S fr T [aI 1,aI s,aI 0,.nl,.nl] k):shift (.p (S.n+2) 0 0) 0 T fun v T=>stN 1 v (.v (.int .i64 7)) T fun _ T=>ldN 5 (.p (S.n+2) 0 0) T fun v T=>stN 5 (.p (S.n+1) 0 0) v T fun _ T=>ldN 5 (.p (S.n+1) 0 0) T fun v _=>GrQ c l id S k (d+1) (.ret v) T:=by
 rw[shift_p]
 refine g.set hid (by simp) rfl fun T1 n1 g1 f1=>?_
 exact gr_fin hid (kd:=7) (ss:=[]) (ks:=[]) g1 (Nat.le_refl _) (by omega) (okT (by decide) hs (by decide) (by decide) (fun x hx=>by cases hx) (by decide) (fun x hx=>by cases hx)) (nodes_le (by decide) (fun x hx=>by cases hx)) fun T' _ _=>⟨.nl,.nl⟩
theorem grow_taken{kd:Int}(hkd:kd=10∨kd=12∨kd=14∨kd=16∨kd=18)(lf:Int)(fs:List Fo):ACalls Pg 50 [.p id 0 0,(Fo.mk kd ⟨#[]⟩ lf fs).av,aI s,aI (d+1:Nat)] S (GrR c l id S k (d+1)):=by
 refine gr_of hid (calls50 ?_)
 unfold m50
 rw[Fo.av,Fo.row_mk]
 refine boxA_of rfl fun S1 k1 n1 o1=>?_
 refine boxA_of rfl fun S2 k2 n2 o2=>?_
 rw[bld_of (cs:=[aI 1,aI s,aI 0,.nl,.nl]) rfl]
 refine boxA_of rfl fun S3 k3 n3 o3=>?_
 refine stA_of (cs':=[aI 1,aI s,aI 0,.nl,.nl]) o3 rfl rfl fun S4 n4 o4 f4=>?_
 rw[bld_of (cs:=[aI 2,.v (.string ByteArray.empty),aI 0,.nl]) rfl]
 refine boxA_of rfl fun S5 k5 n5 o5=>?_
 refine stA_of (cs':=[aI 2,.v (.string ByteArray.empty),aI 0,.nl]) o5 rfl rfl fun S6 n6 o6 f6=>?_
 have e1:S1.n=S.n+1:=n1
 have e2:S2.n=S.n+2:=by omega
 have e4:S4.n=S.n+3:=by omega
 have k4:=k3.st (Nat.le_refl _) n4 f4
 have k6:=k5.st (Nat.le_refl _) n6 f6
 have kS:Keep S S6:=((k1.trans k2).trans k4).trans k6
 rw[e1]at o2
 rw[e2]at o4
 rw[e4]at o6
 have g0:Gst c l id S [aI kd,.v (.string ⟨#[]⟩),aI lf,foL fs] S6 [aI 1,aI s,aI 0,.nl,.nl] k:=⟨by omega,(k6.2 _ (by omega)).trans ((k4.2 _ (by omega)).trans ((k2.2 _ (by omega)).trans o1)),(k6.2 _ (by omega)).trans ((k4.2 _ (by omega)).trans o2),(k6.2 _ (by omega)).trans o4,o6,(kS.2 _ hid).trans h,fun x hx _=>kS.2 x hx⟩
 rw[e1,e2,e4]
 rw[bin_lss,onB_v,decide_eq_false (by omega),gd_false,shift_p,ld1_p g0.fo rfl rfl]
 have lsb:∀(T:Store) (K:AV→Store→Prop),bin .sub 0 (aI (d+1:Nat)) (.v (.int .i64 1)) T K=K (aI d) T:=fun T K=>(bin_sub (by omega) (by omega) 0).trans (by rw[show(((d+1:Nat):Nat):Int) - 1=d by omega])
 have lsl:∀{T0:Store} {P:AV→Prop},(∃ q,(∀ T,Keep T0 T→bin .sub 0 (aI (d+1:Nat)) (.v (.int .i64 1)) T fun v S=>v=q∧S=T)∧P q)=P (aI d):=fun{T0 P}=>LJ_of (op:=fun T K=>bin .sub 0 (aI (d+1:Nat)) (.v (.int .i64 1)) T K) fun T hT K=>lsb T K
 have hP:PP (d+1)=9+9*PP d:=rfl
 rcases hkd with rfl|rfl|rfl|rfl|rfl
 ·repeat (refine tno2 (by decide) ?_)
  refine tyes2 rfl ?_
  rw[onB_v,gd_true]
  exact taken_fin hg hs h hid hk hd IH g0
 ·repeat (refine tno2 (by decide) ?_)
  refine tyes2 rfl ?_
  rw[onB_v,gd_true]
  exact taken_fin hg hs h hid hk hd IH g0
 ·repeat (refine tno2 (by decide) ?_)
  refine tyes2 rfl ?_
  rw[onB_v,gd_true]
  exact taken_fin hg hs h hid hk hd IH g0
 ·repeat (refine tno2 (by decide) ?_)
  refine tyes2 rfl ?_
  rw[onB_v,gd_true]
  exact taken_fin hg hs h hid hk hd IH g0
 ·repeat (refine tno2 (by decide) ?_)
  refine tyes2 rfl ?_
  exact taken_fin hg hs h hid hk hd IH g0
theorem grow_and{f g:Fo}(hf:Pu f)(hgf:Pu g):ACalls Pg 50 [.p id 0 0,(Fo.mk 5 ⟨#[]⟩ 0 [f,g]).av,aI s,aI (d+1:Nat)] S (GrR c l id S k (d+1)):=by
 refine gr_of hid (calls50 ?_)
 unfold m50
 rw[Fo.av,Fo.row_mk]
 refine boxA_of rfl fun S1 k1 n1 o1=>?_
 refine boxA_of rfl fun S2 k2 n2 o2=>?_
 rw[bld_of (cs:=[aI 1,aI s,aI 0,.nl,.nl]) rfl]
 refine boxA_of rfl fun S3 k3 n3 o3=>?_
 refine stA_of (cs':=[aI 1,aI s,aI 0,.nl,.nl]) o3 rfl rfl fun S4 n4 o4 f4=>?_
 rw[bld_of (cs:=[aI 2,.v (.string ByteArray.empty),aI 0,.nl]) rfl]
 refine boxA_of rfl fun S5 k5 n5 o5=>?_
 refine stA_of (cs':=[aI 2,.v (.string ByteArray.empty),aI 0,.nl]) o5 rfl rfl fun S6 n6 o6 f6=>?_
 have e1:S1.n=S.n+1:=n1
 have e2:S2.n=S.n+2:=by omega
 have e4:S4.n=S.n+3:=by omega
 have k4:=k3.st (Nat.le_refl _) n4 f4
 have k6:=k5.st (Nat.le_refl _) n6 f6
 have kS:Keep S S6:=((k1.trans k2).trans k4).trans k6
 rw[e1]at o2
 rw[e2]at o4
 rw[e4]at o6
 have g0:Gst c l id S [aI 5,.v (.string ⟨#[]⟩),aI 0,foL [f,g]] S6 [aI 1,aI s,aI 0,.nl,.nl] k:=⟨by omega,(k6.2 _ (by omega)).trans ((k4.2 _ (by omega)).trans ((k2.2 _ (by omega)).trans o1)),(k6.2 _ (by omega)).trans ((k4.2 _ (by omega)).trans o2),(k6.2 _ (by omega)).trans o4,o6,(kS.2 _ hid).trans h,fun x hx _=>kS.2 x hx⟩
 rw[e1,e2,e4]
 rw[bin_lss,onB_v,decide_eq_false (by omega),gd_false,shift_p,ld1_p g0.fo rfl rfl]
 have lsb:∀(T:Store) (K:AV→Store→Prop),bin .sub 0 (aI (d+1:Nat)) (.v (.int .i64 1)) T K=K (aI d) T:=fun T K=>(bin_sub (by omega) (by omega) 0).trans (by rw[show(((d+1:Nat):Nat):Int) - 1=d by omega])
 have lsl:∀{T0:Store} {P:AV→Prop},(∃ q,(∀ T,Keep T0 T→bin .sub 0 (aI (d+1:Nat)) (.v (.int .i64 1)) T fun v S=>v=q∧S=T)∧P q)=P (aI d):=fun{T0 P}=>LJ_of (op:=fun T K=>bin .sub 0 (aI (d+1:Nat)) (.v (.int .i64 1)) T K) fun T hT K=>lsb T K
 have hP:PP (d+1)=9+9*PP d:=rfl
 refine tyes2 rfl ?_
 rw[shift_p]
 refine g0.set hid (by simp) rfl fun T1 m1 g1 w1=>?_
 have gn:=g1.n
 show ∃ q:AV,_
 (repeat (first|with_reducible_and_instances (first|refine WJ ?_|refine W (LJ_ldp g1.fo (by omega) (by with_unfolding_all rfl) (by with_unfolding_all rfl)) ?_|refine W (LJ_F0) ?_|refine W (LJ_F1) ?_|refine W (LJ_ldNq (Fo.row_len _)) ?_|refine W (lsl) ?_|refine W (J_ldq (by with_unfolding_all rfl)) ?_)))
 refine callF_gw IH hf (fun S n=>Fo.tr f S n) hs g1.go (by omega) (by omega) fun t0 k1 T2 t0ok t0n a1 b1 m2 g2 w2=>?_
 have g2':=g1.mv hid m2 w2 g2
 refine⟨fun T hT=>by rw[lsb];exact⟨rfl,rfl⟩,fun T hT=>by rw[ldN_q (Fo.row_len _)];exact⟨rfl,rfl⟩,fun T hT=>by rw[ixF1];exact⟨rfl,rfl⟩,fun T hT=>by rw[ld1_p ((hT.2 _ (by omega)).trans g2'.fo) rfl rfl];exact⟨rfl,rfl⟩,fun T hT=>⟨rfl,rfl⟩,?_⟩
 refine callF_gw IH hgf (fun S n=>Fo.tr g S n) hs g2 (by omega) (by omega) fun t1 k2 T3 t1ok t1n a2 b2 m3 g3 w3=>?_
 have g3':=g2'.mv hid m3 w3 g3
 refine L_bslT2 (Tn.row_len _) (Tn.row_len _) ?_
 refine L_shift ?_
 refine g3'.set hid (by simp) rfl fun T4 m4 g4 w4=>?_
 exact gr_fin hid (kd:=2) (b:=0) (ss:=[]) (ks:=[t0,t1]) g4 (by omega) (by omega) (okT (by decide) hs (by decide) (by decide) (fun x hx=>by cases hx) (by simp) (fun x hx=>by
  simp only[List.mem_cons,List.not_mem_nil,or_false]at hx
  rcases hx with rfl|rfl
  ·exact t0ok
  ·exact t1ok)) (nodes_le (by simp) (fun x hx=>by
  simp only[List.mem_cons,List.not_mem_nil,or_false]at hx
  rcases hx with rfl|rfl
  ·exact t0n
  ·exact t1n)) fun T' _ _=>⟨.nl,tnL_tr [t0,t1] _ _⟩
theorem one_fin{fr:List AV}{kd b:Int}(hkd:0≤kd∧kd≤100)(hb:0≤b∧b≤100){T:Store}{k1:Nat}(g:Gst c l id S fr T [aI kd,aI s,aI b,.nl,.nl] k1)(ha:k≤k1)(hb2:k1≤k+1){f:Fo}(hf:Pu f){fa:AV}(hfa:∀(S:Store) (n:Nat),Cv S n fa f.av):
    callF Pg 50 [.p id 0 0,fa,aI s,aI d] T (GrQ c l id S k (d+1)) fun v T=>bslN 37 5 1 [.v (.int .i64 0),.v (.int .i64 0),.v (.int .i64 0),.nl,.nl] [(0,v)] T fun v T=>shift (.p (S.n+2) 0 0) 4 T fun v2 T=>stN 1 v2 v T fun _ T=>ldN 5 (.p (S.n+2) 0 0) T fun v T=>stN 5 (.p (S.n+1) 0 0) v T fun _ T=>ldN 5 (.p (S.n+1) 0 0) T fun v _=>GrQ c l id S k (d+1) (.ret v) T:=by
 have hP:PP (d+1)=9+9*PP d:=rfl
 have gn:=g.n
 refine callF_gw IH hf hfa hs g.go (by omega) (by omega) fun t0 k2 T2 t0ok t0n a1 b1 m2 g2 w2=>?_
 have g2':=g.mv hid m2 w2 g2
 refine bslT1 (Tn.row_len _) ?_
 rw[shift_p]
 refine g2'.set hid (by simp) rfl fun T4 m4 g4 w4=>?_
 exact gr_fin hid (kd:=kd) (b:=b) (ss:=[]) (ks:=[t0]) g4 (by omega) (by omega) (okT hkd hs hb (by decide) (fun x hx=>by cases hx) (by simp) (fun x hx=>by rw[List.mem_singleton.1 hx];exact t0ok)) (nodes_le (by simp) (fun x hx=>by rw[List.mem_singleton.1 hx];exact t0n)) fun T' _ _=>⟨.nl,tnL_tr [t0] _ _⟩
theorem grow_or{f g:Fo}(hf:Pu f)(hgf:Pu g):ACalls Pg 50 [.p id 0 0,(Fo.mk 6 ⟨#[]⟩ 0 [f,g]).av,aI s,aI (d+1:Nat)] S (GrR c l id S k (d+1)):=by
 refine gr_of hid (calls50 ?_)
 unfold m50
 rw[Fo.av,Fo.row_mk]
 refine boxA_of rfl fun S1 k1 n1 o1=>?_
 refine boxA_of rfl fun S2 k2 n2 o2=>?_
 rw[bld_of (cs:=[aI 1,aI s,aI 0,.nl,.nl]) rfl]
 refine boxA_of rfl fun S3 k3 n3 o3=>?_
 refine stA_of (cs':=[aI 1,aI s,aI 0,.nl,.nl]) o3 rfl rfl fun S4 n4 o4 f4=>?_
 rw[bld_of (cs:=[aI 2,.v (.string ByteArray.empty),aI 0,.nl]) rfl]
 refine boxA_of rfl fun S5 k5 n5 o5=>?_
 refine stA_of (cs':=[aI 2,.v (.string ByteArray.empty),aI 0,.nl]) o5 rfl rfl fun S6 n6 o6 f6=>?_
 have e1:S1.n=S.n+1:=n1
 have e2:S2.n=S.n+2:=by omega
 have e4:S4.n=S.n+3:=by omega
 have k4:=k3.st (Nat.le_refl _) n4 f4
 have k6:=k5.st (Nat.le_refl _) n6 f6
 have kS:Keep S S6:=((k1.trans k2).trans k4).trans k6
 rw[e1]at o2
 rw[e2]at o4
 rw[e4]at o6
 have g0:Gst c l id S [aI 6,.v (.string ⟨#[]⟩),aI 0,foL [f,g]] S6 [aI 1,aI s,aI 0,.nl,.nl] k:=⟨by omega,(k6.2 _ (by omega)).trans ((k4.2 _ (by omega)).trans ((k2.2 _ (by omega)).trans o1)),(k6.2 _ (by omega)).trans ((k4.2 _ (by omega)).trans o2),(k6.2 _ (by omega)).trans o4,o6,(kS.2 _ hid).trans h,fun x hx _=>kS.2 x hx⟩
 rw[e1,e2,e4]
 rw[bin_lss,onB_v,decide_eq_false (by omega),gd_false,shift_p,ld1_p g0.fo rfl rfl]
 have lsb:∀(T:Store) (K:AV→Store→Prop),bin .sub 0 (aI (d+1:Nat)) (.v (.int .i64 1)) T K=K (aI d) T:=fun T K=>(bin_sub (by omega) (by omega) 0).trans (by rw[show(((d+1:Nat):Nat):Int) - 1=d by omega])
 have lsl:∀{T0:Store} {P:AV→Prop},(∃ q,(∀ T,Keep T0 T→bin .sub 0 (aI (d+1:Nat)) (.v (.int .i64 1)) T fun v S=>v=q∧S=T)∧P q)=P (aI d):=fun{T0 P}=>LJ_of (op:=fun T K=>bin .sub 0 (aI (d+1:Nat)) (.v (.int .i64 1)) T K) fun T hT K=>lsb T K
 have hP:PP (d+1)=9+9*PP d:=rfl
 refine tno2 (by decide) (tyes2 rfl ?_)
 have gn:=g0.n
 refine gr_pick hg g0.go (by omega) (by decide) fun r T1 r0 r1 m1 q1 w1=>?_
 have g1:=g0.mv hid (by omega) (fun x _ hne=>w1 x hne) q1
 rw[shift_p]
 refine g1.set hid (by simp) rfl fun T2 m2 g2 w2=>?_
 rw[shift_p]
 refine g2.set hid (by simp) rfl fun T3 m3 g3 w3=>?_
 obtain⟨j,rfl⟩:=Int.eq_ofNat_of_zero_le r0
 have hj:j < [f,g].length:=by simp;omega
 rw[shift_p,ld1_p g3.fo rfl rfl,shift_p,ld1_p g3.to rfl rfl]
 rw[ixS_foL hj,ldN_q (Fo.row_len _),lsb]
 have hx:Pu [f,g][j]:=by
  match j,hj with
  |0,_=>exact hf
  |1,_=>exact hgf
 exact one_fin hg hs h hid hk hd IH (kd:=3) (b:=j) (by decide) (by omega) g3 (by omega) (by omega) hx (fun S n=>Fo.tr _ S n)
theorem grow_er{f g:Fo}(hf:Pu f)(hgf:Pu g):ACalls Pg 50 [.p id 0 0,(Fo.mk 17 ⟨#[]⟩ 0 [f,g]).av,aI s,aI (d+1:Nat)] S (GrR c l id S k (d+1)):=by
 refine gr_of hid (calls50 ?_)
 unfold m50
 rw[Fo.av,Fo.row_mk]
 refine boxA_of rfl fun S1 k1 n1 o1=>?_
 refine boxA_of rfl fun S2 k2 n2 o2=>?_
 rw[bld_of (cs:=[aI 1,aI s,aI 0,.nl,.nl]) rfl]
 refine boxA_of rfl fun S3 k3 n3 o3=>?_
 refine stA_of (cs':=[aI 1,aI s,aI 0,.nl,.nl]) o3 rfl rfl fun S4 n4 o4 f4=>?_
 rw[bld_of (cs:=[aI 2,.v (.string ByteArray.empty),aI 0,.nl]) rfl]
 refine boxA_of rfl fun S5 k5 n5 o5=>?_
 refine stA_of (cs':=[aI 2,.v (.string ByteArray.empty),aI 0,.nl]) o5 rfl rfl fun S6 n6 o6 f6=>?_
 have e1:S1.n=S.n+1:=n1
 have e2:S2.n=S.n+2:=by omega
 have e4:S4.n=S.n+3:=by omega
 have k4:=k3.st (Nat.le_refl _) n4 f4
 have k6:=k5.st (Nat.le_refl _) n6 f6
 have kS:Keep S S6:=((k1.trans k2).trans k4).trans k6
 rw[e1]at o2
 rw[e2]at o4
 rw[e4]at o6
 have g0:Gst c l id S [aI 17,.v (.string ⟨#[]⟩),aI 0,foL [f,g]] S6 [aI 1,aI s,aI 0,.nl,.nl] k:=⟨by omega,(k6.2 _ (by omega)).trans ((k4.2 _ (by omega)).trans ((k2.2 _ (by omega)).trans o1)),(k6.2 _ (by omega)).trans ((k4.2 _ (by omega)).trans o2),(k6.2 _ (by omega)).trans o4,o6,(kS.2 _ hid).trans h,fun x hx _=>kS.2 x hx⟩
 rw[e1,e2,e4]
 rw[bin_lss,onB_v,decide_eq_false (by omega),gd_false,shift_p,ld1_p g0.fo rfl rfl]
 have lsb:∀(T:Store) (K:AV→Store→Prop),bin .sub 0 (aI (d+1:Nat)) (.v (.int .i64 1)) T K=K (aI d) T:=fun T K=>(bin_sub (by omega) (by omega) 0).trans (by rw[show(((d+1:Nat):Nat):Int) - 1=d by omega])
 have lsl:∀{T0:Store} {P:AV→Prop},(∃ q,(∀ T,Keep T0 T→bin .sub 0 (aI (d+1:Nat)) (.v (.int .i64 1)) T fun v S=>v=q∧S=T)∧P q)=P (aI d):=fun{T0 P}=>LJ_of (op:=fun T K=>bin .sub 0 (aI (d+1:Nat)) (.v (.int .i64 1)) T K) fun T hT K=>lsb T K
 have hP:PP (d+1)=9+9*PP d:=rfl
 refine tno2 (by decide) (tno2 (by decide) (tyes2 rfl ?_))
 have gn:=g0.n
 refine gr_pick hg g0.go (by omega) (by decide) fun r T1 r0 r1 m1 q1 w1=>?_
 have g1:=g0.mv hid (by omega) (fun x _ hne=>w1 x hne) q1
 rw[shift_p]
 refine g1.set hid (by simp) rfl fun T2 m2 g2 w2=>?_
 rw[shift_p]
 refine g2.set hid (by simp) rfl fun T3 m3 g3 w3=>?_
 rw[shift_p,ld1_p g3.fo rfl rfl,ixF1,ldN_q (Fo.row_len _)]
 refine callF_ans (ans81 g) ?_
 refine boxA_of rfl fun T4 k4 m4 q4=>?_
 refine stA_of (cs':=(foOne 13 g).row) q4 (Fo.row_len _) rfl fun T5 m5 q5 w5=>?_
 have k5:=k4.st (Nat.le_refl _) m5 w5
 have g5:=g3.keep hid k5
 have gn5:=g5.n
 rw[shift_p,ld1_p g5.to rfl rfl,bin_eql,onB_v]
 refine gd_of (fun e=>?_) (fun e=>?_)
 ·show ∃ q:AV,_
  have cu:=ans82 g (foTwo 5 f g)
  rw[show(foTwo 5 f g).av = .a [aI 5,.v (.string ⟨#[]⟩),aI 0,foL [f,g]]by rw[Fo.av,Fo.row_mk]]at cu
  (repeat (first|with_reducible_and_instances (first|refine WJ ?_|refine W (LJ_ldp g5.fo (by omega) (by with_unfolding_all rfl) (by with_unfolding_all rfl)) ?_|refine W (LJ_F1) ?_|refine W (LJ_ldNq (Fo.row_len _)) ?_|refine W (LJ_bld (cs:=[aI 5,.v (.string ⟨#[]⟩),aI 0,foL [f,g]]) (by with_unfolding_all rfl)) ?_|refine W (J_ldq (by with_unfolding_all rfl)) ?_)|refine J_cA (cu) rfl rfl ?_|refine C_A (cu) rfl rfl ?_|refine L_cA (cu) rfl rfl ?_))
  refine stA_of (cs':=(foTwo 15 g (foTwo 5 f g)).row) q5 (Fo.row_len _) (Fo.row_len _) fun T6 m6 q6 w6=>?_
  have g6:=g5.stB hid (y:=T3.n) (by omega) m6 w6
  rw[ldN_p (n:=4) q6 (Fo.row_len _),lsb]
  exact one_fin hg hs h hid hk hd IH (kd:=3) (b:=r) (by decide) (by omega) g6 (by omega) (by omega) (.t _ _ _ (by decide) hgf (.t _ _ _ (by decide) hf hgf)) (fun S n=>Fo.tr _ S n)
 ·rw[ldN_p (n:=4) q5 (Fo.row_len _),lsb]
  exact one_fin hg hs h hid hk hd IH (kd:=3) (b:=r) (by decide) (by omega) g5 (by omega) (by omega) (.o _ _ (by decide) hgf) (fun S n=>Fo.tr _ S n)
theorem grow_ex{f:Fo}(hf:Pu f):ACalls Pg 50 [.p id 0 0,(Fo.mk 9 ⟨#[]⟩ 0 [f]).av,aI s,aI (d+1:Nat)] S (GrR c l id S k (d+1)):=by
 refine gr_of hid (calls50 ?_)
 unfold m50
 rw[Fo.av,Fo.row_mk]
 refine boxA_of rfl fun S1 k1 n1 o1=>?_
 refine boxA_of rfl fun S2 k2 n2 o2=>?_
 rw[bld_of (cs:=[aI 1,aI s,aI 0,.nl,.nl]) rfl]
 refine boxA_of rfl fun S3 k3 n3 o3=>?_
 refine stA_of (cs':=[aI 1,aI s,aI 0,.nl,.nl]) o3 rfl rfl fun S4 n4 o4 f4=>?_
 rw[bld_of (cs:=[aI 2,.v (.string ByteArray.empty),aI 0,.nl]) rfl]
 refine boxA_of rfl fun S5 k5 n5 o5=>?_
 refine stA_of (cs':=[aI 2,.v (.string ByteArray.empty),aI 0,.nl]) o5 rfl rfl fun S6 n6 o6 f6=>?_
 have e1:S1.n=S.n+1:=n1
 have e2:S2.n=S.n+2:=by omega
 have e4:S4.n=S.n+3:=by omega
 have k4:=k3.st (Nat.le_refl _) n4 f4
 have k6:=k5.st (Nat.le_refl _) n6 f6
 have kS:Keep S S6:=((k1.trans k2).trans k4).trans k6
 rw[e1]at o2
 rw[e2]at o4
 rw[e4]at o6
 have g0:Gst c l id S [aI 9,.v (.string ⟨#[]⟩),aI 0,foL [f]] S6 [aI 1,aI s,aI 0,.nl,.nl] k:=⟨by omega,(k6.2 _ (by omega)).trans ((k4.2 _ (by omega)).trans ((k2.2 _ (by omega)).trans o1)),(k6.2 _ (by omega)).trans ((k4.2 _ (by omega)).trans o2),(k6.2 _ (by omega)).trans o4,o6,(kS.2 _ hid).trans h,fun x hx _=>kS.2 x hx⟩
 rw[e1,e2,e4]
 rw[bin_lss,onB_v,decide_eq_false (by omega),gd_false,shift_p,ld1_p g0.fo rfl rfl]
 have lsb:∀(T:Store) (K:AV→Store→Prop),bin .sub 0 (aI (d+1:Nat)) (.v (.int .i64 1)) T K=K (aI d) T:=fun T K=>(bin_sub (by omega) (by omega) 0).trans (by rw[show(((d+1:Nat):Nat):Int) - 1=d by omega])
 have lsl:∀{T0:Store} {P:AV→Prop},(∃ q,(∀ T,Keep T0 T→bin .sub 0 (aI (d+1:Nat)) (.v (.int .i64 1)) T fun v S=>v=q∧S=T)∧P q)=P (aI d):=fun{T0 P}=>LJ_of (op:=fun T K=>bin .sub 0 (aI (d+1:Nat)) (.v (.int .i64 1)) T K) fun T hT K=>lsb T K
 have hP:PP (d+1)=9+9*PP d:=rfl
 refine tno2 (by decide) (tno2 (by decide) (tno2 (by decide) (tyes2 rfl ?_)))
 have gn:=g0.n
 rw[shift_p]
 refine g0.set hid (by simp) rfl fun T1 m1 g1 w1=>?_
 refine gr_next hg g1.go (by omega) hs fun s' k1 T2 hs' a1 b1 m2 q2 w2=>?_
 have g2:=g1.mv hid (by omega) (fun x _ hne=>w2 x hne) q2
 show ∃ q:AV,_
 (repeat (first|with_reducible_and_instances (first|refine WJ ?_|refine W (LJ_ldp g2.fo (by omega) (by with_unfolding_all rfl) (by with_unfolding_all rfl)) ?_|refine W (LJ_F0) ?_|refine W (LJ_ldNq (Fo.row_len _)) ?_|refine W (lsl) ?_|refine W (LJ_ldN (n:=4) g2.yo (by omega) (by with_unfolding_all rfl)) ?_|refine W (J_ldq (by with_unfolding_all rfl)) ?_)))
 refine callF_gw IH hf (fun S n=>Fo.tr f S n) hs' g2.go (by omega) (by omega) fun t0 k3 T3 t0ok t0n a3 b3 m3 q3 w3=>?_
 have g3:=g2.mv hid m3 w3 q3
 have gn3:=g3.n
 refine⟨fun T hT=>by rw[lsb];exact⟨rfl,rfl⟩,fun T hT=>by rw[ldN_p (n:=4) ((hT.2 _ (by omega)).trans g3.yo) rfl];exact⟨rfl,rfl⟩,?_⟩
 refine⟨_,fun T hT=>callF_cv' (args:=[.a [aI 2,.v (.string ByteArray.empty),aI 0,.nl]]) (ans81 fo2) rfl (fun j u u2 e1 e2=>by
  match j with
  |0=>cases e1;cases e2;exact fo2_nl
  |j+1=>simp at e1) ⟨rfl,rfl⟩,?_⟩
 refine callF_gw IH (f:=foG) (.o _ _ (by decide) (.c _ (by decide))) (fun S n=>Fo.tr _ S n) hs' q3 (by omega) (by omega) fun t1 k4 T4 t1ok t1n a4 b4 m4 q4 w4=>?_
 have g4:=g3.mv hid m4 w4 q4
 refine L_bslT2 (Tn.row_len _) (Tn.row_len _) ?_
 refine L_shift ?_
 refine g4.set hid (by simp) rfl fun T5 m5 g5 w5=>?_
 exact gr_fin hid (kd:=4) (b:=0) (ss:=[]) (ks:=[t0,t1]) g5 (by omega) (by omega) (okT (by decide) hs (by decide) (by decide) (fun x hx=>by cases hx) (by simp) (fun x hx=>by
  simp only[List.mem_cons,List.not_mem_nil,or_false]at hx
  rcases hx with rfl|rfl
  ·exact t0ok
  ·exact t1ok)) (nodes_le (by simp) (fun x hx=>by
  simp only[List.mem_cons,List.not_mem_nil,or_false]at hx
  rcases hx with rfl|rfl
  ·exact t0n
  ·exact t1n)) fun T' _ _=>⟨.nl,tnL_tr [t0,t1] _ _⟩
end
set_option linter.unusedSectionVars false
theorem Gst.lo{c:Ci}{l:List Int}{id:Nat}{S:Store}{fr tr:List AV}{T T':Store}{k:Nat}(hid:id<S.n)(h:Gst c l id S fr T tr k)(hn:T.n≤T'.n)(hf:∀ x,x<S.n+4→T'.obj x=T.obj x):Gst c l id S fr T' tr k:=by
 have:=h.n
 exact⟨by omega,(hf _ (by omega)).trans h.fo,(hf _ (by omega)).trans h.zo,(hf _ (by omega)).trans h.to,(hf _ (by omega)).trans h.yo,(hf _ (by omega)).trans h.go,fun x hx hne=>(hf x (by omega)).trans (h.old x hx hne)⟩
theorem own_tn{n:Nat}{S:Store}{x:AV}{e:Nat}{l:List Tn}(h:Own n S x e (l.map Tn.row)){k m:Nat}(hk:k≤n):Cv (S.frz (newer k)) m x (tnL l):=
 own_rows (fun r hr u hu=>by obtain⟨f,_,rfl⟩:=List.mem_map.1 hr;exact Tn.tree f u hu) h hk
theorem LJ_ixO{e ix n i t:Nat}{es:List (List AV)}{lv:Bool}{S0:Store}(h:S0.obj ix=some (.cells e es lv))(hid:ix<S0.n)(hi:i<n){P:AV→Prop}:(∃ q,(∀ T,Keep S0 T→ixS e t (.s ix 0 n) (aI i) T fun v S=>v=q∧S=T)∧P q)=P (.p ix (0+i) 0):=
 LJ_of (op:=fun T K=>ixS e t (.s ix 0 n) (aI i) T K) fun T hT K=>ixS_s hi ((hT.2 _ hid).trans h)
theorem LJ_lenO{ix n:Nat}{S0:Store}{P:AV→Prop}:(∃ q,(∀ T,Keep S0 T→lenS (.s ix 0 n) T fun v S=>v=q∧S=T)∧P q)=P (aI n):=LJ_of (op:=fun T K=>lenS (.s ix 0 n) T K) fun T hT K=>lenS_s _ _ _
theorem LJ_subN{n m:Nat}(h:n=m+1)(hn:n≤1000000){S0:Store}{P:AV→Prop}:(∃ q,(∀ T,Keep S0 T→bin .sub 0 (aI n) (.v (.int .i64 1)) T fun v S=>v=q∧S=T)∧P q)=P (aI m):=LJ_of (op:=fun T K=>bin .sub 0 (aI n) (.v (.int .i64 1)) T K) fun T hT K=>(bin_sub (by omega) (by omega) 0).trans (by rw[show((n:Nat):Int) - 1=m by omega])
theorem sub_N{n m:Nat}(h:n=m+1)(hn:n≤1000000){T:Store}{K:AV→Store→Prop}:bin .sub 0 (aI n) (.v (.int .i64 1)) T K=K (aI m) T:=(bin_sub (by omega) (by omega) 0).trans (by rw[show((n:Nat):Int) - 1=m by omega])
theorem map_at{l:List Int}{i:Nat}(hi:i<l.length):(l.map fun a=>[aI a])[0+i]? = some [aI l[i]]:=by rw[Nat.zero_add,List.getElem?_map,List.getElem?_eq_getElem hi];rfl
section
variable {c:Ci} {l:List Int} (hg:Gw c l) {s:Int} (hs:i64R s) {S:Store} {id k:Nat} (h:S.obj id=some (grO c l k)) (hid:id<S.n) {d:Nat} (hk:k+PP (d+1)≤1099511627776) (hd:d≤8) (IH:GrK c l d)
include hg hs h hid hk hd IH
theorem path_two{fr:List AV}{T:Store}{k1:Nat}{xs:AV}{ss:List Int}(g:Gst c l id S fr T [aI 5,aI s,aI 0,xs,.nl] k1)(hk1:k≤k1)(hk2:k1≤k+3)(ws:Own (S.n+4) T xs 3 (ss.map fun a=>[aI a])){m:Nat}(hlen:ss.length=m+1)(hl3:m≤2)(hss:∀ x∈ss,i64R x)
    {ia ib:Nat} (hia:S.n+4≤ia) (hia2:ia<T.n) (hib:S.n+4≤ib) (hib2:ib<T.n) {f0 f1:Fo} (h0:Pu f0) (h1:Pu f1) {ra:List AV} (hra:ra.length=4) (cva:∀(S:Store) (n:Nat),Cv S n (.a ra) f0.av) (oa:T.obj ia=some (.cells 24 [ra] true)) (ob:T.obj ib=some (.cells 24 [f1.row] true)):
    loopV lv50_2 (vc Pg (c50.at_ [1,1,1,1,0,1,0,1,1,1,1,1,1,1,1,1,0,1,1,1,1,1,0,1,0,0]) (ms50.drop 2)) 306 (env50_2 (.p id 0 0) (aI (d+1:Nat)) (.p (S.n+1) 0 0) (.p (S.n+2) 0 0) (.p (S.n+3) 0 0) (.p ia 0 0) (.p ib 0 0) (aI m) (.v (.int .i64 0))) T (blockK 3 (seqK (vc Pg (c50.at_ [1,1,1,1,0,1,0,1,1,1,1,1,1,1,1,1,0,1,1,1,1,1,1]) (ms50.drop 2)) (blockK 0 (seqK (vc Pg (c50.at_ [1,1,1,1,1]) (ms50.drop 5)) (bodyK Pg r50 (GrQ c l id S k (d+1))))))):=by
 have hP:PP (d+1)=9+9*PP d:=rfl
 have gTn:=g.n
 have lsb:∀(T:Store) (K:AV→Store→Prop),bin .sub 0 (aI (d+1:Nat)) (.v (.int .i64 1)) T K=K (aI d) T:=fun T K=>sub_N rfl (by omega)
 refine loop50_2 (fun y T'=>∃(i k':Nat) (xk:AV) (ks:List Tn),y=aI i∧i≤m∧T.n≤T'.n∧Gst c l id S fr T' [aI 5,aI s,aI 0,xs,xk] k'∧Own (S.n+4) T' xs 3 (ss.map fun a=>[aI a])∧Own T.n T' xk 37 (ks.map Tn.row)∧ks.length=i∧(∀ t∈ks,t.ok∧t.nodes≤NN d)∧k1≤k'∧k'≤k1+i*PP d∧
     T'.obj ia=some (.cells 24 [ra] true)∧T'.obj ib=some (.cells 24 [f1.row] true))
  (fun y _=>m - ((intA y).getD 0).toNat) ⟨0,k1,.nl,[],rfl,Nat.zero_le _,Nat.le_refl _,g,ws,.nl _ _ _,rfl,(fun t ht=>by cases ht),Nat.le_refl _,by omega,oa,ob⟩ ?_
 rintro _ T1 ⟨i,k',xk,ks,rfl,hi,n1,g1,ws1,wk1,hks,hall,b1,b2,oa1,ob1⟩ KE hKE
 unfold b50_2
 have gn1:=g1.n
 have hil:i<ss.length:=by omega
 have hml:m<ss.length:=by omega
 obtain⟨ix,rfl,hx1,hx2,hx3⟩:=ws1.ix (i:=i) (by simp;omega)
 rw[List.length_map]at *
 have hxT:ix<T.n:=by have:=ws.lt rfl;omega
 have hmul:i*PP d≤2*PP d:=Nat.mul_le_mul_right _ (by omega)
 rw[bin_lss,onB_v]
 refine gd_of (fun hlt=>?_) (fun hge=>?_)
 ·have hlt:i<m:=by have:=dT hlt;omega
  have hmul2:(i+1)*PP d=i*PP d+PP d:=Nat.succ_mul _ _
  show ∃ q:AV,_
  (repeat (first|with_reducible_and_instances (first|refine WJ ?_|refine W (LJ_ldp g1.to (by omega) (by with_unfolding_all rfl) (by with_unfolding_all rfl)) ?_|refine W (LJ_ldN (n:=4) oa1 (by omega) hra) ?_|refine W (LJ_ixO hx3 hx2 hil) ?_|refine W (LJ_ldp hx3 hx2 (map_at hil) (by with_unfolding_all rfl)) ?_|refine W (LJ_subN (by with_unfolding_all rfl) (by omega)) ?_|refine W (J_ldq (by with_unfolding_all rfl)) ?_)))
  refine callF_gw IH h0 cva (hss _ (List.getElem_mem hil)) g1.go (by omega) (by omega) fun t k2 T2 tok tn a2 c2 m2 q2 w2=>?_
  have g2:=g1.mv hid m2 w2 q2
  have gn2:=g2.n
  refine⟨fun T hT=>by rw[ld1_p ((hT.2 _ (by omega)).trans g2.to) rfl rfl];exact⟨rfl,rfl⟩,fun T hT=>⟨rfl,rfl⟩,?_⟩
  refine L_bslT1 (Tn.row_len _) ?_
  have wk2:Own T.n T2 xk 37 (ks.map Tn.row):=wk1.same m2 fun x hx hx'=>w2 x hx' (by omega)
  refine wk2.app (c:=t.row) (by omega) (Tn.row_len _) (by simp;omega) (fun z T3 w3 b3 hz=>?_) rfl
  obtain⟨m3,hm3⟩:=hz
  have n3:=b3.1
  have old3:∀ x,x<T.n→T3.obj x=T2.obj x:=fun x hx=>b3.2 x (by omega) (fun b m e=>by have:=wk2.lt e;omega)
  have g3:=g2.lo hid n3 (fun x hx=>old3 x (by omega))
  refine L_shift ?_
  refine g3.set hid (by simp) (by rw[hm3];rfl) fun T4 n4 g4 f4=>?_
  have hkeep:∀ x,S.n+4≤x→x<T.n→T4.obj x=T1.obj x:=fun x hx hx2=>(f4 x (by omega)).trans ((old3 x hx2).trans (w2 x (by omega) (by omega)))
  rw[bin_add (by omega) (by omega)]
  refine hKE _ _ ⟨i+1,k2,z,ks ++ [t],rfl,hlt,by omega,g4,?_,?_,by simp[hks],fun u hu=>?_,by omega,by omega,(hkeep _ hia hia2).trans oa1,(hkeep _ hib hib2).trans ob1⟩ (by simp[intA];omega)
  ·exact .inr ⟨ix,by rw[List.length_map],hx1,by omega,(hkeep _ hx1 hxT).trans hx3⟩
  ·rw[List.map_append]
   exact w3.st (id:=S.n+2) (fun b m e=>by rw[hm3]at e;injection e;omega) n4 f4
  ·rcases List.mem_append.1 hu with hu|hu
   ·exact hall u hu
   ·rw[List.mem_singleton.1 hu];exact⟨tok,tn⟩
 ·have hge:i=m:=by have:=dF hge;omega
  subst hge
  show ∃ q:AV,_
  (repeat (first|with_reducible_and_instances (first|refine WJ ?_|refine W (LJ_ldp g1.to (by omega) (by with_unfolding_all rfl) (by with_unfolding_all rfl)) ?_|refine W (LJ_ldN (n:=4) ob1 (by omega) (Fo.row_len _)) ?_|refine W (LJ_ldN (n:=4) g1.yo (by omega) (by with_unfolding_all rfl)) ?_|refine W (LJ_ixO hx3 hx2 hil) ?_|refine W (LJ_ldp hx3 hx2 (map_at hil) (by with_unfolding_all rfl)) ?_|refine W (LJ_subN (by with_unfolding_all rfl) (by omega)) ?_|refine W (J_ldq (by with_unfolding_all rfl)) ?_)))
  have hsl:=hss _ (List.getElem_mem hil)
  refine callF_gw IH h1 (fun S n=>Fo.tr f1 S n) hsl g1.go (by omega) (by omega) fun t0 k2 T2 t0ok t0n a2 c2 m2 q2 w2=>?_
  have g2:=g1.mv hid m2 w2 q2
  have gn2:=g2.n
  have hx32:=(w2 _ hx2 (by omega)).trans hx3
  have hxT2:ix<T2.n:=by omega
  refine⟨fun T hT=>by rw[lsb];exact⟨rfl,rfl⟩,fun T hT=>by rw[ld1_p ((hT.2 _ hxT2).trans hx32) (map_at hil) rfl];exact⟨rfl,rfl⟩,fun T hT=>by rw[ixS_s hil ((hT.2 _ hxT2).trans hx32)];exact⟨rfl,rfl⟩,fun T hT=>by rw[ld1_p ((hT.2 _ (by omega)).trans g2.to) rfl rfl];exact⟨rfl,rfl⟩,fun T hT=>⟨rfl,rfl⟩,fun T hT=>by rw[ldN_p (n:=4) ((hT.2 _ (by omega)).trans g2.yo) rfl];exact⟨rfl,rfl⟩,fun T hT=>by rw[ld1_p ((hT.2 _ (by omega)).trans g2.to) rfl rfl];exact⟨rfl,rfl⟩,fun T hT=>⟨rfl,rfl⟩,?_⟩
  refine⟨_,fun T hT=>callF_cv' (args:=[.a [aI 2,.v (.string ByteArray.empty),aI 0,.nl]]) (ans81 fo2) rfl (fun j u u2 e1 e2=>by
   match j with
   |0=>cases e1;cases e2;exact fo2_nl
   |j+1=>simp at e1) ⟨rfl,rfl⟩,?_⟩
  refine callF_gw IH (f:=foG) (.o _ _ (by decide) (.c _ (by decide))) (fun S n=>Fo.tr _ S n) hsl q2 (by omega) (by omega) fun t1 k3 T3 t1ok t1n a3 c3 m3 q3 w3=>?_
  have g3:=g2.mv hid m3 w3 q3
  have gn3:=g3.n
  refine⟨fun T hT=>by rw[ld1_p ((hT.2 _ (by omega)).trans g3.to) rfl rfl];exact⟨rfl,rfl⟩,fun T hT=>⟨rfl,rfl⟩,?_⟩
  refine L_bslT2 (Tn.row_len _) (Tn.row_len _) ?_
  have wk3:Own T.n T3 xk 37 (ks.map Tn.row):=wk1.same (by omega) fun x hx hx'=>(w3 x (by omega) (by omega)).trans (w2 x hx' (by omega))
  have hx33:=(w3 _ hxT2 (by omega)).trans hx32
  refine Own.appL (ys:=[t0.row,t1.row]) wk3 (by omega) (by simp[Tn.row_len]) (by simp;omega) (fun z T4 w4 b4 hz=>?_) rfl
  have n4:=b4.1
  have old4:∀ x,x<T.n→T4.obj x=T3.obj x:=fun x hx=>b4.2 x (by omega) (fun b m e=>by have:=wk3.lt e;omega)
  have g4:=g3.lo hid n4 (fun x hx=>old4 x (by omega))
  refine L_shift ?_
  have hz1:z.one=true:=by
   rcases w4 with⟨rfl,_⟩|⟨id',rfl,_⟩<;>rfl
  refine g4.set hid (by simp) hz1 fun T5 n5 g5 f5=>?_
  have hx35:T5.obj ix=_:=(f5 _ (by omega)).trans ((old4 _ hxT).trans hx33)
  have w5:Own T.n T5 z 37 (ks.map Tn.row ++ [t0.row,t1.row]):=w4.st (id:=S.n+2) (fun b m e=>by have:=w4.lt e;omega) n5 f5
  have e5:ks.map Tn.row ++ [t0.row,t1.row]=(ks ++ [t0,t1]).map Tn.row:=by rw[List.map_append];rfl
  rw[e5]at w5
  have hall2:∀ u∈ks ++ [t0,t1],u.ok∧u.nodes≤NN d:=fun u hu=>by
   rcases List.mem_append.1 hu with hu|hu
   ·exact hall u hu
   ·simp only[List.mem_cons,List.not_mem_nil,or_false]at hu
    rcases hu with rfl|rfl
    ·exact⟨t0ok,t0n⟩
    ·exact⟨t1ok,t1n⟩
  refine gr_fin hid (kd:=5) (b:=0) (ss:=ss) (ks:=ks ++ [t0,t1]) g5 (by omega) (by omega) (okT (by decide) hs (by decide) (by omega) hss (by simp;omega) fun u hu=>(hall2 u hu).1) (nodes_le (by simp;omega) fun u hu=>(hall2 u hu).2) fun T' hn' hf'=>⟨?_,?_⟩
  ·have wx:Own (S.n+4) T' (.s ix 0 ss.length) 3 (ss.map fun a=>[aI a]):=.inr ⟨ix,by rw[List.length_map],hx1,by omega,(hf' _ (by omega)).trans hx35⟩
   exact own_in wx (by omega)
  ·have wz:Own T.n T' z 37 _:=w5.st (id:=S.n+1) (fun b m e=>by have:=w5.lt e;omega) hn' hf'
   exact own_tn wz (by omega)
end
set_option linter.unusedSectionVars false
theorem LJ_lenF{l:List Fo}{S0:Store}{P:AV→Prop}:(∃ q,(∀ T,Keep S0 T→lenS (foL l) T fun v S=>v=q∧S=T)∧P q)=P (aI l.length):=LJ_of (op:=fun T K=>lenS (foL l) T K) fun T hT K=>lenS_foL l
section
variable {c:Ci} {l:List Int} (hg:Gw c l) {s:Int} (hs:i64R s) {S:Store} {id k:Nat} (h:S.obj id=some (grO c l k)) (hid:id<S.n) {d:Nat} (hk:k+PP (d+1)≤1099511627776) (hd:d≤8) (IH:GrK c l d)
include hg hs h hid hk hd IH
theorem path_one{kd:Int}{nm:ByteArray}{lf:Int}{fs:List Fo}{n1:Nat}(hn1:n1≤1)(hfl:fs.length=n1+1){f0 f1:Fo}(hf1:fs[n1]? = some f1)(h1:Pu f1)(h15:kd=15→fs = [f0,f1]∧Pu f0){T:Store}{k1:Nat}{xs:AV}(g:Gst c l id S [aI kd,.v (.string nm),aI lf,foL fs] T [aI 5,aI s,aI 0,xs,.nl] k1)(ws:Own (S.n+4) T xs 3 [[aI s]]){r:Nat}(hr:r≤2)(ha:k≤k1)(hb:k1+r≤k+3):
    loopV lv50_0 (vc Pg (c50.at_ [1,1,1,1,0,1,0,1,1,1,1,1,1,1,1,1,0,1,0,1,0,0]) (ms50.drop 1)) 306 (env50_0 (.p id 0 0) (aI (d+1:Nat)) (.p S.n 0 0) (.p (S.n+1) 0 0) (.p (S.n+2) 0 0) (.p (S.n+3) 0 0) (aI r)) T (blockK 1 (seqK (vc Pg (c50.at_ [1,1,1,1,0,1,0,1,1,1,1,1,1,1,1,1,0,1,1]) (ms50.drop 1)) (blockK 0 (seqK (vc Pg (c50.at_ [1,1,1,1,1]) (ms50.drop 5)) (bodyK Pg r50 (GrQ c l id S k (d+1))))))):=by
 have hP:PP (d+1)=9+9*PP d:=rfl
 refine loop50_0 (fun y T'=>∃(i k' m:Nat) (xs:AV) (ss:List Int),y=aI i∧m+i≤2∧k'+i≤k+3∧k≤k'∧Gst c l id S [aI kd,.v (.string nm),aI lf,foL fs] T' [aI 5,aI s,aI 0,xs,.nl] k'∧Own (S.n+4) T' xs 3 (ss.map fun a=>[aI a])∧ss.length=m+1∧∀ x∈ss,i64R x)
  (fun y _=>((intA y).getD 0).toNat) ⟨r,k1,0,xs,[s],rfl,by omega,hb,ha,g,ws,rfl,fun x hx=>by rw[List.mem_singleton.1 hx];exact hs⟩ ?_
 rintro _ T1 ⟨i,k',m,xs,ss,rfl,hm,hki,hkk,g1,ws1,hlen,hss⟩ KE hKE
 unfold b50_0
 have gn1:=g1.n
 have hml:m<ss.length:=by omega
 obtain⟨ix,rfl,hx1,hx2,hx3⟩:=ws1.ix (i:=m) (by simp;omega)
 rw[List.length_map]at *
 rw[bin_gtr,onB_v]
 refine gd_of (fun hlt=>?_) (fun hge=>?_)
 ·obtain⟨i',rfl⟩:∃ i',i=i'+1:=⟨i - 1,by have:=dT hlt;omega⟩
  show ∃ q:AV,_
  (repeat (first|with_reducible_and_instances (first|refine WJ ?_|refine W (LJ_ldp g1.to (by omega) (by with_unfolding_all rfl) (by with_unfolding_all rfl)) ?_|refine W (LJ_lenO) ?_|refine W (LJ_subN hlen (by omega)) ?_|refine W (LJ_ixO hx3 hx2 hml) ?_|refine W (LJ_ldp hx3 hx2 (map_at hml) (by with_unfolding_all rfl)) ?_|refine W (J_ldq (by with_unfolding_all rfl)) ?_)))
  refine gr_next hg g1.go (by omega) (hss _ (List.getElem_mem hml)) fun v k2 T2 hv a2 b2 m2 q2 w2=>?_
  have g2:=g1.mv hid (by omega) (fun x _ hne=>w2 x hne) q2
  have gn2:=g2.n
  refine⟨fun T hT=>by rw[ld1_p ((hT.2 _ (by omega)).trans g2.to) rfl rfl];exact⟨rfl,rfl⟩,fun T hT=>⟨rfl,rfl⟩,?_⟩
  refine⟨.l [[aI v]],fun T hT=>bsl1 rfl (fun _ h=>by cases h) ⟨rfl,rfl⟩,?_⟩
  have ws2:Own (S.n+4) T2 (.s ix 0 ss.length) 3 (ss.map fun a=>[aI a]):=.inr ⟨ix,by rw[List.length_map],hx1,by omega,(w2 _ (by omega)).trans hx3⟩
  refine ws2.app (c:=[aI v]) (by omega) rfl (by simp;omega) (fun z T3 w3 b3 hz=>?_) rfl
  obtain⟨m3,hm3⟩:=hz
  have n3:=b3.1
  have old3:∀ x,x<S.n+4→T3.obj x=T2.obj x:=fun x hx=>b3.2 x (by omega) (fun b m e=>by have:=ws2.lt e;omega)
  have g3:=g2.lo hid n3 old3
  refine L_shift ?_
  refine g3.set hid (by simp) (by rw[hm3];rfl) fun T4 n4 g4 f4=>?_
  rw[sub_N rfl (by omega)]
  refine hKE _ _ ⟨i',k2,m+1,z,ss ++ [v],rfl,by omega,by omega,by omega,g4,?_,by simp[hlen],fun x hx=>?_⟩ (by simp[intA])
  ·rw[List.map_append]
   exact w3.st (id:=S.n+2) (fun b m e=>by rw[hm3]at e;injection e;omega) n4 f4
  ·rcases List.mem_append.1 hx with hx|hx
   ·exact hss x hx
   ·rw[List.mem_singleton.1 hx];exact hv
 ·have hge:i=0:=by have:=dF hge;omega
  subst hge
  have hfn:n1<fs.length:=by omega
  have hfe:fs[n1]=f1:=by rw[List.getElem?_eq_getElem hfn]at hf1;exact Option.some.inj hf1
  show ∃ q:AV,_
  (repeat (first|with_reducible_and_instances (first|refine WJ ?_|refine W (LJ_ldN (n:=4) g1.yo (by omega) (by with_unfolding_all rfl)) ?_|refine W (LJ_ldp g1.fo (by omega) (by with_unfolding_all rfl) (by with_unfolding_all rfl)) ?_|refine W (LJ_lenF) ?_|refine W (LJ_subN hfl (by omega)) ?_|refine W (LJ_Fi hfn) ?_|refine W (LJ_ldNq (Fo.row_len _)) ?_|refine W (J_ldq (by with_unfolding_all rfl)) ?_)))
  rw[hfe]
  refine news2 fun ia ib T2 k2 hi hi2 hj hj2 hij oi oj=>?_
  dsimp only[List.headD_cons,List.tail_cons]
  refine stA_of (cs':=[aI 2,.v (.string ByteArray.empty),aI 0,.nl]) oi rfl rfl fun T3 n3 o3 f3=>?_
  have k2n:=k2.1
  have g2:=g1.keep hid k2
  have g3:=g2.stB hid (y:=ia) (by omega) n3 f3
  have gn3:=g3.n
  refine⟨fun T hT=>by rw[ldN_q (Fo.row_len _)];exact⟨rfl,rfl⟩,fun T hT=>by rw[ixS_foL hfn,hfe];exact⟨rfl,rfl⟩,fun T hT=>by rw[sub_N hfl (by omega)];exact⟨rfl,rfl⟩,fun T hT=>by rw[lenS_foL];exact⟨rfl,rfl⟩,fun T hT=>by rw[ld1_p ((hT.2 _ (by omega)).trans g3.fo) rfl rfl];exact⟨rfl,rfl⟩,fun T hT=>⟨rfl,rfl⟩,fun T hT=>by rw[ld1_p ((hT.2 _ (by omega)).trans g3.fo) rfl rfl];exact⟨rfl,rfl⟩,fun T hT=>⟨rfl,rfl⟩,?_⟩
  refine stA_of (cs':=f1.row) ((f3 _ (by omega)).trans oj) (Fo.row_len _) rfl fun T4 n4 o4 f4=>?_
  have g4:=g3.stB hid (y:=ib) (by omega) n4 f4
  have gn4:=g4.n
  have oi4:=(f4 _ hij).trans o3
  have hx4:T4.obj ix=_:=(f4 _ (by omega)).trans ((f3 _ (by omega)).trans ((k2.2 _ hx2).trans hx3))
  rw[shift_p,ld1_p g4.fo rfl rfl,bin_eql,onB_v]
  refine gd_of (fun e=>?_) (fun e=>?_)
  ·obtain⟨rfl,h0⟩:=h15 (dT e)
   rw[shift_p,ld1_p g4.fo rfl rfl,ixF0,ldN_q (Fo.row_len _)]
   refine stA_of (cs':=f0.row) oi4 (Fo.row_len _) rfl fun T5 n5 o5 f5=>?_
   have g5:=g4.stB hid (y:=ia) (by omega) n5 f5
   rw[shift_p,ld1_p g5.to rfl rfl,lenS_s,sub_N hlen (by omega)]
   have ws5:Own (S.n+4) T5 (.s ix 0 ss.length) 3 (ss.map fun a=>[aI a]):=.inr ⟨ix,by rw[List.length_map],hx1,by omega,(f5 _ (by omega)).trans hx4⟩
   exact path_two hg hs h hid hk hd IH g5 hkk (by omega) ws5 hlen (by omega) hss (by omega) (by omega) (by omega) (by omega) h0 h1 (Fo.row_len _) (fun S n=>Fo.tr f0 S n) o5 ((f5 _ (by omega)).trans o4)
  ·rw[shift_p,ld1_p g4.to rfl rfl,lenS_s,sub_N hlen (by omega)]
   have ws4:Own (S.n+4) T4 (.s ix 0 ss.length) 3 (ss.map fun a=>[aI a]):=.inr ⟨ix,by rw[List.length_map],hx1,by omega,hx4⟩
   exact path_two hg hs h hid hk hd IH g4 hkk (by omega) ws4 hlen (by omega) hss (by omega) (by omega) (by omega) (by omega) (f0:=fo2) (.c _ (by decide)) h1 rfl (fun S n=>fo2_nl) oi4 o4
end
set_option linter.unusedSectionVars false
section
variable {c:Ci} {l:List Int} (hg:Gw c l) {s:Int} (hs:i64R s) {S:Store} {id k:Nat} (h:S.obj id=some (grO c l k)) (hid:id<S.n) {d:Nat} (hk:k+PP (d+1)≤1099511627776) (hd:d≤8) (IH:GrK c l d)
include hg hs h hid hk hd IH
theorem loop_four{fr0:List AV}{f0:Fo}(h0:Pu f0)(hfr:fr0[3]? = some (foL [f0])){T:Store}{k1:Nat}{xs:AV}{ss:List Int}{b:Int}(hb:0≤b∧b≤100)(g:Gst c l id S fr0 T [aI 6,aI s,aI b,xs,.nl] k1)(hk1:k≤k1)(hk2:k1≤k+9)(ws:Own (S.n+4) T xs 3 (ss.map fun a=>[aI a]))(hlen:ss.length≤9)(hss:∀ x∈ss,i64R x):
    loopV lv50_4 (vc Pg (c50.at_ [1,1,1,1,0,1,0,1,1,1,1,1,1,1,1,1,1,1,0,1,1,1,0,0]) (ms50.drop 5)) 306 (env50_4 (.p id 0 0) (aI (d+1:Nat)) (.p S.n 0 0) (.p (S.n+1) 0 0) (.p (S.n+2) 0 0) (.v (.int .i64 0))) T (blockK 9 (blockK 0 (seqK (vc Pg (c50.at_ [1,1,1,1,1]) (ms50.drop 5)) (bodyK Pg r50 (GrQ c l id S k (d+1)))))):=by
 have hP:PP (d+1)=9+9*PP d:=rfl
 have gTn:=g.n
 refine loop50_4 (fun y T'=>∃(i k':Nat) (xk:AV) (ks:List Tn),y=aI i∧i≤ss.length∧T.n≤T'.n∧Gst c l id S fr0 T' [aI 6,aI s,aI b,xs,xk] k'∧Own (S.n+4) T' xs 3 (ss.map fun a=>[aI a])∧Own T.n T' xk 37 (ks.map Tn.row)∧ks.length=i∧(∀ t∈ks,t.ok∧t.nodes≤NN d)∧k1≤k'∧k'≤k1+i*PP d)
  (fun y _=>ss.length - ((intA y).getD 0).toNat) ⟨0,k1,.nl,[],rfl,Nat.zero_le _,Nat.le_refl _,g,ws,.nl _ _ _,rfl,(fun t ht=>by cases ht),Nat.le_refl _,by omega⟩ ?_
 rintro _ T1 ⟨i,k',xk,ks,rfl,hi,n1,g1,ws1,wk1,hks,hall,b1,b2⟩ KE hKE
 unfold b50_4
 have gn1:=g1.n
 rw[shift_p,ld1_p g1.to rfl rfl,ws1.len,List.length_map,bin_lss,onB_v]
 have hmul:i*PP d≤9*PP d:=Nat.mul_le_mul_right _ (by omega)
 refine gd_of (fun hlt=>?_) (fun hge=>?_)
 ·have hlt:i<ss.length:=by have:=dT hlt;omega
  have hmul2:(i+1)*PP d=i*PP d+PP d:=Nat.succ_mul _ _
  have hmul3:(i+1)*PP d≤9*PP d:=Nat.mul_le_mul_right _ (by omega)
  obtain⟨ix,rfl,hx1,hx2,hx3⟩:=ws1.ix (i:=i) (by simp;omega)
  rw[List.length_map]at *
  have hxT:ix<T.n:=by have:=ws.lt rfl;omega
  show ∃ q:AV,_
  (repeat (first|with_reducible_and_instances (first|refine WJ ?_|refine W (LJ_ldp g1.to (by omega) (by with_unfolding_all rfl) (by with_unfolding_all rfl)) ?_|refine W (LJ_ldp g1.fo (by omega) (by with_unfolding_all rfl) hfr) ?_|refine W (LJ_F0) ?_|refine W (LJ_ldNq (Fo.row_len _)) ?_|refine W (LJ_ixO hx3 hx2 hlt) ?_|refine W (LJ_ldp hx3 hx2 (map_at hlt) (by with_unfolding_all rfl)) ?_|refine W (LJ_subN (by with_unfolding_all rfl) (by omega)) ?_|refine W (J_ldq (by with_unfolding_all rfl)) ?_)))
  refine callF_gw IH h0 (fun S n=>Fo.tr f0 S n) (hss _ (List.getElem_mem hlt)) g1.go (by omega) (by omega) fun t k2 T2 tok tn a2 c2 m2 q2 w2=>?_
  have g2:=g1.mv hid m2 w2 q2
  have gn2:=g2.n
  refine⟨fun T hT=>by rw[ld1_p ((hT.2 _ (by omega)).trans g2.to) rfl rfl];exact⟨rfl,rfl⟩,fun T hT=>⟨rfl,rfl⟩,?_⟩
  refine L_bslT1 (Tn.row_len _) ?_
  have wk2:Own T.n T2 xk 37 (ks.map Tn.row):=wk1.same m2 fun x hx hx'=>w2 x hx' (by omega)
  refine wk2.app (c:=t.row) (by omega) (Tn.row_len _) (by simp;omega) (fun z T3 w3 b3 hz=>?_) rfl
  obtain⟨m3,hm3⟩:=hz
  have n3:=b3.1
  have old3:∀ x,x<T.n→T3.obj x=T2.obj x:=fun x hx=>b3.2 x (by omega) (fun b m e=>by have:=wk2.lt e;omega)
  have g3:=g2.lo hid n3 (fun x hx=>old3 x (by omega))
  refine L_shift ?_
  refine g3.set hid (by simp) (by rw[hm3];rfl) fun T4 n4 g4 f4=>?_
  have hkeep:∀ x,S.n+4≤x→x<T.n→T4.obj x=T1.obj x:=fun x hx hx2=>(f4 x (by omega)).trans ((old3 x hx2).trans (w2 x (by omega) (by omega)))
  rw[bin_add (by omega) (by omega)]
  refine hKE _ _ ⟨i+1,k2,z,ks ++ [t],rfl,hlt,by omega,g4,?_,?_,by simp[hks],fun u hu=>?_,by omega,by omega⟩ (by simp[intA];omega)
  ·exact .inr ⟨ix,by rw[List.length_map],hx1,by omega,(hkeep _ hx1 hxT).trans hx3⟩
  ·rw[List.map_append]
   exact w3.st (id:=S.n+2) (fun b m e=>by rw[hm3]at e;injection e;omega) n4 f4
  ·rcases List.mem_append.1 hu with hu|hu
   ·exact hall u hu
   ·rw[List.mem_singleton.1 hu];exact⟨tok,tn⟩
 ·refine gr_fin hid (kd:=6) (b:=b) (ss:=ss) (ks:=ks) g1 (by omega) (by omega) (okT (by decide) hs hb (by omega) hss (by omega) fun u hu=>(hall u hu).1) (nodes_le (by omega) fun u hu=>(hall u hu).2) fun T' hn' hf'=>⟨?_,?_⟩
  ·exact own_in (ws1.st (id:=S.n+1) (fun b m e=>by have:=ws1.lt e;omega) hn' hf') (by omega)
  ·exact own_tn (wk1.st (id:=S.n+1) (fun b m e=>by have:=wk1.lt e;omega) hn' hf') (by omega)
theorem loop_one{fr0:List AV}{f0:Fo}(h0:Pu f0)(hfr:fr0[3]? = some (foL [f0])){T:Store}{k1:Nat}{xs:AV}(g:Gst c l id S fr0 T [aI 6,aI s,aI 0,xs,.nl] k1)(ws:Own (S.n+4) T xs 3 [[aI s]]){r:Nat}(hr:r≤8)(ha:k≤k1)(hb:k1+r≤k+9):
    loopV lv50_1 (vc Pg (c50.at_ [1,1,1,1,0,1,0,1,1,1,1,1,1,1,1,1,1,1,0,1,0,1,0,0]) (ms50.drop 3)) 306 (env50_1 (.p id 0 0) (aI (d+1:Nat)) (.p S.n 0 0) (.p (S.n+1) 0 0) (.p (S.n+2) 0 0) (aI r)) T (blockK 5 (seqK (vc Pg (c50.at_ [1,1,1,1,0,1,0,1,1,1,1,1,1,1,1,1,1,1,0,1,1]) (ms50.drop 4)) (blockK 0 (seqK (vc Pg (c50.at_ [1,1,1,1,1]) (ms50.drop 5)) (bodyK Pg r50 (GrQ c l id S k (d+1))))))):=by
 have hP:PP (d+1)=9+9*PP d:=rfl
 refine loop50_1 (fun y T'=>∃(i k' m:Nat) (xs:AV) (ss:List Int),y=aI i∧m+i≤8∧k'+i≤k+9∧k≤k'∧Gst c l id S fr0 T' [aI 6,aI s,aI 0,xs,.nl] k'∧Own (S.n+4) T' xs 3 (ss.map fun a=>[aI a])∧ss.length=m+1∧∀ x∈ss,i64R x)
  (fun y _=>((intA y).getD 0).toNat) ⟨r,k1,0,xs,[s],rfl,by omega,hb,ha,g,ws,rfl,fun x hx=>by rw[List.mem_singleton.1 hx];exact hs⟩ ?_
 rintro _ T1 ⟨i,k',m,xs,ss,rfl,hm,hki,hkk,g1,ws1,hlen,hss⟩ KE1 hKE1
 unfold b50_1
 have gn1:=g1.n
 rw[bin_gtr,onB_v]
 refine gd_of (fun hlt=>?_) (fun hge=>?_)
 ·obtain⟨i',rfl⟩:∃ i',i=i'+1:=⟨i - 1,by have:=dT hlt;omega⟩
  have hml:m<ss.length:=by omega
  obtain⟨ix,rfl,hx1,hx2,hx3⟩:=ws1.ix (i:=m) (by simp;omega)
  rw[List.length_map]at *
  rw[shift_p,ld1_p g1.to rfl rfl,shift_p,ld1_p g1.to rfl rfl,lenS_s,sub_N hlen (by omega),ixS_s hml hx3,ld1_p hx3 (map_at hml) rfl]
  refine gr_next hg g1.go (by omega) (hss _ (List.getElem_mem hml)) fun v k2 T2 hv a2 b2 m2 q2 w2=>?_
  have g2:=g1.mv hid (by omega) (fun x _ hne=>w2 x hne) q2
  have gn2:=g2.n
  have hx32:=(w2 _ (by omega)).trans hx3
  have ws2:Own (S.n+4) T2 (.s ix 0 ss.length) 3 (ss.map fun a=>[aI a]):=.inr ⟨ix,by rw[List.length_map],hx1,by omega,hx32⟩
  refine loop50_3 (fun y z T'=>T'=T2∧∃(b:Int) (j:Nat),y=aI b∧z=aI j∧-1≤b∧b<ss.length∧j≤ss.length) (fun _ z _=>ss.length - ((intA z).getD 0).toNat) ⟨rfl,-1,0,rfl,rfl,by omega,by omega,Nat.zero_le _⟩ ?_
  rintro _ _ T2 ⟨rfl,b,j,rfl,rfl,hb1,hb2,hj⟩ KE3 hKE3
  unfold b50_3
  rw[shift_p,ld1_p g2.to rfl rfl,lenS_s,bin_lss,onB_v]
  refine gd_of (fun hlj=>?_) (fun hgj=>?_)
  ·have hlj:j<ss.length:=by have:=dT hlj;omega
   rw[shift_p,ld1_p g2.to rfl rfl,ixS_s hlj hx32,ld1_p hx32 (map_at hlj) rfl,bin_eql,onB_v]
   refine gd_of (fun _=>?_) (fun _=>?_)
   ·rw[bin_add (by omega) (by omega)]
    exact hKE3 _ _ _ ⟨rfl,j,j+1,rfl,rfl,by omega,by omega,hlj⟩ (by simp[intA];omega)
   ·rw[bin_add (by omega) (by omega)]
    exact hKE3 _ _ _ ⟨rfl,b,j+1,rfl,rfl,hb1,hb2,hlj⟩ (by simp[intA];omega)
  ·have step:shift (.p (S.n+2) 0 0) 3 T2 fun v1 T=>ld1 v1 T fun v1 T=>bslN 3 1 1 [.v (.int .i64 0)] [(0,aI v)] T fun v2 T=>appS 3 1 8 v1 v2 T fun v3 T=>shift (.p (S.n+2) 0 0) 3 T fun v4 T=>stN 1 v4 v3 T fun _ T=>bin .sub 0 (aI (i'+1:Nat)) (.v (.int .i64 1)) T fun v5 T=>KE1 306 (env50_1 (.p id 0 0) (aI (d+1:Nat)) (.p S.n 0 0) (.p (S.n+1) 0 0) (.p (S.n+2) 0 0) v5) T:=by
     rw[shift_p,ld1_p g2.to rfl rfl]
     refine bsl1 rfl (fun _ h=>by cases h) ?_
     refine ws2.app (c:=[aI v]) (by omega) rfl (by simp;omega) (fun z T3 w3 b3 hz=>?_) rfl
     obtain⟨m3,hm3⟩:=hz
     have n3:=b3.1
     have old3:∀ x,x<S.n+4→T3.obj x=T2.obj x:=fun x hx=>b3.2 x (by omega) (fun b m e=>by have:=ws2.lt e;omega)
     have g3:=g2.lo hid n3 old3
     rw[shift_p]
     refine g3.set hid (by simp) (by rw[hm3];rfl) fun T4 n4 g4 f4=>?_
     rw[sub_N rfl (by omega)]
     refine hKE1 _ _ ⟨i',k2,m+1,z,ss ++ [v],rfl,by omega,by omega,by omega,g4,?_,by simp[hlen],fun x hx=>?_⟩ (by simp[intA])
     ·rw[List.map_append]
      exact w3.st (id:=S.n+2) (fun b m e=>by rw[hm3]at e;injection e;omega) n4 f4
     ·rcases List.mem_append.1 hx with hx|hx
      ·exact hss x hx
      ·rw[List.mem_singleton.1 hx];exact hv
   rw[bin_geq,onB_v]
   refine gd_of (fun hb0=>?_) (fun hb0=>step)
   have hb0:=dT hb0
   rw[bin_lss,onB_v]
   refine gd_of (fun h4=>?_) (fun h4=>step)
   rw[shift_p]
   refine g2.set hid (by simp) rfl fun T4 n4 g4 f4=>?_
   exact loop_four hg hs h hid hk hd IH h0 hfr (b:=b) (by omega) g4 (by omega) (by omega) (ws2.st (id:=S.n+2) (fun b m e=>by injection e;omega) n4 f4) (by omega) hss
 ·have hge:i=0:=by have:=dF hge;omega
  subst hge
  exact loop_four hg hs h hid hk hd IH h0 hfr (b:=0) (by decide) g1 hkk (by omega) ws1 (by omega) hss
end
set_option linter.unusedSectionVars false
theorem bsl1_live{e:Nat}{z u:AV}{S:Store}{K:AV→Store→Prop}(hu:u.one=true)(hA:∀ cs,u≠.a cs)(k:∀ S',Keep S S'→S'.n=S.n+1→S'.obj S.n=some (.cells e [[u]] true)→K (.s S.n 0 1) S'):bslN e 1 1 [z] [(0,u)] S K:=by
 refine⟨[u],?_,.inl ?_⟩
 ·have:cellsOf u=some [u]:=by cases u<;>first|rfl|(simp[AV.one]at hu;simp[cellsOf,AV.one,hu];done)|(simp[AV.one]at hu)|(simp[cellsOf,hu])
  simp[fillA,this,spl]
 ·have:=k (S.new (.cells e [[u]] true)) ((Keep.refl S).new _) rfl (new_self _)
  simpa[chunks]using this
section
variable {c:Ci} {l:List Int} (hg:Gw c l) {s:Int} (hs:i64R s) {S:Store} {id k:Nat} (h:S.obj id=some (grO c l k)) (hid:id<S.n) {d:Nat} (hk:k+PP (d+1)≤1099511627776) (hd:d≤8) (IH:GrK c l d)
include hg hs h hid hk hd IH
theorem grow_ef{f:Fo}(hf:Pu f):ACalls Pg 50 [.p id 0 0,(Fo.mk 11 ⟨#[]⟩ 0 [f]).av,aI s,aI (d+1:Nat)] S (GrR c l id S k (d+1)):=by
 refine gr_of hid (calls50 ?_)
 unfold m50
 rw[Fo.av,Fo.row_mk]
 refine boxA_of rfl fun S1 k1 n1 o1=>?_
 refine boxA_of rfl fun S2 k2 n2 o2=>?_
 rw[bld_of (cs:=[aI 1,aI s,aI 0,.nl,.nl]) rfl]
 refine boxA_of rfl fun S3 k3 n3 o3=>?_
 refine stA_of (cs':=[aI 1,aI s,aI 0,.nl,.nl]) o3 rfl rfl fun S4 n4 o4 f4=>?_
 rw[bld_of (cs:=[aI 2,.v (.string ByteArray.empty),aI 0,.nl]) rfl]
 refine boxA_of rfl fun S5 k5 n5 o5=>?_
 refine stA_of (cs':=[aI 2,.v (.string ByteArray.empty),aI 0,.nl]) o5 rfl rfl fun S6 n6 o6 f6=>?_
 have e1:S1.n=S.n+1:=n1
 have e2:S2.n=S.n+2:=by omega
 have e4:S4.n=S.n+3:=by omega
 have k4:=k3.st (Nat.le_refl _) n4 f4
 have k6:=k5.st (Nat.le_refl _) n6 f6
 have kS:Keep S S6:=((k1.trans k2).trans k4).trans k6
 rw[e1]at o2
 rw[e2]at o4
 rw[e4]at o6
 have g0:Gst c l id S [aI 11,.v (.string ⟨#[]⟩),aI 0,foL [f]] S6 [aI 1,aI s,aI 0,.nl,.nl] k:=⟨by omega,(k6.2 _ (by omega)).trans ((k4.2 _ (by omega)).trans ((k2.2 _ (by omega)).trans o1)),(k6.2 _ (by omega)).trans ((k4.2 _ (by omega)).trans o2),(k6.2 _ (by omega)).trans o4,o6,(kS.2 _ hid).trans h,fun x hx _=>kS.2 x hx⟩
 rw[e1,e2,e4]
 rw[bin_lss,onB_v,decide_eq_false (by omega),gd_false,shift_p,ld1_p g0.fo rfl rfl]
 have lsb:∀(T:Store) (K:AV→Store→Prop),bin .sub 0 (aI (d+1:Nat)) (.v (.int .i64 1)) T K=K (aI d) T:=fun T K=>(bin_sub (by omega) (by omega) 0).trans (by rw[show(((d+1:Nat):Nat):Int) - 1=d by omega])
 have lsl:∀{T0:Store} {P:AV→Prop},(∃ q,(∀ T,Keep T0 T→bin .sub 0 (aI (d+1:Nat)) (.v (.int .i64 1)) T fun v S=>v=q∧S=T)∧P q)=P (aI d):=fun{T0 P}=>LJ_of (op:=fun T K=>bin .sub 0 (aI (d+1:Nat)) (.v (.int .i64 1)) T K) fun T hT K=>lsb T K
 have hP:PP (d+1)=9+9*PP d:=rfl
 refine tno2 (by decide) (tno2 (by decide) (tno2 (by decide) (tno2 (by decide) (tyes2 rfl ?_))))
 rw[onB_v,gd_true]
 have gn:=g0.n
 refine bsl1_live rfl (fun _ h=>by cases h) fun T1 kk1 m1 q1=>?_
 have g1:=g0.keep hid kk1
 rw[shift_p]
 refine g1.set hid (by simp) rfl fun T2 m2 g2 w2=>?_
 rw[shift_p]
 refine g2.set hid (by simp) rfl fun T3 m3 g3 w3=>?_
 have gn3:=g3.n
 refine gr_pick hg g3.go (by omega) (by decide) fun r T4 r0 r1 m4 q4 w4=>?_
 have g4:=g3.mv hid (by omega) (fun x _ hne=>w4 x hne) q4
 obtain⟨j,rfl⟩:=Int.eq_ofNat_of_zero_le r0
 have ws:Own (S.n+4) T4 (.s S6.n 0 1) 3 [[aI s]]:=.inr ⟨S6.n,rfl,by omega,by omega,(w4 _ (by omega)).trans ((w3 _ (by omega)).trans ((w2 _ (by omega)).trans q1))⟩
 exact path_one hg hs h hid hk hd IH (n1:=0) (by decide) rfl (f0:=f) rfl hf (fun e=>by cases e) g4 ws (by omega) (by omega) (by omega)
theorem grow_eu{f g:Fo}(hf:Pu f)(hgf:Pu g):ACalls Pg 50 [.p id 0 0,(Fo.mk 15 ⟨#[]⟩ 0 [f,g]).av,aI s,aI (d+1:Nat)] S (GrR c l id S k (d+1)):=by
 refine gr_of hid (calls50 ?_)
 unfold m50
 rw[Fo.av,Fo.row_mk]
 refine boxA_of rfl fun S1 k1 n1 o1=>?_
 refine boxA_of rfl fun S2 k2 n2 o2=>?_
 rw[bld_of (cs:=[aI 1,aI s,aI 0,.nl,.nl]) rfl]
 refine boxA_of rfl fun S3 k3 n3 o3=>?_
 refine stA_of (cs':=[aI 1,aI s,aI 0,.nl,.nl]) o3 rfl rfl fun S4 n4 o4 f4=>?_
 rw[bld_of (cs:=[aI 2,.v (.string ByteArray.empty),aI 0,.nl]) rfl]
 refine boxA_of rfl fun S5 k5 n5 o5=>?_
 refine stA_of (cs':=[aI 2,.v (.string ByteArray.empty),aI 0,.nl]) o5 rfl rfl fun S6 n6 o6 f6=>?_
 have e1:S1.n=S.n+1:=n1
 have e2:S2.n=S.n+2:=by omega
 have e4:S4.n=S.n+3:=by omega
 have k4:=k3.st (Nat.le_refl _) n4 f4
 have k6:=k5.st (Nat.le_refl _) n6 f6
 have kS:Keep S S6:=((k1.trans k2).trans k4).trans k6
 rw[e1]at o2
 rw[e2]at o4
 rw[e4]at o6
 have g0:Gst c l id S [aI 15,.v (.string ⟨#[]⟩),aI 0,foL [f,g]] S6 [aI 1,aI s,aI 0,.nl,.nl] k:=⟨by omega,(k6.2 _ (by omega)).trans ((k4.2 _ (by omega)).trans ((k2.2 _ (by omega)).trans o1)),(k6.2 _ (by omega)).trans ((k4.2 _ (by omega)).trans o2),(k6.2 _ (by omega)).trans o4,o6,(kS.2 _ hid).trans h,fun x hx _=>kS.2 x hx⟩
 rw[e1,e2,e4]
 rw[bin_lss,onB_v,decide_eq_false (by omega),gd_false,shift_p,ld1_p g0.fo rfl rfl]
 have lsb:∀(T:Store) (K:AV→Store→Prop),bin .sub 0 (aI (d+1:Nat)) (.v (.int .i64 1)) T K=K (aI d) T:=fun T K=>(bin_sub (by omega) (by omega) 0).trans (by rw[show(((d+1:Nat):Nat):Int) - 1=d by omega])
 have lsl:∀{T0:Store} {P:AV→Prop},(∃ q,(∀ T,Keep T0 T→bin .sub 0 (aI (d+1:Nat)) (.v (.int .i64 1)) T fun v S=>v=q∧S=T)∧P q)=P (aI d):=fun{T0 P}=>LJ_of (op:=fun T K=>bin .sub 0 (aI (d+1:Nat)) (.v (.int .i64 1)) T K) fun T hT K=>lsb T K
 have hP:PP (d+1)=9+9*PP d:=rfl
 refine tno2 (by decide) (tno2 (by decide) (tno2 (by decide) (tno2 (by decide) (tno2 (by decide) (tyes2 rfl ?_)))))
 have gn:=g0.n
 refine bsl1_live rfl (fun _ h=>by cases h) fun T1 kk1 m1 q1=>?_
 have g1:=g0.keep hid kk1
 rw[shift_p]
 refine g1.set hid (by simp) rfl fun T2 m2 g2 w2=>?_
 rw[shift_p]
 refine g2.set hid (by simp) rfl fun T3 m3 g3 w3=>?_
 have gn3:=g3.n
 refine gr_pick hg g3.go (by omega) (by decide) fun r T4 r0 r1 m4 q4 w4=>?_
 have g4:=g3.mv hid (by omega) (fun x _ hne=>w4 x hne) q4
 obtain⟨j,rfl⟩:=Int.eq_ofNat_of_zero_le r0
 have ws:Own (S.n+4) T4 (.s S6.n 0 1) 3 [[aI s]]:=.inr ⟨S6.n,rfl,by omega,by omega,(w4 _ (by omega)).trans ((w3 _ (by omega)).trans ((w2 _ (by omega)).trans q1))⟩
 exact path_one hg hs h hid hk hd IH (n1:=1) (by decide) rfl (f0:=f) rfl hgf (fun _=>⟨rfl,hf⟩) g4 ws (by omega) (by omega) (by omega)
theorem grow_eg{f:Fo}(hf:Pu f):ACalls Pg 50 [.p id 0 0,(Fo.mk 13 ⟨#[]⟩ 0 [f]).av,aI s,aI (d+1:Nat)] S (GrR c l id S k (d+1)):=by
 refine gr_of hid (calls50 ?_)
 unfold m50
 rw[Fo.av,Fo.row_mk]
 refine boxA_of rfl fun S1 k1 n1 o1=>?_
 refine boxA_of rfl fun S2 k2 n2 o2=>?_
 rw[bld_of (cs:=[aI 1,aI s,aI 0,.nl,.nl]) rfl]
 refine boxA_of rfl fun S3 k3 n3 o3=>?_
 refine stA_of (cs':=[aI 1,aI s,aI 0,.nl,.nl]) o3 rfl rfl fun S4 n4 o4 f4=>?_
 rw[bld_of (cs:=[aI 2,.v (.string ByteArray.empty),aI 0,.nl]) rfl]
 refine boxA_of rfl fun S5 k5 n5 o5=>?_
 refine stA_of (cs':=[aI 2,.v (.string ByteArray.empty),aI 0,.nl]) o5 rfl rfl fun S6 n6 o6 f6=>?_
 have e1:S1.n=S.n+1:=n1
 have e2:S2.n=S.n+2:=by omega
 have e4:S4.n=S.n+3:=by omega
 have k4:=k3.st (Nat.le_refl _) n4 f4
 have k6:=k5.st (Nat.le_refl _) n6 f6
 have kS:Keep S S6:=((k1.trans k2).trans k4).trans k6
 rw[e1]at o2
 rw[e2]at o4
 rw[e4]at o6
 have g0:Gst c l id S [aI 13,.v (.string ⟨#[]⟩),aI 0,foL [f]] S6 [aI 1,aI s,aI 0,.nl,.nl] k:=⟨by omega,(k6.2 _ (by omega)).trans ((k4.2 _ (by omega)).trans ((k2.2 _ (by omega)).trans o1)),(k6.2 _ (by omega)).trans ((k4.2 _ (by omega)).trans o2),(k6.2 _ (by omega)).trans o4,o6,(kS.2 _ hid).trans h,fun x hx _=>kS.2 x hx⟩
 rw[e1,e2,e4]
 rw[bin_lss,onB_v,decide_eq_false (by omega),gd_false,shift_p,ld1_p g0.fo rfl rfl]
 have lsb:∀(T:Store) (K:AV→Store→Prop),bin .sub 0 (aI (d+1:Nat)) (.v (.int .i64 1)) T K=K (aI d) T:=fun T K=>(bin_sub (by omega) (by omega) 0).trans (by rw[show(((d+1:Nat):Nat):Int) - 1=d by omega])
 have lsl:∀{T0:Store} {P:AV→Prop},(∃ q,(∀ T,Keep T0 T→bin .sub 0 (aI (d+1:Nat)) (.v (.int .i64 1)) T fun v S=>v=q∧S=T)∧P q)=P (aI d):=fun{T0 P}=>LJ_of (op:=fun T K=>bin .sub 0 (aI (d+1:Nat)) (.v (.int .i64 1)) T K) fun T hT K=>lsb T K
 have hP:PP (d+1)=9+9*PP d:=rfl
 refine tno2 (by decide) (tno2 (by decide) (tno2 (by decide) (tno2 (by decide) (tno2 (by decide) (tno2 (by decide) (tyes2 rfl ?_))))))
 have gn:=g0.n
 refine bsl1_live rfl (fun _ h=>by cases h) fun T1 kk1 m1 q1=>?_
 have g1:=g0.keep hid kk1
 rw[shift_p]
 refine g1.set hid (by simp) rfl fun T2 m2 g2 w2=>?_
 rw[shift_p]
 refine g2.set hid (by simp) rfl fun T3 m3 g3 w3=>?_
 have gn3:=g3.n
 refine gr_pick hg g3.go (by omega) (by decide) fun r T4 r0 r1 m4 q4 w4=>?_
 have g4:=g3.mv hid (by omega) (fun x _ hne=>w4 x hne) q4
 obtain⟨j,rfl⟩:=Int.eq_ofNat_of_zero_le r0
 have ws:Own (S.n+4) T4 (.s S6.n 0 1) 3 [[aI s]]:=.inr ⟨S6.n,rfl,by omega,by omega,(w4 _ (by omega)).trans ((w3 _ (by omega)).trans ((w2 _ (by omega)).trans q1))⟩
 rw[show ∀ K:AV→Store→Prop,bin .add 0 (.v (.int .i64 1)) (aI j) T4 K=K (aI (j+1:Nat)) T4 from fun K=>(bin_add (by omega) (by omega) 0).trans (by rw[show(1:Int)+j=(j+1:Nat)by omega])]
 exact loop_one hg hs h hid hk hd IH hf rfl g4 ws (by omega) (by omega) (by omega)
end
theorem gr_grow{c:Ci}{l:List Int}(hg:Gw c l):∀ d,d≤8→GrK c l d:=by
 intro d
 induction d with
 |zero=>exact fun _ f hf s hs S id k h hid hk=>grow_0 hg hs h hid f
 |succ d ih =>
  intro hd f hf s hs S id k h hid hk
  have IH:GrK c l d:=fun{f} hf {s} hs {S id k} h1 h2 h3=>ih (by omega) hf hs h1 h2 h3
  have hd8:d≤8:=by omega
  cases hf with
  |c kd hkd=>exact grow_leaf hg hs h hid hk hd8 IH (by omega) 0 []
  |a lf h0 hl=>exact grow_leaf hg hs h hid hk hd8 IH (by omega) lf []
  |n lf h0 hl=>exact grow_leaf hg hs h hid hk hd8 IH (by omega) 0 _
  |o kd f hkd hf =>
   have:kd=9∨kd=11∨kd=13∨(kd=10∨kd=12∨kd=14∨kd=16∨kd=18):=by omega
   rcases this with rfl|rfl|rfl|hh
   ·exact grow_ex hg hs h hid hk hd8 IH hf
   ·exact grow_ef hg hs h hid hk hd8 IH hf
   ·exact grow_eg hg hs h hid hk hd8 IH hf
   ·exact grow_taken hg hs h hid hk hd8 IH hh 0 _
  |t kd f g hkd hf hgf =>
   have:kd=5∨kd=6∨kd=15∨kd=17∨(kd=10∨kd=12∨kd=14∨kd=16∨kd=18):=by omega
   rcases this with rfl|rfl|rfl|rfl|hh
   ·exact grow_and hg hs h hid hk hd8 IH hf hgf
   ·exact grow_or hg hs h hid hk hd8 IH hf hgf
   ·exact grow_eu hg hs h hid hk hd8 IH hf hgf
   ·exact grow_er hg hs h hid hk hd8 IH hf hgf
   ·exact grow_taken hg hs h hid hk hd8 IH hh 0 _
theorem grown26{c:Ci}{l:List Int}(hg:Gw c l){f:Fo}(hf:f.ok)(hm:f.mayB 60=true){S:Store}:ACalls Pg 26 [c.av,f.av,aL aU8 l] S (fun e S'=>∃ tr,e = .ret tr∧S'=S∧∃ t:Tn,tr=t.av∧t.ok∧t.nodes≤1099511627776):=by
 refine ACalls.treeE (calls26 ?_)
 unfold m26
 obtain⟨m,h1,h2,h3,h4,h5⟩:=hg.cs.sum
 have hpb:pushB f=f.push false:=by rw[pushB,if_pos hm]
 have cp:=ans22 hf
 rw[hpb]at cp
 have hpu:=push_pu f hf hm false
 have hp2:(1:Int)≤2 ^ m:=by have:(0:Int)<2 ^ m:=Int.pow_pos (by decide);omega
 have hp3:=pow_le60 h3
 refine boxA_of rfl fun S1 k1 n1 o1=>?_
 refine boxA_of (Fo.row_len f) fun S2 k2 n2 o2=>?_
 refine boxA_of rfl fun S3 k3 n3 o3=>?_
 have kk:=(k1.trans k2).trans k3
 have p1:=(k3.2 _ (by omega)).trans ((k2.2 _ (by omega)).trans o1)
 rw[ldN_p (n:=8) p1 rfl,bld_of (cs:=grC c l 0) rfl]
 refine boxA_of (grC_len c l 0) fun S4 k4 n4 o4=>?_
 have p14:=(k4.2 _ (by omega)).trans p1
 have p24:=(k4.2 _ (by omega)).trans ((k3.2 _ (by omega)).trans o2)
 have rlen:∀{P:AV→Prop},(∃ q,(∀ T,Keep S4 T→lenS (pL c.latches) T fun v S=>v=q∧S=T)∧P q)=P (aI c.latches.length):=LJ_of (op:=fun T K=>lenS (pL c.latches) T K) fun T hT K=>lenS_pL _
 have radd:∀{P:AV→Prop},(∃ q,(∀ T,Keep S4 T→bin .add 0 (aI c.inputs) (aI c.latches.length) T fun v S=>v=q∧S=T)∧P q)=P (aI m):=LJ_of (op:=fun T K=>bin .add 0 (aI c.inputs) (aI c.latches.length) T K) fun T hT K=>(bin_add (by omega) (by omega) 0).trans (by rw[h1])
 have rshl:∀{P:AV→Prop},(∃ q,(∀ T,Keep S4 T→bin .shl 0 (.v (.int .i64 1)) (aI m) T fun v S=>v=q∧S=T)∧P q)=P (aI (2 ^ m)):=LJ_of (op:=fun T K=>bin .shl 0 (.v (.int .i64 1)) (aI m) T K) fun T hT K=>bin_shl1 h3
 show ∃ q:AV,_
 (repeat (first|with_reducible_and_instances (first|refine WJ ?_|refine W (LJ_ldN (n:=4) p24 (by omega) (Fo.row_len f)) ?_|refine W (LJ_ldp p14 (by omega) (by with_unfolding_all rfl) (by with_unfolding_all rfl)) ?_|refine W (rlen) ?_|refine W (radd) ?_|refine W (rshl) ?_|refine W (J_ldq (by with_unfolding_all rfl)) ?_)|refine J_cA (cp) rfl rfl ?_|refine C_A (cp) rfl rfl ?_|refine L_cA (cp) rfl rfl ?_))
 refine gr_pick hg o4 (by omega) (by omega) fun r S5 r0 r1 n5 q5 f5=>?_
 refine callF_gr (gr_grow hg 8 (Nat.le_refl _) hpu (s:=r) ⟨by omega,by omega⟩ q5 (by omega) (by decide)) fun t k' S6 tok tn a1 b1 n6 q6 f6=>?_
 have o36:=(f6 _ (by omega) (by omega)).trans ((f5 _ (by omega)).trans ((k4.2 _ (by omega)).trans o3))
 refine stA_of (cs':=t.row) o36 (Tn.row_len t) rfl fun S7 n7 o7 f7=>?_
 rw[ldN_p (n:=5) o7 (Tn.row_len t)]
 have hN:NN 8≤1099511627776:=by decide
 exact⟨_,t.av,rfl,⟨by have:=kk.1;omega,fun x hx=>(f7 x (by have:=kk.1;omega)).trans ((f6 x (by have:=kk.1;omega) (by have:=kk.1;omega)).trans ((f5 x (by have:=kk.1;omega)).trans ((k4.2 x (by have:=kk.1;omega)).trans (kk.2 x hx))))⟩,Tn.tr t _ _,t,rfl,tok,by omega⟩
section
set_option maxRecDepth 100000
def c7:Code:=(Tryz.f7.body).getD .skip
end
theorem size_nodes:∀(t:Tn) (m:Int),-1≤m→0≤t.sizeF m→(t.nodes:Int)≤1+m - t.sizeF m:=by
 have hl:∀(l:List Tn),(∀ t∈l,∀ m:Int,-1≤m→0≤t.sizeF m→(t.nodes:Int)≤1+m - t.sizeF m)→∀ m:Int,-1≤m→0≤Tn.sizeFs l m→((Tn.nodesL l:Nat):Int)≤m - Tn.sizeFs l m:=by
  intro l
  induction l with
  |nil=>intro _ m _ h;rw[Tn.sizeFs,Tn.nodesL];omega
  |cons t ts ih =>
   intro hk m hm h
   rw[Tn.sizeFs]at h ⊢
   rw[Tn.nodesL]
   split at h
   ·rename_i h0
    rw[if_pos h0]
    have hr:=sizeF_rng t (m - 1) (by omega)
    have hr2:=(sizeFs_rng ts (fun g _=>sizeF_rng g) (t.sizeF (m - 1)) hr.1).2
    have h1:=hk t (by simp) (m - 1) (by omega) (by omega)
    have h2:=ih (fun g hg=>hk g (by simp[hg])) _ hr.1 h
    omega
   ·omega
 intro t
 induction t using Tn.ind with
 |h k s b ss ks ih =>
  intro m hm h
  rw[Tn.sizeF]at h ⊢
  rw[Tn.nodes]
  split at h
  ·omega
  ·rename_i hq
   rw[if_neg hq]
   have:=hl ks ih m hm h
   omega
theorem law6{l m ls:List Int}(hl:∀ x∈l,0≤x∧x<65536)(hm:∀ x∈m,0≤x∧x<256)(hls:∀ x∈ls,0≤x∧x<256)(hlsz:ls.length≤9223372036854775807){t:Tn}(ht:t.got)(gr:Bool):Ans Pg 6 [aL aW16 l,aL aU8 m,aL aU8 ls,t.av,aB gr] (aB true):=by
 intro S
 refine ACalls.ans_v (calls6 ?_)
 unfold m6
 refine boxA_of (Tn.row_len t) fun S1 k1 n1 o1=>?_
 refine callF_ans ans19 ?_
 rw[un_not,onB_v,gd_nT (b:=true) rfl]
 refine .inl ((of23 hl hm).mono ?_)
 rintro e S' ⟨tr,rfl,rfl,c,f,rfl,hc,hcv,hf⟩
 show extr _ _ _ _
 rw[extr0,extr1]
 refine boxA_of rfl fun S2 k2 n2 o2=>?_
 refine boxA_of rfl fun S3 k3 n3 o3=>?_
 refine stA_of (cs':=c.cells) ((k3.2 _ (by omega)).trans o2) rfl rfl fun S4 n4 o4 f4=>?_
 refine stA_of (cs':=f.row) ((f4 _ (by omega)).trans o3) (Fo.row_len f) rfl fun S5 n5 o5 f5=>?_
 have k5:Keep S S5:=(((k1.trans k2).trans k3).st (id:=S'.n) (by have:=k1.1;omega) n4 f4).st (id:=S2.n) (by have:=k1.1;omega) n5 f5
 have p5:=(f5 _ (by omega)).trans o4
 have t5:=(f5 _ (by omega)).trans ((f4 _ (by omega)).trans ((k3.2 _ (by omega)).trans ((k2.2 _ (by omega)).trans o1)))
 have hcs:Cs c:=⟨hc.ok,hc.right,by
  obtain⟨g1,g2,g3⟩:=gr_inp hc.right
  have:=hc.inp
  have:=hc.lats
  omega⟩
 have hg:Gw c ls:=⟨hc,hcs,hls,hlsz⟩
 have gf:=hf.gd hc
 have hm60:f.mayB 60=true:=mayB_mono f (by decide) gf.may
 have gp:=gf.push false
 have hmay:mayC c f=true:=by rw[mayC,hc.right,hm60,gf.lits];rfl
 have ct:=ans28 hc.ok hf.ok
 rw[gf.truth (by decide) hc]at ct
 have fin:∀(T:Store) (u:Tn),u.ok→u.nodes≤1099511627776→Keep S T→T.obj S'.n=some (.cells 42 [c.cells] true)→T.obj S2.n=some (.cells 24 [f.row] true)→T.obj S.n=some (.cells 37 [u.row] true)→
     ldN 8 (.p S'.n 0 0) T fun v1 T=>ldN 4 (.p S2.n 0 0) T fun v2 T=>ldN 5 (.p S.n 0 0) T fun v3 T=>callF Pg 27 [v1,v2,v3] T (fun r S''=>r = .ret (aB true)∧Keep S S'') fun v20 T=>extr v20 0 T fun v21 T=>extr v20 1 T fun v22 T=>un .not v22 T fun v23 T=>onB v23 fun b=>gd b (AEnd.ret (aB true) = .ret (aB true)∧Keep S T) (bin .gtr 0 v21 (.v (.int .i64 0)) T fun v25 T=>onB v25 fun b=>gd b (AEnd.ret (aB true) = .ret (aB true)∧Keep S T)
      (ldN 8 (.p S'.n 0 0) T fun v1 T=>ldN 4 (.p S2.n 0 0) T fun v2 T=>callF Pg 28 [v1,v2] T (fun r S''=>r = .ret (aB true)∧Keep S S'') fun v29 T=>extr v29 0 T fun v30 T=>extr v29 1 T fun v31 T=>bin .eql 0 v31 (.v (.int .i64 0)) T fun v33 T=>onB v33 fun b=>gd b
       (shift (.p S.n 0 0) 1 T fun v35 T=>ld1 v35 T fun v36 T=>bin .geq 0 v36 (.v (.int .i64 0)) T fun v37 T=>onB v37 fun b=>gd b (shift (.p S.n 0 0) 1 T fun v39 T=>ld1 v39 T fun v40 T=>lenS v30 T fun v41 T=>bin .lss 0 v40 v41 T fun v42 T=>onB v42 fun b=>gd b (shift (.p S.n 0 0) 1 T fun v44 T=>ld1 v44 T fun v45 T=>ixS 4 1 v30 v45 T fun v46 T=>ld1 v46 T fun v47 T=>AEnd.ret v47 = .ret (aB true)∧Keep S T) (AEnd.ret (aB false) = .ret (aB true)∧Keep S T)) (AEnd.ret (aB false) = .ret (aB true)∧Keep S T)) (AEnd.ret (aB false) = .ret (aB true)∧Keep S T))):=by
  intro T u hu hun hT oc of' ot
  rw[ldN_p (n:=8) oc rfl,ldN_p (n:=4) of' (Fo.row_len f),ldN_p (n:=5) ot (Tn.row_len u)]
  refine callF_ans (ans27 hc.ok hf.ok hu) ?_
  rw[extr0,extr1,un_not,onB_v]
  refine gd_of (fun _=>⟨rfl,hT⟩) (fun h2=>?_)
  have h2:(acceptB c f u).2=true:=by simpa using h2
  rw[bin_gtr,onB_v]
  refine gd_of (fun _=>⟨rfl,hT⟩) (fun h1=>?_)
  have h1:=dF h1
  have hacc:u.acc c (f.push false)=(0,true):=by
   unfold acceptB at h1 h2
   split at h2
   ·cases h2
   ·rename_i hq
    rw[if_neg hq]at h1
    split at h2
    ·rename_i hq2
     rw[if_pos hq2]at h1
     have:=(acc_cnt c u hun _ hq2).1
     exact Prod.ext (by show(u.acc c (f.push false)).1=0;omega) hq2
    ·cases h2
  obtain⟨hv,hbit⟩:=sound hc u hun (f.push false) (push_pu f hf.ok hm60 false) hacc
  rw[semC_push gf]at hbit
  obtain⟨v0,v1,v2⟩:=valid_bit hc hv
  have hst:u.row[1]? = some (aI u.st):=Tn.row1 u
  have hlt:=bit_lt hbit
  have hlt2:u.st<((semC c f).length:Int):=by omega
  rw[ldN_p (n:=8) oc rfl,ldN_p (n:=4) of' (Fo.row_len f)]
  refine callF_ans ct ?_
  rw[extr0,extr1,bin_eql,onB_v,gd_T (decide_eq_true rfl),shift_p,ld1_p ot rfl hst,bin_geq,onB_v,gd_T (decide_eq_true v0),shift_p,ld1_p ot rfl hst,lenS_aL,bin_lss,onB_v,gd_T (decide_eq_true hlt2),shift_p,ld1_p ot rfl hst]
  obtain⟨j,hj⟩:=Int.eq_ofNat_of_zero_le v0
  rw[hj]at hbit hlt ⊢
  rw[Int.toNat_natCast]at hbit hlt
  rw[ixS_aL hlt,ld1_q,←bit_get hlt,hbit]
  exact⟨rfl,hT⟩
 rw[onB_v]
 refine gd_of (fun hgr=>?_) (fun hgr=>?_)
 ·rw[ldN_p (n:=8) p5 rfl,ldN_p (n:=4) o5 (Fo.row_len f)]
  refine .inl ((grown26 hg hf.ok hm60).mono ?_)
  rintro e S6 ⟨tr,rfl,rfl,u,rfl,uok,un⟩
  show stN _ _ _ _ _
  refine stA_of (cs':=u.row) t5 (Tn.row_len u) (Tn.row_len t) fun S7 n7 o7 f7=>?_
  exact fin S7 u uok un (k5.st (id:=S.n) (Nat.le_refl _) n7 f7) ((f7 _ (by omega)).trans p5) ((f7 _ (by omega)).trans o5) o7
 ·rw[ldN_p (n:=5) t5 (Tn.row_len t)]
  refine callF_ans (ans24 t ht (m:=300) (by decide) ⟨by decide,by decide⟩) ?_
  rw[bin_lss,onB_v]
  refine gd_of (fun h=>?_) (fun h=>?_)
  ·rw[ldN_p (n:=8) p5 rfl,ldN_p (n:=4) o5 (Fo.row_len f)]
   refine .inl ((grown26 hg hf.ok hm60).mono ?_)
   rintro e S6 ⟨tr,rfl,rfl,u,rfl,uok,un⟩
   show stN _ _ _ _ _
   refine stA_of (cs':=u.row) t5 (Tn.row_len u) (Tn.row_len t) fun S7 n7 o7 f7=>?_
   exact fin S7 u uok un (k5.st (id:=S.n) (Nat.le_refl _) n7 f7) ((f7 _ (by omega)).trans p5) ((f7 _ (by omega)).trans o5) o7
  ·have h:=dF h
   have hn:=size_nodes t 300 (by decide) (by omega)
   exact fin S5 t (got_okT t ht (m:=300) (by decide) (by decide) (by omega)) (by omega) k5 p5 o5 t5
section
variable {H:Type} {enc:TypeId × Value→H} {w:World} {sp:Nat→Bool} {held:Bool}
theorem opB:Opens enc Pg w sp held 4 1 (fun b:Bool=>[aB b]) (fun _=>True):=opens_bool Tryz.underlying4
end
end
end Go.Proofs.YtolgpokppnajdaaGreat.G

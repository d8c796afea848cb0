/- Tree -/
import Derived.Test.YtfhekpnddoihkaaGreatProg
import Derived.KernelRfl
import Derived.Test.YtfhekpnddoihkaaGreatTgT4
set_option linter.unusedVariables false
set_option linter.unusedSimpArgs false
namespace Go.Proofs.YtfhekpnddoihkaaGreat.G
open Go Go.Ab
noncomputable section
def litV(m:Int)(n:ByteArray):Int:=((n.size:Int)*7+(n[0]!).toNat).tmod (if 1 > m then 1 else m)
mutual
def Fo.litsF(m:Int):Fo→Fo
 |.mk k n _ ks=>.mk k ⟨#[]⟩ (if k=3 then litV m n else 0) (Fo.litsFs m ks)
def Fo.litsFs(m:Int):List Fo→List Fo
 |[]=>[]
 |f :: fs=>Fo.litsF m f :: Fo.litsFs m fs
end
theorem Fo.litsFs_map(m:Int):∀ l:List Fo,Fo.litsFs m l=l.map (Fo.litsF m)
 |[]=>by rw[Fo.litsFs];rfl
 |f :: fs=>by rw[Fo.litsFs,Fo.litsFs_map m fs];rfl
theorem Fo.litsF_mk(m k:Int)(n:ByteArray)(l:Int)(ks:List Fo):Fo.litsF m (.mk k n l ks) = .mk k ⟨#[]⟩ (if k=3 then litV m n else 0) (ks.map (Fo.litsF m)):=by rw[Fo.litsF,Fo.litsFs_map]
theorem litV_rng{m:Int}(n:ByteArray):0≤litV m n∧litV m n<max m 1:=by
 unfold litV
 have h:(0:Int)<(if 1 > m then 1 else m):=by split<;>omega
 have h0:(0:Int)≤(n.size:Int)*7+(n[0]!).toNat:=by omega
 have h3:(if 1 > m then 1 else m)≤max m 1:=by split<;>omega
 generalize(if 1 > m then 1 else m)=q at *
 rw[Int.tmod_eq_emod_of_nonneg h0]
 have h1:=Int.emod_nonneg ((n.size:Int)*7+(n[0]!).toNat) (show q≠0 by omega)
 have h2:=Int.emod_lt_of_pos ((n.size:Int)*7+(n[0]!).toNat) h
 exact⟨h1,by omega⟩
theorem litsF_ok{m:Int}(hm:m≤9223372036854775807):∀(f:Fo) (d:Nat),MadeF d f→(f.litsF m).ok∧(f.litsF m).mayB (d+1)=true∧∀ g:Gr,(∀ l:Int,0≤l→l<max m 1→g.lit l=true)→(f.litsF m).litsB g=true:=by
 intro f
 induction f using Fo.ind with
 |h k n l ks ih =>
  intro d h
  cases h with
  |mk d _ _ _ h1 h2 h3 h4 h5 h6 h =>
   have hk:=kidsN_le k
   have hv:=litV_rng (m:=m) n
   rw[Fo.litsF_mk]
   refine⟨.mk _ _ _ _ ⟨by omega,by omega⟩ (by unfold i64R;split<;>omega) (by decide) (by rw[List.length_map];omega) fun g hg=>?_,?_,fun g hg=>?_⟩
   ·obtain⟨f,hf,rfl⟩:=List.mem_map.1 hg
    exact(ih f hf _ (h f hf)).1
   ·rw[Fo.mayB_mk]
    simp only[Bool.and_eq_true,decide_eq_true_eq,List.all_eq_true,List.length_map]
    refine⟨by omega,?_,trivial,h3,fun g hg=>?_⟩
    ·split
     ·rename_i hk3
      rcases Int.lt_or_eq_of_le hv.1 with h|h
      ·exact .inr ⟨h,hk3⟩
      ·exact .inl h.symm
     ·exact .inl rfl
    ·obtain⟨f,hf,rfl⟩:=List.mem_map.1 hg
     have:=(ih f hf _ (h f hf)).2.1
     have hd:=h6 (fun e=>by subst e;cases hf)
     rwa [show((d - 1:Nat):Int)+1=(d:Int)+1 - 1 by omega]at this
   ·rw[Fo.litsB_mk]
    simp only[Bool.and_eq_true,Bool.or_eq_true,decide_eq_true_eq,List.all_eq_true]
    refine⟨?_,fun g' hg'=>?_⟩
    ·by_cases hk3:k=3
     ·rw[if_pos hk3];exact .inr (hg _ hv.1 hv.2)
     ·exact .inl hk3
    ·obtain⟨f,hf,rfl⟩:=List.mem_map.1 hg'
     exact(ih f hf _ (h f hf)).2.2 g hg
theorem mayB_mono:∀(f:Fo) {d d':Int},d≤d'→f.mayB d=true→f.mayB d'=true:=by
 intro f
 induction f using Fo.ind with
 |h k n l ks ih =>
  intro d d' hd h
  rw[Fo.mayB_mk]at h ⊢
  simp only[Bool.and_eq_true,decide_eq_true_eq,List.all_eq_true]at h ⊢
  obtain⟨h1,h2,h3,h4,h5⟩:=h
  exact⟨by omega,h2,h3,h4,fun f hf=>ih f hf (by omega) (h5 f hf)⟩
theorem word0{n:ByteArray}(h:n∈wordsL):0<n.size∧n.size≤3:=by
 simp only[wordsL,List.mem_cons,List.not_mem_nil,or_false]at h
 rcases h with rfl|rfl|rfl|rfl|rfl|rfl|rfl<;>decide
theorem ans21{m:Int}(hm:i64R m):∀(f:Fo) (d:Nat),MadeF d f→Ans Pg 21 [f.av,aI m] (f.litsF m).av:=by
 intro f
 induction f using Fo.ind with
 |h k n l ks ih =>
  intro d h S
  have hok:=h.ok
  cases h with
  |mk d _ _ _ h1 h2 h3 h4 h5 h6 hks =>
  have hkl:=kidsN_le k
  refine ACalls.tree (calls21 ?_)
  unfold m21
  rw[Fo.av,Fo.row_mk]
  refine boxA_of rfl fun S1 k1 n1 o1=>?_
  refine boxA_of rfl fun S2 k2 n2 o2=>?_
  have p2:=(k2.2 _ (by omega)).trans o1
  rw[shift_p,ld1_p p2 rfl rfl,bld_of (cs:=[aI k,.v (.string ⟨#[]⟩),aI 0,.nl]) rfl]
  refine boxA_of rfl fun S3 k3 n3 o3=>?_
  refine stA_of (cs':=[aI k,.v (.string ⟨#[]⟩),aI 0,.nl]) o3 rfl rfl fun S4 n4 o4 f4=>?_
  have k4:=k3.st (Nat.le_refl _) n4 f4
  have p4:=(k4.2 _ (by omega)).trans p2
  have r4:=(k4.2 _ (by omega)).trans o2
  have kk:=(k1.trans k2).trans k4
  have tail:∀(T:Store) (v:Int),v=(if k=3 then litV m n else 0)→Keep S T→S4.n≤T.n→T.obj S.n=some (.cells 32 [[aI k,.v (.string n),aI 0,foL ks]] true)→T.obj S1.n=some (.cells 32 [[.v (.int .i64 0),.v (.string ByteArray.empty),.v (.int .i64 0),.nl]] true)→
      T.obj S2.n=some (.cells 32 [[aI k,.v (.string ⟨#[]⟩),aI v,.nl]] true)→
      loopV lv21_0 (vc Pg (c21.at_ [1,1,1,0,1,0,0]) (ms21.drop 1)) 46 (env21_0 (aI m) (.p S.n 0 0) (.p S1.n 0 0) (.p S2.n 0 0) (.v (.int .i64 0))) T (blockK 0 (seqK (vc Pg (c21.at_ [1,1,1,1]) (ms21.drop 1)) (bodyK Pg r21 fun e S'=>∃ r,e = .ret r∧Keep S S'∧Cv (S'.frz (newer S.n)) S.n r (Fo.litsF m (.mk k n 0 ks)).av))):=by
   intro T v hv kT nT oa ob oc
   refine loop21_0 (fun y S'=>∃(i:Nat) (z:AV),y=aI i∧i≤ks.length∧Keep S S'∧S4.n≤S'.n∧S'.obj S.n=some (.cells 32 [[aI k,.v (.string n),aI 0,foL ks]] true)∧S'.obj S1.n=some (.cells 32 [[.v (.int .i64 0),.v (.string ByteArray.empty),.v (.int .i64 0),.nl]] true)∧
       S'.obj S2.n=some (.cells 32 [[aI k,.v (.string ⟨#[]⟩),aI v,z]] true)∧Own S4.n S' z 32 (((ks.take i).map (Fo.litsF m)).map Fo.row))
    (fun y _=>ks.length - ((intA y).getD 0).toNat) ⟨0,.nl,rfl,Nat.zero_le _,kT,nT,oa,ob,oc,.nl _ _ _⟩ ?_
   rintro _ S5 ⟨i,z,rfl,hi,k5,n5,oa,ob,oc,w5⟩ KE hKE
   unfold b21_0
   rw[shift_p,ld1_p oa rfl rfl,lenS_foL,bin_lss,onB_v]
   refine gd_of (fun hlt=>?_) (fun hge=>?_)
   ·have hlt:i<ks.length:=by have:=dT hlt;omega
    have hmem:=List.getElem_mem hlt
    refine L_shift ?_
    refine L_ldp oc (by omega) rfl rfl ?_
    refine L_shift ?_
    refine L_ldp oa (by omega) rfl rfl ?_
    refine⟨_,fun T hT=>by rw[ixS_foL hlt];exact⟨rfl,rfl⟩,?_⟩
    refine L_ldNq (Fo.row_len _) ?_
    refine L_callA (ih _ hmem _ (hks _ hmem)) ?_
    refine⟨.l [(Fo.litsF m ks[i]).row],fun T hT=>bslA4 (Fo.row_len _) ⟨rfl,rfl⟩,?_⟩
    refine w5.app (c:=(Fo.litsF m ks[i]).row) (by omega) (Fo.row_len _) (by simp;omega) (fun z' S6 w6 b6 hz=>?_) rfl
    obtain⟨m6,hm6⟩:=hz
    have n6:=b6.1
    have old6:∀ x,x<S4.n→S6.obj x=S5.obj x:=fun x hx=>b6.2 x (by omega) (fun b m e=>by have:=w5.lt e;omega)
    refine L_shift ?_
    refine stF_of ((old6 _ (by omega)).trans oc) (by simp) (by rw[hm6];rfl) fun S7 n7 o7 f7=>?_
    rw[bin_add (by omega) (by omega)]
    have old7:∀ x,x<S2.n→S7.obj x=S5.obj x:=fun x hx=>(f7 x (by omega)).trans (old6 x (by omega))
    refine hKE _ _ ⟨i+1,z',rfl,hlt,⟨by have:=k5.1;omega,fun x hx=>(old7 x (by omega)).trans (k5.2 x hx)⟩,by omega,(old7 _ (by omega)).trans oa,(old7 _ (by omega)).trans ob,o7,?_⟩ (by simp[intA];omega)
    rw[List.take_add_one,List.getElem?_eq_getElem hlt,List.map_append,List.map_append]
    exact w6.st (id:=S2.n) (fun b m e=>by rw[hm6]at e;injection e;omega) n7 f7
   ·have hge:i=ks.length:=by have:=dF hge;omega
    subst hge
    rw[ldN_p (n:=4) oc rfl]
    refine stA_of ob rfl rfl fun S6 n6 o6 f6=>?_
    rw[ldN_p (n:=4) o6 rfl]
    have w6:Own S4.n S6 z 32 _:=w5.st (id:=S1.n) (fun b m e=>by have:=w5.lt e;omega) n6 f6
    rw[List.take_length]at w6
    refine⟨_,rfl,k5.st (by omega) n6 f6,?_⟩
    rw[Fo.litsF_mk,Fo.av,Fo.row_mk,←hv]
    refine .a _ _ rfl fun k u u2 e1 e2=>?_
    match k with
    |0=>cases e1;cases e2;exact .v _
    |1=>cases e1;cases e2;exact .v _
    |2=>cases e1;cases e2;exact .v _
    |3=>cases e1;cases e2;exact own_rows (fun r hr u hu=>by obtain⟨f,_,rfl⟩:=List.mem_map.1 hr;exact Fo.tree f u hu) w6 (by omega)
    |k+4=>simp at e1
  rw[shift_p,ld1_p p4 rfl rfl,bin_eql,onB_v]
  refine gd_of (fun hk3=>?_) (fun hk3=>?_)
  ·have hk3:k=3:=dT hk3
   obtain⟨hn0,hn3⟩:=word0 (h4 hk3)
   have hb:((n[0]!).toNat)≤255:=by have:=(n[0]!).toNat_lt;omega
   have hne:(if 1 > m then 1 else m)≠0:=by split<;>omega
   refine L_shift ?_
   refine L_ldp p4 (by omega) rfl rfl ?_
   refine⟨_,fun T hT=>by rw[lenStr_b];exact⟨rfl,rfl⟩,?_⟩
   refine⟨_,fun T hT=>by rw[bin_mul (by omega) (by omega)];exact⟨rfl,rfl⟩,?_⟩
   refine L_shift ?_
   refine L_ldp p4 (by omega) rfl rfl ?_
   refine⟨_,fun T hT=>by rw[show ∀ K:AV→Store→Prop,ixStr (.v (.string n)) (.v (.int .i64 0)) T K=K (.v (.int .u8 (n[0]!).toNat)) T from fun K=>(ixStr_b (i:=0) hn0).trans (by rw[getElem!_pos n 0 hn0])];exact⟨rfl,rfl⟩,?_⟩
   refine⟨_,fun T hT=>by rw[convI_64 _ (by omega) (by omega)];exact⟨rfl,rfl⟩,?_⟩
   refine⟨_,fun T hT=>by rw[bin_add (by omega) (by omega)];exact⟨rfl,rfl⟩,?_⟩
   refine⟨_,fun T hT=>by rw[mx_true];exact⟨rfl,rfl⟩,?_⟩
   refine⟨_,fun T hT=>by rw[bin_rem hne];exact⟨rfl,rfl⟩,?_⟩
   refine L_shift ?_
   refine stF_of o4 (by simp) rfl fun S5 n5 o5 f5=>?_
   exact tail S5 _ (by rw[if_pos hk3];rfl) (kk.st (by omega) n5 f5) (by omega) ((f5 _ (by omega)).trans p4) ((f5 _ (by omega)).trans r4) o5
  ·have hk3:¬ k=3:=dF hk3
   exact tail S4 0 (by rw[if_neg hk3]) kk (Nat.le_refl _) p4 r4 o4
abbrev foOne(k:Int)(f:Fo):Fo:=.mk k ⟨#[]⟩ 0 [f]
abbrev foTwo(k:Int)(f g:Fo):Fo:=.mk k ⟨#[]⟩ 0 [f,g]
theorem bslA42{e:Nat}{z1 z2 z3 z4:AV}{r r2:List AV}{S:Store}{K:AV→Store→Prop}(hr:r.length=4)(hr2:r2.length=4)(k:K (.l [r,r2]) S):bslN e 4 2 [z1,z2,z3,z4] [(0,.a r),(1,.a r2)] S K:=by
 match r,hr,r2,hr2 with
 |[u,v,w,x],_,[u2,v2,w2,x2],_ =>
  refine⟨[u,v,w,x,u2,v2,w2,x2],?_,.inr ?_⟩
  ·simp[fillA,cellsOf,spl,List.range_succ]
  ·simpa[chunks,List.range_succ]using k
theorem Fo.tr(f:Fo):Tree f.av:=Tree.a fun u hu=>Fo.tree f u hu
structure ResV (v:Int) (f:Fo):Prop where
 ok:f.ok
 may:f.mayB 7=true
 lits:∀ g:Gr,(∀ l:Int,0≤l→l<2*v→g.lit l=true)→f.litsB g=true
theorem res10{l:List Int}(hl:∀ x∈l,0≤x∧x<256){v:Int}(hv:1≤v)(hv2:v≤1000000){S:Store}:ACalls Pg 10 [aL aU8 l,aI (2*v)] S (fun e S'=>∃ tr,e = .ret tr∧S'=S∧∃ f:Fo,tr=f.av∧ResV v f):=by
 refine ACalls.treeE (calls10 ?_)
 unfold m10
 refine boxA_of rfl fun S1 k1 n1 o1=>?_
 refine .inl ((made22 hl).mono ?_)
 rintro e S' ⟨tr,rfl,rfl,f,rfl,hf⟩
 show callF _ _ _ _ _ _
 refine callF_ans (ans21 (m:=2*v) ⟨by omega,by omega⟩ f 6 hf) ?_
 refine stA_of o1 (Fo.row_len _) rfl fun S3 n3 o3 f3=>?_
 rw[ldN_p (n:=4) o3 (Fo.row_len _)]
 obtain⟨h1,h2,h3⟩:=litsF_ok (m:=2*v) (by omega) f 6 hf
 exact⟨_,_,rfl,k1.st (Nat.le_refl _) n3 f3,Fo.tr _ _ _,_,rfl,h1,h2,fun g hg=>h3 g fun l h0 hlt=>hg l h0 (by omega)⟩
theorem made_lit{c:Ci}(h:MadeC c):1≤c.gr.vars∧c.gr.vars≤100∧∀ l:Int,0≤l→l<2*c.gr.vars→c.gr.lit l=true:=by
 obtain⟨g1,g2,g3⟩:=gr_inp h.right
 have h1:=h.inp
 have h2:=h.lats
 have h3:=h.ands
 have hv:c.gr.vars=c.inputs+c.latches.length+1+c.ands.length:=by
  unfold Gr.vars
  rw[g1]
  show _+1+(c.ands.length:Int)=_
  rfl
 refine⟨by omega,by omega,fun l h0 hl=>lit_iff.2 ⟨g2,by omega,h0,by omega⟩⟩
theorem ResV.litsC{c:Ci}{f:Fo}(h:ResV c.gr.vars f)(hc:MadeC c):f.litsB c.gr=true:=h.lits c.gr (made_lit hc).2.2
theorem of4{l m:List Int}(hl:∀ x∈l,0≤x∧x<65536)(hm:∀ x∈m,0≤x∧x<256){S:Store}:ACalls Pg 4 [aL aW16 l,aL aU8 m] S (fun e S'=>∃ tr,e = .ret tr∧S'=S∧∃(c:Ci) (f:Fo),tr = .t [c.av,f.av]∧MadeC c∧c.gr.vars=varsL l∧ResV c.gr.vars f):=by
 refine ACalls.treeE (calls4 ?_)
 unfold m4
 refine boxA_of rfl fun S1 k1 n1 o1=>?_
 refine boxA_of rfl fun S2 k2 n2 o2=>?_
 have p2:=(k2.2 _ (by omega)).trans o1
 refine .inl ((made29 hl).mono ?_)
 rintro e S' ⟨tr,rfl,rfl,c,rfl,hc,hcv,_⟩
 show boxN _ _ _ _ _
 refine boxA_of rfl fun S3 k3 n3 o3=>?_
 refine stA_of (cs':=c.cells) o3 rfl rfl fun S4 n4 o4 f4=>?_
 have k4:=k3.st (Nat.le_refl _) n4 f4
 obtain⟨v1,v2,v3⟩:=made_lit hc
 obtain⟨g1,g2,g3⟩:=gr_inp hc.right
 have hi:=hc.inp
 have hla:=hc.lats
 refine L_ldN (n:=8) o4 (by omega) rfl ?_
 refine L_ldN (n:=8) o4 (by omega) rfl ?_
 refine L_callA (ans12 c) ?_
 refine L_callA (ans11 hc.ok.gr (by omega) (by omega)) ?_
 refine⟨aI (2*c.gr.vars),fun T hT=>by rw[bin_mul (by omega) (by omega)];exact⟨rfl,rfl⟩,?_⟩
 refine .inl ((res10 hm (v:=c.gr.vars) v1 (by omega)).mono ?_)
 rintro e S' ⟨tr,rfl,rfl,f,rfl,hf⟩
 refine⟨fun T hT=>by rw[ldN_p (n:=8) ((hT.2 _ (by omega)).trans o4) rfl];exact⟨rfl,rfl⟩,?_⟩
 refine stA_of ((k4.2 _ (by omega)).trans p2) rfl rfl fun S5 n5 o5 f5=>?_
 refine stA_of ((f5 _ (by omega)).trans ((k4.2 _ (by omega)).trans o2)) (Fo.row_len _) rfl fun S6 n6 o6 f6=>?_
 rw[ldN_p (n:=8) ((f6 _ (by omega)).trans o5) rfl,ldN_p (n:=4) o6 (Fo.row_len _)]
 refine⟨_,.t [c.av,f.av],rfl,(((k1.trans k2).trans k4).st (id:=S.n) (by omega) n5 f5).st (id:=S1.n) (by omega) n6 f6,cv_t2 ?_ (Fo.tr _ _ _),c,f,rfl,hc,hcv,hf⟩
 exact Tree.a (fun u hu=>by
  simp only[Ci.cells,List.mem_cons,List.not_mem_nil,or_false]at hu
  rcases hu with rfl|rfl|rfl|rfl|rfl|rfl|rfl|rfl
  ·exact Tree.v _
  ·exact treeP _
  ·exact treeP _
  ·exact treeI _
  ·exact treeI _
  ·exact treeI _
  ·exact treeI _
  ·exact treeN _) _ _
theorem ans40(k:Int)(f:Fo):Ans Pg 40 [aI k,f.av] (foOne k f).av:=by
 intro S
 refine ACalls.tree (calls40 ?_)
 unfold m40
 refine boxA_of (Fo.row_len f) fun S1 k1 n1 o1=>?_
 refine boxA_of rfl fun S2 k2 n2 o2=>?_
 rw[ldN_p (n:=4) ((k2.2 _ (by omega)).trans o1) (Fo.row_len f)]
 refine bslA4 (Fo.row_len f) ?_
 rw[bld_of (cs:=(foOne k f).row) (by rw[Fo.row_mk];rfl)]
 refine stA_of o2 (Fo.row_len _) rfl fun S3 n3 o3 f3=>?_
 rw[ldN_p (n:=4) o3 (Fo.row_len _)]
 exact⟨_,rfl,(k1.trans k2).st (by omega) n3 f3,Fo.tr _ _ _⟩
theorem ans41(k:Int)(f g:Fo):Ans Pg 41 [aI k,f.av,g.av] (foTwo k f g).av:=by
 intro S
 refine ACalls.tree (calls41 ?_)
 unfold m41
 refine boxA_of (Fo.row_len f) fun S1 k1 n1 o1=>?_
 refine boxA_of (Fo.row_len g) fun S2 k2 n2 o2=>?_
 refine boxA_of rfl fun S3 k3 n3 o3=>?_
 have kk:=(k1.trans k2).trans k3
 rw[ldN_p (n:=4) ((k3.2 _ (by omega)).trans ((k2.2 _ (by omega)).trans o1)) (Fo.row_len f),ldN_p (n:=4) ((k3.2 _ (by omega)).trans o2) (Fo.row_len g)]
 refine bslA42 (Fo.row_len f) (Fo.row_len g) ?_
 rw[bld_of (cs:=(foTwo k f g).row) (by rw[Fo.row_mk];rfl)]
 refine stA_of o3 (Fo.row_len _) rfl fun S4 n4 o4 f4=>?_
 rw[ldN_p (n:=4) o4 (Fo.row_len _)]
 exact⟨_,rfl,kk.st (by omega) n4 f4,Fo.tr _ _ _⟩
def dualK(k:Int):Int:=
 if k=1 then 2 else if k=2 then 1 else if k=5 then 6 else if k=6 then 5 else if k=9 then 10 else if k=10 then 9 else if k=11 then 14 else if k=14 then 11
 else if k=13 then 12 else if k=12 then 13 else if k=15 then 18 else if k=18 then 15 else if k=17 then 16 else 17
theorem ans43(k:Int):Ans Pg 43 [aI k] (aI (dualK k)):=by
 intro S
 refine ACalls.ans_v (calls43 ?_)
 unfold m43 dualK
 repeat (first
  |exact⟨rfl,Keep.refl _⟩
  |(rw[bin_eql,onB_v]
    refine gd_of (fun h=>?_) (fun h=>?_)
    ·have h:=dT h
     subst h
     exact⟨rfl,Keep.refl _⟩
    have h:=dF h
    rw[if_neg h]))
abbrev fo0:Fo:=.mk 0 ⟨#[]⟩ 0 []
mutual
def Fo.push:Fo→Bool→Fo
 |.mk k n l ks,t =>
  if k=3 then(if t then foOne 4 (.mk k n l ks)else .mk k n l ks)
  else if k=4 then(Fo.pushs ks (!t)).getD 0 fo0
  else if k=7 then(if t then foTwo 5 ((Fo.pushs ks false).getD 0 fo0) ((Fo.pushs ks true).getD 1 fo0)else foTwo 6 ((Fo.pushs ks true).getD 0 fo0) ((Fo.pushs ks false).getD 1 fo0))
  else if k=8 then foTwo 6 (foTwo 5 ((Fo.pushs ks false).getD 0 fo0) ((Fo.pushs ks t).getD 1 fo0)) (foTwo 5 ((Fo.pushs ks true).getD 0 fo0) ((Fo.pushs ks (!t)).getD 1 fo0))
  else .mk (if t then dualK k else k) ⟨#[]⟩ 0 (Fo.pushs ks t)
def Fo.pushs:List Fo→Bool→List Fo
 |[],_=>[]
 |f :: fs,t=>Fo.push f t :: Fo.pushs fs t
end
theorem Fo.pushs_map(t:Bool):∀ l:List Fo,Fo.pushs l t=l.map fun f=>f.push t
 |[]=>by rw[Fo.pushs];rfl
 |f :: fs=>by rw[Fo.pushs,Fo.pushs_map t fs];rfl
inductive Pu:Fo→Prop
 |c (k:Int) (hk:k=1∨k=2):Pu (.mk k ⟨#[]⟩ 0 [])
 |a (l:Int) (h0:0≤l) (hl:i64R l):Pu (.mk 3 ⟨#[]⟩ l [])
 |n (l:Int) (h0:0≤l) (hl:i64R l):Pu (.mk 4 ⟨#[]⟩ 0 [.mk 3 ⟨#[]⟩ l []])
 |o (k:Int) (f:Fo) (hk:9≤k∧k≤14) (h:Pu f):Pu (.mk k ⟨#[]⟩ 0 [f])
 |t (k:Int) (f g:Fo) (hk:k=5∨k=6∨15≤k∧k≤18) (h:Pu f) (h2:Pu g):Pu (.mk k ⟨#[]⟩ 0 [f,g])
theorem Pu.ok{f:Fo}(h:Pu f):f.ok:=by
 have z:i64R 0:=⟨by decide,by decide⟩
 have e:(⟨#[]⟩:ByteArray).size≤9223372036854775807:=by decide
 induction h with
 |c k hk=>exact .mk _ _ _ _ ⟨by omega,by omega⟩ z e (by simp) (fun f hf=>by cases hf)
 |a l h0 hl=>exact .mk _ _ _ _ ⟨by omega,by omega⟩ hl e (by simp) (fun f hf=>by cases hf)
 |n l h0 hl=>exact .mk _ _ _ _ ⟨by omega,by omega⟩ z e (by simp) (fun f hf=>by
    rw[List.mem_singleton.1 hf]
    exact .mk _ _ _ _ ⟨by omega,by omega⟩ hl e (by simp) (fun f hf=>by cases hf))
 |o k f hk h ih=>exact .mk _ _ _ _ ⟨by omega,by omega⟩ z e (by simp) (fun g hg=>by rw[List.mem_singleton.1 hg];exact ih)
 |t k f g hk h h2 ih ih2=>exact .mk _ _ _ _ ⟨by omega,by omega⟩ z e (by simp) (fun x hx=>by
    simp only[List.mem_cons,List.not_mem_nil,or_false]at hx
    rcases hx with rfl|rfl
    ·exact ih
    ·exact ih2)
theorem push_const{k:Int}{n:ByteArray}{l:Int}{t:Bool}(hk:k=1∨k=2):Fo.push (.mk k n l []) t = .mk (if t then dualK k else k) ⟨#[]⟩ 0 []:=by
 rw[Fo.push,if_neg (by omega),if_neg (by omega),if_neg (by omega),if_neg (by omega),Fo.pushs]
theorem push_atom{n:ByteArray}{l:Int}{t:Bool}:Fo.push (.mk 3 n l []) t=if t then foOne 4 (.mk 3 n l [])else .mk 3 n l []:=by rw[Fo.push,if_pos rfl]
theorem push_not{n:ByteArray}{l:Int}{f:Fo}{t:Bool}:Fo.push (.mk 4 n l [f]) t=f.push (!t):=by
 rw[Fo.push,if_neg (by decide),if_pos rfl,Fo.pushs];rfl
theorem push_imp{n:ByteArray}{l:Int}{f g:Fo}{t:Bool}:Fo.push (.mk 7 n l [f,g]) t=if t then foTwo 5 (f.push false) (g.push true)else foTwo 6 (f.push true) (g.push false):=by
 rw[Fo.push,if_neg (by decide),if_neg (by decide),if_pos rfl,Fo.pushs,Fo.pushs,Fo.pushs,Fo.pushs,Fo.pushs,Fo.pushs];rfl
theorem push_same{n:ByteArray}{l:Int}{f g:Fo}{t:Bool}:Fo.push (.mk 8 n l [f,g]) t=foTwo 6 (foTwo 5 (f.push false) (g.push t)) (foTwo 5 (f.push true) (g.push (!t))):=by
 rw[Fo.push,if_neg (by decide),if_neg (by decide),if_neg (by decide),if_pos rfl]
 simp only[Fo.pushs_map,List.map_cons,List.map_nil];rfl
theorem push_one{k:Int}{n:ByteArray}{l:Int}{f:Fo}{t:Bool}(hk:9≤k∧k≤14):Fo.push (.mk k n l [f]) t = .mk (if t then dualK k else k) ⟨#[]⟩ 0 [f.push t]:=by
 rw[Fo.push,if_neg (by omega),if_neg (by omega),if_neg (by omega),if_neg (by omega),Fo.pushs,Fo.pushs]
theorem push_two{k:Int}{n:ByteArray}{l:Int}{f g:Fo}{t:Bool}(hk:k=5∨k=6∨15≤k∧k≤18):Fo.push (.mk k n l [f,g]) t = .mk (if t then dualK k else k) ⟨#[]⟩ 0 [f.push t,g.push t]:=by
 rw[Fo.push,if_neg (by omega),if_neg (by omega),if_neg (by omega),if_neg (by omega),Fo.pushs,Fo.pushs,Fo.pushs]
theorem dual_one{k:Int}(hk:9≤k∧k≤14):9≤dualK k∧dualK k≤14:=by
 have:k=9∨k=10∨k=11∨k=12∨k=13∨k=14:=by omega
 rcases this with rfl|rfl|rfl|rfl|rfl|rfl<;>decide
theorem dual_two{k:Int}(hk:k=5∨k=6∨15≤k∧k≤18):dualK k=5∨dualK k=6∨15≤dualK k∧dualK k≤18:=by
 have:k=5∨k=6∨k=15∨k=16∨k=17∨k=18:=by omega
 rcases this with rfl|rfl|rfl|rfl|rfl|rfl<;>decide
theorem push_pu:∀(f:Fo),f.ok→∀{d:Int},f.mayB d=true→∀ t,Pu (f.push t):=by
 intro f
 induction f using Fo.ind with
 |h k n l ks ih =>
  intro hok d hm t
  obtain⟨o1,o2,o3,o4,o5⟩:=hok.inv
  obtain⟨rfl,hd,h⟩:=may_cases hm
  rcases h with⟨hk,rfl,rfl⟩|⟨rfl,rfl,h0⟩|⟨hk,rfl,f,rfl,hf⟩|⟨hk,rfl,f,g,rfl,hf,hg⟩
  ·rw[push_const hk]
   refine .c _ ?_
   rcases hk with rfl|rfl<;>cases t<;>decide
  ·rw[push_atom]
   cases t with
   |true=>exact .n _ h0 o2
   |false=>exact .a _ h0 o2
  ·have hf':=fun t=>ih f (by simp) (o5 f (by simp)) hf t
   by_cases h4:k=4
   ·subst h4
    rw[push_not]
    exact hf' _
   ·rw[push_one (by omega)]
    refine .o _ _ ?_ (hf' _)
    have:=dual_one (k:=k) (by omega)
    split<;>omega
  ·have hf':=fun t=>ih f (by simp) (o5 f (by simp)) hf t
   have hg':=fun t=>ih g (by simp) (o5 g (by simp)) hg t
   by_cases h7:k=7
   ·subst h7
    rw[push_imp]
    cases t with
    |true=>exact .t _ _ _ (by decide) (hf' _) (hg' _)
    |false=>exact .t _ _ _ (by decide) (hf' _) (hg' _)
   by_cases h8:k=8
   ·subst h8
    rw[push_same]
    exact .t _ _ _ (by decide) (.t _ _ _ (by decide) (hf' _) (hg' _)) (.t _ _ _ (by decide) (hf' _) (hg' _))
   rw[push_two (by omega)]
   refine .t _ _ _ ?_ (hf' _) (hg' _)
   have:=dual_two (k:=k) (by omega)
   split<;>omega
def Tn.st:Tn→Int
 |.mk _ s _ _ _=>s
def validS (c:Ci) (s:Int):Bool:=decide (0≤s) && (decide (s<2 ^ c.gr.inputs.toNat) && c.cons.all fun l=>isB c s l)
def behindS (c:Ci) (s t:Int):Bool:=validS c s && (validS c t && decide ((afterB c s).fdiv (2 ^ min c.inputs.toNat 64)=t.fdiv (2 ^ min c.inputs.toNat 64)))
def chainS (c:Ci) (ss:List Int):Bool:=(List.range (ss.length - 1)).all fun i=>behindS c (ss.getD i 0) (ss.getD (i+1) 0)
def metS (c:Ci) (ss:List Int):Bool:=c.fair.all fun l=>ss.any fun s=>isB c s l
abbrev fo2:Fo:=.mk 2 ⟨#[]⟩ 0 []
abbrev foG:Fo:=foOne 13 fo2
open Classical in
def planA (c:Ci) (f:Fo) (tk s a:Int) (ss kst:List Int):(Int × Bool) ⊕ (List Fo × List Int):=
 match f with
 |.mk k _ l fs =>
  if validS c s=false then .inl (0,false)
  else if k=1 then .inl (0,false)
  else if k=2 then .inl (0,decide (tk=1∧a=0∧ss = []∧kst = []))
  else if k=3 then .inl (0,decide (tk=1∧a=0∧ss = []∧kst = []) && isB c s l)
  else if k=4 then .inl (0,decide (tk=1∧a=0∧ss = []∧kst = []) && !isB c s (fs.getD 0 fo0).lit)
  else if k=5 then if tk=2∧a=0∧ss = []then .inr (fs,[s,s])else .inl (0,false)
  else if k=6 then if tk=3∧0≤a∧a≤1∧ss = []then .inr ([fs.getD a.toNat fo0],[s])else .inl (0,false)
  else if k=9 then if tk=4∧a=0∧ss = []∧kst.length=2∧behindS c s (kst.getD 0 0)=true then .inr ([fs.getD 0 fo0,foG],[kst.getD 0 0,kst.getD 0 0])else .inl (0,false)
  else if k=11∨k=15 then if ss≠[]∧ss.getD 0 0=s∧a=0∧tk=5∧chainS c ss=true then .inr (List.replicate (ss.length - 1) (if k=11 then fo2 else fs.getD 0 fo0) ++ [fs.getD (if k=11 then 0 else 1) fo0,foG],ss ++ [ss.getD (ss.length - 1) 0])else .inl (0,false)
  else if k=13 then if ss≠[]∧ss.getD 0 0=s∧0≤a∧a<ss.length∧tk=6∧behindS c (ss.getD (ss.length - 1) 0) (ss.getD a.toNat 0)=true∧chainS c ss=true∧metS c (ss.drop a.toNat)=true then .inr (List.replicate ss.length (fs.getD 0 fo0),ss)else .inl (0,false)
  else if k=17 then if tk=3∧0≤a∧a≤1∧ss = []then .inr ([if a=0 then foOne 13 (fs.getD 1 fo0)else foTwo 15 (fs.getD 1 fo0) (foTwo 5 (fs.getD 0 fo0) (fs.getD 1 fo0))],[s])else .inl (0,false)
  else .inl (1,decide (tk=7∧a=0∧ss = []∧kst = []))
mutual
def Tn.acc (c:Ci):Tn→Fo→Int × Bool
 |.mk tk s a ss ks,f=>match planA c f tk s a ss (ks.map Tn.st)with
  |.inl r=>r
  |.inr (fs,sts)=>Tn.accs c ks fs sts 0
def Tn.accs (c:Ci):List Tn→List Fo→List Int→Int→Int × Bool
 |[],fs,ss,n=>match fs,ss with
  |[],[]=>(n,true)
  |_,_=>(0,false)
 |t :: ts,fs,ss,n=>match fs,ss with
  |f :: fs,s :: ss=>if((Tn.acc c t f).2 && decide (t.st=s))=true then Tn.accs c ts fs ss (IntKind.i64.wrap (n+(Tn.acc c t f).1))else(0,false)
  |_,_=>(0,false)
end
theorem accs_len(c:Ci):∀(ts:List Tn) (fs:List Fo) (ss:List Int) (n:Int),¬ (fs.length=ts.length∧ss.length=ts.length)→Tn.accs c ts fs ss n=(0,false):=by
 intro ts
 induction ts with
 |nil =>
  intro fs ss n h
  cases fs<;>cases ss<;>first|(exact absurd ⟨rfl,rfl⟩ h)|(simp[Tn.accs])
 |cons t ts ih =>
  intro fs ss n h
  cases fs with
  |nil=>cases ss<;>simp[Tn.accs]
  |cons f fs =>
   cases ss with
   |nil=>simp[Tn.accs]
   |cons s ss =>
    rw[Tn.accs]
    split
    ·exact ih fs ss _ (fun hq=>h (by simp[hq]))
    ·rfl
theorem accs_cons{c:Ci}{t:Tn}{ts:List Tn}{f:Fo}{fs:List Fo}{s:Int}{ss:List Int}{n:Int}:Tn.accs c (t :: ts) (f :: fs) (s :: ss) n=if((Tn.acc c t f).2 && decide (t.st=s))=true then Tn.accs c ts fs ss (IntKind.i64.wrap (n+(Tn.acc c t f).1))else(0,false):=by rw[Tn.accs]
theorem accs_nil{c:Ci}{n:Int}:Tn.accs c [] [] [] n=(n,true):=by rw[Tn.accs]
theorem wrap_wrap{a b:Int}:IntKind.i64.wrap (IntKind.i64.wrap a+b)=IntKind.i64.wrap (a+b):=by rw[IntKind.wrap_i64,IntKind.wrap_i64,IntKind.wrap_i64];omega
theorem wrap_wrap'{a b:Int}:IntKind.i64.wrap (a+IntKind.i64.wrap b)=IntKind.i64.wrap (a+b):=by rw[Int.add_comm,wrap_wrap,Int.add_comm]
theorem accs_on(c:Ci):∀(ts:List Tn) (fs:List Fo) (ss:List Int) (n m:Int),(Tn.accs c ts fs ss n).2=(Tn.accs c ts fs ss m).2∧((Tn.accs c ts fs ss n).2=true→IntKind.i64.wrap (m+(Tn.accs c ts fs ss n).1)=IntKind.i64.wrap (n+(Tn.accs c ts fs ss m).1)):=by
 intro ts
 induction ts with
 |nil =>
  intro fs ss n m
  cases fs<;>cases ss<;>first|(simp[Tn.accs];done)|(simp[Tn.accs,Int.add_comm])
 |cons t ts ih =>
  intro fs ss n m
  cases fs with
  |nil=>cases ss<;>simp[Tn.accs]
  |cons f fs =>
   cases ss with
   |nil=>simp[Tn.accs]
   |cons s ss =>
    rw[accs_cons,accs_cons]
    split
    ·obtain⟨h1,h2⟩:=ih fs ss (IntKind.i64.wrap (n+(Tn.acc c t f).1)) (IntKind.i64.wrap (m+(Tn.acc c t f).1))
     refine⟨h1,fun h=>?_⟩
     have h3:=h2 h
     rw[wrap_wrap,wrap_wrap]at h3
     generalize(Tn.accs c ts fs ss (IntKind.i64.wrap (n+(Tn.acc c t f).1))).1=x at *
     generalize(Tn.accs c ts fs ss (IntKind.i64.wrap (m+(Tn.acc c t f).1))).1=y at *
     generalize(Tn.acc c t f).1=z at *
     rw[IntKind.wrap_i64,IntKind.wrap_i64]at h3 ⊢
     omega
    ·exact⟨rfl,fun h=>by cases h⟩
theorem ixF0{e:Nat}{f:Fo}{l:List Fo}{S:Store}{K:AV→Store→Prop}:ixS e 4 (foL (f :: l)) (.v (.int .i64 0)) S K=K (.q f.row 0) S:=ixS_foL (i:=0) (by simp)
theorem ixF1{e:Nat}{f g:Fo}{l:List Fo}{S:Store}{K:AV→Store→Prop}:ixS e 4 (foL (f :: g :: l)) (.v (.int .i64 1)) S K=K (.q g.row 0) S:=ixS_foL (i:=1) (by simp)
theorem LJ_F0{e:Nat}{f:Fo}{l:List Fo}{S0:Store}{P:AV→Prop}:(∃ q,(∀ T,Keep S0 T→ixS e 4 (foL (f :: l)) (.v (.int .i64 0)) T fun v S=>v=q∧S=T)∧P q)=P (.q f.row 0):=LJ_of (op:=fun T K=>ixS e 4 (foL (f :: l)) (.v (.int .i64 0)) T K) fun T hT K=>ixF0
theorem LJ_F1{e:Nat}{f g:Fo}{l:List Fo}{S0:Store}{P:AV→Prop}:(∃ q,(∀ T,Keep S0 T→ixS e 4 (foL (f :: g :: l)) (.v (.int .i64 1)) T fun v S=>v=q∧S=T)∧P q)=P (.q g.row 0):=LJ_of (op:=fun T K=>ixS e 4 (foL (f :: g :: l)) (.v (.int .i64 1)) T K) fun T hT K=>ixF1
theorem LJ_Fi{e i:Nat}{l:List Fo}(h:i<l.length){S0:Store}{P:AV→Prop}:(∃ q,(∀ T,Keep S0 T→ixS e 4 (foL l) (aI i) T fun v S=>v=q∧S=T)∧P q)=P (.q l[i].row 0):=LJ_of (op:=fun T K=>ixS e 4 (foL l) (aI i) T K) fun T hT K=>ixS_foL h
theorem LJ_bsl4{e:Nat}{z1 z2 z3 z4:AV}{r:List AV}(hr:r.length=4){S0:Store}{P:AV→Prop}(k:P (.l [r])):∃ q,(∀ T,Keep S0 T→bslN e 4 1 [z1,z2,z3,z4] [(0,.a r)] T fun v S=>v=q∧S=T)∧P q:=⟨_,fun T hT=>bslA4 hr ⟨rfl,rfl⟩,k⟩
abbrev fo0r:List AV:=[.v (.int .i64 0),.v (.string ByteArray.empty),.v (.int .i64 0),.nl]
theorem ref20push_loop{ks:List Fo}{k k2 l:Int}{n:ByteArray}{t:Bool}(hl:ks.length≤1000000)(hf:∀ f∈ks,Ans Pg 27 [f.av,aB t] (f.push t).av){S S4:Store}{o:Nat}{Q:AEnd→Store→Prop}(kk:Keep S S4)(h0:S.n<S4.n)
    (ho:S.n+1<o) (ho2:o<S4.n) (oa:S4.obj S.n=some (.cells 32 [[aI k,.v (.string n),aI l,foL ks]] true)) (ob:S4.obj (S.n+1)=some (.cells 32 [fo0r] true)) (oc:S4.obj o=some (.cells 32 [[aI k2,.v (.string ⟨#[]⟩),aI 0,.nl]] true))
    (hQ:∀(r:AV) (T:Store),Keep S T→Cv (T.frz (newer S.n)) S.n r (Fo.mk k2 ⟨#[]⟩ 0 (Fo.pushs ks t)).av→Q (.ret r) T):
    loopV lv27_0 (vc Pg (c27.at_ [1,1,1,1,0,1,0,0]) (ms27.drop 1)) 109 (env27_0 (aB t) (.p S.n 0 0) (.p (S.n+1) 0 0) (.p o 0 0) (.v (.int .i64 0))) S4 (blockK 1 (seqK (vc Pg (c27.at_ [1,1,1,1,1]) (ms27.drop 1)) (bodyK Pg r27 Q))):=by
 refine loop27_0 (fun y S'=>∃(i:Nat) (z:AV),y=aI i∧i≤ks.length∧Keep S S'∧S4.n≤S'.n∧S'.obj S.n=some (.cells 32 [[aI k,.v (.string n),aI l,foL ks]] true)∧S'.obj (S.n+1)=some (.cells 32 [fo0r] true)∧
     S'.obj o=some (.cells 32 [[aI k2,.v (.string ⟨#[]⟩),aI 0,z]] true)∧Own S4.n S' z 32 (((ks.take i).map fun f=>f.push t).map Fo.row))
  (fun y _=>ks.length - ((intA y).getD 0).toNat) ⟨0,.nl,rfl,Nat.zero_le _,kk,Nat.le_refl _,oa,ob,oc,.nl _ _ _⟩ ?_
 rintro _ S5 ⟨i,z,rfl,hi,k5,n5,oa,ob,oc,w5⟩ KE hKE
 unfold b27_0
 rw[shift_p,ld1_p oa rfl rfl,lenS_foL,bin_lss,onB_v]
 refine gd_of (fun hlt=>?_) (fun hge=>?_)
 ·have hlt:i<ks.length:=by have:=dT hlt;omega
  have hmem:=List.getElem_mem hlt
  (repeat (first|with_reducible_and_instances (first|refine WJ ?_|refine W (LJ_ldp oc (by omega) (by with_unfolding_all rfl) (by with_unfolding_all rfl)) ?_|refine W (LJ_ldp oa (by omega) (by with_unfolding_all rfl) (by with_unfolding_all rfl)) ?_|refine W (LJ_Fi hlt) ?_|refine W (LJ_ldNq (Fo.row_len _)) ?_|refine W (J_ldq (by with_unfolding_all rfl)) ?_)|refine J_cA (hf _ hmem) rfl rfl ?_|refine C_A (hf _ hmem) rfl rfl ?_|refine L_cA (hf _ hmem) rfl rfl ?_))
  refine LJ_bsl4 (Fo.row_len _) ?_
  refine w5.app (c:=(ks[i].push t).row) (by omega) (Fo.row_len _) (by simp;omega) (fun z' S6 w6 b6 hz=>?_) rfl
  obtain⟨m6,hm6⟩:=hz
  have n6:=b6.1
  have old6:∀ x,x<S4.n→S6.obj x=S5.obj x:=fun x hx=>b6.2 x (by omega) (fun b m e=>by have:=w5.lt e;omega)
  refine L_shift ?_
  refine stF_of ((old6 _ (by omega)).trans oc) (by simp) (by rw[hm6];rfl) fun S7 n7 o7 f7=>?_
  rw[bin_add (by omega) (by omega)]
  have old7:∀ x,x<o→S7.obj x=S5.obj x:=fun x hx=>(f7 x (by omega)).trans (old6 x (by omega))
  refine hKE _ _ ⟨i+1,z',rfl,hlt,⟨by have:=k5.1;omega,fun x hx=>(old7 x (by omega)).trans (k5.2 x hx)⟩,by omega,(old7 _ (by omega)).trans oa,(old7 _ (by omega)).trans ob,o7,?_⟩ (by simp[intA];omega)
  rw[List.take_add_one,List.getElem?_eq_getElem hlt,List.map_append,List.map_append]
  exact w6.st (id:=o) (fun b m e=>by rw[hm6]at e;injection e;omega) n7 f7
 ·have hge:i=ks.length:=by have:=dF hge;omega
  subst hge
  rw[ldN_p (n:=4) oc rfl]
  refine stA_of ob rfl rfl fun S6 n6 o6 f6=>?_
  rw[ldN_p (n:=4) o6 rfl]
  have w6:Own S4.n S6 z 32 _:=w5.st (id:=S.n+1) (fun b m e=>by have:=w5.lt e;omega) n6 f6
  rw[List.take_length]at w6
  refine hQ _ _ (k5.st (by omega) n6 f6) ?_
  rw[Fo.av,Fo.row_mk,Fo.pushs_map]
  refine .a _ _ rfl fun k u u2 e1 e2=>?_
  match k with
  |0=>cases e1;cases e2;exact .v _
  |1=>cases e1;cases e2;exact .v _
  |2=>cases e1;cases e2;exact .v _
  |3=>cases e1;cases e2;exact own_rows (fun r hr u hu=>by obtain⟨f,_,rfl⟩:=List.mem_map.1 hr;exact Fo.tree f u hu) w6 (by omega)
  |k+4=>simp at e1
theorem ans27:∀(f:Fo),f.ok→∀{d:Int},f.mayB d=true→∀ t,Ans Pg 27 [f.av,aB t] (f.push t).av:=by
 intro f
 induction f using Fo.ind with
 |h k n l ks ih =>
  intro hok d hm t S
  obtain⟨h1,h2,h3,h4,h5⟩:=hok.inv
  have hf:∀ f∈ks,∀ d,f.mayB d=true→∀ t,Ans Pg 27 [f.av,aB t] (f.push t).av:=fun f hf d hd t=>ih f hf (h5 f hf) hd t
  have hall:∀ f∈ks,f.mayB (d - 1)=true:=fun f hf=>by
   rw[Fo.mayB_mk]at hm
   simp only[Bool.and_eq_true,List.all_eq_true]at hm
   exact hm.2.2.2.2 f hf
  refine ACalls.tree (calls27 ?_)
  unfold m27
  rw[Fo.av,Fo.row_mk]
  refine boxA_of rfl fun S1 k1 n1 o1=>?_
  refine boxA_of rfl fun S2 k2 n2 o2=>?_
  have p2:=(k2.2 _ (by omega)).trans o1
  have kk:=k1.trans k2
  rw[n1]at o2
  rw[n1]
  rw[shift_p,ld1_p p2 rfl rfl]
  have fin:∀(g:Fo) (T:Store),Keep S T→T.obj (S.n+1)=some (.cells 32 [fo0r] true)→g=Fo.push (.mk k n l ks) t→stN 4 (.p (S.n+1) 0 0) g.av T (fun _ T2=>ldN 4 (.p (S.n+1) 0 0) T2 fun v S'=>∃ r,AEnd.ret v = .ret r∧Keep S S'∧Cv (S'.frz (newer S.n)) S.n r (Fo.push (.mk k n l ks) t).av):=by
   intro g T hT ho hg
   rw[Fo.av]
   refine stA_of ho (Fo.row_len g) rfl fun T1 n1 o1 f1=>?_
   rw[ldN_p (n:=4) o1 (Fo.row_len g)]
   exact⟨_,rfl,hT.st (by omega) n1 f1,by rw[←hg];exact Fo.tr g _ _⟩
  have dflt:∀(T:Store) (o:Nat) (k2:Int),Keep S T→S.n+1<o→o<T.n→T.obj S.n=some (.cells 32 [[aI k,.v (.string n),aI l,foL ks]] true)→T.obj (S.n+1)=some (.cells 32 [fo0r] true)→T.obj o=some (.cells 32 [[aI k2,.v (.string ⟨#[]⟩),aI 0,.nl]] true)→
      Fo.push (.mk k n l ks) t = .mk k2 ⟨#[]⟩ 0 (Fo.pushs ks t)→
      loopV lv27_0 (vc Pg (c27.at_ [1,1,1,1,0,1,0,0]) (ms27.drop 1)) 109 (env27_0 (aB t) (.p S.n 0 0) (.p (S.n+1) 0 0) (.p o 0 0) (.v (.int .i64 0))) T (blockK 1 (seqK (vc Pg (c27.at_ [1,1,1,1,1]) (ms27.drop 1)) (bodyK Pg r27 fun e S'=>∃ r,e = .ret r∧Keep S S'∧Cv (S'.frz (newer S.n)) S.n r (Fo.push (.mk k n l ks) t).av))):=fun T o k2 hT ho ho2 oa ob oc he =>
   ref20push_loop h4 (fun f hf'=>hf f hf' _ (hall f hf') t) hT (by omega) ho ho2 oa ob oc fun r T' hT' hr=>⟨r,rfl,hT',by rw[he];exact hr⟩
  have rest:¬ k=3→¬ k=4→¬ k=7→¬ k=8→bld [(0,1),(1,1),(2,1),(3,1)] fo0r [(0,aI k)] S2 fun v135 T=>boxN 32 4 (.a fo0r) T fun v136 T=>stN 4 v136 v135 T fun _ T=>gd t (shift (.p S.n 0 0) 0 T fun v139 T=>ld1 v139 T fun v140 T=>callF Pg 43 [v140] T (fun e S'=>∃ r,e = .ret r∧Keep S S'∧Cv (S'.frz (newer S.n)) S.n r (Fo.push (.mk k n l ks) t).av) fun v141 T=>shift v136 0 T fun v142 T=>stN 1 v142 v141 T fun _ T =>
      loopV lv27_0 (vc Pg (c27.at_ [1,1,1,1,0,1,0,0]) (ms27.drop 1)) 109 (env27_0 (aB t) (.p S.n 0 0) (.p (S.n+1) 0 0) v136 (.v (.int .i64 0))) T (blockK 1 (seqK (vc Pg (c27.at_ [1,1,1,1,1]) (ms27.drop 1)) (bodyK Pg r27 fun e S'=>∃ r,e = .ret r∧Keep S S'∧Cv (S'.frz (newer S.n)) S.n r (Fo.push (.mk k n l ks) t).av))))
      (loopV lv27_0 (vc Pg (c27.at_ [1,1,1,1,0,1,0,0]) (ms27.drop 1)) 109 (env27_0 (aB t) (.p S.n 0 0) (.p (S.n+1) 0 0) v136 (.v (.int .i64 0))) T (blockK 1 (seqK (vc Pg (c27.at_ [1,1,1,1,1]) (ms27.drop 1)) (bodyK Pg r27 fun e S'=>∃ r,e = .ret r∧Keep S S'∧Cv (S'.frz (newer S.n)) S.n r (Fo.push (.mk k n l ks) t).av)))):=by
   intro h3 h4' h7 h8
   have he:Fo.push (.mk k n l ks) t = .mk (if t then dualK k else k) ⟨#[]⟩ 0 (Fo.pushs ks t):=by rw[Fo.push,if_neg h3,if_neg h4',if_neg h7,if_neg h8]
   rw[bld_of (cs:=[aI k,.v (.string ⟨#[]⟩),aI 0,.nl]) rfl]
   refine boxA_of rfl fun S3 k3 n3 o3=>?_
   refine stA_of (cs':=[aI k,.v (.string ⟨#[]⟩),aI 0,.nl]) o3 rfl rfl fun S4 n4 o4 f4=>?_
   have k4:=k3.st (Nat.le_refl _) n4 f4
   have p4:=(k4.2 _ (by omega)).trans p2
   have r4:=(k4.2 _ (by omega)).trans o2
   refine gd_of (fun ht=>?_) (fun ht=>?_)
   ·subst ht
    rw[shift_p,ld1_p p4 rfl rfl]
    refine callF_ans (ans43 k) ?_
    rw[shift_p]
    refine stF_of o4 (by simp) rfl fun S5 n5 o5 f5=>?_
    exact dflt S5 S2.n (dualK k) ((kk.trans k4).st (by omega) n5 f5) (by omega) (by omega) ((f5 _ (by omega)).trans p4) ((f5 _ (by omega)).trans r4) o5 he
   ·subst ht
    exact dflt S4 S2.n k (kk.trans k4) (by omega) (by omega) p4 r4 o4 he
  obtain⟨rfl,hd,hc⟩:=may_cases hm
  rcases hc with⟨hk,rfl,rfl⟩|⟨rfl,rfl,h0⟩|⟨hk,rfl,f,rfl,hfm⟩|⟨hk,rfl,f,g,rfl,hfm,hgm⟩
  ·repeat (refine tno (by omega) ?_)
   rw[shift_p,ld1_p p2 rfl rfl]
   exact rest (by omega) (by omega) (by omega) (by omega)
  ·refine tyes rfl ?_
   rw[onB_v]
   refine gd_of (fun ht=>?_) (fun ht=>?_)
   ·subst ht
    rw[ldN_p (n:=4) p2 rfl]
    refine C_A (ans40 4 (.mk 3 ⟨#[]⟩ l [])) rfl (by rw[Fo.av,Fo.row_mk]) ?_
    exact fin (foOne 4 (.mk 3 ⟨#[]⟩ l [])) _ kk o2 (by rw[push_atom];rfl)
   ·subst ht
    rw[ldN_p (n:=4) p2 rfl]
    have:=fin (.mk 3 ⟨#[]⟩ l []) _ kk o2 (by rw[push_atom];rfl)
    rw[Fo.av,Fo.row_mk]at this
    exact this
  ·have cf:=fun t=>hf f (by simp) _ hfm t
   by_cases h4:k=4
   ·subst h4
    refine tno (by decide) (tyes rfl ?_)
    rw[shift_p,ld1_p p2 rfl rfl,ixF0,ldN_q (Fo.row_len f),un_not]
    refine callF_ans (cf _) ?_
    exact fin _ _ kk o2 push_not.symm
   ·repeat (refine tno (by omega) ?_)
    rw[shift_p,ld1_p p2 rfl rfl]
    exact rest (by omega) (by omega) (by omega) (by omega)
  ·have cf:=fun t=>hf f (by simp) _ hfm t
   have cg:=fun t=>hf g (by simp) _ hgm t
   by_cases h7:k=7
   ·subst h7
    refine tno (by decide) (tno (by decide) (tyes rfl ?_))
    rw[onB_v]
    refine gd_of (fun ht=>?_) (fun ht=>?_)
    ·subst ht
     (repeat (first|with_reducible_and_instances (first|refine WJ ?_|refine W (LJ_ldp p2 (by omega) (by with_unfolding_all rfl) (by with_unfolding_all rfl)) ?_|refine W (LJ_F0) ?_|refine W (LJ_F1) ?_|refine W (LJ_ldNq (Fo.row_len _)) ?_|refine W (J_ldq (by with_unfolding_all rfl)) ?_)|refine J_cA (cf false) rfl rfl ?_|refine C_A (cf false) rfl rfl ?_|refine L_cA (cf false) rfl rfl ?_|refine J_cA (cg true) rfl rfl ?_|refine C_A (cg true) rfl rfl ?_|refine L_cA (cg true) rfl rfl ?_|refine J_cA (ans41 5 _ _) rfl rfl ?_|refine C_A (ans41 5 _ _) rfl rfl ?_|refine L_cA (ans41 5 _ _) rfl rfl ?_))
     exact fin (foTwo 5 (f.push false) (g.push true)) _ kk o2 (by rw[push_imp];rfl)
    ·subst ht
     (repeat (first|with_reducible_and_instances (first|refine WJ ?_|refine W (LJ_ldp p2 (by omega) (by with_unfolding_all rfl) (by with_unfolding_all rfl)) ?_|refine W (LJ_F0) ?_|refine W (LJ_F1) ?_|refine W (LJ_ldNq (Fo.row_len _)) ?_|refine W (J_ldq (by with_unfolding_all rfl)) ?_)|refine J_cA (cf true) rfl rfl ?_|refine C_A (cf true) rfl rfl ?_|refine L_cA (cf true) rfl rfl ?_|refine J_cA (cg false) rfl rfl ?_|refine C_A (cg false) rfl rfl ?_|refine L_cA (cg false) rfl rfl ?_|refine J_cA (ans41 6 _ _) rfl rfl ?_|refine C_A (ans41 6 _ _) rfl rfl ?_|refine L_cA (ans41 6 _ _) rfl rfl ?_))
     exact fin (foTwo 6 (f.push true) (g.push false)) _ kk o2 (by rw[push_imp];rfl)
   by_cases h8:k=8
   ·subst h8
    refine tno (by decide) (tno (by decide) (tno (by decide) (tyes rfl ?_)))
    (repeat (first|with_reducible_and_instances (first|refine WJ ?_|refine W (LJ_ldp p2 (by omega) (by with_unfolding_all rfl) (by with_unfolding_all rfl)) ?_|refine W (LJ_F0) ?_|refine W (LJ_F1) ?_|refine W (LJ_ldNq (Fo.row_len _)) ?_|refine W (J_ldq (by with_unfolding_all rfl)) ?_)|refine J_cA (cf false) rfl rfl ?_|refine C_A (cf false) rfl rfl ?_|refine L_cA (cf false) rfl rfl ?_|refine J_cA (cg t) rfl rfl ?_|refine C_A (cg t) rfl rfl ?_|refine L_cA (cg t) rfl rfl ?_|refine J_cA (ans41 5 (f.push false) (g.push t)) rfl rfl ?_|refine C_A (ans41 5 (f.push false) (g.push t)) rfl rfl ?_|refine L_cA (ans41 5 (f.push false) (g.push t)) rfl rfl ?_))
    refine boxA_of rfl fun S3 k3 n3 o3=>?_
    refine stA_of (cs':=(foTwo 5 (f.push false) (g.push t)).row) o3 (Fo.row_len _) rfl fun S4 n4 o4 f4=>?_
    have k4:=k3.st (Nat.le_refl _) n4 f4
    have p4:=(k4.2 _ (by omega)).trans p2
    have r4:=(k4.2 _ (by omega)).trans o2
    (repeat (first|with_reducible_and_instances (first|refine WJ ?_|refine W (LJ_ldp p4 (by omega) (by with_unfolding_all rfl) (by with_unfolding_all rfl)) ?_|refine W (LJ_F0) ?_|refine W (LJ_F1) ?_|refine W (LJ_ldNq (Fo.row_len _)) ?_|refine W (J_ldq (by with_unfolding_all rfl)) ?_)|refine J_cA (cf true) rfl rfl ?_|refine C_A (cf true) rfl rfl ?_|refine L_cA (cf true) rfl rfl ?_|refine J_cA (cg (!t)) rfl rfl ?_|refine C_A (cg (!t)) rfl rfl ?_|refine L_cA (cg (!t)) rfl rfl ?_|refine J_cA (ans41 5 (f.push true) (g.push (!t))) rfl rfl ?_|refine C_A (ans41 5 (f.push true) (g.push (!t))) rfl rfl ?_|refine L_cA (ans41 5 (f.push true) (g.push (!t))) rfl rfl ?_))
    refine boxA_of rfl fun S5 k5 n5 o5=>?_
    refine stA_of (cs':=(foTwo 5 (f.push true) (g.push (!t))).row) o5 (Fo.row_len _) rfl fun S6 n6 o6 f6=>?_
    have k6:=k5.st (Nat.le_refl _) n6 f6
    rw[ldN_p (n:=4) ((k6.2 _ (by omega)).trans o4) (Fo.row_len _),ldN_p (n:=4) o6 (Fo.row_len _)]
    refine callF_ans (ans41 6 (foTwo 5 (f.push false) (g.push t)) (foTwo 5 (f.push true) (g.push (!t)))) ?_
    exact fin _ _ ((kk.trans k4).trans k6) ((k6.2 _ (by omega)).trans r4) push_same.symm
   ·repeat (refine tno (by omega) ?_)
    rw[shift_p,ld1_p p2 rfl rfl]
    exact rest (by omega) (by omega) (by omega) (by omega)
theorem ans62(k:Int)(l:List Fo):Ans Pg 62 [aI k,foL l] (Fo.av (.mk k ⟨#[]⟩ 0 l)):=by
 intro S
 refine ACalls.tree (calls62 ?_)
 unfold m62
 refine boxA_of rfl fun S1 k1 n1 o1=>?_
 rw[bld_of (cs:=Fo.row (.mk k ⟨#[]⟩ 0 l)) (by rw[Fo.row_mk];rfl)]
 refine stA_of o1 (Fo.row_len _) rfl fun S2 n2 o2 f2=>?_
 rw[ldN_p (n:=4) o2 (Fo.row_len _)]
 exact⟨_,rfl,k1.st (Nat.le_refl _) n2 f2,Fo.tr _ _ _⟩
def dualP:List (Int × Int):=[(1,2),(5,6),(9,10),(11,14),(13,12),(15,18),(17,16)]
def dualE(n:Nat):List (Key × AV):=(dualP.take n).flatMap fun p=>[(.i p.1,aI p.2),(.i p.2,aI p.1)]
abbrev dualM:AV:=.mt (.i .i64) (dualE 7)
def dualA:List AV:=[aI 1,aI 2,aI 5,aI 6,aI 9,aI 10,aI 11,aI 14,aI 13,aI 12,aI 15,aI 18,aI 17,aI 16]
theorem dual_step{i:Nat}(h:i<7):∃ a b:Int,partA true 2 (i*2) dualA=some (.a [aI a,aI b])∧insM (insM (dualE i) (.i a) (aI b)) (.i b) (aI a)=dualE (i+1):=by
 match i,h with
 |0,_=>exact⟨1,2,rfl,rfl⟩
 |1,_=>exact⟨5,6,rfl,rfl⟩
 |2,_=>exact⟨9,10,rfl,rfl⟩
 |3,_=>exact⟨11,14,rfl,rfl⟩
 |4,_=>exact⟨13,12,rfl,rfl⟩
 |5,_=>exact⟨15,18,rfl,rfl⟩
 |6,_=>exact⟨17,16,rfl,rfl⟩
theorem dual_lk{k:Int}(h:k=1∨k=2∨k=5∨k=6∨9≤k∧k≤18):lkV (aI 0) false (lkp (dualE 7) (.i k))=aI (dualK k):=by
 have:k=1∨k=2∨k=5∨k=6∨k=9∨k=10∨k=11∨k=12∨k=13∨k=14∨k=15∨k=16∨k=17∨k=18:=by omega
 rcases this with rfl|rfl|rfl|rfl|rfl|rfl|rfl|rfl|rfl|rfl|rfl|rfl|rfl|rfl<;>rfl
theorem LJ_ixA{n sz id z:Nat}(hz:z<n){S0:Store}{P:AV→Prop}:(∃ q,(∀ T,Keep S0 T→ixA n sz (.p id 0 0) (aI z) T fun v S=>v=q∧S=T)∧P q)=P (.p id 0 (z*sz)):=LJ_of (op:=fun T K=>ixA n sz (.p id 0 0) (aI z) T K) fun T hT K=>ixA_p hz
theorem ans32:Ans Pg 32 [] dualM:=by
 intro S
 refine ACalls.tree (calls32 ?_)
 unfold m32
 unfold mkM
 dsimp only
 rw[bld_of (cs:=[aI 1,aI 2]) rfl,bld_of (cs:=[aI 5,aI 6]) rfl,bld_of (cs:=[aI 9,aI 10]) rfl,bld_of (cs:=[aI 11,aI 14]) rfl,bld_of (cs:=[aI 13,aI 12]) rfl,bld_of (cs:=[aI 15,aI 18]) rfl,bld_of (cs:=[aI 17,aI 16]) rfl,bld_of (cs:=dualA) rfl]
 refine loop32_0 (fun y S'=>Keep S S'∧S.n<S'.n∧∃ i:Nat,y=aI i∧i≤7∧S'.obj S.n=some (.map (.i .i64) (dualE i) true)) (fun y _=>7 - ((intA y).getD 0).toNat) ⟨(Keep.refl S).new _,by simp,0,rfl,by omega,new_self _⟩ ?_
 rintro _ S3 ⟨k3,n3,i,rfl,hi,m3⟩ KE hKE
 unfold b32_0
 rw[bin_lss,onB_v]
 refine gd_of (fun hlt=>?_) (fun hge=>?_)
 ·have hlt:i<7:=by have:=dT hlt;omega
  obtain⟨a,b,hp,hs⟩:=dual_step hlt
  refine⟨i,rfl,⟨by omega,by omega⟩,?_⟩
  refine⟨.a [aI a,aI b],by rw[Int.toNat_natCast];exact hp,?_⟩
  refine boxA_of rfl fun S4 k4 n4 o4=>?_
  refine stA_of (cs':=[aI a,aI b]) o4 rfl rfl fun S5 n5 o5 f5=>?_
  have k5:=k4.st (Nat.le_refl _) n5 f5
  have m5:=(k5.2 _ n3).trans m3
  have r0:∀{P:AV→Prop},(∃ q,(∀ T,Keep S5 T→ixA 2 1 (.p S3.n 0 0) (.v (.int .i64 0)) T fun v S=>v=q∧S=T)∧P q)=P (.p S3.n 0 0):=LJ_ixA (z:=0) (by omega)
  have r1:∀{P:AV→Prop},(∃ q,(∀ T,Keep S5 T→ixA 2 1 (.p S3.n 0 0) (.v (.int .i64 1)) T fun v S=>v=q∧S=T)∧P q)=P (.p S3.n 0 1):=LJ_ixA (z:=1) (by omega)
  rw[r0,LJ_ldp o5 (by omega) rfl rfl,r1,LJ_ldp o5 (by omega) rfl rfl,r1,LJ_ldp o5 (by omega) rfl rfl,r0,LJ_ldp o5 (by omega) rfl rfl]
  rw[updM_m m5 (keyI _ _)]
  have o6:(Store.upd S5 S.n (.map (.i .i64) (insM (dualE i) (.i a) (aI b)) true)).obj S3.n=_:=(upd_ne (by omega)).trans o5
  refine⟨fun T hT=>by rw[ld1_p ((hT.2 _ (by show _<S5.n;omega)).trans o6) rfl rfl];exact⟨rfl,rfl⟩,fun T hT=>by rw[show(AV.v (.int .i64 0))=aI ((0:Nat):Int)from rfl,ixA_p (by omega)];exact⟨rfl,rfl⟩,fun T hT=>by rw[ld1_p ((hT.2 _ (by show _<S5.n;omega)).trans o6) rfl rfl];exact⟨rfl,rfl⟩,fun T hT=>by rw[show(AV.v (.int .i64 1))=aI ((1:Nat):Int)from rfl,ixA_p (by omega)];exact⟨rfl,rfl⟩,?_⟩
  rw[updM_m (upd_self _ _) (keyI _ _),upd_upd,hs,bin_add (by omega) (by omega)]
  exact hKE _ _ ⟨(k3.trans k5).upd (Nat.le_refl _) _,by show S.n<S5.n;omega,i+1,rfl,hlt,upd_self _ _⟩ (by simp[intA];omega)
 ·have hge:i=7:=by have:=dF hge;omega
  subst hge
  refine⟨_,rfl,k3,.m' S.n (.i .i64) (dualE 7) (dualE 7) ?_ rfl (fun i e e2 h h2=>by rw[h]at h2;cases h2;rfl) (fun i e e2 h h2=>?_)⟩
  ·rw[frz_ofM m3]
   have:newer S.n S.n=true:=by simp[newer]
   rw[this]
   rfl
  ·rw[h]at h2;cases h2
   have hm:e∈dualE 7:=List.mem_of_getElem? h
   simp only[dualE,List.mem_flatMap]at hm
   obtain⟨p,_,hp⟩:=hm
   simp only[List.mem_cons,List.not_mem_nil,or_false]at hp
   rcases hp with rfl|rfl<;>exact .v _
theorem at61{S:Store}{fid mid i tf:Nat}{k l:Int}{n:ByteArray}{ks:List Fo}{t:Bool}(ho:S.obj fid=some (.cells tf [[aI k,.v (.string n),aI l,foL ks]] true))(hf:fid<S.n)(hm:S.obj mid=some (.cells 79 [[dualM]] true))(hm2:mid<S.n)(hi:i<ks.length)
    (h:Ans Pg 31 [ks[i].av,aB t,dualM] (ks[i].push t).av):AnsAt Pg 61 ([] ++ [aI i,aB t] ++ [.p fid 0 0,.p mid 0 0]) S (ks[i].push t).av:=by
 refine ACalls.tree (calls61 ?_)
 unfold m61
 refine boxA_of rfl fun S1 k1 n1 o1=>?_
 have p1:=(k1.2 _ hf).trans ho
 have q1:=(k1.2 _ hm2).trans hm
 (repeat (first|with_reducible_and_instances (first|refine WJ ?_|refine W (LJ_ldp p1 (by omega) (by with_unfolding_all rfl) (by with_unfolding_all rfl)) ?_|refine W (LJ_ldp q1 (by omega) (by with_unfolding_all rfl) (by with_unfolding_all rfl)) ?_|refine W (LJ_Fi hi) ?_|refine W (LJ_ldNq (Fo.row_len _)) ?_|refine W (J_ldq (by with_unfolding_all rfl)) ?_)|refine J_cA (h) rfl rfl ?_|refine C_A (h) rfl rfl ?_|refine L_cA (h) rfl rfl ?_))
 refine stA_of o1 (Fo.row_len _) rfl fun S2 n2 o2 f2=>?_
 rw[ldN_p (n:=4) o2 (Fo.row_len _)]
 exact⟨_,rfl,k1.st (Nat.le_refl _) n2 f2,Fo.tr _ _ _⟩
abbrev kidF(a b:Nat):AV:=.f (.func 61) [] [.p a 0 0,.p b 0 0]
theorem treepush_loop{ks:List Fo}{k k2 l:Int}{n:ByteArray}{t:Bool}(hl:ks.length≤1000000)(hf:∀ f∈ks,Ans Pg 31 [f.av,aB t,dualM] (f.push t).av){S S4:Store}{o:Nat}{Q:AEnd→Store→Prop}(kk:Keep S S4)(h0:S.n<S4.n)
    (ho:S.n+2<o) (ho2:o<S4.n) (oa:S4.obj S.n=some (.cells 32 [[aI k,.v (.string n),aI l,foL ks]] true)) (om:S4.obj (S.n+1)=some (.cells 79 [[dualM]] true)) (ob:S4.obj (S.n+2)=some (.cells 32 [fo0r] true)) (oc:S4.obj o=some (.cells 32 [[aI k2,.v (.string ⟨#[]⟩),aI 0,.nl]] true))
    (hQ:∀(r:AV) (T:Store),Keep S T→Cv (T.frz (newer S.n)) S.n r (Fo.mk k2 ⟨#[]⟩ 0 (Fo.pushs ks t)).av→Q (.ret r) T):
    loopV lv31_0 (vc Pg (c31.at_ [1,1,1,1,1,0,1,0,0]) (ms31.drop 1)) 86 (env31_0 (aB t) (.p (S.n+2) 0 0) (kidF S.n (S.n+1)) (.p o 0 0) (aI ks.length) (.v (.int .i64 0))) S4 (blockK 1 (seqK (vc Pg (c31.at_ [1,1,1,1,1,1]) (ms31.drop 1)) (bodyK Pg r31 Q))):=by
 refine loop31_0 (fun y S'=>∃(i:Nat) (z:AV),y=aI i∧i≤ks.length∧Keep S S'∧S4.n≤S'.n∧S'.obj S.n=some (.cells 32 [[aI k,.v (.string n),aI l,foL ks]] true)∧S'.obj (S.n+1)=some (.cells 79 [[dualM]] true)∧S'.obj (S.n+2)=some (.cells 32 [fo0r] true)∧
     S'.obj o=some (.cells 32 [[aI k2,.v (.string ⟨#[]⟩),aI 0,z]] true)∧Own S4.n S' z 32 (((ks.take i).map fun f=>f.push t).map Fo.row))
  (fun y _=>ks.length - ((intA y).getD 0).toNat) ⟨0,.nl,rfl,Nat.zero_le _,kk,Nat.le_refl _,oa,om,ob,oc,.nl _ _ _⟩ ?_
 rintro _ S5 ⟨i,z,rfl,hi,k5,n5,oa,om,ob,oc,w5⟩ KE hKE
 unfold b31_0
 rw[bin_lss,onB_v]
 refine gd_of (fun hlt=>?_) (fun hge=>?_)
 ·have hlt:i<ks.length:=by have:=dT hlt;omega
  have hmem:=List.getElem_mem hlt
  (repeat (first|with_reducible_and_instances (first|refine WJ ?_|refine W (LJ_ldp oc (by omega) (by with_unfolding_all rfl) (by with_unfolding_all rfl)) ?_|refine W (J_ldq (by with_unfolding_all rfl)) ?_)|refine L_cV ((fun T hT=>at61 (t:=t) ((hT.2 _ (by omega)).trans oa) (by have:=hT.1;omega) ((hT.2 _ (by omega)).trans om) (by have:=hT.1;omega) hlt (hf _ hmem))) rfl rfl ?_))
  refine LJ_bsl4 (Fo.row_len _) ?_
  refine w5.app (c:=(ks[i].push t).row) (by omega) (Fo.row_len _) (by simp;omega) (fun z' S6 w6 b6 hz=>?_) rfl
  obtain⟨m6,hm6⟩:=hz
  have n6:=b6.1
  have old6:∀ x,x<S4.n→S6.obj x=S5.obj x:=fun x hx=>b6.2 x (by omega) (fun b m e=>by have:=w5.lt e;omega)
  refine L_shift ?_
  refine stF_of ((old6 _ (by omega)).trans oc) (by simp) (by rw[hm6];rfl) fun S7 n7 o7 f7=>?_
  rw[bin_add (by omega) (by omega)]
  have old7:∀ x,x<o→S7.obj x=S5.obj x:=fun x hx=>(f7 x (by omega)).trans (old6 x (by omega))
  refine hKE _ _ ⟨i+1,z',rfl,hlt,⟨by have:=k5.1;omega,fun x hx=>(old7 x (by omega)).trans (k5.2 x hx)⟩,by omega,(old7 _ (by omega)).trans oa,(old7 _ (by omega)).trans om,(old7 _ (by omega)).trans ob,o7,?_⟩ (by simp[intA];omega)
  rw[List.take_add_one,List.getElem?_eq_getElem hlt,List.map_append,List.map_append]
  exact w6.st (id:=o) (fun b m e=>by rw[hm6]at e;injection e;omega) n7 f7
 ·have hge:i=ks.length:=by have:=dF hge;omega
  subst hge
  rw[ldN_p (n:=4) oc rfl]
  refine stA_of ob rfl rfl fun S6 n6 o6 f6=>?_
  rw[ldN_p (n:=4) o6 rfl]
  have w6:Own S4.n S6 z 32 _:=w5.st (id:=S.n+2) (fun b m e=>by have:=w5.lt e;omega) n6 f6
  rw[List.take_length]at w6
  refine hQ _ _ (k5.st (by omega) n6 f6) ?_
  rw[Fo.av,Fo.row_mk,Fo.pushs_map]
  refine .a _ _ rfl fun k u u2 e1 e2=>?_
  match k with
  |0=>cases e1;cases e2;exact .v _
  |1=>cases e1;cases e2;exact .v _
  |2=>cases e1;cases e2;exact .v _
  |3=>cases e1;cases e2;exact own_rows (fun r hr u hu=>by obtain⟨f,_,rfl⟩:=List.mem_map.1 hr;exact Fo.tree f u hu) w6 (by omega)
  |k+4=>simp at e1
theorem ans31:∀(f:Fo),f.ok→∀{d:Int},f.mayB d=true→∀ t,Ans Pg 31 [f.av,aB t,dualM] (f.push t).av:=by
 intro f
 induction f using Fo.ind with
 |h k n l ks ih =>
  intro hok d hm t S
  obtain⟨h1,h2,h3,h4,h5⟩:=hok.inv
  have hf:∀ f∈ks,∀ d,f.mayB d=true→∀ t,Ans Pg 31 [f.av,aB t,dualM] (f.push t).av:=fun f hf d hd t=>ih f hf (h5 f hf) hd t
  have hall:∀ f∈ks,f.mayB (d - 1)=true:=fun f hf=>by
   rw[Fo.mayB_mk]at hm
   simp only[Bool.and_eq_true,List.all_eq_true]at hm
   exact hm.2.2.2.2 f hf
  refine ACalls.tree (calls31 ?_)
  unfold m31
  rw[Fo.av,Fo.row_mk]
  refine boxA_of rfl fun S1 k1 n1 o1=>?_
  refine box1_of rfl fun S2 k2 n2 o2=>?_
  refine boxA_of rfl fun S3 k3 n3 o3=>?_
  rw[show S2.n=S.n+2 by omega]at o3
  rw[n1]at o2
  rw[show S2.n=S.n+2 by omega,n1]
  have p3:=(k3.2 _ (by omega)).trans ((k2.2 _ (by omega)).trans o1)
  have q3:=(k3.2 _ (by omega)).trans o2
  have kk:=(k1.trans k2).trans k3
  rw[shift_p,ld1_p p3 rfl rfl]
  have ck:∀(T:Store),T.obj S.n=some (.cells 32 [[aI k,.v (.string n),aI l,foL ks]] true)→T.obj (S.n+1)=some (.cells 79 [[dualM]] true)→S.n+1<T.n→∀(i:Nat) (hi:i<ks.length) (t:Bool),AnsAt Pg 61 ([] ++ [aI i,aB t] ++ [.p S.n 0 0,.p (S.n+1) 0 0]) T (ks[i].push t).av:=
   fun T ho hm hn i hi t=>at61 ho (by omega) hm hn hi (hf _ (List.getElem_mem hi) _ (hall _ (List.getElem_mem hi)) t)
  have fin:∀(g:Fo) (T:Store),Keep S T→T.obj (S.n+2)=some (.cells 32 [fo0r] true)→g=Fo.push (.mk k n l ks) t→stN 4 (.p (S.n+2) 0 0) g.av T (fun _ T2=>ldN 4 (.p (S.n+2) 0 0) T2 fun v S'=>∃ r,AEnd.ret v = .ret r∧Keep S S'∧Cv (S'.frz (newer S.n)) S.n r (Fo.push (.mk k n l ks) t).av):=by
   intro g T hT ho hg
   rw[Fo.av]
   refine stA_of ho (Fo.row_len g) rfl fun T1 n1 o1 f1=>?_
   rw[ldN_p (n:=4) o1 (Fo.row_len g)]
   exact⟨_,rfl,hT.st (by omega) n1 f1,by rw[←hg];exact Fo.tr g _ _⟩
  have dflt:∀(T:Store) (o:Nat) (k2:Int),Keep S T→S.n+2<o→o<T.n→T.obj S.n=some (.cells 32 [[aI k,.v (.string n),aI l,foL ks]] true)→T.obj (S.n+1)=some (.cells 79 [[dualM]] true)→T.obj (S.n+2)=some (.cells 32 [fo0r] true)→T.obj o=some (.cells 32 [[aI k2,.v (.string ⟨#[]⟩),aI 0,.nl]] true)→
      Fo.push (.mk k n l ks) t = .mk k2 ⟨#[]⟩ 0 (Fo.pushs ks t)→
      loopV lv31_0 (vc Pg (c31.at_ [1,1,1,1,1,0,1,0,0]) (ms31.drop 1)) 86 (env31_0 (aB t) (.p (S.n+2) 0 0) (kidF S.n (S.n+1)) (.p o 0 0) (aI ks.length) (.v (.int .i64 0))) T (blockK 1 (seqK (vc Pg (c31.at_ [1,1,1,1,1,1]) (ms31.drop 1)) (bodyK Pg r31 fun e S'=>∃ r,e = .ret r∧Keep S S'∧Cv (S'.frz (newer S.n)) S.n r (Fo.push (.mk k n l ks) t).av))):=fun T o k2 hT ho ho2 oa om ob oc he =>
   treepush_loop h4 (fun f hf'=>hf f hf' _ (hall f hf') t) hT (by omega) ho ho2 oa om ob oc fun r T' hT' hr=>⟨r,rfl,hT',by rw[he];exact hr⟩
  have rest:¬ k=3→¬ k=4→¬ k=7→¬ k=8→(k=1∨k=2∨k=5∨k=6∨9≤k∧k≤18)→shift (.p S.n 0 0) 0 S3 fun v53 T=>ld1 v53 T fun v54 T=>bld [(0,1),(1,1),(2,1),(3,1)] fo0r [(0,v54)] T fun v55 T=>boxN 32 4 (.a fo0r) T fun v56 T=>stN 4 v56 v55 T fun _ T=>gd t (ld1 (.p (S.n+1) 0 0) T fun v59 T=>shift (.p S.n 0 0) 0 T fun v60 T=>ld1 v60 T fun v61 T=>lkM (.i .i64) (.v (.int .i64 0)) false v59 v61 T fun v62 T=>shift v56 0 T fun v63 T=>stN 1 v63 v62 T fun _ T =>
      shift (.p S.n 0 0) 3 T fun v65 T=>ld1 v65 T fun v66 T=>lenS v66 T fun v67 T =>
      loopV lv31_0 (vc Pg (c31.at_ [1,1,1,1,1,0,1,0,0]) (ms31.drop 1)) 86 (env31_0 (aB t) (.p (S.n+2) 0 0) (kidF S.n (S.n+1)) v56 v67 (.v (.int .i64 0))) T (blockK 1 (seqK (vc Pg (c31.at_ [1,1,1,1,1,1]) (ms31.drop 1)) (bodyK Pg r31 fun e S'=>∃ r,e = .ret r∧Keep S S'∧Cv (S'.frz (newer S.n)) S.n r (Fo.push (.mk k n l ks) t).av))))
      (shift (.p S.n 0 0) 3 T fun v65 T=>ld1 v65 T fun v66 T=>lenS v66 T fun v67 T=>loopV lv31_0 (vc Pg (c31.at_ [1,1,1,1,1,0,1,0,0]) (ms31.drop 1)) 86 (env31_0 (aB t) (.p (S.n+2) 0 0) (kidF S.n (S.n+1)) v56 v67 (.v (.int .i64 0))) T (blockK 1 (seqK (vc Pg (c31.at_ [1,1,1,1,1,1]) (ms31.drop 1)) (bodyK Pg r31 fun e S'=>∃ r,e = .ret r∧Keep S S'∧Cv (S'.frz (newer S.n)) S.n r (Fo.push (.mk k n l ks) t).av)))):=by
   intro h3 h4' h7 h8 hkd
   have he:Fo.push (.mk k n l ks) t = .mk (if t then dualK k else k) ⟨#[]⟩ 0 (Fo.pushs ks t):=by rw[Fo.push,if_neg h3,if_neg h4',if_neg h7,if_neg h8]
   rw[shift_p,ld1_p p3 rfl rfl,bld_of (cs:=[aI k,.v (.string ⟨#[]⟩),aI 0,.nl]) rfl]
   refine boxA_of rfl fun S4 k4 n4 o4=>?_
   refine stA_of (cs':=[aI k,.v (.string ⟨#[]⟩),aI 0,.nl]) o4 rfl rfl fun S5 n5 o5 f5=>?_
   have k5:=k4.st (Nat.le_refl _) n5 f5
   have p5:=(k5.2 _ (by omega)).trans p3
   have q5:=(k5.2 _ (by omega)).trans q3
   have r5:=(k5.2 _ (by omega)).trans o3
   refine gd_of (fun ht=>?_) (fun ht=>?_)
   ·subst ht
    rw[ld1_p q5 rfl rfl,shift_p,ld1_p p5 rfl rfl,lkM_mt (keyI _ _),dual_lk hkd,shift_p]
    refine stF_of o5 (by simp) rfl fun S6 n6 o6 f6=>?_
    rw[shift_p,ld1_p ((f6 _ (by omega)).trans p5) rfl rfl,lenS_foL]
    exact dflt S6 S3.n (dualK k) ((kk.trans k5).st (by omega) n6 f6) (by omega) (by omega) ((f6 _ (by omega)).trans p5) ((f6 _ (by omega)).trans q5) ((f6 _ (by omega)).trans r5) o6 he
   ·subst ht
    rw[shift_p,ld1_p p5 rfl rfl,lenS_foL]
    exact dflt S5 S3.n k (kk.trans k5) (by omega) (by omega) p5 q5 r5 o5 he
  obtain⟨rfl,hd,hc⟩:=may_cases hm
  rcases hc with⟨hk,rfl,rfl⟩|⟨rfl,rfl,h0⟩|⟨hk,rfl,f,rfl,hfm⟩|⟨hk,rfl,f,g,rfl,hfm,hgm⟩
  ·repeat (refine tno (by omega) ?_)
   exact rest (by omega) (by omega) (by omega) (by omega) (by omega)
  ·refine tyes rfl ?_
   rw[onB_v]
   refine gd_of (fun ht=>?_) (fun ht=>?_)
   ·subst ht
    rw[ldN_p (n:=4) p3 rfl]
    refine bslA4 (r:=[aI 3,.v (.string ⟨#[]⟩),aI l,foL []]) rfl ?_
    refine C_A (ans62 4 [.mk 3 ⟨#[]⟩ l []]) rfl (by rw[show foL [Fo.mk 3 ⟨#[]⟩ l []] = .l [Fo.row (.mk 3 ⟨#[]⟩ l [])]from rfl,Fo.row_mk]) ?_
    exact fin (foOne 4 (.mk 3 ⟨#[]⟩ l [])) _ kk o3 (by rw[push_atom];rfl)
   ·subst ht
    rw[ldN_p (n:=4) p3 rfl]
    have:=fin (.mk 3 ⟨#[]⟩ l []) _ kk o3 (by rw[push_atom];rfl)
    rw[Fo.av,Fo.row_mk]at this
    exact this
  ·have cf:=fun t=>ck S3 p3 q3 (by omega) 0 (by simp) t
   by_cases h4:k=4
   ·subst h4
    refine tno (by decide) (tyes rfl ?_)
    rw[un_not]
    refine callV_at (cf _) ?_
    exact fin _ _ kk o3 push_not.symm
   ·repeat (refine tno (by omega) ?_)
    exact rest (by omega) (by omega) (by omega) (by omega) (by omega)
  ·have cf:=fun t=>ck S3 p3 q3 (by omega) 0 (by simp) t
   have cg:=fun t=>ck S3 p3 q3 (by omega) 1 (by simp) t
   by_cases h7:k=7
   ·subst h7
    refine tno (by decide) (tno (by decide) (tyes rfl ?_))
    rw[onB_v]
    refine gd_of (fun ht=>?_) (fun ht=>?_)
    ·subst ht
     refine callV_at (cf false) (callV_at (cg true) ?_)
     refine bslA42 (Fo.row_len _) (Fo.row_len _) (callF_ans (ans62 5 [f.push false,g.push true]) ?_)
     exact fin (foTwo 5 (f.push false) (g.push true)) _ kk o3 (by rw[push_imp];rfl)
    ·subst ht
     refine callV_at (cf true) (callV_at (cg false) ?_)
     refine bslA42 (Fo.row_len _) (Fo.row_len _) (callF_ans (ans62 6 [f.push true,g.push false]) ?_)
     exact fin (foTwo 6 (f.push true) (g.push false)) _ kk o3 (by rw[push_imp];rfl)
   by_cases h8:k=8
   ·subst h8
    refine tno (by decide) (tno (by decide) (tno (by decide) (tyes rfl ?_)))
    refine callV_at (cf false) (callV_at (cg t) ?_)
    refine bslA42 (Fo.row_len _) (Fo.row_len _) (callF_ans (ans62 5 [f.push false,g.push t]) ?_)
    refine callV_at (cf true) ?_
    rw[un_not]
    refine callV_at (cg (!t)) ?_
    refine bslA42 (Fo.row_len _) (Fo.row_len _) (callF_ans (ans62 5 [f.push true,g.push (!t)]) ?_)
    refine bslA42 (Fo.row_len _) (Fo.row_len _) (callF_ans (ans62 6 [foTwo 5 (f.push false) (g.push t),foTwo 5 (f.push true) (g.push (!t))]) ?_)
    exact fin _ _ kk o3 push_same.symm
   ·repeat (refine tno (by omega) ?_)
    exact rest (by omega) (by omega) (by omega) (by omega) (by omega)
def pushB(f:Fo):Fo:=if f.mayB 60=true then f.push false else fo0
theorem ans18{f:Fo}(hf:f.ok):Ans Pg 18 [f.av] (pushB f).av:=by
 intro S
 refine ACalls.tree (calls18 ?_)
 unfold m18 pushB
 refine boxA_of (Fo.row_len f) fun S1 k1 n1 o1=>?_
 refine boxA_of rfl fun S2 k2 n2 o2=>?_
 have p2:=(k2.2 _ (by omega)).trans o1
 rw[ldN_p (n:=4) p2 (Fo.row_len f)]
 refine callF_ans (ans35 f hf 60 ⟨by decide,by decide⟩) ?_
 rw[un_not,onB_v]
 refine gd_of (fun h=>?_) (fun h=>?_)
 ·have h:f.mayB 60=false:=by simpa using h
  rw[h,if_neg (by decide),bld_of (cs:=fo0r) rfl]
  refine stA_of (cs':=fo0r) o2 rfl rfl fun S3 n3 o3 f3=>?_
  rw[ldN_p (n:=4) o3 rfl]
  refine⟨_,rfl,(k1.trans k2).st (by omega) n3 f3,?_⟩
  rw[Fo.av,Fo.row_mk]
  refine .a _ _ rfl fun k u u2 e1 e2=>?_
  match k with
  |0=>cases e1;cases e2;exact .v _
  |1=>cases e1;cases e2;exact .v _
  |2=>cases e1;cases e2;exact .v _
  |3=>cases e1;cases e2;exact .nl
  |k+4=>simp at e1
 ·have h:f.mayB 60=true:=by simpa using h
  rw[h,if_pos rfl]
  (repeat (first|with_reducible_and_instances (first|refine WJ ?_|refine W (LJ_ldN (n:=4) p2 (by omega) (Fo.row_len f)) ?_|refine W (J_ldq (by with_unfolding_all rfl)) ?_)|refine J_cA (ans32) rfl rfl ?_|refine C_A (ans32) rfl rfl ?_|refine L_cA (ans32) rfl rfl ?_|refine J_cA (ans31 f hf h false) rfl rfl ?_|refine C_A (ans31 f hf h false) rfl rfl ?_|refine L_cA (ans31 f hf h false) rfl rfl ?_))
  refine stA_of o2 (Fo.row_len _) rfl fun S3 n3 o3 f3=>?_
  rw[ldN_p (n:=4) o3 (Fo.row_len _)]
  exact⟨_,rfl,(k1.trans k2).st (by omega) n3 f3,Fo.tr _ _ _⟩
theorem ans14{f:Fo}(hf:f.ok):Ans Pg 14 [f.av] (pushB f).av:=by
 intro S
 refine ACalls.tree (calls14 ?_)
 unfold m14 pushB
 refine boxA_of (Fo.row_len f) fun S1 k1 n1 o1=>?_
 refine boxA_of rfl fun S2 k2 n2 o2=>?_
 have p2:=(k2.2 _ (by omega)).trans o1
 rw[ldN_p (n:=4) p2 (Fo.row_len f)]
 refine callF_ans (ans26 f hf 60 ⟨by decide,by decide⟩) ?_
 rw[un_not,onB_v]
 refine gd_of (fun h=>?_) (fun h=>?_)
 ·have h:f.mayB 60=false:=by simpa using h
  rw[h,if_neg (by decide),bld_of (cs:=fo0r) rfl]
  refine stA_of (cs':=fo0r) o2 rfl rfl fun S3 n3 o3 f3=>?_
  rw[ldN_p (n:=4) o3 rfl]
  refine⟨_,rfl,(k1.trans k2).st (by omega) n3 f3,?_⟩
  rw[Fo.av,Fo.row_mk]
  refine .a _ _ rfl fun k u u2 e1 e2=>?_
  match k with
  |0=>cases e1;cases e2;exact .v _
  |1=>cases e1;cases e2;exact .v _
  |2=>cases e1;cases e2;exact .v _
  |3=>cases e1;cases e2;exact .nl
  |k+4=>simp at e1
 ·have h:f.mayB 60=true:=by simpa using h
  rw[h,if_pos rfl,ldN_p (n:=4) p2 (Fo.row_len f)]
  refine callF_ans (ans27 f hf h false) ?_
  refine stA_of o2 (Fo.row_len _) rfl fun S3 n3 o3 f3=>?_
  rw[ldN_p (n:=4) o3 (Fo.row_len _)]
  exact⟨_,rfl,(k1.trans k2).st (by omega) n3 f3,Fo.tr _ _ _⟩
structure Cs (c:Ci):Prop where
 ok:c.ok
 right:c.right=true
 small:c.gr.inputs≤60
theorem Cs.sum{c:Ci}(h:Cs c):∃ m:Nat,c.inputs+c.latches.length=m∧c.gr.inputs=m∧m≤60∧0≤c.inputs∧c.inputs≤60:=by
 obtain⟨g1,g2,g3⟩:=gr_inp h.right
 have hin:=(right_c.1 h.right).1
 have:=h.small
 exact⟨c.gr.inputs.toNat,by omega,by omega,by omega,hin.1,by omega⟩
theorem ans65{c:Ci}(hc:Cs c)(s:Int):Ans Pg 65 [c.av,aI s] (aB (validS c s)):=by
 intro S
 obtain⟨m,h1,h2,h3,h4,h5⟩:=hc.sum
 have hcon:=hc.ok.cons
 refine ACalls.ans_v (calls65 ?_)
 unfold m65 validS
 rw[h2,Int.toNat_natCast]
 refine boxA_of rfl fun S1 k1 n1 o1=>?_
 rw[shift_p,ld1_p o1 rfl rfl,shift_p,ld1_p o1 rfl rfl,lenS_pL,bin_add (by omega) (by omega),h1,bin_lss,onB_v]
 refine gd_of (fun h=>⟨?_,k1⟩) (fun h=>?_)
 ·have:=dT h
  rw[decide_eq_false (by omega),Bool.false_and]
 have h0:=dF h
 rw[bin_shl1 h3,bin_geq,onB_v,decide_eq_true (show 0≤s by omega),Bool.true_and]
 refine gd_of (fun h=>⟨?_,k1⟩) (fun h=>?_)
 ·have:=dT h
  rw[decide_eq_false (by omega),Bool.false_and]
 have h6:=dF h
 rw[decide_eq_true (show s<2 ^ m by omega),Bool.true_and]
 refine loop65_0 (fun y S'=>S'=S1∧∃ i:Nat,y=aI i∧i≤c.cons.length∧∀ j (h:j<c.cons.length),j<i→isB c s c.cons[j]=true) (fun y _=>c.cons.length - ((intA y).getD 0).toNat) ⟨rfl,0,rfl,Nat.zero_le _,fun j _ h=>by omega⟩ ?_
 rintro _ S1 ⟨rfl,i,rfl,hi,hall⟩ KE hKE
 unfold b65_0
 rw[shift_p,ld1_p o1 rfl rfl,lenS_aL,bin_lss,onB_v]
 refine gd_of (fun hlt=>?_) (fun hge=>?_)
 ·have hlt:i<c.cons.length:=by have:=dT hlt;omega
  show ∃ q:AV,_
  refine⟨_,by rw[ldN_p (n:=8) o1 rfl];exact⟨rfl,rfl⟩,?_⟩
  refine⟨_,by rw[shift_p];exact⟨rfl,rfl⟩,?_⟩
  refine⟨_,by rw[ld1_p o1 rfl rfl];exact⟨rfl,rfl⟩,?_⟩
  refine⟨_,by rw[ixS_aL hlt];exact⟨rfl,rfl⟩,?_⟩
  refine⟨_,by rw[ld1_q];exact⟨rfl,rfl⟩,?_⟩
  refine⟨_,callF_ans (ans67 hc.ok (s:=s) (hcon.1 _ (List.getElem_mem hlt))) ⟨rfl,rfl⟩,?_⟩
  refine⟨_,by rw[un_not];exact⟨rfl,rfl⟩,?_⟩
  rw[onB_v]
  refine gd_of (fun h=>⟨by rw[all_no hlt (by simpa using h)],k1⟩) (fun h=>?_)
  rw[bin_add (by omega) (by omega)]
  exact hKE _ _ ⟨rfl,i+1,rfl,hlt,lt_step (p:=fun l=>isB c s l=true) (hi:=hlt) hall (by simpa using h)⟩ (by simp[intA];omega)
 ·have hge:i=c.cons.length:=by have:=dF hge;omega
  subst hge
  exact⟨by rw[all_lt fun j hj=>hall j hj hj],k1⟩
theorem J_shr{a b:Int}(hb:0≤b){S0:Store}{P:AV→Prop}:(∃ q,(bin .shr 0 (aI a) (aI b) S0 fun v S=>v=q∧S=S0)∧P q)=P (aI (a.fdiv (2 ^ min b.toNat 64))):=J_by (op:=fun K=>bin .shr 0 (aI a) (aI b) S0 K) fun K=>bin_shr hb .i64 .i64 0
theorem ans69{c:Ci}(hc:Cs c)(s t:Int):Ans Pg 69 [c.av,aI s,aI t] (aB (behindS c s t)):=by
 intro S
 obtain⟨m,h1,h2,h3,h4,h5⟩:=hc.sum
 refine ACalls.ans_v (calls69 ?_)
 unfold m69 behindS
 refine boxA_of rfl fun S1 k1 n1 o1=>?_
 show ∃ q:AV,_
 cases e1:validS c s with
 |false =>
  (repeat (first|with_reducible_and_instances (first|refine WJ ?_|refine W (J_ldN (n:=8) o1 (by with_unfolding_all rfl)) ?_|refine W (gd_T e1) ?_|refine W (gd_F e1) ?_|refine W (gd_nT e1) ?_|refine W (gd_nF e1) ?_|refine W (J_ldq (by with_unfolding_all rfl)) ?_)|refine J_cA (ans65 hc s) rfl rfl ?_|refine C_A (ans65 hc s) rfl rfl ?_))
  exact⟨by rw[Bool.false_and],k1⟩
 |true =>
  cases e2:validS c t with
  |false =>
   (repeat (first|with_reducible_and_instances (first|refine WJ ?_|refine W (J_ldN (n:=8) o1 (by with_unfolding_all rfl)) ?_|refine W (gd_T e1) ?_|refine W (gd_F e1) ?_|refine W (gd_nT e1) ?_|refine W (gd_nF e1) ?_|refine W (gd_T e2) ?_|refine W (gd_F e2) ?_|refine W (gd_nT e2) ?_|refine W (gd_nF e2) ?_|refine W (J_ldq (by with_unfolding_all rfl)) ?_)|refine J_cA (ans65 hc s) rfl rfl ?_|refine C_A (ans65 hc s) rfl rfl ?_|refine J_cA (ans65 hc t) rfl rfl ?_|refine C_A (ans65 hc t) rfl rfl ?_))
   exact⟨by rw[Bool.false_and,Bool.and_false],k1⟩
  |true =>
   (repeat (first|with_reducible_and_instances (first|refine WJ ?_|refine W (J_ldN (n:=8) o1 (by with_unfolding_all rfl)) ?_|refine W (J_ldp o1 (by with_unfolding_all rfl) (by with_unfolding_all rfl)) ?_|refine W (J_shr h4) ?_|refine W (gd_T e1) ?_|refine W (gd_F e1) ?_|refine W (gd_nT e1) ?_|refine W (gd_nF e1) ?_|refine W (gd_T e2) ?_|refine W (gd_F e2) ?_|refine W (gd_nT e2) ?_|refine W (gd_nF e2) ?_|refine W (J_ldq (by with_unfolding_all rfl)) ?_)|refine J_cA (ans65 hc s) rfl rfl ?_|refine C_A (ans65 hc s) rfl rfl ?_|refine J_cA (ans65 hc t) rfl rfl ?_|refine C_A (ans65 hc t) rfl rfl ?_|refine J_cA (ans78 hc.ok s) rfl rfl ?_|refine C_A (ans78 hc.ok s) rfl rfl ?_))
   exact⟨by rw[Bool.true_and,Bool.true_and],k1⟩
theorem ans70:Ans Pg 70 [] fo2.av:=by
 intro S
 refine ACalls.tree (calls70 ?_)
 unfold m70
 refine boxA_of rfl fun S1 k1 n1 o1=>?_
 rw[bld_of (cs:=[aI 2,.v (.string ByteArray.empty),aI 0,.nl]) rfl]
 refine stA_of (cs':=[aI 2,.v (.string ByteArray.empty),aI 0,.nl]) o1 rfl rfl fun S2 n2 o2 f2=>?_
 rw[ldN_p (n:=4) o2 rfl]
 refine⟨_,rfl,k1.st (Nat.le_refl _) n2 f2,?_⟩
 rw[Fo.av,Fo.row_mk]
 refine .a _ _ rfl fun k u u2 e1 e2=>?_
 match k with
 |0=>cases e1;cases e2;exact .v _
 |1=>cases e1;cases e2;exact .v _
 |2=>cases e1;cases e2;exact .v _
 |3=>cases e1;cases e2;exact .nl
 |k+4=>simp at e1
theorem ans24(f g:Fo):Ans Pg 24 [f.av,g.av] (foTwo 15 f g).av:=by
 intro S
 refine ACalls.tree (calls24 ?_)
 unfold m24
 refine boxA_of (Fo.row_len f) fun S1 k1 n1 o1=>?_
 refine boxA_of (Fo.row_len g) fun S2 k2 n2 o2=>?_
 refine boxA_of rfl fun S3 k3 n3 o3=>?_
 rw[ldN_p (n:=4) ((k3.2 _ (by omega)).trans ((k2.2 _ (by omega)).trans o1)) (Fo.row_len f),ldN_p (n:=4) ((k3.2 _ (by omega)).trans o2) (Fo.row_len g)]
 refine callF_ans (ans41 15 f g) ?_
 refine stA_of o3 (Fo.row_len _) rfl fun S4 n4 o4 f4=>?_
 rw[ldN_p (n:=4) o4 (Fo.row_len _)]
 exact⟨_,rfl,((k1.trans k2).trans k3).st (by omega) n4 f4,Fo.tr _ _ _⟩
theorem ans23(f:Fo):Ans Pg 23 [f.av] (foOne 13 f).av:=by
 intro S
 refine ACalls.tree (calls23 ?_)
 unfold m23
 refine boxA_of (Fo.row_len f) fun S1 k1 n1 o1=>?_
 refine boxA_of rfl fun S2 k2 n2 o2=>?_
 rw[ldN_p (n:=4) ((k2.2 _ (by omega)).trans o1) (Fo.row_len f)]
 refine callF_ans (ans40 13 f) ?_
 refine stA_of o2 (Fo.row_len _) rfl fun S3 n3 o3 f3=>?_
 rw[ldN_p (n:=4) o3 (Fo.row_len _)]
 exact⟨_,rfl,(k1.trans k2).st (by omega) n3 f3,Fo.tr _ _ _⟩
@[simp] theorem lenS_tnL(l:List Tn){S:Store}{K:AV→Store→Prop}:lenS (tnL l) S K=K (aI l.length) S:=by simp[tnL]
theorem ixS_tnL{l:List Tn}{e i:Nat}{S:Store}{K:AV→Store→Prop}(h:i<l.length):ixS e 5 (tnL l) (aI i) S K=K (.q l[i].row 0) S:=by
 unfold tnL
 rw[ixS_l (by simpa using h) (by simp[Tn.row_len])]
 simp
theorem nil_len{α:Type}{l:List α}:decide ((l.length:Int)=0)=decide (l.length=0):=decide_eq_decide.2 ⟨fun h=>by omega,fun h=>by omega⟩
theorem ans66(tk s a:Int)(ss:List Int)(ks:List Tn):Ans Pg 66 [(Tn.mk tk s a ss ks).av] (aB (decide (a=0∧ss.length=0∧ks.length=0))):=by
 intro S
 refine ACalls.ans_v (calls66 ?_)
 unfold m66
 rw[Tn.av,Tn.row_mk]
 refine boxA_of rfl fun S1 k1 n1 o1=>?_
 rw[shift_p,ld1_p o1 rfl rfl,bin_eql,onB_v]
 refine gd_of (fun h=>?_) (fun h=>⟨?_,k1⟩)
 ·have h1:=dT h
  rw[shift_p,ld1_p o1 rfl rfl,lenS_aL,bin_eql,onB_v]
  refine gd_of (fun h=>?_) (fun h=>⟨?_,k1⟩)
  ·have h2:=dT h
   rw[shift_p,ld1_p o1 rfl rfl,lenS_tnL,bin_eql]
   exact⟨by rw[nil_len];congr 3;exact decide_eq_decide.2 ⟨fun h=>⟨h1,by omega,h⟩,fun h=>h.2.2⟩,k1⟩
  ·have h2:=dF h
   rw[decide_eq_false (fun h=>by omega)]
 ·have h1:=dF h
  rw[decide_eq_false (fun h=>by omega)]
inductive Tn.ok:Tn→Prop
 |mk (k s b:Int) (ss:List Int) (ks:List Tn) (h1:i64R k) (h2:i64R s) (h3:i64R b) (h4:ss.length≤1000000) (h5:∀ x∈ss,i64R x) (h6:ks.length≤1000000) (h:∀ t∈ks,Tn.ok t):Tn.ok (.mk k s b ss ks)
abbrev aR(r:Int × Bool):AV:=.t [aI r.1,aB r.2]
theorem ACalls.ansT{P:Program}{fn:FuncId}{args:List AV}{S:Store}{r:Int × Bool}(h:ACalls P fn args S (fun e S'=>e = .ret (aR r)∧Keep S S')):AnsAt P fn args S (aR r):=
 ACalls.tree (ACalls.mono h fun e S' ⟨h1,h2⟩=>⟨_,h1,h2,cv_t2 (.v _) (.v _)⟩)
theorem J_ext{vs:List AV}{i:Nat}{u:AV}(h:vs[i]? = some u){S0:Store}{P:AV→Prop}:(∃ q,(extr (.t vs) i S0 fun v S=>v=q∧S=S0)∧P q)=P u:=J_by (op:=fun K=>extr (.t vs) i S0 K) fun K=>by simp[extr,h]
theorem extr_t{vs:List AV}{i:Nat}{u:AV}(h:vs[i]? = some u){S:Store}{K:AV→Store→Prop}:extr (.t vs) i S K=K u S:=by simp[extr,h]
theorem ans68{c:Ci}{ts:List Tn}(ht:ts.length≤1000000)(IH:∀ t∈ts,∀ f,Pu f→Ans Pg 34 [c.av,f.av,t.av] (aR (t.acc c f))){fs:List Fo}(hf:∀ f∈fs,Pu f)(ss:List Int):
    Ans Pg 68 [c.av,foL fs,aL aI ss,tnL ts] (aR (Tn.accs c ts fs ss 0)):=by
 intro S
 refine ACalls.ansT (calls68 ?_)
 unfold m68
 refine boxA_of rfl fun S1 k1 n1 o1=>?_
 rw[lenS_foL,lenS_tnL,bin_neq,onB_v]
 refine gd_of (fun h=>⟨?_,k1⟩) (fun h=>?_)
 ·rw[accs_len c ts fs ss 0 (fun hq=>by simp[hq.1]at h)]
 have h1:fs.length=ts.length:=by simp at h;omega
 rw[lenS_aL,lenS_tnL,bin_neq,onB_v]
 refine gd_of (fun h=>⟨?_,k1⟩) (fun h=>?_)
 ·rw[accs_len c ts fs ss 0 (fun hq=>by simp[hq.2]at h)]
 have h2:ss.length=ts.length:=by simp at h;omega
 refine loop68_0 (fun y z S'=>S'=S1∧∃(i:Nat) (n:Int),z=aI i∧y=aI n∧i≤ts.length∧Tn.accs c ts fs ss 0=Tn.accs c (ts.drop i) (fs.drop i) (ss.drop i) n) (fun _ z _=>ts.length - ((intA z).getD 0).toNat) ⟨rfl,0,0,rfl,rfl,Nat.zero_le _,rfl⟩ ?_
 rintro _ _ S1 ⟨rfl,i,n,rfl,rfl,hi,he⟩ KE hKE
 unfold b68_0
 rw[lenS_tnL,bin_lss,onB_v]
 refine gd_of (fun hlt=>?_) (fun hge=>?_)
 ·have hlt:i<ts.length:=by have:=dT hlt;omega
  have hf1:i<fs.length:=by omega
  have hs1:i<ss.length:=by omega
  have hmem:=List.getElem_mem hlt
  rw[List.drop_eq_getElem_cons hlt,List.drop_eq_getElem_cons hf1,List.drop_eq_getElem_cons hs1,accs_cons]at he
  have hst:∀ t:Tn,t.row[1]? = some (aI t.st):=fun t=>by cases t;rw[Tn.row_mk];rfl
  show ∃ q:AV,_
  refine⟨_,by rw[ldN_p (n:=8) o1 rfl];exact⟨rfl,rfl⟩,?_⟩
  refine⟨_,by rw[ixS_foL hf1];exact⟨rfl,rfl⟩,?_⟩
  refine⟨_,by rw[ldN_q (Fo.row_len _)];exact⟨rfl,rfl⟩,?_⟩
  refine⟨_,by rw[ixS_tnL hlt];exact⟨rfl,rfl⟩,?_⟩
  refine⟨_,by rw[ldN_q (Tn.row_len _)];exact⟨rfl,rfl⟩,?_⟩
  refine⟨_,callF_ans (IH _ hmem _ (hf _ (List.getElem_mem hf1))) ⟨rfl,rfl⟩,?_⟩
  refine⟨_,by rw[extr_t rfl];exact⟨rfl,rfl⟩,?_⟩
  refine⟨_,by rw[extr_t rfl];exact⟨rfl,rfl⟩,?_⟩
  show ∃ q:AV,_
  cases e1:(ts[i].acc c fs[i]).2 with
  |false =>
   rw[e1,Bool.false_and,if_neg (by decide)]at he
   (repeat (first|with_reducible_and_instances (first|refine WJ ?_|refine W (gd_T (Eq.refl false)) ?_|refine W (gd_F (Eq.refl false)) ?_|refine W (gd_nT (Eq.refl false)) ?_|refine W (gd_nF (Eq.refl false)) ?_|refine W (J_ldq (by with_unfolding_all rfl)) ?_)))
   exact⟨by rw[he],k1⟩
  |true =>
   rw[e1,Bool.true_and]at he
   by_cases e2:ts[i].st=ss[i]
   ·rw[decide_eq_true e2,if_pos rfl]at he
    (repeat (first|with_reducible_and_instances (first|refine WJ ?_|refine W (J_of (op:=fun K=>ixS _ 5 (tnL ts) (aI i) S1 K) (fun K=>ixS_tnL hlt)) ?_|refine W (J_ldq (hst _)) ?_|refine W (J_of (op:=fun K=>ixS _ 1 (aL aI ss) (aI i) S1 K) (fun K=>ixS_aL hs1)) ?_|refine W (gd_T (Eq.refl true)) ?_|refine W (gd_F (Eq.refl true)) ?_|refine W (gd_nT (Eq.refl true)) ?_|refine W (gd_nF (Eq.refl true)) ?_|refine W (gd_T (decide_eq_true e2)) ?_|refine W (gd_F (decide_eq_true e2)) ?_|refine W (gd_nT (decide_eq_true e2)) ?_|refine W (gd_nF (decide_eq_true e2)) ?_|refine W (J_ldq (by with_unfolding_all rfl)) ?_)))
    rw[bin_addW,show ∀ K:AV→Store→Prop,bin .add 0 (aI i) (.v (.int .i64 1)) S1 K=K (aI (i+1:Nat)) S1 from fun K=>bin_add (by omega) (by omega) 0]
    exact hKE _ _ _ ⟨rfl,i+1,_,rfl,rfl,hlt,he⟩ (by simp[intA];omega)
   ·rw[decide_eq_false e2,if_neg (by decide)]at he
    (repeat (first|with_reducible_and_instances (first|refine WJ ?_|refine W (J_of (op:=fun K=>ixS _ 5 (tnL ts) (aI i) S1 K) (fun K=>ixS_tnL hlt)) ?_|refine W (J_ldq (hst _)) ?_|refine W (J_of (op:=fun K=>ixS _ 1 (aL aI ss) (aI i) S1 K) (fun K=>ixS_aL hs1)) ?_|refine W (gd_T (Eq.refl true)) ?_|refine W (gd_F (Eq.refl true)) ?_|refine W (gd_nT (Eq.refl true)) ?_|refine W (gd_nF (Eq.refl true)) ?_|refine W (gd_T (decide_eq_false e2)) ?_|refine W (gd_F (decide_eq_false e2)) ?_|refine W (gd_nT (decide_eq_false e2)) ?_|refine W (gd_nF (decide_eq_false e2)) ?_|refine W (J_ldq (by with_unfolding_all rfl)) ?_)))
    exact⟨by rw[he],k1⟩
 ·have hge:i=ts.length:=by have:=dF hge;omega
  subst hge
  rw[List.drop_length,←h1,List.drop_length,h1,←h2,List.drop_length,accs_nil]at he
  exact⟨by rw[he],k1⟩
section
set_option maxRecDepth 100000
def c42:Code:=(Tryz.f42.body).getD .skip
def r42:List ResultVar:=Tryz.f42.results.toList
def env42_0(y1 y2 y5 y6:AV):List AV:=[y1,y2,y5,y6]
def lv42_0:List Nat:=[1,2,5,6]
def ms42:List (List Nat):=[lv42_0,[]]
def m42(x0 x1:AV)(S:Store)(Q:PoT):Prop:=
 boxN 29 8 x0 S fun a S=>loopV lv42_0 (vc Pg (c42.at_ [1,1,0,1,0,0]) (ms42.drop 1)) 33 (env42_0 x1 a .nl (.v (.int .i64 0))) S (blockK 0 (seqK (vc Pg (c42.at_ [1,1,1]) (ms42.drop 1)) (bodyK Pg r42 Q)))
theorem calls42{x0 x1:AV}{S:Store}{Q:PoT}(h:m42 x0 x1 S Q):ACalls Pg 42 [x0,x1] S Q:=
 calls_of_vc (fn:=Tryz.f42) (c:=c42) (n:=33) Tryz.func42 (by kernel_rfl) (by kernel_rfl) (by kernel_rfl) ms42 (Eq.mpr (by kernel_rfl) h)
def b42_0(y1 y2 y5 y6:AV)(S:Store)(KE0:KeT)(Q:PoT):Prop:=
 shift y2 0 S fun a S=>ld1 a S fun c S=>bin .shl 0 (.v (.int .i64 1)) c S fun d S=>bin .lss 0 y6 d S fun e S=>onB e fun b=>gd b (ldN 8 y2 S fun f S=>callF Pg 65 [f,y1] S Q fun g S=>onB g fun b=>gd b (ldN 8 y2 S fun h S=>callF Pg 78 [h,y1] S Q fun i S=>bin .add 0 i y6 S fun k S=>ldN 8 y2 S fun l S=>callF Pg 65 [l,k] S Q fun m S=>onB m fun b=>gd b (bslN 3 1 1 [.v (.int .i64 0)] [(0,k)] S fun n S=>appS 3 1 8 y5 n S fun o S=>bin .add 0 y6 (.v (.int .i64 1)) S fun p S=>KE0 33 (env42_0 y1 y2 o p) S) (bin .add 0 y6 (.v (.int .i64 1)) S fun q S=>KE0 33 (env42_0 y1 y2 y5 q) S)) (Q (.ret y5) S)) (Q (.ret y5) S)
theorem b42_0_eq(y1 y2 y5 y6:AV)(S:Store)(KE0:KeT)(Q:PoT):vc Pg (c42.at_ [1,1,0,1,0,0]) (ms42.drop 1) (mkE 33 lv42_0 (env42_0 y1 y2 y5 y6)) S (thenK (fgK lv42_0 KE0) (blockK 0 (seqK (vc Pg (c42.at_ [1,1,1]) (ms42.drop 1)) (bodyK Pg r42 Q))))=b42_0 y1 y2 y5 y6 S KE0 Q:=by kernel_rfl
theorem loop42_0{y1 y2:AV}{y50 y60:AV}{S:Store}{Q:PoT}(I:AV→AV→Store→Prop)(μ:AV→AV→Store→Nat)(h0:I y50 y60 S)
    (hr:∀(y5 y6:AV) (S:Store),I y5 y6 S→∀ KE0:KeT,(∀(y5' y6':AV) (S':Store),I y5' y6' S'→μ y5' y6' S'<μ y5 y6 S→KE0 33 (env42_0 y1 y2 y5' y6') S')→b42_0 y1 y2 y5 y6 S KE0 Q):
    loopV lv42_0 (vc Pg (c42.at_ [1,1,0,1,0,0]) (ms42.drop 1)) 33 (env42_0 y1 y2 y50 y60) S (blockK 0 (seqK (vc Pg (c42.at_ [1,1,1]) (ms42.drop 1)) (bodyK Pg r42 Q))):=by
 refine⟨fun n e S=>n=33∧∃ y5 y6:AV,e=(env42_0 y1 y2 y5 y6)∧I y5 y6 S,fun _ e S=>μ (e.getD 2 .j) (e.getD 3 .j) S,?_,?_⟩
 ·exact⟨_,_,Wk.refl _ _,rfl,_,_,rfl,h0⟩
 ·rintro _ e S ⟨rfl,y5,y6,rfl,hI⟩
  exact(b42_0_eq _ _ _ _ _ _ _).mpr (hr y5 y6 S hI _ (fun y5' y6' S' hI' hm=>⟨_,_,Wk.refl _ _,⟨rfl,_,_,rfl,hI'⟩,hm⟩))
def c8:Code:=(Tryz.f8.body).getD .skip
def ms8:List (List Nat):=[[]]
def m8(S:Store)(Q:PoT):Prop:=
 bld [(0,1),(1,1)] [.v (.int .i64 0),.v (.int .i64 0)] [(0,(.v (.int .i64 3)))] S fun c S=>bslN 59 2 1 [.v (.int .i64 0),.v (.int .i64 0)] [(0,c)] S fun d S=>bld [(0,1),(1,1),(2,1),(3,1),(4,1),(5,1),(6,1),(7,1)] [.v (.int .i64 0),.nl,.nl,.nl,.nl,.nl,.nl,.nl] [(1,d)] S fun e S=>boxN 29 8 (.a [.v (.int .i64 0),.nl,.nl,.nl,.nl,.nl,.nl,.nl]) S fun f S=>stN 8 f e S fun g S=>bld [(0,1),(1,1),(2,1),(3,1)] [.v (.int .i64 0),.v (.string ByteArray.empty),.v (.int .i64 0),.nl] [(0,(.v (.int .i64 2)))] S fun h S=>bslN 32 4 1 [.v (.int .i64 0),.v (.string ByteArray.empty),.v (.int .i64 0),.nl] [(0,h)] S fun i S=>bld [(0,1),(1,1),(2,1),(3,1)] [.v (.int .i64 0),.v (.string ByteArray.empty),.v (.int .i64 0),.nl] [(0,(.v (.int .i64 13))),(3,i)] S fun k S=>boxN 32 4 (.a [.v (.int .i64 0),.v (.string ByteArray.empty),.v (.int .i64 0),.nl]) S fun l S=>stN 4 l k S fun m S=>bslN 3 1 2 [.v (.int .i64 0)] [(0,(.v (.int .i64 0))),(1,(.v (.int .i64 1)))] S fun n S=>bld [(0,1),(1,1),(2,1),(3,1),(4,1)] [.v (.int .i64 0),.v (.int .i64 0),.v (.int .i64 0),.nl,.nl] [(0,(.v (.int .i64 1)))] S fun o S=>bld [(0,1),(1,1),(2,1),(3,1),(4,1)] [.v (.int .i64 0),.v (.int .i64 0),.v (.int .i64 0),.nl,.nl] [(0,(.v (.int .i64 1))),(1,(.v (.int .i64 1)))] S fun p S=>bslN 37 5 2 [.v (.int .i64 0),.v (.int .i64 0),.v (.int .i64 0),.nl,.nl] [(0,o),(1,p)] S fun q S=>bld [(0,1),(1,1),(2,1),(3,1),(4,1)] [.v (.int .i64 0),.v (.int .i64 0),.v (.int .i64 0),.nl,.nl] [(0,(.v (.int .i64 6))),(3,n),(4,q)] S fun r S=>boxN 37 5 (.a [.v (.int .i64 0),.v (.int .i64 0),.v (.int .i64 0),.nl,.nl]) S fun s S=>stN 5 s r S fun t S=>ldN 8 f S fun u S=>ldN 4 l S fun w S=>ldN 5 s S fun x S=>callF Pg 16 [u,w,x] S Q fun y S=>extr y 0 S fun z S=>extr y 1 S fun A S=>shift s 2 S fun B S=>stN 1 B (.v (.int .i64 1)) S fun C S=>ldN 8 f S fun D S=>ldN 4 l S fun E S=>ldN 5 s S fun F S=>callF Pg 16 [D,E,F] S Q fun G S=>extr G 0 S fun H S=>extr G 1 S fun I S=>ldN 8 f S fun J S=>bld [(0,1),(1,1),(2,1),(3,1)] [.v (.int .i64 0),.v (.string ByteArray.empty),.v (.int .i64 0),.nl] [(0,(.v (.int .i64 1)))] S fun K S=>bslN 32 4 1 [.v (.int .i64 0),.v (.string ByteArray.empty),.v (.int .i64 0),.nl] [(0,K)] S fun L S=>bld [(0,1),(1,1),(2,1),(3,1)] [.v (.int .i64 0),.v (.string ByteArray.empty),.v (.int .i64 0),.nl] [(0,(.v (.int .i64 14))),(3,L)] S fun M S=>bld [(0,1),(1,1),(2,1),(3,1),(4,1)] [.v (.int .i64 0),.v (.int .i64 0),.v (.int .i64 0),.nl,.nl] [(0,(.v (.int .i64 7)))] S fun N S=>callF Pg 16 [J,M,N] S Q fun O S=>extr O 0 S fun P S=>extr O 1 S fun R S=>ldN 4 l S fun T S=>bslN 32 4 1 [.v (.int .i64 0),.v (.string ByteArray.empty),.v (.int .i64 0),.nl] [(0,T)] S fun U S=>bld [(0,1),(1,1),(2,1),(3,1)] [.v (.int .i64 0),.v (.string ByteArray.empty),.v (.int .i64 0),.nl] [(0,(.v (.int .i64 4))),(3,U)] S fun V S=>callF Pg 18 [V] S Q fun W S=>boxN 32 4 (.a [.v (.int .i64 0),.v (.string ByteArray.empty),.v (.int .i64 0),.nl]) S fun X S=>stN 4 X W S fun Y S=>onB A fun b=>gd b (bin .eql 0 z (.v (.int .i64 0)) S fun Z S=>onB Z fun b=>gd b (un .not I S fun a0 S=>onB a0 fun b=>gd b (onB R fun b=>gd b (bin .eql 0 P (.v (.int .i64 1)) S fun a1 S=>onB a1 fun b=>gd b (shift X 0 S fun a2 S=>ld1 a2 S fun a3 S=>bin .eql 0 a3 (.v (.int .i64 12)) S fun a4 S=>onB a4 fun b=>gd b (shift X 3 S fun a5 S=>ld1 a5 S fun a6 S=>lenS a6 S fun a7 S=>bin .eql 0 a7 (.v (.int .i64 1)) S fun a8 S=>onB a8 fun b=>gd b (shift X 3 S fun a9 S=>ld1 a9 S fun b0 S=>ixS 32 4 b0 (.v (.int .i64 0)) S fun b1 S=>shift b1 0 S fun b2 S=>ld1 b2 S fun b3 S=>bin .eql 0 b3 (.v (.int .i64 1)) S fun b4 S=>Q (.ret b4) S) (Q (.ret (.v (.bool false))) S)) (Q (.ret (.v (.bool false))) S)) (Q (.ret (.v (.bool false))) S)) (Q (.ret (.v (.bool false))) S)) (Q (.ret (.v (.bool false))) S)) (Q (.ret (.v (.bool false))) S)) (Q (.ret (.v (.bool false))) S)
theorem calls8{S:Store}{Q:PoT}(h:m8  S Q):ACalls Pg 8 [] S Q:=
 calls_of_vc (fn:=Tryz.f8) (c:=c8) (n:=85) Tryz.func8 (by kernel_rfl) (by kernel_rfl) (by kernel_rfl) ms8 (Eq.mpr (by kernel_rfl) h)
def c6:Code:=(Tryz.f6.body).getD .skip
def r6:List ResultVar:=Tryz.f6.results.toList
def env6_0(y1 y2 y5:AV):List AV:=[y1,y2,y5]
def lv6_0:List Nat:=[1,2,5]
def ms6:List (List Nat):=[lv6_0,[]]
def m6(x0 x1:AV)(S:Store)(Q:PoT):Prop:=
 boxN 37 5 x0 S fun a S=>shift a 3 S fun c S=>ld1 c S fun d S=>lenS d S fun e S=>bin .gtr 0 e (.v (.int .i64 40)) S fun f S=>onB f fun b=>gd b (Q (.ret (.v (.int .i64 (-1)))) S) (loopV lv6_0 (vc Pg (c6.at_ [1,1,0,1,0,0]) (ms6.drop 1)) 30 (env6_0 x1 a (.v (.int .i64 0))) S (blockK 0 (seqK (vc Pg (c6.at_ [1,1,1]) (ms6.drop 1)) (bodyK Pg r6 Q))))
theorem calls6{x0 x1:AV}{S:Store}{Q:PoT}(h:m6 x0 x1 S Q):ACalls Pg 6 [x0,x1] S Q:=
 calls_of_vc (fn:=Tryz.f6) (c:=c6) (n:=30) Tryz.func6 (by kernel_rfl) (by kernel_rfl) (by kernel_rfl) ms6 (Eq.mpr (by kernel_rfl) h)
def b6_0(y1 y2 y5:AV)(S:Store)(KE0:KeT)(Q:PoT):Prop:=
 shift y2 4 S fun a S=>ld1 a S fun c S=>lenS c S fun d S=>bin .lss 0 y5 d S fun e S=>onB e fun b=>gd b (bin .geq 0 y1 (.v (.int .i64 0)) S fun f S=>onB f fun b=>gd b (shift y2 4 S fun g S=>ld1 g S fun h S=>ixS 37 5 h y5 S fun i S=>ldN 5 i S fun k S=>bin .sub 0 y1 (.v (.int .i64 1)) S fun l S=>callF Pg 6 [k,l] S Q fun m S=>bin .add 0 y5 (.v (.int .i64 1)) S fun n S=>KE0 30 (env6_0 m y2 n) S) (Q (.ret y1) S)) (Q (.ret y1) S)
theorem b6_0_eq(y1 y2 y5:AV)(S:Store)(KE0:KeT)(Q:PoT):vc Pg (c6.at_ [1,1,0,1,0,0]) (ms6.drop 1) (mkE 30 lv6_0 (env6_0 y1 y2 y5)) S (thenK (fgK lv6_0 KE0) (blockK 0 (seqK (vc Pg (c6.at_ [1,1,1]) (ms6.drop 1)) (bodyK Pg r6 Q))))=b6_0 y1 y2 y5 S KE0 Q:=by kernel_rfl
theorem loop6_0{y2:AV}{y10 y50:AV}{S:Store}{Q:PoT}(I:AV→AV→Store→Prop)(μ:AV→AV→Store→Nat)(h0:I y10 y50 S)
    (hr:∀(y1 y5:AV) (S:Store),I y1 y5 S→∀ KE0:KeT,(∀(y1' y5':AV) (S':Store),I y1' y5' S'→μ y1' y5' S'<μ y1 y5 S→KE0 30 (env6_0 y1' y2 y5') S')→b6_0 y1 y2 y5 S KE0 Q):
    loopV lv6_0 (vc Pg (c6.at_ [1,1,0,1,0,0]) (ms6.drop 1)) 30 (env6_0 y10 y2 y50) S (blockK 0 (seqK (vc Pg (c6.at_ [1,1,1]) (ms6.drop 1)) (bodyK Pg r6 Q))):=by
 refine⟨fun n e S=>n=30∧∃ y1 y5:AV,e=(env6_0 y1 y2 y5)∧I y1 y5 S,fun _ e S=>μ (e.getD 0 .j) (e.getD 2 .j) S,?_,?_⟩
 ·exact⟨_,_,Wk.refl _ _,rfl,_,_,rfl,h0⟩
 ·rintro _ e S ⟨rfl,y1,y5,rfl,hI⟩
  exact(b6_0_eq _ _ _ _ _ _).mpr (hr y1 y5 S hI _ (fun y1' y5' S' hI' hm=>⟨_,_,Wk.refl _ _,⟨rfl,_,_,rfl,hI'⟩,hm⟩))
def c7:Code:=(Tryz.f7.body).getD .skip
def ms7:List (List Nat):=[[]]
def m7(x0 x1 x2:AV)(S:Store)(Q:PoT):Prop:=
 boxN 29 8 x0 S fun a S=>boxN 32 4 x1 S fun c S=>boxN 37 5 x2 S fun d S=>ldN 8 a S fun e S=>ldN 4 c S fun f S=>ldN 5 d S fun g S=>callF Pg 16 [e,f,g] S Q fun h S=>extr h 0 S fun i S=>extr h 1 S fun k S=>ldN 8 a S fun l S=>ldN 4 c S fun m S=>ldN 5 d S fun n S=>callF Pg 17 [l,m,n] S Q fun o S=>extr o 0 S fun p S=>extr o 1 S fun q S=>bin .eql 0 i p S fun r S=>onB r fun b=>gd b (bin .eql 1 k q S fun s S=>Q (.ret s) S) (Q (.ret (.v (.bool false))) S)
theorem calls7{x0 x1 x2:AV}{S:Store}{Q:PoT}(h:m7 x0 x1 x2 S Q):ACalls Pg 7 [x0,x1,x2] S Q:=
 calls_of_vc (fn:=Tryz.f7) (c:=c7) (n:=33) Tryz.func7 (by kernel_rfl) (by kernel_rfl) (by kernel_rfl) ms7 (Eq.mpr (by kernel_rfl) h)
def c17:Code:=(Tryz.f17.body).getD .skip
def ms17:List (List Nat):=[[]]
def m17(x0 x1 x2:AV)(S:Store)(Q:PoT):Prop:=
 boxN 29 8 x0 S fun a S=>boxN 32 4 x1 S fun c S=>boxN 37 5 x2 S fun d S=>ldN 8 a S fun e S=>ldN 4 c S fun f S=>callF Pg 33 [e,f] S Q fun g S=>un .not g S fun h S=>onB h fun b=>gd b (Q (.ret (.t [.v (.int .i64 0),.v (.bool false)])) S) (shift a 0 S fun i S=>ld1 i S fun k S=>shift a 1 S fun l S=>ld1 l S fun m S=>lenS m S fun n S=>bin .add 0 k n S fun o S=>bin .gtr 0 o (.v (.int .i64 60)) S fun p S=>onB p fun b=>gd b (Q (.ret (.t [.v (.int .i64 0),.v (.bool false)])) S) ((fun S0:Store=>∃ q:AV,(ldN 8 a S fun r S=>r=q∧S=S0)∧∃ s:AV,(ldN 4 c S fun u S=>u=s∧S=S0)∧∃ w:AV,(callF Pg 27 [s,.v (.bool false)] S (fun _ _=>False) fun x S=>x=w∧S=S0)∧∃ y:AV,(ldN 5 d S fun z S=>z=y∧S=S0)∧∃ A:AV,(callF Pg 34 [q,w,y] S (fun _ _=>False) fun B S=>B=A∧S=S0)∧∃ C:AV,(extr A 0 S fun D S=>D=C∧S=S0)∧∃ E:AV,(extr A 1 S fun F S=>F=E∧S=S0)∧un .not E S fun G S=>onB G fun b=>gd b (Q (.ret (.t [.v (.int .i64 0),.v (.bool false)])) S) (Q (.ret (.t [C,.v (.bool true)])) S)) S))
theorem calls17{x0 x1 x2:AV}{S:Store}{Q:PoT}(h:m17 x0 x1 x2 S Q):ACalls Pg 17 [x0,x1,x2] S Q:=
 calls_of_vc (fn:=Tryz.f17) (c:=c17) (n:=34) Tryz.func17 (by kernel_rfl) (by kernel_rfl) (by kernel_rfl) ms17 (Eq.mpr (by kernel_rfl) h)
def c16:Code:=(Tryz.f16.body).getD .skip
def ms16:List (List Nat):=[[30]]
def m16(x0 x1 x2:AV)(S:Store)(Q:PoT):Prop:=
 boxN 29 8 x0 S fun a S=>boxN 32 4 x1 S fun c S=>boxN 37 5 x2 S fun d S=>ldN 8 a S fun e S=>ldN 4 c S fun f S=>callF Pg 28 [e,f] S Q fun g S=>un .not g S fun h S=>onB h fun b=>gd b (Q (.ret (.t [.v (.int .i64 0),.v (.bool false)])) S) (shift a 0 S fun i S=>ld1 i S fun k S=>shift a 1 S fun l S=>ld1 l S fun m S=>lenS m S fun n S=>bin .add 0 k n S fun o S=>bin .gtr 0 o (.v (.int .i64 60)) S fun p S=>onB p fun b=>gd b (Q (.ret (.t [.v (.int .i64 0),.v (.bool false)])) S) (∃ q:AV,(∀ T:Store,Keep S T→ldN 8 a T fun r S=>r=q∧S=T)∧∃ s:AV,(∀ T:Store,Keep S T→callF Pg 29 [] T (fun _ _=>False) fun u S=>u=s∧S=T)∧∃ w:AV,(∀ T:Store,Keep S T→bld [(0,8),(8,1),(9,1)] [.v (.int .i64 0),.nl,.nl,.nl,.nl,.nl,.nl,.nl,.v (.int .i64 0),.v (.map none)] [(0,q),(2,s)] T fun x S=>x=w∧S=T)∧boxN 76 10 w S fun y S=>∃ z:AV,(∀ T:Store,Keep S T→ldN 4 c T fun A S=>A=z∧S=T)∧∃ B:AV,(∀ T:Store,Keep S T→callF Pg 32 [] T (fun _ _=>False) fun C S=>C=B∧S=T)∧∃ D:AV,(∀ T:Store,Keep S T→callF Pg 31 [z,.v (.bool false),B] T (fun _ _=>False) fun E S=>E=D∧S=T)∧∃ F:AV,(∀ T:Store,Keep S T→ldN 5 d T fun G S=>G=F∧S=T)∧callF Pg 30 [y,D,F] S Q fun H S=>∃ I:AV,(∀ T:Store,Keep S T→un .not H T fun J S=>J=I∧S=T)∧onB I fun b=>gd b (Q (.ret (.t [.v (.int .i64 0),.v (.bool false)])) S) (nilChk y S fun K S=>shift K 8 S fun L S=>ld1 L S fun M S=>Q (.ret (.t [M,.v (.bool true)])) S)))
theorem calls16{x0 x1 x2:AV}{S:Store}{Q:PoT}(h:m16 x0 x1 x2 S Q):ACalls Pg 16 [x0,x1,x2] S Q:=
 calls_of_vc (fn:=Tryz.f16) (c:=c16) (n:=37) Tryz.func16 (by kernel_rfl) (by kernel_rfl) (by kernel_rfl) ms16 (Eq.mpr (by kernel_rfl) h)
def c30:Code:=(Tryz.f30.body).getD .skip
def ms30:List (List Nat):=[[]]
def m30(x0 x1 x2:AV)(S:Store)(Q:PoT):Prop:=
 boxN 32 4 x1 S fun a S=>boxN 37 5 x2 S fun c S=>(fun S0:Store=>∃ d:AV,(nilChk x0 S fun e S=>e=d∧S=S0)∧∃ f:AV,(shift d 9 S fun g S=>g=f∧S=S0)∧∃ h:AV,(ld1 f S fun k S=>k=h∧S=S0)∧∃ l:AV,(shift a 0 S fun m S=>m=l∧S=S0)∧∃ n:AV,(ld1 l S fun o S=>o=n∧S=S0)∧∃ p:AV,(lkM (.i .i64) (.v .nilFunc) true h n S fun q S=>q=p∧S=S0)∧∃ r:AV,(extr p 0 S fun s S=>s=r∧S=S0)∧∃ t:AV,(extr p 1 S fun w S=>w=t∧S=S0)∧onB t fun b=>gd b (shift c 1 S fun x S=>ld1 x S fun y S=>callF Pg 60 [x0,y] S Q fun z S=>onB z fun b=>gd b (ldN 4 a S fun A S=>ldN 5 c S fun B S=>callV Pg r [x0,A,B] S (fun C S=>Q (.ret C) S) (fun u S=>Q (.pan u) S)) (Q (.ret (.v (.bool false))) S)) (Q (.ret (.v (.bool false))) S)) S
theorem calls30{x0 x1 x2:AV}{S:Store}{Q:PoT}(h:m30 x0 x1 x2 S Q):ACalls Pg 30 [x0,x1,x2] S Q:=
 calls_of_vc (fn:=Tryz.f30) (c:=c30) (n:=33) Tryz.func30 (by kernel_rfl) (by kernel_rfl) (by kernel_rfl) ms30 (Eq.mpr (by kernel_rfl) h)
def c29:Code:=(Tryz.f29.body).getD .skip
def ms29:List (List Nat):=[[57]]
def m29(S:Store)(Q:PoT):Prop:=
 mkM (.i .i64) S fun a S=>updM (.i .i64) a (.v (.int .i64 2)) (.f (.func 49) [] []) S fun c S=>updM (.i .i64) a (.v (.int .i64 3)) (.f (.func 50) [] []) S fun d S=>updM (.i .i64) a (.v (.int .i64 4)) (.f (.func 51) [] []) S fun e S=>updM (.i .i64) a (.v (.int .i64 5)) (.f (.func 52) [] []) S fun g S=>updM (.i .i64) a (.v (.int .i64 6)) (.f (.func 53) [] []) S fun h S=>updM (.i .i64) a (.v (.int .i64 9)) (.f (.func 54) [] []) S fun k S=>updM (.i .i64) a (.v (.int .i64 11)) (.f (.func 55) [] []) S fun l S=>updM (.i .i64) a (.v (.int .i64 13)) (.f (.func 56) [] []) S fun m S=>updM (.i .i64) a (.v (.int .i64 15)) (.f (.func 57) [] []) S fun n S=>updM (.i .i64) a (.v (.int .i64 17)) (.f (.func 58) [] []) S fun o S=>updM (.i .i64) a (.v (.int .i64 10)) (.f (.func 59) [] []) S fun p S=>updM (.i .i64) a (.v (.int .i64 12)) (.f (.func 59) [] []) S fun q S=>updM (.i .i64) a (.v (.int .i64 14)) (.f (.func 59) [] []) S fun r S=>updM (.i .i64) a (.v (.int .i64 16)) (.f (.func 59) [] []) S fun s S=>updM (.i .i64) a (.v (.int .i64 18)) (.f (.func 59) [] []) S fun t S=>Q (.ret a) S
theorem calls29{S:Store}{Q:PoT}(h:m29  S Q):ACalls Pg 29 [] S Q:=
 calls_of_vc (fn:=Tryz.f29) (c:=c29) (n:=3) Tryz.func29 (by kernel_rfl) (by kernel_rfl) (by kernel_rfl) ms29 (Eq.mpr (by kernel_rfl) h)
def c96:Code:=(Tryz.f96.body).getD .skip
def ms96:List (List Nat):=[[]]
def m96(x0 x1 x2:AV)(S:Store)(Q:PoT):Prop:=
 ld1 x1 S fun a S=>ld1 x2 S fun c S=>callF Pg 89 [a,x0,c] S Q fun d S=>Q (.ret d) S
theorem calls96{x0 x1 x2:AV}{S:Store}{Q:PoT}(h:m96 x0 x1 x2 S Q):ACalls Pg 96 [x0,x1,x2] S Q:=
 calls_of_vc (fn:=Tryz.f96) (c:=c96) (n:=9) Tryz.func96 (by kernel_rfl) (by kernel_rfl) (by kernel_rfl) ms96 (Eq.mpr (by kernel_rfl) h)
def c56:Code:=(Tryz.f56.body).getD .skip
def r56:List ResultVar:=Tryz.f56.results.toList
def env56_0(y3 y4 y5 y61 y62 y63:AV):List AV:=[y3,y4,y5,y61,y62,y63]
def lv56_0:List Nat:=[3,4,5,61,62,63]
def ms56:List (List Nat):=[lv56_0,[97]]
def m56(x0 x1 x2:AV)(S:Store)(Q:PoT):Prop:=
 boxN 72 1 x0 S fun a S=>boxN 32 4 x1 S fun c S=>boxN 37 5 x2 S fun d S=>shift d 3 S fun e S=>ld1 e S fun f S=>lenS f S fun g S=>(fun S0:Store=>∃ h:AV,(shift d 0 S0 fun i S=>i=h∧S=S0)∧∃ k:AV,(ld1 h S0 fun l S=>l=k∧S=S0)∧∃ m:AV,(bin .neq 0 k (.v (.int .i64 6)) S0 fun n S=>n=m∧S=S0)∧∃ t13:Bool,wantT m false=some t13∧∃ o:AV,gd t13 (ld1 a S0 fun p S=>p=o∧S=S0) (o = .v undef)∧∃ t16:Bool,wantT m false=some t16∧∃ q:AV,gd t16 (ldN 5 d S0 fun r S=>r=q∧S=S0) (q = .v undef)∧∃ t19:Bool,wantT m false=some t19∧∃ s:AV,gd t19 (callF Pg 95 [o,q] S0 (fun _ _=>False) fun t S=>t=s∧S=S0) (s = .v undef)∧∃ t22:Bool,wantT m false=some t22∧∃ u:AV,gd t22 (un .not s S0 fun w S=>w=u∧S=S0) (u = .v undef)∧∃ x:AV,(pick m (.v (.bool true)) u S0 fun y S=>y=x∧S=S0)∧∃ t27:Bool,wantT x false=some t27∧∃ z:AV,gd t27 (shift d 2 S0 fun A S=>A=z∧S=S0) (z = .v undef)∧∃ t30:Bool,wantT x false=some t30∧∃ B:AV,gd t30 (ld1 z S0 fun C S=>C=B∧S=S0) (B = .v undef)∧∃ t33:Bool,wantT x false=some t33∧∃ D:AV,gd t33 (bin .lss 0 B (.v (.int .i64 0)) S0 fun E S=>E=D∧S=S0) (D = .v undef)∧∃ F:AV,(pick x (.v (.bool true)) D S0 fun G S=>G=F∧S=S0)∧∃ t38:Bool,wantT F false=some t38∧∃ H:AV,gd t38 (shift d 2 S0 fun I S=>I=H∧S=S0) (H = .v undef)∧∃ t41:Bool,wantT F false=some t41∧∃ J:AV,gd t41 (ld1 H S0 fun K S=>K=J∧S=S0) (J = .v undef)∧∃ t44:Bool,wantT F false=some t44∧∃ L:AV,gd t44 (L=g) (L = .v undef)∧∃ t46:Bool,wantT F false=some t46∧∃ M:AV,gd t46 (bin .geq 0 J L S0 fun N S=>N=M∧S=S0) (M = .v undef)∧∃ O:AV,(pick F (.v (.bool true)) M S0 fun P S=>P=O∧S=S0)∧∃ t51:Bool,wantT O false=some t51∧∃ R:AV,gd t51 (shift d 4 S0 fun T S=>T=R∧S=S0) (R = .v undef)∧∃ t54:Bool,wantT O false=some t54∧∃ U:AV,gd t54 (ld1 R S0 fun V S=>V=U∧S=S0) (U = .v undef)∧∃ t57:Bool,wantT O false=some t57∧∃ W:AV,gd t57 (lenS U S0 fun X S=>X=W∧S=S0) (W = .v undef)∧∃ t60:Bool,wantT O false=some t60∧∃ Y:AV,gd t60 (Y=g) (Y = .v undef)∧∃ t62:Bool,wantT O false=some t62∧∃ Z:AV,gd t62 (bin .neq 0 W Y S0 fun a0 S=>a0=Z∧S=S0) (Z = .v undef)∧∃ a1:AV,(pick O (.v (.bool true)) Z S0 fun a2 S=>a2=a1∧S=S0)∧∃ t67:Bool,wantT a1 false=some t67∧∃ a3:AV,gd t67 (ld1 a S0 fun a4 S=>a4=a3∧S=S0) (a3 = .v undef)∧∃ t70:Bool,wantT a1 false=some t70∧∃ a5:AV,gd t70 (shift d 3 S0 fun a6 S=>a6=a5∧S=S0) (a5 = .v undef)∧∃ t73:Bool,wantT a1 false=some t73∧∃ a7:AV,gd t73 (ld1 a5 S0 fun a8 S=>a8=a7∧S=S0) (a7 = .v undef)∧∃ t76:Bool,wantT a1 false=some t76∧∃ a9:AV,gd t76 (a9=g) (a9 = .v undef)∧∃ t78:Bool,wantT a1 false=some t78∧∃ b0:AV,gd t78 (bin .sub 0 a9 (.v (.int .i64 1)) S0 fun b1 S=>b1=b0∧S=S0) (b0 = .v undef)∧∃ t81:Bool,wantT a1 false=some t81∧∃ b2:AV,gd t81 (ixS 3 1 a7 b0 S0 fun b3 S=>b3=b2∧S=S0) (b2 = .v undef)∧∃ t84:Bool,wantT a1 false=some t84∧∃ b4:AV,gd t84 (ld1 b2 S0 fun b5 S=>b5=b4∧S=S0) (b4 = .v undef)∧∃ t87:Bool,wantT a1 false=some t87∧∃ b6:AV,gd t87 (shift d 3 S0 fun b7 S=>b7=b6∧S=S0) (b6 = .v undef)∧∃ t90:Bool,wantT a1 false=some t90∧∃ b8:AV,gd t90 (ld1 b6 S0 fun b9 S=>b9=b8∧S=S0) (b8 = .v undef)∧∃ t93:Bool,wantT a1 false=some t93∧∃ c0:AV,gd t93 (shift d 2 S0 fun c1 S=>c1=c0∧S=S0) (c0 = .v undef)∧∃ t96:Bool,wantT a1 false=some t96∧∃ c2:AV,gd t96 (ld1 c0 S0 fun c3 S=>c3=c2∧S=S0) (c2 = .v undef)∧∃ t99:Bool,wantT a1 false=some t99∧∃ c4:AV,gd t99 (ixS 3 1 b8 c2 S0 fun c5 S=>c5=c4∧S=S0) (c4 = .v undef)∧∃ t102:Bool,wantT a1 false=some t102∧∃ c6:AV,gd t102 (ld1 c4 S0 fun c7 S=>c7=c6∧S=S0) (c6 = .v undef)∧∃ t105:Bool,wantT a1 false=some t105∧∃ c8:AV,gd t105 (callF Pg 93 [a3,b4,c6] S0 (fun _ _=>False) fun c9 S=>c9=c8∧S=S0) (c8 = .v undef)∧∃ t108:Bool,wantT a1 false=some t108∧∃ d0:AV,gd t108 (un .not c8 S0 fun d1 S=>d1=d0∧S=S0) (d0 = .v undef)∧∃ d2:AV,(pick a1 (.v (.bool true)) d0 S0 fun d3 S=>d3=d2∧S=S0)∧(fun S:Store=>onB d2 fun b=>gd b (Q (.ret (.v (.bool false))) S) (ld1 a S fun d4 S=>nilChk d4 S fun d5 S=>shift d5 0 S fun d6 S=>shift d6 6 S fun d7 S=>ld1 d7 S fun d8 S=>lenS d8 S fun d9 S=>loopV lv56_0 (vc Pg (c56.at_ [1,1,1,0,1,0,0]) (ms56.drop 1)) 86 (env56_0 a c d d8 d9 (.v (.int .i64 0))) S (blockK 0 (seqK (vc Pg (c56.at_ [1,1,1,1]) (ms56.drop 1)) (bodyK Pg r56 Q))))) S0) S
theorem calls56{x0 x1 x2:AV}{S:Store}{Q:PoT}(h:m56 x0 x1 x2 S Q):ACalls Pg 56 [x0,x1,x2] S Q:=
 calls_of_vc (fn:=Tryz.f56) (c:=c56) (n:=86) Tryz.func56 (by kernel_rfl) (by kernel_rfl) (by kernel_rfl) ms56 (Eq.mpr (by kernel_rfl) h)
def b56_0(y3 y4 y5 y61 y62 y63:AV)(S:Store)(KE0:KeT)(Q:PoT):Prop:=
 bin .lss 0 y63 y62 S fun a S=>onB a fun b=>gd b (ixS 3 1 y61 y63 S fun c S=>ld1 c S fun d S=>boxN 3 1 (.v (.int .i64 0)) S fun e S=>stN 1 e d S fun g S=>shift y5 3 S fun h S=>ld1 h S fun i S=>shift y5 2 S fun k S=>ld1 k S fun l S=>slc 3 1 i (some l) none none S fun m S=>callF Pg 84 [m,(.f (.func 96) [] [y3,e])] S Q fun n S=>un .not n S fun o S=>onB o fun b=>gd b (Q (.ret (.v (.bool false))) S) (bin .add 0 y63 (.v (.int .i64 1)) S fun p S=>KE0 86 (env56_0 y3 y4 y5 y61 y62 p) S)) (∃ q:AV,(∀ T:Store,Keep S T→ld1 y3 T fun r S=>r=q∧S=T)∧∃ s:AV,(∀ T:Store,Keep S T→shift y5 3 T fun t S=>t=s∧S=T)∧∃ u:AV,(∀ T:Store,Keep S T→ld1 s T fun w S=>w=u∧S=T)∧∃ x:AV,(∀ T:Store,Keep S T→shift y4 3 T fun y S=>y=x∧S=T)∧∃ z:AV,(∀ T:Store,Keep S T→ld1 x T fun A S=>A=z∧S=T)∧∃ B:AV,(∀ T:Store,Keep S T→ixS 32 4 z (.v (.int .i64 0)) T fun C S=>C=B∧S=T)∧∃ D:AV,(∀ T:Store,Keep S T→ldN 4 B T fun E S=>E=D∧S=T)∧∃ F:AV,(∀ T:Store,Keep S T→shift y5 4 T fun G S=>G=F∧S=T)∧∃ H:AV,(∀ T:Store,Keep S T→ld1 F T fun I S=>I=H∧S=T)∧callF Pg 97 [q,u,D,H] S Q fun J S=>Q (.ret J) S)
theorem b56_0_eq(y3 y4 y5 y61 y62 y63:AV)(S:Store)(KE0:KeT)(Q:PoT):vc Pg (c56.at_ [1,1,1,0,1,0,0]) (ms56.drop 1) (mkE 86 lv56_0 (env56_0 y3 y4 y5 y61 y62 y63)) S (thenK (fgK lv56_0 KE0) (blockK 0 (seqK (vc Pg (c56.at_ [1,1,1,1]) (ms56.drop 1)) (bodyK Pg r56 Q))))=b56_0 y3 y4 y5 y61 y62 y63 S KE0 Q:=by kernel_rfl
theorem loop56_0{y3 y4 y5 y61 y62:AV}{y630:AV}{S:Store}{Q:PoT}(I:AV→Store→Prop)(μ:AV→Store→Nat)(h0:I y630 S)
    (hr:∀(y63:AV) (S:Store),I y63 S→∀ KE0:KeT,(∀(y63':AV) (S':Store),I y63' S'→μ y63' S'<μ y63 S→KE0 86 (env56_0 y3 y4 y5 y61 y62 y63') S')→b56_0 y3 y4 y5 y61 y62 y63 S KE0 Q):
    loopV lv56_0 (vc Pg (c56.at_ [1,1,1,0,1,0,0]) (ms56.drop 1)) 86 (env56_0 y3 y4 y5 y61 y62 y630) S (blockK 0 (seqK (vc Pg (c56.at_ [1,1,1,1]) (ms56.drop 1)) (bodyK Pg r56 Q))):=by
 refine⟨fun n e S=>n=86∧∃ y63:AV,e=(env56_0 y3 y4 y5 y61 y62 y63)∧I y63 S,fun _ e S=>μ (e.getD 5 .j) S,?_,?_⟩
 ·exact⟨_,_,Wk.refl _ _,rfl,_,rfl,h0⟩
 ·rintro _ e S ⟨rfl,y63,rfl,hI⟩
  exact(b56_0_eq _ _ _ _ _ _ _ _ _).mpr (hr y63 S hI _ (fun y63' S' hI' hm=>⟨_,_,Wk.refl _ _,⟨rfl,_,rfl,hI'⟩,hm⟩))
def c55:Code:=(Tryz.f55.body).getD .skip
def ms55:List (List Nat):=[[57]]
def m55(x0 x1 x2:AV)(S:Store)(Q:PoT):Prop:=
 boxN 32 4 x1 S fun a S=>boxN 37 5 x2 S fun c S=>∃ d:AV,(∀ T:Store,Keep S T→bld [(0,1),(1,1),(2,1),(3,1)] [.v (.int .i64 0),.v (.string ByteArray.empty),.v (.int .i64 0),.nl] [(0,(.v (.int .i64 2)))] T fun e S=>e=d∧S=T)∧∃ f:AV,(∀ T:Store,Keep S T→shift a 3 T fun g S=>g=f∧S=T)∧∃ h:AV,(∀ T:Store,Keep S T→ld1 f T fun i S=>i=h∧S=T)∧∃ k:AV,(∀ T:Store,Keep S T→ixS 32 4 h (.v (.int .i64 0)) T fun l S=>l=k∧S=T)∧∃ m:AV,(∀ T:Store,Keep S T→ldN 4 k T fun n S=>n=m∧S=T)∧∃ o:AV,(∀ T:Store,Keep S T→bslN 32 4 2 [.v (.int .i64 0),.v (.string ByteArray.empty),.v (.int .i64 0),.nl] [(0,d),(1,m)] T fun p S=>p=o∧S=T)∧∃ q:AV,(∀ T:Store,Keep S T→callF Pg 62 [.v (.int .i64 15),o] T (fun _ _=>False) fun r S=>r=q∧S=T)∧∃ s:AV,(∀ T:Store,Keep S T→ldN 5 c T fun t S=>t=s∧S=T)∧callF Pg 57 [x0,q,s] S Q fun u S=>Q (.ret u) S
theorem calls55{x0 x1 x2:AV}{S:Store}{Q:PoT}(h:m55 x0 x1 x2 S Q):ACalls Pg 55 [x0,x1,x2] S Q:=
 calls_of_vc (fn:=Tryz.f55) (c:=c55) (n:=17) Tryz.func55 (by kernel_rfl) (by kernel_rfl) (by kernel_rfl) ms55 (Eq.mpr (by kernel_rfl) h)
def c59:Code:=(Tryz.f59.body).getD .skip
def ms59:List (List Nat):=[[]]
def m59(x0 x1 x2:AV)(S:Store)(Q:PoT):Prop:=
 boxN 32 4 x1 S fun a S=>boxN 37 5 x2 S fun c S=>nilChk x0 S fun d S=>shift d 8 S fun e S=>ld1 e S fun f S=>bin .add 0 f (.v (.int .i64 1)) S fun g S=>nilChk x0 S fun h S=>shift h 8 S fun i S=>stN 1 i g S fun k S=>ldN 5 c S fun l S=>callF Pg 88 [l,.v (.int .i64 7)] S Q fun m S=>Q (.ret m) S
theorem calls59{x0 x1 x2:AV}{S:Store}{Q:PoT}(h:m59 x0 x1 x2 S Q):ACalls Pg 59 [x0,x1,x2] S Q:=
 calls_of_vc (fn:=Tryz.f59) (c:=c59) (n:=16) Tryz.func59 (by kernel_rfl) (by kernel_rfl) (by kernel_rfl) ms59 (Eq.mpr (by kernel_rfl) h)
def c54:Code:=(Tryz.f54.body).getD .skip
def ms54:List (List Nat):=[[91]]
def m54(x0 x1 x2:AV)(S:Store)(Q:PoT):Prop:=
 boxN 32 4 x1 S fun a S=>boxN 37 5 x2 S fun c S=>ldN 5 c S fun d S=>callF Pg 90 [d,.v (.int .i64 4)] S Q fun e S=>un .not e S fun f S=>onB f fun b=>gd b (Q (.ret (.v (.bool false))) S) (shift c 4 S fun g S=>ld1 g S fun h S=>lenS h S fun i S=>bin .neq 0 i (.v (.int .i64 2)) S fun k S=>onB k fun b=>gd b (Q (.ret (.v (.bool false))) S) (shift c 4 S fun l S=>ld1 l S fun m S=>ixS 37 5 m (.v (.int .i64 0)) S fun n S=>shift n 1 S fun o S=>ld1 o S fun p S=>∃ q:AV,(∀ T:Store,Keep S T→shift c 1 T fun r S=>r=q∧S=T)∧∃ s:AV,(∀ T:Store,Keep S T→ld1 q T fun t S=>t=s∧S=T)∧∃ u:AV,(∀ T:Store,Keep S T→callF Pg 93 [x0,s,p] T (fun _ _=>False) fun w S=>w=u∧S=T)∧onB u fun b=>gd b (∃ x:AV,(∀ T:Store,Keep S T→shift a 3 T fun y S=>y=x∧S=T)∧∃ z:AV,(∀ T:Store,Keep S T→ld1 x T fun A S=>A=z∧S=T)∧∃ B:AV,(∀ T:Store,Keep S T→ixS 32 4 z (.v (.int .i64 0)) T fun C S=>C=B∧S=T)∧∃ D:AV,(∀ T:Store,Keep S T→ldN 4 B T fun E S=>E=D∧S=T)∧∃ F:AV,(∀ T:Store,Keep S T→shift c 4 T fun G S=>G=F∧S=T)∧∃ H:AV,(∀ T:Store,Keep S T→ld1 F T fun I S=>I=H∧S=T)∧∃ J:AV,(∀ T:Store,Keep S T→ixS 37 5 H (.v (.int .i64 0)) T fun K S=>K=J∧S=T)∧∃ L:AV,(∀ T:Store,Keep S T→ldN 5 J T fun M S=>M=L∧S=T)∧callF Pg 91 [x0,p,D,L] S Q fun N S=>∃ O:AV,(∀ T:Store,Keep S T→N=O∧T=T)∧onB O fun b=>gd b (∃ P:AV,(∀ T:Store,Keep S T→callF Pg 94 [] T (fun _ _=>False) fun R S=>R=P∧S=T)∧∃ U:AV,(∀ T:Store,Keep S T→shift c 4 T fun V S=>V=U∧S=T)∧∃ W:AV,(∀ T:Store,Keep S T→ld1 U T fun X S=>X=W∧S=T)∧∃ Y:AV,(∀ T:Store,Keep S T→ixS 37 5 W (.v (.int .i64 1)) T fun Z S=>Z=Y∧S=T)∧∃ a0:AV,(∀ T:Store,Keep S T→ldN 5 Y T fun a1 S=>a1=a0∧S=T)∧callF Pg 91 [x0,p,P,a0] S Q fun a2 S=>∃ a3:AV,(∀ T:Store,Keep S T→a2=a3∧T=T)∧Q (.ret a3) S) (∃ a4:AV,(∀ T:Store,Keep S T→(.v (.bool false))=a4∧T=T)∧Q (.ret a4) S)) (∃ a5:AV,(∀ T:Store,Keep S T→(.v (.bool false))=a5∧T=T)∧onB a5 fun b=>gd b (∃ a6:AV,(∀ T:Store,Keep S T→callF Pg 94 [] T (fun _ _=>False) fun a7 S=>a7=a6∧S=T)∧∃ a8:AV,(∀ T:Store,Keep S T→shift c 4 T fun a9 S=>a9=a8∧S=T)∧∃ b0:AV,(∀ T:Store,Keep S T→ld1 a8 T fun b1 S=>b1=b0∧S=T)∧∃ b2:AV,(∀ T:Store,Keep S T→ixS 37 5 b0 (.v (.int .i64 1)) T fun b3 S=>b3=b2∧S=T)∧∃ b4:AV,(∀ T:Store,Keep S T→ldN 5 b2 T fun b5 S=>b5=b4∧S=T)∧callF Pg 91 [x0,p,a6,b4] S Q fun b7 S=>∃ b8:AV,(∀ T:Store,Keep S T→b7=b8∧T=T)∧Q (.ret b8) S) (∃ b9:AV,(∀ T:Store,Keep S T→(.v (.bool false))=b9∧T=T)∧Q (.ret b9) S))))
theorem calls54{x0 x1 x2:AV}{S:Store}{Q:PoT}(h:m54 x0 x1 x2 S Q):ACalls Pg 54 [x0,x1,x2] S Q:=
 calls_of_vc (fn:=Tryz.f54) (c:=c54) (n:=50) Tryz.func54 (by kernel_rfl) (by kernel_rfl) (by kernel_rfl) ms54 (Eq.mpr (by kernel_rfl) h)
def c58:Code:=(Tryz.f58.body).getD .skip
def ms58:List (List Nat):=[[92]]
def m58(x0 x1 x2:AV)(S:Store)(Q:PoT):Prop:=
 boxN 32 4 x1 S fun a S=>boxN 37 5 x2 S fun c S=>∃ d:AV,(∀ T:Store,Keep S T→shift a 3 T fun e S=>e=d∧S=T)∧∃ f:AV,(∀ T:Store,Keep S T→ld1 d T fun g S=>g=f∧S=T)∧∃ h:AV,(∀ T:Store,Keep S T→ixS 32 4 f (.v (.int .i64 0)) T fun i S=>i=h∧S=T)∧∃ k:AV,(∀ T:Store,Keep S T→ldN 4 h T fun l S=>l=k∧S=T)∧∃ m:AV,(∀ T:Store,Keep S T→shift a 3 T fun n S=>n=m∧S=T)∧∃ o:AV,(∀ T:Store,Keep S T→ld1 m T fun q S=>q=o∧S=T)∧∃ r:AV,(∀ T:Store,Keep S T→ixS 32 4 o (.v (.int .i64 1)) T fun s S=>s=r∧S=T)∧∃ t:AV,(∀ T:Store,Keep S T→ldN 4 r T fun u S=>u=t∧S=T)∧newsV [(.cells 32 [[.v (.int .i64 0),.v (.string ByteArray.empty),.v (.int .i64 0),.nl]] true),(.cells 32 [[.v (.int .i64 0),.v (.string ByteArray.empty),.v (.int .i64 0),.nl]] true)] S fun ids19 S=>stN 4 (.p (ids19.headD 0) 0 0) k S fun w S=>(∀ T:Store,Keep S T→ldN 4 r T fun x S=>x=t∧S=T)∧(∀ T:Store,Keep S T→ixS 32 4 o (.v (.int .i64 1)) T fun y S=>y=r∧S=T)∧(∀ T:Store,Keep S T→ld1 m T fun z S=>z=o∧S=T)∧(∀ T:Store,Keep S T→shift a 3 T fun A S=>A=m∧S=T)∧stN 4 (.p (ids19.tail.headD 0) 0 0) t S fun B S=>∃ C:AV,(∀ T:Store,Keep S T→ldN 5 c T fun D S=>D=C∧S=T)∧∃ E:AV,(∀ T:Store,Keep S T→ldN 4 (.p (ids19.tail.headD 0) 0 0) T fun F S=>F=E∧S=T)∧∃ G:AV,(∀ T:Store,Keep S T→bslN 32 4 1 [.v (.int .i64 0),.v (.string ByteArray.empty),.v (.int .i64 0),.nl] [(0,E)] T fun H S=>H=G∧S=T)∧∃ I:AV,(∀ T:Store,Keep S T→callF Pg 62 [.v (.int .i64 13),G] T (fun _ _=>False) fun J S=>J=I∧S=T)∧∃ K:AV,(∀ T:Store,Keep S T→ldN 4 (.p (ids19.tail.headD 0) 0 0) T fun L S=>L=K∧S=T)∧∃ M:AV,(∀ T:Store,Keep S T→ldN 4 (.p (ids19.headD 0) 0 0) T fun N S=>N=M∧S=T)∧∃ O:AV,(∀ T:Store,Keep S T→ldN 4 (.p (ids19.tail.headD 0) 0 0) T fun P S=>P=O∧S=T)∧∃ R:AV,(∀ T:Store,Keep S T→bslN 32 4 2 [.v (.int .i64 0),.v (.string ByteArray.empty),.v (.int .i64 0),.nl] [(0,M),(1,O)] T fun U S=>U=R∧S=T)∧∃ V:AV,(∀ T:Store,Keep S T→callF Pg 62 [.v (.int .i64 5),R] T (fun _ _=>False) fun W S=>W=V∧S=T)∧∃ X:AV,(∀ T:Store,Keep S T→bslN 32 4 2 [.v (.int .i64 0),.v (.string ByteArray.empty),.v (.int .i64 0),.nl] [(0,K),(1,V)] T fun Y S=>Y=X∧S=T)∧∃ Z:AV,(∀ T:Store,Keep S T→callF Pg 62 [.v (.int .i64 15),X] T (fun _ _=>False) fun a0 S=>a0=Z∧S=T)∧∃ a1:AV,(∀ T:Store,Keep S T→bslN 32 4 2 [.v (.int .i64 0),.v (.string ByteArray.empty),.v (.int .i64 0),.nl] [(0,I),(1,Z)] T fun a2 S=>a2=a1∧S=T)∧callF Pg 92 [x0,C,a1] S Q fun a3 S=>Q (.ret a3) S
theorem calls58{x0 x1 x2:AV}{S:Store}{Q:PoT}(h:m58 x0 x1 x2 S Q):ACalls Pg 58 [x0,x1,x2] S Q:=
 calls_of_vc (fn:=Tryz.f58) (c:=c58) (n:=31) Tryz.func58 (by kernel_rfl) (by kernel_rfl) (by kernel_rfl) ms58 (Eq.mpr (by kernel_rfl) h)
def c57:Code:=(Tryz.f57.body).getD .skip
def ms57:List (List Nat):=[[91,97]]
def m57(x0 x1 x2:AV)(S:Store)(Q:PoT):Prop:=
 boxN 32 4 x1 S fun a S=>boxN 37 5 x2 S fun c S=>shift c 3 S fun d S=>ld1 d S fun e S=>lenS e S fun f S=>bin .sub 0 f (.v (.int .i64 1)) S fun g S=>shift c 0 S fun h S=>ld1 h S fun i S=>bin .neq 0 i (.v (.int .i64 5)) S fun k S=>onB k fun b=>gd b (Q (.ret (.v (.bool false))) S) (shift c 2 S fun l S=>ld1 l S fun m S=>bin .neq 0 m (.v (.int .i64 0)) S fun n S=>onB n fun b=>gd b (Q (.ret (.v (.bool false))) S) (ldN 5 c S fun o S=>callF Pg 95 [x0,o] S Q fun p S=>un .not p S fun q S=>onB q fun b=>gd b (Q (.ret (.v (.bool false))) S) (shift c 4 S fun r S=>ld1 r S fun s S=>lenS s S fun t S=>bin .add 0 g (.v (.int .i64 2)) S fun u S=>bin .neq 0 t u S fun w S=>onB w fun b=>gd b (Q (.ret (.v (.bool false))) S) (shift c 3 S fun x S=>ld1 x S fun y S=>ixS 3 1 y g S fun z S=>ld1 z S fun A S=>∃ B:AV,(∀ T:Store,Keep S T→shift c 3 T fun C S=>C=B∧S=T)∧∃ D:AV,(∀ T:Store,Keep S T→ld1 B T fun E S=>E=D∧S=T)∧∃ F:AV,(∀ T:Store,Keep S T→slc 3 1 D none (some g) none T fun G S=>G=F∧S=T)∧∃ H:AV,(∀ T:Store,Keep S T→shift a 3 T fun I S=>I=H∧S=T)∧∃ J:AV,(∀ T:Store,Keep S T→ld1 H T fun K S=>K=J∧S=T)∧∃ L:AV,(∀ T:Store,Keep S T→ixS 32 4 J (.v (.int .i64 0)) T fun M S=>M=L∧S=T)∧∃ N:AV,(∀ T:Store,Keep S T→ldN 4 L T fun O S=>O=N∧S=T)∧∃ P:AV,(∀ T:Store,Keep S T→shift c 4 T fun R S=>R=P∧S=T)∧∃ U:AV,(∀ T:Store,Keep S T→ld1 P T fun V S=>V=U∧S=T)∧callF Pg 97 [x0,F,N,U] S Q fun W S=>onB W fun b=>gd b (∃ X:AV,(∀ T:Store,Keep S T→shift a 3 T fun Y S=>Y=X∧S=T)∧∃ Z:AV,(∀ T:Store,Keep S T→ld1 X T fun a0 S=>a0=Z∧S=T)∧∃ a1:AV,(∀ T:Store,Keep S T→ixS 32 4 Z (.v (.int .i64 1)) T fun a2 S=>a2=a1∧S=T)∧∃ a3:AV,(∀ T:Store,Keep S T→ldN 4 a1 T fun a4 S=>a4=a3∧S=T)∧∃ a5:AV,(∀ T:Store,Keep S T→shift c 4 T fun a6 S=>a6=a5∧S=T)∧∃ a7:AV,(∀ T:Store,Keep S T→ld1 a5 T fun a8 S=>a8=a7∧S=T)∧∃ a9:AV,(∀ T:Store,Keep S T→ixS 37 5 a7 g T fun b0 S=>b0=a9∧S=T)∧∃ b1:AV,(∀ T:Store,Keep S T→ldN 5 a9 T fun b2 S=>b2=b1∧S=T)∧callF Pg 91 [x0,A,a3,b1] S Q fun b3 S=>∃ b4:AV,(∀ T:Store,Keep S T→b3=b4∧T=T)∧onB b4 fun b=>gd b (∃ b5:AV,(∀ T:Store,Keep S T→callF Pg 94 [] T (fun _ _=>False) fun b6 S=>b6=b5∧S=T)∧∃ b7:AV,(∀ T:Store,Keep S T→shift c 4 T fun b8 S=>b8=b7∧S=T)∧∃ b9:AV,(∀ T:Store,Keep S T→ld1 b7 T fun c0 S=>c0=b9∧S=T)∧∃ c1:AV,(∀ T:Store,Keep S T→bin .add 0 g (.v (.int .i64 1)) T fun c2 S=>c2=c1∧S=T)∧∃ c3:AV,(∀ T:Store,Keep S T→ixS 37 5 b9 c1 T fun c4 S=>c4=c3∧S=T)∧∃ c5:AV,(∀ T:Store,Keep S T→ldN 5 c3 T fun c6 S=>c6=c5∧S=T)∧callF Pg 91 [x0,A,b5,c5] S Q fun c7 S=>∃ c8:AV,(∀ T:Store,Keep S T→c7=c8∧T=T)∧Q (.ret c8) S) (∃ c9:AV,(∀ T:Store,Keep S T→(.v (.bool false))=c9∧T=T)∧Q (.ret c9) S)) (∃ d0:AV,(∀ T:Store,Keep S T→(.v (.bool false))=d0∧T=T)∧onB d0 fun b=>gd b (∃ d1:AV,(∀ T:Store,Keep S T→callF Pg 94 [] T (fun _ _=>False) fun d2 S=>d2=d1∧S=T)∧∃ d3:AV,(∀ T:Store,Keep S T→shift c 4 T fun d4 S=>d4=d3∧S=T)∧∃ d5:AV,(∀ T:Store,Keep S T→ld1 d3 T fun d6 S=>d6=d5∧S=T)∧∃ d7:AV,(∀ T:Store,Keep S T→bin .add 0 g (.v (.int .i64 1)) T fun d8 S=>d8=d7∧S=T)∧∃ d9:AV,(∀ T:Store,Keep S T→ixS 37 5 d5 d7 T fun e0 S=>e0=d9∧S=T)∧∃ e1:AV,(∀ T:Store,Keep S T→ldN 5 d9 T fun e2 S=>e2=e1∧S=T)∧callF Pg 91 [x0,A,d1,e1] S Q fun e3 S=>∃ e4:AV,(∀ T:Store,Keep S T→e3=e4∧T=T)∧Q (.ret e4) S) (∃ e5:AV,(∀ T:Store,Keep S T→(.v (.bool false))=e5∧T=T)∧Q (.ret e5) S))))))
theorem calls57{x0 x1 x2:AV}{S:Store}{Q:PoT}(h:m57 x0 x1 x2 S Q):ACalls Pg 57 [x0,x1,x2] S Q:=
 calls_of_vc (fn:=Tryz.f57) (c:=c57) (n:=78) Tryz.func57 (by kernel_rfl) (by kernel_rfl) (by kernel_rfl) ms57 (Eq.mpr (by kernel_rfl) h)
def c95:Code:=(Tryz.f95.body).getD .skip
def r95:List ResultVar:=Tryz.f95.results.toList
def env95_0(y0 y3 y8 y9 y10:AV):List AV:=[y0,y3,y8,y9,y10]
def lv95_0:List Nat:=[0,3,8,9,10]
def ms95:List (List Nat):=[lv95_0,[]]
def m95(x0 x1:AV)(S:Store)(Q:PoT):Prop:=
 boxN 37 5 x1 S fun a S=>shift a 3 S fun c S=>ld1 c S fun d S=>lenS d S fun e S=>loopV lv95_0 (vc Pg (c95.at_ [1,0,1,0,0]) (ms95.drop 1)) 43 (env95_0 x0 a d e (.v (.int .i64 0))) S (blockK 0 (seqK (vc Pg (c95.at_ [1,1]) (ms95.drop 1)) (bodyK Pg r95 Q)))
theorem calls95{x0 x1:AV}{S:Store}{Q:PoT}(h:m95 x0 x1 S Q):ACalls Pg 95 [x0,x1] S Q:=
 calls_of_vc (fn:=Tryz.f95) (c:=c95) (n:=43) Tryz.func95 (by kernel_rfl) (by kernel_rfl) (by kernel_rfl) ms95 (Eq.mpr (by kernel_rfl) h)
def b95_0(y0 y3 y8 y9 y10:AV)(S:Store)(KE0:KeT)(Q:PoT):Prop:=
 bin .lss 0 y10 y9 S fun a S=>onB a fun b=>gd b (ixS 3 1 y8 y10 S fun c S=>ld1 c S fun d S=>bin .gtr 0 y10 (.v (.int .i64 0)) S fun e S=>onB e fun b=>gd b (shift y3 3 S fun f S=>ld1 f S fun g S=>bin .sub 0 y10 (.v (.int .i64 1)) S fun h S=>ixS 3 1 g h S fun i S=>ld1 i S fun k S=>callF Pg 93 [y0,k,d] S Q fun l S=>un .not l S fun m S=>onB m fun b=>gd b (Q (.ret (.v (.bool false))) S) (bin .add 0 y10 (.v (.int .i64 1)) S fun n S=>KE0 43 (env95_0 y0 y3 y8 y9 n) S)) (bin .add 0 y10 (.v (.int .i64 1)) S fun o S=>KE0 43 (env95_0 y0 y3 y8 y9 o) S)) ((fun S0:Store=>∃ p:AV,(shift y3 3 S fun q S=>q=p∧S=S0)∧∃ r:AV,(ld1 p S fun s S=>s=r∧S=S0)∧∃ t:AV,(lenS r S fun u S=>u=t∧S=S0)∧∃ w:AV,(bin .gtr 0 t (.v (.int .i64 0)) S fun x S=>x=w∧S=S0)∧onB w fun b=>gd b (∃ y:AV,(shift y3 3 S fun z S=>z=y∧S=S0)∧∃ A:AV,(ld1 y S fun B S=>B=A∧S=S0)∧∃ C:AV,(ixS 3 1 A (.v (.int .i64 0)) S fun D S=>D=C∧S=S0)∧∃ E:AV,(ld1 C S fun F S=>F=E∧S=S0)∧∃ G:AV,(shift y3 1 S fun H S=>H=G∧S=S0)∧∃ I:AV,(ld1 G S fun J S=>J=I∧S=S0)∧∃ K:AV,(bin .eql 0 E I S fun L S=>L=K∧S=S0)∧∃ M:AV,(K=M∧S=S0)∧Q (.ret M) S) (∃ N:AV,((.v (.bool false))=N∧S=S0)∧Q (.ret N) S)) S)
theorem b95_0_eq(y0 y3 y8 y9 y10:AV)(S:Store)(KE0:KeT)(Q:PoT):vc Pg (c95.at_ [1,0,1,0,0]) (ms95.drop 1) (mkE 43 lv95_0 (env95_0 y0 y3 y8 y9 y10)) S (thenK (fgK lv95_0 KE0) (blockK 0 (seqK (vc Pg (c95.at_ [1,1]) (ms95.drop 1)) (bodyK Pg r95 Q))))=b95_0 y0 y3 y8 y9 y10 S KE0 Q:=by kernel_rfl
theorem loop95_0{y0 y3 y8 y9:AV}{y100:AV}{S:Store}{Q:PoT}(I:AV→Store→Prop)(μ:AV→Store→Nat)(h0:I y100 S)
    (hr:∀(y10:AV) (S:Store),I y10 S→∀ KE0:KeT,(∀(y10':AV) (S':Store),I y10' S'→μ y10' S'<μ y10 S→KE0 43 (env95_0 y0 y3 y8 y9 y10') S')→b95_0 y0 y3 y8 y9 y10 S KE0 Q):
    loopV lv95_0 (vc Pg (c95.at_ [1,0,1,0,0]) (ms95.drop 1)) 43 (env95_0 y0 y3 y8 y9 y100) S (blockK 0 (seqK (vc Pg (c95.at_ [1,1]) (ms95.drop 1)) (bodyK Pg r95 Q))):=by
 refine⟨fun n e S=>n=43∧∃ y10:AV,e=(env95_0 y0 y3 y8 y9 y10)∧I y10 S,fun _ e S=>μ (e.getD 4 .j) S,?_,?_⟩
 ·exact⟨_,_,Wk.refl _ _,rfl,_,rfl,h0⟩
 ·rintro _ e S ⟨rfl,y10,rfl,hI⟩
  exact(b95_0_eq _ _ _ _ _ _ _ _).mpr (hr y10 S hI _ (fun y10' S' hI' hm=>⟨_,_,Wk.refl _ _,⟨rfl,_,rfl,hI'⟩,hm⟩))
def c97:Code:=(Tryz.f97.body).getD .skip
def r97:List ResultVar:=Tryz.f97.results.toList
def env97_0(y0 y3 y6 y11 y12 y13:AV):List AV:=[y0,y3,y6,y11,y12,y13]
def lv97_0:List Nat:=[0,3,6,11,12,13]
def ms97:List (List Nat):=[lv97_0,[91]]
def m97(x0 x1 x2 x3:AV)(S:Store)(Q:PoT):Prop:=
 boxN 32 4 x2 S fun a S=>lenS x1 S fun c S=>loopV lv97_0 (vc Pg (c97.at_ [1,0,1,0,0]) (ms97.drop 1)) 28 (env97_0 x0 x3 a x1 c (.v (.int .i64 0))) S (blockK 0 (seqK (vc Pg (c97.at_ [1,1]) (ms97.drop 1)) (bodyK Pg r97 Q)))
theorem calls97{x0 x1 x2 x3:AV}{S:Store}{Q:PoT}(h:m97 x0 x1 x2 x3 S Q):ACalls Pg 97 [x0,x1,x2,x3] S Q:=
 calls_of_vc (fn:=Tryz.f97) (c:=c97) (n:=28) Tryz.func97 (by kernel_rfl) (by kernel_rfl) (by kernel_rfl) ms97 (Eq.mpr (by kernel_rfl) h)
def b97_0(y0 y3 y6 y11 y12 y13:AV)(S:Store)(KE0:KeT)(Q:PoT):Prop:=
 bin .lss 0 y13 y12 S fun a S=>onB a fun b=>gd b (ixS 3 1 y11 y13 S fun c S=>ld1 c S fun d S=>∃ e:AV,(∀ T:Store,Keep S T→ldN 4 y6 T fun f S=>f=e∧S=T)∧∃ g:AV,(∀ T:Store,Keep S T→ixS 37 5 y3 y13 T fun h S=>h=g∧S=T)∧∃ i:AV,(∀ T:Store,Keep S T→ldN 5 g T fun k S=>k=i∧S=T)∧callF Pg 91 [y0,d,e,i] S Q fun l S=>∃ m:AV,(∀ T:Store,Keep S T→un .not l T fun n S=>n=m∧S=T)∧onB m fun b=>gd b (Q (.ret (.v (.bool false))) S) (bin .add 0 y13 (.v (.int .i64 1)) S fun o S=>KE0 28 (env97_0 y0 y3 y6 y11 y12 o) S)) (Q (.ret (.v (.bool true))) S)
theorem b97_0_eq(y0 y3 y6 y11 y12 y13:AV)(S:Store)(KE0:KeT)(Q:PoT):vc Pg (c97.at_ [1,0,1,0,0]) (ms97.drop 1) (mkE 28 lv97_0 (env97_0 y0 y3 y6 y11 y12 y13)) S (thenK (fgK lv97_0 KE0) (blockK 0 (seqK (vc Pg (c97.at_ [1,1]) (ms97.drop 1)) (bodyK Pg r97 Q))))=b97_0 y0 y3 y6 y11 y12 y13 S KE0 Q:=by kernel_rfl
theorem loop97_0{y0 y3 y6 y11 y12:AV}{y130:AV}{S:Store}{Q:PoT}(I:AV→Store→Prop)(μ:AV→Store→Nat)(h0:I y130 S)
    (hr:∀(y13:AV) (S:Store),I y13 S→∀ KE0:KeT,(∀(y13':AV) (S':Store),I y13' S'→μ y13' S'<μ y13 S→KE0 28 (env97_0 y0 y3 y6 y11 y12 y13') S')→b97_0 y0 y3 y6 y11 y12 y13 S KE0 Q):
    loopV lv97_0 (vc Pg (c97.at_ [1,0,1,0,0]) (ms97.drop 1)) 28 (env97_0 y0 y3 y6 y11 y12 y130) S (blockK 0 (seqK (vc Pg (c97.at_ [1,1]) (ms97.drop 1)) (bodyK Pg r97 Q))):=by
 refine⟨fun n e S=>n=28∧∃ y13:AV,e=(env97_0 y0 y3 y6 y11 y12 y13)∧I y13 S,fun _ e S=>μ (e.getD 5 .j) S,?_,?_⟩
 ·exact⟨_,_,Wk.refl _ _,rfl,_,rfl,h0⟩
 ·rintro _ e S ⟨rfl,y13,rfl,hI⟩
  exact(b97_0_eq _ _ _ _ _ _ _ _ _).mpr (hr y13 S hI _ (fun y13' S' hI' hm=>⟨_,_,Wk.refl _ _,⟨rfl,_,rfl,hI'⟩,hm⟩))
def c49:Code:=(Tryz.f49.body).getD .skip
def ms49:List (List Nat):=[[]]
def m49(x0 x1 x2:AV)(S:Store)(Q:PoT):Prop:=
 boxN 32 4 x1 S fun a S=>boxN 37 5 x2 S fun c S=>ldN 5 c S fun d S=>callF Pg 88 [d,.v (.int .i64 1)] S Q fun e S=>Q (.ret e) S
theorem calls49{x0 x1 x2:AV}{S:Store}{Q:PoT}(h:m49 x0 x1 x2 S Q):ACalls Pg 49 [x0,x1,x2] S Q:=
 calls_of_vc (fn:=Tryz.f49) (c:=c49) (n:=9) Tryz.func49 (by kernel_rfl) (by kernel_rfl) (by kernel_rfl) ms49 (Eq.mpr (by kernel_rfl) h)
def c50:Code:=(Tryz.f50.body).getD .skip
def ms50:List (List Nat):=[[]]
def m50(x0 x1 x2:AV)(S:Store)(Q:PoT):Prop:=
 boxN 32 4 x1 S fun a S=>boxN 37 5 x2 S fun c S=>ldN 5 c S fun d S=>callF Pg 88 [d,.v (.int .i64 1)] S Q fun e S=>onB e fun b=>gd b (shift c 1 S fun f S=>ld1 f S fun g S=>shift a 2 S fun h S=>ld1 h S fun i S=>callF Pg 89 [x0,g,i] S Q fun k S=>Q (.ret k) S) (Q (.ret (.v (.bool false))) S)
theorem calls50{x0 x1 x2:AV}{S:Store}{Q:PoT}(h:m50 x0 x1 x2 S Q):ACalls Pg 50 [x0,x1,x2] S Q:=
 calls_of_vc (fn:=Tryz.f50) (c:=c50) (n:=17) Tryz.func50 (by kernel_rfl) (by kernel_rfl) (by kernel_rfl) ms50 (Eq.mpr (by kernel_rfl) h)
def c51:Code:=(Tryz.f51.body).getD .skip
def ms51:List (List Nat):=[[]]
def m51(x0 x1 x2:AV)(S:Store)(Q:PoT):Prop:=
 boxN 32 4 x1 S fun a S=>boxN 37 5 x2 S fun c S=>(fun S0:Store=>∃ d:AV,(ldN 5 c S fun e S=>e=d∧S=S0)∧∃ f:AV,(callF Pg 88 [d,.v (.int .i64 1)] S (fun _ _=>False) fun g S=>g=f∧S=S0)∧onB f fun b=>gd b (∃ h:AV,(shift c 1 S fun i S=>i=h∧S=S0)∧∃ k:AV,(ld1 h S fun l S=>l=k∧S=S0)∧∃ m:AV,(shift a 3 S fun n S=>n=m∧S=S0)∧∃ o:AV,(ld1 m S fun p S=>p=o∧S=S0)∧∃ q:AV,(ixS 32 4 o (.v (.int .i64 0)) S fun r S=>r=q∧S=S0)∧∃ s:AV,(shift q 2 S fun t S=>t=s∧S=S0)∧∃ u:AV,(ld1 s S fun w S=>w=u∧S=S0)∧∃ x:AV,(callF Pg 89 [x0,k,u] S (fun _ _=>False) fun y S=>y=x∧S=S0)∧∃ z:AV,(un .not x S fun A S=>A=z∧S=S0)∧∃ B:AV,(z=B∧S=S0)∧Q (.ret B) S) (∃ C:AV,((.v (.bool false))=C∧S=S0)∧Q (.ret C) S)) S
theorem calls51{x0 x1 x2:AV}{S:Store}{Q:PoT}(h:m51 x0 x1 x2 S Q):ACalls Pg 51 [x0,x1,x2] S Q:=
 calls_of_vc (fn:=Tryz.f51) (c:=c51) (n:=21) Tryz.func51 (by kernel_rfl) (by kernel_rfl) (by kernel_rfl) ms51 (Eq.mpr (by kernel_rfl) h)
def c52:Code:=(Tryz.f52.body).getD .skip
def ms52:List (List Nat):=[[91]]
def m52(x0 x1 x2:AV)(S:Store)(Q:PoT):Prop:=
 boxN 32 4 x1 S fun a S=>boxN 37 5 x2 S fun c S=>∃ d:AV,(∀ T:Store,Keep S T→ldN 5 c T fun e S=>e=d∧S=T)∧∃ f:AV,(∀ T:Store,Keep S T→callF Pg 90 [d,.v (.int .i64 2)] T (fun _ _=>False) fun g S=>g=f∧S=T)∧onB f fun b=>gd b (∃ h:AV,(∀ T:Store,Keep S T→shift c 4 T fun i S=>i=h∧S=T)∧∃ k:AV,(∀ T:Store,Keep S T→ld1 h T fun l S=>l=k∧S=T)∧∃ m:AV,(∀ T:Store,Keep S T→lenS k T fun n S=>n=m∧S=T)∧∃ o:AV,(∀ T:Store,Keep S T→bin .eql 0 m (.v (.int .i64 2)) T fun p S=>p=o∧S=T)∧∃ q:AV,(∀ T:Store,Keep S T→o=q∧T=T)∧onB q fun b=>gd b (∃ r:AV,(∀ T:Store,Keep S T→shift c 1 T fun s S=>s=r∧S=T)∧∃ t:AV,(∀ T:Store,Keep S T→ld1 r T fun u S=>u=t∧S=T)∧∃ w:AV,(∀ T:Store,Keep S T→shift a 3 T fun x S=>x=w∧S=T)∧∃ y:AV,(∀ T:Store,Keep S T→ld1 w T fun z S=>z=y∧S=T)∧∃ A:AV,(∀ T:Store,Keep S T→ixS 32 4 y (.v (.int .i64 0)) T fun B S=>B=A∧S=T)∧∃ C:AV,(∀ T:Store,Keep S T→ldN 4 A T fun D S=>D=C∧S=T)∧∃ E:AV,(∀ T:Store,Keep S T→shift c 4 T fun F S=>F=E∧S=T)∧∃ G:AV,(∀ T:Store,Keep S T→ld1 E T fun H S=>H=G∧S=T)∧∃ I:AV,(∀ T:Store,Keep S T→ixS 37 5 G (.v (.int .i64 0)) T fun J S=>J=I∧S=T)∧∃ K:AV,(∀ T:Store,Keep S T→ldN 5 I T fun L S=>L=K∧S=T)∧callF Pg 91 [x0,t,C,K] S Q fun M S=>∃ N:AV,(∀ T:Store,Keep S T→M=N∧T=T)∧onB N fun b=>gd b (∃ O:AV,(∀ T:Store,Keep S T→shift c 1 T fun P S=>P=O∧S=T)∧∃ R:AV,(∀ T:Store,Keep S T→ld1 O T fun U S=>U=R∧S=T)∧∃ V:AV,(∀ T:Store,Keep S T→shift a 3 T fun W S=>W=V∧S=T)∧∃ X:AV,(∀ T:Store,Keep S T→ld1 V T fun Y S=>Y=X∧S=T)∧∃ Z:AV,(∀ T:Store,Keep S T→ixS 32 4 X (.v (.int .i64 1)) T fun a0 S=>a0=Z∧S=T)∧∃ a1:AV,(∀ T:Store,Keep S T→ldN 4 Z T fun a2 S=>a2=a1∧S=T)∧∃ a3:AV,(∀ T:Store,Keep S T→shift c 4 T fun a4 S=>a4=a3∧S=T)∧∃ a5:AV,(∀ T:Store,Keep S T→ld1 a3 T fun a6 S=>a6=a5∧S=T)∧∃ a7:AV,(∀ T:Store,Keep S T→ixS 37 5 a5 (.v (.int .i64 1)) T fun a8 S=>a8=a7∧S=T)∧∃ a9:AV,(∀ T:Store,Keep S T→ldN 5 a7 T fun b0 S=>b0=a9∧S=T)∧callF Pg 91 [x0,R,a1,a9] S Q fun b1 S=>∃ b2:AV,(∀ T:Store,Keep S T→b1=b2∧T=T)∧Q (.ret b2) S) (∃ b3:AV,(∀ T:Store,Keep S T→(.v (.bool false))=b3∧T=T)∧Q (.ret b3) S)) (∃ b4:AV,(∀ T:Store,Keep S T→(.v (.bool false))=b4∧T=T)∧onB b4 fun b=>gd b (∃ b5:AV,(∀ T:Store,Keep S T→shift c 1 T fun b6 S=>b6=b5∧S=T)∧∃ b8:AV,(∀ T:Store,Keep S T→ld1 b5 T fun b9 S=>b9=b8∧S=T)∧∃ c0:AV,(∀ T:Store,Keep S T→shift a 3 T fun c1 S=>c1=c0∧S=T)∧∃ c2:AV,(∀ T:Store,Keep S T→ld1 c0 T fun c3 S=>c3=c2∧S=T)∧∃ c4:AV,(∀ T:Store,Keep S T→ixS 32 4 c2 (.v (.int .i64 1)) T fun c5 S=>c5=c4∧S=T)∧∃ c6:AV,(∀ T:Store,Keep S T→ldN 4 c4 T fun c7 S=>c7=c6∧S=T)∧∃ c8:AV,(∀ T:Store,Keep S T→shift c 4 T fun c9 S=>c9=c8∧S=T)∧∃ d0:AV,(∀ T:Store,Keep S T→ld1 c8 T fun d1 S=>d1=d0∧S=T)∧∃ d2:AV,(∀ T:Store,Keep S T→ixS 37 5 d0 (.v (.int .i64 1)) T fun d3 S=>d3=d2∧S=T)∧∃ d4:AV,(∀ T:Store,Keep S T→ldN 5 d2 T fun d5 S=>d5=d4∧S=T)∧callF Pg 91 [x0,b8,c6,d4] S Q fun d6 S=>∃ d7:AV,(∀ T:Store,Keep S T→d6=d7∧T=T)∧Q (.ret d7) S) (∃ d8:AV,(∀ T:Store,Keep S T→(.v (.bool false))=d8∧T=T)∧Q (.ret d8) S))) (∃ d9:AV,(∀ T:Store,Keep S T→(.v (.bool false))=d9∧T=T)∧onB d9 fun b=>gd b (∃ e0:AV,(∀ T:Store,Keep S T→shift c 1 T fun e1 S=>e1=e0∧S=T)∧∃ e2:AV,(∀ T:Store,Keep S T→ld1 e0 T fun e3 S=>e3=e2∧S=T)∧∃ e4:AV,(∀ T:Store,Keep S T→shift a 3 T fun e5 S=>e5=e4∧S=T)∧∃ e6:AV,(∀ T:Store,Keep S T→ld1 e4 T fun e7 S=>e7=e6∧S=T)∧∃ e8:AV,(∀ T:Store,Keep S T→ixS 32 4 e6 (.v (.int .i64 0)) T fun e9 S=>e9=e8∧S=T)∧∃ f0:AV,(∀ T:Store,Keep S T→ldN 4 e8 T fun f1 S=>f1=f0∧S=T)∧∃ f2:AV,(∀ T:Store,Keep S T→shift c 4 T fun f3 S=>f3=f2∧S=T)∧∃ f4:AV,(∀ T:Store,Keep S T→ld1 f2 T fun f5 S=>f5=f4∧S=T)∧∃ f6:AV,(∀ T:Store,Keep S T→ixS 37 5 f4 (.v (.int .i64 0)) T fun f7 S=>f7=f6∧S=T)∧∃ f8:AV,(∀ T:Store,Keep S T→ldN 5 f6 T fun f9 S=>f9=f8∧S=T)∧callF Pg 91 [x0,e2,f0,f8] S Q fun g0 S=>∃ g1:AV,(∀ T:Store,Keep S T→g0=g1∧T=T)∧onB g1 fun b=>gd b (∃ g2:AV,(∀ T:Store,Keep S T→shift c 1 T fun g3 S=>g3=g2∧S=T)∧∃ g4:AV,(∀ T:Store,Keep S T→ld1 g2 T fun g5 S=>g5=g4∧S=T)∧∃ g6:AV,(∀ T:Store,Keep S T→shift a 3 T fun g7 S=>g7=g6∧S=T)∧∃ g8:AV,(∀ T:Store,Keep S T→ld1 g6 T fun g9 S=>g9=g8∧S=T)∧∃ h0:AV,(∀ T:Store,Keep S T→ixS 32 4 g8 (.v (.int .i64 1)) T fun h1 S=>h1=h0∧S=T)∧∃ h2:AV,(∀ T:Store,Keep S T→ldN 4 h0 T fun h3 S=>h3=h2∧S=T)∧∃ h4:AV,(∀ T:Store,Keep S T→shift c 4 T fun h5 S=>h5=h4∧S=T)∧∃ h6:AV,(∀ T:Store,Keep S T→ld1 h4 T fun h7 S=>h7=h6∧S=T)∧∃ h8:AV,(∀ T:Store,Keep S T→ixS 37 5 h6 (.v (.int .i64 1)) T fun h9 S=>h9=h8∧S=T)∧∃ i0:AV,(∀ T:Store,Keep S T→ldN 5 h8 T fun i1 S=>i1=i0∧S=T)∧callF Pg 91 [x0,g4,h2,i0] S Q fun i2 S=>∃ i3:AV,(∀ T:Store,Keep S T→i2=i3∧T=T)∧Q (.ret i3) S) (∃ i4:AV,(∀ T:Store,Keep S T→(.v (.bool false))=i4∧T=T)∧Q (.ret i4) S)) (∃ i5:AV,(∀ T:Store,Keep S T→(.v (.bool false))=i5∧T=T)∧onB i5 fun b=>gd b (∃ i6:AV,(∀ T:Store,Keep S T→shift c 1 T fun i7 S=>i7=i6∧S=T)∧∃ i8:AV,(∀ T:Store,Keep S T→ld1 i6 T fun i9 S=>i9=i8∧S=T)∧∃ k0:AV,(∀ T:Store,Keep S T→shift a 3 T fun k1 S=>k1=k0∧S=T)∧∃ k2:AV,(∀ T:Store,Keep S T→ld1 k0 T fun k3 S=>k3=k2∧S=T)∧∃ k4:AV,(∀ T:Store,Keep S T→ixS 32 4 k2 (.v (.int .i64 1)) T fun k5 S=>k5=k4∧S=T)∧∃ k6:AV,(∀ T:Store,Keep S T→ldN 4 k4 T fun k7 S=>k7=k6∧S=T)∧∃ k8:AV,(∀ T:Store,Keep S T→shift c 4 T fun k9 S=>k9=k8∧S=T)∧∃ l0:AV,(∀ T:Store,Keep S T→ld1 k8 T fun l1 S=>l1=l0∧S=T)∧∃ l2:AV,(∀ T:Store,Keep S T→ixS 37 5 l0 (.v (.int .i64 1)) T fun l3 S=>l3=l2∧S=T)∧∃ l4:AV,(∀ T:Store,Keep S T→ldN 5 l2 T fun l5 S=>l5=l4∧S=T)∧callF Pg 91 [x0,i8,k6,l4] S Q fun l6 S=>∃ l7:AV,(∀ T:Store,Keep S T→l6=l7∧T=T)∧Q (.ret l7) S) (∃ l8:AV,(∀ T:Store,Keep S T→(.v (.bool false))=l8∧T=T)∧Q (.ret l8) S)))
theorem calls52{x0 x1 x2:AV}{S:Store}{Q:PoT}(h:m52 x0 x1 x2 S Q):ACalls Pg 52 [x0,x1,x2] S Q:=
 calls_of_vc (fn:=Tryz.f52) (c:=c52) (n:=43) Tryz.func52 (by kernel_rfl) (by kernel_rfl) (by kernel_rfl) ms52 (Eq.mpr (by kernel_rfl) h)
def c92:Code:=(Tryz.f92.body).getD .skip
def ms92:List (List Nat):=[[91]]
def m92(x0 x1 x2:AV)(S:Store)(Q:PoT):Prop:=
 boxN 37 5 x1 S fun a S=>shift a 0 S fun c S=>ld1 c S fun d S=>bin .neq 0 d (.v (.int .i64 3)) S fun e S=>onB e fun b=>gd b (Q (.ret (.v (.bool false))) S) (shift a 2 S fun f S=>ld1 f S fun g S=>bin .lss 0 g (.v (.int .i64 0)) S fun h S=>onB h fun b=>gd b (Q (.ret (.v (.bool false))) S) (shift a 2 S fun i S=>ld1 i S fun k S=>bin .gtr 0 k (.v (.int .i64 1)) S fun l S=>onB l fun b=>gd b (Q (.ret (.v (.bool false))) S) (shift a 3 S fun m S=>ld1 m S fun n S=>lenS n S fun o S=>bin .gtr 0 o (.v (.int .i64 0)) S fun p S=>onB p fun b=>gd b (Q (.ret (.v (.bool false))) S) (shift a 4 S fun q S=>ld1 q S fun r S=>lenS r S fun s S=>bin .neq 0 s (.v (.int .i64 1)) S fun t S=>onB t fun b=>gd b (Q (.ret (.v (.bool false))) S) (∃ u:AV,(∀ T:Store,Keep S T→shift a 1 T fun w S=>w=u∧S=T)∧∃ x:AV,(∀ T:Store,Keep S T→ld1 u T fun y S=>y=x∧S=T)∧∃ z:AV,(∀ T:Store,Keep S T→shift a 2 T fun A S=>A=z∧S=T)∧∃ B:AV,(∀ T:Store,Keep S T→ld1 z T fun C S=>C=B∧S=T)∧∃ D:AV,(∀ T:Store,Keep S T→ixS 32 4 x2 B T fun E S=>E=D∧S=T)∧∃ F:AV,(∀ T:Store,Keep S T→ldN 4 D T fun G S=>G=F∧S=T)∧∃ H:AV,(∀ T:Store,Keep S T→shift a 4 T fun I S=>I=H∧S=T)∧∃ J:AV,(∀ T:Store,Keep S T→ld1 H T fun K S=>K=J∧S=T)∧∃ L:AV,(∀ T:Store,Keep S T→ixS 37 5 J (.v (.int .i64 0)) T fun M S=>M=L∧S=T)∧∃ N:AV,(∀ T:Store,Keep S T→ldN 5 L T fun O S=>O=N∧S=T)∧callF Pg 91 [x0,x,F,N] S Q fun P S=>Q (.ret P) S)))))
theorem calls92{x0 x1 x2:AV}{S:Store}{Q:PoT}(h:m92 x0 x1 x2 S Q):ACalls Pg 92 [x0,x1,x2] S Q:=
 calls_of_vc (fn:=Tryz.f92) (c:=c92) (n:=45) Tryz.func92 (by kernel_rfl) (by kernel_rfl) (by kernel_rfl) ms92 (Eq.mpr (by kernel_rfl) h)
def c53:Code:=(Tryz.f53.body).getD .skip
def ms53:List (List Nat):=[[92]]
def m53(x0 x1 x2:AV)(S:Store)(Q:PoT):Prop:=
 boxN 32 4 x1 S fun a S=>boxN 37 5 x2 S fun c S=>ldN 5 c S fun d S=>shift a 3 S fun e S=>ld1 e S fun f S=>callF Pg 92 [x0,d,f] S Q fun g S=>Q (.ret g) S
theorem calls53{x0 x1 x2:AV}{S:Store}{Q:PoT}(h:m53 x0 x1 x2 S Q):ACalls Pg 53 [x0,x1,x2] S Q:=
 calls_of_vc (fn:=Tryz.f53) (c:=c53) (n:=12) Tryz.func53 (by kernel_rfl) (by kernel_rfl) (by kernel_rfl) ms53 (Eq.mpr (by kernel_rfl) h)
def c91:Code:=(Tryz.f91.body).getD .skip
def ms91:List (List Nat):=[[30]]
def m91(x0 x1 x2 x3:AV)(S:Store)(Q:PoT):Prop:=
 boxN 32 4 x2 S fun a S=>boxN 37 5 x3 S fun c S=>shift c 1 S fun d S=>ld1 d S fun e S=>bin .eql 0 e x1 S fun f S=>onB f fun b=>gd b (ldN 4 a S fun g S=>ldN 5 c S fun h S=>callF Pg 30 [x0,g,h] S Q fun i S=>Q (.ret i) S) (Q (.ret (.v (.bool false))) S)
theorem calls91{x0 x1 x2 x3:AV}{S:Store}{Q:PoT}(h:m91 x0 x1 x2 x3 S Q):ACalls Pg 91 [x0,x1,x2,x3] S Q:=
 calls_of_vc (fn:=Tryz.f91) (c:=c91) (n:=19) Tryz.func91 (by kernel_rfl) (by kernel_rfl) (by kernel_rfl) ms91 (Eq.mpr (by kernel_rfl) h)
def c89:Code:=(Tryz.f89.body).getD .skip
def ms89:List (List Nat):=[[]]
def m89(x0 x1 x2:AV)(S:Store)(Q:PoT):Prop:=
 nilChk x0 S fun a S=>shift a 0 S fun c S=>ldN 8 c S fun d S=>callF Pg 111 [d,x1,x2] S Q fun e S=>Q (.ret e) S
theorem calls89{x0 x1 x2:AV}{S:Store}{Q:PoT}(h:m89 x0 x1 x2 S Q):ACalls Pg 89 [x0,x1,x2] S Q:=
 calls_of_vc (fn:=Tryz.f89) (c:=c89) (n:=14) Tryz.func89 (by kernel_rfl) (by kernel_rfl) (by kernel_rfl) ms89 (Eq.mpr (by kernel_rfl) h)
def c98:Code:=(Tryz.f98.body).getD .skip
def ms98:List (List Nat):=[[]]
def m98(x0 x1 x2:AV)(S:Store)(Q:PoT):Prop:=
 ld1 x1 S fun a S=>ld1 x2 S fun c S=>callF Pg 89 [a,c,x0] S Q fun d S=>un .not d S fun e S=>Q (.ret e) S
theorem calls98{x0 x1 x2:AV}{S:Store}{Q:PoT}(h:m98 x0 x1 x2 S Q):ACalls Pg 98 [x0,x1,x2] S Q:=
 calls_of_vc (fn:=Tryz.f98) (c:=c98) (n:=10) Tryz.func98 (by kernel_rfl) (by kernel_rfl) (by kernel_rfl) ms98 (Eq.mpr (by kernel_rfl) h)
def c60:Code:=(Tryz.f60.body).getD .skip
def ms60:List (List Nat):=[[]]
def m60(x0 x1:AV)(S:Store)(Q:PoT):Prop:=
 boxN 72 1 x0 S fun a S=>boxN 3 1 x1 S fun c S=>(fun S0:Store=>∃ d:AV,(ld1 a S fun e S=>e=d∧S=S0)∧∃ g:AV,(nilChk d S fun h S=>h=g∧S=S0)∧∃ i:AV,(shift g 0 S fun k S=>k=i∧S=S0)∧∃ l:AV,(shift i 0 S fun m S=>m=l∧S=S0)∧∃ n:AV,(ld1 l S fun o S=>o=n∧S=S0)∧∃ p:AV,(ld1 a S fun q S=>q=p∧S=S0)∧∃ r:AV,(nilChk p S fun s S=>s=r∧S=S0)∧∃ t:AV,(shift r 0 S fun u S=>u=t∧S=S0)∧∃ w:AV,(shift t 1 S fun x S=>x=w∧S=S0)∧∃ y:AV,(ld1 w S fun z S=>z=y∧S=S0)∧∃ A:AV,(lenS y S fun B S=>B=A∧S=S0)∧∃ C:AV,(bin .add 0 n A S fun D S=>D=C∧S=S0)∧(fun S0:Store=>∃ E:AV,(ld1 c S fun F S=>F=E∧S=S0)∧∃ G:AV,(bin .geq 0 E (.v (.int .i64 0)) S fun H S=>H=G∧S=S0)∧onB G fun b=>gd b (∃ I:AV,(ld1 c S fun J S=>J=I∧S=S0)∧∃ K:AV,(bin .shl 0 (.v (.int .i64 1)) C S fun L S=>L=K∧S=S0)∧∃ M:AV,(bin .lss 0 I K S fun N S=>N=M∧S=S0)∧∃ O:AV,(M=O∧S=S0)∧onB O fun b=>gd b (∃ P:AV,(ld1 a S fun R S=>R=P∧S=S0)∧∃ T:AV,(nilChk P S fun U S=>U=T∧S=S0)∧∃ V:AV,(shift T 0 S fun W S=>W=V∧S=S0)∧∃ X:AV,(shift V 5 S fun Y S=>Y=X∧S=S0)∧∃ Z:AV,(ld1 X S fun a0 S=>a0=Z∧S=S0)∧∃ a1:AV,((.f (.func 98) [] [a,c])=a1∧S=S0)∧∃ a2:AV,(callF Pg 84 [Z,a1] S (fun _ _=>False) fun a3 S=>a3=a2∧S=S0)∧∃ a4:AV,(un .not a2 S fun a5 S=>a5=a4∧S=S0)∧∃ a6:AV,(a4=a6∧S=S0)∧Q (.ret a6) S) (∃ a7:AV,((.v (.bool false))=a7∧S=S0)∧Q (.ret a7) S)) (∃ a8:AV,((.v (.bool false))=a8∧S=S0)∧onB a8 fun b=>gd b (∃ a9:AV,(ld1 a S fun b0 S=>b0=a9∧S=S0)∧∃ b1:AV,(nilChk a9 S fun b2 S=>b2=b1∧S=S0)∧∃ b3:AV,(shift b1 0 S fun b4 S=>b4=b3∧S=S0)∧∃ b5:AV,(shift b3 5 S fun b6 S=>b6=b5∧S=S0)∧∃ b7:AV,(ld1 b5 S fun b8 S=>b8=b7∧S=S0)∧∃ b9:AV,((.f (.func 98) [] [a,c])=b9∧S=S0)∧∃ c0:AV,(callF Pg 84 [b7,b9] S (fun _ _=>False) fun c1 S=>c1=c0∧S=S0)∧∃ c2:AV,(un .not c0 S fun c3 S=>c3=c2∧S=S0)∧∃ c4:AV,(c2=c4∧S=S0)∧Q (.ret c4) S) (∃ c5:AV,((.v (.bool false))=c5∧S=S0)∧Q (.ret c5) S))) S) S
theorem calls60{x0 x1:AV}{S:Store}{Q:PoT}(h:m60 x0 x1 S Q):ACalls Pg 60 [x0,x1] S Q:=
 calls_of_vc (fn:=Tryz.f60) (c:=c60) (n:=36) Tryz.func60 (by kernel_rfl) (by kernel_rfl) (by kernel_rfl) ms60 (Eq.mpr (by kernel_rfl) h)
def c93:Code:=(Tryz.f93.body).getD .skip
def ms93:List (List Nat):=[[]]
def m93(x0 x1 x2:AV)(S:Store)(Q:PoT):Prop:=
 (fun S0:Store=>∃ a:AV,(callF Pg 60 [x0,x1] S (fun _ _=>False) fun c S=>c=a∧S=S0)∧onB a fun b=>gd b (∃ d:AV,(callF Pg 60 [x0,x2] S (fun _ _=>False) fun e S=>e=d∧S=S0)∧∃ f:AV,(d=f∧S=S0)∧onB f fun b=>gd b (∃ g:AV,(nilChk x0 S fun h S=>h=g∧S=S0)∧∃ i:AV,(shift g 0 S fun k S=>k=i∧S=S0)∧∃ l:AV,(ldN 8 i S fun m S=>m=l∧S=S0)∧∃ n:AV,(callF Pg 112 [l,x1] S (fun _ _=>False) fun o S=>o=n∧S=S0)∧∃ p:AV,(nilChk x0 S fun q S=>q=p∧S=S0)∧∃ r:AV,(shift p 0 S fun s S=>s=r∧S=S0)∧∃ t:AV,(shift r 0 S fun u S=>u=t∧S=S0)∧∃ w:AV,(ld1 t S fun x S=>x=w∧S=S0)∧∃ y:AV,(bin .shr 0 n w S fun z S=>z=y∧S=S0)∧∃ A:AV,(nilChk x0 S fun B S=>B=A∧S=S0)∧∃ C:AV,(shift A 0 S fun D S=>D=C∧S=S0)∧∃ E:AV,(shift C 0 S fun F S=>F=E∧S=S0)∧∃ G:AV,(ld1 E S fun H S=>H=G∧S=S0)∧∃ I:AV,(bin .shr 0 x2 G S fun J S=>J=I∧S=S0)∧∃ K:AV,(bin .eql 0 y I S fun L S=>L=K∧S=S0)∧∃ M:AV,(K=M∧S=S0)∧Q (.ret M) S) (∃ N:AV,((.v (.bool false))=N∧S=S0)∧Q (.ret N) S)) (∃ O:AV,((.v (.bool false))=O∧S=S0)∧onB O fun b=>gd b (∃ P:AV,(nilChk x0 S fun R S=>R=P∧S=S0)∧∃ T:AV,(shift P 0 S fun U S=>U=T∧S=S0)∧∃ V:AV,(ldN 8 T S fun W S=>W=V∧S=S0)∧∃ X:AV,(callF Pg 112 [V,x1] S (fun _ _=>False) fun Y S=>Y=X∧S=S0)∧∃ Z:AV,(nilChk x0 S fun a0 S=>a0=Z∧S=S0)∧∃ a1:AV,(shift Z 0 S fun a2 S=>a2=a1∧S=S0)∧∃ a3:AV,(shift a1 0 S fun a4 S=>a4=a3∧S=S0)∧∃ a5:AV,(ld1 a3 S fun a6 S=>a6=a5∧S=S0)∧∃ a7:AV,(bin .shr 0 X a5 S fun a8 S=>a8=a7∧S=S0)∧∃ a9:AV,(nilChk x0 S fun b0 S=>b0=a9∧S=S0)∧∃ b1:AV,(shift a9 0 S fun b2 S=>b2=b1∧S=S0)∧∃ b4:AV,(shift b1 0 S fun b5 S=>b5=b4∧S=S0)∧∃ b6:AV,(ld1 b4 S fun b8 S=>b8=b6∧S=S0)∧∃ b9:AV,(bin .shr 0 x2 b6 S fun c0 S=>c0=b9∧S=S0)∧∃ c1:AV,(bin .eql 0 a7 b9 S fun c2 S=>c2=c1∧S=S0)∧∃ c3:AV,(c1=c3∧S=S0)∧Q (.ret c3) S) (∃ c4:AV,((.v (.bool false))=c4∧S=S0)∧Q (.ret c4) S))) S
theorem calls93{x0 x1 x2:AV}{S:Store}{Q:PoT}(h:m93 x0 x1 x2 S Q):ACalls Pg 93 [x0,x1,x2] S Q:=
 calls_of_vc (fn:=Tryz.f93) (c:=c93) (n:=37) Tryz.func93 (by kernel_rfl) (by kernel_rfl) (by kernel_rfl) ms93 (Eq.mpr (by kernel_rfl) h)
def c90:Code:=(Tryz.f90.body).getD .skip
def ms90:List (List Nat):=[[]]
def m90(x0 x1:AV)(S:Store)(Q:PoT):Prop:=
 boxN 37 5 x0 S fun a S=>shift a 0 S fun c S=>ld1 c S fun d S=>bin .eql 0 d x1 S fun e S=>onB e fun b=>gd b (shift a 2 S fun f S=>ld1 f S fun g S=>bin .eql 0 g (.v (.int .i64 0)) S fun h S=>onB h fun b=>gd b (shift a 3 S fun i S=>ld1 i S fun k S=>lenS k S fun l S=>bin .eql 0 l (.v (.int .i64 0)) S fun m S=>Q (.ret m) S) (Q (.ret (.v (.bool false))) S)) (Q (.ret (.v (.bool false))) S)
theorem calls90{x0 x1:AV}{S:Store}{Q:PoT}(h:m90 x0 x1 S Q):ACalls Pg 90 [x0,x1] S Q:=
 calls_of_vc (fn:=Tryz.f90) (c:=c90) (n:=20) Tryz.func90 (by kernel_rfl) (by kernel_rfl) (by kernel_rfl) ms90 (Eq.mpr (by kernel_rfl) h)
def c88:Code:=(Tryz.f88.body).getD .skip
def ms88:List (List Nat):=[[]]
def m88(x0 x1:AV)(S:Store)(Q:PoT):Prop:=
 boxN 37 5 x0 S fun a S=>ldN 5 a S fun c S=>callF Pg 90 [c,x1] S Q fun d S=>onB d fun b=>gd b (shift a 4 S fun e S=>ld1 e S fun f S=>lenS f S fun g S=>bin .eql 0 g (.v (.int .i64 0)) S fun h S=>Q (.ret h) S) (Q (.ret (.v (.bool false))) S)
theorem calls88{x0 x1:AV}{S:Store}{Q:PoT}(h:m88 x0 x1 S Q):ACalls Pg 88 [x0,x1] S Q:=
 calls_of_vc (fn:=Tryz.f88) (c:=c88) (n:=14) Tryz.func88 (by kernel_rfl) (by kernel_rfl) (by kernel_rfl) ms88 (Eq.mpr (by kernel_rfl) h)
def c94:Code:=(Tryz.f94.body).getD .skip
def ms94:List (List Nat):=[[]]
def m94(S:Store)(Q:PoT):Prop:=
 boxN 32 4 (.a [.v (.int .i64 0),.v (.string ByteArray.empty),.v (.int .i64 0),.nl]) S fun c S=>bld [(0,1),(1,1),(2,1),(3,1)] [.v (.int .i64 0),.v (.string ByteArray.empty),.v (.int .i64 0),.nl] [(0,(.v (.int .i64 2)))] S fun d S=>bslN 32 4 1 [.v (.int .i64 0),.v (.string ByteArray.empty),.v (.int .i64 0),.nl] [(0,d)] S fun e S=>callF Pg 62 [.v (.int .i64 13),e] S Q fun f S=>stN 4 c f S fun g S=>ldN 4 c S fun h _=>Q (.ret h) S
theorem calls94{S:Store}{Q:PoT}(h:m94  S Q):ACalls Pg 94 [] S Q:=
 calls_of_vc (fn:=Tryz.f94) (c:=c94) (n:=4) Tryz.func94 (by kernel_rfl) (by kernel_rfl) (by kernel_rfl) ms94 (Eq.mpr (by kernel_rfl) h)
def c34:Code:=(Tryz.f34.body).getD .skip
def ms34:List (List Nat):=[[]]
def m34(x0 x1 x2:AV)(S:Store)(Q:PoT):Prop:=
 boxN 29 8 x0 S fun a S=>boxN 32 4 x1 S fun c S=>boxN 37 5 x2 S fun d S=>ldN 8 a S fun e S=>shift d 1 S fun f S=>ld1 f S fun g S=>callF Pg 65 [e,g] S Q fun h S=>un .not h S fun i S=>onB i fun b=>gd b (Q (.ret (.t [.v (.int .i64 0),.v (.bool false)])) S) (shift d 1 S fun k S=>ld1 k S fun l S=>bslN 3 1 1 [.v (.int .i64 0)] [(0,l)] S fun m S=>shift c 0 S fun n S=>ld1 n S fun o S=>bin .eql 0 o (.v (.int .i64 2)) S fun p S=>onB p fun b=>gd b (shift d 0 S fun q S=>ld1 q S fun r S=>bin .eql 0 r (.v (.int .i64 1)) S fun s S=>onB s fun b=>gd b (ldN 5 d S fun u S=>callF Pg 66 [u] S Q fun w S=>Q (.ret (.t [.v (.int .i64 0),w])) S) (Q (.ret (.t [.v (.int .i64 0),.v (.bool false)])) S)) (bin .eql 0 o (.v (.int .i64 3)) S fun x S=>onB x fun b=>gd b (shift d 0 S fun y S=>ld1 y S fun z S=>bin .eql 0 z (.v (.int .i64 1)) S fun A S=>onB A fun b=>gd b (ldN 5 d S fun B S=>callF Pg 66 [B] S Q fun C S=>onB C fun b=>gd b (ldN 8 a S fun D S=>shift d 1 S fun E S=>ld1 E S fun F S=>shift c 2 S fun G S=>ld1 G S fun H S=>callF Pg 67 [D,F,H] S Q fun I S=>Q (.ret (.t [.v (.int .i64 0),I])) S) (Q (.ret (.t [.v (.int .i64 0),.v (.bool false)])) S)) (Q (.ret (.t [.v (.int .i64 0),.v (.bool false)])) S)) (bin .eql 0 o (.v (.int .i64 4)) S fun J S=>onB J fun b=>gd b ((fun S0:Store=>∃ K:AV,(shift d 0 S fun L S=>L=K∧S=S0)∧∃ M:AV,(ld1 K S fun N S=>N=M∧S=S0)∧∃ O:AV,(bin .eql 0 M (.v (.int .i64 1)) S fun P S=>P=O∧S=S0)∧onB O fun b=>gd b (∃ R:AV,(ldN 5 d S fun T S=>T=R∧S=S0)∧∃ U:AV,(callF Pg 66 [R] S (fun _ _=>False) fun V S=>V=U∧S=S0)∧∃ W:AV,(U=W∧S=S0)∧onB W fun b=>gd b (∃ X:AV,(ldN 8 a S fun Y S=>Y=X∧S=S0)∧∃ Z:AV,(shift d 1 S fun a0 S=>a0=Z∧S=S0)∧∃ a1:AV,(ld1 Z S fun a2 S=>a2=a1∧S=S0)∧∃ a3:AV,(shift c 3 S fun a4 S=>a4=a3∧S=S0)∧∃ a5:AV,(ld1 a3 S fun a6 S=>a6=a5∧S=S0)∧∃ a7:AV,(ixS 32 4 a5 (.v (.int .i64 0)) S fun a8 S=>a8=a7∧S=S0)∧∃ a9:AV,(shift a7 2 S fun b0 S=>b0=a9∧S=S0)∧∃ b1:AV,(ld1 a9 S fun b2 S=>b2=b1∧S=S0)∧∃ b3:AV,(callF Pg 67 [X,a1,b1] S (fun _ _=>False) fun b4 S=>b4=b3∧S=S0)∧∃ b5:AV,(un .not b3 S fun b6 S=>b6=b5∧S=S0)∧∃ b7:AV,(b5=b7∧S=S0)∧Q (.ret (.t [.v (.int .i64 0),b7])) S) (∃ b8:AV,((.v (.bool false))=b8∧S=S0)∧Q (.ret (.t [.v (.int .i64 0),b8])) S)) (∃ c0:AV,((.v (.bool false))=c0∧S=S0)∧onB c0 fun b=>gd b (∃ c1:AV,(ldN 8 a S fun c2 S=>c2=c1∧S=S0)∧∃ c3:AV,(shift d 1 S fun c4 S=>c4=c3∧S=S0)∧∃ c5:AV,(ld1 c3 S fun c6 S=>c6=c5∧S=S0)∧∃ c7:AV,(shift c 3 S fun c8 S=>c8=c7∧S=S0)∧∃ c9:AV,(ld1 c7 S fun d0 S=>d0=c9∧S=S0)∧∃ d1:AV,(ixS 32 4 c9 (.v (.int .i64 0)) S fun d2 S=>d2=d1∧S=S0)∧∃ d3:AV,(shift d1 2 S fun d4 S=>d4=d3∧S=S0)∧∃ d5:AV,(ld1 d3 S fun d6 S=>d6=d5∧S=S0)∧∃ d7:AV,(callF Pg 67 [c1,c5,d5] S (fun _ _=>False) fun d8 S=>d8=d7∧S=S0)∧∃ d9:AV,(un .not d7 S fun e0 S=>e0=d9∧S=S0)∧∃ e1:AV,(d9=e1∧S=S0)∧Q (.ret (.t [.v (.int .i64 0),e1])) S) (∃ e2:AV,((.v (.bool false))=e2∧S=S0)∧Q (.ret (.t [.v (.int .i64 0),e2])) S))) S) (bin .eql 0 o (.v (.int .i64 5)) S fun e3 S=>onB e3 fun b=>gd b (shift d 0 S fun e4 S=>ld1 e4 S fun e5 S=>bin .neq 0 e5 (.v (.int .i64 2)) S fun e6 S=>onB e6 fun b=>gd b (Q (.ret (.t [.v (.int .i64 0),.v (.bool false)])) S) (shift d 2 S fun e7 S=>ld1 e7 S fun e8 S=>bin .neq 0 e8 (.v (.int .i64 0)) S fun e9 S=>onB e9 fun b=>gd b (Q (.ret (.t [.v (.int .i64 0),.v (.bool false)])) S) (shift d 3 S fun f0 S=>ld1 f0 S fun f1 S=>lenS f1 S fun f2 S=>bin .gtr 0 f2 (.v (.int .i64 0)) S fun f3 S=>onB f3 fun b=>gd b (Q (.ret (.t [.v (.int .i64 0),.v (.bool false)])) S) (ldN 8 a S fun f4 S=>shift c 3 S fun f5 S=>ld1 f5 S fun f6 S=>shift d 1 S fun f7 S=>ld1 f7 S fun f8 S=>shift d 1 S fun f9 S=>ld1 f9 S fun g0 S=>bslN 3 1 2 [.v (.int .i64 0)] [(0,f8),(1,g0)] S fun g1 S=>shift d 4 S fun g2 S=>ld1 g2 S fun g3 S=>callF Pg 68 [f4,f6,g1,g3] S Q fun g4 S=>extr g4 0 S fun g5 S=>extr g4 1 S fun g6 S=>Q (.ret (.t [g5,g6])) S)))) (bin .eql 0 o (.v (.int .i64 6)) S fun g7 S=>onB g7 fun b=>gd b (shift d 0 S fun g8 S=>ld1 g8 S fun g9 S=>bin .neq 0 g9 (.v (.int .i64 3)) S fun h0 S=>onB h0 fun b=>gd b (Q (.ret (.t [.v (.int .i64 0),.v (.bool false)])) S) (shift d 2 S fun h1 S=>ld1 h1 S fun h2 S=>bin .lss 0 h2 (.v (.int .i64 0)) S fun h3 S=>onB h3 fun b=>gd b (Q (.ret (.t [.v (.int .i64 0),.v (.bool false)])) S) (shift d 2 S fun h4 S=>ld1 h4 S fun h5 S=>bin .gtr 0 h5 (.v (.int .i64 1)) S fun h6 S=>onB h6 fun b=>gd b (Q (.ret (.t [.v (.int .i64 0),.v (.bool false)])) S) (shift d 3 S fun h7 S=>ld1 h7 S fun h8 S=>lenS h8 S fun h9 S=>bin .gtr 0 h9 (.v (.int .i64 0)) S fun i0 S=>onB i0 fun b=>gd b (Q (.ret (.t [.v (.int .i64 0),.v (.bool false)])) S) ((fun S0:Store=>∃ i1:AV,(ldN 8 a S fun i2 S=>i2=i1∧S=S0)∧∃ i3:AV,(shift c 3 S fun i4 S=>i4=i3∧S=S0)∧∃ i5:AV,(ld1 i3 S fun i6 S=>i6=i5∧S=S0)∧∃ i7:AV,(shift d 2 S fun i8 S=>i8=i7∧S=S0)∧∃ i9:AV,(ld1 i7 S fun k0 S=>k0=i9∧S=S0)∧∃ k1:AV,(shift d 2 S fun k2 S=>k2=k1∧S=S0)∧∃ k3:AV,(ld1 k1 S fun k4 S=>k4=k3∧S=S0)∧∃ k5:AV,(bin .add 0 k3 (.v (.int .i64 1)) S fun k6 S=>k6=k5∧S=S0)∧∃ k7:AV,(slc 32 4 i5 (some i9) (some k5) none S fun k8 S=>k8=k7∧S=S0)∧∃ k9:AV,(shift d 4 S fun l0 S=>l0=k9∧S=S0)∧∃ l1:AV,(ld1 k9 S fun l2 S=>l2=l1∧S=S0)∧∃ l3:AV,(callF Pg 68 [i1,k7,m,l1] S (fun _ _=>False) fun l4 S=>l4=l3∧S=S0)∧∃ l5:AV,(extr l3 0 S fun l6 S=>l6=l5∧S=S0)∧∃ l7:AV,(extr l3 1 S fun l8 S=>l8=l7∧S=S0)∧Q (.ret (.t [l5,l7])) S) S))))) (bin .eql 0 o (.v (.int .i64 9)) S fun l9 S=>onB l9 fun b=>gd b ((fun S0:Store=>∃ aA:AV,(shift d 0 S fun aB S=>aB=aA∧S=S0)∧∃ aC:AV,(ld1 aA S fun aD S=>aD=aC∧S=S0)∧∃ aE:AV,(bin .neq 0 aC (.v (.int .i64 4)) S fun aF S=>aF=aE∧S=S0)∧onB aE fun b=>gd b (∃ aG:AV,((.v (.bool true))=aG∧S=S0)∧onB aG fun b=>gd b (∃ aH:AV,((.v (.bool true))=aH∧S=S0)∧onB aH fun b=>gd b (∃ aI:AV,((.v (.bool true))=aI∧S=S0)∧onB aI fun b=>gd b (∃ aJ:AV,((.v (.bool true))=aJ∧S=S0)∧onB aJ fun b=>gd b (Q (.ret (.t [.v (.int .i64 0),.v (.bool false)])) S) (shift d 4 S fun aK S=>ld1 aK S fun aL S=>ixS 37 5 aL (.v (.int .i64 0)) S fun aM S=>shift aM 1 S fun aN S=>ld1 aN S fun aO S=>(fun S0:Store=>∃ aP:AV,(ldN 8 a S fun aQ S=>aQ=aP∧S=S0)∧∃ aR:AV,(shift c 3 S fun aS S=>aS=aR∧S=S0)∧∃ aT:AV,(ld1 aR S fun aU S=>aU=aT∧S=S0)∧∃ aV:AV,(ixS 32 4 aT (.v (.int .i64 0)) S fun aW S=>aW=aV∧S=S0)∧∃ aX:AV,(ldN 4 aV S fun aY S=>aY=aX∧S=S0)∧∃ aZ:AV,(callF Pg 70 [] S (fun _ _=>False) fun bA S=>bA=aZ∧S=S0)∧∃ bB:AV,(callF Pg 23 [aZ] S (fun _ _=>False) fun bC S=>bC=bB∧S=S0)∧∃ bD:AV,(bslN 32 4 2 [.v (.int .i64 0),.v (.string ByteArray.empty),.v (.int .i64 0),.nl] [(0,aX),(1,bB)] S fun bE S=>bE=bD∧S=S0)∧∃ bF:AV,(bslN 3 1 2 [.v (.int .i64 0)] [(0,aO),(1,aO)] S fun bG S=>bG=bF∧S=S0)∧∃ bH:AV,(shift d 4 S fun bI S=>bI=bH∧S=S0)∧∃ bJ:AV,(ld1 bH S fun bK S=>bK=bJ∧S=S0)∧∃ bL:AV,(callF Pg 68 [aP,bD,bF,bJ] S (fun _ _=>False) fun bM S=>bM=bL∧S=S0)∧∃ bN:AV,(extr bL 0 S fun bO S=>bO=bN∧S=S0)∧∃ bP:AV,(extr bL 1 S fun bQ S=>bQ=bP∧S=S0)∧Q (.ret (.t [bN,bP])) S) S)) (∃ bR:AV,(ldN 8 a S fun bS S=>bS=bR∧S=S0)∧∃ bT:AV,(shift d 1 S fun bU S=>bU=bT∧S=S0)∧∃ bV:AV,(ld1 bT S fun bW S=>bW=bV∧S=S0)∧∃ bX:AV,(shift d 4 S fun bY S=>bY=bX∧S=S0)∧∃ bZ:AV,(ld1 bX S fun cA S=>cA=bZ∧S=S0)∧∃ cB:AV,(ixS 37 5 bZ (.v (.int .i64 0)) S fun cC S=>cC=cB∧S=S0)∧∃ cD:AV,(shift cB 1 S fun cE S=>cE=cD∧S=S0)∧∃ cF:AV,(ld1 cD S fun cG S=>cG=cF∧S=S0)∧∃ cH:AV,(callF Pg 69 [bR,bV,cF] S (fun _ _=>False) fun cI S=>cI=cH∧S=S0)∧∃ cJ:AV,(un .not cH S fun cK S=>cK=cJ∧S=S0)∧∃ cL:AV,(cJ=cL∧S=S0)∧onB cL fun b=>gd b (Q (.ret (.t [.v (.int .i64 0),.v (.bool false)])) S) (shift d 4 S fun cM S=>ld1 cM S fun cN S=>ixS 37 5 cN (.v (.int .i64 0)) S fun cO S=>shift cO 1 S fun cP S=>ld1 cP S fun cQ S=>(fun S0:Store=>∃ cR:AV,(ldN 8 a S fun cS S=>cS=cR∧S=S0)∧∃ cT:AV,(shift c 3 S fun cU S=>cU=cT∧S=S0)∧∃ cV:AV,(ld1 cT S fun cW S=>cW=cV∧S=S0)∧∃ cX:AV,(ixS 32 4 cV (.v (.int .i64 0)) S fun cY S=>cY=cX∧S=S0)∧∃ cZ:AV,(ldN 4 cX S fun dA S=>dA=cZ∧S=S0)∧∃ dB:AV,(callF Pg 70 [] S (fun _ _=>False) fun dC S=>dC=dB∧S=S0)∧∃ dD:AV,(callF Pg 23 [dB] S (fun _ _=>False) fun dE S=>dE=dD∧S=S0)∧∃ dF:AV,(bslN 32 4 2 [.v (.int .i64 0),.v (.string ByteArray.empty),.v (.int .i64 0),.nl] [(0,cZ),(1,dD)] S fun dG S=>dG=dF∧S=S0)∧∃ dH:AV,(bslN 3 1 2 [.v (.int .i64 0)] [(0,cQ),(1,cQ)] S fun dI S=>dI=dH∧S=S0)∧∃ dJ:AV,(shift d 4 S fun dK S=>dK=dJ∧S=S0)∧∃ dL:AV,(ld1 dJ S fun dM S=>dM=dL∧S=S0)∧∃ dN:AV,(callF Pg 68 [cR,dF,dH,dL] S (fun _ _=>False) fun dO S=>dO=dN∧S=S0)∧∃ dP:AV,(extr dN 0 S fun dQ S=>dQ=dP∧S=S0)∧∃ dR:AV,(extr dN 1 S fun dS S=>dS=dR∧S=S0)∧Q (.ret (.t [dP,dR])) S) S))) (∃ dT:AV,(shift d 4 S fun dU S=>dU=dT∧S=S0)∧∃ dV:AV,(ld1 dT S fun dW S=>dW=dV∧S=S0)∧∃ dX:AV,(lenS dV S fun dY S=>dY=dX∧S=S0)∧∃ dZ:AV,(bin .neq 0 dX (.v (.int .i64 2)) S fun eA S=>eA=dZ∧S=S0)∧∃ eB:AV,(dZ=eB∧S=S0)∧onB eB fun b=>gd b (∃ eC:AV,((.v (.bool true))=eC∧S=S0)∧onB eC fun b=>gd b (Q (.ret (.t [.v (.int .i64 0),.v (.bool false)])) S) (shift d 4 S fun eD S=>ld1 eD S fun eE S=>ixS 37 5 eE (.v (.int .i64 0)) S fun eF S=>shift eF 1 S fun eG S=>ld1 eG S fun eH S=>(fun S0:Store=>∃ eI:AV,(ldN 8 a S fun eJ S=>eJ=eI∧S=S0)∧∃ eK:AV,(shift c 3 S fun eL S=>eL=eK∧S=S0)∧∃ eM:AV,(ld1 eK S fun eN S=>eN=eM∧S=S0)∧∃ eO:AV,(ixS 32 4 eM (.v (.int .i64 0)) S fun eP S=>eP=eO∧S=S0)∧∃ eQ:AV,(ldN 4 eO S fun eR S=>eR=eQ∧S=S0)∧∃ eS:AV,(callF Pg 70 [] S (fun _ _=>False) fun eT S=>eT=eS∧S=S0)∧∃ eU:AV,(callF Pg 23 [eS] S (fun _ _=>False) fun eV S=>eV=eU∧S=S0)∧∃ eW:AV,(bslN 32 4 2 [.v (.int .i64 0),.v (.string ByteArray.empty),.v (.int .i64 0),.nl] [(0,eQ),(1,eU)] S fun eX S=>eX=eW∧S=S0)∧∃ eY:AV,(bslN 3 1 2 [.v (.int .i64 0)] [(0,eH),(1,eH)] S fun eZ S=>eZ=eY∧S=S0)∧∃ fA:AV,(shift d 4 S fun fB S=>fB=fA∧S=S0)∧∃ fC:AV,(ld1 fA S fun fD S=>fD=fC∧S=S0)∧∃ fE:AV,(callF Pg 68 [eI,eW,eY,fC] S (fun _ _=>False) fun fF S=>fF=fE∧S=S0)∧∃ fG:AV,(extr fE 0 S fun fH S=>fH=fG∧S=S0)∧∃ fI:AV,(extr fE 1 S fun fJ S=>fJ=fI∧S=S0)∧Q (.ret (.t [fG,fI])) S) S)) (∃ fK:AV,(ldN 8 a S fun fL S=>fL=fK∧S=S0)∧∃ fM:AV,(shift d 1 S fun fN S=>fN=fM∧S=S0)∧∃ fO:AV,(ld1 fM S fun fP S=>fP=fO∧S=S0)∧∃ fQ:AV,(shift d 4 S fun fR S=>fR=fQ∧S=S0)∧∃ fS:AV,(ld1 fQ S fun fT S=>fT=fS∧S=S0)∧∃ fU:AV,(ixS 37 5 fS (.v (.int .i64 0)) S fun fV S=>fV=fU∧S=S0)∧∃ fW:AV,(shift fU 1 S fun fX S=>fX=fW∧S=S0)∧∃ fY:AV,(ld1 fW S fun fZ S=>fZ=fY∧S=S0)∧∃ gA:AV,(callF Pg 69 [fK,fO,fY] S (fun _ _=>False) fun gB S=>gB=gA∧S=S0)∧∃ gC:AV,(un .not gA S fun gD S=>gD=gC∧S=S0)∧∃ gE:AV,(gC=gE∧S=S0)∧onB gE fun b=>gd b (Q (.ret (.t [.v (.int .i64 0),.v (.bool false)])) S) (shift d 4 S fun gF S=>ld1 gF S fun gG S=>ixS 37 5 gG (.v (.int .i64 0)) S fun gH S=>shift gH 1 S fun gI S=>ld1 gI S fun gJ S=>(fun S0:Store=>∃ gK:AV,(ldN 8 a S fun gL S=>gL=gK∧S=S0)∧∃ gM:AV,(shift c 3 S fun gN S=>gN=gM∧S=S0)∧∃ gO:AV,(ld1 gM S fun gP S=>gP=gO∧S=S0)∧∃ gQ:AV,(ixS 32 4 gO (.v (.int .i64 0)) S fun gR S=>gR=gQ∧S=S0)∧∃ gS:AV,(ldN 4 gQ S fun gT S=>gT=gS∧S=S0)∧∃ gU:AV,(callF Pg 70 [] S (fun _ _=>False) fun gV S=>gV=gU∧S=S0)∧∃ gW:AV,(callF Pg 23 [gU] S (fun _ _=>False) fun gX S=>gX=gW∧S=S0)∧∃ gY:AV,(bslN 32 4 2 [.v (.int .i64 0),.v (.string ByteArray.empty),.v (.int .i64 0),.nl] [(0,gS),(1,gW)] S fun gZ S=>gZ=gY∧S=S0)∧∃ hA:AV,(bslN 3 1 2 [.v (.int .i64 0)] [(0,gJ),(1,gJ)] S fun hB S=>hB=hA∧S=S0)∧∃ hC:AV,(shift d 4 S fun hD S=>hD=hC∧S=S0)∧∃ hE:AV,(ld1 hC S fun hF S=>hF=hE∧S=S0)∧∃ hG:AV,(callF Pg 68 [gK,gY,hA,hE] S (fun _ _=>False) fun hH S=>hH=hG∧S=S0)∧∃ hI:AV,(extr hG 0 S fun hJ S=>hJ=hI∧S=S0)∧∃ hK:AV,(extr hG 1 S fun hL S=>hL=hK∧S=S0)∧Q (.ret (.t [hI,hK])) S) S)))) (∃ hM:AV,(shift d 3 S fun hN S=>hN=hM∧S=S0)∧∃ hO:AV,(ld1 hM S fun hP S=>hP=hO∧S=S0)∧∃ hQ:AV,(lenS hO S fun hR S=>hR=hQ∧S=S0)∧∃ hS:AV,(bin .gtr 0 hQ (.v (.int .i64 0)) S fun hT S=>hT=hS∧S=S0)∧∃ hU:AV,(hS=hU∧S=S0)∧onB hU fun b=>gd b (∃ hV:AV,((.v (.bool true))=hV∧S=S0)∧onB hV fun b=>gd b (∃ hW:AV,((.v (.bool true))=hW∧S=S0)∧onB hW fun b=>gd b (Q (.ret (.t [.v (.int .i64 0),.v (.bool false)])) S) (shift d 4 S fun hX S=>ld1 hX S fun hY S=>ixS 37 5 hY (.v (.int .i64 0)) S fun hZ S=>shift hZ 1 S fun iA S=>ld1 iA S fun iB S=>(fun S0:Store=>∃ iC:AV,(ldN 8 a S fun iD S=>iD=iC∧S=S0)∧∃ iE:AV,(shift c 3 S fun iF S=>iF=iE∧S=S0)∧∃ iG:AV,(ld1 iE S fun iH S=>iH=iG∧S=S0)∧∃ iI:AV,(ixS 32 4 iG (.v (.int .i64 0)) S fun iJ S=>iJ=iI∧S=S0)∧∃ iK:AV,(ldN 4 iI S fun iL S=>iL=iK∧S=S0)∧∃ iM:AV,(callF Pg 70 [] S (fun _ _=>False) fun iN S=>iN=iM∧S=S0)∧∃ iO:AV,(callF Pg 23 [iM] S (fun _ _=>False) fun iP S=>iP=iO∧S=S0)∧∃ iQ:AV,(bslN 32 4 2 [.v (.int .i64 0),.v (.string ByteArray.empty),.v (.int .i64 0),.nl] [(0,iK),(1,iO)] S fun iR S=>iR=iQ∧S=S0)∧∃ iS:AV,(bslN 3 1 2 [.v (.int .i64 0)] [(0,iB),(1,iB)] S fun iT S=>iT=iS∧S=S0)∧∃ iU:AV,(shift d 4 S fun iV S=>iV=iU∧S=S0)∧∃ iW:AV,(ld1 iU S fun iX S=>iX=iW∧S=S0)∧∃ iY:AV,(callF Pg 68 [iC,iQ,iS,iW] S (fun _ _=>False) fun iZ S=>iZ=iY∧S=S0)∧∃ jA:AV,(extr iY 0 S fun jB S=>jB=jA∧S=S0)∧∃ jC:AV,(extr iY 1 S fun jD S=>jD=jC∧S=S0)∧Q (.ret (.t [jA,jC])) S) S)) (∃ jE:AV,(ldN 8 a S fun jF S=>jF=jE∧S=S0)∧∃ jG:AV,(shift d 1 S fun jH S=>jH=jG∧S=S0)∧∃ jI:AV,(ld1 jG S fun jJ S=>jJ=jI∧S=S0)∧∃ jK:AV,(shift d 4 S fun jL S=>jL=jK∧S=S0)∧∃ jM:AV,(ld1 jK S fun jN S=>jN=jM∧S=S0)∧∃ jO:AV,(ixS 37 5 jM (.v (.int .i64 0)) S fun jP S=>jP=jO∧S=S0)∧∃ jQ:AV,(shift jO 1 S fun jR S=>jR=jQ∧S=S0)∧∃ jS:AV,(ld1 jQ S fun jT S=>jT=jS∧S=S0)∧∃ jU:AV,(callF Pg 69 [jE,jI,jS] S (fun _ _=>False) fun jV S=>jV=jU∧S=S0)∧∃ jW:AV,(un .not jU S fun jX S=>jX=jW∧S=S0)∧∃ jY:AV,(jW=jY∧S=S0)∧onB jY fun b=>gd b (Q (.ret (.t [.v (.int .i64 0),.v (.bool false)])) S) (shift d 4 S fun jZ S=>ld1 jZ S fun kA S=>ixS 37 5 kA (.v (.int .i64 0)) S fun kB S=>shift kB 1 S fun kC S=>ld1 kC S fun kD S=>(fun S0:Store=>∃ kE:AV,(ldN 8 a S fun kF S=>kF=kE∧S=S0)∧∃ kG:AV,(shift c 3 S fun kH S=>kH=kG∧S=S0)∧∃ kI:AV,(ld1 kG S fun kJ S=>kJ=kI∧S=S0)∧∃ kK:AV,(ixS 32 4 kI (.v (.int .i64 0)) S fun kL S=>kL=kK∧S=S0)∧∃ kM:AV,(ldN 4 kK S fun kN S=>kN=kM∧S=S0)∧∃ kO:AV,(callF Pg 70 [] S (fun _ _=>False) fun kP S=>kP=kO∧S=S0)∧∃ kQ:AV,(callF Pg 23 [kO] S (fun _ _=>False) fun kR S=>kR=kQ∧S=S0)∧∃ kS:AV,(bslN 32 4 2 [.v (.int .i64 0),.v (.string ByteArray.empty),.v (.int .i64 0),.nl] [(0,kM),(1,kQ)] S fun kT S=>kT=kS∧S=S0)∧∃ kU:AV,(bslN 3 1 2 [.v (.int .i64 0)] [(0,kD),(1,kD)] S fun kV S=>kV=kU∧S=S0)∧∃ kW:AV,(shift d 4 S fun kX S=>kX=kW∧S=S0)∧∃ kY:AV,(ld1 kW S fun kZ S=>kZ=kY∧S=S0)∧∃ lA:AV,(callF Pg 68 [kE,kS,kU,kY] S (fun _ _=>False) fun lB S=>lB=lA∧S=S0)∧∃ lC:AV,(extr lA 0 S fun lD S=>lD=lC∧S=S0)∧∃ lE:AV,(extr lA 1 S fun lF S=>lF=lE∧S=S0)∧Q (.ret (.t [lC,lE])) S) S))) (∃ lG:AV,(shift d 4 S fun lH S=>lH=lG∧S=S0)∧∃ lI:AV,(ld1 lG S fun lJ S=>lJ=lI∧S=S0)∧∃ lK:AV,(lenS lI S fun lL S=>lL=lK∧S=S0)∧∃ lM:AV,(bin .neq 0 lK (.v (.int .i64 2)) S fun lN S=>lN=lM∧S=S0)∧∃ lO:AV,(lM=lO∧S=S0)∧onB lO fun b=>gd b (∃ lP:AV,((.v (.bool true))=lP∧S=S0)∧onB lP fun b=>gd b (Q (.ret (.t [.v (.int .i64 0),.v (.bool false)])) S) (shift d 4 S fun lQ S=>ld1 lQ S fun lR S=>ixS 37 5 lR (.v (.int .i64 0)) S fun lS S=>shift lS 1 S fun lT S=>ld1 lT S fun lU S=>(fun S0:Store=>∃ lV:AV,(ldN 8 a S fun lW S=>lW=lV∧S=S0)∧∃ lX:AV,(shift c 3 S fun lY S=>lY=lX∧S=S0)∧∃ lZ:AV,(ld1 lX S fun mA S=>mA=lZ∧S=S0)∧∃ mB:AV,(ixS 32 4 lZ (.v (.int .i64 0)) S fun mC S=>mC=mB∧S=S0)∧∃ mD:AV,(ldN 4 mB S fun mE S=>mE=mD∧S=S0)∧∃ mF:AV,(callF Pg 70 [] S (fun _ _=>False) fun mG S=>mG=mF∧S=S0)∧∃ mH:AV,(callF Pg 23 [mF] S (fun _ _=>False) fun mI S=>mI=mH∧S=S0)∧∃ mJ:AV,(bslN 32 4 2 [.v (.int .i64 0),.v (.string ByteArray.empty),.v (.int .i64 0),.nl] [(0,mD),(1,mH)] S fun mK S=>mK=mJ∧S=S0)∧∃ mL:AV,(bslN 3 1 2 [.v (.int .i64 0)] [(0,lU),(1,lU)] S fun mM S=>mM=mL∧S=S0)∧∃ mN:AV,(shift d 4 S fun mO S=>mO=mN∧S=S0)∧∃ mP:AV,(ld1 mN S fun mQ S=>mQ=mP∧S=S0)∧∃ mR:AV,(callF Pg 68 [lV,mJ,mL,mP] S (fun _ _=>False) fun mS S=>mS=mR∧S=S0)∧∃ mT:AV,(extr mR 0 S fun mU S=>mU=mT∧S=S0)∧∃ mV:AV,(extr mR 1 S fun mW S=>mW=mV∧S=S0)∧Q (.ret (.t [mT,mV])) S) S)) (∃ mX:AV,(ldN 8 a S fun mY S=>mY=mX∧S=S0)∧∃ mZ:AV,(shift d 1 S fun nA S=>nA=mZ∧S=S0)∧∃ nB:AV,(ld1 mZ S fun nC S=>nC=nB∧S=S0)∧∃ nD:AV,(shift d 4 S fun nE S=>nE=nD∧S=S0)∧∃ nF:AV,(ld1 nD S fun nG S=>nG=nF∧S=S0)∧∃ nH:AV,(ixS 37 5 nF (.v (.int .i64 0)) S fun nI S=>nI=nH∧S=S0)∧∃ nJ:AV,(shift nH 1 S fun nK S=>nK=nJ∧S=S0)∧∃ nL:AV,(ld1 nJ S fun nM S=>nM=nL∧S=S0)∧∃ nN:AV,(callF Pg 69 [mX,nB,nL] S (fun _ _=>False) fun nO S=>nO=nN∧S=S0)∧∃ nP:AV,(un .not nN S fun nQ S=>nQ=nP∧S=S0)∧∃ nR:AV,(nP=nR∧S=S0)∧onB nR fun b=>gd b (Q (.ret (.t [.v (.int .i64 0),.v (.bool false)])) S) (shift d 4 S fun nS S=>ld1 nS S fun nT S=>ixS 37 5 nT (.v (.int .i64 0)) S fun nU S=>shift nU 1 S fun nV S=>ld1 nV S fun nW S=>(fun S0:Store=>∃ nX:AV,(ldN 8 a S fun nY S=>nY=nX∧S=S0)∧∃ nZ:AV,(shift c 3 S fun oA S=>oA=nZ∧S=S0)∧∃ oB:AV,(ld1 nZ S fun oC S=>oC=oB∧S=S0)∧∃ oD:AV,(ixS 32 4 oB (.v (.int .i64 0)) S fun oE S=>oE=oD∧S=S0)∧∃ oF:AV,(ldN 4 oD S fun oG S=>oG=oF∧S=S0)∧∃ oH:AV,(callF Pg 70 [] S (fun _ _=>False) fun oI S=>oI=oH∧S=S0)∧∃ oJ:AV,(callF Pg 23 [oH] S (fun _ _=>False) fun oK S=>oK=oJ∧S=S0)∧∃ oL:AV,(bslN 32 4 2 [.v (.int .i64 0),.v (.string ByteArray.empty),.v (.int .i64 0),.nl] [(0,oF),(1,oJ)] S fun oM S=>oM=oL∧S=S0)∧∃ oN:AV,(bslN 3 1 2 [.v (.int .i64 0)] [(0,nW),(1,nW)] S fun oO S=>oO=oN∧S=S0)∧∃ oP:AV,(shift d 4 S fun oQ S=>oQ=oP∧S=S0)∧∃ oR:AV,(ld1 oP S fun oS S=>oS=oR∧S=S0)∧∃ oT:AV,(callF Pg 68 [nX,oL,oN,oR] S (fun _ _=>False) fun oU S=>oU=oT∧S=S0)∧∃ oV:AV,(extr oT 0 S fun oW S=>oW=oV∧S=S0)∧∃ oX:AV,(extr oT 1 S fun oY S=>oY=oX∧S=S0)∧Q (.ret (.t [oV,oX])) S) S))))) (∃ oZ:AV,(shift d 2 S fun pA S=>pA=oZ∧S=S0)∧∃ pB:AV,(ld1 oZ S fun pC S=>pC=pB∧S=S0)∧∃ pD:AV,(bin .neq 0 pB (.v (.int .i64 0)) S fun pE S=>pE=pD∧S=S0)∧∃ pF:AV,(pD=pF∧S=S0)∧onB pF fun b=>gd b (∃ pG:AV,((.v (.bool true))=pG∧S=S0)∧onB pG fun b=>gd b (∃ pH:AV,((.v (.bool true))=pH∧S=S0)∧onB pH fun b=>gd b (∃ pI:AV,((.v (.bool true))=pI∧S=S0)∧onB pI fun b=>gd b (Q (.ret (.t [.v (.int .i64 0),.v (.bool false)])) S) (shift d 4 S fun pJ S=>ld1 pJ S fun pK S=>ixS 37 5 pK (.v (.int .i64 0)) S fun pL S=>shift pL 1 S fun pM S=>ld1 pM S fun pN S=>(fun S0:Store=>∃ pO:AV,(ldN 8 a S fun pP S=>pP=pO∧S=S0)∧∃ pQ:AV,(shift c 3 S fun pR S=>pR=pQ∧S=S0)∧∃ pS:AV,(ld1 pQ S fun pT S=>pT=pS∧S=S0)∧∃ pU:AV,(ixS 32 4 pS (.v (.int .i64 0)) S fun pV S=>pV=pU∧S=S0)∧∃ pW:AV,(ldN 4 pU S fun pX S=>pX=pW∧S=S0)∧∃ pY:AV,(callF Pg 70 [] S (fun _ _=>False) fun pZ S=>pZ=pY∧S=S0)∧∃ qA:AV,(callF Pg 23 [pY] S (fun _ _=>False) fun qB S=>qB=qA∧S=S0)∧∃ qC:AV,(bslN 32 4 2 [.v (.int .i64 0),.v (.string ByteArray.empty),.v (.int .i64 0),.nl] [(0,pW),(1,qA)] S fun qD S=>qD=qC∧S=S0)∧∃ qE:AV,(bslN 3 1 2 [.v (.int .i64 0)] [(0,pN),(1,pN)] S fun qF S=>qF=qE∧S=S0)∧∃ qG:AV,(shift d 4 S fun qH S=>qH=qG∧S=S0)∧∃ qI:AV,(ld1 qG S fun qJ S=>qJ=qI∧S=S0)∧∃ qK:AV,(callF Pg 68 [pO,qC,qE,qI] S (fun _ _=>False) fun qL S=>qL=qK∧S=S0)∧∃ qM:AV,(extr qK 0 S fun qN S=>qN=qM∧S=S0)∧∃ qO:AV,(extr qK 1 S fun qP S=>qP=qO∧S=S0)∧Q (.ret (.t [qM,qO])) S) S)) (∃ qQ:AV,(ldN 8 a S fun qR S=>qR=qQ∧S=S0)∧∃ qS:AV,(shift d 1 S fun qT S=>qT=qS∧S=S0)∧∃ qU:AV,(ld1 qS S fun qV S=>qV=qU∧S=S0)∧∃ qW:AV,(shift d 4 S fun qX S=>qX=qW∧S=S0)∧∃ qY:AV,(ld1 qW S fun qZ S=>qZ=qY∧S=S0)∧∃ rA:AV,(ixS 37 5 qY (.v (.int .i64 0)) S fun rB S=>rB=rA∧S=S0)∧∃ rC:AV,(shift rA 1 S fun rD S=>rD=rC∧S=S0)∧∃ rE:AV,(ld1 rC S fun rF S=>rF=rE∧S=S0)∧∃ rG:AV,(callF Pg 69 [qQ,qU,rE] S (fun _ _=>False) fun rH S=>rH=rG∧S=S0)∧∃ rI:AV,(un .not rG S fun rJ S=>rJ=rI∧S=S0)∧∃ rK:AV,(rI=rK∧S=S0)∧onB rK fun b=>gd b (Q (.ret (.t [.v (.int .i64 0),.v (.bool false)])) S) (shift d 4 S fun rL S=>ld1 rL S fun rM S=>ixS 37 5 rM (.v (.int .i64 0)) S fun rN S=>shift rN 1 S fun rO S=>ld1 rO S fun rP S=>(fun S0:Store=>∃ rQ:AV,(ldN 8 a S fun rR S=>rR=rQ∧S=S0)∧∃ rS:AV,(shift c 3 S fun rT S=>rT=rS∧S=S0)∧∃ rU:AV,(ld1 rS S fun rV S=>rV=rU∧S=S0)∧∃ rW:AV,(ixS 32 4 rU (.v (.int .i64 0)) S fun rX S=>rX=rW∧S=S0)∧∃ rY:AV,(ldN 4 rW S fun rZ S=>rZ=rY∧S=S0)∧∃ sA:AV,(callF Pg 70 [] S (fun _ _=>False) fun sB S=>sB=sA∧S=S0)∧∃ sC:AV,(callF Pg 23 [sA] S (fun _ _=>False) fun sD S=>sD=sC∧S=S0)∧∃ sE:AV,(bslN 32 4 2 [.v (.int .i64 0),.v (.string ByteArray.empty),.v (.int .i64 0),.nl] [(0,rY),(1,sC)] S fun sF S=>sF=sE∧S=S0)∧∃ sG:AV,(bslN 3 1 2 [.v (.int .i64 0)] [(0,rP),(1,rP)] S fun sH S=>sH=sG∧S=S0)∧∃ sI:AV,(shift d 4 S fun sJ S=>sJ=sI∧S=S0)∧∃ sK:AV,(ld1 sI S fun sL S=>sL=sK∧S=S0)∧∃ sM:AV,(callF Pg 68 [rQ,sE,sG,sK] S (fun _ _=>False) fun sN S=>sN=sM∧S=S0)∧∃ sO:AV,(extr sM 0 S fun sP S=>sP=sO∧S=S0)∧∃ sQ:AV,(extr sM 1 S fun sR S=>sR=sQ∧S=S0)∧Q (.ret (.t [sO,sQ])) S) S))) (∃ sS:AV,(shift d 4 S fun sT S=>sT=sS∧S=S0)∧∃ sU:AV,(ld1 sS S fun sV S=>sV=sU∧S=S0)∧∃ sW:AV,(lenS sU S fun sX S=>sX=sW∧S=S0)∧∃ sY:AV,(bin .neq 0 sW (.v (.int .i64 2)) S fun sZ S=>sZ=sY∧S=S0)∧∃ tA:AV,(sY=tA∧S=S0)∧onB tA fun b=>gd b (∃ tB:AV,((.v (.bool true))=tB∧S=S0)∧onB tB fun b=>gd b (Q (.ret (.t [.v (.int .i64 0),.v (.bool false)])) S) (shift d 4 S fun tC S=>ld1 tC S fun tD S=>ixS 37 5 tD (.v (.int .i64 0)) S fun tE S=>shift tE 1 S fun tF S=>ld1 tF S fun tG S=>(fun S0:Store=>∃ tH:AV,(ldN 8 a S fun tI S=>tI=tH∧S=S0)∧∃ tJ:AV,(shift c 3 S fun tK S=>tK=tJ∧S=S0)∧∃ tL:AV,(ld1 tJ S fun tM S=>tM=tL∧S=S0)∧∃ tN:AV,(ixS 32 4 tL (.v (.int .i64 0)) S fun tO S=>tO=tN∧S=S0)∧∃ tP:AV,(ldN 4 tN S fun tQ S=>tQ=tP∧S=S0)∧∃ tR:AV,(callF Pg 70 [] S (fun _ _=>False) fun tS S=>tS=tR∧S=S0)∧∃ tT:AV,(callF Pg 23 [tR] S (fun _ _=>False) fun tU S=>tU=tT∧S=S0)∧∃ tV:AV,(bslN 32 4 2 [.v (.int .i64 0),.v (.string ByteArray.empty),.v (.int .i64 0),.nl] [(0,tP),(1,tT)] S fun tW S=>tW=tV∧S=S0)∧∃ tX:AV,(bslN 3 1 2 [.v (.int .i64 0)] [(0,tG),(1,tG)] S fun tY S=>tY=tX∧S=S0)∧∃ tZ:AV,(shift d 4 S fun uA S=>uA=tZ∧S=S0)∧∃ uB:AV,(ld1 tZ S fun uC S=>uC=uB∧S=S0)∧∃ uD:AV,(callF Pg 68 [tH,tV,tX,uB] S (fun _ _=>False) fun uE S=>uE=uD∧S=S0)∧∃ uF:AV,(extr uD 0 S fun uG S=>uG=uF∧S=S0)∧∃ uH:AV,(extr uD 1 S fun uI S=>uI=uH∧S=S0)∧Q (.ret (.t [uF,uH])) S) S)) (∃ uJ:AV,(ldN 8 a S fun uK S=>uK=uJ∧S=S0)∧∃ uL:AV,(shift d 1 S fun uM S=>uM=uL∧S=S0)∧∃ uN:AV,(ld1 uL S fun uO S=>uO=uN∧S=S0)∧∃ uP:AV,(shift d 4 S fun uQ S=>uQ=uP∧S=S0)∧∃ uR:AV,(ld1 uP S fun uS S=>uS=uR∧S=S0)∧∃ uT:AV,(ixS 37 5 uR (.v (.int .i64 0)) S fun uU S=>uU=uT∧S=S0)∧∃ uV:AV,(shift uT 1 S fun uW S=>uW=uV∧S=S0)∧∃ uX:AV,(ld1 uV S fun uY S=>uY=uX∧S=S0)∧∃ uZ:AV,(callF Pg 69 [uJ,uN,uX] S (fun _ _=>False) fun vA S=>vA=uZ∧S=S0)∧∃ vB:AV,(un .not uZ S fun vC S=>vC=vB∧S=S0)∧∃ vD:AV,(vB=vD∧S=S0)∧onB vD fun b=>gd b (Q (.ret (.t [.v (.int .i64 0),.v (.bool false)])) S) (shift d 4 S fun vE S=>ld1 vE S fun vF S=>ixS 37 5 vF (.v (.int .i64 0)) S fun vG S=>shift vG 1 S fun vH S=>ld1 vH S fun vI S=>(fun S0:Store=>∃ vJ:AV,(ldN 8 a S fun vK S=>vK=vJ∧S=S0)∧∃ vL:AV,(shift c 3 S fun vM S=>vM=vL∧S=S0)∧∃ vN:AV,(ld1 vL S fun vO S=>vO=vN∧S=S0)∧∃ vP:AV,(ixS 32 4 vN (.v (.int .i64 0)) S fun vQ S=>vQ=vP∧S=S0)∧∃ vR:AV,(ldN 4 vP S fun vS S=>vS=vR∧S=S0)∧∃ vT:AV,(callF Pg 70 [] S (fun _ _=>False) fun vU S=>vU=vT∧S=S0)∧∃ vV:AV,(callF Pg 23 [vT] S (fun _ _=>False) fun vW S=>vW=vV∧S=S0)∧∃ vX:AV,(bslN 32 4 2 [.v (.int .i64 0),.v (.string ByteArray.empty),.v (.int .i64 0),.nl] [(0,vR),(1,vV)] S fun vY S=>vY=vX∧S=S0)∧∃ vZ:AV,(bslN 3 1 2 [.v (.int .i64 0)] [(0,vI),(1,vI)] S fun wA S=>wA=vZ∧S=S0)∧∃ wB:AV,(shift d 4 S fun wC S=>wC=wB∧S=S0)∧∃ wD:AV,(ld1 wB S fun wE S=>wE=wD∧S=S0)∧∃ wF:AV,(callF Pg 68 [vJ,vX,vZ,wD] S (fun _ _=>False) fun wG S=>wG=wF∧S=S0)∧∃ wH:AV,(extr wF 0 S fun wI S=>wI=wH∧S=S0)∧∃ wJ:AV,(extr wF 1 S fun wK S=>wK=wJ∧S=S0)∧Q (.ret (.t [wH,wJ])) S) S)))) (∃ wL:AV,(shift d 3 S fun wM S=>wM=wL∧S=S0)∧∃ wN:AV,(ld1 wL S fun wO S=>wO=wN∧S=S0)∧∃ wP:AV,(lenS wN S fun wQ S=>wQ=wP∧S=S0)∧∃ wR:AV,(bin .gtr 0 wP (.v (.int .i64 0)) S fun wS S=>wS=wR∧S=S0)∧∃ wT:AV,(wR=wT∧S=S0)∧onB wT fun b=>gd b (∃ wU:AV,((.v (.bool true))=wU∧S=S0)∧onB wU fun b=>gd b (∃ wV:AV,((.v (.bool true))=wV∧S=S0)∧onB wV fun b=>gd b (Q (.ret (.t [.v (.int .i64 0),.v (.bool false)])) S) (shift d 4 S fun wW S=>ld1 wW S fun wX S=>ixS 37 5 wX (.v (.int .i64 0)) S fun wY S=>shift wY 1 S fun wZ S=>ld1 wZ S fun aA0 S=>(fun S0:Store=>∃ aA1:AV,(ldN 8 a S fun aA2 S=>aA2=aA1∧S=S0)∧∃ aA3:AV,(shift c 3 S fun aA4 S=>aA4=aA3∧S=S0)∧∃ aA5:AV,(ld1 aA3 S fun aA6 S=>aA6=aA5∧S=S0)∧∃ aA7:AV,(ixS 32 4 aA5 (.v (.int .i64 0)) S fun aA8 S=>aA8=aA7∧S=S0)∧∃ aA9:AV,(ldN 4 aA7 S fun aB0 S=>aB0=aA9∧S=S0)∧∃ aB1:AV,(callF Pg 70 [] S (fun _ _=>False) fun aB2 S=>aB2=aB1∧S=S0)∧∃ aB3:AV,(callF Pg 23 [aB1] S (fun _ _=>False) fun aB4 S=>aB4=aB3∧S=S0)∧∃ aB5:AV,(bslN 32 4 2 [.v (.int .i64 0),.v (.string ByteArray.empty),.v (.int .i64 0),.nl] [(0,aA9),(1,aB3)] S fun aB6 S=>aB6=aB5∧S=S0)∧∃ aB7:AV,(bslN 3 1 2 [.v (.int .i64 0)] [(0,aA0),(1,aA0)] S fun aB8 S=>aB8=aB7∧S=S0)∧∃ aB9:AV,(shift d 4 S fun aC0 S=>aC0=aB9∧S=S0)∧∃ aC1:AV,(ld1 aB9 S fun aC2 S=>aC2=aC1∧S=S0)∧∃ aC3:AV,(callF Pg 68 [aA1,aB5,aB7,aC1] S (fun _ _=>False) fun aC4 S=>aC4=aC3∧S=S0)∧∃ aC5:AV,(extr aC3 0 S fun aC6 S=>aC6=aC5∧S=S0)∧∃ aC7:AV,(extr aC3 1 S fun aC8 S=>aC8=aC7∧S=S0)∧Q (.ret (.t [aC5,aC7])) S) S)) (∃ aC9:AV,(ldN 8 a S fun aD0 S=>aD0=aC9∧S=S0)∧∃ aD1:AV,(shift d 1 S fun aD2 S=>aD2=aD1∧S=S0)∧∃ aD3:AV,(ld1 aD1 S fun aD4 S=>aD4=aD3∧S=S0)∧∃ aD5:AV,(shift d 4 S fun aD6 S=>aD6=aD5∧S=S0)∧∃ aD7:AV,(ld1 aD5 S fun aD8 S=>aD8=aD7∧S=S0)∧∃ aD9:AV,(ixS 37 5 aD7 (.v (.int .i64 0)) S fun aE0 S=>aE0=aD9∧S=S0)∧∃ aE1:AV,(shift aD9 1 S fun aE2 S=>aE2=aE1∧S=S0)∧∃ aE3:AV,(ld1 aE1 S fun aE4 S=>aE4=aE3∧S=S0)∧∃ aE5:AV,(callF Pg 69 [aC9,aD3,aE3] S (fun _ _=>False) fun aE6 S=>aE6=aE5∧S=S0)∧∃ aE7:AV,(un .not aE5 S fun aE8 S=>aE8=aE7∧S=S0)∧∃ aE9:AV,(aE7=aE9∧S=S0)∧onB aE9 fun b=>gd b (Q (.ret (.t [.v (.int .i64 0),.v (.bool false)])) S) (shift d 4 S fun aF0 S=>ld1 aF0 S fun aF1 S=>ixS 37 5 aF1 (.v (.int .i64 0)) S fun aF2 S=>shift aF2 1 S fun aF3 S=>ld1 aF3 S fun aF4 S=>(fun S0:Store=>∃ aF5:AV,(ldN 8 a S fun aF6 S=>aF6=aF5∧S=S0)∧∃ aF7:AV,(shift c 3 S fun aF8 S=>aF8=aF7∧S=S0)∧∃ aF9:AV,(ld1 aF7 S fun aG0 S=>aG0=aF9∧S=S0)∧∃ aG1:AV,(ixS 32 4 aF9 (.v (.int .i64 0)) S fun aG2 S=>aG2=aG1∧S=S0)∧∃ aG3:AV,(ldN 4 aG1 S fun aG4 S=>aG4=aG3∧S=S0)∧∃ aG5:AV,(callF Pg 70 [] S (fun _ _=>False) fun aG6 S=>aG6=aG5∧S=S0)∧∃ aG7:AV,(callF Pg 23 [aG5] S (fun _ _=>False) fun aG8 S=>aG8=aG7∧S=S0)∧∃ aG9:AV,(bslN 32 4 2 [.v (.int .i64 0),.v (.string ByteArray.empty),.v (.int .i64 0),.nl] [(0,aG3),(1,aG7)] S fun aH0 S=>aH0=aG9∧S=S0)∧∃ aH1:AV,(bslN 3 1 2 [.v (.int .i64 0)] [(0,aF4),(1,aF4)] S fun aH2 S=>aH2=aH1∧S=S0)∧∃ aH3:AV,(shift d 4 S fun aH4 S=>aH4=aH3∧S=S0)∧∃ aH5:AV,(ld1 aH3 S fun aH6 S=>aH6=aH5∧S=S0)∧∃ aH7:AV,(callF Pg 68 [aF5,aG9,aH1,aH5] S (fun _ _=>False) fun aH8 S=>aH8=aH7∧S=S0)∧∃ aH9:AV,(extr aH7 0 S fun aI0 S=>aI0=aH9∧S=S0)∧∃ aI1:AV,(extr aH7 1 S fun aI2 S=>aI2=aI1∧S=S0)∧Q (.ret (.t [aH9,aI1])) S) S))) (∃ aI3:AV,(shift d 4 S fun aI4 S=>aI4=aI3∧S=S0)∧∃ aI5:AV,(ld1 aI3 S fun aI6 S=>aI6=aI5∧S=S0)∧∃ aI7:AV,(lenS aI5 S fun aI8 S=>aI8=aI7∧S=S0)∧∃ aI9:AV,(bin .neq 0 aI7 (.v (.int .i64 2)) S fun aJ0 S=>aJ0=aI9∧S=S0)∧∃ aJ1:AV,(aI9=aJ1∧S=S0)∧onB aJ1 fun b=>gd b (∃ aJ2:AV,((.v (.bool true))=aJ2∧S=S0)∧onB aJ2 fun b=>gd b (Q (.ret (.t [.v (.int .i64 0),.v (.bool false)])) S) (shift d 4 S fun aJ3 S=>ld1 aJ3 S fun aJ4 S=>ixS 37 5 aJ4 (.v (.int .i64 0)) S fun aJ5 S=>shift aJ5 1 S fun aJ6 S=>ld1 aJ6 S fun aJ7 S=>(fun S0:Store=>∃ aJ8:AV,(ldN 8 a S fun aJ9 S=>aJ9=aJ8∧S=S0)∧∃ aK0:AV,(shift c 3 S fun aK1 S=>aK1=aK0∧S=S0)∧∃ aK2:AV,(ld1 aK0 S fun aK3 S=>aK3=aK2∧S=S0)∧∃ aK4:AV,(ixS 32 4 aK2 (.v (.int .i64 0)) S fun aK5 S=>aK5=aK4∧S=S0)∧∃ aK6:AV,(ldN 4 aK4 S fun aK7 S=>aK7=aK6∧S=S0)∧∃ aK8:AV,(callF Pg 70 [] S (fun _ _=>False) fun aK9 S=>aK9=aK8∧S=S0)∧∃ aL0:AV,(callF Pg 23 [aK8] S (fun _ _=>False) fun aL1 S=>aL1=aL0∧S=S0)∧∃ aL2:AV,(bslN 32 4 2 [.v (.int .i64 0),.v (.string ByteArray.empty),.v (.int .i64 0),.nl] [(0,aK6),(1,aL0)] S fun aL3 S=>aL3=aL2∧S=S0)∧∃ aL4:AV,(bslN 3 1 2 [.v (.int .i64 0)] [(0,aJ7),(1,aJ7)] S fun aL5 S=>aL5=aL4∧S=S0)∧∃ aL6:AV,(shift d 4 S fun aL7 S=>aL7=aL6∧S=S0)∧∃ aL8:AV,(ld1 aL6 S fun aL9 S=>aL9=aL8∧S=S0)∧∃ aM0:AV,(callF Pg 68 [aJ8,aL2,aL4,aL8] S (fun _ _=>False) fun aM1 S=>aM1=aM0∧S=S0)∧∃ aM2:AV,(extr aM0 0 S fun aM3 S=>aM3=aM2∧S=S0)∧∃ aM4:AV,(extr aM0 1 S fun aM5 S=>aM5=aM4∧S=S0)∧Q (.ret (.t [aM2,aM4])) S) S)) (∃ aM6:AV,(ldN 8 a S fun aM7 S=>aM7=aM6∧S=S0)∧∃ aM8:AV,(shift d 1 S fun aM9 S=>aM9=aM8∧S=S0)∧∃ aN0:AV,(ld1 aM8 S fun aN1 S=>aN1=aN0∧S=S0)∧∃ aN2:AV,(shift d 4 S fun aN3 S=>aN3=aN2∧S=S0)∧∃ aN4:AV,(ld1 aN2 S fun aN5 S=>aN5=aN4∧S=S0)∧∃ aN6:AV,(ixS 37 5 aN4 (.v (.int .i64 0)) S fun aN7 S=>aN7=aN6∧S=S0)∧∃ aN8:AV,(shift aN6 1 S fun aN9 S=>aN9=aN8∧S=S0)∧∃ aO0:AV,(ld1 aN8 S fun aO1 S=>aO1=aO0∧S=S0)∧∃ aO2:AV,(callF Pg 69 [aM6,aN0,aO0] S (fun _ _=>False) fun aO3 S=>aO3=aO2∧S=S0)∧∃ aO4:AV,(un .not aO2 S fun aO5 S=>aO5=aO4∧S=S0)∧∃ aO6:AV,(aO4=aO6∧S=S0)∧onB aO6 fun b=>gd b (Q (.ret (.t [.v (.int .i64 0),.v (.bool false)])) S) (shift d 4 S fun aO7 S=>ld1 aO7 S fun aO8 S=>ixS 37 5 aO8 (.v (.int .i64 0)) S fun aO9 S=>shift aO9 1 S fun aP0 S=>ld1 aP0 S fun aP1 S=>(fun S0:Store=>∃ aP2:AV,(ldN 8 a S fun aP3 S=>aP3=aP2∧S=S0)∧∃ aP4:AV,(shift c 3 S fun aP5 S=>aP5=aP4∧S=S0)∧∃ aP6:AV,(ld1 aP4 S fun aP7 S=>aP7=aP6∧S=S0)∧∃ aP8:AV,(ixS 32 4 aP6 (.v (.int .i64 0)) S fun aP9 S=>aP9=aP8∧S=S0)∧∃ aQ0:AV,(ldN 4 aP8 S fun aQ1 S=>aQ1=aQ0∧S=S0)∧∃ aQ2:AV,(callF Pg 70 [] S (fun _ _=>False) fun aQ3 S=>aQ3=aQ2∧S=S0)∧∃ aQ4:AV,(callF Pg 23 [aQ2] S (fun _ _=>False) fun aQ5 S=>aQ5=aQ4∧S=S0)∧∃ aQ6:AV,(bslN 32 4 2 [.v (.int .i64 0),.v (.string ByteArray.empty),.v (.int .i64 0),.nl] [(0,aQ0),(1,aQ4)] S fun aQ7 S=>aQ7=aQ6∧S=S0)∧∃ aQ8:AV,(bslN 3 1 2 [.v (.int .i64 0)] [(0,aP1),(1,aP1)] S fun aQ9 S=>aQ9=aQ8∧S=S0)∧∃ aR0:AV,(shift d 4 S fun aR1 S=>aR1=aR0∧S=S0)∧∃ aR2:AV,(ld1 aR0 S fun aR3 S=>aR3=aR2∧S=S0)∧∃ aR4:AV,(callF Pg 68 [aP2,aQ6,aQ8,aR2] S (fun _ _=>False) fun aR5 S=>aR5=aR4∧S=S0)∧∃ aR6:AV,(extr aR4 0 S fun aR7 S=>aR7=aR6∧S=S0)∧∃ aR8:AV,(extr aR4 1 S fun aR9 S=>aR9=aR8∧S=S0)∧Q (.ret (.t [aR6,aR8])) S) S)))))) S) (bin .eql 0 o (.v (.int .i64 11)) S fun aS0 S=>onB aS0 fun b=>gd b ((fun S0:Store=>∃ aS1:AV,(ldN 8 a S fun aS2 S=>aS2=aS1∧S=S0)∧∃ aS3:AV,(callF Pg 70 [] S (fun _ _=>False) fun aS4 S=>aS4=aS3∧S=S0)∧∃ aS5:AV,(shift c 3 S fun aS6 S=>aS6=aS5∧S=S0)∧∃ aS7:AV,(ld1 aS5 S fun aS8 S=>aS8=aS7∧S=S0)∧∃ aS9:AV,(ixS 32 4 aS7 (.v (.int .i64 0)) S fun aT0 S=>aT0=aS9∧S=S0)∧∃ aT1:AV,(ldN 4 aS9 S fun aT2 S=>aT2=aT1∧S=S0)∧∃ aT3:AV,(callF Pg 24 [aS3,aT1] S (fun _ _=>False) fun aT4 S=>aT4=aT3∧S=S0)∧∃ aT5:AV,(ldN 5 d S fun aT6 S=>aT6=aT5∧S=S0)∧∃ aT7:AV,(callF Pg 71 [aS1,aT3,aT5] S (fun _ _=>False) fun aT8 S=>aT8=aT7∧S=S0)∧∃ aT9:AV,(extr aT7 0 S fun aU0 S=>aU0=aT9∧S=S0)∧∃ aU1:AV,(extr aT7 1 S fun aU2 S=>aU2=aU1∧S=S0)∧Q (.ret (.t [aT9,aU1])) S) S) (bin .eql 0 o (.v (.int .i64 15)) S fun aU3 S=>onB aU3 fun b=>gd b (ldN 8 a S fun aU4 S=>ldN 4 c S fun aU5 S=>ldN 5 d S fun aU6 S=>callF Pg 71 [aU4,aU5,aU6] S Q fun aU7 S=>extr aU7 0 S fun aU8 S=>extr aU7 1 S fun aU9 S=>Q (.ret (.t [aU8,aU9])) S) (bin .eql 0 o (.v (.int .i64 13)) S fun aV0 S=>onB aV0 fun b=>gd b (ldN 8 a S fun aV1 S=>ldN 4 c S fun aV2 S=>ldN 5 d S fun aV3 S=>callF Pg 72 [aV1,aV2,aV3] S Q fun aV4 S=>extr aV4 0 S fun aV5 S=>extr aV4 1 S fun aV6 S=>Q (.ret (.t [aV5,aV6])) S) (bin .eql 0 o (.v (.int .i64 17)) S fun aV7 S=>onB aV7 fun b=>gd b (shift d 0 S fun aV8 S=>ld1 aV8 S fun aV9 S=>bin .neq 0 aV9 (.v (.int .i64 3)) S fun aW0 S=>onB aW0 fun b=>gd b (Q (.ret (.t [.v (.int .i64 0),.v (.bool false)])) S) (shift d 2 S fun aW1 S=>ld1 aW1 S fun aW2 S=>bin .lss 0 aW2 (.v (.int .i64 0)) S fun aW3 S=>onB aW3 fun b=>gd b (Q (.ret (.t [.v (.int .i64 0),.v (.bool false)])) S) (shift d 2 S fun aW4 S=>ld1 aW4 S fun aW5 S=>bin .gtr 0 aW5 (.v (.int .i64 1)) S fun aW6 S=>onB aW6 fun b=>gd b (Q (.ret (.t [.v (.int .i64 0),.v (.bool false)])) S) (shift d 3 S fun aW7 S=>ld1 aW7 S fun aW8 S=>lenS aW8 S fun aW9 S=>bin .gtr 0 aW9 (.v (.int .i64 0)) S fun aX0 S=>onB aX0 fun b=>gd b (Q (.ret (.t [.v (.int .i64 0),.v (.bool false)])) S) ((fun S0:Store=>∃ aX1:AV,(shift c 3 S fun aX2 S=>aX2=aX1∧S=S0)∧∃ aX3:AV,(ld1 aX1 S fun aX4 S=>aX4=aX3∧S=S0)∧∃ aX5:AV,(ixS 32 4 aX3 (.v (.int .i64 1)) S fun aX6 S=>aX6=aX5∧S=S0)∧∃ aX7:AV,(ldN 4 aX5 S fun aX8 S=>aX8=aX7∧S=S0)∧∃ aX9:AV,(callF Pg 23 [aX7] S (fun _ _=>False) fun aY0 S=>aY0=aX9∧S=S0)∧∃ aY1:AV,(shift c 3 S fun aY2 S=>aY2=aY1∧S=S0)∧∃ aY3:AV,(ld1 aY1 S fun aY4 S=>aY4=aY3∧S=S0)∧∃ aY5:AV,(ixS 32 4 aY3 (.v (.int .i64 1)) S fun aY6 S=>aY6=aY5∧S=S0)∧∃ aY7:AV,(ldN 4 aY5 S fun aY8 S=>aY8=aY7∧S=S0)∧∃ aY9:AV,(shift c 3 S fun aZ0 S=>aZ0=aY9∧S=S0)∧∃ aZ1:AV,(ld1 aY9 S fun aZ2 S=>aZ2=aZ1∧S=S0)∧∃ aZ3:AV,(ixS 32 4 aZ1 (.v (.int .i64 0)) S fun aZ4 S=>aZ4=aZ3∧S=S0)∧∃ aZ5:AV,(ldN 4 aZ3 S fun aZ6 S=>aZ6=aZ5∧S=S0)∧∃ aZ7:AV,(shift c 3 S fun aZ8 S=>aZ8=aZ7∧S=S0)∧∃ aZ9:AV,(ld1 aZ7 S fun bA0 S=>bA0=aZ9∧S=S0)∧∃ bA1:AV,(ixS 32 4 aZ9 (.v (.int .i64 1)) S fun bA2 S=>bA2=bA1∧S=S0)∧∃ bA3:AV,(ldN 4 bA1 S fun bA4 S=>bA4=bA3∧S=S0)∧∃ bA5:AV,(callF Pg 41 [.v (.int .i64 5),aZ5,bA3] S (fun _ _=>False) fun bA6 S=>bA6=bA5∧S=S0)∧∃ bA7:AV,(callF Pg 24 [aY7,bA5] S (fun _ _=>False) fun bA8 S=>bA8=bA7∧S=S0)∧∃ bA9:AV,(bslN 32 4 2 [.v (.int .i64 0),.v (.string ByteArray.empty),.v (.int .i64 0),.nl] [(0,aX9),(1,bA7)] S fun bB0 S=>bB0=bA9∧S=S0)∧(fun S0:Store=>∃ bB1:AV,(ldN 8 a S fun bB2 S=>bB2=bB1∧S=S0)∧∃ bB3:AV,(shift d 2 S fun bB4 S=>bB4=bB3∧S=S0)∧∃ bB5:AV,(ld1 bB3 S fun bB6 S=>bB6=bB5∧S=S0)∧∃ bB7:AV,(shift d 2 S fun bB8 S=>bB8=bB7∧S=S0)∧∃ bB9:AV,(ld1 bB7 S fun bC0 S=>bC0=bB9∧S=S0)∧∃ bC1:AV,(bin .add 0 bB9 (.v (.int .i64 1)) S fun bC2 S=>bC2=bC1∧S=S0)∧∃ bC3:AV,(slc 32 4 bA9 (some bB5) (some bC1) none S fun bC4 S=>bC4=bC3∧S=S0)∧∃ bC5:AV,(shift d 4 S fun bC6 S=>bC6=bC5∧S=S0)∧∃ bC7:AV,(ld1 bC5 S fun bC8 S=>bC8=bC7∧S=S0)∧∃ bC9:AV,(callF Pg 68 [bB1,bC3,m,bC7] S (fun _ _=>False) fun bD0 S=>bD0=bC9∧S=S0)∧∃ bD1:AV,(extr bC9 0 S fun bD2 S=>bD2=bD1∧S=S0)∧∃ bD3:AV,(extr bC9 1 S fun bD4 S=>bD4=bD3∧S=S0)∧Q (.ret (.t [bD1,bD3])) S) S) S))))) (bin .eql 0 o (.v (.int .i64 1)) S fun bD5 S=>onB bD5 fun b=>gd b (Q (.ret (.t [.v (.int .i64 0),.v (.bool false)])) S) (shift d 0 S fun bD6 S=>ld1 bD6 S fun bD7 S=>bin .eql 0 bD7 (.v (.int .i64 7)) S fun bD8 S=>onB bD8 fun b=>gd b (ldN 5 d S fun bD9 S=>callF Pg 66 [bD9] S Q fun bE0 S=>Q (.ret (.t [.v (.int .i64 1),bE0])) S) (Q (.ret (.t [.v (.int .i64 1),.v (.bool false)])) S)))))))))))))
theorem calls34{x0 x1 x2:AV}{S:Store}{Q:PoT}(h:m34 x0 x1 x2 S Q):ACalls Pg 34 [x0,x1,x2] S Q:=
 calls_of_vc (fn:=Tryz.f34) (c:=c34) (n:=281) Tryz.func34 (by kernel_rfl) (by kernel_rfl) (by kernel_rfl) ms34 (Eq.mpr (by kernel_rfl) h)
def c72:Code:=(Tryz.f72.body).getD .skip
def r72:List ResultVar:=Tryz.f72.results.toList
def env72_0(y3 y4 y5 y8 y9 y10:AV):List AV:=[y3,y4,y5,y8,y9,y10]
def lv72_0:List Nat:=[3,4,5,8,9,10]
def env72_1(y3 y5 y8 y9 y11:AV):List AV:=[y3,y5,y8,y9,y11]
def lv72_1:List Nat:=[3,5,8,9,11]
def env72_2(y3 y5 y8 y9 y11 y12 y13:AV):List AV:=[y3,y5,y8,y9,y11,y12,y13]
def lv72_2:List Nat:=[3,5,8,9,11,12,13]
def ms72:List (List Nat):=[lv72_0,lv72_1,lv72_2,[]]
def m72(x0 x1 x2:AV)(S:Store)(Q:PoT):Prop:=
 boxN 29 8 x0 S fun a S=>boxN 32 4 x1 S fun c S=>boxN 37 5 x2 S fun d S=>shift d 3 S fun e S=>ld1 e S fun f S=>lenS f S fun g S=>(fun S0:Store=>∃ h:AV,(bin .lss 0 g (.v (.int .i64 1)) S0 fun i S=>i=h∧S=S0)∧∃ t9:Bool,wantT h false=some t9∧∃ k:AV,gd t9 (shift d 3 S0 fun l S=>l=k∧S=S0) (k = .v undef)∧∃ t12:Bool,wantT h false=some t12∧∃ m:AV,gd t12 (ld1 k S0 fun n S=>n=m∧S=S0) (m = .v undef)∧∃ t15:Bool,wantT h false=some t15∧∃ o:AV,gd t15 (ixS 3 1 m (.v (.int .i64 0)) S0 fun p S=>p=o∧S=S0) (o = .v undef)∧∃ t18:Bool,wantT h false=some t18∧∃ q:AV,gd t18 (ld1 o S0 fun r S=>r=q∧S=S0) (q = .v undef)∧∃ t21:Bool,wantT h false=some t21∧∃ s:AV,gd t21 (shift d 1 S0 fun u S=>u=s∧S=S0) (s = .v undef)∧∃ t24:Bool,wantT h false=some t24∧∃ w:AV,gd t24 (ld1 s S0 fun x S=>x=w∧S=S0) (w = .v undef)∧∃ t27:Bool,wantT h false=some t27∧∃ y:AV,gd t27 (bin .neq 0 q w S0 fun z S=>z=y∧S=S0) (y = .v undef)∧∃ A:AV,(pick h (.v (.bool true)) y S0 fun B S=>B=A∧S=S0)∧∃ t32:Bool,wantT A false=some t32∧∃ C:AV,gd t32 (shift d 2 S0 fun D S=>D=C∧S=S0) (C = .v undef)∧∃ t35:Bool,wantT A false=some t35∧∃ E:AV,gd t35 (ld1 C S0 fun F S=>F=E∧S=S0) (E = .v undef)∧∃ t38:Bool,wantT A false=some t38∧∃ G:AV,gd t38 (bin .lss 0 E (.v (.int .i64 0)) S0 fun H S=>H=G∧S=S0) (G = .v undef)∧∃ I:AV,(pick A (.v (.bool true)) G S0 fun J S=>J=I∧S=S0)∧∃ t43:Bool,wantT I false=some t43∧∃ K:AV,gd t43 (shift d 2 S0 fun L S=>L=K∧S=S0) (K = .v undef)∧∃ t46:Bool,wantT I false=some t46∧∃ M:AV,gd t46 (ld1 K S0 fun N S=>N=M∧S=S0) (M = .v undef)∧∃ t49:Bool,wantT I false=some t49∧∃ O:AV,gd t49 (O=g) (O = .v undef)∧∃ t51:Bool,wantT I false=some t51∧∃ P:AV,gd t51 (bin .geq 0 M O S0 fun R S=>R=P∧S=S0) (P = .v undef)∧∃ T:AV,(pick I (.v (.bool true)) P S0 fun U S=>U=T∧S=S0)∧∃ t56:Bool,wantT T false=some t56∧∃ V:AV,gd t56 (shift d 0 S0 fun W S=>W=V∧S=S0) (V = .v undef)∧∃ t59:Bool,wantT T false=some t59∧∃ X:AV,gd t59 (ld1 V S0 fun Y S=>Y=X∧S=S0) (X = .v undef)∧∃ t62:Bool,wantT T false=some t62∧∃ Z:AV,gd t62 (bin .neq 0 X (.v (.int .i64 6)) S0 fun a0 S=>a0=Z∧S=S0) (Z = .v undef)∧∃ a1:AV,(pick T (.v (.bool true)) Z S0 fun a2 S=>a2=a1∧S=S0)∧∃ t67:Bool,wantT a1 false=some t67∧∃ a3:AV,gd t67 (ldN 8 a S0 fun a4 S=>a4=a3∧S=S0) (a3 = .v undef)∧∃ t70:Bool,wantT a1 false=some t70∧∃ a5:AV,gd t70 (shift d 3 S0 fun a6 S=>a6=a5∧S=S0) (a5 = .v undef)∧∃ t73:Bool,wantT a1 false=some t73∧∃ a7:AV,gd t73 (ld1 a5 S0 fun a8 S=>a8=a7∧S=S0) (a7 = .v undef)∧∃ t76:Bool,wantT a1 false=some t76∧∃ a9:AV,gd t76 (a9=g) (a9 = .v undef)∧∃ t78:Bool,wantT a1 false=some t78∧∃ b0:AV,gd t78 (bin .sub 0 a9 (.v (.int .i64 1)) S0 fun b1 S=>b1=b0∧S=S0) (b0 = .v undef)∧∃ t81:Bool,wantT a1 false=some t81∧∃ b2:AV,gd t81 (ixS 3 1 a7 b0 S0 fun b3 S=>b3=b2∧S=S0) (b2 = .v undef)∧∃ t84:Bool,wantT a1 false=some t84∧∃ b4:AV,gd t84 (ld1 b2 S0 fun b5 S=>b5=b4∧S=S0) (b4 = .v undef)∧∃ t87:Bool,wantT a1 false=some t87∧∃ b6:AV,gd t87 (shift d 3 S0 fun b7 S=>b7=b6∧S=S0) (b6 = .v undef)∧∃ t90:Bool,wantT a1 false=some t90∧∃ b8:AV,gd t90 (ld1 b6 S0 fun b9 S=>b9=b8∧S=S0) (b8 = .v undef)∧∃ t93:Bool,wantT a1 false=some t93∧∃ c0:AV,gd t93 (shift d 2 S0 fun c1 S=>c1=c0∧S=S0) (c0 = .v undef)∧∃ t96:Bool,wantT a1 false=some t96∧∃ c2:AV,gd t96 (ld1 c0 S0 fun c3 S=>c3=c2∧S=S0) (c2 = .v undef)∧∃ t99:Bool,wantT a1 false=some t99∧∃ c4:AV,gd t99 (ixS 3 1 b8 c2 S0 fun c5 S=>c5=c4∧S=S0) (c4 = .v undef)∧∃ t102:Bool,wantT a1 false=some t102∧∃ c6:AV,gd t102 (ld1 c4 S0 fun c7 S=>c7=c6∧S=S0) (c6 = .v undef)∧∃ t105:Bool,wantT a1 false=some t105∧∃ c8:AV,gd t105 (callF Pg 69 [a3,b4,c6] S0 (fun _ _=>False) fun c9 S=>c9=c8∧S=S0) (c8 = .v undef)∧∃ t108:Bool,wantT a1 false=some t108∧∃ d0:AV,gd t108 (un .not c8 S0 fun d1 S=>d1=d0∧S=S0) (d0 = .v undef)∧∃ d2:AV,(pick a1 (.v (.bool true)) d0 S0 fun d3 S=>d3=d2∧S=S0)∧(fun S:Store=>onB d2 fun b=>gd b (Q (.ret (.t [.v (.int .i64 0),.v (.bool false)])) S) (loopV lv72_0 (vc Pg (c72.at_ [1,1,1,1,0,1,0,0]) (ms72.drop 1)) 131 (env72_0 a c d g .nl (.v (.int .i64 0))) S (blockK 0 (seqK (vc Pg (c72.at_ [1,1,1,1,1]) (ms72.drop 1)) (bodyK Pg r72 Q))))) S0) S
theorem calls72{x0 x1 x2:AV}{S:Store}{Q:PoT}(h:m72 x0 x1 x2 S Q):ACalls Pg 72 [x0,x1,x2] S Q:=
 calls_of_vc (fn:=Tryz.f72) (c:=c72) (n:=131) Tryz.func72 (by kernel_rfl) (by kernel_rfl) (by kernel_rfl) ms72 (Eq.mpr (by kernel_rfl) h)
def b72_0(y3 y4 y5 y8 y9 y10:AV)(S:Store)(KE0:KeT)(Q:PoT):Prop:=
 bin .lss 0 y10 y8 S fun a S=>onB a fun b=>gd b ((fun S0:Store=>∃ c:AV,(bin .gtr 0 y10 (.v (.int .i64 0)) S fun d S=>d=c∧S=S0)∧onB c fun b=>gd b (∃ e:AV,(ldN 8 y3 S fun f S=>f=e∧S=S0)∧∃ g:AV,(shift y5 3 S fun h S=>h=g∧S=S0)∧∃ i:AV,(ld1 g S fun k S=>k=i∧S=S0)∧∃ l:AV,(bin .sub 0 y10 (.v (.int .i64 1)) S fun m S=>m=l∧S=S0)∧∃ n:AV,(ixS 3 1 i l S fun o S=>o=n∧S=S0)∧∃ p:AV,(ld1 n S fun q S=>q=p∧S=S0)∧∃ r:AV,(shift y5 3 S fun s S=>s=r∧S=S0)∧∃ u:AV,(ld1 r S fun w S=>w=u∧S=S0)∧∃ x:AV,(ixS 3 1 u y10 S fun y S=>y=x∧S=S0)∧∃ z:AV,(ld1 x S fun A S=>A=z∧S=S0)∧∃ B:AV,(callF Pg 69 [e,p,z] S (fun _ _=>False) fun C S=>C=B∧S=S0)∧∃ D:AV,(un .not B S fun E S=>E=D∧S=S0)∧∃ F:AV,(D=F∧S=S0)∧onB F fun b=>gd b (Q (.ret (.t [.v (.int .i64 0),.v (.bool false)])) S) (shift y4 3 S fun G S=>ld1 G S fun H S=>ixS 32 4 H (.v (.int .i64 0)) S fun I S=>ldN 4 I S fun J S=>bslN 32 4 1 [.v (.int .i64 0),.v (.string ByteArray.empty),.v (.int .i64 0),.nl] [(0,J)] S fun K S=>appS 32 4 56 y9 K S fun L S=>bin .add 0 y10 (.v (.int .i64 1)) S fun M S=>KE0 131 (env72_0 y3 y4 y5 y8 L M) S)) (∃ N:AV,((.v (.bool false))=N∧S=S0)∧onB N fun b=>gd b (Q (.ret (.t [.v (.int .i64 0),.v (.bool false)])) S) (shift y4 3 S fun O S=>ld1 O S fun P S=>ixS 32 4 P (.v (.int .i64 0)) S fun R S=>ldN 4 R S fun T S=>bslN 32 4 1 [.v (.int .i64 0),.v (.string ByteArray.empty),.v (.int .i64 0),.nl] [(0,T)] S fun U S=>appS 32 4 56 y9 U S fun V S=>bin .add 0 y10 (.v (.int .i64 1)) S fun W S=>KE0 131 (env72_0 y3 y4 y5 y8 V W) S))) S) (loopV lv72_1 (vc Pg (c72.at_ [1,1,1,1,1,0,1,0,0]) (ms72.drop 2)) 131 (env72_1 y3 y5 y8 y9 (.v (.int .i64 0))) S (blockK 2 (seqK (vc Pg (c72.at_ [1,1,1,1,1,1]) (ms72.drop 3)) (bodyK Pg r72 Q))))
theorem b72_0_eq(y3 y4 y5 y8 y9 y10:AV)(S:Store)(KE0:KeT)(Q:PoT):vc Pg (c72.at_ [1,1,1,1,0,1,0,0]) (ms72.drop 1) (mkE 131 lv72_0 (env72_0 y3 y4 y5 y8 y9 y10)) S (thenK (fgK lv72_0 KE0) (blockK 0 (seqK (vc Pg (c72.at_ [1,1,1,1,1]) (ms72.drop 1)) (bodyK Pg r72 Q))))=b72_0 y3 y4 y5 y8 y9 y10 S KE0 Q:=by kernel_rfl
theorem loop72_0{y3 y4 y5 y8:AV}{y90 y100:AV}{S:Store}{Q:PoT}(I:AV→AV→Store→Prop)(μ:AV→AV→Store→Nat)(h0:I y90 y100 S)
    (hr:∀(y9 y10:AV) (S:Store),I y9 y10 S→∀ KE0:KeT,(∀(y9' y10':AV) (S':Store),I y9' y10' S'→μ y9' y10' S'<μ y9 y10 S→KE0 131 (env72_0 y3 y4 y5 y8 y9' y10') S')→b72_0 y3 y4 y5 y8 y9 y10 S KE0 Q):
    loopV lv72_0 (vc Pg (c72.at_ [1,1,1,1,0,1,0,0]) (ms72.drop 1)) 131 (env72_0 y3 y4 y5 y8 y90 y100) S (blockK 0 (seqK (vc Pg (c72.at_ [1,1,1,1,1]) (ms72.drop 1)) (bodyK Pg r72 Q))):=by
 refine⟨fun n e S=>n=131∧∃ y9 y10:AV,e=(env72_0 y3 y4 y5 y8 y9 y10)∧I y9 y10 S,fun _ e S=>μ (e.getD 4 .j) (e.getD 5 .j) S,?_,?_⟩
 ·exact⟨_,_,Wk.refl _ _,rfl,_,_,rfl,h0⟩
 ·rintro _ e S ⟨rfl,y9,y10,rfl,hI⟩
  exact(b72_0_eq _ _ _ _ _ _ _ _ _).mpr (hr y9 y10 S hI _ (fun y9' y10' S' hI' hm=>⟨_,_,Wk.refl _ _,⟨rfl,_,_,rfl,hI'⟩,hm⟩))
def b72_1(y3 y5 y8 y9 y11:AV)(S:Store)(KE1:KeT)(Q:PoT):Prop:=
 shift y3 6 S fun a S=>ld1 a S fun c S=>lenS c S fun d S=>bin .lss 0 y11 d S fun e S=>onB e fun b=>gd b (shift y5 2 S fun f S=>ld1 f S fun g S=>loopV lv72_2 (vc Pg (c72.at_ [1,1,1,1,1,0,1,0,0,1,0,0,1,0,1,0,0]) (ms72.drop 3)) 131 (env72_2 y3 y5 y8 y9 y11 (.v (.bool false)) g) S (blockK 4 (seqK (vc Pg (c72.at_ [1,1,1,1,1,0,1,0,0,1,0,0,1,1]) (ms72.drop 3)) (blockK 3 (seqK (vc Pg (c72.at_ [1,1,1,1,1,0,1,0,0,1,1]) (ms72.drop 3)) (thenK (fgK lv72_1 KE1) (blockK 2 (seqK (vc Pg (c72.at_ [1,1,1,1,1,1]) (ms72.drop 3)) (bodyK Pg r72 Q))))))))) (ldN 8 y3 S fun h S=>shift y5 3 S fun i S=>ld1 i S fun k S=>shift y5 4 S fun l S=>ld1 l S fun m S=>callF Pg 68 [h,y9,k,m] S Q fun n S=>extr n 0 S fun o S=>extr n 1 S fun p S=>Q (.ret (.t [o,p])) S)
theorem b72_1_eq(y3 y5 y8 y9 y11:AV)(S:Store)(KE1:KeT)(Q:PoT):vc Pg (c72.at_ [1,1,1,1,1,0,1,0,0]) (ms72.drop 2) (mkE 131 lv72_1 (env72_1 y3 y5 y8 y9 y11)) S (thenK (fgK lv72_1 KE1) (blockK 2 (seqK (vc Pg (c72.at_ [1,1,1,1,1,1]) (ms72.drop 3)) (bodyK Pg r72 Q))))=b72_1 y3 y5 y8 y9 y11 S KE1 Q:=by kernel_rfl
theorem loop72_1{y3 y5 y8 y9:AV}{y110:AV}{S:Store}{Q:PoT}(I:AV→Store→Prop)(μ:AV→Store→Nat)(h0:I y110 S)
    (hr:∀(y11:AV) (S:Store),I y11 S→∀ KE1:KeT,(∀(y11':AV) (S':Store),I y11' S'→μ y11' S'<μ y11 S→KE1 131 (env72_1 y3 y5 y8 y9 y11') S')→b72_1 y3 y5 y8 y9 y11 S KE1 Q):
    loopV lv72_1 (vc Pg (c72.at_ [1,1,1,1,1,0,1,0,0]) (ms72.drop 2)) 131 (env72_1 y3 y5 y8 y9 y110) S (blockK 2 (seqK (vc Pg (c72.at_ [1,1,1,1,1,1]) (ms72.drop 3)) (bodyK Pg r72 Q))):=by
 refine⟨fun n e S=>n=131∧∃ y11:AV,e=(env72_1 y3 y5 y8 y9 y11)∧I y11 S,fun _ e S=>μ (e.getD 4 .j) S,?_,?_⟩
 ·exact⟨_,_,Wk.refl _ _,rfl,_,rfl,h0⟩
 ·rintro _ e S ⟨rfl,y11,rfl,hI⟩
  exact(b72_1_eq _ _ _ _ _ _ _ _).mpr (hr y11 S hI _ (fun y11' S' hI' hm=>⟨_,_,Wk.refl _ _,⟨rfl,_,rfl,hI'⟩,hm⟩))
def b72_2(y3 y5 y8 y9 y11 y12 y13:AV)(S:Store)(KE2:KeT)(KE1:KeT)(Q:PoT):Prop:=
 bin .lss 0 y13 y8 S fun a S=>onB a fun b=>gd b ((fun S0:Store=>onB y12 fun b=>gd b (∃ c:AV,((.v (.bool true))=c∧S=S0)∧bin .add 0 y13 (.v (.int .i64 1)) S fun d S=>KE2 131 (env72_2 y3 y5 y8 y9 y11 c d) S) (∃ e:AV,(ldN 8 y3 S fun f S=>f=e∧S=S0)∧∃ g:AV,(shift y5 3 S fun h S=>h=g∧S=S0)∧∃ i:AV,(ld1 g S fun k S=>k=i∧S=S0)∧∃ l:AV,(ixS 3 1 i y13 S fun m S=>m=l∧S=S0)∧∃ n:AV,(ld1 l S fun o S=>o=n∧S=S0)∧∃ p:AV,(shift y3 6 S fun q S=>q=p∧S=S0)∧∃ r:AV,(ld1 p S fun s S=>s=r∧S=S0)∧∃ u:AV,(ixS 3 1 r y11 S fun w S=>w=u∧S=S0)∧∃ x:AV,(ld1 u S fun y S=>y=x∧S=S0)∧∃ z:AV,(callF Pg 67 [e,n,x] S (fun _ _=>False) fun A S=>A=z∧S=S0)∧∃ B:AV,(z=B∧S=S0)∧bin .add 0 y13 (.v (.int .i64 1)) S fun C S=>KE2 131 (env72_2 y3 y5 y8 y9 y11 B C) S)) S) (un .not y12 S fun D S=>onB D fun b=>gd b (Q (.ret (.t [.v (.int .i64 0),.v (.bool false)])) S) (bin .add 0 y11 (.v (.int .i64 1)) S fun E S=>KE1 131 (env72_1 y3 y5 y8 y9 E) S))
theorem b72_2_eq(y3 y5 y8 y9 y11 y12 y13:AV)(S:Store)(KE2:KeT)(KE1:KeT)(Q:PoT):vc Pg (c72.at_ [1,1,1,1,1,0,1,0,0,1,0,0,1,0,1,0,0]) (ms72.drop 3) (mkE 131 lv72_2 (env72_2 y3 y5 y8 y9 y11 y12 y13)) S (thenK (fgK lv72_2 KE2) (blockK 4 (seqK (vc Pg (c72.at_ [1,1,1,1,1,0,1,0,0,1,0,0,1,1]) (ms72.drop 3)) (blockK 3 (seqK (vc Pg (c72.at_ [1,1,1,1,1,0,1,0,0,1,1]) (ms72.drop 3)) (thenK (fgK lv72_1 KE1) (blockK 2 (seqK (vc Pg (c72.at_ [1,1,1,1,1,1]) (ms72.drop 3)) (bodyK Pg r72 Q)))))))))=b72_2 y3 y5 y8 y9 y11 y12 y13 S KE2 KE1 Q:=by kernel_rfl
theorem loop72_2{y3 y5 y8 y9 y11:AV}{y120 y130:AV}{S:Store}{KE1:KeT}{Q:PoT}(I:AV→AV→Store→Prop)(μ:AV→AV→Store→Nat)(h0:I y120 y130 S)
    (hr:∀(y12 y13:AV) (S:Store),I y12 y13 S→∀ KE2:KeT,(∀(y12' y13':AV) (S':Store),I y12' y13' S'→μ y12' y13' S'<μ y12 y13 S→KE2 131 (env72_2 y3 y5 y8 y9 y11 y12' y13') S')→b72_2 y3 y5 y8 y9 y11 y12 y13 S KE2 KE1 Q):
    loopV lv72_2 (vc Pg (c72.at_ [1,1,1,1,1,0,1,0,0,1,0,0,1,0,1,0,0]) (ms72.drop 3)) 131 (env72_2 y3 y5 y8 y9 y11 y120 y130) S (blockK 4 (seqK (vc Pg (c72.at_ [1,1,1,1,1,0,1,0,0,1,0,0,1,1]) (ms72.drop 3)) (blockK 3 (seqK (vc Pg (c72.at_ [1,1,1,1,1,0,1,0,0,1,1]) (ms72.drop 3)) (thenK (fgK lv72_1 KE1) (blockK 2 (seqK (vc Pg (c72.at_ [1,1,1,1,1,1]) (ms72.drop 3)) (bodyK Pg r72 Q)))))))):=by
 refine⟨fun n e S=>n=131∧∃ y12 y13:AV,e=(env72_2 y3 y5 y8 y9 y11 y12 y13)∧I y12 y13 S,fun _ e S=>μ (e.getD 5 .j) (e.getD 6 .j) S,?_,?_⟩
 ·exact⟨_,_,Wk.refl _ _,rfl,_,_,rfl,h0⟩
 ·rintro _ e S ⟨rfl,y12,y13,rfl,hI⟩
  exact(b72_2_eq _ _ _ _ _ _ _ _ _ _ _).mpr (hr y12 y13 S hI _ (fun y12' y13' S' hI' hm=>⟨_,_,Wk.refl _ _,⟨rfl,_,_,rfl,hI'⟩,hm⟩))
def c71:Code:=(Tryz.f71.body).getD .skip
def r71:List ResultVar:=Tryz.f71.results.toList
def env71_0(y3 y4 y5 y8 y9 y10:AV):List AV:=[y3,y4,y5,y8,y9,y10]
def lv71_0:List Nat:=[3,4,5,8,9,10]
def ms71:List (List Nat):=[lv71_0,[]]
def m71(x0 x1 x2:AV)(S:Store)(Q:PoT):Prop:=
 boxN 29 8 x0 S fun a S=>boxN 32 4 x1 S fun c S=>boxN 37 5 x2 S fun d S=>shift d 3 S fun e S=>ld1 e S fun f S=>lenS f S fun g S=>(fun S0:Store=>∃ h:AV,(bin .lss 0 g (.v (.int .i64 1)) S fun i S=>i=h∧S=S0)∧onB h fun b=>gd b (∃ k:AV,((.v (.bool true))=k∧S=S0)∧onB k fun b=>gd b (∃ l:AV,((.v (.bool true))=l∧S=S0)∧onB l fun b=>gd b (∃ m:AV,((.v (.bool true))=m∧S=S0)∧onB m fun b=>gd b (Q (.ret (.t [.v (.int .i64 0),.v (.bool false)])) S) (loopV lv71_0 (vc Pg (c71.at_ [1,1,1,1,0,1,0,0]) (ms71.drop 1)) 91 (env71_0 a c d g .nl (.v (.int .i64 0))) S (blockK 0 (seqK (vc Pg (c71.at_ [1,1,1,1,1]) (ms71.drop 1)) (bodyK Pg r71 Q))))) (∃ n:AV,(shift d 0 S fun o S=>o=n∧S=S0)∧∃ p:AV,(ld1 n S fun q S=>q=p∧S=S0)∧∃ r:AV,(bin .neq 0 p (.v (.int .i64 5)) S fun s S=>s=r∧S=S0)∧∃ u:AV,(r=u∧S=S0)∧onB u fun b=>gd b (Q (.ret (.t [.v (.int .i64 0),.v (.bool false)])) S) (loopV lv71_0 (vc Pg (c71.at_ [1,1,1,1,0,1,0,0]) (ms71.drop 1)) 91 (env71_0 a c d g .nl (.v (.int .i64 0))) S (blockK 0 (seqK (vc Pg (c71.at_ [1,1,1,1,1]) (ms71.drop 1)) (bodyK Pg r71 Q)))))) (∃ w:AV,(shift d 2 S fun x S=>x=w∧S=S0)∧∃ y:AV,(ld1 w S fun z S=>z=y∧S=S0)∧∃ A:AV,(bin .neq 0 y (.v (.int .i64 0)) S fun B S=>B=A∧S=S0)∧∃ C:AV,(A=C∧S=S0)∧onB C fun b=>gd b (∃ D:AV,((.v (.bool true))=D∧S=S0)∧onB D fun b=>gd b (Q (.ret (.t [.v (.int .i64 0),.v (.bool false)])) S) (loopV lv71_0 (vc Pg (c71.at_ [1,1,1,1,0,1,0,0]) (ms71.drop 1)) 91 (env71_0 a c d g .nl (.v (.int .i64 0))) S (blockK 0 (seqK (vc Pg (c71.at_ [1,1,1,1,1]) (ms71.drop 1)) (bodyK Pg r71 Q))))) (∃ E:AV,(shift d 0 S fun F S=>F=E∧S=S0)∧∃ G:AV,(ld1 E S fun H S=>H=G∧S=S0)∧∃ I:AV,(bin .neq 0 G (.v (.int .i64 5)) S fun J S=>J=I∧S=S0)∧∃ K:AV,(I=K∧S=S0)∧onB K fun b=>gd b (Q (.ret (.t [.v (.int .i64 0),.v (.bool false)])) S) (loopV lv71_0 (vc Pg (c71.at_ [1,1,1,1,0,1,0,0]) (ms71.drop 1)) 91 (env71_0 a c d g .nl (.v (.int .i64 0))) S (blockK 0 (seqK (vc Pg (c71.at_ [1,1,1,1,1]) (ms71.drop 1)) (bodyK Pg r71 Q))))))) (∃ L:AV,(shift d 3 S fun M S=>M=L∧S=S0)∧∃ N:AV,(ld1 L S fun O S=>O=N∧S=S0)∧∃ P:AV,(ixS 3 1 N (.v (.int .i64 0)) S fun R S=>R=P∧S=S0)∧∃ T:AV,(ld1 P S fun U S=>U=T∧S=S0)∧∃ V:AV,(shift d 1 S fun W S=>W=V∧S=S0)∧∃ X:AV,(ld1 V S fun Y S=>Y=X∧S=S0)∧∃ Z:AV,(bin .neq 0 T X S fun a0 S=>a0=Z∧S=S0)∧∃ a1:AV,(Z=a1∧S=S0)∧onB a1 fun b=>gd b (∃ a2:AV,((.v (.bool true))=a2∧S=S0)∧onB a2 fun b=>gd b (∃ a3:AV,((.v (.bool true))=a3∧S=S0)∧onB a3 fun b=>gd b (Q (.ret (.t [.v (.int .i64 0),.v (.bool false)])) S) (loopV lv71_0 (vc Pg (c71.at_ [1,1,1,1,0,1,0,0]) (ms71.drop 1)) 91 (env71_0 a c d g .nl (.v (.int .i64 0))) S (blockK 0 (seqK (vc Pg (c71.at_ [1,1,1,1,1]) (ms71.drop 1)) (bodyK Pg r71 Q))))) (∃ a4:AV,(shift d 0 S fun a5 S=>a5=a4∧S=S0)∧∃ a6:AV,(ld1 a4 S fun a7 S=>a7=a6∧S=S0)∧∃ a8:AV,(bin .neq 0 a6 (.v (.int .i64 5)) S fun a9 S=>a9=a8∧S=S0)∧∃ b0:AV,(a8=b0∧S=S0)∧onB b0 fun b=>gd b (Q (.ret (.t [.v (.int .i64 0),.v (.bool false)])) S) (loopV lv71_0 (vc Pg (c71.at_ [1,1,1,1,0,1,0,0]) (ms71.drop 1)) 91 (env71_0 a c d g .nl (.v (.int .i64 0))) S (blockK 0 (seqK (vc Pg (c71.at_ [1,1,1,1,1]) (ms71.drop 1)) (bodyK Pg r71 Q)))))) (∃ b1:AV,(shift d 2 S fun b2 S=>b2=b1∧S=S0)∧∃ b3:AV,(ld1 b1 S fun b4 S=>b4=b3∧S=S0)∧∃ b5:AV,(bin .neq 0 b3 (.v (.int .i64 0)) S fun b6 S=>b6=b5∧S=S0)∧∃ b7:AV,(b5=b7∧S=S0)∧onB b7 fun b=>gd b (∃ b8:AV,((.v (.bool true))=b8∧S=S0)∧onB b8 fun b=>gd b (Q (.ret (.t [.v (.int .i64 0),.v (.bool false)])) S) (loopV lv71_0 (vc Pg (c71.at_ [1,1,1,1,0,1,0,0]) (ms71.drop 1)) 91 (env71_0 a c d g .nl (.v (.int .i64 0))) S (blockK 0 (seqK (vc Pg (c71.at_ [1,1,1,1,1]) (ms71.drop 1)) (bodyK Pg r71 Q))))) (∃ c0:AV,(shift d 0 S fun c1 S=>c1=c0∧S=S0)∧∃ c2:AV,(ld1 c0 S fun c3 S=>c3=c2∧S=S0)∧∃ c4:AV,(bin .neq 0 c2 (.v (.int .i64 5)) S fun c5 S=>c5=c4∧S=S0)∧∃ c6:AV,(c4=c6∧S=S0)∧onB c6 fun b=>gd b (Q (.ret (.t [.v (.int .i64 0),.v (.bool false)])) S) (loopV lv71_0 (vc Pg (c71.at_ [1,1,1,1,0,1,0,0]) (ms71.drop 1)) 91 (env71_0 a c d g .nl (.v (.int .i64 0))) S (blockK 0 (seqK (vc Pg (c71.at_ [1,1,1,1,1]) (ms71.drop 1)) (bodyK Pg r71 Q)))))))) S
theorem calls71{x0 x1 x2:AV}{S:Store}{Q:PoT}(h:m71 x0 x1 x2 S Q):ACalls Pg 71 [x0,x1,x2] S Q:=
 calls_of_vc (fn:=Tryz.f71) (c:=c71) (n:=91) Tryz.func71 (by kernel_rfl) (by kernel_rfl) (by kernel_rfl) ms71 (Eq.mpr (by kernel_rfl) h)
def b71_0(y3 y4 y5 y8 y9 y10:AV)(S:Store)(KE0:KeT)(Q:PoT):Prop:=
 bin .add 0 y10 (.v (.int .i64 1)) S fun a S=>bin .lss 0 a y8 S fun c S=>onB c fun b=>gd b ((fun S0:Store=>∃ d:AV,(ldN 8 y3 S fun e S=>e=d∧S=S0)∧∃ f:AV,(shift y5 3 S fun g S=>g=f∧S=S0)∧∃ h:AV,(ld1 f S fun i S=>i=h∧S=S0)∧∃ k:AV,(ixS 3 1 h y10 S fun l S=>l=k∧S=S0)∧∃ m:AV,(ld1 k S fun n S=>n=m∧S=S0)∧∃ o:AV,(shift y5 3 S fun p S=>p=o∧S=S0)∧∃ q:AV,(ld1 o S fun r S=>r=q∧S=S0)∧∃ s:AV,(bin .add 0 y10 (.v (.int .i64 1)) S fun u S=>u=s∧S=S0)∧∃ w:AV,(ixS 3 1 q s S fun x S=>x=w∧S=S0)∧∃ y:AV,(ld1 w S fun z S=>z=y∧S=S0)∧∃ A:AV,(callF Pg 69 [d,m,y] S (fun _ _=>False) fun B S=>B=A∧S=S0)∧∃ C:AV,(un .not A S fun D S=>D=C∧S=S0)∧onB C fun b=>gd b (Q (.ret (.t [.v (.int .i64 0),.v (.bool false)])) S) (shift y4 3 S fun E S=>ld1 E S fun F S=>ixS 32 4 F (.v (.int .i64 0)) S fun G S=>ldN 4 G S fun H S=>bslN 32 4 1 [.v (.int .i64 0),.v (.string ByteArray.empty),.v (.int .i64 0),.nl] [(0,H)] S fun I S=>appS 32 4 56 y9 I S fun J S=>bin .add 0 y10 (.v (.int .i64 1)) S fun K S=>KE0 91 (env71_0 y3 y4 y5 y8 J K) S)) S) (∃ L:AV,(∀ T:Store,Keep S T→shift y4 3 T fun M S=>M=L∧S=T)∧∃ N:AV,(∀ T:Store,Keep S T→ld1 L T fun O S=>O=N∧S=T)∧∃ P:AV,(∀ T:Store,Keep S T→ixS 32 4 N (.v (.int .i64 1)) T fun R S=>R=P∧S=T)∧∃ U:AV,(∀ T:Store,Keep S T→ldN 4 P T fun V S=>V=U∧S=T)∧∃ W:AV,(∀ T:Store,Keep S T→callF Pg 70 [] T (fun _ _=>False) fun X S=>X=W∧S=T)∧∃ Y:AV,(∀ T:Store,Keep S T→callF Pg 23 [W] T (fun _ _=>False) fun Z S=>Z=Y∧S=T)∧∃ a0:AV,(∀ T:Store,Keep S T→bslN 32 4 2 [.v (.int .i64 0),.v (.string ByteArray.empty),.v (.int .i64 0),.nl] [(0,U),(1,Y)] T fun a1 S=>a1=a0∧S=T)∧appS 32 4 56 y9 a0 S fun a2 S=>∃ a3:AV,(∀ T:Store,Keep S T→shift y5 3 T fun a4 S=>a4=a3∧S=T)∧∃ a5:AV,(∀ T:Store,Keep S T→ld1 a3 T fun a6 S=>a6=a5∧S=T)∧∃ a7:AV,(∀ T:Store,Keep S T→shift y5 3 T fun a8 S=>a8=a7∧S=T)∧∃ a9:AV,(∀ T:Store,Keep S T→ld1 a7 T fun b0 S=>b0=a9∧S=T)∧∃ b1:AV,(∀ T:Store,Keep S T→bin .sub 0 y8 (.v (.int .i64 1)) T fun b2 S=>b2=b1∧S=T)∧∃ b3:AV,(∀ T:Store,Keep S T→ixS 3 1 a9 b1 T fun b4 S=>b4=b3∧S=T)∧∃ b5:AV,(∀ T:Store,Keep S T→ld1 b3 T fun b6 S=>b6=b5∧S=T)∧∃ b7:AV,(∀ T:Store,Keep S T→bslN 3 1 1 [.v (.int .i64 0)] [(0,b5)] T fun b8 S=>b8=b7∧S=T)∧appS 3 1 8 .nl a5 S fun b9 S=>(∀ T:Store,Keep S T→bslN 3 1 1 [.v (.int .i64 0)] [(0,b5)] T fun c0 S=>c0=b7∧S=T)∧(∀ T:Store,Keep S T→ld1 b3 T fun c1 S=>c1=b5∧S=T)∧(∀ T:Store,Keep S T→ixS 3 1 a9 b1 T fun c2 S=>c2=b3∧S=T)∧(∀ T:Store,Keep S T→bin .sub 0 y8 (.v (.int .i64 1)) T fun c3 S=>c3=b1∧S=T)∧(∀ T:Store,Keep S T→ld1 a7 T fun c4 S=>c4=a9∧S=T)∧(∀ T:Store,Keep S T→shift y5 3 T fun c5 S=>c5=a7∧S=T)∧appS 3 1 8 b9 b7 S fun c6 S=>ldN 8 y3 S fun c7 S=>shift y5 4 S fun c8 S=>ld1 c8 S fun c9 S=>callF Pg 68 [c7,a2,c6,c9] S Q fun d0 S=>extr d0 0 S fun d1 S=>extr d0 1 S fun d2 S=>Q (.ret (.t [d1,d2])) S)
theorem b71_0_eq(y3 y4 y5 y8 y9 y10:AV)(S:Store)(KE0:KeT)(Q:PoT):vc Pg (c71.at_ [1,1,1,1,0,1,0,0]) (ms71.drop 1) (mkE 91 lv71_0 (env71_0 y3 y4 y5 y8 y9 y10)) S (thenK (fgK lv71_0 KE0) (blockK 0 (seqK (vc Pg (c71.at_ [1,1,1,1,1]) (ms71.drop 1)) (bodyK Pg r71 Q))))=b71_0 y3 y4 y5 y8 y9 y10 S KE0 Q:=by kernel_rfl
theorem loop71_0{y3 y4 y5 y8:AV}{y90 y100:AV}{S:Store}{Q:PoT}(I:AV→AV→Store→Prop)(μ:AV→AV→Store→Nat)(h0:I y90 y100 S)
    (hr:∀(y9 y10:AV) (S:Store),I y9 y10 S→∀ KE0:KeT,(∀(y9' y10':AV) (S':Store),I y9' y10' S'→μ y9' y10' S'<μ y9 y10 S→KE0 91 (env71_0 y3 y4 y5 y8 y9' y10') S')→b71_0 y3 y4 y5 y8 y9 y10 S KE0 Q):
    loopV lv71_0 (vc Pg (c71.at_ [1,1,1,1,0,1,0,0]) (ms71.drop 1)) 91 (env71_0 y3 y4 y5 y8 y90 y100) S (blockK 0 (seqK (vc Pg (c71.at_ [1,1,1,1,1]) (ms71.drop 1)) (bodyK Pg r71 Q))):=by
 refine⟨fun n e S=>n=91∧∃ y9 y10:AV,e=(env71_0 y3 y4 y5 y8 y9 y10)∧I y9 y10 S,fun _ e S=>μ (e.getD 4 .j) (e.getD 5 .j) S,?_,?_⟩
 ·exact⟨_,_,Wk.refl _ _,rfl,_,_,rfl,h0⟩
 ·rintro _ e S ⟨rfl,y9,y10,rfl,hI⟩
  exact(b71_0_eq _ _ _ _ _ _ _ _ _).mpr (hr y9 y10 S hI _ (fun y9' y10' S' hI' hm=>⟨_,_,Wk.refl _ _,⟨rfl,_,_,rfl,hI'⟩,hm⟩))
end
theorem J_ix0{α:Type}{x:α}{l:List α}{f:α→AV}{e:Nat}{S0:Store}{P:AV→Prop}:(∃ q,(ixS e 1 (aL f (x :: l)) (.v (.int .i64 0)) S0 fun v S=>v=q∧S=S0)∧P q)=P (.q [f x] 0):=
 J_of (op:=fun K=>ixS e 1 (aL f (x :: l)) (.v (.int .i64 0)) S0 K) fun K=>ixS_aL (i:=0) (by simp)
theorem Ci.tr'(c:Ci):Tree c.av:=Tree.a fun u hu=>by
 simp only[Ci.cells,List.mem_cons,List.not_mem_nil,or_false]at hu
 rcases hu with rfl|rfl|rfl|rfl|rfl|rfl|rfl|rfl
 ·exact Tree.v _
 ·exact treeP _
 ·exact treeP _
 ·exact treeI _
 ·exact treeI _
 ·exact treeI _
 ·exact treeI _
 ·exact treeN _
theorem Tn.tree:∀(t:Tn),∀ u∈t.row,Tree u:=by
 intro t
 induction t using Tn.ind with
 |h k s b ss ks ih =>
  intro u hu
  rw[Tn.row_mk]at hu
  simp only[List.mem_cons,List.not_mem_nil,or_false]at hu
  rcases hu with rfl|rfl|rfl|rfl|rfl
  ·exact Tree.v _
  ·exact Tree.v _
  ·exact Tree.v _
  ·exact treeI _
  ·refine Tree.l fun c hc u hu=>?_
   obtain⟨t,ht,rfl⟩:=List.mem_map.1 hc
   exact ih t ht u hu
theorem tnL_tr(l:List Tn):Tree (tnL l):=Tree.l fun c hc u hu=>by
 obtain⟨t,ht,rfl⟩:=List.mem_map.1 hc
 exact Tn.tree t u hu
theorem own_fo{n:Nat}{S:Store}{x:AV}{e:Nat}{l:List Fo}(h:Own n S x e (l.map Fo.row)){k m:Nat}(hk:k≤n):Cv (S.frz (newer k)) m x (foL l):=
 own_rows (fun r hr u hu=>by obtain⟨f,_,rfl⟩:=List.mem_map.1 hr;exact Fo.tree f u hu) h hk
theorem own_in{n:Nat}{S:Store}{x:AV}{e:Nat}{l:List Int}(h:Own n S x e (l.map fun a=>[aI a])){k m:Nat}(hk:k≤n):Cv (S.frz (newer k)) m x (aL aI l):=
 own_rows (fun r hr u hu=>by obtain⟨f,_,rfl⟩:=List.mem_map.1 hr;rw[List.mem_singleton.1 hu];exact Tree.v _) h hk
theorem chain_no{c:Ci}{ss:List Int}{i:Nat}(hi:i+1<ss.length)(h:behindS c ss[i] ss[i+1]=false):chainS c ss=false:=by
 unfold chainS
 rw[List.all_eq_false]
 refine⟨i,List.mem_range.2 (by omega),?_⟩
 simp[List.getD_eq_getElem?_getD,show i<ss.length by omega,hi,h]
theorem chain_yes{c:Ci}{ss:List Int}(h:∀ i (hi:i+1<ss.length),behindS c (ss[i]'(by omega)) ss[i+1]=true):chainS c ss=true:=by
 unfold chainS
 rw[List.all_eq_true]
 intro i hi
 have hi:=List.mem_range.1 hi
 have hi2:i+1<ss.length:=by omega
 simp[List.getD_eq_getElem?_getD,show i<ss.length by omega,hi2,h i hi2]
def pathR (c:Ci) (f0 f1:Fo) (tk s a:Int) (ss:List Int) (ks:List Tn):Int × Bool:=
 if ss≠[]∧ss.getD 0 0=s∧a=0∧tk=5∧chainS c ss=true then Tn.accs c ks (List.replicate (ss.length - 1) f0 ++ [f1,foG]) (ss ++ [ss.getD (ss.length - 1) 0]) 0 else(0,false)
theorem ans71{c:Ci}(hc:Cs c){ks:List Tn}(hk:ks.length≤1000000)(IH:∀ t∈ks,∀ f,Pu f→Ans Pg 34 [c.av,f.av,t.av] (aR (t.acc c f))){f0 f1:Fo}(h0:Pu f0)(h1:Pu f1)(k l:Int)(nm:ByteArray)
    {ss:List Int} (hs:ss.length≤1000000) (tk s a:Int):Ans Pg 71 [c.av,(Fo.mk k nm l [f0,f1]).av,(Tn.mk tk s a ss ks).av] (aR (pathR c f0 f1 tk s a ss ks)):=by
 intro S
 refine ACalls.ansT (calls71 ?_)
 unfold m71
 rw[Fo.av,Fo.row_mk,Tn.av,Tn.row_mk]
 refine boxA_of rfl fun S1 k1 n1 o1=>?_
 refine boxA_of rfl fun S2 k2 n2 o2=>?_
 refine boxA_of rfl fun S3 k3 n3 o3=>?_
 have kk:=(k1.trans k2).trans k3
 have p1:=(k3.2 _ (by omega)).trans ((k2.2 _ (by omega)).trans o1)
 have p2:=(k3.2 _ (by omega)).trans o2
 rw[shift_p,ld1_p o3 rfl rfl,lenS_aL]
 have no:∀{E:AEnd},¬ (ss≠[]∧ss.getD 0 0=s∧a=0∧tk=5∧chainS c ss=true)→E = .ret (.t [aI 0,aB false])→∀{T:Store},Keep S T→E = .ret (aR (pathR c f0 f1 tk s a ss ks))∧Keep S T:=fun h e T hT=>⟨by rw[pathR,if_neg h];exact e,hT⟩
 show ∃ q:AV,_
 cases ss with
 |nil =>
  (repeat (first|with_reducible_and_instances (first|refine WJ ?_|refine W (J_ldp o3 (by with_unfolding_all rfl) (by with_unfolding_all rfl)) ?_|refine W (gd_T (Eq.refl true)) ?_|refine W (gd_F (Eq.refl true)) ?_|refine W (gd_nT (Eq.refl true)) ?_|refine W (gd_nF (Eq.refl true)) ?_|refine W (gd_T (decide_eq_true (show((List.length ([]:List Int):Nat):Int)<1 by decide))) ?_|refine W (gd_F (decide_eq_true (show((List.length ([]:List Int):Nat):Int)<1 by decide))) ?_|refine W (gd_nT (decide_eq_true (show((List.length ([]:List Int):Nat):Int)<1 by decide))) ?_|refine W (gd_nF (decide_eq_true (show((List.length ([]:List Int):Nat):Int)<1 by decide))) ?_|refine W (J_ldq (by with_unfolding_all rfl)) ?_)))
  exact no (fun h=>h.1 rfl) rfl kk
 |cons x sr =>
  have e1:decide ((((x :: sr).length:Nat):Int)<1)=false:=decide_eq_false (by simp;omega)
  by_cases e2:¬ x=s
  ·by_cases e3:decide (a=0)=true<;>by_cases e4:decide (tk=5)=true
   all_goals
    first|rw[Bool.not_eq_true]at e3|skip
    first|rw[Bool.not_eq_true]at e4|skip
    (repeat (first|with_reducible_and_instances (first|refine WJ ?_|refine W (J_ldp o3 (by with_unfolding_all rfl) (by with_unfolding_all rfl)) ?_|refine W (J_ix0) ?_|refine W (gd_T e1) ?_|refine W (gd_F e1) ?_|refine W (gd_nT e1) ?_|refine W (gd_nF e1) ?_|refine W (gd_T (decide_eq_false e2)) ?_|refine W (gd_F (decide_eq_false e2)) ?_|refine W (gd_nT (decide_eq_false e2)) ?_|refine W (gd_nF (decide_eq_false e2)) ?_|refine W (gd_T (Eq.refl true)) ?_|refine W (gd_F (Eq.refl true)) ?_|refine W (gd_nT (Eq.refl true)) ?_|refine W (gd_nF (Eq.refl true)) ?_|refine W (gd_T (Eq.refl false)) ?_|refine W (gd_F (Eq.refl false)) ?_|refine W (gd_nT (Eq.refl false)) ?_|refine W (gd_nF (Eq.refl false)) ?_|refine W (gd_T e3) ?_|refine W (gd_F e3) ?_|refine W (gd_nT e3) ?_|refine W (gd_nF e3) ?_|refine W (gd_T e4) ?_|refine W (gd_F e4) ?_|refine W (gd_nT e4) ?_|refine W (gd_nF e4) ?_|refine W (J_ldq (by with_unfolding_all rfl)) ?_)))
    exact no (fun h=>e2 h.2.1) rfl kk
  have e2:=Decidable.not_not.1 e2
  by_cases e3:¬ a=0
  ·by_cases e4:decide (tk=5)=true
   all_goals
    first|rw[Bool.not_eq_true]at e4|skip
    (repeat (first|with_reducible_and_instances (first|refine WJ ?_|refine W (J_ldp o3 (by with_unfolding_all rfl) (by with_unfolding_all rfl)) ?_|refine W (J_ix0) ?_|refine W (gd_T e1) ?_|refine W (gd_F e1) ?_|refine W (gd_nT e1) ?_|refine W (gd_nF e1) ?_|refine W (gd_T (decide_eq_true e2)) ?_|refine W (gd_F (decide_eq_true e2)) ?_|refine W (gd_nT (decide_eq_true e2)) ?_|refine W (gd_nF (decide_eq_true e2)) ?_|refine W (gd_T (Eq.refl true)) ?_|refine W (gd_F (Eq.refl true)) ?_|refine W (gd_nT (Eq.refl true)) ?_|refine W (gd_nF (Eq.refl true)) ?_|refine W (gd_T (Eq.refl false)) ?_|refine W (gd_F (Eq.refl false)) ?_|refine W (gd_nT (Eq.refl false)) ?_|refine W (gd_nF (Eq.refl false)) ?_|refine W (gd_T (decide_eq_false e3)) ?_|refine W (gd_F (decide_eq_false e3)) ?_|refine W (gd_nT (decide_eq_false e3)) ?_|refine W (gd_nF (decide_eq_false e3)) ?_|refine W (gd_T e4) ?_|refine W (gd_F e4) ?_|refine W (gd_nT e4) ?_|refine W (gd_nF e4) ?_|refine W (J_ldq (by with_unfolding_all rfl)) ?_)))
    exact no (fun h=>e3 h.2.2.1) rfl kk
  have e3:=Decidable.not_not.1 e3
  by_cases e4:¬ tk=5
  ·(repeat (first|with_reducible_and_instances (first|refine WJ ?_|refine W (J_ldp o3 (by with_unfolding_all rfl) (by with_unfolding_all rfl)) ?_|refine W (J_ix0) ?_|refine W (gd_T e1) ?_|refine W (gd_F e1) ?_|refine W (gd_nT e1) ?_|refine W (gd_nF e1) ?_|refine W (gd_T (decide_eq_true e2)) ?_|refine W (gd_F (decide_eq_true e2)) ?_|refine W (gd_nT (decide_eq_true e2)) ?_|refine W (gd_nF (decide_eq_true e2)) ?_|refine W (gd_T (Eq.refl true)) ?_|refine W (gd_F (Eq.refl true)) ?_|refine W (gd_nT (Eq.refl true)) ?_|refine W (gd_nF (Eq.refl true)) ?_|refine W (gd_T (Eq.refl false)) ?_|refine W (gd_F (Eq.refl false)) ?_|refine W (gd_nT (Eq.refl false)) ?_|refine W (gd_nF (Eq.refl false)) ?_|refine W (gd_T (decide_eq_true e3)) ?_|refine W (gd_F (decide_eq_true e3)) ?_|refine W (gd_nT (decide_eq_true e3)) ?_|refine W (gd_nF (decide_eq_true e3)) ?_|refine W (gd_T (decide_eq_false e4)) ?_|refine W (gd_F (decide_eq_false e4)) ?_|refine W (gd_nT (decide_eq_false e4)) ?_|refine W (gd_nF (decide_eq_false e4)) ?_|refine W (J_ldq (by with_unfolding_all rfl)) ?_)))
   exact no (fun h=>e4 h.2.2.2.1) rfl kk
  have e4:=Decidable.not_not.1 e4
  (repeat (first|with_reducible_and_instances (first|refine WJ ?_|refine W (J_ldp o3 (by with_unfolding_all rfl) (by with_unfolding_all rfl)) ?_|refine W (J_ix0) ?_|refine W (gd_T e1) ?_|refine W (gd_F e1) ?_|refine W (gd_nT e1) ?_|refine W (gd_nF e1) ?_|refine W (gd_T (decide_eq_true e2)) ?_|refine W (gd_F (decide_eq_true e2)) ?_|refine W (gd_nT (decide_eq_true e2)) ?_|refine W (gd_nF (decide_eq_true e2)) ?_|refine W (gd_T (Eq.refl true)) ?_|refine W (gd_F (Eq.refl true)) ?_|refine W (gd_nT (Eq.refl true)) ?_|refine W (gd_nF (Eq.refl true)) ?_|refine W (gd_T (Eq.refl false)) ?_|refine W (gd_F (Eq.refl false)) ?_|refine W (gd_nT (Eq.refl false)) ?_|refine W (gd_nF (Eq.refl false)) ?_|refine W (gd_T (decide_eq_true e3)) ?_|refine W (gd_F (decide_eq_true e3)) ?_|refine W (gd_nT (decide_eq_true e3)) ?_|refine W (gd_nF (decide_eq_true e3)) ?_|refine W (gd_T (decide_eq_true e4)) ?_|refine W (gd_F (decide_eq_true e4)) ?_|refine W (gd_nT (decide_eq_true e4)) ?_|refine W (gd_nF (decide_eq_true e4)) ?_|refine W (J_ldq (by with_unfolding_all rfl)) ?_)))
  obtain⟨ss,hss⟩:∃ ss,ss=x :: sr:=⟨_,rfl⟩
  have hne:ss≠[]:=by rw[hss];simp
  have hg:ss.getD 0 0=s:=by rw[hss];exact e2
  rw[←hss]at hs o3 no ⊢
  have hpos:0<ss.length:=List.length_pos_iff.2 hne
  clear hss e1
  refine loop71_0 (fun y z S'=>∃ i:Nat,z=aI i∧i+1≤ss.length∧Keep S S'∧S3.n≤S'.n∧S'.obj S.n=some (.cells 29 [c.cells] true)∧S'.obj S1.n=some (.cells 32 [[aI k,.v (.string nm),aI l,foL [f0,f1]]] true)∧
      S'.obj S2.n=some (.cells 37 [[aI tk,aI s,aI a,aL aI ss,tnL ks]] true)∧Own S3.n S' y 32 ((List.replicate i f0).map Fo.row)∧∀ j (h:j+1<ss.length),j<i→behindS c (ss[j]'(by omega)) ss[j+1]=true)
   (fun _ z _=>ss.length - ((intA z).getD 0).toNat) ⟨0,rfl,hpos,kk,Nat.le_refl _,p1,p2,o3,.nl _ _ _,fun j _ h=>by omega⟩ ?_
  rintro y _ S4 ⟨i,rfl,hi,k4,n4,p1,p2,p3,w4,hch⟩ KE hKE
  unfold b71_0
  have hadd:∀(T:Store) (K:AV→Store→Prop),bin .add 0 (aI i) (.v (.int .i64 1)) T K=K (aI (i+1:Nat)) T:=fun T K=>bin_add (by omega) (by omega) 0
  have hi0:i<ss.length:=by omega
  rw[hadd,bin_lss,onB_v]
  refine gd_of (fun hlt=>?_) (fun hge=>?_)
  ·have hlt:i+1<ss.length:=by have:=dT hlt;omega
   show ∃ q:AV,_
   refine⟨_,by rw[ldN_p (n:=8) p1 rfl];exact⟨rfl,rfl⟩,?_⟩
   refine⟨_,by rw[shift_p];exact⟨rfl,rfl⟩,?_⟩
   refine⟨_,by rw[ld1_p p3 rfl rfl];exact⟨rfl,rfl⟩,?_⟩
   refine⟨_,by rw[ixS_aL hi0];exact⟨rfl,rfl⟩,?_⟩
   refine⟨_,by rw[ld1_q];exact⟨rfl,rfl⟩,?_⟩
   refine⟨_,by rw[shift_p];exact⟨rfl,rfl⟩,?_⟩
   refine⟨_,by rw[ld1_p p3 rfl rfl];exact⟨rfl,rfl⟩,?_⟩
   refine⟨_,by rw[hadd];exact⟨rfl,rfl⟩,?_⟩
   refine⟨_,by rw[ixS_aL hlt];exact⟨rfl,rfl⟩,?_⟩
   refine⟨_,by rw[ld1_q];exact⟨rfl,rfl⟩,?_⟩
   refine⟨_,callF_ans (ans69 hc ss[i] ss[i+1]) ⟨rfl,rfl⟩,?_⟩
   refine⟨_,by rw[un_not];exact⟨rfl,rfl⟩,?_⟩
   rw[onB_v]
   refine gd_of (fun h=>?_) (fun h=>?_)
   ·exact no (fun hq=>by rw[chain_no hlt (by simpa using h)]at hq;cases hq.2.2.2.2) rfl k4
   ·have h:behindS c ss[i] ss[i+1]=true:=by simpa using h
    rw[shift_p,ld1_p p2 rfl rfl,ixF0,ldN_q (Fo.row_len _)]
    refine bslA4 (Fo.row_len _) ?_
    refine w4.app (c:=f0.row) (by omega) (Fo.row_len _) (by simp;omega) (fun z' S5 w5 b5 hz=>?_) rfl
    obtain⟨m5,hm5⟩:=hz
    have n5:=b5.1
    have old5:∀ x,x<S3.n→S5.obj x=S4.obj x:=fun x hx=>b5.2 x (by omega) (fun b m e=>by have:=w4.lt e;omega)
    rw[hadd]
    refine hKE _ _ _ ⟨i+1,rfl,hlt,⟨by have:=k4.1;omega,fun x hx=>(old5 x (by have:=kk.1;omega)).trans (k4.2 x hx)⟩,by omega,(old5 _ (by omega)).trans p1,(old5 _ (by omega)).trans p2,(old5 _ (by omega)).trans p3,?_,fun j hj hji=>?_⟩ (by simp[intA];omega)
    ·rw[List.replicate_succ',List.map_append]
     exact w5
    ·by_cases e:j=i
     ·subst e;exact h
     ·exact hch j hj (by omega)
  ·have hge:i+1=ss.length:=by have:=dF hge;omega
   have hsub:∀(T:Store) (K:AV→Store→Prop),bin .sub 0 (aI ss.length) (.v (.int .i64 1)) T K=K (aI i) T:=fun T K=>(bin_sub (by omega) (by omega) 0).trans (by rw[show((ss.length:Nat):Int) - 1=i by omega])
   have hlast:ss.getD (ss.length - 1) 0=ss[i]:=by simp[List.getD_eq_getElem?_getD,←hge,hi0]
   have hall:chainS c ss=true:=chain_yes fun j hj=>hch j hj (by omega)
   have hres:pathR c f0 f1 tk s a ss ks=Tn.accs c ks (List.replicate i f0 ++ [f1,foG]) (ss ++ [ss[i]]) 0:=by
    rw[pathR,if_pos ⟨hne,hg,e3,e4,hall⟩,hlast,show ss.length - 1=i by omega]
   rw[hres]
   clear no
   have lix:∀{P:AV→Prop},(∃ q,(∀ T,Keep S4 T→ixS 3 1 (aL aI ss) (aI i) T fun v S=>v=q∧S=T)∧P q)=P (.q [aI ss[i]] 0):=LJ_ix hi0
   (repeat (first|with_reducible_and_instances (first|refine WJ ?_|refine W (LJ_ldp p2 (by omega) (by with_unfolding_all rfl) (by with_unfolding_all rfl)) ?_|refine W (LJ_F1) ?_|refine W (LJ_ldNq (Fo.row_len _)) ?_|refine W (J_ldq (by with_unfolding_all rfl)) ?_)|refine J_cA (ans70) rfl rfl ?_|refine C_A (ans70) rfl rfl ?_|refine L_cA (ans70) rfl rfl ?_|refine J_cA (ans23 fo2) rfl rfl ?_|refine C_A (ans23 fo2) rfl rfl ?_|refine L_cA (ans23 fo2) rfl rfl ?_))
   refine⟨.l [f1.row,foG.row],fun T hT=>bslA42 (Fo.row_len _) (Fo.row_len _) ⟨rfl,rfl⟩,?_⟩
   refine Own.appL (ys:=[f1.row,foG.row]) w4 (by omega) (by simp[Fo.row_len]) (by simp;omega) (fun z5 S5 w5 b5 hz5=>?_) rfl
   have n5:=b5.1
   have old5:∀ x,x<S3.n→S5.obj x=S4.obj x:=fun x hx=>b5.2 x (by omega) (fun b m e=>by have:=w4.lt e;omega)
   have q1:=(old5 _ (by omega)).trans p1
   have q3:=(old5 _ (by omega)).trans p3
   have lix:∀{P:AV→Prop},(∃ q,(∀ T,Keep S5 T→ixS 3 1 (aL aI ss) (aI i) T fun v S=>v=q∧S=T)∧P q)=P (.q [aI ss[i]] 0):=LJ_ix hi0
   have lsub:∀{P:AV→Prop},(∃ q,(∀ T,Keep S5 T→bin .sub 0 (aI ss.length) (.v (.int .i64 1)) T fun v S=>v=q∧S=T)∧P q)=P (aI i):=LJ_of (op:=fun T K=>bin .sub 0 (aI ss.length) (.v (.int .i64 1)) T K) fun T hT K=>hsub T K
   (repeat (first|with_reducible_and_instances (first|refine WJ ?_|refine W (LJ_ldp q3 (by omega) (by with_unfolding_all rfl) (by with_unfolding_all rfl)) ?_|refine W (lsub) ?_|refine W (lix) ?_|refine W (LJ_ldq (by with_unfolding_all rfl)) ?_|refine W (J_ldq (by with_unfolding_all rfl)) ?_)))
   refine⟨.l [[aI ss[i]]],fun T hT=>bsl1 rfl (fun _ h=>by cases h) ⟨rfl,rfl⟩,?_⟩
   refine Own.appL (n:=S5.n) (e:=3) (es:=[]) (ys:=ss.map fun a=>[aI a]) (.nl _ _ _) (Nat.le_refl _) (by simp) (by simp;omega) (fun z6 S6 w6 b6 hz6=>?_) rfl
   have n6:=b6.1
   rw[List.nil_append]at w6
   have old6:∀ x,x<S5.n→S6.obj x=S5.obj x:=fun x hx=>b6.2 x hx (fun b m e=>by cases e)
   have r3:=(old6 _ (by omega)).trans q3
   refine⟨fun T hT=>bsl1 rfl (fun _ h=>by cases h) ⟨rfl,rfl⟩,fun T hT=>by rw[ld1_q];exact⟨rfl,rfl⟩,fun T hT=>by rw[ixS_aL hi0];exact⟨rfl,rfl⟩,fun T hT=>by rw[hsub];exact⟨rfl,rfl⟩,fun T hT=>by rw[ld1_p ((hT.2 _ (by omega)).trans r3) rfl rfl];exact⟨rfl,rfl⟩,fun T hT=>⟨rfl,rfl⟩,?_⟩
   refine Own.appL (ys:=[[aI ss[i]]]) w6 (by omega) (by simp) (by simp;omega) (fun z7 S7 w7 b7 hz7=>?_) rfl
   have n7:=b7.1
   have old7:∀ x,x<S5.n→S7.obj x=S5.obj x:=fun x hx=>(b7.2 x (by omega) (fun b m e=>by have:=w6.lt e;omega)).trans (old6 x hx)
   have w5':Own S3.n S7 z5 32 ((List.replicate i f0).map Fo.row ++ [f1.row,foG.row]):=w5.same (by omega) fun x _ hx=>old7 x hx
   have t1:=(old7 _ (by omega)).trans q1
   have t3:=(old7 _ (by omega)).trans q3
   rw[ldN_p (n:=8) t1 rfl,shift_p,ld1_p t3 rfl rfl]
   have e5:(List.replicate i f0).map Fo.row ++ [f1.row,foG.row]=(List.replicate i f0 ++ [f1,foG]).map Fo.row:=by rw[List.map_append];rfl
   have e7:(ss.map fun a=>[aI a]) ++ [[aI ss[i]]]=(ss ++ [ss[i]]).map fun a=>[aI a]:=by rw[List.map_append];rfl
   rw[e5]at w5'
   rw[e7]at w7
   have kS7:Keep S S7:=⟨by have:=k4.1;omega,fun x hx=>(old7 x (by have:=kk.1;omega)).trans ((old5 x (by have:=kk.1;omega)).trans (k4.2 x hx))⟩
   refine callF_frz (args:=[c.av,z5,z7,tnL ks]) (args2:=[c.av,foL (List.replicate i f0 ++ [f1,foG]),aL aI (ss ++ [ss[i]]),tnL ks]) (newer S3.n) rfl (fun j u u2 e1 e2=>?_) (ans68 hk IH (fun f hf=>?_) _) ?_
   ·match j with
    |0=>cases e1;cases e2;exact Ci.tr' c _ _
    |1=>cases e1;cases e2;exact own_fo w5' (Nat.le_refl _)
    |2=>cases e1;cases e2;exact own_in w7 (by omega)
    |3=>cases e1;cases e2;exact tnL_tr _ _ _
    |j+4=>simp at e1
   ·rcases List.mem_append.1 hf with hf|hf
    ·rw[(List.mem_replicate.1 hf).2];exact h0
    ·simp only[List.mem_cons,List.not_mem_nil,or_false]at hf
     rcases hf with rfl|rfl
     ·exact h1
     ·exact .o _ _ (by decide) (.c _ (by decide))
   ·rw[extr_t rfl,extr_t rfl]
    exact⟨rfl,kS7.frz (by have:=kk.1;omega)⟩
def loopR (c:Ci) (f0:Fo) (tk s a:Int) (ss:List Int) (ks:List Tn):Int × Bool:=
 if ss≠[]∧ss.getD 0 0=s∧0≤a∧a<ss.length∧tk=6∧behindS c (ss.getD (ss.length - 1) 0) (ss.getD a.toNat 0)=true∧chainS c ss=true∧metS c (ss.drop a.toNat)=true then Tn.accs c ks (List.replicate ss.length f0) ss 0 else(0,false)
theorem ans72{c:Ci}(hc:Cs c){ks:List Tn}(hk:ks.length≤1000000)(IH:∀ t∈ks,∀ f,Pu f→Ans Pg 34 [c.av,f.av,t.av] (aR (t.acc c f))){f0:Fo}(h0:Pu f0)(k l:Int)(nm:ByteArray)
    {ss:List Int} (hs:ss.length≤1000000) (tk s a:Int):Ans Pg 72 [c.av,(Fo.mk k nm l [f0]).av,(Tn.mk tk s a ss ks).av] (aR (loopR c f0 tk s a ss ks)):=by
 intro S
 refine ACalls.ansT (calls72 ?_)
 unfold m72
 rw[Fo.av,Fo.row_mk,Tn.av,Tn.row_mk]
 refine boxA_of rfl fun S1 k1 n1 o1=>?_
 refine boxA_of rfl fun S2 k2 n2 o2=>?_
 refine boxA_of rfl fun S3 k3 n3 o3=>?_
 have kk:=(k1.trans k2).trans k3
 have p1:=(k3.2 _ (by omega)).trans ((k2.2 _ (by omega)).trans o1)
 have p2:=(k3.2 _ (by omega)).trans o2
 rw[shift_p,ld1_p o3 rfl rfl,lenS_aL]
 have no:∀{E:AEnd},¬ (ss≠[]∧ss.getD 0 0=s∧0≤a∧a<ss.length∧tk=6∧behindS c (ss.getD (ss.length - 1) 0) (ss.getD a.toNat 0)=true∧chainS c ss=true∧metS c (ss.drop a.toNat)=true)→E = .ret (.t [aI 0,aB false])→∀{T:Store},Keep S T→E = .ret (aR (loopR c f0 tk s a ss ks))∧Keep S T:=fun h e T hT=>⟨by rw[loopR,if_neg h];exact e,hT⟩
 show ∃ q:AV,_
 refine W J_lss ?_
 by_cases hne:ss = []
 ·have e1:decide (((ss.length:Nat):Int)<1)=true:=decide_eq_true (by simp[hne])
  rw[e1]
  (repeat (first|with_reducible_and_instances (first|refine WJ ?_|refine W (J_ldp o3 (by with_unfolding_all rfl) (by with_unfolding_all rfl)) ?_|refine W (J_ldq (by with_unfolding_all rfl)) ?_)))
  exact no (fun h=>h.1 hne) rfl kk
 have hpos:0<ss.length:=List.length_pos_iff.2 hne
 rw[show decide (((ss.length:Nat):Int)<1)=false from decide_eq_false (by omega)]
 have hx0:∀{e:Nat} {S0:Store} {P:AV→Prop},(∃ q,(ixS e 1 (aL aI ss) (.v (.int .i64 0)) S0 fun v S=>v=q∧S=S0)∧P q)=P (.q [aI (ss.getD 0 0)] 0):=by
  intro e S0 P
  match ss,hne with
  |x :: sr,_=>exact J_ix0
 (repeat (first|with_reducible_and_instances (first|refine WJ ?_|refine W (J_ldp o3 (by with_unfolding_all rfl) (by with_unfolding_all rfl)) ?_|refine W (hx0) ?_|refine W (J_ldq (by with_unfolding_all rfl)) ?_)))
 by_cases e2:¬ ss.getD 0 0=s
 ·rw[decide_eq_false e2,Bool.not_false]
  (repeat (first|with_reducible_and_instances (first|refine WJ ?_|refine W (J_ldp o3 (by with_unfolding_all rfl) (by with_unfolding_all rfl)) ?_|refine W (J_ldq (by with_unfolding_all rfl)) ?_)))
  exact no (fun h=>e2 h.2.1) rfl kk
 have e2:=Decidable.not_not.1 e2
 rw[decide_eq_true e2,Bool.not_true]
 (repeat (first|with_reducible_and_instances (first|refine WJ ?_|refine W (J_ldp o3 (by with_unfolding_all rfl) (by with_unfolding_all rfl)) ?_|refine W (J_ldq (by with_unfolding_all rfl)) ?_)))
 by_cases e3:a<0
 ·rw[decide_eq_true e3]
  (repeat (first|with_reducible_and_instances (first|refine WJ ?_|refine W (J_ldp o3 (by with_unfolding_all rfl) (by with_unfolding_all rfl)) ?_|refine W (J_ldq (by with_unfolding_all rfl)) ?_)))
  exact no (fun h=>by have:=h.2.2.1;omega) rfl kk
 rw[decide_eq_false e3]
 (repeat (first|with_reducible_and_instances (first|refine WJ ?_|refine W (J_ldp o3 (by with_unfolding_all rfl) (by with_unfolding_all rfl)) ?_|refine W (J_ldq (by with_unfolding_all rfl)) ?_)))
 by_cases e4:((ss.length:Nat):Int)≤a
 ·rw[decide_eq_true e4]
  (repeat (first|with_reducible_and_instances (first|refine WJ ?_|refine W (J_ldp o3 (by with_unfolding_all rfl) (by with_unfolding_all rfl)) ?_|refine W (J_ldq (by with_unfolding_all rfl)) ?_)))
  exact no (fun h=>by have:=h.2.2.2.1;omega) rfl kk
 rw[decide_eq_false e4]
 (repeat (first|with_reducible_and_instances (first|refine WJ ?_|refine W (J_ldp o3 (by with_unfolding_all rfl) (by with_unfolding_all rfl)) ?_|refine W (J_ldq (by with_unfolding_all rfl)) ?_)))
 by_cases e5:¬ tk=6
 ·rw[decide_eq_false e5,Bool.not_false]
  (repeat (first|with_reducible_and_instances (first|refine WJ ?_|refine W (J_ldp o3 (by with_unfolding_all rfl) (by with_unfolding_all rfl)) ?_|refine W (J_ldq (by with_unfolding_all rfl)) ?_)))
  exact no (fun h=>e5 h.2.2.2.2.1) rfl kk
 have e5:=Decidable.not_not.1 e5
 rw[decide_eq_true e5,Bool.not_true]
 obtain⟨i0,hi0⟩:∃ i0:Nat,ss.length=i0+1:=⟨ss.length - 1,by omega⟩
 obtain⟨j,rfl⟩:=Int.eq_ofNat_of_zero_le (show 0≤a by omega)
 have hj:j<ss.length:=by omega
 have hi1:i0<ss.length:=by omega
 have lsub:∀{S0:Store} {P:AV→Prop},(∃ q,(bin .sub 0 (aI ss.length) (.v (.int .i64 1)) S0 fun v S=>v=q∧S=S0)∧P q)=P (aI i0):=fun{S0 P}=>J_of (op:=fun K=>bin .sub 0 (aI ss.length) (.v (.int .i64 1)) S0 K) fun K=>(bin_sub (by omega) (by omega) 0).trans (by rw[show((ss.length:Nat):Int) - 1=i0 by omega])
 have hlast:ss.getD (ss.length - 1) 0=ss[i0]:=by simp[List.getD_eq_getElem?_getD,hi0]
 have hat:ss.getD (((j:Nat):Int)).toNat 0=ss[j]:=by simp[List.getD_eq_getElem?_getD,hj]
 (repeat (first|with_reducible_and_instances (first|refine WJ ?_|refine W (J_ldp o3 (by with_unfolding_all rfl) (by with_unfolding_all rfl)) ?_|refine W (lsub) ?_|refine W (J_ix hi1) ?_|refine W (J_ix hj) ?_|refine W (J_ldN (n:=8) p1 (by with_unfolding_all rfl)) ?_|refine W (J_ldq (by with_unfolding_all rfl)) ?_)|refine J_cA (ans69 hc ss[i0] ss[j]) rfl rfl ?_|refine C_A (ans69 hc ss[i0] ss[j]) rfl rfl ?_))
 cases e6:behindS c ss[i0] ss[j]with
 |false =>
  rw[Bool.not_false]
  (repeat (first|with_reducible_and_instances (first|refine WJ ?_|refine W (J_ldp o3 (by with_unfolding_all rfl) (by with_unfolding_all rfl)) ?_|refine W (J_ldq (by with_unfolding_all rfl)) ?_)))
  exact no (fun h=>by rw[hlast,hat,e6]at h;cases h.2.2.2.2.2.1) rfl kk
 |true =>
  rw[Bool.not_true]
  (repeat (first|with_reducible_and_instances (first|refine WJ ?_|refine W (J_ldp o3 (by with_unfolding_all rfl) (by with_unfolding_all rfl)) ?_|refine W (J_ldq (by with_unfolding_all rfl)) ?_)))
  have hg:=e2
  have no2:∀{E:AEnd},¬ (chainS c ss=true∧metS c (ss.drop j)=true)→E = .ret (.t [aI 0,aB false])→∀{T:Store},Keep S T→E = .ret (aR (loopR c f0 tk s j ss ks))∧Keep S T:=fun h e T hT=>no (fun hq=>h ⟨hq.2.2.2.2.2.2.1,by have:=hq.2.2.2.2.2.2.2;rwa [Int.toNat_natCast]at this⟩) e hT
  have yes:chainS c ss=true→metS c (ss.drop j)=true→loopR c f0 tk s j ss ks=Tn.accs c ks (List.replicate ss.length f0) ss 0:=fun h1 h2=>by
   rw[loopR,if_pos ⟨hne,hg,by omega,by omega,e5,by rw[hlast,hat];exact e6,h1,by rw[Int.toNat_natCast];exact h2⟩]
  clear no
  refine loop72_0 (fun y z S'=>∃ i:Nat,z=aI i∧i≤ss.length∧Keep S S'∧S3.n≤S'.n∧S'.obj S.n=some (.cells 29 [c.cells] true)∧S'.obj S1.n=some (.cells 32 [[aI k,.v (.string nm),aI l,foL [f0]]] true)∧
      S'.obj S2.n=some (.cells 37 [[aI tk,aI s,aI j,aL aI ss,tnL ks]] true)∧Own S3.n S' y 32 ((List.replicate i f0).map Fo.row)∧∀ m (h:m+1<ss.length),m+1<i→behindS c (ss[m]'(by omega)) ss[m+1]=true)
   (fun _ z _=>ss.length - ((intA z).getD 0).toNat) ⟨0,rfl,Nat.zero_le _,kk,Nat.le_refl _,p1,p2,o3,.nl _ _ _,fun j _ h=>by omega⟩ ?_
  rintro y _ S4 ⟨i,rfl,hi,k4,n4,p1,p2,p3,w4,hch⟩ KE hKE
  unfold b72_0
  have hadd:∀(T:Store) (K:AV→Store→Prop),bin .add 0 (aI i) (.v (.int .i64 1)) T K=K (aI (i+1:Nat)) T:=fun T K=>bin_add (by omega) (by omega) 0
  rw[bin_lss,onB_v]
  refine gd_of (fun hlt=>?_) (fun hge=>?_)
  ·have hlt:i<ss.length:=by have:=dT hlt;omega
   have step:(∀ m,m+1=i→(h:m<ss.length)→behindS c ss[m] ss[i]=true)→shift (.p S1.n 0 0) 3 S4 fun v T=>ld1 v T fun v T=>ixS 32 4 v (.v (.int .i64 0)) T fun v T=>ldN 4 v T fun v T=>bslN 32 4 1 fo0r [(0,v)] T fun v T=>appS 32 4 56 y v T fun v T=>bin .add 0 (aI i) (.v (.int .i64 1)) T fun v2 T=>KE 131 (env72_0 (.p S.n 0 0) (.p S1.n 0 0) (.p S2.n 0 0) (aI ss.length) v v2) T:=by
    intro hb
    rw[shift_p,ld1_p p2 rfl rfl,ixF0,ldN_q (Fo.row_len _)]
    refine bslA4 (Fo.row_len _) ?_
    refine w4.app (c:=f0.row) (by omega) (Fo.row_len _) (by simp;omega) (fun z' S5 w5 b5 hz=>?_) rfl
    obtain⟨m5,hm5⟩:=hz
    have n5:=b5.1
    have old5:∀ x,x<S3.n→S5.obj x=S4.obj x:=fun x hx=>b5.2 x (by omega) (fun b m e=>by have:=w4.lt e;omega)
    rw[hadd]
    refine hKE _ _ _ ⟨i+1,rfl,hlt,⟨by have:=k4.1;omega,fun x hx=>(old5 x (by have:=kk.1;omega)).trans (k4.2 x hx)⟩,by omega,(old5 _ (by omega)).trans p1,(old5 _ (by omega)).trans p2,(old5 _ (by omega)).trans p3,?_,fun m hm hmi=>?_⟩ (by simp[intA];omega)
    ·rw[List.replicate_succ',List.map_append]
     exact w5
    ·by_cases e:m+1=i
     ·subst e;exact hb m rfl (by omega)
     ·exact hch m hm (by omega)
   show ∃ q:AV,_
   refine W J_gtr ?_
   by_cases hi00:i=0
   ·rw[show decide ((0:Int)<(i:Int))=false from decide_eq_false (by omega)]
    (repeat (first|with_reducible_and_instances (first|refine WJ ?_|refine W (J_ldq (by with_unfolding_all rfl)) ?_)))
    exact step fun m hm=>by omega
   ·obtain⟨m,rfl⟩:∃ m,i=m+1:=⟨i - 1,by omega⟩
    have hm:m<ss.length:=by omega
    rw[show decide ((0:Int)<((m+1:Nat):Int))=true from decide_eq_true (by omega)]
    have lsb:∀{P:AV→Prop},(∃ q,(bin .sub 0 (aI (m+1:Nat)) (.v (.int .i64 1)) S4 fun v S=>v=q∧S=S4)∧P q)=P (aI m):=J_of (op:=fun K=>bin .sub 0 (aI (m+1:Nat)) (.v (.int .i64 1)) S4 K) fun K=>(bin_sub (by omega) (by omega) 0).trans (by rw[show(((m+1:Nat):Nat):Int) - 1=m by omega])
    cases e7:behindS c ss[m] ss[m+1]with
    |false =>
     (repeat (first|with_reducible_and_instances (first|refine WJ ?_|refine W (J_ldp p3 (by with_unfolding_all rfl) (by with_unfolding_all rfl)) ?_|refine W (J_ldN (n:=8) p1 (by with_unfolding_all rfl)) ?_|refine W (lsb) ?_|refine W (J_ix hm) ?_|refine W (J_ix hlt) ?_|refine W (gd_T e7) ?_|refine W (gd_F e7) ?_|refine W (gd_nT e7) ?_|refine W (gd_nF e7) ?_|refine W (J_ldq (by with_unfolding_all rfl)) ?_)|refine J_cA (ans69 hc ss[m] ss[m+1]) rfl rfl ?_|refine C_A (ans69 hc ss[m] ss[m+1]) rfl rfl ?_))
     exact no2 (fun hq=>by rw[chain_no hlt e7]at hq;cases hq.1) rfl k4
    |true =>
     (repeat (first|with_reducible_and_instances (first|refine WJ ?_|refine W (J_ldp p3 (by with_unfolding_all rfl) (by with_unfolding_all rfl)) ?_|refine W (J_ldN (n:=8) p1 (by with_unfolding_all rfl)) ?_|refine W (lsb) ?_|refine W (J_ix hm) ?_|refine W (J_ix hlt) ?_|refine W (gd_T e7) ?_|refine W (gd_F e7) ?_|refine W (gd_nT e7) ?_|refine W (gd_nF e7) ?_|refine W (J_ldq (by with_unfolding_all rfl)) ?_)|refine J_cA (ans69 hc ss[m] ss[m+1]) rfl rfl ?_|refine C_A (ans69 hc ss[m] ss[m+1]) rfl rfl ?_))
     exact step fun m' hm' hl=>by
      have:m'=m:=by omega
      subst this
      exact e7
  ·have hge:i=ss.length:=by have:=dF hge;omega
   subst hge
   have hchain:chainS c ss=true:=chain_yes fun m hm=>hch m hm hm
   have hfair:=hc.ok.fair
   have hmx:ss.length≤1000000:=hs
   refine loop72_1 (fun z S'=>S'=S4∧∃ i:Nat,z=aI i∧i≤c.fair.length∧∀ m (h:m<c.fair.length),m<i→((ss.drop j).any fun s=>isB c s c.fair[m])=true) (fun z _=>c.fair.length - ((intA z).getD 0).toNat) ⟨rfl,0,rfl,Nat.zero_le _,fun m _ h=>by omega⟩ ?_
   rintro _ S4 ⟨rfl,i,rfl,hif,hmet⟩ KE1 hKE1
   unfold b72_1
   rw[shift_p,ld1_p p1 rfl rfl,lenS_aL,bin_lss,onB_v]
   refine gd_of (fun hlt=>?_) (fun hge=>?_)
   ·have hlt:i<c.fair.length:=by have:=dT hlt;omega
    rw[shift_p,ld1_p p3 rfl rfl]
    refine loop72_2 (fun y z S'=>S'=S4∧∃ r:Nat,z=aI r∧j≤r∧r≤ss.length∧y=aB (((ss.drop j).take (r - j)).any fun s=>isB c s c.fair[i])) (fun _ z _=>ss.length - ((intA z).getD 0).toNat) ⟨rfl,j,rfl,Nat.le_refl _,by omega,by simp⟩ ?_
    rintro _ _ S4 ⟨rfl,r,rfl,hjr,hr,rfl⟩ KE2 hKE2
    unfold b72_2
    rw[bin_lss,onB_v]
    refine gd_of (fun hlr=>?_) (fun hgr=>?_)
    ·have hlr:r<ss.length:=by have:=dT hlr;omega
     have hd:r - j<(ss.drop j).length:=by simp;omega
     have htk:((ss.drop j).take (r+1 - j)).any (fun s=>isB c s c.fair[i])=(((ss.drop j).take (r - j)).any (fun s=>isB c s c.fair[i]) || isB c ss[r] c.fair[i]):=by
      rw[show r+1 - j=(r - j)+1 by omega,List.take_add_one,List.any_append,List.getElem?_eq_getElem hd]
      have:(ss.drop j)[r - j]=ss[r]:=by rw[List.getElem_drop];congr 1;omega
      simp[this]
     have hadd:∀(T:Store) (K:AV→Store→Prop),bin .add 0 (aI r) (.v (.int .i64 1)) T K=K (aI (r+1:Nat)) T:=fun T K=>bin_add (by omega) (by omega) 0
     show onB _ _
     rw[onB_v]
     refine gd_of (fun hm=>?_) (fun hm=>?_)
     ·show ∃ q:AV,_
      refine W J_mvS ?_
      rw[hadd]
      exact hKE2 _ _ _ ⟨rfl,r+1,rfl,by omega,hlr,by rw[htk,hm];rfl⟩ (by simp[intA];omega)
     ·show ∃ q:AV,_
      (repeat (first|with_reducible_and_instances (first|refine WJ ?_|refine W (J_ldp p3 (by with_unfolding_all rfl) (by with_unfolding_all rfl)) ?_|refine W (J_ldp p1 (by with_unfolding_all rfl) (by with_unfolding_all rfl)) ?_|refine W (J_ldN (n:=8) p1 (by with_unfolding_all rfl)) ?_|refine W (J_ix hlr) ?_|refine W (J_ix hlt) ?_|refine W (J_ldq (by with_unfolding_all rfl)) ?_)|refine J_cA (ans67 hc.ok (s:=ss[r]) (hfair.1 _ (List.getElem_mem hlt))) rfl rfl ?_|refine C_A (ans67 hc.ok (s:=ss[r]) (hfair.1 _ (List.getElem_mem hlt))) rfl rfl ?_))
      rw[hadd]
      exact hKE2 _ _ _ ⟨rfl,r+1,rfl,by omega,hlr,by rw[htk,hm,Bool.false_or]⟩ (by simp[intA];omega)
    ·have hgr:r=ss.length:=by have:=dF hgr;omega
     subst hgr
     rw[List.take_of_length_le (by simp),un_not,onB_v]
     refine gd_of (fun h=>?_) (fun h=>?_)
     ·exact no2 (fun hq=>by
        have:=List.all_eq_true.1 hq.2 _ (List.getElem_mem hlt)
        rw[this]at h;cases h) rfl k4
     ·rw[bin_add (by omega) (by omega)]
      exact hKE1 _ _ ⟨rfl,i+1,rfl,hlt,lt_step (p:=fun l=>((ss.drop j).any fun s=>isB c s l)=true) (hi:=hlt) hmet (by simpa using h)⟩ (by simp[intA];omega)
   ·have hge:i=c.fair.length:=by have:=dF hge;omega
    subst hge
    rw[yes hchain (all_lt fun m hm=>hmet m hm hm)]
    rw[ldN_p (n:=8) p1 rfl,shift_p,ld1_p p3 rfl rfl,shift_p,ld1_p p3 rfl rfl]
    refine callF_frz (args:=[c.av,y,aL aI ss,tnL ks]) (args2:=[c.av,foL (List.replicate ss.length f0),aL aI ss,tnL ks]) (newer S3.n) rfl (fun j u u2 e1 e2=>?_) (ans68 hk IH (fun f hf=>?_) _) ?_
    ·match j with
     |0=>cases e1;cases e2;exact Ci.tr' c _ _
     |1=>cases e1;cases e2;exact own_fo w4 (Nat.le_refl _)
     |2=>cases e1;cases e2;exact treeI _ _ _
     |3=>cases e1;cases e2;exact tnL_tr _ _ _
     |j+4=>simp at e1
    ·rw[(List.mem_replicate.1 hf).2];exact h0
    ·rw[extr_t rfl,extr_t rfl]
     exact⟨rfl,k4.frz (by have:=kk.1;omega)⟩
def leafB(j tk a:Int)(ss:List Int)(ks:List Tn):Bool:=decide (tk=j) && decide (a=0∧ss.length=0∧ks.length=0)
theorem leaf_eq(j tk a:Int)(ss:List Int)(ks:List Tn):decide (tk=j∧a=0∧ss = []∧ks.map Tn.st = [])=leafB j tk a ss ks:=by
 unfold leafB
 rw[←Bool.decide_and]
 refine decide_eq_decide.2 ?_
 rw[List.length_eq_zero_iff,List.length_eq_zero_iff,List.map_eq_nil_iff]
def runA (c:Ci) (ks:List Tn):(Int × Bool) ⊕ (List Fo × List Int)→Int × Bool
 |.inl r=>r
 |.inr p=>Tn.accs c ks p.1 p.2 0
section
variable {c:Ci} {tk s a l:Int} {ss:List Int} {ks:List Tn} {nm:ByteArray} {fs:List Fo}
theorem acc_mk{f:Fo}:Tn.acc c (.mk tk s a ss ks) f=runA c ks (planA c f tk s a ss (ks.map Tn.st)):=by
 rw[Tn.acc]
 cases planA c f tk s a ss (ks.map Tn.st)<;>rfl
theorem runA_ite{p:Prop}[Decidable p]{x:List Fo}{y:List Int}{r:Int × Bool}:runA c ks (if p then .inr (x,y)else .inl r)=if p then Tn.accs c ks x y 0 else r:=by split<;>rfl
theorem acc_inv(f:Fo)(h:validS c s=false):Tn.acc c (.mk tk s a ss ks) f=(0,false):=by
 obtain⟨k,n,l,fs⟩:=f
 rw[acc_mk,planA,if_pos h];first|rfl|(simp[runA];done)
theorem acc_1(h:validS c s=true):Tn.acc c (.mk tk s a ss ks) (.mk 1 nm l fs)=(0,false):=by
 rw[acc_mk,planA,if_neg (by simp[h]),if_pos rfl];first|rfl|(simp[runA];done)
theorem acc_2(h:validS c s=true):Tn.acc c (.mk tk s a ss ks) (.mk 2 nm l fs)=(0,leafB 1 tk a ss ks):=by
 rw[acc_mk,planA,if_neg (by simp[h]),if_neg (by decide),if_pos rfl,leaf_eq];first|rfl|(simp[runA];done)
theorem acc_3(h:validS c s=true):Tn.acc c (.mk tk s a ss ks) (.mk 3 nm l fs)=(0,leafB 1 tk a ss ks && isB c s l):=by
 rw[acc_mk,planA,if_neg (by simp[h]),if_neg (by decide),if_neg (by decide),if_pos rfl,leaf_eq];first|rfl|(simp[runA];done)
theorem acc_4{n2:ByteArray}{l2:Int}{f2:List Fo}(h:validS c s=true):Tn.acc c (.mk tk s a ss ks) (.mk 4 nm l [.mk 3 n2 l2 f2])=(0,leafB 1 tk a ss ks && !isB c s l2):=by
 rw[acc_mk,planA,if_neg (by simp[h]),if_neg (by decide),if_neg (by decide),if_neg (by decide),if_pos rfl,leaf_eq];first|rfl|(simp[runA];done)
theorem acc_5(h:validS c s=true):Tn.acc c (.mk tk s a ss ks) (.mk 5 nm l fs)=if tk=2∧a=0∧ss = []then Tn.accs c ks fs [s,s] 0 else(0,false):=by
 rw[acc_mk,planA,if_neg (by simp[h]),if_neg (by decide),if_neg (by decide),if_neg (by decide),if_neg (by decide),if_pos rfl]
 exact runA_ite
theorem acc_6(h:validS c s=true):Tn.acc c (.mk tk s a ss ks) (.mk 6 nm l fs)=if tk=3∧0≤a∧a≤1∧ss = []then Tn.accs c ks [fs.getD a.toNat fo0] [s] 0 else(0,false):=by
 rw[acc_mk,planA,if_neg (by simp[h]),if_neg (by decide),if_neg (by decide),if_neg (by decide),if_neg (by decide),if_neg (by decide),if_pos rfl]
 exact runA_ite
theorem acc_9(h:validS c s=true):Tn.acc c (.mk tk s a ss ks) (.mk 9 nm l fs)=if tk=4∧a=0∧ss = []∧(ks.map Tn.st).length=2∧behindS c s ((ks.map Tn.st).getD 0 0)=true then Tn.accs c ks [fs.getD 0 fo0,foG] [(ks.map Tn.st).getD 0 0,(ks.map Tn.st).getD 0 0] 0 else(0,false):=by
 rw[acc_mk,planA,if_neg (by simp[h]),if_neg (by decide),if_neg (by decide),if_neg (by decide),if_neg (by decide),if_neg (by decide),if_neg (by decide),if_pos rfl]
 exact runA_ite
theorem acc_11{f:Fo}(h:validS c s=true):Tn.acc c (.mk tk s a ss ks) (.mk 11 nm l [f])=pathR c fo2 f tk s a ss ks:=by
 rw[acc_mk,planA,if_neg (by simp[h]),if_neg (by decide),if_neg (by decide),if_neg (by decide),if_neg (by decide),if_neg (by decide),if_neg (by decide),if_neg (by decide),if_pos (.inl rfl),pathR,if_pos rfl,if_pos rfl]
 exact runA_ite
theorem acc_15{f g:Fo}(h:validS c s=true):Tn.acc c (.mk tk s a ss ks) (.mk 15 nm l [f,g])=pathR c f g tk s a ss ks:=by
 rw[acc_mk,planA,if_neg (by simp[h]),if_neg (by decide),if_neg (by decide),if_neg (by decide),if_neg (by decide),if_neg (by decide),if_neg (by decide),if_neg (by decide),if_pos (.inr rfl),pathR]
 exact runA_ite
theorem acc_13{f:Fo}(h:validS c s=true):Tn.acc c (.mk tk s a ss ks) (.mk 13 nm l [f])=loopR c f tk s a ss ks:=by
 rw[acc_mk,planA,if_neg (by simp[h]),if_neg (by decide),if_neg (by decide),if_neg (by decide),if_neg (by decide),if_neg (by decide),if_neg (by decide),if_neg (by decide),if_neg (by decide),if_pos rfl,loopR]
 exact runA_ite
theorem acc_17{f g:Fo}(h:validS c s=true):Tn.acc c (.mk tk s a ss ks) (.mk 17 nm l [f,g])=if tk=3∧0≤a∧a≤1∧ss = []then Tn.accs c ks [if a=0 then foOne 13 g else foTwo 15 g (foTwo 5 f g)] [s] 0 else(0,false):=by
 rw[acc_mk,planA,if_neg (by simp[h]),if_neg (by decide),if_neg (by decide),if_neg (by decide),if_neg (by decide),if_neg (by decide),if_neg (by decide),if_neg (by decide),if_neg (by decide),if_neg (by decide),if_pos rfl]
 exact runA_ite
theorem acc_t{k:Int}(hk:k=10∨k=12∨k=14∨k=16∨k=18)(h:validS c s=true):Tn.acc c (.mk tk s a ss ks) (.mk k nm l fs)=(1,leafB 7 tk a ss ks):=by
 rw[acc_mk,planA,if_neg (by simp[h]),if_neg (by omega),if_neg (by omega),if_neg (by omega),if_neg (by omega),if_neg (by omega),if_neg (by omega),if_neg (by omega),if_neg (by omega),if_neg (by omega),if_neg (by omega),leaf_eq];first|rfl|(simp[runA];done)
end
set_option linter.unusedSectionVars false
theorem J_bslA42{e:Nat}{z1 z2 z3 z4:AV}{r r2:List AV}{S0:Store}{P:AV→Prop}(hr:r.length=4)(hr2:r2.length=4)(k:P (.l [r,r2])):∃ q,(bslN e 4 2 [z1,z2,z3,z4] [(0,.a r),(1,.a r2)] S0 fun v S=>v=q∧S=S0)∧P q:=⟨_,bslA42 hr hr2 ⟨rfl,rfl⟩,k⟩
theorem J_bsl2{e:Nat}{z:AV}{x y:Value}{S0:Store}{P:AV→Prop}(hx:(AV.v x).one=true)(hy:(AV.v y).one=true)(k:P (.l [[.v x],[.v y]])):∃ q,(bslN e 1 2 [z] [(0,.v x),(1,.v y)] S0 fun v S=>v=q∧S=S0)∧P q:=⟨_,bsl2 hx hy ⟨rfl,rfl⟩,k⟩
theorem J_F0{e:Nat}{f:Fo}{l:List Fo}{S0:Store}{P:AV→Prop}:(∃ q,(ixS e 4 (foL (f :: l)) (.v (.int .i64 0)) S0 fun v S=>v=q∧S=S0)∧P q)=P (.q f.row 0):=J_of (op:=fun K=>ixS e 4 (foL (f :: l)) (.v (.int .i64 0)) S0 K) fun K=>ixF0
theorem J_F1{e:Nat}{f g:Fo}{l:List Fo}{S0:Store}{P:AV→Prop}:(∃ q,(ixS e 4 (foL (f :: g :: l)) (.v (.int .i64 1)) S0 fun v S=>v=q∧S=S0)∧P q)=P (.q g.row 0):=J_of (op:=fun K=>ixS e 4 (foL (f :: g :: l)) (.v (.int .i64 1)) S0 K) fun K=>ixF1
theorem ixT0{e:Nat}{f:Tn}{l:List Tn}{S:Store}{K:AV→Store→Prop}:ixS e 5 (tnL (f :: l)) (.v (.int .i64 0)) S K=K (.q f.row 0) S:=ixS_tnL (i:=0) (by simp)
theorem J_T0{e:Nat}{f:Tn}{l:List Tn}{S0:Store}{P:AV→Prop}:(∃ q,(ixS e 5 (tnL (f :: l)) (.v (.int .i64 0)) S0 fun v S=>v=q∧S=S0)∧P q)=P (.q f.row 0):=J_of (op:=fun K=>ixS e 5 (tnL (f :: l)) (.v (.int .i64 0)) S0 K) fun K=>ixT0
theorem J_lenT{l:List Tn}{S0:Store}{P:AV→Prop}:(∃ q,(lenS (tnL l) S0 fun v S=>v=q∧S=S0)∧P q)=P (aI l.length):=J_of (op:=fun K=>lenS (tnL l) S0 K) fun K=>lenS_tnL l
theorem Tn.row1(t:Tn):t.row[1]? = some (aI t.st):=by cases t;rw[Tn.row_mk];rfl
theorem J_slc0{e:Nat}{f g:Fo}{S0:Store}{P:AV→Prop}:(∃ q,(slc e 4 (foL [f,g]) (some (aI 0)) (some (aI 1)) none S0 fun v S=>v=q∧S=S0)∧P q)=P (foL [f]):=J_of (op:=fun K=>slc e 4 (foL [f,g]) (some (aI 0)) (some (aI 1)) none S0 K) fun K=>by simp[slc,bnd,intA,foL,Fo.row_len]
theorem J_slc1{e:Nat}{f g:Fo}{S0:Store}{P:AV→Prop}:(∃ q,(slc e 4 (foL [f,g]) (some (aI 1)) (some (aI 2)) none S0 fun v S=>v=q∧S=S0)∧P q)=P (foL [g]):=J_of (op:=fun K=>slc e 4 (foL [f,g]) (some (aI 1)) (some (aI 2)) none S0 K) fun K=>by simp[slc,bnd,intA,foL,Fo.row_len]
theorem slen0{ss:List Int}:(¬ ss = [])→decide ((0:Int)<(ss.length:Int))=true:=fun h=>decide_eq_true (by have:=List.length_pos_iff.2 h;omega)
section
variable {c:Ci} (hc:Cs c) {ks:List Tn} (hk:ks.length≤1000000) (IH:∀ t∈ks,∀ f,Pu f→Ans Pg 34 [c.av,f.av,t.av] (aR (t.acc c f))) {ss:List Int} (hs:ss.length≤1000000) (tk s a:Int)
include hc hk IH hs
theorem acc20_inv(hv:validS c s=false):∀ f:Fo,Ans Pg 34 [c.av,f.av,(Tn.mk tk s a ss ks).av] (aR (Tn.acc c (.mk tk s a ss ks) f)):=by
 rintro⟨k,nm,l,fs⟩
 rw[acc_inv _ hv]
 intro S
 refine ACalls.ansT (calls34 ?_)
 unfold m34
 rw[Fo.av,Fo.row_mk,Tn.av,Tn.row_mk]
 refine boxA_of rfl fun S1 k1 n1 o1=>?_
 refine boxA_of rfl fun S2 k2 n2 o2=>?_
 refine boxA_of rfl fun S3 k3 n3 o3=>?_
 have kk:=(k1.trans k2).trans k3
 have p1:=(k3.2 _ (by omega)).trans ((k2.2 _ (by omega)).trans o1)
 have p2:=(k3.2 _ (by omega)).trans o2
 rw[ldN_p (n:=8) p1 rfl,shift_p,ld1_p o3 rfl rfl]
 refine callF_ans (ans65 hc s) ?_
 rw[un_not,hv,onB_v,gd_nF (b:=false) rfl]
 exact⟨rfl,kk⟩
variable (hv:validS c s=true)
include hv
theorem acc20_2 :Ans Pg 34 [c.av,(Fo.mk 2 ⟨#[]⟩ 0 []).av,(Tn.mk tk s a ss ks).av] (aR (Tn.acc c (.mk tk s a ss ks) (Fo.mk 2 ⟨#[]⟩ 0 []))):=by
 rw[acc_2 hv]
 intro S
 refine ACalls.ansT (calls34 ?_)
 unfold m34
 rw[Fo.av,Fo.row_mk,Tn.av,Tn.row_mk]
 refine boxA_of rfl fun S1 k1 n1 o1=>?_
 refine boxA_of rfl fun S2 k2 n2 o2=>?_
 refine boxA_of rfl fun S3 k3 n3 o3=>?_
 have kk:=(k1.trans k2).trans k3
 have p1:=(k3.2 _ (by omega)).trans ((k2.2 _ (by omega)).trans o1)
 have p2:=(k3.2 _ (by omega)).trans o2
 rw[ldN_p (n:=8) p1 rfl,shift_p,ld1_p o3 rfl rfl]
 refine callF_ans (ans65 hc s) ?_
 rw[un_not,hv,onB_v,gd_nT (b:=true) rfl,shift_p,ld1_p o3 rfl rfl]
 refine bsl1 rfl (fun _ h=>by cases h) ?_
 rw[shift_p,ld1_p p2 rfl rfl]
 repeat (refine tno (by omega) ?_)
 refine tyes rfl ?_
 have ce:=ans66 tk s a ss ks
 rw[Tn.av,Tn.row_mk]at ce
 rw[shift_p,ld1_p o3 rfl rfl,bin_eql,onB_v]
 unfold leafB
 refine gd_of (fun h=>?_) (fun h=>⟨by rw[h];rfl,kk⟩)
 rw[h,Bool.true_and,ldN_p (n:=5) o3 rfl]
 exact callF_ans ce ⟨rfl,kk⟩
theorem acc20_3(l:Int)(hl:i64R l):Ans Pg 34 [c.av,(Fo.mk 3 ⟨#[]⟩ l []).av,(Tn.mk tk s a ss ks).av] (aR (Tn.acc c (.mk tk s a ss ks) (Fo.mk 3 ⟨#[]⟩ l []))):=by
 rw[acc_3 hv]
 intro S
 refine ACalls.ansT (calls34 ?_)
 unfold m34
 rw[Fo.av,Fo.row_mk,Tn.av,Tn.row_mk]
 refine boxA_of rfl fun S1 k1 n1 o1=>?_
 refine boxA_of rfl fun S2 k2 n2 o2=>?_
 refine boxA_of rfl fun S3 k3 n3 o3=>?_
 have kk:=(k1.trans k2).trans k3
 have p1:=(k3.2 _ (by omega)).trans ((k2.2 _ (by omega)).trans o1)
 have p2:=(k3.2 _ (by omega)).trans o2
 rw[ldN_p (n:=8) p1 rfl,shift_p,ld1_p o3 rfl rfl]
 refine callF_ans (ans65 hc s) ?_
 rw[un_not,hv,onB_v,gd_nT (b:=true) rfl,shift_p,ld1_p o3 rfl rfl]
 refine bsl1 rfl (fun _ h=>by cases h) ?_
 rw[shift_p,ld1_p p2 rfl rfl]
 repeat (refine tno (by omega) ?_)
 refine tyes rfl ?_
 have ce:=ans66 tk s a ss ks
 rw[Tn.av,Tn.row_mk]at ce
 rw[shift_p,ld1_p o3 rfl rfl,bin_eql,onB_v]
 unfold leafB
 refine gd_of (fun h=>?_) (fun h=>⟨by rw[h,Bool.false_and,Bool.false_and],kk⟩)
 rw[h,Bool.true_and,ldN_p (n:=5) o3 rfl]
 refine callF_ans ce ?_
 rw[onB_v]
 refine gd_of (fun h=>?_) (fun h=>⟨by rw[h,Bool.false_and],kk⟩)
 rw[h,Bool.true_and,ldN_p (n:=8) p1 rfl,shift_p,ld1_p o3 rfl rfl,shift_p,ld1_p p2 rfl rfl]
 exact callF_ans (ans67 hc.ok hl) ⟨rfl,kk⟩
theorem acc20_4(l:Int)(hl:i64R l):Ans Pg 34 [c.av,(Fo.mk 4 ⟨#[]⟩ 0 [.mk 3 ⟨#[]⟩ l []]).av,(Tn.mk tk s a ss ks).av] (aR (Tn.acc c (.mk tk s a ss ks) (Fo.mk 4 ⟨#[]⟩ 0 [.mk 3 ⟨#[]⟩ l []]))):=by
 rw[acc_4 hv]
 intro S
 refine ACalls.ansT (calls34 ?_)
 unfold m34
 rw[Fo.av,Fo.row_mk,Tn.av,Tn.row_mk]
 refine boxA_of rfl fun S1 k1 n1 o1=>?_
 refine boxA_of rfl fun S2 k2 n2 o2=>?_
 refine boxA_of rfl fun S3 k3 n3 o3=>?_
 have kk:=(k1.trans k2).trans k3
 have p1:=(k3.2 _ (by omega)).trans ((k2.2 _ (by omega)).trans o1)
 have p2:=(k3.2 _ (by omega)).trans o2
 rw[ldN_p (n:=8) p1 rfl,shift_p,ld1_p o3 rfl rfl]
 refine callF_ans (ans65 hc s) ?_
 rw[un_not,hv,onB_v,gd_nT (b:=true) rfl,shift_p,ld1_p o3 rfl rfl]
 refine bsl1 rfl (fun _ h=>by cases h) ?_
 rw[shift_p,ld1_p p2 rfl rfl]
 repeat (refine tno (by omega) ?_)
 refine tyes rfl ?_
 have ce:=ans66 tk s a ss ks
 rw[Tn.av,Tn.row_mk]at ce
 have r2:(Fo.mk 3 ⟨#[]⟩ l []).row[2]? = some (aI l):=by rw[Fo.row_mk];rfl
 show ∃ q:AV,_
 unfold leafB
 by_cases e1:¬ tk=1
 ·rw[decide_eq_false e1,Bool.false_and,Bool.false_and]
  (repeat (first|with_reducible_and_instances (first|refine WJ ?_|refine W (J_ldp o3 (by with_unfolding_all rfl) (by with_unfolding_all rfl)) ?_|refine W (J_ldq (by with_unfolding_all rfl)) ?_)))
  rw[decide_eq_false e1]
  (repeat (first|with_reducible_and_instances (first|refine WJ ?_|refine W (J_ldp o3 (by with_unfolding_all rfl) (by with_unfolding_all rfl)) ?_|refine W (J_ldq (by with_unfolding_all rfl)) ?_)))
  exact⟨rfl,kk⟩
 have e1:=Decidable.not_not.1 e1
 rw[decide_eq_true e1,Bool.true_and]
 (repeat (first|with_reducible_and_instances (first|refine WJ ?_|refine W (J_ldp o3 (by with_unfolding_all rfl) (by with_unfolding_all rfl)) ?_|refine W (J_ldq (by with_unfolding_all rfl)) ?_)))
 rw[decide_eq_true e1]
 (repeat (first|with_reducible_and_instances (first|refine WJ ?_|refine W (J_ldp o3 (by with_unfolding_all rfl) (by with_unfolding_all rfl)) ?_|refine W (J_ldN (n:=5) o3 (by with_unfolding_all rfl)) ?_|refine W (J_ldq (by with_unfolding_all rfl)) ?_)|refine J_cA (ce) rfl rfl ?_|refine C_A (ce) rfl rfl ?_))
 cases e2:decide (a=0∧ss.length=0∧ks.length=0)with
 |false =>
  (repeat (first|with_reducible_and_instances (first|refine WJ ?_|refine W (J_ldq (by with_unfolding_all rfl)) ?_)))
  exact⟨rfl,kk⟩
 |true =>
  rw[Bool.true_and]
  (repeat (first|with_reducible_and_instances (first|refine WJ ?_|refine W (J_ldp o3 (by with_unfolding_all rfl) (by with_unfolding_all rfl)) ?_|refine W (J_ldp p2 (by with_unfolding_all rfl) (by with_unfolding_all rfl)) ?_|refine W (J_ldN (n:=8) p1 (by with_unfolding_all rfl)) ?_|refine W (J_F0) ?_|refine W (J_ldq r2) ?_|refine W (J_ldq (by with_unfolding_all rfl)) ?_)|refine J_cA (ans67 hc.ok (s:=s) hl) rfl rfl ?_|refine C_A (ans67 hc.ok (s:=s) hl) rfl rfl ?_))
  exact⟨rfl,kk⟩
theorem acc20_5{f g:Fo}(hf:Pu f)(hg:Pu g):Ans Pg 34 [c.av,(Fo.mk 5 ⟨#[]⟩ 0 [f,g]).av,(Tn.mk tk s a ss ks).av] (aR (Tn.acc c (.mk tk s a ss ks) (Fo.mk 5 ⟨#[]⟩ 0 [f,g]))):=by
 rw[acc_5 hv]
 intro S
 refine ACalls.ansT (calls34 ?_)
 unfold m34
 rw[Fo.av,Fo.row_mk,Tn.av,Tn.row_mk]
 refine boxA_of rfl fun S1 k1 n1 o1=>?_
 refine boxA_of rfl fun S2 k2 n2 o2=>?_
 refine boxA_of rfl fun S3 k3 n3 o3=>?_
 have kk:=(k1.trans k2).trans k3
 have p1:=(k3.2 _ (by omega)).trans ((k2.2 _ (by omega)).trans o1)
 have p2:=(k3.2 _ (by omega)).trans o2
 rw[ldN_p (n:=8) p1 rfl,shift_p,ld1_p o3 rfl rfl]
 refine callF_ans (ans65 hc s) ?_
 rw[un_not,hv,onB_v,gd_nT (b:=true) rfl,shift_p,ld1_p o3 rfl rfl]
 refine bsl1 rfl (fun _ h=>by cases h) ?_
 rw[shift_p,ld1_p p2 rfl rfl]
 repeat (refine tno (by omega) ?_)
 refine tyes rfl ?_
 have ce:=ans66 tk s a ss ks
 rw[Tn.av,Tn.row_mk]at ce
 have no:¬ (tk=2∧a=0∧ss = [])→∀ T,Keep S T→AEnd.ret (.t [aI 0,aB false]) = .ret (aR (if tk=2∧a=0∧ss = []then Tn.accs c ks [f,g] [s,s] 0 else(0,false)))∧Keep S T:=fun h T hT=>⟨by rw[if_neg h],hT⟩
 rw[shift_p,ld1_p o3 rfl rfl,bin_neq,onB_v]
 by_cases e1:¬ tk=2
 ·rw[decide_eq_false e1]
  exact no (fun h=>e1 h.1) _ kk
 have e1:=Decidable.not_not.1 e1
 rw[decide_eq_true e1,gd_nT (b:=true) rfl,shift_p,ld1_p o3 rfl rfl,bin_neq,onB_v]
 by_cases e2:¬ a=0
 ·rw[decide_eq_false e2]
  exact no (fun h=>e2 h.2.1) _ kk
 have e2:=Decidable.not_not.1 e2
 rw[decide_eq_true e2,gd_nT (b:=true) rfl,shift_p,ld1_p o3 rfl rfl,lenS_aL,bin_gtr,onB_v]
 by_cases e3:¬ ss = []
 ·rw[slen0 e3]
  exact no (fun h=>e3 h.2.2) _ kk
 have e3:=Decidable.not_not.1 e3
 rw[if_pos ⟨e1,e2,e3⟩]
 clear no
 rw[show decide ((0:Int)<(ss.length:Int))=false from decide_eq_false (by simp[e3]),gd_false,ldN_p (n:=8) p1 rfl,shift_p,ld1_p p2 rfl rfl,shift_p,ld1_p o3 rfl rfl,shift_p,ld1_p o3 rfl rfl]
 refine bsl2 rfl rfl ?_
 rw[shift_p,ld1_p o3 rfl rfl]
 refine callF_ans (ans68 hk IH (fs:=[f,g]) (fun x hx=>?_) [s,s]) ?_
 ·simp only[List.mem_cons,List.not_mem_nil,or_false]at hx
  rcases hx with rfl|rfl
  ·exact hf
  ·exact hg
 rw[extr_t rfl,extr_t rfl]
 exact⟨rfl,kk⟩
theorem acc20_6{f g:Fo}(hf:Pu f)(hg:Pu g):Ans Pg 34 [c.av,(Fo.mk 6 ⟨#[]⟩ 0 [f,g]).av,(Tn.mk tk s a ss ks).av] (aR (Tn.acc c (.mk tk s a ss ks) (Fo.mk 6 ⟨#[]⟩ 0 [f,g]))):=by
 rw[acc_6 hv]
 intro S
 refine ACalls.ansT (calls34 ?_)
 unfold m34
 rw[Fo.av,Fo.row_mk,Tn.av,Tn.row_mk]
 refine boxA_of rfl fun S1 k1 n1 o1=>?_
 refine boxA_of rfl fun S2 k2 n2 o2=>?_
 refine boxA_of rfl fun S3 k3 n3 o3=>?_
 have kk:=(k1.trans k2).trans k3
 have p1:=(k3.2 _ (by omega)).trans ((k2.2 _ (by omega)).trans o1)
 have p2:=(k3.2 _ (by omega)).trans o2
 rw[ldN_p (n:=8) p1 rfl,shift_p,ld1_p o3 rfl rfl]
 refine callF_ans (ans65 hc s) ?_
 rw[un_not,hv,onB_v,gd_nT (b:=true) rfl,shift_p,ld1_p o3 rfl rfl]
 refine bsl1 rfl (fun _ h=>by cases h) ?_
 rw[shift_p,ld1_p p2 rfl rfl]
 repeat (refine tno (by omega) ?_)
 refine tyes rfl ?_
 have ce:=ans66 tk s a ss ks
 rw[Tn.av,Tn.row_mk]at ce
 have no:¬ (tk=3∧0≤a∧a≤1∧ss = [])→∀ T,Keep S T→AEnd.ret (.t [aI 0,aB false]) = .ret (aR (if tk=3∧0≤a∧a≤1∧ss = []then Tn.accs c ks [[f,g].getD a.toNat fo0] [s] 0 else(0,false)))∧Keep S T:=fun h T hT=>⟨by rw[if_neg h],hT⟩
 rw[shift_p,ld1_p o3 rfl rfl,bin_neq,onB_v]
 by_cases e1:¬ tk=3
 ·rw[decide_eq_false e1]
  exact no (fun h=>e1 h.1) _ kk
 have e1:=Decidable.not_not.1 e1
 rw[decide_eq_true e1,gd_nT (b:=true) rfl,shift_p,ld1_p o3 rfl rfl,bin_lss,onB_v]
 by_cases e2:a<0
 ·rw[decide_eq_true e2]
  exact no (fun h=>by omega) _ kk
 rw[decide_eq_false e2,gd_false,shift_p,ld1_p o3 rfl rfl,bin_gtr,onB_v]
 by_cases e4:1<a
 ·rw[decide_eq_true e4]
  exact no (fun h=>by omega) _ kk
 rw[decide_eq_false e4,gd_false,shift_p,ld1_p o3 rfl rfl,lenS_aL,bin_gtr,onB_v]
 by_cases e3:¬ ss = []
 ·rw[slen0 e3]
  exact no (fun h=>e3 h.2.2.2) _ kk
 have e3:=Decidable.not_not.1 e3
 rw[if_pos ⟨e1,by omega,by omega,e3⟩]
 clear no
 rw[show decide ((0:Int)<(ss.length:Int))=false from decide_eq_false (by simp[e3]),gd_false]
 show ∃ q:AV,_
 have h01:a=0∨a=1:=by omega
 rcases h01 with rfl|rfl
 ·(repeat (first|with_reducible_and_instances (first|refine WJ ?_|refine W (J_ldp o3 (by with_unfolding_all rfl) (by with_unfolding_all rfl)) ?_|refine W (J_ldp p2 (by with_unfolding_all rfl) (by with_unfolding_all rfl)) ?_|refine W (J_ldN (n:=8) p1 (by with_unfolding_all rfl)) ?_|refine W (J_add (by decide) (by decide)) ?_|refine W (J_ext (by with_unfolding_all rfl)) ?_|refine W (J_slc0) ?_|refine W (J_ldq (by with_unfolding_all rfl)) ?_)|refine J_cA (ans68 hk IH (fs:=[f]) (fun x hx=>by rw[List.mem_singleton.1 hx];exact hf) [s]) rfl rfl ?_|refine C_A (ans68 hk IH (fs:=[f]) (fun x hx=>by rw[List.mem_singleton.1 hx];exact hf) [s]) rfl rfl ?_))
  exact⟨rfl,kk⟩
 ·(repeat (first|with_reducible_and_instances (first|refine WJ ?_|refine W (J_ldp o3 (by with_unfolding_all rfl) (by with_unfolding_all rfl)) ?_|refine W (J_ldp p2 (by with_unfolding_all rfl) (by with_unfolding_all rfl)) ?_|refine W (J_ldN (n:=8) p1 (by with_unfolding_all rfl)) ?_|refine W (J_add (by decide) (by decide)) ?_|refine W (J_ext (by with_unfolding_all rfl)) ?_|refine W (J_slc1) ?_|refine W (J_ldq (by with_unfolding_all rfl)) ?_)|refine J_cA (ans68 hk IH (fs:=[g]) (fun x hx=>by rw[List.mem_singleton.1 hx];exact hg) [s]) rfl rfl ?_|refine C_A (ans68 hk IH (fs:=[g]) (fun x hx=>by rw[List.mem_singleton.1 hx];exact hg) [s]) rfl rfl ?_))
  exact⟨rfl,kk⟩
theorem acc20_17{f g:Fo}(hf:Pu f)(hg:Pu g):Ans Pg 34 [c.av,(Fo.mk 17 ⟨#[]⟩ 0 [f,g]).av,(Tn.mk tk s a ss ks).av] (aR (Tn.acc c (.mk tk s a ss ks) (Fo.mk 17 ⟨#[]⟩ 0 [f,g]))):=by
 rw[acc_17 hv]
 intro S
 refine ACalls.ansT (calls34 ?_)
 unfold m34
 rw[Fo.av,Fo.row_mk,Tn.av,Tn.row_mk]
 refine boxA_of rfl fun S1 k1 n1 o1=>?_
 refine boxA_of rfl fun S2 k2 n2 o2=>?_
 refine boxA_of rfl fun S3 k3 n3 o3=>?_
 have kk:=(k1.trans k2).trans k3
 have p1:=(k3.2 _ (by omega)).trans ((k2.2 _ (by omega)).trans o1)
 have p2:=(k3.2 _ (by omega)).trans o2
 rw[ldN_p (n:=8) p1 rfl,shift_p,ld1_p o3 rfl rfl]
 refine callF_ans (ans65 hc s) ?_
 rw[un_not,hv,onB_v,gd_nT (b:=true) rfl,shift_p,ld1_p o3 rfl rfl]
 refine bsl1 rfl (fun _ h=>by cases h) ?_
 rw[shift_p,ld1_p p2 rfl rfl]
 repeat (refine tno (by omega) ?_)
 refine tyes rfl ?_
 have ce:=ans66 tk s a ss ks
 rw[Tn.av,Tn.row_mk]at ce
 have no:¬ (tk=3∧0≤a∧a≤1∧ss = [])→∀ T,Keep S T→AEnd.ret (.t [aI 0,aB false]) = .ret (aR (if tk=3∧0≤a∧a≤1∧ss = []then Tn.accs c ks [if a=0 then foOne 13 g else foTwo 15 g (foTwo 5 f g)] [s] 0 else(0,false)))∧Keep S T:=fun h T hT=>⟨by rw[if_neg h],hT⟩
 rw[shift_p,ld1_p o3 rfl rfl,bin_neq,onB_v]
 by_cases e1:¬ tk=3
 ·rw[decide_eq_false e1]
  exact no (fun h=>e1 h.1) _ kk
 have e1:=Decidable.not_not.1 e1
 rw[decide_eq_true e1,gd_nT (b:=true) rfl,shift_p,ld1_p o3 rfl rfl,bin_lss,onB_v]
 by_cases e2:a<0
 ·rw[decide_eq_true e2]
  exact no (fun h=>by omega) _ kk
 rw[decide_eq_false e2,gd_false,shift_p,ld1_p o3 rfl rfl,bin_gtr,onB_v]
 by_cases e4:1<a
 ·rw[decide_eq_true e4]
  exact no (fun h=>by omega) _ kk
 rw[decide_eq_false e4,gd_false,shift_p,ld1_p o3 rfl rfl,lenS_aL,bin_gtr,onB_v]
 by_cases e3:¬ ss = []
 ·rw[slen0 e3]
  exact no (fun h=>e3 h.2.2.2) _ kk
 have e3:=Decidable.not_not.1 e3
 rw[if_pos ⟨e1,by omega,by omega,e3⟩]
 clear no
 rw[show decide ((0:Int)<(ss.length:Int))=false from decide_eq_false (by simp[e3]),gd_false]
 show ∃ q:AV,_
 (repeat (first|with_reducible_and_instances (first|refine WJ ?_|refine W (J_ldp p2 (by with_unfolding_all rfl) (by with_unfolding_all rfl)) ?_|refine W (J_F0) ?_|refine W (J_F1) ?_|refine W (J_ldNq (Fo.row_len _)) ?_|refine W (J_ldq (by with_unfolding_all rfl)) ?_)|refine J_cA (ans23 g) rfl rfl ?_|refine C_A (ans23 g) rfl rfl ?_|refine J_cA (ans41 5 f g) rfl rfl ?_|refine C_A (ans41 5 f g) rfl rfl ?_|refine J_cA (ans24 g (foTwo 5 f g)) rfl rfl ?_|refine C_A (ans24 g (foTwo 5 f g)) rfl rfl ?_|refine J_bslA42 (Fo.row_len _) (Fo.row_len _) ?_))
 have h01:a=0∨a=1:=by omega
 rcases h01 with rfl|rfl
 ·(repeat (first|with_reducible_and_instances (first|refine WJ ?_|refine W (J_ldp o3 (by with_unfolding_all rfl) (by with_unfolding_all rfl)) ?_|refine W (J_ldp p2 (by with_unfolding_all rfl) (by with_unfolding_all rfl)) ?_|refine W (J_ldN (n:=8) p1 (by with_unfolding_all rfl)) ?_|refine W (J_add (by decide) (by decide)) ?_|refine W (J_ext (by with_unfolding_all rfl)) ?_|refine W (J_slc0) ?_|refine W (J_ldq (by with_unfolding_all rfl)) ?_)|refine J_cA (ans68 hk IH (fs:=[foOne 13 g]) (fun x hx=>by rw[List.mem_singleton.1 hx];exact .o _ _ (by decide) hg) [s]) rfl rfl ?_|refine C_A (ans68 hk IH (fs:=[foOne 13 g]) (fun x hx=>by rw[List.mem_singleton.1 hx];exact .o _ _ (by decide) hg) [s]) rfl rfl ?_))
  exact⟨rfl,kk⟩
 ·(repeat (first|with_reducible_and_instances (first|refine WJ ?_|refine W (J_ldp o3 (by with_unfolding_all rfl) (by with_unfolding_all rfl)) ?_|refine W (J_ldp p2 (by with_unfolding_all rfl) (by with_unfolding_all rfl)) ?_|refine W (J_ldN (n:=8) p1 (by with_unfolding_all rfl)) ?_|refine W (J_add (by decide) (by decide)) ?_|refine W (J_ext (by with_unfolding_all rfl)) ?_|refine W (J_slc1) ?_|refine W (J_ldq (by with_unfolding_all rfl)) ?_)|refine J_cA (ans68 hk IH (fs:=[foTwo 15 g (foTwo 5 f g)]) (fun x hx=>by rw[List.mem_singleton.1 hx];exact .t _ _ _ (by decide) hg (.t _ _ _ (by decide) hf hg)) [s]) rfl rfl ?_|refine C_A (ans68 hk IH (fs:=[foTwo 15 g (foTwo 5 f g)]) (fun x hx=>by rw[List.mem_singleton.1 hx];exact .t _ _ _ (by decide) hg (.t _ _ _ (by decide) hf hg)) [s]) rfl rfl ?_))
  exact⟨rfl,kk⟩
theorem acc20_9{f:Fo}(hf:Pu f):Ans Pg 34 [c.av,(Fo.mk 9 ⟨#[]⟩ 0 [f]).av,(Tn.mk tk s a ss ks).av] (aR (Tn.acc c (.mk tk s a ss ks) (Fo.mk 9 ⟨#[]⟩ 0 [f]))):=by
 rw[acc_9 hv]
 intro S
 refine ACalls.ansT (calls34 ?_)
 unfold m34
 rw[Fo.av,Fo.row_mk,Tn.av,Tn.row_mk]
 refine boxA_of rfl fun S1 k1 n1 o1=>?_
 refine boxA_of rfl fun S2 k2 n2 o2=>?_
 refine boxA_of rfl fun S3 k3 n3 o3=>?_
 have kk:=(k1.trans k2).trans k3
 have p1:=(k3.2 _ (by omega)).trans ((k2.2 _ (by omega)).trans o1)
 have p2:=(k3.2 _ (by omega)).trans o2
 rw[ldN_p (n:=8) p1 rfl,shift_p,ld1_p o3 rfl rfl]
 refine callF_ans (ans65 hc s) ?_
 rw[un_not,hv,onB_v,gd_nT (b:=true) rfl,shift_p,ld1_p o3 rfl rfl]
 refine bsl1 rfl (fun _ h=>by cases h) ?_
 rw[shift_p,ld1_p p2 rfl rfl]
 repeat (refine tno (by omega) ?_)
 refine tyes rfl ?_
 have ce:=ans66 tk s a ss ks
 rw[Tn.av,Tn.row_mk]at ce
 have no:¬ (tk=4∧a=0∧ss = []∧(ks.map Tn.st).length=2∧behindS c s ((ks.map Tn.st).getD 0 0)=true)→∀ T,Keep S T→AEnd.ret (.t [aI 0,aB false]) = .ret (aR (if tk=4∧a=0∧ss = []∧(ks.map Tn.st).length=2∧behindS c s ((ks.map Tn.st).getD 0 0)=true then Tn.accs c ks [[f].getD 0 fo0,foG] [(ks.map Tn.st).getD 0 0,(ks.map Tn.st).getD 0 0] 0 else(0,false)))∧Keep S T:=fun h T hT=>⟨by rw[if_neg h],hT⟩
 show ∃ q:AV,_
 (repeat (first|with_reducible_and_instances (first|refine WJ ?_|refine W (J_ldp o3 (by with_unfolding_all rfl) (by with_unfolding_all rfl)) ?_|refine W (J_ldq (by with_unfolding_all rfl)) ?_)))
 by_cases e1:¬ tk=4
 ·rw[decide_eq_false e1,Bool.not_false]
  (repeat (first|with_reducible_and_instances (first|refine WJ ?_|refine W (J_ldq (by with_unfolding_all rfl)) ?_)))
  exact no (fun h=>e1 h.1) _ kk
 have e1:=Decidable.not_not.1 e1
 rw[decide_eq_true e1,Bool.not_true]
 (repeat (first|with_reducible_and_instances (first|refine WJ ?_|refine W (J_ldp o3 (by with_unfolding_all rfl) (by with_unfolding_all rfl)) ?_|refine W (J_ldq (by with_unfolding_all rfl)) ?_)))
 by_cases e2:¬ a=0
 ·rw[decide_eq_false e2,Bool.not_false]
  (repeat (first|with_reducible_and_instances (first|refine WJ ?_|refine W (J_ldq (by with_unfolding_all rfl)) ?_)))
  exact no (fun h=>e2 h.2.1) _ kk
 have e2:=Decidable.not_not.1 e2
 rw[decide_eq_true e2,Bool.not_true]
 (repeat (first|with_reducible_and_instances (first|refine WJ ?_|refine W (J_ldp o3 (by with_unfolding_all rfl) (by with_unfolding_all rfl)) ?_|refine W (J_ldq (by with_unfolding_all rfl)) ?_)))
 by_cases e3:¬ ss = []
 ·rw[slen0 e3]
  (repeat (first|with_reducible_and_instances (first|refine WJ ?_|refine W (J_ldq (by with_unfolding_all rfl)) ?_)))
  exact no (fun h=>e3 h.2.2.1) _ kk
 have e3:=Decidable.not_not.1 e3
 rw[show decide ((0:Int)<(ss.length:Int))=false from decide_eq_false (by simp[e3])]
 (repeat (first|with_reducible_and_instances (first|refine WJ ?_|refine W (J_ldp o3 (by with_unfolding_all rfl) (by with_unfolding_all rfl)) ?_|refine W (J_lenT) ?_|refine W (J_ldq (by with_unfolding_all rfl)) ?_)))
 by_cases e4:¬ ks.length=2
 ·rw[show decide ((ks.length:Int)=2)=false from decide_eq_false (by omega),Bool.not_false]
  (repeat (first|with_reducible_and_instances (first|refine WJ ?_|refine W (J_ldq (by with_unfolding_all rfl)) ?_)))
  exact no (fun h=>e4 (by have:=h.2.2.2.1;rwa [List.length_map]at this)) _ kk
 have e4:=Decidable.not_not.1 e4
 rw[show decide ((ks.length:Int)=2)=true from decide_eq_true (by omega),Bool.not_true]
 obtain⟨t0,t1,rfl⟩:∃ t0 t1,ks = [t0,t1]:=by
  match ks,e4 with
  |[t0,t1],_=>exact⟨t0,t1,rfl⟩
 (repeat (first|with_reducible_and_instances (first|refine WJ ?_|refine W (J_ldp o3 (by with_unfolding_all rfl) (by with_unfolding_all rfl)) ?_|refine W (J_ldN (n:=8) p1 (by with_unfolding_all rfl)) ?_|refine W (J_T0) ?_|refine W (J_ldq (Tn.row1 _)) ?_|refine W (J_ldq (by with_unfolding_all rfl)) ?_)|refine J_cA (ans69 hc s t0.st) rfl rfl ?_|refine C_A (ans69 hc s t0.st) rfl rfl ?_))
 cases e5:behindS c s t0.st with
 |false =>
  rw[Bool.not_false]
  (repeat (first|with_reducible_and_instances (first|refine WJ ?_|refine W (J_ldq (by with_unfolding_all rfl)) ?_)))
  exact no (fun h=>by rw[show([t0,t1].map Tn.st).getD 0 0=t0.st from rfl,e5]at h;cases h.2.2.2.2) _ kk
 |true =>
  rw[Bool.not_true]
  have hall:=ans68 hk IH (fs:=[f,foG]) (fun x hx=>by
   simp only[List.mem_cons,List.not_mem_nil,or_false]at hx
   rcases hx with rfl|rfl
   ·exact hf
   ·exact .o _ _ (by decide) (.c _ (by decide))) [t0.st,t0.st]
  (repeat (first|with_reducible_and_instances (first|refine WJ ?_|refine W (J_ldp o3 (by with_unfolding_all rfl) (by with_unfolding_all rfl)) ?_|refine W (ld1_p o3 (by with_unfolding_all rfl) (by with_unfolding_all rfl)) ?_|refine W (ixT0) ?_|refine W (J_ldq (by with_unfolding_all rfl)) ?_)))
  have ld1q:∀ K:AV→Store→Prop,ld1 (.q t0.row 1) S3 K=K (aI t0.st) S3:=fun K=>by simp[ld1,rd1,place,Tn.row1]
  (repeat (first|with_reducible_and_instances (first|refine WJ ?_|refine W (J_ldp o3 (by with_unfolding_all rfl) (by with_unfolding_all rfl)) ?_|refine W (ld1q _) ?_|refine W (J_ldq (by with_unfolding_all rfl)) ?_)))
  (repeat (first|with_reducible_and_instances (first|refine WJ ?_|refine W (J_ldp o3 (by with_unfolding_all rfl) (by with_unfolding_all rfl)) ?_|refine W (J_ldp p2 (by with_unfolding_all rfl) (by with_unfolding_all rfl)) ?_|refine W (J_ldN (n:=8) p1 (by with_unfolding_all rfl)) ?_|refine W (J_F0) ?_|refine W (J_ldNq (Fo.row_len _)) ?_|refine W (J_ext (by with_unfolding_all rfl)) ?_|refine W (J_ldq (by with_unfolding_all rfl)) ?_)|refine J_cA (ans70) rfl rfl ?_|refine C_A (ans70) rfl rfl ?_|refine J_cA (ans23 fo2) rfl rfl ?_|refine C_A (ans23 fo2) rfl rfl ?_|refine J_bslA42 (Fo.row_len _) (Fo.row_len _) ?_|refine J_bsl2 rfl rfl ?_|refine J_cA (hall) rfl rfl ?_|refine C_A (hall) rfl rfl ?_))
  exact⟨by rw[if_pos ⟨e1,e2,e3,rfl,e5⟩];rfl,kk⟩
theorem acc20_11{f:Fo}(hf:Pu f):Ans Pg 34 [c.av,(Fo.mk 11 ⟨#[]⟩ 0 [f]).av,(Tn.mk tk s a ss ks).av] (aR (Tn.acc c (.mk tk s a ss ks) (Fo.mk 11 ⟨#[]⟩ 0 [f]))):=by
 rw[acc_11 hv]
 intro S
 refine ACalls.ansT (calls34 ?_)
 unfold m34
 rw[Fo.av,Fo.row_mk,Tn.av,Tn.row_mk]
 refine boxA_of rfl fun S1 k1 n1 o1=>?_
 refine boxA_of rfl fun S2 k2 n2 o2=>?_
 refine boxA_of rfl fun S3 k3 n3 o3=>?_
 have kk:=(k1.trans k2).trans k3
 have p1:=(k3.2 _ (by omega)).trans ((k2.2 _ (by omega)).trans o1)
 have p2:=(k3.2 _ (by omega)).trans o2
 rw[ldN_p (n:=8) p1 rfl,shift_p,ld1_p o3 rfl rfl]
 refine callF_ans (ans65 hc s) ?_
 rw[un_not,hv,onB_v,gd_nT (b:=true) rfl,shift_p,ld1_p o3 rfl rfl]
 refine bsl1 rfl (fun _ h=>by cases h) ?_
 rw[shift_p,ld1_p p2 rfl rfl]
 repeat (refine tno (by omega) ?_)
 refine tyes rfl ?_
 have ce:=ans66 tk s a ss ks
 rw[Tn.av,Tn.row_mk]at ce
 have cp:=ans71 hc hk IH (f0:=fo2) (.c _ (by decide)) hf 15 0 ⟨#[]⟩ hs tk s a
 rw[Tn.av,Tn.row_mk]at cp
 show ∃ q:AV,_
 (repeat (first|with_reducible_and_instances (first|refine WJ ?_|refine W (J_ldp o3 (by with_unfolding_all rfl) (by with_unfolding_all rfl)) ?_|refine W (J_ldp p2 (by with_unfolding_all rfl) (by with_unfolding_all rfl)) ?_|refine W (J_ldN (n:=8) p1 (by with_unfolding_all rfl)) ?_|refine W (J_ldN (n:=5) o3 (by with_unfolding_all rfl)) ?_|refine W (J_F0) ?_|refine W (J_ldNq (Fo.row_len _)) ?_|refine W (J_ext (by with_unfolding_all rfl)) ?_|refine W (J_ldq (by with_unfolding_all rfl)) ?_)|refine J_cA (ans70) rfl rfl ?_|refine C_A (ans70) rfl rfl ?_|refine J_cA (ans24 fo2 f) rfl rfl ?_|refine C_A (ans24 fo2 f) rfl rfl ?_|refine J_cA (cp) rfl rfl ?_|refine C_A (cp) rfl rfl ?_))
 exact⟨rfl,kk⟩
theorem acc20_15{f g:Fo}(hf:Pu f)(hg:Pu g):Ans Pg 34 [c.av,(Fo.mk 15 ⟨#[]⟩ 0 [f,g]).av,(Tn.mk tk s a ss ks).av] (aR (Tn.acc c (.mk tk s a ss ks) (Fo.mk 15 ⟨#[]⟩ 0 [f,g]))):=by
 rw[acc_15 hv]
 intro S
 refine ACalls.ansT (calls34 ?_)
 unfold m34
 rw[Fo.av,Fo.row_mk,Tn.av,Tn.row_mk]
 refine boxA_of rfl fun S1 k1 n1 o1=>?_
 refine boxA_of rfl fun S2 k2 n2 o2=>?_
 refine boxA_of rfl fun S3 k3 n3 o3=>?_
 have kk:=(k1.trans k2).trans k3
 have p1:=(k3.2 _ (by omega)).trans ((k2.2 _ (by omega)).trans o1)
 have p2:=(k3.2 _ (by omega)).trans o2
 rw[ldN_p (n:=8) p1 rfl,shift_p,ld1_p o3 rfl rfl]
 refine callF_ans (ans65 hc s) ?_
 rw[un_not,hv,onB_v,gd_nT (b:=true) rfl,shift_p,ld1_p o3 rfl rfl]
 refine bsl1 rfl (fun _ h=>by cases h) ?_
 rw[shift_p,ld1_p p2 rfl rfl]
 repeat (refine tno (by omega) ?_)
 refine tyes rfl ?_
 have ce:=ans66 tk s a ss ks
 rw[Tn.av,Tn.row_mk]at ce
 have cp:=ans71 hc hk IH hf hg 15 0 ⟨#[]⟩ hs tk s a
 rw[Fo.av,Fo.row_mk,Tn.av,Tn.row_mk]at cp
 rw[ldN_p (n:=8) p1 rfl,ldN_p (n:=4) p2 rfl,ldN_p (n:=5) o3 rfl]
 refine callF_ans cp ?_
 rw[extr_t rfl,extr_t rfl]
 exact⟨rfl,kk⟩
theorem acc20_13{f:Fo}(hf:Pu f):Ans Pg 34 [c.av,(Fo.mk 13 ⟨#[]⟩ 0 [f]).av,(Tn.mk tk s a ss ks).av] (aR (Tn.acc c (.mk tk s a ss ks) (Fo.mk 13 ⟨#[]⟩ 0 [f]))):=by
 rw[acc_13 hv]
 intro S
 refine ACalls.ansT (calls34 ?_)
 unfold m34
 rw[Fo.av,Fo.row_mk,Tn.av,Tn.row_mk]
 refine boxA_of rfl fun S1 k1 n1 o1=>?_
 refine boxA_of rfl fun S2 k2 n2 o2=>?_
 refine boxA_of rfl fun S3 k3 n3 o3=>?_
 have kk:=(k1.trans k2).trans k3
 have p1:=(k3.2 _ (by omega)).trans ((k2.2 _ (by omega)).trans o1)
 have p2:=(k3.2 _ (by omega)).trans o2
 rw[ldN_p (n:=8) p1 rfl,shift_p,ld1_p o3 rfl rfl]
 refine callF_ans (ans65 hc s) ?_
 rw[un_not,hv,onB_v,gd_nT (b:=true) rfl,shift_p,ld1_p o3 rfl rfl]
 refine bsl1 rfl (fun _ h=>by cases h) ?_
 rw[shift_p,ld1_p p2 rfl rfl]
 repeat (refine tno (by omega) ?_)
 refine tyes rfl ?_
 have ce:=ans66 tk s a ss ks
 rw[Tn.av,Tn.row_mk]at ce
 have cp:=ans72 hc hk IH hf 13 0 ⟨#[]⟩ hs tk s a
 rw[Fo.av,Fo.row_mk,Tn.av,Tn.row_mk]at cp
 rw[ldN_p (n:=8) p1 rfl,ldN_p (n:=4) p2 rfl,ldN_p (n:=5) o3 rfl]
 refine callF_ans cp ?_
 rw[extr_t rfl,extr_t rfl]
 exact⟨rfl,kk⟩
theorem acc20_1 :Ans Pg 34 [c.av,(Fo.mk 1 ⟨#[]⟩ 0 []).av,(Tn.mk tk s a ss ks).av] (aR (Tn.acc c (.mk tk s a ss ks) (Fo.mk 1 ⟨#[]⟩ 0 []))):=by
 rw[acc_1 hv]
 intro S
 refine ACalls.ansT (calls34 ?_)
 unfold m34
 rw[Fo.av,Fo.row_mk,Tn.av,Tn.row_mk]
 refine boxA_of rfl fun S1 k1 n1 o1=>?_
 refine boxA_of rfl fun S2 k2 n2 o2=>?_
 refine boxA_of rfl fun S3 k3 n3 o3=>?_
 have kk:=(k1.trans k2).trans k3
 have p1:=(k3.2 _ (by omega)).trans ((k2.2 _ (by omega)).trans o1)
 have p2:=(k3.2 _ (by omega)).trans o2
 rw[ldN_p (n:=8) p1 rfl,shift_p,ld1_p o3 rfl rfl]
 refine callF_ans (ans65 hc s) ?_
 rw[un_not,hv,onB_v,gd_nT (b:=true) rfl,shift_p,ld1_p o3 rfl rfl]
 refine bsl1 rfl (fun _ h=>by cases h) ?_
 rw[shift_p,ld1_p p2 rfl rfl]
 repeat (refine tno (by omega) ?_)
 refine tyes rfl ?_
 have ce:=ans66 tk s a ss ks
 rw[Tn.av,Tn.row_mk]at ce
 exact⟨rfl,kk⟩
theorem acc20_t{k:Int}(hk7:k=10∨k=12∨k=14∨k=16∨k=18)(fs:List Fo):Ans Pg 34 [c.av,(Fo.mk k ⟨#[]⟩ 0 fs).av,(Tn.mk tk s a ss ks).av] (aR (Tn.acc c (.mk tk s a ss ks) (Fo.mk k ⟨#[]⟩ 0 fs))):=by
 rw[acc_t hk7 hv]
 intro S
 refine ACalls.ansT (calls34 ?_)
 unfold m34
 rw[Fo.av,Fo.row_mk,Tn.av,Tn.row_mk]
 refine boxA_of rfl fun S1 k1 n1 o1=>?_
 refine boxA_of rfl fun S2 k2 n2 o2=>?_
 refine boxA_of rfl fun S3 k3 n3 o3=>?_
 have kk:=(k1.trans k2).trans k3
 have p1:=(k3.2 _ (by omega)).trans ((k2.2 _ (by omega)).trans o1)
 have p2:=(k3.2 _ (by omega)).trans o2
 rw[ldN_p (n:=8) p1 rfl,shift_p,ld1_p o3 rfl rfl]
 refine callF_ans (ans65 hc s) ?_
 rw[un_not,hv,onB_v,gd_nT (b:=true) rfl,shift_p,ld1_p o3 rfl rfl]
 refine bsl1 rfl (fun _ h=>by cases h) ?_
 rw[shift_p,ld1_p p2 rfl rfl]
 repeat (refine tno (by omega) ?_)
 have ce:=ans66 tk s a ss ks
 rw[Tn.av,Tn.row_mk]at ce
 rw[shift_p,ld1_p o3 rfl rfl,bin_eql,onB_v]
 unfold leafB
 refine gd_of (fun h=>?_) (fun h=>⟨by rw[h];rfl,kk⟩)
 rw[h,Bool.true_and,ldN_p (n:=5) o3 rfl]
 exact callF_ans ce ⟨rfl,kk⟩
omit hv
theorem acc20{f:Fo}(hf:Pu f):Ans Pg 34 [c.av,f.av,(Tn.mk tk s a ss ks).av] (aR (Tn.acc c (.mk tk s a ss ks) f)):=by
 cases hv:validS c s with
 |false=>exact acc20_inv hc hk IH hs tk s a hv f
 |true =>
  cases hf with
  |c k h =>
   rcases h with rfl|rfl
   ·exact acc20_1 hc hk IH hs tk s a hv
   ·exact acc20_2 hc hk IH hs tk s a hv
  |a l h0 hl=>exact acc20_3 hc hk IH hs tk s a hv l hl
  |n l h0 hl=>exact acc20_4 hc hk IH hs tk s a hv l hl
  |o k f h hf =>
   have:k=9∨k=11∨k=13∨(k=10∨k=12∨k=14∨k=16∨k=18):=by omega
   rcases this with rfl|rfl|rfl|h
   ·exact acc20_9 hc hk IH hs tk s a hv hf
   ·exact acc20_11 hc hk IH hs tk s a hv hf
   ·exact acc20_13 hc hk IH hs tk s a hv hf
   ·exact acc20_t hc hk IH hs tk s a hv h _
  |t k f g h hf hg =>
   have:k=5∨k=6∨k=15∨k=17∨(k=10∨k=12∨k=14∨k=16∨k=18):=by omega
   rcases this with rfl|rfl|rfl|rfl|h
   ·exact acc20_5 hc hk IH hs tk s a hv hf hg
   ·exact acc20_6 hc hk IH hs tk s a hv hf hg
   ·exact acc20_15 hc hk IH hs tk s a hv hf hg
   ·exact acc20_17 hc hk IH hs tk s a hv hf hg
   ·exact acc20_t hc hk IH hs tk s a hv h _
end
theorem ans34{c:Ci}(hc:Cs c):∀ t:Tn,t.ok→∀ f,Pu f→Ans Pg 34 [c.av,f.av,t.av] (aR (t.acc c f)):=by
 intro t
 induction t using Tn.ind with
 |h tk s a ss ks ih =>
  intro ht f hf
  cases ht with
  |mk _ _ _ _ _ h1 h2 h3 h4 h5 h6 h7=>exact acc20 hc h6 (fun t ht f hf=>ih t ht (h7 t ht) f hf) h4 tk s a hf
def waysE:List (Key × AV):=[(.i 2,.f (.func 49) [] []),(.i 3,.f (.func 50) [] []),(.i 4,.f (.func 51) [] []),(.i 5,.f (.func 52) [] []),(.i 6,.f (.func 53) [] []),
 (.i 9,.f (.func 54) [] []),(.i 11,.f (.func 55) [] []),(.i 13,.f (.func 56) [] []),(.i 15,.f (.func 57) [] []),(.i 17,.f (.func 58) [] []),
 (.i 10,.f (.func 59) [] []),(.i 12,.f (.func 59) [] []),(.i 14,.f (.func 59) [] []),(.i 16,.f (.func 59) [] []),(.i 18,.f (.func 59) [] [])]
def plC(c:Ci)(n:Int):List AV:=c.cells ++ [aI n,.mt (.i .i64) waysE]
theorem plC_len(c:Ci)(n:Int):(plC c n).length=10:=rfl
abbrev plO(c:Ci)(n:Int):AObj:=.cells 76 [plC c n] true
theorem ldN_pl{c:Ci}{n:Int}{id:Nat}{S:Store}{K:AV→Store→Prop}(h:S.obj id=some (plO c n)):ldN 8 (.p id 0 0) S K=K c.av S:=by
 simp[ldN,rdN,place,Store.get,h,plC,Ci.cells,Ci.av]
theorem J_pl{c:Ci}{n:Int}{id:Nat}{S0:Store}{P:AV→Prop}(h:S0.obj id=some (plO c n)):(∃ q,(ldN 8 (.p id 0 0) S0 fun v S=>v=q∧S=S0)∧P q)=P c.av:=J_of (op:=fun K=>ldN 8 (.p id 0 0) S0 K) fun K=>ldN_pl h
theorem at89{c:Ci}(hc:c.ok){n:Int}{id:Nat}{S:Store}(h:S.obj id=some (plO c n))(s:Int){l:Int}(hl:i64R l):AnsAt Pg 89 [.p id 0 0,aI s,aI l] S (aB (isB c s l)):=by
 refine calls89 ?_
 unfold m89
 rw[nilChk_p,shift_p,Nat.zero_add,ldN_pl h]
 exact callF_ans (ans111 hc s hl) ⟨rfl,rfl⟩
theorem at98{c:Ci}(hc:c.ok){n:Int}{id a b ta tb:Nat}{S:Store}(h:S.obj id=some (plO c n)){s:Int}(ha:S.obj a=some (.cells ta [[.p id 0 0]] true))(hb:S.obj b=some (.cells tb [[aI s]] true)){l:Int}(hl:i64R l):
    AnsAt Pg 98 ([] ++ [aI l] ++ [.p a 0 0,.p b 0 0]) S (aB (!isB c s l)):=by
 refine calls98 ?_
 unfold m98
 rw[ld1_p ha rfl rfl,ld1_p hb rfl rfl]
 refine callF_at (at89 hc h s hl) ?_
 rw[un_not]
 exact⟨rfl,rfl⟩
theorem any_notI{l:List Int}{g:Int→Bool}:l.any (fun x=>!g x) = !l.all g:=by
 induction l with
 |nil=>rfl
 |cons a l ih=>rw[List.any_cons,List.all_cons,ih,Bool.not_and]
theorem at60{c:Ci}(hc:Cs c){n:Int}{id:Nat}{S:Store}(h:S.obj id=some (plO c n))(hid:id<S.n)(s:Int):AnsAt Pg 60 [.p id 0 0,aI s] S (aB (validS c s)):=by
 obtain⟨m,h1,h2,h3,h4,h5⟩:=hc.sum
 have hcon:=hc.ok.cons
 have hll:=hc.ok.llen
 refine ACalls.ans_v (calls60 ?_)
 unfold m60 validS
 rw[h2,Int.toNat_natCast]
 refine box1_of rfl fun S1 k1 n1 o1=>?_
 refine box1_of rfl fun S2 k2 n2 o2=>?_
 have kk:=k1.trans k2
 have p1:=(k2.2 _ (by omega)).trans o1
 have q:=(kk.2 _ hid).trans h
 have radd:∀{P:AV→Prop},(∃ q,(bin .add 0 (aI c.inputs) (aI c.latches.length) S2 fun v S=>v=q∧S=S2)∧P q)=P (aI m):=J_of (op:=fun K=>bin .add 0 (aI c.inputs) (aI c.latches.length) S2 K) fun K=>(bin_add (by omega) (by omega) 0).trans (by rw[h1])
 have rlen:∀{P:AV→Prop},(∃ q,(lenS (pL c.latches) S2 fun v S=>v=q∧S=S2)∧P q)=P (aI c.latches.length):=J_of (op:=fun K=>lenS (pL c.latches) S2 K) fun K=>lenS_pL _
 have rshl:∀{P:AV→Prop},(∃ q,(bin .shl 0 (.v (.int .i64 1)) (aI m) S2 fun v S=>v=q∧S=S2)∧P q)=P (aI (2 ^ m)):=J_of (op:=fun K=>bin .shl 0 (.v (.int .i64 1)) (aI m) S2 K) fun K=>bin_shl1 h3
 show ∃ q:AV,_
 (repeat (first|with_reducible_and_instances (first|refine WJ ?_|refine W (J_ldp p1 (by with_unfolding_all rfl) (by with_unfolding_all rfl)) ?_|refine W (J_ldp o2 (by with_unfolding_all rfl) (by with_unfolding_all rfl)) ?_|refine W (J_nil) ?_|refine W (J_ldp q (by with_unfolding_all rfl) (by with_unfolding_all rfl)) ?_|refine W (rlen) ?_|refine W (radd) ?_|refine W (J_ldq (by with_unfolding_all rfl)) ?_)))
 cases e1:decide (0≤s)with
 |false =>
  (repeat (first|with_reducible_and_instances (first|refine WJ ?_|refine W (J_ldq (by with_unfolding_all rfl)) ?_)))
  exact⟨by rw[Bool.false_and],kk⟩
 |true =>
  (repeat (first|with_reducible_and_instances (first|refine WJ ?_|refine W (J_ldp o2 (by with_unfolding_all rfl) (by with_unfolding_all rfl)) ?_|refine W (rshl) ?_|refine W (J_ldq (by with_unfolding_all rfl)) ?_)))
  cases e2:decide (s<2 ^ m)with
  |false =>
   (repeat (first|with_reducible_and_instances (first|refine WJ ?_|refine W (J_ldq (by with_unfolding_all rfl)) ?_)))
   exact⟨by rw[Bool.false_and,Bool.and_false],kk⟩
  |true =>
   have hcf:=at84 (f:=aI) (l:=c.cons) hcon.2 (fs:=[]) (cs:=[.p S.n 0 0,.p S1.n 0 0]) (S:=S2) fun x hx=>at98 (s:=s) hc.ok q p1 o2 (hcon.1 x hx)
   rw[any_notI]at hcf
   (repeat (first|with_reducible_and_instances (first|refine WJ ?_|refine W (J_ldp p1 (by with_unfolding_all rfl) (by with_unfolding_all rfl)) ?_|refine W (J_nil) ?_|refine W (J_ldp q (by with_unfolding_all rfl) (by with_unfolding_all rfl)) ?_|refine W (J_ldq (by with_unfolding_all rfl)) ?_)|refine J_cI (hcf) rfl rfl ?_|refine C_I (hcf) rfl rfl ?_))
   exact⟨by rw[Bool.true_and,Bool.true_and,Bool.not_not],kk⟩
theorem at93{c:Ci}(hc:Cs c){n:Int}{id:Nat}{S:Store}(h:S.obj id=some (plO c n))(hid:id<S.n)(s t:Int):AnsAt Pg 93 [.p id 0 0,aI s,aI t] S (aB (behindS c s t)):=by
 obtain⟨m,h1,h2,h3,h4,h5⟩:=hc.sum
 refine calls93 ?_
 unfold m93 behindS
 show ∃ q:AV,_
 cases e1:validS c s with
 |false =>
  (repeat (first|with_reducible_and_instances (first|refine WJ ?_|refine W (gd_T e1) ?_|refine W (gd_F e1) ?_|refine W (gd_nT e1) ?_|refine W (gd_nF e1) ?_|refine W (J_ldq (by with_unfolding_all rfl)) ?_)|refine J_cI (at60 hc h hid s) rfl rfl ?_|refine C_I (at60 hc h hid s) rfl rfl ?_))
  exact⟨by rw[Bool.false_and],rfl⟩
 |true =>
  cases e2:validS c t with
  |false =>
   (repeat (first|with_reducible_and_instances (first|refine WJ ?_|refine W (gd_T e1) ?_|refine W (gd_F e1) ?_|refine W (gd_nT e1) ?_|refine W (gd_nF e1) ?_|refine W (gd_T e2) ?_|refine W (gd_F e2) ?_|refine W (gd_nT e2) ?_|refine W (gd_nF e2) ?_|refine W (J_ldq (by with_unfolding_all rfl)) ?_)|refine J_cI (at60 hc h hid s) rfl rfl ?_|refine C_I (at60 hc h hid s) rfl rfl ?_|refine J_cI (at60 hc h hid t) rfl rfl ?_|refine C_I (at60 hc h hid t) rfl rfl ?_))
   exact⟨by rw[Bool.false_and,Bool.and_false],rfl⟩
  |true =>
   (repeat (first|with_reducible_and_instances (first|refine WJ ?_|refine W (J_nil) ?_|refine W (J_pl h) ?_|refine W (J_ldp h (by with_unfolding_all rfl) (by with_unfolding_all rfl)) ?_|refine W (J_shr h4) ?_|refine W (gd_T e1) ?_|refine W (gd_F e1) ?_|refine W (gd_nT e1) ?_|refine W (gd_nF e1) ?_|refine W (gd_T e2) ?_|refine W (gd_F e2) ?_|refine W (gd_nT e2) ?_|refine W (gd_nF e2) ?_|refine W (J_ldq (by with_unfolding_all rfl)) ?_)|refine J_cI (at60 hc h hid s) rfl rfl ?_|refine C_I (at60 hc h hid s) rfl rfl ?_|refine J_cI (at60 hc h hid t) rfl rfl ?_|refine C_I (at60 hc h hid t) rfl rfl ?_|refine J_cA (ans112 hc.ok s) rfl rfl ?_|refine C_A (ans112 hc.ok s) rfl rfl ?_))
   exact⟨by rw[Bool.true_and,Bool.true_and],rfl⟩
theorem ans90(tk s a:Int)(ss:List Int)(ks:List Tn)(j:Int):Ans Pg 90 [(Tn.mk tk s a ss ks).av,aI j] (aB (decide (tk=j) && decide (a=0∧ss.length=0))):=by
 intro S
 refine ACalls.ans_v (calls90 ?_)
 unfold m90
 rw[Tn.av,Tn.row_mk]
 refine boxA_of rfl fun S1 k1 n1 o1=>?_
 rw[shift_p,ld1_p o1 rfl rfl,bin_eql,onB_v]
 refine gd_of (fun h=>?_) (fun h=>⟨by rw[h,Bool.false_and],k1⟩)
 rw[h,Bool.true_and,shift_p,ld1_p o1 rfl rfl,bin_eql,onB_v]
 refine gd_of (fun h=>?_) (fun h=>⟨?_,k1⟩)
 ·have h1:=dT h
  rw[shift_p,ld1_p o1 rfl rfl,lenS_aL,bin_eql]
  exact⟨by rw[nil_len];congr 3;exact decide_eq_decide.2 ⟨fun h=>⟨h1,h⟩,fun h=>h.2⟩,k1⟩
 ·have h1:=dF h
  rw[decide_eq_false (fun h=>by omega)]
theorem ans88(tk s a:Int)(ss:List Int)(ks:List Tn)(j:Int):Ans Pg 88 [(Tn.mk tk s a ss ks).av,aI j] (aB (leafB j tk a ss ks)):=by
 intro S
 refine ACalls.ans_v (calls88 ?_)
 unfold m88 leafB
 have cb:=ans90 tk s a ss ks j
 rw[Tn.av,Tn.row_mk]at cb ⊢
 refine boxA_of rfl fun S1 k1 n1 o1=>?_
 rw[ldN_p (n:=5) o1 rfl]
 refine callF_ans cb ?_
 rw[onB_v]
 refine gd_of (fun h=>?_) (fun h=>⟨?_,k1⟩)
 ·rw[shift_p,ld1_p o1 rfl rfl,lenS_tnL,bin_eql]
  simp only[Bool.and_eq_true,decide_eq_true_eq]at h
  exact⟨by rw[nil_len,decide_eq_true h.1,Bool.true_and];congr 3;exact decide_eq_decide.2 ⟨fun h3=>⟨h.2.1,h.2.2,h3⟩,fun h=>h.2.2⟩,k1⟩
 ·cases e:decide (tk=j)with
  |false=>rw[Bool.false_and]
  |true =>
   rw[e,Bool.true_and]at h
   have:=dF h
   rw[decide_eq_false (fun h=>this ⟨h.1,h.2.1⟩)];rfl
theorem fo2_nl{S:Store}{n:Nat}:Cv S n (.a [aI 2,.v (.string ByteArray.empty),aI 0,.nl]) fo2.av:=by
 rw[Fo.av,Fo.row_mk]
 refine .a _ _ rfl fun k u u2 e1 e2=>?_
 match k with
 |0=>cases e1;cases e2;exact .v _
 |1=>cases e1;cases e2;exact .v _
 |2=>cases e1;cases e2;exact .v _
 |3=>cases e1;cases e2;exact .nl
 |k+4=>simp at e1
theorem fo2_row{S:Store}{n:Nat}:∀(k:Nat) (u u2:AV),[aI 2,.v (.string ByteArray.empty),aI 0,AV.nl][k]? = some u→fo2.row[k]? = some u2→Cv S n u u2:=fun k u u2 e1 e2=>by
 rw[Fo.row_mk]at e2
 match k with
 |0=>cases e1;cases e2;exact .v _
 |1=>cases e1;cases e2;exact .v _
 |2=>cases e1;cases e2;exact .v _
 |3=>cases e1;cases e2;exact .nl
 |k+4=>simp at e1
theorem fo2_cv{f:FuncId}{k:Int}{r:AV}(h:Ans Pg f [aI k,foL [fo2]] r)(S:Store):AnsAt Pg f [aI k,.l [[aI 2,.v (.string ByteArray.empty),aI 0,.nl]]] S r:=by
 refine ansAt_cv (args2:=[aI k,foL [fo2]]) rfl (fun j u u2 e1 e2=>?_) (h S)
 match j with
 |0=>cases e1;cases e2;exact .v _
 |1 =>
  cases e1;cases e2
  refine .l _ _ rfl (fun i c c2 h1 h2=>?_) (fun i c c2 k u u2 h1 h2 h3 h4=>?_)
  ·match i with
   |0=>cases h1;cases h2;rw[Fo.row_len];rfl
   |i+1=>simp at h1
  ·match i with
   |0=>cases h1;cases h2;exact fo2_row k u u2 h3 h4
   |i+1=>simp at h1
 |j+2=>simp at e1
theorem ans94:Ans Pg 94 [] foG.av:=by
 intro S
 refine ACalls.tree (calls94 ?_)
 unfold m94
 refine boxA_of rfl fun S1 k1 n1 o1=>?_
 rw[bld_of (cs:=[aI 2,.v (.string ByteArray.empty),aI 0,.nl]) rfl]
 refine bslA4 rfl ?_
 refine callF_at (fo2_cv (fun S=>ans62 13 [fo2] S) S1) ?_
 refine stA_of o1 (Fo.row_len _) rfl fun S2 n2 o2 f2=>?_
 rw[ldN_p (n:=4) o2 (Fo.row_len _)]
 exact⟨_,rfl,k1.st (Nat.le_refl _) n2 f2,Fo.tr _ _ _⟩
def seqR(a b:Int × Bool):Int × Bool:=if a.2=true∧b.2=true then(IntKind.i64.wrap (a.1+b.1),true)else(0,false)
def rat (c:Ci) (t:Tn) (f:Fo) (s:Int):Int × Bool:=if t.st=s then t.acc c f else(0,false)
theorem wrap_rng{n:Int}(h:i64R n):IntKind.i64.wrap n=n:=wrap64 h.1 h.2
theorem accs_no(c:Ci):∀(ts:List Tn) (fs:List Fo) (ss:List Int) (n:Int),(Tn.accs c ts fs ss n).2=false→Tn.accs c ts fs ss n=(0,false):=by
 intro ts
 induction ts with
 |nil =>
  intro fs ss n h
  cases fs<;>cases ss<;>first|(simp[Tn.accs]at h;done)|(simp[Tn.accs])
 |cons t ts ih =>
  intro fs ss n h
  cases fs with
  |nil=>cases ss<;>simp[Tn.accs]
  |cons f fs =>
   cases ss with
   |nil=>simp[Tn.accs]
   |cons s ss =>
    rw[accs_cons]at h ⊢
    split at h
    ·rename_i hq
     rw[if_pos hq]
     exact ih fs ss _ h
    ·rename_i hq
     rw[if_neg hq]
theorem accs_rng(c:Ci):∀(ts:List Tn) (fs:List Fo) (ss:List Int) {n:Int},i64R n→i64R (Tn.accs c ts fs ss n).1:=by
 have z:i64R 0:=⟨by decide,by decide⟩
 intro ts
 induction ts with
 |nil =>
  intro fs ss n h
  cases fs<;>cases ss<;>simp[Tn.accs]<;>first|exact h|exact z
 |cons t ts ih =>
  intro fs ss n h
  cases fs with
  |nil=>cases ss<;>simp[Tn.accs]<;>exact z
  |cons f fs =>
   cases ss with
   |nil=>simp[Tn.accs];exact z
   |cons s ss =>
    rw[accs_cons]
    split
    ·exact ih fs ss (wrapR _)
    ·exact z
theorem accs_from(c:Ci)(ts:List Tn)(fs:List Fo)(ss:List Int){n:Int}(hn:i64R n):Tn.accs c ts fs ss n=seqR (n,true) (Tn.accs c ts fs ss 0):=by
 obtain⟨h1,h2⟩:=accs_on c ts fs ss n 0
 unfold seqR
 cases e:(Tn.accs c ts fs ss n).2 with
 |false=>rw[←h1,e,accs_no _ _ _ _ _ e,if_neg (by simp)]
 |true =>
  have h3:=h2 e
  rw[Int.zero_add,wrap_rng (accs_rng c ts fs ss hn)]at h3
  rw[←h1,e,if_pos ⟨rfl,rfl⟩,←h3,←e]
theorem accs_seq{c:Ci}{t:Tn}{ts:List Tn}{f:Fo}{fs:List Fo}{s:Int}{ss:List Int}:Tn.accs c (t :: ts) (f :: fs) (s :: ss) 0=seqR (rat c t f s) (Tn.accs c ts fs ss 0):=by
 rw[accs_cons,rat]
 by_cases h:t.st=s
 ·rw[if_pos h,decide_eq_true h,Bool.and_true]
  split
  ·rename_i h2
   rw[Int.zero_add,accs_from _ _ _ _ (wrapR _)]
   unfold seqR
   rw[h2]
   split
   ·show(IntKind.i64.wrap (IntKind.i64.wrap _+_),true)=_
    rw[wrap_wrap]
   ·rfl
  ·rename_i h2
   unfold seqR
   rw[if_neg (fun hq=>h2 hq.1)]
 ·rw[if_neg h,decide_eq_false h,Bool.and_false,if_neg (by decide)]
  unfold seqR
  rw[if_neg (by simp)]
theorem accs_none{c:Ci}:Tn.accs c [] [] [] 0=(0,true):=by rw[Tn.accs]
theorem seq_none{c:Ci}{t:Tn}{f:Fo}{s:Int}:Tn.accs c [t] [f] [s] 0=seqR (rat c t f s) (0,true):=by rw[accs_seq,accs_none]
theorem seq_assoc(a b d:Int × Bool):seqR (seqR a b) d=seqR a (seqR b d):=by
 unfold seqR
 cases a.2<;>cases b.2<;>cases d.2<;>simp
 rw[wrap_wrap,wrap_wrap',Int.add_assoc]
theorem accs_app(c:Ci):∀(ts:List Tn) (fs:List Fo) (ss:List Int) (ts2:List Tn) (fs2:List Fo) (ss2:List Int),fs.length=ts.length→ss.length=ts.length→Tn.accs c (ts++ts2) (fs++fs2) (ss++ss2) 0=seqR (Tn.accs c ts fs ss 0) (Tn.accs c ts2 fs2 ss2 0):=by
 intro ts
 induction ts with
 |nil =>
  intro fs ss ts2 fs2 ss2 h1 h2
  obtain rfl:=List.eq_nil_of_length_eq_zero h1
  obtain rfl:=List.eq_nil_of_length_eq_zero h2
  rw[accs_none,List.nil_append,List.nil_append,List.nil_append]
  exact accs_from c ts2 fs2 ss2 ⟨by decide,by decide⟩
 |cons t ts ih =>
  intro fs ss ts2 fs2 ss2 h1 h2
  match fs,ss,h1,h2 with
  |f :: fs,s :: ss,h1,h2 =>
   rw[List.cons_append,List.cons_append,List.cons_append,accs_seq,accs_seq,ih fs ss ts2 fs2 ss2 (by simpa using h1) (by simpa using h2),seq_assoc]
def PlR(c:Ci)(id:Nat)(S:Store)(n:Int)(r:Int × Bool)(e:AEnd)(S':Store):Prop:=
 ∃ n',e = .ret (aB r.2)∧i64R n'∧(r.2=true→n'=IntKind.i64.wrap (n+r.1))∧S.n≤S'.n∧S'.obj id=some (plO c n')∧∀ x,x<S.n→x≠id→S'.obj x=S.obj x
theorem PlR.up{c:Ci}{id:Nat}{S S2 S':Store}{n:Int}{r:Int × Bool}{e:AEnd}(k:Keep S S2)(h:PlR c id S2 n r e S'):PlR c id S n r e S':=by
 obtain⟨n',h1,h2,h3,h4,h5,h6⟩:=h
 exact⟨n',h1,h2,h3,by have:=k.1;omega,h5,fun x hx hne=>(h6 x (by have:=k.1;omega) hne).trans (k.2 x hx)⟩
theorem PlR.same{c:Ci}{id:Nat}{S S':Store}{n:Int}{b:Bool}(k:Keep S S')(ho:S'.obj id=some (plO c n))(hn:i64R n):PlR c id S n (0,b) (.ret (aB b)) S':=
 ⟨n,rfl,hn,fun _=>by rw[Int.add_zero,wrap_rng hn],k.1,ho,fun x hx _=>k.2 x hx⟩
theorem PlR.seq{c:Ci}{id:Nat}{S S1 S2:Store}{n:Int}{n1:Int}{a b:Int × Bool}{e:AEnd}(ha:a.2=true)(h1:n1=IntKind.i64.wrap (n+a.1))(hn:S.n≤S1.n)(ho:∀ x,x<S.n→x≠id→S1.obj x=S.obj x)(h:PlR c id S1 n1 b e S2):PlR c id S n (seqR a b) e S2:=by
 obtain⟨n',e1,e2,e3,e4,e5,e6⟩:=h
 refine⟨n',?_,e2,fun hq=>?_,by omega,e5,fun x hx hne=>(e6 x (by omega) hne).trans (ho x hx hne)⟩
 ·rw[e1]
  unfold seqR
  cases hb:b.2 with
  |true=>rw[if_pos ⟨ha,rfl⟩]
  |false=>rw[if_neg (by simp)]
 ·unfold seqR at hq ⊢
  split at hq
  ·rename_i h2
   rw[if_pos h2,e3 h2.2,h1]
   show IntKind.i64.wrap (IntKind.i64.wrap (n+a.1)+b.1)=IntKind.i64.wrap (n+IntKind.i64.wrap (a.1+b.1))
   rw[wrap_wrap,wrap_wrap',Int.add_assoc]
  ·cases hq
theorem PlR.seqF{c:Ci}{id:Nat}{S S1:Store}{n n1:Int}{a b:Int × Bool}(ha:a.2=false)(h1:i64R n1)(hn:S.n≤S1.n)(ho:S1.obj id=some (plO c n1))(hk:∀ x,x<S.n→x≠id→S1.obj x=S.obj x):PlR c id S n (seqR a b) (.ret (aB false)) S1:=by
 have:seqR a b=(0,false):=by unfold seqR;rw[if_neg (by simp[ha])]
 rw[this]
 exact⟨n1,rfl,h1,(fun h=>by cases h),hn,ho,hk⟩
theorem callF_pl{P:Program}{f:FuncId}{args:List AV}{c:Ci}{id:Nat}{S:Store}{n:Int}{r:Int × Bool}(h:ACalls P f args S (PlR c id S n r)){Q:AEnd→Store→Prop}{K:AV→Store→Prop}
    (k:∀ n' S',i64R n'→(r.2=true→n'=IntKind.i64.wrap (n+r.1))→S.n≤S'.n→S'.obj id=some (plO c n')→(∀ x,x<S.n→x≠id→S'.obj x=S.obj x)→K (aB r.2) S'):callF P f args S Q K:=
 .inl (h.mono fun e S' ⟨n',he,h1,h2,h3,h4,h5⟩=>by subst he;exact k n' S' h1 h2 h3 h4 h5)
theorem callF_pr{P:Program}{f:FuncId}{args:List AV}{c:Ci}{id:Nat}{S:Store}{n:Int}{r:Int × Bool}(h:ACalls P f args S (PlR c id S n r)){Q:AEnd→Store→Prop}{K:AV→Store→Prop}
    (k:∀ S',PlR c id S n r (.ret (aB r.2)) S'→K (aB r.2) S'):callF P f args S Q K:=
 .inl (h.mono fun e S' hp=>by
  have hp':=hp
  obtain⟨n',he,_⟩:=hp
  subst he
  exact k S' hp')
theorem callV_pr{P:Program}{f:FuncId}{fs args cs:List AV}{c:Ci}{id:Nat}{S:Store}{n:Int}{r:Int × Bool}(h:ACalls P f (fs++args++cs) S (PlR c id S n r)){K X:AV→Store→Prop}
    (k:∀ S',PlR c id S n r (.ret (aB r.2)) S'→K (aB r.2) S'):callV P (.f (.func f) fs cs) args S K X:=
 .inl (h.mono fun e S' hp=>by
  have hp':=hp
  obtain⟨n',he,_⟩:=hp
  subst he
  exact k S' hp')
def HK(c:Ci)(id:Nat)(t:Tn):Prop:=∀ f,Pu f→∀(S:Store) (n:Int),S.obj id=some (plO c n)→id<S.n→i64R n→ACalls Pg 30 [.p id 0 0,f.av,t.av] S (PlR c id S n (t.acc c f))
theorem pl91{c:Ci}{id:Nat}{t:Tn}(ht:HK c id t){f:Fo}(hf:Pu f){S:Store}{n:Int}(h:S.obj id=some (plO c n))(hid:id<S.n)(hn:i64R n)(s:Int):
    ACalls Pg 91 [.p id 0 0,aI s,f.av,t.av] S (PlR c id S n (rat c t f s)):=by
 refine calls91 ?_
 unfold m91
 have h1:t.row[1]? = some (aI t.st):=Tn.row1 t
 refine boxA_of (Fo.row_len f) fun S1 k1 n1 o1=>?_
 refine boxA_of (Tn.row_len t) fun S2 k2 n2 o2=>?_
 have kk:=k1.trans k2
 have p1:=(k2.2 _ (by omega)).trans o1
 have q:=(kk.2 _ hid).trans h
 rw[shift_p,Nat.zero_add,ld1_p o2 rfl h1,bin_eql,onB_v]
 unfold rat
 refine gd_of (fun e=>?_) (fun e=>?_)
 ·rw[if_pos (dT e),ldN_p (n:=4) p1 (Fo.row_len f),ldN_p (n:=5) o2 (Tn.row_len t)]
  exact callF_pr (ht f hf S2 n q (by omega) hn) fun S' hp=>hp.up kk
 ·rw[if_neg (dF e)]
  exact PlR.same kk q hn
end
end Go.Proofs.YtfhekpnddoihkaaGreat.G

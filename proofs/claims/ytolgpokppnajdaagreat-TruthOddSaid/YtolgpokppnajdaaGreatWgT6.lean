/- Truth -/
import Derived.Test.YtolgpokppnajdaaGreatProg
import Derived.KernelRfl
import Derived.Test.YtolgpokppnajdaaGreatWgT5
set_option linter.unusedVariables false
set_option linter.unusedSimpArgs false
namespace Go.Proofs.YtolgpokppnajdaaGreat.G
open Go Go.Ab
noncomputable section
set_option linter.unusedSectionVars false
section
variable {c:Ci} {s:Sp} {fr:List Bool} {tid:Nat} (hs:SpOk s) (hfr:In s fr) (hc:c.ok)
include hs hfr hc
theorem of_const(k:Int)(n:ByteArray)(hk:k=1∨k=2){S:Store}(h:Tr c s fr tid S):AnsAt Pg 57 [.p tid 0 0,Fo.av (.mk k n 0 [])] S (aL aB (Fo.sem s fr (atomP c s) (.mk k n 0 []))):=by
    have hv:s.valid.length≤1000000:=by have:=hs.small.h1;omega
    refine ACalls.ans_aL (f:=fun b=>.bool b) (calls57 ?_)
    unfold m57
    rw[Fo.av,Fo.row_mk]
    refine boxA_of rfl fun S1 k1 n1 o1=>?_
    have h1:=h.keep k1
    rw[shift_p,ld1_p o1 rfl rfl,lenS_foL,bin_gtr,onB_v]
    have nn:=fun{q:List Bool} (hq:q.length=s.valid.length)=>at106 hs h1 hq
    have nx:=fun{q:List Bool} (hq:q.length=s.valid.length)=>at108 hs hfr h1 hq
    have un:=fun{p q:List Bool} (hp:p.length=s.valid.length) (hq:q.length=s.valid.length)=>at109 hs hfr h1 hp hq
    have al:=fun{q:List Bool} (hq:q.length=s.valid.length)=>at110 hs h1 hq
    have an:=fun{p q:List Bool} (hp:p.length=s.valid.length) (hq:q.length=s.valid.length)=>ans39 (a:=p) (b:=q) (by omega) (hp.trans hq.symm)
    have orr:=fun{p q:List Bool} (hp:p.length=s.valid.length) (hq:q.length=s.valid.length)=>ans107 (a:=p) (b:=q) (by omega) (hp.trans hq.symm)
    have lx:∀{q:List Bool},q.length=s.valid.length→(nextP s fr q).length=s.valid.length:=fun hq=>by simp[nextP,hq]
    have lu:∀{p q:List Bool},q.length=s.valid.length→(untilP s fr p q).length=s.valid.length:=fun hq=>by simp[untilP,hq]
    have lg:∀{q:List Bool},q.length=s.valid.length→(egP s q).length=s.valid.length:=fun hq=>by simp[hq]
    have ln:∀{q:List Bool},(notP s q).length=s.valid.length:=fun{q}=>(in_not s q).len
    have la:∀{p q:List Bool},p.length=s.valid.length→(andP p q).length=s.valid.length:=fun hq=>by simp[hq]
    have lo:∀{p q:List Bool},p.length=s.valid.length→(orP p q).length=s.valid.length:=fun hq=>by simp[hq]
    rw[gd_F (decide_eq_false (by decide))]
    rw[shift_p,ld1_p o1 rfl rfl,lenS_foL,bin_gtr,onB_v,gd_F (decide_eq_false (by decide))]
    rw[shift_p,ld1_p o1 rfl rfl]
    rcases hk with rfl|rfl
    ·repeat (refine tno (by decide) ?_)
     refine tyes rfl ?_
     rw[nilChk_p,shift_p,shift_p,h1.ldv]
     refine callF_at (nn rfl) ?_
     exact⟨by rw[sem_false],k1⟩
    ·repeat (refine tno (by decide) ?_)
     refine tyes rfl ?_
     rw[nilChk_p,shift_p,shift_p,h1.ldv]
     exact⟨by rw[sem_true],k1⟩
theorem of_atom(l:Int)(n:ByteArray)(hl:i64R l){S:Store}(h:Tr c s fr tid S):AnsAt Pg 57 [.p tid 0 0,Fo.av (.mk 3 n l [])] S (aL aB (Fo.sem s fr (atomP c s) (.mk 3 n l []))):=by
    have hv:s.valid.length≤1000000:=by have:=hs.small.h1;omega
    rw[sem_atom]
    refine ans_own_at (f:=fun b=>.bool b) (e:=4) (calls57 ?_)
    unfold m57
    rw[Fo.av,Fo.row_mk]
    refine boxA_of rfl fun S1 k1 n1 o1=>?_
    have h1:=h.keep k1
    rw[shift_p,ld1_p o1 rfl rfl,lenS_foL,bin_gtr,onB_v]
    rw[gd_F (decide_eq_false (by decide))]
    rw[shift_p,ld1_p o1 rfl rfl,lenS_foL,bin_gtr,onB_v,gd_F (decide_eq_false (by decide))]
    rw[shift_p,ld1_p o1 rfl rfl]
    repeat (refine tno (by decide) ?_)
    let g:Nat→Bool:=fun i=>bit s.valid i && isB c i l
    refine loop57_0 (fun y x S'=>Keep S1 S'∧∃ i:Nat,x=aI i∧i≤s.valid.length∧Own S1.n S' y 4 ((tab i g).map fun b=>[aB b]))
     (fun _ x _=>s.valid.length - ((intA x).getD 0).toNat) ⟨Keep.refl S1,0,rfl,Nat.zero_le _,.nl _ _ _⟩ ?_
    rintro y _ S2 ⟨k2,i,rfl,hi,w2⟩ KE hKE
    have h2:=h1.keep k2
    unfold b57_0
    rw[nilChk_p,shift_p,shift_p,h2.ldv,lenS_aL,bin_lss,onB_v]
    refine gd_of (fun hlt=>?_) (fun hge=>?_)
    ·have hlt:i<s.valid.length:=by simpa using hlt
     have hadd:∀ K:AV→Store→Prop,∀ S,bin .add 0 (.v (.int .i64 (i:Int))) (.v (.int .i64 1)) S K=K (aI (i+1:Nat)) S:=fun K S=>bin_add (by omega) (by omega) 0
     have hμ:s.valid.length - ((intA (aI (i+1:Nat))).getD 0).toNat<s.valid.length - ((intA (aI i)).getD 0).toNat:=by simp[intA];omega
     have step:∀ b:Bool,b=g i→appS 4 1 1 y (.l [[aB b]]) S2 fun v10 T=>bin .add 0 (.v (.int .i64 (i:Int))) (.v (.int .i64 1)) T fun v11 T=>KE 214 (env57_0 (.p tid 0 0) (.p S.n 0 0) v10 v11) T:=by
      intro b hb
      refine w2.app (b:=1) (c:=[aB b]) (y:=.l [[aB b]]) (by have:=k2.1;omega) rfl (by simp;omega) (fun x' S5 ho5 hb5 hx5=>?_) rfl
      rw[hadd]
      refine hKE _ _ _ ⟨w2.keep (Nat.le_refl _) hb5 k2,i+1,rfl,hlt,?_⟩ hμ
      rw[tab_succ,List.map_append,←hb]
      exact ho5
     have o2:=(k2.2 _ (by omega)).trans o1
     refine⟨_,fun T hT=>by rw[nilChk_p];exact⟨rfl,rfl⟩,?_⟩
     refine L_shift ?_
     refine L_shift ?_
     refine⟨_,fun T hT=>by rw[(h2.keep hT).ldv];exact⟨rfl,rfl⟩,?_⟩
     refine⟨_,fun T hT=>by rw[ixS_aL hlt];exact⟨rfl,rfl⟩,?_⟩
     refine L_ldq rfl ?_
     rw[onB_v]
     refine gd_of (fun hb=>?_) (fun hb=>?_)
     ·refine⟨_,fun T hT=>by rw[nilChk_p];exact⟨rfl,rfl⟩,?_⟩
      refine L_shift ?_
      refine⟨_,fun T hT=>by rw[(h2.keep hT).ldc];exact⟨rfl,rfl⟩,?_⟩
      refine L_shift ?_
      refine L_ldp o2 (by have:=k2.1;omega) rfl rfl ?_
      refine L_callA (ans68 hc hl) ?_
      refine L_mv ?_
      refine⟨_,fun T hT=>bsl1 rfl (fun _ h=>by cases h) ⟨rfl,rfl⟩,?_⟩
      exact step _ (by show _=(bit s.valid i && isB c i l);rw[bit_get hlt,hb,Bool.true_and])
     ·refine L_mv ?_
      refine⟨_,fun T hT=>bsl1 rfl (fun _ h=>by cases h) ⟨rfl,rfl⟩,?_⟩
      exact step _ (by show _=(bit s.valid i && isB c i l);rw[bit_get hlt,hb,Bool.false_and])
    ·have hge:i=s.valid.length:=by simp at hge;omega
     subst hge
     exact⟨_,rfl,k1.trans k2,w2.low k1.1⟩
theorem of_one(k:Int)(n:ByteArray)(f:Fo)(hk:k=4∨9≤k∧k≤14){S:Store}(h:Tr c s fr tid S)(hp:In s (f.sem s fr (atomP c s)))
    (ih:∀{T:Store},Tr c s fr tid T→AnsAt Pg 57 [.p tid 0 0,f.av] T (aL aB (f.sem s fr (atomP c s)))):AnsAt Pg 57 [.p tid 0 0,Fo.av (.mk k n 0 [f])] S (aL aB (Fo.sem s fr (atomP c s) (.mk k n 0 [f]))):=by
    have hv:s.valid.length≤1000000:=by have:=hs.small.h1;omega
    have hp:=hp.len
    rw[sem_one (by omega)]
    generalize hpp:f.sem s fr (atomP c s)=p at *
    refine ACalls.ans_aL (f:=fun b=>.bool b) (calls57 ?_)
    unfold m57
    rw[Fo.av,Fo.row_mk]
    refine boxA_of rfl fun S1 k1 n1 o1=>?_
    have h1:=h.keep k1
    rw[shift_p,ld1_p o1 rfl rfl,lenS_foL,bin_gtr,onB_v]
    have nn:=fun{q:List Bool} (hq:q.length=s.valid.length)=>at106 hs h1 hq
    have nx:=fun{q:List Bool} (hq:q.length=s.valid.length)=>at108 hs hfr h1 hq
    have un:=fun{p q:List Bool} (hp:p.length=s.valid.length) (hq:q.length=s.valid.length)=>at109 hs hfr h1 hp hq
    have al:=fun{q:List Bool} (hq:q.length=s.valid.length)=>at110 hs h1 hq
    have an:=fun{p q:List Bool} (hp:p.length=s.valid.length) (hq:q.length=s.valid.length)=>ans39 (a:=p) (b:=q) (by omega) (hp.trans hq.symm)
    have orr:=fun{p q:List Bool} (hp:p.length=s.valid.length) (hq:q.length=s.valid.length)=>ans107 (a:=p) (b:=q) (by omega) (hp.trans hq.symm)
    have lx:∀{q:List Bool},q.length=s.valid.length→(nextP s fr q).length=s.valid.length:=fun hq=>by simp[nextP,hq]
    have lu:∀{p q:List Bool},q.length=s.valid.length→(untilP s fr p q).length=s.valid.length:=fun hq=>by simp[untilP,hq]
    have lg:∀{q:List Bool},q.length=s.valid.length→(egP s q).length=s.valid.length:=fun hq=>by simp[hq]
    have ln:∀{q:List Bool},(notP s q).length=s.valid.length:=fun{q}=>(in_not s q).len
    have la:∀{p q:List Bool},p.length=s.valid.length→(andP p q).length=s.valid.length:=fun hq=>by simp[hq]
    have lo:∀{p q:List Bool},p.length=s.valid.length→(orP p q).length=s.valid.length:=fun hq=>by simp[hq]
    rw[gd_T (decide_eq_true (by simp))]
    rw[shift_p,ld1_p o1 rfl rfl,show ∀ K:AV→Store→Prop,ixS 24 4 (foL [f]) (.v (.int .i64 0)) S1 K=K (.q f.row 0) S1 from fun K=>ixS_foL (l:=[f]) (i:=0) (by simp),ldN_q (Fo.row_len f)]
    refine callF_at (ih h1) ?_
    rw[shift_p,ld1_p o1 rfl rfl,lenS_foL,bin_gtr,onB_v,gd_F (decide_eq_false (by simp))]
    rw[shift_p,ld1_p o1 rfl rfl]
    obtain rfl|rfl|rfl|rfl|rfl|rfl|rfl:k=4∨k=9∨k=10∨k=11∨k=12∨k=13∨k=14:=by omega
    ·repeat (refine tno (by decide) ?_)
     refine tyes rfl ?_
     exact callF_at (nn hp) ⟨rfl,k1⟩
    ·repeat (refine tno (by decide) ?_)
     refine tyes rfl ?_
     exact callF_at (nx hp) ⟨rfl,k1⟩
    ·repeat (refine tno (by decide) ?_)
     refine tyes rfl ?_
     exact callF_at (nn hp) (callF_at (nx ln) (callF_at (nn (lx ln)) ⟨rfl,k1⟩))
    ·repeat (refine tno (by decide) ?_)
     refine tyes rfl ?_
     rw[nilChk_p,shift_p,shift_p,h1.ldv]
     exact callF_at (un rfl hp) ⟨rfl,k1⟩
    ·repeat (refine tno (by decide) ?_)
     refine tyes rfl ?_
     exact callF_at (nn hp) (callF_at (al ln) (callF_at (nn (lg ln)) ⟨rfl,k1⟩))
    ·repeat (refine tno (by decide) ?_)
     refine tyes rfl ?_
     exact callF_at (al hp) ⟨rfl,k1⟩
    ·repeat (refine tno (by decide) ?_)
     refine tyes rfl ?_
     have c1:=nn hp
     have c2:=un (p:=s.valid) rfl (ln (q:=p))
     have c3:=nn (lu (p:=s.valid) (ln (q:=p)))
     have l1:∀(P:AV→Prop),(∃ q,(ld1 (.p tid 0 (0+8+1)) S1 fun v S'=>v=q∧S'=S1)∧P q)=P (aL aB s.valid):=fun P=>J_by (op:=fun K=>ld1 (.p tid 0 (0+8+1)) S1 K) fun K=>h1.ldv
     show ∃ q:AV,_
     (repeat (first|with_reducible_and_instances (first|refine WJ ?_|refine W (J_nil) ?_|refine W (l1 _) ?_|refine W (J_ldq (by with_unfolding_all rfl)) ?_)|refine J_cI (c1) rfl rfl ?_|refine C_I (c1) rfl rfl ?_|refine J_cI (c2) rfl rfl ?_|refine C_I (c2) rfl rfl ?_|refine J_cI (c3) rfl rfl ?_|refine C_I (c3) rfl rfl ?_))
     exact⟨rfl,k1⟩
theorem of_two(k:Int)(n:ByteArray)(f g:Fo)(hk:5≤k∧k≤8∨15≤k∧k≤18){S:Store}(h:Tr c s fr tid S)(hp:In s (f.sem s fr (atomP c s)))(hq:In s (g.sem s fr (atomP c s)))
    (ih:∀{T:Store},Tr c s fr tid T→AnsAt Pg 57 [.p tid 0 0,f.av] T (aL aB (f.sem s fr (atomP c s))))
    (ih2:∀{T:Store},Tr c s fr tid T→AnsAt Pg 57 [.p tid 0 0,g.av] T (aL aB (g.sem s fr (atomP c s)))):AnsAt Pg 57 [.p tid 0 0,Fo.av (.mk k n 0 [f,g])] S (aL aB (Fo.sem s fr (atomP c s) (.mk k n 0 [f,g]))):=by
    have hv:s.valid.length≤1000000:=by have:=hs.small.h1;omega
    have hp:=hp.len
    have hq:=hq.len
    rw[sem_two (by omega)]
    generalize hpp:f.sem s fr (atomP c s)=p at *
    generalize hqq:g.sem s fr (atomP c s)=q at *
    refine ACalls.ans_aL (f:=fun b=>.bool b) (calls57 ?_)
    unfold m57
    rw[Fo.av,Fo.row_mk]
    refine boxA_of rfl fun S1 k1 n1 o1=>?_
    have h1:=h.keep k1
    rw[shift_p,ld1_p o1 rfl rfl,lenS_foL,bin_gtr,onB_v]
    have nn:=fun{q:List Bool} (hq:q.length=s.valid.length)=>at106 hs h1 hq
    have nx:=fun{q:List Bool} (hq:q.length=s.valid.length)=>at108 hs hfr h1 hq
    have un:=fun{p q:List Bool} (hp:p.length=s.valid.length) (hq:q.length=s.valid.length)=>at109 hs hfr h1 hp hq
    have al:=fun{q:List Bool} (hq:q.length=s.valid.length)=>at110 hs h1 hq
    have an:=fun{p q:List Bool} (hp:p.length=s.valid.length) (hq:q.length=s.valid.length)=>ans39 (a:=p) (b:=q) (by omega) (hp.trans hq.symm)
    have orr:=fun{p q:List Bool} (hp:p.length=s.valid.length) (hq:q.length=s.valid.length)=>ans107 (a:=p) (b:=q) (by omega) (hp.trans hq.symm)
    have lx:∀{q:List Bool},q.length=s.valid.length→(nextP s fr q).length=s.valid.length:=fun hq=>by simp[nextP,hq]
    have lu:∀{p q:List Bool},q.length=s.valid.length→(untilP s fr p q).length=s.valid.length:=fun hq=>by simp[untilP,hq]
    have lg:∀{q:List Bool},q.length=s.valid.length→(egP s q).length=s.valid.length:=fun hq=>by simp[hq]
    have ln:∀{q:List Bool},(notP s q).length=s.valid.length:=fun{q}=>(in_not s q).len
    have la:∀{p q:List Bool},p.length=s.valid.length→(andP p q).length=s.valid.length:=fun hq=>by simp[hq]
    have lo:∀{p q:List Bool},p.length=s.valid.length→(orP p q).length=s.valid.length:=fun hq=>by simp[hq]
    rw[gd_T (decide_eq_true (by simp))]
    rw[shift_p,ld1_p o1 rfl rfl,show ∀ K:AV→Store→Prop,ixS 24 4 (foL [f,g]) (.v (.int .i64 0)) S1 K=K (.q f.row 0) S1 from fun K=>ixS_foL (l:=[f,g]) (i:=0) (by simp),ldN_q (Fo.row_len f)]
    refine callF_at (ih h1) ?_
    rw[shift_p,ld1_p o1 rfl rfl,lenS_foL,bin_gtr,onB_v,gd_T (decide_eq_true (by simp))]
    rw[shift_p,ld1_p o1 rfl rfl,show ∀ K:AV→Store→Prop,ixS 24 4 (foL [f,g]) (.v (.int .i64 1)) S1 K=K (.q g.row 0) S1 from fun K=>ixS_foL (l:=[f,g]) (i:=1) (by simp),ldN_q (Fo.row_len g)]
    refine callF_at (ih2 h1) ?_
    rw[shift_p,ld1_p o1 rfl rfl]
    obtain rfl|rfl|rfl|rfl|rfl|rfl|rfl|rfl:k=5∨k=6∨k=7∨k=8∨k=15∨k=16∨k=17∨k=18:=by omega
    ·repeat (refine tno (by decide) ?_)
     refine tyes rfl ?_
     exact callF_ans (an hp hq) ⟨rfl,k1⟩
    ·repeat (refine tno (by decide) ?_)
     refine tyes rfl ?_
     exact callF_ans (orr hp hq) ⟨rfl,k1⟩
    ·repeat (refine tno (by decide) ?_)
     refine tyes rfl ?_
     exact callF_at (nn hp) (callF_ans (orr ln hq) ⟨rfl,k1⟩)
    ·repeat (refine tno (by decide) ?_)
     refine tyes rfl ?_
     exact callF_ans (an hp hq) (callF_ans (orr hp hq) (callF_at (nn (lo hp)) (callF_ans (orr (la hp) ln) ⟨rfl,k1⟩)))
    ·repeat (refine tno (by decide) ?_)
     refine tyes rfl ?_
     exact callF_at (un hp hq) ⟨rfl,k1⟩
    ·repeat (refine tno (by decide) ?_)
     refine tyes rfl ?_
     exact callF_at (nn hq) (callF_ans (orr hp hq) (callF_at (nn (lo hp)) (callF_at (un ln ln) (callF_at (nn hq) (callF_at (al ln) (callF_ans (orr (lu ln) (lg ln)) (callF_at (nn (lo (lu ln))) ⟨rfl,k1⟩)))))))
    ·repeat (refine tno (by decide) ?_)
     refine tyes rfl ?_
     exact callF_at (al hq) (callF_ans (an hp hq) (callF_at (un hq (la hp)) (callF_ans (orr (lg hq) (lu (la hp))) ⟨rfl,k1⟩)))
    ·repeat (refine tno (by decide) ?_)
     refine tyes rfl ?_
     exact callF_at (nn hp) (callF_at (nn hq) (callF_at (un ln ln) (callF_at (nn (lu ln)) ⟨rfl,k1⟩)))
theorem at57:∀(f:Fo),f.ok→∀ d,f.mayB d=true→∀{S:Store},Tr c s fr tid S→AnsAt Pg 57 [.p tid 0 0,f.av] S (aL aB (f.sem s fr (atomP c s))):=by
 intro f
 induction f using Fo.ind with
 |h k n l ks ih =>
  intro hf d hd S h
  obtain⟨_,_,hk⟩:=may_cases hd
  have hfk:∀ g∈ks,g.ok:=by cases hf;assumption
  have hl:i64R l:=by cases hf;assumption
  have hat:∀ l,In s (atomP c s l):=fun l=>in_each _ _
  rcases hk with⟨hk,rfl,rfl⟩|⟨rfl,rfl,h0⟩|⟨hk,rfl,f,rfl,hf1⟩|⟨hk,rfl,f,g,rfl,hf1,hg1⟩
  ·exact of_const hs hfr hc k n hk h
  ·exact of_atom hs hfr hc l n hl h
  ·exact of_one hs hfr hc k n f hk h (in_sem hat f _ hf1) fun{T} hT=>ih f (by simp) (hfk f (by simp)) _ hf1 hT
  ·exact of_two hs hfr hc k n f g hk h (in_sem hat f _ hf1) (in_sem hat g _ hg1) (fun{T} hT=>ih f (by simp) (hfk f (by simp)) _ hf1 hT) fun{T} hT=>ih g (by simp) (hfk g (by simp)) _ hg1 hT
end
theorem ans28{c:Ci}(hc:c.ok){f:Fo}(hf:f.ok):Ans Pg 28 [c.av,f.av] (.t [aL aB (truthB c f).1,aI (truthB c f).2]):=by
 intro S
 refine ACalls.tree (calls28 ?_)
 unfold m28
 refine boxA_of rfl fun S1 k1 n1 o1=>?_
 refine boxA_of (Fo.row_len f) fun S2 k2 n2 o2=>?_
 have p2:=(k2.2 _ (by omega)).trans o1
 have kk:=k1.trans k2
 rw[ldN_p (n:=8) p2 rfl,ldN_p (n:=4) o2 (Fo.row_len f)]
 refine callF_ans (ans55 hc hf) ?_
 rw[un_not,onB_v]
 unfold truthB
 refine gd_of (fun hm=>?_) (fun hm=>?_)
 ·refine⟨_,rfl,kk,?_⟩
  rw[if_pos (by simpa using hm)]
  exact cv_t2 .nl (.v _)
 have hm:mayC c f=true:=by simpa using hm
 rw[if_neg (by rw[hm];decide),ldN_p (n:=8) p2 rfl]
 refine callF_ans (ans35 hc) ?_
 rw[extr0,extr1]
 refine boxA_of rfl fun S4 k4 n4 o4=>?_
 refine stA_of (cs':=(spaceB c).1.cells) o4 rfl rfl fun S5 n5 o5 f5=>?_
 have k5:=k4.st (Nat.le_refl _) n5 f5
 rw[bin_neq,onB_v]
 refine gd_of (fun he=>?_) (fun he=>?_)
 ·have he:¬ (spaceB c).2=0:=by simpa using he
  rw[if_neg he]
  exact⟨_,rfl,kk.trans k5,cv_t2 .nl (.v _)⟩
 ·have he:(spaceB c).2=0:=by simpa using he
  obtain⟨e1,e2,e3⟩:=spaceB_ok he
  rw[if_pos he]
  rw[e1]at o5
  have hs:=spOf_ok e2 e3
  have hd:f.mayB 60=true:=by
   unfold mayC at hm
   simp only[Bool.and_eq_true]at hm
   exact hm.2.1
  have cg:=ans56 hs.sm (spOf c).valid
  rw[EGs_of (hs.fit rfl)]at cg
  refine L_ldN (n:=8) ((k5.2 _ (by omega)).trans p2) (by omega) rfl ?_
  refine L_ldN (n:=5) o5 (by omega) rfl ?_
  refine L_ldN (n:=5) o5 (by omega) rfl ?_
  refine L_shift ?_
  refine L_ldp o5 (by omega) rfl rfl ?_
  refine L_callA cg ?_
  refine⟨_,fun T hT=>by rw[bld_of (cs:=c.cells++(spOf c).cells ++ [aL aB (egP (spOf c) (spOf c).valid)]) rfl];exact⟨rfl,rfl⟩,?_⟩
  refine boxA_of rfl fun S6 k6 n6 o6=>?_
  rw[ldN_p (n:=4) ((k6.2 _ (by omega)).trans ((k5.2 _ (by omega)).trans o2)) (Fo.row_len f)]
  refine callF_at (at57 hs (In.eg rfl) hc f hf 60 hd (S:=S6) ⟨o6,by omega⟩) ?_
  exact⟨_,rfl,(kk.trans k5).trans k6,cv_t2 (treeB _ _ _) (.v _)⟩
theorem ans61{c:Ci}(hc:c.ok){f:Fo}(hf:f.ok):Ans Pg 61 [c.av,f.av] (.t [(verdictB c f).1.av,aI (verdictB c f).2]):=by
 intro S
 refine ACalls.tree (calls61 ?_)
 unfold m61
 refine boxA_of rfl fun S1 k1 n1 o1=>?_
 refine boxA_of (Fo.row_len f) fun S2 k2 n2 o2=>?_
 refine boxA_of rfl fun S3 k3 n3 o3=>?_
 have kk:=(k1.trans k2).trans k3
 have p3:=(k3.2 _ (by omega)).trans ((k2.2 _ (by omega)).trans o1)
 rw[ldN_p (n:=8) p3 rfl,ldN_p (n:=4) ((k3.2 _ (by omega)).trans o2) (Fo.row_len f)]
 refine callF_ans (ans28 hc hf) ?_
 rw[extr0,extr1,told_truth]
 have hver:verdictB c f=if(toldB c f).2.2=0 then(verB (toldB c f).1 (toldB c f).2.1.initial,0)else(⟨false,0,0⟩,(toldB c f).2.2):=rfl
 rw[hver]
 have cvV:∀(T:Store) (n:Nat) (v:Ve),Cv T n v.av v.av:=fun T n v=>Tree.a (fun u hu=>by
  simp only[Ve.cells,List.mem_cons,List.not_mem_nil,or_false]at hu
  rcases hu with rfl|rfl|rfl<;>exact Tree.v _) T n
 rw[bin_neq,onB_v]
 refine gd_of (fun he=>?_) (fun he=>?_)
 ·have he:¬ (toldB c f).2.2=0:=by simpa using he
  rw[if_neg he,bld_of (cs:=(⟨false,0,0⟩:Ve).cells) rfl]
  refine stA_of o3 rfl rfl fun S6 n6 o6 f6=>?_
  rw[ldN_p (n:=3) o6 rfl]
  exact⟨_,rfl,kk.st (by omega) n6 f6,cv_t2 (cvV _ _ ⟨false,0,0⟩) (.v _)⟩
 have he:(toldB c f).2.2=0:=by simpa using he
 rw[if_pos he]
 obtain⟨_,he1,hok,hin⟩:=told_fit he
 have hsp:spaceB c=(spOf c,0):=by
  have:=congrArg (fun x=>x.2.2) he1
  unfold toldB at he1
  split at he1
  ·have:=congrArg (fun x=>x.2.2) he1;cases this
  ·split at he1
   ·rename_i h2;exact(spaceB_ok h2).1
   ·rename_i h2
    have:=congrArg (fun x=>x.2.2) he1
    exact absurd this h2
 rw[ldN_p (n:=8) p3 rfl]
 refine callF_ans (ans35 hc) ?_
 rw[extr0,extr1,hsp,he1]
 have hil:=hok.ini
 have hll:=hin.len
 have hv:=hok.small.h1
 refine boxA_of rfl fun S4 k4 n4 o4=>?_
 refine stA_of (cs':=(spOf c).cells) o4 rfl rfl fun S5 n5 o5 f5=>?_
 have k5:=k4.st (Nat.le_refl _) n5 f5
 rw[bld_of (cs:=(⟨true,0,-1⟩:Ve).cells) rfl]
 refine boxA_of rfl fun S6 k6 n6 o6=>?_
 refine stA_of (cs':=(⟨true,0,-1⟩:Ve).cells) o6 rfl rfl fun S7 n7 o7 f7=>?_
 have k7:=k6.st (Nat.le_refl _) n7 f7
 have s7:=(k7.2 _ (by omega)).trans o5
 have v7:=(k7.2 _ (by omega)).trans ((k5.2 _ (by omega)).trans o3)
 have ka:=(kk.trans k5).trans k7
 show loopV _ _ _ (env61_0 (.p S2.n 0 0) (aL aB (semC c f)) (.p S3.n 0 0) (.p S5.n 0 0) (.v (.int .i64 0))) _ _
 generalize spOf c=s at *
 generalize semC c f=l at *
 refine loop61_0 (fun y S'=>Keep S S'∧S7.n≤S'.n∧(∀ i,i<S5.n→S'.obj i=S7.obj i)∧∃ i:Nat,y=aI i∧i≤s.initial.length∧S'.obj S5.n=some (.cells 110 [[aB (decide ((vTo l s.initial i).2<0)),aI (vTo l s.initial i).1,aI (vTo l s.initial i).2]] true))
  (fun y _=>s.initial.length - ((intA y).getD 0).toNat) ⟨ka,Nat.le_refl _,fun _ _=>rfl,0,rfl,Nat.zero_le _,o7⟩ ?_
 rintro _ S8 ⟨k8,n8,f8,i,rfl,hi,o8⟩ KE hKE
 have s8:=(f8 _ (by omega)).trans s7
 have v8:=(f8 _ (by omega)).trans v7
 unfold b61_0
 have hb:=vTo_le l s.initial i
 rw[lenS_aL,bin_lss,onB_v]
 refine gd_of (fun hlt=>?_) (fun hge=>?_)
 ·have hlt:i<s.initial.length:=by have:=of_decide_eq_true hlt;omega
  have hadd:∀(T:Store) (K:AV→Store→Prop),bin .add 0 (aI i) (.v (.int .i64 1)) T K=K (aI (i+1:Nat)) T:=fun T K=>bin_add (by omega) (by omega) 0
  have hμ:s.initial.length - ((intA (aI (i+1:Nat))).getD 0).toNat<s.initial.length - ((intA (aI i)).getD 0).toNat:=by simp[intA];omega
  rw[shift_p,ld1_p s8 rfl rfl,ixB hlt,ld1_q,un_not,onB_v]
  refine gd_of (fun h=>?_) (fun h=>?_)
  ·have h:bit s.initial i=false:=by simpa using h
   rw[hadd]
   exact hKE _ _ ⟨k8,n8,f8,i+1,rfl,hlt,by rw[vTo,if_neg (by rw[h];decide)];exact o8⟩ hμ
  have h:bit s.initial i=true:=by simpa using h
  rw[shift_p,ld1_p o8 rfl rfl,bin_add (by omega) (by omega),shift_p]
  refine stF_of o8 (by simp) rfl fun S9 n9 o9 f9=>?_
  have k9:=k8.st (id:=S5.n) (by have:=ka.1;have:=k5.1;omega) n9 f9
  have g9:∀ i,i<S5.n→S9.obj i=S7.obj i:=fun i hi=>(f9 _ (by omega)).trans (f8 _ hi)
  rw[ixB (by omega),ld1_q,un_not,onB_v]
  refine gd_of (fun hl=>?_) (fun hl=>?_)
  ·have hl:bit l i=false:=by simpa using hl
   rw[shift_p,ld1_p o9 rfl rfl,onB_v]
   refine gd_of (fun hn=>?_) (fun hn=>?_)
   ·rw[shift_p]
    refine stF_of o9 (by simp) rfl fun SA nA oA fA=>?_
    rw[shift_p]
    refine stF_of oA (by simp) rfl fun SB nB oB fB=>?_
    rw[hadd]
    have kB:=(k9.st (id:=S5.n) (by have:=ka.1;have:=k5.1;omega) nA fA).st (id:=S5.n) (by have:=ka.1;have:=k5.1;omega) nB fB
    refine hKE _ _ ⟨kB,by omega,fun i hi=>(fB _ (by omega)).trans ((fA _ (by omega)).trans (g9 i hi)),i+1,rfl,hlt,?_⟩ hμ
    rw[vTo,if_pos h,if_pos ⟨hl,of_decide_eq_true hn⟩]
    rw[show decide (((vTo l s.initial i).1+1,(i:Int)).2<0)=false from decide_eq_false (by simp only;omega)]
    exact oB
   ·rw[hadd]
    refine hKE _ _ ⟨k9,by omega,g9,i+1,rfl,hlt,?_⟩ hμ
    rw[vTo,if_pos h,if_neg fun q=>of_decide_eq_false hn q.2]
    exact o9
  ·have hl:bit l i=true:=by simpa using hl
   rw[hadd]
   refine hKE _ _ ⟨k9,by omega,g9,i+1,rfl,hlt,?_⟩ hμ
   rw[vTo,if_pos h,if_neg fun q=>by rw[hl]at q;exact absurd q.1 (by decide)]
   exact o9
 ·have hge:i=s.initial.length:=by have:=of_decide_eq_false hge;omega
  subst hge
  rw[ldN_p (n:=3) o8 rfl]
  refine stA_of v8 rfl rfl fun S9 n9 o9 f9=>?_
  rw[ldN_p (n:=3) o9 rfl]
  exact⟨_,rfl,k8.st (id:=S2.n) (by have:=k1.1;have:=k2.1;omega) n9 f9,cv_t2 (cvV _ _ (verB l s.initial)) (.v _)⟩
section
set_option maxRecDepth 100000
def c62:Code:=(Tryz.f62.body).getD .skip
def ms62:List (List Nat):=[[]]
def m62(x0 x1 x2:AV)(S:Store)(Q:PoT):Prop:=
 ld1 x1 S fun a S=>bin .add 0 a (.v (.int .i64 1)) S fun c S=>stN 1 x1 c S fun d S=>ld1 x1 S fun e S=>ld1 x2 S fun f S=>lenS f S fun g S=>bin .gtr 0 e g S fun h S=>onB h fun b=>gd b (Q (.ret (.v (.int .i64 0))) S) (ld1 x2 S fun i S=>ld1 x1 S fun k S=>bin .sub 0 k (.v (.int .i64 1)) S fun l S=>ixS 5 1 i l S fun m S=>ld1 m S fun n S=>convI .i64 n S fun o S=>bin .rem 0 o x0 S fun p S=>Q (.ret p) S)
theorem calls62{x0 x1 x2:AV}{S:Store}{Q:PoT}(h:m62 x0 x1 x2 S Q):ACalls Pg 62 [x0,x1,x2] S Q:=
 calls_of_vc (fn:=Tryz.f62) (c:=c62) (n:=19) Tryz.func62 (by kernel_rfl) (by kernel_rfl) (by kernel_rfl) ms62 (Eq.mpr (by kernel_rfl) h)
def c63:Code:=(Tryz.f63.body).getD .skip
def r63:List ResultVar:=Tryz.f63.results.toList
def env63_0(y0 y4 y6 y8 y9:AV):List AV:=[y0,y4,y6,y8,y9]
def lv63_0:List Nat:=[0,4,6,8,9]
def ms63:List (List Nat):=[lv63_0,[0]]
def m63(x0 x1 x2 x3 x4:AV)(S:Store)(Q:PoT):Prop:=
 boxN 24 4 (.a [.v (.int .i64 0),.v (.string ByteArray.empty),.v (.int .i64 0),.nl]) S fun c S=>ld1 x1 S fun d S=>callV Pg d [.v (.int .i64 18)] S (fun e S=>bin .add 0 (.v (.int .i64 1)) e S fun f S=>bin .eql 0 x0 (.v (.int .i64 0)) S fun g S=>onB g fun b=>gd b (ld1 x1 S fun h S=>callV Pg h [.v (.int .i64 7)] S (fun i S=>bin .quo 0 i (.v (.int .i64 5)) S fun k S=>bin .sub 0 (.v (.int .i64 3)) k S fun l S=>bld [(0,1),(1,1),(2,1),(3,1)] [.v (.int .i64 0),.v (.string ByteArray.empty),.v (.int .i64 0),.nl] [(0,l)] S fun m S=>boxN 24 4 (.a [.v (.int .i64 0),.v (.string ByteArray.empty),.v (.int .i64 0),.nl]) S fun n S=>stN 4 n m S fun o S=>bin .eql 0 l (.v (.int .i64 3)) S fun p S=>onB p fun b=>gd b (bslN 9 1 7 [.v (.string ByteArray.empty)] [(0,(.v (.string { data:=#[113] }))),(1,(.v (.string { data:=#[108,48] }))),(2,(.v (.string { data:=#[111,117,116] }))),(3,(.v (.string { data:=#[108,49] }))),(4,(.v (.string { data:=#[105,48] }))),(5,(.v (.string { data:=#[111,48] }))),(6,(.v (.string { data:=#[97,45,98] })))] S fun q S=>ld1 x1 S fun r S=>callV Pg r [.v (.int .i64 7)] S (fun s S=>ixS 9 1 q s S fun t S=>ld1 t S fun w S=>shift n 1 S fun x S=>stN 1 x w S fun y S=>callF Pg 64 [l] S Q fun z S=>loopV lv63_0 (vc Pg (c63.at_ [1,1,1,1,1,0,1,0,0]) (ms63.drop 1)) 55 (env63_0 x0 x4 c n z) S (blockK 0 (seqK (vc Pg (c63.at_ [1,1,1,1,1,1]) (ms63.drop 1)) (bodyK Pg r63 Q)))) (fun u S=>Q (.pan u) S)) (callF Pg 64 [l] S Q fun A S=>loopV lv63_0 (vc Pg (c63.at_ [1,1,1,1,1,0,1,0,0]) (ms63.drop 1)) 55 (env63_0 x0 x4 c n A) S (blockK 0 (seqK (vc Pg (c63.at_ [1,1,1,1,1,1]) (ms63.drop 1)) (bodyK Pg r63 Q))))) (fun u S=>Q (.pan u) S)) (ld1 x2 S fun B S=>ld1 x3 S fun C S=>lenS C S fun D S=>bin .geq 0 B D S fun E S=>onB E fun b=>gd b (ld1 x1 S fun F S=>callV Pg F [.v (.int .i64 7)] S (fun G S=>bin .quo 0 G (.v (.int .i64 5)) S fun H S=>bin .sub 0 (.v (.int .i64 3)) H S fun I S=>bld [(0,1),(1,1),(2,1),(3,1)] [.v (.int .i64 0),.v (.string ByteArray.empty),.v (.int .i64 0),.nl] [(0,I)] S fun J S=>boxN 24 4 (.a [.v (.int .i64 0),.v (.string ByteArray.empty),.v (.int .i64 0),.nl]) S fun K S=>stN 4 K J S fun L S=>bin .eql 0 I (.v (.int .i64 3)) S fun M S=>onB M fun b=>gd b (bslN 9 1 7 [.v (.string ByteArray.empty)] [(0,(.v (.string { data:=#[113] }))),(1,(.v (.string { data:=#[108,48] }))),(2,(.v (.string { data:=#[111,117,116] }))),(3,(.v (.string { data:=#[108,49] }))),(4,(.v (.string { data:=#[105,48] }))),(5,(.v (.string { data:=#[111,48] }))),(6,(.v (.string { data:=#[97,45,98] })))] S fun N S=>ld1 x1 S fun O S=>callV Pg O [.v (.int .i64 7)] S (fun P S=>ixS 9 1 N P S fun R S=>ld1 R S fun T S=>shift K 1 S fun U S=>stN 1 U T S fun V S=>callF Pg 64 [I] S Q fun W S=>loopV lv63_0 (vc Pg (c63.at_ [1,1,1,1,1,0,1,0,0]) (ms63.drop 1)) 55 (env63_0 x0 x4 c K W) S (blockK 0 (seqK (vc Pg (c63.at_ [1,1,1,1,1,1]) (ms63.drop 1)) (bodyK Pg r63 Q)))) (fun u S=>Q (.pan u) S)) (callF Pg 64 [I] S Q fun X S=>loopV lv63_0 (vc Pg (c63.at_ [1,1,1,1,1,0,1,0,0]) (ms63.drop 1)) 55 (env63_0 x0 x4 c K X) S (blockK 0 (seqK (vc Pg (c63.at_ [1,1,1,1,1,1]) (ms63.drop 1)) (bodyK Pg r63 Q))))) (fun u S=>Q (.pan u) S)) (ld1 x2 S fun Y S=>bin .gtr 0 Y (.v (.int .i64 30)) S fun Z S=>onB Z fun b=>gd b (ld1 x1 S fun a0 S=>callV Pg a0 [.v (.int .i64 7)] S (fun a1 S=>bin .quo 0 a1 (.v (.int .i64 5)) S fun a2 S=>bin .sub 0 (.v (.int .i64 3)) a2 S fun a3 S=>bld [(0,1),(1,1),(2,1),(3,1)] [.v (.int .i64 0),.v (.string ByteArray.empty),.v (.int .i64 0),.nl] [(0,a3)] S fun a4 S=>boxN 24 4 (.a [.v (.int .i64 0),.v (.string ByteArray.empty),.v (.int .i64 0),.nl]) S fun a5 S=>stN 4 a5 a4 S fun a6 S=>bin .eql 0 a3 (.v (.int .i64 3)) S fun a7 S=>onB a7 fun b=>gd b (bslN 9 1 7 [.v (.string ByteArray.empty)] [(0,(.v (.string { data:=#[113] }))),(1,(.v (.string { data:=#[108,48] }))),(2,(.v (.string { data:=#[111,117,116] }))),(3,(.v (.string { data:=#[108,49] }))),(4,(.v (.string { data:=#[105,48] }))),(5,(.v (.string { data:=#[111,48] }))),(6,(.v (.string { data:=#[97,45,98] })))] S fun a8 S=>ld1 x1 S fun a9 S=>callV Pg a9 [.v (.int .i64 7)] S (fun b0 S=>ixS 9 1 a8 b0 S fun b1 S=>ld1 b1 S fun b2 S=>shift a5 1 S fun b3 S=>stN 1 b3 b2 S fun b4 S=>callF Pg 64 [a3] S Q fun b5 S=>loopV lv63_0 (vc Pg (c63.at_ [1,1,1,1,1,0,1,0,0]) (ms63.drop 1)) 55 (env63_0 x0 x4 c a5 b5) S (blockK 0 (seqK (vc Pg (c63.at_ [1,1,1,1,1,1]) (ms63.drop 1)) (bodyK Pg r63 Q)))) (fun u S=>Q (.pan u) S)) (callF Pg 64 [a3] S Q fun b7 S=>loopV lv63_0 (vc Pg (c63.at_ [1,1,1,1,1,0,1,0,0]) (ms63.drop 1)) 55 (env63_0 x0 x4 c a5 b7) S (blockK 0 (seqK (vc Pg (c63.at_ [1,1,1,1,1,1]) (ms63.drop 1)) (bodyK Pg r63 Q))))) (fun u S=>Q (.pan u) S)) (bld [(0,1),(1,1),(2,1),(3,1)] [.v (.int .i64 0),.v (.string ByteArray.empty),.v (.int .i64 0),.nl] [(0,f)] S fun b8 S=>boxN 24 4 (.a [.v (.int .i64 0),.v (.string ByteArray.empty),.v (.int .i64 0),.nl]) S fun b9 S=>stN 4 b9 b8 S fun c0 S=>bin .eql 0 f (.v (.int .i64 3)) S fun c1 S=>onB c1 fun b=>gd b (bslN 9 1 7 [.v (.string ByteArray.empty)] [(0,(.v (.string { data:=#[113] }))),(1,(.v (.string { data:=#[108,48] }))),(2,(.v (.string { data:=#[111,117,116] }))),(3,(.v (.string { data:=#[108,49] }))),(4,(.v (.string { data:=#[105,48] }))),(5,(.v (.string { data:=#[111,48] }))),(6,(.v (.string { data:=#[97,45,98] })))] S fun c2 S=>ld1 x1 S fun c3 S=>callV Pg c3 [.v (.int .i64 7)] S (fun c4 S=>ixS 9 1 c2 c4 S fun c5 S=>ld1 c5 S fun c6 S=>shift b9 1 S fun c7 S=>stN 1 c7 c6 S fun c8 S=>callF Pg 64 [f] S Q fun c9 S=>loopV lv63_0 (vc Pg (c63.at_ [1,1,1,1,1,0,1,0,0]) (ms63.drop 1)) 55 (env63_0 x0 x4 c b9 c9) S (blockK 0 (seqK (vc Pg (c63.at_ [1,1,1,1,1,1]) (ms63.drop 1)) (bodyK Pg r63 Q)))) (fun u S=>Q (.pan u) S)) (callF Pg 64 [f] S Q fun d0 S=>loopV lv63_0 (vc Pg (c63.at_ [1,1,1,1,1,0,1,0,0]) (ms63.drop 1)) 55 (env63_0 x0 x4 c b9 d0) S (blockK 0 (seqK (vc Pg (c63.at_ [1,1,1,1,1,1]) (ms63.drop 1)) (bodyK Pg r63 Q)))))))) (fun u S=>Q (.pan u) S)
theorem calls63{x0 x1 x2 x3 x4:AV}{S:Store}{Q:PoT}(h:m63 x0 x1 x2 x3 x4 S Q):ACalls Pg 63 [x0,x1,x2,x3,x4] S Q:=
 calls_of_vc (fn:=Tryz.f63) (c:=c63) (n:=55) Tryz.func63 (by kernel_rfl) (by kernel_rfl) (by kernel_rfl) ms63 (Eq.mpr (by kernel_rfl) h)
def b63_0(y0 y4 y6 y8 y9:AV)(S:Store)(KE0:KeT)(Q:PoT):Prop:=
 bin .gtr 0 y9 (.v (.int .i64 0)) S fun a S=>onB a fun b=>gd b (∃ c:AV,(∀ T:Store,Keep S T→shift y8 3 T fun d S=>d=c∧S=T)∧∃ e:AV,(∀ T:Store,Keep S T→ld1 c T fun f S=>f=e∧S=T)∧∃ g:AV,(∀ T:Store,Keep S T→ld1 y4 T fun h S=>h=g∧S=T)∧∃ i:AV,(∀ T:Store,Keep S T→bin .sub 0 y0 (.v (.int .i64 1)) T fun k S=>k=i∧S=T)∧callV Pg g [i] S (fun l S=>(∀ T:Store,Keep S T→ld1 c T fun m S=>m=e∧S=T)∧(∀ T:Store,Keep S T→shift y8 3 T fun n S=>n=c∧S=T)∧∃ o:AV,(∀ T:Store,Keep S T→bslN 24 4 1 [.v (.int .i64 0),.v (.string ByteArray.empty),.v (.int .i64 0),.nl] [(0,l)] T fun p S=>p=o∧S=T)∧appS 24 4 56 e o S fun q S=>∃ r:AV,(∀ T:Store,Keep S T→shift y8 3 T fun s S=>s=r∧S=T)∧stN 1 r q S fun t S=>bin .sub 0 y9 (.v (.int .i64 1)) S fun w S=>KE0 55 (env63_0 y0 y4 y6 y8 w) S) (fun u S=>False)) (ldN 4 y8 S fun x S=>stN 4 y6 x S fun y S=>ldN 4 y6 S fun z _=>Q (.ret z) S)
theorem b63_0_eq(y0 y4 y6 y8 y9:AV)(S:Store)(KE0:KeT)(Q:PoT):vc Pg (c63.at_ [1,1,1,1,1,0,1,0,0]) (ms63.drop 1) (mkE 55 lv63_0 (env63_0 y0 y4 y6 y8 y9)) S (thenK (fgK lv63_0 KE0) (blockK 0 (seqK (vc Pg (c63.at_ [1,1,1,1,1,1]) (ms63.drop 1)) (bodyK Pg r63 Q))))=b63_0 y0 y4 y6 y8 y9 S KE0 Q:=by kernel_rfl
theorem loop63_0{y0 y4 y6 y8:AV}{y90:AV}{S:Store}{Q:PoT}(I:AV→Store→Prop)(μ:AV→Store→Nat)(h0:I y90 S)
    (hr:∀(y9:AV) (S:Store),I y9 S→∀ KE0:KeT,(∀(y9':AV) (S':Store),I y9' S'→μ y9' S'<μ y9 S→KE0 55 (env63_0 y0 y4 y6 y8 y9') S')→b63_0 y0 y4 y6 y8 y9 S KE0 Q):
    loopV lv63_0 (vc Pg (c63.at_ [1,1,1,1,1,0,1,0,0]) (ms63.drop 1)) 55 (env63_0 y0 y4 y6 y8 y90) S (blockK 0 (seqK (vc Pg (c63.at_ [1,1,1,1,1,1]) (ms63.drop 1)) (bodyK Pg r63 Q))):=by
 refine⟨fun n e S=>n=55∧∃ y9:AV,e=(env63_0 y0 y4 y6 y8 y9)∧I y9 S,fun _ e S=>μ (e.getD 4 .j) S,?_,?_⟩
 ·exact⟨_,_,Wk.refl _ _,rfl,_,rfl,h0⟩
 ·rintro _ e S ⟨rfl,y9,rfl,hI⟩
  exact(b63_0_eq _ _ _ _ _ _ _ _).mpr (hr y9 S hI _ (fun y9' S' hI' hm=>⟨_,_,Wk.refl _ _,⟨rfl,_,rfl,hI'⟩,hm⟩))
def c34:Code:=(Tryz.f34.body).getD .skip
def ms34:List (List Nat):=[[0]]
def m34(x0:AV)(S:Store)(Q:PoT):Prop:=
 boxN 25 1 x0 S fun c S=>boxN 24 4 (.a [.v (.int .i64 0),.v (.string ByteArray.empty),.v (.int .i64 0),.nl]) S fun d S=>boxN 3 1 (.v (.int .i64 0)) S fun e S=>stN 1 e (.v (.int .i64 0)) S fun g S=>boxN 95 1 (.v .nilFunc) S fun h S=>stN 1 h (.f (.func 62) [] [e,c]) S fun i S=>boxN 113 1 (.v .nilFunc) S fun k S=>stN 1 k (.f (.func 63) [] [h,e,c,k]) S fun l S=>ld1 k S fun m S=>callV Pg m [.v (.int .i64 6)] S (fun n S=>stN 4 d n S fun o S=>ldN 4 d S fun p _=>Q (.ret p) S) (fun u S=>Q (.pan u) S)
theorem calls34{x0:AV}{S:Store}{Q:PoT}(h:m34 x0 S Q):ACalls Pg 34 [x0] S Q:=
 calls_of_vc (fn:=Tryz.f34) (c:=c34) (n:=10) Tryz.func34 (by kernel_rfl) (by kernel_rfl) (by kernel_rfl) ms34 (Eq.mpr (by kernel_rfl) h)
end
abbrev aU8(n:Int):AV:=.v (.int .u8 n)
def wordsL:List ByteArray:=[⟨#[113]⟩,⟨#[108,48]⟩,⟨#[111,117,116]⟩,⟨#[108,49]⟩,⟨#[105,48]⟩,⟨#[111,48]⟩,⟨#[97,45,98]⟩]
inductive MadeF:Nat→Fo→Prop
 |mk (d:Nat) (k:Int) (n:ByteArray) (ks:List Fo) (h1:1≤k) (h2:k≤18) (h3:(ks.length:Int)=kidsN k) (h4:k=3→n∈wordsL) (h5:¬ k=3→n=⟨#[]⟩) (h6:ks≠[]→0<d) (h:∀ f∈ks,MadeF (d - 1) f):MadeF d (.mk k n 0 ks)
theorem kidsN_le(k:Int):kidsN k≤2:=by unfold kidsN;split;omega;split;omega;split<;>omega
theorem Fo.tree:∀(f:Fo),∀ u∈f.row,Tree u:=by
 intro f
 induction f using Fo.ind with
 |h k n l ks ih =>
  intro u hu
  rw[Fo.row_mk]at hu
  simp only[List.mem_cons,List.not_mem_nil,or_false]at hu
  rcases hu with rfl|rfl|rfl|rfl
  ·exact Tree.v _
  ·exact Tree.v _
  ·exact Tree.v _
  ·refine Tree.l fun c hc u hu=>?_
   obtain⟨f,hf,rfl⟩:=List.mem_map.1 hc
   exact ih f hf u hu
theorem MadeF.ok:∀(f:Fo) (d:Nat),MadeF d f→f.ok:=by
 intro f
 induction f using Fo.ind with
 |h k n l ks ih =>
  intro d h
  cases h with
  |mk d _ _ _ h1 h2 h3 h4 h5 h6 h =>
   have hk:=kidsN_le k
   have hn:n.size≤3:=by
    by_cases hk:k=3
    ·have:=h4 hk
     simp only[wordsL,List.mem_cons,List.not_mem_nil,or_false]at this
     rcases this with rfl|rfl|rfl|rfl|rfl|rfl|rfl<;>decide
    ·rw[h5 hk];decide
   exact .mk _ _ _ _ ⟨by omega,by omega⟩ ⟨by decide,by decide⟩ (by omega) (by omega) fun f hf=>ih f hf _ (h f hf)
theorem pickG_of{S:Store}{aid lid ta tl k:Nat}{l:List Int}{n:Int}{Q:AEnd→Store→Prop}(h1:S.obj aid=some (.cells ta [[aI k]] true))(h2:S.obj lid=some (.cells tl [[aL aU8 l]] true))(hne:lid≠aid)
    (hl:∀ x∈l,0≤x∧x<256) (hn:0<n) (hk:k≤1000000)
    (K:∀ S',S'.n=S.n→S'.obj aid=some (.cells ta [[aI (k+1:Nat)]] true)→(∀ x,x≠aid→S'.obj x=S.obj x)→Q (.ret (aI (pickV l k n))) S'):ACalls Pg 62 [aI n,.p aid 0 0,.p lid 0 0] S Q:=by
 refine calls62 ?_
 unfold m62
 have hadd:∀ K:AV→Store→Prop,∀ S,bin .add 0 (.v (.int .i64 (k:Int))) (.v (.int .i64 1)) S K=K (aI (k+1:Nat)) S:=fun K S=>bin_add (by omega) (by omega) 0
 rw[ld1_p h1 rfl rfl,hadd]
 refine st_of h1 rfl rfl fun S1 n1 o1 f1=>?_
 have p1:=(f1 lid hne).trans h2
 rw[ld1_p o1 rfl rfl,ld1_p p1 rfl rfl,lenS_aL,bin_gtr,onB_v]
 refine gd_of (fun h=>?_) (fun h=>?_)
 ·have h:=of_decide_eq_true h
  have:=K S1 n1 o1 f1
  rw[pickV,if_pos (by omega)]at this
  exact this
 ·have h:=of_decide_eq_false h
  have hlt:k<l.length:=by omega
  have hx:=hl _ (List.getElem_mem hlt)
  have hsub:∀ K:AV→Store→Prop,∀ S,bin .sub 0 (.v (.int .i64 ((k+1:Nat):Int))) (.v (.int .i64 1)) S K=K (aI k) S:=fun K S=>(bin_sub (by omega) (by omega) 0).trans (by rw[show((k+1:Nat):Int) - 1=k by omega])
  rw[ld1_p p1 rfl rfl,ld1_p o1 rfl rfl,hsub,ixS_aL hlt,ld1_q,convI_64 _ (by omega) (by omega),bin_rem (by omega)]
  have:=K S1 n1 o1 f1
  rw[pickV,if_neg (by omega),show l.getD k 0=l[k]by simp[List.getD_eq_getElem?_getD,hlt]]at this
  exact this
abbrev pickG(b:Nat):AV:=.f (.func 62) [] [.p (b+2) 0 0,.p b 0 0]
abbrev makeG(b:Nat):AV:=.f (.func 63) [] [.p (b+3) 0 0,.p (b+2) 0 0,.p b 0 0,.p (b+4) 0 0]
structure Mg (b:Nat) (l:List Int) (k:Nat) (S:Store):Prop where
 n:b+5≤S.n
 lo:S.obj b=some (.cells 25 [[aL aU8 l]] true)
 ao:S.obj (b+2)=some (.cells 3 [[aI k]] true)
 po:S.obj (b+3)=some (.cells 95 [[pickG b]] true)
 mo:S.obj (b+4)=some (.cells 113 [[makeG b]] true)
def Ch(b:Nat)(S S':Store):Prop:=S.n≤S'.n∧∀ i,i<S.n→i≠b+2→S'.obj i=S.obj i
theorem Ch.trans{b:Nat}{S S' S'':Store}(h:Ch b S S')(k:Ch b S' S''):Ch b S S'':=⟨Nat.le_trans h.1 k.1,fun i hi hb=>(k.2 i (by have:=h.1;omega) hb).trans (h.2 i hi hb)⟩
theorem Ch.keep{b:Nat}{S S':Store}(k:Keep S S'):Ch b S S':=⟨k.1,fun i hi _=>k.2 i hi⟩
theorem Ch.st{b id:Nat}{S0 S S':Store}(h:Ch b S0 S)(hid:S0.n≤id∨id=b+2)(hn:S'.n=S.n)(ho:∀ x,x≠id→S'.obj x=S.obj x):Ch b S0 S':=⟨by have:=h.1;omega,fun i hi hb=>(ho i (by omega)).trans (h.2 i hi hb)⟩
theorem Ch.low{b:Nat}{S0 S S':Store}(h:Ch b S0 S)(hn:S.n≤S'.n)(ho:∀ x,x<S0.n→S'.obj x=S.obj x):Ch b S0 S':=⟨Nat.le_trans h.1 hn,fun i hi hb=>(ho i hi).trans (h.2 i hi hb)⟩
theorem Mg.mv{b k:Nat}{l:List Int}{S S':Store}(h:Mg b l k S)(hn:S.n≤S'.n)(ho:∀ i,i<b+5→S'.obj i=S.obj i):Mg b l k S':=⟨by have:=h.n;omega,(ho _ (by omega)).trans h.lo,(ho _ (by omega)).trans h.ao,(ho _ (by omega)).trans h.po,(ho _ (by omega)).trans h.mo⟩
theorem Mg.keep{b k:Nat}{l:List Int}{S S':Store}(h:Mg b l k S)(q:Keep S S'):Mg b l k S':=h.mv q.1 fun i hi=>q.2 i (by have:=h.n;omega)
theorem Mg.st{b k id:Nat}{l:List Int}{S S':Store}(h:Mg b l k S)(hid:b+5≤id)(hn:S'.n=S.n)(ho:∀ x,x≠id→S'.obj x=S.obj x):Mg b l k S':=h.mv (by omega) fun i hi=>ho i (by omega)
theorem Mg.pick{b k:Nat}{l:List Int}{S:Store}(h:Mg b l k S)(hl:∀ x∈l,0≤x∧x<256){n:Int}(hn:0<n)(hk:k≤1000){K X:AV→Store→Prop}
    (kk:∀ S',Mg b l (k+1) S'→S'.n=S.n→(∀ x,x≠b+2→S'.obj x=S.obj x)→K (aI (pickV l k n)) S'):callV Pg (pickG b) [aI n] S K X:=
 .inl (pickG_of h.ao h.lo (by omega) hl hn (by omega) fun S' n2 o2 f2=>kk S' ⟨by have:=h.n;omega,(f2 _ (by omega)).trans h.lo,o2,(f2 _ (by omega)).trans h.po,(f2 _ (by omega)).trans h.mo⟩ n2 f2)
def mostP:Nat→Nat
 |0=>3
 |d+1=>3+2*mostP d
theorem mostP_pos:∀ d,3≤mostP d
 |0=>by decide
 |d+1=>by unfold mostP;omega
def MadeQ(b:Nat)(l:List Int)(k d:Nat)(T:Store)(tr:AV)(T':Store):Prop:=∃(f:Fo) (k':Nat),tr=f.av∧Mg b l k' T'∧Ch b T T'∧k≤k'∧k'≤k+mostP d∧MadeF d f
theorem bslA4{e:Nat}{z1 z2 z3 z4:AV}{r:List AV}{S:Store}{K:AV→Store→Prop}(hr:r.length=4)(k:K (.l [r]) S):bslN e 4 1 [z1,z2,z3,z4] [(0,.a r)] S K:=by
 match r,hr with
 |[u,v,w,x],_ =>
  refine⟨[u,v,w,x],?_,.inr ?_⟩
  ·simp[fillA,cellsOf,spl]
  ·simpa[chunks]using k
theorem bsl7{e:Nat}{z:AV}{a1 a2 a3 a4 a5 a6 a7:ByteArray}{S:Store}{K:AV→Store→Prop}(k:K (aL (fun a=>.v (.string a)) [a1,a2,a3,a4,a5,a6,a7]) S):
    bslN e 1 7 [z] [(0,.v (.string a1)),(1,.v (.string a2)),(2,.v (.string a3)),(3,.v (.string a4)),(4,.v (.string a5)),(5,.v (.string a6)),(6,.v (.string a7))] S K:=by
 refine⟨[.v (.string a1),.v (.string a2),.v (.string a3),.v (.string a4),.v (.string a5),.v (.string a6),.v (.string a7)],?_,.inr ?_⟩
 ·have h:∀ a:ByteArray,cellsOf (.v (.string a))=some [.v (.string a)]:=fun _=>rfl
  simp[fillA,h,spl,List.range_succ]
 ·simpa[chunks,List.range_succ,aL]using k
section
variable {b:Nat} {l:List Int} (hl:∀ x∈l,0≤x∧x<256) {d:Nat}
 (ih:∀ d',d=d'+1→∀{k:Nat} {T:Store},Mg b l k T→k+mostP d'≤1000→ACalls Pg 63 [aI d',.p (b+3) 0 0,.p (b+2) 0 0,.p b 0 0,.p (b+4) 0 0] T (fun e T'=>∃ tr,e = .ret tr∧MadeQ b l k d' T tr T'))
include ih
theorem kids_of{T0 T:Store}{k0 k fid:Nat}{kd:Int}{nm:ByteArray}{r:Int}{Q:AEnd→Store→Prop}(hm:Mg b l k T)(h0:b+5≤T0.n)(hc:Ch b T0 T)(hb:b+2<T0.n)(hf:T0.n<fid)(hfT:fid<T.n)(hv1:T.obj T0.n=some (.cells 24 [(Fo.mk 0 ⟨#[]⟩ 0 []).row.set 3 .nl] true))
    (ho:T.obj fid=some (.cells 24 [[aI kd,.v (.string nm),aI 0,.nl]] true)) (hr:r=kidsN kd) (h1:1≤kd) (h2:kd≤18) (h3:kd=3→nm∈wordsL) (h4:¬ kd=3→nm=⟨#[]⟩) (h5:kd≤3∨0<d) (hd:d≤6)
    (hk0:k0≤k) (hk:k≤k0+3) (hk1:k0+mostP d≤1000) (hQ:∀ rr tr T',Cv (T'.frz (newer T0.n)) T'.n rr tr→MadeQ b l k0 d T0 tr T'→Q (.ret rr) T'):
    loopV lv63_0 (vc Pg (c63.at_ [1,1,1,1,1,0,1,0,0]) (ms63.drop 1)) 55 (env63_0 (aI d) (.p (b+4) 0 0) (.p T0.n 0 0) (.p fid 0 0) (aI r)) T (blockK 0 (seqK (vc Pg (c63.at_ [1,1,1,1,1,1]) (ms63.drop 1)) (bodyK Pg r63 Q))):=by
 have hr0:0≤r∧r≤2∧(kd≤3→r=0):=by
  have hle:=kidsN_le kd
  subst hr
  refine⟨?_,hle,fun h=>?_⟩
  ·unfold kidsN
   rw[if_neg (by omega)]
   split
   ·omega
   split<;>omega
  ·unfold kidsN
   rw[if_neg (by omega),if_pos h]
 have hP:∀ d',d=d'+1→mostP d=3+2*mostP d':=fun d' e=>by subst e;rfl
 refine loop63_0 (fun y S'=>∃(i k':Nat) (ks:List Fo) (yk:AV),y=aI i∧(i:Int)+ks.length=r∧Mg b l k' S'∧Ch b T0 S'∧fid<S'.n∧S'.obj T0.n=some (.cells 24 [(Fo.mk 0 ⟨#[]⟩ 0 []).row.set 3 .nl] true)∧
     S'.obj fid=some (.cells 24 [[aI kd,.v (.string nm),aI 0,yk]] true)∧Own (fid+1) S' yk 24 (ks.map Fo.row)∧(∀ f∈ks,MadeF (d - 1) f)∧k0≤k'∧k'+i*mostP (d - 1)≤k0+3+r.toNat*mostP (d - 1))
  (fun y _=>((intA y).getD 0).toNat) ⟨r.toNat,k,[],.nl,by rw[show((r.toNat:Nat):Int)=r by omega],by simp;omega,hm,hc,hfT,hv1,ho,.nl _ _ _,(fun f h=>by cases h),hk0,by omega⟩ ?_
 rintro _ S1 ⟨i,k',ks,yk,rfl,hi,m1,c1,f1,v1,o1,w1,hks,hk2,hk3⟩ KE hKE
 unfold b63_0
 have mn:=m1.n
 rw[bin_gtr,onB_v]
 refine gd_of (fun h=>?_) (fun h=>?_)
 ·have hpos:0<i:=by have:=of_decide_eq_true h;omega
  obtain⟨i',rfl⟩:∃ i',i=i'+1:=⟨i - 1,by omega⟩
  have hd0:0<d:=by
   rcases h5 with h5|h5
   ·have:=hr0.2.2 h5
    omega
   ·exact h5
  obtain⟨d',rfl⟩:∃ d',d=d'+1:=⟨d - 1,by omega⟩
  have hP':=hP d' rfl
  rw[show d'+1 - 1=d' from rfl]at hk3 hks
  have hi2:i'+1≤2:=by omega
  have hrt:r.toNat≤2:=by omega
  have hmul:r.toNat*mostP d'≤2*mostP d':=Nat.mul_le_mul_right _ hrt
  have hsplit:(i'+1)*mostP d'=i'*mostP d'+mostP d':=Nat.succ_mul _ _
  refine L_shift ?_
  refine L_ldp o1 f1 rfl rfl ?_
  refine L_ldp m1.mo (by omega) rfl rfl ?_
  refine⟨aI d',fun T hT=>by rw[bin_sub (by omega) (by omega),show((d'+1:Nat):Int) - 1=d' by omega];exact⟨rfl,rfl⟩,?_⟩
  refine .inl ((ih d' rfl m1 (by omega)).mono ?_)
  rintro e S2 ⟨tr,rfl,f,k2,rfl,m2,c2,hk4,hk5,hf2⟩
  show _∧_
  have o2:=(c2.2 _ f1 (by omega)).trans o1
  have n2:=c2.1
  have w2:Own (fid+1) S2 yk 24 (ks.map Fo.row):=w1.same n2 fun j hj hj2=>c2.2 j hj2 (by omega)
  refine⟨fun T hT=>by rw[ld1_p ((hT.2 _ (by omega)).trans o2) rfl rfl];exact⟨rfl,rfl⟩,fun T hT=>⟨rfl,rfl⟩,?_⟩
  refine⟨.l [f.row],fun T hT=>bslA4 (Fo.row_len f) ⟨rfl,rfl⟩,?_⟩
  refine w2.app (c:=f.row) (by omega) (Fo.row_len f) (by rw[List.length_map];omega) (fun z S3 w3 b3 hz3=>?_) rfl
  obtain⟨m3,hm3⟩:=hz3
  have n3:=b3.1
  have k3:∀ x,x<fid+1→S3.obj x=S2.obj x:=fun x hx=>b3.2 x (by omega) (fun b m e=>by have:=w2.lt e;omega)
  refine L_shift ?_
  refine stF_of ((k3 _ (by omega)).trans o2) (by simp) (by rw[hm3];rfl) fun S4 n4 o4 f4=>?_
  rw[bin_sub (by omega) (by omega),show((i'+1:Nat):Int) - 1=i' by omega]
  have old:∀ x,x<fid→S4.obj x=S2.obj x:=fun x hx=>(f4 x (by omega)).trans (k3 x (by omega))
  refine hKE _ _ ⟨i',k2,ks ++ [f],z,rfl,by simp;omega,m2.mv (by omega) fun x hx=>old x (by omega),(c1.trans c2).low (by omega) fun x hx=>old x (by omega),by omega,(old _ hf).trans ((c2.2 _ (by omega) (by omega)).trans v1),o4,?_,?_,by omega,?_⟩ (by simp[intA])
  ·rw[List.map_append]
   exact w3.st (id:=fid) (fun b m e=>by rw[hm3]at e;injection e;omega) n4 f4
  ·intro g hg
   rcases List.mem_append.1 hg with hg|hg
   ·exact hks g hg
   ·rw[List.mem_singleton.1 hg];exact hf2
  ·show k2+i'*mostP d'≤k0+3+r.toNat*mostP d'
   omega
 ·have hge:i=0:=by have:=of_decide_eq_false h;omega
  subst hge
  rw[ldN_p (n:=4) o1 rfl]
  refine stA_of v1 rfl (by rw[List.length_set,Fo.row_len]) fun S2 n2 o2 f2=>?_
  rw[ldN_p (n:=4) o2 rfl]
  have w2:Own (fid+1) S2 yk 24 (ks.map Fo.row):=w1.st (id:=T0.n) (fun b m e=>by have:=w1.lt e;omega) n2 f2
  refine hQ _ (Fo.mk kd nm 0 ks).av S2 ?_ ⟨.mk kd nm 0 ks,k',rfl,m1.st (id:=T0.n) (by omega) n2 f2,c1.st (.inl (Nat.le_refl _)) n2 f2,hk2,?_,.mk _ _ _ _ h1 h2 (by omega) h3 h4 (fun hne=>?_) hks⟩
  ·rw[Fo.av,Fo.row_mk]
   refine .a _ _ rfl fun k u u2 e1 e2=>?_
   match k with
   |0=>cases e1;cases e2;exact .v _
   |1=>cases e1;cases e2;exact .v _
   |2=>cases e1;cases e2;exact .v _
   |3=>cases e1;cases e2;exact own_rows (fun r hr u hu=>by obtain⟨f,_,rfl⟩:=List.mem_map.1 hr;exact Fo.tree f u hu) w2 (by omega)
   |k+4=>simp at e1
  ·rcases Nat.eq_zero_or_pos d with hz|hz
   ·have:r=0:=hr0.2.2 (by omega)
    rw[this]at hk3
    have:=mostP_pos d
    simp at hk3
    omega
   ·obtain⟨d',rfl⟩:∃ d',d=d'+1:=⟨d - 1,by omega⟩
    have hP':=hP d' rfl
    have hmul:r.toNat*mostP d'≤2*mostP d':=Nat.mul_le_mul_right _ (by omega)
    rw[show d'+1 - 1=d' from rfl]at hk3
    omega
  ·rcases h5 with h5|h5
   ·have:=hr0.2.2 h5
    have:ks = []:=List.eq_nil_of_length_eq_zero (by omega)
    exact absurd this hne
   ·exact h5
end
section
variable {b:Nat} {l:List Int} (hl:∀ x∈l,0≤x∧x<256) {d:Nat}
 (ih:∀ d',d=d'+1→∀{k:Nat} {T:Store},Mg b l k T→k+mostP d'≤1000→ACalls Pg 63 [aI d',.p (b+3) 0 0,.p (b+2) 0 0,.p b 0 0,.p (b+4) 0 0] T (fun e T'=>∃ tr,e = .ret tr∧MadeQ b l k d' T tr T'))
include hl ih
theorem rest_of{T0 T:Store}{k0 k:Nat}{kd:Int}{Q:AEnd→Store→Prop}(hm:Mg b l k T)(h0:b+5≤T0.n)(hc:Ch b T0 T)(hT:T0.n<T.n)(hv1:T.obj T0.n=some (.cells 24 [(Fo.mk 0 ⟨#[]⟩ 0 []).row.set 3 .nl] true))
    (h1:1≤kd) (h2:kd≤18) (h5:kd≤3∨0<d) (hd:d≤6) (hk0:k0≤k) (hk:k≤k0+2) (hk1:k0+mostP d≤1000) (hQ:∀ rr tr T',Cv (T'.frz (newer T0.n)) T'.n rr tr→MadeQ b l k0 d T0 tr T'→Q (.ret rr) T'):
    bld [(0,1),(1,1),(2,1),(3,1)] [.v (.int .i64 0),.v (.string ByteArray.empty),.v (.int .i64 0),.nl] [(0,(aI kd))] T fun v11 S=>boxN 24 4 (.a [.v (.int .i64 0),.v (.string ByteArray.empty),.v (.int .i64 0),.nl]) S fun v12 S=>stN 4 v12 v11 S fun v13 S=>bin .eql 0 (aI kd) (.v (.int .i64 3)) S fun v14 S=>onB v14 fun b15=>gd b15 (bslN 9 1 7 [.v (.string ByteArray.empty)] [(0,(.v (.string { data:=#[113] }))),(1,(.v (.string { data:=#[108,48] }))),(2,(.v (.string { data:=#[111,117,116] }))),(3,(.v (.string { data:=#[108,49] }))),(4,(.v (.string { data:=#[105,48] }))),(5,(.v (.string { data:=#[111,48] }))),(6,(.v (.string { data:=#[97,45,98] })))] S fun v16 S=>ld1 (.p (b+3) 0 0) S fun v17 S=>callV Pg v17 [.v (.int .i64 7)] S (fun v18 S=>ixS 9 1 v16 v18 S fun v19 S=>ld1 v19 S fun v20 S=>shift v12 1 S fun v21 S=>stN 1 v21 v20 S fun v22 S=>callF Pg 64 [(aI kd)] S Q fun v23 S=>loopV lv63_0 (vc Pg (c63.at_ [1,1,1,1,1,0,1,0,0]) (ms63.drop 1)) 55 (env63_0 (aI d) (.p (b+4) 0 0) (.p T0.n 0 0) v12 v23) S (blockK 0 (seqK (vc Pg (c63.at_ [1,1,1,1,1,1]) (ms63.drop 1)) (bodyK Pg r63 Q)))) (fun u S=>Q (.pan u) S)) (callF Pg 64 [(aI kd)] S Q fun v24 S=>loopV lv63_0 (vc Pg (c63.at_ [1,1,1,1,1,0,1,0,0]) (ms63.drop 1)) 55 (env63_0 (aI d) (.p (b+4) 0 0) (.p T0.n 0 0) v12 v24) S (blockK 0 (seqK (vc Pg (c63.at_ [1,1,1,1,1,1]) (ms63.drop 1)) (bodyK Pg r63 Q)))):=by
 have hmp:=mostP_pos d
 rw[bld_of (cs:=[aI kd,.v (.string ⟨#[]⟩),aI 0,.nl]) rfl]
 refine boxA_of rfl fun S1 k1 n1 o1=>?_
 refine stA_of (cs':=[aI kd,.v (.string ⟨#[]⟩),aI 0,.nl]) o1 rfl rfl fun S2 n2 o2 f2=>?_
 have k2:=k1.st (Nat.le_refl _) n2 f2
 have m2:=hm.keep k2
 have c2:=hc.trans (Ch.keep (b:=b) k2)
 have v2:=(k2.2 _ hT).trans hv1
 rw[bin_eql,onB_v]
 refine gd_of (fun h=>?_) (fun h=>?_)
 ·have h:kd=3:=of_decide_eq_true h
  refine bsl7 ?_
  rw[ld1_p m2.po rfl rfl]
  refine m2.pick hl (by omega) (by omega) fun S3 m3 n3 f3=>?_
  obtain⟨q0,q7⟩:=pickV_rng (l:=l) (k:=k) (n:=7) (fun x hx=>⟨(hl x hx).1,by have:=(hl x hx).2;omega⟩) (by omega)
  generalize pickV l k 7=p at *
  obtain⟨p,rfl⟩:=Int.eq_ofNat_of_zero_le q0
  have hp:p<wordsL.length:=by simp[wordsL];omega
  rw[show ∀ K:AV→Store→Prop,ixS 9 1 (aL (fun a=>.v (.string a)) [⟨#[113]⟩,⟨#[108,48]⟩,⟨#[111,117,116]⟩,⟨#[108,49]⟩,⟨#[105,48]⟩,⟨#[111,48]⟩,⟨#[97,45,98]⟩]) (aI p) S3 K=K (.q [.v (.string wordsL[p])] 0) S3 from fun K=>ixS_aL (l:=wordsL) hp]
  rw[ld1_q,shift_p]
  have o3:=(f3 T.n (by have:=hm.n;omega)).trans o2
  refine stF_of o3 (by simp) rfl fun S4 n4 o4 f4=>?_
  refine callF_ans (ans64 kd) ?_
  exact kids_of ih (nm:=wordsL[p]) (m3.st (id:=T.n) (by have:=hm.n;omega) n4 f4) h0 ((c2.st (.inr rfl) n3 f3).st (.inl (by omega)) n4 f4) (by omega) hT (by omega) ((f4 _ (by omega)).trans ((f3 _ (by omega)).trans v2)) o4 rfl h1 h2 (fun _=>List.getElem_mem _) (fun h'=>absurd h h') h5 hd (by omega) (by omega) hk1 hQ
 ·have h:¬ kd=3:=of_decide_eq_false h
  refine callF_ans (ans64 kd) ?_
  exact kids_of ih (nm:=⟨#[]⟩) m2 h0 c2 (by omega) hT (by omega) v2 o2 rfl h1 h2 (fun h'=>absurd h' h) (fun _=>rfl) h5 hd (by omega) (by omega) hk1 hQ
theorem make_step(hd:d≤6){k:Nat}{T:Store}(hm:Mg b l k T)(hk:k+mostP d≤1000):ACalls Pg 63 [aI d,.p (b+3) 0 0,.p (b+2) 0 0,.p b 0 0,.p (b+4) 0 0] T (fun e T'=>∃ tr,e = .ret tr∧MadeQ b l k d T tr T'):=by
 have hmp:=mostP_pos d
 have h0:=hm.n
 refine(ACalls.treeW (Φ:=fun tr T'=>MadeQ b l k d T tr T') (calls63 ?_)).mono ?_
 ·unfold m63
  refine boxA_of (cs:=(Fo.mk 0 ⟨#[]⟩ 0 []).row.set 3 .nl) (by rw[List.length_set,Fo.row_len]) fun S1 k1 n1 o1=>?_
  have hQ:∀ rr tr T',Cv (T'.frz (newer T.n)) T'.n rr tr→MadeQ b l k d T tr T'→∃ r tr,AEnd.ret rr = .ret r∧Cv (T'.frz (newer T.n)) T'.n r tr∧MadeQ b l k d T tr T':=fun rr tr T' h1 h2=>⟨rr,tr,rfl,h1,h2⟩
  have m1:=hm.keep k1
  rw[ld1_p m1.po rfl rfl]
  refine m1.pick hl (by omega) (by omega) fun S2 m2 n2 f2=>?_
  obtain⟨p0,p18⟩:=pickV_rng (l:=l) (k:=k) (n:=18) (fun x hx=>⟨(hl x hx).1,by have:=(hl x hx).2;omega⟩) (by omega)
  generalize pickV l k 18=pk at *
  have c2:Ch b T S2:=(Ch.keep (b:=b) k1).st (.inr rfl) n2 f2
  have v2:=(f2 _ (by omega)).trans o1
  rw[bin_add (by omega) (by omega),bin_eql,onB_v]
  refine gd_of (fun h=>?_) (fun h=>?_)
  ·
   rw[ld1_p m2.po rfl rfl]
   refine m2.pick hl (by omega) (by omega) fun S3 m3 n3 f3=>?_
   obtain⟨q0,q7⟩:=pickV_rng (l:=l) (k:=k+1) (n:=7) (fun x hx=>⟨(hl x hx).1,by have:=(hl x hx).2;omega⟩) (by omega)
   generalize pickV l (k+1) 7=p at *
   have hq:p.tdiv 5=p / 5:=Int.tdiv_eq_ediv_of_nonneg q0
   rw[bin_quo (by omega) (by omega) (by omega),bin_sub (by omega) (by omega)]
   exact rest_of hl ih (kd:=3 - p.tdiv 5) m3 h0 (c2.st (.inr rfl) n3 f3) (by omega) ((f3 _ (by omega)).trans v2) (by omega) (by omega) (.inl (by omega)) hd (by omega) (by omega) hk hQ
  have hd0:¬ (d:Int)=0:=of_decide_eq_false h
  rw[ld1_p m2.ao rfl rfl,ld1_p m2.lo rfl rfl,lenS_aL,bin_geq,onB_v]
  refine gd_of (fun h=>?_) (fun h=>?_)
  ·
   rw[ld1_p m2.po rfl rfl]
   refine m2.pick hl (by omega) (by omega) fun S3 m3 n3 f3=>?_
   obtain⟨q0,q7⟩:=pickV_rng (l:=l) (k:=k+1) (n:=7) (fun x hx=>⟨(hl x hx).1,by have:=(hl x hx).2;omega⟩) (by omega)
   generalize pickV l (k+1) 7=p at *
   have hq:p.tdiv 5=p / 5:=Int.tdiv_eq_ediv_of_nonneg q0
   rw[bin_quo (by omega) (by omega) (by omega),bin_sub (by omega) (by omega)]
   exact rest_of hl ih (kd:=3 - p.tdiv 5) m3 h0 (c2.st (.inr rfl) n3 f3) (by omega) ((f3 _ (by omega)).trans v2) (by omega) (by omega) (.inl (by omega)) hd (by omega) (by omega) hk hQ
  rw[ld1_p m2.ao rfl rfl,bin_gtr,onB_v]
  refine gd_of (fun h=>?_) (fun h=>?_)
  ·
   rw[ld1_p m2.po rfl rfl]
   refine m2.pick hl (by omega) (by omega) fun S3 m3 n3 f3=>?_
   obtain⟨q0,q7⟩:=pickV_rng (l:=l) (k:=k+1) (n:=7) (fun x hx=>⟨(hl x hx).1,by have:=(hl x hx).2;omega⟩) (by omega)
   generalize pickV l (k+1) 7=p at *
   have hq:p.tdiv 5=p / 5:=Int.tdiv_eq_ediv_of_nonneg q0
   rw[bin_quo (by omega) (by omega) (by omega),bin_sub (by omega) (by omega)]
   exact rest_of hl ih (kd:=3 - p.tdiv 5) m3 h0 (c2.st (.inr rfl) n3 f3) (by omega) ((f3 _ (by omega)).trans v2) (by omega) (by omega) (.inl (by omega)) hd (by omega) (by omega) hk hQ
  exact rest_of hl ih (kd:=1+pk) m2 h0 c2 (by omega) v2 (by omega) (by omega) (.inr (by omega)) hd (by omega) (by omega) hk hQ
 ·rintro e T' ⟨tr,T1,rfl,rfl,f,k',rfl,m',c',h1,h2,h3⟩
  have old:∀ i,i<T.n→(T1.frz (newer T.n)).obj i=T1.obj i:=fun i hi=>frz_false (by simp[newer];omega)
  exact⟨_,rfl,f,k',rfl,m'.mv (Nat.le_refl _) fun i hi=>old i (by omega),⟨c'.1,fun i hi hb=>(old i hi).trans (c'.2 i hi hb)⟩,h1,h2,h3⟩
end
theorem make_of{b:Nat}{l:List Int}(hl:∀ x∈l,0≤x∧x<256):∀{d:Nat},d≤6→∀{k:Nat} {T:Store},Mg b l k T→k+mostP d≤1000→ACalls Pg 63 [aI d,.p (b+3) 0 0,.p (b+2) 0 0,.p b 0 0,.p (b+4) 0 0] T (fun e T'=>∃ tr,e = .ret tr∧MadeQ b l k d T tr T'):=by
 intro d
 induction d with
 |zero=>exact fun hd {k T} hm hk=>make_step hl (fun d' h=>by omega) hd hm hk
 |succ d ih =>
  intro hd k T hm hk
  refine make_step hl (fun d' h {k T} hm hk=>?_) hd hm hk
  obtain rfl:d=d':=by omega
  exact ih (by omega) hm hk
theorem made34{l:List Int}(hl:∀ x∈l,0≤x∧x<256){S:Store}:ACalls Pg 34 [aL aU8 l] S (fun e S'=>∃ tr,e = .ret tr∧S'=S∧∃ f:Fo,tr=f.av∧MadeF 6 f):=by
 refine ACalls.treeE (calls34 ?_)
 unfold m34
 refine box1_of rfl fun S1 k1 n1 o1=>?_
 refine boxA_of rfl fun S2 k2 n2 o2=>?_
 refine box1_of rfl fun S3 k3 n3 o3=>?_
 refine st_of o3 rfl rfl fun S4 n4 o4 f4=>?_
 refine box1_of rfl fun S5 k5 n5 o5=>?_
 refine st_of o5 rfl rfl fun S6 n6 o6 f6=>?_
 refine box1_of rfl fun S7 k7 n7 o7=>?_
 refine st_of o7 rfl rfl fun S8 n8 o8 f8=>?_
 rw[ld1_p o8 rfl rfl]
 have e2:S2.n=S.n+2:=by omega
 have e4:S4.n=S.n+3:=by omega
 have e6:S6.n=S.n+4:=by omega
 rw[e2]at o3 o4 f4
 rw[e4]at o5 o6 f6
 rw[e6]at o7 o8 f8
 have q8:∀ i,i<S.n+4→S8.obj i=S6.obj i:=fun i hi=>(f8 i (by omega)).trans (k7.2 i (by omega))
 have q6:∀ i,i<S.n+3→S8.obj i=S4.obj i:=fun i hi=>(q8 i (by omega)).trans ((f6 i (by omega)).trans (k5.2 i (by omega)))
 have q4:∀ i,i<S.n+2→S8.obj i=S2.obj i:=fun i hi=>(q6 i (by omega)).trans ((f4 i (by omega)).trans (k3.2 i (by omega)))
 have hm:Mg S.n l 0 S8:=⟨by omega,(q4 _ (by omega)).trans ((k2.2 _ (by omega)).trans o1),(q6 _ (by omega)).trans o4,(q8 _ (by omega)).trans (by rw[o6,e2];rfl),by rw[o8,e2,e4];rfl⟩
 refine .inl ?_
 rw[e2,e4,e6]
 refine(make_of (d:=6) hl (Nat.le_refl _) hm (by decide)).mono ?_
 rintro e S9 ⟨tr,rfl,f,k',rfl,m9,c9,_,_,hf⟩
 show stN 4 _ _ _ _
 have n9:=m9.n
 have c9n:=c9.1
 refine stA_of ((c9.2 S1.n (by omega) (by omega)).trans ((q4 _ (by omega)).trans o2)) (Fo.row_len f) rfl fun S10 n10 o10 f10=>?_
 rw[ldN_p (n:=4) o10 (Fo.row_len f)]
 refine⟨_,f.av,rfl,⟨by omega,fun i hi=>(f10 i (by omega)).trans ((c9.2 i (by omega) (by omega)).trans ((q4 i (by omega)).trans ((k2.2 i (by omega)).trans (k1.2 i hi))))⟩,Tree.a (fun u hu=>Fo.tree f u hu) _ _,f,rfl,hf⟩
def litV(m:Int)(n:ByteArray):Int:=((n.size:Int)*7+(n[0]!).toNat).tmod (if 1 > m then 1 else m)
mutual
def Fo.litsF(m:Int):Fo→Fo
 |.mk k n _ ks=>.mk k ⟨#[]⟩ (if k=3 then litV m n else 0) (Fo.litsFs m ks)
def Fo.litsFs(m:Int):List Fo→List Fo
 |[]=>[]
 |f :: fs=>Fo.litsF m f :: Fo.litsFs m fs
end
theorem Fo.litsFs_map(m:Int):∀ l:List Fo,Fo.litsFs m l=l.map (Fo.litsF m)
 |[]=>by rw[Fo.litsFs];rfl
 |f :: fs=>by rw[Fo.litsFs,Fo.litsFs_map m fs];rfl
theorem Fo.litsF_mk(m k:Int)(n:ByteArray)(l:Int)(ks:List Fo):Fo.litsF m (.mk k n l ks) = .mk k ⟨#[]⟩ (if k=3 then litV m n else 0) (ks.map (Fo.litsF m)):=by rw[Fo.litsF,Fo.litsFs_map]
theorem litV_rng{m:Int}(n:ByteArray):0≤litV m n∧litV m n<max m 1:=by
 unfold litV
 have h:(0:Int)<(if 1 > m then 1 else m):=by split<;>omega
 have h0:(0:Int)≤(n.size:Int)*7+(n[0]!).toNat:=by omega
 have h3:(if 1 > m then 1 else m)≤max m 1:=by split<;>omega
 generalize(if 1 > m then 1 else m)=q at *
 rw[Int.tmod_eq_emod_of_nonneg h0]
 have h1:=Int.emod_nonneg ((n.size:Int)*7+(n[0]!).toNat) (show q≠0 by omega)
 have h2:=Int.emod_lt_of_pos ((n.size:Int)*7+(n[0]!).toNat) h
 exact⟨h1,by omega⟩
theorem litsF_ok{m:Int}(hm:m≤9223372036854775807):∀(f:Fo) (d:Nat),MadeF d f→(f.litsF m).ok∧(f.litsF m).mayB (d+1)=true∧∀ g:Gr,(∀ l:Int,0≤l→l<max m 1→g.lit l=true)→(f.litsF m).litsB g=true:=by
 intro f
 induction f using Fo.ind with
 |h k n l ks ih =>
  intro d h
  cases h with
  |mk d _ _ _ h1 h2 h3 h4 h5 h6 h =>
   have hk:=kidsN_le k
   have hv:=litV_rng (m:=m) n
   rw[Fo.litsF_mk]
   refine⟨.mk _ _ _ _ ⟨by omega,by omega⟩ (by unfold i64R;split<;>omega) (by decide) (by rw[List.length_map];omega) fun g hg=>?_,?_,fun g hg=>?_⟩
   ·obtain⟨f,hf,rfl⟩:=List.mem_map.1 hg
    exact(ih f hf _ (h f hf)).1
   ·rw[Fo.mayB_mk]
    simp only[Bool.and_eq_true,decide_eq_true_eq,List.all_eq_true,List.length_map]
    refine⟨by omega,?_,trivial,h3,fun g hg=>?_⟩
    ·split
     ·rename_i hk3
      rcases Int.lt_or_eq_of_le hv.1 with h|h
      ·exact .inr ⟨h,hk3⟩
      ·exact .inl h.symm
     ·exact .inl rfl
    ·obtain⟨f,hf,rfl⟩:=List.mem_map.1 hg
     have:=(ih f hf _ (h f hf)).2.1
     have hd:=h6 (fun e=>by subst e;cases hf)
     rwa [show((d - 1:Nat):Int)+1=(d:Int)+1 - 1 by omega]at this
   ·rw[Fo.litsB_mk]
    simp only[Bool.and_eq_true,Bool.or_eq_true,decide_eq_true_eq,List.all_eq_true]
    refine⟨?_,fun g' hg'=>?_⟩
    ·by_cases hk3:k=3
     ·rw[if_pos hk3];exact .inr (hg _ hv.1 hv.2)
     ·exact .inl hk3
    ·obtain⟨f,hf,rfl⟩:=List.mem_map.1 hg'
     exact(ih f hf _ (h f hf)).2.2 g hg
theorem word0{n:ByteArray}(h:n∈wordsL):0<n.size∧n.size≤3:=by
 simp only[wordsL,List.mem_cons,List.not_mem_nil,or_false]at h
 rcases h with rfl|rfl|rfl|rfl|rfl|rfl|rfl<;>decide
theorem ans42{m:Int}(hm:i64R m):∀(f:Fo) (d:Nat),MadeF d f→Ans Pg 42 [f.av,aI m] (f.litsF m).av:=by
 intro f
 induction f using Fo.ind with
 |h k n l ks ih =>
  intro d h S
  have hok:=h.ok
  cases h with
  |mk d _ _ _ h1 h2 h3 h4 h5 h6 hks =>
  have hkl:=kidsN_le k
  refine ACalls.tree (calls42 ?_)
  unfold m42
  rw[Fo.av,Fo.row_mk]
  refine boxA_of rfl fun S1 k1 n1 o1=>?_
  refine boxA_of rfl fun S2 k2 n2 o2=>?_
  have p2:=(k2.2 _ (by omega)).trans o1
  rw[shift_p,ld1_p p2 rfl rfl,bld_of (cs:=[aI k,.v (.string ⟨#[]⟩),aI 0,.nl]) rfl]
  refine boxA_of rfl fun S3 k3 n3 o3=>?_
  refine stA_of (cs':=[aI k,.v (.string ⟨#[]⟩),aI 0,.nl]) o3 rfl rfl fun S4 n4 o4 f4=>?_
  have k4:=k3.st (Nat.le_refl _) n4 f4
  have p4:=(k4.2 _ (by omega)).trans p2
  have r4:=(k4.2 _ (by omega)).trans o2
  have kk:=(k1.trans k2).trans k4
  have tail:∀(T:Store) (v:Int),v=(if k=3 then litV m n else 0)→Keep S T→S4.n≤T.n→T.obj S.n=some (.cells 24 [[aI k,.v (.string n),aI 0,foL ks]] true)→T.obj S1.n=some (.cells 24 [[.v (.int .i64 0),.v (.string ByteArray.empty),.v (.int .i64 0),.nl]] true)→
      T.obj S2.n=some (.cells 24 [[aI k,.v (.string ⟨#[]⟩),aI v,.nl]] true)→
      loopV lv42_0 (vc Pg (c42.at_ [1,1,1,0,1,0,0]) (ms42.drop 1)) 46 (env42_0 (aI m) (.p S.n 0 0) (.p S1.n 0 0) (.p S2.n 0 0) (.v (.int .i64 0))) T (blockK 0 (seqK (vc Pg (c42.at_ [1,1,1,1]) (ms42.drop 1)) (bodyK Pg r42 fun e S'=>∃ r,e = .ret r∧Keep S S'∧Cv (S'.frz (newer S.n)) S.n r (Fo.litsF m (.mk k n 0 ks)).av))):=by
   intro T v hv kT nT oa ob oc
   refine loop42_0 (fun y S'=>∃(i:Nat) (z:AV),y=aI i∧i≤ks.length∧Keep S S'∧S4.n≤S'.n∧S'.obj S.n=some (.cells 24 [[aI k,.v (.string n),aI 0,foL ks]] true)∧S'.obj S1.n=some (.cells 24 [[.v (.int .i64 0),.v (.string ByteArray.empty),.v (.int .i64 0),.nl]] true)∧
       S'.obj S2.n=some (.cells 24 [[aI k,.v (.string ⟨#[]⟩),aI v,z]] true)∧Own S4.n S' z 24 (((ks.take i).map (Fo.litsF m)).map Fo.row))
    (fun y _=>ks.length - ((intA y).getD 0).toNat) ⟨0,.nl,rfl,Nat.zero_le _,kT,nT,oa,ob,oc,.nl _ _ _⟩ ?_
   rintro _ S5 ⟨i,z,rfl,hi,k5,n5,oa,ob,oc,w5⟩ KE hKE
   unfold b42_0
   rw[shift_p,ld1_p oa rfl rfl,lenS_foL,bin_lss,onB_v]
   refine gd_of (fun hlt=>?_) (fun hge=>?_)
   ·have hlt:i<ks.length:=by have:=of_decide_eq_true hlt;omega
    have hmem:=List.getElem_mem hlt
    refine L_shift ?_
    refine L_ldp oc (by omega) rfl rfl ?_
    refine L_shift ?_
    refine L_ldp oa (by omega) rfl rfl ?_
    refine⟨_,fun T hT=>by rw[ixS_foL hlt];exact⟨rfl,rfl⟩,?_⟩
    refine L_ldNq (Fo.row_len _) ?_
    refine L_callA (ih _ hmem _ (hks _ hmem)) ?_
    refine⟨.l [(Fo.litsF m ks[i]).row],fun T hT=>bslA4 (Fo.row_len _) ⟨rfl,rfl⟩,?_⟩
    refine w5.app (c:=(Fo.litsF m ks[i]).row) (by omega) (Fo.row_len _) (by simp;omega) (fun z' S6 w6 b6 hz=>?_) rfl
    obtain⟨m6,hm6⟩:=hz
    have n6:=b6.1
    have old6:∀ x,x<S4.n→S6.obj x=S5.obj x:=fun x hx=>b6.2 x (by omega) (fun b m e=>by have:=w5.lt e;omega)
    refine L_shift ?_
    refine stF_of ((old6 _ (by omega)).trans oc) (by simp) (by rw[hm6];rfl) fun S7 n7 o7 f7=>?_
    rw[bin_add (by omega) (by omega)]
    have old7:∀ x,x<S2.n→S7.obj x=S5.obj x:=fun x hx=>(f7 x (by omega)).trans (old6 x (by omega))
    refine hKE _ _ ⟨i+1,z',rfl,hlt,⟨by have:=k5.1;omega,fun x hx=>(old7 x (by omega)).trans (k5.2 x hx)⟩,by omega,(old7 _ (by omega)).trans oa,(old7 _ (by omega)).trans ob,o7,?_⟩ (by simp[intA];omega)
    rw[List.take_add_one,List.getElem?_eq_getElem hlt,List.map_append,List.map_append]
    exact w6.st (id:=S2.n) (fun b m e=>by rw[hm6]at e;injection e;omega) n7 f7
   ·have hge:i=ks.length:=by have:=of_decide_eq_false hge;omega
    subst hge
    rw[ldN_p (n:=4) oc rfl]
    refine stA_of ob rfl rfl fun S6 n6 o6 f6=>?_
    rw[ldN_p (n:=4) o6 rfl]
    have w6:Own S4.n S6 z 24 _:=w5.st (id:=S1.n) (fun b m e=>by have:=w5.lt e;omega) n6 f6
    rw[List.take_length]at w6
    refine⟨_,rfl,k5.st (by omega) n6 f6,?_⟩
    rw[Fo.litsF_mk,Fo.av,Fo.row_mk,←hv]
    refine .a _ _ rfl fun k u u2 e1 e2=>?_
    match k with
    |0=>cases e1;cases e2;exact .v _
    |1=>cases e1;cases e2;exact .v _
    |2=>cases e1;cases e2;exact .v _
    |3=>cases e1;cases e2;exact own_rows (fun r hr u hu=>by obtain⟨f,_,rfl⟩:=List.mem_map.1 hr;exact Fo.tree f u hu) w6 (by omega)
    |k+4=>simp at e1
  rw[shift_p,ld1_p p4 rfl rfl,bin_eql,onB_v]
  refine gd_of (fun hk3=>?_) (fun hk3=>?_)
  ·have hk3:k=3:=of_decide_eq_true hk3
   obtain⟨hn0,hn3⟩:=word0 (h4 hk3)
   have hb:((n[0]!).toNat)≤255:=by have:=(n[0]!).toNat_lt;omega
   have hne:(if 1 > m then 1 else m)≠0:=by split<;>omega
   refine L_shift ?_
   refine L_ldp p4 (by omega) rfl rfl ?_
   refine⟨_,fun T hT=>by rw[lenStr_b];exact⟨rfl,rfl⟩,?_⟩
   refine⟨_,fun T hT=>by rw[bin_mul (by omega) (by omega)];exact⟨rfl,rfl⟩,?_⟩
   refine L_shift ?_
   refine L_ldp p4 (by omega) rfl rfl ?_
   refine⟨_,fun T hT=>by rw[show ∀ K:AV→Store→Prop,ixStr (.v (.string n)) (.v (.int .i64 0)) T K=K (.v (.int .u8 (n[0]!).toNat)) T from fun K=>(ixStr_b (i:=0) hn0).trans (by rw[getElem!_pos n 0 hn0])];exact⟨rfl,rfl⟩,?_⟩
   refine⟨_,fun T hT=>by rw[convI_64 _ (by omega) (by omega)];exact⟨rfl,rfl⟩,?_⟩
   refine⟨_,fun T hT=>by rw[bin_add (by omega) (by omega)];exact⟨rfl,rfl⟩,?_⟩
   refine⟨_,fun T hT=>by rw[mx_true];exact⟨rfl,rfl⟩,?_⟩
   refine⟨_,fun T hT=>by rw[bin_rem hne];exact⟨rfl,rfl⟩,?_⟩
   refine L_shift ?_
   refine stF_of o4 (by simp) rfl fun S5 n5 o5 f5=>?_
   exact tail S5 _ (by rw[if_pos hk3];rfl) (kk.st (by omega) n5 f5) (by omega) ((f5 _ (by omega)).trans p4) ((f5 _ (by omega)).trans r4) o5
  ·have hk3:¬ k=3:=of_decide_eq_false hk3
   exact tail S4 0 (by rw[if_neg hk3]) kk (Nat.le_refl _) p4 r4 o4
def s00:Sp:=⟨1,[true,true],[true,false],[[1],[0]],[]⟩
theorem s00_of:spOf ca0=s00:=by
 have h:=(spaceB_ok (c:=ca0) (by rw[ca0_sp])).1
 rw[ca0_sp]at h
 exact(congrArg Prod.fst h).symm
theorem bit2{P:Nat→Prop}(h0:P 0)(h1:P 1)(h2:∀ i,2≤i→P i):∀ i,P i
 |0=>h0
 |1=>h1
 |i+2=>h2 _ (by omega)
theorem ext2{a b:List Bool}(ha:a.length=2)(hb:b.length=2)(h0:bit a 0=bit b 0)(h1:bit a 1=bit b 1):a=b:=
 ext_bit (by omega) (bit2 h0 h1 fun i hi=>by rw[bit_ge (by omega),bit_ge (by omega)])
theorem eu_tt:euP s00 [true,true] [true,true] = [true,true]:=
 ext2 (by simp) rfl (bit_eu.2 ⟨by decide,.base 0 rfl rfl⟩) (bit_eu.2 ⟨by decide,.base 1 rfl rfl⟩)
theorem eu_no{s:Sp}{p q:List Bool}(hq:∀ i,bit q i=false):∀ i,¬ Reach s p q i:=fun i h=>by
 induction h with
 |base i h1 _=>rw[hq]at h1;cases h1
 |step _ _ _ _ _ _ ih=>exact ih
theorem bit_ff:∀ i,bit [false,false] i=false:=bit2 rfl rfl fun i hi=>bit_ge (by simpa using hi)
theorem eu_ff:euP s00 [true,true] [false,false] = [false,false]:=by
 have h:∀ i,bit (euP s00 [true,true] [false,false]) i=false:=fun i=>by
  cases hb:bit (euP s00 [true,true] [false,false]) i with
  |false=>rfl
  |true=>exact absurd (bit_eu.1 hb).2 (eu_no bit_ff i)
 exact ext2 (by simp) rfl (h 0) (h 1)
theorem eg_tt:egP s00 [true,true] = [true,true]:=by
 refine(eg_of rfl (fun i h=>by exact h) (fun y hl h _ i hi=>by have:=h i hi;exact this) fun f hf i hi=>?_).symm
 have:f = [true,true]:=by simpa[fairL,s00]using hf
 subst this
 have:stepP s00 [true,true] [true,true] = [true,true]:=by
  show andP [true,true] (exP s00 (euP s00 [true,true] [true,true]))=_
  rw[eu_tt];rfl
 rw[this];exact hi
theorem eg_tf:egP s00 [true,false] = [false,false]:=by
 refine(eg_none (p:=[true,false]) (z:=[false,false]) rfl (fun y hl h hst i hi=>?_) bit_ff).symm
 have hy1:bit y 1=false:=by
  cases hb:bit y 1 with
  |false=>rfl
  |true=>have:=h 1 hb;cases this
 have hy0:¬ bit y 0=true:=fun h0=>by
  have h1:=hst [true,true] (by simp[fairL,s00]) 0 h0
  rw[stepP,bit_and,Bool.and_eq_true,bit_ex]at h1
  obtain⟨_,_,_,k,hk,hb⟩:=h1
  have:k=1:=by simpa[nx,s00]using hk
  subst this
  have h2:=(bit_eu.1 hb).2
  cases h2 with
  |base _ h1 _=>rw[show((1:Int).toNat)=1 from rfl,bit_and,hy1]at h1;cases h1
  |step _ _ h1 _ _ _=>rw[show((1:Int).toNat)=1 from rfl,hy1]at h1;cases h1
 have hn:∀ i,¬ bit y i=true:=bit2 hy0 (by rw[hy1];decide) fun i hi=>by
  rw[bit_ge (by rw[hl];exact hi)]
  decide
 exact absurd hi (hn i)
theorem atom_0:atomP ca0 s00 2 = [false,true]:=by
 have e0:isB ca0 ((0:Nat):Int) 2=false:=by rw[isB,ca0_right,Bool.true_and];decide
 have e1:isB ca0 ((1:Nat):Int) 2=true:=by rw[isB,ca0_right,Bool.true_and];decide
 show[true && isB ca0 ((0:Nat):Int) 2,true && isB ca0 ((1:Nat):Int) 2]=_
 rw[e0,e1];rfl
abbrev foQ(l:Int):Fo:=.mk 3 ⟨#[]⟩ l []
abbrev foOne(k:Int)(f:Fo):Fo:=.mk k ⟨#[]⟩ 0 [f]
theorem semC_0(f:Fo):semC ca0 f=f.sem s00 [true,true] (atomP ca0 s00):=by
 rw[semC,s00_of]
 show f.sem s00 (egP s00 [true,true]) _=_
 rw[eg_tt]
theorem sem_q:semC ca0 (foQ 2) = [false,true]:=by rw[semC_0,sem_atom,atom_0]
theorem sem_exq:semC ca0 (foOne 9 (foQ 2)) = [true,false]:=by
 rw[semC_0,sem_one (by decide),sem_atom,atom_0]
 show exP s00 (andP [false,true] [true,true])=_
 decide
theorem sem_agaf:semC ca0 (foOne 14 (foOne 12 (foQ 2))) = [true,true]:=by
 rw[semC_0,sem_one (by decide),sem_one (by decide),sem_atom,atom_0]
 show notP s00 (untilP s00 [true,true] [true,true] (notP s00 (notP s00 (egP s00 (notP s00 [false,true])))))=_
 rw[show notP s00 [false,true] = [true,false]from by decide,eg_tf,show notP s00 [false,false] = [true,true]from by decide,show notP s00 [true,true] = [false,false]from by decide,untilP]
 rw[show andP [false,false] [true,true] = [false,false]from by decide,eu_ff]
 decide
theorem told_0{f:Fo}(h:f.mayB 60=true)(hl:f.litsB ca0.gr=true):toldB ca0 f=(semC ca0 f,s00,0):=by
 have hm:mayC ca0 f=true:=by rw[mayC,ca0_right,h,hl];rfl
 rw[toldB,if_neg (by rw[hm];decide),if_pos (by rw[ca0_sp]),s00_of]
theorem may_q:(foQ 2).mayB 60=true∧(foQ 2).litsB ca0.gr=true:=by decide
theorem may_exq:(foOne 9 (foQ 2)).mayB 60=true∧(foOne 9 (foQ 2)).litsB ca0.gr=true:=by decide
theorem may_agaf:(foOne 14 (foOne 12 (foQ 2))).mayB 60=true∧(foOne 14 (foOne 12 (foQ 2))).litsB ca0.gr=true:=by decide
theorem ver_agaf:verdictB ca0 (foOne 14 (foOne 12 (foQ 2)))=(⟨true,1,-1⟩,0):=by
 rw[verdictB,told_0 may_agaf.1 may_agaf.2,sem_agaf];rfl
theorem ver_q:verdictB ca0 (foQ 2)=(⟨false,1,0⟩,0):=by
 rw[verdictB,told_0 may_q.1 may_q.2,sem_q];rfl
theorem tru_exq:truthB ca0 (foOne 9 (foQ 2))=([true,false],0):=by
 rw[told_truth,told_0 may_exq.1 may_exq.2,sem_exq]
theorem tru_4:truthB ca0 (foQ 4)=([],1):=by
 have hm:mayC ca0 (foQ 4)=false:=by
  rw[mayC,show(foQ 4).litsB ca0.gr=false from by decide,Bool.and_false,Bool.and_false]
 rw[truthB,if_pos hm]
theorem Fo.tr(f:Fo):Tree f.av:=Tree.a fun u hu=>Fo.tree f u hu
theorem ans33(k:Int)(f:Fo):Ans Pg 33 [aI k,f.av] (foOne k f).av:=by
 intro S
 refine ACalls.tree (calls33 ?_)
 unfold m33
 refine boxA_of (Fo.row_len f) fun S1 k1 n1 o1=>?_
 refine boxA_of rfl fun S2 k2 n2 o2=>?_
 rw[ldN_p (n:=4) ((k2.2 _ (by omega)).trans o1) (Fo.row_len f)]
 refine bslA4 (Fo.row_len f) ?_
 rw[bld_of (cs:=(foOne k f).row) (by rw[Fo.row_mk];rfl)]
 refine stA_of o2 (Fo.row_len _) rfl fun S3 n3 o3 f3=>?_
 rw[ldN_p (n:=4) o3 (Fo.row_len _)]
 exact⟨_,rfl,(k1.trans k2).st (by omega) n3 f3,Fo.tr _ _ _⟩
structure ResV (v:Int) (f:Fo):Prop where
 ok:f.ok
 may:f.mayB 7=true
 lits:∀ g:Gr,(∀ l:Int,0≤l→l<2*v→g.lit l=true)→f.litsB g=true
theorem res16{l:List Int}(hl:∀ x∈l,0≤x∧x<256){v:Int}(hv:1≤v)(hv2:v≤1000000){S:Store}:ACalls Pg 16 [aL aU8 l,aI (2*v)] S (fun e S'=>∃ tr,e = .ret tr∧S'=S∧∃ f:Fo,tr=f.av∧ResV v f):=by
 refine ACalls.treeE (calls16 ?_)
 unfold m16
 refine boxA_of rfl fun S1 k1 n1 o1=>?_
 refine .inl ((made34 hl).mono ?_)
 rintro e S' ⟨tr,rfl,rfl,f,rfl,hf⟩
 show callF _ _ _ _ _ _
 refine callF_ans (ans42 (m:=2*v) ⟨by omega,by omega⟩ f 6 hf) ?_
 refine stA_of o1 (Fo.row_len _) rfl fun S3 n3 o3 f3=>?_
 rw[ldN_p (n:=4) o3 (Fo.row_len _)]
 obtain⟨h1,h2,h3⟩:=litsF_ok (m:=2*v) (by omega) f 6 hf
 exact⟨_,_,rfl,k1.st (Nat.le_refl _) n3 f3,Fo.tr _ _ _,_,rfl,h1,h2,fun g hg=>h3 g fun l h0 hlt=>hg l h0 (by omega)⟩
theorem made_lit{c:Ci}(h:MadeC c):1≤c.gr.vars∧c.gr.vars≤100∧∀ l:Int,0≤l→l<2*c.gr.vars→c.gr.lit l=true:=by
 obtain⟨g1,g2,g3⟩:=gr_inp h.right
 have h1:=h.inp
 have h2:=h.lats
 have h3:=h.ands
 have hv:c.gr.vars=c.inputs+c.latches.length+1+c.ands.length:=by
  unfold Gr.vars
  rw[g1]
  show _+1+(c.ands.length:Int)=_
  rfl
 refine⟨by omega,by omega,fun l h0 hl=>lit_iff.2 ⟨g2,by omega,h0,by omega⟩⟩
theorem eqS_ve(v w:Ve){S:Store}{K:AV→Store→Prop}:eqS [2,1,1] .eql v.av w.av S K=K (aB ((v.holds == w.holds) && ((v.initial == w.initial) && ((v.broken == w.broken) && true)))) S:=by simp[eqS,eqA,eqV,Ve.av,Ve.cells]
theorem eqS_vv(v:Ve){S:Store}{K:AV→Store→Prop}:eqS [2,1,1] .eql v.av v.av S K=K (aB true) S:=by rw[eqS_ve];simp
theorem truthB_len(c:Ci)(f:Fo):(truthB c f).1.length≤1024:=by
 rw[told_truth]
 by_cases h:(toldB c f).2.2=0
 ·obtain⟨_,h1,h2,h3⟩:=told_fit h
  rw[h1]
  have:=h2.small.h1
  have:=h3.len
  simp only;omega
 ·unfold toldB at h ⊢
  split
  ·simp
  ·rename_i h1
   rw[if_neg h1]at h
   split
   ·rename_i h2;rw[if_pos h2]at h;exact absurd rfl h
   ·simp
theorem ans32{c:Ci}(hc:c.ok){f:Fo}(hf:f.ok):Ans Pg 32 [c.av,f.av] (aB true):=by
 intro S
 refine ACalls.ans_v (calls32 ?_)
 unfold m32
 refine boxA_of rfl fun S1 k1 n1 o1=>?_
 refine boxA_of (Fo.row_len f) fun S2 k2 n2 o2=>?_
 have p2:=(k2.2 _ (by omega)).trans o1
 have kk:=k1.trans k2
 rw[ldN_p (n:=8) p2 rfl,ldN_p (n:=4) o2 (Fo.row_len f)]
 refine callF_ans (ans36 hc hf) ?_
 rw[extr0,extr1]
 rw[ldN_p (n:=8) p2 rfl,ldN_p (n:=4) o2 (Fo.row_len f)]
 refine callF_ans (ans28 hc hf) ?_
 rw[extr0,extr1]
 rw[ldN_p (n:=8) p2 rfl,ldN_p (n:=4) o2 (Fo.row_len f)]
 refine callF_ans (ans60 hc hf) ?_
 rw[extr0,extr1]
 refine boxA_of rfl fun S3 k3 n3 o3=>?_
 refine stA_of (cs':=(verdictB c f).1.cells) o3 rfl rfl fun S4 n4 o4 f4=>?_
 have k4:=k3.st (Nat.le_refl _) n4 f4
 rw[ldN_p (n:=8) ((k4.2 _ (by omega)).trans p2) rfl,ldN_p (n:=4) ((k4.2 _ (by omega)).trans o2) (Fo.row_len f)]
 refine callF_ans (ans61 hc hf) ?_
 rw[extr0,extr1]
 refine boxA_of rfl fun S5 k5 n5 o5=>?_
 refine stA_of (cs':=(verdictB c f).1.cells) o5 rfl rfl fun S6 n6 o6 f6=>?_
 have k6:=k5.st (Nat.le_refl _) n6 f6
 have ka:=(kk.trans k4).trans k6
 have hlen:=truthB_len c f
 refine callF_ans (ans29 (a:=(truthB c f).1) (b:=(truthB c f).1) (by omega)) ?_
 rw[onB_v,decide_eq_true rfl,gd_T rfl,bin_eql,onB_v,gd_T (decide_eq_true rfl)]
 rw[ldN_p (n:=3) ((k6.2 _ (by omega)).trans o4) rfl,ldN_p (n:=3) o6 rfl]
 show eqS _ _ (verdictB c f).1.av (verdictB c f).1.av _ _
 rw[eqS_vv,onB_v,gd_T rfl,bin_eql,decide_eq_true rfl]
 exact⟨rfl,ka⟩
theorem cv_foq{S:Store}{n:Nat}(k l:Int):Cv S n (.a [aI k,.v (.string ⟨#[]⟩),aI l,.nl]) (Fo.mk k ⟨#[]⟩ l []).av:=by
 rw[Fo.av,Fo.row_mk]
 refine .a _ _ rfl fun k u u2 e1 e2=>?_
 match k with
 |0=>cases e1;cases e2;exact .v _
 |1=>cases e1;cases e2;exact .v _
 |2=>cases e1;cases e2;exact .v _
 |3=>cases e1;cases e2;exact .nl
 |k+4=>simp at e1
theorem cv_2{S:Store}{n:Nat}{x x' y y':AV}(h:Cv S n x x')(k:Cv S n y y'):∀(i:Nat) (u u2:AV),[x,y][i]? = some u→[x',y'][i]? = some u2→Cv S n u u2
 |0,_,_,h1,h2=>by cases h1;cases h2;exact h
 |1,_,_,h1,h2=>by cases h1;cases h2;exact k
 |i+2,_,_,h1,_=>by simp at h1
theorem ans31:Ans Pg 31 [] (aB true):=by
 intro S
 refine ACalls.ans_v (calls31 ?_)
 unfold m31
 have okq:∀ l:Int,i64R l→(foQ l).ok:=fun l hl=>.mk _ _ _ _ ⟨by decide,by decide⟩ hl (by decide) (by decide) fun f hf=>by cases hf
 have ok1:∀(k:Int) (f:Fo),i64R k→f.ok→(foOne k f).ok:=fun k f hk hf=>.mk _ _ _ _ hk ⟨by decide,by decide⟩ (by decide) (by simp) fun g hg=>by
  have:g=f:=by simpa using hg
  subst this;exact hf
 have h1:=ans60 ca0_ok (ok1 14 _ ⟨by decide,by decide⟩ (ok1 12 _ ⟨by decide,by decide⟩ (okq 2 ⟨by decide,by decide⟩)))
 have h2:=ans60 ca0_ok (okq 2 ⟨by decide,by decide⟩)
 have h3:=ans36 ca0_ok (ok1 9 _ ⟨by decide,by decide⟩ (okq 2 ⟨by decide,by decide⟩))
 have h4:=ans36 ca0_ok (okq 4 ⟨by decide,by decide⟩)
 rw[ver_agaf]at h1
 rw[ver_q]at h2
 rw[tru_exq]at h3
 rw[tru_4]at h4
 have hci:∀(T:Store) (n:Nat),Cv T n (.a [aI 0,.l [[aI 3,aI 0]],.nl,.nl,.nl,.nl,.nl,.nl]) ca0.av:=fun T n=>cv_ci (.v _) (treeP [(3,0)] _ _)
 rw[bld_of (cs:=[aI 3,aI 0]) rfl]
 refine bslP ?_
 rw[bld_of (cs:=[aI 0,.l [[aI 3,aI 0]],.nl,.nl,.nl,.nl,.nl,.nl]) rfl]
 refine boxA_of rfl fun S1 k1 n1 o1=>?_
 refine stA_of (cs':=[aI 0,.l [[aI 3,aI 0]],.nl,.nl,.nl,.nl,.nl,.nl]) o1 rfl rfl fun S2 n2 o2 f2=>?_
 have k2:=k1.st (Nat.le_refl _) n2 f2
 rw[bld_of (cs:=[aI 3,.v (.string ⟨#[]⟩),aI 2,.nl]) rfl]
 refine boxA_of rfl fun S3 k3 n3 o3=>?_
 refine stA_of (cs':=[aI 3,.v (.string ⟨#[]⟩),aI 2,.nl]) o3 rfl rfl fun S4 n4 o4 f4=>?_
 have k4:=k3.st (Nat.le_refl _) n4 f4
 have p4:=(k4.2 _ (by omega)).trans o2
 refine L_ldN (n:=8) p4 (by omega) rfl ?_
 refine L_ldN (n:=4) o4 (by omega) rfl ?_
 refine⟨_,fun T hT=>callF_cv' (args:=[aI 12,.a [aI 3,.v (.string ⟨#[]⟩),aI 2,.nl]]) (ans33 12 (foQ 2)) rfl (cv_2 (.v _) (cv_foq 3 2)) ⟨rfl,rfl⟩,?_⟩
 refine L_callA (ans33 14 (foOne 12 (foQ 2))) ?_
 refine⟨_,fun T hT=>callF_cv' (args:=[.a [aI 0,.l [[aI 3,aI 0]],.nl,.nl,.nl,.nl,.nl,.nl],(foOne 14 (foOne 12 (foQ 2))).av]) h1 rfl (cv_2 (hci _ _) (Fo.tr _ _ _)) ⟨rfl,rfl⟩,?_⟩
 refine⟨_,fun T hT=>by rw[extr0];exact⟨rfl,rfl⟩,?_⟩
 refine⟨_,fun T hT=>by rw[extr1];exact⟨rfl,rfl⟩,?_⟩
 refine boxA_of rfl fun S5 k5 n5 o5=>?_
 refine⟨fun T hT=>by rw[extr1];exact⟨rfl,rfl⟩,?_⟩
 refine stA_of (cs':=(⟨true,1,-1⟩:Ve).cells) o5 rfl rfl fun S6 n6 o6 f6=>?_
 have k6:=k5.st (Nat.le_refl _) n6 f6
 refine⟨fun T hT=>by rw[extr1];exact⟨rfl,rfl⟩,?_⟩
 have p6:=(k6.2 _ (by omega)).trans p4
 have q6:=(k6.2 _ (by omega)).trans o4
 rw[ldN_p (n:=8) p6 rfl,ldN_p (n:=4) q6 rfl]
 refine callF_cv' (args:=[.a [aI 0,.l [[aI 3,aI 0]],.nl,.nl,.nl,.nl,.nl,.nl],.a [aI 3,.v (.string ⟨#[]⟩),aI 2,.nl]]) h2 rfl (cv_2 (hci _ _) (cv_foq 3 2)) ?_
 rw[extr0,extr1]
 refine boxA_of rfl fun S7 k7 n7 o7=>?_
 refine stA_of (cs':=(⟨false,1,0⟩:Ve).cells) o7 rfl rfl fun S8 n8 o8 f8=>?_
 have k8:=k7.st (Nat.le_refl _) n8 f8
 have p8:=(k8.2 _ (by omega)).trans p6
 have q8:=(k8.2 _ (by omega)).trans q6
 have v8:=(k8.2 _ (by omega)).trans o6
 have kk:=((k2.trans k4).trans k6).trans k8
 refine⟨_,by rw[ldN_p (n:=8) p8 rfl];exact⟨rfl,rfl⟩,?_⟩
 refine⟨_,by rw[ldN_p (n:=4) q8 rfl];exact⟨rfl,rfl⟩,?_⟩
 refine⟨_,callF_cv' (args:=[aI 9,.a [aI 3,.v (.string ⟨#[]⟩),aI 2,.nl]]) (ans33 9 (foQ 2)) rfl (cv_2 (.v _) (cv_foq 3 2)) ⟨rfl,rfl⟩,?_⟩
 refine⟨_,callF_cv' (args:=[.a [aI 0,.l [[aI 3,aI 0]],.nl,.nl,.nl,.nl,.nl,.nl],(foOne 9 (foQ 2)).av]) h3 rfl (cv_2 (hci _ _) (Fo.tr _ _ _)) ⟨rfl,rfl⟩,?_⟩
 refine⟨_,by rw[extr0];exact⟨rfl,rfl⟩,?_⟩
 refine⟨_,by rw[extr1];exact⟨rfl,rfl⟩,?_⟩
 show ldN _ _ _ _
 rw[ldN_p (n:=8) p8 rfl,bld_of (cs:=[aI 3,.v (.string ⟨#[]⟩),aI 4,.nl]) rfl]
 refine callF_cv' (args:=[.a [aI 0,.l [[aI 3,aI 0]],.nl,.nl,.nl,.nl,.nl,.nl],.a [aI 3,.v (.string ⟨#[]⟩),aI 4,.nl]]) h4 rfl (cv_2 (hci _ _) (cv_foq 3 4)) ?_
 rw[extr0,extr1,bin_eql,onB_v,gd_T (decide_eq_true rfl),ldN_p (n:=3) v8 rfl,bld_of (cs:=(⟨true,1,-1⟩:Ve).cells) rfl]
 show eqS _ _ (⟨true,1,-1⟩:Ve).av (⟨true,1,-1⟩:Ve).av _ _
 rw[eqS_vv,onB_v,gd_T rfl,bin_eql,onB_v,gd_T (decide_eq_true rfl),ldN_p (n:=3) o8 rfl,bld_of (cs:=(⟨false,1,0⟩:Ve).cells) rfl]
 show eqS _ _ (⟨false,1,0⟩:Ve).av (⟨false,1,0⟩:Ve).av _ _
 rw[eqS_vv,onB_v,gd_T rfl,bin_eql,onB_v,gd_T (decide_eq_true rfl)]
 refine bsl2 rfl rfl ?_
 refine callF_ans (ans29 (a:=[true,false]) (b:=[true,false]) (by decide)) ?_
 rw[onB_v,gd_T (decide_eq_true rfl),bin_eql,decide_eq_true rfl]
 exact⟨rfl,kk⟩
abbrev latR(l:List (Int × Int)):List (List AV):=l.map fun p=>[aI p.1,aI p.2]
theorem Own.kp{n:Nat}{S S':Store}{x:AV}{e:Nat}{es:List (List AV)}(h:Own n S x e es)(k:Keep S S'):Own n S' x e es:=h.same k.1 fun i _ hi=>k.2 i hi
theorem atZ41{c:Ci}{zl:AV}{n:Nat}{T:Store}(w:Own n T zl 66 (latR c.latches)):AnsAt Pg 41 [c.avZ zl] T c.gr.av:=by
 refine ACalls.tree (calls41 ?_)
 unfold m41
 refine boxA_of rfl fun S1 k1 n1 o1=>?_
 refine boxA_of rfl fun S2 k2 n2 o2=>?_
 have p1:S2.obj T.n=_:=(k2.2 T.n (by omega)).trans o1
 have w2:=Own.kp w (k1.trans k2)
 rw[shift_p,ld1_p (u:=aI c.inputs) p1 rfl rfl,shift_p,ld1_p (u:=zl) p1 rfl rfl,w2.len,List.length_map,bin_addW,shift_p,ld1_p (u:=pL c.ands) p1 rfl rfl,bld_of (cs:=c.gr.cells) rfl]
 refine stA_of o2 rfl rfl fun S3 n3 o3 f3=>?_
 rw[ldN_p (n:=2) o3 rfl]
 exact⟨_,rfl,(k1.trans k2).st (by omega) n3 f3,c.gr.tree _ _⟩
theorem ofL23{l m:List Int}(hl:∀ x∈l,0≤x∧x<65536)(hm:∀ x∈m,0≤x∧x<256){S:Store}:ACalls Pg 23 [aL aW16 l,aL aU8 m] S (fun e S'=>∃ tr,e = .ret tr∧Keep S S'∧∃(c:Ci) (f:Fo) (zl:AV),tr = .t [c.avZ zl,f.av]∧Own S.n S' zl 66 (latR c.latches)∧MadeC c∧ResV c.gr.vars f):=by
 refine calls23 ?_
 unfold m23
 refine boxA_of rfl fun S1 k1 n1 o1=>?_
 refine boxA_of rfl fun S2 k2 n2 o2=>?_
 have p2:=(k2.2 _ (by omega)).trans o1
 refine .inl ((madeL48 hl).mono ?_)
 rintro e S' ⟨tr,rfl,k',c,zl,rfl,wz,hc,hcv⟩
 show boxN _ _ _ _ _
 refine boxA_of rfl fun S3 k3 n3 o3=>?_
 refine stA_of (cs':=c.cells.set 1 zl) o3 rfl rfl fun S4 n4 o4 f4=>?_
 have h1:=k'.1
 have k4:=k3.st (Nat.le_refl _) n4 f4
 have w4:=(Own.kp wz k3).st (id:=S'.n) (fun b m e=>by have:=wz.lt e;omega) n4 f4
 obtain⟨v1,v2,v3⟩:=made_lit hc
 obtain⟨g1,g2,g3⟩:=gr_inp hc.right
 have hi:=hc.inp
 have hla:=hc.lats
 refine L_ldN (n:=8) o4 (by omega) rfl ?_
 refine L_ldN (n:=8) o4 (by omega) rfl ?_
 refine⟨c.gr.av,fun T hT=>callF_at (atZ41 (Own.kp w4 hT)) ⟨rfl,rfl⟩,?_⟩
 refine L_callA (ans40 hc.ok.gr (by omega) (by omega)) ?_
 refine⟨aI (2*c.gr.vars),fun T hT=>by rw[bin_mul (by omega) (by omega)];exact⟨rfl,rfl⟩,?_⟩
 refine .inl ((res16 hm (v:=c.gr.vars) v1 (by omega)).mono ?_)
 rintro e S' ⟨tr,rfl,rfl,f,rfl,hf⟩
 refine⟨fun T hT=>by rw[ldN_p (n:=8) ((hT.2 _ (by omega)).trans o4) rfl];exact⟨rfl,rfl⟩,?_⟩
 refine stA_of ((k4.2 _ (by omega)).trans ((k'.2 _ (by omega)).trans p2)) rfl rfl fun S5 n5 o5 f5=>?_
 refine stA_of ((f5 _ (by omega)).trans ((k4.2 _ (by omega)).trans ((k'.2 _ (by omega)).trans o2))) (Fo.row_len _) rfl fun S6 n6 o6 f6=>?_
 rw[ldN_p (n:=8) ((f6 _ (by omega)).trans o5) rfl,ldN_p (n:=4) o6 (Fo.row_len _)]
 have w5:=w4.st (id:=S.n) (fun b m e=>by have:=wz.lt e;omega) n5 f5
 have w6:=w5.st (id:=S1.n) (fun b m e=>by have:=wz.lt e;omega) n6 f6
 exact⟨_,rfl,((((k1.trans k2).trans k').trans k4).st (id:=S.n) (by omega) n5 f5).st (id:=S1.n) (by omega) n6 f6,c,f,zl,rfl,w6.low (by omega),hc,hf⟩
theorem oddTail{S0 S:Store}{i4 i5 t4 t5:Nat}{c:Ci}{f:Fo}{zl:AV}(hk:Keep S0 S)(o4:S.obj i4=some (.cells t4 [c.cells.set 1 zl] true))(o5:S.obj i5=some (.cells t5 [f.row] true))(w:Own S0.n S zl 66 (latR c.latches))(hc:c.ok)(hf:f.ok)
    {Q:AEnd→Store→Prop} (hQ:∀ S',Keep S0 S'→Q (.ret (aB true)) S'):
    shift (.p i4 0 0) 0 S fun v14 S=>ld1 v14 S fun v15 S=>shift (.p i4 0 0) 1 S fun v16 S=>ld1 v16 S fun v17 S=>lenS v17 S fun v18 S=>bin .add 0 v15 v18 S fun v19 S=>callF Pg 31 [] S Q fun v20 S=>onB v20 fun b=>gd b
     (bin .gtr 0 v19 (.v (.int .i64 6)) S fun v22 S=>onB v22 fun b=>gd b (bin .leq 0 v19 (.v (.int .i64 10)) S fun v24 S=>onB v24 fun b=>gd b (Q (.ret (.v (.bool true))) S) (ldN 8 (.p i4 0 0) S fun v26 S=>ldN 4 (.p i5 0 0) S fun v27 S=>callF Pg 32 [v26,v27] S Q fun v28 S=>Q (.ret v28) S))
      (ldN 8 (.p i4 0 0) S fun v29 S=>ldN 4 (.p i5 0 0) S fun v30 S=>callF Pg 32 [v29,v30] S Q fun v31 S=>Q (.ret v31) S)) (Q (.ret (.v (.bool false))) S):=by
 have last:ldN 8 (.p i4 0 0) S fun v29 S=>ldN 4 (.p i5 0 0) S fun v30 S=>callF Pg 32 [v29,v30] S Q fun v31 S=>Q (.ret v31) S:=by
  rw[ldN_p (n:=8) o4 rfl,ldN_p (n:=4) o5 (Fo.row_len f)]
  refine callF_frz (newer S0.n) (args:=[.a (c.cells.set 1 zl),f.av]) (args2:=[c.av,f.av]) rfl (fun k u u2 e1 e2=>?_) (ans32 hc hf) ?_
  rotate_left
  ·exact hQ _ (hk.frz (Nat.le_refl _))
  match k with
  |0 =>
   cases e1;cases e2
   refine .a _ _ rfl fun k' u u2 e1 e2=>?_
   match k' with
   |0=>cases e1;cases e2;exact .v _
   |1=>cases e1;cases e2;exact own_cvP w (w.fF (Nat.le_refl _))
   |2=>cases e1;cases e2;exact treeP _ _ _
   |3=>cases e1;cases e2;exact treeI _ _ _
   |4=>cases e1;cases e2;exact treeI _ _ _
   |5=>cases e1;cases e2;exact treeI _ _ _
   |6=>cases e1;cases e2;exact treeI _ _ _
   |7=>cases e1;cases e2;exact treeN _ _ _
   |k+8=>simp[Ci.cells]at e1
  |1=>cases e1;cases e2;exact Fo.tr _ _ _
  |k+2=>simp at e1
 rw[shift_p,ld1_p (u:=aI c.inputs) o4 rfl rfl,shift_p,ld1_p (u:=zl) o4 rfl rfl,w.len,bin_addW]
 refine callF_ans ans31 ?_
 rw[onB_v,gd_T rfl,bin_gtr,onB_v]
 refine gd_of (fun _=>?_) (fun _=>last)
 rw[bin_leq,onB_v]
 exact gd_of (fun _=>hQ _ hk) (fun _=>last)
theorem bsl9{e:Nat}{z1 z2 u v:AV}{S:Store}{K:AV→Store→Prop}(k:K (.l [[u,v],[u,v],[u,v],[u,v],[u,v],[u,v],[u,v],[u,v],[u,v]]) S):
    bslN e 2 9 [z1,z2] [(0,.a [u,v]),(1,.a [u,v]),(2,.a [u,v]),(3,.a [u,v]),(4,.a [u,v]),(5,.a [u,v]),(6,.a [u,v]),(7,.a [u,v]),(8,.a [u,v])] S K:=by
 refine⟨[u,v,u,v,u,v,u,v,u,v,u,v,u,v,u,v,u,v],?_,.inr ?_⟩
 ·simp[fillA,cellsOf,spl]
 ·simpa[chunks,List.range_succ]using k
theorem law10{l m:List Int}(hl:∀ x∈l,0≤x∧x<65536)(hm:∀ x∈m,0≤x∧x<256){how n:Int}(hn:i64R n):Ans Pg 10 [aL aW16 l,aL aU8 m,aU8 how,aI n] (aB true):=by
 intro S
 refine ACalls.ans_v (calls10 ?_)
 unfold m10
 refine .inl ((ofL23 hl hm).mono ?_)
 rintro e S0 ⟨tr,rfl,k0,c,f,zl,rfl,wz,hc,hf⟩
 show extr _ _ _ _
 rw[extr0,extr1]
 have h0:=k0.1
 refine boxA_of rfl fun S1 k1 n1 o1=>?_
 refine boxA_of rfl fun S2 k2 n2 o2=>?_
 refine stA_of (cs':=c.cells.set 1 zl) ((k2.2 _ (by omega)).trans o1) rfl rfl fun S3 n3 o3 f3=>?_
 refine stA_of ((f3 _ (by omega)).trans o2) (Fo.row_len f) rfl fun S4 n4 o4 f4=>?_
 have p3:=(f4 S0.n (by omega)).trans o3
 have kk:=k0.trans (((k1.trans k2).st (Nat.le_refl _) n3 f3).st (id:=S1.n) (by omega) n4 f4)
 have w3:=(Own.kp wz (k1.trans k2)).st (id:=S0.n) (fun b m e=>by have:=wz.lt e;omega) n3 f3
 have w4:=w3.st (id:=S1.n) (fun b m e=>by have:=wz.lt e;omega) n4 f4
 have hQ:∀ S',Keep S S'→(AEnd.ret (aB true) = .ret (aB true)∧Keep S S'):=fun _ h=>⟨rfl,h⟩
 have okQ:(Fo.mk 3 ⟨#[]⟩ n []).ok:=.mk _ _ _ _ ⟨by decide,by decide⟩ hn (by decide) (by decide) (fun _ h=>by cases h)
 rw[bin_rem (by decide),bin_eql,onB_v]
 refine gd_of (fun _=>?_) (fun _=>?_)
 ·rw[bld_of (cs:=[aI 3,.v (.string ⟨#[]⟩),aI n,.nl]) rfl]
  refine callF_cv' (args:=[aI 9,.a [aI 3,.v (.string ⟨#[]⟩),aI n,.nl]]) (ans33 9 (foQ n)) rfl (cv_2 (.v _) (cv_foq 3 n)) ?_
  refine stA_of o4 (Fo.row_len _) (Fo.row_len _) fun S5 n5 o5 f5=>?_
  have w5:=w4.st (id:=S1.n) (fun b m e=>by have:=wz.lt e;omega) n5 f5
  exact oddTail (kk.st (by omega) n5 f5) ((f5 _ (by omega)).trans p3) o5 w5 hc.ok (.mk _ _ _ _ ⟨by decide,by decide⟩ ⟨by decide,by decide⟩ (by decide) (by simp) fun f hf=>by rw[List.mem_singleton.1 hf];exact okQ) hQ
 rw[bin_eql,onB_v]
 refine gd_of (fun _=>?_) (fun _=>?_)
 ·refine .inl ((made34 hm).mono ?_)
  rintro e S' ⟨tr,rfl,rfl,f2,rfl,hf2⟩
  refine stA_of o4 (Fo.row_len _) (Fo.row_len _) fun S5 n5 o5 f5=>?_
  have w5:=w4.st (id:=S1.n) (fun b m e=>by have:=wz.lt e;omega) n5 f5
  exact oddTail (kk.st (by omega) n5 f5) ((f5 _ (by omega)).trans p3) o5 w5 hc.ok (MadeF.ok _ _ hf2) hQ
 rw[bin_eql,onB_v]
 refine gd_of (fun _=>?_) (fun _=>?_)
 ·rw[shift_p]
  refine stF_of p3 (by simp[Ci.cells]) rfl fun S5 n5 o5 f5=>?_
  have w5:=w4.st (id:=S0.n) (fun b m e=>by have:=wz.lt e;omega) n5 f5
  have hk:=hc.ok
  exact oddTail (c:={ c with inputs:=n }) (kk.st (by omega) n5 f5) o5 ((f5 _ (by omega)).trans o4) w5 ⟨hn,hk.llen,hk.alen,hk.lats,hk.pairs,hk.outs,hk.bads,hk.cons,hk.fair,hk.names,hk.nlen⟩ hf.ok hQ
 rw[bin_eql,onB_v]
 refine gd_of (fun _=>?_) (fun _=>?_)
 ·obtain⟨fk,fn,fl,fs⟩:=f
  rw[shift_p,ld1_p (u:=foL fs) o4 (by rw[Fo.row_mk];rfl) rfl,bld_of (cs:=(Fo.mk n ⟨#[]⟩ 0 fs).row) (by rw[Fo.row_mk];rfl)]
  refine stA_of o4 (Fo.row_len _) (Fo.row_len _) fun S5 n5 o5 f5=>?_
  have w5:=w4.st (id:=S1.n) (fun b m e=>by have:=wz.lt e;omega) n5 f5
  obtain⟨_,_,_,q4,q5⟩:=hf.ok.inv
  exact oddTail (kk.st (by omega) n5 f5) ((f5 _ (by omega)).trans p3) o5 w5 hc.ok (.mk _ _ _ _ hn ⟨by decide,by decide⟩ (by decide) q4 q5) hQ
 ·have e0:∀{T:Store} {K:AV→Store→Prop},bld [(0,1),(1,1)] [.v (.int .i64 0),.v (.int .i64 0)] [] T K=K (.a [aI 0,aI 0]) T:=bld_of rfl
  rw[shift_p,ld1_p (u:=zl) p3 rfl rfl,e0,e0,e0,e0,e0,e0,e0,e0,e0]
  refine bsl9 ?_
  have hll:=hc.lats
  refine Own.appL w4 (by omega) (ys:=latR (List.replicate 9 (0,0))) (fun c hc=>by
   obtain⟨p,_,rfl⟩:=List.mem_map.1 hc;rfl) (by rw[List.length_map,List.length_map,List.length_replicate];omega) (fun z S5 w5 b5 hz=>?_) rfl
  have p5:=(b5.2 S0.n (by omega) (fun b m e=>by have:=wz.lt e;omega)).trans p3
  have q5:=(b5.2 S1.n (by omega) (fun b m e=>by have:=wz.lt e;omega)).trans o4
  have kk5:Keep S S5:=⟨by have:=b5.1;have:=kk.1;omega,fun i hi=>(b5.2 i (by have:=kk.1;omega) (fun b m e=>by have:=wz.lt e;omega)).trans (kk.2 i hi)⟩
  rw[shift_p]
  refine stF_of p5 (by simp[Ci.cells]) (own_one w5) fun S6 n6 o6 f6=>?_
  have w6:=w5.st (id:=S0.n) (fun b m e=>by
   rcases hz with rfl|⟨m',rfl⟩
   ·have:=wz.lt e;omega
   ·injection e with e;omega) n6 f6
  have hk:=hc.ok
  refine oddTail (c:={ c with latches:=c.latches++List.replicate 9 (0,0) }) (kk5.st (by omega) n6 f6) o6 ((f6 _ (by omega)).trans q5) (by rw[latR,List.map_append];exact w6) ⟨hk.inp,by rw[List.length_append,List.length_replicate];omega,hk.alen,fun p hp=>?_,hk.pairs,hk.outs,hk.bads,hk.cons,hk.fair,hk.names,hk.nlen⟩ hf.ok hQ
  rcases List.mem_append.1 hp with hp|hp
  ·exact hk.lats p hp
  ·rw[(List.mem_replicate.1 hp).2];exact⟨⟨by decide,by decide⟩,⟨by decide,by decide⟩⟩
section
variable {H:Type} {enc:TypeId × Value→H} {w:World} {sp:Nat→Bool} {held:Bool}
theorem opUs:Opens enc Pg w sp held 25 1 (fun l:List Int=>[aL (fun n=>AV.v (.int .u8 n)) l]) (fun l=>l.length≤maxLen∧∀ a∈l,(Lit.int .u8 a).wf=true):=opens_slice Tryz.underlying25 (by kernel_rfl) (by decide) opU
end
end
end Go.Proofs.YtolgpokppnajdaaGreat.G

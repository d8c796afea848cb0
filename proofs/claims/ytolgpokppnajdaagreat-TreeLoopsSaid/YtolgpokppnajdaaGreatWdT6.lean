/- Tree -/
import Derived.Test.YtolgpokppnajdaaGreatProg
import Derived.KernelRfl
import Derived.Test.YtolgpokppnajdaaGreatWdT5
set_option linter.unusedVariables false
set_option linter.unusedSimpArgs false
namespace Go.Proofs.YtolgpokppnajdaaGreat.G
open Go Go.Ab
set_option linter.unusedSectionVars false
theorem J_bslA42 {e:Nat} {z1 z2 z3 z4:AV} {r r2:List AV} {S0:Store} {P:AV → Prop} (hr:r.length = 4) (hr2:r2.length = 4) (k:P (.l [r,r2])):∃ q,(bslN e 4 2 [z1,z2,z3,z4] [(0,.a r),(1,.a r2)] S0 fun v S=>v = q ∧ S = S0) ∧ P q:=⟨_,bslA42 hr hr2 ⟨rfl,rfl⟩,k⟩
theorem J_bsl2 {e:Nat} {z:AV} {x y:Value} {S0:Store} {P:AV → Prop} (hx:(AV.v x).one = true) (hy:(AV.v y).one = true) (k:P (.l [[.v x],[.v y]])):∃ q,(bslN e 1 2 [z] [(0,.v x),(1,.v y)] S0 fun v S=>v = q ∧ S = S0) ∧ P q:=⟨_,bsl2 hx hy ⟨rfl,rfl⟩,k⟩
theorem J_F0 {e:Nat} {f:Fo} {l:List Fo} {S0:Store} {P:AV → Prop}:(∃ q,(ixS e 4 (foL (f :: l)) (.v (.int .i64 0)) S0 fun v S=>v = q ∧ S = S0) ∧ P q) = P (.q f.row 0):=J_of (op:=fun K=>ixS e 4 (foL (f :: l)) (.v (.int .i64 0)) S0 K) fun K=>ixF0
theorem J_F1 {e:Nat} {f g:Fo} {l:List Fo} {S0:Store} {P:AV → Prop}:(∃ q,(ixS e 4 (foL (f :: g :: l)) (.v (.int .i64 1)) S0 fun v S=>v = q ∧ S = S0) ∧ P q) = P (.q g.row 0):=J_of (op:=fun K=>ixS e 4 (foL (f :: g :: l)) (.v (.int .i64 1)) S0 K) fun K=>ixF1
theorem ixT0 {e:Nat} {f:Tn} {l:List Tn} {S:Store} {K:AV → Store → Prop}:ixS e 5 (tnL (f :: l)) (.v (.int .i64 0)) S K = K (.q f.row 0) S:=ixS_tnL (i:=0) (by simp)
theorem J_T0 {e:Nat} {f:Tn} {l:List Tn} {S0:Store} {P:AV → Prop}:(∃ q,(ixS e 5 (tnL (f :: l)) (.v (.int .i64 0)) S0 fun v S=>v = q ∧ S = S0) ∧ P q) = P (.q f.row 0):=J_of (op:=fun K=>ixS e 5 (tnL (f :: l)) (.v (.int .i64 0)) S0 K) fun K=>ixT0
theorem J_lenT {l:List Tn} {S0:Store} {P:AV → Prop}:(∃ q,(lenS (tnL l) S0 fun v S=>v = q ∧ S = S0) ∧ P q) = P (aI l.length):=J_of (op:=fun K=>lenS (tnL l) S0 K) fun K=>lenS_tnL l
theorem Tn.row1 (t:Tn):t.row[1]? = some (aI t.st):=by cases t; rw [Tn.row_mk]; rfl
theorem J_slc0 {e:Nat} {f g:Fo} {S0:Store} {P:AV → Prop}:(∃ q,(slc e 4 (foL [f,g]) (some (aI 0)) (some (aI 1)) none S0 fun v S=>v = q ∧ S = S0) ∧ P q) = P (foL [f]):=J_of (op:=fun K=>slc e 4 (foL [f,g]) (some (aI 0)) (some (aI 1)) none S0 K) fun K=>by simp [slc,bnd,intA,foL,Fo.row_len]
theorem J_slc1 {e:Nat} {f g:Fo} {S0:Store} {P:AV → Prop}:(∃ q,(slc e 4 (foL [f,g]) (some (aI 1)) (some (aI 2)) none S0 fun v S=>v = q ∧ S = S0) ∧ P q) = P (foL [g]):=J_of (op:=fun K=>slc e 4 (foL [f,g]) (some (aI 1)) (some (aI 2)) none S0 K) fun K=>by simp [slc,bnd,intA,foL,Fo.row_len]
theorem slen0 {ss:List Int}:(¬ ss = []) → decide ((0:Int) < (ss.length:Int)) = true:=fun h=>decide_eq_true (by have:=List.length_pos_iff.2 h; omega)
section
variable {c:Ci} (hc:Cs c) {ks:List Tn} (hk:ks.length ≤ 1000000) (IH:∀ t ∈ ks,∀ f,Pu f → Ans Tryz.prog 80 [c.av,f.av,t.av] (aR (t.acc c f))) {ss:List Int} (hs:ss.length ≤ 1000000) (tk s a:Int)
include hc hk IH hs
theorem acc20_inv (hv:validS c s = false):∀ f:Fo,Ans Tryz.prog 80 [c.av,f.av,(Tn.mk tk s a ss ks).av] (aR (Tn.acc c (.mk tk s a ss ks) f)):=by
  rintro ⟨k,nm,l,fs⟩
  rw [acc_inv _ hv]
  intro S
  refine ACalls.ansT (calls80 ?_)
  unfold m80
  rw [Fo.av,Fo.row_mk,Tn.av,Tn.row_mk]
  refine boxA_of rfl fun S1 k1 n1 o1=>?_
  refine boxA_of rfl fun S2 k2 n2 o2=>?_
  refine boxA_of rfl fun S3 k3 n3 o3=>?_
  have kk:=(k1.trans k2).trans k3
  have p1:=(k3.2 _ (by omega)).trans ((k2.2 _ (by omega)).trans o1)
  have p2:=(k3.2 _ (by omega)).trans o2
  rw [ldN_p (n:=8) p1 rfl,shift_p,ld1_p o3 rfl rfl]
  refine callF_ans (ans58 hc s) ?_
  rw [un_not,hv,onB_v,gd_nF (b:=false) rfl]
  exact ⟨rfl,kk⟩
variable (hv:validS c s = true)
include hv
theorem acc20_2 :Ans Tryz.prog 80 [c.av,(Fo.mk 2 ⟨#[]⟩ 0 []).av,(Tn.mk tk s a ss ks).av] (aR (Tn.acc c (.mk tk s a ss ks) (Fo.mk 2 ⟨#[]⟩ 0 []))):=by
  rw [acc_2 hv]
  intro S
  refine ACalls.ansT (calls80 ?_)
  unfold m80
  rw [Fo.av,Fo.row_mk,Tn.av,Tn.row_mk]
  refine boxA_of rfl fun S1 k1 n1 o1=>?_
  refine boxA_of rfl fun S2 k2 n2 o2=>?_
  refine boxA_of rfl fun S3 k3 n3 o3=>?_
  have kk:=(k1.trans k2).trans k3
  have p1:=(k3.2 _ (by omega)).trans ((k2.2 _ (by omega)).trans o1)
  have p2:=(k3.2 _ (by omega)).trans o2
  rw [ldN_p (n:=8) p1 rfl,shift_p,ld1_p o3 rfl rfl]
  refine callF_ans (ans58 hc s) ?_
  rw [un_not,hv,onB_v,gd_nT (b:=true) rfl,shift_p,ld1_p o3 rfl rfl]
  refine bsl1 rfl (fun _ h=>by cases h) ?_
  rw [shift_p,ld1_p p2 rfl rfl]
  repeat (refine tno (by omega) ?_)
  refine tyes rfl ?_
  have ce:=ans121 tk s a ss ks
  rw [Tn.av,Tn.row_mk] at ce
  rw [shift_p,ld1_p o3 rfl rfl,bin_eql,onB_v]
  unfold leafB
  refine gd_of (fun h=>?_) (fun h=>⟨by rw [h]; rfl,kk⟩)
  rw [h,Bool.true_and,ldN_p (n:=5) o3 rfl]
  exact callF_ans ce ⟨rfl,kk⟩
theorem acc20_3 (l:Int) (hl:i64R l):Ans Tryz.prog 80 [c.av,(Fo.mk 3 ⟨#[]⟩ l []).av,(Tn.mk tk s a ss ks).av] (aR (Tn.acc c (.mk tk s a ss ks) (Fo.mk 3 ⟨#[]⟩ l []))):=by
  rw [acc_3 hv]
  intro S
  refine ACalls.ansT (calls80 ?_)
  unfold m80
  rw [Fo.av,Fo.row_mk,Tn.av,Tn.row_mk]
  refine boxA_of rfl fun S1 k1 n1 o1=>?_
  refine boxA_of rfl fun S2 k2 n2 o2=>?_
  refine boxA_of rfl fun S3 k3 n3 o3=>?_
  have kk:=(k1.trans k2).trans k3
  have p1:=(k3.2 _ (by omega)).trans ((k2.2 _ (by omega)).trans o1)
  have p2:=(k3.2 _ (by omega)).trans o2
  rw [ldN_p (n:=8) p1 rfl,shift_p,ld1_p o3 rfl rfl]
  refine callF_ans (ans58 hc s) ?_
  rw [un_not,hv,onB_v,gd_nT (b:=true) rfl,shift_p,ld1_p o3 rfl rfl]
  refine bsl1 rfl (fun _ h=>by cases h) ?_
  rw [shift_p,ld1_p p2 rfl rfl]
  repeat (refine tno (by omega) ?_)
  refine tyes rfl ?_
  have ce:=ans121 tk s a ss ks
  rw [Tn.av,Tn.row_mk] at ce
  rw [shift_p,ld1_p o3 rfl rfl,bin_eql,onB_v]
  unfold leafB
  refine gd_of (fun h=>?_) (fun h=>⟨by rw [h,Bool.false_and,Bool.false_and],kk⟩)
  rw [h,Bool.true_and,ldN_p (n:=5) o3 rfl]
  refine callF_ans ce ?_
  rw [onB_v]
  refine gd_of (fun h=>?_) (fun h=>⟨by rw [h,Bool.false_and],kk⟩)
  rw [h,Bool.true_and,ldN_p (n:=8) p1 rfl,shift_p,ld1_p o3 rfl rfl,shift_p,ld1_p p2 rfl rfl]
  exact callF_ans (ans68 hc.ok hl) ⟨rfl,kk⟩
theorem acc20_4 (l:Int) (hl:i64R l):Ans Tryz.prog 80 [c.av,(Fo.mk 4 ⟨#[]⟩ 0 [.mk 3 ⟨#[]⟩ l []]).av,(Tn.mk tk s a ss ks).av] (aR (Tn.acc c (.mk tk s a ss ks) (Fo.mk 4 ⟨#[]⟩ 0 [.mk 3 ⟨#[]⟩ l []]))):=by
  rw [acc_4 hv]
  intro S
  refine ACalls.ansT (calls80 ?_)
  unfold m80
  rw [Fo.av,Fo.row_mk,Tn.av,Tn.row_mk]
  refine boxA_of rfl fun S1 k1 n1 o1=>?_
  refine boxA_of rfl fun S2 k2 n2 o2=>?_
  refine boxA_of rfl fun S3 k3 n3 o3=>?_
  have kk:=(k1.trans k2).trans k3
  have p1:=(k3.2 _ (by omega)).trans ((k2.2 _ (by omega)).trans o1)
  have p2:=(k3.2 _ (by omega)).trans o2
  rw [ldN_p (n:=8) p1 rfl,shift_p,ld1_p o3 rfl rfl]
  refine callF_ans (ans58 hc s) ?_
  rw [un_not,hv,onB_v,gd_nT (b:=true) rfl,shift_p,ld1_p o3 rfl rfl]
  refine bsl1 rfl (fun _ h=>by cases h) ?_
  rw [shift_p,ld1_p p2 rfl rfl]
  repeat (refine tno (by omega) ?_)
  refine tyes rfl ?_
  have ce:=ans121 tk s a ss ks
  rw [Tn.av,Tn.row_mk] at ce
  have r2:(Fo.mk 3 ⟨#[]⟩ l []).row[2]? = some (aI l):=by rw [Fo.row_mk]; rfl
  show ∃ q:AV,_
  unfold leafB
  by_cases e1:¬ tk = 1
  · rw [decide_eq_false e1,Bool.false_and,Bool.false_and]
    (repeat (first | with_reducible_and_instances (first | refine WJ ?_ | refine W (J_ldp o3 (by with_unfolding_all rfl) (by with_unfolding_all rfl)) ?_ | refine W (J_ldq (by with_unfolding_all rfl)) ?_)))
    rw [decide_eq_false e1]
    (repeat (first | with_reducible_and_instances (first | refine WJ ?_ | refine W (J_ldp o3 (by with_unfolding_all rfl) (by with_unfolding_all rfl)) ?_ | refine W (J_ldq (by with_unfolding_all rfl)) ?_)))
    exact ⟨rfl,kk⟩
  have e1:=Decidable.not_not.1 e1
  rw [decide_eq_true e1,Bool.true_and]
  (repeat (first | with_reducible_and_instances (first | refine WJ ?_ | refine W (J_ldp o3 (by with_unfolding_all rfl) (by with_unfolding_all rfl)) ?_ | refine W (J_ldq (by with_unfolding_all rfl)) ?_)))
  rw [decide_eq_true e1]
  (repeat (first | with_reducible_and_instances (first | refine WJ ?_ | refine W (J_ldp o3 (by with_unfolding_all rfl) (by with_unfolding_all rfl)) ?_ | refine W (J_ldN (n:=5) o3 (by with_unfolding_all rfl)) ?_ | refine W (J_ldq (by with_unfolding_all rfl)) ?_) | refine J_cA (ce) rfl rfl ?_ | refine C_A (ce) rfl rfl ?_))
  cases e2:decide (a = 0 ∧ ss.length = 0 ∧ ks.length = 0) with
  | false =>
    (repeat (first | with_reducible_and_instances (first | refine WJ ?_ | refine W (J_ldq (by with_unfolding_all rfl)) ?_)))
    exact ⟨rfl,kk⟩
  | true =>
    rw [Bool.true_and]
    (repeat (first | with_reducible_and_instances (first | refine WJ ?_ | refine W (J_ldp o3 (by with_unfolding_all rfl) (by with_unfolding_all rfl)) ?_ | refine W (J_ldp p2 (by with_unfolding_all rfl) (by with_unfolding_all rfl)) ?_ | refine W (J_ldN (n:=8) p1 (by with_unfolding_all rfl)) ?_ | refine W (J_F0) ?_ | refine W (J_ldq r2) ?_ | refine W (J_ldq (by with_unfolding_all rfl)) ?_) | refine J_cA (ans68 hc.ok (s:=s) hl) rfl rfl ?_ | refine C_A (ans68 hc.ok (s:=s) hl) rfl rfl ?_))
    exact ⟨rfl,kk⟩
theorem acc20_5 {f g:Fo} (hf:Pu f) (hg:Pu g):Ans Tryz.prog 80 [c.av,(Fo.mk 5 ⟨#[]⟩ 0 [f,g]).av,(Tn.mk tk s a ss ks).av] (aR (Tn.acc c (.mk tk s a ss ks) (Fo.mk 5 ⟨#[]⟩ 0 [f,g]))):=by
  rw [acc_5 hv]
  intro S
  refine ACalls.ansT (calls80 ?_)
  unfold m80
  rw [Fo.av,Fo.row_mk,Tn.av,Tn.row_mk]
  refine boxA_of rfl fun S1 k1 n1 o1=>?_
  refine boxA_of rfl fun S2 k2 n2 o2=>?_
  refine boxA_of rfl fun S3 k3 n3 o3=>?_
  have kk:=(k1.trans k2).trans k3
  have p1:=(k3.2 _ (by omega)).trans ((k2.2 _ (by omega)).trans o1)
  have p2:=(k3.2 _ (by omega)).trans o2
  rw [ldN_p (n:=8) p1 rfl,shift_p,ld1_p o3 rfl rfl]
  refine callF_ans (ans58 hc s) ?_
  rw [un_not,hv,onB_v,gd_nT (b:=true) rfl,shift_p,ld1_p o3 rfl rfl]
  refine bsl1 rfl (fun _ h=>by cases h) ?_
  rw [shift_p,ld1_p p2 rfl rfl]
  repeat (refine tno (by omega) ?_)
  refine tyes rfl ?_
  have ce:=ans121 tk s a ss ks
  rw [Tn.av,Tn.row_mk] at ce
  have no:¬ (tk = 2 ∧ a = 0 ∧ ss = []) → ∀ T,Keep S T → AEnd.ret (.t [aI 0,aB false]) = .ret (aR (if tk = 2 ∧ a = 0 ∧ ss = [] then Tn.accs c ks [f,g] [s,s] 0 else (0,false))) ∧ Keep S T:=fun h T hT=>⟨by rw [if_neg h],hT⟩
  rw [shift_p,ld1_p o3 rfl rfl,bin_neq,onB_v]
  by_cases e1:¬ tk = 2
  · rw [decide_eq_false e1]
    exact no (fun h=>e1 h.1) _ kk
  have e1:=Decidable.not_not.1 e1
  rw [decide_eq_true e1,gd_nT (b:=true) rfl,shift_p,ld1_p o3 rfl rfl,bin_neq,onB_v]
  by_cases e2:¬ a = 0
  · rw [decide_eq_false e2]
    exact no (fun h=>e2 h.2.1) _ kk
  have e2:=Decidable.not_not.1 e2
  rw [decide_eq_true e2,gd_nT (b:=true) rfl,shift_p,ld1_p o3 rfl rfl,lenS_aL,bin_gtr,onB_v]
  by_cases e3:¬ ss = []
  · rw [slen0 e3]
    exact no (fun h=>e3 h.2.2) _ kk
  have e3:=Decidable.not_not.1 e3
  rw [if_pos ⟨e1,e2,e3⟩]
  clear no
  rw [show decide ((0:Int) < (ss.length:Int)) = false from decide_eq_false (by simp [e3]),gd_false,ldN_p (n:=8) p1 rfl,shift_p,ld1_p p2 rfl rfl,shift_p,ld1_p o3 rfl rfl,shift_p,ld1_p o3 rfl rfl]
  refine bsl2 rfl rfl ?_
  rw [shift_p,ld1_p o3 rfl rfl]
  refine callF_ans (ans122 hk IH (fs:=[f,g]) (fun x hx=>?_) [s,s]) ?_
  · simp only [List.mem_cons,List.not_mem_nil,or_false] at hx
    rcases hx with rfl | rfl
    · exact hf
    · exact hg
  rw [extr_t rfl,extr_t rfl]
  exact ⟨rfl,kk⟩
theorem acc20_6 {f g:Fo} (hf:Pu f) (hg:Pu g):Ans Tryz.prog 80 [c.av,(Fo.mk 6 ⟨#[]⟩ 0 [f,g]).av,(Tn.mk tk s a ss ks).av] (aR (Tn.acc c (.mk tk s a ss ks) (Fo.mk 6 ⟨#[]⟩ 0 [f,g]))):=by
  rw [acc_6 hv]
  intro S
  refine ACalls.ansT (calls80 ?_)
  unfold m80
  rw [Fo.av,Fo.row_mk,Tn.av,Tn.row_mk]
  refine boxA_of rfl fun S1 k1 n1 o1=>?_
  refine boxA_of rfl fun S2 k2 n2 o2=>?_
  refine boxA_of rfl fun S3 k3 n3 o3=>?_
  have kk:=(k1.trans k2).trans k3
  have p1:=(k3.2 _ (by omega)).trans ((k2.2 _ (by omega)).trans o1)
  have p2:=(k3.2 _ (by omega)).trans o2
  rw [ldN_p (n:=8) p1 rfl,shift_p,ld1_p o3 rfl rfl]
  refine callF_ans (ans58 hc s) ?_
  rw [un_not,hv,onB_v,gd_nT (b:=true) rfl,shift_p,ld1_p o3 rfl rfl]
  refine bsl1 rfl (fun _ h=>by cases h) ?_
  rw [shift_p,ld1_p p2 rfl rfl]
  repeat (refine tno (by omega) ?_)
  refine tyes rfl ?_
  have ce:=ans121 tk s a ss ks
  rw [Tn.av,Tn.row_mk] at ce
  have no:¬ (tk = 3 ∧ 0 ≤ a ∧ a ≤ 1 ∧ ss = []) → ∀ T,Keep S T → AEnd.ret (.t [aI 0,aB false]) = .ret (aR (if tk = 3 ∧ 0 ≤ a ∧ a ≤ 1 ∧ ss = [] then Tn.accs c ks [[f,g].getD a.toNat fo0] [s] 0 else (0,false))) ∧ Keep S T:=fun h T hT=>⟨by rw [if_neg h],hT⟩
  rw [shift_p,ld1_p o3 rfl rfl,bin_neq,onB_v]
  by_cases e1:¬ tk = 3
  · rw [decide_eq_false e1]
    exact no (fun h=>e1 h.1) _ kk
  have e1:=Decidable.not_not.1 e1
  rw [decide_eq_true e1,gd_nT (b:=true) rfl,shift_p,ld1_p o3 rfl rfl,bin_lss,onB_v]
  by_cases e2:a < 0
  · rw [decide_eq_true e2]
    exact no (fun h=>by omega) _ kk
  rw [decide_eq_false e2,gd_false,shift_p,ld1_p o3 rfl rfl,bin_gtr,onB_v]
  by_cases e4:1 < a
  · rw [decide_eq_true e4]
    exact no (fun h=>by omega) _ kk
  rw [decide_eq_false e4,gd_false,shift_p,ld1_p o3 rfl rfl,lenS_aL,bin_gtr,onB_v]
  by_cases e3:¬ ss = []
  · rw [slen0 e3]
    exact no (fun h=>e3 h.2.2.2) _ kk
  have e3:=Decidable.not_not.1 e3
  rw [if_pos ⟨e1,by omega,by omega,e3⟩]
  clear no
  rw [show decide ((0:Int) < (ss.length:Int)) = false from decide_eq_false (by simp [e3]),gd_false]
  show ∃ q:AV,_
  have h01:a = 0 ∨ a = 1:=by omega
  rcases h01 with rfl | rfl
  · (repeat (first | with_reducible_and_instances (first | refine WJ ?_ | refine W (J_ldp o3 (by with_unfolding_all rfl) (by with_unfolding_all rfl)) ?_ | refine W (J_ldp p2 (by with_unfolding_all rfl) (by with_unfolding_all rfl)) ?_ | refine W (J_ldN (n:=8) p1 (by with_unfolding_all rfl)) ?_ | refine W (J_add (by decide) (by decide)) ?_ | refine W (J_ext (by with_unfolding_all rfl)) ?_ | refine W (J_slc0) ?_ | refine W (J_ldq (by with_unfolding_all rfl)) ?_) | refine J_cA (ans122 hk IH (fs:=[f]) (fun x hx=>by rw [List.mem_singleton.1 hx]; exact hf) [s]) rfl rfl ?_ | refine C_A (ans122 hk IH (fs:=[f]) (fun x hx=>by rw [List.mem_singleton.1 hx]; exact hf) [s]) rfl rfl ?_))
    exact ⟨rfl,kk⟩
  · (repeat (first | with_reducible_and_instances (first | refine WJ ?_ | refine W (J_ldp o3 (by with_unfolding_all rfl) (by with_unfolding_all rfl)) ?_ | refine W (J_ldp p2 (by with_unfolding_all rfl) (by with_unfolding_all rfl)) ?_ | refine W (J_ldN (n:=8) p1 (by with_unfolding_all rfl)) ?_ | refine W (J_add (by decide) (by decide)) ?_ | refine W (J_ext (by with_unfolding_all rfl)) ?_ | refine W (J_slc1) ?_ | refine W (J_ldq (by with_unfolding_all rfl)) ?_) | refine J_cA (ans122 hk IH (fs:=[g]) (fun x hx=>by rw [List.mem_singleton.1 hx]; exact hg) [s]) rfl rfl ?_ | refine C_A (ans122 hk IH (fs:=[g]) (fun x hx=>by rw [List.mem_singleton.1 hx]; exact hg) [s]) rfl rfl ?_))
    exact ⟨rfl,kk⟩
theorem acc20_17 {f g:Fo} (hf:Pu f) (hg:Pu g):Ans Tryz.prog 80 [c.av,(Fo.mk 17 ⟨#[]⟩ 0 [f,g]).av,(Tn.mk tk s a ss ks).av] (aR (Tn.acc c (.mk tk s a ss ks) (Fo.mk 17 ⟨#[]⟩ 0 [f,g]))):=by
  rw [acc_17 hv]
  intro S
  refine ACalls.ansT (calls80 ?_)
  unfold m80
  rw [Fo.av,Fo.row_mk,Tn.av,Tn.row_mk]
  refine boxA_of rfl fun S1 k1 n1 o1=>?_
  refine boxA_of rfl fun S2 k2 n2 o2=>?_
  refine boxA_of rfl fun S3 k3 n3 o3=>?_
  have kk:=(k1.trans k2).trans k3
  have p1:=(k3.2 _ (by omega)).trans ((k2.2 _ (by omega)).trans o1)
  have p2:=(k3.2 _ (by omega)).trans o2
  rw [ldN_p (n:=8) p1 rfl,shift_p,ld1_p o3 rfl rfl]
  refine callF_ans (ans58 hc s) ?_
  rw [un_not,hv,onB_v,gd_nT (b:=true) rfl,shift_p,ld1_p o3 rfl rfl]
  refine bsl1 rfl (fun _ h=>by cases h) ?_
  rw [shift_p,ld1_p p2 rfl rfl]
  repeat (refine tno (by omega) ?_)
  refine tyes rfl ?_
  have ce:=ans121 tk s a ss ks
  rw [Tn.av,Tn.row_mk] at ce
  have no:¬ (tk = 3 ∧ 0 ≤ a ∧ a ≤ 1 ∧ ss = []) → ∀ T,Keep S T → AEnd.ret (.t [aI 0,aB false]) = .ret (aR (if tk = 3 ∧ 0 ≤ a ∧ a ≤ 1 ∧ ss = [] then Tn.accs c ks [if a = 0 then foOne 13 g else foTwo 15 g (foTwo 5 f g)] [s] 0 else (0,false))) ∧ Keep S T:=fun h T hT=>⟨by rw [if_neg h],hT⟩
  rw [shift_p,ld1_p o3 rfl rfl,bin_neq,onB_v]
  by_cases e1:¬ tk = 3
  · rw [decide_eq_false e1]
    exact no (fun h=>e1 h.1) _ kk
  have e1:=Decidable.not_not.1 e1
  rw [decide_eq_true e1,gd_nT (b:=true) rfl,shift_p,ld1_p o3 rfl rfl,bin_lss,onB_v]
  by_cases e2:a < 0
  · rw [decide_eq_true e2]
    exact no (fun h=>by omega) _ kk
  rw [decide_eq_false e2,gd_false,shift_p,ld1_p o3 rfl rfl,bin_gtr,onB_v]
  by_cases e4:1 < a
  · rw [decide_eq_true e4]
    exact no (fun h=>by omega) _ kk
  rw [decide_eq_false e4,gd_false,shift_p,ld1_p o3 rfl rfl,lenS_aL,bin_gtr,onB_v]
  by_cases e3:¬ ss = []
  · rw [slen0 e3]
    exact no (fun h=>e3 h.2.2.2) _ kk
  have e3:=Decidable.not_not.1 e3
  rw [if_pos ⟨e1,by omega,by omega,e3⟩]
  clear no
  rw [show decide ((0:Int) < (ss.length:Int)) = false from decide_eq_false (by simp [e3]),gd_false]
  show ∃ q:AV,_
  (repeat (first | with_reducible_and_instances (first | refine WJ ?_ | refine W (J_ldp p2 (by with_unfolding_all rfl) (by with_unfolding_all rfl)) ?_ | refine W (J_F0) ?_ | refine W (J_F1) ?_ | refine W (J_ldNq (Fo.row_len _)) ?_ | refine W (J_ldq (by with_unfolding_all rfl)) ?_) | refine J_cA (ans81 g) rfl rfl ?_ | refine C_A (ans81 g) rfl rfl ?_ | refine J_cA (ans76 5 f g) rfl rfl ?_ | refine C_A (ans76 5 f g) rfl rfl ?_ | refine J_cA (ans82 g (foTwo 5 f g)) rfl rfl ?_ | refine C_A (ans82 g (foTwo 5 f g)) rfl rfl ?_ | refine J_bslA42 (Fo.row_len _) (Fo.row_len _) ?_))
  have h01:a = 0 ∨ a = 1:=by omega
  rcases h01 with rfl | rfl
  · (repeat (first | with_reducible_and_instances (first | refine WJ ?_ | refine W (J_ldp o3 (by with_unfolding_all rfl) (by with_unfolding_all rfl)) ?_ | refine W (J_ldp p2 (by with_unfolding_all rfl) (by with_unfolding_all rfl)) ?_ | refine W (J_ldN (n:=8) p1 (by with_unfolding_all rfl)) ?_ | refine W (J_add (by decide) (by decide)) ?_ | refine W (J_ext (by with_unfolding_all rfl)) ?_ | refine W (J_slc0) ?_ | refine W (J_ldq (by with_unfolding_all rfl)) ?_) | refine J_cA (ans122 hk IH (fs:=[foOne 13 g]) (fun x hx=>by rw [List.mem_singleton.1 hx]; exact .o _ _ (by decide) hg) [s]) rfl rfl ?_ | refine C_A (ans122 hk IH (fs:=[foOne 13 g]) (fun x hx=>by rw [List.mem_singleton.1 hx]; exact .o _ _ (by decide) hg) [s]) rfl rfl ?_))
    exact ⟨rfl,kk⟩
  · (repeat (first | with_reducible_and_instances (first | refine WJ ?_ | refine W (J_ldp o3 (by with_unfolding_all rfl) (by with_unfolding_all rfl)) ?_ | refine W (J_ldp p2 (by with_unfolding_all rfl) (by with_unfolding_all rfl)) ?_ | refine W (J_ldN (n:=8) p1 (by with_unfolding_all rfl)) ?_ | refine W (J_add (by decide) (by decide)) ?_ | refine W (J_ext (by with_unfolding_all rfl)) ?_ | refine W (J_slc1) ?_ | refine W (J_ldq (by with_unfolding_all rfl)) ?_) | refine J_cA (ans122 hk IH (fs:=[foTwo 15 g (foTwo 5 f g)]) (fun x hx=>by rw [List.mem_singleton.1 hx]; exact .t _ _ _ (by decide) hg (.t _ _ _ (by decide) hf hg)) [s]) rfl rfl ?_ | refine C_A (ans122 hk IH (fs:=[foTwo 15 g (foTwo 5 f g)]) (fun x hx=>by rw [List.mem_singleton.1 hx]; exact .t _ _ _ (by decide) hg (.t _ _ _ (by decide) hf hg)) [s]) rfl rfl ?_))
    exact ⟨rfl,kk⟩
theorem acc20_9 {f:Fo} (hf:Pu f):Ans Tryz.prog 80 [c.av,(Fo.mk 9 ⟨#[]⟩ 0 [f]).av,(Tn.mk tk s a ss ks).av] (aR (Tn.acc c (.mk tk s a ss ks) (Fo.mk 9 ⟨#[]⟩ 0 [f]))):=by
  rw [acc_9 hv]
  intro S
  refine ACalls.ansT (calls80 ?_)
  unfold m80
  rw [Fo.av,Fo.row_mk,Tn.av,Tn.row_mk]
  refine boxA_of rfl fun S1 k1 n1 o1=>?_
  refine boxA_of rfl fun S2 k2 n2 o2=>?_
  refine boxA_of rfl fun S3 k3 n3 o3=>?_
  have kk:=(k1.trans k2).trans k3
  have p1:=(k3.2 _ (by omega)).trans ((k2.2 _ (by omega)).trans o1)
  have p2:=(k3.2 _ (by omega)).trans o2
  rw [ldN_p (n:=8) p1 rfl,shift_p,ld1_p o3 rfl rfl]
  refine callF_ans (ans58 hc s) ?_
  rw [un_not,hv,onB_v,gd_nT (b:=true) rfl,shift_p,ld1_p o3 rfl rfl]
  refine bsl1 rfl (fun _ h=>by cases h) ?_
  rw [shift_p,ld1_p p2 rfl rfl]
  repeat (refine tno (by omega) ?_)
  refine tyes rfl ?_
  have ce:=ans121 tk s a ss ks
  rw [Tn.av,Tn.row_mk] at ce
  have no:¬ (tk = 4 ∧ a = 0 ∧ ss = [] ∧ (ks.map Tn.st).length = 2 ∧ behindS c s ((ks.map Tn.st).getD 0 0) = true) → ∀ T,Keep S T → AEnd.ret (.t [aI 0,aB false]) = .ret (aR (if tk = 4 ∧ a = 0 ∧ ss = [] ∧ (ks.map Tn.st).length = 2 ∧ behindS c s ((ks.map Tn.st).getD 0 0) = true then Tn.accs c ks [[f].getD 0 fo0,foG] [(ks.map Tn.st).getD 0 0,(ks.map Tn.st).getD 0 0] 0 else (0,false))) ∧ Keep S T:=fun h T hT=>⟨by rw [if_neg h],hT⟩
  show ∃ q:AV,_
  (repeat (first | with_reducible_and_instances (first | refine WJ ?_ | refine W (J_ldp o3 (by with_unfolding_all rfl) (by with_unfolding_all rfl)) ?_ | refine W (J_ldq (by with_unfolding_all rfl)) ?_)))
  by_cases e1:¬ tk = 4
  · rw [decide_eq_false e1,Bool.not_false]
    (repeat (first | with_reducible_and_instances (first | refine WJ ?_ | refine W (J_ldq (by with_unfolding_all rfl)) ?_)))
    exact no (fun h=>e1 h.1) _ kk
  have e1:=Decidable.not_not.1 e1
  rw [decide_eq_true e1,Bool.not_true]
  (repeat (first | with_reducible_and_instances (first | refine WJ ?_ | refine W (J_ldp o3 (by with_unfolding_all rfl) (by with_unfolding_all rfl)) ?_ | refine W (J_ldq (by with_unfolding_all rfl)) ?_)))
  by_cases e2:¬ a = 0
  · rw [decide_eq_false e2,Bool.not_false]
    (repeat (first | with_reducible_and_instances (first | refine WJ ?_ | refine W (J_ldq (by with_unfolding_all rfl)) ?_)))
    exact no (fun h=>e2 h.2.1) _ kk
  have e2:=Decidable.not_not.1 e2
  rw [decide_eq_true e2,Bool.not_true]
  (repeat (first | with_reducible_and_instances (first | refine WJ ?_ | refine W (J_ldp o3 (by with_unfolding_all rfl) (by with_unfolding_all rfl)) ?_ | refine W (J_ldq (by with_unfolding_all rfl)) ?_)))
  by_cases e3:¬ ss = []
  · rw [slen0 e3]
    (repeat (first | with_reducible_and_instances (first | refine WJ ?_ | refine W (J_ldq (by with_unfolding_all rfl)) ?_)))
    exact no (fun h=>e3 h.2.2.1) _ kk
  have e3:=Decidable.not_not.1 e3
  rw [show decide ((0:Int) < (ss.length:Int)) = false from decide_eq_false (by simp [e3])]
  (repeat (first | with_reducible_and_instances (first | refine WJ ?_ | refine W (J_ldp o3 (by with_unfolding_all rfl) (by with_unfolding_all rfl)) ?_ | refine W (J_lenT) ?_ | refine W (J_ldq (by with_unfolding_all rfl)) ?_)))
  by_cases e4:¬ ks.length = 2
  · rw [show decide ((ks.length:Int) = 2) = false from decide_eq_false (by omega),Bool.not_false]
    (repeat (first | with_reducible_and_instances (first | refine WJ ?_ | refine W (J_ldq (by with_unfolding_all rfl)) ?_)))
    exact no (fun h=>e4 (by have:=h.2.2.2.1; rwa [List.length_map] at this)) _ kk
  have e4:=Decidable.not_not.1 e4
  rw [show decide ((ks.length:Int) = 2) = true from decide_eq_true (by omega),Bool.not_true]
  obtain ⟨t0,t1,rfl⟩:∃ t0 t1,ks = [t0,t1]:=by
    match ks,e4 with
    | [t0,t1],_=>exact ⟨t0,t1,rfl⟩
  (repeat (first | with_reducible_and_instances (first | refine WJ ?_ | refine W (J_ldp o3 (by with_unfolding_all rfl) (by with_unfolding_all rfl)) ?_ | refine W (J_ldN (n:=8) p1 (by with_unfolding_all rfl)) ?_ | refine W (J_T0) ?_ | refine W (J_ldq (Tn.row1 _)) ?_ | refine W (J_ldq (by with_unfolding_all rfl)) ?_) | refine J_cA (ans123 hc s t0.st) rfl rfl ?_ | refine C_A (ans123 hc s t0.st) rfl rfl ?_))
  cases e5:behindS c s t0.st with
  | false =>
    rw [Bool.not_false]
    (repeat (first | with_reducible_and_instances (first | refine WJ ?_ | refine W (J_ldq (by with_unfolding_all rfl)) ?_)))
    exact no (fun h=>by rw [show ([t0,t1].map Tn.st).getD 0 0 = t0.st from rfl,e5] at h; cases h.2.2.2.2) _ kk
  | true =>
    rw [Bool.not_true]
    have hall:=ans122 hk IH (fs:=[f,foG]) (fun x hx=>by
      simp only [List.mem_cons,List.not_mem_nil,or_false] at hx
      rcases hx with rfl | rfl
      · exact hf
      · exact .o _ _ (by decide) (.c _ (by decide))) [t0.st,t0.st]
    (repeat (first | with_reducible_and_instances (first | refine WJ ?_ | refine W (J_ldp o3 (by with_unfolding_all rfl) (by with_unfolding_all rfl)) ?_ | refine W (ld1_p o3 (by with_unfolding_all rfl) (by with_unfolding_all rfl)) ?_ | refine W (ixT0) ?_ | refine W (J_ldq (by with_unfolding_all rfl)) ?_)))
    have ld1q:∀ K:AV → Store → Prop,ld1 (.q t0.row 1) S3 K = K (aI t0.st) S3:=fun K=>by simp [ld1,rd1,place,Tn.row1]
    (repeat (first | with_reducible_and_instances (first | refine WJ ?_ | refine W (J_ldp o3 (by with_unfolding_all rfl) (by with_unfolding_all rfl)) ?_ | refine W (ld1q _) ?_ | refine W (J_ldq (by with_unfolding_all rfl)) ?_)))
    (repeat (first | with_reducible_and_instances (first | refine WJ ?_ | refine W (J_ldp o3 (by with_unfolding_all rfl) (by with_unfolding_all rfl)) ?_ | refine W (J_ldp p2 (by with_unfolding_all rfl) (by with_unfolding_all rfl)) ?_ | refine W (J_ldN (n:=8) p1 (by with_unfolding_all rfl)) ?_ | refine W (J_F0) ?_ | refine W (J_ldNq (Fo.row_len _)) ?_ | refine W (J_ext (by with_unfolding_all rfl)) ?_ | refine W (J_ldq (by with_unfolding_all rfl)) ?_) | refine J_cA (ans124) rfl rfl ?_ | refine C_A (ans124) rfl rfl ?_ | refine J_cA (ans81 fo2) rfl rfl ?_ | refine C_A (ans81 fo2) rfl rfl ?_ | refine J_bslA42 (Fo.row_len _) (Fo.row_len _) ?_ | refine J_bsl2 rfl rfl ?_ | refine J_cA (hall) rfl rfl ?_ | refine C_A (hall) rfl rfl ?_))
    exact ⟨by rw [if_pos ⟨e1,e2,e3,rfl,e5⟩]; rfl,kk⟩
theorem acc20_11 {f:Fo} (hf:Pu f):Ans Tryz.prog 80 [c.av,(Fo.mk 11 ⟨#[]⟩ 0 [f]).av,(Tn.mk tk s a ss ks).av] (aR (Tn.acc c (.mk tk s a ss ks) (Fo.mk 11 ⟨#[]⟩ 0 [f]))):=by
  rw [acc_11 hv]
  intro S
  refine ACalls.ansT (calls80 ?_)
  unfold m80
  rw [Fo.av,Fo.row_mk,Tn.av,Tn.row_mk]
  refine boxA_of rfl fun S1 k1 n1 o1=>?_
  refine boxA_of rfl fun S2 k2 n2 o2=>?_
  refine boxA_of rfl fun S3 k3 n3 o3=>?_
  have kk:=(k1.trans k2).trans k3
  have p1:=(k3.2 _ (by omega)).trans ((k2.2 _ (by omega)).trans o1)
  have p2:=(k3.2 _ (by omega)).trans o2
  rw [ldN_p (n:=8) p1 rfl,shift_p,ld1_p o3 rfl rfl]
  refine callF_ans (ans58 hc s) ?_
  rw [un_not,hv,onB_v,gd_nT (b:=true) rfl,shift_p,ld1_p o3 rfl rfl]
  refine bsl1 rfl (fun _ h=>by cases h) ?_
  rw [shift_p,ld1_p p2 rfl rfl]
  repeat (refine tno (by omega) ?_)
  refine tyes rfl ?_
  have ce:=ans121 tk s a ss ks
  rw [Tn.av,Tn.row_mk] at ce
  have cp:=ans125 hc hk IH (f0:=fo2) (.c _ (by decide)) hf 15 0 ⟨#[]⟩ hs tk s a
  rw [Tn.av,Tn.row_mk] at cp
  show ∃ q:AV,_
  (repeat (first | with_reducible_and_instances (first | refine WJ ?_ | refine W (J_ldp o3 (by with_unfolding_all rfl) (by with_unfolding_all rfl)) ?_ | refine W (J_ldp p2 (by with_unfolding_all rfl) (by with_unfolding_all rfl)) ?_ | refine W (J_ldN (n:=8) p1 (by with_unfolding_all rfl)) ?_ | refine W (J_ldN (n:=5) o3 (by with_unfolding_all rfl)) ?_ | refine W (J_F0) ?_ | refine W (J_ldNq (Fo.row_len _)) ?_ | refine W (J_ext (by with_unfolding_all rfl)) ?_ | refine W (J_ldq (by with_unfolding_all rfl)) ?_) | refine J_cA (ans124) rfl rfl ?_ | refine C_A (ans124) rfl rfl ?_ | refine J_cA (ans82 fo2 f) rfl rfl ?_ | refine C_A (ans82 fo2 f) rfl rfl ?_ | refine J_cA (cp) rfl rfl ?_ | refine C_A (cp) rfl rfl ?_))
  exact ⟨rfl,kk⟩
theorem acc20_15 {f g:Fo} (hf:Pu f) (hg:Pu g):Ans Tryz.prog 80 [c.av,(Fo.mk 15 ⟨#[]⟩ 0 [f,g]).av,(Tn.mk tk s a ss ks).av] (aR (Tn.acc c (.mk tk s a ss ks) (Fo.mk 15 ⟨#[]⟩ 0 [f,g]))):=by
  rw [acc_15 hv]
  intro S
  refine ACalls.ansT (calls80 ?_)
  unfold m80
  rw [Fo.av,Fo.row_mk,Tn.av,Tn.row_mk]
  refine boxA_of rfl fun S1 k1 n1 o1=>?_
  refine boxA_of rfl fun S2 k2 n2 o2=>?_
  refine boxA_of rfl fun S3 k3 n3 o3=>?_
  have kk:=(k1.trans k2).trans k3
  have p1:=(k3.2 _ (by omega)).trans ((k2.2 _ (by omega)).trans o1)
  have p2:=(k3.2 _ (by omega)).trans o2
  rw [ldN_p (n:=8) p1 rfl,shift_p,ld1_p o3 rfl rfl]
  refine callF_ans (ans58 hc s) ?_
  rw [un_not,hv,onB_v,gd_nT (b:=true) rfl,shift_p,ld1_p o3 rfl rfl]
  refine bsl1 rfl (fun _ h=>by cases h) ?_
  rw [shift_p,ld1_p p2 rfl rfl]
  repeat (refine tno (by omega) ?_)
  refine tyes rfl ?_
  have ce:=ans121 tk s a ss ks
  rw [Tn.av,Tn.row_mk] at ce
  have cp:=ans125 hc hk IH hf hg 15 0 ⟨#[]⟩ hs tk s a
  rw [Fo.av,Fo.row_mk,Tn.av,Tn.row_mk] at cp
  rw [ldN_p (n:=8) p1 rfl,ldN_p (n:=4) p2 rfl,ldN_p (n:=5) o3 rfl]
  refine callF_ans cp ?_
  rw [extr_t rfl,extr_t rfl]
  exact ⟨rfl,kk⟩
theorem acc20_13 {f:Fo} (hf:Pu f):Ans Tryz.prog 80 [c.av,(Fo.mk 13 ⟨#[]⟩ 0 [f]).av,(Tn.mk tk s a ss ks).av] (aR (Tn.acc c (.mk tk s a ss ks) (Fo.mk 13 ⟨#[]⟩ 0 [f]))):=by
  rw [acc_13 hv]
  intro S
  refine ACalls.ansT (calls80 ?_)
  unfold m80
  rw [Fo.av,Fo.row_mk,Tn.av,Tn.row_mk]
  refine boxA_of rfl fun S1 k1 n1 o1=>?_
  refine boxA_of rfl fun S2 k2 n2 o2=>?_
  refine boxA_of rfl fun S3 k3 n3 o3=>?_
  have kk:=(k1.trans k2).trans k3
  have p1:=(k3.2 _ (by omega)).trans ((k2.2 _ (by omega)).trans o1)
  have p2:=(k3.2 _ (by omega)).trans o2
  rw [ldN_p (n:=8) p1 rfl,shift_p,ld1_p o3 rfl rfl]
  refine callF_ans (ans58 hc s) ?_
  rw [un_not,hv,onB_v,gd_nT (b:=true) rfl,shift_p,ld1_p o3 rfl rfl]
  refine bsl1 rfl (fun _ h=>by cases h) ?_
  rw [shift_p,ld1_p p2 rfl rfl]
  repeat (refine tno (by omega) ?_)
  refine tyes rfl ?_
  have ce:=ans121 tk s a ss ks
  rw [Tn.av,Tn.row_mk] at ce
  have cp:=ans126 hc hk IH hf 13 0 ⟨#[]⟩ hs tk s a
  rw [Fo.av,Fo.row_mk,Tn.av,Tn.row_mk] at cp
  rw [ldN_p (n:=8) p1 rfl,ldN_p (n:=4) p2 rfl,ldN_p (n:=5) o3 rfl]
  refine callF_ans cp ?_
  rw [extr_t rfl,extr_t rfl]
  exact ⟨rfl,kk⟩
theorem acc20_1 :Ans Tryz.prog 80 [c.av,(Fo.mk 1 ⟨#[]⟩ 0 []).av,(Tn.mk tk s a ss ks).av] (aR (Tn.acc c (.mk tk s a ss ks) (Fo.mk 1 ⟨#[]⟩ 0 []))):=by
  rw [acc_1 hv]
  intro S
  refine ACalls.ansT (calls80 ?_)
  unfold m80
  rw [Fo.av,Fo.row_mk,Tn.av,Tn.row_mk]
  refine boxA_of rfl fun S1 k1 n1 o1=>?_
  refine boxA_of rfl fun S2 k2 n2 o2=>?_
  refine boxA_of rfl fun S3 k3 n3 o3=>?_
  have kk:=(k1.trans k2).trans k3
  have p1:=(k3.2 _ (by omega)).trans ((k2.2 _ (by omega)).trans o1)
  have p2:=(k3.2 _ (by omega)).trans o2
  rw [ldN_p (n:=8) p1 rfl,shift_p,ld1_p o3 rfl rfl]
  refine callF_ans (ans58 hc s) ?_
  rw [un_not,hv,onB_v,gd_nT (b:=true) rfl,shift_p,ld1_p o3 rfl rfl]
  refine bsl1 rfl (fun _ h=>by cases h) ?_
  rw [shift_p,ld1_p p2 rfl rfl]
  repeat (refine tno (by omega) ?_)
  refine tyes rfl ?_
  have ce:=ans121 tk s a ss ks
  rw [Tn.av,Tn.row_mk] at ce
  exact ⟨rfl,kk⟩
theorem acc20_t {k:Int} (hk7:k = 10 ∨ k = 12 ∨ k = 14 ∨ k = 16 ∨ k = 18) (fs:List Fo):Ans Tryz.prog 80 [c.av,(Fo.mk k ⟨#[]⟩ 0 fs).av,(Tn.mk tk s a ss ks).av] (aR (Tn.acc c (.mk tk s a ss ks) (Fo.mk k ⟨#[]⟩ 0 fs))):=by
  rw [acc_t hk7 hv]
  intro S
  refine ACalls.ansT (calls80 ?_)
  unfold m80
  rw [Fo.av,Fo.row_mk,Tn.av,Tn.row_mk]
  refine boxA_of rfl fun S1 k1 n1 o1=>?_
  refine boxA_of rfl fun S2 k2 n2 o2=>?_
  refine boxA_of rfl fun S3 k3 n3 o3=>?_
  have kk:=(k1.trans k2).trans k3
  have p1:=(k3.2 _ (by omega)).trans ((k2.2 _ (by omega)).trans o1)
  have p2:=(k3.2 _ (by omega)).trans o2
  rw [ldN_p (n:=8) p1 rfl,shift_p,ld1_p o3 rfl rfl]
  refine callF_ans (ans58 hc s) ?_
  rw [un_not,hv,onB_v,gd_nT (b:=true) rfl,shift_p,ld1_p o3 rfl rfl]
  refine bsl1 rfl (fun _ h=>by cases h) ?_
  rw [shift_p,ld1_p p2 rfl rfl]
  repeat (refine tno (by omega) ?_)
  have ce:=ans121 tk s a ss ks
  rw [Tn.av,Tn.row_mk] at ce
  rw [shift_p,ld1_p o3 rfl rfl,bin_eql,onB_v]
  unfold leafB
  refine gd_of (fun h=>?_) (fun h=>⟨by rw [h]; rfl,kk⟩)
  rw [h,Bool.true_and,ldN_p (n:=5) o3 rfl]
  exact callF_ans ce ⟨rfl,kk⟩
omit hv
theorem acc20 {f:Fo} (hf:Pu f):Ans Tryz.prog 80 [c.av,f.av,(Tn.mk tk s a ss ks).av] (aR (Tn.acc c (.mk tk s a ss ks) f)):=by
  cases hv:validS c s with
  | false=>exact acc20_inv hc hk IH hs tk s a hv f
  | true =>
    cases hf with
    | c k h =>
      rcases h with rfl | rfl
      · exact acc20_1 hc hk IH hs tk s a hv
      · exact acc20_2 hc hk IH hs tk s a hv
    | a l h0 hl=>exact acc20_3 hc hk IH hs tk s a hv l hl
    | n l h0 hl=>exact acc20_4 hc hk IH hs tk s a hv l hl
    | o k f h hf =>
      have:k = 9 ∨ k = 11 ∨ k = 13 ∨ (k = 10 ∨ k = 12 ∨ k = 14 ∨ k = 16 ∨ k = 18):=by omega
      rcases this with rfl | rfl | rfl | h
      · exact acc20_9 hc hk IH hs tk s a hv hf
      · exact acc20_11 hc hk IH hs tk s a hv hf
      · exact acc20_13 hc hk IH hs tk s a hv hf
      · exact acc20_t hc hk IH hs tk s a hv h _
    | t k f g h hf hg =>
      have:k = 5 ∨ k = 6 ∨ k = 15 ∨ k = 17 ∨ (k = 10 ∨ k = 12 ∨ k = 14 ∨ k = 16 ∨ k = 18):=by omega
      rcases this with rfl | rfl | rfl | rfl | h
      · exact acc20_5 hc hk IH hs tk s a hv hf hg
      · exact acc20_6 hc hk IH hs tk s a hv hf hg
      · exact acc20_15 hc hk IH hs tk s a hv hf hg
      · exact acc20_17 hc hk IH hs tk s a hv hf hg
      · exact acc20_t hc hk IH hs tk s a hv h _
end
theorem ans80 {c:Ci} (hc:Cs c):∀ t:Tn,t.ok → ∀ f,Pu f → Ans Tryz.prog 80 [c.av,f.av,t.av] (aR (t.acc c f)):=by
  intro t
  induction t using Tn.ind with
  | h tk s a ss ks ih =>
    intro ht f hf
    cases ht with
    | mk _ _ _ _ _ h1 h2 h3 h4 h5 h6 h7=>exact acc20 hc h6 (fun t ht f hf=>ih t ht (h7 t ht) f hf) h4 tk s a hf
def waysE:List (Key × AV):=[(.i 2,.f (.func 89) [] []),(.i 3,.f (.func 90) [] []),(.i 4,.f (.func 91) [] []),(.i 5,.f (.func 92) [] []),(.i 6,.f (.func 93) [] []),
  (.i 9,.f (.func 94) [] []),(.i 11,.f (.func 95) [] []),(.i 13,.f (.func 96) [] []),(.i 15,.f (.func 97) [] []),(.i 17,.f (.func 98) [] []),
  (.i 10,.f (.func 99) [] []),(.i 12,.f (.func 99) [] []),(.i 14,.f (.func 99) [] []),(.i 16,.f (.func 99) [] []),(.i 18,.f (.func 99) [] [])]
def plC (c:Ci) (n:Int):List AV:=c.cells ++ [aI n,.mt (.i .i64) waysE]
theorem plC_len (c:Ci) (n:Int):(plC c n).length = 10:=rfl
abbrev plO (c:Ci) (n:Int):AObj:=.cells 100 [plC c n] true
theorem ldN_pl {c:Ci} {n:Int} {id:Nat} {S:Store} {K:AV → Store → Prop} (h:S.obj id = some (plO c n)):ldN 8 (.p id 0 0) S K = K c.av S:=by
  simp [ldN,rdN,place,Store.get,h,plC,Ci.cells,Ci.av]
theorem J_pl {c:Ci} {n:Int} {id:Nat} {S0:Store} {P:AV → Prop} (h:S0.obj id = some (plO c n)):(∃ q,(ldN 8 (.p id 0 0) S0 fun v S=>v = q ∧ S = S0) ∧ P q) = P c.av:=J_of (op:=fun K=>ldN 8 (.p id 0 0) S0 K) fun K=>ldN_pl h
theorem at137 {c:Ci} (hc:c.ok) {n:Int} {id:Nat} {S:Store} (h:S.obj id = some (plO c n)) (s:Int) {l:Int} (hl:i64R l):AnsAt Tryz.prog 137 [.p id 0 0,aI s,aI l] S (aB (isB c s l)):=by
  refine calls137 ?_
  unfold m137
  rw [nilChk_p,shift_p,Nat.zero_add,ldN_pl h]
  exact callF_ans (ans171 hc s hl) ⟨rfl,rfl⟩
theorem at146 {c:Ci} (hc:c.ok) {n:Int} {id a b ta tb:Nat} {S:Store} (h:S.obj id = some (plO c n)) {s:Int} (ha:S.obj a = some (.cells ta [[.p id 0 0]] true)) (hb:S.obj b = some (.cells tb [[aI s]] true)) {l:Int} (hl:i64R l) :
    AnsAt Tryz.prog 146 ([] ++ [aI l] ++ [.p a 0 0,.p b 0 0]) S (aB (!isB c s l)):=by
  refine calls146 ?_
  unfold m146
  rw [ld1_p ha rfl rfl,ld1_p hb rfl rfl]
  refine callF_at (at137 hc h s hl) ?_
  rw [un_not]
  exact ⟨rfl,rfl⟩
theorem any_notI {l:List Int} {g:Int → Bool}:l.any (fun x=>!g x) = !l.all g:=by
  induction l with
  | nil=>rfl
  | cons a l ih=>rw [List.any_cons,List.all_cons,ih,Bool.not_and]
theorem at100 {c:Ci} (hc:Cs c) {n:Int} {id:Nat} {S:Store} (h:S.obj id = some (plO c n)) (hid:id < S.n) (s:Int):AnsAt Tryz.prog 100 [.p id 0 0,aI s] S (aB (validS c s)):=by
  obtain ⟨m,h1,h2,h3,h4,h5⟩:=hc.sum
  have hcon:=hc.ok.cons
  have hll:=hc.ok.llen
  refine ACalls.ans_v (calls100 ?_)
  unfold m100 validS
  rw [h2,Int.toNat_natCast]
  refine box1_of rfl fun S1 k1 n1 o1=>?_
  refine box1_of rfl fun S2 k2 n2 o2=>?_
  have kk:=k1.trans k2
  have p1:=(k2.2 _ (by omega)).trans o1
  have q:=(kk.2 _ hid).trans h
  have radd:∀ {P:AV → Prop},(∃ q,(bin .add 0 (aI c.inputs) (aI c.latches.length) S2 fun v S=>v = q ∧ S = S2) ∧ P q) = P (aI m):=J_of (op:=fun K=>bin .add 0 (aI c.inputs) (aI c.latches.length) S2 K) fun K=>(bin_add (by omega) (by omega) 0).trans (by rw [h1])
  have rlen:∀ {P:AV → Prop},(∃ q,(lenS (pL c.latches) S2 fun v S=>v = q ∧ S = S2) ∧ P q) = P (aI c.latches.length):=J_of (op:=fun K=>lenS (pL c.latches) S2 K) fun K=>lenS_pL _
  have rshl:∀ {P:AV → Prop},(∃ q,(bin .shl 0 (.v (.int .i64 1)) (aI m) S2 fun v S=>v = q ∧ S = S2) ∧ P q) = P (aI (2 ^ m)):=J_of (op:=fun K=>bin .shl 0 (.v (.int .i64 1)) (aI m) S2 K) fun K=>bin_shl1 h3
  show ∃ q:AV,_
  (repeat (first | with_reducible_and_instances (first | refine WJ ?_ | refine W (J_ldp p1 (by with_unfolding_all rfl) (by with_unfolding_all rfl)) ?_ | refine W (J_ldp o2 (by with_unfolding_all rfl) (by with_unfolding_all rfl)) ?_ | refine W (J_nil) ?_ | refine W (J_ldp q (by with_unfolding_all rfl) (by with_unfolding_all rfl)) ?_ | refine W (rlen) ?_ | refine W (radd) ?_ | refine W (J_ldq (by with_unfolding_all rfl)) ?_)))
  cases e1:decide (0 ≤ s) with
  | false =>
    (repeat (first | with_reducible_and_instances (first | refine WJ ?_ | refine W (J_ldq (by with_unfolding_all rfl)) ?_)))
    exact ⟨by rw [Bool.false_and],kk⟩
  | true =>
    (repeat (first | with_reducible_and_instances (first | refine WJ ?_ | refine W (J_ldp o2 (by with_unfolding_all rfl) (by with_unfolding_all rfl)) ?_ | refine W (rshl) ?_ | refine W (J_ldq (by with_unfolding_all rfl)) ?_)))
    cases e2:decide (s < 2 ^ m) with
    | false =>
      (repeat (first | with_reducible_and_instances (first | refine WJ ?_ | refine W (J_ldq (by with_unfolding_all rfl)) ?_)))
      exact ⟨by rw [Bool.false_and,Bool.and_false],kk⟩
    | true =>
      have hcf:=at132 (f:=aI) (l:=c.cons) hcon.2 (fs:=[]) (cs:=[.p S.n 0 0,.p S1.n 0 0]) (S:=S2) fun x hx=>at146 (s:=s) hc.ok q p1 o2 (hcon.1 x hx)
      rw [any_notI] at hcf
      (repeat (first | with_reducible_and_instances (first | refine WJ ?_ | refine W (J_ldp p1 (by with_unfolding_all rfl) (by with_unfolding_all rfl)) ?_ | refine W (J_nil) ?_ | refine W (J_ldp q (by with_unfolding_all rfl) (by with_unfolding_all rfl)) ?_ | refine W (J_ldq (by with_unfolding_all rfl)) ?_) | refine J_cI (hcf) rfl rfl ?_ | refine C_I (hcf) rfl rfl ?_))
      exact ⟨by rw [Bool.true_and,Bool.true_and,Bool.not_not],kk⟩
theorem at141 {c:Ci} (hc:Cs c) {n:Int} {id:Nat} {S:Store} (h:S.obj id = some (plO c n)) (hid:id < S.n) (s t:Int):AnsAt Tryz.prog 141 [.p id 0 0,aI s,aI t] S (aB (behindS c s t)):=by
  obtain ⟨m,h1,h2,h3,h4,h5⟩:=hc.sum
  refine calls141 ?_
  unfold m141 behindS
  show ∃ q:AV,_
  cases e1:validS c s with
  | false =>
    (repeat (first | with_reducible_and_instances (first | refine WJ ?_ | refine W (gd_T e1) ?_ | refine W (gd_F e1) ?_ | refine W (gd_nT e1) ?_ | refine W (gd_nF e1) ?_ | refine W (J_ldq (by with_unfolding_all rfl)) ?_) | refine J_cI (at100 hc h hid s) rfl rfl ?_ | refine C_I (at100 hc h hid s) rfl rfl ?_))
    exact ⟨by rw [Bool.false_and],rfl⟩
  | true =>
    cases e2:validS c t with
    | false =>
      (repeat (first | with_reducible_and_instances (first | refine WJ ?_ | refine W (gd_T e1) ?_ | refine W (gd_F e1) ?_ | refine W (gd_nT e1) ?_ | refine W (gd_nF e1) ?_ | refine W (gd_T e2) ?_ | refine W (gd_F e2) ?_ | refine W (gd_nT e2) ?_ | refine W (gd_nF e2) ?_ | refine W (J_ldq (by with_unfolding_all rfl)) ?_) | refine J_cI (at100 hc h hid s) rfl rfl ?_ | refine C_I (at100 hc h hid s) rfl rfl ?_ | refine J_cI (at100 hc h hid t) rfl rfl ?_ | refine C_I (at100 hc h hid t) rfl rfl ?_))
      exact ⟨by rw [Bool.false_and,Bool.and_false],rfl⟩
    | true =>
      (repeat (first | with_reducible_and_instances (first | refine WJ ?_ | refine W (J_nil) ?_ | refine W (J_pl h) ?_ | refine W (J_ldp h (by with_unfolding_all rfl) (by with_unfolding_all rfl)) ?_ | refine W (J_shr h4) ?_ | refine W (gd_T e1) ?_ | refine W (gd_F e1) ?_ | refine W (gd_nT e1) ?_ | refine W (gd_nF e1) ?_ | refine W (gd_T e2) ?_ | refine W (gd_F e2) ?_ | refine W (gd_nT e2) ?_ | refine W (gd_nF e2) ?_ | refine W (J_ldq (by with_unfolding_all rfl)) ?_) | refine J_cI (at100 hc h hid s) rfl rfl ?_ | refine C_I (at100 hc h hid s) rfl rfl ?_ | refine J_cI (at100 hc h hid t) rfl rfl ?_ | refine C_I (at100 hc h hid t) rfl rfl ?_ | refine J_cA (ans172 hc.ok s) rfl rfl ?_ | refine C_A (ans172 hc.ok s) rfl rfl ?_))
      exact ⟨by rw [Bool.true_and,Bool.true_and],rfl⟩
theorem ans138 (tk s a:Int) (ss:List Int) (ks:List Tn) (j:Int):Ans Tryz.prog 138 [(Tn.mk tk s a ss ks).av,aI j] (aB (decide (tk = j) && decide (a = 0 ∧ ss.length = 0))):=by
  intro S
  refine ACalls.ans_v (calls138 ?_)
  unfold m138
  rw [Tn.av,Tn.row_mk]
  refine boxA_of rfl fun S1 k1 n1 o1=>?_
  rw [shift_p,ld1_p o1 rfl rfl,bin_eql,onB_v]
  refine gd_of (fun h=>?_) (fun h=>⟨by rw [h,Bool.false_and],k1⟩)
  rw [h,Bool.true_and,shift_p,ld1_p o1 rfl rfl,bin_eql,onB_v]
  refine gd_of (fun h=>?_) (fun h=>⟨?_,k1⟩)
  · have h1:=of_decide_eq_true h
    rw [shift_p,ld1_p o1 rfl rfl,lenS_aL,bin_eql]
    exact ⟨by rw [nil_len]; congr 3; exact decide_eq_decide.2 ⟨fun h=>⟨h1,h⟩,fun h=>h.2⟩,k1⟩
  · have h1:=of_decide_eq_false h
    rw [decide_eq_false (fun h=>by omega)]
theorem ans136 (tk s a:Int) (ss:List Int) (ks:List Tn) (j:Int):Ans Tryz.prog 136 [(Tn.mk tk s a ss ks).av,aI j] (aB (leafB j tk a ss ks)):=by
  intro S
  refine ACalls.ans_v (calls136 ?_)
  unfold m136 leafB
  have cb:=ans138 tk s a ss ks j
  rw [Tn.av,Tn.row_mk] at cb ⊢
  refine boxA_of rfl fun S1 k1 n1 o1=>?_
  rw [ldN_p (n:=5) o1 rfl]
  refine callF_ans cb ?_
  rw [onB_v]
  refine gd_of (fun h=>?_) (fun h=>⟨?_,k1⟩)
  · rw [shift_p,ld1_p o1 rfl rfl,lenS_tnL,bin_eql]
    simp only [Bool.and_eq_true,decide_eq_true_eq] at h
    exact ⟨by rw [nil_len,decide_eq_true h.1,Bool.true_and]; congr 3; exact decide_eq_decide.2 ⟨fun h3=>⟨h.2.1,h.2.2,h3⟩,fun h=>h.2.2⟩,k1⟩
  · cases e:decide (tk = j) with
    | false=>rw [Bool.false_and]
    | true =>
      rw [e,Bool.true_and] at h
      have:=of_decide_eq_false h
      rw [decide_eq_false (fun h=>this ⟨h.1,h.2.1⟩)]; rfl
theorem fo2_row {S:Store} {n:Nat}:∀ (k:Nat) (u u2:AV),[aI 2,.v (.string ByteArray.empty),aI 0,AV.nl][k]? = some u → fo2.row[k]? = some u2 → Cv S n u u2:=fun k u u2 e1 e2=>by
  rw [Fo.row_mk] at e2
  match k with
  | 0=>cases e1; cases e2; exact .v _
  | 1=>cases e1; cases e2; exact .v _
  | 2=>cases e1; cases e2; exact .v _
  | 3=>cases e1; cases e2; exact .nl
  | k + 4=>simp at e1
theorem fo2_cv {f:FuncId} {k:Int} {r:AV} (h:Ans Tryz.prog f [aI k,foL [fo2]] r) (S:Store):AnsAt Tryz.prog f [aI k,.l [[aI 2,.v (.string ByteArray.empty),aI 0,.nl]]] S r:=by
  refine ansAt_cv (args2:=[aI k,foL [fo2]]) rfl (fun j u u2 e1 e2=>?_) (h S)
  match j with
  | 0=>cases e1; cases e2; exact .v _
  | 1 =>
    cases e1; cases e2
    refine .l _ _ rfl (fun i c c2 h1 h2=>?_) (fun i c c2 k u u2 h1 h2 h3 h4=>?_)
    · match i with
      | 0=>cases h1; cases h2; rw [Fo.row_len]; rfl
      | i + 1=>simp at h1
    · match i with
      | 0=>cases h1; cases h2; exact fo2_row k u u2 h3 h4
      | i + 1=>simp at h1
  | j + 2=>simp at e1
theorem ans142:Ans Tryz.prog 142 [] foG.av:=by
  intro S
  refine ACalls.tree (calls142 ?_)
  unfold m142
  refine boxA_of rfl fun S1 k1 n1 o1=>?_
  rw [bld_of (cs:=[aI 2,.v (.string ByteArray.empty),aI 0,.nl]) rfl]
  refine bslA4 rfl ?_
  refine callF_at (fo2_cv (fun S=>ans74 13 [fo2] S) S1) ?_
  refine stA_of o1 (Fo.row_len _) rfl fun S2 n2 o2 f2=>?_
  rw [ldN_p (n:=4) o2 (Fo.row_len _)]
  exact ⟨_,rfl,k1.st (Nat.le_refl _) n2 f2,Fo.tr _ _ _⟩
def seqR (a b:Int × Bool):Int × Bool:=if a.2 = true ∧ b.2 = true then (IntKind.i64.wrap (a.1 + b.1),true) else (0,false)
noncomputable def rat (c:Ci) (t:Tn) (f:Fo) (s:Int):Int × Bool:=if t.st = s then t.acc c f else (0,false)
theorem wrap_rng {n:Int} (h:i64R n):IntKind.i64.wrap n = n:=wrap64 h.1 h.2
theorem accs_no (c:Ci):∀ (ts:List Tn) (fs:List Fo) (ss:List Int) (n:Int),(Tn.accs c ts fs ss n).2 = false → Tn.accs c ts fs ss n = (0,false):=by
  intro ts
  induction ts with
  | nil =>
    intro fs ss n h
    cases fs <;> cases ss <;> first | (simp [Tn.accs] at h; done) | (simp [Tn.accs])
  | cons t ts ih =>
    intro fs ss n h
    cases fs with
    | nil=>cases ss <;> simp [Tn.accs]
    | cons f fs =>
      cases ss with
      | nil=>simp [Tn.accs]
      | cons s ss =>
        rw [accs_cons] at h ⊢
        split at h
        · rename_i hq
          rw [if_pos hq]
          exact ih fs ss _ h
        · rename_i hq
          rw [if_neg hq]
theorem accs_rng (c:Ci):∀ (ts:List Tn) (fs:List Fo) (ss:List Int) {n:Int},i64R n → i64R (Tn.accs c ts fs ss n).1:=by
  have z:i64R 0:=⟨by decide,by decide⟩
  intro ts
  induction ts with
  | nil =>
    intro fs ss n h
    cases fs <;> cases ss <;> simp [Tn.accs] <;> first | exact h | exact z
  | cons t ts ih =>
    intro fs ss n h
    cases fs with
    | nil=>cases ss <;> simp [Tn.accs] <;> exact z
    | cons f fs =>
      cases ss with
      | nil=>simp [Tn.accs]; exact z
      | cons s ss =>
        rw [accs_cons]
        split
        · exact ih fs ss (wrapR _)
        · exact z
theorem accs_from (c:Ci) (ts:List Tn) (fs:List Fo) (ss:List Int) {n:Int} (hn:i64R n):Tn.accs c ts fs ss n = seqR (n,true) (Tn.accs c ts fs ss 0):=by
  obtain ⟨h1,h2⟩:=accs_on c ts fs ss n 0
  unfold seqR
  cases e:(Tn.accs c ts fs ss n).2 with
  | false=>rw [← h1,e,accs_no _ _ _ _ _ e,if_neg (by simp)]
  | true =>
    have h3:=h2 e
    rw [Int.zero_add,wrap_rng (accs_rng c ts fs ss hn)] at h3
    rw [← h1,e,if_pos ⟨rfl,rfl⟩,← h3,← e]
theorem accs_seq {c:Ci} {t:Tn} {ts:List Tn} {f:Fo} {fs:List Fo} {s:Int} {ss:List Int}:Tn.accs c (t :: ts) (f :: fs) (s :: ss) 0 = seqR (rat c t f s) (Tn.accs c ts fs ss 0):=by
  rw [accs_cons,rat]
  by_cases h:t.st = s
  · rw [if_pos h,decide_eq_true h,Bool.and_true]
    split
    · rename_i h2
      rw [Int.zero_add,accs_from _ _ _ _ (wrapR _)]
      unfold seqR
      rw [h2]
      split
      · show (IntKind.i64.wrap (IntKind.i64.wrap _ + _),true) = _
        rw [wrap_wrap]
      · rfl
    · rename_i h2
      unfold seqR
      rw [if_neg (fun hq=>h2 hq.1)]
  · rw [if_neg h,decide_eq_false h,Bool.and_false,if_neg (by decide)]
    unfold seqR
    rw [if_neg (by simp)]
theorem accs_none {c:Ci}:Tn.accs c [] [] [] 0 = (0,true):=by rw [Tn.accs]
theorem seq_none {c:Ci} {t:Tn} {f:Fo} {s:Int}:Tn.accs c [t] [f] [s] 0 = seqR (rat c t f s) (0,true):=by rw [accs_seq,accs_none]
theorem seq_assoc (a b d:Int × Bool):seqR (seqR a b) d = seqR a (seqR b d):=by
  unfold seqR
  cases a.2 <;> cases b.2 <;> cases d.2 <;> simp
  rw [wrap_wrap,wrap_wrap',Int.add_assoc]
theorem accs_app (c:Ci):∀ (ts:List Tn) (fs:List Fo) (ss:List Int) (ts2:List Tn) (fs2:List Fo) (ss2:List Int),fs.length = ts.length → ss.length = ts.length → Tn.accs c (ts ++ ts2) (fs ++ fs2) (ss ++ ss2) 0 = seqR (Tn.accs c ts fs ss 0) (Tn.accs c ts2 fs2 ss2 0):=by
  intro ts
  induction ts with
  | nil =>
    intro fs ss ts2 fs2 ss2 h1 h2
    obtain rfl:=List.eq_nil_of_length_eq_zero h1
    obtain rfl:=List.eq_nil_of_length_eq_zero h2
    rw [accs_none,List.nil_append,List.nil_append,List.nil_append]
    exact accs_from c ts2 fs2 ss2 ⟨by decide,by decide⟩
  | cons t ts ih =>
    intro fs ss ts2 fs2 ss2 h1 h2
    match fs,ss,h1,h2 with
    | f :: fs,s :: ss,h1,h2 =>
      rw [List.cons_append,List.cons_append,List.cons_append,accs_seq,accs_seq,ih fs ss ts2 fs2 ss2 (by simpa using h1) (by simpa using h2),seq_assoc]
def PlR (c:Ci) (id:Nat) (S:Store) (n:Int) (r:Int × Bool) (e:AEnd) (S':Store):Prop :=
  ∃ n',e = .ret (aB r.2) ∧ i64R n' ∧ (r.2 = true → n' = IntKind.i64.wrap (n + r.1)) ∧ S.n ≤ S'.n ∧ S'.obj id = some (plO c n') ∧ ∀ x,x < S.n → x ≠ id → S'.obj x = S.obj x
theorem PlR.up {c:Ci} {id:Nat} {S S2 S':Store} {n:Int} {r:Int × Bool} {e:AEnd} (k:Keep S S2) (h:PlR c id S2 n r e S'):PlR c id S n r e S':=by
  obtain ⟨n',h1,h2,h3,h4,h5,h6⟩:=h
  exact ⟨n',h1,h2,h3,by have:=k.1; omega,h5,fun x hx hne=>(h6 x (by have:=k.1; omega) hne).trans (k.2 x hx)⟩
theorem PlR.same {c:Ci} {id:Nat} {S S':Store} {n:Int} {b:Bool} (k:Keep S S') (ho:S'.obj id = some (plO c n)) (hn:i64R n):PlR c id S n (0,b) (.ret (aB b)) S' :=
  ⟨n,rfl,hn,fun _=>by rw [Int.add_zero,wrap_rng hn],k.1,ho,fun x hx _=>k.2 x hx⟩
theorem PlR.seq {c:Ci} {id:Nat} {S S1 S2:Store} {n:Int} {n1:Int} {a b:Int × Bool} {e:AEnd} (ha:a.2 = true) (h1:n1 = IntKind.i64.wrap (n + a.1)) (hn:S.n ≤ S1.n) (ho:∀ x,x < S.n → x ≠ id → S1.obj x = S.obj x) (h:PlR c id S1 n1 b e S2):PlR c id S n (seqR a b) e S2:=by
  obtain ⟨n',e1,e2,e3,e4,e5,e6⟩:=h
  refine ⟨n',?_,e2,fun hq=>?_,by omega,e5,fun x hx hne=>(e6 x (by omega) hne).trans (ho x hx hne)⟩
  · rw [e1]
    unfold seqR
    cases hb:b.2 with
    | true=>rw [if_pos ⟨ha,rfl⟩]
    | false=>rw [if_neg (by simp)]
  · unfold seqR at hq ⊢
    split at hq
    · rename_i h2
      rw [if_pos h2,e3 h2.2,h1]
      show IntKind.i64.wrap (IntKind.i64.wrap (n + a.1) + b.1) = IntKind.i64.wrap (n + IntKind.i64.wrap (a.1 + b.1))
      rw [wrap_wrap,wrap_wrap',Int.add_assoc]
    · cases hq
theorem PlR.seqF {c:Ci} {id:Nat} {S S1:Store} {n n1:Int} {a b:Int × Bool} (ha:a.2 = false) (h1:i64R n1) (hn:S.n ≤ S1.n) (ho:S1.obj id = some (plO c n1)) (hk:∀ x,x < S.n → x ≠ id → S1.obj x = S.obj x):PlR c id S n (seqR a b) (.ret (aB false)) S1:=by
  have:seqR a b = (0,false):=by unfold seqR; rw [if_neg (by simp [ha])]
  rw [this]
  exact ⟨n1,rfl,h1,(fun h=>by cases h),hn,ho,hk⟩
theorem callF_pl {P:Program} {f:FuncId} {args:List AV} {c:Ci} {id:Nat} {S:Store} {n:Int} {r:Int × Bool} (h:ACalls P f args S (PlR c id S n r)) {Q:AEnd → Store → Prop} {K:AV → Store → Prop}
    (k:∀ n' S',i64R n' → (r.2 = true → n' = IntKind.i64.wrap (n + r.1)) → S.n ≤ S'.n → S'.obj id = some (plO c n') → (∀ x,x < S.n → x ≠ id → S'.obj x = S.obj x) → K (aB r.2) S'):callF P f args S Q K :=
  .inl (h.mono fun e S' ⟨n',he,h1,h2,h3,h4,h5⟩=>by subst he; exact k n' S' h1 h2 h3 h4 h5)
theorem callF_pr {P:Program} {f:FuncId} {args:List AV} {c:Ci} {id:Nat} {S:Store} {n:Int} {r:Int × Bool} (h:ACalls P f args S (PlR c id S n r)) {Q:AEnd → Store → Prop} {K:AV → Store → Prop}
    (k:∀ S',PlR c id S n r (.ret (aB r.2)) S' → K (aB r.2) S'):callF P f args S Q K :=
  .inl (h.mono fun e S' hp=>by
    have hp':=hp
    obtain ⟨n',he,_⟩:=hp
    subst he
    exact k S' hp')
theorem callV_pr {P:Program} {f:FuncId} {fs args cs:List AV} {c:Ci} {id:Nat} {S:Store} {n:Int} {r:Int × Bool} (h:ACalls P f (fs ++ args ++ cs) S (PlR c id S n r)) {K X:AV → Store → Prop}
    (k:∀ S',PlR c id S n r (.ret (aB r.2)) S' → K (aB r.2) S'):callV P (.f (.func f) fs cs) args S K X :=
  .inl (h.mono fun e S' hp=>by
    have hp':=hp
    obtain ⟨n',he,_⟩:=hp
    subst he
    exact k S' hp')
def HK (c:Ci) (id:Nat) (t:Tn):Prop:=∀ f,Pu f → ∀ (S:Store) (n:Int),S.obj id = some (plO c n) → id < S.n → i64R n → ACalls Tryz.prog 54 [.p id 0 0,f.av,t.av] S (PlR c id S n (t.acc c f))
theorem pl139 {c:Ci} {id:Nat} {t:Tn} (ht:HK c id t) {f:Fo} (hf:Pu f) {S:Store} {n:Int} (h:S.obj id = some (plO c n)) (hid:id < S.n) (hn:i64R n) (s:Int) :
    ACalls Tryz.prog 139 [.p id 0 0,aI s,f.av,t.av] S (PlR c id S n (rat c t f s)):=by
  refine calls139 ?_
  unfold m139
  have h1:t.row[1]? = some (aI t.st):=Tn.row1 t
  refine boxA_of (Fo.row_len f) fun S1 k1 n1 o1=>?_
  refine boxA_of (Tn.row_len t) fun S2 k2 n2 o2=>?_
  have kk:=k1.trans k2
  have p1:=(k2.2 _ (by omega)).trans o1
  have q:=(kk.2 _ hid).trans h
  rw [shift_p,Nat.zero_add,ld1_p o2 rfl h1,bin_eql,onB_v]
  unfold rat
  refine gd_of (fun e=>?_) (fun e=>?_)
  · rw [if_pos (of_decide_eq_true e),ldN_p (n:=4) p1 (Fo.row_len f),ldN_p (n:=5) o2 (Tn.row_len t)]
    exact callF_pr (ht f hf S2 n q (by omega) hn) fun S' hp=>hp.up kk
  · rw [if_neg (of_decide_eq_false e)]
    exact PlR.same kk q hn
set_option linter.unusedSectionVars false
theorem LJ_T0 {e:Nat} {t:Tn} {l:List Tn} {S0:Store} {P:AV → Prop}:(∃ q,(∀ T,Keep S0 T → ixS e 5 (tnL (t :: l)) (.v (.int .i64 0)) T fun v S=>v = q ∧ S = T) ∧ P q) = P (.q t.row 0):=LJ_of (op:=fun T K=>ixS e 5 (tnL (t :: l)) (.v (.int .i64 0)) T K) fun T hT K=>ixT0
theorem LJ_Ti {e i:Nat} {l:List Tn} (h:i < l.length) {S0:Store} {P:AV → Prop}:(∃ q,(∀ T,Keep S0 T → ixS e 5 (tnL l) (aI i) T fun v S=>v = q ∧ S = T) ∧ P q) = P (.q l[i].row 0):=LJ_of (op:=fun T K=>ixS e 5 (tnL l) (aI i) T K) fun T hT K=>ixS_tnL h
theorem LJ_T1 {e:Nat} {t t1:Tn} {l:List Tn} {S0:Store} {P:AV → Prop}:(∃ q,(∀ T,Keep S0 T → ixS e 5 (tnL (t :: t1 :: l)) (.v (.int .i64 1)) T fun v S=>v = q ∧ S = T) ∧ P q) = P (.q t1.row 0):=LJ_Ti (i:=1) (l:=t :: t1 :: l) (by simp)
theorem LJ_lenT {l:List Tn} {S0:Store} {P:AV → Prop}:(∃ q,(∀ T,Keep S0 T → lenS (tnL l) T fun v S=>v = q ∧ S = T) ∧ P q) = P (aI l.length):=LJ_of (op:=fun T K=>lenS (tnL l) T K) fun T hT K=>lenS_tnL l
theorem PlR.one {c:Ci} {id:Nat} {S S':Store} {n:Int} {r:Int × Bool} {e:AEnd} (h:PlR c id S n r e S'):PlR c id S n (seqR r (0,true)) e S':=by
  obtain ⟨n',h1,h2,h3,h4⟩:=h
  unfold seqR
  cases hr:r.2 with
  | false=>exact ⟨n',by rw [h1,hr,if_neg (by simp)],h2,(fun h=>by simp at h),h4⟩
  | true=>exact ⟨n',by rw [h1,hr,if_pos ⟨rfl,rfl⟩],h2,(fun _=>by rw [if_pos ⟨rfl,rfl⟩]; show n' = IntKind.i64.wrap (n + IntKind.i64.wrap (r.1 + 0)); rw [wrap_wrap',Int.add_zero]; exact h3 hr),h4⟩
section
variable {c:Ci} (hc:Cs c) {id:Nat} {ks:List Tn} (hk:∀ t ∈ ks,HK c id t) (hkl:ks.length ≤ 1000000) {ss:List Int} (hs:ss.length ≤ 1000000) (tk s a:Int) {S:Store} {n:Int} (h:S.obj id = some (plO c n)) (hid:id < S.n) (hn:i64R n)
include hc hk hkl hs h hid hn
theorem pl89 (f:Fo):ACalls Tryz.prog 89 [.p id 0 0,f.av,(Tn.mk tk s a ss ks).av] S (PlR c id S n (0,leafB 1 tk a ss ks)):=by
  refine calls89 ?_
  unfold m89
  have cl:=ans136 tk s a ss ks 1
  rw [Tn.av,Tn.row_mk] at cl ⊢
  refine boxA_of (Fo.row_len f) fun S1 k1 n1 o1=>?_
  refine boxA_of rfl fun S2 k2 n2 o2=>?_
  have kk:=k1.trans k2
  rw [ldN_p (n:=5) o2 rfl]
  exact callF_ans cl (PlR.same kk ((kk.2 _ hid).trans h) hn)
theorem pl90 (k:Int) (nm:ByteArray) {l:Int} (hl:i64R l) (fs:List Fo):ACalls Tryz.prog 90 [.p id 0 0,(Fo.mk k nm l fs).av,(Tn.mk tk s a ss ks).av] S (PlR c id S n (0,leafB 1 tk a ss ks && isB c s l)):=by
  refine calls90 ?_
  unfold m90
  have cl:=ans136 tk s a ss ks 1
  rw [Tn.av,Tn.row_mk] at cl ⊢
  rw [Fo.av,Fo.row_mk]
  refine boxA_of rfl fun S1 k1 n1 o1=>?_
  refine boxA_of rfl fun S2 k2 n2 o2=>?_
  have kk:=k1.trans k2
  have p1:=(k2.2 _ (by omega)).trans o1
  have q:=(kk.2 _ hid).trans h
  rw [ldN_p (n:=5) o2 rfl]
  refine callF_ans cl ?_
  rw [onB_v]
  refine gd_of (fun e=>?_) (fun e=>?_)
  · rw [e,Bool.true_and,shift_p,ld1_p o2 rfl rfl,shift_p,ld1_p p1 rfl rfl]
    exact callF_at (at137 hc.ok q s hl) (PlR.same kk q hn)
  · rw [e,Bool.false_and]
    exact PlR.same kk q hn
theorem pl91 (k l2:Int) (nm n2:ByteArray) {l:Int} (hl:i64R l) (fs:List Fo):ACalls Tryz.prog 91 [.p id 0 0,(Fo.mk k nm l2 [.mk 3 n2 l fs]).av,(Tn.mk tk s a ss ks).av] S (PlR c id S n (0,leafB 1 tk a ss ks && !isB c s l)):=by
  refine calls91 ?_
  unfold m91
  have cl:=ans136 tk s a ss ks 1
  rw [Tn.av,Tn.row_mk] at cl ⊢
  rw [Fo.av,Fo.row_mk]
  have r2:(Fo.mk 3 n2 l fs).row[2]? = some (aI l):=by rw [Fo.row_mk]; rfl
  refine boxA_of rfl fun S1 k1 n1 o1=>?_
  refine boxA_of rfl fun S2 k2 n2 o2=>?_
  have kk:=k1.trans k2
  have p1:=(k2.2 _ (by omega)).trans o1
  have q:=(kk.2 _ hid).trans h
  show ∃ q:AV,_
  cases e:leafB 1 tk a ss ks with
  | false =>
    rw [e] at cl
    (repeat (first | with_reducible_and_instances (first | refine WJ ?_ | refine W (J_ldN (n:=5) o2 (by with_unfolding_all rfl)) ?_ | refine W (gd_T e) ?_ | refine W (gd_F e) ?_ | refine W (gd_nT e) ?_ | refine W (gd_nF e) ?_ | refine W (J_ldq (by with_unfolding_all rfl)) ?_) | refine J_cA (cl) rfl rfl ?_ | refine C_A (cl) rfl rfl ?_))
    rw [Bool.false_and]
    exact PlR.same kk q hn
  | true =>
    rw [e] at cl
    (repeat (first | with_reducible_and_instances (first | refine WJ ?_ | refine W (J_ldN (n:=5) o2 (by with_unfolding_all rfl)) ?_ | refine W (J_ldp o2 (by with_unfolding_all rfl) (by with_unfolding_all rfl)) ?_ | refine W (J_ldp p1 (by with_unfolding_all rfl) (by with_unfolding_all rfl)) ?_ | refine W (J_F0) ?_ | refine W (J_ldq r2) ?_ | refine W (gd_T e) ?_ | refine W (gd_F e) ?_ | refine W (gd_nT e) ?_ | refine W (gd_nF e) ?_ | refine W (J_ldq (by with_unfolding_all rfl)) ?_) | refine J_cA (cl) rfl rfl ?_ | refine C_A (cl) rfl rfl ?_ | refine J_cI (at137 hc.ok q s hl) rfl rfl ?_ | refine C_I (at137 hc.ok q s hl) rfl rfl ?_))
    rw [Bool.true_and]
    exact PlR.same kk q hn
theorem pl92 {f g:Fo} (hf:Pu f) (hg:Pu g) (k l:Int) (nm:ByteArray):ACalls Tryz.prog 92 [.p id 0 0,(Fo.mk k nm l [f,g]).av,(Tn.mk tk s a ss ks).av] S (PlR c id S n (if tk = 2 ∧ a = 0 ∧ ss = [] then Tn.accs c ks [f,g] [s,s] 0 else (0,false))):=by
  refine calls92 ?_
  unfold m92
  have cb:=ans138 tk s a ss ks 2
  rw [Tn.av,Tn.row_mk] at cb ⊢
  rw [Fo.av,Fo.row_mk]
  refine boxA_of rfl fun S1 k1 n1 o1=>?_
  refine boxA_of rfl fun S2 k2 n2 o2=>?_
  have kk:=k1.trans k2
  have p1:=(k2.2 _ (by omega)).trans o1
  have q:=(kk.2 _ hid).trans h
  show ∃ q:AV,_
  by_cases e1:¬ (tk = 2 ∧ a = 0 ∧ ss.length = 0)
  · rw [show (decide (tk = 2) && decide (a = 0 ∧ ss.length = 0)) = false by rw [← Bool.decide_and]; exact decide_eq_false e1] at cb
    (repeat (first | with_reducible_and_instances (first | refine WJ ?_ | refine W (LJ_ldN (n:=5) o2 (by omega) (by with_unfolding_all rfl)) ?_ | refine W (J_ldq (by with_unfolding_all rfl)) ?_) | refine J_cA (cb) rfl rfl ?_ | refine C_A (cb) rfl rfl ?_ | refine L_cA (cb) rfl rfl ?_))
    rw [if_neg (fun hq=>e1 ⟨hq.1,hq.2.1,by rw [hq.2.2]; rfl⟩)]
    exact PlR.same kk q hn
  have e1:=Decidable.not_not.1 e1
  rw [show (decide (tk = 2) && decide (a = 0 ∧ ss.length = 0)) = true by rw [← Bool.decide_and]; exact decide_eq_true e1] at cb
  rw [if_pos ⟨e1.1,e1.2.1,List.eq_nil_of_length_eq_zero e1.2.2⟩]
  (repeat (first | with_reducible_and_instances (first | refine WJ ?_ | refine W (LJ_ldN (n:=5) o2 (by omega) (by with_unfolding_all rfl)) ?_ | refine W (LJ_ldp o2 (by omega) (by with_unfolding_all rfl) (by with_unfolding_all rfl)) ?_ | refine W (LJ_lenT) ?_ | refine W (J_ldq (by with_unfolding_all rfl)) ?_) | refine J_cA (cb) rfl rfl ?_ | refine C_A (cb) rfl rfl ?_ | refine L_cA (cb) rfl rfl ?_))
  by_cases e2:¬ ks.length = 2
  · rw [show decide ((ks.length:Int) = 2) = false from decide_eq_false (by omega)]
    (repeat (first | with_reducible_and_instances (first | refine WJ ?_ | refine W (J_ldq (by with_unfolding_all rfl)) ?_)))
    rw [accs_len c ks _ _ _ (fun hq=>e2 (by have:=hq.1; simpa using this.symm))]
    exact PlR.same kk q hn
  have e2:=Decidable.not_not.1 e2
  rw [show decide ((ks.length:Int) = 2) = true from decide_eq_true (by omega)]
  obtain ⟨t0,t1,rfl⟩:∃ t0 t1,ks = [t0,t1]:=by
    match ks,e2 with
    | [t0,t1],_=>exact ⟨t0,t1,rfl⟩
  rw [accs_seq,seq_none]
  (repeat (first | with_reducible_and_instances (first | refine WJ ?_ | refine W (LJ_ldp o2 (by omega) (by with_unfolding_all rfl) (by with_unfolding_all rfl)) ?_ | refine W (LJ_ldp p1 (by omega) (by with_unfolding_all rfl) (by with_unfolding_all rfl)) ?_ | refine W (LJ_F0) ?_ | refine W (LJ_T0) ?_ | refine W (LJ_ldNq (Fo.row_len _)) ?_ | refine W (LJ_ldNq (Tn.row_len _)) ?_ | refine W (J_ldq (by with_unfolding_all rfl)) ?_)))
  refine callF_pl (pl139 (hk t0 (by simp)) hf q (by omega) hn s) fun m S3 hm h1 hn3 q3 f3=>?_
  have o3:=(f3 _ (by omega) (by omega)).trans o2
  have p3:=(f3 _ (by omega) (by omega)).trans p1
  have kk3:∀ x,x < S.n → x ≠ id → S3.obj x = S.obj x:=fun x hx hne=>(f3 x (by have:=kk.1; omega) hne).trans (kk.2 x hx)
  cases e3:(rat c t0 f s).2 with
  | false =>
    (repeat (first | with_reducible_and_instances (first | refine WJ ?_ | refine W (J_ldq (by with_unfolding_all rfl)) ?_)))
    exact PlR.seqF e3 hm (by omega) q3 kk3
  | true =>
    (repeat (first | with_reducible_and_instances (first | refine WJ ?_ | refine W (LJ_ldp o3 (by omega) (by with_unfolding_all rfl) (by with_unfolding_all rfl)) ?_ | refine W (LJ_ldp p3 (by omega) (by with_unfolding_all rfl) (by with_unfolding_all rfl)) ?_ | refine W (LJ_F1) ?_ | refine W (LJ_T1) ?_ | refine W (LJ_ldNq (Fo.row_len _)) ?_ | refine W (LJ_ldNq (Tn.row_len _)) ?_ | refine W (J_ldq (by with_unfolding_all rfl)) ?_)))
    refine callF_pr (pl139 (hk t1 (by simp)) hg q3 (by omega) hm s) fun S4 hp=>?_
    (repeat (first | with_reducible_and_instances (first | refine WJ ?_ | refine W (J_ldq (by with_unfolding_all rfl)) ?_)))
    exact PlR.seq e3 (h1 e3) (by omega) kk3 hp.one
theorem pl140 {f g:Fo} (hf:Pu f) (hg:Pu g):ACalls Tryz.prog 140 [.p id 0 0,(Tn.mk tk s a ss ks).av,foL [f,g]] S (PlR c id S n (if tk = 3 ∧ 0 ≤ a ∧ a ≤ 1 ∧ ss = [] then Tn.accs c ks [[f,g].getD a.toNat fo0] [s] 0 else (0,false))):=by
  refine calls140 ?_
  unfold m140
  rw [Tn.av,Tn.row_mk]
  refine boxA_of rfl fun S1 k1 n1 o1=>?_
  have q:=(k1.2 _ hid).trans h
  rw [shift_p,ld1_p o1 rfl rfl,bin_neq,onB_v]
  by_cases e1:¬ tk = 3
  · rw [decide_eq_false e1,if_neg (fun hq=>e1 hq.1)]
    exact PlR.same k1 q hn
  have e1:=Decidable.not_not.1 e1
  rw [decide_eq_true e1,gd_nT (b:=true) rfl,shift_p,ld1_p o1 rfl rfl,bin_lss,onB_v]
  by_cases e2:a < 0
  · rw [decide_eq_true e2,if_neg (fun hq=>by omega)]
    exact PlR.same k1 q hn
  rw [decide_eq_false e2,gd_false,shift_p,ld1_p o1 rfl rfl,bin_gtr,onB_v]
  by_cases e3:1 < a
  · rw [decide_eq_true e3,if_neg (fun hq=>by omega)]
    exact PlR.same k1 q hn
  rw [decide_eq_false e3,gd_false,shift_p,ld1_p o1 rfl rfl,lenS_aL,bin_gtr,onB_v]
  by_cases e4:¬ ss = []
  · rw [slen0 e4,if_neg (fun hq=>e4 hq.2.2.2)]
    exact PlR.same k1 q hn
  have e4:=Decidable.not_not.1 e4
  rw [show decide ((0:Int) < (ss.length:Int)) = false from decide_eq_false (by simp [e4]),gd_false,if_pos ⟨e1,by omega,by omega,e4⟩,shift_p,ld1_p o1 rfl rfl,lenS_tnL,bin_neq,onB_v]
  by_cases e5:¬ ks.length = 1
  · rw [show decide ((ks.length:Int) = 1) = false from decide_eq_false (by omega),accs_len c ks _ _ _ (fun hq=>e5 (by have:=hq.1; simpa using this.symm))]
    exact PlR.same k1 q hn
  have e5:=Decidable.not_not.1 e5
  rw [show decide ((ks.length:Int) = 1) = true from decide_eq_true (by omega),gd_nT (b:=true) rfl]
  obtain ⟨t0,rfl⟩:=List.length_eq_one_iff.1 e5
  obtain ⟨j,rfl⟩:=Int.eq_ofNat_of_zero_le (show 0 ≤ a by omega)
  have hj:j < [f,g].length:=by simp; omega
  rw [Int.toNat_natCast,List.getD_eq_getElem?_getD,List.getElem?_eq_getElem hj,Option.getD_some,seq_none]
  have hx:Pu [f,g][j]:=by
    match j,hj with
    | 0,_=>exact hf
    | 1,_=>exact hg
  show ∃ q:AV,_
  (repeat (first | with_reducible_and_instances (first | refine WJ ?_ | refine W (LJ_ldp o1 (by omega) (by with_unfolding_all rfl) (by with_unfolding_all rfl)) ?_ | refine W (LJ_Fi hj) ?_ | refine W (LJ_T0) ?_ | refine W (LJ_ldNq (Fo.row_len _)) ?_ | refine W (LJ_ldNq (Tn.row_len _)) ?_ | refine W (J_ldq (by with_unfolding_all rfl)) ?_)))
  exact callF_pr (pl139 (hk t0 (by simp)) hx q (by omega) hn s) fun S4 hp=>(hp.up k1).one
theorem pl93 {f g:Fo} (hf:Pu f) (hg:Pu g) (k l:Int) (nm:ByteArray):ACalls Tryz.prog 93 [.p id 0 0,(Fo.mk k nm l [f,g]).av,(Tn.mk tk s a ss ks).av] S (PlR c id S n (if tk = 3 ∧ 0 ≤ a ∧ a ≤ 1 ∧ ss = [] then Tn.accs c ks [[f,g].getD a.toNat fo0] [s] 0 else (0,false))):=by
  refine calls93 ?_
  unfold m93
  rw [Fo.av,Fo.row_mk]
  refine boxA_of rfl fun S1 k1 n1 o1=>?_
  refine boxA_of (Tn.row_len _) fun S2 k2 n2 o2=>?_
  have kk:=k1.trans k2
  have p1:=(k2.2 _ (by omega)).trans o1
  have q:=(kk.2 _ hid).trans h
  rw [ldN_p (n:=5) o2 (Tn.row_len _),shift_p,ld1_p p1 rfl rfl]
  exact callF_pr (pl140 hc hk hkl hs tk s a q (by omega) hn hf hg) fun S4 hp=>hp.up kk
end
set_option linter.unusedSectionVars false
noncomputable def wayB (c:Ci) (s:Int) (ss:List Int):Bool:=chainS c ss && decide (ss ≠ [] ∧ ss.getD 0 0 = s)
theorem at143 {c:Ci} (hc:Cs c) {id:Nat} {S:Store} {n:Int} (h:S.obj id = some (plO c n)) (hid:id < S.n) (tk s a:Int) {ss:List Int} (hs:ss.length ≤ 1000000) (ks:List Tn):AnsAt Tryz.prog 143 [.p id 0 0,(Tn.mk tk s a ss ks).av] S (aB (wayB c s ss)):=by
  refine ACalls.ans_v (calls143 ?_)
  unfold m143
  rw [Tn.av,Tn.row_mk]
  refine boxA_of rfl fun S1 k1 n1 o1=>?_
  have q:=(k1.2 _ hid).trans h
  rw [shift_p,ld1_p o1 rfl rfl,lenS_aL]
  refine loop143_0 (fun y S'=>S' = S1 ∧ ∃ i:Nat,y = aI i ∧ i ≤ ss.length ∧ ∀ m (h:m + 1 < ss.length),m + 1 < i → behindS c (ss[m]'(by omega)) ss[m + 1] = true) (fun y _=>ss.length - ((intA y).getD 0).toNat) ⟨rfl,0,rfl,Nat.zero_le _,fun m _ h=>by omega⟩ ?_
  rintro _ S1 ⟨rfl,i,rfl,hi,hch⟩ KE hKE
  unfold b143_0
  rw [bin_lss,onB_v]
  refine gd_of (fun hlt=>?_) (fun hge=>?_)
  · have hlt:i < ss.length:=by have:=of_decide_eq_true hlt; omega
    have hadd:∀ (T:Store) (K:AV → Store → Prop),bin .add 0 (aI i) (.v (.int .i64 1)) T K = K (aI (i + 1:Nat)) T:=fun T K=>bin_add (by omega) (by omega) 0
    rw [ixS_aL hlt,ld1_q,bin_gtr,onB_v]
    refine gd_of (fun h0=>?_) (fun h0=>?_)
    · have h0:=of_decide_eq_true h0
      obtain ⟨m,rfl⟩:∃ m,i = m + 1:=⟨i - 1,by omega⟩
      have hm:m < ss.length:=by omega
      rw [shift_p,ld1_p o1 rfl rfl,show ∀ K:AV → Store → Prop,bin .sub 0 (aI (m + 1:Nat)) (.v (.int .i64 1)) S1 K = K (aI m) S1 from fun K=>(bin_sub (by omega) (by omega) 0).trans (by rw [show (((m + 1:Nat):Nat):Int) - 1 = m by omega]),ixS_aL hm,ld1_q]
      refine callF_at (at141 hc q (by omega) ss[m] ss[m + 1]) ?_
      rw [un_not,onB_v]
      refine gd_of (fun hb=>⟨?_,k1⟩) (fun hb=>?_)
      · rw [wayB,chain_no hlt (by simpa using hb),Bool.false_and]
      · rw [hadd]
        refine hKE _ _ ⟨rfl,m + 2,rfl,hlt,fun m' hm' hi'=>?_⟩ (by simp [intA]; omega)
        by_cases e:m' = m
        · subst e; simpa using hb
        · exact hch m' hm' (by omega)
    · have h0:=of_decide_eq_false h0
      rw [hadd]
      exact hKE _ _ ⟨rfl,i + 1,rfl,hlt,fun m' hm' hi'=>by omega⟩ (by simp [intA]; omega)
  · have hge:i = ss.length:=by have:=of_decide_eq_false hge; omega
    subst hge
    rw [wayB,chain_yes fun m hm=>hch m hm hm,Bool.true_and]
    show ∃ q:AV,_
    (repeat (first | with_reducible_and_instances (first | refine WJ ?_ | refine W (J_ldp o1 (by with_unfolding_all rfl) (by with_unfolding_all rfl)) ?_ | refine W (J_ldq (by with_unfolding_all rfl)) ?_)))
    cases ss with
    | nil =>
      rw [show decide ((0:Int) < ((([]:List Int).length:Nat):Int)) = false from decide_eq_false (by simp)]
      (repeat (first | with_reducible_and_instances (first | refine WJ ?_ | refine W (J_ldq (by with_unfolding_all rfl)) ?_)))
      exact ⟨rfl,k1⟩
    | cons x sr =>
      rw [show decide ((0:Int) < (((x :: sr).length:Nat):Int)) = true from decide_eq_true (by rw [List.length_cons]; omega)]
      (repeat (first | with_reducible_and_instances (first | refine WJ ?_ | refine W (J_ldp o1 (by with_unfolding_all rfl) (by with_unfolding_all rfl)) ?_ | refine W (J_ix0) ?_ | refine W (J_ldq (by with_unfolding_all rfl)) ?_)))
      refine ⟨?_,k1⟩
      rw [show decide ((x :: sr) ≠ [] ∧ (x :: sr).getD 0 0 = s) = decide (x = s) from decide_eq_decide.2 ⟨fun h=>h.2,fun h=>⟨by simp,h⟩⟩]
theorem rat2 (c:Ci) (t:Tn) (f:Fo) (s:Int):(rat c t f s).2 = ((t.acc c f).2 && decide (t.st = s)) ∧ ((rat c t f s).2 = true → (rat c t f s).1 = (t.acc c f).1):=by
  unfold rat
  by_cases h:t.st = s
  · rw [if_pos h,decide_eq_true h,Bool.and_true]; exact ⟨rfl,fun _=>rfl⟩
  · rw [if_neg h,decide_eq_false h,Bool.and_false]; exact ⟨rfl,fun h=>by cases h⟩
theorem pl145 {c:Ci} {id:Nat} {ts:List Tn} (hk:∀ t ∈ ts,HK c id t) {ss:List Int} (hs:ss.length ≤ 1000000) (hl:ss.length ≤ ts.length) {f:Fo} (hf:Pu f) {S:Store} {n:Int} (h:S.obj id = some (plO c n)) (hid:id < S.n) (hn:i64R n) :
    ACalls Tryz.prog 145 [.p id 0 0,aL aI ss,f.av,tnL ts] S (PlR c id S n (Tn.accs c (ts.take ss.length) (List.replicate ss.length f) ss 0)):=by
  refine calls145 ?_
  unfold m145
  refine boxA_of (Fo.row_len f) fun S1 k1 n1 o1=>?_
  have q:=(k1.2 _ hid).trans h
  rw [lenS_aL]
  refine loop145_0 (fun y S'=>∃ (i:Nat) (m cur:Int),y = aI i ∧ i ≤ ss.length ∧ S1.n ≤ S'.n ∧ S'.obj id = some (plO c cur) ∧ i64R cur ∧ cur = IntKind.i64.wrap (n + m) ∧ (∀ x,x < S1.n → x ≠ id → S'.obj x = S1.obj x) ∧
      Tn.accs c (ts.take ss.length) (List.replicate ss.length f) ss 0 = Tn.accs c ((ts.take ss.length).drop i) (List.replicate (ss.length - i) f) (ss.drop i) m)
    (fun y _=>ss.length - ((intA y).getD 0).toNat) ⟨0,0,n,rfl,Nat.zero_le _,Nat.le_refl _,q,hn,by rw [Int.add_zero,wrap_rng hn],fun x _ _=>rfl,rfl⟩ ?_
  rintro _ S2 ⟨i,m,cur,rfl,hi,n2,q2,hcur,hm,f2,he⟩ KE hKE
  unfold b145_0
  have o2:=(f2 _ (by omega) (by omega)).trans o1
  have kk:∀ x,x < S.n → x ≠ id → S2.obj x = S.obj x:=fun x hx hne=>(f2 x (by omega) hne).trans (k1.2 x hx)
  rw [bin_lss,onB_v]
  refine gd_of (fun hlt=>?_) (fun hge=>?_)
  · have hlt:i < ss.length:=by have:=of_decide_eq_true hlt; omega
    have hit:i < ts.length:=by omega
    have hit2:i < (ts.take ss.length).length:=by simp; omega
    have hadd:∀ (T:Store) (K:AV → Store → Prop),bin .add 0 (aI i) (.v (.int .i64 1)) T K = K (aI (i + 1:Nat)) T:=fun T K=>bin_add (by omega) (by omega) 0
    have hti:(ts.take ss.length)[i] = ts[i]:=by simp
    rw [List.drop_eq_getElem_cons hit2,List.drop_eq_getElem_cons hlt,show ss.length - i = (ss.length - (i + 1)) + 1 by omega,List.replicate_succ,accs_cons,hti] at he
    rw [ixS_aL hlt,ld1_q]
    obtain ⟨r1,r2⟩:=rat2 c ts[i] f ss[i]
    rw [← r1] at he
    show ∃ q:AV,_
    (repeat (first | with_reducible_and_instances (first | refine WJ ?_ | refine W (LJ_ldN (n:=4) o2 (by omega) (Fo.row_len _)) ?_ | refine W (LJ_Ti hit) ?_ | refine W (LJ_ldNq (Tn.row_len _)) ?_ | refine W (J_ldq (by with_unfolding_all rfl)) ?_)))
    refine callF_pl (pl139 (hk _ (List.getElem_mem hit)) hf q2 (by omega) hcur ss[i]) fun m3 S3 hm3 h1 hn3 q3 f3=>?_
    have kk3:∀ x,x < S1.n → x ≠ id → S3.obj x = S1.obj x:=fun x hx hne=>(f3 x (by omega) hne).trans (f2 x hx hne)
    cases e3:(rat c ts[i] f ss[i]).2 with
    | false =>
      rw [e3,if_neg (by decide)] at he
      (repeat (first | with_reducible_and_instances (first | refine WJ ?_ | refine W (J_ldq (by with_unfolding_all rfl)) ?_)))
      rw [he]
      exact ⟨m3,rfl,hm3,(fun h=>by cases h),by have:=k1.1; omega,q3,fun x hx hne=>(kk3 x (by omega) hne).trans (k1.2 x hx)⟩
    | true =>
      rw [e3,if_pos rfl,← r2 e3] at he
      (repeat (first | with_reducible_and_instances (first | refine WJ ?_ | refine W (J_ldq (by with_unfolding_all rfl)) ?_)))
      rw [hadd]
      refine hKE _ _ ⟨i + 1,_,m3,rfl,hlt,by omega,q3,hm3,?_,kk3,he⟩ (by simp [intA]; omega)
      rw [h1 e3,hm,wrap_wrap,wrap_wrap',Int.add_assoc]
  · have hge:i = ss.length:=by have:=of_decide_eq_false hge; omega
    subst hge
    rw [List.drop_of_length_le (by simp; omega),List.drop_length,Nat.sub_self,List.replicate_zero,accs_nil] at he
    rw [he]
    exact ⟨cur,rfl,hcur,fun _=>hm,by have:=k1.1; omega,q2,kk⟩
set_option linter.unusedSectionVars false
theorem slc_take {l:List Int} {e n:Nat} (h:n ≤ l.length) {S:Store} {K:AV → Store → Prop}:slc e 1 (aL aI l) none (some (aI n)) none S K = K (aL aI (l.take n)) S:=by
  simp only [slc,aL,bnd,intA,optP_some,List.length_map,Int.sub_zero,Int.toNat_natCast,Int.toNat_zero,List.drop_zero,← List.map_take]
  apply propext
  constructor
  · rintro ⟨_,_,hK⟩
    exact hK
  · intro hK
    exact ⟨⟨by omega,by omega,by omega⟩,fun c hc=>by obtain ⟨x,_,rfl⟩:=List.mem_map.1 hc; rfl,hK⟩
theorem slc_drop {l:List Int} {e n:Nat} (h:n ≤ l.length) {S:Store} {K:AV → Store → Prop}:slc e 1 (aL aI l) (some (aI n)) none none S K = K (aL aI (l.drop n)) S:=by
  have ht:(((l.length:Nat):Int) - (n:Int)).toNat = l.length - n:=by omega
  simp only [slc,aL,bnd,intA,optP_some,List.length_map,Int.toNat_natCast,ht]
  have h2:((l.map fun x=>[aI x]).drop n).take (l.length - n) = (l.drop n).map fun x=>[aI x]:=by
    rw [← List.map_drop,List.take_of_length_le (by simp)]
  rw [h2]
  apply propext
  constructor
  · rintro ⟨_,_,hK⟩
    exact hK
  · intro hK
    exact ⟨⟨by omega,by omega,by omega⟩,fun c hc=>by obtain ⟨x,_,rfl⟩:=List.mem_map.1 hc; rfl,hK⟩
theorem way_true {c:Ci} {s:Int} {ss:List Int} (h:wayB c s ss = true):chainS c ss = true ∧ ss ≠ [] ∧ ss.getD 0 0 = s:=by
  unfold wayB at h
  rw [Bool.and_eq_true,decide_eq_true_eq] at h
  exact h
theorem way_false {c:Ci} {s:Int} {ss:List Int} (h:wayB c s ss = false):¬ (ss ≠ [] ∧ ss.getD 0 0 = s ∧ chainS c ss = true):=fun hq=>by
  unfold wayB at h
  rw [hq.2.2,Bool.true_and] at h
  exact of_decide_eq_false h ⟨hq.1,hq.2.1⟩
section
variable {c:Ci} (hc:Cs c) {id:Nat} {ks:List Tn} (hk:∀ t ∈ ks,HK c id t) (hkl:ks.length ≤ 1000000) {ss:List Int} (hs:ss.length ≤ 1000000) (tk s a:Int) {S:Store} {n:Int} (h:S.obj id = some (plO c n)) (hid:id < S.n) (hn:i64R n)
include hc hk hkl hs h hid hn
theorem pl97 {f g:Fo} (hf:Pu f) (hg:Pu g) (k l:Int) (nm:ByteArray):ACalls Tryz.prog 97 [.p id 0 0,(Fo.mk k nm l [f,g]).av,(Tn.mk tk s a ss ks).av] S (PlR c id S n (pathR c f g tk s a ss ks)):=by
  refine calls97 ?_
  unfold m97 pathR
  rw [Fo.av,Fo.row_mk,Tn.av,Tn.row_mk]
  refine boxA_of rfl fun S1 k1 n1 o1=>?_
  refine boxA_of rfl fun S2 k2 n2 o2=>?_
  have kk:=k1.trans k2
  have p1:=(k2.2 _ (by omega)).trans o1
  have q:=(kk.2 _ hid).trans h
  have cw:=at143 hc q (by omega) tk s a hs ks
  rw [Tn.av,Tn.row_mk] at cw
  rw [shift_p,ld1_p o2 rfl rfl,lenS_aL,bin_sub (by omega) (by omega),shift_p,ld1_p o2 rfl rfl,bin_neq,onB_v]
  by_cases e1:¬ tk = 5
  · rw [decide_eq_false e1,if_neg (fun hq=>e1 hq.2.2.2.1)]
    exact PlR.same kk q hn
  have e1:=Decidable.not_not.1 e1
  rw [decide_eq_true e1,gd_nT (b:=true) rfl,shift_p,ld1_p o2 rfl rfl,bin_neq,onB_v]
  by_cases e2:¬ a = 0
  · rw [decide_eq_false e2,if_neg (fun hq=>e2 hq.2.2.1)]
    exact PlR.same kk q hn
  have e2:=Decidable.not_not.1 e2
  rw [decide_eq_true e2,gd_nT (b:=true) rfl,ldN_p (n:=5) o2 rfl]
  refine callF_at cw ?_
  rw [un_not,onB_v]
  cases e3:wayB c s ss with
  | false =>
    rw [if_neg (fun hq=>way_false e3 ⟨hq.1,hq.2.1,hq.2.2.2.2⟩)]
    exact PlR.same kk q hn
  | true =>
  obtain ⟨w1,w2,w3⟩:=way_true e3
  rw [if_pos ⟨w2,w3,e2,e1,w1⟩,gd_nT (b:=true) rfl]
  have hpos:0 < ss.length:=List.length_pos_iff.2 w2
  obtain ⟨i,hi⟩:∃ i:Nat,ss.length = i + 1:=⟨ss.length - 1,by omega⟩
  have hi1:i < ss.length:=by omega
  rw [show ((ss.length:Nat):Int) - 1 = i by omega,shift_p,ld1_p o2 rfl rfl,lenS_tnL,bin_add (by omega) (by omega),bin_neq,onB_v]
  have hlast:ss.getD (ss.length - 1) 0 = ss[i]:=by simp [List.getD_eq_getElem?_getD,hi]
  rw [hlast,show ss.length - 1 = i by omega]
  by_cases e4:¬ ks.length = i + 2
  · rw [show decide ((ks.length:Int) = (i:Int) + 2) = false from decide_eq_false (by omega),accs_len c ks _ _ _ (fun hq=>e4 (by have:=hq.1; simp at this; omega))]
    exact PlR.same kk q hn
  have e4:=Decidable.not_not.1 e4
  have hA:i < ks.length:=by omega
  have hB:i + 1 < ks.length:=by omega
  rw [show decide ((ks.length:Int) = (i:Int) + 2) = true from decide_eq_true (by omega),gd_nT (b:=true) rfl,shift_p,ld1_p o2 rfl rfl,ixS_aL hi1,ld1_q]
  have eks:ks = ks.take i ++ [ks[i],ks[i + 1]]:=by
    conv=>lhs; rw [← List.take_append_drop i ks]
    rw [List.drop_eq_getElem_cons hA,List.drop_eq_getElem_cons hB,List.drop_of_length_le (by omega)]
  have ess:ss ++ [ss[i]] = ss.take i ++ [ss[i],ss[i]]:=by
    have es0:=List.take_append_drop i ss
    rw [List.drop_eq_getElem_cons hi1,List.drop_of_length_le (by omega)] at es0
    exact (congrArg (fun l=>l ++ [ss[i]]) es0.symm).trans (by show (_ ++ _) ++ _ = _; rw [List.append_assoc]; rfl)
  have etot:Tn.accs c ks (List.replicate i f ++ [g,foG]) (ss ++ [ss[i]]) 0 = seqR (Tn.accs c (ks.take i) (List.replicate i f) (ss.take i) 0) (seqR (rat c ks[i] g ss[i]) (seqR (rat c ks[i + 1] foG ss[i]) (0,true))):=by
    conv=>lhs; rw [eks]
    rw [ess,accs_app c _ _ _ _ _ _ (by simp; omega) (by simp; omega),accs_seq,seq_none]
  rw [etot]
  have lslc:∀ {P:AV → Prop},(∃ q,(∀ T,Keep S2 T → slc 3 1 (aL aI ss) none (some (aI i)) none T fun v S=>v = q ∧ S = T) ∧ P q) = P (aL aI (ss.take i)):=LJ_of (op:=fun T K=>slc 3 1 (aL aI ss) none (some (aI i)) none T K) fun T hT K=>slc_take (by omega)
  have hti:(ss.take i).length = i:=by simp; omega
  show ∃ q:AV,_
  (repeat (first | with_reducible_and_instances (first | refine WJ ?_ | refine W (LJ_ldp o2 (by omega) (by with_unfolding_all rfl) (by with_unfolding_all rfl)) ?_ | refine W (LJ_ldp p1 (by omega) (by with_unfolding_all rfl) (by with_unfolding_all rfl)) ?_ | refine W (lslc) ?_ | refine W (LJ_F0) ?_ | refine W (LJ_ldNq (Fo.row_len _)) ?_ | refine W (J_ldq (by with_unfolding_all rfl)) ?_)))
  have hal:=pl145 (ts:=ks) hk (ss:=ss.take i) (by omega) (by omega) hf q (by omega) hn
  rw [hti] at hal
  refine callF_pl hal fun m3 S3 hm3 h1 hn3 q3 f3=>?_
  have o3:=(f3 _ (by omega) (by omega)).trans o2
  have p3:=(f3 _ (by omega) (by omega)).trans p1
  have kk3:∀ x,x < S.n → x ≠ id → S3.obj x = S.obj x:=fun x hx hne=>(f3 x (by have:=kk.1; omega) hne).trans (kk.2 x hx)
  rw [onB_v]
  cases e5:(Tn.accs c (ks.take i) (List.replicate i f) (ss.take i) 0).2 with
  | false =>
    show ∃ q:AV,_
    (repeat (first | with_reducible_and_instances (first | refine WJ ?_ | refine W (J_ldq (by with_unfolding_all rfl)) ?_)))
    exact PlR.seqF e5 hm3 (by omega) q3 kk3
  | true =>
    show ∃ q:AV,_
    (repeat (first | with_reducible_and_instances (first | refine WJ ?_ | refine W (LJ_ldp o3 (by omega) (by with_unfolding_all rfl) (by with_unfolding_all rfl)) ?_ | refine W (LJ_ldp p3 (by omega) (by with_unfolding_all rfl) (by with_unfolding_all rfl)) ?_ | refine W (LJ_F1) ?_ | refine W (LJ_ldNq (Fo.row_len _)) ?_ | refine W (LJ_Ti hA) ?_ | refine W (LJ_ldNq (Tn.row_len _)) ?_ | refine W (J_ldq (by with_unfolding_all rfl)) ?_)))
    refine callF_pl (pl139 (hk _ (List.getElem_mem hA)) hg q3 (by omega) hm3 ss[i]) fun m4 S4 hm4 h2 hn4 q4 f4=>?_
    have o4:=(f4 _ (by omega) (by omega)).trans o3
    have p4:=(f4 _ (by omega) (by omega)).trans p3
    cases e6:(rat c ks[i] g ss[i]).2 with
    | false =>
      (repeat (first | with_reducible_and_instances (first | refine WJ ?_ | refine W (J_ldq (by with_unfolding_all rfl)) ?_)))
      exact PlR.seq e5 (h1 e5) (by omega) kk3 (PlR.seqF e6 hm4 hn4 q4 f4)
    | true =>
      have ladd:∀ {P:AV → Prop},(∃ q,(∀ T,Keep S4 T → bin .add 0 (aI i) (.v (.int .i64 1)) T fun v S=>v = q ∧ S = T) ∧ P q) = P (aI (i + 1:Nat)):=LJ_of (op:=fun T K=>bin .add 0 (aI i) (.v (.int .i64 1)) T K) fun T hT K=>bin_add (by omega) (by omega) 0
      (repeat (first | with_reducible_and_instances (first | refine WJ ?_ | refine W (LJ_ldp o4 (by omega) (by with_unfolding_all rfl) (by with_unfolding_all rfl)) ?_ | refine W (ladd) ?_ | refine W (LJ_Ti hB) ?_ | refine W (LJ_ldNq (Tn.row_len _)) ?_ | refine W (J_ldq (by with_unfolding_all rfl)) ?_) | refine J_cA (ans142) rfl rfl ?_ | refine C_A (ans142) rfl rfl ?_ | refine L_cA (ans142) rfl rfl ?_))
      refine callF_pr (pl139 (hk _ (List.getElem_mem hB)) (f:=foG) (.o _ _ (by decide) (.c _ (by decide))) q4 (by omega) hm4 ss[i]) fun S5 hp=>?_
      (repeat (first | with_reducible_and_instances (first | refine WJ ?_ | refine W (J_ldq (by with_unfolding_all rfl)) ?_)))
      exact PlR.seq e5 (h1 e5) (by omega) kk3 (PlR.seq e6 (h2 e6) hn4 f4 hp.one)
end
end Go.Proofs.YtolgpokppnajdaaGreat.G
set_option linter.unusedVariables false
set_option linter.unusedSimpArgs false
namespace Go.Proofs.YtolgpokppnajdaaGreat.G
open Go Go.Ab
set_option maxRecDepth 100000
noncomputable def c9:Code:=(Tryz.f9.body).getD .skip
noncomputable def r9:List ResultVar:=Tryz.f9.results.toList
def m9 (x0 x1:AV) (S:Store) (Q:PoT):Prop :=
  callF Tryz.prog 23 [x0,x1] S Q fun v1 S=>extr v1 0 S fun v2 S=>extr v1 1 S fun v3 S=>boxN 42 8 (.a [(.v (.int .i64 0)),.nl,.nl,.nl,.nl,.nl,.nl,.nl]) S fun v4 S=>boxN 24 4 (.a [(.v (.int .i64 0)),(.v (.string ByteArray.empty)),(.v (.int .i64 0)),.nl]) S fun v5 S=>stN 8 v4 v2 S fun v6 S=>stN 4 v5 v3 S fun v7 S=>callF Tryz.prog 31 [] S Q fun v8 S=>onB v8 fun b9=>gd b9 (ldN 8 v4 S fun v10 S=>ldN 4 v5 S fun v11 S=>callF Tryz.prog 32 [v10,v11] S Q fun v12 S=>Q (.ret v12) S) (Q (.ret (.v (.bool false))) S)
end Go.Proofs.YtolgpokppnajdaaGreat.G
set_option linter.unusedVariables false
set_option linter.unusedSimpArgs false
namespace Go.Proofs.YtolgpokppnajdaaGreat.G
open Go Go.Ab
theorem cv_2 {S:Store} {n:Nat} {x x' y y':AV} (h:Cv S n x x') (k:Cv S n y y'):∀ (i:Nat) (u u2:AV),[x,y][i]? = some u → [x',y'][i]? = some u2 → Cv S n u u2
  | 0,_,_,h1,h2=>by cases h1; cases h2; exact h
  | 1,_,_,h1,h2=>by cases h1; cases h2; exact k
  | i + 2,_,_,h1,_=>by simp at h1
theorem cv_3 {S:Store} {n:Nat} {x x' y y' z z':AV} (h:Cv S n x x') (k:Cv S n y y') (q:Cv S n z z'):∀ (i:Nat) (u u2:AV),[x,y,z][i]? = some u → [x',y',z'][i]? = some u2 → Cv S n u u2
  | 0,_,_,h1,h2=>by cases h1; cases h2; exact h
  | 1,_,_,h1,h2=>by cases h1; cases h2; exact k
  | 2,_,_,h1,h2=>by cases h1; cases h2; exact q
  | i + 3,_,_,h1,_=>by simp at h1
theorem news2 {a b:AObj} {S:Store} {K:List Nat → Store → Prop} (h:∀ i j S',Keep S S' → S.n ≤ i → i < S'.n → S.n ≤ j → j < S'.n → i ≠ j → S'.obj i = some a → S'.obj j = some b → K [i,j] S'):newsV [a,b] S K:=by
  intro ids S' hn
  match ids,hn.len with
  | [i,j],_ =>
    have hd:=hn.nodup
    simp only [List.nodup_cons,List.mem_singleton] at hd
    exact h i j S' hn.keep (hn.lo i (by simp)) (hn.hi i (by simp)) (hn.lo j (by simp)) (hn.hi j (by simp)) hd.1 (hn.new 0 i a rfl rfl) (hn.new 1 j b rfl rfl)
set_option linter.unusedSectionVars false
theorem LJ_bld {pl:List (Nat × Nat)} {zc:List AV} {parts:List (Nat × AV)} {cs:List AV} (h:fillA (fun i=>pl[i]?) zc parts = some cs) {S0:Store} {P:AV → Prop}:(∃ q,(∀ T,Keep S0 T → bld pl zc parts T fun v S=>v = q ∧ S = T) ∧ P q) = P (.a cs):=LJ_of (op:=fun T K=>bld pl zc parts T K) fun T hT K=>bld_of h
theorem L_bslA4 {e:Nat} {z1 z2 z3 z4:AV} {r:List AV} (hr:r.length = 4) {S0:Store} {P:AV → Prop} (k:P (.l [r])):∃ q,(∀ T,Keep S0 T → bslN e 4 1 [z1,z2,z3,z4] [(0,.a r)] T fun v S=>v = q ∧ S = T) ∧ P q:=⟨_,fun T hT=>bslA4 hr ⟨rfl,rfl⟩,k⟩
theorem L_bslA42 {e:Nat} {z1 z2 z3 z4:AV} {r r2:List AV} (hr:r.length = 4) (hr2:r2.length = 4) {S0:Store} {P:AV → Prop} (k:P (.l [r,r2])):∃ q,(∀ T,Keep S0 T → bslN e 4 2 [z1,z2,z3,z4] [(0,.a r),(1,.a r2)] T fun v S=>v = q ∧ S = T) ∧ P q:=⟨_,fun T hT=>bslA42 hr hr2 ⟨rfl,rfl⟩,k⟩
theorem fo2_cv2 {f:FuncId} {k:Int} {r:AV} {g:Fo} (h:Ans Tryz.prog f [aI k,foL [fo2,g]] r) (S:Store):AnsAt Tryz.prog f [aI k,.l [[aI 2,.v (.string ByteArray.empty),aI 0,.nl],g.row]] S r:=by
  refine ansAt_cv (args2:=[aI k,foL [fo2,g]]) rfl (fun j u u2 e1 e2=>?_) (h S)
  match j with
  | 0=>cases e1; cases e2; exact .v _
  | 1 =>
    cases e1; cases e2
    refine .l _ _ rfl (fun i c c2 h1 h2=>?_) (fun i c c2 k u u2 h1 h2 h3 h4=>?_)
    · match i with
      | 0=>cases h1; cases h2; rw [Fo.row_len]; rfl
      | 1=>cases h1; cases h2; rfl
      | i + 2=>simp at h1
    · match i with
      | 0=>cases h1; cases h2; exact fo2_row k u u2 h3 h4
      | 1=>cases h1; cases h2; rw [h3] at h4; cases h4; exact Fo.tree g u (List.mem_of_getElem? h3) _ _
      | i + 2=>simp at h1
  | j + 2=>simp at e1
section
variable {c:Ci} (hc:Cs c) {id:Nat} {ks:List Tn} (hk:∀ t ∈ ks,HK c id t) (hkl:ks.length ≤ 1000000) {ss:List Int} (hs:ss.length ≤ 1000000) (tk s a:Int) {S:Store} {n:Int} (h:S.obj id = some (plO c n)) (hid:id < S.n) (hn:i64R n)
include hc hk hkl hs h hid hn
theorem pl95 {f:Fo} (hf:Pu f) (k l:Int) (nm:ByteArray):ACalls Tryz.prog 95 [.p id 0 0,(Fo.mk k nm l [f]).av,(Tn.mk tk s a ss ks).av] S (PlR c id S n (pathR c fo2 f tk s a ss ks)):=by
  refine calls95 ?_
  unfold m95
  have hto:=fo2_cv2 (g:=f) (ans74 15 [fo2,f])
  have hu:=fun {S2:Store} (q:S2.obj id = some (plO c n)) (hi:id < S2.n)=>pl97 hc hk hkl hs tk s a q hi hn (f:=fo2) (.c _ (by decide)) hf 15 0 ⟨#[]⟩
  rw [Fo.av,Fo.row_mk]
  refine boxA_of rfl fun S1 k1 n1 o1=>?_
  refine boxA_of (Tn.row_len _) fun S2 k2 n2 o2=>?_
  have kk:=k1.trans k2
  have p1:=(k2.2 _ (by omega)).trans o1
  have q:=(kk.2 _ hid).trans h
  show ∃ q:AV,_
  (repeat (first | with_reducible_and_instances (first | refine WJ ?_ | refine W (LJ_bld (cs:=[aI 2,.v (.string ByteArray.empty),aI 0,.nl]) (by with_unfolding_all rfl)) ?_ | refine W (LJ_ldp p1 (by omega) (by with_unfolding_all rfl) (by with_unfolding_all rfl)) ?_ | refine W (LJ_F0) ?_ | refine W (LJ_ldNq (Fo.row_len _)) ?_ | refine W (LJ_ldN (n:=5) o2 (by omega) (Tn.row_len _)) ?_ | refine W (J_ldq (by with_unfolding_all rfl)) ?_) | refine L_cI ((fun T _=>hto T)) rfl rfl ?_ | refine L_bslA42 rfl (Fo.row_len _) ?_))
  exact callF_pr (hu q (by omega)) fun S3 hp=>hp.up kk
theorem pl99 (f:Fo):ACalls Tryz.prog 99 [.p id 0 0,f.av,(Tn.mk tk s a ss ks).av] S (PlR c id S n (1,leafB 7 tk a ss ks)):=by
  refine calls99 ?_
  unfold m99
  have cl:=ans136 tk s a ss ks 7
  rw [Tn.av,Tn.row_mk] at cl ⊢
  refine boxA_of (Fo.row_len f) fun S1 k1 n1 o1=>?_
  refine boxA_of rfl fun S2 k2 n2 o2=>?_
  have kk:=k1.trans k2
  have q:=(kk.2 _ hid).trans h
  rw [nilChk_p,shift_p,ld1_p q rfl rfl,bin_addW,nilChk_p,shift_p]
  refine stF_of q (by rw [plC_len]; decide) rfl fun S3 n3 o3 f3=>?_
  rw [ldN_p (n:=5) ((f3 _ (by omega)).trans o2) rfl]
  refine callF_ans cl ?_
  exact ⟨IntKind.i64.wrap (n + 1),rfl,wrapR _,fun _=>rfl,by have:=kk.1; omega,o3,fun x hx hne=>(f3 x hne).trans (kk.2 x hx)⟩
theorem pl94 {f:Fo} (hf:Pu f) (k l:Int) (nm:ByteArray):ACalls Tryz.prog 94 [.p id 0 0,(Fo.mk k nm l [f]).av,(Tn.mk tk s a ss ks).av] S
    (PlR c id S n (if tk = 4 ∧ a = 0 ∧ ss = [] ∧ (ks.map Tn.st).length = 2 ∧ behindS c s ((ks.map Tn.st).getD 0 0) = true then Tn.accs c ks [[f].getD 0 fo0,foG] [(ks.map Tn.st).getD 0 0,(ks.map Tn.st).getD 0 0] 0 else (0,false))):=by
  refine calls94 ?_
  unfold m94
  have cb:=ans138 tk s a ss ks 4
  rw [Tn.av,Tn.row_mk] at cb ⊢
  rw [Fo.av,Fo.row_mk]
  refine boxA_of rfl fun S1 k1 n1 o1=>?_
  refine boxA_of rfl fun S2 k2 n2 o2=>?_
  have kk:=k1.trans k2
  have p1:=(k2.2 _ (by omega)).trans o1
  have q:=(kk.2 _ hid).trans h
  rw [ldN_p (n:=5) o2 rfl]
  refine callF_ans cb ?_
  rw [un_not,onB_v]
  by_cases e1:¬ (tk = 4 ∧ a = 0 ∧ ss.length = 0)
  · rw [show (decide (tk = 4) && decide (a = 0 ∧ ss.length = 0)) = false by rw [← Bool.decide_and]; exact decide_eq_false e1,if_neg (fun hq=>e1 ⟨hq.1,hq.2.1,by rw [hq.2.2.1]; rfl⟩)]
    exact PlR.same kk q hn
  have e1:=Decidable.not_not.1 e1
  rw [show (decide (tk = 4) && decide (a = 0 ∧ ss.length = 0)) = true by rw [← Bool.decide_and]; exact decide_eq_true e1,gd_nT (b:=true) rfl,shift_p,ld1_p o2 rfl rfl,lenS_tnL,bin_neq,onB_v]
  by_cases e2:¬ ks.length = 2
  · rw [show decide ((ks.length:Int) = 2) = false from decide_eq_false (by omega),if_neg (fun hq=>e2 (by have:=hq.2.2.2.1; rwa [List.length_map] at this))]
    exact PlR.same kk q hn
  have e2:=Decidable.not_not.1 e2
  rw [show decide ((ks.length:Int) = 2) = true from decide_eq_true (by omega),gd_nT (b:=true) rfl]
  obtain ⟨t0,t1,rfl⟩:∃ t0 t1,ks = [t0,t1]:=by
    match ks,e2 with
    | [t0,t1],_=>exact ⟨t0,t1,rfl⟩
  have ld1q:∀ (T:Store) (K:AV → Store → Prop),ld1 (.q t0.row 1) T K = K (aI t0.st) T:=fun T K=>by simp [ld1,rd1,place,Tn.row1]
  rw [shift_p,ld1_p o2 rfl rfl,ixT0]
  have sq:∀ K:AV → Store → Prop,shift (.q t0.row 0) 1 S2 K = K (.q t0.row 1) S2:=fun K=>rfl
  rw [sq,ld1q]
  have cbh:=at141 hc q (by omega) s t0.st
  show ∃ q:AV,_
  have hbh:∀ T,Keep S2 T → AnsAt Tryz.prog 141 [.p id 0 0,aI s,aI t0.st] T (aB (behindS c s t0.st)):=fun T hT=>at141 hc ((hT.2 _ (by omega)).trans q) (by have:=hT.1; omega) s t0.st
  cases e5:behindS c s t0.st with
  | false =>
    rw [e5] at hbh
    (repeat (first | with_reducible_and_instances (first | refine WJ ?_ | refine W (LJ_ldp o2 (by omega) (by with_unfolding_all rfl) (by with_unfolding_all rfl)) ?_ | refine W (J_ldq (by with_unfolding_all rfl)) ?_) | refine L_cI (hbh) rfl rfl ?_))
    rw [if_neg (fun hq=>by have:=hq.2.2.2.2; rw [show ([t0,t1].map Tn.st).getD 0 0 = t0.st from rfl,e5] at this; cases this)]
    exact PlR.same kk q hn
  | true =>
    rw [e5] at hbh
    rw [if_pos ⟨e1.1,e1.2.1,List.eq_nil_of_length_eq_zero e1.2.2,rfl,e5⟩]
    rw [show Tn.accs c [t0,t1] [[f].getD 0 fo0,foG] [([t0,t1].map Tn.st).getD 0 0,([t0,t1].map Tn.st).getD 0 0] 0 = Tn.accs c [t0,t1] [f,foG] [t0.st,t0.st] 0 from rfl,accs_seq,seq_none]
    (repeat (first | with_reducible_and_instances (first | refine WJ ?_ | refine W (LJ_ldp o2 (by omega) (by with_unfolding_all rfl) (by with_unfolding_all rfl)) ?_ | refine W (LJ_ldp p1 (by omega) (by with_unfolding_all rfl) (by with_unfolding_all rfl)) ?_ | refine W (LJ_F0) ?_ | refine W (LJ_T0) ?_ | refine W (LJ_ldNq (Fo.row_len _)) ?_ | refine W (LJ_ldNq (Tn.row_len _)) ?_ | refine W (J_ldq (by with_unfolding_all rfl)) ?_) | refine L_cI (hbh) rfl rfl ?_))
    refine callF_pl (pl139 (hk t0 (by simp)) hf q (by omega) hn t0.st) fun m S3 hm h1 hn3 q3 f3=>?_
    have o3:=(f3 _ (by omega) (by omega)).trans o2
    have kk3:∀ x,x < S.n → x ≠ id → S3.obj x = S.obj x:=fun x hx hne=>(f3 x (by have:=kk.1; omega) hne).trans (kk.2 x hx)
    cases e3:(rat c t0 f t0.st).2 with
    | false =>
      (repeat (first | with_reducible_and_instances (first | refine WJ ?_ | refine W (J_ldq (by with_unfolding_all rfl)) ?_)))
      exact PlR.seqF e3 hm (by omega) q3 kk3
    | true =>
      (repeat (first | with_reducible_and_instances (first | refine WJ ?_ | refine W (LJ_ldp o3 (by omega) (by with_unfolding_all rfl) (by with_unfolding_all rfl)) ?_ | refine W (LJ_T1) ?_ | refine W (LJ_ldNq (Tn.row_len _)) ?_ | refine W (J_ldq (by with_unfolding_all rfl)) ?_) | refine J_cA (ans142) rfl rfl ?_ | refine C_A (ans142) rfl rfl ?_ | refine L_cA (ans142) rfl rfl ?_))
      refine callF_pr (pl139 (hk t1 (by simp)) (f:=foG) (.o _ _ (by decide) (.c _ (by decide))) q3 (by omega) hm t0.st) fun S4 hp=>?_
      (repeat (first | with_reducible_and_instances (first | refine WJ ?_ | refine W (J_ldq (by with_unfolding_all rfl)) ?_)))
      exact PlR.seq e3 (h1 e3) (by omega) kk3 hp.one
theorem pl98 {f g:Fo} (hf:Pu f) (hg:Pu g) (k l:Int) (nm:ByteArray):ACalls Tryz.prog 98 [.p id 0 0,(Fo.mk k nm l [f,g]).av,(Tn.mk tk s a ss ks).av] S
    (PlR c id S n (if tk = 3 ∧ 0 ≤ a ∧ a ≤ 1 ∧ ss = [] then Tn.accs c ks [if a = 0 then foOne 13 g else foTwo 15 g (foTwo 5 f g)] [s] 0 else (0,false))):=by
  refine calls98 ?_
  unfold m98
  rw [Fo.av,Fo.row_mk]
  refine boxA_of rfl fun S1 k1 n1 o1=>?_
  refine boxA_of (Tn.row_len _) fun S2 k2 n2 o2=>?_
  have kk:=k1.trans k2
  have p1:=(k2.2 _ (by omega)).trans o1
  have q:=(kk.2 _ hid).trans h
  show ∃ q:AV,_
  (repeat (first | with_reducible_and_instances (first | refine WJ ?_ | refine W (LJ_ldp p1 (by omega) (by with_unfolding_all rfl) (by with_unfolding_all rfl)) ?_ | refine W (LJ_F0) ?_ | refine W (LJ_F1) ?_ | refine W (LJ_ldNq (Fo.row_len _)) ?_ | refine W (J_ldq (by with_unfolding_all rfl)) ?_)))
  refine news2 fun i j S3 k3 hi hi2 hj hj2 hij oi oj=>?_
  dsimp only [List.headD_cons,List.tail_cons]
  refine stA_of oi (Fo.row_len f) rfl fun S4 n4 o4 f4=>?_
  have p4:=(f4 _ (by omega)).trans ((k3.2 _ (by omega)).trans p1)
  refine ⟨fun T hT=>by rw [ldN_q (Fo.row_len _)]; exact ⟨rfl,rfl⟩,fun T hT=>by rw [ixF1]; exact ⟨rfl,rfl⟩,fun T hT=>by rw [ld1_p ((hT.2 _ (by have:=k3.1; omega)).trans p4) rfl rfl]; exact ⟨rfl,rfl⟩,fun T hT=>⟨rfl,rfl⟩,?_⟩
  refine stA_of ((f4 _ (by omega)).trans oj) (Fo.row_len g) rfl fun S5 n5 o5 f5=>?_
  have a5:=(f5 _ hij).trans o4
  have t5:=(f5 _ (by omega)).trans ((f4 _ (by omega)).trans ((k3.2 _ (by omega)).trans o2))
  have k5:Keep S S5:=((kk.trans k3).st (id:=i) (by have:=kk.1; omega) n4 f4).st (id:=j) (by have:=kk.1; omega) n5 f5
  have q5:=(k5.2 _ hid).trans h
  show ∃ q:AV,_
  refine W (LJ_ldN (n:=5) t5 (by have:=k3.1; omega) (Tn.row_len _)) ?_
  (repeat (first | with_reducible_and_instances (first | refine WJ ?_ | refine W (LJ_ldN (n:=5) t5 (by have:=k3.1; omega) (Tn.row_len _)) ?_ | refine W (LJ_ldN (n:=4) o5 (by omega) (Fo.row_len _)) ?_ | refine W (LJ_ldN (n:=4) a5 (by omega) (Fo.row_len _)) ?_ | refine W (J_ldq (by with_unfolding_all rfl)) ?_) | refine J_cA (ans74 13 [g]) rfl rfl ?_ | refine C_A (ans74 13 [g]) rfl rfl ?_ | refine L_cA (ans74 13 [g]) rfl rfl ?_ | refine J_cA (ans74 5 [f,g]) rfl rfl ?_ | refine C_A (ans74 5 [f,g]) rfl rfl ?_ | refine L_cA (ans74 5 [f,g]) rfl rfl ?_ | refine J_cA (ans74 15 [g,foTwo 5 f g]) rfl rfl ?_ | refine C_A (ans74 15 [g,foTwo 5 f g]) rfl rfl ?_ | refine L_cA (ans74 15 [g,foTwo 5 f g]) rfl rfl ?_ | refine L_bslA4 (Fo.row_len _) ?_ | refine L_bslA42 (Fo.row_len _) (Fo.row_len _) ?_))
  have hfi:=pl140 hc hk hkl hs tk s a q5 (by have:=k5.1; omega) hn (f:=foOne 13 g) (g:=foTwo 15 g (foTwo 5 f g)) (.o _ _ (by decide) hg) (.t _ _ _ (by decide) hg (.t _ _ _ (by decide) hf hg))
  by_cases e:tk = 3 ∧ 0 ≤ a ∧ a ≤ 1 ∧ ss = []
  · rw [if_pos e] at hfi ⊢
    have h01:a = 0 ∨ a = 1:=by omega
    rcases h01 with rfl | rfl
    · rw [if_pos rfl]
      exact callF_pr hfi fun S6 hp=>hp.up k5
    · rw [if_neg (by decide)]
      exact callF_pr hfi fun S6 hp=>hp.up k5
  · rw [if_neg e] at hfi ⊢
    exact callF_pr hfi fun S6 hp=>hp.up k5
end
set_option linter.unusedSectionVars false
theorem at144 {c:Ci} (hc:c.ok) {n:Int} {id a b ta tb:Nat} {S:Store} (h:S.obj id = some (plO c n)) {l:Int} (ha:S.obj a = some (.cells ta [[.p id 0 0]] true)) (hb:S.obj b = some (.cells tb [[aI l]] true)) (hl:i64R l) (s:Int) :
    AnsAt Tryz.prog 144 ([] ++ [aI s] ++ [.p a 0 0,.p b 0 0]) S (aB (isB c s l)):=by
  refine calls144 ?_
  unfold m144
  rw [ld1_p ha rfl rfl,ld1_p hb rfl rfl]
  exact callF_at (at137 hc h s hl) ⟨rfl,rfl⟩
section
variable {c:Ci} (hc:Cs c) {id:Nat} {ks:List Tn} (hk:∀ t ∈ ks,HK c id t) (hkl:ks.length ≤ 1000000) {ss:List Int} (hs:ss.length ≤ 1000000) (tk s a:Int) {S:Store} {n:Int} (h:S.obj id = some (plO c n)) (hid:id < S.n) (hn:i64R n)
include hc hk hkl hs h hid hn
theorem pl96 {f:Fo} (hf:Pu f) (k l:Int) (nm:ByteArray):ACalls Tryz.prog 96 [.p id 0 0,(Fo.mk k nm l [f]).av,(Tn.mk tk s a ss ks).av] S (PlR c id S n (loopR c f tk s a ss ks)):=by
  refine calls96 ?_
  unfold m96 loopR
  rw [Fo.av,Fo.row_mk,Tn.av,Tn.row_mk]
  refine box1_of rfl fun S1 k1 n1 o1=>?_
  refine boxA_of rfl fun S2 k2 n2 o2=>?_
  refine boxA_of rfl fun S3 k3 n3 o3=>?_
  have kk:=(k1.trans k2).trans k3
  have p1:=(k3.2 _ (by omega)).trans ((k2.2 _ (by omega)).trans o1)
  have p2:=(k3.2 _ (by omega)).trans o2
  have q:=(kk.2 _ hid).trans h
  have cw:=at143 hc q (by omega) tk s a hs ks
  rw [Tn.av,Tn.row_mk] at cw
  rw [shift_p,ld1_p o3 rfl rfl,lenS_aL]
  show ∃ q:AV,_
  (repeat (first | with_reducible_and_instances (first | refine WJ ?_ | refine W (J_ldp o3 (by with_unfolding_all rfl) (by with_unfolding_all rfl)) ?_ | refine W (J_ldq (by with_unfolding_all rfl)) ?_)))
  by_cases e1:¬ tk = 6
  · rw [decide_eq_false e1,Bool.not_false]
    (repeat (first | with_reducible_and_instances (first | refine WJ ?_ | refine W (J_ldp o3 (by with_unfolding_all rfl) (by with_unfolding_all rfl)) ?_ | refine W (J_ldq (by with_unfolding_all rfl)) ?_)))
    rw [if_neg (fun hq=>e1 hq.2.2.2.2.1)]
    exact PlR.same kk q hn
  have e1:=Decidable.not_not.1 e1
  rw [decide_eq_true e1,Bool.not_true]
  cases e2:wayB c s ss with
  | false =>
    rw [e2] at cw
    (repeat (first | with_reducible_and_instances (first | refine WJ ?_ | refine W (J_ldp o3 (by with_unfolding_all rfl) (by with_unfolding_all rfl)) ?_ | refine W (J_ldp p1 (by with_unfolding_all rfl) (by with_unfolding_all rfl)) ?_ | refine W (J_ldN (n:=5) o3 (by with_unfolding_all rfl)) ?_ | refine W (J_ldq (by with_unfolding_all rfl)) ?_) | refine J_cI (cw) rfl rfl ?_ | refine C_I (cw) rfl rfl ?_))
    rw [Bool.not_false]
    (repeat (first | with_reducible_and_instances (first | refine WJ ?_ | refine W (J_ldp o3 (by with_unfolding_all rfl) (by with_unfolding_all rfl)) ?_ | refine W (J_ldq (by with_unfolding_all rfl)) ?_)))
    rw [if_neg (fun hq=>way_false e2 ⟨hq.1,hq.2.1,hq.2.2.2.2.2.2.1⟩)]
    exact PlR.same kk q hn
  | true =>
  rw [e2] at cw
  obtain ⟨w1,w2,w3⟩:=way_true e2
  have hpos:0 < ss.length:=List.length_pos_iff.2 w2
  (repeat (first | with_reducible_and_instances (first | refine WJ ?_ | refine W (J_ldp o3 (by with_unfolding_all rfl) (by with_unfolding_all rfl)) ?_ | refine W (J_ldp p1 (by with_unfolding_all rfl) (by with_unfolding_all rfl)) ?_ | refine W (J_ldN (n:=5) o3 (by with_unfolding_all rfl)) ?_ | refine W (J_ldq (by with_unfolding_all rfl)) ?_) | refine J_cI (cw) rfl rfl ?_ | refine C_I (cw) rfl rfl ?_))
  rw [Bool.not_true]
  (repeat (first | with_reducible_and_instances (first | refine WJ ?_ | refine W (J_ldp o3 (by with_unfolding_all rfl) (by with_unfolding_all rfl)) ?_ | refine W (J_ldq (by with_unfolding_all rfl)) ?_)))
  by_cases e3:a < 0
  · rw [decide_eq_true e3]
    (repeat (first | with_reducible_and_instances (first | refine WJ ?_ | refine W (J_ldp o3 (by with_unfolding_all rfl) (by with_unfolding_all rfl)) ?_ | refine W (J_ldq (by with_unfolding_all rfl)) ?_)))
    rw [if_neg (fun hq=>by have:=hq.2.2.1; omega)]
    exact PlR.same kk q hn
  rw [decide_eq_false e3]
  (repeat (first | with_reducible_and_instances (first | refine WJ ?_ | refine W (J_ldp o3 (by with_unfolding_all rfl) (by with_unfolding_all rfl)) ?_ | refine W (J_ldq (by with_unfolding_all rfl)) ?_)))
  by_cases e4:((ss.length:Nat):Int) ≤ a
  · rw [decide_eq_true e4]
    (repeat (first | with_reducible_and_instances (first | refine WJ ?_ | refine W (J_ldp o3 (by with_unfolding_all rfl) (by with_unfolding_all rfl)) ?_ | refine W (J_ldq (by with_unfolding_all rfl)) ?_)))
    rw [if_neg (fun hq=>by have:=hq.2.2.2.1; omega)]
    exact PlR.same kk q hn
  rw [decide_eq_false e4]
  (repeat (first | with_reducible_and_instances (first | refine WJ ?_ | refine W (J_ldp o3 (by with_unfolding_all rfl) (by with_unfolding_all rfl)) ?_ | refine W (J_lenT) ?_ | refine W (J_ldq (by with_unfolding_all rfl)) ?_)))
  by_cases e5:¬ ks.length = ss.length
  · rw [show decide ((ks.length:Int) = (ss.length:Int)) = false from decide_eq_false (by omega),Bool.not_false]
    (repeat (first | with_reducible_and_instances (first | refine WJ ?_ | refine W (J_ldp o3 (by with_unfolding_all rfl) (by with_unfolding_all rfl)) ?_ | refine W (J_ldq (by with_unfolding_all rfl)) ?_)))
    rw [accs_len c ks _ _ _ (fun hq=>e5 hq.2.symm)]
    split <;> exact PlR.same kk q hn
  have e5:=Decidable.not_not.1 e5
  rw [show decide ((ks.length:Int) = (ss.length:Int)) = true from decide_eq_true (by omega),Bool.not_true]
  obtain ⟨i0,hi0⟩:∃ i0:Nat,ss.length = i0 + 1:=⟨ss.length - 1,by omega⟩
  obtain ⟨j,rfl⟩:=Int.eq_ofNat_of_zero_le (show 0 ≤ a by omega)
  have hj:j < ss.length:=by omega
  have hi1:i0 < ss.length:=by omega
  have lsub:∀ {S0:Store} {P:AV → Prop},(∃ q,(bin .sub 0 (aI ss.length) (.v (.int .i64 1)) S0 fun v S=>v = q ∧ S = S0) ∧ P q) = P (aI i0):=fun {S0 P}=>J_of (op:=fun K=>bin .sub 0 (aI ss.length) (.v (.int .i64 1)) S0 K) fun K=>(bin_sub (by omega) (by omega) 0).trans (by rw [show ((ss.length:Nat):Int) - 1 = i0 by omega])
  have hlast:ss.getD (ss.length - 1) 0 = ss[i0]:=by simp [List.getD_eq_getElem?_getD,hi0]
  have hat:ss.getD (((j:Nat):Int)).toNat 0 = ss[j]:=by simp [List.getD_eq_getElem?_getD,hj]
  have cbh:=at141 hc q (by omega) ss[i0] ss[j]
  cases e6:behindS c ss[i0] ss[j] with
  | false =>
    rw [e6] at cbh
    (repeat (first | with_reducible_and_instances (first | refine WJ ?_ | refine W (J_ldp o3 (by with_unfolding_all rfl) (by with_unfolding_all rfl)) ?_ | refine W (J_ldp p1 (by with_unfolding_all rfl) (by with_unfolding_all rfl)) ?_ | refine W (lsub) ?_ | refine W (J_ix hi1) ?_ | refine W (J_ix hj) ?_ | refine W (J_ldq (by with_unfolding_all rfl)) ?_) | refine J_cI (cbh) rfl rfl ?_ | refine C_I (cbh) rfl rfl ?_))
    rw [Bool.not_false]
    (repeat (first | with_reducible_and_instances (first | refine WJ ?_ | refine W (J_ldp o3 (by with_unfolding_all rfl) (by with_unfolding_all rfl)) ?_ | refine W (J_ldq (by with_unfolding_all rfl)) ?_)))
    rw [if_neg (fun hq=>by have:=hq.2.2.2.2.2.1; rw [hlast,hat,e6] at this; cases this)]
    exact PlR.same kk q hn
  | true =>
  rw [e6] at cbh
  (repeat (first | with_reducible_and_instances (first | refine WJ ?_ | refine W (J_ldp o3 (by with_unfolding_all rfl) (by with_unfolding_all rfl)) ?_ | refine W (J_ldp p1 (by with_unfolding_all rfl) (by with_unfolding_all rfl)) ?_ | refine W (lsub) ?_ | refine W (J_ix hi1) ?_ | refine W (J_ix hj) ?_ | refine W (J_ldq (by with_unfolding_all rfl)) ?_) | refine J_cI (cbh) rfl rfl ?_ | refine C_I (cbh) rfl rfl ?_))
  rw [Bool.not_true]
  (repeat (first | with_reducible_and_instances (first | refine WJ ?_ | refine W (J_ldp o3 (by with_unfolding_all rfl) (by with_unfolding_all rfl)) ?_ | refine W (J_ldq (by with_unfolding_all rfl)) ?_)))
  have hfair:=hc.ok.fair
  rw [ld1_p p1 rfl rfl,nilChk_p,shift_p,shift_p,ld1_p q rfl rfl,lenS_aL]
  rw [Int.toNat_natCast]
  have no:metS c (ss.drop j) = false → ∀ T,Keep S T → T.obj id = some (plO c n) → PlR c id S n (if ss ≠ [] ∧ ss.getD 0 0 = s ∧ 0 ≤ (j:Int) ∧ (j:Int) < ss.length ∧ tk = 6 ∧ behindS c (ss.getD (ss.length - 1) 0) (ss.getD j 0) = true ∧ chainS c ss = true ∧ metS c (ss.drop j) = true then Tn.accs c ks (List.replicate ss.length f) ss 0 else (0,false)) (.ret (aB false)) T:=fun hm T hT ht=>by
    rw [if_neg (fun hq=>by have:=hq.2.2.2.2.2.2.2; rw [hm] at this; cases this)]
    exact PlR.same hT ht hn
  refine loop96_0 (fun y S'=>∃ i:Nat,y = aI i ∧ i ≤ c.fair.length ∧ Keep S3 S' ∧ ∀ m (h:m < c.fair.length),m < i → ((ss.drop j).any fun s=>isB c s c.fair[m]) = true) (fun y _=>c.fair.length - ((intA y).getD 0).toNat) ⟨0,rfl,Nat.zero_le _,Keep.refl _,fun m _ h=>by omega⟩ ?_
  rintro _ S4 ⟨i,rfl,hif,k4,hmet⟩ KE hKE
  unfold b96_0
  have q4:=(k4.2 _ (by omega)).trans q
  have p14:=(k4.2 _ (by omega)).trans p1
  have p24:=(k4.2 _ (by omega)).trans p2
  have p34:=(k4.2 _ (by omega)).trans o3
  have n4:=k4.1
  rw [bin_lss,onB_v]
  refine gd_of (fun hlt=>?_) (fun hge=>?_)
  · have hlt:i < c.fair.length:=by have:=of_decide_eq_true hlt; omega
    rw [ixS_aL hlt,ld1_q]
    refine box1_of rfl fun S5 k5 n5 o5=>?_
    refine st_of o5 rfl rfl fun S6 n6 o6 f6=>?_
    have k6:=k5.st (Nat.le_refl _) n6 f6
    have q6:=(k6.2 _ (by omega)).trans q4
    have p16:=(k6.2 _ (by omega)).trans p14
    have p36:=(k6.2 _ (by omega)).trans p34
    rw [shift_p,ld1_p p36 rfl rfl,shift_p,ld1_p p36 rfl rfl,slc_drop (by omega)]
    refine callF_at (at132 (f:=aI) (l:=ss.drop j) (by simp; omega) (g:=fun s=>isB c s c.fair[i]) (fs:=[]) (cs:=[.p S.n 0 0,.p S4.n 0 0]) fun x hx=>at144 hc.ok q6 p16 o6 (hfair.1 _ (List.getElem_mem hlt)) x) ?_
    rw [un_not,onB_v]
    refine gd_of (fun hb=>?_) (fun hb=>?_)
    · refine no (all_no hlt (by simpa using hb)) S6 ((kk.trans k4).trans k6) q6
    · rw [bin_add (by omega) (by omega)]
      exact hKE _ _ ⟨i + 1,rfl,hlt,k4.trans k6,lt_step (p:=fun l=>((ss.drop j).any fun s=>isB c s l) = true) (hi:=hlt) hmet (by simpa using hb)⟩ (by simp [intA]; omega)
  · have hge:i = c.fair.length:=by have:=of_decide_eq_false hge; omega
    subst hge
    rw [if_pos ⟨w2,w3,by omega,by omega,e1,by rw [hlast,show ss.getD j 0 = ss[j] by simp [List.getD_eq_getElem?_getD,hj]]; exact e6,w1,all_lt fun m hm=>hmet m hm hm⟩]
    clear no
    have hal:=pl145 (ts:=ks) hk hs (by omega) hf q4 (by omega) hn
    rw [show ks.take ss.length = ks by rw [← e5]; exact List.take_length] at hal
    show ∃ q:AV,_
    (repeat (first | with_reducible_and_instances (first | refine WJ ?_ | refine W (LJ_ldp p14 (by omega) (by with_unfolding_all rfl) (by with_unfolding_all rfl)) ?_ | refine W (LJ_ldp p34 (by omega) (by with_unfolding_all rfl) (by with_unfolding_all rfl)) ?_ | refine W (LJ_ldp p24 (by omega) (by with_unfolding_all rfl) (by with_unfolding_all rfl)) ?_ | refine W (LJ_F0) ?_ | refine W (LJ_ldNq (Fo.row_len _)) ?_ | refine W (J_ldq (by with_unfolding_all rfl)) ?_)))
    exact callF_pr hal fun S5 hp=>hp.up (kk.trans k4)
end
set_option linter.unusedSectionVars false
theorem J_lkT {kk:KK} {z k:AV} {key:Key} {es:List (Key × AV)} {r:AV} (hk:keyA kk k = some key) (hr:lkV z true (lkp es key) = r) {S0:Store} {P:AV → Prop}:(∃ q,(lkM kk z true (.mt kk es) k S0 fun v S=>v = q ∧ S = S0) ∧ P q) = P r:=J_of (op:=fun K=>lkM kk z true (.mt kk es) k S0 K) fun K=>by rw [lkM_mt hk,hr]
section
variable {c:Ci} (hc:Cs c) {id:Nat} {ks:List Tn} (hk:∀ t ∈ ks,HK c id t) (hkl:ks.length ≤ 1000000) {ss:List Int} (hs:ss.length ≤ 1000000) (tk s a:Int) {S:Store} {n:Int} (h:S.obj id = some (plO c n)) (hid:id < S.n) (hn:i64R n)
include hc hk hkl hs h hid hn
theorem play_go (w:FuncId) (k:Int) (f:Fo) (hf:f.row[0]? = some (aI k)) (hl:lkV (.v .nilFunc) true (lkp waysE (.i k)) = .t [.f (.func w) [] [],aB true]) (r:Int × Bool) (hr:validS c s = true → Tn.acc c (.mk tk s a ss ks) f = r)
    (hw:∀ S2:Store,S2.obj id = some (plO c n) → id < S2.n → ACalls Tryz.prog w [.p id 0 0,f.av,(Tn.mk tk s a ss ks).av] S2 (PlR c id S2 n r)) :
    ACalls Tryz.prog 54 [.p id 0 0,f.av,(Tn.mk tk s a ss ks).av] S (PlR c id S n (Tn.acc c (.mk tk s a ss ks) f)):=by
  refine calls54 ?_
  unfold m54
  refine boxA_of (Fo.row_len f) fun S1 k1 n1 o1=>?_
  refine boxA_of (Tn.row_len _) fun S2 k2 n2 o2=>?_
  have kk:=k1.trans k2
  have p1:=(k2.2 _ (by omega)).trans o1
  have q:=(kk.2 _ hid).trans h
  have r1:=Tn.row1 (.mk tk s a ss ks)
  show ∃ q:AV,_
  (repeat (first | with_reducible_and_instances (first | refine WJ ?_ | refine W (J_nil) ?_ | refine W (J_ldp q (by with_unfolding_all rfl) (by with_unfolding_all rfl)) ?_ | refine W (J_ldp p1 (by with_unfolding_all rfl) hf) ?_ | refine W (J_lkT (keyI _ _) hl) ?_ | refine W (J_ext (by with_unfolding_all rfl)) ?_ | refine W (J_ldq (by with_unfolding_all rfl)) ?_)))
  rw [ld1_p o2 rfl r1]
  refine callF_at (at100 hc q (by omega) s) ?_
  rw [onB_v]
  refine gd_of (fun hv=>?_) (fun hv=>?_)
  · rw [hr hv,ldN_p (n:=4) p1 (Fo.row_len f),ldN_p (n:=5) o2 (Tn.row_len _)]
    exact callV_pr (fs:=[]) (cs:=[]) (hw S2 q (by omega)) fun S' hp=>hp.up kk
  · rw [acc_inv _ hv]
    exact PlR.same kk q hn
theorem play_no (f:Fo) (hf:f.row[0]? = some (aI 1)) (hr:validS c s = true → Tn.acc c (.mk tk s a ss ks) f = (0,false)) :
    ACalls Tryz.prog 54 [.p id 0 0,f.av,(Tn.mk tk s a ss ks).av] S (PlR c id S n (Tn.acc c (.mk tk s a ss ks) f)):=by
  refine calls54 ?_
  unfold m54
  refine boxA_of (Fo.row_len f) fun S1 k1 n1 o1=>?_
  refine boxA_of (Tn.row_len _) fun S2 k2 n2 o2=>?_
  have kk:=k1.trans k2
  have p1:=(k2.2 _ (by omega)).trans o1
  have q:=(kk.2 _ hid).trans h
  have hl:lkV (.v .nilFunc) true (lkp waysE (.i 1)) = .t [.v .nilFunc,aB false]:=rfl
  show ∃ q:AV,_
  (repeat (first | with_reducible_and_instances (first | refine WJ ?_ | refine W (J_nil) ?_ | refine W (J_ldp q (by with_unfolding_all rfl) (by with_unfolding_all rfl)) ?_ | refine W (J_ldp p1 (by with_unfolding_all rfl) hf) ?_ | refine W (J_lkT (keyI _ _) hl) ?_ | refine W (J_ext (by with_unfolding_all rfl)) ?_ | refine W (J_ldq (by with_unfolding_all rfl)) ?_)))
  have:Tn.acc c (.mk tk s a ss ks) f = (0,false):=by
    cases hv:validS c s with
    | true=>exact hr hv
    | false=>exact acc_inv _ hv
  rw [this]
  exact PlR.same kk q hn
theorem play_all {f:Fo} (hf:Pu f):ACalls Tryz.prog 54 [.p id 0 0,f.av,(Tn.mk tk s a ss ks).av] S (PlR c id S n (Tn.acc c (.mk tk s a ss ks) f)):=by
  have r0:∀ (k l:Int) (nm:ByteArray) (fs:List Fo),(Fo.mk k nm l fs).row[0]? = some (aI k):=fun k l nm fs=>by rw [Fo.row_mk]; rfl
  cases hf with
  | c k hkd =>
    rcases hkd with rfl | rfl
    · exact play_no hc hk hkl hs tk s a h hid hn _ (r0 _ _ _ _) acc_1
    · exact play_go hc hk hkl hs tk s a h hid hn 89 2 _ (r0 _ _ _ _) rfl _ acc_2 fun S2 q hi=>pl89 hc hk hkl hs tk s a q hi hn _
  | a l h0 hl=>exact play_go hc hk hkl hs tk s a h hid hn 90 3 _ (r0 _ _ _ _) rfl _ acc_3 fun S2 q hi=>pl90 hc hk hkl hs tk s a q hi hn _ _ hl _
  | n l h0 hl=>exact play_go hc hk hkl hs tk s a h hid hn 91 4 _ (r0 _ _ _ _) rfl _ acc_4 fun S2 q hi=>pl91 hc hk hkl hs tk s a q hi hn _ _ _ _ hl _
  | o k f hkd hf =>
    have:k = 9 ∨ k = 11 ∨ k = 13 ∨ k = 10 ∨ k = 12 ∨ k = 14:=by omega
    rcases this with rfl | rfl | rfl | rfl | rfl | rfl
    · exact play_go hc hk hkl hs tk s a h hid hn 94 9 _ (r0 _ _ _ _) rfl _ acc_9 fun S2 q hi=>pl94 hc hk hkl hs tk s a q hi hn hf _ _ _
    · exact play_go hc hk hkl hs tk s a h hid hn 95 11 _ (r0 _ _ _ _) rfl _ acc_11 fun S2 q hi=>pl95 hc hk hkl hs tk s a q hi hn hf _ _ _
    · exact play_go hc hk hkl hs tk s a h hid hn 96 13 _ (r0 _ _ _ _) rfl _ acc_13 fun S2 q hi=>pl96 hc hk hkl hs tk s a q hi hn hf _ _ _
    · exact play_go hc hk hkl hs tk s a h hid hn 99 10 _ (r0 _ _ _ _) rfl _ (acc_t (by decide)) fun S2 q hi=>pl99 hc hk hkl hs tk s a q hi hn _
    · exact play_go hc hk hkl hs tk s a h hid hn 99 12 _ (r0 _ _ _ _) rfl _ (acc_t (by decide)) fun S2 q hi=>pl99 hc hk hkl hs tk s a q hi hn _
    · exact play_go hc hk hkl hs tk s a h hid hn 99 14 _ (r0 _ _ _ _) rfl _ (acc_t (by decide)) fun S2 q hi=>pl99 hc hk hkl hs tk s a q hi hn _
  | t k f g hkd hf hg =>
    have:k = 5 ∨ k = 6 ∨ k = 15 ∨ k = 17 ∨ k = 16 ∨ k = 18:=by omega
    rcases this with rfl | rfl | rfl | rfl | rfl | rfl
    · exact play_go hc hk hkl hs tk s a h hid hn 92 5 _ (r0 _ _ _ _) rfl _ acc_5 fun S2 q hi=>pl92 hc hk hkl hs tk s a q hi hn hf hg _ _ _
    · exact play_go hc hk hkl hs tk s a h hid hn 93 6 _ (r0 _ _ _ _) rfl _ acc_6 fun S2 q hi=>pl93 hc hk hkl hs tk s a q hi hn hf hg _ _ _
    · exact play_go hc hk hkl hs tk s a h hid hn 97 15 _ (r0 _ _ _ _) rfl _ acc_15 fun S2 q hi=>pl97 hc hk hkl hs tk s a q hi hn hf hg _ _ _
    · exact play_go hc hk hkl hs tk s a h hid hn 98 17 _ (r0 _ _ _ _) rfl _ acc_17 fun S2 q hi=>pl98 hc hk hkl hs tk s a q hi hn hf hg _ _ _
    · exact play_go hc hk hkl hs tk s a h hid hn 99 16 _ (r0 _ _ _ _) rfl _ (acc_t (by decide)) fun S2 q hi=>pl99 hc hk hkl hs tk s a q hi hn _
    · exact play_go hc hk hkl hs tk s a h hid hn 99 18 _ (r0 _ _ _ _) rfl _ (acc_t (by decide)) fun S2 q hi=>pl99 hc hk hkl hs tk s a q hi hn _
end
theorem pl54 {c:Ci} (hc:Cs c) (id:Nat):∀ t:Tn,t.ok → HK c id t:=by
  intro t
  induction t using Tn.ind with
  | h tk s a ss ks ih =>
    intro ht f hf S n h hid hn
    cases ht with
    | mk _ _ _ _ _ h1 h2 h3 h4 h5 h6 h7=>exact play_all hc (fun t ht=>ih t ht (h7 t ht)) h6 h4 tk s a h hid hn hf
theorem ans53:Ans Tryz.prog 53 [] (.mt (.i .i64) waysE):=by
  intro S
  refine ACalls.tree (calls53 ?_)
  unfold m53 mkM
  dsimp only
  rw [updM_m (new_self _) (keyI _ _)]
  repeat rw [updM_m (upd_self _ _) (keyI _ _),upd_upd]
  refine ⟨_,rfl,((Keep.refl S).new _).upd (Nat.le_refl _) _,.m' S.n (.i .i64) waysE waysE ?_ rfl (fun i e e2 h h2=>by rw [h] at h2; cases h2; rfl) (fun i e e2 h h2=>?_)⟩
  · rw [frz_ofM (upd_self _ _)]
    have:newer S.n S.n = true:=by simp [newer]
    rw [this]
    rfl
  · rw [h] at h2; cases h2
    have hm:e ∈ waysE:=List.mem_of_getElem? h
    have hf:∀ w:FuncId,Cv ((Store.upd (S.new (.map (.i .i64) [] true)) S.n (.map (.i .i64) waysE true)).frz (newer S.n)) S.n (.f (.func w) [] []) (.f (.func w) [] []):=fun w=>.f _ _ _ _ _ rfl rfl (fun k u u2 h=>by simp at h) (fun k u u2 h=>by simp at h)
    simp only [waysE,List.mem_cons,List.not_mem_nil,or_false] at hm
    rcases hm with rfl | rfl | rfl | rfl | rfl | rfl | rfl | rfl | rfl | rfl | rfl | rfl | rfl | rfl | rfl <;> exact hf _
set_option linter.unusedSectionVars false
noncomputable def acceptB (c:Ci) (f:Fo) (t:Tn):Int × Bool :=
  if mayC c f = false ∨ 60 < c.gr.inputs then (0,false) else if (t.acc c (f.push false)).2 = true then t.acc c (f.push false) else (0,false)
def pl01:(Int × Bool) ⊕ (List Fo × List Int) → Prop
  | .inl r=>r.1 = 0 ∨ r.1 = 1
  | .inr _=>True
theorem pl_ite {p:Prop} [Decidable p] {x y:(Int × Bool) ⊕ (List Fo × List Int)} (h1:pl01 x) (h2:pl01 y):pl01 (if p then x else y):=by
  split
  · exact h1
  · exact h2
theorem plan_01 (c:Ci) (f:Fo) (tk s a:Int) (ss kst:List Int):pl01 (planA c f tk s a ss kst):=by
  obtain ⟨k,nm,l,fs⟩:=f
  unfold planA
  repeat' (first | exact trivial | exact Or.inl rfl | exact Or.inr rfl | refine pl_ite ?_ ?_)
theorem acc_rng {c:Ci} {t:Tn} {f:Fo}:i64R (t.acc c f).1:=by
  obtain ⟨tk,s,a,ss,ks⟩:=t
  rw [acc_mk]
  have h:=plan_01 c f tk s a ss (ks.map Tn.st)
  generalize planA c f tk s a ss (ks.map Tn.st) = x at h
  cases x with
  | inl r =>
    show i64R r.1
    have h:r.1 = 0 ∨ r.1 = 1:=h
    exact ⟨by omega,by omega⟩
  | inr p=>exact accs_rng c ks _ _ ⟨by decide,by decide⟩
theorem may_parts {c:Ci} {f:Fo} (h:mayC c f = true):c.right = true ∧ f.mayB 60 = true:=by
  unfold mayC at h
  rw [Bool.and_eq_true,Bool.and_eq_true] at h
  exact ⟨h.1,h.2.1⟩
theorem ans49 {c:Ci} (hc:c.ok) {f:Fo} (hf:f.ok) {t:Tn} (ht:t.ok):Ans Tryz.prog 49 [c.av,f.av,t.av] (aR (acceptB c f t)):=by
  intro S
  refine ACalls.ansT (calls49 ?_)
  unfold m49 acceptB
  refine boxA_of rfl fun S1 k1 n1 o1=>?_
  refine boxA_of (Fo.row_len f) fun S2 k2 n2 o2=>?_
  refine boxA_of (Tn.row_len t) fun S3 k3 n3 o3=>?_
  have kk:=(k1.trans k2).trans k3
  have p1:=(k3.2 _ (by omega)).trans ((k2.2 _ (by omega)).trans o1)
  have p2:=(k3.2 _ (by omega)).trans o2
  rw [ldN_p (n:=8) p1 rfl,ldN_p (n:=4) p2 (Fo.row_len f)]
  refine callF_ans (ans55 hc hf) ?_
  rw [un_not,onB_v]
  cases hm:mayC c f with
  | false =>
    rw [if_pos (.inl rfl)]
    exact ⟨rfl,kk⟩
  | true =>
  rw [gd_nT (b:=true) rfl]
  obtain ⟨hr,hmay⟩:=may_parts hm
  obtain ⟨g1,g2,g3⟩:=gr_inp hr
  rw [shift_p,ld1_p p1 rfl rfl,shift_p,ld1_p p1 rfl rfl,lenS_pL,bin_add (by omega) (by omega),← g1,bin_gtr,onB_v]
  by_cases e1:60 < c.gr.inputs
  · rw [decide_eq_true e1,if_pos (.inr e1)]
    exact ⟨rfl,kk⟩
  rw [decide_eq_false e1,gd_false,if_neg (by rintro (h | h); cases h; exact e1 h)]
  have hcs:Cs c:=⟨hc,hr,by omega⟩
  have hpu:=push_pu f hf hmay false
  show ∃ q:AV,_
  (repeat (first | with_reducible_and_instances (first | refine WJ ?_ | refine W (J_ldN (n:=8) p1 (by with_unfolding_all rfl)) ?_ | refine W (J_ldN (n:=4) p2 (Fo.row_len f)) ?_ | refine W (J_ldN (n:=5) o3 (Tn.row_len t)) ?_ | refine W (J_ext (by with_unfolding_all rfl)) ?_ | refine W (J_ldq (by with_unfolding_all rfl)) ?_) | refine J_cA (ans47 f hf hmay false) rfl rfl ?_ | refine C_A (ans47 f hf hmay false) rfl rfl ?_ | refine J_cA (ans80 hcs t ht (f.push false) hpu) rfl rfl ?_ | refine C_A (ans80 hcs t ht (f.push false) hpu) rfl rfl ?_))
  refine gd_of (fun h=>?_) (fun h=>?_)
  · rw [if_neg (by simpa using h)]
    exact ⟨rfl,kk⟩
  · have h:(t.acc c (f.push false)).2 = true:=by simpa using h
    rw [if_pos h]
    exact ⟨by unfold aR; rw [h],kk⟩
theorem ans27 {c:Ci} (hc:c.ok) {f:Fo} (hf:f.ok) {t:Tn} (ht:t.ok):Ans Tryz.prog 27 [c.av,f.av,t.av] (aR (acceptB c f t)):=by
  intro S
  refine ACalls.ansT (calls27 ?_)
  unfold m27 acceptB
  refine boxA_of rfl fun S1 k1 n1 o1=>?_
  refine boxA_of (Fo.row_len f) fun S2 k2 n2 o2=>?_
  refine boxA_of (Tn.row_len t) fun S3 k3 n3 o3=>?_
  have kk:=(k1.trans k2).trans k3
  have p1:=(k3.2 _ (by omega)).trans ((k2.2 _ (by omega)).trans o1)
  have p2:=(k3.2 _ (by omega)).trans o2
  rw [ldN_p (n:=8) p1 rfl,ldN_p (n:=4) p2 (Fo.row_len f)]
  refine callF_ans (ans52 hc hf) ?_
  rw [un_not,onB_v]
  cases hm:mayC c f with
  | false =>
    rw [if_pos (.inl rfl)]
    exact ⟨rfl,kk⟩
  | true =>
  rw [gd_nT (b:=true) rfl]
  obtain ⟨hr,hmay⟩:=may_parts hm
  obtain ⟨g1,g2,g3⟩:=gr_inp hr
  rw [shift_p,ld1_p p1 rfl rfl,shift_p,ld1_p p1 rfl rfl,lenS_pL,bin_add (by omega) (by omega),← g1,bin_gtr,onB_v]
  by_cases e1:60 < c.gr.inputs
  · rw [decide_eq_true e1,if_pos (.inr e1)]
    exact ⟨rfl,kk⟩
  rw [decide_eq_false e1,gd_false,if_neg (by rintro (h | h); cases h; exact e1 h)]
  have hcs:Cs c:=⟨hc,hr,by omega⟩
  have hpu:=push_pu f hf hmay false
  show ∃ q:AV,_
  (repeat (first | with_reducible_and_instances (first | refine WJ ?_ | refine W (LJ_ldN (n:=8) p1 (by omega) (by with_unfolding_all rfl)) ?_ | refine W (LJ_bld (cs:=plC c 0) (by with_unfolding_all rfl)) ?_ | refine W (J_ldq (by with_unfolding_all rfl)) ?_) | refine J_cA (ans53) rfl rfl ?_ | refine C_A (ans53) rfl rfl ?_ | refine L_cA (ans53) rfl rfl ?_))
  refine boxA_of (plC_len c 0) fun S4 k4 n4 o4=>?_
  have p24:=(k4.2 _ (by omega)).trans p2
  have p34:=(k4.2 _ (by omega)).trans o3
  show ∃ q:AV,_
  (repeat (first | with_reducible_and_instances (first | refine WJ ?_ | refine W (LJ_ldN (n:=4) p24 (by omega) (Fo.row_len f)) ?_ | refine W (LJ_ldN (n:=5) p34 (by omega) (Tn.row_len t)) ?_ | refine W (J_ldq (by with_unfolding_all rfl)) ?_) | refine J_cA (ans45) rfl rfl ?_ | refine C_A (ans45) rfl rfl ?_ | refine L_cA (ans45) rfl rfl ?_ | refine J_cA (ans44 f hf hmay false) rfl rfl ?_ | refine C_A (ans44 f hf hmay false) rfl rfl ?_ | refine L_cA (ans44 f hf hmay false) rfl rfl ?_))
  refine callF_pl (pl54 hcs S3.n t ht (f.push false) hpu S4 0 o4 (by omega) ⟨by decide,by decide⟩) fun n' S5 hn' h1 hn5 q5 f5=>?_
  have k5:Keep S S5:=⟨by have:=kk.1; omega,fun x hx=>(f5 x (by have:=kk.1; omega) (by have:=kk.1; omega)).trans ((k4.2 x (by have:=kk.1; omega)).trans (kk.2 x hx))⟩
  cases e2:(t.acc c (f.push false)).2 with
  | false =>
    (repeat (first | with_reducible_and_instances (first | refine WJ ?_ | refine W (J_ldq (by with_unfolding_all rfl)) ?_)))
    exact ⟨rfl,k5⟩
  | true =>
    (repeat (first | with_reducible_and_instances (first | refine WJ ?_ | refine W (J_ldq (by with_unfolding_all rfl)) ?_)))
    rw [nilChk_p,shift_p,ld1_p q5 rfl rfl,h1 e2,Int.zero_add,wrap_rng acc_rng]
    exact ⟨by unfold aR; rw [if_pos rfl,e2],k5⟩
theorem ans25 {c:Ci} (hc:c.ok) {f:Fo} (hf:f.ok) {t:Tn} (ht:t.ok):Ans Tryz.prog 25 [c.av,f.av,t.av] (aB true):=by
  intro S
  refine ACalls.ans_v (calls25 ?_)
  unfold m25
  refine boxA_of rfl fun S1 k1 n1 o1=>?_
  refine boxA_of (Fo.row_len f) fun S2 k2 n2 o2=>?_
  refine boxA_of (Tn.row_len t) fun S3 k3 n3 o3=>?_
  have kk:=(k1.trans k2).trans k3
  have p1:=(k3.2 _ (by omega)).trans ((k2.2 _ (by omega)).trans o1)
  have p2:=(k3.2 _ (by omega)).trans o2
  rw [ldN_p (n:=8) p1 rfl,ldN_p (n:=4) p2 (Fo.row_len f),ldN_p (n:=5) o3 (Tn.row_len t)]
  refine callF_ans (ans27 hc hf ht) ?_
  rw [extr0,extr1,ldN_p (n:=8) p1 rfl,ldN_p (n:=4) p2 (Fo.row_len f),ldN_p (n:=5) o3 (Tn.row_len t)]
  refine callF_ans (ans49 hc hf ht) ?_
  rw [extr0,extr1,bin_eql,onB_v,gd_T (decide_eq_true rfl),bin_eqlB,beq_self_eq_true]
  exact ⟨rfl,kk⟩
abbrev tnLf (s:Int):Tn:=.mk 1 s 0 [] []
abbrev tnLp (a:Int):Tn:=.mk 6 0 a [0,1] [tnLf 0,tnLf 1]
theorem is0:isB ca0 0 3 = true:=by rw [isB,ca0_right,Bool.true_and]; decide
theorem is1:isB ca0 1 3 = false:=by rw [isB,ca0_right,Bool.true_and]; decide
theorem after0:afterB ca0 0 = 1:=by
  rw [afterB,if_pos (by rw [ca0_right]; decide)]
  show (if isB ca0 0 3 = true then 0 + 2 ^ (0 + 0) else 0) = (1:Int)
  rw [is0]; rfl
theorem after1:afterB ca0 1 = 0:=by
  rw [afterB,if_pos (by rw [ca0_right]; decide)]
  show (if isB ca0 1 3 = true then 0 + 2 ^ (0 + 0) else 0) = (0:Int)
  rw [is1]; rfl
theorem valid0:validS ca0 0 = true:=rfl
theorem valid1:validS ca0 1 = true:=rfl
theorem beh01:behindS ca0 0 1 = true:=by rw [behindS,valid0,valid1,after0]; rfl
theorem beh10:behindS ca0 1 0 = true:=by rw [behindS,valid0,valid1,after1]; rfl
theorem beh11:behindS ca0 1 1 = false:=by rw [behindS,valid1,after1]; rfl
theorem chain01:chainS ca0 [0,1] = true:=by
  show (behindS ca0 0 1 && true) = true
  rw [beh01]; rfl
theorem may0:mayC ca0 foG = true:=by rw [mayC,ca0_right]; decide
theorem mayT:mayC ca0 (foOne 14 (.mk 1 ⟨#[]⟩ 0 [])) = true:=by rw [mayC,ca0_right]; decide
theorem pushG:foG.push false = foG:=by rw [push_one (by decide),push_const (by decide)]; rfl
theorem pushT:(foOne 14 (.mk 1 ⟨#[]⟩ 0 [])).push false = foOne 14 (.mk 1 ⟨#[]⟩ 0 []):=by rw [push_one (by decide),push_const (by decide)]; rfl
theorem small0:¬ 60 < ca0.gr.inputs:=by decide
theorem leaf0:(tnLf 0).acc ca0 fo2 = (0,true):=by rw [acc_2 valid0]; rfl
theorem leaf1:(tnLf 1).acc ca0 fo2 = (0,true):=by rw [acc_2 valid1]; rfl
theorem accG:acceptB ca0 foG (tnLp 0) = (0,true):=by
  have h:(tnLp 0).acc ca0 foG = (0,true):=by
    rw [acc_13 valid0,loopR,if_pos ⟨by decide,rfl,by decide,by decide,rfl,beh10,chain01,rfl⟩]
    show Tn.accs ca0 [tnLf 0,tnLf 1] [fo2,fo2] [0,1] 0 = _
    rw [accs_seq,seq_none,rat,rat,if_pos (show (tnLf 0).st = 0 from rfl),if_pos (show (tnLf 1).st = 1 from rfl),leaf0,leaf1]
    rfl
  rw [acceptB,if_neg (by rw [may0]; rintro (h | h); cases h; exact small0 h),pushG,h,if_pos rfl]
theorem accN:acceptB ca0 foG (tnLp 1) = (0,false):=by
  have h:(tnLp 1).acc ca0 foG = (0,false):=by
    rw [acc_13 valid0,loopR,if_neg]
    intro h
    have this:behindS ca0 1 1 = true:=h.2.2.2.2.2.1
    rw [beh11] at this
    cases this
  rw [acceptB,if_neg (by rw [may0]; rintro (h | h); cases h; exact small0 h),pushG,h,if_neg (by decide)]
theorem accT:acceptB ca0 (foOne 14 (.mk 1 ⟨#[]⟩ 0 [])) (.mk 7 0 0 [] []) = (1,true):=by
  have h:(Tn.mk 7 0 0 [] []).acc ca0 (foOne 14 (.mk 1 ⟨#[]⟩ 0 [])) = (1,true):=by rw [acc_t (by decide) valid0]; rfl
  rw [acceptB,if_neg (by rw [mayT]; rintro (h | h); cases h; exact small0 h),pushT,h,if_pos rfl]
theorem pushN:pushB (foOne 4 foG) = foOne 12 (.mk 1 ⟨#[]⟩ 0 []):=by
  rw [pushB,if_pos (by decide),push_not,push_one (by decide),push_const (by decide)]; rfl
theorem cv_fo1 {S:Store} {n:Nat} {k l:Int} {f:Fo} {r:List AV} (hl:r.length = 4) (hr:∀ (k:Nat) (u u2:AV),r[k]? = some u → f.row[k]? = some u2 → Cv S n u u2):Cv S n (.a [aI k,.v (.string ⟨#[]⟩),aI l,.l [r]]) (Fo.mk k ⟨#[]⟩ l [f]).av:=by
  rw [Fo.av,Fo.row_mk]
  refine .a _ _ rfl fun k u u2 e1 e2=>?_
  match k with
  | 0=>cases e1; cases e2; exact .v _
  | 1=>cases e1; cases e2; exact .v _
  | 2=>cases e1; cases e2; exact .v _
  | 3 =>
    cases e1; cases e2
    refine .l _ _ rfl (fun i c c2 h1 h2=>?_) (fun i c c2 k u u2 h1 h2 h3 h4=>?_)
    · match i with
      | 0=>cases h1; cases h2; rw [Fo.row_len,hl]
      | i + 1=>simp at h1
    · match i with
      | 0=>cases h1; cases h2; exact hr k u u2 h3 h4
      | i + 1=>simp at h1
  | k + 4=>simp at e1
theorem cv_fo0 {S:Store} {n:Nat} (k l:Int):∀ (j:Nat) (u u2:AV),[aI k,.v (.string ⟨#[]⟩),aI l,AV.nl][j]? = some u → (Fo.mk k ⟨#[]⟩ l []).row[j]? = some u2 → Cv S n u u2:=fun j u u2 e1 e2=>by
  rw [Fo.row_mk] at e2
  match j with
  | 0=>cases e1; cases e2; exact .v _
  | 1=>cases e1; cases e2; exact .v _
  | 2=>cases e1; cases e2; exact .v _
  | 3=>cases e1; cases e2; exact .nl
  | j + 4=>simp at e1
theorem cv_tn0 {S:Store} {n:Nat} (k s a:Int):∀ (j:Nat) (u u2:AV),[aI k,aI s,aI a,AV.nl,AV.nl][j]? = some u → (Tn.mk k s a [] []).row[j]? = some u2 → Cv S n u u2:=fun j u u2 e1 e2=>by
  rw [Tn.row_mk] at e2
  match j with
  | 0=>cases e1; cases e2; exact .v _
  | 1=>cases e1; cases e2; exact .v _
  | 2=>cases e1; cases e2; exact .v _
  | 3=>cases e1; cases e2; exact .nl
  | 4=>cases e1; cases e2; exact .nl
  | j + 5=>simp at e1
theorem cv_tl {S:Store} {n:Nat} (k s a:Int):Cv S n (.a [aI k,aI s,aI a,.nl,.nl]) (Tn.mk k s a [] []).av:=.a _ _ (by rw [Tn.row_len]; rfl) (cv_tn0 k s a)
theorem cv_lp {S:Store} {n:Nat} (a:Int):Cv S n (.a [aI 6,aI 0,aI a,.l [[aI 0],[aI 1]],.l [[aI 1,aI 0,aI 0,.nl,.nl],[aI 1,aI 1,aI 0,.nl,.nl]]]) (tnLp a).av:=by
  rw [Tn.av,Tn.row_mk]
  refine .a _ _ rfl fun k u u2 e1 e2=>?_
  match k with
  | 0=>cases e1; cases e2; exact .v _
  | 1=>cases e1; cases e2; exact .v _
  | 2=>cases e1; cases e2; exact .v _
  | 3=>cases e1; cases e2; exact treeI [0,1] _ _
  | 4 =>
    cases e1; cases e2
    refine .l _ _ rfl (fun i c c2 h1 h2=>?_) (fun i c c2 k u u2 h1 h2 h3 h4=>?_)
    · match i with
      | 0=>cases h1; cases h2; rw [Tn.row_len]; rfl
      | 1=>cases h1; cases h2; rw [Tn.row_len]; rfl
      | i + 2=>simp at h1
    · match i with
      | 0=>cases h1; cases h2; exact cv_tn0 1 0 0 k u u2 h3 h4
      | 1=>cases h1; cases h2; exact cv_tn0 1 1 0 k u u2 h3 h4
      | i + 2=>simp at h1
  | k + 5=>simp at e1
theorem bslT2 {e:Nat} {z1 z2 z3 z4 z5:AV} {r r2:List AV} {S:Store} {K:AV → Store → Prop} (hr:r.length = 5) (hr2:r2.length = 5) (k:K (.l [r,r2]) S):bslN e 5 2 [z1,z2,z3,z4,z5] [(0,.a r),(1,.a r2)] S K:=by
  match r,hr,r2,hr2 with
  | [u,v,w,x,y],_,[u2,v2,w2,x2,y2],_ =>
    refine ⟨[u,v,w,x,y,u2,v2,w2,x2,y2],?_,.inr ?_⟩
    · simp [fillA,cellsOf,spl,List.range_succ]
    · simpa [chunks,List.range_succ] using k
theorem bslT1 {e:Nat} {z1 z2 z3 z4 z5:AV} {r:List AV} {S:Store} {K:AV → Store → Prop} (hr:r.length = 5) (k:K (.l [r]) S):bslN e 5 1 [z1,z2,z3,z4,z5] [(0,.a r)] S K:=by
  match r,hr with
  | [u,v,w,x,y],_ =>
    refine ⟨[u,v,w,x,y],?_,.inr ?_⟩
    · simp [fillA,cellsOf,spl,List.range_succ]
    · simpa [chunks,List.range_succ] using k
theorem okG:foG.ok:=Pu.ok (.o _ _ (by decide) (.c _ (by decide)))
theorem okLf (s:Int) (h:i64R s):(tnLf s).ok:=.mk _ _ _ _ _ ⟨by decide,by decide⟩ h ⟨by decide,by decide⟩ (by decide) (fun x hx=>by cases hx) (by decide) (fun x hx=>by cases hx)
theorem okLp (a:Int) (h:i64R a):(tnLp a).ok:=.mk _ _ _ _ _ ⟨by decide,by decide⟩ ⟨by decide,by decide⟩ h (by decide) (fun x hx=>by
  simp only [List.mem_cons,List.not_mem_nil,or_false] at hx
  rcases hx with rfl | rfl <;> exact ⟨by decide,by decide⟩) (by simp) (fun x hx=>by
  simp only [List.mem_cons,List.not_mem_nil,or_false] at hx
  rcases hx with rfl | rfl
  · exact okLf 0 ⟨by decide,by decide⟩
  · exact okLf 1 ⟨by decide,by decide⟩)
theorem ans19:Ans Tryz.prog 19 [] (aB true):=by
  intro S
  refine ACalls.ans_v (calls19 ?_)
  unfold m19
  have h1:=ans27 ca0_ok okG (okLp 0 ⟨by decide,by decide⟩)
  have h2:=ans27 ca0_ok okG (okLp 1 ⟨by decide,by decide⟩)
  have h3:=ans27 ca0_ok (f:=foOne 14 (.mk 1 ⟨#[]⟩ 0 [])) (Pu.ok (.o _ _ (by decide) (.c _ (by decide)))) (t:=.mk 7 0 0 [] []) (.mk _ _ _ _ _ ⟨by decide,by decide⟩ ⟨by decide,by decide⟩ ⟨by decide,by decide⟩ (by decide) (fun x hx=>by cases hx) (by decide) (fun x hx=>by cases hx))
  have h4:=ans21 (f:=foOne 4 foG) (.mk _ _ _ _ ⟨by decide,by decide⟩ ⟨by decide,by decide⟩ (by decide) (by simp) fun g hg=>by rw [List.mem_singleton.1 hg]; exact okG)
  rw [accG] at h1
  rw [accN] at h2
  rw [accT] at h3
  rw [pushN] at h4
  have hci:∀ (T:Store) (n:Nat),Cv T n (.a [aI 0,.l [[aI 3,aI 0]],.nl,.nl,.nl,.nl,.nl,.nl]) ca0.av:=fun T n=>cv_ci (.v _) (treeP [(3,0)] _ _)
  have hfG:∀ (T:Store) (n:Nat),Cv T n (.a [aI 13,.v (.string ⟨#[]⟩),aI 0,.l [[aI 2,.v (.string ⟨#[]⟩),aI 0,.nl]]]) foG.av:=fun T n=>cv_fo1 rfl (cv_fo0 2 0)
  rw [bld_of (cs:=[aI 3,aI 0]) rfl]
  refine bslP ?_
  rw [bld_of (cs:=[aI 0,.l [[aI 3,aI 0]],.nl,.nl,.nl,.nl,.nl,.nl]) rfl]
  refine boxA_of rfl fun S1 k1 n1 o1=>?_
  refine stA_of (cs':=[aI 0,.l [[aI 3,aI 0]],.nl,.nl,.nl,.nl,.nl,.nl]) o1 rfl rfl fun S2 n2 o2 f2=>?_
  have k2:=k1.st (Nat.le_refl _) n2 f2
  rw [bld_of (cs:=[aI 2,.v (.string ⟨#[]⟩),aI 0,.nl]) rfl]
  refine bslA4 rfl ?_
  rw [bld_of (cs:=[aI 13,.v (.string ⟨#[]⟩),aI 0,.l [[aI 2,.v (.string ⟨#[]⟩),aI 0,.nl]]]) rfl]
  refine boxA_of rfl fun S3 k3 n3 o3=>?_
  refine stA_of (cs':=[aI 13,.v (.string ⟨#[]⟩),aI 0,.l [[aI 2,.v (.string ⟨#[]⟩),aI 0,.nl]]]) o3 rfl rfl fun S4 n4 o4 f4=>?_
  have k4:=k3.st (Nat.le_refl _) n4 f4
  refine bsl2 rfl rfl ?_
  rw [bld_of (cs:=[aI 1,aI 0,aI 0,.nl,.nl]) rfl,bld_of (cs:=[aI 1,aI 1,aI 0,.nl,.nl]) rfl]
  refine bslT2 rfl rfl ?_
  rw [bld_of (cs:=[aI 6,aI 0,aI 0,.l [[aI 0],[aI 1]],.l [[aI 1,aI 0,aI 0,.nl,.nl],[aI 1,aI 1,aI 0,.nl,.nl]]]) rfl]
  refine boxA_of rfl fun S5 k5 n5 o5=>?_
  refine stA_of (cs':=[aI 6,aI 0,aI 0,.l [[aI 0],[aI 1]],.l [[aI 1,aI 0,aI 0,.nl,.nl],[aI 1,aI 1,aI 0,.nl,.nl]]]) o5 rfl rfl fun S6 n6 o6 f6=>?_
  have k6:=k5.st (Nat.le_refl _) n6 f6
  have p6:=(k6.2 _ (by omega)).trans ((k4.2 _ (by omega)).trans o2)
  have q6:=(k6.2 _ (by omega)).trans o4
  rw [ldN_p (n:=8) p6 rfl,ldN_p (n:=4) q6 rfl,ldN_p (n:=5) o6 rfl]
  refine callF_cv' (args:=[.a [aI 0,.l [[aI 3,aI 0]],.nl,.nl,.nl,.nl,.nl,.nl],.a [aI 13,.v (.string ⟨#[]⟩),aI 0,.l [[aI 2,.v (.string ⟨#[]⟩),aI 0,.nl]]],.a [aI 6,aI 0,aI 0,.l [[aI 0],[aI 1]],.l [[aI 1,aI 0,aI 0,.nl,.nl],[aI 1,aI 1,aI 0,.nl,.nl]]]]) h1 rfl (cv_3 (hci _ _) (hfG _ _) (cv_lp 0)) ?_
  rw [extr0,extr1,shift_p]
  refine stF_of o6 (by decide) rfl fun S7 n7 o7 f7=>?_
  have o7:S7.obj S4.n = some (.cells 37 [[aI 6,aI 0,aI 1,.l [[aI 0],[aI 1]],.l [[aI 1,aI 0,aI 0,.nl,.nl],[aI 1,aI 1,aI 0,.nl,.nl]]]] true):=o7
  have p7:=(f7 _ (by omega)).trans p6
  have q7:=(f7 _ (by omega)).trans q6
  have k7:Keep S S7:=((k2.trans k4).trans k6).st (id:=S4.n) (by have:=k2.1; have:=k4.1; omega) n7 f7
  rw [ldN_p (n:=8) p7 rfl,ldN_p (n:=4) q7 rfl,ldN_p (n:=5) o7 rfl]
  refine callF_cv' (args:=[.a [aI 0,.l [[aI 3,aI 0]],.nl,.nl,.nl,.nl,.nl,.nl],.a [aI 13,.v (.string ⟨#[]⟩),aI 0,.l [[aI 2,.v (.string ⟨#[]⟩),aI 0,.nl]]],.a [aI 6,aI 0,aI 1,.l [[aI 0],[aI 1]],.l [[aI 1,aI 0,aI 0,.nl,.nl],[aI 1,aI 1,aI 0,.nl,.nl]]]]) h2 rfl (cv_3 (hci _ _) (hfG _ _) (cv_lp 1)) ?_
  rw [extr0,extr1,ldN_p (n:=8) p7 rfl,bld_of (cs:=[aI 1,.v (.string ⟨#[]⟩),aI 0,.nl]) rfl]
  refine bslA4 rfl ?_
  rw [bld_of (cs:=[aI 14,.v (.string ⟨#[]⟩),aI 0,.l [[aI 1,.v (.string ⟨#[]⟩),aI 0,.nl]]]) rfl,bld_of (cs:=[aI 7,aI 0,aI 0,.nl,.nl]) rfl]
  refine callF_cv' (args:=[.a [aI 0,.l [[aI 3,aI 0]],.nl,.nl,.nl,.nl,.nl,.nl],.a [aI 14,.v (.string ⟨#[]⟩),aI 0,.l [[aI 1,.v (.string ⟨#[]⟩),aI 0,.nl]]],.a [aI 7,aI 0,aI 0,.nl,.nl]]) h3 rfl (cv_3 (hci _ _) (cv_fo1 rfl (cv_fo0 1 0)) (cv_tl 7 0 0)) ?_
  rw [extr0,extr1,ldN_p (n:=4) q7 rfl]
  refine bslA4 rfl ?_
  rw [bld_of (cs:=[aI 4,.v (.string ⟨#[]⟩),aI 0,.l [[aI 13,.v (.string ⟨#[]⟩),aI 0,.l [[aI 2,.v (.string ⟨#[]⟩),aI 0,.nl]]]]]) rfl]
  refine callF_cv' (args:=[.a [aI 4,.v (.string ⟨#[]⟩),aI 0,.l [[aI 13,.v (.string ⟨#[]⟩),aI 0,.l [[aI 2,.v (.string ⟨#[]⟩),aI 0,.nl]]]]]]) h4 rfl (fun k u u2 e1 e2=>?_) ?_
  · match k with
    | 0 =>
      cases e1; cases e2
      refine cv_fo1 rfl fun k u u2 e1 e2=>?_
      have hh:Cv S7 S7.n (.a [aI 13,.v (.string ⟨#[]⟩),aI 0,.l [[aI 2,.v (.string ⟨#[]⟩),aI 0,.nl]]]) foG.av:=hfG _ _
      cases hh with
      | a _ _ hl hR=>exact hR k u u2 e1 e2
    | k + 1=>simp at e1
  refine boxA_of rfl fun S8 k8 n8 o8=>?_
  refine stA_of (cs':=(foOne 12 (.mk 1 ⟨#[]⟩ 0 [])).row) o8 (Fo.row_len _) rfl fun S9 n9 o9 f9=>?_
  have k9:=k8.st (Nat.le_refl _) n9 f9
  rw [Fo.row_mk] at o9
  rw [onB_v,gd_T rfl,bin_eql,onB_v,gd_T (decide_eq_true rfl),un_not,onB_v,gd_nF rfl,onB_v,gd_T rfl,bin_eql,onB_v,gd_T (decide_eq_true rfl),shift_p,ld1_p o9 rfl rfl,bin_eql,onB_v,gd_T (decide_eq_true rfl),shift_p,ld1_p o9 rfl rfl,lenS_foL,bin_eql,onB_v,gd_T (decide_eq_true (show (([Fo.mk 1 ⟨#[]⟩ 0 []].length:Nat):Int) = 1 from rfl)),shift_p,ld1_p o9 rfl rfl,ixF0]
  have rk:(Fo.mk 1 ⟨#[]⟩ 0 []).row[0]? = some (aI 1):=by rw [Fo.row_mk]; rfl
  have sq:∀ K:AV → Store → Prop,shift (.q (Fo.mk 1 ⟨#[]⟩ 0 []).row 0) 0 S9 K = K (.q (Fo.mk 1 ⟨#[]⟩ 0 []).row 0) S9:=fun K=>rfl
  rw [sq,show ∀ K:AV → Store → Prop,ld1 (.q (Fo.mk 1 ⟨#[]⟩ 0 []).row 0) S9 K = K (aI 1) S9 from fun K=>by simp [ld1,rd1,place,rk],bin_eql]
  exact ⟨rfl,k7.trans k9⟩
noncomputable def nextsTo (c:Ci) (s:Int) (k:Nat):List Int:=((List.range k).map fun x:Nat=>afterB c s + (x:Int)).filter (validS c)
noncomputable def nextsB (c:Ci) (s:Int):List Int:=if validS c s = true then nextsTo c s (2 ^ c.inputs.toNat) else []
theorem nextsTo_succ (c:Ci) (s:Int) (k:Nat):nextsTo c s (k + 1) = nextsTo c s k ++ (if validS c (afterB c s + (k:Int)) = true then [afterB c s + (k:Int)] else []):=by
  unfold nextsTo
  rw [List.range_succ,List.map_append,List.filter_append]
  congr 1
  simp [List.filter_cons]
theorem nextsTo_len (c:Ci) (s:Int) (k:Nat):(nextsTo c s k).length ≤ k:=by
  unfold nextsTo
  have:=List.length_filter_le (validS c) ((List.range k).map fun x:Nat=>afterB c s + (x:Int))
  simpa using this
theorem after_rng {c:Ci} (hc:Cs c) (s:Int):0 ≤ afterB c s ∧ afterB c s ≤ 1152921504606846976:=by
  obtain ⟨m,h1,h2,h3,h4,h5⟩:=hc.sum
  unfold afterB
  rw [if_pos (by rw [hc.right,h2]; simp; omega)]
  have:=afterTo_le c s c.latches.length
  have h6:=pow_le60 (n:=c.inputs.toNat + c.latches.length) (by omega)
  omega
theorem ans30 {c:Ci} (hc:Cs c) (hi:c.inputs ≤ 30) (s:Int):Ans Tryz.prog 30 [c.av,aI s] (aL aI (nextsB c s)):=by
  refine ACalls.ans_own (f:=fun n=>.int .i64 n) (e:=3) fun S=>calls30 ?_
  obtain ⟨m,h1,h2,h3,h4,h5⟩:=hc.sum
  obtain ⟨a0,a1⟩:=after_rng hc s
  unfold m30
  obtain ⟨j,hj⟩:=Int.eq_ofNat_of_zero_le h4
  have hj30:j ≤ 30:=by omega
  have hp:2 ^ j ≤ 2 ^ 30:=Nat.pow_le_pow_right (by decide) hj30
  have hp2:(2:Nat) ^ 30 = 1073741824:=by decide
  refine boxA_of rfl fun S1 k1 n1 o1=>?_
  refine loop30_0 (fun y z S'=>∃ i:Nat,z = aI i ∧ i ≤ 2 ^ j ∧ Keep S S' ∧ S1.n ≤ S'.n ∧ S'.obj S.n = some (.cells 42 [c.cells] true) ∧ (0 < i → validS c s = true) ∧ Own S1.n S' y 3 ((nextsTo c s i).map fun n=>[.v (.int .i64 n)]))
    (fun _ z _=>2 ^ j - ((intA z).getD 0).toNat) ⟨0,rfl,Nat.zero_le _,k1,Nat.le_refl _,o1,(fun h=>by omega),.nl _ _ _⟩ ?_
  rintro y _ S2 ⟨i,rfl,hi,k2,n2,o2,hv,w2⟩ KE hKE
  unfold b30_0
  have hadd:∀ (T:Store) (K:AV → Store → Prop),bin .add 0 (aI i) (.v (.int .i64 1)) T K = K (aI (i + 1:Nat)) T:=fun T K=>bin_add (by omega) (by omega) 0
  have fin:validS c s = false ∨ i = 2 ^ j → Own S1.n S2 y 3 ((nextsB c s).map fun n=>[.v (.int .i64 n)]):=by
    intro h
    unfold nextsB
    rcases h with h | h
    · rw [if_neg (by simp [h])]
      have:i = 0:=by
        rcases Nat.eq_zero_or_pos i with h0 | h0
        · exact h0
        · rw [hv h0] at h; cases h
      subst this
      exact w2
    · cases e:validS c s with
      | true=>rw [if_pos rfl,hj,Int.toNat_natCast,← h]; exact w2
      | false =>
        have:i = 0:=by
          rcases Nat.eq_zero_or_pos i with h0 | h0
          · exact h0
          · rw [hv h0] at e; cases e
        have h2:0 < 2 ^ j:=Nat.pow_pos (by decide)
        omega
  rw [shift_p,ld1_p o2 rfl rfl]
  show bin .shl 0 (.v (.int .i64 1)) (aI c.inputs) _ _
  have hpc:((2:Int) ^ j) = ((2 ^ j:Nat):Int):=by rw [Int.natCast_pow]; rfl
  rw [hj,bin_shl1 (by omega),hpc,bin_lss,onB_v]
  refine gd_of (fun hlt=>?_) (fun hge=>?_)
  · have hlt:i < 2 ^ j:=by have:=of_decide_eq_true hlt; omega
    rw [ldN_p (n:=8) o2 rfl]
    refine callF_ans (ans58 hc s) ?_
    rw [onB_v]
    refine gd_of (fun hvs=>?_) (fun hvs=>⟨_,rfl,k2,(fin (.inl hvs)).low k1.1⟩)
    rw [ldN_p (n:=8) o2 rfl]
    refine callF_ans (ans59 hc.ok s) ?_
    rw [bin_add (by omega) (by omega),ldN_p (n:=8) o2 rfl]
    refine callF_ans (ans58 hc (afterB c s + i)) ?_
    rw [onB_v]
    have hlen:=nextsTo_len c s i
    refine gd_of (fun hvt=>?_) (fun hvt=>?_)
    · refine bsl1 rfl (fun _ h=>by cases h) ?_
      refine w2.app (c:=[aI (afterB c s + i)]) (by omega) rfl (by simp; omega) (fun z S3 w3 b3 hz=>?_) rfl
      obtain ⟨m3,hm3⟩:=hz
      have n3:=b3.1
      have old3:∀ x,x < S1.n → S3.obj x = S2.obj x:=fun x hx=>b3.2 x (by omega) (fun b m e=>by have:=w2.lt e; omega)
      rw [hadd]
      refine hKE _ _ _ ⟨i + 1,rfl,hlt,⟨by have:=k2.1; omega,fun x hx=>(old3 x (by omega)).trans (k2.2 x hx)⟩,by omega,(old3 _ (by omega)).trans o2,fun _=>hvs,?_⟩ (by simp [intA]; omega)
      rw [nextsTo_succ,if_pos hvt,List.map_append]
      exact w3
    · rw [hadd]
      refine hKE _ _ _ ⟨i + 1,rfl,hlt,k2,n2,o2,fun _=>hvs,?_⟩ (by simp [intA]; omega)
      rw [nextsTo_succ,if_neg (by simp [hvt]),List.append_nil]
      exact w2
  · have hge:i = 2 ^ j:=by have:=of_decide_eq_false hge; omega
    exact ⟨_,rfl,k2,(fin (.inr hge)).low k1.1⟩
theorem nexts_rng {c:Ci} (hc:Cs c) (hi:c.inputs ≤ 30) {s x:Int} (h:x ∈ nextsB c s):0 ≤ x ∧ x ≤ 1152921505680588800:=by
  obtain ⟨a0,a1⟩:=after_rng hc s
  obtain ⟨m,h1,h2,h3,h4,h5⟩:=hc.sum
  unfold nextsB at h
  split at h
  · unfold nextsTo at h
    have h:=(List.mem_filter.1 h).1
    obtain ⟨k,hk,rfl⟩:=List.mem_map.1 h
    have hk:=List.mem_range.1 hk
    have hp:2 ^ c.inputs.toNat ≤ 2 ^ 30:=Nat.pow_le_pow_right (by decide) (by omega)
    have hp2:(2:Nat) ^ 30 = 1073741824:=by decide
    omega
  · cases h
theorem nexts_len {c:Ci} (hi:c.inputs ≤ 30) (s:Int):(nextsB c s).length ≤ 1073741824:=by
  unfold nextsB
  split
  · have:=nextsTo_len c s (2 ^ c.inputs.toNat)
    have hp:2 ^ c.inputs.toNat ≤ 2 ^ 30:=Nat.pow_le_pow_right (by decide) (by omega)
    have hp2:(2:Nat) ^ 30 = 1073741824:=by decide
    omega
  · simp
abbrev lfR (s:Int):List AV:=[aI 1,aI s,aI 0,.nl,.nl]
theorem own_lf {n:Nat} {S:Store} {x:AV} {e:Nat} {l:List Int} (h:Own n S x e (l.map lfR)) {k m:Nat} (hk:k ≤ n):Cv (S.frz (newer k)) m x (tnL (l.map tnLf)):=by
  have e2:tnL (l.map tnLf) = .l (l.map fun s=>(tnLf s).row):=by unfold tnL; rw [List.map_map]; rfl
  rw [e2]
  rcases h with ⟨rfl,he⟩ | ⟨id,rfl,h1,h2,h3⟩
  · obtain rfl:l = []:=List.map_eq_nil_iff.1 he
    exact .nl
  · refine .s id 0 _ e _ _ (by rw [frz_of h3]; have:newer k id = true:=by simp [newer]; omega
                               rw [this]; rfl) (by simp) (by simp) (fun i c c2 hi hi2=>?_) (fun i c c2 k u u2 hi hi2 hk hk2=>?_)
    · rw [Nat.zero_add,List.getElem?_map] at hi
      rw [List.getElem?_map] at hi2
      cases hl:l[i]? with
      | none=>rw [hl] at hi; cases hi
      | some s=>rw [hl] at hi hi2; cases hi; cases hi2; rw [Tn.row_len]; rfl
    · rw [Nat.zero_add,List.getElem?_map] at hi
      rw [List.getElem?_map] at hi2
      cases hl:l[i]? with
      | none=>rw [hl] at hi; cases hi
      | some s=>rw [hl] at hi hi2; cases hi; cases hi2; exact cv_tn0 1 s 0 k u u2 hk hk2
theorem law8 {l:List Int} (hl:∀ x ∈ l,0 ≤ x ∧ x < 65536) {a:Int} (ha:0 ≤ a ∧ a < 256) {sl:List Int} (hsl:∀ x ∈ sl,0 ≤ x ∧ x < 256) (hsz:sl.length ≤ 9223372036854775807) {b:Int} (hb:0 ≤ b ∧ b < 256):Ans Tryz.prog 8 [aL aW16 l,aU8 a,aL aU8 sl,aU8 b] (aB true):=by
  intro S
  refine ACalls.ans_v (calls8 ?_)
  unfold m8
  have hof:=of23 hl (m:=[]) (fun x hx=>by cases hx) (S:=S)
  refine .inl ((ACalls.conv (args:=[aL aW16 l,.nl]) (args2:=[aL aW16 l,aL aU8 []]) rfl (cv_2 ((Tree.aL fun _ _=>Tree.v _) _ _) .nl) hof).mono ?_)
  rintro e S' ⟨tr,rfl,rfl,c,f0,rfl,hc,hcv,hf0⟩
  show extr _ _ _ _
  rw [extr0,extr1]
  have hcs:Cs c:=⟨hc.ok,hc.right,by
    obtain ⟨g1,g2,g3⟩:=gr_inp hc.right
    have:=hc.inp
    have:=hc.lats
    omega⟩
  obtain ⟨m,h1,h2,h3,h4,h5⟩:=hcs.sum
  have hin:=hc.inp
  have hla:=hc.lats
  have han:=hc.ands
  refine boxA_of rfl fun S2 k2 n2 o2=>?_
  refine boxA_of rfl fun S3 k3 n3 o3=>?_
  refine stA_of (cs':=c.cells) ((k3.2 _ (by omega)).trans o2) rfl rfl fun S4 n4 o4 f4=>?_
  refine stA_of (cs':=f0.row) ((f4 _ (by omega)).trans o3) (Fo.row_len f0) rfl fun S5 n5 o5 f5=>?_
  have k5:Keep S' S5:=((k2.trans k3).st (id:=S'.n) (Nat.le_refl _) n4 f4).st (id:=S2.n) (by omega) n5 f5
  have p5:=(f5 _ (by omega)).trans o4
  have hq:(0:Int) < 2 * ((m:Int) + 1 + c.ands.length):=by omega
  rw [shift_p,ld1_p p5 rfl rfl,shift_p,ld1_p p5 rfl rfl,lenS_pL,bin_add (by omega) (by omega),h1,convI_64 _ (by omega) (by omega),bin_add (by omega) (by omega),shift_p,ld1_p p5 rfl rfl,lenS_pL,bin_add (by omega) (by omega),bin_mul (by omega) (by omega),bin_rem (by omega)]
  obtain ⟨lit,hlit⟩:∃ lit,lit = a.tmod (2 * ((m:Int) + 1 + c.ands.length)):=⟨_,rfl⟩
  have hlr:0 ≤ lit ∧ lit < 256:=by
    rw [hlit,Int.tmod_eq_emod_of_nonneg ha.1]
    have e1:=Int.emod_nonneg a (show 2 * ((m:Int) + 1 + c.ands.length) ≠ 0 by omega)
    have e3:=Int.emod_lt_of_pos a hq
    omega
  rw [← hlit,bld_of (cs:=[aI 3,.v (.string ⟨#[]⟩),aI lit,.nl]) rfl]
  refine bslA4 rfl ?_
  rw [bld_of (cs:=[aI 13,.v (.string ⟨#[]⟩),aI 0,.l [[aI 3,.v (.string ⟨#[]⟩),aI lit,.nl]]]) rfl]
  refine boxA_of rfl fun S6 k6 n6 o6=>?_
  refine stA_of (cs':=[aI 13,.v (.string ⟨#[]⟩),aI 0,.l [[aI 3,.v (.string ⟨#[]⟩),aI lit,.nl]]]) o6 rfl rfl fun S7 n7 o7 f7=>?_
  have k7:=k6.st (Nat.le_refl _) n7 f7
  have hbr:0 ≤ b.tmod 8 ∧ b.tmod 8 < 8:=by
    rw [Int.tmod_eq_emod_of_nonneg hb.1]; omega
  rw [convI_64 _ (by omega) (by omega),bin_rem (by decide),bld_of (cs:=[aI 6,aI 0,aI (b.tmod 8),.nl,.nl]) rfl]
  generalize b.tmod 8 = at_ at hbr
  refine boxA_of rfl fun S8 k8 n8 o8=>?_
  refine stA_of (cs':=[aI 6,aI 0,aI at_,.nl,.nl]) o8 rfl rfl fun S9 n9 o9 f9=>?_
  have k9:=k8.st (Nat.le_refl _) n9 f9
  have c9:=(k9.2 _ (by omega)).trans ((k7.2 _ (by omega)).trans p5)
  have f9':=(k9.2 _ (by omega)).trans o7
  have kA:Keep S' S9:=(k5.trans k7).trans k9
  have hle:S'.n < S5.n ∧ S5.n < S7.n ∧ S7.n < S9.n:=by omega
  refine loop8_0 (fun y z S'=>∃ (i:Nat) (s st:Int) (zs zk:AV) (sts:List Int),z = aI i ∧ y = aI s ∧ i ≤ sl.length ∧ i ≤ 8 ∧ sts.length = i ∧ i64R s ∧ i64R st ∧ (∀ x ∈ sts,i64R x) ∧ S9.n ≤ S'.n ∧ (∀ x,x < S7.n → S'.obj x = S9.obj x) ∧
      S'.obj S7.n = some (.cells 37 [[aI 6,aI st,aI at_,zs,zk]] true) ∧ Own S9.n S' zs 3 (sts.map fun a=>[aI a]) ∧ Own S9.n S' zk 37 (sts.map lfR) ∧ (∀ i b m b' m',zs = .s i b m → zk ≠ .s i b' m'))
    (fun _ z _=>sl.length - ((intA z).getD 0).toNat) ⟨0,0,0,.nl,.nl,[],rfl,rfl,Nat.zero_le _,Nat.zero_le _,rfl,⟨by decide,by decide⟩,⟨by decide,by decide⟩,(fun x hx=>by cases hx),Nat.le_refl _,fun x _=>rfl,o9,.nl _ _ _,.nl _ _ _,fun i b m b' m' h=>by cases h⟩ ?_
  rintro _ _ SA ⟨i,s,st,zs,zk,sts,rfl,rfl,hi,hi8,hlen,hsr,hstr,hall,nA,fA,oA,wS,wK,hne⟩ KE hKE
  unfold b8_0
  have cA:=(fA _ (by omega)).trans c9
  have fAo:=(fA _ (by omega)).trans f9'
  have kB:Keep S' SA:=⟨by have:=kA.1; omega,fun x hx=>(fA x (by omega)).trans (kA.2 x hx)⟩
  have fin:callF Tryz.prog 19 [] SA (fun r S''=>r = .ret (aB true) ∧ Keep S' S'') fun v S=>onB v fun b=>gd b (ldN 8 (.p S'.n 0 0) S fun v1 S=>ldN 4 (.p S5.n 0 0) S fun v2 S=>ldN 5 (.p S7.n 0 0) S fun v3 S=>callF Tryz.prog 25 [v1,v2,v3] S (fun r S''=>r = .ret (aB true) ∧ Keep S' S'') fun v S=>.ret v = AEnd.ret (aB true) ∧ Keep S' S) (AEnd.ret (aB false) = .ret (aB true) ∧ Keep S' S):=by
    refine callF_ans ans19 ?_
    rw [onB_v,gd_true,ldN_p (n:=8) cA rfl,ldN_p (n:=4) fAo rfl,ldN_p (n:=5) oA rfl]
    have hfo:(foOne 13 (foQ lit)).ok:=Pu.ok (.o _ _ (by decide) (.a _ hlr.1 ⟨by omega,by omega⟩))
    have hto:(Tn.mk 6 st at_ sts (sts.map tnLf)).ok:=.mk _ _ _ _ _ ⟨by decide,by decide⟩ hstr ⟨by omega,by omega⟩ (by omega) hall (by simp; omega) fun t ht=>by
      obtain ⟨x,hx,rfl⟩:=List.mem_map.1 ht
      exact okLf x (hall x hx)
    refine callF_frz (args:=[.a c.cells,.a [aI 13,.v (.string ⟨#[]⟩),aI 0,.l [[aI 3,.v (.string ⟨#[]⟩),aI lit,.nl]]],.a [aI 6,aI st,aI at_,zs,zk]]) (args2:=[c.av,(foOne 13 (foQ lit)).av,(Tn.mk 6 st at_ sts (sts.map tnLf)).av]) (newer S9.n) rfl (cv_3 (Ci.tr' c _ _) (cv_fo1 rfl (cv_fo0 3 lit)) ?_) (ans25 hc.ok hfo hto) ⟨rfl,kB.frz (by have:=kA.1; omega)⟩
    rw [Tn.av,Tn.row_mk]
    refine .a _ _ rfl fun k u u2 e1 e2=>?_
    match k with
    | 0=>cases e1; cases e2; exact .v _
    | 1=>cases e1; cases e2; exact .v _
    | 2=>cases e1; cases e2; exact .v _
    | 3=>cases e1; cases e2; exact own_in wS (Nat.le_refl _)
    | 4=>cases e1; cases e2; exact own_lf wK (Nat.le_refl _)
    | k + 5=>simp at e1
  rw [lenS_aL,bin_lss,onB_v]
  refine gd_of (fun hlt=>?_) (fun hge=>fin)
  have hlt:i < sl.length:=by have:=of_decide_eq_true hlt; omega
  rw [bin_lss,onB_v]
  refine gd_of (fun h8=>?_) (fun h8=>fin)
  have h8:i < 8:=by have:=of_decide_eq_true h8; omega
  clear fin
  have hsi:=hsl _ (List.getElem_mem hlt)
  rw [ldN_p (n:=8) cA rfl]
  refine callF_ans (ans30 hcs (by omega) s) ?_
  have hp2:(1:Int) ≤ 2 ^ m:=by have:(0:Int) < 2 ^ m:=Int.pow_pos (by decide); omega
  have radd:∀ {P:AV → Prop},(∃ q,(bin .shl 0 (.v (.int .i64 1)) (aI m) SA fun v S=>v = q ∧ S = SA) ∧ P q) = P (aI (2 ^ m)):=J_of (op:=fun K=>bin .shl 0 (.v (.int .i64 1)) (aI m) SA K) fun K=>bin_shl1 h3
  have rconv:∀ {P:AV → Prop},(∃ q,(convI .i64 (aU8 sl[i]) SA fun v S=>v = q ∧ S = SA) ∧ P q) = P (aI sl[i]):=J_of (op:=fun K=>convI .i64 (aU8 sl[i]) SA K) fun K=>convI_64 _ (by omega) (by omega)
  have rrem:∀ {P:AV → Prop},(∃ q,(bin .rem 0 (aI sl[i]) (aI (2 ^ m)) SA fun v S=>v = q ∧ S = SA) ∧ P q) = P (aI (sl[i].tmod (2 ^ m))):=J_of (op:=fun K=>bin .rem 0 (aI sl[i]) (aI (2 ^ m)) SA K) fun K=>bin_rem (by omega) .i64 0
  show ∃ q:AV,_
  (repeat (first | with_reducible_and_instances (first | refine WJ ?_ | refine W (J_ix hlt) ?_ | refine W (rconv) ?_ | refine W (radd) ?_ | refine W (rrem) ?_ | refine W (J_ldq (by with_unfolding_all rfl)) ?_)))
  have hadd:∀ (T:Store) (K:AV → Store → Prop),bin .add 0 (aI i) (.v (.int .i64 1)) T K = K (aI (i + 1:Nat)) T:=fun T K=>bin_add (by omega) (by omega) 0
  have tail:∀ (v st':Int) (T:Store),i64R v → i64R st' → T.n = SA.n → T.obj S7.n = some (.cells 37 [[aI 6,aI st',aI at_,zs,zk]] true) → (∀ x,x ≠ S7.n → T.obj x = SA.obj x) →
      shift (.p S7.n 0 0) 3 T fun v145 S=>ld1 v145 S fun v146 S=>bslN 3 1 1 [.v (.int .i64 0)] [(0,aI v)] S fun v147 S=>appS 3 1 8 v146 v147 S fun v148 S=>shift (.p S7.n 0 0) 3 S fun v149 S=>stN 1 v149 v148 S fun _ S=>shift (.p S7.n 0 0) 4 S fun v151 S=>ld1 v151 S fun v152 S =>
        bld [(0,1),(1,1),(2,1),(3,1),(4,1)] [.v (.int .i64 0),.v (.int .i64 0),.v (.int .i64 0),.nl,.nl] [(0,.v (.int .i64 1)),(1,aI v)] S fun v153 S=>bslN 37 5 1 [.v (.int .i64 0),.v (.int .i64 0),.v (.int .i64 0),.nl,.nl] [(0,v153)] S fun v154 S=>appS 37 5 72 v152 v154 S fun v155 S =>
        shift (.p S7.n 0 0) 4 S fun v156 S=>stN 1 v156 v155 S fun _ S=>bin .add 0 (aI i) (.v (.int .i64 1)) S fun v158 S=>KE 111 (env8_0 (aL aU8 sl) (.p S'.n 0 0) (aI m) (.p S5.n 0 0) (.p S7.n 0 0) (aI v) v158) S:=by
    intro v st' T hv hst' nT oT fT
    have uS:Own S9.n T zs 3 (sts.map fun a=>[aI a]):=wS.same (by omega) fun x hx _=>fT x (by omega)
    have uK:Own S9.n T zk 37 (sts.map lfR):=wK.same (by omega) fun x hx _=>fT x (by omega)
    rw [shift_p,ld1_p oT rfl rfl]
    refine bsl1 rfl (fun _ h=>by cases h) ?_
    refine uS.app (c:=[aI v]) (by omega) rfl (by simp; omega) (fun y1 T1 v1 b1 hy1=>?_) rfl
    obtain ⟨m1,hm1⟩:=hy1
    have g1:=b1.1
    have old1:∀ x,x < S9.n → T1.obj x = T.obj x:=fun x hx=>b1.2 x (by omega) (fun b m e=>by have:=uS.lt e; omega)
    have uK1:Own S9.n T1 zk 37 (sts.map lfR):=uK.but b1 fun i b m b' m' e e2=>hne i b m b' m' e e2
    rw [shift_p]
    refine stF_of ((old1 _ (by omega)).trans oT) (by simp) (by rw [hm1]; rfl) fun T2 g2 q2 w2=>?_
    have q2:T2.obj S7.n = some (.cells 37 [[aI 6,aI st',aI at_,y1,zk]] true):=q2
    have v2:=v1.st (id:=S7.n) (fun b m e=>by have:=v1.lt e; omega) g2 w2
    have uK2:=uK1.st (id:=S7.n) (fun b m e=>by have:=uK1.lt e; omega) g2 w2
    rw [shift_p,ld1_p q2 rfl rfl,bld_of (cs:=lfR v) rfl]
    refine bslT1 rfl ?_
    refine uK2.app (c:=lfR v) (by omega) rfl (by simp; omega) (fun y2 T3 v3 b3 hy2=>?_) rfl
    obtain ⟨m3,hm3⟩:=hy2
    have g3:=b3.1
    have old3:∀ x,x < S9.n → T3.obj x = T2.obj x:=fun x hx=>b3.2 x (by omega) (fun b m e=>by have:=uK2.lt e; omega)
    have v4:Own S9.n T3 y1 3 ((sts.map fun a=>[aI a]) ++ [[aI v]]):=v2.but b3 fun i b m b' m' e e2=>by
      have e3:=uK.lt e
      rw [hm1] at e2
      injection e2
      omega
    rw [shift_p]
    refine stF_of ((old3 _ (by omega)).trans q2) (by simp) (by rw [hm3]; rfl) fun T4 g4 q4 w4=>?_
    have q4:T4.obj S7.n = some (.cells 37 [[aI 6,aI st',aI at_,y1,y2]] true):=q4
    rw [hadd]
    refine hKE _ _ _ ⟨i + 1,v,st',y1,y2,sts ++ [v],rfl,rfl,hlt,h8,by simp [hlen],hv,hst',fun x hx=>?_,by omega,fun x hx=>?_,q4,?_,?_,fun i b m b' m' e e2=>?_⟩ (by simp [intA]; omega)
    · rcases List.mem_append.1 hx with hx | hx
      · exact hall x hx
      · rw [List.mem_singleton.1 hx]; exact hv
    · rw [w4 x (by omega),old3 x (by omega),w2 x (by omega),old1 x (by omega),fT x (by omega)]
      exact fA x hx
    · rw [List.map_append]
      exact v4.st (id:=S7.n) (fun b m e=>by have:=v4.lt e; omega) g4 w4
    · rw [List.map_append]
      exact v3.st (id:=S7.n) (fun b m e=>by have:=v3.lt e; omega) g4 w4
    · have:=v1.lt hm1
      rw [hm1] at e
      rw [hm3] at e2
      injection e
      injection e2
      omega
  have step:∀ v:Int,i64R v → bin .eql 0 (aI i) (.v (.int .i64 0)) SA fun v63 S=>onB v63 fun b=>gd b (shift (.p S7.n 0 0) 1 S fun v97 S=>stN 1 v97 (aI v) S fun _ S=>shift (.p S7.n 0 0) 3 S fun v145 S=>ld1 v145 S fun v146 S=>bslN 3 1 1 [.v (.int .i64 0)] [(0,aI v)] S fun v147 S=>appS 3 1 8 v146 v147 S fun v148 S=>shift (.p S7.n 0 0) 3 S fun v149 S=>stN 1 v149 v148 S fun _ S=>shift (.p S7.n 0 0) 4 S fun v151 S=>ld1 v151 S fun v152 S =>
        bld [(0,1),(1,1),(2,1),(3,1),(4,1)] [.v (.int .i64 0),.v (.int .i64 0),.v (.int .i64 0),.nl,.nl] [(0,.v (.int .i64 1)),(1,aI v)] S fun v153 S=>bslN 37 5 1 [.v (.int .i64 0),.v (.int .i64 0),.v (.int .i64 0),.nl,.nl] [(0,v153)] S fun v154 S=>appS 37 5 72 v152 v154 S fun v155 S =>
        shift (.p S7.n 0 0) 4 S fun v156 S=>stN 1 v156 v155 S fun _ S=>bin .add 0 (aI i) (.v (.int .i64 1)) S fun v158 S=>KE 111 (env8_0 (aL aU8 sl) (.p S'.n 0 0) (aI m) (.p S5.n 0 0) (.p S7.n 0 0) (aI v) v158) S)
      (shift (.p S7.n 0 0) 3 S fun v145 S=>ld1 v145 S fun v146 S=>bslN 3 1 1 [.v (.int .i64 0)] [(0,aI v)] S fun v147 S=>appS 3 1 8 v146 v147 S fun v148 S=>shift (.p S7.n 0 0) 3 S fun v149 S=>stN 1 v149 v148 S fun _ S=>shift (.p S7.n 0 0) 4 S fun v151 S=>ld1 v151 S fun v152 S =>
        bld [(0,1),(1,1),(2,1),(3,1),(4,1)] [.v (.int .i64 0),.v (.int .i64 0),.v (.int .i64 0),.nl,.nl] [(0,.v (.int .i64 1)),(1,aI v)] S fun v153 S=>bslN 37 5 1 [.v (.int .i64 0),.v (.int .i64 0),.v (.int .i64 0),.nl,.nl] [(0,v153)] S fun v154 S=>appS 37 5 72 v152 v154 S fun v155 S =>
        shift (.p S7.n 0 0) 4 S fun v156 S=>stN 1 v156 v155 S fun _ S=>bin .add 0 (aI i) (.v (.int .i64 1)) S fun v158 S=>KE 111 (env8_0 (aL aU8 sl) (.p S'.n 0 0) (aI m) (.p S5.n 0 0) (.p S7.n 0 0) (aI v) v158) S):=by
    intro v hv
    rw [bin_eql,onB_v]
    refine gd_of (fun h0=>?_) (fun h0=>?_)
    · rw [shift_p]
      refine stF_of oA (by simp) rfl fun T gT qT wT=>?_
      exact tail v v T hv hv gT qT wT
    · exact tail v st SA hv hstr rfl oA fun x _=>rfl
  have hb1:(0:Int) < 2 ^ m:=Int.pow_pos (by decide)
  have hmod:i64R (sl[i].tmod (2 ^ m)):=by
    rw [Int.tmod_eq_emod_of_nonneg hsi.1]
    have e1:=Int.emod_nonneg sl[i] (show (2:Int) ^ m ≠ 0 by omega)
    have e2:=Int.emod_lt_of_pos sl[i] hb1
    have:=pow_le60 h3
    exact ⟨by omega,by omega⟩
  rw [ixS_aL hlt,ld1_q,bin_lss,onB_v]
  refine gd_of (fun hc1=>?_) (fun hc1=>step _ hmod)
  rw [lenS_aL,bin_gtr,onB_v]
  refine gd_of (fun hc2=>?_) (fun hc2=>step _ hmod)
  have hc2:=of_decide_eq_true hc2
  have hnl:=nexts_len (c:=c) (by omega) s
  have hpos:0 < (nextsB c s).length:=by omega
  obtain ⟨k,hk⟩:∃ k:Nat,sl[i].tmod ((nextsB c s).length:Int) = k:=by
    rw [Int.tmod_eq_emod_of_nonneg hsi.1]
    exact ⟨_,(Int.toNat_of_nonneg (Int.emod_nonneg _ (by omega))).symm⟩
  have hkl:k < (nextsB c s).length:=by
    have e2:=Int.emod_lt_of_pos sl[i] (show (0:Int) < ((nextsB c s).length:Int) by omega)
    rw [Int.tmod_eq_emod_of_nonneg hsi.1] at hk
    omega
  rw [ixS_aL hlt,ld1_q,convI_64 _ (by omega) (by omega),lenS_aL,bin_rem (by omega),hk,ixS_aL hkl,ld1_q]
  have hx:=nexts_rng hcs (by omega) (List.getElem_mem hkl)
  exact step _ ⟨by omega,by omega⟩
end Go.Proofs.YtolgpokppnajdaaGreat.G

/- Truth -/
import Derived.Test.YtolgpokppnajdaaGreatProg
import Derived.KernelRfl
import Derived.Test.YtolgpokppnajdaaGreatTrT5
set_option linter.unusedVariables false
set_option linter.unusedSimpArgs false
namespace Go.Proofs.YtolgpokppnajdaaGreat.G
open Go Go.Ab
theorem mayB_eq (k:Int) (n:ByteArray) (l:Int) (ks:List Fo) (d:Int):Fo.mayB (.mk k n l ks) d = (decide (0 < d ∧ kidsN k = ks.length ∧ n = (⟨#[]⟩:ByteArray) ∧ (l = 0 ∨ 0 < l ∧ k = 3)) && ks.all fun f=>f.mayB (d - 1)):=by
  rw [Fo.mayB_mk,← Bool.and_assoc,← Bool.and_assoc,← Bool.and_assoc]
  congr 1
  rw [← Bool.decide_and,← Bool.decide_and,← Bool.decide_and]
  exact decide_eq_decide.2 ⟨fun ⟨⟨⟨h1,h2⟩,h3⟩,h4⟩=>⟨h1,h4.symm,h3,h2⟩,fun ⟨h1,h4,h3,h2⟩=>⟨⟨⟨h1,h2⟩,h3⟩,h4.symm⟩⟩
theorem all_lt {α:Type} {l:List α} {g:α → Bool} (h:∀ j (h:j < l.length),g l[j] = true):l.all g = true:=List.all_eq_true.2 fun x hx=>by
  obtain ⟨j,hj,rfl⟩:=List.getElem_of_mem hx
  exact h j hj
theorem all_no {α:Type} {l:List α} {g:α → Bool} {i:Nat} (hi:i < l.length) (h:g l[i] = false):l.all g = false:=List.all_eq_false.2 ⟨_,List.getElem_mem hi,by simp [h]⟩
theorem lt_step {α:Type} {l:List α} {p:α → Prop} {i:Nat} {hi:i < l.length} (hok:∀ j (h:j < l.length),j < i → p l[j]) (h:p l[i]):∀ j (h:j < l.length),j < i + 1 → p l[j]:=fun j hj hj'=>by
  rcases Nat.lt_or_ge j i with h' | h'
  · exact hok j hj h'
  · have:j = i:=by omega
    subst this
    exact h
theorem ans46:∀ (f:Fo),f.ok → ∀ d,i64R d → Ans Tryz.prog 46 [f.av,aI d] (aB (f.mayB d)):=by
  intro f
  induction f using Fo.ind with
  | h k n l ks ih =>
    intro hok d hd S
    obtain ⟨h1,h2,h3,h4,h5⟩:=hok.inv
    refine ACalls.ans_v (calls46 ?_)
    unfold m46 Fo.av
    rw [Fo.row_mk,mayB_eq]
    refine boxA_of rfl fun S1 k1 n1 o1=>?_
    have hk:=ans64 k
    have bad:∀ {E:AEnd},¬ (0 < d ∧ kidsN k = ks.length ∧ n = (⟨#[]⟩:ByteArray) ∧ (l = 0 ∨ 0 < l ∧ k = 3)) → E = .ret (aB false) → E = .ret (aB (decide (0 < d ∧ kidsN k = ks.length ∧ n = (⟨#[]⟩:ByteArray) ∧ (l = 0 ∨ 0 < l ∧ k = 3)) && ks.all fun f=>f.mayB (d - 1))) ∧ Keep S S1:=fun h1 h2=>⟨by rw [decide_eq_false h1,Bool.false_and]; exact h2,k1⟩
    have main:0 < d ∧ kidsN k = ks.length ∧ n = (⟨#[]⟩:ByteArray) ∧ (l = 0 ∨ 0 < l ∧ k = 3) → loopV lv46_0 (vc Tryz.prog (c46.at_ [1,1,0,1,0,0]) (ms46.drop 1)) 53 (env46_0 (aI d) (.p S.n 0 0) (.v (.int .i64 0))) S1 (blockK 0 (seqK (vc Tryz.prog (c46.at_ [1,1,1]) (ms46.drop 1)) (bodyK Tryz.prog r46 fun r S'=>r = .ret (aB (decide (0 < d ∧ kidsN k = ks.length ∧ n = (⟨#[]⟩:ByteArray) ∧ (l = 0 ∨ 0 < l ∧ k = 3)) && ks.all fun f=>f.mayB (d - 1))) ∧ Keep S S'))):=fun good=>by
      rw [decide_eq_true good,Bool.true_and]
      refine loop46_0 (fun y S'=>S' = S1 ∧ ∃ i:Nat,y = aI i ∧ i ≤ ks.length ∧ ∀ j (h:j < ks.length),j < i → ks[j].mayB (d - 1) = true)
        (fun y _=>ks.length - ((intA y).getD 0).toNat) ⟨rfl,0,rfl,Nat.zero_le _,fun j _ hj=>(Nat.not_lt_zero _ hj).elim⟩ ?_
      rintro _ S1 ⟨rfl,i,rfl,hi,hall⟩ KE hKE
      unfold b46_0
      rw [shift_p,ld1_p o1 rfl rfl,lenS_foL,bin_lss,onB_v]
      refine gd_of (fun hlt=>?_) (fun hge=>?_)
      · have hlt:i < ks.length:=by simpa using hlt
        have hm:=List.getElem_mem hlt
        rw [shift_p,ld1_p o1 rfl rfl,ixS_foL hlt,ldN_q (Fo.row_len _),bin_sub (by have:=hd.2; omega) (by have:=hd.2; omega)]
        refine callF_ans (ih _ hm (h5 _ hm) (d - 1) ⟨by have:=hd.2; omega,by have:=hd.2; omega⟩) ?_
        rw [un_not,onB_v]
        refine gd_of (fun h=>⟨by rw [all_no hlt (by simpa using h)],k1⟩) (fun h=>?_)
        rw [bin_add (by omega) (by omega)]
        exact hKE _ _ ⟨rfl,i + 1,rfl,hlt,lt_step (p:=fun f=>f.mayB (d - 1) = true) (hi:=hlt) hall (by simpa using h)⟩ (by simp [intA]; omega)
      · have hge:i = ks.length:=by simp at hge; omega
        subst hge
        exact ⟨by rw [all_lt fun j hj=>hall j hj hj],k1⟩
    show ∃ q:AV,_
    cases e1:decide (d < 1) with
    | true =>
      (repeat (first | with_reducible_and_instances (first | refine WJ ?_ | refine W (gd_T e1) ?_ | refine W (gd_F e1) ?_ | refine W (gd_nT e1) ?_ | refine W (gd_nF e1) ?_ | refine W (J_ldq (by with_unfolding_all rfl)) ?_)))
      exact bad (fun h=>by have:=of_decide_eq_true e1; omega) rfl
    | false =>
      cases e2:decide (kidsN k = ks.length) with
      | false =>
        (repeat (first | with_reducible_and_instances (first | refine WJ ?_ | refine W (J_ldp o1 (by with_unfolding_all rfl) (by with_unfolding_all rfl)) ?_ | refine W (J_lenfoL) ?_ | refine W (gd_T e1) ?_ | refine W (gd_F e1) ?_ | refine W (gd_nT e1) ?_ | refine W (gd_nF e1) ?_ | refine W (gd_T e2) ?_ | refine W (gd_F e2) ?_ | refine W (gd_nT e2) ?_ | refine W (gd_nF e2) ?_ | refine W (J_ldq (by with_unfolding_all rfl)) ?_) | refine J_cA (hk) rfl rfl ?_ | refine C_A (hk) rfl rfl ?_))
        exact bad (fun h=>of_decide_eq_false e2 h.2.1) rfl
      | true =>
        cases e3:decide (n = (⟨#[]⟩:ByteArray)) with
        | false =>
          (repeat (first | with_reducible_and_instances (first | refine WJ ?_ | refine W (J_ldp o1 (by with_unfolding_all rfl) (by with_unfolding_all rfl)) ?_ | refine W (J_lenfoL) ?_ | refine W (J_neS) ?_ | refine W (gd_T e1) ?_ | refine W (gd_F e1) ?_ | refine W (gd_nT e1) ?_ | refine W (gd_nF e1) ?_ | refine W (gd_T e2) ?_ | refine W (gd_F e2) ?_ | refine W (gd_nT e2) ?_ | refine W (gd_nF e2) ?_ | refine W (gd_T e3) ?_ | refine W (gd_F e3) ?_ | refine W (gd_nT e3) ?_ | refine W (gd_nF e3) ?_ | refine W (J_ldq (by with_unfolding_all rfl)) ?_) | refine J_cA (hk) rfl rfl ?_ | refine C_A (hk) rfl rfl ?_))
          exact bad (fun h=>of_decide_eq_false e3 h.2.2.1) rfl
        | true =>
          cases e4:decide (l < 0) with
          | true =>
            (repeat (first | with_reducible_and_instances (first | refine WJ ?_ | refine W (J_ldp o1 (by with_unfolding_all rfl) (by with_unfolding_all rfl)) ?_ | refine W (J_lenfoL) ?_ | refine W (J_neS) ?_ | refine W (gd_T e1) ?_ | refine W (gd_F e1) ?_ | refine W (gd_nT e1) ?_ | refine W (gd_nF e1) ?_ | refine W (gd_T e2) ?_ | refine W (gd_F e2) ?_ | refine W (gd_nT e2) ?_ | refine W (gd_nF e2) ?_ | refine W (gd_T e3) ?_ | refine W (gd_F e3) ?_ | refine W (gd_nT e3) ?_ | refine W (gd_nF e3) ?_ | refine W (gd_T e4) ?_ | refine W (gd_F e4) ?_ | refine W (gd_nT e4) ?_ | refine W (gd_nF e4) ?_ | refine W (J_ldq (by with_unfolding_all rfl)) ?_) | refine J_cA (hk) rfl rfl ?_ | refine C_A (hk) rfl rfl ?_))
            exact bad (fun h=>by have:=of_decide_eq_true e4; have:=h.2.2.2; omega) rfl
          | false =>
            have e1':=of_decide_eq_false e1
            have e2':=of_decide_eq_true e2
            have e3':=of_decide_eq_true e3
            have e4':=of_decide_eq_false e4
            cases e5:decide (k = 3) with
            | true =>
              (repeat (first | with_reducible_and_instances (first | refine WJ ?_ | refine W (J_ldp o1 (by with_unfolding_all rfl) (by with_unfolding_all rfl)) ?_ | refine W (J_lenfoL) ?_ | refine W (J_neS) ?_ | refine W (gd_T e1) ?_ | refine W (gd_F e1) ?_ | refine W (gd_nT e1) ?_ | refine W (gd_nF e1) ?_ | refine W (gd_T e2) ?_ | refine W (gd_F e2) ?_ | refine W (gd_nT e2) ?_ | refine W (gd_nF e2) ?_ | refine W (gd_T e3) ?_ | refine W (gd_F e3) ?_ | refine W (gd_nT e3) ?_ | refine W (gd_nF e3) ?_ | refine W (gd_T e4) ?_ | refine W (gd_F e4) ?_ | refine W (gd_nT e4) ?_ | refine W (gd_nF e4) ?_ | refine W (gd_T e5) ?_ | refine W (gd_F e5) ?_ | refine W (gd_nT e5) ?_ | refine W (gd_nF e5) ?_ | refine W (J_ldq (by with_unfolding_all rfl)) ?_) | refine J_cA (hk) rfl rfl ?_ | refine C_A (hk) rfl rfl ?_))
              have e5':=of_decide_eq_true e5
              exact main ⟨by omega,e2',e3',by omega⟩
            | false =>
              have e5':=of_decide_eq_false e5
              cases e6:decide (l = 0) with
              | true =>
                (repeat (first | with_reducible_and_instances (first | refine WJ ?_ | refine W (J_ldp o1 (by with_unfolding_all rfl) (by with_unfolding_all rfl)) ?_ | refine W (J_lenfoL) ?_ | refine W (J_neS) ?_ | refine W (gd_T e1) ?_ | refine W (gd_F e1) ?_ | refine W (gd_nT e1) ?_ | refine W (gd_nF e1) ?_ | refine W (gd_T e2) ?_ | refine W (gd_F e2) ?_ | refine W (gd_nT e2) ?_ | refine W (gd_nF e2) ?_ | refine W (gd_T e3) ?_ | refine W (gd_F e3) ?_ | refine W (gd_nT e3) ?_ | refine W (gd_nF e3) ?_ | refine W (gd_T e4) ?_ | refine W (gd_F e4) ?_ | refine W (gd_nT e4) ?_ | refine W (gd_nF e4) ?_ | refine W (gd_T e5) ?_ | refine W (gd_F e5) ?_ | refine W (gd_nT e5) ?_ | refine W (gd_nF e5) ?_ | refine W (gd_T e6) ?_ | refine W (gd_F e6) ?_ | refine W (gd_nT e6) ?_ | refine W (gd_nF e6) ?_ | refine W (J_ldq (by with_unfolding_all rfl)) ?_) | refine J_cA (hk) rfl rfl ?_ | refine C_A (hk) rfl rfl ?_))
                exact main ⟨by omega,e2',e3',.inl (of_decide_eq_true e6)⟩
              | false =>
                (repeat (first | with_reducible_and_instances (first | refine WJ ?_ | refine W (J_ldp o1 (by with_unfolding_all rfl) (by with_unfolding_all rfl)) ?_ | refine W (J_lenfoL) ?_ | refine W (J_neS) ?_ | refine W (gd_T e1) ?_ | refine W (gd_F e1) ?_ | refine W (gd_nT e1) ?_ | refine W (gd_nF e1) ?_ | refine W (gd_T e2) ?_ | refine W (gd_F e2) ?_ | refine W (gd_nT e2) ?_ | refine W (gd_nF e2) ?_ | refine W (gd_T e3) ?_ | refine W (gd_F e3) ?_ | refine W (gd_nT e3) ?_ | refine W (gd_nF e3) ?_ | refine W (gd_T e4) ?_ | refine W (gd_F e4) ?_ | refine W (gd_nT e4) ?_ | refine W (gd_nF e4) ?_ | refine W (gd_T e5) ?_ | refine W (gd_F e5) ?_ | refine W (gd_nT e5) ?_ | refine W (gd_nF e5) ?_ | refine W (gd_T e6) ?_ | refine W (gd_F e6) ?_ | refine W (gd_nT e6) ?_ | refine W (gd_nF e6) ?_ | refine W (J_ldq (by with_unfolding_all rfl)) ?_) | refine J_cA (hk) rfl rfl ?_ | refine C_A (hk) rfl rfl ?_))
                exact bad (fun h=>by have:=of_decide_eq_false e6; have:=h.2.2.2; omega) rfl
def IsLit (g:Gr) (S:Store) (fn:FuncId) (cs:List AV):Prop:=∀ T,Keep S T → ∀ l,i64R l → AnsAt Tryz.prog fn ([] ++ [aI l] ++ cs) T (aB (g.lit l))
theorem at86 {g:Gr}:∀ (f:Fo),f.ok → ∀ {S:Store} {fn:FuncId} {cs:List AV},IsLit g S fn cs → AnsAt Tryz.prog 86 [f.av,.f (.func fn) [] cs] S (aB (f.litsB g)):=by
  intro f
  induction f using Fo.ind with
  | h k n l ks ih =>
    intro hok S fn cs hfn
    obtain ⟨h1,h2,h3,h4,h5⟩:=hok.inv
    refine ACalls.ans_v (calls86 ?_)
    unfold m86 Fo.av
    rw [Fo.row_mk,Fo.litsB_mk]
    refine boxA_of rfl fun S1 k1 n1 o1=>?_
    refine box1_of rfl fun S2 k2 n2 o2=>?_
    have p2:=(k2.2 _ (by omega)).trans o1
    have kk:=k1.trans k2
    have hkid:∀ x ∈ ks,AnsAt Tryz.prog 134 ([] ++ [x.av] ++ [.p S1.n 0 0]) S2 (aB (!x.litsB g)):=fun x hx=>by
      refine ACalls.ans_v (calls134 ?_)
      unfold m134 Fo.av
      refine boxA_of (Fo.row_len x) fun S3 k3 n3 o3=>?_
      rw [ldN_p (n:=4) o3 (Fo.row_len x),ld1_p ((k3.2 _ (by omega)).trans o2) rfl rfl]
      refine callF_at (ih x hx (h5 x hx) (S:=S3) (fn:=fn) (cs:=cs) fun T hT=>hfn T ((kk.trans k3).trans hT)) ?_
      rw [un_not]
      exact ⟨rfl,k3⟩
    have hcont:=at72 (l:=ks) (by omega) hkid
    rw [any_notF] at hcont
    rw [shift_p,ld1_p p2 rfl rfl,bin_neq,onB_v]
    refine gd_of (fun h=>?_) (fun h=>?_)
    · rw [shift_p,ld1_p p2 rfl rfl]
      refine callF_at hcont ?_
      rw [un_not,Bool.not_not]
      have:(decide (k ≠ 3) || g.lit l) = true:=by simp at h; simp [h]
      exact ⟨by rw [this,Bool.true_and],kk⟩
    · have hk3:decide (k ≠ 3) = false:=by simp at h; simp [h]
      rw [hk3,Bool.false_or,ld1_p o2 rfl rfl,shift_p,ld1_p p2 rfl rfl]
      refine callV_at (hfn S2 kk l h2) ?_
      rw [onB_v]
      refine gd_of (fun hg=>?_) (fun hg=>⟨by rw [hg,Bool.false_and],kk⟩)
      rw [shift_p,ld1_p p2 rfl rfl]
      refine callF_at hcont ?_
      rw [un_not,Bool.not_not]
      exact ⟨by rw [hg,Bool.true_and],kk⟩
theorem ans52 {c:Ci} (hc:c.ok) {f:Fo} (hf:f.ok):Ans Tryz.prog 52 [c.av,f.av] (aB (mayC c f)):=by
  intro S
  refine ACalls.ans_v (calls52 ?_)
  unfold m52 mayC
  refine boxA_of rfl fun S1 k1 n1 o1=>?_
  refine boxA_of (Fo.row_len f) fun S2 k2 n2 o2=>?_
  have p2:=(k2.2 _ (by omega)).trans o1
  rw [ldN_p (n:=8) p2 rfl]
  refine callF_ans (ans84 c) ?_
  refine boxA_of rfl fun S3 k3 n3 o3=>?_
  refine stA_of (cs':=c.gr.cells) o3 rfl rfl fun S4 n4 o4 f4=>?_
  have k4:=k3.st (Nat.le_refl _) n4 f4
  have kk:=(k1.trans k2).trans k4
  rw [ldN_p (n:=8) ((k4.2 _ (by omega)).trans p2) rfl]
  refine callF_ans (ans85 hc) ?_
  rw [onB_v]
  refine gd_of (fun h=>?_) (fun h=>⟨by rw [h,Bool.false_and],kk⟩)
  rw [h,Bool.true_and,ldN_p (n:=4) ((k4.2 _ (by omega)).trans o2) (Fo.row_len f)]
  refine callF_ans (ans43 f hf 60 ⟨by decide,by decide⟩) ?_
  rw [onB_v]
  refine gd_of (fun h=>?_) (fun h=>⟨by rw [h,Bool.false_and],kk⟩)
  rw [h,Bool.true_and,ldN_p (n:=4) ((k4.2 _ (by omega)).trans o2) (Fo.row_len f)]
  refine callF_at (at86 (g:=c.gr) f hf fun T hT l hl=>?_) ⟨rfl,kk⟩
  refine calls87 ?_
  unfold m87
  rw [ldN_p (n:=2) ((hT.2 _ (by omega)).trans o4) rfl]
  exact callF_ans (ans88 hc.gr hl) ⟨rfl,rfl⟩
theorem ans101 {g:Gr} (hg:g.ok):∀ (f:Fo),f.ok → Ans Tryz.prog 101 [g.av,f.av] (aB (f.litsB g)):=by
  intro f
  induction f using Fo.ind with
  | h k n l ks ih =>
    intro hok S
    obtain ⟨h1,h2,h3,h4,h5⟩:=hok.inv
    refine ACalls.ans_v (calls101 ?_)
    unfold m101 Fo.av
    rw [Fo.row_mk,Fo.litsB_mk]
    refine boxA_of rfl fun S1 k1 n1 o1=>?_
    refine boxA_of rfl fun S2 k2 n2 o2=>?_
    have p2:=(k2.2 _ (by omega)).trans o1
    have kk:=k1.trans k2
    have main:(decide (k ≠ 3) || g.lit l) = true → loopV lv101_0 (vc Tryz.prog (c101.at_ [1,1,0,1,0,0]) (ms101.drop 1)) 31 (env101_0 (.p S.n 0 0) (.p S1.n 0 0) (.v (.int .i64 0))) S2 (blockK 0 (seqK (vc Tryz.prog (c101.at_ [1,1,1]) (ms101.drop 1)) (bodyK Tryz.prog r101 fun r S'=>r = .ret (aB ((decide (k ≠ 3) || g.lit l) && ks.all fun f=>f.litsB g)) ∧ Keep S S'))):=fun good=>by
      rw [good,Bool.true_and]
      refine loop101_0 (fun y S'=>S' = S2 ∧ ∃ i:Nat,y = aI i ∧ i ≤ ks.length ∧ ∀ j (h:j < ks.length),j < i → ks[j].litsB g = true)
        (fun y _=>ks.length - ((intA y).getD 0).toNat) ⟨rfl,0,rfl,Nat.zero_le _,fun j _ hj=>(Nat.not_lt_zero _ hj).elim⟩ ?_
      rintro _ S2 ⟨rfl,i,rfl,hi,hall⟩ KE hKE
      unfold b101_0
      rw [shift_p,ld1_p o2 rfl rfl,lenS_foL,bin_lss,onB_v]
      refine gd_of (fun hlt=>?_) (fun hge=>?_)
      · have hlt:i < ks.length:=by simpa using hlt
        have hm:=List.getElem_mem hlt
        show ∃ q:AV,_
        refine ⟨_,by rw [ldN_p (n:=2) p2 rfl]; exact ⟨rfl,rfl⟩,?_⟩
        refine ⟨_,by rw [shift_p]; exact ⟨rfl,rfl⟩,?_⟩
        refine ⟨_,by rw [ld1_p o2 rfl rfl]; exact ⟨rfl,rfl⟩,?_⟩
        refine ⟨_,by rw [ixS_foL hlt]; exact ⟨rfl,rfl⟩,?_⟩
        refine ⟨_,by rw [ldN_q (Fo.row_len _)]; exact ⟨rfl,rfl⟩,?_⟩
        refine ⟨_,callF_ans (ih _ hm (h5 _ hm)) ⟨rfl,rfl⟩,?_⟩
        refine ⟨_,by rw [un_not]; exact ⟨rfl,rfl⟩,?_⟩
        rw [onB_v]
        refine gd_of (fun h=>⟨by rw [all_no hlt (by simpa using h)],kk⟩) (fun h=>?_)
        rw [bin_add (by omega) (by omega)]
        exact hKE _ _ ⟨rfl,i + 1,rfl,hlt,lt_step (p:=fun f=>f.litsB g = true) (hi:=hlt) hall (by simpa using h)⟩ (by simp [intA]; omega)
      · have hge:i = ks.length:=by simp at hge; omega
        subst hge
        exact ⟨by rw [all_lt fun j hj=>hall j hj hj],kk⟩
    rw [shift_p,ld1_p o2 rfl rfl,bin_eql,onB_v]
    refine gd_of (fun h=>?_) (fun h=>main (by simp at h; simp [h]))
    have hk3:decide (k ≠ 3) = false:=by simp at h; simp [h]
    rw [ldN_p (n:=2) p2 rfl,shift_p,ld1_p o2 rfl rfl]
    refine callF_ans (ans112 hg h2) ?_
    rw [un_not,onB_v]
    refine gd_of (fun hl=>⟨by rw [hk3,Bool.false_or,show g.lit l = false by simpa using hl,Bool.false_and],kk⟩) (fun hl=>main (by rw [hk3,Bool.false_or]; simpa using hl))
theorem ans55 {c:Ci} (hc:c.ok) {f:Fo} (hf:f.ok):Ans Tryz.prog 55 [c.av,f.av] (aB (mayC c f)):=by
  intro S
  refine ACalls.ans_v (calls55 ?_)
  unfold m55 mayC
  refine boxA_of rfl fun S1 k1 n1 o1=>?_
  refine boxA_of (Fo.row_len f) fun S2 k2 n2 o2=>?_
  have p2:=(k2.2 _ (by omega)).trans o1
  have kk:=k1.trans k2
  have c1:=ans65 hc
  have c2:=ans46 f hf 60 ⟨by decide,by decide⟩
  have c3:=ans41 c
  have c4:=ans101 hc.gr f hf
  show ∃ q:AV,_
  cases e1:c.right with
  | false =>
    (repeat (first | with_reducible_and_instances (first | refine WJ ?_ | refine W (J_ldN (n:=8) p2 (by with_unfolding_all rfl)) ?_ | refine W (J_ldN (n:=4) o2 (Fo.row_len f)) ?_ | refine W (gd_T e1) ?_ | refine W (gd_F e1) ?_ | refine W (gd_nT e1) ?_ | refine W (gd_nF e1) ?_ | refine W (J_ldq (by with_unfolding_all rfl)) ?_) | refine J_cA (c1) rfl rfl ?_ | refine C_A (c1) rfl rfl ?_))
    exact ⟨by rw [Bool.false_and],kk⟩
  | true =>
    cases e2:f.mayB 60 with
    | false =>
      (repeat (first | with_reducible_and_instances (first | refine WJ ?_ | refine W (J_ldN (n:=8) p2 (by with_unfolding_all rfl)) ?_ | refine W (J_ldN (n:=4) o2 (Fo.row_len f)) ?_ | refine W (gd_T e1) ?_ | refine W (gd_F e1) ?_ | refine W (gd_nT e1) ?_ | refine W (gd_nF e1) ?_ | refine W (gd_T e2) ?_ | refine W (gd_F e2) ?_ | refine W (gd_nT e2) ?_ | refine W (gd_nF e2) ?_ | refine W (J_ldq (by with_unfolding_all rfl)) ?_) | refine J_cA (c1) rfl rfl ?_ | refine C_A (c1) rfl rfl ?_ | refine J_cA (c2) rfl rfl ?_ | refine C_A (c2) rfl rfl ?_))
      exact ⟨by rw [Bool.false_and,Bool.and_false],kk⟩
    | true =>
      (repeat (first | with_reducible_and_instances (first | refine WJ ?_ | refine W (J_ldN (n:=8) p2 (by with_unfolding_all rfl)) ?_ | refine W (J_ldN (n:=4) o2 (Fo.row_len f)) ?_ | refine W (gd_T e1) ?_ | refine W (gd_F e1) ?_ | refine W (gd_nT e1) ?_ | refine W (gd_nF e1) ?_ | refine W (gd_T e2) ?_ | refine W (gd_F e2) ?_ | refine W (gd_nT e2) ?_ | refine W (gd_nF e2) ?_ | refine W (J_ldq (by with_unfolding_all rfl)) ?_) | refine J_cA (c1) rfl rfl ?_ | refine C_A (c1) rfl rfl ?_ | refine J_cA (c2) rfl rfl ?_ | refine C_A (c2) rfl rfl ?_ | refine J_cA (c3) rfl rfl ?_ | refine C_A (c3) rfl rfl ?_ | refine J_cA (c4) rfl rfl ?_ | refine C_A (c4) rfl rfl ?_))
      exact ⟨by rw [Bool.true_and,Bool.true_and],kk⟩
noncomputable def valB (c:Ci) (s:Int):List Bool:=if (c.right && decide (c.gr.inputs ≤ 60)) = true then allB c.gr (bitsL s c.gr.inputs.toNat) else []
def isV (v:List Bool) (l:Int):Bool:=decide (0 ≤ l) && (decide (l.tdiv 2 < v.length) && litB v l)
theorem allB_vars {c:Ci} (h:c.right = true) (s:Int):((allB c.gr (bitsL s c.gr.inputs.toNat)).length:Int) = c.gr.vars:=by
  obtain ⟨g1,g2,g3⟩:=gr_inp h
  have hr:=(right_c.1 h).2.2.2.2.2.2.1
  rw [allB_len,if_pos]
  · have:0 ≤ c.gr.vars:=by unfold Gr.vars; omega
    omega
  · rw [hr,bitsL_len]
    simp; omega
theorem isV_isB {c:Ci} (s l:Int):isV (valB c s) l = isB c s l:=by
  unfold valB isB
  cases h:c.right with
  | false =>
    rw [Bool.false_and,if_neg (by decide),Bool.false_and]
    simp only [isV,Bool.and_eq_false_iff,decide_eq_false_iff_not]
    by_cases h0:0 ≤ l
    · refine .inr (.inl ?_)
      have:=Int.tdiv_nonneg h0 (show (0:Int) ≤ 2 by decide)
      simp; omega
    · exact .inl h0
  | true =>
    cases h6:decide (c.gr.inputs ≤ 60) with
    | false =>
      rw [Bool.and_false,if_neg (by decide),Bool.false_and,Bool.and_false]
      simp only [isV,Bool.and_eq_false_iff,decide_eq_false_iff_not]
      by_cases h0:0 ≤ l
      · refine .inr (.inl ?_)
        have:=Int.tdiv_nonneg h0 (show (0:Int) ≤ 2 by decide)
        simp; omega
      · exact .inl h0
    | true =>
      rw [Bool.true_and,if_pos rfl,Bool.true_and,Bool.true_and]
      obtain ⟨g1,g2,g3⟩:=gr_inp h
      have hv:=allB_vars h s
      have hpos:0 < (allB c.gr (bitsL s c.gr.inputs.toNat)).length:=by
        have:1 ≤ c.gr.vars:=by unfold Gr.vars; omega
        omega
      simp only [isV,Gr.eval,hpos,decide_true,Bool.true_and,hv,Gr.lit,g2,g3,Bool.and_assoc]
theorem ans187 {c:Ci} (hc:c.ok) (s:Int):Ans Tryz.prog 187 [c.av,aI s] (aL aB (valB c s)):=by
  intro S
  refine ACalls.tree (calls187 ?_)
  unfold m187 valB
  refine boxA_of rfl fun S1 k1 n1 o1=>?_
  rw [ldN_p (n:=8) o1 rfl]
  refine callF_ans (ans84 c) ?_
  refine boxA_of rfl fun S2 k2 n2 o2=>?_
  refine stA_of (cs':=c.gr.cells) o2 rfl rfl fun S3 n3 o3 f3=>?_
  have k3:=k2.st (Nat.le_refl _) n3 f3
  have kk:=k1.trans k3
  rw [ldN_p (n:=8) ((k3.2 _ (by omega)).trans o1) rfl]
  refine callF_ans (ans85 hc) ?_
  rw [un_not,onB_v]
  refine gd_of (fun h=>?_) (fun h=>?_)
  · have h:c.right = false:=by simpa using h
    refine ⟨_,rfl,kk,?_⟩
    rw [h,Bool.false_and,if_neg (by decide)]
    exact .nl
  have h:c.right = true:=by simpa using h
  obtain ⟨g1,g2,g3⟩:=gr_inp h
  rw [shift_p,ld1_p o3 rfl rfl,bin_gtr,onB_v]
  refine gd_of (fun h6=>?_) (fun h6=>?_)
  · have h6:=of_decide_eq_true h6
    refine ⟨_,rfl,kk,?_⟩
    rw [h,decide_eq_false (by omega:¬ c.gr.inputs ≤ 60),if_neg (by decide)]
    exact .nl
  have h6:=of_decide_eq_false h6
  rw [h,decide_eq_true (by omega:c.gr.inputs ≤ 60),Bool.and_self,if_pos rfl]
  obtain ⟨m,hm⟩:=Int.eq_ofNat_of_zero_le g2
  have hm60:m ≤ 60:=by omega
  have hgt:c.gr.inputs.toNat = m:=by rw [hm]; rfl
  rw [hgt,shift_p,ld1_p o3 rfl rfl]
  show mkN _ _ _ (aI c.gr.inputs) (aI c.gr.inputs) _ _
  rw [hm]
  refine mk_of (by omega) (by omega) fun S6 k6 n6 o6=>?_
  rw [lenS_s]
  have hrep:List.replicate m [AV.v (.bool false)] = (List.range m).map fun k=>[aB (if k < 0 then bitN s k else false)]:=by
    apply List.ext_getElem
    · simp
    · intro k h1 h2
      simp
  rw [hrep] at o6
  refine loop187_0 (fun y S'=>S'.n = S6.n ∧ (∀ x,x < S3.n → S'.obj x = S3.obj x) ∧ ∃ j:Nat,y = aI j ∧ j ≤ m ∧ S'.obj S3.n = some (.cells 4 ((List.range m).map fun k=>[aB (if k < j then bitN s k else false)]) true))
    (fun y _=>m - ((intA y).getD 0).toNat) ⟨rfl,k6.2,0,rfl,Nat.zero_le _,o6⟩ ?_
  rintro _ S7 ⟨n7,f7,j,rfl,hj,o7⟩ KE1 hKE1
  unfold b187_0
  rw [bin_lss,onB_v]
  refine gd_of (fun hlt1=>?_) (fun hge1=>?_)
  · have hlt1:j < m:=by have:((j:Int) < (m:Int)):=of_decide_eq_true hlt1; omega
    rw [bin_shrN (by omega),bin_and1,bin_eql,ixS_s hlt1 o7]
    refine st_of o7 (u0:=aB (if j < j then bitN s j else false)) (by rw [Nat.zero_add]; simp [hlt1]) rfl fun S8 n8 o8 f8=>?_
    rw [bin_add (by omega) (by omega)]
    refine hKE1 _ _ ⟨by omega,fun x hx=>(f8 x (by omega)).trans (f7 x hx),j + 1,rfl,hlt1,?_⟩ (by simp [intA]; omega)
    rw [o8,Nat.zero_add]
    have:=set_range (n:=m) (i:=j) (f:=fun k=>[aB (if k < j then bitN s k else false)]) (f':=fun k=>[aB (if k < j + 1 then bitN s k else false)]) hlt1 (fun k hk=>by
      have:(k < j + 1) = (k < j):=by apply propext; omega
      simp only [this])
    rw [← this]
    simp [bitN]
  · have hgj:j = m:=by
      have:¬ ((j:Int) < (m:Int)):=of_decide_eq_false hge1
      omega
    subst hgj
    have o7':S7.obj S3.n = some (.cells 4 ((bitsL s j).map fun b=>[aB b]) true):=by
      rw [o7,bitsL,List.map_map]
      congr 2
      apply List.map_congr_left
      intro k hk
      simp [List.mem_range.1 hk]
    rw [ldN_p (n:=2) ((f7 _ (by omega)).trans o3) rfl]
    have call:=own_at154 hc.gr (ins:=bitsL s j) (S:=S7) (xi:=.s S3.n 0 j) (by simp; omega) (fun T K=>by rw [lenS_s,bitsL_len]) (fun T hT=>by
      have:=(hT.2 S3.n (by omega)).trans o7'
      simp only [srcE,this]
      rw [if_pos (by simp)]
      simp [List.take_of_length_le])
    refine callF_at (ans_own_at (f:=fun b=>.bool b) call) ?_
    have k3':Keep S S7:=⟨by have:=kk.1; omega,fun x hx=>(f7 x (by have:=kk.1; omega)).trans (kk.2 x hx)⟩
    exact ⟨_,rfl,k3',cv_aL (f:=fun b=>.bool b) _⟩
theorem ans186 (v:List Bool) {l:Int} (hl:i64R l):Ans Tryz.prog 186 [aL aB v,aI l] (aB (isV v l)):=by
  intro S
  refine calls186 ?_
  unfold m186 isV
  rw [bin_geq,onB_v]
  refine gd_of (fun h=>?_) (fun h=>⟨by rw [h,Bool.false_and],rfl⟩)
  have h0:=of_decide_eq_true h
  rw [h,Bool.true_and,bin_half hl,lenS_aL,bin_lss,onB_v]
  refine gd_of (fun h1=>?_) (fun h1=>⟨by rw [h1,Bool.false_and],rfl⟩)
  have hlt:=of_decide_eq_true h1
  rw [h1,Bool.true_and,bin_half hl]
  refine ix_tree (Int.tdiv_nonneg h0 (by decide)) hlt _ ?_
  rw [bin_and1,bin_eql,bin_neqB]
  refine ⟨?_,rfl⟩
  rw [litB,Int.tmod_eq_emod_of_nonneg h0]
theorem ans171 {c:Ci} (hc:c.ok) (s:Int) {l:Int} (hl:i64R l):Ans Tryz.prog 171 [c.av,aI s,aI l] (aB (isB c s l)):=by
  intro S
  refine ACalls.ans_v (calls171 ?_)
  unfold m171
  refine boxA_of rfl fun S1 k1 n1 o1=>?_
  rw [ldN_p (n:=8) o1 rfl]
  refine callF_ans (ans187 hc s) ?_
  refine callF_ans (ans186 _ hl) ?_
  exact ⟨by rw [isV_isB],k1⟩
theorem count_block {N p q:Nat} (hq:2 ^ p * q + 2 ^ p ≤ N) (P:Nat → Bool) :
    ((List.range N).filter fun k=>P k && decide (k / 2 ^ p = q)).length = ((List.range (2 ^ p)).filter fun y=>P (2 ^ p * q + y)).length:=by
  have hpos:0 < 2 ^ p:=Nat.two_pow_pos p
  obtain ⟨r,rfl⟩:∃ r,N = 2 ^ p * q + 2 ^ p + r:=⟨N - (2 ^ p * q + 2 ^ p),by omega⟩
  rw [List.range_add,List.range_add,List.filter_append,List.filter_append,List.length_append,List.length_append,List.filter_map,List.filter_map,List.length_map,List.length_map]
  have h1:(List.range (2 ^ p * q)).filter (fun k=>P k && decide (k / 2 ^ p = q)) = []:=by
    rw [List.filter_eq_nil_iff]
    intro k hk
    have:k < 2 ^ p * q:=List.mem_range.1 hk
    have h:k / 2 ^ p < q:=Nat.div_lt_of_lt_mul this
    simp only [Bool.and_eq_true,decide_eq_true_eq,not_and]
    exact fun _=>by omega
  have h2:(List.range r).filter ((fun k=>P k && decide (k / 2 ^ p = q)) ∘ fun x=>2 ^ p * q + 2 ^ p + x) = []:=by
    rw [List.filter_eq_nil_iff]
    intro k hk
    have h:q + 1 ≤ (2 ^ p * q + 2 ^ p + k) / 2 ^ p:=by
      rw [Nat.le_div_iff_mul_le hpos,Nat.add_mul,Nat.mul_comm q]; omega
    simp only [Function.comp,Bool.and_eq_true,decide_eq_true_eq,not_and]
    exact fun _=>by omega
  have h3:(List.range (2 ^ p)).filter ((fun k=>P k && decide (k / 2 ^ p = q)) ∘ fun x=>2 ^ p * q + x) = (List.range (2 ^ p)).filter fun y=>P (2 ^ p * q + y):=by
    apply List.filter_congr
    intro y hy
    have hy:=List.mem_range.1 hy
    have h:(2 ^ p * q + y) / 2 ^ p = q:=by rw [Nat.mul_add_div hpos,Nat.div_eq_of_lt hy,Nat.add_zero]
    simp only [Function.comp,h,decide_true,Bool.and_true]
  rw [h1,h2,h3]
  simp
theorem filter_lt (P:Nat → Bool) (n:Nat):((List.range n).filter P).Pairwise (· < ·):=List.pairwise_lt_range.filter P
structure NextF (c:Ci) (i:Nat) (m p q:Nat) (fl:List Nat):Prop where
  after:afterB c i = ((2 ^ p * q:Nat):Int)
  next:(spOf c).next[i]? = some (fl.map fun y:Nat=>((2 ^ p * q + y:Nat):Int))
  fit:2 ^ p * q + 2 ^ p ≤ 2 ^ m
  none_:(validOf c).getD i false = false → fl = []
  mem:∀ y ∈ fl,y < 2 ^ p ∧ (validOf c).getD (2 ^ p * q + y) false = true
  up:fl.Pairwise (· < ·)
  many:(validOf c).getD i false = true → fl.length = ((List.range (2 ^ m)).filter fun k=>(validOf c).getD k false && decide (k / 2 ^ p = q)).length
theorem nextF {c:Ci} (h1:c.right = true) {m:Nat} (hm:c.inputs.toNat + c.latches.length = m) (hm6:m ≤ 10) {i:Nat} (hi:i < 2 ^ m):∃ q fl,NextF c i m c.inputs.toNat q fl:=by
  obtain ⟨g1,g2,g3⟩:=gr_inp h1
  have hin:=(right_c.1 h1).1
  have hgt:c.gr.inputs.toNat = m:=by omega
  obtain ⟨q,hq1,hq2⟩:=afterV_div c ((valsOf c).getD i []) c.latches.length
  have haf:=afterB_eq h1 (by omega) (s:=i) (by rw [hgt]; exact hi)
  have hfit:2 ^ c.inputs.toNat * q + 2 ^ c.inputs.toNat ≤ 2 ^ m:=by
    have h2:2 ^ c.inputs.toNat * (q + 1) ≤ 2 ^ c.inputs.toNat * 2 ^ c.latches.length:=Nat.mul_le_mul_left _ hq1
    rw [← Nat.pow_add,hm,Nat.mul_add,Nat.mul_one] at h2
    exact h2
  have hnx:(spOf c).next[i]? = some (if (validOf c).getD i false = true then nextL c ((valsOf c).getD i []) (validOf c) else []):=by
    simp only [spOf,hgt]
    rw [List.getElem?_map,List.getElem?_range hi]
    rfl
  have htn:((((2 ^ c.inputs.toNat * q:Nat):Int))).toNat = 2 ^ c.inputs.toNat * q:=Int.toNat_natCast _
  have hN:nextL c ((valsOf c).getD i []) (validOf c) = (((List.range (2 ^ c.inputs.toNat)).filter fun x=>(validOf c).getD (2 ^ c.inputs.toNat * q + x) false)).map fun y:Nat=>((2 ^ c.inputs.toNat * q + y:Nat):Int):=by
    simp only [nextL,hq2,htn,Int.natCast_add]
  refine ⟨q,if (validOf c).getD i false = true then (List.range (2 ^ c.inputs.toNat)).filter fun x=>(validOf c).getD (2 ^ c.inputs.toNat * q + x) false else [],haf.trans hq2,?_,hfit,fun h=>by rw [h,if_neg (by decide)],fun y hy=>?_,?_,fun h=>?_⟩
  · rw [hnx,hN]
    split <;> rfl
  · split at hy
    · rw [List.mem_filter,List.mem_range] at hy
      exact hy
    · cases hy
  · split
    · exact filter_lt _ _
    · exact List.Pairwise.nil
  · rw [if_pos h,count_block hfit fun k=>(validOf c).getD k false]
set_option linter.unusedSectionVars false
theorem EXs_of {s:Sp} {p:List Bool} (h:fits s [p] = true):EXs s p = exP s p:=by rw [EXs,if_pos h]
theorem EGs_of {s:Sp} {p:List Bool} (h:fits s [p] = true):EGs s p = egP s p:=by rw [EGs,if_pos h]
theorem EUs_of {s:Sp} {p q:List Bool} (h:fits s [p] = true) (k:fits s [q] = true):EUs s p q = euP s p q:=by rw [EUs,if_pos (by rw [fits_two,h,k]; rfl)]
structure SpOk (s:Sp):Prop where
  small:SpSmall s
  next:s.next.length = s.valid.length
  fair:∀ r ∈ s.fair,r.length = s.valid.length
  mem:∀ x ∈ s.next,∀ i ∈ x,0 ≤ i ∧ i < s.valid.length
  ini:s.initial.length = s.valid.length
theorem SpOk.sm {s:Sp} (h:SpOk s):s.small:=⟨by have:=h.small.h1; omega,by have:=h.small.h3; omega,by have:=h.small.h5; omega,fun x hx=>by have:=h.small.h4 x hx; omega⟩
theorem SpOk.fit {s:Sp} (h:SpOk s) {p:List Bool} (hp:p.length = s.valid.length):fits s [p] = true:=by
  rw [fits_one]
  simp only [Bool.and_eq_true,decide_eq_true_eq,List.all_eq_true]
  exact ⟨⟨⟨hp,h.next⟩,h.fair⟩,h.mem⟩
theorem spOf_ok {c:Ci} (h:c.right = true) (h10:¬ 10 < c.gr.inputs):SpOk (spOf c):=by
  obtain ⟨g1,g2,g3⟩:=gr_inp h
  have hin:=(right_c.1 h).1
  have hgt:c.gr.inputs.toNat = c.inputs.toNat + c.latches.length:=by omega
  have hvl:(spOf c).valid.length = 2 ^ (c.inputs.toNat + c.latches.length):=by simp [spOf,validOf,hgt]
  refine ⟨spOf_small h h10,by simp [spOf,validOf],fun r hr=>?_,fun x hx i hi=>?_,by simp [spOf,validOf]⟩
  · simp only [spOf,List.mem_map] at hr
    obtain ⟨l,_,rfl⟩:=hr
    simp [spOf,validOf]
  · obtain ⟨k,hk,rfl⟩:=List.getElem_of_mem hx
    have hk2:k < 2 ^ (c.inputs.toNat + c.latches.length):=by
      have:(spOf c).next.length = 2 ^ (c.inputs.toNat + c.latches.length):=by simp [spOf,hgt]
      omega
    obtain ⟨q,fl,hf⟩:=nextF h rfl (by omega) hk2
    have hn:=hf.next
    rw [List.getElem?_eq_getElem hk] at hn
    rw [Option.some.inj hn] at hi
    obtain ⟨y,hy,rfl⟩:=List.mem_map.1 hi
    have h1:=(hf.mem y hy).1
    have h2:=hf.fit
    rw [hvl]
    omega
structure Te (c:Ci) (s:Sp) (fr:List Bool) (tid:Nat) (S:Store):Prop where
  obj:S.obj tid = some (.cells 176 [c.cells ++ s.cells ++ [aL aB fr]] true)
  lt:tid < S.n
theorem Te.keep {c:Ci} {s:Sp} {fr:List Bool} {tid:Nat} {S T:Store} (h:Te c s fr tid S) (k:Keep S T):Te c s fr tid T:=⟨(k.2 _ h.lt).trans h.obj,Nat.lt_of_lt_of_le h.lt k.1⟩
section
variable {c:Ci} {s:Sp} {fr:List Bool} {tid:Nat} {S:Store}
theorem Te.ldv (h:Te c s fr tid S) {K:AV → Store → Prop}:ld1 (.p tid 0 (0 + 8 + 1)) S K = K (aL aB s.valid) S:=ld1_p h.obj rfl rfl
theorem Te.ldf (h:Te c s fr tid S) {K:AV → Store → Prop}:ld1 (.p tid 0 (0 + 13)) S K = K (aL aB fr) S:=ld1_p h.obj rfl rfl
theorem Te.lds (h:Te c s fr tid S) {K:AV → Store → Prop}:ldN 5 (.p tid 0 (0 + 8)) S K = K s.av S:=ldN_off (n:=5) (cs':=s.cells) h.obj (by simp [Ci.cells,Sp.cells]) rfl
theorem Te.ldc (h:Te c s fr tid S) {K:AV → Store → Prop}:ldN 8 (.p tid 0 (0 + 0)) S K = K c.av S:=ldN_off (n:=8) (cs':=c.cells) h.obj (by simp [Ci.cells,Sp.cells]) rfl
theorem J_nil {id i j:Nat} {S0:Store} {P:AV → Prop}:(∃ q,(nilChk (.p id i j) S0 fun v S=>v = q ∧ S = S0) ∧ P q) = P (.p id i j):=J_by (op:=fun K=>nilChk (.p id i j) S0 K) fun K=>nilChk_p _ _ _ _ _
theorem at178 (h:Te c s fr tid S) (hv:s.valid.length ≤ 1000000) {F:FuncId} {fs cs:List AV} {g:Nat → Bool} (hf:∀ T,Keep S T → ∀ i,i < s.valid.length → AnsAt Tryz.prog F (fs ++ [aI i] ++ cs) T (aB (g i))) :
    AnsAt Tryz.prog 178 [.p tid 0 0,.f (.func F) fs cs] S (aL aB (eachP s g)):=by
  refine ans_own_at (f:=fun b=>.bool b) (e:=4) (calls178 ?_)
  unfold m178
  rw [nilChk_p,shift_p,shift_p,h.ldv,lenS_aL]
  refine mk_of (by omega) (by omega) fun S1 k1 n1 o1=>?_
  have h1:=h.keep k1
  rw [nilChk_p,shift_p,shift_p,h1.ldv,lenS_aL]
  let e:Nat → Bool:=fun k=>bit s.valid k && g k
  have hrep:List.replicate s.valid.length [AV.v (.bool false)] = (List.range s.valid.length).map fun k=>[aB (if k < 0 then e k else false)]:=by
    apply List.ext_getElem
    · simp
    · intro k h1 h2
      simp
  rw [hrep] at o1
  refine loop178_0 (fun w S'=>Keep S S' ∧ S.n < S'.n ∧ ∃ i:Nat,w = aI i ∧ i ≤ s.valid.length ∧ S'.obj S.n = some (.cells 4 ((List.range s.valid.length).map fun k=>[aB (if k < i then e k else false)]) true))
    (fun w _=>s.valid.length - ((intA w).getD 0).toNat) ⟨k1,by omega,0,rfl,Nat.zero_le _,o1⟩ ?_
  rintro _ S2 ⟨k2,n2,i,rfl,hi,o2⟩ KE hKE
  unfold b178_0
  rw [bin_lss,onB_v]
  refine gd_of (fun hlt=>?_) (fun hge=>?_)
  · have hlt:i < s.valid.length:=by simpa using hlt
    have step:∀ b,b = e i → ixS 4 1 (.s S.n 0 s.valid.length) (aI i) S2 fun v S3=>stN 1 v (aB b) S3 fun _ S3=>bin .add 0 (aI i) (.v (.int .i64 1)) S3 fun v S3=>KE 37 (env178_0 (.f (.func F) fs cs) (.s S.n 0 s.valid.length) (aL aB s.valid) (aI s.valid.length) v) S3:=fun b hb=>by
      rw [ixS_s hlt o2]
      refine st_of o2 (u0:=aB (if i < i then e i else false)) (by rw [Nat.zero_add]; simp [hlt]) rfl fun S3 n3 o3 f3=>?_
      rw [bin_add (by omega) (by omega)]
      refine hKE _ _ ⟨k2.st (Nat.le_refl _) n3 f3,by omega,i + 1,rfl,hlt,?_⟩ (by simp [intA]; omega)
      rw [o3,Nat.zero_add]
      have:=set_range (n:=s.valid.length) (i:=i) (f:=fun k=>[aB (if k < i then e k else false)]) (f':=fun k=>[aB (if k < i + 1 then e k else false)]) hlt (fun k hk=>by
        have:(k < i + 1) = (k < i):=by apply propext; omega
        simp only [this])
      rw [← this,hb]
      simp
    rw [ixS_aL hlt,ld1_q,onB_v]
    refine gd_of (fun hb=>?_) (fun hb=>?_)
    · refine callV_at (hf S2 k2 i hlt) ?_
      exact step _ (by show g i = (bit s.valid i && g i); rw [bit_get hlt,hb,Bool.true_and])
    · exact step _ (by show false = (bit s.valid i && g i); rw [bit_get hlt,hb,Bool.false_and])
  · have hge:i = s.valid.length:=by simp at hge; omega
    subst hge
    refine ⟨_,rfl,k2,.inr ⟨S.n,by simp [eachP,tab],Nat.le_refl _,n2,?_⟩⟩
    rw [o2,eachP,tab,List.map_map]
    congr 2
    apply List.map_congr_left
    intro k hk
    simp [List.mem_range.1 hk,e]
theorem ixB {l:List Bool} {e i:Nat} (h:i < l.length) {S:Store} {K:AV → Store → Prop}:ixS e 1 (aL aB l) (aI i) S K = K (.q [aB (bit l i)] 0) S:=by
  rw [ixS_aL h,bit_get h]
theorem at180 (h:Te c s fr tid S) (hv:s.valid.length ≤ 1000000) {p:List Bool} (hp:p.length = s.valid.length):AnsAt Tryz.prog 180 [.p tid 0 0,aL aB p] S (aL aB (notP s p)):=by
  refine ACalls.ans_aL (f:=fun b=>.bool b) (calls180 ?_)
  unfold m180
  refine box1_of rfl fun S1 k1 n1 o1=>?_
  refine callF_at (at178 (h.keep k1) hv (g:=fun i=>!bit p i) fun T hT i hi=>?_) ⟨rfl,k1⟩
  refine calls196 ?_
  unfold m196
  rw [ld1_p ((hT.2 _ (by omega)).trans o1) rfl rfl,ixB (by omega),ld1_q,un_not]
  exact ⟨rfl,rfl⟩
theorem each2 {F M:FuncId} {m:AV → AV → AV → Store → (AEnd → Store → Prop) → Prop} (h:Te c s fr tid S) (hv:s.valid.length ≤ 1000000) {p q:List Bool} (hp:p.length = s.valid.length) (hq:q.length = s.valid.length) {g:Bool → Bool → Bool}
    (hm:∀ (T:Store) (Q:AEnd → Store → Prop) (i:Nat) (a b ta tb:Nat),i < s.valid.length → T.obj a = some (.cells ta [[aL aB p]] true) → T.obj b = some (.cells tb [[aL aB q]] true) → Q (.ret (aB (g (bit p i) (bit q i)))) T → ACalls Tryz.prog F [aI i,.p a 0 0,.p b 0 0] T Q) {Q:AEnd → Store → Prop} (hQ:∀ S',Keep S S' → Q (.ret (aL aB (eachP s fun i=>g (bit p i) (bit q i)))) S') :
    boxN 177 1 (aL aB p) S fun v1 S=>boxN 177 1 (aL aB q) S fun v2 S=>callF Tryz.prog 178 [.p tid 0 0,.f (.func F) [] [v1,v2]] S Q fun v S=>Q (.ret v) S:=by
  refine box1_of rfl fun S1 k1 n1 o1=>?_
  refine box1_of rfl fun S2 k2 n2 o2=>?_
  refine callF_at (at178 (h.keep (k1.trans k2)) hv (g:=fun i=>g (bit p i) (bit q i)) fun T hT i hi=>?_) (hQ _ (k1.trans k2))
  exact hm T _ i _ _ _ _ hi ((hT.2 _ (by omega)).trans ((k2.2 _ (by omega)).trans o1)) ((hT.2 _ (by omega)).trans o2) ⟨rfl,rfl⟩
theorem at200 (h:Te c s fr tid S) (hv:s.valid.length ≤ 1000000) {p q:List Bool} (hp:p.length = s.valid.length) (hq:q.length = s.valid.length) (hin:In s p):AnsAt Tryz.prog 200 [.p tid 0 0,aL aB p,aL aB q] S (aL aB (andP p q)):=by
  refine ACalls.ans_aL (f:=fun b=>.bool b) (calls200 ?_)
  unfold m200
  refine each2 (M:=0) (m:=fun _ _ _ _ _=>True) h hv hp hq (g:=fun a b=>a && b) (fun T Q i a b ta tb hi ha hb hQ=>?_) fun S' k=>⟨by rw [each_and hin],k⟩
  refine calls212 ?_
  unfold m212
  rw [ld1_p ha rfl rfl,ixB (by omega),ld1_q,onB_v]
  refine gd_of (fun h=>?_) (fun h=>?_)
  · rw [ld1_p hb rfl rfl,ixB (by omega),ld1_q]
    rw [h,Bool.true_and] at hQ; exact hQ
  · rw [h,Bool.false_and] at hQ; exact hQ
theorem at201 (h:Te c s fr tid S) (hv:s.valid.length ≤ 1000000) {p q:List Bool} (hp:In s p) (hq:In s q):AnsAt Tryz.prog 201 [.p tid 0 0,aL aB p,aL aB q] S (aL aB (orP p q)):=by
  refine ACalls.ans_aL (f:=fun b=>.bool b) (calls201 ?_)
  have h1:=hp.len
  have h2:=hq.len
  unfold m201
  refine each2 (M:=0) (m:=fun _ _ _ _ _=>True) h hv hp.len hq.len (g:=fun a b=>a || b) (fun T Q i a b ta tb hi ha hb hQ=>?_) fun S' k=>⟨by rw [each_or hp hq],k⟩
  refine calls213 ?_
  unfold m213
  rw [ld1_p ha rfl rfl,ixB (by omega),ld1_q,onB_v]
  refine gd_of (fun h=>?_) (fun h=>?_)
  · rw [h,Bool.true_or] at hQ; exact hQ
  · rw [ld1_p hb rfl rfl,ixB (by omega),ld1_q]
    rw [h,Bool.false_or] at hQ; exact hQ
variable (hs:SpOk s) (hfr:In s fr)
include hs hfr
theorem at197 (h:Te c s fr tid S) {p:List Bool} (hp:In s p):AnsAt Tryz.prog 197 [.p tid 0 0,aL aB p] S (aL aB (nextP s fr p)):=by
  refine ACalls.ans_aL (f:=fun b=>.bool b) (calls197 ?_)
  unfold m197
  have hv:=hs.small.h1
  have c1:=at200 h (by omega) hp.len hfr.len hp
  have c2:=ans210 hs.sm (andP p fr)
  rw [EXs_of (hs.fit (by simp [hp.len]))] at c2
  have l1:∀ (P:AV → Prop),(∃ q,(ldN 5 (.p tid 0 (0 + 8)) S fun v S'=>v = q ∧ S' = S) ∧ P q) = P s.av:=fun P=>J_by (op:=fun K=>ldN 5 (.p tid 0 (0 + 8)) S K) fun K=>h.lds
  have l2:∀ (P:AV → Prop),(∃ q,(ld1 (.p tid 0 (0 + 13)) S fun v S'=>v = q ∧ S' = S) ∧ P q) = P (aL aB fr):=fun P=>J_by (op:=fun K=>ld1 (.p tid 0 (0 + 13)) S K) fun K=>h.ldf
  show ∃ q:AV,_
  (repeat (first | with_reducible_and_instances (first | refine WJ ?_ | refine W (J_nil) ?_ | refine W (l1 _) ?_ | refine W (l2 _) ?_ | refine W (J_ldq (by with_unfolding_all rfl)) ?_) | refine J_cI (c1) rfl rfl ?_ | refine C_I (c1) rfl rfl ?_ | refine J_cA (c2) rfl rfl ?_ | refine C_A (c2) rfl rfl ?_))
  exact ⟨rfl,Keep.refl _⟩
theorem at198 (h:Te c s fr tid S) {p q:List Bool} (hp:p.length = s.valid.length) (hq:In s q):AnsAt Tryz.prog 198 [.p tid 0 0,aL aB p,aL aB q] S (aL aB (untilP s fr p q)):=by
  refine ACalls.ans_aL (f:=fun b=>.bool b) (calls198 ?_)
  unfold m198
  have hv:=hs.small.h1
  have c1:=at200 h (by omega) hq.len hfr.len hq
  have c2:=ans211 hs.sm p (andP q fr)
  rw [EUs_of (hs.fit hp) (hs.fit (by simp [hq.len]))] at c2
  have l1:∀ (P:AV → Prop),(∃ q,(ldN 5 (.p tid 0 (0 + 8)) S fun v S'=>v = q ∧ S' = S) ∧ P q) = P s.av:=fun P=>J_by (op:=fun K=>ldN 5 (.p tid 0 (0 + 8)) S K) fun K=>h.lds
  have l2:∀ (P:AV → Prop),(∃ q,(ld1 (.p tid 0 (0 + 13)) S fun v S'=>v = q ∧ S' = S) ∧ P q) = P (aL aB fr):=fun P=>J_by (op:=fun K=>ld1 (.p tid 0 (0 + 13)) S K) fun K=>h.ldf
  show ∃ q:AV,_
  (repeat (first | with_reducible_and_instances (first | refine WJ ?_ | refine W (J_nil) ?_ | refine W (l1 _) ?_ | refine W (l2 _) ?_ | refine W (J_ldq (by with_unfolding_all rfl)) ?_) | refine J_cI (c1) rfl rfl ?_ | refine C_I (c1) rfl rfl ?_ | refine J_cA (c2) rfl rfl ?_ | refine C_A (c2) rfl rfl ?_))
  exact ⟨rfl,Keep.refl _⟩
omit hfr in
theorem at199 (h:Te c s fr tid S) {p:List Bool} (hp:p.length = s.valid.length):AnsAt Tryz.prog 199 [.p tid 0 0,aL aB p] S (aL aB (egP s p)):=by
  refine ACalls.ans_aL (f:=fun b=>.bool b) (calls199 ?_)
  unfold m199
  have c2:=ans162 hs.sm p
  rw [EGs_of (hs.fit hp)] at c2
  rw [nilChk_p,shift_p,h.lds]
  exact callF_ans c2 ⟨rfl,Keep.refl _⟩
theorem at181 (h:Te c s fr tid S) (k:Int) {p:List Bool} (hp:In s p):AnsAt Tryz.prog 181 [.p tid 0 0,aI k,aL aB p] S (aL aB (oneP s fr k p)):=by
  refine ACalls.ans_aL (f:=fun b=>.bool b) (calls181 ?_)
  have hv:s.valid.length ≤ 1000000:=by have:=hs.small.h1; omega
  have nn:=fun {q:List Bool} (hq:In s q)=>at180 h hv hq.len
  have nx:=fun {q:List Bool} (hq:In s q)=>at197 hs hfr h hq
  have ix:∀ {q:List Bool},In s q → In s (nextP s fr q):=fun hq=>In.ex (by simp [hq.len])
  have iu:∀ {p q:List Bool},In s q → In s (untilP s fr p q):=fun hq=>In.eu (by simp [hq.len])
  have ig:∀ {q:List Bool},In s q → In s (egP s q):=fun hq=>In.eg hq.len
  have k0:=Keep.refl S
  unfold m181 oneP
  rw [bin_eql,onB_v]
  refine gd_of (fun e=>?_) (fun e=>?_)
  · rw [if_pos (of_decide_eq_true e)]
    exact callF_at (nx hp) ⟨rfl,k0⟩
  rw [if_neg (of_decide_eq_false e),bin_eql,onB_v]
  refine gd_of (fun e=>?_) (fun e=>?_)
  · rw [if_pos (of_decide_eq_true e)]
    exact callF_at (nn hp) (callF_at (nx (in_not _ _)) (callF_at (nn (ix (in_not _ _))) ⟨rfl,k0⟩))
  rw [if_neg (of_decide_eq_false e),bin_eql,onB_v]
  refine gd_of (fun e=>?_) (fun e=>?_)
  · rw [if_pos (of_decide_eq_true e),nilChk_p,shift_p,shift_p,h.ldv]
    exact callF_at (at198 hs hfr h rfl hp) ⟨rfl,k0⟩
  rw [if_neg (of_decide_eq_false e),bin_eql,onB_v]
  refine gd_of (fun e=>?_) (fun e=>?_)
  · rw [if_pos (of_decide_eq_true e)]
    exact callF_at (nn hp) (callF_at (at199 hs h (in_not s p).len) (callF_at (nn (ig (in_not _ _))) ⟨rfl,k0⟩))
  rw [if_neg (of_decide_eq_false e),bin_eql,onB_v]
  refine gd_of (fun e=>?_) (fun e=>?_)
  · rw [if_pos (of_decide_eq_true e)]
    exact callF_at (at199 hs h hp.len) ⟨rfl,k0⟩
  rw [if_neg (of_decide_eq_false e),bin_eql,onB_v]
  refine gd_of (fun e=>?_) (fun e=>?_)
  · rw [if_pos (of_decide_eq_true e)]
    have c1:=nn hp
    have c2:=at198 hs hfr h (p:=s.valid) rfl (in_not s p)
    have c3:=nn (iu (p:=s.valid) (in_not s p))
    have l1:∀ (P:AV → Prop),(∃ q,(ld1 (.p tid 0 (0 + 8 + 1)) S fun v S'=>v = q ∧ S' = S) ∧ P q) = P (aL aB s.valid):=fun P=>J_by (op:=fun K=>ld1 (.p tid 0 (0 + 8 + 1)) S K) fun K=>h.ldv
    show ∃ q:AV,_
    (repeat (first | with_reducible_and_instances (first | refine WJ ?_ | refine W (J_nil) ?_ | refine W (l1 _) ?_ | refine W (J_ldq (by with_unfolding_all rfl)) ?_) | refine J_cI (c1) rfl rfl ?_ | refine C_I (c1) rfl rfl ?_ | refine J_cI (c2) rfl rfl ?_ | refine C_I (c2) rfl rfl ?_ | refine J_cI (c3) rfl rfl ?_ | refine C_I (c3) rfl rfl ?_))
    exact ⟨rfl,k0⟩
  rw [if_neg (of_decide_eq_false e)]
  exact callF_at (nn hp) ⟨rfl,k0⟩
end
section
variable {c:Ci} {s:Sp} {fr:List Bool} {tid:Nat} {S:Store}
variable (hs:SpOk s) (hfr:In s fr)
include hs hfr
theorem at182 (h:Te c s fr tid S) (k:Int) {p q:List Bool} (hp:In s p) (hq:In s q):AnsAt Tryz.prog 182 [.p tid 0 0,aI k,aL aB p,aL aB q] S (aL aB (twoP s fr k p q)):=by
  refine ACalls.ans_aL (f:=fun b=>.bool b) (calls182 ?_)
  have hv:s.valid.length ≤ 1000000:=by have:=hs.small.h1; omega
  unfold m182 twoP
  refine box1_of rfl fun S1 k1 n1 o1=>?_
  refine box1_of rfl fun S2 k2 n2 o2=>?_
  have p2:=(k2.2 _ (by omega)).trans o1
  have kk:=k1.trans k2
  have h:=h.keep kk
  have nn:=fun {q:List Bool} (hq:In s q)=>at180 h hv hq.len
  have an:=fun {p q:List Bool} (hp:In s p) (hq:In s q)=>at200 h hv hp.len hq.len hp
  have oo:=fun {p q:List Bool} (hp:In s p) (hq:In s q)=>at201 h hv hp hq
  have uu:=fun {p q:List Bool} (hp:In s p) (hq:In s q)=>at198 hs hfr h hp.len hq
  have al:=fun {p:List Bool} (hp:In s p)=>at199 hs h hp.len
  have iu:∀ {p q:List Bool},In s q → In s (untilP s fr p q):=fun hq=>In.eu (by simp [hq.len])
  have ig:∀ {q:List Bool},In s q → In s (egP s q):=fun hq=>In.eg hq.len
  have ino:=fun q=>in_not s q
  rw [bin_eql,onB_v]
  refine gd_of (fun e=>?_) (fun e=>?_)
  · rw [if_pos (of_decide_eq_true e),ld1_p p2 rfl rfl,ld1_p o2 rfl rfl]
    exact callF_at (an hp hq) ⟨rfl,kk⟩
  rw [if_neg (of_decide_eq_false e),bin_eql,onB_v]
  refine gd_of (fun e=>?_) (fun e=>?_)
  · rw [if_pos (of_decide_eq_true e),ld1_p p2 rfl rfl,ld1_p o2 rfl rfl]
    exact callF_at (oo hp hq) ⟨rfl,kk⟩
  rw [if_neg (of_decide_eq_false e),bin_eql,onB_v]
  refine gd_of (fun e=>?_) (fun e=>?_)
  · rw [if_pos (of_decide_eq_true e)]
    have c1:=nn hp
    have c2:=oo (ino p) hq
    show ∃ q:AV,_
    (repeat (first | with_reducible_and_instances (first | refine WJ ?_ | refine W (J_ldp p2 (by with_unfolding_all rfl) (by with_unfolding_all rfl)) ?_ | refine W (J_ldp o2 (by with_unfolding_all rfl) (by with_unfolding_all rfl)) ?_ | refine W (J_ldq (by with_unfolding_all rfl)) ?_) | refine J_cI (c1) rfl rfl ?_ | refine C_I (c1) rfl rfl ?_ | refine J_cI (c2) rfl rfl ?_ | refine C_I (c2) rfl rfl ?_))
    exact ⟨rfl,kk⟩
  rw [if_neg (of_decide_eq_false e),bin_eql,onB_v]
  refine gd_of (fun e=>?_) (fun e=>?_)
  · rw [if_pos (of_decide_eq_true e)]
    have l1:=hp.len
    have l2:=hq.len
    refine callF_at (at178 h hv (g:=fun i=>bit p i == bit q i) fun T hT i hi=>?_) ⟨by rw [each_same hp hq],kk⟩
    refine calls202 ?_
    unfold m202
    show ∃ q:AV,_
    refine ⟨_,by rw [ld1_p ((hT.2 _ (by omega)).trans p2) rfl rfl]; exact ⟨rfl,rfl⟩,?_⟩
    refine ⟨_,by rw [ixB (by omega)]; exact ⟨rfl,rfl⟩,?_⟩
    refine ⟨_,by rw [ld1_q]; exact ⟨rfl,rfl⟩,?_⟩
    refine ⟨_,by rw [ld1_p ((hT.2 _ (by omega)).trans o2) rfl rfl]; exact ⟨rfl,rfl⟩,?_⟩
    refine ⟨_,by rw [ixB (by omega)]; exact ⟨rfl,rfl⟩,?_⟩
    refine ⟨_,by rw [ld1_q]; exact ⟨rfl,rfl⟩,?_⟩
    refine ⟨_,by rw [bin_eqlB]; exact ⟨rfl,rfl⟩,?_⟩
    exact ⟨rfl,rfl⟩
  rw [if_neg (of_decide_eq_false e),bin_eql,onB_v]
  refine gd_of (fun e=>?_) (fun e=>?_)
  · rw [if_pos (of_decide_eq_true e),ld1_p p2 rfl rfl,ld1_p o2 rfl rfl]
    exact callF_at (uu hp hq) ⟨rfl,kk⟩
  have e15:=of_decide_eq_false e
  rw [if_neg e15,bin_eql,onB_v]
  refine gd_of (fun e=>?_) (fun e=>?_)
  · have e:=of_decide_eq_true e
    rw [if_neg (by omega),if_pos e]
    have c1:=al hq
    have c2:=an hp hq
    have c3:=uu hq (hp.and (q:=q))
    have c4:=oo (ig hq) (iu (p:=q) (hp.and (q:=q)))
    show ∃ q:AV,_
    (repeat (first | with_reducible_and_instances (first | refine WJ ?_ | refine W (J_ldp p2 (by with_unfolding_all rfl) (by with_unfolding_all rfl)) ?_ | refine W (J_ldp o2 (by with_unfolding_all rfl) (by with_unfolding_all rfl)) ?_ | refine W (J_ldq (by with_unfolding_all rfl)) ?_) | refine J_cI (c1) rfl rfl ?_ | refine C_I (c1) rfl rfl ?_ | refine J_cI (c2) rfl rfl ?_ | refine C_I (c2) rfl rfl ?_ | refine J_cI (c3) rfl rfl ?_ | refine C_I (c3) rfl rfl ?_ | refine J_cI (c4) rfl rfl ?_ | refine C_I (c4) rfl rfl ?_))
    exact ⟨rfl,kk⟩
  have e17:=of_decide_eq_false e
  rw [bin_eql,onB_v]
  refine gd_of (fun e=>?_) (fun e=>?_)
  · rw [if_pos (of_decide_eq_true e),ld1_p o2 rfl rfl]
    refine callF_at (nn hq) ?_
    rw [ld1_p p2 rfl rfl]
    refine callF_at (nn hp) (callF_at (an (ino p) (ino q)) ?_)
    rw [not_or hp hq]
    refine callF_at (uu (ino q) (ino _)) (callF_at (al (ino q)) (callF_at (oo (iu (ino _)) (ig (ino q))) (callF_at (nn ((iu (ino _)).or (ig (ino q)))) ⟨rfl,kk⟩)))
  rw [if_neg (of_decide_eq_false e),if_neg e17]
  have c1:=nn hp
  have c2:=nn hq
  have c3:=uu (ino p) (ino q)
  have c4:=nn (iu (p:=notP s p) (ino q))
  show ∃ q:AV,_
  (repeat (first | with_reducible_and_instances (first | refine WJ ?_ | refine W (J_ldp p2 (by with_unfolding_all rfl) (by with_unfolding_all rfl)) ?_ | refine W (J_ldp o2 (by with_unfolding_all rfl) (by with_unfolding_all rfl)) ?_ | refine W (J_ldq (by with_unfolding_all rfl)) ?_) | refine J_cI (c1) rfl rfl ?_ | refine C_I (c1) rfl rfl ?_ | refine J_cI (c2) rfl rfl ?_ | refine C_I (c2) rfl rfl ?_ | refine J_cI (c3) rfl rfl ?_ | refine C_I (c3) rfl rfl ?_ | refine J_cI (c4) rfl rfl ?_ | refine C_I (c4) rfl rfl ?_))
  exact ⟨rfl,kk⟩
theorem in_atom (l:Int):In s (atomP c s l):=in_each _ _
theorem at163 (hc:c.ok):∀ (f:Fo),f.ok → ∀ (d:Int),f.mayB d = true → ∀ {S:Store},Te c s fr tid S → AnsAt Tryz.prog 163 [.p tid 0 0,f.av] S (aL aB (f.sem s fr (atomP c s))):=by
  intro f
  induction f using Fo.ind with
  | h k n l ks ih =>
    intro hok d hd S h
    obtain ⟨h1,h2,h3,h4,h5⟩:=hok.inv
    have hv:s.valid.length ≤ 1000000:=by have:=hs.small.h1; omega
    refine ACalls.ans_aL (f:=fun b=>.bool b) (calls163 ?_)
    unfold m163 Fo.av
    rw [Fo.row_mk]
    refine box1_of rfl fun S1 k1 n1 o1=>?_
    refine boxA_of rfl fun S2 k2 n2 o2=>?_
    have p2:=(k2.2 _ (by omega)).trans o1
    have kk:=k1.trans k2
    have h:=h.keep kk
    have ia:∀ l,In s (atomP c s l):=fun l=>in_atom hs hfr l
    obtain ⟨_,_,hcase⟩:=may_cases hd
    rw [shift_p,ld1_p o2 rfl rfl,bin_eql,onB_v]
    rcases hcase with ⟨hk,rfl,_⟩ | ⟨rfl,rfl,_⟩ | ⟨hk,_,f,rfl,hf⟩ | ⟨hk,_,f,g,rfl,hf,hg⟩
    · rw [decide_eq_false (by omega:¬ k = 3),gd_false,bin_eql,onB_v]
      rcases hk with rfl | rfl
      · rw [decide_eq_false (by decide:¬ (1:Int) = 2),gd_false,bin_eql,onB_v,decide_eq_true rfl,gd_true,sem_false]
        have c1:=at180 h hv (p:=s.valid) rfl
        have l1:∀ (P:AV → Prop),(∃ q,(ld1 (.p tid 0 (0 + 8 + 1)) S2 fun v S'=>v = q ∧ S' = S2) ∧ P q) = P (aL aB s.valid):=fun P=>J_by (op:=fun K=>ld1 (.p tid 0 (0 + 8 + 1)) S2 K) fun K=>h.ldv
        show ∃ q:AV,_
        (repeat (first | with_reducible_and_instances (first | refine WJ ?_ | refine W (J_ldp p2 (by with_unfolding_all rfl) (by with_unfolding_all rfl)) ?_ | refine W (J_nil) ?_ | refine W (l1 _) ?_ | refine W (J_ldq (by with_unfolding_all rfl)) ?_) | refine J_cI (c1) rfl rfl ?_ | refine C_I (c1) rfl rfl ?_))
        exact ⟨rfl,kk⟩
      · rw [decide_eq_true rfl,gd_true,sem_true,ld1_p p2 rfl rfl,nilChk_p,shift_p,shift_p,h.ldv]
        exact ⟨rfl,kk⟩
    · rw [decide_eq_true rfl,gd_true,sem_atom,ld1_p p2 rfl rfl]
      refine callF_at (at178 h hv (g:=fun i=>isB c i l) fun T hT i hi=>?_) ⟨rfl,kk⟩
      refine calls179 ?_
      unfold m179
      show ∃ q:AV,_
      refine ⟨_,by rw [ld1_p ((hT.2 _ (by omega)).trans p2) rfl rfl]; exact ⟨rfl,rfl⟩,?_⟩
      refine ⟨_,by rw [nilChk_p]; exact ⟨rfl,rfl⟩,?_⟩
      refine ⟨_,by rw [shift_p]; exact ⟨rfl,rfl⟩,?_⟩
      refine ⟨_,by rw [(h.keep hT).ldc]; exact ⟨rfl,rfl⟩,?_⟩
      refine ⟨_,by rw [shift_p]; exact ⟨rfl,rfl⟩,?_⟩
      refine ⟨_,by rw [ld1_p ((hT.2 _ (by omega)).trans o2) rfl rfl]; exact ⟨rfl,rfl⟩,?_⟩
      refine ⟨_,callF_ans (ans171 hc i h2) ⟨rfl,rfl⟩,?_⟩
      exact ⟨rfl,rfl⟩
    · rw [decide_eq_false (by omega:¬ k = 3),gd_false,bin_eql,onB_v,decide_eq_false (by omega:¬ k = 2),gd_false,bin_eql,onB_v,decide_eq_false (by omega:¬ k = 1),gd_false,sem_one (by omega)]
      have c1:=ih f (by simp) (h5 f (by simp)) _ hf h
      have c2:=at181 hs hfr h k (in_sem (fr:=fr) ia f _ hf)
      show ∃ q:AV,_
      refine ⟨_,by rw [ld1_p p2 rfl rfl]; exact ⟨rfl,rfl⟩,?_⟩
      refine ⟨_,by rw [shift_p]; exact ⟨rfl,rfl⟩,?_⟩
      refine ⟨_,by rw [ld1_p o2 rfl rfl]; exact ⟨rfl,rfl⟩,?_⟩
      refine ⟨_,by rw [show ∀ K:AV → Store → Prop,ixS 24 4 (foL [f]) (.v (.int .i64 0)) S2 K = K (.q f.row 0) S2 from fun K=>ixS_foL (l:=[f]) (i:=0) (by simp)]; exact ⟨rfl,rfl⟩,?_⟩
      refine ⟨_,by rw [ldN_q (Fo.row_len f)]; exact ⟨rfl,rfl⟩,?_⟩
      refine J_callI c1 ?_
      rw [shift_p,ld1_p o2 rfl rfl,lenS_foL,bin_eql,onB_v]
      rw [show decide ((([f]:List Fo).length:Int) = 1) = true from rfl,gd_true,ld1_p p2 rfl rfl,shift_p,ld1_p o2 rfl rfl]
      exact callF_at c2 ⟨rfl,kk⟩
    · rw [decide_eq_false (by omega:¬ k = 3),gd_false,bin_eql,onB_v,decide_eq_false (by omega:¬ k = 2),gd_false,bin_eql,onB_v,decide_eq_false (by omega:¬ k = 1),gd_false,sem_two (by omega)]
      have c1:=ih f (by simp) (h5 f (by simp)) _ hf h
      have c1':=ih g (by simp) (h5 g (by simp)) _ hg h
      have c2:=at182 hs hfr h k (in_sem (fr:=fr) ia f _ hf) (in_sem (fr:=fr) ia g _ hg)
      show ∃ q:AV,_
      refine ⟨_,by rw [ld1_p p2 rfl rfl]; exact ⟨rfl,rfl⟩,?_⟩
      refine ⟨_,by rw [shift_p]; exact ⟨rfl,rfl⟩,?_⟩
      refine ⟨_,by rw [ld1_p o2 rfl rfl]; exact ⟨rfl,rfl⟩,?_⟩
      refine ⟨_,by rw [show ∀ K:AV → Store → Prop,ixS 24 4 (foL [f,g]) (.v (.int .i64 0)) S2 K = K (.q f.row 0) S2 from fun K=>ixS_foL (l:=[f,g]) (i:=0) (by simp)]; exact ⟨rfl,rfl⟩,?_⟩
      refine ⟨_,by rw [ldN_q (Fo.row_len f)]; exact ⟨rfl,rfl⟩,?_⟩
      refine J_callI c1 ?_
      rw [shift_p,ld1_p o2 rfl rfl,lenS_foL,bin_eql,onB_v]
      rw [show decide ((([f,g]:List Fo).length:Int) = 1) = false from rfl,gd_false]
      show ∃ q:AV,_
      refine ⟨_,by rw [ld1_p p2 rfl rfl]; exact ⟨rfl,rfl⟩,?_⟩
      refine ⟨_,by rw [shift_p]; exact ⟨rfl,rfl⟩,?_⟩
      refine ⟨_,by rw [ld1_p o2 rfl rfl]; exact ⟨rfl,rfl⟩,?_⟩
      refine ⟨_,by rw [ld1_p p2 rfl rfl]; exact ⟨rfl,rfl⟩,?_⟩
      refine ⟨_,by rw [shift_p]; exact ⟨rfl,rfl⟩,?_⟩
      refine ⟨_,by rw [ld1_p o2 rfl rfl]; exact ⟨rfl,rfl⟩,?_⟩
      refine ⟨_,by rw [show ∀ K:AV → Store → Prop,ixS 24 4 (foL [f,g]) (.v (.int .i64 1)) S2 K = K (.q g.row 0) S2 from fun K=>ixS_foL (l:=[f,g]) (i:=1) (by simp)]; exact ⟨rfl,rfl⟩,?_⟩
      refine ⟨_,by rw [ldN_q (Fo.row_len g)]; exact ⟨rfl,rfl⟩,?_⟩
      refine J_callI c1' ?_
      refine J_callI c2 ?_
      exact ⟨rfl,kk⟩
end
theorem ans118 {c:Ci} (hc:c.ok) {s:Sp} (hs:SpOk s) {f:Fo} (hf:f.ok) {d:Int} (hd:f.mayB d = true):Ans Tryz.prog 118 [c.av,s.av,f.av] (aL aB (f.sem s (egP s s.valid) (atomP c s))):=by
  intro S
  refine ACalls.ans_aL (f:=fun b=>.bool b) (calls118 ?_)
  unfold m118
  refine boxA_of rfl fun S1 k1 n1 o1=>?_
  refine boxA_of rfl fun S2 k2 n2 o2=>?_
  refine boxA_of (Fo.row_len f) fun S3 k3 n3 o3=>?_
  have p3:=(k3.2 _ (by omega)).trans ((k2.2 _ (by omega)).trans o1)
  have q3:=(k3.2 _ (by omega)).trans o2
  have kk:=(k1.trans k2).trans k3
  have cg:=ans162 hs.sm s.valid
  rw [EGs_of (hs.fit rfl)] at cg
  refine L_ldN (n:=8) p3 (by omega) rfl ?_
  refine L_ldN (n:=5) q3 (by omega) rfl ?_
  refine L_ldN (n:=5) q3 (by omega) rfl ?_
  refine L_shift ?_
  refine L_ldp q3 (by omega) rfl rfl ?_
  refine L_callA cg ?_
  refine ⟨_,fun T hT=>by rw [bld_of (cs:=c.cells ++ s.cells ++ [aL aB (egP s s.valid)]) rfl]; exact ⟨rfl,rfl⟩,?_⟩
  refine boxA_of rfl fun S4 k4 n4 o4=>?_
  rw [ldN_p (n:=4) ((k4.2 _ (by omega)).trans o3) (Fo.row_len f)]
  refine callF_at (at163 hs (In.eg rfl) hc f hf d hd (S:=S4) ⟨o4,by omega⟩) ⟨rfl,kk.trans k4⟩
noncomputable def toldB (c:Ci) (f:Fo):List Bool × Sp × Int:=if mayC c f = false then ([],sp0,1) else if (spaceB c).2 = 0 then (semC c f,spOf c,0) else ([],sp0,(spaceB c).2)
theorem spaceB_err {c:Ci} (h:¬ (spaceB c).2 = 0):(spaceB c).1 = sp0:=by
  unfold spaceB at h ⊢
  split
  · rfl
  · rename_i h1
    rw [if_neg h1] at h
    split
    · rfl
    · rename_i h2
      rw [if_neg h2] at h
      exact absurd rfl h
theorem spaceB_ok {c:Ci} (h:(spaceB c).2 = 0):spaceB c = (spOf c,0) ∧ c.right = true ∧ ¬ 10 < c.gr.inputs:=by
  unfold spaceB at h ⊢
  split
  · rename_i h1; rw [if_pos h1] at h; cases h
  · rename_i h1
    rw [if_neg h1] at h
    split
    · rename_i h2; rw [if_pos h2] at h; cases h
    · rename_i h2
      exact ⟨rfl,by simpa using h1,h2⟩
theorem cv_sp {S:Store} {n:Nat} (s:Sp):Cv S n s.av s.av:=Tree.a (fun u hu=>by
  simp only [Sp.cells,List.mem_cons,List.not_mem_nil,or_false] at hu
  rcases hu with rfl | rfl | rfl | rfl | rfl
  · exact Tree.v _
  · exact treeB _
  · exact treeB _
  · exact Tree.aL fun _ _=>treeI _
  · exact Tree.aL fun _ _=>treeB _) S n
theorem ans69 {c:Ci} (hc:c.ok) {f:Fo} (hf:f.ok):Ans Tryz.prog 69 [c.av,f.av] (.t [aL aB (toldB c f).1,(toldB c f).2.1.av,aI (toldB c f).2.2]):=by
  intro S
  refine ACalls.tree (calls69 ?_)
  unfold m69
  refine boxA_of rfl fun S1 k1 n1 o1=>?_
  refine boxA_of (Fo.row_len f) fun S2 k2 n2 o2=>?_
  refine boxA_of rfl fun S3 k3 n3 o3=>?_
  have p3:=(k3.2 _ (by omega)).trans ((k2.2 _ (by omega)).trans o1)
  have q3:=(k3.2 _ (by omega)).trans o2
  have kk:=(k1.trans k2).trans k3
  rw [ldN_p (n:=8) p3 rfl,ldN_p (n:=4) q3 (Fo.row_len f)]
  refine callF_ans (ans52 hc hf) ?_
  rw [un_not,onB_v]
  unfold toldB
  refine gd_of (fun hm=>?_) (fun hm=>?_)
  · rw [bld_of (cs:=[aI 0,.nl,.nl,.nl,.nl]) rfl]
    refine stA_of o3 rfl rfl fun S4 n4 o4 f4=>?_
    rw [ldN_p (n:=5) o4 rfl]
    refine ⟨_,rfl,kk.st (by omega) n4 f4,?_⟩
    rw [if_pos (by simpa using hm)]
    exact cv_t3 .nl cv_sp0 (.v _)
  have hm:mayC c f = true:=by simpa using hm
  rw [if_neg (by rw [hm]; decide),ldN_p (n:=8) p3 rfl]
  refine callF_ans (ans117 hc) ?_
  rw [extr0,extr1]
  refine boxA_of rfl fun S4 k4 n4 o4=>?_
  refine stA_of (cs':=(spaceB c).1.cells) o4 rfl rfl fun S5 n5 o5 f5=>?_
  have k5:=k4.st (Nat.le_refl _) n5 f5
  have s5:=(k5.2 _ (by omega)).trans o3
  rw [bin_neq,onB_v]
  refine gd_of (fun he=>?_) (fun he=>?_)
  · have he:¬ (spaceB c).2 = 0:=by simpa using he
    rw [if_neg he]
    refine L_ldN (n:=5) o5 (by omega) rfl ?_
    refine stA_of s5 rfl rfl fun S6 n6 o6 f6=>?_
    rw [ldN_p (n:=5) o6 rfl]
    refine ⟨_,rfl,(kk.trans k5).st (by omega) n6 f6,?_⟩
    rw [spaceB_err he]
    exact cv_t3 .nl (cv_sp _) (.v _)
  · have he:(spaceB c).2 = 0:=by simpa using he
    obtain ⟨e1,e2,e3⟩:=spaceB_ok he
    rw [if_pos he]
    rw [e1] at o5
    have hd:f.mayB 60 = true:=by
      unfold mayC at hm
      simp only [Bool.and_eq_true] at hm
      exact hm.2.1
    refine L_ldN (n:=8) ((k5.2 _ (by omega)).trans p3) (by omega) rfl ?_
    refine L_ldN (n:=5) o5 (by omega) rfl ?_
    refine L_ldN (n:=4) ((k5.2 _ (by omega)).trans q3) (by omega) (Fo.row_len f) ?_
    refine L_callA (ans118 hc (spOf_ok e2 e3) hf hd) ?_
    refine L_ldN (n:=5) o5 (by omega) rfl ?_
    refine stA_of (cs':=(spOf c).cells) s5 rfl rfl fun S6 n6 o6 f6=>?_
    rw [ldN_p (n:=5) o6 rfl]
    exact ⟨_,rfl,(kk.trans k5).st (by omega) n6 f6,cv_t3 (treeB _ _ _) (cv_sp _) (.v _)⟩
theorem told_truth (c:Ci) (f:Fo):truthB c f = ((toldB c f).1,(toldB c f).2.2):=by
  unfold truthB toldB
  split
  · rfl
  · split <;> rfl
theorem ans36 {c:Ci} (hc:c.ok) {f:Fo} (hf:f.ok):Ans Tryz.prog 36 [c.av,f.av] (.t [aL aB (truthB c f).1,aI (truthB c f).2]):=by
  intro S
  rw [told_truth]
  refine ACalls.tree (calls36 ?_)
  unfold m36
  refine boxA_of rfl fun S1 k1 n1 o1=>?_
  refine boxA_of (Fo.row_len f) fun S2 k2 n2 o2=>?_
  rw [ldN_p (n:=8) ((k2.2 _ (by omega)).trans o1) rfl,ldN_p (n:=4) o2 (Fo.row_len f)]
  refine callF_ans (ans69 hc hf) ?_
  rw [extr0,extr1,extr2]
  refine boxA_of rfl fun S3 k3 n3 o3=>?_
  refine stA_of (cs':=(toldB c f).2.1.cells) o3 rfl rfl fun S4 n4 o4 f4=>?_
  exact ⟨_,rfl,(k1.trans k2).trans (k3.st (Nat.le_refl _) n4 f4),cv_t2 (treeB _ _ _) (.v _)⟩
def vTo (l ini:List Bool):Nat → Int × Int
  | 0=>(0,-1)
  | i + 1=>if bit ini i = true then ((vTo l ini i).1 + 1,if bit l i = false ∧ (vTo l ini i).2 < 0 then (i:Int) else (vTo l ini i).2) else vTo l ini i
theorem vTo_le (l ini:List Bool):∀ i,0 ≤ (vTo l ini i).1 ∧ (vTo l ini i).1 ≤ i ∧ -1 ≤ (vTo l ini i).2 ∧ (vTo l ini i).2 < i
  | 0=>by simp [vTo]
  | i + 1=>by
    obtain ⟨h1,h2,h3,h4⟩:=vTo_le l ini i
    unfold vTo
    split
    · refine ⟨by omega,by show _ ≤ ((i + 1:Nat):Int); simp only; omega,?_,?_⟩ <;> simp only <;> split <;> omega
    · exact ⟨h1,by omega,h3,by omega⟩
structure Ve where
  holds:Bool
  initial:Int
  broken:Int
def Ve.cells (v:Ve):List AV:=[aB v.holds,aI v.initial,aI v.broken]
def Ve.av (v:Ve):AV:=.a v.cells
def verB (l ini:List Bool):Ve:=⟨decide ((vTo l ini ini.length).2 < 0),(vTo l ini ini.length).1,(vTo l ini ini.length).2⟩
noncomputable def verdictB (c:Ci) (f:Fo):Ve × Int:=if (toldB c f).2.2 = 0 then (verB (toldB c f).1 (toldB c f).2.1.initial,0) else (⟨false,0,0⟩,(toldB c f).2.2)
theorem told_fit {c:Ci} {f:Fo} (h:(toldB c f).2.2 = 0):mayC c f = true ∧ toldB c f = (semC c f,spOf c,0) ∧ SpOk (spOf c) ∧ In (spOf c) (semC c f):=by
  unfold toldB at h ⊢
  split
  · rename_i h1; rw [if_pos h1] at h; cases h
  · rename_i h1
    rw [if_neg h1] at h
    split
    · rename_i h2
      obtain ⟨e1,e2,e3⟩:=spaceB_ok h2
      have hm:mayC c f = true:=by simpa using h1
      have hd:f.mayB 60 = true:=by
        unfold mayC at hm
        simp only [Bool.and_eq_true] at hm
        exact hm.2.1
      exact ⟨hm,rfl,spOf_ok e2 e3,in_sem (fun l=>in_each _ _) f _ hd⟩
    · rename_i h2
      rw [if_neg h2] at h
      exact absurd h h2
theorem ans60 {c:Ci} (hc:c.ok) {f:Fo} (hf:f.ok):Ans Tryz.prog 60 [c.av,f.av] (.t [(verdictB c f).1.av,aI (verdictB c f).2]):=by
  intro S
  refine ACalls.tree (calls60 ?_)
  unfold m60
  refine boxA_of rfl fun S1 k1 n1 o1=>?_
  refine boxA_of (Fo.row_len f) fun S2 k2 n2 o2=>?_
  refine boxA_of rfl fun S3 k3 n3 o3=>?_
  have kk:=(k1.trans k2).trans k3
  rw [ldN_p (n:=8) ((k3.2 _ (by omega)).trans ((k2.2 _ (by omega)).trans o1)) rfl,ldN_p (n:=4) ((k3.2 _ (by omega)).trans o2) (Fo.row_len f)]
  refine callF_ans (ans69 hc hf) ?_
  rw [extr0,extr1,extr2]
  have hfit:=fun h=>told_fit (c:=c) (f:=f) h
  have hver:verdictB c f = if (toldB c f).2.2 = 0 then (verB (toldB c f).1 (toldB c f).2.1.initial,0) else (⟨false,0,0⟩,(toldB c f).2.2):=rfl
  rw [hver]
  refine boxA_of rfl fun S4 k4 n4 o4=>?_
  refine stA_of (cs':=(toldB c f).2.1.cells) o4 rfl rfl fun S5 n5 o5 f5=>?_
  have k5:=k4.st (Nat.le_refl _) n5 f5
  have v5:=(k5.2 _ (by omega)).trans o3
  have cvV:∀ (T:Store) (n:Nat) (v:Ve),Cv T n v.av v.av:=fun T n v=>Tree.a (fun u hu=>by
    simp only [Ve.cells,List.mem_cons,List.not_mem_nil,or_false] at hu
    rcases hu with rfl | rfl | rfl <;> exact Tree.v _) T n
  rw [bin_neq,onB_v]
  refine gd_of (fun he=>?_) (fun he=>?_)
  · have he:¬ (toldB c f).2.2 = 0:=by simpa using he
    rw [if_neg he,ldN_p (n:=3) v5 rfl]
    refine stA_of v5 rfl rfl fun S6 n6 o6 f6=>?_
    rw [ldN_p (n:=3) o6 rfl]
    exact ⟨_,rfl,(kk.trans k5).st (by omega) n6 f6,cv_t2 (cvV _ _ ⟨false,0,0⟩) (.v _)⟩
  have he:(toldB c f).2.2 = 0:=by simpa using he
  rw [if_pos he]
  obtain ⟨_,he1,hok,hin⟩:=hfit he
  rw [he1] at o5 ⊢
  have hil:=hok.ini
  have hll:=hin.len
  have hv:=hok.small.h1
  rw [shift_p]
  refine stF_of v5 (by simp) rfl fun S6 n6 o6 f6=>?_
  rw [shift_p]
  have s6:=(f6 _ (by omega)).trans o5
  rw [ld1_p s6 rfl rfl,lenS_aL]
  have k6:=(kk.trans k5).st (id:=S2.n) (by omega) n6 f6
  show loopV _ _ _ (env60_0 (.p S2.n 0 0) (aL aB (semC c f)) (aL aB (spOf c).initial) (aI (spOf c).initial.length) (.v (.int .i64 0))) _ _
  generalize spOf c = s at *
  generalize semC c f = l at *
  refine loop60_0 (fun y S'=>Keep S S' ∧ S2.n < S'.n ∧ ∃ i:Nat,y = aI i ∧ i ≤ s.initial.length ∧ S'.obj S2.n = some (.cells 110 [[aB false,aI (vTo l s.initial i).1,aI (vTo l s.initial i).2]] true))
    (fun y _=>s.initial.length - ((intA y).getD 0).toNat) ⟨k6,by omega,0,rfl,Nat.zero_le _,o6⟩ ?_
  rintro _ S7 ⟨k7,n7,i,rfl,hi,o7⟩ KE hKE
  unfold b60_0
  have hb:=vTo_le l s.initial i
  rw [bin_lss,onB_v]
  refine gd_of (fun hlt=>?_) (fun hge=>?_)
  · have hlt:i < s.initial.length:=by have:=of_decide_eq_true hlt; omega
    have hs1:vTo l s.initial (i + 1) = _:=rfl
    have hadd:∀ (T:Store) (K:AV → Store → Prop),bin .add 0 (.v (.int .i64 (i:Int))) (.v (.int .i64 1)) T K = K (aI (i + 1:Nat)) T:=fun T K=>bin_add (by omega) (by omega) 0
    have hμ:s.initial.length - ((intA (aI (i + 1:Nat))).getD 0).toNat < s.initial.length - ((intA (aI i)).getD 0).toNat:=by simp [intA]; omega
    rw [ixB hlt,ld1_q,un_not,onB_v]
    refine gd_of (fun h=>?_) (fun h=>?_)
    · have h:bit s.initial i = false:=by simpa using h
      rw [hadd]
      exact hKE _ _ ⟨k7,n7,i + 1,rfl,hlt,by rw [vTo,if_neg (by rw [h]; decide)]; exact o7⟩ hμ
    have h:bit s.initial i = true:=by simpa using h
    rw [shift_p,ld1_p o7 rfl rfl,bin_add (by omega) (by omega),shift_p]
    refine stF_of o7 (by simp) rfl fun S8 n8 o8 f8=>?_
    have k8:=k7.st (id:=S2.n) (by omega) n8 f8
    rw [ixB (by omega),ld1_q,un_not,onB_v]
    refine gd_of (fun hl=>?_) (fun hl=>?_)
    · have hl:bit l i = false:=by simpa using hl
      rw [shift_p,ld1_p o8 rfl rfl,bin_lss,onB_v]
      refine gd_of (fun hn=>?_) (fun hn=>?_)
      · rw [shift_p]
        refine stF_of o8 (by simp) rfl fun S9 n9 o9 f9=>?_
        rw [hadd]
        refine hKE _ _ ⟨k8.st (id:=S2.n) (by omega) n9 f9,by omega,i + 1,rfl,hlt,?_⟩ hμ
        rw [vTo,if_pos h,if_pos ⟨hl,of_decide_eq_true hn⟩]
        exact o9
      · rw [hadd]
        refine hKE _ _ ⟨k8,by omega,i + 1,rfl,hlt,?_⟩ hμ
        rw [vTo,if_pos h,if_neg fun q=>of_decide_eq_false hn q.2]
        exact o8
    · have hl:bit l i = true:=by simpa using hl
      rw [hadd]
      refine hKE _ _ ⟨k8,by omega,i + 1,rfl,hlt,?_⟩ hμ
      rw [vTo,if_pos h,if_neg fun q=>by rw [hl] at q; exact absurd q.1 (by decide)]
      exact o8
  · have hge:i = s.initial.length:=by have:=of_decide_eq_false hge; omega
    subst hge
    rw [shift_p,ld1_p o7 rfl rfl,bin_lss,shift_p]
    refine stF_of o7 (by simp) rfl fun S8 n8 o8 f8=>?_
    rw [ldN_p (n:=3) o8 rfl]
    refine stA_of o8 rfl rfl fun S9 n9 o9 f9=>?_
    rw [ldN_p (n:=3) o9 rfl]
    exact ⟨_,rfl,(k7.st (id:=S2.n) (by omega) n8 f8).st (id:=S2.n) (by omega) n9 f9,cv_t2 (cvV _ _ (verB l s.initial)) (.v _)⟩
theorem ans148 {a b:List Bool} (ha:a.length < 1048576) (hab:a.length = b.length):Ans Tryz.prog 148 [aL aB a,aL aB b] (aL aB (tab a.length fun i=>bit a i && !bit b i)):=by
  refine ACalls.ans_own (f:=fun b=>.bool b) (e:=4) fun S=>calls148 ?_
  unfold m148
  refine loop148_0 (fun y x S'=>Keep S S' ∧ ∃ i:Nat,x = aI i ∧ i ≤ a.length ∧ Own S.n S' y 4 ((tab i fun i=>bit a i && !bit b i).map fun b=>[aB b]))
    (fun _ x _=>a.length - ((intA x).getD 0).toNat) ⟨Keep.refl S,0,rfl,Nat.zero_le _,.nl _ _ _⟩ ?_
  rintro y _ S1 ⟨k1,i,rfl,hi,w1⟩ KE hKE
  unfold b148_0
  rw [lenS_aL,bin_lss,onB_v]
  refine gd_of (fun h=>?_) (fun h=>?_)
  · have hlt:i < a.length:=by simpa using h
    have hadd:∀ K:AV → Store → Prop,∀ S,bin .add 0 (.v (.int .i64 (i:Int))) (.v (.int .i64 1)) S K = K (aI (i + 1:Nat)) S:=fun K S=>bin_add (by omega) (by omega) 0
    have hμ:a.length - ((intA (aI (i + 1:Nat))).getD 0).toNat < a.length - ((intA (aI i)).getD 0).toNat:=by simp [intA]; omega
    have step:∀ c:Bool,c = (bit a i && !bit b i) → appS 4 1 1 y (.l [[aB c]]) S1 fun v10 S=>bin .add 0 (.v (.int .i64 (i:Int))) (.v (.int .i64 1)) S fun v11 S=>KE 28 (env148_0 (aL aB a) (aL aB b) v10 v11) S:=by
      intro c hc
      refine w1.app (b:=1) (c:=[aB c]) (y:=.l [[aB c]]) (by have:=k1.1; omega) rfl (by simp; omega) (fun x' S5 ho5 hb5 hx5=>?_) rfl
      rw [hadd]
      refine hKE _ _ _ ⟨w1.keep (Nat.le_refl _) hb5 k1,i + 1,rfl,hlt,?_⟩ hμ
      rw [tab_succ,List.map_append,← hc]
      exact ho5
    rw [ixS_aL hlt,ld1_q,onB_v]
    refine gd_of (fun h=>?_) (fun h=>?_)
    · rw [ixS_aL (by omega:i < b.length),ld1_q,un_not]
      refine bsl1 rfl (fun _ h=>by cases h) (step _ ?_)
      rw [bit_get hlt,bit_get (by omega),h]; rfl
    · refine bsl1 rfl (fun _ h=>by cases h) (step false ?_)
      rw [bit_get hlt,h]; rfl
  · have hge:i = a.length:=by simp at h; omega
    subst hge
    exact ⟨_,rfl,k1,w1⟩
theorem ans107 {a b:List Bool} (ha:a.length < 1048576) (hab:a.length = b.length):Ans Tryz.prog 107 [aL aB a,aL aB b] (aL aB (orP a b)):=by
  intro S
  refine ACalls.ans_aL (f:=fun b=>.bool b) (calls107 ?_)
  unfold m107
  exact callF_ans (ans147 ha hab) ⟨rfl,Keep.refl _⟩
structure Tr (c:Ci) (s:Sp) (fr:List Bool) (tid:Nat) (S:Store):Prop where
  obj:S.obj tid = some (.cells 105 [c.cells ++ s.cells ++ [aL aB fr]] true)
  lt:tid < S.n
theorem Tr.keep {c:Ci} {s:Sp} {fr:List Bool} {tid:Nat} {S T:Store} (h:Tr c s fr tid S) (k:Keep S T):Tr c s fr tid T:=⟨(k.2 _ h.lt).trans h.obj,Nat.lt_of_lt_of_le h.lt k.1⟩
section
variable {c:Ci} {s:Sp} {fr:List Bool} {tid:Nat} {S:Store}
theorem Tr.ldv (h:Tr c s fr tid S) {K:AV → Store → Prop}:ld1 (.p tid 0 (0 + 8 + 1)) S K = K (aL aB s.valid) S:=ld1_p h.obj rfl rfl
theorem Tr.ldf (h:Tr c s fr tid S) {K:AV → Store → Prop}:ld1 (.p tid 0 (0 + 13)) S K = K (aL aB fr) S:=ld1_p h.obj rfl rfl
theorem Tr.lds (h:Tr c s fr tid S) {K:AV → Store → Prop}:ldN 5 (.p tid 0 (0 + 8)) S K = K s.av S:=ldN_off (n:=5) (cs':=s.cells) h.obj (by simp [Ci.cells,Sp.cells]) rfl
theorem Tr.ldc (h:Tr c s fr tid S) {K:AV → Store → Prop}:ldN 8 (.p tid 0 (0 + 0)) S K = K c.av S:=ldN_off (n:=8) (cs':=c.cells) h.obj (by simp [Ci.cells,Sp.cells]) rfl
variable (hs:SpOk s) (hfr:In s fr)
include hs
theorem at106 (h:Tr c s fr tid S) {p:List Bool} (hp:p.length = s.valid.length):AnsAt Tryz.prog 106 [.p tid 0 0,aL aB p] S (aL aB (notP s p)):=by
  refine ACalls.ans_aL (f:=fun b=>.bool b) (calls106 ?_)
  have hv:=hs.small.h1
  unfold m106
  rw [nilChk_p,shift_p,shift_p,h.ldv]
  exact callF_ans (ans148 (by omega) hp.symm) ⟨rfl,Keep.refl _⟩
theorem at110 (h:Tr c s fr tid S) {p:List Bool} (hp:p.length = s.valid.length):AnsAt Tryz.prog 110 [.p tid 0 0,aL aB p] S (aL aB (egP s p)):=by
  refine ACalls.ans_aL (f:=fun b=>.bool b) (calls110 ?_)
  unfold m110
  have c2:=ans56 hs.sm p
  rw [EGs_of (hs.fit hp)] at c2
  rw [nilChk_p,shift_p,h.lds]
  exact callF_ans c2 ⟨rfl,Keep.refl _⟩
include hfr
theorem at108 (h:Tr c s fr tid S) {p:List Bool} (hp:p.length = s.valid.length):AnsAt Tryz.prog 108 [.p tid 0 0,aL aB p] S (aL aB (nextP s fr p)):=by
  refine ACalls.ans_aL (f:=fun b=>.bool b) (calls108 ?_)
  unfold m108
  have hv:=hs.small.h1
  have c1:=ans39 (a:=p) (b:=fr) (by omega) (hp.trans hfr.len.symm)
  have c2:=ans104 hs.sm (andP p fr)
  rw [EXs_of (hs.fit (by simp [hp]))] at c2
  have l1:∀ (P:AV → Prop),(∃ q,(ldN 5 (.p tid 0 (0 + 8)) S fun v S'=>v = q ∧ S' = S) ∧ P q) = P s.av:=fun P=>J_by (op:=fun K=>ldN 5 (.p tid 0 (0 + 8)) S K) fun K=>h.lds
  have l2:∀ (P:AV → Prop),(∃ q,(ld1 (.p tid 0 (0 + 13)) S fun v S'=>v = q ∧ S' = S) ∧ P q) = P (aL aB fr):=fun P=>J_by (op:=fun K=>ld1 (.p tid 0 (0 + 13)) S K) fun K=>h.ldf
  show ∃ q:AV,_
  (repeat (first | with_reducible_and_instances (first | refine WJ ?_ | refine W (J_nil) ?_ | refine W (l1 _) ?_ | refine W (l2 _) ?_ | refine W (J_ldq (by with_unfolding_all rfl)) ?_) | refine J_cA (c1) rfl rfl ?_ | refine C_A (c1) rfl rfl ?_ | refine J_cA (c2) rfl rfl ?_ | refine C_A (c2) rfl rfl ?_))
  exact ⟨rfl,Keep.refl _⟩
theorem at109 (h:Tr c s fr tid S) {p q:List Bool} (hp:p.length = s.valid.length) (hq:q.length = s.valid.length):AnsAt Tryz.prog 109 [.p tid 0 0,aL aB p,aL aB q] S (aL aB (untilP s fr p q)):=by
  refine ACalls.ans_aL (f:=fun b=>.bool b) (calls109 ?_)
  unfold m109
  have hv:=hs.small.h1
  have c1:=ans39 (a:=q) (b:=fr) (by omega) (hq.trans hfr.len.symm)
  have c2:=ans105 hs.sm p (andP q fr)
  rw [EUs_of (hs.fit hp) (hs.fit (by simp [hq]))] at c2
  have l1:∀ (P:AV → Prop),(∃ q,(ldN 5 (.p tid 0 (0 + 8)) S fun v S'=>v = q ∧ S' = S) ∧ P q) = P s.av:=fun P=>J_by (op:=fun K=>ldN 5 (.p tid 0 (0 + 8)) S K) fun K=>h.lds
  have l2:∀ (P:AV → Prop),(∃ q,(ld1 (.p tid 0 (0 + 13)) S fun v S'=>v = q ∧ S' = S) ∧ P q) = P (aL aB fr):=fun P=>J_by (op:=fun K=>ld1 (.p tid 0 (0 + 13)) S K) fun K=>h.ldf
  show ∃ q:AV,_
  (repeat (first | with_reducible_and_instances (first | refine WJ ?_ | refine W (J_nil) ?_ | refine W (l1 _) ?_ | refine W (l2 _) ?_ | refine W (J_ldq (by with_unfolding_all rfl)) ?_) | refine J_cA (c1) rfl rfl ?_ | refine C_A (c1) rfl rfl ?_ | refine J_cA (c2) rfl rfl ?_ | refine C_A (c2) rfl rfl ?_))
  exact ⟨rfl,Keep.refl _⟩
end
theorem tno {k j:Int} (h:¬ k = j) {S:Store} {A B:Store → Prop} (hB:B S):bin .eql 0 (.v (.int .i64 k)) (.v (.int .i64 j)) S (fun v S=>onB v fun b=>gd b (A S) (B S)):=by
  rw [bin_eql,onB_v,decide_eq_false h]; exact hB
theorem tyes {k j:Int} (h:k = j) {S:Store} {A B:Store → Prop} (hA:A S):bin .eql 0 (.v (.int .i64 k)) (.v (.int .i64 j)) S (fun v S=>onB v fun b=>gd b (A S) (B S)):=by
  rw [bin_eql,onB_v,decide_eq_true h]; exact hA
set_option linter.unusedSectionVars false
section
variable {c:Ci} {s:Sp} {fr:List Bool} {tid:Nat} (hs:SpOk s) (hfr:In s fr) (hc:c.ok)
include hs hfr hc
theorem of_const (k:Int) (n:ByteArray) (hk:k = 1 ∨ k = 2) {S:Store} (h:Tr c s fr tid S):AnsAt Tryz.prog 57 [.p tid 0 0,Fo.av (.mk k n 0 [])] S (aL aB (Fo.sem s fr (atomP c s) (.mk k n 0 []))):=by
    have hv:s.valid.length ≤ 1000000:=by have:=hs.small.h1; omega
    refine ACalls.ans_aL (f:=fun b=>.bool b) (calls57 ?_)
    unfold m57
    rw [Fo.av,Fo.row_mk]
    refine boxA_of rfl fun S1 k1 n1 o1=>?_
    have h1:=h.keep k1
    rw [shift_p,ld1_p o1 rfl rfl,lenS_foL,bin_gtr,onB_v]
    have nn:=fun {q:List Bool} (hq:q.length = s.valid.length)=>at106 hs h1 hq
    have nx:=fun {q:List Bool} (hq:q.length = s.valid.length)=>at108 hs hfr h1 hq
    have un:=fun {p q:List Bool} (hp:p.length = s.valid.length) (hq:q.length = s.valid.length)=>at109 hs hfr h1 hp hq
    have al:=fun {q:List Bool} (hq:q.length = s.valid.length)=>at110 hs h1 hq
    have an:=fun {p q:List Bool} (hp:p.length = s.valid.length) (hq:q.length = s.valid.length)=>ans39 (a:=p) (b:=q) (by omega) (hp.trans hq.symm)
    have orr:=fun {p q:List Bool} (hp:p.length = s.valid.length) (hq:q.length = s.valid.length)=>ans107 (a:=p) (b:=q) (by omega) (hp.trans hq.symm)
    have lx:∀ {q:List Bool},q.length = s.valid.length → (nextP s fr q).length = s.valid.length:=fun hq=>by simp [nextP,hq]
    have lu:∀ {p q:List Bool},q.length = s.valid.length → (untilP s fr p q).length = s.valid.length:=fun hq=>by simp [untilP,hq]
    have lg:∀ {q:List Bool},q.length = s.valid.length → (egP s q).length = s.valid.length:=fun hq=>by simp [hq]
    have ln:∀ {q:List Bool},(notP s q).length = s.valid.length:=fun {q}=>(in_not s q).len
    have la:∀ {p q:List Bool},p.length = s.valid.length → (andP p q).length = s.valid.length:=fun hq=>by simp [hq]
    have lo:∀ {p q:List Bool},p.length = s.valid.length → (orP p q).length = s.valid.length:=fun hq=>by simp [hq]
    rw [gd_F (decide_eq_false (by decide))]
    rw [shift_p,ld1_p o1 rfl rfl,lenS_foL,bin_gtr,onB_v,gd_F (decide_eq_false (by decide))]
    rw [shift_p,ld1_p o1 rfl rfl]
    rcases hk with rfl | rfl
    · repeat (refine tno (by decide) ?_)
      refine tyes rfl ?_
      rw [nilChk_p,shift_p,shift_p,h1.ldv]
      refine callF_at (nn rfl) ?_
      exact ⟨by rw [sem_false],k1⟩
    · repeat (refine tno (by decide) ?_)
      refine tyes rfl ?_
      rw [nilChk_p,shift_p,shift_p,h1.ldv]
      exact ⟨by rw [sem_true],k1⟩
theorem of_atom (l:Int) (n:ByteArray) (hl:i64R l) {S:Store} (h:Tr c s fr tid S):AnsAt Tryz.prog 57 [.p tid 0 0,Fo.av (.mk 3 n l [])] S (aL aB (Fo.sem s fr (atomP c s) (.mk 3 n l []))):=by
    have hv:s.valid.length ≤ 1000000:=by have:=hs.small.h1; omega
    rw [sem_atom]
    refine ans_own_at (f:=fun b=>.bool b) (e:=4) (calls57 ?_)
    unfold m57
    rw [Fo.av,Fo.row_mk]
    refine boxA_of rfl fun S1 k1 n1 o1=>?_
    have h1:=h.keep k1
    rw [shift_p,ld1_p o1 rfl rfl,lenS_foL,bin_gtr,onB_v]
    rw [gd_F (decide_eq_false (by decide))]
    rw [shift_p,ld1_p o1 rfl rfl,lenS_foL,bin_gtr,onB_v,gd_F (decide_eq_false (by decide))]
    rw [shift_p,ld1_p o1 rfl rfl]
    repeat (refine tno (by decide) ?_)
    let g:Nat → Bool:=fun i=>bit s.valid i && isB c i l
    refine loop57_0 (fun y x S'=>Keep S1 S' ∧ ∃ i:Nat,x = aI i ∧ i ≤ s.valid.length ∧ Own S1.n S' y 4 ((tab i g).map fun b=>[aB b]))
      (fun _ x _=>s.valid.length - ((intA x).getD 0).toNat) ⟨Keep.refl S1,0,rfl,Nat.zero_le _,.nl _ _ _⟩ ?_
    rintro y _ S2 ⟨k2,i,rfl,hi,w2⟩ KE hKE
    have h2:=h1.keep k2
    unfold b57_0
    rw [nilChk_p,shift_p,shift_p,h2.ldv,lenS_aL,bin_lss,onB_v]
    refine gd_of (fun hlt=>?_) (fun hge=>?_)
    · have hlt:i < s.valid.length:=by simpa using hlt
      have hadd:∀ K:AV → Store → Prop,∀ S,bin .add 0 (.v (.int .i64 (i:Int))) (.v (.int .i64 1)) S K = K (aI (i + 1:Nat)) S:=fun K S=>bin_add (by omega) (by omega) 0
      have hμ:s.valid.length - ((intA (aI (i + 1:Nat))).getD 0).toNat < s.valid.length - ((intA (aI i)).getD 0).toNat:=by simp [intA]; omega
      have step:∀ b:Bool,b = g i → appS 4 1 1 y (.l [[aB b]]) S2 fun v10 T=>bin .add 0 (.v (.int .i64 (i:Int))) (.v (.int .i64 1)) T fun v11 T=>KE 214 (env57_0 (.p tid 0 0) (.p S.n 0 0) v10 v11) T:=by
        intro b hb
        refine w2.app (b:=1) (c:=[aB b]) (y:=.l [[aB b]]) (by have:=k2.1; omega) rfl (by simp; omega) (fun x' S5 ho5 hb5 hx5=>?_) rfl
        rw [hadd]
        refine hKE _ _ _ ⟨w2.keep (Nat.le_refl _) hb5 k2,i + 1,rfl,hlt,?_⟩ hμ
        rw [tab_succ,List.map_append,← hb]
        exact ho5
      have o2:=(k2.2 _ (by omega)).trans o1
      refine ⟨_,fun T hT=>by rw [nilChk_p]; exact ⟨rfl,rfl⟩,?_⟩
      refine L_shift ?_
      refine L_shift ?_
      refine ⟨_,fun T hT=>by rw [(h2.keep hT).ldv]; exact ⟨rfl,rfl⟩,?_⟩
      refine ⟨_,fun T hT=>by rw [ixS_aL hlt]; exact ⟨rfl,rfl⟩,?_⟩
      refine L_ldq rfl ?_
      rw [onB_v]
      refine gd_of (fun hb=>?_) (fun hb=>?_)
      · refine ⟨_,fun T hT=>by rw [nilChk_p]; exact ⟨rfl,rfl⟩,?_⟩
        refine L_shift ?_
        refine ⟨_,fun T hT=>by rw [(h2.keep hT).ldc]; exact ⟨rfl,rfl⟩,?_⟩
        refine L_shift ?_
        refine L_ldp o2 (by have:=k2.1; omega) rfl rfl ?_
        refine L_callA (ans68 hc hl) ?_
        refine L_mv ?_
        refine ⟨_,fun T hT=>bsl1 rfl (fun _ h=>by cases h) ⟨rfl,rfl⟩,?_⟩
        exact step _ (by show _ = (bit s.valid i && isB c i l); rw [bit_get hlt,hb,Bool.true_and])
      · refine L_mv ?_
        refine ⟨_,fun T hT=>bsl1 rfl (fun _ h=>by cases h) ⟨rfl,rfl⟩,?_⟩
        exact step _ (by show _ = (bit s.valid i && isB c i l); rw [bit_get hlt,hb,Bool.false_and])
    · have hge:i = s.valid.length:=by simp at hge; omega
      subst hge
      exact ⟨_,rfl,k1.trans k2,w2.low k1.1⟩
theorem of_one (k:Int) (n:ByteArray) (f:Fo) (hk:k = 4 ∨ 9 ≤ k ∧ k ≤ 14) {S:Store} (h:Tr c s fr tid S) (hp:In s (f.sem s fr (atomP c s)))
    (ih:∀ {T:Store},Tr c s fr tid T → AnsAt Tryz.prog 57 [.p tid 0 0,f.av] T (aL aB (f.sem s fr (atomP c s)))):AnsAt Tryz.prog 57 [.p tid 0 0,Fo.av (.mk k n 0 [f])] S (aL aB (Fo.sem s fr (atomP c s) (.mk k n 0 [f]))):=by
    have hv:s.valid.length ≤ 1000000:=by have:=hs.small.h1; omega
    have hp:=hp.len
    rw [sem_one (by omega)]
    generalize hpp:f.sem s fr (atomP c s) = p at *
    refine ACalls.ans_aL (f:=fun b=>.bool b) (calls57 ?_)
    unfold m57
    rw [Fo.av,Fo.row_mk]
    refine boxA_of rfl fun S1 k1 n1 o1=>?_
    have h1:=h.keep k1
    rw [shift_p,ld1_p o1 rfl rfl,lenS_foL,bin_gtr,onB_v]
    have nn:=fun {q:List Bool} (hq:q.length = s.valid.length)=>at106 hs h1 hq
    have nx:=fun {q:List Bool} (hq:q.length = s.valid.length)=>at108 hs hfr h1 hq
    have un:=fun {p q:List Bool} (hp:p.length = s.valid.length) (hq:q.length = s.valid.length)=>at109 hs hfr h1 hp hq
    have al:=fun {q:List Bool} (hq:q.length = s.valid.length)=>at110 hs h1 hq
    have an:=fun {p q:List Bool} (hp:p.length = s.valid.length) (hq:q.length = s.valid.length)=>ans39 (a:=p) (b:=q) (by omega) (hp.trans hq.symm)
    have orr:=fun {p q:List Bool} (hp:p.length = s.valid.length) (hq:q.length = s.valid.length)=>ans107 (a:=p) (b:=q) (by omega) (hp.trans hq.symm)
    have lx:∀ {q:List Bool},q.length = s.valid.length → (nextP s fr q).length = s.valid.length:=fun hq=>by simp [nextP,hq]
    have lu:∀ {p q:List Bool},q.length = s.valid.length → (untilP s fr p q).length = s.valid.length:=fun hq=>by simp [untilP,hq]
    have lg:∀ {q:List Bool},q.length = s.valid.length → (egP s q).length = s.valid.length:=fun hq=>by simp [hq]
    have ln:∀ {q:List Bool},(notP s q).length = s.valid.length:=fun {q}=>(in_not s q).len
    have la:∀ {p q:List Bool},p.length = s.valid.length → (andP p q).length = s.valid.length:=fun hq=>by simp [hq]
    have lo:∀ {p q:List Bool},p.length = s.valid.length → (orP p q).length = s.valid.length:=fun hq=>by simp [hq]
    rw [gd_T (decide_eq_true (by simp))]
    rw [shift_p,ld1_p o1 rfl rfl,show ∀ K:AV → Store → Prop,ixS 24 4 (foL [f]) (.v (.int .i64 0)) S1 K = K (.q f.row 0) S1 from fun K=>ixS_foL (l:=[f]) (i:=0) (by simp),ldN_q (Fo.row_len f)]
    refine callF_at (ih h1) ?_
    rw [shift_p,ld1_p o1 rfl rfl,lenS_foL,bin_gtr,onB_v,gd_F (decide_eq_false (by simp))]
    rw [shift_p,ld1_p o1 rfl rfl]
    obtain rfl | rfl | rfl | rfl | rfl | rfl | rfl:k = 4 ∨ k = 9 ∨ k = 10 ∨ k = 11 ∨ k = 12 ∨ k = 13 ∨ k = 14:=by omega
    · repeat (refine tno (by decide) ?_)
      refine tyes rfl ?_
      exact callF_at (nn hp) ⟨rfl,k1⟩
    · repeat (refine tno (by decide) ?_)
      refine tyes rfl ?_
      exact callF_at (nx hp) ⟨rfl,k1⟩
    · repeat (refine tno (by decide) ?_)
      refine tyes rfl ?_
      exact callF_at (nn hp) (callF_at (nx ln) (callF_at (nn (lx ln)) ⟨rfl,k1⟩))
    · repeat (refine tno (by decide) ?_)
      refine tyes rfl ?_
      rw [nilChk_p,shift_p,shift_p,h1.ldv]
      exact callF_at (un rfl hp) ⟨rfl,k1⟩
    · repeat (refine tno (by decide) ?_)
      refine tyes rfl ?_
      exact callF_at (nn hp) (callF_at (al ln) (callF_at (nn (lg ln)) ⟨rfl,k1⟩))
    · repeat (refine tno (by decide) ?_)
      refine tyes rfl ?_
      exact callF_at (al hp) ⟨rfl,k1⟩
    · repeat (refine tno (by decide) ?_)
      refine tyes rfl ?_
      have c1:=nn hp
      have c2:=un (p:=s.valid) rfl (ln (q:=p))
      have c3:=nn (lu (p:=s.valid) (ln (q:=p)))
      have l1:∀ (P:AV → Prop),(∃ q,(ld1 (.p tid 0 (0 + 8 + 1)) S1 fun v S'=>v = q ∧ S' = S1) ∧ P q) = P (aL aB s.valid):=fun P=>J_by (op:=fun K=>ld1 (.p tid 0 (0 + 8 + 1)) S1 K) fun K=>h1.ldv
      show ∃ q:AV,_
      (repeat (first | with_reducible_and_instances (first | refine WJ ?_ | refine W (J_nil) ?_ | refine W (l1 _) ?_ | refine W (J_ldq (by with_unfolding_all rfl)) ?_) | refine J_cI (c1) rfl rfl ?_ | refine C_I (c1) rfl rfl ?_ | refine J_cI (c2) rfl rfl ?_ | refine C_I (c2) rfl rfl ?_ | refine J_cI (c3) rfl rfl ?_ | refine C_I (c3) rfl rfl ?_))
      exact ⟨rfl,k1⟩
theorem of_two (k:Int) (n:ByteArray) (f g:Fo) (hk:5 ≤ k ∧ k ≤ 8 ∨ 15 ≤ k ∧ k ≤ 18) {S:Store} (h:Tr c s fr tid S) (hp:In s (f.sem s fr (atomP c s))) (hq:In s (g.sem s fr (atomP c s)))
    (ih:∀ {T:Store},Tr c s fr tid T → AnsAt Tryz.prog 57 [.p tid 0 0,f.av] T (aL aB (f.sem s fr (atomP c s))))
    (ih2:∀ {T:Store},Tr c s fr tid T → AnsAt Tryz.prog 57 [.p tid 0 0,g.av] T (aL aB (g.sem s fr (atomP c s)))):AnsAt Tryz.prog 57 [.p tid 0 0,Fo.av (.mk k n 0 [f,g])] S (aL aB (Fo.sem s fr (atomP c s) (.mk k n 0 [f,g]))):=by
    have hv:s.valid.length ≤ 1000000:=by have:=hs.small.h1; omega
    have hp:=hp.len
    have hq:=hq.len
    rw [sem_two (by omega)]
    generalize hpp:f.sem s fr (atomP c s) = p at *
    generalize hqq:g.sem s fr (atomP c s) = q at *
    refine ACalls.ans_aL (f:=fun b=>.bool b) (calls57 ?_)
    unfold m57
    rw [Fo.av,Fo.row_mk]
    refine boxA_of rfl fun S1 k1 n1 o1=>?_
    have h1:=h.keep k1
    rw [shift_p,ld1_p o1 rfl rfl,lenS_foL,bin_gtr,onB_v]
    have nn:=fun {q:List Bool} (hq:q.length = s.valid.length)=>at106 hs h1 hq
    have nx:=fun {q:List Bool} (hq:q.length = s.valid.length)=>at108 hs hfr h1 hq
    have un:=fun {p q:List Bool} (hp:p.length = s.valid.length) (hq:q.length = s.valid.length)=>at109 hs hfr h1 hp hq
    have al:=fun {q:List Bool} (hq:q.length = s.valid.length)=>at110 hs h1 hq
    have an:=fun {p q:List Bool} (hp:p.length = s.valid.length) (hq:q.length = s.valid.length)=>ans39 (a:=p) (b:=q) (by omega) (hp.trans hq.symm)
    have orr:=fun {p q:List Bool} (hp:p.length = s.valid.length) (hq:q.length = s.valid.length)=>ans107 (a:=p) (b:=q) (by omega) (hp.trans hq.symm)
    have lx:∀ {q:List Bool},q.length = s.valid.length → (nextP s fr q).length = s.valid.length:=fun hq=>by simp [nextP,hq]
    have lu:∀ {p q:List Bool},q.length = s.valid.length → (untilP s fr p q).length = s.valid.length:=fun hq=>by simp [untilP,hq]
    have lg:∀ {q:List Bool},q.length = s.valid.length → (egP s q).length = s.valid.length:=fun hq=>by simp [hq]
    have ln:∀ {q:List Bool},(notP s q).length = s.valid.length:=fun {q}=>(in_not s q).len
    have la:∀ {p q:List Bool},p.length = s.valid.length → (andP p q).length = s.valid.length:=fun hq=>by simp [hq]
    have lo:∀ {p q:List Bool},p.length = s.valid.length → (orP p q).length = s.valid.length:=fun hq=>by simp [hq]
    rw [gd_T (decide_eq_true (by simp))]
    rw [shift_p,ld1_p o1 rfl rfl,show ∀ K:AV → Store → Prop,ixS 24 4 (foL [f,g]) (.v (.int .i64 0)) S1 K = K (.q f.row 0) S1 from fun K=>ixS_foL (l:=[f,g]) (i:=0) (by simp),ldN_q (Fo.row_len f)]
    refine callF_at (ih h1) ?_
    rw [shift_p,ld1_p o1 rfl rfl,lenS_foL,bin_gtr,onB_v,gd_T (decide_eq_true (by simp))]
    rw [shift_p,ld1_p o1 rfl rfl,show ∀ K:AV → Store → Prop,ixS 24 4 (foL [f,g]) (.v (.int .i64 1)) S1 K = K (.q g.row 0) S1 from fun K=>ixS_foL (l:=[f,g]) (i:=1) (by simp),ldN_q (Fo.row_len g)]
    refine callF_at (ih2 h1) ?_
    rw [shift_p,ld1_p o1 rfl rfl]
    obtain rfl | rfl | rfl | rfl | rfl | rfl | rfl | rfl:k = 5 ∨ k = 6 ∨ k = 7 ∨ k = 8 ∨ k = 15 ∨ k = 16 ∨ k = 17 ∨ k = 18:=by omega
    · repeat (refine tno (by decide) ?_)
      refine tyes rfl ?_
      exact callF_ans (an hp hq) ⟨rfl,k1⟩
    · repeat (refine tno (by decide) ?_)
      refine tyes rfl ?_
      exact callF_ans (orr hp hq) ⟨rfl,k1⟩
    · repeat (refine tno (by decide) ?_)
      refine tyes rfl ?_
      exact callF_at (nn hp) (callF_ans (orr ln hq) ⟨rfl,k1⟩)
    · repeat (refine tno (by decide) ?_)
      refine tyes rfl ?_
      exact callF_ans (an hp hq) (callF_ans (orr hp hq) (callF_at (nn (lo hp)) (callF_ans (orr (la hp) ln) ⟨rfl,k1⟩)))
    · repeat (refine tno (by decide) ?_)
      refine tyes rfl ?_
      exact callF_at (un hp hq) ⟨rfl,k1⟩
    · repeat (refine tno (by decide) ?_)
      refine tyes rfl ?_
      exact callF_at (nn hq) (callF_ans (orr hp hq) (callF_at (nn (lo hp)) (callF_at (un ln ln) (callF_at (nn hq) (callF_at (al ln) (callF_ans (orr (lu ln) (lg ln)) (callF_at (nn (lo (lu ln))) ⟨rfl,k1⟩)))))))
    · repeat (refine tno (by decide) ?_)
      refine tyes rfl ?_
      exact callF_at (al hq) (callF_ans (an hp hq) (callF_at (un hq (la hp)) (callF_ans (orr (lg hq) (lu (la hp))) ⟨rfl,k1⟩)))
    · repeat (refine tno (by decide) ?_)
      refine tyes rfl ?_
      exact callF_at (nn hp) (callF_at (nn hq) (callF_at (un ln ln) (callF_at (nn (lu ln)) ⟨rfl,k1⟩)))
theorem at57:∀ (f:Fo),f.ok → ∀ d,f.mayB d = true → ∀ {S:Store},Tr c s fr tid S → AnsAt Tryz.prog 57 [.p tid 0 0,f.av] S (aL aB (f.sem s fr (atomP c s))):=by
  intro f
  induction f using Fo.ind with
  | h k n l ks ih =>
    intro hf d hd S h
    obtain ⟨_,_,hk⟩:=may_cases hd
    have hfk:∀ g ∈ ks,g.ok:=by cases hf; assumption
    have hl:i64R l:=by cases hf; assumption
    have hat:∀ l,In s (atomP c s l):=fun l=>in_each _ _
    rcases hk with ⟨hk,rfl,rfl⟩ | ⟨rfl,rfl,h0⟩ | ⟨hk,rfl,f,rfl,hf1⟩ | ⟨hk,rfl,f,g,rfl,hf1,hg1⟩
    · exact of_const hs hfr hc k n hk h
    · exact of_atom hs hfr hc l n hl h
    · exact of_one hs hfr hc k n f hk h (in_sem hat f _ hf1) fun {T} hT=>ih f (by simp) (hfk f (by simp)) _ hf1 hT
    · exact of_two hs hfr hc k n f g hk h (in_sem hat f _ hf1) (in_sem hat g _ hg1) (fun {T} hT=>ih f (by simp) (hfk f (by simp)) _ hf1 hT) fun {T} hT=>ih g (by simp) (hfk g (by simp)) _ hg1 hT
end
theorem ans28 {c:Ci} (hc:c.ok) {f:Fo} (hf:f.ok):Ans Tryz.prog 28 [c.av,f.av] (.t [aL aB (truthB c f).1,aI (truthB c f).2]):=by
  intro S
  refine ACalls.tree (calls28 ?_)
  unfold m28
  refine boxA_of rfl fun S1 k1 n1 o1=>?_
  refine boxA_of (Fo.row_len f) fun S2 k2 n2 o2=>?_
  have p2:=(k2.2 _ (by omega)).trans o1
  have kk:=k1.trans k2
  rw [ldN_p (n:=8) p2 rfl,ldN_p (n:=4) o2 (Fo.row_len f)]
  refine callF_ans (ans55 hc hf) ?_
  rw [un_not,onB_v]
  unfold truthB
  refine gd_of (fun hm=>?_) (fun hm=>?_)
  · refine ⟨_,rfl,kk,?_⟩
    rw [if_pos (by simpa using hm)]
    exact cv_t2 .nl (.v _)
  have hm:mayC c f = true:=by simpa using hm
  rw [if_neg (by rw [hm]; decide),ldN_p (n:=8) p2 rfl]
  refine callF_ans (ans35 hc) ?_
  rw [extr0,extr1]
  refine boxA_of rfl fun S4 k4 n4 o4=>?_
  refine stA_of (cs':=(spaceB c).1.cells) o4 rfl rfl fun S5 n5 o5 f5=>?_
  have k5:=k4.st (Nat.le_refl _) n5 f5
  rw [bin_neq,onB_v]
  refine gd_of (fun he=>?_) (fun he=>?_)
  · have he:¬ (spaceB c).2 = 0:=by simpa using he
    rw [if_neg he]
    exact ⟨_,rfl,kk.trans k5,cv_t2 .nl (.v _)⟩
  · have he:(spaceB c).2 = 0:=by simpa using he
    obtain ⟨e1,e2,e3⟩:=spaceB_ok he
    rw [if_pos he]
    rw [e1] at o5
    have hs:=spOf_ok e2 e3
    have hd:f.mayB 60 = true:=by
      unfold mayC at hm
      simp only [Bool.and_eq_true] at hm
      exact hm.2.1
    have cg:=ans56 hs.sm (spOf c).valid
    rw [EGs_of (hs.fit rfl)] at cg
    refine L_ldN (n:=8) ((k5.2 _ (by omega)).trans p2) (by omega) rfl ?_
    refine L_ldN (n:=5) o5 (by omega) rfl ?_
    refine L_ldN (n:=5) o5 (by omega) rfl ?_
    refine L_shift ?_
    refine L_ldp o5 (by omega) rfl rfl ?_
    refine L_callA cg ?_
    refine ⟨_,fun T hT=>by rw [bld_of (cs:=c.cells ++ (spOf c).cells ++ [aL aB (egP (spOf c) (spOf c).valid)]) rfl]; exact ⟨rfl,rfl⟩,?_⟩
    refine boxA_of rfl fun S6 k6 n6 o6=>?_
    rw [ldN_p (n:=4) ((k6.2 _ (by omega)).trans ((k5.2 _ (by omega)).trans o2)) (Fo.row_len f)]
    refine callF_at (at57 hs (In.eg rfl) hc f hf 60 hd (S:=S6) ⟨o6,by omega⟩) ?_
    exact ⟨_,rfl,(kk.trans k5).trans k6,cv_t2 (treeB _ _ _) (.v _)⟩
theorem ans61 {c:Ci} (hc:c.ok) {f:Fo} (hf:f.ok):Ans Tryz.prog 61 [c.av,f.av] (.t [(verdictB c f).1.av,aI (verdictB c f).2]):=by
  intro S
  refine ACalls.tree (calls61 ?_)
  unfold m61
  refine boxA_of rfl fun S1 k1 n1 o1=>?_
  refine boxA_of (Fo.row_len f) fun S2 k2 n2 o2=>?_
  refine boxA_of rfl fun S3 k3 n3 o3=>?_
  have kk:=(k1.trans k2).trans k3
  have p3:=(k3.2 _ (by omega)).trans ((k2.2 _ (by omega)).trans o1)
  rw [ldN_p (n:=8) p3 rfl,ldN_p (n:=4) ((k3.2 _ (by omega)).trans o2) (Fo.row_len f)]
  refine callF_ans (ans28 hc hf) ?_
  rw [extr0,extr1,told_truth]
  have hver:verdictB c f = if (toldB c f).2.2 = 0 then (verB (toldB c f).1 (toldB c f).2.1.initial,0) else (⟨false,0,0⟩,(toldB c f).2.2):=rfl
  rw [hver]
  have cvV:∀ (T:Store) (n:Nat) (v:Ve),Cv T n v.av v.av:=fun T n v=>Tree.a (fun u hu=>by
    simp only [Ve.cells,List.mem_cons,List.not_mem_nil,or_false] at hu
    rcases hu with rfl | rfl | rfl <;> exact Tree.v _) T n
  rw [bin_neq,onB_v]
  refine gd_of (fun he=>?_) (fun he=>?_)
  · have he:¬ (toldB c f).2.2 = 0:=by simpa using he
    rw [if_neg he,bld_of (cs:=(⟨false,0,0⟩:Ve).cells) rfl]
    refine stA_of o3 rfl rfl fun S6 n6 o6 f6=>?_
    rw [ldN_p (n:=3) o6 rfl]
    exact ⟨_,rfl,kk.st (by omega) n6 f6,cv_t2 (cvV _ _ ⟨false,0,0⟩) (.v _)⟩
  have he:(toldB c f).2.2 = 0:=by simpa using he
  rw [if_pos he]
  obtain ⟨_,he1,hok,hin⟩:=told_fit he
  have hsp:spaceB c = (spOf c,0):=by
    have:=congrArg (fun x=>x.2.2) he1
    unfold toldB at he1
    split at he1
    · have:=congrArg (fun x=>x.2.2) he1; cases this
    · split at he1
      · rename_i h2; exact (spaceB_ok h2).1
      · rename_i h2
        have:=congrArg (fun x=>x.2.2) he1
        exact absurd this h2
  rw [ldN_p (n:=8) p3 rfl]
  refine callF_ans (ans35 hc) ?_
  rw [extr0,extr1,hsp,he1]
  have hil:=hok.ini
  have hll:=hin.len
  have hv:=hok.small.h1
  refine boxA_of rfl fun S4 k4 n4 o4=>?_
  refine stA_of (cs':=(spOf c).cells) o4 rfl rfl fun S5 n5 o5 f5=>?_
  have k5:=k4.st (Nat.le_refl _) n5 f5
  rw [bld_of (cs:=(⟨true,0,-1⟩:Ve).cells) rfl]
  refine boxA_of rfl fun S6 k6 n6 o6=>?_
  refine stA_of (cs':=(⟨true,0,-1⟩:Ve).cells) o6 rfl rfl fun S7 n7 o7 f7=>?_
  have k7:=k6.st (Nat.le_refl _) n7 f7
  have s7:=(k7.2 _ (by omega)).trans o5
  have v7:=(k7.2 _ (by omega)).trans ((k5.2 _ (by omega)).trans o3)
  have ka:=(kk.trans k5).trans k7
  show loopV _ _ _ (env61_0 (.p S2.n 0 0) (aL aB (semC c f)) (.p S3.n 0 0) (.p S5.n 0 0) (.v (.int .i64 0))) _ _
  generalize spOf c = s at *
  generalize semC c f = l at *
  refine loop61_0 (fun y S'=>Keep S S' ∧ S7.n ≤ S'.n ∧ (∀ i,i < S5.n → S'.obj i = S7.obj i) ∧ ∃ i:Nat,y = aI i ∧ i ≤ s.initial.length ∧ S'.obj S5.n = some (.cells 110 [[aB (decide ((vTo l s.initial i).2 < 0)),aI (vTo l s.initial i).1,aI (vTo l s.initial i).2]] true))
    (fun y _=>s.initial.length - ((intA y).getD 0).toNat) ⟨ka,Nat.le_refl _,fun _ _=>rfl,0,rfl,Nat.zero_le _,o7⟩ ?_
  rintro _ S8 ⟨k8,n8,f8,i,rfl,hi,o8⟩ KE hKE
  have s8:=(f8 _ (by omega)).trans s7
  have v8:=(f8 _ (by omega)).trans v7
  unfold b61_0
  have hb:=vTo_le l s.initial i
  rw [lenS_aL,bin_lss,onB_v]
  refine gd_of (fun hlt=>?_) (fun hge=>?_)
  · have hlt:i < s.initial.length:=by have:=of_decide_eq_true hlt; omega
    have hadd:∀ (T:Store) (K:AV → Store → Prop),bin .add 0 (aI i) (.v (.int .i64 1)) T K = K (aI (i + 1:Nat)) T:=fun T K=>bin_add (by omega) (by omega) 0
    have hμ:s.initial.length - ((intA (aI (i + 1:Nat))).getD 0).toNat < s.initial.length - ((intA (aI i)).getD 0).toNat:=by simp [intA]; omega
    rw [shift_p,ld1_p s8 rfl rfl,ixB hlt,ld1_q,un_not,onB_v]
    refine gd_of (fun h=>?_) (fun h=>?_)
    · have h:bit s.initial i = false:=by simpa using h
      rw [hadd]
      exact hKE _ _ ⟨k8,n8,f8,i + 1,rfl,hlt,by rw [vTo,if_neg (by rw [h]; decide)]; exact o8⟩ hμ
    have h:bit s.initial i = true:=by simpa using h
    rw [shift_p,ld1_p o8 rfl rfl,bin_add (by omega) (by omega),shift_p]
    refine stF_of o8 (by simp) rfl fun S9 n9 o9 f9=>?_
    have k9:=k8.st (id:=S5.n) (by have:=ka.1; have:=k5.1; omega) n9 f9
    have g9:∀ i,i < S5.n → S9.obj i = S7.obj i:=fun i hi=>(f9 _ (by omega)).trans (f8 _ hi)
    rw [ixB (by omega),ld1_q,un_not,onB_v]
    refine gd_of (fun hl=>?_) (fun hl=>?_)
    · have hl:bit l i = false:=by simpa using hl
      rw [shift_p,ld1_p o9 rfl rfl,onB_v]
      refine gd_of (fun hn=>?_) (fun hn=>?_)
      · rw [shift_p]
        refine stF_of o9 (by simp) rfl fun SA nA oA fA=>?_
        rw [shift_p]
        refine stF_of oA (by simp) rfl fun SB nB oB fB=>?_
        rw [hadd]
        have kB:=(k9.st (id:=S5.n) (by have:=ka.1; have:=k5.1; omega) nA fA).st (id:=S5.n) (by have:=ka.1; have:=k5.1; omega) nB fB
        refine hKE _ _ ⟨kB,by omega,fun i hi=>(fB _ (by omega)).trans ((fA _ (by omega)).trans (g9 i hi)),i + 1,rfl,hlt,?_⟩ hμ
        rw [vTo,if_pos h,if_pos ⟨hl,of_decide_eq_true hn⟩]
        rw [show decide (((vTo l s.initial i).1 + 1,(i:Int)).2 < 0) = false from decide_eq_false (by simp only; omega)]
        exact oB
      · rw [hadd]
        refine hKE _ _ ⟨k9,by omega,g9,i + 1,rfl,hlt,?_⟩ hμ
        rw [vTo,if_pos h,if_neg fun q=>of_decide_eq_false hn q.2]
        exact o9
    · have hl:bit l i = true:=by simpa using hl
      rw [hadd]
      refine hKE _ _ ⟨k9,by omega,g9,i + 1,rfl,hlt,?_⟩ hμ
      rw [vTo,if_pos h,if_neg fun q=>by rw [hl] at q; exact absurd q.1 (by decide)]
      exact o9
  · have hge:i = s.initial.length:=by have:=of_decide_eq_false hge; omega
    subst hge
    rw [ldN_p (n:=3) o8 rfl]
    refine stA_of v8 rfl rfl fun S9 n9 o9 f9=>?_
    rw [ldN_p (n:=3) o9 rfl]
    exact ⟨_,rfl,k8.st (id:=S2.n) (by have:=k1.1; have:=k2.1; omega) n9 f9,cv_t2 (cvV _ _ (verB l s.initial)) (.v _)⟩
end Go.Proofs.YtolgpokppnajdaaGreat.G
set_option linter.unusedVariables false
set_option linter.unusedSimpArgs false
namespace Go.Proofs.YtolgpokppnajdaaGreat.G
open Go Go.Ab
set_option maxRecDepth 100000
noncomputable def c62:Code:=(Tryz.f62.body).getD .skip
def ms62:List (List Nat):=[[]]
def m62 (x0 x1 x2:AV) (S:Store) (Q:PoT):Prop :=
  ld1 x1 S fun v1 S=>bin .add 0 v1 (.v (.int .i64 1)) S fun v2 S=>stN 1 x1 v2 S fun v3 S=>ld1 x1 S fun v4 S=>ld1 x2 S fun v5 S=>lenS v5 S fun v6 S=>bin .gtr 0 v4 v6 S fun v7 S=>onB v7 fun b8=>gd b8 (Q (.ret (.v (.int .i64 0))) S) (ld1 x2 S fun v9 S=>ld1 x1 S fun v10 S=>bin .sub 0 v10 (.v (.int .i64 1)) S fun v11 S=>ixS 5 1 v9 v11 S fun v12 S=>ld1 v12 S fun v13 S=>convI .i64 v13 S fun v14 S=>bin .rem 0 v14 x0 S fun v15 S=>Q (.ret v15) S)
theorem calls62 {x0 x1 x2:AV} {S:Store} {Q:PoT} (h:m62 x0 x1 x2 S Q):ACalls Tryz.prog 62 [x0,x1,x2] S Q :=
  calls_of_vc (fn:=Tryz.f62) (c:=c62) (n:=19) Tryz.func62 (by kernel_rfl) (by kernel_rfl) (by kernel_rfl) ms62 (Eq.mpr (by kernel_rfl) h)
noncomputable def c63:Code:=(Tryz.f63.body).getD .skip
noncomputable def r63:List ResultVar:=Tryz.f63.results.toList
def env63_0 (y0 y4 y6 y8 y9:AV):List AV:=[y0,y4,y6,y8,y9]
def lv63_0:List Nat:=[0,4,6,8,9]
def ms63:List (List Nat):=[lv63_0,[0]]
def m63 (x0 x1 x2 x3 x4:AV) (S:Store) (Q:PoT):Prop :=
  boxN 24 4 (.a [(.v (.int .i64 0)),(.v (.string ByteArray.empty)),(.v (.int .i64 0)),.nl]) S fun v1 S=>ld1 x1 S fun v2 S=>callV Tryz.prog v2 [(.v (.int .i64 18))] S (fun v3 S=>bin .add 0 (.v (.int .i64 1)) v3 S fun v4 S=>bin .eql 0 x0 (.v (.int .i64 0)) S fun v5 S=>onB v5 fun b6=>gd b6 (ld1 x1 S fun v7 S=>callV Tryz.prog v7 [(.v (.int .i64 7))] S (fun v8 S=>bin .quo 0 v8 (.v (.int .i64 5)) S fun v9 S=>bin .sub 0 (.v (.int .i64 3)) v9 S fun v10 S=>bld [(0,1),(1,1),(2,1),(3,1)] [(.v (.int .i64 0)),(.v (.string ByteArray.empty)),(.v (.int .i64 0)),.nl] [(0,v10)] S fun v11 S=>boxN 24 4 (.a [(.v (.int .i64 0)),(.v (.string ByteArray.empty)),(.v (.int .i64 0)),.nl]) S fun v12 S=>stN 4 v12 v11 S fun v13 S=>bin .eql 0 v10 (.v (.int .i64 3)) S fun v14 S=>onB v14 fun b15=>gd b15 (bslN 9 1 7 [(.v (.string ByteArray.empty))] [(0,(.v (.string { data:=#[113] }))),(1,(.v (.string { data:=#[108,48] }))),(2,(.v (.string { data:=#[111,117,116] }))),(3,(.v (.string { data:=#[108,49] }))),(4,(.v (.string { data:=#[105,48] }))),(5,(.v (.string { data:=#[111,48] }))),(6,(.v (.string { data:=#[97,45,98] })))] S fun v16 S=>ld1 x1 S fun v17 S=>callV Tryz.prog v17 [(.v (.int .i64 7))] S (fun v18 S=>ixS 9 1 v16 v18 S fun v19 S=>ld1 v19 S fun v20 S=>shift v12 1 S fun v21 S=>stN 1 v21 v20 S fun v22 S=>callF Tryz.prog 64 [v10] S Q fun v23 S=>loopV lv63_0 (vc Tryz.prog (c63.at_ [1,1,1,1,1,0,1,0,0]) (ms63.drop 1)) 55 (env63_0 x0 x4 v1 v12 v23) S (blockK 0 (seqK (vc Tryz.prog (c63.at_ [1,1,1,1,1,1]) (ms63.drop 1)) (bodyK Tryz.prog r63 Q)))) (fun u S=>Q (.pan u) S)) (callF Tryz.prog 64 [v10] S Q fun v24 S=>loopV lv63_0 (vc Tryz.prog (c63.at_ [1,1,1,1,1,0,1,0,0]) (ms63.drop 1)) 55 (env63_0 x0 x4 v1 v12 v24) S (blockK 0 (seqK (vc Tryz.prog (c63.at_ [1,1,1,1,1,1]) (ms63.drop 1)) (bodyK Tryz.prog r63 Q))))) (fun u S=>Q (.pan u) S)) (ld1 x2 S fun v25 S=>ld1 x3 S fun v26 S=>lenS v26 S fun v27 S=>bin .geq 0 v25 v27 S fun v28 S=>onB v28 fun b29=>gd b29 (ld1 x1 S fun v30 S=>callV Tryz.prog v30 [(.v (.int .i64 7))] S (fun v31 S=>bin .quo 0 v31 (.v (.int .i64 5)) S fun v32 S=>bin .sub 0 (.v (.int .i64 3)) v32 S fun v33 S=>bld [(0,1),(1,1),(2,1),(3,1)] [(.v (.int .i64 0)),(.v (.string ByteArray.empty)),(.v (.int .i64 0)),.nl] [(0,v33)] S fun v34 S=>boxN 24 4 (.a [(.v (.int .i64 0)),(.v (.string ByteArray.empty)),(.v (.int .i64 0)),.nl]) S fun v35 S=>stN 4 v35 v34 S fun v36 S=>bin .eql 0 v33 (.v (.int .i64 3)) S fun v37 S=>onB v37 fun b38=>gd b38 (bslN 9 1 7 [(.v (.string ByteArray.empty))] [(0,(.v (.string { data:=#[113] }))),(1,(.v (.string { data:=#[108,48] }))),(2,(.v (.string { data:=#[111,117,116] }))),(3,(.v (.string { data:=#[108,49] }))),(4,(.v (.string { data:=#[105,48] }))),(5,(.v (.string { data:=#[111,48] }))),(6,(.v (.string { data:=#[97,45,98] })))] S fun v39 S=>ld1 x1 S fun v40 S=>callV Tryz.prog v40 [(.v (.int .i64 7))] S (fun v41 S=>ixS 9 1 v39 v41 S fun v42 S=>ld1 v42 S fun v43 S=>shift v35 1 S fun v44 S=>stN 1 v44 v43 S fun v45 S=>callF Tryz.prog 64 [v33] S Q fun v46 S=>loopV lv63_0 (vc Tryz.prog (c63.at_ [1,1,1,1,1,0,1,0,0]) (ms63.drop 1)) 55 (env63_0 x0 x4 v1 v35 v46) S (blockK 0 (seqK (vc Tryz.prog (c63.at_ [1,1,1,1,1,1]) (ms63.drop 1)) (bodyK Tryz.prog r63 Q)))) (fun u S=>Q (.pan u) S)) (callF Tryz.prog 64 [v33] S Q fun v47 S=>loopV lv63_0 (vc Tryz.prog (c63.at_ [1,1,1,1,1,0,1,0,0]) (ms63.drop 1)) 55 (env63_0 x0 x4 v1 v35 v47) S (blockK 0 (seqK (vc Tryz.prog (c63.at_ [1,1,1,1,1,1]) (ms63.drop 1)) (bodyK Tryz.prog r63 Q))))) (fun u S=>Q (.pan u) S)) (ld1 x2 S fun v48 S=>bin .gtr 0 v48 (.v (.int .i64 30)) S fun v49 S=>onB v49 fun b50=>gd b50 (ld1 x1 S fun v51 S=>callV Tryz.prog v51 [(.v (.int .i64 7))] S (fun v52 S=>bin .quo 0 v52 (.v (.int .i64 5)) S fun v53 S=>bin .sub 0 (.v (.int .i64 3)) v53 S fun v54 S=>bld [(0,1),(1,1),(2,1),(3,1)] [(.v (.int .i64 0)),(.v (.string ByteArray.empty)),(.v (.int .i64 0)),.nl] [(0,v54)] S fun v55 S=>boxN 24 4 (.a [(.v (.int .i64 0)),(.v (.string ByteArray.empty)),(.v (.int .i64 0)),.nl]) S fun v56 S=>stN 4 v56 v55 S fun v57 S=>bin .eql 0 v54 (.v (.int .i64 3)) S fun v58 S=>onB v58 fun b59=>gd b59 (bslN 9 1 7 [(.v (.string ByteArray.empty))] [(0,(.v (.string { data:=#[113] }))),(1,(.v (.string { data:=#[108,48] }))),(2,(.v (.string { data:=#[111,117,116] }))),(3,(.v (.string { data:=#[108,49] }))),(4,(.v (.string { data:=#[105,48] }))),(5,(.v (.string { data:=#[111,48] }))),(6,(.v (.string { data:=#[97,45,98] })))] S fun v60 S=>ld1 x1 S fun v61 S=>callV Tryz.prog v61 [(.v (.int .i64 7))] S (fun v62 S=>ixS 9 1 v60 v62 S fun v63 S=>ld1 v63 S fun v64 S=>shift v56 1 S fun v65 S=>stN 1 v65 v64 S fun v66 S=>callF Tryz.prog 64 [v54] S Q fun v67 S=>loopV lv63_0 (vc Tryz.prog (c63.at_ [1,1,1,1,1,0,1,0,0]) (ms63.drop 1)) 55 (env63_0 x0 x4 v1 v56 v67) S (blockK 0 (seqK (vc Tryz.prog (c63.at_ [1,1,1,1,1,1]) (ms63.drop 1)) (bodyK Tryz.prog r63 Q)))) (fun u S=>Q (.pan u) S)) (callF Tryz.prog 64 [v54] S Q fun v68 S=>loopV lv63_0 (vc Tryz.prog (c63.at_ [1,1,1,1,1,0,1,0,0]) (ms63.drop 1)) 55 (env63_0 x0 x4 v1 v56 v68) S (blockK 0 (seqK (vc Tryz.prog (c63.at_ [1,1,1,1,1,1]) (ms63.drop 1)) (bodyK Tryz.prog r63 Q))))) (fun u S=>Q (.pan u) S)) (bld [(0,1),(1,1),(2,1),(3,1)] [(.v (.int .i64 0)),(.v (.string ByteArray.empty)),(.v (.int .i64 0)),.nl] [(0,v4)] S fun v69 S=>boxN 24 4 (.a [(.v (.int .i64 0)),(.v (.string ByteArray.empty)),(.v (.int .i64 0)),.nl]) S fun v70 S=>stN 4 v70 v69 S fun v71 S=>bin .eql 0 v4 (.v (.int .i64 3)) S fun v72 S=>onB v72 fun b73=>gd b73 (bslN 9 1 7 [(.v (.string ByteArray.empty))] [(0,(.v (.string { data:=#[113] }))),(1,(.v (.string { data:=#[108,48] }))),(2,(.v (.string { data:=#[111,117,116] }))),(3,(.v (.string { data:=#[108,49] }))),(4,(.v (.string { data:=#[105,48] }))),(5,(.v (.string { data:=#[111,48] }))),(6,(.v (.string { data:=#[97,45,98] })))] S fun v74 S=>ld1 x1 S fun v75 S=>callV Tryz.prog v75 [(.v (.int .i64 7))] S (fun v76 S=>ixS 9 1 v74 v76 S fun v77 S=>ld1 v77 S fun v78 S=>shift v70 1 S fun v79 S=>stN 1 v79 v78 S fun v80 S=>callF Tryz.prog 64 [v4] S Q fun v81 S=>loopV lv63_0 (vc Tryz.prog (c63.at_ [1,1,1,1,1,0,1,0,0]) (ms63.drop 1)) 55 (env63_0 x0 x4 v1 v70 v81) S (blockK 0 (seqK (vc Tryz.prog (c63.at_ [1,1,1,1,1,1]) (ms63.drop 1)) (bodyK Tryz.prog r63 Q)))) (fun u S=>Q (.pan u) S)) (callF Tryz.prog 64 [v4] S Q fun v82 S=>loopV lv63_0 (vc Tryz.prog (c63.at_ [1,1,1,1,1,0,1,0,0]) (ms63.drop 1)) 55 (env63_0 x0 x4 v1 v70 v82) S (blockK 0 (seqK (vc Tryz.prog (c63.at_ [1,1,1,1,1,1]) (ms63.drop 1)) (bodyK Tryz.prog r63 Q)))))))) (fun u S=>Q (.pan u) S)
theorem calls63 {x0 x1 x2 x3 x4:AV} {S:Store} {Q:PoT} (h:m63 x0 x1 x2 x3 x4 S Q):ACalls Tryz.prog 63 [x0,x1,x2,x3,x4] S Q :=
  calls_of_vc (fn:=Tryz.f63) (c:=c63) (n:=55) Tryz.func63 (by kernel_rfl) (by kernel_rfl) (by kernel_rfl) ms63 (Eq.mpr (by kernel_rfl) h)
def b63_0 (y0 y4 y6 y8 y9:AV) (S:Store) (KE0:KeT) (Q:PoT):Prop :=
  bin .gtr 0 y9 (.v (.int .i64 0)) S fun v83 S=>onB v83 fun b84=>gd b84 (∃ q85:AV,(∀ T:Store,Keep S T → shift y8 3 T fun v86 S=>v86 = q85 ∧ S = T) ∧ ∃ q87:AV,(∀ T:Store,Keep S T → ld1 q85 T fun v88 S=>v88 = q87 ∧ S = T) ∧ ∃ q89:AV,(∀ T:Store,Keep S T → ld1 y4 T fun v90 S=>v90 = q89 ∧ S = T) ∧ ∃ q91:AV,(∀ T:Store,Keep S T → bin .sub 0 y0 (.v (.int .i64 1)) T fun v92 S=>v92 = q91 ∧ S = T) ∧ callV Tryz.prog q89 [q91] S (fun v93 S=>(∀ T:Store,Keep S T → ld1 q85 T fun v94 S=>v94 = q87 ∧ S = T) ∧ (∀ T:Store,Keep S T → shift y8 3 T fun v95 S=>v95 = q85 ∧ S = T) ∧ ∃ q96:AV,(∀ T:Store,Keep S T → bslN 24 4 1 [(.v (.int .i64 0)),(.v (.string ByteArray.empty)),(.v (.int .i64 0)),.nl] [(0,v93)] T fun v97 S=>v97 = q96 ∧ S = T) ∧ appS 24 4 56 q87 q96 S fun v98 S=>∃ q99:AV,(∀ T:Store,Keep S T → shift y8 3 T fun v100 S=>v100 = q99 ∧ S = T) ∧ stN 1 q99 v98 S fun v101 S=>bin .sub 0 y9 (.v (.int .i64 1)) S fun v102 S=>KE0 55 (env63_0 y0 y4 y6 y8 v102) S) (fun u S=>False)) (ldN 4 y8 S fun v103 S=>stN 4 y6 v103 S fun v104 S=>ldN 4 y6 S fun v105 _=>Q (.ret v105) S)
theorem b63_0_eq (y0 y4 y6 y8 y9:AV) (S:Store) (KE0:KeT) (Q:PoT):vc Tryz.prog (c63.at_ [1,1,1,1,1,0,1,0,0]) (ms63.drop 1) (mkE 55 lv63_0 (env63_0 y0 y4 y6 y8 y9)) S (thenK (fgK lv63_0 KE0) (blockK 0 (seqK (vc Tryz.prog (c63.at_ [1,1,1,1,1,1]) (ms63.drop 1)) (bodyK Tryz.prog r63 Q)))) = b63_0 y0 y4 y6 y8 y9 S KE0 Q:=by kernel_rfl
theorem loop63_0 {y0 y4 y6 y8:AV} {y90:AV} {S:Store} {Q:PoT} (I:AV → Store → Prop) (μ:AV → Store → Nat) (h0:I y90 S)
    (hr:∀ (y9:AV) (S:Store),I y9 S → ∀ KE0:KeT,(∀ (y9':AV) (S':Store),I y9' S' → μ y9' S' < μ y9 S → KE0 55 (env63_0 y0 y4 y6 y8 y9') S') → b63_0 y0 y4 y6 y8 y9 S KE0 Q) :
    loopV lv63_0 (vc Tryz.prog (c63.at_ [1,1,1,1,1,0,1,0,0]) (ms63.drop 1)) 55 (env63_0 y0 y4 y6 y8 y90) S (blockK 0 (seqK (vc Tryz.prog (c63.at_ [1,1,1,1,1,1]) (ms63.drop 1)) (bodyK Tryz.prog r63 Q))):=by
  refine ⟨fun n e S=>n = 55 ∧ ∃ y9:AV,e = (env63_0 y0 y4 y6 y8 y9) ∧ I y9 S,fun _ e S=>μ (e.getD 4 .j) S,?_,?_⟩
  · exact ⟨_,_,Wk.refl _ _,rfl,_,rfl,h0⟩
  · rintro _ e S ⟨rfl,y9,rfl,hI⟩
    exact (b63_0_eq _ _ _ _ _ _ _ _).mpr (hr y9 S hI _ (fun y9' S' hI' hm=>⟨_,_,Wk.refl _ _,⟨rfl,_,rfl,hI'⟩,hm⟩))
noncomputable def c34:Code:=(Tryz.f34.body).getD .skip
def ms34:List (List Nat):=[[0]]
def m34 (x0:AV) (S:Store) (Q:PoT):Prop :=
  boxN 25 1 x0 S fun v1 S=>boxN 24 4 (.a [(.v (.int .i64 0)),(.v (.string ByteArray.empty)),(.v (.int .i64 0)),.nl]) S fun v2 S=>boxN 3 1 (.v (.int .i64 0)) S fun v3 S=>stN 1 v3 (.v (.int .i64 0)) S fun v4 S=>boxN 95 1 (.v .nilFunc) S fun v5 S=>stN 1 v5 (.f (.func 62) [] [v3,v1]) S fun v6 S=>boxN 113 1 (.v .nilFunc) S fun v7 S=>stN 1 v7 (.f (.func 63) [] [v5,v3,v1,v7]) S fun v8 S=>ld1 v7 S fun v9 S=>callV Tryz.prog v9 [(.v (.int .i64 6))] S (fun v10 S=>stN 4 v2 v10 S fun v11 S=>ldN 4 v2 S fun v12 _=>Q (.ret v12) S) (fun u S=>Q (.pan u) S)
theorem calls34 {x0:AV} {S:Store} {Q:PoT} (h:m34 x0 S Q):ACalls Tryz.prog 34 [x0] S Q :=
  calls_of_vc (fn:=Tryz.f34) (c:=c34) (n:=10) Tryz.func34 (by kernel_rfl) (by kernel_rfl) (by kernel_rfl) ms34 (Eq.mpr (by kernel_rfl) h)
end Go.Proofs.YtolgpokppnajdaaGreat.G
set_option linter.unusedVariables false
set_option linter.unusedSimpArgs false
namespace Go.Proofs.YtolgpokppnajdaaGreat.G
open Go Go.Ab
abbrev aU8 (n:Int):AV:=.v (.int .u8 n)
def wordsL:List ByteArray:=[⟨#[113]⟩,⟨#[108,48]⟩,⟨#[111,117,116]⟩,⟨#[108,49]⟩,⟨#[105,48]⟩,⟨#[111,48]⟩,⟨#[97,45,98]⟩]
inductive MadeF:Nat → Fo → Prop
  | mk (d:Nat) (k:Int) (n:ByteArray) (ks:List Fo) (h1:1 ≤ k) (h2:k ≤ 18) (h3:(ks.length:Int) = kidsN k) (h4:k = 3 → n ∈ wordsL) (h5:¬ k = 3 → n = ⟨#[]⟩) (h6:ks ≠ [] → 0 < d) (h:∀ f ∈ ks,MadeF (d - 1) f):MadeF d (.mk k n 0 ks)
theorem kidsN_le (k:Int):kidsN k ≤ 2:=by unfold kidsN; split; omega; split; omega; split <;> omega
theorem Fo.tree:∀ (f:Fo),∀ u ∈ f.row,Tree u:=by
  intro f
  induction f using Fo.ind with
  | h k n l ks ih =>
    intro u hu
    rw [Fo.row_mk] at hu
    simp only [List.mem_cons,List.not_mem_nil,or_false] at hu
    rcases hu with rfl | rfl | rfl | rfl
    · exact Tree.v _
    · exact Tree.v _
    · exact Tree.v _
    · refine Tree.l fun c hc u hu=>?_
      obtain ⟨f,hf,rfl⟩:=List.mem_map.1 hc
      exact ih f hf u hu
theorem MadeF.ok:∀ (f:Fo) (d:Nat),MadeF d f → f.ok:=by
  intro f
  induction f using Fo.ind with
  | h k n l ks ih =>
    intro d h
    cases h with
    | mk d _ _ _ h1 h2 h3 h4 h5 h6 h =>
      have hk:=kidsN_le k
      have hn:n.size ≤ 3:=by
        by_cases hk:k = 3
        · have:=h4 hk
          simp only [wordsL,List.mem_cons,List.not_mem_nil,or_false] at this
          rcases this with rfl | rfl | rfl | rfl | rfl | rfl | rfl <;> decide
        · rw [h5 hk]; decide
      exact .mk _ _ _ _ ⟨by omega,by omega⟩ ⟨by decide,by decide⟩ (by omega) (by omega) fun f hf=>ih f hf _ (h f hf)
theorem pickG_of {S:Store} {aid lid ta tl k:Nat} {l:List Int} {n:Int} {Q:AEnd → Store → Prop} (h1:S.obj aid = some (.cells ta [[aI k]] true)) (h2:S.obj lid = some (.cells tl [[aL aU8 l]] true)) (hne:lid ≠ aid)
    (hl:∀ x ∈ l,0 ≤ x ∧ x < 256) (hn:0 < n) (hk:k ≤ 1000000)
    (K:∀ S',S'.n = S.n → S'.obj aid = some (.cells ta [[aI (k + 1:Nat)]] true) → (∀ x,x ≠ aid → S'.obj x = S.obj x) → Q (.ret (aI (pickV l k n))) S'):ACalls Tryz.prog 62 [aI n,.p aid 0 0,.p lid 0 0] S Q:=by
  refine calls62 ?_
  unfold m62
  have hadd:∀ K:AV → Store → Prop,∀ S,bin .add 0 (.v (.int .i64 (k:Int))) (.v (.int .i64 1)) S K = K (aI (k + 1:Nat)) S:=fun K S=>bin_add (by omega) (by omega) 0
  rw [ld1_p h1 rfl rfl,hadd]
  refine st_of h1 rfl rfl fun S1 n1 o1 f1=>?_
  have p1:=(f1 lid hne).trans h2
  rw [ld1_p o1 rfl rfl,ld1_p p1 rfl rfl,lenS_aL,bin_gtr,onB_v]
  refine gd_of (fun h=>?_) (fun h=>?_)
  · have h:=of_decide_eq_true h
    have:=K S1 n1 o1 f1
    rw [pickV,if_pos (by omega)] at this
    exact this
  · have h:=of_decide_eq_false h
    have hlt:k < l.length:=by omega
    have hx:=hl _ (List.getElem_mem hlt)
    have hsub:∀ K:AV → Store → Prop,∀ S,bin .sub 0 (.v (.int .i64 ((k + 1:Nat):Int))) (.v (.int .i64 1)) S K = K (aI k) S:=fun K S=>(bin_sub (by omega) (by omega) 0).trans (by rw [show ((k + 1:Nat):Int) - 1 = k by omega])
    rw [ld1_p p1 rfl rfl,ld1_p o1 rfl rfl,hsub,ixS_aL hlt,ld1_q,convI_64 _ (by omega) (by omega),bin_rem (by omega)]
    have:=K S1 n1 o1 f1
    rw [pickV,if_neg (by omega),show l.getD k 0 = l[k] by simp [List.getD_eq_getElem?_getD,hlt]] at this
    exact this
abbrev pickG (b:Nat):AV:=.f (.func 62) [] [.p (b + 2) 0 0,.p b 0 0]
abbrev makeG (b:Nat):AV:=.f (.func 63) [] [.p (b + 3) 0 0,.p (b + 2) 0 0,.p b 0 0,.p (b + 4) 0 0]
structure Mg (b:Nat) (l:List Int) (k:Nat) (S:Store):Prop where
  n:b + 5 ≤ S.n
  lo:S.obj b = some (.cells 25 [[aL aU8 l]] true)
  ao:S.obj (b + 2) = some (.cells 3 [[aI k]] true)
  po:S.obj (b + 3) = some (.cells 95 [[pickG b]] true)
  mo:S.obj (b + 4) = some (.cells 113 [[makeG b]] true)
def Ch (b:Nat) (S S':Store):Prop:=S.n ≤ S'.n ∧ ∀ i,i < S.n → i ≠ b + 2 → S'.obj i = S.obj i
theorem Ch.trans {b:Nat} {S S' S'':Store} (h:Ch b S S') (k:Ch b S' S''):Ch b S S'':=⟨Nat.le_trans h.1 k.1,fun i hi hb=>(k.2 i (by have:=h.1; omega) hb).trans (h.2 i hi hb)⟩
theorem Ch.keep {b:Nat} {S S':Store} (k:Keep S S'):Ch b S S':=⟨k.1,fun i hi _=>k.2 i hi⟩
theorem Ch.st {b id:Nat} {S0 S S':Store} (h:Ch b S0 S) (hid:S0.n ≤ id ∨ id = b + 2) (hn:S'.n = S.n) (ho:∀ x,x ≠ id → S'.obj x = S.obj x):Ch b S0 S':=⟨by have:=h.1; omega,fun i hi hb=>(ho i (by omega)).trans (h.2 i hi hb)⟩
theorem Ch.low {b:Nat} {S0 S S':Store} (h:Ch b S0 S) (hn:S.n ≤ S'.n) (ho:∀ x,x < S0.n → S'.obj x = S.obj x):Ch b S0 S':=⟨Nat.le_trans h.1 hn,fun i hi hb=>(ho i hi).trans (h.2 i hi hb)⟩
theorem Mg.mv {b k:Nat} {l:List Int} {S S':Store} (h:Mg b l k S) (hn:S.n ≤ S'.n) (ho:∀ i,i < b + 5 → S'.obj i = S.obj i):Mg b l k S':=⟨by have:=h.n; omega,(ho _ (by omega)).trans h.lo,(ho _ (by omega)).trans h.ao,(ho _ (by omega)).trans h.po,(ho _ (by omega)).trans h.mo⟩
theorem Mg.keep {b k:Nat} {l:List Int} {S S':Store} (h:Mg b l k S) (q:Keep S S'):Mg b l k S':=h.mv q.1 fun i hi=>q.2 i (by have:=h.n; omega)
theorem Mg.st {b k id:Nat} {l:List Int} {S S':Store} (h:Mg b l k S) (hid:b + 5 ≤ id) (hn:S'.n = S.n) (ho:∀ x,x ≠ id → S'.obj x = S.obj x):Mg b l k S':=h.mv (by omega) fun i hi=>ho i (by omega)
theorem Mg.pick {b k:Nat} {l:List Int} {S:Store} (h:Mg b l k S) (hl:∀ x ∈ l,0 ≤ x ∧ x < 256) {n:Int} (hn:0 < n) (hk:k ≤ 1000) {K X:AV → Store → Prop}
    (kk:∀ S',Mg b l (k + 1) S' → S'.n = S.n → (∀ x,x ≠ b + 2 → S'.obj x = S.obj x) → K (aI (pickV l k n)) S'):callV Tryz.prog (pickG b) [aI n] S K X :=
  .inl (pickG_of h.ao h.lo (by omega) hl hn (by omega) fun S' n2 o2 f2=>kk S' ⟨by have:=h.n; omega,(f2 _ (by omega)).trans h.lo,o2,(f2 _ (by omega)).trans h.po,(f2 _ (by omega)).trans h.mo⟩ n2 f2)
def mostP:Nat → Nat
  | 0=>3
  | d + 1=>3 + 2 * mostP d
theorem mostP_pos:∀ d,3 ≤ mostP d
  | 0=>by decide
  | d + 1=>by unfold mostP; omega
def MadeQ (b:Nat) (l:List Int) (k d:Nat) (T:Store) (tr:AV) (T':Store):Prop:=∃ (f:Fo) (k':Nat),tr = f.av ∧ Mg b l k' T' ∧ Ch b T T' ∧ k ≤ k' ∧ k' ≤ k + mostP d ∧ MadeF d f
theorem bslA4 {e:Nat} {z1 z2 z3 z4:AV} {r:List AV} {S:Store} {K:AV → Store → Prop} (hr:r.length = 4) (k:K (.l [r]) S):bslN e 4 1 [z1,z2,z3,z4] [(0,.a r)] S K:=by
  match r,hr with
  | [u,v,w,x],_ =>
    refine ⟨[u,v,w,x],?_,.inr ?_⟩
    · simp [fillA,cellsOf,spl]
    · simpa [chunks] using k
theorem bsl7 {e:Nat} {z:AV} {a1 a2 a3 a4 a5 a6 a7:ByteArray} {S:Store} {K:AV → Store → Prop} (k:K (aL (fun a=>.v (.string a)) [a1,a2,a3,a4,a5,a6,a7]) S) :
    bslN e 1 7 [z] [(0,.v (.string a1)),(1,.v (.string a2)),(2,.v (.string a3)),(3,.v (.string a4)),(4,.v (.string a5)),(5,.v (.string a6)),(6,.v (.string a7))] S K:=by
  refine ⟨[.v (.string a1),.v (.string a2),.v (.string a3),.v (.string a4),.v (.string a5),.v (.string a6),.v (.string a7)],?_,.inr ?_⟩
  · have h:∀ a:ByteArray,cellsOf (.v (.string a)) = some [.v (.string a)]:=fun _=>rfl
    simp [fillA,h,spl,List.range_succ]
  · simpa [chunks,List.range_succ,aL] using k
section
variable {b:Nat} {l:List Int} (hl:∀ x ∈ l,0 ≤ x ∧ x < 256) {d:Nat}
  (ih:∀ d',d = d' + 1 → ∀ {k:Nat} {T:Store},Mg b l k T → k + mostP d' ≤ 1000 → ACalls Tryz.prog 63 [aI d',.p (b + 3) 0 0,.p (b + 2) 0 0,.p b 0 0,.p (b + 4) 0 0] T (fun e T'=>∃ tr,e = .ret tr ∧ MadeQ b l k d' T tr T'))
include ih
theorem kids_of {T0 T:Store} {k0 k fid:Nat} {kd:Int} {nm:ByteArray} {r:Int} {Q:AEnd → Store → Prop} (hm:Mg b l k T) (h0:b + 5 ≤ T0.n) (hc:Ch b T0 T) (hb:b + 2 < T0.n) (hf:T0.n < fid) (hfT:fid < T.n) (hv1:T.obj T0.n = some (.cells 24 [(Fo.mk 0 ⟨#[]⟩ 0 []).row.set 3 .nl] true))
    (ho:T.obj fid = some (.cells 24 [[aI kd,.v (.string nm),aI 0,.nl]] true)) (hr:r = kidsN kd) (h1:1 ≤ kd) (h2:kd ≤ 18) (h3:kd = 3 → nm ∈ wordsL) (h4:¬ kd = 3 → nm = ⟨#[]⟩) (h5:kd ≤ 3 ∨ 0 < d) (hd:d ≤ 6)
    (hk0:k0 ≤ k) (hk:k ≤ k0 + 3) (hk1:k0 + mostP d ≤ 1000) (hQ:∀ rr tr T',Cv (T'.frz (newer T0.n)) T'.n rr tr → MadeQ b l k0 d T0 tr T' → Q (.ret rr) T') :
    loopV lv63_0 (vc Tryz.prog (c63.at_ [1,1,1,1,1,0,1,0,0]) (ms63.drop 1)) 55 (env63_0 (aI d) (.p (b + 4) 0 0) (.p T0.n 0 0) (.p fid 0 0) (aI r)) T (blockK 0 (seqK (vc Tryz.prog (c63.at_ [1,1,1,1,1,1]) (ms63.drop 1)) (bodyK Tryz.prog r63 Q))):=by
  have hr0:0 ≤ r ∧ r ≤ 2 ∧ (kd ≤ 3 → r = 0):=by
    have hle:=kidsN_le kd
    subst hr
    refine ⟨?_,hle,fun h=>?_⟩
    · unfold kidsN
      rw [if_neg (by omega)]
      split
      · omega
      split <;> omega
    · unfold kidsN
      rw [if_neg (by omega),if_pos h]
  have hP:∀ d',d = d' + 1 → mostP d = 3 + 2 * mostP d':=fun d' e=>by subst e; rfl
  refine loop63_0 (fun y S'=>∃ (i k':Nat) (ks:List Fo) (yk:AV),y = aI i ∧ (i:Int) + ks.length = r ∧ Mg b l k' S' ∧ Ch b T0 S' ∧ fid < S'.n ∧ S'.obj T0.n = some (.cells 24 [(Fo.mk 0 ⟨#[]⟩ 0 []).row.set 3 .nl] true) ∧
      S'.obj fid = some (.cells 24 [[aI kd,.v (.string nm),aI 0,yk]] true) ∧ Own (fid + 1) S' yk 24 (ks.map Fo.row) ∧ (∀ f ∈ ks,MadeF (d - 1) f) ∧ k0 ≤ k' ∧ k' + i * mostP (d - 1) ≤ k0 + 3 + r.toNat * mostP (d - 1))
    (fun y _=>((intA y).getD 0).toNat) ⟨r.toNat,k,[],.nl,by rw [show ((r.toNat:Nat):Int) = r by omega],by simp; omega,hm,hc,hfT,hv1,ho,.nl _ _ _,(fun f h=>by cases h),hk0,by omega⟩ ?_
  rintro _ S1 ⟨i,k',ks,yk,rfl,hi,m1,c1,f1,v1,o1,w1,hks,hk2,hk3⟩ KE hKE
  unfold b63_0
  have mn:=m1.n
  rw [bin_gtr,onB_v]
  refine gd_of (fun h=>?_) (fun h=>?_)
  · have hpos:0 < i:=by have:=of_decide_eq_true h; omega
    obtain ⟨i',rfl⟩:∃ i',i = i' + 1:=⟨i - 1,by omega⟩
    have hd0:0 < d:=by
      rcases h5 with h5 | h5
      · have:=hr0.2.2 h5
        omega
      · exact h5
    obtain ⟨d',rfl⟩:∃ d',d = d' + 1:=⟨d - 1,by omega⟩
    have hP':=hP d' rfl
    rw [show d' + 1 - 1 = d' from rfl] at hk3 hks
    have hi2:i' + 1 ≤ 2:=by omega
    have hrt:r.toNat ≤ 2:=by omega
    have hmul:r.toNat * mostP d' ≤ 2 * mostP d':=Nat.mul_le_mul_right _ hrt
    have hsplit:(i' + 1) * mostP d' = i' * mostP d' + mostP d':=Nat.succ_mul _ _
    refine L_shift ?_
    refine L_ldp o1 f1 rfl rfl ?_
    refine L_ldp m1.mo (by omega) rfl rfl ?_
    refine ⟨aI d',fun T hT=>by rw [bin_sub (by omega) (by omega),show ((d' + 1:Nat):Int) - 1 = d' by omega]; exact ⟨rfl,rfl⟩,?_⟩
    refine .inl ((ih d' rfl m1 (by omega)).mono ?_)
    rintro e S2 ⟨tr,rfl,f,k2,rfl,m2,c2,hk4,hk5,hf2⟩
    show _ ∧ _
    have o2:=(c2.2 _ f1 (by omega)).trans o1
    have n2:=c2.1
    have w2:Own (fid + 1) S2 yk 24 (ks.map Fo.row):=w1.same n2 fun j hj hj2=>c2.2 j hj2 (by omega)
    refine ⟨fun T hT=>by rw [ld1_p ((hT.2 _ (by omega)).trans o2) rfl rfl]; exact ⟨rfl,rfl⟩,fun T hT=>⟨rfl,rfl⟩,?_⟩
    refine ⟨.l [f.row],fun T hT=>bslA4 (Fo.row_len f) ⟨rfl,rfl⟩,?_⟩
    refine w2.app (c:=f.row) (by omega) (Fo.row_len f) (by rw [List.length_map]; omega) (fun z S3 w3 b3 hz3=>?_) rfl
    obtain ⟨m3,hm3⟩:=hz3
    have n3:=b3.1
    have k3:∀ x,x < fid + 1 → S3.obj x = S2.obj x:=fun x hx=>b3.2 x (by omega) (fun b m e=>by have:=w2.lt e; omega)
    refine L_shift ?_
    refine stF_of ((k3 _ (by omega)).trans o2) (by simp) (by rw [hm3]; rfl) fun S4 n4 o4 f4=>?_
    rw [bin_sub (by omega) (by omega),show ((i' + 1:Nat):Int) - 1 = i' by omega]
    have old:∀ x,x < fid → S4.obj x = S2.obj x:=fun x hx=>(f4 x (by omega)).trans (k3 x (by omega))
    refine hKE _ _ ⟨i',k2,ks ++ [f],z,rfl,by simp; omega,m2.mv (by omega) fun x hx=>old x (by omega),(c1.trans c2).low (by omega) fun x hx=>old x (by omega),by omega,(old _ hf).trans ((c2.2 _ (by omega) (by omega)).trans v1),o4,?_,?_,by omega,?_⟩ (by simp [intA])
    · rw [List.map_append]
      exact w3.st (id:=fid) (fun b m e=>by rw [hm3] at e; injection e; omega) n4 f4
    · intro g hg
      rcases List.mem_append.1 hg with hg | hg
      · exact hks g hg
      · rw [List.mem_singleton.1 hg]; exact hf2
    · show k2 + i' * mostP d' ≤ k0 + 3 + r.toNat * mostP d'
      omega
  · have hge:i = 0:=by have:=of_decide_eq_false h; omega
    subst hge
    rw [ldN_p (n:=4) o1 rfl]
    refine stA_of v1 rfl (by rw [List.length_set,Fo.row_len]) fun S2 n2 o2 f2=>?_
    rw [ldN_p (n:=4) o2 rfl]
    have w2:Own (fid + 1) S2 yk 24 (ks.map Fo.row):=w1.st (id:=T0.n) (fun b m e=>by have:=w1.lt e; omega) n2 f2
    refine hQ _ (Fo.mk kd nm 0 ks).av S2 ?_ ⟨.mk kd nm 0 ks,k',rfl,m1.st (id:=T0.n) (by omega) n2 f2,c1.st (.inl (Nat.le_refl _)) n2 f2,hk2,?_,.mk _ _ _ _ h1 h2 (by omega) h3 h4 (fun hne=>?_) hks⟩
    · rw [Fo.av,Fo.row_mk]
      refine .a _ _ rfl fun k u u2 e1 e2=>?_
      match k with
      | 0=>cases e1; cases e2; exact .v _
      | 1=>cases e1; cases e2; exact .v _
      | 2=>cases e1; cases e2; exact .v _
      | 3=>cases e1; cases e2; exact own_rows (fun r hr u hu=>by obtain ⟨f,_,rfl⟩:=List.mem_map.1 hr; exact Fo.tree f u hu) w2 (by omega)
      | k + 4=>simp at e1
    · rcases Nat.eq_zero_or_pos d with hz | hz
      · have:r = 0:=hr0.2.2 (by omega)
        rw [this] at hk3
        have:=mostP_pos d
        simp at hk3
        omega
      · obtain ⟨d',rfl⟩:∃ d',d = d' + 1:=⟨d - 1,by omega⟩
        have hP':=hP d' rfl
        have hmul:r.toNat * mostP d' ≤ 2 * mostP d':=Nat.mul_le_mul_right _ (by omega)
        rw [show d' + 1 - 1 = d' from rfl] at hk3
        omega
    · rcases h5 with h5 | h5
      · have:=hr0.2.2 h5
        have:ks = []:=List.eq_nil_of_length_eq_zero (by omega)
        exact absurd this hne
      · exact h5
end
section
variable {b:Nat} {l:List Int} (hl:∀ x ∈ l,0 ≤ x ∧ x < 256) {d:Nat}
  (ih:∀ d',d = d' + 1 → ∀ {k:Nat} {T:Store},Mg b l k T → k + mostP d' ≤ 1000 → ACalls Tryz.prog 63 [aI d',.p (b + 3) 0 0,.p (b + 2) 0 0,.p b 0 0,.p (b + 4) 0 0] T (fun e T'=>∃ tr,e = .ret tr ∧ MadeQ b l k d' T tr T'))
include hl ih
theorem rest_of {T0 T:Store} {k0 k:Nat} {kd:Int} {Q:AEnd → Store → Prop} (hm:Mg b l k T) (h0:b + 5 ≤ T0.n) (hc:Ch b T0 T) (hT:T0.n < T.n) (hv1:T.obj T0.n = some (.cells 24 [(Fo.mk 0 ⟨#[]⟩ 0 []).row.set 3 .nl] true))
    (h1:1 ≤ kd) (h2:kd ≤ 18) (h5:kd ≤ 3 ∨ 0 < d) (hd:d ≤ 6) (hk0:k0 ≤ k) (hk:k ≤ k0 + 2) (hk1:k0 + mostP d ≤ 1000) (hQ:∀ rr tr T',Cv (T'.frz (newer T0.n)) T'.n rr tr → MadeQ b l k0 d T0 tr T' → Q (.ret rr) T') :
    bld [(0,1),(1,1),(2,1),(3,1)] [(.v (.int .i64 0)),(.v (.string ByteArray.empty)),(.v (.int .i64 0)),.nl] [(0,(aI kd))] T fun v11 S=>boxN 24 4 (.a [(.v (.int .i64 0)),(.v (.string ByteArray.empty)),(.v (.int .i64 0)),.nl]) S fun v12 S=>stN 4 v12 v11 S fun v13 S=>bin .eql 0 (aI kd) (.v (.int .i64 3)) S fun v14 S=>onB v14 fun b15=>gd b15 (bslN 9 1 7 [(.v (.string ByteArray.empty))] [(0,(.v (.string { data:=#[113] }))),(1,(.v (.string { data:=#[108,48] }))),(2,(.v (.string { data:=#[111,117,116] }))),(3,(.v (.string { data:=#[108,49] }))),(4,(.v (.string { data:=#[105,48] }))),(5,(.v (.string { data:=#[111,48] }))),(6,(.v (.string { data:=#[97,45,98] })))] S fun v16 S=>ld1 (.p (b + 3) 0 0) S fun v17 S=>callV Tryz.prog v17 [(.v (.int .i64 7))] S (fun v18 S=>ixS 9 1 v16 v18 S fun v19 S=>ld1 v19 S fun v20 S=>shift v12 1 S fun v21 S=>stN 1 v21 v20 S fun v22 S=>callF Tryz.prog 64 [(aI kd)] S Q fun v23 S=>loopV lv63_0 (vc Tryz.prog (c63.at_ [1,1,1,1,1,0,1,0,0]) (ms63.drop 1)) 55 (env63_0 (aI d) (.p (b + 4) 0 0) (.p T0.n 0 0) v12 v23) S (blockK 0 (seqK (vc Tryz.prog (c63.at_ [1,1,1,1,1,1]) (ms63.drop 1)) (bodyK Tryz.prog r63 Q)))) (fun u S=>Q (.pan u) S)) (callF Tryz.prog 64 [(aI kd)] S Q fun v24 S=>loopV lv63_0 (vc Tryz.prog (c63.at_ [1,1,1,1,1,0,1,0,0]) (ms63.drop 1)) 55 (env63_0 (aI d) (.p (b + 4) 0 0) (.p T0.n 0 0) v12 v24) S (blockK 0 (seqK (vc Tryz.prog (c63.at_ [1,1,1,1,1,1]) (ms63.drop 1)) (bodyK Tryz.prog r63 Q)))):=by
  have hmp:=mostP_pos d
  rw [bld_of (cs:=[aI kd,.v (.string ⟨#[]⟩),aI 0,.nl]) rfl]
  refine boxA_of rfl fun S1 k1 n1 o1=>?_
  refine stA_of (cs':=[aI kd,.v (.string ⟨#[]⟩),aI 0,.nl]) o1 rfl rfl fun S2 n2 o2 f2=>?_
  have k2:=k1.st (Nat.le_refl _) n2 f2
  have m2:=hm.keep k2
  have c2:=hc.trans (Ch.keep (b:=b) k2)
  have v2:=(k2.2 _ hT).trans hv1
  rw [bin_eql,onB_v]
  refine gd_of (fun h=>?_) (fun h=>?_)
  · have h:kd = 3:=of_decide_eq_true h
    refine bsl7 ?_
    rw [ld1_p m2.po rfl rfl]
    refine m2.pick hl (by omega) (by omega) fun S3 m3 n3 f3=>?_
    obtain ⟨q0,q7⟩:=pickV_rng (l:=l) (k:=k) (n:=7) (fun x hx=>⟨(hl x hx).1,by have:=(hl x hx).2; omega⟩) (by omega)
    generalize pickV l k 7 = p at *
    obtain ⟨p,rfl⟩:=Int.eq_ofNat_of_zero_le q0
    have hp:p < wordsL.length:=by simp [wordsL]; omega
    rw [show ∀ K:AV → Store → Prop,ixS 9 1 (aL (fun a=>.v (.string a)) [⟨#[113]⟩,⟨#[108,48]⟩,⟨#[111,117,116]⟩,⟨#[108,49]⟩,⟨#[105,48]⟩,⟨#[111,48]⟩,⟨#[97,45,98]⟩]) (aI p) S3 K = K (.q [.v (.string wordsL[p])] 0) S3 from fun K=>ixS_aL (l:=wordsL) hp]
    rw [ld1_q,shift_p]
    have o3:=(f3 T.n (by have:=hm.n; omega)).trans o2
    refine stF_of o3 (by simp) rfl fun S4 n4 o4 f4=>?_
    refine callF_ans (ans64 kd) ?_
    exact kids_of ih (nm:=wordsL[p]) (m3.st (id:=T.n) (by have:=hm.n; omega) n4 f4) h0 ((c2.st (.inr rfl) n3 f3).st (.inl (by omega)) n4 f4) (by omega) hT (by omega) ((f4 _ (by omega)).trans ((f3 _ (by omega)).trans v2)) o4 rfl h1 h2 (fun _=>List.getElem_mem _) (fun h'=>absurd h h') h5 hd (by omega) (by omega) hk1 hQ
  · have h:¬ kd = 3:=of_decide_eq_false h
    refine callF_ans (ans64 kd) ?_
    exact kids_of ih (nm:=⟨#[]⟩) m2 h0 c2 (by omega) hT (by omega) v2 o2 rfl h1 h2 (fun h'=>absurd h' h) (fun _=>rfl) h5 hd (by omega) (by omega) hk1 hQ
theorem make_step (hd:d ≤ 6) {k:Nat} {T:Store} (hm:Mg b l k T) (hk:k + mostP d ≤ 1000):ACalls Tryz.prog 63 [aI d,.p (b + 3) 0 0,.p (b + 2) 0 0,.p b 0 0,.p (b + 4) 0 0] T (fun e T'=>∃ tr,e = .ret tr ∧ MadeQ b l k d T tr T'):=by
  have hmp:=mostP_pos d
  have h0:=hm.n
  refine (ACalls.treeW (Φ:=fun tr T'=>MadeQ b l k d T tr T') (calls63 ?_)).mono ?_
  · unfold m63
    refine boxA_of (cs:=(Fo.mk 0 ⟨#[]⟩ 0 []).row.set 3 .nl) (by rw [List.length_set,Fo.row_len]) fun S1 k1 n1 o1=>?_
    have hQ:∀ rr tr T',Cv (T'.frz (newer T.n)) T'.n rr tr → MadeQ b l k d T tr T' → ∃ r tr,AEnd.ret rr = .ret r ∧ Cv (T'.frz (newer T.n)) T'.n r tr ∧ MadeQ b l k d T tr T':=fun rr tr T' h1 h2=>⟨rr,tr,rfl,h1,h2⟩
    have m1:=hm.keep k1
    rw [ld1_p m1.po rfl rfl]
    refine m1.pick hl (by omega) (by omega) fun S2 m2 n2 f2=>?_
    obtain ⟨p0,p18⟩:=pickV_rng (l:=l) (k:=k) (n:=18) (fun x hx=>⟨(hl x hx).1,by have:=(hl x hx).2; omega⟩) (by omega)
    generalize pickV l k 18 = pk at *
    have c2:Ch b T S2:=(Ch.keep (b:=b) k1).st (.inr rfl) n2 f2
    have v2:=(f2 _ (by omega)).trans o1
    rw [bin_add (by omega) (by omega),bin_eql,onB_v]
    refine gd_of (fun h=>?_) (fun h=>?_)
    ·
      rw [ld1_p m2.po rfl rfl]
      refine m2.pick hl (by omega) (by omega) fun S3 m3 n3 f3=>?_
      obtain ⟨q0,q7⟩:=pickV_rng (l:=l) (k:=k + 1) (n:=7) (fun x hx=>⟨(hl x hx).1,by have:=(hl x hx).2; omega⟩) (by omega)
      generalize pickV l (k + 1) 7 = p at *
      have hq:p.tdiv 5 = p / 5:=Int.tdiv_eq_ediv_of_nonneg q0
      rw [bin_quo (by omega) (by omega) (by omega),bin_sub (by omega) (by omega)]
      exact rest_of hl ih (kd:=3 - p.tdiv 5) m3 h0 (c2.st (.inr rfl) n3 f3) (by omega) ((f3 _ (by omega)).trans v2) (by omega) (by omega) (.inl (by omega)) hd (by omega) (by omega) hk hQ
    have hd0:¬ (d:Int) = 0:=of_decide_eq_false h
    rw [ld1_p m2.ao rfl rfl,ld1_p m2.lo rfl rfl,lenS_aL,bin_geq,onB_v]
    refine gd_of (fun h=>?_) (fun h=>?_)
    ·
      rw [ld1_p m2.po rfl rfl]
      refine m2.pick hl (by omega) (by omega) fun S3 m3 n3 f3=>?_
      obtain ⟨q0,q7⟩:=pickV_rng (l:=l) (k:=k + 1) (n:=7) (fun x hx=>⟨(hl x hx).1,by have:=(hl x hx).2; omega⟩) (by omega)
      generalize pickV l (k + 1) 7 = p at *
      have hq:p.tdiv 5 = p / 5:=Int.tdiv_eq_ediv_of_nonneg q0
      rw [bin_quo (by omega) (by omega) (by omega),bin_sub (by omega) (by omega)]
      exact rest_of hl ih (kd:=3 - p.tdiv 5) m3 h0 (c2.st (.inr rfl) n3 f3) (by omega) ((f3 _ (by omega)).trans v2) (by omega) (by omega) (.inl (by omega)) hd (by omega) (by omega) hk hQ
    rw [ld1_p m2.ao rfl rfl,bin_gtr,onB_v]
    refine gd_of (fun h=>?_) (fun h=>?_)
    ·
      rw [ld1_p m2.po rfl rfl]
      refine m2.pick hl (by omega) (by omega) fun S3 m3 n3 f3=>?_
      obtain ⟨q0,q7⟩:=pickV_rng (l:=l) (k:=k + 1) (n:=7) (fun x hx=>⟨(hl x hx).1,by have:=(hl x hx).2; omega⟩) (by omega)
      generalize pickV l (k + 1) 7 = p at *
      have hq:p.tdiv 5 = p / 5:=Int.tdiv_eq_ediv_of_nonneg q0
      rw [bin_quo (by omega) (by omega) (by omega),bin_sub (by omega) (by omega)]
      exact rest_of hl ih (kd:=3 - p.tdiv 5) m3 h0 (c2.st (.inr rfl) n3 f3) (by omega) ((f3 _ (by omega)).trans v2) (by omega) (by omega) (.inl (by omega)) hd (by omega) (by omega) hk hQ
    exact rest_of hl ih (kd:=1 + pk) m2 h0 c2 (by omega) v2 (by omega) (by omega) (.inr (by omega)) hd (by omega) (by omega) hk hQ
  · rintro e T' ⟨tr,T1,rfl,rfl,f,k',rfl,m',c',h1,h2,h3⟩
    have old:∀ i,i < T.n → (T1.frz (newer T.n)).obj i = T1.obj i:=fun i hi=>frz_false (by simp [newer]; omega)
    exact ⟨_,rfl,f,k',rfl,m'.mv (Nat.le_refl _) fun i hi=>old i (by omega),⟨c'.1,fun i hi hb=>(old i hi).trans (c'.2 i hi hb)⟩,h1,h2,h3⟩
end
theorem make_of {b:Nat} {l:List Int} (hl:∀ x ∈ l,0 ≤ x ∧ x < 256):∀ {d:Nat},d ≤ 6 → ∀ {k:Nat} {T:Store},Mg b l k T → k + mostP d ≤ 1000 → ACalls Tryz.prog 63 [aI d,.p (b + 3) 0 0,.p (b + 2) 0 0,.p b 0 0,.p (b + 4) 0 0] T (fun e T'=>∃ tr,e = .ret tr ∧ MadeQ b l k d T tr T'):=by
  intro d
  induction d with
  | zero=>exact fun hd {k T} hm hk=>make_step hl (fun d' h=>by omega) hd hm hk
  | succ d ih =>
    intro hd k T hm hk
    refine make_step hl (fun d' h {k T} hm hk=>?_) hd hm hk
    obtain rfl:d = d':=by omega
    exact ih (by omega) hm hk
theorem made34 {l:List Int} (hl:∀ x ∈ l,0 ≤ x ∧ x < 256) {S:Store}:ACalls Tryz.prog 34 [aL aU8 l] S (fun e S'=>∃ tr,e = .ret tr ∧ S' = S ∧ ∃ f:Fo,tr = f.av ∧ MadeF 6 f):=by
  refine ACalls.treeE (calls34 ?_)
  unfold m34
  refine box1_of rfl fun S1 k1 n1 o1=>?_
  refine boxA_of rfl fun S2 k2 n2 o2=>?_
  refine box1_of rfl fun S3 k3 n3 o3=>?_
  refine st_of o3 rfl rfl fun S4 n4 o4 f4=>?_
  refine box1_of rfl fun S5 k5 n5 o5=>?_
  refine st_of o5 rfl rfl fun S6 n6 o6 f6=>?_
  refine box1_of rfl fun S7 k7 n7 o7=>?_
  refine st_of o7 rfl rfl fun S8 n8 o8 f8=>?_
  rw [ld1_p o8 rfl rfl]
  have e2:S2.n = S.n + 2:=by omega
  have e4:S4.n = S.n + 3:=by omega
  have e6:S6.n = S.n + 4:=by omega
  rw [e2] at o3 o4 f4
  rw [e4] at o5 o6 f6
  rw [e6] at o7 o8 f8
  have q8:∀ i,i < S.n + 4 → S8.obj i = S6.obj i:=fun i hi=>(f8 i (by omega)).trans (k7.2 i (by omega))
  have q6:∀ i,i < S.n + 3 → S8.obj i = S4.obj i:=fun i hi=>(q8 i (by omega)).trans ((f6 i (by omega)).trans (k5.2 i (by omega)))
  have q4:∀ i,i < S.n + 2 → S8.obj i = S2.obj i:=fun i hi=>(q6 i (by omega)).trans ((f4 i (by omega)).trans (k3.2 i (by omega)))
  have hm:Mg S.n l 0 S8:=⟨by omega,(q4 _ (by omega)).trans ((k2.2 _ (by omega)).trans o1),(q6 _ (by omega)).trans o4,(q8 _ (by omega)).trans (by rw [o6,e2]; rfl),by rw [o8,e2,e4]; rfl⟩
  refine .inl ?_
  rw [e2,e4,e6]
  refine (make_of (d:=6) hl (Nat.le_refl _) hm (by decide)).mono ?_
  rintro e S9 ⟨tr,rfl,f,k',rfl,m9,c9,_,_,hf⟩
  show stN 4 _ _ _ _
  have n9:=m9.n
  have c9n:=c9.1
  refine stA_of ((c9.2 S1.n (by omega) (by omega)).trans ((q4 _ (by omega)).trans o2)) (Fo.row_len f) rfl fun S10 n10 o10 f10=>?_
  rw [ldN_p (n:=4) o10 (Fo.row_len f)]
  refine ⟨_,f.av,rfl,⟨by omega,fun i hi=>(f10 i (by omega)).trans ((c9.2 i (by omega) (by omega)).trans ((q4 i (by omega)).trans ((k2.2 i (by omega)).trans (k1.2 i hi))))⟩,Tree.a (fun u hu=>Fo.tree f u hu) _ _,f,rfl,hf⟩
def litV (m:Int) (n:ByteArray):Int:=((n.size:Int) * 7 + (n[0]!).toNat).tmod (if 1 > m then 1 else m)
mutual
def Fo.litsF (m:Int):Fo → Fo
  | .mk k n _ ks=>.mk k ⟨#[]⟩ (if k = 3 then litV m n else 0) (Fo.litsFs m ks)
def Fo.litsFs (m:Int):List Fo → List Fo
  | []=>[]
  | f :: fs=>Fo.litsF m f :: Fo.litsFs m fs
end
theorem Fo.litsFs_map (m:Int):∀ l:List Fo,Fo.litsFs m l = l.map (Fo.litsF m)
  | []=>by rw [Fo.litsFs]; rfl
  | f :: fs=>by rw [Fo.litsFs,Fo.litsFs_map m fs]; rfl
theorem Fo.litsF_mk (m k:Int) (n:ByteArray) (l:Int) (ks:List Fo):Fo.litsF m (.mk k n l ks) = .mk k ⟨#[]⟩ (if k = 3 then litV m n else 0) (ks.map (Fo.litsF m)):=by rw [Fo.litsF,Fo.litsFs_map]
theorem litV_rng {m:Int} (n:ByteArray):0 ≤ litV m n ∧ litV m n < max m 1:=by
  unfold litV
  have h:(0:Int) < (if 1 > m then 1 else m):=by split <;> omega
  have h0:(0:Int) ≤ (n.size:Int) * 7 + (n[0]!).toNat:=by omega
  have h3:(if 1 > m then 1 else m) ≤ max m 1:=by split <;> omega
  generalize (if 1 > m then 1 else m) = q at *
  rw [Int.tmod_eq_emod_of_nonneg h0]
  have h1:=Int.emod_nonneg ((n.size:Int) * 7 + (n[0]!).toNat) (show q ≠ 0 by omega)
  have h2:=Int.emod_lt_of_pos ((n.size:Int) * 7 + (n[0]!).toNat) h
  exact ⟨h1,by omega⟩
theorem litsF_ok {m:Int} (hm:m ≤ 9223372036854775807):∀ (f:Fo) (d:Nat),MadeF d f → (f.litsF m).ok ∧ (f.litsF m).mayB (d + 1) = true ∧ ∀ g:Gr,(∀ l:Int,0 ≤ l → l < max m 1 → g.lit l = true) → (f.litsF m).litsB g = true:=by
  intro f
  induction f using Fo.ind with
  | h k n l ks ih =>
    intro d h
    cases h with
    | mk d _ _ _ h1 h2 h3 h4 h5 h6 h =>
      have hk:=kidsN_le k
      have hv:=litV_rng (m:=m) n
      rw [Fo.litsF_mk]
      refine ⟨.mk _ _ _ _ ⟨by omega,by omega⟩ (by unfold i64R; split <;> omega) (by decide) (by rw [List.length_map]; omega) fun g hg=>?_,?_,fun g hg=>?_⟩
      · obtain ⟨f,hf,rfl⟩:=List.mem_map.1 hg
        exact (ih f hf _ (h f hf)).1
      · rw [Fo.mayB_mk]
        simp only [Bool.and_eq_true,decide_eq_true_eq,List.all_eq_true,List.length_map]
        refine ⟨by omega,?_,trivial,h3,fun g hg=>?_⟩
        · split
          · rename_i hk3
            rcases Int.lt_or_eq_of_le hv.1 with h | h
            · exact .inr ⟨h,hk3⟩
            · exact .inl h.symm
          · exact .inl rfl
        · obtain ⟨f,hf,rfl⟩:=List.mem_map.1 hg
          have:=(ih f hf _ (h f hf)).2.1
          have hd:=h6 (fun e=>by subst e; cases hf)
          rwa [show ((d - 1:Nat):Int) + 1 = (d:Int) + 1 - 1 by omega] at this
      · rw [Fo.litsB_mk]
        simp only [Bool.and_eq_true,Bool.or_eq_true,decide_eq_true_eq,List.all_eq_true]
        refine ⟨?_,fun g' hg'=>?_⟩
        · by_cases hk3:k = 3
          · rw [if_pos hk3]; exact .inr (hg _ hv.1 hv.2)
          · exact .inl hk3
        · obtain ⟨f,hf,rfl⟩:=List.mem_map.1 hg'
          exact (ih f hf _ (h f hf)).2.2 g hg
theorem word0 {n:ByteArray} (h:n ∈ wordsL):0 < n.size ∧ n.size ≤ 3:=by
  simp only [wordsL,List.mem_cons,List.not_mem_nil,or_false] at h
  rcases h with rfl | rfl | rfl | rfl | rfl | rfl | rfl <;> decide
theorem ans42 {m:Int} (hm:i64R m):∀ (f:Fo) (d:Nat),MadeF d f → Ans Tryz.prog 42 [f.av,aI m] (f.litsF m).av:=by
  intro f
  induction f using Fo.ind with
  | h k n l ks ih =>
    intro d h S
    have hok:=h.ok
    cases h with
    | mk d _ _ _ h1 h2 h3 h4 h5 h6 hks =>
    have hkl:=kidsN_le k
    refine ACalls.tree (calls42 ?_)
    unfold m42
    rw [Fo.av,Fo.row_mk]
    refine boxA_of rfl fun S1 k1 n1 o1=>?_
    refine boxA_of rfl fun S2 k2 n2 o2=>?_
    have p2:=(k2.2 _ (by omega)).trans o1
    rw [shift_p,ld1_p p2 rfl rfl,bld_of (cs:=[aI k,.v (.string ⟨#[]⟩),aI 0,.nl]) rfl]
    refine boxA_of rfl fun S3 k3 n3 o3=>?_
    refine stA_of (cs':=[aI k,.v (.string ⟨#[]⟩),aI 0,.nl]) o3 rfl rfl fun S4 n4 o4 f4=>?_
    have k4:=k3.st (Nat.le_refl _) n4 f4
    have p4:=(k4.2 _ (by omega)).trans p2
    have r4:=(k4.2 _ (by omega)).trans o2
    have kk:=(k1.trans k2).trans k4
    have tail:∀ (T:Store) (v:Int),v = (if k = 3 then litV m n else 0) → Keep S T → S4.n ≤ T.n → T.obj S.n = some (.cells 24 [[aI k,.v (.string n),aI 0,foL ks]] true) → T.obj S1.n = some (.cells 24 [[.v (.int .i64 0),.v (.string ByteArray.empty),.v (.int .i64 0),.nl]] true) →
        T.obj S2.n = some (.cells 24 [[aI k,.v (.string ⟨#[]⟩),aI v,.nl]] true) →
        loopV lv42_0 (vc Tryz.prog (c42.at_ [1,1,1,0,1,0,0]) (ms42.drop 1)) 46 (env42_0 (aI m) (.p S.n 0 0) (.p S1.n 0 0) (.p S2.n 0 0) (.v (.int .i64 0))) T (blockK 0 (seqK (vc Tryz.prog (c42.at_ [1,1,1,1]) (ms42.drop 1)) (bodyK Tryz.prog r42 fun e S'=>∃ r,e = .ret r ∧ Keep S S' ∧ Cv (S'.frz (newer S.n)) S.n r (Fo.litsF m (.mk k n 0 ks)).av))):=by
      intro T v hv kT nT oa ob oc
      refine loop42_0 (fun y S'=>∃ (i:Nat) (z:AV),y = aI i ∧ i ≤ ks.length ∧ Keep S S' ∧ S4.n ≤ S'.n ∧ S'.obj S.n = some (.cells 24 [[aI k,.v (.string n),aI 0,foL ks]] true) ∧ S'.obj S1.n = some (.cells 24 [[.v (.int .i64 0),.v (.string ByteArray.empty),.v (.int .i64 0),.nl]] true) ∧
          S'.obj S2.n = some (.cells 24 [[aI k,.v (.string ⟨#[]⟩),aI v,z]] true) ∧ Own S4.n S' z 24 (((ks.take i).map (Fo.litsF m)).map Fo.row))
        (fun y _=>ks.length - ((intA y).getD 0).toNat) ⟨0,.nl,rfl,Nat.zero_le _,kT,nT,oa,ob,oc,.nl _ _ _⟩ ?_
      rintro _ S5 ⟨i,z,rfl,hi,k5,n5,oa,ob,oc,w5⟩ KE hKE
      unfold b42_0
      rw [shift_p,ld1_p oa rfl rfl,lenS_foL,bin_lss,onB_v]
      refine gd_of (fun hlt=>?_) (fun hge=>?_)
      · have hlt:i < ks.length:=by have:=of_decide_eq_true hlt; omega
        have hmem:=List.getElem_mem hlt
        refine L_shift ?_
        refine L_ldp oc (by omega) rfl rfl ?_
        refine L_shift ?_
        refine L_ldp oa (by omega) rfl rfl ?_
        refine ⟨_,fun T hT=>by rw [ixS_foL hlt]; exact ⟨rfl,rfl⟩,?_⟩
        refine L_ldNq (Fo.row_len _) ?_
        refine L_callA (ih _ hmem _ (hks _ hmem)) ?_
        refine ⟨.l [(Fo.litsF m ks[i]).row],fun T hT=>bslA4 (Fo.row_len _) ⟨rfl,rfl⟩,?_⟩
        refine w5.app (c:=(Fo.litsF m ks[i]).row) (by omega) (Fo.row_len _) (by simp; omega) (fun z' S6 w6 b6 hz=>?_) rfl
        obtain ⟨m6,hm6⟩:=hz
        have n6:=b6.1
        have old6:∀ x,x < S4.n → S6.obj x = S5.obj x:=fun x hx=>b6.2 x (by omega) (fun b m e=>by have:=w5.lt e; omega)
        refine L_shift ?_
        refine stF_of ((old6 _ (by omega)).trans oc) (by simp) (by rw [hm6]; rfl) fun S7 n7 o7 f7=>?_
        rw [bin_add (by omega) (by omega)]
        have old7:∀ x,x < S2.n → S7.obj x = S5.obj x:=fun x hx=>(f7 x (by omega)).trans (old6 x (by omega))
        refine hKE _ _ ⟨i + 1,z',rfl,hlt,⟨by have:=k5.1; omega,fun x hx=>(old7 x (by omega)).trans (k5.2 x hx)⟩,by omega,(old7 _ (by omega)).trans oa,(old7 _ (by omega)).trans ob,o7,?_⟩ (by simp [intA]; omega)
        rw [List.take_add_one,List.getElem?_eq_getElem hlt,List.map_append,List.map_append]
        exact w6.st (id:=S2.n) (fun b m e=>by rw [hm6] at e; injection e; omega) n7 f7
      · have hge:i = ks.length:=by have:=of_decide_eq_false hge; omega
        subst hge
        rw [ldN_p (n:=4) oc rfl]
        refine stA_of ob rfl rfl fun S6 n6 o6 f6=>?_
        rw [ldN_p (n:=4) o6 rfl]
        have w6:Own S4.n S6 z 24 _:=w5.st (id:=S1.n) (fun b m e=>by have:=w5.lt e; omega) n6 f6
        rw [List.take_length] at w6
        refine ⟨_,rfl,k5.st (by omega) n6 f6,?_⟩
        rw [Fo.litsF_mk,Fo.av,Fo.row_mk,← hv]
        refine .a _ _ rfl fun k u u2 e1 e2=>?_
        match k with
        | 0=>cases e1; cases e2; exact .v _
        | 1=>cases e1; cases e2; exact .v _
        | 2=>cases e1; cases e2; exact .v _
        | 3=>cases e1; cases e2; exact own_rows (fun r hr u hu=>by obtain ⟨f,_,rfl⟩:=List.mem_map.1 hr; exact Fo.tree f u hu) w6 (by omega)
        | k + 4=>simp at e1
    rw [shift_p,ld1_p p4 rfl rfl,bin_eql,onB_v]
    refine gd_of (fun hk3=>?_) (fun hk3=>?_)
    · have hk3:k = 3:=of_decide_eq_true hk3
      obtain ⟨hn0,hn3⟩:=word0 (h4 hk3)
      have hb:((n[0]!).toNat) ≤ 255:=by have:=(n[0]!).toNat_lt; omega
      have hne:(if 1 > m then 1 else m) ≠ 0:=by split <;> omega
      refine L_shift ?_
      refine L_ldp p4 (by omega) rfl rfl ?_
      refine ⟨_,fun T hT=>by rw [lenStr_b]; exact ⟨rfl,rfl⟩,?_⟩
      refine ⟨_,fun T hT=>by rw [bin_mul (by omega) (by omega)]; exact ⟨rfl,rfl⟩,?_⟩
      refine L_shift ?_
      refine L_ldp p4 (by omega) rfl rfl ?_
      refine ⟨_,fun T hT=>by rw [show ∀ K:AV → Store → Prop,ixStr (.v (.string n)) (.v (.int .i64 0)) T K = K (.v (.int .u8 (n[0]!).toNat)) T from fun K=>(ixStr_b (i:=0) hn0).trans (by rw [getElem!_pos n 0 hn0])]; exact ⟨rfl,rfl⟩,?_⟩
      refine ⟨_,fun T hT=>by rw [convI_64 _ (by omega) (by omega)]; exact ⟨rfl,rfl⟩,?_⟩
      refine ⟨_,fun T hT=>by rw [bin_add (by omega) (by omega)]; exact ⟨rfl,rfl⟩,?_⟩
      refine ⟨_,fun T hT=>by rw [mx_true]; exact ⟨rfl,rfl⟩,?_⟩
      refine ⟨_,fun T hT=>by rw [bin_rem hne]; exact ⟨rfl,rfl⟩,?_⟩
      refine L_shift ?_
      refine stF_of o4 (by simp) rfl fun S5 n5 o5 f5=>?_
      exact tail S5 _ (by rw [if_pos hk3]; rfl) (kk.st (by omega) n5 f5) (by omega) ((f5 _ (by omega)).trans p4) ((f5 _ (by omega)).trans r4) o5
    · have hk3:¬ k = 3:=of_decide_eq_false hk3
      exact tail S4 0 (by rw [if_neg hk3]) kk (Nat.le_refl _) p4 r4 o4
def s00:Sp:=⟨1,[true,true],[true,false],[[1],[0]],[]⟩
theorem s00_of:spOf ca0 = s00:=by
  have h:=(spaceB_ok (c:=ca0) (by rw [ca0_sp])).1
  rw [ca0_sp] at h
  exact (congrArg Prod.fst h).symm
theorem bit2 {P:Nat → Prop} (h0:P 0) (h1:P 1) (h2:∀ i,2 ≤ i → P i):∀ i,P i
  | 0=>h0
  | 1=>h1
  | i + 2=>h2 _ (by omega)
theorem ext2 {a b:List Bool} (ha:a.length = 2) (hb:b.length = 2) (h0:bit a 0 = bit b 0) (h1:bit a 1 = bit b 1):a = b :=
  ext_bit (by omega) (bit2 h0 h1 fun i hi=>by rw [bit_ge (by omega),bit_ge (by omega)])
theorem eu_tt:euP s00 [true,true] [true,true] = [true,true] :=
  ext2 (by simp) rfl (bit_eu.2 ⟨by decide,.base 0 rfl rfl⟩) (bit_eu.2 ⟨by decide,.base 1 rfl rfl⟩)
theorem eu_no {s:Sp} {p q:List Bool} (hq:∀ i,bit q i = false):∀ i,¬ Reach s p q i:=fun i h=>by
  induction h with
  | base i h1 _=>rw [hq] at h1; cases h1
  | step _ _ _ _ _ _ ih=>exact ih
theorem bit_ff:∀ i,bit [false,false] i = false:=bit2 rfl rfl fun i hi=>bit_ge (by simpa using hi)
theorem eu_ff:euP s00 [true,true] [false,false] = [false,false]:=by
  have h:∀ i,bit (euP s00 [true,true] [false,false]) i = false:=fun i=>by
    cases hb:bit (euP s00 [true,true] [false,false]) i with
    | false=>rfl
    | true=>exact absurd (bit_eu.1 hb).2 (eu_no bit_ff i)
  exact ext2 (by simp) rfl (h 0) (h 1)
theorem eg_tt:egP s00 [true,true] = [true,true]:=by
  refine (eg_of rfl (fun i h=>by exact h) (fun y hl h _ i hi=>by have:=h i hi; exact this) fun f hf i hi=>?_).symm
  have:f = [true,true]:=by simpa [fairL,s00] using hf
  subst this
  have:stepP s00 [true,true] [true,true] = [true,true]:=by
    show andP [true,true] (exP s00 (euP s00 [true,true] [true,true])) = _
    rw [eu_tt]; rfl
  rw [this]; exact hi
theorem eg_tf:egP s00 [true,false] = [false,false]:=by
  refine (eg_none (p:=[true,false]) (z:=[false,false]) rfl (fun y hl h hst i hi=>?_) bit_ff).symm
  have hy1:bit y 1 = false:=by
    cases hb:bit y 1 with
    | false=>rfl
    | true=>have:=h 1 hb; cases this
  have hy0:¬ bit y 0 = true:=fun h0=>by
    have h1:=hst [true,true] (by simp [fairL,s00]) 0 h0
    rw [stepP,bit_and,Bool.and_eq_true,bit_ex] at h1
    obtain ⟨_,_,_,k,hk,hb⟩:=h1
    have:k = 1:=by simpa [nx,s00] using hk
    subst this
    have h2:=(bit_eu.1 hb).2
    cases h2 with
    | base _ h1 _=>rw [show ((1:Int).toNat) = 1 from rfl,bit_and,hy1] at h1; cases h1
    | step _ _ h1 _ _ _=>rw [show ((1:Int).toNat) = 1 from rfl,hy1] at h1; cases h1
  have hn:∀ i,¬ bit y i = true:=bit2 hy0 (by rw [hy1]; decide) fun i hi=>by
    rw [bit_ge (by rw [hl]; exact hi)]
    decide
  exact absurd hi (hn i)
theorem atom_0:atomP ca0 s00 2 = [false,true]:=by
  have e0:isB ca0 ((0:Nat):Int) 2 = false:=by rw [isB,ca0_right,Bool.true_and]; decide
  have e1:isB ca0 ((1:Nat):Int) 2 = true:=by rw [isB,ca0_right,Bool.true_and]; decide
  show [true && isB ca0 ((0:Nat):Int) 2,true && isB ca0 ((1:Nat):Int) 2] = _
  rw [e0,e1]; rfl
abbrev foQ (l:Int):Fo:=.mk 3 ⟨#[]⟩ l []
abbrev foOne (k:Int) (f:Fo):Fo:=.mk k ⟨#[]⟩ 0 [f]
abbrev foTwo (k:Int) (f g:Fo):Fo:=.mk k ⟨#[]⟩ 0 [f,g]
theorem semC_0 (f:Fo):semC ca0 f = f.sem s00 [true,true] (atomP ca0 s00):=by
  rw [semC,s00_of]
  show f.sem s00 (egP s00 [true,true]) _ = _
  rw [eg_tt]
theorem sem_q:semC ca0 (foQ 2) = [false,true]:=by rw [semC_0,sem_atom,atom_0]
theorem sem_exq:semC ca0 (foOne 9 (foQ 2)) = [true,false]:=by
  rw [semC_0,sem_one (by decide),sem_atom,atom_0]
  show exP s00 (andP [false,true] [true,true]) = _
  decide
theorem sem_agaf:semC ca0 (foOne 14 (foOne 12 (foQ 2))) = [true,true]:=by
  rw [semC_0,sem_one (by decide),sem_one (by decide),sem_atom,atom_0]
  show notP s00 (untilP s00 [true,true] [true,true] (notP s00 (notP s00 (egP s00 (notP s00 [false,true]))))) = _
  rw [show notP s00 [false,true] = [true,false] from by decide,eg_tf,show notP s00 [false,false] = [true,true] from by decide,show notP s00 [true,true] = [false,false] from by decide,untilP]
  rw [show andP [false,false] [true,true] = [false,false] from by decide,eu_ff]
  decide
theorem told_0 {f:Fo} (h:f.mayB 60 = true) (hl:f.litsB ca0.gr = true):toldB ca0 f = (semC ca0 f,s00,0):=by
  have hm:mayC ca0 f = true:=by rw [mayC,ca0_right,h,hl]; rfl
  rw [toldB,if_neg (by rw [hm]; decide),if_pos (by rw [ca0_sp]),s00_of]
theorem may_q:(foQ 2).mayB 60 = true ∧ (foQ 2).litsB ca0.gr = true:=by decide
theorem may_exq:(foOne 9 (foQ 2)).mayB 60 = true ∧ (foOne 9 (foQ 2)).litsB ca0.gr = true:=by decide
theorem may_agaf:(foOne 14 (foOne 12 (foQ 2))).mayB 60 = true ∧ (foOne 14 (foOne 12 (foQ 2))).litsB ca0.gr = true:=by decide
theorem ver_agaf:verdictB ca0 (foOne 14 (foOne 12 (foQ 2))) = (⟨true,1,-1⟩,0):=by
  rw [verdictB,told_0 may_agaf.1 may_agaf.2,sem_agaf]; rfl
theorem ver_q:verdictB ca0 (foQ 2) = (⟨false,1,0⟩,0):=by
  rw [verdictB,told_0 may_q.1 may_q.2,sem_q]; rfl
theorem tru_exq:truthB ca0 (foOne 9 (foQ 2)) = ([true,false],0):=by
  rw [told_truth,told_0 may_exq.1 may_exq.2,sem_exq]
theorem tru_4:truthB ca0 (foQ 4) = ([],1):=by
  have hm:mayC ca0 (foQ 4) = false:=by
    rw [mayC,show (foQ 4).litsB ca0.gr = false from by decide,Bool.and_false,Bool.and_false]
  rw [truthB,if_pos hm]
theorem bslA42 {e:Nat} {z1 z2 z3 z4:AV} {r r2:List AV} {S:Store} {K:AV → Store → Prop} (hr:r.length = 4) (hr2:r2.length = 4) (k:K (.l [r,r2]) S):bslN e 4 2 [z1,z2,z3,z4] [(0,.a r),(1,.a r2)] S K:=by
  match r,hr,r2,hr2 with
  | [u,v,w,x],_,[u2,v2,w2,x2],_ =>
    refine ⟨[u,v,w,x,u2,v2,w2,x2],?_,.inr ?_⟩
    · simp [fillA,cellsOf,spl,List.range_succ]
    · simpa [chunks,List.range_succ] using k
theorem Fo.tr (f:Fo):Tree f.av:=Tree.a fun u hu=>Fo.tree f u hu
theorem ans33 (k:Int) (f:Fo):Ans Tryz.prog 33 [aI k,f.av] (foOne k f).av:=by
  intro S
  refine ACalls.tree (calls33 ?_)
  unfold m33
  refine boxA_of (Fo.row_len f) fun S1 k1 n1 o1=>?_
  refine boxA_of rfl fun S2 k2 n2 o2=>?_
  rw [ldN_p (n:=4) ((k2.2 _ (by omega)).trans o1) (Fo.row_len f)]
  refine bslA4 (Fo.row_len f) ?_
  rw [bld_of (cs:=(foOne k f).row) (by rw [Fo.row_mk]; rfl)]
  refine stA_of o2 (Fo.row_len _) rfl fun S3 n3 o3 f3=>?_
  rw [ldN_p (n:=4) o3 (Fo.row_len _)]
  exact ⟨_,rfl,(k1.trans k2).st (by omega) n3 f3,Fo.tr _ _ _⟩
theorem ans37 (k:Int) (f g:Fo):Ans Tryz.prog 37 [aI k,f.av,g.av] (foTwo k f g).av:=by
  intro S
  refine ACalls.tree (calls37 ?_)
  unfold m37
  refine boxA_of (Fo.row_len f) fun S1 k1 n1 o1=>?_
  refine boxA_of (Fo.row_len g) fun S2 k2 n2 o2=>?_
  refine boxA_of rfl fun S3 k3 n3 o3=>?_
  have kk:=(k1.trans k2).trans k3
  rw [ldN_p (n:=4) ((k3.2 _ (by omega)).trans ((k2.2 _ (by omega)).trans o1)) (Fo.row_len f),ldN_p (n:=4) ((k3.2 _ (by omega)).trans o2) (Fo.row_len g)]
  refine bslA42 (Fo.row_len f) (Fo.row_len g) ?_
  rw [bld_of (cs:=(foTwo k f g).row) (by rw [Fo.row_mk]; rfl)]
  refine stA_of o3 (Fo.row_len _) rfl fun S4 n4 o4 f4=>?_
  rw [ldN_p (n:=4) o4 (Fo.row_len _)]
  exact ⟨_,rfl,kk.st (by omega) n4 f4,Fo.tr _ _ _⟩
structure ResV (v:Int) (f:Fo):Prop where
  ok:f.ok
  may:f.mayB 7 = true
  lits:∀ g:Gr,(∀ l:Int,0 ≤ l → l < 2 * v → g.lit l = true) → f.litsB g = true
theorem res16 {l:List Int} (hl:∀ x ∈ l,0 ≤ x ∧ x < 256) {v:Int} (hv:1 ≤ v) (hv2:v ≤ 1000000) {S:Store}:ACalls Tryz.prog 16 [aL aU8 l,aI (2 * v)] S (fun e S'=>∃ tr,e = .ret tr ∧ S' = S ∧ ∃ f:Fo,tr = f.av ∧ ResV v f):=by
  refine ACalls.treeE (calls16 ?_)
  unfold m16
  refine boxA_of rfl fun S1 k1 n1 o1=>?_
  refine .inl ((made34 hl).mono ?_)
  rintro e S' ⟨tr,rfl,rfl,f,rfl,hf⟩
  show callF _ _ _ _ _ _
  refine callF_ans (ans42 (m:=2 * v) ⟨by omega,by omega⟩ f 6 hf) ?_
  refine stA_of o1 (Fo.row_len _) rfl fun S3 n3 o3 f3=>?_
  rw [ldN_p (n:=4) o3 (Fo.row_len _)]
  obtain ⟨h1,h2,h3⟩:=litsF_ok (m:=2 * v) (by omega) f 6 hf
  exact ⟨_,_,rfl,k1.st (Nat.le_refl _) n3 f3,Fo.tr _ _ _,_,rfl,h1,h2,fun g hg=>h3 g fun l h0 hlt=>hg l h0 (by omega)⟩
theorem made_lit {c:Ci} (h:MadeC c):1 ≤ c.gr.vars ∧ c.gr.vars ≤ 100 ∧ ∀ l:Int,0 ≤ l → l < 2 * c.gr.vars → c.gr.lit l = true:=by
  obtain ⟨g1,g2,g3⟩:=gr_inp h.right
  have h1:=h.inp
  have h2:=h.lats
  have h3:=h.ands
  have hv:c.gr.vars = c.inputs + c.latches.length + 1 + c.ands.length:=by
    unfold Gr.vars
    rw [g1]
    show _ + 1 + (c.ands.length:Int) = _
    rfl
  refine ⟨by omega,by omega,fun l h0 hl=>lit_iff.2 ⟨g2,by omega,h0,by omega⟩⟩
theorem of23 {l m:List Int} (hl:∀ x ∈ l,0 ≤ x ∧ x < 65536) (hm:∀ x ∈ m,0 ≤ x ∧ x < 256) {S:Store}:ACalls Tryz.prog 23 [aL aW16 l,aL aU8 m] S (fun e S'=>∃ tr,e = .ret tr ∧ S' = S ∧ ∃ (c:Ci) (f:Fo),tr = .t [c.av,f.av] ∧ MadeC c ∧ c.gr.vars = varsL l ∧ ResV c.gr.vars f):=by
  refine ACalls.treeE (calls23 ?_)
  unfold m23
  refine boxA_of rfl fun S1 k1 n1 o1=>?_
  refine boxA_of rfl fun S2 k2 n2 o2=>?_
  have p2:=(k2.2 _ (by omega)).trans o1
  refine .inl ((made248 hl).mono ?_)
  rintro e S' ⟨tr,rfl,rfl,c,rfl,hc,hcv⟩
  show boxN _ _ _ _ _
  refine boxA_of rfl fun S3 k3 n3 o3=>?_
  refine stA_of (cs':=c.cells) o3 rfl rfl fun S4 n4 o4 f4=>?_
  have k4:=k3.st (Nat.le_refl _) n4 f4
  obtain ⟨v1,v2,v3⟩:=made_lit hc
  obtain ⟨g1,g2,g3⟩:=gr_inp hc.right
  have hi:=hc.inp
  have hla:=hc.lats
  refine L_ldN (n:=8) o4 (by omega) rfl ?_
  refine L_ldN (n:=8) o4 (by omega) rfl ?_
  refine L_callA (ans41 c) ?_
  refine L_callA (ans40 hc.ok.gr (by omega) (by omega)) ?_
  refine ⟨aI (2 * c.gr.vars),fun T hT=>by rw [bin_mul (by omega) (by omega)]; exact ⟨rfl,rfl⟩,?_⟩
  refine .inl ((res16 hm (v:=c.gr.vars) v1 (by omega)).mono ?_)
  rintro e S' ⟨tr,rfl,rfl,f,rfl,hf⟩
  refine ⟨fun T hT=>by rw [ldN_p (n:=8) ((hT.2 _ (by omega)).trans o4) rfl]; exact ⟨rfl,rfl⟩,?_⟩
  refine stA_of ((k4.2 _ (by omega)).trans p2) rfl rfl fun S5 n5 o5 f5=>?_
  refine stA_of ((f5 _ (by omega)).trans ((k4.2 _ (by omega)).trans o2)) (Fo.row_len _) rfl fun S6 n6 o6 f6=>?_
  rw [ldN_p (n:=8) ((f6 _ (by omega)).trans o5) rfl,ldN_p (n:=4) o6 (Fo.row_len _)]
  refine ⟨_,.t [c.av,f.av],rfl,(((k1.trans k2).trans k4).st (id:=S.n) (by omega) n5 f5).st (id:=S1.n) (by omega) n6 f6,cv_t2 ?_ (Fo.tr _ _ _),c,f,rfl,hc,hcv,hf⟩
  exact Tree.a (fun u hu=>by
    simp only [Ci.cells,List.mem_cons,List.not_mem_nil,or_false] at hu
    rcases hu with rfl | rfl | rfl | rfl | rfl | rfl | rfl | rfl
    · exact Tree.v _
    · exact treeP _
    · exact treeP _
    · exact treeI _
    · exact treeI _
    · exact treeI _
    · exact treeI _
    · exact treeN _) _ _
theorem eqS_ve (v w:Ve) {S:Store} {K:AV → Store → Prop}:eqS [2,1,1] .eql v.av w.av S K = K (aB ((v.holds == w.holds) && ((v.initial == w.initial) && ((v.broken == w.broken) && true)))) S:=by simp [eqS,eqA,eqV,Ve.av,Ve.cells]
theorem eqS_vv (v:Ve) {S:Store} {K:AV → Store → Prop}:eqS [2,1,1] .eql v.av v.av S K = K (aB true) S:=by rw [eqS_ve]; simp
theorem truthB_len (c:Ci) (f:Fo):(truthB c f).1.length ≤ 1024:=by
  rw [told_truth]
  by_cases h:(toldB c f).2.2 = 0
  · obtain ⟨_,h1,h2,h3⟩:=told_fit h
    rw [h1]
    have:=h2.small.h1
    have:=h3.len
    simp only; omega
  · unfold toldB at h ⊢
    split
    · simp
    · rename_i h1
      rw [if_neg h1] at h
      split
      · rename_i h2; rw [if_pos h2] at h; exact absurd rfl h
      · simp
theorem ans32 {c:Ci} (hc:c.ok) {f:Fo} (hf:f.ok):Ans Tryz.prog 32 [c.av,f.av] (aB true):=by
  intro S
  refine ACalls.ans_v (calls32 ?_)
  unfold m32
  refine boxA_of rfl fun S1 k1 n1 o1=>?_
  refine boxA_of (Fo.row_len f) fun S2 k2 n2 o2=>?_
  have p2:=(k2.2 _ (by omega)).trans o1
  have kk:=k1.trans k2
  rw [ldN_p (n:=8) p2 rfl,ldN_p (n:=4) o2 (Fo.row_len f)]
  refine callF_ans (ans36 hc hf) ?_
  rw [extr0,extr1]
  rw [ldN_p (n:=8) p2 rfl,ldN_p (n:=4) o2 (Fo.row_len f)]
  refine callF_ans (ans28 hc hf) ?_
  rw [extr0,extr1]
  rw [ldN_p (n:=8) p2 rfl,ldN_p (n:=4) o2 (Fo.row_len f)]
  refine callF_ans (ans60 hc hf) ?_
  rw [extr0,extr1]
  refine boxA_of rfl fun S3 k3 n3 o3=>?_
  refine stA_of (cs':=(verdictB c f).1.cells) o3 rfl rfl fun S4 n4 o4 f4=>?_
  have k4:=k3.st (Nat.le_refl _) n4 f4
  rw [ldN_p (n:=8) ((k4.2 _ (by omega)).trans p2) rfl,ldN_p (n:=4) ((k4.2 _ (by omega)).trans o2) (Fo.row_len f)]
  refine callF_ans (ans61 hc hf) ?_
  rw [extr0,extr1]
  refine boxA_of rfl fun S5 k5 n5 o5=>?_
  refine stA_of (cs':=(verdictB c f).1.cells) o5 rfl rfl fun S6 n6 o6 f6=>?_
  have k6:=k5.st (Nat.le_refl _) n6 f6
  have ka:=(kk.trans k4).trans k6
  have hlen:=truthB_len c f
  refine callF_ans (ans29 (a:=(truthB c f).1) (b:=(truthB c f).1) (by omega)) ?_
  rw [onB_v,decide_eq_true rfl,gd_T rfl,bin_eql,onB_v,gd_T (decide_eq_true rfl)]
  rw [ldN_p (n:=3) ((k6.2 _ (by omega)).trans o4) rfl,ldN_p (n:=3) o6 rfl]
  show eqS _ _ (verdictB c f).1.av (verdictB c f).1.av _ _
  rw [eqS_vv,onB_v,gd_T rfl,bin_eql,decide_eq_true rfl]
  exact ⟨rfl,ka⟩
theorem cv_foq {S:Store} {n:Nat} (k l:Int):Cv S n (.a [aI k,.v (.string ⟨#[]⟩),aI l,.nl]) (Fo.mk k ⟨#[]⟩ l []).av:=by
  rw [Fo.av,Fo.row_mk]
  refine .a _ _ rfl fun k u u2 e1 e2=>?_
  match k with
  | 0=>cases e1; cases e2; exact .v _
  | 1=>cases e1; cases e2; exact .v _
  | 2=>cases e1; cases e2; exact .v _
  | 3=>cases e1; cases e2; exact .nl
  | k + 4=>simp at e1
theorem cv_2 {S:Store} {n:Nat} {x x' y y':AV} (h:Cv S n x x') (k:Cv S n y y'):∀ (i:Nat) (u u2:AV),[x,y][i]? = some u → [x',y'][i]? = some u2 → Cv S n u u2
  | 0,_,_,h1,h2=>by cases h1; cases h2; exact h
  | 1,_,_,h1,h2=>by cases h1; cases h2; exact k
  | i + 2,_,_,h1,_=>by simp at h1
theorem cv_3 {S:Store} {n:Nat} {x x' y y' z z':AV} (h:Cv S n x x') (k:Cv S n y y') (q:Cv S n z z'):∀ (i:Nat) (u u2:AV),[x,y,z][i]? = some u → [x',y',z'][i]? = some u2 → Cv S n u u2
  | 0,_,_,h1,h2=>by cases h1; cases h2; exact h
  | 1,_,_,h1,h2=>by cases h1; cases h2; exact k
  | 2,_,_,h1,h2=>by cases h1; cases h2; exact q
  | i + 3,_,_,h1,_=>by simp at h1
theorem ans31:Ans Tryz.prog 31 [] (aB true):=by
  intro S
  refine ACalls.ans_v (calls31 ?_)
  unfold m31
  have okq:∀ l:Int,i64R l → (foQ l).ok:=fun l hl=>.mk _ _ _ _ ⟨by decide,by decide⟩ hl (by decide) (by decide) fun f hf=>by cases hf
  have ok1:∀ (k:Int) (f:Fo),i64R k → f.ok → (foOne k f).ok:=fun k f hk hf=>.mk _ _ _ _ hk ⟨by decide,by decide⟩ (by decide) (by simp) fun g hg=>by
    have:g = f:=by simpa using hg
    subst this; exact hf
  have h1:=ans60 ca0_ok (ok1 14 _ ⟨by decide,by decide⟩ (ok1 12 _ ⟨by decide,by decide⟩ (okq 2 ⟨by decide,by decide⟩)))
  have h2:=ans60 ca0_ok (okq 2 ⟨by decide,by decide⟩)
  have h3:=ans36 ca0_ok (ok1 9 _ ⟨by decide,by decide⟩ (okq 2 ⟨by decide,by decide⟩))
  have h4:=ans36 ca0_ok (okq 4 ⟨by decide,by decide⟩)
  rw [ver_agaf] at h1
  rw [ver_q] at h2
  rw [tru_exq] at h3
  rw [tru_4] at h4
  have hci:∀ (T:Store) (n:Nat),Cv T n (.a [aI 0,.l [[aI 3,aI 0]],.nl,.nl,.nl,.nl,.nl,.nl]) ca0.av:=fun T n=>cv_ci (.v _) (treeP [(3,0)] _ _)
  rw [bld_of (cs:=[aI 3,aI 0]) rfl]
  refine bslP ?_
  rw [bld_of (cs:=[aI 0,.l [[aI 3,aI 0]],.nl,.nl,.nl,.nl,.nl,.nl]) rfl]
  refine boxA_of rfl fun S1 k1 n1 o1=>?_
  refine stA_of (cs':=[aI 0,.l [[aI 3,aI 0]],.nl,.nl,.nl,.nl,.nl,.nl]) o1 rfl rfl fun S2 n2 o2 f2=>?_
  have k2:=k1.st (Nat.le_refl _) n2 f2
  rw [bld_of (cs:=[aI 3,.v (.string ⟨#[]⟩),aI 2,.nl]) rfl]
  refine boxA_of rfl fun S3 k3 n3 o3=>?_
  refine stA_of (cs':=[aI 3,.v (.string ⟨#[]⟩),aI 2,.nl]) o3 rfl rfl fun S4 n4 o4 f4=>?_
  have k4:=k3.st (Nat.le_refl _) n4 f4
  have p4:=(k4.2 _ (by omega)).trans o2
  refine L_ldN (n:=8) p4 (by omega) rfl ?_
  refine L_ldN (n:=4) o4 (by omega) rfl ?_
  refine ⟨_,fun T hT=>callF_cv' (args:=[aI 12,.a [aI 3,.v (.string ⟨#[]⟩),aI 2,.nl]]) (ans33 12 (foQ 2)) rfl (cv_2 (.v _) (cv_foq 3 2)) ⟨rfl,rfl⟩,?_⟩
  refine L_callA (ans33 14 (foOne 12 (foQ 2))) ?_
  refine ⟨_,fun T hT=>callF_cv' (args:=[.a [aI 0,.l [[aI 3,aI 0]],.nl,.nl,.nl,.nl,.nl,.nl],(foOne 14 (foOne 12 (foQ 2))).av]) h1 rfl (cv_2 (hci _ _) (Fo.tr _ _ _)) ⟨rfl,rfl⟩,?_⟩
  refine ⟨_,fun T hT=>by rw [extr0]; exact ⟨rfl,rfl⟩,?_⟩
  refine ⟨_,fun T hT=>by rw [extr1]; exact ⟨rfl,rfl⟩,?_⟩
  refine boxA_of rfl fun S5 k5 n5 o5=>?_
  refine ⟨fun T hT=>by rw [extr1]; exact ⟨rfl,rfl⟩,?_⟩
  refine stA_of (cs':=(⟨true,1,-1⟩:Ve).cells) o5 rfl rfl fun S6 n6 o6 f6=>?_
  have k6:=k5.st (Nat.le_refl _) n6 f6
  refine ⟨fun T hT=>by rw [extr1]; exact ⟨rfl,rfl⟩,?_⟩
  have p6:=(k6.2 _ (by omega)).trans p4
  have q6:=(k6.2 _ (by omega)).trans o4
  rw [ldN_p (n:=8) p6 rfl,ldN_p (n:=4) q6 rfl]
  refine callF_cv' (args:=[.a [aI 0,.l [[aI 3,aI 0]],.nl,.nl,.nl,.nl,.nl,.nl],.a [aI 3,.v (.string ⟨#[]⟩),aI 2,.nl]]) h2 rfl (cv_2 (hci _ _) (cv_foq 3 2)) ?_
  rw [extr0,extr1]
  refine boxA_of rfl fun S7 k7 n7 o7=>?_
  refine stA_of (cs':=(⟨false,1,0⟩:Ve).cells) o7 rfl rfl fun S8 n8 o8 f8=>?_
  have k8:=k7.st (Nat.le_refl _) n8 f8
  have p8:=(k8.2 _ (by omega)).trans p6
  have q8:=(k8.2 _ (by omega)).trans q6
  have v8:=(k8.2 _ (by omega)).trans o6
  have kk:=((k2.trans k4).trans k6).trans k8
  refine ⟨_,by rw [ldN_p (n:=8) p8 rfl]; exact ⟨rfl,rfl⟩,?_⟩
  refine ⟨_,by rw [ldN_p (n:=4) q8 rfl]; exact ⟨rfl,rfl⟩,?_⟩
  refine ⟨_,callF_cv' (args:=[aI 9,.a [aI 3,.v (.string ⟨#[]⟩),aI 2,.nl]]) (ans33 9 (foQ 2)) rfl (cv_2 (.v _) (cv_foq 3 2)) ⟨rfl,rfl⟩,?_⟩
  refine ⟨_,callF_cv' (args:=[.a [aI 0,.l [[aI 3,aI 0]],.nl,.nl,.nl,.nl,.nl,.nl],(foOne 9 (foQ 2)).av]) h3 rfl (cv_2 (hci _ _) (Fo.tr _ _ _)) ⟨rfl,rfl⟩,?_⟩
  refine ⟨_,by rw [extr0]; exact ⟨rfl,rfl⟩,?_⟩
  refine ⟨_,by rw [extr1]; exact ⟨rfl,rfl⟩,?_⟩
  show ldN _ _ _ _
  rw [ldN_p (n:=8) p8 rfl,bld_of (cs:=[aI 3,.v (.string ⟨#[]⟩),aI 4,.nl]) rfl]
  refine callF_cv' (args:=[.a [aI 0,.l [[aI 3,aI 0]],.nl,.nl,.nl,.nl,.nl,.nl],.a [aI 3,.v (.string ⟨#[]⟩),aI 4,.nl]]) h4 rfl (cv_2 (hci _ _) (cv_foq 3 4)) ?_
  rw [extr0,extr1,bin_eql,onB_v,gd_T (decide_eq_true rfl),ldN_p (n:=3) v8 rfl,bld_of (cs:=(⟨true,1,-1⟩:Ve).cells) rfl]
  show eqS _ _ (⟨true,1,-1⟩:Ve).av (⟨true,1,-1⟩:Ve).av _ _
  rw [eqS_vv,onB_v,gd_T rfl,bin_eql,onB_v,gd_T (decide_eq_true rfl),ldN_p (n:=3) o8 rfl,bld_of (cs:=(⟨false,1,0⟩:Ve).cells) rfl]
  show eqS _ _ (⟨false,1,0⟩:Ve).av (⟨false,1,0⟩:Ve).av _ _
  rw [eqS_vv,onB_v,gd_T rfl,bin_eql,onB_v,gd_T (decide_eq_true rfl)]
  refine bsl2 rfl rfl ?_
  refine callF_ans (ans29 (a:=[true,false]) (b:=[true,false]) (by decide)) ?_
  rw [onB_v,gd_T (decide_eq_true rfl),bin_eql,decide_eq_true rfl]
  exact ⟨rfl,kk⟩
theorem law9 {l m:List Int} (hl:∀ x ∈ l,0 ≤ x ∧ x < 65536) (hm:∀ x ∈ m,0 ≤ x ∧ x < 256):Ans Tryz.prog 9 [aL aW16 l,aL aU8 m] (aB true):=by
  intro S
  refine ACalls.ans_v (calls9 ?_)
  unfold m9
  refine .inl ((of23 hl hm).mono ?_)
  rintro e S' ⟨tr,rfl,rfl,c,f,rfl,hc,hv,hf⟩
  show extr _ _ _ _
  rw [extr0,extr1]
  refine boxA_of rfl fun S1 k1 n1 o1=>?_
  refine boxA_of rfl fun S2 k2 n2 o2=>?_
  refine stA_of (cs':=c.cells) ((k2.2 _ (by omega)).trans o1) rfl rfl fun S3 n3 o3 f3=>?_
  refine stA_of ((f3 _ (by omega)).trans o2) (Fo.row_len f) rfl fun S4 n4 o4 f4=>?_
  refine callF_ans ans31 ?_
  rw [onB_v,gd_T rfl,ldN_p (n:=8) ((f4 _ (by omega)).trans o3) rfl,ldN_p (n:=4) o4 (Fo.row_len f)]
  refine callF_ans (ans32 hc.ok hf.ok) ?_
  exact ⟨rfl,((k1.trans k2).st (Nat.le_refl _) n3 f3).st (by omega) n4 f4⟩
section
variable {H:Type} {enc:TypeId × Value → H} {w:World} {sp:Nat → Bool} {held:Bool}
theorem opUs:Opens enc Tryz.prog w sp held 25 1 (fun l:List Int=>[aL (fun n=>AV.v (.int .u8 n)) l]) (fun l=>l.length ≤ maxLen ∧ ∀ a ∈ l,(Lit.int .u8 a).wf = true):=opens_slice Tryz.underlying25 (by kernel_rfl) (by decide) opU
end
end Go.Proofs.YtolgpokppnajdaaGreat.G
set_option linter.unusedVariables false
set_option linter.unusedSimpArgs false
namespace Go.Proofs.YtolgpokppnajdaaGreat.G
open Go Go.Ab
set_option maxRecDepth 100000
noncomputable def c14:Code:=(Tryz.f14.body).getD .skip
def ms14:List (List Nat):=[[]]
def m14 (x0 x1 x2 x3:AV) (S:Store) (Q:PoT):Prop :=
  callF Tryz.prog 23 [x0,.nl] S Q fun v1 S=>extr v1 0 S fun v2 S=>extr v1 1 S fun v3 S=>boxN 42 8 (.a [(.v (.int .i64 0)),.nl,.nl,.nl,.nl,.nl,.nl,.nl]) S fun v4 S=>boxN 24 4 (.a [(.v (.int .i64 0)),(.v (.string ByteArray.empty)),(.v (.int .i64 0)),.nl]) S fun v5 S=>stN 8 v4 v2 S fun v6 S=>stN 4 v5 v3 S fun v7 S=>ldN 8 v4 S fun v8 S=>callF Tryz.prog 41 [v8] S Q fun v9 S=>callF Tryz.prog 40 [v9] S Q fun v10 S=>bin .mul 0 (.v (.int .i64 2)) v10 S fun v11 S=>∃ q12:AV,(∀ T:Store,Keep S T → convI .i64 x2 T fun v13 S=>v13 = q12 ∧ S = T) ∧ ∃ q14:AV,(∀ T:Store,Keep S T → bin .rem 0 q12 v11 T fun v15 S=>v15 = q14 ∧ S = T) ∧ ∃ q16:AV,(∀ T:Store,Keep S T → bld [(0,1),(1,1),(2,1),(3,1)] [(.v (.int .i64 0)),(.v (.string ByteArray.empty)),(.v (.int .i64 0)),.nl] [(0,(.v (.int .i64 3))),(2,q14)] T fun v17 S=>v17 = q16 ∧ S = T) ∧ ∃ q18:AV,(∀ T:Store,Keep S T → convI .i64 x3 T fun v19 S=>v19 = q18 ∧ S = T) ∧ ∃ q20:AV,(∀ T:Store,Keep S T → bin .rem 0 q18 v11 T fun v21 S=>v21 = q20 ∧ S = T) ∧ ∃ q22:AV,(∀ T:Store,Keep S T → bld [(0,1),(1,1),(2,1),(3,1)] [(.v (.int .i64 0)),(.v (.string ByteArray.empty)),(.v (.int .i64 0)),.nl] [(0,(.v (.int .i64 3))),(2,q20)] T fun v23 S=>v23 = q22 ∧ S = T) ∧ newsV [(.cells 24 [[(.v (.int .i64 0)),(.v (.string ByteArray.empty)),(.v (.int .i64 0)),.nl]] true),(.cells 24 [[(.v (.int .i64 0)),(.v (.string ByteArray.empty)),(.v (.int .i64 0)),.nl]] true)] S fun ids24 S=>stN 4 (.p (ids24.headD 0) 0 0) q16 S fun v25 S=>(∀ T:Store,Keep S T → bld [(0,1),(1,1),(2,1),(3,1)] [(.v (.int .i64 0)),(.v (.string ByteArray.empty)),(.v (.int .i64 0)),.nl] [(0,(.v (.int .i64 3))),(2,q20)] T fun v26 S=>v26 = q22 ∧ S = T) ∧ (∀ T:Store,Keep S T → bin .rem 0 q18 v11 T fun v27 S=>v27 = q20 ∧ S = T) ∧ (∀ T:Store,Keep S T → convI .i64 x3 T fun v28 S=>v28 = q18 ∧ S = T) ∧ stN 4 (.p (ids24.tail.headD 0) 0 0) q22 S fun v29 S=>convI .i64 x1 S fun v30 S=>bin .rem 0 v30 (.v (.int .i64 15)) S fun v31 S=>bin .add 0 (.v (.int .i64 4)) v31 S fun v32 S=>bin .geq 0 v32 (.v (.int .i64 5)) S fun v33 S=>onB v33 fun b34=>gd b34 (bin .leq 0 v32 (.v (.int .i64 8)) S fun v35 S=>onB v35 fun b36=>gd b36 ((fun S0:Store=>∃ q37:AV,(callF Tryz.prog 31 [] S (fun _ _=>False) fun v38 S=>v38 = q37 ∧ S = S0) ∧ onB q37 fun b39=>gd b39 (∃ q40:AV,(ldN 8 v4 S fun v41 S=>v41 = q40 ∧ S = S0) ∧ ∃ q42:AV,(ldN 4 (.p (ids24.headD 0) 0 0) S fun v43 S=>v43 = q42 ∧ S = S0) ∧ ∃ q44:AV,(ldN 4 (.p (ids24.tail.headD 0) 0 0) S fun v45 S=>v45 = q44 ∧ S = S0) ∧ ∃ q46:AV,(callF Tryz.prog 37 [v32,q42,q44] S (fun _ _=>False) fun v47 S=>v47 = q46 ∧ S = S0) ∧ ∃ q48:AV,(callF Tryz.prog 32 [q40,q46] S (fun _ _=>False) fun v49 S=>v49 = q48 ∧ S = S0) ∧ ∃ q50:AV,(q48 = q50 ∧ S = S0) ∧ Q (.ret q50) S) (∃ q51:AV,((.v (.bool false)) = q51 ∧ S = S0) ∧ Q (.ret q51) S)) S) (bin .geq 0 v32 (.v (.int .i64 15)) S fun v52 S=>onB v52 fun b53=>gd b53 ((fun S0:Store=>∃ q54:AV,(callF Tryz.prog 31 [] S (fun _ _=>False) fun v55 S=>v55 = q54 ∧ S = S0) ∧ onB q54 fun b56=>gd b56 (∃ q57:AV,(ldN 8 v4 S fun v58 S=>v58 = q57 ∧ S = S0) ∧ ∃ q59:AV,(ldN 4 (.p (ids24.headD 0) 0 0) S fun v60 S=>v60 = q59 ∧ S = S0) ∧ ∃ q61:AV,(ldN 4 (.p (ids24.tail.headD 0) 0 0) S fun v62 S=>v62 = q61 ∧ S = S0) ∧ ∃ q63:AV,(callF Tryz.prog 37 [v32,q59,q61] S (fun _ _=>False) fun v64 S=>v64 = q63 ∧ S = S0) ∧ ∃ q65:AV,(callF Tryz.prog 32 [q57,q63] S (fun _ _=>False) fun v66 S=>v66 = q65 ∧ S = S0) ∧ ∃ q67:AV,(q65 = q67 ∧ S = S0) ∧ Q (.ret q67) S) (∃ q68:AV,((.v (.bool false)) = q68 ∧ S = S0) ∧ Q (.ret q68) S)) S) ((fun S0:Store=>∃ q69:AV,(callF Tryz.prog 31 [] S (fun _ _=>False) fun v70 S=>v70 = q69 ∧ S = S0) ∧ onB q69 fun b71=>gd b71 (∃ q72:AV,(ldN 8 v4 S fun v73 S=>v73 = q72 ∧ S = S0) ∧ ∃ q74:AV,(ldN 4 (.p (ids24.headD 0) 0 0) S fun v75 S=>v75 = q74 ∧ S = S0) ∧ ∃ q76:AV,(callF Tryz.prog 33 [v32,q74] S (fun _ _=>False) fun v77 S=>v77 = q76 ∧ S = S0) ∧ ∃ q78:AV,(callF Tryz.prog 32 [q72,q76] S (fun _ _=>False) fun v79 S=>v79 = q78 ∧ S = S0) ∧ ∃ q80:AV,(q78 = q80 ∧ S = S0) ∧ Q (.ret q80) S) (∃ q81:AV,((.v (.bool false)) = q81 ∧ S = S0) ∧ Q (.ret q81) S)) S))) (bin .geq 0 v32 (.v (.int .i64 15)) S fun v82 S=>onB v82 fun b83=>gd b83 ((fun S0:Store=>∃ q84:AV,(callF Tryz.prog 31 [] S (fun _ _=>False) fun v85 S=>v85 = q84 ∧ S = S0) ∧ onB q84 fun b86=>gd b86 (∃ q87:AV,(ldN 8 v4 S fun v88 S=>v88 = q87 ∧ S = S0) ∧ ∃ q89:AV,(ldN 4 (.p (ids24.headD 0) 0 0) S fun v90 S=>v90 = q89 ∧ S = S0) ∧ ∃ q91:AV,(ldN 4 (.p (ids24.tail.headD 0) 0 0) S fun v92 S=>v92 = q91 ∧ S = S0) ∧ ∃ q93:AV,(callF Tryz.prog 37 [v32,q89,q91] S (fun _ _=>False) fun v94 S=>v94 = q93 ∧ S = S0) ∧ ∃ q95:AV,(callF Tryz.prog 32 [q87,q93] S (fun _ _=>False) fun v96 S=>v96 = q95 ∧ S = S0) ∧ ∃ q97:AV,(q95 = q97 ∧ S = S0) ∧ Q (.ret q97) S) (∃ q98:AV,((.v (.bool false)) = q98 ∧ S = S0) ∧ Q (.ret q98) S)) S) ((fun S0:Store=>∃ q99:AV,(callF Tryz.prog 31 [] S (fun _ _=>False) fun v100 S=>v100 = q99 ∧ S = S0) ∧ onB q99 fun b101=>gd b101 (∃ q102:AV,(ldN 8 v4 S fun v103 S=>v103 = q102 ∧ S = S0) ∧ ∃ q104:AV,(ldN 4 (.p (ids24.headD 0) 0 0) S fun v105 S=>v105 = q104 ∧ S = S0) ∧ ∃ q106:AV,(callF Tryz.prog 33 [v32,q104] S (fun _ _=>False) fun v107 S=>v107 = q106 ∧ S = S0) ∧ ∃ q108:AV,(callF Tryz.prog 32 [q102,q106] S (fun _ _=>False) fun v109 S=>v109 = q108 ∧ S = S0) ∧ ∃ q110:AV,(q108 = q110 ∧ S = S0) ∧ Q (.ret q110) S) (∃ q111:AV,((.v (.bool false)) = q111 ∧ S = S0) ∧ Q (.ret q111) S)) S))
theorem calls14 {x0 x1 x2 x3:AV} {S:Store} {Q:PoT} (h:m14 x0 x1 x2 x3 S Q):ACalls Tryz.prog 14 [x0,x1,x2,x3] S Q :=
  calls_of_vc (fn:=Tryz.f14) (c:=c14) (n:=65) Tryz.func14 (by kernel_rfl) (by kernel_rfl) (by kernel_rfl) ms14 (Eq.mpr (by kernel_rfl) h)
end Go.Proofs.YtolgpokppnajdaaGreat.G
set_option linter.unusedVariables false
set_option linter.unusedSimpArgs false
namespace Go.Proofs.YtolgpokppnajdaaGreat.G
open Go Go.Ab
theorem news2 {a b:AObj} {S:Store} {K:List Nat → Store → Prop} (h:∀ i j S',Keep S S' → S.n ≤ i → i < S'.n → S.n ≤ j → j < S'.n → i ≠ j → S'.obj i = some a → S'.obj j = some b → K [i,j] S'):newsV [a,b] S K:=by
  intro ids S' hn
  match ids,hn.len with
  | [i,j],_ =>
    have hd:=hn.nodup
    simp only [List.nodup_cons,List.mem_singleton] at hd
    exact h i j S' hn.keep (hn.lo i (by simp)) (hn.hi i (by simp)) (hn.lo j (by simp)) (hn.hi j (by simp)) hd.1 (hn.new 0 i a rfl rfl) (hn.new 1 j b rfl rfl)
theorem law14 {l:List Int} (hl:∀ x ∈ l,0 ≤ x ∧ x < 65536) {kd a b:Int} (hk:0 ≤ kd ∧ kd < 256) (ha:0 ≤ a ∧ a < 256) (hb:0 ≤ b ∧ b < 256):Ans Tryz.prog 14 [aL aW16 l,aU8 kd,aU8 a,aU8 b] (aB true):=by
  intro S
  refine ACalls.ans_v (calls14 ?_)
  unfold m14
  refine .inl (ACalls.conv (args2:=[aL aW16 l,aL aU8 []]) rfl (cv_2 (Tree.aL (fun _ _=>Tree.v _) _ _) .nl) ((of23 hl (fun x hx=>by cases hx)).mono ?_))
  rintro e S' ⟨tr,rfl,rfl,c,f,rfl,hc,hv,hf⟩
  show extr _ _ _ _
  rw [extr0,extr1]
  refine boxA_of rfl fun S1 k1 n1 o1=>?_
  refine boxA_of rfl fun S2 k2 n2 o2=>?_
  refine stA_of (cs':=c.cells) ((k2.2 _ (by omega)).trans o1) rfl rfl fun S3 n3 o3 f3=>?_
  refine stA_of ((f3 _ (by omega)).trans o2) (Fo.row_len f) rfl fun S4 n4 o4 f4=>?_
  have kk:=((k1.trans k2).st (Nat.le_refl _) n3 f3).st (by omega) n4 f4
  have p4:=(f4 _ (by omega)).trans o3
  obtain ⟨v1,v2,v3⟩:=made_lit hc
  obtain ⟨g1,g2,g3⟩:=gr_inp hc.right
  have hi:=hc.inp
  have hla:=hc.lats
  rw [ldN_p (n:=8) p4 rfl]
  refine callF_ans (ans41 c) ?_
  refine callF_ans (ans40 hc.ok.gr (by omega) (by omega)) ?_
  rw [bin_mul (by omega) (by omega)]
  have hmod:∀ x:Int,0 ≤ x ∧ x < 256 → i64R (x.tmod (2 * c.gr.vars)):=fun x hx=>by
    rw [Int.tmod_eq_emod_of_nonneg hx.1]
    have h1:=Int.emod_nonneg x (show 2 * c.gr.vars ≠ 0 by omega)
    have h2:=Int.emod_lt_of_pos x (show 0 < 2 * c.gr.vars by omega)
    exact ⟨by omega,by omega⟩
  have hma:=hmod a ha
  have hmb:=hmod b hb
  refine ⟨aI a,fun T hT=>by rw [convI_64 _ (by omega) (by omega)]; exact ⟨rfl,rfl⟩,?_⟩
  refine ⟨_,fun T hT=>by rw [bin_rem (by omega)]; exact ⟨rfl,rfl⟩,?_⟩
  refine ⟨_,fun T hT=>by rw [bld_of (cs:=[aI 3,.v (.string ⟨#[]⟩),aI (a.tmod (2 * c.gr.vars)),.nl]) rfl]; exact ⟨rfl,rfl⟩,?_⟩
  refine ⟨aI b,fun T hT=>by rw [convI_64 _ (by omega) (by omega)]; exact ⟨rfl,rfl⟩,?_⟩
  refine ⟨_,fun T hT=>by rw [bin_rem (by omega)]; exact ⟨rfl,rfl⟩,?_⟩
  refine ⟨_,fun T hT=>by rw [bld_of (cs:=[aI 3,.v (.string ⟨#[]⟩),aI (b.tmod (2 * c.gr.vars)),.nl]) rfl]; exact ⟨rfl,rfl⟩,?_⟩
  generalize a.tmod (2 * c.gr.vars) = la at *
  generalize hlb:b.tmod (2 * c.gr.vars) = lb at *
  refine news2 fun i j S5 k5 hi1 hi2 hj1 hj2 hij oi oj=>?_
  refine stA_of (id:=i) oi rfl rfl fun S6 n6 o6 f6=>?_
  refine ⟨fun T hT=>by rw [bld_of (cs:=[aI 3,.v (.string ⟨#[]⟩),aI lb,.nl]) rfl]; exact ⟨rfl,rfl⟩,fun T hT=>by rw [bin_rem (by omega),hlb]; exact ⟨rfl,rfl⟩,fun T hT=>by rw [convI_64 _ (by omega) (by omega)]; exact ⟨rfl,rfl⟩,?_⟩
  refine stA_of (id:=j) ((f6 _ (Ne.symm hij)).trans oj) rfl rfl fun S7 n7 o7 f7=>?_
  have o6':=(f7 _ hij).trans o6
  have k7:Keep S4 S7:=(k5.st hi1 n6 f6).st hj1 n7 f7
  have c7:=(k7.2 _ (by omega)).trans p4
  have ka:=kk.trans k7
  have okq:∀ l:Int,i64R l → (foQ l).ok:=fun l hl=>.mk _ _ _ _ ⟨by decide,by decide⟩ hl (by decide) (by decide) fun f hf=>by cases hf
  have hk2:0 ≤ kd.tmod 15 ∧ kd.tmod 15 < 15:=by
    rw [Int.tmod_eq_emod_of_nonneg hk.1]; omega
  rw [convI_64 _ (by omega) (by omega),bin_rem (by decide),bin_add (by omega) (by omega)]
  generalize kd.tmod 15 = k at *
  have one:ACalls Tryz.prog 33 [aI (4 + k),.a [aI 3,.v (.string ⟨#[]⟩),aI la,.nl]] S7 (fun e S'=>e = .ret (foOne (4 + k) (foQ la)).av ∧ S' = S7):=ACalls.conv (args2:=[aI (4 + k),(foQ la).av]) rfl (cv_2 (.v _) (cv_foq 3 la)) (ans33 (4 + k) (foQ la) S7)
  have two:ACalls Tryz.prog 37 [aI (4 + k),.a [aI 3,.v (.string ⟨#[]⟩),aI la,.nl],.a [aI 3,.v (.string ⟨#[]⟩),aI lb,.nl]] S7 (fun e S'=>e = .ret (foTwo (4 + k) (foQ la) (foQ lb)).av ∧ S' = S7):=ACalls.conv (args2:=[aI (4 + k),(foQ la).av,(foQ lb).av]) rfl (cv_3 (.v _) (cv_foq 3 la) (cv_foq 3 lb)) (ans37 (4 + k) (foQ la) (foQ lb) S7)
  have kr:i64R (4 + k):=⟨by omega,by omega⟩
  have ok1:(foOne (4 + k) (foQ la)).ok:=.mk _ _ _ _ kr ⟨by decide,by decide⟩ (by decide) (by simp) fun g hg=>by
    have:g = foQ la:=by simpa using hg
    subst this; exact okq _ hma
  have ok2:(foTwo (4 + k) (foQ la) (foQ lb)).ok:=.mk _ _ _ _ kr ⟨by decide,by decide⟩ (by decide) (by simp) fun g hg=>by
    have:g = foQ la ∨ g = foQ lb:=by simpa using hg
    rcases this with rfl | rfl
    · exact okq _ hma
    · exact okq _ hmb
  rw [bin_geq,onB_v]
  have fin1:∀ {K:AV → Store → Prop},K (aB true) S7 → True:=fun _=>trivial
  refine gd_of (fun h=>?_) (fun h=>?_)
  · rw [bin_leq,onB_v]
    refine gd_of (fun h=>?_) (fun h=>?_)
    · refine ⟨_,callF_ans ans31 ⟨rfl,rfl⟩,?_⟩
      rw [onB_v,gd_T rfl]
      refine ⟨_,by rw [ldN_p (n:=8) c7 rfl]; exact ⟨rfl,rfl⟩,?_⟩
      refine ⟨.a [aI 3,.v (.string ⟨#[]⟩),aI la,.nl],show ldN 4 (.p i 0 0) S7 (fun v S=>v = .a [aI 3,.v (.string ⟨#[]⟩),aI la,.nl] ∧ S = S7) from by rw [ldN_p (n:=4) o6' rfl]; exact ⟨rfl,rfl⟩,?_⟩
      refine ⟨.a [aI 3,.v (.string ⟨#[]⟩),aI lb,.nl],show ldN 4 (.p j 0 0) S7 (fun v S=>v = .a [aI 3,.v (.string ⟨#[]⟩),aI lb,.nl] ∧ S = S7) from by rw [ldN_p (n:=4) o7 rfl]; exact ⟨rfl,rfl⟩,?_⟩
      refine ⟨_,callF_at two ⟨rfl,rfl⟩,?_⟩
      refine ⟨_,callF_ans (ans32 hc.ok ok2) ⟨rfl,rfl⟩,?_⟩
      exact ⟨_,⟨rfl,rfl⟩,rfl,ka⟩
    · rw [bin_geq,onB_v]
      refine gd_of (fun h=>?_) (fun h=>?_)
      · refine ⟨_,callF_ans ans31 ⟨rfl,rfl⟩,?_⟩
        rw [onB_v,gd_T rfl]
        refine ⟨_,by rw [ldN_p (n:=8) c7 rfl]; exact ⟨rfl,rfl⟩,?_⟩
        refine ⟨.a [aI 3,.v (.string ⟨#[]⟩),aI la,.nl],show ldN 4 (.p i 0 0) S7 (fun v S=>v = .a [aI 3,.v (.string ⟨#[]⟩),aI la,.nl] ∧ S = S7) from by rw [ldN_p (n:=4) o6' rfl]; exact ⟨rfl,rfl⟩,?_⟩
        refine ⟨.a [aI 3,.v (.string ⟨#[]⟩),aI lb,.nl],show ldN 4 (.p j 0 0) S7 (fun v S=>v = .a [aI 3,.v (.string ⟨#[]⟩),aI lb,.nl] ∧ S = S7) from by rw [ldN_p (n:=4) o7 rfl]; exact ⟨rfl,rfl⟩,?_⟩
        refine ⟨_,callF_at two ⟨rfl,rfl⟩,?_⟩
        refine ⟨_,callF_ans (ans32 hc.ok ok2) ⟨rfl,rfl⟩,?_⟩
        exact ⟨_,⟨rfl,rfl⟩,rfl,ka⟩
      · refine ⟨_,callF_ans ans31 ⟨rfl,rfl⟩,?_⟩
        rw [onB_v,gd_T rfl]
        refine ⟨_,by rw [ldN_p (n:=8) c7 rfl]; exact ⟨rfl,rfl⟩,?_⟩
        refine ⟨.a [aI 3,.v (.string ⟨#[]⟩),aI la,.nl],show ldN 4 (.p i 0 0) S7 (fun v S=>v = .a [aI 3,.v (.string ⟨#[]⟩),aI la,.nl] ∧ S = S7) from by rw [ldN_p (n:=4) o6' rfl]; exact ⟨rfl,rfl⟩,?_⟩
        refine ⟨_,callF_at one ⟨rfl,rfl⟩,?_⟩
        refine ⟨_,callF_ans (ans32 hc.ok ok1) ⟨rfl,rfl⟩,?_⟩
        exact ⟨_,⟨rfl,rfl⟩,rfl,ka⟩
  · rw [bin_geq,onB_v]
    refine gd_of (fun h=>?_) (fun h=>?_)
    · refine ⟨_,callF_ans ans31 ⟨rfl,rfl⟩,?_⟩
      rw [onB_v,gd_T rfl]
      refine ⟨_,by rw [ldN_p (n:=8) c7 rfl]; exact ⟨rfl,rfl⟩,?_⟩
      refine ⟨.a [aI 3,.v (.string ⟨#[]⟩),aI la,.nl],show ldN 4 (.p i 0 0) S7 (fun v S=>v = .a [aI 3,.v (.string ⟨#[]⟩),aI la,.nl] ∧ S = S7) from by rw [ldN_p (n:=4) o6' rfl]; exact ⟨rfl,rfl⟩,?_⟩
      refine ⟨.a [aI 3,.v (.string ⟨#[]⟩),aI lb,.nl],show ldN 4 (.p j 0 0) S7 (fun v S=>v = .a [aI 3,.v (.string ⟨#[]⟩),aI lb,.nl] ∧ S = S7) from by rw [ldN_p (n:=4) o7 rfl]; exact ⟨rfl,rfl⟩,?_⟩
      refine ⟨_,callF_at two ⟨rfl,rfl⟩,?_⟩
      refine ⟨_,callF_ans (ans32 hc.ok ok2) ⟨rfl,rfl⟩,?_⟩
      exact ⟨_,⟨rfl,rfl⟩,rfl,ka⟩
    · refine ⟨_,callF_ans ans31 ⟨rfl,rfl⟩,?_⟩
      rw [onB_v,gd_T rfl]
      refine ⟨_,by rw [ldN_p (n:=8) c7 rfl]; exact ⟨rfl,rfl⟩,?_⟩
      refine ⟨.a [aI 3,.v (.string ⟨#[]⟩),aI la,.nl],show ldN 4 (.p i 0 0) S7 (fun v S=>v = .a [aI 3,.v (.string ⟨#[]⟩),aI la,.nl] ∧ S = S7) from by rw [ldN_p (n:=4) o6' rfl]; exact ⟨rfl,rfl⟩,?_⟩
      refine ⟨_,callF_at one ⟨rfl,rfl⟩,?_⟩
      refine ⟨_,callF_ans (ans32 hc.ok ok1) ⟨rfl,rfl⟩,?_⟩
      exact ⟨_,⟨rfl,rfl⟩,rfl,ka⟩
end Go.Proofs.YtolgpokppnajdaaGreat.G

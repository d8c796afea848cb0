/- Truth -/
import Derived.Test.YtolgpokppnajdaaGreatProg
import Derived.KernelRfl
import Derived.Test.YtolgpokppnajdaaGreatTxT5
set_option linter.unusedVariables false
set_option linter.unusedSimpArgs false
namespace Go.Proofs.YtolgpokppnajdaaGreat.G
open Go Go.Ab
theorem eqS_ve (v w:Ve) {S:Store} {K:AV → Store → Prop}:eqS [2,1,1] .eql v.av w.av S K = K (aB ((v.holds == w.holds) && ((v.initial == w.initial) && ((v.broken == w.broken) && true)))) S:=by simp [eqS,eqA,eqV,Ve.av,Ve.cells]
theorem eqS_vv (v:Ve) {S:Store} {K:AV → Store → Prop}:eqS [2,1,1] .eql v.av v.av S K = K (aB true) S:=by rw [eqS_ve]; simp
theorem cv_foq {S:Store} {n:Nat} (k l:Int):Cv S n (.a [aI k,.v (.string ⟨#[]⟩),aI l,.nl]) (Fo.mk k ⟨#[]⟩ l []).av:=by
  rw [Fo.av,Fo.row_mk]
  refine .a _ _ rfl fun k u u2 e1 e2=>?_
  match k with
  | 0=>cases e1; cases e2; exact .v _
  | 1=>cases e1; cases e2; exact .v _
  | 2=>cases e1; cases e2; exact .v _
  | 3=>cases e1; cases e2; exact .nl
  | k + 4=>simp at e1
theorem cv_2 {S:Store} {n:Nat} {x x' y y':AV} (h:Cv S n x x') (k:Cv S n y y'):∀ (i:Nat) (u u2:AV),[x,y][i]? = some u → [x',y'][i]? = some u2 → Cv S n u u2
  | 0,_,_,h1,h2=>by cases h1; cases h2; exact h
  | 1,_,_,h1,h2=>by cases h1; cases h2; exact k
  | i + 2,_,_,h1,_=>by simp at h1
theorem ans31:Ans Tryz.prog 31 [] (aB true):=by
  intro S
  refine ACalls.ans_v (calls31 ?_)
  unfold m31
  have okq:∀ l:Int,i64R l → (foQ l).ok:=fun l hl=>.mk _ _ _ _ ⟨by decide,by decide⟩ hl (by decide) (by decide) fun f hf=>by cases hf
  have ok1:∀ (k:Int) (f:Fo),i64R k → f.ok → (foOne k f).ok:=fun k f hk hf=>.mk _ _ _ _ hk ⟨by decide,by decide⟩ (by decide) (by simp) fun g hg=>by
    have:g = f:=by simpa using hg
    subst this; exact hf
  have h1:=ans60 ca0_ok (ok1 14 _ ⟨by decide,by decide⟩ (ok1 12 _ ⟨by decide,by decide⟩ (okq 2 ⟨by decide,by decide⟩)))
  have h2:=ans60 ca0_ok (okq 2 ⟨by decide,by decide⟩)
  have h3:=ans36 ca0_ok (ok1 9 _ ⟨by decide,by decide⟩ (okq 2 ⟨by decide,by decide⟩))
  have h4:=ans36 ca0_ok (okq 4 ⟨by decide,by decide⟩)
  rw [ver_agaf] at h1
  rw [ver_q] at h2
  rw [tru_exq] at h3
  rw [tru_4] at h4
  have hci:∀ (T:Store) (n:Nat),Cv T n (.a [aI 0,.l [[aI 3,aI 0]],.nl,.nl,.nl,.nl,.nl,.nl]) ca0.av:=fun T n=>cv_ci (.v _) (treeP [(3,0)] _ _)
  rw [bld_of (cs:=[aI 3,aI 0]) rfl]
  refine bslP ?_
  rw [bld_of (cs:=[aI 0,.l [[aI 3,aI 0]],.nl,.nl,.nl,.nl,.nl,.nl]) rfl]
  refine boxA_of rfl fun S1 k1 n1 o1=>?_
  refine stA_of (cs':=[aI 0,.l [[aI 3,aI 0]],.nl,.nl,.nl,.nl,.nl,.nl]) o1 rfl rfl fun S2 n2 o2 f2=>?_
  have k2:=k1.st (Nat.le_refl _) n2 f2
  rw [bld_of (cs:=[aI 3,.v (.string ⟨#[]⟩),aI 2,.nl]) rfl]
  refine boxA_of rfl fun S3 k3 n3 o3=>?_
  refine stA_of (cs':=[aI 3,.v (.string ⟨#[]⟩),aI 2,.nl]) o3 rfl rfl fun S4 n4 o4 f4=>?_
  have k4:=k3.st (Nat.le_refl _) n4 f4
  have p4:=(k4.2 _ (by omega)).trans o2
  refine L_ldN (n:=8) p4 (by omega) rfl ?_
  refine L_ldN (n:=4) o4 (by omega) rfl ?_
  refine ⟨_,fun T hT=>callF_cv' (args:=[aI 12,.a [aI 3,.v (.string ⟨#[]⟩),aI 2,.nl]]) (ans33 12 (foQ 2)) rfl (cv_2 (.v _) (cv_foq 3 2)) ⟨rfl,rfl⟩,?_⟩
  refine L_callA (ans33 14 (foOne 12 (foQ 2))) ?_
  refine ⟨_,fun T hT=>callF_cv' (args:=[.a [aI 0,.l [[aI 3,aI 0]],.nl,.nl,.nl,.nl,.nl,.nl],(foOne 14 (foOne 12 (foQ 2))).av]) h1 rfl (cv_2 (hci _ _) (Fo.tr _ _ _)) ⟨rfl,rfl⟩,?_⟩
  refine ⟨_,fun T hT=>by rw [extr0]; exact ⟨rfl,rfl⟩,?_⟩
  refine ⟨_,fun T hT=>by rw [extr1]; exact ⟨rfl,rfl⟩,?_⟩
  refine boxA_of rfl fun S5 k5 n5 o5=>?_
  refine ⟨fun T hT=>by rw [extr1]; exact ⟨rfl,rfl⟩,?_⟩
  refine stA_of (cs':=(⟨true,1,-1⟩:Ve).cells) o5 rfl rfl fun S6 n6 o6 f6=>?_
  have k6:=k5.st (Nat.le_refl _) n6 f6
  refine ⟨fun T hT=>by rw [extr1]; exact ⟨rfl,rfl⟩,?_⟩
  have p6:=(k6.2 _ (by omega)).trans p4
  have q6:=(k6.2 _ (by omega)).trans o4
  rw [ldN_p (n:=8) p6 rfl,ldN_p (n:=4) q6 rfl]
  refine callF_cv' (args:=[.a [aI 0,.l [[aI 3,aI 0]],.nl,.nl,.nl,.nl,.nl,.nl],.a [aI 3,.v (.string ⟨#[]⟩),aI 2,.nl]]) h2 rfl (cv_2 (hci _ _) (cv_foq 3 2)) ?_
  rw [extr0,extr1]
  refine boxA_of rfl fun S7 k7 n7 o7=>?_
  refine stA_of (cs':=(⟨false,1,0⟩:Ve).cells) o7 rfl rfl fun S8 n8 o8 f8=>?_
  have k8:=k7.st (Nat.le_refl _) n8 f8
  have p8:=(k8.2 _ (by omega)).trans p6
  have q8:=(k8.2 _ (by omega)).trans q6
  have v8:=(k8.2 _ (by omega)).trans o6
  have kk:=((k2.trans k4).trans k6).trans k8
  refine ⟨_,by rw [ldN_p (n:=8) p8 rfl]; exact ⟨rfl,rfl⟩,?_⟩
  refine ⟨_,by rw [ldN_p (n:=4) q8 rfl]; exact ⟨rfl,rfl⟩,?_⟩
  refine ⟨_,callF_cv' (args:=[aI 9,.a [aI 3,.v (.string ⟨#[]⟩),aI 2,.nl]]) (ans33 9 (foQ 2)) rfl (cv_2 (.v _) (cv_foq 3 2)) ⟨rfl,rfl⟩,?_⟩
  refine ⟨_,callF_cv' (args:=[.a [aI 0,.l [[aI 3,aI 0]],.nl,.nl,.nl,.nl,.nl,.nl],(foOne 9 (foQ 2)).av]) h3 rfl (cv_2 (hci _ _) (Fo.tr _ _ _)) ⟨rfl,rfl⟩,?_⟩
  refine ⟨_,by rw [extr0]; exact ⟨rfl,rfl⟩,?_⟩
  refine ⟨_,by rw [extr1]; exact ⟨rfl,rfl⟩,?_⟩
  show ldN _ _ _ _
  rw [ldN_p (n:=8) p8 rfl,bld_of (cs:=[aI 3,.v (.string ⟨#[]⟩),aI 4,.nl]) rfl]
  refine callF_cv' (args:=[.a [aI 0,.l [[aI 3,aI 0]],.nl,.nl,.nl,.nl,.nl,.nl],.a [aI 3,.v (.string ⟨#[]⟩),aI 4,.nl]]) h4 rfl (cv_2 (hci _ _) (cv_foq 3 4)) ?_
  rw [extr0,extr1,bin_eql,onB_v,gd_T (decide_eq_true rfl),ldN_p (n:=3) v8 rfl,bld_of (cs:=(⟨true,1,-1⟩:Ve).cells) rfl]
  show eqS _ _ (⟨true,1,-1⟩:Ve).av (⟨true,1,-1⟩:Ve).av _ _
  rw [eqS_vv,onB_v,gd_T rfl,bin_eql,onB_v,gd_T (decide_eq_true rfl),ldN_p (n:=3) o8 rfl,bld_of (cs:=(⟨false,1,0⟩:Ve).cells) rfl]
  show eqS _ _ (⟨false,1,0⟩:Ve).av (⟨false,1,0⟩:Ve).av _ _
  rw [eqS_vv,onB_v,gd_T rfl,bin_eql,onB_v,gd_T (decide_eq_true rfl)]
  refine bsl2 rfl rfl ?_
  refine callF_ans (ans29 (a:=[true,false]) (b:=[true,false]) (by decide)) ?_
  rw [onB_v,gd_T (decide_eq_true rfl),bin_eql,decide_eq_true rfl]
  exact ⟨rfl,kk⟩
structure Gd (c:Ci) (d:Int) (f:Fo):Prop where
  ok:f.ok
  may:f.mayB d = true
  lits:f.litsB c.gr = true
theorem ResV.gd {c:Ci} {f:Fo} (h:ResV c.gr.vars f) (hc:MadeC c):Gd c 7 f:=⟨h.ok,h.may,h.litsC hc⟩
theorem may_pos {f:Fo} {d:Int} (h:f.mayB d = true):0 < d:=by
  cases f with
  | mk k n l ks =>
    rw [Fo.mayB_mk] at h
    simp only [Bool.and_eq_true,decide_eq_true_eq] at h
    exact h.1
theorem Gd.one {c:Ci} {d:Int} {f:Fo} (h:Gd c d f) (k:Int) (hk:k = 4 ∨ 9 ≤ k ∧ k ≤ 14):Gd c (d + 1) (foOne k f):=by
  have hp:=may_pos h.may
  refine ⟨.mk _ _ _ _ ⟨by omega,by omega⟩ ⟨by decide,by decide⟩ (by decide) (by simp) fun g hg=>?_,?_,?_⟩
  · have:g = f:=by simpa using hg
    subst this; exact h.ok
  · rw [Fo.mayB_mk]
    simp only [Bool.and_eq_true,decide_eq_true_eq,List.all_cons,List.all_nil,Bool.and_true]
    refine ⟨by omega,by simp,trivial,?_,?_⟩
    · unfold kidsN
      rw [if_neg (by omega),if_neg (by omega),if_pos hk]
      rfl
    · rw [show d + 1 - 1 = d by omega]; exact h.may
  · rw [Fo.litsB_mk]
    simp only [List.all_cons,List.all_nil,Bool.and_true,h.lits,decide_eq_true (show k ≠ 3 by omega),Bool.true_or]
theorem Gd.two {c:Ci} {d:Int} {f g:Fo} (h:Gd c d f) (h2:Gd c d g) (k:Int) (hk:5 ≤ k ∧ k ≤ 8 ∨ 15 ≤ k ∧ k ≤ 18):Gd c (d + 1) (foTwo k f g):=by
  have hp:=may_pos h.may
  refine ⟨.mk _ _ _ _ ⟨by omega,by omega⟩ ⟨by decide,by decide⟩ (by decide) (by simp) fun x hx=>?_,?_,?_⟩
  · have:x = f ∨ x = g:=by simpa using hx
    rcases this with rfl | rfl
    · exact h.ok
    · exact h2.ok
  · rw [Fo.mayB_mk]
    simp only [Bool.and_eq_true,decide_eq_true_eq,List.all_cons,List.all_nil,Bool.and_true]
    refine ⟨by omega,by simp,trivial,?_,?_⟩
    · unfold kidsN
      rw [if_neg (by omega),if_neg (by omega),if_neg (by omega)]
      rfl
    · rw [show d + 1 - 1 = d by omega]; exact ⟨h.may,h2.may⟩
  · rw [Fo.litsB_mk]
    simp only [List.all_cons,List.all_nil,Bool.and_true,h.lits,h2.lits,decide_eq_true (show k ≠ 3 by omega),Bool.true_or]
theorem Gd.up {c:Ci} {d d':Int} {f:Fo} (h:Gd c d f) (hd:d ≤ d'):Gd c d' f:=⟨h.ok,mayB_mono f hd h.may,h.lits⟩
theorem Gd.truth {c:Ci} {d:Int} {f:Fo} (h:Gd c d f) (hd:d ≤ 60) (hc:MadeC c):truthB c f = (semC c f,0):=by
  have hm:mayC c f = true:=by rw [mayC,hc.right,mayB_mono f hd h.may,h.lits]; rfl
  rw [truthB,if_neg (by rw [hm]; decide),if_pos (by rw [(made_sp hc.right hc.inp.2 hc.lats.2).1])]
theorem Gd.sem {c:Ci} {d:Int} {f:Fo} (h:Gd c d f):In (spOf c) (semC c f):=in_sem (fun l=>in_each _ _) f _ h.may
theorem made_ok {c:Ci} (hc:MadeC c):SpOk (spOf c):=spOf_ok hc.right (by
  obtain ⟨g1,g2,g3⟩:=gr_inp hc.right
  have:=hc.inp
  have:=hc.lats
  omega)
theorem Gd.len {c:Ci} {d:Int} {f:Fo} (h:Gd c d f) (hc:MadeC c):(semC c f).length ≤ 1024:=by
  have:=h.sem.len
  have:=(made_ok hc).small.h1
  omega
theorem semC_one {c:Ci} (k:Int) (f:Fo) (hk:3 < k):semC c (foOne k f) = oneP (spOf c) (egP (spOf c) (spOf c).valid) k (semC c f):=sem_one hk
theorem semC_two {c:Ci} (k:Int) (f g:Fo) (hk:3 < k):semC c (foTwo k f g) = twoP (spOf c) (egP (spOf c) (spOf c).valid) k (semC c f) (semC c g):=sem_two hk
def ppL (l:List (Fo × Fo)):AV:=.l (l.map fun p=>p.1.row ++ p.2.row)
theorem lenS_ppL (l:List (Fo × Fo)) {S:Store} {K:AV → Store → Prop}:lenS (ppL l) S K = K (aI l.length) S:=by simp [ppL]
theorem ixS_ppL {l:List (Fo × Fo)} {e i:Nat} {S:Store} {K:AV → Store → Prop} (h:i < l.length):ixS e 8 (ppL l) (aI i) S K = K (.q (l[i].1.row ++ l[i].2.row) 0) S:=by
  unfold ppL
  rw [ixS_l (by simpa using h) (by simp [Fo.row_len])]
  simp
theorem ldN_pp0 (f g:Fo) {S:Store} {K:AV → Store → Prop}:ldN 4 (.q (f.row ++ g.row) 0) S K = K f.av S:=by
  have h1:=Fo.row_len f
  have h2:=Fo.row_len g
  simp [ldN,rdN,place,h1,h2,Fo.av]
theorem ldN_pp1 (f g:Fo) {S:Store} {K:AV → Store → Prop}:ldN 4 (.q (f.row ++ g.row) 4) S K = K g.av S:=by
  have h1:=Fo.row_len f
  have h2:=Fo.row_len g
  simp [ldN,rdN,place,h1,h2,Fo.av]
  rw [List.take_of_length_le (by omega)]
theorem bld_pp (f g:Fo) {z:List AV} (hz:z.length = 8) {S:Store} {K:AV → Store → Prop}:bld [(0,4),(4,4)] z [(0,f.av),(1,g.av)] S K = K (.a (f.row ++ g.row)) S:=by
  have h1:=Fo.row_len f
  have h2:=Fo.row_len g
  refine bld_of ?_
  unfold Fo.av
  generalize f.row = r at *
  generalize g.row = r2 at *
  match r,h1,r2,h2,z,hz with
  | [a,b,c,d],_,[e,f,g,h],_,[z0,z1,z2,z3,z4,z5,z6,z7],_=>rfl
set_option linter.unusedSectionVars false
theorem egs_stay (s:Sp) (p:List Bool):Stay s (fairL s) (egP s p):=fun f hf i hi=>by
  obtain ⟨z,h1,h2,h3,h4⟩:=bit_eg.1 hi
  exact stepP_mono (fun j hj=>bit_eg.2 ⟨z,h1,h2,h3,hj⟩) (by simp [h1]) i (h3 f hf i h4)
theorem egs_sub (s:Sp) (p:List Bool):Sub (egP s p) (andP p s.valid):=fun i hi=>by
  obtain ⟨z,h1,h2,h3,h4⟩:=bit_eg.1 hi
  exact h2 i h4
theorem egs_mono {s:Sp} {p p':List Bool} (h:Sub p p') (hl:p.length = p'.length):Sub (egP s p) (egP s p'):=fun i hi=>by
  obtain ⟨z,h1,h2,h3,h4⟩:=bit_eg.1 hi
  exact bit_eg.2 ⟨z,by omega,h2.trans (andP_mono h (Sub.refl _)),h3,h4⟩
theorem egs_next {s:Sp} {p:List Bool} {i:Nat} (h:bit (egP s p) i = true):∃ k ∈ nx s i,bit (egP s p) k.toNat = true:=by
  have hne:∃ f,f ∈ fairL s:=by
    unfold fairL
    split
    · exact ⟨_,List.mem_singleton.2 rfl⟩
    · rename_i hq
      cases hs:s.fair with
      | nil=>rw [hs] at hq; simp at hq
      | cons f l=>exact ⟨f,by simp⟩
  obtain ⟨f,hf⟩:=hne
  have h1:=egs_stay s p f hf i h
  rw [stepP,bit_and,Bool.and_eq_true,bit_ex] at h1
  obtain ⟨_,h2,h3,k,h4,h5⟩:=h1
  refine ⟨k,h4,?_⟩
  have hr:=(bit_eu.1 h5).2
  cases hr with
  | base _ h6 h7=>rw [bit_and,Bool.and_eq_true] at h6; exact h6.1
  | step _ k' h6 h7 h8 h9=>exact h6
section
variable {s:Sp} (hs:SpOk s)
include hs
theorem nx_rng {i:Nat} {k:Int} (h:k ∈ nx s i):0 ≤ k ∧ k.toNat < s.valid.length:=by
  unfold nx at h
  rcases Nat.lt_or_ge i s.next.length with hi | hi
  · rw [List.getD_eq_getElem?_getD,List.getElem?_eq_getElem hi] at h
    obtain ⟨h1,h2⟩:=hs.mem _ (List.getElem_mem hi) k h
    exact ⟨h1,by omega⟩
  · rw [List.getD_eq_getElem?_getD,List.getElem?_eq_none hi] at h
    cases h
theorem ex_at {p:List Bool} (hp:p.length = s.valid.length) {i:Nat}:bit (exP s p) i = true ↔ bit s.valid i = true ∧ ∃ k ∈ nx s i,bit p k.toNat = true:=by
  rw [bit_ex]
  refine ⟨fun h=>h.2,fun h=>⟨?_,h⟩⟩
  have:=bit_lt h.1
  omega
theorem eu_at {p q:List Bool} (hq:q.length = s.valid.length) {i:Nat}:bit (euP s p q) i = true ↔ Reach s p q i:=by
  rw [bit_eu]
  refine ⟨fun h=>h.2,fun h=>⟨?_,h⟩⟩
  have:=bit_lt (reach_valid h)
  omega
theorem eg_back {p:List Bool} (hp:p.length = s.valid.length) {i:Nat} {k:Int} (h1:bit p i = true) (h2:bit s.valid i = true) (h3:k ∈ nx s i) (h4:bit (egP s p) k.toNat = true):bit (egP s p) i = true:=by
  have hk:=nx_rng hs h3
  have hi:=bit_lt h2
  let z:List Bool:=tab p.length fun j=>decide (j = i) || bit (egP s p) j
  have hz:∀ j,bit z j = true ↔ j = i ∨ bit (egP s p) j = true:=fun j=>by
    constructor
    · intro h
      have hj:j < p.length:=by simpa [z] using bit_lt h
      rw [bit_tab hj] at h
      simpa using h
    · intro h
      have hj:j < p.length:=by
        rcases h with rfl | h
        · omega
        · simpa using bit_lt h
      rw [bit_tab hj]
      simpa using h
  have hsub:Sub (egP s p) z:=fun j hj=>(hz j).2 (.inr hj)
  refine bit_eg.2 ⟨z,by simp [z],fun j hj=>?_,fun f hf j hj=>?_,(hz i).2 (.inl rfl)⟩
  · rcases (hz j).1 hj with rfl | hj
    · rw [bit_and,h1,h2]; rfl
    · exact egs_sub s p j hj
  · rcases (hz j).1 hj with rfl | hj
    · have hst:=egs_stay s p f hf _ h4
      have h5:=stepP_mono hsub (by simp [z]) _ hst
      rw [stepP,bit_and,Bool.and_eq_true] at h5 ⊢
      refine ⟨hj,?_⟩
      rw [ex_at hs (by simp [z,hp])] at h5 ⊢
      obtain ⟨h6,h7,k2,h8,h9⟩:=h5
      refine ⟨h2,k,h3,?_⟩
      rw [eu_at hs (by simp [z,hp])] at h9 ⊢
      have hk2:=(nx_rng hs h8).1
      exact .step k.toNat k2.toNat h6 h7 (by rwa [Int.toNat_of_nonneg hk2]) h9
    · exact stepP_mono hsub (by simp [z]) _ (egs_stay s p f hf j hj)
theorem until_fair {p q:List Bool} (hq:q.length = s.valid.length):Sub (untilP s (egP s s.valid) p q) (egP s s.valid):=fun i hi=>by
  have hr:=(eu_at hs (by simp [hq])).1 hi
  clear hi
  induction hr with
  | base i h1 h2=>rw [bit_and,Bool.and_eq_true] at h1; exact h1.2
  | step i k h1 h2 h3 _ ih=>exact eg_back hs rfl h2 h2 h3 (by rw [Int.toNat_natCast]; exact ih)
theorem and_sub {p q:List Bool} (h:Sub p q) (hl:p.length = q.length):andP p q = p:=ext_bit (by simp [hl]) fun i=>by
  rw [bit_and]
  cases hp:bit p i with
  | false=>rfl
  | true=>rw [h i hp]; rfl
theorem nextP_of {p:List Bool} (h:Sub p (egP s s.valid)) (hl:p.length = s.valid.length):nextP s (egP s s.valid) p = exP s p:=by
  rw [nextP,and_sub hs h (by simp [hl])]
theorem until_at {p q:List Bool} (hq:q.length = s.valid.length) {i:Nat}:bit (untilP s (egP s s.valid) p q) i = true ↔ bit s.valid i = true ∧ (bit q i = true ∧ bit (egP s s.valid) i = true ∨ bit p i = true ∧ bit (exP s (untilP s (egP s s.valid) p q)) i = true):=by
  rw [untilP,eu_at hs (by simp [hq]),ex_at hs (by simp [hq])]
  constructor
  · intro h
    cases h with
    | base _ h1 h2=>rw [bit_and,Bool.and_eq_true] at h1; exact ⟨h2,.inl h1⟩
    | step _ k h1 h2 h3 h=>exact ⟨h2,.inr ⟨h1,h2,k,h3,by rw [Int.toNat_natCast,eu_at hs (by simp [hq])]; exact h⟩⟩
  · rintro ⟨h2,⟨h1,h3⟩ | ⟨h1,_,k,h3,h4⟩⟩
    · exact .base i (by rw [bit_and,h1,h3]; rfl) h2
    · have hk:=(nx_rng hs h3).1
      exact .step i k.toNat h1 h2 (by rwa [Int.toNat_of_nonneg hk]) ((eu_at hs (by simp [hq])).1 h4)
theorem eg_at {p:List Bool} (hp:p.length = s.valid.length) {i:Nat}:bit (egP s p) i = true ↔ bit s.valid i = true ∧ bit p i = true ∧ bit (exP s (egP s p)) i = true:=by
  rw [ex_at hs (by simp [hp])]
  constructor
  · intro h
    have h1:=egs_sub s p i h
    rw [bit_and,Bool.and_eq_true] at h1
    exact ⟨h1.2,h1.1,h1.2,egs_next h⟩
  · rintro ⟨h1,h2,_,k,h3,h4⟩
    exact eg_back hs hp h2 h1 h3 h4
end
abbrev foT:Fo:=.mk 2 ⟨#[]⟩ 0 []
abbrev foY:Fo:=foOne 13 foT
theorem gd_T' (c:Ci):Gd c 1 foT:=⟨.mk _ _ _ _ ⟨by decide,by decide⟩ ⟨by decide,by decide⟩ (by decide) (by decide) (fun f hf=>by cases hf),by decide,by rw [Fo.litsB_mk]; rfl⟩
theorem gd_Y (c:Ci):Gd c 2 foY:=(gd_T' c).one 13 (by omega)
theorem semC_Y (c:Ci):semC c foY = egP (spOf c) (spOf c).valid:=by
  rw [semC_one _ _ (by decide)]
  show egP _ (semC c foT) = _
  rw [show semC c foT = (spOf c).valid from sem_true]
theorem bsl_pp4 {e:Nat} {z:List AV} {r1 r2 r3 r4:List AV} (hz:z.length = 8) (h1:r1.length = 8) (h2:r2.length = 8) (h3:r3.length = 8) (h4:r4.length = 8) {S:Store} {K:AV → Store → Prop} (k:K (.l [r1,r2,r3,r4]) S) :
    bslN e 8 4 z [(0,.a r1),(1,.a r2),(2,.a r3),(3,.a r4)] S K:=by
  refine ⟨r1 ++ r2 ++ r3 ++ r4,?_,.inr ?_⟩
  · match z,hz,r1,h1,r2,h2,r3,h3,r4,h4 with
    | [_,_,_,_,_,_,_,_],_,[_,_,_,_,_,_,_,_],_,[_,_,_,_,_,_,_,_],_,[_,_,_,_,_,_,_,_],_,[_,_,_,_,_,_,_,_],_=>simp [fillA,cellsOf,spl,List.range_succ]
  · match r1,h1,r2,h2,r3,h3,r4,h4 with
    | [_,_,_,_,_,_,_,_],_,[_,_,_,_,_,_,_,_],_,[_,_,_,_,_,_,_,_],_,[_,_,_,_,_,_,_,_],_=>simpa [chunks,List.range_succ] using k
theorem news3 {a b d:AObj} {S:Store} {K:List Nat → Store → Prop} (h:∀ i j k S',Keep S S' → S.n ≤ i → i < S'.n → S.n ≤ j → j < S'.n → S.n ≤ k → k < S'.n → i ≠ j → i ≠ k → j ≠ k → S'.obj i = some a → S'.obj j = some b → S'.obj k = some d → K [i,j,k] S'):newsV [a,b,d] S K:=by
  intro ids S' hn
  match ids,hn.len with
  | [i,j,k],_ =>
    have hd:=hn.nodup
    have h1:i ≠ j:=fun e=>by subst e; simp at hd
    have h2:i ≠ k:=fun e=>by subst e; simp at hd
    have h3:j ≠ k:=fun e=>by subst e; simp at hd
    exact h i j k S' hn.keep (hn.lo i (by simp)) (hn.hi i (by simp)) (hn.lo j (by simp)) (hn.hi j (by simp)) (hn.lo k (by simp)) (hn.hi k (by simp)) h1 h2 h3 (hn.new 0 i a rfl rfl) (hn.new 1 j b rfl rfl) (hn.new 2 k d rfl rfl)
def stepsL (a b:Fo):List (Fo × Fo):=[(foTwo 15 a b,foTwo 6 (foTwo 5 b foY) (foTwo 5 a (foOne 9 (foTwo 15 a b)))),(foOne 13 a,foTwo 5 a (foOne 9 (foOne 13 a))),
  (foTwo 17 a b,foTwo 5 b (foTwo 6 (foTwo 5 a foY) (foOne 9 (foTwo 17 a b)))),(foOne 11 a,foTwo 6 (foTwo 5 a foY) (foOne 9 (foOne 11 a)))]
theorem steps_gd {c:Ci} {a b:Fo} (ha:Gd c 7 a) (hb:Gd c 7 b):∀ p ∈ stepsL a b,Gd c 12 p.1 ∧ Gd c 12 p.2:=by
  have y:=(gd_Y c).up (show (2:Int) ≤ 7 by decide)
  have u:=ha.two hb 15 (by omega)
  have r:=ha.two hb 17 (by omega)
  intro p hp
  simp only [stepsL,List.mem_cons,List.not_mem_nil,or_false] at hp
  rcases hp with rfl | rfl | rfl | rfl
  · exact ⟨u.up (by decide),(((hb.two y 5 (by omega)).up (show (8:Int) ≤ 10 by decide)).two ((ha.up (show (7:Int) ≤ 9 by decide)).two (u.one 9 (by omega)) 5 (by omega)) 6 (by omega)).up (by decide)⟩
  · exact ⟨(ha.one 13 (by omega)).up (by decide),((ha.up (show (7:Int) ≤ 9 by decide)).two ((ha.one 13 (by omega)).one 9 (by omega)) 5 (by omega)).up (by decide)⟩
  · exact ⟨r.up (by decide),((hb.up (show (7:Int) ≤ 10 by decide)).two (((ha.two y 5 (by omega)).up (show (8:Int) ≤ 9 by decide)).two (r.one 9 (by omega)) 6 (by omega)) 5 (by omega)).up (by decide)⟩
  · exact ⟨(ha.one 11 (by omega)).up (by decide),(((ha.two y 5 (by omega)).up (show (8:Int) ≤ 9 by decide)).two ((ha.one 11 (by omega)).one 9 (by omega)) 6 (by omega)).up (by decide)⟩
theorem or_at {s:Sp} {p q:List Bool} (hp:p.length = s.valid.length) (hq:q.length = s.valid.length) {i:Nat}:bit (orP p q) i = true ↔ bit p i = true ∨ bit q i = true:=by
  rw [bit_or (by rw [hp,hq]),Bool.or_eq_true]
theorem and_at {p q:List Bool} {i:Nat}:bit (andP p q) i = true ↔ bit p i = true ∧ bit q i = true:=by rw [bit_and,Bool.and_eq_true]
theorem steps_sem {c:Ci} {a b:Fo} (hc:MadeC c) (ha:Gd c 7 a) (hb:Gd c 7 b):∀ p ∈ stepsL a b,semC c p.1 = semC c p.2:=by
  have hs:=made_ok hc
  have ia:=ha.sem
  have ib:=hb.sem
  have e13:∀ f:Fo,semC c (foOne 13 f) = egP (spOf c) (semC c f):=fun f=>semC_one 13 f (by decide)
  have e9:∀ f:Fo,semC c (foOne 9 f) = nextP (spOf c) (egP (spOf c) (spOf c).valid) (semC c f):=fun f=>semC_one 9 f (by decide)
  have e11:∀ f:Fo,semC c (foOne 11 f) = untilP (spOf c) (egP (spOf c) (spOf c).valid) (spOf c).valid (semC c f):=fun f=>semC_one 11 f (by decide)
  have e5:∀ f g:Fo,semC c (foTwo 5 f g) = andP (semC c f) (semC c g):=fun f g=>semC_two 5 f g (by decide)
  have e6:∀ f g:Fo,semC c (foTwo 6 f g) = orP (semC c f) (semC c g):=fun f g=>semC_two 6 f g (by decide)
  have e15:∀ f g:Fo,semC c (foTwo 15 f g) = untilP (spOf c) (egP (spOf c) (spOf c).valid) (semC c f) (semC c g):=fun f g=>semC_two 15 f g (by decide)
  have e17:∀ f g:Fo,semC c (foTwo 17 f g) = orP (egP (spOf c) (semC c g)) (untilP (spOf c) (egP (spOf c) (spOf c).valid) (semC c g) (andP (semC c f) (semC c g))):=fun f g=>semC_two 17 f g (by decide)
  have eY:=semC_Y c
  rw [e13] at eY
  intro p hp
  simp only [stepsL,List.mem_cons,List.not_mem_nil,or_false] at hp
  rcases hp with rfl | rfl | rfl | rfl <;> simp only [e13,e9,e11,e5,e6,e15,e17,show semC c foT = (spOf c).valid from sem_true] <;> clear e13 e9 e11 e5 e6 e15 e17 eY <;>
    generalize semC c a = p at * <;> generalize semC c b = q at * <;> generalize spOf c = s at *
  · have lu:(untilP s (egP s s.valid) p q).length = s.valid.length:=by simp [untilP,ib.len]
    have hu:=until_fair hs (p:=p) ib.len
    rw [nextP_of hs hu lu]
    refine In.eq (In.eu (by simp [ib.len])) (ib.and.or ia.and) fun i hi=>?_
    rw [Bool.eq_iff_iff,until_at hs ib.len,or_at (s:=s) ib.and.len ia.and.len,and_at,and_at]
    exact ⟨fun h=>h.2,fun h=>⟨hi,h⟩⟩
  · have lg:(egP s p).length = s.valid.length:=by simp [ia.len]
    have hg:Sub (egP s p) (egP s s.valid):=egs_mono ia.sub ia.len
    rw [nextP_of hs hg lg]
    refine In.eq (In.eg ia.len) ia.and fun i hi=>?_
    rw [Bool.eq_iff_iff,eg_at hs ia.len,and_at]
    exact ⟨fun h=>h.2,fun h=>⟨hi,h⟩⟩
  · have lpq:(andP p q).length = s.valid.length:=by simp [ia.len]
    have hg:Sub (egP s q) (egP s s.valid):=egs_mono ib.sub ib.len
    have hu:=until_fair hs (p:=q) lpq
    have ig:In s (egP s q):=In.eg ib.len
    have iu:In s (untilP s (egP s s.valid) q (andP p q)):=In.eu (by simp [ia.len])
    have ir:=ig.or iu
    have hr:Sub (orP (egP s q) (untilP s (egP s s.valid) q (andP p q))) (egP s s.valid):=fun i h=>by
      rcases (or_at (s:=s) ig.len iu.len).1 h with h | h
      · exact hg i h
      · exact hu i h
    rw [nextP_of hs hr ir.len]
    have ix:In s (exP s (orP (egP s q) (untilP s (egP s s.valid) q (andP p q)))):=In.ex ir.len
    refine In.eq ir ib.and fun i hi=>?_
    rw [Bool.eq_iff_iff,or_at (s:=s) ig.len iu.len,eg_at hs ib.len,until_at hs lpq,and_at,and_at,or_at (s:=s) (p:=andP p (egP s s.valid)) ia.and.len ix.len,and_at,ex_at hs ig.len,ex_at hs iu.len,ex_at hs ir.len]
    constructor
    · rintro (⟨_,h1,h2,k,h3,h4⟩ | ⟨_,⟨⟨h1,h2⟩,h3⟩ | ⟨h1,h2,k,h3,h4⟩⟩)
      · exact ⟨h1,.inr ⟨h2,k,h3,(or_at (s:=s) ig.len iu.len).2 (.inl h4)⟩⟩
      · exact ⟨h2,.inl ⟨h1,h3⟩⟩
      · exact ⟨h1,.inr ⟨h2,k,h3,(or_at (s:=s) ig.len iu.len).2 (.inr h4)⟩⟩
    · rintro ⟨h1,⟨h2,h3⟩ | ⟨h2,k,h3,h4⟩⟩
      · exact .inr ⟨hi,.inl ⟨⟨h2,h1⟩,h3⟩⟩
      · rcases (or_at (s:=s) ig.len iu.len).1 h4 with h4 | h4
        · exact .inl ⟨hi,h1,h2,k,h3,h4⟩
        · exact .inr ⟨hi,.inr ⟨h1,h2,k,h3,h4⟩⟩
  · have lu:(untilP s (egP s s.valid) s.valid p).length = s.valid.length:=by simp [untilP,ia.len]
    have hu:=until_fair hs (p:=s.valid) ia.len
    rw [nextP_of hs hu lu]
    refine In.eq (In.eu (by simp [ia.len])) (ia.and.or (In.ex lu)) fun i hi=>?_
    rw [Bool.eq_iff_iff,until_at hs ia.len,or_at (s:=s) ia.and.len (In.ex lu).len,and_at]
    exact ⟨fun h=>h.2.elim .inl fun h=>.inr h.2,fun h=>⟨hi,h.elim .inl fun h=>.inr ⟨hi,h⟩⟩⟩
theorem law13 {l m m2:List Int} (hl:∀ x ∈ l,0 ≤ x ∧ x < 65536) (hm:∀ x ∈ m,0 ≤ x ∧ x < 256) (hm2:∀ x ∈ m2,0 ≤ x ∧ x < 256):Ans Tryz.prog 13 [aL aW16 l,aL aU8 m,aL aU8 m2] (aB true):=by
  intro S
  refine ACalls.ans_v (calls13 ?_)
  unfold m13
  refine callF_ans ans31 ?_
  rw [un_not,onB_v,show gd (!true) _ _ = _ from rfl]
  refine .inl ((of23 hl hm).mono ?_)
  rintro e R0 ⟨tr,rfl,rfl,c,a,rfl,hc,hv,hf⟩
  show extr _ _ _ _
  rw [extr0,extr1]
  refine boxA_of rfl fun S1 k1 n1 o1=>?_
  refine boxA_of rfl fun S2 k2 n2 o2=>?_
  refine stA_of (cs':=c.cells) ((k2.2 _ (by omega)).trans o1) rfl rfl fun S3 n3 o3 f3=>?_
  refine stA_of ((f3 _ (by omega)).trans o2) (Fo.row_len a) rfl fun S4 n4 o4 f4=>?_
  have kk:=((k1.trans k2).st (Nat.le_refl _) n3 f3).st (by omega) n4 f4
  have c4:=(f4 _ (by omega)).trans o3
  refine .inl ((of23 hl hm2).mono ?_)
  rintro e S' ⟨tr,rfl,rfl,c',b,rfl,hc',hv',hf'⟩
  show extr _ _ _ _
  rw [extr0,extr1]
  have ga:=hf.gd hc
  have gb:Gd c 7 b:=by
    rw [hv',← hv] at hf'
    exact hf'.gd hc
  refine boxA_of rfl fun S5 k5 n5 o5=>?_
  refine boxA_of rfl fun S6 k6 n6 o6=>?_
  refine stA_of (cs':=c'.cells) ((k6.2 _ (by omega)).trans o5) rfl rfl fun S7 n7 o7 f7=>?_
  refine stA_of ((f7 _ (by omega)).trans o6) (Fo.row_len b) rfl fun S8 n8 o8 f8=>?_
  have k8:Keep S' S8:=((k5.trans k6).st (Nat.le_refl _) n7 f7).st (by omega) n8 f8
  have c8:=(k8.2 _ (by omega)).trans c4
  have a8:=(k8.2 _ (by omega)).trans o4
  rw [bld_of (cs:=[aI 2,.v (.string ⟨#[]⟩),aI 0,.nl]) rfl]
  refine callF_cv' (args:=[aI 13,.a [aI 2,.v (.string ⟨#[]⟩),aI 0,.nl]]) (ans33 13 foT) rfl (cv_2 (.v _) (cv_foq 2 0)) ?_
  refine boxA_of rfl fun S9 k9 n9 o9=>?_
  refine stA_of o9 (Fo.row_len foY) rfl fun SA nA oA fA=>?_
  have kA:=k9.st (Nat.le_refl _) nA fA
  have cA:=(kA.2 _ (by omega)).trans c8
  have aA:=(kA.2 _ (by omega)).trans a8
  have bA:=(kA.2 _ (by omega)).trans o8
  refine L_ldN (n:=4) aA (by omega) (Fo.row_len a) ?_
  refine L_ldN (n:=4) bA (by omega) (Fo.row_len b) ?_
  refine L_callA (ans37 15 a b) ?_
  refine L_ldN (n:=4) aA (by omega) (Fo.row_len a) ?_
  refine L_callA (ans33 13 a) ?_
  refine L_ldN (n:=4) aA (by omega) (Fo.row_len a) ?_
  refine L_ldN (n:=4) bA (by omega) (Fo.row_len b) ?_
  refine L_callA (ans37 17 a b) ?_
  refine news3 fun i j k SB kB hi1 hi2 hj1 hj2 hk1 hk2 hij hik hjk oi oj ok=>?_
  refine stA_of (id:=i) oi (Fo.row_len _) rfl fun SC nC oC fC=>?_
  refine stA_of (id:=j) ((fC _ (Ne.symm hij)).trans oj) (Fo.row_len _) rfl fun SE nE oE fE=>?_
  refine stA_of (id:=k) ((fE _ (Ne.symm hjk)).trans ((fC _ (Ne.symm hik)).trans ok)) (Fo.row_len _) rfl fun SD nD oD fD=>?_
  have iD:=(fD _ hik).trans ((fE _ hij).trans oC)
  have jD:=(fD _ hjk).trans oE
  have kD:Keep SA SD:=((kB.st hi1 nC fC).st hj1 nE fE).st hk1 nD fD
  have cD:=(kD.2 _ (by omega)).trans cA
  have aD:=(kD.2 _ (by omega)).trans aA
  have bD:=(kD.2 _ (by omega)).trans bA
  have yD:=(kD.2 _ (by omega)).trans oA
  have ka:=((kk.trans k8).trans kA).trans kD
  show ∃ q:AV,_
  have la:∀ (P:AV → Prop),(∃ q,(ldN 4 (.p S1.n 0 0) SD fun v S'=>v = q ∧ S' = SD) ∧ P q) = P a.av:=fun P=>J_ldN (n:=4) aD (Fo.row_len a)
  have lb:∀ (P:AV → Prop),(∃ q,(ldN 4 (.p S5.n 0 0) SD fun v S'=>v = q ∧ S' = SD) ∧ P q) = P b.av:=fun P=>J_ldN (n:=4) bD (Fo.row_len b)
  have ly:∀ (P:AV → Prop),(∃ q,(ldN 4 (.p S8.n 0 0) SD fun v S'=>v = q ∧ S' = SD) ∧ P q) = P foY.av:=fun P=>J_ldN (n:=4) yD (Fo.row_len _)
  have li:∀ (P:AV → Prop),(∃ q,(ldN 4 (.p ([i,j,k].headD 0) 0 0) SD fun v S'=>v = q ∧ S' = SD) ∧ P q) = P (foTwo 15 a b).av:=fun P=>J_ldN (id:=i) (n:=4) iD (Fo.row_len _)
  have lj:∀ (P:AV → Prop),(∃ q,(ldN 4 (.p ([i,j,k].tail.headD 0) 0 0) SD fun v S'=>v = q ∧ S' = SD) ∧ P q) = P (foOne 13 a).av:=fun P=>J_ldN (id:=j) (n:=4) jD (Fo.row_len _)
  have lk:∀ (P:AV → Prop),(∃ q,(ldN 4 (.p ([i,j,k].tail.tail.headD 0) 0 0) SD fun v S'=>v = q ∧ S' = SD) ∧ P q) = P (foTwo 17 a b).av:=fun P=>J_ldN (id:=k) (n:=4) oD (Fo.row_len _)
  have lp:∀ (f g:Fo) (P:AV → Prop),(∃ q,(bld [(0,4),(4,4)] [(.v (.int .i64 0)),(.v (.string ByteArray.empty)),(.v (.int .i64 0)),.nl,(.v (.int .i64 0)),(.v (.string ByteArray.empty)),(.v (.int .i64 0)),.nl] [(0,f.av),(1,g.av)] SD fun v S'=>v = q ∧ S' = SD) ∧ P q) = P (.a (f.row ++ g.row)):=fun f g P=>J_by (op:=fun K=>bld _ _ _ SD K) fun K=>bld_pp f g rfl
  (repeat (first | with_reducible_and_instances (first | refine WJ ?_ | refine W (la _) ?_ | refine W (lb _) ?_ | refine W (ly _) ?_ | refine W (li _) ?_ | refine W (lj _) ?_ | refine W (lk _) ?_ | refine W (lp _ _ _) ?_ | refine W (J_ldq (by with_unfolding_all rfl)) ?_) | refine J_cA (ans37 5 b foY) rfl rfl ?_ | refine C_A (ans37 5 b foY) rfl rfl ?_ | refine J_cA (ans33 9 (foTwo 15 a b)) rfl rfl ?_ | refine C_A (ans33 9 (foTwo 15 a b)) rfl rfl ?_ | refine J_cA (ans37 5 a (foOne 9 (foTwo 15 a b))) rfl rfl ?_ | refine C_A (ans37 5 a (foOne 9 (foTwo 15 a b))) rfl rfl ?_ | refine J_cA (ans37 6 (foTwo 5 b foY) (foTwo 5 a (foOne 9 (foTwo 15 a b)))) rfl rfl ?_ | refine C_A (ans37 6 (foTwo 5 b foY) (foTwo 5 a (foOne 9 (foTwo 15 a b)))) rfl rfl ?_ | refine J_cA (ans33 9 (foOne 13 a)) rfl rfl ?_ | refine C_A (ans33 9 (foOne 13 a)) rfl rfl ?_ | refine J_cA (ans37 5 a (foOne 9 (foOne 13 a))) rfl rfl ?_ | refine C_A (ans37 5 a (foOne 9 (foOne 13 a))) rfl rfl ?_ | refine J_cA (ans37 5 a foY) rfl rfl ?_ | refine C_A (ans37 5 a foY) rfl rfl ?_ | refine J_cA (ans33 9 (foTwo 17 a b)) rfl rfl ?_ | refine C_A (ans33 9 (foTwo 17 a b)) rfl rfl ?_ | refine J_cA (ans37 6 (foTwo 5 a foY) (foOne 9 (foTwo 17 a b))) rfl rfl ?_ | refine C_A (ans37 6 (foTwo 5 a foY) (foOne 9 (foTwo 17 a b))) rfl rfl ?_ | refine J_cA (ans37 5 b (foTwo 6 (foTwo 5 a foY) (foOne 9 (foTwo 17 a b)))) rfl rfl ?_ | refine C_A (ans37 5 b (foTwo 6 (foTwo 5 a foY) (foOne 9 (foTwo 17 a b)))) rfl rfl ?_ | refine J_cA (ans33 11 a) rfl rfl ?_ | refine C_A (ans33 11 a) rfl rfl ?_ | refine J_cA (ans33 9 (foOne 11 a)) rfl rfl ?_ | refine C_A (ans33 9 (foOne 11 a)) rfl rfl ?_ | refine J_cA (ans37 6 (foTwo 5 a foY) (foOne 9 (foOne 11 a))) rfl rfl ?_ | refine C_A (ans37 6 (foTwo 5 a foY) (foOne 9 (foOne 11 a))) rfl rfl ?_))
  refine ⟨ppL (stepsL a b),bsl_pp4 rfl (by simp [Fo.row_len]) (by simp [Fo.row_len]) (by simp [Fo.row_len]) (by simp [Fo.row_len]) ⟨rfl,rfl⟩,?_⟩
  have hgd:=steps_gd ga gb
  have hse:=steps_sem hc ga gb
  have hlen:(stepsL a b).length = 4:=rfl
  generalize stepsL a b = pr at *
  show loopV _ _ _ (env13_0 (aB true) (.p R0.n 0 0) (ppL pr) (aI (0:Nat))) _ _
  refine loop13_0 (fun y T=>T = SD ∧ ∃ n:Nat,y = aI n ∧ n ≤ pr.length) (fun y _=>pr.length - ((intA y).getD 0).toNat) ⟨rfl,0,rfl,Nat.zero_le _⟩ ?_
  rintro _ SD ⟨rfl,n,rfl,hn⟩ KE hKE
  unfold b13_0
  rw [lenS_ppL,bin_lss,onB_v]
  refine gd_of (fun hlt=>?_) (fun hge=>?_)
  · have hlt:n < pr.length:=by have:=of_decide_eq_true hlt; omega
    obtain ⟨g1,g2⟩:=hgd _ (List.getElem_mem hlt)
    have hs:=hse _ (List.getElem_mem hlt)
    have t1:=ans36 hc.ok g1.ok
    have t2:=ans36 hc.ok g2.ok
    rw [g1.truth (by decide) hc] at t1
    rw [g2.truth (by decide) hc] at t2
    have l2:=g2.len hc
    have hix:∀ (P:AV → Prop),(∃ q,(ixS 78 8 (ppL pr) (aI n) SD fun v S'=>v = q ∧ S' = SD) ∧ P q) = P (.q (pr[n].1.row ++ pr[n].2.row) 0):=fun P=>J_by (op:=fun K=>ixS _ 8 (ppL pr) (aI n) SD K) fun K=>ixS_ppL hlt
    have ha0:∀ (r:List AV) (P:AV → Prop),(∃ q,(ixA 2 4 (.q r 0) (.v (.int .i64 0)) SD fun v S'=>v = q ∧ S' = SD) ∧ P q) = P (.q r 0):=fun r P=>J_by (op:=fun K=>ixA 2 4 (.q r 0) (.v (.int .i64 0)) SD K) fun K=>ixA_q (z:=0) (by decide)
    have ha1:∀ (r:List AV) (P:AV → Prop),(∃ q,(ixA 2 4 (.q r 0) (.v (.int .i64 1)) SD fun v S'=>v = q ∧ S' = SD) ∧ P q) = P (.q r 4):=fun r P=>J_by (op:=fun K=>ixA 2 4 (.q r 0) (.v (.int .i64 1)) SD K) fun K=>ixA_q (z:=1) (by decide)
    have hl0:∀ (f g:Fo) (P:AV → Prop),(∃ q,(ldN 4 (.q (f.row ++ g.row) 0) SD fun v S'=>v = q ∧ S' = SD) ∧ P q) = P f.av:=fun f g P=>J_by (op:=fun K=>ldN 4 (.q (f.row ++ g.row) 0) SD K) fun K=>ldN_pp0 f g
    have hl1:∀ (f g:Fo) (P:AV → Prop),(∃ q,(ldN 4 (.q (f.row ++ g.row) 4) SD fun v S'=>v = q ∧ S' = SD) ∧ P q) = P g.av:=fun f g P=>J_by (op:=fun K=>ldN 4 (.q (f.row ++ g.row) 4) SD K) fun K=>ldN_pp1 f g
    have hc0:∀ (P:AV → Prop),(∃ q,(ldN 8 (.p R0.n 0 0) SD fun v S'=>v = q ∧ S' = SD) ∧ P q) = P c.av:=fun P=>J_ldN (n:=8) cD rfl
    have x0:∀ (a b:AV) (P:AV → Prop),(∃ q,(extr (.t [a,b]) 0 SD fun v S'=>v = q ∧ S' = SD) ∧ P q) = P a:=fun a b P=>J_by (op:=fun K=>extr (.t [a,b]) 0 SD K) fun K=>extr0
    have x1:∀ (a b:AV) (P:AV → Prop),(∃ q,(extr (.t [a,b]) 1 SD fun v S'=>v = q ∧ S' = SD) ∧ P q) = P b:=fun a b P=>J_by (op:=fun K=>extr (.t [a,b]) 1 SD K) fun K=>extr1
    show ∃ q:AV,_
    (repeat (first | with_reducible_and_instances (first | refine WJ ?_ | refine W (hc0 _) ?_ | refine W (hix _) ?_ | refine W (ha0 _ _) ?_ | refine W (ha1 _ _) ?_ | refine W (hl0 _ _ _) ?_ | refine W (hl1 _ _ _) ?_ | refine W (x0 _ _ _) ?_ | refine W (x1 _ _ _) ?_ | refine W (J_ldq (by with_unfolding_all rfl)) ?_) | refine J_cA (t1) rfl rfl ?_ | refine C_A (t1) rfl rfl ?_ | refine J_cA (t2) rfl rfl ?_ | refine C_A (t2) rfl rfl ?_))
    refine gd_of (fun h=>absurd h (by simp)) (fun _=>?_)
    rw [hs]
    refine callF_ans (ans29 (a:=semC c pr[n].2) (b:=semC c pr[n].2) (by omega)) ?_
    rw [un_not,onB_v]
    refine gd_of (fun h=>absurd h (by simp)) (fun _=>?_)
    rw [show ∀ K:AV → Store → Prop,bin .add 0 (aI n) (.v (.int .i64 1)) SD K = K (aI (n + 1:Nat)) SD from fun K=>bin_add (by omega) (by omega) 0]
    exact hKE _ _ ⟨rfl,n + 1,rfl,hlt⟩ (by simp [intA]; omega)
  · exact ⟨rfl,ka⟩
section
variable {H:Type} {enc:TypeId × Value → H} {w:World} {sp:Nat → Bool} {held:Bool}
theorem opUs:Opens enc Tryz.prog w sp held 25 1 (fun l:List Int=>[aL (fun n=>AV.v (.int .u8 n)) l]) (fun l=>l.length ≤ maxLen ∧ ∀ a ∈ l,(Lit.int .u8 a).wf = true):=opens_slice Tryz.underlying25 (by kernel_rfl) (by decide) opU
end
end Go.Proofs.YtolgpokppnajdaaGreat.G
set_option linter.unusedVariables false
set_option linter.unusedSimpArgs false
namespace Go.Proofs.YtolgpokppnajdaaGreat.G
open Go Go.Ab
set_option maxRecDepth 100000
noncomputable def c15:Code:=(Tryz.f15.body).getD .skip
noncomputable def r15:List ResultVar:=Tryz.f15.results.toList
def env15_0 (y5 y8 y10 y12 y14 y16 y18:AV):List AV:=[y5,y8,y10,y12,y14,y16,y18]
def lv15_0:List Nat:=[5,8,10,12,14,16,18]
def env15_1 (y5 y8 y10 y12 y14 y16 y18 y19:AV):List AV:=[y5,y8,y10,y12,y14,y16,y18,y19]
def lv15_1:List Nat:=[5,8,10,12,14,16,18,19]
def ms15:List (List Nat):=[lv15_0,lv15_1,[]]
def m15 (x0 x1:AV) (S:Store) (Q:PoT):Prop :=
  callF Tryz.prog 31 [] S Q fun v1 S=>un .not v1 S fun v2 S=>onB v2 fun b3=>gd b3 (Q (.ret (.v (.bool false))) S) (callF Tryz.prog 23 [x0,x1] S Q fun v4 S=>extr v4 0 S fun v5 S=>extr v4 1 S fun v6 S=>boxN 42 8 (.a [(.v (.int .i64 0)),.nl,.nl,.nl,.nl,.nl,.nl,.nl]) S fun v7 S=>boxN 24 4 (.a [(.v (.int .i64 0)),(.v (.string ByteArray.empty)),(.v (.int .i64 0)),.nl]) S fun v8 S=>stN 8 v7 v5 S fun v9 S=>stN 4 v8 v6 S fun v10 S=>ldN 8 v7 S fun v11 S=>callF Tryz.prog 35 [v11] S Q fun v12 S=>extr v12 0 S fun v13 S=>extr v12 1 S fun v14 S=>boxN 71 5 (.a [(.v (.int .i64 0)),.nl,.nl,.nl,.nl]) S fun v15 S=>stN 5 v15 v13 S fun v16 S=>(fun S0:Store=>∃ q17:AV,(ldN 8 v7 S fun v18 S=>v18 = q17 ∧ S = S0) ∧ ∃ q19:AV,(bld [(0,1),(1,1),(2,1),(3,1)] [(.v (.int .i64 0)),(.v (.string ByteArray.empty)),(.v (.int .i64 0)),.nl] [(0,(.v (.int .i64 2)))] S fun v20 S=>v20 = q19 ∧ S = S0) ∧ ∃ q21:AV,(callF Tryz.prog 33 [(.v (.int .i64 13)),q19] S (fun _ _=>False) fun v22 S=>v22 = q21 ∧ S = S0) ∧ ∃ q23:AV,(callF Tryz.prog 36 [q17,q21] S (fun _ _=>False) fun v24 S=>v24 = q23 ∧ S = S0) ∧ ∃ q25:AV,(extr q23 0 S fun v26 S=>v26 = q25 ∧ S = S0) ∧ ∃ q27:AV,(extr q23 1 S fun v28 S=>v28 = q27 ∧ S = S0) ∧ ldN 8 v7 S fun v29 S=>ldN 4 v8 S fun v30 S=>callF Tryz.prog 36 [v29,v30] S Q fun v31 S=>extr v31 0 S fun v32 S=>extr v31 1 S fun v33 S=>(fun S0:Store=>∃ q34:AV,(ldN 8 v7 S fun v35 S=>v35 = q34 ∧ S = S0) ∧ ∃ q36:AV,(ldN 4 v8 S fun v37 S=>v37 = q36 ∧ S = S0) ∧ ∃ q38:AV,(callF Tryz.prog 33 [(.v (.int .i64 14)),q36] S (fun _ _=>False) fun v39 S=>v39 = q38 ∧ S = S0) ∧ ∃ q40:AV,(callF Tryz.prog 36 [q34,q38] S (fun _ _=>False) fun v41 S=>v41 = q40 ∧ S = S0) ∧ ∃ q42:AV,(extr q40 0 S fun v43 S=>v43 = q42 ∧ S = S0) ∧ ∃ q44:AV,(extr q40 1 S fun v45 S=>v45 = q44 ∧ S = S0) ∧ (fun S0:Store=>∃ q46:AV,(ldN 8 v7 S fun v47 S=>v47 = q46 ∧ S = S0) ∧ ∃ q48:AV,(ldN 4 v8 S fun v49 S=>v49 = q48 ∧ S = S0) ∧ ∃ q50:AV,(callF Tryz.prog 33 [(.v (.int .i64 11)),q48] S (fun _ _=>False) fun v51 S=>v51 = q50 ∧ S = S0) ∧ ∃ q52:AV,(callF Tryz.prog 36 [q46,q50] S (fun _ _=>False) fun v53 S=>v53 = q52 ∧ S = S0) ∧ ∃ q54:AV,(extr q52 0 S fun v55 S=>v55 = q54 ∧ S = S0) ∧ ∃ q56:AV,(extr q52 1 S fun v57 S=>v57 = q56 ∧ S = S0) ∧ (fun S0:Store=>∃ q58:AV,(bin .neq 0 q27 (.v (.int .i64 0)) S0 fun v59 S=>v59 = q58 ∧ S = S0) ∧ ∃ t60:Bool,wantT q58 false = some t60 ∧ ∃ q61:AV,gd t60 (q61 = v33) (q61 = .v undef) ∧ ∃ t62:Bool,wantT q58 false = some t62 ∧ ∃ q63:AV,gd t62 (bin .neq 0 q61 (.v (.int .i64 0)) S0 fun v64 S=>v64 = q63 ∧ S = S0) (q63 = .v undef) ∧ ∃ q65:AV,(pick q58 (.v (.bool true)) q63 S0 fun v66 S=>v66 = q65 ∧ S = S0) ∧ ∃ t67:Bool,wantT q65 false = some t67 ∧ ∃ q68:AV,gd t67 (q68 = q44) (q68 = .v undef) ∧ ∃ t69:Bool,wantT q65 false = some t69 ∧ ∃ q70:AV,gd t69 (bin .neq 0 q68 (.v (.int .i64 0)) S0 fun v71 S=>v71 = q70 ∧ S = S0) (q70 = .v undef) ∧ ∃ q72:AV,(pick q65 (.v (.bool true)) q70 S0 fun v73 S=>v73 = q72 ∧ S = S0) ∧ ∃ t74:Bool,wantT q72 false = some t74 ∧ ∃ q75:AV,gd t74 (q75 = q56) (q75 = .v undef) ∧ ∃ t76:Bool,wantT q72 false = some t76 ∧ ∃ q77:AV,gd t76 (bin .neq 0 q75 (.v (.int .i64 0)) S0 fun v78 S=>v78 = q77 ∧ S = S0) (q77 = .v undef) ∧ ∃ q79:AV,(pick q72 (.v (.bool true)) q77 S0 fun v80 S=>v80 = q79 ∧ S = S0) ∧ ∃ t81:Bool,wantT q79 false = some t81 ∧ ∃ q82:AV,gd t81 (q82 = v32) (q82 = .v undef) ∧ ∃ t83:Bool,wantT q79 false = some t83 ∧ ∃ q84:AV,gd t83 (lenS q82 S0 fun v85 S=>v85 = q84 ∧ S = S0) (q84 = .v undef) ∧ ∃ t86:Bool,wantT q79 false = some t86 ∧ ∃ q87:AV,gd t86 (shift v15 1 S0 fun v88 S=>v88 = q87 ∧ S = S0) (q87 = .v undef) ∧ ∃ t89:Bool,wantT q79 false = some t89 ∧ ∃ q90:AV,gd t89 (ld1 q87 S0 fun v91 S=>v91 = q90 ∧ S = S0) (q90 = .v undef) ∧ ∃ t92:Bool,wantT q79 false = some t92 ∧ ∃ q93:AV,gd t92 (lenS q90 S0 fun v94 S=>v94 = q93 ∧ S = S0) (q93 = .v undef) ∧ ∃ t95:Bool,wantT q79 false = some t95 ∧ ∃ q96:AV,gd t95 (bin .neq 0 q84 q93 S0 fun v97 S=>v97 = q96 ∧ S = S0) (q96 = .v undef) ∧ ∃ q98:AV,(pick q79 (.v (.bool true)) q96 S0 fun v99 S=>v99 = q98 ∧ S = S0) ∧ ∃ t100:Bool,wantT q98 false = some t100 ∧ ∃ q101:AV,gd t100 (q101 = q42) (q101 = .v undef) ∧ ∃ t102:Bool,wantT q98 false = some t102 ∧ ∃ q103:AV,gd t102 (lenS q101 S0 fun v104 S=>v104 = q103 ∧ S = S0) (q103 = .v undef) ∧ ∃ t105:Bool,wantT q98 false = some t105 ∧ ∃ q106:AV,gd t105 (q106 = v32) (q106 = .v undef) ∧ ∃ t107:Bool,wantT q98 false = some t107 ∧ ∃ q108:AV,gd t107 (lenS q106 S0 fun v109 S=>v109 = q108 ∧ S = S0) (q108 = .v undef) ∧ ∃ t110:Bool,wantT q98 false = some t110 ∧ ∃ q111:AV,gd t110 (bin .neq 0 q103 q108 S0 fun v112 S=>v112 = q111 ∧ S = S0) (q111 = .v undef) ∧ ∃ q113:AV,(pick q98 (.v (.bool true)) q111 S0 fun v114 S=>v114 = q113 ∧ S = S0) ∧ ∃ t115:Bool,wantT q113 false = some t115 ∧ ∃ q116:AV,gd t115 (q116 = q54) (q116 = .v undef) ∧ ∃ t117:Bool,wantT q113 false = some t117 ∧ ∃ q118:AV,gd t117 (lenS q116 S0 fun v119 S=>v119 = q118 ∧ S = S0) (q118 = .v undef) ∧ ∃ t120:Bool,wantT q113 false = some t120 ∧ ∃ q121:AV,gd t120 (q121 = v32) (q121 = .v undef) ∧ ∃ t122:Bool,wantT q113 false = some t122 ∧ ∃ q123:AV,gd t122 (lenS q121 S0 fun v124 S=>v124 = q123 ∧ S = S0) (q123 = .v undef) ∧ ∃ t125:Bool,wantT q113 false = some t125 ∧ ∃ q126:AV,gd t125 (bin .neq 0 q118 q123 S0 fun v127 S=>v127 = q126 ∧ S = S0) (q126 = .v undef) ∧ ∃ q128:AV,(pick q113 (.v (.bool true)) q126 S0 fun v129 S=>v129 = q128 ∧ S = S0) ∧ ∃ t130:Bool,wantT q128 false = some t130 ∧ ∃ q131:AV,gd t130 (q131 = q25) (q131 = .v undef) ∧ ∃ t132:Bool,wantT q128 false = some t132 ∧ ∃ q133:AV,gd t132 (lenS q131 S0 fun v134 S=>v134 = q133 ∧ S = S0) (q133 = .v undef) ∧ ∃ t135:Bool,wantT q128 false = some t135 ∧ ∃ q136:AV,gd t135 (q136 = v32) (q136 = .v undef) ∧ ∃ t137:Bool,wantT q128 false = some t137 ∧ ∃ q138:AV,gd t137 (lenS q136 S0 fun v139 S=>v139 = q138 ∧ S = S0) (q138 = .v undef) ∧ ∃ t140:Bool,wantT q128 false = some t140 ∧ ∃ q141:AV,gd t140 (bin .neq 0 q133 q138 S0 fun v142 S=>v142 = q141 ∧ S = S0) (q141 = .v undef) ∧ ∃ q143:AV,(pick q128 (.v (.bool true)) q141 S0 fun v144 S=>v144 = q143 ∧ S = S0) ∧ (fun S:Store=>onB q143 fun b145=>gd b145 (Q (.ret (.v (.bool false))) S) (loopV lv15_0 (vc Tryz.prog (c15.at_ [1,1,1,1,1,1,1,1,1,1,0,1,0,0]) (ms15.drop 1)) 202 (env15_0 v1 v15 q25 v32 q42 q54 (.v (.int .i64 0))) S (blockK 0 (seqK (vc Tryz.prog (c15.at_ [1,1,1,1,1,1,1,1,1,1,1]) (ms15.drop 2)) (bodyK Tryz.prog r15 Q))))) S0) S) S) S) S)
theorem calls15 {x0 x1:AV} {S:Store} {Q:PoT} (h:m15 x0 x1 S Q):ACalls Tryz.prog 15 [x0,x1] S Q :=
  calls_of_vc (fn:=Tryz.f15) (c:=c15) (n:=202) Tryz.func15 (by kernel_rfl) (by kernel_rfl) (by kernel_rfl) ms15 (Eq.mpr (by kernel_rfl) h)
def b15_0 (y5 y8 y10 y12 y14 y16 y18:AV) (S:Store) (KE0:KeT) (Q:PoT):Prop :=
  lenS y12 S fun v146 S=>bin .lss 0 y18 v146 S fun v147 S=>onB v147 fun b148=>gd b148 ((fun S0:Store=>∃ q149:AV,(ixS 4 1 y10 y18 S0 fun v150 S=>v150 = q149 ∧ S = S0) ∧ ∃ q151:AV,(ld1 q149 S0 fun v152 S=>v152 = q151 ∧ S = S0) ∧ ∃ t153:Bool,wantT q151 true = some t153 ∧ ∃ q154:AV,gd t153 (q154 = y14) (q154 = .v undef) ∧ ∃ t155:Bool,wantT q151 true = some t155 ∧ ∃ q156:AV,gd t155 (q156 = y18) (q156 = .v undef) ∧ ∃ t157:Bool,wantT q151 true = some t157 ∧ ∃ q158:AV,gd t157 (ixS 4 1 q154 q156 S0 fun v159 S=>v159 = q158 ∧ S = S0) (q158 = .v undef) ∧ ∃ t160:Bool,wantT q151 true = some t160 ∧ ∃ q161:AV,gd t160 (ld1 q158 S0 fun v162 S=>v162 = q161 ∧ S = S0) (q161 = .v undef) ∧ ∃ t163:Bool,wantT q151 true = some t163 ∧ ∃ q164:AV,gd t163 (q164 = q161) (q164 = .v undef) ∧ ∃ t165:Bool,wantT q164 true = some t165 ∧ ∃ q166:AV,gd t165 (q166 = y12) (q166 = .v undef) ∧ ∃ t167:Bool,wantT q164 true = some t167 ∧ ∃ q168:AV,gd t167 (q168 = y18) (q168 = .v undef) ∧ ∃ t169:Bool,wantT q164 true = some t169 ∧ ∃ q170:AV,gd t169 (ixS 4 1 q166 q168 S0 fun v171 S=>v171 = q170 ∧ S = S0) (q170 = .v undef) ∧ ∃ t172:Bool,wantT q164 true = some t172 ∧ ∃ q173:AV,gd t172 (ld1 q170 S0 fun v174 S=>v174 = q173 ∧ S = S0) (q173 = .v undef) ∧ ∃ t175:Bool,wantT q164 true = some t175 ∧ ∃ q176:AV,gd t175 (un .not q173 S0 fun v177 S=>v177 = q176 ∧ S = S0) (q176 = .v undef) ∧ ∃ t178:Bool,wantT q151 true = some t178 ∧ ∃ q179:AV,gd t178 (pick q164 q176 (.v (.bool false)) S0 fun v180 S=>v180 = q179 ∧ S = S0) (q179 = .v undef) ∧ ∃ t181:Bool,wantT q151 true = some t181 ∧ ∃ q182:AV,gd t181 (q182 = q179) (q182 = .v undef) ∧ ∃ t183:Bool,wantT q182 false = some t183 ∧ ∃ q184:AV,gd t183 (q184 = y12) (q184 = .v undef) ∧ ∃ t185:Bool,wantT q182 false = some t185 ∧ ∃ q186:AV,gd t185 (q186 = y18) (q186 = .v undef) ∧ ∃ t187:Bool,wantT q182 false = some t187 ∧ ∃ q188:AV,gd t187 (ixS 4 1 q184 q186 S0 fun v189 S=>v189 = q188 ∧ S = S0) (q188 = .v undef) ∧ ∃ t190:Bool,wantT q182 false = some t190 ∧ ∃ q191:AV,gd t190 (ld1 q188 S0 fun v192 S=>v192 = q191 ∧ S = S0) (q191 = .v undef) ∧ ∃ t193:Bool,wantT q182 false = some t193 ∧ ∃ q194:AV,gd t193 (q194 = q191) (q194 = .v undef) ∧ ∃ t195:Bool,wantT q194 true = some t195 ∧ ∃ q196:AV,gd t195 (q196 = y16) (q196 = .v undef) ∧ ∃ t197:Bool,wantT q194 true = some t197 ∧ ∃ q198:AV,gd t197 (q198 = y18) (q198 = .v undef) ∧ ∃ t199:Bool,wantT q194 true = some t199 ∧ ∃ q200:AV,gd t199 (ixS 4 1 q196 q198 S0 fun v201 S=>v201 = q200 ∧ S = S0) (q200 = .v undef) ∧ ∃ t202:Bool,wantT q194 true = some t202 ∧ ∃ q203:AV,gd t202 (ld1 q200 S0 fun v204 S=>v204 = q203 ∧ S = S0) (q203 = .v undef) ∧ ∃ t205:Bool,wantT q194 true = some t205 ∧ ∃ q206:AV,gd t205 (un .not q203 S0 fun v207 S=>v207 = q206 ∧ S = S0) (q206 = .v undef) ∧ ∃ t208:Bool,wantT q182 false = some t208 ∧ ∃ q209:AV,gd t208 (pick q194 q206 (.v (.bool false)) S0 fun v210 S=>v210 = q209 ∧ S = S0) (q209 = .v undef) ∧ ∃ t211:Bool,wantT q151 true = some t211 ∧ ∃ q212:AV,gd t211 (pick q182 (.v (.bool true)) q209 S0 fun v213 S=>v213 = q212 ∧ S = S0) (q212 = .v undef) ∧ ∃ q214:AV,(pick q151 q212 (.v (.bool false)) S0 fun v215 S=>v215 = q214 ∧ S = S0) ∧ ∃ t216:Bool,wantT q214 false = some t216 ∧ ∃ q217:AV,gd t216 (q217 = y10) (q217 = .v undef) ∧ ∃ t218:Bool,wantT q214 false = some t218 ∧ ∃ q219:AV,gd t218 (q219 = y18) (q219 = .v undef) ∧ ∃ t220:Bool,wantT q214 false = some t220 ∧ ∃ q221:AV,gd t220 (ixS 4 1 q217 q219 S0 fun v222 S=>v222 = q221 ∧ S = S0) (q221 = .v undef) ∧ ∃ t223:Bool,wantT q214 false = some t223 ∧ ∃ q224:AV,gd t223 (ld1 q221 S0 fun v225 S=>v225 = q224 ∧ S = S0) (q224 = .v undef) ∧ ∃ t226:Bool,wantT q214 false = some t226 ∧ ∃ q227:AV,gd t226 (un .not q224 S0 fun v228 S=>v228 = q227 ∧ S = S0) (q227 = .v undef) ∧ ∃ t229:Bool,wantT q214 false = some t229 ∧ ∃ q230:AV,gd t229 (q230 = q227) (q230 = .v undef) ∧ ∃ t231:Bool,wantT q230 true = some t231 ∧ ∃ q232:AV,gd t231 (shift y8 1 S0 fun v233 S=>v233 = q232 ∧ S = S0) (q232 = .v undef) ∧ ∃ t234:Bool,wantT q230 true = some t234 ∧ ∃ q235:AV,gd t234 (ld1 q232 S0 fun v236 S=>v236 = q235 ∧ S = S0) (q235 = .v undef) ∧ ∃ t237:Bool,wantT q230 true = some t237 ∧ ∃ q238:AV,gd t237 (q238 = y18) (q238 = .v undef) ∧ ∃ t239:Bool,wantT q230 true = some t239 ∧ ∃ q240:AV,gd t239 (ixS 4 1 q235 q238 S0 fun v241 S=>v241 = q240 ∧ S = S0) (q240 = .v undef) ∧ ∃ t242:Bool,wantT q230 true = some t242 ∧ ∃ q243:AV,gd t242 (ld1 q240 S0 fun v244 S=>v244 = q243 ∧ S = S0) (q243 = .v undef) ∧ ∃ t245:Bool,wantT q214 false = some t245 ∧ ∃ q246:AV,gd t245 (pick q230 q243 (.v (.bool false)) S0 fun v247 S=>v247 = q246 ∧ S = S0) (q246 = .v undef) ∧ ∃ t248:Bool,wantT q214 false = some t248 ∧ ∃ q249:AV,gd t248 (q249 = q246) (q249 = .v undef) ∧ ∃ t250:Bool,wantT q249 true = some t250 ∧ ∃ q251:AV,gd t250 (q251 = y14) (q251 = .v undef) ∧ ∃ t252:Bool,wantT q249 true = some t252 ∧ ∃ q253:AV,gd t252 (q253 = y18) (q253 = .v undef) ∧ ∃ t254:Bool,wantT q249 true = some t254 ∧ ∃ q255:AV,gd t254 (ixS 4 1 q251 q253 S0 fun v256 S=>v256 = q255 ∧ S = S0) (q255 = .v undef) ∧ ∃ t257:Bool,wantT q249 true = some t257 ∧ ∃ q258:AV,gd t257 (ld1 q255 S0 fun v259 S=>v259 = q258 ∧ S = S0) (q258 = .v undef) ∧ ∃ t260:Bool,wantT q249 true = some t260 ∧ ∃ q261:AV,gd t260 (un .not q258 S0 fun v262 S=>v262 = q261 ∧ S = S0) (q261 = .v undef) ∧ ∃ t263:Bool,wantT q249 true = some t263 ∧ ∃ q264:AV,gd t263 (q264 = q261) (q264 = .v undef) ∧ ∃ t265:Bool,wantT q264 false = some t265 ∧ ∃ q266:AV,gd t265 (q266 = y16) (q266 = .v undef) ∧ ∃ t267:Bool,wantT q264 false = some t267 ∧ ∃ q268:AV,gd t267 (q268 = y18) (q268 = .v undef) ∧ ∃ t269:Bool,wantT q264 false = some t269 ∧ ∃ q270:AV,gd t269 (ixS 4 1 q266 q268 S0 fun v271 S=>v271 = q270 ∧ S = S0) (q270 = .v undef) ∧ ∃ t272:Bool,wantT q264 false = some t272 ∧ ∃ q273:AV,gd t272 (ld1 q270 S0 fun v274 S=>v274 = q273 ∧ S = S0) (q273 = .v undef) ∧ ∃ t275:Bool,wantT q249 true = some t275 ∧ ∃ q276:AV,gd t275 (pick q264 (.v (.bool true)) q273 S0 fun v277 S=>v277 = q276 ∧ S = S0) (q276 = .v undef) ∧ ∃ t278:Bool,wantT q214 false = some t278 ∧ ∃ q279:AV,gd t278 (pick q249 q276 (.v (.bool false)) S0 fun v280 S=>v280 = q279 ∧ S = S0) (q279 = .v undef) ∧ ∃ q281:AV,(pick q214 (.v (.bool true)) q279 S0 fun v282 S=>v282 = q281 ∧ S = S0) ∧ (fun S:Store=>onB q281 fun b283=>gd b283 (Q (.ret (.v (.bool false))) S) (loopV lv15_1 (vc Tryz.prog (c15.at_ [1,1,1,1,1,1,1,1,1,1,0,1,0,0,1,0,0,1,1,0,0]) (ms15.drop 2)) 202 (env15_1 y5 y8 y10 y12 y14 y16 y18 (.v (.int .i64 0))) S (blockK 2 (blockK 1 (seqK (vc Tryz.prog (c15.at_ [1,1,1,1,1,1,1,1,1,1,0,1,0,0,1,1]) (ms15.drop 2)) (thenK (fgK lv15_0 KE0) (blockK 0 (seqK (vc Tryz.prog (c15.at_ [1,1,1,1,1,1,1,1,1,1,1]) (ms15.drop 2)) (bodyK Tryz.prog r15 Q))))))))) S0) S) (Q (.ret y5) S)
theorem b15_0_eq (y5 y8 y10 y12 y14 y16 y18:AV) (S:Store) (KE0:KeT) (Q:PoT):vc Tryz.prog (c15.at_ [1,1,1,1,1,1,1,1,1,1,0,1,0,0]) (ms15.drop 1) (mkE 202 lv15_0 (env15_0 y5 y8 y10 y12 y14 y16 y18)) S (thenK (fgK lv15_0 KE0) (blockK 0 (seqK (vc Tryz.prog (c15.at_ [1,1,1,1,1,1,1,1,1,1,1]) (ms15.drop 2)) (bodyK Tryz.prog r15 Q)))) = b15_0 y5 y8 y10 y12 y14 y16 y18 S KE0 Q:=by kernel_rfl
theorem loop15_0 {y5 y8 y10 y12 y14 y16:AV} {y180:AV} {S:Store} {Q:PoT} (I:AV → Store → Prop) (μ:AV → Store → Nat) (h0:I y180 S)
    (hr:∀ (y18:AV) (S:Store),I y18 S → ∀ KE0:KeT,(∀ (y18':AV) (S':Store),I y18' S' → μ y18' S' < μ y18 S → KE0 202 (env15_0 y5 y8 y10 y12 y14 y16 y18') S') → b15_0 y5 y8 y10 y12 y14 y16 y18 S KE0 Q) :
    loopV lv15_0 (vc Tryz.prog (c15.at_ [1,1,1,1,1,1,1,1,1,1,0,1,0,0]) (ms15.drop 1)) 202 (env15_0 y5 y8 y10 y12 y14 y16 y180) S (blockK 0 (seqK (vc Tryz.prog (c15.at_ [1,1,1,1,1,1,1,1,1,1,1]) (ms15.drop 2)) (bodyK Tryz.prog r15 Q))):=by
  refine ⟨fun n e S=>n = 202 ∧ ∃ y18:AV,e = (env15_0 y5 y8 y10 y12 y14 y16 y18) ∧ I y18 S,fun _ e S=>μ (e.getD 6 .j) S,?_,?_⟩
  · exact ⟨_,_,Wk.refl _ _,rfl,_,rfl,h0⟩
  · rintro _ e S ⟨rfl,y18,rfl,hI⟩
    exact (b15_0_eq _ _ _ _ _ _ _ _ _ _).mpr (hr y18 S hI _ (fun y18' S' hI' hm=>⟨_,_,Wk.refl _ _,⟨rfl,_,rfl,hI'⟩,hm⟩))
def b15_1 (y5 y8 y10 y12 y14 y16 y18 y19:AV) (S:Store) (KE1:KeT) (KE0:KeT) (Q:PoT):Prop :=
  shift y8 3 S fun v284 S=>ld1 v284 S fun v285 S=>ixS 34 1 v285 y18 S fun v286 S=>ld1 v286 S fun v287 S=>lenS v287 S fun v288 S=>bin .lss 0 y19 v288 S fun v289 S=>onB v289 fun b290=>gd b290 (ixS 4 1 y14 y18 S fun v291 S=>ld1 v291 S fun v292 S=>onB v292 fun b293=>gd b293 (ixS 4 1 y10 y18 S fun v294 S=>ld1 v294 S fun v295 S=>onB v295 fun b296=>gd b296 (shift y8 3 S fun v297 S=>ld1 v297 S fun v298 S=>ixS 34 1 v298 y18 S fun v299 S=>ld1 v299 S fun v300 S=>ixS 3 1 v300 y19 S fun v301 S=>ld1 v301 S fun v302 S=>ixS 4 1 y14 v302 S fun v303 S=>ld1 v303 S fun v304 S=>un .not v304 S fun v305 S=>onB v305 fun b306=>gd b306 (Q (.ret (.v (.bool false))) S) (bin .add 0 y19 (.v (.int .i64 1)) S fun v307 S=>KE1 202 (env15_1 y5 y8 y10 y12 y14 y16 y18 v307) S)) (bin .add 0 y19 (.v (.int .i64 1)) S fun v308 S=>KE1 202 (env15_1 y5 y8 y10 y12 y14 y16 y18 v308) S)) (bin .add 0 y19 (.v (.int .i64 1)) S fun v309 S=>KE1 202 (env15_1 y5 y8 y10 y12 y14 y16 y18 v309) S)) (bin .add 0 y18 (.v (.int .i64 1)) S fun v310 S=>KE0 202 (env15_0 y5 y8 y10 y12 y14 y16 v310) S)
theorem b15_1_eq (y5 y8 y10 y12 y14 y16 y18 y19:AV) (S:Store) (KE1:KeT) (KE0:KeT) (Q:PoT):vc Tryz.prog (c15.at_ [1,1,1,1,1,1,1,1,1,1,0,1,0,0,1,0,0,1,1,0,0]) (ms15.drop 2) (mkE 202 lv15_1 (env15_1 y5 y8 y10 y12 y14 y16 y18 y19)) S (thenK (fgK lv15_1 KE1) (blockK 2 (blockK 1 (seqK (vc Tryz.prog (c15.at_ [1,1,1,1,1,1,1,1,1,1,0,1,0,0,1,1]) (ms15.drop 2)) (thenK (fgK lv15_0 KE0) (blockK 0 (seqK (vc Tryz.prog (c15.at_ [1,1,1,1,1,1,1,1,1,1,1]) (ms15.drop 2)) (bodyK Tryz.prog r15 Q)))))))) = b15_1 y5 y8 y10 y12 y14 y16 y18 y19 S KE1 KE0 Q:=by kernel_rfl
theorem loop15_1 {y5 y8 y10 y12 y14 y16 y18:AV} {y190:AV} {S:Store} {KE0:KeT} {Q:PoT} (I:AV → Store → Prop) (μ:AV → Store → Nat) (h0:I y190 S)
    (hr:∀ (y19:AV) (S:Store),I y19 S → ∀ KE1:KeT,(∀ (y19':AV) (S':Store),I y19' S' → μ y19' S' < μ y19 S → KE1 202 (env15_1 y5 y8 y10 y12 y14 y16 y18 y19') S') → b15_1 y5 y8 y10 y12 y14 y16 y18 y19 S KE1 KE0 Q) :
    loopV lv15_1 (vc Tryz.prog (c15.at_ [1,1,1,1,1,1,1,1,1,1,0,1,0,0,1,0,0,1,1,0,0]) (ms15.drop 2)) 202 (env15_1 y5 y8 y10 y12 y14 y16 y18 y190) S (blockK 2 (blockK 1 (seqK (vc Tryz.prog (c15.at_ [1,1,1,1,1,1,1,1,1,1,0,1,0,0,1,1]) (ms15.drop 2)) (thenK (fgK lv15_0 KE0) (blockK 0 (seqK (vc Tryz.prog (c15.at_ [1,1,1,1,1,1,1,1,1,1,1]) (ms15.drop 2)) (bodyK Tryz.prog r15 Q))))))):=by
  refine ⟨fun n e S=>n = 202 ∧ ∃ y19:AV,e = (env15_1 y5 y8 y10 y12 y14 y16 y18 y19) ∧ I y19 S,fun _ e S=>μ (e.getD 7 .j) S,?_,?_⟩
  · exact ⟨_,_,Wk.refl _ _,rfl,_,rfl,h0⟩
  · rintro _ e S ⟨rfl,y19,rfl,hI⟩
    exact (b15_1_eq _ _ _ _ _ _ _ _ _ _ _ _).mpr (hr y19 S hI _ (fun y19' S' hI' hm=>⟨_,_,Wk.refl _ _,⟨rfl,_,rfl,hI'⟩,hm⟩))
end Go.Proofs.YtolgpokppnajdaaGreat.G
set_option linter.unusedVariables false
set_option linter.unusedSimpArgs false
namespace Go.Proofs.YtolgpokppnajdaaGreat.G
open Go Go.Ab
set_option linter.unusedSectionVars false
theorem next_valid {c:Ci} (hc:MadeC c) {i:Nat} {k:Int} (h:k ∈ nx (spOf c) i):bit (spOf c).valid k.toNat = true:=by
  obtain ⟨_,m,h1,h2,h3,h4,h5,h6,h7⟩:=made_sp hc.right hc.inp.2 hc.lats.2
  unfold nx at h
  rcases Nat.lt_or_ge i (2 ^ m) with hi | hi
  · obtain ⟨q,fl,hf⟩:=nextF hc.right h1 (by omega) hi
    rw [List.getD_eq_getElem?_getD,hf.next] at h
    simp only [Option.getD_some,List.mem_map] at h
    obtain ⟨y,hy,rfl⟩:=h
    have:=(hf.mem y hy).2
    rw [Int.toNat_natCast]
    exact this
  · rw [List.getD_eq_getElem?_getD,List.getElem?_eq_none (by omega)] at h
    cases h
theorem more_at {c:Ci} (hc:MadeC c) {a:Fo} (ha:Gd c 7 a) (n:Nat) :
    ((bit (semC c foY) n && (bit (semC c (foOne 14 a)) n && !bit (semC c a) n || bit (semC c a) n && !bit (semC c (foOne 11 a)) n)) || (!bit (semC c foY) n && (bit (spOf c).valid n && (!bit (semC c (foOne 14 a)) n || bit (semC c (foOne 11 a)) n)))) = false ∧
    (bit (semC c (foOne 14 a)) n = true → bit (semC c foY) n = true → ∀ k ∈ nx (spOf c) n,bit (semC c (foOne 14 a)) k.toNat = true):=by
  have hs:=made_ok hc
  have ia:=ha.sem
  have hY:=semC_Y c
  have h11:semC c (foOne 11 a) = untilP (spOf c) (egP (spOf c) (spOf c).valid) (spOf c).valid (semC c a):=semC_one 11 a (by decide)
  have h14:semC c (foOne 14 a) = notP (spOf c) (untilP (spOf c) (egP (spOf c) (spOf c).valid) (spOf c).valid (notP (spOf c) (semC c a))):=semC_one 14 a (by decide)
  have hnv:=fun {i k} h=>next_valid hc (i:=i) (k:=k) h
  rw [hY,h11,h14]
  generalize semC c a = p at *
  generalize spOf c = s at *
  have u1:=fun i=>until_at hs (p:=s.valid) (q:=p) ia.len (i:=i)
  have u2:=fun i=>until_at hs (p:=s.valid) (q:=notP s p) (in_not s p).len (i:=i)
  have f1:=until_fair hs (p:=s.valid) (q:=p) ia.len
  have f2:=until_fair hs (p:=s.valid) (q:=notP s p) (in_not s p).len
  have hval:Sub (egP s s.valid) s.valid:=fun i h=>by have:=egs_sub s s.valid i h; rw [bit_and,Bool.and_eq_true] at this; exact this.1
  have lu:(untilP s (egP s s.valid) s.valid (notP s p)).length = s.valid.length:=by simp [untilP,(in_not s p).len]
  refine ⟨?_,fun hg hf k hk=>?_⟩
  · have hp:=ia.sub n
    have hv:=hval n
    have q1:=u1 n
    have q2:=u2 n
    have e1:=f1 n
    have e2:=f2 n
    rw [bit_not] at *
    generalize bit (exP s (untilP s (egP s s.valid) s.valid p)) n = x1 at *
    generalize bit (exP s (untilP s (egP s s.valid) s.valid (notP s p))) n = x2 at *
    generalize bit (untilP s (egP s s.valid) s.valid p) n = w1 at *
    generalize bit (untilP s (egP s s.valid) s.valid (notP s p)) n = w2 at *
    generalize bit (egP s s.valid) n = fr at *
    generalize bit s.valid n = v at *
    generalize bit p n = pp at *
    revert x1 x2 w1 w2 fr v pp
    decide
  · rw [bit_not,Bool.and_eq_true] at hg ⊢
    refine ⟨hnv hk,?_⟩
    cases hw:bit (untilP s (egP s s.valid) s.valid (notP s p)) k.toNat with
    | false=>rfl
    | true =>
      have:=(u2 n).2 ⟨hg.1,.inr ⟨hg.1,(ex_at hs lu).2 ⟨hg.1,k,hk,hw⟩⟩⟩
      rw [this] at hg
      exact absurd hg.2 (by decide)
set_option linter.unusedSectionVars false
section
variable {P:AV → Prop} {S0:Store} {A:AV → Prop}
theorem J_runD {b w:Bool} (h:b = w):(∃ t:Bool,wantT (.v (.bool b)) w = some t ∧ ∃ q,gd t (A q) (q = .v undef) ∧ P q) = ∃ q,A q ∧ P q:=by rw [h]; exact J_run
theorem J_pickD {b:Bool} {x y:AV} (h:b = false):(∃ q,(pick (.v (.bool b)) x y S0 fun v S=>v = q ∧ S = S0) ∧ P q) = P y:=by rw [h]; exact J_pickF
theorem J_skipD {b w:Bool} (h:b = !w):(∃ t:Bool,wantT (.v (.bool b)) w = some t ∧ ∃ q,gd t (A q) (q = .v undef) ∧ P q) = P (.v undef):=by
  rw [h]
  cases w
  · exact J_skipTF
  · exact J_skipFT
theorem J_pickDT {b:Bool} {x y:AV} (h:b = true):(∃ q,(pick (.v (.bool b)) x y S0 fun v S=>v = q ∧ S = S0) ∧ P q) = P x:=by rw [h]; exact J_pickT
theorem J_ex0 {x:AV} {l:List AV}:(∃ q,(extr (.t (x :: l)) 0 S0 fun v S=>v = q ∧ S = S0) ∧ P q) = P x:=J_by (op:=fun K=>extr (.t (x :: l)) 0 S0 K) fun K=>extr0
theorem J_ex1 {x y:AV} {l:List AV}:(∃ q,(extr (.t (x :: y :: l)) 1 S0 fun v S=>v = q ∧ S = S0) ∧ P q) = P y:=J_by (op:=fun K=>extr (.t (x :: y :: l)) 1 S0 K) fun K=>extr1
end
theorem law15 {l m:List Int} (hl:∀ x ∈ l,0 ≤ x ∧ x < 65536) (hm:∀ x ∈ m,0 ≤ x ∧ x < 256):Ans Tryz.prog 15 [aL aW16 l,aL aU8 m] (aB true):=by
  intro S
  refine ACalls.ans_v (calls15 ?_)
  unfold m15
  refine callF_ans ans31 ?_
  rw [un_not,onB_v,show gd (!true) _ _ = _ from rfl]
  refine .inl ((of23 hl hm).mono ?_)
  rintro e R0 ⟨tr,rfl,rfl,c,a,rfl,hc,hv,hf⟩
  show extr _ _ _ _
  rw [extr0,extr1]
  refine boxA_of rfl fun S1 k1 n1 o1=>?_
  refine boxA_of rfl fun S2 k2 n2 o2=>?_
  refine stA_of (cs':=c.cells) ((k2.2 _ (by omega)).trans o1) rfl rfl fun S3 n3 o3 f3=>?_
  refine stA_of ((f3 _ (by omega)).trans o2) (Fo.row_len a) rfl fun S4 n4 o4 f4=>?_
  have kk:=((k1.trans k2).st (Nat.le_refl _) n3 f3).st (by omega) n4 f4
  have c4:=(f4 _ (by omega)).trans o3
  have ga:=hf.gd hc
  rw [ldN_p (n:=8) c4 rfl]
  refine callF_ans (ans35 hc.ok) ?_
  rw [extr0,extr1,(made_sp hc.right hc.inp.2 hc.lats.2).1]
  refine boxA_of rfl fun S5 k5 n5 o5=>?_
  refine stA_of (cs':=(spOf c).cells) o5 rfl rfl fun SD nD oD fD=>?_
  have kD:=k5.st (Nat.le_refl _) nD fD
  have cD:=(kD.2 _ (by omega)).trans c4
  have aD:=(kD.2 _ (by omega)).trans o4
  have ka:=kk.trans kD
  have gY:=gd_Y c
  have gG:=ga.one 14 (by omega)
  have gF:=ga.one 11 (by omega)
  have tY:Ans Tryz.prog 36 [c.av,foY.av] (.t [aL aB (semC c foY),aI 0]):=by have:=ans36 hc.ok gY.ok; rw [gY.truth (by decide) hc] at this; exact this
  have tA:Ans Tryz.prog 36 [c.av,a.av] (.t [aL aB (semC c a),aI 0]):=by have:=ans36 hc.ok ga.ok; rw [ga.truth (by decide) hc] at this; exact this
  have tG:Ans Tryz.prog 36 [c.av,(foOne 14 a).av] (.t [aL aB (semC c (foOne 14 a)),aI 0]):=by have:=ans36 hc.ok gG.ok; rw [gG.truth (by decide) hc] at this; exact this
  have tF:Ans Tryz.prog 36 [c.av,(foOne 11 a).av] (.t [aL aB (semC c (foOne 11 a)),aI 0]):=by have:=ans36 hc.ok gF.ok; rw [gF.truth (by decide) hc] at this; exact this
  have oneY:AnsAt Tryz.prog 33 [aI 13,.a [aI 2,.v (.string ⟨#[]⟩),aI 0,.nl]] SD foY.av:=ACalls.conv (args2:=[aI 13,foT.av]) rfl (cv_2 (.v _) (cv_foq 2 0)) (ans33 13 foT SD)
  have eY:=gY.sem.len
  have eA:=ga.sem.len
  have eG:=gG.sem.len
  have eF:=gF.sem.len
  have more:=more_at hc ga
  have hv1:=(made_ok hc).small.h1
  have hsm:=made_ok hc
  have lc:∀ (P:AV → Prop),(∃ q,(ldN 8 (.p R0.n 0 0) SD fun v S'=>v = q ∧ S' = SD) ∧ P q) = P c.av:=fun P=>J_ldN (n:=8) cD rfl
  have la:∀ (P:AV → Prop),(∃ q,(ldN 4 (.p S1.n 0 0) SD fun v S'=>v = q ∧ S' = SD) ∧ P q) = P a.av:=fun P=>J_ldN (n:=4) aD (Fo.row_len a)
  have dc:∀ (K:AV → Store → Prop),ldN 8 (.p R0.n 0 0) SD K = K c.av SD:=fun K=>ldN_p (n:=8) cD rfl
  have da:∀ (K:AV → Store → Prop),ldN 4 (.p S1.n 0 0) SD K = K a.av SD:=fun K=>ldN_p (n:=4) aD (Fo.row_len a)
  have lb:∀ (P:AV → Prop),(∃ q,(bld [(0,1),(1,1),(2,1),(3,1)] [(.v (.int .i64 0)),(.v (.string ByteArray.empty)),(.v (.int .i64 0)),.nl] [(0,(.v (.int .i64 2)))] SD fun v S'=>v = q ∧ S' = SD) ∧ P q) = P (.a [aI 2,.v (.string ⟨#[]⟩),aI 0,.nl]):=fun P=>J_by (op:=fun K=>bld _ _ _ SD K) fun K=>bld_of rfl
  have lv:∀ (P:AV → Prop),(∃ q,(ld1 (.p S4.n 0 (0 + 1)) SD fun v S'=>v = q ∧ S' = SD) ∧ P q) = P (aL aB (spOf c).valid):=fun P=>J_ldp oD rfl rfl
  show ∃ q:AV,_
  (repeat (first | with_reducible_and_instances (first | refine WJ ?_ | refine W (lc _) ?_ | refine W (la _) ?_ | refine W (dc _) ?_ | refine W (da _) ?_ | refine W (lb _) ?_ | refine W (lv _) ?_ | refine W (J_ex0) ?_ | refine W (J_ex1) ?_ | refine W (extr0) ?_ | refine W (extr1) ?_ | refine W (J_runD (by simp [eY,eA,eG,eF])) ?_ | refine W (J_pickD (by simp [eY,eA,eG,eF])) ?_ | refine W (gd_F (by simp [eY,eA,eG,eF])) ?_ | refine W (J_ldq (by with_unfolding_all rfl)) ?_) | refine J_cI (oneY) rfl rfl ?_ | refine C_I (oneY) rfl rfl ?_ | refine J_cA (tY) rfl rfl ?_ | refine C_A (tY) rfl rfl ?_ | refine J_cA (tA) rfl rfl ?_ | refine C_A (tA) rfl rfl ?_ | refine J_cA (ans33 14 a) rfl rfl ?_ | refine C_A (ans33 14 a) rfl rfl ?_ | refine J_cA (tG) rfl rfl ?_ | refine C_A (tG) rfl rfl ?_ | refine J_cA (ans33 11 a) rfl rfl ?_ | refine C_A (ans33 11 a) rfl rfl ?_ | refine J_cA (tF) rfl rfl ?_ | refine C_A (tF) rfl rfl ?_))
  show loopV _ _ _ (env15_0 (aB true) (.p S4.n 0 0) (aL aB (semC c foY)) (aL aB (semC c a)) (aL aB (semC c (foOne 14 a))) (aL aB (semC c (foOne 11 a))) (aI (0:Nat))) _ _
  refine loop15_0 (fun y T=>T = SD ∧ ∃ n:Nat,y = aI n ∧ n ≤ (semC c a).length) (fun y _=>(semC c a).length - ((intA y).getD 0).toNat) ⟨rfl,0,rfl,Nat.zero_le _⟩ ?_
  rintro _ SD ⟨rfl,n,rfl,hn⟩ KE hKE
  unfold b15_0
  rw [lenS_aL,bin_lss,onB_v]
  refine gd_of (fun hlt=>?_) (fun hge=>?_)
  · have hlt:n < (semC c a).length:=by have:=of_decide_eq_true hlt; omega
    obtain ⟨hcond,hnx⟩:=more n
    have inner:loopV lv15_1 (vc Tryz.prog (c15.at_ [1,1,1,1,1,1,1,1,1,1,0,1,0,0,1,0,0,1,1,0,0]) (ms15.drop 2)) 202 (env15_1 (aB true) (.p S4.n 0 0) (aL aB (semC c foY)) (aL aB (semC c a)) (aL aB (semC c (foOne 14 a))) (aL aB (semC c (foOne 11 a))) (aI n) (aI (0:Nat))) SD (blockK 2 (blockK 1 (seqK (vc Tryz.prog (c15.at_ [1,1,1,1,1,1,1,1,1,1,0,1,0,0,1,1]) (ms15.drop 2)) (thenK (fgK lv15_0 KE) (blockK 0 (seqK (vc Tryz.prog (c15.at_ [1,1,1,1,1,1,1,1,1,1,1]) (ms15.drop 2)) (bodyK Tryz.prog r15 fun r S'=>r = .ret (.v (.bool true)) ∧ Keep R0 S'))))))):=by
      have hnn:n < (spOf c).next.length:=by rw [hsm.next]; omega
      have hrow:=hsm.small.h4 _ (List.getElem_mem hnn)
      refine loop15_1 (fun w T=>T = SD ∧ ∃ t:Nat,w = aI t ∧ t ≤ (spOf c).next[n].length) (fun w _=>(spOf c).next[n].length - ((intA w).getD 0).toNat) ⟨rfl,0,rfl,Nat.zero_le _⟩ ?_
      rintro _ SD ⟨rfl,t,rfl,ht⟩ KE1 hKE1
      unfold b15_1
      rw [shift_p,ld1_p oD rfl rfl,ixS_aL hnn,ld1_q,lenS_aL,bin_lss,onB_v]
      refine gd_of (fun hlt1=>?_) (fun hge1=>?_)
      · have hlt1:t < (spOf c).next[n].length:=by have:=of_decide_eq_true hlt1; omega
        have hadd:∀ (T:Store) (K:AV → Store → Prop),bin .add 0 (aI t) (.v (.int .i64 1)) T K = K (aI (t + 1:Nat)) T:=fun T K=>bin_add (by omega) (by omega) 0
        have hμ:(spOf c).next[n].length - ((intA (aI (t + 1:Nat))).getD 0).toNat < (spOf c).next[n].length - ((intA (aI t)).getD 0).toNat:=by simp [intA]; omega
        have go:=hKE1 _ SD ⟨rfl,t + 1,rfl,hlt1⟩ hμ
        rw [ixB (by omega),ld1_q,onB_v]
        refine gd_of (fun h1=>?_) (fun h1=>?_)
        · rw [ixB (by omega),ld1_q,onB_v]
          refine gd_of (fun h2=>?_) (fun h2=>?_)
          · have hmem:(spOf c).next[n][t] ∈ nx (spOf c) n:=by rw [nx_get hnn]; exact List.getElem_mem hlt1
            obtain ⟨hk0,hk1⟩:=nx_rng hsm hmem
            have hg:=hnx h1 h2 _ hmem
            rw [shift_p,ld1_p oD rfl rfl,ixS_aL hnn,ld1_q,ixS_aL hlt1,ld1_q]
            obtain ⟨k,hk⟩:=Int.eq_ofNat_of_zero_le hk0
            rw [hk] at hg hk1 ⊢
            rw [Int.toNat_natCast] at hg hk1
            rw [ixB (by omega),ld1_q,un_not,hg,onB_v]
            refine gd_of (fun h=>absurd h (by simp)) (fun _=>?_)
            rw [hadd]; exact go
          · rw [hadd]; exact go
        · rw [hadd]; exact go
      · rw [show ∀ K:AV → Store → Prop,bin .add 0 (aI n) (.v (.int .i64 1)) SD K = K (aI (n + 1:Nat)) SD from fun K=>bin_add (by omega) (by omega) 0]
        exact hKE _ _ ⟨rfl,n + 1,rfl,hlt⟩ (by simp [intA]; omega)
    have xY:∀ (P:AV → Prop),(∃ q,(ixS 4 1 (aL aB (semC c foY)) (aI n) SD fun v S'=>v = q ∧ S' = SD) ∧ P q) = P (.q [aB (bit (semC c foY) n)] 0):=fun P=>J_by (op:=fun K=>ixS _ 1 (aL aB (semC c foY)) (aI n) SD K) fun K=>ixB (by omega)
    have xA:∀ (P:AV → Prop),(∃ q,(ixS 4 1 (aL aB (semC c a)) (aI n) SD fun v S'=>v = q ∧ S' = SD) ∧ P q) = P (.q [aB (bit (semC c a) n)] 0):=fun P=>J_by (op:=fun K=>ixS _ 1 (aL aB (semC c a)) (aI n) SD K) fun K=>ixB (by omega)
    have xG:∀ (P:AV → Prop),(∃ q,(ixS 4 1 (aL aB (semC c (foOne 14 a))) (aI n) SD fun v S'=>v = q ∧ S' = SD) ∧ P q) = P (.q [aB (bit (semC c (foOne 14 a)) n)] 0):=fun P=>J_by (op:=fun K=>ixS _ 1 (aL aB (semC c (foOne 14 a))) (aI n) SD K) fun K=>ixB (by omega)
    have xF:∀ (P:AV → Prop),(∃ q,(ixS 4 1 (aL aB (semC c (foOne 11 a))) (aI n) SD fun v S'=>v = q ∧ S' = SD) ∧ P q) = P (.q [aB (bit (semC c (foOne 11 a)) n)] 0):=fun P=>J_by (op:=fun K=>ixS _ 1 (aL aB (semC c (foOne 11 a))) (aI n) SD K) fun K=>ixB (by omega)
    have xV:∀ (P:AV → Prop),(∃ q,(ixS 4 1 (aL aB (spOf c).valid) (aI n) SD fun v S'=>v = q ∧ S' = SD) ∧ P q) = P (.q [aB (bit (spOf c).valid n)] 0):=fun P=>J_by (op:=fun K=>ixS _ 1 (aL aB (spOf c).valid) (aI n) SD K) fun K=>ixB (by omega)
    clear hnx hKE more
    generalize bit (semC c foY) n = bY at *
    generalize bit (semC c a) n = bA at *
    generalize bit (semC c (foOne 14 a)) n = bG at *
    generalize bit (semC c (foOne 11 a)) n = bF at *
    generalize bit (spOf c).valid n = bV at *
    show ∃ q:AV,_
    cases bY <;> cases bA <;> cases bG <;> cases bF <;> cases bV <;> first
      | exact absurd hcond (by decide)
      | ((repeat (first | with_reducible_and_instances (first | refine WJ ?_ | refine W (xY _) ?_ | refine W (xA _) ?_ | refine W (xG _) ?_ | refine W (xF _) ?_ | refine W (xV _) ?_ | refine W (lv _) ?_ | refine W (J_ld) ?_ | refine W (J_runD (by decide)) ?_ | refine W (J_skipD (by decide)) ?_ | refine W (J_pickD (by decide)) ?_ | refine W (J_pickDT (by decide)) ?_ | refine W (gd_F (by decide)) ?_ | refine W (J_ldq (by with_unfolding_all rfl)) ?_))); exact inner)
  · exact ⟨rfl,ka⟩
end Go.Proofs.YtolgpokppnajdaaGreat.G
set_option linter.unusedVariables false
set_option linter.unusedSimpArgs false
namespace Go.Proofs.YtolgpokppnajdaaGreat.G
open Go Go.Ab
set_option maxRecDepth 100000
noncomputable def c11:Code:=(Tryz.f11.body).getD .skip
noncomputable def r11:List ResultVar:=Tryz.f11.results.toList
def env11_0 (y7 y12 y14 y16 y18 y20 y22:AV):List AV:=[y7,y12,y14,y16,y18,y20,y22]
def lv11_0:List Nat:=[7,12,14,16,18,20,22]
def ms11:List (List Nat):=[lv11_0,[]]
def m11 (x0 x1 x2:AV) (S:Store) (Q:PoT):Prop :=
  callF Tryz.prog 31 [] S Q fun v1 S=>un .not v1 S fun v2 S=>onB v2 fun b3=>gd b3 (Q (.ret (.v (.bool false))) S) (callF Tryz.prog 23 [x0,x1] S Q fun v4 S=>extr v4 0 S fun v5 S=>extr v4 1 S fun v6 S=>boxN 42 8 (.a [(.v (.int .i64 0)),.nl,.nl,.nl,.nl,.nl,.nl,.nl]) S fun v7 S=>boxN 24 4 (.a [(.v (.int .i64 0)),(.v (.string ByteArray.empty)),(.v (.int .i64 0)),.nl]) S fun v8 S=>stN 8 v7 v5 S fun v9 S=>stN 4 v8 v6 S fun v10 S=>shift v7 0 S fun v11 S=>ld1 v11 S fun v12 S=>shift v7 1 S fun v13 S=>ld1 v13 S fun v14 S=>lenS v14 S fun v15 S=>bin .add 0 v12 v15 S fun v16 S=>bin .gtr 0 v16 (.v (.int .i64 3)) S fun v17 S=>onB v17 fun b18=>gd b18 (Q (.ret v1) S) (callF Tryz.prog 23 [x0,x2] S Q fun v19 S=>extr v19 0 S fun v20 S=>extr v19 1 S fun v21 S=>boxN 42 8 (.a [(.v (.int .i64 0)),.nl,.nl,.nl,.nl,.nl,.nl,.nl]) S fun v22 S=>boxN 24 4 (.a [(.v (.int .i64 0)),(.v (.string ByteArray.empty)),(.v (.int .i64 0)),.nl]) S fun v23 S=>stN 8 v22 v20 S fun v24 S=>stN 4 v23 v21 S fun v25 S=>ldN 8 v7 S fun v26 S=>callF Tryz.prog 35 [v26] S Q fun v27 S=>extr v27 0 S fun v28 S=>extr v27 1 S fun v29 S=>boxN 71 5 (.a [(.v (.int .i64 0)),.nl,.nl,.nl,.nl]) S fun v30 S=>stN 5 v30 v28 S fun v31 S=>ldN 8 v7 S fun v32 S=>ldN 4 v8 S fun v33 S=>callF Tryz.prog 36 [v32,v33] S Q fun v34 S=>extr v34 0 S fun v35 S=>extr v34 1 S fun v36 S=>ldN 8 v7 S fun v37 S=>ldN 4 v23 S fun v38 S=>callF Tryz.prog 36 [v37,v38] S Q fun v39 S=>extr v39 0 S fun v40 S=>extr v39 1 S fun v41 S=>(fun S0:Store=>∃ q42:AV,(ldN 8 v7 S fun v43 S=>v43 = q42 ∧ S = S0) ∧ ∃ q44:AV,(ldN 4 v8 S fun v45 S=>v45 = q44 ∧ S = S0) ∧ ∃ q46:AV,(ldN 4 v23 S fun v47 S=>v47 = q46 ∧ S = S0) ∧ ∃ q48:AV,(callF Tryz.prog 37 [(.v (.int .i64 15)),q44,q46] S (fun _ _=>False) fun v49 S=>v49 = q48 ∧ S = S0) ∧ ∃ q50:AV,(callF Tryz.prog 36 [q42,q48] S (fun _ _=>False) fun v51 S=>v51 = q50 ∧ S = S0) ∧ ∃ q52:AV,(extr q50 0 S fun v53 S=>v53 = q52 ∧ S = S0) ∧ ∃ q54:AV,(extr q50 1 S fun v55 S=>v55 = q54 ∧ S = S0) ∧ (fun S0:Store=>∃ q56:AV,(ldN 8 v7 S fun v57 S=>v57 = q56 ∧ S = S0) ∧ ∃ q58:AV,(bld [(0,1),(1,1),(2,1),(3,1)] [(.v (.int .i64 0)),(.v (.string ByteArray.empty)),(.v (.int .i64 0)),.nl] [(0,(.v (.int .i64 2)))] S fun v59 S=>v59 = q58 ∧ S = S0) ∧ ∃ q60:AV,(callF Tryz.prog 33 [(.v (.int .i64 13)),q58] S (fun _ _=>False) fun v61 S=>v61 = q60 ∧ S = S0) ∧ ∃ q62:AV,(callF Tryz.prog 36 [q56,q60] S (fun _ _=>False) fun v63 S=>v63 = q62 ∧ S = S0) ∧ ∃ q64:AV,(extr q62 0 S fun v65 S=>v65 = q64 ∧ S = S0) ∧ ∃ q66:AV,(extr q62 1 S fun v67 S=>v67 = q66 ∧ S = S0) ∧ (fun S0:Store=>∃ q68:AV,(bin .neq 0 v29 (.v (.int .i64 0)) S0 fun v69 S=>v69 = q68 ∧ S = S0) ∧ ∃ t70:Bool,wantT q68 false = some t70 ∧ ∃ q71:AV,gd t70 (q71 = v36) (q71 = .v undef) ∧ ∃ t72:Bool,wantT q68 false = some t72 ∧ ∃ q73:AV,gd t72 (bin .neq 0 q71 (.v (.int .i64 0)) S0 fun v74 S=>v74 = q73 ∧ S = S0) (q73 = .v undef) ∧ ∃ q75:AV,(pick q68 (.v (.bool true)) q73 S0 fun v76 S=>v76 = q75 ∧ S = S0) ∧ ∃ t77:Bool,wantT q75 false = some t77 ∧ ∃ q78:AV,gd t77 (q78 = v41) (q78 = .v undef) ∧ ∃ t79:Bool,wantT q75 false = some t79 ∧ ∃ q80:AV,gd t79 (bin .neq 0 q78 (.v (.int .i64 0)) S0 fun v81 S=>v81 = q80 ∧ S = S0) (q80 = .v undef) ∧ ∃ q82:AV,(pick q75 (.v (.bool true)) q80 S0 fun v83 S=>v83 = q82 ∧ S = S0) ∧ ∃ t84:Bool,wantT q82 false = some t84 ∧ ∃ q85:AV,gd t84 (q85 = q54) (q85 = .v undef) ∧ ∃ t86:Bool,wantT q82 false = some t86 ∧ ∃ q87:AV,gd t86 (bin .neq 0 q85 (.v (.int .i64 0)) S0 fun v88 S=>v88 = q87 ∧ S = S0) (q87 = .v undef) ∧ ∃ q89:AV,(pick q82 (.v (.bool true)) q87 S0 fun v90 S=>v90 = q89 ∧ S = S0) ∧ ∃ t91:Bool,wantT q89 false = some t91 ∧ ∃ q92:AV,gd t91 (q92 = q66) (q92 = .v undef) ∧ ∃ t93:Bool,wantT q89 false = some t93 ∧ ∃ q94:AV,gd t93 (bin .neq 0 q92 (.v (.int .i64 0)) S0 fun v95 S=>v95 = q94 ∧ S = S0) (q94 = .v undef) ∧ ∃ q96:AV,(pick q89 (.v (.bool true)) q94 S0 fun v97 S=>v97 = q96 ∧ S = S0) ∧ ∃ t98:Bool,wantT q96 false = some t98 ∧ ∃ q99:AV,gd t98 (q99 = q52) (q99 = .v undef) ∧ ∃ t100:Bool,wantT q96 false = some t100 ∧ ∃ q101:AV,gd t100 (lenS q99 S0 fun v102 S=>v102 = q101 ∧ S = S0) (q101 = .v undef) ∧ ∃ t103:Bool,wantT q96 false = some t103 ∧ ∃ q104:AV,gd t103 (shift v30 1 S0 fun v105 S=>v105 = q104 ∧ S = S0) (q104 = .v undef) ∧ ∃ t106:Bool,wantT q96 false = some t106 ∧ ∃ q107:AV,gd t106 (ld1 q104 S0 fun v108 S=>v108 = q107 ∧ S = S0) (q107 = .v undef) ∧ ∃ t109:Bool,wantT q96 false = some t109 ∧ ∃ q110:AV,gd t109 (lenS q107 S0 fun v111 S=>v111 = q110 ∧ S = S0) (q110 = .v undef) ∧ ∃ t112:Bool,wantT q96 false = some t112 ∧ ∃ q113:AV,gd t112 (bin .neq 0 q101 q110 S0 fun v114 S=>v114 = q113 ∧ S = S0) (q113 = .v undef) ∧ ∃ q115:AV,(pick q96 (.v (.bool true)) q113 S0 fun v116 S=>v116 = q115 ∧ S = S0) ∧ ∃ t117:Bool,wantT q115 false = some t117 ∧ ∃ q118:AV,gd t117 (q118 = v35) (q118 = .v undef) ∧ ∃ t119:Bool,wantT q115 false = some t119 ∧ ∃ q120:AV,gd t119 (lenS q118 S0 fun v121 S=>v121 = q120 ∧ S = S0) (q120 = .v undef) ∧ ∃ t122:Bool,wantT q115 false = some t122 ∧ ∃ q123:AV,gd t122 (q123 = q52) (q123 = .v undef) ∧ ∃ t124:Bool,wantT q115 false = some t124 ∧ ∃ q125:AV,gd t124 (lenS q123 S0 fun v126 S=>v126 = q125 ∧ S = S0) (q125 = .v undef) ∧ ∃ t127:Bool,wantT q115 false = some t127 ∧ ∃ q128:AV,gd t127 (bin .neq 0 q120 q125 S0 fun v129 S=>v129 = q128 ∧ S = S0) (q128 = .v undef) ∧ ∃ q130:AV,(pick q115 (.v (.bool true)) q128 S0 fun v131 S=>v131 = q130 ∧ S = S0) ∧ ∃ t132:Bool,wantT q130 false = some t132 ∧ ∃ q133:AV,gd t132 (q133 = v40) (q133 = .v undef) ∧ ∃ t134:Bool,wantT q130 false = some t134 ∧ ∃ q135:AV,gd t134 (lenS q133 S0 fun v136 S=>v136 = q135 ∧ S = S0) (q135 = .v undef) ∧ ∃ t137:Bool,wantT q130 false = some t137 ∧ ∃ q138:AV,gd t137 (q138 = q52) (q138 = .v undef) ∧ ∃ t139:Bool,wantT q130 false = some t139 ∧ ∃ q140:AV,gd t139 (lenS q138 S0 fun v141 S=>v141 = q140 ∧ S = S0) (q140 = .v undef) ∧ ∃ t142:Bool,wantT q130 false = some t142 ∧ ∃ q143:AV,gd t142 (bin .neq 0 q135 q140 S0 fun v144 S=>v144 = q143 ∧ S = S0) (q143 = .v undef) ∧ ∃ q145:AV,(pick q130 (.v (.bool true)) q143 S0 fun v146 S=>v146 = q145 ∧ S = S0) ∧ ∃ t147:Bool,wantT q145 false = some t147 ∧ ∃ q148:AV,gd t147 (q148 = q64) (q148 = .v undef) ∧ ∃ t149:Bool,wantT q145 false = some t149 ∧ ∃ q150:AV,gd t149 (lenS q148 S0 fun v151 S=>v151 = q150 ∧ S = S0) (q150 = .v undef) ∧ ∃ t152:Bool,wantT q145 false = some t152 ∧ ∃ q153:AV,gd t152 (q153 = q52) (q153 = .v undef) ∧ ∃ t154:Bool,wantT q145 false = some t154 ∧ ∃ q155:AV,gd t154 (lenS q153 S0 fun v156 S=>v156 = q155 ∧ S = S0) (q155 = .v undef) ∧ ∃ t157:Bool,wantT q145 false = some t157 ∧ ∃ q158:AV,gd t157 (bin .neq 0 q150 q155 S0 fun v159 S=>v159 = q158 ∧ S = S0) (q158 = .v undef) ∧ ∃ q160:AV,(pick q145 (.v (.bool true)) q158 S0 fun v161 S=>v161 = q160 ∧ S = S0) ∧ (fun S:Store=>onB q160 fun b162=>gd b162 (Q (.ret (.v (.bool false))) S) (loopV lv11_0 (vc Tryz.prog (c11.at_ [1,1,1,1,1,1,1,1,1,1,1,1,0,1,0,0]) (ms11.drop 1)) 154 (env11_0 v1 v30 v35 v40 q52 q64 (.v (.int .i64 0))) S (blockK 0 (seqK (vc Tryz.prog (c11.at_ [1,1,1,1,1,1,1,1,1,1,1,1,1]) (ms11.drop 1)) (bodyK Tryz.prog r11 Q))))) S0) S) S) S))
theorem calls11 {x0 x1 x2:AV} {S:Store} {Q:PoT} (h:m11 x0 x1 x2 S Q):ACalls Tryz.prog 11 [x0,x1,x2] S Q :=
  calls_of_vc (fn:=Tryz.f11) (c:=c11) (n:=154) Tryz.func11 (by kernel_rfl) (by kernel_rfl) (by kernel_rfl) ms11 (Eq.mpr (by kernel_rfl) h)
def b11_0 (y7 y12 y14 y16 y18 y20 y22:AV) (S:Store) (KE0:KeT) (Q:PoT):Prop :=
  lenS y18 S fun v163 S=>bin .lss 0 y22 v163 S fun v164 S=>onB v164 fun b165=>gd b165 ((fun S0:Store=>∃ q166:AV,(ixS 4 1 y18 y22 S fun v167 S=>v167 = q166 ∧ S = S0) ∧ ∃ q168:AV,(ld1 q166 S fun v169 S=>v169 = q168 ∧ S = S0) ∧ ∃ q170:AV,(shift y12 1 S fun v171 S=>v171 = q170 ∧ S = S0) ∧ ∃ q172:AV,(ld1 q170 S fun v173 S=>v173 = q172 ∧ S = S0) ∧ ∃ q174:AV,(ixS 4 1 q172 y22 S fun v175 S=>v175 = q174 ∧ S = S0) ∧ ∃ q176:AV,(ld1 q174 S fun v177 S=>v177 = q176 ∧ S = S0) ∧ onB q176 fun b178=>gd b178 (∃ q179:AV,(ldN 5 y12 S fun v180 S=>v180 = q179 ∧ S = S0) ∧ ∃ q181:AV,(callF Tryz.prog 39 [y16,y20] S (fun _ _=>False) fun v182 S=>v182 = q181 ∧ S = S0) ∧ ∃ q183:AV,(lenS y18 S fun v184 S=>v184 = q183 ∧ S = S0) ∧ ∃ q185:AV,(bin .sub 0 q183 (.v (.int .i64 1)) S fun v186 S=>v186 = q185 ∧ S = S0) ∧ ∃ q187:AV,(callF Tryz.prog 38 [q179,y22,y14,q181,q185] S (fun _ _=>False) fun v188 S=>v188 = q187 ∧ S = S0) ∧ ∃ q189:AV,(q187 = q189 ∧ S = S0) ∧ ∃ q190:AV,(bin .neq 1 q168 q189 S fun v191 S=>v191 = q190 ∧ S = S0) ∧ onB q190 fun b192=>gd b192 (Q (.ret (.v (.bool false))) S) (bin .add 0 y22 (.v (.int .i64 1)) S fun v193 S=>KE0 154 (env11_0 y7 y12 y14 y16 y18 y20 v193) S)) (∃ q194:AV,((.v (.bool false)) = q194 ∧ S = S0) ∧ ∃ q195:AV,(bin .neq 1 q168 q194 S fun v196 S=>v196 = q195 ∧ S = S0) ∧ onB q195 fun b197=>gd b197 (Q (.ret (.v (.bool false))) S) (bin .add 0 y22 (.v (.int .i64 1)) S fun v198 S=>KE0 154 (env11_0 y7 y12 y14 y16 y18 y20 v198) S))) S) (Q (.ret y7) S)
theorem b11_0_eq (y7 y12 y14 y16 y18 y20 y22:AV) (S:Store) (KE0:KeT) (Q:PoT):vc Tryz.prog (c11.at_ [1,1,1,1,1,1,1,1,1,1,1,1,0,1,0,0]) (ms11.drop 1) (mkE 154 lv11_0 (env11_0 y7 y12 y14 y16 y18 y20 y22)) S (thenK (fgK lv11_0 KE0) (blockK 0 (seqK (vc Tryz.prog (c11.at_ [1,1,1,1,1,1,1,1,1,1,1,1,1]) (ms11.drop 1)) (bodyK Tryz.prog r11 Q)))) = b11_0 y7 y12 y14 y16 y18 y20 y22 S KE0 Q:=by kernel_rfl
theorem loop11_0 {y7 y12 y14 y16 y18 y20:AV} {y220:AV} {S:Store} {Q:PoT} (I:AV → Store → Prop) (μ:AV → Store → Nat) (h0:I y220 S)
    (hr:∀ (y22:AV) (S:Store),I y22 S → ∀ KE0:KeT,(∀ (y22':AV) (S':Store),I y22' S' → μ y22' S' < μ y22 S → KE0 154 (env11_0 y7 y12 y14 y16 y18 y20 y22') S') → b11_0 y7 y12 y14 y16 y18 y20 y22 S KE0 Q) :
    loopV lv11_0 (vc Tryz.prog (c11.at_ [1,1,1,1,1,1,1,1,1,1,1,1,0,1,0,0]) (ms11.drop 1)) 154 (env11_0 y7 y12 y14 y16 y18 y20 y220) S (blockK 0 (seqK (vc Tryz.prog (c11.at_ [1,1,1,1,1,1,1,1,1,1,1,1,1]) (ms11.drop 1)) (bodyK Tryz.prog r11 Q))):=by
  refine ⟨fun n e S=>n = 154 ∧ ∃ y22:AV,e = (env11_0 y7 y12 y14 y16 y18 y20 y22) ∧ I y22 S,fun _ e S=>μ (e.getD 6 .j) S,?_,?_⟩
  · exact ⟨_,_,Wk.refl _ _,rfl,_,rfl,h0⟩
  · rintro _ e S ⟨rfl,y22,rfl,hI⟩
    exact (b11_0_eq _ _ _ _ _ _ _ _ _ _).mpr (hr y22 S hI _ (fun y22' S' hI' hm=>⟨_,_,Wk.refl _ _,⟨rfl,_,rfl,hI'⟩,hm⟩))
noncomputable def c38:Code:=(Tryz.f38.body).getD .skip
noncomputable def r38:List ResultVar:=Tryz.f38.results.toList
def env38_0 (y1 y2 y3 y4 y5 y11:AV):List AV:=[y1,y2,y3,y4,y5,y11]
def lv38_0:List Nat:=[1,2,3,4,5,11]
def ms38:List (List Nat):=[lv38_0,[]]
def m38 (x0 x1 x2 x3 x4:AV) (S:Store) (Q:PoT):Prop :=
  boxN 71 5 x0 S fun v1 S=>ixS 4 1 x3 x1 S fun v2 S=>ld1 v2 S fun v3 S=>onB v3 fun b4=>gd b4 (Q (.ret (.v (.bool true))) S) (loopV lv38_0 (vc Tryz.prog (c38.at_ [1,1,0,1,0,0]) (ms38.drop 1)) 50 (env38_0 x1 x2 x3 x4 v1 (.v (.int .i64 0))) S (blockK 0 (seqK (vc Tryz.prog (c38.at_ [1,1,1]) (ms38.drop 1)) (bodyK Tryz.prog r38 Q))))
theorem calls38 {x0 x1 x2 x3 x4:AV} {S:Store} {Q:PoT} (h:m38 x0 x1 x2 x3 x4 S Q):ACalls Tryz.prog 38 [x0,x1,x2,x3,x4] S Q :=
  calls_of_vc (fn:=Tryz.f38) (c:=c38) (n:=50) Tryz.func38 (by kernel_rfl) (by kernel_rfl) (by kernel_rfl) ms38 (Eq.mpr (by kernel_rfl) h)
def b38_0 (y1 y2 y3 y4 y5 y11:AV) (S:Store) (KE0:KeT) (Q:PoT):Prop :=
  shift y5 3 S fun v5 S=>ld1 v5 S fun v6 S=>ixS 34 1 v6 y1 S fun v7 S=>ld1 v7 S fun v8 S=>lenS v8 S fun v9 S=>bin .lss 0 y11 v9 S fun v10 S=>onB v10 fun b11=>gd b11 (bin .gtr 0 y4 (.v (.int .i64 0)) S fun v12 S=>onB v12 fun b13=>gd b13 (ixS 4 1 y2 y1 S fun v14 S=>ld1 v14 S fun v15 S=>onB v15 fun b16=>gd b16 ((fun S0:Store=>∃ q17:AV,(ldN 5 y5 S fun v18 S=>v18 = q17 ∧ S = S0) ∧ ∃ q19:AV,(shift y5 3 S fun v20 S=>v20 = q19 ∧ S = S0) ∧ ∃ q21:AV,(ld1 q19 S fun v22 S=>v22 = q21 ∧ S = S0) ∧ ∃ q23:AV,(ixS 34 1 q21 y1 S fun v24 S=>v24 = q23 ∧ S = S0) ∧ ∃ q25:AV,(ld1 q23 S fun v26 S=>v26 = q25 ∧ S = S0) ∧ ∃ q27:AV,(ixS 3 1 q25 y11 S fun v28 S=>v28 = q27 ∧ S = S0) ∧ ∃ q29:AV,(ld1 q27 S fun v30 S=>v30 = q29 ∧ S = S0) ∧ ∃ q31:AV,(bin .sub 0 y4 (.v (.int .i64 1)) S fun v32 S=>v32 = q31 ∧ S = S0) ∧ ∃ q33:AV,(callF Tryz.prog 38 [q17,q29,y2,y3,q31] S (fun _ _=>False) fun v34 S=>v34 = q33 ∧ S = S0) ∧ onB q33 fun b35=>gd b35 (Q (.ret (.v (.bool true))) S) (bin .add 0 y11 (.v (.int .i64 1)) S fun v36 S=>KE0 50 (env38_0 y1 y2 y3 y4 y5 v36) S)) S) (Q (.ret (.v (.bool false))) S)) (Q (.ret (.v (.bool false))) S)) (Q (.ret (.v (.bool false))) S)
theorem b38_0_eq (y1 y2 y3 y4 y5 y11:AV) (S:Store) (KE0:KeT) (Q:PoT):vc Tryz.prog (c38.at_ [1,1,0,1,0,0]) (ms38.drop 1) (mkE 50 lv38_0 (env38_0 y1 y2 y3 y4 y5 y11)) S (thenK (fgK lv38_0 KE0) (blockK 0 (seqK (vc Tryz.prog (c38.at_ [1,1,1]) (ms38.drop 1)) (bodyK Tryz.prog r38 Q)))) = b38_0 y1 y2 y3 y4 y5 y11 S KE0 Q:=by kernel_rfl
theorem loop38_0 {y1 y2 y3 y4 y5:AV} {y110:AV} {S:Store} {Q:PoT} (I:AV → Store → Prop) (μ:AV → Store → Nat) (h0:I y110 S)
    (hr:∀ (y11:AV) (S:Store),I y11 S → ∀ KE0:KeT,(∀ (y11':AV) (S':Store),I y11' S' → μ y11' S' < μ y11 S → KE0 50 (env38_0 y1 y2 y3 y4 y5 y11') S') → b38_0 y1 y2 y3 y4 y5 y11 S KE0 Q) :
    loopV lv38_0 (vc Tryz.prog (c38.at_ [1,1,0,1,0,0]) (ms38.drop 1)) 50 (env38_0 y1 y2 y3 y4 y5 y110) S (blockK 0 (seqK (vc Tryz.prog (c38.at_ [1,1,1]) (ms38.drop 1)) (bodyK Tryz.prog r38 Q))):=by
  refine ⟨fun n e S=>n = 50 ∧ ∃ y11:AV,e = (env38_0 y1 y2 y3 y4 y5 y11) ∧ I y11 S,fun _ e S=>μ (e.getD 5 .j) S,?_,?_⟩
  · exact ⟨_,_,Wk.refl _ _,rfl,_,rfl,h0⟩
  · rintro _ e S ⟨rfl,y11,rfl,hI⟩
    exact (b38_0_eq _ _ _ _ _ _ _ _ _).mpr (hr y11 S hI _ (fun y11' S' hI' hm=>⟨_,_,Wk.refl _ _,⟨rfl,_,rfl,hI'⟩,hm⟩))
end Go.Proofs.YtolgpokppnajdaaGreat.G
set_option linter.unusedVariables false
set_option linter.unusedSimpArgs false
namespace Go.Proofs.YtolgpokppnajdaaGreat.G
open Go Go.Ab
set_option linter.unusedSectionVars false
def waysB (s:Sp) (p q:List Bool):Nat → Nat → Bool
  | 0,i=>bit q i
  | k + 1,i=>bit q i || (bit p i && (nx s i).any fun j=>waysB s p q k j.toNat)
theorem ans38 {s:Sp} (hs:SpOk s) {p q:List Bool} (hp:p.length = s.valid.length) (hq:q.length = s.valid.length):∀ (k:Nat),k ≤ 1000000 → ∀ (i:Nat),i < s.valid.length → Ans Tryz.prog 38 [s.av,aI i,aL aB p,aL aB q,aI k] (aB (waysB s p q k i)):=by
  intro k
  induction k with
  | zero =>
    intro _ i hi S
    refine ACalls.ans_v (calls38 ?_)
    unfold m38
    refine boxA_of rfl fun S1 k1 n1 o1=>?_
    rw [ixB (by omega),ld1_q,onB_v,waysB]
    refine gd_of (fun h=>?_) (fun h=>?_)
    · rw [h]; exact ⟨rfl,k1⟩
    · rw [h]
      have hin:i < s.next.length:=by rw [hs.next]; exact hi
      refine loop38_0 (fun y T=>T = S1 ∧ y = aI (0:Nat)) (fun _ _=>0) ⟨rfl,rfl⟩ ?_
      rintro _ S1 ⟨rfl,rfl⟩ KE hKE
      unfold b38_0
      rw [shift_p,ld1_p o1 rfl rfl,ixS_aL hin,ld1_q,lenS_aL,bin_lss,onB_v]
      refine gd_of (fun h1=>?_) (fun h1=>⟨rfl,k1⟩)
      rw [bin_gtr,onB_v]
      exact gd_of (fun h2=>absurd h2 (by decide)) (fun h2=>⟨rfl,k1⟩)
  | succ k ih =>
    intro hk i hi S
    refine ACalls.ans_v (calls38 ?_)
    unfold m38
    refine boxA_of rfl fun S1 k1 n1 o1=>?_
    rw [ixB (by omega),ld1_q,onB_v,waysB]
    refine gd_of (fun h=>?_) (fun h=>?_)
    · rw [h]; exact ⟨rfl,k1⟩
    · rw [h,Bool.false_or]
      have hin:i < s.next.length:=by rw [hs.next]; exact hi
      have hrow:=hs.small.h4 _ (List.getElem_mem hin)
      have hnx:nx s i = s.next[i]:=nx_get hin
      refine loop38_0 (fun y T=>T = S1 ∧ ∃ t:Nat,y = aI t ∧ t ≤ s.next[i].length ∧ ((bit p i && ((s.next[i]).take t).any fun j=>waysB s p q k j.toNat) = false)) (fun y _=>s.next[i].length - ((intA y).getD 0).toNat) ⟨rfl,0,rfl,Nat.zero_le _,by simp⟩ ?_
      rintro _ S1 ⟨rfl,t,rfl,ht,hno⟩ KE hKE
      unfold b38_0
      rw [shift_p,ld1_p o1 rfl rfl,ixS_aL hin,ld1_q,lenS_aL,bin_lss,onB_v]
      refine gd_of (fun h1=>?_) (fun h1=>?_)
      · have hlt:t < s.next[i].length:=by have:=of_decide_eq_true h1; omega
        rw [bin_gtr,onB_v]
        refine gd_of (fun h2=>?_) (fun h2=>absurd (of_decide_eq_false h2) (by omega))
        rw [ixB (by omega),ld1_q,onB_v]
        refine gd_of (fun h3=>?_) (fun h3=>?_)
        · have hmem:s.next[i][t] ∈ nx s i:=by rw [hnx]; exact List.getElem_mem hlt
          obtain ⟨hk0,hk1⟩:=nx_rng hs hmem
          have hj:s.next[i][t] = ((s.next[i][t].toNat:Nat):Int):=by omega
          have call:=ih (by omega) s.next[i][t].toNat hk1
          rw [← hj] at call
          have lS:∀ (P:AV → Prop),(∃ q,(ldN 5 (.p S.n 0 0) S1 fun v S'=>v = q ∧ S' = S1) ∧ P q) = P s.av:=fun P=>J_ldN (n:=5) o1 rfl
          have lN:∀ (P:AV → Prop),(∃ q,(ld1 (.p S.n 0 (0 + 3)) S1 fun v S'=>v = q ∧ S' = S1) ∧ P q) = P (aL (aL aI) s.next):=fun P=>J_ldp o1 rfl rfl
          have x1:∀ (P:AV → Prop),(∃ q,(ixS 34 1 (aL (aL aI) s.next) (aI i) S1 fun v S'=>v = q ∧ S' = S1) ∧ P q) = P (.q [aL aI s.next[i]] 0):=fun P=>J_by (op:=fun K=>ixS _ 1 (aL (aL aI) s.next) (aI i) S1 K) fun K=>ixS_aL hin
          have x2:∀ (P:AV → Prop),(∃ q,(ixS 3 1 (aL aI s.next[i]) (aI t) S1 fun v S'=>v = q ∧ S' = S1) ∧ P q) = P (.q [aI s.next[i][t]] 0):=fun P=>J_by (op:=fun K=>ixS _ 1 (aL aI s.next[i]) (aI t) S1 K) fun K=>ixS_aL hlt
          have sb:∀ (P:AV → Prop),(∃ q,(bin .sub 0 (aI ((k + 1:Nat):Int)) (.v (.int .i64 1)) S1 fun v S'=>v = q ∧ S' = S1) ∧ P q) = P (aI k):=fun P=>J_by (op:=fun K=>bin .sub 0 (aI ((k + 1:Nat):Int)) (.v (.int .i64 1)) S1 K) fun K=>(bin_sub (by omega) (by omega) 0).trans (by rw [show ((k + 1:Nat):Int) - 1 = k by omega])
          show ∃ q:AV,_
          (repeat (first | with_reducible_and_instances (first | refine WJ ?_ | refine W (lS _) ?_ | refine W (lN _) ?_ | refine W (x1 _) ?_ | refine W (x2 _) ?_ | refine W (sb _) ?_ | refine W (J_ldq (by with_unfolding_all rfl)) ?_) | refine J_cA (call) rfl rfl ?_ | refine C_A (call) rfl rfl ?_))
          refine gd_of (fun h4=>?_) (fun h4=>?_)
          · rw [h3,Bool.true_and,hnx]
            have:((s.next[i]).any fun j=>waysB s p q k j.toNat) = true:=List.any_eq_true.2 ⟨_,List.getElem_mem hlt,h4⟩
            rw [this]
            exact ⟨rfl,k1⟩
          · rw [show ∀ K:AV → Store → Prop,bin .add 0 (aI t) (.v (.int .i64 1)) S1 K = K (aI (t + 1:Nat)) S1 from fun K=>bin_add (by omega) (by omega) 0]
            refine hKE _ _ ⟨rfl,t + 1,rfl,hlt,?_⟩ (by simp [intA]; omega)
            rw [h3,Bool.true_and] at hno ⊢
            rw [List.take_add_one,List.getElem?_eq_getElem hlt,List.any_append,hno]
            simpa using h4
        · rw [h3]; exact ⟨rfl,k1⟩
      · have hge:t = s.next[i].length:=by have:=of_decide_eq_false h1; omega
        subst hge
        rw [List.take_length] at hno
        rw [hnx,hno]
        exact ⟨rfl,k1⟩
set_option linter.unusedSectionVars false
section
variable {s:Sp} {p q:List Bool}
theorem ways_succ {k i:Nat}:waysB s p q (k + 1) i = true ↔ bit q i = true ∨ bit p i = true ∧ ∃ j ∈ nx s i,waysB s p q k j.toNat = true:=by
  simp only [waysB,Bool.or_eq_true,Bool.and_eq_true,List.any_eq_true]
theorem ways_up:∀ (k i:Nat),waysB s p q k i = true → waysB s p q (k + 1) i = true
  | 0,i,h=>ways_succ.2 (.inl h)
  | k + 1,i,h=>by
    rcases ways_succ.1 h with h | ⟨h1,j,h2,h3⟩
    · exact ways_succ.2 (.inl h)
    · exact ways_succ.2 (.inr ⟨h1,j,h2,ways_up k _ h3⟩)
theorem ways_le {k m i:Nat} (hkm:k ≤ m) (h:waysB s p q k i = true):waysB s p q m i = true:=by
  induction m with
  | zero=>obtain rfl:k = 0:=by omega
          exact h
  | succ m ih =>
    rcases Nat.lt_or_ge m k with hlt | hge
    · obtain rfl:k = m + 1:=by omega
      exact h
    · exact ways_up _ _ (ih hge)
def exactW (s:Sp) (p q:List Bool) (k i:Nat):Prop:=waysB s p q k i = true ∧ ∀ r,r < k → ¬ waysB s p q r i = true
theorem exact_of:∀ (k:Nat) {i:Nat},waysB s p q k i = true → ∃ r,r ≤ k ∧ exactW s p q r i:=by
  intro k
  induction k with
  | zero=>exact fun h=>⟨0,Nat.le_refl _,h,fun r hr=>by omega⟩
  | succ k ih =>
    intro i h
    by_cases hk:waysB s p q k i = true
    · obtain ⟨r,h1,h2⟩:=ih hk
      exact ⟨r,by omega,h2⟩
    · exact ⟨k + 1,Nat.le_refl _,h,fun r hr hw=>hk (ways_le (by omega) hw)⟩
theorem exact_one {k r i:Nat} (h:exactW s p q k i) (h2:exactW s p q r i):k = r:=by
  rcases Nat.lt_trichotomy k r with hl | hl | hl
  · exact absurd h.1 (h2.2 _ hl)
  · exact hl
  · exact absurd h2.1 (h.2 _ hl)
theorem exact_list (hs:SpOk s):∀ (k i:Nat),i < s.valid.length → exactW s p q k i → ∃ l:List Nat,l.length = k + 1 ∧ l.Nodup ∧ ∀ x ∈ l,x < s.valid.length ∧ ∃ r,r ≤ k ∧ exactW s p q r x
  | 0,i,hi,h=>⟨[i],rfl,by simp,fun x hx=>by
    have:x = i:=by simpa using hx
    subst this
    exact ⟨hi,0,Nat.le_refl _,h⟩⟩
  | k + 1,i,hi,h=>by
    rcases ways_succ.1 h.1 with h1 | ⟨h1,j,h2,h3⟩
    · exact absurd h1 (h.2 0 (by omega))
    · obtain ⟨hj0,hj⟩:=nx_rng hs h2
      have hej:exactW s p q k j.toNat:=⟨h3,fun r hr hw=>h.2 (r + 1) (by omega) (ways_succ.2 (.inr ⟨h1,j,h2,hw⟩))⟩
      obtain ⟨l,l1,l2,l3⟩:=exact_list hs k j.toNat hj hej
      refine ⟨i :: l,by simp [l1],List.nodup_cons.2 ⟨fun hm=>?_,l2⟩,fun x hx=>?_⟩
      · obtain ⟨_,r,hr,he⟩:=l3 i hm
        have:=exact_one h he
        omega
      · rcases List.mem_cons.1 hx with rfl | hx
        · exact ⟨hi,k + 1,Nat.le_refl _,h⟩
        · obtain ⟨h4,r,h5,h6⟩:=l3 x hx
          exact ⟨h4,r,by omega,h6⟩
theorem ways_eu (hs:SpOk s) (hp:In s p) (hq:In s q) {i:Nat} (hi:i < s.valid.length):bit (euP s p q) i = (bit s.valid i && waysB s p q (s.valid.length - 1) i):=by
  have hto:∀ (k i:Nat),waysB s p q k i = true → Reach s p q i:=by
    intro k
    induction k with
    | zero=>exact fun i h=>.base i h (hq.sub i h)
    | succ k ih =>
      intro i h
      rcases ways_succ.1 h with h | ⟨h1,j,h2,h3⟩
      · exact .base i h (hq.sub i h)
      · obtain ⟨hj0,_⟩:=nx_rng hs h2
        exact .step i j.toNat h1 (hp.sub i h1) (by rwa [Int.toNat_of_nonneg hj0]) (ih _ h3)
  have hfrom:∀ i,Reach s p q i → ∃ k,waysB s p q k i = true:=fun i h=>by
    induction h with
    | base i h1 _=>exact ⟨0,h1⟩
    | step i j h1 _ h3 _ ih =>
      obtain ⟨k,hk⟩:=ih
      exact ⟨k + 1,ways_succ.2 (.inr ⟨h1,j,h3,by rw [Int.toNat_natCast]; exact hk⟩)⟩
  rw [Bool.eq_iff_iff,eu_at hs hq.len,Bool.and_eq_true]
  constructor
  · intro h
    refine ⟨reach_valid h,?_⟩
    obtain ⟨k,hk⟩:=hfrom i h
    obtain ⟨r,_,he⟩:=exact_of k hk
    obtain ⟨l,l1,l2,l3⟩:=exact_list hs r i hi he
    have:=nodup_lt _ l l2 fun x hx=>(l3 x hx).1
    exact ways_le (by omega) he.1
  · exact fun h=>hto _ i h.2
end
set_option linter.unusedSectionVars false
theorem law11 {l m m2:List Int} (hl:∀ x ∈ l,0 ≤ x ∧ x < 65536) (hm:∀ x ∈ m,0 ≤ x ∧ x < 256) (hm2:∀ x ∈ m2,0 ≤ x ∧ x < 256):Ans Tryz.prog 11 [aL aW16 l,aL aU8 m,aL aU8 m2] (aB true):=by
  intro S
  refine ACalls.ans_v (calls11 ?_)
  unfold m11
  refine callF_ans ans31 ?_
  rw [un_not,onB_v,show gd (!true) _ _ = _ from rfl]
  refine .inl ((of23 hl hm).mono ?_)
  rintro e R0 ⟨tr,rfl,rfl,c,a,rfl,hc,hv,hf⟩
  show extr _ _ _ _
  rw [extr0,extr1]
  refine boxA_of rfl fun S1 k1 n1 o1=>?_
  refine boxA_of rfl fun S2 k2 n2 o2=>?_
  refine stA_of (cs':=c.cells) ((k2.2 _ (by omega)).trans o1) rfl rfl fun S3 n3 o3 f3=>?_
  refine stA_of ((f3 _ (by omega)).trans o2) (Fo.row_len a) rfl fun S4 n4 o4 f4=>?_
  have kk:=((k1.trans k2).st (Nat.le_refl _) n3 f3).st (by omega) n4 f4
  have c4:=(f4 _ (by omega)).trans o3
  have hinp:=hc.inp
  have hlat:=hc.lats
  rw [shift_p,ld1_p c4 rfl rfl,shift_p,ld1_p c4 rfl rfl,lenS_pL,bin_add (by omega) (by omega),bin_gtr,onB_v]
  refine gd_of (fun _=>⟨rfl,kk⟩) (fun _=>?_)
  refine .inl ((of23 hl hm2).mono ?_)
  rintro e S' ⟨tr,rfl,rfl,c',b,rfl,hc',hv',hf'⟩
  show extr _ _ _ _
  rw [extr0,extr1]
  have ga:=hf.gd hc
  have gb:Gd c 7 b:=by
    rw [hv',← hv] at hf'
    exact hf'.gd hc
  refine boxA_of rfl fun S5 k5 n5 o5=>?_
  refine boxA_of rfl fun S6 k6 n6 o6=>?_
  refine stA_of (cs':=c'.cells) ((k6.2 _ (by omega)).trans o5) rfl rfl fun S7 n7 o7 f7=>?_
  refine stA_of ((f7 _ (by omega)).trans o6) (Fo.row_len b) rfl fun S8 n8 o8 f8=>?_
  have k8:Keep S' S8:=((k5.trans k6).st (Nat.le_refl _) n7 f7).st (by omega) n8 f8
  have c8:=(k8.2 _ (by omega)).trans c4
  have a8:=(k8.2 _ (by omega)).trans o4
  rw [ldN_p (n:=8) c8 rfl]
  refine callF_ans (ans35 hc.ok) ?_
  rw [extr0,extr1,(made_sp hc.right hc.inp.2 hc.lats.2).1]
  refine boxA_of rfl fun S9 k9 n9 o9=>?_
  refine stA_of (cs':=(spOf c).cells) o9 rfl rfl fun SD nD oD fD=>?_
  have kD:=k9.st (Nat.le_refl _) nD fD
  have cD:=(kD.2 _ (by omega)).trans c8
  have aD:=(kD.2 _ (by omega)).trans a8
  have bD:=(kD.2 _ (by omega)).trans o8
  have ka:=(kk.trans k8).trans kD
  have gY:=gd_Y c
  have gU:=ga.two gb 15 (by omega)
  have tY:Ans Tryz.prog 36 [c.av,foY.av] (.t [aL aB (semC c foY),aI 0]):=by have:=ans36 hc.ok gY.ok; rw [gY.truth (by decide) hc] at this; exact this
  have tA:Ans Tryz.prog 36 [c.av,a.av] (.t [aL aB (semC c a),aI 0]):=by have:=ans36 hc.ok ga.ok; rw [ga.truth (by decide) hc] at this; exact this
  have tB:Ans Tryz.prog 36 [c.av,b.av] (.t [aL aB (semC c b),aI 0]):=by have:=ans36 hc.ok gb.ok; rw [gb.truth (by decide) hc] at this; exact this
  have tU:Ans Tryz.prog 36 [c.av,(foTwo 15 a b).av] (.t [aL aB (semC c (foTwo 15 a b)),aI 0]):=by have:=ans36 hc.ok gU.ok; rw [gU.truth (by decide) hc] at this; exact this
  have oneY:AnsAt Tryz.prog 33 [aI 13,.a [aI 2,.v (.string ⟨#[]⟩),aI 0,.nl]] SD foY.av:=ACalls.conv (args2:=[aI 13,foT.av]) rfl (cv_2 (.v _) (cv_foq 2 0)) (ans33 13 foT SD)
  have eY:=gY.sem.len
  have eA:=ga.sem.len
  have eB:=gb.sem.len
  have eU:=gU.sem.len
  have hsm:=made_ok hc
  have hv1:=hsm.small.h1
  have lc:∀ (P:AV → Prop),(∃ q,(ldN 8 (.p R0.n 0 0) SD fun v S'=>v = q ∧ S' = SD) ∧ P q) = P c.av:=fun P=>J_ldN (n:=8) cD rfl
  have la:∀ (P:AV → Prop),(∃ q,(ldN 4 (.p S1.n 0 0) SD fun v S'=>v = q ∧ S' = SD) ∧ P q) = P a.av:=fun P=>J_ldN (n:=4) aD (Fo.row_len a)
  have lb0:∀ (P:AV → Prop),(∃ q,(ldN 4 (.p S5.n 0 0) SD fun v S'=>v = q ∧ S' = SD) ∧ P q) = P b.av:=fun P=>J_ldN (n:=4) bD (Fo.row_len b)
  have dc:∀ (K:AV → Store → Prop),ldN 8 (.p R0.n 0 0) SD K = K c.av SD:=fun K=>ldN_p (n:=8) cD rfl
  have da:∀ (K:AV → Store → Prop),ldN 4 (.p S1.n 0 0) SD K = K a.av SD:=fun K=>ldN_p (n:=4) aD (Fo.row_len a)
  have db:∀ (K:AV → Store → Prop),ldN 4 (.p S5.n 0 0) SD K = K b.av SD:=fun K=>ldN_p (n:=4) bD (Fo.row_len b)
  have lb:∀ (P:AV → Prop),(∃ q,(bld [(0,1),(1,1),(2,1),(3,1)] [(.v (.int .i64 0)),(.v (.string ByteArray.empty)),(.v (.int .i64 0)),.nl] [(0,(.v (.int .i64 2)))] SD fun v S'=>v = q ∧ S' = SD) ∧ P q) = P (.a [aI 2,.v (.string ⟨#[]⟩),aI 0,.nl]):=fun P=>J_by (op:=fun K=>bld _ _ _ SD K) fun K=>bld_of rfl
  have lv:∀ (P:AV → Prop),(∃ q,(ld1 (.p S8.n 0 (0 + 1)) SD fun v S'=>v = q ∧ S' = SD) ∧ P q) = P (aL aB (spOf c).valid):=fun P=>J_ldp oD rfl rfl
  (repeat (first | with_reducible_and_instances (first | refine WJ ?_ | refine W (lc _) ?_ | refine W (la _) ?_ | refine W (lb0 _) ?_ | refine W (dc _) ?_ | refine W (da _) ?_ | refine W (db _) ?_ | refine W (lb _) ?_ | refine W (lv _) ?_ | refine W (J_ex0) ?_ | refine W (J_ex1) ?_ | refine W (extr0) ?_ | refine W (extr1) ?_ | refine W (J_runD (by simp [eY,eA,eB,eU])) ?_ | refine W (J_pickD (by simp [eY,eA,eB,eU])) ?_ | refine W (gd_F (by simp [eY,eA,eB,eU])) ?_ | refine W (J_ldq (by with_unfolding_all rfl)) ?_) | refine J_cA (tA) rfl rfl ?_ | refine C_A (tA) rfl rfl ?_ | refine J_cA (tB) rfl rfl ?_ | refine C_A (tB) rfl rfl ?_ | refine J_cA (ans37 15 a b) rfl rfl ?_ | refine C_A (ans37 15 a b) rfl rfl ?_ | refine J_cA (tU) rfl rfl ?_ | refine C_A (tU) rfl rfl ?_ | refine J_cI (oneY) rfl rfl ?_ | refine C_I (oneY) rfl rfl ?_ | refine J_cA (tY) rfl rfl ?_ | refine C_A (tY) rfl rfl ?_))
  have hU:semC c (foTwo 15 a b) = euP (spOf c) (semC c a) (andP (semC c b) (semC c foY)):=by
    rw [semC_Y]; exact semC_two 15 a b (by decide)
  have iA:=ga.sem
  have iQ:In (spOf c) (andP (semC c b) (semC c foY)):=gb.sem.and
  have hways:=fun {i} hi=>ways_eu hsm iA iQ (i:=i) hi
  rw [← hU] at hways
  have hcall:=ans38 hsm (p:=semC c a) (q:=andP (semC c b) (semC c foY)) eA iQ.len ((spOf c).valid.length - 1) (by omega)
  have hand:=ans39 (a:=semC c b) (b:=semC c foY) (by omega) (by omega)
  show loopV _ _ _ (env11_0 (aB true) (.p S8.n 0 0) (aL aB (semC c a)) (aL aB (semC c b)) (aL aB (semC c (foTwo 15 a b))) (aL aB (semC c foY)) (aI (0:Nat))) _ _
  generalize semC c (foTwo 15 a b) = u at *
  refine loop11_0 (fun y T=>T = SD ∧ ∃ n:Nat,y = aI n ∧ n ≤ u.length) (fun y _=>u.length - ((intA y).getD 0).toNat) ⟨rfl,0,rfl,Nat.zero_le _⟩ ?_
  rintro _ SD ⟨rfl,n,rfl,hn⟩ KE hKE
  unfold b11_0
  rw [lenS_aL,bin_lss,onB_v]
  refine gd_of (fun hlt=>?_) (fun hge=>⟨rfl,ka⟩)
  have hlt:n < u.length:=by have:=of_decide_eq_true hlt; omega
  have hw:=hways (i:=n) (by omega)
  have hcl:=hcall n (by omega)
  have go:=hKE _ SD ⟨rfl,n + 1,rfl,hlt⟩ (by simp [intA]; omega)
  have hadd:∀ (K:AV → Store → Prop),bin .add 0 (aI n) (.v (.int .i64 1)) SD K = K (aI (n + 1:Nat)) SD:=fun K=>bin_add (by omega) (by omega) 0
  have xU:∀ (P:AV → Prop),(∃ q,(ixS 4 1 (aL aB u) (aI n) SD fun v S'=>v = q ∧ S' = SD) ∧ P q) = P (.q [aB (bit u n)] 0):=fun P=>J_by (op:=fun K=>ixS _ 1 (aL aB u) (aI n) SD K) fun K=>ixB hlt
  have xV:∀ (P:AV → Prop),(∃ q,(ixS 4 1 (aL aB (spOf c).valid) (aI n) SD fun v S'=>v = q ∧ S' = SD) ∧ P q) = P (.q [aB (bit (spOf c).valid n)] 0):=fun P=>J_by (op:=fun K=>ixS _ 1 (aL aB (spOf c).valid) (aI n) SD K) fun K=>ixB (by omega)
  have lS:∀ (P:AV → Prop),(∃ q,(ldN 5 (.p S8.n 0 0) SD fun v S'=>v = q ∧ S' = SD) ∧ P q) = P (spOf c).av:=fun P=>J_ldN (n:=5) oD rfl
  have sb:∀ (P:AV → Prop),(∃ q,(bin .sub 0 (aI u.length) (.v (.int .i64 1)) SD fun v S'=>v = q ∧ S' = SD) ∧ P q) = P (aI (((spOf c).valid.length - 1:Nat):Int)):=fun P=>J_by (op:=fun K=>bin .sub 0 (aI u.length) (.v (.int .i64 1)) SD K) fun K=>(bin_sub (by omega) (by omega) 0).trans (by rw [show ((u.length:Nat):Int) - 1 = (((spOf c).valid.length - 1:Nat):Int) by omega])
  show ∃ q:AV,_
  (repeat (first | with_reducible_and_instances (first | refine WJ ?_ | refine W (xU _) ?_ | refine W (xV _) ?_ | refine W (lv _) ?_ | refine W (J_ld) ?_ | refine W (J_ldq (by with_unfolding_all rfl)) ?_)))
  refine gd_of (fun h=>?_) (fun h=>?_)
  · (repeat (first | with_reducible_and_instances (first | refine WJ ?_ | refine W (lS _) ?_ | refine W (sb _) ?_ | refine W (J_mvS) ?_ | refine W (J_ldq (by with_unfolding_all rfl)) ?_) | refine J_cA (hand) rfl rfl ?_ | refine C_A (hand) rfl rfl ?_ | refine J_cA (hcl) rfl rfl ?_ | refine C_A (hcl) rfl rfl ?_))
    rw [h,Bool.true_and] at hw
    rw [hw]
    refine gd_of (fun h=>absurd h (by simp)) (fun _=>?_)
    rw [hadd]; exact go
  · (repeat (first | with_reducible_and_instances (first | refine WJ ?_ | refine W (J_mvS) ?_ | refine W (J_ldq (by with_unfolding_all rfl)) ?_)))
    rw [h,Bool.false_and] at hw
    rw [hw]
    refine gd_of (fun h=>absurd h (by simp)) (fun _=>?_)
    rw [hadd]; exact go
end Go.Proofs.YtolgpokppnajdaaGreat.G

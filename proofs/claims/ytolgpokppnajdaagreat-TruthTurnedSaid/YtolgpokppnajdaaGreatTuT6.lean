/- Truth -/
import Derived.Test.YtolgpokppnajdaaGreatTuT5
set_option linter.unusedVariables false
set_option linter.unusedSimpArgs false
namespace Go.Proofs.YtolgpokppnajdaaGreat.G
open Go Go.Ab
theorem eqS_ve (v w:Ve) {S:Store} {K:AV → Store → Prop}:eqS [2,1,1] .eql v.av w.av S K = K (aB ((v.holds == w.holds) && ((v.initial == w.initial) && ((v.broken == w.broken) && true)))) S:=by simp [eqS,eqA,eqV,Ve.av,Ve.cells]
theorem eqS_vv (v:Ve) {S:Store} {K:AV → Store → Prop}:eqS [2,1,1] .eql v.av v.av S K = K (aB true) S:=by rw [eqS_ve]; simp
theorem cv_foq {S:Store} {n:Nat} (k l:Int):Cv S n (.a [aI k,.v (.string ⟨#[]⟩),aI l,.nl]) (Fo.mk k ⟨#[]⟩ l []).av:=by
  rw [Fo.av,Fo.row_mk]
  refine .a _ _ rfl fun k u u2 e1 e2=>?_
  match k with
  | 0=>cases e1; cases e2; exact .v _
  | 1=>cases e1; cases e2; exact .v _
  | 2=>cases e1; cases e2; exact .v _
  | 3=>cases e1; cases e2; exact .nl
  | k + 4=>simp at e1
theorem cv_2 {S:Store} {n:Nat} {x x' y y':AV} (h:Cv S n x x') (k:Cv S n y y'):∀ (i:Nat) (u u2:AV),[x,y][i]? = some u → [x',y'][i]? = some u2 → Cv S n u u2
  | 0,_,_,h1,h2=>by cases h1; cases h2; exact h
  | 1,_,_,h1,h2=>by cases h1; cases h2; exact k
  | i + 2,_,_,h1,_=>by simp at h1
theorem ans31:Ans Tryz.prog 31 [] (aB true):=by
  intro S
  refine ACalls.ans_v (calls31 ?_)
  unfold m31
  have okq:∀ l:Int,i64R l → (foQ l).ok:=fun l hl=>.mk _ _ _ _ ⟨by decide,by decide⟩ hl (by decide) (by decide) fun f hf=>by cases hf
  have ok1:∀ (k:Int) (f:Fo),i64R k → f.ok → (foOne k f).ok:=fun k f hk hf=>.mk _ _ _ _ hk ⟨by decide,by decide⟩ (by decide) (by simp) fun g hg=>by
    have:g = f:=by simpa using hg
    subst this; exact hf
  have h1:=ans60 ca0_ok (ok1 14 _ ⟨by decide,by decide⟩ (ok1 12 _ ⟨by decide,by decide⟩ (okq 2 ⟨by decide,by decide⟩)))
  have h2:=ans60 ca0_ok (okq 2 ⟨by decide,by decide⟩)
  have h3:=ans36 ca0_ok (ok1 9 _ ⟨by decide,by decide⟩ (okq 2 ⟨by decide,by decide⟩))
  have h4:=ans36 ca0_ok (okq 4 ⟨by decide,by decide⟩)
  rw [ver_agaf] at h1
  rw [ver_q] at h2
  rw [tru_exq] at h3
  rw [tru_4] at h4
  have hci:∀ (T:Store) (n:Nat),Cv T n (.a [aI 0,.l [[aI 3,aI 0]],.nl,.nl,.nl,.nl,.nl,.nl]) ca0.av:=fun T n=>cv_ci (.v _) (treeP [(3,0)] _ _)
  rw [bld_of (cs:=[aI 3,aI 0]) rfl]
  refine bslP ?_
  rw [bld_of (cs:=[aI 0,.l [[aI 3,aI 0]],.nl,.nl,.nl,.nl,.nl,.nl]) rfl]
  refine boxA_of rfl fun S1 k1 n1 o1=>?_
  refine stA_of (cs':=[aI 0,.l [[aI 3,aI 0]],.nl,.nl,.nl,.nl,.nl,.nl]) o1 rfl rfl fun S2 n2 o2 f2=>?_
  have k2:=k1.st (Nat.le_refl _) n2 f2
  rw [bld_of (cs:=[aI 3,.v (.string ⟨#[]⟩),aI 2,.nl]) rfl]
  refine boxA_of rfl fun S3 k3 n3 o3=>?_
  refine stA_of (cs':=[aI 3,.v (.string ⟨#[]⟩),aI 2,.nl]) o3 rfl rfl fun S4 n4 o4 f4=>?_
  have k4:=k3.st (Nat.le_refl _) n4 f4
  have p4:=(k4.2 _ (by omega)).trans o2
  refine L_ldN (n:=8) p4 (by omega) rfl ?_
  refine L_ldN (n:=4) o4 (by omega) rfl ?_
  refine ⟨_,fun T hT=>callF_cv' (args:=[aI 12,.a [aI 3,.v (.string ⟨#[]⟩),aI 2,.nl]]) (ans33 12 (foQ 2)) rfl (cv_2 (.v _) (cv_foq 3 2)) ⟨rfl,rfl⟩,?_⟩
  refine L_callA (ans33 14 (foOne 12 (foQ 2))) ?_
  refine ⟨_,fun T hT=>callF_cv' (args:=[.a [aI 0,.l [[aI 3,aI 0]],.nl,.nl,.nl,.nl,.nl,.nl],(foOne 14 (foOne 12 (foQ 2))).av]) h1 rfl (cv_2 (hci _ _) (Fo.tr _ _ _)) ⟨rfl,rfl⟩,?_⟩
  refine ⟨_,fun T hT=>by rw [extr0]; exact ⟨rfl,rfl⟩,?_⟩
  refine ⟨_,fun T hT=>by rw [extr1]; exact ⟨rfl,rfl⟩,?_⟩
  refine boxA_of rfl fun S5 k5 n5 o5=>?_
  refine ⟨fun T hT=>by rw [extr1]; exact ⟨rfl,rfl⟩,?_⟩
  refine stA_of (cs':=(⟨true,1,-1⟩:Ve).cells) o5 rfl rfl fun S6 n6 o6 f6=>?_
  have k6:=k5.st (Nat.le_refl _) n6 f6
  refine ⟨fun T hT=>by rw [extr1]; exact ⟨rfl,rfl⟩,?_⟩
  have p6:=(k6.2 _ (by omega)).trans p4
  have q6:=(k6.2 _ (by omega)).trans o4
  rw [ldN_p (n:=8) p6 rfl,ldN_p (n:=4) q6 rfl]
  refine callF_cv' (args:=[.a [aI 0,.l [[aI 3,aI 0]],.nl,.nl,.nl,.nl,.nl,.nl],.a [aI 3,.v (.string ⟨#[]⟩),aI 2,.nl]]) h2 rfl (cv_2 (hci _ _) (cv_foq 3 2)) ?_
  rw [extr0,extr1]
  refine boxA_of rfl fun S7 k7 n7 o7=>?_
  refine stA_of (cs':=(⟨false,1,0⟩:Ve).cells) o7 rfl rfl fun S8 n8 o8 f8=>?_
  have k8:=k7.st (Nat.le_refl _) n8 f8
  have p8:=(k8.2 _ (by omega)).trans p6
  have q8:=(k8.2 _ (by omega)).trans q6
  have v8:=(k8.2 _ (by omega)).trans o6
  have kk:=((k2.trans k4).trans k6).trans k8
  refine ⟨_,by rw [ldN_p (n:=8) p8 rfl]; exact ⟨rfl,rfl⟩,?_⟩
  refine ⟨_,by rw [ldN_p (n:=4) q8 rfl]; exact ⟨rfl,rfl⟩,?_⟩
  refine ⟨_,callF_cv' (args:=[aI 9,.a [aI 3,.v (.string ⟨#[]⟩),aI 2,.nl]]) (ans33 9 (foQ 2)) rfl (cv_2 (.v _) (cv_foq 3 2)) ⟨rfl,rfl⟩,?_⟩
  refine ⟨_,callF_cv' (args:=[.a [aI 0,.l [[aI 3,aI 0]],.nl,.nl,.nl,.nl,.nl,.nl],(foOne 9 (foQ 2)).av]) h3 rfl (cv_2 (hci _ _) (Fo.tr _ _ _)) ⟨rfl,rfl⟩,?_⟩
  refine ⟨_,by rw [extr0]; exact ⟨rfl,rfl⟩,?_⟩
  refine ⟨_,by rw [extr1]; exact ⟨rfl,rfl⟩,?_⟩
  show ldN _ _ _ _
  rw [ldN_p (n:=8) p8 rfl,bld_of (cs:=[aI 3,.v (.string ⟨#[]⟩),aI 4,.nl]) rfl]
  refine callF_cv' (args:=[.a [aI 0,.l [[aI 3,aI 0]],.nl,.nl,.nl,.nl,.nl,.nl],.a [aI 3,.v (.string ⟨#[]⟩),aI 4,.nl]]) h4 rfl (cv_2 (hci _ _) (cv_foq 3 4)) ?_
  rw [extr0,extr1,bin_eql,onB_v,gd_T (decide_eq_true rfl),ldN_p (n:=3) v8 rfl,bld_of (cs:=(⟨true,1,-1⟩:Ve).cells) rfl]
  show eqS _ _ (⟨true,1,-1⟩:Ve).av (⟨true,1,-1⟩:Ve).av _ _
  rw [eqS_vv,onB_v,gd_T rfl,bin_eql,onB_v,gd_T (decide_eq_true rfl),ldN_p (n:=3) o8 rfl,bld_of (cs:=(⟨false,1,0⟩:Ve).cells) rfl]
  show eqS _ _ (⟨false,1,0⟩:Ve).av (⟨false,1,0⟩:Ve).av _ _
  rw [eqS_vv,onB_v,gd_T rfl,bin_eql,onB_v,gd_T (decide_eq_true rfl)]
  refine bsl2 rfl rfl ?_
  refine callF_ans (ans29 (a:=[true,false]) (b:=[true,false]) (by decide)) ?_
  rw [onB_v,gd_T (decide_eq_true rfl),bin_eql,decide_eq_true rfl]
  exact ⟨rfl,kk⟩
theorem news2 {a b:AObj} {S:Store} {K:List Nat → Store → Prop} (h:∀ i j S',Keep S S' → S.n ≤ i → i < S'.n → S.n ≤ j → j < S'.n → i ≠ j → S'.obj i = some a → S'.obj j = some b → K [i,j] S'):newsV [a,b] S K:=by
  intro ids S' hn
  match ids,hn.len with
  | [i,j],_ =>
    have hd:=hn.nodup
    simp only [List.nodup_cons,List.mem_singleton] at hd
    exact h i j S' hn.keep (hn.lo i (by simp)) (hn.hi i (by simp)) (hn.lo j (by simp)) (hn.hi j (by simp)) hd.1 (hn.new 0 i a rfl rfl) (hn.new 1 j b rfl rfl)
structure Gd (c:Ci) (d:Int) (f:Fo):Prop where
  ok:f.ok
  may:f.mayB d = true
  lits:f.litsB c.gr = true
theorem ResV.gd {c:Ci} {f:Fo} (h:ResV c.gr.vars f) (hc:MadeC c):Gd c 7 f:=⟨h.ok,h.may,h.litsC hc⟩
theorem may_pos {f:Fo} {d:Int} (h:f.mayB d = true):0 < d:=by
  cases f with
  | mk k n l ks =>
    rw [Fo.mayB_mk] at h
    simp only [Bool.and_eq_true,decide_eq_true_eq] at h
    exact h.1
theorem Gd.one {c:Ci} {d:Int} {f:Fo} (h:Gd c d f) (k:Int) (hk:k = 4 ∨ 9 ≤ k ∧ k ≤ 14):Gd c (d + 1) (foOne k f):=by
  have hp:=may_pos h.may
  refine ⟨.mk _ _ _ _ ⟨by omega,by omega⟩ ⟨by decide,by decide⟩ (by decide) (by simp) fun g hg=>?_,?_,?_⟩
  · have:g = f:=by simpa using hg
    subst this; exact h.ok
  · rw [Fo.mayB_mk]
    simp only [Bool.and_eq_true,decide_eq_true_eq,List.all_cons,List.all_nil,Bool.and_true]
    refine ⟨by omega,by simp,trivial,?_,?_⟩
    · unfold kidsN
      rw [if_neg (by omega),if_neg (by omega),if_pos hk]
      rfl
    · rw [show d + 1 - 1 = d by omega]; exact h.may
  · rw [Fo.litsB_mk]
    simp only [List.all_cons,List.all_nil,Bool.and_true,h.lits,decide_eq_true (show k ≠ 3 by omega),Bool.true_or]
theorem Gd.two {c:Ci} {d:Int} {f g:Fo} (h:Gd c d f) (h2:Gd c d g) (k:Int) (hk:5 ≤ k ∧ k ≤ 8 ∨ 15 ≤ k ∧ k ≤ 18):Gd c (d + 1) (foTwo k f g):=by
  have hp:=may_pos h.may
  refine ⟨.mk _ _ _ _ ⟨by omega,by omega⟩ ⟨by decide,by decide⟩ (by decide) (by simp) fun x hx=>?_,?_,?_⟩
  · have:x = f ∨ x = g:=by simpa using hx
    rcases this with rfl | rfl
    · exact h.ok
    · exact h2.ok
  · rw [Fo.mayB_mk]
    simp only [Bool.and_eq_true,decide_eq_true_eq,List.all_cons,List.all_nil,Bool.and_true]
    refine ⟨by omega,by simp,trivial,?_,?_⟩
    · unfold kidsN
      rw [if_neg (by omega),if_neg (by omega),if_neg (by omega)]
      rfl
    · rw [show d + 1 - 1 = d by omega]; exact ⟨h.may,h2.may⟩
  · rw [Fo.litsB_mk]
    simp only [List.all_cons,List.all_nil,Bool.and_true,h.lits,h2.lits,decide_eq_true (show k ≠ 3 by omega),Bool.true_or]
theorem Gd.up {c:Ci} {d d':Int} {f:Fo} (h:Gd c d f) (hd:d ≤ d'):Gd c d' f:=⟨h.ok,mayB_mono f hd h.may,h.lits⟩
theorem Gd.truth {c:Ci} {d:Int} {f:Fo} (h:Gd c d f) (hd:d ≤ 60) (hc:MadeC c):truthB c f = (semC c f,0):=by
  have hm:mayC c f = true:=by rw [mayC,hc.right,mayB_mono f hd h.may,h.lits]; rfl
  rw [truthB,if_neg (by rw [hm]; decide),if_pos (by rw [(made_sp hc.right hc.inp.2 hc.lats.2).1])]
theorem Gd.sem {c:Ci} {d:Int} {f:Fo} (h:Gd c d f):In (spOf c) (semC c f):=in_sem (fun l=>in_each _ _) f _ h.may
theorem made_ok {c:Ci} (hc:MadeC c):SpOk (spOf c):=spOf_ok hc.right (by
  obtain ⟨g1,g2,g3⟩:=gr_inp hc.right
  have:=hc.inp
  have:=hc.lats
  omega)
theorem semC_one {c:Ci} (k:Int) (f:Fo) (hk:3 < k):semC c (foOne k f) = oneP (spOf c) (egP (spOf c) (spOf c).valid) k (semC c f):=sem_one hk
theorem semC_two {c:Ci} (k:Int) (f g:Fo) (hk:3 < k):semC c (foTwo k f g) = twoP (spOf c) (egP (spOf c) (spOf c).valid) k (semC c f) (semC c g):=sem_two hk
theorem orP_comm {s:Sp} {a b:List Bool} (ha:In s a) (hb:In s b):orP a b = orP b a:=(ha.or hb).eq (hb.or ha) fun i _=>by
  rw [bit_or (by rw [ha.len,hb.len]),bit_or (by rw [ha.len,hb.len]),Bool.or_comm]
def turnedL (a b:Fo):List (Fo × Fo):=[(foOne 10 a,foOne 9 (foOne 4 a)),(foOne 12 a,foOne 13 (foOne 4 a)),(foOne 14 a,foOne 11 (foOne 4 a)),(foTwo 16 a b,foTwo 17 (foOne 4 a) (foOne 4 b)),(foTwo 18 a b,foTwo 15 (foOne 4 a) (foOne 4 b))]
theorem turned_gd {c:Ci} {a b:Fo} (ha:Gd c 7 a) (hb:Gd c 7 b):∀ p ∈ turnedL a b,Gd c 9 p.1 ∧ Gd c 9 p.2:=by
  have na:=ha.one 4 (.inl rfl)
  have nb:=hb.one 4 (.inl rfl)
  intro p hp
  simp only [turnedL,List.mem_cons,List.not_mem_nil,or_false] at hp
  rcases hp with rfl | rfl | rfl | rfl | rfl
  · exact ⟨(ha.one 10 (by omega)).up (by decide),(na.one 9 (by omega)).up (by decide)⟩
  · exact ⟨(ha.one 12 (by omega)).up (by decide),(na.one 13 (by omega)).up (by decide)⟩
  · exact ⟨(ha.one 14 (by omega)).up (by decide),(na.one 11 (by omega)).up (by decide)⟩
  · exact ⟨(ha.two hb 16 (by omega)).up (by decide),(na.two nb 17 (by omega)).up (by decide)⟩
  · exact ⟨(ha.two hb 18 (by omega)).up (by decide),(na.two nb 15 (by omega)).up (by decide)⟩
theorem turned_sem {c:Ci} {a b:Fo} (ha:Gd c 7 a) (hb:Gd c 7 b):∀ p ∈ turnedL a b,semC c p.1 = notP (spOf c) (semC c p.2):=by
  have ia:=ha.sem
  have ib:=hb.sem
  intro p hp
  simp only [turnedL,List.mem_cons,List.not_mem_nil,or_false] at hp
  have n4:∀ f:Fo,semC c (foOne 4 f) = notP (spOf c) (semC c f):=fun f=>semC_one 4 f (by decide)
  rcases hp with rfl | rfl | rfl | rfl | rfl
  · rw [semC_one _ _ (by decide),semC_one _ _ (by decide),n4]; rfl
  · rw [semC_one _ _ (by decide),semC_one _ _ (by decide),n4]; rfl
  · rw [semC_one _ _ (by decide),semC_one _ _ (by decide),n4]; rfl
  · rw [semC_two _ _ _ (by decide),semC_two _ _ _ (by decide),n4,n4]
    generalize semC c a = p at *
    generalize semC c b = q at *
    show notP _ (orP (untilP _ _ (notP _ q) (notP _ (orP p q))) (egP _ (notP _ q))) = notP _ (orP (egP _ (notP _ q)) (untilP _ _ (notP _ q) (andP (notP _ p) (notP _ q))))
    rw [not_or ia ib,orP_comm (s:=spOf c) (a:=egP (spOf c) (notP (spOf c) q)) (In.eg (in_not _ _).len) (b:=untilP _ _ _ _) (In.eu (by simp [andP_len,(in_not (spOf c) (orP p q)).len]))]
  · rw [semC_two _ _ _ (by decide),semC_two _ _ _ (by decide),n4,n4]; rfl
def ppL (l:List (Fo × Fo)):AV:=.l (l.map fun p=>p.1.row ++ p.2.row)
theorem lenS_ppL (l:List (Fo × Fo)) {S:Store} {K:AV → Store → Prop}:lenS (ppL l) S K = K (aI l.length) S:=by simp [ppL]
theorem ixS_ppL {l:List (Fo × Fo)} {e i:Nat} {S:Store} {K:AV → Store → Prop} (h:i < l.length):ixS e 8 (ppL l) (aI i) S K = K (.q (l[i].1.row ++ l[i].2.row) 0) S:=by
  unfold ppL
  rw [ixS_l (by simpa using h) (by simp [Fo.row_len])]
  simp
theorem ldN_pp0 (f g:Fo) {S:Store} {K:AV → Store → Prop}:ldN 4 (.q (f.row ++ g.row) 0) S K = K f.av S:=by
  have h1:=Fo.row_len f
  have h2:=Fo.row_len g
  simp [ldN,rdN,place,h1,h2,Fo.av]
theorem ldN_pp1 (f g:Fo) {S:Store} {K:AV → Store → Prop}:ldN 4 (.q (f.row ++ g.row) 4) S K = K g.av S:=by
  have h1:=Fo.row_len f
  have h2:=Fo.row_len g
  simp [ldN,rdN,place,h1,h2,Fo.av]
  rw [List.take_of_length_le (by omega)]
theorem bld_pp (f g:Fo) {z:List AV} (hz:z.length = 8) {S:Store} {K:AV → Store → Prop}:bld [(0,4),(4,4)] z [(0,f.av),(1,g.av)] S K = K (.a (f.row ++ g.row)) S:=by
  have h1:=Fo.row_len f
  have h2:=Fo.row_len g
  refine bld_of ?_
  unfold Fo.av
  generalize f.row = r at *
  generalize g.row = r2 at *
  match r,h1,r2,h2,z,hz with
  | [a,b,c,d],_,[e,f,g,h],_,[z0,z1,z2,z3,z4,z5,z6,z7],_=>rfl
theorem bsl_pp5 {e:Nat} {z:List AV} {r1 r2 r3 r4 r5:List AV} (hz:z.length = 8) (h1:r1.length = 8) (h2:r2.length = 8) (h3:r3.length = 8) (h4:r4.length = 8) (h5:r5.length = 8) {S:Store} {K:AV → Store → Prop} (k:K (.l [r1,r2,r3,r4,r5]) S) :
    bslN e 8 5 z [(0,.a r1),(1,.a r2),(2,.a r3),(3,.a r4),(4,.a r5)] S K:=by
  refine ⟨r1 ++ r2 ++ r3 ++ r4 ++ r5,?_,.inr ?_⟩
  · match z,hz,r1,h1,r2,h2,r3,h3,r4,h4,r5,h5 with
    | [_,_,_,_,_,_,_,_],_,[_,_,_,_,_,_,_,_],_,[_,_,_,_,_,_,_,_],_,[_,_,_,_,_,_,_,_],_,[_,_,_,_,_,_,_,_],_,[_,_,_,_,_,_,_,_],_=>simp [fillA,cellsOf,spl,List.range_succ]
  · match r1,h1,r2,h2,r3,h3,r4,h4,r5,h5 with
    | [_,_,_,_,_,_,_,_],_,[_,_,_,_,_,_,_,_],_,[_,_,_,_,_,_,_,_],_,[_,_,_,_,_,_,_,_],_,[_,_,_,_,_,_,_,_],_=>simpa [chunks,List.range_succ] using k
theorem law12 {l m m2:List Int} (hl:∀ x ∈ l,0 ≤ x ∧ x < 65536) (hm:∀ x ∈ m,0 ≤ x ∧ x < 256) (hm2:∀ x ∈ m2,0 ≤ x ∧ x < 256):Ans Tryz.prog 12 [aL aW16 l,aL aU8 m,aL aU8 m2] (aB true):=by
  intro S
  refine ACalls.ans_v (calls12 ?_)
  unfold m12
  refine callF_ans ans31 ?_
  rw [un_not,onB_v,show gd (!true) _ _ = _ from rfl]
  refine .inl ((of23 hl hm).mono ?_)
  rintro e R0 ⟨tr,rfl,rfl,c,a,rfl,hc,hv,hf⟩
  show extr _ _ _ _
  rw [extr0,extr1]
  refine boxA_of rfl fun S1 k1 n1 o1=>?_
  refine boxA_of rfl fun S2 k2 n2 o2=>?_
  refine stA_of (cs':=c.cells) ((k2.2 _ (by omega)).trans o1) rfl rfl fun S3 n3 o3 f3=>?_
  refine stA_of ((f3 _ (by omega)).trans o2) (Fo.row_len a) rfl fun S4 n4 o4 f4=>?_
  have kk:=((k1.trans k2).st (Nat.le_refl _) n3 f3).st (by omega) n4 f4
  have c4:=(f4 _ (by omega)).trans o3
  refine .inl ((of23 hl hm2).mono ?_)
  rintro e S' ⟨tr,rfl,rfl,c',b,rfl,hc',hv',hf'⟩
  show extr _ _ _ _
  rw [extr0,extr1]
  have ga:=hf.gd hc
  have gb:Gd c 7 b:=by
    rw [hv',← hv] at hf'
    exact hf'.gd hc
  refine boxA_of rfl fun S5 k5 n5 o5=>?_
  refine boxA_of rfl fun S6 k6 n6 o6=>?_
  refine stA_of (cs':=c'.cells) ((k6.2 _ (by omega)).trans o5) rfl rfl fun S7 n7 o7 f7=>?_
  refine stA_of ((f7 _ (by omega)).trans o6) (Fo.row_len b) rfl fun S8 n8 o8 f8=>?_
  have k8:Keep S' S8:=((k5.trans k6).st (Nat.le_refl _) n7 f7).st (by omega) n8 f8
  have c8:=(k8.2 _ (by omega)).trans c4
  have a8:=(k8.2 _ (by omega)).trans o4
  rw [ldN_p (n:=8) c8 rfl]
  refine callF_ans (ans35 hc.ok) ?_
  rw [extr0,extr1,(made_sp hc.right hc.inp.2 hc.lats.2).1]
  refine boxA_of rfl fun S9 k9 n9 o9=>?_
  refine stA_of (cs':=(spOf c).cells) o9 rfl rfl fun SA nA oA fA=>?_
  have kA:=k9.st (Nat.le_refl _) nA fA
  have cA:=(kA.2 _ (by omega)).trans c8
  have aA:=(kA.2 _ (by omega)).trans a8
  have bA:=(kA.2 _ (by omega)).trans o8
  refine L_ldN (n:=4) aA (by omega) (Fo.row_len a) ?_
  refine L_callA (ans33 4 a) ?_
  refine L_ldN (n:=4) bA (by omega) (Fo.row_len b) ?_
  refine L_callA (ans33 4 b) ?_
  refine news2 fun i j SB kB hi1 hi2 hj1 hj2 hij oi oj=>?_
  refine stA_of (id:=i) oi (Fo.row_len _) rfl fun SC nC oC fC=>?_
  refine stA_of (id:=j) ((fC _ (Ne.symm hij)).trans oj) (Fo.row_len _) rfl fun SD nD oD fD=>?_
  have iD:=(fD _ hij).trans oC
  have kD:Keep SA SD:=(kB.st hi1 nC fC).st hj1 nD fD
  have cD:=(kD.2 _ (by omega)).trans cA
  have aD:=(kD.2 _ (by omega)).trans aA
  have bD:=(kD.2 _ (by omega)).trans bA
  have sD:=(kD.2 _ (by omega)).trans oA
  have ka:=((kk.trans k8).trans kA).trans kD
  show ∃ q:AV,_
  have la:∀ (P:AV → Prop),(∃ q,(ldN 4 (.p S1.n 0 0) SD fun v S'=>v = q ∧ S' = SD) ∧ P q) = P a.av:=fun P=>J_ldN (n:=4) aD (Fo.row_len a)
  have lb:∀ (P:AV → Prop),(∃ q,(ldN 4 (.p S5.n 0 0) SD fun v S'=>v = q ∧ S' = SD) ∧ P q) = P b.av:=fun P=>J_ldN (n:=4) bD (Fo.row_len b)
  have li:∀ (P:AV → Prop),(∃ q,(ldN 4 (.p ([i,j].headD 0) 0 0) SD fun v S'=>v = q ∧ S' = SD) ∧ P q) = P (foOne 4 a).av:=fun P=>J_ldN (id:=i) (n:=4) iD (Fo.row_len _)
  have lj:∀ (P:AV → Prop),(∃ q,(ldN 4 (.p ([i,j].tail.headD 0) 0 0) SD fun v S'=>v = q ∧ S' = SD) ∧ P q) = P (foOne 4 b).av:=fun P=>J_ldN (id:=j) (n:=4) oD (Fo.row_len _)
  have lp:∀ (f g:Fo) (P:AV → Prop),(∃ q,(bld [(0,4),(4,4)] [(.v (.int .i64 0)),(.v (.string ByteArray.empty)),(.v (.int .i64 0)),.nl,(.v (.int .i64 0)),(.v (.string ByteArray.empty)),(.v (.int .i64 0)),.nl] [(0,f.av),(1,g.av)] SD fun v S'=>v = q ∧ S' = SD) ∧ P q) = P (.a (f.row ++ g.row)):=fun f g P=>J_by (op:=fun K=>bld _ _ _ SD K) fun K=>bld_pp f g rfl
  (repeat (first | with_reducible_and_instances (first | refine WJ ?_ | refine W (la _) ?_ | refine W (lb _) ?_ | refine W (li _) ?_ | refine W (lj _) ?_ | refine W (lp _ _ _) ?_ | refine W (J_ldq (by with_unfolding_all rfl)) ?_) | refine J_cA (ans33 10 a) rfl rfl ?_ | refine C_A (ans33 10 a) rfl rfl ?_ | refine J_cA (ans33 9 (foOne 4 a)) rfl rfl ?_ | refine C_A (ans33 9 (foOne 4 a)) rfl rfl ?_ | refine J_cA (ans33 12 a) rfl rfl ?_ | refine C_A (ans33 12 a) rfl rfl ?_ | refine J_cA (ans33 13 (foOne 4 a)) rfl rfl ?_ | refine C_A (ans33 13 (foOne 4 a)) rfl rfl ?_ | refine J_cA (ans33 14 a) rfl rfl ?_ | refine C_A (ans33 14 a) rfl rfl ?_ | refine J_cA (ans33 11 (foOne 4 a)) rfl rfl ?_ | refine C_A (ans33 11 (foOne 4 a)) rfl rfl ?_ | refine J_cA (ans37 16 a b) rfl rfl ?_ | refine C_A (ans37 16 a b) rfl rfl ?_ | refine J_cA (ans37 17 (foOne 4 a) (foOne 4 b)) rfl rfl ?_ | refine C_A (ans37 17 (foOne 4 a) (foOne 4 b)) rfl rfl ?_ | refine J_cA (ans37 18 a b) rfl rfl ?_ | refine C_A (ans37 18 a b) rfl rfl ?_ | refine J_cA (ans37 15 (foOne 4 a) (foOne 4 b)) rfl rfl ?_ | refine C_A (ans37 15 (foOne 4 a) (foOne 4 b)) rfl rfl ?_))
  refine ⟨ppL (turnedL a b),bsl_pp5 rfl (by simp [Fo.row_len]) (by simp [Fo.row_len]) (by simp [Fo.row_len]) (by simp [Fo.row_len]) (by simp [Fo.row_len]) ⟨rfl,rfl⟩,?_⟩
  have hgd:=turned_gd ga gb
  have hse:=turned_sem ga gb
  have hlen:(turnedL a b).length = 5:=rfl
  generalize turnedL a b = pr at *
  have hsz:=(made_ok hc).small.h1
  show loopV _ _ _ (env12_0 (aB true) (.p R0.n 0 0) (.p S8.n 0 0) (ppL pr) (aI (0:Nat))) _ _
  refine loop12_0 (fun y T=>T = SD ∧ ∃ n:Nat,y = aI n ∧ n ≤ pr.length) (fun y _=>pr.length - ((intA y).getD 0).toNat) ⟨rfl,0,rfl,Nat.zero_le _⟩ ?_
  rintro _ SD ⟨rfl,n,rfl,hn⟩ KE hKE
  unfold b12_0
  rw [lenS_ppL,bin_lss,onB_v]
  refine gd_of (fun hlt=>?_) (fun hge=>?_)
  · have hlt:n < pr.length:=by have:=of_decide_eq_true hlt; omega
    obtain ⟨g1,g2⟩:=hgd _ (List.getElem_mem hlt)
    have hs:=hse _ (List.getElem_mem hlt)
    have t1:=ans36 hc.ok g1.ok
    have t2:=ans36 hc.ok g2.ok
    rw [g1.truth (by decide) hc] at t1
    rw [g2.truth (by decide) hc] at t2
    have l1:=g1.sem.len
    have l2:=g2.sem.len
    have hix:∀ (P:AV → Prop),(∃ q,(ixS 78 8 (ppL pr) (aI n) SD fun v S'=>v = q ∧ S' = SD) ∧ P q) = P (.q (pr[n].1.row ++ pr[n].2.row) 0):=fun P=>J_by (op:=fun K=>ixS _ 8 (ppL pr) (aI n) SD K) fun K=>ixS_ppL hlt
    have ha0:∀ (r:List AV) (P:AV → Prop),(∃ q,(ixA 2 4 (.q r 0) (.v (.int .i64 0)) SD fun v S'=>v = q ∧ S' = SD) ∧ P q) = P (.q r 0):=fun r P=>J_by (op:=fun K=>ixA 2 4 (.q r 0) (.v (.int .i64 0)) SD K) fun K=>ixA_q (z:=0) (by decide)
    have ha1:∀ (r:List AV) (P:AV → Prop),(∃ q,(ixA 2 4 (.q r 0) (.v (.int .i64 1)) SD fun v S'=>v = q ∧ S' = SD) ∧ P q) = P (.q r 4):=fun r P=>J_by (op:=fun K=>ixA 2 4 (.q r 0) (.v (.int .i64 1)) SD K) fun K=>ixA_q (z:=1) (by decide)
    have hl0:∀ (f g:Fo) (P:AV → Prop),(∃ q,(ldN 4 (.q (f.row ++ g.row) 0) SD fun v S'=>v = q ∧ S' = SD) ∧ P q) = P f.av:=fun f g P=>J_by (op:=fun K=>ldN 4 (.q (f.row ++ g.row) 0) SD K) fun K=>ldN_pp0 f g
    have hl1:∀ (f g:Fo) (P:AV → Prop),(∃ q,(ldN 4 (.q (f.row ++ g.row) 4) SD fun v S'=>v = q ∧ S' = SD) ∧ P q) = P g.av:=fun f g P=>J_by (op:=fun K=>ldN 4 (.q (f.row ++ g.row) 4) SD K) fun K=>ldN_pp1 f g
    have hc0:∀ (P:AV → Prop),(∃ q,(ldN 8 (.p R0.n 0 0) SD fun v S'=>v = q ∧ S' = SD) ∧ P q) = P c.av:=fun P=>J_ldN (n:=8) cD rfl
    have x0:∀ (a b:AV) (P:AV → Prop),(∃ q,(extr (.t [a,b]) 0 SD fun v S'=>v = q ∧ S' = SD) ∧ P q) = P a:=fun a b P=>J_by (op:=fun K=>extr (.t [a,b]) 0 SD K) fun K=>extr0
    have x1:∀ (a b:AV) (P:AV → Prop),(∃ q,(extr (.t [a,b]) 1 SD fun v S'=>v = q ∧ S' = SD) ∧ P q) = P b:=fun a b P=>J_by (op:=fun K=>extr (.t [a,b]) 1 SD K) fun K=>extr1
    show ∃ q:AV,_
    (repeat (first | with_reducible_and_instances (first | refine WJ ?_ | refine W (hc0 _) ?_ | refine W (hix _) ?_ | refine W (ha0 _ _) ?_ | refine W (ha1 _ _) ?_ | refine W (hl0 _ _ _) ?_ | refine W (hl1 _ _ _) ?_ | refine W (x0 _ _ _) ?_ | refine W (x1 _ _ _) ?_ | refine W (J_ldq (by with_unfolding_all rfl)) ?_) | refine J_cA (t1) rfl rfl ?_ | refine C_A (t1) rfl rfl ?_ | refine J_cA (t2) rfl rfl ?_ | refine C_A (t2) rfl rfl ?_))
    refine gd_of (fun h=>absurd h (by simp)) (fun _=>?_)
    rw [bin_neq,onB_v]
    refine gd_of (fun h=>absurd h (by simp)) (fun _=>?_)
    rw [lenS_aL,shift_p,ld1_p sD rfl rfl,lenS_aL,bin_neq,onB_v]
    refine gd_of (fun h=>absurd h (by simp [l1])) (fun _=>?_)
    rw [lenS_aL,shift_p,ld1_p sD rfl rfl,lenS_aL,bin_neq,onB_v]
    refine gd_of (fun h=>absurd h (by simp [l2])) (fun _=>?_)
    show loopV _ _ _ (env12_1 (aB true) (.p R0.n 0 0) (.p S8.n 0 0) (ppL pr) (aI n) (aL aB (semC c pr[n].1)) (aL aB (semC c pr[n].2)) (aI (0:Nat))) _ _
    generalize semC c pr[n].1 = x at *
    generalize semC c pr[n].2 = y at *
    refine loop12_1 (fun w T=>T = SD ∧ ∃ t:Nat,w = aI t ∧ t ≤ x.length) (fun w _=>x.length - ((intA w).getD 0).toNat) ⟨rfl,0,rfl,Nat.zero_le _⟩ ?_
    rintro _ SD ⟨rfl,t,rfl,ht⟩ KE1 hKE1
    unfold b12_1
    rw [lenS_aL,bin_lss,onB_v]
    refine gd_of (fun hlt1=>?_) (fun hge1=>?_)
    · have hlt1:t < x.length:=by have:=of_decide_eq_true hlt1; omega
      have hadd:∀ (T:Store) (K:AV → Store → Prop),bin .add 0 (aI t) (.v (.int .i64 1)) T K = K (aI (t + 1:Nat)) T:=fun T K=>bin_add (by omega) (by omega) 0
      have hμ:x.length - ((intA (aI (t + 1:Nat))).getD 0).toNat < x.length - ((intA (aI t)).getD 0).toNat:=by simp [intA]; omega
      have xx:∀ (P:AV → Prop),(∃ q,(ixS 4 1 (aL aB x) (aI t) SD fun v S'=>v = q ∧ S' = SD) ∧ P q) = P (.q [aB (bit x t)] 0):=fun P=>J_by (op:=fun K=>ixS _ 1 (aL aB x) (aI t) SD K) fun K=>ixB hlt1
      have xy:∀ (P:AV → Prop),(∃ q,(ixS 4 1 (aL aB y) (aI t) SD fun v S'=>v = q ∧ S' = SD) ∧ P q) = P (.q [aB (bit y t)] 0):=fun P=>J_by (op:=fun K=>ixS _ 1 (aL aB y) (aI t) SD K) fun K=>ixB (by omega)
      have xv:∀ (P:AV → Prop),(∃ q,(ixS 4 1 (aL aB (spOf c).valid) (aI t) SD fun v S'=>v = q ∧ S' = SD) ∧ P q) = P (.q [aB (bit (spOf c).valid t)] 0):=fun P=>J_by (op:=fun K=>ixS _ 1 (aL aB (spOf c).valid) (aI t) SD K) fun K=>ixB (by omega)
      have lv:∀ (P:AV → Prop),(∃ q,(ld1 (.p S8.n 0 (0 + 1)) SD fun v S'=>v = q ∧ S' = SD) ∧ P q) = P (aL aB (spOf c).valid):=fun P=>J_ldp sD rfl rfl
      have hb:bit x t = (bit (spOf c).valid t && !bit y t):=by rw [hs,bit_not]
      show ∃ q:AV,_
      (repeat (first | with_reducible_and_instances (first | refine WJ ?_ | refine W (xx _) ?_ | refine W (xy _) ?_ | refine W (xv _) ?_ | refine W (lv _) ?_ | refine W (J_ldq (by with_unfolding_all rfl)) ?_)))
      refine gd_of (fun h=>?_) (fun h=>?_)
      · rw [h,Bool.true_and] at hb
        (repeat (first | with_reducible_and_instances (first | refine WJ ?_ | refine W (xx _) ?_ | refine W (xy _) ?_ | refine W (xv _) ?_ | refine W (lv _) ?_ | refine W (J_ldq (by with_unfolding_all rfl)) ?_)))
        rw [hb]
        refine gd_of (fun h=>absurd h (by simp)) (fun _=>?_)
        rw [hadd]
        exact hKE1 _ _ ⟨rfl,t + 1,rfl,hlt1⟩ hμ
      · rw [h,Bool.false_and] at hb
        (repeat (first | with_reducible_and_instances (first | refine WJ ?_ | refine W (xx _) ?_ | refine W (xy _) ?_ | refine W (xv _) ?_ | refine W (lv _) ?_ | refine W (J_ldq (by with_unfolding_all rfl)) ?_)))
        rw [hb]
        refine gd_of (fun h=>absurd h (by simp)) (fun _=>?_)
        rw [hadd]
        exact hKE1 _ _ ⟨rfl,t + 1,rfl,hlt1⟩ hμ
    · rw [show ∀ K:AV → Store → Prop,bin .add 0 (aI n) (.v (.int .i64 1)) SD K = K (aI (n + 1:Nat)) SD from fun K=>bin_add (by omega) (by omega) 0]
      exact hKE _ _ ⟨rfl,n + 1,rfl,hlt⟩ (by simp [intA]; omega)
  · exact ⟨rfl,ka⟩
section
variable {H:Type} {enc:TypeId × Value → H} {w:World} {sp:Nat → Bool} {held:Bool}
theorem opUs:Opens enc Tryz.prog w sp held 25 1 (fun l:List Int=>[aL (fun n=>AV.v (.int .u8 n)) l]) (fun l=>l.length ≤ maxLen ∧ ∀ a ∈ l,(Lit.int .u8 a).wf = true):=opens_slice Tryz.underlying25 (by kernel_rfl) (by decide) opU
end
end Go.Proofs.YtolgpokppnajdaaGreat.G

/- Tree -/
import Derived.Test.YtolgpokppnajdaaGreatProg
import Derived.KernelRfl
import Derived.Test.YtolgpokppnajdaaGreatWbT5
set_option linter.unusedVariables false
set_option linter.unusedSimpArgs false
namespace Go.Proofs.YtolgpokppnajdaaGreat.G
open Go Go.Ab
theorem ans74 (k:Int) (l:List Fo):Ans Tryz.prog 74 [aI k,foL l] (Fo.av (.mk k ⟨#[]⟩ 0 l)):=by
  intro S
  refine ACalls.tree (calls74 ?_)
  unfold m74
  refine boxA_of rfl fun S1 k1 n1 o1=>?_
  rw [bld_of (cs:=Fo.row (.mk k ⟨#[]⟩ 0 l)) (by rw [Fo.row_mk]; rfl)]
  refine stA_of o1 (Fo.row_len _) rfl fun S2 n2 o2 f2=>?_
  rw [ldN_p (n:=4) o2 (Fo.row_len _)]
  exact ⟨_,rfl,k1.st (Nat.le_refl _) n2 f2,Fo.tr _ _ _⟩
def dualP:List (Int × Int):=[(1,2),(5,6),(9,10),(11,14),(13,12),(15,18),(17,16)]
def dualE (n:Nat):List (Key × AV):=(dualP.take n).flatMap fun p=>[(.i p.1,aI p.2),(.i p.2,aI p.1)]
abbrev dualM:AV:=.mt (.i .i64) (dualE 7)
def dualA:List AV:=[aI 1,aI 2,aI 5,aI 6,aI 9,aI 10,aI 11,aI 14,aI 13,aI 12,aI 15,aI 18,aI 17,aI 16]
theorem dual_step {i:Nat} (h:i < 7):∃ a b:Int,partA true 2 (i * 2) dualA = some (.a [aI a,aI b]) ∧ insM (insM (dualE i) (.i a) (aI b)) (.i b) (aI a) = dualE (i + 1):=by
  match i,h with
  | 0,_=>exact ⟨1,2,rfl,rfl⟩
  | 1,_=>exact ⟨5,6,rfl,rfl⟩
  | 2,_=>exact ⟨9,10,rfl,rfl⟩
  | 3,_=>exact ⟨11,14,rfl,rfl⟩
  | 4,_=>exact ⟨13,12,rfl,rfl⟩
  | 5,_=>exact ⟨15,18,rfl,rfl⟩
  | 6,_=>exact ⟨17,16,rfl,rfl⟩
theorem dual_lk {k:Int} (h:k = 1 ∨ k = 2 ∨ k = 5 ∨ k = 6 ∨ 9 ≤ k ∧ k ≤ 18):lkV (aI 0) false (lkp (dualE 7) (.i k)) = aI (dualK k):=by
  have:k = 1 ∨ k = 2 ∨ k = 5 ∨ k = 6 ∨ k = 9 ∨ k = 10 ∨ k = 11 ∨ k = 12 ∨ k = 13 ∨ k = 14 ∨ k = 15 ∨ k = 16 ∨ k = 17 ∨ k = 18:=by omega
  rcases this with rfl | rfl | rfl | rfl | rfl | rfl | rfl | rfl | rfl | rfl | rfl | rfl | rfl | rfl <;> rfl
theorem LJ_ixA {n sz id z:Nat} (hz:z < n) {S0:Store} {P:AV → Prop}:(∃ q,(∀ T,Keep S0 T → ixA n sz (.p id 0 0) (aI z) T fun v S=>v = q ∧ S = T) ∧ P q) = P (.p id 0 (z * sz)):=LJ_of (op:=fun T K=>ixA n sz (.p id 0 0) (aI z) T K) fun T hT K=>ixA_p hz
theorem ans45:Ans Tryz.prog 45 [] dualM:=by
  intro S
  refine ACalls.tree (calls45 ?_)
  unfold m45
  unfold mkM
  dsimp only
  rw [bld_of (cs:=[aI 1,aI 2]) rfl,bld_of (cs:=[aI 5,aI 6]) rfl,bld_of (cs:=[aI 9,aI 10]) rfl,bld_of (cs:=[aI 11,aI 14]) rfl,bld_of (cs:=[aI 13,aI 12]) rfl,bld_of (cs:=[aI 15,aI 18]) rfl,bld_of (cs:=[aI 17,aI 16]) rfl,bld_of (cs:=dualA) rfl]
  refine loop45_0 (fun y S'=>Keep S S' ∧ S.n < S'.n ∧ ∃ i:Nat,y = aI i ∧ i ≤ 7 ∧ S'.obj S.n = some (.map (.i .i64) (dualE i) true)) (fun y _=>7 - ((intA y).getD 0).toNat) ⟨(Keep.refl S).new _,by simp,0,rfl,by omega,new_self _⟩ ?_
  rintro _ S3 ⟨k3,n3,i,rfl,hi,m3⟩ KE hKE
  unfold b45_0
  rw [bin_lss,onB_v]
  refine gd_of (fun hlt=>?_) (fun hge=>?_)
  · have hlt:i < 7:=by have:=of_decide_eq_true hlt; omega
    obtain ⟨a,b,hp,hs⟩:=dual_step hlt
    refine ⟨i,rfl,⟨by omega,by omega⟩,?_⟩
    refine ⟨.a [aI a,aI b],by rw [Int.toNat_natCast]; exact hp,?_⟩
    refine boxA_of rfl fun S4 k4 n4 o4=>?_
    refine stA_of (cs':=[aI a,aI b]) o4 rfl rfl fun S5 n5 o5 f5=>?_
    have k5:=k4.st (Nat.le_refl _) n5 f5
    have m5:=(k5.2 _ n3).trans m3
    have r0:∀ {P:AV → Prop},(∃ q,(∀ T,Keep S5 T → ixA 2 1 (.p S3.n 0 0) (.v (.int .i64 0)) T fun v S=>v = q ∧ S = T) ∧ P q) = P (.p S3.n 0 0):=LJ_ixA (z:=0) (by omega)
    have r1:∀ {P:AV → Prop},(∃ q,(∀ T,Keep S5 T → ixA 2 1 (.p S3.n 0 0) (.v (.int .i64 1)) T fun v S=>v = q ∧ S = T) ∧ P q) = P (.p S3.n 0 1):=LJ_ixA (z:=1) (by omega)
    rw [r0,LJ_ldp o5 (by omega) rfl rfl,r1,LJ_ldp o5 (by omega) rfl rfl,r1,LJ_ldp o5 (by omega) rfl rfl,r0,LJ_ldp o5 (by omega) rfl rfl]
    rw [updM_m m5 (keyI _ _)]
    have o6:(Store.upd S5 S.n (.map (.i .i64) (insM (dualE i) (.i a) (aI b)) true)).obj S3.n = _:=(upd_ne (by omega)).trans o5
    refine ⟨fun T hT=>by rw [ld1_p ((hT.2 _ (by show _ < S5.n; omega)).trans o6) rfl rfl]; exact ⟨rfl,rfl⟩,fun T hT=>by rw [show (AV.v (.int .i64 0)) = aI ((0:Nat):Int) from rfl,ixA_p (by omega)]; exact ⟨rfl,rfl⟩,fun T hT=>by rw [ld1_p ((hT.2 _ (by show _ < S5.n; omega)).trans o6) rfl rfl]; exact ⟨rfl,rfl⟩,fun T hT=>by rw [show (AV.v (.int .i64 1)) = aI ((1:Nat):Int) from rfl,ixA_p (by omega)]; exact ⟨rfl,rfl⟩,?_⟩
    rw [updM_m (upd_self _ _) (keyI _ _),upd_upd,hs,bin_add (by omega) (by omega)]
    exact hKE _ _ ⟨(k3.trans k5).upd (Nat.le_refl _) _,by show S.n < S5.n; omega,i + 1,rfl,hlt,upd_self _ _⟩ (by simp [intA]; omega)
  · have hge:i = 7:=by have:=of_decide_eq_false hge; omega
    subst hge
    refine ⟨_,rfl,k3,.m' S.n (.i .i64) (dualE 7) (dualE 7) ?_ rfl (fun i e e2 h h2=>by rw [h] at h2; cases h2; rfl) (fun i e e2 h h2=>?_)⟩
    · rw [frz_ofM m3]
      have:newer S.n S.n = true:=by simp [newer]
      rw [this]
      rfl
    · rw [h] at h2; cases h2
      have hm:e ∈ dualE 7:=List.mem_of_getElem? h
      simp only [dualE,List.mem_flatMap] at hm
      obtain ⟨p,_,hp⟩:=hm
      simp only [List.mem_cons,List.not_mem_nil,or_false] at hp
      rcases hp with rfl | rfl <;> exact .v _
theorem at73 {S:Store} {fid mid i tf:Nat} {k l:Int} {n:ByteArray} {ks:List Fo} {t:Bool} (ho:S.obj fid = some (.cells tf [[aI k,.v (.string n),aI l,foL ks]] true)) (hf:fid < S.n) (hm:S.obj mid = some (.cells 87 [[dualM]] true)) (hm2:mid < S.n) (hi:i < ks.length)
    (h:Ans Tryz.prog 44 [ks[i].av,aB t,dualM] (ks[i].push t).av):AnsAt Tryz.prog 73 ([] ++ [aI i,aB t] ++ [.p fid 0 0,.p mid 0 0]) S (ks[i].push t).av:=by
  refine ACalls.tree (calls73 ?_)
  unfold m73
  refine boxA_of rfl fun S1 k1 n1 o1=>?_
  have p1:=(k1.2 _ hf).trans ho
  have q1:=(k1.2 _ hm2).trans hm
  (repeat (first | with_reducible_and_instances (first | refine WJ ?_ | refine W (LJ_ldp p1 (by omega) (by with_unfolding_all rfl) (by with_unfolding_all rfl)) ?_ | refine W (LJ_ldp q1 (by omega) (by with_unfolding_all rfl) (by with_unfolding_all rfl)) ?_ | refine W (LJ_Fi hi) ?_ | refine W (LJ_ldNq (Fo.row_len _)) ?_ | refine W (J_ldq (by with_unfolding_all rfl)) ?_) | refine J_cA (h) rfl rfl ?_ | refine C_A (h) rfl rfl ?_ | refine L_cA (h) rfl rfl ?_))
  refine stA_of o1 (Fo.row_len _) rfl fun S2 n2 o2 f2=>?_
  rw [ldN_p (n:=4) o2 (Fo.row_len _)]
  exact ⟨_,rfl,k1.st (Nat.le_refl _) n2 f2,Fo.tr _ _ _⟩
abbrev kidF (a b:Nat):AV:=.f (.func 73) [] [.p a 0 0,.p b 0 0]
theorem treepush_loop {ks:List Fo} {k k2 l:Int} {n:ByteArray} {t:Bool} (hl:ks.length ≤ 1000000) (hf:∀ f ∈ ks,Ans Tryz.prog 44 [f.av,aB t,dualM] (f.push t).av) {S S4:Store} {o:Nat} {Q:AEnd → Store → Prop} (kk:Keep S S4) (h0:S.n < S4.n)
    (ho:S.n + 2 < o) (ho2:o < S4.n) (oa:S4.obj S.n = some (.cells 24 [[aI k,.v (.string n),aI l,foL ks]] true)) (om:S4.obj (S.n + 1) = some (.cells 87 [[dualM]] true)) (ob:S4.obj (S.n + 2) = some (.cells 24 [fo0r] true)) (oc:S4.obj o = some (.cells 24 [[aI k2,.v (.string ⟨#[]⟩),aI 0,.nl]] true))
    (hQ:∀ (r:AV) (T:Store),Keep S T → Cv (T.frz (newer S.n)) S.n r (Fo.mk k2 ⟨#[]⟩ 0 (Fo.pushs ks t)).av → Q (.ret r) T) :
    loopV lv44_0 (vc Tryz.prog (c44.at_ [1,1,1,1,1,0,1,0,0]) (ms44.drop 1)) 86 (env44_0 (aB t) (.p (S.n + 2) 0 0) (kidF S.n (S.n + 1)) (.p o 0 0) (aI ks.length) (.v (.int .i64 0))) S4 (blockK 1 (seqK (vc Tryz.prog (c44.at_ [1,1,1,1,1,1]) (ms44.drop 1)) (bodyK Tryz.prog r44 Q))):=by
  refine loop44_0 (fun y S'=>∃ (i:Nat) (z:AV),y = aI i ∧ i ≤ ks.length ∧ Keep S S' ∧ S4.n ≤ S'.n ∧ S'.obj S.n = some (.cells 24 [[aI k,.v (.string n),aI l,foL ks]] true) ∧ S'.obj (S.n + 1) = some (.cells 87 [[dualM]] true) ∧ S'.obj (S.n + 2) = some (.cells 24 [fo0r] true) ∧
      S'.obj o = some (.cells 24 [[aI k2,.v (.string ⟨#[]⟩),aI 0,z]] true) ∧ Own S4.n S' z 24 (((ks.take i).map fun f=>f.push t).map Fo.row))
    (fun y _=>ks.length - ((intA y).getD 0).toNat) ⟨0,.nl,rfl,Nat.zero_le _,kk,Nat.le_refl _,oa,om,ob,oc,.nl _ _ _⟩ ?_
  rintro _ S5 ⟨i,z,rfl,hi,k5,n5,oa,om,ob,oc,w5⟩ KE hKE
  unfold b44_0
  rw [bin_lss,onB_v]
  refine gd_of (fun hlt=>?_) (fun hge=>?_)
  · have hlt:i < ks.length:=by have:=of_decide_eq_true hlt; omega
    have hmem:=List.getElem_mem hlt
    (repeat (first | with_reducible_and_instances (first | refine WJ ?_ | refine W (LJ_ldp oc (by omega) (by with_unfolding_all rfl) (by with_unfolding_all rfl)) ?_ | refine W (J_ldq (by with_unfolding_all rfl)) ?_) | refine L_cV ((fun T hT=>at73 (t:=t) ((hT.2 _ (by omega)).trans oa) (by have:=hT.1; omega) ((hT.2 _ (by omega)).trans om) (by have:=hT.1; omega) hlt (hf _ hmem))) rfl rfl ?_))
    refine LJ_bsl4 (Fo.row_len _) ?_
    refine w5.app (c:=(ks[i].push t).row) (by omega) (Fo.row_len _) (by simp; omega) (fun z' S6 w6 b6 hz=>?_) rfl
    obtain ⟨m6,hm6⟩:=hz
    have n6:=b6.1
    have old6:∀ x,x < S4.n → S6.obj x = S5.obj x:=fun x hx=>b6.2 x (by omega) (fun b m e=>by have:=w5.lt e; omega)
    refine L_shift ?_
    refine stF_of ((old6 _ (by omega)).trans oc) (by simp) (by rw [hm6]; rfl) fun S7 n7 o7 f7=>?_
    rw [bin_add (by omega) (by omega)]
    have old7:∀ x,x < o → S7.obj x = S5.obj x:=fun x hx=>(f7 x (by omega)).trans (old6 x (by omega))
    refine hKE _ _ ⟨i + 1,z',rfl,hlt,⟨by have:=k5.1; omega,fun x hx=>(old7 x (by omega)).trans (k5.2 x hx)⟩,by omega,(old7 _ (by omega)).trans oa,(old7 _ (by omega)).trans om,(old7 _ (by omega)).trans ob,o7,?_⟩ (by simp [intA]; omega)
    rw [List.take_add_one,List.getElem?_eq_getElem hlt,List.map_append,List.map_append]
    exact w6.st (id:=o) (fun b m e=>by rw [hm6] at e; injection e; omega) n7 f7
  · have hge:i = ks.length:=by have:=of_decide_eq_false hge; omega
    subst hge
    rw [ldN_p (n:=4) oc rfl]
    refine stA_of ob rfl rfl fun S6 n6 o6 f6=>?_
    rw [ldN_p (n:=4) o6 rfl]
    have w6:Own S4.n S6 z 24 _:=w5.st (id:=S.n + 2) (fun b m e=>by have:=w5.lt e; omega) n6 f6
    rw [List.take_length] at w6
    refine hQ _ _ (k5.st (by omega) n6 f6) ?_
    rw [Fo.av,Fo.row_mk,Fo.pushs_map]
    refine .a _ _ rfl fun k u u2 e1 e2=>?_
    match k with
    | 0=>cases e1; cases e2; exact .v _
    | 1=>cases e1; cases e2; exact .v _
    | 2=>cases e1; cases e2; exact .v _
    | 3=>cases e1; cases e2; exact own_rows (fun r hr u hu=>by obtain ⟨f,_,rfl⟩:=List.mem_map.1 hr; exact Fo.tree f u hu) w6 (by omega)
    | k + 4=>simp at e1
theorem ans44:∀ (f:Fo),f.ok → ∀ {d:Int},f.mayB d = true → ∀ t,Ans Tryz.prog 44 [f.av,aB t,dualM] (f.push t).av:=by
  intro f
  induction f using Fo.ind with
  | h k n l ks ih =>
    intro hok d hm t S
    obtain ⟨h1,h2,h3,h4,h5⟩:=hok.inv
    have hf:∀ f ∈ ks,∀ d,f.mayB d = true → ∀ t,Ans Tryz.prog 44 [f.av,aB t,dualM] (f.push t).av:=fun f hf d hd t=>ih f hf (h5 f hf) hd t
    have hall:∀ f ∈ ks,f.mayB (d - 1) = true:=fun f hf=>by
      rw [Fo.mayB_mk] at hm
      simp only [Bool.and_eq_true,List.all_eq_true] at hm
      exact hm.2.2.2.2 f hf
    refine ACalls.tree (calls44 ?_)
    unfold m44
    rw [Fo.av,Fo.row_mk]
    refine boxA_of rfl fun S1 k1 n1 o1=>?_
    refine box1_of rfl fun S2 k2 n2 o2=>?_
    refine boxA_of rfl fun S3 k3 n3 o3=>?_
    rw [show S2.n = S.n + 2 by omega] at o3
    rw [n1] at o2
    rw [show S2.n = S.n + 2 by omega,n1]
    have p3:=(k3.2 _ (by omega)).trans ((k2.2 _ (by omega)).trans o1)
    have q3:=(k3.2 _ (by omega)).trans o2
    have kk:=(k1.trans k2).trans k3
    rw [shift_p,ld1_p p3 rfl rfl]
    have ck:∀ (T:Store),T.obj S.n = some (.cells 24 [[aI k,.v (.string n),aI l,foL ks]] true) → T.obj (S.n + 1) = some (.cells 87 [[dualM]] true) → S.n + 1 < T.n → ∀ (i:Nat) (hi:i < ks.length) (t:Bool),AnsAt Tryz.prog 73 ([] ++ [aI i,aB t] ++ [.p S.n 0 0,.p (S.n + 1) 0 0]) T (ks[i].push t).av :=
      fun T ho hm hn i hi t=>at73 ho (by omega) hm hn hi (hf _ (List.getElem_mem hi) _ (hall _ (List.getElem_mem hi)) t)
    have fin:∀ (g:Fo) (T:Store),Keep S T → T.obj (S.n + 2) = some (.cells 24 [fo0r] true) → g = Fo.push (.mk k n l ks) t → stN 4 (.p (S.n + 2) 0 0) g.av T (fun _ T2=>ldN 4 (.p (S.n + 2) 0 0) T2 fun v S'=>∃ r,AEnd.ret v = .ret r ∧ Keep S S' ∧ Cv (S'.frz (newer S.n)) S.n r (Fo.push (.mk k n l ks) t).av):=by
      intro g T hT ho hg
      rw [Fo.av]
      refine stA_of ho (Fo.row_len g) rfl fun T1 n1 o1 f1=>?_
      rw [ldN_p (n:=4) o1 (Fo.row_len g)]
      exact ⟨_,rfl,hT.st (by omega) n1 f1,by rw [← hg]; exact Fo.tr g _ _⟩
    have dflt:∀ (T:Store) (o:Nat) (k2:Int),Keep S T → S.n + 2 < o → o < T.n → T.obj S.n = some (.cells 24 [[aI k,.v (.string n),aI l,foL ks]] true) → T.obj (S.n + 1) = some (.cells 87 [[dualM]] true) → T.obj (S.n + 2) = some (.cells 24 [fo0r] true) → T.obj o = some (.cells 24 [[aI k2,.v (.string ⟨#[]⟩),aI 0,.nl]] true) →
        Fo.push (.mk k n l ks) t = .mk k2 ⟨#[]⟩ 0 (Fo.pushs ks t) →
        loopV lv44_0 (vc Tryz.prog (c44.at_ [1,1,1,1,1,0,1,0,0]) (ms44.drop 1)) 86 (env44_0 (aB t) (.p (S.n + 2) 0 0) (kidF S.n (S.n + 1)) (.p o 0 0) (aI ks.length) (.v (.int .i64 0))) T (blockK 1 (seqK (vc Tryz.prog (c44.at_ [1,1,1,1,1,1]) (ms44.drop 1)) (bodyK Tryz.prog r44 fun e S'=>∃ r,e = .ret r ∧ Keep S S' ∧ Cv (S'.frz (newer S.n)) S.n r (Fo.push (.mk k n l ks) t).av))):=fun T o k2 hT ho ho2 oa om ob oc he =>
      treepush_loop h4 (fun f hf'=>hf f hf' _ (hall f hf') t) hT (by omega) ho ho2 oa om ob oc fun r T' hT' hr=>⟨r,rfl,hT',by rw [he]; exact hr⟩
    have rest:¬ k = 3 → ¬ k = 4 → ¬ k = 7 → ¬ k = 8 → (k = 1 ∨ k = 2 ∨ k = 5 ∨ k = 6 ∨ 9 ≤ k ∧ k ≤ 18) → shift (.p S.n 0 0) 0 S3 fun v53 T=>ld1 v53 T fun v54 T=>bld [(0,1),(1,1),(2,1),(3,1)] fo0r [(0,v54)] T fun v55 T=>boxN 24 4 (.a fo0r) T fun v56 T=>stN 4 v56 v55 T fun _ T=>gd t (ld1 (.p (S.n + 1) 0 0) T fun v59 T=>shift (.p S.n 0 0) 0 T fun v60 T=>ld1 v60 T fun v61 T=>lkM (.i .i64) (.v (.int .i64 0)) false v59 v61 T fun v62 T=>shift v56 0 T fun v63 T=>stN 1 v63 v62 T fun _ T =>
        shift (.p S.n 0 0) 3 T fun v65 T=>ld1 v65 T fun v66 T=>lenS v66 T fun v67 T =>
        loopV lv44_0 (vc Tryz.prog (c44.at_ [1,1,1,1,1,0,1,0,0]) (ms44.drop 1)) 86 (env44_0 (aB t) (.p (S.n + 2) 0 0) (kidF S.n (S.n + 1)) v56 v67 (.v (.int .i64 0))) T (blockK 1 (seqK (vc Tryz.prog (c44.at_ [1,1,1,1,1,1]) (ms44.drop 1)) (bodyK Tryz.prog r44 fun e S'=>∃ r,e = .ret r ∧ Keep S S' ∧ Cv (S'.frz (newer S.n)) S.n r (Fo.push (.mk k n l ks) t).av))))
        (shift (.p S.n 0 0) 3 T fun v65 T=>ld1 v65 T fun v66 T=>lenS v66 T fun v67 T=>loopV lv44_0 (vc Tryz.prog (c44.at_ [1,1,1,1,1,0,1,0,0]) (ms44.drop 1)) 86 (env44_0 (aB t) (.p (S.n + 2) 0 0) (kidF S.n (S.n + 1)) v56 v67 (.v (.int .i64 0))) T (blockK 1 (seqK (vc Tryz.prog (c44.at_ [1,1,1,1,1,1]) (ms44.drop 1)) (bodyK Tryz.prog r44 fun e S'=>∃ r,e = .ret r ∧ Keep S S' ∧ Cv (S'.frz (newer S.n)) S.n r (Fo.push (.mk k n l ks) t).av)))):=by
      intro h3 h4' h7 h8 hkd
      have he:Fo.push (.mk k n l ks) t = .mk (if t then dualK k else k) ⟨#[]⟩ 0 (Fo.pushs ks t):=by rw [Fo.push,if_neg h3,if_neg h4',if_neg h7,if_neg h8]
      rw [shift_p,ld1_p p3 rfl rfl,bld_of (cs:=[aI k,.v (.string ⟨#[]⟩),aI 0,.nl]) rfl]
      refine boxA_of rfl fun S4 k4 n4 o4=>?_
      refine stA_of (cs':=[aI k,.v (.string ⟨#[]⟩),aI 0,.nl]) o4 rfl rfl fun S5 n5 o5 f5=>?_
      have k5:=k4.st (Nat.le_refl _) n5 f5
      have p5:=(k5.2 _ (by omega)).trans p3
      have q5:=(k5.2 _ (by omega)).trans q3
      have r5:=(k5.2 _ (by omega)).trans o3
      refine gd_of (fun ht=>?_) (fun ht=>?_)
      · subst ht
        rw [ld1_p q5 rfl rfl,shift_p,ld1_p p5 rfl rfl,lkM_mt (keyI _ _),dual_lk hkd,shift_p]
        refine stF_of o5 (by simp) rfl fun S6 n6 o6 f6=>?_
        rw [shift_p,ld1_p ((f6 _ (by omega)).trans p5) rfl rfl,lenS_foL]
        exact dflt S6 S3.n (dualK k) ((kk.trans k5).st (by omega) n6 f6) (by omega) (by omega) ((f6 _ (by omega)).trans p5) ((f6 _ (by omega)).trans q5) ((f6 _ (by omega)).trans r5) o6 he
      · subst ht
        rw [shift_p,ld1_p p5 rfl rfl,lenS_foL]
        exact dflt S5 S3.n k (kk.trans k5) (by omega) (by omega) p5 q5 r5 o5 he
    obtain ⟨rfl,hd,hc⟩:=may_cases hm
    rcases hc with ⟨hk,rfl,rfl⟩ | ⟨rfl,rfl,h0⟩ | ⟨hk,rfl,f,rfl,hfm⟩ | ⟨hk,rfl,f,g,rfl,hfm,hgm⟩
    · repeat (refine tno (by omega) ?_)
      exact rest (by omega) (by omega) (by omega) (by omega) (by omega)
    · refine tyes rfl ?_
      rw [onB_v]
      refine gd_of (fun ht=>?_) (fun ht=>?_)
      · subst ht
        rw [ldN_p (n:=4) p3 rfl]
        refine bslA4 (r:=[aI 3,.v (.string ⟨#[]⟩),aI l,foL []]) rfl ?_
        refine C_A (ans74 4 [.mk 3 ⟨#[]⟩ l []]) rfl (by rw [show foL [Fo.mk 3 ⟨#[]⟩ l []] = .l [Fo.row (.mk 3 ⟨#[]⟩ l [])] from rfl,Fo.row_mk]) ?_
        exact fin (foOne 4 (.mk 3 ⟨#[]⟩ l [])) _ kk o3 (by rw [push_atom]; rfl)
      · subst ht
        rw [ldN_p (n:=4) p3 rfl]
        have:=fin (.mk 3 ⟨#[]⟩ l []) _ kk o3 (by rw [push_atom]; rfl)
        rw [Fo.av,Fo.row_mk] at this
        exact this
    · have cf:=fun t=>ck S3 p3 q3 (by omega) 0 (by simp) t
      by_cases h4:k = 4
      · subst h4
        refine tno (by decide) (tyes rfl ?_)
        rw [un_not]
        refine callV_at (cf _) ?_
        exact fin _ _ kk o3 push_not.symm
      · repeat (refine tno (by omega) ?_)
        exact rest (by omega) (by omega) (by omega) (by omega) (by omega)
    · have cf:=fun t=>ck S3 p3 q3 (by omega) 0 (by simp) t
      have cg:=fun t=>ck S3 p3 q3 (by omega) 1 (by simp) t
      by_cases h7:k = 7
      · subst h7
        refine tno (by decide) (tno (by decide) (tyes rfl ?_))
        rw [onB_v]
        refine gd_of (fun ht=>?_) (fun ht=>?_)
        · subst ht
          refine callV_at (cf false) (callV_at (cg true) ?_)
          refine bslA42 (Fo.row_len _) (Fo.row_len _) (callF_ans (ans74 5 [f.push false,g.push true]) ?_)
          exact fin (foTwo 5 (f.push false) (g.push true)) _ kk o3 (by rw [push_imp]; rfl)
        · subst ht
          refine callV_at (cf true) (callV_at (cg false) ?_)
          refine bslA42 (Fo.row_len _) (Fo.row_len _) (callF_ans (ans74 6 [f.push true,g.push false]) ?_)
          exact fin (foTwo 6 (f.push true) (g.push false)) _ kk o3 (by rw [push_imp]; rfl)
      by_cases h8:k = 8
      · subst h8
        refine tno (by decide) (tno (by decide) (tno (by decide) (tyes rfl ?_)))
        refine callV_at (cf false) (callV_at (cg t) ?_)
        refine bslA42 (Fo.row_len _) (Fo.row_len _) (callF_ans (ans74 5 [f.push false,g.push t]) ?_)
        refine callV_at (cf true) ?_
        rw [un_not]
        refine callV_at (cg (!t)) ?_
        refine bslA42 (Fo.row_len _) (Fo.row_len _) (callF_ans (ans74 5 [f.push true,g.push (!t)]) ?_)
        refine bslA42 (Fo.row_len _) (Fo.row_len _) (callF_ans (ans74 6 [foTwo 5 (f.push false) (g.push t),foTwo 5 (f.push true) (g.push (!t))]) ?_)
        exact fin _ _ kk o3 push_same.symm
      · repeat (refine tno (by omega) ?_)
        exact rest (by omega) (by omega) (by omega) (by omega) (by omega)
def pushB (f:Fo):Fo:=if f.mayB 60 = true then f.push false else fo0
theorem ans21 {f:Fo} (hf:f.ok):Ans Tryz.prog 21 [f.av] (pushB f).av:=by
  intro S
  refine ACalls.tree (calls21 ?_)
  unfold m21 pushB
  refine boxA_of (Fo.row_len f) fun S1 k1 n1 o1=>?_
  refine boxA_of rfl fun S2 k2 n2 o2=>?_
  have p2:=(k2.2 _ (by omega)).trans o1
  rw [ldN_p (n:=4) p2 (Fo.row_len f)]
  refine callF_ans (ans43 f hf 60 ⟨by decide,by decide⟩) ?_
  rw [un_not,onB_v]
  refine gd_of (fun h=>?_) (fun h=>?_)
  · have h:f.mayB 60 = false:=by simpa using h
    rw [h,if_neg (by decide),bld_of (cs:=fo0r) rfl]
    refine stA_of (cs':=fo0r) o2 rfl rfl fun S3 n3 o3 f3=>?_
    rw [ldN_p (n:=4) o3 rfl]
    refine ⟨_,rfl,(k1.trans k2).st (by omega) n3 f3,?_⟩
    rw [Fo.av,Fo.row_mk]
    refine .a _ _ rfl fun k u u2 e1 e2=>?_
    match k with
    | 0=>cases e1; cases e2; exact .v _
    | 1=>cases e1; cases e2; exact .v _
    | 2=>cases e1; cases e2; exact .v _
    | 3=>cases e1; cases e2; exact .nl
    | k + 4=>simp at e1
  · have h:f.mayB 60 = true:=by simpa using h
    rw [h,if_pos rfl]
    (repeat (first | with_reducible_and_instances (first | refine WJ ?_ | refine W (LJ_ldN (n:=4) p2 (by omega) (Fo.row_len f)) ?_ | refine W (J_ldq (by with_unfolding_all rfl)) ?_) | refine J_cA (ans45) rfl rfl ?_ | refine C_A (ans45) rfl rfl ?_ | refine L_cA (ans45) rfl rfl ?_ | refine J_cA (ans44 f hf h false) rfl rfl ?_ | refine C_A (ans44 f hf h false) rfl rfl ?_ | refine L_cA (ans44 f hf h false) rfl rfl ?_))
    refine stA_of o2 (Fo.row_len _) rfl fun S3 n3 o3 f3=>?_
    rw [ldN_p (n:=4) o3 (Fo.row_len _)]
    exact ⟨_,rfl,(k1.trans k2).st (by omega) n3 f3,Fo.tr _ _ _⟩
structure Cs (c:Ci):Prop where
  ok:c.ok
  right:c.right = true
  small:c.gr.inputs ≤ 60
theorem Cs.sum {c:Ci} (h:Cs c):∃ m:Nat,c.inputs + c.latches.length = m ∧ c.gr.inputs = m ∧ m ≤ 60 ∧ 0 ≤ c.inputs ∧ c.inputs ≤ 60:=by
  obtain ⟨g1,g2,g3⟩:=gr_inp h.right
  have hin:=(right_c.1 h.right).1
  have:=h.small
  exact ⟨c.gr.inputs.toNat,by omega,by omega,by omega,hin.1,by omega⟩
theorem J_shr {a b:Int} (hb:0 ≤ b) {S0:Store} {P:AV → Prop}:(∃ q,(bin .shr 0 (aI a) (aI b) S0 fun v S=>v = q ∧ S = S0) ∧ P q) = P (aI (a.fdiv (2 ^ min b.toNat 64))):=J_by (op:=fun K=>bin .shr 0 (aI a) (aI b) S0 K) fun K=>bin_shr hb .i64 .i64 0
@[simp] theorem lenS_tnL (l:List Tn) {S:Store} {K:AV → Store → Prop}:lenS (tnL l) S K = K (aI l.length) S:=by simp [tnL]
theorem ixS_tnL {l:List Tn} {e i:Nat} {S:Store} {K:AV → Store → Prop} (h:i < l.length):ixS e 5 (tnL l) (aI i) S K = K (.q l[i].row 0) S:=by
  unfold tnL
  rw [ixS_l (by simpa using h) (by simp [Tn.row_len])]
  simp
theorem nil_len {α:Type} {l:List α}:decide ((l.length:Int) = 0) = decide (l.length = 0):=decide_eq_decide.2 ⟨fun h=>by omega,fun h=>by omega⟩
inductive Tn.ok:Tn → Prop
  | mk (k s b:Int) (ss:List Int) (ks:List Tn) (h1:i64R k) (h2:i64R s) (h3:i64R b) (h4:ss.length ≤ 1000000) (h5:∀ x ∈ ss,i64R x) (h6:ks.length ≤ 1000000) (h:∀ t ∈ ks,Tn.ok t):Tn.ok (.mk k s b ss ks)
abbrev aR (r:Int × Bool):AV:=.t [aI r.1,aB r.2]
theorem ACalls.ansT {P:Program} {fn:FuncId} {args:List AV} {S:Store} {r:Int × Bool} (h:ACalls P fn args S (fun e S'=>e = .ret (aR r) ∧ Keep S S')):AnsAt P fn args S (aR r) :=
  ACalls.tree (ACalls.mono h fun e S' ⟨h1,h2⟩=>⟨_,h1,h2,cv_t2 (.v _) (.v _)⟩)
theorem J_ext {vs:List AV} {i:Nat} {u:AV} (h:vs[i]? = some u) {S0:Store} {P:AV → Prop}:(∃ q,(extr (.t vs) i S0 fun v S=>v = q ∧ S = S0) ∧ P q) = P u:=J_by (op:=fun K=>extr (.t vs) i S0 K) fun K=>by simp [extr,h]
theorem J_ix0 {α:Type} {x:α} {l:List α} {f:α → AV} {e:Nat} {S0:Store} {P:AV → Prop}:(∃ q,(ixS e 1 (aL f (x :: l)) (.v (.int .i64 0)) S0 fun v S=>v = q ∧ S = S0) ∧ P q) = P (.q [f x] 0) :=
  J_of (op:=fun K=>ixS e 1 (aL f (x :: l)) (.v (.int .i64 0)) S0 K) fun K=>ixS_aL (i:=0) (by simp)
theorem chain_no {c:Ci} {ss:List Int} {i:Nat} (hi:i + 1 < ss.length) (h:behindS c ss[i] ss[i + 1] = false):chainS c ss = false:=by
  unfold chainS
  rw [List.all_eq_false]
  refine ⟨i,List.mem_range.2 (by omega),?_⟩
  simp [List.getD_eq_getElem?_getD,show i < ss.length by omega,hi,h]
theorem chain_yes {c:Ci} {ss:List Int} (h:∀ i (hi:i + 1 < ss.length),behindS c (ss[i]'(by omega)) ss[i + 1] = true):chainS c ss = true:=by
  unfold chainS
  rw [List.all_eq_true]
  intro i hi
  have hi:=List.mem_range.1 hi
  have hi2:i + 1 < ss.length:=by omega
  simp [List.getD_eq_getElem?_getD,show i < ss.length by omega,hi2,h i hi2]
noncomputable def pathR (c:Ci) (f0 f1:Fo) (tk s a:Int) (ss:List Int) (ks:List Tn):Int × Bool :=
  if ss ≠ [] ∧ ss.getD 0 0 = s ∧ a = 0 ∧ tk = 5 ∧ chainS c ss = true then Tn.accs c ks (List.replicate (ss.length - 1) f0 ++ [f1,foG]) (ss ++ [ss.getD (ss.length - 1) 0]) 0 else (0,false)
noncomputable def loopR (c:Ci) (f0:Fo) (tk s a:Int) (ss:List Int) (ks:List Tn):Int × Bool :=
  if ss ≠ [] ∧ ss.getD 0 0 = s ∧ 0 ≤ a ∧ a < ss.length ∧ tk = 6 ∧ behindS c (ss.getD (ss.length - 1) 0) (ss.getD a.toNat 0) = true ∧ chainS c ss = true ∧ metS c (ss.drop a.toNat) = true then Tn.accs c ks (List.replicate ss.length f0) ss 0 else (0,false)
def leafB (j tk a:Int) (ss:List Int) (ks:List Tn):Bool:=decide (tk = j) && decide (a = 0 ∧ ss.length = 0 ∧ ks.length = 0)
theorem leaf_eq (j tk a:Int) (ss:List Int) (ks:List Tn):decide (tk = j ∧ a = 0 ∧ ss = [] ∧ ks.map Tn.st = []) = leafB j tk a ss ks:=by
  unfold leafB
  rw [← Bool.decide_and]
  refine decide_eq_decide.2 ?_
  rw [List.length_eq_zero_iff,List.length_eq_zero_iff,List.map_eq_nil_iff]
noncomputable def runA (c:Ci) (ks:List Tn):(Int × Bool) ⊕ (List Fo × List Int) → Int × Bool
  | .inl r=>r
  | .inr p=>Tn.accs c ks p.1 p.2 0
section
variable {c:Ci} {tk s a l:Int} {ss:List Int} {ks:List Tn} {nm:ByteArray} {fs:List Fo}
theorem acc_mk {f:Fo}:Tn.acc c (.mk tk s a ss ks) f = runA c ks (planA c f tk s a ss (ks.map Tn.st)):=by
  rw [Tn.acc]
  cases planA c f tk s a ss (ks.map Tn.st) <;> rfl
theorem runA_ite {p:Prop} [Decidable p] {x:List Fo} {y:List Int} {r:Int × Bool}:runA c ks (if p then .inr (x,y) else .inl r) = if p then Tn.accs c ks x y 0 else r:=by split <;> rfl
theorem acc_inv (f:Fo) (h:validS c s = false):Tn.acc c (.mk tk s a ss ks) f = (0,false):=by
  obtain ⟨k,n,l,fs⟩:=f
  rw [acc_mk,planA,if_pos h]; first | rfl | (simp [runA]; done)
theorem acc_1 (h:validS c s = true):Tn.acc c (.mk tk s a ss ks) (.mk 1 nm l fs) = (0,false):=by
  rw [acc_mk,planA,if_neg (by simp [h]),if_pos rfl]; first | rfl | (simp [runA]; done)
theorem acc_2 (h:validS c s = true):Tn.acc c (.mk tk s a ss ks) (.mk 2 nm l fs) = (0,leafB 1 tk a ss ks):=by
  rw [acc_mk,planA,if_neg (by simp [h]),if_neg (by decide),if_pos rfl,leaf_eq]; first | rfl | (simp [runA]; done)
theorem acc_3 (h:validS c s = true):Tn.acc c (.mk tk s a ss ks) (.mk 3 nm l fs) = (0,leafB 1 tk a ss ks && isB c s l):=by
  rw [acc_mk,planA,if_neg (by simp [h]),if_neg (by decide),if_neg (by decide),if_pos rfl,leaf_eq]; first | rfl | (simp [runA]; done)
theorem acc_4 {n2:ByteArray} {l2:Int} {f2:List Fo} (h:validS c s = true):Tn.acc c (.mk tk s a ss ks) (.mk 4 nm l [.mk 3 n2 l2 f2]) = (0,leafB 1 tk a ss ks && !isB c s l2):=by
  rw [acc_mk,planA,if_neg (by simp [h]),if_neg (by decide),if_neg (by decide),if_neg (by decide),if_pos rfl,leaf_eq]; first | rfl | (simp [runA]; done)
theorem acc_5 (h:validS c s = true):Tn.acc c (.mk tk s a ss ks) (.mk 5 nm l fs) = if tk = 2 ∧ a = 0 ∧ ss = [] then Tn.accs c ks fs [s,s] 0 else (0,false):=by
  rw [acc_mk,planA,if_neg (by simp [h]),if_neg (by decide),if_neg (by decide),if_neg (by decide),if_neg (by decide),if_pos rfl]
  exact runA_ite
theorem acc_6 (h:validS c s = true):Tn.acc c (.mk tk s a ss ks) (.mk 6 nm l fs) = if tk = 3 ∧ 0 ≤ a ∧ a ≤ 1 ∧ ss = [] then Tn.accs c ks [fs.getD a.toNat fo0] [s] 0 else (0,false):=by
  rw [acc_mk,planA,if_neg (by simp [h]),if_neg (by decide),if_neg (by decide),if_neg (by decide),if_neg (by decide),if_neg (by decide),if_pos rfl]
  exact runA_ite
theorem acc_9 (h:validS c s = true):Tn.acc c (.mk tk s a ss ks) (.mk 9 nm l fs) = if tk = 4 ∧ a = 0 ∧ ss = [] ∧ (ks.map Tn.st).length = 2 ∧ behindS c s ((ks.map Tn.st).getD 0 0) = true then Tn.accs c ks [fs.getD 0 fo0,foG] [(ks.map Tn.st).getD 0 0,(ks.map Tn.st).getD 0 0] 0 else (0,false):=by
  rw [acc_mk,planA,if_neg (by simp [h]),if_neg (by decide),if_neg (by decide),if_neg (by decide),if_neg (by decide),if_neg (by decide),if_neg (by decide),if_pos rfl]
  exact runA_ite
theorem acc_11 {f:Fo} (h:validS c s = true):Tn.acc c (.mk tk s a ss ks) (.mk 11 nm l [f]) = pathR c fo2 f tk s a ss ks:=by
  rw [acc_mk,planA,if_neg (by simp [h]),if_neg (by decide),if_neg (by decide),if_neg (by decide),if_neg (by decide),if_neg (by decide),if_neg (by decide),if_neg (by decide),if_pos (.inl rfl),pathR,if_pos rfl,if_pos rfl]
  exact runA_ite
theorem acc_15 {f g:Fo} (h:validS c s = true):Tn.acc c (.mk tk s a ss ks) (.mk 15 nm l [f,g]) = pathR c f g tk s a ss ks:=by
  rw [acc_mk,planA,if_neg (by simp [h]),if_neg (by decide),if_neg (by decide),if_neg (by decide),if_neg (by decide),if_neg (by decide),if_neg (by decide),if_neg (by decide),if_pos (.inr rfl),pathR]
  exact runA_ite
theorem acc_13 {f:Fo} (h:validS c s = true):Tn.acc c (.mk tk s a ss ks) (.mk 13 nm l [f]) = loopR c f tk s a ss ks:=by
  rw [acc_mk,planA,if_neg (by simp [h]),if_neg (by decide),if_neg (by decide),if_neg (by decide),if_neg (by decide),if_neg (by decide),if_neg (by decide),if_neg (by decide),if_neg (by decide),if_pos rfl,loopR]
  exact runA_ite
theorem acc_17 {f g:Fo} (h:validS c s = true):Tn.acc c (.mk tk s a ss ks) (.mk 17 nm l [f,g]) = if tk = 3 ∧ 0 ≤ a ∧ a ≤ 1 ∧ ss = [] then Tn.accs c ks [if a = 0 then foOne 13 g else foTwo 15 g (foTwo 5 f g)] [s] 0 else (0,false):=by
  rw [acc_mk,planA,if_neg (by simp [h]),if_neg (by decide),if_neg (by decide),if_neg (by decide),if_neg (by decide),if_neg (by decide),if_neg (by decide),if_neg (by decide),if_neg (by decide),if_neg (by decide),if_pos rfl]
  exact runA_ite
theorem acc_t {k:Int} (hk:k = 10 ∨ k = 12 ∨ k = 14 ∨ k = 16 ∨ k = 18) (h:validS c s = true):Tn.acc c (.mk tk s a ss ks) (.mk k nm l fs) = (1,leafB 7 tk a ss ks):=by
  rw [acc_mk,planA,if_neg (by simp [h]),if_neg (by omega),if_neg (by omega),if_neg (by omega),if_neg (by omega),if_neg (by omega),if_neg (by omega),if_neg (by omega),if_neg (by omega),if_neg (by omega),if_neg (by omega),leaf_eq]; first | rfl | (simp [runA]; done)
end
set_option linter.unusedSectionVars false
theorem J_F0 {e:Nat} {f:Fo} {l:List Fo} {S0:Store} {P:AV → Prop}:(∃ q,(ixS e 4 (foL (f :: l)) (.v (.int .i64 0)) S0 fun v S=>v = q ∧ S = S0) ∧ P q) = P (.q f.row 0):=J_of (op:=fun K=>ixS e 4 (foL (f :: l)) (.v (.int .i64 0)) S0 K) fun K=>ixF0
theorem ixT0 {e:Nat} {f:Tn} {l:List Tn} {S:Store} {K:AV → Store → Prop}:ixS e 5 (tnL (f :: l)) (.v (.int .i64 0)) S K = K (.q f.row 0) S:=ixS_tnL (i:=0) (by simp)
theorem J_lenT {l:List Tn} {S0:Store} {P:AV → Prop}:(∃ q,(lenS (tnL l) S0 fun v S=>v = q ∧ S = S0) ∧ P q) = P (aI l.length):=J_of (op:=fun K=>lenS (tnL l) S0 K) fun K=>lenS_tnL l
theorem Tn.row1 (t:Tn):t.row[1]? = some (aI t.st):=by cases t; rw [Tn.row_mk]; rfl
theorem slen0 {ss:List Int}:(¬ ss = []) → decide ((0:Int) < (ss.length:Int)) = true:=fun h=>decide_eq_true (by have:=List.length_pos_iff.2 h; omega)
section
variable {c:Ci} (hc:Cs c) {ks:List Tn} (hk:ks.length ≤ 1000000) (IH:∀ t ∈ ks,∀ f,Pu f → Ans Tryz.prog 80 [c.av,f.av,t.av] (aR (t.acc c f))) {ss:List Int} (hs:ss.length ≤ 1000000) (tk s a:Int)
include hc hk IH hs
variable (hv:validS c s = true)
include hv
omit hv
end
def waysE:List (Key × AV):=[(.i 2,.f (.func 89) [] []),(.i 3,.f (.func 90) [] []),(.i 4,.f (.func 91) [] []),(.i 5,.f (.func 92) [] []),(.i 6,.f (.func 93) [] []),
  (.i 9,.f (.func 94) [] []),(.i 11,.f (.func 95) [] []),(.i 13,.f (.func 96) [] []),(.i 15,.f (.func 97) [] []),(.i 17,.f (.func 98) [] []),
  (.i 10,.f (.func 99) [] []),(.i 12,.f (.func 99) [] []),(.i 14,.f (.func 99) [] []),(.i 16,.f (.func 99) [] []),(.i 18,.f (.func 99) [] [])]
def plC (c:Ci) (n:Int):List AV:=c.cells ++ [aI n,.mt (.i .i64) waysE]
theorem plC_len (c:Ci) (n:Int):(plC c n).length = 10:=rfl
abbrev plO (c:Ci) (n:Int):AObj:=.cells 100 [plC c n] true
theorem ldN_pl {c:Ci} {n:Int} {id:Nat} {S:Store} {K:AV → Store → Prop} (h:S.obj id = some (plO c n)):ldN 8 (.p id 0 0) S K = K c.av S:=by
  simp [ldN,rdN,place,Store.get,h,plC,Ci.cells,Ci.av]
theorem J_pl {c:Ci} {n:Int} {id:Nat} {S0:Store} {P:AV → Prop} (h:S0.obj id = some (plO c n)):(∃ q,(ldN 8 (.p id 0 0) S0 fun v S=>v = q ∧ S = S0) ∧ P q) = P c.av:=J_of (op:=fun K=>ldN 8 (.p id 0 0) S0 K) fun K=>ldN_pl h
theorem at137 {c:Ci} (hc:c.ok) {n:Int} {id:Nat} {S:Store} (h:S.obj id = some (plO c n)) (s:Int) {l:Int} (hl:i64R l):AnsAt Tryz.prog 137 [.p id 0 0,aI s,aI l] S (aB (isB c s l)):=by
  refine calls137 ?_
  unfold m137
  rw [nilChk_p,shift_p,Nat.zero_add,ldN_pl h]
  exact callF_ans (ans171 hc s hl) ⟨rfl,rfl⟩
theorem at146 {c:Ci} (hc:c.ok) {n:Int} {id a b ta tb:Nat} {S:Store} (h:S.obj id = some (plO c n)) {s:Int} (ha:S.obj a = some (.cells ta [[.p id 0 0]] true)) (hb:S.obj b = some (.cells tb [[aI s]] true)) {l:Int} (hl:i64R l) :
    AnsAt Tryz.prog 146 ([] ++ [aI l] ++ [.p a 0 0,.p b 0 0]) S (aB (!isB c s l)):=by
  refine calls146 ?_
  unfold m146
  rw [ld1_p ha rfl rfl,ld1_p hb rfl rfl]
  refine callF_at (at137 hc h s hl) ?_
  rw [un_not]
  exact ⟨rfl,rfl⟩
theorem any_notI {l:List Int} {g:Int → Bool}:l.any (fun x=>!g x) = !l.all g:=by
  induction l with
  | nil=>rfl
  | cons a l ih=>rw [List.any_cons,List.all_cons,ih,Bool.not_and]
theorem at100 {c:Ci} (hc:Cs c) {n:Int} {id:Nat} {S:Store} (h:S.obj id = some (plO c n)) (hid:id < S.n) (s:Int):AnsAt Tryz.prog 100 [.p id 0 0,aI s] S (aB (validS c s)):=by
  obtain ⟨m,h1,h2,h3,h4,h5⟩:=hc.sum
  have hcon:=hc.ok.cons
  have hll:=hc.ok.llen
  refine ACalls.ans_v (calls100 ?_)
  unfold m100 validS
  rw [h2,Int.toNat_natCast]
  refine box1_of rfl fun S1 k1 n1 o1=>?_
  refine box1_of rfl fun S2 k2 n2 o2=>?_
  have kk:=k1.trans k2
  have p1:=(k2.2 _ (by omega)).trans o1
  have q:=(kk.2 _ hid).trans h
  have radd:∀ {P:AV → Prop},(∃ q,(bin .add 0 (aI c.inputs) (aI c.latches.length) S2 fun v S=>v = q ∧ S = S2) ∧ P q) = P (aI m):=J_of (op:=fun K=>bin .add 0 (aI c.inputs) (aI c.latches.length) S2 K) fun K=>(bin_add (by omega) (by omega) 0).trans (by rw [h1])
  have rlen:∀ {P:AV → Prop},(∃ q,(lenS (pL c.latches) S2 fun v S=>v = q ∧ S = S2) ∧ P q) = P (aI c.latches.length):=J_of (op:=fun K=>lenS (pL c.latches) S2 K) fun K=>lenS_pL _
  have rshl:∀ {P:AV → Prop},(∃ q,(bin .shl 0 (.v (.int .i64 1)) (aI m) S2 fun v S=>v = q ∧ S = S2) ∧ P q) = P (aI (2 ^ m)):=J_of (op:=fun K=>bin .shl 0 (.v (.int .i64 1)) (aI m) S2 K) fun K=>bin_shl1 h3
  show ∃ q:AV,_
  (repeat (first | with_reducible_and_instances (first | refine WJ ?_ | refine W (J_ldp p1 (by with_unfolding_all rfl) (by with_unfolding_all rfl)) ?_ | refine W (J_ldp o2 (by with_unfolding_all rfl) (by with_unfolding_all rfl)) ?_ | refine W (J_nil) ?_ | refine W (J_ldp q (by with_unfolding_all rfl) (by with_unfolding_all rfl)) ?_ | refine W (rlen) ?_ | refine W (radd) ?_ | refine W (J_ldq (by with_unfolding_all rfl)) ?_)))
  cases e1:decide (0 ≤ s) with
  | false =>
    (repeat (first | with_reducible_and_instances (first | refine WJ ?_ | refine W (J_ldq (by with_unfolding_all rfl)) ?_)))
    exact ⟨by rw [Bool.false_and],kk⟩
  | true =>
    (repeat (first | with_reducible_and_instances (first | refine WJ ?_ | refine W (J_ldp o2 (by with_unfolding_all rfl) (by with_unfolding_all rfl)) ?_ | refine W (rshl) ?_ | refine W (J_ldq (by with_unfolding_all rfl)) ?_)))
    cases e2:decide (s < 2 ^ m) with
    | false =>
      (repeat (first | with_reducible_and_instances (first | refine WJ ?_ | refine W (J_ldq (by with_unfolding_all rfl)) ?_)))
      exact ⟨by rw [Bool.false_and,Bool.and_false],kk⟩
    | true =>
      have hcf:=at132 (f:=aI) (l:=c.cons) hcon.2 (fs:=[]) (cs:=[.p S.n 0 0,.p S1.n 0 0]) (S:=S2) fun x hx=>at146 (s:=s) hc.ok q p1 o2 (hcon.1 x hx)
      rw [any_notI] at hcf
      (repeat (first | with_reducible_and_instances (first | refine WJ ?_ | refine W (J_ldp p1 (by with_unfolding_all rfl) (by with_unfolding_all rfl)) ?_ | refine W (J_nil) ?_ | refine W (J_ldp q (by with_unfolding_all rfl) (by with_unfolding_all rfl)) ?_ | refine W (J_ldq (by with_unfolding_all rfl)) ?_) | refine J_cI (hcf) rfl rfl ?_ | refine C_I (hcf) rfl rfl ?_))
      exact ⟨by rw [Bool.true_and,Bool.true_and,Bool.not_not],kk⟩
theorem at141 {c:Ci} (hc:Cs c) {n:Int} {id:Nat} {S:Store} (h:S.obj id = some (plO c n)) (hid:id < S.n) (s t:Int):AnsAt Tryz.prog 141 [.p id 0 0,aI s,aI t] S (aB (behindS c s t)):=by
  obtain ⟨m,h1,h2,h3,h4,h5⟩:=hc.sum
  refine calls141 ?_
  unfold m141 behindS
  show ∃ q:AV,_
  cases e1:validS c s with
  | false =>
    (repeat (first | with_reducible_and_instances (first | refine WJ ?_ | refine W (gd_T e1) ?_ | refine W (gd_F e1) ?_ | refine W (gd_nT e1) ?_ | refine W (gd_nF e1) ?_ | refine W (J_ldq (by with_unfolding_all rfl)) ?_) | refine J_cI (at100 hc h hid s) rfl rfl ?_ | refine C_I (at100 hc h hid s) rfl rfl ?_))
    exact ⟨by rw [Bool.false_and],rfl⟩
  | true =>
    cases e2:validS c t with
    | false =>
      (repeat (first | with_reducible_and_instances (first | refine WJ ?_ | refine W (gd_T e1) ?_ | refine W (gd_F e1) ?_ | refine W (gd_nT e1) ?_ | refine W (gd_nF e1) ?_ | refine W (gd_T e2) ?_ | refine W (gd_F e2) ?_ | refine W (gd_nT e2) ?_ | refine W (gd_nF e2) ?_ | refine W (J_ldq (by with_unfolding_all rfl)) ?_) | refine J_cI (at100 hc h hid s) rfl rfl ?_ | refine C_I (at100 hc h hid s) rfl rfl ?_ | refine J_cI (at100 hc h hid t) rfl rfl ?_ | refine C_I (at100 hc h hid t) rfl rfl ?_))
      exact ⟨by rw [Bool.false_and,Bool.and_false],rfl⟩
    | true =>
      (repeat (first | with_reducible_and_instances (first | refine WJ ?_ | refine W (J_nil) ?_ | refine W (J_pl h) ?_ | refine W (J_ldp h (by with_unfolding_all rfl) (by with_unfolding_all rfl)) ?_ | refine W (J_shr h4) ?_ | refine W (gd_T e1) ?_ | refine W (gd_F e1) ?_ | refine W (gd_nT e1) ?_ | refine W (gd_nF e1) ?_ | refine W (gd_T e2) ?_ | refine W (gd_F e2) ?_ | refine W (gd_nT e2) ?_ | refine W (gd_nF e2) ?_ | refine W (J_ldq (by with_unfolding_all rfl)) ?_) | refine J_cI (at100 hc h hid s) rfl rfl ?_ | refine C_I (at100 hc h hid s) rfl rfl ?_ | refine J_cI (at100 hc h hid t) rfl rfl ?_ | refine C_I (at100 hc h hid t) rfl rfl ?_ | refine J_cA (ans172 hc.ok s) rfl rfl ?_ | refine C_A (ans172 hc.ok s) rfl rfl ?_))
      exact ⟨by rw [Bool.true_and,Bool.true_and],rfl⟩
theorem ans138 (tk s a:Int) (ss:List Int) (ks:List Tn) (j:Int):Ans Tryz.prog 138 [(Tn.mk tk s a ss ks).av,aI j] (aB (decide (tk = j) && decide (a = 0 ∧ ss.length = 0))):=by
  intro S
  refine ACalls.ans_v (calls138 ?_)
  unfold m138
  rw [Tn.av,Tn.row_mk]
  refine boxA_of rfl fun S1 k1 n1 o1=>?_
  rw [shift_p,ld1_p o1 rfl rfl,bin_eql,onB_v]
  refine gd_of (fun h=>?_) (fun h=>⟨by rw [h,Bool.false_and],k1⟩)
  rw [h,Bool.true_and,shift_p,ld1_p o1 rfl rfl,bin_eql,onB_v]
  refine gd_of (fun h=>?_) (fun h=>⟨?_,k1⟩)
  · have h1:=of_decide_eq_true h
    rw [shift_p,ld1_p o1 rfl rfl,lenS_aL,bin_eql]
    exact ⟨by rw [nil_len]; congr 3; exact decide_eq_decide.2 ⟨fun h=>⟨h1,h⟩,fun h=>h.2⟩,k1⟩
  · have h1:=of_decide_eq_false h
    rw [decide_eq_false (fun h=>by omega)]
theorem ans136 (tk s a:Int) (ss:List Int) (ks:List Tn) (j:Int):Ans Tryz.prog 136 [(Tn.mk tk s a ss ks).av,aI j] (aB (leafB j tk a ss ks)):=by
  intro S
  refine ACalls.ans_v (calls136 ?_)
  unfold m136 leafB
  have cb:=ans138 tk s a ss ks j
  rw [Tn.av,Tn.row_mk] at cb ⊢
  refine boxA_of rfl fun S1 k1 n1 o1=>?_
  rw [ldN_p (n:=5) o1 rfl]
  refine callF_ans cb ?_
  rw [onB_v]
  refine gd_of (fun h=>?_) (fun h=>⟨?_,k1⟩)
  · rw [shift_p,ld1_p o1 rfl rfl,lenS_tnL,bin_eql]
    simp only [Bool.and_eq_true,decide_eq_true_eq] at h
    exact ⟨by rw [nil_len,decide_eq_true h.1,Bool.true_and]; congr 3; exact decide_eq_decide.2 ⟨fun h3=>⟨h.2.1,h.2.2,h3⟩,fun h=>h.2.2⟩,k1⟩
  · cases e:decide (tk = j) with
    | false=>rw [Bool.false_and]
    | true =>
      rw [e,Bool.true_and] at h
      have:=of_decide_eq_false h
      rw [decide_eq_false (fun h=>this ⟨h.1,h.2.1⟩)]; rfl
theorem fo2_row {S:Store} {n:Nat}:∀ (k:Nat) (u u2:AV),[aI 2,.v (.string ByteArray.empty),aI 0,AV.nl][k]? = some u → fo2.row[k]? = some u2 → Cv S n u u2:=fun k u u2 e1 e2=>by
  rw [Fo.row_mk] at e2
  match k with
  | 0=>cases e1; cases e2; exact .v _
  | 1=>cases e1; cases e2; exact .v _
  | 2=>cases e1; cases e2; exact .v _
  | 3=>cases e1; cases e2; exact .nl
  | k + 4=>simp at e1
theorem fo2_cv {f:FuncId} {k:Int} {r:AV} (h:Ans Tryz.prog f [aI k,foL [fo2]] r) (S:Store):AnsAt Tryz.prog f [aI k,.l [[aI 2,.v (.string ByteArray.empty),aI 0,.nl]]] S r:=by
  refine ansAt_cv (args2:=[aI k,foL [fo2]]) rfl (fun j u u2 e1 e2=>?_) (h S)
  match j with
  | 0=>cases e1; cases e2; exact .v _
  | 1 =>
    cases e1; cases e2
    refine .l _ _ rfl (fun i c c2 h1 h2=>?_) (fun i c c2 k u u2 h1 h2 h3 h4=>?_)
    · match i with
      | 0=>cases h1; cases h2; rw [Fo.row_len]; rfl
      | i + 1=>simp at h1
    · match i with
      | 0=>cases h1; cases h2; exact fo2_row k u u2 h3 h4
      | i + 1=>simp at h1
  | j + 2=>simp at e1
theorem ans142:Ans Tryz.prog 142 [] foG.av:=by
  intro S
  refine ACalls.tree (calls142 ?_)
  unfold m142
  refine boxA_of rfl fun S1 k1 n1 o1=>?_
  rw [bld_of (cs:=[aI 2,.v (.string ByteArray.empty),aI 0,.nl]) rfl]
  refine bslA4 rfl ?_
  refine callF_at (fo2_cv (fun S=>ans74 13 [fo2] S) S1) ?_
  refine stA_of o1 (Fo.row_len _) rfl fun S2 n2 o2 f2=>?_
  rw [ldN_p (n:=4) o2 (Fo.row_len _)]
  exact ⟨_,rfl,k1.st (Nat.le_refl _) n2 f2,Fo.tr _ _ _⟩
def seqR (a b:Int × Bool):Int × Bool:=if a.2 = true ∧ b.2 = true then (IntKind.i64.wrap (a.1 + b.1),true) else (0,false)
noncomputable def rat (c:Ci) (t:Tn) (f:Fo) (s:Int):Int × Bool:=if t.st = s then t.acc c f else (0,false)
theorem wrap_rng {n:Int} (h:i64R n):IntKind.i64.wrap n = n:=wrap64 h.1 h.2
theorem accs_no (c:Ci):∀ (ts:List Tn) (fs:List Fo) (ss:List Int) (n:Int),(Tn.accs c ts fs ss n).2 = false → Tn.accs c ts fs ss n = (0,false):=by
  intro ts
  induction ts with
  | nil =>
    intro fs ss n h
    cases fs <;> cases ss <;> first | (simp [Tn.accs] at h; done) | (simp [Tn.accs])
  | cons t ts ih =>
    intro fs ss n h
    cases fs with
    | nil=>cases ss <;> simp [Tn.accs]
    | cons f fs =>
      cases ss with
      | nil=>simp [Tn.accs]
      | cons s ss =>
        rw [accs_cons] at h ⊢
        split at h
        · rename_i hq
          rw [if_pos hq]
          exact ih fs ss _ h
        · rename_i hq
          rw [if_neg hq]
theorem accs_rng (c:Ci):∀ (ts:List Tn) (fs:List Fo) (ss:List Int) {n:Int},i64R n → i64R (Tn.accs c ts fs ss n).1:=by
  have z:i64R 0:=⟨by decide,by decide⟩
  intro ts
  induction ts with
  | nil =>
    intro fs ss n h
    cases fs <;> cases ss <;> simp [Tn.accs] <;> first | exact h | exact z
  | cons t ts ih =>
    intro fs ss n h
    cases fs with
    | nil=>cases ss <;> simp [Tn.accs] <;> exact z
    | cons f fs =>
      cases ss with
      | nil=>simp [Tn.accs]; exact z
      | cons s ss =>
        rw [accs_cons]
        split
        · exact ih fs ss (wrapR _)
        · exact z
theorem accs_from (c:Ci) (ts:List Tn) (fs:List Fo) (ss:List Int) {n:Int} (hn:i64R n):Tn.accs c ts fs ss n = seqR (n,true) (Tn.accs c ts fs ss 0):=by
  obtain ⟨h1,h2⟩:=accs_on c ts fs ss n 0
  unfold seqR
  cases e:(Tn.accs c ts fs ss n).2 with
  | false=>rw [← h1,e,accs_no _ _ _ _ _ e,if_neg (by simp)]
  | true =>
    have h3:=h2 e
    rw [Int.zero_add,wrap_rng (accs_rng c ts fs ss hn)] at h3
    rw [← h1,e,if_pos ⟨rfl,rfl⟩,← h3,← e]
theorem accs_seq {c:Ci} {t:Tn} {ts:List Tn} {f:Fo} {fs:List Fo} {s:Int} {ss:List Int}:Tn.accs c (t :: ts) (f :: fs) (s :: ss) 0 = seqR (rat c t f s) (Tn.accs c ts fs ss 0):=by
  rw [accs_cons,rat]
  by_cases h:t.st = s
  · rw [if_pos h,decide_eq_true h,Bool.and_true]
    split
    · rename_i h2
      rw [Int.zero_add,accs_from _ _ _ _ (wrapR _)]
      unfold seqR
      rw [h2]
      split
      · show (IntKind.i64.wrap (IntKind.i64.wrap _ + _),true) = _
        rw [wrap_wrap]
      · rfl
    · rename_i h2
      unfold seqR
      rw [if_neg (fun hq=>h2 hq.1)]
  · rw [if_neg h,decide_eq_false h,Bool.and_false,if_neg (by decide)]
    unfold seqR
    rw [if_neg (by simp)]
theorem accs_none {c:Ci}:Tn.accs c [] [] [] 0 = (0,true):=by rw [Tn.accs]
theorem seq_none {c:Ci} {t:Tn} {f:Fo} {s:Int}:Tn.accs c [t] [f] [s] 0 = seqR (rat c t f s) (0,true):=by rw [accs_seq,accs_none]
theorem seq_assoc (a b d:Int × Bool):seqR (seqR a b) d = seqR a (seqR b d):=by
  unfold seqR
  cases a.2 <;> cases b.2 <;> cases d.2 <;> simp
  rw [wrap_wrap,wrap_wrap',Int.add_assoc]
theorem accs_app (c:Ci):∀ (ts:List Tn) (fs:List Fo) (ss:List Int) (ts2:List Tn) (fs2:List Fo) (ss2:List Int),fs.length = ts.length → ss.length = ts.length → Tn.accs c (ts ++ ts2) (fs ++ fs2) (ss ++ ss2) 0 = seqR (Tn.accs c ts fs ss 0) (Tn.accs c ts2 fs2 ss2 0):=by
  intro ts
  induction ts with
  | nil =>
    intro fs ss ts2 fs2 ss2 h1 h2
    obtain rfl:=List.eq_nil_of_length_eq_zero h1
    obtain rfl:=List.eq_nil_of_length_eq_zero h2
    rw [accs_none,List.nil_append,List.nil_append,List.nil_append]
    exact accs_from c ts2 fs2 ss2 ⟨by decide,by decide⟩
  | cons t ts ih =>
    intro fs ss ts2 fs2 ss2 h1 h2
    match fs,ss,h1,h2 with
    | f :: fs,s :: ss,h1,h2 =>
      rw [List.cons_append,List.cons_append,List.cons_append,accs_seq,accs_seq,ih fs ss ts2 fs2 ss2 (by simpa using h1) (by simpa using h2),seq_assoc]
def PlR (c:Ci) (id:Nat) (S:Store) (n:Int) (r:Int × Bool) (e:AEnd) (S':Store):Prop :=
  ∃ n',e = .ret (aB r.2) ∧ i64R n' ∧ (r.2 = true → n' = IntKind.i64.wrap (n + r.1)) ∧ S.n ≤ S'.n ∧ S'.obj id = some (plO c n') ∧ ∀ x,x < S.n → x ≠ id → S'.obj x = S.obj x
theorem PlR.up {c:Ci} {id:Nat} {S S2 S':Store} {n:Int} {r:Int × Bool} {e:AEnd} (k:Keep S S2) (h:PlR c id S2 n r e S'):PlR c id S n r e S':=by
  obtain ⟨n',h1,h2,h3,h4,h5,h6⟩:=h
  exact ⟨n',h1,h2,h3,by have:=k.1; omega,h5,fun x hx hne=>(h6 x (by have:=k.1; omega) hne).trans (k.2 x hx)⟩
theorem PlR.same {c:Ci} {id:Nat} {S S':Store} {n:Int} {b:Bool} (k:Keep S S') (ho:S'.obj id = some (plO c n)) (hn:i64R n):PlR c id S n (0,b) (.ret (aB b)) S' :=
  ⟨n,rfl,hn,fun _=>by rw [Int.add_zero,wrap_rng hn],k.1,ho,fun x hx _=>k.2 x hx⟩
theorem PlR.seq {c:Ci} {id:Nat} {S S1 S2:Store} {n:Int} {n1:Int} {a b:Int × Bool} {e:AEnd} (ha:a.2 = true) (h1:n1 = IntKind.i64.wrap (n + a.1)) (hn:S.n ≤ S1.n) (ho:∀ x,x < S.n → x ≠ id → S1.obj x = S.obj x) (h:PlR c id S1 n1 b e S2):PlR c id S n (seqR a b) e S2:=by
  obtain ⟨n',e1,e2,e3,e4,e5,e6⟩:=h
  refine ⟨n',?_,e2,fun hq=>?_,by omega,e5,fun x hx hne=>(e6 x (by omega) hne).trans (ho x hx hne)⟩
  · rw [e1]
    unfold seqR
    cases hb:b.2 with
    | true=>rw [if_pos ⟨ha,rfl⟩]
    | false=>rw [if_neg (by simp)]
  · unfold seqR at hq ⊢
    split at hq
    · rename_i h2
      rw [if_pos h2,e3 h2.2,h1]
      show IntKind.i64.wrap (IntKind.i64.wrap (n + a.1) + b.1) = IntKind.i64.wrap (n + IntKind.i64.wrap (a.1 + b.1))
      rw [wrap_wrap,wrap_wrap',Int.add_assoc]
    · cases hq
theorem PlR.seqF {c:Ci} {id:Nat} {S S1:Store} {n n1:Int} {a b:Int × Bool} (ha:a.2 = false) (h1:i64R n1) (hn:S.n ≤ S1.n) (ho:S1.obj id = some (plO c n1)) (hk:∀ x,x < S.n → x ≠ id → S1.obj x = S.obj x):PlR c id S n (seqR a b) (.ret (aB false)) S1:=by
  have:seqR a b = (0,false):=by unfold seqR; rw [if_neg (by simp [ha])]
  rw [this]
  exact ⟨n1,rfl,h1,(fun h=>by cases h),hn,ho,hk⟩
theorem callF_pl {P:Program} {f:FuncId} {args:List AV} {c:Ci} {id:Nat} {S:Store} {n:Int} {r:Int × Bool} (h:ACalls P f args S (PlR c id S n r)) {Q:AEnd → Store → Prop} {K:AV → Store → Prop}
    (k:∀ n' S',i64R n' → (r.2 = true → n' = IntKind.i64.wrap (n + r.1)) → S.n ≤ S'.n → S'.obj id = some (plO c n') → (∀ x,x < S.n → x ≠ id → S'.obj x = S.obj x) → K (aB r.2) S'):callF P f args S Q K :=
  .inl (h.mono fun e S' ⟨n',he,h1,h2,h3,h4,h5⟩=>by subst he; exact k n' S' h1 h2 h3 h4 h5)
theorem callF_pr {P:Program} {f:FuncId} {args:List AV} {c:Ci} {id:Nat} {S:Store} {n:Int} {r:Int × Bool} (h:ACalls P f args S (PlR c id S n r)) {Q:AEnd → Store → Prop} {K:AV → Store → Prop}
    (k:∀ S',PlR c id S n r (.ret (aB r.2)) S' → K (aB r.2) S'):callF P f args S Q K :=
  .inl (h.mono fun e S' hp=>by
    have hp':=hp
    obtain ⟨n',he,_⟩:=hp
    subst he
    exact k S' hp')
theorem callV_pr {P:Program} {f:FuncId} {fs args cs:List AV} {c:Ci} {id:Nat} {S:Store} {n:Int} {r:Int × Bool} (h:ACalls P f (fs ++ args ++ cs) S (PlR c id S n r)) {K X:AV → Store → Prop}
    (k:∀ S',PlR c id S n r (.ret (aB r.2)) S' → K (aB r.2) S'):callV P (.f (.func f) fs cs) args S K X :=
  .inl (h.mono fun e S' hp=>by
    have hp':=hp
    obtain ⟨n',he,_⟩:=hp
    subst he
    exact k S' hp')
def HK (c:Ci) (id:Nat) (t:Tn):Prop:=∀ f,Pu f → ∀ (S:Store) (n:Int),S.obj id = some (plO c n) → id < S.n → i64R n → ACalls Tryz.prog 54 [.p id 0 0,f.av,t.av] S (PlR c id S n (t.acc c f))
theorem pl139 {c:Ci} {id:Nat} {t:Tn} (ht:HK c id t) {f:Fo} (hf:Pu f) {S:Store} {n:Int} (h:S.obj id = some (plO c n)) (hid:id < S.n) (hn:i64R n) (s:Int) :
    ACalls Tryz.prog 139 [.p id 0 0,aI s,f.av,t.av] S (PlR c id S n (rat c t f s)):=by
  refine calls139 ?_
  unfold m139
  have h1:t.row[1]? = some (aI t.st):=Tn.row1 t
  refine boxA_of (Fo.row_len f) fun S1 k1 n1 o1=>?_
  refine boxA_of (Tn.row_len t) fun S2 k2 n2 o2=>?_
  have kk:=k1.trans k2
  have p1:=(k2.2 _ (by omega)).trans o1
  have q:=(kk.2 _ hid).trans h
  rw [shift_p,Nat.zero_add,ld1_p o2 rfl h1,bin_eql,onB_v]
  unfold rat
  refine gd_of (fun e=>?_) (fun e=>?_)
  · rw [if_pos (of_decide_eq_true e),ldN_p (n:=4) p1 (Fo.row_len f),ldN_p (n:=5) o2 (Tn.row_len t)]
    exact callF_pr (ht f hf S2 n q (by omega) hn) fun S' hp=>hp.up kk
  · rw [if_neg (of_decide_eq_false e)]
    exact PlR.same kk q hn
set_option linter.unusedSectionVars false
theorem LJ_T0 {e:Nat} {t:Tn} {l:List Tn} {S0:Store} {P:AV → Prop}:(∃ q,(∀ T,Keep S0 T → ixS e 5 (tnL (t :: l)) (.v (.int .i64 0)) T fun v S=>v = q ∧ S = T) ∧ P q) = P (.q t.row 0):=LJ_of (op:=fun T K=>ixS e 5 (tnL (t :: l)) (.v (.int .i64 0)) T K) fun T hT K=>ixT0
theorem LJ_Ti {e i:Nat} {l:List Tn} (h:i < l.length) {S0:Store} {P:AV → Prop}:(∃ q,(∀ T,Keep S0 T → ixS e 5 (tnL l) (aI i) T fun v S=>v = q ∧ S = T) ∧ P q) = P (.q l[i].row 0):=LJ_of (op:=fun T K=>ixS e 5 (tnL l) (aI i) T K) fun T hT K=>ixS_tnL h
theorem LJ_T1 {e:Nat} {t t1:Tn} {l:List Tn} {S0:Store} {P:AV → Prop}:(∃ q,(∀ T,Keep S0 T → ixS e 5 (tnL (t :: t1 :: l)) (.v (.int .i64 1)) T fun v S=>v = q ∧ S = T) ∧ P q) = P (.q t1.row 0):=LJ_Ti (i:=1) (l:=t :: t1 :: l) (by simp)
theorem LJ_lenT {l:List Tn} {S0:Store} {P:AV → Prop}:(∃ q,(∀ T,Keep S0 T → lenS (tnL l) T fun v S=>v = q ∧ S = T) ∧ P q) = P (aI l.length):=LJ_of (op:=fun T K=>lenS (tnL l) T K) fun T hT K=>lenS_tnL l
theorem PlR.one {c:Ci} {id:Nat} {S S':Store} {n:Int} {r:Int × Bool} {e:AEnd} (h:PlR c id S n r e S'):PlR c id S n (seqR r (0,true)) e S':=by
  obtain ⟨n',h1,h2,h3,h4⟩:=h
  unfold seqR
  cases hr:r.2 with
  | false=>exact ⟨n',by rw [h1,hr,if_neg (by simp)],h2,(fun h=>by simp at h),h4⟩
  | true=>exact ⟨n',by rw [h1,hr,if_pos ⟨rfl,rfl⟩],h2,(fun _=>by rw [if_pos ⟨rfl,rfl⟩]; show n' = IntKind.i64.wrap (n + IntKind.i64.wrap (r.1 + 0)); rw [wrap_wrap',Int.add_zero]; exact h3 hr),h4⟩
section
variable {c:Ci} (hc:Cs c) {id:Nat} {ks:List Tn} (hk:∀ t ∈ ks,HK c id t) (hkl:ks.length ≤ 1000000) {ss:List Int} (hs:ss.length ≤ 1000000) (tk s a:Int) {S:Store} {n:Int} (h:S.obj id = some (plO c n)) (hid:id < S.n) (hn:i64R n)
include hc hk hkl hs h hid hn
theorem pl89 (f:Fo):ACalls Tryz.prog 89 [.p id 0 0,f.av,(Tn.mk tk s a ss ks).av] S (PlR c id S n (0,leafB 1 tk a ss ks)):=by
  refine calls89 ?_
  unfold m89
  have cl:=ans136 tk s a ss ks 1
  rw [Tn.av,Tn.row_mk] at cl ⊢
  refine boxA_of (Fo.row_len f) fun S1 k1 n1 o1=>?_
  refine boxA_of rfl fun S2 k2 n2 o2=>?_
  have kk:=k1.trans k2
  rw [ldN_p (n:=5) o2 rfl]
  exact callF_ans cl (PlR.same kk ((kk.2 _ hid).trans h) hn)
theorem pl90 (k:Int) (nm:ByteArray) {l:Int} (hl:i64R l) (fs:List Fo):ACalls Tryz.prog 90 [.p id 0 0,(Fo.mk k nm l fs).av,(Tn.mk tk s a ss ks).av] S (PlR c id S n (0,leafB 1 tk a ss ks && isB c s l)):=by
  refine calls90 ?_
  unfold m90
  have cl:=ans136 tk s a ss ks 1
  rw [Tn.av,Tn.row_mk] at cl ⊢
  rw [Fo.av,Fo.row_mk]
  refine boxA_of rfl fun S1 k1 n1 o1=>?_
  refine boxA_of rfl fun S2 k2 n2 o2=>?_
  have kk:=k1.trans k2
  have p1:=(k2.2 _ (by omega)).trans o1
  have q:=(kk.2 _ hid).trans h
  rw [ldN_p (n:=5) o2 rfl]
  refine callF_ans cl ?_
  rw [onB_v]
  refine gd_of (fun e=>?_) (fun e=>?_)
  · rw [e,Bool.true_and,shift_p,ld1_p o2 rfl rfl,shift_p,ld1_p p1 rfl rfl]
    exact callF_at (at137 hc.ok q s hl) (PlR.same kk q hn)
  · rw [e,Bool.false_and]
    exact PlR.same kk q hn
theorem pl91 (k l2:Int) (nm n2:ByteArray) {l:Int} (hl:i64R l) (fs:List Fo):ACalls Tryz.prog 91 [.p id 0 0,(Fo.mk k nm l2 [.mk 3 n2 l fs]).av,(Tn.mk tk s a ss ks).av] S (PlR c id S n (0,leafB 1 tk a ss ks && !isB c s l)):=by
  refine calls91 ?_
  unfold m91
  have cl:=ans136 tk s a ss ks 1
  rw [Tn.av,Tn.row_mk] at cl ⊢
  rw [Fo.av,Fo.row_mk]
  have r2:(Fo.mk 3 n2 l fs).row[2]? = some (aI l):=by rw [Fo.row_mk]; rfl
  refine boxA_of rfl fun S1 k1 n1 o1=>?_
  refine boxA_of rfl fun S2 k2 n2 o2=>?_
  have kk:=k1.trans k2
  have p1:=(k2.2 _ (by omega)).trans o1
  have q:=(kk.2 _ hid).trans h
  show ∃ q:AV,_
  cases e:leafB 1 tk a ss ks with
  | false =>
    rw [e] at cl
    (repeat (first | with_reducible_and_instances (first | refine WJ ?_ | refine W (J_ldN (n:=5) o2 (by with_unfolding_all rfl)) ?_ | refine W (gd_T e) ?_ | refine W (gd_F e) ?_ | refine W (gd_nT e) ?_ | refine W (gd_nF e) ?_ | refine W (J_ldq (by with_unfolding_all rfl)) ?_) | refine J_cA (cl) rfl rfl ?_ | refine C_A (cl) rfl rfl ?_))
    rw [Bool.false_and]
    exact PlR.same kk q hn
  | true =>
    rw [e] at cl
    (repeat (first | with_reducible_and_instances (first | refine WJ ?_ | refine W (J_ldN (n:=5) o2 (by with_unfolding_all rfl)) ?_ | refine W (J_ldp o2 (by with_unfolding_all rfl) (by with_unfolding_all rfl)) ?_ | refine W (J_ldp p1 (by with_unfolding_all rfl) (by with_unfolding_all rfl)) ?_ | refine W (J_F0) ?_ | refine W (J_ldq r2) ?_ | refine W (gd_T e) ?_ | refine W (gd_F e) ?_ | refine W (gd_nT e) ?_ | refine W (gd_nF e) ?_ | refine W (J_ldq (by with_unfolding_all rfl)) ?_) | refine J_cA (cl) rfl rfl ?_ | refine C_A (cl) rfl rfl ?_ | refine J_cI (at137 hc.ok q s hl) rfl rfl ?_ | refine C_I (at137 hc.ok q s hl) rfl rfl ?_))
    rw [Bool.true_and]
    exact PlR.same kk q hn
theorem pl92 {f g:Fo} (hf:Pu f) (hg:Pu g) (k l:Int) (nm:ByteArray):ACalls Tryz.prog 92 [.p id 0 0,(Fo.mk k nm l [f,g]).av,(Tn.mk tk s a ss ks).av] S (PlR c id S n (if tk = 2 ∧ a = 0 ∧ ss = [] then Tn.accs c ks [f,g] [s,s] 0 else (0,false))):=by
  refine calls92 ?_
  unfold m92
  have cb:=ans138 tk s a ss ks 2
  rw [Tn.av,Tn.row_mk] at cb ⊢
  rw [Fo.av,Fo.row_mk]
  refine boxA_of rfl fun S1 k1 n1 o1=>?_
  refine boxA_of rfl fun S2 k2 n2 o2=>?_
  have kk:=k1.trans k2
  have p1:=(k2.2 _ (by omega)).trans o1
  have q:=(kk.2 _ hid).trans h
  show ∃ q:AV,_
  by_cases e1:¬ (tk = 2 ∧ a = 0 ∧ ss.length = 0)
  · rw [show (decide (tk = 2) && decide (a = 0 ∧ ss.length = 0)) = false by rw [← Bool.decide_and]; exact decide_eq_false e1] at cb
    (repeat (first | with_reducible_and_instances (first | refine WJ ?_ | refine W (LJ_ldN (n:=5) o2 (by omega) (by with_unfolding_all rfl)) ?_ | refine W (J_ldq (by with_unfolding_all rfl)) ?_) | refine J_cA (cb) rfl rfl ?_ | refine C_A (cb) rfl rfl ?_ | refine L_cA (cb) rfl rfl ?_))
    rw [if_neg (fun hq=>e1 ⟨hq.1,hq.2.1,by rw [hq.2.2]; rfl⟩)]
    exact PlR.same kk q hn
  have e1:=Decidable.not_not.1 e1
  rw [show (decide (tk = 2) && decide (a = 0 ∧ ss.length = 0)) = true by rw [← Bool.decide_and]; exact decide_eq_true e1] at cb
  rw [if_pos ⟨e1.1,e1.2.1,List.eq_nil_of_length_eq_zero e1.2.2⟩]
  (repeat (first | with_reducible_and_instances (first | refine WJ ?_ | refine W (LJ_ldN (n:=5) o2 (by omega) (by with_unfolding_all rfl)) ?_ | refine W (LJ_ldp o2 (by omega) (by with_unfolding_all rfl) (by with_unfolding_all rfl)) ?_ | refine W (LJ_lenT) ?_ | refine W (J_ldq (by with_unfolding_all rfl)) ?_) | refine J_cA (cb) rfl rfl ?_ | refine C_A (cb) rfl rfl ?_ | refine L_cA (cb) rfl rfl ?_))
  by_cases e2:¬ ks.length = 2
  · rw [show decide ((ks.length:Int) = 2) = false from decide_eq_false (by omega)]
    (repeat (first | with_reducible_and_instances (first | refine WJ ?_ | refine W (J_ldq (by with_unfolding_all rfl)) ?_)))
    rw [accs_len c ks _ _ _ (fun hq=>e2 (by have:=hq.1; simpa using this.symm))]
    exact PlR.same kk q hn
  have e2:=Decidable.not_not.1 e2
  rw [show decide ((ks.length:Int) = 2) = true from decide_eq_true (by omega)]
  obtain ⟨t0,t1,rfl⟩:∃ t0 t1,ks = [t0,t1]:=by
    match ks,e2 with
    | [t0,t1],_=>exact ⟨t0,t1,rfl⟩
  rw [accs_seq,seq_none]
  (repeat (first | with_reducible_and_instances (first | refine WJ ?_ | refine W (LJ_ldp o2 (by omega) (by with_unfolding_all rfl) (by with_unfolding_all rfl)) ?_ | refine W (LJ_ldp p1 (by omega) (by with_unfolding_all rfl) (by with_unfolding_all rfl)) ?_ | refine W (LJ_F0) ?_ | refine W (LJ_T0) ?_ | refine W (LJ_ldNq (Fo.row_len _)) ?_ | refine W (LJ_ldNq (Tn.row_len _)) ?_ | refine W (J_ldq (by with_unfolding_all rfl)) ?_)))
  refine callF_pl (pl139 (hk t0 (by simp)) hf q (by omega) hn s) fun m S3 hm h1 hn3 q3 f3=>?_
  have o3:=(f3 _ (by omega) (by omega)).trans o2
  have p3:=(f3 _ (by omega) (by omega)).trans p1
  have kk3:∀ x,x < S.n → x ≠ id → S3.obj x = S.obj x:=fun x hx hne=>(f3 x (by have:=kk.1; omega) hne).trans (kk.2 x hx)
  cases e3:(rat c t0 f s).2 with
  | false =>
    (repeat (first | with_reducible_and_instances (first | refine WJ ?_ | refine W (J_ldq (by with_unfolding_all rfl)) ?_)))
    exact PlR.seqF e3 hm (by omega) q3 kk3
  | true =>
    (repeat (first | with_reducible_and_instances (first | refine WJ ?_ | refine W (LJ_ldp o3 (by omega) (by with_unfolding_all rfl) (by with_unfolding_all rfl)) ?_ | refine W (LJ_ldp p3 (by omega) (by with_unfolding_all rfl) (by with_unfolding_all rfl)) ?_ | refine W (LJ_F1) ?_ | refine W (LJ_T1) ?_ | refine W (LJ_ldNq (Fo.row_len _)) ?_ | refine W (LJ_ldNq (Tn.row_len _)) ?_ | refine W (J_ldq (by with_unfolding_all rfl)) ?_)))
    refine callF_pr (pl139 (hk t1 (by simp)) hg q3 (by omega) hm s) fun S4 hp=>?_
    (repeat (first | with_reducible_and_instances (first | refine WJ ?_ | refine W (J_ldq (by with_unfolding_all rfl)) ?_)))
    exact PlR.seq e3 (h1 e3) (by omega) kk3 hp.one
theorem pl140 {f g:Fo} (hf:Pu f) (hg:Pu g):ACalls Tryz.prog 140 [.p id 0 0,(Tn.mk tk s a ss ks).av,foL [f,g]] S (PlR c id S n (if tk = 3 ∧ 0 ≤ a ∧ a ≤ 1 ∧ ss = [] then Tn.accs c ks [[f,g].getD a.toNat fo0] [s] 0 else (0,false))):=by
  refine calls140 ?_
  unfold m140
  rw [Tn.av,Tn.row_mk]
  refine boxA_of rfl fun S1 k1 n1 o1=>?_
  have q:=(k1.2 _ hid).trans h
  rw [shift_p,ld1_p o1 rfl rfl,bin_neq,onB_v]
  by_cases e1:¬ tk = 3
  · rw [decide_eq_false e1,if_neg (fun hq=>e1 hq.1)]
    exact PlR.same k1 q hn
  have e1:=Decidable.not_not.1 e1
  rw [decide_eq_true e1,gd_nT (b:=true) rfl,shift_p,ld1_p o1 rfl rfl,bin_lss,onB_v]
  by_cases e2:a < 0
  · rw [decide_eq_true e2,if_neg (fun hq=>by omega)]
    exact PlR.same k1 q hn
  rw [decide_eq_false e2,gd_false,shift_p,ld1_p o1 rfl rfl,bin_gtr,onB_v]
  by_cases e3:1 < a
  · rw [decide_eq_true e3,if_neg (fun hq=>by omega)]
    exact PlR.same k1 q hn
  rw [decide_eq_false e3,gd_false,shift_p,ld1_p o1 rfl rfl,lenS_aL,bin_gtr,onB_v]
  by_cases e4:¬ ss = []
  · rw [slen0 e4,if_neg (fun hq=>e4 hq.2.2.2)]
    exact PlR.same k1 q hn
  have e4:=Decidable.not_not.1 e4
  rw [show decide ((0:Int) < (ss.length:Int)) = false from decide_eq_false (by simp [e4]),gd_false,if_pos ⟨e1,by omega,by omega,e4⟩,shift_p,ld1_p o1 rfl rfl,lenS_tnL,bin_neq,onB_v]
  by_cases e5:¬ ks.length = 1
  · rw [show decide ((ks.length:Int) = 1) = false from decide_eq_false (by omega),accs_len c ks _ _ _ (fun hq=>e5 (by have:=hq.1; simpa using this.symm))]
    exact PlR.same k1 q hn
  have e5:=Decidable.not_not.1 e5
  rw [show decide ((ks.length:Int) = 1) = true from decide_eq_true (by omega),gd_nT (b:=true) rfl]
  obtain ⟨t0,rfl⟩:=List.length_eq_one_iff.1 e5
  obtain ⟨j,rfl⟩:=Int.eq_ofNat_of_zero_le (show 0 ≤ a by omega)
  have hj:j < [f,g].length:=by simp; omega
  rw [Int.toNat_natCast,List.getD_eq_getElem?_getD,List.getElem?_eq_getElem hj,Option.getD_some,seq_none]
  have hx:Pu [f,g][j]:=by
    match j,hj with
    | 0,_=>exact hf
    | 1,_=>exact hg
  show ∃ q:AV,_
  (repeat (first | with_reducible_and_instances (first | refine WJ ?_ | refine W (LJ_ldp o1 (by omega) (by with_unfolding_all rfl) (by with_unfolding_all rfl)) ?_ | refine W (LJ_Fi hj) ?_ | refine W (LJ_T0) ?_ | refine W (LJ_ldNq (Fo.row_len _)) ?_ | refine W (LJ_ldNq (Tn.row_len _)) ?_ | refine W (J_ldq (by with_unfolding_all rfl)) ?_)))
  exact callF_pr (pl139 (hk t0 (by simp)) hx q (by omega) hn s) fun S4 hp=>(hp.up k1).one
theorem pl93 {f g:Fo} (hf:Pu f) (hg:Pu g) (k l:Int) (nm:ByteArray):ACalls Tryz.prog 93 [.p id 0 0,(Fo.mk k nm l [f,g]).av,(Tn.mk tk s a ss ks).av] S (PlR c id S n (if tk = 3 ∧ 0 ≤ a ∧ a ≤ 1 ∧ ss = [] then Tn.accs c ks [[f,g].getD a.toNat fo0] [s] 0 else (0,false))):=by
  refine calls93 ?_
  unfold m93
  rw [Fo.av,Fo.row_mk]
  refine boxA_of rfl fun S1 k1 n1 o1=>?_
  refine boxA_of (Tn.row_len _) fun S2 k2 n2 o2=>?_
  have kk:=k1.trans k2
  have p1:=(k2.2 _ (by omega)).trans o1
  have q:=(kk.2 _ hid).trans h
  rw [ldN_p (n:=5) o2 (Tn.row_len _),shift_p,ld1_p p1 rfl rfl]
  exact callF_pr (pl140 hc hk hkl hs tk s a q (by omega) hn hf hg) fun S4 hp=>hp.up kk
end
set_option linter.unusedSectionVars false
noncomputable def wayB (c:Ci) (s:Int) (ss:List Int):Bool:=chainS c ss && decide (ss ≠ [] ∧ ss.getD 0 0 = s)
theorem at143 {c:Ci} (hc:Cs c) {id:Nat} {S:Store} {n:Int} (h:S.obj id = some (plO c n)) (hid:id < S.n) (tk s a:Int) {ss:List Int} (hs:ss.length ≤ 1000000) (ks:List Tn):AnsAt Tryz.prog 143 [.p id 0 0,(Tn.mk tk s a ss ks).av] S (aB (wayB c s ss)):=by
  refine ACalls.ans_v (calls143 ?_)
  unfold m143
  rw [Tn.av,Tn.row_mk]
  refine boxA_of rfl fun S1 k1 n1 o1=>?_
  have q:=(k1.2 _ hid).trans h
  rw [shift_p,ld1_p o1 rfl rfl,lenS_aL]
  refine loop143_0 (fun y S'=>S' = S1 ∧ ∃ i:Nat,y = aI i ∧ i ≤ ss.length ∧ ∀ m (h:m + 1 < ss.length),m + 1 < i → behindS c (ss[m]'(by omega)) ss[m + 1] = true) (fun y _=>ss.length - ((intA y).getD 0).toNat) ⟨rfl,0,rfl,Nat.zero_le _,fun m _ h=>by omega⟩ ?_
  rintro _ S1 ⟨rfl,i,rfl,hi,hch⟩ KE hKE
  unfold b143_0
  rw [bin_lss,onB_v]
  refine gd_of (fun hlt=>?_) (fun hge=>?_)
  · have hlt:i < ss.length:=by have:=of_decide_eq_true hlt; omega
    have hadd:∀ (T:Store) (K:AV → Store → Prop),bin .add 0 (aI i) (.v (.int .i64 1)) T K = K (aI (i + 1:Nat)) T:=fun T K=>bin_add (by omega) (by omega) 0
    rw [ixS_aL hlt,ld1_q,bin_gtr,onB_v]
    refine gd_of (fun h0=>?_) (fun h0=>?_)
    · have h0:=of_decide_eq_true h0
      obtain ⟨m,rfl⟩:∃ m,i = m + 1:=⟨i - 1,by omega⟩
      have hm:m < ss.length:=by omega
      rw [shift_p,ld1_p o1 rfl rfl,show ∀ K:AV → Store → Prop,bin .sub 0 (aI (m + 1:Nat)) (.v (.int .i64 1)) S1 K = K (aI m) S1 from fun K=>(bin_sub (by omega) (by omega) 0).trans (by rw [show (((m + 1:Nat):Nat):Int) - 1 = m by omega]),ixS_aL hm,ld1_q]
      refine callF_at (at141 hc q (by omega) ss[m] ss[m + 1]) ?_
      rw [un_not,onB_v]
      refine gd_of (fun hb=>⟨?_,k1⟩) (fun hb=>?_)
      · rw [wayB,chain_no hlt (by simpa using hb),Bool.false_and]
      · rw [hadd]
        refine hKE _ _ ⟨rfl,m + 2,rfl,hlt,fun m' hm' hi'=>?_⟩ (by simp [intA]; omega)
        by_cases e:m' = m
        · subst e; simpa using hb
        · exact hch m' hm' (by omega)
    · have h0:=of_decide_eq_false h0
      rw [hadd]
      exact hKE _ _ ⟨rfl,i + 1,rfl,hlt,fun m' hm' hi'=>by omega⟩ (by simp [intA]; omega)
  · have hge:i = ss.length:=by have:=of_decide_eq_false hge; omega
    subst hge
    rw [wayB,chain_yes fun m hm=>hch m hm hm,Bool.true_and]
    show ∃ q:AV,_
    (repeat (first | with_reducible_and_instances (first | refine WJ ?_ | refine W (J_ldp o1 (by with_unfolding_all rfl) (by with_unfolding_all rfl)) ?_ | refine W (J_ldq (by with_unfolding_all rfl)) ?_)))
    cases ss with
    | nil =>
      rw [show decide ((0:Int) < ((([]:List Int).length:Nat):Int)) = false from decide_eq_false (by simp)]
      (repeat (first | with_reducible_and_instances (first | refine WJ ?_ | refine W (J_ldq (by with_unfolding_all rfl)) ?_)))
      exact ⟨rfl,k1⟩
    | cons x sr =>
      rw [show decide ((0:Int) < (((x :: sr).length:Nat):Int)) = true from decide_eq_true (by rw [List.length_cons]; omega)]
      (repeat (first | with_reducible_and_instances (first | refine WJ ?_ | refine W (J_ldp o1 (by with_unfolding_all rfl) (by with_unfolding_all rfl)) ?_ | refine W (J_ix0) ?_ | refine W (J_ldq (by with_unfolding_all rfl)) ?_)))
      refine ⟨?_,k1⟩
      rw [show decide ((x :: sr) ≠ [] ∧ (x :: sr).getD 0 0 = s) = decide (x = s) from decide_eq_decide.2 ⟨fun h=>h.2,fun h=>⟨by simp,h⟩⟩]
theorem rat2 (c:Ci) (t:Tn) (f:Fo) (s:Int):(rat c t f s).2 = ((t.acc c f).2 && decide (t.st = s)) ∧ ((rat c t f s).2 = true → (rat c t f s).1 = (t.acc c f).1):=by
  unfold rat
  by_cases h:t.st = s
  · rw [if_pos h,decide_eq_true h,Bool.and_true]; exact ⟨rfl,fun _=>rfl⟩
  · rw [if_neg h,decide_eq_false h,Bool.and_false]; exact ⟨rfl,fun h=>by cases h⟩
theorem pl145 {c:Ci} {id:Nat} {ts:List Tn} (hk:∀ t ∈ ts,HK c id t) {ss:List Int} (hs:ss.length ≤ 1000000) (hl:ss.length ≤ ts.length) {f:Fo} (hf:Pu f) {S:Store} {n:Int} (h:S.obj id = some (plO c n)) (hid:id < S.n) (hn:i64R n) :
    ACalls Tryz.prog 145 [.p id 0 0,aL aI ss,f.av,tnL ts] S (PlR c id S n (Tn.accs c (ts.take ss.length) (List.replicate ss.length f) ss 0)):=by
  refine calls145 ?_
  unfold m145
  refine boxA_of (Fo.row_len f) fun S1 k1 n1 o1=>?_
  have q:=(k1.2 _ hid).trans h
  rw [lenS_aL]
  refine loop145_0 (fun y S'=>∃ (i:Nat) (m cur:Int),y = aI i ∧ i ≤ ss.length ∧ S1.n ≤ S'.n ∧ S'.obj id = some (plO c cur) ∧ i64R cur ∧ cur = IntKind.i64.wrap (n + m) ∧ (∀ x,x < S1.n → x ≠ id → S'.obj x = S1.obj x) ∧
      Tn.accs c (ts.take ss.length) (List.replicate ss.length f) ss 0 = Tn.accs c ((ts.take ss.length).drop i) (List.replicate (ss.length - i) f) (ss.drop i) m)
    (fun y _=>ss.length - ((intA y).getD 0).toNat) ⟨0,0,n,rfl,Nat.zero_le _,Nat.le_refl _,q,hn,by rw [Int.add_zero,wrap_rng hn],fun x _ _=>rfl,rfl⟩ ?_
  rintro _ S2 ⟨i,m,cur,rfl,hi,n2,q2,hcur,hm,f2,he⟩ KE hKE
  unfold b145_0
  have o2:=(f2 _ (by omega) (by omega)).trans o1
  have kk:∀ x,x < S.n → x ≠ id → S2.obj x = S.obj x:=fun x hx hne=>(f2 x (by omega) hne).trans (k1.2 x hx)
  rw [bin_lss,onB_v]
  refine gd_of (fun hlt=>?_) (fun hge=>?_)
  · have hlt:i < ss.length:=by have:=of_decide_eq_true hlt; omega
    have hit:i < ts.length:=by omega
    have hit2:i < (ts.take ss.length).length:=by simp; omega
    have hadd:∀ (T:Store) (K:AV → Store → Prop),bin .add 0 (aI i) (.v (.int .i64 1)) T K = K (aI (i + 1:Nat)) T:=fun T K=>bin_add (by omega) (by omega) 0
    have hti:(ts.take ss.length)[i] = ts[i]:=by simp
    rw [List.drop_eq_getElem_cons hit2,List.drop_eq_getElem_cons hlt,show ss.length - i = (ss.length - (i + 1)) + 1 by omega,List.replicate_succ,accs_cons,hti] at he
    rw [ixS_aL hlt,ld1_q]
    obtain ⟨r1,r2⟩:=rat2 c ts[i] f ss[i]
    rw [← r1] at he
    show ∃ q:AV,_
    (repeat (first | with_reducible_and_instances (first | refine WJ ?_ | refine W (LJ_ldN (n:=4) o2 (by omega) (Fo.row_len _)) ?_ | refine W (LJ_Ti hit) ?_ | refine W (LJ_ldNq (Tn.row_len _)) ?_ | refine W (J_ldq (by with_unfolding_all rfl)) ?_)))
    refine callF_pl (pl139 (hk _ (List.getElem_mem hit)) hf q2 (by omega) hcur ss[i]) fun m3 S3 hm3 h1 hn3 q3 f3=>?_
    have kk3:∀ x,x < S1.n → x ≠ id → S3.obj x = S1.obj x:=fun x hx hne=>(f3 x (by omega) hne).trans (f2 x hx hne)
    cases e3:(rat c ts[i] f ss[i]).2 with
    | false =>
      rw [e3,if_neg (by decide)] at he
      (repeat (first | with_reducible_and_instances (first | refine WJ ?_ | refine W (J_ldq (by with_unfolding_all rfl)) ?_)))
      rw [he]
      exact ⟨m3,rfl,hm3,(fun h=>by cases h),by have:=k1.1; omega,q3,fun x hx hne=>(kk3 x (by omega) hne).trans (k1.2 x hx)⟩
    | true =>
      rw [e3,if_pos rfl,← r2 e3] at he
      (repeat (first | with_reducible_and_instances (first | refine WJ ?_ | refine W (J_ldq (by with_unfolding_all rfl)) ?_)))
      rw [hadd]
      refine hKE _ _ ⟨i + 1,_,m3,rfl,hlt,by omega,q3,hm3,?_,kk3,he⟩ (by simp [intA]; omega)
      rw [h1 e3,hm,wrap_wrap,wrap_wrap',Int.add_assoc]
  · have hge:i = ss.length:=by have:=of_decide_eq_false hge; omega
    subst hge
    rw [List.drop_of_length_le (by simp; omega),List.drop_length,Nat.sub_self,List.replicate_zero,accs_nil] at he
    rw [he]
    exact ⟨cur,rfl,hcur,fun _=>hm,by have:=k1.1; omega,q2,kk⟩
set_option linter.unusedSectionVars false
theorem slc_take {l:List Int} {e n:Nat} (h:n ≤ l.length) {S:Store} {K:AV → Store → Prop}:slc e 1 (aL aI l) none (some (aI n)) none S K = K (aL aI (l.take n)) S:=by
  simp only [slc,aL,bnd,intA,optP_some,List.length_map,Int.sub_zero,Int.toNat_natCast,Int.toNat_zero,List.drop_zero,← List.map_take]
  apply propext
  constructor
  · rintro ⟨_,_,hK⟩
    exact hK
  · intro hK
    exact ⟨⟨by omega,by omega,by omega⟩,fun c hc=>by obtain ⟨x,_,rfl⟩:=List.mem_map.1 hc; rfl,hK⟩
theorem slc_drop {l:List Int} {e n:Nat} (h:n ≤ l.length) {S:Store} {K:AV → Store → Prop}:slc e 1 (aL aI l) (some (aI n)) none none S K = K (aL aI (l.drop n)) S:=by
  have ht:(((l.length:Nat):Int) - (n:Int)).toNat = l.length - n:=by omega
  simp only [slc,aL,bnd,intA,optP_some,List.length_map,Int.toNat_natCast,ht]
  have h2:((l.map fun x=>[aI x]).drop n).take (l.length - n) = (l.drop n).map fun x=>[aI x]:=by
    rw [← List.map_drop,List.take_of_length_le (by simp)]
  rw [h2]
  apply propext
  constructor
  · rintro ⟨_,_,hK⟩
    exact hK
  · intro hK
    exact ⟨⟨by omega,by omega,by omega⟩,fun c hc=>by obtain ⟨x,_,rfl⟩:=List.mem_map.1 hc; rfl,hK⟩
theorem way_true {c:Ci} {s:Int} {ss:List Int} (h:wayB c s ss = true):chainS c ss = true ∧ ss ≠ [] ∧ ss.getD 0 0 = s:=by
  unfold wayB at h
  rw [Bool.and_eq_true,decide_eq_true_eq] at h
  exact h
theorem way_false {c:Ci} {s:Int} {ss:List Int} (h:wayB c s ss = false):¬ (ss ≠ [] ∧ ss.getD 0 0 = s ∧ chainS c ss = true):=fun hq=>by
  unfold wayB at h
  rw [hq.2.2,Bool.true_and] at h
  exact of_decide_eq_false h ⟨hq.1,hq.2.1⟩
section
variable {c:Ci} (hc:Cs c) {id:Nat} {ks:List Tn} (hk:∀ t ∈ ks,HK c id t) (hkl:ks.length ≤ 1000000) {ss:List Int} (hs:ss.length ≤ 1000000) (tk s a:Int) {S:Store} {n:Int} (h:S.obj id = some (plO c n)) (hid:id < S.n) (hn:i64R n)
include hc hk hkl hs h hid hn
theorem pl97 {f g:Fo} (hf:Pu f) (hg:Pu g) (k l:Int) (nm:ByteArray):ACalls Tryz.prog 97 [.p id 0 0,(Fo.mk k nm l [f,g]).av,(Tn.mk tk s a ss ks).av] S (PlR c id S n (pathR c f g tk s a ss ks)):=by
  refine calls97 ?_
  unfold m97 pathR
  rw [Fo.av,Fo.row_mk,Tn.av,Tn.row_mk]
  refine boxA_of rfl fun S1 k1 n1 o1=>?_
  refine boxA_of rfl fun S2 k2 n2 o2=>?_
  have kk:=k1.trans k2
  have p1:=(k2.2 _ (by omega)).trans o1
  have q:=(kk.2 _ hid).trans h
  have cw:=at143 hc q (by omega) tk s a hs ks
  rw [Tn.av,Tn.row_mk] at cw
  rw [shift_p,ld1_p o2 rfl rfl,lenS_aL,bin_sub (by omega) (by omega),shift_p,ld1_p o2 rfl rfl,bin_neq,onB_v]
  by_cases e1:¬ tk = 5
  · rw [decide_eq_false e1,if_neg (fun hq=>e1 hq.2.2.2.1)]
    exact PlR.same kk q hn
  have e1:=Decidable.not_not.1 e1
  rw [decide_eq_true e1,gd_nT (b:=true) rfl,shift_p,ld1_p o2 rfl rfl,bin_neq,onB_v]
  by_cases e2:¬ a = 0
  · rw [decide_eq_false e2,if_neg (fun hq=>e2 hq.2.2.1)]
    exact PlR.same kk q hn
  have e2:=Decidable.not_not.1 e2
  rw [decide_eq_true e2,gd_nT (b:=true) rfl,ldN_p (n:=5) o2 rfl]
  refine callF_at cw ?_
  rw [un_not,onB_v]
  cases e3:wayB c s ss with
  | false =>
    rw [if_neg (fun hq=>way_false e3 ⟨hq.1,hq.2.1,hq.2.2.2.2⟩)]
    exact PlR.same kk q hn
  | true =>
  obtain ⟨w1,w2,w3⟩:=way_true e3
  rw [if_pos ⟨w2,w3,e2,e1,w1⟩,gd_nT (b:=true) rfl]
  have hpos:0 < ss.length:=List.length_pos_iff.2 w2
  obtain ⟨i,hi⟩:∃ i:Nat,ss.length = i + 1:=⟨ss.length - 1,by omega⟩
  have hi1:i < ss.length:=by omega
  rw [show ((ss.length:Nat):Int) - 1 = i by omega,shift_p,ld1_p o2 rfl rfl,lenS_tnL,bin_add (by omega) (by omega),bin_neq,onB_v]
  have hlast:ss.getD (ss.length - 1) 0 = ss[i]:=by simp [List.getD_eq_getElem?_getD,hi]
  rw [hlast,show ss.length - 1 = i by omega]
  by_cases e4:¬ ks.length = i + 2
  · rw [show decide ((ks.length:Int) = (i:Int) + 2) = false from decide_eq_false (by omega),accs_len c ks _ _ _ (fun hq=>e4 (by have:=hq.1; simp at this; omega))]
    exact PlR.same kk q hn
  have e4:=Decidable.not_not.1 e4
  have hA:i < ks.length:=by omega
  have hB:i + 1 < ks.length:=by omega
  rw [show decide ((ks.length:Int) = (i:Int) + 2) = true from decide_eq_true (by omega),gd_nT (b:=true) rfl,shift_p,ld1_p o2 rfl rfl,ixS_aL hi1,ld1_q]
  have eks:ks = ks.take i ++ [ks[i],ks[i + 1]]:=by
    conv=>lhs; rw [← List.take_append_drop i ks]
    rw [List.drop_eq_getElem_cons hA,List.drop_eq_getElem_cons hB,List.drop_of_length_le (by omega)]
  have ess:ss ++ [ss[i]] = ss.take i ++ [ss[i],ss[i]]:=by
    have es0:=List.take_append_drop i ss
    rw [List.drop_eq_getElem_cons hi1,List.drop_of_length_le (by omega)] at es0
    exact (congrArg (fun l=>l ++ [ss[i]]) es0.symm).trans (by show (_ ++ _) ++ _ = _; rw [List.append_assoc]; rfl)
  have etot:Tn.accs c ks (List.replicate i f ++ [g,foG]) (ss ++ [ss[i]]) 0 = seqR (Tn.accs c (ks.take i) (List.replicate i f) (ss.take i) 0) (seqR (rat c ks[i] g ss[i]) (seqR (rat c ks[i + 1] foG ss[i]) (0,true))):=by
    conv=>lhs; rw [eks]
    rw [ess,accs_app c _ _ _ _ _ _ (by simp; omega) (by simp; omega),accs_seq,seq_none]
  rw [etot]
  have lslc:∀ {P:AV → Prop},(∃ q,(∀ T,Keep S2 T → slc 3 1 (aL aI ss) none (some (aI i)) none T fun v S=>v = q ∧ S = T) ∧ P q) = P (aL aI (ss.take i)):=LJ_of (op:=fun T K=>slc 3 1 (aL aI ss) none (some (aI i)) none T K) fun T hT K=>slc_take (by omega)
  have hti:(ss.take i).length = i:=by simp; omega
  show ∃ q:AV,_
  (repeat (first | with_reducible_and_instances (first | refine WJ ?_ | refine W (LJ_ldp o2 (by omega) (by with_unfolding_all rfl) (by with_unfolding_all rfl)) ?_ | refine W (LJ_ldp p1 (by omega) (by with_unfolding_all rfl) (by with_unfolding_all rfl)) ?_ | refine W (lslc) ?_ | refine W (LJ_F0) ?_ | refine W (LJ_ldNq (Fo.row_len _)) ?_ | refine W (J_ldq (by with_unfolding_all rfl)) ?_)))
  have hal:=pl145 (ts:=ks) hk (ss:=ss.take i) (by omega) (by omega) hf q (by omega) hn
  rw [hti] at hal
  refine callF_pl hal fun m3 S3 hm3 h1 hn3 q3 f3=>?_
  have o3:=(f3 _ (by omega) (by omega)).trans o2
  have p3:=(f3 _ (by omega) (by omega)).trans p1
  have kk3:∀ x,x < S.n → x ≠ id → S3.obj x = S.obj x:=fun x hx hne=>(f3 x (by have:=kk.1; omega) hne).trans (kk.2 x hx)
  rw [onB_v]
  cases e5:(Tn.accs c (ks.take i) (List.replicate i f) (ss.take i) 0).2 with
  | false =>
    show ∃ q:AV,_
    (repeat (first | with_reducible_and_instances (first | refine WJ ?_ | refine W (J_ldq (by with_unfolding_all rfl)) ?_)))
    exact PlR.seqF e5 hm3 (by omega) q3 kk3
  | true =>
    show ∃ q:AV,_
    (repeat (first | with_reducible_and_instances (first | refine WJ ?_ | refine W (LJ_ldp o3 (by omega) (by with_unfolding_all rfl) (by with_unfolding_all rfl)) ?_ | refine W (LJ_ldp p3 (by omega) (by with_unfolding_all rfl) (by with_unfolding_all rfl)) ?_ | refine W (LJ_F1) ?_ | refine W (LJ_ldNq (Fo.row_len _)) ?_ | refine W (LJ_Ti hA) ?_ | refine W (LJ_ldNq (Tn.row_len _)) ?_ | refine W (J_ldq (by with_unfolding_all rfl)) ?_)))
    refine callF_pl (pl139 (hk _ (List.getElem_mem hA)) hg q3 (by omega) hm3 ss[i]) fun m4 S4 hm4 h2 hn4 q4 f4=>?_
    have o4:=(f4 _ (by omega) (by omega)).trans o3
    have p4:=(f4 _ (by omega) (by omega)).trans p3
    cases e6:(rat c ks[i] g ss[i]).2 with
    | false =>
      (repeat (first | with_reducible_and_instances (first | refine WJ ?_ | refine W (J_ldq (by with_unfolding_all rfl)) ?_)))
      exact PlR.seq e5 (h1 e5) (by omega) kk3 (PlR.seqF e6 hm4 hn4 q4 f4)
    | true =>
      have ladd:∀ {P:AV → Prop},(∃ q,(∀ T,Keep S4 T → bin .add 0 (aI i) (.v (.int .i64 1)) T fun v S=>v = q ∧ S = T) ∧ P q) = P (aI (i + 1:Nat)):=LJ_of (op:=fun T K=>bin .add 0 (aI i) (.v (.int .i64 1)) T K) fun T hT K=>bin_add (by omega) (by omega) 0
      (repeat (first | with_reducible_and_instances (first | refine WJ ?_ | refine W (LJ_ldp o4 (by omega) (by with_unfolding_all rfl) (by with_unfolding_all rfl)) ?_ | refine W (ladd) ?_ | refine W (LJ_Ti hB) ?_ | refine W (LJ_ldNq (Tn.row_len _)) ?_ | refine W (J_ldq (by with_unfolding_all rfl)) ?_) | refine J_cA (ans142) rfl rfl ?_ | refine C_A (ans142) rfl rfl ?_ | refine L_cA (ans142) rfl rfl ?_))
      refine callF_pr (pl139 (hk _ (List.getElem_mem hB)) (f:=foG) (.o _ _ (by decide) (.c _ (by decide))) q4 (by omega) hm4 ss[i]) fun S5 hp=>?_
      (repeat (first | with_reducible_and_instances (first | refine WJ ?_ | refine W (J_ldq (by with_unfolding_all rfl)) ?_)))
      exact PlR.seq e5 (h1 e5) (by omega) kk3 (PlR.seq e6 (h2 e6) hn4 f4 hp.one)
end
end Go.Proofs.YtolgpokppnajdaaGreat.G
set_option linter.unusedVariables false
set_option linter.unusedSimpArgs false
namespace Go.Proofs.YtolgpokppnajdaaGreat.G
open Go Go.Ab
set_option maxRecDepth 100000
noncomputable def c9:Code:=(Tryz.f9.body).getD .skip
noncomputable def r9:List ResultVar:=Tryz.f9.results.toList
def m9 (x0 x1:AV) (S:Store) (Q:PoT):Prop :=
  callF Tryz.prog 23 [x0,x1] S Q fun v1 S=>extr v1 0 S fun v2 S=>extr v1 1 S fun v3 S=>boxN 42 8 (.a [(.v (.int .i64 0)),.nl,.nl,.nl,.nl,.nl,.nl,.nl]) S fun v4 S=>boxN 24 4 (.a [(.v (.int .i64 0)),(.v (.string ByteArray.empty)),(.v (.int .i64 0)),.nl]) S fun v5 S=>stN 8 v4 v2 S fun v6 S=>stN 4 v5 v3 S fun v7 S=>callF Tryz.prog 31 [] S Q fun v8 S=>onB v8 fun b9=>gd b9 (ldN 8 v4 S fun v10 S=>ldN 4 v5 S fun v11 S=>callF Tryz.prog 32 [v10,v11] S Q fun v12 S=>Q (.ret v12) S) (Q (.ret (.v (.bool false))) S)
end Go.Proofs.YtolgpokppnajdaaGreat.G
set_option linter.unusedVariables false
set_option linter.unusedSimpArgs false
namespace Go.Proofs.YtolgpokppnajdaaGreat.G
open Go Go.Ab
theorem cv_3 {S:Store} {n:Nat} {x x' y y' z z':AV} (h:Cv S n x x') (k:Cv S n y y') (q:Cv S n z z'):∀ (i:Nat) (u u2:AV),[x,y,z][i]? = some u → [x',y',z'][i]? = some u2 → Cv S n u u2
  | 0,_,_,h1,h2=>by cases h1; cases h2; exact h
  | 1,_,_,h1,h2=>by cases h1; cases h2; exact k
  | 2,_,_,h1,h2=>by cases h1; cases h2; exact q
  | i + 3,_,_,h1,_=>by simp at h1
theorem news2 {a b:AObj} {S:Store} {K:List Nat → Store → Prop} (h:∀ i j S',Keep S S' → S.n ≤ i → i < S'.n → S.n ≤ j → j < S'.n → i ≠ j → S'.obj i = some a → S'.obj j = some b → K [i,j] S'):newsV [a,b] S K:=by
  intro ids S' hn
  match ids,hn.len with
  | [i,j],_ =>
    have hd:=hn.nodup
    simp only [List.nodup_cons,List.mem_singleton] at hd
    exact h i j S' hn.keep (hn.lo i (by simp)) (hn.hi i (by simp)) (hn.lo j (by simp)) (hn.hi j (by simp)) hd.1 (hn.new 0 i a rfl rfl) (hn.new 1 j b rfl rfl)
set_option linter.unusedSectionVars false
theorem LJ_bld {pl:List (Nat × Nat)} {zc:List AV} {parts:List (Nat × AV)} {cs:List AV} (h:fillA (fun i=>pl[i]?) zc parts = some cs) {S0:Store} {P:AV → Prop}:(∃ q,(∀ T,Keep S0 T → bld pl zc parts T fun v S=>v = q ∧ S = T) ∧ P q) = P (.a cs):=LJ_of (op:=fun T K=>bld pl zc parts T K) fun T hT K=>bld_of h
theorem L_bslA4 {e:Nat} {z1 z2 z3 z4:AV} {r:List AV} (hr:r.length = 4) {S0:Store} {P:AV → Prop} (k:P (.l [r])):∃ q,(∀ T,Keep S0 T → bslN e 4 1 [z1,z2,z3,z4] [(0,.a r)] T fun v S=>v = q ∧ S = T) ∧ P q:=⟨_,fun T hT=>bslA4 hr ⟨rfl,rfl⟩,k⟩
theorem L_bslA42 {e:Nat} {z1 z2 z3 z4:AV} {r r2:List AV} (hr:r.length = 4) (hr2:r2.length = 4) {S0:Store} {P:AV → Prop} (k:P (.l [r,r2])):∃ q,(∀ T,Keep S0 T → bslN e 4 2 [z1,z2,z3,z4] [(0,.a r),(1,.a r2)] T fun v S=>v = q ∧ S = T) ∧ P q:=⟨_,fun T hT=>bslA42 hr hr2 ⟨rfl,rfl⟩,k⟩
theorem fo2_cv2 {f:FuncId} {k:Int} {r:AV} {g:Fo} (h:Ans Tryz.prog f [aI k,foL [fo2,g]] r) (S:Store):AnsAt Tryz.prog f [aI k,.l [[aI 2,.v (.string ByteArray.empty),aI 0,.nl],g.row]] S r:=by
  refine ansAt_cv (args2:=[aI k,foL [fo2,g]]) rfl (fun j u u2 e1 e2=>?_) (h S)
  match j with
  | 0=>cases e1; cases e2; exact .v _
  | 1 =>
    cases e1; cases e2
    refine .l _ _ rfl (fun i c c2 h1 h2=>?_) (fun i c c2 k u u2 h1 h2 h3 h4=>?_)
    · match i with
      | 0=>cases h1; cases h2; rw [Fo.row_len]; rfl
      | 1=>cases h1; cases h2; rfl
      | i + 2=>simp at h1
    · match i with
      | 0=>cases h1; cases h2; exact fo2_row k u u2 h3 h4
      | 1=>cases h1; cases h2; rw [h3] at h4; cases h4; exact Fo.tree g u (List.mem_of_getElem? h3) _ _
      | i + 2=>simp at h1
  | j + 2=>simp at e1
section
variable {c:Ci} (hc:Cs c) {id:Nat} {ks:List Tn} (hk:∀ t ∈ ks,HK c id t) (hkl:ks.length ≤ 1000000) {ss:List Int} (hs:ss.length ≤ 1000000) (tk s a:Int) {S:Store} {n:Int} (h:S.obj id = some (plO c n)) (hid:id < S.n) (hn:i64R n)
include hc hk hkl hs h hid hn
theorem pl95 {f:Fo} (hf:Pu f) (k l:Int) (nm:ByteArray):ACalls Tryz.prog 95 [.p id 0 0,(Fo.mk k nm l [f]).av,(Tn.mk tk s a ss ks).av] S (PlR c id S n (pathR c fo2 f tk s a ss ks)):=by
  refine calls95 ?_
  unfold m95
  have hto:=fo2_cv2 (g:=f) (ans74 15 [fo2,f])
  have hu:=fun {S2:Store} (q:S2.obj id = some (plO c n)) (hi:id < S2.n)=>pl97 hc hk hkl hs tk s a q hi hn (f:=fo2) (.c _ (by decide)) hf 15 0 ⟨#[]⟩
  rw [Fo.av,Fo.row_mk]
  refine boxA_of rfl fun S1 k1 n1 o1=>?_
  refine boxA_of (Tn.row_len _) fun S2 k2 n2 o2=>?_
  have kk:=k1.trans k2
  have p1:=(k2.2 _ (by omega)).trans o1
  have q:=(kk.2 _ hid).trans h
  show ∃ q:AV,_
  (repeat (first | with_reducible_and_instances (first | refine WJ ?_ | refine W (LJ_bld (cs:=[aI 2,.v (.string ByteArray.empty),aI 0,.nl]) (by with_unfolding_all rfl)) ?_ | refine W (LJ_ldp p1 (by omega) (by with_unfolding_all rfl) (by with_unfolding_all rfl)) ?_ | refine W (LJ_F0) ?_ | refine W (LJ_ldNq (Fo.row_len _)) ?_ | refine W (LJ_ldN (n:=5) o2 (by omega) (Tn.row_len _)) ?_ | refine W (J_ldq (by with_unfolding_all rfl)) ?_) | refine L_cI ((fun T _=>hto T)) rfl rfl ?_ | refine L_bslA42 rfl (Fo.row_len _) ?_))
  exact callF_pr (hu q (by omega)) fun S3 hp=>hp.up kk
theorem pl99 (f:Fo):ACalls Tryz.prog 99 [.p id 0 0,f.av,(Tn.mk tk s a ss ks).av] S (PlR c id S n (1,leafB 7 tk a ss ks)):=by
  refine calls99 ?_
  unfold m99
  have cl:=ans136 tk s a ss ks 7
  rw [Tn.av,Tn.row_mk] at cl ⊢
  refine boxA_of (Fo.row_len f) fun S1 k1 n1 o1=>?_
  refine boxA_of rfl fun S2 k2 n2 o2=>?_
  have kk:=k1.trans k2
  have q:=(kk.2 _ hid).trans h
  rw [nilChk_p,shift_p,ld1_p q rfl rfl,bin_addW,nilChk_p,shift_p]
  refine stF_of q (by rw [plC_len]; decide) rfl fun S3 n3 o3 f3=>?_
  rw [ldN_p (n:=5) ((f3 _ (by omega)).trans o2) rfl]
  refine callF_ans cl ?_
  exact ⟨IntKind.i64.wrap (n + 1),rfl,wrapR _,fun _=>rfl,by have:=kk.1; omega,o3,fun x hx hne=>(f3 x hne).trans (kk.2 x hx)⟩
theorem pl94 {f:Fo} (hf:Pu f) (k l:Int) (nm:ByteArray):ACalls Tryz.prog 94 [.p id 0 0,(Fo.mk k nm l [f]).av,(Tn.mk tk s a ss ks).av] S
    (PlR c id S n (if tk = 4 ∧ a = 0 ∧ ss = [] ∧ (ks.map Tn.st).length = 2 ∧ behindS c s ((ks.map Tn.st).getD 0 0) = true then Tn.accs c ks [[f].getD 0 fo0,foG] [(ks.map Tn.st).getD 0 0,(ks.map Tn.st).getD 0 0] 0 else (0,false))):=by
  refine calls94 ?_
  unfold m94
  have cb:=ans138 tk s a ss ks 4
  rw [Tn.av,Tn.row_mk] at cb ⊢
  rw [Fo.av,Fo.row_mk]
  refine boxA_of rfl fun S1 k1 n1 o1=>?_
  refine boxA_of rfl fun S2 k2 n2 o2=>?_
  have kk:=k1.trans k2
  have p1:=(k2.2 _ (by omega)).trans o1
  have q:=(kk.2 _ hid).trans h
  rw [ldN_p (n:=5) o2 rfl]
  refine callF_ans cb ?_
  rw [un_not,onB_v]
  by_cases e1:¬ (tk = 4 ∧ a = 0 ∧ ss.length = 0)
  · rw [show (decide (tk = 4) && decide (a = 0 ∧ ss.length = 0)) = false by rw [← Bool.decide_and]; exact decide_eq_false e1,if_neg (fun hq=>e1 ⟨hq.1,hq.2.1,by rw [hq.2.2.1]; rfl⟩)]
    exact PlR.same kk q hn
  have e1:=Decidable.not_not.1 e1
  rw [show (decide (tk = 4) && decide (a = 0 ∧ ss.length = 0)) = true by rw [← Bool.decide_and]; exact decide_eq_true e1,gd_nT (b:=true) rfl,shift_p,ld1_p o2 rfl rfl,lenS_tnL,bin_neq,onB_v]
  by_cases e2:¬ ks.length = 2
  · rw [show decide ((ks.length:Int) = 2) = false from decide_eq_false (by omega),if_neg (fun hq=>e2 (by have:=hq.2.2.2.1; rwa [List.length_map] at this))]
    exact PlR.same kk q hn
  have e2:=Decidable.not_not.1 e2
  rw [show decide ((ks.length:Int) = 2) = true from decide_eq_true (by omega),gd_nT (b:=true) rfl]
  obtain ⟨t0,t1,rfl⟩:∃ t0 t1,ks = [t0,t1]:=by
    match ks,e2 with
    | [t0,t1],_=>exact ⟨t0,t1,rfl⟩
  have ld1q:∀ (T:Store) (K:AV → Store → Prop),ld1 (.q t0.row 1) T K = K (aI t0.st) T:=fun T K=>by simp [ld1,rd1,place,Tn.row1]
  rw [shift_p,ld1_p o2 rfl rfl,ixT0]
  have sq:∀ K:AV → Store → Prop,shift (.q t0.row 0) 1 S2 K = K (.q t0.row 1) S2:=fun K=>rfl
  rw [sq,ld1q]
  have cbh:=at141 hc q (by omega) s t0.st
  show ∃ q:AV,_
  have hbh:∀ T,Keep S2 T → AnsAt Tryz.prog 141 [.p id 0 0,aI s,aI t0.st] T (aB (behindS c s t0.st)):=fun T hT=>at141 hc ((hT.2 _ (by omega)).trans q) (by have:=hT.1; omega) s t0.st
  cases e5:behindS c s t0.st with
  | false =>
    rw [e5] at hbh
    (repeat (first | with_reducible_and_instances (first | refine WJ ?_ | refine W (LJ_ldp o2 (by omega) (by with_unfolding_all rfl) (by with_unfolding_all rfl)) ?_ | refine W (J_ldq (by with_unfolding_all rfl)) ?_) | refine L_cI (hbh) rfl rfl ?_))
    rw [if_neg (fun hq=>by have:=hq.2.2.2.2; rw [show ([t0,t1].map Tn.st).getD 0 0 = t0.st from rfl,e5] at this; cases this)]
    exact PlR.same kk q hn
  | true =>
    rw [e5] at hbh
    rw [if_pos ⟨e1.1,e1.2.1,List.eq_nil_of_length_eq_zero e1.2.2,rfl,e5⟩]
    rw [show Tn.accs c [t0,t1] [[f].getD 0 fo0,foG] [([t0,t1].map Tn.st).getD 0 0,([t0,t1].map Tn.st).getD 0 0] 0 = Tn.accs c [t0,t1] [f,foG] [t0.st,t0.st] 0 from rfl,accs_seq,seq_none]
    (repeat (first | with_reducible_and_instances (first | refine WJ ?_ | refine W (LJ_ldp o2 (by omega) (by with_unfolding_all rfl) (by with_unfolding_all rfl)) ?_ | refine W (LJ_ldp p1 (by omega) (by with_unfolding_all rfl) (by with_unfolding_all rfl)) ?_ | refine W (LJ_F0) ?_ | refine W (LJ_T0) ?_ | refine W (LJ_ldNq (Fo.row_len _)) ?_ | refine W (LJ_ldNq (Tn.row_len _)) ?_ | refine W (J_ldq (by with_unfolding_all rfl)) ?_) | refine L_cI (hbh) rfl rfl ?_))
    refine callF_pl (pl139 (hk t0 (by simp)) hf q (by omega) hn t0.st) fun m S3 hm h1 hn3 q3 f3=>?_
    have o3:=(f3 _ (by omega) (by omega)).trans o2
    have kk3:∀ x,x < S.n → x ≠ id → S3.obj x = S.obj x:=fun x hx hne=>(f3 x (by have:=kk.1; omega) hne).trans (kk.2 x hx)
    cases e3:(rat c t0 f t0.st).2 with
    | false =>
      (repeat (first | with_reducible_and_instances (first | refine WJ ?_ | refine W (J_ldq (by with_unfolding_all rfl)) ?_)))
      exact PlR.seqF e3 hm (by omega) q3 kk3
    | true =>
      (repeat (first | with_reducible_and_instances (first | refine WJ ?_ | refine W (LJ_ldp o3 (by omega) (by with_unfolding_all rfl) (by with_unfolding_all rfl)) ?_ | refine W (LJ_T1) ?_ | refine W (LJ_ldNq (Tn.row_len _)) ?_ | refine W (J_ldq (by with_unfolding_all rfl)) ?_) | refine J_cA (ans142) rfl rfl ?_ | refine C_A (ans142) rfl rfl ?_ | refine L_cA (ans142) rfl rfl ?_))
      refine callF_pr (pl139 (hk t1 (by simp)) (f:=foG) (.o _ _ (by decide) (.c _ (by decide))) q3 (by omega) hm t0.st) fun S4 hp=>?_
      (repeat (first | with_reducible_and_instances (first | refine WJ ?_ | refine W (J_ldq (by with_unfolding_all rfl)) ?_)))
      exact PlR.seq e3 (h1 e3) (by omega) kk3 hp.one
theorem pl98 {f g:Fo} (hf:Pu f) (hg:Pu g) (k l:Int) (nm:ByteArray):ACalls Tryz.prog 98 [.p id 0 0,(Fo.mk k nm l [f,g]).av,(Tn.mk tk s a ss ks).av] S
    (PlR c id S n (if tk = 3 ∧ 0 ≤ a ∧ a ≤ 1 ∧ ss = [] then Tn.accs c ks [if a = 0 then foOne 13 g else foTwo 15 g (foTwo 5 f g)] [s] 0 else (0,false))):=by
  refine calls98 ?_
  unfold m98
  rw [Fo.av,Fo.row_mk]
  refine boxA_of rfl fun S1 k1 n1 o1=>?_
  refine boxA_of (Tn.row_len _) fun S2 k2 n2 o2=>?_
  have kk:=k1.trans k2
  have p1:=(k2.2 _ (by omega)).trans o1
  have q:=(kk.2 _ hid).trans h
  show ∃ q:AV,_
  (repeat (first | with_reducible_and_instances (first | refine WJ ?_ | refine W (LJ_ldp p1 (by omega) (by with_unfolding_all rfl) (by with_unfolding_all rfl)) ?_ | refine W (LJ_F0) ?_ | refine W (LJ_F1) ?_ | refine W (LJ_ldNq (Fo.row_len _)) ?_ | refine W (J_ldq (by with_unfolding_all rfl)) ?_)))
  refine news2 fun i j S3 k3 hi hi2 hj hj2 hij oi oj=>?_
  dsimp only [List.headD_cons,List.tail_cons]
  refine stA_of oi (Fo.row_len f) rfl fun S4 n4 o4 f4=>?_
  have p4:=(f4 _ (by omega)).trans ((k3.2 _ (by omega)).trans p1)
  refine ⟨fun T hT=>by rw [ldN_q (Fo.row_len _)]; exact ⟨rfl,rfl⟩,fun T hT=>by rw [ixF1]; exact ⟨rfl,rfl⟩,fun T hT=>by rw [ld1_p ((hT.2 _ (by have:=k3.1; omega)).trans p4) rfl rfl]; exact ⟨rfl,rfl⟩,fun T hT=>⟨rfl,rfl⟩,?_⟩
  refine stA_of ((f4 _ (by omega)).trans oj) (Fo.row_len g) rfl fun S5 n5 o5 f5=>?_
  have a5:=(f5 _ hij).trans o4
  have t5:=(f5 _ (by omega)).trans ((f4 _ (by omega)).trans ((k3.2 _ (by omega)).trans o2))
  have k5:Keep S S5:=((kk.trans k3).st (id:=i) (by have:=kk.1; omega) n4 f4).st (id:=j) (by have:=kk.1; omega) n5 f5
  have q5:=(k5.2 _ hid).trans h
  show ∃ q:AV,_
  refine W (LJ_ldN (n:=5) t5 (by have:=k3.1; omega) (Tn.row_len _)) ?_
  (repeat (first | with_reducible_and_instances (first | refine WJ ?_ | refine W (LJ_ldN (n:=5) t5 (by have:=k3.1; omega) (Tn.row_len _)) ?_ | refine W (LJ_ldN (n:=4) o5 (by omega) (Fo.row_len _)) ?_ | refine W (LJ_ldN (n:=4) a5 (by omega) (Fo.row_len _)) ?_ | refine W (J_ldq (by with_unfolding_all rfl)) ?_) | refine J_cA (ans74 13 [g]) rfl rfl ?_ | refine C_A (ans74 13 [g]) rfl rfl ?_ | refine L_cA (ans74 13 [g]) rfl rfl ?_ | refine J_cA (ans74 5 [f,g]) rfl rfl ?_ | refine C_A (ans74 5 [f,g]) rfl rfl ?_ | refine L_cA (ans74 5 [f,g]) rfl rfl ?_ | refine J_cA (ans74 15 [g,foTwo 5 f g]) rfl rfl ?_ | refine C_A (ans74 15 [g,foTwo 5 f g]) rfl rfl ?_ | refine L_cA (ans74 15 [g,foTwo 5 f g]) rfl rfl ?_ | refine L_bslA4 (Fo.row_len _) ?_ | refine L_bslA42 (Fo.row_len _) (Fo.row_len _) ?_))
  have hfi:=pl140 hc hk hkl hs tk s a q5 (by have:=k5.1; omega) hn (f:=foOne 13 g) (g:=foTwo 15 g (foTwo 5 f g)) (.o _ _ (by decide) hg) (.t _ _ _ (by decide) hg (.t _ _ _ (by decide) hf hg))
  by_cases e:tk = 3 ∧ 0 ≤ a ∧ a ≤ 1 ∧ ss = []
  · rw [if_pos e] at hfi ⊢
    have h01:a = 0 ∨ a = 1:=by omega
    rcases h01 with rfl | rfl
    · rw [if_pos rfl]
      exact callF_pr hfi fun S6 hp=>hp.up k5
    · rw [if_neg (by decide)]
      exact callF_pr hfi fun S6 hp=>hp.up k5
  · rw [if_neg e] at hfi ⊢
    exact callF_pr hfi fun S6 hp=>hp.up k5
end
set_option linter.unusedSectionVars false
theorem at144 {c:Ci} (hc:c.ok) {n:Int} {id a b ta tb:Nat} {S:Store} (h:S.obj id = some (plO c n)) {l:Int} (ha:S.obj a = some (.cells ta [[.p id 0 0]] true)) (hb:S.obj b = some (.cells tb [[aI l]] true)) (hl:i64R l) (s:Int) :
    AnsAt Tryz.prog 144 ([] ++ [aI s] ++ [.p a 0 0,.p b 0 0]) S (aB (isB c s l)):=by
  refine calls144 ?_
  unfold m144
  rw [ld1_p ha rfl rfl,ld1_p hb rfl rfl]
  exact callF_at (at137 hc h s hl) ⟨rfl,rfl⟩
section
variable {c:Ci} (hc:Cs c) {id:Nat} {ks:List Tn} (hk:∀ t ∈ ks,HK c id t) (hkl:ks.length ≤ 1000000) {ss:List Int} (hs:ss.length ≤ 1000000) (tk s a:Int) {S:Store} {n:Int} (h:S.obj id = some (plO c n)) (hid:id < S.n) (hn:i64R n)
include hc hk hkl hs h hid hn
theorem pl96 {f:Fo} (hf:Pu f) (k l:Int) (nm:ByteArray):ACalls Tryz.prog 96 [.p id 0 0,(Fo.mk k nm l [f]).av,(Tn.mk tk s a ss ks).av] S (PlR c id S n (loopR c f tk s a ss ks)):=by
  refine calls96 ?_
  unfold m96 loopR
  rw [Fo.av,Fo.row_mk,Tn.av,Tn.row_mk]
  refine box1_of rfl fun S1 k1 n1 o1=>?_
  refine boxA_of rfl fun S2 k2 n2 o2=>?_
  refine boxA_of rfl fun S3 k3 n3 o3=>?_
  have kk:=(k1.trans k2).trans k3
  have p1:=(k3.2 _ (by omega)).trans ((k2.2 _ (by omega)).trans o1)
  have p2:=(k3.2 _ (by omega)).trans o2
  have q:=(kk.2 _ hid).trans h
  have cw:=at143 hc q (by omega) tk s a hs ks
  rw [Tn.av,Tn.row_mk] at cw
  rw [shift_p,ld1_p o3 rfl rfl,lenS_aL]
  show ∃ q:AV,_
  (repeat (first | with_reducible_and_instances (first | refine WJ ?_ | refine W (J_ldp o3 (by with_unfolding_all rfl) (by with_unfolding_all rfl)) ?_ | refine W (J_ldq (by with_unfolding_all rfl)) ?_)))
  by_cases e1:¬ tk = 6
  · rw [decide_eq_false e1,Bool.not_false]
    (repeat (first | with_reducible_and_instances (first | refine WJ ?_ | refine W (J_ldp o3 (by with_unfolding_all rfl) (by with_unfolding_all rfl)) ?_ | refine W (J_ldq (by with_unfolding_all rfl)) ?_)))
    rw [if_neg (fun hq=>e1 hq.2.2.2.2.1)]
    exact PlR.same kk q hn
  have e1:=Decidable.not_not.1 e1
  rw [decide_eq_true e1,Bool.not_true]
  cases e2:wayB c s ss with
  | false =>
    rw [e2] at cw
    (repeat (first | with_reducible_and_instances (first | refine WJ ?_ | refine W (J_ldp o3 (by with_unfolding_all rfl) (by with_unfolding_all rfl)) ?_ | refine W (J_ldp p1 (by with_unfolding_all rfl) (by with_unfolding_all rfl)) ?_ | refine W (J_ldN (n:=5) o3 (by with_unfolding_all rfl)) ?_ | refine W (J_ldq (by with_unfolding_all rfl)) ?_) | refine J_cI (cw) rfl rfl ?_ | refine C_I (cw) rfl rfl ?_))
    rw [Bool.not_false]
    (repeat (first | with_reducible_and_instances (first | refine WJ ?_ | refine W (J_ldp o3 (by with_unfolding_all rfl) (by with_unfolding_all rfl)) ?_ | refine W (J_ldq (by with_unfolding_all rfl)) ?_)))
    rw [if_neg (fun hq=>way_false e2 ⟨hq.1,hq.2.1,hq.2.2.2.2.2.2.1⟩)]
    exact PlR.same kk q hn
  | true =>
  rw [e2] at cw
  obtain ⟨w1,w2,w3⟩:=way_true e2
  have hpos:0 < ss.length:=List.length_pos_iff.2 w2
  (repeat (first | with_reducible_and_instances (first | refine WJ ?_ | refine W (J_ldp o3 (by with_unfolding_all rfl) (by with_unfolding_all rfl)) ?_ | refine W (J_ldp p1 (by with_unfolding_all rfl) (by with_unfolding_all rfl)) ?_ | refine W (J_ldN (n:=5) o3 (by with_unfolding_all rfl)) ?_ | refine W (J_ldq (by with_unfolding_all rfl)) ?_) | refine J_cI (cw) rfl rfl ?_ | refine C_I (cw) rfl rfl ?_))
  rw [Bool.not_true]
  (repeat (first | with_reducible_and_instances (first | refine WJ ?_ | refine W (J_ldp o3 (by with_unfolding_all rfl) (by with_unfolding_all rfl)) ?_ | refine W (J_ldq (by with_unfolding_all rfl)) ?_)))
  by_cases e3:a < 0
  · rw [decide_eq_true e3]
    (repeat (first | with_reducible_and_instances (first | refine WJ ?_ | refine W (J_ldp o3 (by with_unfolding_all rfl) (by with_unfolding_all rfl)) ?_ | refine W (J_ldq (by with_unfolding_all rfl)) ?_)))
    rw [if_neg (fun hq=>by have:=hq.2.2.1; omega)]
    exact PlR.same kk q hn
  rw [decide_eq_false e3]
  (repeat (first | with_reducible_and_instances (first | refine WJ ?_ | refine W (J_ldp o3 (by with_unfolding_all rfl) (by with_unfolding_all rfl)) ?_ | refine W (J_ldq (by with_unfolding_all rfl)) ?_)))
  by_cases e4:((ss.length:Nat):Int) ≤ a
  · rw [decide_eq_true e4]
    (repeat (first | with_reducible_and_instances (first | refine WJ ?_ | refine W (J_ldp o3 (by with_unfolding_all rfl) (by with_unfolding_all rfl)) ?_ | refine W (J_ldq (by with_unfolding_all rfl)) ?_)))
    rw [if_neg (fun hq=>by have:=hq.2.2.2.1; omega)]
    exact PlR.same kk q hn
  rw [decide_eq_false e4]
  (repeat (first | with_reducible_and_instances (first | refine WJ ?_ | refine W (J_ldp o3 (by with_unfolding_all rfl) (by with_unfolding_all rfl)) ?_ | refine W (J_lenT) ?_ | refine W (J_ldq (by with_unfolding_all rfl)) ?_)))
  by_cases e5:¬ ks.length = ss.length
  · rw [show decide ((ks.length:Int) = (ss.length:Int)) = false from decide_eq_false (by omega),Bool.not_false]
    (repeat (first | with_reducible_and_instances (first | refine WJ ?_ | refine W (J_ldp o3 (by with_unfolding_all rfl) (by with_unfolding_all rfl)) ?_ | refine W (J_ldq (by with_unfolding_all rfl)) ?_)))
    rw [accs_len c ks _ _ _ (fun hq=>e5 hq.2.symm)]
    split <;> exact PlR.same kk q hn
  have e5:=Decidable.not_not.1 e5
  rw [show decide ((ks.length:Int) = (ss.length:Int)) = true from decide_eq_true (by omega),Bool.not_true]
  obtain ⟨i0,hi0⟩:∃ i0:Nat,ss.length = i0 + 1:=⟨ss.length - 1,by omega⟩
  obtain ⟨j,rfl⟩:=Int.eq_ofNat_of_zero_le (show 0 ≤ a by omega)
  have hj:j < ss.length:=by omega
  have hi1:i0 < ss.length:=by omega
  have lsub:∀ {S0:Store} {P:AV → Prop},(∃ q,(bin .sub 0 (aI ss.length) (.v (.int .i64 1)) S0 fun v S=>v = q ∧ S = S0) ∧ P q) = P (aI i0):=fun {S0 P}=>J_of (op:=fun K=>bin .sub 0 (aI ss.length) (.v (.int .i64 1)) S0 K) fun K=>(bin_sub (by omega) (by omega) 0).trans (by rw [show ((ss.length:Nat):Int) - 1 = i0 by omega])
  have hlast:ss.getD (ss.length - 1) 0 = ss[i0]:=by simp [List.getD_eq_getElem?_getD,hi0]
  have hat:ss.getD (((j:Nat):Int)).toNat 0 = ss[j]:=by simp [List.getD_eq_getElem?_getD,hj]
  have cbh:=at141 hc q (by omega) ss[i0] ss[j]
  cases e6:behindS c ss[i0] ss[j] with
  | false =>
    rw [e6] at cbh
    (repeat (first | with_reducible_and_instances (first | refine WJ ?_ | refine W (J_ldp o3 (by with_unfolding_all rfl) (by with_unfolding_all rfl)) ?_ | refine W (J_ldp p1 (by with_unfolding_all rfl) (by with_unfolding_all rfl)) ?_ | refine W (lsub) ?_ | refine W (J_ix hi1) ?_ | refine W (J_ix hj) ?_ | refine W (J_ldq (by with_unfolding_all rfl)) ?_) | refine J_cI (cbh) rfl rfl ?_ | refine C_I (cbh) rfl rfl ?_))
    rw [Bool.not_false]
    (repeat (first | with_reducible_and_instances (first | refine WJ ?_ | refine W (J_ldp o3 (by with_unfolding_all rfl) (by with_unfolding_all rfl)) ?_ | refine W (J_ldq (by with_unfolding_all rfl)) ?_)))
    rw [if_neg (fun hq=>by have:=hq.2.2.2.2.2.1; rw [hlast,hat,e6] at this; cases this)]
    exact PlR.same kk q hn
  | true =>
  rw [e6] at cbh
  (repeat (first | with_reducible_and_instances (first | refine WJ ?_ | refine W (J_ldp o3 (by with_unfolding_all rfl) (by with_unfolding_all rfl)) ?_ | refine W (J_ldp p1 (by with_unfolding_all rfl) (by with_unfolding_all rfl)) ?_ | refine W (lsub) ?_ | refine W (J_ix hi1) ?_ | refine W (J_ix hj) ?_ | refine W (J_ldq (by with_unfolding_all rfl)) ?_) | refine J_cI (cbh) rfl rfl ?_ | refine C_I (cbh) rfl rfl ?_))
  rw [Bool.not_true]
  (repeat (first | with_reducible_and_instances (first | refine WJ ?_ | refine W (J_ldp o3 (by with_unfolding_all rfl) (by with_unfolding_all rfl)) ?_ | refine W (J_ldq (by with_unfolding_all rfl)) ?_)))
  have hfair:=hc.ok.fair
  rw [ld1_p p1 rfl rfl,nilChk_p,shift_p,shift_p,ld1_p q rfl rfl,lenS_aL]
  rw [Int.toNat_natCast]
  have no:metS c (ss.drop j) = false → ∀ T,Keep S T → T.obj id = some (plO c n) → PlR c id S n (if ss ≠ [] ∧ ss.getD 0 0 = s ∧ 0 ≤ (j:Int) ∧ (j:Int) < ss.length ∧ tk = 6 ∧ behindS c (ss.getD (ss.length - 1) 0) (ss.getD j 0) = true ∧ chainS c ss = true ∧ metS c (ss.drop j) = true then Tn.accs c ks (List.replicate ss.length f) ss 0 else (0,false)) (.ret (aB false)) T:=fun hm T hT ht=>by
    rw [if_neg (fun hq=>by have:=hq.2.2.2.2.2.2.2; rw [hm] at this; cases this)]
    exact PlR.same hT ht hn
  refine loop96_0 (fun y S'=>∃ i:Nat,y = aI i ∧ i ≤ c.fair.length ∧ Keep S3 S' ∧ ∀ m (h:m < c.fair.length),m < i → ((ss.drop j).any fun s=>isB c s c.fair[m]) = true) (fun y _=>c.fair.length - ((intA y).getD 0).toNat) ⟨0,rfl,Nat.zero_le _,Keep.refl _,fun m _ h=>by omega⟩ ?_
  rintro _ S4 ⟨i,rfl,hif,k4,hmet⟩ KE hKE
  unfold b96_0
  have q4:=(k4.2 _ (by omega)).trans q
  have p14:=(k4.2 _ (by omega)).trans p1
  have p24:=(k4.2 _ (by omega)).trans p2
  have p34:=(k4.2 _ (by omega)).trans o3
  have n4:=k4.1
  rw [bin_lss,onB_v]
  refine gd_of (fun hlt=>?_) (fun hge=>?_)
  · have hlt:i < c.fair.length:=by have:=of_decide_eq_true hlt; omega
    rw [ixS_aL hlt,ld1_q]
    refine box1_of rfl fun S5 k5 n5 o5=>?_
    refine st_of o5 rfl rfl fun S6 n6 o6 f6=>?_
    have k6:=k5.st (Nat.le_refl _) n6 f6
    have q6:=(k6.2 _ (by omega)).trans q4
    have p16:=(k6.2 _ (by omega)).trans p14
    have p36:=(k6.2 _ (by omega)).trans p34
    rw [shift_p,ld1_p p36 rfl rfl,shift_p,ld1_p p36 rfl rfl,slc_drop (by omega)]
    refine callF_at (at132 (f:=aI) (l:=ss.drop j) (by simp; omega) (g:=fun s=>isB c s c.fair[i]) (fs:=[]) (cs:=[.p S.n 0 0,.p S4.n 0 0]) fun x hx=>at144 hc.ok q6 p16 o6 (hfair.1 _ (List.getElem_mem hlt)) x) ?_
    rw [un_not,onB_v]
    refine gd_of (fun hb=>?_) (fun hb=>?_)
    · refine no (all_no hlt (by simpa using hb)) S6 ((kk.trans k4).trans k6) q6
    · rw [bin_add (by omega) (by omega)]
      exact hKE _ _ ⟨i + 1,rfl,hlt,k4.trans k6,lt_step (p:=fun l=>((ss.drop j).any fun s=>isB c s l) = true) (hi:=hlt) hmet (by simpa using hb)⟩ (by simp [intA]; omega)
  · have hge:i = c.fair.length:=by have:=of_decide_eq_false hge; omega
    subst hge
    rw [if_pos ⟨w2,w3,by omega,by omega,e1,by rw [hlast,show ss.getD j 0 = ss[j] by simp [List.getD_eq_getElem?_getD,hj]]; exact e6,w1,all_lt fun m hm=>hmet m hm hm⟩]
    clear no
    have hal:=pl145 (ts:=ks) hk hs (by omega) hf q4 (by omega) hn
    rw [show ks.take ss.length = ks by rw [← e5]; exact List.take_length] at hal
    show ∃ q:AV,_
    (repeat (first | with_reducible_and_instances (first | refine WJ ?_ | refine W (LJ_ldp p14 (by omega) (by with_unfolding_all rfl) (by with_unfolding_all rfl)) ?_ | refine W (LJ_ldp p34 (by omega) (by with_unfolding_all rfl) (by with_unfolding_all rfl)) ?_ | refine W (LJ_ldp p24 (by omega) (by with_unfolding_all rfl) (by with_unfolding_all rfl)) ?_ | refine W (LJ_F0) ?_ | refine W (LJ_ldNq (Fo.row_len _)) ?_ | refine W (J_ldq (by with_unfolding_all rfl)) ?_)))
    exact callF_pr hal fun S5 hp=>hp.up (kk.trans k4)
end
set_option linter.unusedSectionVars false
theorem J_lkT {kk:KK} {z k:AV} {key:Key} {es:List (Key × AV)} {r:AV} (hk:keyA kk k = some key) (hr:lkV z true (lkp es key) = r) {S0:Store} {P:AV → Prop}:(∃ q,(lkM kk z true (.mt kk es) k S0 fun v S=>v = q ∧ S = S0) ∧ P q) = P r:=J_of (op:=fun K=>lkM kk z true (.mt kk es) k S0 K) fun K=>by rw [lkM_mt hk,hr]
section
variable {c:Ci} (hc:Cs c) {id:Nat} {ks:List Tn} (hk:∀ t ∈ ks,HK c id t) (hkl:ks.length ≤ 1000000) {ss:List Int} (hs:ss.length ≤ 1000000) (tk s a:Int) {S:Store} {n:Int} (h:S.obj id = some (plO c n)) (hid:id < S.n) (hn:i64R n)
include hc hk hkl hs h hid hn
theorem play_go (w:FuncId) (k:Int) (f:Fo) (hf:f.row[0]? = some (aI k)) (hl:lkV (.v .nilFunc) true (lkp waysE (.i k)) = .t [.f (.func w) [] [],aB true]) (r:Int × Bool) (hr:validS c s = true → Tn.acc c (.mk tk s a ss ks) f = r)
    (hw:∀ S2:Store,S2.obj id = some (plO c n) → id < S2.n → ACalls Tryz.prog w [.p id 0 0,f.av,(Tn.mk tk s a ss ks).av] S2 (PlR c id S2 n r)) :
    ACalls Tryz.prog 54 [.p id 0 0,f.av,(Tn.mk tk s a ss ks).av] S (PlR c id S n (Tn.acc c (.mk tk s a ss ks) f)):=by
  refine calls54 ?_
  unfold m54
  refine boxA_of (Fo.row_len f) fun S1 k1 n1 o1=>?_
  refine boxA_of (Tn.row_len _) fun S2 k2 n2 o2=>?_
  have kk:=k1.trans k2
  have p1:=(k2.2 _ (by omega)).trans o1
  have q:=(kk.2 _ hid).trans h
  have r1:=Tn.row1 (.mk tk s a ss ks)
  show ∃ q:AV,_
  (repeat (first | with_reducible_and_instances (first | refine WJ ?_ | refine W (J_nil) ?_ | refine W (J_ldp q (by with_unfolding_all rfl) (by with_unfolding_all rfl)) ?_ | refine W (J_ldp p1 (by with_unfolding_all rfl) hf) ?_ | refine W (J_lkT (keyI _ _) hl) ?_ | refine W (J_ext (by with_unfolding_all rfl)) ?_ | refine W (J_ldq (by with_unfolding_all rfl)) ?_)))
  rw [ld1_p o2 rfl r1]
  refine callF_at (at100 hc q (by omega) s) ?_
  rw [onB_v]
  refine gd_of (fun hv=>?_) (fun hv=>?_)
  · rw [hr hv,ldN_p (n:=4) p1 (Fo.row_len f),ldN_p (n:=5) o2 (Tn.row_len _)]
    exact callV_pr (fs:=[]) (cs:=[]) (hw S2 q (by omega)) fun S' hp=>hp.up kk
  · rw [acc_inv _ hv]
    exact PlR.same kk q hn
theorem play_no (f:Fo) (hf:f.row[0]? = some (aI 1)) (hr:validS c s = true → Tn.acc c (.mk tk s a ss ks) f = (0,false)) :
    ACalls Tryz.prog 54 [.p id 0 0,f.av,(Tn.mk tk s a ss ks).av] S (PlR c id S n (Tn.acc c (.mk tk s a ss ks) f)):=by
  refine calls54 ?_
  unfold m54
  refine boxA_of (Fo.row_len f) fun S1 k1 n1 o1=>?_
  refine boxA_of (Tn.row_len _) fun S2 k2 n2 o2=>?_
  have kk:=k1.trans k2
  have p1:=(k2.2 _ (by omega)).trans o1
  have q:=(kk.2 _ hid).trans h
  have hl:lkV (.v .nilFunc) true (lkp waysE (.i 1)) = .t [.v .nilFunc,aB false]:=rfl
  show ∃ q:AV,_
  (repeat (first | with_reducible_and_instances (first | refine WJ ?_ | refine W (J_nil) ?_ | refine W (J_ldp q (by with_unfolding_all rfl) (by with_unfolding_all rfl)) ?_ | refine W (J_ldp p1 (by with_unfolding_all rfl) hf) ?_ | refine W (J_lkT (keyI _ _) hl) ?_ | refine W (J_ext (by with_unfolding_all rfl)) ?_ | refine W (J_ldq (by with_unfolding_all rfl)) ?_)))
  have:Tn.acc c (.mk tk s a ss ks) f = (0,false):=by
    cases hv:validS c s with
    | true=>exact hr hv
    | false=>exact acc_inv _ hv
  rw [this]
  exact PlR.same kk q hn
theorem play_all {f:Fo} (hf:Pu f):ACalls Tryz.prog 54 [.p id 0 0,f.av,(Tn.mk tk s a ss ks).av] S (PlR c id S n (Tn.acc c (.mk tk s a ss ks) f)):=by
  have r0:∀ (k l:Int) (nm:ByteArray) (fs:List Fo),(Fo.mk k nm l fs).row[0]? = some (aI k):=fun k l nm fs=>by rw [Fo.row_mk]; rfl
  cases hf with
  | c k hkd =>
    rcases hkd with rfl | rfl
    · exact play_no hc hk hkl hs tk s a h hid hn _ (r0 _ _ _ _) acc_1
    · exact play_go hc hk hkl hs tk s a h hid hn 89 2 _ (r0 _ _ _ _) rfl _ acc_2 fun S2 q hi=>pl89 hc hk hkl hs tk s a q hi hn _
  | a l h0 hl=>exact play_go hc hk hkl hs tk s a h hid hn 90 3 _ (r0 _ _ _ _) rfl _ acc_3 fun S2 q hi=>pl90 hc hk hkl hs tk s a q hi hn _ _ hl _
  | n l h0 hl=>exact play_go hc hk hkl hs tk s a h hid hn 91 4 _ (r0 _ _ _ _) rfl _ acc_4 fun S2 q hi=>pl91 hc hk hkl hs tk s a q hi hn _ _ _ _ hl _
  | o k f hkd hf =>
    have:k = 9 ∨ k = 11 ∨ k = 13 ∨ k = 10 ∨ k = 12 ∨ k = 14:=by omega
    rcases this with rfl | rfl | rfl | rfl | rfl | rfl
    · exact play_go hc hk hkl hs tk s a h hid hn 94 9 _ (r0 _ _ _ _) rfl _ acc_9 fun S2 q hi=>pl94 hc hk hkl hs tk s a q hi hn hf _ _ _
    · exact play_go hc hk hkl hs tk s a h hid hn 95 11 _ (r0 _ _ _ _) rfl _ acc_11 fun S2 q hi=>pl95 hc hk hkl hs tk s a q hi hn hf _ _ _
    · exact play_go hc hk hkl hs tk s a h hid hn 96 13 _ (r0 _ _ _ _) rfl _ acc_13 fun S2 q hi=>pl96 hc hk hkl hs tk s a q hi hn hf _ _ _
    · exact play_go hc hk hkl hs tk s a h hid hn 99 10 _ (r0 _ _ _ _) rfl _ (acc_t (by decide)) fun S2 q hi=>pl99 hc hk hkl hs tk s a q hi hn _
    · exact play_go hc hk hkl hs tk s a h hid hn 99 12 _ (r0 _ _ _ _) rfl _ (acc_t (by decide)) fun S2 q hi=>pl99 hc hk hkl hs tk s a q hi hn _
    · exact play_go hc hk hkl hs tk s a h hid hn 99 14 _ (r0 _ _ _ _) rfl _ (acc_t (by decide)) fun S2 q hi=>pl99 hc hk hkl hs tk s a q hi hn _
  | t k f g hkd hf hg =>
    have:k = 5 ∨ k = 6 ∨ k = 15 ∨ k = 17 ∨ k = 16 ∨ k = 18:=by omega
    rcases this with rfl | rfl | rfl | rfl | rfl | rfl
    · exact play_go hc hk hkl hs tk s a h hid hn 92 5 _ (r0 _ _ _ _) rfl _ acc_5 fun S2 q hi=>pl92 hc hk hkl hs tk s a q hi hn hf hg _ _ _
    · exact play_go hc hk hkl hs tk s a h hid hn 93 6 _ (r0 _ _ _ _) rfl _ acc_6 fun S2 q hi=>pl93 hc hk hkl hs tk s a q hi hn hf hg _ _ _
    · exact play_go hc hk hkl hs tk s a h hid hn 97 15 _ (r0 _ _ _ _) rfl _ acc_15 fun S2 q hi=>pl97 hc hk hkl hs tk s a q hi hn hf hg _ _ _
    · exact play_go hc hk hkl hs tk s a h hid hn 98 17 _ (r0 _ _ _ _) rfl _ acc_17 fun S2 q hi=>pl98 hc hk hkl hs tk s a q hi hn hf hg _ _ _
    · exact play_go hc hk hkl hs tk s a h hid hn 99 16 _ (r0 _ _ _ _) rfl _ (acc_t (by decide)) fun S2 q hi=>pl99 hc hk hkl hs tk s a q hi hn _
    · exact play_go hc hk hkl hs tk s a h hid hn 99 18 _ (r0 _ _ _ _) rfl _ (acc_t (by decide)) fun S2 q hi=>pl99 hc hk hkl hs tk s a q hi hn _
end
theorem pl54 {c:Ci} (hc:Cs c) (id:Nat):∀ t:Tn,t.ok → HK c id t:=by
  intro t
  induction t using Tn.ind with
  | h tk s a ss ks ih =>
    intro ht f hf S n h hid hn
    cases ht with
    | mk _ _ _ _ _ h1 h2 h3 h4 h5 h6 h7=>exact play_all hc (fun t ht=>ih t ht (h7 t ht)) h6 h4 tk s a h hid hn hf
theorem ans53:Ans Tryz.prog 53 [] (.mt (.i .i64) waysE):=by
  intro S
  refine ACalls.tree (calls53 ?_)
  unfold m53 mkM
  dsimp only
  rw [updM_m (new_self _) (keyI _ _)]
  repeat rw [updM_m (upd_self _ _) (keyI _ _),upd_upd]
  refine ⟨_,rfl,((Keep.refl S).new _).upd (Nat.le_refl _) _,.m' S.n (.i .i64) waysE waysE ?_ rfl (fun i e e2 h h2=>by rw [h] at h2; cases h2; rfl) (fun i e e2 h h2=>?_)⟩
  · rw [frz_ofM (upd_self _ _)]
    have:newer S.n S.n = true:=by simp [newer]
    rw [this]
    rfl
  · rw [h] at h2; cases h2
    have hm:e ∈ waysE:=List.mem_of_getElem? h
    have hf:∀ w:FuncId,Cv ((Store.upd (S.new (.map (.i .i64) [] true)) S.n (.map (.i .i64) waysE true)).frz (newer S.n)) S.n (.f (.func w) [] []) (.f (.func w) [] []):=fun w=>.f _ _ _ _ _ rfl rfl (fun k u u2 h=>by simp at h) (fun k u u2 h=>by simp at h)
    simp only [waysE,List.mem_cons,List.not_mem_nil,or_false] at hm
    rcases hm with rfl | rfl | rfl | rfl | rfl | rfl | rfl | rfl | rfl | rfl | rfl | rfl | rfl | rfl | rfl <;> exact hf _
set_option linter.unusedSectionVars false
noncomputable def acceptB (c:Ci) (f:Fo) (t:Tn):Int × Bool :=
  if mayC c f = false ∨ 60 < c.gr.inputs then (0,false) else if (t.acc c (f.push false)).2 = true then t.acc c (f.push false) else (0,false)
def pl01:(Int × Bool) ⊕ (List Fo × List Int) → Prop
  | .inl r=>r.1 = 0 ∨ r.1 = 1
  | .inr _=>True
theorem pl_ite {p:Prop} [Decidable p] {x y:(Int × Bool) ⊕ (List Fo × List Int)} (h1:pl01 x) (h2:pl01 y):pl01 (if p then x else y):=by
  split
  · exact h1
  · exact h2
theorem plan_01 (c:Ci) (f:Fo) (tk s a:Int) (ss kst:List Int):pl01 (planA c f tk s a ss kst):=by
  obtain ⟨k,nm,l,fs⟩:=f
  unfold planA
  repeat' (first | exact trivial | exact Or.inl rfl | exact Or.inr rfl | refine pl_ite ?_ ?_)
theorem acc_rng {c:Ci} {t:Tn} {f:Fo}:i64R (t.acc c f).1:=by
  obtain ⟨tk,s,a,ss,ks⟩:=t
  rw [acc_mk]
  have h:=plan_01 c f tk s a ss (ks.map Tn.st)
  generalize planA c f tk s a ss (ks.map Tn.st) = x at h
  cases x with
  | inl r =>
    show i64R r.1
    have h:r.1 = 0 ∨ r.1 = 1:=h
    exact ⟨by omega,by omega⟩
  | inr p=>exact accs_rng c ks _ _ ⟨by decide,by decide⟩
theorem may_parts {c:Ci} {f:Fo} (h:mayC c f = true):c.right = true ∧ f.mayB 60 = true:=by
  unfold mayC at h
  rw [Bool.and_eq_true,Bool.and_eq_true] at h
  exact ⟨h.1,h.2.1⟩
theorem ans27 {c:Ci} (hc:c.ok) {f:Fo} (hf:f.ok) {t:Tn} (ht:t.ok):Ans Tryz.prog 27 [c.av,f.av,t.av] (aR (acceptB c f t)):=by
  intro S
  refine ACalls.ansT (calls27 ?_)
  unfold m27 acceptB
  refine boxA_of rfl fun S1 k1 n1 o1=>?_
  refine boxA_of (Fo.row_len f) fun S2 k2 n2 o2=>?_
  refine boxA_of (Tn.row_len t) fun S3 k3 n3 o3=>?_
  have kk:=(k1.trans k2).trans k3
  have p1:=(k3.2 _ (by omega)).trans ((k2.2 _ (by omega)).trans o1)
  have p2:=(k3.2 _ (by omega)).trans o2
  rw [ldN_p (n:=8) p1 rfl,ldN_p (n:=4) p2 (Fo.row_len f)]
  refine callF_ans (ans52 hc hf) ?_
  rw [un_not,onB_v]
  cases hm:mayC c f with
  | false =>
    rw [if_pos (.inl rfl)]
    exact ⟨rfl,kk⟩
  | true =>
  rw [gd_nT (b:=true) rfl]
  obtain ⟨hr,hmay⟩:=may_parts hm
  obtain ⟨g1,g2,g3⟩:=gr_inp hr
  rw [shift_p,ld1_p p1 rfl rfl,shift_p,ld1_p p1 rfl rfl,lenS_pL,bin_add (by omega) (by omega),← g1,bin_gtr,onB_v]
  by_cases e1:60 < c.gr.inputs
  · rw [decide_eq_true e1,if_pos (.inr e1)]
    exact ⟨rfl,kk⟩
  rw [decide_eq_false e1,gd_false,if_neg (by rintro (h | h); cases h; exact e1 h)]
  have hcs:Cs c:=⟨hc,hr,by omega⟩
  have hpu:=push_pu f hf hmay false
  show ∃ q:AV,_
  (repeat (first | with_reducible_and_instances (first | refine WJ ?_ | refine W (LJ_ldN (n:=8) p1 (by omega) (by with_unfolding_all rfl)) ?_ | refine W (LJ_bld (cs:=plC c 0) (by with_unfolding_all rfl)) ?_ | refine W (J_ldq (by with_unfolding_all rfl)) ?_) | refine J_cA (ans53) rfl rfl ?_ | refine C_A (ans53) rfl rfl ?_ | refine L_cA (ans53) rfl rfl ?_))
  refine boxA_of (plC_len c 0) fun S4 k4 n4 o4=>?_
  have p24:=(k4.2 _ (by omega)).trans p2
  have p34:=(k4.2 _ (by omega)).trans o3
  show ∃ q:AV,_
  (repeat (first | with_reducible_and_instances (first | refine WJ ?_ | refine W (LJ_ldN (n:=4) p24 (by omega) (Fo.row_len f)) ?_ | refine W (LJ_ldN (n:=5) p34 (by omega) (Tn.row_len t)) ?_ | refine W (J_ldq (by with_unfolding_all rfl)) ?_) | refine J_cA (ans45) rfl rfl ?_ | refine C_A (ans45) rfl rfl ?_ | refine L_cA (ans45) rfl rfl ?_ | refine J_cA (ans44 f hf hmay false) rfl rfl ?_ | refine C_A (ans44 f hf hmay false) rfl rfl ?_ | refine L_cA (ans44 f hf hmay false) rfl rfl ?_))
  refine callF_pl (pl54 hcs S3.n t ht (f.push false) hpu S4 0 o4 (by omega) ⟨by decide,by decide⟩) fun n' S5 hn' h1 hn5 q5 f5=>?_
  have k5:Keep S S5:=⟨by have:=kk.1; omega,fun x hx=>(f5 x (by have:=kk.1; omega) (by have:=kk.1; omega)).trans ((k4.2 x (by have:=kk.1; omega)).trans (kk.2 x hx))⟩
  cases e2:(t.acc c (f.push false)).2 with
  | false =>
    (repeat (first | with_reducible_and_instances (first | refine WJ ?_ | refine W (J_ldq (by with_unfolding_all rfl)) ?_)))
    exact ⟨rfl,k5⟩
  | true =>
    (repeat (first | with_reducible_and_instances (first | refine WJ ?_ | refine W (J_ldq (by with_unfolding_all rfl)) ?_)))
    rw [nilChk_p,shift_p,ld1_p q5 rfl rfl,h1 e2,Int.zero_add,wrap_rng acc_rng]
    exact ⟨by unfold aR; rw [if_pos rfl,e2],k5⟩
abbrev tnLf (s:Int):Tn:=.mk 1 s 0 [] []
abbrev tnLp (a:Int):Tn:=.mk 6 0 a [0,1] [tnLf 0,tnLf 1]
theorem is0:isB ca0 0 3 = true:=by rw [isB,ca0_right,Bool.true_and]; decide
theorem is1:isB ca0 1 3 = false:=by rw [isB,ca0_right,Bool.true_and]; decide
theorem after0:afterB ca0 0 = 1:=by
  rw [afterB,if_pos (by rw [ca0_right]; decide)]
  show (if isB ca0 0 3 = true then 0 + 2 ^ (0 + 0) else 0) = (1:Int)
  rw [is0]; rfl
theorem after1:afterB ca0 1 = 0:=by
  rw [afterB,if_pos (by rw [ca0_right]; decide)]
  show (if isB ca0 1 3 = true then 0 + 2 ^ (0 + 0) else 0) = (0:Int)
  rw [is1]; rfl
theorem valid0:validS ca0 0 = true:=rfl
theorem valid1:validS ca0 1 = true:=rfl
theorem beh01:behindS ca0 0 1 = true:=by rw [behindS,valid0,valid1,after0]; rfl
theorem beh10:behindS ca0 1 0 = true:=by rw [behindS,valid0,valid1,after1]; rfl
theorem beh11:behindS ca0 1 1 = false:=by rw [behindS,valid1,after1]; rfl
theorem chain01:chainS ca0 [0,1] = true:=by
  show (behindS ca0 0 1 && true) = true
  rw [beh01]; rfl
theorem may0:mayC ca0 foG = true:=by rw [mayC,ca0_right]; decide
theorem mayT:mayC ca0 (foOne 14 (.mk 1 ⟨#[]⟩ 0 [])) = true:=by rw [mayC,ca0_right]; decide
theorem pushG:foG.push false = foG:=by rw [push_one (by decide),push_const (by decide)]; rfl
theorem pushT:(foOne 14 (.mk 1 ⟨#[]⟩ 0 [])).push false = foOne 14 (.mk 1 ⟨#[]⟩ 0 []):=by rw [push_one (by decide),push_const (by decide)]; rfl
theorem small0:¬ 60 < ca0.gr.inputs:=by decide
theorem leaf0:(tnLf 0).acc ca0 fo2 = (0,true):=by rw [acc_2 valid0]; rfl
theorem leaf1:(tnLf 1).acc ca0 fo2 = (0,true):=by rw [acc_2 valid1]; rfl
theorem accG:acceptB ca0 foG (tnLp 0) = (0,true):=by
  have h:(tnLp 0).acc ca0 foG = (0,true):=by
    rw [acc_13 valid0,loopR,if_pos ⟨by decide,rfl,by decide,by decide,rfl,beh10,chain01,rfl⟩]
    show Tn.accs ca0 [tnLf 0,tnLf 1] [fo2,fo2] [0,1] 0 = _
    rw [accs_seq,seq_none,rat,rat,if_pos (show (tnLf 0).st = 0 from rfl),if_pos (show (tnLf 1).st = 1 from rfl),leaf0,leaf1]
    rfl
  rw [acceptB,if_neg (by rw [may0]; rintro (h | h); cases h; exact small0 h),pushG,h,if_pos rfl]
theorem accN:acceptB ca0 foG (tnLp 1) = (0,false):=by
  have h:(tnLp 1).acc ca0 foG = (0,false):=by
    rw [acc_13 valid0,loopR,if_neg]
    intro h
    have this:behindS ca0 1 1 = true:=h.2.2.2.2.2.1
    rw [beh11] at this
    cases this
  rw [acceptB,if_neg (by rw [may0]; rintro (h | h); cases h; exact small0 h),pushG,h,if_neg (by decide)]
theorem accT:acceptB ca0 (foOne 14 (.mk 1 ⟨#[]⟩ 0 [])) (.mk 7 0 0 [] []) = (1,true):=by
  have h:(Tn.mk 7 0 0 [] []).acc ca0 (foOne 14 (.mk 1 ⟨#[]⟩ 0 [])) = (1,true):=by rw [acc_t (by decide) valid0]; rfl
  rw [acceptB,if_neg (by rw [mayT]; rintro (h | h); cases h; exact small0 h),pushT,h,if_pos rfl]
theorem pushN:pushB (foOne 4 foG) = foOne 12 (.mk 1 ⟨#[]⟩ 0 []):=by
  rw [pushB,if_pos (by decide),push_not,push_one (by decide),push_const (by decide)]; rfl
theorem cv_fo1 {S:Store} {n:Nat} {k l:Int} {f:Fo} {r:List AV} (hl:r.length = 4) (hr:∀ (k:Nat) (u u2:AV),r[k]? = some u → f.row[k]? = some u2 → Cv S n u u2):Cv S n (.a [aI k,.v (.string ⟨#[]⟩),aI l,.l [r]]) (Fo.mk k ⟨#[]⟩ l [f]).av:=by
  rw [Fo.av,Fo.row_mk]
  refine .a _ _ rfl fun k u u2 e1 e2=>?_
  match k with
  | 0=>cases e1; cases e2; exact .v _
  | 1=>cases e1; cases e2; exact .v _
  | 2=>cases e1; cases e2; exact .v _
  | 3 =>
    cases e1; cases e2
    refine .l _ _ rfl (fun i c c2 h1 h2=>?_) (fun i c c2 k u u2 h1 h2 h3 h4=>?_)
    · match i with
      | 0=>cases h1; cases h2; rw [Fo.row_len,hl]
      | i + 1=>simp at h1
    · match i with
      | 0=>cases h1; cases h2; exact hr k u u2 h3 h4
      | i + 1=>simp at h1
  | k + 4=>simp at e1
theorem cv_fo0 {S:Store} {n:Nat} (k l:Int):∀ (j:Nat) (u u2:AV),[aI k,.v (.string ⟨#[]⟩),aI l,AV.nl][j]? = some u → (Fo.mk k ⟨#[]⟩ l []).row[j]? = some u2 → Cv S n u u2:=fun j u u2 e1 e2=>by
  rw [Fo.row_mk] at e2
  match j with
  | 0=>cases e1; cases e2; exact .v _
  | 1=>cases e1; cases e2; exact .v _
  | 2=>cases e1; cases e2; exact .v _
  | 3=>cases e1; cases e2; exact .nl
  | j + 4=>simp at e1
theorem cv_tn0 {S:Store} {n:Nat} (k s a:Int):∀ (j:Nat) (u u2:AV),[aI k,aI s,aI a,AV.nl,AV.nl][j]? = some u → (Tn.mk k s a [] []).row[j]? = some u2 → Cv S n u u2:=fun j u u2 e1 e2=>by
  rw [Tn.row_mk] at e2
  match j with
  | 0=>cases e1; cases e2; exact .v _
  | 1=>cases e1; cases e2; exact .v _
  | 2=>cases e1; cases e2; exact .v _
  | 3=>cases e1; cases e2; exact .nl
  | 4=>cases e1; cases e2; exact .nl
  | j + 5=>simp at e1
theorem cv_tl {S:Store} {n:Nat} (k s a:Int):Cv S n (.a [aI k,aI s,aI a,.nl,.nl]) (Tn.mk k s a [] []).av:=.a _ _ (by rw [Tn.row_len]; rfl) (cv_tn0 k s a)
theorem cv_lp {S:Store} {n:Nat} (a:Int):Cv S n (.a [aI 6,aI 0,aI a,.l [[aI 0],[aI 1]],.l [[aI 1,aI 0,aI 0,.nl,.nl],[aI 1,aI 1,aI 0,.nl,.nl]]]) (tnLp a).av:=by
  rw [Tn.av,Tn.row_mk]
  refine .a _ _ rfl fun k u u2 e1 e2=>?_
  match k with
  | 0=>cases e1; cases e2; exact .v _
  | 1=>cases e1; cases e2; exact .v _
  | 2=>cases e1; cases e2; exact .v _
  | 3=>cases e1; cases e2; exact treeI [0,1] _ _
  | 4 =>
    cases e1; cases e2
    refine .l _ _ rfl (fun i c c2 h1 h2=>?_) (fun i c c2 k u u2 h1 h2 h3 h4=>?_)
    · match i with
      | 0=>cases h1; cases h2; rw [Tn.row_len]; rfl
      | 1=>cases h1; cases h2; rw [Tn.row_len]; rfl
      | i + 2=>simp at h1
    · match i with
      | 0=>cases h1; cases h2; exact cv_tn0 1 0 0 k u u2 h3 h4
      | 1=>cases h1; cases h2; exact cv_tn0 1 1 0 k u u2 h3 h4
      | i + 2=>simp at h1
  | k + 5=>simp at e1
theorem bslT2 {e:Nat} {z1 z2 z3 z4 z5:AV} {r r2:List AV} {S:Store} {K:AV → Store → Prop} (hr:r.length = 5) (hr2:r2.length = 5) (k:K (.l [r,r2]) S):bslN e 5 2 [z1,z2,z3,z4,z5] [(0,.a r),(1,.a r2)] S K:=by
  match r,hr,r2,hr2 with
  | [u,v,w,x,y],_,[u2,v2,w2,x2,y2],_ =>
    refine ⟨[u,v,w,x,y,u2,v2,w2,x2,y2],?_,.inr ?_⟩
    · simp [fillA,cellsOf,spl,List.range_succ]
    · simpa [chunks,List.range_succ] using k
theorem okG:foG.ok:=Pu.ok (.o _ _ (by decide) (.c _ (by decide)))
theorem okLf (s:Int) (h:i64R s):(tnLf s).ok:=.mk _ _ _ _ _ ⟨by decide,by decide⟩ h ⟨by decide,by decide⟩ (by decide) (fun x hx=>by cases hx) (by decide) (fun x hx=>by cases hx)
theorem okLp (a:Int) (h:i64R a):(tnLp a).ok:=.mk _ _ _ _ _ ⟨by decide,by decide⟩ ⟨by decide,by decide⟩ h (by decide) (fun x hx=>by
  simp only [List.mem_cons,List.not_mem_nil,or_false] at hx
  rcases hx with rfl | rfl <;> exact ⟨by decide,by decide⟩) (by simp) (fun x hx=>by
  simp only [List.mem_cons,List.not_mem_nil,or_false] at hx
  rcases hx with rfl | rfl
  · exact okLf 0 ⟨by decide,by decide⟩
  · exact okLf 1 ⟨by decide,by decide⟩)
theorem ans19:Ans Tryz.prog 19 [] (aB true):=by
  intro S
  refine ACalls.ans_v (calls19 ?_)
  unfold m19
  have h1:=ans27 ca0_ok okG (okLp 0 ⟨by decide,by decide⟩)
  have h2:=ans27 ca0_ok okG (okLp 1 ⟨by decide,by decide⟩)
  have h3:=ans27 ca0_ok (f:=foOne 14 (.mk 1 ⟨#[]⟩ 0 [])) (Pu.ok (.o _ _ (by decide) (.c _ (by decide)))) (t:=.mk 7 0 0 [] []) (.mk _ _ _ _ _ ⟨by decide,by decide⟩ ⟨by decide,by decide⟩ ⟨by decide,by decide⟩ (by decide) (fun x hx=>by cases hx) (by decide) (fun x hx=>by cases hx))
  have h4:=ans21 (f:=foOne 4 foG) (.mk _ _ _ _ ⟨by decide,by decide⟩ ⟨by decide,by decide⟩ (by decide) (by simp) fun g hg=>by rw [List.mem_singleton.1 hg]; exact okG)
  rw [accG] at h1
  rw [accN] at h2
  rw [accT] at h3
  rw [pushN] at h4
  have hci:∀ (T:Store) (n:Nat),Cv T n (.a [aI 0,.l [[aI 3,aI 0]],.nl,.nl,.nl,.nl,.nl,.nl]) ca0.av:=fun T n=>cv_ci (.v _) (treeP [(3,0)] _ _)
  have hfG:∀ (T:Store) (n:Nat),Cv T n (.a [aI 13,.v (.string ⟨#[]⟩),aI 0,.l [[aI 2,.v (.string ⟨#[]⟩),aI 0,.nl]]]) foG.av:=fun T n=>cv_fo1 rfl (cv_fo0 2 0)
  rw [bld_of (cs:=[aI 3,aI 0]) rfl]
  refine bslP ?_
  rw [bld_of (cs:=[aI 0,.l [[aI 3,aI 0]],.nl,.nl,.nl,.nl,.nl,.nl]) rfl]
  refine boxA_of rfl fun S1 k1 n1 o1=>?_
  refine stA_of (cs':=[aI 0,.l [[aI 3,aI 0]],.nl,.nl,.nl,.nl,.nl,.nl]) o1 rfl rfl fun S2 n2 o2 f2=>?_
  have k2:=k1.st (Nat.le_refl _) n2 f2
  rw [bld_of (cs:=[aI 2,.v (.string ⟨#[]⟩),aI 0,.nl]) rfl]
  refine bslA4 rfl ?_
  rw [bld_of (cs:=[aI 13,.v (.string ⟨#[]⟩),aI 0,.l [[aI 2,.v (.string ⟨#[]⟩),aI 0,.nl]]]) rfl]
  refine boxA_of rfl fun S3 k3 n3 o3=>?_
  refine stA_of (cs':=[aI 13,.v (.string ⟨#[]⟩),aI 0,.l [[aI 2,.v (.string ⟨#[]⟩),aI 0,.nl]]]) o3 rfl rfl fun S4 n4 o4 f4=>?_
  have k4:=k3.st (Nat.le_refl _) n4 f4
  refine bsl2 rfl rfl ?_
  rw [bld_of (cs:=[aI 1,aI 0,aI 0,.nl,.nl]) rfl,bld_of (cs:=[aI 1,aI 1,aI 0,.nl,.nl]) rfl]
  refine bslT2 rfl rfl ?_
  rw [bld_of (cs:=[aI 6,aI 0,aI 0,.l [[aI 0],[aI 1]],.l [[aI 1,aI 0,aI 0,.nl,.nl],[aI 1,aI 1,aI 0,.nl,.nl]]]) rfl]
  refine boxA_of rfl fun S5 k5 n5 o5=>?_
  refine stA_of (cs':=[aI 6,aI 0,aI 0,.l [[aI 0],[aI 1]],.l [[aI 1,aI 0,aI 0,.nl,.nl],[aI 1,aI 1,aI 0,.nl,.nl]]]) o5 rfl rfl fun S6 n6 o6 f6=>?_
  have k6:=k5.st (Nat.le_refl _) n6 f6
  have p6:=(k6.2 _ (by omega)).trans ((k4.2 _ (by omega)).trans o2)
  have q6:=(k6.2 _ (by omega)).trans o4
  rw [ldN_p (n:=8) p6 rfl,ldN_p (n:=4) q6 rfl,ldN_p (n:=5) o6 rfl]
  refine callF_cv' (args:=[.a [aI 0,.l [[aI 3,aI 0]],.nl,.nl,.nl,.nl,.nl,.nl],.a [aI 13,.v (.string ⟨#[]⟩),aI 0,.l [[aI 2,.v (.string ⟨#[]⟩),aI 0,.nl]]],.a [aI 6,aI 0,aI 0,.l [[aI 0],[aI 1]],.l [[aI 1,aI 0,aI 0,.nl,.nl],[aI 1,aI 1,aI 0,.nl,.nl]]]]) h1 rfl (cv_3 (hci _ _) (hfG _ _) (cv_lp 0)) ?_
  rw [extr0,extr1,shift_p]
  refine stF_of o6 (by decide) rfl fun S7 n7 o7 f7=>?_
  have o7:S7.obj S4.n = some (.cells 37 [[aI 6,aI 0,aI 1,.l [[aI 0],[aI 1]],.l [[aI 1,aI 0,aI 0,.nl,.nl],[aI 1,aI 1,aI 0,.nl,.nl]]]] true):=o7
  have p7:=(f7 _ (by omega)).trans p6
  have q7:=(f7 _ (by omega)).trans q6
  have k7:Keep S S7:=((k2.trans k4).trans k6).st (id:=S4.n) (by have:=k2.1; have:=k4.1; omega) n7 f7
  rw [ldN_p (n:=8) p7 rfl,ldN_p (n:=4) q7 rfl,ldN_p (n:=5) o7 rfl]
  refine callF_cv' (args:=[.a [aI 0,.l [[aI 3,aI 0]],.nl,.nl,.nl,.nl,.nl,.nl],.a [aI 13,.v (.string ⟨#[]⟩),aI 0,.l [[aI 2,.v (.string ⟨#[]⟩),aI 0,.nl]]],.a [aI 6,aI 0,aI 1,.l [[aI 0],[aI 1]],.l [[aI 1,aI 0,aI 0,.nl,.nl],[aI 1,aI 1,aI 0,.nl,.nl]]]]) h2 rfl (cv_3 (hci _ _) (hfG _ _) (cv_lp 1)) ?_
  rw [extr0,extr1,ldN_p (n:=8) p7 rfl,bld_of (cs:=[aI 1,.v (.string ⟨#[]⟩),aI 0,.nl]) rfl]
  refine bslA4 rfl ?_
  rw [bld_of (cs:=[aI 14,.v (.string ⟨#[]⟩),aI 0,.l [[aI 1,.v (.string ⟨#[]⟩),aI 0,.nl]]]) rfl,bld_of (cs:=[aI 7,aI 0,aI 0,.nl,.nl]) rfl]
  refine callF_cv' (args:=[.a [aI 0,.l [[aI 3,aI 0]],.nl,.nl,.nl,.nl,.nl,.nl],.a [aI 14,.v (.string ⟨#[]⟩),aI 0,.l [[aI 1,.v (.string ⟨#[]⟩),aI 0,.nl]]],.a [aI 7,aI 0,aI 0,.nl,.nl]]) h3 rfl (cv_3 (hci _ _) (cv_fo1 rfl (cv_fo0 1 0)) (cv_tl 7 0 0)) ?_
  rw [extr0,extr1,ldN_p (n:=4) q7 rfl]
  refine bslA4 rfl ?_
  rw [bld_of (cs:=[aI 4,.v (.string ⟨#[]⟩),aI 0,.l [[aI 13,.v (.string ⟨#[]⟩),aI 0,.l [[aI 2,.v (.string ⟨#[]⟩),aI 0,.nl]]]]]) rfl]
  refine callF_cv' (args:=[.a [aI 4,.v (.string ⟨#[]⟩),aI 0,.l [[aI 13,.v (.string ⟨#[]⟩),aI 0,.l [[aI 2,.v (.string ⟨#[]⟩),aI 0,.nl]]]]]]) h4 rfl (fun k u u2 e1 e2=>?_) ?_
  · match k with
    | 0 =>
      cases e1; cases e2
      refine cv_fo1 rfl fun k u u2 e1 e2=>?_
      have hh:Cv S7 S7.n (.a [aI 13,.v (.string ⟨#[]⟩),aI 0,.l [[aI 2,.v (.string ⟨#[]⟩),aI 0,.nl]]]) foG.av:=hfG _ _
      cases hh with
      | a _ _ hl hR=>exact hR k u u2 e1 e2
    | k + 1=>simp at e1
  refine boxA_of rfl fun S8 k8 n8 o8=>?_
  refine stA_of (cs':=(foOne 12 (.mk 1 ⟨#[]⟩ 0 [])).row) o8 (Fo.row_len _) rfl fun S9 n9 o9 f9=>?_
  have k9:=k8.st (Nat.le_refl _) n9 f9
  rw [Fo.row_mk] at o9
  rw [onB_v,gd_T rfl,bin_eql,onB_v,gd_T (decide_eq_true rfl),un_not,onB_v,gd_nF rfl,onB_v,gd_T rfl,bin_eql,onB_v,gd_T (decide_eq_true rfl),shift_p,ld1_p o9 rfl rfl,bin_eql,onB_v,gd_T (decide_eq_true rfl),shift_p,ld1_p o9 rfl rfl,lenS_foL,bin_eql,onB_v,gd_T (decide_eq_true (show (([Fo.mk 1 ⟨#[]⟩ 0 []].length:Nat):Int) = 1 from rfl)),shift_p,ld1_p o9 rfl rfl,ixF0]
  have rk:(Fo.mk 1 ⟨#[]⟩ 0 []).row[0]? = some (aI 1):=by rw [Fo.row_mk]; rfl
  have sq:∀ K:AV → Store → Prop,shift (.q (Fo.mk 1 ⟨#[]⟩ 0 []).row 0) 0 S9 K = K (.q (Fo.mk 1 ⟨#[]⟩ 0 []).row 0) S9:=fun K=>rfl
  rw [sq,show ∀ K:AV → Store → Prop,ld1 (.q (Fo.mk 1 ⟨#[]⟩ 0 []).row 0) S9 K = K (aI 1) S9 from fun K=>by simp [ld1,rd1,place,rk],bin_eql]
  exact ⟨rfl,k7.trans k9⟩
structure Gd (c:Ci) (d:Int) (f:Fo):Prop where
  ok:f.ok
  may:f.mayB d = true
  lits:f.litsB c.gr = true
theorem ResV.gd {c:Ci} {f:Fo} (h:ResV c.gr.vars f) (hc:MadeC c):Gd c 7 f:=⟨h.ok,h.may,h.litsC hc⟩
theorem Gd.truth {c:Ci} {d:Int} {f:Fo} (h:Gd c d f) (hd:d ≤ 60) (hc:MadeC c):truthB c f = (semC c f,0):=by
  have hm:mayC c f = true:=by rw [mayC,hc.right,mayB_mono f hd h.may,h.lits]; rfl
  rw [truthB,if_neg (by rw [hm]; decide),if_pos (by rw [(made_sp hc.right hc.inp.2 hc.lats.2).1])]
theorem Gd.sem {c:Ci} {d:Int} {f:Fo} (h:Gd c d f):In (spOf c) (semC c f):=in_sem (fun l=>in_each _ _) f _ h.may
theorem made_ok {c:Ci} (hc:MadeC c):SpOk (spOf c):=spOf_ok hc.right (by
  obtain ⟨g1,g2,g3⟩:=gr_inp hc.right
  have:=hc.inp
  have:=hc.lats
  omega)
theorem Gd.len {c:Ci} {d:Int} {f:Fo} (h:Gd c d f) (hc:MadeC c):(semC c f).length ≤ 1024:=by
  have:=h.sem.len
  have:=(made_ok hc).small.h1
  omega
theorem orP_comm {s:Sp} {a b:List Bool} (ha:In s a) (hb:In s b):orP a b = orP b a:=(ha.or hb).eq (hb.or ha) fun i _=>by
  rw [bit_or (by rw [ha.len,hb.len]),bit_or (by rw [ha.len,hb.len]),Bool.or_comm]
theorem not_not {s:Sp} {p:List Bool} (h:In s p):notP s (notP s p) = p:=(in_not _ _).eq h fun i hi=>by
  rw [bit_not,bit_not,hi,Bool.true_and,Bool.true_and,Bool.not_not]
theorem not_and {s:Sp} {p q:List Bool} (h:In s p) (k:In s q):notP s (andP p q) = orP (notP s p) (notP s q):=(in_not _ _).eq ((in_not _ _).or (in_not _ _)) fun i hi=>by
  rw [bit_not,bit_and,bit_or (by rw [(in_not s p).len,(in_not s q).len]),bit_not,bit_not,hi]
  cases bit p i <;> cases bit q i <;> rfl
theorem not_nor {s:Sp} {p q:List Bool} (h:In s p) (k:In s q):notP s (orP (notP s p) q) = andP p (notP s q):=(in_not _ _).eq h.and fun i hi=>by
  rw [bit_not,bit_and,bit_or (by rw [(in_not s p).len,k.len]),bit_not,bit_not,hi]
  cases bit p i <;> cases bit q i <;> rfl
theorem not_same {s:Sp} {p q:List Bool} (h:In s p) (k:In s q):notP s (orP (andP p q) (notP s (orP p q))) = orP (andP p (notP s q)) (andP (notP s p) q):=(in_not _ _).eq (h.and.or (in_not _ _).and) fun i hi=>by
  rw [bit_not,bit_or (by rw [h.and.len,(in_not _ _).len]),bit_and,bit_not,bit_or (by rw [h.len,k.len]),bit_or (by rw [h.and.len,(in_not s p).and.len]),bit_and,bit_and,bit_not,bit_not,hi]
  cases bit p i <;> cases bit q i <;> rfl
theorem In.nextP {s:Sp} {fr p:List Bool} (h:In s p):In s (nextP s fr p):=In.ex (by simp [h.len])
theorem In.untilP {s:Sp} {fr p q:List Bool} (h:In s q):In s (untilP s fr p q):=In.eu (by simp [h.len])
section
variable {s:Sp} {fr:List Bool} {at_:Int → List Bool} (ha:∀ l,In s (at_ l))
include ha
theorem sem_push:∀ (f:Fo) {d:Int},f.mayB d = true → ∀ t,(f.push t).sem s fr at_ = if t then notP s (f.sem s fr at_) else f.sem s fr at_:=by
  intro f
  induction f using Fo.ind with
  | h k n l ks ih =>
    intro d hm t
    have hin:=in_sem (s:=s) (fr:=fr) (at_:=at_) ha (.mk k n l ks) d hm
    obtain ⟨rfl,hd,hc⟩:=may_cases hm
    rcases hc with ⟨hk,rfl,rfl⟩ | ⟨rfl,rfl,h0⟩ | ⟨hk,rfl,f,rfl,hfm⟩ | ⟨hk,rfl,f,g,rfl,hfm,hgm⟩
    · rw [push_const hk]
      rcases hk with rfl | rfl
      · cases t with
        | false=>rfl
        | true =>
          rw [if_pos rfl,if_pos rfl,show dualK 1 = 2 from rfl,sem_true,sem_false,not_not (in_valid s)]
      · cases t with
        | false=>rfl
        | true =>
          rw [if_pos rfl,if_pos rfl,show dualK 2 = 1 from rfl,sem_true,sem_false]
    · rw [push_atom]
      cases t with
      | false=>rfl
      | true =>
        rw [if_pos rfl,if_pos rfl,sem_one (by decide)]
        rfl
    · have ihf:=fun t=>ih f (by simp) hfm t
      have inf:=in_sem (s:=s) (fr:=fr) (at_:=at_) ha f _ hfm
      by_cases h4:k = 4
      · subst h4
        rw [push_not,ihf,sem_one (by decide)]
        show _ = if t = true then notP s (notP s (f.sem s fr at_)) else notP s (f.sem s fr at_)
        cases t with
        | false=>rfl
        | true=>rw [if_neg (by decide),if_pos rfl,not_not inf]
      rw [push_one (by omega),show Fo.sem s fr at_ (.mk k ⟨#[]⟩ 0 [f]) = oneP s fr k (f.sem s fr at_) from sem_one (by omega)]
      cases t with
      | false =>
        rw [if_neg (by decide),if_neg (by decide),sem_one (by omega),ihf,if_neg (by decide)]
      | true =>
        rw [if_pos rfl,if_pos rfl]
        have hdk:=dual_one (k:=k) (by omega)
        rw [sem_one (by omega),ihf,if_pos rfl]
        generalize f.sem s fr at_ = p at *
        have:k = 9 ∨ k = 10 ∨ k = 11 ∨ k = 12 ∨ k = 13 ∨ k = 14:=by omega
        rcases this with rfl | rfl | rfl | rfl | rfl | rfl
        · show notP s (nextP s fr (notP s (notP s p))) = notP s (nextP s fr p)
          rw [not_not inf]
        · show nextP s fr (notP s p) = notP s (notP s (nextP s fr (notP s p)))
          rw [not_not (In.nextP (in_not _ _))]
        · show notP s (untilP s fr s.valid (notP s (notP s p))) = notP s (untilP s fr s.valid p)
          rw [not_not inf]
        · show egP s (notP s p) = notP s (notP s (egP s (notP s p)))
          rw [not_not (In.eg (in_not s p).len)]
        · show notP s (egP s (notP s (notP s p))) = notP s (egP s p)
          rw [not_not inf]
        · show untilP s fr s.valid (notP s p) = notP s (notP s (untilP s fr s.valid (notP s p)))
          rw [not_not (In.untilP (in_not _ _))]
    · have ihf:=fun t=>ih f (by simp) hfm t
      have ihg:=fun t=>ih g (by simp) hgm t
      have inf:=in_sem (s:=s) (fr:=fr) (at_:=at_) ha f _ hfm
      have ing:=in_sem (s:=s) (fr:=fr) (at_:=at_) ha g _ hgm
      by_cases h7:k = 7
      · subst h7
        rw [push_imp,sem_two (by decide)]
        show _ = if t = true then notP s (orP (notP s (f.sem s fr at_)) (g.sem s fr at_)) else orP (notP s (f.sem s fr at_)) (g.sem s fr at_)
        cases t with
        | false =>
          rw [if_neg (by decide),if_neg (by decide),sem_two (by decide),ihf,ihg]
          rfl
        | true =>
          rw [if_pos rfl,if_pos rfl,sem_two (by decide),ihf,ihg,not_nor inf ing]
          rfl
      by_cases h8:k = 8
      · subst h8
        rw [push_same,sem_two (by decide),sem_two (by decide),sem_two (by decide),sem_two (by decide),ihf,ihf,ihg,ihg]
        show orP (andP (f.sem s fr at_) (if t = true then notP s (g.sem s fr at_) else g.sem s fr at_)) (andP (notP s (f.sem s fr at_)) (if (!t) = true then notP s (g.sem s fr at_) else g.sem s fr at_)) = if t = true then notP s (orP (andP (f.sem s fr at_) (g.sem s fr at_)) (notP s (orP (f.sem s fr at_) (g.sem s fr at_)))) else orP (andP (f.sem s fr at_) (g.sem s fr at_)) (notP s (orP (f.sem s fr at_) (g.sem s fr at_)))
        cases t with
        | false =>
          rw [if_neg (by decide),if_pos (show (!false) = true from rfl),if_neg (by decide),not_or inf ing]
        | true =>
          rw [if_pos rfl,if_neg (show ¬ (!true) = true by decide),if_pos rfl,not_same inf ing]
      rw [push_two (by omega),show Fo.sem s fr at_ (.mk k ⟨#[]⟩ 0 [f,g]) = twoP s fr k (f.sem s fr at_) (g.sem s fr at_) from sem_two (by omega)]
      cases t with
      | false =>
        rw [if_neg (by decide),if_neg (by decide),sem_two (by omega),ihf,ihg,if_neg (by decide),if_neg (by decide)]
      | true =>
        rw [if_pos rfl,if_pos rfl]
        have hdk:=dual_two (k:=k) (by omega)
        rw [sem_two (by omega),ihf,ihg,if_pos rfl,if_pos rfl]
        generalize f.sem s fr at_ = p at *
        generalize g.sem s fr at_ = q at *
        have:k = 5 ∨ k = 6 ∨ k = 15 ∨ k = 16 ∨ k = 17 ∨ k = 18:=by omega
        rcases this with rfl | rfl | rfl | rfl | rfl | rfl
        · show orP (notP s p) (notP s q) = notP s (andP p q)
          rw [not_and inf ing]
        · show andP (notP s p) (notP s q) = notP s (orP p q)
          rw [not_or inf ing]
        · show notP s (untilP s fr (notP s (notP s p)) (notP s (notP s q))) = notP s (untilP s fr p q)
          rw [not_not inf,not_not ing]
        · show orP (egP s (notP s q)) (untilP s fr (notP s q) (andP (notP s p) (notP s q))) = notP s (notP s (orP (untilP s fr (notP s q) (notP s (orP p q))) (egP s (notP s q))))
          rw [not_or inf ing,not_not ((In.untilP (in_not _ _)).or (In.eg (in_not s q).len)),orP_comm (s:=s) (In.eg (in_not s q).len) (In.untilP (in_not _ _))]
        · show notP s (orP (untilP s fr (notP s (notP s q)) (notP s (orP (notP s p) (notP s q)))) (egP s (notP s (notP s q)))) = notP s (orP (egP s q) (untilP s fr q (andP p q)))
          rw [not_not ing,not_nor inf (in_not _ _),not_not ing,orP_comm (s:=s) (In.eg ing.len) (In.untilP inf.and)]
        · show untilP s fr (notP s p) (notP s q) = notP s (notP s (untilP s fr (notP s p) (notP s q)))
          rw [not_not (In.untilP (in_not _ _))]
end
theorem may_push:∀ (f:Fo) {d:Int},f.mayB d = true → ∀ t,(f.push t).mayB (2 * d) = true:=by
  have one:∀ {k d:Int} {f:Fo},(k = 4 ∨ 9 ≤ k ∧ k ≤ 14) → f.mayB (d - 1) = true → 0 < d → (foOne k f).mayB d = true:=fun {k d f} hk hf hd=>by
    rw [Fo.mayB_mk]
    simp only [Bool.and_eq_true,decide_eq_true_eq,List.all_cons,List.all_nil,Bool.and_true]
    refine ⟨hd,by simp,trivial,?_,hf⟩
    unfold kidsN
    rw [if_neg (by omega),if_neg (by omega),if_pos hk]; rfl
  have two:∀ {k d:Int} {f g:Fo},(5 ≤ k ∧ k ≤ 8 ∨ 15 ≤ k ∧ k ≤ 18) → f.mayB (d - 1) = true → g.mayB (d - 1) = true → 0 < d → (foTwo k f g).mayB d = true:=fun {k d f g} hk hf hg hd=>by
    rw [Fo.mayB_mk]
    simp only [Bool.and_eq_true,decide_eq_true_eq,List.all_cons,List.all_nil,Bool.and_true]
    refine ⟨hd,by simp,trivial,?_,hf,hg⟩
    unfold kidsN
    rw [if_neg (by omega),if_neg (by omega),if_neg (by omega)]; rfl
  intro f
  induction f using Fo.ind with
  | h k n l ks ih =>
    intro d hm t
    have hm0:=hm
    obtain ⟨rfl,hd,hc⟩:=may_cases hm
    rcases hc with ⟨hk,rfl,rfl⟩ | ⟨rfl,rfl,h0⟩ | ⟨hk,rfl,f,rfl,hfm⟩ | ⟨hk,rfl,f,g,rfl,hfm,hgm⟩
    · rw [push_const hk,Fo.mayB_mk]
      simp only [Bool.and_eq_true,decide_eq_true_eq,List.all_nil,Bool.and_true]
      refine ⟨by omega,by simp,trivial,?_⟩
      rcases hk with rfl | rfl <;> cases t <;> rfl
    · rw [push_atom]
      cases t with
      | false=>exact mayB_mono _ (by omega) hm0
      | true=>exact one (.inl rfl) (mayB_mono _ (by omega) hm0) (by omega)
    · have hf:=fun t=>ih f (by simp) hfm t
      by_cases h4:k = 4
      · subst h4
        rw [push_not]
        exact mayB_mono _ (by omega) (hf _)
      rw [push_one (by omega)]
      refine one ?_ (mayB_mono _ (by omega) (hf _)) (by omega)
      have:=dual_one (k:=k) (by omega)
      split <;> omega
    · have hf:=fun t=>ih f (by simp) hfm t
      have hg:=fun t=>ih g (by simp) hgm t
      by_cases h7:k = 7
      · subst h7
        rw [push_imp]
        split <;> exact two (by omega) (mayB_mono _ (by omega) (hf _)) (mayB_mono _ (by omega) (hg _)) (by omega)
      by_cases h8:k = 8
      · subst h8
        rw [push_same]
        exact two (by omega) (two (by omega) (mayB_mono _ (by omega) (hf _)) (mayB_mono _ (by omega) (hg _)) (by omega)) (two (by omega) (mayB_mono _ (by omega) (hf _)) (mayB_mono _ (by omega) (hg _)) (by omega)) (by omega)
      rw [push_two (by omega)]
      refine two ?_ (mayB_mono _ (by omega) (hf _)) (mayB_mono _ (by omega) (hg _)) (by omega)
      have:=dual_two (k:=k) (by omega)
      split <;> omega
theorem lits_push {gr:Gr}:∀ (f:Fo) {d:Int},f.mayB d = true → f.litsB gr = true → ∀ t,(f.push t).litsB gr = true:=by
  have one:∀ {k:Int} {f:Fo},k ≠ 3 → f.litsB gr = true → (foOne k f).litsB gr = true:=fun {k f} hk hf=>by
    rw [Fo.litsB_mk]
    simp only [List.all_cons,List.all_nil,Bool.and_true,hf,decide_eq_true hk,Bool.true_or]
  have two:∀ {k:Int} {f g:Fo},k ≠ 3 → f.litsB gr = true → g.litsB gr = true → (foTwo k f g).litsB gr = true:=fun {k f g} hk hf hg=>by
    rw [Fo.litsB_mk]
    simp only [List.all_cons,List.all_nil,Bool.and_true,hf,hg,decide_eq_true hk,Bool.true_or]
  intro f
  induction f using Fo.ind with
  | h k n l ks ih =>
    intro d hm hl t
    have hl0:=hl
    have hkl:∀ f ∈ ks,f.litsB gr = true:=by
      rw [Fo.litsB_mk,Bool.and_eq_true,List.all_eq_true] at hl
      exact hl.2
    obtain ⟨rfl,hd,hc⟩:=may_cases hm
    rcases hc with ⟨hk,rfl,rfl⟩ | ⟨rfl,rfl,h0⟩ | ⟨hk,rfl,f,rfl,hfm⟩ | ⟨hk,rfl,f,g,rfl,hfm,hgm⟩
    · rw [push_const hk,Fo.litsB_mk]
      simp only [List.all_nil,Bool.and_true]
      rw [Bool.or_eq_true]
      refine .inl (decide_eq_true ?_)
      rcases hk with rfl | rfl <;> cases t <;> decide
    · rw [push_atom]
      cases t with
      | false=>exact hl0
      | true=>exact one (by decide) hl0
    · have hf:=fun t=>ih f (by simp) hfm (hkl f (by simp)) t
      by_cases h4:k = 4
      · subst h4
        rw [push_not]
        exact hf _
      rw [push_one (by omega)]
      refine one ?_ (hf _)
      have:=dual_one (k:=k) (by omega)
      split <;> omega
    · have hf:=fun t=>ih f (by simp) hfm (hkl f (by simp)) t
      have hg:=fun t=>ih g (by simp) hgm (hkl g (by simp)) t
      by_cases h7:k = 7
      · subst h7
        rw [push_imp]
        split <;> exact two (by decide) (hf _) (hg _)
      by_cases h8:k = 8
      · subst h8
        rw [push_same]
        exact two (by decide) (two (by decide) (hf _) (hg _)) (two (by decide) (hf _) (hg _))
      rw [push_two (by omega)]
      refine two ?_ (hf _) (hg _)
      have:=dual_two (k:=k) (by omega)
      split <;> omega
theorem Gd.push {c:Ci} {d:Int} {f:Fo} (h:Gd c d f) (t:Bool):Gd c (2 * d) (f.push t):=⟨(push_pu f h.ok h.may t).ok,may_push f h.may t,lits_push f h.may h.lits t⟩
theorem semC_push {c:Ci} {d:Int} {f:Fo} (h:Gd c d f):semC c (f.push false) = semC c f:=sem_push (fun l=>in_each _ _) f h.may false
theorem law7 {l m:List Int} (hl:∀ x ∈ l,0 ≤ x ∧ x < 65536) (hm:∀ x ∈ m,0 ≤ x ∧ x < 256):Ans Tryz.prog 7 [aL aW16 l,aL aU8 m] (aB true):=by
  intro S
  refine ACalls.ans_v (calls7 ?_)
  unfold m7
  refine callF_ans ans19 ?_
  rw [un_not,onB_v,gd_nT (b:=true) rfl]
  refine .inl ((of23 hl hm).mono ?_)
  rintro e S' ⟨tr,rfl,rfl,c,f,rfl,hc,hcv,hf⟩
  show extr _ _ _ _
  rw [extr0,extr1]
  refine boxA_of rfl fun S2 k2 n2 o2=>?_
  refine boxA_of rfl fun S3 k3 n3 o3=>?_
  refine stA_of (cs':=c.cells) ((k3.2 _ (by omega)).trans o2) rfl rfl fun S4 n4 o4 f4=>?_
  refine stA_of (cs':=f.row) ((f4 _ (by omega)).trans o3) (Fo.row_len f) rfl fun S5 n5 o5 f5=>?_
  have k5:Keep S' S5:=((k2.trans k3).st (id:=S'.n) (Nat.le_refl _) n4 f4).st (id:=S2.n) (by omega) n5 f5
  have p5:=(f5 _ (by omega)).trans o4
  have gf:=hf.gd hc
  have gp:=gf.push false
  have hpb:pushB f = f.push false:=by rw [pushB,if_pos (mayB_mono f (by decide) gf.may)]
  have ct:=ans28 hc.ok hf.ok
  have ct2:=ans28 hc.ok gp.ok
  have cp:=ans21 hf.ok
  rw [gf.truth (by decide) hc] at ct
  rw [gp.truth (by decide) hc,semC_push gf] at ct2
  rw [hpb] at cp
  rw [ldN_p (n:=8) p5 rfl,ldN_p (n:=4) o5 (Fo.row_len f)]
  refine callF_ans ct ?_
  rw [extr0,extr1]
  show ∃ q:AV,_
  (repeat (first | with_reducible_and_instances (first | refine WJ ?_ | refine W (J_ldN (n:=8) p5 (by with_unfolding_all rfl)) ?_ | refine W (J_ldN (n:=4) o5 (Fo.row_len f)) ?_ | refine W (J_ext (by with_unfolding_all rfl)) ?_ | refine W (J_ldq (by with_unfolding_all rfl)) ?_) | refine J_cA (cp) rfl rfl ?_ | refine C_A (cp) rfl rfl ?_ | refine J_cA (ct2) rfl rfl ?_ | refine C_A (ct2) rfl rfl ?_))
  rw [gd_T (decide_eq_true rfl)]
  (repeat (first | with_reducible_and_instances (first | refine WJ ?_ | refine W (J_ldq (by with_unfolding_all rfl)) ?_)))
  rw [gd_T (decide_eq_true rfl)]
  have hlen:=gf.len hc
  refine callF_ans (ans29 (a:=semC c f) (b:=semC c f) (by omega)) ?_
  rw [decide_eq_true rfl]
  exact ⟨rfl,k5⟩
end Go.Proofs.YtolgpokppnajdaaGreat.G

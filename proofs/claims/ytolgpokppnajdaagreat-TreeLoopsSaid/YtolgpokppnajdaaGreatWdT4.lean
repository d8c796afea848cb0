/- Tree -/
import Derived.Test.YtolgpokppnajdaaGreatProg
import Derived.KernelRfl
import Derived.Test.YtolgpokppnajdaaGreatWdT3
set_option linter.unusedVariables false
set_option linter.unusedSimpArgs false
namespace Go.Proofs.YtolgpokppnajdaaGreat.G
open Go Go.Ab
set_option maxRecDepth 100000
noncomputable def c185:Code:=(Tryz.f185.body).getD .skip
def ms185:List (List Nat):=[[]]
def m185 (x0:AV) (S:Store) (Q:PoT):Prop :=
  bin .neq 0 x0 x0 S fun v1 S=>Q (.ret v1) S
theorem calls185 {x0:AV} {S:Store} {Q:PoT} (h:m185 x0 S Q):ACalls Tryz.prog 185 [x0] S Q :=
  calls_of_vc (fn:=Tryz.f185) (c:=c185) (n:=6) Tryz.func185 (by kernel_rfl) (by kernel_rfl) (by kernel_rfl) ms185 (Eq.mpr (by kernel_rfl) h)
noncomputable def c170:Code:=(Tryz.f170.body).getD .skip
def ms170:List (List Nat):=[[]]
def m170 (x0 x1:AV) (S:Store) (Q:PoT):Prop :=
  callF Tryz.prog 185 [x0] S Q fun v1 S=>callF Tryz.prog 185 [x1] S Q fun v2 S=>onB v1 fun b3=>gd b3 (onB v2 fun b4=>gd b4 (Q (.ret (.v (.int .i64 0))) S) (Q (.ret (.v (.int .i64 (-1)))) S)) (onB v2 fun b5=>gd b5 (Q (.ret (.v (.int .i64 1))) S) (bin .lss 0 x0 x1 S fun v6 S=>onB v6 fun b7=>gd b7 (Q (.ret (.v (.int .i64 (-1)))) S) (bin .gtr 0 x0 x1 S fun v8 S=>onB v8 fun b9=>gd b9 (Q (.ret (.v (.int .i64 1))) S) (Q (.ret (.v (.int .i64 0))) S))))
theorem calls170 {x0 x1:AV} {S:Store} {Q:PoT} (h:m170 x0 x1 S Q):ACalls Tryz.prog 170 [x0,x1] S Q :=
  calls_of_vc (fn:=Tryz.f170) (c:=c170) (n:=20) Tryz.func170 (by kernel_rfl) (by kernel_rfl) (by kernel_rfl) ms170 (Eq.mpr (by kernel_rfl) h)
noncomputable def c169:Code:=(Tryz.f169.body).getD .skip
noncomputable def r169:List ResultVar:=Tryz.f169.results.toList
def env169_0 (y3 y6 y7 y8:AV):List AV:=[y3,y6,y7,y8]
def lv169_0:List Nat:=[3,6,7,8]
def ms169:List (List Nat):=[lv169_0,[]]
def m169 (x0:AV) (S:Store) (Q:PoT):Prop :=
  lenS x0 S fun v1 S=>loopV lv169_0 (vc Tryz.prog (c169.at_ [1,1,0,1,0,0]) (ms169.drop 1)) 18 (env169_0 (.v (.int .i64 0)) x0 v1 (.v (.int .i64 0))) S (blockK 0 (seqK (vc Tryz.prog (c169.at_ [1,1,1]) (ms169.drop 1)) (bodyK Tryz.prog r169 Q)))
theorem calls169 {x0:AV} {S:Store} {Q:PoT} (h:m169 x0 S Q):ACalls Tryz.prog 169 [x0] S Q :=
  calls_of_vc (fn:=Tryz.f169) (c:=c169) (n:=18) Tryz.func169 (by kernel_rfl) (by kernel_rfl) (by kernel_rfl) ms169 (Eq.mpr (by kernel_rfl) h)
def b169_0 (y3 y6 y7 y8:AV) (S:Store) (KE0:KeT) (Q:PoT):Prop :=
  bin .lss 0 y8 y7 S fun v2 S=>onB v2 fun b3=>gd b3 (ixS 3 1 y6 y8 S fun v4 S=>ld1 v4 S fun v5 S=>bin .neq 0 v5 y3 S fun v6 S=>onB v6 fun b7=>gd b7 (Q (.ret v5) S) (bin .add 0 y8 (.v (.int .i64 1)) S fun v8 S=>KE0 18 (env169_0 y3 y6 y7 v8) S)) (Q (.ret y3) S)
theorem b169_0_eq (y3 y6 y7 y8:AV) (S:Store) (KE0:KeT) (Q:PoT):vc Tryz.prog (c169.at_ [1,1,0,1,0,0]) (ms169.drop 1) (mkE 18 lv169_0 (env169_0 y3 y6 y7 y8)) S (thenK (fgK lv169_0 KE0) (blockK 0 (seqK (vc Tryz.prog (c169.at_ [1,1,1]) (ms169.drop 1)) (bodyK Tryz.prog r169 Q)))) = b169_0 y3 y6 y7 y8 S KE0 Q:=by kernel_rfl
theorem loop169_0 {y3 y6 y7:AV} {y80:AV} {S:Store} {Q:PoT} (I:AV → Store → Prop) (μ:AV → Store → Nat) (h0:I y80 S)
    (hr:∀ (y8:AV) (S:Store),I y8 S → ∀ KE0:KeT,(∀ (y8':AV) (S':Store),I y8' S' → μ y8' S' < μ y8 S → KE0 18 (env169_0 y3 y6 y7 y8') S') → b169_0 y3 y6 y7 y8 S KE0 Q) :
    loopV lv169_0 (vc Tryz.prog (c169.at_ [1,1,0,1,0,0]) (ms169.drop 1)) 18 (env169_0 y3 y6 y7 y80) S (blockK 0 (seqK (vc Tryz.prog (c169.at_ [1,1,1]) (ms169.drop 1)) (bodyK Tryz.prog r169 Q))):=by
  refine ⟨fun n e S=>n = 18 ∧ ∃ y8:AV,e = (env169_0 y3 y6 y7 y8) ∧ I y8 S,fun _ e S=>μ (e.getD 3 .j) S,?_,?_⟩
  · exact ⟨_,_,Wk.refl _ _,rfl,_,rfl,h0⟩
  · rintro _ e S ⟨rfl,y8,rfl,hI⟩
    exact (b169_0_eq _ _ _ _ _ _ _).mpr (hr y8 S hI _ (fun y8' S' hI' hm=>⟨_,_,Wk.refl _ _,⟨rfl,_,rfl,hI'⟩,hm⟩))
noncomputable def c84:Code:=(Tryz.f84.body).getD .skip
def ms84:List (List Nat):=[[]]
def m84 (x0:AV) (S:Store) (Q:PoT):Prop :=
  boxN 42 8 x0 S fun v1 S=>boxN 82 2 (.a [(.v (.int .i64 0)),.nl]) S fun v2 S=>shift v1 0 S fun v3 S=>ld1 v3 S fun v4 S=>shift v1 1 S fun v5 S=>ld1 v5 S fun v6 S=>lenS v6 S fun v7 S=>bin .add 0 v4 v7 S fun v8 S=>shift v1 2 S fun v9 S=>ld1 v9 S fun v10 S=>bld [(0,1),(1,1)] [(.v (.int .i64 0)),.nl] [(0,v8),(1,v10)] S fun v11 S=>stN 2 v2 v11 S fun v12 S=>ldN 2 v2 S fun v13 _=>Q (.ret v13) S
theorem calls84 {x0:AV} {S:Store} {Q:PoT} (h:m84 x0 S Q):ACalls Tryz.prog 84 [x0] S Q :=
  calls_of_vc (fn:=Tryz.f84) (c:=c84) (n:=12) Tryz.func84 (by kernel_rfl) (by kernel_rfl) (by kernel_rfl) ms84 (Eq.mpr (by kernel_rfl) h)
noncomputable def c41:Code:=(Tryz.f41.body).getD .skip
def ms41:List (List Nat):=[[]]
def m41 (x0:AV) (S:Store) (Q:PoT):Prop :=
  boxN 42 8 x0 S fun v1 S=>boxN 82 2 (.a [(.v (.int .i64 0)),.nl]) S fun v2 S=>shift v1 0 S fun v3 S=>ld1 v3 S fun v4 S=>shift v1 1 S fun v5 S=>ld1 v5 S fun v6 S=>lenS v6 S fun v7 S=>bin .add 0 v4 v7 S fun v8 S=>shift v1 2 S fun v9 S=>ld1 v9 S fun v10 S=>bld [(0,1),(1,1)] [(.v (.int .i64 0)),.nl] [(0,v8),(1,v10)] S fun v11 S=>stN 2 v2 v11 S fun v12 S=>ldN 2 v2 S fun v13 _=>Q (.ret v13) S
theorem calls41 {x0:AV} {S:Store} {Q:PoT} (h:m41 x0 S Q):ACalls Tryz.prog 41 [x0] S Q :=
  calls_of_vc (fn:=Tryz.f41) (c:=c41) (n:=12) Tryz.func41 (by kernel_rfl) (by kernel_rfl) (by kernel_rfl) ms41 (Eq.mpr (by kernel_rfl) h)
noncomputable def c127:Code:=(Tryz.f127.body).getD .skip
def ms127:List (List Nat):=[[]]
def m127 (x0:AV) (S:Store) (Q:PoT):Prop :=
  boxN 42 8 x0 S fun v1 S=>mkM (.i .i32) S fun v2 S=>shift v1 0 S fun v3 S=>ld1 v3 S fun v4 S=>updM (.i .i32) v2 (.v (.int .i32 105)) v4 S fun v5 S=>shift v1 1 S fun v6 S=>ld1 v6 S fun v7 S=>lenS v7 S fun v8 S=>updM (.i .i32) v2 (.v (.int .i32 108)) v8 S fun v9 S=>shift v1 3 S fun v10 S=>ld1 v10 S fun v11 S=>lenS v11 S fun v12 S=>updM (.i .i32) v2 (.v (.int .i32 111)) v12 S fun v13 S=>shift v1 4 S fun v14 S=>ld1 v14 S fun v15 S=>lenS v15 S fun v16 S=>updM (.i .i32) v2 (.v (.int .i32 98)) v16 S fun v17 S=>shift v1 5 S fun v18 S=>ld1 v18 S fun v19 S=>lenS v19 S fun v20 S=>updM (.i .i32) v2 (.v (.int .i32 99)) v20 S fun v21 S=>shift v1 6 S fun v22 S=>ld1 v22 S fun v23 S=>lenS v23 S fun v24 S=>updM (.i .i32) v2 (.v (.int .i32 102)) v24 S fun v25 S=>Q (.ret v2) S
theorem calls127 {x0:AV} {S:Store} {Q:PoT} (h:m127 x0 S Q):ACalls Tryz.prog 127 [x0] S Q :=
  calls_of_vc (fn:=Tryz.f127) (c:=c127) (n:=22) Tryz.func127 (by kernel_rfl) (by kernel_rfl) (by kernel_rfl) ms127 (Eq.mpr (by kernel_rfl) h)
noncomputable def c150:Code:=(Tryz.f150.body).getD .skip
def ms150:List (List Nat):=[[]]
def m150 (x0 x1:AV) (S:Store) (Q:PoT):Prop :=
  boxN 42 8 x0 S fun v1 S=>callF Tryz.prog 151 [x1] S Q fun v2 S=>bin .lss 0 v2 (.v (.int .i64 0)) S fun v3 S=>onB v3 fun b4=>gd b4 (Q (.ret (.v (.int .i64 0))) S) (shift v1 0 S fun v5 S=>ld1 v5 S fun v6 S=>shift v1 1 S fun v7 S=>ld1 v7 S fun v8 S=>lenS v8 S fun v9 S=>shift v1 3 S fun v10 S=>ld1 v10 S fun v11 S=>lenS v11 S fun v12 S=>shift v1 4 S fun v13 S=>ld1 v13 S fun v14 S=>lenS v14 S fun v15 S=>shift v1 5 S fun v16 S=>ld1 v16 S fun v17 S=>lenS v17 S fun v18 S=>shift v1 6 S fun v19 S=>ld1 v19 S fun v20 S=>lenS v20 S fun v21 S=>bslN 3 1 6 [(.v (.int .i64 0))] [(0,v6),(1,v9),(2,v12),(3,v15),(4,v18),(5,v21)] S fun v22 S=>ixS 3 1 v22 v2 S fun v23 S=>ld1 v23 S fun v24 S=>Q (.ret v24) S)
theorem calls150 {x0 x1:AV} {S:Store} {Q:PoT} (h:m150 x0 x1 S Q):ACalls Tryz.prog 150 [x0,x1] S Q :=
  calls_of_vc (fn:=Tryz.f150) (c:=c150) (n:=31) Tryz.func150 (by kernel_rfl) (by kernel_rfl) (by kernel_rfl) ms150 (Eq.mpr (by kernel_rfl) h)
noncomputable def c149:Code:=(Tryz.f149.body).getD .skip
noncomputable def r149:List ResultVar:=Tryz.f149.results.toList
def env149_0 (y0 y3:AV):List AV:=[y0,y3]
def lv149_0:List Nat:=[0,3]
def ms149:List (List Nat):=[lv149_0,[]]
def m149 (x0:AV) (S:Store) (Q:PoT):Prop :=
  loopV lv149_0 (vc Tryz.prog (c149.at_ [1,0,1,0,0]) (ms149.drop 1)) 28 (env149_0 x0 (.v (.int .i64 0))) S (blockK 0 (seqK (vc Tryz.prog (c149.at_ [1,1]) (ms149.drop 1)) (bodyK Tryz.prog r149 Q)))
theorem calls149 {x0:AV} {S:Store} {Q:PoT} (h:m149 x0 S Q):ACalls Tryz.prog 149 [x0] S Q :=
  calls_of_vc (fn:=Tryz.f149) (c:=c149) (n:=28) Tryz.func149 (by kernel_rfl) (by kernel_rfl) (by kernel_rfl) ms149 (Eq.mpr (by kernel_rfl) h)
def b149_0 (y0 y3:AV) (S:Store) (KE0:KeT) (Q:PoT):Prop :=
  lenStr y0 S fun v1 S=>bin .lss 0 y3 v1 S fun v2 S=>onB v2 fun b3=>gd b3 (ixStr y0 y3 S fun v4 S=>bin .lss 0 v4 (.v (.int .u8 33)) S fun v5 S=>onB v5 fun b6=>gd b6 (Q (.ret (.v (.bool false))) S) (ixStr y0 y3 S fun v7 S=>bin .gtr 0 v7 (.v (.int .u8 126)) S fun v8 S=>onB v8 fun b9=>gd b9 (Q (.ret (.v (.bool false))) S) (bin .add 0 y3 (.v (.int .i64 1)) S fun v10 S=>KE0 28 (env149_0 y0 v10) S))) (lenStr y0 S fun v11 S=>bin .gtr 0 v11 (.v (.int .i64 0)) S fun v12 S=>onB v12 fun b13=>gd b13 (lenStr y0 S fun v14 S=>bin .leq 0 v14 (.v (.int .i64 20)) S fun v15 S=>Q (.ret v15) S) (Q (.ret (.v (.bool false))) S))
theorem b149_0_eq (y0 y3:AV) (S:Store) (KE0:KeT) (Q:PoT):vc Tryz.prog (c149.at_ [1,0,1,0,0]) (ms149.drop 1) (mkE 28 lv149_0 (env149_0 y0 y3)) S (thenK (fgK lv149_0 KE0) (blockK 0 (seqK (vc Tryz.prog (c149.at_ [1,1]) (ms149.drop 1)) (bodyK Tryz.prog r149 Q)))) = b149_0 y0 y3 S KE0 Q:=by kernel_rfl
theorem loop149_0 {y0:AV} {y30:AV} {S:Store} {Q:PoT} (I:AV → Store → Prop) (μ:AV → Store → Nat) (h0:I y30 S)
    (hr:∀ (y3:AV) (S:Store),I y3 S → ∀ KE0:KeT,(∀ (y3':AV) (S':Store),I y3' S' → μ y3' S' < μ y3 S → KE0 28 (env149_0 y0 y3') S') → b149_0 y0 y3 S KE0 Q) :
    loopV lv149_0 (vc Tryz.prog (c149.at_ [1,0,1,0,0]) (ms149.drop 1)) 28 (env149_0 y0 y30) S (blockK 0 (seqK (vc Tryz.prog (c149.at_ [1,1]) (ms149.drop 1)) (bodyK Tryz.prog r149 Q))):=by
  refine ⟨fun n e S=>n = 28 ∧ ∃ y3:AV,e = (env149_0 y0 y3) ∧ I y3 S,fun _ e S=>μ (e.getD 1 .j) S,?_,?_⟩
  · exact ⟨_,_,Wk.refl _ _,rfl,_,rfl,h0⟩
  · rintro _ e S ⟨rfl,y3,rfl,hI⟩
    exact (b149_0_eq _ _ _ _ _).mpr (hr y3 S hI _ (fun y3' S' hI' hm=>⟨_,_,Wk.refl _ _,⟨rfl,_,rfl,hI'⟩,hm⟩))
noncomputable def c167:Code:=(Tryz.f167.body).getD .skip
noncomputable def r167:List ResultVar:=Tryz.f167.results.toList
def env167_0 (y0 y5 y6:AV):List AV:=[y0,y5,y6]
def lv167_0:List Nat:=[0,5,6]
def ms167:List (List Nat):=[lv167_0,[]]
def m167 (x0:AV) (S:Store) (Q:PoT):Prop :=
  lenStr x0 S fun v1 S=>loopV lv167_0 (vc Tryz.prog (c167.at_ [1,0,1,0,0]) (ms167.drop 1)) 27 (env167_0 x0 v1 (.v (.int .i64 0))) S (blockK 0 (seqK (vc Tryz.prog (c167.at_ [1,1]) (ms167.drop 1)) (bodyK Tryz.prog r167 Q)))
theorem calls167 {x0:AV} {S:Store} {Q:PoT} (h:m167 x0 S Q):ACalls Tryz.prog 167 [x0] S Q :=
  calls_of_vc (fn:=Tryz.f167) (c:=c167) (n:=27) Tryz.func167 (by kernel_rfl) (by kernel_rfl) (by kernel_rfl) ms167 (Eq.mpr (by kernel_rfl) h)
def b167_0 (y0 y5 y6:AV) (S:Store) (KE0:KeT) (Q:PoT):Prop :=
  bin .lss 0 y6 y5 S fun v2 S=>onB v2 fun b3=>gd b3 (ixStr y0 y6 S fun v4 S=>bin .leq 0 v4 (.v (.int .u8 32)) S fun v5 S=>onB v5 fun b6=>gd b6 (Q (.ret (.v (.bool false))) S) (ixStr y0 y6 S fun v7 S=>bin .gtr 0 v7 (.v (.int .u8 126)) S fun v8 S=>onB v8 fun b9=>gd b9 (Q (.ret (.v (.bool false))) S) (bin .add 0 y6 (.v (.int .i64 1)) S fun v10 S=>KE0 27 (env167_0 y0 y5 v10) S))) (bin .neq 0 y0 (.v (.string { data:=#[] })) S fun v11 S=>onB v11 fun b12=>gd b12 (lenStr y0 S fun v13 S=>bin .leq 0 v13 (.v (.int .i64 20)) S fun v14 S=>Q (.ret v14) S) (Q (.ret (.v (.bool false))) S))
theorem b167_0_eq (y0 y5 y6:AV) (S:Store) (KE0:KeT) (Q:PoT):vc Tryz.prog (c167.at_ [1,0,1,0,0]) (ms167.drop 1) (mkE 27 lv167_0 (env167_0 y0 y5 y6)) S (thenK (fgK lv167_0 KE0) (blockK 0 (seqK (vc Tryz.prog (c167.at_ [1,1]) (ms167.drop 1)) (bodyK Tryz.prog r167 Q)))) = b167_0 y0 y5 y6 S KE0 Q:=by kernel_rfl
theorem loop167_0 {y0 y5:AV} {y60:AV} {S:Store} {Q:PoT} (I:AV → Store → Prop) (μ:AV → Store → Nat) (h0:I y60 S)
    (hr:∀ (y6:AV) (S:Store),I y6 S → ∀ KE0:KeT,(∀ (y6':AV) (S':Store),I y6' S' → μ y6' S' < μ y6 S → KE0 27 (env167_0 y0 y5 y6') S') → b167_0 y0 y5 y6 S KE0 Q) :
    loopV lv167_0 (vc Tryz.prog (c167.at_ [1,0,1,0,0]) (ms167.drop 1)) 27 (env167_0 y0 y5 y60) S (blockK 0 (seqK (vc Tryz.prog (c167.at_ [1,1]) (ms167.drop 1)) (bodyK Tryz.prog r167 Q))):=by
  refine ⟨fun n e S=>n = 27 ∧ ∃ y6:AV,e = (env167_0 y0 y5 y6) ∧ I y6 S,fun _ e S=>μ (e.getD 2 .j) S,?_,?_⟩
  · exact ⟨_,_,Wk.refl _ _,rfl,_,rfl,h0⟩
  · rintro _ e S ⟨rfl,y6,rfl,hI⟩
    exact (b167_0_eq _ _ _ _ _ _).mpr (hr y6 S hI _ (fun y6' S' hI' hm=>⟨_,_,Wk.refl _ _,⟨rfl,_,rfl,hI'⟩,hm⟩))
noncomputable def c151:Code:=(Tryz.f151.body).getD .skip
noncomputable def r151:List ResultVar:=Tryz.f151.results.toList
def env151_0 (y0 y3 y4:AV):List AV:=[y0,y3,y4]
def lv151_0:List Nat:=[0,3,4]
def ms151:List (List Nat):=[lv151_0,[]]
def m151 (x0:AV) (S:Store) (Q:PoT):Prop :=
  loopV lv151_0 (vc Tryz.prog (c151.at_ [1,1,0,1,0,0]) (ms151.drop 1)) 17 (env151_0 x0 (.v (.string { data:=#[105,108,111,98,99,102] })) (.v (.int .i64 0))) S (blockK 0 (seqK (vc Tryz.prog (c151.at_ [1,1,1]) (ms151.drop 1)) (bodyK Tryz.prog r151 Q)))
theorem calls151 {x0:AV} {S:Store} {Q:PoT} (h:m151 x0 S Q):ACalls Tryz.prog 151 [x0] S Q :=
  calls_of_vc (fn:=Tryz.f151) (c:=c151) (n:=17) Tryz.func151 (by kernel_rfl) (by kernel_rfl) (by kernel_rfl) ms151 (Eq.mpr (by kernel_rfl) h)
def b151_0 (y0 y3 y4:AV) (S:Store) (KE0:KeT) (Q:PoT):Prop :=
  lenStr y3 S fun v1 S=>bin .lss 0 y4 v1 S fun v2 S=>onB v2 fun b3=>gd b3 (ixStr y3 y4 S fun v4 S=>bin .eql 0 v4 y0 S fun v5 S=>onB v5 fun b6=>gd b6 (Q (.ret y4) S) (bin .add 0 y4 (.v (.int .i64 1)) S fun v7 S=>KE0 17 (env151_0 y0 y3 v7) S)) (Q (.ret (.v (.int .i64 (-1)))) S)
theorem b151_0_eq (y0 y3 y4:AV) (S:Store) (KE0:KeT) (Q:PoT):vc Tryz.prog (c151.at_ [1,1,0,1,0,0]) (ms151.drop 1) (mkE 17 lv151_0 (env151_0 y0 y3 y4)) S (thenK (fgK lv151_0 KE0) (blockK 0 (seqK (vc Tryz.prog (c151.at_ [1,1,1]) (ms151.drop 1)) (bodyK Tryz.prog r151 Q)))) = b151_0 y0 y3 y4 S KE0 Q:=by kernel_rfl
theorem loop151_0 {y0 y3:AV} {y40:AV} {S:Store} {Q:PoT} (I:AV → Store → Prop) (μ:AV → Store → Nat) (h0:I y40 S)
    (hr:∀ (y4:AV) (S:Store),I y4 S → ∀ KE0:KeT,(∀ (y4':AV) (S':Store),I y4' S' → μ y4' S' < μ y4 S → KE0 17 (env151_0 y0 y3 y4') S') → b151_0 y0 y3 y4 S KE0 Q) :
    loopV lv151_0 (vc Tryz.prog (c151.at_ [1,1,0,1,0,0]) (ms151.drop 1)) 17 (env151_0 y0 y3 y40) S (blockK 0 (seqK (vc Tryz.prog (c151.at_ [1,1,1]) (ms151.drop 1)) (bodyK Tryz.prog r151 Q))):=by
  refine ⟨fun n e S=>n = 17 ∧ ∃ y4:AV,e = (env151_0 y0 y3 y4) ∧ I y4 S,fun _ e S=>μ (e.getD 2 .j) S,?_,?_⟩
  · exact ⟨_,_,Wk.refl _ _,rfl,_,rfl,h0⟩
  · rintro _ e S ⟨rfl,y4,rfl,hI⟩
    exact (b151_0_eq _ _ _ _ _ _).mpr (hr y4 S hI _ (fun y4' S' hI' hm=>⟨_,_,Wk.refl _ _,⟨rfl,_,rfl,hI'⟩,hm⟩))
noncomputable def c168:Code:=(Tryz.f168.body).getD .skip
noncomputable def r168:List ResultVar:=Tryz.f168.results.toList
def env168_0 (y0 y5:AV):List AV:=[y0,y5]
def lv168_0:List Nat:=[0,5]
def ms168:List (List Nat):=[lv168_0,[]]
def m168 (x0:AV) (S:Store) (Q:PoT):Prop :=
  rngS (.v (.string { data:=#[105,108,111,98,99,102] })) S fun v1 S=>loopV lv168_0 (vc Tryz.prog (c168.at_ [1,0,1,0,0]) (ms168.drop 1)) 15 (env168_0 x0 v1) S (blockK 0 (seqK (vc Tryz.prog (c168.at_ [1,1]) (ms168.drop 1)) (bodyK Tryz.prog r168 Q)))
theorem calls168 {x0:AV} {S:Store} {Q:PoT} (h:m168 x0 S Q):ACalls Tryz.prog 168 [x0] S Q :=
  calls_of_vc (fn:=Tryz.f168) (c:=c168) (n:=15) Tryz.func168 (by kernel_rfl) (by kernel_rfl) (by kernel_rfl) ms168 (Eq.mpr (by kernel_rfl) h)
def b168_0 (y0 y5:AV) (S:Store) (KE0:KeT) (Q:PoT):Prop :=
  nextM true y5 S fun v2 S=>extr v2 0 S fun v3 S=>onB v3 fun b4=>gd b4 (extr v2 1 S fun v5 S=>extr v2 2 S fun v6 S=>convI .i32 y0 S fun v7 S=>bin .eql 0 v7 v6 S fun v8 S=>onB v8 fun b9=>gd b9 (Q (.ret v5) S) (KE0 15 (env168_0 y0 y5) S)) (Q (.ret (.v (.int .i64 (-1)))) S)
theorem b168_0_eq (y0 y5:AV) (S:Store) (KE0:KeT) (Q:PoT):vc Tryz.prog (c168.at_ [1,0,1,0,0]) (ms168.drop 1) (mkE 15 lv168_0 (env168_0 y0 y5)) S (thenK (fgK lv168_0 KE0) (blockK 0 (seqK (vc Tryz.prog (c168.at_ [1,1]) (ms168.drop 1)) (bodyK Tryz.prog r168 Q)))) = b168_0 y0 y5 S KE0 Q:=by kernel_rfl
theorem loop168_0 {y0 y5:AV} {S:Store} {Q:PoT} (I:Store → Prop) (μ:Store → Nat) (h0:I  S)
    (hr:∀ (S:Store),I  S → ∀ KE0:KeT,(∀ (S':Store),I  S' → μ  S' < μ  S → KE0 15 (env168_0 y0 y5) S') → b168_0 y0 y5 S KE0 Q) :
    loopV lv168_0 (vc Tryz.prog (c168.at_ [1,0,1,0,0]) (ms168.drop 1)) 15 (env168_0 y0 y5) S (blockK 0 (seqK (vc Tryz.prog (c168.at_ [1,1]) (ms168.drop 1)) (bodyK Tryz.prog r168 Q))):=by
  refine ⟨fun n e S=>n = 15 ∧ e = (env168_0 y0 y5) ∧ I  S,fun _ e S=>μ  S,?_,?_⟩
  · exact ⟨_,_,Wk.refl _ _,rfl,rfl,h0⟩
  · rintro _ e S ⟨rfl,rfl,hI⟩
    exact (b168_0_eq _ _ _ _ _).mpr (hr  S hI _ (fun  S' hI' hm=>⟨_,_,Wk.refl _ _,⟨rfl,rfl,hI'⟩,hm⟩))
noncomputable def c40:Code:=(Tryz.f40.body).getD .skip
def ms40:List (List Nat):=[[]]
def m40 (x0:AV) (S:Store) (Q:PoT):Prop :=
  boxN 82 2 x0 S fun v1 S=>shift v1 0 S fun v2 S=>ld1 v2 S fun v3 S=>bin .add 0 v3 (.v (.int .i64 1)) S fun v4 S=>shift v1 1 S fun v5 S=>ld1 v5 S fun v6 S=>lenS v6 S fun v7 S=>bin .add 0 v4 v7 S fun v8 S=>Q (.ret v8) S
theorem calls40 {x0:AV} {S:Store} {Q:PoT} (h:m40 x0 S Q):ACalls Tryz.prog 40 [x0] S Q :=
  calls_of_vc (fn:=Tryz.f40) (c:=c40) (n:=10) Tryz.func40 (by kernel_rfl) (by kernel_rfl) (by kernel_rfl) ms40 (Eq.mpr (by kernel_rfl) h)
noncomputable def c112:Code:=(Tryz.f112.body).getD .skip
def ms112:List (List Nat):=[[]]
def m112 (x0 x1:AV) (S:Store) (Q:PoT):Prop :=
  boxN 82 2 x0 S fun v1 S=>shift v1 0 S fun v2 S=>ld1 v2 S fun v3 S=>bin .geq 0 v3 (.v (.int .i64 0)) S fun v4 S=>onB v4 fun b5=>gd b5 (shift v1 0 S fun v6 S=>ld1 v6 S fun v7 S=>bin .leq 0 v7 (.v (.int .i64 2000)) S fun v8 S=>onB v8 fun b9=>gd b9 (bin .geq 0 x1 (.v (.int .i64 0)) S fun v10 S=>onB v10 fun b11=>gd b11 (bin .quo 0 x1 (.v (.int .i64 2)) S fun v12 S=>ldN 2 v1 S fun v13 S=>callF Tryz.prog 40 [v13] S Q fun v14 S=>bin .lss 0 v12 v14 S fun v15 S=>Q (.ret v15) S) (Q (.ret (.v (.bool false))) S)) (Q (.ret (.v (.bool false))) S)) (Q (.ret (.v (.bool false))) S)
theorem calls112 {x0 x1:AV} {S:Store} {Q:PoT} (h:m112 x0 x1 S Q):ACalls Tryz.prog 112 [x0,x1] S Q :=
  calls_of_vc (fn:=Tryz.f112) (c:=c112) (n:=24) Tryz.func112 (by kernel_rfl) (by kernel_rfl) (by kernel_rfl) ms112 (Eq.mpr (by kernel_rfl) h)
noncomputable def c111:Code:=(Tryz.f111.body).getD .skip
noncomputable def r111:List ResultVar:=Tryz.f111.results.toList
def env111_0 (y1 y3:AV):List AV:=[y1,y3]
def lv111_0:List Nat:=[1,3]
def env111_1 (y1 y3 y6:AV):List AV:=[y1,y3,y6]
def lv111_1:List Nat:=[1,3,6]
def ms111:List (List Nat):=[lv111_0,lv111_1,[]]
def m111 (x0:AV) (S:Store) (Q:PoT):Prop :=
  boxN 82 2 x0 S fun v1 S=>shift v1 0 S fun v2 S=>ld1 v2 S fun v3 S=>bin .lss 0 v3 (.v (.int .i64 0)) S fun v4 S=>onB v4 fun b5=>gd b5 (Q (.ret (.v (.bool false))) S) (shift v1 0 S fun v6 S=>ld1 v6 S fun v7 S=>bin .gtr 0 v7 (.v (.int .i64 2000)) S fun v8 S=>onB v8 fun b9=>gd b9 (Q (.ret (.v (.bool false))) S) (shift v1 1 S fun v10 S=>ld1 v10 S fun v11 S=>lenS v11 S fun v12 S=>bin .gtr 0 v12 (.v (.int .i64 2000)) S fun v13 S=>onB v13 fun b14=>gd b14 (Q (.ret (.v (.bool false))) S) (ldN 2 v1 S fun v15 S=>callF Tryz.prog 40 [v15] S Q fun v16 S=>bin .gtr 0 v16 (.v (.int .i64 2000)) S fun v17 S=>onB v17 fun b18=>gd b18 (Q (.ret (.v (.bool false))) S) (loopV lv111_0 (vc Tryz.prog (c111.at_ [1,1,0,1,0,0]) (ms111.drop 1)) 80 (env111_0 v1 (.v (.int .i64 0))) S (blockK 0 (seqK (vc Tryz.prog (c111.at_ [1,1,1]) (ms111.drop 2)) (bodyK Tryz.prog r111 Q)))))))
theorem calls111 {x0:AV} {S:Store} {Q:PoT} (h:m111 x0 S Q):ACalls Tryz.prog 111 [x0] S Q :=
  calls_of_vc (fn:=Tryz.f111) (c:=c111) (n:=80) Tryz.func111 (by kernel_rfl) (by kernel_rfl) (by kernel_rfl) ms111 (Eq.mpr (by kernel_rfl) h)
def b111_0 (y1 y3:AV) (S:Store) (KE0:KeT) (Q:PoT):Prop :=
  shift y1 1 S fun v19 S=>ld1 v19 S fun v20 S=>lenS v20 S fun v21 S=>bin .lss 0 y3 v21 S fun v22 S=>onB v22 fun b23=>gd b23 ((fun S0:Store=>∃ q24:AV,(shift y1 1 S fun v25 S=>v25 = q24 ∧ S = S0) ∧ ∃ q26:AV,(ld1 q24 S fun v27 S=>v27 = q26 ∧ S = S0) ∧ ∃ q28:AV,(ixS 124 2 q26 y3 S fun v29 S=>v29 = q28 ∧ S = S0) ∧ ∃ q30:AV,(ixA 2 1 q28 (.v (.int .i64 0)) S fun v31 S=>v31 = q30 ∧ S = S0) ∧ ∃ q32:AV,(ld1 q30 S fun v33 S=>v33 = q32 ∧ S = S0) ∧ ∃ q34:AV,(shift y1 1 S fun v35 S=>v35 = q34 ∧ S = S0) ∧ ∃ q36:AV,(ld1 q34 S fun v37 S=>v37 = q36 ∧ S = S0) ∧ ∃ q38:AV,(ixS 124 2 q36 y3 S fun v39 S=>v39 = q38 ∧ S = S0) ∧ ∃ q40:AV,(ixA 2 1 q38 (.v (.int .i64 1)) S fun v41 S=>v41 = q40 ∧ S = S0) ∧ ∃ q42:AV,(ld1 q40 S fun v43 S=>v43 = q42 ∧ S = S0) ∧ bin .lss 0 q42 (.v (.int .i64 2)) S fun v44 S=>onB v44 fun b45=>gd b45 (Q (.ret (.v (.bool false))) S) (bin .quo 0 q32 (.v (.int .i64 2)) S fun v46 S=>bin .quo 0 q42 (.v (.int .i64 2)) S fun v47 S=>bin .leq 0 v46 v47 S fun v48 S=>onB v48 fun b49=>gd b49 (Q (.ret (.v (.bool false))) S) (bin .quo 0 q32 (.v (.int .i64 2)) S fun v50 S=>shift y1 0 S fun v51 S=>ld1 v51 S fun v52 S=>bin .add 0 v52 (.v (.int .i64 1)) S fun v53 S=>bin .add 0 v53 y3 S fun v54 S=>bin .geq 0 v50 v54 S fun v55 S=>onB v55 fun b56=>gd b56 (Q (.ret (.v (.bool false))) S) (loopV lv111_1 (vc Tryz.prog (c111.at_ [1,1,0,1,0,0,1,0,0,1,1,1,0,0]) (ms111.drop 2)) 80 (env111_1 y1 y3 (.v (.int .i64 0))) S (blockK 2 (blockK 1 (seqK (vc Tryz.prog (c111.at_ [1,1,0,1,0,0,1,1]) (ms111.drop 2)) (thenK (fgK lv111_0 KE0) (blockK 0 (seqK (vc Tryz.prog (c111.at_ [1,1,1]) (ms111.drop 2)) (bodyK Tryz.prog r111 Q))))))))))) S) (Q (.ret (.v (.bool true))) S)
theorem b111_0_eq (y1 y3:AV) (S:Store) (KE0:KeT) (Q:PoT):vc Tryz.prog (c111.at_ [1,1,0,1,0,0]) (ms111.drop 1) (mkE 80 lv111_0 (env111_0 y1 y3)) S (thenK (fgK lv111_0 KE0) (blockK 0 (seqK (vc Tryz.prog (c111.at_ [1,1,1]) (ms111.drop 2)) (bodyK Tryz.prog r111 Q)))) = b111_0 y1 y3 S KE0 Q:=by kernel_rfl
theorem loop111_0 {y1:AV} {y30:AV} {S:Store} {Q:PoT} (I:AV → Store → Prop) (μ:AV → Store → Nat) (h0:I y30 S)
    (hr:∀ (y3:AV) (S:Store),I y3 S → ∀ KE0:KeT,(∀ (y3':AV) (S':Store),I y3' S' → μ y3' S' < μ y3 S → KE0 80 (env111_0 y1 y3') S') → b111_0 y1 y3 S KE0 Q) :
    loopV lv111_0 (vc Tryz.prog (c111.at_ [1,1,0,1,0,0]) (ms111.drop 1)) 80 (env111_0 y1 y30) S (blockK 0 (seqK (vc Tryz.prog (c111.at_ [1,1,1]) (ms111.drop 2)) (bodyK Tryz.prog r111 Q))):=by
  refine ⟨fun n e S=>n = 80 ∧ ∃ y3:AV,e = (env111_0 y1 y3) ∧ I y3 S,fun _ e S=>μ (e.getD 1 .j) S,?_,?_⟩
  · exact ⟨_,_,Wk.refl _ _,rfl,_,rfl,h0⟩
  · rintro _ e S ⟨rfl,y3,rfl,hI⟩
    exact (b111_0_eq _ _ _ _ _).mpr (hr y3 S hI _ (fun y3' S' hI' hm=>⟨_,_,Wk.refl _ _,⟨rfl,_,rfl,hI'⟩,hm⟩))
def b111_1 (y1 y3 y6:AV) (S:Store) (KE1:KeT) (KE0:KeT) (Q:PoT):Prop :=
  bin .lss 0 y6 y3 S fun v57 S=>onB v57 fun b58=>gd b58 ((fun S0:Store=>∃ q59:AV,(shift y1 1 S fun v60 S=>v60 = q59 ∧ S = S0) ∧ ∃ q61:AV,(ld1 q59 S fun v62 S=>v62 = q61 ∧ S = S0) ∧ ∃ q63:AV,(ixS 124 2 q61 y6 S fun v64 S=>v64 = q63 ∧ S = S0) ∧ ∃ q65:AV,(ldN 2 q63 S fun v66 S=>v66 = q65 ∧ S = S0) ∧ ∃ q67:AV,(shift y1 1 S fun v68 S=>v68 = q67 ∧ S = S0) ∧ ∃ q69:AV,(ld1 q67 S fun v70 S=>v70 = q69 ∧ S = S0) ∧ ∃ q71:AV,(ixS 124 2 q69 y3 S fun v72 S=>v72 = q71 ∧ S = S0) ∧ ∃ q73:AV,(ldN 2 q71 S fun v74 S=>v74 = q73 ∧ S = S0) ∧ ∃ q75:AV,(binP .i64 .eql q65 q73 S fun v76 S=>v76 = q75 ∧ S = S0) ∧ onB q75 fun b77=>gd b77 (Q (.ret (.v (.bool false))) S) (bin .add 0 y6 (.v (.int .i64 1)) S fun v78 S=>KE1 80 (env111_1 y1 y3 v78) S)) S) (bin .add 0 y3 (.v (.int .i64 1)) S fun v79 S=>KE0 80 (env111_0 y1 v79) S)
theorem b111_1_eq (y1 y3 y6:AV) (S:Store) (KE1:KeT) (KE0:KeT) (Q:PoT):vc Tryz.prog (c111.at_ [1,1,0,1,0,0,1,0,0,1,1,1,0,0]) (ms111.drop 2) (mkE 80 lv111_1 (env111_1 y1 y3 y6)) S (thenK (fgK lv111_1 KE1) (blockK 2 (blockK 1 (seqK (vc Tryz.prog (c111.at_ [1,1,0,1,0,0,1,1]) (ms111.drop 2)) (thenK (fgK lv111_0 KE0) (blockK 0 (seqK (vc Tryz.prog (c111.at_ [1,1,1]) (ms111.drop 2)) (bodyK Tryz.prog r111 Q)))))))) = b111_1 y1 y3 y6 S KE1 KE0 Q:=by kernel_rfl
theorem loop111_1 {y1 y3:AV} {y60:AV} {S:Store} {KE0:KeT} {Q:PoT} (I:AV → Store → Prop) (μ:AV → Store → Nat) (h0:I y60 S)
    (hr:∀ (y6:AV) (S:Store),I y6 S → ∀ KE1:KeT,(∀ (y6':AV) (S':Store),I y6' S' → μ y6' S' < μ y6 S → KE1 80 (env111_1 y1 y3 y6') S') → b111_1 y1 y3 y6 S KE1 KE0 Q) :
    loopV lv111_1 (vc Tryz.prog (c111.at_ [1,1,0,1,0,0,1,0,0,1,1,1,0,0]) (ms111.drop 2)) 80 (env111_1 y1 y3 y60) S (blockK 2 (blockK 1 (seqK (vc Tryz.prog (c111.at_ [1,1,0,1,0,0,1,1]) (ms111.drop 2)) (thenK (fgK lv111_0 KE0) (blockK 0 (seqK (vc Tryz.prog (c111.at_ [1,1,1]) (ms111.drop 2)) (bodyK Tryz.prog r111 Q))))))):=by
  refine ⟨fun n e S=>n = 80 ∧ ∃ y6:AV,e = (env111_1 y1 y3 y6) ∧ I y6 S,fun _ e S=>μ (e.getD 2 .j) S,?_,?_⟩
  · exact ⟨_,_,Wk.refl _ _,rfl,_,rfl,h0⟩
  · rintro _ e S ⟨rfl,y6,rfl,hI⟩
    exact (b111_1_eq _ _ _ _ _ _ _).mpr (hr y6 S hI _ (fun y6' S' hI' hm=>⟨_,_,Wk.refl _ _,⟨rfl,_,rfl,hI'⟩,hm⟩))
noncomputable def c120:Code:=(Tryz.f120.body).getD .skip
noncomputable def r120:List ResultVar:=Tryz.f120.results.toList
def env120_0 (y1 y2 y3 y6 y9:AV):List AV:=[y1,y2,y3,y6,y9]
def lv120_0:List Nat:=[1,2,3,6,9]
def ms120:List (List Nat):=[lv120_0,[]]
def m120 (x0 x1 x2:AV) (S:Store) (Q:PoT):Prop :=
  boxN 82 2 x0 S fun v1 S=>boxN 82 2 (.a [(.v (.int .i64 0)),.nl]) S fun v2 S=>ldN 2 v1 S fun v3 S=>callF Tryz.prog 111 [v3] S Q fun v4 S=>un .not v4 S fun v5 S=>onB v5 fun b6=>gd b6 (bld [(0,1),(1,1)] [(.v (.int .i64 0)),.nl] [] S fun v7 S=>stN 2 v2 v7 S fun v8 S=>ldN 2 v2 S fun v9 _=>Q (.ret (.t [v9,(.v (.int .i64 0)),(.v (.int .i64 1))])) S) (ldN 2 v1 S fun v10 S=>callF Tryz.prog 112 [v10,x1] S Q fun v11 S=>un .not v11 S fun v12 S=>onB v12 fun b13=>gd b13 (bld [(0,1),(1,1)] [(.v (.int .i64 0)),.nl] [] S fun v14 S=>stN 2 v2 v14 S fun v15 S=>ldN 2 v2 S fun v16 _=>Q (.ret (.t [v16,(.v (.int .i64 0)),(.v (.int .i64 1))])) S) (ldN 2 v1 S fun v17 S=>callF Tryz.prog 112 [v17,x2] S Q fun v18 S=>un .not v18 S fun v19 S=>onB v19 fun b20=>gd b20 (bld [(0,1),(1,1)] [(.v (.int .i64 0)),.nl] [] S fun v21 S=>stN 2 v2 v21 S fun v22 S=>ldN 2 v2 S fun v23 _=>Q (.ret (.t [v23,(.v (.int .i64 0)),(.v (.int .i64 1))])) S) (mxI true x1 x2 S fun v24 S=>mxI false x1 x2 S fun v25 S=>bin .eql 0 v25 (.v (.int .i64 0)) S fun v26 S=>onB v26 fun b27=>gd b27 (ldN 2 v1 S fun v28 S=>stN 2 v2 v28 S fun v29 S=>ldN 2 v2 S fun v30 _=>Q (.ret (.t [v30,(.v (.int .i64 0)),(.v (.int .i64 0))])) S) (bin .quo 0 v24 (.v (.int .i64 2)) S fun v31 S=>bin .quo 0 v25 (.v (.int .i64 2)) S fun v32 S=>bin .eql 0 v31 v32 S fun v33 S=>onB v33 fun b34=>gd b34 (bin .neq 0 v24 v25 S fun v35 S=>onB v35 fun b36=>gd b36 (ldN 2 v1 S fun v37 S=>stN 2 v2 v37 S fun v38 S=>ldN 2 v2 S fun v39 _=>Q (.ret (.t [v39,(.v (.int .i64 0)),(.v (.int .i64 0))])) S) (bin .eql 0 v25 (.v (.int .i64 1)) S fun v40 S=>onB v40 fun b41=>gd b41 (ldN 2 v1 S fun v42 S=>stN 2 v2 v42 S fun v43 S=>ldN 2 v2 S fun v44 _=>Q (.ret (.t [v44,v24,(.v (.int .i64 0))])) S) (bin .eql 0 v24 v25 S fun v45 S=>onB v45 fun b46=>gd b46 (ldN 2 v1 S fun v47 S=>stN 2 v2 v47 S fun v48 S=>ldN 2 v2 S fun v49 _=>Q (.ret (.t [v49,v24,(.v (.int .i64 0))])) S) (loopV lv120_0 (vc Tryz.prog (c120.at_ [1,1,1,1,0,1,0,0]) (ms120.drop 1)) 105 (env120_0 v24 v25 v1 v2 (.v (.int .i64 0))) S (blockK 1 (seqK (vc Tryz.prog (c120.at_ [1,1,1,1,1]) (ms120.drop 1)) (bodyK Tryz.prog r120 Q))))))) (bin .eql 0 v25 (.v (.int .i64 1)) S fun v50 S=>onB v50 fun b51=>gd b51 (ldN 2 v1 S fun v52 S=>stN 2 v2 v52 S fun v53 S=>ldN 2 v2 S fun v54 _=>Q (.ret (.t [v54,v24,(.v (.int .i64 0))])) S) (bin .eql 0 v24 v25 S fun v55 S=>onB v55 fun b56=>gd b56 (ldN 2 v1 S fun v57 S=>stN 2 v2 v57 S fun v58 S=>ldN 2 v2 S fun v59 _=>Q (.ret (.t [v59,v24,(.v (.int .i64 0))])) S) (loopV lv120_0 (vc Tryz.prog (c120.at_ [1,1,1,1,0,1,0,0]) (ms120.drop 1)) 105 (env120_0 v24 v25 v1 v2 (.v (.int .i64 0))) S (blockK 1 (seqK (vc Tryz.prog (c120.at_ [1,1,1,1,1]) (ms120.drop 1)) (bodyK Tryz.prog r120 Q))))))))))
theorem calls120 {x0 x1 x2:AV} {S:Store} {Q:PoT} (h:m120 x0 x1 x2 S Q):ACalls Tryz.prog 120 [x0,x1,x2] S Q :=
  calls_of_vc (fn:=Tryz.f120) (c:=c120) (n:=105) Tryz.func120 (by kernel_rfl) (by kernel_rfl) (by kernel_rfl) ms120 (Eq.mpr (by kernel_rfl) h)
def b120_0 (y1 y2 y3 y6 y9:AV) (S:Store) (KE0:KeT) (Q:PoT):Prop :=
  shift y3 1 S fun v60 S=>ld1 v60 S fun v61 S=>lenS v61 S fun v62 S=>bin .lss 0 y9 v62 S fun v63 S=>onB v63 fun b64=>gd b64 (shift y3 1 S fun v65 S=>ld1 v65 S fun v66 S=>ixS 124 2 v66 y9 S fun v67 S=>ldN 2 v67 S fun v68 S=>bld [(0,1),(1,1)] [(.v (.int .i64 0)),(.v (.int .i64 0))] [(0,y1),(1,y2)] S fun v69 S=>binP .i64 .eql v68 v69 S fun v70 S=>onB v70 fun b71=>gd b71 (∃ q72:AV,(∀ T:Store,Keep S T → ldN 2 y3 T fun v73 S=>v73 = q72 ∧ S = T) ∧ ∃ q74:AV,(∀ T:Store,Keep S T → shift y3 0 T fun v75 S=>v75 = q74 ∧ S = T) ∧ ∃ q76:AV,(∀ T:Store,Keep S T → ld1 q74 T fun v77 S=>v77 = q76 ∧ S = T) ∧ ∃ q78:AV,(∀ T:Store,Keep S T → bin .add 0 q76 (.v (.int .i64 1)) T fun v79 S=>v79 = q78 ∧ S = T) ∧ ∃ q80:AV,(∀ T:Store,Keep S T → bin .add 0 q78 y9 T fun v81 S=>v81 = q80 ∧ S = T) ∧ ∃ q82:AV,(∀ T:Store,Keep S T → bin .mul 0 (.v (.int .i64 2)) q80 T fun v83 S=>v83 = q82 ∧ S = T) ∧ stN 2 y6 q72 S fun v84 S=>(∀ T:Store,Keep S T → bin .mul 0 (.v (.int .i64 2)) q80 T fun v85 S=>v85 = q82 ∧ S = T) ∧ (∀ T:Store,Keep S T → bin .add 0 q78 y9 T fun v86 S=>v86 = q80 ∧ S = T) ∧ (∀ T:Store,Keep S T → bin .add 0 q76 (.v (.int .i64 1)) T fun v87 S=>v87 = q78 ∧ S = T) ∧ (∀ T:Store,Keep S T → ld1 q74 T fun v88 S=>v88 = q76 ∧ S = T) ∧ (∀ T:Store,Keep S T → shift y3 0 T fun v89 S=>v89 = q74 ∧ S = T) ∧ ldN 2 y6 S fun v90 _=>Q (.ret (.t [v90,q82,(.v (.int .i64 0))])) S) (bin .add 0 y9 (.v (.int .i64 1)) S fun v91 S=>KE0 105 (env120_0 y1 y2 y3 y6 v91) S)) (ldN 2 y3 S fun v92 S=>callF Tryz.prog 40 [v92] S Q fun v93 S=>bin .geq 0 v93 (.v (.int .i64 2000)) S fun v94 S=>onB v94 fun b95=>gd b95 (bld [(0,1),(1,1)] [(.v (.int .i64 0)),.nl] [] S fun v96 S=>stN 2 y6 v96 S fun v97 S=>ldN 2 y6 S fun v98 _=>Q (.ret (.t [v98,(.v (.int .i64 0)),(.v (.int .i64 2))])) S) (boxN 82 2 (.a [(.v (.int .i64 0)),.nl]) S fun v99 S=>shift y3 0 S fun v100 S=>ld1 v100 S fun v101 S=>shift v99 0 S fun v102 S=>stN 1 v102 v101 S fun v103 S=>shift v99 1 S fun v104 S=>ld1 v104 S fun v105 S=>shift y3 1 S fun v106 S=>ld1 v106 S fun v107 S=>appS 124 2 16 v105 v107 S fun v108 S=>bld [(0,1),(1,1)] [(.v (.int .i64 0)),(.v (.int .i64 0))] [(0,y1),(1,y2)] S fun v109 S=>bslN 124 2 1 [(.v (.int .i64 0)),(.v (.int .i64 0))] [(0,v109)] S fun v110 S=>appS 124 2 16 v108 v110 S fun v111 S=>shift v99 1 S fun v112 S=>stN 1 v112 v111 S fun v113 S=>∃ q114:AV,(∀ T:Store,Keep S T → ldN 2 v99 T fun v115 S=>v115 = q114 ∧ S = T) ∧ ∃ q116:AV,(∀ T:Store,Keep S T → ldN 2 v99 T fun v117 S=>v117 = q116 ∧ S = T) ∧ ∃ q118:AV,(∀ T:Store,Keep S T → callF Tryz.prog 40 [q116] T (fun _ _=>False) fun v119 S=>v119 = q118 ∧ S = T) ∧ ∃ q120:AV,(∀ T:Store,Keep S T → bin .mul 0 (.v (.int .i64 2)) q118 T fun v121 S=>v121 = q120 ∧ S = T) ∧ ∃ q122:AV,(∀ T:Store,Keep S T → bin .sub 0 q120 (.v (.int .i64 2)) T fun v123 S=>v123 = q122 ∧ S = T) ∧ stN 2 y6 q114 S fun v124 S=>(∀ T:Store,Keep S T → bin .sub 0 q120 (.v (.int .i64 2)) T fun v125 S=>v125 = q122 ∧ S = T) ∧ (∀ T:Store,Keep S T → bin .mul 0 (.v (.int .i64 2)) q118 T fun v126 S=>v126 = q120 ∧ S = T) ∧ ldN 2 y6 S fun v127 _=>Q (.ret (.t [v127,q122,(.v (.int .i64 0))])) S))
theorem b120_0_eq (y1 y2 y3 y6 y9:AV) (S:Store) (KE0:KeT) (Q:PoT):vc Tryz.prog (c120.at_ [1,1,1,1,0,1,0,0]) (ms120.drop 1) (mkE 105 lv120_0 (env120_0 y1 y2 y3 y6 y9)) S (thenK (fgK lv120_0 KE0) (blockK 1 (seqK (vc Tryz.prog (c120.at_ [1,1,1,1,1]) (ms120.drop 1)) (bodyK Tryz.prog r120 Q)))) = b120_0 y1 y2 y3 y6 y9 S KE0 Q:=by kernel_rfl
theorem loop120_0 {y1 y2 y3 y6:AV} {y90:AV} {S:Store} {Q:PoT} (I:AV → Store → Prop) (μ:AV → Store → Nat) (h0:I y90 S)
    (hr:∀ (y9:AV) (S:Store),I y9 S → ∀ KE0:KeT,(∀ (y9':AV) (S':Store),I y9' S' → μ y9' S' < μ y9 S → KE0 105 (env120_0 y1 y2 y3 y6 y9') S') → b120_0 y1 y2 y3 y6 y9 S KE0 Q) :
    loopV lv120_0 (vc Tryz.prog (c120.at_ [1,1,1,1,0,1,0,0]) (ms120.drop 1)) 105 (env120_0 y1 y2 y3 y6 y90) S (blockK 1 (seqK (vc Tryz.prog (c120.at_ [1,1,1,1,1]) (ms120.drop 1)) (bodyK Tryz.prog r120 Q))):=by
  refine ⟨fun n e S=>n = 105 ∧ ∃ y9:AV,e = (env120_0 y1 y2 y3 y6 y9) ∧ I y9 S,fun _ e S=>μ (e.getD 4 .j) S,?_,?_⟩
  · exact ⟨_,_,Wk.refl _ _,rfl,_,rfl,h0⟩
  · rintro _ e S ⟨rfl,y9,rfl,hI⟩
    exact (b120_0_eq _ _ _ _ _ _ _ _).mpr (hr y9 S hI _ (fun y9' S' hI' hm=>⟨_,_,Wk.refl _ _,⟨rfl,_,rfl,hI'⟩,hm⟩))
noncomputable def c204:Code:=(Tryz.f204.body).getD .skip
noncomputable def r204:List ResultVar:=Tryz.f204.results.toList
def env204_0 (y0 y13 y14 y15:AV):List AV:=[y0,y13,y14,y15]
def lv204_0:List Nat:=[0,13,14,15]
def ms204:List (List Nat):=[lv204_0,[]]
def m204 (x0:AV) (S:Store) (Q:PoT):Prop :=
  mkM (.p .i64) S fun v1 S=>nilChk x0 S fun v2 S=>shift v2 4 S fun v3 S=>stN 1 v3 v1 S fun v4 S=>nilChk x0 S fun v5 S=>shift v5 3 S fun v6 S=>ld1 v6 S fun v7 S=>lenS v7 S fun v8 S=>loopV lv204_0 (vc Tryz.prog (c204.at_ [1,1,0,0]) (ms204.drop 1)) 38 (env204_0 x0 v7 v8 (.v (.int .i64 0))) S (blockK 0 (bodyK Tryz.prog r204 Q))
theorem calls204 {x0:AV} {S:Store} {Q:PoT} (h:m204 x0 S Q):ACalls Tryz.prog 204 [x0] S Q :=
  calls_of_vc (fn:=Tryz.f204) (c:=c204) (n:=38) Tryz.func204 (by kernel_rfl) (by kernel_rfl) (by kernel_rfl) ms204 (Eq.mpr (by kernel_rfl) h)
def b204_0 (y0 y13 y14 y15:AV) (S:Store) (KE0:KeT) (Q:PoT):Prop :=
  bin .lss 0 y15 y14 S fun v9 S=>onB v9 fun b10=>gd b10 (ixS 124 2 y13 y15 S fun v11 S=>ldN 2 v11 S fun v12 S=>boxN 124 2 (.a [(.v (.int .i64 0)),(.v (.int .i64 0))]) S fun v13 S=>stN 2 v13 v12 S fun v14 S=>(fun S0:Store=>∃ q15:AV,(nilChk y0 S fun v16 S=>v16 = q15 ∧ S = S0) ∧ ∃ q17:AV,(shift q15 4 S fun v18 S=>v18 = q17 ∧ S = S0) ∧ ∃ q19:AV,(ld1 q17 S fun v20 S=>v20 = q19 ∧ S = S0) ∧ ∃ q21:AV,(ldN 2 v13 S fun v22 S=>v22 = q21 ∧ S = S0) ∧ ∃ q23:AV,(lkM (.p .i64) (.v (.int .i64 0)) true q19 q21 S fun v24 S=>v24 = q23 ∧ S = S0) ∧ ∃ q25:AV,(extr q23 0 S fun v26 S=>v26 = q25 ∧ S = S0) ∧ ∃ q27:AV,(extr q23 1 S fun v28 S=>v28 = q27 ∧ S = S0) ∧ un .not q27 S fun v29 S=>onB v29 fun b30=>gd b30 (∃ q31:AV,(∀ T:Store,Keep S T → nilChk y0 T fun v32 S=>v32 = q31 ∧ S = T) ∧ ∃ q33:AV,(∀ T:Store,Keep S T → shift q31 4 T fun v34 S=>v34 = q33 ∧ S = T) ∧ ∃ q35:AV,(∀ T:Store,Keep S T → ld1 q33 T fun v36 S=>v36 = q35 ∧ S = T) ∧ ∃ q37:AV,(∀ T:Store,Keep S T → ldN 2 v13 T fun v38 S=>v38 = q37 ∧ S = T) ∧ updM (.p .i64) q35 q37 y15 S fun v39 S=>bin .add 0 y15 (.v (.int .i64 1)) S fun v40 S=>KE0 38 (env204_0 y0 y13 y14 v40) S) (bin .add 0 y15 (.v (.int .i64 1)) S fun v41 S=>KE0 38 (env204_0 y0 y13 y14 v41) S)) S) (Q (.ret (.t [])) S)
theorem b204_0_eq (y0 y13 y14 y15:AV) (S:Store) (KE0:KeT) (Q:PoT):vc Tryz.prog (c204.at_ [1,1,0,0]) (ms204.drop 1) (mkE 38 lv204_0 (env204_0 y0 y13 y14 y15)) S (thenK (fgK lv204_0 KE0) (blockK 0 (bodyK Tryz.prog r204 Q))) = b204_0 y0 y13 y14 y15 S KE0 Q:=by kernel_rfl
theorem loop204_0 {y0 y13 y14:AV} {y150:AV} {S:Store} {Q:PoT} (I:AV → Store → Prop) (μ:AV → Store → Nat) (h0:I y150 S)
    (hr:∀ (y15:AV) (S:Store),I y15 S → ∀ KE0:KeT,(∀ (y15':AV) (S':Store),I y15' S' → μ y15' S' < μ y15 S → KE0 38 (env204_0 y0 y13 y14 y15') S') → b204_0 y0 y13 y14 y15 S KE0 Q) :
    loopV lv204_0 (vc Tryz.prog (c204.at_ [1,1,0,0]) (ms204.drop 1)) 38 (env204_0 y0 y13 y14 y150) S (blockK 0 (bodyK Tryz.prog r204 Q)):=by
  refine ⟨fun n e S=>n = 38 ∧ ∃ y15:AV,e = (env204_0 y0 y13 y14 y15) ∧ I y15 S,fun _ e S=>μ (e.getD 3 .j) S,?_,?_⟩
  · exact ⟨_,_,Wk.refl _ _,rfl,_,rfl,h0⟩
  · rintro _ e S ⟨rfl,y15,rfl,hI⟩
    exact (b204_0_eq _ _ _ _ _ _ _).mpr (hr y15 S hI _ (fun y15' S' hI' hm=>⟨_,_,Wk.refl _ _,⟨rfl,_,rfl,hI'⟩,hm⟩))
noncomputable def c184:Code:=(Tryz.f184.body).getD .skip
def ms184:List (List Nat):=[[204,203]]
def m184 (x0:AV) (S:Store) (Q:PoT):Prop :=
  nilChk x0 S fun v1 S=>shift v1 0 S fun v2 S=>callF Tryz.prog 203 [v2,(.f (.func 204) [x0] [])] S Q fun v3 S=>nilChk x0 S fun v4 S=>shift v4 4 S fun v5 S=>ld1 v5 S fun v6 S=>lenM v6 S fun v7 S=>Q (.ret v7) S
theorem calls184 {x0:AV} {S:Store} {Q:PoT} (h:m184 x0 S Q):ACalls Tryz.prog 184 [x0] S Q :=
  calls_of_vc (fn:=Tryz.f184) (c:=c184) (n:=14) Tryz.func184 (by kernel_rfl) (by kernel_rfl) (by kernel_rfl) ms184 (Eq.mpr (by kernel_rfl) h)
noncomputable def c164:Code:=(Tryz.f164.body).getD .skip
noncomputable def r164:List ResultVar:=Tryz.f164.results.toList
def env164_0 (y1 y2 y27 y28 y29:AV):List AV:=[y1,y2,y27,y28,y29]
def lv164_0:List Nat:=[1,2,27,28,29]
def ms164:List (List Nat):=[lv164_0,[184]]
def m164 (x0 x1:AV) (S:Store) (Q:PoT):Prop :=
  boxN 82 2 x0 S fun v1 S=>shift v1 0 S fun v2 S=>ld1 v2 S fun v3 S=>bin .lss 0 v3 (.v (.int .i64 0)) S fun v4 S=>onB v4 fun b5=>gd b5 (Q (.ret (.v (.bool false))) S) (shift v1 0 S fun v6 S=>ld1 v6 S fun v7 S=>bin .gtr 0 v7 (.v (.int .i64 2000)) S fun v8 S=>onB v8 fun b9=>gd b9 (Q (.ret (.v (.bool false))) S) (shift v1 1 S fun v10 S=>ld1 v10 S fun v11 S=>lenS v11 S fun v12 S=>bin .gtr 0 v12 (.v (.int .i64 2000)) S fun v13 S=>onB v13 fun b14=>gd b14 (Q (.ret (.v (.bool false))) S) (ldN 2 v1 S fun v15 S=>callF Tryz.prog 135 [v15] S Q fun v16 S=>bin .gtr 0 v16 (.v (.int .i64 2000)) S fun v17 S=>onB v17 fun b18=>gd b18 (Q (.ret (.v (.bool false))) S) (shift v1 1 S fun v19 S=>ld1 v19 S fun v20 S=>lenS v20 S fun v21 S=>loopV lv164_0 (vc Tryz.prog (c164.at_ [1,1,0,1,0,0]) (ms164.drop 1)) 49 (env164_0 x1 v1 v20 v21 (.v (.int .i64 0))) S (blockK 0 (seqK (vc Tryz.prog (c164.at_ [1,1,1]) (ms164.drop 1)) (bodyK Tryz.prog r164 Q)))))))
theorem calls164 {x0 x1:AV} {S:Store} {Q:PoT} (h:m164 x0 x1 S Q):ACalls Tryz.prog 164 [x0,x1] S Q :=
  calls_of_vc (fn:=Tryz.f164) (c:=c164) (n:=49) Tryz.func164 (by kernel_rfl) (by kernel_rfl) (by kernel_rfl) ms164 (Eq.mpr (by kernel_rfl) h)
def b164_0 (y1 y2 y27 y28 y29:AV) (S:Store) (KE0:KeT) (Q:PoT):Prop :=
  bin .lss 0 y29 y28 S fun v22 S=>onB v22 fun b23=>gd b23 (ixS 124 2 y27 y29 S fun v24 S=>ldN 2 v24 S fun v25 S=>boxN 124 2 (.a [(.v (.int .i64 0)),(.v (.int .i64 0))]) S fun v26 S=>stN 2 v26 v25 S fun v27 S=>ldN 2 v26 S fun v28 S=>shift y2 0 S fun v29 S=>ld1 v29 S fun v30 S=>bin .add 0 v30 (.v (.int .i64 1)) S fun v31 S=>bin .add 0 v31 y29 S fun v32 S=>callF Tryz.prog 183 [v28,v32] S Q fun v33 S=>un .not v33 S fun v34 S=>onB v34 fun b35=>gd b35 (Q (.ret (.v (.bool false))) S) (bin .add 0 y29 (.v (.int .i64 1)) S fun v36 S=>KE0 49 (env164_0 y1 y2 y27 y28 v36) S)) (∃ q37:AV,(∀ T:Store,Keep S T → shift y2 1 T fun v38 S=>v38 = q37 ∧ S = T) ∧ ∃ q39:AV,(∀ T:Store,Keep S T → ld1 q37 T fun v40 S=>v40 = q39 ∧ S = T) ∧ ∃ q41:AV,(∀ T:Store,Keep S T → lenS q39 T fun v42 S=>v42 = q41 ∧ S = T) ∧ callF Tryz.prog 184 [y1] S (fun _ _=>False) fun v43 S=>(∀ T:Store,Keep S T → lenS q39 T fun v44 S=>v44 = q41 ∧ S = T) ∧ (∀ T:Store,Keep S T → ld1 q37 T fun v45 S=>v45 = q39 ∧ S = T) ∧ (∀ T:Store,Keep S T → shift y2 1 T fun v46 S=>v46 = q37 ∧ S = T) ∧ ∃ q47:AV,(∀ T:Store,Keep S T → bin .eql 0 v43 q41 T fun v48 S=>v48 = q47 ∧ S = T) ∧ Q (.ret q47) S)
theorem b164_0_eq (y1 y2 y27 y28 y29:AV) (S:Store) (KE0:KeT) (Q:PoT):vc Tryz.prog (c164.at_ [1,1,0,1,0,0]) (ms164.drop 1) (mkE 49 lv164_0 (env164_0 y1 y2 y27 y28 y29)) S (thenK (fgK lv164_0 KE0) (blockK 0 (seqK (vc Tryz.prog (c164.at_ [1,1,1]) (ms164.drop 1)) (bodyK Tryz.prog r164 Q)))) = b164_0 y1 y2 y27 y28 y29 S KE0 Q:=by kernel_rfl
theorem loop164_0 {y1 y2 y27 y28:AV} {y290:AV} {S:Store} {Q:PoT} (I:AV → Store → Prop) (μ:AV → Store → Nat) (h0:I y290 S)
    (hr:∀ (y29:AV) (S:Store),I y29 S → ∀ KE0:KeT,(∀ (y29':AV) (S':Store),I y29' S' → μ y29' S' < μ y29 S → KE0 49 (env164_0 y1 y2 y27 y28 y29') S') → b164_0 y1 y2 y27 y28 y29 S KE0 Q) :
    loopV lv164_0 (vc Tryz.prog (c164.at_ [1,1,0,1,0,0]) (ms164.drop 1)) 49 (env164_0 y1 y2 y27 y28 y290) S (blockK 0 (seqK (vc Tryz.prog (c164.at_ [1,1,1]) (ms164.drop 1)) (bodyK Tryz.prog r164 Q))):=by
  refine ⟨fun n e S=>n = 49 ∧ ∃ y29:AV,e = (env164_0 y1 y2 y27 y28 y29) ∧ I y29 S,fun _ e S=>μ (e.getD 4 .j) S,?_,?_⟩
  · exact ⟨_,_,Wk.refl _ _,rfl,_,rfl,h0⟩
  · rintro _ e S ⟨rfl,y29,rfl,hI⟩
    exact (b164_0_eq _ _ _ _ _ _ _ _).mpr (hr y29 S hI _ (fun y29' S' hI' hm=>⟨_,_,Wk.refl _ _,⟨rfl,_,rfl,hI'⟩,hm⟩))
noncomputable def c130:Code:=(Tryz.f130.body).getD .skip
def ms130:List (List Nat):=[[164]]
def m130 (x0:AV) (S:Store) (Q:PoT):Prop :=
  boxN 82 2 x0 S fun v1 S=>ldN 2 v1 S fun v2 S=>shift v1 1 S fun v3 S=>ld1 v3 S fun v4 S=>bld [(0,3),(3,1),(4,1)] [(.v (.int .u32 0)),(.v (.int .i32 0)),(.v (.int .u32 0)),.nl,(.v (.map none))] [(1,v4)] S fun v5 S=>boxN 195 5 v5 S fun v6 S=>callF Tryz.prog 164 [v2,v6] S Q fun v7 S=>Q (.ret v7) S
theorem calls130 {x0:AV} {S:Store} {Q:PoT} (h:m130 x0 S Q):ACalls Tryz.prog 130 [x0] S Q :=
  calls_of_vc (fn:=Tryz.f130) (c:=c130) (n:=9) Tryz.func130 (by kernel_rfl) (by kernel_rfl) (by kernel_rfl) ms130 (Eq.mpr (by kernel_rfl) h)
noncomputable def c135:Code:=(Tryz.f135.body).getD .skip
def ms135:List (List Nat):=[[]]
def m135 (x0:AV) (S:Store) (Q:PoT):Prop :=
  boxN 82 2 x0 S fun v1 S=>shift v1 0 S fun v2 S=>ld1 v2 S fun v3 S=>bin .add 0 v3 (.v (.int .i64 1)) S fun v4 S=>shift v1 1 S fun v5 S=>ld1 v5 S fun v6 S=>lenS v6 S fun v7 S=>bin .add 0 v4 v7 S fun v8 S=>Q (.ret v8) S
theorem calls135 {x0:AV} {S:Store} {Q:PoT} (h:m135 x0 S Q):ACalls Tryz.prog 135 [x0] S Q :=
  calls_of_vc (fn:=Tryz.f135) (c:=c135) (n:=10) Tryz.func135 (by kernel_rfl) (by kernel_rfl) (by kernel_rfl) ms135 (Eq.mpr (by kernel_rfl) h)
noncomputable def c183:Code:=(Tryz.f183.body).getD .skip
def ms183:List (List Nat):=[[]]
def m183 (x0 x1:AV) (S:Store) (Q:PoT):Prop :=
  boxN 124 2 x0 S fun v1 S=>ixA 2 1 v1 (.v (.int .i64 1)) S fun v2 S=>ld1 v2 S fun v3 S=>bin .geq 0 v3 (.v (.int .i64 2)) S fun v4 S=>onB v4 fun b5=>gd b5 (ixA 2 1 v1 (.v (.int .i64 0)) S fun v6 S=>ld1 v6 S fun v7 S=>bin .quo 0 v7 (.v (.int .i64 2)) S fun v8 S=>ixA 2 1 v1 (.v (.int .i64 1)) S fun v9 S=>ld1 v9 S fun v10 S=>bin .quo 0 v10 (.v (.int .i64 2)) S fun v11 S=>bin .gtr 0 v8 v11 S fun v12 S=>onB v12 fun b13=>gd b13 (ixA 2 1 v1 (.v (.int .i64 0)) S fun v14 S=>ld1 v14 S fun v15 S=>bin .quo 0 v15 (.v (.int .i64 2)) S fun v16 S=>bin .lss 0 v16 x1 S fun v17 S=>Q (.ret v17) S) (Q (.ret (.v (.bool false))) S)) (Q (.ret (.v (.bool false))) S)
theorem calls183 {x0 x1:AV} {S:Store} {Q:PoT} (h:m183 x0 x1 S Q):ACalls Tryz.prog 183 [x0,x1] S Q :=
  calls_of_vc (fn:=Tryz.f183) (c:=c183) (n:=24) Tryz.func183 (by kernel_rfl) (by kernel_rfl) (by kernel_rfl) ms183 (Eq.mpr (by kernel_rfl) h)
noncomputable def c88:Code:=(Tryz.f88.body).getD .skip
def ms88:List (List Nat):=[[]]
def m88 (x0 x1:AV) (S:Store) (Q:PoT):Prop :=
  boxN 82 2 x0 S fun v1 S=>shift v1 0 S fun v2 S=>ld1 v2 S fun v3 S=>bin .geq 0 v3 (.v (.int .i64 0)) S fun v4 S=>onB v4 fun b5=>gd b5 (shift v1 0 S fun v6 S=>ld1 v6 S fun v7 S=>bin .leq 0 v7 (.v (.int .i64 2000)) S fun v8 S=>onB v8 fun b9=>gd b9 (bin .geq 0 x1 (.v (.int .i64 0)) S fun v10 S=>onB v10 fun b11=>gd b11 (bin .quo 0 x1 (.v (.int .i64 2)) S fun v12 S=>ldN 2 v1 S fun v13 S=>callF Tryz.prog 135 [v13] S Q fun v14 S=>bin .lss 0 v12 v14 S fun v15 S=>Q (.ret v15) S) (Q (.ret (.v (.bool false))) S)) (Q (.ret (.v (.bool false))) S)) (Q (.ret (.v (.bool false))) S)
theorem calls88 {x0 x1:AV} {S:Store} {Q:PoT} (h:m88 x0 x1 S Q):ACalls Tryz.prog 88 [x0,x1] S Q :=
  calls_of_vc (fn:=Tryz.f88) (c:=c88) (n:=24) Tryz.func88 (by kernel_rfl) (by kernel_rfl) (by kernel_rfl) ms88 (Eq.mpr (by kernel_rfl) h)
noncomputable def c218:Code:=(Tryz.f218.body).getD .skip
def ms218:List (List Nat):=[[221]]
def m218 (x0:AV) (S:Store) (Q:PoT):Prop :=
  nilChk x0 S fun v1 S=>shift v1 0 S fun v2 S=>callF Tryz.prog 221 [v2] S Q fun v3 S=>Q (.ret (.t [])) S
noncomputable def c219:Code:=(Tryz.f219.body).getD .skip
def ms219:List (List Nat):=[[222]]
def m219 (x0 x1:AV) (S:Store) (Q:PoT):Prop :=
  ∃ q1:AV,(∀ T:Store,Keep S T → nilChk x0 T fun v2 S=>v2 = q1 ∧ S = T) ∧ ∃ q3:AV,(∀ T:Store,Keep S T → shift q1 0 T fun v4 S=>v4 = q3 ∧ S = T) ∧ ∃ q5:AV,(∀ T:Store,Keep S T → callF Tryz.prog 223 [x1] T (fun _ _=>False) fun v6 S=>v6 = q5 ∧ S = T) ∧ callF Tryz.prog 222 [q3,q5] S (fun _ _=>False) fun v7 S=>Q (.ret (.t [])) S
noncomputable def c214:Code:=(Tryz.f214.body).getD .skip
def ms214:List (List Nat):=[[]]
def m214 (x0:AV) (S:Store) (Q:PoT):Prop :=
  nilChk x0 S fun v1 S=>shift v1 0 S fun v2 S=>callF Tryz.prog 216 [v2] S Q fun v3 S=>bin .neq 0 v3 (.v (.int .u32 0)) S fun v4 S=>Q (.ret v4) S
theorem calls214 {x0:AV} {S:Store} {Q:PoT} (h:m214 x0 S Q):ACalls Tryz.prog 214 [x0] S Q :=
  calls_of_vc (fn:=Tryz.f214) (c:=c214) (n:=8) Tryz.func214 (by kernel_rfl) (by kernel_rfl) (by kernel_rfl) ms214 (Eq.mpr (by kernel_rfl) h)
noncomputable def c217:Code:=(Tryz.f217.body).getD .skip
def ms217:List (List Nat):=[[220]]
def m217 (x0:AV) (S:Store) (Q:PoT):Prop :=
  nilChk x0 S fun v1 S=>shift v1 0 S fun v2 S=>callF Tryz.prog 220 [v2] S Q fun v3 S=>Q (.ret (.t [])) S
theorem calls217 {x0:AV} {S:Store} {Q:PoT} (h:m217 x0 S Q):ACalls Tryz.prog 217 [x0] S Q :=
  calls_of_vc (fn:=Tryz.f217) (c:=c217) (n:=6) Tryz.func217 (by kernel_rfl) (by kernel_rfl) (by kernel_rfl) ms217 (Eq.mpr (by kernel_rfl) h)
noncomputable def c220:Code:=(Tryz.f220.body).getD .skip
def ms220:List (List Nat):=[[225]]
def m220 (x0:AV) (S:Store) (Q:PoT):Prop :=
  callF Tryz.prog 224 [] S Q fun v1 S=>nilChk x0 S fun v2 S=>shift v2 0 S fun v3 S=>callF Tryz.prog 225 [v3,(.v (.int .i32 0)),(.v (.int .i32 1))] S Q fun v4 S=>onB v4 fun b5=>gd b5 (callF Tryz.prog 226 [] S Q fun v6 S=>convU x0 S fun v7 S=>callF Tryz.prog 227 [v7] S Q fun v8 S=>Q (.ret (.t [])) S) (callF Tryz.prog 228 [x0] S Q fun v9 S=>Q (.ret (.t [])) S)
theorem calls220 {x0:AV} {S:Store} {Q:PoT} (h:m220 x0 S Q):ACalls Tryz.prog 220 [x0] S Q :=
  calls_of_vc (fn:=Tryz.f220) (c:=c220) (n:=13) Tryz.func220 (by kernel_rfl) (by kernel_rfl) (by kernel_rfl) ms220 (Eq.mpr (by kernel_rfl) h)
noncomputable def c221:Code:=(Tryz.f221.body).getD .skip
def ms221:List (List Nat):=[[230]]
def m221 (x0:AV) (S:Store) (Q:PoT):Prop :=
  nilChk x0 S fun v1 S=>shift v1 0 S fun v2 S=>ld1 v2 S fun v3 S=>convU x0 S fun v4 S=>callF Tryz.prog 229 [v4] S Q fun v5 S=>callF Tryz.prog 224 [] S Q fun v6 S=>nilChk x0 S fun v7 S=>shift v7 0 S fun v8 S=>callF Tryz.prog 230 [v8,(.v (.int .i32 (-1)))] S Q fun v9 S=>bin .neq 0 v9 (.v (.int .i32 0)) S fun v10 S=>onB v10 fun b11=>gd b11 (callF Tryz.prog 231 [x0,v9] S Q fun v12 S=>callF Tryz.prog 226 [] S Q fun v13 S=>Q (.ret (.t [])) S) (callF Tryz.prog 226 [] S Q fun v14 S=>Q (.ret (.t [])) S)
theorem calls221 {x0:AV} {S:Store} {Q:PoT} (h:m221 x0 S Q):ACalls Tryz.prog 221 [x0] S Q :=
  calls_of_vc (fn:=Tryz.f221) (c:=c221) (n:=21) Tryz.func221 (by kernel_rfl) (by kernel_rfl) (by kernel_rfl) ms221 (Eq.mpr (by kernel_rfl) h)
noncomputable def c223:Code:=(Tryz.f223.body).getD .skip
def ms223:List (List Nat):=[[]]
def m223 (x0:AV) (S:Store) (Q:PoT):Prop :=
  onB x0 fun b1=>gd b1 (Q (.ret (.v (.int .u32 1))) S) (Q (.ret (.v (.int .u32 0))) S)
theorem calls223 {x0:AV} {S:Store} {Q:PoT} (h:m223 x0 S Q):ACalls Tryz.prog 223 [x0] S Q :=
  calls_of_vc (fn:=Tryz.f223) (c:=c223) (n:=4) Tryz.func223 (by kernel_rfl) (by kernel_rfl) (by kernel_rfl) ms223 (Eq.mpr (by kernel_rfl) h)
noncomputable def c203:Code:=(Tryz.f203.body).getD .skip
def ms203:List (List Nat):=[[215]]
def m203 (x0 x1:AV) (S:Store) (Q:PoT):Prop :=
  nilChk x0 S fun v1 S=>shift v1 0 S fun v2 S=>callF Tryz.prog 214 [v2] S Q fun v3 S=>un .not v3 S fun v4 S=>onB v4 fun b5=>gd b5 (callF Tryz.prog 215 [x0,x1] S Q fun v6 S=>Q (.ret (.t [])) S) (Q (.ret (.t [])) S)
theorem calls203 {x0 x1:AV} {S:Store} {Q:PoT} (h:m203 x0 x1 S Q):ACalls Tryz.prog 203 [x0,x1] S Q :=
  calls_of_vc (fn:=Tryz.f203) (c:=c203) (n:=12) Tryz.func203 (by kernel_rfl) (by kernel_rfl) (by kernel_rfl) ms203 (Eq.mpr (by kernel_rfl) h)
end Go.Proofs.YtolgpokppnajdaaGreat.G
set_option linter.unusedVariables false
set_option linter.unusedSimpArgs false
namespace Go.Proofs.YtolgpokppnajdaaGreat.G
open Go Go.Ab
noncomputable def c215:Code:=(Tryz.f215.body).getD .skip
noncomputable def r215:List ResultVar:=Tryz.f215.results.toList
def m215 (x0 x1:AV) (S:Store) (Q:AEnd → Store → Prop):Prop :=
  nilChk x0 S fun v1 S=>shift v1 1 S fun v2 S=>callF Tryz.prog 217 [v2] S (fun _ _=>False) fun v3 S=>nilChk x0 S fun v4 S=>shift v4 1 S fun v5 S=>nilChk x0 S fun v6 S=>shift v6 0 S fun v7 S=>callF Tryz.prog 214 [v7] S (fun _ _=>False) fun v8 S=>un .not v8 S fun v9 S=>onB v9 fun b10 =>
    gd b10 (nilChk x0 S fun v11 S=>shift v11 0 S fun v12 S=>callV Tryz.prog x1 [] S (fun v13 S=>ADCalls Tryz.prog 219 [v12,.v (.bool true)] S fun e S=>match e with
        | .ret _=>ADCalls Tryz.prog 218 [v5] S fun e S=>match e with | .ret _=>Q (.ret (.t [])) S | .pan _=>False
        | .pan _=>False) (fun _ _=>False))
      (ADCalls Tryz.prog 218 [v5] S fun e S=>match e with | .ret _=>Q (.ret (.t [])) S | .pan _=>False)
set_option maxRecDepth 100000 in
theorem m215_eq:(fun (x0 x1:AV) (S:Store) (Q:AEnd → Store → Prop)=>vcT Tryz.prog c215 [] (ofArgs 21 [x0,x1]) S [] (bodyT Tryz.prog r215 Q)) = (fun (x0 x1:AV) (S:Store) (Q:AEnd → Store → Prop)=>m215 x0 x1 S Q):=by kernel_rfl
theorem calls215 {x0 x1:AV} {S:Store} {Q:AEnd → Store → Prop} (h:m215 x0 x1 S Q):ACalls Tryz.prog 215 [x0,x1] S Q :=
  calls_of_vcT (fn:=Tryz.f215) (c:=c215) (n:=21) Tryz.func215 (by kernel_rfl) (by kernel_rfl) (by kernel_rfl) [] ((congrFun (congrFun (congrFun (congrFun m215_eq x0) x1) S) Q).mpr h)
theorem dcalls218 {x0:AV} {S:Store} {Q:AEnd → Store → Prop} (h:m218 x0 S Q):ADCalls Tryz.prog 218 [x0] S Q :=
  dcalls_of_vc (fn:=Tryz.f218) (c:=c218) (n:=6) Tryz.func218 (by kernel_rfl) (by kernel_rfl) (by kernel_rfl) ms218 (Eq.mpr (by kernel_rfl) h)
theorem dcalls219 {x0 x1:AV} {S:Store} {Q:AEnd → Store → Prop} (h:m219 x0 x1 S Q):ADCalls Tryz.prog 219 [x0,x1] S Q :=
  dcalls_of_vc (fn:=Tryz.f219) (c:=c219) (n:=10) Tryz.func219 (by kernel_rfl) (by kernel_rfl) (by kernel_rfl) ms219 (Eq.mpr (by kernel_rfl) h)
theorem nt224:NoText Tryz.prog 224 Tryz.f224:=⟨Tryz.func224,by kernel_rfl,by kernel_rfl,by kernel_rfl⟩
theorem nt226:NoText Tryz.prog 226 Tryz.f226:=⟨Tryz.func226,by kernel_rfl,by kernel_rfl,by kernel_rfl⟩
theorem nt227:NoText Tryz.prog 227 Tryz.f227:=⟨Tryz.func227,by kernel_rfl,by kernel_rfl,by kernel_rfl⟩
theorem nt229:NoText Tryz.prog 229 Tryz.f229:=⟨Tryz.func229,by kernel_rfl,by kernel_rfl,by kernel_rfl⟩
theorem nt216:NoText Tryz.prog 216 Tryz.f216:=⟨Tryz.func216,by kernel_rfl,by kernel_rfl,by kernel_rfl⟩
theorem nt222:NoText Tryz.prog 222 Tryz.f222:=⟨Tryz.func222,by kernel_rfl,by kernel_rfl,by kernel_rfl⟩
theorem nt225:NoText Tryz.prog 225 Tryz.f225:=⟨Tryz.func225,by kernel_rfl,by kernel_rfl,by kernel_rfl⟩
theorem nt230:NoText Tryz.prog 230 Tryz.f230:=⟨Tryz.func230,by kernel_rfl,by kernel_rfl,by kernel_rfl⟩
abbrev aW32 (n:Int):AV:=.v (.int .u32 n)
abbrev aS32 (n:Int):AV:=.v (.int .i32 n)
section
variable {S:Store} {Q:AEnd → Store → Prop}
theorem mark224 {Q:AEnd → Store → Prop} {K:AV → Store → Prop} (k:K (.t []) S):callF Tryz.prog 224 [] S Q K:=.inr (ext_mark0 nt224 .disable (by kernel_rfl) k)
theorem mark226 {K:AV → Store → Prop} (k:K (.t []) S):callF Tryz.prog 226 [] S Q K:=.inr (ext_mark0 nt226 .enable (by kernel_rfl) k)
theorem mark227 {K:AV → Store → Prop} {id i j:Nat} (k:K (.t []) S):callF Tryz.prog 227 [.p id i j] S Q K:=.inr (ext_mark1 nt227 .acquire (by kernel_rfl) k)
theorem mark229 {K:AV → Store → Prop} {id i j:Nat} (k:K (.t []) S):callF Tryz.prog 229 [.p id i j] S Q K:=.inr (ext_mark1 nt229 .releaseMerge (by kernel_rfl) k)
end
@[simp] theorem nilChk_p (id i j:Nat) (S:Store) (K:AV → Store → Prop):nilChk (.p id i j) S K = K (.p id i j) S:=rfl
theorem upd_upd (S:Store) (id:Nat) (o o':AObj):(S.upd id o).upd id o' = S.upd id o':=by
  unfold Store.upd
  congr 1
  funext i
  by_cases h:i = id <;> simp [h]
def onceO (t:TypeId) (done st:Int) (z:AV) (c:List AV):AObj:=.cells t [aW32 done :: aS32 st :: z :: c] true
section
variable {S:Store} {Q:AEnd → Store → Prop} {id t:Nat} {done st:Int} {z:AV} {c:List AV}
theorem load_once (h:S.obj id = some (onceO t done st z c)) (k:Q (.ret (aB (!decide (done = 0)))) S):ACalls Tryz.prog 214 [.p id 0 0] S Q:=by
  refine calls214 ?_
  unfold m214
  rw [nilChk_p,shift_p]
  refine .inr (ext_load nt216 .u32 (by kernel_rfl) h rfl rfl ?_)
  show bin .neq 0 (aW32 done) (aW32 0) S _
  rw [bin_neq]
  exact k
theorem lock_once (h:S.obj id = some (onceO t done 0 z c)) (k:Q (.ret (.t [])) (S.upd id (onceO t done 1 z c))):ACalls Tryz.prog 217 [.p id 0 1] S Q:=by
  refine calls217 ?_
  unfold m217
  rw [nilChk_p,shift_p]
  refine .inl (calls220 ?_)
  unfold m220
  refine mark224 ?_
  rw [nilChk_p,shift_p]
  refine .inr (ext_cas nt225 .i32 (by kernel_rfl) h rfl rfl ?_)
  show onB _ _
  rw [onB_v,gd_true]
  refine mark226 ⟨aS32 1,?_,mark227 k⟩
  simp [rd1,place,Store.get]
theorem unlock_once (h:S.obj id = some (onceO t done 1 z c)) (k:Q (.ret (.t [])) (S.upd id (onceO t done 0 z c))):ADCalls Tryz.prog 218 [.p id 0 1] S Q:=by
  refine dcalls218 ?_
  unfold m218
  rw [nilChk_p,shift_p]
  refine .inl (calls221 ?_)
  unfold m221
  rw [nilChk_p,shift_p,ld1_p h rfl rfl]
  refine ⟨aS32 1,by simp [rd1,place,Store.get,h,onceO],mark229 (mark224 ?_)⟩
  rw [nilChk_p,shift_p]
  refine .inr (ext_add nt230 .i32 (by kernel_rfl) h rfl rfl ?_)
  show bin .neq 0 (aS32 (IntKind.i32.wrap (1 + -1))) (aS32 0) _ _
  have:IntKind.i32.wrap (1 + -1) = 0:=by decide
  rw [this,bin_neq,onB_v]
  simp only [decide_true,Bool.not_true,gd_false]
  exact mark226 k
theorem store_once (h:S.obj id = some (onceO t done st z c)) (k:Q (.ret (.t [])) (S.upd id (onceO t 1 st z c))):ADCalls Tryz.prog 219 [.p id 0 0,aB true] S Q:=by
  refine dcalls219 ?_
  unfold m219
  have hb:∀ T,ACalls Tryz.prog 223 [aB true] T (fun e S'=>e = .ret (aW32 1) ∧ S' = T):=fun T=>by
    refine calls223 ?_
    unfold m223
    rw [onB_v,gd_true]
    exact ⟨rfl,rfl⟩
  refine ⟨.p id 0 0,fun T _=>⟨rfl,rfl⟩,.p id 0 0,fun T _=>⟨rfl,rfl⟩,aW32 1,fun T _=>callF_at (hb T) ⟨rfl,rfl⟩,?_⟩
  exact .inr (ext_store nt222 (by kernel_rfl) h rfl rfl k)
theorem do_once (h:S.obj id = some (onceO t 0 0 z c)) {f:AV} (hf:callV Tryz.prog f [] (S.upd id (onceO t 0 1 z c)) (fun _ S2=>∃ c',S2.obj id = some (onceO t 0 1 z c') ∧ Q (.ret (.t [])) (S2.upd id (onceO t 1 0 z c'))) (fun _ _=>False)):ACalls Tryz.prog 203 [.p id 0 0,f] S Q:=by
  refine calls203 ?_
  unfold m203
  rw [nilChk_p,shift_p]
  refine .inl (load_once h ?_)
  show un .not (aB (!decide ((0:Int) = 0))) S _
  rw [un_not,onB_v]
  refine .inl (calls215 ?_)
  unfold m215
  rw [nilChk_p,shift_p]
  refine .inl (lock_once h ?_)
  show nilChk _ _ _
  rw [nilChk_p,shift_p,nilChk_p,shift_p]
  refine .inl (load_once (upd_self _ _) ?_)
  show un .not (aB (!decide ((0:Int) = 0))) _ _
  rw [un_not,onB_v]
  show gd true _ _
  rw [gd_true,nilChk_p,shift_p]
  refine callV_mono hf (fun v S2 h2=>?_) (fun _ _ h=>h)
  obtain ⟨c',h3,h4⟩:=h2
  refine store_once h3 (unlock_once (upd_self _ _) ?_)
  show Q (.ret (.t [])) _
  rw [upd_upd]
  exact h4
end
def pL (l:List (Int × Int)):AV:=.l (l.map fun p=>[aI p.1,aI p.2])
structure Gr where
  inputs:Int
  ands:List (Int × Int)
  deriving DecidableEq
def Gr.cells (g:Gr):List AV:=[aI g.inputs,pL g.ands]
def Gr.av (g:Gr):AV:=.a g.cells
def Gr.vars (g:Gr):Int:=g.inputs + 1 + g.ands.length
def i64R (a:Int):Prop:=-9223372036854775808 ≤ a ∧ a ≤ 9223372036854775807
structure Gr.ok (g:Gr):Prop where
  inp:i64R g.inputs
  len:g.ands.length ≤ 1000000
  pairs:∀ p ∈ g.ands,i64R p.1 ∧ i64R p.2
def may (p:Int × Int) (v:Int):Bool:=decide (2 ≤ p.2) && (decide (p.2.tdiv 2 < p.1.tdiv 2) && decide (p.1.tdiv 2 < v))
def Gr.right (g:Gr):Bool:=decide (0 ≤ g.inputs) && (decide (g.inputs ≤ 2000) && (decide ((g.ands.length:Int) ≤ 2000) && (decide (g.vars ≤ 2000) &&
  ((List.range g.ands.length).all (fun i=>may (g.ands.getD i (0,0)) (g.inputs + 1 + i)) && decide g.ands.Nodup))))
def Gr.lit (g:Gr) (l:Int):Bool:=decide (0 ≤ g.inputs) && (decide (g.inputs ≤ 2000) && (decide (0 ≤ l) && decide (l.tdiv 2 < g.vars)))
@[simp] theorem lenS_pL (l:List (Int × Int)) {S:Store} {K:AV → Store → Prop}:lenS (pL l) S K = K (aI l.length) S:=by simp [pL]
theorem ixS_pL {l:List (Int × Int)} {e i:Nat} {S:Store} {K:AV → Store → Prop} (h:i < l.length):ixS e 2 (pL l) (aI i) S K = K (.q [aI l[i].1,aI l[i].2] 0) S:=by
  unfold pL
  rw [ixS_l (by simpa using h) (by simp)]
  simp
@[simp] theorem ldN_q2 {u v:AV} {S:Store} {K:AV → Store → Prop}:ldN 2 (.q [u,v] 0) S K = K (.a [u,v]) S:=by simp [ldN,rdN,place]
theorem tdiv2 {a:Int} (h:i64R a):-9223372036854775808 ≤ a.tdiv 2 ∧ a.tdiv 2 ≤ 9223372036854775807:=by
  obtain ⟨h1,h2⟩:=h
  rcases Int.le_total 0 a with h | h
  · rw [Int.tdiv_eq_ediv_of_nonneg h]; omega
  · have:a.tdiv 2 = -((-a).tdiv 2):=by rw [Int.neg_tdiv,Int.neg_neg]
    rw [this,Int.tdiv_eq_ediv_of_nonneg (by omega)]; omega
theorem bin_half {a:Int} (h:i64R a) {S:Store} {K:AV → Store → Prop}:bin .quo 0 (aI a) (.v (.int .i64 2)) S K = K (aI (a.tdiv 2)) S:=bin_quo (by decide) (tdiv2 h).1 (tdiv2 h).2 0
theorem ixA_p {n sz id:Nat} {z:Nat} {S:Store} {K:AV → Store → Prop} (hz:z < n):ixA n sz (.p id 0 0) (aI z) S K = K (.p id 0 (z * sz)) S:=by
  unfold ixA
  simp only [intA,optP_some,Int.toNat_natCast,shift_p,Nat.zero_add]
  exact propext ⟨fun h=>h.2,fun h=>⟨⟨by omega,by omega⟩,h⟩⟩
theorem ans135 {g:Gr} (hg:g.ok) (hi:g.inputs ≤ 1000000) (h0:0 ≤ g.inputs):Ans Tryz.prog 135 [g.av] (aI g.vars):=by
  intro S
  have hl:=hg.len
  refine ACalls.ans_v (calls135 ?_)
  unfold m135 Gr.av
  refine boxA_of rfl fun S1 k1 n1 o1=>?_
  rw [shift_p,ld1_p o1 rfl rfl,bin_add (by omega) (by omega),shift_p,ld1_p o1 rfl rfl,lenS_pL,bin_add (by omega) (by omega)]
  exact ⟨rfl,k1⟩
theorem ans183 {p:Int × Int} {v:Int} (h:i64R p.1 ∧ i64R p.2):Ans Tryz.prog 183 [.a [aI p.1,aI p.2],aI v] (aB (may p v)):=by
  intro S
  refine ACalls.ans_v (calls183 ?_)
  unfold m183 may
  refine boxA_of rfl fun S1 k1 n1 o1=>?_
  have e1:∀ K:AV → Store → Prop,ixA 2 1 (.p S.n 0 0) (.v (.int .i64 1)) S1 K = K (.p S.n 0 1) S1:=fun K=>ixA_p (z:=1) (by decide)
  have e0:∀ K:AV → Store → Prop,ixA 2 1 (.p S.n 0 0) (.v (.int .i64 0)) S1 K = K (.p S.n 0 0) S1:=fun K=>ixA_p (z:=0) (by decide)
  rw [e1,ld1_p o1 rfl rfl,bin_geq,onB_v]
  refine gd_of (fun h1=>?_) (fun h1=>⟨by simp only [h1,Bool.false_and],k1⟩)
  rw [e0,ld1_p o1 rfl rfl,bin_half h.1,e1,ld1_p o1 rfl rfl,bin_half h.2,bin_gtr,onB_v]
  refine gd_of (fun h2=>?_) (fun h2=>⟨by simp only [h1,h2,Bool.false_and,Bool.true_and],k1⟩)
  rw [e0,ld1_p o1 rfl rfl,bin_half h.1,bin_lss]
  exact ⟨by simp only [h1,h2,Bool.true_and],k1⟩
theorem ans88 {g:Gr} {l:Int} (hg:g.ok) (hl:i64R l):Ans Tryz.prog 88 [g.av,aI l] (aB (g.lit l)):=by
  intro S
  refine ACalls.ans_v (calls88 ?_)
  unfold m88 Gr.av Gr.lit
  refine boxA_of rfl fun S1 k1 n1 o1=>?_
  rw [shift_p,ld1_p o1 rfl rfl,bin_geq,onB_v]
  refine gd_of (fun h1=>?_) (fun h1=>⟨by simp only [h1,Bool.false_and],k1⟩)
  rw [shift_p,ld1_p o1 rfl rfl,bin_leq,onB_v]
  refine gd_of (fun h2=>?_) (fun h2=>⟨by simp only [h1,h2,Bool.false_and,Bool.true_and],k1⟩)
  rw [bin_geq,onB_v]
  refine gd_of (fun h3=>?_) (fun h3=>⟨by simp only [h1,h2,h3,Bool.false_and,Bool.true_and],k1⟩)
  rw [bin_half hl,ldN_p (n:=2) o1 rfl]
  refine callF_ans (ans135 hg (by have:=of_decide_eq_true h2; omega) (of_decide_eq_true h1)) ?_
  rw [bin_lss]
  exact ⟨by simp only [h1,h2,h3,Bool.true_and],k1⟩
def gat (l:List (Int × Int)):Nat → List (Key × AV)
  | 0=>[]
  | i + 1=>match kix (gat l i) (.p (l.getD i (0,0)).1 (l.getD i (0,0)).2) with
    | some _=>gat l i
    | none=>gat l i ++ [(.p (l.getD i (0,0)).1 (l.getD i (0,0)).2,aI i)]
theorem kix_none {es:List (Key × AV)} {k:Key}:kix es k = none ↔ k ∉ es.map (·.1):=by
  unfold kix
  rw [List.findIdx?_eq_none_iff]
  simp only [List.mem_map,not_exists,not_and]
  constructor
  · intro h x hx e
    have:=h x hx
    simp [e] at this
  · intro h x hx
    simpa using h x hx
theorem gat_keys {l:List (Int × Int)}:∀ {i:Nat},i ≤ l.length → ∀ k,k ∈ (gat l i).map (·.1) ↔ ∃ p ∈ l.take i,k = .p p.1 p.2
  | 0,_,k=>by simp [gat]
  | i + 1,h,k=>by
    have ih:=gat_keys (l:=l) (i:=i) (by omega)
    have hi:i < l.length:=by omega
    have hg:l.getD i (0,0) = l[i]:=by simp [List.getD_eq_getElem?_getD,hi]
    rw [List.take_add_one,List.getElem?_eq_getElem hi]
    unfold gat
    rw [hg]
    split
    · rename_i j hj
      rw [ih]
      have hm:Key.p l[i].1 l[i].2 ∈ (gat l i).map (·.1):=by
        by_cases c:Key.p l[i].1 l[i].2 ∈ (gat l i).map (·.1)
        · exact c
        · rw [kix_none.2 c] at hj; cases hj
      constructor
      · rintro ⟨p,hp,e⟩
        exact ⟨p,List.mem_append_left _ hp,e⟩
      · rintro ⟨p,hp,e⟩
        rcases List.mem_append.1 hp with hp | hp
        · exact ⟨p,hp,e⟩
        · have:p = l[i]:=by simpa using hp
          subst this
          rw [e]; exact (ih _).1 hm
    · rw [List.map_append,List.mem_append,ih]
      constructor
      · rintro (⟨p,hp,e⟩ | hk)
        · exact ⟨p,List.mem_append_left _ hp,e⟩
        · exact ⟨l[i],List.mem_append_right _ (by simp),by simpa using hk⟩
      · rintro ⟨p,hp,e⟩
        rcases List.mem_append.1 hp with hp | hp
        · exact .inl ⟨p,hp,e⟩
        · have:p = l[i]:=by simpa using hp
          subst this
          exact .inr (by simp [e])
theorem gat_le (l:List (Int × Int)):∀ i:Nat,(gat l i).length ≤ i
  | 0=>Nat.le_refl _
  | i + 1=>by
    have:=gat_le l i
    unfold gat
    split
    · omega
    · simp; omega
theorem gat_all {l:List (Int × Int)}:∀ {i:Nat},i ≤ l.length → ((gat l i).length = i ↔ (l.take i).Nodup)
  | 0,_=>by simp [gat]
  | i + 1,h=>by
    have ih:=gat_all (l:=l) (i:=i) (by omega)
    have hi:i < l.length:=by omega
    have hk:=gat_keys (l:=l) (i:=i) (by omega) (.p l[i].1 l[i].2)
    have hle:=gat_le l i
    have hg:l.getD i (0,0) = l[i]:=by simp [List.getD_eq_getElem?_getD,hi]
    rw [List.take_add_one,List.getElem?_eq_getElem hi,List.nodup_append]
    unfold gat
    rw [hg]
    split
    · rename_i j hj
      have hm:Key.p l[i].1 l[i].2 ∈ (gat l i).map (·.1):=by
        by_cases c:Key.p l[i].1 l[i].2 ∈ (gat l i).map (·.1)
        · exact c
        · rw [kix_none.2 c] at hj; cases hj
      obtain ⟨p,hp,e⟩:=hk.1 hm
      constructor
      · intro h; omega
      · rintro ⟨_,_,h3⟩
        refine absurd ?_ (h3 p hp l[i] (by simp))
        simp only [Key.p.injEq] at e
        exact Prod.ext e.1.symm e.2.symm
    · rename_i hn
      rw [kix_none,hk] at hn
      rw [List.length_append,List.length_singleton,Nat.add_right_cancel_iff,ih]
      constructor
      · intro h
        refine ⟨h,by simp,fun a ha b hb=>?_⟩
        have:b = l[i]:=by simpa using hb
        subst this
        rintro rfl
        exact hn ⟨_,ha,rfl⟩
      · exact fun h=>h.1
@[simp] theorem extr0 {x:AV} {l:List AV} {S:Store} {K:AV → Store → Prop}:extr (.t (x :: l)) 0 S K = K x S:=by simp [extr]
@[simp] theorem extr1 {x y:AV} {l:List AV} {S:Store} {K:AV → Store → Prop}:extr (.t (x :: y :: l)) 1 S K = K y S:=by simp [extr]
@[simp] theorem extr2 {x y z:AV} {l:List AV} {S:Store} {K:AV → Store → Prop}:extr (.t (x :: y :: z :: l)) 2 S K = K z S:=by simp [extr]
theorem lkM_m {S:Store} {kk:KK} {z:AV} {c:Bool} {id:Nat} {k:AV} {key:Key} {es:List (Key × AV)} {lv:Bool} {K:AV → Store → Prop} (h:S.obj id = some (.map kk es lv)) (hk:keyA kk k = some key):lkM kk z c (.m id) k S K = K (lkV z c (lkp es key)) S:=by
  simp [lkM,entsA,h,hk]
theorem updM_m {S:Store} {kk:KK} {id:Nat} {k v:AV} {key:Key} {es:List (Key × AV)} {K:AV → Store → Prop} (h:S.obj id = some (.map kk es true)) (hk:keyA kk k = some key):updM kk (.m id) k v S K = K .j (S.upd id (.map kk (insM es key v) true)):=by
  simp [updM,h,hk]
theorem lenM_m {S:Store} {kk:KK} {id:Nat} {es:List (Key × AV)} {lv:Bool} {K:AV → Store → Prop} (h:S.obj id = some (.map kk es lv)):lenM (.m id) S K = K (aI es.length) S:=by
  simp [lenM,h]
theorem keyP (a b:Int):keyA (.p .i64) (.a [aI a,aI b]) = some (.p a b):=by simp [keyA]
theorem lkp_isSome (es:List (Key × AV)) (k:Key):(lkp es k).isSome = (kix es k).isSome:=by
  cases h:kix es k with
  | none=>simp [lkp,h]
  | some i =>
    obtain ⟨e,h1,h2⟩:=lkp_row (kk:=.s) h
    simp [h2]
theorem make_once {S:Store} {id:Nat} {z g0:AV} {d st:Int} {l:List (Int × Int)} {Q:AEnd → Store → Prop} (hl:l.length ≤ 1000000) (hid:id < S.n) (h:S.obj id = some (onceO 195 d st z [pL l,g0]))
    (k:∀ S2 m,S.n ≤ S2.n → (∀ x,x < S.n → x ≠ id → S2.obj x = S.obj x) → m ≠ id → S2.obj id = some (onceO 195 d st z [pL l,.m m]) → S2.obj m = some (.map (.p .i64) (gat l l.length) true) → Q (.ret (.t [])) S2) :
    ACalls Tryz.prog 204 [.p id 0 0] S Q:=by
  refine calls204 ?_
  unfold m204 mkM
  have h':=(new_lt (o:=.map (.p .i64) [] true) hid).trans h
  show nilChk _ _ _
  rw [nilChk_p,shift_p]
  refine stF_of h' (by simp) rfl fun S1 n1 o1 f1=>?_
  rw [nilChk_p,shift_p,ld1_p o1 rfl rfl,lenS_pL]
  have hm:S.n ≠ id:=by omega
  refine loop204_0 (fun y S'=>S.n < S'.n ∧ (∀ x,x < S.n → x ≠ id → S'.obj x = S.obj x) ∧ S'.obj id = some (onceO 195 d st z [pL l,.m S.n]) ∧ ∃ i:Nat,y = aI i ∧ i ≤ l.length ∧ S'.obj S.n = some (.map (.p .i64) (gat l i) true))
    (fun y _=>l.length - ((intA y).getD 0).toNat) ⟨by rw [n1,new_n]; omega,fun x hx hne=>by rw [f1 x hne,new_lt hx],o1,0,rfl,Nat.zero_le _,by rw [f1 _ hm,new_self]; rfl⟩ ?_
  rintro _ S2 ⟨n2,f2,o2,i,rfl,hi,m2⟩ KE hKE
  unfold b204_0
  rw [bin_lss,onB_v]
  refine gd_of (fun hlt=>?_) (fun hge=>?_)
  · have hlt:i < l.length:=by simpa using hlt
    have hg:l.getD i (0,0) = l[i]:=by simp [List.getD_eq_getElem?_getD,hlt]
    rw [ixS_pL hlt,ldN_q2]
    refine boxA_of rfl fun S3 k3 n3 o3=>?_
    refine stA_of o3 rfl rfl fun S4 n4 o4 f4=>?_
    have p4:S4.obj id = _:=(f4 id (by omega)).trans ((k3.2 id (by omega)).trans o2)
    have q4:S4.obj S.n = _:=(f4 S.n (by omega)).trans ((k3.2 S.n n2).trans m2)
    have r4:∀ x,x < S.n → x ≠ id → S4.obj x = S.obj x:=fun x hx hne=>(f4 x (by omega)).trans ((k3.2 x (by omega)).trans (f2 x hx hne))
    show ∃ q15:AV,_
    refine ⟨_,by rw [nilChk_p]; exact ⟨rfl,rfl⟩,_,by rw [shift_p]; exact ⟨rfl,rfl⟩,_,by rw [ld1_p p4 rfl rfl]; exact ⟨rfl,rfl⟩,_,by rw [ldN_p (n:=2) o4 rfl]; exact ⟨rfl,rfl⟩,_,by rw [lkM_m q4 (keyP _ _)]; exact ⟨rfl,rfl⟩,_,by rw [lkV,extr0]; exact ⟨rfl,rfl⟩,_,by rw [lkV,extr1]; exact ⟨rfl,rfl⟩,?_⟩
    rw [lkp_isSome,un_not,onB_v]
    have hadd:∀ K:AV → Store → Prop,∀ S,bin .add 0 (.v (.int .i64 (i:Int))) (.v (.int .i64 1)) S K = K (aI (i + 1:Nat)) S:=fun K S=>bin_add (by omega) (by omega) 0
    have hμ:l.length - ((intA (aI (i + 1:Nat))).getD 0).toNat < l.length - ((intA (aI i)).getD 0).toNat:=by simp [intA]; omega
    refine gd_of (fun hn=>?_) (fun hn=>?_)
    · have hn:kix (gat l i) (.p l[i].1 l[i].2) = none:=by simpa using hn
      refine ⟨_,fun T hT=>by rw [nilChk_p]; exact ⟨rfl,rfl⟩,_,fun T hT=>by rw [shift_p]; exact ⟨rfl,rfl⟩,_,fun T hT=>by rw [ld1_p ((hT.2 id (by omega)).trans p4) rfl rfl]; exact ⟨rfl,rfl⟩,_,fun T hT=>by rw [ldN_p (n:=2) ((hT.2 _ (by omega)).trans o4) rfl]; exact ⟨rfl,rfl⟩,?_⟩
      rw [updM_m q4 (keyP _ _),hadd]
      refine hKE _ _ ⟨by simp; omega,fun x hx hne=>by rw [upd_ne (by omega)]; exact r4 x hx hne,by rw [upd_ne (by omega)]; exact p4,i + 1,rfl,hlt,?_⟩ hμ
      rw [upd_self]
      simp only [gat,hg,hn,insM_none hn]
    · obtain ⟨j,hj⟩:∃ j,kix (gat l i) (.p l[i].1 l[i].2) = some j:=by
        cases e:kix (gat l i) (.p l[i].1 l[i].2) with
        | none=>simp [e] at hn
        | some j=>exact ⟨j,rfl⟩
      rw [hadd]
      refine hKE _ _ ⟨by omega,r4,p4,i + 1,rfl,hlt,?_⟩ hμ
      rw [q4]
      simp only [gat,hg,hj]
  · have hge:i = l.length:=by simp at hge; omega
    subst hge
    exact k S2 S.n (by omega) f2 hm o2 m2
theorem many_once {S:Store} {id:Nat} {z g0:AV} {l:List (Int × Int)} {Q:AEnd → Store → Prop} (hl:l.length ≤ 1000000) (hid:id < S.n) (h:S.obj id = some (onceO 195 0 0 z [pL l,g0]))
    (k:∀ S2,S.n ≤ S2.n → (∀ x,x < S.n → x ≠ id → S2.obj x = S.obj x) → Q (.ret (aI (gat l l.length).length)) S2) :
    ACalls Tryz.prog 184 [.p id 0 0] S Q:=by
  refine calls184 ?_
  unfold m184
  rw [nilChk_p,shift_p]
  refine .inl (do_once h (.inl (make_once hl (by simpa using hid) (upd_self _ _) fun S2 m n2 f2 hm o2 m2=>⟨_,o2,?_⟩)))
  show nilChk _ _ _
  rw [nilChk_p,shift_p,ld1_p (show (S2.upd id (onceO 195 1 0 z [pL l,.m m])).obj id = some (.cells 195 [[aW32 1,aS32 0,z,pL l,.m m]] true) from upd_self _ _) rfl rfl]
  rw [lenM_m (by rw [upd_ne hm]; exact m2)]
  refine k _ (by simpa using n2) fun x hx hne=>?_
  rw [upd_ne hne,f2 x (by simpa using hx) hne,upd_ne hne]
theorem bld_of {pl:List (Nat × Nat)} {zc:List AV} {parts:List (Nat × AV)} {S:Store} {K:AV → Store → Prop} {cs:List AV} (h:fillA (fun i=>pl[i]?) zc parts = some cs):bld pl zc parts S K = K (.a cs) S:=by
  simp [bld,h]
theorem right_of {g:Gr} (hg:g.ok) {S:Store} {id:Nat} (hid:id < S.n) {z g0:AV} (h:S.obj id = some (onceO 195 0 0 z [pL g.ands,g0])) {Q:AEnd → Store → Prop}
    (k:∀ S2,S.n ≤ S2.n → (∀ x,x < S.n → x ≠ id → S2.obj x = S.obj x) → Q (.ret (aB g.right)) S2):ACalls Tryz.prog 164 [g.av,.p id 0 0] S Q:=by
  have hlen:=hg.len
  refine calls164 ?_
  unfold m164 Gr.av
  refine boxA_of rfl fun S1 k1 n1 o1=>?_
  have kk:∀ b:Bool,g.right = b → Q (.ret (aB b)) S1:=fun b e=>e ▸ k S1 (by omega) fun x hx _=>k1.2 x hx
  rw [shift_p,ld1_p o1 rfl rfl,bin_lss,onB_v]
  refine gd_of (fun h1=>kk _ ?_) (fun h1=>?_)
  · have h1:=of_decide_eq_true h1
    simp [Gr.right,show ¬ 0 ≤ g.inputs by omega]
  have h1:0 ≤ g.inputs:=by simpa using h1
  rw [shift_p,ld1_p o1 rfl rfl,bin_gtr,onB_v]
  refine gd_of (fun h2=>kk _ ?_) (fun h2=>?_)
  · have h2:=of_decide_eq_true h2
    simp [Gr.right,show ¬ g.inputs ≤ 2000 by omega]
  have h2:g.inputs ≤ 2000:=by simpa using h2
  rw [shift_p,ld1_p o1 rfl rfl,lenS_pL,bin_gtr,onB_v]
  refine gd_of (fun h3=>kk _ ?_) (fun h3=>?_)
  · have h3:=of_decide_eq_true h3
    have:¬ (g.ands.length:Int) ≤ 2000:=by omega
    simp only [Gr.right,this,decide_false,Bool.false_and,Bool.and_false]
  have h3:g.ands.length ≤ 2000:=by have:=of_decide_eq_false h3; omega
  rw [ldN_p (n:=2) o1 rfl]
  refine callF_ans (ans135 hg (by omega) h1) ?_
  rw [bin_gtr,onB_v]
  refine gd_of (fun h4=>kk _ ?_) (fun h4=>?_)
  · have h4:=of_decide_eq_true h4
    simp [Gr.right,show ¬ g.vars ≤ 2000 by omega]
  have h4:g.vars ≤ 2000:=by simpa using h4
  rw [shift_p,ld1_p o1 rfl rfl,lenS_pL]
  refine loop164_0 (fun y S'=>Keep S1 S' ∧ ∃ i:Nat,y = aI i ∧ i ≤ g.ands.length ∧ ∀ j,j < i → may (g.ands.getD j (0,0)) (g.inputs + 1 + j) = true)
    (fun y _=>g.ands.length - ((intA y).getD 0).toNat) ⟨Keep.refl _,0,rfl,Nat.zero_le _,fun j hj=>(Nat.not_lt_zero _ hj).elim⟩ ?_
  rintro _ S2 ⟨k2,i,rfl,hi,hmay⟩ KE hKE
  have o2:=(k2.2 S.n (by omega)).trans o1
  have b2:=(k2.2 id (by omega)).trans ((k1.2 id hid).trans h)
  unfold b164_0
  rw [bin_lss,onB_v]
  refine gd_of (fun hlt=>?_) (fun hge=>?_)
  · have hlt:i < g.ands.length:=by simpa using hlt
    have hg':g.ands.getD i (0,0) = g.ands[i]:=by simp [List.getD_eq_getElem?_getD,hlt]
    rw [ixS_pL hlt,ldN_q2]
    refine boxA_of rfl fun S3 k3 n3 o3=>?_
    refine stA_of o3 rfl rfl fun S4 n4 o4 f4=>?_
    have k4:Keep S1 S4:=(k2.trans k3).st (by have:=k2.1; omega) n4 f4
    have p4:=(k4.2 S.n (by omega)).trans o1
    rw [ldN_p (n:=2) o4 rfl,shift_p,ld1_p p4 rfl rfl,bin_add (by omega) (by omega),bin_add (by omega) (by omega)]
    refine callF_ans (ans183 (p:=g.ands[i]) (hg.pairs _ (List.getElem_mem hlt))) ?_
    rw [un_not,onB_v]
    refine gd_of (fun h5=>?_) (fun h5=>?_)
    · have:g.right = false:=by
        have hr:(List.range g.ands.length).all (fun i=>may (g.ands.getD i (0,0)) (g.inputs + 1 + i)) = false:=by
          rw [List.all_eq_false]
          exact ⟨i,by simpa using hlt,by rw [hg']; simpa using h5⟩
        simp only [Gr.right,hr,Bool.false_and,Bool.and_false]
      rw [← this]
      exact k S4 (by have:=k4.1; omega) fun x hx _=>(k4.2 x (by omega)).trans (k1.2 x hx)
    · have hadd:∀ K:AV → Store → Prop,∀ S,bin .add 0 (.v (.int .i64 (i:Int))) (.v (.int .i64 1)) S K = K (aI (i + 1:Nat)) S:=fun K S=>bin_add (by omega) (by omega) 0
      rw [hadd]
      refine hKE _ _ ⟨k4,i + 1,rfl,hlt,fun j hj=>?_⟩ (by simp [intA]; omega)
      rcases Nat.lt_or_ge j i with hj' | hj'
      · exact hmay j hj'
      · have:j = i:=by omega
        subst this
        rw [hg']
        simpa using h5
  · have hge:i = g.ands.length:=by simp at hge; omega
    subst hge
    have hn2:=k2.1
    refine ⟨_,fun T hT=>by rw [shift_p]; exact ⟨rfl,rfl⟩,_,fun T hT=>by rw [ld1_p ((hT.2 _ (by omega)).trans o2) rfl rfl]; exact ⟨rfl,rfl⟩,_,fun T hT=>by rw [lenS_pL]; exact ⟨rfl,rfl⟩,.inl (many_once hlen (by omega) b2 fun S3 n3 f3=>?_)⟩
    have o3:=(f3 S.n (by omega) (by omega)).trans o2
    refine ⟨fun T hT=>by rw [lenS_pL]; exact ⟨rfl,rfl⟩,fun T hT=>by rw [ld1_p ((hT.2 _ (by omega)).trans o3) rfl rfl]; exact ⟨rfl,rfl⟩,fun T hT=>by rw [shift_p]; exact ⟨rfl,rfl⟩,_,fun T hT=>by rw [bin_eql]; exact ⟨rfl,rfl⟩,?_⟩
    have:g.right = decide (((gat g.ands g.ands.length).length:Int) = g.ands.length):=by
      have hr:(List.range g.ands.length).all (fun i=>may (g.ands.getD i (0,0)) (g.inputs + 1 + i)) = true:=by
        rw [List.all_eq_true]
        exact fun j hj=>hmay j (by simpa using hj)
      have hall:=gat_all (l:=g.ands) (i:=g.ands.length) (Nat.le_refl _)
      rw [List.take_length] at hall
      simp only [Gr.right,hr,Bool.true_and,h1,h2,h4,show (g.ands.length:Int) ≤ 2000 by omega,decide_true,Int.natCast_inj,hall]
    rw [← this]
    exact k S3 (by omega) fun x hx hne=>(f3 x (by omega) hne).trans ((k2.2 x (by omega)).trans (k1.2 x hx))
theorem ans130 {g:Gr} (hg:g.ok):Ans Tryz.prog 130 [g.av] (aB g.right):=by
  intro S
  refine ACalls.ans_v (calls130 ?_)
  unfold m130 Gr.av
  refine boxA_of rfl fun S1 k1 n1 o1=>?_
  rw [ldN_p (n:=2) o1 rfl,shift_p,ld1_p o1 rfl rfl]
  rw [bld_of (cs:=[aW32 0,aS32 0,.v (.int .u32 0),pL g.ands,.v (.map none)]) rfl]
  refine boxA_of rfl fun S2 k2 n2 o2=>?_
  refine .inl (right_of hg (by omega) o2 fun S3 n3 f3=>⟨rfl,k1.trans ⟨by omega,fun x hx=>?_⟩⟩)
  rw [f3 x (by omega) (by omega),k2.2 x hx]
theorem ans40 {g:Gr} (hg:g.ok) (hi:g.inputs ≤ 1000000) (h0:0 ≤ g.inputs):Ans Tryz.prog 40 [g.av] (aI g.vars):=by
  intro S
  have hl:=hg.len
  refine ACalls.ans_v (calls40 ?_)
  unfold m40 Gr.av
  refine boxA_of rfl fun S1 k1 n1 o1=>?_
  rw [shift_p,ld1_p o1 rfl rfl,bin_add (by omega) (by omega),shift_p,ld1_p o1 rfl rfl,lenS_pL,bin_add (by omega) (by omega)]
  exact ⟨rfl,k1⟩
theorem ans112 {g:Gr} {l:Int} (hg:g.ok) (hl:i64R l):Ans Tryz.prog 112 [g.av,aI l] (aB (g.lit l)):=by
  intro S
  refine ACalls.ans_v (calls112 ?_)
  unfold m112 Gr.av Gr.lit
  refine boxA_of rfl fun S1 k1 n1 o1=>?_
  rw [shift_p,ld1_p o1 rfl rfl,bin_geq,onB_v]
  refine gd_of (fun h1=>?_) (fun h1=>⟨by simp only [h1,Bool.false_and],k1⟩)
  rw [shift_p,ld1_p o1 rfl rfl,bin_leq,onB_v]
  refine gd_of (fun h2=>?_) (fun h2=>⟨by simp only [h1,h2,Bool.false_and,Bool.true_and],k1⟩)
  rw [bin_geq,onB_v]
  refine gd_of (fun h3=>?_) (fun h3=>⟨by simp only [h1,h2,h3,Bool.false_and,Bool.true_and],k1⟩)
  rw [bin_half hl,ldN_p (n:=2) o1 rfl]
  refine callF_ans (ans40 hg (by have:=of_decide_eq_true h2; omega) (of_decide_eq_true h1)) ?_
  rw [bin_lss]
  exact ⟨by simp only [h1,h2,h3,Bool.true_and],k1⟩
theorem binP_eq {a b c d:Int} {S:Store} {K:AV → Store → Prop}:binP .i64 .eql (.a [aI a,aI b]) (.a [aI c,aI d]) S K = K (aB (decide ((a,b) = (c,d)))) S:=by
  simp [binP,keyA]
theorem ixA_q {n sz:Nat} {c:List AV} {z:Nat} {S:Store} {K:AV → Store → Prop} (hz:z < n):ixA n sz (.q c 0) (aI z) S K = K (.q c (z * sz)) S:=by
  unfold ixA
  simp only [intA,optP_some,Int.toNat_natCast,shift,Nat.zero_add]
  exact propext ⟨fun h=>h.2,fun h=>⟨⟨by omega,by omega⟩,h⟩⟩
theorem ld1_q1 {u v:AV} {S:Store} {K:AV → Store → Prop}:ld1 (.q [u,v] 1) S K = K v S:=by simp [ld1,rd1,place]
theorem ld1_q0 {u:AV} {l:List AV} {S:Store} {K:AV → Store → Prop}:ld1 (.q (u :: l) 0) S K = K u S:=by simp [ld1,rd1,place]
theorem right_iff {g:Gr}:g.right = true ↔ 0 ≤ g.inputs ∧ g.inputs ≤ 2000 ∧ (g.ands.length:Int) ≤ 2000 ∧ g.vars ≤ 2000 ∧ (∀ j,j < g.ands.length → may (g.ands.getD j (0,0)) (g.inputs + 1 + j) = true) ∧ g.ands.Nodup:=by
  simp [Gr.right]
theorem nodup_take {α:Type} [DecidableEq α] {l:List α} {i:Nat} (h:i < l.length):(l.take (i + 1)).Nodup ↔ (l.take i).Nodup ∧ ∀ k (hk:k < i),l[k] ≠ l[i]:=by
  rw [List.take_add_one,List.getElem?_eq_getElem h,List.nodup_append]
  constructor
  · rintro ⟨h1,_,h3⟩
    refine ⟨h1,fun k hk=>h3 _ ?_ _ (by simp)⟩
    rw [List.mem_take_iff_getElem]
    exact ⟨k,by omega,rfl⟩
  · rintro ⟨h1,h2⟩
    refine ⟨h1,by simp,fun a ha b hb=>?_⟩
    have:b = l[i]:=by simpa using hb
    subst this
    rw [List.mem_take_iff_getElem] at ha
    obtain ⟨k,hk,rfl⟩:=ha
    exact h2 k (by omega)
theorem may_false1 {p:Int × Int} {v:Int} (h:p.2 < 2):may p v = false:=by simp [may,show ¬ 2 ≤ p.2 by omega]
theorem may_false2 {p:Int × Int} {v:Int} (h:p.1.tdiv 2 ≤ p.2.tdiv 2):may p v = false:=by simp [may,show ¬ p.2.tdiv 2 < p.1.tdiv 2 by omega]
theorem may_false3 {p:Int × Int} {v:Int} (h:v ≤ p.1.tdiv 2):may p v = false:=by simp [may,show ¬ p.1.tdiv 2 < v by omega]
theorem right_may {g:Gr} {i:Nat} (h:i < g.ands.length) (hm:may (g.ands.getD i (0,0)) (g.inputs + 1 + i) = false):g.right = false:=by
  cases e:g.right with
  | false=>rfl
  | true=>rw [(right_iff.1 e).2.2.2.2.1 i h] at hm; cases hm
theorem ans111 {g:Gr} (hg:g.ok):Ans Tryz.prog 111 [g.av] (aB g.right):=by
  intro S
  refine ACalls.ans_v (calls111 ?_)
  have hlen:=hg.len
  unfold m111 Gr.av
  refine boxA_of rfl fun S1 k1 n1 o1=>?_
  rw [shift_p,ld1_p o1 rfl rfl,bin_lss,onB_v]
  refine gd_of (fun h1=>⟨?_,k1⟩) (fun h1=>?_)
  · have h1:=of_decide_eq_true h1
    simp [Gr.right,show ¬ 0 ≤ g.inputs by omega]
  have h1:0 ≤ g.inputs:=by simpa using h1
  rw [shift_p,ld1_p o1 rfl rfl,bin_gtr,onB_v]
  refine gd_of (fun h2=>⟨?_,k1⟩) (fun h2=>?_)
  · have h2:=of_decide_eq_true h2
    simp [Gr.right,show ¬ g.inputs ≤ 2000 by omega]
  have h2:g.inputs ≤ 2000:=by simpa using h2
  rw [shift_p,ld1_p o1 rfl rfl,lenS_pL,bin_gtr,onB_v]
  refine gd_of (fun h3=>⟨?_,k1⟩) (fun h3=>?_)
  · have h3:=of_decide_eq_true h3
    have:¬ (g.ands.length:Int) ≤ 2000:=by omega
    simp only [Gr.right,this,decide_false,Bool.false_and,Bool.and_false]
  have h3:g.ands.length ≤ 2000:=by have:=of_decide_eq_false h3; omega
  rw [ldN_p (n:=2) o1 rfl]
  refine callF_ans (ans40 hg (by omega) h1) ?_
  rw [bin_gtr,onB_v]
  refine gd_of (fun h4=>⟨?_,k1⟩) (fun h4=>?_)
  · have h4:=of_decide_eq_true h4
    simp [Gr.right,show ¬ g.vars ≤ 2000 by omega]
  have h4:g.vars ≤ 2000:=by simpa using h4
  refine loop111_0 (fun y S'=>S' = S1 ∧ ∃ i:Nat,y = aI i ∧ i ≤ g.ands.length ∧ (∀ j,j < i → may (g.ands.getD j (0,0)) (g.inputs + 1 + j) = true) ∧ (g.ands.take i).Nodup)
    (fun y _=>g.ands.length - ((intA y).getD 0).toNat) ⟨rfl,0,rfl,Nat.zero_le _,fun j hj=>(Nat.not_lt_zero _ hj).elim,by simp⟩ ?_
  rintro _ S1 ⟨rfl,i,rfl,hi,hmay,hnd⟩ KE hKE
  unfold b111_0
  rw [shift_p,ld1_p o1 rfl rfl,lenS_pL,bin_lss,onB_v]
  refine gd_of (fun hlt=>?_) (fun hge=>?_)
  · have hlt:i < g.ands.length:=by simpa using hlt
    have hg':g.ands.getD i (0,0) = g.ands[i]:=by simp [List.getD_eq_getElem?_getD,hlt]
    have hp:=hg.pairs _ (List.getElem_mem hlt)
    have e1:∀ (c:List AV) (K:AV → Store → Prop),ixA 2 1 (.q c 0) (.v (.int .i64 1)) S1 K = K (.q c 1) S1:=fun c K=>ixA_q (z:=1) (by decide)
    have e0:∀ (c:List AV) (K:AV → Store → Prop),ixA 2 1 (.q c 0) (.v (.int .i64 0)) S1 K = K (.q c 0) S1:=fun c K=>ixA_q (z:=0) (by decide)
    show ∃ q24:AV,_
    refine ⟨_,by rw [shift_p]; exact ⟨rfl,rfl⟩,_,by rw [ld1_p o1 rfl rfl]; exact ⟨rfl,rfl⟩,_,by rw [ixS_pL hlt]; exact ⟨rfl,rfl⟩,_,by rw [e0]; exact ⟨rfl,rfl⟩,_,by rw [ld1_q0]; exact ⟨rfl,rfl⟩,
      _,by rw [shift_p]; exact ⟨rfl,rfl⟩,_,by rw [ld1_p o1 rfl rfl]; exact ⟨rfl,rfl⟩,_,by rw [ixS_pL hlt]; exact ⟨rfl,rfl⟩,_,by rw [e1]; exact ⟨rfl,rfl⟩,_,by rw [ld1_q1]; exact ⟨rfl,rfl⟩,?_⟩
    rw [bin_lss,onB_v]
    refine gd_of (fun h5=>⟨?_,k1⟩) (fun h5=>?_)
    · rw [right_may hlt (by rw [hg']; exact may_false1 (of_decide_eq_true h5))]
    rw [bin_half hp.1,bin_half hp.2,bin_leq,onB_v]
    refine gd_of (fun h6=>⟨?_,k1⟩) (fun h6=>?_)
    · rw [right_may hlt (by rw [hg']; exact may_false2 (of_decide_eq_true h6))]
    rw [bin_half hp.1,shift_p,ld1_p o1 rfl rfl,bin_add (by omega) (by omega),bin_add (by omega) (by omega),bin_geq,onB_v]
    refine gd_of (fun h7=>⟨?_,k1⟩) (fun h7=>?_)
    · rw [right_may hlt (by rw [hg']; exact may_false3 (of_decide_eq_true h7))]
    have h5:=of_decide_eq_false h5
    have h6:=of_decide_eq_false h6
    have h7:=of_decide_eq_false h7
    refine loop111_1 (fun y S'=>S' = S1 ∧ ∃ k:Nat,y = aI k ∧ k ≤ i ∧ ∀ j (hj:j < k) (hk:k ≤ i),g.ands[j]'(by omega) ≠ g.ands[i])
      (fun y _=>g.ands.length - ((intA y).getD 0).toNat) ⟨rfl,0,rfl,Nat.zero_le _,fun j hj=>(Nat.not_lt_zero _ hj).elim⟩ ?_
    rintro _ S1 ⟨rfl,k,rfl,hk,hne⟩ KE1 hKE1
    unfold b111_1
    rw [bin_lss,onB_v]
    refine gd_of (fun hlk=>?_) (fun hgk=>?_)
    · have hlk:k < i:=by simpa using hlk
      have hkl:k < g.ands.length:=by omega
      show ∃ q24:AV,_
      refine ⟨_,by rw [shift_p]; exact ⟨rfl,rfl⟩,_,by rw [ld1_p o1 rfl rfl]; exact ⟨rfl,rfl⟩,_,by rw [ixS_pL hkl]; exact ⟨rfl,rfl⟩,_,by rw [ldN_q2]; exact ⟨rfl,rfl⟩,
        _,by rw [shift_p]; exact ⟨rfl,rfl⟩,_,by rw [ld1_p o1 rfl rfl]; exact ⟨rfl,rfl⟩,_,by rw [ixS_pL hlt]; exact ⟨rfl,rfl⟩,_,by rw [ldN_q2]; exact ⟨rfl,rfl⟩,_,by rw [binP_eq]; exact ⟨rfl,rfl⟩,?_⟩
      rw [onB_v]
      refine gd_of (fun h8=>⟨?_,k1⟩) (fun h8=>?_)
      · have h8:g.ands[k] = g.ands[i]:=of_decide_eq_true h8
        have:g.right = false:=by
          cases e:g.right with
          | false=>rfl
          | true =>
            have hnd:=(right_iff.1 e).2.2.2.2.2
            exact absurd h8 (List.pairwise_iff_getElem.1 hnd k i hkl hlt hlk)
        rw [this]
      · have h8:¬ g.ands[k] = g.ands[i]:=of_decide_eq_false h8
        have hadd:∀ K:AV → Store → Prop,∀ S,bin .add 0 (.v (.int .i64 (k:Int))) (.v (.int .i64 1)) S K = K (aI (k + 1:Nat)) S:=fun K S=>bin_add (by omega) (by omega) 0
        rw [hadd]
        refine hKE1 _ _ ⟨rfl,k + 1,rfl,hlk,fun j hj _=>?_⟩ (by simp [intA]; omega)
        rcases Nat.lt_or_ge j k with hj' | hj'
        · exact hne j hj' (by omega)
        · have:j = k:=by omega
          subst this
          exact h8
    · have hge:k = i:=by simp at hgk; omega
      subst hge
      have hadd:∀ K:AV → Store → Prop,∀ S,bin .add 0 (.v (.int .i64 (k:Int))) (.v (.int .i64 1)) S K = K (aI (k + 1:Nat)) S:=fun K S=>bin_add (by omega) (by omega) 0
      rw [hadd]
      refine hKE _ _ ⟨rfl,k + 1,rfl,hlt,fun j hj=>?_,(nodup_take hlt).2 ⟨hnd,fun j hj=>hne j hj (Nat.le_refl _)⟩⟩ (by simp [intA]; omega)
      rcases Nat.lt_or_ge j k with hj' | hj'
      · exact hmay j hj'
      · have:j = k:=by omega
        subst this
        rw [hg']
        simp [may,show 2 ≤ (g.ands[j]).2 by omega,show (g.ands[j]).2.tdiv 2 < (g.ands[j]).1.tdiv 2 by omega,show (g.ands[j]).1.tdiv 2 < g.inputs + 1 + j by omega]
  · have hge:i = g.ands.length:=by simp at hge; omega
    subst hge
    rw [List.take_length] at hnd
    rw [right_iff.2 ⟨h1,h2,by omega,h4,hmay,hnd⟩]
    exact ⟨rfl,k1⟩
theorem Own.appL {n:Nat} {S:Store} {x:AV} {e sz b:Nat} {es ys:List (List AV)} (h:Own n S x e es) (hn:n ≤ S.n) {K:AV → Store → Prop} (hc:∀ c ∈ ys,c.length = sz) (hb:(es.length + ys.length) * b ≤ 140737488355328)
    (k:∀ x' S',Own n S' x' e (es ++ ys) → But S S' x → (x' = x ∨ ∃ m,x' = .s S.n 0 m) → K x' S') {y:AV} (hy:srcE S y = some ys):appS e sz b x y S K:=by
  refine ⟨h.isSl,ys,hy,hc,?_⟩
  cases ys with
  | nil=>exact k x S (by simpa using h) ⟨Nat.le_refl _,fun _ _ _=>rfl⟩ (.inl rfl)
  | cons c ys =>
    rcases h with ⟨rfl,rfl⟩ | ⟨id,rfl,h1,h2,h3⟩
    · refine ⟨by simpa using hb,k _ _ (.inr ⟨S.n,rfl,hn,Nat.lt_succ_self _,by simp [Store.new]⟩) ⟨Nat.le_succ _,fun i hi _=>?_⟩ (.inr ⟨_,rfl⟩)⟩
      simp only [Store.new]; rw [if_neg (by omega)]
    · simp only [appE,h3]
      refine ⟨⟨trivial,trivial,by simpa using hb⟩,k _ _ (.inr ⟨S.n,by simp,hn,Nat.lt_succ_self _,by simp [Store.new,Store.kill]⟩) ⟨Nat.le_succ _,fun i hi hne=>?_⟩ (.inr ⟨_,rfl⟩)⟩
      have e1:i ≠ S.n:=by omega
      have e2:i ≠ id:=fun hq=>hne 0 es.length (by rw [hq])
      simp [Store.new,Store.kill,e1,e2]
theorem bslP {e:Nat} {z1 z2 u v:AV} {S:Store} {K:AV → Store → Prop} (k:K (.l [[u,v]]) S):bslN e 2 1 [z1,z2] [(0,.a [u,v])] S K:=by
  refine ⟨[u,v],?_,.inr ?_⟩
  · simp [fillA,cellsOf,spl,List.range_succ]
  · simpa [chunks,List.range_succ] using k
@[simp] theorem mx_true (a b:Int) {S:Store} {K:AV → Store → Prop}:mxI true (aI a) (aI b) S K = K (aI (if b > a then b else a)) S:=rfl
@[simp] theorem mx_false (a b:Int) {S:Store} {K:AV → Store → Prop}:mxI false (aI a) (aI b) S K = K (aI (if b < a then b else a)) S:=rfl
theorem treeP (l:List (Int × Int)):Tree (pL l):=Tree.l fun c hc u hu=>by
  obtain ⟨p,_,rfl⟩:=List.mem_map.1 hc
  rcases List.mem_cons.1 hu with rfl | hu
  · exact Tree.v _
  · rcases List.mem_cons.1 hu with rfl | hu
    · exact Tree.v _
    · simp at hu
theorem Gr.tree (g:Gr):Tree g.av:=Tree.a fun u hu=>by
  rcases List.mem_cons.1 hu with rfl | hu
  · exact Tree.v _
  · rcases List.mem_cons.1 hu with rfl | hu
    · exact treeP _
    · simp at hu
theorem cv_t3 {S:Store} {n:Nat} {x y z x' y' z':AV} (h1:Cv S n x x') (h2:Cv S n y y') (h3:Cv S n z z'):Cv S n (.t [x,y,z]) (.t [x',y',z']) :=
  .t _ _ rfl fun k u u2 hk hk2=>by
    match k with
    | 0=>cases hk; cases hk2; exact h1
    | 1=>cases hk; cases hk2; exact h2
    | 2=>cases hk; cases hk2; exact h3
    | k + 3=>simp at hk
theorem cv_t2 {S:Store} {n:Nat} {x y x' y':AV} (h1:Cv S n x x') (h2:Cv S n y y'):Cv S n (.t [x,y]) (.t [x',y']) :=
  .t _ _ rfl fun k u u2 hk hk2=>by
    match k with
    | 0=>cases hk; cases hk2; exact h1
    | 1=>cases hk; cases hk2; exact h2
    | k + 2=>simp at hk
theorem cv_a2 {S:Store} {n:Nat} {x y x' y':AV} (h1:Cv S n x x') (h2:Cv S n y y'):Cv S n (.a [x,y]) (.a [x',y']) :=
  .a _ _ rfl fun k u u2 hk hk2=>by
    match k with
    | 0=>cases hk; cases hk2; exact h1
    | 1=>cases hk; cases hk2; exact h2
    | k + 2=>simp at hk
theorem gd_two {b c:Bool} {R T:Prop} (h1:b = true → c = true → R) (h2:¬ (b = true ∧ c = true) → T):gd b (gd c R T) T:=by
  cases b <;> cases c <;> simp_all [gd]
def andT (g:Gr) (x y:Int):Gr × Int × Int :=
  if y = 0 then (g,0,0)
  else if x.tdiv 2 = y.tdiv 2 ∧ x ≠ y then (g,0,0)
  else if y = 1 then (g,x,0)
  else if x = y then (g,x,0)
  else match g.ands.findIdx? (fun p=>decide (p = (x,y))) with
    | some i=>(g,2 * (g.inputs + 1 + i),0)
    | none=>if 2000 ≤ g.vars then (⟨0,[]⟩,0,2) else (⟨g.inputs,g.ands ++ [(x,y)]⟩,2 * (g.vars + 1) - 2,0)
def Gr.and (g:Gr) (a b:Int):Gr × Int × Int :=
  if (g.right && (g.lit a && g.lit b)) = false then (⟨0,[]⟩,0,1) else andT g (if b > a then b else a) (if b < a then b else a)
def andAV (r:Gr × Int × Int):AV:=.t [r.1.av,aI r.2.1,aI r.2.2]
theorem vars40 {i:Int} {x:AV} {n:Nat} (hx:∀ (S:Store) (K:AV → Store → Prop),lenS x S K = K (aI n) S) (h0:0 ≤ i) (h1:i ≤ 1000000) (hn:n ≤ 2000000):Ans Tryz.prog 40 [.a [aI i,x]] (aI (i + 1 + n)):=by
  intro S
  refine ACalls.ans_v (calls40 ?_)
  unfold m40
  refine boxA_of rfl fun S1 k1 n1 o1=>?_
  rw [shift_p,ld1_p o1 rfl rfl,bin_add (by omega) (by omega),shift_p,ld1_p o1 rfl rfl,hx,bin_add (by omega) (by omega)]
  exact ⟨rfl,k1⟩
theorem ans120 {g:Gr} {a b:Int} (hg:g.ok) (ha:i64R a) (hb:i64R b):Ans Tryz.prog 120 [g.av,aI a,aI b] (andAV (g.and a b)):=by
  intro S
  refine ACalls.tree (calls120 ?_)
  have hlen:=hg.len
  unfold m120
  have bd:∀ {a b:Int} {S:Store} {K:AV → Store → Prop},bld [(0,1),(1,1)] [(.v (.int .i64 0)),(.v (.int .i64 0))] [(0,aI a),(1,aI b)] S K = K (.a [aI a,aI b]) S:=bld_of rfl
  have bz:∀ {S:Store} {K:AV → Store → Prop},bld [(0,1),(1,1)] [(.v (.int .i64 0)),.nl] [] S K = K (.a [aI 0,.nl]) S:=bld_of rfl
  refine boxA_of rfl fun S1 k1 n1 o1=>?_
  refine boxA_of rfl fun S2 k2 n2 o2=>?_
  have k2:=k1.trans k2
  have p1:S2.obj S.n = _:=(‹Keep S1 S2›.2 S.n (by omega)).trans o1
  have fin:∀ {S':Store} {v:AV} (r:Gr × Int × Int),Keep S S' → Cv (S'.frz (newer S.n)) S.n v r.1.av → g.and a b = r → ∃ q,AEnd.ret (.t [v,aI r.2.1,aI r.2.2]) = .ret q ∧ Keep S S' ∧ Cv (S'.frz (newer S.n)) S.n q (andAV (g.and a b)) :=
    fun r hk hc e=>⟨_,rfl,hk,by rw [e]; exact cv_t3 hc (.v _) (.v _)⟩
  have err:∀ S',Cv (Store.frz S' (newer S.n)) S.n (.a [aI 0,.nl]) (Gr.av ⟨0,[]⟩):=fun _=>cv_a2 (.v _) .nl
  have bad:∀ {e:Int},(g.right && (g.lit a && g.lit b)) = false → g.and a b = (⟨0,[]⟩,0,1):=fun h=>by simp only [Gr.and]; rw [if_pos h]
  rw [ldN_p (n:=2) p1 rfl]
  refine callF_ans (ans111 hg) ?_
  rw [un_not,onB_v]
  refine gd_of (fun h1=>?_) (fun h1=>?_)
  · rw [bz]
    refine stA_of o2 rfl rfl fun S3 n3 o3 f3=>?_
    rw [ldN_p (n:=2) o3 rfl]
    exact fin (⟨0,[]⟩,0,1) (k2.st (by omega) n3 f3) (err _) (bad (e:=0) (by rw [Bool.not_eq_true'] at h1; rw [h1]; rfl))
  have h1:g.right = true:=by simpa using h1
  rw [ldN_p (n:=2) p1 rfl]
  refine callF_ans (ans112 hg ha) ?_
  rw [un_not,onB_v]
  refine gd_of (fun h2=>?_) (fun h2=>?_)
  · rw [bz]
    refine stA_of o2 rfl rfl fun S3 n3 o3 f3=>?_
    rw [ldN_p (n:=2) o3 rfl]
    exact fin (⟨0,[]⟩,0,1) (k2.st (by omega) n3 f3) (err _) (bad (e:=0) (by rw [Bool.not_eq_true'] at h2; rw [h1,h2]; rfl))
  have h2:g.lit a = true:=by simpa using h2
  rw [ldN_p (n:=2) p1 rfl]
  refine callF_ans (ans112 hg hb) ?_
  rw [un_not,onB_v]
  refine gd_of (fun h3=>?_) (fun h3=>?_)
  · rw [bz]
    refine stA_of o2 rfl rfl fun S3 n3 o3 f3=>?_
    rw [ldN_p (n:=2) o3 rfl]
    exact fin (⟨0,[]⟩,0,1) (k2.st (by omega) n3 f3) (err _) (bad (e:=0) (by rw [Bool.not_eq_true'] at h3; rw [h1,h2,h3]; rfl))
  have h3:g.lit b = true:=by simpa using h3
  obtain ⟨r1,r2,r3,r4,r5,r6⟩:=right_iff.1 h1
  rw [mx_true,mx_false]
  have hx:i64R (if b > a then b else a):=by split <;> assumption
  have hy:i64R (if b < a then b else a):=by split <;> assumption
  have hand:g.and a b = andT g (if b > a then b else a) (if b < a then b else a):=by
    simp only [Gr.and]
    rw [if_neg (by rw [h1,h2,h3]; decide)]
  generalize hex:(if b > a then b else a) = x at *
  generalize hey:(if b < a then b else a) = y at *
  have ok:∀ {S':Store},Cv (S'.frz (newer S.n)) S.n (.a g.cells) g.av:=fun {S'}=>g.tree _ _
  rw [bin_eql,onB_v]
  refine gd_of (fun h4=>?_) (fun h4=>?_)
  · rw [ldN_p (n:=2) p1 rfl]
    refine stA_of o2 rfl rfl fun S3 n3 o3 f3=>?_
    rw [ldN_p (n:=2) o3 rfl]
    exact fin (g,0,0) (k2.st (by omega) n3 f3) ok (hand.trans (by rw [andT,if_pos (of_decide_eq_true h4)]))
  have h4:=of_decide_eq_false h4
  rw [bin_half hx,bin_half hy,bin_eql,onB_v]
  rw [bin_neq,onB_v]
  refine gd_two (fun h5 h6=>?_) (fun h7=>?_)
  · rw [ldN_p (n:=2) p1 rfl]
    refine stA_of o2 rfl rfl fun S3 n3 o3 f3=>?_
    rw [ldN_p (n:=2) o3 rfl]
    exact fin (g,0,0) (k2.st (by omega) n3 f3) ok (hand.trans (by rw [andT,if_neg h4,if_pos ⟨of_decide_eq_true h5,by simpa using h6⟩]))
  · have h7:¬ (x.tdiv 2 = y.tdiv 2 ∧ x ≠ y):=fun h=>h7 ⟨by simpa using h.1,by simpa using h.2⟩
    have hand:g.and a b = (if y = 1 then (g,x,(0:Int))
      else if x = y then (g,x,0)
      else match g.ands.findIdx? (fun p=>decide (p = (x,y))) with
        | some i=>(g,2 * (g.inputs + 1 + i),0)
        | none=>if 2000 ≤ g.vars then (⟨0,[]⟩,0,2) else (⟨g.inputs,g.ands ++ [(x,y)]⟩,2 * (g.vars + 1) - 2,0):Gr × Int × Int):=hand.trans (by rw [andT,if_neg h4,if_neg h7])
    rw [bin_eql,onB_v]
    refine gd_of (fun h8=>?_) (fun h8=>?_)
    · rw [ldN_p (n:=2) p1 rfl]
      refine stA_of o2 rfl rfl fun S3 n3 o3 f3=>?_
      rw [ldN_p (n:=2) o3 rfl]
      exact fin (g,x,0) (k2.st (by omega) n3 f3) ok (hand.trans (by rw [if_pos (of_decide_eq_true h8)]))
    have h8:=of_decide_eq_false h8
    rw [bin_eql,onB_v]
    refine gd_of (fun h9=>?_) (fun h9=>?_)
    · rw [ldN_p (n:=2) p1 rfl]
      refine stA_of o2 rfl rfl fun S3 n3 o3 f3=>?_
      rw [ldN_p (n:=2) o3 rfl]
      exact fin (g,x,0) (k2.st (by omega) n3 f3) ok (hand.trans (by rw [if_neg h8,if_pos (of_decide_eq_true h9)]))
    have h9:=of_decide_eq_false h9
    have hand:=hand.trans (by rw [if_neg h8,if_neg h9])
    refine loop120_0 (fun z S'=>S' = S2 ∧ ∃ i:Nat,z = aI i ∧ i ≤ g.ands.length ∧ ∀ j (hj:j < g.ands.length),j < i → g.ands[j] ≠ (x,y))
      (fun z _=>g.ands.length - ((intA z).getD 0).toNat) ⟨rfl,0,rfl,Nat.zero_le _,fun j _ hj=>(Nat.not_lt_zero _ hj).elim⟩ ?_
    rintro _ S2 ⟨rfl,i,rfl,hi,hno⟩ KE hKE
    unfold b120_0
    have hl3:=r3
    have hv:=r4
    unfold Gr.vars at hv
    rw [shift_p,ld1_p p1 rfl rfl,lenS_pL,bin_lss,onB_v]
    refine gd_of (fun hlt=>?_) (fun hge=>?_)
    · have hlt:i < g.ands.length:=by simpa using hlt
      rw [shift_p,ld1_p p1 rfl rfl,ixS_pL hlt,ldN_q2,bd,binP_eq,onB_v]
      refine gd_of (fun h10=>?_) (fun h10=>?_)
      · have h10:g.ands[i] = (x,y):=of_decide_eq_true h10
        have hf:g.ands.findIdx? (fun p=>decide (p = (x,y))) = some i:=by
          rw [List.findIdx?_eq_some_iff_getElem]
          exact ⟨hlt,by simpa using h10,fun j hj=>by simpa using hno j (by omega) hj⟩
        have q:∀ T:Store,Keep S2 T → T.obj S.n = some (.cells 82 [g.cells] true):=fun T hT=>(hT.2 _ (by omega)).trans p1
        have e1:∀ {S:Store} {K:AV → Store → Prop},bin .add 0 (aI g.inputs) (aI 1) S K = K (aI (g.inputs + 1)) S:=bin_add (by omega) (by omega) 0
        have e2:∀ {S:Store} {K:AV → Store → Prop},bin .add 0 (aI (g.inputs + 1)) (aI i) S K = K (aI (g.inputs + 1 + i)) S:=bin_add (by omega) (by omega) 0
        have e3:∀ {S:Store} {K:AV → Store → Prop},bin .mul 0 (aI 2) (aI (g.inputs + 1 + i)) S K = K (aI (2 * (g.inputs + 1 + i))) S:=bin_mul (by omega) (by omega) 0
        refine ⟨_,fun T hT=>by rw [ldN_p (n:=2) (q T hT) rfl]; exact ⟨rfl,rfl⟩,_,fun T hT=>by rw [shift_p]; exact ⟨rfl,rfl⟩,_,fun T hT=>by rw [ld1_p (q T hT) rfl rfl]; exact ⟨rfl,rfl⟩,_,fun T hT=>by rw [e1]; exact ⟨rfl,rfl⟩,_,fun T hT=>by rw [e2]; exact ⟨rfl,rfl⟩,_,fun T hT=>by rw [e3]; exact ⟨rfl,rfl⟩,?_⟩
        refine stA_of o2 rfl rfl fun S3 n3 o3 f3=>?_
        have q3:∀ T:Store,Keep S3 T → T.obj S.n = some (.cells 82 [g.cells] true):=fun T hT=>(hT.2 _ (by omega)).trans ((f3 _ (by omega)).trans p1)
        refine ⟨fun T hT=>by rw [e3]; exact ⟨rfl,rfl⟩,fun T hT=>by rw [e2]; exact ⟨rfl,rfl⟩,fun T hT=>by rw [e1]; exact ⟨rfl,rfl⟩,fun T hT=>by rw [ld1_p (q3 T hT) rfl rfl]; exact ⟨rfl,rfl⟩,fun T hT=>by rw [shift_p]; exact ⟨rfl,rfl⟩,?_⟩
        rw [ldN_p (n:=2) o3 rfl]
        exact fin (g,2 * (g.inputs + 1 + i),0) (k2.st (by omega) n3 f3) ok (hand.trans (by rw [hf]))
      · have h10:¬ g.ands[i] = (x,y):=of_decide_eq_false h10
        have hadd:∀ K:AV → Store → Prop,∀ S,bin .add 0 (.v (.int .i64 (i:Int))) (.v (.int .i64 1)) S K = K (aI (i + 1:Nat)) S:=fun K S=>bin_add (by omega) (by omega) 0
        rw [hadd]
        refine hKE _ _ ⟨rfl,i + 1,rfl,hlt,fun j hj hj'=>?_⟩ (by simp [intA]; omega)
        rcases Nat.lt_or_ge j i with h | h
        · exact hno j hj h
        · have:j = i:=by omega
          subst this
          exact h10
    · have hge:i = g.ands.length:=by simp at hge; omega
      subst hge
      have hf:g.ands.findIdx? (fun p=>decide (p = (x,y))) = none:=by
        rw [List.findIdx?_eq_none_iff]
        intro q hq
        obtain ⟨j,hj,rfl⟩:=List.getElem_of_mem hq
        simpa using hno j hj hj
      rw [hf] at hand
      rw [ldN_p (n:=2) p1 rfl]
      refine callF_ans (ans40 hg (by omega) r1) ?_
      rw [bin_geq,onB_v]
      refine gd_of (fun h11=>?_) (fun h11=>?_)
      · rw [bz]
        refine stA_of o2 rfl rfl fun S3 n3 o3 f3=>?_
        rw [ldN_p (n:=2) o3 rfl]
        exact fin (⟨0,[]⟩,0,2) (k2.st (by omega) n3 f3) (err _) (hand.trans (by simp only [if_pos (of_decide_eq_true h11)]))
      have h11:=of_decide_eq_false h11
      have hand:g.and a b = (⟨g.inputs,g.ands ++ [(x,y)]⟩,2 * (g.vars + 1) - 2,0):=hand.trans (by simp only [if_neg h11])
      refine boxA_of rfl fun S3 k3 n3 o3=>?_
      have p3:=(k3.2 S.n (by omega)).trans p1
      rw [shift_p,ld1_p p3 rfl rfl,shift_p]
      refine stF_of o3 (by simp) rfl fun S4 n4 o4 f4=>?_
      have p4:=(f4 S.n (by omega)).trans p3
      rw [shift_p,ld1_p o4 rfl rfl,shift_p,ld1_p p4 rfl rfl]
      have m2:=k2.1
      have m3:=k3.1
      have k4:Keep S S4:=(k2.trans k3).st (by omega) n4 f4
      have v4:S4.obj S1.n = _:=(f4 S1.n (by omega)).trans ((k3.2 S1.n (by omega)).trans o2)
      refine Own.appL (Own.nl S.n S4 124) (by omega) (ys:=g.ands.map fun p=>[aI p.1,aI p.2]) (fun c hc=>by obtain ⟨p,_,rfl⟩:=List.mem_map.1 hc; rfl) (by simp; omega) (fun z1 S5 w5 b5 hz5=>?_) rfl
      rw [bd]
      refine bslP ?_
      have k5:Keep S S5:=w5.keep (S0:=S) (Nat.le_refl _) ⟨Nat.le_refl _,fun _ _ _=>rfl⟩ ⟨Nat.le_trans k4.1 b5.1,fun i hi=>(b5.2 i (by have:=k4.1; omega) (fun _ _ h=>by cases h)).trans (k4.2 i hi)⟩
      have e5:∀ i,i < S4.n → S5.obj i = S4.obj i:=fun i hi=>b5.2 i hi (fun _ _ h=>by cases h)
      have z5:∀ i b m,z1 = .s i b m → i = S4.n:=fun i b m e=>by
        rcases hz5 with h | ⟨m',h⟩
        · rw [h] at e; cases e
        · rw [h] at e; cases e; rfl
      have n5:=b5.1
      refine w5.app (by have:=k5.1; omega) (c:=[aI x,aI y]) rfl (by simp; omega) (fun z2 S6 w6 b6 hz6=>?_) rfl
      have e6:∀ i,i < S4.n → S6.obj i = S4.obj i:=fun i hi=>(b6.2 i (by omega) (fun b m e=>by have:=z5 i b m e; omega)).trans (e5 i hi)
      have n6:=b6.1
      have k6:Keep S S6:=w5.keep (Nat.le_refl _) b6 k5
      obtain ⟨m6,hz6⟩:=hz6
      rw [shift_p]
      refine stF_of ((e6 S2.n (by omega)).trans o4) (by simp) (by rw [hz6]; rfl) fun S7 n7 o7 f7=>?_
      have p7:S7.obj S.n = _:=(f7 S.n (by omega)).trans ((e6 S.n (by omega)).trans p4)
      have v7:S7.obj S1.n = _:=(f7 S1.n (by omega)).trans ((e6 S1.n (by omega)).trans v4)
      have k7:Keep S S7:=k6.st (by omega) n7 f7
      have w7:Own S.n S7 z2 124 _:=w6.st (id:=S2.n) (fun b m e=>by rw [hz6] at e; injection e; omega) n7 f7
      have hlen2:(((g.ands.map fun p=>[aI p.1,aI p.2]) ++ [[aI x,aI y]]).length:Nat) = g.ands.length + 1:=by simp
      have hz:∀ (S:Store) (K:AV → Store → Prop),lenS z2 S K = K (aI (g.ands.length + 1:Nat)) S:=fun S K=>by
        rcases w7 with ⟨h,h'⟩ | ⟨id,h,_,_,_⟩
        · rw [h] at hz6; cases hz6
        · rw [h,lenS_s,List.nil_append,hlen2]
      have q:∀ T:Store,Keep S7 T → T.obj S2.n = some (.cells 82 [[aI g.inputs,z2]] true):=fun T hT=>(hT.2 _ (by omega)).trans o7
      have e1:∀ {S:Store} {K:AV → Store → Prop},bin .mul 0 (aI 2) (aI (g.inputs + 1 + (g.ands.length + 1:Nat))) S K = K (aI (2 * (g.inputs + 1 + (g.ands.length + 1:Nat)))) S:=bin_mul (by omega) (by omega) 0
      have e2:∀ {S:Store} {K:AV → Store → Prop},bin .sub 0 (aI (2 * (g.inputs + 1 + (g.ands.length + 1:Nat)))) (aI 2) S K = K (aI (2 * (g.inputs + 1 + (g.ands.length + 1:Nat)) - 2)) S:=bin_sub (by omega) (by omega) 0
      refine ⟨_,fun T hT=>by rw [ldN_p (n:=2) (q T hT) rfl]; exact ⟨rfl,rfl⟩,_,fun T hT=>by rw [ldN_p (n:=2) (q T hT) rfl]; exact ⟨rfl,rfl⟩,_,fun T hT=>callF_ans (vars40 hz r1 (by omega) (by omega)) ⟨rfl,rfl⟩,_,fun T hT=>by rw [e1]; exact ⟨rfl,rfl⟩,_,fun T hT=>by rw [e2]; exact ⟨rfl,rfl⟩,?_⟩
      refine stA_of v7 rfl rfl fun S8 n8 o8 f8=>?_
      refine ⟨fun T hT=>by rw [e2]; exact ⟨rfl,rfl⟩,fun T hT=>by rw [e1]; exact ⟨rfl,rfl⟩,?_⟩
      rw [ldN_p (n:=2) o8 rfl]
      have w8:Own S.n S8 z2 124 _:=w7.st (id:=S1.n) (fun b m e=>by rw [hz6] at e; injection e; omega) n8 f8
      have hv2:g.vars = g.inputs + 1 + g.ands.length:=rfl
      have:=fin (S':=S8) (v:=.a [aI g.inputs,z2]) (⟨g.inputs,g.ands ++ [(x,y)]⟩,2 * (g.vars + 1) - 2,0) (k7.st (by omega) n8 f8) (cv_a2 (.v _) (w8.cv rfl (by simp) (fun i c c2 hc hc2=>?_))) hand
      · rw [hv2,show g.inputs + 1 + (g.ands.length:Int) + 1 = g.inputs + 1 + (g.ands.length + 1:Nat) by omega] at this
        exact this
      · have:c = c2:=by
          rw [List.nil_append] at hc
          rw [List.map_append] at hc2
          exact Option.some.inj (hc.symm.trans hc2)
        subst this
        refine ⟨rfl,fun k u u2 hu hu2=>?_⟩
        rw [hu] at hu2; cases hu2
        have hm:=List.mem_of_getElem? hc2
        rw [List.mem_map] at hm
        obtain ⟨p,_,rfl⟩:=hm
        match k with
        | 0=>cases hu; exact .v _
        | 1=>cases hu; exact .v _
        | k + 2=>simp at hu
section
variable {S:Store} {K:AV → Store → Prop}
theorem ixStr_b {b:ByteArray} {i:Nat} (h:i < b.size):ixStr (.v (.string b)) (aI i) S K = K (.v (.int .u8 (b[i]).toNat)) S:=by
  simp [ixStr,intA,h]
@[simp] theorem lenStr_b (b:ByteArray):lenStr (.v (.string b)) S K = K (aI b.size) S:=rfl
theorem bytesEq (a b:ByteArray):(a.toList == b.toList) = decide (a = b):=by
  rw [Bool.eq_iff_iff,beq_iff_eq,ByteArray.toList_eq,ByteArray.toList_eq,decide_eq_true_eq]
  exact ⟨fun h=>ByteArray.ext (Array.toList_inj.mp h),fun h=>by rw [h]⟩
theorem bin_eqlS (a b:ByteArray) (kd:Nat):bin .eql kd (.v (.string a)) (.v (.string b)) S K = K (aB (decide (a = b))) S:=by simp [bin,b2,strB,bytesEq]
theorem bin_neqS (a b:ByteArray) (kd:Nat):bin .neq kd (.v (.string a)) (.v (.string b)) S K = K (aB (!decide (a = b))) S:=by simp [bin,b2,strB,bytesEq]
theorem ld1_qj {c:List AV} {j:Nat} {u:AV} (h:c[j]? = some u):ld1 (.q c j) S K = K u S:=by simp [ld1,rd1,place,h]
@[simp] theorem shift_q (c:List AV) (j n:Nat):shift (.q c j) n S K = K (.q c (j + n)) S:=rfl
end
def wordB (b:ByteArray):Bool:=decide (∀ i (h:i < b.size),33 ≤ (b[i]).toNat ∧ (b[i]).toNat ≤ 126) && (decide (0 < b.size) && decide (b.size ≤ 20))
theorem ans149 (b:ByteArray) (hb:b.size ≤ 9223372036854775807):Ans Tryz.prog 149 [.v (.string b)] (aB (wordB b)):=by
  intro S
  refine ACalls.ans_v (calls149 ?_)
  unfold m149
  refine loop149_0 (fun y S'=>S' = S ∧ ∃ i:Nat,y = aI i ∧ i ≤ b.size ∧ ∀ j (h:j < b.size),j < i → 33 ≤ (b[j]).toNat ∧ (b[j]).toNat ≤ 126)
    (fun y _=>b.size - ((intA y).getD 0).toNat) ⟨rfl,0,rfl,Nat.zero_le _,fun j _ hj=>(Nat.not_lt_zero _ hj).elim⟩ ?_
  rintro _ S ⟨rfl,i,rfl,hi,hok⟩ KE hKE
  unfold b149_0
  rw [lenStr_b,bin_lss,onB_v]
  refine gd_of (fun hlt=>?_) (fun hge=>?_)
  · have hlt:i < b.size:=by simpa using hlt
    have bad:¬ (33 ≤ (b[i]).toNat ∧ (b[i]).toNat ≤ 126) → wordB b = false:=fun h=>by
      simp only [wordB,Bool.and_eq_false_iff,decide_eq_false_iff_not]
      exact .inl fun h'=>h (h' i hlt)
    rw [ixStr_b hlt,bin_lss,onB_v]
    refine gd_of (fun h1=>⟨by rw [bad (fun h=>by have:=of_decide_eq_true h1; omega)],Keep.refl _⟩) (fun h1=>?_)
    rw [ixStr_b hlt,bin_gtr,onB_v]
    refine gd_of (fun h2=>⟨by rw [bad (fun h=>by have:=of_decide_eq_true h2; omega)],Keep.refl _⟩) (fun h2=>?_)
    have hadd:∀ K:AV → Store → Prop,∀ S,bin .add 0 (.v (.int .i64 (i:Int))) (.v (.int .i64 1)) S K = K (aI (i + 1:Nat)) S:=fun K S=>bin_add (by omega) (by omega) 0
    rw [hadd]
    refine hKE _ _ ⟨rfl,i + 1,rfl,hlt,fun j hj hj'=>?_⟩ (by simp [intA]; omega)
    rcases Nat.lt_or_ge j i with h | h
    · exact hok j hj h
    · have:j = i:=by omega
      subst this
      have h1:=of_decide_eq_false h1
      have h2:=of_decide_eq_false h2
      omega
  · have hge:i = b.size:=by simp at hge; omega
    subst hge
    have hall:decide (∀ i (h:i < b.size),33 ≤ (b[i]).toNat ∧ (b[i]).toNat ≤ 126) = true:=decide_eq_true fun j hj=>hok j hj hj
    rw [lenStr_b,bin_gtr,onB_v]
    refine gd_of (fun h1=>?_) (fun h1=>⟨?_,Keep.refl _⟩)
    · rw [lenStr_b,bin_leq]
      refine ⟨?_,Keep.refl _⟩
      simp only [wordB,hall,Bool.true_and,show 0 < b.size by simpa using h1,decide_true]
      rw [show decide ((b.size:Int) ≤ 20) = decide (b.size ≤ 20) from decide_eq_decide.2 (by omega)]
    · simp [wordB,show ¬ 0 < b.size by simpa using h1]
theorem ans167 (b:ByteArray) (hb:b.size ≤ 9223372036854775807):Ans Tryz.prog 167 [.v (.string b)] (aB (wordB b)):=by
  intro S
  refine ACalls.ans_v (calls167 ?_)
  unfold m167
  rw [lenStr_b]
  refine loop167_0 (fun y S'=>S' = S ∧ ∃ i:Nat,y = aI i ∧ i ≤ b.size ∧ ∀ j (h:j < b.size),j < i → 33 ≤ (b[j]).toNat ∧ (b[j]).toNat ≤ 126)
    (fun y _=>b.size - ((intA y).getD 0).toNat) ⟨rfl,0,rfl,Nat.zero_le _,fun j _ hj=>(Nat.not_lt_zero _ hj).elim⟩ ?_
  rintro _ S ⟨rfl,i,rfl,hi,hok⟩ KE hKE
  unfold b167_0
  rw [bin_lss,onB_v]
  refine gd_of (fun hlt=>?_) (fun hge=>?_)
  · have hlt:i < b.size:=by simpa using hlt
    have bad:¬ (33 ≤ (b[i]).toNat ∧ (b[i]).toNat ≤ 126) → wordB b = false:=fun h=>by
      simp only [wordB,Bool.and_eq_false_iff,decide_eq_false_iff_not]
      exact .inl fun h'=>h (h' i hlt)
    rw [ixStr_b hlt,bin_leq,onB_v]
    refine gd_of (fun h1=>⟨by rw [bad (fun h=>by have:=of_decide_eq_true h1; omega)],Keep.refl _⟩) (fun h1=>?_)
    rw [ixStr_b hlt,bin_gtr,onB_v]
    refine gd_of (fun h2=>⟨by rw [bad (fun h=>by have:=of_decide_eq_true h2; omega)],Keep.refl _⟩) (fun h2=>?_)
    have hadd:∀ K:AV → Store → Prop,∀ S,bin .add 0 (.v (.int .i64 (i:Int))) (.v (.int .i64 1)) S K = K (aI (i + 1:Nat)) S:=fun K S=>bin_add (by omega) (by omega) 0
    rw [hadd]
    refine hKE _ _ ⟨rfl,i + 1,rfl,hlt,fun j hj hj'=>?_⟩ (by simp [intA]; omega)
    rcases Nat.lt_or_ge j i with h | h
    · exact hok j hj h
    · have:j = i:=by omega
      subst this
      have h1:=of_decide_eq_false h1
      have h2:=of_decide_eq_false h2
      omega
  · have hge:i = b.size:=by simp at hge; omega
    subst hge
    have hall:decide (∀ i (h:i < b.size),33 ≤ (b[i]).toNat ∧ (b[i]).toNat ≤ 126) = true:=decide_eq_true fun j hj=>hok j hj hj
    have he:decide (b = { data:=#[] }) = decide (b.size = 0):=by
      by_cases h:b.size = 0
      · have:b = { data:=#[] }:=byteArray_ext (Array.eq_empty_of_size_eq_zero h)
        subst this
        rfl
      · have:¬ b = { data:=#[] }:=fun e=>h (by rw [e]; rfl)
        simp [this,h]
    rw [bin_neqS,he,onB_v]
    refine gd_of (fun h1=>?_) (fun h1=>⟨?_,Keep.refl _⟩)
    · have h1:b.size ≠ 0:=by simpa using h1
      rw [lenStr_b,bin_leq]
      refine ⟨?_,Keep.refl _⟩
      simp only [wordB,hall,Bool.true_and,show 0 < b.size by omega,decide_true]
      rw [show decide ((b.size:Int) ≤ 20) = decide (b.size ≤ 20) from decide_eq_decide.2 (by omega)]
    · have h1:b.size = 0:=by simpa using h1
      simp [wordB,h1]
def rankI (k:Int):Int:=if k = 105 then 0 else if k = 108 then 1 else if k = 111 then 2 else if k = 98 then 3 else if k = 99 then 4 else if k = 102 then 5 else -1
def kindS:ByteArray:={ data:=#[105,108,111,98,99,102] }
def kindAt (i:Nat):Int:=[105,108,111,98,99,102].getD i 0
theorem kindS_get {i:Nat} (h:i < 6):∃ h':i < kindS.size,((kindS[i]'h').toNat:Int) = kindAt i:=by
  match i,h with
  | 0,_ | 1,_ | 2,_ | 3,_ | 4,_ | 5,_=>exact ⟨by decide,by decide⟩
theorem rankI_at {k:Int} {i:Nat} (h:i < 6) (hk:kindAt i = k):rankI k = i:=by
  subst hk
  match i,h with
  | 0,_ | 1,_ | 2,_ | 3,_ | 4,_ | 5,_=>decide
theorem rankI_no {k:Int} (h:∀ i,i < 6 → kindAt i ≠ k):rankI k = -1:=by
  have h0:(105:Int) ≠ k:=h 0 (by decide)
  have h1:(108:Int) ≠ k:=h 1 (by decide)
  have h2:(111:Int) ≠ k:=h 2 (by decide)
  have h3:(98:Int) ≠ k:=h 3 (by decide)
  have h4:(99:Int) ≠ k:=h 4 (by decide)
  have h5:(102:Int) ≠ k:=h 5 (by decide)
  simp only [rankI]
  rw [if_neg (Ne.symm h0),if_neg (Ne.symm h1),if_neg (Ne.symm h2),if_neg (Ne.symm h3),if_neg (Ne.symm h4),if_neg (Ne.symm h5)]
theorem ans151 (k:Int):Ans Tryz.prog 151 [.v (.int .u8 k)] (aI (rankI k)):=by
  intro S
  refine ACalls.ans_v (calls151 ?_)
  unfold m151
  refine loop151_0 (fun y S'=>S' = S ∧ ∃ i:Nat,y = aI i ∧ i ≤ 6 ∧ ∀ j,j < i → kindAt j ≠ k)
    (fun y _=>6 - ((intA y).getD 0).toNat) ⟨rfl,0,rfl,Nat.zero_le _,fun j hj=>(Nat.not_lt_zero _ hj).elim⟩ ?_
  rintro _ S ⟨rfl,i,rfl,hi,hno⟩ KE hKE
  unfold b151_0
  rw [lenStr_b,bin_lss,onB_v]
  refine gd_of (fun hlt=>?_) (fun hge=>?_)
  · have hlt:i < 6:=by have:=of_decide_eq_true hlt; exact Int.ofNat_lt.1 this
    obtain ⟨h',he⟩:=kindS_get hlt
    show ixStr (.v (.string kindS)) _ _ _
    rw [ixStr_b h',he,bin_eql,onB_v]
    refine gd_of (fun h1=>⟨?_,Keep.refl _⟩) (fun h1=>?_)
    · rw [rankI_at hlt (of_decide_eq_true h1)]
    · have hadd:∀ K:AV → Store → Prop,∀ S,bin .add 0 (.v (.int .i64 (i:Int))) (.v (.int .i64 1)) S K = K (aI (i + 1:Nat)) S:=fun K S=>bin_add (by omega) (by omega) 0
      rw [hadd]
      refine hKE _ _ ⟨rfl,i + 1,rfl,hlt,fun j hj=>?_⟩ (by simp [intA]; omega)
      rcases Nat.lt_or_ge j i with h | h
      · exact hno j h
      · have:j = i:=by omega
        subst this
        exact of_decide_eq_false h1
  · have hge:i = 6:=by
      have:¬ ((i:Int) < 6):=of_decide_eq_false hge
      omega
    subst hge
    rw [rankI_no hno]
    exact ⟨rfl,Keep.refl _⟩
theorem ans168 (k:Int) (h0:0 ≤ k) (h1:k < 256):Ans Tryz.prog 168 [.v (.int .u8 k)] (aI (rankI k)):=by
  intro S
  refine ACalls.ans_v (calls168 ?_)
  unfold m168 rngS
  refine loop168_0 (fun S'=>Keep S S' ∧ ∃ i:Nat,S'.obj S.n = some (.sit kindS i) ∧ i ≤ 6 ∧ ∀ j,j < i → kindAt j ≠ k)
    (fun S'=>match S'.obj S.n with | some (.sit _ i)=>6 - i | _=>0) ⟨(Keep.refl S).new _,0,by rw [new_self]; rfl,Nat.zero_le _,fun j hj=>(Nat.not_lt_zero _ hj).elim⟩ ?_
  rintro S1 ⟨k1,i,o1,hi,hno⟩ KE hKE
  unfold b168_0 nextM
  simp only [o1]
  refine ⟨fun hlt=>?_,fun hge=>?_⟩
  · have hlt:i < 6:=hlt
    have hdec:(((Utf8.decode kindS i).1:Nat):Int) = kindAt i ∧ (Utf8.decode kindS i).2 = 1:=by
      match i,hlt with
      | 0,_ | 1,_ | 2,_ | 3,_ | 4,_ | 5,_=>exact ⟨by decide,by decide⟩
    rw [hdec.1,hdec.2]
    show extr _ _ _ _
    rw [extr0]
    show onB _ _
    rw [onB_v,gd_true,extr1,extr2,convI_v]
    have hw:IntKind.i32.wrap k = k:=by
      rw [IntKind.wrap_i32]; omega
    rw [hw,bin_eql,onB_v]
    refine gd_of (fun h2=>⟨?_,k1.upd (Nat.le_refl _) _⟩) (fun h2=>?_)
    · rw [rankI_at hlt (of_decide_eq_true h2).symm]
    · refine hKE _ ⟨k1.upd (Nat.le_refl _) _,i + 1,upd_self _ _,hlt,fun j hj=>?_⟩ (by simp only [upd_self,o1]; omega)
      rcases Nat.lt_or_ge j i with h | h
      · exact hno j h
      · have:j = i:=by omega
        subst this
        exact Ne.symm (of_decide_eq_false h2)
  · have hge:i = 6:=by
      have:¬ (i < 6):=hge
      omega
    subst hge
    show extr _ _ _ _
    rw [over,extr0,onB_v,gd_false,rankI_no hno]
    exact ⟨rfl,k1⟩
theorem ans185 (a:Int):Ans Tryz.prog 185 [aI a] (aB false):=by
  intro S
  refine ACalls.ans_v (calls185 ?_)
  unfold m185
  rw [bin_neq]
  exact ⟨by simp,Keep.refl _⟩
def cmpZ (a b:Int):Int:=if a < b then -1 else if b < a then 1 else 0
theorem ans170 (a b:Int):Ans Tryz.prog 170 [aI a,aI b] (aI (cmpZ a b)):=by
  intro S
  refine ACalls.ans_v (calls170 ?_)
  unfold m170
  refine callF_ans (ans185 a) (callF_ans (ans185 b) ?_)
  rw [onB_v,gd_false,onB_v,gd_false,bin_lss,onB_v]
  refine gd_of (fun h=>⟨?_,Keep.refl _⟩) (fun h=>?_)
  · rw [cmpZ,if_pos (of_decide_eq_true h)]
  rw [bin_gtr,onB_v]
  have h:=of_decide_eq_false h
  refine gd_of (fun h2=>⟨?_,Keep.refl _⟩) (fun h2=>⟨?_,Keep.refl _⟩)
  · rw [cmpZ,if_neg h,if_pos (of_decide_eq_true h2)]
  · rw [cmpZ,if_neg h,if_neg (of_decide_eq_false h2)]
theorem ans169 (a b:Int):Ans Tryz.prog 169 [.l [[aI a],[aI b]]] (aI (if a ≠ 0 then a else b)):=by
  intro S
  refine ACalls.ans_v (calls169 ?_)
  unfold m169
  rw [lenS_l]
  refine loop169_0 (fun y S'=>S' = S ∧ ∃ i:Nat,y = aI i ∧ i ≤ 2 ∧ (1 ≤ i → a = 0) ∧ (2 ≤ i → b = 0))
    (fun y _=>2 - ((intA y).getD 0).toNat) ⟨rfl,0,rfl,Nat.zero_le _,fun h=>by omega,fun h=>by omega⟩ ?_
  rintro _ S ⟨rfl,i,rfl,hi,h1,h2⟩ KE hKE
  unfold b169_0
  rw [bin_lss,onB_v]
  refine gd_of (fun hlt=>?_) (fun hge=>?_)
  · have hlt:i < 2:=by have:=of_decide_eq_true hlt; exact Int.ofNat_lt.1 this
    have hadd:∀ K:AV → Store → Prop,∀ S,bin .add 0 (.v (.int .i64 (i:Int))) (.v (.int .i64 1)) S K = K (aI (i + 1:Nat)) S:=fun K S=>bin_add (by omega) (by omega) 0
    match i,hlt with
    | 0,_ =>
      rw [show ∀ K:AV → Store → Prop,ixS 3 1 (.l [[aI a],[aI b]]) (aI ((0:Nat):Int)) S K = K (.q [aI a] 0) S from fun K=>ixS_l (es:=[[aI a],[aI b]]) (i:=0) (by simp) rfl,ld1_qj rfl,bin_neq,onB_v]
      refine gd_of (fun h=>⟨?_,Keep.refl _⟩) (fun h=>?_)
      · rw [if_pos (by simpa using h)]
      · rw [hadd]
        exact hKE _ _ ⟨rfl,1,rfl,by decide,fun _=>by simpa using h,fun h=>by omega⟩ (by simp [intA])
    | 1,_ =>
      have ha:=h1 (Nat.le_refl _)
      rw [show ∀ K:AV → Store → Prop,ixS 3 1 (.l [[aI a],[aI b]]) (aI ((1:Nat):Int)) S K = K (.q [aI b] 0) S from fun K=>ixS_l (es:=[[aI a],[aI b]]) (i:=1) (by simp) rfl,ld1_qj rfl,bin_neq,onB_v]
      refine gd_of (fun h=>⟨?_,Keep.refl _⟩) (fun h=>?_)
      · rw [if_neg (by simp [ha])]
      · rw [hadd]
        exact hKE _ _ ⟨rfl,2,rfl,by decide,fun _=>ha,fun _=>by simpa using h⟩ (by simp [intA])
  · have hge:i = 2:=by
      have:¬ ((i:Int) < 2):=of_decide_eq_false hge
      omega
    subst hge
    refine ⟨?_,Keep.refl _⟩
    rw [h1 (by decide),h2 (by decide)]
    rfl
structure Na where
  kind:Int
  pos:Int
  text:ByteArray
  deriving DecidableEq
structure Ci where
  inputs:Int
  latches:List (Int × Int)
  ands:List (Int × Int)
  outs:List Int
  bads:List Int
  cons:List Int
  fair:List Int
  names:List Na
def Na.row (x:Na):List AV:=[.v (.int .u8 x.kind),aI x.pos,.v (.string x.text)]
def nL (l:List Na):AV:=.l (l.map Na.row)
def Ci.cells (c:Ci):List AV:=[aI c.inputs,pL c.latches,pL c.ands,aL aI c.outs,aL aI c.bads,aL aI c.cons,aL aI c.fair,nL c.names]
def Ci.av (c:Ci):AV:=.a c.cells
def Ci.gr (c:Ci):Gr:=⟨IntKind.i64.wrap (c.inputs + c.latches.length),c.ands⟩
structure Ci.ok (c:Ci):Prop where
  inp:i64R c.inputs
  llen:c.latches.length ≤ 1000000
  alen:c.ands.length ≤ 1000000
  lats:∀ p ∈ c.latches,i64R p.1 ∧ i64R p.2
  pairs:∀ p ∈ c.ands,i64R p.1 ∧ i64R p.2
  outs:(∀ x ∈ c.outs,i64R x) ∧ c.outs.length ≤ 9223372036854775807
  bads:(∀ x ∈ c.bads,i64R x) ∧ c.bads.length ≤ 9223372036854775807
  cons:(∀ x ∈ c.cons,i64R x) ∧ c.cons.length ≤ 9223372036854775807
  fair:(∀ x ∈ c.fair,i64R x) ∧ c.fair.length ≤ 9223372036854775807
  names:∀ x ∈ c.names,0 ≤ x.kind ∧ x.kind < 256 ∧ i64R x.pos ∧ x.text.size ≤ 9223372036854775807
  nlen:c.names.length ≤ 1000000
theorem wrapR (n:Int):i64R (IntKind.i64.wrap n):=by
  unfold i64R
  rw [IntKind.wrap_i64]; omega
theorem Ci.ok.gr {c:Ci} (h:c.ok):c.gr.ok:=⟨wrapR _,h.alen,h.pairs⟩
theorem bin_addW {a b:Int} (kd:Nat) {S:Store} {K:AV → Store → Prop}:bin .add kd (aI a) (aI b) S K = K (aI (IntKind.i64.wrap (a + b))) S:=by
  simp [bin,b2,isSh,cmpI,ariI]
theorem ans84 (c:Ci):Ans Tryz.prog 84 [c.av] c.gr.av:=by
  intro S
  refine ACalls.tree (calls84 ?_)
  unfold m84
  refine boxA_of rfl fun S1 k1 n1 o1=>?_
  refine boxA_of rfl fun S2 k2 n2 o2=>?_
  have p1:S2.obj S.n = _:=(k2.2 S.n (by omega)).trans o1
  rw [shift_p,ld1_p p1 rfl rfl,shift_p,ld1_p p1 rfl rfl,lenS_pL,bin_addW,shift_p,ld1_p p1 rfl rfl,bld_of (cs:=c.gr.cells) rfl]
  refine stA_of o2 rfl rfl fun S3 n3 o3 f3=>?_
  rw [ldN_p (n:=2) o3 rfl]
  exact ⟨_,rfl,(k1.trans k2).st (by omega) n3 f3,c.gr.tree _ _⟩
theorem ans41 (c:Ci):Ans Tryz.prog 41 [c.av] c.gr.av:=by
  intro S
  refine ACalls.tree (calls41 ?_)
  unfold m41
  refine boxA_of rfl fun S1 k1 n1 o1=>?_
  refine boxA_of rfl fun S2 k2 n2 o2=>?_
  have p1:S2.obj S.n = _:=(k2.2 S.n (by omega)).trans o1
  rw [shift_p,ld1_p p1 rfl rfl,shift_p,ld1_p p1 rfl rfl,lenS_pL,bin_addW,shift_p,ld1_p p1 rfl rfl,bld_of (cs:=c.gr.cells) rfl]
  refine stA_of o2 rfl rfl fun S3 n3 o3 f3=>?_
  rw [ldN_p (n:=2) o3 rfl]
  exact ⟨_,rfl,(k1.trans k2).st (by omega) n3 f3,c.gr.tree _ _⟩
def Ci.many (c:Ci) (k:Int):Int:=if k = 105 then c.inputs else if k = 108 then c.latches.length else if k = 111 then c.outs.length else if k = 98 then c.bads.length else if k = 99 then c.cons.length else if k = 102 then c.fair.length else 0
def Ci.manyE (c:Ci):List (Key × AV):=[(.i 105,aI c.inputs),(.i 108,aI c.latches.length),(.i 111,aI c.outs.length),(.i 98,aI c.bads.length),(.i 99,aI c.cons.length),(.i 102,aI c.fair.length)]
theorem keyI (k:IntKind) (a:Int):keyA (.i k) (.v (.int k a)) = some (.i a):=by simp [keyA]
theorem ans127 (c:Ci):Ans Tryz.prog 127 [c.av] (.mt (.i .i32) c.manyE):=by
  intro S
  refine ACalls.tree (calls127 ?_)
  unfold m127
  refine boxA_of rfl fun S1 k1 n1 o1=>?_
  unfold mkM
  show shift _ _ _ _
  have p1:(S1.new (.map (.i .i32) [] true)).obj S.n = _:=(new_lt (by omega)).trans o1
  have u:∀ {es:List (Key × AV)},(Store.upd (S1.new (.map (.i .i32) [] true)) S1.n (.map (.i .i32) es true)).obj S.n = _:=fun {es}=>(upd_ne (by omega)).trans p1
  rw [shift_p,ld1_p p1 rfl rfl,updM_m (new_self _) (keyI _ _)]
  rw [shift_p,ld1_p u rfl rfl,lenS_pL,updM_m (upd_self _ _) (keyI _ _),upd_upd]
  rw [shift_p,ld1_p u rfl rfl,lenS_aL,updM_m (upd_self _ _) (keyI _ _),upd_upd]
  rw [shift_p,ld1_p u rfl rfl,lenS_aL,updM_m (upd_self _ _) (keyI _ _),upd_upd]
  rw [shift_p,ld1_p u rfl rfl,lenS_aL,updM_m (upd_self _ _) (keyI _ _),upd_upd]
  rw [shift_p,ld1_p u rfl rfl,lenS_aL,updM_m (upd_self _ _) (keyI _ _),upd_upd]
  refine ⟨_,rfl,(k1.new _).upd (by omega) _,.m' S1.n (.i .i32) c.manyE c.manyE ?_ rfl (fun i e e2 h h2=>by rw [h] at h2; cases h2; rfl) (fun i e e2 h h2=>?_)⟩
  · rw [frz_ofM (upd_self _ _)]
    have:newer S.n S1.n = true:=by simp [newer]; omega
    rw [this]
    rfl
  · rw [h] at h2; cases h2
    match i with
    | 0 | 1 | 2 | 3 | 4 | 5=>cases h; exact .v _
    | i + 6=>simp [Ci.manyE] at h
theorem lkp_many (c:Ci) (k:Int):((lkp c.manyE (.i k)).getD (aI 0)) = aI (c.many k):=by
  by_cases h0:k = 105
  · subst h0; rfl
  by_cases h1:k = 108
  · subst h1; rfl
  by_cases h2:k = 111
  · subst h2; rfl
  by_cases h3:k = 98
  · subst h3; rfl
  by_cases h4:k = 99
  · subst h4; rfl
  by_cases h5:k = 102
  · subst h5; rfl
  have:kix c.manyE (.i k) = none:=by
    rw [kix_none]
    simp [Ci.manyE,h0,h1,h2,h3,h4,h5]
  simp [lkp,this,Ci.many,h0,h1,h2,h3,h4,h5]
theorem rank_many {c:Ci} {k:Int} (h:¬ rankI k < 0):c.many k = [c.inputs,c.latches.length,c.outs.length,c.bads.length,c.cons.length,c.fair.length].getD (rankI k).toNat 0:=by
  unfold rankI at h ⊢
  unfold Ci.many
  repeat' split
  all_goals first | rfl | (exfalso; apply h; simp [*])
theorem many_no {c:Ci} {k:Int} (h:rankI k < 0):c.many k = 0:=by
  unfold rankI at h
  unfold Ci.many
  repeat' split
  all_goals first | rfl | (simp [*] at h)
theorem rank_lt (k:Int):rankI k < 6:=by
  unfold rankI
  repeat' split
  all_goals decide
theorem bsl6 {e:Nat} {z a b c d f g:Int} {S:Store} {K:AV → Store → Prop} (k:K (.l [[aI a],[aI b],[aI c],[aI d],[aI f],[aI g]]) S):bslN e 1 6 [aI z] [(0,aI a),(1,aI b),(2,aI c),(3,aI d),(4,aI f),(5,aI g)] S K:=by
  refine ⟨[aI a,aI b,aI c,aI d,aI f,aI g],?_,.inr ?_⟩
  · simp [fillA,cells_of_one,spl,List.range_succ,cellsOf,AV.one,Value.oneCell']
  · simpa [chunks,List.range_succ] using k
theorem ans150 (c:Ci) (k:Int):Ans Tryz.prog 150 [c.av,.v (.int .u8 k)] (aI (c.many k)):=by
  intro S
  refine ACalls.ans_v (calls150 ?_)
  unfold m150
  refine boxA_of rfl fun S1 k1 n1 o1=>?_
  refine callF_ans (ans151 k) ?_
  rw [bin_lss,onB_v]
  refine gd_of (fun h=>⟨?_,k1⟩) (fun h=>?_)
  · rw [many_no (of_decide_eq_true h)]
  have h:¬ rankI k < 0:=of_decide_eq_false h
  rw [shift_p,ld1_p o1 rfl rfl,shift_p,ld1_p o1 rfl rfl,lenS_pL,shift_p,ld1_p o1 rfl rfl,lenS_aL,shift_p,ld1_p o1 rfl rfl,lenS_aL,shift_p,ld1_p o1 rfl rfl,lenS_aL,shift_p,ld1_p o1 rfl rfl,lenS_aL]
  refine bsl6 ?_
  obtain ⟨r,hr⟩:=Int.eq_ofNat_of_zero_le (show 0 ≤ rankI k by omega)
  have hr6:r < 6:=by have:=rank_lt k; omega
  rw [rank_many h,hr]
  match r,hr6 with
  | 0,_ | 1,_ | 2,_ | 3,_ | 4,_ | 5,_ =>
    rw [ixS_l (by simp) (by rfl),ld1_qj rfl]
    exact ⟨rfl,k1⟩
end Go.Proofs.YtolgpokppnajdaaGreat.G
set_option linter.unusedVariables false
set_option linter.unusedSimpArgs false
namespace Go.Proofs.YtolgpokppnajdaaGreat.G
open Go Go.Ab
set_option maxRecDepth 100000
noncomputable def c166:Code:=(Tryz.f166.body).getD .skip
noncomputable def r166:List ResultVar:=Tryz.f166.results.toList
def env166_0 (y0 y1 y7 y8:AV):List AV:=[y0,y1,y7,y8]
def lv166_0:List Nat:=[0,1,7,8]
def ms166:List (List Nat):=[lv166_0,[]]
def m166 (x0 x1:AV) (S:Store) (Q:PoT):Prop :=
  lenS x0 S fun v1 S=>loopV lv166_0 (vc Tryz.prog (c166.at_ [1,0,1,0,0]) (ms166.drop 1)) 19 (env166_0 x0 x1 v1 (.v (.int .i64 0))) S (blockK 0 (seqK (vc Tryz.prog (c166.at_ [1,1]) (ms166.drop 1)) (bodyK Tryz.prog r166 Q)))
theorem calls166 {x0 x1:AV} {S:Store} {Q:PoT} (h:m166 x0 x1 S Q):ACalls Tryz.prog 166 [x0,x1] S Q :=
  calls_of_vc (fn:=Tryz.f166) (c:=c166) (n:=19) Tryz.func166 (by kernel_rfl) (by kernel_rfl) (by kernel_rfl) ms166 (Eq.mpr (by kernel_rfl) h)
def b166_0 (y0 y1 y7 y8:AV) (S:Store) (KE0:KeT) (Q:PoT):Prop :=
  bin .lss 0 y8 y7 S fun v2 S=>onB v2 fun b3=>gd b3 (ixS 3 1 y0 y8 S fun v4 S=>ld1 v4 S fun v5 S=>callV Tryz.prog y1 [v5] S (fun v6 S=>onB v6 fun b7=>gd b7 (Q (.ret y8) S) (bin .add 0 y8 (.v (.int .i64 1)) S fun v8 S=>KE0 19 (env166_0 y0 y1 y7 v8) S)) (fun u S=>Q (.pan u) S)) (Q (.ret (.v (.int .i64 (-1)))) S)
theorem b166_0_eq (y0 y1 y7 y8:AV) (S:Store) (KE0:KeT) (Q:PoT):vc Tryz.prog (c166.at_ [1,0,1,0,0]) (ms166.drop 1) (mkE 19 lv166_0 (env166_0 y0 y1 y7 y8)) S (thenK (fgK lv166_0 KE0) (blockK 0 (seqK (vc Tryz.prog (c166.at_ [1,1]) (ms166.drop 1)) (bodyK Tryz.prog r166 Q)))) = b166_0 y0 y1 y7 y8 S KE0 Q:=by kernel_rfl
theorem loop166_0 {y0 y1 y7:AV} {y80:AV} {S:Store} {Q:PoT} (I:AV → Store → Prop) (μ:AV → Store → Nat) (h0:I y80 S)
    (hr:∀ (y8:AV) (S:Store),I y8 S → ∀ KE0:KeT,(∀ (y8':AV) (S':Store),I y8' S' → μ y8' S' < μ y8 S → KE0 19 (env166_0 y0 y1 y7 y8') S') → b166_0 y0 y1 y7 y8 S KE0 Q) :
    loopV lv166_0 (vc Tryz.prog (c166.at_ [1,0,1,0,0]) (ms166.drop 1)) 19 (env166_0 y0 y1 y7 y80) S (blockK 0 (seqK (vc Tryz.prog (c166.at_ [1,1]) (ms166.drop 1)) (bodyK Tryz.prog r166 Q))):=by
  refine ⟨fun n e S=>n = 19 ∧ ∃ y8:AV,e = (env166_0 y0 y1 y7 y8) ∧ I y8 S,fun _ e S=>μ (e.getD 3 .j) S,?_,?_⟩
  · exact ⟨_,_,Wk.refl _ _,rfl,_,rfl,h0⟩
  · rintro _ e S ⟨rfl,y8,rfl,hI⟩
    exact (b166_0_eq _ _ _ _ _ _ _).mpr (hr y8 S hI _ (fun y8' S' hI' hm=>⟨_,_,Wk.refl _ _,⟨rfl,_,rfl,hI'⟩,hm⟩))
noncomputable def c132:Code:=(Tryz.f132.body).getD .skip
def ms132:List (List Nat):=[[]]
def m132 (x0 x1:AV) (S:Store) (Q:PoT):Prop :=
  callF Tryz.prog 166 [x0,x1] S Q fun v1 S=>bin .geq 0 v1 (.v (.int .i64 0)) S fun v2 S=>Q (.ret v2) S
theorem calls132 {x0 x1:AV} {S:Store} {Q:PoT} (h:m132 x0 x1 S Q):ACalls Tryz.prog 132 [x0,x1] S Q :=
  calls_of_vc (fn:=Tryz.f132) (c:=c132) (n:=9) Tryz.func132 (by kernel_rfl) (by kernel_rfl) (by kernel_rfl) ms132 (Eq.mpr (by kernel_rfl) h)
end Go.Proofs.YtolgpokppnajdaaGreat.G
set_option linter.unusedVariables false
set_option linter.unusedSimpArgs false
namespace Go.Proofs.YtolgpokppnajdaaGreat.G
open Go Go.Ab
def idxOf (o:Option Nat):Int:=match o with | some i=>i | none=>-1
theorem find_at {α:Type} {g:α → Bool} {l:List α} {i:Nat} (hi:i < l.length) (hg:g l[i] = true) (h:∀ k (hk:k < i),g (l[k]'(Nat.lt_trans hk hi)) = false):l.findIdx? g = some i:=by
  rw [List.findIdx?_eq_some_iff_getElem]
  exact ⟨hi,hg,fun j hj=>by simp [h j hj]⟩
theorem find_none {α:Type} {g:α → Bool} {l:List α} (h:∀ k (hk:k < l.length),g l[k] = false):l.findIdx? g = none:=by
  rw [List.findIdx?_eq_none_iff]
  intro x hx
  obtain ⟨k,hk,rfl⟩:=List.mem_iff_getElem.1 hx
  exact h k hk
theorem at166 {α:Type} {f:α → AV} {l:List α} (hl:l.length ≤ 9223372036854775807) {g:α → Bool} {fn:FuncId} {fs cs:List AV} {S:Store}
    (hf:∀ x,x ∈ l → AnsAt Tryz.prog fn (fs ++ [f x] ++ cs) S (aB (g x))):AnsAt Tryz.prog 166 [aL f l,.f (.func fn) fs cs] S (aI (idxOf (l.findIdx? g))):=by
  refine calls166 ?_
  unfold m166
  rw [lenS_aL]
  refine loop166_0 (fun y S'=>S' = S ∧ ∃ i:Nat,y = aI i ∧ i ≤ l.length ∧ ∀ k (hk:k < l.length),k < i → g l[k] = false) (fun y _=>l.length - ((intA y).getD 0).toNat) ⟨rfl,0,rfl,Nat.zero_le _,fun k _ h=>absurd h (Nat.not_lt_zero _)⟩ ?_
  rintro _ _ ⟨rfl,i,rfl,hi,hk⟩ KE hKE
  unfold b166_0 aI
  rw [bin_lss,onB_v]
  refine gd_of (fun h=>?_) (fun h=>?_)
  · have hlt:i < l.length:=by simpa using h
    rw [ixS_aL hlt,ld1_q]
    refine callV_at (hf _ (List.getElem_mem hlt)) ?_
    unfold aB
    rw [onB_v]
    refine gd_of (fun hg=>⟨?_,rfl⟩) (fun hg=>?_)
    · rw [find_at hlt hg (fun k hk'=>hk k _ hk')]; rfl
    · rw [bin_add (by omega) (by omega)]
      refine hKE _ _ ⟨rfl,i + 1,rfl,hlt,fun k hk1 hk2=>?_⟩ ?_
      · by_cases e:k = i
        · subst e; exact hg
        · exact hk k hk1 (by omega)
      · simp [intA,aI]; omega
  · have hge:i = l.length:=by simp at h; omega
    subst hge
    rw [find_none (fun k hk'=>hk k hk' hk')]
    exact ⟨rfl,rfl⟩
theorem idx_any {α:Type} (g:α → Bool) (l:List α):decide (0 ≤ idxOf (l.findIdx? g)) = l.any g:=by
  cases h:l.findIdx? g with
  | none =>
    rw [List.findIdx?_eq_none_iff] at h
    have:l.any g = false:=by simpa [List.any_eq_false] using h
    rw [this]; rfl
  | some i =>
    rw [List.findIdx?_eq_some_iff_getElem] at h
    obtain ⟨hi,hg,_⟩:=h
    have:l.any g = true:=List.any_eq_true.2 ⟨_,List.getElem_mem hi,by simpa using hg⟩
    rw [this]
    simp [idxOf]
theorem at132 {α:Type} {f:α → AV} {l:List α} (hl:l.length ≤ 9223372036854775807) {g:α → Bool} {fn:FuncId} {fs cs:List AV} {S:Store}
    (hf:∀ x,x ∈ l → AnsAt Tryz.prog fn (fs ++ [f x] ++ cs) S (aB (g x))):AnsAt Tryz.prog 132 [aL f l,.f (.func fn) fs cs] S (aB (l.any g)):=by
  refine calls132 ?_
  unfold m132
  refine callF_at (at166 hl hf) ?_
  unfold aI
  rw [bin_geq,idx_any]
  exact ⟨rfl,rfl⟩
structure Sp where
  bits:Int
  valid:List Bool
  initial:List Bool
  next:List (List Int)
  fair:List (List Bool)
def fits (s:Sp) (l:List (List Bool)):Bool :=
  decide (s.next.length = s.valid.length) && s.fair.all (fun p=>decide (p.length = s.valid.length)) && l.all (fun p=>decide (p.length = s.valid.length)) && s.next.all (fun x=>x.all fun i=>decide (0 ≤ i) && decide (i < s.valid.length))
def keyOf (b:ByteArray):Key:=.s b.data.toList
theorem keyOf_inj {a b:ByteArray} (h:keyOf a = keyOf b):a = b:=by
  simp only [keyOf,Key.s.injEq] at h
  exact byteArray_ext (Array.toList_inj.1 h)
theorem ins_keys {es:List (Key × AV)} {x k:Key} {v:AV}:k ∈ (insM es x v).map (·.1) ↔ k ∈ es.map (·.1) ∨ k = x:=by
  induction es with
  | nil=>simp [insM]
  | cons e es ih =>
    simp only [insM]
    split
    · rename_i h
      subst h
      simp only [List.map_cons,List.mem_cons]
      constructor
      · rintro (h | h)
        · exact .inr h
        · exact .inl (.inr h)
      · rintro ((h | h) | h)
        · exact .inl h
        · exact .inr h
        · exact .inl h
    · simp only [List.map_cons,List.mem_cons,ih,or_assoc]
theorem ins_len_in {es:List (Key × AV)} {x:Key} {v:AV} (h:x ∈ es.map (·.1)):(insM es x v).length = es.length:=by
  induction es with
  | nil=>simp at h
  | cons e es ih =>
    simp only [insM]
    split
    · rfl
    · rename_i hne
      have:x ∈ es.map (·.1):=by
        rcases List.mem_cons.1 h with h | h
        · exact absurd h.symm hne
        · exact h
      simp [ih this]
structure Tells (es:List (Key × AV)) (l:List Key):Prop where
  mem:∀ k,k ∈ es.map (·.1) ↔ k ∈ l
  le:es.length ≤ l.length
  eq:es.length = l.length ↔ l.Nodup
theorem Tells.nil:Tells [] []:=⟨fun k=>by simp,Nat.le_refl _,by simp⟩
theorem Tells.add {es:List (Key × AV)} {l:List Key} (h:Tells es l) (x:Key) (v:AV):Tells (insM es x v) (l ++ [x]) where
  mem k:=by rw [ins_keys,h.mem,List.mem_append,List.mem_singleton]
  le:=by
    have:=h.le
    by_cases c:x ∈ es.map (·.1)
    · rw [ins_len_in c]; simp; omega
    · rw [insM_none (kix_none.2 c)]; simp; omega
  eq:=by
    have hle:=h.le
    rw [List.nodup_append]
    by_cases c:x ∈ es.map (·.1)
    · rw [ins_len_in c]
      constructor
      · intro e; simp at e; omega
      · rintro ⟨_,_,h3⟩
        exact absurd rfl (h3 x ((h.mem x).1 c) x (by simp))
    · rw [insM_none (kix_none.2 c)]
      simp only [List.length_append,List.length_singleton,Nat.add_right_cancel_iff,h.eq]
      constructor
      · intro e
        refine ⟨e,by simp,fun a ha b hb=>?_⟩
        have:b = x:=by simpa using hb
        subst this
        rintro rfl
        exact c ((h.mem _).2 ha)
      · exact fun e=>e.1
def nameOk (c:Ci) (x:Na):Prop:=wordB x.text = true ∧ 0 ≤ x.pos ∧ x.pos < c.many x.kind
def nameLt (y x:Na):Prop:=rankI y.kind < rankI x.kind ∨ rankI y.kind = rankI x.kind ∧ y.pos < x.pos
structure NamesR (c:Ci) (n:Nat):Prop where
  ok:∀ i (h:i < c.names.length),i < n → nameOk c c.names[i]
  lt:∀ i (h:i + 1 < c.names.length),i + 1 < n → nameLt c.names[i] c.names[i + 1]
  nodup:((c.names.take n).map fun x=>keyOf x.text).Nodup
open Classical in
noncomputable def namesB (c:Ci):Bool:=decide (NamesR c c.names.length)
theorem NamesR.zero (c:Ci):NamesR c 0:=⟨fun _ _ h=>by omega,fun _ _ h=>by omega,by simp⟩
theorem NamesR.no_ok {c:Ci} {i:Nat} (h:i < c.names.length) (hn:¬ nameOk c c.names[i]):namesB c = false:=by
  simp only [namesB,decide_eq_false_iff_not]
  exact fun h'=>hn (h'.ok i h h)
theorem NamesR.no_lt {c:Ci} {i:Nat} (h:i + 1 < c.names.length) (hn:¬ nameLt c.names[i] c.names[i + 1]):namesB c = false:=by
  simp only [namesB,decide_eq_false_iff_not]
  exact fun h'=>hn (h'.lt i h h)
@[simp] theorem lenS_nL (l:List Na) {S:Store} {K:AV → Store → Prop}:lenS (nL l) S K = K (aI l.length) S:=by simp [nL]
theorem ixS_nL {l:List Na} {e i:Nat} {S:Store} {K:AV → Store → Prop} (h:i < l.length):ixS e 3 (nL l) (aI i) S K = K (.q l[i].row 0) S:=by
  unfold nL
  rw [ixS_l (by simpa using h) (by simp [Na.row])]
  simp
theorem ldN_q3 {u v z:AV} {S:Store} {K:AV → Store → Prop}:ldN 3 (.q [u,v,z] 0) S K = K (.a [u,v,z]) S:=by simp [ldN,rdN,place]
theorem keyS (b:ByteArray):keyA .s (.v (.string b)) = some (keyOf b):=rfl
theorem lkM_mt {S:Store} {kk:KK} {z:AV} {c:Bool} {k:AV} {key:Key} {es:List (Key × AV)} {K:AV → Store → Prop} (hk:keyA kk k = some key):lkM kk z c (.mt kk es) k S K = K (lkV z c (lkp es key)) S:=by
  simp [lkM,entsA,hk]
theorem lkV_many (c:Ci) (k:Int):lkV (aI 0) false (lkp c.manyE (.i k)) = aI (c.many k):=lkp_many c k
theorem wrap32 {k:Int} (h0:0 ≤ k) (h1:k < 256):IntKind.i32.wrap k = k:=by rw [IntKind.wrap_i32]; omega
theorem ans133 {c:Ci} (hc:c.ok):Ans Tryz.prog 133 [c.av] (aB (namesB c)):=by
  intro S
  refine ACalls.ans_v (calls133 ?_)
  have hlen:=hc.nlen
  unfold m133
  refine boxA_of rfl fun S1 k1 n1 o1=>?_
  rw [ldN_p (n:=8) o1 rfl]
  refine callF_ans (ans127 c) ?_
  unfold mkM
  show shift _ _ _ _
  have k2:=k1.new (.map .s [] true)
  have p2:(S1.new (.map .s [] true)).obj S.n = _:=(new_lt (by omega)).trans o1
  rw [shift_p,ld1_p p2 rfl rfl,lenS_nL]
  refine loop133_0 (fun y S'=>Keep S S' ∧ S1.n < S'.n ∧ S'.obj S.n = some (.cells 42 [c.cells] true) ∧ ∃ i:Nat,y = aI i ∧ i ≤ c.names.length ∧
      (∀ j (h:j < c.names.length),j < i → nameOk c c.names[j]) ∧ (∀ j (h:j + 1 < c.names.length),j + 1 < i → nameLt c.names[j] c.names[j + 1]) ∧ ∃ es,S'.obj S1.n = some (.map .s es true) ∧ Tells es ((c.names.take i).map fun x=>keyOf x.text))
    (fun y _=>c.names.length - ((intA y).getD 0).toNat) ⟨k2,by simp,p2,0,rfl,Nat.zero_le _,fun j _ h=>by omega,fun j _ h=>by omega,[],new_self _,by simpa using Tells.nil⟩ ?_
  rintro _ S3 ⟨k3,n3,p3,i,rfl,hi,hok,hltn,es,m3,ht⟩ KE hKE
  unfold b133_0
  rw [bin_lss,onB_v]
  refine gd_of (fun hlt=>?_) (fun hge=>?_)
  · have hlt:i < c.names.length:=by simpa using hlt
    have hx:=hc.names _ (List.getElem_mem hlt)
    rw [ixS_nL hlt]
    generalize hxe:c.names[i] = x at *
    have hno:=fun h=>NamesR.no_ok hlt (hxe ▸ h)
    unfold Na.row
    rw [ldN_q3]
    refine boxA_of rfl fun S4 k4 n4 o4=>?_
    refine stA_of o4 rfl rfl fun S5 n5 o5 f5=>?_
    have k5:Keep S S5:=(k3.trans k4).st (by have:=k3.1; omega) n5 f5
    have p5:S5.obj S.n = _:=(f5 _ (by omega)).trans ((k4.2 _ (by omega)).trans p3)
    have m5:S5.obj S1.n = _:=(f5 _ (by omega)).trans ((k4.2 _ (by omega)).trans m3)
    rw [shift_p,ld1_p o5 rfl rfl]
    refine callF_ans (ans167 x.text hx.2.2.2) ?_
    rw [un_not,onB_v]
    refine gd_of (fun h1=>⟨?_,k5⟩) (fun h1=>?_)
    · rw [hno (fun h=>by rw [h.1] at h1; cases h1)]
    rw [shift_p,ld1_p o5 rfl rfl]
    refine callF_ans (ans168 x.kind hx.1 hx.2.1) ?_
    rw [bin_lss,onB_v]
    refine gd_of (fun h2=>⟨?_,k5⟩) (fun h2=>?_)
    · rw [hno (fun h=>by have:=h.2; rw [many_no (of_decide_eq_true h2)] at this; omega)]
    rw [shift_p,ld1_p o5 rfl rfl,bin_lss,onB_v]
    refine gd_of (fun h3=>⟨?_,k5⟩) (fun h3=>?_)
    · rw [hno (fun h=>by have:=h.2; have:=of_decide_eq_true h3; omega)]
    rw [shift_p,ld1_p o5 rfl rfl,shift_p,ld1_p o5 rfl rfl,convI_v,wrap32 hx.1 hx.2.1,lkM_mt (keyI _ _)]
    rw [lkV_many]
    rw [bin_geq,onB_v]
    refine gd_of (fun h4=>⟨?_,k5⟩) (fun h4=>?_)
    · rw [hno (fun h=>by have:=h.2; have:=of_decide_eq_true h4; omega)]
    have hgood:nameOk c x:=⟨by simpa using h1,by have:=of_decide_eq_false h3; omega,by have:=of_decide_eq_false h4; omega⟩
    rw [shift_p,ld1_p o5 rfl rfl,bld_of (cs:=[]) rfl,updM_m m5 (keyS _)]
    have k6:=k5.upd (id:=S1.n) (by omega) (.map .s (insM es (keyOf x.text) (.a [])) true)
    have p6:(Store.upd S5 S1.n (.map .s (insM es (keyOf x.text) (.a [])) true)).obj S.n = _:=(upd_ne (by omega)).trans p5
    have o6:(Store.upd S5 S1.n (.map .s (insM es (keyOf x.text) (.a [])) true)).obj S3.n = _:=(upd_ne (by omega)).trans o5
    have m6:(Store.upd S5 S1.n (.map .s (insM es (keyOf x.text) (.a [])) true)).obj S1.n = _:=upd_self _ _
    have n6:S4.n = (Store.upd S5 S1.n (.map .s (insM es (keyOf x.text) (.a [])) true)).n:=n5.symm
    have n6':S3.n + 1 = (Store.upd S5 S1.n (.map .s (insM es (keyOf x.text) (.a [])) true)).n:=by rw [← n6,n4]
    generalize Store.upd S5 S1.n (.map .s (insM es (keyOf x.text) (.a [])) true) = S6 at *
    have ht':Tells (insM es (keyOf x.text) (.a [])) ((c.names.take (i + 1)).map fun x=>keyOf x.text):=by
      rw [List.take_add_one,List.getElem?_eq_getElem hlt,hxe,List.map_append]
      exact ht.add _ _
    have hok':∀ j (h:j < c.names.length),j < i + 1 → nameOk c c.names[j]:=fun j hj hj'=>by
      rcases Nat.lt_or_ge j i with h | h
      · exact hok j hj h
      · have:j = i:=by omega
        subst this
        rw [hxe]; exact hgood
    have hadd:∀ K:AV → Store → Prop,∀ S,bin .add 0 (.v (.int .i64 (i:Int))) (.v (.int .i64 1)) S K = K (aI (i + 1:Nat)) S:=fun K S=>bin_add (by omega) (by omega) 0
    have hμ:c.names.length - ((intA (aI (i + 1:Nat))).getD 0).toNat < c.names.length - ((intA (aI i)).getD 0).toNat:=by simp [intA]; omega
    rw [bin_eql,onB_v]
    refine gd_of (fun h5=>?_) (fun h5=>?_)
    · have h5:i = 0:=by have:=of_decide_eq_true h5; omega
      rw [hadd]
      exact hKE _ _ ⟨k6,by omega,p6,i + 1,rfl,hlt,hok',fun j hj hj'=>by omega,_,m6,ht'⟩ hμ
    · have h5:i ≠ 0:=by have:=of_decide_eq_false h5; omega
      obtain ⟨j,rfl⟩:∃ j,i = j + 1:=⟨i - 1,by omega⟩
      have hj:j < c.names.length:=by omega
      have hy:=hc.names _ (List.getElem_mem hj)
      have hsub:∀ K:AV → Store → Prop,∀ S,bin .sub 0 (.v (.int .i64 ((j + 1:Nat):Int))) (.v (.int .i64 1)) S K = K (aI j) S:=fun K S=>(bin_sub (by omega) (by omega) 0).trans (by rw [show ((j + 1:Nat):Int) - 1 = j by omega])
      rw [shift_p,ld1_p p6 rfl rfl,hsub,ixS_nL hj]
      have hnl:¬ nameLt c.names[j] x → namesB c = false:=fun h=>NamesR.no_lt hlt (by rw [hxe]; exact h)
      generalize hye:c.names[j] = y at *
      unfold Na.row
      rw [ldN_q3]
      refine boxA_of rfl fun S7 k7 n7 o7=>?_
      refine stA_of o7 rfl rfl fun S8 n8 o8 f8=>?_
      have k8:Keep S S8:=(k6.trans k7).st (by have:=k6.1; omega) n8 f8
      have p8:S8.obj S.n = _:=(f8 _ (by omega)).trans ((k7.2 _ (by omega)).trans p6)
      have m8:S8.obj S1.n = _:=(f8 _ (by omega)).trans ((k7.2 _ (by omega)).trans m6)
      have q8:S8.obj S3.n = _:=(f8 _ (by omega)).trans ((k7.2 _ (by omega)).trans o6)
      show ∃ q50:AV,_
      refine ⟨_,by rw [shift_p]; exact ⟨rfl,rfl⟩,?_⟩
      refine ⟨_,by rw [ld1_p o8 rfl rfl]; exact ⟨rfl,rfl⟩,?_⟩
      refine ⟨_,callF_ans (ans168 y.kind hy.1 hy.2.1) ⟨rfl,rfl⟩,?_⟩
      refine ⟨_,by rw [shift_p]; exact ⟨rfl,rfl⟩,?_⟩
      refine ⟨_,by rw [ld1_p q8 rfl rfl]; exact ⟨rfl,rfl⟩,?_⟩
      refine ⟨_,callF_ans (ans168 x.kind hx.1 hx.2.1) ⟨rfl,rfl⟩,?_⟩
      refine ⟨_,callF_ans (ans170 _ _) ⟨rfl,rfl⟩,?_⟩
      refine ⟨_,by rw [shift_p]; exact ⟨rfl,rfl⟩,?_⟩
      refine ⟨_,by rw [ld1_p o8 rfl rfl]; exact ⟨rfl,rfl⟩,?_⟩
      refine ⟨_,by rw [shift_p]; exact ⟨rfl,rfl⟩,?_⟩
      refine ⟨_,by rw [ld1_p q8 rfl rfl]; exact ⟨rfl,rfl⟩,?_⟩
      refine ⟨_,callF_ans (ans170 _ _) ⟨rfl,rfl⟩,?_⟩
      refine ⟨_,bsl2 rfl rfl ⟨rfl,rfl⟩,?_⟩
      refine ⟨_,callF_ans (ans169 _ _) ⟨rfl,rfl⟩,?_⟩
      refine ⟨_,by rw [bin_geq]; exact ⟨rfl,rfl⟩,?_⟩
      rw [onB_v]
      have hcmp:(0 ≤ if cmpZ (rankI y.kind) (rankI x.kind) ≠ 0 then cmpZ (rankI y.kind) (rankI x.kind) else cmpZ y.pos x.pos) ↔ ¬ nameLt y x:=by
        unfold cmpZ nameLt
        repeat' split
        all_goals omega
      refine gd_of (fun h6=>⟨?_,k8⟩) (fun h6=>?_)
      · rw [hnl (hcmp.1 (of_decide_eq_true h6))]
      · rw [hadd]
        refine hKE _ _ ⟨k8,by omega,p8,j + 1 + 1,rfl,hlt,hok',fun k hk hk'=>?_,_,m8,ht'⟩ hμ
        rcases Nat.lt_or_ge (k + 1) (j + 1) with h | h
        · exact hltn k hk h
        · have:k = j:=by omega
          subst this
          rw [hxe,hye]
          have:=of_decide_eq_false h6
          exact Classical.not_not.1 fun hh=>this (hcmp.2 hh)
  · have hge:i = c.names.length:=by simp at hge; omega
    subst hge
    rw [lenM_m m3,shift_p,ld1_p p3 rfl rfl,lenS_nL,bin_eql]
    refine ⟨?_,k3⟩
    congr 3
    simp only [namesB,decide_eq_decide]
    have:=ht.eq
    rw [List.length_map,List.length_take,Nat.min_self] at this
    rw [Int.natCast_inj,this]
    exact ⟨fun h=>⟨hok,hltn,h⟩,fun h=>h.nodup⟩
theorem ans114 {c:Ci} (hc:c.ok):Ans Tryz.prog 114 [c.av] (aB (namesB c)):=by
  intro S
  refine ACalls.ans_v (calls114 ?_)
  have hlen:=hc.nlen
  unfold m114
  refine boxA_of rfl fun S1 k1 n1 o1=>?_
  refine loop114_0 (fun y S'=>Keep S S' ∧ S.n < S'.n ∧ S'.obj S.n = some (.cells 42 [c.cells] true) ∧ ∃ i:Nat,y = aI i ∧ i ≤ c.names.length ∧ NamesR c i)
    (fun y _=>c.names.length - ((intA y).getD 0).toNat) ⟨k1,by omega,o1,0,rfl,Nat.zero_le _,NamesR.zero c⟩ ?_
  rintro _ S3 ⟨k3,n3,p3,i,rfl,hi,hR⟩ KE hKE
  unfold b114_0
  rw [shift_p,ld1_p p3 rfl rfl,lenS_nL,bin_lss,onB_v]
  refine gd_of (fun hlt=>?_) (fun hge=>?_)
  · have hlt:i < c.names.length:=by simpa using hlt
    have hx:=hc.names _ (List.getElem_mem hlt)
    rw [shift_p,ld1_p p3 rfl rfl,ixS_nL hlt]
    generalize hxe:c.names[i] = x at *
    have hno:=fun h=>NamesR.no_ok hlt (hxe ▸ h)
    have hrow:x.row = [.v (.int .u8 x.kind),aI x.pos,.v (.string x.text)]:=rfl
    rw [hrow,ldN_q3]
    refine boxA_of rfl fun S4 k4 n4 o4=>?_
    refine stA_of o4 rfl rfl fun S5 n5 o5 f5=>?_
    have k5:Keep S S5:=(k3.trans k4).st (by have:=k3.1; omega) n5 f5
    have p5:S5.obj S.n = _:=(f5 _ (by omega)).trans ((k4.2 _ (by omega)).trans p3)
    show ∃ q13:AV,_
    refine ⟨_,by rw [shift_p]; exact ⟨rfl,rfl⟩,?_⟩
    refine ⟨_,by rw [ld1_p o5 rfl rfl]; exact ⟨rfl,rfl⟩,?_⟩
    refine ⟨_,callF_ans (ans149 x.text hx.2.2.2) ⟨rfl,rfl⟩,?_⟩
    refine ⟨_,by rw [un_not]; exact ⟨rfl,rfl⟩,?_⟩
    rw [onB_v]
    refine gd_of (fun h1=>?_) (fun h1=>?_)
    · refine ⟨_,⟨rfl,rfl⟩,?_⟩
      rw [onB_v,gd_true]
      refine ⟨_,⟨rfl,rfl⟩,?_⟩
      rw [onB_v,gd_true]
      exact ⟨by rw [hno (fun h=>by rw [h.1] at h1; cases h1)],k5⟩
    refine ⟨_,by rw [shift_p]; exact ⟨rfl,rfl⟩,?_⟩
    refine ⟨_,by rw [ld1_p o5 rfl rfl]; exact ⟨rfl,rfl⟩,?_⟩
    refine ⟨_,by rw [bin_lss]; exact ⟨rfl,rfl⟩,?_⟩
    refine ⟨_,⟨rfl,rfl⟩,?_⟩
    rw [onB_v]
    refine gd_of (fun h3=>?_) (fun h3=>?_)
    · refine ⟨_,⟨rfl,rfl⟩,?_⟩
      rw [onB_v,gd_true]
      exact ⟨by rw [hno (fun h=>by have:=h.2; have:=of_decide_eq_true h3; omega)],k5⟩
    refine ⟨_,by rw [shift_p]; exact ⟨rfl,rfl⟩,?_⟩
    refine ⟨_,by rw [ld1_p o5 rfl rfl]; exact ⟨rfl,rfl⟩,?_⟩
    refine ⟨_,by rw [ldN_p (n:=8) p5 rfl]; exact ⟨rfl,rfl⟩,?_⟩
    refine ⟨_,by rw [shift_p]; exact ⟨rfl,rfl⟩,?_⟩
    refine ⟨_,by rw [ld1_p o5 rfl rfl]; exact ⟨rfl,rfl⟩,?_⟩
    refine ⟨_,callF_ans (ans150 c x.kind) ⟨rfl,rfl⟩,?_⟩
    refine ⟨_,by rw [bin_geq]; exact ⟨rfl,rfl⟩,?_⟩
    refine ⟨_,⟨rfl,rfl⟩,?_⟩
    rw [onB_v]
    refine gd_of (fun h4=>⟨?_,k5⟩) (fun h4=>?_)
    · rw [hno (fun h=>by have:=h.2; have:=of_decide_eq_true h4; omega)]
    have hgood:nameOk c x:=⟨by simpa using h1,by have:=of_decide_eq_false h3; omega,by have:=of_decide_eq_false h4; omega⟩
    have hok':∀ j (h:j < c.names.length),j < i + 1 → nameOk c c.names[j]:=fun j hj hj'=>by
      rcases Nat.lt_or_ge j i with h | h
      · exact hR.ok j hj h
      · have:j = i:=by omega
        subst this
        rw [hxe]; exact hgood
    refine loop114_1 (fun y S'=>S' = S5 ∧ ∃ k:Nat,y = aI k ∧ k ≤ i ∧ ∀ j (hj:j < k) (hk:k ≤ i),(c.names[j]'(by omega)).text ≠ x.text)
      (fun y _=>i - ((intA y).getD 0).toNat) ⟨rfl,0,rfl,Nat.zero_le _,fun j hj=>(Nat.not_lt_zero _ hj).elim⟩ ?_
    rintro _ S5 ⟨rfl,k,rfl,hk,hne⟩ KE1 hKE1
    unfold b114_1
    rw [bin_lss,onB_v]
    refine gd_of (fun hlk=>?_) (fun hgk=>?_)
    · have hlk:k < i:=by simpa using hlk
      have hkl:k < c.names.length:=by omega
      show ∃ q70:AV,_
      refine ⟨_,by rw [shift_p]; exact ⟨rfl,rfl⟩,?_⟩
      refine ⟨_,by rw [ld1_p p5 rfl rfl]; exact ⟨rfl,rfl⟩,?_⟩
      refine ⟨_,by rw [ixS_nL hkl]; exact ⟨rfl,rfl⟩,?_⟩
      refine ⟨_,by rw [shift_q]; exact ⟨rfl,rfl⟩,?_⟩
      refine ⟨_,by rw [ld1_qj (u:=.v (.string c.names[k].text)) rfl]; exact ⟨rfl,rfl⟩,?_⟩
      refine ⟨_,by rw [shift_p]; exact ⟨rfl,rfl⟩,?_⟩
      refine ⟨_,by rw [ld1_p o5 rfl rfl]; exact ⟨rfl,rfl⟩,?_⟩
      refine ⟨_,by rw [bin_eqlS]; exact ⟨rfl,rfl⟩,?_⟩
      rw [onB_v]
      refine gd_of (fun h6=>⟨?_,k5⟩) (fun h6=>?_)
      · have h6:c.names[k].text = x.text:=of_decide_eq_true h6
        have:namesB c = false:=by
          simp only [namesB,decide_eq_false_iff_not]
          intro h'
          have hnd:=h'.nodup
          rw [List.take_length] at hnd
          have:=List.pairwise_iff_getElem.1 hnd k i (by simpa using hkl) (by simpa using hlt) hlk
          simp only [List.getElem_map,hxe,h6] at this
          exact this rfl
        rw [this]
      · have hadd:∀ K:AV → Store → Prop,∀ S,bin .add 0 (.v (.int .i64 (k:Int))) (.v (.int .i64 1)) S K = K (aI (k + 1:Nat)) S:=fun K S=>bin_add (by omega) (by omega) 0
        rw [hadd]
        refine hKE1 _ _ ⟨rfl,k + 1,rfl,hlk,fun j hj _=>?_⟩ (by simp [intA]; omega)
        rcases Nat.lt_or_ge j k with hj' | hj'
        · exact hne j hj' (by omega)
        · have:j = k:=by omega
          subst this
          exact of_decide_eq_false h6
    · have hge:k = i:=by simp at hgk; omega
      subst hge
      have hnd':((c.names.take (k + 1)).map fun x=>keyOf x.text).Nodup:=by
        have h:=hR.nodup
        rw [List.take_add_one,List.getElem?_eq_getElem hlt,List.map_append,List.nodup_append]
        refine ⟨h,by simp,fun a ha b hb=>?_⟩
        rw [List.mem_map] at ha hb
        obtain ⟨y,hy,rfl⟩:=ha
        obtain ⟨z,hz,rfl⟩:=hb
        have:z = x:=by simpa [hxe] using hz
        subst this
        rw [List.mem_take_iff_getElem] at hy
        obtain ⟨j,hj,rfl⟩:=hy
        exact fun e=>hne j (by omega) (Nat.le_refl _) (keyOf_inj e)
      have hadd:∀ K:AV → Store → Prop,∀ S,bin .add 0 (.v (.int .i64 (k:Int))) (.v (.int .i64 1)) S K = K (aI (k + 1:Nat)) S:=fun K S=>bin_add (by omega) (by omega) 0
      have hμ:c.names.length - ((intA (aI (k + 1:Nat))).getD 0).toNat < c.names.length - ((intA (aI k)).getD 0).toNat:=by simp [intA]; omega
      have next:(∀ j (h:j + 1 < c.names.length),j + 1 = k → nameLt c.names[j] x) → KE _ (env114_0 (.p S.n 0 0) (aI (k + 1:Nat))) S5:=fun hl=>hKE _ _ ⟨k5,by omega,p5,k + 1,rfl,hlt,hok',fun j hj hj'=>by
        rcases Nat.lt_or_ge (j + 1) k with h | h
        · exact hR.lt j hj h
        · have e:j + 1 = k:=by omega
          have:=hl j hj e
          subst e
          rw [hxe]; exact this,hnd'⟩ hμ
      rw [bin_gtr,onB_v]
      refine gd_of (fun h7=>?_) (fun h7=>?_)
      · obtain ⟨j,rfl⟩:∃ j,k = j + 1:=⟨k - 1,by have:=of_decide_eq_true h7; omega⟩
        have hj:j < c.names.length:=by omega
        have hnl:¬ nameLt c.names[j] x → namesB c = false:=fun h=>NamesR.no_lt hlt (by rw [hxe]; exact h)
        have next:=fun (h:nameLt c.names[j] x)=>next (fun j' hj' e=>by
          have:j' = j:=by omega
          subst this
          exact h)
        have hsub:∀ K:AV → Store → Prop,∀ S,bin .sub 0 (.v (.int .i64 ((j + 1:Nat):Int))) (.v (.int .i64 1)) S K = K (aI j) S:=fun K S=>(bin_sub (by omega) (by omega) 0).trans (by rw [show ((j + 1:Nat):Int) - 1 = j by omega])
        have hix:∀ K:AV → Store → Prop,ixS 130 3 (nL c.names) (aI j) S5 K = K (.q c.names[j].row 0) S5:=fun K=>ixS_nL hj
        generalize hye:c.names[j] = y at *
        have hrow':y.row = [.v (.int .u8 y.kind),aI y.pos,.v (.string y.text)]:=rfl
        show ∃ q90:AV,_
        refine ⟨_,by rw [shift_p]; exact ⟨rfl,rfl⟩,?_⟩
        refine ⟨_,by rw [ld1_p p5 rfl rfl]; exact ⟨rfl,rfl⟩,?_⟩
        refine ⟨_,by rw [hsub]; exact ⟨rfl,rfl⟩,?_⟩
        refine ⟨_,by rw [hix]; exact ⟨rfl,rfl⟩,?_⟩
        refine ⟨_,by rw [shift_q]; exact ⟨rfl,rfl⟩,?_⟩
        refine ⟨_,by rw [ld1_qj (u:=.v (.int .u8 y.kind)) rfl]; exact ⟨rfl,rfl⟩,?_⟩
        refine ⟨_,callF_ans (ans151 y.kind) ⟨rfl,rfl⟩,?_⟩
        refine ⟨_,by rw [shift_p]; exact ⟨rfl,rfl⟩,?_⟩
        refine ⟨_,by rw [ld1_p o5 rfl rfl]; exact ⟨rfl,rfl⟩,?_⟩
        refine ⟨_,callF_ans (ans151 x.kind) ⟨rfl,rfl⟩,?_⟩
        show ∃ q110:AV,_
        refine ⟨_,by rw [bin_gtr]; exact ⟨rfl,rfl⟩,?_⟩
        rw [onB_v]
        refine gd_of (fun h8=>?_) (fun h8=>?_)
        · refine ⟨_,⟨rfl,rfl⟩,?_⟩
          rw [onB_v,gd_true]
          refine ⟨?_,k5⟩
          have h8:=of_decide_eq_true h8
          rw [hnl (by unfold nameLt; omega)]
        have h8:=of_decide_eq_false h8
        refine ⟨_,by rw [bin_eql]; exact ⟨rfl,rfl⟩,?_⟩
        rw [onB_v]
        refine gd_of (fun h9=>?_) (fun h9=>?_)
        · have h9:rankI y.kind = rankI x.kind:=of_decide_eq_true h9
          refine ⟨_,by rw [shift_p]; exact ⟨rfl,rfl⟩,?_⟩
          refine ⟨_,by rw [ld1_p p5 rfl rfl]; exact ⟨rfl,rfl⟩,?_⟩
          refine ⟨_,by rw [hsub]; exact ⟨rfl,rfl⟩,?_⟩
          refine ⟨_,by rw [hix]; exact ⟨rfl,rfl⟩,?_⟩
          refine ⟨_,by rw [shift_q]; exact ⟨rfl,rfl⟩,?_⟩
          refine ⟨_,by rw [ld1_qj (u:=aI y.pos) rfl]; exact ⟨rfl,rfl⟩,?_⟩
          refine ⟨_,by rw [shift_p]; exact ⟨rfl,rfl⟩,?_⟩
          refine ⟨_,by rw [ld1_p o5 rfl rfl]; exact ⟨rfl,rfl⟩,?_⟩
          refine ⟨_,by rw [bin_geq]; exact ⟨rfl,rfl⟩,?_⟩
          refine ⟨_,⟨rfl,rfl⟩,?_⟩
          refine ⟨_,⟨rfl,rfl⟩,?_⟩
          rw [onB_v]
          refine gd_of (fun h10=>⟨?_,k5⟩) (fun h10=>?_)
          · have h10:=of_decide_eq_true h10
            rw [hnl (by unfold nameLt; omega)]
          · have h10:=of_decide_eq_false h10
            rw [hadd]
            exact next (by unfold nameLt; omega)
        · have h9:¬ rankI y.kind = rankI x.kind:=of_decide_eq_false h9
          refine ⟨_,⟨rfl,rfl⟩,?_⟩
          refine ⟨_,⟨rfl,rfl⟩,?_⟩
          rw [onB_v,gd_false,hadd]
          exact next (by unfold nameLt; omega)
      · rw [hadd]
        exact next (fun j hj e=>by have:=of_decide_eq_false h7; omega)
  · have hge:i = c.names.length:=by simp at hge; omega
    subst hge
    refine ⟨?_,k3⟩
    have:namesB c = true:=by simp only [namesB,decide_eq_true_eq]; exact hR
    rw [this]
theorem ans113 {g:Gr} {l:List Int} (hg:g.ok) (hl:∀ x ∈ l,i64R x) (hn:l.length ≤ 9223372036854775807):Ans Tryz.prog 113 [g.av,aL aI l] (aB (l.all g.lit && decide (l.length ≤ 2000))):=by
  intro S
  refine ACalls.ans_v (calls113 ?_)
  unfold m113
  refine boxA_of rfl fun S1 k1 n1 o1=>?_
  refine loop113_0 (fun y S'=>S' = S1 ∧ ∃ i:Nat,y = aI i ∧ i ≤ l.length ∧ ∀ j (h:j < l.length),j < i → g.lit l[j] = true)
    (fun y _=>l.length - ((intA y).getD 0).toNat) ⟨rfl,0,rfl,Nat.zero_le _,fun j _ hj=>(Nat.not_lt_zero _ hj).elim⟩ ?_
  rintro _ S1 ⟨rfl,i,rfl,hi,hok⟩ KE hKE
  unfold b113_0
  rw [lenS_aL,bin_lss,onB_v]
  refine gd_of (fun hlt=>?_) (fun hge=>?_)
  · have hlt:i < l.length:=by simpa using hlt
    have hm:=List.getElem_mem hlt
    show ∃ q5:AV,_
    refine ⟨_,by rw [ldN_p (n:=2) o1 rfl]; exact ⟨rfl,rfl⟩,?_⟩
    refine ⟨_,by rw [ixS_aL hlt]; exact ⟨rfl,rfl⟩,?_⟩
    refine ⟨_,by rw [ld1_q]; exact ⟨rfl,rfl⟩,?_⟩
    refine ⟨_,callF_ans (ans112 hg (hl _ hm)) ⟨rfl,rfl⟩,?_⟩
    refine ⟨_,by rw [un_not]; exact ⟨rfl,rfl⟩,?_⟩
    rw [onB_v]
    refine gd_of (fun h=>⟨?_,k1⟩) (fun h=>?_)
    · have:l.all g.lit = false:=by
        rw [List.all_eq_false]
        exact ⟨_,hm,by simpa using h⟩
      rw [this]; rfl
    · have hadd:∀ K:AV → Store → Prop,∀ S,bin .add 0 (.v (.int .i64 (i:Int))) (.v (.int .i64 1)) S K = K (aI (i + 1:Nat)) S:=fun K S=>bin_add (by omega) (by omega) 0
      rw [hadd]
      refine hKE _ _ ⟨rfl,i + 1,rfl,hlt,fun j hj hj'=>?_⟩ (by simp [intA]; omega)
      rcases Nat.lt_or_ge j i with h' | h'
      · exact hok j hj h'
      · have:j = i:=by omega
        subst this
        simpa using h
  · have hge:i = l.length:=by simp at hge; omega
    subst hge
    rw [lenS_aL,bin_leq]
    refine ⟨?_,k1⟩
    have:l.all g.lit = true:=by
      rw [List.all_eq_true]
      intro x hx
      obtain ⟨j,hj,rfl⟩:=List.getElem_of_mem hx
      exact hok j hj hj
    rw [this,Bool.true_and,show decide ((l.length:Int) ≤ 2000) = decide (l.length ≤ 2000) from decide_eq_decide.2 (by omega)]
def latOk (g:Gr) (p:Int × Int):Bool:=g.lit p.1 && (decide (0 ≤ p.2) && decide (p.2 ≤ 2))
def Ci.manyL (c:Ci):List Int:=[c.inputs,c.latches.length,c.outs.length,c.bads.length,c.cons.length,c.fair.length]
noncomputable def Ci.right (c:Ci):Bool :=
  c.manyL.all (fun n=>decide (0 ≤ n) && decide (n ≤ 2000)) && (c.gr.right && (c.latches.all (latOk c.gr) && (c.outs.all c.gr.lit && (c.bads.all c.gr.lit && (c.cons.all c.gr.lit && (c.fair.all c.gr.lit && namesB c))))))
theorem at128 {S:Store} {g:Gr} {id:Nat} {l:Int} (hg:g.ok) (hl:i64R l) (h:S.obj id = some (.cells 82 [g.cells] true)):AnsAt Tryz.prog 128 [aI l,.p id 0 0] S (aB (!g.lit l)):=by
  refine calls128 ?_
  unfold m128
  rw [ldN_p (n:=2) h rfl]
  refine callF_ans (ans88 hg hl) ?_
  rw [un_not]
  exact ⟨rfl,rfl⟩
theorem at129 {S:Store} {g:Gr} {id fid t:Nat} {p:Int × Int} (hg:g.ok) (hl:i64R p.1) (hid:id < S.n) (hf:fid < S.n) (h:S.obj id = some (.cells 82 [g.cells] true))
    (h2:S.obj fid = some (.cells t [[.f (.func 128) [] [.p id 0 0]]] true)):AnsAt Tryz.prog 129 [.a [aI p.1,aI p.2],.p fid 0 0] S (aB (!latOk g p)):=by
  refine ACalls.ans_v (calls129 ?_)
  unfold m129
  refine boxA_of rfl fun S1 k1 n1 o1=>?_
  have h':=(k1.2 _ hid).trans h
  have h2':=(k1.2 _ hf).trans h2
  rw [ld1_p h2' rfl rfl,shift_p,ld1_p o1 rfl rfl]
  refine callV_at (at128 hg hl h') ?_
  rw [onB_v]
  refine gd_of (fun h3=>⟨?_,k1⟩) (fun h3=>?_)
  · rw [Bool.not_eq_true'] at h3
    simp [latOk,h3]
  have h3:g.lit p.1 = true:=by simpa using h3
  rw [shift_p,ld1_p o1 rfl rfl,bin_lss,onB_v]
  refine gd_of (fun h4=>⟨?_,k1⟩) (fun h4=>?_)
  · have h4:=of_decide_eq_true h4
    simp [latOk,show ¬ 0 ≤ p.2 by omega]
  rw [shift_p,ld1_p o1 rfl rfl,bin_gtr]
  refine ⟨?_,k1⟩
  have h4:=of_decide_eq_false h4
  simp only [latOk,h3,Bool.true_and,show 0 ≤ p.2 by omega,decide_true]
  congr 4
  rw [← decide_not]
  exact decide_eq_decide.2 (by omega)
theorem at165 {l:List (Int × Int)} (hl:l.length ≤ 9223372036854775807) {g:Int × Int → Bool} {fn:FuncId} {fs cs:List AV} {S:Store}
    (hf:∀ x,x ∈ l → AnsAt Tryz.prog fn (fs ++ [.a [aI x.1,aI x.2]] ++ cs) S (aB (g x))):AnsAt Tryz.prog 165 [pL l,.f (.func fn) fs cs] S (aI (idxOf (l.findIdx? g))):=by
  refine calls165 ?_
  unfold m165
  rw [lenS_pL]
  refine loop165_0 (fun y S'=>S' = S ∧ ∃ i:Nat,y = aI i ∧ i ≤ l.length ∧ ∀ k (hk:k < l.length),k < i → g l[k] = false) (fun y _=>l.length - ((intA y).getD 0).toNat) ⟨rfl,0,rfl,Nat.zero_le _,fun k _ h=>absurd h (Nat.not_lt_zero _)⟩ ?_
  rintro _ _ ⟨rfl,i,rfl,hi,hk⟩ KE hKE
  unfold b165_0
  rw [bin_lss,onB_v]
  refine gd_of (fun h=>?_) (fun h=>?_)
  · have hlt:i < l.length:=by simpa using h
    rw [ixS_pL hlt,ldN_q2]
    refine callV_at (hf _ (List.getElem_mem hlt)) ?_
    rw [onB_v]
    refine gd_of (fun hg=>⟨?_,rfl⟩) (fun hg=>?_)
    · rw [find_at hlt hg (fun k hk'=>hk k _ hk')]; rfl
    · rw [bin_add (by omega) (by omega)]
      refine hKE _ _ ⟨rfl,i + 1,rfl,hlt,fun k hk1 hk2=>?_⟩ ?_
      · by_cases e:k = i
        · subst e; exact hg
        · exact hk k hk1 (by omega)
      · simp [intA,aI]; omega
  · have hge:i = l.length:=by simp at h; omega
    subst hge
    rw [find_none (fun k hk'=>hk k hk' hk')]
    exact ⟨rfl,rfl⟩
theorem at131 {l:List (Int × Int)} (hl:l.length ≤ 9223372036854775807) {g:Int × Int → Bool} {fn:FuncId} {fs cs:List AV} {S:Store}
    (hf:∀ x,x ∈ l → AnsAt Tryz.prog fn (fs ++ [.a [aI x.1,aI x.2]] ++ cs) S (aB (g x))):AnsAt Tryz.prog 131 [pL l,.f (.func fn) fs cs] S (aB (l.any g)):=by
  refine calls131 ?_
  unfold m131
  refine callF_at (at165 hl hf) ?_
  unfold aI
  rw [bin_geq,idx_any]
  exact ⟨rfl,rfl⟩
theorem manyE_at {c:Ci} {i:Nat} {e:Key × AV} (h:c.manyE[i]? = some e):∃ h':i < 6,e.2 = aI (c.manyL[i]'h'):=by
  match i with
  | 0 | 1 | 2 | 3 | 4 | 5=>cases h; exact ⟨by decide,rfl⟩
  | i + 6=>simp [Ci.manyE] at h
theorem any_not {l:List Int} {g:Int → Bool}:l.any (fun x=>!g x) = !l.all g:=by
  induction l with
  | nil=>rfl
  | cons a l ih=>simp [ih]
theorem any_notP {l:List (Int × Int)} {g:Int × Int → Bool}:l.any (fun x=>!g x) = !l.all g:=by
  induction l with
  | nil=>rfl
  | cons a l ih=>simp [ih]
theorem nodup_lt6:∀ {n:Nat} {l:List Nat},l.Nodup → (∀ x ∈ l,x < n) → l.length ≤ n
  | 0,l,_,h=>by
    cases l with
    | nil=>simp
    | cons x l=>exact absurd (h x (by simp)) (Nat.not_lt_zero _)
  | n + 1,l,hd,h=>by
    have h1:=nodup_lt6 (n:=n) (l:=l.erase n) (hd.erase n) (fun x hx=>by
      have:=(hd.mem_erase_iff).1 hx
      have:=h x this.2
      omega)
    by_cases hm:n ∈ l
    · have:=List.length_erase_of_mem hm
      omega
    · rw [List.erase_of_not_mem hm] at h1
      omega
theorem ans85 {c:Ci} (hc:c.ok):Ans Tryz.prog 85 [c.av] (aB c.right):=by
  intro S
  refine ACalls.ans_v (calls85 ?_)
  have hg:=hc.gr
  unfold m85
  refine boxA_of rfl fun S1 k1 n1 o1=>?_
  rw [ldN_p (n:=8) o1 rfl]
  refine callF_ans (ans84 c) ?_
  refine boxA_of rfl fun S2 k2 n2 o2=>?_
  refine stA_of o2 rfl rfl fun S3 n3 o3 f3=>?_
  have k3:Keep S S3:=(k1.trans k2).st (by omega) n3 f3
  have p3:S3.obj S.n = _:=(f3 _ (by omega)).trans ((k2.2 _ (by omega)).trans o1)
  rw [ldN_p (n:=8) p3 rfl]
  refine callF_ans (ans127 c) ?_
  show loopV _ _ _ _ _ _
  have hmany:∀ (i:Nat) (h:i < 6),¬ (0 ≤ c.manyL[i]'h ∧ c.manyL[i]'h ≤ 2000) → c.right = false:=fun i h hn=>by
    have:c.manyL.all (fun n=>decide (0 ≤ n) && decide (n ≤ 2000)) = false:=by
      rw [List.all_eq_false]
      exact ⟨_,List.getElem_mem (l:=c.manyL) h,by simpa using hn⟩
    simp only [Ci.right,this,Bool.false_and]
  refine loop85_0 (fun S'=>Keep S S' ∧ S3.n < S'.n ∧ S'.obj S.n = some (.cells 42 [c.cells] true) ∧ S'.obj S1.n = some (.cells 82 [c.gr.cells] true) ∧
      ∃ seen,S'.obj S3.n = some (.mit (.mt (.i .i32) c.manyE) 6 seen) ∧ seen.Nodup ∧ (∀ i ∈ seen,∃ h:i < 6,0 ≤ c.manyL[i]'h ∧ c.manyL[i]'h ≤ 2000))
    (fun S'=>match S'.obj S3.n with | some (.mit _ _ seen)=>6 - seen.length | _=>0)
    ⟨k3.new _,by simp,(new_lt (by omega)).trans p3,(new_lt (by omega)).trans o3,[],new_self _,by simp,fun i h=>by simp at h⟩ ?_
  rintro S4 ⟨k4,n4,p4,g4,seen,m4,hnd,hse⟩ KE hKE
  unfold b85_0 nextM
  simp only [m4,mapKK,optP_some]
  refine ⟨rfl,fun i e he hi=>?_,fun hall=>?_⟩
  · obtain ⟨hi6,hev⟩:=manyE_at he
    have k5:Keep S (Store.upd S4 S3.n (.mit (.mt (.i .i32) c.manyE) 6 (seen ++ [i]))):=k4.upd (by have:=k3.1; omega) _
    have m5:(Store.upd S4 S3.n (.mit (.mt (.i .i32) c.manyE) 6 (seen ++ [i]))).obj S3.n = _:=upd_self _ _
    have p5:(Store.upd S4 S3.n (.mit (.mt (.i .i32) c.manyE) 6 (seen ++ [i]))).obj S.n = _:=(upd_ne (by omega)).trans p4
    have g5:(Store.upd S4 S3.n (.mit (.mt (.i .i32) c.manyE) 6 (seen ++ [i]))).obj S1.n = _:=(upd_ne (by omega)).trans g4
    have n5:(Store.upd S4 S3.n (.mit (.mt (.i .i32) c.manyE) 6 (seen ++ [i]))).n = S4.n:=rfl
    generalize Store.upd S4 S3.n (.mit (.mt (.i .i32) c.manyE) 6 (seen ++ [i])) = S5 at *
    rw [extr0,onB_v,gd_true]
    unfold entryM
    simp only [m5,mapKK,optP_some]
    refine ⟨rfl,i,by simp,e,he,?_⟩
    show extr _ _ _ _
    rw [extr1,hev,bin_lss,onB_v]
    refine gd_of (fun h1=>⟨?_,k5⟩) (fun h1=>?_)
    · rw [hmany i hi6 (fun h=>by have:=of_decide_eq_true h1; omega)]
    rw [bin_gtr,onB_v]
    refine gd_of (fun h2=>⟨?_,k5⟩) (fun h2=>?_)
    · rw [hmany i hi6 (fun h=>by have:=of_decide_eq_true h2; omega)]
    have h1:=of_decide_eq_false h1
    have h2:=of_decide_eq_false h2
    have hnd':(seen ++ [i]).Nodup:=by
      rw [List.nodup_append]
      refine ⟨hnd,by simp,fun a ha b hb=>?_⟩
      have:b = i:=by simpa using hb
      subst this
      rintro rfl
      exact hi ha
    have hse':∀ j ∈ seen ++ [i],∃ h:j < 6,0 ≤ c.manyL[j]'h ∧ c.manyL[j]'h ≤ 2000:=fun j hj=>by
      rcases List.mem_append.1 hj with hj | hj
      · exact hse j hj
      · have:j = i:=by simpa using hj
        subst this
        exact ⟨hi6,by omega,by omega⟩
    have hlen:(seen ++ [i]).length ≤ 6:=by
      exact nodup_lt6 hnd' (fun x hx=>(hse' x hx).1)
    refine hKE _ ⟨k5,by omega,p5,g5,_,m5,hnd',hse'⟩ ?_
    simp only [m5,m4]
    simp at hlen ⊢
    omega
  · unfold over
    rw [extr0,onB_v,gd_false]
    have hm:c.manyL.all (fun n=>decide (0 ≤ n) && decide (n ≤ 2000)) = true:=by
      rw [List.all_eq_true]
      intro x hx
      obtain ⟨i,hi,rfl⟩:=List.getElem_of_mem hx
      obtain ⟨h6,h0,h1⟩:=hse i (hall i hi)
      simp only [Bool.and_eq_true,decide_eq_true_eq]
      exact ⟨h0,h1⟩
    have hright:c.right = (c.gr.right && (c.latches.all (latOk c.gr) && (c.outs.all c.gr.lit && (c.bads.all c.gr.lit && (c.cons.all c.gr.lit && (c.fair.all c.gr.lit && namesB c)))))):=by
      simp only [Ci.right,hm,Bool.true_and]
    clear hm hall hse hmany
    refine box1_of rfl fun S5 k5 n5 o5=>?_
    refine st_of o5 rfl rfl fun S6 n6 o6 f6=>?_
    have k6:Keep S S6:=(k4.trans k5).st (by have:=k4.1; omega) n6 f6
    have p6:S6.obj S.n = _:=(f6 _ (by omega)).trans ((k5.2 _ (by omega)).trans p4)
    have g6:S6.obj S1.n = _:=(f6 _ (by omega)).trans ((k5.2 _ (by omega)).trans g4)
    rw [ldN_p (n:=2) g6 rfl]
    refine callF_ans (ans130 hg) ?_
    rw [un_not,onB_v]
    refine gd_of (fun h1=>⟨?_,k6⟩) (fun h1=>?_)
    · rw [Bool.not_eq_true'] at h1
      rw [hright,h1]; rfl
    have h1:c.gr.right = true:=by simpa using h1
    rw [shift_p,ld1_p p6 rfl rfl]
    have hlat:=hc.llen
    refine callF_at (at131 (by omega) (g:=fun p=>!latOk c.gr p) (fun p hp=>at129 hg (hc.lats p hp).1 (by omega) (by omega) g6 o6)) ?_
    rw [any_notP,onB_v]
    refine gd_of (fun h2=>⟨?_,k6⟩) (fun h2=>?_)
    · rw [Bool.not_eq_true'] at h2
      rw [hright,h1,h2]; rfl
    have h2:c.latches.all (latOk c.gr) = true:=by simpa using h2
    rw [shift_p,ld1_p p6 rfl rfl,shift_p,ld1_p p6 rfl rfl,shift_p,ld1_p p6 rfl rfl,shift_p,ld1_p p6 rfl rfl,bld_of (cs:=[aL aI c.outs,aL aI c.bads,aL aI c.cons,aL aI c.fair]) rfl]
    rw [h1,h2,Bool.true_and,Bool.true_and] at hright
    have call:∀ (l:List Int),((∀ x ∈ l,i64R x) ∧ l.length ≤ 9223372036854775807) → ∀ {Q:AEnd → Store → Prop} {K:AV → Store → Prop},K (aB (!l.all c.gr.lit)) S6 → callF Tryz.prog 132 [aL aI l,.f (.func 128) [] [.p S1.n 0 0]] S6 Q K:=fun l hl Q K k =>
      callF_at (at132 hl.2 (g:=fun x=>!c.gr.lit x) (fun x hx=>at128 hg (hl.1 x hx) g6)) (show K (aB (l.any fun x=>!c.gr.lit x)) S6 by rw [any_not]; exact k)
    refine loop85_1 (fun y S'=>S' = S6 ∧ ∃ i:Nat,y = aI i ∧ i ≤ 4 ∧ (1 ≤ i → c.outs.all c.gr.lit = true) ∧ (2 ≤ i → c.bads.all c.gr.lit = true) ∧ (3 ≤ i → c.cons.all c.gr.lit = true) ∧ (4 ≤ i → c.fair.all c.gr.lit = true))
      (fun y _=>4 - ((intA y).getD 0).toNat) ⟨rfl,0,rfl,Nat.zero_le _,fun h=>by omega,fun h=>by omega,fun h=>by omega,fun h=>by omega⟩ ?_
    rintro _ S6 ⟨rfl,i,rfl,hi,a1,a2,a3,a4⟩ KE1 hKE1
    unfold b85_1
    rw [bin_lss,onB_v]
    refine gd_of (fun hlt=>?_) (fun hge=>?_)
    · have hlt:i < 4:=by have:=of_decide_eq_true hlt; exact Int.ofNat_lt.1 this
      have hadd:∀ K:AV → Store → Prop,∀ S,bin .add 0 (.v (.int .i64 (i:Int))) (.v (.int .i64 1)) S K = K (aI (i + 1:Nat)) S:=fun K S=>bin_add (by omega) (by omega) 0
      match i,hlt with
      | 0,_ =>
        refine ⟨0,rfl,⟨by decide,by decide⟩,_,rfl,?_⟩
        show ld1 _ _ _
        rw [ld1_p o6 rfl rfl]
        refine call _ hc.outs ?_
        rw [onB_v]
        refine gd_of (fun h=>⟨?_,k6⟩) (fun h=>?_)
        · rw [Bool.not_eq_true'] at h
          rw [hright,h]; rfl
        · rw [hadd]
          exact hKE1 _ _ ⟨rfl,1,rfl,by decide,fun _=>by simpa using h,fun h=>by omega,fun h=>by omega,fun h=>by omega⟩ (by simp [intA])
      | 1,_ =>
        have a1:=a1 (by decide)
        refine ⟨1,rfl,⟨by decide,by decide⟩,_,rfl,?_⟩
        show ld1 _ _ _
        rw [ld1_p o6 rfl rfl]
        refine call _ hc.bads ?_
        rw [onB_v]
        refine gd_of (fun h=>⟨?_,k6⟩) (fun h=>?_)
        · rw [Bool.not_eq_true'] at h
          rw [hright,a1,h]; rfl
        · rw [hadd]
          exact hKE1 _ _ ⟨rfl,2,rfl,by decide,fun _=>a1,fun _=>by simpa using h,fun h=>by omega,fun h=>by omega⟩ (by simp [intA])
      | 2,_ =>
        have a1:=a1 (by decide)
        have a2:=a2 (by decide)
        refine ⟨2,rfl,⟨by decide,by decide⟩,_,rfl,?_⟩
        show ld1 _ _ _
        rw [ld1_p o6 rfl rfl]
        refine call _ hc.cons ?_
        rw [onB_v]
        refine gd_of (fun h=>⟨?_,k6⟩) (fun h=>?_)
        · rw [Bool.not_eq_true'] at h
          rw [hright,a1,a2,h]; rfl
        · rw [hadd]
          exact hKE1 _ _ ⟨rfl,3,rfl,by decide,fun _=>a1,fun _=>a2,fun _=>by simpa using h,fun h=>by omega⟩ (by simp [intA])
      | 3,_ =>
        have a1:=a1 (by decide)
        have a2:=a2 (by decide)
        have a3:=a3 (by decide)
        refine ⟨3,rfl,⟨by decide,by decide⟩,_,rfl,?_⟩
        show ld1 _ _ _
        rw [ld1_p o6 rfl rfl]
        refine call _ hc.fair ?_
        rw [onB_v]
        refine gd_of (fun h=>⟨?_,k6⟩) (fun h=>?_)
        · rw [Bool.not_eq_true'] at h
          rw [hright,a1,a2,a3,h]; rfl
        · rw [hadd]
          exact hKE1 _ _ ⟨rfl,4,rfl,by decide,fun _=>a1,fun _=>a2,fun _=>a3,fun _=>by simpa using h⟩ (by simp [intA])
    · have hge:i = 4:=by
        have:¬ ((i:Int) < 4):=of_decide_eq_false hge
        omega
      subst hge
      rw [ldN_p (n:=8) p6 rfl]
      refine callF_ans (ans133 hc) ⟨?_,k6⟩
      rw [hright,a1 (by decide),a2 (by decide),a3 (by decide),a4 (by decide)]; rfl
theorem right_c {c:Ci}:c.right = true ↔ (0 ≤ c.inputs ∧ c.inputs ≤ 2000) ∧ c.latches.length ≤ 2000 ∧ c.outs.length ≤ 2000 ∧ c.bads.length ≤ 2000 ∧ c.cons.length ≤ 2000 ∧ c.fair.length ≤ 2000 ∧
    c.gr.right = true ∧ c.latches.all (latOk c.gr) = true ∧ c.outs.all c.gr.lit = true ∧ c.bads.all c.gr.lit = true ∧ c.cons.all c.gr.lit = true ∧ c.fair.all c.gr.lit = true ∧ namesB c = true:=by
  have e:∀ n:Nat,(decide (0 ≤ (n:Int)) && decide ((n:Int) ≤ 2000)) = decide (n ≤ 2000):=fun n=>by
    rw [decide_eq_true (by omega:0 ≤ (n:Int)),Bool.true_and]
    exact decide_eq_decide.2 (by omega)
  simp only [Ci.right,Ci.manyL,List.all_cons,List.all_nil,e,Bool.and_eq_true,decide_eq_true_eq,Bool.and_true]
  constructor
  · rintro ⟨⟨a,b1,b2,b3,b4,b5⟩,c1,c2,c3,c4,c5,c6,c7⟩
    exact ⟨a,b1,b2,b3,b4,b5,c1,c2,c3,c4,c5,c6,c7⟩
  · rintro ⟨a,b1,b2,b3,b4,b5,c1,c2,c3,c4,c5,c6,c7⟩
    exact ⟨⟨a,b1,b2,b3,b4,b5⟩,c1,c2,c3,c4,c5,c6,c7⟩
theorem gd_fo {b:Bool} {A B:Prop} (h2:b = false → B) (h1:b = true → A):gd b A B:=gd_of h1 h2
theorem right_no {c:Ci} (h:¬ c.right = true):c.right = false:=by simpa using h
theorem ans65 {c:Ci} (hc:c.ok):Ans Tryz.prog 65 [c.av] (aB c.right):=by
  intro S
  refine ACalls.ans_v (calls65 ?_)
  have hg:=hc.gr
  have hll:=hc.llen
  unfold m65
  refine boxA_of rfl fun S1 k1 n1 o1=>?_
  rw [ldN_p (n:=8) o1 rfl]
  refine callF_ans (ans41 c) ?_
  refine boxA_of rfl fun S2 k2 n2 o2=>?_
  refine stA_of o2 rfl rfl fun S3 n3 o3 f3=>?_
  have k3:Keep S S3:=(k1.trans k2).st (by omega) n3 f3
  have p3:S3.obj S.n = _:=(f3 _ (by omega)).trans ((k2.2 _ (by omega)).trans o1)
  rw [shift_p,ld1_p p3 rfl rfl,bin_lss,onB_v]
  refine gd_of (fun h1=>⟨?_,k3⟩) (fun h1=>?_)
  · rw [right_no fun h=>by have:=(right_c.1 h).1; have:=of_decide_eq_true h1; omega]
  rw [shift_p,ld1_p p3 rfl rfl,bin_gtr,onB_v]
  refine gd_of (fun h2=>⟨?_,k3⟩) (fun h2=>?_)
  · rw [right_no fun h=>by have:=(right_c.1 h).1; have:=of_decide_eq_true h2; omega]
  rw [shift_p,ld1_p p3 rfl rfl,lenS_pL,bin_gtr,onB_v]
  refine gd_of (fun h3=>⟨?_,k3⟩) (fun h3=>?_)
  · rw [right_no fun h=>by have:=(right_c.1 h).2.1; have:=of_decide_eq_true h3; omega]
  have h1:=of_decide_eq_false h1
  have h2:=of_decide_eq_false h2
  have h3:=of_decide_eq_false h3
  rw [ldN_p (n:=2) o3 rfl]
  refine callF_ans (ans111 hg) ?_
  rw [un_not,onB_v]
  refine gd_of (fun h4=>⟨?_,k3⟩) (fun h4=>?_)
  · rw [right_no fun h=>by rw [(right_c.1 h).2.2.2.2.2.2.1] at h4; cases h4]
  have h4:c.gr.right = true:=by simpa using h4
  refine loop65_0 (fun y S'=>S' = S3 ∧ ∃ i:Nat,y = aI i ∧ i ≤ c.latches.length ∧ ∀ j (h:j < c.latches.length),j < i → latOk c.gr c.latches[j] = true)
    (fun y _=>c.latches.length - ((intA y).getD 0).toNat) ⟨rfl,0,rfl,Nat.zero_le _,fun j _ hj=>(Nat.not_lt_zero _ hj).elim⟩ ?_
  rintro _ S3 ⟨rfl,i,rfl,hi,hok⟩ KE hKE
  unfold b65_0
  rw [shift_p,ld1_p p3 rfl rfl,lenS_pL,bin_lss,onB_v]
  refine gd_of (fun hlt=>?_) (fun hge=>?_)
  · have hlt:i < c.latches.length:=by simpa using hlt
    have hm:=List.getElem_mem hlt
    have hno:latOk c.gr c.latches[i] = false → c.right = false:=fun h=>right_no fun h'=>by
      have:=List.all_eq_true.1 (right_c.1 h').2.2.2.2.2.2.2.1 _ hm
      rw [h] at this; cases this
    have hix:∀ K:AV → Store → Prop,ixS 66 2 (pL c.latches) (aI i) S3 K = K (.q [aI c.latches[i].1,aI c.latches[i].2] 0) S3:=fun K=>ixS_pL hlt
    have hl:=(hc.lats _ hm).1
    have hnext:latOk c.gr c.latches[i] = true → KE _ (env65_0 (.p S.n 0 0) (.p S1.n 0 0) (aI (i + 1:Nat))) S3:=fun h=>hKE _ _ ⟨rfl,i + 1,rfl,hlt,fun j hj hj'=>by
      rcases Nat.lt_or_ge j i with h' | h'
      · exact hok j hj h'
      · have:j = i:=by omega
        subst this
        exact h⟩ (by simp [intA]; omega)
    generalize c.latches[i] = x at *
    show ∃ q28:AV,_
    refine ⟨_,by rw [ldN_p (n:=2) o3 rfl]; exact ⟨rfl,rfl⟩,?_⟩
    refine ⟨_,by rw [shift_p]; exact ⟨rfl,rfl⟩,?_⟩
    refine ⟨_,by rw [ld1_p p3 rfl rfl]; exact ⟨rfl,rfl⟩,?_⟩
    refine ⟨_,by rw [hix]; exact ⟨rfl,rfl⟩,?_⟩
    refine ⟨_,by rw [shift_q]; exact ⟨rfl,rfl⟩,?_⟩
    refine ⟨_,by rw [ld1_qj (u:=aI x.1) rfl]; exact ⟨rfl,rfl⟩,?_⟩
    refine ⟨_,callF_ans (ans112 hg hl) ⟨rfl,rfl⟩,?_⟩
    refine ⟨_,by rw [un_not]; exact ⟨rfl,rfl⟩,?_⟩
    rw [onB_v]
    refine gd_of (fun h5=>?_) (fun h5=>?_)
    · refine ⟨_,⟨rfl,rfl⟩,?_⟩
      rw [onB_v,gd_true]
      refine ⟨_,⟨rfl,rfl⟩,?_⟩
      rw [onB_v,gd_true]
      refine ⟨?_,k3⟩
      rw [Bool.not_eq_true'] at h5
      rw [hno (by simp [latOk,h5])]
    have h5:c.gr.lit x.1 = true:=by simpa using h5
    refine ⟨_,by rw [shift_p]; exact ⟨rfl,rfl⟩,?_⟩
    refine ⟨_,by rw [ld1_p p3 rfl rfl]; exact ⟨rfl,rfl⟩,?_⟩
    refine ⟨_,by rw [hix]; exact ⟨rfl,rfl⟩,?_⟩
    refine ⟨_,by rw [shift_q]; exact ⟨rfl,rfl⟩,?_⟩
    refine ⟨_,by rw [ld1_qj (u:=aI x.2) rfl]; exact ⟨rfl,rfl⟩,?_⟩
    refine ⟨_,by rw [bin_lss]; exact ⟨rfl,rfl⟩,?_⟩
    refine ⟨_,⟨rfl,rfl⟩,?_⟩
    rw [onB_v]
    refine gd_of (fun h6=>?_) (fun h6=>?_)
    · refine ⟨_,⟨rfl,rfl⟩,?_⟩
      rw [onB_v,gd_true]
      refine ⟨?_,k3⟩
      have h6:=of_decide_eq_true h6
      rw [hno (by simp [latOk,show ¬ 0 ≤ x.2 by omega])]
    refine ⟨_,by rw [shift_p]; exact ⟨rfl,rfl⟩,?_⟩
    refine ⟨_,by rw [ld1_p p3 rfl rfl]; exact ⟨rfl,rfl⟩,?_⟩
    refine ⟨_,by rw [hix]; exact ⟨rfl,rfl⟩,?_⟩
    refine ⟨_,by rw [shift_q]; exact ⟨rfl,rfl⟩,?_⟩
    refine ⟨_,by rw [ld1_qj (u:=aI x.2) rfl]; exact ⟨rfl,rfl⟩,?_⟩
    refine ⟨_,by rw [bin_gtr]; exact ⟨rfl,rfl⟩,?_⟩
    refine ⟨_,⟨rfl,rfl⟩,?_⟩
    rw [onB_v]
    refine gd_of (fun h7=>⟨?_,k3⟩) (fun h7=>?_)
    · have h7:=of_decide_eq_true h7
      rw [hno (by simp [latOk,show ¬ x.2 ≤ 2 by omega])]
    · have hadd:∀ K:AV → Store → Prop,∀ S,bin .add 0 (.v (.int .i64 (i:Int))) (.v (.int .i64 1)) S K = K (aI (i + 1:Nat)) S:=fun K S=>bin_add (by omega) (by omega) 0
      rw [hadd]
      have h6:=of_decide_eq_false h6
      have h7:=of_decide_eq_false h7
      exact hnext (by simp [latOk,h5,show 0 ≤ x.2 by omega,show x.2 ≤ 2 by omega])
  · have hge:i = c.latches.length:=by simp at hge; omega
    subst hge
    have h5:c.latches.all (latOk c.gr) = true:=by
      rw [List.all_eq_true]
      intro x hx
      obtain ⟨j,hj,rfl⟩:=List.getElem_of_mem hx
      exact hok j hj hj
    rw [ldN_p (n:=2) o3 rfl,shift_p,ld1_p p3 rfl rfl]
    refine callF_ans (ans113 hg hc.outs.1 hc.outs.2) ?_
    rw [onB_v]
    refine gd_fo (fun a1=>⟨?_,k3⟩) (fun a1=>?_)
    · rw [right_no fun h=>by simp [(right_c.1 h).2.2.2.2.2.2.2.2.1,(right_c.1 h).2.2.1] at a1]
    rw [ldN_p (n:=2) o3 rfl,shift_p,ld1_p p3 rfl rfl]
    refine callF_ans (ans113 hg hc.bads.1 hc.bads.2) ?_
    rw [onB_v]
    refine gd_fo (fun a2=>⟨?_,k3⟩) (fun a2=>?_)
    · rw [right_no fun h=>by simp [(right_c.1 h).2.2.2.2.2.2.2.2.2.1,(right_c.1 h).2.2.2.1] at a2]
    rw [ldN_p (n:=2) o3 rfl,shift_p,ld1_p p3 rfl rfl]
    refine callF_ans (ans113 hg hc.cons.1 hc.cons.2) ?_
    rw [onB_v]
    refine gd_fo (fun a3=>⟨?_,k3⟩) (fun a3=>?_)
    · rw [right_no fun h=>by simp [(right_c.1 h).2.2.2.2.2.2.2.2.2.2.1,(right_c.1 h).2.2.2.2.1] at a3]
    rw [ldN_p (n:=2) o3 rfl,shift_p,ld1_p p3 rfl rfl]
    refine callF_ans (ans113 hg hc.fair.1 hc.fair.2) ?_
    rw [onB_v]
    refine gd_fo (fun a4=>⟨?_,k3⟩) (fun a4=>?_)
    · rw [right_no fun h=>by simp [(right_c.1 h).2.2.2.2.2.2.2.2.2.2.2.1,(right_c.1 h).2.2.2.2.2.1] at a4]
    rw [ldN_p (n:=8) p3 rfl]
    refine callF_ans (ans114 hc) ⟨?_,k3⟩
    rw [Bool.and_eq_true,decide_eq_true_eq] at a1 a2 a3 a4
    congr 3
    rw [Bool.eq_iff_iff]
    exact ⟨fun h=>right_c.2 ⟨⟨by omega,by omega⟩,by omega,a1.2,a2.2,a3.2,a4.2,h4,h5,a1.1,a2.1,a3.1,a4.1,h⟩,fun h=>(right_c.1 h).2.2.2.2.2.2.2.2.2.2.2.2⟩
def litB (v:List Bool) (l:Int):Bool:=v.getD (l.tdiv 2).toNat false != decide (l.tmod 2 = 1)
def allTo (g:Gr) (ins:List Bool):Nat → List Bool
  | 0=>false :: ins
  | i + 1=>allTo g ins i ++ [litB (allTo g ins i) (g.ands.getD i (0,0)).1 && litB (allTo g ins i) (g.ands.getD i (0,0)).2]
@[simp] theorem allTo_len (g:Gr) (ins:List Bool):∀ i,(allTo g ins i).length = ins.length + 1 + i
  | 0=>rfl
  | i + 1=>by simp [allTo,allTo_len g ins i]; omega
def allB (g:Gr) (ins:List Bool):List Bool:=if (g.right && decide ((ins.length:Int) = g.inputs)) = true then allTo g ins g.ands.length else []
theorem bitL_at {S:Store} {x:AV} {l:Int} {b:Bool} (hl:i64R l) (hx:∀ K:AV → Store → Prop,K (aB b) S → ixS 4 1 x (aI (l.tdiv 2)) S fun v S=>ld1 v S K):AnsAt Tryz.prog 153 [x,aI l] S (aB (b != decide (l.tmod 2 = 1))):=by
  refine calls153 ?_
  unfold m153
  rw [bin_half hl]
  refine hx _ ?_
  rw [bin_rem (by decide),bin_eql,bin_neqB]
  exact ⟨rfl,rfl⟩
theorem may_at {g:Gr} (h:g.right = true) {i:Nat} (hi:i < g.ands.length):2 ≤ g.ands[i].2 ∧ g.ands[i].2.tdiv 2 < g.ands[i].1.tdiv 2 ∧ g.ands[i].1.tdiv 2 < g.inputs + 1 + i ∧ 0 ≤ g.ands[i].2.tdiv 2:=by
  have:=(right_iff.1 h).2.2.2.2.1 i hi
  rw [show g.ands.getD i (0,0) = g.ands[i] by simp [List.getD_eq_getElem?_getD,hi]] at this
  simp only [may,Bool.and_eq_true,decide_eq_true_eq] at this
  exact ⟨this.1,this.2.1,this.2.2,Int.tdiv_nonneg (by omega) (by decide)⟩
theorem ix_own {n:Nat} {S:Store} {x:AV} {v:List Bool} (h:Own n S x 4 (v.map fun b=>[aB b])) {z:Int} (h0:0 ≤ z) (h1:z < v.length) (K:AV → Store → Prop) (k:K (aB (v.getD z.toNat false)) S):ixS 4 1 x (aI z) S fun v S=>ld1 v S K:=by
  obtain ⟨i,rfl⟩:=Int.eq_ofNat_of_zero_le h0
  have hi:i < v.length:=by omega
  obtain ⟨id,rfl,h2,h3,h4⟩:=h.ix (i:=i) (by simpa using hi)
  rw [ixS_s (by simpa using hi) h4,ld1_p h4 (by rw [Nat.zero_add,List.getElem?_map,List.getElem?_eq_getElem hi]; rfl) rfl]
  rw [show (v.getD (Int.toNat i) false) = v[i] by simp [List.getD_eq_getElem?_getD,hi]] at k
  exact k
theorem ix_tree {S:Store} {v:List Bool} {z:Int} (h0:0 ≤ z) (h1:z < v.length) (K:AV → Store → Prop) (k:K (aB (v.getD z.toNat false)) S):ixS 4 1 (aL aB v) (aI z) S fun v S=>ld1 v S K:=by
  obtain ⟨i,rfl⟩:=Int.eq_ofNat_of_zero_le h0
  have hi:i < v.length:=by omega
  rw [ixS_aL hi,ld1_q]
  rw [show (v.getD (Int.toNat i) false) = v[i] by simp [List.getD_eq_getElem?_getD,hi]] at k
  exact k
def OwnL (f:FuncId) (args:List AV) (l:List Bool):Prop :=
  ∀ S,ACalls Tryz.prog f args S (fun r S'=>∃ x,r = .ret x ∧ Keep S S' ∧ Own S.n S' x 4 (l.map fun b=>[aB b]))
theorem OwnL.ans {f:FuncId} {args:List AV} {l:List Bool} (h:OwnL f args l):Ans Tryz.prog f args (aL aB l):=ACalls.ans_own (f:=fun b=>.bool b) (e:=4) h
theorem src_aL (S:Store) (l:List Bool):srcE S (aL aB l) = some (l.map fun b=>[aB b]):=rfl
theorem own152 {g:Gr} (hg:g.ok) {ins:List Bool} (hin:ins.length ≤ 1000000):OwnL 152 [g.av,aL aB ins] (allB g ins):=by
  intro S
  refine calls152 ?_
  have hlen:=hg.len
  unfold m152
  refine boxA_of rfl fun S1 k1 n1 o1=>?_
  rw [ldN_p (n:=2) o1 rfl]
  refine callF_ans (ans111 hg) ?_
  rw [un_not,onB_v]
  refine gd_of (fun h1=>⟨_,rfl,k1,?_⟩) (fun h1=>?_)
  · rw [Bool.not_eq_true'] at h1
    rw [allB,h1]
    exact Own.nl _ _ _
  have h1:g.right = true:=by simpa using h1
  rw [lenS_aL,shift_p,ld1_p o1 rfl rfl,bin_neq,onB_v]
  refine gd_of (fun h2=>⟨_,rfl,k1,?_⟩) (fun h2=>?_)
  · rw [Bool.not_eq_true'] at h2
    rw [allB,h2,Bool.and_false]
    exact Own.nl _ _ _
  have h2:decide ((ins.length:Int) = g.inputs) = true:=by simpa using h2
  have h2':=of_decide_eq_true h2
  have hres:allB g ins = allTo g ins g.ands.length:=by rw [allB,h1,h2]; rfl
  have hb:∀ (b:Bool) {S:Store} {K:AV → Store → Prop},K (.l [[aB b]]) S → bslN 4 1 1 [.v (.bool false)] [(0,aB b)] S K:=fun b S K k=>bsl1 rfl (fun _ h=>by cases h) k
  refine ⟨[aB false],by simp [fillA,cellsOf,AV.one,Value.oneCell',spl],.inl ?_⟩
  have w2:Own S1.n (S1.new (.cells 4 (chunks 1 1 [aB false]) true)) (.s S1.n 0 1) 4 [[aB false]]:=.inr ⟨S1.n,rfl,Nat.le_refl _,by simp,by rw [new_self]; rfl⟩
  have k2:Keep S1 (S1.new (.cells 4 (chunks 1 1 [aB false]) true)):=(Keep.refl _).new _
  generalize S1.new (.cells 4 (chunks 1 1 [aB false]) true) = S2 at *
  refine Own.appL w2 k2.1 (ys:=ins.map fun b=>[aB b]) (fun c hc=>by obtain ⟨p,_,rfl⟩:=List.mem_map.1 hc; rfl) (by simp; omega) (fun z1 S3 w3 b3 hz3=>?_) (src_aL _ _)
  have k3:Keep S1 S3:=w2.keep (Nat.le_refl _) b3 k2
  have k3':=k1.trans k3
  refine loop152_0 (fun y z S'=>Keep S1 S' ∧ ∃ i:Nat,z = aI i ∧ i ≤ g.ands.length ∧ Own S1.n S' y 4 ((allTo g ins i).map fun b=>[aB b]))
    (fun _ z _=>g.ands.length - ((intA z).getD 0).toNat) ⟨k3,0,rfl,Nat.zero_le _,w3⟩ ?_
  rintro y _ S4 ⟨k4,i,rfl,hi,w4⟩ KE hKE
  have o4:=(k4.2 S.n (by omega)).trans o1
  unfold b152_0
  rw [shift_p,ld1_p o4 rfl rfl,lenS_pL,bin_lss,onB_v]
  refine gd_of (fun hlt=>?_) (fun hge=>?_)
  · have hlt:i < g.ands.length:=by simpa using hlt
    obtain ⟨q1,q2,q3,q4⟩:=may_at h1 hlt
    have hp:=hg.pairs _ (List.getElem_mem hlt)
    have hget:g.ands.getD i (0,0) = g.ands[i]:=by simp [List.getD_eq_getElem?_getD,hlt]
    have e1:∀ (c:List AV) (K:AV → Store → Prop),ixA 2 1 (.q c 0) (.v (.int .i64 1)) S4 K = K (.q c 1) S4:=fun c K=>ixA_q (z:=1) (by decide)
    have e0:∀ (c:List AV) (K:AV → Store → Prop),ixA 2 1 (.q c 0) (.v (.int .i64 0)) S4 K = K (.q c 0) S4:=fun c K=>ixA_q (z:=0) (by decide)
    have hadd:∀ K:AV → Store → Prop,∀ S,bin .add 0 (.v (.int .i64 (i:Int))) (.v (.int .i64 1)) S K = K (aI (i + 1:Nat)) S:=fun K S=>bin_add (by omega) (by omega) 0
    have hl4:(allTo g ins i).length = ins.length + 1 + i:=allTo_len g ins i
    have step:∀ b,allTo g ins (i + 1) = allTo g ins i ++ [b] → appS 4 1 1 y (.l [[aB b]]) S4 fun v T=>bin .add 0 (aI i) (.v (.int .i64 1)) T fun v' T=>KE 49 (env152_0 (.p S.n 0 0) v v') T:=fun b hb=>by
      refine w4.app k4.1 (c:=[aB b]) rfl (by simp; omega) (fun z5 S5 w5 b5 hz5=>?_) rfl
      rw [hadd]
      refine hKE _ _ _ ⟨w4.keep (Nat.le_refl _) b5 k4,i + 1,rfl,hlt,?_⟩ (by simp [intA]; omega)
      rw [hb,List.map_append]
      exact w5
    rw [shift_p,ld1_p o4 rfl rfl,ixS_pL hlt,e0,ld1_q0]
    refine callF_at (bitL_at hp.1 (fun K k=>ix_own w4 (by omega) (by rw [hl4]; omega) K k)) ?_
    rw [onB_v]
    refine gd_of (fun h3=>?_) (fun h3=>?_)
    · rw [shift_p,ld1_p o4 rfl rfl,ixS_pL hlt,e1,ld1_q1]
      refine callF_at (bitL_at hp.2 (fun K k=>ix_own w4 (by omega) (by rw [hl4]; omega) K k)) ?_
      refine hb _ (step _ ?_)
      simp only [allTo,hget,litB]
      rw [h3,Bool.true_and]
    · refine hb _ (step _ ?_)
      simp only [allTo,hget,litB]
      rw [h3,Bool.false_and]
  · have hge:i = g.ands.length:=by simp at hge; omega
    subst hge
    rw [hres]
    exact ⟨_,rfl,k1.trans k4,w4.low (by omega)⟩
theorem allB_len {g:Gr} {ins:List Bool}:(allB g ins).length = if (g.right && decide ((ins.length:Int) = g.inputs)) = true then (g.vars).toNat else 0:=by
  unfold allB
  split
  · rename_i h
    simp only [Bool.and_eq_true,decide_eq_true_eq] at h
    rw [allTo_len]
    simp only [Gr.vars,← h.2]
    omega
  · rfl
def Gr.eval (g:Gr) (l:Int) (ins:List Bool):Bool:=decide (0 < (allB g ins).length) && (g.lit l && litB (allB g ins) l)
theorem ans115 {g:Gr} (hg:g.ok) {l:Int} (hl:i64R l) {ins:List Bool} (hin:ins.length ≤ 1000000):Ans Tryz.prog 115 [g.av,aI l,aL aB ins] (aB (g.eval l ins)):=by
  intro S
  refine ACalls.ans_v (calls115 ?_)
  unfold m115
  refine boxA_of rfl fun S1 k1 n1 o1=>?_
  rw [ldN_p (n:=2) o1 rfl]
  refine callF_ans (own152 hg hin).ans ?_
  rw [lenS_aL,bin_gtr,onB_v]
  refine gd_fo (fun h1=>⟨?_,k1⟩) (fun h1=>?_)
  · have h1:=of_decide_eq_false h1
    simp [Gr.eval,show ¬ 0 < (allB g ins).length by omega]
  have h1:0 < (allB g ins).length:=by have:=of_decide_eq_true h1; omega
  rw [ldN_p (n:=2) o1 rfl]
  refine callF_ans (ans112 hg hl) ?_
  rw [onB_v]
  refine gd_fo (fun h2=>⟨?_,k1⟩) (fun h2=>?_)
  · simp [Gr.eval,h2]
  have h3:0 ≤ l.tdiv 2 ∧ l.tdiv 2 < (allB g ins).length:=by
    have h4:=h2
    simp only [Gr.lit,Bool.and_eq_true,decide_eq_true_eq] at h4
    have:=allB_len (g:=g) (ins:=ins)
    split at this
    · exact ⟨Int.tdiv_nonneg (by omega) (by decide),by omega⟩
    · omega
  refine callF_at (bitL_at hl (fun K k=>ix_tree h3.1 h3.2 K k)) ⟨?_,k1⟩
  simp only [Gr.eval,h1,h2,decide_true,Bool.true_and]
  rfl
theorem and1 (a:Int):IntKind.i64.wrap ((BitVec.ofInt 64 a &&& BitVec.ofInt 64 1).toNat:Nat) = a % 2:=by
  have h1:(BitVec.ofInt 64 1).toNat = 1:=by decide
  rw [BitVec.toNat_and,h1,Nat.and_one_is_mod,BitVec.toNat_ofInt,wrap64 (by omega) (by omega)]
  omega
theorem bin_and1 {a:Int} {S:Store} {K:AV → Store → Prop}:bin .and 0 (aI a) (.v (.int .i64 1)) S K = K (aI (a % 2)) S:=by
  show bin .and 0 (.v (.int .i64 a)) (.v (.int .i64 1)) S K = _
  have:b2 .and 0 (.int .i64 a) (.int .i64 1) = some (.int .i64 (a % 2)):=by
    rw [← and1 a]; rfl
  show optP (b2 .and 0 (.int .i64 a) (.int .i64 1)) _ = _
  rw [this,optP_some]
theorem bin_shr1 {a:Int} (h:0 ≤ a) {S:Store} {K:AV → Store → Prop}:bin .shr 0 (aI a) (.v (.int .u64 1)) S K = K (aI (a.tdiv 2)) S:=by
  rw [bin_shr (by decide)]
  have:a.fdiv (2 ^ min (Int.toNat 1) IntKind.i64.bits) = a.tdiv 2:=by
    show a.fdiv 2 = _
    rw [Int.fdiv_eq_ediv_of_nonneg _ (by decide),Int.tdiv_eq_ediv_of_nonneg h]
  rw [this]
theorem at173 {S:Store} {fid t n:Nat} {x:AV} {v:List Bool} {l:Int} (h0:0 ≤ l) (h1:l.tdiv 2 < v.length) (hf:S.obj fid = some (.cells t [[x]] true)) (hx:Own n S x 4 (v.map fun b=>[aB b])) :
    AnsAt Tryz.prog 173 [aI l,.p fid 0 0] S (aB (litB v l)):=by
  refine calls173 ?_
  unfold m173
  rw [ld1_p hf rfl rfl,bin_shr1 h0]
  refine ix_own hx (Int.tdiv_nonneg h0 (by decide)) h1 _ ?_
  rw [bin_and1,bin_eql,bin_neqB]
  refine ⟨?_,rfl⟩
  rw [litB,show l.tmod 2 = l % 2 from Int.tmod_eq_emod_of_nonneg h0]
theorem mkN_lc {e b l c:Nat} {zc:List AV} (hl:l ≤ c) (hb:b * c ≤ 281474976710656) (hn:c ≤ 9223372036854775807) {S:Store} {K:AV → Store → Prop}:mkN e b zc (aI l) (aI c) S K = K (.s S.n 0 l) (S.new (.cells e (List.replicate l zc) true)):=by
  have h1:(b:Int) * c ≤ 281474976710656:=by
    have h:=Int.ofNat_le.2 hb
    rw [Int.natCast_mul] at h
    omega
  have h2:(c:Int) ≤ 9223372036854775807:=by omega
  have h0:(0:Int) ≤ l:=by omega
  have h3:(l:Int) ≤ c:=by omega
  simp only [mkN,intA,optP_some,h0,h1,h2,h3,Int.toNat_natCast,and_self,true_and]
theorem own_keep {n:Nat} {S T:Store} {x:AV} {e:Nat} {es:List (List AV)} (h:Own n S x e es) (k:Keep S T):Own n T x e es:=by
  rcases h with h | ⟨id,h1,h2,h3,h4⟩
  · exact .inl h
  · exact .inr ⟨id,h1,h2,Nat.lt_of_lt_of_le h3 k.1,(k.2 _ h3).trans h4⟩
theorem own_at154 {g:Gr} (hg:g.ok) {ins:List Bool} (hin:ins.length ≤ 1000000) {S:Store} {xi:AV} (hlx:∀ (T:Store) (K:AV → Store → Prop),lenS xi T K = K (aI ins.length) T) (hsx:∀ T,Keep S T → srcE T xi = some (ins.map fun b=>[aB b])) :
    ACalls Tryz.prog 154 [g.av,xi] S (fun r S'=>∃ x,r = .ret x ∧ Keep S S' ∧ Own S.n S' x 4 ((allB g ins).map fun b=>[aB b])):=by
  refine calls154 ?_
  have hlen:=hg.len
  unfold m154
  refine boxA_of rfl fun S1 k1 n1 o1=>?_
  rw [ldN_p (n:=2) o1 rfl]
  refine callF_ans (ans130 hg) ?_
  rw [un_not,onB_v]
  refine gd_of (fun h1=>⟨_,rfl,k1,?_⟩) (fun h1=>?_)
  · rw [Bool.not_eq_true'] at h1
    rw [allB,h1]
    exact Own.nl _ _ _
  have h1:g.right = true:=by simpa using h1
  rw [hlx,shift_p,ld1_p o1 rfl rfl,bin_neq,onB_v]
  refine gd_of (fun h2=>⟨_,rfl,k1,?_⟩) (fun h2=>?_)
  · rw [Bool.not_eq_true'] at h2
    rw [allB,h2,Bool.and_false]
    exact Own.nl _ _ _
  have h2:decide ((ins.length:Int) = g.inputs) = true:=by simpa using h2
  have h2':=of_decide_eq_true h2
  have hres:allB g ins = allTo g ins g.ands.length:=by rw [allB,h1,h2]; rfl
  rw [shift_p,ld1_p o1 rfl rfl,bin_add (by omega) (by omega),shift_p,ld1_p o1 rfl rfl,lenS_pL,bin_add (by omega) (by omega)]
  have hcap:g.inputs + 1 + (g.ands.length:Int) = ((ins.length + 1 + g.ands.length:Nat):Int):=by omega
  rw [hcap]
  have hmk:∀ {K:AV → Store → Prop},mkN 4 1 [.v (.bool false)] (.v (.int .i64 1)) (aI ((ins.length + 1 + g.ands.length:Nat):Int)) S1 K = K (.s S1.n 0 1) (S1.new (.cells 4 (List.replicate 1 [.v (.bool false)]) true)):=mkN_lc (l:=1) (by omega) (by omega) (by omega)
  rw [hmk]
  have w2:Own S1.n (S1.new (.cells 4 (List.replicate 1 [.v (.bool false)]) true)) (.s S1.n 0 1) 4 [[aB false]]:=.inr ⟨S1.n,rfl,Nat.le_refl _,by simp,by rw [new_self]; rfl⟩
  have k2:Keep S1 (S1.new (.cells 4 (List.replicate 1 [.v (.bool false)]) true)):=(Keep.refl _).new _
  have n2:(S1.new (.cells 4 (List.replicate 1 [.v (.bool false)]) true)).n = S1.n + 1:=rfl
  generalize S1.new (.cells 4 (List.replicate 1 [.v (.bool false)]) true) = S2 at *
  refine box1_of rfl fun S3 k3 n3 o3=>?_
  refine st_of o3 rfl rfl fun S4 n4 o4 f4=>?_
  have k4:Keep S1 S4:=(k2.trans k3).st (by omega) n4 f4
  have w4:Own S1.n S4 (.s S1.n 0 1) 4 [[aB false]]:=(own_keep w2 k3).st (id:=S2.n) (fun b m e=>by injection e; omega) n4 f4
  rw [ld1_p o4 rfl rfl]
  refine Own.appL w4 k4.1 (ys:=ins.map fun b=>[aB b]) (fun c hc=>by obtain ⟨p,_,rfl⟩:=List.mem_map.1 hc; rfl) (by simp; omega) (fun z1 S5 w5 b5 hz5=>?_) (hsx _ (k1.trans k4))
  have k5:Keep S1 S5:=w4.keep (Nat.le_refl _) b5 k4
  have o5:=(b5.2 S2.n (by omega) (fun b m e=>by injection e; omega)).trans o4
  have m5:=b5.1
  have z5:∀ b m,z1 ≠ .s S2.n b m:=fun b m e=>by
    rcases hz5 with h | ⟨m',h⟩
    · rw [h] at e; injection e; omega
    · rw [h] at e; injection e; omega
  refine st_of o5 rfl (by rcases w5 with ⟨h,_⟩ | ⟨_,h,_⟩ <;> rw [h] <;> rfl) fun S6 n6 o6 f6=>?_
  have k6:Keep S1 S6:=k5.st (by omega) n6 f6
  have w6:=w5.st (id:=S2.n) z5 n6 f6
  have p6:=(k6.2 S.n (by omega)).trans o1
  rw [shift_p,ld1_p p6 rfl rfl,lenS_pL]
  refine loop154_0 (fun y S'=>Keep S1 S' ∧ S2.n < S'.n ∧ ∃ i:Nat,y = aI i ∧ i ≤ g.ands.length ∧ ∃ z,S'.obj S2.n = some (.cells 53 [[z]] true) ∧ (∀ b m,z ≠ .s S2.n b m) ∧ Own S1.n S' z 4 ((allTo g ins i).map fun b=>[aB b]))
    (fun y _=>g.ands.length - ((intA y).getD 0).toNat) ⟨k6,by omega,0,rfl,Nat.zero_le _,z1,o6,z5,w6⟩ ?_
  rintro _ S7 ⟨k7,n7,i,rfl,hi,z,o7,hz,w7⟩ KE hKE
  unfold b154_0
  rw [bin_lss,onB_v]
  refine gd_of (fun hlt=>?_) (fun hge=>?_)
  · have hlt:i < g.ands.length:=by simpa using hlt
    obtain ⟨q1,q2,q3,q4⟩:=may_at h1 hlt
    have hp:=hg.pairs _ (List.getElem_mem hlt)
    have hget:g.ands.getD i (0,0) = g.ands[i]:=by simp [List.getD_eq_getElem?_getD,hlt]
    have hl4:(allTo g ins i).length = ins.length + 1 + i:=allTo_len g ins i
    rw [ixS_pL hlt,ldN_q2]
    generalize g.ands[i] = p at *
    refine boxA_of rfl fun S8 k8 n8 o8=>?_
    refine stA_of o8 rfl rfl fun S9 n9 o9 f9=>?_
    have k9:Keep S7 S9:=k8.st (Nat.le_refl _) n9 f9
    have w9:Own S1.n S9 z 4 _:=own_keep w7 k9
    have v9:=(k9.2 S2.n n7).trans o7
    have e1:∀ (T:Store) (K:AV → Store → Prop),ixA 2 1 (.p S7.n 0 0) (.v (.int .i64 1)) T K = K (.p S7.n 0 1) T:=fun T K=>ixA_p (z:=1) (by decide)
    have e0:∀ (T:Store) (K:AV → Store → Prop),ixA 2 1 (.p S7.n 0 0) (.v (.int .i64 0)) T K = K (.p S7.n 0 0) T:=fun T K=>ixA_p (z:=0) (by decide)
    have hadd:∀ K:AV → Store → Prop,∀ S,bin .add 0 (.v (.int .i64 (i:Int))) (.v (.int .i64 1)) S K = K (aI (i + 1:Nat)) S:=fun K S=>bin_add (by omega) (by omega) 0
    have hp1:0 ≤ p.1:=by
      rcases Int.le_total 0 p.1 with h | h
      · exact h
      · have:p.1.tdiv 2 ≤ 0:=by
          rw [show p.1.tdiv 2 = -((-p.1).tdiv 2) by rw [Int.neg_tdiv,Int.neg_neg],Int.tdiv_eq_ediv_of_nonneg (by omega)]
          omega
        omega
    have m9:S9.n = S7.n + 1:=by omega
    have step:∀ b,allTo g ins (i + 1) = allTo g ins i ++ [b] → appS 4 1 1 z (.l [[aB b]]) S9 fun v T=>stN 1 (.p S2.n 0 0) v T fun _ T=>bin .add 0 (aI i) (.v (.int .i64 1)) T fun v' T=>KE 53 (env154_0 (.p S2.n 0 0) (.f (.func 173) [] [.p S2.n 0 0]) (pL g.ands) (aI g.ands.length) v') T:=fun b hb=>by
      refine w9.app (by have:=k7.1; omega) (c:=[aB b]) rfl (by simp; omega) (fun zz T1 wT bT hzT=>?_) rfl
      have kT:Keep S1 T1:=w9.keep (Nat.le_refl _) bT (k7.trans k9)
      have oT:=(bT.2 S2.n (by omega) (fun b m=>hz b m)).trans v9
      have mT:=bT.1
      have hzz:∀ b m,zz ≠ .s S2.n b m:=fun b m e=>by
        obtain ⟨m',h⟩:=hzT
        rw [h] at e; injection e; omega
      refine st_of oT rfl (by rcases wT with ⟨h,_⟩ | ⟨_,h,_⟩ <;> rw [h] <;> rfl) fun T2 nT o2 f2=>?_
      rw [hadd]
      refine hKE _ _ ⟨kT.st (by omega) nT f2,by omega,i + 1,rfl,hlt,zz,o2,hzz,?_⟩ (by simp [intA]; omega)
      rw [hb,List.map_append]
      exact wT.st (id:=S2.n) hzz nT f2
    refine ⟨_,fun T hT=>by rw [ld1_p ((hT.2 _ (by omega)).trans v9) rfl rfl]; exact ⟨rfl,rfl⟩,_,fun T hT=>by rw [e0]; exact ⟨rfl,rfl⟩,_,fun T hT=>by rw [ld1_p ((hT.2 _ (by omega)).trans o9) rfl rfl]; exact ⟨rfl,rfl⟩,
      _,fun T hT=>callV_at (at173 hp1 (by rw [hl4]; omega) ((hT.2 _ (by omega)).trans v9) (own_keep w9 hT)) ⟨rfl,rfl⟩,?_⟩
    rw [onB_v]
    refine gd_of (fun h3=>?_) (fun h3=>?_)
    · refine ⟨_,fun T hT=>by rw [e1]; exact ⟨rfl,rfl⟩,_,fun T hT=>by rw [ld1_p ((hT.2 _ (by omega)).trans o9) rfl rfl]; exact ⟨rfl,rfl⟩,
        _,fun T hT=>callV_at (at173 (by omega) (by rw [hl4]; omega) ((hT.2 _ (by omega)).trans v9) (own_keep w9 hT)) ⟨rfl,rfl⟩,_,fun T hT=>⟨rfl,rfl⟩,_,fun T hT=>bsl1 rfl (fun _ h=>by cases h) ⟨rfl,rfl⟩,?_⟩
      refine step _ ?_
      simp only [allTo,hget]
      rw [h3,Bool.true_and]
    · refine ⟨_,fun T hT=>⟨rfl,rfl⟩,_,fun T hT=>bsl1 rfl (fun _ h=>by cases h) ⟨rfl,rfl⟩,?_⟩
      refine step _ ?_
      simp only [allTo,hget]
      rw [h3,Bool.false_and]
  · have hge:i = g.ands.length:=by simp at hge; omega
    subst hge
    rw [hres,ld1_p o7 rfl rfl]
    exact ⟨_,rfl,k1.trans k7,w7.low (by omega)⟩
theorem ans_own_at {α:Type} {f:α → Value} {P:Program} {fn:FuncId} {args:List AV} {S:Store} {e:Nat} {l:List α} (h:ACalls P fn args S (fun r S'=>∃ x,r = .ret x ∧ Keep S S' ∧ Own S.n S' x e (l.map fun a=>[.v (f a)]))):AnsAt P fn args S (aL (fun a=>.v (f a)) l) :=
  ACalls.tree (h.mono fun r S' ⟨x,h1,h2,h3⟩=>⟨x,h1,h2,h3.cv_v⟩)
def bitN (n:Int) (i:Nat):Bool:=decide (n.fdiv (2 ^ i) % 2 = 1)
def bitsL (n:Int) (many:Nat):List Bool:=(List.range many).map (bitN n)
@[simp] theorem bitsL_len (n:Int) (m:Nat):(bitsL n m).length = m:=by simp [bitsL]
theorem bitsL_succ (n:Int) (m:Nat):bitsL n (m + 1) = bitsL n m ++ [bitN n m]:=by simp [bitsL,List.range_succ]
theorem bin_shrN {a:Int} {i:Nat} (h:i ≤ 64) {S:Store} {K:AV → Store → Prop}:bin .shr 0 (aI a) (aI i) S K = K (aI (a.fdiv (2 ^ i))) S:=by
  rw [bin_shr (by omega),show min (Int.toNat i) IntKind.i64.bits = i by rw [Int.toNat_natCast]; exact Nat.min_eq_left h]
theorem own116 (s:Int) {m:Nat} (hm:m ≤ 64):OwnL 116 [aI s,aI m] (bitsL s m):=by
  intro S
  refine calls116 ?_
  unfold m116
  refine loop116_0 (fun y z S'=>Keep S S' ∧ ∃ i:Nat,z = aI i ∧ i ≤ m ∧ Own S.n S' y 4 ((bitsL s i).map fun b=>[aB b]))
    (fun _ z _=>m - ((intA z).getD 0).toNat) ⟨Keep.refl _,0,rfl,Nat.zero_le _,Own.nl _ _ _⟩ ?_
  rintro y _ S1 ⟨k1,i,rfl,hi,w1⟩ KE hKE
  unfold b116_0
  rw [bin_lss,onB_v]
  refine gd_of (fun hlt=>?_) (fun hge=>?_)
  · have hlt:i < m:=by simpa using hlt
    rw [bin_shrN (by omega),bin_and1,bin_eql]
    refine bsl1 rfl (fun _ h=>by cases h) ?_
    refine w1.app k1.1 (c:=[aB (bitN s i)]) rfl (by simp; omega) (fun z5 S5 w5 b5 hz5=>?_) rfl
    have hadd:∀ K:AV → Store → Prop,∀ S,bin .add 0 (.v (.int .i64 (i:Int))) (.v (.int .i64 1)) S K = K (aI (i + 1:Nat)) S:=fun K S=>bin_add (by omega) (by omega) 0
    rw [hadd]
    refine hKE _ _ _ ⟨w1.keep (Nat.le_refl _) b5 k1,i + 1,rfl,hlt,?_⟩ (by simp [intA]; omega)
    rw [bitsL_succ,List.map_append]
    exact w5
  · have hge:i = m:=by simp at hge; omega
    subst hge
    exact ⟨_,rfl,k1,w1⟩
noncomputable def isB (c:Ci) (s l:Int):Bool:=c.right && (decide (c.gr.inputs ≤ 60) && c.gr.eval l (bitsL s c.gr.inputs.toNat))
theorem part10 {x:AV} {l:List AV} {S:Store} {K:AV → Store → Prop}:part1 (.a (x :: l)) 0 S K = K x S:=by simp [part1,partA]
theorem gr_inp {c:Ci} (h:c.right = true):c.gr.inputs = c.inputs + c.latches.length ∧ 0 ≤ c.gr.inputs ∧ c.gr.inputs ≤ 2000:=by
  obtain ⟨⟨h1,h2⟩,h3,_,_,_,_,h4,_⟩:=right_c.1 h
  have h5:=right_iff.1 h4
  refine ⟨?_,h5.1,h5.2.1⟩
  show IntKind.i64.wrap (c.inputs + c.latches.length) = _
  exact wrap64 (by omega) (by omega)
theorem ans68 {c:Ci} (hc:c.ok) {s l:Int} (hl:i64R l):Ans Tryz.prog 68 [c.av,aI s,aI l] (aB (isB c s l)):=by
  intro S
  refine ACalls.ans_v (calls68 ?_)
  unfold m68
  refine boxA_of rfl fun S1 k1 n1 o1=>?_
  rw [ldN_p (n:=8) o1 rfl]
  refine callF_ans (ans65 hc) ?_
  rw [un_not,onB_v]
  refine gd_of (fun h1=>⟨?_,k1⟩) (fun h1=>?_)
  · rw [Bool.not_eq_true'] at h1
    simp [isB,h1]
  have h1:c.right = true:=by simpa using h1
  obtain ⟨g1,g2,g3⟩:=gr_inp h1
  rw [ldN_p (n:=8) o1 rfl]
  refine callF_ans (ans41 c) ?_
  unfold Gr.av Gr.cells
  rw [part10,bin_gtr,onB_v]
  refine gd_of (fun h2=>⟨?_,k1⟩) (fun h2=>?_)
  · have h2:=of_decide_eq_true h2
    simp [isB,show ¬ c.gr.inputs ≤ 60 by omega]
  have h2:=of_decide_eq_false h2
  obtain ⟨m,hm⟩:=Int.eq_ofNat_of_zero_le g2
  show ∃ q11:AV,_
  refine ⟨_,by rw [ldN_p (n:=8) o1 rfl]; exact ⟨rfl,rfl⟩,?_⟩
  refine ⟨_,callF_ans (ans41 c) ⟨rfl,rfl⟩,?_⟩
  refine ⟨_,by rw [ldN_p (n:=8) o1 rfl]; exact ⟨rfl,rfl⟩,?_⟩
  refine ⟨_,callF_ans (ans41 c) ⟨rfl,rfl⟩,?_⟩
  refine ⟨aI m,by unfold Gr.av Gr.cells; rw [part10,hm]; exact ⟨rfl,rfl⟩,?_⟩
  refine ⟨_,callF_ans (own116 s (by omega)).ans ⟨rfl,rfl⟩,?_⟩
  refine ⟨_,callF_ans (ans115 hc.gr hl (ins:=bitsL s m) (by simp; omega)) ⟨rfl,rfl⟩,?_⟩
  refine ⟨?_,k1⟩
  simp only [isB,h1,Bool.true_and,show c.gr.inputs ≤ 60 by omega,decide_true]
  rw [hm,Int.toNat_natCast]
noncomputable def afterTo (c:Ci) (s:Int):Nat → Int
  | 0=>0
  | i + 1=>if isB c s (c.latches.getD i (0,0)).1 = true then afterTo c s i + 2 ^ (c.inputs.toNat + i) else afterTo c s i
noncomputable def afterB (c:Ci) (s:Int):Int:=if (c.right && decide (c.gr.inputs ≤ 60)) = true then afterTo c s c.latches.length else 0
theorem afterTo_le (c:Ci) (s:Int):∀ i,0 ≤ afterTo c s i ∧ afterTo c s i < 2 ^ (c.inputs.toNat + i)
  | 0=>⟨Int.le_refl _,Int.pow_pos (by decide)⟩
  | i + 1=>by
    have ⟨h1,h2⟩:=afterTo_le c s i
    have h3:(2:Int) ^ (c.inputs.toNat + (i + 1)) = 2 * 2 ^ (c.inputs.toNat + i):=by rw [← Nat.add_assoc,Int.pow_succ]; omega
    have h4:(0:Int) < 2 ^ (c.inputs.toNat + i):=Int.pow_pos (by decide)
    unfold afterTo
    split <;> constructor <;> omega
theorem pow_le60 {n:Nat} (h:n ≤ 60):(2:Int) ^ n ≤ 1152921504606846976:=by
  have h1:2 ^ n ≤ 2 ^ 60:=Nat.pow_le_pow_right (by decide) h
  have h2:((2 ^ n:Nat):Int) ≤ ((2 ^ 60:Nat):Int):=Int.ofNat_le.2 h1
  rw [Int.natCast_pow] at h2
  exact h2
theorem bin_shl1 {i:Nat} (h:i ≤ 60) {S:Store} {K:AV → Store → Prop}:bin .shl 0 (.v (.int .i64 1)) (aI i) S K = K (aI (2 ^ i)) S:=by
  have h2:¬ ((i:Int) < 0):=by omega
  have h3:min (Int.toNat i) IntKind.i64.bits = i:=by rw [Int.toNat_natCast]; exact Nat.min_eq_left (by show i ≤ 64; omega)
  have h4:=pow_le60 h
  have h5:(0:Int) < 2 ^ i:=Int.pow_pos (by decide)
  show optP (b2 .shl 0 (.int .i64 1) (.int .i64 i)) _ = _
  have:b2 .shl 0 (.int .i64 1) (.int .i64 i) = some (.int .i64 (2 ^ i)):=by
    simp only [b2,isSh,shI,if_neg h2,h3,Int.one_mul]
    rw [wrap64 (by omega) (by omega)]
    rfl
  rw [this,optP_some]
theorem ans59 {c:Ci} (hc:c.ok) (s:Int):Ans Tryz.prog 59 [c.av,aI s] (aI (afterB c s)):=by
  intro S
  refine ACalls.ans_v (calls59 ?_)
  have hll:=hc.llen
  unfold m59
  refine boxA_of rfl fun S1 k1 n1 o1=>?_
  rw [ldN_p (n:=8) o1 rfl]
  refine callF_ans (ans65 hc) ?_
  rw [un_not,onB_v]
  refine gd_of (fun h1=>⟨?_,k1⟩) (fun h1=>?_)
  · rw [Bool.not_eq_true'] at h1
    simp [afterB,h1]
  have h1:c.right = true:=by simpa using h1
  obtain ⟨g1,g2,g3⟩:=gr_inp h1
  have hin:=(right_c.1 h1).1
  rw [ldN_p (n:=8) o1 rfl]
  refine callF_ans (ans41 c) ?_
  unfold Gr.av Gr.cells
  rw [part10,bin_gtr,onB_v]
  refine gd_of (fun h2=>⟨?_,k1⟩) (fun h2=>?_)
  · have h2:=of_decide_eq_true h2
    simp [afterB,show ¬ c.gr.inputs ≤ 60 by omega]
  have h2:=of_decide_eq_false h2
  have hres:afterB c s = afterTo c s c.latches.length:=by
    simp only [afterB,h1,Bool.true_and,show c.gr.inputs ≤ 60 by omega,decide_true,if_true]
  obtain ⟨m,hm⟩:=Int.eq_ofNat_of_zero_le hin.1
  refine loop59_0 (fun y z S'=>S' = S1 ∧ ∃ i:Nat,z = aI i ∧ i ≤ c.latches.length ∧ y = aI (afterTo c s i))
    (fun _ z _=>c.latches.length - ((intA z).getD 0).toNat) ⟨rfl,0,rfl,Nat.zero_le _,rfl⟩ ?_
  rintro _ _ S1 ⟨rfl,i,rfl,hi,rfl⟩ KE hKE
  unfold b59_0
  rw [shift_p,ld1_p o1 rfl rfl,lenS_pL,bin_lss,onB_v]
  refine gd_of (fun hlt=>?_) (fun hge=>?_)
  · have hlt:i < c.latches.length:=by simpa using hlt
    have hget:c.latches.getD i (0,0) = c.latches[i]:=by simp [List.getD_eq_getElem?_getD,hlt]
    have hadd:∀ K:AV → Store → Prop,∀ S,bin .add 0 (.v (.int .i64 (i:Int))) (.v (.int .i64 1)) S K = K (aI (i + 1:Nat)) S:=fun K S=>bin_add (by omega) (by omega) 0
    have hμ:c.latches.length - ((intA (aI (i + 1:Nat))).getD 0).toNat < c.latches.length - ((intA (aI i)).getD 0).toNat:=by simp [intA]; omega
    show ∃ q16:AV,_
    refine ⟨_,by rw [ldN_p (n:=8) o1 rfl]; exact ⟨rfl,rfl⟩,?_⟩
    refine ⟨_,by rw [shift_p]; exact ⟨rfl,rfl⟩,?_⟩
    refine ⟨_,by rw [ld1_p o1 rfl rfl]; exact ⟨rfl,rfl⟩,?_⟩
    refine ⟨_,by rw [ixS_pL hlt]; exact ⟨rfl,rfl⟩,?_⟩
    refine ⟨_,by rw [shift_q]; exact ⟨rfl,rfl⟩,?_⟩
    refine ⟨_,by rw [ld1_qj (u:=aI c.latches[i].1) rfl]; exact ⟨rfl,rfl⟩,?_⟩
    refine ⟨_,callF_ans (ans68 hc (hc.lats _ (List.getElem_mem hlt)).1) ⟨rfl,rfl⟩,?_⟩
    rw [onB_v]
    refine gd_of (fun h3=>?_) (fun h3=>?_)
    · have hb:=afterTo_le c s i
      have hp:=pow_le60 (n:=c.inputs.toNat + i) (by omega)
      rw [shift_p,ld1_p o1 rfl rfl,bin_add (by omega) (by omega)]
      have e:c.inputs + (i:Int) = ((c.inputs.toNat + i:Nat):Int):=by omega
      rw [e,bin_shl1 (by omega),bin_add (by omega) (by omega),hadd]
      exact hKE _ _ _ ⟨rfl,i + 1,rfl,hlt,by rw [afterTo,hget,if_pos h3]⟩ hμ
    · rw [hadd]
      exact hKE _ _ _ ⟨rfl,i + 1,rfl,hlt,by rw [afterTo,hget,h3]; rfl⟩ hμ
  · have hge:i = c.latches.length:=by simp at hge; omega
    subst hge
    rw [hres]
    exact ⟨rfl,k1⟩
theorem orN {a b:Nat} (ha:a < 4611686018427387904) (hb:b < 4611686018427387904) (h:a ||| b < 4611686018427387904) {S:Store} {K:AV → Store → Prop}:bin .or 0 (aI a) (aI b) S K = K (aI (a ||| b:Nat)) S:=by
  show optP (b2 .or 0 (.int .i64 a) (.int .i64 b)) _ = _
  have:b2 .or 0 (.int .i64 a) (.int .i64 b) = some (.int .i64 (a ||| b:Nat)):=by
    show (some (Int.ofNat 0)).bind (fun _=>some (Value.int .i64 (IntKind.i64.wrap (BitVec.ofInt 64 a ||| BitVec.ofInt 64 b).toNat))) = _
    have h1:(BitVec.ofInt 64 (a:Int)).toNat = a:=by rw [BitVec.toNat_ofInt]; omega
    have h2:(BitVec.ofInt 64 (b:Int)).toNat = b:=by rw [BitVec.toNat_ofInt]; omega
    rw [BitVec.toNat_or,h1,h2,wrap64 (by omega) (by omega)]
    rfl
  rw [this,optP_some]
theorem or_add {k q b:Nat} (h:b < 2 ^ k):2 ^ k * q ||| b = 2 ^ k * q + b:=(Nat.two_pow_add_eq_or_of_lt h q).symm
theorem two_le60 {n:Nat} (h:n ≤ 60):2 ^ n ≤ 1152921504606846976:=Nat.pow_le_pow_right (by decide) h
theorem bin_or_pow {a:Int} {k:Nat} (h0:0 ≤ a) (h1:a < 2 ^ k) (hk:k ≤ 60) {S:Store} {K:AV → Store → Prop}:bin .or 0 (aI a) (aI (2 ^ k)) S K = K (aI (a + 2 ^ k)) S:=by
  obtain ⟨n,rfl⟩:=Int.eq_ofNat_of_zero_le h0
  have hp:=two_le60 hk
  have e:((2:Int) ^ k) = ((2 ^ k:Nat):Int):=by rw [Int.natCast_pow]; rfl
  rw [e] at h1 ⊢
  have hn:n < 2 ^ k:=by omega
  have ho:n ||| 2 ^ k = n + 2 ^ k:=by
    rw [Nat.or_comm]
    have:=or_add (k:=k) (q:=1) hn
    rw [Nat.mul_one] at this
    rw [this]; omega
  rw [orN (by omega) (by omega) (by rw [ho]; omega),ho,Int.natCast_add]
section
variable {c:Ci} {vals:List (List Bool)} {n mid t:Nat} {S:Store}
end
theorem set_range {α:Type} {n i:Nat} {f f':Nat → α} (hi:i < n) (h:∀ k,k ≠ i → f' k = f k):((List.range n).map f).set i (f' i) = (List.range n).map f':=by
  apply List.ext_getElem
  · simp
  · intro k h1 h2
    rw [List.getElem_set]
    split
    · rename_i e
      subst e
      simp
    · rename_i e
      simp [h k (fun h=>e h.symm)]
section
variable {c:Ci} {vals:List (List Bool)} {n mid t:Nat} {S:Store}
end
section
variable {c:Ci} {vals:List (List Bool)} {n mid t:Nat} {S:Store}
end
abbrev aW16 (i:Int):AV:=.v (.int .u16 i)
def pickV (l:List Int) (k:Nat) (n:Int):Int:=if l.length < k + 1 then 0 else (l.getD k 0).tmod n
theorem pick_of {S:Store} {aid lid ta tl k:Nat} {l:List Int} {n:Int} {Q:AEnd → Store → Prop} (h1:S.obj aid = some (.cells ta [[aI k]] true)) (h2:S.obj lid = some (.cells tl [[aL aW16 l]] true)) (hne:lid ≠ aid)
    (hl:∀ x ∈ l,0 ≤ x ∧ x < 65536) (hn:0 < n) (hk:k ≤ 1000000)
    (K:∀ S',S'.n = S.n → S'.obj aid = some (.cells ta [[aI (k + 1:Nat)]] true) → (∀ x,x ≠ aid → S'.obj x = S.obj x) → Q (.ret (aI (pickV l k n))) S'):ACalls Tryz.prog 78 [aI n,.p aid 0 0,.p lid 0 0] S Q:=by
  refine calls78 ?_
  unfold m78
  have hadd:∀ K:AV → Store → Prop,∀ S,bin .add 0 (.v (.int .i64 (k:Int))) (.v (.int .i64 1)) S K = K (aI (k + 1:Nat)) S:=fun K S=>bin_add (by omega) (by omega) 0
  rw [ld1_p h1 rfl rfl,hadd]
  refine st_of h1 rfl rfl fun S1 n1 o1 f1=>?_
  have p1:=(f1 lid hne).trans h2
  rw [ld1_p o1 rfl rfl,ld1_p p1 rfl rfl,lenS_aL,bin_gtr,onB_v]
  refine gd_of (fun h=>?_) (fun h=>?_)
  · have h:=of_decide_eq_true h
    have:=K S1 n1 o1 f1
    rw [pickV,if_pos (by omega)] at this
    exact this
  · have h:=of_decide_eq_false h
    have hlt:k < l.length:=by omega
    have hx:=hl _ (List.getElem_mem hlt)
    have hsub:∀ K:AV → Store → Prop,∀ S,bin .sub 0 (.v (.int .i64 ((k + 1:Nat):Int))) (.v (.int .i64 1)) S K = K (aI k) S:=fun K S=>(bin_sub (by omega) (by omega) 0).trans (by rw [show ((k + 1:Nat):Int) - 1 = k by omega])
    rw [ld1_p p1 rfl rfl,ld1_p o1 rfl rfl,hsub,ixS_aL hlt,ld1_q,convI_64 _ (by omega) (by omega),bin_rem (by omega)]
    have:=K S1 n1 o1 f1
    rw [pickV,if_neg (by omega),show l.getD k 0 = l[k] by simp [List.getD_eq_getElem?_getD,hlt]] at this
    exact this
def xr (x y:Int):Int:=IntKind.i64.wrap (BitVec.ofInt 64 x ^^^ BitVec.ofInt 64 y).toNat
theorem bin_xor {a b:Int} {S:Store} {K:AV → Store → Prop}:bin .xor 0 (aI a) (aI b) S K = K (aI (xr a b)) S:=by
  show optP (b2 .xor 0 (.int .i64 a) (.int .i64 b)) _ = _
  have:b2 .xor 0 (.int .i64 a) (.int .i64 b) = some (.int .i64 (xr a b)):=rfl
  rw [this,optP_some]
theorem small_and {g:Gr} (hg:g.ok) {a b:Int} (ha:i64R a) (hb:i64R b):(g.and a b).1.ok:=by
  have h0:(⟨0,[]⟩:Gr).ok:=⟨⟨by decide,by decide⟩,by simp,fun p hp=>by simp at hp⟩
  unfold Gr.and
  split
  · exact h0
  · rename_i h1
    have hr:g.right = true:=by
      cases e:g.right with
      | true=>rfl
      | false=>exact absurd (by rw [e]; rfl) h1
    unfold andT
    have hx:i64R (if b > a then b else a):=by split <;> assumption
    have hy:i64R (if b < a then b else a):=by split <;> assumption
    generalize (if b > a then b else a) = x at *
    generalize (if b < a then b else a) = y at *
    repeat' split
    all_goals first | exact hg | exact h0 | skip
    obtain ⟨_,_,r3,_⟩:=right_iff.1 hr
    refine ⟨hg.inp,by simp; omega,fun p hp=>?_⟩
    rcases List.mem_append.1 hp with hp | hp
    · exact hg.pairs p hp
    · have:p = (x,y):=by simpa using hp
      subst this
      exact ⟨hx,hy⟩
def madeS (g:Gr) (last:Int) (s:Int):Gr × Int :=
  let many:=2 * g.vars
  let r:=g.and (s.tmod many) ((s.tdiv many).tmod many)
  if r.2.2 = 0 then (r.1,xr r.2.1 ((s.tdiv 7).tmod 2)) else (g,last)
def madeTo (n:Int) (l:List Int):Nat → Gr × Int
  | 0=>(⟨n,[]⟩,1)
  | i + 1=>madeS (madeTo n l i).1 (madeTo n l i).2 (l.getD i 0)
theorem and_inp {g:Gr} {a b:Int} (h:(g.and a b).2.2 = 0):(g.and a b).1.inputs = g.inputs:=by
  revert h
  unfold Gr.and
  split
  · intro h; cases h
  · unfold andT
    generalize (if b > a then b else a) = x
    generalize (if b < a then b else a) = y
    repeat' split
    all_goals first | (intro _; rfl) | (intro h; cases h)
theorem madeTo_inp (n:Int) (l:List Int):∀ i,(madeTo n l i).1.inputs = n
  | 0=>rfl
  | i + 1=>by
    have ih:=madeTo_inp n l i
    simp only [madeTo,madeS]
    split
    · rename_i h
      rw [and_inp h,ih]
    · exact ih
theorem rem_small {a b:Int} (h0:0 ≤ a) (h1:a ≤ 65536) (hb:0 < b):0 ≤ a.tmod b ∧ a.tmod b ≤ 65536:=by
  rw [Int.tmod_eq_emod_of_nonneg h0]
  have h2:=Int.emod_nonneg a (show b ≠ 0 by omega)
  have h3:a % b ≤ a:=by
    have h4:=Int.mul_ediv_add_emod a b
    have h5:0 ≤ b * (a / b):=Int.mul_nonneg (by omega) (Int.ediv_nonneg h0 (by omega))
    omega
  omega
theorem madeTo_ok {n:Int} (hn:i64R n) {l:List Int} (hl:∀ x ∈ l,0 ≤ x ∧ x < 65536) (h0:0 ≤ n):∀ i,(madeTo n l i).1.ok
  | 0=>⟨hn,by simp [madeTo],fun p hp=>by simp [madeTo] at hp⟩
  | i + 1=>by
    have ih:=madeTo_ok hn hl h0 i
    have hv:0 < 2 * (madeTo n l i).1.vars:=by
      have:=madeTo_inp n l i
      unfold Gr.vars
      omega
    have hx:0 ≤ l.getD i 0 ∧ l.getD i 0 ≤ 65536:=by
      rw [List.getD_eq_getElem?_getD]
      rcases Nat.lt_or_ge i l.length with h | h
      · rw [List.getElem?_eq_getElem h]
        have:=hl _ (List.getElem_mem h)
        exact ⟨this.1,by show l[i] ≤ 65536; omega⟩
      · rw [List.getElem?_eq_none h]
        exact ⟨by decide,by decide⟩
    have hd:0 ≤ (l.getD i 0).tdiv (2 * (madeTo n l i).1.vars) ∧ (l.getD i 0).tdiv (2 * (madeTo n l i).1.vars) ≤ 65536:=by
      rw [Int.tdiv_eq_ediv_of_nonneg hx.1]
      have h1:=Int.ediv_nonneg hx.1 (show 0 ≤ 2 * (madeTo n l i).1.vars by omega)
      have h2:=Int.ediv_le_self (2 * (madeTo n l i).1.vars) hx.1
      omega
    have ha:=rem_small hx.1 hx.2 hv
    have hb:=rem_small hd.1 hd.2 hv
    simp only [madeTo,madeS]
    split
    · exact small_and ih ⟨by omega,by omega⟩ ⟨by omega,by omega⟩
    · exact ih
theorem lit_iff {g:Gr} {l:Int}:g.lit l = true ↔ 0 ≤ g.inputs ∧ g.inputs ≤ 2000 ∧ 0 ≤ l ∧ l / 2 < g.vars:=by
  simp only [Gr.lit,Bool.and_eq_true,decide_eq_true_eq]
  constructor
  · rintro ⟨h1,h2,h3,h4⟩
    rw [Int.tdiv_eq_ediv_of_nonneg h3] at h4
    exact ⟨h1,h2,h3,h4⟩
  · rintro ⟨h1,h2,h3,h4⟩
    rw [Int.tdiv_eq_ediv_of_nonneg h3]
    exact ⟨h1,h2,h3,h4⟩
theorem and_right {g:Gr} (h:g.right = true) {a b:Int} (e:(g.and a b).2.2 = 0) :
    (g.and a b).1.right = true ∧ (g.and a b).1.lit (g.and a b).2.1 = true ∧ (g.and a b).1.vars ≤ g.vars + 1 ∧ g.vars ≤ (g.and a b).1.vars ∧ (g.and a b).1.inputs = g.inputs:=by
  have hin:=and_inp e
  obtain ⟨r1,r2,r3,r4,r5,r6⟩:=right_iff.1 h
  have hv:g.vars = g.inputs + 1 + g.ands.length:=rfl
  revert e
  unfold Gr.and
  split
  · intro e; cases e
  · rename_i hl
    have hl:(g.right && (g.lit a && g.lit b)) = true:=by simpa using hl
    simp only [Bool.and_eq_true] at hl
    obtain ⟨_,la,lb⟩:=hl
    have lx:g.lit (if b > a then b else a) = true:=by split <;> assumption
    have ly:g.lit (if b < a then b else a) = true:=by split <;> assumption
    have hxy:(if b < a then b else a) ≤ (if b > a then b else a):=by split <;> split <;> omega
    generalize (if b > a then b else a) = x at *
    generalize (if b < a then b else a) = y at *
    obtain ⟨_,_,x0,x1⟩:=lit_iff.1 lx
    obtain ⟨_,_,y0,y1⟩:=lit_iff.1 ly
    unfold andT
    split
    · intro _; exact ⟨h,lit_iff.2 ⟨r1,r2,Int.le_refl _,by show (0:Int) / 2 < g.vars; omega⟩,by show g.vars ≤ _; omega,Int.le_refl _,rfl⟩
    rename_i hy0
    split
    · intro _; exact ⟨h,lit_iff.2 ⟨r1,r2,Int.le_refl _,by show (0:Int) / 2 < g.vars; omega⟩,by show g.vars ≤ _; omega,Int.le_refl _,rfl⟩
    rename_i hd
    split
    · intro _; exact ⟨h,lx,by show g.vars ≤ _; omega,Int.le_refl _,rfl⟩
    rename_i hy1
    split
    · intro _; exact ⟨h,lx,by show g.vars ≤ _; omega,Int.le_refl _,rfl⟩
    rename_i hne
    rw [Int.tdiv_eq_ediv_of_nonneg x0,Int.tdiv_eq_ediv_of_nonneg y0] at hd
    split
    · rename_i i hi
      obtain ⟨hi,_,_⟩:=List.findIdx?_eq_some_iff_getElem.1 hi
      intro _
      exact ⟨h,lit_iff.2 ⟨r1,r2,by show 0 ≤ 2 * (g.inputs + 1 + (i:Int)); omega,by show 2 * (g.inputs + 1 + (i:Int)) / 2 < g.vars; omega⟩,by show g.vars ≤ _; omega,Int.le_refl _,rfl⟩
    · rename_i hi
      split
      · intro e; cases e
      · rename_i hbig
        intro _
        have hv':(⟨g.inputs,g.ands ++ [(x,y)]⟩:Gr).vars = g.vars + 1:=by simp [Gr.vars]; omega
        refine ⟨right_iff.2 ⟨r1,r2,by simp; omega,by rw [hv']; omega,fun j hj=>?_,?_⟩,lit_iff.2 ⟨r1,r2,by show 0 ≤ 2 * (g.vars + 1) - 2; omega,by rw [hv']; show (2 * (g.vars + 1) - 2) / 2 < _; omega⟩,by rw [hv']; omega,by rw [hv']; omega,rfl⟩
        · rcases Nat.lt_or_ge j g.ands.length with hj' | hj'
          · have:=r5 j hj'
            simpa [List.getD_eq_getElem?_getD,List.getElem?_append_left hj'] using this
          · have hj2:j = g.ands.length:=by simp at hj; omega
            subst hj2
            have:(g.ands ++ [(x,y)]).getD g.ands.length (0,0) = (x,y):=by simp [List.getD_eq_getElem?_getD]
            show may ((g.ands ++ [(x,y)]).getD g.ands.length (0,0)) _ = true
            rw [this]
            simp only [may,Bool.and_eq_true,decide_eq_true_eq]
            rw [Int.tdiv_eq_ediv_of_nonneg x0,Int.tdiv_eq_ediv_of_nonneg y0]
            refine ⟨by omega,?_,?_⟩
            · have:x / 2 ≠ y / 2:=fun q=>hd ⟨q,hne⟩
              omega
            · show x / 2 < g.inputs + 1 + (g.ands.length:Int); omega
        · show (g.ands ++ [(x,y)]).Nodup
          rw [List.nodup_append]
          refine ⟨r6,by simp,fun p hp q hq=>?_⟩
          have:q = (x,y):=by simpa using hq
          subst this
          rintro rfl
          have:=List.findIdx?_eq_none_iff.1 hi _ hp
          simp at this
theorem xr_nat (a b:Nat) (ha:a < 2 ^ 62) (hb:b < 2 ^ 62):xr (a:Int) (b:Int) = ((a ^^^ b:Nat):Int):=by
  have h1:a ^^^ b < 2 ^ 62:=Nat.xor_lt_two_pow ha hb
  have hp:(2:Nat) ^ 62 = 4611686018427387904:=by decide
  unfold xr
  have e:(BitVec.ofInt 64 (a:Int) ^^^ BitVec.ofInt 64 (b:Int)).toNat = a ^^^ b:=by
    rw [BitVec.toNat_xor,BitVec.ofInt_natCast,BitVec.ofInt_natCast,BitVec.toNat_ofNat,BitVec.toNat_ofNat,Nat.mod_eq_of_lt (by omega),Nat.mod_eq_of_lt (by omega)]
  rw [e,wrap64 (by omega) (by omega)]
theorem xr_half {a b:Int} (h0:0 ≤ a) (h1:a ≤ 1000000) (hb:b = 0 ∨ b = 1):0 ≤ xr a b ∧ xr a b / 2 = a / 2 ∧ xr a b ≤ 1000001:=by
  obtain ⟨n,rfl⟩:=Int.eq_ofNat_of_zero_le h0
  obtain ⟨m,rfl,hm⟩:∃ m:Nat,b = (m:Int) ∧ m < 2:=by rcases hb with rfl | rfl; exact ⟨0,rfl,by decide⟩; exact ⟨1,rfl,by decide⟩
  have hp:(2:Nat) ^ 62 = 4611686018427387904:=by decide
  rw [xr_nat n m (by omega) (by omega)]
  have:(n ^^^ m) / 2 = n / 2:=by
    rw [Nat.xor_div_two,show m / 2 = 0 by omega,Nat.xor_zero]
  omega
theorem madeTo_right {n:Int} (h0:0 ≤ n) (hn:n ≤ 100) {l:List Int} (hl:∀ x ∈ l,0 ≤ x ∧ x < 65536):∀ i,i ≤ 40 → (madeTo n l i).1.right = true ∧ (madeTo n l i).1.lit (madeTo n l i).2 = true ∧ n + 1 ≤ (madeTo n l i).1.vars ∧ (madeTo n l i).1.vars ≤ n + 1 + i
  | 0,_=>by
    refine ⟨right_iff.2 ⟨h0,by show n ≤ 2000; omega,by show ((0:Nat):Int) ≤ 2000; decide,by show n + 1 + 0 ≤ 2000; omega,fun j hj=>by simp [madeTo] at hj,by simp [madeTo]⟩,lit_iff.2 ⟨h0,by show n ≤ 2000; omega,by show (0:Int) ≤ 1; decide,by show (1:Int) / 2 < n + 1 + 0; omega⟩,by show _ ≤ n + 1 + 0; omega,by show n + 1 + 0 ≤ _; omega⟩
  | i + 1,hi=>by
    obtain ⟨h1,h2,h3,h4⟩:=madeTo_right h0 hn hl i (by omega)
    have hx:0 ≤ l.getD i 0:=by
      rw [List.getD_eq_getElem?_getD]
      rcases Nat.lt_or_ge i l.length with h | h
      · rw [List.getElem?_eq_getElem h]
        exact (hl _ (List.getElem_mem h)).1
      · rw [List.getElem?_eq_none h]
        exact Int.le_refl 0
    simp only [madeTo,madeS]
    split
    · rename_i he
      obtain ⟨k1,k2,k3,k4,k5⟩:=and_right h1 he
      generalize (madeTo n l i).1.and ((l.getD i 0).tmod (2 * (madeTo n l i).1.vars)) (((l.getD i 0).tdiv (2 * (madeTo n l i).1.vars)).tmod (2 * (madeTo n l i).1.vars)) = r at *
      obtain ⟨l1,l2,l3,l4⟩:=lit_iff.1 k2
      have hb:((l.getD i 0).tdiv 7).tmod 2 = 0 ∨ ((l.getD i 0).tdiv 7).tmod 2 = 1:=by
        rw [Int.tdiv_eq_ediv_of_nonneg hx,Int.tmod_eq_emod_of_nonneg (by omega)]
        omega
      obtain ⟨q1,q2,_⟩:=xr_half (a:=r.2.1) l3 (by omega) hb
      exact ⟨k1,lit_iff.2 ⟨l1,l2,q1,by rw [q2]; exact l4⟩,by show _ ≤ r.1.vars; omega,by show r.1.vars ≤ _; omega⟩
    · exact ⟨h1,h2,h3,by show (madeTo n l i).1.vars ≤ _; omega⟩
structure MadeC (c:Ci):Prop where
  ok:c.ok
  right:c.right = true
  inp:0 ≤ c.inputs ∧ c.inputs ≤ 3
  lats:1 ≤ c.latches.length ∧ c.latches.length ≤ 3
  ands:c.ands.length ≤ 8
  outs:c.outs.length ≤ 2
  bads:c.bads.length ≤ 1
  cons:c.cons.length ≤ 1
  fair:c.fair.length ≤ 1
  names:∃ (b1 b2:Bool) (t:ByteArray),c.names = (if b1 then [⟨108,0,⟨#[113]⟩⟩] else []) ++ (if b2 then [⟨111,c.outs.length - 1,t⟩] else []) ∧ (b2 = true → 0 < c.outs.length ∧ (t = ⟨#[111,117,116]⟩ ∨ t = ⟨#[108,49]⟩ ∨ t = ⟨#[97,45,98]⟩))
end Go.Proofs.YtolgpokppnajdaaGreat.G
set_option linter.unusedVariables false
set_option linter.unusedSimpArgs false
namespace Go.Proofs.YtolgpokppnajdaaGreat.G
open Go Go.Ab
set_option maxRecDepth 100000
noncomputable def c79:Code:=(Tryz.f79.body).getD .skip
noncomputable def r79:List ResultVar:=Tryz.f79.results.toList
def env79_0 (y1 y4 y6 y7 y8:AV):List AV:=[y1,y4,y6,y7,y8]
def lv79_0:List Nat:=[1,4,6,7,8]
def ms79:List (List Nat):=[lv79_0,[]]
def m79 (x0 x1:AV) (S:Store) (Q:PoT):Prop :=
  boxN 82 2 (.a [(.v (.int .i64 0)),.nl]) S fun v1 S=>bld [(0,1),(1,1)] [(.v (.int .i64 0)),.nl] [(0,x0)] S fun v2 S=>boxN 82 2 (.a [(.v (.int .i64 0)),.nl]) S fun v3 S=>stN 2 v3 v2 S fun v4 S=>loopV lv79_0 (vc Tryz.prog (c79.at_ [1,1,1,0,1,0,0]) (ms79.drop 1)) 68 (env79_0 x1 v1 v3 (.v (.int .i64 1)) (.v (.int .i64 0))) S (blockK 0 (seqK (vc Tryz.prog (c79.at_ [1,1,1,1]) (ms79.drop 1)) (bodyK Tryz.prog r79 Q)))
theorem calls79 {x0 x1:AV} {S:Store} {Q:PoT} (h:m79 x0 x1 S Q):ACalls Tryz.prog 79 [x0,x1] S Q :=
  calls_of_vc (fn:=Tryz.f79) (c:=c79) (n:=68) Tryz.func79 (by kernel_rfl) (by kernel_rfl) (by kernel_rfl) ms79 (Eq.mpr (by kernel_rfl) h)
def b79_0 (y1 y4 y6 y7 y8:AV) (S:Store) (KE0:KeT) (Q:PoT):Prop :=
  lenS y1 S fun v5 S=>bin .lss 0 y8 v5 S fun v6 S=>onB v6 fun b7=>gd b7 (bin .lss 0 y8 (.v (.int .i64 40)) S fun v8 S=>onB v8 fun b9=>gd b9 (ldN 2 y6 S fun v10 S=>callF Tryz.prog 40 [v10] S Q fun v11 S=>bin .mul 0 (.v (.int .i64 2)) v11 S fun v12 S=>(fun S0:Store=>∃ q13:AV,(ixS 126 1 y1 y8 S fun v14 S=>v14 = q13 ∧ S = S0) ∧ ∃ q15:AV,(ld1 q13 S fun v16 S=>v16 = q15 ∧ S = S0) ∧ ∃ q17:AV,(convI .i64 q15 S fun v18 S=>v18 = q17 ∧ S = S0) ∧ ∃ q19:AV,(bin .rem 0 q17 v12 S fun v20 S=>v20 = q19 ∧ S = S0) ∧ ∃ q21:AV,(ixS 126 1 y1 y8 S fun v22 S=>v22 = q21 ∧ S = S0) ∧ ∃ q23:AV,(ld1 q21 S fun v24 S=>v24 = q23 ∧ S = S0) ∧ ∃ q25:AV,(convI .i64 q23 S fun v26 S=>v26 = q25 ∧ S = S0) ∧ ∃ q27:AV,(bin .quo 0 q25 v12 S fun v28 S=>v28 = q27 ∧ S = S0) ∧ ∃ q29:AV,(bin .rem 0 q27 v12 S fun v30 S=>v30 = q29 ∧ S = S0) ∧ ldN 2 y6 S fun v31 S=>callF Tryz.prog 120 [v31,q19,q29] S Q fun v32 S=>extr v32 0 S fun v33 S=>extr v32 1 S fun v34 S=>extr v32 2 S fun v35 S=>boxN 82 2 (.a [(.v (.int .i64 0)),.nl]) S fun v36 S=>stN 2 v36 v33 S fun v37 S=>bin .eql 0 v35 (.v (.int .i64 0)) S fun v38 S=>onB v38 fun b39=>gd b39 (∃ q40:AV,(∀ T:Store,Keep S T → ldN 2 v36 T fun v41 S=>v41 = q40 ∧ S = T) ∧ ∃ q42:AV,(∀ T:Store,Keep S T → ixS 126 1 y1 y8 T fun v43 S=>v43 = q42 ∧ S = T) ∧ ∃ q44:AV,(∀ T:Store,Keep S T → ld1 q42 T fun v45 S=>v45 = q44 ∧ S = T) ∧ ∃ q46:AV,(∀ T:Store,Keep S T → convI .i64 q44 T fun v47 S=>v47 = q46 ∧ S = T) ∧ ∃ q48:AV,(∀ T:Store,Keep S T → bin .quo 0 q46 (.v (.int .i64 7)) T fun v49 S=>v49 = q48 ∧ S = T) ∧ ∃ q50:AV,(∀ T:Store,Keep S T → bin .rem 0 q48 (.v (.int .i64 2)) T fun v51 S=>v51 = q50 ∧ S = T) ∧ ∃ q52:AV,(∀ T:Store,Keep S T → bin .xor 0 v34 q50 T fun v53 S=>v53 = q52 ∧ S = T) ∧ stN 2 y6 q40 S fun v54 S=>(∀ T:Store,Keep S T → bin .xor 0 v34 q50 T fun v55 S=>v55 = q52 ∧ S = T) ∧ (∀ T:Store,Keep S T → bin .rem 0 q48 (.v (.int .i64 2)) T fun v56 S=>v56 = q50 ∧ S = T) ∧ (∀ T:Store,Keep S T → bin .quo 0 q46 (.v (.int .i64 7)) T fun v57 S=>v57 = q48 ∧ S = T) ∧ (∀ T:Store,Keep S T → convI .i64 q44 T fun v58 S=>v58 = q46 ∧ S = T) ∧ (∀ T:Store,Keep S T → ld1 q42 T fun v59 S=>v59 = q44 ∧ S = T) ∧ (∀ T:Store,Keep S T → ixS 126 1 y1 y8 T fun v60 S=>v60 = q42 ∧ S = T) ∧ bin .add 0 y8 (.v (.int .i64 1)) S fun v61 S=>KE0 68 (env79_0 y1 y4 y6 q52 v61) S) (bin .add 0 y8 (.v (.int .i64 1)) S fun v62 S=>KE0 68 (env79_0 y1 y4 y6 y7 v62) S)) S) (ldN 2 y6 S fun v63 S=>stN 2 y4 v63 S fun v64 S=>ldN 2 y4 S fun v65 _=>Q (.ret (.t [v65,y7])) S)) (ldN 2 y6 S fun v66 S=>stN 2 y4 v66 S fun v67 S=>ldN 2 y4 S fun v68 _=>Q (.ret (.t [v68,y7])) S)
theorem b79_0_eq (y1 y4 y6 y7 y8:AV) (S:Store) (KE0:KeT) (Q:PoT):vc Tryz.prog (c79.at_ [1,1,1,0,1,0,0]) (ms79.drop 1) (mkE 68 lv79_0 (env79_0 y1 y4 y6 y7 y8)) S (thenK (fgK lv79_0 KE0) (blockK 0 (seqK (vc Tryz.prog (c79.at_ [1,1,1,1]) (ms79.drop 1)) (bodyK Tryz.prog r79 Q)))) = b79_0 y1 y4 y6 y7 y8 S KE0 Q:=by kernel_rfl
theorem loop79_0 {y1 y4 y6:AV} {y70 y80:AV} {S:Store} {Q:PoT} (I:AV → AV → Store → Prop) (μ:AV → AV → Store → Nat) (h0:I y70 y80 S)
    (hr:∀ (y7 y8:AV) (S:Store),I y7 y8 S → ∀ KE0:KeT,(∀ (y7' y8':AV) (S':Store),I y7' y8' S' → μ y7' y8' S' < μ y7 y8 S → KE0 68 (env79_0 y1 y4 y6 y7' y8') S') → b79_0 y1 y4 y6 y7 y8 S KE0 Q) :
    loopV lv79_0 (vc Tryz.prog (c79.at_ [1,1,1,0,1,0,0]) (ms79.drop 1)) 68 (env79_0 y1 y4 y6 y70 y80) S (blockK 0 (seqK (vc Tryz.prog (c79.at_ [1,1,1,1]) (ms79.drop 1)) (bodyK Tryz.prog r79 Q))):=by
  refine ⟨fun n e S=>n = 68 ∧ ∃ y7 y8:AV,e = (env79_0 y1 y4 y6 y7 y8) ∧ I y7 y8 S,fun _ e S=>μ (e.getD 3 .j) (e.getD 4 .j) S,?_,?_⟩
  · exact ⟨_,_,Wk.refl _ _,rfl,_,_,rfl,h0⟩
  · rintro _ e S ⟨rfl,y7,y8,rfl,hI⟩
    exact (b79_0_eq _ _ _ _ _ _ _ _).mpr (hr y7 y8 S hI _ (fun y7' y8' S' hI' hm=>⟨_,_,Wk.refl _ _,⟨rfl,_,_,rfl,hI'⟩,hm⟩))
end Go.Proofs.YtolgpokppnajdaaGreat.G
set_option linter.unusedVariables false
set_option linter.unusedSimpArgs false
namespace Go.Proofs.YtolgpokppnajdaaGreat.G
open Go Go.Ab
theorem frz_none (S:Store):S.frz (fun _=>false) = S:=by
  cases S with
  | mk n obj =>
    unfold Store.frz
    congr 1
    funext i
    cases h:obj i with
    | none=>simp [h]
    | some o=>simp [h,frz_id]
theorem ansAt_cv {P:Program} {f:FuncId} {args args2:List AV} {S:Store} {r:AV} (hl:args.length = args2.length) (hcv:∀ (k:Nat) (u u2:AV),args[k]? = some u → args2[k]? = some u2 → Cv S S.n u u2) (h:AnsAt P f args2 S r):AnsAt P f args S r:=by
  refine ACalls.frz (fun _=>false) hl ?_ ?_
  · rw [frz_none]; exact hcv
  · rw [frz_none]; exact h
theorem at79 {n:Int} (h0:0 ≤ n) (hn:n ≤ 1000) {l:List Int} (hl:∀ x ∈ l,0 ≤ x ∧ x < 65536) (hlen:l.length ≤ 1000000) {S:Store} {x1:AV} (hx1:∀ (T:Store) (K:AV → Store → Prop),lenS x1 T K = K (aI l.length) T)
    {P:Nat → AV} (hP:∀ T,Keep S T → ∀ i (h:i < l.length),(∀ K:AV → Store → Prop,ixS 126 1 x1 (aI i) T K = K (P i) T) ∧ ∀ K:AV → Store → Prop,ld1 (P i) T K = K (aW16 l[i]) T) :
    AnsAt Tryz.prog 79 [aI n,x1] S (.t [(madeTo n l (min l.length 40)).1.av,aI (madeTo n l (min l.length 40)).2]):=by
  refine ACalls.tree (calls79 ?_)
  unfold m79
  have hok:=madeTo_ok (n:=n) ⟨by omega,by omega⟩ hl h0
  have hin:=madeTo_inp n l
  refine boxA_of rfl fun S1 k1 n1 o1=>?_
  rw [bld_of (cs:=[aI n,.nl]) rfl]
  refine boxA_of rfl fun S2 k2 n2 o2=>?_
  refine stA_of o2 rfl rfl fun S3 n3 o3 f3=>?_
  have k3:Keep S S3:=(k1.trans k2).st (by omega) n3 f3
  refine loop79_0 (fun y w S'=>Keep S S' ∧ S3.n ≤ S'.n ∧ S'.obj S.n = some (.cells 82 [[aI 0,.nl]] true) ∧ ∃ i:Nat,w = aI i ∧ i ≤ min l.length 40 ∧ y = aI (madeTo n l i).2 ∧
      (((madeTo n l i).1 = ⟨n,[]⟩ ∧ S'.obj S1.n = some (.cells 82 [[aI n,.nl]] true)) ∨ S'.obj S1.n = some (.cells 82 [(madeTo n l i).1.cells] true)))
    (fun _ w _=>40 - ((intA w).getD 0).toNat) ⟨k3,Nat.le_refl _,(f3 _ (by omega)).trans ((k2.2 _ (by omega)).trans o1),0,rfl,Nat.zero_le _,rfl,.inl ⟨rfl,o3⟩⟩ ?_
  rintro _ _ S4 ⟨k4,n4,p4,i,rfl,hi,rfl,hg⟩ KE hKE
  have hk3:=k3.1
  obtain ⟨cs,hcs,hcl,hcv⟩:∃ cs,S4.obj S1.n = some (.cells 82 [cs] true) ∧ cs.length = 2 ∧ ∀ (T:Store) (m:Nat),Cv T m (.a cs) (madeTo n l i).1.av:=by
    rcases hg with ⟨e,h⟩ | h
    · exact ⟨_,h,rfl,fun T m=>by rw [e]; exact cv_a2 (.v _) .nl⟩
    · exact ⟨_,h,rfl,fun T m=>Gr.tree _ _ _⟩
  have hgi:=hin i
  have hgo:=hok i
  have hlen2:=hgo.len
  have fin:i = min l.length 40 → ldN 2 (.p S1.n 0 0) S4 fun v S5=>stN 2 (.p S.n 0 0) v S5 fun _ S5=>ldN 2 (.p S.n 0 0) S5 fun v S6=>∃ r,AEnd.ret (.t [v,aI (madeTo n l i).2]) = .ret r ∧ Keep S S6 ∧ Cv (S6.frz (newer S.n)) S.n r (.t [(madeTo n l (min l.length 40)).1.av,aI (madeTo n l (min l.length 40)).2]):=fun e=>by
    rw [ldN_p (n:=2) hcs hcl]
    refine stA_of p4 hcl rfl fun S5 n5 o5 f5=>?_
    rw [ldN_p (n:=2) o5 hcl]
    exact ⟨_,rfl,k4.st (Nat.le_refl _) n5 f5,by rw [← e]; exact cv_t2 (hcv _ _) (.v _)⟩
  unfold b79_0
  rw [hx1,bin_lss,onB_v]
  refine gd_of (fun hlt=>?_) (fun hge=>fin (by have:=of_decide_eq_false hge; omega))
  rw [bin_lss,onB_v]
  refine gd_of (fun h40=>?_) (fun hge=>fin (by have:¬ ((i:Int) < 40):=of_decide_eq_false hge; omega))
  have hlt:i < l.length:=by have:=of_decide_eq_true hlt; omega
  have h40:i < 40:=by have:((i:Int) < 40):=of_decide_eq_true h40; omega
  obtain ⟨hP1,hP2⟩:=hP S4 k4 i hlt
  have hx:=hl _ (List.getElem_mem hlt)
  have hgd:l.getD i 0 = l[i]:=by simp [List.getD_eq_getElem?_getD,hlt]
  have hv:0 < 2 * (madeTo n l i).1.vars:=by unfold Gr.vars; omega
  have hv2:(madeTo n l i).1.vars ≤ 1002000:=by unfold Gr.vars; omega
  have hd:0 ≤ l[i].tdiv (2 * (madeTo n l i).1.vars) ∧ l[i].tdiv (2 * (madeTo n l i).1.vars) ≤ 65536:=by
    rw [Int.tdiv_eq_ediv_of_nonneg hx.1]
    have h1:=Int.ediv_nonneg hx.1 (show 0 ≤ 2 * (madeTo n l i).1.vars by omega)
    have h2:=Int.ediv_le_self (2 * (madeTo n l i).1.vars) hx.1
    omega
  have ha:=rem_small hx.1 (by omega) hv
  have hb:=rem_small hd.1 hd.2 hv
  have cv1:∀ (T:Store) (k:Nat) (u u2:AV),[AV.a cs][k]? = some u → [(madeTo n l i).1.av][k]? = some u2 → Cv T T.n u u2:=fun T k u u2 hu hu2=>by
    match k with
    | 0=>cases hu; cases hu2; exact hcv _ _
    | k + 1=>simp at hu
  rw [ldN_p (n:=2) hcs hcl]
  have hva:AnsAt Tryz.prog 40 [.a cs] S4 (aI (madeTo n l i).1.vars):=ansAt_cv (args2:=[(madeTo n l i).1.av]) rfl (cv1 S4) (ans40 hgo (by omega) (by omega) S4)
  refine callF_at hva ?_
  rw [bin_mul (by omega) (by omega)]
  show ∃ q13:AV,_
  refine ⟨_,by rw [hP1]; exact ⟨rfl,rfl⟩,?_⟩
  refine ⟨_,by rw [hP2]; exact ⟨rfl,rfl⟩,?_⟩
  refine ⟨aI l[i],by rw [convI_64 _ (by omega) (by omega)]; exact ⟨rfl,rfl⟩,?_⟩
  refine ⟨aI (l[i].tmod (2 * (madeTo n l i).1.vars)),by rw [bin_rem (by omega)]; exact ⟨rfl,rfl⟩,?_⟩
  refine ⟨_,by rw [hP1]; exact ⟨rfl,rfl⟩,?_⟩
  refine ⟨_,by rw [hP2]; exact ⟨rfl,rfl⟩,?_⟩
  refine ⟨aI l[i],by rw [convI_64 _ (by omega) (by omega)]; exact ⟨rfl,rfl⟩,?_⟩
  refine ⟨aI (l[i].tdiv (2 * (madeTo n l i).1.vars)),by rw [bin_quo (by omega) (by omega) (by omega)]; exact ⟨rfl,rfl⟩,?_⟩
  refine ⟨aI ((l[i].tdiv (2 * (madeTo n l i).1.vars)).tmod (2 * (madeTo n l i).1.vars)),by rw [bin_rem (by omega)]; exact ⟨rfl,rfl⟩,?_⟩
  have hand:AnsAt Tryz.prog 120 [.a cs,aI (l[i].tmod (2 * (madeTo n l i).1.vars)),aI ((l[i].tdiv (2 * (madeTo n l i).1.vars)).tmod (2 * (madeTo n l i).1.vars))] S4 (andAV ((madeTo n l i).1.and (l[i].tmod (2 * (madeTo n l i).1.vars)) ((l[i].tdiv (2 * (madeTo n l i).1.vars)).tmod (2 * (madeTo n l i).1.vars)))) :=
    ansAt_cv (args2:=[(madeTo n l i).1.av,aI (l[i].tmod (2 * (madeTo n l i).1.vars)),aI ((l[i].tdiv (2 * (madeTo n l i).1.vars)).tmod (2 * (madeTo n l i).1.vars))]) rfl (fun k u u2 hu hu2=>by
      match k with
      | 0=>cases hu; cases hu2; exact hcv _ _
      | 1 | 2=>cases hu; cases hu2; exact .v _
      | k + 3=>simp at hu) (ans120 hgo ⟨by omega,by omega⟩ ⟨by omega,by omega⟩ S4)
  rw [ldN_p (n:=2) hcs hcl]
  refine callF_at hand ?_
  have hs:madeTo n l (i + 1) = madeS (madeTo n l i).1 (madeTo n l i).2 l[i]:=by rw [madeTo,hgd]
  simp only [madeS] at hs
  generalize (madeTo n l i).1.and (l[i].tmod (2 * (madeTo n l i).1.vars)) ((l[i].tdiv (2 * (madeTo n l i).1.vars)).tmod (2 * (madeTo n l i).1.vars)) = r at *
  unfold andAV
  rw [extr0,extr1,extr2]
  refine boxA_of rfl fun S5 k5 n5 o5=>?_
  refine stA_of o5 rfl rfl fun S6 n6 o6 f6=>?_
  have k6:Keep S4 S6:=k5.st (Nat.le_refl _) n6 f6
  have p6:=(k6.2 _ (by omega)).trans p4
  have c6:=(k6.2 S1.n (by omega)).trans hcs
  have hadd:∀ K:AV → Store → Prop,∀ S,bin .add 0 (.v (.int .i64 (i:Int))) (.v (.int .i64 1)) S K = K (aI (i + 1:Nat)) S:=fun K S=>bin_add (by omega) (by omega) 0
  have hμ:40 - ((intA (aI (i + 1:Nat))).getD 0).toNat < 40 - ((intA (aI i)).getD 0).toNat:=by simp [intA]; omega
  rw [bin_eql,onB_v]
  refine gd_of (fun h=>?_) (fun h=>?_)
  · have h:r.2.2 = 0:=of_decide_eq_true h
    simp only [h,if_true] at hs
    have qq:0 ≤ l[i].tdiv 7 ∧ l[i].tdiv 7 ≤ 65536:=by
      rw [Int.tdiv_eq_ediv_of_nonneg hx.1]; omega
    have e1:∀ (T:Store) (K:AV → Store → Prop),convI .i64 (aW16 l[i]) T K = K (aI l[i]) T:=fun T K=>convI_64 _ (by omega) (by omega)
    have e2:∀ (T:Store) (K:AV → Store → Prop),bin .quo 0 (aI l[i]) (.v (.int .i64 7)) T K = K (aI (l[i].tdiv 7)) T:=fun T K=>bin_quo (by decide) (by omega) (by omega) 0
    have e3:∀ (T:Store) (K:AV → Store → Prop),bin .rem 0 (aI (l[i].tdiv 7)) (.v (.int .i64 2)) T K = K (aI ((l[i].tdiv 7).tmod 2)) T:=fun T K=>bin_rem (by decide) _ 0
    have pT:∀ {T:Store},Keep S T → _:=fun {T} hT=>hP T hT i hlt
    refine ⟨.a r.1.cells,fun T hT=>by rw [ldN_p (n:=2) ((hT.2 _ (by omega)).trans o6) rfl]; exact ⟨rfl,rfl⟩,P i,fun T hT=>by rw [(pT ((k4.trans k6).trans hT)).1]; exact ⟨rfl,rfl⟩,_,fun T hT=>by rw [(pT ((k4.trans k6).trans hT)).2]; exact ⟨rfl,rfl⟩,_,fun T hT=>by rw [e1]; exact ⟨rfl,rfl⟩,_,fun T hT=>by rw [e2]; exact ⟨rfl,rfl⟩,_,fun T hT=>by rw [e3]; exact ⟨rfl,rfl⟩,_,fun T hT=>by rw [bin_xor]; exact ⟨rfl,rfl⟩,?_⟩
    refine stA_of c6 rfl hcl fun S7 n7 o7 f7=>?_
    have k7:Keep S S7:=(k4.trans k6).st (by omega) n7 f7
    refine ⟨fun T hT=>by rw [bin_xor]; exact ⟨rfl,rfl⟩,fun T hT=>by rw [e3]; exact ⟨rfl,rfl⟩,fun T hT=>by rw [e2]; exact ⟨rfl,rfl⟩,fun T hT=>by rw [e1]; exact ⟨rfl,rfl⟩,fun T hT=>by rw [(pT (k7.trans hT)).2]; exact ⟨rfl,rfl⟩,fun T hT=>by rw [(pT (k7.trans hT)).1]; exact ⟨rfl,rfl⟩,?_⟩
    rw [hadd]
    exact hKE _ _ _ ⟨k7,by have:=k6.1; omega,(f7 _ (by omega)).trans p6,i + 1,rfl,by omega,by rw [hs],.inr (by rw [hs]; exact o7)⟩ hμ
  · have h:¬ r.2.2 = 0:=of_decide_eq_false h
    simp only [h,if_false] at hs
    rw [hadd]
    refine hKE _ _ _ ⟨k4.trans k6,by have:=k6.1; omega,p6,i + 1,rfl,by omega,by rw [hs],?_⟩ hμ
    rcases hg with ⟨e,h'⟩ | h'
    · exact .inl ⟨by rw [hs]; exact e,(k6.2 S1.n (by omega)).trans h'⟩
    · exact .inr (by rw [hs]; exact (k6.2 S1.n (by omega)).trans h')
end Go.Proofs.YtolgpokppnajdaaGreat.G
set_option linter.unusedVariables false
set_option linter.unusedSimpArgs false
namespace Go.Proofs.YtolgpokppnajdaaGreat.G
open Go Go.Ab
set_option maxRecDepth 100000
end Go.Proofs.YtolgpokppnajdaaGreat.G
set_option linter.unusedVariables false
set_option linter.unusedSimpArgs false
namespace Go.Proofs.YtolgpokppnajdaaGreat.G
open Go Go.Ab
theorem pickV_rng {l:List Int} (hl:∀ x ∈ l,0 ≤ x ∧ x < 65536) {k:Nat} {n:Int} (hn:0 < n):0 ≤ pickV l k n ∧ pickV l k n < n:=by
  unfold pickV
  split
  · omega
  · rename_i h
    have hlt:k < l.length:=by omega
    have hx:=hl _ (List.getElem_mem hlt)
    rw [show l.getD k 0 = l[k] by simp [List.getD_eq_getElem?_getD,hlt],Int.tmod_eq_emod_of_nonneg hx.1]
    exact ⟨Int.emod_nonneg _ (by omega),Int.emod_lt_of_pos _ hn⟩
structure Fm (S:Store) (l:List Int) (S':Store) (k:Nat) (cs:List AV):Prop where
  keep:Keep S S'
  n:S.n + 4 ≤ S'.n
  lo:S'.obj S.n = some (.cells 33 [[aL aW16 l]] true)
  ro:S'.obj (S.n + 1) = some (.cells 42 [[aI 0,.nl,.nl,.nl,.nl,.nl,.nl,.nl]] true)
  ao:S'.obj (S.n + 2) = some (.cells 3 [[aI k]] true)
  co:S'.obj (S.n + 3) = some (.cells 42 [cs] true)
abbrev pickF (S:Store):AV:=.f (.func 78) [] [.p (S.n + 2) 0 0,.p S.n 0 0]
theorem Fm.old {S S' S'':Store} {l:List Int} {k:Nat} {cs:List AV} (h:Fm S l S' k cs) (hn:S'.n ≤ S''.n) (ho:∀ x,x < S.n + 4 → S''.obj x = S'.obj x):Fm S l S'' k cs :=
  ⟨⟨by have:=h.keep.1; omega,fun x hx=>(ho x (by omega)).trans (h.keep.2 x hx)⟩,by have:=h.n; omega,(ho _ (by omega)).trans h.lo,(ho _ (by omega)).trans h.ro,(ho _ (by omega)).trans h.ao,(ho _ (by omega)).trans h.co⟩
theorem Fm.pick {S S':Store} {l:List Int} {k:Nat} {cs:List AV} (h:Fm S l S' k cs) (hl:∀ x ∈ l,0 ≤ x ∧ x < 65536) {n:Int} (hn:0 < n) (hk:k ≤ 1000) {K X:AV → Store → Prop}
    (kk:∀ S'',Fm S l S'' (k + 1) cs → S''.n = S'.n → (∀ x,x ≠ S.n + 2 → S''.obj x = S'.obj x) → K (aI (pickV l k n)) S''):callV Tryz.prog (pickF S) [aI n] S' K X:=by
  refine .inl (pick_of h.ao h.lo (by omega) hl hn (by omega) fun S'' n2 o2 f2=>kk S'' ⟨⟨by have:=h.keep.1; omega,fun x hx=>(f2 x (by omega)).trans (h.keep.2 x hx)⟩,by have:=h.n; omega,(f2 _ (by omega)).trans h.lo,(f2 _ (by omega)).trans h.ro,o2,(f2 _ (by omega)).trans h.co⟩ n2 f2)
theorem Fm.st {S S':Store} {l:List Int} {k j:Nat} {cs:List AV} {u:AV} (h:Fm S l S' k cs) (hj:j < cs.length) (hu:u.one = true) {K:AV → Store → Prop}
    (kk:∀ S'',Fm S l S'' k (cs.set j u) → S''.n = S'.n → (∀ x,x ≠ S.n + 3 → S''.obj x = S'.obj x) → K .j S''):stN 1 (.p (S.n + 3) 0 j) u S' K :=
  stF_of h.co hj hu fun S'' n2 o2 f2=>kk S'' ⟨⟨by have:=h.keep.1; omega,fun x hx=>(f2 x (by omega)).trans (h.keep.2 x hx)⟩,by have:=h.n; omega,(f2 _ (by omega)).trans h.lo,(f2 _ (by omega)).trans h.ro,(f2 _ (by omega)).trans h.ao,o2⟩ n2 f2
theorem Fm.kT {S S' T:Store} {l:List Int} {k:Nat} {cs:List AV} (h:Fm S l S' k cs) (hT:Keep S' T):T.obj (S.n + 3) = some (.cells 42 [cs] true):=(hT.2 _ (by have:=h.n; omega)).trans h.co
theorem Fm.wk {S S':Store} {l:List Int} {k:Nat} {cs cs2:List AV} (h:Fm S l S' k cs) (hl:cs.length = cs2.length) (hc:∀ (k:Nat) (u u2:AV),cs[k]? = some u → cs2[k]? = some u2 → Cv (S'.frz (newer (S.n + 4))) S'.n u u2) (ls:List AV) :
    ∃ S'',Wk S' ls S'' ls ∧ Fm S l S'' k cs2 ∧ S''.n = S'.n:=by
  refine ⟨_,Wk.row (newer (S.n + 4)) h.co (by simp [newer]) (es2:=[cs2]) ⟨rfl,fun i c1 c2 e1 e2=>?_⟩,?_,rfl⟩
  · match i with
    | 0=>cases e1; cases e2; exact ⟨hl,hc⟩
    | i + 1=>simp at e1
  · have hlow:∀ x,x < S.n + 4 → x ≠ S.n + 3 → (S'.tell (newer (S.n + 4)) (S.n + 3) (.cells 42 [cs2] true)).obj x = S'.obj x:=fun x hx hne=>tell_ne hne (by simp [newer]; omega)
    exact ⟨⟨h.keep.1,fun x hx=>(hlow x (by omega) (by omega)).trans (h.keep.2 x hx)⟩,h.n,(hlow _ (by omega) (by omega)).trans h.lo,(hlow _ (by omega) (by omega)).trans h.ro,(hlow _ (by omega) (by omega)).trans h.ao,tell_id⟩
theorem bsl3 {e:Nat} {z u v w:AV} {S:Store} {K:AV → Store → Prop} (hu:u.one = true) (hv:v.one = true) (hw:w.one = true) (k:K (.l [[u],[v],[w]]) S):bslN e 1 3 [z] [(0,u),(1,v),(2,w)] S K:=by
  refine ⟨[u,v,w],?_,.inr ?_⟩
  · simp [fillA,cells_of_one hu,cells_of_one hv,cells_of_one hw,spl,List.range_succ]
  · simpa [chunks,List.range_succ] using k
theorem bslA3 {e:Nat} {z1 z2 z3 u v w:AV} {S:Store} {K:AV → Store → Prop} (k:K (.l [[u,v,w]]) S):bslN e 3 1 [z1,z2,z3] [(0,.a [u,v,w])] S K:=by
  refine ⟨[u,v,w],?_,.inr ?_⟩
  · simp [fillA,cellsOf,spl]
  · simpa [chunks] using k
theorem own_one {n:Nat} {S:Store} {x:AV} {e:Nat} {es:List (List AV)} (h:Own n S x e es):x.one = true:=by rcases h with ⟨rfl,_⟩ | ⟨id,rfl,_⟩ <;> rfl
theorem wrap16 {x:Int} (h0:0 ≤ x) (h1:x < 65536):IntKind.u16.wrap x = x:=by rw [IntKind.wrap_u16]; omega
theorem _root_.Go.Ab.Own.fm {S S' S'':Store} {x:AV} {e:Nat} {es:List (List AV)} {id:Nat} (h:Own (S.n + 4) S' x e es) (hid:id < S.n + 4) (hn:S''.n = S'.n) (ho:∀ y,y ≠ id → S''.obj y = S'.obj y):Own (S.n + 4) S'' x e es :=
  h.st (id:=id) (fun b m e=>by have:=h.lt e; omega) hn ho
theorem own_cvP {n:Nat} {S:Store} {x:AV} {e:Nat} {l:List (Int × Int)} {F:Nat → Bool} {k:Nat} (h:Own n S x e (l.map fun p=>[aI p.1,aI p.2])) (hF:∀ i b m,x = .s i b m → F i = true):Cv (S.frz F) k x (pL l):=by
  rcases h with ⟨rfl,h⟩ | ⟨id,rfl,h1,h2,h3⟩
  · have:l = []:=List.map_eq_nil_iff.1 h
    subst this
    exact .nl
  · refine .s id 0 _ e _ _ (by rw [frz_of h3,hF id _ _ rfl]; rfl) (by simp) (by simp) (fun i c c2 hi hi2=>?_) (fun i c c2 k u u2 hi hi2 hk hk2=>?_)
    · rw [Nat.zero_add] at hi; rw [hi] at hi2; cases hi2; rfl
    · rw [Nat.zero_add] at hi; rw [hi] at hi2; cases hi2
      rw [hk] at hk2; cases hk2
      rw [List.getElem?_map] at hi
      obtain ⟨a,_,rfl⟩:=Option.map_eq_some_iff.1 hi
      match k with
      | 0=>cases hk; exact .v _
      | 1=>cases hk; exact .v _
      | k + 2=>simp at hk
theorem own_cvI {n:Nat} {S:Store} {x:AV} {e:Nat} {l:List Int} {F:Nat → Bool} {k:Nat} (h:Own n S x e (l.map fun p=>[aI p])) (hF:∀ i b m,x = .s i b m → F i = true):Cv (S.frz F) k x (aL aI l):=by
  rcases h with ⟨rfl,h⟩ | ⟨id,rfl,h1,h2,h3⟩
  · have:l = []:=List.map_eq_nil_iff.1 h
    subst this
    exact .nl
  · refine .s id 0 _ e _ _ (by rw [frz_of h3,hF id _ _ rfl]; rfl) (by simp) (by simp) (fun i c c2 hi hi2=>?_) (fun i c c2 k u u2 hi hi2 hk hk2=>?_)
    · rw [Nat.zero_add] at hi; rw [hi] at hi2; cases hi2; rfl
    · rw [Nat.zero_add] at hi; rw [hi] at hi2; cases hi2
      rw [hk] at hk2; cases hk2
      rw [List.getElem?_map] at hi
      obtain ⟨a,_,rfl⟩:=Option.map_eq_some_iff.1 hi
      match k with
      | 0=>cases hk; exact .v _
      | k + 1=>simp at hk
theorem own_cvN {n:Nat} {S:Store} {x:AV} {e:Nat} {l:List Na} {F:Nat → Bool} {k:Nat} (h:Own n S x e (l.map Na.row)) (hF:∀ i b m,x = .s i b m → F i = true):Cv (S.frz F) k x (nL l):=by
  rcases h with ⟨rfl,h⟩ | ⟨id,rfl,h1,h2,h3⟩
  · have:l = []:=List.map_eq_nil_iff.1 h
    subst this
    exact .nl
  · refine .s id 0 _ e _ _ (by rw [frz_of h3,hF id _ _ rfl]; rfl) (by simp) (by simp) (fun i c c2 hi hi2=>?_) (fun i c c2 k u u2 hi hi2 hk hk2=>?_)
    · rw [Nat.zero_add] at hi; rw [hi] at hi2; cases hi2; rfl
    · rw [Nat.zero_add] at hi; rw [hi] at hi2; cases hi2
      rw [hk] at hk2; cases hk2
      rw [List.getElem?_map] at hi
      obtain ⟨a,_,rfl⟩:=Option.map_eq_some_iff.1 hi
      unfold Na.row at hk
      match k with
      | 0=>cases hk; exact .v _
      | 1=>cases hk; exact .v _
      | 2=>cases hk; exact .v _
      | k + 3=>simp at hk
theorem _root_.Go.Ab.Own.fF {n:Nat} {S:Store} {x:AV} {e:Nat} {es:List (List AV)} (h:Own n S x e es) {m:Nat} (hm:m ≤ n):∀ i b k,x = .s i b k → newer m i = true:=fun i b k e=>by
  have:=h.lt e
  simp [newer]; omega
theorem madeC_of {inp:Int} {lats:List (Int × Int)} {g:Gr} {outs bads cons fair:List Int} {b1 b2:Bool} {t:ByteArray} (h0:0 ≤ inp) (h1:inp ≤ 3) (hl1:1 ≤ lats.length) (hl2:lats.length ≤ 3)
    (hg:g.right = true) (hgi:g.inputs = inp + lats.length) (hga:g.ands.length ≤ 8) (hgok:g.ok) (hlat:∀ p ∈ lats,g.lit p.1 = true ∧ 0 ≤ p.2 ∧ p.2 ≤ 2) (ho:∀ x ∈ outs,g.lit x = true) (hb:∀ x ∈ bads,g.lit x = true)
    (hc:∀ x ∈ cons,g.lit x = true) (hf:∀ x ∈ fair,g.lit x = true) (lo:outs.length ≤ 2) (lb:bads.length ≤ 1) (lc:cons.length ≤ 1) (lf:fair.length ≤ 1)
    (ht:b2 = true → 0 < outs.length ∧ (t = ⟨#[111,117,116]⟩ ∨ t = ⟨#[108,49]⟩ ∨ t = ⟨#[97,45,98]⟩)) :
    MadeC ⟨inp,lats,g.ands,outs,bads,cons,fair,(if b1 then [⟨108,0,⟨#[113]⟩⟩] else []) ++ (if b2 then [⟨111,outs.length - 1,t⟩] else [])⟩:=by
  have hvg:g.vars = inp + lats.length + 1 + g.ands.length:=by unfold Gr.vars; omega
  have hi64:∀ {x:Int},g.lit x = true → i64R x:=fun h=>by
    obtain ⟨_,_,h1,h2⟩:=lit_iff.1 h
    exact ⟨by omega,by omega⟩
  have hgr:∀ nm,(⟨inp,lats,g.ands,outs,bads,cons,fair,nm⟩:Ci).gr = g:=fun nm=>by
    show (⟨IntKind.i64.wrap (inp + lats.length),g.ands⟩:Gr) = g
    rw [wrap64 (by omega) (by omega),← hgi]
  have htl:b2 = true → wordB t = true ∧ t.size ≤ 100 ∧ t ≠ ⟨#[113]⟩:=fun h=>by
    rcases (ht h).2 with rfl | rfl | rfl <;> exact ⟨by decide,by decide,by decide⟩
  generalize hnm:((if b1 then [⟨108,0,⟨#[113]⟩⟩] else []) ++ (if b2 then [⟨111,outs.length - 1,t⟩] else []):List Na) = nm
  have hnl:nm.length ≤ 2:=by subst hnm; cases b1 <;> cases b2 <;> simp
  have hnames:namesB ⟨inp,lats,g.ands,outs,bads,cons,fair,nm⟩ = true:=by
    have e1:nameOk ⟨inp,lats,g.ands,outs,bads,cons,fair,nm⟩ ⟨108,0,⟨#[113]⟩⟩:=⟨by decide,by decide,by simp [Ci.many]; omega⟩
    have e2:b2 = true → nameOk ⟨inp,lats,g.ands,outs,bads,cons,fair,nm⟩ ⟨111,outs.length - 1,t⟩:=fun h=>⟨(htl h).1,by have:=(ht h).1; show (0:Int) ≤ outs.length - 1; omega,by have:=(ht h).1; simp [Ci.many]; omega⟩
    have e3:nameLt ⟨108,0,⟨#[113]⟩⟩ ⟨111,outs.length - 1,t⟩:=.inl (by show rankI 108 < rankI 111; decide)
    simp only [namesB,decide_eq_true_eq]
    subst hnm
    cases b1 <;> cases b2
    · exact ⟨fun i h=>by simp at h,fun i h=>by simp at h,by simp⟩
    · refine ⟨fun i h _=>?_,fun i h=>by simp at h,by simp⟩
      match i with
      | 0=>exact e2 rfl
      | i + 1=>exact absurd (show i + 1 < 1 from h) (by omega)
    · refine ⟨fun i h _=>?_,fun i h=>by simp at h,by simp⟩
      match i with
      | 0=>exact e1
      | i + 1=>exact absurd (show i + 1 < 1 from h) (by omega)
    · refine ⟨fun i h _=>?_,fun i h _=>?_,?_⟩
      · match i with
        | 0=>exact e1
        | 1=>exact e2 rfl
        | i + 2=>exact absurd (show i + 2 < 2 from h) (by omega)
      · match i with
        | 0=>exact e3
        | i + 1=>exact absurd (show i + 1 + 1 < 2 from h) (by omega)
      · have:=(htl rfl).2.2
        simp only [if_true,List.cons_append,List.nil_append,List.length_cons,List.length_nil,List.take_succ_cons,List.take_zero,List.map_cons,List.map_nil,List.nodup_cons,List.mem_singleton,List.not_mem_nil,not_false_eq_true,List.nodup_nil,and_true]
        exact fun h=>this (keyOf_inj h.symm)
  have hnk:∀ x ∈ nm,0 ≤ x.kind ∧ x.kind < 256 ∧ i64R x.pos ∧ x.text.size ≤ 9223372036854775807:=by
    subst hnm
    intro x hx
    rcases List.mem_append.1 hx with hx | hx
    · cases b1
      · simp at hx
      · have:x = ⟨108,0,⟨#[113]⟩⟩:=by simpa using hx
        subst this
        exact ⟨by decide,by decide,⟨by decide,by decide⟩,by decide⟩
    · cases b2
      · simp at hx
      · have:x = ⟨111,outs.length - 1,t⟩:=by simpa using hx
        subst this
        have h2:=htl rfl
        exact ⟨by show (0:Int) ≤ 111; decide,by show (111:Int) < 256; decide,⟨by show _ ≤ (outs.length:Int) - 1; omega,by show (outs.length:Int) - 1 ≤ _; omega⟩,by show t.size ≤ _; omega⟩
  refine ⟨⟨⟨by show _ ≤ inp; omega,by show inp ≤ _; omega⟩,by show lats.length ≤ _; omega,by show g.ands.length ≤ _; omega,fun p hp=>⟨hi64 (hlat p hp).1,⟨by have:=hlat p hp; omega,by have:=hlat p hp; omega⟩⟩,hgok.pairs,⟨fun x hx=>hi64 (ho x hx),by show outs.length ≤ _; omega⟩,⟨fun x hx=>hi64 (hb x hx),by show bads.length ≤ _; omega⟩,
    ⟨fun x hx=>hi64 (hc x hx),by show cons.length ≤ _; omega⟩,⟨fun x hx=>hi64 (hf x hx),by show fair.length ≤ _; omega⟩,hnk,by show nm.length ≤ _; omega⟩,right_c.2 ?_,⟨h0,h1⟩,⟨hl1,hl2⟩,hga,lo,lb,lc,lf,⟨b1,b2,t,hnm.symm,ht⟩⟩
  rw [hgr]
  refine ⟨⟨h0,by show inp ≤ _; omega⟩,by show lats.length ≤ _; omega,by show outs.length ≤ _; omega,by show bads.length ≤ _; omega,by show cons.length ≤ _; omega,by show fair.length ≤ _; omega,hg,?_,?_,?_,?_,?_,hnames⟩
  · refine List.all_eq_true.2 fun p hp=>?_
    obtain ⟨q1,q2,q3⟩:=hlat p hp
    simp only [latOk,q1,decide_eq_true q2,decide_eq_true q3,Bool.and_self]
  · exact List.all_eq_true.2 ho
  · exact List.all_eq_true.2 hb
  · exact List.all_eq_true.2 hc
  · exact List.all_eq_true.2 hf
def seedL (l:List Int):List Int:=(List.range (pickV l 2 9).toNat).map fun i=>pickV l (3 + i) 65536
def varsL (l:List Int):Int:=(madeTo (pickV l 0 4 + (1 + pickV l 1 3)) (seedL l) (min (seedL l).length 40)).1.vars
theorem made248 {l:List Int} (hl:∀ x ∈ l,0 ≤ x ∧ x < 65536) {S:Store}:ACalls Tryz.prog 48 [aL aW16 l] S (fun e S'=>∃ tr,e = .ret tr ∧ S' = S ∧ ∃ c,tr = c.av ∧ MadeC c ∧ c.gr.vars = varsL l):=by
  refine ACalls.treeE (calls48 ?_)
  unfold m48
  refine box1_of rfl fun S1 k1 n1 o1=>?_
  refine boxA_of rfl fun S2 k2 n2 o2=>?_
  refine box1_of rfl fun S3 k3 n3 o3=>?_
  refine st_of o3 rfl rfl fun S4 n4 o4 f4=>?_
  refine boxA_of rfl fun S5 k5 n5 o5=>?_
  have e1:S1.n = S.n + 1:=n1
  have e2:S2.n = S.n + 2:=by omega
  have e4:S4.n = S.n + 3:=by omega
  rw [e1] at o2; rw [e2] at o3 o4 f4; rw [e4] at o5
  rw [e1,e2,e4]
  have fm:Fm S l S5 0 [aI 0,.nl,.nl,.nl,.nl,.nl,.nl,.nl]:=by
    have old4:∀ x,x < S.n + 2 → S4.obj x = S2.obj x:=fun x hx=>(f4 x (by omega)).trans (k3.2 x (by omega))
    have old5:∀ x,x < S.n + 3 → S5.obj x = S4.obj x:=fun x hx=>k5.2 x (by omega)
    refine ⟨⟨by omega,fun x hx=>(old5 x (by omega)).trans ((old4 x (by omega)).trans ((k2.2 x (by omega)).trans (k1.2 x hx)))⟩,by omega,?_,?_,(old5 _ (by omega)).trans o4,o5⟩
    · exact (old5 _ (by omega)).trans ((old4 _ (by omega)).trans ((k2.2 _ (by omega)).trans o1))
    · exact (old5 _ (by omega)).trans ((old4 _ (by omega)).trans o2)
  show callV _ (pickF S) _ _ _ _
  refine fm.pick hl (by decide) (by decide) fun S6 fm n6 f6=>?_
  have pi:=pickV_rng hl (k:=0) (n:=4) (by decide)
  generalize hinp:pickV l 0 4 = inp at *
  rw [shift_p]
  refine fm.st (by simp) rfl fun S7 fm n7 f7=>?_
  show callV _ (pickF S) _ _ _ _
  refine fm.pick hl (by decide) (by decide) fun S8 fm n8 f8=>?_
  have pm:=pickV_rng hl (k:=1) (n:=3) (by decide)
  generalize hm3:pickV l 1 3 = m3 at *
  rw [bin_add (by omega) (by omega)]
  obtain ⟨many,hmany⟩:=Int.eq_ofNat_of_zero_le (show 0 ≤ 1 + m3 by omega)
  have hm1:1 ≤ many ∧ many ≤ 3:=by omega
  rw [hmany]
  show callV _ (pickF S) _ _ _ _
  refine fm.pick hl (by decide) (by decide) fun S9 fm n9 f9=>?_
  have pr:=pickV_rng hl (k:=2) (n:=9) (by decide)
  generalize h9:pickV l 2 9 = r9 at *
  obtain ⟨r0,rfl⟩:=Int.eq_ofNat_of_zero_le pr.1
  replace fm:Fm S l S9 3 [aI inp,.nl,.nl,.nl,.nl,.nl,.nl,.nl]:=fm
  show loopV _ _ _ (env48_0 (.p (S.n + 1) 0 0) (pickF S) (.p (S.n + 3) 0 0) (aI many) .nl (aI r0)) _ _
  refine loop48_0 (fun y7 y8 S'=>∃ (r k:Nat) (sd:List Int),y8 = aI r ∧ (r + sd.length = r0 ∧ k = 3 + sd.length ∧ sd = (List.range sd.length).map fun i=>pickV l (3 + i) 65536) ∧ r + sd.length ≤ 8 ∧ k + r ≤ 11 ∧ Fm S l S' k [aI inp,.nl,.nl,.nl,.nl,.nl,.nl,.nl] ∧ Own (S.n + 4) S' y7 126 (sd.map fun x=>[aW16 x]) ∧ ∀ x ∈ sd,0 ≤ x ∧ x < 65536)
    (fun _ y _=>((intA y).getD 0).toNat) ⟨r0,3,[],rfl,⟨by simp,rfl,rfl⟩,by simp; omega,by omega,fm,Own.nl _ _ _,fun _ h=>by cases h⟩ ?_
  rintro y7 _ S1 ⟨r,k,sd,rfl,⟨hrr,hkk,hsq⟩,hr,hk,fm,w7,hsd⟩ KE hKE
  unfold b48_0
  rw [bin_gtr,onB_v]
  refine gd_of (fun hgt=>?_) (fun hle=>?_)
  · have hgt:0 < r:=by have:=of_decide_eq_true hgt; omega
    refine fm.pick hl (by decide) (by omega) fun S2 fm n2 f2=>?_
    have px:=pickV_rng hl (k:=k) (n:=65536) (by decide)
    generalize hx:pickV l k 65536 = x at *
    have w2:=w7.fm (by omega) n2 f2
    rw [convI_v,wrap16 px.1 px.2]
    refine bsl1 rfl (fun _ h=>by cases h) ?_
    refine w2.app (by have:=fm.n; omega) (c:=[aW16 x]) rfl (by rw [List.length_map]; omega) (fun z S3 w3 b3 hz=>?_) rfl
    have n3:=b3.1
    have o3:∀ x,x < S.n + 4 → S3.obj x = S2.obj x:=fun x hx=>b3.2 x (by have:=fm.n; omega) (fun b m e=>by have:=w2.lt e; omega)
    rw [bin_sub (by omega) (by omega),show (r:Int) - 1 = ((r - 1:Nat):Int) by omega]
    refine hKE _ _ _ ⟨r - 1,k + 1,sd ++ [x],rfl,⟨by simp; omega,by simp; omega,by rw [List.length_append,List.length_singleton,List.range_succ,List.map_append,← hsq]; simp [← hx,hkk]⟩,by rw [List.length_append,List.length_singleton]; omega,by omega,fm.old n3 o3,by rw [List.map_append]; exact w3,fun a ha=>?_⟩ (by simp [intA]; omega)
    rcases List.mem_append.1 ha with ha | ha
    · exact hsd a ha
    · have:a = x:=by simpa using ha
      subst this
      exact px
  have hle:r = 0:=by have:=of_decide_eq_false hle; omega
  subst hle
  clear hKE KE
  rw [shift_p,ld1_p fm.co rfl rfl,bin_add (by omega) (by omega)]
  have hlen:∀ (T:Store) (K:AV → Store → Prop),lenS y7 T K = K (aI sd.length) T:=fun T K=>by
    rcases w7 with ⟨rfl,e⟩ | ⟨id,rfl,_⟩
    · have:sd = []:=List.map_eq_nil_iff.1 e
      subst this; rfl
    · rw [lenS_s,List.length_map]
  obtain ⟨q7,hq7⟩:∃ q:Nat,∀ (i:Nat),i < sd.length → y7 = .s q 0 sd.length ∧ q < S1.n ∧ S1.obj q = some (.cells 126 (sd.map fun x=>[aW16 x]) true):=by
    rcases w7 with ⟨rfl,e⟩ | ⟨id,rfl,h1,h2,h3⟩
    · have:sd = []:=List.map_eq_nil_iff.1 e
      subst this; exact ⟨0,fun i hi=>by simp at hi⟩
    · exact ⟨id,fun i _=>⟨by rw [List.length_map],h2,h3⟩⟩
  have hmade:=at79 (n:=inp + many) (by omega) (by omega) hsd (by omega) (S:=S1) (x1:=y7) hlen (P:=fun i=>.p q7 i 0) (fun T hT i hi=>by
    obtain ⟨h1,h2,h3⟩:=hq7 i hi
    have h4:=(hT.2 _ h2).trans h3
    subst h1
    refine ⟨fun K=>by rw [ixS_s hi h4,Nat.zero_add],fun K=>by rw [ld1_p h4 (by rw [List.getElem?_map,List.getElem?_eq_getElem hi]; rfl) rfl]⟩)
  have hrt:=madeTo_right (n:=inp + many) (by omega) (by omega) hsd (min sd.length 40) (by omega)
  have hgok:=madeTo_ok (n:=inp + many) ⟨by omega,by omega⟩ hsd (by omega) (min sd.length 40)
  have hgin:=madeTo_inp (inp + many) sd (min sd.length 40)
  have hmin:min sd.length 40 ≤ 8:=by omega
  have hvars:(madeTo (inp + many) sd (min sd.length 40)).1.vars = varsL l:=by
    have e:sd = seedL l:=by
      rw [hsq,seedL,h9]
      rw [show sd.length = r0 by omega]
      rfl
    rw [varsL,hinp,hm3,hmany,← e]
  generalize (madeTo (inp + many) sd (min sd.length 40)).1 = g at *
  generalize (madeTo (inp + many) sd (min sd.length 40)).2 = last at *
  obtain ⟨hg,hlast,hv1,hv2⟩:=hrt
  have hga:g.ands.length ≤ 8:=by unfold Gr.vars at hv2; omega
  refine callF_at hmade ?_
  rw [extr0,extr1]
  refine boxA_of rfl fun S2 k2 n2 o2=>?_
  refine stA_of o2 rfl rfl fun S3 n3 o3 f3=>?_
  have hb:=fm.n
  replace fm:Fm S l S3 k _:=fm.old (by omega) fun x hx=>(f3 x (by omega)).trans (k2.2 x (by omega))
  rw [shift_p,ld1_p o3 rfl rfl,shift_p]
  refine fm.st (by simp) rfl fun S4 fm n4 f4=>?_
  have o4:=(f4 S1.n (by omega)).trans o3
  rw [ldN_p (n:=2) o4 rfl]
  refine callF_ans (ans40 hgok (by omega) (by omega)) ?_
  rw [bin_mul (by omega) (by omega)]
  have hvp:0 < 2 * g.vars:=by omega
  have plit:∀ {x:Int},0 ≤ x ∧ x < 2 * g.vars → g.lit x = true:=fun h=>lit_iff.2 ⟨by omega,by omega,h.1,by omega⟩
  show loopV _ _ _ (env48_1 (.p (S.n + 1) 0 0) (pickF S) (.p (S.n + 3) 0 0) (aI many) (aI last) (aI (2 * g.vars)) (aI (0:Nat))) _ _
  replace fm:Fm S l S4 k [aI inp,.nl,pL g.ands,.nl,.nl,.nl,.nl,.nl]:=fm
  refine loop48_1 (fun y12 S'=>∃ (i k:Nat) (zl:AV) (lats:List (Int × Int)),y12 = aI i ∧ i ≤ many ∧ k ≤ 11 + 2 * i ∧ Fm S l S' k [aI inp,zl,pL g.ands,.nl,.nl,.nl,.nl,.nl] ∧ Own (S.n + 4) S' zl 66 (lats.map fun p=>[aI p.1,aI p.2]) ∧ lats.length = i ∧ ∀ p ∈ lats,g.lit p.1 = true ∧ 0 ≤ p.2 ∧ p.2 ≤ 2)
    (fun y _=>many - ((intA y).getD 0).toNat) ⟨0,k,.nl,[],rfl,Nat.zero_le _,by omega,fm,Own.nl _ _ _,rfl,fun _ h=>by cases h⟩ ?_
  rintro _ S1 ⟨i,k,zl,lats,rfl,hi,hk,fm,wl,hll,hlat⟩ KE hKE
  unfold b48_1
  rw [bin_lss,onB_v]
  refine gd_of (fun hlt=>?_) (fun hge=>?_)
  · have hlt:i < many:=by have:=of_decide_eq_true hlt; omega
    refine fm.pick hl hvp (by omega) fun S2 fm n2 f2=>?_
    have pn:=plit (pickV_rng hl (k:=k) hvp)
    generalize pickV l k (2 * g.vars) = n at *
    have w2:=wl.fm (by omega) n2 f2
    rw [bin_eql,onB_v]
    have step:∀ nx:Int,g.lit nx = true → ∀ (S3:Store) (p5:Int) (k':Nat),0 ≤ p5 ∧ p5 < 5 → k' ≤ 11 + 2 * (i + 1) → Fm S l S3 k' [aI inp,zl,pL g.ands,.nl,.nl,.nl,.nl,.nl] → Own (S.n + 4) S3 zl 66 (lats.map fun p=>[aI p.1,aI p.2]) →
        (∃ q46:AV,(∀ T:Store,Keep S3 T → bin .quo 0 (aI p5) (.v (.int .i64 2)) T fun v S=>v = q46 ∧ S = T) ∧ ∃ q48:AV,(∀ T:Store,Keep S3 T → bld [(0,1),(1,1)] [(.v (.int .i64 0)),(.v (.int .i64 0))] [(0,aI nx),(1,q46)] T fun v S=>v = q48 ∧ S = T) ∧
          ∃ q50:AV,(∀ T:Store,Keep S3 T → bslN 66 2 1 [(.v (.int .i64 0)),(.v (.int .i64 0))] [(0,q48)] T fun v S=>v = q50 ∧ S = T) ∧ appS 66 2 16 zl q50 S3 fun v52 T =>
          ∃ q53:AV,(∀ T':Store,Keep T T' → shift (.p (S.n + 3) 0 0) 1 T' fun v S=>v = q53 ∧ S = T') ∧ stN 1 q53 v52 T fun _ T=>bin .add 0 (aI i) (.v (.int .i64 1)) T fun v T=>KE 156 (env48_1 (.p (S.n + 1) 0 0) (pickF S) (.p (S.n + 3) 0 0) (aI many) (aI last) (aI (2 * g.vars)) v) T):=by
      intro nx hnx S3 p5 k' hp5 hk' fm w3
      have hd:0 ≤ p5.tdiv 2 ∧ p5.tdiv 2 ≤ 2:=by rw [Int.tdiv_eq_ediv_of_nonneg hp5.1]; omega
      refine ⟨_,fun T hT=>by rw [bin_quo (by decide) (by omega) (by omega)]; exact ⟨rfl,rfl⟩,_,fun T hT=>by rw [bld_of (cs:=[aI nx,aI (p5.tdiv 2)]) rfl]; exact ⟨rfl,rfl⟩,_,fun T hT=>bslP ⟨rfl,rfl⟩,?_⟩
      refine w3.app (by have:=fm.n; omega) (c:=[aI nx,aI (p5.tdiv 2)]) rfl (by rw [List.length_map]; omega) (fun z S4 w4 b4 hz=>?_) rfl
      have n4:=b4.1
      have hn3:=fm.n
      have o4:∀ x,x < S.n + 4 → S4.obj x = S3.obj x:=fun x hx=>b4.2 x (by omega) (fun b m e=>by have:=w3.lt e; omega)
      refine ⟨_,fun T hT=>by rw [shift_p]; exact ⟨rfl,rfl⟩,?_⟩
      replace fm:=fm.old n4 o4
      refine fm.st (by simp) (own_one w4) fun S5 fm n5 f5=>?_
      have w5:=w4.fm (by omega) n5 f5
      rw [bin_add (by omega) (by omega)]
      refine hKE _ _ ⟨i + 1,k',z,lats ++ [(nx,p5.tdiv 2)],rfl,hlt,hk',fm,by rw [List.map_append]; exact w5,by simp [hll],fun p hp=>?_⟩ (by simp [intA]; omega)
      rcases List.mem_append.1 hp with hp | hp
      · exact hlat p hp
      · have:p = (nx,p5.tdiv 2):=by simpa using hp
        subst this
        exact ⟨hnx,hd⟩
    have p5:=pickV_rng hl (k:=k + 1) (n:=5) (by decide)
    refine gd_of (fun h0=>?_) (fun h0=>?_)
    · refine ⟨_,fun T hT=>by rw [shift_p]; exact ⟨rfl,rfl⟩,zl,fun T hT=>by rw [ld1_p (fm.kT hT) rfl rfl]; exact ⟨rfl,rfl⟩,?_⟩
      refine fm.pick hl (by decide) (by omega) fun S3 fm n3 f3=>?_
      have w3:=w2.fm (by omega) n3 f3
      refine ⟨fun T hT=>by rw [ld1_p (fm.kT hT) rfl rfl]; exact ⟨rfl,rfl⟩,fun T hT=>by rw [shift_p]; exact ⟨rfl,rfl⟩,?_⟩
      exact step _ hlast S3 _ _ p5 (by omega) fm w3
    · refine ⟨_,fun T hT=>by rw [shift_p]; exact ⟨rfl,rfl⟩,zl,fun T hT=>by rw [ld1_p (fm.kT hT) rfl rfl]; exact ⟨rfl,rfl⟩,?_⟩
      refine fm.pick hl (by decide) (by omega) fun S3 fm n3 f3=>?_
      have w3:=w2.fm (by omega) n3 f3
      refine ⟨fun T hT=>by rw [ld1_p (fm.kT hT) rfl rfl]; exact ⟨rfl,rfl⟩,fun T hT=>by rw [shift_p]; exact ⟨rfl,rfl⟩,?_⟩
      exact step _ pn S3 _ _ p5 (by omega) fm w3
  have hge:i = many:=by have:=of_decide_eq_false hge; omega
  subst hge
  clear hKE KE
  refine fm.pick hl (by decide) (by omega) fun S2 fm n2 f2=>?_
  have w2:=wl.fm (by omega) n2 f2
  have p3:=pickV_rng hl (k:=k) (n:=3) (by decide)
  generalize pickV l k 3 = r3 at *
  obtain ⟨r0,rfl⟩:=Int.eq_ofNat_of_zero_le p3.1
  obtain ⟨S3,wk3,fm3,n3⟩:=fm.wk (cs2:=[aI inp,pL lats,pL g.ands,.nl,.nl,.nl,.nl,.nl]) rfl (fun k' u u2 e1 e2=>by
    match k' with
    | 0=>cases e1; cases e2; exact .v _
    | 1=>cases e1; cases e2; exact own_cvP w2 (w2.fF (Nat.le_refl _))
    | 2=>cases e1; cases e2; exact treeP _ _ _
    | 3 | 4 | 5 | 6 | 7=>cases e1; cases e2; exact .nl'
    | k + 8=>simp at e1) (env48_2 (.p (S.n + 1) 0 0) (pickF S) (.p (S.n + 3) 0 0) (aI (2 * g.vars)) (aI r0))
  show loopV _ _ _ (env48_2 (.p (S.n + 1) 0 0) (pickF S) (.p (S.n + 3) 0 0) (aI (2 * g.vars)) (aI r0)) _ _
  refine loopw48_2 (fun y2 y4 y5 y11 y14 S'=>y2 = .p (S.n + 1) 0 0 ∧ y4 = pickF S ∧ y5 = .p (S.n + 3) 0 0 ∧ y11 = aI (2 * g.vars) ∧ ∃ (r k:Nat) (zo:AV) (outs:List Int),y14 = aI r ∧ outs.length + r ≤ 2 ∧ k + r ≤ 20 ∧ Fm S l S' k [aI inp,pL lats,pL g.ands,zo,.nl,.nl,.nl,.nl] ∧ Own (S.n + 4) S' zo 3 (outs.map fun p=>[aI p]) ∧ ∀ x ∈ outs,g.lit x = true)
    (fun _ _ _ _ y _=>((intA y).getD 0).toNat) ⟨_,_,_,_,_,S3,wk3,rfl,rfl,rfl,rfl,r0,k + 1,.nl,[],rfl,by simp; omega,by omega,fm3,Own.nl _ _ _,fun _ h=>by cases h⟩ ?_
  rintro _ _ _ _ _ S1 ⟨rfl,rfl,rfl,rfl,r,k,zo,outs,rfl,hor,hk,fm,wo,hou⟩ KE hKE
  unfold b48_2
  rw [bin_gtr,onB_v]
  refine gd_of (fun hgt=>?_) (fun hle=>?_)
  · have hgt:0 < r:=by have:=of_decide_eq_true hgt; omega
    refine ⟨_,fun T hT=>by rw [shift_p]; exact ⟨rfl,rfl⟩,zo,fun T hT=>by rw [ld1_p (fm.kT hT) rfl rfl]; exact ⟨rfl,rfl⟩,?_⟩
    refine fm.pick hl hvp (by omega) fun S2 fm n2 f2=>?_
    have pn:=plit (pickV_rng hl (k:=k) hvp)
    generalize pickV l k (2 * g.vars) = n at *
    have w2:=wo.fm (by omega) n2 f2
    refine ⟨fun T hT=>by rw [ld1_p (fm.kT hT) rfl rfl]; exact ⟨rfl,rfl⟩,fun T hT=>by rw [shift_p]; exact ⟨rfl,rfl⟩,_,fun T hT=>bsl1 rfl (fun _ h=>by cases h) ⟨rfl,rfl⟩,?_⟩
    refine w2.app (by have:=fm.n; omega) (c:=[aI n]) rfl (by rw [List.length_map]; omega) (fun z S4 w4 b4 hz=>?_) rfl
    have n4:=b4.1
    have hn3:=fm.n
    have o4:∀ x,x < S.n + 4 → S4.obj x = S2.obj x:=fun x hx=>b4.2 x (by omega) (fun b m e=>by have:=w2.lt e; omega)
    refine ⟨_,fun T hT=>by rw [shift_p]; exact ⟨rfl,rfl⟩,?_⟩
    replace fm:=fm.old n4 o4
    refine fm.st (by simp) (own_one w4) fun S5 fm n5 f5=>?_
    have w5:=w4.fm (by omega) n5 f5
    rw [bin_sub (by omega) (by omega),show (r:Int) - 1 = ((r - 1:Nat):Int) by omega]
    refine hKE _ _ _ _ _ _ _ _ _ _ _ _ (Wk.refl _ _) ⟨rfl,rfl,rfl,rfl,r - 1,k + 1,z,outs ++ [n],rfl,by rw [List.length_append,List.length_singleton]; omega,by omega,fm,by rw [List.map_append]; exact w5,fun p hp=>?_⟩ (by simp [intA]; omega)
    rcases List.mem_append.1 hp with hp | hp
    · exact hou p hp
    · have:p = n:=by simpa using hp
      subst this
      exact pn
  have hle:r = 0:=by have:=of_decide_eq_false hle; omega
  subst hle
  clear hKE KE
  have tail:∀ (S':Store) (k:Nat) (zo zb zc:AV) (bads cons:List Int) (r0:Nat),r0 ≤ 1 → k ≤ 25 → Fm S l S' k [aI inp,pL lats,pL g.ands,zo,zb,zc,.nl,.nl] → Own (S.n + 4) S' zo 3 (outs.map fun p=>[aI p]) → Own (S.n + 4) S' zb 3 (bads.map fun p=>[aI p]) → Own (S.n + 4) S' zc 3 (cons.map fun p=>[aI p]) →
      bads.length ≤ 1 → cons.length ≤ 1 → (∀ x ∈ bads,g.lit x = true) → (∀ x ∈ cons,g.lit x = true) →
      loopV lv48_3 (vc Tryz.prog (c48.at_ [1,1,1,1,1,1,1,1,1,1,1,1,1,1,1,0,1,0,0]) (ms48.drop 4)) 156 (env48_3 (.p (S.n + 1) 0 0) (pickF S) (.p (S.n + 3) 0 0) (aI (2 * g.vars)) (aI r0)) S'
        (blockK 6 (seqK (vc Tryz.prog (c48.at_ [1,1,1,1,1,1,1,1,1,1,1,1,1,1,1,1]) (ms48.drop 4)) (bodyK Tryz.prog r48 fun e S'=>∃ r tr,e = .ret r ∧ Keep S S' ∧ Cv (S'.frz (newer S.n)) S.n r tr ∧ ∃ c:Ci,tr = c.av ∧ MadeC c ∧ c.gr.vars = varsL l))):=by
    intro S' k zo zb zc bads cons r0 hr0 hk fm wo wb wc lb lc hbl hcl
    obtain ⟨S3,wk3,fm3,n3⟩:=fm.wk (cs2:=[aI inp,pL lats,pL g.ands,aL aI outs,aL aI bads,aL aI cons,.nl,.nl]) rfl (fun k' u u2 e1 e2=>by
      match k' with
      | 0=>cases e1; cases e2; exact .v _
      | 1=>cases e1; cases e2; exact treeP _ _ _
      | 2=>cases e1; cases e2; exact treeP _ _ _
      | 3=>cases e1; cases e2; exact own_cvI wo (wo.fF (Nat.le_refl _))
      | 4=>cases e1; cases e2; exact own_cvI wb (wb.fF (Nat.le_refl _))
      | 5=>cases e1; cases e2; exact own_cvI wc (wc.fF (Nat.le_refl _))
      | 6 | 7=>cases e1; cases e2; exact .nl'
      | k + 8=>simp at e1) (env48_3 (.p (S.n + 1) 0 0) (pickF S) (.p (S.n + 3) 0 0) (aI (2 * g.vars)) (aI r0))
    refine loopw48_3 (fun y2 y4 y5 y11 y15 S'=>y2 = .p (S.n + 1) 0 0 ∧ y4 = pickF S ∧ y5 = .p (S.n + 3) 0 0 ∧ y11 = aI (2 * g.vars) ∧ ∃ (r k:Nat) (zf:AV) (fair:List Int),y15 = aI r ∧ fair.length + r ≤ 1 ∧ k + r ≤ 26 ∧ Fm S l S' k [aI inp,pL lats,pL g.ands,aL aI outs,aL aI bads,aL aI cons,zf,.nl] ∧ Own (S.n + 4) S' zf 3 (fair.map fun p=>[aI p]) ∧ ∀ x ∈ fair,g.lit x = true)
      (fun _ _ _ _ y _=>((intA y).getD 0).toNat) ⟨_,_,_,_,_,S3,wk3,rfl,rfl,rfl,rfl,r0,k,.nl,[],rfl,by simp; omega,by omega,fm3,Own.nl _ _ _,fun _ h=>by cases h⟩ ?_
    rintro _ _ _ _ _ S1 ⟨rfl,rfl,rfl,rfl,r,k,zf,fair,rfl,hfr,hk,fm,wf,hfl⟩ KE hKE
    unfold b48_3
    rw [bin_gtr,onB_v]
    refine gd_of (fun hgt=>?_) (fun hle=>?_)
    · have hgt:0 < r:=by have:=of_decide_eq_true hgt; omega
      refine ⟨_,fun T hT=>by rw [shift_p]; exact ⟨rfl,rfl⟩,zf,fun T hT=>by rw [ld1_p (fm.kT hT) rfl rfl]; exact ⟨rfl,rfl⟩,?_⟩
      refine fm.pick hl hvp (by omega) fun S2 fm n2 f2=>?_
      have pn:=plit (pickV_rng hl (k:=k) hvp)
      generalize pickV l k (2 * g.vars) = n at *
      have w2:=wf.fm (by omega) n2 f2
      refine ⟨fun T hT=>by rw [ld1_p (fm.kT hT) rfl rfl]; exact ⟨rfl,rfl⟩,fun T hT=>by rw [shift_p]; exact ⟨rfl,rfl⟩,_,fun T hT=>bsl1 rfl (fun _ h=>by cases h) ⟨rfl,rfl⟩,?_⟩
      refine w2.app (by have:=fm.n; omega) (c:=[aI n]) rfl (by rw [List.length_map]; omega) (fun z S4 w4 b4 hz=>?_) rfl
      have n4:=b4.1
      have hn3:=fm.n
      have o4:∀ x,x < S.n + 4 → S4.obj x = S2.obj x:=fun x hx=>b4.2 x (by omega) (fun b m e=>by have:=w2.lt e; omega)
      refine ⟨_,fun T hT=>by rw [shift_p]; exact ⟨rfl,rfl⟩,?_⟩
      replace fm:=fm.old n4 o4
      refine fm.st (by simp) (own_one w4) fun S5 fm n5 f5=>?_
      have w5:=w4.fm (by omega) n5 f5
      rw [bin_sub (by omega) (by omega),show (r:Int) - 1 = ((r - 1:Nat):Int) by omega]
      refine hKE _ _ _ _ _ _ _ _ _ _ _ _ (Wk.refl _ _) ⟨rfl,rfl,rfl,rfl,r - 1,k + 1,z,fair ++ [n],rfl,by rw [List.length_append,List.length_singleton]; omega,by omega,fm,by rw [List.map_append]; exact w5,fun p hp=>?_⟩ (by simp [intA]; omega)
      rcases List.mem_append.1 hp with hp | hp
      · exact hfl p hp
      · have:p = n:=by simpa using hp
        subst this
        exact pn
    have hle:r = 0:=by have:=of_decide_eq_false hle; omega
    subst hle
    clear hKE KE
    have fin:∀ (S1:Store) (k:Nat) (zn:AV) (b1 b2:Bool) (t:ByteArray),Fm S l S1 k [aI inp,pL lats,pL g.ands,aL aI outs,aL aI bads,aL aI cons,zf,zn] → Own (S.n + 4) S1 zf 3 (fair.map fun p=>[aI p]) → (b2 = true → 0 < outs.length ∧ (t = ⟨#[111,117,116]⟩ ∨ t = ⟨#[108,49]⟩ ∨ t = ⟨#[97,45,98]⟩)) →
        Own (S.n + 4) S1 zn 130 (((if b1 then [⟨108,0,⟨#[113]⟩⟩] else []) ++ (if b2 then [⟨111,outs.length - 1,t⟩] else []):List Na).map Na.row) →
        ldN 8 (.p (S.n + 3) 0 0) S1 fun v S1=>stN 8 (.p (S.n + 1) 0 0) v S1 fun _ S2=>ldN 8 (.p (S.n + 1) 0 0) S2 fun v _=>∃ r tr,AEnd.ret v = .ret r ∧ Keep S S2 ∧ Cv (S2.frz (newer S.n)) S.n r tr ∧ ∃ c:Ci,tr = c.av ∧ MadeC c ∧ c.gr.vars = varsL l:=by
      intro S1 k zn b1 b2 t fm wf ht wn
      rw [ldN_p (n:=8) fm.co rfl]
      refine stA_of fm.ro rfl rfl fun S2 n2 o2 f2=>?_
      rw [ldN_p (n:=8) o2 rfl]
      have wf2:=wf.fm (id:=S.n + 1) (by omega) n2 f2
      have wn2:=wn.fm (id:=S.n + 1) (by omega) n2 f2
      refine ⟨_,_,rfl,fm.keep.st (by omega) n2 f2,?_,⟨inp,lats,g.ands,outs,bads,cons,fair,(if b1 then [⟨108,0,⟨#[113]⟩⟩] else []) ++ (if b2 then [⟨111,outs.length - 1,t⟩] else [])⟩,rfl,madeC_of pi.1 (by omega) (by omega) (by omega) hg (by rw [hgin,hll]) hga hgok hlat hou hbl hcl hfl (by omega) lb lc (by omega) ht,?_⟩
      rotate_left
      · have hgi':g.inputs = inp + lats.length:=by rw [hgin,hll]
        have:(Ci.gr ⟨inp,lats,g.ands,outs,bads,cons,fair,(if b1 then [⟨108,0,⟨#[113]⟩⟩] else []) ++ (if b2 then [⟨111,outs.length - 1,t⟩] else [])⟩) = g:=by
          show (⟨IntKind.i64.wrap (inp + lats.length),g.ands⟩:Gr) = g
          rw [wrap64 (by omega) (by omega),← hgi']
        rw [this]; exact hvars
      refine .a _ _ rfl fun k' u u2 e1 e2=>?_
      match k' with
      | 0=>cases e1; cases e2; exact .v _
      | 1=>cases e1; cases e2; exact treeP _ _ _
      | 2=>cases e1; cases e2; exact treeP _ _ _
      | 3=>cases e1; cases e2; exact treeI _ _ _
      | 4=>cases e1; cases e2; exact treeI _ _ _
      | 5=>cases e1; cases e2; exact treeI _ _ _
      | 6=>cases e1; cases e2; exact own_cvI wf2 (wf2.fF (by omega))
      | 7=>cases e1; cases e2; exact own_cvN wn2 (wn2.fF (by omega))
      | k + 8=>simp at e1
    have snd:∀ (S1:Store) (k:Nat) (zn:AV) (b1:Bool),k ≤ 100 → Fm S l S1 k [aI inp,pL lats,pL g.ands,aL aI outs,aL aI bads,aL aI cons,zf,zn] → Own (S.n + 4) S1 zf 3 (fair.map fun p=>[aI p]) → Apart zn zf →
        Own (S.n + 4) S1 zn 130 (((if b1 then [⟨108,0,⟨#[113]⟩⟩] else []):List Na).map Na.row) → 0 < outs.length →
        (∃ q182:AV,(∀ T:Store,Keep S1 T → shift (.p (S.n + 3) 0 0) 7 T fun v S=>v = q182 ∧ S = T) ∧ ∃ q184:AV,(∀ T:Store,Keep S1 T → ld1 q182 T fun v S=>v = q184 ∧ S = T) ∧ ∃ q186:AV,(∀ T:Store,Keep S1 T → shift (.p (S.n + 3) 0 0) 3 T fun v S=>v = q186 ∧ S = T) ∧
          ∃ q188:AV,(∀ T:Store,Keep S1 T → ld1 q186 T fun v S=>v = q188 ∧ S = T) ∧ ∃ q190:AV,(∀ T:Store,Keep S1 T → lenS q188 T fun v S=>v = q190 ∧ S = T) ∧ ∃ q192:AV,(∀ T:Store,Keep S1 T → bin .sub 0 q190 (.v (.int .i64 1)) T fun v S=>v = q192 ∧ S = T) ∧
          ∃ q194:AV,(∀ T:Store,Keep S1 T → bslN 9 1 3 [(.v (.string ByteArray.empty))] [(0,(.v (.string { data:=#[111,117,116] }))),(1,(.v (.string { data:=#[108,49] }))),(2,(.v (.string { data:=#[97,45,98] })))] T fun v S=>v = q194 ∧ S = T) ∧
          callV Tryz.prog (pickF S) [(.v (.int .i64 3))] S1 (fun v196 S1=>(∀ T:Store,Keep S1 T → bslN 9 1 3 [(.v (.string ByteArray.empty))] [(0,(.v (.string { data:=#[111,117,116] }))),(1,(.v (.string { data:=#[108,49] }))),(2,(.v (.string { data:=#[97,45,98] })))] T fun v S=>v = q194 ∧ S = T) ∧
            (∀ T:Store,Keep S1 T → bin .sub 0 q190 (.v (.int .i64 1)) T fun v S=>v = q192 ∧ S = T) ∧ (∀ T:Store,Keep S1 T → lenS q188 T fun v S=>v = q190 ∧ S = T) ∧ (∀ T:Store,Keep S1 T → ld1 q186 T fun v S=>v = q188 ∧ S = T) ∧ (∀ T:Store,Keep S1 T → shift (.p (S.n + 3) 0 0) 3 T fun v S=>v = q186 ∧ S = T) ∧
            (∀ T:Store,Keep S1 T → ld1 q182 T fun v S=>v = q184 ∧ S = T) ∧ (∀ T:Store,Keep S1 T → shift (.p (S.n + 3) 0 0) 7 T fun v S=>v = q182 ∧ S = T) ∧
            ∃ q204:AV,(∀ T:Store,Keep S1 T → ixS 9 1 q194 v196 T fun v S=>v = q204 ∧ S = T) ∧ ∃ q206:AV,(∀ T:Store,Keep S1 T → ld1 q204 T fun v S=>v = q206 ∧ S = T) ∧
            ∃ q208:AV,(∀ T:Store,Keep S1 T → bld [(0,1),(1,1),(2,1)] [(.v (.int .u8 0)),(.v (.int .i64 0)),(.v (.string ByteArray.empty))] [(0,(.v (.int .u8 111))),(1,q192),(2,q206)] T fun v S=>v = q208 ∧ S = T) ∧
            ∃ q210:AV,(∀ T:Store,Keep S1 T → bslN 130 3 1 [(.v (.int .u8 0)),(.v (.int .i64 0)),(.v (.string ByteArray.empty))] [(0,q208)] T fun v S=>v = q210 ∧ S = T) ∧ appS 130 3 32 q184 q210 S1 fun v212 S1 =>
            ∃ q213:AV,(∀ T:Store,Keep S1 T → shift (.p (S.n + 3) 0 0) 7 T fun v S=>v = q213 ∧ S = T) ∧ stN 1 q213 v212 S1 fun _ S1 =>
            ldN 8 (.p (S.n + 3) 0 0) S1 fun v S1=>stN 8 (.p (S.n + 1) 0 0) v S1 fun _ S2=>ldN 8 (.p (S.n + 1) 0 0) S2 fun v _=>∃ r tr,AEnd.ret v = .ret r ∧ Keep S S2 ∧ Cv (S2.frz (newer S.n)) S.n r tr ∧ ∃ c:Ci,tr = c.av ∧ MadeC c ∧ c.gr.vars = varsL l) (fun _ _=>False)):=by
      intro S1 k zn b1 hk fm wf hap wn hol
      have hsub:∀ (T:Store) (K:AV → Store → Prop),bin .sub 0 (aI outs.length) (.v (.int .i64 1)) T K = K (aI (outs.length - 1)) T:=fun T K=>bin_sub (by omega) (by omega) 0
      refine ⟨_,fun T hT=>by rw [shift_p]; exact ⟨rfl,rfl⟩,zn,fun T hT=>by rw [ld1_p (fm.kT hT) rfl rfl]; exact ⟨rfl,rfl⟩,_,fun T hT=>by rw [shift_p]; exact ⟨rfl,rfl⟩,aL aI outs,fun T hT=>by rw [ld1_p (fm.kT hT) rfl rfl]; exact ⟨rfl,rfl⟩,aI outs.length,fun T hT=>by rw [lenS_aL]; exact ⟨rfl,rfl⟩,_,fun T hT=>by rw [hsub]; exact ⟨rfl,rfl⟩,
        _,fun T hT=>bsl3 rfl rfl rfl ⟨rfl,rfl⟩,?_⟩
      refine fm.pick hl (by decide) (by omega) fun S2 fm n2 f2=>?_
      have p3:=pickV_rng hl (k:=k) (n:=3) (by decide)
      generalize pickV l k 3 = x at *
      obtain ⟨x,rfl⟩:=Int.eq_ofNat_of_zero_le p3.1
      have wf2:=wf.fm (by omega) n2 f2
      have wn2:=wn.fm (by omega) n2 f2
      refine ⟨fun T hT=>bsl3 rfl rfl rfl ⟨rfl,rfl⟩,fun T hT=>by rw [hsub]; exact ⟨rfl,rfl⟩,fun T hT=>by rw [lenS_aL]; exact ⟨rfl,rfl⟩,fun T hT=>by rw [ld1_p (fm.kT hT) rfl rfl]; exact ⟨rfl,rfl⟩,fun T hT=>by rw [shift_p]; exact ⟨rfl,rfl⟩,fun T hT=>by rw [ld1_p (fm.kT hT) rfl rfl]; exact ⟨rfl,rfl⟩,fun T hT=>by rw [shift_p]; exact ⟨rfl,rfl⟩,?_⟩
      obtain ⟨t,ht,hx⟩:∃ t:ByteArray,(t = ⟨#[111,117,116]⟩ ∨ t = ⟨#[108,49]⟩ ∨ t = ⟨#[97,45,98]⟩) ∧ ∀ (T:Store) (K:AV → Store → Prop),ixS 9 1 (.l [[.v (.string { data:=#[111,117,116] })],[.v (.string { data:=#[108,49] })],[.v (.string { data:=#[97,45,98] })]]) (aI x) T K = K (.q [.v (.string t)] 0) T:=by
        match x,p3 with
        | 0,_=>exact ⟨_,.inl rfl,fun T K=>ixS_l (i:=0) (by simp) rfl⟩
        | 1,_=>exact ⟨_,.inr (.inl rfl),fun T K=>ixS_l (i:=1) (by simp) rfl⟩
        | 2,_=>exact ⟨_,.inr (.inr rfl),fun T K=>ixS_l (i:=2) (by simp) rfl⟩
        | x + 3,h=>omega
      refine ⟨_,fun T hT=>by rw [hx]; exact ⟨rfl,rfl⟩,_,fun T hT=>by rw [ld1_q]; exact ⟨rfl,rfl⟩,_,fun T hT=>by rw [bld_of (cs:=[.v (.int .u8 111),aI (outs.length - 1),.v (.string t)]) rfl]; exact ⟨rfl,rfl⟩,_,fun T hT=>bslA3 ⟨rfl,rfl⟩,?_⟩
      refine wn2.app (by have:=fm.n; omega) (c:=[.v (.int .u8 111),aI (outs.length - 1),.v (.string t)]) rfl (by cases b1 <;> simp) (fun z S4 w4 b4 hz=>?_) rfl
      have n4:=b4.1
      have hn3:=fm.n
      have o4:∀ x,x < S.n + 4 → S4.obj x = S2.obj x:=fun x hx=>b4.2 x (by omega) (fun b m e=>by have:=wn2.lt e; omega)
      refine ⟨_,fun T hT=>by rw [shift_p]; exact ⟨rfl,rfl⟩,?_⟩
      replace fm:=fm.old n4 o4
      have wf4:=wf2.but b4 hap
      refine fm.st (by simp) (own_one w4) fun S5 fm n5 f5=>?_
      refine fin S5 _ z b1 true t fm (wf4.fm (by omega) n5 f5) (fun _=>⟨hol,ht⟩) ?_
      have w5:=w4.fm (by omega) n5 f5
      rw [List.map_append]
      exact w5
    refine fm.pick hl (by decide) (by omega) fun S2 fm n2 f2=>?_
    have wf2:=wf.fm (by omega) n2 f2
    have p3:=pickV_rng hl (k:=k) (n:=3) (by decide)
    generalize pickV l k 3 = x3 at *
    rw [bin_gtr,onB_v]
    refine gd_of (fun hx=>?_) (fun hx=>?_)
    · rw [shift_p,ld1_p fm.co rfl rfl,bld_of (cs:=[.v (.int .u8 108),aI 0,.v (.string ⟨#[113]⟩)]) rfl]
      refine bslA3 ?_
      refine (Own.nl (S.n + 4) S2 130).app (by have:=fm.n; omega) (c:=[.v (.int .u8 108),aI 0,.v (.string ⟨#[113]⟩)]) rfl (by simp) (fun z S4 w4 b4 hz=>?_) rfl
      have n4:=b4.1
      have hn3:=fm.n
      have o4:∀ x,x < S2.n → S4.obj x = S2.obj x:=fun x hx=>b4.2 x (by omega) (fun b m e=>by cases e)
      rw [shift_p]
      replace fm:=fm.old n4 fun x hx=>o4 x (by omega)
      have wf4:=wf2.but b4 (fun _ _ _ _ _ e=>by cases e)
      obtain ⟨mz,hmz⟩:=hz
      have hap:Apart z zf:=fun i b m b' m' e e'=>by
        rw [hmz] at e; injection e with e
        have:=wf2.lt e'; omega
      refine fm.st (by simp) (own_one w4) fun S5 fm n5 f5=>?_
      have w5:Own (S.n + 4) S5 z 130 ([⟨108,0,⟨#[113]⟩⟩].map Na.row):=w4.fm (by omega) n5 f5
      have wf5:=wf4.fm (by omega) n5 f5
      rw [shift_p,ld1_p fm.co rfl rfl,lenS_aL,bin_gtr,onB_v]
      refine gd_of (fun ho=>?_) (fun ho=>fin S5 _ z true false ⟨#[]⟩ fm wf5 (fun h=>by cases h) w5)
      have ho:0 < outs.length:=by have:=of_decide_eq_true ho; omega
      refine fm.pick hl (by decide) (by omega) fun S6 fm n6 f6=>?_
      have w6:=w5.fm (by omega) n6 f6
      have wf6:=wf5.fm (by omega) n6 f6
      rw [bin_gtr,onB_v]
      refine gd_of (fun _=>?_) (fun _=>fin S6 _ z true false ⟨#[]⟩ fm wf6 (fun h=>by cases h) w6)
      exact snd S6 _ z true (by omega) fm wf6 hap w6 ho
    · rw [shift_p,ld1_p fm.co rfl rfl,lenS_aL,bin_gtr,onB_v]
      refine gd_of (fun ho=>?_) (fun ho=>fin S2 _ .nl false false ⟨#[]⟩ fm wf2 (fun h=>by cases h) (Own.nl _ _ _))
      have ho:0 < outs.length:=by have:=of_decide_eq_true ho; omega
      refine fm.pick hl (by decide) (by omega) fun S6 fm n6 f6=>?_
      have wf6:=wf2.fm (by omega) n6 f6
      rw [bin_gtr,onB_v]
      refine gd_of (fun _=>?_) (fun _=>fin S6 _ .nl false false ⟨#[]⟩ fm wf6 (fun h=>by cases h) (Own.nl _ _ _))
      exact snd S6 _ .nl false (by omega) fm wf6 (fun _ _ _ _ _ e=>by cases e) (Own.nl _ _ _) ho
  have last4:∀ (S':Store) (k:Nat) (zo zb zc:AV) (bads cons:List Int),k ≤ 24 → Fm S l S' k [aI inp,pL lats,pL g.ands,zo,zb,zc,.nl,.nl] → Own (S.n + 4) S' zo 3 (outs.map fun p=>[aI p]) → Own (S.n + 4) S' zb 3 (bads.map fun p=>[aI p]) → Own (S.n + 4) S' zc 3 (cons.map fun p=>[aI p]) →
      bads.length ≤ 1 → cons.length ≤ 1 → (∀ x ∈ bads,g.lit x = true) → (∀ x ∈ cons,g.lit x = true) → ∀ X,
      callV Tryz.prog (pickF S) [(.v (.int .i64 4))] S' (fun v S'=>bin .quo 0 v (.v (.int .i64 2)) S' fun v S'=>loopV lv48_3 (vc Tryz.prog (c48.at_ [1,1,1,1,1,1,1,1,1,1,1,1,1,1,1,0,1,0,0]) (ms48.drop 4)) 156 (env48_3 (.p (S.n + 1) 0 0) (pickF S) (.p (S.n + 3) 0 0) (aI (2 * g.vars)) v) S'
        (blockK 6 (seqK (vc Tryz.prog (c48.at_ [1,1,1,1,1,1,1,1,1,1,1,1,1,1,1,1]) (ms48.drop 4)) (bodyK Tryz.prog r48 fun e S'=>∃ r tr,e = .ret r ∧ Keep S S' ∧ Cv (S'.frz (newer S.n)) S.n r tr ∧ ∃ c:Ci,tr = c.av ∧ MadeC c ∧ c.gr.vars = varsL l)))) X:=by
    intro S' k zo zb zc bads cons hk fm wo wb wc lb lc hbl hcl X
    refine fm.pick hl (by decide) (by omega) fun S2 fm n2 f2=>?_
    have p4:=pickV_rng hl (k:=k) (n:=4) (by decide)
    generalize pickV l k 4 = x4 at *
    have hd:0 ≤ x4.tdiv 2 ∧ x4.tdiv 2 ≤ 1:=by rw [Int.tdiv_eq_ediv_of_nonneg p4.1]; omega
    rw [bin_quo (by decide) (by omega) (by omega)]
    obtain ⟨r0,hr0⟩:=Int.eq_ofNat_of_zero_le hd.1
    rw [hr0]
    exact tail S2 _ zo zb zc bads cons r0 (by omega) (by omega) fm (wo.fm (by omega) n2 f2) (wb.fm (by omega) n2 f2) (wc.fm (by omega) n2 f2) lb lc hbl hcl
  have cons3:∀ (S':Store) (k:Nat) (zo zb:AV) (bads:List Int),k ≤ 22 → Fm S l S' k [aI inp,pL lats,pL g.ands,zo,zb,.nl,.nl,.nl] → Own (S.n + 4) S' zo 3 (outs.map fun p=>[aI p]) → Own (S.n + 4) S' zb 3 (bads.map fun p=>[aI p]) →
      bads.length ≤ 1 → (∀ x ∈ bads,g.lit x = true) → ∀ X:AV → Store → Prop,
      callV Tryz.prog (pickF S) [(.v (.int .i64 3))] S' (fun v S'=>bin .eql 0 v (.v (.int .i64 0)) S' fun v S'=>onB v fun b=>gd b
        (∃ q111:AV,(∀ T:Store,Keep S' T → shift (.p (S.n + 3) 0 0) 5 T fun v S=>v = q111 ∧ S = T) ∧ ∃ q113:AV,(∀ T:Store,Keep S' T → ld1 q111 T fun v S=>v = q113 ∧ S = T) ∧ callV Tryz.prog (pickF S) [aI (2 * g.vars)] S' (fun v115 S' =>
          (∀ T:Store,Keep S' T → ld1 q111 T fun v S=>v = q113 ∧ S = T) ∧ (∀ T:Store,Keep S' T → shift (.p (S.n + 3) 0 0) 5 T fun v S=>v = q111 ∧ S = T) ∧ ∃ q118:AV,(∀ T:Store,Keep S' T → bslN 3 1 1 [(.v (.int .i64 0))] [(0,v115)] T fun v S=>v = q118 ∧ S = T) ∧ appS 3 1 8 q113 q118 S' fun v120 S' =>
          ∃ q121:AV,(∀ T:Store,Keep S' T → shift (.p (S.n + 3) 0 0) 5 T fun v S=>v = q121 ∧ S = T) ∧ stN 1 q121 v120 S' fun _ S'=>callV Tryz.prog (pickF S) [(.v (.int .i64 4))] S' (fun v S'=>bin .quo 0 v (.v (.int .i64 2)) S' fun v S'=>loopV lv48_3 (vc Tryz.prog (c48.at_ [1,1,1,1,1,1,1,1,1,1,1,1,1,1,1,0,1,0,0]) (ms48.drop 4)) 156 (env48_3 (.p (S.n + 1) 0 0) (pickF S) (.p (S.n + 3) 0 0) (aI (2 * g.vars)) v) S'
        (blockK 6 (seqK (vc Tryz.prog (c48.at_ [1,1,1,1,1,1,1,1,1,1,1,1,1,1,1,1]) (ms48.drop 4)) (bodyK Tryz.prog r48 fun e S'=>∃ r tr,e = .ret r ∧ Keep S S' ∧ Cv (S'.frz (newer S.n)) S.n r tr ∧ ∃ c:Ci,tr = c.av ∧ MadeC c ∧ c.gr.vars = varsL l)))) X) (fun _ _=>False))
        (callV Tryz.prog (pickF S) [(.v (.int .i64 4))] S' (fun v S'=>bin .quo 0 v (.v (.int .i64 2)) S' fun v S'=>loopV lv48_3 (vc Tryz.prog (c48.at_ [1,1,1,1,1,1,1,1,1,1,1,1,1,1,1,0,1,0,0]) (ms48.drop 4)) 156 (env48_3 (.p (S.n + 1) 0 0) (pickF S) (.p (S.n + 3) 0 0) (aI (2 * g.vars)) v) S'
        (blockK 6 (seqK (vc Tryz.prog (c48.at_ [1,1,1,1,1,1,1,1,1,1,1,1,1,1,1,1]) (ms48.drop 4)) (bodyK Tryz.prog r48 fun e S'=>∃ r tr,e = .ret r ∧ Keep S S' ∧ Cv (S'.frz (newer S.n)) S.n r tr ∧ ∃ c:Ci,tr = c.av ∧ MadeC c ∧ c.gr.vars = varsL l)))) X)) X:=by
    intro S' k zo zb bads hk fm wo wb lb hbl X
    refine fm.pick hl (by decide) (by omega) fun S2 fm n2 f2=>?_
    have wo2:=wo.fm (by omega) n2 f2
    have wb2:=wb.fm (by omega) n2 f2
    rw [bin_eql,onB_v]
    refine gd_of (fun _=>?_) (fun _=>last4 S2 _ zo zb .nl bads [] (by omega) fm wo2 wb2 (Own.nl _ _ _) lb (by simp) hbl (fun _ h=>by cases h) X)
    refine ⟨_,fun T hT=>by rw [shift_p]; exact ⟨rfl,rfl⟩,.nl,fun T hT=>by rw [ld1_p (fm.kT hT) rfl rfl]; exact ⟨rfl,rfl⟩,?_⟩
    refine fm.pick hl hvp (by omega) fun S3 fm n3 f3=>?_
    have pn:=plit (pickV_rng hl (k:=k + 1) hvp)
    generalize pickV l (k + 1) (2 * g.vars) = n at *
    have hn1:∀ x ∈ [n],g.lit x = true:=fun x hx=>by rw [List.mem_singleton.1 hx]; exact pn
    have wo3:=wo2.fm (by omega) n3 f3
    have wb3:=wb2.fm (by omega) n3 f3
    refine ⟨fun T hT=>by rw [ld1_p (fm.kT hT) rfl rfl]; exact ⟨rfl,rfl⟩,fun T hT=>by rw [shift_p]; exact ⟨rfl,rfl⟩,_,fun T hT=>bsl1 rfl (fun _ h=>by cases h) ⟨rfl,rfl⟩,?_⟩
    refine (Own.nl (S.n + 4) S3 3).app (by have:=fm.n; omega) (c:=[aI n]) rfl (by simp) (fun z S4 w4 b4 hz=>?_) rfl
    have n4:=b4.1
    have hn3:=fm.n
    have o4:∀ x,x < S3.n → S4.obj x = S3.obj x:=fun x hx=>b4.2 x (by omega) (fun b m e=>by cases e)
    refine ⟨_,fun T hT=>by rw [shift_p]; exact ⟨rfl,rfl⟩,?_⟩
    replace fm:=fm.old n4 fun x hx=>o4 x (by omega)
    have wo4:=wo3.but b4 (fun _ _ _ _ _ e=>by cases e)
    have wb4:=wb3.but b4 (fun _ _ _ _ _ e=>by cases e)
    refine fm.st (by simp) (own_one w4) fun S5 fm n5 f5=>?_
    exact last4 S5 _ zo zb z bads [n] (by omega) fm (wo4.fm (by omega) n5 f5) (wb4.fm (by omega) n5 f5) (w4.fm (by omega) n5 f5) lb (by simp) hbl hn1 X
  refine fm.pick hl (by decide) (by omega) fun S2 fm n2 f2=>?_
  have wo2:=wo.fm (by omega) n2 f2
  rw [bin_eql,onB_v]
  refine gd_of (fun _=>?_) (fun _=>cons3 S2 _ zo .nl [] (by omega) fm wo2 (Own.nl _ _ _) (by simp) (fun _ h=>by cases h) _)
  refine ⟨_,fun T hT=>by rw [shift_p]; exact ⟨rfl,rfl⟩,.nl,fun T hT=>by rw [ld1_p (fm.kT hT) rfl rfl]; exact ⟨rfl,rfl⟩,?_⟩
  refine fm.pick hl hvp (by omega) fun S3 fm n3 f3=>?_
  have pn:=plit (pickV_rng hl (k:=k + 1) hvp)
  generalize pickV l (k + 1) (2 * g.vars) = n at *
  have hn1:∀ x ∈ [n],g.lit x = true:=fun x hx=>by rw [List.mem_singleton.1 hx]; exact pn
  have wo3:=wo2.fm (by omega) n3 f3
  refine ⟨fun T hT=>by rw [ld1_p (fm.kT hT) rfl rfl]; exact ⟨rfl,rfl⟩,fun T hT=>by rw [shift_p]; exact ⟨rfl,rfl⟩,_,fun T hT=>bsl1 rfl (fun _ h=>by cases h) ⟨rfl,rfl⟩,?_⟩
  refine (Own.nl (S.n + 4) S3 3).app (by have:=fm.n; omega) (c:=[aI n]) rfl (by simp) (fun z S4 w4 b4 hz=>?_) rfl
  have n4:=b4.1
  have hn3:=fm.n
  have o4:∀ x,x < S3.n → S4.obj x = S3.obj x:=fun x hx=>b4.2 x (by omega) (fun b m e=>by cases e)
  refine ⟨_,fun T hT=>by rw [shift_p]; exact ⟨rfl,rfl⟩,?_⟩
  replace fm:=fm.old n4 fun x hx=>o4 x (by omega)
  have wo4:=wo3.but b4 (fun _ _ _ _ _ e=>by cases e)
  refine fm.st (by simp) (own_one w4) fun S5 fm n5 f5=>?_
  exact cons3 S5 _ zo z [n] (by omega) fm (wo4.fm (by omega) n5 f5) (w4.fm (by omega) n5 f5) (by simp) hn1 _
structure SpSmall (s:Sp):Prop where
  h1:s.valid.length ≤ 1024
  h2:s.initial.length ≤ 1024
  h3:s.next.length ≤ 1024
  h4:∀ r ∈ s.next,r.length ≤ 1024
  h5:s.fair.length ≤ 2000
  h6:∀ r ∈ s.fair,r.length ≤ 1024
def ca0:Ci:=⟨0,[(3,0)],[],[],[],[],[],[]⟩
theorem names0 {c:Ci} (h:c.names = []):namesB c = true:=by
  simp only [namesB,decide_eq_true_eq]
  exact ⟨fun i hi=>by simp [h] at hi,fun i hi=>by simp [h] at hi,by simp [h]⟩
theorem ca0_ok:ca0.ok:=by
  refine ⟨⟨by decide,by decide⟩,by decide,by decide,fun p hp=>?_,(fun p hp=>by cases hp),⟨(fun _ h=>by cases h),by decide⟩,⟨(fun _ h=>by cases h),by decide⟩,⟨(fun _ h=>by cases h),by decide⟩,⟨(fun _ h=>by cases h),by decide⟩,(fun _ h=>by cases h),by decide⟩
  have:p = (3,0):=by simpa [ca0] using hp
  subst this
  exact ⟨⟨by decide,by decide⟩,⟨by decide,by decide⟩⟩
theorem ca0_right:ca0.right = true:=by
  refine right_c.2 ⟨by decide,by decide,by decide,by decide,by decide,by decide,by decide,by decide,by decide,by decide,by decide,by decide,names0 rfl⟩
theorem callF_cv' {P:Program} {f:FuncId} {args args2:List AV} {r:AV} (h:Ans P f args2 r) {S:Store} (hl:args.length = args2.length) (hcv:∀ (k:Nat) (u u2:AV),args[k]? = some u → args2[k]? = some u2 → Cv S S.n u u2) {Q:AEnd → Store → Prop} {K:AV → Store → Prop} (k:K r S):callF P f args S Q K :=
  .inl (ACalls.conv hl hcv (ACalls.mono (h S) fun e S' h=>by obtain ⟨rfl,rfl⟩:=h; exact k))
theorem cv_ci {S:Store} {n:Nat} {i l l':AV} (hi:Cv S n i i) (h:Cv S n l l'):Cv S n (.a [i,l,.nl,.nl,.nl,.nl,.nl,.nl]) (.a [i,l',.l [],.l [],.l [],.l [],.l [],.l []]) :=
  .a _ _ rfl fun k u u2 hk hk2=>by
    match k with
    | 0=>cases hk; cases hk2; exact hi
    | 1=>cases hk; cases hk2; exact h
    | 2 | 3 | 4 | 5 | 6 | 7=>cases hk; cases hk2; exact .nl
    | k + 8=>simp at hk
theorem treeN (l:List Na):Tree (nL l):=Tree.l fun c hc u hu=>by
  obtain ⟨a,ha,rfl⟩:=List.mem_map.1 hc
  unfold Na.row at hu
  simp only [List.mem_cons,List.not_mem_nil,or_false] at hu
  rcases hu with rfl | rfl | rfl <;> exact Tree.v _
end Go.Proofs.YtolgpokppnajdaaGreat.G

/- Truth -/
import Derived.Test.YtolgpokppnajdaaGreatProg
import Derived.KernelRfl
import Derived.Test.YtolgpokppnajdaaGreatTxT4
set_option linter.unusedVariables false
set_option linter.unusedSimpArgs false
namespace Go.Proofs.YtolgpokppnajdaaGreat.G
open Go Go.Ab
set_option maxRecDepth 100000
noncomputable def c48:Code:=(Tryz.f48.body).getD .skip
noncomputable def r48:List ResultVar:=Tryz.f48.results.toList
def env48_0 (y2 y4 y5 y6 y7 y8:AV):List AV:=[y2,y4,y5,y6,y7,y8]
def lv48_0:List Nat:=[2,4,5,6,7,8]
def env48_1 (y2 y4 y5 y6 y10 y11 y12:AV):List AV:=[y2,y4,y5,y6,y10,y11,y12]
def lv48_1:List Nat:=[2,4,5,6,10,11,12]
def env48_2 (y2 y4 y5 y11 y14:AV):List AV:=[y2,y4,y5,y11,y14]
def lv48_2:List Nat:=[2,4,5,11,14]
def env48_3 (y2 y4 y5 y11 y15:AV):List AV:=[y2,y4,y5,y11,y15]
def lv48_3:List Nat:=[2,4,5,11,15]
def ms48:List (List Nat):=[lv48_0,lv48_1,lv48_2,lv48_3,[0]]
def m48 (x0:AV) (S:Store) (Q:PoT):Prop :=
  boxN 33 1 x0 S fun v1 S=>boxN 42 8 (.a [(.v (.int .i64 0)),.nl,.nl,.nl,.nl,.nl,.nl,.nl]) S fun v2 S=>boxN 3 1 (.v (.int .i64 0)) S fun v3 S=>stN 1 v3 (.v (.int .i64 0)) S fun v4 S=>boxN 42 8 (.a [(.v (.int .i64 0)),.nl,.nl,.nl,.nl,.nl,.nl,.nl]) S fun v5 S=>callV Tryz.prog (.f (.func 78) [] [v3,v1]) [(.v (.int .i64 4))] S (fun v6 S=>shift v5 0 S fun v7 S=>stN 1 v7 v6 S fun v8 S=>callV Tryz.prog (.f (.func 78) [] [v3,v1]) [(.v (.int .i64 3))] S (fun v9 S=>bin .add 0 (.v (.int .i64 1)) v9 S fun v10 S=>callV Tryz.prog (.f (.func 78) [] [v3,v1]) [(.v (.int .i64 9))] S (fun v11 S=>loopV lv48_0 (vc Tryz.prog (c48.at_ [1,1,1,1,1,1,1,0,1,0,0]) (ms48.drop 1)) 156 (env48_0 v2 (.f (.func 78) [] [v3,v1]) v5 v10 .nl v11) S (blockK 0 (seqK (vc Tryz.prog (c48.at_ [1,1,1,1,1,1,1,1]) (ms48.drop 1)) (bodyK Tryz.prog r48 Q)))) (fun u S=>Q (.pan u) S)) (fun u S=>Q (.pan u) S)) (fun u S=>Q (.pan u) S)
theorem calls48 {x0:AV} {S:Store} {Q:PoT} (h:m48 x0 S Q):ACalls Tryz.prog 48 [x0] S Q :=
  calls_of_vc (fn:=Tryz.f48) (c:=c48) (n:=156) Tryz.func48 (by kernel_rfl) (by kernel_rfl) (by kernel_rfl) ms48 (Eq.mpr (by kernel_rfl) h)
def b48_0 (y2 y4 y5 y6 y7 y8:AV) (S:Store) (KE0:KeT) (Q:PoT):Prop :=
  bin .gtr 0 y8 (.v (.int .i64 0)) S fun v12 S=>onB v12 fun b13=>gd b13 (callV Tryz.prog y4 [(.v (.int .i64 65536))] S (fun v14 S=>convI .u16 v14 S fun v15 S=>bslN 126 1 1 [(.v (.int .u16 0))] [(0,v15)] S fun v16 S=>appS 126 1 2 y7 v16 S fun v17 S=>bin .sub 0 y8 (.v (.int .i64 1)) S fun v18 S=>KE0 156 (env48_0 y2 y4 y5 y6 v17 v18) S) (fun u S=>Q (.pan u) S)) (shift y5 0 S fun v19 S=>ld1 v19 S fun v20 S=>bin .add 0 v20 y6 S fun v21 S=>callF Tryz.prog 79 [v21,y7] S Q fun v22 S=>extr v22 0 S fun v23 S=>extr v22 1 S fun v24 S=>boxN 82 2 (.a [(.v (.int .i64 0)),.nl]) S fun v25 S=>stN 2 v25 v23 S fun v26 S=>shift v25 1 S fun v27 S=>ld1 v27 S fun v28 S=>shift y5 2 S fun v29 S=>stN 1 v29 v28 S fun v30 S=>ldN 2 v25 S fun v31 S=>callF Tryz.prog 40 [v31] S Q fun v32 S=>bin .mul 0 (.v (.int .i64 2)) v32 S fun v33 S=>loopV lv48_1 (vc Tryz.prog (c48.at_ [1,1,1,1,1,1,1,1,1,1,1,0,1,0,0]) (ms48.drop 2)) 156 (env48_1 y2 y4 y5 y6 v24 v33 (.v (.int .i64 0))) S (blockK 2 (seqK (vc Tryz.prog (c48.at_ [1,1,1,1,1,1,1,1,1,1,1,1]) (ms48.drop 2)) (bodyK Tryz.prog r48 Q))))
theorem b48_0_eq (y2 y4 y5 y6 y7 y8:AV) (S:Store) (KE0:KeT) (Q:PoT):vc Tryz.prog (c48.at_ [1,1,1,1,1,1,1,0,1,0,0]) (ms48.drop 1) (mkE 156 lv48_0 (env48_0 y2 y4 y5 y6 y7 y8)) S (thenK (fgK lv48_0 KE0) (blockK 0 (seqK (vc Tryz.prog (c48.at_ [1,1,1,1,1,1,1,1]) (ms48.drop 1)) (bodyK Tryz.prog r48 Q)))) = b48_0 y2 y4 y5 y6 y7 y8 S KE0 Q:=by kernel_rfl
theorem loop48_0 {y2 y4 y5 y6:AV} {y70 y80:AV} {S:Store} {Q:PoT} (I:AV → AV → Store → Prop) (μ:AV → AV → Store → Nat) (h0:I y70 y80 S)
    (hr:∀ (y7 y8:AV) (S:Store),I y7 y8 S → ∀ KE0:KeT,(∀ (y7' y8':AV) (S':Store),I y7' y8' S' → μ y7' y8' S' < μ y7 y8 S → KE0 156 (env48_0 y2 y4 y5 y6 y7' y8') S') → b48_0 y2 y4 y5 y6 y7 y8 S KE0 Q) :
    loopV lv48_0 (vc Tryz.prog (c48.at_ [1,1,1,1,1,1,1,0,1,0,0]) (ms48.drop 1)) 156 (env48_0 y2 y4 y5 y6 y70 y80) S (blockK 0 (seqK (vc Tryz.prog (c48.at_ [1,1,1,1,1,1,1,1]) (ms48.drop 1)) (bodyK Tryz.prog r48 Q))):=by
  refine ⟨fun n e S=>n = 156 ∧ ∃ y7 y8:AV,e = (env48_0 y2 y4 y5 y6 y7 y8) ∧ I y7 y8 S,fun _ e S=>μ (e.getD 4 .j) (e.getD 5 .j) S,?_,?_⟩
  · exact ⟨_,_,Wk.refl _ _,rfl,_,_,rfl,h0⟩
  · rintro _ e S ⟨rfl,y7,y8,rfl,hI⟩
    exact (b48_0_eq _ _ _ _ _ _ _ _ _).mpr (hr y7 y8 S hI _ (fun y7' y8' S' hI' hm=>⟨_,_,Wk.refl _ _,⟨rfl,_,_,rfl,hI'⟩,hm⟩))
def b48_1 (y2 y4 y5 y6 y10 y11 y12:AV) (S:Store) (KE1:KeT) (Q:PoT):Prop :=
  bin .lss 0 y12 y6 S fun v34 S=>onB v34 fun b35=>gd b35 (callV Tryz.prog y4 [y11] S (fun v36 S=>bin .eql 0 y12 (.v (.int .i64 0)) S fun v37 S=>onB v37 fun b38=>gd b38 (∃ q39:AV,(∀ T:Store,Keep S T → shift y5 1 T fun v40 S=>v40 = q39 ∧ S = T) ∧ ∃ q41:AV,(∀ T:Store,Keep S T → ld1 q39 T fun v42 S=>v42 = q41 ∧ S = T) ∧ callV Tryz.prog y4 [(.v (.int .i64 5))] S (fun v43 S=>(∀ T:Store,Keep S T → ld1 q39 T fun v44 S=>v44 = q41 ∧ S = T) ∧ (∀ T:Store,Keep S T → shift y5 1 T fun v45 S=>v45 = q39 ∧ S = T) ∧ ∃ q46:AV,(∀ T:Store,Keep S T → bin .quo 0 v43 (.v (.int .i64 2)) T fun v47 S=>v47 = q46 ∧ S = T) ∧ ∃ q48:AV,(∀ T:Store,Keep S T → bld [(0,1),(1,1)] [(.v (.int .i64 0)),(.v (.int .i64 0))] [(0,y10),(1,q46)] T fun v49 S=>v49 = q48 ∧ S = T) ∧ ∃ q50:AV,(∀ T:Store,Keep S T → bslN 66 2 1 [(.v (.int .i64 0)),(.v (.int .i64 0))] [(0,q48)] T fun v51 S=>v51 = q50 ∧ S = T) ∧ appS 66 2 16 q41 q50 S fun v52 S=>∃ q53:AV,(∀ T:Store,Keep S T → shift y5 1 T fun v54 S=>v54 = q53 ∧ S = T) ∧ stN 1 q53 v52 S fun v55 S=>bin .add 0 y12 (.v (.int .i64 1)) S fun v56 S=>KE1 156 (env48_1 y2 y4 y5 y6 y10 y11 v56) S) (fun u S=>False)) (∃ q57:AV,(∀ T:Store,Keep S T → shift y5 1 T fun v58 S=>v58 = q57 ∧ S = T) ∧ ∃ q59:AV,(∀ T:Store,Keep S T → ld1 q57 T fun v60 S=>v60 = q59 ∧ S = T) ∧ callV Tryz.prog y4 [(.v (.int .i64 5))] S (fun v61 S=>(∀ T:Store,Keep S T → ld1 q57 T fun v62 S=>v62 = q59 ∧ S = T) ∧ (∀ T:Store,Keep S T → shift y5 1 T fun v63 S=>v63 = q57 ∧ S = T) ∧ ∃ q64:AV,(∀ T:Store,Keep S T → bin .quo 0 v61 (.v (.int .i64 2)) T fun v65 S=>v65 = q64 ∧ S = T) ∧ ∃ q66:AV,(∀ T:Store,Keep S T → bld [(0,1),(1,1)] [(.v (.int .i64 0)),(.v (.int .i64 0))] [(0,v36),(1,q64)] T fun v67 S=>v67 = q66 ∧ S = T) ∧ ∃ q68:AV,(∀ T:Store,Keep S T → bslN 66 2 1 [(.v (.int .i64 0)),(.v (.int .i64 0))] [(0,q66)] T fun v69 S=>v69 = q68 ∧ S = T) ∧ appS 66 2 16 q59 q68 S fun v70 S=>∃ q71:AV,(∀ T:Store,Keep S T → shift y5 1 T fun v72 S=>v72 = q71 ∧ S = T) ∧ stN 1 q71 v70 S fun v73 S=>bin .add 0 y12 (.v (.int .i64 1)) S fun v74 S=>KE1 156 (env48_1 y2 y4 y5 y6 y10 y11 v74) S) (fun u S=>False))) (fun u S=>Q (.pan u) S)) (callV Tryz.prog y4 [(.v (.int .i64 3))] S (fun v75 S=>loopV lv48_2 (vc Tryz.prog (c48.at_ [1,1,1,1,1,1,1,1,1,1,1,1,0,1,0,0]) (ms48.drop 3)) 156 (env48_2 y2 y4 y5 y11 v75) S (blockK 4 (seqK (vc Tryz.prog (c48.at_ [1,1,1,1,1,1,1,1,1,1,1,1,1]) (ms48.drop 3)) (bodyK Tryz.prog r48 Q)))) (fun u S=>Q (.pan u) S))
theorem b48_1_eq (y2 y4 y5 y6 y10 y11 y12:AV) (S:Store) (KE1:KeT) (Q:PoT):vc Tryz.prog (c48.at_ [1,1,1,1,1,1,1,1,1,1,1,0,1,0,0]) (ms48.drop 2) (mkE 156 lv48_1 (env48_1 y2 y4 y5 y6 y10 y11 y12)) S (thenK (fgK lv48_1 KE1) (blockK 2 (seqK (vc Tryz.prog (c48.at_ [1,1,1,1,1,1,1,1,1,1,1,1]) (ms48.drop 2)) (bodyK Tryz.prog r48 Q)))) = b48_1 y2 y4 y5 y6 y10 y11 y12 S KE1 Q:=by kernel_rfl
theorem loop48_1 {y2 y4 y5 y6 y10 y11:AV} {y120:AV} {S:Store} {Q:PoT} (I:AV → Store → Prop) (μ:AV → Store → Nat) (h0:I y120 S)
    (hr:∀ (y12:AV) (S:Store),I y12 S → ∀ KE1:KeT,(∀ (y12':AV) (S':Store),I y12' S' → μ y12' S' < μ y12 S → KE1 156 (env48_1 y2 y4 y5 y6 y10 y11 y12') S') → b48_1 y2 y4 y5 y6 y10 y11 y12 S KE1 Q) :
    loopV lv48_1 (vc Tryz.prog (c48.at_ [1,1,1,1,1,1,1,1,1,1,1,0,1,0,0]) (ms48.drop 2)) 156 (env48_1 y2 y4 y5 y6 y10 y11 y120) S (blockK 2 (seqK (vc Tryz.prog (c48.at_ [1,1,1,1,1,1,1,1,1,1,1,1]) (ms48.drop 2)) (bodyK Tryz.prog r48 Q))):=by
  refine ⟨fun n e S=>n = 156 ∧ ∃ y12:AV,e = (env48_1 y2 y4 y5 y6 y10 y11 y12) ∧ I y12 S,fun _ e S=>μ (e.getD 6 .j) S,?_,?_⟩
  · exact ⟨_,_,Wk.refl _ _,rfl,_,rfl,h0⟩
  · rintro _ e S ⟨rfl,y12,rfl,hI⟩
    exact (b48_1_eq _ _ _ _ _ _ _ _ _ _).mpr (hr y12 S hI _ (fun y12' S' hI' hm=>⟨_,_,Wk.refl _ _,⟨rfl,_,rfl,hI'⟩,hm⟩))
def b48_2 (y2 y4 y5 y11 y14:AV) (S:Store) (KE2:KeT) (Q:PoT):Prop :=
  bin .gtr 0 y14 (.v (.int .i64 0)) S fun v76 S=>onB v76 fun b77=>gd b77 (∃ q78:AV,(∀ T:Store,Keep S T → shift y5 3 T fun v79 S=>v79 = q78 ∧ S = T) ∧ ∃ q80:AV,(∀ T:Store,Keep S T → ld1 q78 T fun v81 S=>v81 = q80 ∧ S = T) ∧ callV Tryz.prog y4 [y11] S (fun v82 S=>(∀ T:Store,Keep S T → ld1 q78 T fun v83 S=>v83 = q80 ∧ S = T) ∧ (∀ T:Store,Keep S T → shift y5 3 T fun v84 S=>v84 = q78 ∧ S = T) ∧ ∃ q85:AV,(∀ T:Store,Keep S T → bslN 3 1 1 [(.v (.int .i64 0))] [(0,v82)] T fun v86 S=>v86 = q85 ∧ S = T) ∧ appS 3 1 8 q80 q85 S fun v87 S=>∃ q88:AV,(∀ T:Store,Keep S T → shift y5 3 T fun v89 S=>v89 = q88 ∧ S = T) ∧ stN 1 q88 v87 S fun v90 S=>bin .sub 0 y14 (.v (.int .i64 1)) S fun v91 S=>KE2 156 (env48_2 y2 y4 y5 y11 v91) S) (fun u S=>False)) (callV Tryz.prog y4 [(.v (.int .i64 4))] S (fun v92 S=>bin .eql 0 v92 (.v (.int .i64 0)) S fun v93 S=>onB v93 fun b94=>gd b94 (∃ q95:AV,(∀ T:Store,Keep S T → shift y5 4 T fun v96 S=>v96 = q95 ∧ S = T) ∧ ∃ q97:AV,(∀ T:Store,Keep S T → ld1 q95 T fun v98 S=>v98 = q97 ∧ S = T) ∧ callV Tryz.prog y4 [y11] S (fun v99 S=>(∀ T:Store,Keep S T → ld1 q95 T fun v100 S=>v100 = q97 ∧ S = T) ∧ (∀ T:Store,Keep S T → shift y5 4 T fun v101 S=>v101 = q95 ∧ S = T) ∧ ∃ q102:AV,(∀ T:Store,Keep S T → bslN 3 1 1 [(.v (.int .i64 0))] [(0,v99)] T fun v103 S=>v103 = q102 ∧ S = T) ∧ appS 3 1 8 q97 q102 S fun v104 S=>∃ q105:AV,(∀ T:Store,Keep S T → shift y5 4 T fun v106 S=>v106 = q105 ∧ S = T) ∧ stN 1 q105 v104 S fun v107 S=>callV Tryz.prog y4 [(.v (.int .i64 3))] S (fun v108 S=>bin .eql 0 v108 (.v (.int .i64 0)) S fun v109 S=>onB v109 fun b110=>gd b110 (∃ q111:AV,(∀ T:Store,Keep S T → shift y5 5 T fun v112 S=>v112 = q111 ∧ S = T) ∧ ∃ q113:AV,(∀ T:Store,Keep S T → ld1 q111 T fun v114 S=>v114 = q113 ∧ S = T) ∧ callV Tryz.prog y4 [y11] S (fun v115 S=>(∀ T:Store,Keep S T → ld1 q111 T fun v116 S=>v116 = q113 ∧ S = T) ∧ (∀ T:Store,Keep S T → shift y5 5 T fun v117 S=>v117 = q111 ∧ S = T) ∧ ∃ q118:AV,(∀ T:Store,Keep S T → bslN 3 1 1 [(.v (.int .i64 0))] [(0,v115)] T fun v119 S=>v119 = q118 ∧ S = T) ∧ appS 3 1 8 q113 q118 S fun v120 S=>∃ q121:AV,(∀ T:Store,Keep S T → shift y5 5 T fun v122 S=>v122 = q121 ∧ S = T) ∧ stN 1 q121 v120 S fun v123 S=>callV Tryz.prog y4 [(.v (.int .i64 4))] S (fun v124 S=>bin .quo 0 v124 (.v (.int .i64 2)) S fun v125 S=>loopV lv48_3 (vc Tryz.prog (c48.at_ [1,1,1,1,1,1,1,1,1,1,1,1,1,1,1,0,1,0,0]) (ms48.drop 4)) 156 (env48_3 y2 y4 y5 y11 v125) S (blockK 6 (seqK (vc Tryz.prog (c48.at_ [1,1,1,1,1,1,1,1,1,1,1,1,1,1,1,1]) (ms48.drop 4)) (bodyK Tryz.prog r48 Q)))) (fun u S=>Q (.pan u) S)) (fun u S=>False)) (callV Tryz.prog y4 [(.v (.int .i64 4))] S (fun v126 S=>bin .quo 0 v126 (.v (.int .i64 2)) S fun v127 S=>loopV lv48_3 (vc Tryz.prog (c48.at_ [1,1,1,1,1,1,1,1,1,1,1,1,1,1,1,0,1,0,0]) (ms48.drop 4)) 156 (env48_3 y2 y4 y5 y11 v127) S (blockK 6 (seqK (vc Tryz.prog (c48.at_ [1,1,1,1,1,1,1,1,1,1,1,1,1,1,1,1]) (ms48.drop 4)) (bodyK Tryz.prog r48 Q)))) (fun u S=>Q (.pan u) S))) (fun u S=>Q (.pan u) S)) (fun u S=>False)) (callV Tryz.prog y4 [(.v (.int .i64 3))] S (fun v128 S=>bin .eql 0 v128 (.v (.int .i64 0)) S fun v129 S=>onB v129 fun b130=>gd b130 (∃ q131:AV,(∀ T:Store,Keep S T → shift y5 5 T fun v132 S=>v132 = q131 ∧ S = T) ∧ ∃ q133:AV,(∀ T:Store,Keep S T → ld1 q131 T fun v134 S=>v134 = q133 ∧ S = T) ∧ callV Tryz.prog y4 [y11] S (fun v135 S=>(∀ T:Store,Keep S T → ld1 q131 T fun v136 S=>v136 = q133 ∧ S = T) ∧ (∀ T:Store,Keep S T → shift y5 5 T fun v137 S=>v137 = q131 ∧ S = T) ∧ ∃ q138:AV,(∀ T:Store,Keep S T → bslN 3 1 1 [(.v (.int .i64 0))] [(0,v135)] T fun v139 S=>v139 = q138 ∧ S = T) ∧ appS 3 1 8 q133 q138 S fun v140 S=>∃ q141:AV,(∀ T:Store,Keep S T → shift y5 5 T fun v142 S=>v142 = q141 ∧ S = T) ∧ stN 1 q141 v140 S fun v143 S=>callV Tryz.prog y4 [(.v (.int .i64 4))] S (fun v144 S=>bin .quo 0 v144 (.v (.int .i64 2)) S fun v145 S=>loopV lv48_3 (vc Tryz.prog (c48.at_ [1,1,1,1,1,1,1,1,1,1,1,1,1,1,1,0,1,0,0]) (ms48.drop 4)) 156 (env48_3 y2 y4 y5 y11 v145) S (blockK 6 (seqK (vc Tryz.prog (c48.at_ [1,1,1,1,1,1,1,1,1,1,1,1,1,1,1,1]) (ms48.drop 4)) (bodyK Tryz.prog r48 Q)))) (fun u S=>Q (.pan u) S)) (fun u S=>False)) (callV Tryz.prog y4 [(.v (.int .i64 4))] S (fun v146 S=>bin .quo 0 v146 (.v (.int .i64 2)) S fun v147 S=>loopV lv48_3 (vc Tryz.prog (c48.at_ [1,1,1,1,1,1,1,1,1,1,1,1,1,1,1,0,1,0,0]) (ms48.drop 4)) 156 (env48_3 y2 y4 y5 y11 v147) S (blockK 6 (seqK (vc Tryz.prog (c48.at_ [1,1,1,1,1,1,1,1,1,1,1,1,1,1,1,1]) (ms48.drop 4)) (bodyK Tryz.prog r48 Q)))) (fun u S=>Q (.pan u) S))) (fun u S=>Q (.pan u) S))) (fun u S=>Q (.pan u) S))
theorem b48_2_eq (y2 y4 y5 y11 y14:AV) (S:Store) (KE2:KeT) (Q:PoT):vc Tryz.prog (c48.at_ [1,1,1,1,1,1,1,1,1,1,1,1,0,1,0,0]) (ms48.drop 3) (mkE 156 lv48_2 (env48_2 y2 y4 y5 y11 y14)) S (thenK (fgK lv48_2 KE2) (blockK 4 (seqK (vc Tryz.prog (c48.at_ [1,1,1,1,1,1,1,1,1,1,1,1,1]) (ms48.drop 3)) (bodyK Tryz.prog r48 Q)))) = b48_2 y2 y4 y5 y11 y14 S KE2 Q:=by kernel_rfl
theorem loopw48_2 {y2 y4 y5 y11 y14:AV} {S:Store} {Q:PoT} (I:AV → AV → AV → AV → AV → Store → Prop) (μ:AV → AV → AV → AV → AV → Store → Nat) (h0:∃ (y2' y4' y5' y11' y14':AV) (S':Store),Wk S (env48_2 y2 y4 y5 y11 y14) S' (env48_2 y2' y4' y5' y11' y14') ∧ I y2' y4' y5' y11' y14' S')
    (hr:∀ (y2 y4 y5 y11 y14:AV) (S:Store),I y2 y4 y5 y11 y14 S → ∀ KE2:KeT,(∀ (y2' y4' y5' y11' y14':AV) (S':Store) (y2'' y4'' y5'' y11'' y14'':AV) (S'':Store),Wk S' (env48_2 y2' y4' y5' y11' y14') S'' (env48_2 y2'' y4'' y5'' y11'' y14'') → I y2'' y4'' y5'' y11'' y14'' S'' → μ y2'' y4'' y5'' y11'' y14'' S'' < μ y2 y4 y5 y11 y14 S → KE2 156 (env48_2 y2' y4' y5' y11' y14') S') → b48_2 y2 y4 y5 y11 y14 S KE2 Q) :
    loopV lv48_2 (vc Tryz.prog (c48.at_ [1,1,1,1,1,1,1,1,1,1,1,1,0,1,0,0]) (ms48.drop 3)) 156 (env48_2 y2 y4 y5 y11 y14) S (blockK 4 (seqK (vc Tryz.prog (c48.at_ [1,1,1,1,1,1,1,1,1,1,1,1,1]) (ms48.drop 3)) (bodyK Tryz.prog r48 Q))):=by
  obtain ⟨y2',y4',y5',y11',y14',S0,hw0,h0⟩:=h0
  refine ⟨fun n e S=>n = 156 ∧ ∃ y2 y4 y5 y11 y14:AV,e = (env48_2 y2 y4 y5 y11 y14) ∧ I y2 y4 y5 y11 y14 S,fun _ e S=>μ (e.getD 0 .j) (e.getD 1 .j) (e.getD 2 .j) (e.getD 3 .j) (e.getD 4 .j) S,?_,?_⟩
  · exact ⟨_,_,hw0,rfl,_,_,_,_,_,rfl,h0⟩
  · rintro _ e S ⟨rfl,y2,y4,y5,y11,y14,rfl,hI⟩
    exact (b48_2_eq _ _ _ _ _ _ _ _).mpr (hr y2 y4 y5 y11 y14 S hI _ (fun y2' y4' y5' y11' y14' S' y2'' y4'' y5'' y11'' y14'' S'' hw hI' hm=>⟨_,_,hw,⟨rfl,_,_,_,_,_,rfl,hI'⟩,hm⟩))
def b48_3 (y2 y4 y5 y11 y15:AV) (S:Store) (KE3:KeT) (Q:PoT):Prop :=
  bin .gtr 0 y15 (.v (.int .i64 0)) S fun v148 S=>onB v148 fun b149=>gd b149 (∃ q150:AV,(∀ T:Store,Keep S T → shift y5 6 T fun v151 S=>v151 = q150 ∧ S = T) ∧ ∃ q152:AV,(∀ T:Store,Keep S T → ld1 q150 T fun v153 S=>v153 = q152 ∧ S = T) ∧ callV Tryz.prog y4 [y11] S (fun v154 S=>(∀ T:Store,Keep S T → ld1 q150 T fun v155 S=>v155 = q152 ∧ S = T) ∧ (∀ T:Store,Keep S T → shift y5 6 T fun v156 S=>v156 = q150 ∧ S = T) ∧ ∃ q157:AV,(∀ T:Store,Keep S T → bslN 3 1 1 [(.v (.int .i64 0))] [(0,v154)] T fun v158 S=>v158 = q157 ∧ S = T) ∧ appS 3 1 8 q152 q157 S fun v159 S=>∃ q160:AV,(∀ T:Store,Keep S T → shift y5 6 T fun v161 S=>v161 = q160 ∧ S = T) ∧ stN 1 q160 v159 S fun v162 S=>bin .sub 0 y15 (.v (.int .i64 1)) S fun v163 S=>KE3 156 (env48_3 y2 y4 y5 y11 v163) S) (fun u S=>False)) (callV Tryz.prog y4 [(.v (.int .i64 3))] S (fun v164 S=>bin .gtr 0 v164 (.v (.int .i64 0)) S fun v165 S=>onB v165 fun b166=>gd b166 (shift y5 7 S fun v167 S=>ld1 v167 S fun v168 S=>bld [(0,1),(1,1),(2,1)] [(.v (.int .u8 0)),(.v (.int .i64 0)),(.v (.string ByteArray.empty))] [(0,(.v (.int .u8 108))),(2,(.v (.string { data:=#[113] })))] S fun v169 S=>bslN 130 3 1 [(.v (.int .u8 0)),(.v (.int .i64 0)),(.v (.string ByteArray.empty))] [(0,v169)] S fun v170 S=>appS 130 3 32 v168 v170 S fun v171 S=>shift y5 7 S fun v172 S=>stN 1 v172 v171 S fun v173 S=>shift y5 3 S fun v174 S=>ld1 v174 S fun v175 S=>lenS v175 S fun v176 S=>bin .gtr 0 v176 (.v (.int .i64 0)) S fun v177 S=>onB v177 fun b178=>gd b178 (callV Tryz.prog y4 [(.v (.int .i64 2))] S (fun v179 S=>bin .gtr 0 v179 (.v (.int .i64 0)) S fun v180 S=>onB v180 fun b181=>gd b181 (∃ q182:AV,(∀ T:Store,Keep S T → shift y5 7 T fun v183 S=>v183 = q182 ∧ S = T) ∧ ∃ q184:AV,(∀ T:Store,Keep S T → ld1 q182 T fun v185 S=>v185 = q184 ∧ S = T) ∧ ∃ q186:AV,(∀ T:Store,Keep S T → shift y5 3 T fun v187 S=>v187 = q186 ∧ S = T) ∧ ∃ q188:AV,(∀ T:Store,Keep S T → ld1 q186 T fun v189 S=>v189 = q188 ∧ S = T) ∧ ∃ q190:AV,(∀ T:Store,Keep S T → lenS q188 T fun v191 S=>v191 = q190 ∧ S = T) ∧ ∃ q192:AV,(∀ T:Store,Keep S T → bin .sub 0 q190 (.v (.int .i64 1)) T fun v193 S=>v193 = q192 ∧ S = T) ∧ ∃ q194:AV,(∀ T:Store,Keep S T → bslN 9 1 3 [(.v (.string ByteArray.empty))] [(0,(.v (.string { data:=#[111,117,116] }))),(1,(.v (.string { data:=#[108,49] }))),(2,(.v (.string { data:=#[97,45,98] })))] T fun v195 S=>v195 = q194 ∧ S = T) ∧ callV Tryz.prog y4 [(.v (.int .i64 3))] S (fun v196 S=>(∀ T:Store,Keep S T → bslN 9 1 3 [(.v (.string ByteArray.empty))] [(0,(.v (.string { data:=#[111,117,116] }))),(1,(.v (.string { data:=#[108,49] }))),(2,(.v (.string { data:=#[97,45,98] })))] T fun v197 S=>v197 = q194 ∧ S = T) ∧ (∀ T:Store,Keep S T → bin .sub 0 q190 (.v (.int .i64 1)) T fun v198 S=>v198 = q192 ∧ S = T) ∧ (∀ T:Store,Keep S T → lenS q188 T fun v199 S=>v199 = q190 ∧ S = T) ∧ (∀ T:Store,Keep S T → ld1 q186 T fun v200 S=>v200 = q188 ∧ S = T) ∧ (∀ T:Store,Keep S T → shift y5 3 T fun v201 S=>v201 = q186 ∧ S = T) ∧ (∀ T:Store,Keep S T → ld1 q182 T fun v202 S=>v202 = q184 ∧ S = T) ∧ (∀ T:Store,Keep S T → shift y5 7 T fun v203 S=>v203 = q182 ∧ S = T) ∧ ∃ q204:AV,(∀ T:Store,Keep S T → ixS 9 1 q194 v196 T fun v205 S=>v205 = q204 ∧ S = T) ∧ ∃ q206:AV,(∀ T:Store,Keep S T → ld1 q204 T fun v207 S=>v207 = q206 ∧ S = T) ∧ ∃ q208:AV,(∀ T:Store,Keep S T → bld [(0,1),(1,1),(2,1)] [(.v (.int .u8 0)),(.v (.int .i64 0)),(.v (.string ByteArray.empty))] [(0,(.v (.int .u8 111))),(1,q192),(2,q206)] T fun v209 S=>v209 = q208 ∧ S = T) ∧ ∃ q210:AV,(∀ T:Store,Keep S T → bslN 130 3 1 [(.v (.int .u8 0)),(.v (.int .i64 0)),(.v (.string ByteArray.empty))] [(0,q208)] T fun v211 S=>v211 = q210 ∧ S = T) ∧ appS 130 3 32 q184 q210 S fun v212 S=>∃ q213:AV,(∀ T:Store,Keep S T → shift y5 7 T fun v214 S=>v214 = q213 ∧ S = T) ∧ stN 1 q213 v212 S fun v215 S=>ldN 8 y5 S fun v216 S=>stN 8 y2 v216 S fun v217 S=>ldN 8 y2 S fun v218 _=>Q (.ret v218) S) (fun u S=>False)) (ldN 8 y5 S fun v219 S=>stN 8 y2 v219 S fun v220 S=>ldN 8 y2 S fun v221 _=>Q (.ret v221) S)) (fun u S=>Q (.pan u) S)) (ldN 8 y5 S fun v222 S=>stN 8 y2 v222 S fun v223 S=>ldN 8 y2 S fun v224 _=>Q (.ret v224) S)) (shift y5 3 S fun v225 S=>ld1 v225 S fun v226 S=>lenS v226 S fun v227 S=>bin .gtr 0 v227 (.v (.int .i64 0)) S fun v228 S=>onB v228 fun b229=>gd b229 (callV Tryz.prog y4 [(.v (.int .i64 2))] S (fun v230 S=>bin .gtr 0 v230 (.v (.int .i64 0)) S fun v231 S=>onB v231 fun b232=>gd b232 (∃ q233:AV,(∀ T:Store,Keep S T → shift y5 7 T fun v234 S=>v234 = q233 ∧ S = T) ∧ ∃ q235:AV,(∀ T:Store,Keep S T → ld1 q233 T fun v236 S=>v236 = q235 ∧ S = T) ∧ ∃ q237:AV,(∀ T:Store,Keep S T → shift y5 3 T fun v238 S=>v238 = q237 ∧ S = T) ∧ ∃ q239:AV,(∀ T:Store,Keep S T → ld1 q237 T fun v240 S=>v240 = q239 ∧ S = T) ∧ ∃ q241:AV,(∀ T:Store,Keep S T → lenS q239 T fun v242 S=>v242 = q241 ∧ S = T) ∧ ∃ q243:AV,(∀ T:Store,Keep S T → bin .sub 0 q241 (.v (.int .i64 1)) T fun v244 S=>v244 = q243 ∧ S = T) ∧ ∃ q245:AV,(∀ T:Store,Keep S T → bslN 9 1 3 [(.v (.string ByteArray.empty))] [(0,(.v (.string { data:=#[111,117,116] }))),(1,(.v (.string { data:=#[108,49] }))),(2,(.v (.string { data:=#[97,45,98] })))] T fun v246 S=>v246 = q245 ∧ S = T) ∧ callV Tryz.prog y4 [(.v (.int .i64 3))] S (fun v247 S=>(∀ T:Store,Keep S T → bslN 9 1 3 [(.v (.string ByteArray.empty))] [(0,(.v (.string { data:=#[111,117,116] }))),(1,(.v (.string { data:=#[108,49] }))),(2,(.v (.string { data:=#[97,45,98] })))] T fun v248 S=>v248 = q245 ∧ S = T) ∧ (∀ T:Store,Keep S T → bin .sub 0 q241 (.v (.int .i64 1)) T fun v249 S=>v249 = q243 ∧ S = T) ∧ (∀ T:Store,Keep S T → lenS q239 T fun v250 S=>v250 = q241 ∧ S = T) ∧ (∀ T:Store,Keep S T → ld1 q237 T fun v251 S=>v251 = q239 ∧ S = T) ∧ (∀ T:Store,Keep S T → shift y5 3 T fun v252 S=>v252 = q237 ∧ S = T) ∧ (∀ T:Store,Keep S T → ld1 q233 T fun v253 S=>v253 = q235 ∧ S = T) ∧ (∀ T:Store,Keep S T → shift y5 7 T fun v254 S=>v254 = q233 ∧ S = T) ∧ ∃ q255:AV,(∀ T:Store,Keep S T → ixS 9 1 q245 v247 T fun v256 S=>v256 = q255 ∧ S = T) ∧ ∃ q257:AV,(∀ T:Store,Keep S T → ld1 q255 T fun v258 S=>v258 = q257 ∧ S = T) ∧ ∃ q259:AV,(∀ T:Store,Keep S T → bld [(0,1),(1,1),(2,1)] [(.v (.int .u8 0)),(.v (.int .i64 0)),(.v (.string ByteArray.empty))] [(0,(.v (.int .u8 111))),(1,q243),(2,q257)] T fun v260 S=>v260 = q259 ∧ S = T) ∧ ∃ q261:AV,(∀ T:Store,Keep S T → bslN 130 3 1 [(.v (.int .u8 0)),(.v (.int .i64 0)),(.v (.string ByteArray.empty))] [(0,q259)] T fun v262 S=>v262 = q261 ∧ S = T) ∧ appS 130 3 32 q235 q261 S fun v263 S=>∃ q264:AV,(∀ T:Store,Keep S T → shift y5 7 T fun v265 S=>v265 = q264 ∧ S = T) ∧ stN 1 q264 v263 S fun v266 S=>ldN 8 y5 S fun v267 S=>stN 8 y2 v267 S fun v268 S=>ldN 8 y2 S fun v269 _=>Q (.ret v269) S) (fun u S=>False)) (ldN 8 y5 S fun v270 S=>stN 8 y2 v270 S fun v271 S=>ldN 8 y2 S fun v272 _=>Q (.ret v272) S)) (fun u S=>Q (.pan u) S)) (ldN 8 y5 S fun v273 S=>stN 8 y2 v273 S fun v274 S=>ldN 8 y2 S fun v275 _=>Q (.ret v275) S))) (fun u S=>Q (.pan u) S))
theorem b48_3_eq (y2 y4 y5 y11 y15:AV) (S:Store) (KE3:KeT) (Q:PoT):vc Tryz.prog (c48.at_ [1,1,1,1,1,1,1,1,1,1,1,1,1,1,1,0,1,0,0]) (ms48.drop 4) (mkE 156 lv48_3 (env48_3 y2 y4 y5 y11 y15)) S (thenK (fgK lv48_3 KE3) (blockK 6 (seqK (vc Tryz.prog (c48.at_ [1,1,1,1,1,1,1,1,1,1,1,1,1,1,1,1]) (ms48.drop 4)) (bodyK Tryz.prog r48 Q)))) = b48_3 y2 y4 y5 y11 y15 S KE3 Q:=by kernel_rfl
theorem loopw48_3 {y2 y4 y5 y11 y15:AV} {S:Store} {Q:PoT} (I:AV → AV → AV → AV → AV → Store → Prop) (μ:AV → AV → AV → AV → AV → Store → Nat) (h0:∃ (y2' y4' y5' y11' y15':AV) (S':Store),Wk S (env48_3 y2 y4 y5 y11 y15) S' (env48_3 y2' y4' y5' y11' y15') ∧ I y2' y4' y5' y11' y15' S')
    (hr:∀ (y2 y4 y5 y11 y15:AV) (S:Store),I y2 y4 y5 y11 y15 S → ∀ KE3:KeT,(∀ (y2' y4' y5' y11' y15':AV) (S':Store) (y2'' y4'' y5'' y11'' y15'':AV) (S'':Store),Wk S' (env48_3 y2' y4' y5' y11' y15') S'' (env48_3 y2'' y4'' y5'' y11'' y15'') → I y2'' y4'' y5'' y11'' y15'' S'' → μ y2'' y4'' y5'' y11'' y15'' S'' < μ y2 y4 y5 y11 y15 S → KE3 156 (env48_3 y2' y4' y5' y11' y15') S') → b48_3 y2 y4 y5 y11 y15 S KE3 Q) :
    loopV lv48_3 (vc Tryz.prog (c48.at_ [1,1,1,1,1,1,1,1,1,1,1,1,1,1,1,0,1,0,0]) (ms48.drop 4)) 156 (env48_3 y2 y4 y5 y11 y15) S (blockK 6 (seqK (vc Tryz.prog (c48.at_ [1,1,1,1,1,1,1,1,1,1,1,1,1,1,1,1]) (ms48.drop 4)) (bodyK Tryz.prog r48 Q))):=by
  obtain ⟨y2',y4',y5',y11',y15',S0,hw0,h0⟩:=h0
  refine ⟨fun n e S=>n = 156 ∧ ∃ y2 y4 y5 y11 y15:AV,e = (env48_3 y2 y4 y5 y11 y15) ∧ I y2 y4 y5 y11 y15 S,fun _ e S=>μ (e.getD 0 .j) (e.getD 1 .j) (e.getD 2 .j) (e.getD 3 .j) (e.getD 4 .j) S,?_,?_⟩
  · exact ⟨_,_,hw0,rfl,_,_,_,_,_,rfl,h0⟩
  · rintro _ e S ⟨rfl,y2,y4,y5,y11,y15,rfl,hI⟩
    exact (b48_3_eq _ _ _ _ _ _ _ _).mpr (hr y2 y4 y5 y11 y15 S hI _ (fun y2' y4' y5' y11' y15' S' y2'' y4'' y5'' y11'' y15'' S'' hw hI' hm=>⟨_,_,hw,⟨rfl,_,_,_,_,_,rfl,hI'⟩,hm⟩))
noncomputable def c78:Code:=(Tryz.f78.body).getD .skip
def ms78:List (List Nat):=[[]]
def m78 (x0 x1 x2:AV) (S:Store) (Q:PoT):Prop :=
  ld1 x1 S fun v1 S=>bin .add 0 v1 (.v (.int .i64 1)) S fun v2 S=>stN 1 x1 v2 S fun v3 S=>ld1 x1 S fun v4 S=>ld1 x2 S fun v5 S=>lenS v5 S fun v6 S=>bin .gtr 0 v4 v6 S fun v7 S=>onB v7 fun b8=>gd b8 (Q (.ret (.v (.int .i64 0))) S) (ld1 x2 S fun v9 S=>ld1 x1 S fun v10 S=>bin .sub 0 v10 (.v (.int .i64 1)) S fun v11 S=>ixS 126 1 v9 v11 S fun v12 S=>ld1 v12 S fun v13 S=>convI .i64 v13 S fun v14 S=>bin .rem 0 v14 x0 S fun v15 S=>Q (.ret v15) S)
theorem calls78 {x0 x1 x2:AV} {S:Store} {Q:PoT} (h:m78 x0 x1 x2 S Q):ACalls Tryz.prog 78 [x0,x1,x2] S Q :=
  calls_of_vc (fn:=Tryz.f78) (c:=c78) (n:=19) Tryz.func78 (by kernel_rfl) (by kernel_rfl) (by kernel_rfl) ms78 (Eq.mpr (by kernel_rfl) h)
end Go.Proofs.YtolgpokppnajdaaGreat.G
set_option linter.unusedVariables false
set_option linter.unusedSimpArgs false
namespace Go.Proofs.YtolgpokppnajdaaGreat.G
open Go Go.Ab
abbrev aW16 (i:Int):AV:=.v (.int .u16 i)
def pickV (l:List Int) (k:Nat) (n:Int):Int:=if l.length < k + 1 then 0 else (l.getD k 0).tmod n
theorem pick_of {S:Store} {aid lid ta tl k:Nat} {l:List Int} {n:Int} {Q:AEnd → Store → Prop} (h1:S.obj aid = some (.cells ta [[aI k]] true)) (h2:S.obj lid = some (.cells tl [[aL aW16 l]] true)) (hne:lid ≠ aid)
    (hl:∀ x ∈ l,0 ≤ x ∧ x < 65536) (hn:0 < n) (hk:k ≤ 1000000)
    (K:∀ S',S'.n = S.n → S'.obj aid = some (.cells ta [[aI (k + 1:Nat)]] true) → (∀ x,x ≠ aid → S'.obj x = S.obj x) → Q (.ret (aI (pickV l k n))) S'):ACalls Tryz.prog 78 [aI n,.p aid 0 0,.p lid 0 0] S Q:=by
  refine calls78 ?_
  unfold m78
  have hadd:∀ K:AV → Store → Prop,∀ S,bin .add 0 (.v (.int .i64 (k:Int))) (.v (.int .i64 1)) S K = K (aI (k + 1:Nat)) S:=fun K S=>bin_add (by omega) (by omega) 0
  rw [ld1_p h1 rfl rfl,hadd]
  refine st_of h1 rfl rfl fun S1 n1 o1 f1=>?_
  have p1:=(f1 lid hne).trans h2
  rw [ld1_p o1 rfl rfl,ld1_p p1 rfl rfl,lenS_aL,bin_gtr,onB_v]
  refine gd_of (fun h=>?_) (fun h=>?_)
  · have h:=of_decide_eq_true h
    have:=K S1 n1 o1 f1
    rw [pickV,if_pos (by omega)] at this
    exact this
  · have h:=of_decide_eq_false h
    have hlt:k < l.length:=by omega
    have hx:=hl _ (List.getElem_mem hlt)
    have hsub:∀ K:AV → Store → Prop,∀ S,bin .sub 0 (.v (.int .i64 ((k + 1:Nat):Int))) (.v (.int .i64 1)) S K = K (aI k) S:=fun K S=>(bin_sub (by omega) (by omega) 0).trans (by rw [show ((k + 1:Nat):Int) - 1 = k by omega])
    rw [ld1_p p1 rfl rfl,ld1_p o1 rfl rfl,hsub,ixS_aL hlt,ld1_q,convI_64 _ (by omega) (by omega),bin_rem (by omega)]
    have:=K S1 n1 o1 f1
    rw [pickV,if_neg (by omega),show l.getD k 0 = l[k] by simp [List.getD_eq_getElem?_getD,hlt]] at this
    exact this
def xr (x y:Int):Int:=IntKind.i64.wrap (BitVec.ofInt 64 x ^^^ BitVec.ofInt 64 y).toNat
theorem bin_xor {a b:Int} {S:Store} {K:AV → Store → Prop}:bin .xor 0 (aI a) (aI b) S K = K (aI (xr a b)) S:=by
  show optP (b2 .xor 0 (.int .i64 a) (.int .i64 b)) _ = _
  have:b2 .xor 0 (.int .i64 a) (.int .i64 b) = some (.int .i64 (xr a b)):=rfl
  rw [this,optP_some]
theorem small_and {g:Gr} (hg:g.ok) {a b:Int} (ha:i64R a) (hb:i64R b):(g.and a b).1.ok:=by
  have h0:(⟨0,[]⟩:Gr).ok:=⟨⟨by decide,by decide⟩,by simp,fun p hp=>by simp at hp⟩
  unfold Gr.and
  split
  · exact h0
  · rename_i h1
    have hr:g.right = true:=by
      cases e:g.right with
      | true=>rfl
      | false=>exact absurd (by rw [e]; rfl) h1
    unfold andT
    have hx:i64R (if b > a then b else a):=by split <;> assumption
    have hy:i64R (if b < a then b else a):=by split <;> assumption
    generalize (if b > a then b else a) = x at *
    generalize (if b < a then b else a) = y at *
    repeat' split
    all_goals first | exact hg | exact h0 | skip
    obtain ⟨_,_,r3,_⟩:=right_iff.1 hr
    refine ⟨hg.inp,by simp; omega,fun p hp=>?_⟩
    rcases List.mem_append.1 hp with hp | hp
    · exact hg.pairs p hp
    · have:p = (x,y):=by simpa using hp
      subst this
      exact ⟨hx,hy⟩
def madeS (g:Gr) (last:Int) (s:Int):Gr × Int :=
  let many:=2 * g.vars
  let r:=g.and (s.tmod many) ((s.tdiv many).tmod many)
  if r.2.2 = 0 then (r.1,xr r.2.1 ((s.tdiv 7).tmod 2)) else (g,last)
def madeTo (n:Int) (l:List Int):Nat → Gr × Int
  | 0=>(⟨n,[]⟩,1)
  | i + 1=>madeS (madeTo n l i).1 (madeTo n l i).2 (l.getD i 0)
theorem and_inp {g:Gr} {a b:Int} (h:(g.and a b).2.2 = 0):(g.and a b).1.inputs = g.inputs:=by
  revert h
  unfold Gr.and
  split
  · intro h; cases h
  · unfold andT
    generalize (if b > a then b else a) = x
    generalize (if b < a then b else a) = y
    repeat' split
    all_goals first | (intro _; rfl) | (intro h; cases h)
theorem madeTo_inp (n:Int) (l:List Int):∀ i,(madeTo n l i).1.inputs = n
  | 0=>rfl
  | i + 1=>by
    have ih:=madeTo_inp n l i
    simp only [madeTo,madeS]
    split
    · rename_i h
      rw [and_inp h,ih]
    · exact ih
theorem rem_small {a b:Int} (h0:0 ≤ a) (h1:a ≤ 65536) (hb:0 < b):0 ≤ a.tmod b ∧ a.tmod b ≤ 65536:=by
  rw [Int.tmod_eq_emod_of_nonneg h0]
  have h2:=Int.emod_nonneg a (show b ≠ 0 by omega)
  have h3:a % b ≤ a:=by
    have h4:=Int.mul_ediv_add_emod a b
    have h5:0 ≤ b * (a / b):=Int.mul_nonneg (by omega) (Int.ediv_nonneg h0 (by omega))
    omega
  omega
theorem madeTo_ok {n:Int} (hn:i64R n) {l:List Int} (hl:∀ x ∈ l,0 ≤ x ∧ x < 65536) (h0:0 ≤ n):∀ i,(madeTo n l i).1.ok
  | 0=>⟨hn,by simp [madeTo],fun p hp=>by simp [madeTo] at hp⟩
  | i + 1=>by
    have ih:=madeTo_ok hn hl h0 i
    have hv:0 < 2 * (madeTo n l i).1.vars:=by
      have:=madeTo_inp n l i
      unfold Gr.vars
      omega
    have hx:0 ≤ l.getD i 0 ∧ l.getD i 0 ≤ 65536:=by
      rw [List.getD_eq_getElem?_getD]
      rcases Nat.lt_or_ge i l.length with h | h
      · rw [List.getElem?_eq_getElem h]
        have:=hl _ (List.getElem_mem h)
        exact ⟨this.1,by show l[i] ≤ 65536; omega⟩
      · rw [List.getElem?_eq_none h]
        exact ⟨by decide,by decide⟩
    have hd:0 ≤ (l.getD i 0).tdiv (2 * (madeTo n l i).1.vars) ∧ (l.getD i 0).tdiv (2 * (madeTo n l i).1.vars) ≤ 65536:=by
      rw [Int.tdiv_eq_ediv_of_nonneg hx.1]
      have h1:=Int.ediv_nonneg hx.1 (show 0 ≤ 2 * (madeTo n l i).1.vars by omega)
      have h2:=Int.ediv_le_self (2 * (madeTo n l i).1.vars) hx.1
      omega
    have ha:=rem_small hx.1 hx.2 hv
    have hb:=rem_small hd.1 hd.2 hv
    simp only [madeTo,madeS]
    split
    · exact small_and ih ⟨by omega,by omega⟩ ⟨by omega,by omega⟩
    · exact ih
theorem lit_iff {g:Gr} {l:Int}:g.lit l = true ↔ 0 ≤ g.inputs ∧ g.inputs ≤ 2000 ∧ 0 ≤ l ∧ l / 2 < g.vars:=by
  simp only [Gr.lit,Bool.and_eq_true,decide_eq_true_eq]
  constructor
  · rintro ⟨h1,h2,h3,h4⟩
    rw [Int.tdiv_eq_ediv_of_nonneg h3] at h4
    exact ⟨h1,h2,h3,h4⟩
  · rintro ⟨h1,h2,h3,h4⟩
    rw [Int.tdiv_eq_ediv_of_nonneg h3]
    exact ⟨h1,h2,h3,h4⟩
theorem and_right {g:Gr} (h:g.right = true) {a b:Int} (e:(g.and a b).2.2 = 0) :
    (g.and a b).1.right = true ∧ (g.and a b).1.lit (g.and a b).2.1 = true ∧ (g.and a b).1.vars ≤ g.vars + 1 ∧ g.vars ≤ (g.and a b).1.vars ∧ (g.and a b).1.inputs = g.inputs:=by
  have hin:=and_inp e
  obtain ⟨r1,r2,r3,r4,r5,r6⟩:=right_iff.1 h
  have hv:g.vars = g.inputs + 1 + g.ands.length:=rfl
  revert e
  unfold Gr.and
  split
  · intro e; cases e
  · rename_i hl
    have hl:(g.right && (g.lit a && g.lit b)) = true:=by simpa using hl
    simp only [Bool.and_eq_true] at hl
    obtain ⟨_,la,lb⟩:=hl
    have lx:g.lit (if b > a then b else a) = true:=by split <;> assumption
    have ly:g.lit (if b < a then b else a) = true:=by split <;> assumption
    have hxy:(if b < a then b else a) ≤ (if b > a then b else a):=by split <;> split <;> omega
    generalize (if b > a then b else a) = x at *
    generalize (if b < a then b else a) = y at *
    obtain ⟨_,_,x0,x1⟩:=lit_iff.1 lx
    obtain ⟨_,_,y0,y1⟩:=lit_iff.1 ly
    unfold andT
    split
    · intro _; exact ⟨h,lit_iff.2 ⟨r1,r2,Int.le_refl _,by show (0:Int) / 2 < g.vars; omega⟩,by show g.vars ≤ _; omega,Int.le_refl _,rfl⟩
    rename_i hy0
    split
    · intro _; exact ⟨h,lit_iff.2 ⟨r1,r2,Int.le_refl _,by show (0:Int) / 2 < g.vars; omega⟩,by show g.vars ≤ _; omega,Int.le_refl _,rfl⟩
    rename_i hd
    split
    · intro _; exact ⟨h,lx,by show g.vars ≤ _; omega,Int.le_refl _,rfl⟩
    rename_i hy1
    split
    · intro _; exact ⟨h,lx,by show g.vars ≤ _; omega,Int.le_refl _,rfl⟩
    rename_i hne
    rw [Int.tdiv_eq_ediv_of_nonneg x0,Int.tdiv_eq_ediv_of_nonneg y0] at hd
    split
    · rename_i i hi
      obtain ⟨hi,_,_⟩:=List.findIdx?_eq_some_iff_getElem.1 hi
      intro _
      exact ⟨h,lit_iff.2 ⟨r1,r2,by show 0 ≤ 2 * (g.inputs + 1 + (i:Int)); omega,by show 2 * (g.inputs + 1 + (i:Int)) / 2 < g.vars; omega⟩,by show g.vars ≤ _; omega,Int.le_refl _,rfl⟩
    · rename_i hi
      split
      · intro e; cases e
      · rename_i hbig
        intro _
        have hv':(⟨g.inputs,g.ands ++ [(x,y)]⟩:Gr).vars = g.vars + 1:=by simp [Gr.vars]; omega
        refine ⟨right_iff.2 ⟨r1,r2,by simp; omega,by rw [hv']; omega,fun j hj=>?_,?_⟩,lit_iff.2 ⟨r1,r2,by show 0 ≤ 2 * (g.vars + 1) - 2; omega,by rw [hv']; show (2 * (g.vars + 1) - 2) / 2 < _; omega⟩,by rw [hv']; omega,by rw [hv']; omega,rfl⟩
        · rcases Nat.lt_or_ge j g.ands.length with hj' | hj'
          · have:=r5 j hj'
            simpa [List.getD_eq_getElem?_getD,List.getElem?_append_left hj'] using this
          · have hj2:j = g.ands.length:=by simp at hj; omega
            subst hj2
            have:(g.ands ++ [(x,y)]).getD g.ands.length (0,0) = (x,y):=by simp [List.getD_eq_getElem?_getD]
            show may ((g.ands ++ [(x,y)]).getD g.ands.length (0,0)) _ = true
            rw [this]
            simp only [may,Bool.and_eq_true,decide_eq_true_eq]
            rw [Int.tdiv_eq_ediv_of_nonneg x0,Int.tdiv_eq_ediv_of_nonneg y0]
            refine ⟨by omega,?_,?_⟩
            · have:x / 2 ≠ y / 2:=fun q=>hd ⟨q,hne⟩
              omega
            · show x / 2 < g.inputs + 1 + (g.ands.length:Int); omega
        · show (g.ands ++ [(x,y)]).Nodup
          rw [List.nodup_append]
          refine ⟨r6,by simp,fun p hp q hq=>?_⟩
          have:q = (x,y):=by simpa using hq
          subst this
          rintro rfl
          have:=List.findIdx?_eq_none_iff.1 hi _ hp
          simp at this
theorem xr_nat (a b:Nat) (ha:a < 2 ^ 62) (hb:b < 2 ^ 62):xr (a:Int) (b:Int) = ((a ^^^ b:Nat):Int):=by
  have h1:a ^^^ b < 2 ^ 62:=Nat.xor_lt_two_pow ha hb
  have hp:(2:Nat) ^ 62 = 4611686018427387904:=by decide
  unfold xr
  have e:(BitVec.ofInt 64 (a:Int) ^^^ BitVec.ofInt 64 (b:Int)).toNat = a ^^^ b:=by
    rw [BitVec.toNat_xor,BitVec.ofInt_natCast,BitVec.ofInt_natCast,BitVec.toNat_ofNat,BitVec.toNat_ofNat,Nat.mod_eq_of_lt (by omega),Nat.mod_eq_of_lt (by omega)]
  rw [e,wrap64 (by omega) (by omega)]
theorem xr_half {a b:Int} (h0:0 ≤ a) (h1:a ≤ 1000000) (hb:b = 0 ∨ b = 1):0 ≤ xr a b ∧ xr a b / 2 = a / 2 ∧ xr a b ≤ 1000001:=by
  obtain ⟨n,rfl⟩:=Int.eq_ofNat_of_zero_le h0
  obtain ⟨m,rfl,hm⟩:∃ m:Nat,b = (m:Int) ∧ m < 2:=by rcases hb with rfl | rfl; exact ⟨0,rfl,by decide⟩; exact ⟨1,rfl,by decide⟩
  have hp:(2:Nat) ^ 62 = 4611686018427387904:=by decide
  rw [xr_nat n m (by omega) (by omega)]
  have:(n ^^^ m) / 2 = n / 2:=by
    rw [Nat.xor_div_two,show m / 2 = 0 by omega,Nat.xor_zero]
  omega
theorem madeTo_right {n:Int} (h0:0 ≤ n) (hn:n ≤ 100) {l:List Int} (hl:∀ x ∈ l,0 ≤ x ∧ x < 65536):∀ i,i ≤ 40 → (madeTo n l i).1.right = true ∧ (madeTo n l i).1.lit (madeTo n l i).2 = true ∧ n + 1 ≤ (madeTo n l i).1.vars ∧ (madeTo n l i).1.vars ≤ n + 1 + i
  | 0,_=>by
    refine ⟨right_iff.2 ⟨h0,by show n ≤ 2000; omega,by show ((0:Nat):Int) ≤ 2000; decide,by show n + 1 + 0 ≤ 2000; omega,fun j hj=>by simp [madeTo] at hj,by simp [madeTo]⟩,lit_iff.2 ⟨h0,by show n ≤ 2000; omega,by show (0:Int) ≤ 1; decide,by show (1:Int) / 2 < n + 1 + 0; omega⟩,by show _ ≤ n + 1 + 0; omega,by show n + 1 + 0 ≤ _; omega⟩
  | i + 1,hi=>by
    obtain ⟨h1,h2,h3,h4⟩:=madeTo_right h0 hn hl i (by omega)
    have hx:0 ≤ l.getD i 0:=by
      rw [List.getD_eq_getElem?_getD]
      rcases Nat.lt_or_ge i l.length with h | h
      · rw [List.getElem?_eq_getElem h]
        exact (hl _ (List.getElem_mem h)).1
      · rw [List.getElem?_eq_none h]
        exact Int.le_refl 0
    simp only [madeTo,madeS]
    split
    · rename_i he
      obtain ⟨k1,k2,k3,k4,k5⟩:=and_right h1 he
      generalize (madeTo n l i).1.and ((l.getD i 0).tmod (2 * (madeTo n l i).1.vars)) (((l.getD i 0).tdiv (2 * (madeTo n l i).1.vars)).tmod (2 * (madeTo n l i).1.vars)) = r at *
      obtain ⟨l1,l2,l3,l4⟩:=lit_iff.1 k2
      have hb:((l.getD i 0).tdiv 7).tmod 2 = 0 ∨ ((l.getD i 0).tdiv 7).tmod 2 = 1:=by
        rw [Int.tdiv_eq_ediv_of_nonneg hx,Int.tmod_eq_emod_of_nonneg (by omega)]
        omega
      obtain ⟨q1,q2,_⟩:=xr_half (a:=r.2.1) l3 (by omega) hb
      exact ⟨k1,lit_iff.2 ⟨l1,l2,q1,by rw [q2]; exact l4⟩,by show _ ≤ r.1.vars; omega,by show r.1.vars ≤ _; omega⟩
    · exact ⟨h1,h2,h3,by show (madeTo n l i).1.vars ≤ _; omega⟩
structure MadeC (c:Ci):Prop where
  ok:c.ok
  right:c.right = true
  inp:0 ≤ c.inputs ∧ c.inputs ≤ 3
  lats:1 ≤ c.latches.length ∧ c.latches.length ≤ 3
  ands:c.ands.length ≤ 8
  outs:c.outs.length ≤ 2
  bads:c.bads.length ≤ 1
  cons:c.cons.length ≤ 1
  fair:c.fair.length ≤ 1
  names:∃ (b1 b2:Bool) (t:ByteArray),c.names = (if b1 then [⟨108,0,⟨#[113]⟩⟩] else []) ++ (if b2 then [⟨111,c.outs.length - 1,t⟩] else []) ∧ (b2 = true → 0 < c.outs.length ∧ (t = ⟨#[111,117,116]⟩ ∨ t = ⟨#[108,49]⟩ ∨ t = ⟨#[97,45,98]⟩))
end Go.Proofs.YtolgpokppnajdaaGreat.G
set_option linter.unusedVariables false
set_option linter.unusedSimpArgs false
namespace Go.Proofs.YtolgpokppnajdaaGreat.G
open Go Go.Ab
set_option maxRecDepth 100000
noncomputable def c79:Code:=(Tryz.f79.body).getD .skip
noncomputable def r79:List ResultVar:=Tryz.f79.results.toList
def env79_0 (y1 y4 y6 y7 y8:AV):List AV:=[y1,y4,y6,y7,y8]
def lv79_0:List Nat:=[1,4,6,7,8]
def ms79:List (List Nat):=[lv79_0,[]]
def m79 (x0 x1:AV) (S:Store) (Q:PoT):Prop :=
  boxN 82 2 (.a [(.v (.int .i64 0)),.nl]) S fun v1 S=>bld [(0,1),(1,1)] [(.v (.int .i64 0)),.nl] [(0,x0)] S fun v2 S=>boxN 82 2 (.a [(.v (.int .i64 0)),.nl]) S fun v3 S=>stN 2 v3 v2 S fun v4 S=>loopV lv79_0 (vc Tryz.prog (c79.at_ [1,1,1,0,1,0,0]) (ms79.drop 1)) 68 (env79_0 x1 v1 v3 (.v (.int .i64 1)) (.v (.int .i64 0))) S (blockK 0 (seqK (vc Tryz.prog (c79.at_ [1,1,1,1]) (ms79.drop 1)) (bodyK Tryz.prog r79 Q)))
theorem calls79 {x0 x1:AV} {S:Store} {Q:PoT} (h:m79 x0 x1 S Q):ACalls Tryz.prog 79 [x0,x1] S Q :=
  calls_of_vc (fn:=Tryz.f79) (c:=c79) (n:=68) Tryz.func79 (by kernel_rfl) (by kernel_rfl) (by kernel_rfl) ms79 (Eq.mpr (by kernel_rfl) h)
def b79_0 (y1 y4 y6 y7 y8:AV) (S:Store) (KE0:KeT) (Q:PoT):Prop :=
  lenS y1 S fun v5 S=>bin .lss 0 y8 v5 S fun v6 S=>onB v6 fun b7=>gd b7 (bin .lss 0 y8 (.v (.int .i64 40)) S fun v8 S=>onB v8 fun b9=>gd b9 (ldN 2 y6 S fun v10 S=>callF Tryz.prog 40 [v10] S Q fun v11 S=>bin .mul 0 (.v (.int .i64 2)) v11 S fun v12 S=>(fun S0:Store=>∃ q13:AV,(ixS 126 1 y1 y8 S fun v14 S=>v14 = q13 ∧ S = S0) ∧ ∃ q15:AV,(ld1 q13 S fun v16 S=>v16 = q15 ∧ S = S0) ∧ ∃ q17:AV,(convI .i64 q15 S fun v18 S=>v18 = q17 ∧ S = S0) ∧ ∃ q19:AV,(bin .rem 0 q17 v12 S fun v20 S=>v20 = q19 ∧ S = S0) ∧ ∃ q21:AV,(ixS 126 1 y1 y8 S fun v22 S=>v22 = q21 ∧ S = S0) ∧ ∃ q23:AV,(ld1 q21 S fun v24 S=>v24 = q23 ∧ S = S0) ∧ ∃ q25:AV,(convI .i64 q23 S fun v26 S=>v26 = q25 ∧ S = S0) ∧ ∃ q27:AV,(bin .quo 0 q25 v12 S fun v28 S=>v28 = q27 ∧ S = S0) ∧ ∃ q29:AV,(bin .rem 0 q27 v12 S fun v30 S=>v30 = q29 ∧ S = S0) ∧ ldN 2 y6 S fun v31 S=>callF Tryz.prog 120 [v31,q19,q29] S Q fun v32 S=>extr v32 0 S fun v33 S=>extr v32 1 S fun v34 S=>extr v32 2 S fun v35 S=>boxN 82 2 (.a [(.v (.int .i64 0)),.nl]) S fun v36 S=>stN 2 v36 v33 S fun v37 S=>bin .eql 0 v35 (.v (.int .i64 0)) S fun v38 S=>onB v38 fun b39=>gd b39 (∃ q40:AV,(∀ T:Store,Keep S T → ldN 2 v36 T fun v41 S=>v41 = q40 ∧ S = T) ∧ ∃ q42:AV,(∀ T:Store,Keep S T → ixS 126 1 y1 y8 T fun v43 S=>v43 = q42 ∧ S = T) ∧ ∃ q44:AV,(∀ T:Store,Keep S T → ld1 q42 T fun v45 S=>v45 = q44 ∧ S = T) ∧ ∃ q46:AV,(∀ T:Store,Keep S T → convI .i64 q44 T fun v47 S=>v47 = q46 ∧ S = T) ∧ ∃ q48:AV,(∀ T:Store,Keep S T → bin .quo 0 q46 (.v (.int .i64 7)) T fun v49 S=>v49 = q48 ∧ S = T) ∧ ∃ q50:AV,(∀ T:Store,Keep S T → bin .rem 0 q48 (.v (.int .i64 2)) T fun v51 S=>v51 = q50 ∧ S = T) ∧ ∃ q52:AV,(∀ T:Store,Keep S T → bin .xor 0 v34 q50 T fun v53 S=>v53 = q52 ∧ S = T) ∧ stN 2 y6 q40 S fun v54 S=>(∀ T:Store,Keep S T → bin .xor 0 v34 q50 T fun v55 S=>v55 = q52 ∧ S = T) ∧ (∀ T:Store,Keep S T → bin .rem 0 q48 (.v (.int .i64 2)) T fun v56 S=>v56 = q50 ∧ S = T) ∧ (∀ T:Store,Keep S T → bin .quo 0 q46 (.v (.int .i64 7)) T fun v57 S=>v57 = q48 ∧ S = T) ∧ (∀ T:Store,Keep S T → convI .i64 q44 T fun v58 S=>v58 = q46 ∧ S = T) ∧ (∀ T:Store,Keep S T → ld1 q42 T fun v59 S=>v59 = q44 ∧ S = T) ∧ (∀ T:Store,Keep S T → ixS 126 1 y1 y8 T fun v60 S=>v60 = q42 ∧ S = T) ∧ bin .add 0 y8 (.v (.int .i64 1)) S fun v61 S=>KE0 68 (env79_0 y1 y4 y6 q52 v61) S) (bin .add 0 y8 (.v (.int .i64 1)) S fun v62 S=>KE0 68 (env79_0 y1 y4 y6 y7 v62) S)) S) (ldN 2 y6 S fun v63 S=>stN 2 y4 v63 S fun v64 S=>ldN 2 y4 S fun v65 _=>Q (.ret (.t [v65,y7])) S)) (ldN 2 y6 S fun v66 S=>stN 2 y4 v66 S fun v67 S=>ldN 2 y4 S fun v68 _=>Q (.ret (.t [v68,y7])) S)
theorem b79_0_eq (y1 y4 y6 y7 y8:AV) (S:Store) (KE0:KeT) (Q:PoT):vc Tryz.prog (c79.at_ [1,1,1,0,1,0,0]) (ms79.drop 1) (mkE 68 lv79_0 (env79_0 y1 y4 y6 y7 y8)) S (thenK (fgK lv79_0 KE0) (blockK 0 (seqK (vc Tryz.prog (c79.at_ [1,1,1,1]) (ms79.drop 1)) (bodyK Tryz.prog r79 Q)))) = b79_0 y1 y4 y6 y7 y8 S KE0 Q:=by kernel_rfl
theorem loop79_0 {y1 y4 y6:AV} {y70 y80:AV} {S:Store} {Q:PoT} (I:AV → AV → Store → Prop) (μ:AV → AV → Store → Nat) (h0:I y70 y80 S)
    (hr:∀ (y7 y8:AV) (S:Store),I y7 y8 S → ∀ KE0:KeT,(∀ (y7' y8':AV) (S':Store),I y7' y8' S' → μ y7' y8' S' < μ y7 y8 S → KE0 68 (env79_0 y1 y4 y6 y7' y8') S') → b79_0 y1 y4 y6 y7 y8 S KE0 Q) :
    loopV lv79_0 (vc Tryz.prog (c79.at_ [1,1,1,0,1,0,0]) (ms79.drop 1)) 68 (env79_0 y1 y4 y6 y70 y80) S (blockK 0 (seqK (vc Tryz.prog (c79.at_ [1,1,1,1]) (ms79.drop 1)) (bodyK Tryz.prog r79 Q))):=by
  refine ⟨fun n e S=>n = 68 ∧ ∃ y7 y8:AV,e = (env79_0 y1 y4 y6 y7 y8) ∧ I y7 y8 S,fun _ e S=>μ (e.getD 3 .j) (e.getD 4 .j) S,?_,?_⟩
  · exact ⟨_,_,Wk.refl _ _,rfl,_,_,rfl,h0⟩
  · rintro _ e S ⟨rfl,y7,y8,rfl,hI⟩
    exact (b79_0_eq _ _ _ _ _ _ _ _).mpr (hr y7 y8 S hI _ (fun y7' y8' S' hI' hm=>⟨_,_,Wk.refl _ _,⟨rfl,_,_,rfl,hI'⟩,hm⟩))
end Go.Proofs.YtolgpokppnajdaaGreat.G
set_option linter.unusedVariables false
set_option linter.unusedSimpArgs false
namespace Go.Proofs.YtolgpokppnajdaaGreat.G
open Go Go.Ab
theorem frz_none (S:Store):S.frz (fun _=>false) = S:=by
  cases S with
  | mk n obj =>
    unfold Store.frz
    congr 1
    funext i
    cases h:obj i with
    | none=>simp [h]
    | some o=>simp [h,frz_id]
theorem ansAt_cv {P:Program} {f:FuncId} {args args2:List AV} {S:Store} {r:AV} (hl:args.length = args2.length) (hcv:∀ (k:Nat) (u u2:AV),args[k]? = some u → args2[k]? = some u2 → Cv S S.n u u2) (h:AnsAt P f args2 S r):AnsAt P f args S r:=by
  refine ACalls.frz (fun _=>false) hl ?_ ?_
  · rw [frz_none]; exact hcv
  · rw [frz_none]; exact h
theorem at79 {n:Int} (h0:0 ≤ n) (hn:n ≤ 1000) {l:List Int} (hl:∀ x ∈ l,0 ≤ x ∧ x < 65536) (hlen:l.length ≤ 1000000) {S:Store} {x1:AV} (hx1:∀ (T:Store) (K:AV → Store → Prop),lenS x1 T K = K (aI l.length) T)
    {P:Nat → AV} (hP:∀ T,Keep S T → ∀ i (h:i < l.length),(∀ K:AV → Store → Prop,ixS 126 1 x1 (aI i) T K = K (P i) T) ∧ ∀ K:AV → Store → Prop,ld1 (P i) T K = K (aW16 l[i]) T) :
    AnsAt Tryz.prog 79 [aI n,x1] S (.t [(madeTo n l (min l.length 40)).1.av,aI (madeTo n l (min l.length 40)).2]):=by
  refine ACalls.tree (calls79 ?_)
  unfold m79
  have hok:=madeTo_ok (n:=n) ⟨by omega,by omega⟩ hl h0
  have hin:=madeTo_inp n l
  refine boxA_of rfl fun S1 k1 n1 o1=>?_
  rw [bld_of (cs:=[aI n,.nl]) rfl]
  refine boxA_of rfl fun S2 k2 n2 o2=>?_
  refine stA_of o2 rfl rfl fun S3 n3 o3 f3=>?_
  have k3:Keep S S3:=(k1.trans k2).st (by omega) n3 f3
  refine loop79_0 (fun y w S'=>Keep S S' ∧ S3.n ≤ S'.n ∧ S'.obj S.n = some (.cells 82 [[aI 0,.nl]] true) ∧ ∃ i:Nat,w = aI i ∧ i ≤ min l.length 40 ∧ y = aI (madeTo n l i).2 ∧
      (((madeTo n l i).1 = ⟨n,[]⟩ ∧ S'.obj S1.n = some (.cells 82 [[aI n,.nl]] true)) ∨ S'.obj S1.n = some (.cells 82 [(madeTo n l i).1.cells] true)))
    (fun _ w _=>40 - ((intA w).getD 0).toNat) ⟨k3,Nat.le_refl _,(f3 _ (by omega)).trans ((k2.2 _ (by omega)).trans o1),0,rfl,Nat.zero_le _,rfl,.inl ⟨rfl,o3⟩⟩ ?_
  rintro _ _ S4 ⟨k4,n4,p4,i,rfl,hi,rfl,hg⟩ KE hKE
  have hk3:=k3.1
  obtain ⟨cs,hcs,hcl,hcv⟩:∃ cs,S4.obj S1.n = some (.cells 82 [cs] true) ∧ cs.length = 2 ∧ ∀ (T:Store) (m:Nat),Cv T m (.a cs) (madeTo n l i).1.av:=by
    rcases hg with ⟨e,h⟩ | h
    · exact ⟨_,h,rfl,fun T m=>by rw [e]; exact cv_a2 (.v _) .nl⟩
    · exact ⟨_,h,rfl,fun T m=>Gr.tree _ _ _⟩
  have hgi:=hin i
  have hgo:=hok i
  have hlen2:=hgo.len
  have fin:i = min l.length 40 → ldN 2 (.p S1.n 0 0) S4 fun v S5=>stN 2 (.p S.n 0 0) v S5 fun _ S5=>ldN 2 (.p S.n 0 0) S5 fun v S6=>∃ r,AEnd.ret (.t [v,aI (madeTo n l i).2]) = .ret r ∧ Keep S S6 ∧ Cv (S6.frz (newer S.n)) S.n r (.t [(madeTo n l (min l.length 40)).1.av,aI (madeTo n l (min l.length 40)).2]):=fun e=>by
    rw [ldN_p (n:=2) hcs hcl]
    refine stA_of p4 hcl rfl fun S5 n5 o5 f5=>?_
    rw [ldN_p (n:=2) o5 hcl]
    exact ⟨_,rfl,k4.st (Nat.le_refl _) n5 f5,by rw [← e]; exact cv_t2 (hcv _ _) (.v _)⟩
  unfold b79_0
  rw [hx1,bin_lss,onB_v]
  refine gd_of (fun hlt=>?_) (fun hge=>fin (by have:=of_decide_eq_false hge; omega))
  rw [bin_lss,onB_v]
  refine gd_of (fun h40=>?_) (fun hge=>fin (by have:¬ ((i:Int) < 40):=of_decide_eq_false hge; omega))
  have hlt:i < l.length:=by have:=of_decide_eq_true hlt; omega
  have h40:i < 40:=by have:((i:Int) < 40):=of_decide_eq_true h40; omega
  obtain ⟨hP1,hP2⟩:=hP S4 k4 i hlt
  have hx:=hl _ (List.getElem_mem hlt)
  have hgd:l.getD i 0 = l[i]:=by simp [List.getD_eq_getElem?_getD,hlt]
  have hv:0 < 2 * (madeTo n l i).1.vars:=by unfold Gr.vars; omega
  have hv2:(madeTo n l i).1.vars ≤ 1002000:=by unfold Gr.vars; omega
  have hd:0 ≤ l[i].tdiv (2 * (madeTo n l i).1.vars) ∧ l[i].tdiv (2 * (madeTo n l i).1.vars) ≤ 65536:=by
    rw [Int.tdiv_eq_ediv_of_nonneg hx.1]
    have h1:=Int.ediv_nonneg hx.1 (show 0 ≤ 2 * (madeTo n l i).1.vars by omega)
    have h2:=Int.ediv_le_self (2 * (madeTo n l i).1.vars) hx.1
    omega
  have ha:=rem_small hx.1 (by omega) hv
  have hb:=rem_small hd.1 hd.2 hv
  have cv1:∀ (T:Store) (k:Nat) (u u2:AV),[AV.a cs][k]? = some u → [(madeTo n l i).1.av][k]? = some u2 → Cv T T.n u u2:=fun T k u u2 hu hu2=>by
    match k with
    | 0=>cases hu; cases hu2; exact hcv _ _
    | k + 1=>simp at hu
  rw [ldN_p (n:=2) hcs hcl]
  have hva:AnsAt Tryz.prog 40 [.a cs] S4 (aI (madeTo n l i).1.vars):=ansAt_cv (args2:=[(madeTo n l i).1.av]) rfl (cv1 S4) (ans40 hgo (by omega) (by omega) S4)
  refine callF_at hva ?_
  rw [bin_mul (by omega) (by omega)]
  show ∃ q13:AV,_
  refine ⟨_,by rw [hP1]; exact ⟨rfl,rfl⟩,?_⟩
  refine ⟨_,by rw [hP2]; exact ⟨rfl,rfl⟩,?_⟩
  refine ⟨aI l[i],by rw [convI_64 _ (by omega) (by omega)]; exact ⟨rfl,rfl⟩,?_⟩
  refine ⟨aI (l[i].tmod (2 * (madeTo n l i).1.vars)),by rw [bin_rem (by omega)]; exact ⟨rfl,rfl⟩,?_⟩
  refine ⟨_,by rw [hP1]; exact ⟨rfl,rfl⟩,?_⟩
  refine ⟨_,by rw [hP2]; exact ⟨rfl,rfl⟩,?_⟩
  refine ⟨aI l[i],by rw [convI_64 _ (by omega) (by omega)]; exact ⟨rfl,rfl⟩,?_⟩
  refine ⟨aI (l[i].tdiv (2 * (madeTo n l i).1.vars)),by rw [bin_quo (by omega) (by omega) (by omega)]; exact ⟨rfl,rfl⟩,?_⟩
  refine ⟨aI ((l[i].tdiv (2 * (madeTo n l i).1.vars)).tmod (2 * (madeTo n l i).1.vars)),by rw [bin_rem (by omega)]; exact ⟨rfl,rfl⟩,?_⟩
  have hand:AnsAt Tryz.prog 120 [.a cs,aI (l[i].tmod (2 * (madeTo n l i).1.vars)),aI ((l[i].tdiv (2 * (madeTo n l i).1.vars)).tmod (2 * (madeTo n l i).1.vars))] S4 (andAV ((madeTo n l i).1.and (l[i].tmod (2 * (madeTo n l i).1.vars)) ((l[i].tdiv (2 * (madeTo n l i).1.vars)).tmod (2 * (madeTo n l i).1.vars)))) :=
    ansAt_cv (args2:=[(madeTo n l i).1.av,aI (l[i].tmod (2 * (madeTo n l i).1.vars)),aI ((l[i].tdiv (2 * (madeTo n l i).1.vars)).tmod (2 * (madeTo n l i).1.vars))]) rfl (fun k u u2 hu hu2=>by
      match k with
      | 0=>cases hu; cases hu2; exact hcv _ _
      | 1 | 2=>cases hu; cases hu2; exact .v _
      | k + 3=>simp at hu) (ans120 hgo ⟨by omega,by omega⟩ ⟨by omega,by omega⟩ S4)
  rw [ldN_p (n:=2) hcs hcl]
  refine callF_at hand ?_
  have hs:madeTo n l (i + 1) = madeS (madeTo n l i).1 (madeTo n l i).2 l[i]:=by rw [madeTo,hgd]
  simp only [madeS] at hs
  generalize (madeTo n l i).1.and (l[i].tmod (2 * (madeTo n l i).1.vars)) ((l[i].tdiv (2 * (madeTo n l i).1.vars)).tmod (2 * (madeTo n l i).1.vars)) = r at *
  unfold andAV
  rw [extr0,extr1,extr2]
  refine boxA_of rfl fun S5 k5 n5 o5=>?_
  refine stA_of o5 rfl rfl fun S6 n6 o6 f6=>?_
  have k6:Keep S4 S6:=k5.st (Nat.le_refl _) n6 f6
  have p6:=(k6.2 _ (by omega)).trans p4
  have c6:=(k6.2 S1.n (by omega)).trans hcs
  have hadd:∀ K:AV → Store → Prop,∀ S,bin .add 0 (.v (.int .i64 (i:Int))) (.v (.int .i64 1)) S K = K (aI (i + 1:Nat)) S:=fun K S=>bin_add (by omega) (by omega) 0
  have hμ:40 - ((intA (aI (i + 1:Nat))).getD 0).toNat < 40 - ((intA (aI i)).getD 0).toNat:=by simp [intA]; omega
  rw [bin_eql,onB_v]
  refine gd_of (fun h=>?_) (fun h=>?_)
  · have h:r.2.2 = 0:=of_decide_eq_true h
    simp only [h,if_true] at hs
    have qq:0 ≤ l[i].tdiv 7 ∧ l[i].tdiv 7 ≤ 65536:=by
      rw [Int.tdiv_eq_ediv_of_nonneg hx.1]; omega
    have e1:∀ (T:Store) (K:AV → Store → Prop),convI .i64 (aW16 l[i]) T K = K (aI l[i]) T:=fun T K=>convI_64 _ (by omega) (by omega)
    have e2:∀ (T:Store) (K:AV → Store → Prop),bin .quo 0 (aI l[i]) (.v (.int .i64 7)) T K = K (aI (l[i].tdiv 7)) T:=fun T K=>bin_quo (by decide) (by omega) (by omega) 0
    have e3:∀ (T:Store) (K:AV → Store → Prop),bin .rem 0 (aI (l[i].tdiv 7)) (.v (.int .i64 2)) T K = K (aI ((l[i].tdiv 7).tmod 2)) T:=fun T K=>bin_rem (by decide) _ 0
    have pT:∀ {T:Store},Keep S T → _:=fun {T} hT=>hP T hT i hlt
    refine ⟨.a r.1.cells,fun T hT=>by rw [ldN_p (n:=2) ((hT.2 _ (by omega)).trans o6) rfl]; exact ⟨rfl,rfl⟩,P i,fun T hT=>by rw [(pT ((k4.trans k6).trans hT)).1]; exact ⟨rfl,rfl⟩,_,fun T hT=>by rw [(pT ((k4.trans k6).trans hT)).2]; exact ⟨rfl,rfl⟩,_,fun T hT=>by rw [e1]; exact ⟨rfl,rfl⟩,_,fun T hT=>by rw [e2]; exact ⟨rfl,rfl⟩,_,fun T hT=>by rw [e3]; exact ⟨rfl,rfl⟩,_,fun T hT=>by rw [bin_xor]; exact ⟨rfl,rfl⟩,?_⟩
    refine stA_of c6 rfl hcl fun S7 n7 o7 f7=>?_
    have k7:Keep S S7:=(k4.trans k6).st (by omega) n7 f7
    refine ⟨fun T hT=>by rw [bin_xor]; exact ⟨rfl,rfl⟩,fun T hT=>by rw [e3]; exact ⟨rfl,rfl⟩,fun T hT=>by rw [e2]; exact ⟨rfl,rfl⟩,fun T hT=>by rw [e1]; exact ⟨rfl,rfl⟩,fun T hT=>by rw [(pT (k7.trans hT)).2]; exact ⟨rfl,rfl⟩,fun T hT=>by rw [(pT (k7.trans hT)).1]; exact ⟨rfl,rfl⟩,?_⟩
    rw [hadd]
    exact hKE _ _ _ ⟨k7,by have:=k6.1; omega,(f7 _ (by omega)).trans p6,i + 1,rfl,by omega,by rw [hs],.inr (by rw [hs]; exact o7)⟩ hμ
  · have h:¬ r.2.2 = 0:=of_decide_eq_false h
    simp only [h,if_false] at hs
    rw [hadd]
    refine hKE _ _ _ ⟨k4.trans k6,by have:=k6.1; omega,p6,i + 1,rfl,by omega,by rw [hs],?_⟩ hμ
    rcases hg with ⟨e,h'⟩ | h'
    · exact .inl ⟨by rw [hs]; exact e,(k6.2 S1.n (by omega)).trans h'⟩
    · exact .inr (by rw [hs]; exact (k6.2 S1.n (by omega)).trans h')
end Go.Proofs.YtolgpokppnajdaaGreat.G
set_option linter.unusedVariables false
set_option linter.unusedSimpArgs false
namespace Go.Proofs.YtolgpokppnajdaaGreat.G
open Go Go.Ab
set_option maxRecDepth 100000
noncomputable def c35:Code:=(Tryz.f35.body).getD .skip
noncomputable def r35:List ResultVar:=Tryz.f35.results.toList
def env35_0 (y1 y2 y4 y5 y6:AV):List AV:=[y1,y2,y4,y5,y6]
def lv35_0:List Nat:=[1,2,4,5,6]
def env35_1 (y1 y2 y4 y5 y8:AV):List AV:=[y1,y2,y4,y5,y8]
def lv35_1:List Nat:=[1,2,4,5,8]
def env35_2 (y1 y2 y4 y5 y8 y9 y10:AV):List AV:=[y1,y2,y4,y5,y8,y9,y10]
def lv35_2:List Nat:=[1,2,4,5,8,9,10]
def env35_3 (y1 y2 y4 y5 y11:AV):List AV:=[y1,y2,y4,y5,y11]
def lv35_3:List Nat:=[1,2,4,5,11]
def env35_4 (y1 y2 y4 y5 y11 y12 y13 y14:AV):List AV:=[y1,y2,y4,y5,y11,y12,y13,y14]
def lv35_4:List Nat:=[1,2,4,5,11,12,13,14]
def ms35:List (List Nat):=[lv35_0,lv35_1,lv35_2,lv35_3,lv35_4,[]]
def m35 (x0:AV) (S:Store) (Q:PoT):Prop :=
  boxN 42 8 x0 S fun v1 S=>boxN 71 5 (.a [(.v (.int .i64 0)),.nl,.nl,.nl,.nl]) S fun v2 S=>ldN 8 v1 S fun v3 S=>callF Tryz.prog 65 [v3] S Q fun v4 S=>un .not v4 S fun v5 S=>onB v5 fun b6=>gd b6 (bld [(0,1),(1,1),(2,1),(3,1),(4,1)] [(.v (.int .i64 0)),.nl,.nl,.nl,.nl] [] S fun v7 S=>stN 5 v2 v7 S fun v8 S=>ldN 5 v2 S fun v9 _=>Q (.ret (.t [v9,(.v (.int .i64 1))])) S) (shift v1 0 S fun v10 S=>ld1 v10 S fun v11 S=>shift v1 1 S fun v12 S=>ld1 v12 S fun v13 S=>lenS v13 S fun v14 S=>bin .add 0 v11 v14 S fun v15 S=>bin .gtr 0 v15 (.v (.int .i64 10)) S fun v16 S=>onB v16 fun b17=>gd b17 (bld [(0,1),(1,1),(2,1),(3,1),(4,1)] [(.v (.int .i64 0)),.nl,.nl,.nl,.nl] [] S fun v18 S=>stN 5 v2 v18 S fun v19 S=>ldN 5 v2 S fun v20 _=>Q (.ret (.t [v20,(.v (.int .i64 2))])) S) (bld [(0,1),(1,1),(2,1),(3,1),(4,1)] [(.v (.int .i64 0)),.nl,.nl,.nl,.nl] [(0,v15)] S fun v21 S=>boxN 71 5 (.a [(.v (.int .i64 0)),.nl,.nl,.nl,.nl]) S fun v22 S=>stN 5 v22 v21 S fun v23 S=>loopV lv35_0 (vc Tryz.prog (c35.at_ [1,1,1,1,1,0,1,0,0]) (ms35.drop 1)) 138 (env35_0 v1 v2 v15 v22 (.v (.int .i64 0))) S (blockK 0 (seqK (vc Tryz.prog (c35.at_ [1,1,1,1,1,1]) (ms35.drop 1)) (bodyK Tryz.prog r35 Q)))))
theorem calls35 {x0:AV} {S:Store} {Q:PoT} (h:m35 x0 S Q):ACalls Tryz.prog 35 [x0] S Q :=
  calls_of_vc (fn:=Tryz.f35) (c:=c35) (n:=138) Tryz.func35 (by kernel_rfl) (by kernel_rfl) (by kernel_rfl) ms35 (Eq.mpr (by kernel_rfl) h)
def b35_0 (y1 y2 y4 y5 y6:AV) (S:Store) (KE0:KeT) (Q:PoT):Prop :=
  bin .shl 0 (.v (.int .i64 1)) y4 S fun v24 S=>bin .lss 0 y6 v24 S fun v25 S=>onB v25 fun b26=>gd b26 (ldN 8 y1 S fun v27 S=>shift y1 5 S fun v28 S=>ld1 v28 S fun v29 S=>callF Tryz.prog 66 [v27,y6,v29] S Q fun v30 S=>shift y5 1 S fun v31 S=>ld1 v31 S fun v32 S=>bslN 4 1 1 [(.v (.bool false))] [(0,v30)] S fun v33 S=>appS 4 1 1 v32 v33 S fun v34 S=>shift y5 1 S fun v35 S=>stN 1 v35 v34 S fun v36 S=>∃ q37:AV,(∀ T:Store,Keep S T → shift y5 2 T fun v38 S=>v38 = q37 ∧ S = T) ∧ ∃ q39:AV,(∀ T:Store,Keep S T → ld1 q37 T fun v40 S=>v40 = q39 ∧ S = T) ∧ onB v30 fun b41=>gd b41 (∃ q42:AV,(∀ T:Store,Keep S T → ldN 8 y1 T fun v43 S=>v43 = q42 ∧ S = T) ∧ ∃ q44:AV,(∀ T:Store,Keep S T → callF Tryz.prog 67 [q42,y6] T (fun _ _=>False) fun v45 S=>v45 = q44 ∧ S = T) ∧ ∃ q46:AV,(∀ T:Store,Keep S T → q44 = q46 ∧ T = T) ∧ ∃ q47:AV,(∀ T:Store,Keep S T → bslN 4 1 1 [(.v (.bool false))] [(0,q46)] T fun v48 S=>v48 = q47 ∧ S = T) ∧ appS 4 1 1 q39 q47 S fun v49 S=>∃ q50:AV,(∀ T:Store,Keep S T → shift y5 2 T fun v51 S=>v51 = q50 ∧ S = T) ∧ stN 1 q50 v49 S fun v52 S=>bin .add 0 y6 (.v (.int .i64 1)) S fun v53 S=>KE0 138 (env35_0 y1 y2 y4 y5 v53) S) (∃ q54:AV,(∀ T:Store,Keep S T → (.v (.bool false)) = q54 ∧ T = T) ∧ ∃ q55:AV,(∀ T:Store,Keep S T → bslN 4 1 1 [(.v (.bool false))] [(0,q54)] T fun v56 S=>v56 = q55 ∧ S = T) ∧ appS 4 1 1 q39 q55 S fun v57 S=>∃ q58:AV,(∀ T:Store,Keep S T → shift y5 2 T fun v59 S=>v59 = q58 ∧ S = T) ∧ stN 1 q58 v57 S fun v60 S=>bin .add 0 y6 (.v (.int .i64 1)) S fun v61 S=>KE0 138 (env35_0 y1 y2 y4 y5 v61) S)) (loopV lv35_1 (vc Tryz.prog (c35.at_ [1,1,1,1,1,1,0,1,0,0]) (ms35.drop 2)) 138 (env35_1 y1 y2 y4 y5 (.v (.int .i64 0))) S (blockK 2 (seqK (vc Tryz.prog (c35.at_ [1,1,1,1,1,1,1]) (ms35.drop 3)) (bodyK Tryz.prog r35 Q))))
theorem b35_0_eq (y1 y2 y4 y5 y6:AV) (S:Store) (KE0:KeT) (Q:PoT):vc Tryz.prog (c35.at_ [1,1,1,1,1,0,1,0,0]) (ms35.drop 1) (mkE 138 lv35_0 (env35_0 y1 y2 y4 y5 y6)) S (thenK (fgK lv35_0 KE0) (blockK 0 (seqK (vc Tryz.prog (c35.at_ [1,1,1,1,1,1]) (ms35.drop 1)) (bodyK Tryz.prog r35 Q)))) = b35_0 y1 y2 y4 y5 y6 S KE0 Q:=by kernel_rfl
theorem loop35_0 {y1 y2 y4 y5:AV} {y60:AV} {S:Store} {Q:PoT} (I:AV → Store → Prop) (μ:AV → Store → Nat) (h0:I y60 S)
    (hr:∀ (y6:AV) (S:Store),I y6 S → ∀ KE0:KeT,(∀ (y6':AV) (S':Store),I y6' S' → μ y6' S' < μ y6 S → KE0 138 (env35_0 y1 y2 y4 y5 y6') S') → b35_0 y1 y2 y4 y5 y6 S KE0 Q) :
    loopV lv35_0 (vc Tryz.prog (c35.at_ [1,1,1,1,1,0,1,0,0]) (ms35.drop 1)) 138 (env35_0 y1 y2 y4 y5 y60) S (blockK 0 (seqK (vc Tryz.prog (c35.at_ [1,1,1,1,1,1]) (ms35.drop 1)) (bodyK Tryz.prog r35 Q))):=by
  refine ⟨fun n e S=>n = 138 ∧ ∃ y6:AV,e = (env35_0 y1 y2 y4 y5 y6) ∧ I y6 S,fun _ e S=>μ (e.getD 4 .j) S,?_,?_⟩
  · exact ⟨_,_,Wk.refl _ _,rfl,_,rfl,h0⟩
  · rintro _ e S ⟨rfl,y6,rfl,hI⟩
    exact (b35_0_eq _ _ _ _ _ _ _ _).mpr (hr y6 S hI _ (fun y6' S' hI' hm=>⟨_,_,Wk.refl _ _,⟨rfl,_,rfl,hI'⟩,hm⟩))
def b35_1 (y1 y2 y4 y5 y8:AV) (S:Store) (KE1:KeT) (Q:PoT):Prop :=
  shift y1 6 S fun v62 S=>ld1 v62 S fun v63 S=>lenS v63 S fun v64 S=>bin .lss 0 y8 v64 S fun v65 S=>onB v65 fun b66=>gd b66 (loopV lv35_2 (vc Tryz.prog (c35.at_ [1,1,1,1,1,1,0,1,0,0,1,0,0,1,0,1,0,0]) (ms35.drop 3)) 138 (env35_2 y1 y2 y4 y5 y8 .nl (.v (.int .i64 0))) S (blockK 4 (seqK (vc Tryz.prog (c35.at_ [1,1,1,1,1,1,0,1,0,0,1,0,0,1,1]) (ms35.drop 3)) (blockK 3 (seqK (vc Tryz.prog (c35.at_ [1,1,1,1,1,1,0,1,0,0,1,1]) (ms35.drop 3)) (thenK (fgK lv35_1 KE1) (blockK 2 (seqK (vc Tryz.prog (c35.at_ [1,1,1,1,1,1,1]) (ms35.drop 3)) (bodyK Tryz.prog r35 Q))))))))) (loopV lv35_3 (vc Tryz.prog (c35.at_ [1,1,1,1,1,1,1,0,1,0,0]) (ms35.drop 4)) 138 (env35_3 y1 y2 y4 y5 (.v (.int .i64 0))) S (blockK 6 (seqK (vc Tryz.prog (c35.at_ [1,1,1,1,1,1,1,1]) (ms35.drop 5)) (bodyK Tryz.prog r35 Q))))
theorem b35_1_eq (y1 y2 y4 y5 y8:AV) (S:Store) (KE1:KeT) (Q:PoT):vc Tryz.prog (c35.at_ [1,1,1,1,1,1,0,1,0,0]) (ms35.drop 2) (mkE 138 lv35_1 (env35_1 y1 y2 y4 y5 y8)) S (thenK (fgK lv35_1 KE1) (blockK 2 (seqK (vc Tryz.prog (c35.at_ [1,1,1,1,1,1,1]) (ms35.drop 3)) (bodyK Tryz.prog r35 Q)))) = b35_1 y1 y2 y4 y5 y8 S KE1 Q:=by kernel_rfl
theorem loopw35_1 {y1 y2 y4 y5 y8:AV} {S:Store} {Q:PoT} (I:AV → AV → AV → AV → AV → Store → Prop) (μ:AV → AV → AV → AV → AV → Store → Nat) (h0:∃ (y1' y2' y4' y5' y8':AV) (S':Store),Wk S (env35_1 y1 y2 y4 y5 y8) S' (env35_1 y1' y2' y4' y5' y8') ∧ I y1' y2' y4' y5' y8' S')
    (hr:∀ (y1 y2 y4 y5 y8:AV) (S:Store),I y1 y2 y4 y5 y8 S → ∀ KE1:KeT,(∀ (y1' y2' y4' y5' y8':AV) (S':Store) (y1'' y2'' y4'' y5'' y8'':AV) (S'':Store),Wk S' (env35_1 y1' y2' y4' y5' y8') S'' (env35_1 y1'' y2'' y4'' y5'' y8'') → I y1'' y2'' y4'' y5'' y8'' S'' → μ y1'' y2'' y4'' y5'' y8'' S'' < μ y1 y2 y4 y5 y8 S → KE1 138 (env35_1 y1' y2' y4' y5' y8') S') → b35_1 y1 y2 y4 y5 y8 S KE1 Q) :
    loopV lv35_1 (vc Tryz.prog (c35.at_ [1,1,1,1,1,1,0,1,0,0]) (ms35.drop 2)) 138 (env35_1 y1 y2 y4 y5 y8) S (blockK 2 (seqK (vc Tryz.prog (c35.at_ [1,1,1,1,1,1,1]) (ms35.drop 3)) (bodyK Tryz.prog r35 Q))):=by
  obtain ⟨y1',y2',y4',y5',y8',S0,hw0,h0⟩:=h0
  refine ⟨fun n e S=>n = 138 ∧ ∃ y1 y2 y4 y5 y8:AV,e = (env35_1 y1 y2 y4 y5 y8) ∧ I y1 y2 y4 y5 y8 S,fun _ e S=>μ (e.getD 0 .j) (e.getD 1 .j) (e.getD 2 .j) (e.getD 3 .j) (e.getD 4 .j) S,?_,?_⟩
  · exact ⟨_,_,hw0,rfl,_,_,_,_,_,rfl,h0⟩
  · rintro _ e S ⟨rfl,y1,y2,y4,y5,y8,rfl,hI⟩
    exact (b35_1_eq _ _ _ _ _ _ _ _).mpr (hr y1 y2 y4 y5 y8 S hI _ (fun y1' y2' y4' y5' y8' S' y1'' y2'' y4'' y5'' y8'' S'' hw hI' hm=>⟨_,_,hw,⟨rfl,_,_,_,_,_,rfl,hI'⟩,hm⟩))
def b35_2 (y1 y2 y4 y5 y8 y9 y10:AV) (S:Store) (KE2:KeT) (KE1:KeT) (Q:PoT):Prop :=
  bin .shl 0 (.v (.int .i64 1)) y4 S fun v67 S=>bin .lss 0 y10 v67 S fun v68 S=>onB v68 fun b69=>gd b69 (∃ q70:AV,(∀ T:Store,Keep S T → shift y5 1 T fun v71 S=>v71 = q70 ∧ S = T) ∧ ∃ q72:AV,(∀ T:Store,Keep S T → ld1 q70 T fun v73 S=>v73 = q72 ∧ S = T) ∧ ∃ q74:AV,(∀ T:Store,Keep S T → ixS 4 1 q72 y10 T fun v75 S=>v75 = q74 ∧ S = T) ∧ ∃ q76:AV,(∀ T:Store,Keep S T → ld1 q74 T fun v77 S=>v77 = q76 ∧ S = T) ∧ onB q76 fun b78=>gd b78 (∃ q79:AV,(∀ T:Store,Keep S T → ldN 8 y1 T fun v80 S=>v80 = q79 ∧ S = T) ∧ ∃ q81:AV,(∀ T:Store,Keep S T → shift y1 6 T fun v82 S=>v82 = q81 ∧ S = T) ∧ ∃ q83:AV,(∀ T:Store,Keep S T → ld1 q81 T fun v84 S=>v84 = q83 ∧ S = T) ∧ ∃ q85:AV,(∀ T:Store,Keep S T → ixS 3 1 q83 y8 T fun v86 S=>v86 = q85 ∧ S = T) ∧ ∃ q87:AV,(∀ T:Store,Keep S T → ld1 q85 T fun v88 S=>v88 = q87 ∧ S = T) ∧ ∃ q89:AV,(∀ T:Store,Keep S T → callF Tryz.prog 68 [q79,y10,q87] T (fun _ _=>False) fun v90 S=>v90 = q89 ∧ S = T) ∧ ∃ q91:AV,(∀ T:Store,Keep S T → q89 = q91 ∧ T = T) ∧ ∃ q92:AV,(∀ T:Store,Keep S T → bslN 4 1 1 [(.v (.bool false))] [(0,q91)] T fun v93 S=>v93 = q92 ∧ S = T) ∧ appS 4 1 1 y9 q92 S fun v94 S=>bin .add 0 y10 (.v (.int .i64 1)) S fun v95 S=>KE2 138 (env35_2 y1 y2 y4 y5 y8 v94 v95) S) (∃ q96:AV,(∀ T:Store,Keep S T → (.v (.bool false)) = q96 ∧ T = T) ∧ ∃ q97:AV,(∀ T:Store,Keep S T → bslN 4 1 1 [(.v (.bool false))] [(0,q96)] T fun v98 S=>v98 = q97 ∧ S = T) ∧ appS 4 1 1 y9 q97 S fun v99 S=>bin .add 0 y10 (.v (.int .i64 1)) S fun v100 S=>KE2 138 (env35_2 y1 y2 y4 y5 y8 v99 v100) S)) (shift y5 4 S fun v101 S=>ld1 v101 S fun v102 S=>bslN 53 1 1 [.nl] [(0,y9)] S fun v103 S=>appS 53 1 24 v102 v103 S fun v104 S=>shift y5 4 S fun v105 S=>stN 1 v105 v104 S fun v106 S=>bin .add 0 y8 (.v (.int .i64 1)) S fun v107 S=>KE1 138 (env35_1 y1 y2 y4 y5 v107) S)
theorem b35_2_eq (y1 y2 y4 y5 y8 y9 y10:AV) (S:Store) (KE2:KeT) (KE1:KeT) (Q:PoT):vc Tryz.prog (c35.at_ [1,1,1,1,1,1,0,1,0,0,1,0,0,1,0,1,0,0]) (ms35.drop 3) (mkE 138 lv35_2 (env35_2 y1 y2 y4 y5 y8 y9 y10)) S (thenK (fgK lv35_2 KE2) (blockK 4 (seqK (vc Tryz.prog (c35.at_ [1,1,1,1,1,1,0,1,0,0,1,0,0,1,1]) (ms35.drop 3)) (blockK 3 (seqK (vc Tryz.prog (c35.at_ [1,1,1,1,1,1,0,1,0,0,1,1]) (ms35.drop 3)) (thenK (fgK lv35_1 KE1) (blockK 2 (seqK (vc Tryz.prog (c35.at_ [1,1,1,1,1,1,1]) (ms35.drop 3)) (bodyK Tryz.prog r35 Q))))))))) = b35_2 y1 y2 y4 y5 y8 y9 y10 S KE2 KE1 Q:=by kernel_rfl
theorem loop35_2 {y1 y2 y4 y5 y8:AV} {y90 y100:AV} {S:Store} {KE1:KeT} {Q:PoT} (I:AV → AV → Store → Prop) (μ:AV → AV → Store → Nat) (h0:I y90 y100 S)
    (hr:∀ (y9 y10:AV) (S:Store),I y9 y10 S → ∀ KE2:KeT,(∀ (y9' y10':AV) (S':Store),I y9' y10' S' → μ y9' y10' S' < μ y9 y10 S → KE2 138 (env35_2 y1 y2 y4 y5 y8 y9' y10') S') → b35_2 y1 y2 y4 y5 y8 y9 y10 S KE2 KE1 Q) :
    loopV lv35_2 (vc Tryz.prog (c35.at_ [1,1,1,1,1,1,0,1,0,0,1,0,0,1,0,1,0,0]) (ms35.drop 3)) 138 (env35_2 y1 y2 y4 y5 y8 y90 y100) S (blockK 4 (seqK (vc Tryz.prog (c35.at_ [1,1,1,1,1,1,0,1,0,0,1,0,0,1,1]) (ms35.drop 3)) (blockK 3 (seqK (vc Tryz.prog (c35.at_ [1,1,1,1,1,1,0,1,0,0,1,1]) (ms35.drop 3)) (thenK (fgK lv35_1 KE1) (blockK 2 (seqK (vc Tryz.prog (c35.at_ [1,1,1,1,1,1,1]) (ms35.drop 3)) (bodyK Tryz.prog r35 Q)))))))):=by
  refine ⟨fun n e S=>n = 138 ∧ ∃ y9 y10:AV,e = (env35_2 y1 y2 y4 y5 y8 y9 y10) ∧ I y9 y10 S,fun _ e S=>μ (e.getD 5 .j) (e.getD 6 .j) S,?_,?_⟩
  · exact ⟨_,_,Wk.refl _ _,rfl,_,_,rfl,h0⟩
  · rintro _ e S ⟨rfl,y9,y10,rfl,hI⟩
    exact (b35_2_eq _ _ _ _ _ _ _ _ _ _ _).mpr (hr y9 y10 S hI _ (fun y9' y10' S' hI' hm=>⟨_,_,Wk.refl _ _,⟨rfl,_,_,rfl,hI'⟩,hm⟩))
def b35_3 (y1 y2 y4 y5 y11:AV) (S:Store) (KE3:KeT) (Q:PoT):Prop :=
  bin .shl 0 (.v (.int .i64 1)) y4 S fun v108 S=>bin .lss 0 y11 v108 S fun v109 S=>onB v109 fun b110=>gd b110 (ldN 8 y1 S fun v111 S=>callF Tryz.prog 59 [v111,y11] S Q fun v112 S=>loopV lv35_4 (vc Tryz.prog (c35.at_ [1,1,1,1,1,1,1,0,1,0,0,1,0,0,1,1,0,1,0,0]) (ms35.drop 5)) 138 (env35_4 y1 y2 y4 y5 y11 .nl v112 (.v (.int .i64 0))) S (blockK 8 (seqK (vc Tryz.prog (c35.at_ [1,1,1,1,1,1,1,0,1,0,0,1,0,0,1,1,1]) (ms35.drop 5)) (blockK 7 (seqK (vc Tryz.prog (c35.at_ [1,1,1,1,1,1,1,0,1,0,0,1,1]) (ms35.drop 5)) (thenK (fgK lv35_3 KE3) (blockK 6 (seqK (vc Tryz.prog (c35.at_ [1,1,1,1,1,1,1,1]) (ms35.drop 5)) (bodyK Tryz.prog r35 Q))))))))) (ldN 5 y5 S fun v113 S=>stN 5 y2 v113 S fun v114 S=>ldN 5 y2 S fun v115 _=>Q (.ret (.t [v115,(.v (.int .i64 0))])) S)
theorem b35_3_eq (y1 y2 y4 y5 y11:AV) (S:Store) (KE3:KeT) (Q:PoT):vc Tryz.prog (c35.at_ [1,1,1,1,1,1,1,0,1,0,0]) (ms35.drop 4) (mkE 138 lv35_3 (env35_3 y1 y2 y4 y5 y11)) S (thenK (fgK lv35_3 KE3) (blockK 6 (seqK (vc Tryz.prog (c35.at_ [1,1,1,1,1,1,1,1]) (ms35.drop 5)) (bodyK Tryz.prog r35 Q)))) = b35_3 y1 y2 y4 y5 y11 S KE3 Q:=by kernel_rfl
theorem loopw35_3 {y1 y2 y4 y5 y11:AV} {S:Store} {Q:PoT} (I:AV → AV → AV → AV → AV → Store → Prop) (μ:AV → AV → AV → AV → AV → Store → Nat) (h0:∃ (y1' y2' y4' y5' y11':AV) (S':Store),Wk S (env35_3 y1 y2 y4 y5 y11) S' (env35_3 y1' y2' y4' y5' y11') ∧ I y1' y2' y4' y5' y11' S')
    (hr:∀ (y1 y2 y4 y5 y11:AV) (S:Store),I y1 y2 y4 y5 y11 S → ∀ KE3:KeT,(∀ (y1' y2' y4' y5' y11':AV) (S':Store) (y1'' y2'' y4'' y5'' y11'':AV) (S'':Store),Wk S' (env35_3 y1' y2' y4' y5' y11') S'' (env35_3 y1'' y2'' y4'' y5'' y11'') → I y1'' y2'' y4'' y5'' y11'' S'' → μ y1'' y2'' y4'' y5'' y11'' S'' < μ y1 y2 y4 y5 y11 S → KE3 138 (env35_3 y1' y2' y4' y5' y11') S') → b35_3 y1 y2 y4 y5 y11 S KE3 Q) :
    loopV lv35_3 (vc Tryz.prog (c35.at_ [1,1,1,1,1,1,1,0,1,0,0]) (ms35.drop 4)) 138 (env35_3 y1 y2 y4 y5 y11) S (blockK 6 (seqK (vc Tryz.prog (c35.at_ [1,1,1,1,1,1,1,1]) (ms35.drop 5)) (bodyK Tryz.prog r35 Q))):=by
  obtain ⟨y1',y2',y4',y5',y11',S0,hw0,h0⟩:=h0
  refine ⟨fun n e S=>n = 138 ∧ ∃ y1 y2 y4 y5 y11:AV,e = (env35_3 y1 y2 y4 y5 y11) ∧ I y1 y2 y4 y5 y11 S,fun _ e S=>μ (e.getD 0 .j) (e.getD 1 .j) (e.getD 2 .j) (e.getD 3 .j) (e.getD 4 .j) S,?_,?_⟩
  · exact ⟨_,_,hw0,rfl,_,_,_,_,_,rfl,h0⟩
  · rintro _ e S ⟨rfl,y1,y2,y4,y5,y11,rfl,hI⟩
    exact (b35_3_eq _ _ _ _ _ _ _ _).mpr (hr y1 y2 y4 y5 y11 S hI _ (fun y1' y2' y4' y5' y11' S' y1'' y2'' y4'' y5'' y11'' S'' hw hI' hm=>⟨_,_,hw,⟨rfl,_,_,_,_,_,rfl,hI'⟩,hm⟩))
def b35_4 (y1 y2 y4 y5 y11 y12 y13 y14:AV) (S:Store) (KE4:KeT) (KE3:KeT) (Q:PoT):Prop :=
  shift y1 0 S fun v116 S=>ld1 v116 S fun v117 S=>bin .shl 0 (.v (.int .i64 1)) v117 S fun v118 S=>bin .lss 0 y14 v118 S fun v119 S=>onB v119 fun b120=>gd b120 (shift y5 1 S fun v121 S=>ld1 v121 S fun v122 S=>ixS 4 1 v122 y11 S fun v123 S=>ld1 v123 S fun v124 S=>onB v124 fun b125=>gd b125 (shift y5 1 S fun v126 S=>ld1 v126 S fun v127 S=>bin .add 0 y13 y14 S fun v128 S=>ixS 4 1 v127 v128 S fun v129 S=>ld1 v129 S fun v130 S=>onB v130 fun b131=>gd b131 (bin .add 0 y13 y14 S fun v132 S=>bslN 3 1 1 [(.v (.int .i64 0))] [(0,v132)] S fun v133 S=>appS 3 1 8 y12 v133 S fun v134 S=>bin .add 0 y14 (.v (.int .i64 1)) S fun v135 S=>KE4 138 (env35_4 y1 y2 y4 y5 y11 v134 y13 v135) S) (bin .add 0 y14 (.v (.int .i64 1)) S fun v136 S=>KE4 138 (env35_4 y1 y2 y4 y5 y11 y12 y13 v136) S)) (shift y5 3 S fun v137 S=>ld1 v137 S fun v138 S=>bslN 34 1 1 [.nl] [(0,y12)] S fun v139 S=>appS 34 1 24 v138 v139 S fun v140 S=>shift y5 3 S fun v141 S=>stN 1 v141 v140 S fun v142 S=>bin .add 0 y11 (.v (.int .i64 1)) S fun v143 S=>KE3 138 (env35_3 y1 y2 y4 y5 v143) S)) (shift y5 3 S fun v144 S=>ld1 v144 S fun v145 S=>bslN 34 1 1 [.nl] [(0,y12)] S fun v146 S=>appS 34 1 24 v145 v146 S fun v147 S=>shift y5 3 S fun v148 S=>stN 1 v148 v147 S fun v149 S=>bin .add 0 y11 (.v (.int .i64 1)) S fun v150 S=>KE3 138 (env35_3 y1 y2 y4 y5 v150) S)
theorem b35_4_eq (y1 y2 y4 y5 y11 y12 y13 y14:AV) (S:Store) (KE4:KeT) (KE3:KeT) (Q:PoT):vc Tryz.prog (c35.at_ [1,1,1,1,1,1,1,0,1,0,0,1,0,0,1,1,0,1,0,0]) (ms35.drop 5) (mkE 138 lv35_4 (env35_4 y1 y2 y4 y5 y11 y12 y13 y14)) S (thenK (fgK lv35_4 KE4) (blockK 8 (seqK (vc Tryz.prog (c35.at_ [1,1,1,1,1,1,1,0,1,0,0,1,0,0,1,1,1]) (ms35.drop 5)) (blockK 7 (seqK (vc Tryz.prog (c35.at_ [1,1,1,1,1,1,1,0,1,0,0,1,1]) (ms35.drop 5)) (thenK (fgK lv35_3 KE3) (blockK 6 (seqK (vc Tryz.prog (c35.at_ [1,1,1,1,1,1,1,1]) (ms35.drop 5)) (bodyK Tryz.prog r35 Q))))))))) = b35_4 y1 y2 y4 y5 y11 y12 y13 y14 S KE4 KE3 Q:=by kernel_rfl
theorem loop35_4 {y1 y2 y4 y5 y11 y13:AV} {y120 y140:AV} {S:Store} {KE3:KeT} {Q:PoT} (I:AV → AV → Store → Prop) (μ:AV → AV → Store → Nat) (h0:I y120 y140 S)
    (hr:∀ (y12 y14:AV) (S:Store),I y12 y14 S → ∀ KE4:KeT,(∀ (y12' y14':AV) (S':Store),I y12' y14' S' → μ y12' y14' S' < μ y12 y14 S → KE4 138 (env35_4 y1 y2 y4 y5 y11 y12' y13 y14') S') → b35_4 y1 y2 y4 y5 y11 y12 y13 y14 S KE4 KE3 Q) :
    loopV lv35_4 (vc Tryz.prog (c35.at_ [1,1,1,1,1,1,1,0,1,0,0,1,0,0,1,1,0,1,0,0]) (ms35.drop 5)) 138 (env35_4 y1 y2 y4 y5 y11 y120 y13 y140) S (blockK 8 (seqK (vc Tryz.prog (c35.at_ [1,1,1,1,1,1,1,0,1,0,0,1,0,0,1,1,1]) (ms35.drop 5)) (blockK 7 (seqK (vc Tryz.prog (c35.at_ [1,1,1,1,1,1,1,0,1,0,0,1,1]) (ms35.drop 5)) (thenK (fgK lv35_3 KE3) (blockK 6 (seqK (vc Tryz.prog (c35.at_ [1,1,1,1,1,1,1,1]) (ms35.drop 5)) (bodyK Tryz.prog r35 Q)))))))):=by
  refine ⟨fun n e S=>n = 138 ∧ ∃ y12 y14:AV,e = (env35_4 y1 y2 y4 y5 y11 y12 y13 y14) ∧ I y12 y14 S,fun _ e S=>μ (e.getD 5 .j) (e.getD 7 .j) S,?_,?_⟩
  · exact ⟨_,_,Wk.refl _ _,rfl,_,_,rfl,h0⟩
  · rintro _ e S ⟨rfl,y12,y14,rfl,hI⟩
    exact (b35_4_eq _ _ _ _ _ _ _ _ _ _ _ _).mpr (hr y12 y14 S hI _ (fun y12' y14' S' hI' hm=>⟨_,_,Wk.refl _ _,⟨rfl,_,_,rfl,hI'⟩,hm⟩))
end Go.Proofs.YtolgpokppnajdaaGreat.G
set_option linter.unusedVariables false
set_option linter.unusedSimpArgs false
namespace Go.Proofs.YtolgpokppnajdaaGreat.G
open Go Go.Ab
structure Fv (c:Ci) (S S1 S2 S4 S':Store) (m:Nat) (zv zi:AV) (i:Nat):Prop where
  keep:Keep S S'
  n:S4.n ≤ S'.n
  cb:S'.obj S.n = some (.cells 42 [c.cells] true)
  ob:S'.obj S1.n = some (.cells 71 [[aI 0,.nl,.nl,.nl,.nl]] true)
  sb:S'.obj S2.n = some (.cells 71 [[aI m,zv,zi,.nl,.nl]] true)
  wv:Own S4.n S' zv 4 (((validOf c).take i).map fun b=>[aB b])
  wi:Own S4.n S' zi 4 (((spOf c).initial.take i).map fun b=>[aB b])
  ap:Apart zv zi
  ap':Apart zi zv
structure Ff (c:Ci) (S S1 S2 S4 S':Store) (sp:List AV) (z:AV) (e:Nat) (rows:List AV):Prop where
  keep:Keep S S'
  n:S4.n ≤ S'.n
  cb:S'.obj S.n = some (.cells 42 [c.cells] true)
  ob:S'.obj S1.n = some (.cells 71 [[aI 0,.nl,.nl,.nl,.nl]] true)
  sb:S'.obj S2.n = some (.cells 71 [sp] true)
  ow:Own S4.n S' z e (rows.map fun v=>[v])
theorem own_cvF {α:Type} {f:α → Value} {n:Nat} {S:Store} {x:AV} {e:Nat} {l:List α} {F:Nat → Bool} (h:Own n S x e (l.map fun a=>[.v (f a)])) (hF:∀ i b m,x = .s i b m → F i = true):Cv (S.frz F) S.n x (aL (fun a=>.v (f a)) l):=by
  rcases h with ⟨rfl,h⟩ | ⟨id,rfl,h1,h2,h3⟩
  · have:l = []:=List.map_eq_nil_iff.1 h
    subst this
    exact .nl
  · refine .s id 0 _ e _ _ (by rw [frz_of h3,hF id _ _ rfl]; rfl) (by simp) (by simp) (fun i c c2 hi hi2=>?_) (fun i c c2 k u u2 hi hi2 hk hk2=>?_)
    · rw [Nat.zero_add] at hi; rw [hi] at hi2; cases hi2; rfl
    · rw [Nat.zero_add] at hi; rw [hi] at hi2; cases hi2
      rw [hk] at hk2; cases hk2
      rw [List.getElem?_map] at hi
      obtain ⟨a,_,rfl⟩:=Option.map_eq_some_iff.1 hi
      cases k with
      | zero=>cases hk; exact .v _
      | succ k=>simp at hk
theorem own_trees {α:Type} {f:α → AV} {n:Nat} {S:Store} {x:AV} {e:Nat} {l:List α} (hf:∀ a ∈ l,Tree (f a)) (h:Own n S x e (l.map fun a=>[f a])) {k:Nat} (hk:k ≤ n):Cv (S.frz (newer k)) S.n x (aL f l):=by
  rcases h with ⟨rfl,h⟩ | ⟨id,rfl,h1,h2,h3⟩
  · have:l = []:=List.map_eq_nil_iff.1 h
    subst this
    exact .nl
  · refine .s id 0 _ e _ _ (by rw [frz_of h3]; have:newer k id = true:=by simp [newer]; omega
                               rw [this]; rfl) (by simp) (by simp) (fun i c c2 hi hi2=>?_) (fun i c c2 k u u2 hi hi2 hk hk2=>?_)
    · rw [Nat.zero_add] at hi; rw [hi] at hi2; cases hi2; rfl
    · rw [Nat.zero_add] at hi; rw [hi] at hi2; cases hi2
      rw [hk] at hk2; cases hk2
      rw [List.getElem?_map] at hi
      obtain ⟨a,ha,rfl⟩:=Option.map_eq_some_iff.1 hi
      cases k with
      | zero=>cases hk; exact hf a (List.mem_of_getElem? ha) _ _
      | succ k=>simp at hk
theorem own_cvn {n:Nat} {S0 S:Store} {x:AV} {e:Nat} {l:List Bool} (_:S0.n ≤ n) (_:n ≤ S.n) (h:Own n S x e (l.map fun a=>[aB a])):Cv (S.frz (newer n)) S.n x (aL aB l) :=
  own_cvF (f:=fun b=>.bool b) h fun i b m e=>by have:=h.lt e; simp [newer]; omega
theorem own_cvb {n id:Nat} {S:Store} {x:AV} {e:Nat} {l:List Bool} (_:n ≤ S.n) (h:Own n S x e (l.map fun a=>[aB a])) (hne:∀ b m,x ≠ .s id b m):Cv (S.frz (newBut n id)) S.n x (aL aB l) :=
  own_cvF (f:=fun b=>.bool b) h fun i b m e=>by
    have:=h.lt e
    have:i ≠ id:=fun q=>hne b m (by rw [e,q])
    simp [newBut,this]; omega
theorem ans35 {c:Ci} (hc:c.ok):Ans Tryz.prog 35 [c.av] (.t [(spaceB c).1.av,aI (spaceB c).2]):=by
  intro S
  refine ACalls.tree (calls35 ?_)
  have hll:=hc.llen
  unfold m35
  have bz:∀ {S:Store} {K:AV → Store → Prop},bld [(0,1),(1,1),(2,1),(3,1),(4,1)] [(.v (.int .i64 0)),.nl,.nl,.nl,.nl] [] S K = K (.a [aI 0,.nl,.nl,.nl,.nl]) S:=bld_of rfl
  refine boxA_of rfl fun S1 k1 n1 o1=>?_
  refine boxA_of rfl fun S2 k2 n2 o2=>?_
  have k2':=k1.trans k2
  have p2:S2.obj S.n = _:=(k2.2 _ (by omega)).trans o1
  rw [ldN_p (n:=8) p2 rfl]
  refine callF_ans (ans65 hc) ?_
  rw [un_not,onB_v]
  refine gd_of (fun h1=>?_) (fun h1=>?_)
  · rw [bz]
    refine stA_of o2 rfl rfl fun S3 n3 o3 f3=>?_
    rw [ldN_p (n:=5) o3 rfl]
    rw [Bool.not_eq_true'] at h1
    refine ⟨_,rfl,k2'.st (by omega) n3 f3,?_⟩
    rw [spaceB,if_pos h1]
    exact cv_t2 cv_sp0 (.v _)
  have h1:c.right = true:=by simpa using h1
  have h1':¬ c.right = false:=by rw [h1]; decide
  obtain ⟨g1,g2,g3⟩:=gr_inp h1
  have hR:=right_c.1 h1
  have hin:=hR.1
  rw [shift_p,ld1_p p2 rfl rfl,shift_p,ld1_p p2 rfl rfl,lenS_pL,bin_add (by omega) (by omega),← g1,bin_gtr,onB_v]
  refine gd_of (fun h2=>?_) (fun h2=>?_)
  · rw [bz]
    refine stA_of o2 rfl rfl fun S3 n3 o3 f3=>?_
    rw [ldN_p (n:=5) o3 rfl]
    refine ⟨_,rfl,k2'.st (by omega) n3 f3,?_⟩
    rw [spaceB,if_neg h1',if_pos (of_decide_eq_true h2)]
    exact cv_t2 cv_sp0 (.v _)
  have h2:¬ 10 < c.gr.inputs:=of_decide_eq_false h2
  obtain ⟨m,hm⟩:=Int.eq_ofNat_of_zero_le g2
  have hm10:m ≤ 10:=by omega
  have hgt:c.gr.inputs.toNat = m:=by rw [hm]; rfl
  have hres:spaceB c = (spOf c,0):=by rw [spaceB,if_neg h1',if_neg h2]
  rw [hres]
  have hN1:2 ^ m ≤ 1024:=Nat.pow_le_pow_right (by decide) (show m ≤ 10 by omega)
  have hpow:((2:Int) ^ m) = ((2 ^ m:Nat):Int):=by rw [Int.natCast_pow]; rfl
  rw [show c.gr.inputs = (m:Int) from hm,bld_of (cs:=[aI m,.nl,.nl,.nl,.nl]) rfl]
  refine boxA_of rfl fun S3 k3 n3 o3=>?_
  refine stA_of o3 rfl rfl fun S4 n4 o4 f4=>?_
  have k4:Keep S S4:=(k2'.trans k3).st (by omega) n4 f4
  have fr4:Fv c S S1 S2 S4 S4 m .nl .nl 0:=⟨k4,Nat.le_refl _,(f4 _ (by omega)).trans ((k3.2 _ (by omega)).trans p2),(f4 _ (by omega)).trans ((k3.2 _ (by omega)).trans o2),o4,Own.nl _ _ _,Own.nl _ _ _,(fun _ _ _ _ _ e=>by cases e),(fun _ _ _ _ _ e=>by cases e)⟩
  have hvalid:validOf c = (List.range (2 ^ m)).map fun s:Nat=>c.cons.all (isB c s):=by
    rw [validOf,hgt]
    apply List.map_congr_left
    intro s hs
    exact (valid_eq h1 (by omega) (by rw [hgt]; exact List.mem_range.1 hs) hR.2.2.2.2.2.2.2.2.2.2.1).symm
  have hvl:(validOf c).length = 2 ^ m:=by rw [hvalid]; simp
  have hinit:(spOf c).initial = (List.range (2 ^ m)).map fun s:Nat=>(validOf c).getD s false && begB c s:=by simp only [spOf,hgt]
  have hil:(spOf c).initial.length = 2 ^ m:=by rw [hinit]; simp
  refine loop35_0 (fun y S'=>∃ (i:Nat) (zv zi:AV),y = aI i ∧ i ≤ 2 ^ m ∧ Fv c S S1 S2 S4 S' m zv zi i)
    (fun y _=>2 ^ m - ((intA y).getD 0).toNat) ⟨0,.nl,.nl,rfl,Nat.zero_le _,fr4⟩ ?_
  rintro _ S5 ⟨i,zv,zi,rfl,hi,fr⟩ KE hKE
  have hk4:=k4.1
  have h5n:=fr.n
  unfold b35_0
  rw [bin_shl1 (by omega),hpow,bin_lss,onB_v]
  refine gd_of (fun hlt=>?_) (fun hge=>?_)
  · have hlt:i < 2 ^ m:=by
      have:((i:Int) < ((2 ^ m:Nat):Int)):=of_decide_eq_true hlt
      omega
    have hadd:∀ K:AV → Store → Prop,∀ S,bin .add 0 (.v (.int .i64 (i:Int))) (.v (.int .i64 1)) S K = K (aI (i + 1:Nat)) S:=fun K S=>bin_add (by omega) (by omega) 0
    have hv:(validOf c)[i]? = some (c.cons.all (isB c i)):=by rw [hvalid]; simp [hlt]
    have hvg:(validOf c).getD i false = c.cons.all (isB c i):=by rw [List.getD_eq_getElem?_getD,hv]; rfl
    have hi2:(spOf c).initial[i]? = some (c.cons.all (isB c i) && begB c i):=by
      rw [hinit,List.getElem?_map,List.getElem?_range hlt]
      show some ((validOf c).getD i false && begB c i) = _
      rw [hvg]
    rw [ldN_p (n:=8) fr.cb rfl,shift_p,ld1_p fr.cb rfl rfl]
    refine callF_ans (ans66 hc (s:=i) hc.cons.1 hc.cons.2) ?_
    rw [shift_p,ld1_p fr.sb rfl rfl]
    refine bsl1 rfl (fun _ h=>by cases h) ?_
    refine fr.wv.app (by omega) (c:=[aB (c.cons.all (isB c i))]) rfl (by rw [List.length_map,List.length_take]; omega) (fun z6 S6 w6 b6 hz6=>?_) rfl
    obtain ⟨m6,hm6⟩:=hz6
    have n6:=b6.1
    have k6:∀ x,x < S4.n → S6.obj x = S5.obj x:=fun x hx=>b6.2 x (by omega) (fun b m e=>by have:=fr.wv.lt e; omega)
    rw [shift_p]
    refine stF_of ((k6 S2.n (by omega)).trans fr.sb) (by simp) (by rw [hm6]; rfl) fun S7 n7 o7 f7=>?_
    have w7:Own S4.n S7 z6 4 _:=w6.st (id:=S2.n) (fun b m e=>by rw [hm6] at e; injection e; omega) n7 f7
    have wi7:Own S4.n S7 zi 4 _:=(fr.wi.but b6 fr.ap).st (id:=S2.n) (fun b m e=>by have:=fr.wi.lt e; omega) n7 f7
    have ap7:Apart zi z6:=fun x b m b' m' e e'=>by
      rw [hm6] at e'; injection e' with e1
      have:=fr.wi.lt e
      omega
    have c7:=(f7 S.n (by omega)).trans ((k6 S.n (by omega)).trans fr.cb)
    refine ⟨_,fun T hT=>by rw [shift_p]; exact ⟨rfl,rfl⟩,zi,fun T hT=>by rw [ld1_p ((hT.2 _ (by omega)).trans o7) rfl rfl]; exact ⟨rfl,rfl⟩,?_⟩
    have step:∀ b,(c.cons.all (isB c i) && begB c i) = b → appS 4 1 1 zi (.l [[aB b]]) S7 fun v T=>∃ q50:AV,(∀ T':Store,Keep T T' → shift (.p S2.n 0 0) 2 T' fun v51 S=>v51 = q50 ∧ S = T') ∧ stN 1 q50 v T fun _ T=>bin .add 0 (aI i) (.v (.int .i64 1)) T fun v' T=>KE 138 (env35_0 (.p S.n 0 0) (.p S1.n 0 0) (aI m) (.p S2.n 0 0) v') T:=fun b hb=>by
      refine wi7.app (by omega) (c:=[aB b]) rfl (by rw [List.length_map,List.length_take]; omega) (fun z8 S8 w8 b8 hz8=>?_) rfl
      obtain ⟨m8,hm8⟩:=hz8
      have n8:=b8.1
      have k8:∀ x,x < S4.n → S8.obj x = S7.obj x:=fun x hx=>b8.2 x (by omega) (fun b m e=>by have:=wi7.lt e; omega)
      refine ⟨_,fun T hT=>by rw [shift_p]; exact ⟨rfl,rfl⟩,?_⟩
      refine stF_of ((k8 S2.n (by omega)).trans o7) (by simp) (by rw [hm8]; rfl) fun S9 n9 o9 f9=>?_
      rw [hadd]
      have old:∀ x,x < S4.n → x ≠ S2.n → S9.obj x = S5.obj x:=fun x hx hne=>(f9 x hne).trans ((k8 x hx).trans ((f7 x hne).trans (k6 x hx)))
      refine hKE _ _ ⟨i + 1,z6,z8,rfl,hlt,⟨by have:=fr.keep.1; omega,fun x hx=>(old x (by omega) (by omega)).trans (fr.keep.2 x hx)⟩,by omega,(old _ (by omega) (by omega)).trans fr.cb,(old _ (by omega) (by omega)).trans fr.ob,o9,?_,?_,fun x b m b' m' e e'=>?_,fun x b m b' m' e e'=>?_⟩ (by simp [intA]; omega)
      · rw [List.take_add_one,hv,List.map_append]
        exact (w7.but b8 ap7).st (id:=S2.n) (fun b m e=>by rw [hm6] at e; injection e; omega) n9 f9
      · rw [List.take_add_one,hi2,hb,List.map_append]
        exact w8.st (id:=S2.n) (fun b m e=>by rw [hm8] at e; injection e; omega) n9 f9
      · rw [hm8] at e'; injection e' with e1
        have:=w7.lt e
        omega
      · rw [hm8] at e; injection e with e1
        have:=w7.lt e'
        omega
    rw [onB_v]
    refine gd_of (fun h3=>?_) (fun h3=>?_)
    · refine ⟨_,fun T hT=>by rw [ldN_p (n:=8) ((hT.2 _ (by omega)).trans c7) rfl]; exact ⟨rfl,rfl⟩,_,fun T hT=>callF_ans (ans67 hll hin.1 (by omega) (by omega)) ⟨rfl,rfl⟩,_,fun T hT=>⟨rfl,rfl⟩,_,fun T hT=>bsl1 rfl (fun _ h=>by cases h) ⟨rfl,rfl⟩,?_⟩
      exact step _ (by rw [h3,Bool.true_and])
    · refine ⟨_,fun T hT=>⟨rfl,rfl⟩,_,fun T hT=>bsl1 rfl (fun _ h=>by cases h) ⟨rfl,rfl⟩,?_⟩
      exact step _ (by rw [h3,Bool.false_and])
  · have hge:i = 2 ^ m:=by
      have:¬ ((i:Int) < ((2 ^ m:Nat):Int)):=of_decide_eq_false hge
      omega
    subst hge
    have hfl:c.fair.length ≤ 2000:=hR.2.2.2.2.2.1
    have hspf:(spOf c).fair = c.fair.map fun l=>(List.range (2 ^ m)).map fun s:Nat=>(validOf c).getD s false && isB c s l:=by
      simp only [spOf,hgt]
      apply List.map_congr_left
      intro l hl
      apply List.map_congr_left
      intro s hs
      rw [isB_eq h1 (by omega) (by rw [hgt]; exact List.mem_range.1 hs) (List.all_eq_true.1 hR.2.2.2.2.2.2.2.2.2.2.2.1 l hl)]
    have hfln:(spOf c).fair.length = c.fair.length:=by rw [hspf,List.length_map]
    have wv:=fr.wv
    have wi:=fr.wi
    rw [List.take_of_length_le (by omega)] at wv wi
    refine loopw35_1 (fun y1 y2 y4 y5 y8 S'=>y1 = .p S.n 0 0 ∧ y2 = .p S1.n 0 0 ∧ y4 = aI m ∧ y5 = .p S2.n 0 0 ∧ ∃ (k:Nat) (zf:AV),y8 = aI k ∧ k ≤ c.fair.length ∧ Ff c S S1 S2 S4 S' [aI m,aL aB (validOf c),aL aB (spOf c).initial,.nl,zf] zf 53 (((spOf c).fair.take k).map fun v=>aL aB v))
      (fun _ _ _ _ y _=>c.fair.length - ((intA y).getD 0).toNat) ⟨_,_,_,_,_,_,Wk.row (newer S4.n) fr.sb (by simp [newer]; omega) (es2:=[[aI m,aL aB (validOf c),aL aB (spOf c).initial,.nl,.nl]]) ⟨rfl,fun i c1 c2 e1 e2=>?_⟩,rfl,rfl,rfl,rfl,0,.nl,rfl,Nat.zero_le _,?_⟩ ?_
    · match i with
      | 0 =>
        cases e1; cases e2
        refine ⟨rfl,fun k u u2 hk hk2=>?_⟩
        match k with
        | 0=>cases hk; cases hk2; exact .v _
        | 1=>cases hk; cases hk2; exact (own_cvn hk4 h5n wv)
        | 2=>cases hk; cases hk2; exact (own_cvn hk4 h5n wi)
        | 3 | 4=>cases hk; cases hk2; exact .nl'
        | k + 5=>simp at hk
      | i + 1=>simp at e1
    · have hlow:∀ x,x < S4.n → x ≠ S2.n → (S5.tell (newer S4.n) S2.n (.cells 71 [[aI m,aL aB (validOf c),aL aB (spOf c).initial,.nl,.nl]] true)).obj x = S5.obj x:=fun x hx hne=>tell_ne hne (by simp [newer]; omega)
      refine ⟨⟨by rw [tell_n]; exact fr.keep.1,fun x hx=>(hlow x (by omega) (by omega)).trans (fr.keep.2 x hx)⟩,by rw [tell_n]; exact fr.n,(hlow _ (by omega) (by omega)).trans fr.cb,(hlow _ (by omega) (by omega)).trans fr.ob,tell_id,Own.nl _ _ _⟩
    clear wv wi fr h5n hi S5 KE hKE
    rintro _ _ _ _ _ S5 ⟨rfl,rfl,rfl,rfl,k,zf,rfl,hk,fr⟩ KE hKE
    unfold b35_1
    have h5n:=fr.n
    rw [shift_p,ld1_p fr.cb rfl rfl,lenS_aL,bin_lss,onB_v]
    refine gd_of (fun hlt=>?_) (fun hge=>?_)
    · have hlt:k < c.fair.length:=by simpa using hlt
      have hlf:k < (spOf c).fair.length:=by omega
      have hml:=List.getElem_mem hlt
      have hrow:(spOf c).fair[k] = (List.range (2 ^ m)).map fun s:Nat=>(validOf c).getD s false && isB c s c.fair[k]:=by simp only [hspf,List.getElem_map]
      refine loop35_2 (fun y9 y10 S'=>∃ i:Nat,y10 = aI i ∧ i ≤ 2 ^ m ∧ Ff c S S1 S2 S4 S' [aI m,aL aB (validOf c),aL aB (spOf c).initial,.nl,zf] zf 53 (((spOf c).fair.take k).map fun v=>aL aB v) ∧
          Own S4.n S' y9 4 (((spOf c).fair[k].take i).map fun b=>[aB b]) ∧ Apart y9 zf)
        (fun _ y _=>2 ^ m - ((intA y).getD 0).toNat) ⟨0,rfl,Nat.zero_le _,fr,Own.nl _ _ _,fun _ _ _ _ _ e=>by cases e⟩ ?_
      clear fr h5n S5
      rintro y9 _ S5 ⟨i,rfl,hi,fr,w9,ap9⟩ KE2 hKE2
      unfold b35_2
      have h5n:=fr.n
      rw [bin_shl1 (by omega),hpow,bin_lss,onB_v]
      refine gd_of (fun hl2=>?_) (fun hg2=>?_)
      · have hl2:i < 2 ^ m:=by
          have:((i:Int) < ((2 ^ m:Nat):Int)):=of_decide_eq_true hl2
          omega
        have kT:∀ {T:Store} {x:Nat} {o:AObj},Keep S5 T → x < S5.n → S5.obj x = some o → T.obj x = some o:=fun hT hx ho=>(hT.2 _ hx).trans ho
        have hget:(spOf c).fair[k][i]? = some ((validOf c).getD i false && isB c i c.fair[k]):=by rw [hrow,List.getElem?_map,List.getElem?_range hl2]; rfl
        have hvi:(validOf c)[i]'(by omega) = (validOf c).getD i false:=by simp [List.getD_eq_getElem?_getD,hvl,hl2]
        have step:∀ b,((validOf c).getD i false && isB c i c.fair[k]) = b → appS 4 1 1 y9 (.l [[aB b]]) S5 fun v T=>bin .add 0 (aI i) (.v (.int .i64 1)) T fun v' T=>KE2 138 (env35_2 (.p S.n 0 0) (.p S1.n 0 0) (aI m) (.p S2.n 0 0) (aI k) v v') T:=fun b hb=>by
          refine w9.app (by omega) (c:=[aB b]) rfl (by rw [List.length_map,List.length_take]; omega) (fun z8 S8 w8 b8 hz8=>?_) rfl
          obtain ⟨m8,hm8⟩:=hz8
          have n8:=b8.1
          have k8:∀ x,x < S4.n → S8.obj x = S5.obj x:=fun x hx=>b8.2 x (by omega) (fun b m e=>by have:=w9.lt e; omega)
          rw [bin_add (by omega) (by omega)]
          refine hKE2 _ _ _ ⟨i + 1,rfl,hl2,⟨⟨by have:=fr.keep.1; omega,fun x hx=>(k8 x (by omega)).trans (fr.keep.2 x hx)⟩,by omega,(k8 _ (by omega)).trans fr.cb,(k8 _ (by omega)).trans fr.ob,(k8 _ (by omega)).trans fr.sb,fr.ow.but b8 ap9⟩,?_,fun x b m b' m' e e'=>?_⟩ (by simp [intA]; omega)
          · rw [List.take_add_one,hget,hb,List.map_append]
            exact w8
          · rw [hm8] at e; injection e with e1
            have:=fr.ow.lt e'
            omega
        refine ⟨_,fun T hT=>by rw [shift_p]; exact ⟨rfl,rfl⟩,_,fun T hT=>by rw [ld1_p (kT hT (by omega) fr.sb) rfl rfl]; exact ⟨rfl,rfl⟩,_,fun T hT=>by rw [ixS_aL (by omega)]; exact ⟨rfl,rfl⟩,_,fun T hT=>by rw [ld1_q]; exact ⟨rfl,rfl⟩,?_⟩
        rw [hvi,onB_v]
        refine gd_of (fun h3=>?_) (fun h3=>?_)
        · refine ⟨_,fun T hT=>by rw [ldN_p (n:=8) (kT hT (by omega) fr.cb) rfl]; exact ⟨rfl,rfl⟩,_,fun T hT=>by rw [shift_p]; exact ⟨rfl,rfl⟩,_,fun T hT=>by rw [ld1_p (kT hT (by omega) fr.cb) rfl rfl]; exact ⟨rfl,rfl⟩,_,fun T hT=>by rw [ixS_aL hlt]; exact ⟨rfl,rfl⟩,_,fun T hT=>by rw [ld1_q]; exact ⟨rfl,rfl⟩,
            _,fun T hT=>callF_ans (ans68 hc (hc.fair.1 _ hml)) ⟨rfl,rfl⟩,_,fun T hT=>⟨rfl,rfl⟩,_,fun T hT=>bsl1 rfl (fun _ h=>by cases h) ⟨rfl,rfl⟩,?_⟩
          exact step _ (by rw [h3,Bool.true_and])
        · refine ⟨_,fun T hT=>⟨rfl,rfl⟩,_,fun T hT=>bsl1 rfl (fun _ h=>by cases h) ⟨rfl,rfl⟩,?_⟩
          exact step _ (by rw [h3,Bool.false_and])
      · have hge:i = 2 ^ m:=by
          have:¬ ((i:Int) < ((2 ^ m:Nat):Int)):=of_decide_eq_false hg2
          omega
        subst hge
        rw [List.take_of_length_le (by rw [hrow]; simp)] at w9
        rw [shift_p,ld1_p fr.sb rfl rfl]
        have h9one:y9.one = true:=by rcases w9 with ⟨rfl,_⟩ | ⟨id,rfl,_⟩ <;> rfl
        have h9A:∀ cs,y9 ≠ .a cs:=by rcases w9 with ⟨rfl,_⟩ | ⟨id,rfl,_⟩ <;> (intro cs h; cases h)
        refine bsl1 h9one h9A ?_
        refine fr.ow.app (by omega) (c:=[y9]) rfl (by rw [List.length_map,List.length_map,List.length_take]; omega) (fun z8 S8 w8 b8 hz8=>?_) rfl
        obtain ⟨m8,hm8⟩:=hz8
        have n8:=b8.1
        have k8:∀ x,x < S4.n → S8.obj x = S5.obj x:=fun x hx=>b8.2 x (by omega) (fun b m e=>by have:=fr.ow.lt e; omega)
        have w98:Own S4.n S8 y9 4 _:=w9.but b8 (fun x b m b' m' e e'=>ap9 x b' m' b m e' e)
        rw [shift_p]
        refine stF_of ((k8 S2.n (by omega)).trans fr.sb) (by simp) (by rw [hm8]; rfl) fun S9 n9 o9 f9=>?_
        rw [bin_add (by omega) (by omega)]
        have w99:Own S4.n S9 y9 4 _:=w98.st (id:=S2.n) (fun b m e=>by have:=w98.lt e; omega) n9 f9
        have w89:=w8.st (id:=S2.n) (fun b m e=>by rw [hm8] at e; injection e; omega) n9 f9
        have hne9:∀ b m',y9 ≠ .s S5.n b m':=fun b m' e=>by have:=w9.lt e; omega
        obtain ⟨id,e8,h8a,h8b,h8o⟩:=w89.ix (i:=0) (by simp)
        have hid:id = S5.n:=by rw [hm8] at e8; injection e8 with e; exact e.symm
        subst hid
        have htk:(spOf c).fair.take (k + 1) = (spOf c).fair.take k ++ [(spOf c).fair[k]]:=by rw [List.take_add_one,List.getElem?_eq_getElem hlf]; rfl
        refine hKE _ _ _ _ _ S9 _ _ _ _ _ _ (Wk.row (newBut S4.n S5.n) h8o (by simp [newBut]) (es2:=(((spOf c).fair.take (k + 1)).map fun v=>aL aB v).map fun v=>[v]) ?_) ⟨rfl,rfl,rfl,rfl,k + 1,z8,rfl,hlt,?_⟩ (by simp [intA]; omega)
        · rw [htk,List.map_append,List.map_append]
          refine RowsCv.snoc (fun r hr u hu=>?_) rfl (fun k' u u2 e1 e2=>?_)
          · simp only [List.mem_map] at hr
            obtain ⟨x,⟨v,_,rfl⟩,rfl⟩:=hr
            obtain rfl:=List.mem_singleton.1 hu
            exact treeB _
          · match k' with
            | 0=>cases e1; cases e2; exact own_cvb (by omega) w99 hne9
            | k' + 1=>simp at e1
        · have old:∀ x,x < S4.n → x ≠ S2.n → (S9.tell (newBut S4.n S5.n) S5.n (.cells 53 ((((spOf c).fair.take (k + 1)).map fun v=>aL aB v).map fun v=>[v]) true)).obj x = S5.obj x:=fun x hx hne=>(tell_ne (by omega) (by simp [newBut]; omega)).trans ((f9 x hne).trans (k8 x hx))
          refine ⟨⟨by rw [tell_n]; have:=fr.keep.1; omega,fun x hx=>(old x (by omega) (by omega)).trans (fr.keep.2 x hx)⟩,by rw [tell_n]; omega,(old _ (by omega) (by omega)).trans fr.cb,(old _ (by omega) (by omega)).trans fr.ob,(tell_ne (by omega) (by simp [newBut]; omega)).trans o9,?_⟩
          refine .inr ⟨S5.n,?_,by omega,by rw [tell_n]; omega,tell_id⟩
          rw [e8,htk]
          simp
          omega
    · have hge:k = c.fair.length:=by
        have:¬ ((k:Int) < (c.fair.length:Int)):=of_decide_eq_false hge
        omega
      subst hge
      have wf:=fr.ow
      rw [List.take_of_length_le (by omega)] at wf
      have hspn:(spOf c).next = (List.range (2 ^ m)).map fun s:Nat=>if (validOf c).getD s false = true then nextL c ((valsOf c).getD s []) (validOf c) else []:=by simp only [spOf,hgt]
      have hnl:(spOf c).next.length = 2 ^ m:=by rw [hspn]; simp
      refine loopw35_3 (fun y1 y2 y4 y5 y11 S'=>y1 = .p S.n 0 0 ∧ y2 = .p S1.n 0 0 ∧ y4 = aI m ∧ y5 = .p S2.n 0 0 ∧ ∃ (k:Nat) (zn:AV),y11 = aI k ∧ k ≤ 2 ^ m ∧ Ff c S S1 S2 S4 S' [aI m,aL aB (validOf c),aL aB (spOf c).initial,zn,aL (aL aB) (spOf c).fair] zn 34 (((spOf c).next.take k).map fun v=>aL aI v))
        (fun _ _ _ _ y _=>2 ^ m - ((intA y).getD 0).toNat) ⟨_,_,_,_,_,_,Wk.row (newer S4.n) fr.sb (by simp [newer]; omega) (es2:=[[aI m,aL aB (validOf c),aL aB (spOf c).initial,.nl,aL (aL aB) (spOf c).fair]]) ⟨rfl,fun i c1 c2 e1 e2=>?_⟩,rfl,rfl,rfl,rfl,0,.nl,rfl,Nat.zero_le _,?_⟩ ?_
      · match i with
        | 0 =>
          cases e1; cases e2
          refine ⟨rfl,fun k u u2 hk hk2=>?_⟩
          match k with
          | 0=>cases hk; cases hk2; exact .v _
          | 1=>cases hk; cases hk2; exact treeB _ _ _
          | 2=>cases hk; cases hk2; exact treeB _ _ _
          | 3=>cases hk; cases hk2; exact .nl'
          | 4=>cases hk; cases hk2; exact own_trees (fun _ _=>treeB _) (by rw [List.map_map] at wf; exact wf) (by omega)
          | k + 5=>simp at hk
        | i + 1=>simp at e1
      · have hlow:∀ x,x < S4.n → x ≠ S2.n → (S5.tell (newer S4.n) S2.n (.cells 71 [[aI m,aL aB (validOf c),aL aB (spOf c).initial,.nl,aL (aL aB) (spOf c).fair]] true)).obj x = S5.obj x:=fun x hx hne=>tell_ne hne (by simp [newer]; omega)
        refine ⟨⟨by rw [tell_n]; exact fr.keep.1,fun x hx=>(hlow x (by omega) (by omega)).trans (fr.keep.2 x hx)⟩,by rw [tell_n]; exact fr.n,(hlow _ (by omega) (by omega)).trans fr.cb,(hlow _ (by omega) (by omega)).trans fr.ob,tell_id,Own.nl _ _ _⟩
      clear wf fr h5n hk S5 KE hKE zf
      rintro _ _ _ _ _ S5 ⟨rfl,rfl,rfl,rfl,k,zn,rfl,hk,fr⟩ KE hKE
      unfold b35_3
      have h5n:=fr.n
      rw [bin_shl1 (by omega),hpow,bin_lss,onB_v]
      refine gd_of (fun hlt=>?_) (fun hge=>?_)
      · have hlt:k < 2 ^ m:=by
          have:((k:Int) < ((2 ^ m:Nat):Int)):=of_decide_eq_true hlt
          omega
        have hlf:k < (spOf c).next.length:=by omega
        have hrow:(spOf c).next[k] = if (validOf c).getD k false = true then nextL c ((valsOf c).getD k []) (validOf c) else []:=by simp only [hspn,List.getElem_map,List.getElem_range]
        have htk:(spOf c).next.take (k + 1) = (spOf c).next.take k ++ [(spOf c).next[k]]:=by rw [List.take_add_one,List.getElem?_eq_getElem hlf]; rfl
        rw [ldN_p (n:=8) fr.cb rfl]
        refine callF_ans (ans59 hc k) ?_
        rw [afterB_eq h1 (by omega) (by rw [hgt]; exact hlt)]
        obtain ⟨a0,a1⟩:=afterV_le c ((valsOf c).getD k []) c.latches.length
        obtain ⟨aq,aq1,aq2⟩:=afterV_div c ((valsOf c).getD k []) c.latches.length
        have hml:c.inputs.toNat + c.latches.length = m:=by omega
        have hin10:c.inputs.toNat ≤ 10:=by omega
        generalize hA:afterV c ((valsOf c).getD k []) c.latches.length = a at *
        have hbnd:∀ x,x < 2 ^ c.inputs.toNat → a.toNat + x < 2 ^ m:=fun x hx=>by
          rw [aq2]
          have h1:2 ^ c.inputs.toNat * aq + x < 2 ^ c.inputs.toNat * (aq + 1):=by rw [Nat.mul_add]; omega
          have h2:2 ^ c.inputs.toNat * (aq + 1) ≤ 2 ^ c.inputs.toNat * 2 ^ c.latches.length:=Nat.mul_le_mul_left _ aq1
          rw [← Nat.pow_add,hml] at h2
          have:(((2 ^ c.inputs.toNat * aq:Nat):Int)).toNat = 2 ^ c.inputs.toNat * aq:=Int.toNat_natCast _
          omega
        let nt:Nat → List Int:=fun x=>((List.range x).filter fun x=>(validOf c).getD (a.toNat + x) false).map fun x:Nat=>a + (x:Int)
        have nts:∀ x,nt (x + 1) = if (validOf c).getD (a.toNat + x) false = true then nt x ++ [a + (x:Int)] else nt x:=fun x=>by
          simp only [nt,List.range_succ,List.filter_append,List.map_append]
          by_cases hq:(validOf c).getD (a.toNat + x) false = true
          · rw [if_pos hq,List.filter_cons,if_pos hq]; rfl
          · rw [if_neg hq,List.filter_cons,if_neg hq,List.filter_nil,List.map_nil,List.append_nil]
        have ntl:∀ x,(nt x).length ≤ x:=fun x=>by
          simp only [nt,List.length_map]
          have:=List.length_filter_le (fun x=>(validOf c).getD (a.toNat + x) false) (List.range x)
          simpa using this
        have hN:nextL c ((valsOf c).getD k []) (validOf c) = nt (2 ^ c.inputs.toNat):=by simp only [nextL,hA,nt]
        have hp2:2 ^ c.inputs.toNat ≤ 1024:=Nat.pow_le_pow_right (by decide) hin10
        have hpi:((2:Int) ^ c.inputs.toNat) = ((2 ^ c.inputs.toNat:Nat):Int):=by rw [Int.natCast_pow]; rfl
        have hci:aI c.inputs = aI (c.inputs.toNat:Int):=by rw [Int.toNat_of_nonneg hin.1]
        refine loop35_4 (fun y12 y14 S'=>∃ x:Nat,y14 = aI x ∧ x ≤ 2 ^ c.inputs.toNat ∧ (0 < x → (validOf c).getD k false = true) ∧ Ff c S S1 S2 S4 S' [aI m,aL aB (validOf c),aL aB (spOf c).initial,zn,aL (aL aB) (spOf c).fair] zn 34 (((spOf c).next.take k).map fun v=>aL aI v) ∧
            Own S4.n S' y12 3 ((nt x).map fun b=>[aI b]) ∧ Apart y12 zn)
          (fun _ y _=>2 ^ c.inputs.toNat - ((intA y).getD 0).toNat) ⟨0,rfl,Nat.zero_le _,fun h=>by omega,fr,Own.nl _ _ _,fun _ _ _ _ _ e=>by cases e⟩ ?_
        clear fr h5n S5
        rintro y12 _ S5 ⟨x,rfl,hx,hx0,fr,w9,ap9⟩ KE4 hKE4
        have h5n:=fr.n
        have fin:nt x = (spOf c).next[k] → shift (.p S2.n 0 0) 3 S5 fun v137 T=>ld1 v137 T fun v138 T=>bslN 34 1 1 [.nl] [(0,y12)] T fun v139 T=>appS 34 1 24 v138 v139 T fun v140 T=>shift (.p S2.n 0 0) 3 T fun v141 T=>stN 1 v141 v140 T fun v142 T=>bin .add 0 (aI k) (.v (.int .i64 1)) T fun v143 T=>KE 138 (env35_3 (.p S.n 0 0) (.p S1.n 0 0) (aI m) (.p S2.n 0 0) v143) T:=fun hxr=>by
          rw [hxr] at w9
          rw [shift_p,ld1_p fr.sb rfl rfl]
          have h9one:y12.one = true:=by rcases w9 with ⟨rfl,_⟩ | ⟨id,rfl,_⟩ <;> rfl
          have h9A:∀ cs,y12 ≠ .a cs:=by rcases w9 with ⟨rfl,_⟩ | ⟨id,rfl,_⟩ <;> (intro cs h; cases h)
          refine bsl1 h9one h9A ?_
          refine fr.ow.app (by omega) (c:=[y12]) rfl (by rw [List.length_map,List.length_map,List.length_take]; omega) (fun z8 S8 w8 b8 hz8=>?_) rfl
          obtain ⟨m8,hm8⟩:=hz8
          have n8:=b8.1
          have k8:∀ x,x < S4.n → S8.obj x = S5.obj x:=fun x hx=>b8.2 x (by omega) (fun b m e=>by have:=fr.ow.lt e; omega)
          have w98:Own S4.n S8 y12 3 _:=w9.but b8 (fun x b m b' m' e e'=>ap9 x b' m' b m e' e)
          rw [shift_p]
          refine stF_of ((k8 S2.n (by omega)).trans fr.sb) (by simp) (by rw [hm8]; rfl) fun S9 n9 o9 f9=>?_
          rw [bin_add (by omega) (by omega)]
          have w99:Own S4.n S9 y12 3 _:=w98.st (id:=S2.n) (fun b m e=>by have:=w98.lt e; omega) n9 f9
          have w89:=w8.st (id:=S2.n) (fun b m e=>by rw [hm8] at e; injection e; omega) n9 f9
          have hne9:∀ b m',y12 ≠ .s S5.n b m':=fun b m' e=>by have:=w9.lt e; omega
          obtain ⟨id,e8,h8a,h8b,h8o⟩:=w89.ix (i:=0) (by simp)
          have hid:id = S5.n:=by rw [hm8] at e8; injection e8 with e; exact e.symm
          subst hid
          refine hKE _ _ _ _ _ S9 _ _ _ _ _ _ (Wk.row (newBut S4.n S5.n) h8o (by simp [newBut]) (es2:=(((spOf c).next.take (k + 1)).map fun v=>aL aI v).map fun v=>[v]) ?_) ⟨rfl,rfl,rfl,rfl,k + 1,z8,rfl,hlt,?_⟩ (by simp [intA]; omega)
          · rw [htk,List.map_append,List.map_append]
            refine RowsCv.snoc (fun r hr u hu=>?_) rfl (fun k' u u2 e1 e2=>?_)
            · simp only [List.mem_map] at hr
              obtain ⟨x,⟨v,_,rfl⟩,rfl⟩:=hr
              obtain rfl:=List.mem_singleton.1 hu
              exact treeI _
            · match k' with
              | 0 =>
                cases e1; cases e2
                exact own_cvF (f:=fun i=>.int .i64 i) w99 fun i b m e=>by
                  have:=w99.lt e
                  have:i ≠ S5.n:=fun q=>hne9 b m (by rw [e,q])
                  simp [newBut,this]; omega
              | k' + 1=>simp at e1
          · have old:∀ x,x < S4.n → x ≠ S2.n → (S9.tell (newBut S4.n S5.n) S5.n (.cells 34 ((((spOf c).next.take (k + 1)).map fun v=>aL aI v).map fun v=>[v]) true)).obj x = S5.obj x:=fun x hx hne=>(tell_ne (by omega) (by simp [newBut]; omega)).trans ((f9 x hne).trans (k8 x hx))
            refine ⟨⟨by rw [tell_n]; have:=fr.keep.1; omega,fun x hx=>(old x (by omega) (by omega)).trans (fr.keep.2 x hx)⟩,by rw [tell_n]; omega,(old _ (by omega) (by omega)).trans fr.cb,(old _ (by omega) (by omega)).trans fr.ob,(tell_ne (by omega) (by simp [newBut]; omega)).trans o9,?_⟩
            refine .inr ⟨S5.n,?_,by omega,by rw [tell_n]; omega,tell_id⟩
            rw [e8,htk]
            simp
            omega
        unfold b35_4
        rw [shift_p,ld1_p fr.cb rfl rfl,hci,bin_shl1 (by omega),hpi,bin_lss,onB_v]
        have hvk:(validOf c)[k]'(by omega) = (validOf c).getD k false:=by simp [List.getD_eq_getElem?_getD,hvl,hlt]
        refine gd_of (fun hl2=>?_) (fun hg2=>?_)
        · have hl2:x < 2 ^ c.inputs.toNat:=by
            have:((x:Int) < ((2 ^ c.inputs.toNat:Nat):Int)):=of_decide_eq_true hl2
            omega
          rw [shift_p,ld1_p fr.sb rfl rfl,ixS_aL (by omega),ld1_q,hvk,onB_v]
          refine gd_of (fun h3=>?_) (fun h3=>?_)
          · have hb:=hbnd x hl2
            have hax:a + (x:Int) = ((a.toNat + x:Nat):Int):=by omega
            have hvx:(validOf c)[a.toNat + x]'(by omega) = (validOf c).getD (a.toNat + x) false:=by simp [List.getD_eq_getElem?_getD,hvl,hb]
            rw [shift_p,ld1_p fr.sb rfl rfl,bin_add (by omega) (by omega),hax,ixS_aL (by omega),ld1_q,hvx,onB_v]
            refine gd_of (fun h4=>?_) (fun h4=>?_)
            · rw [bin_add (by omega) (by omega)]
              refine bsl1 rfl (fun _ h=>by cases h) ?_
              refine w9.app (by omega) (c:=[aI (a + (x:Int))]) rfl (by have:=ntl x; rw [List.length_map]; omega) (fun z8 S8 w8 b8 hz8=>?_) rfl
              obtain ⟨m8,hm8⟩:=hz8
              have n8:=b8.1
              have k8:∀ x,x < S4.n → S8.obj x = S5.obj x:=fun x hx=>b8.2 x (by omega) (fun b m e=>by have:=w9.lt e; omega)
              rw [bin_add (by omega) (by omega)]
              refine hKE4 _ _ _ ⟨x + 1,rfl,hl2,fun _=>h3,⟨⟨by have:=fr.keep.1; omega,fun x hx=>(k8 x (by omega)).trans (fr.keep.2 x hx)⟩,by omega,(k8 _ (by omega)).trans fr.cb,(k8 _ (by omega)).trans fr.ob,(k8 _ (by omega)).trans fr.sb,fr.ow.but b8 ap9⟩,?_,fun x b m b' m' e e'=>?_⟩ (by simp [intA]; omega)
              · rw [nts,if_pos h4,List.map_append]
                exact w8
              · rw [hm8] at e; injection e with e1
                have:=fr.ow.lt e'
                omega
            · rw [bin_add (by omega) (by omega)]
              refine hKE4 _ _ _ ⟨x + 1,rfl,hl2,fun _=>h3,fr,?_,ap9⟩ (by simp [intA]; omega)
              rw [nts,if_neg (by rw [h4]; decide)]
              exact w9
          · refine fin ?_
            have:x = 0:=by
              rcases Nat.eq_zero_or_pos x with h | h
              · exact h
              · rw [hx0 h] at h3; cases h3
            subst this
            rw [hrow,h3,if_neg (by decide)]
            rfl
        · have hge:x = 2 ^ c.inputs.toNat:=by
            have:¬ ((x:Int) < ((2 ^ c.inputs.toNat:Nat):Int)):=of_decide_eq_false hg2
            omega
          refine fin ?_
          have hpos:0 < 2 ^ c.inputs.toNat:=Nat.two_pow_pos _
          rw [hrow,hx0 (by omega),if_pos rfl,hN,hge]
      · have hge:k = 2 ^ m:=by
          have:¬ ((k:Int) < ((2 ^ m:Nat):Int)):=of_decide_eq_false hge
          omega
        subst hge
        have hnx:=fr.ow
        rw [List.take_of_length_le (by omega)] at hnx
        rw [ldN_p (n:=5) fr.sb rfl]
        refine stA_of fr.ob rfl rfl fun S10 n10 o10 f10=>?_
        rw [ldN_p (n:=5) o10 rfl]
        have w3:Own S.n S10 zn 34 _:=(hnx.st (id:=S1.n) (fun b m e=>by have:=hnx.lt e; omega) n10 f10).low (by omega)
        rw [List.map_map] at w3
        have hbits:(spOf c).bits = (m:Int):=hm
        refine ⟨_,rfl,fr.keep.st (by omega) n10 f10,cv_t2 (cv_a5 (by rw [hbits]; exact .v _) (treeB _ _ _) (treeB _ _ _) (own_tree (fun _ _=>treeI _) w3) (Tree.aL (fun _ _=>treeB _) _ _)) (.v _)⟩
theorem pickV_rng {l:List Int} (hl:∀ x ∈ l,0 ≤ x ∧ x < 65536) {k:Nat} {n:Int} (hn:0 < n):0 ≤ pickV l k n ∧ pickV l k n < n:=by
  unfold pickV
  split
  · omega
  · rename_i h
    have hlt:k < l.length:=by omega
    have hx:=hl _ (List.getElem_mem hlt)
    rw [show l.getD k 0 = l[k] by simp [List.getD_eq_getElem?_getD,hlt],Int.tmod_eq_emod_of_nonneg hx.1]
    exact ⟨Int.emod_nonneg _ (by omega),Int.emod_lt_of_pos _ hn⟩
structure Fm (S:Store) (l:List Int) (S':Store) (k:Nat) (cs:List AV):Prop where
  keep:Keep S S'
  n:S.n + 4 ≤ S'.n
  lo:S'.obj S.n = some (.cells 33 [[aL aW16 l]] true)
  ro:S'.obj (S.n + 1) = some (.cells 42 [[aI 0,.nl,.nl,.nl,.nl,.nl,.nl,.nl]] true)
  ao:S'.obj (S.n + 2) = some (.cells 3 [[aI k]] true)
  co:S'.obj (S.n + 3) = some (.cells 42 [cs] true)
abbrev pickF (S:Store):AV:=.f (.func 78) [] [.p (S.n + 2) 0 0,.p S.n 0 0]
theorem Fm.old {S S' S'':Store} {l:List Int} {k:Nat} {cs:List AV} (h:Fm S l S' k cs) (hn:S'.n ≤ S''.n) (ho:∀ x,x < S.n + 4 → S''.obj x = S'.obj x):Fm S l S'' k cs :=
  ⟨⟨by have:=h.keep.1; omega,fun x hx=>(ho x (by omega)).trans (h.keep.2 x hx)⟩,by have:=h.n; omega,(ho _ (by omega)).trans h.lo,(ho _ (by omega)).trans h.ro,(ho _ (by omega)).trans h.ao,(ho _ (by omega)).trans h.co⟩
theorem Fm.pick {S S':Store} {l:List Int} {k:Nat} {cs:List AV} (h:Fm S l S' k cs) (hl:∀ x ∈ l,0 ≤ x ∧ x < 65536) {n:Int} (hn:0 < n) (hk:k ≤ 1000) {K X:AV → Store → Prop}
    (kk:∀ S'',Fm S l S'' (k + 1) cs → S''.n = S'.n → (∀ x,x ≠ S.n + 2 → S''.obj x = S'.obj x) → K (aI (pickV l k n)) S''):callV Tryz.prog (pickF S) [aI n] S' K X:=by
  refine .inl (pick_of h.ao h.lo (by omega) hl hn (by omega) fun S'' n2 o2 f2=>kk S'' ⟨⟨by have:=h.keep.1; omega,fun x hx=>(f2 x (by omega)).trans (h.keep.2 x hx)⟩,by have:=h.n; omega,(f2 _ (by omega)).trans h.lo,(f2 _ (by omega)).trans h.ro,o2,(f2 _ (by omega)).trans h.co⟩ n2 f2)
theorem Fm.st {S S':Store} {l:List Int} {k j:Nat} {cs:List AV} {u:AV} (h:Fm S l S' k cs) (hj:j < cs.length) (hu:u.one = true) {K:AV → Store → Prop}
    (kk:∀ S'',Fm S l S'' k (cs.set j u) → S''.n = S'.n → (∀ x,x ≠ S.n + 3 → S''.obj x = S'.obj x) → K .j S''):stN 1 (.p (S.n + 3) 0 j) u S' K :=
  stF_of h.co hj hu fun S'' n2 o2 f2=>kk S'' ⟨⟨by have:=h.keep.1; omega,fun x hx=>(f2 x (by omega)).trans (h.keep.2 x hx)⟩,by have:=h.n; omega,(f2 _ (by omega)).trans h.lo,(f2 _ (by omega)).trans h.ro,(f2 _ (by omega)).trans h.ao,o2⟩ n2 f2
theorem Fm.kT {S S' T:Store} {l:List Int} {k:Nat} {cs:List AV} (h:Fm S l S' k cs) (hT:Keep S' T):T.obj (S.n + 3) = some (.cells 42 [cs] true):=(hT.2 _ (by have:=h.n; omega)).trans h.co
theorem Fm.wk {S S':Store} {l:List Int} {k:Nat} {cs cs2:List AV} (h:Fm S l S' k cs) (hl:cs.length = cs2.length) (hc:∀ (k:Nat) (u u2:AV),cs[k]? = some u → cs2[k]? = some u2 → Cv (S'.frz (newer (S.n + 4))) S'.n u u2) (ls:List AV) :
    ∃ S'',Wk S' ls S'' ls ∧ Fm S l S'' k cs2 ∧ S''.n = S'.n:=by
  refine ⟨_,Wk.row (newer (S.n + 4)) h.co (by simp [newer]) (es2:=[cs2]) ⟨rfl,fun i c1 c2 e1 e2=>?_⟩,?_,rfl⟩
  · match i with
    | 0=>cases e1; cases e2; exact ⟨hl,hc⟩
    | i + 1=>simp at e1
  · have hlow:∀ x,x < S.n + 4 → x ≠ S.n + 3 → (S'.tell (newer (S.n + 4)) (S.n + 3) (.cells 42 [cs2] true)).obj x = S'.obj x:=fun x hx hne=>tell_ne hne (by simp [newer]; omega)
    exact ⟨⟨h.keep.1,fun x hx=>(hlow x (by omega) (by omega)).trans (h.keep.2 x hx)⟩,h.n,(hlow _ (by omega) (by omega)).trans h.lo,(hlow _ (by omega) (by omega)).trans h.ro,(hlow _ (by omega) (by omega)).trans h.ao,tell_id⟩
theorem bsl3 {e:Nat} {z u v w:AV} {S:Store} {K:AV → Store → Prop} (hu:u.one = true) (hv:v.one = true) (hw:w.one = true) (k:K (.l [[u],[v],[w]]) S):bslN e 1 3 [z] [(0,u),(1,v),(2,w)] S K:=by
  refine ⟨[u,v,w],?_,.inr ?_⟩
  · simp [fillA,cells_of_one hu,cells_of_one hv,cells_of_one hw,spl,List.range_succ]
  · simpa [chunks,List.range_succ] using k
theorem bslA3 {e:Nat} {z1 z2 z3 u v w:AV} {S:Store} {K:AV → Store → Prop} (k:K (.l [[u,v,w]]) S):bslN e 3 1 [z1,z2,z3] [(0,.a [u,v,w])] S K:=by
  refine ⟨[u,v,w],?_,.inr ?_⟩
  · simp [fillA,cellsOf,spl]
  · simpa [chunks] using k
theorem own_one {n:Nat} {S:Store} {x:AV} {e:Nat} {es:List (List AV)} (h:Own n S x e es):x.one = true:=by rcases h with ⟨rfl,_⟩ | ⟨id,rfl,_⟩ <;> rfl
theorem wrap16 {x:Int} (h0:0 ≤ x) (h1:x < 65536):IntKind.u16.wrap x = x:=by rw [IntKind.wrap_u16]; omega
theorem _root_.Go.Ab.Own.fm {S S' S'':Store} {x:AV} {e:Nat} {es:List (List AV)} {id:Nat} (h:Own (S.n + 4) S' x e es) (hid:id < S.n + 4) (hn:S''.n = S'.n) (ho:∀ y,y ≠ id → S''.obj y = S'.obj y):Own (S.n + 4) S'' x e es :=
  h.st (id:=id) (fun b m e=>by have:=h.lt e; omega) hn ho
theorem own_cvP {n:Nat} {S:Store} {x:AV} {e:Nat} {l:List (Int × Int)} {F:Nat → Bool} {k:Nat} (h:Own n S x e (l.map fun p=>[aI p.1,aI p.2])) (hF:∀ i b m,x = .s i b m → F i = true):Cv (S.frz F) k x (pL l):=by
  rcases h with ⟨rfl,h⟩ | ⟨id,rfl,h1,h2,h3⟩
  · have:l = []:=List.map_eq_nil_iff.1 h
    subst this
    exact .nl
  · refine .s id 0 _ e _ _ (by rw [frz_of h3,hF id _ _ rfl]; rfl) (by simp) (by simp) (fun i c c2 hi hi2=>?_) (fun i c c2 k u u2 hi hi2 hk hk2=>?_)
    · rw [Nat.zero_add] at hi; rw [hi] at hi2; cases hi2; rfl
    · rw [Nat.zero_add] at hi; rw [hi] at hi2; cases hi2
      rw [hk] at hk2; cases hk2
      rw [List.getElem?_map] at hi
      obtain ⟨a,_,rfl⟩:=Option.map_eq_some_iff.1 hi
      match k with
      | 0=>cases hk; exact .v _
      | 1=>cases hk; exact .v _
      | k + 2=>simp at hk
theorem own_cvI {n:Nat} {S:Store} {x:AV} {e:Nat} {l:List Int} {F:Nat → Bool} {k:Nat} (h:Own n S x e (l.map fun p=>[aI p])) (hF:∀ i b m,x = .s i b m → F i = true):Cv (S.frz F) k x (aL aI l):=by
  rcases h with ⟨rfl,h⟩ | ⟨id,rfl,h1,h2,h3⟩
  · have:l = []:=List.map_eq_nil_iff.1 h
    subst this
    exact .nl
  · refine .s id 0 _ e _ _ (by rw [frz_of h3,hF id _ _ rfl]; rfl) (by simp) (by simp) (fun i c c2 hi hi2=>?_) (fun i c c2 k u u2 hi hi2 hk hk2=>?_)
    · rw [Nat.zero_add] at hi; rw [hi] at hi2; cases hi2; rfl
    · rw [Nat.zero_add] at hi; rw [hi] at hi2; cases hi2
      rw [hk] at hk2; cases hk2
      rw [List.getElem?_map] at hi
      obtain ⟨a,_,rfl⟩:=Option.map_eq_some_iff.1 hi
      match k with
      | 0=>cases hk; exact .v _
      | k + 1=>simp at hk
theorem own_cvN {n:Nat} {S:Store} {x:AV} {e:Nat} {l:List Na} {F:Nat → Bool} {k:Nat} (h:Own n S x e (l.map Na.row)) (hF:∀ i b m,x = .s i b m → F i = true):Cv (S.frz F) k x (nL l):=by
  rcases h with ⟨rfl,h⟩ | ⟨id,rfl,h1,h2,h3⟩
  · have:l = []:=List.map_eq_nil_iff.1 h
    subst this
    exact .nl
  · refine .s id 0 _ e _ _ (by rw [frz_of h3,hF id _ _ rfl]; rfl) (by simp) (by simp) (fun i c c2 hi hi2=>?_) (fun i c c2 k u u2 hi hi2 hk hk2=>?_)
    · rw [Nat.zero_add] at hi; rw [hi] at hi2; cases hi2; rfl
    · rw [Nat.zero_add] at hi; rw [hi] at hi2; cases hi2
      rw [hk] at hk2; cases hk2
      rw [List.getElem?_map] at hi
      obtain ⟨a,_,rfl⟩:=Option.map_eq_some_iff.1 hi
      unfold Na.row at hk
      match k with
      | 0=>cases hk; exact .v _
      | 1=>cases hk; exact .v _
      | 2=>cases hk; exact .v _
      | k + 3=>simp at hk
theorem _root_.Go.Ab.Own.fF {n:Nat} {S:Store} {x:AV} {e:Nat} {es:List (List AV)} (h:Own n S x e es) {m:Nat} (hm:m ≤ n):∀ i b k,x = .s i b k → newer m i = true:=fun i b k e=>by
  have:=h.lt e
  simp [newer]; omega
theorem madeC_of {inp:Int} {lats:List (Int × Int)} {g:Gr} {outs bads cons fair:List Int} {b1 b2:Bool} {t:ByteArray} (h0:0 ≤ inp) (h1:inp ≤ 3) (hl1:1 ≤ lats.length) (hl2:lats.length ≤ 3)
    (hg:g.right = true) (hgi:g.inputs = inp + lats.length) (hga:g.ands.length ≤ 8) (hgok:g.ok) (hlat:∀ p ∈ lats,g.lit p.1 = true ∧ 0 ≤ p.2 ∧ p.2 ≤ 2) (ho:∀ x ∈ outs,g.lit x = true) (hb:∀ x ∈ bads,g.lit x = true)
    (hc:∀ x ∈ cons,g.lit x = true) (hf:∀ x ∈ fair,g.lit x = true) (lo:outs.length ≤ 2) (lb:bads.length ≤ 1) (lc:cons.length ≤ 1) (lf:fair.length ≤ 1)
    (ht:b2 = true → 0 < outs.length ∧ (t = ⟨#[111,117,116]⟩ ∨ t = ⟨#[108,49]⟩ ∨ t = ⟨#[97,45,98]⟩)) :
    MadeC ⟨inp,lats,g.ands,outs,bads,cons,fair,(if b1 then [⟨108,0,⟨#[113]⟩⟩] else []) ++ (if b2 then [⟨111,outs.length - 1,t⟩] else [])⟩:=by
  have hvg:g.vars = inp + lats.length + 1 + g.ands.length:=by unfold Gr.vars; omega
  have hi64:∀ {x:Int},g.lit x = true → i64R x:=fun h=>by
    obtain ⟨_,_,h1,h2⟩:=lit_iff.1 h
    exact ⟨by omega,by omega⟩
  have hgr:∀ nm,(⟨inp,lats,g.ands,outs,bads,cons,fair,nm⟩:Ci).gr = g:=fun nm=>by
    show (⟨IntKind.i64.wrap (inp + lats.length),g.ands⟩:Gr) = g
    rw [wrap64 (by omega) (by omega),← hgi]
  have htl:b2 = true → wordB t = true ∧ t.size ≤ 100 ∧ t ≠ ⟨#[113]⟩:=fun h=>by
    rcases (ht h).2 with rfl | rfl | rfl <;> exact ⟨by decide,by decide,by decide⟩
  generalize hnm:((if b1 then [⟨108,0,⟨#[113]⟩⟩] else []) ++ (if b2 then [⟨111,outs.length - 1,t⟩] else []):List Na) = nm
  have hnl:nm.length ≤ 2:=by subst hnm; cases b1 <;> cases b2 <;> simp
  have hnames:namesB ⟨inp,lats,g.ands,outs,bads,cons,fair,nm⟩ = true:=by
    have e1:nameOk ⟨inp,lats,g.ands,outs,bads,cons,fair,nm⟩ ⟨108,0,⟨#[113]⟩⟩:=⟨by decide,by decide,by simp [Ci.many]; omega⟩
    have e2:b2 = true → nameOk ⟨inp,lats,g.ands,outs,bads,cons,fair,nm⟩ ⟨111,outs.length - 1,t⟩:=fun h=>⟨(htl h).1,by have:=(ht h).1; show (0:Int) ≤ outs.length - 1; omega,by have:=(ht h).1; simp [Ci.many]; omega⟩
    have e3:nameLt ⟨108,0,⟨#[113]⟩⟩ ⟨111,outs.length - 1,t⟩:=.inl (by show rankI 108 < rankI 111; decide)
    simp only [namesB,decide_eq_true_eq]
    subst hnm
    cases b1 <;> cases b2
    · exact ⟨fun i h=>by simp at h,fun i h=>by simp at h,by simp⟩
    · refine ⟨fun i h _=>?_,fun i h=>by simp at h,by simp⟩
      match i with
      | 0=>exact e2 rfl
      | i + 1=>exact absurd (show i + 1 < 1 from h) (by omega)
    · refine ⟨fun i h _=>?_,fun i h=>by simp at h,by simp⟩
      match i with
      | 0=>exact e1
      | i + 1=>exact absurd (show i + 1 < 1 from h) (by omega)
    · refine ⟨fun i h _=>?_,fun i h _=>?_,?_⟩
      · match i with
        | 0=>exact e1
        | 1=>exact e2 rfl
        | i + 2=>exact absurd (show i + 2 < 2 from h) (by omega)
      · match i with
        | 0=>exact e3
        | i + 1=>exact absurd (show i + 1 + 1 < 2 from h) (by omega)
      · have:=(htl rfl).2.2
        simp only [if_true,List.cons_append,List.nil_append,List.length_cons,List.length_nil,List.take_succ_cons,List.take_zero,List.map_cons,List.map_nil,List.nodup_cons,List.mem_singleton,List.not_mem_nil,not_false_eq_true,List.nodup_nil,and_true]
        exact fun h=>this (keyOf_inj h.symm)
  have hnk:∀ x ∈ nm,0 ≤ x.kind ∧ x.kind < 256 ∧ i64R x.pos ∧ x.text.size ≤ 9223372036854775807:=by
    subst hnm
    intro x hx
    rcases List.mem_append.1 hx with hx | hx
    · cases b1
      · simp at hx
      · have:x = ⟨108,0,⟨#[113]⟩⟩:=by simpa using hx
        subst this
        exact ⟨by decide,by decide,⟨by decide,by decide⟩,by decide⟩
    · cases b2
      · simp at hx
      · have:x = ⟨111,outs.length - 1,t⟩:=by simpa using hx
        subst this
        have h2:=htl rfl
        exact ⟨by show (0:Int) ≤ 111; decide,by show (111:Int) < 256; decide,⟨by show _ ≤ (outs.length:Int) - 1; omega,by show (outs.length:Int) - 1 ≤ _; omega⟩,by show t.size ≤ _; omega⟩
  refine ⟨⟨⟨by show _ ≤ inp; omega,by show inp ≤ _; omega⟩,by show lats.length ≤ _; omega,by show g.ands.length ≤ _; omega,fun p hp=>⟨hi64 (hlat p hp).1,⟨by have:=hlat p hp; omega,by have:=hlat p hp; omega⟩⟩,hgok.pairs,⟨fun x hx=>hi64 (ho x hx),by show outs.length ≤ _; omega⟩,⟨fun x hx=>hi64 (hb x hx),by show bads.length ≤ _; omega⟩,
    ⟨fun x hx=>hi64 (hc x hx),by show cons.length ≤ _; omega⟩,⟨fun x hx=>hi64 (hf x hx),by show fair.length ≤ _; omega⟩,hnk,by show nm.length ≤ _; omega⟩,right_c.2 ?_,⟨h0,h1⟩,⟨hl1,hl2⟩,hga,lo,lb,lc,lf,⟨b1,b2,t,hnm.symm,ht⟩⟩
  rw [hgr]
  refine ⟨⟨h0,by show inp ≤ _; omega⟩,by show lats.length ≤ _; omega,by show outs.length ≤ _; omega,by show bads.length ≤ _; omega,by show cons.length ≤ _; omega,by show fair.length ≤ _; omega,hg,?_,?_,?_,?_,?_,hnames⟩
  · refine List.all_eq_true.2 fun p hp=>?_
    obtain ⟨q1,q2,q3⟩:=hlat p hp
    simp only [latOk,q1,decide_eq_true q2,decide_eq_true q3,Bool.and_self]
  · exact List.all_eq_true.2 ho
  · exact List.all_eq_true.2 hb
  · exact List.all_eq_true.2 hc
  · exact List.all_eq_true.2 hf
def seedL (l:List Int):List Int:=(List.range (pickV l 2 9).toNat).map fun i=>pickV l (3 + i) 65536
def varsL (l:List Int):Int:=(madeTo (pickV l 0 4 + (1 + pickV l 1 3)) (seedL l) (min (seedL l).length 40)).1.vars
theorem made248 {l:List Int} (hl:∀ x ∈ l,0 ≤ x ∧ x < 65536) {S:Store}:ACalls Tryz.prog 48 [aL aW16 l] S (fun e S'=>∃ tr,e = .ret tr ∧ S' = S ∧ ∃ c,tr = c.av ∧ MadeC c ∧ c.gr.vars = varsL l):=by
  refine ACalls.treeE (calls48 ?_)
  unfold m48
  refine box1_of rfl fun S1 k1 n1 o1=>?_
  refine boxA_of rfl fun S2 k2 n2 o2=>?_
  refine box1_of rfl fun S3 k3 n3 o3=>?_
  refine st_of o3 rfl rfl fun S4 n4 o4 f4=>?_
  refine boxA_of rfl fun S5 k5 n5 o5=>?_
  have e1:S1.n = S.n + 1:=n1
  have e2:S2.n = S.n + 2:=by omega
  have e4:S4.n = S.n + 3:=by omega
  rw [e1] at o2; rw [e2] at o3 o4 f4; rw [e4] at o5
  rw [e1,e2,e4]
  have fm:Fm S l S5 0 [aI 0,.nl,.nl,.nl,.nl,.nl,.nl,.nl]:=by
    have old4:∀ x,x < S.n + 2 → S4.obj x = S2.obj x:=fun x hx=>(f4 x (by omega)).trans (k3.2 x (by omega))
    have old5:∀ x,x < S.n + 3 → S5.obj x = S4.obj x:=fun x hx=>k5.2 x (by omega)
    refine ⟨⟨by omega,fun x hx=>(old5 x (by omega)).trans ((old4 x (by omega)).trans ((k2.2 x (by omega)).trans (k1.2 x hx)))⟩,by omega,?_,?_,(old5 _ (by omega)).trans o4,o5⟩
    · exact (old5 _ (by omega)).trans ((old4 _ (by omega)).trans ((k2.2 _ (by omega)).trans o1))
    · exact (old5 _ (by omega)).trans ((old4 _ (by omega)).trans o2)
  show callV _ (pickF S) _ _ _ _
  refine fm.pick hl (by decide) (by decide) fun S6 fm n6 f6=>?_
  have pi:=pickV_rng hl (k:=0) (n:=4) (by decide)
  generalize hinp:pickV l 0 4 = inp at *
  rw [shift_p]
  refine fm.st (by simp) rfl fun S7 fm n7 f7=>?_
  show callV _ (pickF S) _ _ _ _
  refine fm.pick hl (by decide) (by decide) fun S8 fm n8 f8=>?_
  have pm:=pickV_rng hl (k:=1) (n:=3) (by decide)
  generalize hm3:pickV l 1 3 = m3 at *
  rw [bin_add (by omega) (by omega)]
  obtain ⟨many,hmany⟩:=Int.eq_ofNat_of_zero_le (show 0 ≤ 1 + m3 by omega)
  have hm1:1 ≤ many ∧ many ≤ 3:=by omega
  rw [hmany]
  show callV _ (pickF S) _ _ _ _
  refine fm.pick hl (by decide) (by decide) fun S9 fm n9 f9=>?_
  have pr:=pickV_rng hl (k:=2) (n:=9) (by decide)
  generalize h9:pickV l 2 9 = r9 at *
  obtain ⟨r0,rfl⟩:=Int.eq_ofNat_of_zero_le pr.1
  replace fm:Fm S l S9 3 [aI inp,.nl,.nl,.nl,.nl,.nl,.nl,.nl]:=fm
  show loopV _ _ _ (env48_0 (.p (S.n + 1) 0 0) (pickF S) (.p (S.n + 3) 0 0) (aI many) .nl (aI r0)) _ _
  refine loop48_0 (fun y7 y8 S'=>∃ (r k:Nat) (sd:List Int),y8 = aI r ∧ (r + sd.length = r0 ∧ k = 3 + sd.length ∧ sd = (List.range sd.length).map fun i=>pickV l (3 + i) 65536) ∧ r + sd.length ≤ 8 ∧ k + r ≤ 11 ∧ Fm S l S' k [aI inp,.nl,.nl,.nl,.nl,.nl,.nl,.nl] ∧ Own (S.n + 4) S' y7 126 (sd.map fun x=>[aW16 x]) ∧ ∀ x ∈ sd,0 ≤ x ∧ x < 65536)
    (fun _ y _=>((intA y).getD 0).toNat) ⟨r0,3,[],rfl,⟨by simp,rfl,rfl⟩,by simp; omega,by omega,fm,Own.nl _ _ _,fun _ h=>by cases h⟩ ?_
  rintro y7 _ S1 ⟨r,k,sd,rfl,⟨hrr,hkk,hsq⟩,hr,hk,fm,w7,hsd⟩ KE hKE
  unfold b48_0
  rw [bin_gtr,onB_v]
  refine gd_of (fun hgt=>?_) (fun hle=>?_)
  · have hgt:0 < r:=by have:=of_decide_eq_true hgt; omega
    refine fm.pick hl (by decide) (by omega) fun S2 fm n2 f2=>?_
    have px:=pickV_rng hl (k:=k) (n:=65536) (by decide)
    generalize hx:pickV l k 65536 = x at *
    have w2:=w7.fm (by omega) n2 f2
    rw [convI_v,wrap16 px.1 px.2]
    refine bsl1 rfl (fun _ h=>by cases h) ?_
    refine w2.app (by have:=fm.n; omega) (c:=[aW16 x]) rfl (by rw [List.length_map]; omega) (fun z S3 w3 b3 hz=>?_) rfl
    have n3:=b3.1
    have o3:∀ x,x < S.n + 4 → S3.obj x = S2.obj x:=fun x hx=>b3.2 x (by have:=fm.n; omega) (fun b m e=>by have:=w2.lt e; omega)
    rw [bin_sub (by omega) (by omega),show (r:Int) - 1 = ((r - 1:Nat):Int) by omega]
    refine hKE _ _ _ ⟨r - 1,k + 1,sd ++ [x],rfl,⟨by simp; omega,by simp; omega,by rw [List.length_append,List.length_singleton,List.range_succ,List.map_append,← hsq]; simp [← hx,hkk]⟩,by rw [List.length_append,List.length_singleton]; omega,by omega,fm.old n3 o3,by rw [List.map_append]; exact w3,fun a ha=>?_⟩ (by simp [intA]; omega)
    rcases List.mem_append.1 ha with ha | ha
    · exact hsd a ha
    · have:a = x:=by simpa using ha
      subst this
      exact px
  have hle:r = 0:=by have:=of_decide_eq_false hle; omega
  subst hle
  clear hKE KE
  rw [shift_p,ld1_p fm.co rfl rfl,bin_add (by omega) (by omega)]
  have hlen:∀ (T:Store) (K:AV → Store → Prop),lenS y7 T K = K (aI sd.length) T:=fun T K=>by
    rcases w7 with ⟨rfl,e⟩ | ⟨id,rfl,_⟩
    · have:sd = []:=List.map_eq_nil_iff.1 e
      subst this; rfl
    · rw [lenS_s,List.length_map]
  obtain ⟨q7,hq7⟩:∃ q:Nat,∀ (i:Nat),i < sd.length → y7 = .s q 0 sd.length ∧ q < S1.n ∧ S1.obj q = some (.cells 126 (sd.map fun x=>[aW16 x]) true):=by
    rcases w7 with ⟨rfl,e⟩ | ⟨id,rfl,h1,h2,h3⟩
    · have:sd = []:=List.map_eq_nil_iff.1 e
      subst this; exact ⟨0,fun i hi=>by simp at hi⟩
    · exact ⟨id,fun i _=>⟨by rw [List.length_map],h2,h3⟩⟩
  have hmade:=at79 (n:=inp + many) (by omega) (by omega) hsd (by omega) (S:=S1) (x1:=y7) hlen (P:=fun i=>.p q7 i 0) (fun T hT i hi=>by
    obtain ⟨h1,h2,h3⟩:=hq7 i hi
    have h4:=(hT.2 _ h2).trans h3
    subst h1
    refine ⟨fun K=>by rw [ixS_s hi h4,Nat.zero_add],fun K=>by rw [ld1_p h4 (by rw [List.getElem?_map,List.getElem?_eq_getElem hi]; rfl) rfl]⟩)
  have hrt:=madeTo_right (n:=inp + many) (by omega) (by omega) hsd (min sd.length 40) (by omega)
  have hgok:=madeTo_ok (n:=inp + many) ⟨by omega,by omega⟩ hsd (by omega) (min sd.length 40)
  have hgin:=madeTo_inp (inp + many) sd (min sd.length 40)
  have hmin:min sd.length 40 ≤ 8:=by omega
  have hvars:(madeTo (inp + many) sd (min sd.length 40)).1.vars = varsL l:=by
    have e:sd = seedL l:=by
      rw [hsq,seedL,h9]
      rw [show sd.length = r0 by omega]
      rfl
    rw [varsL,hinp,hm3,hmany,← e]
  generalize (madeTo (inp + many) sd (min sd.length 40)).1 = g at *
  generalize (madeTo (inp + many) sd (min sd.length 40)).2 = last at *
  obtain ⟨hg,hlast,hv1,hv2⟩:=hrt
  have hga:g.ands.length ≤ 8:=by unfold Gr.vars at hv2; omega
  refine callF_at hmade ?_
  rw [extr0,extr1]
  refine boxA_of rfl fun S2 k2 n2 o2=>?_
  refine stA_of o2 rfl rfl fun S3 n3 o3 f3=>?_
  have hb:=fm.n
  replace fm:Fm S l S3 k _:=fm.old (by omega) fun x hx=>(f3 x (by omega)).trans (k2.2 x (by omega))
  rw [shift_p,ld1_p o3 rfl rfl,shift_p]
  refine fm.st (by simp) rfl fun S4 fm n4 f4=>?_
  have o4:=(f4 S1.n (by omega)).trans o3
  rw [ldN_p (n:=2) o4 rfl]
  refine callF_ans (ans40 hgok (by omega) (by omega)) ?_
  rw [bin_mul (by omega) (by omega)]
  have hvp:0 < 2 * g.vars:=by omega
  have plit:∀ {x:Int},0 ≤ x ∧ x < 2 * g.vars → g.lit x = true:=fun h=>lit_iff.2 ⟨by omega,by omega,h.1,by omega⟩
  show loopV _ _ _ (env48_1 (.p (S.n + 1) 0 0) (pickF S) (.p (S.n + 3) 0 0) (aI many) (aI last) (aI (2 * g.vars)) (aI (0:Nat))) _ _
  replace fm:Fm S l S4 k [aI inp,.nl,pL g.ands,.nl,.nl,.nl,.nl,.nl]:=fm
  refine loop48_1 (fun y12 S'=>∃ (i k:Nat) (zl:AV) (lats:List (Int × Int)),y12 = aI i ∧ i ≤ many ∧ k ≤ 11 + 2 * i ∧ Fm S l S' k [aI inp,zl,pL g.ands,.nl,.nl,.nl,.nl,.nl] ∧ Own (S.n + 4) S' zl 66 (lats.map fun p=>[aI p.1,aI p.2]) ∧ lats.length = i ∧ ∀ p ∈ lats,g.lit p.1 = true ∧ 0 ≤ p.2 ∧ p.2 ≤ 2)
    (fun y _=>many - ((intA y).getD 0).toNat) ⟨0,k,.nl,[],rfl,Nat.zero_le _,by omega,fm,Own.nl _ _ _,rfl,fun _ h=>by cases h⟩ ?_
  rintro _ S1 ⟨i,k,zl,lats,rfl,hi,hk,fm,wl,hll,hlat⟩ KE hKE
  unfold b48_1
  rw [bin_lss,onB_v]
  refine gd_of (fun hlt=>?_) (fun hge=>?_)
  · have hlt:i < many:=by have:=of_decide_eq_true hlt; omega
    refine fm.pick hl hvp (by omega) fun S2 fm n2 f2=>?_
    have pn:=plit (pickV_rng hl (k:=k) hvp)
    generalize pickV l k (2 * g.vars) = n at *
    have w2:=wl.fm (by omega) n2 f2
    rw [bin_eql,onB_v]
    have step:∀ nx:Int,g.lit nx = true → ∀ (S3:Store) (p5:Int) (k':Nat),0 ≤ p5 ∧ p5 < 5 → k' ≤ 11 + 2 * (i + 1) → Fm S l S3 k' [aI inp,zl,pL g.ands,.nl,.nl,.nl,.nl,.nl] → Own (S.n + 4) S3 zl 66 (lats.map fun p=>[aI p.1,aI p.2]) →
        (∃ q46:AV,(∀ T:Store,Keep S3 T → bin .quo 0 (aI p5) (.v (.int .i64 2)) T fun v S=>v = q46 ∧ S = T) ∧ ∃ q48:AV,(∀ T:Store,Keep S3 T → bld [(0,1),(1,1)] [(.v (.int .i64 0)),(.v (.int .i64 0))] [(0,aI nx),(1,q46)] T fun v S=>v = q48 ∧ S = T) ∧
          ∃ q50:AV,(∀ T:Store,Keep S3 T → bslN 66 2 1 [(.v (.int .i64 0)),(.v (.int .i64 0))] [(0,q48)] T fun v S=>v = q50 ∧ S = T) ∧ appS 66 2 16 zl q50 S3 fun v52 T =>
          ∃ q53:AV,(∀ T':Store,Keep T T' → shift (.p (S.n + 3) 0 0) 1 T' fun v S=>v = q53 ∧ S = T') ∧ stN 1 q53 v52 T fun _ T=>bin .add 0 (aI i) (.v (.int .i64 1)) T fun v T=>KE 156 (env48_1 (.p (S.n + 1) 0 0) (pickF S) (.p (S.n + 3) 0 0) (aI many) (aI last) (aI (2 * g.vars)) v) T):=by
      intro nx hnx S3 p5 k' hp5 hk' fm w3
      have hd:0 ≤ p5.tdiv 2 ∧ p5.tdiv 2 ≤ 2:=by rw [Int.tdiv_eq_ediv_of_nonneg hp5.1]; omega
      refine ⟨_,fun T hT=>by rw [bin_quo (by decide) (by omega) (by omega)]; exact ⟨rfl,rfl⟩,_,fun T hT=>by rw [bld_of (cs:=[aI nx,aI (p5.tdiv 2)]) rfl]; exact ⟨rfl,rfl⟩,_,fun T hT=>bslP ⟨rfl,rfl⟩,?_⟩
      refine w3.app (by have:=fm.n; omega) (c:=[aI nx,aI (p5.tdiv 2)]) rfl (by rw [List.length_map]; omega) (fun z S4 w4 b4 hz=>?_) rfl
      have n4:=b4.1
      have hn3:=fm.n
      have o4:∀ x,x < S.n + 4 → S4.obj x = S3.obj x:=fun x hx=>b4.2 x (by omega) (fun b m e=>by have:=w3.lt e; omega)
      refine ⟨_,fun T hT=>by rw [shift_p]; exact ⟨rfl,rfl⟩,?_⟩
      replace fm:=fm.old n4 o4
      refine fm.st (by simp) (own_one w4) fun S5 fm n5 f5=>?_
      have w5:=w4.fm (by omega) n5 f5
      rw [bin_add (by omega) (by omega)]
      refine hKE _ _ ⟨i + 1,k',z,lats ++ [(nx,p5.tdiv 2)],rfl,hlt,hk',fm,by rw [List.map_append]; exact w5,by simp [hll],fun p hp=>?_⟩ (by simp [intA]; omega)
      rcases List.mem_append.1 hp with hp | hp
      · exact hlat p hp
      · have:p = (nx,p5.tdiv 2):=by simpa using hp
        subst this
        exact ⟨hnx,hd⟩
    have p5:=pickV_rng hl (k:=k + 1) (n:=5) (by decide)
    refine gd_of (fun h0=>?_) (fun h0=>?_)
    · refine ⟨_,fun T hT=>by rw [shift_p]; exact ⟨rfl,rfl⟩,zl,fun T hT=>by rw [ld1_p (fm.kT hT) rfl rfl]; exact ⟨rfl,rfl⟩,?_⟩
      refine fm.pick hl (by decide) (by omega) fun S3 fm n3 f3=>?_
      have w3:=w2.fm (by omega) n3 f3
      refine ⟨fun T hT=>by rw [ld1_p (fm.kT hT) rfl rfl]; exact ⟨rfl,rfl⟩,fun T hT=>by rw [shift_p]; exact ⟨rfl,rfl⟩,?_⟩
      exact step _ hlast S3 _ _ p5 (by omega) fm w3
    · refine ⟨_,fun T hT=>by rw [shift_p]; exact ⟨rfl,rfl⟩,zl,fun T hT=>by rw [ld1_p (fm.kT hT) rfl rfl]; exact ⟨rfl,rfl⟩,?_⟩
      refine fm.pick hl (by decide) (by omega) fun S3 fm n3 f3=>?_
      have w3:=w2.fm (by omega) n3 f3
      refine ⟨fun T hT=>by rw [ld1_p (fm.kT hT) rfl rfl]; exact ⟨rfl,rfl⟩,fun T hT=>by rw [shift_p]; exact ⟨rfl,rfl⟩,?_⟩
      exact step _ pn S3 _ _ p5 (by omega) fm w3
  have hge:i = many:=by have:=of_decide_eq_false hge; omega
  subst hge
  clear hKE KE
  refine fm.pick hl (by decide) (by omega) fun S2 fm n2 f2=>?_
  have w2:=wl.fm (by omega) n2 f2
  have p3:=pickV_rng hl (k:=k) (n:=3) (by decide)
  generalize pickV l k 3 = r3 at *
  obtain ⟨r0,rfl⟩:=Int.eq_ofNat_of_zero_le p3.1
  obtain ⟨S3,wk3,fm3,n3⟩:=fm.wk (cs2:=[aI inp,pL lats,pL g.ands,.nl,.nl,.nl,.nl,.nl]) rfl (fun k' u u2 e1 e2=>by
    match k' with
    | 0=>cases e1; cases e2; exact .v _
    | 1=>cases e1; cases e2; exact own_cvP w2 (w2.fF (Nat.le_refl _))
    | 2=>cases e1; cases e2; exact treeP _ _ _
    | 3 | 4 | 5 | 6 | 7=>cases e1; cases e2; exact .nl'
    | k + 8=>simp at e1) (env48_2 (.p (S.n + 1) 0 0) (pickF S) (.p (S.n + 3) 0 0) (aI (2 * g.vars)) (aI r0))
  show loopV _ _ _ (env48_2 (.p (S.n + 1) 0 0) (pickF S) (.p (S.n + 3) 0 0) (aI (2 * g.vars)) (aI r0)) _ _
  refine loopw48_2 (fun y2 y4 y5 y11 y14 S'=>y2 = .p (S.n + 1) 0 0 ∧ y4 = pickF S ∧ y5 = .p (S.n + 3) 0 0 ∧ y11 = aI (2 * g.vars) ∧ ∃ (r k:Nat) (zo:AV) (outs:List Int),y14 = aI r ∧ outs.length + r ≤ 2 ∧ k + r ≤ 20 ∧ Fm S l S' k [aI inp,pL lats,pL g.ands,zo,.nl,.nl,.nl,.nl] ∧ Own (S.n + 4) S' zo 3 (outs.map fun p=>[aI p]) ∧ ∀ x ∈ outs,g.lit x = true)
    (fun _ _ _ _ y _=>((intA y).getD 0).toNat) ⟨_,_,_,_,_,S3,wk3,rfl,rfl,rfl,rfl,r0,k + 1,.nl,[],rfl,by simp; omega,by omega,fm3,Own.nl _ _ _,fun _ h=>by cases h⟩ ?_
  rintro _ _ _ _ _ S1 ⟨rfl,rfl,rfl,rfl,r,k,zo,outs,rfl,hor,hk,fm,wo,hou⟩ KE hKE
  unfold b48_2
  rw [bin_gtr,onB_v]
  refine gd_of (fun hgt=>?_) (fun hle=>?_)
  · have hgt:0 < r:=by have:=of_decide_eq_true hgt; omega
    refine ⟨_,fun T hT=>by rw [shift_p]; exact ⟨rfl,rfl⟩,zo,fun T hT=>by rw [ld1_p (fm.kT hT) rfl rfl]; exact ⟨rfl,rfl⟩,?_⟩
    refine fm.pick hl hvp (by omega) fun S2 fm n2 f2=>?_
    have pn:=plit (pickV_rng hl (k:=k) hvp)
    generalize pickV l k (2 * g.vars) = n at *
    have w2:=wo.fm (by omega) n2 f2
    refine ⟨fun T hT=>by rw [ld1_p (fm.kT hT) rfl rfl]; exact ⟨rfl,rfl⟩,fun T hT=>by rw [shift_p]; exact ⟨rfl,rfl⟩,_,fun T hT=>bsl1 rfl (fun _ h=>by cases h) ⟨rfl,rfl⟩,?_⟩
    refine w2.app (by have:=fm.n; omega) (c:=[aI n]) rfl (by rw [List.length_map]; omega) (fun z S4 w4 b4 hz=>?_) rfl
    have n4:=b4.1
    have hn3:=fm.n
    have o4:∀ x,x < S.n + 4 → S4.obj x = S2.obj x:=fun x hx=>b4.2 x (by omega) (fun b m e=>by have:=w2.lt e; omega)
    refine ⟨_,fun T hT=>by rw [shift_p]; exact ⟨rfl,rfl⟩,?_⟩
    replace fm:=fm.old n4 o4
    refine fm.st (by simp) (own_one w4) fun S5 fm n5 f5=>?_
    have w5:=w4.fm (by omega) n5 f5
    rw [bin_sub (by omega) (by omega),show (r:Int) - 1 = ((r - 1:Nat):Int) by omega]
    refine hKE _ _ _ _ _ _ _ _ _ _ _ _ (Wk.refl _ _) ⟨rfl,rfl,rfl,rfl,r - 1,k + 1,z,outs ++ [n],rfl,by rw [List.length_append,List.length_singleton]; omega,by omega,fm,by rw [List.map_append]; exact w5,fun p hp=>?_⟩ (by simp [intA]; omega)
    rcases List.mem_append.1 hp with hp | hp
    · exact hou p hp
    · have:p = n:=by simpa using hp
      subst this
      exact pn
  have hle:r = 0:=by have:=of_decide_eq_false hle; omega
  subst hle
  clear hKE KE
  have tail:∀ (S':Store) (k:Nat) (zo zb zc:AV) (bads cons:List Int) (r0:Nat),r0 ≤ 1 → k ≤ 25 → Fm S l S' k [aI inp,pL lats,pL g.ands,zo,zb,zc,.nl,.nl] → Own (S.n + 4) S' zo 3 (outs.map fun p=>[aI p]) → Own (S.n + 4) S' zb 3 (bads.map fun p=>[aI p]) → Own (S.n + 4) S' zc 3 (cons.map fun p=>[aI p]) →
      bads.length ≤ 1 → cons.length ≤ 1 → (∀ x ∈ bads,g.lit x = true) → (∀ x ∈ cons,g.lit x = true) →
      loopV lv48_3 (vc Tryz.prog (c48.at_ [1,1,1,1,1,1,1,1,1,1,1,1,1,1,1,0,1,0,0]) (ms48.drop 4)) 156 (env48_3 (.p (S.n + 1) 0 0) (pickF S) (.p (S.n + 3) 0 0) (aI (2 * g.vars)) (aI r0)) S'
        (blockK 6 (seqK (vc Tryz.prog (c48.at_ [1,1,1,1,1,1,1,1,1,1,1,1,1,1,1,1]) (ms48.drop 4)) (bodyK Tryz.prog r48 fun e S'=>∃ r tr,e = .ret r ∧ Keep S S' ∧ Cv (S'.frz (newer S.n)) S.n r tr ∧ ∃ c:Ci,tr = c.av ∧ MadeC c ∧ c.gr.vars = varsL l))):=by
    intro S' k zo zb zc bads cons r0 hr0 hk fm wo wb wc lb lc hbl hcl
    obtain ⟨S3,wk3,fm3,n3⟩:=fm.wk (cs2:=[aI inp,pL lats,pL g.ands,aL aI outs,aL aI bads,aL aI cons,.nl,.nl]) rfl (fun k' u u2 e1 e2=>by
      match k' with
      | 0=>cases e1; cases e2; exact .v _
      | 1=>cases e1; cases e2; exact treeP _ _ _
      | 2=>cases e1; cases e2; exact treeP _ _ _
      | 3=>cases e1; cases e2; exact own_cvI wo (wo.fF (Nat.le_refl _))
      | 4=>cases e1; cases e2; exact own_cvI wb (wb.fF (Nat.le_refl _))
      | 5=>cases e1; cases e2; exact own_cvI wc (wc.fF (Nat.le_refl _))
      | 6 | 7=>cases e1; cases e2; exact .nl'
      | k + 8=>simp at e1) (env48_3 (.p (S.n + 1) 0 0) (pickF S) (.p (S.n + 3) 0 0) (aI (2 * g.vars)) (aI r0))
    refine loopw48_3 (fun y2 y4 y5 y11 y15 S'=>y2 = .p (S.n + 1) 0 0 ∧ y4 = pickF S ∧ y5 = .p (S.n + 3) 0 0 ∧ y11 = aI (2 * g.vars) ∧ ∃ (r k:Nat) (zf:AV) (fair:List Int),y15 = aI r ∧ fair.length + r ≤ 1 ∧ k + r ≤ 26 ∧ Fm S l S' k [aI inp,pL lats,pL g.ands,aL aI outs,aL aI bads,aL aI cons,zf,.nl] ∧ Own (S.n + 4) S' zf 3 (fair.map fun p=>[aI p]) ∧ ∀ x ∈ fair,g.lit x = true)
      (fun _ _ _ _ y _=>((intA y).getD 0).toNat) ⟨_,_,_,_,_,S3,wk3,rfl,rfl,rfl,rfl,r0,k,.nl,[],rfl,by simp; omega,by omega,fm3,Own.nl _ _ _,fun _ h=>by cases h⟩ ?_
    rintro _ _ _ _ _ S1 ⟨rfl,rfl,rfl,rfl,r,k,zf,fair,rfl,hfr,hk,fm,wf,hfl⟩ KE hKE
    unfold b48_3
    rw [bin_gtr,onB_v]
    refine gd_of (fun hgt=>?_) (fun hle=>?_)
    · have hgt:0 < r:=by have:=of_decide_eq_true hgt; omega
      refine ⟨_,fun T hT=>by rw [shift_p]; exact ⟨rfl,rfl⟩,zf,fun T hT=>by rw [ld1_p (fm.kT hT) rfl rfl]; exact ⟨rfl,rfl⟩,?_⟩
      refine fm.pick hl hvp (by omega) fun S2 fm n2 f2=>?_
      have pn:=plit (pickV_rng hl (k:=k) hvp)
      generalize pickV l k (2 * g.vars) = n at *
      have w2:=wf.fm (by omega) n2 f2
      refine ⟨fun T hT=>by rw [ld1_p (fm.kT hT) rfl rfl]; exact ⟨rfl,rfl⟩,fun T hT=>by rw [shift_p]; exact ⟨rfl,rfl⟩,_,fun T hT=>bsl1 rfl (fun _ h=>by cases h) ⟨rfl,rfl⟩,?_⟩
      refine w2.app (by have:=fm.n; omega) (c:=[aI n]) rfl (by rw [List.length_map]; omega) (fun z S4 w4 b4 hz=>?_) rfl
      have n4:=b4.1
      have hn3:=fm.n
      have o4:∀ x,x < S.n + 4 → S4.obj x = S2.obj x:=fun x hx=>b4.2 x (by omega) (fun b m e=>by have:=w2.lt e; omega)
      refine ⟨_,fun T hT=>by rw [shift_p]; exact ⟨rfl,rfl⟩,?_⟩
      replace fm:=fm.old n4 o4
      refine fm.st (by simp) (own_one w4) fun S5 fm n5 f5=>?_
      have w5:=w4.fm (by omega) n5 f5
      rw [bin_sub (by omega) (by omega),show (r:Int) - 1 = ((r - 1:Nat):Int) by omega]
      refine hKE _ _ _ _ _ _ _ _ _ _ _ _ (Wk.refl _ _) ⟨rfl,rfl,rfl,rfl,r - 1,k + 1,z,fair ++ [n],rfl,by rw [List.length_append,List.length_singleton]; omega,by omega,fm,by rw [List.map_append]; exact w5,fun p hp=>?_⟩ (by simp [intA]; omega)
      rcases List.mem_append.1 hp with hp | hp
      · exact hfl p hp
      · have:p = n:=by simpa using hp
        subst this
        exact pn
    have hle:r = 0:=by have:=of_decide_eq_false hle; omega
    subst hle
    clear hKE KE
    have fin:∀ (S1:Store) (k:Nat) (zn:AV) (b1 b2:Bool) (t:ByteArray),Fm S l S1 k [aI inp,pL lats,pL g.ands,aL aI outs,aL aI bads,aL aI cons,zf,zn] → Own (S.n + 4) S1 zf 3 (fair.map fun p=>[aI p]) → (b2 = true → 0 < outs.length ∧ (t = ⟨#[111,117,116]⟩ ∨ t = ⟨#[108,49]⟩ ∨ t = ⟨#[97,45,98]⟩)) →
        Own (S.n + 4) S1 zn 130 (((if b1 then [⟨108,0,⟨#[113]⟩⟩] else []) ++ (if b2 then [⟨111,outs.length - 1,t⟩] else []):List Na).map Na.row) →
        ldN 8 (.p (S.n + 3) 0 0) S1 fun v S1=>stN 8 (.p (S.n + 1) 0 0) v S1 fun _ S2=>ldN 8 (.p (S.n + 1) 0 0) S2 fun v _=>∃ r tr,AEnd.ret v = .ret r ∧ Keep S S2 ∧ Cv (S2.frz (newer S.n)) S.n r tr ∧ ∃ c:Ci,tr = c.av ∧ MadeC c ∧ c.gr.vars = varsL l:=by
      intro S1 k zn b1 b2 t fm wf ht wn
      rw [ldN_p (n:=8) fm.co rfl]
      refine stA_of fm.ro rfl rfl fun S2 n2 o2 f2=>?_
      rw [ldN_p (n:=8) o2 rfl]
      have wf2:=wf.fm (id:=S.n + 1) (by omega) n2 f2
      have wn2:=wn.fm (id:=S.n + 1) (by omega) n2 f2
      refine ⟨_,_,rfl,fm.keep.st (by omega) n2 f2,?_,⟨inp,lats,g.ands,outs,bads,cons,fair,(if b1 then [⟨108,0,⟨#[113]⟩⟩] else []) ++ (if b2 then [⟨111,outs.length - 1,t⟩] else [])⟩,rfl,madeC_of pi.1 (by omega) (by omega) (by omega) hg (by rw [hgin,hll]) hga hgok hlat hou hbl hcl hfl (by omega) lb lc (by omega) ht,?_⟩
      rotate_left
      · have hgi':g.inputs = inp + lats.length:=by rw [hgin,hll]
        have:(Ci.gr ⟨inp,lats,g.ands,outs,bads,cons,fair,(if b1 then [⟨108,0,⟨#[113]⟩⟩] else []) ++ (if b2 then [⟨111,outs.length - 1,t⟩] else [])⟩) = g:=by
          show (⟨IntKind.i64.wrap (inp + lats.length),g.ands⟩:Gr) = g
          rw [wrap64 (by omega) (by omega),← hgi']
        rw [this]; exact hvars
      refine .a _ _ rfl fun k' u u2 e1 e2=>?_
      match k' with
      | 0=>cases e1; cases e2; exact .v _
      | 1=>cases e1; cases e2; exact treeP _ _ _
      | 2=>cases e1; cases e2; exact treeP _ _ _
      | 3=>cases e1; cases e2; exact treeI _ _ _
      | 4=>cases e1; cases e2; exact treeI _ _ _
      | 5=>cases e1; cases e2; exact treeI _ _ _
      | 6=>cases e1; cases e2; exact own_cvI wf2 (wf2.fF (by omega))
      | 7=>cases e1; cases e2; exact own_cvN wn2 (wn2.fF (by omega))
      | k + 8=>simp at e1
    have snd:∀ (S1:Store) (k:Nat) (zn:AV) (b1:Bool),k ≤ 100 → Fm S l S1 k [aI inp,pL lats,pL g.ands,aL aI outs,aL aI bads,aL aI cons,zf,zn] → Own (S.n + 4) S1 zf 3 (fair.map fun p=>[aI p]) → Apart zn zf →
        Own (S.n + 4) S1 zn 130 (((if b1 then [⟨108,0,⟨#[113]⟩⟩] else []):List Na).map Na.row) → 0 < outs.length →
        (∃ q182:AV,(∀ T:Store,Keep S1 T → shift (.p (S.n + 3) 0 0) 7 T fun v S=>v = q182 ∧ S = T) ∧ ∃ q184:AV,(∀ T:Store,Keep S1 T → ld1 q182 T fun v S=>v = q184 ∧ S = T) ∧ ∃ q186:AV,(∀ T:Store,Keep S1 T → shift (.p (S.n + 3) 0 0) 3 T fun v S=>v = q186 ∧ S = T) ∧
          ∃ q188:AV,(∀ T:Store,Keep S1 T → ld1 q186 T fun v S=>v = q188 ∧ S = T) ∧ ∃ q190:AV,(∀ T:Store,Keep S1 T → lenS q188 T fun v S=>v = q190 ∧ S = T) ∧ ∃ q192:AV,(∀ T:Store,Keep S1 T → bin .sub 0 q190 (.v (.int .i64 1)) T fun v S=>v = q192 ∧ S = T) ∧
          ∃ q194:AV,(∀ T:Store,Keep S1 T → bslN 9 1 3 [(.v (.string ByteArray.empty))] [(0,(.v (.string { data:=#[111,117,116] }))),(1,(.v (.string { data:=#[108,49] }))),(2,(.v (.string { data:=#[97,45,98] })))] T fun v S=>v = q194 ∧ S = T) ∧
          callV Tryz.prog (pickF S) [(.v (.int .i64 3))] S1 (fun v196 S1=>(∀ T:Store,Keep S1 T → bslN 9 1 3 [(.v (.string ByteArray.empty))] [(0,(.v (.string { data:=#[111,117,116] }))),(1,(.v (.string { data:=#[108,49] }))),(2,(.v (.string { data:=#[97,45,98] })))] T fun v S=>v = q194 ∧ S = T) ∧
            (∀ T:Store,Keep S1 T → bin .sub 0 q190 (.v (.int .i64 1)) T fun v S=>v = q192 ∧ S = T) ∧ (∀ T:Store,Keep S1 T → lenS q188 T fun v S=>v = q190 ∧ S = T) ∧ (∀ T:Store,Keep S1 T → ld1 q186 T fun v S=>v = q188 ∧ S = T) ∧ (∀ T:Store,Keep S1 T → shift (.p (S.n + 3) 0 0) 3 T fun v S=>v = q186 ∧ S = T) ∧
            (∀ T:Store,Keep S1 T → ld1 q182 T fun v S=>v = q184 ∧ S = T) ∧ (∀ T:Store,Keep S1 T → shift (.p (S.n + 3) 0 0) 7 T fun v S=>v = q182 ∧ S = T) ∧
            ∃ q204:AV,(∀ T:Store,Keep S1 T → ixS 9 1 q194 v196 T fun v S=>v = q204 ∧ S = T) ∧ ∃ q206:AV,(∀ T:Store,Keep S1 T → ld1 q204 T fun v S=>v = q206 ∧ S = T) ∧
            ∃ q208:AV,(∀ T:Store,Keep S1 T → bld [(0,1),(1,1),(2,1)] [(.v (.int .u8 0)),(.v (.int .i64 0)),(.v (.string ByteArray.empty))] [(0,(.v (.int .u8 111))),(1,q192),(2,q206)] T fun v S=>v = q208 ∧ S = T) ∧
            ∃ q210:AV,(∀ T:Store,Keep S1 T → bslN 130 3 1 [(.v (.int .u8 0)),(.v (.int .i64 0)),(.v (.string ByteArray.empty))] [(0,q208)] T fun v S=>v = q210 ∧ S = T) ∧ appS 130 3 32 q184 q210 S1 fun v212 S1 =>
            ∃ q213:AV,(∀ T:Store,Keep S1 T → shift (.p (S.n + 3) 0 0) 7 T fun v S=>v = q213 ∧ S = T) ∧ stN 1 q213 v212 S1 fun _ S1 =>
            ldN 8 (.p (S.n + 3) 0 0) S1 fun v S1=>stN 8 (.p (S.n + 1) 0 0) v S1 fun _ S2=>ldN 8 (.p (S.n + 1) 0 0) S2 fun v _=>∃ r tr,AEnd.ret v = .ret r ∧ Keep S S2 ∧ Cv (S2.frz (newer S.n)) S.n r tr ∧ ∃ c:Ci,tr = c.av ∧ MadeC c ∧ c.gr.vars = varsL l) (fun _ _=>False)):=by
      intro S1 k zn b1 hk fm wf hap wn hol
      have hsub:∀ (T:Store) (K:AV → Store → Prop),bin .sub 0 (aI outs.length) (.v (.int .i64 1)) T K = K (aI (outs.length - 1)) T:=fun T K=>bin_sub (by omega) (by omega) 0
      refine ⟨_,fun T hT=>by rw [shift_p]; exact ⟨rfl,rfl⟩,zn,fun T hT=>by rw [ld1_p (fm.kT hT) rfl rfl]; exact ⟨rfl,rfl⟩,_,fun T hT=>by rw [shift_p]; exact ⟨rfl,rfl⟩,aL aI outs,fun T hT=>by rw [ld1_p (fm.kT hT) rfl rfl]; exact ⟨rfl,rfl⟩,aI outs.length,fun T hT=>by rw [lenS_aL]; exact ⟨rfl,rfl⟩,_,fun T hT=>by rw [hsub]; exact ⟨rfl,rfl⟩,
        _,fun T hT=>bsl3 rfl rfl rfl ⟨rfl,rfl⟩,?_⟩
      refine fm.pick hl (by decide) (by omega) fun S2 fm n2 f2=>?_
      have p3:=pickV_rng hl (k:=k) (n:=3) (by decide)
      generalize pickV l k 3 = x at *
      obtain ⟨x,rfl⟩:=Int.eq_ofNat_of_zero_le p3.1
      have wf2:=wf.fm (by omega) n2 f2
      have wn2:=wn.fm (by omega) n2 f2
      refine ⟨fun T hT=>bsl3 rfl rfl rfl ⟨rfl,rfl⟩,fun T hT=>by rw [hsub]; exact ⟨rfl,rfl⟩,fun T hT=>by rw [lenS_aL]; exact ⟨rfl,rfl⟩,fun T hT=>by rw [ld1_p (fm.kT hT) rfl rfl]; exact ⟨rfl,rfl⟩,fun T hT=>by rw [shift_p]; exact ⟨rfl,rfl⟩,fun T hT=>by rw [ld1_p (fm.kT hT) rfl rfl]; exact ⟨rfl,rfl⟩,fun T hT=>by rw [shift_p]; exact ⟨rfl,rfl⟩,?_⟩
      obtain ⟨t,ht,hx⟩:∃ t:ByteArray,(t = ⟨#[111,117,116]⟩ ∨ t = ⟨#[108,49]⟩ ∨ t = ⟨#[97,45,98]⟩) ∧ ∀ (T:Store) (K:AV → Store → Prop),ixS 9 1 (.l [[.v (.string { data:=#[111,117,116] })],[.v (.string { data:=#[108,49] })],[.v (.string { data:=#[97,45,98] })]]) (aI x) T K = K (.q [.v (.string t)] 0) T:=by
        match x,p3 with
        | 0,_=>exact ⟨_,.inl rfl,fun T K=>ixS_l (i:=0) (by simp) rfl⟩
        | 1,_=>exact ⟨_,.inr (.inl rfl),fun T K=>ixS_l (i:=1) (by simp) rfl⟩
        | 2,_=>exact ⟨_,.inr (.inr rfl),fun T K=>ixS_l (i:=2) (by simp) rfl⟩
        | x + 3,h=>omega
      refine ⟨_,fun T hT=>by rw [hx]; exact ⟨rfl,rfl⟩,_,fun T hT=>by rw [ld1_q]; exact ⟨rfl,rfl⟩,_,fun T hT=>by rw [bld_of (cs:=[.v (.int .u8 111),aI (outs.length - 1),.v (.string t)]) rfl]; exact ⟨rfl,rfl⟩,_,fun T hT=>bslA3 ⟨rfl,rfl⟩,?_⟩
      refine wn2.app (by have:=fm.n; omega) (c:=[.v (.int .u8 111),aI (outs.length - 1),.v (.string t)]) rfl (by cases b1 <;> simp) (fun z S4 w4 b4 hz=>?_) rfl
      have n4:=b4.1
      have hn3:=fm.n
      have o4:∀ x,x < S.n + 4 → S4.obj x = S2.obj x:=fun x hx=>b4.2 x (by omega) (fun b m e=>by have:=wn2.lt e; omega)
      refine ⟨_,fun T hT=>by rw [shift_p]; exact ⟨rfl,rfl⟩,?_⟩
      replace fm:=fm.old n4 o4
      have wf4:=wf2.but b4 hap
      refine fm.st (by simp) (own_one w4) fun S5 fm n5 f5=>?_
      refine fin S5 _ z b1 true t fm (wf4.fm (by omega) n5 f5) (fun _=>⟨hol,ht⟩) ?_
      have w5:=w4.fm (by omega) n5 f5
      rw [List.map_append]
      exact w5
    refine fm.pick hl (by decide) (by omega) fun S2 fm n2 f2=>?_
    have wf2:=wf.fm (by omega) n2 f2
    have p3:=pickV_rng hl (k:=k) (n:=3) (by decide)
    generalize pickV l k 3 = x3 at *
    rw [bin_gtr,onB_v]
    refine gd_of (fun hx=>?_) (fun hx=>?_)
    · rw [shift_p,ld1_p fm.co rfl rfl,bld_of (cs:=[.v (.int .u8 108),aI 0,.v (.string ⟨#[113]⟩)]) rfl]
      refine bslA3 ?_
      refine (Own.nl (S.n + 4) S2 130).app (by have:=fm.n; omega) (c:=[.v (.int .u8 108),aI 0,.v (.string ⟨#[113]⟩)]) rfl (by simp) (fun z S4 w4 b4 hz=>?_) rfl
      have n4:=b4.1
      have hn3:=fm.n
      have o4:∀ x,x < S2.n → S4.obj x = S2.obj x:=fun x hx=>b4.2 x (by omega) (fun b m e=>by cases e)
      rw [shift_p]
      replace fm:=fm.old n4 fun x hx=>o4 x (by omega)
      have wf4:=wf2.but b4 (fun _ _ _ _ _ e=>by cases e)
      obtain ⟨mz,hmz⟩:=hz
      have hap:Apart z zf:=fun i b m b' m' e e'=>by
        rw [hmz] at e; injection e with e
        have:=wf2.lt e'; omega
      refine fm.st (by simp) (own_one w4) fun S5 fm n5 f5=>?_
      have w5:Own (S.n + 4) S5 z 130 ([⟨108,0,⟨#[113]⟩⟩].map Na.row):=w4.fm (by omega) n5 f5
      have wf5:=wf4.fm (by omega) n5 f5
      rw [shift_p,ld1_p fm.co rfl rfl,lenS_aL,bin_gtr,onB_v]
      refine gd_of (fun ho=>?_) (fun ho=>fin S5 _ z true false ⟨#[]⟩ fm wf5 (fun h=>by cases h) w5)
      have ho:0 < outs.length:=by have:=of_decide_eq_true ho; omega
      refine fm.pick hl (by decide) (by omega) fun S6 fm n6 f6=>?_
      have w6:=w5.fm (by omega) n6 f6
      have wf6:=wf5.fm (by omega) n6 f6
      rw [bin_gtr,onB_v]
      refine gd_of (fun _=>?_) (fun _=>fin S6 _ z true false ⟨#[]⟩ fm wf6 (fun h=>by cases h) w6)
      exact snd S6 _ z true (by omega) fm wf6 hap w6 ho
    · rw [shift_p,ld1_p fm.co rfl rfl,lenS_aL,bin_gtr,onB_v]
      refine gd_of (fun ho=>?_) (fun ho=>fin S2 _ .nl false false ⟨#[]⟩ fm wf2 (fun h=>by cases h) (Own.nl _ _ _))
      have ho:0 < outs.length:=by have:=of_decide_eq_true ho; omega
      refine fm.pick hl (by decide) (by omega) fun S6 fm n6 f6=>?_
      have wf6:=wf2.fm (by omega) n6 f6
      rw [bin_gtr,onB_v]
      refine gd_of (fun _=>?_) (fun _=>fin S6 _ .nl false false ⟨#[]⟩ fm wf6 (fun h=>by cases h) (Own.nl _ _ _))
      exact snd S6 _ .nl false (by omega) fm wf6 (fun _ _ _ _ _ e=>by cases e) (Own.nl _ _ _) ho
  have last4:∀ (S':Store) (k:Nat) (zo zb zc:AV) (bads cons:List Int),k ≤ 24 → Fm S l S' k [aI inp,pL lats,pL g.ands,zo,zb,zc,.nl,.nl] → Own (S.n + 4) S' zo 3 (outs.map fun p=>[aI p]) → Own (S.n + 4) S' zb 3 (bads.map fun p=>[aI p]) → Own (S.n + 4) S' zc 3 (cons.map fun p=>[aI p]) →
      bads.length ≤ 1 → cons.length ≤ 1 → (∀ x ∈ bads,g.lit x = true) → (∀ x ∈ cons,g.lit x = true) → ∀ X,
      callV Tryz.prog (pickF S) [(.v (.int .i64 4))] S' (fun v S'=>bin .quo 0 v (.v (.int .i64 2)) S' fun v S'=>loopV lv48_3 (vc Tryz.prog (c48.at_ [1,1,1,1,1,1,1,1,1,1,1,1,1,1,1,0,1,0,0]) (ms48.drop 4)) 156 (env48_3 (.p (S.n + 1) 0 0) (pickF S) (.p (S.n + 3) 0 0) (aI (2 * g.vars)) v) S'
        (blockK 6 (seqK (vc Tryz.prog (c48.at_ [1,1,1,1,1,1,1,1,1,1,1,1,1,1,1,1]) (ms48.drop 4)) (bodyK Tryz.prog r48 fun e S'=>∃ r tr,e = .ret r ∧ Keep S S' ∧ Cv (S'.frz (newer S.n)) S.n r tr ∧ ∃ c:Ci,tr = c.av ∧ MadeC c ∧ c.gr.vars = varsL l)))) X:=by
    intro S' k zo zb zc bads cons hk fm wo wb wc lb lc hbl hcl X
    refine fm.pick hl (by decide) (by omega) fun S2 fm n2 f2=>?_
    have p4:=pickV_rng hl (k:=k) (n:=4) (by decide)
    generalize pickV l k 4 = x4 at *
    have hd:0 ≤ x4.tdiv 2 ∧ x4.tdiv 2 ≤ 1:=by rw [Int.tdiv_eq_ediv_of_nonneg p4.1]; omega
    rw [bin_quo (by decide) (by omega) (by omega)]
    obtain ⟨r0,hr0⟩:=Int.eq_ofNat_of_zero_le hd.1
    rw [hr0]
    exact tail S2 _ zo zb zc bads cons r0 (by omega) (by omega) fm (wo.fm (by omega) n2 f2) (wb.fm (by omega) n2 f2) (wc.fm (by omega) n2 f2) lb lc hbl hcl
  have cons3:∀ (S':Store) (k:Nat) (zo zb:AV) (bads:List Int),k ≤ 22 → Fm S l S' k [aI inp,pL lats,pL g.ands,zo,zb,.nl,.nl,.nl] → Own (S.n + 4) S' zo 3 (outs.map fun p=>[aI p]) → Own (S.n + 4) S' zb 3 (bads.map fun p=>[aI p]) →
      bads.length ≤ 1 → (∀ x ∈ bads,g.lit x = true) → ∀ X:AV → Store → Prop,
      callV Tryz.prog (pickF S) [(.v (.int .i64 3))] S' (fun v S'=>bin .eql 0 v (.v (.int .i64 0)) S' fun v S'=>onB v fun b=>gd b
        (∃ q111:AV,(∀ T:Store,Keep S' T → shift (.p (S.n + 3) 0 0) 5 T fun v S=>v = q111 ∧ S = T) ∧ ∃ q113:AV,(∀ T:Store,Keep S' T → ld1 q111 T fun v S=>v = q113 ∧ S = T) ∧ callV Tryz.prog (pickF S) [aI (2 * g.vars)] S' (fun v115 S' =>
          (∀ T:Store,Keep S' T → ld1 q111 T fun v S=>v = q113 ∧ S = T) ∧ (∀ T:Store,Keep S' T → shift (.p (S.n + 3) 0 0) 5 T fun v S=>v = q111 ∧ S = T) ∧ ∃ q118:AV,(∀ T:Store,Keep S' T → bslN 3 1 1 [(.v (.int .i64 0))] [(0,v115)] T fun v S=>v = q118 ∧ S = T) ∧ appS 3 1 8 q113 q118 S' fun v120 S' =>
          ∃ q121:AV,(∀ T:Store,Keep S' T → shift (.p (S.n + 3) 0 0) 5 T fun v S=>v = q121 ∧ S = T) ∧ stN 1 q121 v120 S' fun _ S'=>callV Tryz.prog (pickF S) [(.v (.int .i64 4))] S' (fun v S'=>bin .quo 0 v (.v (.int .i64 2)) S' fun v S'=>loopV lv48_3 (vc Tryz.prog (c48.at_ [1,1,1,1,1,1,1,1,1,1,1,1,1,1,1,0,1,0,0]) (ms48.drop 4)) 156 (env48_3 (.p (S.n + 1) 0 0) (pickF S) (.p (S.n + 3) 0 0) (aI (2 * g.vars)) v) S'
        (blockK 6 (seqK (vc Tryz.prog (c48.at_ [1,1,1,1,1,1,1,1,1,1,1,1,1,1,1,1]) (ms48.drop 4)) (bodyK Tryz.prog r48 fun e S'=>∃ r tr,e = .ret r ∧ Keep S S' ∧ Cv (S'.frz (newer S.n)) S.n r tr ∧ ∃ c:Ci,tr = c.av ∧ MadeC c ∧ c.gr.vars = varsL l)))) X) (fun _ _=>False))
        (callV Tryz.prog (pickF S) [(.v (.int .i64 4))] S' (fun v S'=>bin .quo 0 v (.v (.int .i64 2)) S' fun v S'=>loopV lv48_3 (vc Tryz.prog (c48.at_ [1,1,1,1,1,1,1,1,1,1,1,1,1,1,1,0,1,0,0]) (ms48.drop 4)) 156 (env48_3 (.p (S.n + 1) 0 0) (pickF S) (.p (S.n + 3) 0 0) (aI (2 * g.vars)) v) S'
        (blockK 6 (seqK (vc Tryz.prog (c48.at_ [1,1,1,1,1,1,1,1,1,1,1,1,1,1,1,1]) (ms48.drop 4)) (bodyK Tryz.prog r48 fun e S'=>∃ r tr,e = .ret r ∧ Keep S S' ∧ Cv (S'.frz (newer S.n)) S.n r tr ∧ ∃ c:Ci,tr = c.av ∧ MadeC c ∧ c.gr.vars = varsL l)))) X)) X:=by
    intro S' k zo zb bads hk fm wo wb lb hbl X
    refine fm.pick hl (by decide) (by omega) fun S2 fm n2 f2=>?_
    have wo2:=wo.fm (by omega) n2 f2
    have wb2:=wb.fm (by omega) n2 f2
    rw [bin_eql,onB_v]
    refine gd_of (fun _=>?_) (fun _=>last4 S2 _ zo zb .nl bads [] (by omega) fm wo2 wb2 (Own.nl _ _ _) lb (by simp) hbl (fun _ h=>by cases h) X)
    refine ⟨_,fun T hT=>by rw [shift_p]; exact ⟨rfl,rfl⟩,.nl,fun T hT=>by rw [ld1_p (fm.kT hT) rfl rfl]; exact ⟨rfl,rfl⟩,?_⟩
    refine fm.pick hl hvp (by omega) fun S3 fm n3 f3=>?_
    have pn:=plit (pickV_rng hl (k:=k + 1) hvp)
    generalize pickV l (k + 1) (2 * g.vars) = n at *
    have hn1:∀ x ∈ [n],g.lit x = true:=fun x hx=>by rw [List.mem_singleton.1 hx]; exact pn
    have wo3:=wo2.fm (by omega) n3 f3
    have wb3:=wb2.fm (by omega) n3 f3
    refine ⟨fun T hT=>by rw [ld1_p (fm.kT hT) rfl rfl]; exact ⟨rfl,rfl⟩,fun T hT=>by rw [shift_p]; exact ⟨rfl,rfl⟩,_,fun T hT=>bsl1 rfl (fun _ h=>by cases h) ⟨rfl,rfl⟩,?_⟩
    refine (Own.nl (S.n + 4) S3 3).app (by have:=fm.n; omega) (c:=[aI n]) rfl (by simp) (fun z S4 w4 b4 hz=>?_) rfl
    have n4:=b4.1
    have hn3:=fm.n
    have o4:∀ x,x < S3.n → S4.obj x = S3.obj x:=fun x hx=>b4.2 x (by omega) (fun b m e=>by cases e)
    refine ⟨_,fun T hT=>by rw [shift_p]; exact ⟨rfl,rfl⟩,?_⟩
    replace fm:=fm.old n4 fun x hx=>o4 x (by omega)
    have wo4:=wo3.but b4 (fun _ _ _ _ _ e=>by cases e)
    have wb4:=wb3.but b4 (fun _ _ _ _ _ e=>by cases e)
    refine fm.st (by simp) (own_one w4) fun S5 fm n5 f5=>?_
    exact last4 S5 _ zo zb z bads [n] (by omega) fm (wo4.fm (by omega) n5 f5) (wb4.fm (by omega) n5 f5) (w4.fm (by omega) n5 f5) lb (by simp) hbl hn1 X
  refine fm.pick hl (by decide) (by omega) fun S2 fm n2 f2=>?_
  have wo2:=wo.fm (by omega) n2 f2
  rw [bin_eql,onB_v]
  refine gd_of (fun _=>?_) (fun _=>cons3 S2 _ zo .nl [] (by omega) fm wo2 (Own.nl _ _ _) (by simp) (fun _ h=>by cases h) _)
  refine ⟨_,fun T hT=>by rw [shift_p]; exact ⟨rfl,rfl⟩,.nl,fun T hT=>by rw [ld1_p (fm.kT hT) rfl rfl]; exact ⟨rfl,rfl⟩,?_⟩
  refine fm.pick hl hvp (by omega) fun S3 fm n3 f3=>?_
  have pn:=plit (pickV_rng hl (k:=k + 1) hvp)
  generalize pickV l (k + 1) (2 * g.vars) = n at *
  have hn1:∀ x ∈ [n],g.lit x = true:=fun x hx=>by rw [List.mem_singleton.1 hx]; exact pn
  have wo3:=wo2.fm (by omega) n3 f3
  refine ⟨fun T hT=>by rw [ld1_p (fm.kT hT) rfl rfl]; exact ⟨rfl,rfl⟩,fun T hT=>by rw [shift_p]; exact ⟨rfl,rfl⟩,_,fun T hT=>bsl1 rfl (fun _ h=>by cases h) ⟨rfl,rfl⟩,?_⟩
  refine (Own.nl (S.n + 4) S3 3).app (by have:=fm.n; omega) (c:=[aI n]) rfl (by simp) (fun z S4 w4 b4 hz=>?_) rfl
  have n4:=b4.1
  have hn3:=fm.n
  have o4:∀ x,x < S3.n → S4.obj x = S3.obj x:=fun x hx=>b4.2 x (by omega) (fun b m e=>by cases e)
  refine ⟨_,fun T hT=>by rw [shift_p]; exact ⟨rfl,rfl⟩,?_⟩
  replace fm:=fm.old n4 fun x hx=>o4 x (by omega)
  have wo4:=wo3.but b4 (fun _ _ _ _ _ e=>by cases e)
  refine fm.st (by simp) (own_one w4) fun S5 fm n5 f5=>?_
  exact cons3 S5 _ zo z [n] (by omega) fm (wo4.fm (by omega) n5 f5) (w4.fm (by omega) n5 f5) (by simp) hn1 _
theorem nextL_len (c:Ci) (v vs:List Bool):(nextL c v vs).length ≤ 2 ^ c.inputs.toNat:=by
  simp only [nextL,List.length_map]
  have:=List.length_filter_le (fun x=>vs.getD ((afterV c v c.latches.length).toNat + x) false) (List.range (2 ^ c.inputs.toNat))
  simpa using this
structure SpSmall (s:Sp):Prop where
  h1:s.valid.length ≤ 1024
  h2:s.initial.length ≤ 1024
  h3:s.next.length ≤ 1024
  h4:∀ r ∈ s.next,r.length ≤ 1024
  h5:s.fair.length ≤ 2000
  h6:∀ r ∈ s.fair,r.length ≤ 1024
theorem spOf_small {c:Ci} (h:c.right = true) (h10:¬ 10 < c.gr.inputs):SpSmall (spOf c):=by
  obtain ⟨g1,g2,g3⟩:=gr_inp h
  have hR:=right_c.1 h
  have hN:2 ^ c.gr.inputs.toNat ≤ 1024:=Nat.pow_le_pow_right (by decide) (show c.gr.inputs.toNat ≤ 10 by omega)
  have hI:2 ^ c.inputs.toNat ≤ 1024:=Nat.pow_le_pow_right (by decide) (show c.inputs.toNat ≤ 10 by omega)
  refine ⟨by simp only [spOf,validOf,List.length_map,List.length_range]; exact hN,by simp only [spOf,List.length_map,List.length_range]; exact hN,by simp only [spOf,List.length_map,List.length_range]; exact hN,fun r hr=>?_,by simp only [spOf,List.length_map]; exact hR.2.2.2.2.2.1,fun r hr=>?_⟩
  · simp only [spOf,List.mem_map] at hr
    obtain ⟨s,_,rfl⟩:=hr
    split
    · have:=nextL_len c ((valsOf c).getD s []) (validOf c)
      omega
    · simp
  · simp only [spOf,List.mem_map] at hr
    obtain ⟨s,_,rfl⟩:=hr
    rw [List.length_map,List.length_range]
    exact hN
def ca0:Ci:=⟨0,[(3,0)],[],[],[],[],[],[]⟩
theorem names0 {c:Ci} (h:c.names = []):namesB c = true:=by
  simp only [namesB,decide_eq_true_eq]
  exact ⟨fun i hi=>by simp [h] at hi,fun i hi=>by simp [h] at hi,by simp [h]⟩
theorem ca0_ok:ca0.ok:=by
  refine ⟨⟨by decide,by decide⟩,by decide,by decide,fun p hp=>?_,(fun p hp=>by cases hp),⟨(fun _ h=>by cases h),by decide⟩,⟨(fun _ h=>by cases h),by decide⟩,⟨(fun _ h=>by cases h),by decide⟩,⟨(fun _ h=>by cases h),by decide⟩,(fun _ h=>by cases h),by decide⟩
  have:p = (3,0):=by simpa [ca0] using hp
  subst this
  exact ⟨⟨by decide,by decide⟩,⟨by decide,by decide⟩⟩
theorem ca0_right:ca0.right = true:=by
  refine right_c.2 ⟨by decide,by decide,by decide,by decide,by decide,by decide,by decide,by decide,by decide,by decide,by decide,by decide,names0 rfl⟩
theorem ca0_sp:spaceB ca0 = (⟨1,[true,true],[true,false],[[1],[0]],[]⟩,0):=by
  rw [spaceB,ca0_right,if_neg (by decide),if_neg (by decide)]
  have h1:(spOf ca0).bits = 1:=by decide
  have h2:(spOf ca0).valid = [true,true]:=by decide
  have h3:(spOf ca0).initial = [true,false]:=by decide
  have h4:(spOf ca0).next = [[1],[0]]:=by decide
  have h5:(spOf ca0).fair = []:=by decide
  generalize spOf ca0 = s at *
  cases s
  simp_all
theorem callF_cv' {P:Program} {f:FuncId} {args args2:List AV} {r:AV} (h:Ans P f args2 r) {S:Store} (hl:args.length = args2.length) (hcv:∀ (k:Nat) (u u2:AV),args[k]? = some u → args2[k]? = some u2 → Cv S S.n u u2) {Q:AEnd → Store → Prop} {K:AV → Store → Prop} (k:K r S):callF P f args S Q K :=
  .inl (ACalls.conv hl hcv (ACalls.mono (h S) fun e S' h=>by obtain ⟨rfl,rfl⟩:=h; exact k))
theorem cv_ci {S:Store} {n:Nat} {i l l':AV} (hi:Cv S n i i) (h:Cv S n l l'):Cv S n (.a [i,l,.nl,.nl,.nl,.nl,.nl,.nl]) (.a [i,l',.l [],.l [],.l [],.l [],.l [],.l []]) :=
  .a _ _ rfl fun k u u2 hk hk2=>by
    match k with
    | 0=>cases hk; cases hk2; exact hi
    | 1=>cases hk; cases hk2; exact h
    | 2 | 3 | 4 | 5 | 6 | 7=>cases hk; cases hk2; exact .nl
    | k + 8=>simp at hk
theorem treeN (l:List Na):Tree (nL l):=Tree.l fun c hc u hu=>by
  obtain ⟨a,ha,rfl⟩:=List.mem_map.1 hc
  unfold Na.row at hu
  simp only [List.mem_cons,List.not_mem_nil,or_false] at hu
  rcases hu with rfl | rfl | rfl <;> exact Tree.v _
theorem made_sp {c:Ci} (h1:c.right = true) (hi:c.inputs ≤ 3) (hl:c.latches.length ≤ 3):spaceB c = (spOf c,0) ∧ ∃ m:Nat,c.inputs.toNat + c.latches.length = m ∧ m ≤ 6 ∧ c.gr.inputs = m ∧ c.inputs = (c.inputs.toNat:Int) ∧ (validOf c).length = 2 ^ m ∧ (spOf c).initial.length = 2 ^ m ∧ (spOf c).next.length = 2 ^ m:=by
  obtain ⟨g1,g2,g3⟩:=gr_inp h1
  have hin:=(right_c.1 h1).1
  refine ⟨by rw [spaceB,if_neg (by rw [h1]; decide),if_neg (by omega)],c.inputs.toNat + c.latches.length,rfl,by omega,by omega,by omega,?_,?_,?_⟩
  · have:c.gr.inputs.toNat = c.inputs.toNat + c.latches.length:=by omega
    simp [validOf,this]
  · have:c.gr.inputs.toNat = c.inputs.toNat + c.latches.length:=by omega
    simp [spOf,this]
  · have:c.gr.inputs.toNat = c.inputs.toNat + c.latches.length:=by omega
    simp [spOf,this]
section
variable {H:Type} {enc:TypeId × Value → H} {w:World} {sp:Nat → Bool} {held:Bool}
theorem u8_wf {n:Int} (h:(Lit.int .u8 n).wf = true):0 ≤ n ∧ n < 256:=by
  simp [Lit.wf,IntKind.min,IntKind.max,IntKind.bits,IntKind.signed] at h
  omega
theorem u16_wf {n:Int} (h:(Lit.int .u16 n).wf = true):0 ≤ n ∧ n < 65536:=by
  simp [Lit.wf,IntKind.min,IntKind.max,IntKind.bits,IntKind.signed] at h
  omega
theorem opU:Opens enc Tryz.prog w sp held 5 1 (fun n:Int=>[AV.v (.int .u8 n)]) (fun n=>(Lit.int .u8 n).wf = true):=opens_int Tryz.underlying5
theorem opV:Opens enc Tryz.prog w sp held 126 1 (fun n:Int=>[aW16 n]) (fun n=>(Lit.int .u16 n).wf = true):=opens_int Tryz.underlying126
theorem opVs:Opens enc Tryz.prog w sp held 33 1 (fun l:List Int=>[aL aW16 l]) (fun l=>l.length ≤ maxLen ∧ ∀ a ∈ l,(Lit.int .u16 a).wf = true):=opens_slice Tryz.underlying33 (by kernel_rfl) (by decide) opV
end
theorem J_eqS {a b:ByteArray} {S0:Store} {P:AV → Prop}:(∃ q,(bin .eql 0 (.v (.string a)) (.v (.string b)) S0 fun v S=>v = q ∧ S = S0) ∧ P q) = P (aB (decide (a = b))):=J_by (op:=fun K=>bin .eql 0 (.v (.string a)) (.v (.string b)) S0 K) fun K=>bin_eqlS _ _ _
theorem J_lenfoL {l:List Fo} {S0:Store} {P:AV → Prop}:(∃ q,(lenS (foL l) S0 fun v S=>v = q ∧ S = S0) ∧ P q) = P (aI l.length):=J_by (op:=fun K=>lenS (foL l) S0 K) fun K=>lenS_foL _
theorem kids_at (k:Int) {f:FuncId} {m:AV → Store → (AEnd → Store → Prop) → Prop} (hm:∀ (S:Store) (Q:AEnd → Store → Prop),m (aI k) S Q → ACalls Tryz.prog f [aI k] S Q)
    (hd:∀ (S:Store) (Q:AEnd → Store → Prop),m (aI k) S Q = (bin .lss 0 (aI k) (.v (.int .i64 1)) S fun v S=>onB v fun b=>gd b (Q (.ret (aI (-1))) S) (bin .gtr 0 (aI k) (.v (.int .i64 18)) S fun v S=>onB v fun b=>gd b (Q (.ret (aI (-1))) S) (bin .leq 0 (aI k) (.v (.int .i64 3)) S fun v S=>onB v fun b=>gd b (Q (.ret (aI 0)) S)
      (bin .eql 0 (aI k) (.v (.int .i64 4)) S fun v S=>onB v fun b=>gd b (Q (.ret (aI 1)) S) (bin .geq 0 (aI k) (.v (.int .i64 9)) S fun v S=>onB v fun b=>gd b (bin .leq 0 (aI k) (.v (.int .i64 14)) S fun v S=>onB v fun b=>gd b (Q (.ret (aI 1)) S) (Q (.ret (aI 2)) S)) (Q (.ret (aI 2)) S))))))) :
    Ans Tryz.prog f [aI k] (aI (kidsN k)):=by
  intro S
  refine hm S _ ?_
  rw [hd,bin_lss,onB_v]
  unfold kidsN
  refine gd_of (fun h=>⟨by rw [if_pos (.inl (of_decide_eq_true h))],rfl⟩) (fun h1=>?_)
  have h1:=of_decide_eq_false h1
  rw [bin_gtr,onB_v]
  refine gd_of (fun h=>⟨by rw [if_pos (.inr (of_decide_eq_true h))],rfl⟩) (fun h2=>?_)
  have h2:=of_decide_eq_false h2
  rw [if_neg (by omega),bin_leq,onB_v]
  refine gd_of (fun h=>⟨by rw [if_pos (of_decide_eq_true h)],rfl⟩) (fun h3=>?_)
  have h3:=of_decide_eq_false h3
  rw [if_neg h3,bin_eql,onB_v]
  refine gd_of (fun h=>⟨by rw [if_pos (.inl (of_decide_eq_true h))],rfl⟩) (fun h4=>?_)
  have h4:=of_decide_eq_false h4
  rw [bin_geq,onB_v]
  refine gd_of (fun h5=>?_) (fun h5=>?_)
  · have h5:=of_decide_eq_true h5
    rw [bin_leq,onB_v]
    refine gd_of (fun h=>⟨by rw [if_pos (.inr ⟨h5,of_decide_eq_true h⟩)],rfl⟩) (fun h=>⟨by have:=of_decide_eq_false h; rw [if_neg (by omega)],rfl⟩)
  · have h5:=of_decide_eq_false h5
    exact ⟨by rw [if_neg (by omega)],rfl⟩
theorem ans71 (k:Int):Ans Tryz.prog 71 [aI k] (aI (kidsN k)):=kids_at k (m:=m71) (fun S Q h=>calls71 h) fun S Q=>rfl
theorem ans64 (k:Int):Ans Tryz.prog 64 [aI k] (aI (kidsN k)):=kids_at k (m:=m64) (fun S Q h=>calls64 h) fun S Q=>rfl
theorem at119 {l:List Fo} (hl:l.length ≤ 9223372036854775807) {g:Fo → Bool} {fn:FuncId} {fs cs:List AV} {S:Store}
    (hf:∀ x,x ∈ l → AnsAt Tryz.prog fn (fs ++ [x.av] ++ cs) S (aB (g x))):AnsAt Tryz.prog 119 [foL l,.f (.func fn) fs cs] S (aI (idxOf (l.findIdx? g))):=by
  refine calls119 ?_
  unfold m119
  rw [lenS_foL]
  refine loop119_0 (fun y S'=>S' = S ∧ ∃ i:Nat,y = aI i ∧ i ≤ l.length ∧ ∀ k (hk:k < l.length),k < i → g l[k] = false) (fun y _=>l.length - ((intA y).getD 0).toNat) ⟨rfl,0,rfl,Nat.zero_le _,fun k _ h=>absurd h (Nat.not_lt_zero _)⟩ ?_
  rintro _ _ ⟨rfl,i,rfl,hi,hk⟩ KE hKE
  unfold b119_0
  rw [bin_lss,onB_v]
  refine gd_of (fun h=>?_) (fun h=>?_)
  · have hlt:i < l.length:=by simpa using h
    rw [ixS_foL hlt,ldN_q (Fo.row_len _)]
    refine callV_at (hf _ (List.getElem_mem hlt)) ?_
    rw [onB_v]
    refine gd_of (fun hg=>⟨?_,rfl⟩) (fun hg=>?_)
    · rw [find_at hlt hg (fun k hk'=>hk k _ hk')]; rfl
    · rw [bin_add (by omega) (by omega)]
      refine hKE _ _ ⟨rfl,i + 1,rfl,hlt,fun k hk1 hk2=>?_⟩ ?_
      · by_cases e:k = i
        · subst e; exact hg
        · exact hk k hk1 (by omega)
      · simp [intA]; omega
  · have hge:i = l.length:=by simp at h; omega
    subst hge
    rw [find_none (fun k hk'=>hk k hk' hk')]
    exact ⟨rfl,rfl⟩
theorem at72 {l:List Fo} (hl:l.length ≤ 9223372036854775807) {g:Fo → Bool} {fn:FuncId} {fs cs:List AV} {S:Store}
    (hf:∀ x,x ∈ l → AnsAt Tryz.prog fn (fs ++ [x.av] ++ cs) S (aB (g x))):AnsAt Tryz.prog 72 [foL l,.f (.func fn) fs cs] S (aB (l.any g)):=by
  refine calls72 ?_
  unfold m72
  refine callF_at (at119 hl hf) ?_
  rw [bin_geq,idx_any]
  exact ⟨rfl,rfl⟩
theorem any_notF {l:List Fo} {g:Fo → Bool}:l.any (fun x=>!g x) = !l.all g:=by
  induction l with
  | nil=>rfl
  | cons a l ih=>rw [List.any_cons,List.all_cons,ih,Bool.not_and]
theorem Fo.ok.inv {k:Int} {n:ByteArray} {l:Int} {ks:List Fo} (h:Fo.ok (.mk k n l ks)):i64R k ∧ i64R l ∧ n.size ≤ 9223372036854775807 ∧ ks.length ≤ 1000000 ∧ ∀ f ∈ ks,Fo.ok f:=by
  cases h with
  | mk k n l ks h1 h2 h3 h4 h=>exact ⟨h1,h2,h3,h4,h⟩
theorem at70 {S:Store} {id t:Nat} {d:Int} {f:Fo} {b:Bool} (h:S.obj id = some (.cells t [[aI d]] true)) (hid:id < S.n) (h0:0 < d) (hd:i64R d) (hr:Ans Tryz.prog 43 [f.av,aI (d - 1)] (aB b)) :
    AnsAt Tryz.prog 70 [f.av,.p id 0 0] S (aB (!b)):=by
  refine ACalls.ans_v (calls70 ?_)
  unfold m70 Fo.av
  refine boxA_of (Fo.row_len f) fun S1 k1 n1 o1=>?_
  rw [ldN_p (n:=4) o1 (Fo.row_len f),ld1_p ((k1.2 _ hid).trans h) rfl rfl,bin_sub (by have:=hd.2; omega) (by have:=hd.2; omega)]
  refine callF_ans hr ?_
  rw [un_not]
  exact ⟨rfl,k1⟩
theorem ans43:∀ (f:Fo),f.ok → ∀ d,i64R d → Ans Tryz.prog 43 [f.av,aI d] (aB (f.mayB d)):=by
  intro f
  induction f using Fo.ind with
  | h k n l ks ih =>
    intro hok d hd S
    obtain ⟨h1,h2,h3,h4,h5⟩:=hok.inv
    refine ACalls.ans_v (calls43 ?_)
    unfold m43 Fo.av
    rw [Fo.row_mk,Fo.mayB_mk]
    refine boxA_of rfl fun S1 k1 n1 o1=>?_
    refine box1_of rfl fun S2 k2 n2 o2=>?_
    have p2:=(k2.2 _ (by omega)).trans o1
    have kk:=k1.trans k2
    have hcont:0 < d → AnsAt Tryz.prog 72 [foL ks,.f (.func 70) [] [.p S1.n 0 0]] S2 (aB (!ks.all fun f=>f.mayB (d - 1))):=fun h0=>by
      rw [← any_notF]
      exact at72 (by omega) fun x hx=>at70 o2 (by omega) h0 hd (ih x hx (h5 x hx) (d - 1) ⟨by have:=hd.2; omega,by have:=hd.2; omega⟩)
    rw [shift_p,ld1_p p2 rfl rfl,bin_eql,onB_v]
    have hk:=ans71 k
    have fin:∀ (b:Bool) (E:AEnd),b = (decide (0 < d) && (decide (l = 0 ∨ 0 < l ∧ k = 3) && (decide (n = (⟨#[]⟩:ByteArray)) && (decide ((ks.length:Int) = kidsN k) && ks.all fun f=>f.mayB (d - 1))))) → E = .ret (aB b) →
        E = .ret (aB (decide (0 < d) && (decide (l = 0 ∨ 0 < l ∧ k = 3) && (decide (n = (⟨#[]⟩:ByteArray)) && (decide ((ks.length:Int) = kidsN k) && ks.all fun f=>f.mayB (d - 1)))))) ∧ Keep S S2:=fun b E h1 h2=>⟨by rw [← h1]; exact h2,kk⟩
    refine gd_of (fun hl0=>?_) (fun hl0=>?_)
    · have hlit:decide (l = 0 ∨ 0 < l ∧ k = 3) = true:=decide_eq_true (.inl (of_decide_eq_true hl0))
      show ∃ q:AV,_
      cases e1:decide (0 < d) with
      | false =>
        (repeat (first | with_reducible_and_instances (first | refine WJ ?_ | refine W (J_ldp o2 (by with_unfolding_all rfl) (by with_unfolding_all rfl)) ?_ | refine W (J_ldp p2 (by with_unfolding_all rfl) (by with_unfolding_all rfl)) ?_ | refine W (gd_T e1) ?_ | refine W (gd_F e1) ?_ | refine W (gd_nT e1) ?_ | refine W (gd_nF e1) ?_ | refine W (J_ldq (by with_unfolding_all rfl)) ?_)))
        exact ⟨by rw [Bool.false_and],kk⟩
      | true =>
        cases e2:decide (n = (⟨#[]⟩:ByteArray)) with
        | false =>
          (repeat (first | with_reducible_and_instances (first | refine WJ ?_ | refine W (J_ldp o2 (by with_unfolding_all rfl) (by with_unfolding_all rfl)) ?_ | refine W (J_ldp p2 (by with_unfolding_all rfl) (by with_unfolding_all rfl)) ?_ | refine W (J_eqS) ?_ | refine W (gd_T e1) ?_ | refine W (gd_F e1) ?_ | refine W (gd_nT e1) ?_ | refine W (gd_nF e1) ?_ | refine W (gd_T e2) ?_ | refine W (gd_F e2) ?_ | refine W (gd_nT e2) ?_ | refine W (gd_nF e2) ?_ | refine W (J_ldq (by with_unfolding_all rfl)) ?_)))
          exact ⟨by rw [Bool.true_and,Bool.false_and,Bool.and_false],kk⟩
        | true =>
          cases e3:decide ((ks.length:Int) = kidsN k) with
          | false =>
            (repeat (first | with_reducible_and_instances (first | refine WJ ?_ | refine W (J_ldp o2 (by with_unfolding_all rfl) (by with_unfolding_all rfl)) ?_ | refine W (J_ldp p2 (by with_unfolding_all rfl) (by with_unfolding_all rfl)) ?_ | refine W (J_eqS) ?_ | refine W (J_lenfoL) ?_ | refine W (gd_T e1) ?_ | refine W (gd_F e1) ?_ | refine W (gd_nT e1) ?_ | refine W (gd_nF e1) ?_ | refine W (gd_T e2) ?_ | refine W (gd_F e2) ?_ | refine W (gd_nT e2) ?_ | refine W (gd_nF e2) ?_ | refine W (gd_T e3) ?_ | refine W (gd_F e3) ?_ | refine W (gd_nT e3) ?_ | refine W (gd_nF e3) ?_ | refine W (J_ldq (by with_unfolding_all rfl)) ?_) | refine J_cA (hk) rfl rfl ?_ | refine C_A (hk) rfl rfl ?_))
            exact ⟨by rw [Bool.true_and,Bool.true_and,Bool.false_and,Bool.and_false],kk⟩
          | true =>
            (repeat (first | with_reducible_and_instances (first | refine WJ ?_ | refine W (J_ldp o2 (by with_unfolding_all rfl) (by with_unfolding_all rfl)) ?_ | refine W (J_ldp p2 (by with_unfolding_all rfl) (by with_unfolding_all rfl)) ?_ | refine W (J_eqS) ?_ | refine W (J_lenfoL) ?_ | refine W (gd_T e1) ?_ | refine W (gd_F e1) ?_ | refine W (gd_nT e1) ?_ | refine W (gd_nF e1) ?_ | refine W (gd_T e2) ?_ | refine W (gd_F e2) ?_ | refine W (gd_nT e2) ?_ | refine W (gd_nF e2) ?_ | refine W (gd_T e3) ?_ | refine W (gd_F e3) ?_ | refine W (gd_nT e3) ?_ | refine W (gd_nF e3) ?_ | refine W (J_ldq (by with_unfolding_all rfl)) ?_) | refine J_cI (hcont (of_decide_eq_true e1)) rfl rfl ?_ | refine C_I (hcont (of_decide_eq_true e1)) rfl rfl ?_ | refine J_cA (hk) rfl rfl ?_ | refine C_A (hk) rfl rfl ?_))
            exact ⟨by rw [hlit,Bool.true_and,Bool.true_and,Bool.true_and,Bool.true_and,Bool.not_not],kk⟩
    · have hl0':=of_decide_eq_false hl0
      rw [shift_p,ld1_p p2 rfl rfl,bin_gtr,onB_v]
      refine gd_of (fun hl1=>?_) (fun hl1=>?_)
      · have hlit:decide (l = 0 ∨ 0 < l ∧ k = 3) = decide (k = 3):=decide_eq_decide.2 ⟨fun h=>by rcases h with h | h; exact absurd h hl0'; exact h.2,fun h=>.inr ⟨of_decide_eq_true hl1,h⟩⟩
        rw [shift_p,ld1_p p2 rfl rfl,bin_eql,hlit]
        show ∃ q:AV,_
        cases e1:decide (0 < d) with
        | false =>
          (repeat (first | with_reducible_and_instances (first | refine WJ ?_ | refine W (J_ldp o2 (by with_unfolding_all rfl) (by with_unfolding_all rfl)) ?_ | refine W (J_ldp p2 (by with_unfolding_all rfl) (by with_unfolding_all rfl)) ?_ | refine W (gd_T e1) ?_ | refine W (gd_F e1) ?_ | refine W (gd_nT e1) ?_ | refine W (gd_nF e1) ?_ | refine W (J_ldq (by with_unfolding_all rfl)) ?_)))
          exact ⟨by rw [Bool.false_and],kk⟩
        | true =>
          cases e4:decide (k = 3) with
          | false =>
            (repeat (first | with_reducible_and_instances (first | refine WJ ?_ | refine W (J_ldp o2 (by with_unfolding_all rfl) (by with_unfolding_all rfl)) ?_ | refine W (J_ldp p2 (by with_unfolding_all rfl) (by with_unfolding_all rfl)) ?_ | refine W (gd_T e1) ?_ | refine W (gd_F e1) ?_ | refine W (gd_nT e1) ?_ | refine W (gd_nF e1) ?_ | refine W (J_ldq (by with_unfolding_all rfl)) ?_)))
            exact ⟨by rw [Bool.false_and,Bool.and_false],kk⟩
          | true =>
            cases e2:decide (n = (⟨#[]⟩:ByteArray)) with
            | false =>
              (repeat (first | with_reducible_and_instances (first | refine WJ ?_ | refine W (J_ldp o2 (by with_unfolding_all rfl) (by with_unfolding_all rfl)) ?_ | refine W (J_ldp p2 (by with_unfolding_all rfl) (by with_unfolding_all rfl)) ?_ | refine W (J_eqS) ?_ | refine W (gd_T e1) ?_ | refine W (gd_F e1) ?_ | refine W (gd_nT e1) ?_ | refine W (gd_nF e1) ?_ | refine W (gd_T e2) ?_ | refine W (gd_F e2) ?_ | refine W (gd_nT e2) ?_ | refine W (gd_nF e2) ?_ | refine W (J_ldq (by with_unfolding_all rfl)) ?_)))
              exact ⟨by rw [Bool.true_and,Bool.true_and,Bool.false_and],kk⟩
            | true =>
              cases e3:decide ((ks.length:Int) = kidsN k) with
              | false =>
                (repeat (first | with_reducible_and_instances (first | refine WJ ?_ | refine W (J_ldp o2 (by with_unfolding_all rfl) (by with_unfolding_all rfl)) ?_ | refine W (J_ldp p2 (by with_unfolding_all rfl) (by with_unfolding_all rfl)) ?_ | refine W (J_eqS) ?_ | refine W (J_lenfoL) ?_ | refine W (gd_T e1) ?_ | refine W (gd_F e1) ?_ | refine W (gd_nT e1) ?_ | refine W (gd_nF e1) ?_ | refine W (gd_T e2) ?_ | refine W (gd_F e2) ?_ | refine W (gd_nT e2) ?_ | refine W (gd_nF e2) ?_ | refine W (gd_T e3) ?_ | refine W (gd_F e3) ?_ | refine W (gd_nT e3) ?_ | refine W (gd_nF e3) ?_ | refine W (J_ldq (by with_unfolding_all rfl)) ?_) | refine J_cA (hk) rfl rfl ?_ | refine C_A (hk) rfl rfl ?_))
                exact ⟨by rw [Bool.true_and,Bool.true_and,Bool.true_and,Bool.false_and],kk⟩
              | true =>
                (repeat (first | with_reducible_and_instances (first | refine WJ ?_ | refine W (J_ldp o2 (by with_unfolding_all rfl) (by with_unfolding_all rfl)) ?_ | refine W (J_ldp p2 (by with_unfolding_all rfl) (by with_unfolding_all rfl)) ?_ | refine W (J_eqS) ?_ | refine W (J_lenfoL) ?_ | refine W (gd_T e1) ?_ | refine W (gd_F e1) ?_ | refine W (gd_nT e1) ?_ | refine W (gd_nF e1) ?_ | refine W (gd_T e2) ?_ | refine W (gd_F e2) ?_ | refine W (gd_nT e2) ?_ | refine W (gd_nF e2) ?_ | refine W (gd_T e3) ?_ | refine W (gd_F e3) ?_ | refine W (gd_nT e3) ?_ | refine W (gd_nF e3) ?_ | refine W (J_ldq (by with_unfolding_all rfl)) ?_) | refine J_cI (hcont (of_decide_eq_true e1)) rfl rfl ?_ | refine C_I (hcont (of_decide_eq_true e1)) rfl rfl ?_ | refine J_cA (hk) rfl rfl ?_ | refine C_A (hk) rfl rfl ?_))
                exact ⟨by rw [Bool.true_and,Bool.true_and,Bool.true_and,Bool.true_and,Bool.not_not],kk⟩
      · have hlit:decide (l = 0 ∨ 0 < l ∧ k = 3) = false:=decide_eq_false fun h=>by rcases h with h | h; exact absurd h hl0'; exact absurd h.1 (of_decide_eq_false hl1)
        show ∃ q:AV,_
        rw [hlit]
        cases e1:decide (0 < d) with
        | false =>
          (repeat (first | with_reducible_and_instances (first | refine WJ ?_ | refine W (J_ldp o2 (by with_unfolding_all rfl) (by with_unfolding_all rfl)) ?_ | refine W (J_ldp p2 (by with_unfolding_all rfl) (by with_unfolding_all rfl)) ?_ | refine W (gd_T e1) ?_ | refine W (gd_F e1) ?_ | refine W (gd_nT e1) ?_ | refine W (gd_nF e1) ?_ | refine W (J_ldq (by with_unfolding_all rfl)) ?_)))
          exact ⟨by rw [Bool.false_and],kk⟩
        | true =>
          (repeat (first | with_reducible_and_instances (first | refine WJ ?_ | refine W (J_ldp o2 (by with_unfolding_all rfl) (by with_unfolding_all rfl)) ?_ | refine W (J_ldp p2 (by with_unfolding_all rfl) (by with_unfolding_all rfl)) ?_ | refine W (gd_T e1) ?_ | refine W (gd_F e1) ?_ | refine W (gd_nT e1) ?_ | refine W (gd_nF e1) ?_ | refine W (J_ldq (by with_unfolding_all rfl)) ?_)))
          exact ⟨by rw [Bool.false_and,Bool.and_false],kk⟩
def IsLit (g:Gr) (S:Store) (fn:FuncId) (cs:List AV):Prop:=∀ T,Keep S T → ∀ l,i64R l → AnsAt Tryz.prog fn ([] ++ [aI l] ++ cs) T (aB (g.lit l))
theorem at86 {g:Gr}:∀ (f:Fo),f.ok → ∀ {S:Store} {fn:FuncId} {cs:List AV},IsLit g S fn cs → AnsAt Tryz.prog 86 [f.av,.f (.func fn) [] cs] S (aB (f.litsB g)):=by
  intro f
  induction f using Fo.ind with
  | h k n l ks ih =>
    intro hok S fn cs hfn
    obtain ⟨h1,h2,h3,h4,h5⟩:=hok.inv
    refine ACalls.ans_v (calls86 ?_)
    unfold m86 Fo.av
    rw [Fo.row_mk,Fo.litsB_mk]
    refine boxA_of rfl fun S1 k1 n1 o1=>?_
    refine box1_of rfl fun S2 k2 n2 o2=>?_
    have p2:=(k2.2 _ (by omega)).trans o1
    have kk:=k1.trans k2
    have hkid:∀ x ∈ ks,AnsAt Tryz.prog 134 ([] ++ [x.av] ++ [.p S1.n 0 0]) S2 (aB (!x.litsB g)):=fun x hx=>by
      refine ACalls.ans_v (calls134 ?_)
      unfold m134 Fo.av
      refine boxA_of (Fo.row_len x) fun S3 k3 n3 o3=>?_
      rw [ldN_p (n:=4) o3 (Fo.row_len x),ld1_p ((k3.2 _ (by omega)).trans o2) rfl rfl]
      refine callF_at (ih x hx (h5 x hx) (S:=S3) (fn:=fn) (cs:=cs) fun T hT=>hfn T ((kk.trans k3).trans hT)) ?_
      rw [un_not]
      exact ⟨rfl,k3⟩
    have hcont:=at72 (l:=ks) (by omega) hkid
    rw [any_notF] at hcont
    rw [shift_p,ld1_p p2 rfl rfl,bin_neq,onB_v]
    refine gd_of (fun h=>?_) (fun h=>?_)
    · rw [shift_p,ld1_p p2 rfl rfl]
      refine callF_at hcont ?_
      rw [un_not,Bool.not_not]
      have:(decide (k ≠ 3) || g.lit l) = true:=by simp at h; simp [h]
      exact ⟨by rw [this,Bool.true_and],kk⟩
    · have hk3:decide (k ≠ 3) = false:=by simp at h; simp [h]
      rw [hk3,Bool.false_or,ld1_p o2 rfl rfl,shift_p,ld1_p p2 rfl rfl]
      refine callV_at (hfn S2 kk l h2) ?_
      rw [onB_v]
      refine gd_of (fun hg=>?_) (fun hg=>⟨by rw [hg,Bool.false_and],kk⟩)
      rw [shift_p,ld1_p p2 rfl rfl]
      refine callF_at hcont ?_
      rw [un_not,Bool.not_not]
      exact ⟨by rw [hg,Bool.true_and],kk⟩
theorem ans52 {c:Ci} (hc:c.ok) {f:Fo} (hf:f.ok):Ans Tryz.prog 52 [c.av,f.av] (aB (mayC c f)):=by
  intro S
  refine ACalls.ans_v (calls52 ?_)
  unfold m52 mayC
  refine boxA_of rfl fun S1 k1 n1 o1=>?_
  refine boxA_of (Fo.row_len f) fun S2 k2 n2 o2=>?_
  have p2:=(k2.2 _ (by omega)).trans o1
  rw [ldN_p (n:=8) p2 rfl]
  refine callF_ans (ans84 c) ?_
  refine boxA_of rfl fun S3 k3 n3 o3=>?_
  refine stA_of (cs':=c.gr.cells) o3 rfl rfl fun S4 n4 o4 f4=>?_
  have k4:=k3.st (Nat.le_refl _) n4 f4
  have kk:=(k1.trans k2).trans k4
  rw [ldN_p (n:=8) ((k4.2 _ (by omega)).trans p2) rfl]
  refine callF_ans (ans85 hc) ?_
  rw [onB_v]
  refine gd_of (fun h=>?_) (fun h=>⟨by rw [h,Bool.false_and],kk⟩)
  rw [h,Bool.true_and,ldN_p (n:=4) ((k4.2 _ (by omega)).trans o2) (Fo.row_len f)]
  refine callF_ans (ans43 f hf 60 ⟨by decide,by decide⟩) ?_
  rw [onB_v]
  refine gd_of (fun h=>?_) (fun h=>⟨by rw [h,Bool.false_and],kk⟩)
  rw [h,Bool.true_and,ldN_p (n:=4) ((k4.2 _ (by omega)).trans o2) (Fo.row_len f)]
  refine callF_at (at86 (g:=c.gr) f hf fun T hT l hl=>?_) ⟨rfl,kk⟩
  refine calls87 ?_
  unfold m87
  rw [ldN_p (n:=2) ((hT.2 _ (by omega)).trans o4) rfl]
  exact callF_ans (ans88 hc.gr hl) ⟨rfl,rfl⟩
noncomputable def valB (c:Ci) (s:Int):List Bool:=if (c.right && decide (c.gr.inputs ≤ 60)) = true then allB c.gr (bitsL s c.gr.inputs.toNat) else []
def isV (v:List Bool) (l:Int):Bool:=decide (0 ≤ l) && (decide (l.tdiv 2 < v.length) && litB v l)
theorem allB_vars {c:Ci} (h:c.right = true) (s:Int):((allB c.gr (bitsL s c.gr.inputs.toNat)).length:Int) = c.gr.vars:=by
  obtain ⟨g1,g2,g3⟩:=gr_inp h
  have hr:=(right_c.1 h).2.2.2.2.2.2.1
  rw [allB_len,if_pos]
  · have:0 ≤ c.gr.vars:=by unfold Gr.vars; omega
    omega
  · rw [hr,bitsL_len]
    simp; omega
theorem isV_isB {c:Ci} (s l:Int):isV (valB c s) l = isB c s l:=by
  unfold valB isB
  cases h:c.right with
  | false =>
    rw [Bool.false_and,if_neg (by decide),Bool.false_and]
    simp only [isV,Bool.and_eq_false_iff,decide_eq_false_iff_not]
    by_cases h0:0 ≤ l
    · refine .inr (.inl ?_)
      have:=Int.tdiv_nonneg h0 (show (0:Int) ≤ 2 by decide)
      simp; omega
    · exact .inl h0
  | true =>
    cases h6:decide (c.gr.inputs ≤ 60) with
    | false =>
      rw [Bool.and_false,if_neg (by decide),Bool.false_and,Bool.and_false]
      simp only [isV,Bool.and_eq_false_iff,decide_eq_false_iff_not]
      by_cases h0:0 ≤ l
      · refine .inr (.inl ?_)
        have:=Int.tdiv_nonneg h0 (show (0:Int) ≤ 2 by decide)
        simp; omega
      · exact .inl h0
    | true =>
      rw [Bool.true_and,if_pos rfl,Bool.true_and,Bool.true_and]
      obtain ⟨g1,g2,g3⟩:=gr_inp h
      have hv:=allB_vars h s
      have hpos:0 < (allB c.gr (bitsL s c.gr.inputs.toNat)).length:=by
        have:1 ≤ c.gr.vars:=by unfold Gr.vars; omega
        omega
      simp only [isV,Gr.eval,hpos,decide_true,Bool.true_and,hv,Gr.lit,g2,g3,Bool.and_assoc]
theorem ans187 {c:Ci} (hc:c.ok) (s:Int):Ans Tryz.prog 187 [c.av,aI s] (aL aB (valB c s)):=by
  intro S
  refine ACalls.tree (calls187 ?_)
  unfold m187 valB
  refine boxA_of rfl fun S1 k1 n1 o1=>?_
  rw [ldN_p (n:=8) o1 rfl]
  refine callF_ans (ans84 c) ?_
  refine boxA_of rfl fun S2 k2 n2 o2=>?_
  refine stA_of (cs':=c.gr.cells) o2 rfl rfl fun S3 n3 o3 f3=>?_
  have k3:=k2.st (Nat.le_refl _) n3 f3
  have kk:=k1.trans k3
  rw [ldN_p (n:=8) ((k3.2 _ (by omega)).trans o1) rfl]
  refine callF_ans (ans85 hc) ?_
  rw [un_not,onB_v]
  refine gd_of (fun h=>?_) (fun h=>?_)
  · have h:c.right = false:=by simpa using h
    refine ⟨_,rfl,kk,?_⟩
    rw [h,Bool.false_and,if_neg (by decide)]
    exact .nl
  have h:c.right = true:=by simpa using h
  obtain ⟨g1,g2,g3⟩:=gr_inp h
  rw [shift_p,ld1_p o3 rfl rfl,bin_gtr,onB_v]
  refine gd_of (fun h6=>?_) (fun h6=>?_)
  · have h6:=of_decide_eq_true h6
    refine ⟨_,rfl,kk,?_⟩
    rw [h,decide_eq_false (by omega:¬ c.gr.inputs ≤ 60),if_neg (by decide)]
    exact .nl
  have h6:=of_decide_eq_false h6
  rw [h,decide_eq_true (by omega:c.gr.inputs ≤ 60),Bool.and_self,if_pos rfl]
  obtain ⟨m,hm⟩:=Int.eq_ofNat_of_zero_le g2
  have hm60:m ≤ 60:=by omega
  have hgt:c.gr.inputs.toNat = m:=by rw [hm]; rfl
  rw [hgt,shift_p,ld1_p o3 rfl rfl]
  show mkN _ _ _ (aI c.gr.inputs) (aI c.gr.inputs) _ _
  rw [hm]
  refine mk_of (by omega) (by omega) fun S6 k6 n6 o6=>?_
  rw [lenS_s]
  have hrep:List.replicate m [AV.v (.bool false)] = (List.range m).map fun k=>[aB (if k < 0 then bitN s k else false)]:=by
    apply List.ext_getElem
    · simp
    · intro k h1 h2
      simp
  rw [hrep] at o6
  refine loop187_0 (fun y S'=>S'.n = S6.n ∧ (∀ x,x < S3.n → S'.obj x = S3.obj x) ∧ ∃ j:Nat,y = aI j ∧ j ≤ m ∧ S'.obj S3.n = some (.cells 4 ((List.range m).map fun k=>[aB (if k < j then bitN s k else false)]) true))
    (fun y _=>m - ((intA y).getD 0).toNat) ⟨rfl,k6.2,0,rfl,Nat.zero_le _,o6⟩ ?_
  rintro _ S7 ⟨n7,f7,j,rfl,hj,o7⟩ KE1 hKE1
  unfold b187_0
  rw [bin_lss,onB_v]
  refine gd_of (fun hlt1=>?_) (fun hge1=>?_)
  · have hlt1:j < m:=by have:((j:Int) < (m:Int)):=of_decide_eq_true hlt1; omega
    rw [bin_shrN (by omega),bin_and1,bin_eql,ixS_s hlt1 o7]
    refine st_of o7 (u0:=aB (if j < j then bitN s j else false)) (by rw [Nat.zero_add]; simp [hlt1]) rfl fun S8 n8 o8 f8=>?_
    rw [bin_add (by omega) (by omega)]
    refine hKE1 _ _ ⟨by omega,fun x hx=>(f8 x (by omega)).trans (f7 x hx),j + 1,rfl,hlt1,?_⟩ (by simp [intA]; omega)
    rw [o8,Nat.zero_add]
    have:=set_range (n:=m) (i:=j) (f:=fun k=>[aB (if k < j then bitN s k else false)]) (f':=fun k=>[aB (if k < j + 1 then bitN s k else false)]) hlt1 (fun k hk=>by
      have:(k < j + 1) = (k < j):=by apply propext; omega
      simp only [this])
    rw [← this]
    simp [bitN]
  · have hgj:j = m:=by
      have:¬ ((j:Int) < (m:Int)):=of_decide_eq_false hge1
      omega
    subst hgj
    have o7':S7.obj S3.n = some (.cells 4 ((bitsL s j).map fun b=>[aB b]) true):=by
      rw [o7,bitsL,List.map_map]
      congr 2
      apply List.map_congr_left
      intro k hk
      simp [List.mem_range.1 hk]
    rw [ldN_p (n:=2) ((f7 _ (by omega)).trans o3) rfl]
    have call:=own_at154 hc.gr (ins:=bitsL s j) (S:=S7) (xi:=.s S3.n 0 j) (by simp; omega) (fun T K=>by rw [lenS_s,bitsL_len]) (fun T hT=>by
      have:=(hT.2 S3.n (by omega)).trans o7'
      simp only [srcE,this]
      rw [if_pos (by simp)]
      simp [List.take_of_length_le])
    refine callF_at (ans_own_at (f:=fun b=>.bool b) call) ?_
    have k3':Keep S S7:=⟨by have:=kk.1; omega,fun x hx=>(f7 x (by have:=kk.1; omega)).trans (kk.2 x hx)⟩
    exact ⟨_,rfl,k3',cv_aL (f:=fun b=>.bool b) _⟩
theorem ans186 (v:List Bool) {l:Int} (hl:i64R l):Ans Tryz.prog 186 [aL aB v,aI l] (aB (isV v l)):=by
  intro S
  refine calls186 ?_
  unfold m186 isV
  rw [bin_geq,onB_v]
  refine gd_of (fun h=>?_) (fun h=>⟨by rw [h,Bool.false_and],rfl⟩)
  have h0:=of_decide_eq_true h
  rw [h,Bool.true_and,bin_half hl,lenS_aL,bin_lss,onB_v]
  refine gd_of (fun h1=>?_) (fun h1=>⟨by rw [h1,Bool.false_and],rfl⟩)
  have hlt:=of_decide_eq_true h1
  rw [h1,Bool.true_and,bin_half hl]
  refine ix_tree (Int.tdiv_nonneg h0 (by decide)) hlt _ ?_
  rw [bin_and1,bin_eql,bin_neqB]
  refine ⟨?_,rfl⟩
  rw [litB,Int.tmod_eq_emod_of_nonneg h0]
theorem ans171 {c:Ci} (hc:c.ok) (s:Int) {l:Int} (hl:i64R l):Ans Tryz.prog 171 [c.av,aI s,aI l] (aB (isB c s l)):=by
  intro S
  refine ACalls.ans_v (calls171 ?_)
  unfold m171
  refine boxA_of rfl fun S1 k1 n1 o1=>?_
  rw [ldN_p (n:=8) o1 rfl]
  refine callF_ans (ans187 hc s) ?_
  refine callF_ans (ans186 _ hl) ?_
  exact ⟨by rw [isV_isB],k1⟩
theorem count_block {N p q:Nat} (hq:2 ^ p * q + 2 ^ p ≤ N) (P:Nat → Bool) :
    ((List.range N).filter fun k=>P k && decide (k / 2 ^ p = q)).length = ((List.range (2 ^ p)).filter fun y=>P (2 ^ p * q + y)).length:=by
  have hpos:0 < 2 ^ p:=Nat.two_pow_pos p
  obtain ⟨r,rfl⟩:∃ r,N = 2 ^ p * q + 2 ^ p + r:=⟨N - (2 ^ p * q + 2 ^ p),by omega⟩
  rw [List.range_add,List.range_add,List.filter_append,List.filter_append,List.length_append,List.length_append,List.filter_map,List.filter_map,List.length_map,List.length_map]
  have h1:(List.range (2 ^ p * q)).filter (fun k=>P k && decide (k / 2 ^ p = q)) = []:=by
    rw [List.filter_eq_nil_iff]
    intro k hk
    have:k < 2 ^ p * q:=List.mem_range.1 hk
    have h:k / 2 ^ p < q:=Nat.div_lt_of_lt_mul this
    simp only [Bool.and_eq_true,decide_eq_true_eq,not_and]
    exact fun _=>by omega
  have h2:(List.range r).filter ((fun k=>P k && decide (k / 2 ^ p = q)) ∘ fun x=>2 ^ p * q + 2 ^ p + x) = []:=by
    rw [List.filter_eq_nil_iff]
    intro k hk
    have h:q + 1 ≤ (2 ^ p * q + 2 ^ p + k) / 2 ^ p:=by
      rw [Nat.le_div_iff_mul_le hpos,Nat.add_mul,Nat.mul_comm q]; omega
    simp only [Function.comp,Bool.and_eq_true,decide_eq_true_eq,not_and]
    exact fun _=>by omega
  have h3:(List.range (2 ^ p)).filter ((fun k=>P k && decide (k / 2 ^ p = q)) ∘ fun x=>2 ^ p * q + x) = (List.range (2 ^ p)).filter fun y=>P (2 ^ p * q + y):=by
    apply List.filter_congr
    intro y hy
    have hy:=List.mem_range.1 hy
    have h:(2 ^ p * q + y) / 2 ^ p = q:=by rw [Nat.mul_add_div hpos,Nat.div_eq_of_lt hy,Nat.add_zero]
    simp only [Function.comp,h,decide_true,Bool.and_true]
  rw [h1,h2,h3]
  simp
theorem filter_lt (P:Nat → Bool) (n:Nat):((List.range n).filter P).Pairwise (· < ·):=List.pairwise_lt_range.filter P
structure NextF (c:Ci) (i:Nat) (m p q:Nat) (fl:List Nat):Prop where
  after:afterB c i = ((2 ^ p * q:Nat):Int)
  next:(spOf c).next[i]? = some (fl.map fun y:Nat=>((2 ^ p * q + y:Nat):Int))
  fit:2 ^ p * q + 2 ^ p ≤ 2 ^ m
  none_:(validOf c).getD i false = false → fl = []
  mem:∀ y ∈ fl,y < 2 ^ p ∧ (validOf c).getD (2 ^ p * q + y) false = true
  up:fl.Pairwise (· < ·)
  many:(validOf c).getD i false = true → fl.length = ((List.range (2 ^ m)).filter fun k=>(validOf c).getD k false && decide (k / 2 ^ p = q)).length
theorem nextF {c:Ci} (h1:c.right = true) {m:Nat} (hm:c.inputs.toNat + c.latches.length = m) (hm6:m ≤ 10) {i:Nat} (hi:i < 2 ^ m):∃ q fl,NextF c i m c.inputs.toNat q fl:=by
  obtain ⟨g1,g2,g3⟩:=gr_inp h1
  have hin:=(right_c.1 h1).1
  have hgt:c.gr.inputs.toNat = m:=by omega
  obtain ⟨q,hq1,hq2⟩:=afterV_div c ((valsOf c).getD i []) c.latches.length
  have haf:=afterB_eq h1 (by omega) (s:=i) (by rw [hgt]; exact hi)
  have hfit:2 ^ c.inputs.toNat * q + 2 ^ c.inputs.toNat ≤ 2 ^ m:=by
    have h2:2 ^ c.inputs.toNat * (q + 1) ≤ 2 ^ c.inputs.toNat * 2 ^ c.latches.length:=Nat.mul_le_mul_left _ hq1
    rw [← Nat.pow_add,hm,Nat.mul_add,Nat.mul_one] at h2
    exact h2
  have hnx:(spOf c).next[i]? = some (if (validOf c).getD i false = true then nextL c ((valsOf c).getD i []) (validOf c) else []):=by
    simp only [spOf,hgt]
    rw [List.getElem?_map,List.getElem?_range hi]
    rfl
  have htn:((((2 ^ c.inputs.toNat * q:Nat):Int))).toNat = 2 ^ c.inputs.toNat * q:=Int.toNat_natCast _
  have hN:nextL c ((valsOf c).getD i []) (validOf c) = (((List.range (2 ^ c.inputs.toNat)).filter fun x=>(validOf c).getD (2 ^ c.inputs.toNat * q + x) false)).map fun y:Nat=>((2 ^ c.inputs.toNat * q + y:Nat):Int):=by
    simp only [nextL,hq2,htn,Int.natCast_add]
  refine ⟨q,if (validOf c).getD i false = true then (List.range (2 ^ c.inputs.toNat)).filter fun x=>(validOf c).getD (2 ^ c.inputs.toNat * q + x) false else [],haf.trans hq2,?_,hfit,fun h=>by rw [h,if_neg (by decide)],fun y hy=>?_,?_,fun h=>?_⟩
  · rw [hnx,hN]
    split <;> rfl
  · split at hy
    · rw [List.mem_filter,List.mem_range] at hy
      exact hy
    · cases hy
  · split
    · exact filter_lt _ _
    · exact List.Pairwise.nil
  · rw [if_pos h,count_block hfit fun k=>(validOf c).getD k false]
set_option linter.unusedSectionVars false
theorem EXs_of {s:Sp} {p:List Bool} (h:fits s [p] = true):EXs s p = exP s p:=by rw [EXs,if_pos h]
theorem EGs_of {s:Sp} {p:List Bool} (h:fits s [p] = true):EGs s p = egP s p:=by rw [EGs,if_pos h]
theorem EUs_of {s:Sp} {p q:List Bool} (h:fits s [p] = true) (k:fits s [q] = true):EUs s p q = euP s p q:=by rw [EUs,if_pos (by rw [fits_two,h,k]; rfl)]
structure SpOk (s:Sp):Prop where
  small:SpSmall s
  next:s.next.length = s.valid.length
  fair:∀ r ∈ s.fair,r.length = s.valid.length
  mem:∀ x ∈ s.next,∀ i ∈ x,0 ≤ i ∧ i < s.valid.length
  ini:s.initial.length = s.valid.length
theorem SpOk.sm {s:Sp} (h:SpOk s):s.small:=⟨by have:=h.small.h1; omega,by have:=h.small.h3; omega,by have:=h.small.h5; omega,fun x hx=>by have:=h.small.h4 x hx; omega⟩
theorem SpOk.fit {s:Sp} (h:SpOk s) {p:List Bool} (hp:p.length = s.valid.length):fits s [p] = true:=by
  rw [fits_one]
  simp only [Bool.and_eq_true,decide_eq_true_eq,List.all_eq_true]
  exact ⟨⟨⟨hp,h.next⟩,h.fair⟩,h.mem⟩
theorem spOf_ok {c:Ci} (h:c.right = true) (h10:¬ 10 < c.gr.inputs):SpOk (spOf c):=by
  obtain ⟨g1,g2,g3⟩:=gr_inp h
  have hin:=(right_c.1 h).1
  have hgt:c.gr.inputs.toNat = c.inputs.toNat + c.latches.length:=by omega
  have hvl:(spOf c).valid.length = 2 ^ (c.inputs.toNat + c.latches.length):=by simp [spOf,validOf,hgt]
  refine ⟨spOf_small h h10,by simp [spOf,validOf],fun r hr=>?_,fun x hx i hi=>?_,by simp [spOf,validOf]⟩
  · simp only [spOf,List.mem_map] at hr
    obtain ⟨l,_,rfl⟩:=hr
    simp [spOf,validOf]
  · obtain ⟨k,hk,rfl⟩:=List.getElem_of_mem hx
    have hk2:k < 2 ^ (c.inputs.toNat + c.latches.length):=by
      have:(spOf c).next.length = 2 ^ (c.inputs.toNat + c.latches.length):=by simp [spOf,hgt]
      omega
    obtain ⟨q,fl,hf⟩:=nextF h rfl (by omega) hk2
    have hn:=hf.next
    rw [List.getElem?_eq_getElem hk] at hn
    rw [Option.some.inj hn] at hi
    obtain ⟨y,hy,rfl⟩:=List.mem_map.1 hi
    have h1:=(hf.mem y hy).1
    have h2:=hf.fit
    rw [hvl]
    omega
structure Te (c:Ci) (s:Sp) (fr:List Bool) (tid:Nat) (S:Store):Prop where
  obj:S.obj tid = some (.cells 176 [c.cells ++ s.cells ++ [aL aB fr]] true)
  lt:tid < S.n
theorem Te.keep {c:Ci} {s:Sp} {fr:List Bool} {tid:Nat} {S T:Store} (h:Te c s fr tid S) (k:Keep S T):Te c s fr tid T:=⟨(k.2 _ h.lt).trans h.obj,Nat.lt_of_lt_of_le h.lt k.1⟩
section
variable {c:Ci} {s:Sp} {fr:List Bool} {tid:Nat} {S:Store}
theorem Te.ldv (h:Te c s fr tid S) {K:AV → Store → Prop}:ld1 (.p tid 0 (0 + 8 + 1)) S K = K (aL aB s.valid) S:=ld1_p h.obj rfl rfl
theorem Te.ldf (h:Te c s fr tid S) {K:AV → Store → Prop}:ld1 (.p tid 0 (0 + 13)) S K = K (aL aB fr) S:=ld1_p h.obj rfl rfl
theorem Te.lds (h:Te c s fr tid S) {K:AV → Store → Prop}:ldN 5 (.p tid 0 (0 + 8)) S K = K s.av S:=ldN_off (n:=5) (cs':=s.cells) h.obj (by simp [Ci.cells,Sp.cells]) rfl
theorem Te.ldc (h:Te c s fr tid S) {K:AV → Store → Prop}:ldN 8 (.p tid 0 (0 + 0)) S K = K c.av S:=ldN_off (n:=8) (cs':=c.cells) h.obj (by simp [Ci.cells,Sp.cells]) rfl
theorem J_nil {id i j:Nat} {S0:Store} {P:AV → Prop}:(∃ q,(nilChk (.p id i j) S0 fun v S=>v = q ∧ S = S0) ∧ P q) = P (.p id i j):=J_by (op:=fun K=>nilChk (.p id i j) S0 K) fun K=>nilChk_p _ _ _ _ _
theorem at178 (h:Te c s fr tid S) (hv:s.valid.length ≤ 1000000) {F:FuncId} {fs cs:List AV} {g:Nat → Bool} (hf:∀ T,Keep S T → ∀ i,i < s.valid.length → AnsAt Tryz.prog F (fs ++ [aI i] ++ cs) T (aB (g i))) :
    AnsAt Tryz.prog 178 [.p tid 0 0,.f (.func F) fs cs] S (aL aB (eachP s g)):=by
  refine ans_own_at (f:=fun b=>.bool b) (e:=4) (calls178 ?_)
  unfold m178
  rw [nilChk_p,shift_p,shift_p,h.ldv,lenS_aL]
  refine mk_of (by omega) (by omega) fun S1 k1 n1 o1=>?_
  have h1:=h.keep k1
  rw [nilChk_p,shift_p,shift_p,h1.ldv,lenS_aL]
  let e:Nat → Bool:=fun k=>bit s.valid k && g k
  have hrep:List.replicate s.valid.length [AV.v (.bool false)] = (List.range s.valid.length).map fun k=>[aB (if k < 0 then e k else false)]:=by
    apply List.ext_getElem
    · simp
    · intro k h1 h2
      simp
  rw [hrep] at o1
  refine loop178_0 (fun w S'=>Keep S S' ∧ S.n < S'.n ∧ ∃ i:Nat,w = aI i ∧ i ≤ s.valid.length ∧ S'.obj S.n = some (.cells 4 ((List.range s.valid.length).map fun k=>[aB (if k < i then e k else false)]) true))
    (fun w _=>s.valid.length - ((intA w).getD 0).toNat) ⟨k1,by omega,0,rfl,Nat.zero_le _,o1⟩ ?_
  rintro _ S2 ⟨k2,n2,i,rfl,hi,o2⟩ KE hKE
  unfold b178_0
  rw [bin_lss,onB_v]
  refine gd_of (fun hlt=>?_) (fun hge=>?_)
  · have hlt:i < s.valid.length:=by simpa using hlt
    have step:∀ b,b = e i → ixS 4 1 (.s S.n 0 s.valid.length) (aI i) S2 fun v S3=>stN 1 v (aB b) S3 fun _ S3=>bin .add 0 (aI i) (.v (.int .i64 1)) S3 fun v S3=>KE 37 (env178_0 (.f (.func F) fs cs) (.s S.n 0 s.valid.length) (aL aB s.valid) (aI s.valid.length) v) S3:=fun b hb=>by
      rw [ixS_s hlt o2]
      refine st_of o2 (u0:=aB (if i < i then e i else false)) (by rw [Nat.zero_add]; simp [hlt]) rfl fun S3 n3 o3 f3=>?_
      rw [bin_add (by omega) (by omega)]
      refine hKE _ _ ⟨k2.st (Nat.le_refl _) n3 f3,by omega,i + 1,rfl,hlt,?_⟩ (by simp [intA]; omega)
      rw [o3,Nat.zero_add]
      have:=set_range (n:=s.valid.length) (i:=i) (f:=fun k=>[aB (if k < i then e k else false)]) (f':=fun k=>[aB (if k < i + 1 then e k else false)]) hlt (fun k hk=>by
        have:(k < i + 1) = (k < i):=by apply propext; omega
        simp only [this])
      rw [← this,hb]
      simp
    rw [ixS_aL hlt,ld1_q,onB_v]
    refine gd_of (fun hb=>?_) (fun hb=>?_)
    · refine callV_at (hf S2 k2 i hlt) ?_
      exact step _ (by show g i = (bit s.valid i && g i); rw [bit_get hlt,hb,Bool.true_and])
    · exact step _ (by show false = (bit s.valid i && g i); rw [bit_get hlt,hb,Bool.false_and])
  · have hge:i = s.valid.length:=by simp at hge; omega
    subst hge
    refine ⟨_,rfl,k2,.inr ⟨S.n,by simp [eachP,tab],Nat.le_refl _,n2,?_⟩⟩
    rw [o2,eachP,tab,List.map_map]
    congr 2
    apply List.map_congr_left
    intro k hk
    simp [List.mem_range.1 hk,e]
theorem ixB {l:List Bool} {e i:Nat} (h:i < l.length) {S:Store} {K:AV → Store → Prop}:ixS e 1 (aL aB l) (aI i) S K = K (.q [aB (bit l i)] 0) S:=by
  rw [ixS_aL h,bit_get h]
theorem at180 (h:Te c s fr tid S) (hv:s.valid.length ≤ 1000000) {p:List Bool} (hp:p.length = s.valid.length):AnsAt Tryz.prog 180 [.p tid 0 0,aL aB p] S (aL aB (notP s p)):=by
  refine ACalls.ans_aL (f:=fun b=>.bool b) (calls180 ?_)
  unfold m180
  refine box1_of rfl fun S1 k1 n1 o1=>?_
  refine callF_at (at178 (h.keep k1) hv (g:=fun i=>!bit p i) fun T hT i hi=>?_) ⟨rfl,k1⟩
  refine calls196 ?_
  unfold m196
  rw [ld1_p ((hT.2 _ (by omega)).trans o1) rfl rfl,ixB (by omega),ld1_q,un_not]
  exact ⟨rfl,rfl⟩
theorem each2 {F M:FuncId} {m:AV → AV → AV → Store → (AEnd → Store → Prop) → Prop} (h:Te c s fr tid S) (hv:s.valid.length ≤ 1000000) {p q:List Bool} (hp:p.length = s.valid.length) (hq:q.length = s.valid.length) {g:Bool → Bool → Bool}
    (hm:∀ (T:Store) (Q:AEnd → Store → Prop) (i:Nat) (a b ta tb:Nat),i < s.valid.length → T.obj a = some (.cells ta [[aL aB p]] true) → T.obj b = some (.cells tb [[aL aB q]] true) → Q (.ret (aB (g (bit p i) (bit q i)))) T → ACalls Tryz.prog F [aI i,.p a 0 0,.p b 0 0] T Q) {Q:AEnd → Store → Prop} (hQ:∀ S',Keep S S' → Q (.ret (aL aB (eachP s fun i=>g (bit p i) (bit q i)))) S') :
    boxN 177 1 (aL aB p) S fun v1 S=>boxN 177 1 (aL aB q) S fun v2 S=>callF Tryz.prog 178 [.p tid 0 0,.f (.func F) [] [v1,v2]] S Q fun v S=>Q (.ret v) S:=by
  refine box1_of rfl fun S1 k1 n1 o1=>?_
  refine box1_of rfl fun S2 k2 n2 o2=>?_
  refine callF_at (at178 (h.keep (k1.trans k2)) hv (g:=fun i=>g (bit p i) (bit q i)) fun T hT i hi=>?_) (hQ _ (k1.trans k2))
  exact hm T _ i _ _ _ _ hi ((hT.2 _ (by omega)).trans ((k2.2 _ (by omega)).trans o1)) ((hT.2 _ (by omega)).trans o2) ⟨rfl,rfl⟩
theorem at200 (h:Te c s fr tid S) (hv:s.valid.length ≤ 1000000) {p q:List Bool} (hp:p.length = s.valid.length) (hq:q.length = s.valid.length) (hin:In s p):AnsAt Tryz.prog 200 [.p tid 0 0,aL aB p,aL aB q] S (aL aB (andP p q)):=by
  refine ACalls.ans_aL (f:=fun b=>.bool b) (calls200 ?_)
  unfold m200
  refine each2 (M:=0) (m:=fun _ _ _ _ _=>True) h hv hp hq (g:=fun a b=>a && b) (fun T Q i a b ta tb hi ha hb hQ=>?_) fun S' k=>⟨by rw [each_and hin],k⟩
  refine calls212 ?_
  unfold m212
  rw [ld1_p ha rfl rfl,ixB (by omega),ld1_q,onB_v]
  refine gd_of (fun h=>?_) (fun h=>?_)
  · rw [ld1_p hb rfl rfl,ixB (by omega),ld1_q]
    rw [h,Bool.true_and] at hQ; exact hQ
  · rw [h,Bool.false_and] at hQ; exact hQ
theorem at201 (h:Te c s fr tid S) (hv:s.valid.length ≤ 1000000) {p q:List Bool} (hp:In s p) (hq:In s q):AnsAt Tryz.prog 201 [.p tid 0 0,aL aB p,aL aB q] S (aL aB (orP p q)):=by
  refine ACalls.ans_aL (f:=fun b=>.bool b) (calls201 ?_)
  have h1:=hp.len
  have h2:=hq.len
  unfold m201
  refine each2 (M:=0) (m:=fun _ _ _ _ _=>True) h hv hp.len hq.len (g:=fun a b=>a || b) (fun T Q i a b ta tb hi ha hb hQ=>?_) fun S' k=>⟨by rw [each_or hp hq],k⟩
  refine calls213 ?_
  unfold m213
  rw [ld1_p ha rfl rfl,ixB (by omega),ld1_q,onB_v]
  refine gd_of (fun h=>?_) (fun h=>?_)
  · rw [h,Bool.true_or] at hQ; exact hQ
  · rw [ld1_p hb rfl rfl,ixB (by omega),ld1_q]
    rw [h,Bool.false_or] at hQ; exact hQ
variable (hs:SpOk s) (hfr:In s fr)
include hs hfr
theorem at197 (h:Te c s fr tid S) {p:List Bool} (hp:In s p):AnsAt Tryz.prog 197 [.p tid 0 0,aL aB p] S (aL aB (nextP s fr p)):=by
  refine ACalls.ans_aL (f:=fun b=>.bool b) (calls197 ?_)
  unfold m197
  have hv:=hs.small.h1
  have c1:=at200 h (by omega) hp.len hfr.len hp
  have c2:=ans210 hs.sm (andP p fr)
  rw [EXs_of (hs.fit (by simp [hp.len]))] at c2
  have l1:∀ (P:AV → Prop),(∃ q,(ldN 5 (.p tid 0 (0 + 8)) S fun v S'=>v = q ∧ S' = S) ∧ P q) = P s.av:=fun P=>J_by (op:=fun K=>ldN 5 (.p tid 0 (0 + 8)) S K) fun K=>h.lds
  have l2:∀ (P:AV → Prop),(∃ q,(ld1 (.p tid 0 (0 + 13)) S fun v S'=>v = q ∧ S' = S) ∧ P q) = P (aL aB fr):=fun P=>J_by (op:=fun K=>ld1 (.p tid 0 (0 + 13)) S K) fun K=>h.ldf
  show ∃ q:AV,_
  (repeat (first | with_reducible_and_instances (first | refine WJ ?_ | refine W (J_nil) ?_ | refine W (l1 _) ?_ | refine W (l2 _) ?_ | refine W (J_ldq (by with_unfolding_all rfl)) ?_) | refine J_cI (c1) rfl rfl ?_ | refine C_I (c1) rfl rfl ?_ | refine J_cA (c2) rfl rfl ?_ | refine C_A (c2) rfl rfl ?_))
  exact ⟨rfl,Keep.refl _⟩
theorem at198 (h:Te c s fr tid S) {p q:List Bool} (hp:p.length = s.valid.length) (hq:In s q):AnsAt Tryz.prog 198 [.p tid 0 0,aL aB p,aL aB q] S (aL aB (untilP s fr p q)):=by
  refine ACalls.ans_aL (f:=fun b=>.bool b) (calls198 ?_)
  unfold m198
  have hv:=hs.small.h1
  have c1:=at200 h (by omega) hq.len hfr.len hq
  have c2:=ans211 hs.sm p (andP q fr)
  rw [EUs_of (hs.fit hp) (hs.fit (by simp [hq.len]))] at c2
  have l1:∀ (P:AV → Prop),(∃ q,(ldN 5 (.p tid 0 (0 + 8)) S fun v S'=>v = q ∧ S' = S) ∧ P q) = P s.av:=fun P=>J_by (op:=fun K=>ldN 5 (.p tid 0 (0 + 8)) S K) fun K=>h.lds
  have l2:∀ (P:AV → Prop),(∃ q,(ld1 (.p tid 0 (0 + 13)) S fun v S'=>v = q ∧ S' = S) ∧ P q) = P (aL aB fr):=fun P=>J_by (op:=fun K=>ld1 (.p tid 0 (0 + 13)) S K) fun K=>h.ldf
  show ∃ q:AV,_
  (repeat (first | with_reducible_and_instances (first | refine WJ ?_ | refine W (J_nil) ?_ | refine W (l1 _) ?_ | refine W (l2 _) ?_ | refine W (J_ldq (by with_unfolding_all rfl)) ?_) | refine J_cI (c1) rfl rfl ?_ | refine C_I (c1) rfl rfl ?_ | refine J_cA (c2) rfl rfl ?_ | refine C_A (c2) rfl rfl ?_))
  exact ⟨rfl,Keep.refl _⟩
omit hfr in
theorem at199 (h:Te c s fr tid S) {p:List Bool} (hp:p.length = s.valid.length):AnsAt Tryz.prog 199 [.p tid 0 0,aL aB p] S (aL aB (egP s p)):=by
  refine ACalls.ans_aL (f:=fun b=>.bool b) (calls199 ?_)
  unfold m199
  have c2:=ans162 hs.sm p
  rw [EGs_of (hs.fit hp)] at c2
  rw [nilChk_p,shift_p,h.lds]
  exact callF_ans c2 ⟨rfl,Keep.refl _⟩
theorem at181 (h:Te c s fr tid S) (k:Int) {p:List Bool} (hp:In s p):AnsAt Tryz.prog 181 [.p tid 0 0,aI k,aL aB p] S (aL aB (oneP s fr k p)):=by
  refine ACalls.ans_aL (f:=fun b=>.bool b) (calls181 ?_)
  have hv:s.valid.length ≤ 1000000:=by have:=hs.small.h1; omega
  have nn:=fun {q:List Bool} (hq:In s q)=>at180 h hv hq.len
  have nx:=fun {q:List Bool} (hq:In s q)=>at197 hs hfr h hq
  have ix:∀ {q:List Bool},In s q → In s (nextP s fr q):=fun hq=>In.ex (by simp [hq.len])
  have iu:∀ {p q:List Bool},In s q → In s (untilP s fr p q):=fun hq=>In.eu (by simp [hq.len])
  have ig:∀ {q:List Bool},In s q → In s (egP s q):=fun hq=>In.eg hq.len
  have k0:=Keep.refl S
  unfold m181 oneP
  rw [bin_eql,onB_v]
  refine gd_of (fun e=>?_) (fun e=>?_)
  · rw [if_pos (of_decide_eq_true e)]
    exact callF_at (nx hp) ⟨rfl,k0⟩
  rw [if_neg (of_decide_eq_false e),bin_eql,onB_v]
  refine gd_of (fun e=>?_) (fun e=>?_)
  · rw [if_pos (of_decide_eq_true e)]
    exact callF_at (nn hp) (callF_at (nx (in_not _ _)) (callF_at (nn (ix (in_not _ _))) ⟨rfl,k0⟩))
  rw [if_neg (of_decide_eq_false e),bin_eql,onB_v]
  refine gd_of (fun e=>?_) (fun e=>?_)
  · rw [if_pos (of_decide_eq_true e),nilChk_p,shift_p,shift_p,h.ldv]
    exact callF_at (at198 hs hfr h rfl hp) ⟨rfl,k0⟩
  rw [if_neg (of_decide_eq_false e),bin_eql,onB_v]
  refine gd_of (fun e=>?_) (fun e=>?_)
  · rw [if_pos (of_decide_eq_true e)]
    exact callF_at (nn hp) (callF_at (at199 hs h (in_not s p).len) (callF_at (nn (ig (in_not _ _))) ⟨rfl,k0⟩))
  rw [if_neg (of_decide_eq_false e),bin_eql,onB_v]
  refine gd_of (fun e=>?_) (fun e=>?_)
  · rw [if_pos (of_decide_eq_true e)]
    exact callF_at (at199 hs h hp.len) ⟨rfl,k0⟩
  rw [if_neg (of_decide_eq_false e),bin_eql,onB_v]
  refine gd_of (fun e=>?_) (fun e=>?_)
  · rw [if_pos (of_decide_eq_true e)]
    have c1:=nn hp
    have c2:=at198 hs hfr h (p:=s.valid) rfl (in_not s p)
    have c3:=nn (iu (p:=s.valid) (in_not s p))
    have l1:∀ (P:AV → Prop),(∃ q,(ld1 (.p tid 0 (0 + 8 + 1)) S fun v S'=>v = q ∧ S' = S) ∧ P q) = P (aL aB s.valid):=fun P=>J_by (op:=fun K=>ld1 (.p tid 0 (0 + 8 + 1)) S K) fun K=>h.ldv
    show ∃ q:AV,_
    (repeat (first | with_reducible_and_instances (first | refine WJ ?_ | refine W (J_nil) ?_ | refine W (l1 _) ?_ | refine W (J_ldq (by with_unfolding_all rfl)) ?_) | refine J_cI (c1) rfl rfl ?_ | refine C_I (c1) rfl rfl ?_ | refine J_cI (c2) rfl rfl ?_ | refine C_I (c2) rfl rfl ?_ | refine J_cI (c3) rfl rfl ?_ | refine C_I (c3) rfl rfl ?_))
    exact ⟨rfl,k0⟩
  rw [if_neg (of_decide_eq_false e)]
  exact callF_at (nn hp) ⟨rfl,k0⟩
end
section
variable {c:Ci} {s:Sp} {fr:List Bool} {tid:Nat} {S:Store}
variable (hs:SpOk s) (hfr:In s fr)
include hs hfr
theorem at182 (h:Te c s fr tid S) (k:Int) {p q:List Bool} (hp:In s p) (hq:In s q):AnsAt Tryz.prog 182 [.p tid 0 0,aI k,aL aB p,aL aB q] S (aL aB (twoP s fr k p q)):=by
  refine ACalls.ans_aL (f:=fun b=>.bool b) (calls182 ?_)
  have hv:s.valid.length ≤ 1000000:=by have:=hs.small.h1; omega
  unfold m182 twoP
  refine box1_of rfl fun S1 k1 n1 o1=>?_
  refine box1_of rfl fun S2 k2 n2 o2=>?_
  have p2:=(k2.2 _ (by omega)).trans o1
  have kk:=k1.trans k2
  have h:=h.keep kk
  have nn:=fun {q:List Bool} (hq:In s q)=>at180 h hv hq.len
  have an:=fun {p q:List Bool} (hp:In s p) (hq:In s q)=>at200 h hv hp.len hq.len hp
  have oo:=fun {p q:List Bool} (hp:In s p) (hq:In s q)=>at201 h hv hp hq
  have uu:=fun {p q:List Bool} (hp:In s p) (hq:In s q)=>at198 hs hfr h hp.len hq
  have al:=fun {p:List Bool} (hp:In s p)=>at199 hs h hp.len
  have iu:∀ {p q:List Bool},In s q → In s (untilP s fr p q):=fun hq=>In.eu (by simp [hq.len])
  have ig:∀ {q:List Bool},In s q → In s (egP s q):=fun hq=>In.eg hq.len
  have ino:=fun q=>in_not s q
  rw [bin_eql,onB_v]
  refine gd_of (fun e=>?_) (fun e=>?_)
  · rw [if_pos (of_decide_eq_true e),ld1_p p2 rfl rfl,ld1_p o2 rfl rfl]
    exact callF_at (an hp hq) ⟨rfl,kk⟩
  rw [if_neg (of_decide_eq_false e),bin_eql,onB_v]
  refine gd_of (fun e=>?_) (fun e=>?_)
  · rw [if_pos (of_decide_eq_true e),ld1_p p2 rfl rfl,ld1_p o2 rfl rfl]
    exact callF_at (oo hp hq) ⟨rfl,kk⟩
  rw [if_neg (of_decide_eq_false e),bin_eql,onB_v]
  refine gd_of (fun e=>?_) (fun e=>?_)
  · rw [if_pos (of_decide_eq_true e)]
    have c1:=nn hp
    have c2:=oo (ino p) hq
    show ∃ q:AV,_
    (repeat (first | with_reducible_and_instances (first | refine WJ ?_ | refine W (J_ldp p2 (by with_unfolding_all rfl) (by with_unfolding_all rfl)) ?_ | refine W (J_ldp o2 (by with_unfolding_all rfl) (by with_unfolding_all rfl)) ?_ | refine W (J_ldq (by with_unfolding_all rfl)) ?_) | refine J_cI (c1) rfl rfl ?_ | refine C_I (c1) rfl rfl ?_ | refine J_cI (c2) rfl rfl ?_ | refine C_I (c2) rfl rfl ?_))
    exact ⟨rfl,kk⟩
  rw [if_neg (of_decide_eq_false e),bin_eql,onB_v]
  refine gd_of (fun e=>?_) (fun e=>?_)
  · rw [if_pos (of_decide_eq_true e)]
    have l1:=hp.len
    have l2:=hq.len
    refine callF_at (at178 h hv (g:=fun i=>bit p i == bit q i) fun T hT i hi=>?_) ⟨by rw [each_same hp hq],kk⟩
    refine calls202 ?_
    unfold m202
    show ∃ q:AV,_
    refine ⟨_,by rw [ld1_p ((hT.2 _ (by omega)).trans p2) rfl rfl]; exact ⟨rfl,rfl⟩,?_⟩
    refine ⟨_,by rw [ixB (by omega)]; exact ⟨rfl,rfl⟩,?_⟩
    refine ⟨_,by rw [ld1_q]; exact ⟨rfl,rfl⟩,?_⟩
    refine ⟨_,by rw [ld1_p ((hT.2 _ (by omega)).trans o2) rfl rfl]; exact ⟨rfl,rfl⟩,?_⟩
    refine ⟨_,by rw [ixB (by omega)]; exact ⟨rfl,rfl⟩,?_⟩
    refine ⟨_,by rw [ld1_q]; exact ⟨rfl,rfl⟩,?_⟩
    refine ⟨_,by rw [bin_eqlB]; exact ⟨rfl,rfl⟩,?_⟩
    exact ⟨rfl,rfl⟩
  rw [if_neg (of_decide_eq_false e),bin_eql,onB_v]
  refine gd_of (fun e=>?_) (fun e=>?_)
  · rw [if_pos (of_decide_eq_true e),ld1_p p2 rfl rfl,ld1_p o2 rfl rfl]
    exact callF_at (uu hp hq) ⟨rfl,kk⟩
  have e15:=of_decide_eq_false e
  rw [if_neg e15,bin_eql,onB_v]
  refine gd_of (fun e=>?_) (fun e=>?_)
  · have e:=of_decide_eq_true e
    rw [if_neg (by omega),if_pos e]
    have c1:=al hq
    have c2:=an hp hq
    have c3:=uu hq (hp.and (q:=q))
    have c4:=oo (ig hq) (iu (p:=q) (hp.and (q:=q)))
    show ∃ q:AV,_
    (repeat (first | with_reducible_and_instances (first | refine WJ ?_ | refine W (J_ldp p2 (by with_unfolding_all rfl) (by with_unfolding_all rfl)) ?_ | refine W (J_ldp o2 (by with_unfolding_all rfl) (by with_unfolding_all rfl)) ?_ | refine W (J_ldq (by with_unfolding_all rfl)) ?_) | refine J_cI (c1) rfl rfl ?_ | refine C_I (c1) rfl rfl ?_ | refine J_cI (c2) rfl rfl ?_ | refine C_I (c2) rfl rfl ?_ | refine J_cI (c3) rfl rfl ?_ | refine C_I (c3) rfl rfl ?_ | refine J_cI (c4) rfl rfl ?_ | refine C_I (c4) rfl rfl ?_))
    exact ⟨rfl,kk⟩
  have e17:=of_decide_eq_false e
  rw [bin_eql,onB_v]
  refine gd_of (fun e=>?_) (fun e=>?_)
  · rw [if_pos (of_decide_eq_true e),ld1_p o2 rfl rfl]
    refine callF_at (nn hq) ?_
    rw [ld1_p p2 rfl rfl]
    refine callF_at (nn hp) (callF_at (an (ino p) (ino q)) ?_)
    rw [not_or hp hq]
    refine callF_at (uu (ino q) (ino _)) (callF_at (al (ino q)) (callF_at (oo (iu (ino _)) (ig (ino q))) (callF_at (nn ((iu (ino _)).or (ig (ino q)))) ⟨rfl,kk⟩)))
  rw [if_neg (of_decide_eq_false e),if_neg e17]
  have c1:=nn hp
  have c2:=nn hq
  have c3:=uu (ino p) (ino q)
  have c4:=nn (iu (p:=notP s p) (ino q))
  show ∃ q:AV,_
  (repeat (first | with_reducible_and_instances (first | refine WJ ?_ | refine W (J_ldp p2 (by with_unfolding_all rfl) (by with_unfolding_all rfl)) ?_ | refine W (J_ldp o2 (by with_unfolding_all rfl) (by with_unfolding_all rfl)) ?_ | refine W (J_ldq (by with_unfolding_all rfl)) ?_) | refine J_cI (c1) rfl rfl ?_ | refine C_I (c1) rfl rfl ?_ | refine J_cI (c2) rfl rfl ?_ | refine C_I (c2) rfl rfl ?_ | refine J_cI (c3) rfl rfl ?_ | refine C_I (c3) rfl rfl ?_ | refine J_cI (c4) rfl rfl ?_ | refine C_I (c4) rfl rfl ?_))
  exact ⟨rfl,kk⟩
theorem in_atom (l:Int):In s (atomP c s l):=in_each _ _
theorem at163 (hc:c.ok):∀ (f:Fo),f.ok → ∀ (d:Int),f.mayB d = true → ∀ {S:Store},Te c s fr tid S → AnsAt Tryz.prog 163 [.p tid 0 0,f.av] S (aL aB (f.sem s fr (atomP c s))):=by
  intro f
  induction f using Fo.ind with
  | h k n l ks ih =>
    intro hok d hd S h
    obtain ⟨h1,h2,h3,h4,h5⟩:=hok.inv
    have hv:s.valid.length ≤ 1000000:=by have:=hs.small.h1; omega
    refine ACalls.ans_aL (f:=fun b=>.bool b) (calls163 ?_)
    unfold m163 Fo.av
    rw [Fo.row_mk]
    refine box1_of rfl fun S1 k1 n1 o1=>?_
    refine boxA_of rfl fun S2 k2 n2 o2=>?_
    have p2:=(k2.2 _ (by omega)).trans o1
    have kk:=k1.trans k2
    have h:=h.keep kk
    have ia:∀ l,In s (atomP c s l):=fun l=>in_atom hs hfr l
    obtain ⟨_,_,hcase⟩:=may_cases hd
    rw [shift_p,ld1_p o2 rfl rfl,bin_eql,onB_v]
    rcases hcase with ⟨hk,rfl,_⟩ | ⟨rfl,rfl,_⟩ | ⟨hk,_,f,rfl,hf⟩ | ⟨hk,_,f,g,rfl,hf,hg⟩
    · rw [decide_eq_false (by omega:¬ k = 3),gd_false,bin_eql,onB_v]
      rcases hk with rfl | rfl
      · rw [decide_eq_false (by decide:¬ (1:Int) = 2),gd_false,bin_eql,onB_v,decide_eq_true rfl,gd_true,sem_false]
        have c1:=at180 h hv (p:=s.valid) rfl
        have l1:∀ (P:AV → Prop),(∃ q,(ld1 (.p tid 0 (0 + 8 + 1)) S2 fun v S'=>v = q ∧ S' = S2) ∧ P q) = P (aL aB s.valid):=fun P=>J_by (op:=fun K=>ld1 (.p tid 0 (0 + 8 + 1)) S2 K) fun K=>h.ldv
        show ∃ q:AV,_
        (repeat (first | with_reducible_and_instances (first | refine WJ ?_ | refine W (J_ldp p2 (by with_unfolding_all rfl) (by with_unfolding_all rfl)) ?_ | refine W (J_nil) ?_ | refine W (l1 _) ?_ | refine W (J_ldq (by with_unfolding_all rfl)) ?_) | refine J_cI (c1) rfl rfl ?_ | refine C_I (c1) rfl rfl ?_))
        exact ⟨rfl,kk⟩
      · rw [decide_eq_true rfl,gd_true,sem_true,ld1_p p2 rfl rfl,nilChk_p,shift_p,shift_p,h.ldv]
        exact ⟨rfl,kk⟩
    · rw [decide_eq_true rfl,gd_true,sem_atom,ld1_p p2 rfl rfl]
      refine callF_at (at178 h hv (g:=fun i=>isB c i l) fun T hT i hi=>?_) ⟨rfl,kk⟩
      refine calls179 ?_
      unfold m179
      show ∃ q:AV,_
      refine ⟨_,by rw [ld1_p ((hT.2 _ (by omega)).trans p2) rfl rfl]; exact ⟨rfl,rfl⟩,?_⟩
      refine ⟨_,by rw [nilChk_p]; exact ⟨rfl,rfl⟩,?_⟩
      refine ⟨_,by rw [shift_p]; exact ⟨rfl,rfl⟩,?_⟩
      refine ⟨_,by rw [(h.keep hT).ldc]; exact ⟨rfl,rfl⟩,?_⟩
      refine ⟨_,by rw [shift_p]; exact ⟨rfl,rfl⟩,?_⟩
      refine ⟨_,by rw [ld1_p ((hT.2 _ (by omega)).trans o2) rfl rfl]; exact ⟨rfl,rfl⟩,?_⟩
      refine ⟨_,callF_ans (ans171 hc i h2) ⟨rfl,rfl⟩,?_⟩
      exact ⟨rfl,rfl⟩
    · rw [decide_eq_false (by omega:¬ k = 3),gd_false,bin_eql,onB_v,decide_eq_false (by omega:¬ k = 2),gd_false,bin_eql,onB_v,decide_eq_false (by omega:¬ k = 1),gd_false,sem_one (by omega)]
      have c1:=ih f (by simp) (h5 f (by simp)) _ hf h
      have c2:=at181 hs hfr h k (in_sem (fr:=fr) ia f _ hf)
      show ∃ q:AV,_
      refine ⟨_,by rw [ld1_p p2 rfl rfl]; exact ⟨rfl,rfl⟩,?_⟩
      refine ⟨_,by rw [shift_p]; exact ⟨rfl,rfl⟩,?_⟩
      refine ⟨_,by rw [ld1_p o2 rfl rfl]; exact ⟨rfl,rfl⟩,?_⟩
      refine ⟨_,by rw [show ∀ K:AV → Store → Prop,ixS 24 4 (foL [f]) (.v (.int .i64 0)) S2 K = K (.q f.row 0) S2 from fun K=>ixS_foL (l:=[f]) (i:=0) (by simp)]; exact ⟨rfl,rfl⟩,?_⟩
      refine ⟨_,by rw [ldN_q (Fo.row_len f)]; exact ⟨rfl,rfl⟩,?_⟩
      refine J_callI c1 ?_
      rw [shift_p,ld1_p o2 rfl rfl,lenS_foL,bin_eql,onB_v]
      rw [show decide ((([f]:List Fo).length:Int) = 1) = true from rfl,gd_true,ld1_p p2 rfl rfl,shift_p,ld1_p o2 rfl rfl]
      exact callF_at c2 ⟨rfl,kk⟩
    · rw [decide_eq_false (by omega:¬ k = 3),gd_false,bin_eql,onB_v,decide_eq_false (by omega:¬ k = 2),gd_false,bin_eql,onB_v,decide_eq_false (by omega:¬ k = 1),gd_false,sem_two (by omega)]
      have c1:=ih f (by simp) (h5 f (by simp)) _ hf h
      have c1':=ih g (by simp) (h5 g (by simp)) _ hg h
      have c2:=at182 hs hfr h k (in_sem (fr:=fr) ia f _ hf) (in_sem (fr:=fr) ia g _ hg)
      show ∃ q:AV,_
      refine ⟨_,by rw [ld1_p p2 rfl rfl]; exact ⟨rfl,rfl⟩,?_⟩
      refine ⟨_,by rw [shift_p]; exact ⟨rfl,rfl⟩,?_⟩
      refine ⟨_,by rw [ld1_p o2 rfl rfl]; exact ⟨rfl,rfl⟩,?_⟩
      refine ⟨_,by rw [show ∀ K:AV → Store → Prop,ixS 24 4 (foL [f,g]) (.v (.int .i64 0)) S2 K = K (.q f.row 0) S2 from fun K=>ixS_foL (l:=[f,g]) (i:=0) (by simp)]; exact ⟨rfl,rfl⟩,?_⟩
      refine ⟨_,by rw [ldN_q (Fo.row_len f)]; exact ⟨rfl,rfl⟩,?_⟩
      refine J_callI c1 ?_
      rw [shift_p,ld1_p o2 rfl rfl,lenS_foL,bin_eql,onB_v]
      rw [show decide ((([f,g]:List Fo).length:Int) = 1) = false from rfl,gd_false]
      show ∃ q:AV,_
      refine ⟨_,by rw [ld1_p p2 rfl rfl]; exact ⟨rfl,rfl⟩,?_⟩
      refine ⟨_,by rw [shift_p]; exact ⟨rfl,rfl⟩,?_⟩
      refine ⟨_,by rw [ld1_p o2 rfl rfl]; exact ⟨rfl,rfl⟩,?_⟩
      refine ⟨_,by rw [ld1_p p2 rfl rfl]; exact ⟨rfl,rfl⟩,?_⟩
      refine ⟨_,by rw [shift_p]; exact ⟨rfl,rfl⟩,?_⟩
      refine ⟨_,by rw [ld1_p o2 rfl rfl]; exact ⟨rfl,rfl⟩,?_⟩
      refine ⟨_,by rw [show ∀ K:AV → Store → Prop,ixS 24 4 (foL [f,g]) (.v (.int .i64 1)) S2 K = K (.q g.row 0) S2 from fun K=>ixS_foL (l:=[f,g]) (i:=1) (by simp)]; exact ⟨rfl,rfl⟩,?_⟩
      refine ⟨_,by rw [ldN_q (Fo.row_len g)]; exact ⟨rfl,rfl⟩,?_⟩
      refine J_callI c1' ?_
      refine J_callI c2 ?_
      exact ⟨rfl,kk⟩
end
theorem ans118 {c:Ci} (hc:c.ok) {s:Sp} (hs:SpOk s) {f:Fo} (hf:f.ok) {d:Int} (hd:f.mayB d = true):Ans Tryz.prog 118 [c.av,s.av,f.av] (aL aB (f.sem s (egP s s.valid) (atomP c s))):=by
  intro S
  refine ACalls.ans_aL (f:=fun b=>.bool b) (calls118 ?_)
  unfold m118
  refine boxA_of rfl fun S1 k1 n1 o1=>?_
  refine boxA_of rfl fun S2 k2 n2 o2=>?_
  refine boxA_of (Fo.row_len f) fun S3 k3 n3 o3=>?_
  have p3:=(k3.2 _ (by omega)).trans ((k2.2 _ (by omega)).trans o1)
  have q3:=(k3.2 _ (by omega)).trans o2
  have kk:=(k1.trans k2).trans k3
  have cg:=ans162 hs.sm s.valid
  rw [EGs_of (hs.fit rfl)] at cg
  refine L_ldN (n:=8) p3 (by omega) rfl ?_
  refine L_ldN (n:=5) q3 (by omega) rfl ?_
  refine L_ldN (n:=5) q3 (by omega) rfl ?_
  refine L_shift ?_
  refine L_ldp q3 (by omega) rfl rfl ?_
  refine L_callA cg ?_
  refine ⟨_,fun T hT=>by rw [bld_of (cs:=c.cells ++ s.cells ++ [aL aB (egP s s.valid)]) rfl]; exact ⟨rfl,rfl⟩,?_⟩
  refine boxA_of rfl fun S4 k4 n4 o4=>?_
  rw [ldN_p (n:=4) ((k4.2 _ (by omega)).trans o3) (Fo.row_len f)]
  refine callF_at (at163 hs (In.eg rfl) hc f hf d hd (S:=S4) ⟨o4,by omega⟩) ⟨rfl,kk.trans k4⟩
noncomputable def toldB (c:Ci) (f:Fo):List Bool × Sp × Int:=if mayC c f = false then ([],sp0,1) else if (spaceB c).2 = 0 then (semC c f,spOf c,0) else ([],sp0,(spaceB c).2)
theorem spaceB_err {c:Ci} (h:¬ (spaceB c).2 = 0):(spaceB c).1 = sp0:=by
  unfold spaceB at h ⊢
  split
  · rfl
  · rename_i h1
    rw [if_neg h1] at h
    split
    · rfl
    · rename_i h2
      rw [if_neg h2] at h
      exact absurd rfl h
theorem spaceB_ok {c:Ci} (h:(spaceB c).2 = 0):spaceB c = (spOf c,0) ∧ c.right = true ∧ ¬ 10 < c.gr.inputs:=by
  unfold spaceB at h ⊢
  split
  · rename_i h1; rw [if_pos h1] at h; cases h
  · rename_i h1
    rw [if_neg h1] at h
    split
    · rename_i h2; rw [if_pos h2] at h; cases h
    · rename_i h2
      exact ⟨rfl,by simpa using h1,h2⟩
theorem cv_sp {S:Store} {n:Nat} (s:Sp):Cv S n s.av s.av:=Tree.a (fun u hu=>by
  simp only [Sp.cells,List.mem_cons,List.not_mem_nil,or_false] at hu
  rcases hu with rfl | rfl | rfl | rfl | rfl
  · exact Tree.v _
  · exact treeB _
  · exact treeB _
  · exact Tree.aL fun _ _=>treeI _
  · exact Tree.aL fun _ _=>treeB _) S n
theorem ans69 {c:Ci} (hc:c.ok) {f:Fo} (hf:f.ok):Ans Tryz.prog 69 [c.av,f.av] (.t [aL aB (toldB c f).1,(toldB c f).2.1.av,aI (toldB c f).2.2]):=by
  intro S
  refine ACalls.tree (calls69 ?_)
  unfold m69
  refine boxA_of rfl fun S1 k1 n1 o1=>?_
  refine boxA_of (Fo.row_len f) fun S2 k2 n2 o2=>?_
  refine boxA_of rfl fun S3 k3 n3 o3=>?_
  have p3:=(k3.2 _ (by omega)).trans ((k2.2 _ (by omega)).trans o1)
  have q3:=(k3.2 _ (by omega)).trans o2
  have kk:=(k1.trans k2).trans k3
  rw [ldN_p (n:=8) p3 rfl,ldN_p (n:=4) q3 (Fo.row_len f)]
  refine callF_ans (ans52 hc hf) ?_
  rw [un_not,onB_v]
  unfold toldB
  refine gd_of (fun hm=>?_) (fun hm=>?_)
  · rw [bld_of (cs:=[aI 0,.nl,.nl,.nl,.nl]) rfl]
    refine stA_of o3 rfl rfl fun S4 n4 o4 f4=>?_
    rw [ldN_p (n:=5) o4 rfl]
    refine ⟨_,rfl,kk.st (by omega) n4 f4,?_⟩
    rw [if_pos (by simpa using hm)]
    exact cv_t3 .nl cv_sp0 (.v _)
  have hm:mayC c f = true:=by simpa using hm
  rw [if_neg (by rw [hm]; decide),ldN_p (n:=8) p3 rfl]
  refine callF_ans (ans117 hc) ?_
  rw [extr0,extr1]
  refine boxA_of rfl fun S4 k4 n4 o4=>?_
  refine stA_of (cs':=(spaceB c).1.cells) o4 rfl rfl fun S5 n5 o5 f5=>?_
  have k5:=k4.st (Nat.le_refl _) n5 f5
  have s5:=(k5.2 _ (by omega)).trans o3
  rw [bin_neq,onB_v]
  refine gd_of (fun he=>?_) (fun he=>?_)
  · have he:¬ (spaceB c).2 = 0:=by simpa using he
    rw [if_neg he]
    refine L_ldN (n:=5) o5 (by omega) rfl ?_
    refine stA_of s5 rfl rfl fun S6 n6 o6 f6=>?_
    rw [ldN_p (n:=5) o6 rfl]
    refine ⟨_,rfl,(kk.trans k5).st (by omega) n6 f6,?_⟩
    rw [spaceB_err he]
    exact cv_t3 .nl (cv_sp _) (.v _)
  · have he:(spaceB c).2 = 0:=by simpa using he
    obtain ⟨e1,e2,e3⟩:=spaceB_ok he
    rw [if_pos he]
    rw [e1] at o5
    have hd:f.mayB 60 = true:=by
      unfold mayC at hm
      simp only [Bool.and_eq_true] at hm
      exact hm.2.1
    refine L_ldN (n:=8) ((k5.2 _ (by omega)).trans p3) (by omega) rfl ?_
    refine L_ldN (n:=5) o5 (by omega) rfl ?_
    refine L_ldN (n:=4) ((k5.2 _ (by omega)).trans q3) (by omega) (Fo.row_len f) ?_
    refine L_callA (ans118 hc (spOf_ok e2 e3) hf hd) ?_
    refine L_ldN (n:=5) o5 (by omega) rfl ?_
    refine stA_of (cs':=(spOf c).cells) s5 rfl rfl fun S6 n6 o6 f6=>?_
    rw [ldN_p (n:=5) o6 rfl]
    exact ⟨_,rfl,(kk.trans k5).st (by omega) n6 f6,cv_t3 (treeB _ _ _) (cv_sp _) (.v _)⟩
theorem told_truth (c:Ci) (f:Fo):truthB c f = ((toldB c f).1,(toldB c f).2.2):=by
  unfold truthB toldB
  split
  · rfl
  · split <;> rfl
theorem ans36 {c:Ci} (hc:c.ok) {f:Fo} (hf:f.ok):Ans Tryz.prog 36 [c.av,f.av] (.t [aL aB (truthB c f).1,aI (truthB c f).2]):=by
  intro S
  rw [told_truth]
  refine ACalls.tree (calls36 ?_)
  unfold m36
  refine boxA_of rfl fun S1 k1 n1 o1=>?_
  refine boxA_of (Fo.row_len f) fun S2 k2 n2 o2=>?_
  rw [ldN_p (n:=8) ((k2.2 _ (by omega)).trans o1) rfl,ldN_p (n:=4) o2 (Fo.row_len f)]
  refine callF_ans (ans69 hc hf) ?_
  rw [extr0,extr1,extr2]
  refine boxA_of rfl fun S3 k3 n3 o3=>?_
  refine stA_of (cs':=(toldB c f).2.1.cells) o3 rfl rfl fun S4 n4 o4 f4=>?_
  exact ⟨_,rfl,(k1.trans k2).trans (k3.st (Nat.le_refl _) n4 f4),cv_t2 (treeB _ _ _) (.v _)⟩
def vTo (l ini:List Bool):Nat → Int × Int
  | 0=>(0,-1)
  | i + 1=>if bit ini i = true then ((vTo l ini i).1 + 1,if bit l i = false ∧ (vTo l ini i).2 < 0 then (i:Int) else (vTo l ini i).2) else vTo l ini i
theorem vTo_le (l ini:List Bool):∀ i,0 ≤ (vTo l ini i).1 ∧ (vTo l ini i).1 ≤ i ∧ -1 ≤ (vTo l ini i).2 ∧ (vTo l ini i).2 < i
  | 0=>by simp [vTo]
  | i + 1=>by
    obtain ⟨h1,h2,h3,h4⟩:=vTo_le l ini i
    unfold vTo
    split
    · refine ⟨by omega,by show _ ≤ ((i + 1:Nat):Int); simp only; omega,?_,?_⟩ <;> simp only <;> split <;> omega
    · exact ⟨h1,by omega,h3,by omega⟩
structure Ve where
  holds:Bool
  initial:Int
  broken:Int
def Ve.cells (v:Ve):List AV:=[aB v.holds,aI v.initial,aI v.broken]
def Ve.av (v:Ve):AV:=.a v.cells
def verB (l ini:List Bool):Ve:=⟨decide ((vTo l ini ini.length).2 < 0),(vTo l ini ini.length).1,(vTo l ini ini.length).2⟩
noncomputable def verdictB (c:Ci) (f:Fo):Ve × Int:=if (toldB c f).2.2 = 0 then (verB (toldB c f).1 (toldB c f).2.1.initial,0) else (⟨false,0,0⟩,(toldB c f).2.2)
theorem told_fit {c:Ci} {f:Fo} (h:(toldB c f).2.2 = 0):mayC c f = true ∧ toldB c f = (semC c f,spOf c,0) ∧ SpOk (spOf c) ∧ In (spOf c) (semC c f):=by
  unfold toldB at h ⊢
  split
  · rename_i h1; rw [if_pos h1] at h; cases h
  · rename_i h1
    rw [if_neg h1] at h
    split
    · rename_i h2
      obtain ⟨e1,e2,e3⟩:=spaceB_ok h2
      have hm:mayC c f = true:=by simpa using h1
      have hd:f.mayB 60 = true:=by
        unfold mayC at hm
        simp only [Bool.and_eq_true] at hm
        exact hm.2.1
      exact ⟨hm,rfl,spOf_ok e2 e3,in_sem (fun l=>in_each _ _) f _ hd⟩
    · rename_i h2
      rw [if_neg h2] at h
      exact absurd h h2
theorem ans60 {c:Ci} (hc:c.ok) {f:Fo} (hf:f.ok):Ans Tryz.prog 60 [c.av,f.av] (.t [(verdictB c f).1.av,aI (verdictB c f).2]):=by
  intro S
  refine ACalls.tree (calls60 ?_)
  unfold m60
  refine boxA_of rfl fun S1 k1 n1 o1=>?_
  refine boxA_of (Fo.row_len f) fun S2 k2 n2 o2=>?_
  refine boxA_of rfl fun S3 k3 n3 o3=>?_
  have kk:=(k1.trans k2).trans k3
  rw [ldN_p (n:=8) ((k3.2 _ (by omega)).trans ((k2.2 _ (by omega)).trans o1)) rfl,ldN_p (n:=4) ((k3.2 _ (by omega)).trans o2) (Fo.row_len f)]
  refine callF_ans (ans69 hc hf) ?_
  rw [extr0,extr1,extr2]
  have hfit:=fun h=>told_fit (c:=c) (f:=f) h
  have hver:verdictB c f = if (toldB c f).2.2 = 0 then (verB (toldB c f).1 (toldB c f).2.1.initial,0) else (⟨false,0,0⟩,(toldB c f).2.2):=rfl
  rw [hver]
  refine boxA_of rfl fun S4 k4 n4 o4=>?_
  refine stA_of (cs':=(toldB c f).2.1.cells) o4 rfl rfl fun S5 n5 o5 f5=>?_
  have k5:=k4.st (Nat.le_refl _) n5 f5
  have v5:=(k5.2 _ (by omega)).trans o3
  have cvV:∀ (T:Store) (n:Nat) (v:Ve),Cv T n v.av v.av:=fun T n v=>Tree.a (fun u hu=>by
    simp only [Ve.cells,List.mem_cons,List.not_mem_nil,or_false] at hu
    rcases hu with rfl | rfl | rfl <;> exact Tree.v _) T n
  rw [bin_neq,onB_v]
  refine gd_of (fun he=>?_) (fun he=>?_)
  · have he:¬ (toldB c f).2.2 = 0:=by simpa using he
    rw [if_neg he,ldN_p (n:=3) v5 rfl]
    refine stA_of v5 rfl rfl fun S6 n6 o6 f6=>?_
    rw [ldN_p (n:=3) o6 rfl]
    exact ⟨_,rfl,(kk.trans k5).st (by omega) n6 f6,cv_t2 (cvV _ _ ⟨false,0,0⟩) (.v _)⟩
  have he:(toldB c f).2.2 = 0:=by simpa using he
  rw [if_pos he]
  obtain ⟨_,he1,hok,hin⟩:=hfit he
  rw [he1] at o5 ⊢
  have hil:=hok.ini
  have hll:=hin.len
  have hv:=hok.small.h1
  rw [shift_p]
  refine stF_of v5 (by simp) rfl fun S6 n6 o6 f6=>?_
  rw [shift_p]
  have s6:=(f6 _ (by omega)).trans o5
  rw [ld1_p s6 rfl rfl,lenS_aL]
  have k6:=(kk.trans k5).st (id:=S2.n) (by omega) n6 f6
  show loopV _ _ _ (env60_0 (.p S2.n 0 0) (aL aB (semC c f)) (aL aB (spOf c).initial) (aI (spOf c).initial.length) (.v (.int .i64 0))) _ _
  generalize spOf c = s at *
  generalize semC c f = l at *
  refine loop60_0 (fun y S'=>Keep S S' ∧ S2.n < S'.n ∧ ∃ i:Nat,y = aI i ∧ i ≤ s.initial.length ∧ S'.obj S2.n = some (.cells 110 [[aB false,aI (vTo l s.initial i).1,aI (vTo l s.initial i).2]] true))
    (fun y _=>s.initial.length - ((intA y).getD 0).toNat) ⟨k6,by omega,0,rfl,Nat.zero_le _,o6⟩ ?_
  rintro _ S7 ⟨k7,n7,i,rfl,hi,o7⟩ KE hKE
  unfold b60_0
  have hb:=vTo_le l s.initial i
  rw [bin_lss,onB_v]
  refine gd_of (fun hlt=>?_) (fun hge=>?_)
  · have hlt:i < s.initial.length:=by have:=of_decide_eq_true hlt; omega
    have hs1:vTo l s.initial (i + 1) = _:=rfl
    have hadd:∀ (T:Store) (K:AV → Store → Prop),bin .add 0 (.v (.int .i64 (i:Int))) (.v (.int .i64 1)) T K = K (aI (i + 1:Nat)) T:=fun T K=>bin_add (by omega) (by omega) 0
    have hμ:s.initial.length - ((intA (aI (i + 1:Nat))).getD 0).toNat < s.initial.length - ((intA (aI i)).getD 0).toNat:=by simp [intA]; omega
    rw [ixB hlt,ld1_q,un_not,onB_v]
    refine gd_of (fun h=>?_) (fun h=>?_)
    · have h:bit s.initial i = false:=by simpa using h
      rw [hadd]
      exact hKE _ _ ⟨k7,n7,i + 1,rfl,hlt,by rw [vTo,if_neg (by rw [h]; decide)]; exact o7⟩ hμ
    have h:bit s.initial i = true:=by simpa using h
    rw [shift_p,ld1_p o7 rfl rfl,bin_add (by omega) (by omega),shift_p]
    refine stF_of o7 (by simp) rfl fun S8 n8 o8 f8=>?_
    have k8:=k7.st (id:=S2.n) (by omega) n8 f8
    rw [ixB (by omega),ld1_q,un_not,onB_v]
    refine gd_of (fun hl=>?_) (fun hl=>?_)
    · have hl:bit l i = false:=by simpa using hl
      rw [shift_p,ld1_p o8 rfl rfl,bin_lss,onB_v]
      refine gd_of (fun hn=>?_) (fun hn=>?_)
      · rw [shift_p]
        refine stF_of o8 (by simp) rfl fun S9 n9 o9 f9=>?_
        rw [hadd]
        refine hKE _ _ ⟨k8.st (id:=S2.n) (by omega) n9 f9,by omega,i + 1,rfl,hlt,?_⟩ hμ
        rw [vTo,if_pos h,if_pos ⟨hl,of_decide_eq_true hn⟩]
        exact o9
      · rw [hadd]
        refine hKE _ _ ⟨k8,by omega,i + 1,rfl,hlt,?_⟩ hμ
        rw [vTo,if_pos h,if_neg fun q=>of_decide_eq_false hn q.2]
        exact o8
    · have hl:bit l i = true:=by simpa using hl
      rw [hadd]
      refine hKE _ _ ⟨k8,by omega,i + 1,rfl,hlt,?_⟩ hμ
      rw [vTo,if_pos h,if_neg fun q=>by rw [hl] at q; exact absurd q.1 (by decide)]
      exact o8
  · have hge:i = s.initial.length:=by have:=of_decide_eq_false hge; omega
    subst hge
    rw [shift_p,ld1_p o7 rfl rfl,bin_lss,shift_p]
    refine stF_of o7 (by simp) rfl fun S8 n8 o8 f8=>?_
    rw [ldN_p (n:=3) o8 rfl]
    refine stA_of o8 rfl rfl fun S9 n9 o9 f9=>?_
    rw [ldN_p (n:=3) o9 rfl]
    exact ⟨_,rfl,(k7.st (id:=S2.n) (by omega) n8 f8).st (id:=S2.n) (by omega) n9 f9,cv_t2 (cvV _ _ (verB l s.initial)) (.v _)⟩
section
variable {c:Ci} {s:Sp} {fr:List Bool} {tid:Nat} {S:Store}
variable (hs:SpOk s) (hfr:In s fr)
include hs
include hfr
end
set_option linter.unusedSectionVars false
section
variable {c:Ci} {s:Sp} {fr:List Bool} {tid:Nat} (hs:SpOk s) (hfr:In s fr) (hc:c.ok)
include hs hfr hc
end
end Go.Proofs.YtolgpokppnajdaaGreat.G
set_option linter.unusedVariables false
set_option linter.unusedSimpArgs false
namespace Go.Proofs.YtolgpokppnajdaaGreat.G
open Go Go.Ab
set_option maxRecDepth 100000
noncomputable def c62:Code:=(Tryz.f62.body).getD .skip
def ms62:List (List Nat):=[[]]
def m62 (x0 x1 x2:AV) (S:Store) (Q:PoT):Prop :=
  ld1 x1 S fun v1 S=>bin .add 0 v1 (.v (.int .i64 1)) S fun v2 S=>stN 1 x1 v2 S fun v3 S=>ld1 x1 S fun v4 S=>ld1 x2 S fun v5 S=>lenS v5 S fun v6 S=>bin .gtr 0 v4 v6 S fun v7 S=>onB v7 fun b8=>gd b8 (Q (.ret (.v (.int .i64 0))) S) (ld1 x2 S fun v9 S=>ld1 x1 S fun v10 S=>bin .sub 0 v10 (.v (.int .i64 1)) S fun v11 S=>ixS 5 1 v9 v11 S fun v12 S=>ld1 v12 S fun v13 S=>convI .i64 v13 S fun v14 S=>bin .rem 0 v14 x0 S fun v15 S=>Q (.ret v15) S)
theorem calls62 {x0 x1 x2:AV} {S:Store} {Q:PoT} (h:m62 x0 x1 x2 S Q):ACalls Tryz.prog 62 [x0,x1,x2] S Q :=
  calls_of_vc (fn:=Tryz.f62) (c:=c62) (n:=19) Tryz.func62 (by kernel_rfl) (by kernel_rfl) (by kernel_rfl) ms62 (Eq.mpr (by kernel_rfl) h)
noncomputable def c63:Code:=(Tryz.f63.body).getD .skip
noncomputable def r63:List ResultVar:=Tryz.f63.results.toList
def env63_0 (y0 y4 y6 y8 y9:AV):List AV:=[y0,y4,y6,y8,y9]
def lv63_0:List Nat:=[0,4,6,8,9]
def ms63:List (List Nat):=[lv63_0,[0]]
def m63 (x0 x1 x2 x3 x4:AV) (S:Store) (Q:PoT):Prop :=
  boxN 24 4 (.a [(.v (.int .i64 0)),(.v (.string ByteArray.empty)),(.v (.int .i64 0)),.nl]) S fun v1 S=>ld1 x1 S fun v2 S=>callV Tryz.prog v2 [(.v (.int .i64 18))] S (fun v3 S=>bin .add 0 (.v (.int .i64 1)) v3 S fun v4 S=>bin .eql 0 x0 (.v (.int .i64 0)) S fun v5 S=>onB v5 fun b6=>gd b6 (ld1 x1 S fun v7 S=>callV Tryz.prog v7 [(.v (.int .i64 7))] S (fun v8 S=>bin .quo 0 v8 (.v (.int .i64 5)) S fun v9 S=>bin .sub 0 (.v (.int .i64 3)) v9 S fun v10 S=>bld [(0,1),(1,1),(2,1),(3,1)] [(.v (.int .i64 0)),(.v (.string ByteArray.empty)),(.v (.int .i64 0)),.nl] [(0,v10)] S fun v11 S=>boxN 24 4 (.a [(.v (.int .i64 0)),(.v (.string ByteArray.empty)),(.v (.int .i64 0)),.nl]) S fun v12 S=>stN 4 v12 v11 S fun v13 S=>bin .eql 0 v10 (.v (.int .i64 3)) S fun v14 S=>onB v14 fun b15=>gd b15 (bslN 9 1 7 [(.v (.string ByteArray.empty))] [(0,(.v (.string { data:=#[113] }))),(1,(.v (.string { data:=#[108,48] }))),(2,(.v (.string { data:=#[111,117,116] }))),(3,(.v (.string { data:=#[108,49] }))),(4,(.v (.string { data:=#[105,48] }))),(5,(.v (.string { data:=#[111,48] }))),(6,(.v (.string { data:=#[97,45,98] })))] S fun v16 S=>ld1 x1 S fun v17 S=>callV Tryz.prog v17 [(.v (.int .i64 7))] S (fun v18 S=>ixS 9 1 v16 v18 S fun v19 S=>ld1 v19 S fun v20 S=>shift v12 1 S fun v21 S=>stN 1 v21 v20 S fun v22 S=>callF Tryz.prog 64 [v10] S Q fun v23 S=>loopV lv63_0 (vc Tryz.prog (c63.at_ [1,1,1,1,1,0,1,0,0]) (ms63.drop 1)) 55 (env63_0 x0 x4 v1 v12 v23) S (blockK 0 (seqK (vc Tryz.prog (c63.at_ [1,1,1,1,1,1]) (ms63.drop 1)) (bodyK Tryz.prog r63 Q)))) (fun u S=>Q (.pan u) S)) (callF Tryz.prog 64 [v10] S Q fun v24 S=>loopV lv63_0 (vc Tryz.prog (c63.at_ [1,1,1,1,1,0,1,0,0]) (ms63.drop 1)) 55 (env63_0 x0 x4 v1 v12 v24) S (blockK 0 (seqK (vc Tryz.prog (c63.at_ [1,1,1,1,1,1]) (ms63.drop 1)) (bodyK Tryz.prog r63 Q))))) (fun u S=>Q (.pan u) S)) (ld1 x2 S fun v25 S=>ld1 x3 S fun v26 S=>lenS v26 S fun v27 S=>bin .geq 0 v25 v27 S fun v28 S=>onB v28 fun b29=>gd b29 (ld1 x1 S fun v30 S=>callV Tryz.prog v30 [(.v (.int .i64 7))] S (fun v31 S=>bin .quo 0 v31 (.v (.int .i64 5)) S fun v32 S=>bin .sub 0 (.v (.int .i64 3)) v32 S fun v33 S=>bld [(0,1),(1,1),(2,1),(3,1)] [(.v (.int .i64 0)),(.v (.string ByteArray.empty)),(.v (.int .i64 0)),.nl] [(0,v33)] S fun v34 S=>boxN 24 4 (.a [(.v (.int .i64 0)),(.v (.string ByteArray.empty)),(.v (.int .i64 0)),.nl]) S fun v35 S=>stN 4 v35 v34 S fun v36 S=>bin .eql 0 v33 (.v (.int .i64 3)) S fun v37 S=>onB v37 fun b38=>gd b38 (bslN 9 1 7 [(.v (.string ByteArray.empty))] [(0,(.v (.string { data:=#[113] }))),(1,(.v (.string { data:=#[108,48] }))),(2,(.v (.string { data:=#[111,117,116] }))),(3,(.v (.string { data:=#[108,49] }))),(4,(.v (.string { data:=#[105,48] }))),(5,(.v (.string { data:=#[111,48] }))),(6,(.v (.string { data:=#[97,45,98] })))] S fun v39 S=>ld1 x1 S fun v40 S=>callV Tryz.prog v40 [(.v (.int .i64 7))] S (fun v41 S=>ixS 9 1 v39 v41 S fun v42 S=>ld1 v42 S fun v43 S=>shift v35 1 S fun v44 S=>stN 1 v44 v43 S fun v45 S=>callF Tryz.prog 64 [v33] S Q fun v46 S=>loopV lv63_0 (vc Tryz.prog (c63.at_ [1,1,1,1,1,0,1,0,0]) (ms63.drop 1)) 55 (env63_0 x0 x4 v1 v35 v46) S (blockK 0 (seqK (vc Tryz.prog (c63.at_ [1,1,1,1,1,1]) (ms63.drop 1)) (bodyK Tryz.prog r63 Q)))) (fun u S=>Q (.pan u) S)) (callF Tryz.prog 64 [v33] S Q fun v47 S=>loopV lv63_0 (vc Tryz.prog (c63.at_ [1,1,1,1,1,0,1,0,0]) (ms63.drop 1)) 55 (env63_0 x0 x4 v1 v35 v47) S (blockK 0 (seqK (vc Tryz.prog (c63.at_ [1,1,1,1,1,1]) (ms63.drop 1)) (bodyK Tryz.prog r63 Q))))) (fun u S=>Q (.pan u) S)) (ld1 x2 S fun v48 S=>bin .gtr 0 v48 (.v (.int .i64 30)) S fun v49 S=>onB v49 fun b50=>gd b50 (ld1 x1 S fun v51 S=>callV Tryz.prog v51 [(.v (.int .i64 7))] S (fun v52 S=>bin .quo 0 v52 (.v (.int .i64 5)) S fun v53 S=>bin .sub 0 (.v (.int .i64 3)) v53 S fun v54 S=>bld [(0,1),(1,1),(2,1),(3,1)] [(.v (.int .i64 0)),(.v (.string ByteArray.empty)),(.v (.int .i64 0)),.nl] [(0,v54)] S fun v55 S=>boxN 24 4 (.a [(.v (.int .i64 0)),(.v (.string ByteArray.empty)),(.v (.int .i64 0)),.nl]) S fun v56 S=>stN 4 v56 v55 S fun v57 S=>bin .eql 0 v54 (.v (.int .i64 3)) S fun v58 S=>onB v58 fun b59=>gd b59 (bslN 9 1 7 [(.v (.string ByteArray.empty))] [(0,(.v (.string { data:=#[113] }))),(1,(.v (.string { data:=#[108,48] }))),(2,(.v (.string { data:=#[111,117,116] }))),(3,(.v (.string { data:=#[108,49] }))),(4,(.v (.string { data:=#[105,48] }))),(5,(.v (.string { data:=#[111,48] }))),(6,(.v (.string { data:=#[97,45,98] })))] S fun v60 S=>ld1 x1 S fun v61 S=>callV Tryz.prog v61 [(.v (.int .i64 7))] S (fun v62 S=>ixS 9 1 v60 v62 S fun v63 S=>ld1 v63 S fun v64 S=>shift v56 1 S fun v65 S=>stN 1 v65 v64 S fun v66 S=>callF Tryz.prog 64 [v54] S Q fun v67 S=>loopV lv63_0 (vc Tryz.prog (c63.at_ [1,1,1,1,1,0,1,0,0]) (ms63.drop 1)) 55 (env63_0 x0 x4 v1 v56 v67) S (blockK 0 (seqK (vc Tryz.prog (c63.at_ [1,1,1,1,1,1]) (ms63.drop 1)) (bodyK Tryz.prog r63 Q)))) (fun u S=>Q (.pan u) S)) (callF Tryz.prog 64 [v54] S Q fun v68 S=>loopV lv63_0 (vc Tryz.prog (c63.at_ [1,1,1,1,1,0,1,0,0]) (ms63.drop 1)) 55 (env63_0 x0 x4 v1 v56 v68) S (blockK 0 (seqK (vc Tryz.prog (c63.at_ [1,1,1,1,1,1]) (ms63.drop 1)) (bodyK Tryz.prog r63 Q))))) (fun u S=>Q (.pan u) S)) (bld [(0,1),(1,1),(2,1),(3,1)] [(.v (.int .i64 0)),(.v (.string ByteArray.empty)),(.v (.int .i64 0)),.nl] [(0,v4)] S fun v69 S=>boxN 24 4 (.a [(.v (.int .i64 0)),(.v (.string ByteArray.empty)),(.v (.int .i64 0)),.nl]) S fun v70 S=>stN 4 v70 v69 S fun v71 S=>bin .eql 0 v4 (.v (.int .i64 3)) S fun v72 S=>onB v72 fun b73=>gd b73 (bslN 9 1 7 [(.v (.string ByteArray.empty))] [(0,(.v (.string { data:=#[113] }))),(1,(.v (.string { data:=#[108,48] }))),(2,(.v (.string { data:=#[111,117,116] }))),(3,(.v (.string { data:=#[108,49] }))),(4,(.v (.string { data:=#[105,48] }))),(5,(.v (.string { data:=#[111,48] }))),(6,(.v (.string { data:=#[97,45,98] })))] S fun v74 S=>ld1 x1 S fun v75 S=>callV Tryz.prog v75 [(.v (.int .i64 7))] S (fun v76 S=>ixS 9 1 v74 v76 S fun v77 S=>ld1 v77 S fun v78 S=>shift v70 1 S fun v79 S=>stN 1 v79 v78 S fun v80 S=>callF Tryz.prog 64 [v4] S Q fun v81 S=>loopV lv63_0 (vc Tryz.prog (c63.at_ [1,1,1,1,1,0,1,0,0]) (ms63.drop 1)) 55 (env63_0 x0 x4 v1 v70 v81) S (blockK 0 (seqK (vc Tryz.prog (c63.at_ [1,1,1,1,1,1]) (ms63.drop 1)) (bodyK Tryz.prog r63 Q)))) (fun u S=>Q (.pan u) S)) (callF Tryz.prog 64 [v4] S Q fun v82 S=>loopV lv63_0 (vc Tryz.prog (c63.at_ [1,1,1,1,1,0,1,0,0]) (ms63.drop 1)) 55 (env63_0 x0 x4 v1 v70 v82) S (blockK 0 (seqK (vc Tryz.prog (c63.at_ [1,1,1,1,1,1]) (ms63.drop 1)) (bodyK Tryz.prog r63 Q)))))))) (fun u S=>Q (.pan u) S)
theorem calls63 {x0 x1 x2 x3 x4:AV} {S:Store} {Q:PoT} (h:m63 x0 x1 x2 x3 x4 S Q):ACalls Tryz.prog 63 [x0,x1,x2,x3,x4] S Q :=
  calls_of_vc (fn:=Tryz.f63) (c:=c63) (n:=55) Tryz.func63 (by kernel_rfl) (by kernel_rfl) (by kernel_rfl) ms63 (Eq.mpr (by kernel_rfl) h)
def b63_0 (y0 y4 y6 y8 y9:AV) (S:Store) (KE0:KeT) (Q:PoT):Prop :=
  bin .gtr 0 y9 (.v (.int .i64 0)) S fun v83 S=>onB v83 fun b84=>gd b84 (∃ q85:AV,(∀ T:Store,Keep S T → shift y8 3 T fun v86 S=>v86 = q85 ∧ S = T) ∧ ∃ q87:AV,(∀ T:Store,Keep S T → ld1 q85 T fun v88 S=>v88 = q87 ∧ S = T) ∧ ∃ q89:AV,(∀ T:Store,Keep S T → ld1 y4 T fun v90 S=>v90 = q89 ∧ S = T) ∧ ∃ q91:AV,(∀ T:Store,Keep S T → bin .sub 0 y0 (.v (.int .i64 1)) T fun v92 S=>v92 = q91 ∧ S = T) ∧ callV Tryz.prog q89 [q91] S (fun v93 S=>(∀ T:Store,Keep S T → ld1 q85 T fun v94 S=>v94 = q87 ∧ S = T) ∧ (∀ T:Store,Keep S T → shift y8 3 T fun v95 S=>v95 = q85 ∧ S = T) ∧ ∃ q96:AV,(∀ T:Store,Keep S T → bslN 24 4 1 [(.v (.int .i64 0)),(.v (.string ByteArray.empty)),(.v (.int .i64 0)),.nl] [(0,v93)] T fun v97 S=>v97 = q96 ∧ S = T) ∧ appS 24 4 56 q87 q96 S fun v98 S=>∃ q99:AV,(∀ T:Store,Keep S T → shift y8 3 T fun v100 S=>v100 = q99 ∧ S = T) ∧ stN 1 q99 v98 S fun v101 S=>bin .sub 0 y9 (.v (.int .i64 1)) S fun v102 S=>KE0 55 (env63_0 y0 y4 y6 y8 v102) S) (fun u S=>False)) (ldN 4 y8 S fun v103 S=>stN 4 y6 v103 S fun v104 S=>ldN 4 y6 S fun v105 _=>Q (.ret v105) S)
theorem b63_0_eq (y0 y4 y6 y8 y9:AV) (S:Store) (KE0:KeT) (Q:PoT):vc Tryz.prog (c63.at_ [1,1,1,1,1,0,1,0,0]) (ms63.drop 1) (mkE 55 lv63_0 (env63_0 y0 y4 y6 y8 y9)) S (thenK (fgK lv63_0 KE0) (blockK 0 (seqK (vc Tryz.prog (c63.at_ [1,1,1,1,1,1]) (ms63.drop 1)) (bodyK Tryz.prog r63 Q)))) = b63_0 y0 y4 y6 y8 y9 S KE0 Q:=by kernel_rfl
theorem loop63_0 {y0 y4 y6 y8:AV} {y90:AV} {S:Store} {Q:PoT} (I:AV → Store → Prop) (μ:AV → Store → Nat) (h0:I y90 S)
    (hr:∀ (y9:AV) (S:Store),I y9 S → ∀ KE0:KeT,(∀ (y9':AV) (S':Store),I y9' S' → μ y9' S' < μ y9 S → KE0 55 (env63_0 y0 y4 y6 y8 y9') S') → b63_0 y0 y4 y6 y8 y9 S KE0 Q) :
    loopV lv63_0 (vc Tryz.prog (c63.at_ [1,1,1,1,1,0,1,0,0]) (ms63.drop 1)) 55 (env63_0 y0 y4 y6 y8 y90) S (blockK 0 (seqK (vc Tryz.prog (c63.at_ [1,1,1,1,1,1]) (ms63.drop 1)) (bodyK Tryz.prog r63 Q))):=by
  refine ⟨fun n e S=>n = 55 ∧ ∃ y9:AV,e = (env63_0 y0 y4 y6 y8 y9) ∧ I y9 S,fun _ e S=>μ (e.getD 4 .j) S,?_,?_⟩
  · exact ⟨_,_,Wk.refl _ _,rfl,_,rfl,h0⟩
  · rintro _ e S ⟨rfl,y9,rfl,hI⟩
    exact (b63_0_eq _ _ _ _ _ _ _ _).mpr (hr y9 S hI _ (fun y9' S' hI' hm=>⟨_,_,Wk.refl _ _,⟨rfl,_,rfl,hI'⟩,hm⟩))
noncomputable def c34:Code:=(Tryz.f34.body).getD .skip
def ms34:List (List Nat):=[[0]]
def m34 (x0:AV) (S:Store) (Q:PoT):Prop :=
  boxN 25 1 x0 S fun v1 S=>boxN 24 4 (.a [(.v (.int .i64 0)),(.v (.string ByteArray.empty)),(.v (.int .i64 0)),.nl]) S fun v2 S=>boxN 3 1 (.v (.int .i64 0)) S fun v3 S=>stN 1 v3 (.v (.int .i64 0)) S fun v4 S=>boxN 95 1 (.v .nilFunc) S fun v5 S=>stN 1 v5 (.f (.func 62) [] [v3,v1]) S fun v6 S=>boxN 113 1 (.v .nilFunc) S fun v7 S=>stN 1 v7 (.f (.func 63) [] [v5,v3,v1,v7]) S fun v8 S=>ld1 v7 S fun v9 S=>callV Tryz.prog v9 [(.v (.int .i64 6))] S (fun v10 S=>stN 4 v2 v10 S fun v11 S=>ldN 4 v2 S fun v12 _=>Q (.ret v12) S) (fun u S=>Q (.pan u) S)
theorem calls34 {x0:AV} {S:Store} {Q:PoT} (h:m34 x0 S Q):ACalls Tryz.prog 34 [x0] S Q :=
  calls_of_vc (fn:=Tryz.f34) (c:=c34) (n:=10) Tryz.func34 (by kernel_rfl) (by kernel_rfl) (by kernel_rfl) ms34 (Eq.mpr (by kernel_rfl) h)
end Go.Proofs.YtolgpokppnajdaaGreat.G
set_option linter.unusedVariables false
set_option linter.unusedSimpArgs false
namespace Go.Proofs.YtolgpokppnajdaaGreat.G
open Go Go.Ab
abbrev aU8 (n:Int):AV:=.v (.int .u8 n)
def wordsL:List ByteArray:=[⟨#[113]⟩,⟨#[108,48]⟩,⟨#[111,117,116]⟩,⟨#[108,49]⟩,⟨#[105,48]⟩,⟨#[111,48]⟩,⟨#[97,45,98]⟩]
inductive MadeF:Nat → Fo → Prop
  | mk (d:Nat) (k:Int) (n:ByteArray) (ks:List Fo) (h1:1 ≤ k) (h2:k ≤ 18) (h3:(ks.length:Int) = kidsN k) (h4:k = 3 → n ∈ wordsL) (h5:¬ k = 3 → n = ⟨#[]⟩) (h6:ks ≠ [] → 0 < d) (h:∀ f ∈ ks,MadeF (d - 1) f):MadeF d (.mk k n 0 ks)
theorem kidsN_le (k:Int):kidsN k ≤ 2:=by unfold kidsN; split; omega; split; omega; split <;> omega
theorem Fo.tree:∀ (f:Fo),∀ u ∈ f.row,Tree u:=by
  intro f
  induction f using Fo.ind with
  | h k n l ks ih =>
    intro u hu
    rw [Fo.row_mk] at hu
    simp only [List.mem_cons,List.not_mem_nil,or_false] at hu
    rcases hu with rfl | rfl | rfl | rfl
    · exact Tree.v _
    · exact Tree.v _
    · exact Tree.v _
    · refine Tree.l fun c hc u hu=>?_
      obtain ⟨f,hf,rfl⟩:=List.mem_map.1 hc
      exact ih f hf u hu
theorem MadeF.ok:∀ (f:Fo) (d:Nat),MadeF d f → f.ok:=by
  intro f
  induction f using Fo.ind with
  | h k n l ks ih =>
    intro d h
    cases h with
    | mk d _ _ _ h1 h2 h3 h4 h5 h6 h =>
      have hk:=kidsN_le k
      have hn:n.size ≤ 3:=by
        by_cases hk:k = 3
        · have:=h4 hk
          simp only [wordsL,List.mem_cons,List.not_mem_nil,or_false] at this
          rcases this with rfl | rfl | rfl | rfl | rfl | rfl | rfl <;> decide
        · rw [h5 hk]; decide
      exact .mk _ _ _ _ ⟨by omega,by omega⟩ ⟨by decide,by decide⟩ (by omega) (by omega) fun f hf=>ih f hf _ (h f hf)
theorem pickG_of {S:Store} {aid lid ta tl k:Nat} {l:List Int} {n:Int} {Q:AEnd → Store → Prop} (h1:S.obj aid = some (.cells ta [[aI k]] true)) (h2:S.obj lid = some (.cells tl [[aL aU8 l]] true)) (hne:lid ≠ aid)
    (hl:∀ x ∈ l,0 ≤ x ∧ x < 256) (hn:0 < n) (hk:k ≤ 1000000)
    (K:∀ S',S'.n = S.n → S'.obj aid = some (.cells ta [[aI (k + 1:Nat)]] true) → (∀ x,x ≠ aid → S'.obj x = S.obj x) → Q (.ret (aI (pickV l k n))) S'):ACalls Tryz.prog 62 [aI n,.p aid 0 0,.p lid 0 0] S Q:=by
  refine calls62 ?_
  unfold m62
  have hadd:∀ K:AV → Store → Prop,∀ S,bin .add 0 (.v (.int .i64 (k:Int))) (.v (.int .i64 1)) S K = K (aI (k + 1:Nat)) S:=fun K S=>bin_add (by omega) (by omega) 0
  rw [ld1_p h1 rfl rfl,hadd]
  refine st_of h1 rfl rfl fun S1 n1 o1 f1=>?_
  have p1:=(f1 lid hne).trans h2
  rw [ld1_p o1 rfl rfl,ld1_p p1 rfl rfl,lenS_aL,bin_gtr,onB_v]
  refine gd_of (fun h=>?_) (fun h=>?_)
  · have h:=of_decide_eq_true h
    have:=K S1 n1 o1 f1
    rw [pickV,if_pos (by omega)] at this
    exact this
  · have h:=of_decide_eq_false h
    have hlt:k < l.length:=by omega
    have hx:=hl _ (List.getElem_mem hlt)
    have hsub:∀ K:AV → Store → Prop,∀ S,bin .sub 0 (.v (.int .i64 ((k + 1:Nat):Int))) (.v (.int .i64 1)) S K = K (aI k) S:=fun K S=>(bin_sub (by omega) (by omega) 0).trans (by rw [show ((k + 1:Nat):Int) - 1 = k by omega])
    rw [ld1_p p1 rfl rfl,ld1_p o1 rfl rfl,hsub,ixS_aL hlt,ld1_q,convI_64 _ (by omega) (by omega),bin_rem (by omega)]
    have:=K S1 n1 o1 f1
    rw [pickV,if_neg (by omega),show l.getD k 0 = l[k] by simp [List.getD_eq_getElem?_getD,hlt]] at this
    exact this
abbrev pickG (b:Nat):AV:=.f (.func 62) [] [.p (b + 2) 0 0,.p b 0 0]
abbrev makeG (b:Nat):AV:=.f (.func 63) [] [.p (b + 3) 0 0,.p (b + 2) 0 0,.p b 0 0,.p (b + 4) 0 0]
structure Mg (b:Nat) (l:List Int) (k:Nat) (S:Store):Prop where
  n:b + 5 ≤ S.n
  lo:S.obj b = some (.cells 25 [[aL aU8 l]] true)
  ao:S.obj (b + 2) = some (.cells 3 [[aI k]] true)
  po:S.obj (b + 3) = some (.cells 95 [[pickG b]] true)
  mo:S.obj (b + 4) = some (.cells 113 [[makeG b]] true)
def Ch (b:Nat) (S S':Store):Prop:=S.n ≤ S'.n ∧ ∀ i,i < S.n → i ≠ b + 2 → S'.obj i = S.obj i
theorem Ch.trans {b:Nat} {S S' S'':Store} (h:Ch b S S') (k:Ch b S' S''):Ch b S S'':=⟨Nat.le_trans h.1 k.1,fun i hi hb=>(k.2 i (by have:=h.1; omega) hb).trans (h.2 i hi hb)⟩
theorem Ch.keep {b:Nat} {S S':Store} (k:Keep S S'):Ch b S S':=⟨k.1,fun i hi _=>k.2 i hi⟩
theorem Ch.st {b id:Nat} {S0 S S':Store} (h:Ch b S0 S) (hid:S0.n ≤ id ∨ id = b + 2) (hn:S'.n = S.n) (ho:∀ x,x ≠ id → S'.obj x = S.obj x):Ch b S0 S':=⟨by have:=h.1; omega,fun i hi hb=>(ho i (by omega)).trans (h.2 i hi hb)⟩
theorem Ch.low {b:Nat} {S0 S S':Store} (h:Ch b S0 S) (hn:S.n ≤ S'.n) (ho:∀ x,x < S0.n → S'.obj x = S.obj x):Ch b S0 S':=⟨Nat.le_trans h.1 hn,fun i hi hb=>(ho i hi).trans (h.2 i hi hb)⟩
theorem Mg.mv {b k:Nat} {l:List Int} {S S':Store} (h:Mg b l k S) (hn:S.n ≤ S'.n) (ho:∀ i,i < b + 5 → S'.obj i = S.obj i):Mg b l k S':=⟨by have:=h.n; omega,(ho _ (by omega)).trans h.lo,(ho _ (by omega)).trans h.ao,(ho _ (by omega)).trans h.po,(ho _ (by omega)).trans h.mo⟩
theorem Mg.keep {b k:Nat} {l:List Int} {S S':Store} (h:Mg b l k S) (q:Keep S S'):Mg b l k S':=h.mv q.1 fun i hi=>q.2 i (by have:=h.n; omega)
theorem Mg.st {b k id:Nat} {l:List Int} {S S':Store} (h:Mg b l k S) (hid:b + 5 ≤ id) (hn:S'.n = S.n) (ho:∀ x,x ≠ id → S'.obj x = S.obj x):Mg b l k S':=h.mv (by omega) fun i hi=>ho i (by omega)
theorem Mg.pick {b k:Nat} {l:List Int} {S:Store} (h:Mg b l k S) (hl:∀ x ∈ l,0 ≤ x ∧ x < 256) {n:Int} (hn:0 < n) (hk:k ≤ 1000) {K X:AV → Store → Prop}
    (kk:∀ S',Mg b l (k + 1) S' → S'.n = S.n → (∀ x,x ≠ b + 2 → S'.obj x = S.obj x) → K (aI (pickV l k n)) S'):callV Tryz.prog (pickG b) [aI n] S K X :=
  .inl (pickG_of h.ao h.lo (by omega) hl hn (by omega) fun S' n2 o2 f2=>kk S' ⟨by have:=h.n; omega,(f2 _ (by omega)).trans h.lo,o2,(f2 _ (by omega)).trans h.po,(f2 _ (by omega)).trans h.mo⟩ n2 f2)
def mostP:Nat → Nat
  | 0=>3
  | d + 1=>3 + 2 * mostP d
theorem mostP_pos:∀ d,3 ≤ mostP d
  | 0=>by decide
  | d + 1=>by unfold mostP; omega
def MadeQ (b:Nat) (l:List Int) (k d:Nat) (T:Store) (tr:AV) (T':Store):Prop:=∃ (f:Fo) (k':Nat),tr = f.av ∧ Mg b l k' T' ∧ Ch b T T' ∧ k ≤ k' ∧ k' ≤ k + mostP d ∧ MadeF d f
theorem bslA4 {e:Nat} {z1 z2 z3 z4:AV} {r:List AV} {S:Store} {K:AV → Store → Prop} (hr:r.length = 4) (k:K (.l [r]) S):bslN e 4 1 [z1,z2,z3,z4] [(0,.a r)] S K:=by
  match r,hr with
  | [u,v,w,x],_ =>
    refine ⟨[u,v,w,x],?_,.inr ?_⟩
    · simp [fillA,cellsOf,spl]
    · simpa [chunks] using k
theorem bsl7 {e:Nat} {z:AV} {a1 a2 a3 a4 a5 a6 a7:ByteArray} {S:Store} {K:AV → Store → Prop} (k:K (aL (fun a=>.v (.string a)) [a1,a2,a3,a4,a5,a6,a7]) S) :
    bslN e 1 7 [z] [(0,.v (.string a1)),(1,.v (.string a2)),(2,.v (.string a3)),(3,.v (.string a4)),(4,.v (.string a5)),(5,.v (.string a6)),(6,.v (.string a7))] S K:=by
  refine ⟨[.v (.string a1),.v (.string a2),.v (.string a3),.v (.string a4),.v (.string a5),.v (.string a6),.v (.string a7)],?_,.inr ?_⟩
  · have h:∀ a:ByteArray,cellsOf (.v (.string a)) = some [.v (.string a)]:=fun _=>rfl
    simp [fillA,h,spl,List.range_succ]
  · simpa [chunks,List.range_succ,aL] using k
section
variable {b:Nat} {l:List Int} (hl:∀ x ∈ l,0 ≤ x ∧ x < 256) {d:Nat}
  (ih:∀ d',d = d' + 1 → ∀ {k:Nat} {T:Store},Mg b l k T → k + mostP d' ≤ 1000 → ACalls Tryz.prog 63 [aI d',.p (b + 3) 0 0,.p (b + 2) 0 0,.p b 0 0,.p (b + 4) 0 0] T (fun e T'=>∃ tr,e = .ret tr ∧ MadeQ b l k d' T tr T'))
include ih
theorem kids_of {T0 T:Store} {k0 k fid:Nat} {kd:Int} {nm:ByteArray} {r:Int} {Q:AEnd → Store → Prop} (hm:Mg b l k T) (h0:b + 5 ≤ T0.n) (hc:Ch b T0 T) (hb:b + 2 < T0.n) (hf:T0.n < fid) (hfT:fid < T.n) (hv1:T.obj T0.n = some (.cells 24 [(Fo.mk 0 ⟨#[]⟩ 0 []).row.set 3 .nl] true))
    (ho:T.obj fid = some (.cells 24 [[aI kd,.v (.string nm),aI 0,.nl]] true)) (hr:r = kidsN kd) (h1:1 ≤ kd) (h2:kd ≤ 18) (h3:kd = 3 → nm ∈ wordsL) (h4:¬ kd = 3 → nm = ⟨#[]⟩) (h5:kd ≤ 3 ∨ 0 < d) (hd:d ≤ 6)
    (hk0:k0 ≤ k) (hk:k ≤ k0 + 3) (hk1:k0 + mostP d ≤ 1000) (hQ:∀ rr tr T',Cv (T'.frz (newer T0.n)) T'.n rr tr → MadeQ b l k0 d T0 tr T' → Q (.ret rr) T') :
    loopV lv63_0 (vc Tryz.prog (c63.at_ [1,1,1,1,1,0,1,0,0]) (ms63.drop 1)) 55 (env63_0 (aI d) (.p (b + 4) 0 0) (.p T0.n 0 0) (.p fid 0 0) (aI r)) T (blockK 0 (seqK (vc Tryz.prog (c63.at_ [1,1,1,1,1,1]) (ms63.drop 1)) (bodyK Tryz.prog r63 Q))):=by
  have hr0:0 ≤ r ∧ r ≤ 2 ∧ (kd ≤ 3 → r = 0):=by
    have hle:=kidsN_le kd
    subst hr
    refine ⟨?_,hle,fun h=>?_⟩
    · unfold kidsN
      rw [if_neg (by omega)]
      split
      · omega
      split <;> omega
    · unfold kidsN
      rw [if_neg (by omega),if_pos h]
  have hP:∀ d',d = d' + 1 → mostP d = 3 + 2 * mostP d':=fun d' e=>by subst e; rfl
  refine loop63_0 (fun y S'=>∃ (i k':Nat) (ks:List Fo) (yk:AV),y = aI i ∧ (i:Int) + ks.length = r ∧ Mg b l k' S' ∧ Ch b T0 S' ∧ fid < S'.n ∧ S'.obj T0.n = some (.cells 24 [(Fo.mk 0 ⟨#[]⟩ 0 []).row.set 3 .nl] true) ∧
      S'.obj fid = some (.cells 24 [[aI kd,.v (.string nm),aI 0,yk]] true) ∧ Own (fid + 1) S' yk 24 (ks.map Fo.row) ∧ (∀ f ∈ ks,MadeF (d - 1) f) ∧ k0 ≤ k' ∧ k' + i * mostP (d - 1) ≤ k0 + 3 + r.toNat * mostP (d - 1))
    (fun y _=>((intA y).getD 0).toNat) ⟨r.toNat,k,[],.nl,by rw [show ((r.toNat:Nat):Int) = r by omega],by simp; omega,hm,hc,hfT,hv1,ho,.nl _ _ _,(fun f h=>by cases h),hk0,by omega⟩ ?_
  rintro _ S1 ⟨i,k',ks,yk,rfl,hi,m1,c1,f1,v1,o1,w1,hks,hk2,hk3⟩ KE hKE
  unfold b63_0
  have mn:=m1.n
  rw [bin_gtr,onB_v]
  refine gd_of (fun h=>?_) (fun h=>?_)
  · have hpos:0 < i:=by have:=of_decide_eq_true h; omega
    obtain ⟨i',rfl⟩:∃ i',i = i' + 1:=⟨i - 1,by omega⟩
    have hd0:0 < d:=by
      rcases h5 with h5 | h5
      · have:=hr0.2.2 h5
        omega
      · exact h5
    obtain ⟨d',rfl⟩:∃ d',d = d' + 1:=⟨d - 1,by omega⟩
    have hP':=hP d' rfl
    rw [show d' + 1 - 1 = d' from rfl] at hk3 hks
    have hi2:i' + 1 ≤ 2:=by omega
    have hrt:r.toNat ≤ 2:=by omega
    have hmul:r.toNat * mostP d' ≤ 2 * mostP d':=Nat.mul_le_mul_right _ hrt
    have hsplit:(i' + 1) * mostP d' = i' * mostP d' + mostP d':=Nat.succ_mul _ _
    refine L_shift ?_
    refine L_ldp o1 f1 rfl rfl ?_
    refine L_ldp m1.mo (by omega) rfl rfl ?_
    refine ⟨aI d',fun T hT=>by rw [bin_sub (by omega) (by omega),show ((d' + 1:Nat):Int) - 1 = d' by omega]; exact ⟨rfl,rfl⟩,?_⟩
    refine .inl ((ih d' rfl m1 (by omega)).mono ?_)
    rintro e S2 ⟨tr,rfl,f,k2,rfl,m2,c2,hk4,hk5,hf2⟩
    show _ ∧ _
    have o2:=(c2.2 _ f1 (by omega)).trans o1
    have n2:=c2.1
    have w2:Own (fid + 1) S2 yk 24 (ks.map Fo.row):=w1.same n2 fun j hj hj2=>c2.2 j hj2 (by omega)
    refine ⟨fun T hT=>by rw [ld1_p ((hT.2 _ (by omega)).trans o2) rfl rfl]; exact ⟨rfl,rfl⟩,fun T hT=>⟨rfl,rfl⟩,?_⟩
    refine ⟨.l [f.row],fun T hT=>bslA4 (Fo.row_len f) ⟨rfl,rfl⟩,?_⟩
    refine w2.app (c:=f.row) (by omega) (Fo.row_len f) (by rw [List.length_map]; omega) (fun z S3 w3 b3 hz3=>?_) rfl
    obtain ⟨m3,hm3⟩:=hz3
    have n3:=b3.1
    have k3:∀ x,x < fid + 1 → S3.obj x = S2.obj x:=fun x hx=>b3.2 x (by omega) (fun b m e=>by have:=w2.lt e; omega)
    refine L_shift ?_
    refine stF_of ((k3 _ (by omega)).trans o2) (by simp) (by rw [hm3]; rfl) fun S4 n4 o4 f4=>?_
    rw [bin_sub (by omega) (by omega),show ((i' + 1:Nat):Int) - 1 = i' by omega]
    have old:∀ x,x < fid → S4.obj x = S2.obj x:=fun x hx=>(f4 x (by omega)).trans (k3 x (by omega))
    refine hKE _ _ ⟨i',k2,ks ++ [f],z,rfl,by simp; omega,m2.mv (by omega) fun x hx=>old x (by omega),(c1.trans c2).low (by omega) fun x hx=>old x (by omega),by omega,(old _ hf).trans ((c2.2 _ (by omega) (by omega)).trans v1),o4,?_,?_,by omega,?_⟩ (by simp [intA])
    · rw [List.map_append]
      exact w3.st (id:=fid) (fun b m e=>by rw [hm3] at e; injection e; omega) n4 f4
    · intro g hg
      rcases List.mem_append.1 hg with hg | hg
      · exact hks g hg
      · rw [List.mem_singleton.1 hg]; exact hf2
    · show k2 + i' * mostP d' ≤ k0 + 3 + r.toNat * mostP d'
      omega
  · have hge:i = 0:=by have:=of_decide_eq_false h; omega
    subst hge
    rw [ldN_p (n:=4) o1 rfl]
    refine stA_of v1 rfl (by rw [List.length_set,Fo.row_len]) fun S2 n2 o2 f2=>?_
    rw [ldN_p (n:=4) o2 rfl]
    have w2:Own (fid + 1) S2 yk 24 (ks.map Fo.row):=w1.st (id:=T0.n) (fun b m e=>by have:=w1.lt e; omega) n2 f2
    refine hQ _ (Fo.mk kd nm 0 ks).av S2 ?_ ⟨.mk kd nm 0 ks,k',rfl,m1.st (id:=T0.n) (by omega) n2 f2,c1.st (.inl (Nat.le_refl _)) n2 f2,hk2,?_,.mk _ _ _ _ h1 h2 (by omega) h3 h4 (fun hne=>?_) hks⟩
    · rw [Fo.av,Fo.row_mk]
      refine .a _ _ rfl fun k u u2 e1 e2=>?_
      match k with
      | 0=>cases e1; cases e2; exact .v _
      | 1=>cases e1; cases e2; exact .v _
      | 2=>cases e1; cases e2; exact .v _
      | 3=>cases e1; cases e2; exact own_rows (fun r hr u hu=>by obtain ⟨f,_,rfl⟩:=List.mem_map.1 hr; exact Fo.tree f u hu) w2 (by omega)
      | k + 4=>simp at e1
    · rcases Nat.eq_zero_or_pos d with hz | hz
      · have:r = 0:=hr0.2.2 (by omega)
        rw [this] at hk3
        have:=mostP_pos d
        simp at hk3
        omega
      · obtain ⟨d',rfl⟩:∃ d',d = d' + 1:=⟨d - 1,by omega⟩
        have hP':=hP d' rfl
        have hmul:r.toNat * mostP d' ≤ 2 * mostP d':=Nat.mul_le_mul_right _ (by omega)
        rw [show d' + 1 - 1 = d' from rfl] at hk3
        omega
    · rcases h5 with h5 | h5
      · have:=hr0.2.2 h5
        have:ks = []:=List.eq_nil_of_length_eq_zero (by omega)
        exact absurd this hne
      · exact h5
end
section
variable {b:Nat} {l:List Int} (hl:∀ x ∈ l,0 ≤ x ∧ x < 256) {d:Nat}
  (ih:∀ d',d = d' + 1 → ∀ {k:Nat} {T:Store},Mg b l k T → k + mostP d' ≤ 1000 → ACalls Tryz.prog 63 [aI d',.p (b + 3) 0 0,.p (b + 2) 0 0,.p b 0 0,.p (b + 4) 0 0] T (fun e T'=>∃ tr,e = .ret tr ∧ MadeQ b l k d' T tr T'))
include hl ih
theorem rest_of {T0 T:Store} {k0 k:Nat} {kd:Int} {Q:AEnd → Store → Prop} (hm:Mg b l k T) (h0:b + 5 ≤ T0.n) (hc:Ch b T0 T) (hT:T0.n < T.n) (hv1:T.obj T0.n = some (.cells 24 [(Fo.mk 0 ⟨#[]⟩ 0 []).row.set 3 .nl] true))
    (h1:1 ≤ kd) (h2:kd ≤ 18) (h5:kd ≤ 3 ∨ 0 < d) (hd:d ≤ 6) (hk0:k0 ≤ k) (hk:k ≤ k0 + 2) (hk1:k0 + mostP d ≤ 1000) (hQ:∀ rr tr T',Cv (T'.frz (newer T0.n)) T'.n rr tr → MadeQ b l k0 d T0 tr T' → Q (.ret rr) T') :
    bld [(0,1),(1,1),(2,1),(3,1)] [(.v (.int .i64 0)),(.v (.string ByteArray.empty)),(.v (.int .i64 0)),.nl] [(0,(aI kd))] T fun v11 S=>boxN 24 4 (.a [(.v (.int .i64 0)),(.v (.string ByteArray.empty)),(.v (.int .i64 0)),.nl]) S fun v12 S=>stN 4 v12 v11 S fun v13 S=>bin .eql 0 (aI kd) (.v (.int .i64 3)) S fun v14 S=>onB v14 fun b15=>gd b15 (bslN 9 1 7 [(.v (.string ByteArray.empty))] [(0,(.v (.string { data:=#[113] }))),(1,(.v (.string { data:=#[108,48] }))),(2,(.v (.string { data:=#[111,117,116] }))),(3,(.v (.string { data:=#[108,49] }))),(4,(.v (.string { data:=#[105,48] }))),(5,(.v (.string { data:=#[111,48] }))),(6,(.v (.string { data:=#[97,45,98] })))] S fun v16 S=>ld1 (.p (b + 3) 0 0) S fun v17 S=>callV Tryz.prog v17 [(.v (.int .i64 7))] S (fun v18 S=>ixS 9 1 v16 v18 S fun v19 S=>ld1 v19 S fun v20 S=>shift v12 1 S fun v21 S=>stN 1 v21 v20 S fun v22 S=>callF Tryz.prog 64 [(aI kd)] S Q fun v23 S=>loopV lv63_0 (vc Tryz.prog (c63.at_ [1,1,1,1,1,0,1,0,0]) (ms63.drop 1)) 55 (env63_0 (aI d) (.p (b + 4) 0 0) (.p T0.n 0 0) v12 v23) S (blockK 0 (seqK (vc Tryz.prog (c63.at_ [1,1,1,1,1,1]) (ms63.drop 1)) (bodyK Tryz.prog r63 Q)))) (fun u S=>Q (.pan u) S)) (callF Tryz.prog 64 [(aI kd)] S Q fun v24 S=>loopV lv63_0 (vc Tryz.prog (c63.at_ [1,1,1,1,1,0,1,0,0]) (ms63.drop 1)) 55 (env63_0 (aI d) (.p (b + 4) 0 0) (.p T0.n 0 0) v12 v24) S (blockK 0 (seqK (vc Tryz.prog (c63.at_ [1,1,1,1,1,1]) (ms63.drop 1)) (bodyK Tryz.prog r63 Q)))):=by
  have hmp:=mostP_pos d
  rw [bld_of (cs:=[aI kd,.v (.string ⟨#[]⟩),aI 0,.nl]) rfl]
  refine boxA_of rfl fun S1 k1 n1 o1=>?_
  refine stA_of (cs':=[aI kd,.v (.string ⟨#[]⟩),aI 0,.nl]) o1 rfl rfl fun S2 n2 o2 f2=>?_
  have k2:=k1.st (Nat.le_refl _) n2 f2
  have m2:=hm.keep k2
  have c2:=hc.trans (Ch.keep (b:=b) k2)
  have v2:=(k2.2 _ hT).trans hv1
  rw [bin_eql,onB_v]
  refine gd_of (fun h=>?_) (fun h=>?_)
  · have h:kd = 3:=of_decide_eq_true h
    refine bsl7 ?_
    rw [ld1_p m2.po rfl rfl]
    refine m2.pick hl (by omega) (by omega) fun S3 m3 n3 f3=>?_
    obtain ⟨q0,q7⟩:=pickV_rng (l:=l) (k:=k) (n:=7) (fun x hx=>⟨(hl x hx).1,by have:=(hl x hx).2; omega⟩) (by omega)
    generalize pickV l k 7 = p at *
    obtain ⟨p,rfl⟩:=Int.eq_ofNat_of_zero_le q0
    have hp:p < wordsL.length:=by simp [wordsL]; omega
    rw [show ∀ K:AV → Store → Prop,ixS 9 1 (aL (fun a=>.v (.string a)) [⟨#[113]⟩,⟨#[108,48]⟩,⟨#[111,117,116]⟩,⟨#[108,49]⟩,⟨#[105,48]⟩,⟨#[111,48]⟩,⟨#[97,45,98]⟩]) (aI p) S3 K = K (.q [.v (.string wordsL[p])] 0) S3 from fun K=>ixS_aL (l:=wordsL) hp]
    rw [ld1_q,shift_p]
    have o3:=(f3 T.n (by have:=hm.n; omega)).trans o2
    refine stF_of o3 (by simp) rfl fun S4 n4 o4 f4=>?_
    refine callF_ans (ans64 kd) ?_
    exact kids_of ih (nm:=wordsL[p]) (m3.st (id:=T.n) (by have:=hm.n; omega) n4 f4) h0 ((c2.st (.inr rfl) n3 f3).st (.inl (by omega)) n4 f4) (by omega) hT (by omega) ((f4 _ (by omega)).trans ((f3 _ (by omega)).trans v2)) o4 rfl h1 h2 (fun _=>List.getElem_mem _) (fun h'=>absurd h h') h5 hd (by omega) (by omega) hk1 hQ
  · have h:¬ kd = 3:=of_decide_eq_false h
    refine callF_ans (ans64 kd) ?_
    exact kids_of ih (nm:=⟨#[]⟩) m2 h0 c2 (by omega) hT (by omega) v2 o2 rfl h1 h2 (fun h'=>absurd h' h) (fun _=>rfl) h5 hd (by omega) (by omega) hk1 hQ
theorem make_step (hd:d ≤ 6) {k:Nat} {T:Store} (hm:Mg b l k T) (hk:k + mostP d ≤ 1000):ACalls Tryz.prog 63 [aI d,.p (b + 3) 0 0,.p (b + 2) 0 0,.p b 0 0,.p (b + 4) 0 0] T (fun e T'=>∃ tr,e = .ret tr ∧ MadeQ b l k d T tr T'):=by
  have hmp:=mostP_pos d
  have h0:=hm.n
  refine (ACalls.treeW (Φ:=fun tr T'=>MadeQ b l k d T tr T') (calls63 ?_)).mono ?_
  · unfold m63
    refine boxA_of (cs:=(Fo.mk 0 ⟨#[]⟩ 0 []).row.set 3 .nl) (by rw [List.length_set,Fo.row_len]) fun S1 k1 n1 o1=>?_
    have hQ:∀ rr tr T',Cv (T'.frz (newer T.n)) T'.n rr tr → MadeQ b l k d T tr T' → ∃ r tr,AEnd.ret rr = .ret r ∧ Cv (T'.frz (newer T.n)) T'.n r tr ∧ MadeQ b l k d T tr T':=fun rr tr T' h1 h2=>⟨rr,tr,rfl,h1,h2⟩
    have m1:=hm.keep k1
    rw [ld1_p m1.po rfl rfl]
    refine m1.pick hl (by omega) (by omega) fun S2 m2 n2 f2=>?_
    obtain ⟨p0,p18⟩:=pickV_rng (l:=l) (k:=k) (n:=18) (fun x hx=>⟨(hl x hx).1,by have:=(hl x hx).2; omega⟩) (by omega)
    generalize pickV l k 18 = pk at *
    have c2:Ch b T S2:=(Ch.keep (b:=b) k1).st (.inr rfl) n2 f2
    have v2:=(f2 _ (by omega)).trans o1
    rw [bin_add (by omega) (by omega),bin_eql,onB_v]
    refine gd_of (fun h=>?_) (fun h=>?_)
    ·
      rw [ld1_p m2.po rfl rfl]
      refine m2.pick hl (by omega) (by omega) fun S3 m3 n3 f3=>?_
      obtain ⟨q0,q7⟩:=pickV_rng (l:=l) (k:=k + 1) (n:=7) (fun x hx=>⟨(hl x hx).1,by have:=(hl x hx).2; omega⟩) (by omega)
      generalize pickV l (k + 1) 7 = p at *
      have hq:p.tdiv 5 = p / 5:=Int.tdiv_eq_ediv_of_nonneg q0
      rw [bin_quo (by omega) (by omega) (by omega),bin_sub (by omega) (by omega)]
      exact rest_of hl ih (kd:=3 - p.tdiv 5) m3 h0 (c2.st (.inr rfl) n3 f3) (by omega) ((f3 _ (by omega)).trans v2) (by omega) (by omega) (.inl (by omega)) hd (by omega) (by omega) hk hQ
    have hd0:¬ (d:Int) = 0:=of_decide_eq_false h
    rw [ld1_p m2.ao rfl rfl,ld1_p m2.lo rfl rfl,lenS_aL,bin_geq,onB_v]
    refine gd_of (fun h=>?_) (fun h=>?_)
    ·
      rw [ld1_p m2.po rfl rfl]
      refine m2.pick hl (by omega) (by omega) fun S3 m3 n3 f3=>?_
      obtain ⟨q0,q7⟩:=pickV_rng (l:=l) (k:=k + 1) (n:=7) (fun x hx=>⟨(hl x hx).1,by have:=(hl x hx).2; omega⟩) (by omega)
      generalize pickV l (k + 1) 7 = p at *
      have hq:p.tdiv 5 = p / 5:=Int.tdiv_eq_ediv_of_nonneg q0
      rw [bin_quo (by omega) (by omega) (by omega),bin_sub (by omega) (by omega)]
      exact rest_of hl ih (kd:=3 - p.tdiv 5) m3 h0 (c2.st (.inr rfl) n3 f3) (by omega) ((f3 _ (by omega)).trans v2) (by omega) (by omega) (.inl (by omega)) hd (by omega) (by omega) hk hQ
    rw [ld1_p m2.ao rfl rfl,bin_gtr,onB_v]
    refine gd_of (fun h=>?_) (fun h=>?_)
    ·
      rw [ld1_p m2.po rfl rfl]
      refine m2.pick hl (by omega) (by omega) fun S3 m3 n3 f3=>?_
      obtain ⟨q0,q7⟩:=pickV_rng (l:=l) (k:=k + 1) (n:=7) (fun x hx=>⟨(hl x hx).1,by have:=(hl x hx).2; omega⟩) (by omega)
      generalize pickV l (k + 1) 7 = p at *
      have hq:p.tdiv 5 = p / 5:=Int.tdiv_eq_ediv_of_nonneg q0
      rw [bin_quo (by omega) (by omega) (by omega),bin_sub (by omega) (by omega)]
      exact rest_of hl ih (kd:=3 - p.tdiv 5) m3 h0 (c2.st (.inr rfl) n3 f3) (by omega) ((f3 _ (by omega)).trans v2) (by omega) (by omega) (.inl (by omega)) hd (by omega) (by omega) hk hQ
    exact rest_of hl ih (kd:=1 + pk) m2 h0 c2 (by omega) v2 (by omega) (by omega) (.inr (by omega)) hd (by omega) (by omega) hk hQ
  · rintro e T' ⟨tr,T1,rfl,rfl,f,k',rfl,m',c',h1,h2,h3⟩
    have old:∀ i,i < T.n → (T1.frz (newer T.n)).obj i = T1.obj i:=fun i hi=>frz_false (by simp [newer]; omega)
    exact ⟨_,rfl,f,k',rfl,m'.mv (Nat.le_refl _) fun i hi=>old i (by omega),⟨c'.1,fun i hi hb=>(old i hi).trans (c'.2 i hi hb)⟩,h1,h2,h3⟩
end
theorem make_of {b:Nat} {l:List Int} (hl:∀ x ∈ l,0 ≤ x ∧ x < 256):∀ {d:Nat},d ≤ 6 → ∀ {k:Nat} {T:Store},Mg b l k T → k + mostP d ≤ 1000 → ACalls Tryz.prog 63 [aI d,.p (b + 3) 0 0,.p (b + 2) 0 0,.p b 0 0,.p (b + 4) 0 0] T (fun e T'=>∃ tr,e = .ret tr ∧ MadeQ b l k d T tr T'):=by
  intro d
  induction d with
  | zero=>exact fun hd {k T} hm hk=>make_step hl (fun d' h=>by omega) hd hm hk
  | succ d ih =>
    intro hd k T hm hk
    refine make_step hl (fun d' h {k T} hm hk=>?_) hd hm hk
    obtain rfl:d = d':=by omega
    exact ih (by omega) hm hk
theorem made34 {l:List Int} (hl:∀ x ∈ l,0 ≤ x ∧ x < 256) {S:Store}:ACalls Tryz.prog 34 [aL aU8 l] S (fun e S'=>∃ tr,e = .ret tr ∧ S' = S ∧ ∃ f:Fo,tr = f.av ∧ MadeF 6 f):=by
  refine ACalls.treeE (calls34 ?_)
  unfold m34
  refine box1_of rfl fun S1 k1 n1 o1=>?_
  refine boxA_of rfl fun S2 k2 n2 o2=>?_
  refine box1_of rfl fun S3 k3 n3 o3=>?_
  refine st_of o3 rfl rfl fun S4 n4 o4 f4=>?_
  refine box1_of rfl fun S5 k5 n5 o5=>?_
  refine st_of o5 rfl rfl fun S6 n6 o6 f6=>?_
  refine box1_of rfl fun S7 k7 n7 o7=>?_
  refine st_of o7 rfl rfl fun S8 n8 o8 f8=>?_
  rw [ld1_p o8 rfl rfl]
  have e2:S2.n = S.n + 2:=by omega
  have e4:S4.n = S.n + 3:=by omega
  have e6:S6.n = S.n + 4:=by omega
  rw [e2] at o3 o4 f4
  rw [e4] at o5 o6 f6
  rw [e6] at o7 o8 f8
  have q8:∀ i,i < S.n + 4 → S8.obj i = S6.obj i:=fun i hi=>(f8 i (by omega)).trans (k7.2 i (by omega))
  have q6:∀ i,i < S.n + 3 → S8.obj i = S4.obj i:=fun i hi=>(q8 i (by omega)).trans ((f6 i (by omega)).trans (k5.2 i (by omega)))
  have q4:∀ i,i < S.n + 2 → S8.obj i = S2.obj i:=fun i hi=>(q6 i (by omega)).trans ((f4 i (by omega)).trans (k3.2 i (by omega)))
  have hm:Mg S.n l 0 S8:=⟨by omega,(q4 _ (by omega)).trans ((k2.2 _ (by omega)).trans o1),(q6 _ (by omega)).trans o4,(q8 _ (by omega)).trans (by rw [o6,e2]; rfl),by rw [o8,e2,e4]; rfl⟩
  refine .inl ?_
  rw [e2,e4,e6]
  refine (make_of (d:=6) hl (Nat.le_refl _) hm (by decide)).mono ?_
  rintro e S9 ⟨tr,rfl,f,k',rfl,m9,c9,_,_,hf⟩
  show stN 4 _ _ _ _
  have n9:=m9.n
  have c9n:=c9.1
  refine stA_of ((c9.2 S1.n (by omega) (by omega)).trans ((q4 _ (by omega)).trans o2)) (Fo.row_len f) rfl fun S10 n10 o10 f10=>?_
  rw [ldN_p (n:=4) o10 (Fo.row_len f)]
  refine ⟨_,f.av,rfl,⟨by omega,fun i hi=>(f10 i (by omega)).trans ((c9.2 i (by omega) (by omega)).trans ((q4 i (by omega)).trans ((k2.2 i (by omega)).trans (k1.2 i hi))))⟩,Tree.a (fun u hu=>Fo.tree f u hu) _ _,f,rfl,hf⟩
def litV (m:Int) (n:ByteArray):Int:=((n.size:Int) * 7 + (n[0]!).toNat).tmod (if 1 > m then 1 else m)
mutual
def Fo.litsF (m:Int):Fo → Fo
  | .mk k n _ ks=>.mk k ⟨#[]⟩ (if k = 3 then litV m n else 0) (Fo.litsFs m ks)
def Fo.litsFs (m:Int):List Fo → List Fo
  | []=>[]
  | f :: fs=>Fo.litsF m f :: Fo.litsFs m fs
end
theorem Fo.litsFs_map (m:Int):∀ l:List Fo,Fo.litsFs m l = l.map (Fo.litsF m)
  | []=>by rw [Fo.litsFs]; rfl
  | f :: fs=>by rw [Fo.litsFs,Fo.litsFs_map m fs]; rfl
theorem Fo.litsF_mk (m k:Int) (n:ByteArray) (l:Int) (ks:List Fo):Fo.litsF m (.mk k n l ks) = .mk k ⟨#[]⟩ (if k = 3 then litV m n else 0) (ks.map (Fo.litsF m)):=by rw [Fo.litsF,Fo.litsFs_map]
theorem litV_rng {m:Int} (n:ByteArray):0 ≤ litV m n ∧ litV m n < max m 1:=by
  unfold litV
  have h:(0:Int) < (if 1 > m then 1 else m):=by split <;> omega
  have h0:(0:Int) ≤ (n.size:Int) * 7 + (n[0]!).toNat:=by omega
  have h3:(if 1 > m then 1 else m) ≤ max m 1:=by split <;> omega
  generalize (if 1 > m then 1 else m) = q at *
  rw [Int.tmod_eq_emod_of_nonneg h0]
  have h1:=Int.emod_nonneg ((n.size:Int) * 7 + (n[0]!).toNat) (show q ≠ 0 by omega)
  have h2:=Int.emod_lt_of_pos ((n.size:Int) * 7 + (n[0]!).toNat) h
  exact ⟨h1,by omega⟩
theorem litsF_ok {m:Int} (hm:m ≤ 9223372036854775807):∀ (f:Fo) (d:Nat),MadeF d f → (f.litsF m).ok ∧ (f.litsF m).mayB (d + 1) = true ∧ ∀ g:Gr,(∀ l:Int,0 ≤ l → l < max m 1 → g.lit l = true) → (f.litsF m).litsB g = true:=by
  intro f
  induction f using Fo.ind with
  | h k n l ks ih =>
    intro d h
    cases h with
    | mk d _ _ _ h1 h2 h3 h4 h5 h6 h =>
      have hk:=kidsN_le k
      have hv:=litV_rng (m:=m) n
      rw [Fo.litsF_mk]
      refine ⟨.mk _ _ _ _ ⟨by omega,by omega⟩ (by unfold i64R; split <;> omega) (by decide) (by rw [List.length_map]; omega) fun g hg=>?_,?_,fun g hg=>?_⟩
      · obtain ⟨f,hf,rfl⟩:=List.mem_map.1 hg
        exact (ih f hf _ (h f hf)).1
      · rw [Fo.mayB_mk]
        simp only [Bool.and_eq_true,decide_eq_true_eq,List.all_eq_true,List.length_map]
        refine ⟨by omega,?_,trivial,h3,fun g hg=>?_⟩
        · split
          · rename_i hk3
            rcases Int.lt_or_eq_of_le hv.1 with h | h
            · exact .inr ⟨h,hk3⟩
            · exact .inl h.symm
          · exact .inl rfl
        · obtain ⟨f,hf,rfl⟩:=List.mem_map.1 hg
          have:=(ih f hf _ (h f hf)).2.1
          have hd:=h6 (fun e=>by subst e; cases hf)
          rwa [show ((d - 1:Nat):Int) + 1 = (d:Int) + 1 - 1 by omega] at this
      · rw [Fo.litsB_mk]
        simp only [Bool.and_eq_true,Bool.or_eq_true,decide_eq_true_eq,List.all_eq_true]
        refine ⟨?_,fun g' hg'=>?_⟩
        · by_cases hk3:k = 3
          · rw [if_pos hk3]; exact .inr (hg _ hv.1 hv.2)
          · exact .inl hk3
        · obtain ⟨f,hf,rfl⟩:=List.mem_map.1 hg'
          exact (ih f hf _ (h f hf)).2.2 g hg
theorem mayB_mono:∀ (f:Fo) {d d':Int},d ≤ d' → f.mayB d = true → f.mayB d' = true:=by
  intro f
  induction f using Fo.ind with
  | h k n l ks ih =>
    intro d d' hd h
    rw [Fo.mayB_mk] at h ⊢
    simp only [Bool.and_eq_true,decide_eq_true_eq,List.all_eq_true] at h ⊢
    obtain ⟨h1,h2,h3,h4,h5⟩:=h
    exact ⟨by omega,h2,h3,h4,fun f hf=>ih f hf (by omega) (h5 f hf)⟩
theorem word0 {n:ByteArray} (h:n ∈ wordsL):0 < n.size ∧ n.size ≤ 3:=by
  simp only [wordsL,List.mem_cons,List.not_mem_nil,or_false] at h
  rcases h with rfl | rfl | rfl | rfl | rfl | rfl | rfl <;> decide
theorem ans42 {m:Int} (hm:i64R m):∀ (f:Fo) (d:Nat),MadeF d f → Ans Tryz.prog 42 [f.av,aI m] (f.litsF m).av:=by
  intro f
  induction f using Fo.ind with
  | h k n l ks ih =>
    intro d h S
    have hok:=h.ok
    cases h with
    | mk d _ _ _ h1 h2 h3 h4 h5 h6 hks =>
    have hkl:=kidsN_le k
    refine ACalls.tree (calls42 ?_)
    unfold m42
    rw [Fo.av,Fo.row_mk]
    refine boxA_of rfl fun S1 k1 n1 o1=>?_
    refine boxA_of rfl fun S2 k2 n2 o2=>?_
    have p2:=(k2.2 _ (by omega)).trans o1
    rw [shift_p,ld1_p p2 rfl rfl,bld_of (cs:=[aI k,.v (.string ⟨#[]⟩),aI 0,.nl]) rfl]
    refine boxA_of rfl fun S3 k3 n3 o3=>?_
    refine stA_of (cs':=[aI k,.v (.string ⟨#[]⟩),aI 0,.nl]) o3 rfl rfl fun S4 n4 o4 f4=>?_
    have k4:=k3.st (Nat.le_refl _) n4 f4
    have p4:=(k4.2 _ (by omega)).trans p2
    have r4:=(k4.2 _ (by omega)).trans o2
    have kk:=(k1.trans k2).trans k4
    have tail:∀ (T:Store) (v:Int),v = (if k = 3 then litV m n else 0) → Keep S T → S4.n ≤ T.n → T.obj S.n = some (.cells 24 [[aI k,.v (.string n),aI 0,foL ks]] true) → T.obj S1.n = some (.cells 24 [[.v (.int .i64 0),.v (.string ByteArray.empty),.v (.int .i64 0),.nl]] true) →
        T.obj S2.n = some (.cells 24 [[aI k,.v (.string ⟨#[]⟩),aI v,.nl]] true) →
        loopV lv42_0 (vc Tryz.prog (c42.at_ [1,1,1,0,1,0,0]) (ms42.drop 1)) 46 (env42_0 (aI m) (.p S.n 0 0) (.p S1.n 0 0) (.p S2.n 0 0) (.v (.int .i64 0))) T (blockK 0 (seqK (vc Tryz.prog (c42.at_ [1,1,1,1]) (ms42.drop 1)) (bodyK Tryz.prog r42 fun e S'=>∃ r,e = .ret r ∧ Keep S S' ∧ Cv (S'.frz (newer S.n)) S.n r (Fo.litsF m (.mk k n 0 ks)).av))):=by
      intro T v hv kT nT oa ob oc
      refine loop42_0 (fun y S'=>∃ (i:Nat) (z:AV),y = aI i ∧ i ≤ ks.length ∧ Keep S S' ∧ S4.n ≤ S'.n ∧ S'.obj S.n = some (.cells 24 [[aI k,.v (.string n),aI 0,foL ks]] true) ∧ S'.obj S1.n = some (.cells 24 [[.v (.int .i64 0),.v (.string ByteArray.empty),.v (.int .i64 0),.nl]] true) ∧
          S'.obj S2.n = some (.cells 24 [[aI k,.v (.string ⟨#[]⟩),aI v,z]] true) ∧ Own S4.n S' z 24 (((ks.take i).map (Fo.litsF m)).map Fo.row))
        (fun y _=>ks.length - ((intA y).getD 0).toNat) ⟨0,.nl,rfl,Nat.zero_le _,kT,nT,oa,ob,oc,.nl _ _ _⟩ ?_
      rintro _ S5 ⟨i,z,rfl,hi,k5,n5,oa,ob,oc,w5⟩ KE hKE
      unfold b42_0
      rw [shift_p,ld1_p oa rfl rfl,lenS_foL,bin_lss,onB_v]
      refine gd_of (fun hlt=>?_) (fun hge=>?_)
      · have hlt:i < ks.length:=by have:=of_decide_eq_true hlt; omega
        have hmem:=List.getElem_mem hlt
        refine L_shift ?_
        refine L_ldp oc (by omega) rfl rfl ?_
        refine L_shift ?_
        refine L_ldp oa (by omega) rfl rfl ?_
        refine ⟨_,fun T hT=>by rw [ixS_foL hlt]; exact ⟨rfl,rfl⟩,?_⟩
        refine L_ldNq (Fo.row_len _) ?_
        refine L_callA (ih _ hmem _ (hks _ hmem)) ?_
        refine ⟨.l [(Fo.litsF m ks[i]).row],fun T hT=>bslA4 (Fo.row_len _) ⟨rfl,rfl⟩,?_⟩
        refine w5.app (c:=(Fo.litsF m ks[i]).row) (by omega) (Fo.row_len _) (by simp; omega) (fun z' S6 w6 b6 hz=>?_) rfl
        obtain ⟨m6,hm6⟩:=hz
        have n6:=b6.1
        have old6:∀ x,x < S4.n → S6.obj x = S5.obj x:=fun x hx=>b6.2 x (by omega) (fun b m e=>by have:=w5.lt e; omega)
        refine L_shift ?_
        refine stF_of ((old6 _ (by omega)).trans oc) (by simp) (by rw [hm6]; rfl) fun S7 n7 o7 f7=>?_
        rw [bin_add (by omega) (by omega)]
        have old7:∀ x,x < S2.n → S7.obj x = S5.obj x:=fun x hx=>(f7 x (by omega)).trans (old6 x (by omega))
        refine hKE _ _ ⟨i + 1,z',rfl,hlt,⟨by have:=k5.1; omega,fun x hx=>(old7 x (by omega)).trans (k5.2 x hx)⟩,by omega,(old7 _ (by omega)).trans oa,(old7 _ (by omega)).trans ob,o7,?_⟩ (by simp [intA]; omega)
        rw [List.take_add_one,List.getElem?_eq_getElem hlt,List.map_append,List.map_append]
        exact w6.st (id:=S2.n) (fun b m e=>by rw [hm6] at e; injection e; omega) n7 f7
      · have hge:i = ks.length:=by have:=of_decide_eq_false hge; omega
        subst hge
        rw [ldN_p (n:=4) oc rfl]
        refine stA_of ob rfl rfl fun S6 n6 o6 f6=>?_
        rw [ldN_p (n:=4) o6 rfl]
        have w6:Own S4.n S6 z 24 _:=w5.st (id:=S1.n) (fun b m e=>by have:=w5.lt e; omega) n6 f6
        rw [List.take_length] at w6
        refine ⟨_,rfl,k5.st (by omega) n6 f6,?_⟩
        rw [Fo.litsF_mk,Fo.av,Fo.row_mk,← hv]
        refine .a _ _ rfl fun k u u2 e1 e2=>?_
        match k with
        | 0=>cases e1; cases e2; exact .v _
        | 1=>cases e1; cases e2; exact .v _
        | 2=>cases e1; cases e2; exact .v _
        | 3=>cases e1; cases e2; exact own_rows (fun r hr u hu=>by obtain ⟨f,_,rfl⟩:=List.mem_map.1 hr; exact Fo.tree f u hu) w6 (by omega)
        | k + 4=>simp at e1
    rw [shift_p,ld1_p p4 rfl rfl,bin_eql,onB_v]
    refine gd_of (fun hk3=>?_) (fun hk3=>?_)
    · have hk3:k = 3:=of_decide_eq_true hk3
      obtain ⟨hn0,hn3⟩:=word0 (h4 hk3)
      have hb:((n[0]!).toNat) ≤ 255:=by have:=(n[0]!).toNat_lt; omega
      have hne:(if 1 > m then 1 else m) ≠ 0:=by split <;> omega
      refine L_shift ?_
      refine L_ldp p4 (by omega) rfl rfl ?_
      refine ⟨_,fun T hT=>by rw [lenStr_b]; exact ⟨rfl,rfl⟩,?_⟩
      refine ⟨_,fun T hT=>by rw [bin_mul (by omega) (by omega)]; exact ⟨rfl,rfl⟩,?_⟩
      refine L_shift ?_
      refine L_ldp p4 (by omega) rfl rfl ?_
      refine ⟨_,fun T hT=>by rw [show ∀ K:AV → Store → Prop,ixStr (.v (.string n)) (.v (.int .i64 0)) T K = K (.v (.int .u8 (n[0]!).toNat)) T from fun K=>(ixStr_b (i:=0) hn0).trans (by rw [getElem!_pos n 0 hn0])]; exact ⟨rfl,rfl⟩,?_⟩
      refine ⟨_,fun T hT=>by rw [convI_64 _ (by omega) (by omega)]; exact ⟨rfl,rfl⟩,?_⟩
      refine ⟨_,fun T hT=>by rw [bin_add (by omega) (by omega)]; exact ⟨rfl,rfl⟩,?_⟩
      refine ⟨_,fun T hT=>by rw [mx_true]; exact ⟨rfl,rfl⟩,?_⟩
      refine ⟨_,fun T hT=>by rw [bin_rem hne]; exact ⟨rfl,rfl⟩,?_⟩
      refine L_shift ?_
      refine stF_of o4 (by simp) rfl fun S5 n5 o5 f5=>?_
      exact tail S5 _ (by rw [if_pos hk3]; rfl) (kk.st (by omega) n5 f5) (by omega) ((f5 _ (by omega)).trans p4) ((f5 _ (by omega)).trans r4) o5
    · have hk3:¬ k = 3:=of_decide_eq_false hk3
      exact tail S4 0 (by rw [if_neg hk3]) kk (Nat.le_refl _) p4 r4 o4
def s00:Sp:=⟨1,[true,true],[true,false],[[1],[0]],[]⟩
theorem s00_of:spOf ca0 = s00:=by
  have h:=(spaceB_ok (c:=ca0) (by rw [ca0_sp])).1
  rw [ca0_sp] at h
  exact (congrArg Prod.fst h).symm
theorem bit2 {P:Nat → Prop} (h0:P 0) (h1:P 1) (h2:∀ i,2 ≤ i → P i):∀ i,P i
  | 0=>h0
  | 1=>h1
  | i + 2=>h2 _ (by omega)
theorem ext2 {a b:List Bool} (ha:a.length = 2) (hb:b.length = 2) (h0:bit a 0 = bit b 0) (h1:bit a 1 = bit b 1):a = b :=
  ext_bit (by omega) (bit2 h0 h1 fun i hi=>by rw [bit_ge (by omega),bit_ge (by omega)])
theorem eu_tt:euP s00 [true,true] [true,true] = [true,true] :=
  ext2 (by simp) rfl (bit_eu.2 ⟨by decide,.base 0 rfl rfl⟩) (bit_eu.2 ⟨by decide,.base 1 rfl rfl⟩)
theorem eu_no {s:Sp} {p q:List Bool} (hq:∀ i,bit q i = false):∀ i,¬ Reach s p q i:=fun i h=>by
  induction h with
  | base i h1 _=>rw [hq] at h1; cases h1
  | step _ _ _ _ _ _ ih=>exact ih
theorem bit_ff:∀ i,bit [false,false] i = false:=bit2 rfl rfl fun i hi=>bit_ge (by simpa using hi)
theorem eu_ff:euP s00 [true,true] [false,false] = [false,false]:=by
  have h:∀ i,bit (euP s00 [true,true] [false,false]) i = false:=fun i=>by
    cases hb:bit (euP s00 [true,true] [false,false]) i with
    | false=>rfl
    | true=>exact absurd (bit_eu.1 hb).2 (eu_no bit_ff i)
  exact ext2 (by simp) rfl (h 0) (h 1)
theorem eg_tt:egP s00 [true,true] = [true,true]:=by
  refine (eg_of rfl (fun i h=>by exact h) (fun y hl h _ i hi=>by have:=h i hi; exact this) fun f hf i hi=>?_).symm
  have:f = [true,true]:=by simpa [fairL,s00] using hf
  subst this
  have:stepP s00 [true,true] [true,true] = [true,true]:=by
    show andP [true,true] (exP s00 (euP s00 [true,true] [true,true])) = _
    rw [eu_tt]; rfl
  rw [this]; exact hi
theorem eg_tf:egP s00 [true,false] = [false,false]:=by
  refine (eg_none (p:=[true,false]) (z:=[false,false]) rfl (fun y hl h hst i hi=>?_) bit_ff).symm
  have hy1:bit y 1 = false:=by
    cases hb:bit y 1 with
    | false=>rfl
    | true=>have:=h 1 hb; cases this
  have hy0:¬ bit y 0 = true:=fun h0=>by
    have h1:=hst [true,true] (by simp [fairL,s00]) 0 h0
    rw [stepP,bit_and,Bool.and_eq_true,bit_ex] at h1
    obtain ⟨_,_,_,k,hk,hb⟩:=h1
    have:k = 1:=by simpa [nx,s00] using hk
    subst this
    have h2:=(bit_eu.1 hb).2
    cases h2 with
    | base _ h1 _=>rw [show ((1:Int).toNat) = 1 from rfl,bit_and,hy1] at h1; cases h1
    | step _ _ h1 _ _ _=>rw [show ((1:Int).toNat) = 1 from rfl,hy1] at h1; cases h1
  have hn:∀ i,¬ bit y i = true:=bit2 hy0 (by rw [hy1]; decide) fun i hi=>by
    rw [bit_ge (by rw [hl]; exact hi)]
    decide
  exact absurd hi (hn i)
theorem atom_0:atomP ca0 s00 2 = [false,true]:=by
  have e0:isB ca0 ((0:Nat):Int) 2 = false:=by rw [isB,ca0_right,Bool.true_and]; decide
  have e1:isB ca0 ((1:Nat):Int) 2 = true:=by rw [isB,ca0_right,Bool.true_and]; decide
  show [true && isB ca0 ((0:Nat):Int) 2,true && isB ca0 ((1:Nat):Int) 2] = _
  rw [e0,e1]; rfl
abbrev foQ (l:Int):Fo:=.mk 3 ⟨#[]⟩ l []
abbrev foOne (k:Int) (f:Fo):Fo:=.mk k ⟨#[]⟩ 0 [f]
abbrev foTwo (k:Int) (f g:Fo):Fo:=.mk k ⟨#[]⟩ 0 [f,g]
theorem semC_0 (f:Fo):semC ca0 f = f.sem s00 [true,true] (atomP ca0 s00):=by
  rw [semC,s00_of]
  show f.sem s00 (egP s00 [true,true]) _ = _
  rw [eg_tt]
theorem sem_q:semC ca0 (foQ 2) = [false,true]:=by rw [semC_0,sem_atom,atom_0]
theorem sem_exq:semC ca0 (foOne 9 (foQ 2)) = [true,false]:=by
  rw [semC_0,sem_one (by decide),sem_atom,atom_0]
  show exP s00 (andP [false,true] [true,true]) = _
  decide
theorem sem_agaf:semC ca0 (foOne 14 (foOne 12 (foQ 2))) = [true,true]:=by
  rw [semC_0,sem_one (by decide),sem_one (by decide),sem_atom,atom_0]
  show notP s00 (untilP s00 [true,true] [true,true] (notP s00 (notP s00 (egP s00 (notP s00 [false,true]))))) = _
  rw [show notP s00 [false,true] = [true,false] from by decide,eg_tf,show notP s00 [false,false] = [true,true] from by decide,show notP s00 [true,true] = [false,false] from by decide,untilP]
  rw [show andP [false,false] [true,true] = [false,false] from by decide,eu_ff]
  decide
theorem told_0 {f:Fo} (h:f.mayB 60 = true) (hl:f.litsB ca0.gr = true):toldB ca0 f = (semC ca0 f,s00,0):=by
  have hm:mayC ca0 f = true:=by rw [mayC,ca0_right,h,hl]; rfl
  rw [toldB,if_neg (by rw [hm]; decide),if_pos (by rw [ca0_sp]),s00_of]
theorem may_q:(foQ 2).mayB 60 = true ∧ (foQ 2).litsB ca0.gr = true:=by decide
theorem may_exq:(foOne 9 (foQ 2)).mayB 60 = true ∧ (foOne 9 (foQ 2)).litsB ca0.gr = true:=by decide
theorem may_agaf:(foOne 14 (foOne 12 (foQ 2))).mayB 60 = true ∧ (foOne 14 (foOne 12 (foQ 2))).litsB ca0.gr = true:=by decide
theorem ver_agaf:verdictB ca0 (foOne 14 (foOne 12 (foQ 2))) = (⟨true,1,-1⟩,0):=by
  rw [verdictB,told_0 may_agaf.1 may_agaf.2,sem_agaf]; rfl
theorem ver_q:verdictB ca0 (foQ 2) = (⟨false,1,0⟩,0):=by
  rw [verdictB,told_0 may_q.1 may_q.2,sem_q]; rfl
theorem tru_exq:truthB ca0 (foOne 9 (foQ 2)) = ([true,false],0):=by
  rw [told_truth,told_0 may_exq.1 may_exq.2,sem_exq]
theorem tru_4:truthB ca0 (foQ 4) = ([],1):=by
  have hm:mayC ca0 (foQ 4) = false:=by
    rw [mayC,show (foQ 4).litsB ca0.gr = false from by decide,Bool.and_false,Bool.and_false]
  rw [truthB,if_pos hm]
theorem bslA42 {e:Nat} {z1 z2 z3 z4:AV} {r r2:List AV} {S:Store} {K:AV → Store → Prop} (hr:r.length = 4) (hr2:r2.length = 4) (k:K (.l [r,r2]) S):bslN e 4 2 [z1,z2,z3,z4] [(0,.a r),(1,.a r2)] S K:=by
  match r,hr,r2,hr2 with
  | [u,v,w,x],_,[u2,v2,w2,x2],_ =>
    refine ⟨[u,v,w,x,u2,v2,w2,x2],?_,.inr ?_⟩
    · simp [fillA,cellsOf,spl,List.range_succ]
    · simpa [chunks,List.range_succ] using k
theorem Fo.tr (f:Fo):Tree f.av:=Tree.a fun u hu=>Fo.tree f u hu
theorem ans33 (k:Int) (f:Fo):Ans Tryz.prog 33 [aI k,f.av] (foOne k f).av:=by
  intro S
  refine ACalls.tree (calls33 ?_)
  unfold m33
  refine boxA_of (Fo.row_len f) fun S1 k1 n1 o1=>?_
  refine boxA_of rfl fun S2 k2 n2 o2=>?_
  rw [ldN_p (n:=4) ((k2.2 _ (by omega)).trans o1) (Fo.row_len f)]
  refine bslA4 (Fo.row_len f) ?_
  rw [bld_of (cs:=(foOne k f).row) (by rw [Fo.row_mk]; rfl)]
  refine stA_of o2 (Fo.row_len _) rfl fun S3 n3 o3 f3=>?_
  rw [ldN_p (n:=4) o3 (Fo.row_len _)]
  exact ⟨_,rfl,(k1.trans k2).st (by omega) n3 f3,Fo.tr _ _ _⟩
theorem ans37 (k:Int) (f g:Fo):Ans Tryz.prog 37 [aI k,f.av,g.av] (foTwo k f g).av:=by
  intro S
  refine ACalls.tree (calls37 ?_)
  unfold m37
  refine boxA_of (Fo.row_len f) fun S1 k1 n1 o1=>?_
  refine boxA_of (Fo.row_len g) fun S2 k2 n2 o2=>?_
  refine boxA_of rfl fun S3 k3 n3 o3=>?_
  have kk:=(k1.trans k2).trans k3
  rw [ldN_p (n:=4) ((k3.2 _ (by omega)).trans ((k2.2 _ (by omega)).trans o1)) (Fo.row_len f),ldN_p (n:=4) ((k3.2 _ (by omega)).trans o2) (Fo.row_len g)]
  refine bslA42 (Fo.row_len f) (Fo.row_len g) ?_
  rw [bld_of (cs:=(foTwo k f g).row) (by rw [Fo.row_mk]; rfl)]
  refine stA_of o3 (Fo.row_len _) rfl fun S4 n4 o4 f4=>?_
  rw [ldN_p (n:=4) o4 (Fo.row_len _)]
  exact ⟨_,rfl,kk.st (by omega) n4 f4,Fo.tr _ _ _⟩
structure ResV (v:Int) (f:Fo):Prop where
  ok:f.ok
  may:f.mayB 7 = true
  lits:∀ g:Gr,(∀ l:Int,0 ≤ l → l < 2 * v → g.lit l = true) → f.litsB g = true
theorem res16 {l:List Int} (hl:∀ x ∈ l,0 ≤ x ∧ x < 256) {v:Int} (hv:1 ≤ v) (hv2:v ≤ 1000000) {S:Store}:ACalls Tryz.prog 16 [aL aU8 l,aI (2 * v)] S (fun e S'=>∃ tr,e = .ret tr ∧ S' = S ∧ ∃ f:Fo,tr = f.av ∧ ResV v f):=by
  refine ACalls.treeE (calls16 ?_)
  unfold m16
  refine boxA_of rfl fun S1 k1 n1 o1=>?_
  refine .inl ((made34 hl).mono ?_)
  rintro e S' ⟨tr,rfl,rfl,f,rfl,hf⟩
  show callF _ _ _ _ _ _
  refine callF_ans (ans42 (m:=2 * v) ⟨by omega,by omega⟩ f 6 hf) ?_
  refine stA_of o1 (Fo.row_len _) rfl fun S3 n3 o3 f3=>?_
  rw [ldN_p (n:=4) o3 (Fo.row_len _)]
  obtain ⟨h1,h2,h3⟩:=litsF_ok (m:=2 * v) (by omega) f 6 hf
  exact ⟨_,_,rfl,k1.st (Nat.le_refl _) n3 f3,Fo.tr _ _ _,_,rfl,h1,h2,fun g hg=>h3 g fun l h0 hlt=>hg l h0 (by omega)⟩
theorem made_lit {c:Ci} (h:MadeC c):1 ≤ c.gr.vars ∧ c.gr.vars ≤ 100 ∧ ∀ l:Int,0 ≤ l → l < 2 * c.gr.vars → c.gr.lit l = true:=by
  obtain ⟨g1,g2,g3⟩:=gr_inp h.right
  have h1:=h.inp
  have h2:=h.lats
  have h3:=h.ands
  have hv:c.gr.vars = c.inputs + c.latches.length + 1 + c.ands.length:=by
    unfold Gr.vars
    rw [g1]
    show _ + 1 + (c.ands.length:Int) = _
    rfl
  refine ⟨by omega,by omega,fun l h0 hl=>lit_iff.2 ⟨g2,by omega,h0,by omega⟩⟩
theorem ResV.litsC {c:Ci} {f:Fo} (h:ResV c.gr.vars f) (hc:MadeC c):f.litsB c.gr = true:=h.lits c.gr (made_lit hc).2.2
theorem of23 {l m:List Int} (hl:∀ x ∈ l,0 ≤ x ∧ x < 65536) (hm:∀ x ∈ m,0 ≤ x ∧ x < 256) {S:Store}:ACalls Tryz.prog 23 [aL aW16 l,aL aU8 m] S (fun e S'=>∃ tr,e = .ret tr ∧ S' = S ∧ ∃ (c:Ci) (f:Fo),tr = .t [c.av,f.av] ∧ MadeC c ∧ c.gr.vars = varsL l ∧ ResV c.gr.vars f):=by
  refine ACalls.treeE (calls23 ?_)
  unfold m23
  refine boxA_of rfl fun S1 k1 n1 o1=>?_
  refine boxA_of rfl fun S2 k2 n2 o2=>?_
  have p2:=(k2.2 _ (by omega)).trans o1
  refine .inl ((made248 hl).mono ?_)
  rintro e S' ⟨tr,rfl,rfl,c,rfl,hc,hcv⟩
  show boxN _ _ _ _ _
  refine boxA_of rfl fun S3 k3 n3 o3=>?_
  refine stA_of (cs':=c.cells) o3 rfl rfl fun S4 n4 o4 f4=>?_
  have k4:=k3.st (Nat.le_refl _) n4 f4
  obtain ⟨v1,v2,v3⟩:=made_lit hc
  obtain ⟨g1,g2,g3⟩:=gr_inp hc.right
  have hi:=hc.inp
  have hla:=hc.lats
  refine L_ldN (n:=8) o4 (by omega) rfl ?_
  refine L_ldN (n:=8) o4 (by omega) rfl ?_
  refine L_callA (ans41 c) ?_
  refine L_callA (ans40 hc.ok.gr (by omega) (by omega)) ?_
  refine ⟨aI (2 * c.gr.vars),fun T hT=>by rw [bin_mul (by omega) (by omega)]; exact ⟨rfl,rfl⟩,?_⟩
  refine .inl ((res16 hm (v:=c.gr.vars) v1 (by omega)).mono ?_)
  rintro e S' ⟨tr,rfl,rfl,f,rfl,hf⟩
  refine ⟨fun T hT=>by rw [ldN_p (n:=8) ((hT.2 _ (by omega)).trans o4) rfl]; exact ⟨rfl,rfl⟩,?_⟩
  refine stA_of ((k4.2 _ (by omega)).trans p2) rfl rfl fun S5 n5 o5 f5=>?_
  refine stA_of ((f5 _ (by omega)).trans ((k4.2 _ (by omega)).trans o2)) (Fo.row_len _) rfl fun S6 n6 o6 f6=>?_
  rw [ldN_p (n:=8) ((f6 _ (by omega)).trans o5) rfl,ldN_p (n:=4) o6 (Fo.row_len _)]
  refine ⟨_,.t [c.av,f.av],rfl,(((k1.trans k2).trans k4).st (id:=S.n) (by omega) n5 f5).st (id:=S1.n) (by omega) n6 f6,cv_t2 ?_ (Fo.tr _ _ _),c,f,rfl,hc,hcv,hf⟩
  exact Tree.a (fun u hu=>by
    simp only [Ci.cells,List.mem_cons,List.not_mem_nil,or_false] at hu
    rcases hu with rfl | rfl | rfl | rfl | rfl | rfl | rfl | rfl
    · exact Tree.v _
    · exact treeP _
    · exact treeP _
    · exact treeI _
    · exact treeI _
    · exact treeI _
    · exact treeI _
    · exact treeN _) _ _
end Go.Proofs.YtolgpokppnajdaaGreat.G

/- Truth -/
import Derived.Test.YtolgpokppnajdaaGreatProg
import Derived.KernelRfl
import Derived.Test.YtolgpokppnajdaaGreatTxT2
set_option linter.unusedVariables false
set_option linter.unusedSimpArgs false
namespace Go.Proofs.YtolgpokppnajdaaGreat.G
open Go Go.Ab
set_option maxRecDepth 100000
noncomputable def c13:Code:=(Tryz.f13.body).getD .skip
noncomputable def r13:List ResultVar:=Tryz.f13.results.toList
def env13_0 (y7 y8 y16 y17:AV):List AV:=[y7,y8,y16,y17]
def lv13_0:List Nat:=[7,8,16,17]
def ms13:List (List Nat):=[lv13_0,[]]
def m13 (x0 x1 x2:AV) (S:Store) (Q:PoT):Prop :=
  callF Tryz.prog 31 [] S Q fun v1 S=>un .not v1 S fun v2 S=>onB v2 fun b3=>gd b3 (Q (.ret (.v (.bool false))) S) (callF Tryz.prog 23 [x0,x1] S Q fun v4 S=>extr v4 0 S fun v5 S=>extr v4 1 S fun v6 S=>boxN 42 8 (.a [(.v (.int .i64 0)),.nl,.nl,.nl,.nl,.nl,.nl,.nl]) S fun v7 S=>boxN 24 4 (.a [(.v (.int .i64 0)),(.v (.string ByteArray.empty)),(.v (.int .i64 0)),.nl]) S fun v8 S=>stN 8 v7 v5 S fun v9 S=>stN 4 v8 v6 S fun v10 S=>callF Tryz.prog 23 [x0,x2] S Q fun v11 S=>extr v11 0 S fun v12 S=>extr v11 1 S fun v13 S=>boxN 42 8 (.a [(.v (.int .i64 0)),.nl,.nl,.nl,.nl,.nl,.nl,.nl]) S fun v14 S=>boxN 24 4 (.a [(.v (.int .i64 0)),(.v (.string ByteArray.empty)),(.v (.int .i64 0)),.nl]) S fun v15 S=>stN 8 v14 v12 S fun v16 S=>stN 4 v15 v13 S fun v17 S=>bld [(0,1),(1,1),(2,1),(3,1)] [(.v (.int .i64 0)),(.v (.string ByteArray.empty)),(.v (.int .i64 0)),.nl] [(0,(.v (.int .i64 2)))] S fun v18 S=>callF Tryz.prog 33 [(.v (.int .i64 13)),v18] S Q fun v19 S=>boxN 24 4 (.a [(.v (.int .i64 0)),(.v (.string ByteArray.empty)),(.v (.int .i64 0)),.nl]) S fun v20 S=>stN 4 v20 v19 S fun v21 S=>∃ q22:AV,(∀ T:Store,Keep S T → ldN 4 v8 T fun v23 S=>v23 = q22 ∧ S = T) ∧ ∃ q24:AV,(∀ T:Store,Keep S T → ldN 4 v15 T fun v25 S=>v25 = q24 ∧ S = T) ∧ ∃ q26:AV,(∀ T:Store,Keep S T → callF Tryz.prog 37 [(.v (.int .i64 15)),q22,q24] T (fun _ _=>False) fun v27 S=>v27 = q26 ∧ S = T) ∧ ∃ q28:AV,(∀ T:Store,Keep S T → ldN 4 v8 T fun v29 S=>v29 = q28 ∧ S = T) ∧ ∃ q30:AV,(∀ T:Store,Keep S T → callF Tryz.prog 33 [(.v (.int .i64 13)),q28] T (fun _ _=>False) fun v31 S=>v31 = q30 ∧ S = T) ∧ ∃ q32:AV,(∀ T:Store,Keep S T → ldN 4 v8 T fun v33 S=>v33 = q32 ∧ S = T) ∧ ∃ q34:AV,(∀ T:Store,Keep S T → ldN 4 v15 T fun v35 S=>v35 = q34 ∧ S = T) ∧ ∃ q36:AV,(∀ T:Store,Keep S T → callF Tryz.prog 37 [(.v (.int .i64 17)),q32,q34] T (fun _ _=>False) fun v37 S=>v37 = q36 ∧ S = T) ∧ newsV [(.cells 24 [[(.v (.int .i64 0)),(.v (.string ByteArray.empty)),(.v (.int .i64 0)),.nl]] true),(.cells 24 [[(.v (.int .i64 0)),(.v (.string ByteArray.empty)),(.v (.int .i64 0)),.nl]] true),(.cells 24 [[(.v (.int .i64 0)),(.v (.string ByteArray.empty)),(.v (.int .i64 0)),.nl]] true)] S fun ids38 S=>stN 4 (.p (ids38.headD 0) 0 0) q26 S fun v39 S=>stN 4 (.p (ids38.tail.headD 0) 0 0) q30 S fun v40 S=>stN 4 (.p (ids38.tail.tail.headD 0) 0 0) q36 S fun v41 S=>(fun S0:Store=>∃ q42:AV,(ldN 4 (.p (ids38.headD 0) 0 0) S fun v43 S=>v43 = q42 ∧ S = S0) ∧ ∃ q44:AV,(ldN 4 v15 S fun v45 S=>v45 = q44 ∧ S = S0) ∧ ∃ q46:AV,(ldN 4 v20 S fun v47 S=>v47 = q46 ∧ S = S0) ∧ ∃ q48:AV,(callF Tryz.prog 37 [(.v (.int .i64 5)),q44,q46] S (fun _ _=>False) fun v49 S=>v49 = q48 ∧ S = S0) ∧ ∃ q50:AV,(ldN 4 v8 S fun v51 S=>v51 = q50 ∧ S = S0) ∧ ∃ q52:AV,(ldN 4 (.p (ids38.headD 0) 0 0) S fun v53 S=>v53 = q52 ∧ S = S0) ∧ ∃ q54:AV,(callF Tryz.prog 33 [(.v (.int .i64 9)),q52] S (fun _ _=>False) fun v55 S=>v55 = q54 ∧ S = S0) ∧ ∃ q56:AV,(callF Tryz.prog 37 [(.v (.int .i64 5)),q50,q54] S (fun _ _=>False) fun v57 S=>v57 = q56 ∧ S = S0) ∧ ∃ q58:AV,(callF Tryz.prog 37 [(.v (.int .i64 6)),q48,q56] S (fun _ _=>False) fun v59 S=>v59 = q58 ∧ S = S0) ∧ ∃ q60:AV,(bld [(0,4),(4,4)] [(.v (.int .i64 0)),(.v (.string ByteArray.empty)),(.v (.int .i64 0)),.nl,(.v (.int .i64 0)),(.v (.string ByteArray.empty)),(.v (.int .i64 0)),.nl] [(0,q42),(1,q58)] S fun v61 S=>v61 = q60 ∧ S = S0) ∧ ∃ q62:AV,(ldN 4 (.p (ids38.tail.headD 0) 0 0) S fun v63 S=>v63 = q62 ∧ S = S0) ∧ ∃ q64:AV,(ldN 4 v8 S fun v65 S=>v65 = q64 ∧ S = S0) ∧ ∃ q66:AV,(ldN 4 (.p (ids38.tail.headD 0) 0 0) S fun v67 S=>v67 = q66 ∧ S = S0) ∧ ∃ q68:AV,(callF Tryz.prog 33 [(.v (.int .i64 9)),q66] S (fun _ _=>False) fun v69 S=>v69 = q68 ∧ S = S0) ∧ ∃ q70:AV,(callF Tryz.prog 37 [(.v (.int .i64 5)),q64,q68] S (fun _ _=>False) fun v71 S=>v71 = q70 ∧ S = S0) ∧ ∃ q72:AV,(bld [(0,4),(4,4)] [(.v (.int .i64 0)),(.v (.string ByteArray.empty)),(.v (.int .i64 0)),.nl,(.v (.int .i64 0)),(.v (.string ByteArray.empty)),(.v (.int .i64 0)),.nl] [(0,q62),(1,q70)] S fun v73 S=>v73 = q72 ∧ S = S0) ∧ ∃ q74:AV,(ldN 4 (.p (ids38.tail.tail.headD 0) 0 0) S fun v75 S=>v75 = q74 ∧ S = S0) ∧ ∃ q76:AV,(ldN 4 v15 S fun v77 S=>v77 = q76 ∧ S = S0) ∧ ∃ q78:AV,(ldN 4 v8 S fun v79 S=>v79 = q78 ∧ S = S0) ∧ ∃ q80:AV,(ldN 4 v20 S fun v81 S=>v81 = q80 ∧ S = S0) ∧ ∃ q82:AV,(callF Tryz.prog 37 [(.v (.int .i64 5)),q78,q80] S (fun _ _=>False) fun v83 S=>v83 = q82 ∧ S = S0) ∧ ∃ q84:AV,(ldN 4 (.p (ids38.tail.tail.headD 0) 0 0) S fun v85 S=>v85 = q84 ∧ S = S0) ∧ ∃ q86:AV,(callF Tryz.prog 33 [(.v (.int .i64 9)),q84] S (fun _ _=>False) fun v87 S=>v87 = q86 ∧ S = S0) ∧ ∃ q88:AV,(callF Tryz.prog 37 [(.v (.int .i64 6)),q82,q86] S (fun _ _=>False) fun v89 S=>v89 = q88 ∧ S = S0) ∧ ∃ q90:AV,(callF Tryz.prog 37 [(.v (.int .i64 5)),q76,q88] S (fun _ _=>False) fun v91 S=>v91 = q90 ∧ S = S0) ∧ ∃ q92:AV,(bld [(0,4),(4,4)] [(.v (.int .i64 0)),(.v (.string ByteArray.empty)),(.v (.int .i64 0)),.nl,(.v (.int .i64 0)),(.v (.string ByteArray.empty)),(.v (.int .i64 0)),.nl] [(0,q74),(1,q90)] S fun v93 S=>v93 = q92 ∧ S = S0) ∧ ∃ q94:AV,(ldN 4 v8 S fun v95 S=>v95 = q94 ∧ S = S0) ∧ ∃ q96:AV,(callF Tryz.prog 33 [(.v (.int .i64 11)),q94] S (fun _ _=>False) fun v97 S=>v97 = q96 ∧ S = S0) ∧ ∃ q98:AV,(ldN 4 v8 S fun v99 S=>v99 = q98 ∧ S = S0) ∧ ∃ q100:AV,(ldN 4 v20 S fun v101 S=>v101 = q100 ∧ S = S0) ∧ ∃ q102:AV,(callF Tryz.prog 37 [(.v (.int .i64 5)),q98,q100] S (fun _ _=>False) fun v103 S=>v103 = q102 ∧ S = S0) ∧ ∃ q104:AV,(ldN 4 v8 S fun v105 S=>v105 = q104 ∧ S = S0) ∧ ∃ q106:AV,(callF Tryz.prog 33 [(.v (.int .i64 11)),q104] S (fun _ _=>False) fun v107 S=>v107 = q106 ∧ S = S0) ∧ ∃ q108:AV,(callF Tryz.prog 33 [(.v (.int .i64 9)),q106] S (fun _ _=>False) fun v109 S=>v109 = q108 ∧ S = S0) ∧ ∃ q110:AV,(callF Tryz.prog 37 [(.v (.int .i64 6)),q102,q108] S (fun _ _=>False) fun v111 S=>v111 = q110 ∧ S = S0) ∧ ∃ q112:AV,(bld [(0,4),(4,4)] [(.v (.int .i64 0)),(.v (.string ByteArray.empty)),(.v (.int .i64 0)),.nl,(.v (.int .i64 0)),(.v (.string ByteArray.empty)),(.v (.int .i64 0)),.nl] [(0,q96),(1,q110)] S fun v113 S=>v113 = q112 ∧ S = S0) ∧ ∃ q114:AV,(bslN 78 8 4 [(.v (.int .i64 0)),(.v (.string ByteArray.empty)),(.v (.int .i64 0)),.nl,(.v (.int .i64 0)),(.v (.string ByteArray.empty)),(.v (.int .i64 0)),.nl] [(0,q60),(1,q72),(2,q92),(3,q112)] S fun v115 S=>v115 = q114 ∧ S = S0) ∧ loopV lv13_0 (vc Tryz.prog (c13.at_ [1,1,1,1,1,1,1,1,0,1,0,0]) (ms13.drop 1)) 120 (env13_0 v1 v7 q114 (.v (.int .i64 0))) S (blockK 0 (seqK (vc Tryz.prog (c13.at_ [1,1,1,1,1,1,1,1,1]) (ms13.drop 1)) (bodyK Tryz.prog r13 Q)))) S)
theorem calls13 {x0 x1 x2:AV} {S:Store} {Q:PoT} (h:m13 x0 x1 x2 S Q):ACalls Tryz.prog 13 [x0,x1,x2] S Q :=
  calls_of_vc (fn:=Tryz.f13) (c:=c13) (n:=120) Tryz.func13 (by kernel_rfl) (by kernel_rfl) (by kernel_rfl) ms13 (Eq.mpr (by kernel_rfl) h)
def b13_0 (y7 y8 y16 y17:AV) (S:Store) (KE0:KeT) (Q:PoT):Prop :=
  lenS y16 S fun v116 S=>bin .lss 0 y17 v116 S fun v117 S=>onB v117 fun b118=>gd b118 ((fun S0:Store=>∃ q119:AV,(ldN 8 y8 S fun v120 S=>v120 = q119 ∧ S = S0) ∧ ∃ q121:AV,(ixS 78 8 y16 y17 S fun v122 S=>v122 = q121 ∧ S = S0) ∧ ∃ q123:AV,(ixA 2 4 q121 (.v (.int .i64 0)) S fun v124 S=>v124 = q123 ∧ S = S0) ∧ ∃ q125:AV,(ldN 4 q123 S fun v126 S=>v126 = q125 ∧ S = S0) ∧ ∃ q127:AV,(callF Tryz.prog 36 [q119,q125] S (fun _ _=>False) fun v128 S=>v128 = q127 ∧ S = S0) ∧ ∃ q129:AV,(extr q127 0 S fun v130 S=>v130 = q129 ∧ S = S0) ∧ ∃ q131:AV,(extr q127 1 S fun v132 S=>v132 = q131 ∧ S = S0) ∧ (fun S0:Store=>∃ q133:AV,(ldN 8 y8 S fun v134 S=>v134 = q133 ∧ S = S0) ∧ ∃ q135:AV,(ixS 78 8 y16 y17 S fun v136 S=>v136 = q135 ∧ S = S0) ∧ ∃ q137:AV,(ixA 2 4 q135 (.v (.int .i64 1)) S fun v138 S=>v138 = q137 ∧ S = S0) ∧ ∃ q139:AV,(ldN 4 q137 S fun v140 S=>v140 = q139 ∧ S = S0) ∧ ∃ q141:AV,(callF Tryz.prog 36 [q133,q139] S (fun _ _=>False) fun v142 S=>v142 = q141 ∧ S = S0) ∧ ∃ q143:AV,(extr q141 0 S fun v144 S=>v144 = q143 ∧ S = S0) ∧ ∃ q145:AV,(extr q141 1 S fun v146 S=>v146 = q145 ∧ S = S0) ∧ bin .neq 0 q131 q145 S fun v147 S=>onB v147 fun b148=>gd b148 (Q (.ret (.v (.bool false))) S) (callF Tryz.prog 29 [q129,q143] S Q fun v149 S=>un .not v149 S fun v150 S=>onB v150 fun b151=>gd b151 (Q (.ret (.v (.bool false))) S) (bin .add 0 y17 (.v (.int .i64 1)) S fun v152 S=>KE0 120 (env13_0 y7 y8 y16 v152) S))) S) S) (Q (.ret y7) S)
theorem b13_0_eq (y7 y8 y16 y17:AV) (S:Store) (KE0:KeT) (Q:PoT):vc Tryz.prog (c13.at_ [1,1,1,1,1,1,1,1,0,1,0,0]) (ms13.drop 1) (mkE 120 lv13_0 (env13_0 y7 y8 y16 y17)) S (thenK (fgK lv13_0 KE0) (blockK 0 (seqK (vc Tryz.prog (c13.at_ [1,1,1,1,1,1,1,1,1]) (ms13.drop 1)) (bodyK Tryz.prog r13 Q)))) = b13_0 y7 y8 y16 y17 S KE0 Q:=by kernel_rfl
theorem loop13_0 {y7 y8 y16:AV} {y170:AV} {S:Store} {Q:PoT} (I:AV → Store → Prop) (μ:AV → Store → Nat) (h0:I y170 S)
    (hr:∀ (y17:AV) (S:Store),I y17 S → ∀ KE0:KeT,(∀ (y17':AV) (S':Store),I y17' S' → μ y17' S' < μ y17 S → KE0 120 (env13_0 y7 y8 y16 y17') S') → b13_0 y7 y8 y16 y17 S KE0 Q) :
    loopV lv13_0 (vc Tryz.prog (c13.at_ [1,1,1,1,1,1,1,1,0,1,0,0]) (ms13.drop 1)) 120 (env13_0 y7 y8 y16 y170) S (blockK 0 (seqK (vc Tryz.prog (c13.at_ [1,1,1,1,1,1,1,1,1]) (ms13.drop 1)) (bodyK Tryz.prog r13 Q))):=by
  refine ⟨fun n e S=>n = 120 ∧ ∃ y17:AV,e = (env13_0 y7 y8 y16 y17) ∧ I y17 S,fun _ e S=>μ (e.getD 3 .j) S,?_,?_⟩
  · exact ⟨_,_,Wk.refl _ _,rfl,_,rfl,h0⟩
  · rintro _ e S ⟨rfl,y17,rfl,hI⟩
    exact (b13_0_eq _ _ _ _ _ _ _).mpr (hr y17 S hI _ (fun y17' S' hI' hm=>⟨_,_,Wk.refl _ _,⟨rfl,_,rfl,hI'⟩,hm⟩))
noncomputable def c12:Code:=(Tryz.f12.body).getD .skip
noncomputable def r12:List ResultVar:=Tryz.f12.results.toList
def env12_0 (y7 y8 y12 y16 y17:AV):List AV:=[y7,y8,y12,y16,y17]
def lv12_0:List Nat:=[7,8,12,16,17]
def lv12_1:List Nat:=[7,8,12,16,17,18,20,22]
def ms12:List (List Nat):=[lv12_0,lv12_1,[]]
def m12 (x0 x1 x2:AV) (S:Store) (Q:PoT):Prop :=
  callF Tryz.prog 31 [] S Q fun v1 S=>un .not v1 S fun v2 S=>onB v2 fun b3=>gd b3 (Q (.ret (.v (.bool false))) S) (callF Tryz.prog 23 [x0,x1] S Q fun v4 S=>extr v4 0 S fun v5 S=>extr v4 1 S fun v6 S=>boxN 42 8 (.a [(.v (.int .i64 0)),.nl,.nl,.nl,.nl,.nl,.nl,.nl]) S fun v7 S=>boxN 24 4 (.a [(.v (.int .i64 0)),(.v (.string ByteArray.empty)),(.v (.int .i64 0)),.nl]) S fun v8 S=>stN 8 v7 v5 S fun v9 S=>stN 4 v8 v6 S fun v10 S=>callF Tryz.prog 23 [x0,x2] S Q fun v11 S=>extr v11 0 S fun v12 S=>extr v11 1 S fun v13 S=>boxN 42 8 (.a [(.v (.int .i64 0)),.nl,.nl,.nl,.nl,.nl,.nl,.nl]) S fun v14 S=>boxN 24 4 (.a [(.v (.int .i64 0)),(.v (.string ByteArray.empty)),(.v (.int .i64 0)),.nl]) S fun v15 S=>stN 8 v14 v12 S fun v16 S=>stN 4 v15 v13 S fun v17 S=>ldN 8 v7 S fun v18 S=>callF Tryz.prog 35 [v18] S Q fun v19 S=>extr v19 0 S fun v20 S=>extr v19 1 S fun v21 S=>boxN 71 5 (.a [(.v (.int .i64 0)),.nl,.nl,.nl,.nl]) S fun v22 S=>stN 5 v22 v20 S fun v23 S=>∃ q24:AV,(∀ T:Store,Keep S T → ldN 4 v8 T fun v25 S=>v25 = q24 ∧ S = T) ∧ ∃ q26:AV,(∀ T:Store,Keep S T → callF Tryz.prog 33 [(.v (.int .i64 4)),q24] T (fun _ _=>False) fun v27 S=>v27 = q26 ∧ S = T) ∧ ∃ q28:AV,(∀ T:Store,Keep S T → ldN 4 v15 T fun v29 S=>v29 = q28 ∧ S = T) ∧ ∃ q30:AV,(∀ T:Store,Keep S T → callF Tryz.prog 33 [(.v (.int .i64 4)),q28] T (fun _ _=>False) fun v31 S=>v31 = q30 ∧ S = T) ∧ newsV [(.cells 24 [[(.v (.int .i64 0)),(.v (.string ByteArray.empty)),(.v (.int .i64 0)),.nl]] true),(.cells 24 [[(.v (.int .i64 0)),(.v (.string ByteArray.empty)),(.v (.int .i64 0)),.nl]] true)] S fun ids32 S=>stN 4 (.p (ids32.headD 0) 0 0) q26 S fun v33 S=>stN 4 (.p (ids32.tail.headD 0) 0 0) q30 S fun v34 S=>(fun S0:Store=>∃ q35:AV,(ldN 4 v8 S fun v36 S=>v36 = q35 ∧ S = S0) ∧ ∃ q37:AV,(callF Tryz.prog 33 [(.v (.int .i64 10)),q35] S (fun _ _=>False) fun v38 S=>v38 = q37 ∧ S = S0) ∧ ∃ q39:AV,(ldN 4 (.p (ids32.headD 0) 0 0) S fun v40 S=>v40 = q39 ∧ S = S0) ∧ ∃ q41:AV,(callF Tryz.prog 33 [(.v (.int .i64 9)),q39] S (fun _ _=>False) fun v42 S=>v42 = q41 ∧ S = S0) ∧ ∃ q43:AV,(bld [(0,4),(4,4)] [(.v (.int .i64 0)),(.v (.string ByteArray.empty)),(.v (.int .i64 0)),.nl,(.v (.int .i64 0)),(.v (.string ByteArray.empty)),(.v (.int .i64 0)),.nl] [(0,q37),(1,q41)] S fun v44 S=>v44 = q43 ∧ S = S0) ∧ ∃ q45:AV,(ldN 4 v8 S fun v46 S=>v46 = q45 ∧ S = S0) ∧ ∃ q47:AV,(callF Tryz.prog 33 [(.v (.int .i64 12)),q45] S (fun _ _=>False) fun v48 S=>v48 = q47 ∧ S = S0) ∧ ∃ q49:AV,(ldN 4 (.p (ids32.headD 0) 0 0) S fun v50 S=>v50 = q49 ∧ S = S0) ∧ ∃ q51:AV,(callF Tryz.prog 33 [(.v (.int .i64 13)),q49] S (fun _ _=>False) fun v52 S=>v52 = q51 ∧ S = S0) ∧ ∃ q53:AV,(bld [(0,4),(4,4)] [(.v (.int .i64 0)),(.v (.string ByteArray.empty)),(.v (.int .i64 0)),.nl,(.v (.int .i64 0)),(.v (.string ByteArray.empty)),(.v (.int .i64 0)),.nl] [(0,q47),(1,q51)] S fun v54 S=>v54 = q53 ∧ S = S0) ∧ ∃ q55:AV,(ldN 4 v8 S fun v56 S=>v56 = q55 ∧ S = S0) ∧ ∃ q57:AV,(callF Tryz.prog 33 [(.v (.int .i64 14)),q55] S (fun _ _=>False) fun v58 S=>v58 = q57 ∧ S = S0) ∧ ∃ q59:AV,(ldN 4 (.p (ids32.headD 0) 0 0) S fun v60 S=>v60 = q59 ∧ S = S0) ∧ ∃ q61:AV,(callF Tryz.prog 33 [(.v (.int .i64 11)),q59] S (fun _ _=>False) fun v62 S=>v62 = q61 ∧ S = S0) ∧ ∃ q63:AV,(bld [(0,4),(4,4)] [(.v (.int .i64 0)),(.v (.string ByteArray.empty)),(.v (.int .i64 0)),.nl,(.v (.int .i64 0)),(.v (.string ByteArray.empty)),(.v (.int .i64 0)),.nl] [(0,q57),(1,q61)] S fun v64 S=>v64 = q63 ∧ S = S0) ∧ ∃ q65:AV,(ldN 4 v8 S fun v66 S=>v66 = q65 ∧ S = S0) ∧ ∃ q67:AV,(ldN 4 v15 S fun v68 S=>v68 = q67 ∧ S = S0) ∧ ∃ q69:AV,(callF Tryz.prog 37 [(.v (.int .i64 16)),q65,q67] S (fun _ _=>False) fun v70 S=>v70 = q69 ∧ S = S0) ∧ ∃ q71:AV,(ldN 4 (.p (ids32.headD 0) 0 0) S fun v72 S=>v72 = q71 ∧ S = S0) ∧ ∃ q73:AV,(ldN 4 (.p (ids32.tail.headD 0) 0 0) S fun v74 S=>v74 = q73 ∧ S = S0) ∧ ∃ q75:AV,(callF Tryz.prog 37 [(.v (.int .i64 17)),q71,q73] S (fun _ _=>False) fun v76 S=>v76 = q75 ∧ S = S0) ∧ ∃ q77:AV,(bld [(0,4),(4,4)] [(.v (.int .i64 0)),(.v (.string ByteArray.empty)),(.v (.int .i64 0)),.nl,(.v (.int .i64 0)),(.v (.string ByteArray.empty)),(.v (.int .i64 0)),.nl] [(0,q69),(1,q75)] S fun v78 S=>v78 = q77 ∧ S = S0) ∧ ∃ q79:AV,(ldN 4 v8 S fun v80 S=>v80 = q79 ∧ S = S0) ∧ ∃ q81:AV,(ldN 4 v15 S fun v82 S=>v82 = q81 ∧ S = S0) ∧ ∃ q83:AV,(callF Tryz.prog 37 [(.v (.int .i64 18)),q79,q81] S (fun _ _=>False) fun v84 S=>v84 = q83 ∧ S = S0) ∧ ∃ q85:AV,(ldN 4 (.p (ids32.headD 0) 0 0) S fun v86 S=>v86 = q85 ∧ S = S0) ∧ ∃ q87:AV,(ldN 4 (.p (ids32.tail.headD 0) 0 0) S fun v88 S=>v88 = q87 ∧ S = S0) ∧ ∃ q89:AV,(callF Tryz.prog 37 [(.v (.int .i64 15)),q85,q87] S (fun _ _=>False) fun v90 S=>v90 = q89 ∧ S = S0) ∧ ∃ q91:AV,(bld [(0,4),(4,4)] [(.v (.int .i64 0)),(.v (.string ByteArray.empty)),(.v (.int .i64 0)),.nl,(.v (.int .i64 0)),(.v (.string ByteArray.empty)),(.v (.int .i64 0)),.nl] [(0,q83),(1,q89)] S fun v92 S=>v92 = q91 ∧ S = S0) ∧ ∃ q93:AV,(bslN 78 8 5 [(.v (.int .i64 0)),(.v (.string ByteArray.empty)),(.v (.int .i64 0)),.nl,(.v (.int .i64 0)),(.v (.string ByteArray.empty)),(.v (.int .i64 0)),.nl] [(0,q43),(1,q53),(2,q63),(3,q77),(4,q91)] S fun v94 S=>v94 = q93 ∧ S = S0) ∧ loopV lv12_0 (vc Tryz.prog (c12.at_ [1,1,1,1,1,1,1,1,0,1,0,0]) (ms12.drop 1)) 149 (env12_0 v1 v7 v22 q93 (.v (.int .i64 0))) S (blockK 0 (seqK (vc Tryz.prog (c12.at_ [1,1,1,1,1,1,1,1,1]) (ms12.drop 2)) (bodyK Tryz.prog r12 Q)))) S)
noncomputable def c31:Code:=(Tryz.f31.body).getD .skip
def ms31:List (List Nat):=[[]]
def m31 (S:Store) (Q:PoT):Prop :=
  bld [(0,1),(1,1)] [(.v (.int .i64 0)),(.v (.int .i64 0))] [(0,(.v (.int .i64 3)))] S fun v1 S=>bslN 66 2 1 [(.v (.int .i64 0)),(.v (.int .i64 0))] [(0,v1)] S fun v2 S=>bld [(0,1),(1,1),(2,1),(3,1),(4,1),(5,1),(6,1),(7,1)] [(.v (.int .i64 0)),.nl,.nl,.nl,.nl,.nl,.nl,.nl] [(1,v2)] S fun v3 S=>boxN 42 8 (.a [(.v (.int .i64 0)),.nl,.nl,.nl,.nl,.nl,.nl,.nl]) S fun v4 S=>stN 8 v4 v3 S fun v5 S=>bld [(0,1),(1,1),(2,1),(3,1)] [(.v (.int .i64 0)),(.v (.string ByteArray.empty)),(.v (.int .i64 0)),.nl] [(0,(.v (.int .i64 3))),(2,(.v (.int .i64 2)))] S fun v6 S=>boxN 24 4 (.a [(.v (.int .i64 0)),(.v (.string ByteArray.empty)),(.v (.int .i64 0)),.nl]) S fun v7 S=>stN 4 v7 v6 S fun v8 S=>∃ q9:AV,(∀ T:Store,Keep S T → ldN 8 v4 T fun v10 S=>v10 = q9 ∧ S = T) ∧ ∃ q11:AV,(∀ T:Store,Keep S T → ldN 4 v7 T fun v12 S=>v12 = q11 ∧ S = T) ∧ ∃ q13:AV,(∀ T:Store,Keep S T → callF Tryz.prog 33 [(.v (.int .i64 12)),q11] T (fun _ _=>False) fun v14 S=>v14 = q13 ∧ S = T) ∧ ∃ q15:AV,(∀ T:Store,Keep S T → callF Tryz.prog 33 [(.v (.int .i64 14)),q13] T (fun _ _=>False) fun v16 S=>v16 = q15 ∧ S = T) ∧ ∃ q17:AV,(∀ T:Store,Keep S T → callF Tryz.prog 60 [q9,q15] T (fun _ _=>False) fun v18 S=>v18 = q17 ∧ S = T) ∧ ∃ q19:AV,(∀ T:Store,Keep S T → extr q17 0 T fun v20 S=>v20 = q19 ∧ S = T) ∧ ∃ q21:AV,(∀ T:Store,Keep S T → extr q17 1 T fun v22 S=>v22 = q21 ∧ S = T) ∧ boxN 110 3 (.a [(.v (.bool false)),(.v (.int .i64 0)),(.v (.int .i64 0))]) S fun v23 S=>(∀ T:Store,Keep S T → extr q17 1 T fun v24 S=>v24 = q21 ∧ S = T) ∧ stN 3 v23 q19 S fun v25 S=>(∀ T:Store,Keep S T → extr q17 1 T fun v26 S=>v26 = q21 ∧ S = T) ∧ ldN 8 v4 S fun v27 S=>ldN 4 v7 S fun v28 S=>callF Tryz.prog 60 [v27,v28] S Q fun v29 S=>extr v29 0 S fun v30 S=>extr v29 1 S fun v31 S=>boxN 110 3 (.a [(.v (.bool false)),(.v (.int .i64 0)),(.v (.int .i64 0))]) S fun v32 S=>stN 3 v32 v30 S fun v33 S=>(fun S0:Store=>∃ q34:AV,(ldN 8 v4 S fun v35 S=>v35 = q34 ∧ S = S0) ∧ ∃ q36:AV,(ldN 4 v7 S fun v37 S=>v37 = q36 ∧ S = S0) ∧ ∃ q38:AV,(callF Tryz.prog 33 [(.v (.int .i64 9)),q36] S (fun _ _=>False) fun v39 S=>v39 = q38 ∧ S = S0) ∧ ∃ q40:AV,(callF Tryz.prog 36 [q34,q38] S (fun _ _=>False) fun v41 S=>v41 = q40 ∧ S = S0) ∧ ∃ q42:AV,(extr q40 0 S fun v43 S=>v43 = q42 ∧ S = S0) ∧ ∃ q44:AV,(extr q40 1 S fun v45 S=>v45 = q44 ∧ S = S0) ∧ ldN 8 v4 S fun v46 S=>bld [(0,1),(1,1),(2,1),(3,1)] [(.v (.int .i64 0)),(.v (.string ByteArray.empty)),(.v (.int .i64 0)),.nl] [(0,(.v (.int .i64 3))),(2,(.v (.int .i64 4)))] S fun v47 S=>callF Tryz.prog 36 [v46,v47] S Q fun v48 S=>extr v48 0 S fun v49 S=>extr v48 1 S fun v50 S=>bin .eql 0 q21 (.v (.int .i64 0)) S fun v51 S=>onB v51 fun b52=>gd b52 (ldN 3 v23 S fun v53 S=>bld [(0,1),(1,1),(2,1)] [(.v (.bool false)),(.v (.int .i64 0)),(.v (.int .i64 0))] [(0,(.v (.bool true))),(1,(.v (.int .i64 1))),(2,(.v (.int .i64 (-1))))] S fun v54 S=>eqS [2,1,1] .eql v53 v54 S fun v55 S=>onB v55 fun b56=>gd b56 (bin .eql 0 v31 (.v (.int .i64 0)) S fun v57 S=>onB v57 fun b58=>gd b58 (ldN 3 v32 S fun v59 S=>bld [(0,1),(1,1),(2,1)] [(.v (.bool false)),(.v (.int .i64 0)),(.v (.int .i64 0))] [(1,(.v (.int .i64 1)))] S fun v60 S=>eqS [2,1,1] .eql v59 v60 S fun v61 S=>onB v61 fun b62=>gd b62 (bin .eql 0 q44 (.v (.int .i64 0)) S fun v63 S=>onB v63 fun b64=>gd b64 (bslN 4 1 2 [(.v (.bool false))] [(0,(.v (.bool true))),(1,(.v (.bool false)))] S fun v65 S=>callF Tryz.prog 29 [q42,v65] S Q fun v66 S=>onB v66 fun b67=>gd b67 (bin .eql 0 v50 (.v (.int .i64 1)) S fun v68 S=>Q (.ret v68) S) (Q (.ret (.v (.bool false))) S)) (Q (.ret (.v (.bool false))) S)) (Q (.ret (.v (.bool false))) S)) (Q (.ret (.v (.bool false))) S)) (Q (.ret (.v (.bool false))) S)) (Q (.ret (.v (.bool false))) S)) S
theorem calls31 {S:Store} {Q:PoT} (h:m31  S Q):ACalls Tryz.prog 31 [] S Q :=
  calls_of_vc (fn:=Tryz.f31) (c:=c31) (n:=71) Tryz.func31 (by kernel_rfl) (by kernel_rfl) (by kernel_rfl) ms31 (Eq.mpr (by kernel_rfl) h)
noncomputable def c9:Code:=(Tryz.f9.body).getD .skip
noncomputable def r9:List ResultVar:=Tryz.f9.results.toList
def m9 (x0 x1:AV) (S:Store) (Q:PoT):Prop :=
  callF Tryz.prog 23 [x0,x1] S Q fun v1 S=>extr v1 0 S fun v2 S=>extr v1 1 S fun v3 S=>boxN 42 8 (.a [(.v (.int .i64 0)),.nl,.nl,.nl,.nl,.nl,.nl,.nl]) S fun v4 S=>boxN 24 4 (.a [(.v (.int .i64 0)),(.v (.string ByteArray.empty)),(.v (.int .i64 0)),.nl]) S fun v5 S=>stN 8 v4 v2 S fun v6 S=>stN 4 v5 v3 S fun v7 S=>callF Tryz.prog 31 [] S Q fun v8 S=>onB v8 fun b9=>gd b9 (ldN 8 v4 S fun v10 S=>ldN 4 v5 S fun v11 S=>callF Tryz.prog 32 [v10,v11] S Q fun v12 S=>Q (.ret v12) S) (Q (.ret (.v (.bool false))) S)
noncomputable def c33:Code:=(Tryz.f33.body).getD .skip
def ms33:List (List Nat):=[[]]
def m33 (x0 x1:AV) (S:Store) (Q:PoT):Prop :=
  boxN 24 4 x1 S fun v1 S=>boxN 24 4 (.a [(.v (.int .i64 0)),(.v (.string ByteArray.empty)),(.v (.int .i64 0)),.nl]) S fun v2 S=>ldN 4 v1 S fun v3 S=>bslN 24 4 1 [(.v (.int .i64 0)),(.v (.string ByteArray.empty)),(.v (.int .i64 0)),.nl] [(0,v3)] S fun v4 S=>bld [(0,1),(1,1),(2,1),(3,1)] [(.v (.int .i64 0)),(.v (.string ByteArray.empty)),(.v (.int .i64 0)),.nl] [(0,x0),(3,v4)] S fun v5 S=>stN 4 v2 v5 S fun v6 S=>ldN 4 v2 S fun v7 _=>Q (.ret v7) S
theorem calls33 {x0 x1:AV} {S:Store} {Q:PoT} (h:m33 x0 x1 S Q):ACalls Tryz.prog 33 [x0,x1] S Q :=
  calls_of_vc (fn:=Tryz.f33) (c:=c33) (n:=9) Tryz.func33 (by kernel_rfl) (by kernel_rfl) (by kernel_rfl) ms33 (Eq.mpr (by kernel_rfl) h)
noncomputable def c37:Code:=(Tryz.f37.body).getD .skip
def ms37:List (List Nat):=[[]]
def m37 (x0 x1 x2:AV) (S:Store) (Q:PoT):Prop :=
  boxN 24 4 x1 S fun v1 S=>boxN 24 4 x2 S fun v2 S=>boxN 24 4 (.a [(.v (.int .i64 0)),(.v (.string ByteArray.empty)),(.v (.int .i64 0)),.nl]) S fun v3 S=>ldN 4 v1 S fun v4 S=>ldN 4 v2 S fun v5 S=>bslN 24 4 2 [(.v (.int .i64 0)),(.v (.string ByteArray.empty)),(.v (.int .i64 0)),.nl] [(0,v4),(1,v5)] S fun v6 S=>bld [(0,1),(1,1),(2,1),(3,1)] [(.v (.int .i64 0)),(.v (.string ByteArray.empty)),(.v (.int .i64 0)),.nl] [(0,x0),(3,v6)] S fun v7 S=>stN 4 v3 v7 S fun v8 S=>ldN 4 v3 S fun v9 _=>Q (.ret v9) S
theorem calls37 {x0 x1 x2:AV} {S:Store} {Q:PoT} (h:m37 x0 x1 x2 S Q):ACalls Tryz.prog 37 [x0,x1,x2] S Q :=
  calls_of_vc (fn:=Tryz.f37) (c:=c37) (n:=12) Tryz.func37 (by kernel_rfl) (by kernel_rfl) (by kernel_rfl) ms37 (Eq.mpr (by kernel_rfl) h)
noncomputable def c16:Code:=(Tryz.f16.body).getD .skip
def ms16:List (List Nat):=[[]]
def m16 (x0 x1:AV) (S:Store) (Q:PoT):Prop :=
  boxN 24 4 (.a [(.v (.int .i64 0)),(.v (.string ByteArray.empty)),(.v (.int .i64 0)),.nl]) S fun v1 S=>callF Tryz.prog 34 [x0] S Q fun v2 S=>callF Tryz.prog 42 [v2,x1] S Q fun v3 S=>stN 4 v1 v3 S fun v4 S=>ldN 4 v1 S fun v5 _=>Q (.ret v5) S
theorem calls16 {x0 x1:AV} {S:Store} {Q:PoT} (h:m16 x0 x1 S Q):ACalls Tryz.prog 16 [x0,x1] S Q :=
  calls_of_vc (fn:=Tryz.f16) (c:=c16) (n:=9) Tryz.func16 (by kernel_rfl) (by kernel_rfl) (by kernel_rfl) ms16 (Eq.mpr (by kernel_rfl) h)
noncomputable def c23:Code:=(Tryz.f23.body).getD .skip
def ms23:List (List Nat):=[[16]]
def m23 (x0 x1:AV) (S:Store) (Q:PoT):Prop :=
  boxN 42 8 (.a [(.v (.int .i64 0)),.nl,.nl,.nl,.nl,.nl,.nl,.nl]) S fun v1 S=>boxN 24 4 (.a [(.v (.int .i64 0)),(.v (.string ByteArray.empty)),(.v (.int .i64 0)),.nl]) S fun v2 S=>callF Tryz.prog 48 [x0] S Q fun v3 S=>boxN 42 8 (.a [(.v (.int .i64 0)),.nl,.nl,.nl,.nl,.nl,.nl,.nl]) S fun v4 S=>stN 8 v4 v3 S fun v5 S=>∃ q6:AV,(∀ T:Store,Keep S T → ldN 8 v4 T fun v7 S=>v7 = q6 ∧ S = T) ∧ ∃ q8:AV,(∀ T:Store,Keep S T → ldN 8 v4 T fun v9 S=>v9 = q8 ∧ S = T) ∧ ∃ q10:AV,(∀ T:Store,Keep S T → callF Tryz.prog 41 [q8] T (fun _ _=>False) fun v11 S=>v11 = q10 ∧ S = T) ∧ ∃ q12:AV,(∀ T:Store,Keep S T → callF Tryz.prog 40 [q10] T (fun _ _=>False) fun v13 S=>v13 = q12 ∧ S = T) ∧ ∃ q14:AV,(∀ T:Store,Keep S T → bin .mul 0 (.v (.int .i64 2)) q12 T fun v15 S=>v15 = q14 ∧ S = T) ∧ callF Tryz.prog 16 [x1,q14] S (fun _ _=>False) fun v16 S=>(∀ T:Store,Keep S T → ldN 8 v4 T fun v17 S=>v17 = q6 ∧ S = T) ∧ stN 8 v1 q6 S fun v18 S=>stN 4 v2 v16 S fun v19 S=>ldN 8 v1 S fun v20 _=>ldN 4 v2 S fun v21 _=>Q (.ret (.t [v20,v21])) S
theorem calls23 {x0 x1:AV} {S:Store} {Q:PoT} (h:m23 x0 x1 S Q):ACalls Tryz.prog 23 [x0,x1] S Q :=
  calls_of_vc (fn:=Tryz.f23) (c:=c23) (n:=16) Tryz.func23 (by kernel_rfl) (by kernel_rfl) (by kernel_rfl) ms23 (Eq.mpr (by kernel_rfl) h)
noncomputable def c42:Code:=(Tryz.f42.body).getD .skip
noncomputable def r42:List ResultVar:=Tryz.f42.results.toList
def env42_0 (y1 y2 y4 y5 y6:AV):List AV:=[y1,y2,y4,y5,y6]
def lv42_0:List Nat:=[1,2,4,5,6]
def ms42:List (List Nat):=[lv42_0,[]]
def m42 (x0 x1:AV) (S:Store) (Q:PoT):Prop :=
  boxN 24 4 x0 S fun v1 S=>boxN 24 4 (.a [(.v (.int .i64 0)),(.v (.string ByteArray.empty)),(.v (.int .i64 0)),.nl]) S fun v2 S=>shift v1 0 S fun v3 S=>ld1 v3 S fun v4 S=>bld [(0,1),(1,1),(2,1),(3,1)] [(.v (.int .i64 0)),(.v (.string ByteArray.empty)),(.v (.int .i64 0)),.nl] [(0,v4)] S fun v5 S=>boxN 24 4 (.a [(.v (.int .i64 0)),(.v (.string ByteArray.empty)),(.v (.int .i64 0)),.nl]) S fun v6 S=>stN 4 v6 v5 S fun v7 S=>shift v1 0 S fun v8 S=>ld1 v8 S fun v9 S=>bin .eql 0 v9 (.v (.int .i64 3)) S fun v10 S=>onB v10 fun b11=>gd b11 (∃ q12:AV,(∀ T:Store,Keep S T → shift v1 1 T fun v13 S=>v13 = q12 ∧ S = T) ∧ ∃ q14:AV,(∀ T:Store,Keep S T → ld1 q12 T fun v15 S=>v15 = q14 ∧ S = T) ∧ ∃ q16:AV,(∀ T:Store,Keep S T → lenStr q14 T fun v17 S=>v17 = q16 ∧ S = T) ∧ ∃ q18:AV,(∀ T:Store,Keep S T → bin .mul 0 q16 (.v (.int .i64 7)) T fun v19 S=>v19 = q18 ∧ S = T) ∧ ∃ q20:AV,(∀ T:Store,Keep S T → shift v1 1 T fun v21 S=>v21 = q20 ∧ S = T) ∧ ∃ q22:AV,(∀ T:Store,Keep S T → ld1 q20 T fun v23 S=>v23 = q22 ∧ S = T) ∧ ∃ q24:AV,(∀ T:Store,Keep S T → ixStr q22 (.v (.int .i64 0)) T fun v25 S=>v25 = q24 ∧ S = T) ∧ ∃ q26:AV,(∀ T:Store,Keep S T → convI .i64 q24 T fun v27 S=>v27 = q26 ∧ S = T) ∧ ∃ q28:AV,(∀ T:Store,Keep S T → bin .add 0 q18 q26 T fun v29 S=>v29 = q28 ∧ S = T) ∧ ∃ q30:AV,(∀ T:Store,Keep S T → mxI true x1 (.v (.int .i64 1)) T fun v31 S=>v31 = q30 ∧ S = T) ∧ ∃ q32:AV,(∀ T:Store,Keep S T → bin .rem 0 q28 q30 T fun v33 S=>v33 = q32 ∧ S = T) ∧ ∃ q34:AV,(∀ T:Store,Keep S T → shift v6 2 T fun v35 S=>v35 = q34 ∧ S = T) ∧ stN 1 q34 q32 S fun v36 S=>loopV lv42_0 (vc Tryz.prog (c42.at_ [1,1,1,0,1,0,0]) (ms42.drop 1)) 46 (env42_0 x1 v1 v2 v6 (.v (.int .i64 0))) S (blockK 0 (seqK (vc Tryz.prog (c42.at_ [1,1,1,1]) (ms42.drop 1)) (bodyK Tryz.prog r42 Q)))) (loopV lv42_0 (vc Tryz.prog (c42.at_ [1,1,1,0,1,0,0]) (ms42.drop 1)) 46 (env42_0 x1 v1 v2 v6 (.v (.int .i64 0))) S (blockK 0 (seqK (vc Tryz.prog (c42.at_ [1,1,1,1]) (ms42.drop 1)) (bodyK Tryz.prog r42 Q))))
theorem calls42 {x0 x1:AV} {S:Store} {Q:PoT} (h:m42 x0 x1 S Q):ACalls Tryz.prog 42 [x0,x1] S Q :=
  calls_of_vc (fn:=Tryz.f42) (c:=c42) (n:=46) Tryz.func42 (by kernel_rfl) (by kernel_rfl) (by kernel_rfl) ms42 (Eq.mpr (by kernel_rfl) h)
def b42_0 (y1 y2 y4 y5 y6:AV) (S:Store) (KE0:KeT) (Q:PoT):Prop :=
  shift y2 3 S fun v37 S=>ld1 v37 S fun v38 S=>lenS v38 S fun v39 S=>bin .lss 0 y6 v39 S fun v40 S=>onB v40 fun b41=>gd b41 (∃ q42:AV,(∀ T:Store,Keep S T → shift y5 3 T fun v43 S=>v43 = q42 ∧ S = T) ∧ ∃ q44:AV,(∀ T:Store,Keep S T → ld1 q42 T fun v45 S=>v45 = q44 ∧ S = T) ∧ ∃ q46:AV,(∀ T:Store,Keep S T → shift y2 3 T fun v47 S=>v47 = q46 ∧ S = T) ∧ ∃ q48:AV,(∀ T:Store,Keep S T → ld1 q46 T fun v49 S=>v49 = q48 ∧ S = T) ∧ ∃ q50:AV,(∀ T:Store,Keep S T → ixS 24 4 q48 y6 T fun v51 S=>v51 = q50 ∧ S = T) ∧ ∃ q52:AV,(∀ T:Store,Keep S T → ldN 4 q50 T fun v53 S=>v53 = q52 ∧ S = T) ∧ ∃ q54:AV,(∀ T:Store,Keep S T → callF Tryz.prog 42 [q52,y1] T (fun _ _=>False) fun v55 S=>v55 = q54 ∧ S = T) ∧ ∃ q56:AV,(∀ T:Store,Keep S T → bslN 24 4 1 [(.v (.int .i64 0)),(.v (.string ByteArray.empty)),(.v (.int .i64 0)),.nl] [(0,q54)] T fun v57 S=>v57 = q56 ∧ S = T) ∧ appS 24 4 56 q44 q56 S fun v58 S=>∃ q59:AV,(∀ T:Store,Keep S T → shift y5 3 T fun v60 S=>v60 = q59 ∧ S = T) ∧ stN 1 q59 v58 S fun v61 S=>bin .add 0 y6 (.v (.int .i64 1)) S fun v62 S=>KE0 46 (env42_0 y1 y2 y4 y5 v62) S) (ldN 4 y5 S fun v63 S=>stN 4 y4 v63 S fun v64 S=>ldN 4 y4 S fun v65 _=>Q (.ret v65) S)
theorem b42_0_eq (y1 y2 y4 y5 y6:AV) (S:Store) (KE0:KeT) (Q:PoT):vc Tryz.prog (c42.at_ [1,1,1,0,1,0,0]) (ms42.drop 1) (mkE 46 lv42_0 (env42_0 y1 y2 y4 y5 y6)) S (thenK (fgK lv42_0 KE0) (blockK 0 (seqK (vc Tryz.prog (c42.at_ [1,1,1,1]) (ms42.drop 1)) (bodyK Tryz.prog r42 Q)))) = b42_0 y1 y2 y4 y5 y6 S KE0 Q:=by kernel_rfl
theorem loop42_0 {y1 y2 y4 y5:AV} {y60:AV} {S:Store} {Q:PoT} (I:AV → Store → Prop) (μ:AV → Store → Nat) (h0:I y60 S)
    (hr:∀ (y6:AV) (S:Store),I y6 S → ∀ KE0:KeT,(∀ (y6':AV) (S':Store),I y6' S' → μ y6' S' < μ y6 S → KE0 46 (env42_0 y1 y2 y4 y5 y6') S') → b42_0 y1 y2 y4 y5 y6 S KE0 Q) :
    loopV lv42_0 (vc Tryz.prog (c42.at_ [1,1,1,0,1,0,0]) (ms42.drop 1)) 46 (env42_0 y1 y2 y4 y5 y60) S (blockK 0 (seqK (vc Tryz.prog (c42.at_ [1,1,1,1]) (ms42.drop 1)) (bodyK Tryz.prog r42 Q))):=by
  refine ⟨fun n e S=>n = 46 ∧ ∃ y6:AV,e = (env42_0 y1 y2 y4 y5 y6) ∧ I y6 S,fun _ e S=>μ (e.getD 4 .j) S,?_,?_⟩
  · exact ⟨_,_,Wk.refl _ _,rfl,_,rfl,h0⟩
  · rintro _ e S ⟨rfl,y6,rfl,hI⟩
    exact (b42_0_eq _ _ _ _ _ _ _ _).mpr (hr y6 S hI _ (fun y6' S' hI' hm=>⟨_,_,Wk.refl _ _,⟨rfl,_,rfl,hI'⟩,hm⟩))
noncomputable def c182:Code:=(Tryz.f182.body).getD .skip
def ms182:List (List Nat):=[[]]
def m182 (x0 x1 x2 x3:AV) (S:Store) (Q:PoT):Prop :=
  boxN 177 1 x2 S fun v1 S=>boxN 177 1 x3 S fun v2 S=>bin .eql 0 x1 (.v (.int .i64 5)) S fun v3 S=>onB v3 fun b4=>gd b4 (ld1 v1 S fun v5 S=>ld1 v2 S fun v6 S=>callF Tryz.prog 200 [x0,v5,v6] S Q fun v7 S=>Q (.ret v7) S) (bin .eql 0 x1 (.v (.int .i64 6)) S fun v8 S=>onB v8 fun b9=>gd b9 (ld1 v1 S fun v10 S=>ld1 v2 S fun v11 S=>callF Tryz.prog 201 [x0,v10,v11] S Q fun v12 S=>Q (.ret v12) S) (bin .eql 0 x1 (.v (.int .i64 7)) S fun v13 S=>onB v13 fun b14=>gd b14 ((fun S0:Store=>∃ q15:AV,(ld1 v1 S fun v16 S=>v16 = q15 ∧ S = S0) ∧ ∃ q17:AV,(callF Tryz.prog 180 [x0,q15] S (fun _ _=>False) fun v18 S=>v18 = q17 ∧ S = S0) ∧ ∃ q19:AV,(ld1 v2 S fun v20 S=>v20 = q19 ∧ S = S0) ∧ ∃ q21:AV,(callF Tryz.prog 201 [x0,q17,q19] S (fun _ _=>False) fun v22 S=>v22 = q21 ∧ S = S0) ∧ Q (.ret q21) S) S) (bin .eql 0 x1 (.v (.int .i64 8)) S fun v23 S=>onB v23 fun b24=>gd b24 (callF Tryz.prog 178 [x0,(.f (.func 202) [] [v1,v2])] S Q fun v25 S=>Q (.ret v25) S) (bin .eql 0 x1 (.v (.int .i64 15)) S fun v26 S=>onB v26 fun b27=>gd b27 (ld1 v1 S fun v28 S=>ld1 v2 S fun v29 S=>callF Tryz.prog 198 [x0,v28,v29] S Q fun v30 S=>Q (.ret v30) S) (bin .eql 0 x1 (.v (.int .i64 17)) S fun v31 S=>onB v31 fun b32=>gd b32 ((fun S0:Store=>∃ q33:AV,(ld1 v2 S fun v34 S=>v34 = q33 ∧ S = S0) ∧ ∃ q35:AV,(callF Tryz.prog 199 [x0,q33] S (fun _ _=>False) fun v36 S=>v36 = q35 ∧ S = S0) ∧ ∃ q37:AV,(ld1 v2 S fun v38 S=>v38 = q37 ∧ S = S0) ∧ ∃ q39:AV,(ld1 v1 S fun v40 S=>v40 = q39 ∧ S = S0) ∧ ∃ q41:AV,(ld1 v2 S fun v42 S=>v42 = q41 ∧ S = S0) ∧ ∃ q43:AV,(callF Tryz.prog 200 [x0,q39,q41] S (fun _ _=>False) fun v44 S=>v44 = q43 ∧ S = S0) ∧ ∃ q45:AV,(callF Tryz.prog 198 [x0,q37,q43] S (fun _ _=>False) fun v46 S=>v46 = q45 ∧ S = S0) ∧ ∃ q47:AV,(callF Tryz.prog 201 [x0,q35,q45] S (fun _ _=>False) fun v48 S=>v48 = q47 ∧ S = S0) ∧ Q (.ret q47) S) S) (bin .eql 0 x1 (.v (.int .i64 16)) S fun v49 S=>onB v49 fun b50=>gd b50 (ld1 v2 S fun v51 S=>callF Tryz.prog 180 [x0,v51] S Q fun v52 S=>ld1 v1 S fun v53 S=>callF Tryz.prog 180 [x0,v53] S Q fun v54 S=>callF Tryz.prog 200 [x0,v54,v52] S Q fun v55 S=>callF Tryz.prog 198 [x0,v52,v55] S Q fun v56 S=>callF Tryz.prog 199 [x0,v52] S Q fun v57 S=>callF Tryz.prog 201 [x0,v56,v57] S Q fun v58 S=>callF Tryz.prog 180 [x0,v58] S Q fun v59 S=>Q (.ret v59) S) ((fun S0:Store=>∃ q60:AV,(ld1 v1 S fun v61 S=>v61 = q60 ∧ S = S0) ∧ ∃ q62:AV,(callF Tryz.prog 180 [x0,q60] S (fun _ _=>False) fun v63 S=>v63 = q62 ∧ S = S0) ∧ ∃ q64:AV,(ld1 v2 S fun v65 S=>v65 = q64 ∧ S = S0) ∧ ∃ q66:AV,(callF Tryz.prog 180 [x0,q64] S (fun _ _=>False) fun v67 S=>v67 = q66 ∧ S = S0) ∧ ∃ q68:AV,(callF Tryz.prog 198 [x0,q62,q66] S (fun _ _=>False) fun v69 S=>v69 = q68 ∧ S = S0) ∧ ∃ q70:AV,(callF Tryz.prog 180 [x0,q68] S (fun _ _=>False) fun v71 S=>v71 = q70 ∧ S = S0) ∧ Q (.ret q70) S) S)))))))
theorem calls182 {x0 x1 x2 x3:AV} {S:Store} {Q:PoT} (h:m182 x0 x1 x2 x3 S Q):ACalls Tryz.prog 182 [x0,x1,x2,x3] S Q :=
  calls_of_vc (fn:=Tryz.f182) (c:=c182) (n:=87) Tryz.func182 (by kernel_rfl) (by kernel_rfl) (by kernel_rfl) ms182 (Eq.mpr (by kernel_rfl) h)
noncomputable def c202:Code:=(Tryz.f202.body).getD .skip
def ms202:List (List Nat):=[[]]
def m202 (x0 x1 x2:AV) (S:Store) (Q:PoT):Prop :=
  (fun S0:Store=>∃ q1:AV,(ld1 x1 S fun v2 S=>v2 = q1 ∧ S = S0) ∧ ∃ q3:AV,(ixS 4 1 q1 x0 S fun v4 S=>v4 = q3 ∧ S = S0) ∧ ∃ q5:AV,(ld1 q3 S fun v6 S=>v6 = q5 ∧ S = S0) ∧ ∃ q7:AV,(ld1 x2 S fun v8 S=>v8 = q7 ∧ S = S0) ∧ ∃ q9:AV,(ixS 4 1 q7 x0 S fun v10 S=>v10 = q9 ∧ S = S0) ∧ ∃ q11:AV,(ld1 q9 S fun v12 S=>v12 = q11 ∧ S = S0) ∧ ∃ q13:AV,(bin .eql 1 q5 q11 S fun v14 S=>v14 = q13 ∧ S = S0) ∧ Q (.ret q13) S) S
theorem calls202 {x0 x1 x2:AV} {S:Store} {Q:PoT} (h:m202 x0 x1 x2 S Q):ACalls Tryz.prog 202 [x0,x1,x2] S Q :=
  calls_of_vc (fn:=Tryz.f202) (c:=c202) (n:=14) Tryz.func202 (by kernel_rfl) (by kernel_rfl) (by kernel_rfl) ms202 (Eq.mpr (by kernel_rfl) h)
noncomputable def c163:Code:=(Tryz.f163.body).getD .skip
def ms163:List (List Nat):=[[]]
def m163 (x0 x1:AV) (S:Store) (Q:PoT):Prop :=
  boxN 174 1 x0 S fun v1 S=>boxN 24 4 x1 S fun v2 S=>shift v2 0 S fun v3 S=>ld1 v3 S fun v4 S=>bin .eql 0 v4 (.v (.int .i64 3)) S fun v5 S=>onB v5 fun b6=>gd b6 (ld1 v1 S fun v7 S=>callF Tryz.prog 178 [v7,(.f (.func 179) [] [v1,v2])] S Q fun v8 S=>Q (.ret v8) S) (bin .eql 0 v4 (.v (.int .i64 2)) S fun v9 S=>onB v9 fun b10=>gd b10 (ld1 v1 S fun v11 S=>nilChk v11 S fun v12 S=>shift v12 8 S fun v13 S=>shift v13 1 S fun v14 S=>ld1 v14 S fun v15 S=>Q (.ret v15) S) (bin .eql 0 v4 (.v (.int .i64 1)) S fun v16 S=>onB v16 fun b17=>gd b17 ((fun S0:Store=>∃ q18:AV,(ld1 v1 S fun v19 S=>v19 = q18 ∧ S = S0) ∧ ∃ q20:AV,(ld1 v1 S fun v21 S=>v21 = q20 ∧ S = S0) ∧ ∃ q22:AV,(nilChk q20 S fun v23 S=>v23 = q22 ∧ S = S0) ∧ ∃ q24:AV,(shift q22 8 S fun v25 S=>v25 = q24 ∧ S = S0) ∧ ∃ q26:AV,(shift q24 1 S fun v27 S=>v27 = q26 ∧ S = S0) ∧ ∃ q28:AV,(ld1 q26 S fun v29 S=>v29 = q28 ∧ S = S0) ∧ ∃ q30:AV,(callF Tryz.prog 180 [q18,q28] S (fun _ _=>False) fun v31 S=>v31 = q30 ∧ S = S0) ∧ Q (.ret q30) S) S) ((fun S0:Store=>∃ q32:AV,(ld1 v1 S fun v33 S=>v33 = q32 ∧ S = S0) ∧ ∃ q34:AV,(shift v2 3 S fun v35 S=>v35 = q34 ∧ S = S0) ∧ ∃ q36:AV,(ld1 q34 S fun v37 S=>v37 = q36 ∧ S = S0) ∧ ∃ q38:AV,(ixS 24 4 q36 (.v (.int .i64 0)) S fun v39 S=>v39 = q38 ∧ S = S0) ∧ ∃ q40:AV,(ldN 4 q38 S fun v41 S=>v41 = q40 ∧ S = S0) ∧ ∃ q42:AV,(callF Tryz.prog 163 [q32,q40] S (fun _ _=>False) fun v43 S=>v43 = q42 ∧ S = S0) ∧ shift v2 3 S fun v44 S=>ld1 v44 S fun v45 S=>lenS v45 S fun v46 S=>bin .eql 0 v46 (.v (.int .i64 1)) S fun v47 S=>onB v47 fun b48=>gd b48 (ld1 v1 S fun v49 S=>shift v2 0 S fun v50 S=>ld1 v50 S fun v51 S=>callF Tryz.prog 181 [v49,v51,q42] S Q fun v52 S=>Q (.ret v52) S) ((fun S0:Store=>∃ q53:AV,(ld1 v1 S fun v54 S=>v54 = q53 ∧ S = S0) ∧ ∃ q55:AV,(shift v2 0 S fun v56 S=>v56 = q55 ∧ S = S0) ∧ ∃ q57:AV,(ld1 q55 S fun v58 S=>v58 = q57 ∧ S = S0) ∧ ∃ q59:AV,(ld1 v1 S fun v60 S=>v60 = q59 ∧ S = S0) ∧ ∃ q61:AV,(shift v2 3 S fun v62 S=>v62 = q61 ∧ S = S0) ∧ ∃ q63:AV,(ld1 q61 S fun v64 S=>v64 = q63 ∧ S = S0) ∧ ∃ q65:AV,(ixS 24 4 q63 (.v (.int .i64 1)) S fun v66 S=>v66 = q65 ∧ S = S0) ∧ ∃ q67:AV,(ldN 4 q65 S fun v68 S=>v68 = q67 ∧ S = S0) ∧ ∃ q69:AV,(callF Tryz.prog 163 [q59,q67] S (fun _ _=>False) fun v70 S=>v70 = q69 ∧ S = S0) ∧ ∃ q71:AV,(callF Tryz.prog 182 [q53,q57,q42,q69] S (fun _ _=>False) fun v72 S=>v72 = q71 ∧ S = S0) ∧ Q (.ret q71) S) S)) S)))
theorem calls163 {x0 x1:AV} {S:Store} {Q:PoT} (h:m163 x0 x1 S Q):ACalls Tryz.prog 163 [x0,x1] S Q :=
  calls_of_vc (fn:=Tryz.f163) (c:=c163) (n:=55) Tryz.func163 (by kernel_rfl) (by kernel_rfl) (by kernel_rfl) ms163 (Eq.mpr (by kernel_rfl) h)
noncomputable def c179:Code:=(Tryz.f179.body).getD .skip
def ms179:List (List Nat):=[[]]
def m179 (x0 x1 x2:AV) (S:Store) (Q:PoT):Prop :=
  (fun S0:Store=>∃ q1:AV,(ld1 x1 S fun v2 S=>v2 = q1 ∧ S = S0) ∧ ∃ q3:AV,(nilChk q1 S fun v4 S=>v4 = q3 ∧ S = S0) ∧ ∃ q5:AV,(shift q3 0 S fun v6 S=>v6 = q5 ∧ S = S0) ∧ ∃ q7:AV,(ldN 8 q5 S fun v8 S=>v8 = q7 ∧ S = S0) ∧ ∃ q9:AV,(shift x2 2 S fun v10 S=>v10 = q9 ∧ S = S0) ∧ ∃ q11:AV,(ld1 q9 S fun v12 S=>v12 = q11 ∧ S = S0) ∧ ∃ q13:AV,(callF Tryz.prog 171 [q7,x0,q11] S (fun _ _=>False) fun v14 S=>v14 = q13 ∧ S = S0) ∧ Q (.ret q13) S) S
theorem calls179 {x0 x1 x2:AV} {S:Store} {Q:PoT} (h:m179 x0 x1 x2 S Q):ACalls Tryz.prog 179 [x0,x1,x2] S Q :=
  calls_of_vc (fn:=Tryz.f179) (c:=c179) (n:=13) Tryz.func179 (by kernel_rfl) (by kernel_rfl) (by kernel_rfl) ms179 (Eq.mpr (by kernel_rfl) h)
noncomputable def c118:Code:=(Tryz.f118.body).getD .skip
def ms118:List (List Nat):=[[]]
def m118 (x0 x1 x2:AV) (S:Store) (Q:PoT):Prop :=
  boxN 42 8 x0 S fun v1 S=>boxN 71 5 x1 S fun v2 S=>boxN 24 4 x2 S fun v3 S=>∃ q4:AV,(∀ T:Store,Keep S T → ldN 8 v1 T fun v5 S=>v5 = q4 ∧ S = T) ∧ ∃ q6:AV,(∀ T:Store,Keep S T → ldN 5 v2 T fun v7 S=>v7 = q6 ∧ S = T) ∧ ∃ q8:AV,(∀ T:Store,Keep S T → ldN 5 v2 T fun v9 S=>v9 = q8 ∧ S = T) ∧ ∃ q10:AV,(∀ T:Store,Keep S T → shift v2 1 T fun v11 S=>v11 = q10 ∧ S = T) ∧ ∃ q12:AV,(∀ T:Store,Keep S T → ld1 q10 T fun v13 S=>v13 = q12 ∧ S = T) ∧ ∃ q14:AV,(∀ T:Store,Keep S T → callF Tryz.prog 162 [q8,q12] T (fun _ _=>False) fun v15 S=>v15 = q14 ∧ S = T) ∧ ∃ q16:AV,(∀ T:Store,Keep S T → bld [(0,8),(8,5),(13,1)] [(.v (.int .i64 0)),.nl,.nl,.nl,.nl,.nl,.nl,.nl,(.v (.int .i64 0)),.nl,.nl,.nl,.nl,.nl] [(0,q4),(1,q6),(2,q14)] T fun v17 S=>v17 = q16 ∧ S = T) ∧ boxN 176 14 q16 S fun v18 S=>ldN 4 v3 S fun v19 S=>callF Tryz.prog 163 [v18,v19] S Q fun v20 S=>Q (.ret v20) S
theorem calls118 {x0 x1 x2:AV} {S:Store} {Q:PoT} (h:m118 x0 x1 x2 S Q):ACalls Tryz.prog 118 [x0,x1,x2] S Q :=
  calls_of_vc (fn:=Tryz.f118) (c:=c118) (n:=19) Tryz.func118 (by kernel_rfl) (by kernel_rfl) (by kernel_rfl) ms118 (Eq.mpr (by kernel_rfl) h)
noncomputable def c69:Code:=(Tryz.f69.body).getD .skip
def ms69:List (List Nat):=[[]]
def m69 (x0 x1:AV) (S:Store) (Q:PoT):Prop :=
  boxN 42 8 x0 S fun v1 S=>boxN 24 4 x1 S fun v2 S=>boxN 71 5 (.a [(.v (.int .i64 0)),.nl,.nl,.nl,.nl]) S fun v3 S=>ldN 8 v1 S fun v4 S=>ldN 4 v2 S fun v5 S=>callF Tryz.prog 52 [v4,v5] S Q fun v6 S=>un .not v6 S fun v7 S=>onB v7 fun b8=>gd b8 (bld [(0,1),(1,1),(2,1),(3,1),(4,1)] [(.v (.int .i64 0)),.nl,.nl,.nl,.nl] [] S fun v9 S=>stN 5 v3 v9 S fun v10 S=>ldN 5 v3 S fun v11 _=>Q (.ret (.t [.nl,v11,(.v (.int .i64 1))])) S) (ldN 8 v1 S fun v12 S=>callF Tryz.prog 117 [v12] S Q fun v13 S=>extr v13 0 S fun v14 S=>extr v13 1 S fun v15 S=>boxN 71 5 (.a [(.v (.int .i64 0)),.nl,.nl,.nl,.nl]) S fun v16 S=>stN 5 v16 v14 S fun v17 S=>bin .neq 0 v15 (.v (.int .i64 0)) S fun v18 S=>onB v18 fun b19=>gd b19 (∃ q20:AV,(∀ T:Store,Keep S T → ldN 5 v16 T fun v21 S=>v21 = q20 ∧ S = T) ∧ stN 5 v3 q20 S fun v22 S=>ldN 5 v3 S fun v23 _=>Q (.ret (.t [.nl,v23,v15])) S) (∃ q24:AV,(∀ T:Store,Keep S T → ldN 8 v1 T fun v25 S=>v25 = q24 ∧ S = T) ∧ ∃ q26:AV,(∀ T:Store,Keep S T → ldN 5 v16 T fun v27 S=>v27 = q26 ∧ S = T) ∧ ∃ q28:AV,(∀ T:Store,Keep S T → ldN 4 v2 T fun v29 S=>v29 = q28 ∧ S = T) ∧ ∃ q30:AV,(∀ T:Store,Keep S T → callF Tryz.prog 118 [q24,q26,q28] T (fun _ _=>False) fun v31 S=>v31 = q30 ∧ S = T) ∧ ∃ q32:AV,(∀ T:Store,Keep S T → ldN 5 v16 T fun v33 S=>v33 = q32 ∧ S = T) ∧ stN 5 v3 q32 S fun v34 S=>ldN 5 v3 S fun v35 _=>Q (.ret (.t [q30,v35,(.v (.int .i64 0))])) S))
theorem calls69 {x0 x1:AV} {S:Store} {Q:PoT} (h:m69 x0 x1 S Q):ACalls Tryz.prog 69 [x0,x1] S Q :=
  calls_of_vc (fn:=Tryz.f69) (c:=c69) (n:=28) Tryz.func69 (by kernel_rfl) (by kernel_rfl) (by kernel_rfl) ms69 (Eq.mpr (by kernel_rfl) h)
noncomputable def c36:Code:=(Tryz.f36.body).getD .skip
def ms36:List (List Nat):=[[]]
def m36 (x0 x1:AV) (S:Store) (Q:PoT):Prop :=
  boxN 42 8 x0 S fun v1 S=>boxN 24 4 x1 S fun v2 S=>ldN 8 v1 S fun v3 S=>ldN 4 v2 S fun v4 S=>callF Tryz.prog 69 [v3,v4] S Q fun v5 S=>extr v5 0 S fun v6 S=>extr v5 1 S fun v7 S=>extr v5 2 S fun v8 S=>boxN 71 5 (.a [(.v (.int .i64 0)),.nl,.nl,.nl,.nl]) S fun v9 S=>stN 5 v9 v7 S fun v10 S=>Q (.ret (.t [v6,v8])) S
theorem calls36 {x0 x1:AV} {S:Store} {Q:PoT} (h:m36 x0 x1 S Q):ACalls Tryz.prog 36 [x0,x1] S Q :=
  calls_of_vc (fn:=Tryz.f36) (c:=c36) (n:=18) Tryz.func36 (by kernel_rfl) (by kernel_rfl) (by kernel_rfl) ms36 (Eq.mpr (by kernel_rfl) h)
noncomputable def c60:Code:=(Tryz.f60.body).getD .skip
noncomputable def r60:List ResultVar:=Tryz.f60.results.toList
def env60_0 (y4 y6 y23 y24 y25:AV):List AV:=[y4,y6,y23,y24,y25]
def lv60_0:List Nat:=[4,6,23,24,25]
def ms60:List (List Nat):=[lv60_0,[]]
def m60 (x0 x1:AV) (S:Store) (Q:PoT):Prop :=
  boxN 42 8 x0 S fun v1 S=>boxN 24 4 x1 S fun v2 S=>boxN 110 3 (.a [(.v (.bool false)),(.v (.int .i64 0)),(.v (.int .i64 0))]) S fun v3 S=>ldN 8 v1 S fun v4 S=>ldN 4 v2 S fun v5 S=>callF Tryz.prog 69 [v4,v5] S Q fun v6 S=>extr v6 0 S fun v7 S=>extr v6 1 S fun v8 S=>extr v6 2 S fun v9 S=>boxN 71 5 (.a [(.v (.int .i64 0)),.nl,.nl,.nl,.nl]) S fun v10 S=>stN 5 v10 v8 S fun v11 S=>bin .neq 0 v9 (.v (.int .i64 0)) S fun v12 S=>onB v12 fun b13=>gd b13 (ldN 3 v3 S fun v14 S=>stN 3 v3 v14 S fun v15 S=>ldN 3 v3 S fun v16 _=>Q (.ret (.t [v16,v9])) S) (shift v3 2 S fun v17 S=>stN 1 v17 (.v (.int .i64 (-1))) S fun v18 S=>shift v10 2 S fun v19 S=>ld1 v19 S fun v20 S=>lenS v20 S fun v21 S=>loopV lv60_0 (vc Tryz.prog (c60.at_ [1,1,1,1,0,1,0,0]) (ms60.drop 1)) 54 (env60_0 v3 v7 v20 v21 (.v (.int .i64 0))) S (blockK 0 (seqK (vc Tryz.prog (c60.at_ [1,1,1,1,1]) (ms60.drop 1)) (bodyK Tryz.prog r60 Q))))
theorem calls60 {x0 x1:AV} {S:Store} {Q:PoT} (h:m60 x0 x1 S Q):ACalls Tryz.prog 60 [x0,x1] S Q :=
  calls_of_vc (fn:=Tryz.f60) (c:=c60) (n:=54) Tryz.func60 (by kernel_rfl) (by kernel_rfl) (by kernel_rfl) ms60 (Eq.mpr (by kernel_rfl) h)
def b60_0 (y4 y6 y23 y24 y25:AV) (S:Store) (KE0:KeT) (Q:PoT):Prop :=
  bin .lss 0 y25 y24 S fun v22 S=>onB v22 fun b23=>gd b23 (ixS 4 1 y23 y25 S fun v24 S=>ld1 v24 S fun v25 S=>un .not v25 S fun v26 S=>onB v26 fun b27=>gd b27 (bin .add 0 y25 (.v (.int .i64 1)) S fun v28 S=>KE0 54 (env60_0 y4 y6 y23 y24 v28) S) (shift y4 1 S fun v29 S=>ld1 v29 S fun v30 S=>bin .add 0 v30 (.v (.int .i64 1)) S fun v31 S=>shift y4 1 S fun v32 S=>stN 1 v32 v31 S fun v33 S=>ixS 4 1 y6 y25 S fun v34 S=>ld1 v34 S fun v35 S=>un .not v35 S fun v36 S=>onB v36 fun b37=>gd b37 (shift y4 2 S fun v38 S=>ld1 v38 S fun v39 S=>bin .lss 0 v39 (.v (.int .i64 0)) S fun v40 S=>onB v40 fun b41=>gd b41 (shift y4 2 S fun v42 S=>stN 1 v42 y25 S fun v43 S=>bin .add 0 y25 (.v (.int .i64 1)) S fun v44 S=>KE0 54 (env60_0 y4 y6 y23 y24 v44) S) (bin .add 0 y25 (.v (.int .i64 1)) S fun v45 S=>KE0 54 (env60_0 y4 y6 y23 y24 v45) S)) (bin .add 0 y25 (.v (.int .i64 1)) S fun v46 S=>KE0 54 (env60_0 y4 y6 y23 y24 v46) S))) (shift y4 2 S fun v47 S=>ld1 v47 S fun v48 S=>bin .lss 0 v48 (.v (.int .i64 0)) S fun v49 S=>shift y4 0 S fun v50 S=>stN 1 v50 v49 S fun v51 S=>ldN 3 y4 S fun v52 S=>stN 3 y4 v52 S fun v53 S=>ldN 3 y4 S fun v54 _=>Q (.ret (.t [v54,(.v (.int .i64 0))])) S)
theorem b60_0_eq (y4 y6 y23 y24 y25:AV) (S:Store) (KE0:KeT) (Q:PoT):vc Tryz.prog (c60.at_ [1,1,1,1,0,1,0,0]) (ms60.drop 1) (mkE 54 lv60_0 (env60_0 y4 y6 y23 y24 y25)) S (thenK (fgK lv60_0 KE0) (blockK 0 (seqK (vc Tryz.prog (c60.at_ [1,1,1,1,1]) (ms60.drop 1)) (bodyK Tryz.prog r60 Q)))) = b60_0 y4 y6 y23 y24 y25 S KE0 Q:=by kernel_rfl
theorem loop60_0 {y4 y6 y23 y24:AV} {y250:AV} {S:Store} {Q:PoT} (I:AV → Store → Prop) (μ:AV → Store → Nat) (h0:I y250 S)
    (hr:∀ (y25:AV) (S:Store),I y25 S → ∀ KE0:KeT,(∀ (y25':AV) (S':Store),I y25' S' → μ y25' S' < μ y25 S → KE0 54 (env60_0 y4 y6 y23 y24 y25') S') → b60_0 y4 y6 y23 y24 y25 S KE0 Q) :
    loopV lv60_0 (vc Tryz.prog (c60.at_ [1,1,1,1,0,1,0,0]) (ms60.drop 1)) 54 (env60_0 y4 y6 y23 y24 y250) S (blockK 0 (seqK (vc Tryz.prog (c60.at_ [1,1,1,1,1]) (ms60.drop 1)) (bodyK Tryz.prog r60 Q))):=by
  refine ⟨fun n e S=>n = 54 ∧ ∃ y25:AV,e = (env60_0 y4 y6 y23 y24 y25) ∧ I y25 S,fun _ e S=>μ (e.getD 4 .j) S,?_,?_⟩
  · exact ⟨_,_,Wk.refl _ _,rfl,_,rfl,h0⟩
  · rintro _ e S ⟨rfl,y25,rfl,hI⟩
    exact (b60_0_eq _ _ _ _ _ _ _ _).mpr (hr y25 S hI _ (fun y25' S' hI' hm=>⟨_,_,Wk.refl _ _,⟨rfl,_,rfl,hI'⟩,hm⟩))
noncomputable def c178:Code:=(Tryz.f178.body).getD .skip
noncomputable def r178:List ResultVar:=Tryz.f178.results.toList
def env178_0 (y1 y5 y19 y20 y21:AV):List AV:=[y1,y5,y19,y20,y21]
def lv178_0:List Nat:=[1,5,19,20,21]
def ms178:List (List Nat):=[lv178_0,[]]
def m178 (x0 x1:AV) (S:Store) (Q:PoT):Prop :=
  nilChk x0 S fun v1 S=>shift v1 8 S fun v2 S=>shift v2 1 S fun v3 S=>ld1 v3 S fun v4 S=>lenS v4 S fun v5 S=>mkN 4 1 [(.v (.bool false))] v5 v5 S fun v6 S=>nilChk x0 S fun v7 S=>shift v7 8 S fun v8 S=>shift v8 1 S fun v9 S=>ld1 v9 S fun v10 S=>lenS v10 S fun v11 S=>loopV lv178_0 (vc Tryz.prog (c178.at_ [1,1,0,1,0,0]) (ms178.drop 1)) 37 (env178_0 x1 v6 v10 v11 (.v (.int .i64 0))) S (blockK 0 (seqK (vc Tryz.prog (c178.at_ [1,1,1]) (ms178.drop 1)) (bodyK Tryz.prog r178 Q)))
theorem calls178 {x0 x1:AV} {S:Store} {Q:PoT} (h:m178 x0 x1 S Q):ACalls Tryz.prog 178 [x0,x1] S Q :=
  calls_of_vc (fn:=Tryz.f178) (c:=c178) (n:=37) Tryz.func178 (by kernel_rfl) (by kernel_rfl) (by kernel_rfl) ms178 (Eq.mpr (by kernel_rfl) h)
def b178_0 (y1 y5 y19 y20 y21:AV) (S:Store) (KE0:KeT) (Q:PoT):Prop :=
  bin .lss 0 y21 y20 S fun v12 S=>onB v12 fun b13=>gd b13 (ixS 4 1 y19 y21 S fun v14 S=>ld1 v14 S fun v15 S=>onB v15 fun b16=>gd b16 (callV Tryz.prog y1 [y21] S (fun v17 S=>ixS 4 1 y5 y21 S fun v18 S=>stN 1 v18 v17 S fun v19 S=>bin .add 0 y21 (.v (.int .i64 1)) S fun v20 S=>KE0 37 (env178_0 y1 y5 y19 y20 v20) S) (fun u S=>Q (.pan u) S)) (ixS 4 1 y5 y21 S fun v21 S=>stN 1 v21 (.v (.bool false)) S fun v22 S=>bin .add 0 y21 (.v (.int .i64 1)) S fun v23 S=>KE0 37 (env178_0 y1 y5 y19 y20 v23) S)) (Q (.ret y5) S)
theorem b178_0_eq (y1 y5 y19 y20 y21:AV) (S:Store) (KE0:KeT) (Q:PoT):vc Tryz.prog (c178.at_ [1,1,0,1,0,0]) (ms178.drop 1) (mkE 37 lv178_0 (env178_0 y1 y5 y19 y20 y21)) S (thenK (fgK lv178_0 KE0) (blockK 0 (seqK (vc Tryz.prog (c178.at_ [1,1,1]) (ms178.drop 1)) (bodyK Tryz.prog r178 Q)))) = b178_0 y1 y5 y19 y20 y21 S KE0 Q:=by kernel_rfl
theorem loop178_0 {y1 y5 y19 y20:AV} {y210:AV} {S:Store} {Q:PoT} (I:AV → Store → Prop) (μ:AV → Store → Nat) (h0:I y210 S)
    (hr:∀ (y21:AV) (S:Store),I y21 S → ∀ KE0:KeT,(∀ (y21':AV) (S':Store),I y21' S' → μ y21' S' < μ y21 S → KE0 37 (env178_0 y1 y5 y19 y20 y21') S') → b178_0 y1 y5 y19 y20 y21 S KE0 Q) :
    loopV lv178_0 (vc Tryz.prog (c178.at_ [1,1,0,1,0,0]) (ms178.drop 1)) 37 (env178_0 y1 y5 y19 y20 y210) S (blockK 0 (seqK (vc Tryz.prog (c178.at_ [1,1,1]) (ms178.drop 1)) (bodyK Tryz.prog r178 Q))):=by
  refine ⟨fun n e S=>n = 37 ∧ ∃ y21:AV,e = (env178_0 y1 y5 y19 y20 y21) ∧ I y21 S,fun _ e S=>μ (e.getD 4 .j) S,?_,?_⟩
  · exact ⟨_,_,Wk.refl _ _,rfl,_,rfl,h0⟩
  · rintro _ e S ⟨rfl,y21,rfl,hI⟩
    exact (b178_0_eq _ _ _ _ _ _ _ _).mpr (hr y21 S hI _ (fun y21' S' hI' hm=>⟨_,_,Wk.refl _ _,⟨rfl,_,rfl,hI'⟩,hm⟩))
noncomputable def c180:Code:=(Tryz.f180.body).getD .skip
def ms180:List (List Nat):=[[]]
def m180 (x0 x1:AV) (S:Store) (Q:PoT):Prop :=
  boxN 177 1 x1 S fun v1 S=>callF Tryz.prog 178 [x0,(.f (.func 196) [] [v1])] S Q fun v2 S=>Q (.ret v2) S
theorem calls180 {x0 x1:AV} {S:Store} {Q:PoT} (h:m180 x0 x1 S Q):ACalls Tryz.prog 180 [x0,x1] S Q :=
  calls_of_vc (fn:=Tryz.f180) (c:=c180) (n:=8) Tryz.func180 (by kernel_rfl) (by kernel_rfl) (by kernel_rfl) ms180 (Eq.mpr (by kernel_rfl) h)
noncomputable def c196:Code:=(Tryz.f196.body).getD .skip
def ms196:List (List Nat):=[[]]
def m196 (x0 x1:AV) (S:Store) (Q:PoT):Prop :=
  ld1 x1 S fun v1 S=>ixS 4 1 v1 x0 S fun v2 S=>ld1 v2 S fun v3 S=>un .not v3 S fun v4 S=>Q (.ret v4) S
theorem calls196 {x0 x1:AV} {S:Store} {Q:PoT} (h:m196 x0 x1 S Q):ACalls Tryz.prog 196 [x0,x1] S Q :=
  calls_of_vc (fn:=Tryz.f196) (c:=c196) (n:=9) Tryz.func196 (by kernel_rfl) (by kernel_rfl) (by kernel_rfl) ms196 (Eq.mpr (by kernel_rfl) h)
noncomputable def c200:Code:=(Tryz.f200.body).getD .skip
def ms200:List (List Nat):=[[]]
def m200 (x0 x1 x2:AV) (S:Store) (Q:PoT):Prop :=
  boxN 177 1 x1 S fun v1 S=>boxN 177 1 x2 S fun v2 S=>callF Tryz.prog 178 [x0,(.f (.func 212) [] [v1,v2])] S Q fun v3 S=>Q (.ret v3) S
theorem calls200 {x0 x1 x2:AV} {S:Store} {Q:PoT} (h:m200 x0 x1 x2 S Q):ACalls Tryz.prog 200 [x0,x1,x2] S Q :=
  calls_of_vc (fn:=Tryz.f200) (c:=c200) (n:=10) Tryz.func200 (by kernel_rfl) (by kernel_rfl) (by kernel_rfl) ms200 (Eq.mpr (by kernel_rfl) h)
noncomputable def c212:Code:=(Tryz.f212.body).getD .skip
def ms212:List (List Nat):=[[]]
def m212 (x0 x1 x2:AV) (S:Store) (Q:PoT):Prop :=
  ld1 x1 S fun v1 S=>ixS 4 1 v1 x0 S fun v2 S=>ld1 v2 S fun v3 S=>onB v3 fun b4=>gd b4 (ld1 x2 S fun v5 S=>ixS 4 1 v5 x0 S fun v6 S=>ld1 v6 S fun v7 S=>Q (.ret v7) S) (Q (.ret (.v (.bool false))) S)
theorem calls212 {x0 x1 x2:AV} {S:Store} {Q:PoT} (h:m212 x0 x1 x2 S Q):ACalls Tryz.prog 212 [x0,x1,x2] S Q :=
  calls_of_vc (fn:=Tryz.f212) (c:=c212) (n:=15) Tryz.func212 (by kernel_rfl) (by kernel_rfl) (by kernel_rfl) ms212 (Eq.mpr (by kernel_rfl) h)
noncomputable def c201:Code:=(Tryz.f201.body).getD .skip
def ms201:List (List Nat):=[[]]
def m201 (x0 x1 x2:AV) (S:Store) (Q:PoT):Prop :=
  boxN 177 1 x1 S fun v1 S=>boxN 177 1 x2 S fun v2 S=>callF Tryz.prog 178 [x0,(.f (.func 213) [] [v1,v2])] S Q fun v3 S=>Q (.ret v3) S
theorem calls201 {x0 x1 x2:AV} {S:Store} {Q:PoT} (h:m201 x0 x1 x2 S Q):ACalls Tryz.prog 201 [x0,x1,x2] S Q :=
  calls_of_vc (fn:=Tryz.f201) (c:=c201) (n:=10) Tryz.func201 (by kernel_rfl) (by kernel_rfl) (by kernel_rfl) ms201 (Eq.mpr (by kernel_rfl) h)
noncomputable def c213:Code:=(Tryz.f213.body).getD .skip
def ms213:List (List Nat):=[[]]
def m213 (x0 x1 x2:AV) (S:Store) (Q:PoT):Prop :=
  ld1 x1 S fun v1 S=>ixS 4 1 v1 x0 S fun v2 S=>ld1 v2 S fun v3 S=>onB v3 fun b4=>gd b4 (Q (.ret (.v (.bool true))) S) (ld1 x2 S fun v5 S=>ixS 4 1 v5 x0 S fun v6 S=>ld1 v6 S fun v7 S=>Q (.ret v7) S)
theorem calls213 {x0 x1 x2:AV} {S:Store} {Q:PoT} (h:m213 x0 x1 x2 S Q):ACalls Tryz.prog 213 [x0,x1,x2] S Q :=
  calls_of_vc (fn:=Tryz.f213) (c:=c213) (n:=15) Tryz.func213 (by kernel_rfl) (by kernel_rfl) (by kernel_rfl) ms213 (Eq.mpr (by kernel_rfl) h)
noncomputable def c197:Code:=(Tryz.f197.body).getD .skip
def ms197:List (List Nat):=[[]]
def m197 (x0 x1:AV) (S:Store) (Q:PoT):Prop :=
  (fun S0:Store=>∃ q1:AV,(nilChk x0 S fun v2 S=>v2 = q1 ∧ S = S0) ∧ ∃ q3:AV,(shift q1 8 S fun v4 S=>v4 = q3 ∧ S = S0) ∧ ∃ q5:AV,(ldN 5 q3 S fun v6 S=>v6 = q5 ∧ S = S0) ∧ ∃ q7:AV,(nilChk x0 S fun v8 S=>v8 = q7 ∧ S = S0) ∧ ∃ q9:AV,(shift q7 13 S fun v10 S=>v10 = q9 ∧ S = S0) ∧ ∃ q11:AV,(ld1 q9 S fun v12 S=>v12 = q11 ∧ S = S0) ∧ ∃ q13:AV,(callF Tryz.prog 200 [x0,x1,q11] S (fun _ _=>False) fun v14 S=>v14 = q13 ∧ S = S0) ∧ ∃ q15:AV,(callF Tryz.prog 210 [q5,q13] S (fun _ _=>False) fun v16 S=>v16 = q15 ∧ S = S0) ∧ Q (.ret q15) S) S
theorem calls197 {x0 x1:AV} {S:Store} {Q:PoT} (h:m197 x0 x1 S Q):ACalls Tryz.prog 197 [x0,x1] S Q :=
  calls_of_vc (fn:=Tryz.f197) (c:=c197) (n:=17) Tryz.func197 (by kernel_rfl) (by kernel_rfl) (by kernel_rfl) ms197 (Eq.mpr (by kernel_rfl) h)
noncomputable def c198:Code:=(Tryz.f198.body).getD .skip
def ms198:List (List Nat):=[[]]
def m198 (x0 x1 x2:AV) (S:Store) (Q:PoT):Prop :=
  (fun S0:Store=>∃ q1:AV,(nilChk x0 S fun v2 S=>v2 = q1 ∧ S = S0) ∧ ∃ q3:AV,(shift q1 8 S fun v4 S=>v4 = q3 ∧ S = S0) ∧ ∃ q5:AV,(ldN 5 q3 S fun v6 S=>v6 = q5 ∧ S = S0) ∧ ∃ q7:AV,(nilChk x0 S fun v8 S=>v8 = q7 ∧ S = S0) ∧ ∃ q9:AV,(shift q7 13 S fun v10 S=>v10 = q9 ∧ S = S0) ∧ ∃ q11:AV,(ld1 q9 S fun v12 S=>v12 = q11 ∧ S = S0) ∧ ∃ q13:AV,(callF Tryz.prog 200 [x0,x2,q11] S (fun _ _=>False) fun v14 S=>v14 = q13 ∧ S = S0) ∧ ∃ q15:AV,(callF Tryz.prog 211 [q5,x1,q13] S (fun _ _=>False) fun v16 S=>v16 = q15 ∧ S = S0) ∧ Q (.ret q15) S) S
theorem calls198 {x0 x1 x2:AV} {S:Store} {Q:PoT} (h:m198 x0 x1 x2 S Q):ACalls Tryz.prog 198 [x0,x1,x2] S Q :=
  calls_of_vc (fn:=Tryz.f198) (c:=c198) (n:=20) Tryz.func198 (by kernel_rfl) (by kernel_rfl) (by kernel_rfl) ms198 (Eq.mpr (by kernel_rfl) h)
noncomputable def c199:Code:=(Tryz.f199.body).getD .skip
def ms199:List (List Nat):=[[]]
def m199 (x0 x1:AV) (S:Store) (Q:PoT):Prop :=
  nilChk x0 S fun v1 S=>shift v1 8 S fun v2 S=>ldN 5 v2 S fun v3 S=>callF Tryz.prog 162 [v3,x1] S Q fun v4 S=>Q (.ret v4) S
theorem calls199 {x0 x1:AV} {S:Store} {Q:PoT} (h:m199 x0 x1 S Q):ACalls Tryz.prog 199 [x0,x1] S Q :=
  calls_of_vc (fn:=Tryz.f199) (c:=c199) (n:=11) Tryz.func199 (by kernel_rfl) (by kernel_rfl) (by kernel_rfl) ms199 (Eq.mpr (by kernel_rfl) h)
noncomputable def c181:Code:=(Tryz.f181.body).getD .skip
def ms181:List (List Nat):=[[]]
def m181 (x0 x1 x2:AV) (S:Store) (Q:PoT):Prop :=
  bin .eql 0 x1 (.v (.int .i64 9)) S fun v1 S=>onB v1 fun b2=>gd b2 (callF Tryz.prog 197 [x0,x2] S Q fun v3 S=>Q (.ret v3) S) (bin .eql 0 x1 (.v (.int .i64 10)) S fun v4 S=>onB v4 fun b5=>gd b5 (callF Tryz.prog 180 [x0,x2] S Q fun v6 S=>callF Tryz.prog 197 [x0,v6] S Q fun v7 S=>callF Tryz.prog 180 [x0,v7] S Q fun v8 S=>Q (.ret v8) S) (bin .eql 0 x1 (.v (.int .i64 11)) S fun v9 S=>onB v9 fun b10=>gd b10 (nilChk x0 S fun v11 S=>shift v11 8 S fun v12 S=>shift v12 1 S fun v13 S=>ld1 v13 S fun v14 S=>callF Tryz.prog 198 [x0,v14,x2] S Q fun v15 S=>Q (.ret v15) S) (bin .eql 0 x1 (.v (.int .i64 12)) S fun v16 S=>onB v16 fun b17=>gd b17 (callF Tryz.prog 180 [x0,x2] S Q fun v18 S=>callF Tryz.prog 199 [x0,v18] S Q fun v19 S=>callF Tryz.prog 180 [x0,v19] S Q fun v20 S=>Q (.ret v20) S) (bin .eql 0 x1 (.v (.int .i64 13)) S fun v21 S=>onB v21 fun b22=>gd b22 (callF Tryz.prog 199 [x0,x2] S Q fun v23 S=>Q (.ret v23) S) (bin .eql 0 x1 (.v (.int .i64 14)) S fun v24 S=>onB v24 fun b25=>gd b25 ((fun S0:Store=>∃ q26:AV,(nilChk x0 S fun v27 S=>v27 = q26 ∧ S = S0) ∧ ∃ q28:AV,(shift q26 8 S fun v29 S=>v29 = q28 ∧ S = S0) ∧ ∃ q30:AV,(shift q28 1 S fun v31 S=>v31 = q30 ∧ S = S0) ∧ ∃ q32:AV,(ld1 q30 S fun v33 S=>v33 = q32 ∧ S = S0) ∧ ∃ q34:AV,(callF Tryz.prog 180 [x0,x2] S (fun _ _=>False) fun v35 S=>v35 = q34 ∧ S = S0) ∧ ∃ q36:AV,(callF Tryz.prog 198 [x0,q32,q34] S (fun _ _=>False) fun v37 S=>v37 = q36 ∧ S = S0) ∧ ∃ q38:AV,(callF Tryz.prog 180 [x0,q36] S (fun _ _=>False) fun v39 S=>v39 = q38 ∧ S = S0) ∧ Q (.ret q38) S) S) (callF Tryz.prog 180 [x0,x2] S Q fun v40 S=>Q (.ret v40) S))))))
theorem calls181 {x0 x1 x2:AV} {S:Store} {Q:PoT} (h:m181 x0 x1 x2 S Q):ACalls Tryz.prog 181 [x0,x1,x2] S Q :=
  calls_of_vc (fn:=Tryz.f181) (c:=c181) (n:=63) Tryz.func181 (by kernel_rfl) (by kernel_rfl) (by kernel_rfl) ms181 (Eq.mpr (by kernel_rfl) h)
noncomputable def c187:Code:=(Tryz.f187.body).getD .skip
noncomputable def r187:List ResultVar:=Tryz.f187.results.toList
def env187_0 (y1 y5 y6 y22 y23:AV):List AV:=[y1,y5,y6,y22,y23]
def lv187_0:List Nat:=[1,5,6,22,23]
def ms187:List (List Nat):=[lv187_0,[]]
def m187 (x0 x1:AV) (S:Store) (Q:PoT):Prop :=
  boxN 42 8 x0 S fun v1 S=>ldN 8 v1 S fun v2 S=>callF Tryz.prog 84 [v2] S Q fun v3 S=>boxN 82 2 (.a [(.v (.int .i64 0)),.nl]) S fun v4 S=>stN 2 v4 v3 S fun v5 S=>ldN 8 v1 S fun v6 S=>callF Tryz.prog 85 [v6] S Q fun v7 S=>un .not v7 S fun v8 S=>onB v8 fun b9=>gd b9 (Q (.ret .nl) S) (shift v4 0 S fun v10 S=>ld1 v10 S fun v11 S=>bin .gtr 0 v11 (.v (.int .i64 60)) S fun v12 S=>onB v12 fun b13=>gd b13 (Q (.ret .nl) S) (shift v4 0 S fun v14 S=>ld1 v14 S fun v15 S=>mkN 4 1 [(.v (.bool false))] v15 v15 S fun v16 S=>lenS v16 S fun v17 S=>loopV lv187_0 (vc Tryz.prog (c187.at_ [1,1,1,1,0,1,0,0]) (ms187.drop 1)) 38 (env187_0 x1 v4 v16 v17 (.v (.int .i64 0))) S (blockK 0 (seqK (vc Tryz.prog (c187.at_ [1,1,1,1,1]) (ms187.drop 1)) (bodyK Tryz.prog r187 Q)))))
theorem calls187 {x0 x1:AV} {S:Store} {Q:PoT} (h:m187 x0 x1 S Q):ACalls Tryz.prog 187 [x0,x1] S Q :=
  calls_of_vc (fn:=Tryz.f187) (c:=c187) (n:=38) Tryz.func187 (by kernel_rfl) (by kernel_rfl) (by kernel_rfl) ms187 (Eq.mpr (by kernel_rfl) h)
def b187_0 (y1 y5 y6 y22 y23:AV) (S:Store) (KE0:KeT) (Q:PoT):Prop :=
  bin .lss 0 y23 y22 S fun v18 S=>onB v18 fun b19=>gd b19 (bin .shr 0 y1 y23 S fun v20 S=>bin .and 0 v20 (.v (.int .i64 1)) S fun v21 S=>bin .eql 0 v21 (.v (.int .i64 1)) S fun v22 S=>ixS 4 1 y6 y23 S fun v23 S=>stN 1 v23 v22 S fun v24 S=>bin .add 0 y23 (.v (.int .i64 1)) S fun v25 S=>KE0 38 (env187_0 y1 y5 y6 y22 v25) S) (ldN 2 y5 S fun v26 S=>callF Tryz.prog 154 [v26,y6] S Q fun v27 S=>Q (.ret v27) S)
theorem b187_0_eq (y1 y5 y6 y22 y23:AV) (S:Store) (KE0:KeT) (Q:PoT):vc Tryz.prog (c187.at_ [1,1,1,1,0,1,0,0]) (ms187.drop 1) (mkE 38 lv187_0 (env187_0 y1 y5 y6 y22 y23)) S (thenK (fgK lv187_0 KE0) (blockK 0 (seqK (vc Tryz.prog (c187.at_ [1,1,1,1,1]) (ms187.drop 1)) (bodyK Tryz.prog r187 Q)))) = b187_0 y1 y5 y6 y22 y23 S KE0 Q:=by kernel_rfl
theorem loop187_0 {y1 y5 y6 y22:AV} {y230:AV} {S:Store} {Q:PoT} (I:AV → Store → Prop) (μ:AV → Store → Nat) (h0:I y230 S)
    (hr:∀ (y23:AV) (S:Store),I y23 S → ∀ KE0:KeT,(∀ (y23':AV) (S':Store),I y23' S' → μ y23' S' < μ y23 S → KE0 38 (env187_0 y1 y5 y6 y22 y23') S') → b187_0 y1 y5 y6 y22 y23 S KE0 Q) :
    loopV lv187_0 (vc Tryz.prog (c187.at_ [1,1,1,1,0,1,0,0]) (ms187.drop 1)) 38 (env187_0 y1 y5 y6 y22 y230) S (blockK 0 (seqK (vc Tryz.prog (c187.at_ [1,1,1,1,1]) (ms187.drop 1)) (bodyK Tryz.prog r187 Q))):=by
  refine ⟨fun n e S=>n = 38 ∧ ∃ y23:AV,e = (env187_0 y1 y5 y6 y22 y23) ∧ I y23 S,fun _ e S=>μ (e.getD 4 .j) S,?_,?_⟩
  · exact ⟨_,_,Wk.refl _ _,rfl,_,rfl,h0⟩
  · rintro _ e S ⟨rfl,y23,rfl,hI⟩
    exact (b187_0_eq _ _ _ _ _ _ _ _).mpr (hr y23 S hI _ (fun y23' S' hI' hm=>⟨_,_,Wk.refl _ _,⟨rfl,_,rfl,hI'⟩,hm⟩))
noncomputable def c186:Code:=(Tryz.f186.body).getD .skip
def ms186:List (List Nat):=[[]]
def m186 (x0 x1:AV) (S:Store) (Q:PoT):Prop :=
  bin .geq 0 x1 (.v (.int .i64 0)) S fun v1 S=>onB v1 fun b2=>gd b2 (bin .quo 0 x1 (.v (.int .i64 2)) S fun v3 S=>lenS x0 S fun v4 S=>bin .lss 0 v3 v4 S fun v5 S=>onB v5 fun b6=>gd b6 (bin .quo 0 x1 (.v (.int .i64 2)) S fun v7 S=>ixS 4 1 x0 v7 S fun v8 S=>ld1 v8 S fun v9 S=>bin .and 0 x1 (.v (.int .i64 1)) S fun v10 S=>bin .eql 0 v10 (.v (.int .i64 1)) S fun v11 S=>bin .neq 1 v9 v11 S fun v12 S=>Q (.ret v12) S) (Q (.ret (.v (.bool false))) S)) (Q (.ret (.v (.bool false))) S)
theorem calls186 {x0 x1:AV} {S:Store} {Q:PoT} (h:m186 x0 x1 S Q):ACalls Tryz.prog 186 [x0,x1] S Q :=
  calls_of_vc (fn:=Tryz.f186) (c:=c186) (n:=25) Tryz.func186 (by kernel_rfl) (by kernel_rfl) (by kernel_rfl) ms186 (Eq.mpr (by kernel_rfl) h)
noncomputable def c171:Code:=(Tryz.f171.body).getD .skip
def ms171:List (List Nat):=[[]]
def m171 (x0 x1 x2:AV) (S:Store) (Q:PoT):Prop :=
  boxN 42 8 x0 S fun v1 S=>ldN 8 v1 S fun v2 S=>callF Tryz.prog 187 [v2,x1] S Q fun v3 S=>callF Tryz.prog 186 [v3,x2] S Q fun v4 S=>Q (.ret v4) S
theorem calls171 {x0 x1 x2:AV} {S:Store} {Q:PoT} (h:m171 x0 x1 x2 S Q):ACalls Tryz.prog 171 [x0,x1,x2] S Q :=
  calls_of_vc (fn:=Tryz.f171) (c:=c171) (n:=12) Tryz.func171 (by kernel_rfl) (by kernel_rfl) (by kernel_rfl) ms171 (Eq.mpr (by kernel_rfl) h)
noncomputable def c86:Code:=(Tryz.f86.body).getD .skip
def ms86:List (List Nat):=[[]]
def m86 (x0 x1:AV) (S:Store) (Q:PoT):Prop :=
  boxN 24 4 x0 S fun v1 S=>boxN 134 1 x1 S fun v2 S=>shift v1 0 S fun v3 S=>ld1 v3 S fun v4 S=>bin .neq 0 v4 (.v (.int .i64 3)) S fun v5 S=>onB v5 fun b6=>gd b6 (shift v1 3 S fun v7 S=>ld1 v7 S fun v8 S=>callF Tryz.prog 72 [v8,(.f (.func 134) [] [v2])] S Q fun v9 S=>un .not v9 S fun v10 S=>Q (.ret v10) S) (ld1 v2 S fun v11 S=>shift v1 2 S fun v12 S=>ld1 v12 S fun v13 S=>callV Tryz.prog v11 [v13] S (fun v14 S=>onB v14 fun b15=>gd b15 (shift v1 3 S fun v16 S=>ld1 v16 S fun v17 S=>callF Tryz.prog 72 [v17,(.f (.func 134) [] [v2])] S Q fun v18 S=>un .not v18 S fun v19 S=>Q (.ret v19) S) (Q (.ret (.v (.bool false))) S)) (fun u S=>Q (.pan u) S))
theorem calls86 {x0 x1:AV} {S:Store} {Q:PoT} (h:m86 x0 x1 S Q):ACalls Tryz.prog 86 [x0,x1] S Q :=
  calls_of_vc (fn:=Tryz.f86) (c:=c86) (n:=23) Tryz.func86 (by kernel_rfl) (by kernel_rfl) (by kernel_rfl) ms86 (Eq.mpr (by kernel_rfl) h)
noncomputable def c134:Code:=(Tryz.f134.body).getD .skip
def ms134:List (List Nat):=[[]]
def m134 (x0 x1:AV) (S:Store) (Q:PoT):Prop :=
  boxN 24 4 x0 S fun v1 S=>ldN 4 v1 S fun v2 S=>ld1 x1 S fun v3 S=>callF Tryz.prog 86 [v2,v3] S Q fun v4 S=>un .not v4 S fun v5 S=>Q (.ret v5) S
theorem calls134 {x0 x1:AV} {S:Store} {Q:PoT} (h:m134 x0 x1 S Q):ACalls Tryz.prog 134 [x0,x1] S Q :=
  calls_of_vc (fn:=Tryz.f134) (c:=c134) (n:=8) Tryz.func134 (by kernel_rfl) (by kernel_rfl) (by kernel_rfl) ms134 (Eq.mpr (by kernel_rfl) h)
noncomputable def c52:Code:=(Tryz.f52.body).getD .skip
def ms52:List (List Nat):=[[]]
def m52 (x0 x1:AV) (S:Store) (Q:PoT):Prop :=
  boxN 42 8 x0 S fun v1 S=>boxN 24 4 x1 S fun v2 S=>ldN 8 v1 S fun v3 S=>callF Tryz.prog 84 [v3] S Q fun v4 S=>boxN 82 2 (.a [(.v (.int .i64 0)),.nl]) S fun v5 S=>stN 2 v5 v4 S fun v6 S=>ldN 8 v1 S fun v7 S=>callF Tryz.prog 85 [v7] S Q fun v8 S=>onB v8 fun b9=>gd b9 (ldN 4 v2 S fun v10 S=>callF Tryz.prog 43 [v10,(.v (.int .i64 60))] S Q fun v11 S=>onB v11 fun b12=>gd b12 (ldN 4 v2 S fun v13 S=>callF Tryz.prog 86 [v13,(.f (.func 87) [] [v5])] S Q fun v14 S=>Q (.ret v14) S) (Q (.ret (.v (.bool false))) S)) (Q (.ret (.v (.bool false))) S)
theorem calls52 {x0 x1:AV} {S:Store} {Q:PoT} (h:m52 x0 x1 S Q):ACalls Tryz.prog 52 [x0,x1] S Q :=
  calls_of_vc (fn:=Tryz.f52) (c:=c52) (n:=19) Tryz.func52 (by kernel_rfl) (by kernel_rfl) (by kernel_rfl) ms52 (Eq.mpr (by kernel_rfl) h)
noncomputable def c87:Code:=(Tryz.f87.body).getD .skip
def ms87:List (List Nat):=[[]]
def m87 (x0 x1:AV) (S:Store) (Q:PoT):Prop :=
  ldN 2 x1 S fun v1 S=>callF Tryz.prog 88 [v1,x0] S Q fun v2 S=>Q (.ret v2) S
theorem calls87 {x0 x1:AV} {S:Store} {Q:PoT} (h:m87 x0 x1 S Q):ACalls Tryz.prog 87 [x0,x1] S Q :=
  calls_of_vc (fn:=Tryz.f87) (c:=c87) (n:=7) Tryz.func87 (by kernel_rfl) (by kernel_rfl) (by kernel_rfl) ms87 (Eq.mpr (by kernel_rfl) h)
noncomputable def c71:Code:=(Tryz.f71.body).getD .skip
def ms71:List (List Nat):=[[]]
def m71 (x0:AV) (S:Store) (Q:PoT):Prop :=
  bin .lss 0 x0 (.v (.int .i64 1)) S fun v1 S=>onB v1 fun b2=>gd b2 (Q (.ret (.v (.int .i64 (-1)))) S) (bin .gtr 0 x0 (.v (.int .i64 18)) S fun v3 S=>onB v3 fun b4=>gd b4 (Q (.ret (.v (.int .i64 (-1)))) S) (bin .leq 0 x0 (.v (.int .i64 3)) S fun v5 S=>onB v5 fun b6=>gd b6 (Q (.ret (.v (.int .i64 0))) S) (bin .eql 0 x0 (.v (.int .i64 4)) S fun v7 S=>onB v7 fun b8=>gd b8 (Q (.ret (.v (.int .i64 1))) S) (bin .geq 0 x0 (.v (.int .i64 9)) S fun v9 S=>onB v9 fun b10=>gd b10 (bin .leq 0 x0 (.v (.int .i64 14)) S fun v11 S=>onB v11 fun b12=>gd b12 (Q (.ret (.v (.int .i64 1))) S) (Q (.ret (.v (.int .i64 2))) S)) (Q (.ret (.v (.int .i64 2))) S)))))
theorem calls71 {x0:AV} {S:Store} {Q:PoT} (h:m71 x0 S Q):ACalls Tryz.prog 71 [x0] S Q :=
  calls_of_vc (fn:=Tryz.f71) (c:=c71) (n:=24) Tryz.func71 (by kernel_rfl) (by kernel_rfl) (by kernel_rfl) ms71 (Eq.mpr (by kernel_rfl) h)
noncomputable def c64:Code:=(Tryz.f64.body).getD .skip
def ms64:List (List Nat):=[[]]
def m64 (x0:AV) (S:Store) (Q:PoT):Prop :=
  bin .lss 0 x0 (.v (.int .i64 1)) S fun v1 S=>onB v1 fun b2=>gd b2 (Q (.ret (.v (.int .i64 (-1)))) S) (bin .gtr 0 x0 (.v (.int .i64 18)) S fun v3 S=>onB v3 fun b4=>gd b4 (Q (.ret (.v (.int .i64 (-1)))) S) (bin .leq 0 x0 (.v (.int .i64 3)) S fun v5 S=>onB v5 fun b6=>gd b6 (Q (.ret (.v (.int .i64 0))) S) (bin .eql 0 x0 (.v (.int .i64 4)) S fun v7 S=>onB v7 fun b8=>gd b8 (Q (.ret (.v (.int .i64 1))) S) (bin .geq 0 x0 (.v (.int .i64 9)) S fun v9 S=>onB v9 fun b10=>gd b10 (bin .leq 0 x0 (.v (.int .i64 14)) S fun v11 S=>onB v11 fun b12=>gd b12 (Q (.ret (.v (.int .i64 1))) S) (Q (.ret (.v (.int .i64 2))) S)) (Q (.ret (.v (.int .i64 2))) S)))))
theorem calls64 {x0:AV} {S:Store} {Q:PoT} (h:m64 x0 S Q):ACalls Tryz.prog 64 [x0] S Q :=
  calls_of_vc (fn:=Tryz.f64) (c:=c64) (n:=24) Tryz.func64 (by kernel_rfl) (by kernel_rfl) (by kernel_rfl) ms64 (Eq.mpr (by kernel_rfl) h)
noncomputable def c119:Code:=(Tryz.f119.body).getD .skip
noncomputable def r119:List ResultVar:=Tryz.f119.results.toList
def env119_0 (y0 y1 y7 y8:AV):List AV:=[y0,y1,y7,y8]
def lv119_0:List Nat:=[0,1,7,8]
def ms119:List (List Nat):=[lv119_0,[]]
def m119 (x0 x1:AV) (S:Store) (Q:PoT):Prop :=
  lenS x0 S fun v1 S=>loopV lv119_0 (vc Tryz.prog (c119.at_ [1,0,1,0,0]) (ms119.drop 1)) 19 (env119_0 x0 x1 v1 (.v (.int .i64 0))) S (blockK 0 (seqK (vc Tryz.prog (c119.at_ [1,1]) (ms119.drop 1)) (bodyK Tryz.prog r119 Q)))
theorem calls119 {x0 x1:AV} {S:Store} {Q:PoT} (h:m119 x0 x1 S Q):ACalls Tryz.prog 119 [x0,x1] S Q :=
  calls_of_vc (fn:=Tryz.f119) (c:=c119) (n:=19) Tryz.func119 (by kernel_rfl) (by kernel_rfl) (by kernel_rfl) ms119 (Eq.mpr (by kernel_rfl) h)
def b119_0 (y0 y1 y7 y8:AV) (S:Store) (KE0:KeT) (Q:PoT):Prop :=
  bin .lss 0 y8 y7 S fun v2 S=>onB v2 fun b3=>gd b3 (ixS 24 4 y0 y8 S fun v4 S=>ldN 4 v4 S fun v5 S=>callV Tryz.prog y1 [v5] S (fun v6 S=>onB v6 fun b7=>gd b7 (Q (.ret y8) S) (bin .add 0 y8 (.v (.int .i64 1)) S fun v8 S=>KE0 19 (env119_0 y0 y1 y7 v8) S)) (fun u S=>Q (.pan u) S)) (Q (.ret (.v (.int .i64 (-1)))) S)
theorem b119_0_eq (y0 y1 y7 y8:AV) (S:Store) (KE0:KeT) (Q:PoT):vc Tryz.prog (c119.at_ [1,0,1,0,0]) (ms119.drop 1) (mkE 19 lv119_0 (env119_0 y0 y1 y7 y8)) S (thenK (fgK lv119_0 KE0) (blockK 0 (seqK (vc Tryz.prog (c119.at_ [1,1]) (ms119.drop 1)) (bodyK Tryz.prog r119 Q)))) = b119_0 y0 y1 y7 y8 S KE0 Q:=by kernel_rfl
theorem loop119_0 {y0 y1 y7:AV} {y80:AV} {S:Store} {Q:PoT} (I:AV → Store → Prop) (μ:AV → Store → Nat) (h0:I y80 S)
    (hr:∀ (y8:AV) (S:Store),I y8 S → ∀ KE0:KeT,(∀ (y8':AV) (S':Store),I y8' S' → μ y8' S' < μ y8 S → KE0 19 (env119_0 y0 y1 y7 y8') S') → b119_0 y0 y1 y7 y8 S KE0 Q) :
    loopV lv119_0 (vc Tryz.prog (c119.at_ [1,0,1,0,0]) (ms119.drop 1)) 19 (env119_0 y0 y1 y7 y80) S (blockK 0 (seqK (vc Tryz.prog (c119.at_ [1,1]) (ms119.drop 1)) (bodyK Tryz.prog r119 Q))):=by
  refine ⟨fun n e S=>n = 19 ∧ ∃ y8:AV,e = (env119_0 y0 y1 y7 y8) ∧ I y8 S,fun _ e S=>μ (e.getD 3 .j) S,?_,?_⟩
  · exact ⟨_,_,Wk.refl _ _,rfl,_,rfl,h0⟩
  · rintro _ e S ⟨rfl,y8,rfl,hI⟩
    exact (b119_0_eq _ _ _ _ _ _ _).mpr (hr y8 S hI _ (fun y8' S' hI' hm=>⟨_,_,Wk.refl _ _,⟨rfl,_,rfl,hI'⟩,hm⟩))
noncomputable def c72:Code:=(Tryz.f72.body).getD .skip
def ms72:List (List Nat):=[[]]
def m72 (x0 x1:AV) (S:Store) (Q:PoT):Prop :=
  callF Tryz.prog 119 [x0,x1] S Q fun v1 S=>bin .geq 0 v1 (.v (.int .i64 0)) S fun v2 S=>Q (.ret v2) S
theorem calls72 {x0 x1:AV} {S:Store} {Q:PoT} (h:m72 x0 x1 S Q):ACalls Tryz.prog 72 [x0,x1] S Q :=
  calls_of_vc (fn:=Tryz.f72) (c:=c72) (n:=9) Tryz.func72 (by kernel_rfl) (by kernel_rfl) (by kernel_rfl) ms72 (Eq.mpr (by kernel_rfl) h)
noncomputable def c70:Code:=(Tryz.f70.body).getD .skip
def ms70:List (List Nat):=[[]]
def m70 (x0 x1:AV) (S:Store) (Q:PoT):Prop :=
  boxN 24 4 x0 S fun v1 S=>ldN 4 v1 S fun v2 S=>ld1 x1 S fun v3 S=>bin .sub 0 v3 (.v (.int .i64 1)) S fun v4 S=>callF Tryz.prog 43 [v2,v4] S Q fun v5 S=>un .not v5 S fun v6 S=>Q (.ret v6) S
theorem calls70 {x0 x1:AV} {S:Store} {Q:PoT} (h:m70 x0 x1 S Q):ACalls Tryz.prog 70 [x0,x1] S Q :=
  calls_of_vc (fn:=Tryz.f70) (c:=c70) (n:=9) Tryz.func70 (by kernel_rfl) (by kernel_rfl) (by kernel_rfl) ms70 (Eq.mpr (by kernel_rfl) h)
noncomputable def c43:Code:=(Tryz.f43.body).getD .skip
def ms43:List (List Nat):=[[]]
def m43 (x0 x1:AV) (S:Store) (Q:PoT):Prop :=
  boxN 24 4 x0 S fun v1 S=>boxN 3 1 x1 S fun v2 S=>shift v1 2 S fun v3 S=>ld1 v3 S fun v4 S=>bin .eql 0 v4 (.v (.int .i64 0)) S fun v5 S=>onB v5 fun b6=>gd b6 ((fun S0:Store=>∃ q7:AV,(ld1 v2 S fun v8 S=>v8 = q7 ∧ S = S0) ∧ ∃ q9:AV,(bin .gtr 0 q7 (.v (.int .i64 0)) S fun v10 S=>v10 = q9 ∧ S = S0) ∧ onB q9 fun b11=>gd b11 (∃ q12:AV,((.v (.bool true)) = q12 ∧ S = S0) ∧ onB q12 fun b13=>gd b13 (∃ q14:AV,(shift v1 1 S fun v15 S=>v15 = q14 ∧ S = S0) ∧ ∃ q16:AV,(ld1 q14 S fun v17 S=>v17 = q16 ∧ S = S0) ∧ ∃ q18:AV,(bin .eql 0 q16 (.v (.string { data:=#[] })) S fun v19 S=>v19 = q18 ∧ S = S0) ∧ ∃ q20:AV,(q18 = q20 ∧ S = S0) ∧ onB q20 fun b21=>gd b21 (∃ q22:AV,(shift v1 3 S fun v23 S=>v23 = q22 ∧ S = S0) ∧ ∃ q24:AV,(ld1 q22 S fun v25 S=>v25 = q24 ∧ S = S0) ∧ ∃ q26:AV,(lenS q24 S fun v27 S=>v27 = q26 ∧ S = S0) ∧ ∃ q28:AV,(shift v1 0 S fun v29 S=>v29 = q28 ∧ S = S0) ∧ ∃ q30:AV,(ld1 q28 S fun v31 S=>v31 = q30 ∧ S = S0) ∧ ∃ q32:AV,(callF Tryz.prog 71 [q30] S (fun _ _=>False) fun v33 S=>v33 = q32 ∧ S = S0) ∧ ∃ q34:AV,(bin .eql 0 q26 q32 S fun v35 S=>v35 = q34 ∧ S = S0) ∧ ∃ q36:AV,(q34 = q36 ∧ S = S0) ∧ onB q36 fun b37=>gd b37 (∃ q38:AV,(shift v1 3 S fun v39 S=>v39 = q38 ∧ S = S0) ∧ ∃ q40:AV,(ld1 q38 S fun v41 S=>v41 = q40 ∧ S = S0) ∧ ∃ q42:AV,(callF Tryz.prog 72 [q40,(.f (.func 70) [] [v2])] S (fun _ _=>False) fun v43 S=>v43 = q42 ∧ S = S0) ∧ ∃ q44:AV,(un .not q42 S fun v45 S=>v45 = q44 ∧ S = S0) ∧ ∃ q46:AV,(q44 = q46 ∧ S = S0) ∧ Q (.ret q46) S) (∃ q47:AV,((.v (.bool false)) = q47 ∧ S = S0) ∧ Q (.ret q47) S)) (∃ q48:AV,((.v (.bool false)) = q48 ∧ S = S0) ∧ onB q48 fun b49=>gd b49 (∃ q50:AV,(shift v1 3 S fun v51 S=>v51 = q50 ∧ S = S0) ∧ ∃ q52:AV,(ld1 q50 S fun v53 S=>v53 = q52 ∧ S = S0) ∧ ∃ q54:AV,(callF Tryz.prog 72 [q52,(.f (.func 70) [] [v2])] S (fun _ _=>False) fun v55 S=>v55 = q54 ∧ S = S0) ∧ ∃ q56:AV,(un .not q54 S fun v57 S=>v57 = q56 ∧ S = S0) ∧ ∃ q58:AV,(q56 = q58 ∧ S = S0) ∧ Q (.ret q58) S) (∃ q59:AV,((.v (.bool false)) = q59 ∧ S = S0) ∧ Q (.ret q59) S))) (∃ q60:AV,((.v (.bool false)) = q60 ∧ S = S0) ∧ onB q60 fun b61=>gd b61 (∃ q62:AV,(shift v1 3 S fun v63 S=>v63 = q62 ∧ S = S0) ∧ ∃ q64:AV,(ld1 q62 S fun v65 S=>v65 = q64 ∧ S = S0) ∧ ∃ q66:AV,(lenS q64 S fun v67 S=>v67 = q66 ∧ S = S0) ∧ ∃ q68:AV,(shift v1 0 S fun v69 S=>v69 = q68 ∧ S = S0) ∧ ∃ q70:AV,(ld1 q68 S fun v71 S=>v71 = q70 ∧ S = S0) ∧ ∃ q72:AV,(callF Tryz.prog 71 [q70] S (fun _ _=>False) fun v73 S=>v73 = q72 ∧ S = S0) ∧ ∃ q74:AV,(bin .eql 0 q66 q72 S fun v75 S=>v75 = q74 ∧ S = S0) ∧ ∃ q76:AV,(q74 = q76 ∧ S = S0) ∧ onB q76 fun b77=>gd b77 (∃ q78:AV,(shift v1 3 S fun v79 S=>v79 = q78 ∧ S = S0) ∧ ∃ q80:AV,(ld1 q78 S fun v81 S=>v81 = q80 ∧ S = S0) ∧ ∃ q82:AV,(callF Tryz.prog 72 [q80,(.f (.func 70) [] [v2])] S (fun _ _=>False) fun v83 S=>v83 = q82 ∧ S = S0) ∧ ∃ q84:AV,(un .not q82 S fun v85 S=>v85 = q84 ∧ S = S0) ∧ ∃ q86:AV,(q84 = q86 ∧ S = S0) ∧ Q (.ret q86) S) (∃ q87:AV,((.v (.bool false)) = q87 ∧ S = S0) ∧ Q (.ret q87) S)) (∃ q88:AV,((.v (.bool false)) = q88 ∧ S = S0) ∧ onB q88 fun b89=>gd b89 (∃ q90:AV,(shift v1 3 S fun v91 S=>v91 = q90 ∧ S = S0) ∧ ∃ q92:AV,(ld1 q90 S fun v93 S=>v93 = q92 ∧ S = S0) ∧ ∃ q94:AV,(callF Tryz.prog 72 [q92,(.f (.func 70) [] [v2])] S (fun _ _=>False) fun v95 S=>v95 = q94 ∧ S = S0) ∧ ∃ q96:AV,(un .not q94 S fun v97 S=>v97 = q96 ∧ S = S0) ∧ ∃ q98:AV,(q96 = q98 ∧ S = S0) ∧ Q (.ret q98) S) (∃ q99:AV,((.v (.bool false)) = q99 ∧ S = S0) ∧ Q (.ret q99) S)))) (∃ q100:AV,((.v (.bool false)) = q100 ∧ S = S0) ∧ onB q100 fun b101=>gd b101 (∃ q102:AV,(shift v1 1 S fun v103 S=>v103 = q102 ∧ S = S0) ∧ ∃ q104:AV,(ld1 q102 S fun v105 S=>v105 = q104 ∧ S = S0) ∧ ∃ q106:AV,(bin .eql 0 q104 (.v (.string { data:=#[] })) S fun v107 S=>v107 = q106 ∧ S = S0) ∧ ∃ q108:AV,(q106 = q108 ∧ S = S0) ∧ onB q108 fun b109=>gd b109 (∃ q110:AV,(shift v1 3 S fun v111 S=>v111 = q110 ∧ S = S0) ∧ ∃ q112:AV,(ld1 q110 S fun v113 S=>v113 = q112 ∧ S = S0) ∧ ∃ q114:AV,(lenS q112 S fun v115 S=>v115 = q114 ∧ S = S0) ∧ ∃ q116:AV,(shift v1 0 S fun v117 S=>v117 = q116 ∧ S = S0) ∧ ∃ q118:AV,(ld1 q116 S fun v119 S=>v119 = q118 ∧ S = S0) ∧ ∃ q120:AV,(callF Tryz.prog 71 [q118] S (fun _ _=>False) fun v121 S=>v121 = q120 ∧ S = S0) ∧ ∃ q122:AV,(bin .eql 0 q114 q120 S fun v123 S=>v123 = q122 ∧ S = S0) ∧ ∃ q124:AV,(q122 = q124 ∧ S = S0) ∧ onB q124 fun b125=>gd b125 (∃ q126:AV,(shift v1 3 S fun v127 S=>v127 = q126 ∧ S = S0) ∧ ∃ q128:AV,(ld1 q126 S fun v129 S=>v129 = q128 ∧ S = S0) ∧ ∃ q130:AV,(callF Tryz.prog 72 [q128,(.f (.func 70) [] [v2])] S (fun _ _=>False) fun v131 S=>v131 = q130 ∧ S = S0) ∧ ∃ q132:AV,(un .not q130 S fun v133 S=>v133 = q132 ∧ S = S0) ∧ ∃ q134:AV,(q132 = q134 ∧ S = S0) ∧ Q (.ret q134) S) (∃ q135:AV,((.v (.bool false)) = q135 ∧ S = S0) ∧ Q (.ret q135) S)) (∃ q136:AV,((.v (.bool false)) = q136 ∧ S = S0) ∧ onB q136 fun b137=>gd b137 (∃ q138:AV,(shift v1 3 S fun v139 S=>v139 = q138 ∧ S = S0) ∧ ∃ q140:AV,(ld1 q138 S fun v141 S=>v141 = q140 ∧ S = S0) ∧ ∃ q142:AV,(callF Tryz.prog 72 [q140,(.f (.func 70) [] [v2])] S (fun _ _=>False) fun v143 S=>v143 = q142 ∧ S = S0) ∧ ∃ q144:AV,(un .not q142 S fun v145 S=>v145 = q144 ∧ S = S0) ∧ ∃ q146:AV,(q144 = q146 ∧ S = S0) ∧ Q (.ret q146) S) (∃ q147:AV,((.v (.bool false)) = q147 ∧ S = S0) ∧ Q (.ret q147) S))) (∃ q148:AV,((.v (.bool false)) = q148 ∧ S = S0) ∧ onB q148 fun b149=>gd b149 (∃ q150:AV,(shift v1 3 S fun v151 S=>v151 = q150 ∧ S = S0) ∧ ∃ q152:AV,(ld1 q150 S fun v153 S=>v153 = q152 ∧ S = S0) ∧ ∃ q154:AV,(lenS q152 S fun v155 S=>v155 = q154 ∧ S = S0) ∧ ∃ q156:AV,(shift v1 0 S fun v157 S=>v157 = q156 ∧ S = S0) ∧ ∃ q158:AV,(ld1 q156 S fun v159 S=>v159 = q158 ∧ S = S0) ∧ ∃ q160:AV,(callF Tryz.prog 71 [q158] S (fun _ _=>False) fun v161 S=>v161 = q160 ∧ S = S0) ∧ ∃ q162:AV,(bin .eql 0 q154 q160 S fun v163 S=>v163 = q162 ∧ S = S0) ∧ ∃ q164:AV,(q162 = q164 ∧ S = S0) ∧ onB q164 fun b165=>gd b165 (∃ q166:AV,(shift v1 3 S fun v167 S=>v167 = q166 ∧ S = S0) ∧ ∃ q168:AV,(ld1 q166 S fun v169 S=>v169 = q168 ∧ S = S0) ∧ ∃ q170:AV,(callF Tryz.prog 72 [q168,(.f (.func 70) [] [v2])] S (fun _ _=>False) fun v171 S=>v171 = q170 ∧ S = S0) ∧ ∃ q172:AV,(un .not q170 S fun v173 S=>v173 = q172 ∧ S = S0) ∧ ∃ q174:AV,(q172 = q174 ∧ S = S0) ∧ Q (.ret q174) S) (∃ q175:AV,((.v (.bool false)) = q175 ∧ S = S0) ∧ Q (.ret q175) S)) (∃ q176:AV,((.v (.bool false)) = q176 ∧ S = S0) ∧ onB q176 fun b177=>gd b177 (∃ q178:AV,(shift v1 3 S fun v179 S=>v179 = q178 ∧ S = S0) ∧ ∃ q180:AV,(ld1 q178 S fun v181 S=>v181 = q180 ∧ S = S0) ∧ ∃ q182:AV,(callF Tryz.prog 72 [q180,(.f (.func 70) [] [v2])] S (fun _ _=>False) fun v183 S=>v183 = q182 ∧ S = S0) ∧ ∃ q184:AV,(un .not q182 S fun v185 S=>v185 = q184 ∧ S = S0) ∧ ∃ q186:AV,(q184 = q186 ∧ S = S0) ∧ Q (.ret q186) S) (∃ q187:AV,((.v (.bool false)) = q187 ∧ S = S0) ∧ Q (.ret q187) S))))) S) (shift v1 2 S fun v188 S=>ld1 v188 S fun v189 S=>bin .gtr 0 v189 (.v (.int .i64 0)) S fun v190 S=>onB v190 fun b191=>gd b191 (shift v1 0 S fun v192 S=>ld1 v192 S fun v193 S=>bin .eql 0 v193 (.v (.int .i64 3)) S fun v194 S=>(fun S0:Store=>∃ q195:AV,(ld1 v2 S fun v196 S=>v196 = q195 ∧ S = S0) ∧ ∃ q197:AV,(bin .gtr 0 q195 (.v (.int .i64 0)) S fun v198 S=>v198 = q197 ∧ S = S0) ∧ onB q197 fun b199=>gd b199 (∃ q200:AV,(v194 = q200 ∧ S = S0) ∧ onB q200 fun b201=>gd b201 (∃ q202:AV,(shift v1 1 S fun v203 S=>v203 = q202 ∧ S = S0) ∧ ∃ q204:AV,(ld1 q202 S fun v205 S=>v205 = q204 ∧ S = S0) ∧ ∃ q206:AV,(bin .eql 0 q204 (.v (.string { data:=#[] })) S fun v207 S=>v207 = q206 ∧ S = S0) ∧ ∃ q208:AV,(q206 = q208 ∧ S = S0) ∧ onB q208 fun b209=>gd b209 (∃ q210:AV,(shift v1 3 S fun v211 S=>v211 = q210 ∧ S = S0) ∧ ∃ q212:AV,(ld1 q210 S fun v213 S=>v213 = q212 ∧ S = S0) ∧ ∃ q214:AV,(lenS q212 S fun v215 S=>v215 = q214 ∧ S = S0) ∧ ∃ q216:AV,(shift v1 0 S fun v217 S=>v217 = q216 ∧ S = S0) ∧ ∃ q218:AV,(ld1 q216 S fun v219 S=>v219 = q218 ∧ S = S0) ∧ ∃ q220:AV,(callF Tryz.prog 71 [q218] S (fun _ _=>False) fun v221 S=>v221 = q220 ∧ S = S0) ∧ ∃ q222:AV,(bin .eql 0 q214 q220 S fun v223 S=>v223 = q222 ∧ S = S0) ∧ ∃ q224:AV,(q222 = q224 ∧ S = S0) ∧ onB q224 fun b225=>gd b225 (∃ q226:AV,(shift v1 3 S fun v227 S=>v227 = q226 ∧ S = S0) ∧ ∃ q228:AV,(ld1 q226 S fun v229 S=>v229 = q228 ∧ S = S0) ∧ ∃ q230:AV,(callF Tryz.prog 72 [q228,(.f (.func 70) [] [v2])] S (fun _ _=>False) fun v231 S=>v231 = q230 ∧ S = S0) ∧ ∃ q232:AV,(un .not q230 S fun v233 S=>v233 = q232 ∧ S = S0) ∧ ∃ q234:AV,(q232 = q234 ∧ S = S0) ∧ Q (.ret q234) S) (∃ q235:AV,((.v (.bool false)) = q235 ∧ S = S0) ∧ Q (.ret q235) S)) (∃ q236:AV,((.v (.bool false)) = q236 ∧ S = S0) ∧ onB q236 fun b237=>gd b237 (∃ q238:AV,(shift v1 3 S fun v239 S=>v239 = q238 ∧ S = S0) ∧ ∃ q240:AV,(ld1 q238 S fun v241 S=>v241 = q240 ∧ S = S0) ∧ ∃ q242:AV,(callF Tryz.prog 72 [q240,(.f (.func 70) [] [v2])] S (fun _ _=>False) fun v243 S=>v243 = q242 ∧ S = S0) ∧ ∃ q244:AV,(un .not q242 S fun v245 S=>v245 = q244 ∧ S = S0) ∧ ∃ q246:AV,(q244 = q246 ∧ S = S0) ∧ Q (.ret q246) S) (∃ q247:AV,((.v (.bool false)) = q247 ∧ S = S0) ∧ Q (.ret q247) S))) (∃ q248:AV,((.v (.bool false)) = q248 ∧ S = S0) ∧ onB q248 fun b249=>gd b249 (∃ q250:AV,(shift v1 3 S fun v251 S=>v251 = q250 ∧ S = S0) ∧ ∃ q252:AV,(ld1 q250 S fun v253 S=>v253 = q252 ∧ S = S0) ∧ ∃ q254:AV,(lenS q252 S fun v255 S=>v255 = q254 ∧ S = S0) ∧ ∃ q256:AV,(shift v1 0 S fun v257 S=>v257 = q256 ∧ S = S0) ∧ ∃ q258:AV,(ld1 q256 S fun v259 S=>v259 = q258 ∧ S = S0) ∧ ∃ q260:AV,(callF Tryz.prog 71 [q258] S (fun _ _=>False) fun v261 S=>v261 = q260 ∧ S = S0) ∧ ∃ q262:AV,(bin .eql 0 q254 q260 S fun v263 S=>v263 = q262 ∧ S = S0) ∧ ∃ q264:AV,(q262 = q264 ∧ S = S0) ∧ onB q264 fun b265=>gd b265 (∃ q266:AV,(shift v1 3 S fun v267 S=>v267 = q266 ∧ S = S0) ∧ ∃ q268:AV,(ld1 q266 S fun v269 S=>v269 = q268 ∧ S = S0) ∧ ∃ q270:AV,(callF Tryz.prog 72 [q268,(.f (.func 70) [] [v2])] S (fun _ _=>False) fun v271 S=>v271 = q270 ∧ S = S0) ∧ ∃ q272:AV,(un .not q270 S fun v273 S=>v273 = q272 ∧ S = S0) ∧ ∃ q274:AV,(q272 = q274 ∧ S = S0) ∧ Q (.ret q274) S) (∃ q275:AV,((.v (.bool false)) = q275 ∧ S = S0) ∧ Q (.ret q275) S)) (∃ q276:AV,((.v (.bool false)) = q276 ∧ S = S0) ∧ onB q276 fun b277=>gd b277 (∃ q278:AV,(shift v1 3 S fun v279 S=>v279 = q278 ∧ S = S0) ∧ ∃ q280:AV,(ld1 q278 S fun v281 S=>v281 = q280 ∧ S = S0) ∧ ∃ q282:AV,(callF Tryz.prog 72 [q280,(.f (.func 70) [] [v2])] S (fun _ _=>False) fun v283 S=>v283 = q282 ∧ S = S0) ∧ ∃ q284:AV,(un .not q282 S fun v285 S=>v285 = q284 ∧ S = S0) ∧ ∃ q286:AV,(q284 = q286 ∧ S = S0) ∧ Q (.ret q286) S) (∃ q287:AV,((.v (.bool false)) = q287 ∧ S = S0) ∧ Q (.ret q287) S)))) (∃ q288:AV,((.v (.bool false)) = q288 ∧ S = S0) ∧ onB q288 fun b289=>gd b289 (∃ q290:AV,(shift v1 1 S fun v291 S=>v291 = q290 ∧ S = S0) ∧ ∃ q292:AV,(ld1 q290 S fun v293 S=>v293 = q292 ∧ S = S0) ∧ ∃ q294:AV,(bin .eql 0 q292 (.v (.string { data:=#[] })) S fun v295 S=>v295 = q294 ∧ S = S0) ∧ ∃ q296:AV,(q294 = q296 ∧ S = S0) ∧ onB q296 fun b297=>gd b297 (∃ q298:AV,(shift v1 3 S fun v299 S=>v299 = q298 ∧ S = S0) ∧ ∃ q300:AV,(ld1 q298 S fun v301 S=>v301 = q300 ∧ S = S0) ∧ ∃ q302:AV,(lenS q300 S fun v303 S=>v303 = q302 ∧ S = S0) ∧ ∃ q304:AV,(shift v1 0 S fun v305 S=>v305 = q304 ∧ S = S0) ∧ ∃ q306:AV,(ld1 q304 S fun v307 S=>v307 = q306 ∧ S = S0) ∧ ∃ q308:AV,(callF Tryz.prog 71 [q306] S (fun _ _=>False) fun v309 S=>v309 = q308 ∧ S = S0) ∧ ∃ q310:AV,(bin .eql 0 q302 q308 S fun v311 S=>v311 = q310 ∧ S = S0) ∧ ∃ q312:AV,(q310 = q312 ∧ S = S0) ∧ onB q312 fun b313=>gd b313 (∃ q314:AV,(shift v1 3 S fun v315 S=>v315 = q314 ∧ S = S0) ∧ ∃ q316:AV,(ld1 q314 S fun v317 S=>v317 = q316 ∧ S = S0) ∧ ∃ q318:AV,(callF Tryz.prog 72 [q316,(.f (.func 70) [] [v2])] S (fun _ _=>False) fun v319 S=>v319 = q318 ∧ S = S0) ∧ ∃ q320:AV,(un .not q318 S fun v321 S=>v321 = q320 ∧ S = S0) ∧ ∃ q322:AV,(q320 = q322 ∧ S = S0) ∧ Q (.ret q322) S) (∃ q323:AV,((.v (.bool false)) = q323 ∧ S = S0) ∧ Q (.ret q323) S)) (∃ q324:AV,((.v (.bool false)) = q324 ∧ S = S0) ∧ onB q324 fun b325=>gd b325 (∃ q326:AV,(shift v1 3 S fun v327 S=>v327 = q326 ∧ S = S0) ∧ ∃ q328:AV,(ld1 q326 S fun v329 S=>v329 = q328 ∧ S = S0) ∧ ∃ q330:AV,(callF Tryz.prog 72 [q328,(.f (.func 70) [] [v2])] S (fun _ _=>False) fun v331 S=>v331 = q330 ∧ S = S0) ∧ ∃ q332:AV,(un .not q330 S fun v333 S=>v333 = q332 ∧ S = S0) ∧ ∃ q334:AV,(q332 = q334 ∧ S = S0) ∧ Q (.ret q334) S) (∃ q335:AV,((.v (.bool false)) = q335 ∧ S = S0) ∧ Q (.ret q335) S))) (∃ q336:AV,((.v (.bool false)) = q336 ∧ S = S0) ∧ onB q336 fun b337=>gd b337 (∃ q338:AV,(shift v1 3 S fun v339 S=>v339 = q338 ∧ S = S0) ∧ ∃ q340:AV,(ld1 q338 S fun v341 S=>v341 = q340 ∧ S = S0) ∧ ∃ q342:AV,(lenS q340 S fun v343 S=>v343 = q342 ∧ S = S0) ∧ ∃ q344:AV,(shift v1 0 S fun v345 S=>v345 = q344 ∧ S = S0) ∧ ∃ q346:AV,(ld1 q344 S fun v347 S=>v347 = q346 ∧ S = S0) ∧ ∃ q348:AV,(callF Tryz.prog 71 [q346] S (fun _ _=>False) fun v349 S=>v349 = q348 ∧ S = S0) ∧ ∃ q350:AV,(bin .eql 0 q342 q348 S fun v351 S=>v351 = q350 ∧ S = S0) ∧ ∃ q352:AV,(q350 = q352 ∧ S = S0) ∧ onB q352 fun b353=>gd b353 (∃ q354:AV,(shift v1 3 S fun v355 S=>v355 = q354 ∧ S = S0) ∧ ∃ q356:AV,(ld1 q354 S fun v357 S=>v357 = q356 ∧ S = S0) ∧ ∃ q358:AV,(callF Tryz.prog 72 [q356,(.f (.func 70) [] [v2])] S (fun _ _=>False) fun v359 S=>v359 = q358 ∧ S = S0) ∧ ∃ q360:AV,(un .not q358 S fun v361 S=>v361 = q360 ∧ S = S0) ∧ ∃ q362:AV,(q360 = q362 ∧ S = S0) ∧ Q (.ret q362) S) (∃ q363:AV,((.v (.bool false)) = q363 ∧ S = S0) ∧ Q (.ret q363) S)) (∃ q364:AV,((.v (.bool false)) = q364 ∧ S = S0) ∧ onB q364 fun b365=>gd b365 (∃ q366:AV,(shift v1 3 S fun v367 S=>v367 = q366 ∧ S = S0) ∧ ∃ q368:AV,(ld1 q366 S fun v369 S=>v369 = q368 ∧ S = S0) ∧ ∃ q370:AV,(callF Tryz.prog 72 [q368,(.f (.func 70) [] [v2])] S (fun _ _=>False) fun v371 S=>v371 = q370 ∧ S = S0) ∧ ∃ q372:AV,(un .not q370 S fun v373 S=>v373 = q372 ∧ S = S0) ∧ ∃ q374:AV,(q372 = q374 ∧ S = S0) ∧ Q (.ret q374) S) (∃ q375:AV,((.v (.bool false)) = q375 ∧ S = S0) ∧ Q (.ret q375) S))))) S) ((fun S0:Store=>∃ q376:AV,(ld1 v2 S fun v377 S=>v377 = q376 ∧ S = S0) ∧ ∃ q378:AV,(bin .gtr 0 q376 (.v (.int .i64 0)) S fun v379 S=>v379 = q378 ∧ S = S0) ∧ onB q378 fun b380=>gd b380 (∃ q381:AV,((.v (.bool false)) = q381 ∧ S = S0) ∧ onB q381 fun b382=>gd b382 (∃ q383:AV,(shift v1 1 S fun v384 S=>v384 = q383 ∧ S = S0) ∧ ∃ q385:AV,(ld1 q383 S fun v386 S=>v386 = q385 ∧ S = S0) ∧ ∃ q387:AV,(bin .eql 0 q385 (.v (.string { data:=#[] })) S fun v388 S=>v388 = q387 ∧ S = S0) ∧ ∃ q389:AV,(q387 = q389 ∧ S = S0) ∧ onB q389 fun b390=>gd b390 (∃ q391:AV,(shift v1 3 S fun v392 S=>v392 = q391 ∧ S = S0) ∧ ∃ q393:AV,(ld1 q391 S fun v394 S=>v394 = q393 ∧ S = S0) ∧ ∃ q395:AV,(lenS q393 S fun v396 S=>v396 = q395 ∧ S = S0) ∧ ∃ q397:AV,(shift v1 0 S fun v398 S=>v398 = q397 ∧ S = S0) ∧ ∃ q399:AV,(ld1 q397 S fun v400 S=>v400 = q399 ∧ S = S0) ∧ ∃ q401:AV,(callF Tryz.prog 71 [q399] S (fun _ _=>False) fun v402 S=>v402 = q401 ∧ S = S0) ∧ ∃ q403:AV,(bin .eql 0 q395 q401 S fun v404 S=>v404 = q403 ∧ S = S0) ∧ ∃ q405:AV,(q403 = q405 ∧ S = S0) ∧ onB q405 fun b406=>gd b406 (∃ q407:AV,(shift v1 3 S fun v408 S=>v408 = q407 ∧ S = S0) ∧ ∃ q409:AV,(ld1 q407 S fun v410 S=>v410 = q409 ∧ S = S0) ∧ ∃ q411:AV,(callF Tryz.prog 72 [q409,(.f (.func 70) [] [v2])] S (fun _ _=>False) fun v412 S=>v412 = q411 ∧ S = S0) ∧ ∃ q413:AV,(un .not q411 S fun v414 S=>v414 = q413 ∧ S = S0) ∧ ∃ q415:AV,(q413 = q415 ∧ S = S0) ∧ Q (.ret q415) S) (∃ q416:AV,((.v (.bool false)) = q416 ∧ S = S0) ∧ Q (.ret q416) S)) (∃ q417:AV,((.v (.bool false)) = q417 ∧ S = S0) ∧ onB q417 fun b418=>gd b418 (∃ q419:AV,(shift v1 3 S fun v420 S=>v420 = q419 ∧ S = S0) ∧ ∃ q421:AV,(ld1 q419 S fun v422 S=>v422 = q421 ∧ S = S0) ∧ ∃ q423:AV,(callF Tryz.prog 72 [q421,(.f (.func 70) [] [v2])] S (fun _ _=>False) fun v424 S=>v424 = q423 ∧ S = S0) ∧ ∃ q425:AV,(un .not q423 S fun v426 S=>v426 = q425 ∧ S = S0) ∧ ∃ q427:AV,(q425 = q427 ∧ S = S0) ∧ Q (.ret q427) S) (∃ q428:AV,((.v (.bool false)) = q428 ∧ S = S0) ∧ Q (.ret q428) S))) (∃ q429:AV,((.v (.bool false)) = q429 ∧ S = S0) ∧ onB q429 fun b430=>gd b430 (∃ q431:AV,(shift v1 3 S fun v432 S=>v432 = q431 ∧ S = S0) ∧ ∃ q433:AV,(ld1 q431 S fun v434 S=>v434 = q433 ∧ S = S0) ∧ ∃ q435:AV,(lenS q433 S fun v436 S=>v436 = q435 ∧ S = S0) ∧ ∃ q437:AV,(shift v1 0 S fun v438 S=>v438 = q437 ∧ S = S0) ∧ ∃ q439:AV,(ld1 q437 S fun v440 S=>v440 = q439 ∧ S = S0) ∧ ∃ q441:AV,(callF Tryz.prog 71 [q439] S (fun _ _=>False) fun v442 S=>v442 = q441 ∧ S = S0) ∧ ∃ q443:AV,(bin .eql 0 q435 q441 S fun v444 S=>v444 = q443 ∧ S = S0) ∧ ∃ q445:AV,(q443 = q445 ∧ S = S0) ∧ onB q445 fun b446=>gd b446 (∃ q447:AV,(shift v1 3 S fun v448 S=>v448 = q447 ∧ S = S0) ∧ ∃ q449:AV,(ld1 q447 S fun v450 S=>v450 = q449 ∧ S = S0) ∧ ∃ q451:AV,(callF Tryz.prog 72 [q449,(.f (.func 70) [] [v2])] S (fun _ _=>False) fun v452 S=>v452 = q451 ∧ S = S0) ∧ ∃ q453:AV,(un .not q451 S fun v454 S=>v454 = q453 ∧ S = S0) ∧ ∃ q455:AV,(q453 = q455 ∧ S = S0) ∧ Q (.ret q455) S) (∃ q456:AV,((.v (.bool false)) = q456 ∧ S = S0) ∧ Q (.ret q456) S)) (∃ q457:AV,((.v (.bool false)) = q457 ∧ S = S0) ∧ onB q457 fun b458=>gd b458 (∃ q459:AV,(shift v1 3 S fun v460 S=>v460 = q459 ∧ S = S0) ∧ ∃ q461:AV,(ld1 q459 S fun v462 S=>v462 = q461 ∧ S = S0) ∧ ∃ q463:AV,(callF Tryz.prog 72 [q461,(.f (.func 70) [] [v2])] S (fun _ _=>False) fun v464 S=>v464 = q463 ∧ S = S0) ∧ ∃ q465:AV,(un .not q463 S fun v466 S=>v466 = q465 ∧ S = S0) ∧ ∃ q467:AV,(q465 = q467 ∧ S = S0) ∧ Q (.ret q467) S) (∃ q468:AV,((.v (.bool false)) = q468 ∧ S = S0) ∧ Q (.ret q468) S)))) (∃ q469:AV,((.v (.bool false)) = q469 ∧ S = S0) ∧ onB q469 fun b470=>gd b470 (∃ q471:AV,(shift v1 1 S fun v472 S=>v472 = q471 ∧ S = S0) ∧ ∃ q473:AV,(ld1 q471 S fun v474 S=>v474 = q473 ∧ S = S0) ∧ ∃ q475:AV,(bin .eql 0 q473 (.v (.string { data:=#[] })) S fun v476 S=>v476 = q475 ∧ S = S0) ∧ ∃ q477:AV,(q475 = q477 ∧ S = S0) ∧ onB q477 fun b478=>gd b478 (∃ q479:AV,(shift v1 3 S fun v480 S=>v480 = q479 ∧ S = S0) ∧ ∃ q481:AV,(ld1 q479 S fun v482 S=>v482 = q481 ∧ S = S0) ∧ ∃ q483:AV,(lenS q481 S fun v484 S=>v484 = q483 ∧ S = S0) ∧ ∃ q485:AV,(shift v1 0 S fun v486 S=>v486 = q485 ∧ S = S0) ∧ ∃ q487:AV,(ld1 q485 S fun v488 S=>v488 = q487 ∧ S = S0) ∧ ∃ q489:AV,(callF Tryz.prog 71 [q487] S (fun _ _=>False) fun v490 S=>v490 = q489 ∧ S = S0) ∧ ∃ q491:AV,(bin .eql 0 q483 q489 S fun v492 S=>v492 = q491 ∧ S = S0) ∧ ∃ q493:AV,(q491 = q493 ∧ S = S0) ∧ onB q493 fun b494=>gd b494 (∃ q495:AV,(shift v1 3 S fun v496 S=>v496 = q495 ∧ S = S0) ∧ ∃ q497:AV,(ld1 q495 S fun v498 S=>v498 = q497 ∧ S = S0) ∧ ∃ q499:AV,(callF Tryz.prog 72 [q497,(.f (.func 70) [] [v2])] S (fun _ _=>False) fun v500 S=>v500 = q499 ∧ S = S0) ∧ ∃ q501:AV,(un .not q499 S fun v502 S=>v502 = q501 ∧ S = S0) ∧ ∃ q503:AV,(q501 = q503 ∧ S = S0) ∧ Q (.ret q503) S) (∃ q504:AV,((.v (.bool false)) = q504 ∧ S = S0) ∧ Q (.ret q504) S)) (∃ q505:AV,((.v (.bool false)) = q505 ∧ S = S0) ∧ onB q505 fun b506=>gd b506 (∃ q507:AV,(shift v1 3 S fun v508 S=>v508 = q507 ∧ S = S0) ∧ ∃ q509:AV,(ld1 q507 S fun v510 S=>v510 = q509 ∧ S = S0) ∧ ∃ q511:AV,(callF Tryz.prog 72 [q509,(.f (.func 70) [] [v2])] S (fun _ _=>False) fun v512 S=>v512 = q511 ∧ S = S0) ∧ ∃ q513:AV,(un .not q511 S fun v514 S=>v514 = q513 ∧ S = S0) ∧ ∃ q515:AV,(q513 = q515 ∧ S = S0) ∧ Q (.ret q515) S) (∃ q516:AV,((.v (.bool false)) = q516 ∧ S = S0) ∧ Q (.ret q516) S))) (∃ q517:AV,((.v (.bool false)) = q517 ∧ S = S0) ∧ onB q517 fun b518=>gd b518 (∃ q519:AV,(shift v1 3 S fun v520 S=>v520 = q519 ∧ S = S0) ∧ ∃ q521:AV,(ld1 q519 S fun v522 S=>v522 = q521 ∧ S = S0) ∧ ∃ q523:AV,(lenS q521 S fun v524 S=>v524 = q523 ∧ S = S0) ∧ ∃ q525:AV,(shift v1 0 S fun v526 S=>v526 = q525 ∧ S = S0) ∧ ∃ q527:AV,(ld1 q525 S fun v528 S=>v528 = q527 ∧ S = S0) ∧ ∃ q529:AV,(callF Tryz.prog 71 [q527] S (fun _ _=>False) fun v530 S=>v530 = q529 ∧ S = S0) ∧ ∃ q531:AV,(bin .eql 0 q523 q529 S fun v532 S=>v532 = q531 ∧ S = S0) ∧ ∃ q533:AV,(q531 = q533 ∧ S = S0) ∧ onB q533 fun b534=>gd b534 (∃ q535:AV,(shift v1 3 S fun v536 S=>v536 = q535 ∧ S = S0) ∧ ∃ q537:AV,(ld1 q535 S fun v538 S=>v538 = q537 ∧ S = S0) ∧ ∃ q539:AV,(callF Tryz.prog 72 [q537,(.f (.func 70) [] [v2])] S (fun _ _=>False) fun v540 S=>v540 = q539 ∧ S = S0) ∧ ∃ q541:AV,(un .not q539 S fun v542 S=>v542 = q541 ∧ S = S0) ∧ ∃ q543:AV,(q541 = q543 ∧ S = S0) ∧ Q (.ret q543) S) (∃ q544:AV,((.v (.bool false)) = q544 ∧ S = S0) ∧ Q (.ret q544) S)) (∃ q545:AV,((.v (.bool false)) = q545 ∧ S = S0) ∧ onB q545 fun b546=>gd b546 (∃ q547:AV,(shift v1 3 S fun v548 S=>v548 = q547 ∧ S = S0) ∧ ∃ q549:AV,(ld1 q547 S fun v550 S=>v550 = q549 ∧ S = S0) ∧ ∃ q551:AV,(callF Tryz.prog 72 [q549,(.f (.func 70) [] [v2])] S (fun _ _=>False) fun v552 S=>v552 = q551 ∧ S = S0) ∧ ∃ q553:AV,(un .not q551 S fun v554 S=>v554 = q553 ∧ S = S0) ∧ ∃ q555:AV,(q553 = q555 ∧ S = S0) ∧ Q (.ret q555) S) (∃ q556:AV,((.v (.bool false)) = q556 ∧ S = S0) ∧ Q (.ret q556) S))))) S))
theorem calls43 {x0 x1:AV} {S:Store} {Q:PoT} (h:m43 x0 x1 S Q):ACalls Tryz.prog 43 [x0,x1] S Q :=
  calls_of_vc (fn:=Tryz.f43) (c:=c43) (n:=47) Tryz.func43 (by kernel_rfl) (by kernel_rfl) (by kernel_rfl) ms43 (Eq.mpr (by kernel_rfl) h)
noncomputable def c66:Code:=(Tryz.f66.body).getD .skip
noncomputable def r66:List ResultVar:=Tryz.f66.results.toList
def env66_0 (y1 y2 y3 y7:AV):List AV:=[y1,y2,y3,y7]
def lv66_0:List Nat:=[1,2,3,7]
def ms66:List (List Nat):=[lv66_0,[]]
def m66 (x0 x1 x2:AV) (S:Store) (Q:PoT):Prop :=
  boxN 42 8 x0 S fun v1 S=>loopV lv66_0 (vc Tryz.prog (c66.at_ [1,0,1,0,0]) (ms66.drop 1)) 22 (env66_0 x1 x2 v1 (.v (.int .i64 0))) S (blockK 0 (seqK (vc Tryz.prog (c66.at_ [1,1]) (ms66.drop 1)) (bodyK Tryz.prog r66 Q)))
theorem calls66 {x0 x1 x2:AV} {S:Store} {Q:PoT} (h:m66 x0 x1 x2 S Q):ACalls Tryz.prog 66 [x0,x1,x2] S Q :=
  calls_of_vc (fn:=Tryz.f66) (c:=c66) (n:=22) Tryz.func66 (by kernel_rfl) (by kernel_rfl) (by kernel_rfl) ms66 (Eq.mpr (by kernel_rfl) h)
def b66_0 (y1 y2 y3 y7:AV) (S:Store) (KE0:KeT) (Q:PoT):Prop :=
  lenS y2 S fun v2 S=>bin .lss 0 y7 v2 S fun v3 S=>onB v3 fun b4=>gd b4 ((fun S0:Store=>∃ q5:AV,(ldN 8 y3 S fun v6 S=>v6 = q5 ∧ S = S0) ∧ ∃ q7:AV,(ixS 3 1 y2 y7 S fun v8 S=>v8 = q7 ∧ S = S0) ∧ ∃ q9:AV,(ld1 q7 S fun v10 S=>v10 = q9 ∧ S = S0) ∧ ∃ q11:AV,(callF Tryz.prog 68 [q5,y1,q9] S (fun _ _=>False) fun v12 S=>v12 = q11 ∧ S = S0) ∧ ∃ q13:AV,(un .not q11 S fun v14 S=>v14 = q13 ∧ S = S0) ∧ onB q13 fun b15=>gd b15 (Q (.ret (.v (.bool false))) S) (bin .add 0 y7 (.v (.int .i64 1)) S fun v16 S=>KE0 22 (env66_0 y1 y2 y3 v16) S)) S) (Q (.ret (.v (.bool true))) S)
theorem b66_0_eq (y1 y2 y3 y7:AV) (S:Store) (KE0:KeT) (Q:PoT):vc Tryz.prog (c66.at_ [1,0,1,0,0]) (ms66.drop 1) (mkE 22 lv66_0 (env66_0 y1 y2 y3 y7)) S (thenK (fgK lv66_0 KE0) (blockK 0 (seqK (vc Tryz.prog (c66.at_ [1,1]) (ms66.drop 1)) (bodyK Tryz.prog r66 Q)))) = b66_0 y1 y2 y3 y7 S KE0 Q:=by kernel_rfl
theorem loop66_0 {y1 y2 y3:AV} {y70:AV} {S:Store} {Q:PoT} (I:AV → Store → Prop) (μ:AV → Store → Nat) (h0:I y70 S)
    (hr:∀ (y7:AV) (S:Store),I y7 S → ∀ KE0:KeT,(∀ (y7':AV) (S':Store),I y7' S' → μ y7' S' < μ y7 S → KE0 22 (env66_0 y1 y2 y3 y7') S') → b66_0 y1 y2 y3 y7 S KE0 Q) :
    loopV lv66_0 (vc Tryz.prog (c66.at_ [1,0,1,0,0]) (ms66.drop 1)) 22 (env66_0 y1 y2 y3 y70) S (blockK 0 (seqK (vc Tryz.prog (c66.at_ [1,1]) (ms66.drop 1)) (bodyK Tryz.prog r66 Q))):=by
  refine ⟨fun n e S=>n = 22 ∧ ∃ y7:AV,e = (env66_0 y1 y2 y3 y7) ∧ I y7 S,fun _ e S=>μ (e.getD 3 .j) S,?_,?_⟩
  · exact ⟨_,_,Wk.refl _ _,rfl,_,rfl,h0⟩
  · rintro _ e S ⟨rfl,y7,rfl,hI⟩
    exact (b66_0_eq _ _ _ _ _ _ _).mpr (hr y7 S hI _ (fun y7' S' hI' hm=>⟨_,_,Wk.refl _ _,⟨rfl,_,rfl,hI'⟩,hm⟩))
noncomputable def c67:Code:=(Tryz.f67.body).getD .skip
noncomputable def r67:List ResultVar:=Tryz.f67.results.toList
def env67_0 (y1 y2 y5:AV):List AV:=[y1,y2,y5]
def lv67_0:List Nat:=[1,2,5]
def ms67:List (List Nat):=[lv67_0,[]]
def m67 (x0 x1:AV) (S:Store) (Q:PoT):Prop :=
  boxN 42 8 x0 S fun v1 S=>loopV lv67_0 (vc Tryz.prog (c67.at_ [1,0,1,0,0]) (ms67.drop 1)) 33 (env67_0 x1 v1 (.v (.int .i64 0))) S (blockK 0 (seqK (vc Tryz.prog (c67.at_ [1,1]) (ms67.drop 1)) (bodyK Tryz.prog r67 Q)))
theorem calls67 {x0 x1:AV} {S:Store} {Q:PoT} (h:m67 x0 x1 S Q):ACalls Tryz.prog 67 [x0,x1] S Q :=
  calls_of_vc (fn:=Tryz.f67) (c:=c67) (n:=33) Tryz.func67 (by kernel_rfl) (by kernel_rfl) (by kernel_rfl) ms67 (Eq.mpr (by kernel_rfl) h)
def b67_0 (y1 y2 y5:AV) (S:Store) (KE0:KeT) (Q:PoT):Prop :=
  shift y2 1 S fun v2 S=>ld1 v2 S fun v3 S=>lenS v3 S fun v4 S=>bin .lss 0 y5 v4 S fun v5 S=>onB v5 fun b6=>gd b6 (shift y2 1 S fun v7 S=>ld1 v7 S fun v8 S=>ixS 66 2 v8 y5 S fun v9 S=>shift v9 1 S fun v10 S=>ld1 v10 S fun v11 S=>bin .neq 0 v11 (.v (.int .i64 2)) S fun v12 S=>onB v12 fun b13=>gd b13 (shift y2 0 S fun v14 S=>ld1 v14 S fun v15 S=>bin .add 0 v15 y5 S fun v16 S=>bin .shr 0 y1 v16 S fun v17 S=>bin .rem 0 v17 (.v (.int .i64 2)) S fun v18 S=>bin .neq 0 v18 v11 S fun v19 S=>onB v19 fun b20=>gd b20 (Q (.ret (.v (.bool false))) S) (bin .add 0 y5 (.v (.int .i64 1)) S fun v21 S=>KE0 33 (env67_0 y1 y2 v21) S)) (bin .add 0 y5 (.v (.int .i64 1)) S fun v22 S=>KE0 33 (env67_0 y1 y2 v22) S)) (Q (.ret (.v (.bool true))) S)
theorem b67_0_eq (y1 y2 y5:AV) (S:Store) (KE0:KeT) (Q:PoT):vc Tryz.prog (c67.at_ [1,0,1,0,0]) (ms67.drop 1) (mkE 33 lv67_0 (env67_0 y1 y2 y5)) S (thenK (fgK lv67_0 KE0) (blockK 0 (seqK (vc Tryz.prog (c67.at_ [1,1]) (ms67.drop 1)) (bodyK Tryz.prog r67 Q)))) = b67_0 y1 y2 y5 S KE0 Q:=by kernel_rfl
theorem loop67_0 {y1 y2:AV} {y50:AV} {S:Store} {Q:PoT} (I:AV → Store → Prop) (μ:AV → Store → Nat) (h0:I y50 S)
    (hr:∀ (y5:AV) (S:Store),I y5 S → ∀ KE0:KeT,(∀ (y5':AV) (S':Store),I y5' S' → μ y5' S' < μ y5 S → KE0 33 (env67_0 y1 y2 y5') S') → b67_0 y1 y2 y5 S KE0 Q) :
    loopV lv67_0 (vc Tryz.prog (c67.at_ [1,0,1,0,0]) (ms67.drop 1)) 33 (env67_0 y1 y2 y50) S (blockK 0 (seqK (vc Tryz.prog (c67.at_ [1,1]) (ms67.drop 1)) (bodyK Tryz.prog r67 Q))):=by
  refine ⟨fun n e S=>n = 33 ∧ ∃ y5:AV,e = (env67_0 y1 y2 y5) ∧ I y5 S,fun _ e S=>μ (e.getD 2 .j) S,?_,?_⟩
  · exact ⟨_,_,Wk.refl _ _,rfl,_,rfl,h0⟩
  · rintro _ e S ⟨rfl,y5,rfl,hI⟩
    exact (b67_0_eq _ _ _ _ _ _).mpr (hr y5 S hI _ (fun y5' S' hI' hm=>⟨_,_,Wk.refl _ _,⟨rfl,_,rfl,hI'⟩,hm⟩))
noncomputable def c117:Code:=(Tryz.f117.body).getD .skip
noncomputable def r117:List ResultVar:=Tryz.f117.results.toList
def env117_0 (y1 y2 y4 y32 y33:AV):List AV:=[y1,y2,y4,y32,y33]
def lv117_0:List Nat:=[1,2,4,32,33]
def env117_1 (y1 y2 y4 y5 y6 y32 y33 y43 y44:AV):List AV:=[y1,y2,y4,y5,y6,y32,y33,y43,y44]
def lv117_1:List Nat:=[1,2,4,5,6,32,33,43,44]
def env117_2 (y2 y4 y88 y89 y90:AV):List AV:=[y2,y4,y88,y89,y90]
def lv117_2:List Nat:=[2,4,88,89,90]
def env117_3 (y2 y4 y107 y108:AV):List AV:=[y2,y4,y107,y108]
def lv117_3:List Nat:=[2,4,107,108]
def ms117:List (List Nat):=[lv117_0,lv117_1,lv117_2,lv117_3,[]]
def m117 (x0:AV) (S:Store) (Q:PoT):Prop :=
  boxN 42 8 x0 S fun v1 S=>boxN 71 5 (.a [(.v (.int .i64 0)),.nl,.nl,.nl,.nl]) S fun v2 S=>ldN 8 v1 S fun v3 S=>callF Tryz.prog 85 [v3] S Q fun v4 S=>un .not v4 S fun v5 S=>onB v5 fun b6=>gd b6 (ldN 5 v2 S fun v7 S=>stN 5 v2 v7 S fun v8 S=>ldN 5 v2 S fun v9 _=>Q (.ret (.t [v9,(.v (.int .i64 1))])) S) (∃ q10:AV,(∀ T:Store,Keep S T → ldN 8 v1 T fun v11 S=>v11 = q10 ∧ S = T) ∧ ∃ q12:AV,(∀ T:Store,Keep S T → ldN 8 v1 T fun v13 S=>v13 = q12 ∧ S = T) ∧ ∃ q14:AV,(∀ T:Store,Keep S T → callF Tryz.prog 84 [q12] T (fun _ _=>False) fun v15 S=>v15 = q14 ∧ S = T) ∧ ∃ q16:AV,(∀ T:Store,Keep S T → bld [(0,8),(8,2),(10,1)] [(.v (.int .i64 0)),.nl,.nl,.nl,.nl,.nl,.nl,.nl,(.v (.int .i64 0)),.nl,.nl] [(0,q10),(1,q14)] T fun v17 S=>v17 = q16 ∧ S = T) ∧ optP (cellsOf q16) fun cs18=>cs18.length = 11 ∧ newsV [(.cells 171 [cs18] true),(.cells 169 [[(.v (.pointer none))]] true)] S fun ids19 S=>stN 1 (.p (ids19.tail.headD 0) 0 0) (.p (ids19.headD 0) 0 0) S fun v20 S=>ld1 (.p (ids19.tail.headD 0) 0 0) S fun v21 S=>nilChk v21 S fun v22 S=>shift v22 8 S fun v23 S=>shift v23 0 S fun v24 S=>ld1 v24 S fun v25 S=>bin .gtr 0 v25 (.v (.int .i64 10)) S fun v26 S=>onB v26 fun b27=>gd b27 (ldN 5 v2 S fun v28 S=>stN 5 v2 v28 S fun v29 S=>ldN 5 v2 S fun v30 _=>Q (.ret (.t [v30,(.v (.int .i64 2))])) S) (ld1 (.p (ids19.tail.headD 0) 0 0) S fun v31 S=>nilChk v31 S fun v32 S=>shift v32 8 S fun v33 S=>shift v33 0 S fun v34 S=>ld1 v34 S fun v35 S=>bin .shl 0 (.v (.int .i64 1)) v35 S fun v36 S=>loopV lv117_0 (vc Tryz.prog (c117.at_ [1,1,1,1,0,1,0,0]) (ms117.drop 1)) 123 (env117_0 v1 v2 (.p (ids19.tail.headD 0) 0 0) v36 (.v (.int .i64 0))) S (blockK 0 (seqK (vc Tryz.prog (c117.at_ [1,1,1,1,1]) (ms117.drop 2)) (bodyK Tryz.prog r117 Q)))))
theorem calls117 {x0:AV} {S:Store} {Q:PoT} (h:m117 x0 S Q):ACalls Tryz.prog 117 [x0] S Q :=
  calls_of_vc (fn:=Tryz.f117) (c:=c117) (n:=123) Tryz.func117 (by kernel_rfl) (by kernel_rfl) (by kernel_rfl) ms117 (Eq.mpr (by kernel_rfl) h)
def b117_0 (y1 y2 y4 y32 y33:AV) (S:Store) (KE0:KeT) (Q:PoT):Prop :=
  bin .lss 0 y33 y32 S fun v37 S=>onB v37 fun b38=>gd b38 (ld1 y4 S fun v39 S=>nilChk v39 S fun v40 S=>shift v40 8 S fun v41 S=>shift v41 0 S fun v42 S=>ld1 v42 S fun v43 S=>mkN 4 1 [(.v (.bool false))] v43 v43 S fun v44 S=>lenS v44 S fun v45 S=>loopV lv117_1 (vc Tryz.prog (c117.at_ [1,1,1,1,0,1,0,0,1,1,0,0,1,1,0,1,0,0]) (ms117.drop 2)) 123 (env117_1 y1 y2 y4 y33 v44 y32 y33 v45 (.v (.int .i64 0))) S (blockK 2 (seqK (vc Tryz.prog (c117.at_ [1,1,1,1,0,1,0,0,1,1,0,0,1,1,1]) (ms117.drop 2)) (blockK 1 (seqK (vc Tryz.prog (c117.at_ [1,1,1,1,0,1,0,0,1,1,1]) (ms117.drop 2)) (thenK (fgK lv117_0 KE0) (blockK 0 (seqK (vc Tryz.prog (c117.at_ [1,1,1,1,1]) (ms117.drop 2)) (bodyK Tryz.prog r117 Q))))))))) (ld1 y4 S fun v46 S=>nilChk v46 S fun v47 S=>shift v47 8 S fun v48 S=>shift v48 0 S fun v49 S=>ld1 v49 S fun v50 S=>shift y2 0 S fun v51 S=>stN 1 v51 v50 S fun v52 S=>ld1 y4 S fun v53 S=>ld1 y4 S fun v54 S=>callF Tryz.prog 155 [v53,(.f (.func 156) [v54] [])] S Q fun v55 S=>shift y2 1 S fun v56 S=>stN 1 v56 v55 S fun v57 S=>ld1 y4 S fun v58 S=>callF Tryz.prog 155 [v58,(.f (.func 157) [] [y2,y4])] S Q fun v59 S=>shift y2 2 S fun v60 S=>stN 1 v60 v59 S fun v61 S=>shift y1 6 S fun v62 S=>ld1 v62 S fun v63 S=>lenS v63 S fun v64 S=>loopV lv117_2 (vc Tryz.prog (c117.at_ [1,1,1,1,1,1,1,1,0,1,0,0]) (ms117.drop 3)) 123 (env117_2 y2 y4 v63 v64 (.v (.int .i64 0))) S (blockK 4 (seqK (vc Tryz.prog (c117.at_ [1,1,1,1,1,1,1,1,1]) (ms117.drop 3)) (bodyK Tryz.prog r117 Q))))
theorem b117_0_eq (y1 y2 y4 y32 y33:AV) (S:Store) (KE0:KeT) (Q:PoT):vc Tryz.prog (c117.at_ [1,1,1,1,0,1,0,0]) (ms117.drop 1) (mkE 123 lv117_0 (env117_0 y1 y2 y4 y32 y33)) S (thenK (fgK lv117_0 KE0) (blockK 0 (seqK (vc Tryz.prog (c117.at_ [1,1,1,1,1]) (ms117.drop 2)) (bodyK Tryz.prog r117 Q)))) = b117_0 y1 y2 y4 y32 y33 S KE0 Q:=by kernel_rfl
theorem loop117_0 {y1 y2 y4 y32:AV} {y330:AV} {S:Store} {Q:PoT} (I:AV → Store → Prop) (μ:AV → Store → Nat) (h0:I y330 S)
    (hr:∀ (y33:AV) (S:Store),I y33 S → ∀ KE0:KeT,(∀ (y33':AV) (S':Store),I y33' S' → μ y33' S' < μ y33 S → KE0 123 (env117_0 y1 y2 y4 y32 y33') S') → b117_0 y1 y2 y4 y32 y33 S KE0 Q) :
    loopV lv117_0 (vc Tryz.prog (c117.at_ [1,1,1,1,0,1,0,0]) (ms117.drop 1)) 123 (env117_0 y1 y2 y4 y32 y330) S (blockK 0 (seqK (vc Tryz.prog (c117.at_ [1,1,1,1,1]) (ms117.drop 2)) (bodyK Tryz.prog r117 Q))):=by
  refine ⟨fun n e S=>n = 123 ∧ ∃ y33:AV,e = (env117_0 y1 y2 y4 y32 y33) ∧ I y33 S,fun _ e S=>μ (e.getD 4 .j) S,?_,?_⟩
  · exact ⟨_,_,Wk.refl _ _,rfl,_,rfl,h0⟩
  · rintro _ e S ⟨rfl,y33,rfl,hI⟩
    exact (b117_0_eq _ _ _ _ _ _ _ _).mpr (hr y33 S hI _ (fun y33' S' hI' hm=>⟨_,_,Wk.refl _ _,⟨rfl,_,rfl,hI'⟩,hm⟩))
def b117_1 (y1 y2 y4 y5 y6 y32 y33 y43 y44:AV) (S:Store) (KE1:KeT) (KE0:KeT) (Q:PoT):Prop :=
  bin .lss 0 y44 y43 S fun v65 S=>onB v65 fun b66=>gd b66 (bin .shr 0 y5 y44 S fun v67 S=>bin .and 0 v67 (.v (.int .i64 1)) S fun v68 S=>bin .eql 0 v68 (.v (.int .i64 1)) S fun v69 S=>ixS 4 1 y6 y44 S fun v70 S=>stN 1 v70 v69 S fun v71 S=>bin .add 0 y44 (.v (.int .i64 1)) S fun v72 S=>KE1 123 (env117_1 y1 y2 y4 y5 y6 y32 y33 y43 v72) S) (∃ q73:AV,(∀ T:Store,Keep S T → ld1 y4 T fun v74 S=>v74 = q73 ∧ S = T) ∧ ∃ q75:AV,(∀ T:Store,Keep S T → ld1 y4 T fun v76 S=>v76 = q75 ∧ S = T) ∧ ∃ q77:AV,(∀ T:Store,Keep S T → nilChk q75 T fun v78 S=>v78 = q77 ∧ S = T) ∧ ∃ q79:AV,(∀ T:Store,Keep S T → shift q77 10 T fun v80 S=>v80 = q79 ∧ S = T) ∧ ∃ q81:AV,(∀ T:Store,Keep S T → ld1 q79 T fun v82 S=>v82 = q81 ∧ S = T) ∧ ∃ q83:AV,(∀ T:Store,Keep S T → ld1 y4 T fun v84 S=>v84 = q83 ∧ S = T) ∧ ∃ q85:AV,(∀ T:Store,Keep S T → nilChk q83 T fun v86 S=>v86 = q85 ∧ S = T) ∧ ∃ q87:AV,(∀ T:Store,Keep S T → shift q85 8 T fun v88 S=>v88 = q87 ∧ S = T) ∧ ∃ q89:AV,(∀ T:Store,Keep S T → ldN 2 q87 T fun v90 S=>v90 = q89 ∧ S = T) ∧ ∃ q91:AV,(∀ T:Store,Keep S T → callF Tryz.prog 154 [q89,y6] T (fun _ _=>False) fun v92 S=>v92 = q91 ∧ S = T) ∧ ∃ q93:AV,(∀ T:Store,Keep S T → bslN 53 1 1 [.nl] [(0,q91)] T fun v94 S=>v94 = q93 ∧ S = T) ∧ appS 53 1 24 q81 q93 S fun v95 S=>(∀ T:Store,Keep S T → ld1 y4 T fun v96 S=>v96 = q73 ∧ S = T) ∧ ∃ q97:AV,(∀ T:Store,Keep S T → nilChk q73 T fun v98 S=>v98 = q97 ∧ S = T) ∧ ∃ q99:AV,(∀ T:Store,Keep S T → shift q97 10 T fun v100 S=>v100 = q99 ∧ S = T) ∧ stN 1 q99 v95 S fun v101 S=>bin .add 0 y33 (.v (.int .i64 1)) S fun v102 S=>KE0 123 (env117_0 y1 y2 y4 y32 v102) S)
theorem b117_1_eq (y1 y2 y4 y5 y6 y32 y33 y43 y44:AV) (S:Store) (KE1:KeT) (KE0:KeT) (Q:PoT):vc Tryz.prog (c117.at_ [1,1,1,1,0,1,0,0,1,1,0,0,1,1,0,1,0,0]) (ms117.drop 2) (mkE 123 lv117_1 (env117_1 y1 y2 y4 y5 y6 y32 y33 y43 y44)) S (thenK (fgK lv117_1 KE1) (blockK 2 (seqK (vc Tryz.prog (c117.at_ [1,1,1,1,0,1,0,0,1,1,0,0,1,1,1]) (ms117.drop 2)) (blockK 1 (seqK (vc Tryz.prog (c117.at_ [1,1,1,1,0,1,0,0,1,1,1]) (ms117.drop 2)) (thenK (fgK lv117_0 KE0) (blockK 0 (seqK (vc Tryz.prog (c117.at_ [1,1,1,1,1]) (ms117.drop 2)) (bodyK Tryz.prog r117 Q))))))))) = b117_1 y1 y2 y4 y5 y6 y32 y33 y43 y44 S KE1 KE0 Q:=by kernel_rfl
theorem loop117_1 {y1 y2 y4 y5 y6 y32 y33 y43:AV} {y440:AV} {S:Store} {KE0:KeT} {Q:PoT} (I:AV → Store → Prop) (μ:AV → Store → Nat) (h0:I y440 S)
    (hr:∀ (y44:AV) (S:Store),I y44 S → ∀ KE1:KeT,(∀ (y44':AV) (S':Store),I y44' S' → μ y44' S' < μ y44 S → KE1 123 (env117_1 y1 y2 y4 y5 y6 y32 y33 y43 y44') S') → b117_1 y1 y2 y4 y5 y6 y32 y33 y43 y44 S KE1 KE0 Q) :
    loopV lv117_1 (vc Tryz.prog (c117.at_ [1,1,1,1,0,1,0,0,1,1,0,0,1,1,0,1,0,0]) (ms117.drop 2)) 123 (env117_1 y1 y2 y4 y5 y6 y32 y33 y43 y440) S (blockK 2 (seqK (vc Tryz.prog (c117.at_ [1,1,1,1,0,1,0,0,1,1,0,0,1,1,1]) (ms117.drop 2)) (blockK 1 (seqK (vc Tryz.prog (c117.at_ [1,1,1,1,0,1,0,0,1,1,1]) (ms117.drop 2)) (thenK (fgK lv117_0 KE0) (blockK 0 (seqK (vc Tryz.prog (c117.at_ [1,1,1,1,1]) (ms117.drop 2)) (bodyK Tryz.prog r117 Q)))))))):=by
  refine ⟨fun n e S=>n = 123 ∧ ∃ y44:AV,e = (env117_1 y1 y2 y4 y5 y6 y32 y33 y43 y44) ∧ I y44 S,fun _ e S=>μ (e.getD 8 .j) S,?_,?_⟩
  · exact ⟨_,_,Wk.refl _ _,rfl,_,rfl,h0⟩
  · rintro _ e S ⟨rfl,y44,rfl,hI⟩
    exact (b117_1_eq _ _ _ _ _ _ _ _ _ _ _ _ _).mpr (hr y44 S hI _ (fun y44' S' hI' hm=>⟨_,_,Wk.refl _ _,⟨rfl,_,rfl,hI'⟩,hm⟩))
def b117_2 (y2 y4 y88 y89 y90:AV) (S:Store) (KE2:KeT) (Q:PoT):Prop :=
  bin .lss 0 y90 y89 S fun v103 S=>onB v103 fun b104=>gd b104 (ixS 3 1 y88 y90 S fun v105 S=>ld1 v105 S fun v106 S=>boxN 3 1 (.v (.int .i64 0)) S fun v107 S=>stN 1 v107 v106 S fun v108 S=>∃ q109:AV,(∀ T:Store,Keep S T → shift y2 4 T fun v110 S=>v110 = q109 ∧ S = T) ∧ ∃ q111:AV,(∀ T:Store,Keep S T → ld1 q109 T fun v112 S=>v112 = q111 ∧ S = T) ∧ ∃ q113:AV,(∀ T:Store,Keep S T → ld1 y4 T fun v114 S=>v114 = q113 ∧ S = T) ∧ ∃ q115:AV,(∀ T:Store,Keep S T → (.f (.func 159) [] [y2,y4,v107]) = q115 ∧ T = T) ∧ ∃ q116:AV,(∀ T:Store,Keep S T → callF Tryz.prog 155 [q113,q115] T (fun _ _=>False) fun v117 S=>v117 = q116 ∧ S = T) ∧ ∃ q118:AV,(∀ T:Store,Keep S T → bslN 53 1 1 [.nl] [(0,q116)] T fun v119 S=>v119 = q118 ∧ S = T) ∧ appS 53 1 24 q111 q118 S fun v120 S=>∃ q121:AV,(∀ T:Store,Keep S T → shift y2 4 T fun v122 S=>v122 = q121 ∧ S = T) ∧ stN 1 q121 v120 S fun v123 S=>bin .add 0 y90 (.v (.int .i64 1)) S fun v124 S=>KE2 123 (env117_2 y2 y4 y88 y89 v124) S) (ld1 y4 S fun v125 S=>nilChk v125 S fun v126 S=>shift v126 10 S fun v127 S=>ld1 v127 S fun v128 S=>lenS v128 S fun v129 S=>loopV lv117_3 (vc Tryz.prog (c117.at_ [1,1,1,1,1,1,1,1,1,0,1,0,0]) (ms117.drop 4)) 123 (env117_3 y2 y4 v129 (.v (.int .i64 0))) S (blockK 6 (seqK (vc Tryz.prog (c117.at_ [1,1,1,1,1,1,1,1,1,1]) (ms117.drop 4)) (bodyK Tryz.prog r117 Q))))
theorem b117_2_eq (y2 y4 y88 y89 y90:AV) (S:Store) (KE2:KeT) (Q:PoT):vc Tryz.prog (c117.at_ [1,1,1,1,1,1,1,1,0,1,0,0]) (ms117.drop 3) (mkE 123 lv117_2 (env117_2 y2 y4 y88 y89 y90)) S (thenK (fgK lv117_2 KE2) (blockK 4 (seqK (vc Tryz.prog (c117.at_ [1,1,1,1,1,1,1,1,1]) (ms117.drop 3)) (bodyK Tryz.prog r117 Q)))) = b117_2 y2 y4 y88 y89 y90 S KE2 Q:=by kernel_rfl
theorem loop117_2 {y2 y4 y88 y89:AV} {y900:AV} {S:Store} {Q:PoT} (I:AV → Store → Prop) (μ:AV → Store → Nat) (h0:I y900 S)
    (hr:∀ (y90:AV) (S:Store),I y90 S → ∀ KE2:KeT,(∀ (y90':AV) (S':Store),I y90' S' → μ y90' S' < μ y90 S → KE2 123 (env117_2 y2 y4 y88 y89 y90') S') → b117_2 y2 y4 y88 y89 y90 S KE2 Q) :
    loopV lv117_2 (vc Tryz.prog (c117.at_ [1,1,1,1,1,1,1,1,0,1,0,0]) (ms117.drop 3)) 123 (env117_2 y2 y4 y88 y89 y900) S (blockK 4 (seqK (vc Tryz.prog (c117.at_ [1,1,1,1,1,1,1,1,1]) (ms117.drop 3)) (bodyK Tryz.prog r117 Q))):=by
  refine ⟨fun n e S=>n = 123 ∧ ∃ y90:AV,e = (env117_2 y2 y4 y88 y89 y90) ∧ I y90 S,fun _ e S=>μ (e.getD 4 .j) S,?_,?_⟩
  · exact ⟨_,_,Wk.refl _ _,rfl,_,rfl,h0⟩
  · rintro _ e S ⟨rfl,y90,rfl,hI⟩
    exact (b117_2_eq _ _ _ _ _ _ _ _).mpr (hr y90 S hI _ (fun y90' S' hI' hm=>⟨_,_,Wk.refl _ _,⟨rfl,_,rfl,hI'⟩,hm⟩))
def b117_3 (y2 y4 y107 y108:AV) (S:Store) (KE3:KeT) (Q:PoT):Prop :=
  bin .lss 0 y108 y107 S fun v130 S=>onB v130 fun b131=>gd b131 (∃ q132:AV,(∀ T:Store,Keep S T → shift y2 3 T fun v133 S=>v133 = q132 ∧ S = T) ∧ ∃ q134:AV,(∀ T:Store,Keep S T → ld1 q132 T fun v135 S=>v135 = q134 ∧ S = T) ∧ ∃ q136:AV,(∀ T:Store,Keep S T → ld1 y4 T fun v137 S=>v137 = q136 ∧ S = T) ∧ ∃ q138:AV,(∀ T:Store,Keep S T → shift y2 1 T fun v139 S=>v139 = q138 ∧ S = T) ∧ ∃ q140:AV,(∀ T:Store,Keep S T → ld1 q138 T fun v141 S=>v141 = q140 ∧ S = T) ∧ ∃ q142:AV,(∀ T:Store,Keep S T → callF Tryz.prog 161 [q136,y108,q140] T (fun _ _=>False) fun v143 S=>v143 = q142 ∧ S = T) ∧ ∃ q144:AV,(∀ T:Store,Keep S T → bslN 34 1 1 [.nl] [(0,q142)] T fun v145 S=>v145 = q144 ∧ S = T) ∧ appS 34 1 24 q134 q144 S fun v146 S=>∃ q147:AV,(∀ T:Store,Keep S T → shift y2 3 T fun v148 S=>v148 = q147 ∧ S = T) ∧ stN 1 q147 v146 S fun v149 S=>bin .add 0 y108 (.v (.int .i64 1)) S fun v150 S=>KE3 123 (env117_3 y2 y4 y107 v150) S) (ldN 5 y2 S fun v151 S=>stN 5 y2 v151 S fun v152 S=>ldN 5 y2 S fun v153 _=>Q (.ret (.t [v153,(.v (.int .i64 0))])) S)
theorem b117_3_eq (y2 y4 y107 y108:AV) (S:Store) (KE3:KeT) (Q:PoT):vc Tryz.prog (c117.at_ [1,1,1,1,1,1,1,1,1,0,1,0,0]) (ms117.drop 4) (mkE 123 lv117_3 (env117_3 y2 y4 y107 y108)) S (thenK (fgK lv117_3 KE3) (blockK 6 (seqK (vc Tryz.prog (c117.at_ [1,1,1,1,1,1,1,1,1,1]) (ms117.drop 4)) (bodyK Tryz.prog r117 Q)))) = b117_3 y2 y4 y107 y108 S KE3 Q:=by kernel_rfl
theorem loop117_3 {y2 y4 y107:AV} {y1080:AV} {S:Store} {Q:PoT} (I:AV → Store → Prop) (μ:AV → Store → Nat) (h0:I y1080 S)
    (hr:∀ (y108:AV) (S:Store),I y108 S → ∀ KE3:KeT,(∀ (y108':AV) (S':Store),I y108' S' → μ y108' S' < μ y108 S → KE3 123 (env117_3 y2 y4 y107 y108') S') → b117_3 y2 y4 y107 y108 S KE3 Q) :
    loopV lv117_3 (vc Tryz.prog (c117.at_ [1,1,1,1,1,1,1,1,1,0,1,0,0]) (ms117.drop 4)) 123 (env117_3 y2 y4 y107 y1080) S (blockK 6 (seqK (vc Tryz.prog (c117.at_ [1,1,1,1,1,1,1,1,1,1]) (ms117.drop 4)) (bodyK Tryz.prog r117 Q))):=by
  refine ⟨fun n e S=>n = 123 ∧ ∃ y108:AV,e = (env117_3 y2 y4 y107 y108) ∧ I y108 S,fun _ e S=>μ (e.getD 3 .j) S,?_,?_⟩
  · exact ⟨_,_,Wk.refl _ _,rfl,_,rfl,h0⟩
  · rintro _ e S ⟨rfl,y108,rfl,hI⟩
    exact (b117_3_eq _ _ _ _ _ _ _).mpr (hr y108 S hI _ (fun y108' S' hI' hm=>⟨_,_,Wk.refl _ _,⟨rfl,_,rfl,hI'⟩,hm⟩))
noncomputable def c157:Code:=(Tryz.f157.body).getD .skip
def ms157:List (List Nat):=[[]]
def m157 (x0 x1 x2:AV) (S:Store) (Q:PoT):Prop :=
  shift x1 1 S fun v1 S=>ld1 v1 S fun v2 S=>ixS 4 1 v2 x0 S fun v3 S=>ld1 v3 S fun v4 S=>onB v4 fun b5=>gd b5 (ld1 x2 S fun v6 S=>callF Tryz.prog 158 [v6,x0] S Q fun v7 S=>Q (.ret v7) S) (Q (.ret (.v (.bool false))) S)
theorem calls157 {x0 x1 x2:AV} {S:Store} {Q:PoT} (h:m157 x0 x1 x2 S Q):ACalls Tryz.prog 157 [x0,x1,x2] S Q :=
  calls_of_vc (fn:=Tryz.f157) (c:=c157) (n:=15) Tryz.func157 (by kernel_rfl) (by kernel_rfl) (by kernel_rfl) ms157 (Eq.mpr (by kernel_rfl) h)
noncomputable def c159:Code:=(Tryz.f159.body).getD .skip
def ms159:List (List Nat):=[[]]
def m159 (x0 x1 x2 x3:AV) (S:Store) (Q:PoT):Prop :=
  shift x1 1 S fun v1 S=>ld1 v1 S fun v2 S=>ixS 4 1 v2 x0 S fun v3 S=>ld1 v3 S fun v4 S=>onB v4 fun b5=>gd b5 (ld1 x2 S fun v6 S=>ld1 x3 S fun v7 S=>callF Tryz.prog 160 [v6,x0,v7] S Q fun v8 S=>Q (.ret v8) S) (Q (.ret (.v (.bool false))) S)
theorem calls159 {x0 x1 x2 x3:AV} {S:Store} {Q:PoT} (h:m159 x0 x1 x2 x3 S Q):ACalls Tryz.prog 159 [x0,x1,x2,x3] S Q :=
  calls_of_vc (fn:=Tryz.f159) (c:=c159) (n:=17) Tryz.func159 (by kernel_rfl) (by kernel_rfl) (by kernel_rfl) ms159 (Eq.mpr (by kernel_rfl) h)
noncomputable def c155:Code:=(Tryz.f155.body).getD .skip
noncomputable def r155:List ResultVar:=Tryz.f155.results.toList
def env155_0 (y1 y5 y14 y15:AV):List AV:=[y1,y5,y14,y15]
def lv155_0:List Nat:=[1,5,14,15]
def ms155:List (List Nat):=[lv155_0,[]]
def m155 (x0 x1:AV) (S:Store) (Q:PoT):Prop :=
  nilChk x0 S fun v1 S=>shift v1 10 S fun v2 S=>ld1 v2 S fun v3 S=>lenS v3 S fun v4 S=>mkN 4 1 [(.v (.bool false))] v4 v4 S fun v5 S=>lenS v5 S fun v6 S=>loopV lv155_0 (vc Tryz.prog (c155.at_ [1,1,0,1,0,0]) (ms155.drop 1)) 26 (env155_0 x1 v5 v6 (.v (.int .i64 0))) S (blockK 0 (seqK (vc Tryz.prog (c155.at_ [1,1,1]) (ms155.drop 1)) (bodyK Tryz.prog r155 Q)))
theorem calls155 {x0 x1:AV} {S:Store} {Q:PoT} (h:m155 x0 x1 S Q):ACalls Tryz.prog 155 [x0,x1] S Q :=
  calls_of_vc (fn:=Tryz.f155) (c:=c155) (n:=26) Tryz.func155 (by kernel_rfl) (by kernel_rfl) (by kernel_rfl) ms155 (Eq.mpr (by kernel_rfl) h)
def b155_0 (y1 y5 y14 y15:AV) (S:Store) (KE0:KeT) (Q:PoT):Prop :=
  bin .lss 0 y15 y14 S fun v7 S=>onB v7 fun b8=>gd b8 (callV Tryz.prog y1 [y15] S (fun v9 S=>ixS 4 1 y5 y15 S fun v10 S=>stN 1 v10 v9 S fun v11 S=>bin .add 0 y15 (.v (.int .i64 1)) S fun v12 S=>KE0 26 (env155_0 y1 y5 y14 v12) S) (fun u S=>Q (.pan u) S)) (Q (.ret y5) S)
theorem b155_0_eq (y1 y5 y14 y15:AV) (S:Store) (KE0:KeT) (Q:PoT):vc Tryz.prog (c155.at_ [1,1,0,1,0,0]) (ms155.drop 1) (mkE 26 lv155_0 (env155_0 y1 y5 y14 y15)) S (thenK (fgK lv155_0 KE0) (blockK 0 (seqK (vc Tryz.prog (c155.at_ [1,1,1]) (ms155.drop 1)) (bodyK Tryz.prog r155 Q)))) = b155_0 y1 y5 y14 y15 S KE0 Q:=by kernel_rfl
theorem loop155_0 {y1 y5 y14:AV} {y150:AV} {S:Store} {Q:PoT} (I:AV → Store → Prop) (μ:AV → Store → Nat) (h0:I y150 S)
    (hr:∀ (y15:AV) (S:Store),I y15 S → ∀ KE0:KeT,(∀ (y15':AV) (S':Store),I y15' S' → μ y15' S' < μ y15 S → KE0 26 (env155_0 y1 y5 y14 y15') S') → b155_0 y1 y5 y14 y15 S KE0 Q) :
    loopV lv155_0 (vc Tryz.prog (c155.at_ [1,1,0,1,0,0]) (ms155.drop 1)) 26 (env155_0 y1 y5 y14 y150) S (blockK 0 (seqK (vc Tryz.prog (c155.at_ [1,1,1]) (ms155.drop 1)) (bodyK Tryz.prog r155 Q))):=by
  refine ⟨fun n e S=>n = 26 ∧ ∃ y15:AV,e = (env155_0 y1 y5 y14 y15) ∧ I y15 S,fun _ e S=>μ (e.getD 3 .j) S,?_,?_⟩
  · exact ⟨_,_,Wk.refl _ _,rfl,_,rfl,h0⟩
  · rintro _ e S ⟨rfl,y15,rfl,hI⟩
    exact (b155_0_eq _ _ _ _ _ _ _).mpr (hr y15 S hI _ (fun y15' S' hI' hm=>⟨_,_,Wk.refl _ _,⟨rfl,_,rfl,hI'⟩,hm⟩))
noncomputable def c161:Code:=(Tryz.f161.body).getD .skip
noncomputable def r161:List ResultVar:=Tryz.f161.results.toList
def env161_0 (y2 y6 y7 y22 y23:AV):List AV:=[y2,y6,y7,y22,y23]
def lv161_0:List Nat:=[2,6,7,22,23]
def ms161:List (List Nat):=[lv161_0,[]]
def m161 (x0 x1 x2:AV) (S:Store) (Q:PoT):Prop :=
  ixS 4 1 x2 x1 S fun v1 S=>ld1 v1 S fun v2 S=>un .not v2 S fun v3 S=>onB v3 fun b4=>gd b4 (Q (.ret .nl) S) (callF Tryz.prog 175 [x0,x1] S Q fun v5 S=>nilChk x0 S fun v6 S=>shift v6 0 S fun v7 S=>shift v7 0 S fun v8 S=>ld1 v8 S fun v9 S=>bin .shl 0 (.v (.int .i64 1)) v9 S fun v10 S=>loopV lv161_0 (vc Tryz.prog (c161.at_ [1,1,1,0,1,0,0]) (ms161.drop 1)) 40 (env161_0 x2 .nl v5 v10 (.v (.int .i64 0))) S (blockK 0 (seqK (vc Tryz.prog (c161.at_ [1,1,1,1]) (ms161.drop 1)) (bodyK Tryz.prog r161 Q))))
theorem calls161 {x0 x1 x2:AV} {S:Store} {Q:PoT} (h:m161 x0 x1 x2 S Q):ACalls Tryz.prog 161 [x0,x1,x2] S Q :=
  calls_of_vc (fn:=Tryz.f161) (c:=c161) (n:=40) Tryz.func161 (by kernel_rfl) (by kernel_rfl) (by kernel_rfl) ms161 (Eq.mpr (by kernel_rfl) h)
def b161_0 (y2 y6 y7 y22 y23:AV) (S:Store) (KE0:KeT) (Q:PoT):Prop :=
  bin .lss 0 y23 y22 S fun v11 S=>onB v11 fun b12=>gd b12 (bin .or 0 y7 y23 S fun v13 S=>ixS 4 1 y2 v13 S fun v14 S=>ld1 v14 S fun v15 S=>onB v15 fun b16=>gd b16 (bin .or 0 y7 y23 S fun v17 S=>bslN 3 1 1 [(.v (.int .i64 0))] [(0,v17)] S fun v18 S=>appS 3 1 8 y6 v18 S fun v19 S=>bin .add 0 y23 (.v (.int .i64 1)) S fun v20 S=>KE0 40 (env161_0 y2 v19 y7 y22 v20) S) (bin .add 0 y23 (.v (.int .i64 1)) S fun v21 S=>KE0 40 (env161_0 y2 y6 y7 y22 v21) S)) (Q (.ret y6) S)
theorem b161_0_eq (y2 y6 y7 y22 y23:AV) (S:Store) (KE0:KeT) (Q:PoT):vc Tryz.prog (c161.at_ [1,1,1,0,1,0,0]) (ms161.drop 1) (mkE 40 lv161_0 (env161_0 y2 y6 y7 y22 y23)) S (thenK (fgK lv161_0 KE0) (blockK 0 (seqK (vc Tryz.prog (c161.at_ [1,1,1,1]) (ms161.drop 1)) (bodyK Tryz.prog r161 Q)))) = b161_0 y2 y6 y7 y22 y23 S KE0 Q:=by kernel_rfl
theorem loop161_0 {y2 y7 y22:AV} {y60 y230:AV} {S:Store} {Q:PoT} (I:AV → AV → Store → Prop) (μ:AV → AV → Store → Nat) (h0:I y60 y230 S)
    (hr:∀ (y6 y23:AV) (S:Store),I y6 y23 S → ∀ KE0:KeT,(∀ (y6' y23':AV) (S':Store),I y6' y23' S' → μ y6' y23' S' < μ y6 y23 S → KE0 40 (env161_0 y2 y6' y7 y22 y23') S') → b161_0 y2 y6 y7 y22 y23 S KE0 Q) :
    loopV lv161_0 (vc Tryz.prog (c161.at_ [1,1,1,0,1,0,0]) (ms161.drop 1)) 40 (env161_0 y2 y60 y7 y22 y230) S (blockK 0 (seqK (vc Tryz.prog (c161.at_ [1,1,1,1]) (ms161.drop 1)) (bodyK Tryz.prog r161 Q))):=by
  refine ⟨fun n e S=>n = 40 ∧ ∃ y6 y23:AV,e = (env161_0 y2 y6 y7 y22 y23) ∧ I y6 y23 S,fun _ e S=>μ (e.getD 1 .j) (e.getD 4 .j) S,?_,?_⟩
  · exact ⟨_,_,Wk.refl _ _,rfl,_,_,rfl,h0⟩
  · rintro _ e S ⟨rfl,y6,y23,rfl,hI⟩
    exact (b161_0_eq _ _ _ _ _ _ _ _).mpr (hr y6 y23 S hI _ (fun y6' y23' S' hI' hm=>⟨_,_,Wk.refl _ _,⟨rfl,_,_,rfl,hI'⟩,hm⟩))
noncomputable def c160:Code:=(Tryz.f160.body).getD .skip
def ms160:List (List Nat):=[[]]
def m160 (x0 x1 x2:AV) (S:Store) (Q:PoT):Prop :=
  nilChk x0 S fun v1 S=>shift v1 10 S fun v2 S=>ld1 v2 S fun v3 S=>ixS 53 1 v3 x1 S fun v4 S=>ld1 v4 S fun v5 S=>bin .quo 0 x2 (.v (.int .i64 2)) S fun v6 S=>ixS 4 1 v5 v6 S fun v7 S=>ld1 v7 S fun v8 S=>bin .and 0 x2 (.v (.int .i64 1)) S fun v9 S=>bin .eql 0 v9 (.v (.int .i64 1)) S fun v10 S=>bin .neq 1 v8 v10 S fun v11 S=>Q (.ret v11) S
theorem calls160 {x0 x1 x2:AV} {S:Store} {Q:PoT} (h:m160 x0 x1 x2 S Q):ACalls Tryz.prog 160 [x0,x1,x2] S Q :=
  calls_of_vc (fn:=Tryz.f160) (c:=c160) (n:=22) Tryz.func160 (by kernel_rfl) (by kernel_rfl) (by kernel_rfl) ms160 (Eq.mpr (by kernel_rfl) h)
noncomputable def c174:Code:=(Tryz.f174.body).getD .skip
def ms174:List (List Nat):=[[]]
def m174 (x0 x1 x2:AV) (S:Store) (Q:PoT):Prop :=
  ld1 x1 S fun v1 S=>ld1 x2 S fun v2 S=>callF Tryz.prog 160 [v1,v2,x0] S Q fun v3 S=>un .not v3 S fun v4 S=>Q (.ret v4) S
theorem calls174 {x0 x1 x2:AV} {S:Store} {Q:PoT} (h:m174 x0 x1 x2 S Q):ACalls Tryz.prog 174 [x0,x1,x2] S Q :=
  calls_of_vc (fn:=Tryz.f174) (c:=c174) (n:=10) Tryz.func174 (by kernel_rfl) (by kernel_rfl) (by kernel_rfl) ms174 (Eq.mpr (by kernel_rfl) h)
noncomputable def c156:Code:=(Tryz.f156.body).getD .skip
def ms156:List (List Nat):=[[]]
def m156 (x0 x1:AV) (S:Store) (Q:PoT):Prop :=
  boxN 169 1 x0 S fun v1 S=>boxN 3 1 x1 S fun v2 S=>ld1 v1 S fun v3 S=>nilChk v3 S fun v4 S=>shift v4 0 S fun v5 S=>shift v5 5 S fun v6 S=>ld1 v6 S fun v7 S=>callF Tryz.prog 132 [v7,(.f (.func 174) [] [v1,v2])] S Q fun v8 S=>un .not v8 S fun v9 S=>Q (.ret v9) S
theorem calls156 {x0 x1:AV} {S:Store} {Q:PoT} (h:m156 x0 x1 S Q):ACalls Tryz.prog 156 [x0,x1] S Q :=
  calls_of_vc (fn:=Tryz.f156) (c:=c156) (n:=13) Tryz.func156 (by kernel_rfl) (by kernel_rfl) (by kernel_rfl) ms156 (Eq.mpr (by kernel_rfl) h)
noncomputable def c175:Code:=(Tryz.f175.body).getD .skip
noncomputable def r175:List ResultVar:=Tryz.f175.results.toList
def env175_0 (y0 y1 y4 y11 y12 y13:AV):List AV:=[y0,y1,y4,y11,y12,y13]
def lv175_0:List Nat:=[0,1,4,11,12,13]
def ms175:List (List Nat):=[lv175_0,[]]
def m175 (x0 x1:AV) (S:Store) (Q:PoT):Prop :=
  nilChk x0 S fun v1 S=>shift v1 0 S fun v2 S=>shift v2 1 S fun v3 S=>ld1 v3 S fun v4 S=>lenS v4 S fun v5 S=>loopV lv175_0 (vc Tryz.prog (c175.at_ [1,0,1,0,0]) (ms175.drop 1)) 35 (env175_0 x0 x1 (.v (.int .i64 0)) v4 v5 (.v (.int .i64 0))) S (blockK 0 (seqK (vc Tryz.prog (c175.at_ [1,1]) (ms175.drop 1)) (bodyK Tryz.prog r175 Q)))
theorem calls175 {x0 x1:AV} {S:Store} {Q:PoT} (h:m175 x0 x1 S Q):ACalls Tryz.prog 175 [x0,x1] S Q :=
  calls_of_vc (fn:=Tryz.f175) (c:=c175) (n:=35) Tryz.func175 (by kernel_rfl) (by kernel_rfl) (by kernel_rfl) ms175 (Eq.mpr (by kernel_rfl) h)
def b175_0 (y0 y1 y4 y11 y12 y13:AV) (S:Store) (KE0:KeT) (Q:PoT):Prop :=
  bin .lss 0 y13 y12 S fun v6 S=>onB v6 fun b7=>gd b7 (ixS 66 2 y11 y13 S fun v8 S=>ldN 2 v8 S fun v9 S=>boxN 66 2 (.a [(.v (.int .i64 0)),(.v (.int .i64 0))]) S fun v10 S=>stN 2 v10 v9 S fun v11 S=>shift v10 0 S fun v12 S=>ld1 v12 S fun v13 S=>callF Tryz.prog 160 [y0,y1,v13] S Q fun v14 S=>onB v14 fun b15=>gd b15 (nilChk y0 S fun v16 S=>shift v16 0 S fun v17 S=>shift v17 0 S fun v18 S=>ld1 v18 S fun v19 S=>bin .add 0 v19 y13 S fun v20 S=>bin .shl 0 (.v (.int .i64 1)) v20 S fun v21 S=>bin .or 0 y4 v21 S fun v22 S=>bin .add 0 y13 (.v (.int .i64 1)) S fun v23 S=>KE0 35 (env175_0 y0 y1 v22 y11 y12 v23) S) (bin .add 0 y13 (.v (.int .i64 1)) S fun v24 S=>KE0 35 (env175_0 y0 y1 y4 y11 y12 v24) S)) (Q (.ret y4) S)
theorem b175_0_eq (y0 y1 y4 y11 y12 y13:AV) (S:Store) (KE0:KeT) (Q:PoT):vc Tryz.prog (c175.at_ [1,0,1,0,0]) (ms175.drop 1) (mkE 35 lv175_0 (env175_0 y0 y1 y4 y11 y12 y13)) S (thenK (fgK lv175_0 KE0) (blockK 0 (seqK (vc Tryz.prog (c175.at_ [1,1]) (ms175.drop 1)) (bodyK Tryz.prog r175 Q)))) = b175_0 y0 y1 y4 y11 y12 y13 S KE0 Q:=by kernel_rfl
theorem loop175_0 {y0 y1 y11 y12:AV} {y40 y130:AV} {S:Store} {Q:PoT} (I:AV → AV → Store → Prop) (μ:AV → AV → Store → Nat) (h0:I y40 y130 S)
    (hr:∀ (y4 y13:AV) (S:Store),I y4 y13 S → ∀ KE0:KeT,(∀ (y4' y13':AV) (S':Store),I y4' y13' S' → μ y4' y13' S' < μ y4 y13 S → KE0 35 (env175_0 y0 y1 y4' y11 y12 y13') S') → b175_0 y0 y1 y4 y11 y12 y13 S KE0 Q) :
    loopV lv175_0 (vc Tryz.prog (c175.at_ [1,0,1,0,0]) (ms175.drop 1)) 35 (env175_0 y0 y1 y40 y11 y12 y130) S (blockK 0 (seqK (vc Tryz.prog (c175.at_ [1,1]) (ms175.drop 1)) (bodyK Tryz.prog r175 Q))):=by
  refine ⟨fun n e S=>n = 35 ∧ ∃ y4 y13:AV,e = (env175_0 y0 y1 y4 y11 y12 y13) ∧ I y4 y13 S,fun _ e S=>μ (e.getD 2 .j) (e.getD 5 .j) S,?_,?_⟩
  · exact ⟨_,_,Wk.refl _ _,rfl,_,_,rfl,h0⟩
  · rintro _ e S ⟨rfl,y4,y13,rfl,hI⟩
    exact (b175_0_eq _ _ _ _ _ _ _ _ _).mpr (hr y4 y13 S hI _ (fun y4' y13' S' hI' hm=>⟨_,_,Wk.refl _ _,⟨rfl,_,_,rfl,hI'⟩,hm⟩))
noncomputable def c158:Code:=(Tryz.f158.body).getD .skip
noncomputable def r158:List ResultVar:=Tryz.f158.results.toList
def env158_0 (y0 y1 y11 y12 y13:AV):List AV:=[y0,y1,y11,y12,y13]
def lv158_0:List Nat:=[0,1,11,12,13]
def ms158:List (List Nat):=[lv158_0,[]]
def m158 (x0 x1:AV) (S:Store) (Q:PoT):Prop :=
  nilChk x0 S fun v1 S=>shift v1 0 S fun v2 S=>shift v2 1 S fun v3 S=>ld1 v3 S fun v4 S=>lenS v4 S fun v5 S=>loopV lv158_0 (vc Tryz.prog (c158.at_ [1,0,1,0,0]) (ms158.drop 1)) 37 (env158_0 x0 x1 v4 v5 (.v (.int .i64 0))) S (blockK 0 (seqK (vc Tryz.prog (c158.at_ [1,1]) (ms158.drop 1)) (bodyK Tryz.prog r158 Q)))
theorem calls158 {x0 x1:AV} {S:Store} {Q:PoT} (h:m158 x0 x1 S Q):ACalls Tryz.prog 158 [x0,x1] S Q :=
  calls_of_vc (fn:=Tryz.f158) (c:=c158) (n:=37) Tryz.func158 (by kernel_rfl) (by kernel_rfl) (by kernel_rfl) ms158 (Eq.mpr (by kernel_rfl) h)
def b158_0 (y0 y1 y11 y12 y13:AV) (S:Store) (KE0:KeT) (Q:PoT):Prop :=
  bin .lss 0 y13 y12 S fun v6 S=>onB v6 fun b7=>gd b7 (ixS 66 2 y11 y13 S fun v8 S=>ldN 2 v8 S fun v9 S=>boxN 66 2 (.a [(.v (.int .i64 0)),(.v (.int .i64 0))]) S fun v10 S=>stN 2 v10 v9 S fun v11 S=>(fun S0:Store=>∃ q12:AV,(shift v10 1 S fun v13 S=>v13 = q12 ∧ S = S0) ∧ ∃ q14:AV,(ld1 q12 S fun v15 S=>v15 = q14 ∧ S = S0) ∧ ∃ q16:AV,(bin .neq 0 q14 (.v (.int .i64 2)) S fun v17 S=>v17 = q16 ∧ S = S0) ∧ onB q16 fun b18=>gd b18 (∃ q19:AV,(nilChk y0 S fun v20 S=>v20 = q19 ∧ S = S0) ∧ ∃ q21:AV,(shift q19 0 S fun v22 S=>v22 = q21 ∧ S = S0) ∧ ∃ q23:AV,(shift q21 0 S fun v24 S=>v24 = q23 ∧ S = S0) ∧ ∃ q25:AV,(ld1 q23 S fun v26 S=>v26 = q25 ∧ S = S0) ∧ ∃ q27:AV,(bin .add 0 q25 y13 S fun v28 S=>v28 = q27 ∧ S = S0) ∧ ∃ q29:AV,(bin .shr 0 y1 q27 S fun v30 S=>v30 = q29 ∧ S = S0) ∧ ∃ q31:AV,(bin .and 0 q29 (.v (.int .i64 1)) S fun v32 S=>v32 = q31 ∧ S = S0) ∧ ∃ q33:AV,(shift v10 1 S fun v34 S=>v34 = q33 ∧ S = S0) ∧ ∃ q35:AV,(ld1 q33 S fun v36 S=>v36 = q35 ∧ S = S0) ∧ ∃ q37:AV,(bin .neq 0 q31 q35 S fun v38 S=>v38 = q37 ∧ S = S0) ∧ ∃ q39:AV,(q37 = q39 ∧ S = S0) ∧ onB q39 fun b40=>gd b40 (Q (.ret (.v (.bool false))) S) (bin .add 0 y13 (.v (.int .i64 1)) S fun v41 S=>KE0 37 (env158_0 y0 y1 y11 y12 v41) S)) (∃ q42:AV,((.v (.bool false)) = q42 ∧ S = S0) ∧ onB q42 fun b43=>gd b43 (Q (.ret (.v (.bool false))) S) (bin .add 0 y13 (.v (.int .i64 1)) S fun v44 S=>KE0 37 (env158_0 y0 y1 y11 y12 v44) S))) S) (Q (.ret (.v (.bool true))) S)
theorem b158_0_eq (y0 y1 y11 y12 y13:AV) (S:Store) (KE0:KeT) (Q:PoT):vc Tryz.prog (c158.at_ [1,0,1,0,0]) (ms158.drop 1) (mkE 37 lv158_0 (env158_0 y0 y1 y11 y12 y13)) S (thenK (fgK lv158_0 KE0) (blockK 0 (seqK (vc Tryz.prog (c158.at_ [1,1]) (ms158.drop 1)) (bodyK Tryz.prog r158 Q)))) = b158_0 y0 y1 y11 y12 y13 S KE0 Q:=by kernel_rfl
theorem loop158_0 {y0 y1 y11 y12:AV} {y130:AV} {S:Store} {Q:PoT} (I:AV → Store → Prop) (μ:AV → Store → Nat) (h0:I y130 S)
    (hr:∀ (y13:AV) (S:Store),I y13 S → ∀ KE0:KeT,(∀ (y13':AV) (S':Store),I y13' S' → μ y13' S' < μ y13 S → KE0 37 (env158_0 y0 y1 y11 y12 y13') S') → b158_0 y0 y1 y11 y12 y13 S KE0 Q) :
    loopV lv158_0 (vc Tryz.prog (c158.at_ [1,0,1,0,0]) (ms158.drop 1)) 37 (env158_0 y0 y1 y11 y12 y130) S (blockK 0 (seqK (vc Tryz.prog (c158.at_ [1,1]) (ms158.drop 1)) (bodyK Tryz.prog r158 Q))):=by
  refine ⟨fun n e S=>n = 37 ∧ ∃ y13:AV,e = (env158_0 y0 y1 y11 y12 y13) ∧ I y13 S,fun _ e S=>μ (e.getD 4 .j) S,?_,?_⟩
  · exact ⟨_,_,Wk.refl _ _,rfl,_,rfl,h0⟩
  · rintro _ e S ⟨rfl,y13,rfl,hI⟩
    exact (b158_0_eq _ _ _ _ _ _ _ _).mpr (hr y13 S hI _ (fun y13' S' hI' hm=>⟨_,_,Wk.refl _ _,⟨rfl,_,rfl,hI'⟩,hm⟩))
noncomputable def c116:Code:=(Tryz.f116.body).getD .skip
noncomputable def r116:List ResultVar:=Tryz.f116.results.toList
def env116_0 (y0 y1 y5 y6:AV):List AV:=[y0,y1,y5,y6]
def lv116_0:List Nat:=[0,1,5,6]
def ms116:List (List Nat):=[lv116_0,[]]
def m116 (x0 x1:AV) (S:Store) (Q:PoT):Prop :=
  loopV lv116_0 (vc Tryz.prog (c116.at_ [1,1,0,1,0,0]) (ms116.drop 1)) 21 (env116_0 x0 x1 .nl (.v (.int .i64 0))) S (blockK 0 (seqK (vc Tryz.prog (c116.at_ [1,1,1]) (ms116.drop 1)) (bodyK Tryz.prog r116 Q)))
theorem calls116 {x0 x1:AV} {S:Store} {Q:PoT} (h:m116 x0 x1 S Q):ACalls Tryz.prog 116 [x0,x1] S Q :=
  calls_of_vc (fn:=Tryz.f116) (c:=c116) (n:=21) Tryz.func116 (by kernel_rfl) (by kernel_rfl) (by kernel_rfl) ms116 (Eq.mpr (by kernel_rfl) h)
def b116_0 (y0 y1 y5 y6:AV) (S:Store) (KE0:KeT) (Q:PoT):Prop :=
  bin .lss 0 y6 y1 S fun v1 S=>onB v1 fun b2=>gd b2 (bin .shr 0 y0 y6 S fun v3 S=>bin .and 0 v3 (.v (.int .i64 1)) S fun v4 S=>bin .eql 0 v4 (.v (.int .i64 1)) S fun v5 S=>bslN 4 1 1 [(.v (.bool false))] [(0,v5)] S fun v6 S=>appS 4 1 1 y5 v6 S fun v7 S=>bin .add 0 y6 (.v (.int .i64 1)) S fun v8 S=>KE0 21 (env116_0 y0 y1 v7 v8) S) (Q (.ret y5) S)
theorem b116_0_eq (y0 y1 y5 y6:AV) (S:Store) (KE0:KeT) (Q:PoT):vc Tryz.prog (c116.at_ [1,1,0,1,0,0]) (ms116.drop 1) (mkE 21 lv116_0 (env116_0 y0 y1 y5 y6)) S (thenK (fgK lv116_0 KE0) (blockK 0 (seqK (vc Tryz.prog (c116.at_ [1,1,1]) (ms116.drop 1)) (bodyK Tryz.prog r116 Q)))) = b116_0 y0 y1 y5 y6 S KE0 Q:=by kernel_rfl
theorem loop116_0 {y0 y1:AV} {y50 y60:AV} {S:Store} {Q:PoT} (I:AV → AV → Store → Prop) (μ:AV → AV → Store → Nat) (h0:I y50 y60 S)
    (hr:∀ (y5 y6:AV) (S:Store),I y5 y6 S → ∀ KE0:KeT,(∀ (y5' y6':AV) (S':Store),I y5' y6' S' → μ y5' y6' S' < μ y5 y6 S → KE0 21 (env116_0 y0 y1 y5' y6') S') → b116_0 y0 y1 y5 y6 S KE0 Q) :
    loopV lv116_0 (vc Tryz.prog (c116.at_ [1,1,0,1,0,0]) (ms116.drop 1)) 21 (env116_0 y0 y1 y50 y60) S (blockK 0 (seqK (vc Tryz.prog (c116.at_ [1,1,1]) (ms116.drop 1)) (bodyK Tryz.prog r116 Q))):=by
  refine ⟨fun n e S=>n = 21 ∧ ∃ y5 y6:AV,e = (env116_0 y0 y1 y5 y6) ∧ I y5 y6 S,fun _ e S=>μ (e.getD 2 .j) (e.getD 3 .j) S,?_,?_⟩
  · exact ⟨_,_,Wk.refl _ _,rfl,_,_,rfl,h0⟩
  · rintro _ e S ⟨rfl,y5,y6,rfl,hI⟩
    exact (b116_0_eq _ _ _ _ _ _ _).mpr (hr y5 y6 S hI _ (fun y5' y6' S' hI' hm=>⟨_,_,Wk.refl _ _,⟨rfl,_,_,rfl,hI'⟩,hm⟩))
noncomputable def c68:Code:=(Tryz.f68.body).getD .skip
def ms68:List (List Nat):=[[]]
def m68 (x0 x1 x2:AV) (S:Store) (Q:PoT):Prop :=
  boxN 42 8 x0 S fun v1 S=>ldN 8 v1 S fun v2 S=>callF Tryz.prog 65 [v2] S Q fun v3 S=>un .not v3 S fun v4 S=>onB v4 fun b5=>gd b5 (Q (.ret (.v (.bool false))) S) (ldN 8 v1 S fun v6 S=>callF Tryz.prog 41 [v6] S Q fun v7 S=>part1 v7 0 S fun v8 S=>bin .gtr 0 v8 (.v (.int .i64 60)) S fun v9 S=>onB v9 fun b10=>gd b10 (Q (.ret (.v (.bool false))) S) ((fun S0:Store=>∃ q11:AV,(ldN 8 v1 S fun v12 S=>v12 = q11 ∧ S = S0) ∧ ∃ q13:AV,(callF Tryz.prog 41 [q11] S (fun _ _=>False) fun v14 S=>v14 = q13 ∧ S = S0) ∧ ∃ q15:AV,(ldN 8 v1 S fun v16 S=>v16 = q15 ∧ S = S0) ∧ ∃ q17:AV,(callF Tryz.prog 41 [q15] S (fun _ _=>False) fun v18 S=>v18 = q17 ∧ S = S0) ∧ ∃ q19:AV,(part1 q17 0 S fun v20 S=>v20 = q19 ∧ S = S0) ∧ ∃ q21:AV,(callF Tryz.prog 116 [x1,q19] S (fun _ _=>False) fun v22 S=>v22 = q21 ∧ S = S0) ∧ ∃ q23:AV,(callF Tryz.prog 115 [q13,x2,q21] S (fun _ _=>False) fun v24 S=>v24 = q23 ∧ S = S0) ∧ Q (.ret q23) S) S))
theorem calls68 {x0 x1 x2:AV} {S:Store} {Q:PoT} (h:m68 x0 x1 x2 S Q):ACalls Tryz.prog 68 [x0,x1,x2] S Q :=
  calls_of_vc (fn:=Tryz.f68) (c:=c68) (n:=25) Tryz.func68 (by kernel_rfl) (by kernel_rfl) (by kernel_rfl) ms68 (Eq.mpr (by kernel_rfl) h)
noncomputable def c59:Code:=(Tryz.f59.body).getD .skip
noncomputable def r59:List ResultVar:=Tryz.f59.results.toList
def env59_0 (y1 y2 y5 y6:AV):List AV:=[y1,y2,y5,y6]
def lv59_0:List Nat:=[1,2,5,6]
def ms59:List (List Nat):=[lv59_0,[]]
def m59 (x0 x1:AV) (S:Store) (Q:PoT):Prop :=
  boxN 42 8 x0 S fun v1 S=>ldN 8 v1 S fun v2 S=>callF Tryz.prog 65 [v2] S Q fun v3 S=>un .not v3 S fun v4 S=>onB v4 fun b5=>gd b5 (Q (.ret (.v (.int .i64 0))) S) (ldN 8 v1 S fun v6 S=>callF Tryz.prog 41 [v6] S Q fun v7 S=>part1 v7 0 S fun v8 S=>bin .gtr 0 v8 (.v (.int .i64 60)) S fun v9 S=>onB v9 fun b10=>gd b10 (Q (.ret (.v (.int .i64 0))) S) (loopV lv59_0 (vc Tryz.prog (c59.at_ [1,1,1,0,1,0,0]) (ms59.drop 1)) 40 (env59_0 x1 v1 (.v (.int .i64 0)) (.v (.int .i64 0))) S (blockK 0 (seqK (vc Tryz.prog (c59.at_ [1,1,1,1]) (ms59.drop 1)) (bodyK Tryz.prog r59 Q)))))
theorem calls59 {x0 x1:AV} {S:Store} {Q:PoT} (h:m59 x0 x1 S Q):ACalls Tryz.prog 59 [x0,x1] S Q :=
  calls_of_vc (fn:=Tryz.f59) (c:=c59) (n:=40) Tryz.func59 (by kernel_rfl) (by kernel_rfl) (by kernel_rfl) ms59 (Eq.mpr (by kernel_rfl) h)
def b59_0 (y1 y2 y5 y6:AV) (S:Store) (KE0:KeT) (Q:PoT):Prop :=
  shift y2 1 S fun v11 S=>ld1 v11 S fun v12 S=>lenS v12 S fun v13 S=>bin .lss 0 y6 v13 S fun v14 S=>onB v14 fun b15=>gd b15 ((fun S0:Store=>∃ q16:AV,(ldN 8 y2 S fun v17 S=>v17 = q16 ∧ S = S0) ∧ ∃ q18:AV,(shift y2 1 S fun v19 S=>v19 = q18 ∧ S = S0) ∧ ∃ q20:AV,(ld1 q18 S fun v21 S=>v21 = q20 ∧ S = S0) ∧ ∃ q22:AV,(ixS 66 2 q20 y6 S fun v23 S=>v23 = q22 ∧ S = S0) ∧ ∃ q24:AV,(shift q22 0 S fun v25 S=>v25 = q24 ∧ S = S0) ∧ ∃ q26:AV,(ld1 q24 S fun v27 S=>v27 = q26 ∧ S = S0) ∧ ∃ q28:AV,(callF Tryz.prog 68 [q16,y1,q26] S (fun _ _=>False) fun v29 S=>v29 = q28 ∧ S = S0) ∧ onB q28 fun b30=>gd b30 (shift y2 0 S fun v31 S=>ld1 v31 S fun v32 S=>bin .add 0 v32 y6 S fun v33 S=>bin .shl 0 (.v (.int .i64 1)) v33 S fun v34 S=>bin .add 0 y5 v34 S fun v35 S=>bin .add 0 y6 (.v (.int .i64 1)) S fun v36 S=>KE0 40 (env59_0 y1 y2 v35 v36) S) (bin .add 0 y6 (.v (.int .i64 1)) S fun v37 S=>KE0 40 (env59_0 y1 y2 y5 v37) S)) S) (Q (.ret y5) S)
theorem b59_0_eq (y1 y2 y5 y6:AV) (S:Store) (KE0:KeT) (Q:PoT):vc Tryz.prog (c59.at_ [1,1,1,0,1,0,0]) (ms59.drop 1) (mkE 40 lv59_0 (env59_0 y1 y2 y5 y6)) S (thenK (fgK lv59_0 KE0) (blockK 0 (seqK (vc Tryz.prog (c59.at_ [1,1,1,1]) (ms59.drop 1)) (bodyK Tryz.prog r59 Q)))) = b59_0 y1 y2 y5 y6 S KE0 Q:=by kernel_rfl
theorem loop59_0 {y1 y2:AV} {y50 y60:AV} {S:Store} {Q:PoT} (I:AV → AV → Store → Prop) (μ:AV → AV → Store → Nat) (h0:I y50 y60 S)
    (hr:∀ (y5 y6:AV) (S:Store),I y5 y6 S → ∀ KE0:KeT,(∀ (y5' y6':AV) (S':Store),I y5' y6' S' → μ y5' y6' S' < μ y5 y6 S → KE0 40 (env59_0 y1 y2 y5' y6') S') → b59_0 y1 y2 y5 y6 S KE0 Q) :
    loopV lv59_0 (vc Tryz.prog (c59.at_ [1,1,1,0,1,0,0]) (ms59.drop 1)) 40 (env59_0 y1 y2 y50 y60) S (blockK 0 (seqK (vc Tryz.prog (c59.at_ [1,1,1,1]) (ms59.drop 1)) (bodyK Tryz.prog r59 Q))):=by
  refine ⟨fun n e S=>n = 40 ∧ ∃ y5 y6:AV,e = (env59_0 y1 y2 y5 y6) ∧ I y5 y6 S,fun _ e S=>μ (e.getD 2 .j) (e.getD 3 .j) S,?_,?_⟩
  · exact ⟨_,_,Wk.refl _ _,rfl,_,_,rfl,h0⟩
  · rintro _ e S ⟨rfl,y5,y6,rfl,hI⟩
    exact (b59_0_eq _ _ _ _ _ _ _).mpr (hr y5 y6 S hI _ (fun y5' y6' S' hI' hm=>⟨_,_,Wk.refl _ _,⟨rfl,_,_,rfl,hI'⟩,hm⟩))
noncomputable def c173:Code:=(Tryz.f173.body).getD .skip
def ms173:List (List Nat):=[[]]
def m173 (x0 x1:AV) (S:Store) (Q:PoT):Prop :=
  ld1 x1 S fun v1 S=>bin .shr 0 x0 (.v (.int .u64 1)) S fun v2 S=>ixS 4 1 v1 v2 S fun v3 S=>ld1 v3 S fun v4 S=>bin .and 0 x0 (.v (.int .i64 1)) S fun v5 S=>bin .eql 0 v5 (.v (.int .i64 1)) S fun v6 S=>bin .neq 1 v4 v6 S fun v7 S=>Q (.ret v7) S
theorem calls173 {x0 x1:AV} {S:Store} {Q:PoT} (h:m173 x0 x1 S Q):ACalls Tryz.prog 173 [x0,x1] S Q :=
  calls_of_vc (fn:=Tryz.f173) (c:=c173) (n:=13) Tryz.func173 (by kernel_rfl) (by kernel_rfl) (by kernel_rfl) ms173 (Eq.mpr (by kernel_rfl) h)
noncomputable def c154:Code:=(Tryz.f154.body).getD .skip
noncomputable def r154:List ResultVar:=Tryz.f154.results.toList
def env154_0 (y5 y6 y32 y33 y34:AV):List AV:=[y5,y6,y32,y33,y34]
def lv154_0:List Nat:=[5,6,32,33,34]
def ms154:List (List Nat):=[lv154_0,[]]
def m154 (x0 x1:AV) (S:Store) (Q:PoT):Prop :=
  boxN 82 2 x0 S fun v1 S=>ldN 2 v1 S fun v2 S=>callF Tryz.prog 130 [v2] S Q fun v3 S=>un .not v3 S fun v4 S=>onB v4 fun b5=>gd b5 (Q (.ret .nl) S) (lenS x1 S fun v6 S=>shift v1 0 S fun v7 S=>ld1 v7 S fun v8 S=>bin .neq 0 v6 v8 S fun v9 S=>onB v9 fun b10=>gd b10 (Q (.ret .nl) S) (shift v1 0 S fun v11 S=>ld1 v11 S fun v12 S=>bin .add 0 v12 (.v (.int .i64 1)) S fun v13 S=>shift v1 1 S fun v14 S=>ld1 v14 S fun v15 S=>lenS v15 S fun v16 S=>bin .add 0 v13 v16 S fun v17 S=>mkN 4 1 [(.v (.bool false))] (.v (.int .i64 1)) v17 S fun v18 S=>boxN 53 1 .nl S fun v19 S=>stN 1 v19 v18 S fun v20 S=>ld1 v19 S fun v21 S=>appS 4 1 1 v21 x1 S fun v22 S=>stN 1 v19 v22 S fun v23 S=>shift v1 1 S fun v24 S=>ld1 v24 S fun v25 S=>lenS v25 S fun v26 S=>loopV lv154_0 (vc Tryz.prog (c154.at_ [1,1,1,1,1,0,1,0,0]) (ms154.drop 1)) 53 (env154_0 v19 (.f (.func 173) [] [v19]) v25 v26 (.v (.int .i64 0))) S (blockK 0 (seqK (vc Tryz.prog (c154.at_ [1,1,1,1,1,1]) (ms154.drop 1)) (bodyK Tryz.prog r154 Q)))))
theorem calls154 {x0 x1:AV} {S:Store} {Q:PoT} (h:m154 x0 x1 S Q):ACalls Tryz.prog 154 [x0,x1] S Q :=
  calls_of_vc (fn:=Tryz.f154) (c:=c154) (n:=53) Tryz.func154 (by kernel_rfl) (by kernel_rfl) (by kernel_rfl) ms154 (Eq.mpr (by kernel_rfl) h)
def b154_0 (y5 y6 y32 y33 y34:AV) (S:Store) (KE0:KeT) (Q:PoT):Prop :=
  bin .lss 0 y34 y33 S fun v27 S=>onB v27 fun b28=>gd b28 (ixS 124 2 y32 y34 S fun v29 S=>ldN 2 v29 S fun v30 S=>boxN 124 2 (.a [(.v (.int .i64 0)),(.v (.int .i64 0))]) S fun v31 S=>stN 2 v31 v30 S fun v32 S=>∃ q33:AV,(∀ T:Store,Keep S T → ld1 y5 T fun v34 S=>v34 = q33 ∧ S = T) ∧ ∃ q35:AV,(∀ T:Store,Keep S T → ixA 2 1 v31 (.v (.int .i64 0)) T fun v36 S=>v36 = q35 ∧ S = T) ∧ ∃ q37:AV,(∀ T:Store,Keep S T → ld1 q35 T fun v38 S=>v38 = q37 ∧ S = T) ∧ ∃ q39:AV,(∀ T:Store,Keep S T → callV Tryz.prog y6 [q37] T (fun v40 S=>v40 = q39 ∧ S = T) (fun u S=>False)) ∧ onB q39 fun b41=>gd b41 (∃ q42:AV,(∀ T:Store,Keep S T → ixA 2 1 v31 (.v (.int .i64 1)) T fun v43 S=>v43 = q42 ∧ S = T) ∧ ∃ q44:AV,(∀ T:Store,Keep S T → ld1 q42 T fun v45 S=>v45 = q44 ∧ S = T) ∧ ∃ q46:AV,(∀ T:Store,Keep S T → callV Tryz.prog y6 [q44] T (fun v47 S=>v47 = q46 ∧ S = T) (fun u S=>False)) ∧ ∃ q48:AV,(∀ T:Store,Keep S T → q46 = q48 ∧ T = T) ∧ ∃ q49:AV,(∀ T:Store,Keep S T → bslN 4 1 1 [(.v (.bool false))] [(0,q48)] T fun v50 S=>v50 = q49 ∧ S = T) ∧ appS 4 1 1 q33 q49 S fun v51 S=>stN 1 y5 v51 S fun v52 S=>bin .add 0 y34 (.v (.int .i64 1)) S fun v53 S=>KE0 53 (env154_0 y5 y6 y32 y33 v53) S) (∃ q54:AV,(∀ T:Store,Keep S T → (.v (.bool false)) = q54 ∧ T = T) ∧ ∃ q55:AV,(∀ T:Store,Keep S T → bslN 4 1 1 [(.v (.bool false))] [(0,q54)] T fun v56 S=>v56 = q55 ∧ S = T) ∧ appS 4 1 1 q33 q55 S fun v57 S=>stN 1 y5 v57 S fun v58 S=>bin .add 0 y34 (.v (.int .i64 1)) S fun v59 S=>KE0 53 (env154_0 y5 y6 y32 y33 v59) S)) (ld1 y5 S fun v60 S=>Q (.ret v60) S)
theorem b154_0_eq (y5 y6 y32 y33 y34:AV) (S:Store) (KE0:KeT) (Q:PoT):vc Tryz.prog (c154.at_ [1,1,1,1,1,0,1,0,0]) (ms154.drop 1) (mkE 53 lv154_0 (env154_0 y5 y6 y32 y33 y34)) S (thenK (fgK lv154_0 KE0) (blockK 0 (seqK (vc Tryz.prog (c154.at_ [1,1,1,1,1,1]) (ms154.drop 1)) (bodyK Tryz.prog r154 Q)))) = b154_0 y5 y6 y32 y33 y34 S KE0 Q:=by kernel_rfl
theorem loop154_0 {y5 y6 y32 y33:AV} {y340:AV} {S:Store} {Q:PoT} (I:AV → Store → Prop) (μ:AV → Store → Nat) (h0:I y340 S)
    (hr:∀ (y34:AV) (S:Store),I y34 S → ∀ KE0:KeT,(∀ (y34':AV) (S':Store),I y34' S' → μ y34' S' < μ y34 S → KE0 53 (env154_0 y5 y6 y32 y33 y34') S') → b154_0 y5 y6 y32 y33 y34 S KE0 Q) :
    loopV lv154_0 (vc Tryz.prog (c154.at_ [1,1,1,1,1,0,1,0,0]) (ms154.drop 1)) 53 (env154_0 y5 y6 y32 y33 y340) S (blockK 0 (seqK (vc Tryz.prog (c154.at_ [1,1,1,1,1,1]) (ms154.drop 1)) (bodyK Tryz.prog r154 Q))):=by
  refine ⟨fun n e S=>n = 53 ∧ ∃ y34:AV,e = (env154_0 y5 y6 y32 y33 y34) ∧ I y34 S,fun _ e S=>μ (e.getD 4 .j) S,?_,?_⟩
  · exact ⟨_,_,Wk.refl _ _,rfl,_,rfl,h0⟩
  · rintro _ e S ⟨rfl,y34,rfl,hI⟩
    exact (b154_0_eq _ _ _ _ _ _ _ _).mpr (hr y34 S hI _ (fun y34' S' hI' hm=>⟨_,_,Wk.refl _ _,⟨rfl,_,rfl,hI'⟩,hm⟩))
noncomputable def c153:Code:=(Tryz.f153.body).getD .skip
def ms153:List (List Nat):=[[]]
def m153 (x0 x1:AV) (S:Store) (Q:PoT):Prop :=
  bin .quo 0 x1 (.v (.int .i64 2)) S fun v1 S=>ixS 4 1 x0 v1 S fun v2 S=>ld1 v2 S fun v3 S=>bin .rem 0 x1 (.v (.int .i64 2)) S fun v4 S=>bin .eql 0 v4 (.v (.int .i64 1)) S fun v5 S=>bin .neq 1 v3 v5 S fun v6 S=>Q (.ret v6) S
theorem calls153 {x0 x1:AV} {S:Store} {Q:PoT} (h:m153 x0 x1 S Q):ACalls Tryz.prog 153 [x0,x1] S Q :=
  calls_of_vc (fn:=Tryz.f153) (c:=c153) (n:=14) Tryz.func153 (by kernel_rfl) (by kernel_rfl) (by kernel_rfl) ms153 (Eq.mpr (by kernel_rfl) h)
noncomputable def c152:Code:=(Tryz.f152.body).getD .skip
noncomputable def r152:List ResultVar:=Tryz.f152.results.toList
def env152_0 (y2 y5 y6:AV):List AV:=[y2,y5,y6]
def lv152_0:List Nat:=[2,5,6]
def ms152:List (List Nat):=[lv152_0,[]]
def m152 (x0 x1:AV) (S:Store) (Q:PoT):Prop :=
  boxN 82 2 x0 S fun v1 S=>ldN 2 v1 S fun v2 S=>callF Tryz.prog 111 [v2] S Q fun v3 S=>un .not v3 S fun v4 S=>onB v4 fun b5=>gd b5 (Q (.ret .nl) S) (lenS x1 S fun v6 S=>shift v1 0 S fun v7 S=>ld1 v7 S fun v8 S=>bin .neq 0 v6 v8 S fun v9 S=>onB v9 fun b10=>gd b10 (Q (.ret .nl) S) (bslN 4 1 1 [(.v (.bool false))] [(0,(.v (.bool false)))] S fun v11 S=>appS 4 1 1 v11 x1 S fun v12 S=>loopV lv152_0 (vc Tryz.prog (c152.at_ [1,1,1,0,1,0,0]) (ms152.drop 1)) 49 (env152_0 v1 v12 (.v (.int .i64 0))) S (blockK 0 (seqK (vc Tryz.prog (c152.at_ [1,1,1,1]) (ms152.drop 1)) (bodyK Tryz.prog r152 Q)))))
theorem calls152 {x0 x1:AV} {S:Store} {Q:PoT} (h:m152 x0 x1 S Q):ACalls Tryz.prog 152 [x0,x1] S Q :=
  calls_of_vc (fn:=Tryz.f152) (c:=c152) (n:=49) Tryz.func152 (by kernel_rfl) (by kernel_rfl) (by kernel_rfl) ms152 (Eq.mpr (by kernel_rfl) h)
def b152_0 (y2 y5 y6:AV) (S:Store) (KE0:KeT) (Q:PoT):Prop :=
  shift y2 1 S fun v13 S=>ld1 v13 S fun v14 S=>lenS v14 S fun v15 S=>bin .lss 0 y6 v15 S fun v16 S=>onB v16 fun b17=>gd b17 (shift y2 1 S fun v18 S=>ld1 v18 S fun v19 S=>ixS 124 2 v19 y6 S fun v20 S=>ixA 2 1 v20 (.v (.int .i64 0)) S fun v21 S=>ld1 v21 S fun v22 S=>callF Tryz.prog 153 [y5,v22] S Q fun v23 S=>onB v23 fun b24=>gd b24 (shift y2 1 S fun v25 S=>ld1 v25 S fun v26 S=>ixS 124 2 v26 y6 S fun v27 S=>ixA 2 1 v27 (.v (.int .i64 1)) S fun v28 S=>ld1 v28 S fun v29 S=>callF Tryz.prog 153 [y5,v29] S Q fun v30 S=>bslN 4 1 1 [(.v (.bool false))] [(0,v30)] S fun v31 S=>appS 4 1 1 y5 v31 S fun v32 S=>bin .add 0 y6 (.v (.int .i64 1)) S fun v33 S=>KE0 49 (env152_0 y2 v32 v33) S) (bslN 4 1 1 [(.v (.bool false))] [(0,(.v (.bool false)))] S fun v34 S=>appS 4 1 1 y5 v34 S fun v35 S=>bin .add 0 y6 (.v (.int .i64 1)) S fun v36 S=>KE0 49 (env152_0 y2 v35 v36) S)) (Q (.ret y5) S)
theorem b152_0_eq (y2 y5 y6:AV) (S:Store) (KE0:KeT) (Q:PoT):vc Tryz.prog (c152.at_ [1,1,1,0,1,0,0]) (ms152.drop 1) (mkE 49 lv152_0 (env152_0 y2 y5 y6)) S (thenK (fgK lv152_0 KE0) (blockK 0 (seqK (vc Tryz.prog (c152.at_ [1,1,1,1]) (ms152.drop 1)) (bodyK Tryz.prog r152 Q)))) = b152_0 y2 y5 y6 S KE0 Q:=by kernel_rfl
theorem loop152_0 {y2:AV} {y50 y60:AV} {S:Store} {Q:PoT} (I:AV → AV → Store → Prop) (μ:AV → AV → Store → Nat) (h0:I y50 y60 S)
    (hr:∀ (y5 y6:AV) (S:Store),I y5 y6 S → ∀ KE0:KeT,(∀ (y5' y6':AV) (S':Store),I y5' y6' S' → μ y5' y6' S' < μ y5 y6 S → KE0 49 (env152_0 y2 y5' y6') S') → b152_0 y2 y5 y6 S KE0 Q) :
    loopV lv152_0 (vc Tryz.prog (c152.at_ [1,1,1,0,1,0,0]) (ms152.drop 1)) 49 (env152_0 y2 y50 y60) S (blockK 0 (seqK (vc Tryz.prog (c152.at_ [1,1,1,1]) (ms152.drop 1)) (bodyK Tryz.prog r152 Q))):=by
  refine ⟨fun n e S=>n = 49 ∧ ∃ y5 y6:AV,e = (env152_0 y2 y5 y6) ∧ I y5 y6 S,fun _ e S=>μ (e.getD 1 .j) (e.getD 2 .j) S,?_,?_⟩
  · exact ⟨_,_,Wk.refl _ _,rfl,_,_,rfl,h0⟩
  · rintro _ e S ⟨rfl,y5,y6,rfl,hI⟩
    exact (b152_0_eq _ _ _ _ _ _).mpr (hr y5 y6 S hI _ (fun y5' y6' S' hI' hm=>⟨_,_,Wk.refl _ _,⟨rfl,_,_,rfl,hI'⟩,hm⟩))
noncomputable def c115:Code:=(Tryz.f115.body).getD .skip
def ms115:List (List Nat):=[[]]
def m115 (x0 x1 x2:AV) (S:Store) (Q:PoT):Prop :=
  boxN 82 2 x0 S fun v1 S=>ldN 2 v1 S fun v2 S=>callF Tryz.prog 152 [v2,x2] S Q fun v3 S=>lenS v3 S fun v4 S=>bin .gtr 0 v4 (.v (.int .i64 0)) S fun v5 S=>onB v5 fun b6=>gd b6 (ldN 2 v1 S fun v7 S=>callF Tryz.prog 112 [v7,x1] S Q fun v8 S=>onB v8 fun b9=>gd b9 (callF Tryz.prog 153 [v3,x1] S Q fun v10 S=>Q (.ret v10) S) (Q (.ret (.v (.bool false))) S)) (Q (.ret (.v (.bool false))) S)
theorem calls115 {x0 x1 x2:AV} {S:Store} {Q:PoT} (h:m115 x0 x1 x2 S Q):ACalls Tryz.prog 115 [x0,x1,x2] S Q :=
  calls_of_vc (fn:=Tryz.f115) (c:=c115) (n:=24) Tryz.func115 (by kernel_rfl) (by kernel_rfl) (by kernel_rfl) ms115 (Eq.mpr (by kernel_rfl) h)
noncomputable def c65:Code:=(Tryz.f65.body).getD .skip
noncomputable def r65:List ResultVar:=Tryz.f65.results.toList
def env65_0 (y1 y3 y4:AV):List AV:=[y1,y3,y4]
def lv65_0:List Nat:=[1,3,4]
def ms65:List (List Nat):=[lv65_0,[]]
def m65 (x0:AV) (S:Store) (Q:PoT):Prop :=
  boxN 42 8 x0 S fun v1 S=>ldN 8 v1 S fun v2 S=>callF Tryz.prog 41 [v2] S Q fun v3 S=>boxN 82 2 (.a [(.v (.int .i64 0)),.nl]) S fun v4 S=>stN 2 v4 v3 S fun v5 S=>shift v1 0 S fun v6 S=>ld1 v6 S fun v7 S=>bin .lss 0 v7 (.v (.int .i64 0)) S fun v8 S=>onB v8 fun b9=>gd b9 (Q (.ret (.v (.bool false))) S) (shift v1 0 S fun v10 S=>ld1 v10 S fun v11 S=>bin .gtr 0 v11 (.v (.int .i64 2000)) S fun v12 S=>onB v12 fun b13=>gd b13 (Q (.ret (.v (.bool false))) S) (shift v1 1 S fun v14 S=>ld1 v14 S fun v15 S=>lenS v15 S fun v16 S=>bin .gtr 0 v16 (.v (.int .i64 2000)) S fun v17 S=>onB v17 fun b18=>gd b18 (Q (.ret (.v (.bool false))) S) (ldN 2 v4 S fun v19 S=>callF Tryz.prog 111 [v19] S Q fun v20 S=>un .not v20 S fun v21 S=>onB v21 fun b22=>gd b22 (Q (.ret (.v (.bool false))) S) (loopV lv65_0 (vc Tryz.prog (c65.at_ [1,1,1,0,1,0,0]) (ms65.drop 1)) 86 (env65_0 v1 v4 (.v (.int .i64 0))) S (blockK 0 (seqK (vc Tryz.prog (c65.at_ [1,1,1,1]) (ms65.drop 1)) (bodyK Tryz.prog r65 Q)))))))
theorem calls65 {x0:AV} {S:Store} {Q:PoT} (h:m65 x0 S Q):ACalls Tryz.prog 65 [x0] S Q :=
  calls_of_vc (fn:=Tryz.f65) (c:=c65) (n:=86) Tryz.func65 (by kernel_rfl) (by kernel_rfl) (by kernel_rfl) ms65 (Eq.mpr (by kernel_rfl) h)
def b65_0 (y1 y3 y4:AV) (S:Store) (KE0:KeT) (Q:PoT):Prop :=
  shift y1 1 S fun v23 S=>ld1 v23 S fun v24 S=>lenS v24 S fun v25 S=>bin .lss 0 y4 v25 S fun v26 S=>onB v26 fun b27=>gd b27 ((fun S0:Store=>∃ q28:AV,(ldN 2 y3 S fun v29 S=>v29 = q28 ∧ S = S0) ∧ ∃ q30:AV,(shift y1 1 S fun v31 S=>v31 = q30 ∧ S = S0) ∧ ∃ q32:AV,(ld1 q30 S fun v33 S=>v33 = q32 ∧ S = S0) ∧ ∃ q34:AV,(ixS 66 2 q32 y4 S fun v35 S=>v35 = q34 ∧ S = S0) ∧ ∃ q36:AV,(shift q34 0 S fun v37 S=>v37 = q36 ∧ S = S0) ∧ ∃ q38:AV,(ld1 q36 S fun v39 S=>v39 = q38 ∧ S = S0) ∧ ∃ q40:AV,(callF Tryz.prog 112 [q28,q38] S (fun _ _=>False) fun v41 S=>v41 = q40 ∧ S = S0) ∧ ∃ q42:AV,(un .not q40 S fun v43 S=>v43 = q42 ∧ S = S0) ∧ onB q42 fun b44=>gd b44 (∃ q45:AV,((.v (.bool true)) = q45 ∧ S = S0) ∧ onB q45 fun b46=>gd b46 (∃ q47:AV,((.v (.bool true)) = q47 ∧ S = S0) ∧ onB q47 fun b48=>gd b48 (Q (.ret (.v (.bool false))) S) (bin .add 0 y4 (.v (.int .i64 1)) S fun v49 S=>KE0 86 (env65_0 y1 y3 v49) S)) (∃ q50:AV,(shift y1 1 S fun v51 S=>v51 = q50 ∧ S = S0) ∧ ∃ q52:AV,(ld1 q50 S fun v53 S=>v53 = q52 ∧ S = S0) ∧ ∃ q54:AV,(ixS 66 2 q52 y4 S fun v55 S=>v55 = q54 ∧ S = S0) ∧ ∃ q56:AV,(shift q54 1 S fun v57 S=>v57 = q56 ∧ S = S0) ∧ ∃ q58:AV,(ld1 q56 S fun v59 S=>v59 = q58 ∧ S = S0) ∧ ∃ q60:AV,(bin .gtr 0 q58 (.v (.int .i64 2)) S fun v61 S=>v61 = q60 ∧ S = S0) ∧ ∃ q62:AV,(q60 = q62 ∧ S = S0) ∧ onB q62 fun b63=>gd b63 (Q (.ret (.v (.bool false))) S) (bin .add 0 y4 (.v (.int .i64 1)) S fun v64 S=>KE0 86 (env65_0 y1 y3 v64) S))) (∃ q65:AV,(shift y1 1 S fun v66 S=>v66 = q65 ∧ S = S0) ∧ ∃ q67:AV,(ld1 q65 S fun v68 S=>v68 = q67 ∧ S = S0) ∧ ∃ q69:AV,(ixS 66 2 q67 y4 S fun v70 S=>v70 = q69 ∧ S = S0) ∧ ∃ q71:AV,(shift q69 1 S fun v72 S=>v72 = q71 ∧ S = S0) ∧ ∃ q73:AV,(ld1 q71 S fun v74 S=>v74 = q73 ∧ S = S0) ∧ ∃ q75:AV,(bin .lss 0 q73 (.v (.int .i64 0)) S fun v76 S=>v76 = q75 ∧ S = S0) ∧ ∃ q77:AV,(q75 = q77 ∧ S = S0) ∧ onB q77 fun b78=>gd b78 (∃ q79:AV,((.v (.bool true)) = q79 ∧ S = S0) ∧ onB q79 fun b80=>gd b80 (Q (.ret (.v (.bool false))) S) (bin .add 0 y4 (.v (.int .i64 1)) S fun v81 S=>KE0 86 (env65_0 y1 y3 v81) S)) (∃ q82:AV,(shift y1 1 S fun v83 S=>v83 = q82 ∧ S = S0) ∧ ∃ q84:AV,(ld1 q82 S fun v85 S=>v85 = q84 ∧ S = S0) ∧ ∃ q86:AV,(ixS 66 2 q84 y4 S fun v87 S=>v87 = q86 ∧ S = S0) ∧ ∃ q88:AV,(shift q86 1 S fun v89 S=>v89 = q88 ∧ S = S0) ∧ ∃ q90:AV,(ld1 q88 S fun v91 S=>v91 = q90 ∧ S = S0) ∧ ∃ q92:AV,(bin .gtr 0 q90 (.v (.int .i64 2)) S fun v93 S=>v93 = q92 ∧ S = S0) ∧ ∃ q94:AV,(q92 = q94 ∧ S = S0) ∧ onB q94 fun b95=>gd b95 (Q (.ret (.v (.bool false))) S) (bin .add 0 y4 (.v (.int .i64 1)) S fun v96 S=>KE0 86 (env65_0 y1 y3 v96) S)))) S) (ldN 2 y3 S fun v97 S=>shift y1 3 S fun v98 S=>ld1 v98 S fun v99 S=>callF Tryz.prog 113 [v97,v99] S Q fun v100 S=>onB v100 fun b101=>gd b101 (ldN 2 y3 S fun v102 S=>shift y1 4 S fun v103 S=>ld1 v103 S fun v104 S=>callF Tryz.prog 113 [v102,v104] S Q fun v105 S=>onB v105 fun b106=>gd b106 (ldN 2 y3 S fun v107 S=>shift y1 5 S fun v108 S=>ld1 v108 S fun v109 S=>callF Tryz.prog 113 [v107,v109] S Q fun v110 S=>onB v110 fun b111=>gd b111 (ldN 2 y3 S fun v112 S=>shift y1 6 S fun v113 S=>ld1 v113 S fun v114 S=>callF Tryz.prog 113 [v112,v114] S Q fun v115 S=>onB v115 fun b116=>gd b116 (ldN 8 y1 S fun v117 S=>callF Tryz.prog 114 [v117] S Q fun v118 S=>Q (.ret v118) S) (Q (.ret (.v (.bool false))) S)) (Q (.ret (.v (.bool false))) S)) (Q (.ret (.v (.bool false))) S)) (Q (.ret (.v (.bool false))) S))
theorem b65_0_eq (y1 y3 y4:AV) (S:Store) (KE0:KeT) (Q:PoT):vc Tryz.prog (c65.at_ [1,1,1,0,1,0,0]) (ms65.drop 1) (mkE 86 lv65_0 (env65_0 y1 y3 y4)) S (thenK (fgK lv65_0 KE0) (blockK 0 (seqK (vc Tryz.prog (c65.at_ [1,1,1,1]) (ms65.drop 1)) (bodyK Tryz.prog r65 Q)))) = b65_0 y1 y3 y4 S KE0 Q:=by kernel_rfl
theorem loop65_0 {y1 y3:AV} {y40:AV} {S:Store} {Q:PoT} (I:AV → Store → Prop) (μ:AV → Store → Nat) (h0:I y40 S)
    (hr:∀ (y4:AV) (S:Store),I y4 S → ∀ KE0:KeT,(∀ (y4':AV) (S':Store),I y4' S' → μ y4' S' < μ y4 S → KE0 86 (env65_0 y1 y3 y4') S') → b65_0 y1 y3 y4 S KE0 Q) :
    loopV lv65_0 (vc Tryz.prog (c65.at_ [1,1,1,0,1,0,0]) (ms65.drop 1)) 86 (env65_0 y1 y3 y40) S (blockK 0 (seqK (vc Tryz.prog (c65.at_ [1,1,1,1]) (ms65.drop 1)) (bodyK Tryz.prog r65 Q))):=by
  refine ⟨fun n e S=>n = 86 ∧ ∃ y4:AV,e = (env65_0 y1 y3 y4) ∧ I y4 S,fun _ e S=>μ (e.getD 2 .j) S,?_,?_⟩
  · exact ⟨_,_,Wk.refl _ _,rfl,_,rfl,h0⟩
  · rintro _ e S ⟨rfl,y4,rfl,hI⟩
    exact (b65_0_eq _ _ _ _ _ _).mpr (hr y4 S hI _ (fun y4' S' hI' hm=>⟨_,_,Wk.refl _ _,⟨rfl,_,rfl,hI'⟩,hm⟩))
noncomputable def c128:Code:=(Tryz.f128.body).getD .skip
def ms128:List (List Nat):=[[]]
def m128 (x0 x1:AV) (S:Store) (Q:PoT):Prop :=
  ldN 2 x1 S fun v1 S=>callF Tryz.prog 88 [v1,x0] S Q fun v2 S=>un .not v2 S fun v3 S=>Q (.ret v3) S
theorem calls128 {x0 x1:AV} {S:Store} {Q:PoT} (h:m128 x0 x1 S Q):ACalls Tryz.prog 128 [x0,x1] S Q :=
  calls_of_vc (fn:=Tryz.f128) (c:=c128) (n:=8) Tryz.func128 (by kernel_rfl) (by kernel_rfl) (by kernel_rfl) ms128 (Eq.mpr (by kernel_rfl) h)
noncomputable def c129:Code:=(Tryz.f129.body).getD .skip
def ms129:List (List Nat):=[[]]
def m129 (x0 x1:AV) (S:Store) (Q:PoT):Prop :=
  boxN 66 2 x0 S fun v1 S=>ld1 x1 S fun v2 S=>shift v1 0 S fun v3 S=>ld1 v3 S fun v4 S=>callV Tryz.prog v2 [v4] S (fun v5 S=>onB v5 fun b6=>gd b6 (Q (.ret (.v (.bool true))) S) (shift v1 1 S fun v7 S=>ld1 v7 S fun v8 S=>bin .lss 0 v8 (.v (.int .i64 0)) S fun v9 S=>onB v9 fun b10=>gd b10 (Q (.ret (.v (.bool true))) S) (shift v1 1 S fun v11 S=>ld1 v11 S fun v12 S=>bin .gtr 0 v12 (.v (.int .i64 2)) S fun v13 S=>Q (.ret v13) S))) (fun u S=>Q (.pan u) S)
theorem calls129 {x0 x1:AV} {S:Store} {Q:PoT} (h:m129 x0 x1 S Q):ACalls Tryz.prog 129 [x0,x1] S Q :=
  calls_of_vc (fn:=Tryz.f129) (c:=c129) (n:=18) Tryz.func129 (by kernel_rfl) (by kernel_rfl) (by kernel_rfl) ms129 (Eq.mpr (by kernel_rfl) h)
noncomputable def c165:Code:=(Tryz.f165.body).getD .skip
noncomputable def r165:List ResultVar:=Tryz.f165.results.toList
def env165_0 (y0 y1 y7 y8:AV):List AV:=[y0,y1,y7,y8]
def lv165_0:List Nat:=[0,1,7,8]
def ms165:List (List Nat):=[lv165_0,[]]
def m165 (x0 x1:AV) (S:Store) (Q:PoT):Prop :=
  lenS x0 S fun v1 S=>loopV lv165_0 (vc Tryz.prog (c165.at_ [1,0,1,0,0]) (ms165.drop 1)) 19 (env165_0 x0 x1 v1 (.v (.int .i64 0))) S (blockK 0 (seqK (vc Tryz.prog (c165.at_ [1,1]) (ms165.drop 1)) (bodyK Tryz.prog r165 Q)))
theorem calls165 {x0 x1:AV} {S:Store} {Q:PoT} (h:m165 x0 x1 S Q):ACalls Tryz.prog 165 [x0,x1] S Q :=
  calls_of_vc (fn:=Tryz.f165) (c:=c165) (n:=19) Tryz.func165 (by kernel_rfl) (by kernel_rfl) (by kernel_rfl) ms165 (Eq.mpr (by kernel_rfl) h)
def b165_0 (y0 y1 y7 y8:AV) (S:Store) (KE0:KeT) (Q:PoT):Prop :=
  bin .lss 0 y8 y7 S fun v2 S=>onB v2 fun b3=>gd b3 (ixS 66 2 y0 y8 S fun v4 S=>ldN 2 v4 S fun v5 S=>callV Tryz.prog y1 [v5] S (fun v6 S=>onB v6 fun b7=>gd b7 (Q (.ret y8) S) (bin .add 0 y8 (.v (.int .i64 1)) S fun v8 S=>KE0 19 (env165_0 y0 y1 y7 v8) S)) (fun u S=>Q (.pan u) S)) (Q (.ret (.v (.int .i64 (-1)))) S)
theorem b165_0_eq (y0 y1 y7 y8:AV) (S:Store) (KE0:KeT) (Q:PoT):vc Tryz.prog (c165.at_ [1,0,1,0,0]) (ms165.drop 1) (mkE 19 lv165_0 (env165_0 y0 y1 y7 y8)) S (thenK (fgK lv165_0 KE0) (blockK 0 (seqK (vc Tryz.prog (c165.at_ [1,1]) (ms165.drop 1)) (bodyK Tryz.prog r165 Q)))) = b165_0 y0 y1 y7 y8 S KE0 Q:=by kernel_rfl
theorem loop165_0 {y0 y1 y7:AV} {y80:AV} {S:Store} {Q:PoT} (I:AV → Store → Prop) (μ:AV → Store → Nat) (h0:I y80 S)
    (hr:∀ (y8:AV) (S:Store),I y8 S → ∀ KE0:KeT,(∀ (y8':AV) (S':Store),I y8' S' → μ y8' S' < μ y8 S → KE0 19 (env165_0 y0 y1 y7 y8') S') → b165_0 y0 y1 y7 y8 S KE0 Q) :
    loopV lv165_0 (vc Tryz.prog (c165.at_ [1,0,1,0,0]) (ms165.drop 1)) 19 (env165_0 y0 y1 y7 y80) S (blockK 0 (seqK (vc Tryz.prog (c165.at_ [1,1]) (ms165.drop 1)) (bodyK Tryz.prog r165 Q))):=by
  refine ⟨fun n e S=>n = 19 ∧ ∃ y8:AV,e = (env165_0 y0 y1 y7 y8) ∧ I y8 S,fun _ e S=>μ (e.getD 3 .j) S,?_,?_⟩
  · exact ⟨_,_,Wk.refl _ _,rfl,_,rfl,h0⟩
  · rintro _ e S ⟨rfl,y8,rfl,hI⟩
    exact (b165_0_eq _ _ _ _ _ _ _).mpr (hr y8 S hI _ (fun y8' S' hI' hm=>⟨_,_,Wk.refl _ _,⟨rfl,_,rfl,hI'⟩,hm⟩))
noncomputable def c131:Code:=(Tryz.f131.body).getD .skip
def ms131:List (List Nat):=[[]]
def m131 (x0 x1:AV) (S:Store) (Q:PoT):Prop :=
  callF Tryz.prog 165 [x0,x1] S Q fun v1 S=>bin .geq 0 v1 (.v (.int .i64 0)) S fun v2 S=>Q (.ret v2) S
theorem calls131 {x0 x1:AV} {S:Store} {Q:PoT} (h:m131 x0 x1 S Q):ACalls Tryz.prog 131 [x0,x1] S Q :=
  calls_of_vc (fn:=Tryz.f131) (c:=c131) (n:=9) Tryz.func131 (by kernel_rfl) (by kernel_rfl) (by kernel_rfl) ms131 (Eq.mpr (by kernel_rfl) h)
noncomputable def c85:Code:=(Tryz.f85.body).getD .skip
noncomputable def r85:List ResultVar:=Tryz.f85.results.toList
def env85_0 (y1 y3 y14:AV):List AV:=[y1,y3,y14]
def lv85_0:List Nat:=[1,3,14]
def env85_1 (y1 y6 y44 y45:AV):List AV:=[y1,y6,y44,y45]
def lv85_1:List Nat:=[1,6,44,45]
def ms85:List (List Nat):=[lv85_0,lv85_1,[]]
def m85 (x0:AV) (S:Store) (Q:PoT):Prop :=
  boxN 42 8 x0 S fun v1 S=>ldN 8 v1 S fun v2 S=>callF Tryz.prog 84 [v2] S Q fun v3 S=>boxN 82 2 (.a [(.v (.int .i64 0)),.nl]) S fun v4 S=>stN 2 v4 v3 S fun v5 S=>ldN 8 v1 S fun v6 S=>callF Tryz.prog 127 [v6] S Q fun v7 S=>rngM v7 S fun v8 S=>loopV lv85_0 (vc Tryz.prog (c85.at_ [1,1,0,1,0,0]) (ms85.drop 1)) 54 (env85_0 v1 v4 v8) S (blockK 0 (seqK (vc Tryz.prog (c85.at_ [1,1,1]) (ms85.drop 1)) (bodyK Tryz.prog r85 Q)))
theorem calls85 {x0:AV} {S:Store} {Q:PoT} (h:m85 x0 S Q):ACalls Tryz.prog 85 [x0] S Q :=
  calls_of_vc (fn:=Tryz.f85) (c:=c85) (n:=54) Tryz.func85 (by kernel_rfl) (by kernel_rfl) (by kernel_rfl) ms85 (Eq.mpr (by kernel_rfl) h)
def b85_0 (y1 y3 y14:AV) (S:Store) (KE0:KeT) (Q:PoT):Prop :=
  nextM false y14 S fun v9 S=>extr v9 0 S fun v10 S=>onB v10 fun b11=>gd b11 (entryM y14 S fun v12 S=>extr v12 1 S fun v13 S=>bin .lss 0 v13 (.v (.int .i64 0)) S fun v14 S=>onB v14 fun b15=>gd b15 (Q (.ret (.v (.bool false))) S) (bin .gtr 0 v13 (.v (.int .i64 2000)) S fun v16 S=>onB v16 fun b17=>gd b17 (Q (.ret (.v (.bool false))) S) (KE0 54 (env85_0 y1 y3 y14) S))) (boxN 134 1 (.v .nilFunc) S fun v18 S=>stN 1 v18 (.f (.func 128) [] [y3]) S fun v19 S=>ldN 2 y3 S fun v20 S=>callF Tryz.prog 130 [v20] S Q fun v21 S=>un .not v21 S fun v22 S=>onB v22 fun b23=>gd b23 (Q (.ret (.v (.bool false))) S) (shift y1 1 S fun v24 S=>ld1 v24 S fun v25 S=>callF Tryz.prog 131 [v25,(.f (.func 129) [] [v18])] S Q fun v26 S=>onB v26 fun b27=>gd b27 (Q (.ret (.v (.bool false))) S) (shift y1 3 S fun v28 S=>ld1 v28 S fun v29 S=>shift y1 4 S fun v30 S=>ld1 v30 S fun v31 S=>shift y1 5 S fun v32 S=>ld1 v32 S fun v33 S=>shift y1 6 S fun v34 S=>ld1 v34 S fun v35 S=>bld [(0,1),(1,1),(2,1),(3,1)] [.nl,.nl,.nl,.nl] [(0,v29),(1,v31),(2,v33),(3,v35)] S fun v36 S=>loopV lv85_1 (vc Tryz.prog (c85.at_ [1,1,1,1,1,1,0,1,0,0]) (ms85.drop 2)) 54 (env85_1 y1 v18 v36 (.v (.int .i64 0))) S (blockK 2 (seqK (vc Tryz.prog (c85.at_ [1,1,1,1,1,1,1]) (ms85.drop 2)) (bodyK Tryz.prog r85 Q))))))
theorem b85_0_eq (y1 y3 y14:AV) (S:Store) (KE0:KeT) (Q:PoT):vc Tryz.prog (c85.at_ [1,1,0,1,0,0]) (ms85.drop 1) (mkE 54 lv85_0 (env85_0 y1 y3 y14)) S (thenK (fgK lv85_0 KE0) (blockK 0 (seqK (vc Tryz.prog (c85.at_ [1,1,1]) (ms85.drop 1)) (bodyK Tryz.prog r85 Q)))) = b85_0 y1 y3 y14 S KE0 Q:=by kernel_rfl
theorem loop85_0 {y1 y3 y14:AV} {S:Store} {Q:PoT} (I:Store → Prop) (μ:Store → Nat) (h0:I  S)
    (hr:∀ (S:Store),I  S → ∀ KE0:KeT,(∀ (S':Store),I  S' → μ  S' < μ  S → KE0 54 (env85_0 y1 y3 y14) S') → b85_0 y1 y3 y14 S KE0 Q) :
    loopV lv85_0 (vc Tryz.prog (c85.at_ [1,1,0,1,0,0]) (ms85.drop 1)) 54 (env85_0 y1 y3 y14) S (blockK 0 (seqK (vc Tryz.prog (c85.at_ [1,1,1]) (ms85.drop 1)) (bodyK Tryz.prog r85 Q))):=by
  refine ⟨fun n e S=>n = 54 ∧ e = (env85_0 y1 y3 y14) ∧ I  S,fun _ e S=>μ  S,?_,?_⟩
  · exact ⟨_,_,Wk.refl _ _,rfl,rfl,h0⟩
  · rintro _ e S ⟨rfl,rfl,hI⟩
    exact (b85_0_eq _ _ _ _ _ _).mpr (hr  S hI _ (fun  S' hI' hm=>⟨_,_,Wk.refl _ _,⟨rfl,rfl,hI'⟩,hm⟩))
def b85_1 (y1 y6 y44 y45:AV) (S:Store) (KE1:KeT) (Q:PoT):Prop :=
  bin .lss 0 y45 (.v (.int .i64 4)) S fun v37 S=>onB v37 fun b38=>gd b38 (optP (intA y45) fun z39=>(0 ≤ z39 ∧ z39 < ((4:Nat):Int)) ∧ part1 y44 (z39.toNat * 1) S fun v40 S=>ld1 y6 S fun v41 S=>callF Tryz.prog 132 [v40,v41] S Q fun v42 S=>onB v42 fun b43=>gd b43 (Q (.ret (.v (.bool false))) S) (bin .add 0 y45 (.v (.int .i64 1)) S fun v44 S=>KE1 54 (env85_1 y1 y6 y44 v44) S)) (ldN 8 y1 S fun v45 S=>callF Tryz.prog 133 [v45] S Q fun v46 S=>Q (.ret v46) S)
theorem b85_1_eq (y1 y6 y44 y45:AV) (S:Store) (KE1:KeT) (Q:PoT):vc Tryz.prog (c85.at_ [1,1,1,1,1,1,0,1,0,0]) (ms85.drop 2) (mkE 54 lv85_1 (env85_1 y1 y6 y44 y45)) S (thenK (fgK lv85_1 KE1) (blockK 2 (seqK (vc Tryz.prog (c85.at_ [1,1,1,1,1,1,1]) (ms85.drop 2)) (bodyK Tryz.prog r85 Q)))) = b85_1 y1 y6 y44 y45 S KE1 Q:=by kernel_rfl
theorem loop85_1 {y1 y6 y44:AV} {y450:AV} {S:Store} {Q:PoT} (I:AV → Store → Prop) (μ:AV → Store → Nat) (h0:I y450 S)
    (hr:∀ (y45:AV) (S:Store),I y45 S → ∀ KE1:KeT,(∀ (y45':AV) (S':Store),I y45' S' → μ y45' S' < μ y45 S → KE1 54 (env85_1 y1 y6 y44 y45') S') → b85_1 y1 y6 y44 y45 S KE1 Q) :
    loopV lv85_1 (vc Tryz.prog (c85.at_ [1,1,1,1,1,1,0,1,0,0]) (ms85.drop 2)) 54 (env85_1 y1 y6 y44 y450) S (blockK 2 (seqK (vc Tryz.prog (c85.at_ [1,1,1,1,1,1,1]) (ms85.drop 2)) (bodyK Tryz.prog r85 Q))):=by
  refine ⟨fun n e S=>n = 54 ∧ ∃ y45:AV,e = (env85_1 y1 y6 y44 y45) ∧ I y45 S,fun _ e S=>μ (e.getD 3 .j) S,?_,?_⟩
  · exact ⟨_,_,Wk.refl _ _,rfl,_,rfl,h0⟩
  · rintro _ e S ⟨rfl,y45,rfl,hI⟩
    exact (b85_1_eq _ _ _ _ _ _ _).mpr (hr y45 S hI _ (fun y45' S' hI' hm=>⟨_,_,Wk.refl _ _,⟨rfl,_,rfl,hI'⟩,hm⟩))
noncomputable def c114:Code:=(Tryz.f114.body).getD .skip
noncomputable def r114:List ResultVar:=Tryz.f114.results.toList
def env114_0 (y1 y3:AV):List AV:=[y1,y3]
def lv114_0:List Nat:=[1,3]
def env114_1 (y1 y3 y4 y5:AV):List AV:=[y1,y3,y4,y5]
def lv114_1:List Nat:=[1,3,4,5]
def ms114:List (List Nat):=[lv114_0,lv114_1,[]]
def m114 (x0:AV) (S:Store) (Q:PoT):Prop :=
  boxN 42 8 x0 S fun v1 S=>loopV lv114_0 (vc Tryz.prog (c114.at_ [1,0,1,0,0]) (ms114.drop 1)) 85 (env114_0 v1 (.v (.int .i64 0))) S (blockK 0 (seqK (vc Tryz.prog (c114.at_ [1,1]) (ms114.drop 2)) (bodyK Tryz.prog r114 Q)))
theorem calls114 {x0:AV} {S:Store} {Q:PoT} (h:m114 x0 S Q):ACalls Tryz.prog 114 [x0] S Q :=
  calls_of_vc (fn:=Tryz.f114) (c:=c114) (n:=85) Tryz.func114 (by kernel_rfl) (by kernel_rfl) (by kernel_rfl) ms114 (Eq.mpr (by kernel_rfl) h)
def b114_0 (y1 y3:AV) (S:Store) (KE0:KeT) (Q:PoT):Prop :=
  shift y1 7 S fun v2 S=>ld1 v2 S fun v3 S=>lenS v3 S fun v4 S=>bin .lss 0 y3 v4 S fun v5 S=>onB v5 fun b6=>gd b6 (shift y1 7 S fun v7 S=>ld1 v7 S fun v8 S=>ixS 130 3 v8 y3 S fun v9 S=>ldN 3 v9 S fun v10 S=>boxN 130 3 (.a [(.v (.int .u8 0)),(.v (.int .i64 0)),(.v (.string ByteArray.empty))]) S fun v11 S=>stN 3 v11 v10 S fun v12 S=>(fun S0:Store=>∃ q13:AV,(shift v11 2 S fun v14 S=>v14 = q13 ∧ S = S0) ∧ ∃ q15:AV,(ld1 q13 S fun v16 S=>v16 = q15 ∧ S = S0) ∧ ∃ q17:AV,(callF Tryz.prog 149 [q15] S (fun _ _=>False) fun v18 S=>v18 = q17 ∧ S = S0) ∧ ∃ q19:AV,(un .not q17 S fun v20 S=>v20 = q19 ∧ S = S0) ∧ onB q19 fun b21=>gd b21 (∃ q22:AV,((.v (.bool true)) = q22 ∧ S = S0) ∧ onB q22 fun b23=>gd b23 (∃ q24:AV,((.v (.bool true)) = q24 ∧ S = S0) ∧ onB q24 fun b25=>gd b25 (Q (.ret (.v (.bool false))) S) (loopV lv114_1 (vc Tryz.prog (c114.at_ [1,0,1,0,0,1,0,0,1,1,0,1,0,0]) (ms114.drop 2)) 85 (env114_1 y1 y3 v11 (.v (.int .i64 0))) S (blockK 2 (seqK (vc Tryz.prog (c114.at_ [1,0,1,0,0,1,0,0,1,1,1]) (ms114.drop 2)) (blockK 1 (seqK (vc Tryz.prog (c114.at_ [1,0,1,0,0,1,1]) (ms114.drop 2)) (thenK (fgK lv114_0 KE0) (blockK 0 (seqK (vc Tryz.prog (c114.at_ [1,1]) (ms114.drop 2)) (bodyK Tryz.prog r114 Q)))))))))) (∃ q26:AV,(shift v11 1 S fun v27 S=>v27 = q26 ∧ S = S0) ∧ ∃ q28:AV,(ld1 q26 S fun v29 S=>v29 = q28 ∧ S = S0) ∧ ∃ q30:AV,(ldN 8 y1 S fun v31 S=>v31 = q30 ∧ S = S0) ∧ ∃ q32:AV,(shift v11 0 S fun v33 S=>v33 = q32 ∧ S = S0) ∧ ∃ q34:AV,(ld1 q32 S fun v35 S=>v35 = q34 ∧ S = S0) ∧ ∃ q36:AV,(callF Tryz.prog 150 [q30,q34] S (fun _ _=>False) fun v37 S=>v37 = q36 ∧ S = S0) ∧ ∃ q38:AV,(bin .geq 0 q28 q36 S fun v39 S=>v39 = q38 ∧ S = S0) ∧ ∃ q40:AV,(q38 = q40 ∧ S = S0) ∧ onB q40 fun b41=>gd b41 (Q (.ret (.v (.bool false))) S) (loopV lv114_1 (vc Tryz.prog (c114.at_ [1,0,1,0,0,1,0,0,1,1,0,1,0,0]) (ms114.drop 2)) 85 (env114_1 y1 y3 v11 (.v (.int .i64 0))) S (blockK 2 (seqK (vc Tryz.prog (c114.at_ [1,0,1,0,0,1,0,0,1,1,1]) (ms114.drop 2)) (blockK 1 (seqK (vc Tryz.prog (c114.at_ [1,0,1,0,0,1,1]) (ms114.drop 2)) (thenK (fgK lv114_0 KE0) (blockK 0 (seqK (vc Tryz.prog (c114.at_ [1,1]) (ms114.drop 2)) (bodyK Tryz.prog r114 Q))))))))))) (∃ q42:AV,(shift v11 1 S fun v43 S=>v43 = q42 ∧ S = S0) ∧ ∃ q44:AV,(ld1 q42 S fun v45 S=>v45 = q44 ∧ S = S0) ∧ ∃ q46:AV,(bin .lss 0 q44 (.v (.int .i64 0)) S fun v47 S=>v47 = q46 ∧ S = S0) ∧ ∃ q48:AV,(q46 = q48 ∧ S = S0) ∧ onB q48 fun b49=>gd b49 (∃ q50:AV,((.v (.bool true)) = q50 ∧ S = S0) ∧ onB q50 fun b51=>gd b51 (Q (.ret (.v (.bool false))) S) (loopV lv114_1 (vc Tryz.prog (c114.at_ [1,0,1,0,0,1,0,0,1,1,0,1,0,0]) (ms114.drop 2)) 85 (env114_1 y1 y3 v11 (.v (.int .i64 0))) S (blockK 2 (seqK (vc Tryz.prog (c114.at_ [1,0,1,0,0,1,0,0,1,1,1]) (ms114.drop 2)) (blockK 1 (seqK (vc Tryz.prog (c114.at_ [1,0,1,0,0,1,1]) (ms114.drop 2)) (thenK (fgK lv114_0 KE0) (blockK 0 (seqK (vc Tryz.prog (c114.at_ [1,1]) (ms114.drop 2)) (bodyK Tryz.prog r114 Q)))))))))) (∃ q52:AV,(shift v11 1 S fun v53 S=>v53 = q52 ∧ S = S0) ∧ ∃ q54:AV,(ld1 q52 S fun v55 S=>v55 = q54 ∧ S = S0) ∧ ∃ q56:AV,(ldN 8 y1 S fun v57 S=>v57 = q56 ∧ S = S0) ∧ ∃ q58:AV,(shift v11 0 S fun v59 S=>v59 = q58 ∧ S = S0) ∧ ∃ q60:AV,(ld1 q58 S fun v61 S=>v61 = q60 ∧ S = S0) ∧ ∃ q62:AV,(callF Tryz.prog 150 [q56,q60] S (fun _ _=>False) fun v63 S=>v63 = q62 ∧ S = S0) ∧ ∃ q64:AV,(bin .geq 0 q54 q62 S fun v65 S=>v65 = q64 ∧ S = S0) ∧ ∃ q66:AV,(q64 = q66 ∧ S = S0) ∧ onB q66 fun b67=>gd b67 (Q (.ret (.v (.bool false))) S) (loopV lv114_1 (vc Tryz.prog (c114.at_ [1,0,1,0,0,1,0,0,1,1,0,1,0,0]) (ms114.drop 2)) 85 (env114_1 y1 y3 v11 (.v (.int .i64 0))) S (blockK 2 (seqK (vc Tryz.prog (c114.at_ [1,0,1,0,0,1,0,0,1,1,1]) (ms114.drop 2)) (blockK 1 (seqK (vc Tryz.prog (c114.at_ [1,0,1,0,0,1,1]) (ms114.drop 2)) (thenK (fgK lv114_0 KE0) (blockK 0 (seqK (vc Tryz.prog (c114.at_ [1,1]) (ms114.drop 2)) (bodyK Tryz.prog r114 Q)))))))))))) S) (Q (.ret (.v (.bool true))) S)
theorem b114_0_eq (y1 y3:AV) (S:Store) (KE0:KeT) (Q:PoT):vc Tryz.prog (c114.at_ [1,0,1,0,0]) (ms114.drop 1) (mkE 85 lv114_0 (env114_0 y1 y3)) S (thenK (fgK lv114_0 KE0) (blockK 0 (seqK (vc Tryz.prog (c114.at_ [1,1]) (ms114.drop 2)) (bodyK Tryz.prog r114 Q)))) = b114_0 y1 y3 S KE0 Q:=by kernel_rfl
theorem loop114_0 {y1:AV} {y30:AV} {S:Store} {Q:PoT} (I:AV → Store → Prop) (μ:AV → Store → Nat) (h0:I y30 S)
    (hr:∀ (y3:AV) (S:Store),I y3 S → ∀ KE0:KeT,(∀ (y3':AV) (S':Store),I y3' S' → μ y3' S' < μ y3 S → KE0 85 (env114_0 y1 y3') S') → b114_0 y1 y3 S KE0 Q) :
    loopV lv114_0 (vc Tryz.prog (c114.at_ [1,0,1,0,0]) (ms114.drop 1)) 85 (env114_0 y1 y30) S (blockK 0 (seqK (vc Tryz.prog (c114.at_ [1,1]) (ms114.drop 2)) (bodyK Tryz.prog r114 Q))):=by
  refine ⟨fun n e S=>n = 85 ∧ ∃ y3:AV,e = (env114_0 y1 y3) ∧ I y3 S,fun _ e S=>μ (e.getD 1 .j) S,?_,?_⟩
  · exact ⟨_,_,Wk.refl _ _,rfl,_,rfl,h0⟩
  · rintro _ e S ⟨rfl,y3,rfl,hI⟩
    exact (b114_0_eq _ _ _ _ _).mpr (hr y3 S hI _ (fun y3' S' hI' hm=>⟨_,_,Wk.refl _ _,⟨rfl,_,rfl,hI'⟩,hm⟩))
def b114_1 (y1 y3 y4 y5:AV) (S:Store) (KE1:KeT) (KE0:KeT) (Q:PoT):Prop :=
  bin .lss 0 y5 y3 S fun v68 S=>onB v68 fun b69=>gd b69 ((fun S0:Store=>∃ q70:AV,(shift y1 7 S fun v71 S=>v71 = q70 ∧ S = S0) ∧ ∃ q72:AV,(ld1 q70 S fun v73 S=>v73 = q72 ∧ S = S0) ∧ ∃ q74:AV,(ixS 130 3 q72 y5 S fun v75 S=>v75 = q74 ∧ S = S0) ∧ ∃ q76:AV,(shift q74 2 S fun v77 S=>v77 = q76 ∧ S = S0) ∧ ∃ q78:AV,(ld1 q76 S fun v79 S=>v79 = q78 ∧ S = S0) ∧ ∃ q80:AV,(shift y4 2 S fun v81 S=>v81 = q80 ∧ S = S0) ∧ ∃ q82:AV,(ld1 q80 S fun v83 S=>v83 = q82 ∧ S = S0) ∧ ∃ q84:AV,(bin .eql 0 q78 q82 S fun v85 S=>v85 = q84 ∧ S = S0) ∧ onB q84 fun b86=>gd b86 (Q (.ret (.v (.bool false))) S) (bin .add 0 y5 (.v (.int .i64 1)) S fun v87 S=>KE1 85 (env114_1 y1 y3 y4 v87) S)) S) (bin .gtr 0 y3 (.v (.int .i64 0)) S fun v88 S=>onB v88 fun b89=>gd b89 ((fun S0:Store=>∃ q90:AV,(shift y1 7 S fun v91 S=>v91 = q90 ∧ S = S0) ∧ ∃ q92:AV,(ld1 q90 S fun v93 S=>v93 = q92 ∧ S = S0) ∧ ∃ q94:AV,(bin .sub 0 y3 (.v (.int .i64 1)) S fun v95 S=>v95 = q94 ∧ S = S0) ∧ ∃ q96:AV,(ixS 130 3 q92 q94 S fun v97 S=>v97 = q96 ∧ S = S0) ∧ ∃ q98:AV,(shift q96 0 S fun v99 S=>v99 = q98 ∧ S = S0) ∧ ∃ q100:AV,(ld1 q98 S fun v101 S=>v101 = q100 ∧ S = S0) ∧ ∃ q102:AV,(callF Tryz.prog 151 [q100] S (fun _ _=>False) fun v103 S=>v103 = q102 ∧ S = S0) ∧ ∃ q104:AV,(shift y4 0 S fun v105 S=>v105 = q104 ∧ S = S0) ∧ ∃ q106:AV,(ld1 q104 S fun v107 S=>v107 = q106 ∧ S = S0) ∧ ∃ q108:AV,(callF Tryz.prog 151 [q106] S (fun _ _=>False) fun v109 S=>v109 = q108 ∧ S = S0) ∧ (fun S0:Store=>∃ q110:AV,(bin .gtr 0 q102 q108 S fun v111 S=>v111 = q110 ∧ S = S0) ∧ onB q110 fun b112=>gd b112 (∃ q113:AV,((.v (.bool true)) = q113 ∧ S = S0) ∧ onB q113 fun b114=>gd b114 (Q (.ret (.v (.bool false))) S) (bin .add 0 y3 (.v (.int .i64 1)) S fun v115 S=>KE0 85 (env114_0 y1 v115) S)) (∃ q116:AV,(bin .eql 0 q102 q108 S fun v117 S=>v117 = q116 ∧ S = S0) ∧ onB q116 fun b118=>gd b118 (∃ q119:AV,(shift y1 7 S fun v120 S=>v120 = q119 ∧ S = S0) ∧ ∃ q121:AV,(ld1 q119 S fun v122 S=>v122 = q121 ∧ S = S0) ∧ ∃ q123:AV,(bin .sub 0 y3 (.v (.int .i64 1)) S fun v124 S=>v124 = q123 ∧ S = S0) ∧ ∃ q125:AV,(ixS 130 3 q121 q123 S fun v126 S=>v126 = q125 ∧ S = S0) ∧ ∃ q127:AV,(shift q125 1 S fun v128 S=>v128 = q127 ∧ S = S0) ∧ ∃ q129:AV,(ld1 q127 S fun v130 S=>v130 = q129 ∧ S = S0) ∧ ∃ q131:AV,(shift y4 1 S fun v132 S=>v132 = q131 ∧ S = S0) ∧ ∃ q133:AV,(ld1 q131 S fun v134 S=>v134 = q133 ∧ S = S0) ∧ ∃ q135:AV,(bin .geq 0 q129 q133 S fun v136 S=>v136 = q135 ∧ S = S0) ∧ ∃ q137:AV,(q135 = q137 ∧ S = S0) ∧ ∃ q138:AV,(q137 = q138 ∧ S = S0) ∧ onB q138 fun b139=>gd b139 (Q (.ret (.v (.bool false))) S) (bin .add 0 y3 (.v (.int .i64 1)) S fun v140 S=>KE0 85 (env114_0 y1 v140) S)) (∃ q141:AV,((.v (.bool false)) = q141 ∧ S = S0) ∧ ∃ q142:AV,(q141 = q142 ∧ S = S0) ∧ onB q142 fun b143=>gd b143 (Q (.ret (.v (.bool false))) S) (bin .add 0 y3 (.v (.int .i64 1)) S fun v144 S=>KE0 85 (env114_0 y1 v144) S)))) S) S) (bin .add 0 y3 (.v (.int .i64 1)) S fun v145 S=>KE0 85 (env114_0 y1 v145) S))
theorem b114_1_eq (y1 y3 y4 y5:AV) (S:Store) (KE1:KeT) (KE0:KeT) (Q:PoT):vc Tryz.prog (c114.at_ [1,0,1,0,0,1,0,0,1,1,0,1,0,0]) (ms114.drop 2) (mkE 85 lv114_1 (env114_1 y1 y3 y4 y5)) S (thenK (fgK lv114_1 KE1) (blockK 2 (seqK (vc Tryz.prog (c114.at_ [1,0,1,0,0,1,0,0,1,1,1]) (ms114.drop 2)) (blockK 1 (seqK (vc Tryz.prog (c114.at_ [1,0,1,0,0,1,1]) (ms114.drop 2)) (thenK (fgK lv114_0 KE0) (blockK 0 (seqK (vc Tryz.prog (c114.at_ [1,1]) (ms114.drop 2)) (bodyK Tryz.prog r114 Q))))))))) = b114_1 y1 y3 y4 y5 S KE1 KE0 Q:=by kernel_rfl
theorem loop114_1 {y1 y3 y4:AV} {y50:AV} {S:Store} {KE0:KeT} {Q:PoT} (I:AV → Store → Prop) (μ:AV → Store → Nat) (h0:I y50 S)
    (hr:∀ (y5:AV) (S:Store),I y5 S → ∀ KE1:KeT,(∀ (y5':AV) (S':Store),I y5' S' → μ y5' S' < μ y5 S → KE1 85 (env114_1 y1 y3 y4 y5') S') → b114_1 y1 y3 y4 y5 S KE1 KE0 Q) :
    loopV lv114_1 (vc Tryz.prog (c114.at_ [1,0,1,0,0,1,0,0,1,1,0,1,0,0]) (ms114.drop 2)) 85 (env114_1 y1 y3 y4 y50) S (blockK 2 (seqK (vc Tryz.prog (c114.at_ [1,0,1,0,0,1,0,0,1,1,1]) (ms114.drop 2)) (blockK 1 (seqK (vc Tryz.prog (c114.at_ [1,0,1,0,0,1,1]) (ms114.drop 2)) (thenK (fgK lv114_0 KE0) (blockK 0 (seqK (vc Tryz.prog (c114.at_ [1,1]) (ms114.drop 2)) (bodyK Tryz.prog r114 Q)))))))):=by
  refine ⟨fun n e S=>n = 85 ∧ ∃ y5:AV,e = (env114_1 y1 y3 y4 y5) ∧ I y5 S,fun _ e S=>μ (e.getD 3 .j) S,?_,?_⟩
  · exact ⟨_,_,Wk.refl _ _,rfl,_,rfl,h0⟩
  · rintro _ e S ⟨rfl,y5,rfl,hI⟩
    exact (b114_1_eq _ _ _ _ _ _ _ _).mpr (hr y5 S hI _ (fun y5' S' hI' hm=>⟨_,_,Wk.refl _ _,⟨rfl,_,rfl,hI'⟩,hm⟩))
noncomputable def c113:Code:=(Tryz.f113.body).getD .skip
noncomputable def r113:List ResultVar:=Tryz.f113.results.toList
def env113_0 (y1 y2 y5:AV):List AV:=[y1,y2,y5]
def lv113_0:List Nat:=[1,2,5]
def ms113:List (List Nat):=[lv113_0,[]]
def m113 (x0 x1:AV) (S:Store) (Q:PoT):Prop :=
  boxN 82 2 x0 S fun v1 S=>loopV lv113_0 (vc Tryz.prog (c113.at_ [1,0,1,0,0]) (ms113.drop 1)) 22 (env113_0 x1 v1 (.v (.int .i64 0))) S (blockK 0 (seqK (vc Tryz.prog (c113.at_ [1,1]) (ms113.drop 1)) (bodyK Tryz.prog r113 Q)))
theorem calls113 {x0 x1:AV} {S:Store} {Q:PoT} (h:m113 x0 x1 S Q):ACalls Tryz.prog 113 [x0,x1] S Q :=
  calls_of_vc (fn:=Tryz.f113) (c:=c113) (n:=22) Tryz.func113 (by kernel_rfl) (by kernel_rfl) (by kernel_rfl) ms113 (Eq.mpr (by kernel_rfl) h)
def b113_0 (y1 y2 y5:AV) (S:Store) (KE0:KeT) (Q:PoT):Prop :=
  lenS y1 S fun v2 S=>bin .lss 0 y5 v2 S fun v3 S=>onB v3 fun b4=>gd b4 ((fun S0:Store=>∃ q5:AV,(ldN 2 y2 S fun v6 S=>v6 = q5 ∧ S = S0) ∧ ∃ q7:AV,(ixS 3 1 y1 y5 S fun v8 S=>v8 = q7 ∧ S = S0) ∧ ∃ q9:AV,(ld1 q7 S fun v10 S=>v10 = q9 ∧ S = S0) ∧ ∃ q11:AV,(callF Tryz.prog 112 [q5,q9] S (fun _ _=>False) fun v12 S=>v12 = q11 ∧ S = S0) ∧ ∃ q13:AV,(un .not q11 S fun v14 S=>v14 = q13 ∧ S = S0) ∧ onB q13 fun b15=>gd b15 (Q (.ret (.v (.bool false))) S) (bin .add 0 y5 (.v (.int .i64 1)) S fun v16 S=>KE0 22 (env113_0 y1 y2 v16) S)) S) (lenS y1 S fun v17 S=>bin .leq 0 v17 (.v (.int .i64 2000)) S fun v18 S=>Q (.ret v18) S)
theorem b113_0_eq (y1 y2 y5:AV) (S:Store) (KE0:KeT) (Q:PoT):vc Tryz.prog (c113.at_ [1,0,1,0,0]) (ms113.drop 1) (mkE 22 lv113_0 (env113_0 y1 y2 y5)) S (thenK (fgK lv113_0 KE0) (blockK 0 (seqK (vc Tryz.prog (c113.at_ [1,1]) (ms113.drop 1)) (bodyK Tryz.prog r113 Q)))) = b113_0 y1 y2 y5 S KE0 Q:=by kernel_rfl
theorem loop113_0 {y1 y2:AV} {y50:AV} {S:Store} {Q:PoT} (I:AV → Store → Prop) (μ:AV → Store → Nat) (h0:I y50 S)
    (hr:∀ (y5:AV) (S:Store),I y5 S → ∀ KE0:KeT,(∀ (y5':AV) (S':Store),I y5' S' → μ y5' S' < μ y5 S → KE0 22 (env113_0 y1 y2 y5') S') → b113_0 y1 y2 y5 S KE0 Q) :
    loopV lv113_0 (vc Tryz.prog (c113.at_ [1,0,1,0,0]) (ms113.drop 1)) 22 (env113_0 y1 y2 y50) S (blockK 0 (seqK (vc Tryz.prog (c113.at_ [1,1]) (ms113.drop 1)) (bodyK Tryz.prog r113 Q))):=by
  refine ⟨fun n e S=>n = 22 ∧ ∃ y5:AV,e = (env113_0 y1 y2 y5) ∧ I y5 S,fun _ e S=>μ (e.getD 2 .j) S,?_,?_⟩
  · exact ⟨_,_,Wk.refl _ _,rfl,_,rfl,h0⟩
  · rintro _ e S ⟨rfl,y5,rfl,hI⟩
    exact (b113_0_eq _ _ _ _ _ _).mpr (hr y5 S hI _ (fun y5' S' hI' hm=>⟨_,_,Wk.refl _ _,⟨rfl,_,rfl,hI'⟩,hm⟩))
noncomputable def c133:Code:=(Tryz.f133.body).getD .skip
noncomputable def r133:List ResultVar:=Tryz.f133.results.toList
def env133_0 (y1 y3 y4 y12 y13 y14:AV):List AV:=[y1,y3,y4,y12,y13,y14]
def lv133_0:List Nat:=[1,3,4,12,13,14]
def ms133:List (List Nat):=[lv133_0,[]]
def m133 (x0:AV) (S:Store) (Q:PoT):Prop :=
  boxN 42 8 x0 S fun v1 S=>ldN 8 v1 S fun v2 S=>callF Tryz.prog 127 [v2] S Q fun v3 S=>mkM .s S fun v4 S=>shift v1 7 S fun v5 S=>ld1 v5 S fun v6 S=>lenS v6 S fun v7 S=>loopV lv133_0 (vc Tryz.prog (c133.at_ [1,1,1,0,1,0,0]) (ms133.drop 1)) 78 (env133_0 v1 v3 v4 v6 v7 (.v (.int .i64 0))) S (blockK 0 (seqK (vc Tryz.prog (c133.at_ [1,1,1,1]) (ms133.drop 1)) (bodyK Tryz.prog r133 Q)))
theorem calls133 {x0:AV} {S:Store} {Q:PoT} (h:m133 x0 S Q):ACalls Tryz.prog 133 [x0] S Q :=
  calls_of_vc (fn:=Tryz.f133) (c:=c133) (n:=78) Tryz.func133 (by kernel_rfl) (by kernel_rfl) (by kernel_rfl) ms133 (Eq.mpr (by kernel_rfl) h)
def b133_0 (y1 y3 y4 y12 y13 y14:AV) (S:Store) (KE0:KeT) (Q:PoT):Prop :=
  bin .lss 0 y14 y13 S fun v8 S=>onB v8 fun b9=>gd b9 (ixS 130 3 y12 y14 S fun v10 S=>ldN 3 v10 S fun v11 S=>boxN 130 3 (.a [(.v (.int .u8 0)),(.v (.int .i64 0)),(.v (.string ByteArray.empty))]) S fun v12 S=>stN 3 v12 v11 S fun v13 S=>shift v12 2 S fun v14 S=>ld1 v14 S fun v15 S=>callF Tryz.prog 167 [v15] S Q fun v16 S=>un .not v16 S fun v17 S=>onB v17 fun b18=>gd b18 (Q (.ret (.v (.bool false))) S) (shift v12 0 S fun v19 S=>ld1 v19 S fun v20 S=>callF Tryz.prog 168 [v20] S Q fun v21 S=>bin .lss 0 v21 (.v (.int .i64 0)) S fun v22 S=>onB v22 fun b23=>gd b23 (Q (.ret (.v (.bool false))) S) (shift v12 1 S fun v24 S=>ld1 v24 S fun v25 S=>bin .lss 0 v25 (.v (.int .i64 0)) S fun v26 S=>onB v26 fun b27=>gd b27 (Q (.ret (.v (.bool false))) S) (shift v12 1 S fun v28 S=>ld1 v28 S fun v29 S=>shift v12 0 S fun v30 S=>ld1 v30 S fun v31 S=>convI .i32 v31 S fun v32 S=>lkM (.i .i32) (.v (.int .i64 0)) false y3 v32 S fun v33 S=>bin .geq 0 v29 v33 S fun v34 S=>onB v34 fun b35=>gd b35 (Q (.ret (.v (.bool false))) S) (shift v12 2 S fun v36 S=>ld1 v36 S fun v37 S=>bld [] [] [] S fun v38 S=>updM .s y4 v37 v38 S fun v39 S=>bin .eql 0 y14 (.v (.int .i64 0)) S fun v40 S=>onB v40 fun b41=>gd b41 (bin .add 0 y14 (.v (.int .i64 1)) S fun v42 S=>KE0 78 (env133_0 y1 y3 y4 y12 y13 v42) S) (shift y1 7 S fun v43 S=>ld1 v43 S fun v44 S=>bin .sub 0 y14 (.v (.int .i64 1)) S fun v45 S=>ixS 130 3 v44 v45 S fun v46 S=>ldN 3 v46 S fun v47 S=>boxN 130 3 (.a [(.v (.int .u8 0)),(.v (.int .i64 0)),(.v (.string ByteArray.empty))]) S fun v48 S=>stN 3 v48 v47 S fun v49 S=>(fun S0:Store=>∃ q50:AV,(shift v48 0 S fun v51 S=>v51 = q50 ∧ S = S0) ∧ ∃ q52:AV,(ld1 q50 S fun v53 S=>v53 = q52 ∧ S = S0) ∧ ∃ q54:AV,(callF Tryz.prog 168 [q52] S (fun _ _=>False) fun v55 S=>v55 = q54 ∧ S = S0) ∧ ∃ q56:AV,(shift v12 0 S fun v57 S=>v57 = q56 ∧ S = S0) ∧ ∃ q58:AV,(ld1 q56 S fun v59 S=>v59 = q58 ∧ S = S0) ∧ ∃ q60:AV,(callF Tryz.prog 168 [q58] S (fun _ _=>False) fun v61 S=>v61 = q60 ∧ S = S0) ∧ ∃ q62:AV,(callF Tryz.prog 170 [q54,q60] S (fun _ _=>False) fun v63 S=>v63 = q62 ∧ S = S0) ∧ ∃ q64:AV,(shift v48 1 S fun v65 S=>v65 = q64 ∧ S = S0) ∧ ∃ q66:AV,(ld1 q64 S fun v67 S=>v67 = q66 ∧ S = S0) ∧ ∃ q68:AV,(shift v12 1 S fun v69 S=>v69 = q68 ∧ S = S0) ∧ ∃ q70:AV,(ld1 q68 S fun v71 S=>v71 = q70 ∧ S = S0) ∧ ∃ q72:AV,(callF Tryz.prog 170 [q66,q70] S (fun _ _=>False) fun v73 S=>v73 = q72 ∧ S = S0) ∧ ∃ q74:AV,(bslN 3 1 2 [(.v (.int .i64 0))] [(0,q62),(1,q72)] S fun v75 S=>v75 = q74 ∧ S = S0) ∧ ∃ q76:AV,(callF Tryz.prog 169 [q74] S (fun _ _=>False) fun v77 S=>v77 = q76 ∧ S = S0) ∧ ∃ q78:AV,(bin .geq 0 q76 (.v (.int .i64 0)) S fun v79 S=>v79 = q78 ∧ S = S0) ∧ onB q78 fun b80=>gd b80 (Q (.ret (.v (.bool false))) S) (bin .add 0 y14 (.v (.int .i64 1)) S fun v81 S=>KE0 78 (env133_0 y1 y3 y4 y12 y13 v81) S)) S)))))) (lenM y4 S fun v82 S=>shift y1 7 S fun v83 S=>ld1 v83 S fun v84 S=>lenS v84 S fun v85 S=>bin .eql 0 v82 v85 S fun v86 S=>Q (.ret v86) S)
theorem b133_0_eq (y1 y3 y4 y12 y13 y14:AV) (S:Store) (KE0:KeT) (Q:PoT):vc Tryz.prog (c133.at_ [1,1,1,0,1,0,0]) (ms133.drop 1) (mkE 78 lv133_0 (env133_0 y1 y3 y4 y12 y13 y14)) S (thenK (fgK lv133_0 KE0) (blockK 0 (seqK (vc Tryz.prog (c133.at_ [1,1,1,1]) (ms133.drop 1)) (bodyK Tryz.prog r133 Q)))) = b133_0 y1 y3 y4 y12 y13 y14 S KE0 Q:=by kernel_rfl
theorem loop133_0 {y1 y3 y4 y12 y13:AV} {y140:AV} {S:Store} {Q:PoT} (I:AV → Store → Prop) (μ:AV → Store → Nat) (h0:I y140 S)
    (hr:∀ (y14:AV) (S:Store),I y14 S → ∀ KE0:KeT,(∀ (y14':AV) (S':Store),I y14' S' → μ y14' S' < μ y14 S → KE0 78 (env133_0 y1 y3 y4 y12 y13 y14') S') → b133_0 y1 y3 y4 y12 y13 y14 S KE0 Q) :
    loopV lv133_0 (vc Tryz.prog (c133.at_ [1,1,1,0,1,0,0]) (ms133.drop 1)) 78 (env133_0 y1 y3 y4 y12 y13 y140) S (blockK 0 (seqK (vc Tryz.prog (c133.at_ [1,1,1,1]) (ms133.drop 1)) (bodyK Tryz.prog r133 Q))):=by
  refine ⟨fun n e S=>n = 78 ∧ ∃ y14:AV,e = (env133_0 y1 y3 y4 y12 y13 y14) ∧ I y14 S,fun _ e S=>μ (e.getD 5 .j) S,?_,?_⟩
  · exact ⟨_,_,Wk.refl _ _,rfl,_,rfl,h0⟩
  · rintro _ e S ⟨rfl,y14,rfl,hI⟩
    exact (b133_0_eq _ _ _ _ _ _ _ _ _).mpr (hr y14 S hI _ (fun y14' S' hI' hm=>⟨_,_,Wk.refl _ _,⟨rfl,_,rfl,hI'⟩,hm⟩))
noncomputable def c185:Code:=(Tryz.f185.body).getD .skip
def ms185:List (List Nat):=[[]]
def m185 (x0:AV) (S:Store) (Q:PoT):Prop :=
  bin .neq 0 x0 x0 S fun v1 S=>Q (.ret v1) S
theorem calls185 {x0:AV} {S:Store} {Q:PoT} (h:m185 x0 S Q):ACalls Tryz.prog 185 [x0] S Q :=
  calls_of_vc (fn:=Tryz.f185) (c:=c185) (n:=6) Tryz.func185 (by kernel_rfl) (by kernel_rfl) (by kernel_rfl) ms185 (Eq.mpr (by kernel_rfl) h)
noncomputable def c170:Code:=(Tryz.f170.body).getD .skip
def ms170:List (List Nat):=[[]]
def m170 (x0 x1:AV) (S:Store) (Q:PoT):Prop :=
  callF Tryz.prog 185 [x0] S Q fun v1 S=>callF Tryz.prog 185 [x1] S Q fun v2 S=>onB v1 fun b3=>gd b3 (onB v2 fun b4=>gd b4 (Q (.ret (.v (.int .i64 0))) S) (Q (.ret (.v (.int .i64 (-1)))) S)) (onB v2 fun b5=>gd b5 (Q (.ret (.v (.int .i64 1))) S) (bin .lss 0 x0 x1 S fun v6 S=>onB v6 fun b7=>gd b7 (Q (.ret (.v (.int .i64 (-1)))) S) (bin .gtr 0 x0 x1 S fun v8 S=>onB v8 fun b9=>gd b9 (Q (.ret (.v (.int .i64 1))) S) (Q (.ret (.v (.int .i64 0))) S))))
theorem calls170 {x0 x1:AV} {S:Store} {Q:PoT} (h:m170 x0 x1 S Q):ACalls Tryz.prog 170 [x0,x1] S Q :=
  calls_of_vc (fn:=Tryz.f170) (c:=c170) (n:=20) Tryz.func170 (by kernel_rfl) (by kernel_rfl) (by kernel_rfl) ms170 (Eq.mpr (by kernel_rfl) h)
noncomputable def c169:Code:=(Tryz.f169.body).getD .skip
noncomputable def r169:List ResultVar:=Tryz.f169.results.toList
def env169_0 (y3 y6 y7 y8:AV):List AV:=[y3,y6,y7,y8]
def lv169_0:List Nat:=[3,6,7,8]
def ms169:List (List Nat):=[lv169_0,[]]
def m169 (x0:AV) (S:Store) (Q:PoT):Prop :=
  lenS x0 S fun v1 S=>loopV lv169_0 (vc Tryz.prog (c169.at_ [1,1,0,1,0,0]) (ms169.drop 1)) 18 (env169_0 (.v (.int .i64 0)) x0 v1 (.v (.int .i64 0))) S (blockK 0 (seqK (vc Tryz.prog (c169.at_ [1,1,1]) (ms169.drop 1)) (bodyK Tryz.prog r169 Q)))
theorem calls169 {x0:AV} {S:Store} {Q:PoT} (h:m169 x0 S Q):ACalls Tryz.prog 169 [x0] S Q :=
  calls_of_vc (fn:=Tryz.f169) (c:=c169) (n:=18) Tryz.func169 (by kernel_rfl) (by kernel_rfl) (by kernel_rfl) ms169 (Eq.mpr (by kernel_rfl) h)
def b169_0 (y3 y6 y7 y8:AV) (S:Store) (KE0:KeT) (Q:PoT):Prop :=
  bin .lss 0 y8 y7 S fun v2 S=>onB v2 fun b3=>gd b3 (ixS 3 1 y6 y8 S fun v4 S=>ld1 v4 S fun v5 S=>bin .neq 0 v5 y3 S fun v6 S=>onB v6 fun b7=>gd b7 (Q (.ret v5) S) (bin .add 0 y8 (.v (.int .i64 1)) S fun v8 S=>KE0 18 (env169_0 y3 y6 y7 v8) S)) (Q (.ret y3) S)
theorem b169_0_eq (y3 y6 y7 y8:AV) (S:Store) (KE0:KeT) (Q:PoT):vc Tryz.prog (c169.at_ [1,1,0,1,0,0]) (ms169.drop 1) (mkE 18 lv169_0 (env169_0 y3 y6 y7 y8)) S (thenK (fgK lv169_0 KE0) (blockK 0 (seqK (vc Tryz.prog (c169.at_ [1,1,1]) (ms169.drop 1)) (bodyK Tryz.prog r169 Q)))) = b169_0 y3 y6 y7 y8 S KE0 Q:=by kernel_rfl
theorem loop169_0 {y3 y6 y7:AV} {y80:AV} {S:Store} {Q:PoT} (I:AV → Store → Prop) (μ:AV → Store → Nat) (h0:I y80 S)
    (hr:∀ (y8:AV) (S:Store),I y8 S → ∀ KE0:KeT,(∀ (y8':AV) (S':Store),I y8' S' → μ y8' S' < μ y8 S → KE0 18 (env169_0 y3 y6 y7 y8') S') → b169_0 y3 y6 y7 y8 S KE0 Q) :
    loopV lv169_0 (vc Tryz.prog (c169.at_ [1,1,0,1,0,0]) (ms169.drop 1)) 18 (env169_0 y3 y6 y7 y80) S (blockK 0 (seqK (vc Tryz.prog (c169.at_ [1,1,1]) (ms169.drop 1)) (bodyK Tryz.prog r169 Q))):=by
  refine ⟨fun n e S=>n = 18 ∧ ∃ y8:AV,e = (env169_0 y3 y6 y7 y8) ∧ I y8 S,fun _ e S=>μ (e.getD 3 .j) S,?_,?_⟩
  · exact ⟨_,_,Wk.refl _ _,rfl,_,rfl,h0⟩
  · rintro _ e S ⟨rfl,y8,rfl,hI⟩
    exact (b169_0_eq _ _ _ _ _ _ _).mpr (hr y8 S hI _ (fun y8' S' hI' hm=>⟨_,_,Wk.refl _ _,⟨rfl,_,rfl,hI'⟩,hm⟩))
noncomputable def c84:Code:=(Tryz.f84.body).getD .skip
def ms84:List (List Nat):=[[]]
def m84 (x0:AV) (S:Store) (Q:PoT):Prop :=
  boxN 42 8 x0 S fun v1 S=>boxN 82 2 (.a [(.v (.int .i64 0)),.nl]) S fun v2 S=>shift v1 0 S fun v3 S=>ld1 v3 S fun v4 S=>shift v1 1 S fun v5 S=>ld1 v5 S fun v6 S=>lenS v6 S fun v7 S=>bin .add 0 v4 v7 S fun v8 S=>shift v1 2 S fun v9 S=>ld1 v9 S fun v10 S=>bld [(0,1),(1,1)] [(.v (.int .i64 0)),.nl] [(0,v8),(1,v10)] S fun v11 S=>stN 2 v2 v11 S fun v12 S=>ldN 2 v2 S fun v13 _=>Q (.ret v13) S
theorem calls84 {x0:AV} {S:Store} {Q:PoT} (h:m84 x0 S Q):ACalls Tryz.prog 84 [x0] S Q :=
  calls_of_vc (fn:=Tryz.f84) (c:=c84) (n:=12) Tryz.func84 (by kernel_rfl) (by kernel_rfl) (by kernel_rfl) ms84 (Eq.mpr (by kernel_rfl) h)
noncomputable def c41:Code:=(Tryz.f41.body).getD .skip
def ms41:List (List Nat):=[[]]
def m41 (x0:AV) (S:Store) (Q:PoT):Prop :=
  boxN 42 8 x0 S fun v1 S=>boxN 82 2 (.a [(.v (.int .i64 0)),.nl]) S fun v2 S=>shift v1 0 S fun v3 S=>ld1 v3 S fun v4 S=>shift v1 1 S fun v5 S=>ld1 v5 S fun v6 S=>lenS v6 S fun v7 S=>bin .add 0 v4 v7 S fun v8 S=>shift v1 2 S fun v9 S=>ld1 v9 S fun v10 S=>bld [(0,1),(1,1)] [(.v (.int .i64 0)),.nl] [(0,v8),(1,v10)] S fun v11 S=>stN 2 v2 v11 S fun v12 S=>ldN 2 v2 S fun v13 _=>Q (.ret v13) S
theorem calls41 {x0:AV} {S:Store} {Q:PoT} (h:m41 x0 S Q):ACalls Tryz.prog 41 [x0] S Q :=
  calls_of_vc (fn:=Tryz.f41) (c:=c41) (n:=12) Tryz.func41 (by kernel_rfl) (by kernel_rfl) (by kernel_rfl) ms41 (Eq.mpr (by kernel_rfl) h)
noncomputable def c127:Code:=(Tryz.f127.body).getD .skip
def ms127:List (List Nat):=[[]]
def m127 (x0:AV) (S:Store) (Q:PoT):Prop :=
  boxN 42 8 x0 S fun v1 S=>mkM (.i .i32) S fun v2 S=>shift v1 0 S fun v3 S=>ld1 v3 S fun v4 S=>updM (.i .i32) v2 (.v (.int .i32 105)) v4 S fun v5 S=>shift v1 1 S fun v6 S=>ld1 v6 S fun v7 S=>lenS v7 S fun v8 S=>updM (.i .i32) v2 (.v (.int .i32 108)) v8 S fun v9 S=>shift v1 3 S fun v10 S=>ld1 v10 S fun v11 S=>lenS v11 S fun v12 S=>updM (.i .i32) v2 (.v (.int .i32 111)) v12 S fun v13 S=>shift v1 4 S fun v14 S=>ld1 v14 S fun v15 S=>lenS v15 S fun v16 S=>updM (.i .i32) v2 (.v (.int .i32 98)) v16 S fun v17 S=>shift v1 5 S fun v18 S=>ld1 v18 S fun v19 S=>lenS v19 S fun v20 S=>updM (.i .i32) v2 (.v (.int .i32 99)) v20 S fun v21 S=>shift v1 6 S fun v22 S=>ld1 v22 S fun v23 S=>lenS v23 S fun v24 S=>updM (.i .i32) v2 (.v (.int .i32 102)) v24 S fun v25 S=>Q (.ret v2) S
theorem calls127 {x0:AV} {S:Store} {Q:PoT} (h:m127 x0 S Q):ACalls Tryz.prog 127 [x0] S Q :=
  calls_of_vc (fn:=Tryz.f127) (c:=c127) (n:=22) Tryz.func127 (by kernel_rfl) (by kernel_rfl) (by kernel_rfl) ms127 (Eq.mpr (by kernel_rfl) h)
noncomputable def c150:Code:=(Tryz.f150.body).getD .skip
def ms150:List (List Nat):=[[]]
def m150 (x0 x1:AV) (S:Store) (Q:PoT):Prop :=
  boxN 42 8 x0 S fun v1 S=>callF Tryz.prog 151 [x1] S Q fun v2 S=>bin .lss 0 v2 (.v (.int .i64 0)) S fun v3 S=>onB v3 fun b4=>gd b4 (Q (.ret (.v (.int .i64 0))) S) (shift v1 0 S fun v5 S=>ld1 v5 S fun v6 S=>shift v1 1 S fun v7 S=>ld1 v7 S fun v8 S=>lenS v8 S fun v9 S=>shift v1 3 S fun v10 S=>ld1 v10 S fun v11 S=>lenS v11 S fun v12 S=>shift v1 4 S fun v13 S=>ld1 v13 S fun v14 S=>lenS v14 S fun v15 S=>shift v1 5 S fun v16 S=>ld1 v16 S fun v17 S=>lenS v17 S fun v18 S=>shift v1 6 S fun v19 S=>ld1 v19 S fun v20 S=>lenS v20 S fun v21 S=>bslN 3 1 6 [(.v (.int .i64 0))] [(0,v6),(1,v9),(2,v12),(3,v15),(4,v18),(5,v21)] S fun v22 S=>ixS 3 1 v22 v2 S fun v23 S=>ld1 v23 S fun v24 S=>Q (.ret v24) S)
theorem calls150 {x0 x1:AV} {S:Store} {Q:PoT} (h:m150 x0 x1 S Q):ACalls Tryz.prog 150 [x0,x1] S Q :=
  calls_of_vc (fn:=Tryz.f150) (c:=c150) (n:=31) Tryz.func150 (by kernel_rfl) (by kernel_rfl) (by kernel_rfl) ms150 (Eq.mpr (by kernel_rfl) h)
noncomputable def c149:Code:=(Tryz.f149.body).getD .skip
noncomputable def r149:List ResultVar:=Tryz.f149.results.toList
def env149_0 (y0 y3:AV):List AV:=[y0,y3]
def lv149_0:List Nat:=[0,3]
def ms149:List (List Nat):=[lv149_0,[]]
def m149 (x0:AV) (S:Store) (Q:PoT):Prop :=
  loopV lv149_0 (vc Tryz.prog (c149.at_ [1,0,1,0,0]) (ms149.drop 1)) 28 (env149_0 x0 (.v (.int .i64 0))) S (blockK 0 (seqK (vc Tryz.prog (c149.at_ [1,1]) (ms149.drop 1)) (bodyK Tryz.prog r149 Q)))
theorem calls149 {x0:AV} {S:Store} {Q:PoT} (h:m149 x0 S Q):ACalls Tryz.prog 149 [x0] S Q :=
  calls_of_vc (fn:=Tryz.f149) (c:=c149) (n:=28) Tryz.func149 (by kernel_rfl) (by kernel_rfl) (by kernel_rfl) ms149 (Eq.mpr (by kernel_rfl) h)
def b149_0 (y0 y3:AV) (S:Store) (KE0:KeT) (Q:PoT):Prop :=
  lenStr y0 S fun v1 S=>bin .lss 0 y3 v1 S fun v2 S=>onB v2 fun b3=>gd b3 (ixStr y0 y3 S fun v4 S=>bin .lss 0 v4 (.v (.int .u8 33)) S fun v5 S=>onB v5 fun b6=>gd b6 (Q (.ret (.v (.bool false))) S) (ixStr y0 y3 S fun v7 S=>bin .gtr 0 v7 (.v (.int .u8 126)) S fun v8 S=>onB v8 fun b9=>gd b9 (Q (.ret (.v (.bool false))) S) (bin .add 0 y3 (.v (.int .i64 1)) S fun v10 S=>KE0 28 (env149_0 y0 v10) S))) (lenStr y0 S fun v11 S=>bin .gtr 0 v11 (.v (.int .i64 0)) S fun v12 S=>onB v12 fun b13=>gd b13 (lenStr y0 S fun v14 S=>bin .leq 0 v14 (.v (.int .i64 20)) S fun v15 S=>Q (.ret v15) S) (Q (.ret (.v (.bool false))) S))
theorem b149_0_eq (y0 y3:AV) (S:Store) (KE0:KeT) (Q:PoT):vc Tryz.prog (c149.at_ [1,0,1,0,0]) (ms149.drop 1) (mkE 28 lv149_0 (env149_0 y0 y3)) S (thenK (fgK lv149_0 KE0) (blockK 0 (seqK (vc Tryz.prog (c149.at_ [1,1]) (ms149.drop 1)) (bodyK Tryz.prog r149 Q)))) = b149_0 y0 y3 S KE0 Q:=by kernel_rfl
theorem loop149_0 {y0:AV} {y30:AV} {S:Store} {Q:PoT} (I:AV → Store → Prop) (μ:AV → Store → Nat) (h0:I y30 S)
    (hr:∀ (y3:AV) (S:Store),I y3 S → ∀ KE0:KeT,(∀ (y3':AV) (S':Store),I y3' S' → μ y3' S' < μ y3 S → KE0 28 (env149_0 y0 y3') S') → b149_0 y0 y3 S KE0 Q) :
    loopV lv149_0 (vc Tryz.prog (c149.at_ [1,0,1,0,0]) (ms149.drop 1)) 28 (env149_0 y0 y30) S (blockK 0 (seqK (vc Tryz.prog (c149.at_ [1,1]) (ms149.drop 1)) (bodyK Tryz.prog r149 Q))):=by
  refine ⟨fun n e S=>n = 28 ∧ ∃ y3:AV,e = (env149_0 y0 y3) ∧ I y3 S,fun _ e S=>μ (e.getD 1 .j) S,?_,?_⟩
  · exact ⟨_,_,Wk.refl _ _,rfl,_,rfl,h0⟩
  · rintro _ e S ⟨rfl,y3,rfl,hI⟩
    exact (b149_0_eq _ _ _ _ _).mpr (hr y3 S hI _ (fun y3' S' hI' hm=>⟨_,_,Wk.refl _ _,⟨rfl,_,rfl,hI'⟩,hm⟩))
noncomputable def c167:Code:=(Tryz.f167.body).getD .skip
noncomputable def r167:List ResultVar:=Tryz.f167.results.toList
def env167_0 (y0 y5 y6:AV):List AV:=[y0,y5,y6]
def lv167_0:List Nat:=[0,5,6]
def ms167:List (List Nat):=[lv167_0,[]]
def m167 (x0:AV) (S:Store) (Q:PoT):Prop :=
  lenStr x0 S fun v1 S=>loopV lv167_0 (vc Tryz.prog (c167.at_ [1,0,1,0,0]) (ms167.drop 1)) 27 (env167_0 x0 v1 (.v (.int .i64 0))) S (blockK 0 (seqK (vc Tryz.prog (c167.at_ [1,1]) (ms167.drop 1)) (bodyK Tryz.prog r167 Q)))
theorem calls167 {x0:AV} {S:Store} {Q:PoT} (h:m167 x0 S Q):ACalls Tryz.prog 167 [x0] S Q :=
  calls_of_vc (fn:=Tryz.f167) (c:=c167) (n:=27) Tryz.func167 (by kernel_rfl) (by kernel_rfl) (by kernel_rfl) ms167 (Eq.mpr (by kernel_rfl) h)
def b167_0 (y0 y5 y6:AV) (S:Store) (KE0:KeT) (Q:PoT):Prop :=
  bin .lss 0 y6 y5 S fun v2 S=>onB v2 fun b3=>gd b3 (ixStr y0 y6 S fun v4 S=>bin .leq 0 v4 (.v (.int .u8 32)) S fun v5 S=>onB v5 fun b6=>gd b6 (Q (.ret (.v (.bool false))) S) (ixStr y0 y6 S fun v7 S=>bin .gtr 0 v7 (.v (.int .u8 126)) S fun v8 S=>onB v8 fun b9=>gd b9 (Q (.ret (.v (.bool false))) S) (bin .add 0 y6 (.v (.int .i64 1)) S fun v10 S=>KE0 27 (env167_0 y0 y5 v10) S))) (bin .neq 0 y0 (.v (.string { data:=#[] })) S fun v11 S=>onB v11 fun b12=>gd b12 (lenStr y0 S fun v13 S=>bin .leq 0 v13 (.v (.int .i64 20)) S fun v14 S=>Q (.ret v14) S) (Q (.ret (.v (.bool false))) S))
theorem b167_0_eq (y0 y5 y6:AV) (S:Store) (KE0:KeT) (Q:PoT):vc Tryz.prog (c167.at_ [1,0,1,0,0]) (ms167.drop 1) (mkE 27 lv167_0 (env167_0 y0 y5 y6)) S (thenK (fgK lv167_0 KE0) (blockK 0 (seqK (vc Tryz.prog (c167.at_ [1,1]) (ms167.drop 1)) (bodyK Tryz.prog r167 Q)))) = b167_0 y0 y5 y6 S KE0 Q:=by kernel_rfl
theorem loop167_0 {y0 y5:AV} {y60:AV} {S:Store} {Q:PoT} (I:AV → Store → Prop) (μ:AV → Store → Nat) (h0:I y60 S)
    (hr:∀ (y6:AV) (S:Store),I y6 S → ∀ KE0:KeT,(∀ (y6':AV) (S':Store),I y6' S' → μ y6' S' < μ y6 S → KE0 27 (env167_0 y0 y5 y6') S') → b167_0 y0 y5 y6 S KE0 Q) :
    loopV lv167_0 (vc Tryz.prog (c167.at_ [1,0,1,0,0]) (ms167.drop 1)) 27 (env167_0 y0 y5 y60) S (blockK 0 (seqK (vc Tryz.prog (c167.at_ [1,1]) (ms167.drop 1)) (bodyK Tryz.prog r167 Q))):=by
  refine ⟨fun n e S=>n = 27 ∧ ∃ y6:AV,e = (env167_0 y0 y5 y6) ∧ I y6 S,fun _ e S=>μ (e.getD 2 .j) S,?_,?_⟩
  · exact ⟨_,_,Wk.refl _ _,rfl,_,rfl,h0⟩
  · rintro _ e S ⟨rfl,y6,rfl,hI⟩
    exact (b167_0_eq _ _ _ _ _ _).mpr (hr y6 S hI _ (fun y6' S' hI' hm=>⟨_,_,Wk.refl _ _,⟨rfl,_,rfl,hI'⟩,hm⟩))
noncomputable def c151:Code:=(Tryz.f151.body).getD .skip
noncomputable def r151:List ResultVar:=Tryz.f151.results.toList
def env151_0 (y0 y3 y4:AV):List AV:=[y0,y3,y4]
def lv151_0:List Nat:=[0,3,4]
def ms151:List (List Nat):=[lv151_0,[]]
def m151 (x0:AV) (S:Store) (Q:PoT):Prop :=
  loopV lv151_0 (vc Tryz.prog (c151.at_ [1,1,0,1,0,0]) (ms151.drop 1)) 17 (env151_0 x0 (.v (.string { data:=#[105,108,111,98,99,102] })) (.v (.int .i64 0))) S (blockK 0 (seqK (vc Tryz.prog (c151.at_ [1,1,1]) (ms151.drop 1)) (bodyK Tryz.prog r151 Q)))
theorem calls151 {x0:AV} {S:Store} {Q:PoT} (h:m151 x0 S Q):ACalls Tryz.prog 151 [x0] S Q :=
  calls_of_vc (fn:=Tryz.f151) (c:=c151) (n:=17) Tryz.func151 (by kernel_rfl) (by kernel_rfl) (by kernel_rfl) ms151 (Eq.mpr (by kernel_rfl) h)
def b151_0 (y0 y3 y4:AV) (S:Store) (KE0:KeT) (Q:PoT):Prop :=
  lenStr y3 S fun v1 S=>bin .lss 0 y4 v1 S fun v2 S=>onB v2 fun b3=>gd b3 (ixStr y3 y4 S fun v4 S=>bin .eql 0 v4 y0 S fun v5 S=>onB v5 fun b6=>gd b6 (Q (.ret y4) S) (bin .add 0 y4 (.v (.int .i64 1)) S fun v7 S=>KE0 17 (env151_0 y0 y3 v7) S)) (Q (.ret (.v (.int .i64 (-1)))) S)
theorem b151_0_eq (y0 y3 y4:AV) (S:Store) (KE0:KeT) (Q:PoT):vc Tryz.prog (c151.at_ [1,1,0,1,0,0]) (ms151.drop 1) (mkE 17 lv151_0 (env151_0 y0 y3 y4)) S (thenK (fgK lv151_0 KE0) (blockK 0 (seqK (vc Tryz.prog (c151.at_ [1,1,1]) (ms151.drop 1)) (bodyK Tryz.prog r151 Q)))) = b151_0 y0 y3 y4 S KE0 Q:=by kernel_rfl
theorem loop151_0 {y0 y3:AV} {y40:AV} {S:Store} {Q:PoT} (I:AV → Store → Prop) (μ:AV → Store → Nat) (h0:I y40 S)
    (hr:∀ (y4:AV) (S:Store),I y4 S → ∀ KE0:KeT,(∀ (y4':AV) (S':Store),I y4' S' → μ y4' S' < μ y4 S → KE0 17 (env151_0 y0 y3 y4') S') → b151_0 y0 y3 y4 S KE0 Q) :
    loopV lv151_0 (vc Tryz.prog (c151.at_ [1,1,0,1,0,0]) (ms151.drop 1)) 17 (env151_0 y0 y3 y40) S (blockK 0 (seqK (vc Tryz.prog (c151.at_ [1,1,1]) (ms151.drop 1)) (bodyK Tryz.prog r151 Q))):=by
  refine ⟨fun n e S=>n = 17 ∧ ∃ y4:AV,e = (env151_0 y0 y3 y4) ∧ I y4 S,fun _ e S=>μ (e.getD 2 .j) S,?_,?_⟩
  · exact ⟨_,_,Wk.refl _ _,rfl,_,rfl,h0⟩
  · rintro _ e S ⟨rfl,y4,rfl,hI⟩
    exact (b151_0_eq _ _ _ _ _ _).mpr (hr y4 S hI _ (fun y4' S' hI' hm=>⟨_,_,Wk.refl _ _,⟨rfl,_,rfl,hI'⟩,hm⟩))
noncomputable def c168:Code:=(Tryz.f168.body).getD .skip
noncomputable def r168:List ResultVar:=Tryz.f168.results.toList
def env168_0 (y0 y5:AV):List AV:=[y0,y5]
def lv168_0:List Nat:=[0,5]
def ms168:List (List Nat):=[lv168_0,[]]
def m168 (x0:AV) (S:Store) (Q:PoT):Prop :=
  rngS (.v (.string { data:=#[105,108,111,98,99,102] })) S fun v1 S=>loopV lv168_0 (vc Tryz.prog (c168.at_ [1,0,1,0,0]) (ms168.drop 1)) 15 (env168_0 x0 v1) S (blockK 0 (seqK (vc Tryz.prog (c168.at_ [1,1]) (ms168.drop 1)) (bodyK Tryz.prog r168 Q)))
theorem calls168 {x0:AV} {S:Store} {Q:PoT} (h:m168 x0 S Q):ACalls Tryz.prog 168 [x0] S Q :=
  calls_of_vc (fn:=Tryz.f168) (c:=c168) (n:=15) Tryz.func168 (by kernel_rfl) (by kernel_rfl) (by kernel_rfl) ms168 (Eq.mpr (by kernel_rfl) h)
def b168_0 (y0 y5:AV) (S:Store) (KE0:KeT) (Q:PoT):Prop :=
  nextM true y5 S fun v2 S=>extr v2 0 S fun v3 S=>onB v3 fun b4=>gd b4 (extr v2 1 S fun v5 S=>extr v2 2 S fun v6 S=>convI .i32 y0 S fun v7 S=>bin .eql 0 v7 v6 S fun v8 S=>onB v8 fun b9=>gd b9 (Q (.ret v5) S) (KE0 15 (env168_0 y0 y5) S)) (Q (.ret (.v (.int .i64 (-1)))) S)
theorem b168_0_eq (y0 y5:AV) (S:Store) (KE0:KeT) (Q:PoT):vc Tryz.prog (c168.at_ [1,0,1,0,0]) (ms168.drop 1) (mkE 15 lv168_0 (env168_0 y0 y5)) S (thenK (fgK lv168_0 KE0) (blockK 0 (seqK (vc Tryz.prog (c168.at_ [1,1]) (ms168.drop 1)) (bodyK Tryz.prog r168 Q)))) = b168_0 y0 y5 S KE0 Q:=by kernel_rfl
theorem loop168_0 {y0 y5:AV} {S:Store} {Q:PoT} (I:Store → Prop) (μ:Store → Nat) (h0:I  S)
    (hr:∀ (S:Store),I  S → ∀ KE0:KeT,(∀ (S':Store),I  S' → μ  S' < μ  S → KE0 15 (env168_0 y0 y5) S') → b168_0 y0 y5 S KE0 Q) :
    loopV lv168_0 (vc Tryz.prog (c168.at_ [1,0,1,0,0]) (ms168.drop 1)) 15 (env168_0 y0 y5) S (blockK 0 (seqK (vc Tryz.prog (c168.at_ [1,1]) (ms168.drop 1)) (bodyK Tryz.prog r168 Q))):=by
  refine ⟨fun n e S=>n = 15 ∧ e = (env168_0 y0 y5) ∧ I  S,fun _ e S=>μ  S,?_,?_⟩
  · exact ⟨_,_,Wk.refl _ _,rfl,rfl,h0⟩
  · rintro _ e S ⟨rfl,rfl,hI⟩
    exact (b168_0_eq _ _ _ _ _).mpr (hr  S hI _ (fun  S' hI' hm=>⟨_,_,Wk.refl _ _,⟨rfl,rfl,hI'⟩,hm⟩))
noncomputable def c40:Code:=(Tryz.f40.body).getD .skip
def ms40:List (List Nat):=[[]]
def m40 (x0:AV) (S:Store) (Q:PoT):Prop :=
  boxN 82 2 x0 S fun v1 S=>shift v1 0 S fun v2 S=>ld1 v2 S fun v3 S=>bin .add 0 v3 (.v (.int .i64 1)) S fun v4 S=>shift v1 1 S fun v5 S=>ld1 v5 S fun v6 S=>lenS v6 S fun v7 S=>bin .add 0 v4 v7 S fun v8 S=>Q (.ret v8) S
theorem calls40 {x0:AV} {S:Store} {Q:PoT} (h:m40 x0 S Q):ACalls Tryz.prog 40 [x0] S Q :=
  calls_of_vc (fn:=Tryz.f40) (c:=c40) (n:=10) Tryz.func40 (by kernel_rfl) (by kernel_rfl) (by kernel_rfl) ms40 (Eq.mpr (by kernel_rfl) h)
noncomputable def c112:Code:=(Tryz.f112.body).getD .skip
def ms112:List (List Nat):=[[]]
def m112 (x0 x1:AV) (S:Store) (Q:PoT):Prop :=
  boxN 82 2 x0 S fun v1 S=>shift v1 0 S fun v2 S=>ld1 v2 S fun v3 S=>bin .geq 0 v3 (.v (.int .i64 0)) S fun v4 S=>onB v4 fun b5=>gd b5 (shift v1 0 S fun v6 S=>ld1 v6 S fun v7 S=>bin .leq 0 v7 (.v (.int .i64 2000)) S fun v8 S=>onB v8 fun b9=>gd b9 (bin .geq 0 x1 (.v (.int .i64 0)) S fun v10 S=>onB v10 fun b11=>gd b11 (bin .quo 0 x1 (.v (.int .i64 2)) S fun v12 S=>ldN 2 v1 S fun v13 S=>callF Tryz.prog 40 [v13] S Q fun v14 S=>bin .lss 0 v12 v14 S fun v15 S=>Q (.ret v15) S) (Q (.ret (.v (.bool false))) S)) (Q (.ret (.v (.bool false))) S)) (Q (.ret (.v (.bool false))) S)
theorem calls112 {x0 x1:AV} {S:Store} {Q:PoT} (h:m112 x0 x1 S Q):ACalls Tryz.prog 112 [x0,x1] S Q :=
  calls_of_vc (fn:=Tryz.f112) (c:=c112) (n:=24) Tryz.func112 (by kernel_rfl) (by kernel_rfl) (by kernel_rfl) ms112 (Eq.mpr (by kernel_rfl) h)
noncomputable def c111:Code:=(Tryz.f111.body).getD .skip
noncomputable def r111:List ResultVar:=Tryz.f111.results.toList
def env111_0 (y1 y3:AV):List AV:=[y1,y3]
def lv111_0:List Nat:=[1,3]
def env111_1 (y1 y3 y6:AV):List AV:=[y1,y3,y6]
def lv111_1:List Nat:=[1,3,6]
def ms111:List (List Nat):=[lv111_0,lv111_1,[]]
def m111 (x0:AV) (S:Store) (Q:PoT):Prop :=
  boxN 82 2 x0 S fun v1 S=>shift v1 0 S fun v2 S=>ld1 v2 S fun v3 S=>bin .lss 0 v3 (.v (.int .i64 0)) S fun v4 S=>onB v4 fun b5=>gd b5 (Q (.ret (.v (.bool false))) S) (shift v1 0 S fun v6 S=>ld1 v6 S fun v7 S=>bin .gtr 0 v7 (.v (.int .i64 2000)) S fun v8 S=>onB v8 fun b9=>gd b9 (Q (.ret (.v (.bool false))) S) (shift v1 1 S fun v10 S=>ld1 v10 S fun v11 S=>lenS v11 S fun v12 S=>bin .gtr 0 v12 (.v (.int .i64 2000)) S fun v13 S=>onB v13 fun b14=>gd b14 (Q (.ret (.v (.bool false))) S) (ldN 2 v1 S fun v15 S=>callF Tryz.prog 40 [v15] S Q fun v16 S=>bin .gtr 0 v16 (.v (.int .i64 2000)) S fun v17 S=>onB v17 fun b18=>gd b18 (Q (.ret (.v (.bool false))) S) (loopV lv111_0 (vc Tryz.prog (c111.at_ [1,1,0,1,0,0]) (ms111.drop 1)) 80 (env111_0 v1 (.v (.int .i64 0))) S (blockK 0 (seqK (vc Tryz.prog (c111.at_ [1,1,1]) (ms111.drop 2)) (bodyK Tryz.prog r111 Q)))))))
theorem calls111 {x0:AV} {S:Store} {Q:PoT} (h:m111 x0 S Q):ACalls Tryz.prog 111 [x0] S Q :=
  calls_of_vc (fn:=Tryz.f111) (c:=c111) (n:=80) Tryz.func111 (by kernel_rfl) (by kernel_rfl) (by kernel_rfl) ms111 (Eq.mpr (by kernel_rfl) h)
def b111_0 (y1 y3:AV) (S:Store) (KE0:KeT) (Q:PoT):Prop :=
  shift y1 1 S fun v19 S=>ld1 v19 S fun v20 S=>lenS v20 S fun v21 S=>bin .lss 0 y3 v21 S fun v22 S=>onB v22 fun b23=>gd b23 ((fun S0:Store=>∃ q24:AV,(shift y1 1 S fun v25 S=>v25 = q24 ∧ S = S0) ∧ ∃ q26:AV,(ld1 q24 S fun v27 S=>v27 = q26 ∧ S = S0) ∧ ∃ q28:AV,(ixS 124 2 q26 y3 S fun v29 S=>v29 = q28 ∧ S = S0) ∧ ∃ q30:AV,(ixA 2 1 q28 (.v (.int .i64 0)) S fun v31 S=>v31 = q30 ∧ S = S0) ∧ ∃ q32:AV,(ld1 q30 S fun v33 S=>v33 = q32 ∧ S = S0) ∧ ∃ q34:AV,(shift y1 1 S fun v35 S=>v35 = q34 ∧ S = S0) ∧ ∃ q36:AV,(ld1 q34 S fun v37 S=>v37 = q36 ∧ S = S0) ∧ ∃ q38:AV,(ixS 124 2 q36 y3 S fun v39 S=>v39 = q38 ∧ S = S0) ∧ ∃ q40:AV,(ixA 2 1 q38 (.v (.int .i64 1)) S fun v41 S=>v41 = q40 ∧ S = S0) ∧ ∃ q42:AV,(ld1 q40 S fun v43 S=>v43 = q42 ∧ S = S0) ∧ bin .lss 0 q42 (.v (.int .i64 2)) S fun v44 S=>onB v44 fun b45=>gd b45 (Q (.ret (.v (.bool false))) S) (bin .quo 0 q32 (.v (.int .i64 2)) S fun v46 S=>bin .quo 0 q42 (.v (.int .i64 2)) S fun v47 S=>bin .leq 0 v46 v47 S fun v48 S=>onB v48 fun b49=>gd b49 (Q (.ret (.v (.bool false))) S) (bin .quo 0 q32 (.v (.int .i64 2)) S fun v50 S=>shift y1 0 S fun v51 S=>ld1 v51 S fun v52 S=>bin .add 0 v52 (.v (.int .i64 1)) S fun v53 S=>bin .add 0 v53 y3 S fun v54 S=>bin .geq 0 v50 v54 S fun v55 S=>onB v55 fun b56=>gd b56 (Q (.ret (.v (.bool false))) S) (loopV lv111_1 (vc Tryz.prog (c111.at_ [1,1,0,1,0,0,1,0,0,1,1,1,0,0]) (ms111.drop 2)) 80 (env111_1 y1 y3 (.v (.int .i64 0))) S (blockK 2 (blockK 1 (seqK (vc Tryz.prog (c111.at_ [1,1,0,1,0,0,1,1]) (ms111.drop 2)) (thenK (fgK lv111_0 KE0) (blockK 0 (seqK (vc Tryz.prog (c111.at_ [1,1,1]) (ms111.drop 2)) (bodyK Tryz.prog r111 Q))))))))))) S) (Q (.ret (.v (.bool true))) S)
theorem b111_0_eq (y1 y3:AV) (S:Store) (KE0:KeT) (Q:PoT):vc Tryz.prog (c111.at_ [1,1,0,1,0,0]) (ms111.drop 1) (mkE 80 lv111_0 (env111_0 y1 y3)) S (thenK (fgK lv111_0 KE0) (blockK 0 (seqK (vc Tryz.prog (c111.at_ [1,1,1]) (ms111.drop 2)) (bodyK Tryz.prog r111 Q)))) = b111_0 y1 y3 S KE0 Q:=by kernel_rfl
theorem loop111_0 {y1:AV} {y30:AV} {S:Store} {Q:PoT} (I:AV → Store → Prop) (μ:AV → Store → Nat) (h0:I y30 S)
    (hr:∀ (y3:AV) (S:Store),I y3 S → ∀ KE0:KeT,(∀ (y3':AV) (S':Store),I y3' S' → μ y3' S' < μ y3 S → KE0 80 (env111_0 y1 y3') S') → b111_0 y1 y3 S KE0 Q) :
    loopV lv111_0 (vc Tryz.prog (c111.at_ [1,1,0,1,0,0]) (ms111.drop 1)) 80 (env111_0 y1 y30) S (blockK 0 (seqK (vc Tryz.prog (c111.at_ [1,1,1]) (ms111.drop 2)) (bodyK Tryz.prog r111 Q))):=by
  refine ⟨fun n e S=>n = 80 ∧ ∃ y3:AV,e = (env111_0 y1 y3) ∧ I y3 S,fun _ e S=>μ (e.getD 1 .j) S,?_,?_⟩
  · exact ⟨_,_,Wk.refl _ _,rfl,_,rfl,h0⟩
  · rintro _ e S ⟨rfl,y3,rfl,hI⟩
    exact (b111_0_eq _ _ _ _ _).mpr (hr y3 S hI _ (fun y3' S' hI' hm=>⟨_,_,Wk.refl _ _,⟨rfl,_,rfl,hI'⟩,hm⟩))
def b111_1 (y1 y3 y6:AV) (S:Store) (KE1:KeT) (KE0:KeT) (Q:PoT):Prop :=
  bin .lss 0 y6 y3 S fun v57 S=>onB v57 fun b58=>gd b58 ((fun S0:Store=>∃ q59:AV,(shift y1 1 S fun v60 S=>v60 = q59 ∧ S = S0) ∧ ∃ q61:AV,(ld1 q59 S fun v62 S=>v62 = q61 ∧ S = S0) ∧ ∃ q63:AV,(ixS 124 2 q61 y6 S fun v64 S=>v64 = q63 ∧ S = S0) ∧ ∃ q65:AV,(ldN 2 q63 S fun v66 S=>v66 = q65 ∧ S = S0) ∧ ∃ q67:AV,(shift y1 1 S fun v68 S=>v68 = q67 ∧ S = S0) ∧ ∃ q69:AV,(ld1 q67 S fun v70 S=>v70 = q69 ∧ S = S0) ∧ ∃ q71:AV,(ixS 124 2 q69 y3 S fun v72 S=>v72 = q71 ∧ S = S0) ∧ ∃ q73:AV,(ldN 2 q71 S fun v74 S=>v74 = q73 ∧ S = S0) ∧ ∃ q75:AV,(binP .i64 .eql q65 q73 S fun v76 S=>v76 = q75 ∧ S = S0) ∧ onB q75 fun b77=>gd b77 (Q (.ret (.v (.bool false))) S) (bin .add 0 y6 (.v (.int .i64 1)) S fun v78 S=>KE1 80 (env111_1 y1 y3 v78) S)) S) (bin .add 0 y3 (.v (.int .i64 1)) S fun v79 S=>KE0 80 (env111_0 y1 v79) S)
theorem b111_1_eq (y1 y3 y6:AV) (S:Store) (KE1:KeT) (KE0:KeT) (Q:PoT):vc Tryz.prog (c111.at_ [1,1,0,1,0,0,1,0,0,1,1,1,0,0]) (ms111.drop 2) (mkE 80 lv111_1 (env111_1 y1 y3 y6)) S (thenK (fgK lv111_1 KE1) (blockK 2 (blockK 1 (seqK (vc Tryz.prog (c111.at_ [1,1,0,1,0,0,1,1]) (ms111.drop 2)) (thenK (fgK lv111_0 KE0) (blockK 0 (seqK (vc Tryz.prog (c111.at_ [1,1,1]) (ms111.drop 2)) (bodyK Tryz.prog r111 Q)))))))) = b111_1 y1 y3 y6 S KE1 KE0 Q:=by kernel_rfl
theorem loop111_1 {y1 y3:AV} {y60:AV} {S:Store} {KE0:KeT} {Q:PoT} (I:AV → Store → Prop) (μ:AV → Store → Nat) (h0:I y60 S)
    (hr:∀ (y6:AV) (S:Store),I y6 S → ∀ KE1:KeT,(∀ (y6':AV) (S':Store),I y6' S' → μ y6' S' < μ y6 S → KE1 80 (env111_1 y1 y3 y6') S') → b111_1 y1 y3 y6 S KE1 KE0 Q) :
    loopV lv111_1 (vc Tryz.prog (c111.at_ [1,1,0,1,0,0,1,0,0,1,1,1,0,0]) (ms111.drop 2)) 80 (env111_1 y1 y3 y60) S (blockK 2 (blockK 1 (seqK (vc Tryz.prog (c111.at_ [1,1,0,1,0,0,1,1]) (ms111.drop 2)) (thenK (fgK lv111_0 KE0) (blockK 0 (seqK (vc Tryz.prog (c111.at_ [1,1,1]) (ms111.drop 2)) (bodyK Tryz.prog r111 Q))))))):=by
  refine ⟨fun n e S=>n = 80 ∧ ∃ y6:AV,e = (env111_1 y1 y3 y6) ∧ I y6 S,fun _ e S=>μ (e.getD 2 .j) S,?_,?_⟩
  · exact ⟨_,_,Wk.refl _ _,rfl,_,rfl,h0⟩
  · rintro _ e S ⟨rfl,y6,rfl,hI⟩
    exact (b111_1_eq _ _ _ _ _ _ _).mpr (hr y6 S hI _ (fun y6' S' hI' hm=>⟨_,_,Wk.refl _ _,⟨rfl,_,rfl,hI'⟩,hm⟩))
noncomputable def c120:Code:=(Tryz.f120.body).getD .skip
noncomputable def r120:List ResultVar:=Tryz.f120.results.toList
def env120_0 (y1 y2 y3 y6 y9:AV):List AV:=[y1,y2,y3,y6,y9]
def lv120_0:List Nat:=[1,2,3,6,9]
def ms120:List (List Nat):=[lv120_0,[]]
def m120 (x0 x1 x2:AV) (S:Store) (Q:PoT):Prop :=
  boxN 82 2 x0 S fun v1 S=>boxN 82 2 (.a [(.v (.int .i64 0)),.nl]) S fun v2 S=>ldN 2 v1 S fun v3 S=>callF Tryz.prog 111 [v3] S Q fun v4 S=>un .not v4 S fun v5 S=>onB v5 fun b6=>gd b6 (bld [(0,1),(1,1)] [(.v (.int .i64 0)),.nl] [] S fun v7 S=>stN 2 v2 v7 S fun v8 S=>ldN 2 v2 S fun v9 _=>Q (.ret (.t [v9,(.v (.int .i64 0)),(.v (.int .i64 1))])) S) (ldN 2 v1 S fun v10 S=>callF Tryz.prog 112 [v10,x1] S Q fun v11 S=>un .not v11 S fun v12 S=>onB v12 fun b13=>gd b13 (bld [(0,1),(1,1)] [(.v (.int .i64 0)),.nl] [] S fun v14 S=>stN 2 v2 v14 S fun v15 S=>ldN 2 v2 S fun v16 _=>Q (.ret (.t [v16,(.v (.int .i64 0)),(.v (.int .i64 1))])) S) (ldN 2 v1 S fun v17 S=>callF Tryz.prog 112 [v17,x2] S Q fun v18 S=>un .not v18 S fun v19 S=>onB v19 fun b20=>gd b20 (bld [(0,1),(1,1)] [(.v (.int .i64 0)),.nl] [] S fun v21 S=>stN 2 v2 v21 S fun v22 S=>ldN 2 v2 S fun v23 _=>Q (.ret (.t [v23,(.v (.int .i64 0)),(.v (.int .i64 1))])) S) (mxI true x1 x2 S fun v24 S=>mxI false x1 x2 S fun v25 S=>bin .eql 0 v25 (.v (.int .i64 0)) S fun v26 S=>onB v26 fun b27=>gd b27 (ldN 2 v1 S fun v28 S=>stN 2 v2 v28 S fun v29 S=>ldN 2 v2 S fun v30 _=>Q (.ret (.t [v30,(.v (.int .i64 0)),(.v (.int .i64 0))])) S) (bin .quo 0 v24 (.v (.int .i64 2)) S fun v31 S=>bin .quo 0 v25 (.v (.int .i64 2)) S fun v32 S=>bin .eql 0 v31 v32 S fun v33 S=>onB v33 fun b34=>gd b34 (bin .neq 0 v24 v25 S fun v35 S=>onB v35 fun b36=>gd b36 (ldN 2 v1 S fun v37 S=>stN 2 v2 v37 S fun v38 S=>ldN 2 v2 S fun v39 _=>Q (.ret (.t [v39,(.v (.int .i64 0)),(.v (.int .i64 0))])) S) (bin .eql 0 v25 (.v (.int .i64 1)) S fun v40 S=>onB v40 fun b41=>gd b41 (ldN 2 v1 S fun v42 S=>stN 2 v2 v42 S fun v43 S=>ldN 2 v2 S fun v44 _=>Q (.ret (.t [v44,v24,(.v (.int .i64 0))])) S) (bin .eql 0 v24 v25 S fun v45 S=>onB v45 fun b46=>gd b46 (ldN 2 v1 S fun v47 S=>stN 2 v2 v47 S fun v48 S=>ldN 2 v2 S fun v49 _=>Q (.ret (.t [v49,v24,(.v (.int .i64 0))])) S) (loopV lv120_0 (vc Tryz.prog (c120.at_ [1,1,1,1,0,1,0,0]) (ms120.drop 1)) 105 (env120_0 v24 v25 v1 v2 (.v (.int .i64 0))) S (blockK 1 (seqK (vc Tryz.prog (c120.at_ [1,1,1,1,1]) (ms120.drop 1)) (bodyK Tryz.prog r120 Q))))))) (bin .eql 0 v25 (.v (.int .i64 1)) S fun v50 S=>onB v50 fun b51=>gd b51 (ldN 2 v1 S fun v52 S=>stN 2 v2 v52 S fun v53 S=>ldN 2 v2 S fun v54 _=>Q (.ret (.t [v54,v24,(.v (.int .i64 0))])) S) (bin .eql 0 v24 v25 S fun v55 S=>onB v55 fun b56=>gd b56 (ldN 2 v1 S fun v57 S=>stN 2 v2 v57 S fun v58 S=>ldN 2 v2 S fun v59 _=>Q (.ret (.t [v59,v24,(.v (.int .i64 0))])) S) (loopV lv120_0 (vc Tryz.prog (c120.at_ [1,1,1,1,0,1,0,0]) (ms120.drop 1)) 105 (env120_0 v24 v25 v1 v2 (.v (.int .i64 0))) S (blockK 1 (seqK (vc Tryz.prog (c120.at_ [1,1,1,1,1]) (ms120.drop 1)) (bodyK Tryz.prog r120 Q))))))))))
theorem calls120 {x0 x1 x2:AV} {S:Store} {Q:PoT} (h:m120 x0 x1 x2 S Q):ACalls Tryz.prog 120 [x0,x1,x2] S Q :=
  calls_of_vc (fn:=Tryz.f120) (c:=c120) (n:=105) Tryz.func120 (by kernel_rfl) (by kernel_rfl) (by kernel_rfl) ms120 (Eq.mpr (by kernel_rfl) h)
def b120_0 (y1 y2 y3 y6 y9:AV) (S:Store) (KE0:KeT) (Q:PoT):Prop :=
  shift y3 1 S fun v60 S=>ld1 v60 S fun v61 S=>lenS v61 S fun v62 S=>bin .lss 0 y9 v62 S fun v63 S=>onB v63 fun b64=>gd b64 (shift y3 1 S fun v65 S=>ld1 v65 S fun v66 S=>ixS 124 2 v66 y9 S fun v67 S=>ldN 2 v67 S fun v68 S=>bld [(0,1),(1,1)] [(.v (.int .i64 0)),(.v (.int .i64 0))] [(0,y1),(1,y2)] S fun v69 S=>binP .i64 .eql v68 v69 S fun v70 S=>onB v70 fun b71=>gd b71 (∃ q72:AV,(∀ T:Store,Keep S T → ldN 2 y3 T fun v73 S=>v73 = q72 ∧ S = T) ∧ ∃ q74:AV,(∀ T:Store,Keep S T → shift y3 0 T fun v75 S=>v75 = q74 ∧ S = T) ∧ ∃ q76:AV,(∀ T:Store,Keep S T → ld1 q74 T fun v77 S=>v77 = q76 ∧ S = T) ∧ ∃ q78:AV,(∀ T:Store,Keep S T → bin .add 0 q76 (.v (.int .i64 1)) T fun v79 S=>v79 = q78 ∧ S = T) ∧ ∃ q80:AV,(∀ T:Store,Keep S T → bin .add 0 q78 y9 T fun v81 S=>v81 = q80 ∧ S = T) ∧ ∃ q82:AV,(∀ T:Store,Keep S T → bin .mul 0 (.v (.int .i64 2)) q80 T fun v83 S=>v83 = q82 ∧ S = T) ∧ stN 2 y6 q72 S fun v84 S=>(∀ T:Store,Keep S T → bin .mul 0 (.v (.int .i64 2)) q80 T fun v85 S=>v85 = q82 ∧ S = T) ∧ (∀ T:Store,Keep S T → bin .add 0 q78 y9 T fun v86 S=>v86 = q80 ∧ S = T) ∧ (∀ T:Store,Keep S T → bin .add 0 q76 (.v (.int .i64 1)) T fun v87 S=>v87 = q78 ∧ S = T) ∧ (∀ T:Store,Keep S T → ld1 q74 T fun v88 S=>v88 = q76 ∧ S = T) ∧ (∀ T:Store,Keep S T → shift y3 0 T fun v89 S=>v89 = q74 ∧ S = T) ∧ ldN 2 y6 S fun v90 _=>Q (.ret (.t [v90,q82,(.v (.int .i64 0))])) S) (bin .add 0 y9 (.v (.int .i64 1)) S fun v91 S=>KE0 105 (env120_0 y1 y2 y3 y6 v91) S)) (ldN 2 y3 S fun v92 S=>callF Tryz.prog 40 [v92] S Q fun v93 S=>bin .geq 0 v93 (.v (.int .i64 2000)) S fun v94 S=>onB v94 fun b95=>gd b95 (bld [(0,1),(1,1)] [(.v (.int .i64 0)),.nl] [] S fun v96 S=>stN 2 y6 v96 S fun v97 S=>ldN 2 y6 S fun v98 _=>Q (.ret (.t [v98,(.v (.int .i64 0)),(.v (.int .i64 2))])) S) (boxN 82 2 (.a [(.v (.int .i64 0)),.nl]) S fun v99 S=>shift y3 0 S fun v100 S=>ld1 v100 S fun v101 S=>shift v99 0 S fun v102 S=>stN 1 v102 v101 S fun v103 S=>shift v99 1 S fun v104 S=>ld1 v104 S fun v105 S=>shift y3 1 S fun v106 S=>ld1 v106 S fun v107 S=>appS 124 2 16 v105 v107 S fun v108 S=>bld [(0,1),(1,1)] [(.v (.int .i64 0)),(.v (.int .i64 0))] [(0,y1),(1,y2)] S fun v109 S=>bslN 124 2 1 [(.v (.int .i64 0)),(.v (.int .i64 0))] [(0,v109)] S fun v110 S=>appS 124 2 16 v108 v110 S fun v111 S=>shift v99 1 S fun v112 S=>stN 1 v112 v111 S fun v113 S=>∃ q114:AV,(∀ T:Store,Keep S T → ldN 2 v99 T fun v115 S=>v115 = q114 ∧ S = T) ∧ ∃ q116:AV,(∀ T:Store,Keep S T → ldN 2 v99 T fun v117 S=>v117 = q116 ∧ S = T) ∧ ∃ q118:AV,(∀ T:Store,Keep S T → callF Tryz.prog 40 [q116] T (fun _ _=>False) fun v119 S=>v119 = q118 ∧ S = T) ∧ ∃ q120:AV,(∀ T:Store,Keep S T → bin .mul 0 (.v (.int .i64 2)) q118 T fun v121 S=>v121 = q120 ∧ S = T) ∧ ∃ q122:AV,(∀ T:Store,Keep S T → bin .sub 0 q120 (.v (.int .i64 2)) T fun v123 S=>v123 = q122 ∧ S = T) ∧ stN 2 y6 q114 S fun v124 S=>(∀ T:Store,Keep S T → bin .sub 0 q120 (.v (.int .i64 2)) T fun v125 S=>v125 = q122 ∧ S = T) ∧ (∀ T:Store,Keep S T → bin .mul 0 (.v (.int .i64 2)) q118 T fun v126 S=>v126 = q120 ∧ S = T) ∧ ldN 2 y6 S fun v127 _=>Q (.ret (.t [v127,q122,(.v (.int .i64 0))])) S))
theorem b120_0_eq (y1 y2 y3 y6 y9:AV) (S:Store) (KE0:KeT) (Q:PoT):vc Tryz.prog (c120.at_ [1,1,1,1,0,1,0,0]) (ms120.drop 1) (mkE 105 lv120_0 (env120_0 y1 y2 y3 y6 y9)) S (thenK (fgK lv120_0 KE0) (blockK 1 (seqK (vc Tryz.prog (c120.at_ [1,1,1,1,1]) (ms120.drop 1)) (bodyK Tryz.prog r120 Q)))) = b120_0 y1 y2 y3 y6 y9 S KE0 Q:=by kernel_rfl
theorem loop120_0 {y1 y2 y3 y6:AV} {y90:AV} {S:Store} {Q:PoT} (I:AV → Store → Prop) (μ:AV → Store → Nat) (h0:I y90 S)
    (hr:∀ (y9:AV) (S:Store),I y9 S → ∀ KE0:KeT,(∀ (y9':AV) (S':Store),I y9' S' → μ y9' S' < μ y9 S → KE0 105 (env120_0 y1 y2 y3 y6 y9') S') → b120_0 y1 y2 y3 y6 y9 S KE0 Q) :
    loopV lv120_0 (vc Tryz.prog (c120.at_ [1,1,1,1,0,1,0,0]) (ms120.drop 1)) 105 (env120_0 y1 y2 y3 y6 y90) S (blockK 1 (seqK (vc Tryz.prog (c120.at_ [1,1,1,1,1]) (ms120.drop 1)) (bodyK Tryz.prog r120 Q))):=by
  refine ⟨fun n e S=>n = 105 ∧ ∃ y9:AV,e = (env120_0 y1 y2 y3 y6 y9) ∧ I y9 S,fun _ e S=>μ (e.getD 4 .j) S,?_,?_⟩
  · exact ⟨_,_,Wk.refl _ _,rfl,_,rfl,h0⟩
  · rintro _ e S ⟨rfl,y9,rfl,hI⟩
    exact (b120_0_eq _ _ _ _ _ _ _ _).mpr (hr y9 S hI _ (fun y9' S' hI' hm=>⟨_,_,Wk.refl _ _,⟨rfl,_,rfl,hI'⟩,hm⟩))
noncomputable def c204:Code:=(Tryz.f204.body).getD .skip
noncomputable def r204:List ResultVar:=Tryz.f204.results.toList
def env204_0 (y0 y13 y14 y15:AV):List AV:=[y0,y13,y14,y15]
def lv204_0:List Nat:=[0,13,14,15]
def ms204:List (List Nat):=[lv204_0,[]]
def m204 (x0:AV) (S:Store) (Q:PoT):Prop :=
  mkM (.p .i64) S fun v1 S=>nilChk x0 S fun v2 S=>shift v2 4 S fun v3 S=>stN 1 v3 v1 S fun v4 S=>nilChk x0 S fun v5 S=>shift v5 3 S fun v6 S=>ld1 v6 S fun v7 S=>lenS v7 S fun v8 S=>loopV lv204_0 (vc Tryz.prog (c204.at_ [1,1,0,0]) (ms204.drop 1)) 38 (env204_0 x0 v7 v8 (.v (.int .i64 0))) S (blockK 0 (bodyK Tryz.prog r204 Q))
theorem calls204 {x0:AV} {S:Store} {Q:PoT} (h:m204 x0 S Q):ACalls Tryz.prog 204 [x0] S Q :=
  calls_of_vc (fn:=Tryz.f204) (c:=c204) (n:=38) Tryz.func204 (by kernel_rfl) (by kernel_rfl) (by kernel_rfl) ms204 (Eq.mpr (by kernel_rfl) h)
def b204_0 (y0 y13 y14 y15:AV) (S:Store) (KE0:KeT) (Q:PoT):Prop :=
  bin .lss 0 y15 y14 S fun v9 S=>onB v9 fun b10=>gd b10 (ixS 124 2 y13 y15 S fun v11 S=>ldN 2 v11 S fun v12 S=>boxN 124 2 (.a [(.v (.int .i64 0)),(.v (.int .i64 0))]) S fun v13 S=>stN 2 v13 v12 S fun v14 S=>(fun S0:Store=>∃ q15:AV,(nilChk y0 S fun v16 S=>v16 = q15 ∧ S = S0) ∧ ∃ q17:AV,(shift q15 4 S fun v18 S=>v18 = q17 ∧ S = S0) ∧ ∃ q19:AV,(ld1 q17 S fun v20 S=>v20 = q19 ∧ S = S0) ∧ ∃ q21:AV,(ldN 2 v13 S fun v22 S=>v22 = q21 ∧ S = S0) ∧ ∃ q23:AV,(lkM (.p .i64) (.v (.int .i64 0)) true q19 q21 S fun v24 S=>v24 = q23 ∧ S = S0) ∧ ∃ q25:AV,(extr q23 0 S fun v26 S=>v26 = q25 ∧ S = S0) ∧ ∃ q27:AV,(extr q23 1 S fun v28 S=>v28 = q27 ∧ S = S0) ∧ un .not q27 S fun v29 S=>onB v29 fun b30=>gd b30 (∃ q31:AV,(∀ T:Store,Keep S T → nilChk y0 T fun v32 S=>v32 = q31 ∧ S = T) ∧ ∃ q33:AV,(∀ T:Store,Keep S T → shift q31 4 T fun v34 S=>v34 = q33 ∧ S = T) ∧ ∃ q35:AV,(∀ T:Store,Keep S T → ld1 q33 T fun v36 S=>v36 = q35 ∧ S = T) ∧ ∃ q37:AV,(∀ T:Store,Keep S T → ldN 2 v13 T fun v38 S=>v38 = q37 ∧ S = T) ∧ updM (.p .i64) q35 q37 y15 S fun v39 S=>bin .add 0 y15 (.v (.int .i64 1)) S fun v40 S=>KE0 38 (env204_0 y0 y13 y14 v40) S) (bin .add 0 y15 (.v (.int .i64 1)) S fun v41 S=>KE0 38 (env204_0 y0 y13 y14 v41) S)) S) (Q (.ret (.t [])) S)
theorem b204_0_eq (y0 y13 y14 y15:AV) (S:Store) (KE0:KeT) (Q:PoT):vc Tryz.prog (c204.at_ [1,1,0,0]) (ms204.drop 1) (mkE 38 lv204_0 (env204_0 y0 y13 y14 y15)) S (thenK (fgK lv204_0 KE0) (blockK 0 (bodyK Tryz.prog r204 Q))) = b204_0 y0 y13 y14 y15 S KE0 Q:=by kernel_rfl
theorem loop204_0 {y0 y13 y14:AV} {y150:AV} {S:Store} {Q:PoT} (I:AV → Store → Prop) (μ:AV → Store → Nat) (h0:I y150 S)
    (hr:∀ (y15:AV) (S:Store),I y15 S → ∀ KE0:KeT,(∀ (y15':AV) (S':Store),I y15' S' → μ y15' S' < μ y15 S → KE0 38 (env204_0 y0 y13 y14 y15') S') → b204_0 y0 y13 y14 y15 S KE0 Q) :
    loopV lv204_0 (vc Tryz.prog (c204.at_ [1,1,0,0]) (ms204.drop 1)) 38 (env204_0 y0 y13 y14 y150) S (blockK 0 (bodyK Tryz.prog r204 Q)):=by
  refine ⟨fun n e S=>n = 38 ∧ ∃ y15:AV,e = (env204_0 y0 y13 y14 y15) ∧ I y15 S,fun _ e S=>μ (e.getD 3 .j) S,?_,?_⟩
  · exact ⟨_,_,Wk.refl _ _,rfl,_,rfl,h0⟩
  · rintro _ e S ⟨rfl,y15,rfl,hI⟩
    exact (b204_0_eq _ _ _ _ _ _ _).mpr (hr y15 S hI _ (fun y15' S' hI' hm=>⟨_,_,Wk.refl _ _,⟨rfl,_,rfl,hI'⟩,hm⟩))
noncomputable def c184:Code:=(Tryz.f184.body).getD .skip
def ms184:List (List Nat):=[[204,203]]
def m184 (x0:AV) (S:Store) (Q:PoT):Prop :=
  nilChk x0 S fun v1 S=>shift v1 0 S fun v2 S=>callF Tryz.prog 203 [v2,(.f (.func 204) [x0] [])] S Q fun v3 S=>nilChk x0 S fun v4 S=>shift v4 4 S fun v5 S=>ld1 v5 S fun v6 S=>lenM v6 S fun v7 S=>Q (.ret v7) S
theorem calls184 {x0:AV} {S:Store} {Q:PoT} (h:m184 x0 S Q):ACalls Tryz.prog 184 [x0] S Q :=
  calls_of_vc (fn:=Tryz.f184) (c:=c184) (n:=14) Tryz.func184 (by kernel_rfl) (by kernel_rfl) (by kernel_rfl) ms184 (Eq.mpr (by kernel_rfl) h)
noncomputable def c164:Code:=(Tryz.f164.body).getD .skip
noncomputable def r164:List ResultVar:=Tryz.f164.results.toList
def env164_0 (y1 y2 y27 y28 y29:AV):List AV:=[y1,y2,y27,y28,y29]
def lv164_0:List Nat:=[1,2,27,28,29]
def ms164:List (List Nat):=[lv164_0,[184]]
def m164 (x0 x1:AV) (S:Store) (Q:PoT):Prop :=
  boxN 82 2 x0 S fun v1 S=>shift v1 0 S fun v2 S=>ld1 v2 S fun v3 S=>bin .lss 0 v3 (.v (.int .i64 0)) S fun v4 S=>onB v4 fun b5=>gd b5 (Q (.ret (.v (.bool false))) S) (shift v1 0 S fun v6 S=>ld1 v6 S fun v7 S=>bin .gtr 0 v7 (.v (.int .i64 2000)) S fun v8 S=>onB v8 fun b9=>gd b9 (Q (.ret (.v (.bool false))) S) (shift v1 1 S fun v10 S=>ld1 v10 S fun v11 S=>lenS v11 S fun v12 S=>bin .gtr 0 v12 (.v (.int .i64 2000)) S fun v13 S=>onB v13 fun b14=>gd b14 (Q (.ret (.v (.bool false))) S) (ldN 2 v1 S fun v15 S=>callF Tryz.prog 135 [v15] S Q fun v16 S=>bin .gtr 0 v16 (.v (.int .i64 2000)) S fun v17 S=>onB v17 fun b18=>gd b18 (Q (.ret (.v (.bool false))) S) (shift v1 1 S fun v19 S=>ld1 v19 S fun v20 S=>lenS v20 S fun v21 S=>loopV lv164_0 (vc Tryz.prog (c164.at_ [1,1,0,1,0,0]) (ms164.drop 1)) 49 (env164_0 x1 v1 v20 v21 (.v (.int .i64 0))) S (blockK 0 (seqK (vc Tryz.prog (c164.at_ [1,1,1]) (ms164.drop 1)) (bodyK Tryz.prog r164 Q)))))))
theorem calls164 {x0 x1:AV} {S:Store} {Q:PoT} (h:m164 x0 x1 S Q):ACalls Tryz.prog 164 [x0,x1] S Q :=
  calls_of_vc (fn:=Tryz.f164) (c:=c164) (n:=49) Tryz.func164 (by kernel_rfl) (by kernel_rfl) (by kernel_rfl) ms164 (Eq.mpr (by kernel_rfl) h)
def b164_0 (y1 y2 y27 y28 y29:AV) (S:Store) (KE0:KeT) (Q:PoT):Prop :=
  bin .lss 0 y29 y28 S fun v22 S=>onB v22 fun b23=>gd b23 (ixS 124 2 y27 y29 S fun v24 S=>ldN 2 v24 S fun v25 S=>boxN 124 2 (.a [(.v (.int .i64 0)),(.v (.int .i64 0))]) S fun v26 S=>stN 2 v26 v25 S fun v27 S=>ldN 2 v26 S fun v28 S=>shift y2 0 S fun v29 S=>ld1 v29 S fun v30 S=>bin .add 0 v30 (.v (.int .i64 1)) S fun v31 S=>bin .add 0 v31 y29 S fun v32 S=>callF Tryz.prog 183 [v28,v32] S Q fun v33 S=>un .not v33 S fun v34 S=>onB v34 fun b35=>gd b35 (Q (.ret (.v (.bool false))) S) (bin .add 0 y29 (.v (.int .i64 1)) S fun v36 S=>KE0 49 (env164_0 y1 y2 y27 y28 v36) S)) (∃ q37:AV,(∀ T:Store,Keep S T → shift y2 1 T fun v38 S=>v38 = q37 ∧ S = T) ∧ ∃ q39:AV,(∀ T:Store,Keep S T → ld1 q37 T fun v40 S=>v40 = q39 ∧ S = T) ∧ ∃ q41:AV,(∀ T:Store,Keep S T → lenS q39 T fun v42 S=>v42 = q41 ∧ S = T) ∧ callF Tryz.prog 184 [y1] S (fun _ _=>False) fun v43 S=>(∀ T:Store,Keep S T → lenS q39 T fun v44 S=>v44 = q41 ∧ S = T) ∧ (∀ T:Store,Keep S T → ld1 q37 T fun v45 S=>v45 = q39 ∧ S = T) ∧ (∀ T:Store,Keep S T → shift y2 1 T fun v46 S=>v46 = q37 ∧ S = T) ∧ ∃ q47:AV,(∀ T:Store,Keep S T → bin .eql 0 v43 q41 T fun v48 S=>v48 = q47 ∧ S = T) ∧ Q (.ret q47) S)
theorem b164_0_eq (y1 y2 y27 y28 y29:AV) (S:Store) (KE0:KeT) (Q:PoT):vc Tryz.prog (c164.at_ [1,1,0,1,0,0]) (ms164.drop 1) (mkE 49 lv164_0 (env164_0 y1 y2 y27 y28 y29)) S (thenK (fgK lv164_0 KE0) (blockK 0 (seqK (vc Tryz.prog (c164.at_ [1,1,1]) (ms164.drop 1)) (bodyK Tryz.prog r164 Q)))) = b164_0 y1 y2 y27 y28 y29 S KE0 Q:=by kernel_rfl
theorem loop164_0 {y1 y2 y27 y28:AV} {y290:AV} {S:Store} {Q:PoT} (I:AV → Store → Prop) (μ:AV → Store → Nat) (h0:I y290 S)
    (hr:∀ (y29:AV) (S:Store),I y29 S → ∀ KE0:KeT,(∀ (y29':AV) (S':Store),I y29' S' → μ y29' S' < μ y29 S → KE0 49 (env164_0 y1 y2 y27 y28 y29') S') → b164_0 y1 y2 y27 y28 y29 S KE0 Q) :
    loopV lv164_0 (vc Tryz.prog (c164.at_ [1,1,0,1,0,0]) (ms164.drop 1)) 49 (env164_0 y1 y2 y27 y28 y290) S (blockK 0 (seqK (vc Tryz.prog (c164.at_ [1,1,1]) (ms164.drop 1)) (bodyK Tryz.prog r164 Q))):=by
  refine ⟨fun n e S=>n = 49 ∧ ∃ y29:AV,e = (env164_0 y1 y2 y27 y28 y29) ∧ I y29 S,fun _ e S=>μ (e.getD 4 .j) S,?_,?_⟩
  · exact ⟨_,_,Wk.refl _ _,rfl,_,rfl,h0⟩
  · rintro _ e S ⟨rfl,y29,rfl,hI⟩
    exact (b164_0_eq _ _ _ _ _ _ _ _).mpr (hr y29 S hI _ (fun y29' S' hI' hm=>⟨_,_,Wk.refl _ _,⟨rfl,_,rfl,hI'⟩,hm⟩))
noncomputable def c130:Code:=(Tryz.f130.body).getD .skip
def ms130:List (List Nat):=[[164]]
def m130 (x0:AV) (S:Store) (Q:PoT):Prop :=
  boxN 82 2 x0 S fun v1 S=>ldN 2 v1 S fun v2 S=>shift v1 1 S fun v3 S=>ld1 v3 S fun v4 S=>bld [(0,3),(3,1),(4,1)] [(.v (.int .u32 0)),(.v (.int .i32 0)),(.v (.int .u32 0)),.nl,(.v (.map none))] [(1,v4)] S fun v5 S=>boxN 195 5 v5 S fun v6 S=>callF Tryz.prog 164 [v2,v6] S Q fun v7 S=>Q (.ret v7) S
theorem calls130 {x0:AV} {S:Store} {Q:PoT} (h:m130 x0 S Q):ACalls Tryz.prog 130 [x0] S Q :=
  calls_of_vc (fn:=Tryz.f130) (c:=c130) (n:=9) Tryz.func130 (by kernel_rfl) (by kernel_rfl) (by kernel_rfl) ms130 (Eq.mpr (by kernel_rfl) h)
noncomputable def c135:Code:=(Tryz.f135.body).getD .skip
def ms135:List (List Nat):=[[]]
def m135 (x0:AV) (S:Store) (Q:PoT):Prop :=
  boxN 82 2 x0 S fun v1 S=>shift v1 0 S fun v2 S=>ld1 v2 S fun v3 S=>bin .add 0 v3 (.v (.int .i64 1)) S fun v4 S=>shift v1 1 S fun v5 S=>ld1 v5 S fun v6 S=>lenS v6 S fun v7 S=>bin .add 0 v4 v7 S fun v8 S=>Q (.ret v8) S
theorem calls135 {x0:AV} {S:Store} {Q:PoT} (h:m135 x0 S Q):ACalls Tryz.prog 135 [x0] S Q :=
  calls_of_vc (fn:=Tryz.f135) (c:=c135) (n:=10) Tryz.func135 (by kernel_rfl) (by kernel_rfl) (by kernel_rfl) ms135 (Eq.mpr (by kernel_rfl) h)
noncomputable def c183:Code:=(Tryz.f183.body).getD .skip
def ms183:List (List Nat):=[[]]
def m183 (x0 x1:AV) (S:Store) (Q:PoT):Prop :=
  boxN 124 2 x0 S fun v1 S=>ixA 2 1 v1 (.v (.int .i64 1)) S fun v2 S=>ld1 v2 S fun v3 S=>bin .geq 0 v3 (.v (.int .i64 2)) S fun v4 S=>onB v4 fun b5=>gd b5 (ixA 2 1 v1 (.v (.int .i64 0)) S fun v6 S=>ld1 v6 S fun v7 S=>bin .quo 0 v7 (.v (.int .i64 2)) S fun v8 S=>ixA 2 1 v1 (.v (.int .i64 1)) S fun v9 S=>ld1 v9 S fun v10 S=>bin .quo 0 v10 (.v (.int .i64 2)) S fun v11 S=>bin .gtr 0 v8 v11 S fun v12 S=>onB v12 fun b13=>gd b13 (ixA 2 1 v1 (.v (.int .i64 0)) S fun v14 S=>ld1 v14 S fun v15 S=>bin .quo 0 v15 (.v (.int .i64 2)) S fun v16 S=>bin .lss 0 v16 x1 S fun v17 S=>Q (.ret v17) S) (Q (.ret (.v (.bool false))) S)) (Q (.ret (.v (.bool false))) S)
theorem calls183 {x0 x1:AV} {S:Store} {Q:PoT} (h:m183 x0 x1 S Q):ACalls Tryz.prog 183 [x0,x1] S Q :=
  calls_of_vc (fn:=Tryz.f183) (c:=c183) (n:=24) Tryz.func183 (by kernel_rfl) (by kernel_rfl) (by kernel_rfl) ms183 (Eq.mpr (by kernel_rfl) h)
noncomputable def c88:Code:=(Tryz.f88.body).getD .skip
def ms88:List (List Nat):=[[]]
def m88 (x0 x1:AV) (S:Store) (Q:PoT):Prop :=
  boxN 82 2 x0 S fun v1 S=>shift v1 0 S fun v2 S=>ld1 v2 S fun v3 S=>bin .geq 0 v3 (.v (.int .i64 0)) S fun v4 S=>onB v4 fun b5=>gd b5 (shift v1 0 S fun v6 S=>ld1 v6 S fun v7 S=>bin .leq 0 v7 (.v (.int .i64 2000)) S fun v8 S=>onB v8 fun b9=>gd b9 (bin .geq 0 x1 (.v (.int .i64 0)) S fun v10 S=>onB v10 fun b11=>gd b11 (bin .quo 0 x1 (.v (.int .i64 2)) S fun v12 S=>ldN 2 v1 S fun v13 S=>callF Tryz.prog 135 [v13] S Q fun v14 S=>bin .lss 0 v12 v14 S fun v15 S=>Q (.ret v15) S) (Q (.ret (.v (.bool false))) S)) (Q (.ret (.v (.bool false))) S)) (Q (.ret (.v (.bool false))) S)
theorem calls88 {x0 x1:AV} {S:Store} {Q:PoT} (h:m88 x0 x1 S Q):ACalls Tryz.prog 88 [x0,x1] S Q :=
  calls_of_vc (fn:=Tryz.f88) (c:=c88) (n:=24) Tryz.func88 (by kernel_rfl) (by kernel_rfl) (by kernel_rfl) ms88 (Eq.mpr (by kernel_rfl) h)
noncomputable def c218:Code:=(Tryz.f218.body).getD .skip
def ms218:List (List Nat):=[[221]]
def m218 (x0:AV) (S:Store) (Q:PoT):Prop :=
  nilChk x0 S fun v1 S=>shift v1 0 S fun v2 S=>callF Tryz.prog 221 [v2] S Q fun v3 S=>Q (.ret (.t [])) S
noncomputable def c219:Code:=(Tryz.f219.body).getD .skip
def ms219:List (List Nat):=[[222]]
def m219 (x0 x1:AV) (S:Store) (Q:PoT):Prop :=
  ∃ q1:AV,(∀ T:Store,Keep S T → nilChk x0 T fun v2 S=>v2 = q1 ∧ S = T) ∧ ∃ q3:AV,(∀ T:Store,Keep S T → shift q1 0 T fun v4 S=>v4 = q3 ∧ S = T) ∧ ∃ q5:AV,(∀ T:Store,Keep S T → callF Tryz.prog 223 [x1] T (fun _ _=>False) fun v6 S=>v6 = q5 ∧ S = T) ∧ callF Tryz.prog 222 [q3,q5] S (fun _ _=>False) fun v7 S=>Q (.ret (.t [])) S
noncomputable def c214:Code:=(Tryz.f214.body).getD .skip
def ms214:List (List Nat):=[[]]
def m214 (x0:AV) (S:Store) (Q:PoT):Prop :=
  nilChk x0 S fun v1 S=>shift v1 0 S fun v2 S=>callF Tryz.prog 216 [v2] S Q fun v3 S=>bin .neq 0 v3 (.v (.int .u32 0)) S fun v4 S=>Q (.ret v4) S
theorem calls214 {x0:AV} {S:Store} {Q:PoT} (h:m214 x0 S Q):ACalls Tryz.prog 214 [x0] S Q :=
  calls_of_vc (fn:=Tryz.f214) (c:=c214) (n:=8) Tryz.func214 (by kernel_rfl) (by kernel_rfl) (by kernel_rfl) ms214 (Eq.mpr (by kernel_rfl) h)
noncomputable def c217:Code:=(Tryz.f217.body).getD .skip
def ms217:List (List Nat):=[[220]]
def m217 (x0:AV) (S:Store) (Q:PoT):Prop :=
  nilChk x0 S fun v1 S=>shift v1 0 S fun v2 S=>callF Tryz.prog 220 [v2] S Q fun v3 S=>Q (.ret (.t [])) S
theorem calls217 {x0:AV} {S:Store} {Q:PoT} (h:m217 x0 S Q):ACalls Tryz.prog 217 [x0] S Q :=
  calls_of_vc (fn:=Tryz.f217) (c:=c217) (n:=6) Tryz.func217 (by kernel_rfl) (by kernel_rfl) (by kernel_rfl) ms217 (Eq.mpr (by kernel_rfl) h)
noncomputable def c220:Code:=(Tryz.f220.body).getD .skip
def ms220:List (List Nat):=[[225]]
def m220 (x0:AV) (S:Store) (Q:PoT):Prop :=
  callF Tryz.prog 224 [] S Q fun v1 S=>nilChk x0 S fun v2 S=>shift v2 0 S fun v3 S=>callF Tryz.prog 225 [v3,(.v (.int .i32 0)),(.v (.int .i32 1))] S Q fun v4 S=>onB v4 fun b5=>gd b5 (callF Tryz.prog 226 [] S Q fun v6 S=>convU x0 S fun v7 S=>callF Tryz.prog 227 [v7] S Q fun v8 S=>Q (.ret (.t [])) S) (callF Tryz.prog 228 [x0] S Q fun v9 S=>Q (.ret (.t [])) S)
theorem calls220 {x0:AV} {S:Store} {Q:PoT} (h:m220 x0 S Q):ACalls Tryz.prog 220 [x0] S Q :=
  calls_of_vc (fn:=Tryz.f220) (c:=c220) (n:=13) Tryz.func220 (by kernel_rfl) (by kernel_rfl) (by kernel_rfl) ms220 (Eq.mpr (by kernel_rfl) h)
noncomputable def c221:Code:=(Tryz.f221.body).getD .skip
def ms221:List (List Nat):=[[230]]
def m221 (x0:AV) (S:Store) (Q:PoT):Prop :=
  nilChk x0 S fun v1 S=>shift v1 0 S fun v2 S=>ld1 v2 S fun v3 S=>convU x0 S fun v4 S=>callF Tryz.prog 229 [v4] S Q fun v5 S=>callF Tryz.prog 224 [] S Q fun v6 S=>nilChk x0 S fun v7 S=>shift v7 0 S fun v8 S=>callF Tryz.prog 230 [v8,(.v (.int .i32 (-1)))] S Q fun v9 S=>bin .neq 0 v9 (.v (.int .i32 0)) S fun v10 S=>onB v10 fun b11=>gd b11 (callF Tryz.prog 231 [x0,v9] S Q fun v12 S=>callF Tryz.prog 226 [] S Q fun v13 S=>Q (.ret (.t [])) S) (callF Tryz.prog 226 [] S Q fun v14 S=>Q (.ret (.t [])) S)
theorem calls221 {x0:AV} {S:Store} {Q:PoT} (h:m221 x0 S Q):ACalls Tryz.prog 221 [x0] S Q :=
  calls_of_vc (fn:=Tryz.f221) (c:=c221) (n:=21) Tryz.func221 (by kernel_rfl) (by kernel_rfl) (by kernel_rfl) ms221 (Eq.mpr (by kernel_rfl) h)
noncomputable def c223:Code:=(Tryz.f223.body).getD .skip
def ms223:List (List Nat):=[[]]
def m223 (x0:AV) (S:Store) (Q:PoT):Prop :=
  onB x0 fun b1=>gd b1 (Q (.ret (.v (.int .u32 1))) S) (Q (.ret (.v (.int .u32 0))) S)
theorem calls223 {x0:AV} {S:Store} {Q:PoT} (h:m223 x0 S Q):ACalls Tryz.prog 223 [x0] S Q :=
  calls_of_vc (fn:=Tryz.f223) (c:=c223) (n:=4) Tryz.func223 (by kernel_rfl) (by kernel_rfl) (by kernel_rfl) ms223 (Eq.mpr (by kernel_rfl) h)
noncomputable def c203:Code:=(Tryz.f203.body).getD .skip
def ms203:List (List Nat):=[[215]]
def m203 (x0 x1:AV) (S:Store) (Q:PoT):Prop :=
  nilChk x0 S fun v1 S=>shift v1 0 S fun v2 S=>callF Tryz.prog 214 [v2] S Q fun v3 S=>un .not v3 S fun v4 S=>onB v4 fun b5=>gd b5 (callF Tryz.prog 215 [x0,x1] S Q fun v6 S=>Q (.ret (.t [])) S) (Q (.ret (.t [])) S)
theorem calls203 {x0 x1:AV} {S:Store} {Q:PoT} (h:m203 x0 x1 S Q):ACalls Tryz.prog 203 [x0,x1] S Q :=
  calls_of_vc (fn:=Tryz.f203) (c:=c203) (n:=12) Tryz.func203 (by kernel_rfl) (by kernel_rfl) (by kernel_rfl) ms203 (Eq.mpr (by kernel_rfl) h)
end Go.Proofs.YtolgpokppnajdaaGreat.G
set_option linter.unusedVariables false
set_option linter.unusedSimpArgs false
namespace Go.Proofs.YtolgpokppnajdaaGreat.G
open Go Go.Ab
noncomputable def c215:Code:=(Tryz.f215.body).getD .skip
noncomputable def r215:List ResultVar:=Tryz.f215.results.toList
def m215 (x0 x1:AV) (S:Store) (Q:AEnd → Store → Prop):Prop :=
  nilChk x0 S fun v1 S=>shift v1 1 S fun v2 S=>callF Tryz.prog 217 [v2] S (fun _ _=>False) fun v3 S=>nilChk x0 S fun v4 S=>shift v4 1 S fun v5 S=>nilChk x0 S fun v6 S=>shift v6 0 S fun v7 S=>callF Tryz.prog 214 [v7] S (fun _ _=>False) fun v8 S=>un .not v8 S fun v9 S=>onB v9 fun b10 =>
    gd b10 (nilChk x0 S fun v11 S=>shift v11 0 S fun v12 S=>callV Tryz.prog x1 [] S (fun v13 S=>ADCalls Tryz.prog 219 [v12,.v (.bool true)] S fun e S=>match e with
        | .ret _=>ADCalls Tryz.prog 218 [v5] S fun e S=>match e with | .ret _=>Q (.ret (.t [])) S | .pan _=>False
        | .pan _=>False) (fun _ _=>False))
      (ADCalls Tryz.prog 218 [v5] S fun e S=>match e with | .ret _=>Q (.ret (.t [])) S | .pan _=>False)
set_option maxRecDepth 100000 in
theorem m215_eq:(fun (x0 x1:AV) (S:Store) (Q:AEnd → Store → Prop)=>vcT Tryz.prog c215 [] (ofArgs 21 [x0,x1]) S [] (bodyT Tryz.prog r215 Q)) = (fun (x0 x1:AV) (S:Store) (Q:AEnd → Store → Prop)=>m215 x0 x1 S Q):=by kernel_rfl
theorem calls215 {x0 x1:AV} {S:Store} {Q:AEnd → Store → Prop} (h:m215 x0 x1 S Q):ACalls Tryz.prog 215 [x0,x1] S Q :=
  calls_of_vcT (fn:=Tryz.f215) (c:=c215) (n:=21) Tryz.func215 (by kernel_rfl) (by kernel_rfl) (by kernel_rfl) [] ((congrFun (congrFun (congrFun (congrFun m215_eq x0) x1) S) Q).mpr h)
theorem dcalls218 {x0:AV} {S:Store} {Q:AEnd → Store → Prop} (h:m218 x0 S Q):ADCalls Tryz.prog 218 [x0] S Q :=
  dcalls_of_vc (fn:=Tryz.f218) (c:=c218) (n:=6) Tryz.func218 (by kernel_rfl) (by kernel_rfl) (by kernel_rfl) ms218 (Eq.mpr (by kernel_rfl) h)
theorem dcalls219 {x0 x1:AV} {S:Store} {Q:AEnd → Store → Prop} (h:m219 x0 x1 S Q):ADCalls Tryz.prog 219 [x0,x1] S Q :=
  dcalls_of_vc (fn:=Tryz.f219) (c:=c219) (n:=10) Tryz.func219 (by kernel_rfl) (by kernel_rfl) (by kernel_rfl) ms219 (Eq.mpr (by kernel_rfl) h)
theorem nt224:NoText Tryz.prog 224 Tryz.f224:=⟨Tryz.func224,by kernel_rfl,by kernel_rfl,by kernel_rfl⟩
theorem nt226:NoText Tryz.prog 226 Tryz.f226:=⟨Tryz.func226,by kernel_rfl,by kernel_rfl,by kernel_rfl⟩
theorem nt227:NoText Tryz.prog 227 Tryz.f227:=⟨Tryz.func227,by kernel_rfl,by kernel_rfl,by kernel_rfl⟩
theorem nt229:NoText Tryz.prog 229 Tryz.f229:=⟨Tryz.func229,by kernel_rfl,by kernel_rfl,by kernel_rfl⟩
theorem nt216:NoText Tryz.prog 216 Tryz.f216:=⟨Tryz.func216,by kernel_rfl,by kernel_rfl,by kernel_rfl⟩
theorem nt222:NoText Tryz.prog 222 Tryz.f222:=⟨Tryz.func222,by kernel_rfl,by kernel_rfl,by kernel_rfl⟩
theorem nt225:NoText Tryz.prog 225 Tryz.f225:=⟨Tryz.func225,by kernel_rfl,by kernel_rfl,by kernel_rfl⟩
theorem nt230:NoText Tryz.prog 230 Tryz.f230:=⟨Tryz.func230,by kernel_rfl,by kernel_rfl,by kernel_rfl⟩
abbrev aW32 (n:Int):AV:=.v (.int .u32 n)
abbrev aS32 (n:Int):AV:=.v (.int .i32 n)
section
variable {S:Store} {Q:AEnd → Store → Prop}
theorem mark224 {Q:AEnd → Store → Prop} {K:AV → Store → Prop} (k:K (.t []) S):callF Tryz.prog 224 [] S Q K:=.inr (ext_mark0 nt224 .disable (by kernel_rfl) k)
theorem mark226 {K:AV → Store → Prop} (k:K (.t []) S):callF Tryz.prog 226 [] S Q K:=.inr (ext_mark0 nt226 .enable (by kernel_rfl) k)
theorem mark227 {K:AV → Store → Prop} {id i j:Nat} (k:K (.t []) S):callF Tryz.prog 227 [.p id i j] S Q K:=.inr (ext_mark1 nt227 .acquire (by kernel_rfl) k)
theorem mark229 {K:AV → Store → Prop} {id i j:Nat} (k:K (.t []) S):callF Tryz.prog 229 [.p id i j] S Q K:=.inr (ext_mark1 nt229 .releaseMerge (by kernel_rfl) k)
end
@[simp] theorem nilChk_p (id i j:Nat) (S:Store) (K:AV → Store → Prop):nilChk (.p id i j) S K = K (.p id i j) S:=rfl
theorem upd_upd (S:Store) (id:Nat) (o o':AObj):(S.upd id o).upd id o' = S.upd id o':=by
  unfold Store.upd
  congr 1
  funext i
  by_cases h:i = id <;> simp [h]
def onceO (t:TypeId) (done st:Int) (z:AV) (c:List AV):AObj:=.cells t [aW32 done :: aS32 st :: z :: c] true
section
variable {S:Store} {Q:AEnd → Store → Prop} {id t:Nat} {done st:Int} {z:AV} {c:List AV}
theorem load_once (h:S.obj id = some (onceO t done st z c)) (k:Q (.ret (aB (!decide (done = 0)))) S):ACalls Tryz.prog 214 [.p id 0 0] S Q:=by
  refine calls214 ?_
  unfold m214
  rw [nilChk_p,shift_p]
  refine .inr (ext_load nt216 .u32 (by kernel_rfl) h rfl rfl ?_)
  show bin .neq 0 (aW32 done) (aW32 0) S _
  rw [bin_neq]
  exact k
theorem lock_once (h:S.obj id = some (onceO t done 0 z c)) (k:Q (.ret (.t [])) (S.upd id (onceO t done 1 z c))):ACalls Tryz.prog 217 [.p id 0 1] S Q:=by
  refine calls217 ?_
  unfold m217
  rw [nilChk_p,shift_p]
  refine .inl (calls220 ?_)
  unfold m220
  refine mark224 ?_
  rw [nilChk_p,shift_p]
  refine .inr (ext_cas nt225 .i32 (by kernel_rfl) h rfl rfl ?_)
  show onB _ _
  rw [onB_v,gd_true]
  refine mark226 ⟨aS32 1,?_,mark227 k⟩
  simp [rd1,place,Store.get]
theorem unlock_once (h:S.obj id = some (onceO t done 1 z c)) (k:Q (.ret (.t [])) (S.upd id (onceO t done 0 z c))):ADCalls Tryz.prog 218 [.p id 0 1] S Q:=by
  refine dcalls218 ?_
  unfold m218
  rw [nilChk_p,shift_p]
  refine .inl (calls221 ?_)
  unfold m221
  rw [nilChk_p,shift_p,ld1_p h rfl rfl]
  refine ⟨aS32 1,by simp [rd1,place,Store.get,h,onceO],mark229 (mark224 ?_)⟩
  rw [nilChk_p,shift_p]
  refine .inr (ext_add nt230 .i32 (by kernel_rfl) h rfl rfl ?_)
  show bin .neq 0 (aS32 (IntKind.i32.wrap (1 + -1))) (aS32 0) _ _
  have:IntKind.i32.wrap (1 + -1) = 0:=by decide
  rw [this,bin_neq,onB_v]
  simp only [decide_true,Bool.not_true,gd_false]
  exact mark226 k
theorem store_once (h:S.obj id = some (onceO t done st z c)) (k:Q (.ret (.t [])) (S.upd id (onceO t 1 st z c))):ADCalls Tryz.prog 219 [.p id 0 0,aB true] S Q:=by
  refine dcalls219 ?_
  unfold m219
  have hb:∀ T,ACalls Tryz.prog 223 [aB true] T (fun e S'=>e = .ret (aW32 1) ∧ S' = T):=fun T=>by
    refine calls223 ?_
    unfold m223
    rw [onB_v,gd_true]
    exact ⟨rfl,rfl⟩
  refine ⟨.p id 0 0,fun T _=>⟨rfl,rfl⟩,.p id 0 0,fun T _=>⟨rfl,rfl⟩,aW32 1,fun T _=>callF_at (hb T) ⟨rfl,rfl⟩,?_⟩
  exact .inr (ext_store nt222 (by kernel_rfl) h rfl rfl k)
theorem do_once (h:S.obj id = some (onceO t 0 0 z c)) {f:AV} (hf:callV Tryz.prog f [] (S.upd id (onceO t 0 1 z c)) (fun _ S2=>∃ c',S2.obj id = some (onceO t 0 1 z c') ∧ Q (.ret (.t [])) (S2.upd id (onceO t 1 0 z c'))) (fun _ _=>False)):ACalls Tryz.prog 203 [.p id 0 0,f] S Q:=by
  refine calls203 ?_
  unfold m203
  rw [nilChk_p,shift_p]
  refine .inl (load_once h ?_)
  show un .not (aB (!decide ((0:Int) = 0))) S _
  rw [un_not,onB_v]
  refine .inl (calls215 ?_)
  unfold m215
  rw [nilChk_p,shift_p]
  refine .inl (lock_once h ?_)
  show nilChk _ _ _
  rw [nilChk_p,shift_p,nilChk_p,shift_p]
  refine .inl (load_once (upd_self _ _) ?_)
  show un .not (aB (!decide ((0:Int) = 0))) _ _
  rw [un_not,onB_v]
  show gd true _ _
  rw [gd_true,nilChk_p,shift_p]
  refine callV_mono hf (fun v S2 h2=>?_) (fun _ _ h=>h)
  obtain ⟨c',h3,h4⟩:=h2
  refine store_once h3 (unlock_once (upd_self _ _) ?_)
  show Q (.ret (.t [])) _
  rw [upd_upd]
  exact h4
end
def pL (l:List (Int × Int)):AV:=.l (l.map fun p=>[aI p.1,aI p.2])
structure Gr where
  inputs:Int
  ands:List (Int × Int)
  deriving DecidableEq
def Gr.cells (g:Gr):List AV:=[aI g.inputs,pL g.ands]
def Gr.av (g:Gr):AV:=.a g.cells
def Gr.vars (g:Gr):Int:=g.inputs + 1 + g.ands.length
def i64R (a:Int):Prop:=-9223372036854775808 ≤ a ∧ a ≤ 9223372036854775807
structure Gr.ok (g:Gr):Prop where
  inp:i64R g.inputs
  len:g.ands.length ≤ 1000000
  pairs:∀ p ∈ g.ands,i64R p.1 ∧ i64R p.2
def may (p:Int × Int) (v:Int):Bool:=decide (2 ≤ p.2) && (decide (p.2.tdiv 2 < p.1.tdiv 2) && decide (p.1.tdiv 2 < v))
def Gr.right (g:Gr):Bool:=decide (0 ≤ g.inputs) && (decide (g.inputs ≤ 2000) && (decide ((g.ands.length:Int) ≤ 2000) && (decide (g.vars ≤ 2000) &&
  ((List.range g.ands.length).all (fun i=>may (g.ands.getD i (0,0)) (g.inputs + 1 + i)) && decide g.ands.Nodup))))
def Gr.lit (g:Gr) (l:Int):Bool:=decide (0 ≤ g.inputs) && (decide (g.inputs ≤ 2000) && (decide (0 ≤ l) && decide (l.tdiv 2 < g.vars)))
@[simp] theorem lenS_pL (l:List (Int × Int)) {S:Store} {K:AV → Store → Prop}:lenS (pL l) S K = K (aI l.length) S:=by simp [pL]
theorem ixS_pL {l:List (Int × Int)} {e i:Nat} {S:Store} {K:AV → Store → Prop} (h:i < l.length):ixS e 2 (pL l) (aI i) S K = K (.q [aI l[i].1,aI l[i].2] 0) S:=by
  unfold pL
  rw [ixS_l (by simpa using h) (by simp)]
  simp
@[simp] theorem ldN_q2 {u v:AV} {S:Store} {K:AV → Store → Prop}:ldN 2 (.q [u,v] 0) S K = K (.a [u,v]) S:=by simp [ldN,rdN,place]
theorem tdiv2 {a:Int} (h:i64R a):-9223372036854775808 ≤ a.tdiv 2 ∧ a.tdiv 2 ≤ 9223372036854775807:=by
  obtain ⟨h1,h2⟩:=h
  rcases Int.le_total 0 a with h | h
  · rw [Int.tdiv_eq_ediv_of_nonneg h]; omega
  · have:a.tdiv 2 = -((-a).tdiv 2):=by rw [Int.neg_tdiv,Int.neg_neg]
    rw [this,Int.tdiv_eq_ediv_of_nonneg (by omega)]; omega
theorem bin_half {a:Int} (h:i64R a) {S:Store} {K:AV → Store → Prop}:bin .quo 0 (aI a) (.v (.int .i64 2)) S K = K (aI (a.tdiv 2)) S:=bin_quo (by decide) (tdiv2 h).1 (tdiv2 h).2 0
theorem ixA_p {n sz id:Nat} {z:Nat} {S:Store} {K:AV → Store → Prop} (hz:z < n):ixA n sz (.p id 0 0) (aI z) S K = K (.p id 0 (z * sz)) S:=by
  unfold ixA
  simp only [intA,optP_some,Int.toNat_natCast,shift_p,Nat.zero_add]
  exact propext ⟨fun h=>h.2,fun h=>⟨⟨by omega,by omega⟩,h⟩⟩
theorem ans135 {g:Gr} (hg:g.ok) (hi:g.inputs ≤ 1000000) (h0:0 ≤ g.inputs):Ans Tryz.prog 135 [g.av] (aI g.vars):=by
  intro S
  have hl:=hg.len
  refine ACalls.ans_v (calls135 ?_)
  unfold m135 Gr.av
  refine boxA_of rfl fun S1 k1 n1 o1=>?_
  rw [shift_p,ld1_p o1 rfl rfl,bin_add (by omega) (by omega),shift_p,ld1_p o1 rfl rfl,lenS_pL,bin_add (by omega) (by omega)]
  exact ⟨rfl,k1⟩
theorem ans183 {p:Int × Int} {v:Int} (h:i64R p.1 ∧ i64R p.2):Ans Tryz.prog 183 [.a [aI p.1,aI p.2],aI v] (aB (may p v)):=by
  intro S
  refine ACalls.ans_v (calls183 ?_)
  unfold m183 may
  refine boxA_of rfl fun S1 k1 n1 o1=>?_
  have e1:∀ K:AV → Store → Prop,ixA 2 1 (.p S.n 0 0) (.v (.int .i64 1)) S1 K = K (.p S.n 0 1) S1:=fun K=>ixA_p (z:=1) (by decide)
  have e0:∀ K:AV → Store → Prop,ixA 2 1 (.p S.n 0 0) (.v (.int .i64 0)) S1 K = K (.p S.n 0 0) S1:=fun K=>ixA_p (z:=0) (by decide)
  rw [e1,ld1_p o1 rfl rfl,bin_geq,onB_v]
  refine gd_of (fun h1=>?_) (fun h1=>⟨by simp only [h1,Bool.false_and],k1⟩)
  rw [e0,ld1_p o1 rfl rfl,bin_half h.1,e1,ld1_p o1 rfl rfl,bin_half h.2,bin_gtr,onB_v]
  refine gd_of (fun h2=>?_) (fun h2=>⟨by simp only [h1,h2,Bool.false_and,Bool.true_and],k1⟩)
  rw [e0,ld1_p o1 rfl rfl,bin_half h.1,bin_lss]
  exact ⟨by simp only [h1,h2,Bool.true_and],k1⟩
theorem ans88 {g:Gr} {l:Int} (hg:g.ok) (hl:i64R l):Ans Tryz.prog 88 [g.av,aI l] (aB (g.lit l)):=by
  intro S
  refine ACalls.ans_v (calls88 ?_)
  unfold m88 Gr.av Gr.lit
  refine boxA_of rfl fun S1 k1 n1 o1=>?_
  rw [shift_p,ld1_p o1 rfl rfl,bin_geq,onB_v]
  refine gd_of (fun h1=>?_) (fun h1=>⟨by simp only [h1,Bool.false_and],k1⟩)
  rw [shift_p,ld1_p o1 rfl rfl,bin_leq,onB_v]
  refine gd_of (fun h2=>?_) (fun h2=>⟨by simp only [h1,h2,Bool.false_and,Bool.true_and],k1⟩)
  rw [bin_geq,onB_v]
  refine gd_of (fun h3=>?_) (fun h3=>⟨by simp only [h1,h2,h3,Bool.false_and,Bool.true_and],k1⟩)
  rw [bin_half hl,ldN_p (n:=2) o1 rfl]
  refine callF_ans (ans135 hg (by have:=of_decide_eq_true h2; omega) (of_decide_eq_true h1)) ?_
  rw [bin_lss]
  exact ⟨by simp only [h1,h2,h3,Bool.true_and],k1⟩
def gat (l:List (Int × Int)):Nat → List (Key × AV)
  | 0=>[]
  | i + 1=>match kix (gat l i) (.p (l.getD i (0,0)).1 (l.getD i (0,0)).2) with
    | some _=>gat l i
    | none=>gat l i ++ [(.p (l.getD i (0,0)).1 (l.getD i (0,0)).2,aI i)]
theorem kix_none {es:List (Key × AV)} {k:Key}:kix es k = none ↔ k ∉ es.map (·.1):=by
  unfold kix
  rw [List.findIdx?_eq_none_iff]
  simp only [List.mem_map,not_exists,not_and]
  constructor
  · intro h x hx e
    have:=h x hx
    simp [e] at this
  · intro h x hx
    simpa using h x hx
theorem gat_keys {l:List (Int × Int)}:∀ {i:Nat},i ≤ l.length → ∀ k,k ∈ (gat l i).map (·.1) ↔ ∃ p ∈ l.take i,k = .p p.1 p.2
  | 0,_,k=>by simp [gat]
  | i + 1,h,k=>by
    have ih:=gat_keys (l:=l) (i:=i) (by omega)
    have hi:i < l.length:=by omega
    have hg:l.getD i (0,0) = l[i]:=by simp [List.getD_eq_getElem?_getD,hi]
    rw [List.take_add_one,List.getElem?_eq_getElem hi]
    unfold gat
    rw [hg]
    split
    · rename_i j hj
      rw [ih]
      have hm:Key.p l[i].1 l[i].2 ∈ (gat l i).map (·.1):=by
        by_cases c:Key.p l[i].1 l[i].2 ∈ (gat l i).map (·.1)
        · exact c
        · rw [kix_none.2 c] at hj; cases hj
      constructor
      · rintro ⟨p,hp,e⟩
        exact ⟨p,List.mem_append_left _ hp,e⟩
      · rintro ⟨p,hp,e⟩
        rcases List.mem_append.1 hp with hp | hp
        · exact ⟨p,hp,e⟩
        · have:p = l[i]:=by simpa using hp
          subst this
          rw [e]; exact (ih _).1 hm
    · rw [List.map_append,List.mem_append,ih]
      constructor
      · rintro (⟨p,hp,e⟩ | hk)
        · exact ⟨p,List.mem_append_left _ hp,e⟩
        · exact ⟨l[i],List.mem_append_right _ (by simp),by simpa using hk⟩
      · rintro ⟨p,hp,e⟩
        rcases List.mem_append.1 hp with hp | hp
        · exact .inl ⟨p,hp,e⟩
        · have:p = l[i]:=by simpa using hp
          subst this
          exact .inr (by simp [e])
theorem gat_le (l:List (Int × Int)):∀ i:Nat,(gat l i).length ≤ i
  | 0=>Nat.le_refl _
  | i + 1=>by
    have:=gat_le l i
    unfold gat
    split
    · omega
    · simp; omega
theorem gat_all {l:List (Int × Int)}:∀ {i:Nat},i ≤ l.length → ((gat l i).length = i ↔ (l.take i).Nodup)
  | 0,_=>by simp [gat]
  | i + 1,h=>by
    have ih:=gat_all (l:=l) (i:=i) (by omega)
    have hi:i < l.length:=by omega
    have hk:=gat_keys (l:=l) (i:=i) (by omega) (.p l[i].1 l[i].2)
    have hle:=gat_le l i
    have hg:l.getD i (0,0) = l[i]:=by simp [List.getD_eq_getElem?_getD,hi]
    rw [List.take_add_one,List.getElem?_eq_getElem hi,List.nodup_append]
    unfold gat
    rw [hg]
    split
    · rename_i j hj
      have hm:Key.p l[i].1 l[i].2 ∈ (gat l i).map (·.1):=by
        by_cases c:Key.p l[i].1 l[i].2 ∈ (gat l i).map (·.1)
        · exact c
        · rw [kix_none.2 c] at hj; cases hj
      obtain ⟨p,hp,e⟩:=hk.1 hm
      constructor
      · intro h; omega
      · rintro ⟨_,_,h3⟩
        refine absurd ?_ (h3 p hp l[i] (by simp))
        simp only [Key.p.injEq] at e
        exact Prod.ext e.1.symm e.2.symm
    · rename_i hn
      rw [kix_none,hk] at hn
      rw [List.length_append,List.length_singleton,Nat.add_right_cancel_iff,ih]
      constructor
      · intro h
        refine ⟨h,by simp,fun a ha b hb=>?_⟩
        have:b = l[i]:=by simpa using hb
        subst this
        rintro rfl
        exact hn ⟨_,ha,rfl⟩
      · exact fun h=>h.1
@[simp] theorem extr0 {x:AV} {l:List AV} {S:Store} {K:AV → Store → Prop}:extr (.t (x :: l)) 0 S K = K x S:=by simp [extr]
@[simp] theorem extr1 {x y:AV} {l:List AV} {S:Store} {K:AV → Store → Prop}:extr (.t (x :: y :: l)) 1 S K = K y S:=by simp [extr]
@[simp] theorem extr2 {x y z:AV} {l:List AV} {S:Store} {K:AV → Store → Prop}:extr (.t (x :: y :: z :: l)) 2 S K = K z S:=by simp [extr]
theorem lkM_m {S:Store} {kk:KK} {z:AV} {c:Bool} {id:Nat} {k:AV} {key:Key} {es:List (Key × AV)} {lv:Bool} {K:AV → Store → Prop} (h:S.obj id = some (.map kk es lv)) (hk:keyA kk k = some key):lkM kk z c (.m id) k S K = K (lkV z c (lkp es key)) S:=by
  simp [lkM,entsA,h,hk]
theorem updM_m {S:Store} {kk:KK} {id:Nat} {k v:AV} {key:Key} {es:List (Key × AV)} {K:AV → Store → Prop} (h:S.obj id = some (.map kk es true)) (hk:keyA kk k = some key):updM kk (.m id) k v S K = K .j (S.upd id (.map kk (insM es key v) true)):=by
  simp [updM,h,hk]
theorem lenM_m {S:Store} {kk:KK} {id:Nat} {es:List (Key × AV)} {lv:Bool} {K:AV → Store → Prop} (h:S.obj id = some (.map kk es lv)):lenM (.m id) S K = K (aI es.length) S:=by
  simp [lenM,h]
theorem keyP (a b:Int):keyA (.p .i64) (.a [aI a,aI b]) = some (.p a b):=by simp [keyA]
theorem lkp_isSome (es:List (Key × AV)) (k:Key):(lkp es k).isSome = (kix es k).isSome:=by
  cases h:kix es k with
  | none=>simp [lkp,h]
  | some i =>
    obtain ⟨e,h1,h2⟩:=lkp_row (kk:=.s) h
    simp [h2]
theorem make_once {S:Store} {id:Nat} {z g0:AV} {d st:Int} {l:List (Int × Int)} {Q:AEnd → Store → Prop} (hl:l.length ≤ 1000000) (hid:id < S.n) (h:S.obj id = some (onceO 195 d st z [pL l,g0]))
    (k:∀ S2 m,S.n ≤ S2.n → (∀ x,x < S.n → x ≠ id → S2.obj x = S.obj x) → m ≠ id → S2.obj id = some (onceO 195 d st z [pL l,.m m]) → S2.obj m = some (.map (.p .i64) (gat l l.length) true) → Q (.ret (.t [])) S2) :
    ACalls Tryz.prog 204 [.p id 0 0] S Q:=by
  refine calls204 ?_
  unfold m204 mkM
  have h':=(new_lt (o:=.map (.p .i64) [] true) hid).trans h
  show nilChk _ _ _
  rw [nilChk_p,shift_p]
  refine stF_of h' (by simp) rfl fun S1 n1 o1 f1=>?_
  rw [nilChk_p,shift_p,ld1_p o1 rfl rfl,lenS_pL]
  have hm:S.n ≠ id:=by omega
  refine loop204_0 (fun y S'=>S.n < S'.n ∧ (∀ x,x < S.n → x ≠ id → S'.obj x = S.obj x) ∧ S'.obj id = some (onceO 195 d st z [pL l,.m S.n]) ∧ ∃ i:Nat,y = aI i ∧ i ≤ l.length ∧ S'.obj S.n = some (.map (.p .i64) (gat l i) true))
    (fun y _=>l.length - ((intA y).getD 0).toNat) ⟨by rw [n1,new_n]; omega,fun x hx hne=>by rw [f1 x hne,new_lt hx],o1,0,rfl,Nat.zero_le _,by rw [f1 _ hm,new_self]; rfl⟩ ?_
  rintro _ S2 ⟨n2,f2,o2,i,rfl,hi,m2⟩ KE hKE
  unfold b204_0
  rw [bin_lss,onB_v]
  refine gd_of (fun hlt=>?_) (fun hge=>?_)
  · have hlt:i < l.length:=by simpa using hlt
    have hg:l.getD i (0,0) = l[i]:=by simp [List.getD_eq_getElem?_getD,hlt]
    rw [ixS_pL hlt,ldN_q2]
    refine boxA_of rfl fun S3 k3 n3 o3=>?_
    refine stA_of o3 rfl rfl fun S4 n4 o4 f4=>?_
    have p4:S4.obj id = _:=(f4 id (by omega)).trans ((k3.2 id (by omega)).trans o2)
    have q4:S4.obj S.n = _:=(f4 S.n (by omega)).trans ((k3.2 S.n n2).trans m2)
    have r4:∀ x,x < S.n → x ≠ id → S4.obj x = S.obj x:=fun x hx hne=>(f4 x (by omega)).trans ((k3.2 x (by omega)).trans (f2 x hx hne))
    show ∃ q15:AV,_
    refine ⟨_,by rw [nilChk_p]; exact ⟨rfl,rfl⟩,_,by rw [shift_p]; exact ⟨rfl,rfl⟩,_,by rw [ld1_p p4 rfl rfl]; exact ⟨rfl,rfl⟩,_,by rw [ldN_p (n:=2) o4 rfl]; exact ⟨rfl,rfl⟩,_,by rw [lkM_m q4 (keyP _ _)]; exact ⟨rfl,rfl⟩,_,by rw [lkV,extr0]; exact ⟨rfl,rfl⟩,_,by rw [lkV,extr1]; exact ⟨rfl,rfl⟩,?_⟩
    rw [lkp_isSome,un_not,onB_v]
    have hadd:∀ K:AV → Store → Prop,∀ S,bin .add 0 (.v (.int .i64 (i:Int))) (.v (.int .i64 1)) S K = K (aI (i + 1:Nat)) S:=fun K S=>bin_add (by omega) (by omega) 0
    have hμ:l.length - ((intA (aI (i + 1:Nat))).getD 0).toNat < l.length - ((intA (aI i)).getD 0).toNat:=by simp [intA]; omega
    refine gd_of (fun hn=>?_) (fun hn=>?_)
    · have hn:kix (gat l i) (.p l[i].1 l[i].2) = none:=by simpa using hn
      refine ⟨_,fun T hT=>by rw [nilChk_p]; exact ⟨rfl,rfl⟩,_,fun T hT=>by rw [shift_p]; exact ⟨rfl,rfl⟩,_,fun T hT=>by rw [ld1_p ((hT.2 id (by omega)).trans p4) rfl rfl]; exact ⟨rfl,rfl⟩,_,fun T hT=>by rw [ldN_p (n:=2) ((hT.2 _ (by omega)).trans o4) rfl]; exact ⟨rfl,rfl⟩,?_⟩
      rw [updM_m q4 (keyP _ _),hadd]
      refine hKE _ _ ⟨by simp; omega,fun x hx hne=>by rw [upd_ne (by omega)]; exact r4 x hx hne,by rw [upd_ne (by omega)]; exact p4,i + 1,rfl,hlt,?_⟩ hμ
      rw [upd_self]
      simp only [gat,hg,hn,insM_none hn]
    · obtain ⟨j,hj⟩:∃ j,kix (gat l i) (.p l[i].1 l[i].2) = some j:=by
        cases e:kix (gat l i) (.p l[i].1 l[i].2) with
        | none=>simp [e] at hn
        | some j=>exact ⟨j,rfl⟩
      rw [hadd]
      refine hKE _ _ ⟨by omega,r4,p4,i + 1,rfl,hlt,?_⟩ hμ
      rw [q4]
      simp only [gat,hg,hj]
  · have hge:i = l.length:=by simp at hge; omega
    subst hge
    exact k S2 S.n (by omega) f2 hm o2 m2
theorem many_once {S:Store} {id:Nat} {z g0:AV} {l:List (Int × Int)} {Q:AEnd → Store → Prop} (hl:l.length ≤ 1000000) (hid:id < S.n) (h:S.obj id = some (onceO 195 0 0 z [pL l,g0]))
    (k:∀ S2,S.n ≤ S2.n → (∀ x,x < S.n → x ≠ id → S2.obj x = S.obj x) → Q (.ret (aI (gat l l.length).length)) S2) :
    ACalls Tryz.prog 184 [.p id 0 0] S Q:=by
  refine calls184 ?_
  unfold m184
  rw [nilChk_p,shift_p]
  refine .inl (do_once h (.inl (make_once hl (by simpa using hid) (upd_self _ _) fun S2 m n2 f2 hm o2 m2=>⟨_,o2,?_⟩)))
  show nilChk _ _ _
  rw [nilChk_p,shift_p,ld1_p (show (S2.upd id (onceO 195 1 0 z [pL l,.m m])).obj id = some (.cells 195 [[aW32 1,aS32 0,z,pL l,.m m]] true) from upd_self _ _) rfl rfl]
  rw [lenM_m (by rw [upd_ne hm]; exact m2)]
  refine k _ (by simpa using n2) fun x hx hne=>?_
  rw [upd_ne hne,f2 x (by simpa using hx) hne,upd_ne hne]
theorem bld_of {pl:List (Nat × Nat)} {zc:List AV} {parts:List (Nat × AV)} {S:Store} {K:AV → Store → Prop} {cs:List AV} (h:fillA (fun i=>pl[i]?) zc parts = some cs):bld pl zc parts S K = K (.a cs) S:=by
  simp [bld,h]
theorem right_of {g:Gr} (hg:g.ok) {S:Store} {id:Nat} (hid:id < S.n) {z g0:AV} (h:S.obj id = some (onceO 195 0 0 z [pL g.ands,g0])) {Q:AEnd → Store → Prop}
    (k:∀ S2,S.n ≤ S2.n → (∀ x,x < S.n → x ≠ id → S2.obj x = S.obj x) → Q (.ret (aB g.right)) S2):ACalls Tryz.prog 164 [g.av,.p id 0 0] S Q:=by
  have hlen:=hg.len
  refine calls164 ?_
  unfold m164 Gr.av
  refine boxA_of rfl fun S1 k1 n1 o1=>?_
  have kk:∀ b:Bool,g.right = b → Q (.ret (aB b)) S1:=fun b e=>e ▸ k S1 (by omega) fun x hx _=>k1.2 x hx
  rw [shift_p,ld1_p o1 rfl rfl,bin_lss,onB_v]
  refine gd_of (fun h1=>kk _ ?_) (fun h1=>?_)
  · have h1:=of_decide_eq_true h1
    simp [Gr.right,show ¬ 0 ≤ g.inputs by omega]
  have h1:0 ≤ g.inputs:=by simpa using h1
  rw [shift_p,ld1_p o1 rfl rfl,bin_gtr,onB_v]
  refine gd_of (fun h2=>kk _ ?_) (fun h2=>?_)
  · have h2:=of_decide_eq_true h2
    simp [Gr.right,show ¬ g.inputs ≤ 2000 by omega]
  have h2:g.inputs ≤ 2000:=by simpa using h2
  rw [shift_p,ld1_p o1 rfl rfl,lenS_pL,bin_gtr,onB_v]
  refine gd_of (fun h3=>kk _ ?_) (fun h3=>?_)
  · have h3:=of_decide_eq_true h3
    have:¬ (g.ands.length:Int) ≤ 2000:=by omega
    simp only [Gr.right,this,decide_false,Bool.false_and,Bool.and_false]
  have h3:g.ands.length ≤ 2000:=by have:=of_decide_eq_false h3; omega
  rw [ldN_p (n:=2) o1 rfl]
  refine callF_ans (ans135 hg (by omega) h1) ?_
  rw [bin_gtr,onB_v]
  refine gd_of (fun h4=>kk _ ?_) (fun h4=>?_)
  · have h4:=of_decide_eq_true h4
    simp [Gr.right,show ¬ g.vars ≤ 2000 by omega]
  have h4:g.vars ≤ 2000:=by simpa using h4
  rw [shift_p,ld1_p o1 rfl rfl,lenS_pL]
  refine loop164_0 (fun y S'=>Keep S1 S' ∧ ∃ i:Nat,y = aI i ∧ i ≤ g.ands.length ∧ ∀ j,j < i → may (g.ands.getD j (0,0)) (g.inputs + 1 + j) = true)
    (fun y _=>g.ands.length - ((intA y).getD 0).toNat) ⟨Keep.refl _,0,rfl,Nat.zero_le _,fun j hj=>(Nat.not_lt_zero _ hj).elim⟩ ?_
  rintro _ S2 ⟨k2,i,rfl,hi,hmay⟩ KE hKE
  have o2:=(k2.2 S.n (by omega)).trans o1
  have b2:=(k2.2 id (by omega)).trans ((k1.2 id hid).trans h)
  unfold b164_0
  rw [bin_lss,onB_v]
  refine gd_of (fun hlt=>?_) (fun hge=>?_)
  · have hlt:i < g.ands.length:=by simpa using hlt
    have hg':g.ands.getD i (0,0) = g.ands[i]:=by simp [List.getD_eq_getElem?_getD,hlt]
    rw [ixS_pL hlt,ldN_q2]
    refine boxA_of rfl fun S3 k3 n3 o3=>?_
    refine stA_of o3 rfl rfl fun S4 n4 o4 f4=>?_
    have k4:Keep S1 S4:=(k2.trans k3).st (by have:=k2.1; omega) n4 f4
    have p4:=(k4.2 S.n (by omega)).trans o1
    rw [ldN_p (n:=2) o4 rfl,shift_p,ld1_p p4 rfl rfl,bin_add (by omega) (by omega),bin_add (by omega) (by omega)]
    refine callF_ans (ans183 (p:=g.ands[i]) (hg.pairs _ (List.getElem_mem hlt))) ?_
    rw [un_not,onB_v]
    refine gd_of (fun h5=>?_) (fun h5=>?_)
    · have:g.right = false:=by
        have hr:(List.range g.ands.length).all (fun i=>may (g.ands.getD i (0,0)) (g.inputs + 1 + i)) = false:=by
          rw [List.all_eq_false]
          exact ⟨i,by simpa using hlt,by rw [hg']; simpa using h5⟩
        simp only [Gr.right,hr,Bool.false_and,Bool.and_false]
      rw [← this]
      exact k S4 (by have:=k4.1; omega) fun x hx _=>(k4.2 x (by omega)).trans (k1.2 x hx)
    · have hadd:∀ K:AV → Store → Prop,∀ S,bin .add 0 (.v (.int .i64 (i:Int))) (.v (.int .i64 1)) S K = K (aI (i + 1:Nat)) S:=fun K S=>bin_add (by omega) (by omega) 0
      rw [hadd]
      refine hKE _ _ ⟨k4,i + 1,rfl,hlt,fun j hj=>?_⟩ (by simp [intA]; omega)
      rcases Nat.lt_or_ge j i with hj' | hj'
      · exact hmay j hj'
      · have:j = i:=by omega
        subst this
        rw [hg']
        simpa using h5
  · have hge:i = g.ands.length:=by simp at hge; omega
    subst hge
    have hn2:=k2.1
    refine ⟨_,fun T hT=>by rw [shift_p]; exact ⟨rfl,rfl⟩,_,fun T hT=>by rw [ld1_p ((hT.2 _ (by omega)).trans o2) rfl rfl]; exact ⟨rfl,rfl⟩,_,fun T hT=>by rw [lenS_pL]; exact ⟨rfl,rfl⟩,.inl (many_once hlen (by omega) b2 fun S3 n3 f3=>?_)⟩
    have o3:=(f3 S.n (by omega) (by omega)).trans o2
    refine ⟨fun T hT=>by rw [lenS_pL]; exact ⟨rfl,rfl⟩,fun T hT=>by rw [ld1_p ((hT.2 _ (by omega)).trans o3) rfl rfl]; exact ⟨rfl,rfl⟩,fun T hT=>by rw [shift_p]; exact ⟨rfl,rfl⟩,_,fun T hT=>by rw [bin_eql]; exact ⟨rfl,rfl⟩,?_⟩
    have:g.right = decide (((gat g.ands g.ands.length).length:Int) = g.ands.length):=by
      have hr:(List.range g.ands.length).all (fun i=>may (g.ands.getD i (0,0)) (g.inputs + 1 + i)) = true:=by
        rw [List.all_eq_true]
        exact fun j hj=>hmay j (by simpa using hj)
      have hall:=gat_all (l:=g.ands) (i:=g.ands.length) (Nat.le_refl _)
      rw [List.take_length] at hall
      simp only [Gr.right,hr,Bool.true_and,h1,h2,h4,show (g.ands.length:Int) ≤ 2000 by omega,decide_true,Int.natCast_inj,hall]
    rw [← this]
    exact k S3 (by omega) fun x hx hne=>(f3 x (by omega) hne).trans ((k2.2 x (by omega)).trans (k1.2 x hx))
theorem ans130 {g:Gr} (hg:g.ok):Ans Tryz.prog 130 [g.av] (aB g.right):=by
  intro S
  refine ACalls.ans_v (calls130 ?_)
  unfold m130 Gr.av
  refine boxA_of rfl fun S1 k1 n1 o1=>?_
  rw [ldN_p (n:=2) o1 rfl,shift_p,ld1_p o1 rfl rfl]
  rw [bld_of (cs:=[aW32 0,aS32 0,.v (.int .u32 0),pL g.ands,.v (.map none)]) rfl]
  refine boxA_of rfl fun S2 k2 n2 o2=>?_
  refine .inl (right_of hg (by omega) o2 fun S3 n3 f3=>⟨rfl,k1.trans ⟨by omega,fun x hx=>?_⟩⟩)
  rw [f3 x (by omega) (by omega),k2.2 x hx]
theorem ans40 {g:Gr} (hg:g.ok) (hi:g.inputs ≤ 1000000) (h0:0 ≤ g.inputs):Ans Tryz.prog 40 [g.av] (aI g.vars):=by
  intro S
  have hl:=hg.len
  refine ACalls.ans_v (calls40 ?_)
  unfold m40 Gr.av
  refine boxA_of rfl fun S1 k1 n1 o1=>?_
  rw [shift_p,ld1_p o1 rfl rfl,bin_add (by omega) (by omega),shift_p,ld1_p o1 rfl rfl,lenS_pL,bin_add (by omega) (by omega)]
  exact ⟨rfl,k1⟩
theorem ans112 {g:Gr} {l:Int} (hg:g.ok) (hl:i64R l):Ans Tryz.prog 112 [g.av,aI l] (aB (g.lit l)):=by
  intro S
  refine ACalls.ans_v (calls112 ?_)
  unfold m112 Gr.av Gr.lit
  refine boxA_of rfl fun S1 k1 n1 o1=>?_
  rw [shift_p,ld1_p o1 rfl rfl,bin_geq,onB_v]
  refine gd_of (fun h1=>?_) (fun h1=>⟨by simp only [h1,Bool.false_and],k1⟩)
  rw [shift_p,ld1_p o1 rfl rfl,bin_leq,onB_v]
  refine gd_of (fun h2=>?_) (fun h2=>⟨by simp only [h1,h2,Bool.false_and,Bool.true_and],k1⟩)
  rw [bin_geq,onB_v]
  refine gd_of (fun h3=>?_) (fun h3=>⟨by simp only [h1,h2,h3,Bool.false_and,Bool.true_and],k1⟩)
  rw [bin_half hl,ldN_p (n:=2) o1 rfl]
  refine callF_ans (ans40 hg (by have:=of_decide_eq_true h2; omega) (of_decide_eq_true h1)) ?_
  rw [bin_lss]
  exact ⟨by simp only [h1,h2,h3,Bool.true_and],k1⟩
theorem binP_eq {a b c d:Int} {S:Store} {K:AV → Store → Prop}:binP .i64 .eql (.a [aI a,aI b]) (.a [aI c,aI d]) S K = K (aB (decide ((a,b) = (c,d)))) S:=by
  simp [binP,keyA]
theorem ixA_q {n sz:Nat} {c:List AV} {z:Nat} {S:Store} {K:AV → Store → Prop} (hz:z < n):ixA n sz (.q c 0) (aI z) S K = K (.q c (z * sz)) S:=by
  unfold ixA
  simp only [intA,optP_some,Int.toNat_natCast,shift,Nat.zero_add]
  exact propext ⟨fun h=>h.2,fun h=>⟨⟨by omega,by omega⟩,h⟩⟩
theorem ld1_q1 {u v:AV} {S:Store} {K:AV → Store → Prop}:ld1 (.q [u,v] 1) S K = K v S:=by simp [ld1,rd1,place]
theorem ld1_q0 {u:AV} {l:List AV} {S:Store} {K:AV → Store → Prop}:ld1 (.q (u :: l) 0) S K = K u S:=by simp [ld1,rd1,place]
theorem right_iff {g:Gr}:g.right = true ↔ 0 ≤ g.inputs ∧ g.inputs ≤ 2000 ∧ (g.ands.length:Int) ≤ 2000 ∧ g.vars ≤ 2000 ∧ (∀ j,j < g.ands.length → may (g.ands.getD j (0,0)) (g.inputs + 1 + j) = true) ∧ g.ands.Nodup:=by
  simp [Gr.right]
theorem nodup_take {α:Type} [DecidableEq α] {l:List α} {i:Nat} (h:i < l.length):(l.take (i + 1)).Nodup ↔ (l.take i).Nodup ∧ ∀ k (hk:k < i),l[k] ≠ l[i]:=by
  rw [List.take_add_one,List.getElem?_eq_getElem h,List.nodup_append]
  constructor
  · rintro ⟨h1,_,h3⟩
    refine ⟨h1,fun k hk=>h3 _ ?_ _ (by simp)⟩
    rw [List.mem_take_iff_getElem]
    exact ⟨k,by omega,rfl⟩
  · rintro ⟨h1,h2⟩
    refine ⟨h1,by simp,fun a ha b hb=>?_⟩
    have:b = l[i]:=by simpa using hb
    subst this
    rw [List.mem_take_iff_getElem] at ha
    obtain ⟨k,hk,rfl⟩:=ha
    exact h2 k (by omega)
theorem may_false1 {p:Int × Int} {v:Int} (h:p.2 < 2):may p v = false:=by simp [may,show ¬ 2 ≤ p.2 by omega]
theorem may_false2 {p:Int × Int} {v:Int} (h:p.1.tdiv 2 ≤ p.2.tdiv 2):may p v = false:=by simp [may,show ¬ p.2.tdiv 2 < p.1.tdiv 2 by omega]
theorem may_false3 {p:Int × Int} {v:Int} (h:v ≤ p.1.tdiv 2):may p v = false:=by simp [may,show ¬ p.1.tdiv 2 < v by omega]
theorem right_may {g:Gr} {i:Nat} (h:i < g.ands.length) (hm:may (g.ands.getD i (0,0)) (g.inputs + 1 + i) = false):g.right = false:=by
  cases e:g.right with
  | false=>rfl
  | true=>rw [(right_iff.1 e).2.2.2.2.1 i h] at hm; cases hm
theorem ans111 {g:Gr} (hg:g.ok):Ans Tryz.prog 111 [g.av] (aB g.right):=by
  intro S
  refine ACalls.ans_v (calls111 ?_)
  have hlen:=hg.len
  unfold m111 Gr.av
  refine boxA_of rfl fun S1 k1 n1 o1=>?_
  rw [shift_p,ld1_p o1 rfl rfl,bin_lss,onB_v]
  refine gd_of (fun h1=>⟨?_,k1⟩) (fun h1=>?_)
  · have h1:=of_decide_eq_true h1
    simp [Gr.right,show ¬ 0 ≤ g.inputs by omega]
  have h1:0 ≤ g.inputs:=by simpa using h1
  rw [shift_p,ld1_p o1 rfl rfl,bin_gtr,onB_v]
  refine gd_of (fun h2=>⟨?_,k1⟩) (fun h2=>?_)
  · have h2:=of_decide_eq_true h2
    simp [Gr.right,show ¬ g.inputs ≤ 2000 by omega]
  have h2:g.inputs ≤ 2000:=by simpa using h2
  rw [shift_p,ld1_p o1 rfl rfl,lenS_pL,bin_gtr,onB_v]
  refine gd_of (fun h3=>⟨?_,k1⟩) (fun h3=>?_)
  · have h3:=of_decide_eq_true h3
    have:¬ (g.ands.length:Int) ≤ 2000:=by omega
    simp only [Gr.right,this,decide_false,Bool.false_and,Bool.and_false]
  have h3:g.ands.length ≤ 2000:=by have:=of_decide_eq_false h3; omega
  rw [ldN_p (n:=2) o1 rfl]
  refine callF_ans (ans40 hg (by omega) h1) ?_
  rw [bin_gtr,onB_v]
  refine gd_of (fun h4=>⟨?_,k1⟩) (fun h4=>?_)
  · have h4:=of_decide_eq_true h4
    simp [Gr.right,show ¬ g.vars ≤ 2000 by omega]
  have h4:g.vars ≤ 2000:=by simpa using h4
  refine loop111_0 (fun y S'=>S' = S1 ∧ ∃ i:Nat,y = aI i ∧ i ≤ g.ands.length ∧ (∀ j,j < i → may (g.ands.getD j (0,0)) (g.inputs + 1 + j) = true) ∧ (g.ands.take i).Nodup)
    (fun y _=>g.ands.length - ((intA y).getD 0).toNat) ⟨rfl,0,rfl,Nat.zero_le _,fun j hj=>(Nat.not_lt_zero _ hj).elim,by simp⟩ ?_
  rintro _ S1 ⟨rfl,i,rfl,hi,hmay,hnd⟩ KE hKE
  unfold b111_0
  rw [shift_p,ld1_p o1 rfl rfl,lenS_pL,bin_lss,onB_v]
  refine gd_of (fun hlt=>?_) (fun hge=>?_)
  · have hlt:i < g.ands.length:=by simpa using hlt
    have hg':g.ands.getD i (0,0) = g.ands[i]:=by simp [List.getD_eq_getElem?_getD,hlt]
    have hp:=hg.pairs _ (List.getElem_mem hlt)
    have e1:∀ (c:List AV) (K:AV → Store → Prop),ixA 2 1 (.q c 0) (.v (.int .i64 1)) S1 K = K (.q c 1) S1:=fun c K=>ixA_q (z:=1) (by decide)
    have e0:∀ (c:List AV) (K:AV → Store → Prop),ixA 2 1 (.q c 0) (.v (.int .i64 0)) S1 K = K (.q c 0) S1:=fun c K=>ixA_q (z:=0) (by decide)
    show ∃ q24:AV,_
    refine ⟨_,by rw [shift_p]; exact ⟨rfl,rfl⟩,_,by rw [ld1_p o1 rfl rfl]; exact ⟨rfl,rfl⟩,_,by rw [ixS_pL hlt]; exact ⟨rfl,rfl⟩,_,by rw [e0]; exact ⟨rfl,rfl⟩,_,by rw [ld1_q0]; exact ⟨rfl,rfl⟩,
      _,by rw [shift_p]; exact ⟨rfl,rfl⟩,_,by rw [ld1_p o1 rfl rfl]; exact ⟨rfl,rfl⟩,_,by rw [ixS_pL hlt]; exact ⟨rfl,rfl⟩,_,by rw [e1]; exact ⟨rfl,rfl⟩,_,by rw [ld1_q1]; exact ⟨rfl,rfl⟩,?_⟩
    rw [bin_lss,onB_v]
    refine gd_of (fun h5=>⟨?_,k1⟩) (fun h5=>?_)
    · rw [right_may hlt (by rw [hg']; exact may_false1 (of_decide_eq_true h5))]
    rw [bin_half hp.1,bin_half hp.2,bin_leq,onB_v]
    refine gd_of (fun h6=>⟨?_,k1⟩) (fun h6=>?_)
    · rw [right_may hlt (by rw [hg']; exact may_false2 (of_decide_eq_true h6))]
    rw [bin_half hp.1,shift_p,ld1_p o1 rfl rfl,bin_add (by omega) (by omega),bin_add (by omega) (by omega),bin_geq,onB_v]
    refine gd_of (fun h7=>⟨?_,k1⟩) (fun h7=>?_)
    · rw [right_may hlt (by rw [hg']; exact may_false3 (of_decide_eq_true h7))]
    have h5:=of_decide_eq_false h5
    have h6:=of_decide_eq_false h6
    have h7:=of_decide_eq_false h7
    refine loop111_1 (fun y S'=>S' = S1 ∧ ∃ k:Nat,y = aI k ∧ k ≤ i ∧ ∀ j (hj:j < k) (hk:k ≤ i),g.ands[j]'(by omega) ≠ g.ands[i])
      (fun y _=>g.ands.length - ((intA y).getD 0).toNat) ⟨rfl,0,rfl,Nat.zero_le _,fun j hj=>(Nat.not_lt_zero _ hj).elim⟩ ?_
    rintro _ S1 ⟨rfl,k,rfl,hk,hne⟩ KE1 hKE1
    unfold b111_1
    rw [bin_lss,onB_v]
    refine gd_of (fun hlk=>?_) (fun hgk=>?_)
    · have hlk:k < i:=by simpa using hlk
      have hkl:k < g.ands.length:=by omega
      show ∃ q24:AV,_
      refine ⟨_,by rw [shift_p]; exact ⟨rfl,rfl⟩,_,by rw [ld1_p o1 rfl rfl]; exact ⟨rfl,rfl⟩,_,by rw [ixS_pL hkl]; exact ⟨rfl,rfl⟩,_,by rw [ldN_q2]; exact ⟨rfl,rfl⟩,
        _,by rw [shift_p]; exact ⟨rfl,rfl⟩,_,by rw [ld1_p o1 rfl rfl]; exact ⟨rfl,rfl⟩,_,by rw [ixS_pL hlt]; exact ⟨rfl,rfl⟩,_,by rw [ldN_q2]; exact ⟨rfl,rfl⟩,_,by rw [binP_eq]; exact ⟨rfl,rfl⟩,?_⟩
      rw [onB_v]
      refine gd_of (fun h8=>⟨?_,k1⟩) (fun h8=>?_)
      · have h8:g.ands[k] = g.ands[i]:=of_decide_eq_true h8
        have:g.right = false:=by
          cases e:g.right with
          | false=>rfl
          | true =>
            have hnd:=(right_iff.1 e).2.2.2.2.2
            exact absurd h8 (List.pairwise_iff_getElem.1 hnd k i hkl hlt hlk)
        rw [this]
      · have h8:¬ g.ands[k] = g.ands[i]:=of_decide_eq_false h8
        have hadd:∀ K:AV → Store → Prop,∀ S,bin .add 0 (.v (.int .i64 (k:Int))) (.v (.int .i64 1)) S K = K (aI (k + 1:Nat)) S:=fun K S=>bin_add (by omega) (by omega) 0
        rw [hadd]
        refine hKE1 _ _ ⟨rfl,k + 1,rfl,hlk,fun j hj _=>?_⟩ (by simp [intA]; omega)
        rcases Nat.lt_or_ge j k with hj' | hj'
        · exact hne j hj' (by omega)
        · have:j = k:=by omega
          subst this
          exact h8
    · have hge:k = i:=by simp at hgk; omega
      subst hge
      have hadd:∀ K:AV → Store → Prop,∀ S,bin .add 0 (.v (.int .i64 (k:Int))) (.v (.int .i64 1)) S K = K (aI (k + 1:Nat)) S:=fun K S=>bin_add (by omega) (by omega) 0
      rw [hadd]
      refine hKE _ _ ⟨rfl,k + 1,rfl,hlt,fun j hj=>?_,(nodup_take hlt).2 ⟨hnd,fun j hj=>hne j hj (Nat.le_refl _)⟩⟩ (by simp [intA]; omega)
      rcases Nat.lt_or_ge j k with hj' | hj'
      · exact hmay j hj'
      · have:j = k:=by omega
        subst this
        rw [hg']
        simp [may,show 2 ≤ (g.ands[j]).2 by omega,show (g.ands[j]).2.tdiv 2 < (g.ands[j]).1.tdiv 2 by omega,show (g.ands[j]).1.tdiv 2 < g.inputs + 1 + j by omega]
  · have hge:i = g.ands.length:=by simp at hge; omega
    subst hge
    rw [List.take_length] at hnd
    rw [right_iff.2 ⟨h1,h2,by omega,h4,hmay,hnd⟩]
    exact ⟨rfl,k1⟩
theorem Own.appL {n:Nat} {S:Store} {x:AV} {e sz b:Nat} {es ys:List (List AV)} (h:Own n S x e es) (hn:n ≤ S.n) {K:AV → Store → Prop} (hc:∀ c ∈ ys,c.length = sz) (hb:(es.length + ys.length) * b ≤ 140737488355328)
    (k:∀ x' S',Own n S' x' e (es ++ ys) → But S S' x → (x' = x ∨ ∃ m,x' = .s S.n 0 m) → K x' S') {y:AV} (hy:srcE S y = some ys):appS e sz b x y S K:=by
  refine ⟨h.isSl,ys,hy,hc,?_⟩
  cases ys with
  | nil=>exact k x S (by simpa using h) ⟨Nat.le_refl _,fun _ _ _=>rfl⟩ (.inl rfl)
  | cons c ys =>
    rcases h with ⟨rfl,rfl⟩ | ⟨id,rfl,h1,h2,h3⟩
    · refine ⟨by simpa using hb,k _ _ (.inr ⟨S.n,rfl,hn,Nat.lt_succ_self _,by simp [Store.new]⟩) ⟨Nat.le_succ _,fun i hi _=>?_⟩ (.inr ⟨_,rfl⟩)⟩
      simp only [Store.new]; rw [if_neg (by omega)]
    · simp only [appE,h3]
      refine ⟨⟨trivial,trivial,by simpa using hb⟩,k _ _ (.inr ⟨S.n,by simp,hn,Nat.lt_succ_self _,by simp [Store.new,Store.kill]⟩) ⟨Nat.le_succ _,fun i hi hne=>?_⟩ (.inr ⟨_,rfl⟩)⟩
      have e1:i ≠ S.n:=by omega
      have e2:i ≠ id:=fun hq=>hne 0 es.length (by rw [hq])
      simp [Store.new,Store.kill,e1,e2]
theorem bslP {e:Nat} {z1 z2 u v:AV} {S:Store} {K:AV → Store → Prop} (k:K (.l [[u,v]]) S):bslN e 2 1 [z1,z2] [(0,.a [u,v])] S K:=by
  refine ⟨[u,v],?_,.inr ?_⟩
  · simp [fillA,cellsOf,spl,List.range_succ]
  · simpa [chunks,List.range_succ] using k
@[simp] theorem mx_true (a b:Int) {S:Store} {K:AV → Store → Prop}:mxI true (aI a) (aI b) S K = K (aI (if b > a then b else a)) S:=rfl
@[simp] theorem mx_false (a b:Int) {S:Store} {K:AV → Store → Prop}:mxI false (aI a) (aI b) S K = K (aI (if b < a then b else a)) S:=rfl
theorem treeP (l:List (Int × Int)):Tree (pL l):=Tree.l fun c hc u hu=>by
  obtain ⟨p,_,rfl⟩:=List.mem_map.1 hc
  rcases List.mem_cons.1 hu with rfl | hu
  · exact Tree.v _
  · rcases List.mem_cons.1 hu with rfl | hu
    · exact Tree.v _
    · simp at hu
theorem Gr.tree (g:Gr):Tree g.av:=Tree.a fun u hu=>by
  rcases List.mem_cons.1 hu with rfl | hu
  · exact Tree.v _
  · rcases List.mem_cons.1 hu with rfl | hu
    · exact treeP _
    · simp at hu
theorem cv_t3 {S:Store} {n:Nat} {x y z x' y' z':AV} (h1:Cv S n x x') (h2:Cv S n y y') (h3:Cv S n z z'):Cv S n (.t [x,y,z]) (.t [x',y',z']) :=
  .t _ _ rfl fun k u u2 hk hk2=>by
    match k with
    | 0=>cases hk; cases hk2; exact h1
    | 1=>cases hk; cases hk2; exact h2
    | 2=>cases hk; cases hk2; exact h3
    | k + 3=>simp at hk
theorem cv_t2 {S:Store} {n:Nat} {x y x' y':AV} (h1:Cv S n x x') (h2:Cv S n y y'):Cv S n (.t [x,y]) (.t [x',y']) :=
  .t _ _ rfl fun k u u2 hk hk2=>by
    match k with
    | 0=>cases hk; cases hk2; exact h1
    | 1=>cases hk; cases hk2; exact h2
    | k + 2=>simp at hk
theorem cv_a2 {S:Store} {n:Nat} {x y x' y':AV} (h1:Cv S n x x') (h2:Cv S n y y'):Cv S n (.a [x,y]) (.a [x',y']) :=
  .a _ _ rfl fun k u u2 hk hk2=>by
    match k with
    | 0=>cases hk; cases hk2; exact h1
    | 1=>cases hk; cases hk2; exact h2
    | k + 2=>simp at hk
theorem gd_two {b c:Bool} {R T:Prop} (h1:b = true → c = true → R) (h2:¬ (b = true ∧ c = true) → T):gd b (gd c R T) T:=by
  cases b <;> cases c <;> simp_all [gd]
def andT (g:Gr) (x y:Int):Gr × Int × Int :=
  if y = 0 then (g,0,0)
  else if x.tdiv 2 = y.tdiv 2 ∧ x ≠ y then (g,0,0)
  else if y = 1 then (g,x,0)
  else if x = y then (g,x,0)
  else match g.ands.findIdx? (fun p=>decide (p = (x,y))) with
    | some i=>(g,2 * (g.inputs + 1 + i),0)
    | none=>if 2000 ≤ g.vars then (⟨0,[]⟩,0,2) else (⟨g.inputs,g.ands ++ [(x,y)]⟩,2 * (g.vars + 1) - 2,0)
def Gr.and (g:Gr) (a b:Int):Gr × Int × Int :=
  if (g.right && (g.lit a && g.lit b)) = false then (⟨0,[]⟩,0,1) else andT g (if b > a then b else a) (if b < a then b else a)
def andAV (r:Gr × Int × Int):AV:=.t [r.1.av,aI r.2.1,aI r.2.2]
theorem vars40 {i:Int} {x:AV} {n:Nat} (hx:∀ (S:Store) (K:AV → Store → Prop),lenS x S K = K (aI n) S) (h0:0 ≤ i) (h1:i ≤ 1000000) (hn:n ≤ 2000000):Ans Tryz.prog 40 [.a [aI i,x]] (aI (i + 1 + n)):=by
  intro S
  refine ACalls.ans_v (calls40 ?_)
  unfold m40
  refine boxA_of rfl fun S1 k1 n1 o1=>?_
  rw [shift_p,ld1_p o1 rfl rfl,bin_add (by omega) (by omega),shift_p,ld1_p o1 rfl rfl,hx,bin_add (by omega) (by omega)]
  exact ⟨rfl,k1⟩
theorem ans120 {g:Gr} {a b:Int} (hg:g.ok) (ha:i64R a) (hb:i64R b):Ans Tryz.prog 120 [g.av,aI a,aI b] (andAV (g.and a b)):=by
  intro S
  refine ACalls.tree (calls120 ?_)
  have hlen:=hg.len
  unfold m120
  have bd:∀ {a b:Int} {S:Store} {K:AV → Store → Prop},bld [(0,1),(1,1)] [(.v (.int .i64 0)),(.v (.int .i64 0))] [(0,aI a),(1,aI b)] S K = K (.a [aI a,aI b]) S:=bld_of rfl
  have bz:∀ {S:Store} {K:AV → Store → Prop},bld [(0,1),(1,1)] [(.v (.int .i64 0)),.nl] [] S K = K (.a [aI 0,.nl]) S:=bld_of rfl
  refine boxA_of rfl fun S1 k1 n1 o1=>?_
  refine boxA_of rfl fun S2 k2 n2 o2=>?_
  have k2:=k1.trans k2
  have p1:S2.obj S.n = _:=(‹Keep S1 S2›.2 S.n (by omega)).trans o1
  have fin:∀ {S':Store} {v:AV} (r:Gr × Int × Int),Keep S S' → Cv (S'.frz (newer S.n)) S.n v r.1.av → g.and a b = r → ∃ q,AEnd.ret (.t [v,aI r.2.1,aI r.2.2]) = .ret q ∧ Keep S S' ∧ Cv (S'.frz (newer S.n)) S.n q (andAV (g.and a b)) :=
    fun r hk hc e=>⟨_,rfl,hk,by rw [e]; exact cv_t3 hc (.v _) (.v _)⟩
  have err:∀ S',Cv (Store.frz S' (newer S.n)) S.n (.a [aI 0,.nl]) (Gr.av ⟨0,[]⟩):=fun _=>cv_a2 (.v _) .nl
  have bad:∀ {e:Int},(g.right && (g.lit a && g.lit b)) = false → g.and a b = (⟨0,[]⟩,0,1):=fun h=>by simp only [Gr.and]; rw [if_pos h]
  rw [ldN_p (n:=2) p1 rfl]
  refine callF_ans (ans111 hg) ?_
  rw [un_not,onB_v]
  refine gd_of (fun h1=>?_) (fun h1=>?_)
  · rw [bz]
    refine stA_of o2 rfl rfl fun S3 n3 o3 f3=>?_
    rw [ldN_p (n:=2) o3 rfl]
    exact fin (⟨0,[]⟩,0,1) (k2.st (by omega) n3 f3) (err _) (bad (e:=0) (by rw [Bool.not_eq_true'] at h1; rw [h1]; rfl))
  have h1:g.right = true:=by simpa using h1
  rw [ldN_p (n:=2) p1 rfl]
  refine callF_ans (ans112 hg ha) ?_
  rw [un_not,onB_v]
  refine gd_of (fun h2=>?_) (fun h2=>?_)
  · rw [bz]
    refine stA_of o2 rfl rfl fun S3 n3 o3 f3=>?_
    rw [ldN_p (n:=2) o3 rfl]
    exact fin (⟨0,[]⟩,0,1) (k2.st (by omega) n3 f3) (err _) (bad (e:=0) (by rw [Bool.not_eq_true'] at h2; rw [h1,h2]; rfl))
  have h2:g.lit a = true:=by simpa using h2
  rw [ldN_p (n:=2) p1 rfl]
  refine callF_ans (ans112 hg hb) ?_
  rw [un_not,onB_v]
  refine gd_of (fun h3=>?_) (fun h3=>?_)
  · rw [bz]
    refine stA_of o2 rfl rfl fun S3 n3 o3 f3=>?_
    rw [ldN_p (n:=2) o3 rfl]
    exact fin (⟨0,[]⟩,0,1) (k2.st (by omega) n3 f3) (err _) (bad (e:=0) (by rw [Bool.not_eq_true'] at h3; rw [h1,h2,h3]; rfl))
  have h3:g.lit b = true:=by simpa using h3
  obtain ⟨r1,r2,r3,r4,r5,r6⟩:=right_iff.1 h1
  rw [mx_true,mx_false]
  have hx:i64R (if b > a then b else a):=by split <;> assumption
  have hy:i64R (if b < a then b else a):=by split <;> assumption
  have hand:g.and a b = andT g (if b > a then b else a) (if b < a then b else a):=by
    simp only [Gr.and]
    rw [if_neg (by rw [h1,h2,h3]; decide)]
  generalize hex:(if b > a then b else a) = x at *
  generalize hey:(if b < a then b else a) = y at *
  have ok:∀ {S':Store},Cv (S'.frz (newer S.n)) S.n (.a g.cells) g.av:=fun {S'}=>g.tree _ _
  rw [bin_eql,onB_v]
  refine gd_of (fun h4=>?_) (fun h4=>?_)
  · rw [ldN_p (n:=2) p1 rfl]
    refine stA_of o2 rfl rfl fun S3 n3 o3 f3=>?_
    rw [ldN_p (n:=2) o3 rfl]
    exact fin (g,0,0) (k2.st (by omega) n3 f3) ok (hand.trans (by rw [andT,if_pos (of_decide_eq_true h4)]))
  have h4:=of_decide_eq_false h4
  rw [bin_half hx,bin_half hy,bin_eql,onB_v]
  rw [bin_neq,onB_v]
  refine gd_two (fun h5 h6=>?_) (fun h7=>?_)
  · rw [ldN_p (n:=2) p1 rfl]
    refine stA_of o2 rfl rfl fun S3 n3 o3 f3=>?_
    rw [ldN_p (n:=2) o3 rfl]
    exact fin (g,0,0) (k2.st (by omega) n3 f3) ok (hand.trans (by rw [andT,if_neg h4,if_pos ⟨of_decide_eq_true h5,by simpa using h6⟩]))
  · have h7:¬ (x.tdiv 2 = y.tdiv 2 ∧ x ≠ y):=fun h=>h7 ⟨by simpa using h.1,by simpa using h.2⟩
    have hand:g.and a b = (if y = 1 then (g,x,(0:Int))
      else if x = y then (g,x,0)
      else match g.ands.findIdx? (fun p=>decide (p = (x,y))) with
        | some i=>(g,2 * (g.inputs + 1 + i),0)
        | none=>if 2000 ≤ g.vars then (⟨0,[]⟩,0,2) else (⟨g.inputs,g.ands ++ [(x,y)]⟩,2 * (g.vars + 1) - 2,0):Gr × Int × Int):=hand.trans (by rw [andT,if_neg h4,if_neg h7])
    rw [bin_eql,onB_v]
    refine gd_of (fun h8=>?_) (fun h8=>?_)
    · rw [ldN_p (n:=2) p1 rfl]
      refine stA_of o2 rfl rfl fun S3 n3 o3 f3=>?_
      rw [ldN_p (n:=2) o3 rfl]
      exact fin (g,x,0) (k2.st (by omega) n3 f3) ok (hand.trans (by rw [if_pos (of_decide_eq_true h8)]))
    have h8:=of_decide_eq_false h8
    rw [bin_eql,onB_v]
    refine gd_of (fun h9=>?_) (fun h9=>?_)
    · rw [ldN_p (n:=2) p1 rfl]
      refine stA_of o2 rfl rfl fun S3 n3 o3 f3=>?_
      rw [ldN_p (n:=2) o3 rfl]
      exact fin (g,x,0) (k2.st (by omega) n3 f3) ok (hand.trans (by rw [if_neg h8,if_pos (of_decide_eq_true h9)]))
    have h9:=of_decide_eq_false h9
    have hand:=hand.trans (by rw [if_neg h8,if_neg h9])
    refine loop120_0 (fun z S'=>S' = S2 ∧ ∃ i:Nat,z = aI i ∧ i ≤ g.ands.length ∧ ∀ j (hj:j < g.ands.length),j < i → g.ands[j] ≠ (x,y))
      (fun z _=>g.ands.length - ((intA z).getD 0).toNat) ⟨rfl,0,rfl,Nat.zero_le _,fun j _ hj=>(Nat.not_lt_zero _ hj).elim⟩ ?_
    rintro _ S2 ⟨rfl,i,rfl,hi,hno⟩ KE hKE
    unfold b120_0
    have hl3:=r3
    have hv:=r4
    unfold Gr.vars at hv
    rw [shift_p,ld1_p p1 rfl rfl,lenS_pL,bin_lss,onB_v]
    refine gd_of (fun hlt=>?_) (fun hge=>?_)
    · have hlt:i < g.ands.length:=by simpa using hlt
      rw [shift_p,ld1_p p1 rfl rfl,ixS_pL hlt,ldN_q2,bd,binP_eq,onB_v]
      refine gd_of (fun h10=>?_) (fun h10=>?_)
      · have h10:g.ands[i] = (x,y):=of_decide_eq_true h10
        have hf:g.ands.findIdx? (fun p=>decide (p = (x,y))) = some i:=by
          rw [List.findIdx?_eq_some_iff_getElem]
          exact ⟨hlt,by simpa using h10,fun j hj=>by simpa using hno j (by omega) hj⟩
        have q:∀ T:Store,Keep S2 T → T.obj S.n = some (.cells 82 [g.cells] true):=fun T hT=>(hT.2 _ (by omega)).trans p1
        have e1:∀ {S:Store} {K:AV → Store → Prop},bin .add 0 (aI g.inputs) (aI 1) S K = K (aI (g.inputs + 1)) S:=bin_add (by omega) (by omega) 0
        have e2:∀ {S:Store} {K:AV → Store → Prop},bin .add 0 (aI (g.inputs + 1)) (aI i) S K = K (aI (g.inputs + 1 + i)) S:=bin_add (by omega) (by omega) 0
        have e3:∀ {S:Store} {K:AV → Store → Prop},bin .mul 0 (aI 2) (aI (g.inputs + 1 + i)) S K = K (aI (2 * (g.inputs + 1 + i))) S:=bin_mul (by omega) (by omega) 0
        refine ⟨_,fun T hT=>by rw [ldN_p (n:=2) (q T hT) rfl]; exact ⟨rfl,rfl⟩,_,fun T hT=>by rw [shift_p]; exact ⟨rfl,rfl⟩,_,fun T hT=>by rw [ld1_p (q T hT) rfl rfl]; exact ⟨rfl,rfl⟩,_,fun T hT=>by rw [e1]; exact ⟨rfl,rfl⟩,_,fun T hT=>by rw [e2]; exact ⟨rfl,rfl⟩,_,fun T hT=>by rw [e3]; exact ⟨rfl,rfl⟩,?_⟩
        refine stA_of o2 rfl rfl fun S3 n3 o3 f3=>?_
        have q3:∀ T:Store,Keep S3 T → T.obj S.n = some (.cells 82 [g.cells] true):=fun T hT=>(hT.2 _ (by omega)).trans ((f3 _ (by omega)).trans p1)
        refine ⟨fun T hT=>by rw [e3]; exact ⟨rfl,rfl⟩,fun T hT=>by rw [e2]; exact ⟨rfl,rfl⟩,fun T hT=>by rw [e1]; exact ⟨rfl,rfl⟩,fun T hT=>by rw [ld1_p (q3 T hT) rfl rfl]; exact ⟨rfl,rfl⟩,fun T hT=>by rw [shift_p]; exact ⟨rfl,rfl⟩,?_⟩
        rw [ldN_p (n:=2) o3 rfl]
        exact fin (g,2 * (g.inputs + 1 + i),0) (k2.st (by omega) n3 f3) ok (hand.trans (by rw [hf]))
      · have h10:¬ g.ands[i] = (x,y):=of_decide_eq_false h10
        have hadd:∀ K:AV → Store → Prop,∀ S,bin .add 0 (.v (.int .i64 (i:Int))) (.v (.int .i64 1)) S K = K (aI (i + 1:Nat)) S:=fun K S=>bin_add (by omega) (by omega) 0
        rw [hadd]
        refine hKE _ _ ⟨rfl,i + 1,rfl,hlt,fun j hj hj'=>?_⟩ (by simp [intA]; omega)
        rcases Nat.lt_or_ge j i with h | h
        · exact hno j hj h
        · have:j = i:=by omega
          subst this
          exact h10
    · have hge:i = g.ands.length:=by simp at hge; omega
      subst hge
      have hf:g.ands.findIdx? (fun p=>decide (p = (x,y))) = none:=by
        rw [List.findIdx?_eq_none_iff]
        intro q hq
        obtain ⟨j,hj,rfl⟩:=List.getElem_of_mem hq
        simpa using hno j hj hj
      rw [hf] at hand
      rw [ldN_p (n:=2) p1 rfl]
      refine callF_ans (ans40 hg (by omega) r1) ?_
      rw [bin_geq,onB_v]
      refine gd_of (fun h11=>?_) (fun h11=>?_)
      · rw [bz]
        refine stA_of o2 rfl rfl fun S3 n3 o3 f3=>?_
        rw [ldN_p (n:=2) o3 rfl]
        exact fin (⟨0,[]⟩,0,2) (k2.st (by omega) n3 f3) (err _) (hand.trans (by simp only [if_pos (of_decide_eq_true h11)]))
      have h11:=of_decide_eq_false h11
      have hand:g.and a b = (⟨g.inputs,g.ands ++ [(x,y)]⟩,2 * (g.vars + 1) - 2,0):=hand.trans (by simp only [if_neg h11])
      refine boxA_of rfl fun S3 k3 n3 o3=>?_
      have p3:=(k3.2 S.n (by omega)).trans p1
      rw [shift_p,ld1_p p3 rfl rfl,shift_p]
      refine stF_of o3 (by simp) rfl fun S4 n4 o4 f4=>?_
      have p4:=(f4 S.n (by omega)).trans p3
      rw [shift_p,ld1_p o4 rfl rfl,shift_p,ld1_p p4 rfl rfl]
      have m2:=k2.1
      have m3:=k3.1
      have k4:Keep S S4:=(k2.trans k3).st (by omega) n4 f4
      have v4:S4.obj S1.n = _:=(f4 S1.n (by omega)).trans ((k3.2 S1.n (by omega)).trans o2)
      refine Own.appL (Own.nl S.n S4 124) (by omega) (ys:=g.ands.map fun p=>[aI p.1,aI p.2]) (fun c hc=>by obtain ⟨p,_,rfl⟩:=List.mem_map.1 hc; rfl) (by simp; omega) (fun z1 S5 w5 b5 hz5=>?_) rfl
      rw [bd]
      refine bslP ?_
      have k5:Keep S S5:=w5.keep (S0:=S) (Nat.le_refl _) ⟨Nat.le_refl _,fun _ _ _=>rfl⟩ ⟨Nat.le_trans k4.1 b5.1,fun i hi=>(b5.2 i (by have:=k4.1; omega) (fun _ _ h=>by cases h)).trans (k4.2 i hi)⟩
      have e5:∀ i,i < S4.n → S5.obj i = S4.obj i:=fun i hi=>b5.2 i hi (fun _ _ h=>by cases h)
      have z5:∀ i b m,z1 = .s i b m → i = S4.n:=fun i b m e=>by
        rcases hz5 with h | ⟨m',h⟩
        · rw [h] at e; cases e
        · rw [h] at e; cases e; rfl
      have n5:=b5.1
      refine w5.app (by have:=k5.1; omega) (c:=[aI x,aI y]) rfl (by simp; omega) (fun z2 S6 w6 b6 hz6=>?_) rfl
      have e6:∀ i,i < S4.n → S6.obj i = S4.obj i:=fun i hi=>(b6.2 i (by omega) (fun b m e=>by have:=z5 i b m e; omega)).trans (e5 i hi)
      have n6:=b6.1
      have k6:Keep S S6:=w5.keep (Nat.le_refl _) b6 k5
      obtain ⟨m6,hz6⟩:=hz6
      rw [shift_p]
      refine stF_of ((e6 S2.n (by omega)).trans o4) (by simp) (by rw [hz6]; rfl) fun S7 n7 o7 f7=>?_
      have p7:S7.obj S.n = _:=(f7 S.n (by omega)).trans ((e6 S.n (by omega)).trans p4)
      have v7:S7.obj S1.n = _:=(f7 S1.n (by omega)).trans ((e6 S1.n (by omega)).trans v4)
      have k7:Keep S S7:=k6.st (by omega) n7 f7
      have w7:Own S.n S7 z2 124 _:=w6.st (id:=S2.n) (fun b m e=>by rw [hz6] at e; injection e; omega) n7 f7
      have hlen2:(((g.ands.map fun p=>[aI p.1,aI p.2]) ++ [[aI x,aI y]]).length:Nat) = g.ands.length + 1:=by simp
      have hz:∀ (S:Store) (K:AV → Store → Prop),lenS z2 S K = K (aI (g.ands.length + 1:Nat)) S:=fun S K=>by
        rcases w7 with ⟨h,h'⟩ | ⟨id,h,_,_,_⟩
        · rw [h] at hz6; cases hz6
        · rw [h,lenS_s,List.nil_append,hlen2]
      have q:∀ T:Store,Keep S7 T → T.obj S2.n = some (.cells 82 [[aI g.inputs,z2]] true):=fun T hT=>(hT.2 _ (by omega)).trans o7
      have e1:∀ {S:Store} {K:AV → Store → Prop},bin .mul 0 (aI 2) (aI (g.inputs + 1 + (g.ands.length + 1:Nat))) S K = K (aI (2 * (g.inputs + 1 + (g.ands.length + 1:Nat)))) S:=bin_mul (by omega) (by omega) 0
      have e2:∀ {S:Store} {K:AV → Store → Prop},bin .sub 0 (aI (2 * (g.inputs + 1 + (g.ands.length + 1:Nat)))) (aI 2) S K = K (aI (2 * (g.inputs + 1 + (g.ands.length + 1:Nat)) - 2)) S:=bin_sub (by omega) (by omega) 0
      refine ⟨_,fun T hT=>by rw [ldN_p (n:=2) (q T hT) rfl]; exact ⟨rfl,rfl⟩,_,fun T hT=>by rw [ldN_p (n:=2) (q T hT) rfl]; exact ⟨rfl,rfl⟩,_,fun T hT=>callF_ans (vars40 hz r1 (by omega) (by omega)) ⟨rfl,rfl⟩,_,fun T hT=>by rw [e1]; exact ⟨rfl,rfl⟩,_,fun T hT=>by rw [e2]; exact ⟨rfl,rfl⟩,?_⟩
      refine stA_of v7 rfl rfl fun S8 n8 o8 f8=>?_
      refine ⟨fun T hT=>by rw [e2]; exact ⟨rfl,rfl⟩,fun T hT=>by rw [e1]; exact ⟨rfl,rfl⟩,?_⟩
      rw [ldN_p (n:=2) o8 rfl]
      have w8:Own S.n S8 z2 124 _:=w7.st (id:=S1.n) (fun b m e=>by rw [hz6] at e; injection e; omega) n8 f8
      have hv2:g.vars = g.inputs + 1 + g.ands.length:=rfl
      have:=fin (S':=S8) (v:=.a [aI g.inputs,z2]) (⟨g.inputs,g.ands ++ [(x,y)]⟩,2 * (g.vars + 1) - 2,0) (k7.st (by omega) n8 f8) (cv_a2 (.v _) (w8.cv rfl (by simp) (fun i c c2 hc hc2=>?_))) hand
      · rw [hv2,show g.inputs + 1 + (g.ands.length:Int) + 1 = g.inputs + 1 + (g.ands.length + 1:Nat) by omega] at this
        exact this
      · have:c = c2:=by
          rw [List.nil_append] at hc
          rw [List.map_append] at hc2
          exact Option.some.inj (hc.symm.trans hc2)
        subst this
        refine ⟨rfl,fun k u u2 hu hu2=>?_⟩
        rw [hu] at hu2; cases hu2
        have hm:=List.mem_of_getElem? hc2
        rw [List.mem_map] at hm
        obtain ⟨p,_,rfl⟩:=hm
        match k with
        | 0=>cases hu; exact .v _
        | 1=>cases hu; exact .v _
        | k + 2=>simp at hu
end Go.Proofs.YtolgpokppnajdaaGreat.G

/- Tree -/
import Derived.Test.YtolgpokppnajdaaGreatProg
import Derived.KernelRfl
import Derived.Test.YtolgpokppnajdaaGreatWbT2
set_option linter.unusedVariables false
set_option linter.unusedSimpArgs false
namespace Go.Proofs.YtolgpokppnajdaaGreat.G
open Go Go.Ab
set_option maxRecDepth 100000
noncomputable def c7:Code:=(Tryz.f7.body).getD .skip
def ms7:List (List Nat):=[[]]
def m7 (x0 x1:AV) (S:Store) (Q:PoT):Prop :=
  callF Tryz.prog 19 [] S Q fun v1 S=>un .not v1 S fun v2 S=>onB v2 fun b3=>gd b3 (Q (.ret (.v (.bool false))) S) (callF Tryz.prog 23 [x0,x1] S Q fun v4 S=>extr v4 0 S fun v5 S=>extr v4 1 S fun v6 S=>boxN 42 8 (.a [(.v (.int .i64 0)),.nl,.nl,.nl,.nl,.nl,.nl,.nl]) S fun v7 S=>boxN 24 4 (.a [(.v (.int .i64 0)),(.v (.string ByteArray.empty)),(.v (.int .i64 0)),.nl]) S fun v8 S=>stN 8 v7 v5 S fun v9 S=>stN 4 v8 v6 S fun v10 S=>ldN 8 v7 S fun v11 S=>ldN 4 v8 S fun v12 S=>callF Tryz.prog 28 [v11,v12] S Q fun v13 S=>extr v13 0 S fun v14 S=>extr v13 1 S fun v15 S=>(fun S0:Store=>∃ q16:AV,(ldN 8 v7 S fun v17 S=>v17 = q16 ∧ S = S0) ∧ ∃ q18:AV,(ldN 4 v8 S fun v19 S=>v19 = q18 ∧ S = S0) ∧ ∃ q20:AV,(callF Tryz.prog 21 [q18] S (fun _ _=>False) fun v21 S=>v21 = q20 ∧ S = S0) ∧ ∃ q22:AV,(callF Tryz.prog 28 [q16,q20] S (fun _ _=>False) fun v23 S=>v23 = q22 ∧ S = S0) ∧ ∃ q24:AV,(extr q22 0 S fun v25 S=>v25 = q24 ∧ S = S0) ∧ ∃ q26:AV,(extr q22 1 S fun v27 S=>v27 = q26 ∧ S = S0) ∧ onB v1 fun b28=>gd b28 (bin .eql 0 v15 (.v (.int .i64 0)) S fun v29 S=>onB v29 fun b30=>gd b30 (bin .eql 0 q26 (.v (.int .i64 0)) S fun v31 S=>onB v31 fun b32=>gd b32 (callF Tryz.prog 29 [v14,q24] S Q fun v33 S=>Q (.ret v33) S) (Q (.ret (.v (.bool false))) S)) (Q (.ret (.v (.bool false))) S)) (Q (.ret (.v (.bool false))) S)) S)
theorem calls7 {x0 x1:AV} {S:Store} {Q:PoT} (h:m7 x0 x1 S Q):ACalls Tryz.prog 7 [x0,x1] S Q :=
  calls_of_vc (fn:=Tryz.f7) (c:=c7) (n:=48) Tryz.func7 (by kernel_rfl) (by kernel_rfl) (by kernel_rfl) ms7 (Eq.mpr (by kernel_rfl) h)
noncomputable def c3:Code:=(Tryz.f3.body).getD .skip
noncomputable def r3:List ResultVar:=Tryz.f3.results.toList
def m3 (x0 x1 x2:AV) (S:Store) (Q:PoT):Prop :=
  boxN 24 4 x0 S fun v1 S=>convI .i64 x2 S fun v2 S=>callF Tryz.prog 16 [x1,v2] S Q fun v3 S=>boxN 24 4 (.a [(.v (.int .i64 0)),(.v (.string ByteArray.empty)),(.v (.int .i64 0)),.nl]) S fun v4 S=>stN 4 v4 v3 S fun v5 S=>ldN 4 v1 S fun v6 S=>callF Tryz.prog 17 [v6,(.v (.int .i64 200))] S Q fun v7 S=>bin .lss 0 v7 (.v (.int .i64 0)) S fun v8 S=>onB v8 fun b9=>gd b9 (ldN 4 v4 S fun v10 S=>stN 4 v1 v10 S fun v11 S=>(fun S0:Store=>∃ q12:AV,(callF Tryz.prog 19 [] S (fun _ _=>False) fun v13 S=>v13 = q12 ∧ S = S0) ∧ onB q12 fun b14=>gd b14 (∃ q15:AV,(ldN 4 v1 S fun v16 S=>v16 = q15 ∧ S = S0) ∧ ∃ q17:AV,(callF Tryz.prog 21 [q15] S (fun _ _=>False) fun v18 S=>v18 = q17 ∧ S = S0) ∧ ∃ q19:AV,(ldN 4 v1 S fun v20 S=>v20 = q19 ∧ S = S0) ∧ ∃ q21:AV,(callF Tryz.prog 22 [q19] S (fun _ _=>False) fun v22 S=>v22 = q21 ∧ S = S0) ∧ ∃ q23:AV,(callF Tryz.prog 20 [q17,q21] S (fun _ _=>False) fun v24 S=>v24 = q23 ∧ S = S0) ∧ ∃ q25:AV,(q23 = q25 ∧ S = S0) ∧ onB q25 fun b26=>gd b26 (∃ q27:AV,(ldN 4 v4 S fun v28 S=>v28 = q27 ∧ S = S0) ∧ ∃ q29:AV,(callF Tryz.prog 21 [q27] S (fun _ _=>False) fun v30 S=>v30 = q29 ∧ S = S0) ∧ ∃ q31:AV,(ldN 4 v4 S fun v32 S=>v32 = q31 ∧ S = S0) ∧ ∃ q33:AV,(callF Tryz.prog 22 [q31] S (fun _ _=>False) fun v34 S=>v34 = q33 ∧ S = S0) ∧ ∃ q35:AV,(callF Tryz.prog 20 [q29,q33] S (fun _ _=>False) fun v36 S=>v36 = q35 ∧ S = S0) ∧ ∃ q37:AV,(q35 = q37 ∧ S = S0) ∧ Q (.ret q37) S) (∃ q38:AV,((.v (.bool false)) = q38 ∧ S = S0) ∧ Q (.ret q38) S)) (∃ q39:AV,((.v (.bool false)) = q39 ∧ S = S0) ∧ onB q39 fun b40=>gd b40 (∃ q41:AV,(ldN 4 v4 S fun v42 S=>v42 = q41 ∧ S = S0) ∧ ∃ q43:AV,(callF Tryz.prog 21 [q41] S (fun _ _=>False) fun v44 S=>v44 = q43 ∧ S = S0) ∧ ∃ q45:AV,(ldN 4 v4 S fun v46 S=>v46 = q45 ∧ S = S0) ∧ ∃ q47:AV,(callF Tryz.prog 22 [q45] S (fun _ _=>False) fun v48 S=>v48 = q47 ∧ S = S0) ∧ ∃ q49:AV,(callF Tryz.prog 20 [q43,q47] S (fun _ _=>False) fun v50 S=>v50 = q49 ∧ S = S0) ∧ ∃ q51:AV,(q49 = q51 ∧ S = S0) ∧ Q (.ret q51) S) (∃ q52:AV,((.v (.bool false)) = q52 ∧ S = S0) ∧ Q (.ret q52) S))) S) (ldN 4 v1 S fun v53 S=>callF Tryz.prog 18 [v53,(.v (.int .i64 8))] S Q fun v54 S=>un .not v54 S fun v55 S=>onB v55 fun b56=>gd b56 (ldN 4 v4 S fun v57 S=>stN 4 v1 v57 S fun v58 S=>(fun S0:Store=>∃ q59:AV,(callF Tryz.prog 19 [] S (fun _ _=>False) fun v60 S=>v60 = q59 ∧ S = S0) ∧ onB q59 fun b61=>gd b61 (∃ q62:AV,(ldN 4 v1 S fun v63 S=>v63 = q62 ∧ S = S0) ∧ ∃ q64:AV,(callF Tryz.prog 21 [q62] S (fun _ _=>False) fun v65 S=>v65 = q64 ∧ S = S0) ∧ ∃ q66:AV,(ldN 4 v1 S fun v67 S=>v67 = q66 ∧ S = S0) ∧ ∃ q68:AV,(callF Tryz.prog 22 [q66] S (fun _ _=>False) fun v69 S=>v69 = q68 ∧ S = S0) ∧ ∃ q70:AV,(callF Tryz.prog 20 [q64,q68] S (fun _ _=>False) fun v71 S=>v71 = q70 ∧ S = S0) ∧ ∃ q72:AV,(q70 = q72 ∧ S = S0) ∧ onB q72 fun b73=>gd b73 (∃ q74:AV,(ldN 4 v4 S fun v75 S=>v75 = q74 ∧ S = S0) ∧ ∃ q76:AV,(callF Tryz.prog 21 [q74] S (fun _ _=>False) fun v77 S=>v77 = q76 ∧ S = S0) ∧ ∃ q78:AV,(ldN 4 v4 S fun v79 S=>v79 = q78 ∧ S = S0) ∧ ∃ q80:AV,(callF Tryz.prog 22 [q78] S (fun _ _=>False) fun v81 S=>v81 = q80 ∧ S = S0) ∧ ∃ q82:AV,(callF Tryz.prog 20 [q76,q80] S (fun _ _=>False) fun v83 S=>v83 = q82 ∧ S = S0) ∧ ∃ q84:AV,(q82 = q84 ∧ S = S0) ∧ Q (.ret q84) S) (∃ q85:AV,((.v (.bool false)) = q85 ∧ S = S0) ∧ Q (.ret q85) S)) (∃ q86:AV,((.v (.bool false)) = q86 ∧ S = S0) ∧ onB q86 fun b87=>gd b87 (∃ q88:AV,(ldN 4 v4 S fun v89 S=>v89 = q88 ∧ S = S0) ∧ ∃ q90:AV,(callF Tryz.prog 21 [q88] S (fun _ _=>False) fun v91 S=>v91 = q90 ∧ S = S0) ∧ ∃ q92:AV,(ldN 4 v4 S fun v93 S=>v93 = q92 ∧ S = S0) ∧ ∃ q94:AV,(callF Tryz.prog 22 [q92] S (fun _ _=>False) fun v95 S=>v95 = q94 ∧ S = S0) ∧ ∃ q96:AV,(callF Tryz.prog 20 [q90,q94] S (fun _ _=>False) fun v97 S=>v97 = q96 ∧ S = S0) ∧ ∃ q98:AV,(q96 = q98 ∧ S = S0) ∧ Q (.ret q98) S) (∃ q99:AV,((.v (.bool false)) = q99 ∧ S = S0) ∧ Q (.ret q99) S))) S) ((fun S0:Store=>∃ q100:AV,(callF Tryz.prog 19 [] S (fun _ _=>False) fun v101 S=>v101 = q100 ∧ S = S0) ∧ onB q100 fun b102=>gd b102 (∃ q103:AV,(ldN 4 v1 S fun v104 S=>v104 = q103 ∧ S = S0) ∧ ∃ q105:AV,(callF Tryz.prog 21 [q103] S (fun _ _=>False) fun v106 S=>v106 = q105 ∧ S = S0) ∧ ∃ q107:AV,(ldN 4 v1 S fun v108 S=>v108 = q107 ∧ S = S0) ∧ ∃ q109:AV,(callF Tryz.prog 22 [q107] S (fun _ _=>False) fun v110 S=>v110 = q109 ∧ S = S0) ∧ ∃ q111:AV,(callF Tryz.prog 20 [q105,q109] S (fun _ _=>False) fun v112 S=>v112 = q111 ∧ S = S0) ∧ ∃ q113:AV,(q111 = q113 ∧ S = S0) ∧ onB q113 fun b114=>gd b114 (∃ q115:AV,(ldN 4 v4 S fun v116 S=>v116 = q115 ∧ S = S0) ∧ ∃ q117:AV,(callF Tryz.prog 21 [q115] S (fun _ _=>False) fun v118 S=>v118 = q117 ∧ S = S0) ∧ ∃ q119:AV,(ldN 4 v4 S fun v120 S=>v120 = q119 ∧ S = S0) ∧ ∃ q121:AV,(callF Tryz.prog 22 [q119] S (fun _ _=>False) fun v122 S=>v122 = q121 ∧ S = S0) ∧ ∃ q123:AV,(callF Tryz.prog 20 [q117,q121] S (fun _ _=>False) fun v124 S=>v124 = q123 ∧ S = S0) ∧ ∃ q125:AV,(q123 = q125 ∧ S = S0) ∧ Q (.ret q125) S) (∃ q126:AV,((.v (.bool false)) = q126 ∧ S = S0) ∧ Q (.ret q126) S)) (∃ q127:AV,((.v (.bool false)) = q127 ∧ S = S0) ∧ onB q127 fun b128=>gd b128 (∃ q129:AV,(ldN 4 v4 S fun v130 S=>v130 = q129 ∧ S = S0) ∧ ∃ q131:AV,(callF Tryz.prog 21 [q129] S (fun _ _=>False) fun v132 S=>v132 = q131 ∧ S = S0) ∧ ∃ q133:AV,(ldN 4 v4 S fun v134 S=>v134 = q133 ∧ S = S0) ∧ ∃ q135:AV,(callF Tryz.prog 22 [q133] S (fun _ _=>False) fun v136 S=>v136 = q135 ∧ S = S0) ∧ ∃ q137:AV,(callF Tryz.prog 20 [q131,q135] S (fun _ _=>False) fun v138 S=>v138 = q137 ∧ S = S0) ∧ ∃ q139:AV,(q137 = q139 ∧ S = S0) ∧ Q (.ret q139) S) (∃ q140:AV,((.v (.bool false)) = q140 ∧ S = S0) ∧ Q (.ret q140) S))) S))
noncomputable def c4:Code:=(Tryz.f4.body).getD .skip
noncomputable def r4:List ResultVar:=Tryz.f4.results.toList
def m4 (x0 x1 x2:AV) (S:Store) (Q:PoT):Prop :=
  boxN 37 5 x2 S fun v1 S=>callF Tryz.prog 23 [x0,x1] S Q fun v2 S=>extr v2 0 S fun v3 S=>extr v2 1 S fun v4 S=>boxN 42 8 (.a [(.v (.int .i64 0)),.nl,.nl,.nl,.nl,.nl,.nl,.nl]) S fun v5 S=>boxN 24 4 (.a [(.v (.int .i64 0)),(.v (.string ByteArray.empty)),(.v (.int .i64 0)),.nl]) S fun v6 S=>stN 8 v5 v3 S fun v7 S=>stN 4 v6 v4 S fun v8 S=>callF Tryz.prog 19 [] S Q fun v9 S=>onB v9 fun b10=>gd b10 (ldN 5 v1 S fun v11 S=>callF Tryz.prog 24 [v11,(.v (.int .i64 300))] S Q fun v12 S=>bin .lss 0 v12 (.v (.int .i64 0)) S fun v13 S=>onB v13 fun b14=>gd b14 (Q (.ret (.v (.bool true))) S) (ldN 8 v5 S fun v15 S=>ldN 4 v6 S fun v16 S=>ldN 5 v1 S fun v17 S=>callF Tryz.prog 25 [v15,v16,v17] S Q fun v18 S=>Q (.ret v18) S)) (Q (.ret (.v (.bool false))) S)
noncomputable def c19:Code:=(Tryz.f19.body).getD .skip
def ms19:List (List Nat):=[[]]
def m19 (S:Store) (Q:PoT):Prop :=
  bld [(0,1),(1,1)] [(.v (.int .i64 0)),(.v (.int .i64 0))] [(0,(.v (.int .i64 3)))] S fun v1 S=>bslN 66 2 1 [(.v (.int .i64 0)),(.v (.int .i64 0))] [(0,v1)] S fun v2 S=>bld [(0,1),(1,1),(2,1),(3,1),(4,1),(5,1),(6,1),(7,1)] [(.v (.int .i64 0)),.nl,.nl,.nl,.nl,.nl,.nl,.nl] [(1,v2)] S fun v3 S=>boxN 42 8 (.a [(.v (.int .i64 0)),.nl,.nl,.nl,.nl,.nl,.nl,.nl]) S fun v4 S=>stN 8 v4 v3 S fun v5 S=>bld [(0,1),(1,1),(2,1),(3,1)] [(.v (.int .i64 0)),(.v (.string ByteArray.empty)),(.v (.int .i64 0)),.nl] [(0,(.v (.int .i64 2)))] S fun v6 S=>bslN 24 4 1 [(.v (.int .i64 0)),(.v (.string ByteArray.empty)),(.v (.int .i64 0)),.nl] [(0,v6)] S fun v7 S=>bld [(0,1),(1,1),(2,1),(3,1)] [(.v (.int .i64 0)),(.v (.string ByteArray.empty)),(.v (.int .i64 0)),.nl] [(0,(.v (.int .i64 13))),(3,v7)] S fun v8 S=>boxN 24 4 (.a [(.v (.int .i64 0)),(.v (.string ByteArray.empty)),(.v (.int .i64 0)),.nl]) S fun v9 S=>stN 4 v9 v8 S fun v10 S=>bslN 3 1 2 [(.v (.int .i64 0))] [(0,(.v (.int .i64 0))),(1,(.v (.int .i64 1)))] S fun v11 S=>bld [(0,1),(1,1),(2,1),(3,1),(4,1)] [(.v (.int .i64 0)),(.v (.int .i64 0)),(.v (.int .i64 0)),.nl,.nl] [(0,(.v (.int .i64 1)))] S fun v12 S=>bld [(0,1),(1,1),(2,1),(3,1),(4,1)] [(.v (.int .i64 0)),(.v (.int .i64 0)),(.v (.int .i64 0)),.nl,.nl] [(0,(.v (.int .i64 1))),(1,(.v (.int .i64 1)))] S fun v13 S=>bslN 37 5 2 [(.v (.int .i64 0)),(.v (.int .i64 0)),(.v (.int .i64 0)),.nl,.nl] [(0,v12),(1,v13)] S fun v14 S=>bld [(0,1),(1,1),(2,1),(3,1),(4,1)] [(.v (.int .i64 0)),(.v (.int .i64 0)),(.v (.int .i64 0)),.nl,.nl] [(0,(.v (.int .i64 6))),(3,v11),(4,v14)] S fun v15 S=>boxN 37 5 (.a [(.v (.int .i64 0)),(.v (.int .i64 0)),(.v (.int .i64 0)),.nl,.nl]) S fun v16 S=>stN 5 v16 v15 S fun v17 S=>ldN 8 v4 S fun v18 S=>ldN 4 v9 S fun v19 S=>ldN 5 v16 S fun v20 S=>callF Tryz.prog 27 [v18,v19,v20] S Q fun v21 S=>extr v21 0 S fun v22 S=>extr v21 1 S fun v23 S=>shift v16 2 S fun v24 S=>stN 1 v24 (.v (.int .i64 1)) S fun v25 S=>ldN 8 v4 S fun v26 S=>ldN 4 v9 S fun v27 S=>ldN 5 v16 S fun v28 S=>callF Tryz.prog 27 [v26,v27,v28] S Q fun v29 S=>extr v29 0 S fun v30 S=>extr v29 1 S fun v31 S=>ldN 8 v4 S fun v32 S=>bld [(0,1),(1,1),(2,1),(3,1)] [(.v (.int .i64 0)),(.v (.string ByteArray.empty)),(.v (.int .i64 0)),.nl] [(0,(.v (.int .i64 1)))] S fun v33 S=>bslN 24 4 1 [(.v (.int .i64 0)),(.v (.string ByteArray.empty)),(.v (.int .i64 0)),.nl] [(0,v33)] S fun v34 S=>bld [(0,1),(1,1),(2,1),(3,1)] [(.v (.int .i64 0)),(.v (.string ByteArray.empty)),(.v (.int .i64 0)),.nl] [(0,(.v (.int .i64 14))),(3,v34)] S fun v35 S=>bld [(0,1),(1,1),(2,1),(3,1),(4,1)] [(.v (.int .i64 0)),(.v (.int .i64 0)),(.v (.int .i64 0)),.nl,.nl] [(0,(.v (.int .i64 7)))] S fun v36 S=>callF Tryz.prog 27 [v32,v35,v36] S Q fun v37 S=>extr v37 0 S fun v38 S=>extr v37 1 S fun v39 S=>ldN 4 v9 S fun v40 S=>bslN 24 4 1 [(.v (.int .i64 0)),(.v (.string ByteArray.empty)),(.v (.int .i64 0)),.nl] [(0,v40)] S fun v41 S=>bld [(0,1),(1,1),(2,1),(3,1)] [(.v (.int .i64 0)),(.v (.string ByteArray.empty)),(.v (.int .i64 0)),.nl] [(0,(.v (.int .i64 4))),(3,v41)] S fun v42 S=>callF Tryz.prog 21 [v42] S Q fun v43 S=>boxN 24 4 (.a [(.v (.int .i64 0)),(.v (.string ByteArray.empty)),(.v (.int .i64 0)),.nl]) S fun v44 S=>stN 4 v44 v43 S fun v45 S=>onB v23 fun b46=>gd b46 (bin .eql 0 v22 (.v (.int .i64 0)) S fun v47 S=>onB v47 fun b48=>gd b48 (un .not v31 S fun v49 S=>onB v49 fun b50=>gd b50 (onB v39 fun b51=>gd b51 (bin .eql 0 v38 (.v (.int .i64 1)) S fun v52 S=>onB v52 fun b53=>gd b53 (shift v44 0 S fun v54 S=>ld1 v54 S fun v55 S=>bin .eql 0 v55 (.v (.int .i64 12)) S fun v56 S=>onB v56 fun b57=>gd b57 (shift v44 3 S fun v58 S=>ld1 v58 S fun v59 S=>lenS v59 S fun v60 S=>bin .eql 0 v60 (.v (.int .i64 1)) S fun v61 S=>onB v61 fun b62=>gd b62 (shift v44 3 S fun v63 S=>ld1 v63 S fun v64 S=>ixS 24 4 v64 (.v (.int .i64 0)) S fun v65 S=>shift v65 0 S fun v66 S=>ld1 v66 S fun v67 S=>bin .eql 0 v67 (.v (.int .i64 1)) S fun v68 S=>Q (.ret v68) S) (Q (.ret (.v (.bool false))) S)) (Q (.ret (.v (.bool false))) S)) (Q (.ret (.v (.bool false))) S)) (Q (.ret (.v (.bool false))) S)) (Q (.ret (.v (.bool false))) S)) (Q (.ret (.v (.bool false))) S)) (Q (.ret (.v (.bool false))) S)
theorem calls19 {S:Store} {Q:PoT} (h:m19  S Q):ACalls Tryz.prog 19 [] S Q :=
  calls_of_vc (fn:=Tryz.f19) (c:=c19) (n:=85) Tryz.func19 (by kernel_rfl) (by kernel_rfl) (by kernel_rfl) ms19 (Eq.mpr (by kernel_rfl) h)
noncomputable def c27:Code:=(Tryz.f27.body).getD .skip
def ms27:List (List Nat):=[[54]]
def m27 (x0 x1 x2:AV) (S:Store) (Q:PoT):Prop :=
  boxN 42 8 x0 S fun v1 S=>boxN 24 4 x1 S fun v2 S=>boxN 37 5 x2 S fun v3 S=>ldN 8 v1 S fun v4 S=>ldN 4 v2 S fun v5 S=>callF Tryz.prog 52 [v4,v5] S Q fun v6 S=>un .not v6 S fun v7 S=>onB v7 fun b8=>gd b8 (Q (.ret (.t [(.v (.int .i64 0)),(.v (.bool false))])) S) (shift v1 0 S fun v9 S=>ld1 v9 S fun v10 S=>shift v1 1 S fun v11 S=>ld1 v11 S fun v12 S=>lenS v12 S fun v13 S=>bin .add 0 v10 v13 S fun v14 S=>bin .gtr 0 v14 (.v (.int .i64 60)) S fun v15 S=>onB v15 fun b16=>gd b16 (Q (.ret (.t [(.v (.int .i64 0)),(.v (.bool false))])) S) (∃ q17:AV,(∀ T:Store,Keep S T → ldN 8 v1 T fun v18 S=>v18 = q17 ∧ S = T) ∧ ∃ q19:AV,(∀ T:Store,Keep S T → callF Tryz.prog 53 [] T (fun _ _=>False) fun v20 S=>v20 = q19 ∧ S = T) ∧ ∃ q21:AV,(∀ T:Store,Keep S T → bld [(0,8),(8,1),(9,1)] [(.v (.int .i64 0)),.nl,.nl,.nl,.nl,.nl,.nl,.nl,(.v (.int .i64 0)),(.v (.map none))] [(0,q17),(2,q19)] T fun v22 S=>v22 = q21 ∧ S = T) ∧ boxN 100 10 q21 S fun v23 S=>∃ q24:AV,(∀ T:Store,Keep S T → ldN 4 v2 T fun v25 S=>v25 = q24 ∧ S = T) ∧ ∃ q26:AV,(∀ T:Store,Keep S T → callF Tryz.prog 45 [] T (fun _ _=>False) fun v27 S=>v27 = q26 ∧ S = T) ∧ ∃ q28:AV,(∀ T:Store,Keep S T → callF Tryz.prog 44 [q24,(.v (.bool false)),q26] T (fun _ _=>False) fun v29 S=>v29 = q28 ∧ S = T) ∧ ∃ q30:AV,(∀ T:Store,Keep S T → ldN 5 v3 T fun v31 S=>v31 = q30 ∧ S = T) ∧ callF Tryz.prog 54 [v23,q28,q30] S (fun _ _=>False) fun v32 S=>∃ q33:AV,(∀ T:Store,Keep S T → un .not v32 T fun v34 S=>v34 = q33 ∧ S = T) ∧ onB q33 fun b35=>gd b35 (Q (.ret (.t [(.v (.int .i64 0)),(.v (.bool false))])) S) (nilChk v23 S fun v36 S=>shift v36 8 S fun v37 S=>ld1 v37 S fun v38 S=>Q (.ret (.t [v38,(.v (.bool true))])) S)))
theorem calls27 {x0 x1 x2:AV} {S:Store} {Q:PoT} (h:m27 x0 x1 x2 S Q):ACalls Tryz.prog 27 [x0,x1,x2] S Q :=
  calls_of_vc (fn:=Tryz.f27) (c:=c27) (n:=37) Tryz.func27 (by kernel_rfl) (by kernel_rfl) (by kernel_rfl) ms27 (Eq.mpr (by kernel_rfl) h)
noncomputable def c54:Code:=(Tryz.f54.body).getD .skip
def ms54:List (List Nat):=[[]]
def m54 (x0 x1 x2:AV) (S:Store) (Q:PoT):Prop :=
  boxN 24 4 x1 S fun v1 S=>boxN 37 5 x2 S fun v2 S=>(fun S0:Store=>∃ q3:AV,(nilChk x0 S fun v4 S=>v4 = q3 ∧ S = S0) ∧ ∃ q5:AV,(shift q3 9 S fun v6 S=>v6 = q5 ∧ S = S0) ∧ ∃ q7:AV,(ld1 q5 S fun v8 S=>v8 = q7 ∧ S = S0) ∧ ∃ q9:AV,(shift v1 0 S fun v10 S=>v10 = q9 ∧ S = S0) ∧ ∃ q11:AV,(ld1 q9 S fun v12 S=>v12 = q11 ∧ S = S0) ∧ ∃ q13:AV,(lkM (.i .i64) (.v .nilFunc) true q7 q11 S fun v14 S=>v14 = q13 ∧ S = S0) ∧ ∃ q15:AV,(extr q13 0 S fun v16 S=>v16 = q15 ∧ S = S0) ∧ ∃ q17:AV,(extr q13 1 S fun v18 S=>v18 = q17 ∧ S = S0) ∧ onB q17 fun b19=>gd b19 (shift v2 1 S fun v20 S=>ld1 v20 S fun v21 S=>callF Tryz.prog 100 [x0,v21] S Q fun v22 S=>onB v22 fun b23=>gd b23 (ldN 4 v1 S fun v24 S=>ldN 5 v2 S fun v25 S=>callV Tryz.prog q15 [x0,v24,v25] S (fun v26 S=>Q (.ret v26) S) (fun u S=>Q (.pan u) S)) (Q (.ret (.v (.bool false))) S)) (Q (.ret (.v (.bool false))) S)) S
theorem calls54 {x0 x1 x2:AV} {S:Store} {Q:PoT} (h:m54 x0 x1 x2 S Q):ACalls Tryz.prog 54 [x0,x1,x2] S Q :=
  calls_of_vc (fn:=Tryz.f54) (c:=c54) (n:=33) Tryz.func54 (by kernel_rfl) (by kernel_rfl) (by kernel_rfl) ms54 (Eq.mpr (by kernel_rfl) h)
noncomputable def c53:Code:=(Tryz.f53.body).getD .skip
def ms53:List (List Nat):=[[97]]
def m53 (S:Store) (Q:PoT):Prop :=
  mkM (.i .i64) S fun v1 S=>updM (.i .i64) v1 (.v (.int .i64 2)) (.f (.func 89) [] []) S fun v2 S=>updM (.i .i64) v1 (.v (.int .i64 3)) (.f (.func 90) [] []) S fun v3 S=>updM (.i .i64) v1 (.v (.int .i64 4)) (.f (.func 91) [] []) S fun v4 S=>updM (.i .i64) v1 (.v (.int .i64 5)) (.f (.func 92) [] []) S fun v5 S=>updM (.i .i64) v1 (.v (.int .i64 6)) (.f (.func 93) [] []) S fun v6 S=>updM (.i .i64) v1 (.v (.int .i64 9)) (.f (.func 94) [] []) S fun v7 S=>updM (.i .i64) v1 (.v (.int .i64 11)) (.f (.func 95) [] []) S fun v8 S=>updM (.i .i64) v1 (.v (.int .i64 13)) (.f (.func 96) [] []) S fun v9 S=>updM (.i .i64) v1 (.v (.int .i64 15)) (.f (.func 97) [] []) S fun v10 S=>updM (.i .i64) v1 (.v (.int .i64 17)) (.f (.func 98) [] []) S fun v11 S=>updM (.i .i64) v1 (.v (.int .i64 10)) (.f (.func 99) [] []) S fun v12 S=>updM (.i .i64) v1 (.v (.int .i64 12)) (.f (.func 99) [] []) S fun v13 S=>updM (.i .i64) v1 (.v (.int .i64 14)) (.f (.func 99) [] []) S fun v14 S=>updM (.i .i64) v1 (.v (.int .i64 16)) (.f (.func 99) [] []) S fun v15 S=>updM (.i .i64) v1 (.v (.int .i64 18)) (.f (.func 99) [] []) S fun v16 S=>Q (.ret v1) S
theorem calls53 {S:Store} {Q:PoT} (h:m53  S Q):ACalls Tryz.prog 53 [] S Q :=
  calls_of_vc (fn:=Tryz.f53) (c:=c53) (n:=3) Tryz.func53 (by kernel_rfl) (by kernel_rfl) (by kernel_rfl) ms53 (Eq.mpr (by kernel_rfl) h)
noncomputable def c144:Code:=(Tryz.f144.body).getD .skip
def ms144:List (List Nat):=[[]]
def m144 (x0 x1 x2:AV) (S:Store) (Q:PoT):Prop :=
  ld1 x1 S fun v1 S=>ld1 x2 S fun v2 S=>callF Tryz.prog 137 [v1,x0,v2] S Q fun v3 S=>Q (.ret v3) S
theorem calls144 {x0 x1 x2:AV} {S:Store} {Q:PoT} (h:m144 x0 x1 x2 S Q):ACalls Tryz.prog 144 [x0,x1,x2] S Q :=
  calls_of_vc (fn:=Tryz.f144) (c:=c144) (n:=9) Tryz.func144 (by kernel_rfl) (by kernel_rfl) (by kernel_rfl) ms144 (Eq.mpr (by kernel_rfl) h)
noncomputable def c96:Code:=(Tryz.f96.body).getD .skip
noncomputable def r96:List ResultVar:=Tryz.f96.results.toList
def env96_0 (y3 y4 y5 y61 y62 y63:AV):List AV:=[y3,y4,y5,y61,y62,y63]
def lv96_0:List Nat:=[3,4,5,61,62,63]
def ms96:List (List Nat):=[lv96_0,[145]]
def m96 (x0 x1 x2:AV) (S:Store) (Q:PoT):Prop :=
  boxN 96 1 x0 S fun v1 S=>boxN 24 4 x1 S fun v2 S=>boxN 37 5 x2 S fun v3 S=>shift v3 3 S fun v4 S=>ld1 v4 S fun v5 S=>lenS v5 S fun v6 S=>(fun S0:Store=>∃ q7:AV,(shift v3 0 S0 fun v8 S=>v8 = q7 ∧ S = S0) ∧ ∃ q9:AV,(ld1 q7 S0 fun v10 S=>v10 = q9 ∧ S = S0) ∧ ∃ q11:AV,(bin .neq 0 q9 (.v (.int .i64 6)) S0 fun v12 S=>v12 = q11 ∧ S = S0) ∧ ∃ t13:Bool,wantT q11 false = some t13 ∧ ∃ q14:AV,gd t13 (ld1 v1 S0 fun v15 S=>v15 = q14 ∧ S = S0) (q14 = .v undef) ∧ ∃ t16:Bool,wantT q11 false = some t16 ∧ ∃ q17:AV,gd t16 (ldN 5 v3 S0 fun v18 S=>v18 = q17 ∧ S = S0) (q17 = .v undef) ∧ ∃ t19:Bool,wantT q11 false = some t19 ∧ ∃ q20:AV,gd t19 (callF Tryz.prog 143 [q14,q17] S0 (fun _ _=>False) fun v21 S=>v21 = q20 ∧ S = S0) (q20 = .v undef) ∧ ∃ t22:Bool,wantT q11 false = some t22 ∧ ∃ q23:AV,gd t22 (un .not q20 S0 fun v24 S=>v24 = q23 ∧ S = S0) (q23 = .v undef) ∧ ∃ q25:AV,(pick q11 (.v (.bool true)) q23 S0 fun v26 S=>v26 = q25 ∧ S = S0) ∧ ∃ t27:Bool,wantT q25 false = some t27 ∧ ∃ q28:AV,gd t27 (shift v3 2 S0 fun v29 S=>v29 = q28 ∧ S = S0) (q28 = .v undef) ∧ ∃ t30:Bool,wantT q25 false = some t30 ∧ ∃ q31:AV,gd t30 (ld1 q28 S0 fun v32 S=>v32 = q31 ∧ S = S0) (q31 = .v undef) ∧ ∃ t33:Bool,wantT q25 false = some t33 ∧ ∃ q34:AV,gd t33 (bin .lss 0 q31 (.v (.int .i64 0)) S0 fun v35 S=>v35 = q34 ∧ S = S0) (q34 = .v undef) ∧ ∃ q36:AV,(pick q25 (.v (.bool true)) q34 S0 fun v37 S=>v37 = q36 ∧ S = S0) ∧ ∃ t38:Bool,wantT q36 false = some t38 ∧ ∃ q39:AV,gd t38 (shift v3 2 S0 fun v40 S=>v40 = q39 ∧ S = S0) (q39 = .v undef) ∧ ∃ t41:Bool,wantT q36 false = some t41 ∧ ∃ q42:AV,gd t41 (ld1 q39 S0 fun v43 S=>v43 = q42 ∧ S = S0) (q42 = .v undef) ∧ ∃ t44:Bool,wantT q36 false = some t44 ∧ ∃ q45:AV,gd t44 (q45 = v6) (q45 = .v undef) ∧ ∃ t46:Bool,wantT q36 false = some t46 ∧ ∃ q47:AV,gd t46 (bin .geq 0 q42 q45 S0 fun v48 S=>v48 = q47 ∧ S = S0) (q47 = .v undef) ∧ ∃ q49:AV,(pick q36 (.v (.bool true)) q47 S0 fun v50 S=>v50 = q49 ∧ S = S0) ∧ ∃ t51:Bool,wantT q49 false = some t51 ∧ ∃ q52:AV,gd t51 (shift v3 4 S0 fun v53 S=>v53 = q52 ∧ S = S0) (q52 = .v undef) ∧ ∃ t54:Bool,wantT q49 false = some t54 ∧ ∃ q55:AV,gd t54 (ld1 q52 S0 fun v56 S=>v56 = q55 ∧ S = S0) (q55 = .v undef) ∧ ∃ t57:Bool,wantT q49 false = some t57 ∧ ∃ q58:AV,gd t57 (lenS q55 S0 fun v59 S=>v59 = q58 ∧ S = S0) (q58 = .v undef) ∧ ∃ t60:Bool,wantT q49 false = some t60 ∧ ∃ q61:AV,gd t60 (q61 = v6) (q61 = .v undef) ∧ ∃ t62:Bool,wantT q49 false = some t62 ∧ ∃ q63:AV,gd t62 (bin .neq 0 q58 q61 S0 fun v64 S=>v64 = q63 ∧ S = S0) (q63 = .v undef) ∧ ∃ q65:AV,(pick q49 (.v (.bool true)) q63 S0 fun v66 S=>v66 = q65 ∧ S = S0) ∧ ∃ t67:Bool,wantT q65 false = some t67 ∧ ∃ q68:AV,gd t67 (ld1 v1 S0 fun v69 S=>v69 = q68 ∧ S = S0) (q68 = .v undef) ∧ ∃ t70:Bool,wantT q65 false = some t70 ∧ ∃ q71:AV,gd t70 (shift v3 3 S0 fun v72 S=>v72 = q71 ∧ S = S0) (q71 = .v undef) ∧ ∃ t73:Bool,wantT q65 false = some t73 ∧ ∃ q74:AV,gd t73 (ld1 q71 S0 fun v75 S=>v75 = q74 ∧ S = S0) (q74 = .v undef) ∧ ∃ t76:Bool,wantT q65 false = some t76 ∧ ∃ q77:AV,gd t76 (q77 = v6) (q77 = .v undef) ∧ ∃ t78:Bool,wantT q65 false = some t78 ∧ ∃ q79:AV,gd t78 (bin .sub 0 q77 (.v (.int .i64 1)) S0 fun v80 S=>v80 = q79 ∧ S = S0) (q79 = .v undef) ∧ ∃ t81:Bool,wantT q65 false = some t81 ∧ ∃ q82:AV,gd t81 (ixS 3 1 q74 q79 S0 fun v83 S=>v83 = q82 ∧ S = S0) (q82 = .v undef) ∧ ∃ t84:Bool,wantT q65 false = some t84 ∧ ∃ q85:AV,gd t84 (ld1 q82 S0 fun v86 S=>v86 = q85 ∧ S = S0) (q85 = .v undef) ∧ ∃ t87:Bool,wantT q65 false = some t87 ∧ ∃ q88:AV,gd t87 (shift v3 3 S0 fun v89 S=>v89 = q88 ∧ S = S0) (q88 = .v undef) ∧ ∃ t90:Bool,wantT q65 false = some t90 ∧ ∃ q91:AV,gd t90 (ld1 q88 S0 fun v92 S=>v92 = q91 ∧ S = S0) (q91 = .v undef) ∧ ∃ t93:Bool,wantT q65 false = some t93 ∧ ∃ q94:AV,gd t93 (shift v3 2 S0 fun v95 S=>v95 = q94 ∧ S = S0) (q94 = .v undef) ∧ ∃ t96:Bool,wantT q65 false = some t96 ∧ ∃ q97:AV,gd t96 (ld1 q94 S0 fun v98 S=>v98 = q97 ∧ S = S0) (q97 = .v undef) ∧ ∃ t99:Bool,wantT q65 false = some t99 ∧ ∃ q100:AV,gd t99 (ixS 3 1 q91 q97 S0 fun v101 S=>v101 = q100 ∧ S = S0) (q100 = .v undef) ∧ ∃ t102:Bool,wantT q65 false = some t102 ∧ ∃ q103:AV,gd t102 (ld1 q100 S0 fun v104 S=>v104 = q103 ∧ S = S0) (q103 = .v undef) ∧ ∃ t105:Bool,wantT q65 false = some t105 ∧ ∃ q106:AV,gd t105 (callF Tryz.prog 141 [q68,q85,q103] S0 (fun _ _=>False) fun v107 S=>v107 = q106 ∧ S = S0) (q106 = .v undef) ∧ ∃ t108:Bool,wantT q65 false = some t108 ∧ ∃ q109:AV,gd t108 (un .not q106 S0 fun v110 S=>v110 = q109 ∧ S = S0) (q109 = .v undef) ∧ ∃ q111:AV,(pick q65 (.v (.bool true)) q109 S0 fun v112 S=>v112 = q111 ∧ S = S0) ∧ (fun S:Store=>onB q111 fun b113=>gd b113 (Q (.ret (.v (.bool false))) S) (ld1 v1 S fun v114 S=>nilChk v114 S fun v115 S=>shift v115 0 S fun v116 S=>shift v116 6 S fun v117 S=>ld1 v117 S fun v118 S=>lenS v118 S fun v119 S=>loopV lv96_0 (vc Tryz.prog (c96.at_ [1,1,1,0,1,0,0]) (ms96.drop 1)) 86 (env96_0 v1 v2 v3 v118 v119 (.v (.int .i64 0))) S (blockK 0 (seqK (vc Tryz.prog (c96.at_ [1,1,1,1]) (ms96.drop 1)) (bodyK Tryz.prog r96 Q))))) S0) S
theorem calls96 {x0 x1 x2:AV} {S:Store} {Q:PoT} (h:m96 x0 x1 x2 S Q):ACalls Tryz.prog 96 [x0,x1,x2] S Q :=
  calls_of_vc (fn:=Tryz.f96) (c:=c96) (n:=86) Tryz.func96 (by kernel_rfl) (by kernel_rfl) (by kernel_rfl) ms96 (Eq.mpr (by kernel_rfl) h)
def b96_0 (y3 y4 y5 y61 y62 y63:AV) (S:Store) (KE0:KeT) (Q:PoT):Prop :=
  bin .lss 0 y63 y62 S fun v120 S=>onB v120 fun b121=>gd b121 (ixS 3 1 y61 y63 S fun v122 S=>ld1 v122 S fun v123 S=>boxN 3 1 (.v (.int .i64 0)) S fun v124 S=>stN 1 v124 v123 S fun v125 S=>shift y5 3 S fun v126 S=>ld1 v126 S fun v127 S=>shift y5 2 S fun v128 S=>ld1 v128 S fun v129 S=>slc 3 1 v127 (some v129) none none S fun v130 S=>callF Tryz.prog 132 [v130,(.f (.func 144) [] [y3,v124])] S Q fun v131 S=>un .not v131 S fun v132 S=>onB v132 fun b133=>gd b133 (Q (.ret (.v (.bool false))) S) (bin .add 0 y63 (.v (.int .i64 1)) S fun v134 S=>KE0 86 (env96_0 y3 y4 y5 y61 y62 v134) S)) (∃ q135:AV,(∀ T:Store,Keep S T → ld1 y3 T fun v136 S=>v136 = q135 ∧ S = T) ∧ ∃ q137:AV,(∀ T:Store,Keep S T → shift y5 3 T fun v138 S=>v138 = q137 ∧ S = T) ∧ ∃ q139:AV,(∀ T:Store,Keep S T → ld1 q137 T fun v140 S=>v140 = q139 ∧ S = T) ∧ ∃ q141:AV,(∀ T:Store,Keep S T → shift y4 3 T fun v142 S=>v142 = q141 ∧ S = T) ∧ ∃ q143:AV,(∀ T:Store,Keep S T → ld1 q141 T fun v144 S=>v144 = q143 ∧ S = T) ∧ ∃ q145:AV,(∀ T:Store,Keep S T → ixS 24 4 q143 (.v (.int .i64 0)) T fun v146 S=>v146 = q145 ∧ S = T) ∧ ∃ q147:AV,(∀ T:Store,Keep S T → ldN 4 q145 T fun v148 S=>v148 = q147 ∧ S = T) ∧ ∃ q149:AV,(∀ T:Store,Keep S T → shift y5 4 T fun v150 S=>v150 = q149 ∧ S = T) ∧ ∃ q151:AV,(∀ T:Store,Keep S T → ld1 q149 T fun v152 S=>v152 = q151 ∧ S = T) ∧ callF Tryz.prog 145 [q135,q139,q147,q151] S (fun _ _=>False) fun v153 S=>Q (.ret v153) S)
theorem b96_0_eq (y3 y4 y5 y61 y62 y63:AV) (S:Store) (KE0:KeT) (Q:PoT):vc Tryz.prog (c96.at_ [1,1,1,0,1,0,0]) (ms96.drop 1) (mkE 86 lv96_0 (env96_0 y3 y4 y5 y61 y62 y63)) S (thenK (fgK lv96_0 KE0) (blockK 0 (seqK (vc Tryz.prog (c96.at_ [1,1,1,1]) (ms96.drop 1)) (bodyK Tryz.prog r96 Q)))) = b96_0 y3 y4 y5 y61 y62 y63 S KE0 Q:=by kernel_rfl
theorem loop96_0 {y3 y4 y5 y61 y62:AV} {y630:AV} {S:Store} {Q:PoT} (I:AV → Store → Prop) (μ:AV → Store → Nat) (h0:I y630 S)
    (hr:∀ (y63:AV) (S:Store),I y63 S → ∀ KE0:KeT,(∀ (y63':AV) (S':Store),I y63' S' → μ y63' S' < μ y63 S → KE0 86 (env96_0 y3 y4 y5 y61 y62 y63') S') → b96_0 y3 y4 y5 y61 y62 y63 S KE0 Q) :
    loopV lv96_0 (vc Tryz.prog (c96.at_ [1,1,1,0,1,0,0]) (ms96.drop 1)) 86 (env96_0 y3 y4 y5 y61 y62 y630) S (blockK 0 (seqK (vc Tryz.prog (c96.at_ [1,1,1,1]) (ms96.drop 1)) (bodyK Tryz.prog r96 Q))):=by
  refine ⟨fun n e S=>n = 86 ∧ ∃ y63:AV,e = (env96_0 y3 y4 y5 y61 y62 y63) ∧ I y63 S,fun _ e S=>μ (e.getD 5 .j) S,?_,?_⟩
  · exact ⟨_,_,Wk.refl _ _,rfl,_,rfl,h0⟩
  · rintro _ e S ⟨rfl,y63,rfl,hI⟩
    exact (b96_0_eq _ _ _ _ _ _ _ _ _).mpr (hr y63 S hI _ (fun y63' S' hI' hm=>⟨_,_,Wk.refl _ _,⟨rfl,_,rfl,hI'⟩,hm⟩))
noncomputable def c95:Code:=(Tryz.f95.body).getD .skip
def ms95:List (List Nat):=[[97]]
def m95 (x0 x1 x2:AV) (S:Store) (Q:PoT):Prop :=
  boxN 24 4 x1 S fun v1 S=>boxN 37 5 x2 S fun v2 S=>∃ q3:AV,(∀ T:Store,Keep S T → bld [(0,1),(1,1),(2,1),(3,1)] [(.v (.int .i64 0)),(.v (.string ByteArray.empty)),(.v (.int .i64 0)),.nl] [(0,(.v (.int .i64 2)))] T fun v4 S=>v4 = q3 ∧ S = T) ∧ ∃ q5:AV,(∀ T:Store,Keep S T → shift v1 3 T fun v6 S=>v6 = q5 ∧ S = T) ∧ ∃ q7:AV,(∀ T:Store,Keep S T → ld1 q5 T fun v8 S=>v8 = q7 ∧ S = T) ∧ ∃ q9:AV,(∀ T:Store,Keep S T → ixS 24 4 q7 (.v (.int .i64 0)) T fun v10 S=>v10 = q9 ∧ S = T) ∧ ∃ q11:AV,(∀ T:Store,Keep S T → ldN 4 q9 T fun v12 S=>v12 = q11 ∧ S = T) ∧ ∃ q13:AV,(∀ T:Store,Keep S T → bslN 24 4 2 [(.v (.int .i64 0)),(.v (.string ByteArray.empty)),(.v (.int .i64 0)),.nl] [(0,q3),(1,q11)] T fun v14 S=>v14 = q13 ∧ S = T) ∧ ∃ q15:AV,(∀ T:Store,Keep S T → callF Tryz.prog 74 [(.v (.int .i64 15)),q13] T (fun _ _=>False) fun v16 S=>v16 = q15 ∧ S = T) ∧ ∃ q17:AV,(∀ T:Store,Keep S T → ldN 5 v2 T fun v18 S=>v18 = q17 ∧ S = T) ∧ callF Tryz.prog 97 [x0,q15,q17] S (fun _ _=>False) fun v19 S=>Q (.ret v19) S
theorem calls95 {x0 x1 x2:AV} {S:Store} {Q:PoT} (h:m95 x0 x1 x2 S Q):ACalls Tryz.prog 95 [x0,x1,x2] S Q :=
  calls_of_vc (fn:=Tryz.f95) (c:=c95) (n:=17) Tryz.func95 (by kernel_rfl) (by kernel_rfl) (by kernel_rfl) ms95 (Eq.mpr (by kernel_rfl) h)
noncomputable def c99:Code:=(Tryz.f99.body).getD .skip
def ms99:List (List Nat):=[[]]
def m99 (x0 x1 x2:AV) (S:Store) (Q:PoT):Prop :=
  boxN 24 4 x1 S fun v1 S=>boxN 37 5 x2 S fun v2 S=>nilChk x0 S fun v3 S=>shift v3 8 S fun v4 S=>ld1 v4 S fun v5 S=>bin .add 0 v5 (.v (.int .i64 1)) S fun v6 S=>nilChk x0 S fun v7 S=>shift v7 8 S fun v8 S=>stN 1 v8 v6 S fun v9 S=>ldN 5 v2 S fun v10 S=>callF Tryz.prog 136 [v10,(.v (.int .i64 7))] S Q fun v11 S=>Q (.ret v11) S
theorem calls99 {x0 x1 x2:AV} {S:Store} {Q:PoT} (h:m99 x0 x1 x2 S Q):ACalls Tryz.prog 99 [x0,x1,x2] S Q :=
  calls_of_vc (fn:=Tryz.f99) (c:=c99) (n:=16) Tryz.func99 (by kernel_rfl) (by kernel_rfl) (by kernel_rfl) ms99 (Eq.mpr (by kernel_rfl) h)
noncomputable def c94:Code:=(Tryz.f94.body).getD .skip
def ms94:List (List Nat):=[[139]]
def m94 (x0 x1 x2:AV) (S:Store) (Q:PoT):Prop :=
  boxN 24 4 x1 S fun v1 S=>boxN 37 5 x2 S fun v2 S=>ldN 5 v2 S fun v3 S=>callF Tryz.prog 138 [v3,(.v (.int .i64 4))] S Q fun v4 S=>un .not v4 S fun v5 S=>onB v5 fun b6=>gd b6 (Q (.ret (.v (.bool false))) S) (shift v2 4 S fun v7 S=>ld1 v7 S fun v8 S=>lenS v8 S fun v9 S=>bin .neq 0 v9 (.v (.int .i64 2)) S fun v10 S=>onB v10 fun b11=>gd b11 (Q (.ret (.v (.bool false))) S) (shift v2 4 S fun v12 S=>ld1 v12 S fun v13 S=>ixS 37 5 v13 (.v (.int .i64 0)) S fun v14 S=>shift v14 1 S fun v15 S=>ld1 v15 S fun v16 S=>∃ q17:AV,(∀ T:Store,Keep S T → shift v2 1 T fun v18 S=>v18 = q17 ∧ S = T) ∧ ∃ q19:AV,(∀ T:Store,Keep S T → ld1 q17 T fun v20 S=>v20 = q19 ∧ S = T) ∧ ∃ q21:AV,(∀ T:Store,Keep S T → callF Tryz.prog 141 [x0,q19,v16] T (fun _ _=>False) fun v22 S=>v22 = q21 ∧ S = T) ∧ onB q21 fun b23=>gd b23 (∃ q24:AV,(∀ T:Store,Keep S T → shift v1 3 T fun v25 S=>v25 = q24 ∧ S = T) ∧ ∃ q26:AV,(∀ T:Store,Keep S T → ld1 q24 T fun v27 S=>v27 = q26 ∧ S = T) ∧ ∃ q28:AV,(∀ T:Store,Keep S T → ixS 24 4 q26 (.v (.int .i64 0)) T fun v29 S=>v29 = q28 ∧ S = T) ∧ ∃ q30:AV,(∀ T:Store,Keep S T → ldN 4 q28 T fun v31 S=>v31 = q30 ∧ S = T) ∧ ∃ q32:AV,(∀ T:Store,Keep S T → shift v2 4 T fun v33 S=>v33 = q32 ∧ S = T) ∧ ∃ q34:AV,(∀ T:Store,Keep S T → ld1 q32 T fun v35 S=>v35 = q34 ∧ S = T) ∧ ∃ q36:AV,(∀ T:Store,Keep S T → ixS 37 5 q34 (.v (.int .i64 0)) T fun v37 S=>v37 = q36 ∧ S = T) ∧ ∃ q38:AV,(∀ T:Store,Keep S T → ldN 5 q36 T fun v39 S=>v39 = q38 ∧ S = T) ∧ callF Tryz.prog 139 [x0,v16,q30,q38] S (fun _ _=>False) fun v40 S=>∃ q41:AV,(∀ T:Store,Keep S T → v40 = q41 ∧ T = T) ∧ onB q41 fun b42=>gd b42 (∃ q43:AV,(∀ T:Store,Keep S T → callF Tryz.prog 142 [] T (fun _ _=>False) fun v44 S=>v44 = q43 ∧ S = T) ∧ ∃ q45:AV,(∀ T:Store,Keep S T → shift v2 4 T fun v46 S=>v46 = q45 ∧ S = T) ∧ ∃ q47:AV,(∀ T:Store,Keep S T → ld1 q45 T fun v48 S=>v48 = q47 ∧ S = T) ∧ ∃ q49:AV,(∀ T:Store,Keep S T → ixS 37 5 q47 (.v (.int .i64 1)) T fun v50 S=>v50 = q49 ∧ S = T) ∧ ∃ q51:AV,(∀ T:Store,Keep S T → ldN 5 q49 T fun v52 S=>v52 = q51 ∧ S = T) ∧ callF Tryz.prog 139 [x0,v16,q43,q51] S (fun _ _=>False) fun v53 S=>∃ q54:AV,(∀ T:Store,Keep S T → v53 = q54 ∧ T = T) ∧ Q (.ret q54) S) (∃ q55:AV,(∀ T:Store,Keep S T → (.v (.bool false)) = q55 ∧ T = T) ∧ Q (.ret q55) S)) (∃ q56:AV,(∀ T:Store,Keep S T → (.v (.bool false)) = q56 ∧ T = T) ∧ onB q56 fun b57=>gd b57 (∃ q58:AV,(∀ T:Store,Keep S T → callF Tryz.prog 142 [] T (fun _ _=>False) fun v59 S=>v59 = q58 ∧ S = T) ∧ ∃ q60:AV,(∀ T:Store,Keep S T → shift v2 4 T fun v61 S=>v61 = q60 ∧ S = T) ∧ ∃ q62:AV,(∀ T:Store,Keep S T → ld1 q60 T fun v63 S=>v63 = q62 ∧ S = T) ∧ ∃ q64:AV,(∀ T:Store,Keep S T → ixS 37 5 q62 (.v (.int .i64 1)) T fun v65 S=>v65 = q64 ∧ S = T) ∧ ∃ q66:AV,(∀ T:Store,Keep S T → ldN 5 q64 T fun v67 S=>v67 = q66 ∧ S = T) ∧ callF Tryz.prog 139 [x0,v16,q58,q66] S (fun _ _=>False) fun v68 S=>∃ q69:AV,(∀ T:Store,Keep S T → v68 = q69 ∧ T = T) ∧ Q (.ret q69) S) (∃ q70:AV,(∀ T:Store,Keep S T → (.v (.bool false)) = q70 ∧ T = T) ∧ Q (.ret q70) S))))
theorem calls94 {x0 x1 x2:AV} {S:Store} {Q:PoT} (h:m94 x0 x1 x2 S Q):ACalls Tryz.prog 94 [x0,x1,x2] S Q :=
  calls_of_vc (fn:=Tryz.f94) (c:=c94) (n:=50) Tryz.func94 (by kernel_rfl) (by kernel_rfl) (by kernel_rfl) ms94 (Eq.mpr (by kernel_rfl) h)
noncomputable def c98:Code:=(Tryz.f98.body).getD .skip
def ms98:List (List Nat):=[[140]]
def m98 (x0 x1 x2:AV) (S:Store) (Q:PoT):Prop :=
  boxN 24 4 x1 S fun v1 S=>boxN 37 5 x2 S fun v2 S=>∃ q3:AV,(∀ T:Store,Keep S T → shift v1 3 T fun v4 S=>v4 = q3 ∧ S = T) ∧ ∃ q5:AV,(∀ T:Store,Keep S T → ld1 q3 T fun v6 S=>v6 = q5 ∧ S = T) ∧ ∃ q7:AV,(∀ T:Store,Keep S T → ixS 24 4 q5 (.v (.int .i64 0)) T fun v8 S=>v8 = q7 ∧ S = T) ∧ ∃ q9:AV,(∀ T:Store,Keep S T → ldN 4 q7 T fun v10 S=>v10 = q9 ∧ S = T) ∧ ∃ q11:AV,(∀ T:Store,Keep S T → shift v1 3 T fun v12 S=>v12 = q11 ∧ S = T) ∧ ∃ q13:AV,(∀ T:Store,Keep S T → ld1 q11 T fun v14 S=>v14 = q13 ∧ S = T) ∧ ∃ q15:AV,(∀ T:Store,Keep S T → ixS 24 4 q13 (.v (.int .i64 1)) T fun v16 S=>v16 = q15 ∧ S = T) ∧ ∃ q17:AV,(∀ T:Store,Keep S T → ldN 4 q15 T fun v18 S=>v18 = q17 ∧ S = T) ∧ newsV [(.cells 24 [[(.v (.int .i64 0)),(.v (.string ByteArray.empty)),(.v (.int .i64 0)),.nl]] true),(.cells 24 [[(.v (.int .i64 0)),(.v (.string ByteArray.empty)),(.v (.int .i64 0)),.nl]] true)] S fun ids19 S=>stN 4 (.p (ids19.headD 0) 0 0) q9 S fun v20 S=>(∀ T:Store,Keep S T → ldN 4 q15 T fun v21 S=>v21 = q17 ∧ S = T) ∧ (∀ T:Store,Keep S T → ixS 24 4 q13 (.v (.int .i64 1)) T fun v22 S=>v22 = q15 ∧ S = T) ∧ (∀ T:Store,Keep S T → ld1 q11 T fun v23 S=>v23 = q13 ∧ S = T) ∧ (∀ T:Store,Keep S T → shift v1 3 T fun v24 S=>v24 = q11 ∧ S = T) ∧ stN 4 (.p (ids19.tail.headD 0) 0 0) q17 S fun v25 S=>∃ q26:AV,(∀ T:Store,Keep S T → ldN 5 v2 T fun v27 S=>v27 = q26 ∧ S = T) ∧ ∃ q28:AV,(∀ T:Store,Keep S T → ldN 4 (.p (ids19.tail.headD 0) 0 0) T fun v29 S=>v29 = q28 ∧ S = T) ∧ ∃ q30:AV,(∀ T:Store,Keep S T → bslN 24 4 1 [(.v (.int .i64 0)),(.v (.string ByteArray.empty)),(.v (.int .i64 0)),.nl] [(0,q28)] T fun v31 S=>v31 = q30 ∧ S = T) ∧ ∃ q32:AV,(∀ T:Store,Keep S T → callF Tryz.prog 74 [(.v (.int .i64 13)),q30] T (fun _ _=>False) fun v33 S=>v33 = q32 ∧ S = T) ∧ ∃ q34:AV,(∀ T:Store,Keep S T → ldN 4 (.p (ids19.tail.headD 0) 0 0) T fun v35 S=>v35 = q34 ∧ S = T) ∧ ∃ q36:AV,(∀ T:Store,Keep S T → ldN 4 (.p (ids19.headD 0) 0 0) T fun v37 S=>v37 = q36 ∧ S = T) ∧ ∃ q38:AV,(∀ T:Store,Keep S T → ldN 4 (.p (ids19.tail.headD 0) 0 0) T fun v39 S=>v39 = q38 ∧ S = T) ∧ ∃ q40:AV,(∀ T:Store,Keep S T → bslN 24 4 2 [(.v (.int .i64 0)),(.v (.string ByteArray.empty)),(.v (.int .i64 0)),.nl] [(0,q36),(1,q38)] T fun v41 S=>v41 = q40 ∧ S = T) ∧ ∃ q42:AV,(∀ T:Store,Keep S T → callF Tryz.prog 74 [(.v (.int .i64 5)),q40] T (fun _ _=>False) fun v43 S=>v43 = q42 ∧ S = T) ∧ ∃ q44:AV,(∀ T:Store,Keep S T → bslN 24 4 2 [(.v (.int .i64 0)),(.v (.string ByteArray.empty)),(.v (.int .i64 0)),.nl] [(0,q34),(1,q42)] T fun v45 S=>v45 = q44 ∧ S = T) ∧ ∃ q46:AV,(∀ T:Store,Keep S T → callF Tryz.prog 74 [(.v (.int .i64 15)),q44] T (fun _ _=>False) fun v47 S=>v47 = q46 ∧ S = T) ∧ ∃ q48:AV,(∀ T:Store,Keep S T → bslN 24 4 2 [(.v (.int .i64 0)),(.v (.string ByteArray.empty)),(.v (.int .i64 0)),.nl] [(0,q32),(1,q46)] T fun v49 S=>v49 = q48 ∧ S = T) ∧ callF Tryz.prog 140 [x0,q26,q48] S (fun _ _=>False) fun v50 S=>Q (.ret v50) S
theorem calls98 {x0 x1 x2:AV} {S:Store} {Q:PoT} (h:m98 x0 x1 x2 S Q):ACalls Tryz.prog 98 [x0,x1,x2] S Q :=
  calls_of_vc (fn:=Tryz.f98) (c:=c98) (n:=31) Tryz.func98 (by kernel_rfl) (by kernel_rfl) (by kernel_rfl) ms98 (Eq.mpr (by kernel_rfl) h)
noncomputable def c97:Code:=(Tryz.f97.body).getD .skip
def ms97:List (List Nat):=[[139,145]]
def m97 (x0 x1 x2:AV) (S:Store) (Q:PoT):Prop :=
  boxN 24 4 x1 S fun v1 S=>boxN 37 5 x2 S fun v2 S=>shift v2 3 S fun v3 S=>ld1 v3 S fun v4 S=>lenS v4 S fun v5 S=>bin .sub 0 v5 (.v (.int .i64 1)) S fun v6 S=>shift v2 0 S fun v7 S=>ld1 v7 S fun v8 S=>bin .neq 0 v8 (.v (.int .i64 5)) S fun v9 S=>onB v9 fun b10=>gd b10 (Q (.ret (.v (.bool false))) S) (shift v2 2 S fun v11 S=>ld1 v11 S fun v12 S=>bin .neq 0 v12 (.v (.int .i64 0)) S fun v13 S=>onB v13 fun b14=>gd b14 (Q (.ret (.v (.bool false))) S) (ldN 5 v2 S fun v15 S=>callF Tryz.prog 143 [x0,v15] S Q fun v16 S=>un .not v16 S fun v17 S=>onB v17 fun b18=>gd b18 (Q (.ret (.v (.bool false))) S) (shift v2 4 S fun v19 S=>ld1 v19 S fun v20 S=>lenS v20 S fun v21 S=>bin .add 0 v6 (.v (.int .i64 2)) S fun v22 S=>bin .neq 0 v21 v22 S fun v23 S=>onB v23 fun b24=>gd b24 (Q (.ret (.v (.bool false))) S) (shift v2 3 S fun v25 S=>ld1 v25 S fun v26 S=>ixS 3 1 v26 v6 S fun v27 S=>ld1 v27 S fun v28 S=>∃ q29:AV,(∀ T:Store,Keep S T → shift v2 3 T fun v30 S=>v30 = q29 ∧ S = T) ∧ ∃ q31:AV,(∀ T:Store,Keep S T → ld1 q29 T fun v32 S=>v32 = q31 ∧ S = T) ∧ ∃ q33:AV,(∀ T:Store,Keep S T → slc 3 1 q31 none (some v6) none T fun v34 S=>v34 = q33 ∧ S = T) ∧ ∃ q35:AV,(∀ T:Store,Keep S T → shift v1 3 T fun v36 S=>v36 = q35 ∧ S = T) ∧ ∃ q37:AV,(∀ T:Store,Keep S T → ld1 q35 T fun v38 S=>v38 = q37 ∧ S = T) ∧ ∃ q39:AV,(∀ T:Store,Keep S T → ixS 24 4 q37 (.v (.int .i64 0)) T fun v40 S=>v40 = q39 ∧ S = T) ∧ ∃ q41:AV,(∀ T:Store,Keep S T → ldN 4 q39 T fun v42 S=>v42 = q41 ∧ S = T) ∧ ∃ q43:AV,(∀ T:Store,Keep S T → shift v2 4 T fun v44 S=>v44 = q43 ∧ S = T) ∧ ∃ q45:AV,(∀ T:Store,Keep S T → ld1 q43 T fun v46 S=>v46 = q45 ∧ S = T) ∧ callF Tryz.prog 145 [x0,q33,q41,q45] S (fun _ _=>False) fun v47 S=>onB v47 fun b48=>gd b48 (∃ q49:AV,(∀ T:Store,Keep S T → shift v1 3 T fun v50 S=>v50 = q49 ∧ S = T) ∧ ∃ q51:AV,(∀ T:Store,Keep S T → ld1 q49 T fun v52 S=>v52 = q51 ∧ S = T) ∧ ∃ q53:AV,(∀ T:Store,Keep S T → ixS 24 4 q51 (.v (.int .i64 1)) T fun v54 S=>v54 = q53 ∧ S = T) ∧ ∃ q55:AV,(∀ T:Store,Keep S T → ldN 4 q53 T fun v56 S=>v56 = q55 ∧ S = T) ∧ ∃ q57:AV,(∀ T:Store,Keep S T → shift v2 4 T fun v58 S=>v58 = q57 ∧ S = T) ∧ ∃ q59:AV,(∀ T:Store,Keep S T → ld1 q57 T fun v60 S=>v60 = q59 ∧ S = T) ∧ ∃ q61:AV,(∀ T:Store,Keep S T → ixS 37 5 q59 v6 T fun v62 S=>v62 = q61 ∧ S = T) ∧ ∃ q63:AV,(∀ T:Store,Keep S T → ldN 5 q61 T fun v64 S=>v64 = q63 ∧ S = T) ∧ callF Tryz.prog 139 [x0,v28,q55,q63] S (fun _ _=>False) fun v65 S=>∃ q66:AV,(∀ T:Store,Keep S T → v65 = q66 ∧ T = T) ∧ onB q66 fun b67=>gd b67 (∃ q68:AV,(∀ T:Store,Keep S T → callF Tryz.prog 142 [] T (fun _ _=>False) fun v69 S=>v69 = q68 ∧ S = T) ∧ ∃ q70:AV,(∀ T:Store,Keep S T → shift v2 4 T fun v71 S=>v71 = q70 ∧ S = T) ∧ ∃ q72:AV,(∀ T:Store,Keep S T → ld1 q70 T fun v73 S=>v73 = q72 ∧ S = T) ∧ ∃ q74:AV,(∀ T:Store,Keep S T → bin .add 0 v6 (.v (.int .i64 1)) T fun v75 S=>v75 = q74 ∧ S = T) ∧ ∃ q76:AV,(∀ T:Store,Keep S T → ixS 37 5 q72 q74 T fun v77 S=>v77 = q76 ∧ S = T) ∧ ∃ q78:AV,(∀ T:Store,Keep S T → ldN 5 q76 T fun v79 S=>v79 = q78 ∧ S = T) ∧ callF Tryz.prog 139 [x0,v28,q68,q78] S (fun _ _=>False) fun v80 S=>∃ q81:AV,(∀ T:Store,Keep S T → v80 = q81 ∧ T = T) ∧ Q (.ret q81) S) (∃ q82:AV,(∀ T:Store,Keep S T → (.v (.bool false)) = q82 ∧ T = T) ∧ Q (.ret q82) S)) (∃ q83:AV,(∀ T:Store,Keep S T → (.v (.bool false)) = q83 ∧ T = T) ∧ onB q83 fun b84=>gd b84 (∃ q85:AV,(∀ T:Store,Keep S T → callF Tryz.prog 142 [] T (fun _ _=>False) fun v86 S=>v86 = q85 ∧ S = T) ∧ ∃ q87:AV,(∀ T:Store,Keep S T → shift v2 4 T fun v88 S=>v88 = q87 ∧ S = T) ∧ ∃ q89:AV,(∀ T:Store,Keep S T → ld1 q87 T fun v90 S=>v90 = q89 ∧ S = T) ∧ ∃ q91:AV,(∀ T:Store,Keep S T → bin .add 0 v6 (.v (.int .i64 1)) T fun v92 S=>v92 = q91 ∧ S = T) ∧ ∃ q93:AV,(∀ T:Store,Keep S T → ixS 37 5 q89 q91 T fun v94 S=>v94 = q93 ∧ S = T) ∧ ∃ q95:AV,(∀ T:Store,Keep S T → ldN 5 q93 T fun v96 S=>v96 = q95 ∧ S = T) ∧ callF Tryz.prog 139 [x0,v28,q85,q95] S (fun _ _=>False) fun v97 S=>∃ q98:AV,(∀ T:Store,Keep S T → v97 = q98 ∧ T = T) ∧ Q (.ret q98) S) (∃ q99:AV,(∀ T:Store,Keep S T → (.v (.bool false)) = q99 ∧ T = T) ∧ Q (.ret q99) S))))))
theorem calls97 {x0 x1 x2:AV} {S:Store} {Q:PoT} (h:m97 x0 x1 x2 S Q):ACalls Tryz.prog 97 [x0,x1,x2] S Q :=
  calls_of_vc (fn:=Tryz.f97) (c:=c97) (n:=78) Tryz.func97 (by kernel_rfl) (by kernel_rfl) (by kernel_rfl) ms97 (Eq.mpr (by kernel_rfl) h)
noncomputable def c143:Code:=(Tryz.f143.body).getD .skip
noncomputable def r143:List ResultVar:=Tryz.f143.results.toList
def env143_0 (y0 y3 y8 y9 y10:AV):List AV:=[y0,y3,y8,y9,y10]
def lv143_0:List Nat:=[0,3,8,9,10]
def ms143:List (List Nat):=[lv143_0,[]]
def m143 (x0 x1:AV) (S:Store) (Q:PoT):Prop :=
  boxN 37 5 x1 S fun v1 S=>shift v1 3 S fun v2 S=>ld1 v2 S fun v3 S=>lenS v3 S fun v4 S=>loopV lv143_0 (vc Tryz.prog (c143.at_ [1,0,1,0,0]) (ms143.drop 1)) 43 (env143_0 x0 v1 v3 v4 (.v (.int .i64 0))) S (blockK 0 (seqK (vc Tryz.prog (c143.at_ [1,1]) (ms143.drop 1)) (bodyK Tryz.prog r143 Q)))
theorem calls143 {x0 x1:AV} {S:Store} {Q:PoT} (h:m143 x0 x1 S Q):ACalls Tryz.prog 143 [x0,x1] S Q :=
  calls_of_vc (fn:=Tryz.f143) (c:=c143) (n:=43) Tryz.func143 (by kernel_rfl) (by kernel_rfl) (by kernel_rfl) ms143 (Eq.mpr (by kernel_rfl) h)
def b143_0 (y0 y3 y8 y9 y10:AV) (S:Store) (KE0:KeT) (Q:PoT):Prop :=
  bin .lss 0 y10 y9 S fun v5 S=>onB v5 fun b6=>gd b6 (ixS 3 1 y8 y10 S fun v7 S=>ld1 v7 S fun v8 S=>bin .gtr 0 y10 (.v (.int .i64 0)) S fun v9 S=>onB v9 fun b10=>gd b10 (shift y3 3 S fun v11 S=>ld1 v11 S fun v12 S=>bin .sub 0 y10 (.v (.int .i64 1)) S fun v13 S=>ixS 3 1 v12 v13 S fun v14 S=>ld1 v14 S fun v15 S=>callF Tryz.prog 141 [y0,v15,v8] S Q fun v16 S=>un .not v16 S fun v17 S=>onB v17 fun b18=>gd b18 (Q (.ret (.v (.bool false))) S) (bin .add 0 y10 (.v (.int .i64 1)) S fun v19 S=>KE0 43 (env143_0 y0 y3 y8 y9 v19) S)) (bin .add 0 y10 (.v (.int .i64 1)) S fun v20 S=>KE0 43 (env143_0 y0 y3 y8 y9 v20) S)) ((fun S0:Store=>∃ q21:AV,(shift y3 3 S fun v22 S=>v22 = q21 ∧ S = S0) ∧ ∃ q23:AV,(ld1 q21 S fun v24 S=>v24 = q23 ∧ S = S0) ∧ ∃ q25:AV,(lenS q23 S fun v26 S=>v26 = q25 ∧ S = S0) ∧ ∃ q27:AV,(bin .gtr 0 q25 (.v (.int .i64 0)) S fun v28 S=>v28 = q27 ∧ S = S0) ∧ onB q27 fun b29=>gd b29 (∃ q30:AV,(shift y3 3 S fun v31 S=>v31 = q30 ∧ S = S0) ∧ ∃ q32:AV,(ld1 q30 S fun v33 S=>v33 = q32 ∧ S = S0) ∧ ∃ q34:AV,(ixS 3 1 q32 (.v (.int .i64 0)) S fun v35 S=>v35 = q34 ∧ S = S0) ∧ ∃ q36:AV,(ld1 q34 S fun v37 S=>v37 = q36 ∧ S = S0) ∧ ∃ q38:AV,(shift y3 1 S fun v39 S=>v39 = q38 ∧ S = S0) ∧ ∃ q40:AV,(ld1 q38 S fun v41 S=>v41 = q40 ∧ S = S0) ∧ ∃ q42:AV,(bin .eql 0 q36 q40 S fun v43 S=>v43 = q42 ∧ S = S0) ∧ ∃ q44:AV,(q42 = q44 ∧ S = S0) ∧ Q (.ret q44) S) (∃ q45:AV,((.v (.bool false)) = q45 ∧ S = S0) ∧ Q (.ret q45) S)) S)
theorem b143_0_eq (y0 y3 y8 y9 y10:AV) (S:Store) (KE0:KeT) (Q:PoT):vc Tryz.prog (c143.at_ [1,0,1,0,0]) (ms143.drop 1) (mkE 43 lv143_0 (env143_0 y0 y3 y8 y9 y10)) S (thenK (fgK lv143_0 KE0) (blockK 0 (seqK (vc Tryz.prog (c143.at_ [1,1]) (ms143.drop 1)) (bodyK Tryz.prog r143 Q)))) = b143_0 y0 y3 y8 y9 y10 S KE0 Q:=by kernel_rfl
theorem loop143_0 {y0 y3 y8 y9:AV} {y100:AV} {S:Store} {Q:PoT} (I:AV → Store → Prop) (μ:AV → Store → Nat) (h0:I y100 S)
    (hr:∀ (y10:AV) (S:Store),I y10 S → ∀ KE0:KeT,(∀ (y10':AV) (S':Store),I y10' S' → μ y10' S' < μ y10 S → KE0 43 (env143_0 y0 y3 y8 y9 y10') S') → b143_0 y0 y3 y8 y9 y10 S KE0 Q) :
    loopV lv143_0 (vc Tryz.prog (c143.at_ [1,0,1,0,0]) (ms143.drop 1)) 43 (env143_0 y0 y3 y8 y9 y100) S (blockK 0 (seqK (vc Tryz.prog (c143.at_ [1,1]) (ms143.drop 1)) (bodyK Tryz.prog r143 Q))):=by
  refine ⟨fun n e S=>n = 43 ∧ ∃ y10:AV,e = (env143_0 y0 y3 y8 y9 y10) ∧ I y10 S,fun _ e S=>μ (e.getD 4 .j) S,?_,?_⟩
  · exact ⟨_,_,Wk.refl _ _,rfl,_,rfl,h0⟩
  · rintro _ e S ⟨rfl,y10,rfl,hI⟩
    exact (b143_0_eq _ _ _ _ _ _ _ _).mpr (hr y10 S hI _ (fun y10' S' hI' hm=>⟨_,_,Wk.refl _ _,⟨rfl,_,rfl,hI'⟩,hm⟩))
noncomputable def c145:Code:=(Tryz.f145.body).getD .skip
noncomputable def r145:List ResultVar:=Tryz.f145.results.toList
def env145_0 (y0 y3 y6 y11 y12 y13:AV):List AV:=[y0,y3,y6,y11,y12,y13]
def lv145_0:List Nat:=[0,3,6,11,12,13]
def ms145:List (List Nat):=[lv145_0,[139]]
def m145 (x0 x1 x2 x3:AV) (S:Store) (Q:PoT):Prop :=
  boxN 24 4 x2 S fun v1 S=>lenS x1 S fun v2 S=>loopV lv145_0 (vc Tryz.prog (c145.at_ [1,0,1,0,0]) (ms145.drop 1)) 28 (env145_0 x0 x3 v1 x1 v2 (.v (.int .i64 0))) S (blockK 0 (seqK (vc Tryz.prog (c145.at_ [1,1]) (ms145.drop 1)) (bodyK Tryz.prog r145 Q)))
theorem calls145 {x0 x1 x2 x3:AV} {S:Store} {Q:PoT} (h:m145 x0 x1 x2 x3 S Q):ACalls Tryz.prog 145 [x0,x1,x2,x3] S Q :=
  calls_of_vc (fn:=Tryz.f145) (c:=c145) (n:=28) Tryz.func145 (by kernel_rfl) (by kernel_rfl) (by kernel_rfl) ms145 (Eq.mpr (by kernel_rfl) h)
def b145_0 (y0 y3 y6 y11 y12 y13:AV) (S:Store) (KE0:KeT) (Q:PoT):Prop :=
  bin .lss 0 y13 y12 S fun v3 S=>onB v3 fun b4=>gd b4 (ixS 3 1 y11 y13 S fun v5 S=>ld1 v5 S fun v6 S=>∃ q7:AV,(∀ T:Store,Keep S T → ldN 4 y6 T fun v8 S=>v8 = q7 ∧ S = T) ∧ ∃ q9:AV,(∀ T:Store,Keep S T → ixS 37 5 y3 y13 T fun v10 S=>v10 = q9 ∧ S = T) ∧ ∃ q11:AV,(∀ T:Store,Keep S T → ldN 5 q9 T fun v12 S=>v12 = q11 ∧ S = T) ∧ callF Tryz.prog 139 [y0,v6,q7,q11] S (fun _ _=>False) fun v13 S=>∃ q14:AV,(∀ T:Store,Keep S T → un .not v13 T fun v15 S=>v15 = q14 ∧ S = T) ∧ onB q14 fun b16=>gd b16 (Q (.ret (.v (.bool false))) S) (bin .add 0 y13 (.v (.int .i64 1)) S fun v17 S=>KE0 28 (env145_0 y0 y3 y6 y11 y12 v17) S)) (Q (.ret (.v (.bool true))) S)
theorem b145_0_eq (y0 y3 y6 y11 y12 y13:AV) (S:Store) (KE0:KeT) (Q:PoT):vc Tryz.prog (c145.at_ [1,0,1,0,0]) (ms145.drop 1) (mkE 28 lv145_0 (env145_0 y0 y3 y6 y11 y12 y13)) S (thenK (fgK lv145_0 KE0) (blockK 0 (seqK (vc Tryz.prog (c145.at_ [1,1]) (ms145.drop 1)) (bodyK Tryz.prog r145 Q)))) = b145_0 y0 y3 y6 y11 y12 y13 S KE0 Q:=by kernel_rfl
theorem loop145_0 {y0 y3 y6 y11 y12:AV} {y130:AV} {S:Store} {Q:PoT} (I:AV → Store → Prop) (μ:AV → Store → Nat) (h0:I y130 S)
    (hr:∀ (y13:AV) (S:Store),I y13 S → ∀ KE0:KeT,(∀ (y13':AV) (S':Store),I y13' S' → μ y13' S' < μ y13 S → KE0 28 (env145_0 y0 y3 y6 y11 y12 y13') S') → b145_0 y0 y3 y6 y11 y12 y13 S KE0 Q) :
    loopV lv145_0 (vc Tryz.prog (c145.at_ [1,0,1,0,0]) (ms145.drop 1)) 28 (env145_0 y0 y3 y6 y11 y12 y130) S (blockK 0 (seqK (vc Tryz.prog (c145.at_ [1,1]) (ms145.drop 1)) (bodyK Tryz.prog r145 Q))):=by
  refine ⟨fun n e S=>n = 28 ∧ ∃ y13:AV,e = (env145_0 y0 y3 y6 y11 y12 y13) ∧ I y13 S,fun _ e S=>μ (e.getD 5 .j) S,?_,?_⟩
  · exact ⟨_,_,Wk.refl _ _,rfl,_,rfl,h0⟩
  · rintro _ e S ⟨rfl,y13,rfl,hI⟩
    exact (b145_0_eq _ _ _ _ _ _ _ _ _).mpr (hr y13 S hI _ (fun y13' S' hI' hm=>⟨_,_,Wk.refl _ _,⟨rfl,_,rfl,hI'⟩,hm⟩))
noncomputable def c89:Code:=(Tryz.f89.body).getD .skip
def ms89:List (List Nat):=[[]]
def m89 (x0 x1 x2:AV) (S:Store) (Q:PoT):Prop :=
  boxN 24 4 x1 S fun v1 S=>boxN 37 5 x2 S fun v2 S=>ldN 5 v2 S fun v3 S=>callF Tryz.prog 136 [v3,(.v (.int .i64 1))] S Q fun v4 S=>Q (.ret v4) S
theorem calls89 {x0 x1 x2:AV} {S:Store} {Q:PoT} (h:m89 x0 x1 x2 S Q):ACalls Tryz.prog 89 [x0,x1,x2] S Q :=
  calls_of_vc (fn:=Tryz.f89) (c:=c89) (n:=9) Tryz.func89 (by kernel_rfl) (by kernel_rfl) (by kernel_rfl) ms89 (Eq.mpr (by kernel_rfl) h)
noncomputable def c90:Code:=(Tryz.f90.body).getD .skip
def ms90:List (List Nat):=[[]]
def m90 (x0 x1 x2:AV) (S:Store) (Q:PoT):Prop :=
  boxN 24 4 x1 S fun v1 S=>boxN 37 5 x2 S fun v2 S=>ldN 5 v2 S fun v3 S=>callF Tryz.prog 136 [v3,(.v (.int .i64 1))] S Q fun v4 S=>onB v4 fun b5=>gd b5 (shift v2 1 S fun v6 S=>ld1 v6 S fun v7 S=>shift v1 2 S fun v8 S=>ld1 v8 S fun v9 S=>callF Tryz.prog 137 [x0,v7,v9] S Q fun v10 S=>Q (.ret v10) S) (Q (.ret (.v (.bool false))) S)
theorem calls90 {x0 x1 x2:AV} {S:Store} {Q:PoT} (h:m90 x0 x1 x2 S Q):ACalls Tryz.prog 90 [x0,x1,x2] S Q :=
  calls_of_vc (fn:=Tryz.f90) (c:=c90) (n:=17) Tryz.func90 (by kernel_rfl) (by kernel_rfl) (by kernel_rfl) ms90 (Eq.mpr (by kernel_rfl) h)
noncomputable def c91:Code:=(Tryz.f91.body).getD .skip
def ms91:List (List Nat):=[[]]
def m91 (x0 x1 x2:AV) (S:Store) (Q:PoT):Prop :=
  boxN 24 4 x1 S fun v1 S=>boxN 37 5 x2 S fun v2 S=>(fun S0:Store=>∃ q3:AV,(ldN 5 v2 S fun v4 S=>v4 = q3 ∧ S = S0) ∧ ∃ q5:AV,(callF Tryz.prog 136 [q3,(.v (.int .i64 1))] S (fun _ _=>False) fun v6 S=>v6 = q5 ∧ S = S0) ∧ onB q5 fun b7=>gd b7 (∃ q8:AV,(shift v2 1 S fun v9 S=>v9 = q8 ∧ S = S0) ∧ ∃ q10:AV,(ld1 q8 S fun v11 S=>v11 = q10 ∧ S = S0) ∧ ∃ q12:AV,(shift v1 3 S fun v13 S=>v13 = q12 ∧ S = S0) ∧ ∃ q14:AV,(ld1 q12 S fun v15 S=>v15 = q14 ∧ S = S0) ∧ ∃ q16:AV,(ixS 24 4 q14 (.v (.int .i64 0)) S fun v17 S=>v17 = q16 ∧ S = S0) ∧ ∃ q18:AV,(shift q16 2 S fun v19 S=>v19 = q18 ∧ S = S0) ∧ ∃ q20:AV,(ld1 q18 S fun v21 S=>v21 = q20 ∧ S = S0) ∧ ∃ q22:AV,(callF Tryz.prog 137 [x0,q10,q20] S (fun _ _=>False) fun v23 S=>v23 = q22 ∧ S = S0) ∧ ∃ q24:AV,(un .not q22 S fun v25 S=>v25 = q24 ∧ S = S0) ∧ ∃ q26:AV,(q24 = q26 ∧ S = S0) ∧ Q (.ret q26) S) (∃ q27:AV,((.v (.bool false)) = q27 ∧ S = S0) ∧ Q (.ret q27) S)) S
theorem calls91 {x0 x1 x2:AV} {S:Store} {Q:PoT} (h:m91 x0 x1 x2 S Q):ACalls Tryz.prog 91 [x0,x1,x2] S Q :=
  calls_of_vc (fn:=Tryz.f91) (c:=c91) (n:=21) Tryz.func91 (by kernel_rfl) (by kernel_rfl) (by kernel_rfl) ms91 (Eq.mpr (by kernel_rfl) h)
noncomputable def c92:Code:=(Tryz.f92.body).getD .skip
def ms92:List (List Nat):=[[139]]
def m92 (x0 x1 x2:AV) (S:Store) (Q:PoT):Prop :=
  boxN 24 4 x1 S fun v1 S=>boxN 37 5 x2 S fun v2 S=>∃ q3:AV,(∀ T:Store,Keep S T → ldN 5 v2 T fun v4 S=>v4 = q3 ∧ S = T) ∧ ∃ q5:AV,(∀ T:Store,Keep S T → callF Tryz.prog 138 [q3,(.v (.int .i64 2))] T (fun _ _=>False) fun v6 S=>v6 = q5 ∧ S = T) ∧ onB q5 fun b7=>gd b7 (∃ q8:AV,(∀ T:Store,Keep S T → shift v2 4 T fun v9 S=>v9 = q8 ∧ S = T) ∧ ∃ q10:AV,(∀ T:Store,Keep S T → ld1 q8 T fun v11 S=>v11 = q10 ∧ S = T) ∧ ∃ q12:AV,(∀ T:Store,Keep S T → lenS q10 T fun v13 S=>v13 = q12 ∧ S = T) ∧ ∃ q14:AV,(∀ T:Store,Keep S T → bin .eql 0 q12 (.v (.int .i64 2)) T fun v15 S=>v15 = q14 ∧ S = T) ∧ ∃ q16:AV,(∀ T:Store,Keep S T → q14 = q16 ∧ T = T) ∧ onB q16 fun b17=>gd b17 (∃ q18:AV,(∀ T:Store,Keep S T → shift v2 1 T fun v19 S=>v19 = q18 ∧ S = T) ∧ ∃ q20:AV,(∀ T:Store,Keep S T → ld1 q18 T fun v21 S=>v21 = q20 ∧ S = T) ∧ ∃ q22:AV,(∀ T:Store,Keep S T → shift v1 3 T fun v23 S=>v23 = q22 ∧ S = T) ∧ ∃ q24:AV,(∀ T:Store,Keep S T → ld1 q22 T fun v25 S=>v25 = q24 ∧ S = T) ∧ ∃ q26:AV,(∀ T:Store,Keep S T → ixS 24 4 q24 (.v (.int .i64 0)) T fun v27 S=>v27 = q26 ∧ S = T) ∧ ∃ q28:AV,(∀ T:Store,Keep S T → ldN 4 q26 T fun v29 S=>v29 = q28 ∧ S = T) ∧ ∃ q30:AV,(∀ T:Store,Keep S T → shift v2 4 T fun v31 S=>v31 = q30 ∧ S = T) ∧ ∃ q32:AV,(∀ T:Store,Keep S T → ld1 q30 T fun v33 S=>v33 = q32 ∧ S = T) ∧ ∃ q34:AV,(∀ T:Store,Keep S T → ixS 37 5 q32 (.v (.int .i64 0)) T fun v35 S=>v35 = q34 ∧ S = T) ∧ ∃ q36:AV,(∀ T:Store,Keep S T → ldN 5 q34 T fun v37 S=>v37 = q36 ∧ S = T) ∧ callF Tryz.prog 139 [x0,q20,q28,q36] S (fun _ _=>False) fun v38 S=>∃ q39:AV,(∀ T:Store,Keep S T → v38 = q39 ∧ T = T) ∧ onB q39 fun b40=>gd b40 (∃ q41:AV,(∀ T:Store,Keep S T → shift v2 1 T fun v42 S=>v42 = q41 ∧ S = T) ∧ ∃ q43:AV,(∀ T:Store,Keep S T → ld1 q41 T fun v44 S=>v44 = q43 ∧ S = T) ∧ ∃ q45:AV,(∀ T:Store,Keep S T → shift v1 3 T fun v46 S=>v46 = q45 ∧ S = T) ∧ ∃ q47:AV,(∀ T:Store,Keep S T → ld1 q45 T fun v48 S=>v48 = q47 ∧ S = T) ∧ ∃ q49:AV,(∀ T:Store,Keep S T → ixS 24 4 q47 (.v (.int .i64 1)) T fun v50 S=>v50 = q49 ∧ S = T) ∧ ∃ q51:AV,(∀ T:Store,Keep S T → ldN 4 q49 T fun v52 S=>v52 = q51 ∧ S = T) ∧ ∃ q53:AV,(∀ T:Store,Keep S T → shift v2 4 T fun v54 S=>v54 = q53 ∧ S = T) ∧ ∃ q55:AV,(∀ T:Store,Keep S T → ld1 q53 T fun v56 S=>v56 = q55 ∧ S = T) ∧ ∃ q57:AV,(∀ T:Store,Keep S T → ixS 37 5 q55 (.v (.int .i64 1)) T fun v58 S=>v58 = q57 ∧ S = T) ∧ ∃ q59:AV,(∀ T:Store,Keep S T → ldN 5 q57 T fun v60 S=>v60 = q59 ∧ S = T) ∧ callF Tryz.prog 139 [x0,q43,q51,q59] S (fun _ _=>False) fun v61 S=>∃ q62:AV,(∀ T:Store,Keep S T → v61 = q62 ∧ T = T) ∧ Q (.ret q62) S) (∃ q63:AV,(∀ T:Store,Keep S T → (.v (.bool false)) = q63 ∧ T = T) ∧ Q (.ret q63) S)) (∃ q64:AV,(∀ T:Store,Keep S T → (.v (.bool false)) = q64 ∧ T = T) ∧ onB q64 fun b65=>gd b65 (∃ q66:AV,(∀ T:Store,Keep S T → shift v2 1 T fun v67 S=>v67 = q66 ∧ S = T) ∧ ∃ q68:AV,(∀ T:Store,Keep S T → ld1 q66 T fun v69 S=>v69 = q68 ∧ S = T) ∧ ∃ q70:AV,(∀ T:Store,Keep S T → shift v1 3 T fun v71 S=>v71 = q70 ∧ S = T) ∧ ∃ q72:AV,(∀ T:Store,Keep S T → ld1 q70 T fun v73 S=>v73 = q72 ∧ S = T) ∧ ∃ q74:AV,(∀ T:Store,Keep S T → ixS 24 4 q72 (.v (.int .i64 1)) T fun v75 S=>v75 = q74 ∧ S = T) ∧ ∃ q76:AV,(∀ T:Store,Keep S T → ldN 4 q74 T fun v77 S=>v77 = q76 ∧ S = T) ∧ ∃ q78:AV,(∀ T:Store,Keep S T → shift v2 4 T fun v79 S=>v79 = q78 ∧ S = T) ∧ ∃ q80:AV,(∀ T:Store,Keep S T → ld1 q78 T fun v81 S=>v81 = q80 ∧ S = T) ∧ ∃ q82:AV,(∀ T:Store,Keep S T → ixS 37 5 q80 (.v (.int .i64 1)) T fun v83 S=>v83 = q82 ∧ S = T) ∧ ∃ q84:AV,(∀ T:Store,Keep S T → ldN 5 q82 T fun v85 S=>v85 = q84 ∧ S = T) ∧ callF Tryz.prog 139 [x0,q68,q76,q84] S (fun _ _=>False) fun v86 S=>∃ q87:AV,(∀ T:Store,Keep S T → v86 = q87 ∧ T = T) ∧ Q (.ret q87) S) (∃ q88:AV,(∀ T:Store,Keep S T → (.v (.bool false)) = q88 ∧ T = T) ∧ Q (.ret q88) S))) (∃ q89:AV,(∀ T:Store,Keep S T → (.v (.bool false)) = q89 ∧ T = T) ∧ onB q89 fun b90=>gd b90 (∃ q91:AV,(∀ T:Store,Keep S T → shift v2 1 T fun v92 S=>v92 = q91 ∧ S = T) ∧ ∃ q93:AV,(∀ T:Store,Keep S T → ld1 q91 T fun v94 S=>v94 = q93 ∧ S = T) ∧ ∃ q95:AV,(∀ T:Store,Keep S T → shift v1 3 T fun v96 S=>v96 = q95 ∧ S = T) ∧ ∃ q97:AV,(∀ T:Store,Keep S T → ld1 q95 T fun v98 S=>v98 = q97 ∧ S = T) ∧ ∃ q99:AV,(∀ T:Store,Keep S T → ixS 24 4 q97 (.v (.int .i64 0)) T fun v100 S=>v100 = q99 ∧ S = T) ∧ ∃ q101:AV,(∀ T:Store,Keep S T → ldN 4 q99 T fun v102 S=>v102 = q101 ∧ S = T) ∧ ∃ q103:AV,(∀ T:Store,Keep S T → shift v2 4 T fun v104 S=>v104 = q103 ∧ S = T) ∧ ∃ q105:AV,(∀ T:Store,Keep S T → ld1 q103 T fun v106 S=>v106 = q105 ∧ S = T) ∧ ∃ q107:AV,(∀ T:Store,Keep S T → ixS 37 5 q105 (.v (.int .i64 0)) T fun v108 S=>v108 = q107 ∧ S = T) ∧ ∃ q109:AV,(∀ T:Store,Keep S T → ldN 5 q107 T fun v110 S=>v110 = q109 ∧ S = T) ∧ callF Tryz.prog 139 [x0,q93,q101,q109] S (fun _ _=>False) fun v111 S=>∃ q112:AV,(∀ T:Store,Keep S T → v111 = q112 ∧ T = T) ∧ onB q112 fun b113=>gd b113 (∃ q114:AV,(∀ T:Store,Keep S T → shift v2 1 T fun v115 S=>v115 = q114 ∧ S = T) ∧ ∃ q116:AV,(∀ T:Store,Keep S T → ld1 q114 T fun v117 S=>v117 = q116 ∧ S = T) ∧ ∃ q118:AV,(∀ T:Store,Keep S T → shift v1 3 T fun v119 S=>v119 = q118 ∧ S = T) ∧ ∃ q120:AV,(∀ T:Store,Keep S T → ld1 q118 T fun v121 S=>v121 = q120 ∧ S = T) ∧ ∃ q122:AV,(∀ T:Store,Keep S T → ixS 24 4 q120 (.v (.int .i64 1)) T fun v123 S=>v123 = q122 ∧ S = T) ∧ ∃ q124:AV,(∀ T:Store,Keep S T → ldN 4 q122 T fun v125 S=>v125 = q124 ∧ S = T) ∧ ∃ q126:AV,(∀ T:Store,Keep S T → shift v2 4 T fun v127 S=>v127 = q126 ∧ S = T) ∧ ∃ q128:AV,(∀ T:Store,Keep S T → ld1 q126 T fun v129 S=>v129 = q128 ∧ S = T) ∧ ∃ q130:AV,(∀ T:Store,Keep S T → ixS 37 5 q128 (.v (.int .i64 1)) T fun v131 S=>v131 = q130 ∧ S = T) ∧ ∃ q132:AV,(∀ T:Store,Keep S T → ldN 5 q130 T fun v133 S=>v133 = q132 ∧ S = T) ∧ callF Tryz.prog 139 [x0,q116,q124,q132] S (fun _ _=>False) fun v134 S=>∃ q135:AV,(∀ T:Store,Keep S T → v134 = q135 ∧ T = T) ∧ Q (.ret q135) S) (∃ q136:AV,(∀ T:Store,Keep S T → (.v (.bool false)) = q136 ∧ T = T) ∧ Q (.ret q136) S)) (∃ q137:AV,(∀ T:Store,Keep S T → (.v (.bool false)) = q137 ∧ T = T) ∧ onB q137 fun b138=>gd b138 (∃ q139:AV,(∀ T:Store,Keep S T → shift v2 1 T fun v140 S=>v140 = q139 ∧ S = T) ∧ ∃ q141:AV,(∀ T:Store,Keep S T → ld1 q139 T fun v142 S=>v142 = q141 ∧ S = T) ∧ ∃ q143:AV,(∀ T:Store,Keep S T → shift v1 3 T fun v144 S=>v144 = q143 ∧ S = T) ∧ ∃ q145:AV,(∀ T:Store,Keep S T → ld1 q143 T fun v146 S=>v146 = q145 ∧ S = T) ∧ ∃ q147:AV,(∀ T:Store,Keep S T → ixS 24 4 q145 (.v (.int .i64 1)) T fun v148 S=>v148 = q147 ∧ S = T) ∧ ∃ q149:AV,(∀ T:Store,Keep S T → ldN 4 q147 T fun v150 S=>v150 = q149 ∧ S = T) ∧ ∃ q151:AV,(∀ T:Store,Keep S T → shift v2 4 T fun v152 S=>v152 = q151 ∧ S = T) ∧ ∃ q153:AV,(∀ T:Store,Keep S T → ld1 q151 T fun v154 S=>v154 = q153 ∧ S = T) ∧ ∃ q155:AV,(∀ T:Store,Keep S T → ixS 37 5 q153 (.v (.int .i64 1)) T fun v156 S=>v156 = q155 ∧ S = T) ∧ ∃ q157:AV,(∀ T:Store,Keep S T → ldN 5 q155 T fun v158 S=>v158 = q157 ∧ S = T) ∧ callF Tryz.prog 139 [x0,q141,q149,q157] S (fun _ _=>False) fun v159 S=>∃ q160:AV,(∀ T:Store,Keep S T → v159 = q160 ∧ T = T) ∧ Q (.ret q160) S) (∃ q161:AV,(∀ T:Store,Keep S T → (.v (.bool false)) = q161 ∧ T = T) ∧ Q (.ret q161) S)))
theorem calls92 {x0 x1 x2:AV} {S:Store} {Q:PoT} (h:m92 x0 x1 x2 S Q):ACalls Tryz.prog 92 [x0,x1,x2] S Q :=
  calls_of_vc (fn:=Tryz.f92) (c:=c92) (n:=43) Tryz.func92 (by kernel_rfl) (by kernel_rfl) (by kernel_rfl) ms92 (Eq.mpr (by kernel_rfl) h)
noncomputable def c140:Code:=(Tryz.f140.body).getD .skip
def ms140:List (List Nat):=[[139]]
def m140 (x0 x1 x2:AV) (S:Store) (Q:PoT):Prop :=
  boxN 37 5 x1 S fun v1 S=>shift v1 0 S fun v2 S=>ld1 v2 S fun v3 S=>bin .neq 0 v3 (.v (.int .i64 3)) S fun v4 S=>onB v4 fun b5=>gd b5 (Q (.ret (.v (.bool false))) S) (shift v1 2 S fun v6 S=>ld1 v6 S fun v7 S=>bin .lss 0 v7 (.v (.int .i64 0)) S fun v8 S=>onB v8 fun b9=>gd b9 (Q (.ret (.v (.bool false))) S) (shift v1 2 S fun v10 S=>ld1 v10 S fun v11 S=>bin .gtr 0 v11 (.v (.int .i64 1)) S fun v12 S=>onB v12 fun b13=>gd b13 (Q (.ret (.v (.bool false))) S) (shift v1 3 S fun v14 S=>ld1 v14 S fun v15 S=>lenS v15 S fun v16 S=>bin .gtr 0 v16 (.v (.int .i64 0)) S fun v17 S=>onB v17 fun b18=>gd b18 (Q (.ret (.v (.bool false))) S) (shift v1 4 S fun v19 S=>ld1 v19 S fun v20 S=>lenS v20 S fun v21 S=>bin .neq 0 v21 (.v (.int .i64 1)) S fun v22 S=>onB v22 fun b23=>gd b23 (Q (.ret (.v (.bool false))) S) (∃ q24:AV,(∀ T:Store,Keep S T → shift v1 1 T fun v25 S=>v25 = q24 ∧ S = T) ∧ ∃ q26:AV,(∀ T:Store,Keep S T → ld1 q24 T fun v27 S=>v27 = q26 ∧ S = T) ∧ ∃ q28:AV,(∀ T:Store,Keep S T → shift v1 2 T fun v29 S=>v29 = q28 ∧ S = T) ∧ ∃ q30:AV,(∀ T:Store,Keep S T → ld1 q28 T fun v31 S=>v31 = q30 ∧ S = T) ∧ ∃ q32:AV,(∀ T:Store,Keep S T → ixS 24 4 x2 q30 T fun v33 S=>v33 = q32 ∧ S = T) ∧ ∃ q34:AV,(∀ T:Store,Keep S T → ldN 4 q32 T fun v35 S=>v35 = q34 ∧ S = T) ∧ ∃ q36:AV,(∀ T:Store,Keep S T → shift v1 4 T fun v37 S=>v37 = q36 ∧ S = T) ∧ ∃ q38:AV,(∀ T:Store,Keep S T → ld1 q36 T fun v39 S=>v39 = q38 ∧ S = T) ∧ ∃ q40:AV,(∀ T:Store,Keep S T → ixS 37 5 q38 (.v (.int .i64 0)) T fun v41 S=>v41 = q40 ∧ S = T) ∧ ∃ q42:AV,(∀ T:Store,Keep S T → ldN 5 q40 T fun v43 S=>v43 = q42 ∧ S = T) ∧ callF Tryz.prog 139 [x0,q26,q34,q42] S (fun _ _=>False) fun v44 S=>Q (.ret v44) S)))))
theorem calls140 {x0 x1 x2:AV} {S:Store} {Q:PoT} (h:m140 x0 x1 x2 S Q):ACalls Tryz.prog 140 [x0,x1,x2] S Q :=
  calls_of_vc (fn:=Tryz.f140) (c:=c140) (n:=45) Tryz.func140 (by kernel_rfl) (by kernel_rfl) (by kernel_rfl) ms140 (Eq.mpr (by kernel_rfl) h)
noncomputable def c93:Code:=(Tryz.f93.body).getD .skip
def ms93:List (List Nat):=[[140]]
def m93 (x0 x1 x2:AV) (S:Store) (Q:PoT):Prop :=
  boxN 24 4 x1 S fun v1 S=>boxN 37 5 x2 S fun v2 S=>ldN 5 v2 S fun v3 S=>shift v1 3 S fun v4 S=>ld1 v4 S fun v5 S=>callF Tryz.prog 140 [x0,v3,v5] S Q fun v6 S=>Q (.ret v6) S
theorem calls93 {x0 x1 x2:AV} {S:Store} {Q:PoT} (h:m93 x0 x1 x2 S Q):ACalls Tryz.prog 93 [x0,x1,x2] S Q :=
  calls_of_vc (fn:=Tryz.f93) (c:=c93) (n:=12) Tryz.func93 (by kernel_rfl) (by kernel_rfl) (by kernel_rfl) ms93 (Eq.mpr (by kernel_rfl) h)
noncomputable def c139:Code:=(Tryz.f139.body).getD .skip
def ms139:List (List Nat):=[[54]]
def m139 (x0 x1 x2 x3:AV) (S:Store) (Q:PoT):Prop :=
  boxN 24 4 x2 S fun v1 S=>boxN 37 5 x3 S fun v2 S=>shift v2 1 S fun v3 S=>ld1 v3 S fun v4 S=>bin .eql 0 v4 x1 S fun v5 S=>onB v5 fun b6=>gd b6 (ldN 4 v1 S fun v7 S=>ldN 5 v2 S fun v8 S=>callF Tryz.prog 54 [x0,v7,v8] S Q fun v9 S=>Q (.ret v9) S) (Q (.ret (.v (.bool false))) S)
theorem calls139 {x0 x1 x2 x3:AV} {S:Store} {Q:PoT} (h:m139 x0 x1 x2 x3 S Q):ACalls Tryz.prog 139 [x0,x1,x2,x3] S Q :=
  calls_of_vc (fn:=Tryz.f139) (c:=c139) (n:=19) Tryz.func139 (by kernel_rfl) (by kernel_rfl) (by kernel_rfl) ms139 (Eq.mpr (by kernel_rfl) h)
noncomputable def c137:Code:=(Tryz.f137.body).getD .skip
def ms137:List (List Nat):=[[]]
def m137 (x0 x1 x2:AV) (S:Store) (Q:PoT):Prop :=
  nilChk x0 S fun v1 S=>shift v1 0 S fun v2 S=>ldN 8 v2 S fun v3 S=>callF Tryz.prog 171 [v3,x1,x2] S Q fun v4 S=>Q (.ret v4) S
theorem calls137 {x0 x1 x2:AV} {S:Store} {Q:PoT} (h:m137 x0 x1 x2 S Q):ACalls Tryz.prog 137 [x0,x1,x2] S Q :=
  calls_of_vc (fn:=Tryz.f137) (c:=c137) (n:=14) Tryz.func137 (by kernel_rfl) (by kernel_rfl) (by kernel_rfl) ms137 (Eq.mpr (by kernel_rfl) h)
noncomputable def c146:Code:=(Tryz.f146.body).getD .skip
def ms146:List (List Nat):=[[]]
def m146 (x0 x1 x2:AV) (S:Store) (Q:PoT):Prop :=
  ld1 x1 S fun v1 S=>ld1 x2 S fun v2 S=>callF Tryz.prog 137 [v1,v2,x0] S Q fun v3 S=>un .not v3 S fun v4 S=>Q (.ret v4) S
theorem calls146 {x0 x1 x2:AV} {S:Store} {Q:PoT} (h:m146 x0 x1 x2 S Q):ACalls Tryz.prog 146 [x0,x1,x2] S Q :=
  calls_of_vc (fn:=Tryz.f146) (c:=c146) (n:=10) Tryz.func146 (by kernel_rfl) (by kernel_rfl) (by kernel_rfl) ms146 (Eq.mpr (by kernel_rfl) h)
noncomputable def c100:Code:=(Tryz.f100.body).getD .skip
def ms100:List (List Nat):=[[]]
def m100 (x0 x1:AV) (S:Store) (Q:PoT):Prop :=
  boxN 96 1 x0 S fun v1 S=>boxN 3 1 x1 S fun v2 S=>(fun S0:Store=>∃ q3:AV,(ld1 v1 S fun v4 S=>v4 = q3 ∧ S = S0) ∧ ∃ q5:AV,(nilChk q3 S fun v6 S=>v6 = q5 ∧ S = S0) ∧ ∃ q7:AV,(shift q5 0 S fun v8 S=>v8 = q7 ∧ S = S0) ∧ ∃ q9:AV,(shift q7 0 S fun v10 S=>v10 = q9 ∧ S = S0) ∧ ∃ q11:AV,(ld1 q9 S fun v12 S=>v12 = q11 ∧ S = S0) ∧ ∃ q13:AV,(ld1 v1 S fun v14 S=>v14 = q13 ∧ S = S0) ∧ ∃ q15:AV,(nilChk q13 S fun v16 S=>v16 = q15 ∧ S = S0) ∧ ∃ q17:AV,(shift q15 0 S fun v18 S=>v18 = q17 ∧ S = S0) ∧ ∃ q19:AV,(shift q17 1 S fun v20 S=>v20 = q19 ∧ S = S0) ∧ ∃ q21:AV,(ld1 q19 S fun v22 S=>v22 = q21 ∧ S = S0) ∧ ∃ q23:AV,(lenS q21 S fun v24 S=>v24 = q23 ∧ S = S0) ∧ ∃ q25:AV,(bin .add 0 q11 q23 S fun v26 S=>v26 = q25 ∧ S = S0) ∧ (fun S0:Store=>∃ q27:AV,(ld1 v2 S fun v28 S=>v28 = q27 ∧ S = S0) ∧ ∃ q29:AV,(bin .geq 0 q27 (.v (.int .i64 0)) S fun v30 S=>v30 = q29 ∧ S = S0) ∧ onB q29 fun b31=>gd b31 (∃ q32:AV,(ld1 v2 S fun v33 S=>v33 = q32 ∧ S = S0) ∧ ∃ q34:AV,(bin .shl 0 (.v (.int .i64 1)) q25 S fun v35 S=>v35 = q34 ∧ S = S0) ∧ ∃ q36:AV,(bin .lss 0 q32 q34 S fun v37 S=>v37 = q36 ∧ S = S0) ∧ ∃ q38:AV,(q36 = q38 ∧ S = S0) ∧ onB q38 fun b39=>gd b39 (∃ q40:AV,(ld1 v1 S fun v41 S=>v41 = q40 ∧ S = S0) ∧ ∃ q42:AV,(nilChk q40 S fun v43 S=>v43 = q42 ∧ S = S0) ∧ ∃ q44:AV,(shift q42 0 S fun v45 S=>v45 = q44 ∧ S = S0) ∧ ∃ q46:AV,(shift q44 5 S fun v47 S=>v47 = q46 ∧ S = S0) ∧ ∃ q48:AV,(ld1 q46 S fun v49 S=>v49 = q48 ∧ S = S0) ∧ ∃ q50:AV,((.f (.func 146) [] [v1,v2]) = q50 ∧ S = S0) ∧ ∃ q51:AV,(callF Tryz.prog 132 [q48,q50] S (fun _ _=>False) fun v52 S=>v52 = q51 ∧ S = S0) ∧ ∃ q53:AV,(un .not q51 S fun v54 S=>v54 = q53 ∧ S = S0) ∧ ∃ q55:AV,(q53 = q55 ∧ S = S0) ∧ Q (.ret q55) S) (∃ q56:AV,((.v (.bool false)) = q56 ∧ S = S0) ∧ Q (.ret q56) S)) (∃ q57:AV,((.v (.bool false)) = q57 ∧ S = S0) ∧ onB q57 fun b58=>gd b58 (∃ q59:AV,(ld1 v1 S fun v60 S=>v60 = q59 ∧ S = S0) ∧ ∃ q61:AV,(nilChk q59 S fun v62 S=>v62 = q61 ∧ S = S0) ∧ ∃ q63:AV,(shift q61 0 S fun v64 S=>v64 = q63 ∧ S = S0) ∧ ∃ q65:AV,(shift q63 5 S fun v66 S=>v66 = q65 ∧ S = S0) ∧ ∃ q67:AV,(ld1 q65 S fun v68 S=>v68 = q67 ∧ S = S0) ∧ ∃ q69:AV,((.f (.func 146) [] [v1,v2]) = q69 ∧ S = S0) ∧ ∃ q70:AV,(callF Tryz.prog 132 [q67,q69] S (fun _ _=>False) fun v71 S=>v71 = q70 ∧ S = S0) ∧ ∃ q72:AV,(un .not q70 S fun v73 S=>v73 = q72 ∧ S = S0) ∧ ∃ q74:AV,(q72 = q74 ∧ S = S0) ∧ Q (.ret q74) S) (∃ q75:AV,((.v (.bool false)) = q75 ∧ S = S0) ∧ Q (.ret q75) S))) S) S
theorem calls100 {x0 x1:AV} {S:Store} {Q:PoT} (h:m100 x0 x1 S Q):ACalls Tryz.prog 100 [x0,x1] S Q :=
  calls_of_vc (fn:=Tryz.f100) (c:=c100) (n:=36) Tryz.func100 (by kernel_rfl) (by kernel_rfl) (by kernel_rfl) ms100 (Eq.mpr (by kernel_rfl) h)
noncomputable def c141:Code:=(Tryz.f141.body).getD .skip
def ms141:List (List Nat):=[[]]
def m141 (x0 x1 x2:AV) (S:Store) (Q:PoT):Prop :=
  (fun S0:Store=>∃ q1:AV,(callF Tryz.prog 100 [x0,x1] S (fun _ _=>False) fun v2 S=>v2 = q1 ∧ S = S0) ∧ onB q1 fun b3=>gd b3 (∃ q4:AV,(callF Tryz.prog 100 [x0,x2] S (fun _ _=>False) fun v5 S=>v5 = q4 ∧ S = S0) ∧ ∃ q6:AV,(q4 = q6 ∧ S = S0) ∧ onB q6 fun b7=>gd b7 (∃ q8:AV,(nilChk x0 S fun v9 S=>v9 = q8 ∧ S = S0) ∧ ∃ q10:AV,(shift q8 0 S fun v11 S=>v11 = q10 ∧ S = S0) ∧ ∃ q12:AV,(ldN 8 q10 S fun v13 S=>v13 = q12 ∧ S = S0) ∧ ∃ q14:AV,(callF Tryz.prog 172 [q12,x1] S (fun _ _=>False) fun v15 S=>v15 = q14 ∧ S = S0) ∧ ∃ q16:AV,(nilChk x0 S fun v17 S=>v17 = q16 ∧ S = S0) ∧ ∃ q18:AV,(shift q16 0 S fun v19 S=>v19 = q18 ∧ S = S0) ∧ ∃ q20:AV,(shift q18 0 S fun v21 S=>v21 = q20 ∧ S = S0) ∧ ∃ q22:AV,(ld1 q20 S fun v23 S=>v23 = q22 ∧ S = S0) ∧ ∃ q24:AV,(bin .shr 0 q14 q22 S fun v25 S=>v25 = q24 ∧ S = S0) ∧ ∃ q26:AV,(nilChk x0 S fun v27 S=>v27 = q26 ∧ S = S0) ∧ ∃ q28:AV,(shift q26 0 S fun v29 S=>v29 = q28 ∧ S = S0) ∧ ∃ q30:AV,(shift q28 0 S fun v31 S=>v31 = q30 ∧ S = S0) ∧ ∃ q32:AV,(ld1 q30 S fun v33 S=>v33 = q32 ∧ S = S0) ∧ ∃ q34:AV,(bin .shr 0 x2 q32 S fun v35 S=>v35 = q34 ∧ S = S0) ∧ ∃ q36:AV,(bin .eql 0 q24 q34 S fun v37 S=>v37 = q36 ∧ S = S0) ∧ ∃ q38:AV,(q36 = q38 ∧ S = S0) ∧ Q (.ret q38) S) (∃ q39:AV,((.v (.bool false)) = q39 ∧ S = S0) ∧ Q (.ret q39) S)) (∃ q40:AV,((.v (.bool false)) = q40 ∧ S = S0) ∧ onB q40 fun b41=>gd b41 (∃ q42:AV,(nilChk x0 S fun v43 S=>v43 = q42 ∧ S = S0) ∧ ∃ q44:AV,(shift q42 0 S fun v45 S=>v45 = q44 ∧ S = S0) ∧ ∃ q46:AV,(ldN 8 q44 S fun v47 S=>v47 = q46 ∧ S = S0) ∧ ∃ q48:AV,(callF Tryz.prog 172 [q46,x1] S (fun _ _=>False) fun v49 S=>v49 = q48 ∧ S = S0) ∧ ∃ q50:AV,(nilChk x0 S fun v51 S=>v51 = q50 ∧ S = S0) ∧ ∃ q52:AV,(shift q50 0 S fun v53 S=>v53 = q52 ∧ S = S0) ∧ ∃ q54:AV,(shift q52 0 S fun v55 S=>v55 = q54 ∧ S = S0) ∧ ∃ q56:AV,(ld1 q54 S fun v57 S=>v57 = q56 ∧ S = S0) ∧ ∃ q58:AV,(bin .shr 0 q48 q56 S fun v59 S=>v59 = q58 ∧ S = S0) ∧ ∃ q60:AV,(nilChk x0 S fun v61 S=>v61 = q60 ∧ S = S0) ∧ ∃ q62:AV,(shift q60 0 S fun v63 S=>v63 = q62 ∧ S = S0) ∧ ∃ q64:AV,(shift q62 0 S fun v65 S=>v65 = q64 ∧ S = S0) ∧ ∃ q66:AV,(ld1 q64 S fun v67 S=>v67 = q66 ∧ S = S0) ∧ ∃ q68:AV,(bin .shr 0 x2 q66 S fun v69 S=>v69 = q68 ∧ S = S0) ∧ ∃ q70:AV,(bin .eql 0 q58 q68 S fun v71 S=>v71 = q70 ∧ S = S0) ∧ ∃ q72:AV,(q70 = q72 ∧ S = S0) ∧ Q (.ret q72) S) (∃ q73:AV,((.v (.bool false)) = q73 ∧ S = S0) ∧ Q (.ret q73) S))) S
theorem calls141 {x0 x1 x2:AV} {S:Store} {Q:PoT} (h:m141 x0 x1 x2 S Q):ACalls Tryz.prog 141 [x0,x1,x2] S Q :=
  calls_of_vc (fn:=Tryz.f141) (c:=c141) (n:=37) Tryz.func141 (by kernel_rfl) (by kernel_rfl) (by kernel_rfl) ms141 (Eq.mpr (by kernel_rfl) h)
noncomputable def c138:Code:=(Tryz.f138.body).getD .skip
def ms138:List (List Nat):=[[]]
def m138 (x0 x1:AV) (S:Store) (Q:PoT):Prop :=
  boxN 37 5 x0 S fun v1 S=>shift v1 0 S fun v2 S=>ld1 v2 S fun v3 S=>bin .eql 0 v3 x1 S fun v4 S=>onB v4 fun b5=>gd b5 (shift v1 2 S fun v6 S=>ld1 v6 S fun v7 S=>bin .eql 0 v7 (.v (.int .i64 0)) S fun v8 S=>onB v8 fun b9=>gd b9 (shift v1 3 S fun v10 S=>ld1 v10 S fun v11 S=>lenS v11 S fun v12 S=>bin .eql 0 v12 (.v (.int .i64 0)) S fun v13 S=>Q (.ret v13) S) (Q (.ret (.v (.bool false))) S)) (Q (.ret (.v (.bool false))) S)
theorem calls138 {x0 x1:AV} {S:Store} {Q:PoT} (h:m138 x0 x1 S Q):ACalls Tryz.prog 138 [x0,x1] S Q :=
  calls_of_vc (fn:=Tryz.f138) (c:=c138) (n:=20) Tryz.func138 (by kernel_rfl) (by kernel_rfl) (by kernel_rfl) ms138 (Eq.mpr (by kernel_rfl) h)
noncomputable def c136:Code:=(Tryz.f136.body).getD .skip
def ms136:List (List Nat):=[[]]
def m136 (x0 x1:AV) (S:Store) (Q:PoT):Prop :=
  boxN 37 5 x0 S fun v1 S=>ldN 5 v1 S fun v2 S=>callF Tryz.prog 138 [v2,x1] S Q fun v3 S=>onB v3 fun b4=>gd b4 (shift v1 4 S fun v5 S=>ld1 v5 S fun v6 S=>lenS v6 S fun v7 S=>bin .eql 0 v7 (.v (.int .i64 0)) S fun v8 S=>Q (.ret v8) S) (Q (.ret (.v (.bool false))) S)
theorem calls136 {x0 x1:AV} {S:Store} {Q:PoT} (h:m136 x0 x1 S Q):ACalls Tryz.prog 136 [x0,x1] S Q :=
  calls_of_vc (fn:=Tryz.f136) (c:=c136) (n:=14) Tryz.func136 (by kernel_rfl) (by kernel_rfl) (by kernel_rfl) ms136 (Eq.mpr (by kernel_rfl) h)
noncomputable def c142:Code:=(Tryz.f142.body).getD .skip
def ms142:List (List Nat):=[[]]
def m142 (S:Store) (Q:PoT):Prop :=
  boxN 24 4 (.a [(.v (.int .i64 0)),(.v (.string ByteArray.empty)),(.v (.int .i64 0)),.nl]) S fun v1 S=>bld [(0,1),(1,1),(2,1),(3,1)] [(.v (.int .i64 0)),(.v (.string ByteArray.empty)),(.v (.int .i64 0)),.nl] [(0,(.v (.int .i64 2)))] S fun v2 S=>bslN 24 4 1 [(.v (.int .i64 0)),(.v (.string ByteArray.empty)),(.v (.int .i64 0)),.nl] [(0,v2)] S fun v3 S=>callF Tryz.prog 74 [(.v (.int .i64 13)),v3] S Q fun v4 S=>stN 4 v1 v4 S fun v5 S=>ldN 4 v1 S fun v6 _=>Q (.ret v6) S
theorem calls142 {S:Store} {Q:PoT} (h:m142  S Q):ACalls Tryz.prog 142 [] S Q :=
  calls_of_vc (fn:=Tryz.f142) (c:=c142) (n:=4) Tryz.func142 (by kernel_rfl) (by kernel_rfl) (by kernel_rfl) ms142 (Eq.mpr (by kernel_rfl) h)
noncomputable def c21:Code:=(Tryz.f21.body).getD .skip
def ms21:List (List Nat):=[[]]
def m21 (x0:AV) (S:Store) (Q:PoT):Prop :=
  boxN 24 4 x0 S fun v1 S=>boxN 24 4 (.a [(.v (.int .i64 0)),(.v (.string ByteArray.empty)),(.v (.int .i64 0)),.nl]) S fun v2 S=>ldN 4 v1 S fun v3 S=>callF Tryz.prog 43 [v3,(.v (.int .i64 60))] S Q fun v4 S=>un .not v4 S fun v5 S=>onB v5 fun b6=>gd b6 (bld [(0,1),(1,1),(2,1),(3,1)] [(.v (.int .i64 0)),(.v (.string ByteArray.empty)),(.v (.int .i64 0)),.nl] [] S fun v7 S=>stN 4 v2 v7 S fun v8 S=>ldN 4 v2 S fun v9 _=>Q (.ret v9) S) (∃ q10:AV,(∀ T:Store,Keep S T → ldN 4 v1 T fun v11 S=>v11 = q10 ∧ S = T) ∧ ∃ q12:AV,(∀ T:Store,Keep S T → callF Tryz.prog 45 [] T (fun _ _=>False) fun v13 S=>v13 = q12 ∧ S = T) ∧ ∃ q14:AV,(∀ T:Store,Keep S T → callF Tryz.prog 44 [q10,(.v (.bool false)),q12] T (fun _ _=>False) fun v15 S=>v15 = q14 ∧ S = T) ∧ stN 4 v2 q14 S fun v16 S=>ldN 4 v2 S fun v17 _=>Q (.ret v17) S)
theorem calls21 {x0:AV} {S:Store} {Q:PoT} (h:m21 x0 S Q):ACalls Tryz.prog 21 [x0] S Q :=
  calls_of_vc (fn:=Tryz.f21) (c:=c21) (n:=10) Tryz.func21 (by kernel_rfl) (by kernel_rfl) (by kernel_rfl) ms21 (Eq.mpr (by kernel_rfl) h)
noncomputable def c44:Code:=(Tryz.f44.body).getD .skip
noncomputable def r44:List ResultVar:=Tryz.f44.results.toList
def env44_0 (y1 y6 y7 y8 y71 y72:AV):List AV:=[y1,y6,y7,y8,y71,y72]
def lv44_0:List Nat:=[1,6,7,8,71,72]
def ms44:List (List Nat):=[lv44_0,[]]
def m44 (x0 x1 x2:AV) (S:Store) (Q:PoT):Prop :=
  boxN 24 4 x0 S fun v1 S=>boxN 87 1 x2 S fun v2 S=>boxN 24 4 (.a [(.v (.int .i64 0)),(.v (.string ByteArray.empty)),(.v (.int .i64 0)),.nl]) S fun v3 S=>shift v1 0 S fun v4 S=>ld1 v4 S fun v5 S=>bin .eql 0 v5 (.v (.int .i64 3)) S fun v6 S=>onB v6 fun b7=>gd b7 (onB x1 fun b8=>gd b8 (ldN 4 v1 S fun v9 S=>bslN 24 4 1 [(.v (.int .i64 0)),(.v (.string ByteArray.empty)),(.v (.int .i64 0)),.nl] [(0,v9)] S fun v10 S=>callF Tryz.prog 74 [(.v (.int .i64 4)),v10] S Q fun v11 S=>stN 4 v3 v11 S fun v12 S=>ldN 4 v3 S fun v13 _=>Q (.ret v13) S) (ldN 4 v1 S fun v14 S=>stN 4 v3 v14 S fun v15 S=>ldN 4 v3 S fun v16 _=>Q (.ret v16) S)) (bin .eql 0 v5 (.v (.int .i64 4)) S fun v17 S=>onB v17 fun b18=>gd b18 (un .not x1 S fun v19 S=>callV Tryz.prog (.f (.func 73) [] [v1,v2]) [(.v (.int .i64 0)),v19] S (fun v20 S=>stN 4 v3 v20 S fun v21 S=>ldN 4 v3 S fun v22 _=>Q (.ret v22) S) (fun u S=>Q (.pan u) S)) (bin .eql 0 v5 (.v (.int .i64 7)) S fun v23 S=>onB v23 fun b24=>gd b24 (onB x1 fun b25=>gd b25 (callV Tryz.prog (.f (.func 73) [] [v1,v2]) [(.v (.int .i64 0)),(.v (.bool false))] S (fun v26 S=>callV Tryz.prog (.f (.func 73) [] [v1,v2]) [(.v (.int .i64 1)),(.v (.bool true))] S (fun v27 S=>bslN 24 4 2 [(.v (.int .i64 0)),(.v (.string ByteArray.empty)),(.v (.int .i64 0)),.nl] [(0,v26),(1,v27)] S fun v28 S=>callF Tryz.prog 74 [(.v (.int .i64 5)),v28] S Q fun v29 S=>stN 4 v3 v29 S fun v30 S=>ldN 4 v3 S fun v31 _=>Q (.ret v31) S) (fun u S=>Q (.pan u) S)) (fun u S=>Q (.pan u) S)) (callV Tryz.prog (.f (.func 73) [] [v1,v2]) [(.v (.int .i64 0)),(.v (.bool true))] S (fun v32 S=>callV Tryz.prog (.f (.func 73) [] [v1,v2]) [(.v (.int .i64 1)),(.v (.bool false))] S (fun v33 S=>bslN 24 4 2 [(.v (.int .i64 0)),(.v (.string ByteArray.empty)),(.v (.int .i64 0)),.nl] [(0,v32),(1,v33)] S fun v34 S=>callF Tryz.prog 74 [(.v (.int .i64 6)),v34] S Q fun v35 S=>stN 4 v3 v35 S fun v36 S=>ldN 4 v3 S fun v37 _=>Q (.ret v37) S) (fun u S=>Q (.pan u) S)) (fun u S=>Q (.pan u) S))) (bin .eql 0 v5 (.v (.int .i64 8)) S fun v38 S=>onB v38 fun b39=>gd b39 (callV Tryz.prog (.f (.func 73) [] [v1,v2]) [(.v (.int .i64 0)),(.v (.bool false))] S (fun v40 S=>callV Tryz.prog (.f (.func 73) [] [v1,v2]) [(.v (.int .i64 1)),x1] S (fun v41 S=>bslN 24 4 2 [(.v (.int .i64 0)),(.v (.string ByteArray.empty)),(.v (.int .i64 0)),.nl] [(0,v40),(1,v41)] S fun v42 S=>callF Tryz.prog 74 [(.v (.int .i64 5)),v42] S Q fun v43 S=>callV Tryz.prog (.f (.func 73) [] [v1,v2]) [(.v (.int .i64 0)),(.v (.bool true))] S (fun v44 S=>un .not x1 S fun v45 S=>callV Tryz.prog (.f (.func 73) [] [v1,v2]) [(.v (.int .i64 1)),v45] S (fun v46 S=>bslN 24 4 2 [(.v (.int .i64 0)),(.v (.string ByteArray.empty)),(.v (.int .i64 0)),.nl] [(0,v44),(1,v46)] S fun v47 S=>callF Tryz.prog 74 [(.v (.int .i64 5)),v47] S Q fun v48 S=>bslN 24 4 2 [(.v (.int .i64 0)),(.v (.string ByteArray.empty)),(.v (.int .i64 0)),.nl] [(0,v43),(1,v48)] S fun v49 S=>callF Tryz.prog 74 [(.v (.int .i64 6)),v49] S Q fun v50 S=>stN 4 v3 v50 S fun v51 S=>ldN 4 v3 S fun v52 _=>Q (.ret v52) S) (fun u S=>Q (.pan u) S)) (fun u S=>Q (.pan u) S)) (fun u S=>Q (.pan u) S)) (fun u S=>Q (.pan u) S)) (shift v1 0 S fun v53 S=>ld1 v53 S fun v54 S=>bld [(0,1),(1,1),(2,1),(3,1)] [(.v (.int .i64 0)),(.v (.string ByteArray.empty)),(.v (.int .i64 0)),.nl] [(0,v54)] S fun v55 S=>boxN 24 4 (.a [(.v (.int .i64 0)),(.v (.string ByteArray.empty)),(.v (.int .i64 0)),.nl]) S fun v56 S=>stN 4 v56 v55 S fun v57 S=>onB x1 fun b58=>gd b58 (ld1 v2 S fun v59 S=>shift v1 0 S fun v60 S=>ld1 v60 S fun v61 S=>lkM (.i .i64) (.v (.int .i64 0)) false v59 v61 S fun v62 S=>shift v56 0 S fun v63 S=>stN 1 v63 v62 S fun v64 S=>shift v1 3 S fun v65 S=>ld1 v65 S fun v66 S=>lenS v66 S fun v67 S=>loopV lv44_0 (vc Tryz.prog (c44.at_ [1,1,1,1,1,0,1,0,0]) (ms44.drop 1)) 86 (env44_0 x1 v3 (.f (.func 73) [] [v1,v2]) v56 v67 (.v (.int .i64 0))) S (blockK 1 (seqK (vc Tryz.prog (c44.at_ [1,1,1,1,1,1]) (ms44.drop 1)) (bodyK Tryz.prog r44 Q)))) (shift v1 3 S fun v68 S=>ld1 v68 S fun v69 S=>lenS v69 S fun v70 S=>loopV lv44_0 (vc Tryz.prog (c44.at_ [1,1,1,1,1,0,1,0,0]) (ms44.drop 1)) 86 (env44_0 x1 v3 (.f (.func 73) [] [v1,v2]) v56 v70 (.v (.int .i64 0))) S (blockK 1 (seqK (vc Tryz.prog (c44.at_ [1,1,1,1,1,1]) (ms44.drop 1)) (bodyK Tryz.prog r44 Q))))))))
theorem calls44 {x0 x1 x2:AV} {S:Store} {Q:PoT} (h:m44 x0 x1 x2 S Q):ACalls Tryz.prog 44 [x0,x1,x2] S Q :=
  calls_of_vc (fn:=Tryz.f44) (c:=c44) (n:=86) Tryz.func44 (by kernel_rfl) (by kernel_rfl) (by kernel_rfl) ms44 (Eq.mpr (by kernel_rfl) h)
def b44_0 (y1 y6 y7 y8 y71 y72:AV) (S:Store) (KE0:KeT) (Q:PoT):Prop :=
  bin .lss 0 y72 y71 S fun v71 S=>onB v71 fun b72=>gd b72 (∃ q73:AV,(∀ T:Store,Keep S T → shift y8 3 T fun v74 S=>v74 = q73 ∧ S = T) ∧ ∃ q75:AV,(∀ T:Store,Keep S T → ld1 q73 T fun v76 S=>v76 = q75 ∧ S = T) ∧ ∃ q77:AV,(∀ T:Store,Keep S T → callV Tryz.prog y7 [y72,y1] T (fun v78 S=>v78 = q77 ∧ S = T) (fun u S=>False)) ∧ ∃ q79:AV,(∀ T:Store,Keep S T → bslN 24 4 1 [(.v (.int .i64 0)),(.v (.string ByteArray.empty)),(.v (.int .i64 0)),.nl] [(0,q77)] T fun v80 S=>v80 = q79 ∧ S = T) ∧ appS 24 4 56 q75 q79 S fun v81 S=>∃ q82:AV,(∀ T:Store,Keep S T → shift y8 3 T fun v83 S=>v83 = q82 ∧ S = T) ∧ stN 1 q82 v81 S fun v84 S=>bin .add 0 y72 (.v (.int .i64 1)) S fun v85 S=>KE0 86 (env44_0 y1 y6 y7 y8 y71 v85) S) (ldN 4 y8 S fun v86 S=>stN 4 y6 v86 S fun v87 S=>ldN 4 y6 S fun v88 _=>Q (.ret v88) S)
theorem b44_0_eq (y1 y6 y7 y8 y71 y72:AV) (S:Store) (KE0:KeT) (Q:PoT):vc Tryz.prog (c44.at_ [1,1,1,1,1,0,1,0,0]) (ms44.drop 1) (mkE 86 lv44_0 (env44_0 y1 y6 y7 y8 y71 y72)) S (thenK (fgK lv44_0 KE0) (blockK 1 (seqK (vc Tryz.prog (c44.at_ [1,1,1,1,1,1]) (ms44.drop 1)) (bodyK Tryz.prog r44 Q)))) = b44_0 y1 y6 y7 y8 y71 y72 S KE0 Q:=by kernel_rfl
theorem loop44_0 {y1 y6 y7 y8 y71:AV} {y720:AV} {S:Store} {Q:PoT} (I:AV → Store → Prop) (μ:AV → Store → Nat) (h0:I y720 S)
    (hr:∀ (y72:AV) (S:Store),I y72 S → ∀ KE0:KeT,(∀ (y72':AV) (S':Store),I y72' S' → μ y72' S' < μ y72 S → KE0 86 (env44_0 y1 y6 y7 y8 y71 y72') S') → b44_0 y1 y6 y7 y8 y71 y72 S KE0 Q) :
    loopV lv44_0 (vc Tryz.prog (c44.at_ [1,1,1,1,1,0,1,0,0]) (ms44.drop 1)) 86 (env44_0 y1 y6 y7 y8 y71 y720) S (blockK 1 (seqK (vc Tryz.prog (c44.at_ [1,1,1,1,1,1]) (ms44.drop 1)) (bodyK Tryz.prog r44 Q))):=by
  refine ⟨fun n e S=>n = 86 ∧ ∃ y72:AV,e = (env44_0 y1 y6 y7 y8 y71 y72) ∧ I y72 S,fun _ e S=>μ (e.getD 5 .j) S,?_,?_⟩
  · exact ⟨_,_,Wk.refl _ _,rfl,_,rfl,h0⟩
  · rintro _ e S ⟨rfl,y72,rfl,hI⟩
    exact (b44_0_eq _ _ _ _ _ _ _ _ _).mpr (hr y72 S hI _ (fun y72' S' hI' hm=>⟨_,_,Wk.refl _ _,⟨rfl,_,rfl,hI'⟩,hm⟩))
noncomputable def c74:Code:=(Tryz.f74.body).getD .skip
def ms74:List (List Nat):=[[]]
def m74 (x0 x1:AV) (S:Store) (Q:PoT):Prop :=
  boxN 24 4 (.a [(.v (.int .i64 0)),(.v (.string ByteArray.empty)),(.v (.int .i64 0)),.nl]) S fun v1 S=>bld [(0,1),(1,1),(2,1),(3,1)] [(.v (.int .i64 0)),(.v (.string ByteArray.empty)),(.v (.int .i64 0)),.nl] [(0,x0),(3,x1)] S fun v2 S=>stN 4 v1 v2 S fun v3 S=>ldN 4 v1 S fun v4 _=>Q (.ret v4) S
theorem calls74 {x0 x1:AV} {S:Store} {Q:PoT} (h:m74 x0 x1 S Q):ACalls Tryz.prog 74 [x0,x1] S Q :=
  calls_of_vc (fn:=Tryz.f74) (c:=c74) (n:=8) Tryz.func74 (by kernel_rfl) (by kernel_rfl) (by kernel_rfl) ms74 (Eq.mpr (by kernel_rfl) h)
noncomputable def c45:Code:=(Tryz.f45.body).getD .skip
noncomputable def r45:List ResultVar:=Tryz.f45.results.toList
def env45_0 (y1 y12 y13:AV):List AV:=[y1,y12,y13]
def lv45_0:List Nat:=[1,12,13]
def ms45:List (List Nat):=[lv45_0,[]]
def m45 (S:Store) (Q:PoT):Prop :=
  mkM (.i .i64) S fun v1 S=>bld [(0,1),(1,1)] [(.v (.int .i64 0)),(.v (.int .i64 0))] [(0,(.v (.int .i64 1))),(1,(.v (.int .i64 2)))] S fun v2 S=>bld [(0,1),(1,1)] [(.v (.int .i64 0)),(.v (.int .i64 0))] [(0,(.v (.int .i64 5))),(1,(.v (.int .i64 6)))] S fun v3 S=>bld [(0,1),(1,1)] [(.v (.int .i64 0)),(.v (.int .i64 0))] [(0,(.v (.int .i64 9))),(1,(.v (.int .i64 10)))] S fun v4 S=>bld [(0,1),(1,1)] [(.v (.int .i64 0)),(.v (.int .i64 0))] [(0,(.v (.int .i64 11))),(1,(.v (.int .i64 14)))] S fun v5 S=>bld [(0,1),(1,1)] [(.v (.int .i64 0)),(.v (.int .i64 0))] [(0,(.v (.int .i64 13))),(1,(.v (.int .i64 12)))] S fun v6 S=>bld [(0,1),(1,1)] [(.v (.int .i64 0)),(.v (.int .i64 0))] [(0,(.v (.int .i64 15))),(1,(.v (.int .i64 18)))] S fun v7 S=>bld [(0,1),(1,1)] [(.v (.int .i64 0)),(.v (.int .i64 0))] [(0,(.v (.int .i64 17))),(1,(.v (.int .i64 16)))] S fun v8 S=>bld [(0,2),(2,2),(4,2),(6,2),(8,2),(10,2),(12,2)] [(.v (.int .i64 0)),(.v (.int .i64 0)),(.v (.int .i64 0)),(.v (.int .i64 0)),(.v (.int .i64 0)),(.v (.int .i64 0)),(.v (.int .i64 0)),(.v (.int .i64 0)),(.v (.int .i64 0)),(.v (.int .i64 0)),(.v (.int .i64 0)),(.v (.int .i64 0)),(.v (.int .i64 0)),(.v (.int .i64 0))] [(0,v2),(1,v3),(2,v4),(3,v5),(4,v6),(5,v7),(6,v8)] S fun v9 S=>loopV lv45_0 (vc Tryz.prog (c45.at_ [1,1,0,1,0,0]) (ms45.drop 1)) 28 (env45_0 v1 v9 (.v (.int .i64 0))) S (blockK 0 (seqK (vc Tryz.prog (c45.at_ [1,1,1]) (ms45.drop 1)) (bodyK Tryz.prog r45 Q)))
theorem calls45 {S:Store} {Q:PoT} (h:m45  S Q):ACalls Tryz.prog 45 [] S Q :=
  calls_of_vc (fn:=Tryz.f45) (c:=c45) (n:=28) Tryz.func45 (by kernel_rfl) (by kernel_rfl) (by kernel_rfl) ms45 (Eq.mpr (by kernel_rfl) h)
def b45_0 (y1 y12 y13:AV) (S:Store) (KE0:KeT) (Q:PoT):Prop :=
  bin .lss 0 y13 (.v (.int .i64 7)) S fun v10 S=>onB v10 fun b11=>gd b11 (optP (intA y13) fun z12=>(0 ≤ z12 ∧ z12 < ((7:Nat):Int)) ∧ partN y12 2 (z12.toNat * 2) S fun v13 S=>boxN 124 2 (.a [(.v (.int .i64 0)),(.v (.int .i64 0))]) S fun v14 S=>stN 2 v14 v13 S fun v15 S=>∃ q16:AV,(∀ T:Store,Keep S T → ixA 2 1 v14 (.v (.int .i64 0)) T fun v17 S=>v17 = q16 ∧ S = T) ∧ ∃ q18:AV,(∀ T:Store,Keep S T → ld1 q16 T fun v19 S=>v19 = q18 ∧ S = T) ∧ ∃ q20:AV,(∀ T:Store,Keep S T → ixA 2 1 v14 (.v (.int .i64 1)) T fun v21 S=>v21 = q20 ∧ S = T) ∧ ∃ q22:AV,(∀ T:Store,Keep S T → ld1 q20 T fun v23 S=>v23 = q22 ∧ S = T) ∧ ∃ q24:AV,(∀ T:Store,Keep S T → ixA 2 1 v14 (.v (.int .i64 1)) T fun v25 S=>v25 = q24 ∧ S = T) ∧ ∃ q26:AV,(∀ T:Store,Keep S T → ld1 q24 T fun v27 S=>v27 = q26 ∧ S = T) ∧ ∃ q28:AV,(∀ T:Store,Keep S T → ixA 2 1 v14 (.v (.int .i64 0)) T fun v29 S=>v29 = q28 ∧ S = T) ∧ ∃ q30:AV,(∀ T:Store,Keep S T → ld1 q28 T fun v31 S=>v31 = q30 ∧ S = T) ∧ updM (.i .i64) y1 q18 q26 S fun v32 S=>(∀ T:Store,Keep S T → ld1 q28 T fun v33 S=>v33 = q30 ∧ S = T) ∧ (∀ T:Store,Keep S T → ixA 2 1 v14 (.v (.int .i64 0)) T fun v34 S=>v34 = q28 ∧ S = T) ∧ (∀ T:Store,Keep S T → ld1 q20 T fun v35 S=>v35 = q22 ∧ S = T) ∧ (∀ T:Store,Keep S T → ixA 2 1 v14 (.v (.int .i64 1)) T fun v36 S=>v36 = q20 ∧ S = T) ∧ updM (.i .i64) y1 q22 q30 S fun v37 S=>bin .add 0 y13 (.v (.int .i64 1)) S fun v38 S=>KE0 28 (env45_0 y1 y12 v38) S) (Q (.ret y1) S)
theorem b45_0_eq (y1 y12 y13:AV) (S:Store) (KE0:KeT) (Q:PoT):vc Tryz.prog (c45.at_ [1,1,0,1,0,0]) (ms45.drop 1) (mkE 28 lv45_0 (env45_0 y1 y12 y13)) S (thenK (fgK lv45_0 KE0) (blockK 0 (seqK (vc Tryz.prog (c45.at_ [1,1,1]) (ms45.drop 1)) (bodyK Tryz.prog r45 Q)))) = b45_0 y1 y12 y13 S KE0 Q:=by kernel_rfl
theorem loop45_0 {y1 y12:AV} {y130:AV} {S:Store} {Q:PoT} (I:AV → Store → Prop) (μ:AV → Store → Nat) (h0:I y130 S)
    (hr:∀ (y13:AV) (S:Store),I y13 S → ∀ KE0:KeT,(∀ (y13':AV) (S':Store),I y13' S' → μ y13' S' < μ y13 S → KE0 28 (env45_0 y1 y12 y13') S') → b45_0 y1 y12 y13 S KE0 Q) :
    loopV lv45_0 (vc Tryz.prog (c45.at_ [1,1,0,1,0,0]) (ms45.drop 1)) 28 (env45_0 y1 y12 y130) S (blockK 0 (seqK (vc Tryz.prog (c45.at_ [1,1,1]) (ms45.drop 1)) (bodyK Tryz.prog r45 Q))):=by
  refine ⟨fun n e S=>n = 28 ∧ ∃ y13:AV,e = (env45_0 y1 y12 y13) ∧ I y13 S,fun _ e S=>μ (e.getD 2 .j) S,?_,?_⟩
  · exact ⟨_,_,Wk.refl _ _,rfl,_,rfl,h0⟩
  · rintro _ e S ⟨rfl,y13,rfl,hI⟩
    exact (b45_0_eq _ _ _ _ _ _).mpr (hr y13 S hI _ (fun y13' S' hI' hm=>⟨_,_,Wk.refl _ _,⟨rfl,_,rfl,hI'⟩,hm⟩))
noncomputable def c73:Code:=(Tryz.f73.body).getD .skip
def ms73:List (List Nat):=[[]]
def m73 (x0 x1 x2 x3:AV) (S:Store) (Q:PoT):Prop :=
  boxN 24 4 (.a [(.v (.int .i64 0)),(.v (.string ByteArray.empty)),(.v (.int .i64 0)),.nl]) S fun v1 S=>∃ q2:AV,(∀ T:Store,Keep S T → shift x2 3 T fun v3 S=>v3 = q2 ∧ S = T) ∧ ∃ q4:AV,(∀ T:Store,Keep S T → ld1 q2 T fun v5 S=>v5 = q4 ∧ S = T) ∧ ∃ q6:AV,(∀ T:Store,Keep S T → ixS 24 4 q4 x0 T fun v7 S=>v7 = q6 ∧ S = T) ∧ ∃ q8:AV,(∀ T:Store,Keep S T → ldN 4 q6 T fun v9 S=>v9 = q8 ∧ S = T) ∧ ∃ q10:AV,(∀ T:Store,Keep S T → ld1 x3 T fun v11 S=>v11 = q10 ∧ S = T) ∧ ∃ q12:AV,(∀ T:Store,Keep S T → callF Tryz.prog 44 [q8,x1,q10] T (fun _ _=>False) fun v13 S=>v13 = q12 ∧ S = T) ∧ stN 4 v1 q12 S fun v14 S=>ldN 4 v1 S fun v15 _=>Q (.ret v15) S
theorem calls73 {x0 x1 x2 x3:AV} {S:Store} {Q:PoT} (h:m73 x0 x1 x2 x3 S Q):ACalls Tryz.prog 73 [x0,x1,x2,x3] S Q :=
  calls_of_vc (fn:=Tryz.f73) (c:=c73) (n:=15) Tryz.func73 (by kernel_rfl) (by kernel_rfl) (by kernel_rfl) ms73 (Eq.mpr (by kernel_rfl) h)
noncomputable def c16:Code:=(Tryz.f16.body).getD .skip
def ms16:List (List Nat):=[[]]
def m16 (x0 x1:AV) (S:Store) (Q:PoT):Prop :=
  boxN 24 4 (.a [(.v (.int .i64 0)),(.v (.string ByteArray.empty)),(.v (.int .i64 0)),.nl]) S fun v1 S=>callF Tryz.prog 34 [x0] S Q fun v2 S=>callF Tryz.prog 42 [v2,x1] S Q fun v3 S=>stN 4 v1 v3 S fun v4 S=>ldN 4 v1 S fun v5 _=>Q (.ret v5) S
theorem calls16 {x0 x1:AV} {S:Store} {Q:PoT} (h:m16 x0 x1 S Q):ACalls Tryz.prog 16 [x0,x1] S Q :=
  calls_of_vc (fn:=Tryz.f16) (c:=c16) (n:=9) Tryz.func16 (by kernel_rfl) (by kernel_rfl) (by kernel_rfl) ms16 (Eq.mpr (by kernel_rfl) h)
noncomputable def c23:Code:=(Tryz.f23.body).getD .skip
def ms23:List (List Nat):=[[16]]
def m23 (x0 x1:AV) (S:Store) (Q:PoT):Prop :=
  boxN 42 8 (.a [(.v (.int .i64 0)),.nl,.nl,.nl,.nl,.nl,.nl,.nl]) S fun v1 S=>boxN 24 4 (.a [(.v (.int .i64 0)),(.v (.string ByteArray.empty)),(.v (.int .i64 0)),.nl]) S fun v2 S=>callF Tryz.prog 48 [x0] S Q fun v3 S=>boxN 42 8 (.a [(.v (.int .i64 0)),.nl,.nl,.nl,.nl,.nl,.nl,.nl]) S fun v4 S=>stN 8 v4 v3 S fun v5 S=>∃ q6:AV,(∀ T:Store,Keep S T → ldN 8 v4 T fun v7 S=>v7 = q6 ∧ S = T) ∧ ∃ q8:AV,(∀ T:Store,Keep S T → ldN 8 v4 T fun v9 S=>v9 = q8 ∧ S = T) ∧ ∃ q10:AV,(∀ T:Store,Keep S T → callF Tryz.prog 41 [q8] T (fun _ _=>False) fun v11 S=>v11 = q10 ∧ S = T) ∧ ∃ q12:AV,(∀ T:Store,Keep S T → callF Tryz.prog 40 [q10] T (fun _ _=>False) fun v13 S=>v13 = q12 ∧ S = T) ∧ ∃ q14:AV,(∀ T:Store,Keep S T → bin .mul 0 (.v (.int .i64 2)) q12 T fun v15 S=>v15 = q14 ∧ S = T) ∧ callF Tryz.prog 16 [x1,q14] S (fun _ _=>False) fun v16 S=>(∀ T:Store,Keep S T → ldN 8 v4 T fun v17 S=>v17 = q6 ∧ S = T) ∧ stN 8 v1 q6 S fun v18 S=>stN 4 v2 v16 S fun v19 S=>ldN 8 v1 S fun v20 _=>ldN 4 v2 S fun v21 _=>Q (.ret (.t [v20,v21])) S
theorem calls23 {x0 x1:AV} {S:Store} {Q:PoT} (h:m23 x0 x1 S Q):ACalls Tryz.prog 23 [x0,x1] S Q :=
  calls_of_vc (fn:=Tryz.f23) (c:=c23) (n:=16) Tryz.func23 (by kernel_rfl) (by kernel_rfl) (by kernel_rfl) ms23 (Eq.mpr (by kernel_rfl) h)
noncomputable def c48:Code:=(Tryz.f48.body).getD .skip
noncomputable def r48:List ResultVar:=Tryz.f48.results.toList
def env48_0 (y2 y4 y5 y6 y7 y8:AV):List AV:=[y2,y4,y5,y6,y7,y8]
def lv48_0:List Nat:=[2,4,5,6,7,8]
def env48_1 (y2 y4 y5 y6 y10 y11 y12:AV):List AV:=[y2,y4,y5,y6,y10,y11,y12]
def lv48_1:List Nat:=[2,4,5,6,10,11,12]
def env48_2 (y2 y4 y5 y11 y14:AV):List AV:=[y2,y4,y5,y11,y14]
def lv48_2:List Nat:=[2,4,5,11,14]
def env48_3 (y2 y4 y5 y11 y15:AV):List AV:=[y2,y4,y5,y11,y15]
def lv48_3:List Nat:=[2,4,5,11,15]
def ms48:List (List Nat):=[lv48_0,lv48_1,lv48_2,lv48_3,[0]]
def m48 (x0:AV) (S:Store) (Q:PoT):Prop :=
  boxN 33 1 x0 S fun v1 S=>boxN 42 8 (.a [(.v (.int .i64 0)),.nl,.nl,.nl,.nl,.nl,.nl,.nl]) S fun v2 S=>boxN 3 1 (.v (.int .i64 0)) S fun v3 S=>stN 1 v3 (.v (.int .i64 0)) S fun v4 S=>boxN 42 8 (.a [(.v (.int .i64 0)),.nl,.nl,.nl,.nl,.nl,.nl,.nl]) S fun v5 S=>callV Tryz.prog (.f (.func 78) [] [v3,v1]) [(.v (.int .i64 4))] S (fun v6 S=>shift v5 0 S fun v7 S=>stN 1 v7 v6 S fun v8 S=>callV Tryz.prog (.f (.func 78) [] [v3,v1]) [(.v (.int .i64 3))] S (fun v9 S=>bin .add 0 (.v (.int .i64 1)) v9 S fun v10 S=>callV Tryz.prog (.f (.func 78) [] [v3,v1]) [(.v (.int .i64 9))] S (fun v11 S=>loopV lv48_0 (vc Tryz.prog (c48.at_ [1,1,1,1,1,1,1,0,1,0,0]) (ms48.drop 1)) 156 (env48_0 v2 (.f (.func 78) [] [v3,v1]) v5 v10 .nl v11) S (blockK 0 (seqK (vc Tryz.prog (c48.at_ [1,1,1,1,1,1,1,1]) (ms48.drop 1)) (bodyK Tryz.prog r48 Q)))) (fun u S=>Q (.pan u) S)) (fun u S=>Q (.pan u) S)) (fun u S=>Q (.pan u) S)
theorem calls48 {x0:AV} {S:Store} {Q:PoT} (h:m48 x0 S Q):ACalls Tryz.prog 48 [x0] S Q :=
  calls_of_vc (fn:=Tryz.f48) (c:=c48) (n:=156) Tryz.func48 (by kernel_rfl) (by kernel_rfl) (by kernel_rfl) ms48 (Eq.mpr (by kernel_rfl) h)
def b48_0 (y2 y4 y5 y6 y7 y8:AV) (S:Store) (KE0:KeT) (Q:PoT):Prop :=
  bin .gtr 0 y8 (.v (.int .i64 0)) S fun v12 S=>onB v12 fun b13=>gd b13 (callV Tryz.prog y4 [(.v (.int .i64 65536))] S (fun v14 S=>convI .u16 v14 S fun v15 S=>bslN 126 1 1 [(.v (.int .u16 0))] [(0,v15)] S fun v16 S=>appS 126 1 2 y7 v16 S fun v17 S=>bin .sub 0 y8 (.v (.int .i64 1)) S fun v18 S=>KE0 156 (env48_0 y2 y4 y5 y6 v17 v18) S) (fun u S=>Q (.pan u) S)) (shift y5 0 S fun v19 S=>ld1 v19 S fun v20 S=>bin .add 0 v20 y6 S fun v21 S=>callF Tryz.prog 79 [v21,y7] S Q fun v22 S=>extr v22 0 S fun v23 S=>extr v22 1 S fun v24 S=>boxN 82 2 (.a [(.v (.int .i64 0)),.nl]) S fun v25 S=>stN 2 v25 v23 S fun v26 S=>shift v25 1 S fun v27 S=>ld1 v27 S fun v28 S=>shift y5 2 S fun v29 S=>stN 1 v29 v28 S fun v30 S=>ldN 2 v25 S fun v31 S=>callF Tryz.prog 40 [v31] S Q fun v32 S=>bin .mul 0 (.v (.int .i64 2)) v32 S fun v33 S=>loopV lv48_1 (vc Tryz.prog (c48.at_ [1,1,1,1,1,1,1,1,1,1,1,0,1,0,0]) (ms48.drop 2)) 156 (env48_1 y2 y4 y5 y6 v24 v33 (.v (.int .i64 0))) S (blockK 2 (seqK (vc Tryz.prog (c48.at_ [1,1,1,1,1,1,1,1,1,1,1,1]) (ms48.drop 2)) (bodyK Tryz.prog r48 Q))))
theorem b48_0_eq (y2 y4 y5 y6 y7 y8:AV) (S:Store) (KE0:KeT) (Q:PoT):vc Tryz.prog (c48.at_ [1,1,1,1,1,1,1,0,1,0,0]) (ms48.drop 1) (mkE 156 lv48_0 (env48_0 y2 y4 y5 y6 y7 y8)) S (thenK (fgK lv48_0 KE0) (blockK 0 (seqK (vc Tryz.prog (c48.at_ [1,1,1,1,1,1,1,1]) (ms48.drop 1)) (bodyK Tryz.prog r48 Q)))) = b48_0 y2 y4 y5 y6 y7 y8 S KE0 Q:=by kernel_rfl
theorem loop48_0 {y2 y4 y5 y6:AV} {y70 y80:AV} {S:Store} {Q:PoT} (I:AV → AV → Store → Prop) (μ:AV → AV → Store → Nat) (h0:I y70 y80 S)
    (hr:∀ (y7 y8:AV) (S:Store),I y7 y8 S → ∀ KE0:KeT,(∀ (y7' y8':AV) (S':Store),I y7' y8' S' → μ y7' y8' S' < μ y7 y8 S → KE0 156 (env48_0 y2 y4 y5 y6 y7' y8') S') → b48_0 y2 y4 y5 y6 y7 y8 S KE0 Q) :
    loopV lv48_0 (vc Tryz.prog (c48.at_ [1,1,1,1,1,1,1,0,1,0,0]) (ms48.drop 1)) 156 (env48_0 y2 y4 y5 y6 y70 y80) S (blockK 0 (seqK (vc Tryz.prog (c48.at_ [1,1,1,1,1,1,1,1]) (ms48.drop 1)) (bodyK Tryz.prog r48 Q))):=by
  refine ⟨fun n e S=>n = 156 ∧ ∃ y7 y8:AV,e = (env48_0 y2 y4 y5 y6 y7 y8) ∧ I y7 y8 S,fun _ e S=>μ (e.getD 4 .j) (e.getD 5 .j) S,?_,?_⟩
  · exact ⟨_,_,Wk.refl _ _,rfl,_,_,rfl,h0⟩
  · rintro _ e S ⟨rfl,y7,y8,rfl,hI⟩
    exact (b48_0_eq _ _ _ _ _ _ _ _ _).mpr (hr y7 y8 S hI _ (fun y7' y8' S' hI' hm=>⟨_,_,Wk.refl _ _,⟨rfl,_,_,rfl,hI'⟩,hm⟩))
def b48_1 (y2 y4 y5 y6 y10 y11 y12:AV) (S:Store) (KE1:KeT) (Q:PoT):Prop :=
  bin .lss 0 y12 y6 S fun v34 S=>onB v34 fun b35=>gd b35 (callV Tryz.prog y4 [y11] S (fun v36 S=>bin .eql 0 y12 (.v (.int .i64 0)) S fun v37 S=>onB v37 fun b38=>gd b38 (∃ q39:AV,(∀ T:Store,Keep S T → shift y5 1 T fun v40 S=>v40 = q39 ∧ S = T) ∧ ∃ q41:AV,(∀ T:Store,Keep S T → ld1 q39 T fun v42 S=>v42 = q41 ∧ S = T) ∧ callV Tryz.prog y4 [(.v (.int .i64 5))] S (fun v43 S=>(∀ T:Store,Keep S T → ld1 q39 T fun v44 S=>v44 = q41 ∧ S = T) ∧ (∀ T:Store,Keep S T → shift y5 1 T fun v45 S=>v45 = q39 ∧ S = T) ∧ ∃ q46:AV,(∀ T:Store,Keep S T → bin .quo 0 v43 (.v (.int .i64 2)) T fun v47 S=>v47 = q46 ∧ S = T) ∧ ∃ q48:AV,(∀ T:Store,Keep S T → bld [(0,1),(1,1)] [(.v (.int .i64 0)),(.v (.int .i64 0))] [(0,y10),(1,q46)] T fun v49 S=>v49 = q48 ∧ S = T) ∧ ∃ q50:AV,(∀ T:Store,Keep S T → bslN 66 2 1 [(.v (.int .i64 0)),(.v (.int .i64 0))] [(0,q48)] T fun v51 S=>v51 = q50 ∧ S = T) ∧ appS 66 2 16 q41 q50 S fun v52 S=>∃ q53:AV,(∀ T:Store,Keep S T → shift y5 1 T fun v54 S=>v54 = q53 ∧ S = T) ∧ stN 1 q53 v52 S fun v55 S=>bin .add 0 y12 (.v (.int .i64 1)) S fun v56 S=>KE1 156 (env48_1 y2 y4 y5 y6 y10 y11 v56) S) (fun u S=>False)) (∃ q57:AV,(∀ T:Store,Keep S T → shift y5 1 T fun v58 S=>v58 = q57 ∧ S = T) ∧ ∃ q59:AV,(∀ T:Store,Keep S T → ld1 q57 T fun v60 S=>v60 = q59 ∧ S = T) ∧ callV Tryz.prog y4 [(.v (.int .i64 5))] S (fun v61 S=>(∀ T:Store,Keep S T → ld1 q57 T fun v62 S=>v62 = q59 ∧ S = T) ∧ (∀ T:Store,Keep S T → shift y5 1 T fun v63 S=>v63 = q57 ∧ S = T) ∧ ∃ q64:AV,(∀ T:Store,Keep S T → bin .quo 0 v61 (.v (.int .i64 2)) T fun v65 S=>v65 = q64 ∧ S = T) ∧ ∃ q66:AV,(∀ T:Store,Keep S T → bld [(0,1),(1,1)] [(.v (.int .i64 0)),(.v (.int .i64 0))] [(0,v36),(1,q64)] T fun v67 S=>v67 = q66 ∧ S = T) ∧ ∃ q68:AV,(∀ T:Store,Keep S T → bslN 66 2 1 [(.v (.int .i64 0)),(.v (.int .i64 0))] [(0,q66)] T fun v69 S=>v69 = q68 ∧ S = T) ∧ appS 66 2 16 q59 q68 S fun v70 S=>∃ q71:AV,(∀ T:Store,Keep S T → shift y5 1 T fun v72 S=>v72 = q71 ∧ S = T) ∧ stN 1 q71 v70 S fun v73 S=>bin .add 0 y12 (.v (.int .i64 1)) S fun v74 S=>KE1 156 (env48_1 y2 y4 y5 y6 y10 y11 v74) S) (fun u S=>False))) (fun u S=>Q (.pan u) S)) (callV Tryz.prog y4 [(.v (.int .i64 3))] S (fun v75 S=>loopV lv48_2 (vc Tryz.prog (c48.at_ [1,1,1,1,1,1,1,1,1,1,1,1,0,1,0,0]) (ms48.drop 3)) 156 (env48_2 y2 y4 y5 y11 v75) S (blockK 4 (seqK (vc Tryz.prog (c48.at_ [1,1,1,1,1,1,1,1,1,1,1,1,1]) (ms48.drop 3)) (bodyK Tryz.prog r48 Q)))) (fun u S=>Q (.pan u) S))
theorem b48_1_eq (y2 y4 y5 y6 y10 y11 y12:AV) (S:Store) (KE1:KeT) (Q:PoT):vc Tryz.prog (c48.at_ [1,1,1,1,1,1,1,1,1,1,1,0,1,0,0]) (ms48.drop 2) (mkE 156 lv48_1 (env48_1 y2 y4 y5 y6 y10 y11 y12)) S (thenK (fgK lv48_1 KE1) (blockK 2 (seqK (vc Tryz.prog (c48.at_ [1,1,1,1,1,1,1,1,1,1,1,1]) (ms48.drop 2)) (bodyK Tryz.prog r48 Q)))) = b48_1 y2 y4 y5 y6 y10 y11 y12 S KE1 Q:=by kernel_rfl
theorem loop48_1 {y2 y4 y5 y6 y10 y11:AV} {y120:AV} {S:Store} {Q:PoT} (I:AV → Store → Prop) (μ:AV → Store → Nat) (h0:I y120 S)
    (hr:∀ (y12:AV) (S:Store),I y12 S → ∀ KE1:KeT,(∀ (y12':AV) (S':Store),I y12' S' → μ y12' S' < μ y12 S → KE1 156 (env48_1 y2 y4 y5 y6 y10 y11 y12') S') → b48_1 y2 y4 y5 y6 y10 y11 y12 S KE1 Q) :
    loopV lv48_1 (vc Tryz.prog (c48.at_ [1,1,1,1,1,1,1,1,1,1,1,0,1,0,0]) (ms48.drop 2)) 156 (env48_1 y2 y4 y5 y6 y10 y11 y120) S (blockK 2 (seqK (vc Tryz.prog (c48.at_ [1,1,1,1,1,1,1,1,1,1,1,1]) (ms48.drop 2)) (bodyK Tryz.prog r48 Q))):=by
  refine ⟨fun n e S=>n = 156 ∧ ∃ y12:AV,e = (env48_1 y2 y4 y5 y6 y10 y11 y12) ∧ I y12 S,fun _ e S=>μ (e.getD 6 .j) S,?_,?_⟩
  · exact ⟨_,_,Wk.refl _ _,rfl,_,rfl,h0⟩
  · rintro _ e S ⟨rfl,y12,rfl,hI⟩
    exact (b48_1_eq _ _ _ _ _ _ _ _ _ _).mpr (hr y12 S hI _ (fun y12' S' hI' hm=>⟨_,_,Wk.refl _ _,⟨rfl,_,rfl,hI'⟩,hm⟩))
def b48_2 (y2 y4 y5 y11 y14:AV) (S:Store) (KE2:KeT) (Q:PoT):Prop :=
  bin .gtr 0 y14 (.v (.int .i64 0)) S fun v76 S=>onB v76 fun b77=>gd b77 (∃ q78:AV,(∀ T:Store,Keep S T → shift y5 3 T fun v79 S=>v79 = q78 ∧ S = T) ∧ ∃ q80:AV,(∀ T:Store,Keep S T → ld1 q78 T fun v81 S=>v81 = q80 ∧ S = T) ∧ callV Tryz.prog y4 [y11] S (fun v82 S=>(∀ T:Store,Keep S T → ld1 q78 T fun v83 S=>v83 = q80 ∧ S = T) ∧ (∀ T:Store,Keep S T → shift y5 3 T fun v84 S=>v84 = q78 ∧ S = T) ∧ ∃ q85:AV,(∀ T:Store,Keep S T → bslN 3 1 1 [(.v (.int .i64 0))] [(0,v82)] T fun v86 S=>v86 = q85 ∧ S = T) ∧ appS 3 1 8 q80 q85 S fun v87 S=>∃ q88:AV,(∀ T:Store,Keep S T → shift y5 3 T fun v89 S=>v89 = q88 ∧ S = T) ∧ stN 1 q88 v87 S fun v90 S=>bin .sub 0 y14 (.v (.int .i64 1)) S fun v91 S=>KE2 156 (env48_2 y2 y4 y5 y11 v91) S) (fun u S=>False)) (callV Tryz.prog y4 [(.v (.int .i64 4))] S (fun v92 S=>bin .eql 0 v92 (.v (.int .i64 0)) S fun v93 S=>onB v93 fun b94=>gd b94 (∃ q95:AV,(∀ T:Store,Keep S T → shift y5 4 T fun v96 S=>v96 = q95 ∧ S = T) ∧ ∃ q97:AV,(∀ T:Store,Keep S T → ld1 q95 T fun v98 S=>v98 = q97 ∧ S = T) ∧ callV Tryz.prog y4 [y11] S (fun v99 S=>(∀ T:Store,Keep S T → ld1 q95 T fun v100 S=>v100 = q97 ∧ S = T) ∧ (∀ T:Store,Keep S T → shift y5 4 T fun v101 S=>v101 = q95 ∧ S = T) ∧ ∃ q102:AV,(∀ T:Store,Keep S T → bslN 3 1 1 [(.v (.int .i64 0))] [(0,v99)] T fun v103 S=>v103 = q102 ∧ S = T) ∧ appS 3 1 8 q97 q102 S fun v104 S=>∃ q105:AV,(∀ T:Store,Keep S T → shift y5 4 T fun v106 S=>v106 = q105 ∧ S = T) ∧ stN 1 q105 v104 S fun v107 S=>callV Tryz.prog y4 [(.v (.int .i64 3))] S (fun v108 S=>bin .eql 0 v108 (.v (.int .i64 0)) S fun v109 S=>onB v109 fun b110=>gd b110 (∃ q111:AV,(∀ T:Store,Keep S T → shift y5 5 T fun v112 S=>v112 = q111 ∧ S = T) ∧ ∃ q113:AV,(∀ T:Store,Keep S T → ld1 q111 T fun v114 S=>v114 = q113 ∧ S = T) ∧ callV Tryz.prog y4 [y11] S (fun v115 S=>(∀ T:Store,Keep S T → ld1 q111 T fun v116 S=>v116 = q113 ∧ S = T) ∧ (∀ T:Store,Keep S T → shift y5 5 T fun v117 S=>v117 = q111 ∧ S = T) ∧ ∃ q118:AV,(∀ T:Store,Keep S T → bslN 3 1 1 [(.v (.int .i64 0))] [(0,v115)] T fun v119 S=>v119 = q118 ∧ S = T) ∧ appS 3 1 8 q113 q118 S fun v120 S=>∃ q121:AV,(∀ T:Store,Keep S T → shift y5 5 T fun v122 S=>v122 = q121 ∧ S = T) ∧ stN 1 q121 v120 S fun v123 S=>callV Tryz.prog y4 [(.v (.int .i64 4))] S (fun v124 S=>bin .quo 0 v124 (.v (.int .i64 2)) S fun v125 S=>loopV lv48_3 (vc Tryz.prog (c48.at_ [1,1,1,1,1,1,1,1,1,1,1,1,1,1,1,0,1,0,0]) (ms48.drop 4)) 156 (env48_3 y2 y4 y5 y11 v125) S (blockK 6 (seqK (vc Tryz.prog (c48.at_ [1,1,1,1,1,1,1,1,1,1,1,1,1,1,1,1]) (ms48.drop 4)) (bodyK Tryz.prog r48 Q)))) (fun u S=>Q (.pan u) S)) (fun u S=>False)) (callV Tryz.prog y4 [(.v (.int .i64 4))] S (fun v126 S=>bin .quo 0 v126 (.v (.int .i64 2)) S fun v127 S=>loopV lv48_3 (vc Tryz.prog (c48.at_ [1,1,1,1,1,1,1,1,1,1,1,1,1,1,1,0,1,0,0]) (ms48.drop 4)) 156 (env48_3 y2 y4 y5 y11 v127) S (blockK 6 (seqK (vc Tryz.prog (c48.at_ [1,1,1,1,1,1,1,1,1,1,1,1,1,1,1,1]) (ms48.drop 4)) (bodyK Tryz.prog r48 Q)))) (fun u S=>Q (.pan u) S))) (fun u S=>Q (.pan u) S)) (fun u S=>False)) (callV Tryz.prog y4 [(.v (.int .i64 3))] S (fun v128 S=>bin .eql 0 v128 (.v (.int .i64 0)) S fun v129 S=>onB v129 fun b130=>gd b130 (∃ q131:AV,(∀ T:Store,Keep S T → shift y5 5 T fun v132 S=>v132 = q131 ∧ S = T) ∧ ∃ q133:AV,(∀ T:Store,Keep S T → ld1 q131 T fun v134 S=>v134 = q133 ∧ S = T) ∧ callV Tryz.prog y4 [y11] S (fun v135 S=>(∀ T:Store,Keep S T → ld1 q131 T fun v136 S=>v136 = q133 ∧ S = T) ∧ (∀ T:Store,Keep S T → shift y5 5 T fun v137 S=>v137 = q131 ∧ S = T) ∧ ∃ q138:AV,(∀ T:Store,Keep S T → bslN 3 1 1 [(.v (.int .i64 0))] [(0,v135)] T fun v139 S=>v139 = q138 ∧ S = T) ∧ appS 3 1 8 q133 q138 S fun v140 S=>∃ q141:AV,(∀ T:Store,Keep S T → shift y5 5 T fun v142 S=>v142 = q141 ∧ S = T) ∧ stN 1 q141 v140 S fun v143 S=>callV Tryz.prog y4 [(.v (.int .i64 4))] S (fun v144 S=>bin .quo 0 v144 (.v (.int .i64 2)) S fun v145 S=>loopV lv48_3 (vc Tryz.prog (c48.at_ [1,1,1,1,1,1,1,1,1,1,1,1,1,1,1,0,1,0,0]) (ms48.drop 4)) 156 (env48_3 y2 y4 y5 y11 v145) S (blockK 6 (seqK (vc Tryz.prog (c48.at_ [1,1,1,1,1,1,1,1,1,1,1,1,1,1,1,1]) (ms48.drop 4)) (bodyK Tryz.prog r48 Q)))) (fun u S=>Q (.pan u) S)) (fun u S=>False)) (callV Tryz.prog y4 [(.v (.int .i64 4))] S (fun v146 S=>bin .quo 0 v146 (.v (.int .i64 2)) S fun v147 S=>loopV lv48_3 (vc Tryz.prog (c48.at_ [1,1,1,1,1,1,1,1,1,1,1,1,1,1,1,0,1,0,0]) (ms48.drop 4)) 156 (env48_3 y2 y4 y5 y11 v147) S (blockK 6 (seqK (vc Tryz.prog (c48.at_ [1,1,1,1,1,1,1,1,1,1,1,1,1,1,1,1]) (ms48.drop 4)) (bodyK Tryz.prog r48 Q)))) (fun u S=>Q (.pan u) S))) (fun u S=>Q (.pan u) S))) (fun u S=>Q (.pan u) S))
theorem b48_2_eq (y2 y4 y5 y11 y14:AV) (S:Store) (KE2:KeT) (Q:PoT):vc Tryz.prog (c48.at_ [1,1,1,1,1,1,1,1,1,1,1,1,0,1,0,0]) (ms48.drop 3) (mkE 156 lv48_2 (env48_2 y2 y4 y5 y11 y14)) S (thenK (fgK lv48_2 KE2) (blockK 4 (seqK (vc Tryz.prog (c48.at_ [1,1,1,1,1,1,1,1,1,1,1,1,1]) (ms48.drop 3)) (bodyK Tryz.prog r48 Q)))) = b48_2 y2 y4 y5 y11 y14 S KE2 Q:=by kernel_rfl
theorem loopw48_2 {y2 y4 y5 y11 y14:AV} {S:Store} {Q:PoT} (I:AV → AV → AV → AV → AV → Store → Prop) (μ:AV → AV → AV → AV → AV → Store → Nat) (h0:∃ (y2' y4' y5' y11' y14':AV) (S':Store),Wk S (env48_2 y2 y4 y5 y11 y14) S' (env48_2 y2' y4' y5' y11' y14') ∧ I y2' y4' y5' y11' y14' S')
    (hr:∀ (y2 y4 y5 y11 y14:AV) (S:Store),I y2 y4 y5 y11 y14 S → ∀ KE2:KeT,(∀ (y2' y4' y5' y11' y14':AV) (S':Store) (y2'' y4'' y5'' y11'' y14'':AV) (S'':Store),Wk S' (env48_2 y2' y4' y5' y11' y14') S'' (env48_2 y2'' y4'' y5'' y11'' y14'') → I y2'' y4'' y5'' y11'' y14'' S'' → μ y2'' y4'' y5'' y11'' y14'' S'' < μ y2 y4 y5 y11 y14 S → KE2 156 (env48_2 y2' y4' y5' y11' y14') S') → b48_2 y2 y4 y5 y11 y14 S KE2 Q) :
    loopV lv48_2 (vc Tryz.prog (c48.at_ [1,1,1,1,1,1,1,1,1,1,1,1,0,1,0,0]) (ms48.drop 3)) 156 (env48_2 y2 y4 y5 y11 y14) S (blockK 4 (seqK (vc Tryz.prog (c48.at_ [1,1,1,1,1,1,1,1,1,1,1,1,1]) (ms48.drop 3)) (bodyK Tryz.prog r48 Q))):=by
  obtain ⟨y2',y4',y5',y11',y14',S0,hw0,h0⟩:=h0
  refine ⟨fun n e S=>n = 156 ∧ ∃ y2 y4 y5 y11 y14:AV,e = (env48_2 y2 y4 y5 y11 y14) ∧ I y2 y4 y5 y11 y14 S,fun _ e S=>μ (e.getD 0 .j) (e.getD 1 .j) (e.getD 2 .j) (e.getD 3 .j) (e.getD 4 .j) S,?_,?_⟩
  · exact ⟨_,_,hw0,rfl,_,_,_,_,_,rfl,h0⟩
  · rintro _ e S ⟨rfl,y2,y4,y5,y11,y14,rfl,hI⟩
    exact (b48_2_eq _ _ _ _ _ _ _ _).mpr (hr y2 y4 y5 y11 y14 S hI _ (fun y2' y4' y5' y11' y14' S' y2'' y4'' y5'' y11'' y14'' S'' hw hI' hm=>⟨_,_,hw,⟨rfl,_,_,_,_,_,rfl,hI'⟩,hm⟩))
def b48_3 (y2 y4 y5 y11 y15:AV) (S:Store) (KE3:KeT) (Q:PoT):Prop :=
  bin .gtr 0 y15 (.v (.int .i64 0)) S fun v148 S=>onB v148 fun b149=>gd b149 (∃ q150:AV,(∀ T:Store,Keep S T → shift y5 6 T fun v151 S=>v151 = q150 ∧ S = T) ∧ ∃ q152:AV,(∀ T:Store,Keep S T → ld1 q150 T fun v153 S=>v153 = q152 ∧ S = T) ∧ callV Tryz.prog y4 [y11] S (fun v154 S=>(∀ T:Store,Keep S T → ld1 q150 T fun v155 S=>v155 = q152 ∧ S = T) ∧ (∀ T:Store,Keep S T → shift y5 6 T fun v156 S=>v156 = q150 ∧ S = T) ∧ ∃ q157:AV,(∀ T:Store,Keep S T → bslN 3 1 1 [(.v (.int .i64 0))] [(0,v154)] T fun v158 S=>v158 = q157 ∧ S = T) ∧ appS 3 1 8 q152 q157 S fun v159 S=>∃ q160:AV,(∀ T:Store,Keep S T → shift y5 6 T fun v161 S=>v161 = q160 ∧ S = T) ∧ stN 1 q160 v159 S fun v162 S=>bin .sub 0 y15 (.v (.int .i64 1)) S fun v163 S=>KE3 156 (env48_3 y2 y4 y5 y11 v163) S) (fun u S=>False)) (callV Tryz.prog y4 [(.v (.int .i64 3))] S (fun v164 S=>bin .gtr 0 v164 (.v (.int .i64 0)) S fun v165 S=>onB v165 fun b166=>gd b166 (shift y5 7 S fun v167 S=>ld1 v167 S fun v168 S=>bld [(0,1),(1,1),(2,1)] [(.v (.int .u8 0)),(.v (.int .i64 0)),(.v (.string ByteArray.empty))] [(0,(.v (.int .u8 108))),(2,(.v (.string { data:=#[113] })))] S fun v169 S=>bslN 130 3 1 [(.v (.int .u8 0)),(.v (.int .i64 0)),(.v (.string ByteArray.empty))] [(0,v169)] S fun v170 S=>appS 130 3 32 v168 v170 S fun v171 S=>shift y5 7 S fun v172 S=>stN 1 v172 v171 S fun v173 S=>shift y5 3 S fun v174 S=>ld1 v174 S fun v175 S=>lenS v175 S fun v176 S=>bin .gtr 0 v176 (.v (.int .i64 0)) S fun v177 S=>onB v177 fun b178=>gd b178 (callV Tryz.prog y4 [(.v (.int .i64 2))] S (fun v179 S=>bin .gtr 0 v179 (.v (.int .i64 0)) S fun v180 S=>onB v180 fun b181=>gd b181 (∃ q182:AV,(∀ T:Store,Keep S T → shift y5 7 T fun v183 S=>v183 = q182 ∧ S = T) ∧ ∃ q184:AV,(∀ T:Store,Keep S T → ld1 q182 T fun v185 S=>v185 = q184 ∧ S = T) ∧ ∃ q186:AV,(∀ T:Store,Keep S T → shift y5 3 T fun v187 S=>v187 = q186 ∧ S = T) ∧ ∃ q188:AV,(∀ T:Store,Keep S T → ld1 q186 T fun v189 S=>v189 = q188 ∧ S = T) ∧ ∃ q190:AV,(∀ T:Store,Keep S T → lenS q188 T fun v191 S=>v191 = q190 ∧ S = T) ∧ ∃ q192:AV,(∀ T:Store,Keep S T → bin .sub 0 q190 (.v (.int .i64 1)) T fun v193 S=>v193 = q192 ∧ S = T) ∧ ∃ q194:AV,(∀ T:Store,Keep S T → bslN 9 1 3 [(.v (.string ByteArray.empty))] [(0,(.v (.string { data:=#[111,117,116] }))),(1,(.v (.string { data:=#[108,49] }))),(2,(.v (.string { data:=#[97,45,98] })))] T fun v195 S=>v195 = q194 ∧ S = T) ∧ callV Tryz.prog y4 [(.v (.int .i64 3))] S (fun v196 S=>(∀ T:Store,Keep S T → bslN 9 1 3 [(.v (.string ByteArray.empty))] [(0,(.v (.string { data:=#[111,117,116] }))),(1,(.v (.string { data:=#[108,49] }))),(2,(.v (.string { data:=#[97,45,98] })))] T fun v197 S=>v197 = q194 ∧ S = T) ∧ (∀ T:Store,Keep S T → bin .sub 0 q190 (.v (.int .i64 1)) T fun v198 S=>v198 = q192 ∧ S = T) ∧ (∀ T:Store,Keep S T → lenS q188 T fun v199 S=>v199 = q190 ∧ S = T) ∧ (∀ T:Store,Keep S T → ld1 q186 T fun v200 S=>v200 = q188 ∧ S = T) ∧ (∀ T:Store,Keep S T → shift y5 3 T fun v201 S=>v201 = q186 ∧ S = T) ∧ (∀ T:Store,Keep S T → ld1 q182 T fun v202 S=>v202 = q184 ∧ S = T) ∧ (∀ T:Store,Keep S T → shift y5 7 T fun v203 S=>v203 = q182 ∧ S = T) ∧ ∃ q204:AV,(∀ T:Store,Keep S T → ixS 9 1 q194 v196 T fun v205 S=>v205 = q204 ∧ S = T) ∧ ∃ q206:AV,(∀ T:Store,Keep S T → ld1 q204 T fun v207 S=>v207 = q206 ∧ S = T) ∧ ∃ q208:AV,(∀ T:Store,Keep S T → bld [(0,1),(1,1),(2,1)] [(.v (.int .u8 0)),(.v (.int .i64 0)),(.v (.string ByteArray.empty))] [(0,(.v (.int .u8 111))),(1,q192),(2,q206)] T fun v209 S=>v209 = q208 ∧ S = T) ∧ ∃ q210:AV,(∀ T:Store,Keep S T → bslN 130 3 1 [(.v (.int .u8 0)),(.v (.int .i64 0)),(.v (.string ByteArray.empty))] [(0,q208)] T fun v211 S=>v211 = q210 ∧ S = T) ∧ appS 130 3 32 q184 q210 S fun v212 S=>∃ q213:AV,(∀ T:Store,Keep S T → shift y5 7 T fun v214 S=>v214 = q213 ∧ S = T) ∧ stN 1 q213 v212 S fun v215 S=>ldN 8 y5 S fun v216 S=>stN 8 y2 v216 S fun v217 S=>ldN 8 y2 S fun v218 _=>Q (.ret v218) S) (fun u S=>False)) (ldN 8 y5 S fun v219 S=>stN 8 y2 v219 S fun v220 S=>ldN 8 y2 S fun v221 _=>Q (.ret v221) S)) (fun u S=>Q (.pan u) S)) (ldN 8 y5 S fun v222 S=>stN 8 y2 v222 S fun v223 S=>ldN 8 y2 S fun v224 _=>Q (.ret v224) S)) (shift y5 3 S fun v225 S=>ld1 v225 S fun v226 S=>lenS v226 S fun v227 S=>bin .gtr 0 v227 (.v (.int .i64 0)) S fun v228 S=>onB v228 fun b229=>gd b229 (callV Tryz.prog y4 [(.v (.int .i64 2))] S (fun v230 S=>bin .gtr 0 v230 (.v (.int .i64 0)) S fun v231 S=>onB v231 fun b232=>gd b232 (∃ q233:AV,(∀ T:Store,Keep S T → shift y5 7 T fun v234 S=>v234 = q233 ∧ S = T) ∧ ∃ q235:AV,(∀ T:Store,Keep S T → ld1 q233 T fun v236 S=>v236 = q235 ∧ S = T) ∧ ∃ q237:AV,(∀ T:Store,Keep S T → shift y5 3 T fun v238 S=>v238 = q237 ∧ S = T) ∧ ∃ q239:AV,(∀ T:Store,Keep S T → ld1 q237 T fun v240 S=>v240 = q239 ∧ S = T) ∧ ∃ q241:AV,(∀ T:Store,Keep S T → lenS q239 T fun v242 S=>v242 = q241 ∧ S = T) ∧ ∃ q243:AV,(∀ T:Store,Keep S T → bin .sub 0 q241 (.v (.int .i64 1)) T fun v244 S=>v244 = q243 ∧ S = T) ∧ ∃ q245:AV,(∀ T:Store,Keep S T → bslN 9 1 3 [(.v (.string ByteArray.empty))] [(0,(.v (.string { data:=#[111,117,116] }))),(1,(.v (.string { data:=#[108,49] }))),(2,(.v (.string { data:=#[97,45,98] })))] T fun v246 S=>v246 = q245 ∧ S = T) ∧ callV Tryz.prog y4 [(.v (.int .i64 3))] S (fun v247 S=>(∀ T:Store,Keep S T → bslN 9 1 3 [(.v (.string ByteArray.empty))] [(0,(.v (.string { data:=#[111,117,116] }))),(1,(.v (.string { data:=#[108,49] }))),(2,(.v (.string { data:=#[97,45,98] })))] T fun v248 S=>v248 = q245 ∧ S = T) ∧ (∀ T:Store,Keep S T → bin .sub 0 q241 (.v (.int .i64 1)) T fun v249 S=>v249 = q243 ∧ S = T) ∧ (∀ T:Store,Keep S T → lenS q239 T fun v250 S=>v250 = q241 ∧ S = T) ∧ (∀ T:Store,Keep S T → ld1 q237 T fun v251 S=>v251 = q239 ∧ S = T) ∧ (∀ T:Store,Keep S T → shift y5 3 T fun v252 S=>v252 = q237 ∧ S = T) ∧ (∀ T:Store,Keep S T → ld1 q233 T fun v253 S=>v253 = q235 ∧ S = T) ∧ (∀ T:Store,Keep S T → shift y5 7 T fun v254 S=>v254 = q233 ∧ S = T) ∧ ∃ q255:AV,(∀ T:Store,Keep S T → ixS 9 1 q245 v247 T fun v256 S=>v256 = q255 ∧ S = T) ∧ ∃ q257:AV,(∀ T:Store,Keep S T → ld1 q255 T fun v258 S=>v258 = q257 ∧ S = T) ∧ ∃ q259:AV,(∀ T:Store,Keep S T → bld [(0,1),(1,1),(2,1)] [(.v (.int .u8 0)),(.v (.int .i64 0)),(.v (.string ByteArray.empty))] [(0,(.v (.int .u8 111))),(1,q243),(2,q257)] T fun v260 S=>v260 = q259 ∧ S = T) ∧ ∃ q261:AV,(∀ T:Store,Keep S T → bslN 130 3 1 [(.v (.int .u8 0)),(.v (.int .i64 0)),(.v (.string ByteArray.empty))] [(0,q259)] T fun v262 S=>v262 = q261 ∧ S = T) ∧ appS 130 3 32 q235 q261 S fun v263 S=>∃ q264:AV,(∀ T:Store,Keep S T → shift y5 7 T fun v265 S=>v265 = q264 ∧ S = T) ∧ stN 1 q264 v263 S fun v266 S=>ldN 8 y5 S fun v267 S=>stN 8 y2 v267 S fun v268 S=>ldN 8 y2 S fun v269 _=>Q (.ret v269) S) (fun u S=>False)) (ldN 8 y5 S fun v270 S=>stN 8 y2 v270 S fun v271 S=>ldN 8 y2 S fun v272 _=>Q (.ret v272) S)) (fun u S=>Q (.pan u) S)) (ldN 8 y5 S fun v273 S=>stN 8 y2 v273 S fun v274 S=>ldN 8 y2 S fun v275 _=>Q (.ret v275) S))) (fun u S=>Q (.pan u) S))
theorem b48_3_eq (y2 y4 y5 y11 y15:AV) (S:Store) (KE3:KeT) (Q:PoT):vc Tryz.prog (c48.at_ [1,1,1,1,1,1,1,1,1,1,1,1,1,1,1,0,1,0,0]) (ms48.drop 4) (mkE 156 lv48_3 (env48_3 y2 y4 y5 y11 y15)) S (thenK (fgK lv48_3 KE3) (blockK 6 (seqK (vc Tryz.prog (c48.at_ [1,1,1,1,1,1,1,1,1,1,1,1,1,1,1,1]) (ms48.drop 4)) (bodyK Tryz.prog r48 Q)))) = b48_3 y2 y4 y5 y11 y15 S KE3 Q:=by kernel_rfl
theorem loopw48_3 {y2 y4 y5 y11 y15:AV} {S:Store} {Q:PoT} (I:AV → AV → AV → AV → AV → Store → Prop) (μ:AV → AV → AV → AV → AV → Store → Nat) (h0:∃ (y2' y4' y5' y11' y15':AV) (S':Store),Wk S (env48_3 y2 y4 y5 y11 y15) S' (env48_3 y2' y4' y5' y11' y15') ∧ I y2' y4' y5' y11' y15' S')
    (hr:∀ (y2 y4 y5 y11 y15:AV) (S:Store),I y2 y4 y5 y11 y15 S → ∀ KE3:KeT,(∀ (y2' y4' y5' y11' y15':AV) (S':Store) (y2'' y4'' y5'' y11'' y15'':AV) (S'':Store),Wk S' (env48_3 y2' y4' y5' y11' y15') S'' (env48_3 y2'' y4'' y5'' y11'' y15'') → I y2'' y4'' y5'' y11'' y15'' S'' → μ y2'' y4'' y5'' y11'' y15'' S'' < μ y2 y4 y5 y11 y15 S → KE3 156 (env48_3 y2' y4' y5' y11' y15') S') → b48_3 y2 y4 y5 y11 y15 S KE3 Q) :
    loopV lv48_3 (vc Tryz.prog (c48.at_ [1,1,1,1,1,1,1,1,1,1,1,1,1,1,1,0,1,0,0]) (ms48.drop 4)) 156 (env48_3 y2 y4 y5 y11 y15) S (blockK 6 (seqK (vc Tryz.prog (c48.at_ [1,1,1,1,1,1,1,1,1,1,1,1,1,1,1,1]) (ms48.drop 4)) (bodyK Tryz.prog r48 Q))):=by
  obtain ⟨y2',y4',y5',y11',y15',S0,hw0,h0⟩:=h0
  refine ⟨fun n e S=>n = 156 ∧ ∃ y2 y4 y5 y11 y15:AV,e = (env48_3 y2 y4 y5 y11 y15) ∧ I y2 y4 y5 y11 y15 S,fun _ e S=>μ (e.getD 0 .j) (e.getD 1 .j) (e.getD 2 .j) (e.getD 3 .j) (e.getD 4 .j) S,?_,?_⟩
  · exact ⟨_,_,hw0,rfl,_,_,_,_,_,rfl,h0⟩
  · rintro _ e S ⟨rfl,y2,y4,y5,y11,y15,rfl,hI⟩
    exact (b48_3_eq _ _ _ _ _ _ _ _).mpr (hr y2 y4 y5 y11 y15 S hI _ (fun y2' y4' y5' y11' y15' S' y2'' y4'' y5'' y11'' y15'' S'' hw hI' hm=>⟨_,_,hw,⟨rfl,_,_,_,_,_,rfl,hI'⟩,hm⟩))
noncomputable def c78:Code:=(Tryz.f78.body).getD .skip
def ms78:List (List Nat):=[[]]
def m78 (x0 x1 x2:AV) (S:Store) (Q:PoT):Prop :=
  ld1 x1 S fun v1 S=>bin .add 0 v1 (.v (.int .i64 1)) S fun v2 S=>stN 1 x1 v2 S fun v3 S=>ld1 x1 S fun v4 S=>ld1 x2 S fun v5 S=>lenS v5 S fun v6 S=>bin .gtr 0 v4 v6 S fun v7 S=>onB v7 fun b8=>gd b8 (Q (.ret (.v (.int .i64 0))) S) (ld1 x2 S fun v9 S=>ld1 x1 S fun v10 S=>bin .sub 0 v10 (.v (.int .i64 1)) S fun v11 S=>ixS 126 1 v9 v11 S fun v12 S=>ld1 v12 S fun v13 S=>convI .i64 v13 S fun v14 S=>bin .rem 0 v14 x0 S fun v15 S=>Q (.ret v15) S)
theorem calls78 {x0 x1 x2:AV} {S:Store} {Q:PoT} (h:m78 x0 x1 x2 S Q):ACalls Tryz.prog 78 [x0,x1,x2] S Q :=
  calls_of_vc (fn:=Tryz.f78) (c:=c78) (n:=19) Tryz.func78 (by kernel_rfl) (by kernel_rfl) (by kernel_rfl) ms78 (Eq.mpr (by kernel_rfl) h)
noncomputable def c66:Code:=(Tryz.f66.body).getD .skip
noncomputable def r66:List ResultVar:=Tryz.f66.results.toList
def env66_0 (y1 y2 y3 y7:AV):List AV:=[y1,y2,y3,y7]
def lv66_0:List Nat:=[1,2,3,7]
def ms66:List (List Nat):=[lv66_0,[]]
def m66 (x0 x1 x2:AV) (S:Store) (Q:PoT):Prop :=
  boxN 42 8 x0 S fun v1 S=>loopV lv66_0 (vc Tryz.prog (c66.at_ [1,0,1,0,0]) (ms66.drop 1)) 22 (env66_0 x1 x2 v1 (.v (.int .i64 0))) S (blockK 0 (seqK (vc Tryz.prog (c66.at_ [1,1]) (ms66.drop 1)) (bodyK Tryz.prog r66 Q)))
theorem calls66 {x0 x1 x2:AV} {S:Store} {Q:PoT} (h:m66 x0 x1 x2 S Q):ACalls Tryz.prog 66 [x0,x1,x2] S Q :=
  calls_of_vc (fn:=Tryz.f66) (c:=c66) (n:=22) Tryz.func66 (by kernel_rfl) (by kernel_rfl) (by kernel_rfl) ms66 (Eq.mpr (by kernel_rfl) h)
def b66_0 (y1 y2 y3 y7:AV) (S:Store) (KE0:KeT) (Q:PoT):Prop :=
  lenS y2 S fun v2 S=>bin .lss 0 y7 v2 S fun v3 S=>onB v3 fun b4=>gd b4 ((fun S0:Store=>∃ q5:AV,(ldN 8 y3 S fun v6 S=>v6 = q5 ∧ S = S0) ∧ ∃ q7:AV,(ixS 3 1 y2 y7 S fun v8 S=>v8 = q7 ∧ S = S0) ∧ ∃ q9:AV,(ld1 q7 S fun v10 S=>v10 = q9 ∧ S = S0) ∧ ∃ q11:AV,(callF Tryz.prog 68 [q5,y1,q9] S (fun _ _=>False) fun v12 S=>v12 = q11 ∧ S = S0) ∧ ∃ q13:AV,(un .not q11 S fun v14 S=>v14 = q13 ∧ S = S0) ∧ onB q13 fun b15=>gd b15 (Q (.ret (.v (.bool false))) S) (bin .add 0 y7 (.v (.int .i64 1)) S fun v16 S=>KE0 22 (env66_0 y1 y2 y3 v16) S)) S) (Q (.ret (.v (.bool true))) S)
theorem b66_0_eq (y1 y2 y3 y7:AV) (S:Store) (KE0:KeT) (Q:PoT):vc Tryz.prog (c66.at_ [1,0,1,0,0]) (ms66.drop 1) (mkE 22 lv66_0 (env66_0 y1 y2 y3 y7)) S (thenK (fgK lv66_0 KE0) (blockK 0 (seqK (vc Tryz.prog (c66.at_ [1,1]) (ms66.drop 1)) (bodyK Tryz.prog r66 Q)))) = b66_0 y1 y2 y3 y7 S KE0 Q:=by kernel_rfl
theorem loop66_0 {y1 y2 y3:AV} {y70:AV} {S:Store} {Q:PoT} (I:AV → Store → Prop) (μ:AV → Store → Nat) (h0:I y70 S)
    (hr:∀ (y7:AV) (S:Store),I y7 S → ∀ KE0:KeT,(∀ (y7':AV) (S':Store),I y7' S' → μ y7' S' < μ y7 S → KE0 22 (env66_0 y1 y2 y3 y7') S') → b66_0 y1 y2 y3 y7 S KE0 Q) :
    loopV lv66_0 (vc Tryz.prog (c66.at_ [1,0,1,0,0]) (ms66.drop 1)) 22 (env66_0 y1 y2 y3 y70) S (blockK 0 (seqK (vc Tryz.prog (c66.at_ [1,1]) (ms66.drop 1)) (bodyK Tryz.prog r66 Q))):=by
  refine ⟨fun n e S=>n = 22 ∧ ∃ y7:AV,e = (env66_0 y1 y2 y3 y7) ∧ I y7 S,fun _ e S=>μ (e.getD 3 .j) S,?_,?_⟩
  · exact ⟨_,_,Wk.refl _ _,rfl,_,rfl,h0⟩
  · rintro _ e S ⟨rfl,y7,rfl,hI⟩
    exact (b66_0_eq _ _ _ _ _ _ _).mpr (hr y7 S hI _ (fun y7' S' hI' hm=>⟨_,_,Wk.refl _ _,⟨rfl,_,rfl,hI'⟩,hm⟩))
noncomputable def c67:Code:=(Tryz.f67.body).getD .skip
noncomputable def r67:List ResultVar:=Tryz.f67.results.toList
def env67_0 (y1 y2 y5:AV):List AV:=[y1,y2,y5]
def lv67_0:List Nat:=[1,2,5]
def ms67:List (List Nat):=[lv67_0,[]]
def m67 (x0 x1:AV) (S:Store) (Q:PoT):Prop :=
  boxN 42 8 x0 S fun v1 S=>loopV lv67_0 (vc Tryz.prog (c67.at_ [1,0,1,0,0]) (ms67.drop 1)) 33 (env67_0 x1 v1 (.v (.int .i64 0))) S (blockK 0 (seqK (vc Tryz.prog (c67.at_ [1,1]) (ms67.drop 1)) (bodyK Tryz.prog r67 Q)))
theorem calls67 {x0 x1:AV} {S:Store} {Q:PoT} (h:m67 x0 x1 S Q):ACalls Tryz.prog 67 [x0,x1] S Q :=
  calls_of_vc (fn:=Tryz.f67) (c:=c67) (n:=33) Tryz.func67 (by kernel_rfl) (by kernel_rfl) (by kernel_rfl) ms67 (Eq.mpr (by kernel_rfl) h)
def b67_0 (y1 y2 y5:AV) (S:Store) (KE0:KeT) (Q:PoT):Prop :=
  shift y2 1 S fun v2 S=>ld1 v2 S fun v3 S=>lenS v3 S fun v4 S=>bin .lss 0 y5 v4 S fun v5 S=>onB v5 fun b6=>gd b6 (shift y2 1 S fun v7 S=>ld1 v7 S fun v8 S=>ixS 66 2 v8 y5 S fun v9 S=>shift v9 1 S fun v10 S=>ld1 v10 S fun v11 S=>bin .neq 0 v11 (.v (.int .i64 2)) S fun v12 S=>onB v12 fun b13=>gd b13 (shift y2 0 S fun v14 S=>ld1 v14 S fun v15 S=>bin .add 0 v15 y5 S fun v16 S=>bin .shr 0 y1 v16 S fun v17 S=>bin .rem 0 v17 (.v (.int .i64 2)) S fun v18 S=>bin .neq 0 v18 v11 S fun v19 S=>onB v19 fun b20=>gd b20 (Q (.ret (.v (.bool false))) S) (bin .add 0 y5 (.v (.int .i64 1)) S fun v21 S=>KE0 33 (env67_0 y1 y2 v21) S)) (bin .add 0 y5 (.v (.int .i64 1)) S fun v22 S=>KE0 33 (env67_0 y1 y2 v22) S)) (Q (.ret (.v (.bool true))) S)
theorem b67_0_eq (y1 y2 y5:AV) (S:Store) (KE0:KeT) (Q:PoT):vc Tryz.prog (c67.at_ [1,0,1,0,0]) (ms67.drop 1) (mkE 33 lv67_0 (env67_0 y1 y2 y5)) S (thenK (fgK lv67_0 KE0) (blockK 0 (seqK (vc Tryz.prog (c67.at_ [1,1]) (ms67.drop 1)) (bodyK Tryz.prog r67 Q)))) = b67_0 y1 y2 y5 S KE0 Q:=by kernel_rfl
theorem loop67_0 {y1 y2:AV} {y50:AV} {S:Store} {Q:PoT} (I:AV → Store → Prop) (μ:AV → Store → Nat) (h0:I y50 S)
    (hr:∀ (y5:AV) (S:Store),I y5 S → ∀ KE0:KeT,(∀ (y5':AV) (S':Store),I y5' S' → μ y5' S' < μ y5 S → KE0 33 (env67_0 y1 y2 y5') S') → b67_0 y1 y2 y5 S KE0 Q) :
    loopV lv67_0 (vc Tryz.prog (c67.at_ [1,0,1,0,0]) (ms67.drop 1)) 33 (env67_0 y1 y2 y50) S (blockK 0 (seqK (vc Tryz.prog (c67.at_ [1,1]) (ms67.drop 1)) (bodyK Tryz.prog r67 Q))):=by
  refine ⟨fun n e S=>n = 33 ∧ ∃ y5:AV,e = (env67_0 y1 y2 y5) ∧ I y5 S,fun _ e S=>μ (e.getD 2 .j) S,?_,?_⟩
  · exact ⟨_,_,Wk.refl _ _,rfl,_,rfl,h0⟩
  · rintro _ e S ⟨rfl,y5,rfl,hI⟩
    exact (b67_0_eq _ _ _ _ _ _).mpr (hr y5 S hI _ (fun y5' S' hI' hm=>⟨_,_,Wk.refl _ _,⟨rfl,_,rfl,hI'⟩,hm⟩))
noncomputable def c116:Code:=(Tryz.f116.body).getD .skip
noncomputable def r116:List ResultVar:=Tryz.f116.results.toList
def env116_0 (y0 y1 y5 y6:AV):List AV:=[y0,y1,y5,y6]
def lv116_0:List Nat:=[0,1,5,6]
def ms116:List (List Nat):=[lv116_0,[]]
def m116 (x0 x1:AV) (S:Store) (Q:PoT):Prop :=
  loopV lv116_0 (vc Tryz.prog (c116.at_ [1,1,0,1,0,0]) (ms116.drop 1)) 21 (env116_0 x0 x1 .nl (.v (.int .i64 0))) S (blockK 0 (seqK (vc Tryz.prog (c116.at_ [1,1,1]) (ms116.drop 1)) (bodyK Tryz.prog r116 Q)))
theorem calls116 {x0 x1:AV} {S:Store} {Q:PoT} (h:m116 x0 x1 S Q):ACalls Tryz.prog 116 [x0,x1] S Q :=
  calls_of_vc (fn:=Tryz.f116) (c:=c116) (n:=21) Tryz.func116 (by kernel_rfl) (by kernel_rfl) (by kernel_rfl) ms116 (Eq.mpr (by kernel_rfl) h)
def b116_0 (y0 y1 y5 y6:AV) (S:Store) (KE0:KeT) (Q:PoT):Prop :=
  bin .lss 0 y6 y1 S fun v1 S=>onB v1 fun b2=>gd b2 (bin .shr 0 y0 y6 S fun v3 S=>bin .and 0 v3 (.v (.int .i64 1)) S fun v4 S=>bin .eql 0 v4 (.v (.int .i64 1)) S fun v5 S=>bslN 4 1 1 [(.v (.bool false))] [(0,v5)] S fun v6 S=>appS 4 1 1 y5 v6 S fun v7 S=>bin .add 0 y6 (.v (.int .i64 1)) S fun v8 S=>KE0 21 (env116_0 y0 y1 v7 v8) S) (Q (.ret y5) S)
theorem b116_0_eq (y0 y1 y5 y6:AV) (S:Store) (KE0:KeT) (Q:PoT):vc Tryz.prog (c116.at_ [1,1,0,1,0,0]) (ms116.drop 1) (mkE 21 lv116_0 (env116_0 y0 y1 y5 y6)) S (thenK (fgK lv116_0 KE0) (blockK 0 (seqK (vc Tryz.prog (c116.at_ [1,1,1]) (ms116.drop 1)) (bodyK Tryz.prog r116 Q)))) = b116_0 y0 y1 y5 y6 S KE0 Q:=by kernel_rfl
theorem loop116_0 {y0 y1:AV} {y50 y60:AV} {S:Store} {Q:PoT} (I:AV → AV → Store → Prop) (μ:AV → AV → Store → Nat) (h0:I y50 y60 S)
    (hr:∀ (y5 y6:AV) (S:Store),I y5 y6 S → ∀ KE0:KeT,(∀ (y5' y6':AV) (S':Store),I y5' y6' S' → μ y5' y6' S' < μ y5 y6 S → KE0 21 (env116_0 y0 y1 y5' y6') S') → b116_0 y0 y1 y5 y6 S KE0 Q) :
    loopV lv116_0 (vc Tryz.prog (c116.at_ [1,1,0,1,0,0]) (ms116.drop 1)) 21 (env116_0 y0 y1 y50 y60) S (blockK 0 (seqK (vc Tryz.prog (c116.at_ [1,1,1]) (ms116.drop 1)) (bodyK Tryz.prog r116 Q))):=by
  refine ⟨fun n e S=>n = 21 ∧ ∃ y5 y6:AV,e = (env116_0 y0 y1 y5 y6) ∧ I y5 y6 S,fun _ e S=>μ (e.getD 2 .j) (e.getD 3 .j) S,?_,?_⟩
  · exact ⟨_,_,Wk.refl _ _,rfl,_,_,rfl,h0⟩
  · rintro _ e S ⟨rfl,y5,y6,rfl,hI⟩
    exact (b116_0_eq _ _ _ _ _ _ _).mpr (hr y5 y6 S hI _ (fun y5' y6' S' hI' hm=>⟨_,_,Wk.refl _ _,⟨rfl,_,_,rfl,hI'⟩,hm⟩))
noncomputable def c68:Code:=(Tryz.f68.body).getD .skip
def ms68:List (List Nat):=[[]]
def m68 (x0 x1 x2:AV) (S:Store) (Q:PoT):Prop :=
  boxN 42 8 x0 S fun v1 S=>ldN 8 v1 S fun v2 S=>callF Tryz.prog 65 [v2] S Q fun v3 S=>un .not v3 S fun v4 S=>onB v4 fun b5=>gd b5 (Q (.ret (.v (.bool false))) S) (ldN 8 v1 S fun v6 S=>callF Tryz.prog 41 [v6] S Q fun v7 S=>part1 v7 0 S fun v8 S=>bin .gtr 0 v8 (.v (.int .i64 60)) S fun v9 S=>onB v9 fun b10=>gd b10 (Q (.ret (.v (.bool false))) S) ((fun S0:Store=>∃ q11:AV,(ldN 8 v1 S fun v12 S=>v12 = q11 ∧ S = S0) ∧ ∃ q13:AV,(callF Tryz.prog 41 [q11] S (fun _ _=>False) fun v14 S=>v14 = q13 ∧ S = S0) ∧ ∃ q15:AV,(ldN 8 v1 S fun v16 S=>v16 = q15 ∧ S = S0) ∧ ∃ q17:AV,(callF Tryz.prog 41 [q15] S (fun _ _=>False) fun v18 S=>v18 = q17 ∧ S = S0) ∧ ∃ q19:AV,(part1 q17 0 S fun v20 S=>v20 = q19 ∧ S = S0) ∧ ∃ q21:AV,(callF Tryz.prog 116 [x1,q19] S (fun _ _=>False) fun v22 S=>v22 = q21 ∧ S = S0) ∧ ∃ q23:AV,(callF Tryz.prog 115 [q13,x2,q21] S (fun _ _=>False) fun v24 S=>v24 = q23 ∧ S = S0) ∧ Q (.ret q23) S) S))
theorem calls68 {x0 x1 x2:AV} {S:Store} {Q:PoT} (h:m68 x0 x1 x2 S Q):ACalls Tryz.prog 68 [x0,x1,x2] S Q :=
  calls_of_vc (fn:=Tryz.f68) (c:=c68) (n:=25) Tryz.func68 (by kernel_rfl) (by kernel_rfl) (by kernel_rfl) ms68 (Eq.mpr (by kernel_rfl) h)
noncomputable def c59:Code:=(Tryz.f59.body).getD .skip
noncomputable def r59:List ResultVar:=Tryz.f59.results.toList
def env59_0 (y1 y2 y5 y6:AV):List AV:=[y1,y2,y5,y6]
def lv59_0:List Nat:=[1,2,5,6]
def ms59:List (List Nat):=[lv59_0,[]]
def m59 (x0 x1:AV) (S:Store) (Q:PoT):Prop :=
  boxN 42 8 x0 S fun v1 S=>ldN 8 v1 S fun v2 S=>callF Tryz.prog 65 [v2] S Q fun v3 S=>un .not v3 S fun v4 S=>onB v4 fun b5=>gd b5 (Q (.ret (.v (.int .i64 0))) S) (ldN 8 v1 S fun v6 S=>callF Tryz.prog 41 [v6] S Q fun v7 S=>part1 v7 0 S fun v8 S=>bin .gtr 0 v8 (.v (.int .i64 60)) S fun v9 S=>onB v9 fun b10=>gd b10 (Q (.ret (.v (.int .i64 0))) S) (loopV lv59_0 (vc Tryz.prog (c59.at_ [1,1,1,0,1,0,0]) (ms59.drop 1)) 40 (env59_0 x1 v1 (.v (.int .i64 0)) (.v (.int .i64 0))) S (blockK 0 (seqK (vc Tryz.prog (c59.at_ [1,1,1,1]) (ms59.drop 1)) (bodyK Tryz.prog r59 Q)))))
theorem calls59 {x0 x1:AV} {S:Store} {Q:PoT} (h:m59 x0 x1 S Q):ACalls Tryz.prog 59 [x0,x1] S Q :=
  calls_of_vc (fn:=Tryz.f59) (c:=c59) (n:=40) Tryz.func59 (by kernel_rfl) (by kernel_rfl) (by kernel_rfl) ms59 (Eq.mpr (by kernel_rfl) h)
def b59_0 (y1 y2 y5 y6:AV) (S:Store) (KE0:KeT) (Q:PoT):Prop :=
  shift y2 1 S fun v11 S=>ld1 v11 S fun v12 S=>lenS v12 S fun v13 S=>bin .lss 0 y6 v13 S fun v14 S=>onB v14 fun b15=>gd b15 ((fun S0:Store=>∃ q16:AV,(ldN 8 y2 S fun v17 S=>v17 = q16 ∧ S = S0) ∧ ∃ q18:AV,(shift y2 1 S fun v19 S=>v19 = q18 ∧ S = S0) ∧ ∃ q20:AV,(ld1 q18 S fun v21 S=>v21 = q20 ∧ S = S0) ∧ ∃ q22:AV,(ixS 66 2 q20 y6 S fun v23 S=>v23 = q22 ∧ S = S0) ∧ ∃ q24:AV,(shift q22 0 S fun v25 S=>v25 = q24 ∧ S = S0) ∧ ∃ q26:AV,(ld1 q24 S fun v27 S=>v27 = q26 ∧ S = S0) ∧ ∃ q28:AV,(callF Tryz.prog 68 [q16,y1,q26] S (fun _ _=>False) fun v29 S=>v29 = q28 ∧ S = S0) ∧ onB q28 fun b30=>gd b30 (shift y2 0 S fun v31 S=>ld1 v31 S fun v32 S=>bin .add 0 v32 y6 S fun v33 S=>bin .shl 0 (.v (.int .i64 1)) v33 S fun v34 S=>bin .add 0 y5 v34 S fun v35 S=>bin .add 0 y6 (.v (.int .i64 1)) S fun v36 S=>KE0 40 (env59_0 y1 y2 v35 v36) S) (bin .add 0 y6 (.v (.int .i64 1)) S fun v37 S=>KE0 40 (env59_0 y1 y2 y5 v37) S)) S) (Q (.ret y5) S)
theorem b59_0_eq (y1 y2 y5 y6:AV) (S:Store) (KE0:KeT) (Q:PoT):vc Tryz.prog (c59.at_ [1,1,1,0,1,0,0]) (ms59.drop 1) (mkE 40 lv59_0 (env59_0 y1 y2 y5 y6)) S (thenK (fgK lv59_0 KE0) (blockK 0 (seqK (vc Tryz.prog (c59.at_ [1,1,1,1]) (ms59.drop 1)) (bodyK Tryz.prog r59 Q)))) = b59_0 y1 y2 y5 y6 S KE0 Q:=by kernel_rfl
theorem loop59_0 {y1 y2:AV} {y50 y60:AV} {S:Store} {Q:PoT} (I:AV → AV → Store → Prop) (μ:AV → AV → Store → Nat) (h0:I y50 y60 S)
    (hr:∀ (y5 y6:AV) (S:Store),I y5 y6 S → ∀ KE0:KeT,(∀ (y5' y6':AV) (S':Store),I y5' y6' S' → μ y5' y6' S' < μ y5 y6 S → KE0 40 (env59_0 y1 y2 y5' y6') S') → b59_0 y1 y2 y5 y6 S KE0 Q) :
    loopV lv59_0 (vc Tryz.prog (c59.at_ [1,1,1,0,1,0,0]) (ms59.drop 1)) 40 (env59_0 y1 y2 y50 y60) S (blockK 0 (seqK (vc Tryz.prog (c59.at_ [1,1,1,1]) (ms59.drop 1)) (bodyK Tryz.prog r59 Q))):=by
  refine ⟨fun n e S=>n = 40 ∧ ∃ y5 y6:AV,e = (env59_0 y1 y2 y5 y6) ∧ I y5 y6 S,fun _ e S=>μ (e.getD 2 .j) (e.getD 3 .j) S,?_,?_⟩
  · exact ⟨_,_,Wk.refl _ _,rfl,_,_,rfl,h0⟩
  · rintro _ e S ⟨rfl,y5,y6,rfl,hI⟩
    exact (b59_0_eq _ _ _ _ _ _ _).mpr (hr y5 y6 S hI _ (fun y5' y6' S' hI' hm=>⟨_,_,Wk.refl _ _,⟨rfl,_,_,rfl,hI'⟩,hm⟩))
noncomputable def c173:Code:=(Tryz.f173.body).getD .skip
def ms173:List (List Nat):=[[]]
def m173 (x0 x1:AV) (S:Store) (Q:PoT):Prop :=
  ld1 x1 S fun v1 S=>bin .shr 0 x0 (.v (.int .u64 1)) S fun v2 S=>ixS 4 1 v1 v2 S fun v3 S=>ld1 v3 S fun v4 S=>bin .and 0 x0 (.v (.int .i64 1)) S fun v5 S=>bin .eql 0 v5 (.v (.int .i64 1)) S fun v6 S=>bin .neq 1 v4 v6 S fun v7 S=>Q (.ret v7) S
theorem calls173 {x0 x1:AV} {S:Store} {Q:PoT} (h:m173 x0 x1 S Q):ACalls Tryz.prog 173 [x0,x1] S Q :=
  calls_of_vc (fn:=Tryz.f173) (c:=c173) (n:=13) Tryz.func173 (by kernel_rfl) (by kernel_rfl) (by kernel_rfl) ms173 (Eq.mpr (by kernel_rfl) h)
noncomputable def c154:Code:=(Tryz.f154.body).getD .skip
noncomputable def r154:List ResultVar:=Tryz.f154.results.toList
def env154_0 (y5 y6 y32 y33 y34:AV):List AV:=[y5,y6,y32,y33,y34]
def lv154_0:List Nat:=[5,6,32,33,34]
def ms154:List (List Nat):=[lv154_0,[]]
def m154 (x0 x1:AV) (S:Store) (Q:PoT):Prop :=
  boxN 82 2 x0 S fun v1 S=>ldN 2 v1 S fun v2 S=>callF Tryz.prog 130 [v2] S Q fun v3 S=>un .not v3 S fun v4 S=>onB v4 fun b5=>gd b5 (Q (.ret .nl) S) (lenS x1 S fun v6 S=>shift v1 0 S fun v7 S=>ld1 v7 S fun v8 S=>bin .neq 0 v6 v8 S fun v9 S=>onB v9 fun b10=>gd b10 (Q (.ret .nl) S) (shift v1 0 S fun v11 S=>ld1 v11 S fun v12 S=>bin .add 0 v12 (.v (.int .i64 1)) S fun v13 S=>shift v1 1 S fun v14 S=>ld1 v14 S fun v15 S=>lenS v15 S fun v16 S=>bin .add 0 v13 v16 S fun v17 S=>mkN 4 1 [(.v (.bool false))] (.v (.int .i64 1)) v17 S fun v18 S=>boxN 53 1 .nl S fun v19 S=>stN 1 v19 v18 S fun v20 S=>ld1 v19 S fun v21 S=>appS 4 1 1 v21 x1 S fun v22 S=>stN 1 v19 v22 S fun v23 S=>shift v1 1 S fun v24 S=>ld1 v24 S fun v25 S=>lenS v25 S fun v26 S=>loopV lv154_0 (vc Tryz.prog (c154.at_ [1,1,1,1,1,0,1,0,0]) (ms154.drop 1)) 53 (env154_0 v19 (.f (.func 173) [] [v19]) v25 v26 (.v (.int .i64 0))) S (blockK 0 (seqK (vc Tryz.prog (c154.at_ [1,1,1,1,1,1]) (ms154.drop 1)) (bodyK Tryz.prog r154 Q)))))
theorem calls154 {x0 x1:AV} {S:Store} {Q:PoT} (h:m154 x0 x1 S Q):ACalls Tryz.prog 154 [x0,x1] S Q :=
  calls_of_vc (fn:=Tryz.f154) (c:=c154) (n:=53) Tryz.func154 (by kernel_rfl) (by kernel_rfl) (by kernel_rfl) ms154 (Eq.mpr (by kernel_rfl) h)
def b154_0 (y5 y6 y32 y33 y34:AV) (S:Store) (KE0:KeT) (Q:PoT):Prop :=
  bin .lss 0 y34 y33 S fun v27 S=>onB v27 fun b28=>gd b28 (ixS 124 2 y32 y34 S fun v29 S=>ldN 2 v29 S fun v30 S=>boxN 124 2 (.a [(.v (.int .i64 0)),(.v (.int .i64 0))]) S fun v31 S=>stN 2 v31 v30 S fun v32 S=>∃ q33:AV,(∀ T:Store,Keep S T → ld1 y5 T fun v34 S=>v34 = q33 ∧ S = T) ∧ ∃ q35:AV,(∀ T:Store,Keep S T → ixA 2 1 v31 (.v (.int .i64 0)) T fun v36 S=>v36 = q35 ∧ S = T) ∧ ∃ q37:AV,(∀ T:Store,Keep S T → ld1 q35 T fun v38 S=>v38 = q37 ∧ S = T) ∧ ∃ q39:AV,(∀ T:Store,Keep S T → callV Tryz.prog y6 [q37] T (fun v40 S=>v40 = q39 ∧ S = T) (fun u S=>False)) ∧ onB q39 fun b41=>gd b41 (∃ q42:AV,(∀ T:Store,Keep S T → ixA 2 1 v31 (.v (.int .i64 1)) T fun v43 S=>v43 = q42 ∧ S = T) ∧ ∃ q44:AV,(∀ T:Store,Keep S T → ld1 q42 T fun v45 S=>v45 = q44 ∧ S = T) ∧ ∃ q46:AV,(∀ T:Store,Keep S T → callV Tryz.prog y6 [q44] T (fun v47 S=>v47 = q46 ∧ S = T) (fun u S=>False)) ∧ ∃ q48:AV,(∀ T:Store,Keep S T → q46 = q48 ∧ T = T) ∧ ∃ q49:AV,(∀ T:Store,Keep S T → bslN 4 1 1 [(.v (.bool false))] [(0,q48)] T fun v50 S=>v50 = q49 ∧ S = T) ∧ appS 4 1 1 q33 q49 S fun v51 S=>stN 1 y5 v51 S fun v52 S=>bin .add 0 y34 (.v (.int .i64 1)) S fun v53 S=>KE0 53 (env154_0 y5 y6 y32 y33 v53) S) (∃ q54:AV,(∀ T:Store,Keep S T → (.v (.bool false)) = q54 ∧ T = T) ∧ ∃ q55:AV,(∀ T:Store,Keep S T → bslN 4 1 1 [(.v (.bool false))] [(0,q54)] T fun v56 S=>v56 = q55 ∧ S = T) ∧ appS 4 1 1 q33 q55 S fun v57 S=>stN 1 y5 v57 S fun v58 S=>bin .add 0 y34 (.v (.int .i64 1)) S fun v59 S=>KE0 53 (env154_0 y5 y6 y32 y33 v59) S)) (ld1 y5 S fun v60 S=>Q (.ret v60) S)
theorem b154_0_eq (y5 y6 y32 y33 y34:AV) (S:Store) (KE0:KeT) (Q:PoT):vc Tryz.prog (c154.at_ [1,1,1,1,1,0,1,0,0]) (ms154.drop 1) (mkE 53 lv154_0 (env154_0 y5 y6 y32 y33 y34)) S (thenK (fgK lv154_0 KE0) (blockK 0 (seqK (vc Tryz.prog (c154.at_ [1,1,1,1,1,1]) (ms154.drop 1)) (bodyK Tryz.prog r154 Q)))) = b154_0 y5 y6 y32 y33 y34 S KE0 Q:=by kernel_rfl
theorem loop154_0 {y5 y6 y32 y33:AV} {y340:AV} {S:Store} {Q:PoT} (I:AV → Store → Prop) (μ:AV → Store → Nat) (h0:I y340 S)
    (hr:∀ (y34:AV) (S:Store),I y34 S → ∀ KE0:KeT,(∀ (y34':AV) (S':Store),I y34' S' → μ y34' S' < μ y34 S → KE0 53 (env154_0 y5 y6 y32 y33 y34') S') → b154_0 y5 y6 y32 y33 y34 S KE0 Q) :
    loopV lv154_0 (vc Tryz.prog (c154.at_ [1,1,1,1,1,0,1,0,0]) (ms154.drop 1)) 53 (env154_0 y5 y6 y32 y33 y340) S (blockK 0 (seqK (vc Tryz.prog (c154.at_ [1,1,1,1,1,1]) (ms154.drop 1)) (bodyK Tryz.prog r154 Q))):=by
  refine ⟨fun n e S=>n = 53 ∧ ∃ y34:AV,e = (env154_0 y5 y6 y32 y33 y34) ∧ I y34 S,fun _ e S=>μ (e.getD 4 .j) S,?_,?_⟩
  · exact ⟨_,_,Wk.refl _ _,rfl,_,rfl,h0⟩
  · rintro _ e S ⟨rfl,y34,rfl,hI⟩
    exact (b154_0_eq _ _ _ _ _ _ _ _).mpr (hr y34 S hI _ (fun y34' S' hI' hm=>⟨_,_,Wk.refl _ _,⟨rfl,_,rfl,hI'⟩,hm⟩))
noncomputable def c153:Code:=(Tryz.f153.body).getD .skip
def ms153:List (List Nat):=[[]]
def m153 (x0 x1:AV) (S:Store) (Q:PoT):Prop :=
  bin .quo 0 x1 (.v (.int .i64 2)) S fun v1 S=>ixS 4 1 x0 v1 S fun v2 S=>ld1 v2 S fun v3 S=>bin .rem 0 x1 (.v (.int .i64 2)) S fun v4 S=>bin .eql 0 v4 (.v (.int .i64 1)) S fun v5 S=>bin .neq 1 v3 v5 S fun v6 S=>Q (.ret v6) S
theorem calls153 {x0 x1:AV} {S:Store} {Q:PoT} (h:m153 x0 x1 S Q):ACalls Tryz.prog 153 [x0,x1] S Q :=
  calls_of_vc (fn:=Tryz.f153) (c:=c153) (n:=14) Tryz.func153 (by kernel_rfl) (by kernel_rfl) (by kernel_rfl) ms153 (Eq.mpr (by kernel_rfl) h)
noncomputable def c152:Code:=(Tryz.f152.body).getD .skip
noncomputable def r152:List ResultVar:=Tryz.f152.results.toList
def env152_0 (y2 y5 y6:AV):List AV:=[y2,y5,y6]
def lv152_0:List Nat:=[2,5,6]
def ms152:List (List Nat):=[lv152_0,[]]
def m152 (x0 x1:AV) (S:Store) (Q:PoT):Prop :=
  boxN 82 2 x0 S fun v1 S=>ldN 2 v1 S fun v2 S=>callF Tryz.prog 111 [v2] S Q fun v3 S=>un .not v3 S fun v4 S=>onB v4 fun b5=>gd b5 (Q (.ret .nl) S) (lenS x1 S fun v6 S=>shift v1 0 S fun v7 S=>ld1 v7 S fun v8 S=>bin .neq 0 v6 v8 S fun v9 S=>onB v9 fun b10=>gd b10 (Q (.ret .nl) S) (bslN 4 1 1 [(.v (.bool false))] [(0,(.v (.bool false)))] S fun v11 S=>appS 4 1 1 v11 x1 S fun v12 S=>loopV lv152_0 (vc Tryz.prog (c152.at_ [1,1,1,0,1,0,0]) (ms152.drop 1)) 49 (env152_0 v1 v12 (.v (.int .i64 0))) S (blockK 0 (seqK (vc Tryz.prog (c152.at_ [1,1,1,1]) (ms152.drop 1)) (bodyK Tryz.prog r152 Q)))))
theorem calls152 {x0 x1:AV} {S:Store} {Q:PoT} (h:m152 x0 x1 S Q):ACalls Tryz.prog 152 [x0,x1] S Q :=
  calls_of_vc (fn:=Tryz.f152) (c:=c152) (n:=49) Tryz.func152 (by kernel_rfl) (by kernel_rfl) (by kernel_rfl) ms152 (Eq.mpr (by kernel_rfl) h)
def b152_0 (y2 y5 y6:AV) (S:Store) (KE0:KeT) (Q:PoT):Prop :=
  shift y2 1 S fun v13 S=>ld1 v13 S fun v14 S=>lenS v14 S fun v15 S=>bin .lss 0 y6 v15 S fun v16 S=>onB v16 fun b17=>gd b17 (shift y2 1 S fun v18 S=>ld1 v18 S fun v19 S=>ixS 124 2 v19 y6 S fun v20 S=>ixA 2 1 v20 (.v (.int .i64 0)) S fun v21 S=>ld1 v21 S fun v22 S=>callF Tryz.prog 153 [y5,v22] S Q fun v23 S=>onB v23 fun b24=>gd b24 (shift y2 1 S fun v25 S=>ld1 v25 S fun v26 S=>ixS 124 2 v26 y6 S fun v27 S=>ixA 2 1 v27 (.v (.int .i64 1)) S fun v28 S=>ld1 v28 S fun v29 S=>callF Tryz.prog 153 [y5,v29] S Q fun v30 S=>bslN 4 1 1 [(.v (.bool false))] [(0,v30)] S fun v31 S=>appS 4 1 1 y5 v31 S fun v32 S=>bin .add 0 y6 (.v (.int .i64 1)) S fun v33 S=>KE0 49 (env152_0 y2 v32 v33) S) (bslN 4 1 1 [(.v (.bool false))] [(0,(.v (.bool false)))] S fun v34 S=>appS 4 1 1 y5 v34 S fun v35 S=>bin .add 0 y6 (.v (.int .i64 1)) S fun v36 S=>KE0 49 (env152_0 y2 v35 v36) S)) (Q (.ret y5) S)
theorem b152_0_eq (y2 y5 y6:AV) (S:Store) (KE0:KeT) (Q:PoT):vc Tryz.prog (c152.at_ [1,1,1,0,1,0,0]) (ms152.drop 1) (mkE 49 lv152_0 (env152_0 y2 y5 y6)) S (thenK (fgK lv152_0 KE0) (blockK 0 (seqK (vc Tryz.prog (c152.at_ [1,1,1,1]) (ms152.drop 1)) (bodyK Tryz.prog r152 Q)))) = b152_0 y2 y5 y6 S KE0 Q:=by kernel_rfl
theorem loop152_0 {y2:AV} {y50 y60:AV} {S:Store} {Q:PoT} (I:AV → AV → Store → Prop) (μ:AV → AV → Store → Nat) (h0:I y50 y60 S)
    (hr:∀ (y5 y6:AV) (S:Store),I y5 y6 S → ∀ KE0:KeT,(∀ (y5' y6':AV) (S':Store),I y5' y6' S' → μ y5' y6' S' < μ y5 y6 S → KE0 49 (env152_0 y2 y5' y6') S') → b152_0 y2 y5 y6 S KE0 Q) :
    loopV lv152_0 (vc Tryz.prog (c152.at_ [1,1,1,0,1,0,0]) (ms152.drop 1)) 49 (env152_0 y2 y50 y60) S (blockK 0 (seqK (vc Tryz.prog (c152.at_ [1,1,1,1]) (ms152.drop 1)) (bodyK Tryz.prog r152 Q))):=by
  refine ⟨fun n e S=>n = 49 ∧ ∃ y5 y6:AV,e = (env152_0 y2 y5 y6) ∧ I y5 y6 S,fun _ e S=>μ (e.getD 1 .j) (e.getD 2 .j) S,?_,?_⟩
  · exact ⟨_,_,Wk.refl _ _,rfl,_,_,rfl,h0⟩
  · rintro _ e S ⟨rfl,y5,y6,rfl,hI⟩
    exact (b152_0_eq _ _ _ _ _ _).mpr (hr y5 y6 S hI _ (fun y5' y6' S' hI' hm=>⟨_,_,Wk.refl _ _,⟨rfl,_,_,rfl,hI'⟩,hm⟩))
noncomputable def c115:Code:=(Tryz.f115.body).getD .skip
def ms115:List (List Nat):=[[]]
def m115 (x0 x1 x2:AV) (S:Store) (Q:PoT):Prop :=
  boxN 82 2 x0 S fun v1 S=>ldN 2 v1 S fun v2 S=>callF Tryz.prog 152 [v2,x2] S Q fun v3 S=>lenS v3 S fun v4 S=>bin .gtr 0 v4 (.v (.int .i64 0)) S fun v5 S=>onB v5 fun b6=>gd b6 (ldN 2 v1 S fun v7 S=>callF Tryz.prog 112 [v7,x1] S Q fun v8 S=>onB v8 fun b9=>gd b9 (callF Tryz.prog 153 [v3,x1] S Q fun v10 S=>Q (.ret v10) S) (Q (.ret (.v (.bool false))) S)) (Q (.ret (.v (.bool false))) S)
theorem calls115 {x0 x1 x2:AV} {S:Store} {Q:PoT} (h:m115 x0 x1 x2 S Q):ACalls Tryz.prog 115 [x0,x1,x2] S Q :=
  calls_of_vc (fn:=Tryz.f115) (c:=c115) (n:=24) Tryz.func115 (by kernel_rfl) (by kernel_rfl) (by kernel_rfl) ms115 (Eq.mpr (by kernel_rfl) h)
noncomputable def c65:Code:=(Tryz.f65.body).getD .skip
noncomputable def r65:List ResultVar:=Tryz.f65.results.toList
def env65_0 (y1 y3 y4:AV):List AV:=[y1,y3,y4]
def lv65_0:List Nat:=[1,3,4]
def ms65:List (List Nat):=[lv65_0,[]]
def m65 (x0:AV) (S:Store) (Q:PoT):Prop :=
  boxN 42 8 x0 S fun v1 S=>ldN 8 v1 S fun v2 S=>callF Tryz.prog 41 [v2] S Q fun v3 S=>boxN 82 2 (.a [(.v (.int .i64 0)),.nl]) S fun v4 S=>stN 2 v4 v3 S fun v5 S=>shift v1 0 S fun v6 S=>ld1 v6 S fun v7 S=>bin .lss 0 v7 (.v (.int .i64 0)) S fun v8 S=>onB v8 fun b9=>gd b9 (Q (.ret (.v (.bool false))) S) (shift v1 0 S fun v10 S=>ld1 v10 S fun v11 S=>bin .gtr 0 v11 (.v (.int .i64 2000)) S fun v12 S=>onB v12 fun b13=>gd b13 (Q (.ret (.v (.bool false))) S) (shift v1 1 S fun v14 S=>ld1 v14 S fun v15 S=>lenS v15 S fun v16 S=>bin .gtr 0 v16 (.v (.int .i64 2000)) S fun v17 S=>onB v17 fun b18=>gd b18 (Q (.ret (.v (.bool false))) S) (ldN 2 v4 S fun v19 S=>callF Tryz.prog 111 [v19] S Q fun v20 S=>un .not v20 S fun v21 S=>onB v21 fun b22=>gd b22 (Q (.ret (.v (.bool false))) S) (loopV lv65_0 (vc Tryz.prog (c65.at_ [1,1,1,0,1,0,0]) (ms65.drop 1)) 86 (env65_0 v1 v4 (.v (.int .i64 0))) S (blockK 0 (seqK (vc Tryz.prog (c65.at_ [1,1,1,1]) (ms65.drop 1)) (bodyK Tryz.prog r65 Q)))))))
theorem calls65 {x0:AV} {S:Store} {Q:PoT} (h:m65 x0 S Q):ACalls Tryz.prog 65 [x0] S Q :=
  calls_of_vc (fn:=Tryz.f65) (c:=c65) (n:=86) Tryz.func65 (by kernel_rfl) (by kernel_rfl) (by kernel_rfl) ms65 (Eq.mpr (by kernel_rfl) h)
def b65_0 (y1 y3 y4:AV) (S:Store) (KE0:KeT) (Q:PoT):Prop :=
  shift y1 1 S fun v23 S=>ld1 v23 S fun v24 S=>lenS v24 S fun v25 S=>bin .lss 0 y4 v25 S fun v26 S=>onB v26 fun b27=>gd b27 ((fun S0:Store=>∃ q28:AV,(ldN 2 y3 S fun v29 S=>v29 = q28 ∧ S = S0) ∧ ∃ q30:AV,(shift y1 1 S fun v31 S=>v31 = q30 ∧ S = S0) ∧ ∃ q32:AV,(ld1 q30 S fun v33 S=>v33 = q32 ∧ S = S0) ∧ ∃ q34:AV,(ixS 66 2 q32 y4 S fun v35 S=>v35 = q34 ∧ S = S0) ∧ ∃ q36:AV,(shift q34 0 S fun v37 S=>v37 = q36 ∧ S = S0) ∧ ∃ q38:AV,(ld1 q36 S fun v39 S=>v39 = q38 ∧ S = S0) ∧ ∃ q40:AV,(callF Tryz.prog 112 [q28,q38] S (fun _ _=>False) fun v41 S=>v41 = q40 ∧ S = S0) ∧ ∃ q42:AV,(un .not q40 S fun v43 S=>v43 = q42 ∧ S = S0) ∧ onB q42 fun b44=>gd b44 (∃ q45:AV,((.v (.bool true)) = q45 ∧ S = S0) ∧ onB q45 fun b46=>gd b46 (∃ q47:AV,((.v (.bool true)) = q47 ∧ S = S0) ∧ onB q47 fun b48=>gd b48 (Q (.ret (.v (.bool false))) S) (bin .add 0 y4 (.v (.int .i64 1)) S fun v49 S=>KE0 86 (env65_0 y1 y3 v49) S)) (∃ q50:AV,(shift y1 1 S fun v51 S=>v51 = q50 ∧ S = S0) ∧ ∃ q52:AV,(ld1 q50 S fun v53 S=>v53 = q52 ∧ S = S0) ∧ ∃ q54:AV,(ixS 66 2 q52 y4 S fun v55 S=>v55 = q54 ∧ S = S0) ∧ ∃ q56:AV,(shift q54 1 S fun v57 S=>v57 = q56 ∧ S = S0) ∧ ∃ q58:AV,(ld1 q56 S fun v59 S=>v59 = q58 ∧ S = S0) ∧ ∃ q60:AV,(bin .gtr 0 q58 (.v (.int .i64 2)) S fun v61 S=>v61 = q60 ∧ S = S0) ∧ ∃ q62:AV,(q60 = q62 ∧ S = S0) ∧ onB q62 fun b63=>gd b63 (Q (.ret (.v (.bool false))) S) (bin .add 0 y4 (.v (.int .i64 1)) S fun v64 S=>KE0 86 (env65_0 y1 y3 v64) S))) (∃ q65:AV,(shift y1 1 S fun v66 S=>v66 = q65 ∧ S = S0) ∧ ∃ q67:AV,(ld1 q65 S fun v68 S=>v68 = q67 ∧ S = S0) ∧ ∃ q69:AV,(ixS 66 2 q67 y4 S fun v70 S=>v70 = q69 ∧ S = S0) ∧ ∃ q71:AV,(shift q69 1 S fun v72 S=>v72 = q71 ∧ S = S0) ∧ ∃ q73:AV,(ld1 q71 S fun v74 S=>v74 = q73 ∧ S = S0) ∧ ∃ q75:AV,(bin .lss 0 q73 (.v (.int .i64 0)) S fun v76 S=>v76 = q75 ∧ S = S0) ∧ ∃ q77:AV,(q75 = q77 ∧ S = S0) ∧ onB q77 fun b78=>gd b78 (∃ q79:AV,((.v (.bool true)) = q79 ∧ S = S0) ∧ onB q79 fun b80=>gd b80 (Q (.ret (.v (.bool false))) S) (bin .add 0 y4 (.v (.int .i64 1)) S fun v81 S=>KE0 86 (env65_0 y1 y3 v81) S)) (∃ q82:AV,(shift y1 1 S fun v83 S=>v83 = q82 ∧ S = S0) ∧ ∃ q84:AV,(ld1 q82 S fun v85 S=>v85 = q84 ∧ S = S0) ∧ ∃ q86:AV,(ixS 66 2 q84 y4 S fun v87 S=>v87 = q86 ∧ S = S0) ∧ ∃ q88:AV,(shift q86 1 S fun v89 S=>v89 = q88 ∧ S = S0) ∧ ∃ q90:AV,(ld1 q88 S fun v91 S=>v91 = q90 ∧ S = S0) ∧ ∃ q92:AV,(bin .gtr 0 q90 (.v (.int .i64 2)) S fun v93 S=>v93 = q92 ∧ S = S0) ∧ ∃ q94:AV,(q92 = q94 ∧ S = S0) ∧ onB q94 fun b95=>gd b95 (Q (.ret (.v (.bool false))) S) (bin .add 0 y4 (.v (.int .i64 1)) S fun v96 S=>KE0 86 (env65_0 y1 y3 v96) S)))) S) (ldN 2 y3 S fun v97 S=>shift y1 3 S fun v98 S=>ld1 v98 S fun v99 S=>callF Tryz.prog 113 [v97,v99] S Q fun v100 S=>onB v100 fun b101=>gd b101 (ldN 2 y3 S fun v102 S=>shift y1 4 S fun v103 S=>ld1 v103 S fun v104 S=>callF Tryz.prog 113 [v102,v104] S Q fun v105 S=>onB v105 fun b106=>gd b106 (ldN 2 y3 S fun v107 S=>shift y1 5 S fun v108 S=>ld1 v108 S fun v109 S=>callF Tryz.prog 113 [v107,v109] S Q fun v110 S=>onB v110 fun b111=>gd b111 (ldN 2 y3 S fun v112 S=>shift y1 6 S fun v113 S=>ld1 v113 S fun v114 S=>callF Tryz.prog 113 [v112,v114] S Q fun v115 S=>onB v115 fun b116=>gd b116 (ldN 8 y1 S fun v117 S=>callF Tryz.prog 114 [v117] S Q fun v118 S=>Q (.ret v118) S) (Q (.ret (.v (.bool false))) S)) (Q (.ret (.v (.bool false))) S)) (Q (.ret (.v (.bool false))) S)) (Q (.ret (.v (.bool false))) S))
theorem b65_0_eq (y1 y3 y4:AV) (S:Store) (KE0:KeT) (Q:PoT):vc Tryz.prog (c65.at_ [1,1,1,0,1,0,0]) (ms65.drop 1) (mkE 86 lv65_0 (env65_0 y1 y3 y4)) S (thenK (fgK lv65_0 KE0) (blockK 0 (seqK (vc Tryz.prog (c65.at_ [1,1,1,1]) (ms65.drop 1)) (bodyK Tryz.prog r65 Q)))) = b65_0 y1 y3 y4 S KE0 Q:=by kernel_rfl
theorem loop65_0 {y1 y3:AV} {y40:AV} {S:Store} {Q:PoT} (I:AV → Store → Prop) (μ:AV → Store → Nat) (h0:I y40 S)
    (hr:∀ (y4:AV) (S:Store),I y4 S → ∀ KE0:KeT,(∀ (y4':AV) (S':Store),I y4' S' → μ y4' S' < μ y4 S → KE0 86 (env65_0 y1 y3 y4') S') → b65_0 y1 y3 y4 S KE0 Q) :
    loopV lv65_0 (vc Tryz.prog (c65.at_ [1,1,1,0,1,0,0]) (ms65.drop 1)) 86 (env65_0 y1 y3 y40) S (blockK 0 (seqK (vc Tryz.prog (c65.at_ [1,1,1,1]) (ms65.drop 1)) (bodyK Tryz.prog r65 Q))):=by
  refine ⟨fun n e S=>n = 86 ∧ ∃ y4:AV,e = (env65_0 y1 y3 y4) ∧ I y4 S,fun _ e S=>μ (e.getD 2 .j) S,?_,?_⟩
  · exact ⟨_,_,Wk.refl _ _,rfl,_,rfl,h0⟩
  · rintro _ e S ⟨rfl,y4,rfl,hI⟩
    exact (b65_0_eq _ _ _ _ _ _).mpr (hr y4 S hI _ (fun y4' S' hI' hm=>⟨_,_,Wk.refl _ _,⟨rfl,_,rfl,hI'⟩,hm⟩))
noncomputable def c128:Code:=(Tryz.f128.body).getD .skip
def ms128:List (List Nat):=[[]]
def m128 (x0 x1:AV) (S:Store) (Q:PoT):Prop :=
  ldN 2 x1 S fun v1 S=>callF Tryz.prog 88 [v1,x0] S Q fun v2 S=>un .not v2 S fun v3 S=>Q (.ret v3) S
theorem calls128 {x0 x1:AV} {S:Store} {Q:PoT} (h:m128 x0 x1 S Q):ACalls Tryz.prog 128 [x0,x1] S Q :=
  calls_of_vc (fn:=Tryz.f128) (c:=c128) (n:=8) Tryz.func128 (by kernel_rfl) (by kernel_rfl) (by kernel_rfl) ms128 (Eq.mpr (by kernel_rfl) h)
noncomputable def c129:Code:=(Tryz.f129.body).getD .skip
def ms129:List (List Nat):=[[]]
def m129 (x0 x1:AV) (S:Store) (Q:PoT):Prop :=
  boxN 66 2 x0 S fun v1 S=>ld1 x1 S fun v2 S=>shift v1 0 S fun v3 S=>ld1 v3 S fun v4 S=>callV Tryz.prog v2 [v4] S (fun v5 S=>onB v5 fun b6=>gd b6 (Q (.ret (.v (.bool true))) S) (shift v1 1 S fun v7 S=>ld1 v7 S fun v8 S=>bin .lss 0 v8 (.v (.int .i64 0)) S fun v9 S=>onB v9 fun b10=>gd b10 (Q (.ret (.v (.bool true))) S) (shift v1 1 S fun v11 S=>ld1 v11 S fun v12 S=>bin .gtr 0 v12 (.v (.int .i64 2)) S fun v13 S=>Q (.ret v13) S))) (fun u S=>Q (.pan u) S)
theorem calls129 {x0 x1:AV} {S:Store} {Q:PoT} (h:m129 x0 x1 S Q):ACalls Tryz.prog 129 [x0,x1] S Q :=
  calls_of_vc (fn:=Tryz.f129) (c:=c129) (n:=18) Tryz.func129 (by kernel_rfl) (by kernel_rfl) (by kernel_rfl) ms129 (Eq.mpr (by kernel_rfl) h)
noncomputable def c165:Code:=(Tryz.f165.body).getD .skip
noncomputable def r165:List ResultVar:=Tryz.f165.results.toList
def env165_0 (y0 y1 y7 y8:AV):List AV:=[y0,y1,y7,y8]
def lv165_0:List Nat:=[0,1,7,8]
def ms165:List (List Nat):=[lv165_0,[]]
def m165 (x0 x1:AV) (S:Store) (Q:PoT):Prop :=
  lenS x0 S fun v1 S=>loopV lv165_0 (vc Tryz.prog (c165.at_ [1,0,1,0,0]) (ms165.drop 1)) 19 (env165_0 x0 x1 v1 (.v (.int .i64 0))) S (blockK 0 (seqK (vc Tryz.prog (c165.at_ [1,1]) (ms165.drop 1)) (bodyK Tryz.prog r165 Q)))
theorem calls165 {x0 x1:AV} {S:Store} {Q:PoT} (h:m165 x0 x1 S Q):ACalls Tryz.prog 165 [x0,x1] S Q :=
  calls_of_vc (fn:=Tryz.f165) (c:=c165) (n:=19) Tryz.func165 (by kernel_rfl) (by kernel_rfl) (by kernel_rfl) ms165 (Eq.mpr (by kernel_rfl) h)
def b165_0 (y0 y1 y7 y8:AV) (S:Store) (KE0:KeT) (Q:PoT):Prop :=
  bin .lss 0 y8 y7 S fun v2 S=>onB v2 fun b3=>gd b3 (ixS 66 2 y0 y8 S fun v4 S=>ldN 2 v4 S fun v5 S=>callV Tryz.prog y1 [v5] S (fun v6 S=>onB v6 fun b7=>gd b7 (Q (.ret y8) S) (bin .add 0 y8 (.v (.int .i64 1)) S fun v8 S=>KE0 19 (env165_0 y0 y1 y7 v8) S)) (fun u S=>Q (.pan u) S)) (Q (.ret (.v (.int .i64 (-1)))) S)
theorem b165_0_eq (y0 y1 y7 y8:AV) (S:Store) (KE0:KeT) (Q:PoT):vc Tryz.prog (c165.at_ [1,0,1,0,0]) (ms165.drop 1) (mkE 19 lv165_0 (env165_0 y0 y1 y7 y8)) S (thenK (fgK lv165_0 KE0) (blockK 0 (seqK (vc Tryz.prog (c165.at_ [1,1]) (ms165.drop 1)) (bodyK Tryz.prog r165 Q)))) = b165_0 y0 y1 y7 y8 S KE0 Q:=by kernel_rfl
theorem loop165_0 {y0 y1 y7:AV} {y80:AV} {S:Store} {Q:PoT} (I:AV → Store → Prop) (μ:AV → Store → Nat) (h0:I y80 S)
    (hr:∀ (y8:AV) (S:Store),I y8 S → ∀ KE0:KeT,(∀ (y8':AV) (S':Store),I y8' S' → μ y8' S' < μ y8 S → KE0 19 (env165_0 y0 y1 y7 y8') S') → b165_0 y0 y1 y7 y8 S KE0 Q) :
    loopV lv165_0 (vc Tryz.prog (c165.at_ [1,0,1,0,0]) (ms165.drop 1)) 19 (env165_0 y0 y1 y7 y80) S (blockK 0 (seqK (vc Tryz.prog (c165.at_ [1,1]) (ms165.drop 1)) (bodyK Tryz.prog r165 Q))):=by
  refine ⟨fun n e S=>n = 19 ∧ ∃ y8:AV,e = (env165_0 y0 y1 y7 y8) ∧ I y8 S,fun _ e S=>μ (e.getD 3 .j) S,?_,?_⟩
  · exact ⟨_,_,Wk.refl _ _,rfl,_,rfl,h0⟩
  · rintro _ e S ⟨rfl,y8,rfl,hI⟩
    exact (b165_0_eq _ _ _ _ _ _ _).mpr (hr y8 S hI _ (fun y8' S' hI' hm=>⟨_,_,Wk.refl _ _,⟨rfl,_,rfl,hI'⟩,hm⟩))
noncomputable def c131:Code:=(Tryz.f131.body).getD .skip
def ms131:List (List Nat):=[[]]
def m131 (x0 x1:AV) (S:Store) (Q:PoT):Prop :=
  callF Tryz.prog 165 [x0,x1] S Q fun v1 S=>bin .geq 0 v1 (.v (.int .i64 0)) S fun v2 S=>Q (.ret v2) S
theorem calls131 {x0 x1:AV} {S:Store} {Q:PoT} (h:m131 x0 x1 S Q):ACalls Tryz.prog 131 [x0,x1] S Q :=
  calls_of_vc (fn:=Tryz.f131) (c:=c131) (n:=9) Tryz.func131 (by kernel_rfl) (by kernel_rfl) (by kernel_rfl) ms131 (Eq.mpr (by kernel_rfl) h)
noncomputable def c85:Code:=(Tryz.f85.body).getD .skip
noncomputable def r85:List ResultVar:=Tryz.f85.results.toList
def env85_0 (y1 y3 y14:AV):List AV:=[y1,y3,y14]
def lv85_0:List Nat:=[1,3,14]
def env85_1 (y1 y6 y44 y45:AV):List AV:=[y1,y6,y44,y45]
def lv85_1:List Nat:=[1,6,44,45]
def ms85:List (List Nat):=[lv85_0,lv85_1,[]]
def m85 (x0:AV) (S:Store) (Q:PoT):Prop :=
  boxN 42 8 x0 S fun v1 S=>ldN 8 v1 S fun v2 S=>callF Tryz.prog 84 [v2] S Q fun v3 S=>boxN 82 2 (.a [(.v (.int .i64 0)),.nl]) S fun v4 S=>stN 2 v4 v3 S fun v5 S=>ldN 8 v1 S fun v6 S=>callF Tryz.prog 127 [v6] S Q fun v7 S=>rngM v7 S fun v8 S=>loopV lv85_0 (vc Tryz.prog (c85.at_ [1,1,0,1,0,0]) (ms85.drop 1)) 54 (env85_0 v1 v4 v8) S (blockK 0 (seqK (vc Tryz.prog (c85.at_ [1,1,1]) (ms85.drop 1)) (bodyK Tryz.prog r85 Q)))
theorem calls85 {x0:AV} {S:Store} {Q:PoT} (h:m85 x0 S Q):ACalls Tryz.prog 85 [x0] S Q :=
  calls_of_vc (fn:=Tryz.f85) (c:=c85) (n:=54) Tryz.func85 (by kernel_rfl) (by kernel_rfl) (by kernel_rfl) ms85 (Eq.mpr (by kernel_rfl) h)
def b85_0 (y1 y3 y14:AV) (S:Store) (KE0:KeT) (Q:PoT):Prop :=
  nextM false y14 S fun v9 S=>extr v9 0 S fun v10 S=>onB v10 fun b11=>gd b11 (entryM y14 S fun v12 S=>extr v12 1 S fun v13 S=>bin .lss 0 v13 (.v (.int .i64 0)) S fun v14 S=>onB v14 fun b15=>gd b15 (Q (.ret (.v (.bool false))) S) (bin .gtr 0 v13 (.v (.int .i64 2000)) S fun v16 S=>onB v16 fun b17=>gd b17 (Q (.ret (.v (.bool false))) S) (KE0 54 (env85_0 y1 y3 y14) S))) (boxN 134 1 (.v .nilFunc) S fun v18 S=>stN 1 v18 (.f (.func 128) [] [y3]) S fun v19 S=>ldN 2 y3 S fun v20 S=>callF Tryz.prog 130 [v20] S Q fun v21 S=>un .not v21 S fun v22 S=>onB v22 fun b23=>gd b23 (Q (.ret (.v (.bool false))) S) (shift y1 1 S fun v24 S=>ld1 v24 S fun v25 S=>callF Tryz.prog 131 [v25,(.f (.func 129) [] [v18])] S Q fun v26 S=>onB v26 fun b27=>gd b27 (Q (.ret (.v (.bool false))) S) (shift y1 3 S fun v28 S=>ld1 v28 S fun v29 S=>shift y1 4 S fun v30 S=>ld1 v30 S fun v31 S=>shift y1 5 S fun v32 S=>ld1 v32 S fun v33 S=>shift y1 6 S fun v34 S=>ld1 v34 S fun v35 S=>bld [(0,1),(1,1),(2,1),(3,1)] [.nl,.nl,.nl,.nl] [(0,v29),(1,v31),(2,v33),(3,v35)] S fun v36 S=>loopV lv85_1 (vc Tryz.prog (c85.at_ [1,1,1,1,1,1,0,1,0,0]) (ms85.drop 2)) 54 (env85_1 y1 v18 v36 (.v (.int .i64 0))) S (blockK 2 (seqK (vc Tryz.prog (c85.at_ [1,1,1,1,1,1,1]) (ms85.drop 2)) (bodyK Tryz.prog r85 Q))))))
theorem b85_0_eq (y1 y3 y14:AV) (S:Store) (KE0:KeT) (Q:PoT):vc Tryz.prog (c85.at_ [1,1,0,1,0,0]) (ms85.drop 1) (mkE 54 lv85_0 (env85_0 y1 y3 y14)) S (thenK (fgK lv85_0 KE0) (blockK 0 (seqK (vc Tryz.prog (c85.at_ [1,1,1]) (ms85.drop 1)) (bodyK Tryz.prog r85 Q)))) = b85_0 y1 y3 y14 S KE0 Q:=by kernel_rfl
theorem loop85_0 {y1 y3 y14:AV} {S:Store} {Q:PoT} (I:Store → Prop) (μ:Store → Nat) (h0:I  S)
    (hr:∀ (S:Store),I  S → ∀ KE0:KeT,(∀ (S':Store),I  S' → μ  S' < μ  S → KE0 54 (env85_0 y1 y3 y14) S') → b85_0 y1 y3 y14 S KE0 Q) :
    loopV lv85_0 (vc Tryz.prog (c85.at_ [1,1,0,1,0,0]) (ms85.drop 1)) 54 (env85_0 y1 y3 y14) S (blockK 0 (seqK (vc Tryz.prog (c85.at_ [1,1,1]) (ms85.drop 1)) (bodyK Tryz.prog r85 Q))):=by
  refine ⟨fun n e S=>n = 54 ∧ e = (env85_0 y1 y3 y14) ∧ I  S,fun _ e S=>μ  S,?_,?_⟩
  · exact ⟨_,_,Wk.refl _ _,rfl,rfl,h0⟩
  · rintro _ e S ⟨rfl,rfl,hI⟩
    exact (b85_0_eq _ _ _ _ _ _).mpr (hr  S hI _ (fun  S' hI' hm=>⟨_,_,Wk.refl _ _,⟨rfl,rfl,hI'⟩,hm⟩))
def b85_1 (y1 y6 y44 y45:AV) (S:Store) (KE1:KeT) (Q:PoT):Prop :=
  bin .lss 0 y45 (.v (.int .i64 4)) S fun v37 S=>onB v37 fun b38=>gd b38 (optP (intA y45) fun z39=>(0 ≤ z39 ∧ z39 < ((4:Nat):Int)) ∧ part1 y44 (z39.toNat * 1) S fun v40 S=>ld1 y6 S fun v41 S=>callF Tryz.prog 132 [v40,v41] S Q fun v42 S=>onB v42 fun b43=>gd b43 (Q (.ret (.v (.bool false))) S) (bin .add 0 y45 (.v (.int .i64 1)) S fun v44 S=>KE1 54 (env85_1 y1 y6 y44 v44) S)) (ldN 8 y1 S fun v45 S=>callF Tryz.prog 133 [v45] S Q fun v46 S=>Q (.ret v46) S)
theorem b85_1_eq (y1 y6 y44 y45:AV) (S:Store) (KE1:KeT) (Q:PoT):vc Tryz.prog (c85.at_ [1,1,1,1,1,1,0,1,0,0]) (ms85.drop 2) (mkE 54 lv85_1 (env85_1 y1 y6 y44 y45)) S (thenK (fgK lv85_1 KE1) (blockK 2 (seqK (vc Tryz.prog (c85.at_ [1,1,1,1,1,1,1]) (ms85.drop 2)) (bodyK Tryz.prog r85 Q)))) = b85_1 y1 y6 y44 y45 S KE1 Q:=by kernel_rfl
theorem loop85_1 {y1 y6 y44:AV} {y450:AV} {S:Store} {Q:PoT} (I:AV → Store → Prop) (μ:AV → Store → Nat) (h0:I y450 S)
    (hr:∀ (y45:AV) (S:Store),I y45 S → ∀ KE1:KeT,(∀ (y45':AV) (S':Store),I y45' S' → μ y45' S' < μ y45 S → KE1 54 (env85_1 y1 y6 y44 y45') S') → b85_1 y1 y6 y44 y45 S KE1 Q) :
    loopV lv85_1 (vc Tryz.prog (c85.at_ [1,1,1,1,1,1,0,1,0,0]) (ms85.drop 2)) 54 (env85_1 y1 y6 y44 y450) S (blockK 2 (seqK (vc Tryz.prog (c85.at_ [1,1,1,1,1,1,1]) (ms85.drop 2)) (bodyK Tryz.prog r85 Q))):=by
  refine ⟨fun n e S=>n = 54 ∧ ∃ y45:AV,e = (env85_1 y1 y6 y44 y45) ∧ I y45 S,fun _ e S=>μ (e.getD 3 .j) S,?_,?_⟩
  · exact ⟨_,_,Wk.refl _ _,rfl,_,rfl,h0⟩
  · rintro _ e S ⟨rfl,y45,rfl,hI⟩
    exact (b85_1_eq _ _ _ _ _ _ _).mpr (hr y45 S hI _ (fun y45' S' hI' hm=>⟨_,_,Wk.refl _ _,⟨rfl,_,rfl,hI'⟩,hm⟩))
noncomputable def c114:Code:=(Tryz.f114.body).getD .skip
noncomputable def r114:List ResultVar:=Tryz.f114.results.toList
def env114_0 (y1 y3:AV):List AV:=[y1,y3]
def lv114_0:List Nat:=[1,3]
def env114_1 (y1 y3 y4 y5:AV):List AV:=[y1,y3,y4,y5]
def lv114_1:List Nat:=[1,3,4,5]
def ms114:List (List Nat):=[lv114_0,lv114_1,[]]
def m114 (x0:AV) (S:Store) (Q:PoT):Prop :=
  boxN 42 8 x0 S fun v1 S=>loopV lv114_0 (vc Tryz.prog (c114.at_ [1,0,1,0,0]) (ms114.drop 1)) 85 (env114_0 v1 (.v (.int .i64 0))) S (blockK 0 (seqK (vc Tryz.prog (c114.at_ [1,1]) (ms114.drop 2)) (bodyK Tryz.prog r114 Q)))
theorem calls114 {x0:AV} {S:Store} {Q:PoT} (h:m114 x0 S Q):ACalls Tryz.prog 114 [x0] S Q :=
  calls_of_vc (fn:=Tryz.f114) (c:=c114) (n:=85) Tryz.func114 (by kernel_rfl) (by kernel_rfl) (by kernel_rfl) ms114 (Eq.mpr (by kernel_rfl) h)
def b114_0 (y1 y3:AV) (S:Store) (KE0:KeT) (Q:PoT):Prop :=
  shift y1 7 S fun v2 S=>ld1 v2 S fun v3 S=>lenS v3 S fun v4 S=>bin .lss 0 y3 v4 S fun v5 S=>onB v5 fun b6=>gd b6 (shift y1 7 S fun v7 S=>ld1 v7 S fun v8 S=>ixS 130 3 v8 y3 S fun v9 S=>ldN 3 v9 S fun v10 S=>boxN 130 3 (.a [(.v (.int .u8 0)),(.v (.int .i64 0)),(.v (.string ByteArray.empty))]) S fun v11 S=>stN 3 v11 v10 S fun v12 S=>(fun S0:Store=>∃ q13:AV,(shift v11 2 S fun v14 S=>v14 = q13 ∧ S = S0) ∧ ∃ q15:AV,(ld1 q13 S fun v16 S=>v16 = q15 ∧ S = S0) ∧ ∃ q17:AV,(callF Tryz.prog 149 [q15] S (fun _ _=>False) fun v18 S=>v18 = q17 ∧ S = S0) ∧ ∃ q19:AV,(un .not q17 S fun v20 S=>v20 = q19 ∧ S = S0) ∧ onB q19 fun b21=>gd b21 (∃ q22:AV,((.v (.bool true)) = q22 ∧ S = S0) ∧ onB q22 fun b23=>gd b23 (∃ q24:AV,((.v (.bool true)) = q24 ∧ S = S0) ∧ onB q24 fun b25=>gd b25 (Q (.ret (.v (.bool false))) S) (loopV lv114_1 (vc Tryz.prog (c114.at_ [1,0,1,0,0,1,0,0,1,1,0,1,0,0]) (ms114.drop 2)) 85 (env114_1 y1 y3 v11 (.v (.int .i64 0))) S (blockK 2 (seqK (vc Tryz.prog (c114.at_ [1,0,1,0,0,1,0,0,1,1,1]) (ms114.drop 2)) (blockK 1 (seqK (vc Tryz.prog (c114.at_ [1,0,1,0,0,1,1]) (ms114.drop 2)) (thenK (fgK lv114_0 KE0) (blockK 0 (seqK (vc Tryz.prog (c114.at_ [1,1]) (ms114.drop 2)) (bodyK Tryz.prog r114 Q)))))))))) (∃ q26:AV,(shift v11 1 S fun v27 S=>v27 = q26 ∧ S = S0) ∧ ∃ q28:AV,(ld1 q26 S fun v29 S=>v29 = q28 ∧ S = S0) ∧ ∃ q30:AV,(ldN 8 y1 S fun v31 S=>v31 = q30 ∧ S = S0) ∧ ∃ q32:AV,(shift v11 0 S fun v33 S=>v33 = q32 ∧ S = S0) ∧ ∃ q34:AV,(ld1 q32 S fun v35 S=>v35 = q34 ∧ S = S0) ∧ ∃ q36:AV,(callF Tryz.prog 150 [q30,q34] S (fun _ _=>False) fun v37 S=>v37 = q36 ∧ S = S0) ∧ ∃ q38:AV,(bin .geq 0 q28 q36 S fun v39 S=>v39 = q38 ∧ S = S0) ∧ ∃ q40:AV,(q38 = q40 ∧ S = S0) ∧ onB q40 fun b41=>gd b41 (Q (.ret (.v (.bool false))) S) (loopV lv114_1 (vc Tryz.prog (c114.at_ [1,0,1,0,0,1,0,0,1,1,0,1,0,0]) (ms114.drop 2)) 85 (env114_1 y1 y3 v11 (.v (.int .i64 0))) S (blockK 2 (seqK (vc Tryz.prog (c114.at_ [1,0,1,0,0,1,0,0,1,1,1]) (ms114.drop 2)) (blockK 1 (seqK (vc Tryz.prog (c114.at_ [1,0,1,0,0,1,1]) (ms114.drop 2)) (thenK (fgK lv114_0 KE0) (blockK 0 (seqK (vc Tryz.prog (c114.at_ [1,1]) (ms114.drop 2)) (bodyK Tryz.prog r114 Q))))))))))) (∃ q42:AV,(shift v11 1 S fun v43 S=>v43 = q42 ∧ S = S0) ∧ ∃ q44:AV,(ld1 q42 S fun v45 S=>v45 = q44 ∧ S = S0) ∧ ∃ q46:AV,(bin .lss 0 q44 (.v (.int .i64 0)) S fun v47 S=>v47 = q46 ∧ S = S0) ∧ ∃ q48:AV,(q46 = q48 ∧ S = S0) ∧ onB q48 fun b49=>gd b49 (∃ q50:AV,((.v (.bool true)) = q50 ∧ S = S0) ∧ onB q50 fun b51=>gd b51 (Q (.ret (.v (.bool false))) S) (loopV lv114_1 (vc Tryz.prog (c114.at_ [1,0,1,0,0,1,0,0,1,1,0,1,0,0]) (ms114.drop 2)) 85 (env114_1 y1 y3 v11 (.v (.int .i64 0))) S (blockK 2 (seqK (vc Tryz.prog (c114.at_ [1,0,1,0,0,1,0,0,1,1,1]) (ms114.drop 2)) (blockK 1 (seqK (vc Tryz.prog (c114.at_ [1,0,1,0,0,1,1]) (ms114.drop 2)) (thenK (fgK lv114_0 KE0) (blockK 0 (seqK (vc Tryz.prog (c114.at_ [1,1]) (ms114.drop 2)) (bodyK Tryz.prog r114 Q)))))))))) (∃ q52:AV,(shift v11 1 S fun v53 S=>v53 = q52 ∧ S = S0) ∧ ∃ q54:AV,(ld1 q52 S fun v55 S=>v55 = q54 ∧ S = S0) ∧ ∃ q56:AV,(ldN 8 y1 S fun v57 S=>v57 = q56 ∧ S = S0) ∧ ∃ q58:AV,(shift v11 0 S fun v59 S=>v59 = q58 ∧ S = S0) ∧ ∃ q60:AV,(ld1 q58 S fun v61 S=>v61 = q60 ∧ S = S0) ∧ ∃ q62:AV,(callF Tryz.prog 150 [q56,q60] S (fun _ _=>False) fun v63 S=>v63 = q62 ∧ S = S0) ∧ ∃ q64:AV,(bin .geq 0 q54 q62 S fun v65 S=>v65 = q64 ∧ S = S0) ∧ ∃ q66:AV,(q64 = q66 ∧ S = S0) ∧ onB q66 fun b67=>gd b67 (Q (.ret (.v (.bool false))) S) (loopV lv114_1 (vc Tryz.prog (c114.at_ [1,0,1,0,0,1,0,0,1,1,0,1,0,0]) (ms114.drop 2)) 85 (env114_1 y1 y3 v11 (.v (.int .i64 0))) S (blockK 2 (seqK (vc Tryz.prog (c114.at_ [1,0,1,0,0,1,0,0,1,1,1]) (ms114.drop 2)) (blockK 1 (seqK (vc Tryz.prog (c114.at_ [1,0,1,0,0,1,1]) (ms114.drop 2)) (thenK (fgK lv114_0 KE0) (blockK 0 (seqK (vc Tryz.prog (c114.at_ [1,1]) (ms114.drop 2)) (bodyK Tryz.prog r114 Q)))))))))))) S) (Q (.ret (.v (.bool true))) S)
theorem b114_0_eq (y1 y3:AV) (S:Store) (KE0:KeT) (Q:PoT):vc Tryz.prog (c114.at_ [1,0,1,0,0]) (ms114.drop 1) (mkE 85 lv114_0 (env114_0 y1 y3)) S (thenK (fgK lv114_0 KE0) (blockK 0 (seqK (vc Tryz.prog (c114.at_ [1,1]) (ms114.drop 2)) (bodyK Tryz.prog r114 Q)))) = b114_0 y1 y3 S KE0 Q:=by kernel_rfl
theorem loop114_0 {y1:AV} {y30:AV} {S:Store} {Q:PoT} (I:AV → Store → Prop) (μ:AV → Store → Nat) (h0:I y30 S)
    (hr:∀ (y3:AV) (S:Store),I y3 S → ∀ KE0:KeT,(∀ (y3':AV) (S':Store),I y3' S' → μ y3' S' < μ y3 S → KE0 85 (env114_0 y1 y3') S') → b114_0 y1 y3 S KE0 Q) :
    loopV lv114_0 (vc Tryz.prog (c114.at_ [1,0,1,0,0]) (ms114.drop 1)) 85 (env114_0 y1 y30) S (blockK 0 (seqK (vc Tryz.prog (c114.at_ [1,1]) (ms114.drop 2)) (bodyK Tryz.prog r114 Q))):=by
  refine ⟨fun n e S=>n = 85 ∧ ∃ y3:AV,e = (env114_0 y1 y3) ∧ I y3 S,fun _ e S=>μ (e.getD 1 .j) S,?_,?_⟩
  · exact ⟨_,_,Wk.refl _ _,rfl,_,rfl,h0⟩
  · rintro _ e S ⟨rfl,y3,rfl,hI⟩
    exact (b114_0_eq _ _ _ _ _).mpr (hr y3 S hI _ (fun y3' S' hI' hm=>⟨_,_,Wk.refl _ _,⟨rfl,_,rfl,hI'⟩,hm⟩))
def b114_1 (y1 y3 y4 y5:AV) (S:Store) (KE1:KeT) (KE0:KeT) (Q:PoT):Prop :=
  bin .lss 0 y5 y3 S fun v68 S=>onB v68 fun b69=>gd b69 ((fun S0:Store=>∃ q70:AV,(shift y1 7 S fun v71 S=>v71 = q70 ∧ S = S0) ∧ ∃ q72:AV,(ld1 q70 S fun v73 S=>v73 = q72 ∧ S = S0) ∧ ∃ q74:AV,(ixS 130 3 q72 y5 S fun v75 S=>v75 = q74 ∧ S = S0) ∧ ∃ q76:AV,(shift q74 2 S fun v77 S=>v77 = q76 ∧ S = S0) ∧ ∃ q78:AV,(ld1 q76 S fun v79 S=>v79 = q78 ∧ S = S0) ∧ ∃ q80:AV,(shift y4 2 S fun v81 S=>v81 = q80 ∧ S = S0) ∧ ∃ q82:AV,(ld1 q80 S fun v83 S=>v83 = q82 ∧ S = S0) ∧ ∃ q84:AV,(bin .eql 0 q78 q82 S fun v85 S=>v85 = q84 ∧ S = S0) ∧ onB q84 fun b86=>gd b86 (Q (.ret (.v (.bool false))) S) (bin .add 0 y5 (.v (.int .i64 1)) S fun v87 S=>KE1 85 (env114_1 y1 y3 y4 v87) S)) S) (bin .gtr 0 y3 (.v (.int .i64 0)) S fun v88 S=>onB v88 fun b89=>gd b89 ((fun S0:Store=>∃ q90:AV,(shift y1 7 S fun v91 S=>v91 = q90 ∧ S = S0) ∧ ∃ q92:AV,(ld1 q90 S fun v93 S=>v93 = q92 ∧ S = S0) ∧ ∃ q94:AV,(bin .sub 0 y3 (.v (.int .i64 1)) S fun v95 S=>v95 = q94 ∧ S = S0) ∧ ∃ q96:AV,(ixS 130 3 q92 q94 S fun v97 S=>v97 = q96 ∧ S = S0) ∧ ∃ q98:AV,(shift q96 0 S fun v99 S=>v99 = q98 ∧ S = S0) ∧ ∃ q100:AV,(ld1 q98 S fun v101 S=>v101 = q100 ∧ S = S0) ∧ ∃ q102:AV,(callF Tryz.prog 151 [q100] S (fun _ _=>False) fun v103 S=>v103 = q102 ∧ S = S0) ∧ ∃ q104:AV,(shift y4 0 S fun v105 S=>v105 = q104 ∧ S = S0) ∧ ∃ q106:AV,(ld1 q104 S fun v107 S=>v107 = q106 ∧ S = S0) ∧ ∃ q108:AV,(callF Tryz.prog 151 [q106] S (fun _ _=>False) fun v109 S=>v109 = q108 ∧ S = S0) ∧ (fun S0:Store=>∃ q110:AV,(bin .gtr 0 q102 q108 S fun v111 S=>v111 = q110 ∧ S = S0) ∧ onB q110 fun b112=>gd b112 (∃ q113:AV,((.v (.bool true)) = q113 ∧ S = S0) ∧ onB q113 fun b114=>gd b114 (Q (.ret (.v (.bool false))) S) (bin .add 0 y3 (.v (.int .i64 1)) S fun v115 S=>KE0 85 (env114_0 y1 v115) S)) (∃ q116:AV,(bin .eql 0 q102 q108 S fun v117 S=>v117 = q116 ∧ S = S0) ∧ onB q116 fun b118=>gd b118 (∃ q119:AV,(shift y1 7 S fun v120 S=>v120 = q119 ∧ S = S0) ∧ ∃ q121:AV,(ld1 q119 S fun v122 S=>v122 = q121 ∧ S = S0) ∧ ∃ q123:AV,(bin .sub 0 y3 (.v (.int .i64 1)) S fun v124 S=>v124 = q123 ∧ S = S0) ∧ ∃ q125:AV,(ixS 130 3 q121 q123 S fun v126 S=>v126 = q125 ∧ S = S0) ∧ ∃ q127:AV,(shift q125 1 S fun v128 S=>v128 = q127 ∧ S = S0) ∧ ∃ q129:AV,(ld1 q127 S fun v130 S=>v130 = q129 ∧ S = S0) ∧ ∃ q131:AV,(shift y4 1 S fun v132 S=>v132 = q131 ∧ S = S0) ∧ ∃ q133:AV,(ld1 q131 S fun v134 S=>v134 = q133 ∧ S = S0) ∧ ∃ q135:AV,(bin .geq 0 q129 q133 S fun v136 S=>v136 = q135 ∧ S = S0) ∧ ∃ q137:AV,(q135 = q137 ∧ S = S0) ∧ ∃ q138:AV,(q137 = q138 ∧ S = S0) ∧ onB q138 fun b139=>gd b139 (Q (.ret (.v (.bool false))) S) (bin .add 0 y3 (.v (.int .i64 1)) S fun v140 S=>KE0 85 (env114_0 y1 v140) S)) (∃ q141:AV,((.v (.bool false)) = q141 ∧ S = S0) ∧ ∃ q142:AV,(q141 = q142 ∧ S = S0) ∧ onB q142 fun b143=>gd b143 (Q (.ret (.v (.bool false))) S) (bin .add 0 y3 (.v (.int .i64 1)) S fun v144 S=>KE0 85 (env114_0 y1 v144) S)))) S) S) (bin .add 0 y3 (.v (.int .i64 1)) S fun v145 S=>KE0 85 (env114_0 y1 v145) S))
theorem b114_1_eq (y1 y3 y4 y5:AV) (S:Store) (KE1:KeT) (KE0:KeT) (Q:PoT):vc Tryz.prog (c114.at_ [1,0,1,0,0,1,0,0,1,1,0,1,0,0]) (ms114.drop 2) (mkE 85 lv114_1 (env114_1 y1 y3 y4 y5)) S (thenK (fgK lv114_1 KE1) (blockK 2 (seqK (vc Tryz.prog (c114.at_ [1,0,1,0,0,1,0,0,1,1,1]) (ms114.drop 2)) (blockK 1 (seqK (vc Tryz.prog (c114.at_ [1,0,1,0,0,1,1]) (ms114.drop 2)) (thenK (fgK lv114_0 KE0) (blockK 0 (seqK (vc Tryz.prog (c114.at_ [1,1]) (ms114.drop 2)) (bodyK Tryz.prog r114 Q))))))))) = b114_1 y1 y3 y4 y5 S KE1 KE0 Q:=by kernel_rfl
theorem loop114_1 {y1 y3 y4:AV} {y50:AV} {S:Store} {KE0:KeT} {Q:PoT} (I:AV → Store → Prop) (μ:AV → Store → Nat) (h0:I y50 S)
    (hr:∀ (y5:AV) (S:Store),I y5 S → ∀ KE1:KeT,(∀ (y5':AV) (S':Store),I y5' S' → μ y5' S' < μ y5 S → KE1 85 (env114_1 y1 y3 y4 y5') S') → b114_1 y1 y3 y4 y5 S KE1 KE0 Q) :
    loopV lv114_1 (vc Tryz.prog (c114.at_ [1,0,1,0,0,1,0,0,1,1,0,1,0,0]) (ms114.drop 2)) 85 (env114_1 y1 y3 y4 y50) S (blockK 2 (seqK (vc Tryz.prog (c114.at_ [1,0,1,0,0,1,0,0,1,1,1]) (ms114.drop 2)) (blockK 1 (seqK (vc Tryz.prog (c114.at_ [1,0,1,0,0,1,1]) (ms114.drop 2)) (thenK (fgK lv114_0 KE0) (blockK 0 (seqK (vc Tryz.prog (c114.at_ [1,1]) (ms114.drop 2)) (bodyK Tryz.prog r114 Q)))))))):=by
  refine ⟨fun n e S=>n = 85 ∧ ∃ y5:AV,e = (env114_1 y1 y3 y4 y5) ∧ I y5 S,fun _ e S=>μ (e.getD 3 .j) S,?_,?_⟩
  · exact ⟨_,_,Wk.refl _ _,rfl,_,rfl,h0⟩
  · rintro _ e S ⟨rfl,y5,rfl,hI⟩
    exact (b114_1_eq _ _ _ _ _ _ _ _).mpr (hr y5 S hI _ (fun y5' S' hI' hm=>⟨_,_,Wk.refl _ _,⟨rfl,_,rfl,hI'⟩,hm⟩))
noncomputable def c113:Code:=(Tryz.f113.body).getD .skip
noncomputable def r113:List ResultVar:=Tryz.f113.results.toList
def env113_0 (y1 y2 y5:AV):List AV:=[y1,y2,y5]
def lv113_0:List Nat:=[1,2,5]
def ms113:List (List Nat):=[lv113_0,[]]
def m113 (x0 x1:AV) (S:Store) (Q:PoT):Prop :=
  boxN 82 2 x0 S fun v1 S=>loopV lv113_0 (vc Tryz.prog (c113.at_ [1,0,1,0,0]) (ms113.drop 1)) 22 (env113_0 x1 v1 (.v (.int .i64 0))) S (blockK 0 (seqK (vc Tryz.prog (c113.at_ [1,1]) (ms113.drop 1)) (bodyK Tryz.prog r113 Q)))
theorem calls113 {x0 x1:AV} {S:Store} {Q:PoT} (h:m113 x0 x1 S Q):ACalls Tryz.prog 113 [x0,x1] S Q :=
  calls_of_vc (fn:=Tryz.f113) (c:=c113) (n:=22) Tryz.func113 (by kernel_rfl) (by kernel_rfl) (by kernel_rfl) ms113 (Eq.mpr (by kernel_rfl) h)
def b113_0 (y1 y2 y5:AV) (S:Store) (KE0:KeT) (Q:PoT):Prop :=
  lenS y1 S fun v2 S=>bin .lss 0 y5 v2 S fun v3 S=>onB v3 fun b4=>gd b4 ((fun S0:Store=>∃ q5:AV,(ldN 2 y2 S fun v6 S=>v6 = q5 ∧ S = S0) ∧ ∃ q7:AV,(ixS 3 1 y1 y5 S fun v8 S=>v8 = q7 ∧ S = S0) ∧ ∃ q9:AV,(ld1 q7 S fun v10 S=>v10 = q9 ∧ S = S0) ∧ ∃ q11:AV,(callF Tryz.prog 112 [q5,q9] S (fun _ _=>False) fun v12 S=>v12 = q11 ∧ S = S0) ∧ ∃ q13:AV,(un .not q11 S fun v14 S=>v14 = q13 ∧ S = S0) ∧ onB q13 fun b15=>gd b15 (Q (.ret (.v (.bool false))) S) (bin .add 0 y5 (.v (.int .i64 1)) S fun v16 S=>KE0 22 (env113_0 y1 y2 v16) S)) S) (lenS y1 S fun v17 S=>bin .leq 0 v17 (.v (.int .i64 2000)) S fun v18 S=>Q (.ret v18) S)
theorem b113_0_eq (y1 y2 y5:AV) (S:Store) (KE0:KeT) (Q:PoT):vc Tryz.prog (c113.at_ [1,0,1,0,0]) (ms113.drop 1) (mkE 22 lv113_0 (env113_0 y1 y2 y5)) S (thenK (fgK lv113_0 KE0) (blockK 0 (seqK (vc Tryz.prog (c113.at_ [1,1]) (ms113.drop 1)) (bodyK Tryz.prog r113 Q)))) = b113_0 y1 y2 y5 S KE0 Q:=by kernel_rfl
theorem loop113_0 {y1 y2:AV} {y50:AV} {S:Store} {Q:PoT} (I:AV → Store → Prop) (μ:AV → Store → Nat) (h0:I y50 S)
    (hr:∀ (y5:AV) (S:Store),I y5 S → ∀ KE0:KeT,(∀ (y5':AV) (S':Store),I y5' S' → μ y5' S' < μ y5 S → KE0 22 (env113_0 y1 y2 y5') S') → b113_0 y1 y2 y5 S KE0 Q) :
    loopV lv113_0 (vc Tryz.prog (c113.at_ [1,0,1,0,0]) (ms113.drop 1)) 22 (env113_0 y1 y2 y50) S (blockK 0 (seqK (vc Tryz.prog (c113.at_ [1,1]) (ms113.drop 1)) (bodyK Tryz.prog r113 Q))):=by
  refine ⟨fun n e S=>n = 22 ∧ ∃ y5:AV,e = (env113_0 y1 y2 y5) ∧ I y5 S,fun _ e S=>μ (e.getD 2 .j) S,?_,?_⟩
  · exact ⟨_,_,Wk.refl _ _,rfl,_,rfl,h0⟩
  · rintro _ e S ⟨rfl,y5,rfl,hI⟩
    exact (b113_0_eq _ _ _ _ _ _).mpr (hr y5 S hI _ (fun y5' S' hI' hm=>⟨_,_,Wk.refl _ _,⟨rfl,_,rfl,hI'⟩,hm⟩))
noncomputable def c133:Code:=(Tryz.f133.body).getD .skip
noncomputable def r133:List ResultVar:=Tryz.f133.results.toList
def env133_0 (y1 y3 y4 y12 y13 y14:AV):List AV:=[y1,y3,y4,y12,y13,y14]
def lv133_0:List Nat:=[1,3,4,12,13,14]
def ms133:List (List Nat):=[lv133_0,[]]
def m133 (x0:AV) (S:Store) (Q:PoT):Prop :=
  boxN 42 8 x0 S fun v1 S=>ldN 8 v1 S fun v2 S=>callF Tryz.prog 127 [v2] S Q fun v3 S=>mkM .s S fun v4 S=>shift v1 7 S fun v5 S=>ld1 v5 S fun v6 S=>lenS v6 S fun v7 S=>loopV lv133_0 (vc Tryz.prog (c133.at_ [1,1,1,0,1,0,0]) (ms133.drop 1)) 78 (env133_0 v1 v3 v4 v6 v7 (.v (.int .i64 0))) S (blockK 0 (seqK (vc Tryz.prog (c133.at_ [1,1,1,1]) (ms133.drop 1)) (bodyK Tryz.prog r133 Q)))
theorem calls133 {x0:AV} {S:Store} {Q:PoT} (h:m133 x0 S Q):ACalls Tryz.prog 133 [x0] S Q :=
  calls_of_vc (fn:=Tryz.f133) (c:=c133) (n:=78) Tryz.func133 (by kernel_rfl) (by kernel_rfl) (by kernel_rfl) ms133 (Eq.mpr (by kernel_rfl) h)
def b133_0 (y1 y3 y4 y12 y13 y14:AV) (S:Store) (KE0:KeT) (Q:PoT):Prop :=
  bin .lss 0 y14 y13 S fun v8 S=>onB v8 fun b9=>gd b9 (ixS 130 3 y12 y14 S fun v10 S=>ldN 3 v10 S fun v11 S=>boxN 130 3 (.a [(.v (.int .u8 0)),(.v (.int .i64 0)),(.v (.string ByteArray.empty))]) S fun v12 S=>stN 3 v12 v11 S fun v13 S=>shift v12 2 S fun v14 S=>ld1 v14 S fun v15 S=>callF Tryz.prog 167 [v15] S Q fun v16 S=>un .not v16 S fun v17 S=>onB v17 fun b18=>gd b18 (Q (.ret (.v (.bool false))) S) (shift v12 0 S fun v19 S=>ld1 v19 S fun v20 S=>callF Tryz.prog 168 [v20] S Q fun v21 S=>bin .lss 0 v21 (.v (.int .i64 0)) S fun v22 S=>onB v22 fun b23=>gd b23 (Q (.ret (.v (.bool false))) S) (shift v12 1 S fun v24 S=>ld1 v24 S fun v25 S=>bin .lss 0 v25 (.v (.int .i64 0)) S fun v26 S=>onB v26 fun b27=>gd b27 (Q (.ret (.v (.bool false))) S) (shift v12 1 S fun v28 S=>ld1 v28 S fun v29 S=>shift v12 0 S fun v30 S=>ld1 v30 S fun v31 S=>convI .i32 v31 S fun v32 S=>lkM (.i .i32) (.v (.int .i64 0)) false y3 v32 S fun v33 S=>bin .geq 0 v29 v33 S fun v34 S=>onB v34 fun b35=>gd b35 (Q (.ret (.v (.bool false))) S) (shift v12 2 S fun v36 S=>ld1 v36 S fun v37 S=>bld [] [] [] S fun v38 S=>updM .s y4 v37 v38 S fun v39 S=>bin .eql 0 y14 (.v (.int .i64 0)) S fun v40 S=>onB v40 fun b41=>gd b41 (bin .add 0 y14 (.v (.int .i64 1)) S fun v42 S=>KE0 78 (env133_0 y1 y3 y4 y12 y13 v42) S) (shift y1 7 S fun v43 S=>ld1 v43 S fun v44 S=>bin .sub 0 y14 (.v (.int .i64 1)) S fun v45 S=>ixS 130 3 v44 v45 S fun v46 S=>ldN 3 v46 S fun v47 S=>boxN 130 3 (.a [(.v (.int .u8 0)),(.v (.int .i64 0)),(.v (.string ByteArray.empty))]) S fun v48 S=>stN 3 v48 v47 S fun v49 S=>(fun S0:Store=>∃ q50:AV,(shift v48 0 S fun v51 S=>v51 = q50 ∧ S = S0) ∧ ∃ q52:AV,(ld1 q50 S fun v53 S=>v53 = q52 ∧ S = S0) ∧ ∃ q54:AV,(callF Tryz.prog 168 [q52] S (fun _ _=>False) fun v55 S=>v55 = q54 ∧ S = S0) ∧ ∃ q56:AV,(shift v12 0 S fun v57 S=>v57 = q56 ∧ S = S0) ∧ ∃ q58:AV,(ld1 q56 S fun v59 S=>v59 = q58 ∧ S = S0) ∧ ∃ q60:AV,(callF Tryz.prog 168 [q58] S (fun _ _=>False) fun v61 S=>v61 = q60 ∧ S = S0) ∧ ∃ q62:AV,(callF Tryz.prog 170 [q54,q60] S (fun _ _=>False) fun v63 S=>v63 = q62 ∧ S = S0) ∧ ∃ q64:AV,(shift v48 1 S fun v65 S=>v65 = q64 ∧ S = S0) ∧ ∃ q66:AV,(ld1 q64 S fun v67 S=>v67 = q66 ∧ S = S0) ∧ ∃ q68:AV,(shift v12 1 S fun v69 S=>v69 = q68 ∧ S = S0) ∧ ∃ q70:AV,(ld1 q68 S fun v71 S=>v71 = q70 ∧ S = S0) ∧ ∃ q72:AV,(callF Tryz.prog 170 [q66,q70] S (fun _ _=>False) fun v73 S=>v73 = q72 ∧ S = S0) ∧ ∃ q74:AV,(bslN 3 1 2 [(.v (.int .i64 0))] [(0,q62),(1,q72)] S fun v75 S=>v75 = q74 ∧ S = S0) ∧ ∃ q76:AV,(callF Tryz.prog 169 [q74] S (fun _ _=>False) fun v77 S=>v77 = q76 ∧ S = S0) ∧ ∃ q78:AV,(bin .geq 0 q76 (.v (.int .i64 0)) S fun v79 S=>v79 = q78 ∧ S = S0) ∧ onB q78 fun b80=>gd b80 (Q (.ret (.v (.bool false))) S) (bin .add 0 y14 (.v (.int .i64 1)) S fun v81 S=>KE0 78 (env133_0 y1 y3 y4 y12 y13 v81) S)) S)))))) (lenM y4 S fun v82 S=>shift y1 7 S fun v83 S=>ld1 v83 S fun v84 S=>lenS v84 S fun v85 S=>bin .eql 0 v82 v85 S fun v86 S=>Q (.ret v86) S)
theorem b133_0_eq (y1 y3 y4 y12 y13 y14:AV) (S:Store) (KE0:KeT) (Q:PoT):vc Tryz.prog (c133.at_ [1,1,1,0,1,0,0]) (ms133.drop 1) (mkE 78 lv133_0 (env133_0 y1 y3 y4 y12 y13 y14)) S (thenK (fgK lv133_0 KE0) (blockK 0 (seqK (vc Tryz.prog (c133.at_ [1,1,1,1]) (ms133.drop 1)) (bodyK Tryz.prog r133 Q)))) = b133_0 y1 y3 y4 y12 y13 y14 S KE0 Q:=by kernel_rfl
theorem loop133_0 {y1 y3 y4 y12 y13:AV} {y140:AV} {S:Store} {Q:PoT} (I:AV → Store → Prop) (μ:AV → Store → Nat) (h0:I y140 S)
    (hr:∀ (y14:AV) (S:Store),I y14 S → ∀ KE0:KeT,(∀ (y14':AV) (S':Store),I y14' S' → μ y14' S' < μ y14 S → KE0 78 (env133_0 y1 y3 y4 y12 y13 y14') S') → b133_0 y1 y3 y4 y12 y13 y14 S KE0 Q) :
    loopV lv133_0 (vc Tryz.prog (c133.at_ [1,1,1,0,1,0,0]) (ms133.drop 1)) 78 (env133_0 y1 y3 y4 y12 y13 y140) S (blockK 0 (seqK (vc Tryz.prog (c133.at_ [1,1,1,1]) (ms133.drop 1)) (bodyK Tryz.prog r133 Q))):=by
  refine ⟨fun n e S=>n = 78 ∧ ∃ y14:AV,e = (env133_0 y1 y3 y4 y12 y13 y14) ∧ I y14 S,fun _ e S=>μ (e.getD 5 .j) S,?_,?_⟩
  · exact ⟨_,_,Wk.refl _ _,rfl,_,rfl,h0⟩
  · rintro _ e S ⟨rfl,y14,rfl,hI⟩
    exact (b133_0_eq _ _ _ _ _ _ _ _ _).mpr (hr y14 S hI _ (fun y14' S' hI' hm=>⟨_,_,Wk.refl _ _,⟨rfl,_,rfl,hI'⟩,hm⟩))
noncomputable def c185:Code:=(Tryz.f185.body).getD .skip
def ms185:List (List Nat):=[[]]
def m185 (x0:AV) (S:Store) (Q:PoT):Prop :=
  bin .neq 0 x0 x0 S fun v1 S=>Q (.ret v1) S
theorem calls185 {x0:AV} {S:Store} {Q:PoT} (h:m185 x0 S Q):ACalls Tryz.prog 185 [x0] S Q :=
  calls_of_vc (fn:=Tryz.f185) (c:=c185) (n:=6) Tryz.func185 (by kernel_rfl) (by kernel_rfl) (by kernel_rfl) ms185 (Eq.mpr (by kernel_rfl) h)
noncomputable def c170:Code:=(Tryz.f170.body).getD .skip
def ms170:List (List Nat):=[[]]
def m170 (x0 x1:AV) (S:Store) (Q:PoT):Prop :=
  callF Tryz.prog 185 [x0] S Q fun v1 S=>callF Tryz.prog 185 [x1] S Q fun v2 S=>onB v1 fun b3=>gd b3 (onB v2 fun b4=>gd b4 (Q (.ret (.v (.int .i64 0))) S) (Q (.ret (.v (.int .i64 (-1)))) S)) (onB v2 fun b5=>gd b5 (Q (.ret (.v (.int .i64 1))) S) (bin .lss 0 x0 x1 S fun v6 S=>onB v6 fun b7=>gd b7 (Q (.ret (.v (.int .i64 (-1)))) S) (bin .gtr 0 x0 x1 S fun v8 S=>onB v8 fun b9=>gd b9 (Q (.ret (.v (.int .i64 1))) S) (Q (.ret (.v (.int .i64 0))) S))))
theorem calls170 {x0 x1:AV} {S:Store} {Q:PoT} (h:m170 x0 x1 S Q):ACalls Tryz.prog 170 [x0,x1] S Q :=
  calls_of_vc (fn:=Tryz.f170) (c:=c170) (n:=20) Tryz.func170 (by kernel_rfl) (by kernel_rfl) (by kernel_rfl) ms170 (Eq.mpr (by kernel_rfl) h)
noncomputable def c169:Code:=(Tryz.f169.body).getD .skip
noncomputable def r169:List ResultVar:=Tryz.f169.results.toList
def env169_0 (y3 y6 y7 y8:AV):List AV:=[y3,y6,y7,y8]
def lv169_0:List Nat:=[3,6,7,8]
def ms169:List (List Nat):=[lv169_0,[]]
def m169 (x0:AV) (S:Store) (Q:PoT):Prop :=
  lenS x0 S fun v1 S=>loopV lv169_0 (vc Tryz.prog (c169.at_ [1,1,0,1,0,0]) (ms169.drop 1)) 18 (env169_0 (.v (.int .i64 0)) x0 v1 (.v (.int .i64 0))) S (blockK 0 (seqK (vc Tryz.prog (c169.at_ [1,1,1]) (ms169.drop 1)) (bodyK Tryz.prog r169 Q)))
theorem calls169 {x0:AV} {S:Store} {Q:PoT} (h:m169 x0 S Q):ACalls Tryz.prog 169 [x0] S Q :=
  calls_of_vc (fn:=Tryz.f169) (c:=c169) (n:=18) Tryz.func169 (by kernel_rfl) (by kernel_rfl) (by kernel_rfl) ms169 (Eq.mpr (by kernel_rfl) h)
def b169_0 (y3 y6 y7 y8:AV) (S:Store) (KE0:KeT) (Q:PoT):Prop :=
  bin .lss 0 y8 y7 S fun v2 S=>onB v2 fun b3=>gd b3 (ixS 3 1 y6 y8 S fun v4 S=>ld1 v4 S fun v5 S=>bin .neq 0 v5 y3 S fun v6 S=>onB v6 fun b7=>gd b7 (Q (.ret v5) S) (bin .add 0 y8 (.v (.int .i64 1)) S fun v8 S=>KE0 18 (env169_0 y3 y6 y7 v8) S)) (Q (.ret y3) S)
theorem b169_0_eq (y3 y6 y7 y8:AV) (S:Store) (KE0:KeT) (Q:PoT):vc Tryz.prog (c169.at_ [1,1,0,1,0,0]) (ms169.drop 1) (mkE 18 lv169_0 (env169_0 y3 y6 y7 y8)) S (thenK (fgK lv169_0 KE0) (blockK 0 (seqK (vc Tryz.prog (c169.at_ [1,1,1]) (ms169.drop 1)) (bodyK Tryz.prog r169 Q)))) = b169_0 y3 y6 y7 y8 S KE0 Q:=by kernel_rfl
theorem loop169_0 {y3 y6 y7:AV} {y80:AV} {S:Store} {Q:PoT} (I:AV → Store → Prop) (μ:AV → Store → Nat) (h0:I y80 S)
    (hr:∀ (y8:AV) (S:Store),I y8 S → ∀ KE0:KeT,(∀ (y8':AV) (S':Store),I y8' S' → μ y8' S' < μ y8 S → KE0 18 (env169_0 y3 y6 y7 y8') S') → b169_0 y3 y6 y7 y8 S KE0 Q) :
    loopV lv169_0 (vc Tryz.prog (c169.at_ [1,1,0,1,0,0]) (ms169.drop 1)) 18 (env169_0 y3 y6 y7 y80) S (blockK 0 (seqK (vc Tryz.prog (c169.at_ [1,1,1]) (ms169.drop 1)) (bodyK Tryz.prog r169 Q))):=by
  refine ⟨fun n e S=>n = 18 ∧ ∃ y8:AV,e = (env169_0 y3 y6 y7 y8) ∧ I y8 S,fun _ e S=>μ (e.getD 3 .j) S,?_,?_⟩
  · exact ⟨_,_,Wk.refl _ _,rfl,_,rfl,h0⟩
  · rintro _ e S ⟨rfl,y8,rfl,hI⟩
    exact (b169_0_eq _ _ _ _ _ _ _).mpr (hr y8 S hI _ (fun y8' S' hI' hm=>⟨_,_,Wk.refl _ _,⟨rfl,_,rfl,hI'⟩,hm⟩))
noncomputable def c84:Code:=(Tryz.f84.body).getD .skip
def ms84:List (List Nat):=[[]]
def m84 (x0:AV) (S:Store) (Q:PoT):Prop :=
  boxN 42 8 x0 S fun v1 S=>boxN 82 2 (.a [(.v (.int .i64 0)),.nl]) S fun v2 S=>shift v1 0 S fun v3 S=>ld1 v3 S fun v4 S=>shift v1 1 S fun v5 S=>ld1 v5 S fun v6 S=>lenS v6 S fun v7 S=>bin .add 0 v4 v7 S fun v8 S=>shift v1 2 S fun v9 S=>ld1 v9 S fun v10 S=>bld [(0,1),(1,1)] [(.v (.int .i64 0)),.nl] [(0,v8),(1,v10)] S fun v11 S=>stN 2 v2 v11 S fun v12 S=>ldN 2 v2 S fun v13 _=>Q (.ret v13) S
theorem calls84 {x0:AV} {S:Store} {Q:PoT} (h:m84 x0 S Q):ACalls Tryz.prog 84 [x0] S Q :=
  calls_of_vc (fn:=Tryz.f84) (c:=c84) (n:=12) Tryz.func84 (by kernel_rfl) (by kernel_rfl) (by kernel_rfl) ms84 (Eq.mpr (by kernel_rfl) h)
noncomputable def c41:Code:=(Tryz.f41.body).getD .skip
def ms41:List (List Nat):=[[]]
def m41 (x0:AV) (S:Store) (Q:PoT):Prop :=
  boxN 42 8 x0 S fun v1 S=>boxN 82 2 (.a [(.v (.int .i64 0)),.nl]) S fun v2 S=>shift v1 0 S fun v3 S=>ld1 v3 S fun v4 S=>shift v1 1 S fun v5 S=>ld1 v5 S fun v6 S=>lenS v6 S fun v7 S=>bin .add 0 v4 v7 S fun v8 S=>shift v1 2 S fun v9 S=>ld1 v9 S fun v10 S=>bld [(0,1),(1,1)] [(.v (.int .i64 0)),.nl] [(0,v8),(1,v10)] S fun v11 S=>stN 2 v2 v11 S fun v12 S=>ldN 2 v2 S fun v13 _=>Q (.ret v13) S
theorem calls41 {x0:AV} {S:Store} {Q:PoT} (h:m41 x0 S Q):ACalls Tryz.prog 41 [x0] S Q :=
  calls_of_vc (fn:=Tryz.f41) (c:=c41) (n:=12) Tryz.func41 (by kernel_rfl) (by kernel_rfl) (by kernel_rfl) ms41 (Eq.mpr (by kernel_rfl) h)
noncomputable def c127:Code:=(Tryz.f127.body).getD .skip
def ms127:List (List Nat):=[[]]
def m127 (x0:AV) (S:Store) (Q:PoT):Prop :=
  boxN 42 8 x0 S fun v1 S=>mkM (.i .i32) S fun v2 S=>shift v1 0 S fun v3 S=>ld1 v3 S fun v4 S=>updM (.i .i32) v2 (.v (.int .i32 105)) v4 S fun v5 S=>shift v1 1 S fun v6 S=>ld1 v6 S fun v7 S=>lenS v7 S fun v8 S=>updM (.i .i32) v2 (.v (.int .i32 108)) v8 S fun v9 S=>shift v1 3 S fun v10 S=>ld1 v10 S fun v11 S=>lenS v11 S fun v12 S=>updM (.i .i32) v2 (.v (.int .i32 111)) v12 S fun v13 S=>shift v1 4 S fun v14 S=>ld1 v14 S fun v15 S=>lenS v15 S fun v16 S=>updM (.i .i32) v2 (.v (.int .i32 98)) v16 S fun v17 S=>shift v1 5 S fun v18 S=>ld1 v18 S fun v19 S=>lenS v19 S fun v20 S=>updM (.i .i32) v2 (.v (.int .i32 99)) v20 S fun v21 S=>shift v1 6 S fun v22 S=>ld1 v22 S fun v23 S=>lenS v23 S fun v24 S=>updM (.i .i32) v2 (.v (.int .i32 102)) v24 S fun v25 S=>Q (.ret v2) S
theorem calls127 {x0:AV} {S:Store} {Q:PoT} (h:m127 x0 S Q):ACalls Tryz.prog 127 [x0] S Q :=
  calls_of_vc (fn:=Tryz.f127) (c:=c127) (n:=22) Tryz.func127 (by kernel_rfl) (by kernel_rfl) (by kernel_rfl) ms127 (Eq.mpr (by kernel_rfl) h)
noncomputable def c150:Code:=(Tryz.f150.body).getD .skip
def ms150:List (List Nat):=[[]]
def m150 (x0 x1:AV) (S:Store) (Q:PoT):Prop :=
  boxN 42 8 x0 S fun v1 S=>callF Tryz.prog 151 [x1] S Q fun v2 S=>bin .lss 0 v2 (.v (.int .i64 0)) S fun v3 S=>onB v3 fun b4=>gd b4 (Q (.ret (.v (.int .i64 0))) S) (shift v1 0 S fun v5 S=>ld1 v5 S fun v6 S=>shift v1 1 S fun v7 S=>ld1 v7 S fun v8 S=>lenS v8 S fun v9 S=>shift v1 3 S fun v10 S=>ld1 v10 S fun v11 S=>lenS v11 S fun v12 S=>shift v1 4 S fun v13 S=>ld1 v13 S fun v14 S=>lenS v14 S fun v15 S=>shift v1 5 S fun v16 S=>ld1 v16 S fun v17 S=>lenS v17 S fun v18 S=>shift v1 6 S fun v19 S=>ld1 v19 S fun v20 S=>lenS v20 S fun v21 S=>bslN 3 1 6 [(.v (.int .i64 0))] [(0,v6),(1,v9),(2,v12),(3,v15),(4,v18),(5,v21)] S fun v22 S=>ixS 3 1 v22 v2 S fun v23 S=>ld1 v23 S fun v24 S=>Q (.ret v24) S)
theorem calls150 {x0 x1:AV} {S:Store} {Q:PoT} (h:m150 x0 x1 S Q):ACalls Tryz.prog 150 [x0,x1] S Q :=
  calls_of_vc (fn:=Tryz.f150) (c:=c150) (n:=31) Tryz.func150 (by kernel_rfl) (by kernel_rfl) (by kernel_rfl) ms150 (Eq.mpr (by kernel_rfl) h)
noncomputable def c149:Code:=(Tryz.f149.body).getD .skip
noncomputable def r149:List ResultVar:=Tryz.f149.results.toList
def env149_0 (y0 y3:AV):List AV:=[y0,y3]
def lv149_0:List Nat:=[0,3]
def ms149:List (List Nat):=[lv149_0,[]]
def m149 (x0:AV) (S:Store) (Q:PoT):Prop :=
  loopV lv149_0 (vc Tryz.prog (c149.at_ [1,0,1,0,0]) (ms149.drop 1)) 28 (env149_0 x0 (.v (.int .i64 0))) S (blockK 0 (seqK (vc Tryz.prog (c149.at_ [1,1]) (ms149.drop 1)) (bodyK Tryz.prog r149 Q)))
theorem calls149 {x0:AV} {S:Store} {Q:PoT} (h:m149 x0 S Q):ACalls Tryz.prog 149 [x0] S Q :=
  calls_of_vc (fn:=Tryz.f149) (c:=c149) (n:=28) Tryz.func149 (by kernel_rfl) (by kernel_rfl) (by kernel_rfl) ms149 (Eq.mpr (by kernel_rfl) h)
def b149_0 (y0 y3:AV) (S:Store) (KE0:KeT) (Q:PoT):Prop :=
  lenStr y0 S fun v1 S=>bin .lss 0 y3 v1 S fun v2 S=>onB v2 fun b3=>gd b3 (ixStr y0 y3 S fun v4 S=>bin .lss 0 v4 (.v (.int .u8 33)) S fun v5 S=>onB v5 fun b6=>gd b6 (Q (.ret (.v (.bool false))) S) (ixStr y0 y3 S fun v7 S=>bin .gtr 0 v7 (.v (.int .u8 126)) S fun v8 S=>onB v8 fun b9=>gd b9 (Q (.ret (.v (.bool false))) S) (bin .add 0 y3 (.v (.int .i64 1)) S fun v10 S=>KE0 28 (env149_0 y0 v10) S))) (lenStr y0 S fun v11 S=>bin .gtr 0 v11 (.v (.int .i64 0)) S fun v12 S=>onB v12 fun b13=>gd b13 (lenStr y0 S fun v14 S=>bin .leq 0 v14 (.v (.int .i64 20)) S fun v15 S=>Q (.ret v15) S) (Q (.ret (.v (.bool false))) S))
theorem b149_0_eq (y0 y3:AV) (S:Store) (KE0:KeT) (Q:PoT):vc Tryz.prog (c149.at_ [1,0,1,0,0]) (ms149.drop 1) (mkE 28 lv149_0 (env149_0 y0 y3)) S (thenK (fgK lv149_0 KE0) (blockK 0 (seqK (vc Tryz.prog (c149.at_ [1,1]) (ms149.drop 1)) (bodyK Tryz.prog r149 Q)))) = b149_0 y0 y3 S KE0 Q:=by kernel_rfl
theorem loop149_0 {y0:AV} {y30:AV} {S:Store} {Q:PoT} (I:AV → Store → Prop) (μ:AV → Store → Nat) (h0:I y30 S)
    (hr:∀ (y3:AV) (S:Store),I y3 S → ∀ KE0:KeT,(∀ (y3':AV) (S':Store),I y3' S' → μ y3' S' < μ y3 S → KE0 28 (env149_0 y0 y3') S') → b149_0 y0 y3 S KE0 Q) :
    loopV lv149_0 (vc Tryz.prog (c149.at_ [1,0,1,0,0]) (ms149.drop 1)) 28 (env149_0 y0 y30) S (blockK 0 (seqK (vc Tryz.prog (c149.at_ [1,1]) (ms149.drop 1)) (bodyK Tryz.prog r149 Q))):=by
  refine ⟨fun n e S=>n = 28 ∧ ∃ y3:AV,e = (env149_0 y0 y3) ∧ I y3 S,fun _ e S=>μ (e.getD 1 .j) S,?_,?_⟩
  · exact ⟨_,_,Wk.refl _ _,rfl,_,rfl,h0⟩
  · rintro _ e S ⟨rfl,y3,rfl,hI⟩
    exact (b149_0_eq _ _ _ _ _).mpr (hr y3 S hI _ (fun y3' S' hI' hm=>⟨_,_,Wk.refl _ _,⟨rfl,_,rfl,hI'⟩,hm⟩))
noncomputable def c167:Code:=(Tryz.f167.body).getD .skip
noncomputable def r167:List ResultVar:=Tryz.f167.results.toList
def env167_0 (y0 y5 y6:AV):List AV:=[y0,y5,y6]
def lv167_0:List Nat:=[0,5,6]
def ms167:List (List Nat):=[lv167_0,[]]
def m167 (x0:AV) (S:Store) (Q:PoT):Prop :=
  lenStr x0 S fun v1 S=>loopV lv167_0 (vc Tryz.prog (c167.at_ [1,0,1,0,0]) (ms167.drop 1)) 27 (env167_0 x0 v1 (.v (.int .i64 0))) S (blockK 0 (seqK (vc Tryz.prog (c167.at_ [1,1]) (ms167.drop 1)) (bodyK Tryz.prog r167 Q)))
theorem calls167 {x0:AV} {S:Store} {Q:PoT} (h:m167 x0 S Q):ACalls Tryz.prog 167 [x0] S Q :=
  calls_of_vc (fn:=Tryz.f167) (c:=c167) (n:=27) Tryz.func167 (by kernel_rfl) (by kernel_rfl) (by kernel_rfl) ms167 (Eq.mpr (by kernel_rfl) h)
def b167_0 (y0 y5 y6:AV) (S:Store) (KE0:KeT) (Q:PoT):Prop :=
  bin .lss 0 y6 y5 S fun v2 S=>onB v2 fun b3=>gd b3 (ixStr y0 y6 S fun v4 S=>bin .leq 0 v4 (.v (.int .u8 32)) S fun v5 S=>onB v5 fun b6=>gd b6 (Q (.ret (.v (.bool false))) S) (ixStr y0 y6 S fun v7 S=>bin .gtr 0 v7 (.v (.int .u8 126)) S fun v8 S=>onB v8 fun b9=>gd b9 (Q (.ret (.v (.bool false))) S) (bin .add 0 y6 (.v (.int .i64 1)) S fun v10 S=>KE0 27 (env167_0 y0 y5 v10) S))) (bin .neq 0 y0 (.v (.string { data:=#[] })) S fun v11 S=>onB v11 fun b12=>gd b12 (lenStr y0 S fun v13 S=>bin .leq 0 v13 (.v (.int .i64 20)) S fun v14 S=>Q (.ret v14) S) (Q (.ret (.v (.bool false))) S))
theorem b167_0_eq (y0 y5 y6:AV) (S:Store) (KE0:KeT) (Q:PoT):vc Tryz.prog (c167.at_ [1,0,1,0,0]) (ms167.drop 1) (mkE 27 lv167_0 (env167_0 y0 y5 y6)) S (thenK (fgK lv167_0 KE0) (blockK 0 (seqK (vc Tryz.prog (c167.at_ [1,1]) (ms167.drop 1)) (bodyK Tryz.prog r167 Q)))) = b167_0 y0 y5 y6 S KE0 Q:=by kernel_rfl
theorem loop167_0 {y0 y5:AV} {y60:AV} {S:Store} {Q:PoT} (I:AV → Store → Prop) (μ:AV → Store → Nat) (h0:I y60 S)
    (hr:∀ (y6:AV) (S:Store),I y6 S → ∀ KE0:KeT,(∀ (y6':AV) (S':Store),I y6' S' → μ y6' S' < μ y6 S → KE0 27 (env167_0 y0 y5 y6') S') → b167_0 y0 y5 y6 S KE0 Q) :
    loopV lv167_0 (vc Tryz.prog (c167.at_ [1,0,1,0,0]) (ms167.drop 1)) 27 (env167_0 y0 y5 y60) S (blockK 0 (seqK (vc Tryz.prog (c167.at_ [1,1]) (ms167.drop 1)) (bodyK Tryz.prog r167 Q))):=by
  refine ⟨fun n e S=>n = 27 ∧ ∃ y6:AV,e = (env167_0 y0 y5 y6) ∧ I y6 S,fun _ e S=>μ (e.getD 2 .j) S,?_,?_⟩
  · exact ⟨_,_,Wk.refl _ _,rfl,_,rfl,h0⟩
  · rintro _ e S ⟨rfl,y6,rfl,hI⟩
    exact (b167_0_eq _ _ _ _ _ _).mpr (hr y6 S hI _ (fun y6' S' hI' hm=>⟨_,_,Wk.refl _ _,⟨rfl,_,rfl,hI'⟩,hm⟩))
noncomputable def c151:Code:=(Tryz.f151.body).getD .skip
noncomputable def r151:List ResultVar:=Tryz.f151.results.toList
def env151_0 (y0 y3 y4:AV):List AV:=[y0,y3,y4]
def lv151_0:List Nat:=[0,3,4]
def ms151:List (List Nat):=[lv151_0,[]]
def m151 (x0:AV) (S:Store) (Q:PoT):Prop :=
  loopV lv151_0 (vc Tryz.prog (c151.at_ [1,1,0,1,0,0]) (ms151.drop 1)) 17 (env151_0 x0 (.v (.string { data:=#[105,108,111,98,99,102] })) (.v (.int .i64 0))) S (blockK 0 (seqK (vc Tryz.prog (c151.at_ [1,1,1]) (ms151.drop 1)) (bodyK Tryz.prog r151 Q)))
theorem calls151 {x0:AV} {S:Store} {Q:PoT} (h:m151 x0 S Q):ACalls Tryz.prog 151 [x0] S Q :=
  calls_of_vc (fn:=Tryz.f151) (c:=c151) (n:=17) Tryz.func151 (by kernel_rfl) (by kernel_rfl) (by kernel_rfl) ms151 (Eq.mpr (by kernel_rfl) h)
def b151_0 (y0 y3 y4:AV) (S:Store) (KE0:KeT) (Q:PoT):Prop :=
  lenStr y3 S fun v1 S=>bin .lss 0 y4 v1 S fun v2 S=>onB v2 fun b3=>gd b3 (ixStr y3 y4 S fun v4 S=>bin .eql 0 v4 y0 S fun v5 S=>onB v5 fun b6=>gd b6 (Q (.ret y4) S) (bin .add 0 y4 (.v (.int .i64 1)) S fun v7 S=>KE0 17 (env151_0 y0 y3 v7) S)) (Q (.ret (.v (.int .i64 (-1)))) S)
theorem b151_0_eq (y0 y3 y4:AV) (S:Store) (KE0:KeT) (Q:PoT):vc Tryz.prog (c151.at_ [1,1,0,1,0,0]) (ms151.drop 1) (mkE 17 lv151_0 (env151_0 y0 y3 y4)) S (thenK (fgK lv151_0 KE0) (blockK 0 (seqK (vc Tryz.prog (c151.at_ [1,1,1]) (ms151.drop 1)) (bodyK Tryz.prog r151 Q)))) = b151_0 y0 y3 y4 S KE0 Q:=by kernel_rfl
theorem loop151_0 {y0 y3:AV} {y40:AV} {S:Store} {Q:PoT} (I:AV → Store → Prop) (μ:AV → Store → Nat) (h0:I y40 S)
    (hr:∀ (y4:AV) (S:Store),I y4 S → ∀ KE0:KeT,(∀ (y4':AV) (S':Store),I y4' S' → μ y4' S' < μ y4 S → KE0 17 (env151_0 y0 y3 y4') S') → b151_0 y0 y3 y4 S KE0 Q) :
    loopV lv151_0 (vc Tryz.prog (c151.at_ [1,1,0,1,0,0]) (ms151.drop 1)) 17 (env151_0 y0 y3 y40) S (blockK 0 (seqK (vc Tryz.prog (c151.at_ [1,1,1]) (ms151.drop 1)) (bodyK Tryz.prog r151 Q))):=by
  refine ⟨fun n e S=>n = 17 ∧ ∃ y4:AV,e = (env151_0 y0 y3 y4) ∧ I y4 S,fun _ e S=>μ (e.getD 2 .j) S,?_,?_⟩
  · exact ⟨_,_,Wk.refl _ _,rfl,_,rfl,h0⟩
  · rintro _ e S ⟨rfl,y4,rfl,hI⟩
    exact (b151_0_eq _ _ _ _ _ _).mpr (hr y4 S hI _ (fun y4' S' hI' hm=>⟨_,_,Wk.refl _ _,⟨rfl,_,rfl,hI'⟩,hm⟩))
noncomputable def c168:Code:=(Tryz.f168.body).getD .skip
noncomputable def r168:List ResultVar:=Tryz.f168.results.toList
def env168_0 (y0 y5:AV):List AV:=[y0,y5]
def lv168_0:List Nat:=[0,5]
def ms168:List (List Nat):=[lv168_0,[]]
def m168 (x0:AV) (S:Store) (Q:PoT):Prop :=
  rngS (.v (.string { data:=#[105,108,111,98,99,102] })) S fun v1 S=>loopV lv168_0 (vc Tryz.prog (c168.at_ [1,0,1,0,0]) (ms168.drop 1)) 15 (env168_0 x0 v1) S (blockK 0 (seqK (vc Tryz.prog (c168.at_ [1,1]) (ms168.drop 1)) (bodyK Tryz.prog r168 Q)))
theorem calls168 {x0:AV} {S:Store} {Q:PoT} (h:m168 x0 S Q):ACalls Tryz.prog 168 [x0] S Q :=
  calls_of_vc (fn:=Tryz.f168) (c:=c168) (n:=15) Tryz.func168 (by kernel_rfl) (by kernel_rfl) (by kernel_rfl) ms168 (Eq.mpr (by kernel_rfl) h)
def b168_0 (y0 y5:AV) (S:Store) (KE0:KeT) (Q:PoT):Prop :=
  nextM true y5 S fun v2 S=>extr v2 0 S fun v3 S=>onB v3 fun b4=>gd b4 (extr v2 1 S fun v5 S=>extr v2 2 S fun v6 S=>convI .i32 y0 S fun v7 S=>bin .eql 0 v7 v6 S fun v8 S=>onB v8 fun b9=>gd b9 (Q (.ret v5) S) (KE0 15 (env168_0 y0 y5) S)) (Q (.ret (.v (.int .i64 (-1)))) S)
theorem b168_0_eq (y0 y5:AV) (S:Store) (KE0:KeT) (Q:PoT):vc Tryz.prog (c168.at_ [1,0,1,0,0]) (ms168.drop 1) (mkE 15 lv168_0 (env168_0 y0 y5)) S (thenK (fgK lv168_0 KE0) (blockK 0 (seqK (vc Tryz.prog (c168.at_ [1,1]) (ms168.drop 1)) (bodyK Tryz.prog r168 Q)))) = b168_0 y0 y5 S KE0 Q:=by kernel_rfl
theorem loop168_0 {y0 y5:AV} {S:Store} {Q:PoT} (I:Store → Prop) (μ:Store → Nat) (h0:I  S)
    (hr:∀ (S:Store),I  S → ∀ KE0:KeT,(∀ (S':Store),I  S' → μ  S' < μ  S → KE0 15 (env168_0 y0 y5) S') → b168_0 y0 y5 S KE0 Q) :
    loopV lv168_0 (vc Tryz.prog (c168.at_ [1,0,1,0,0]) (ms168.drop 1)) 15 (env168_0 y0 y5) S (blockK 0 (seqK (vc Tryz.prog (c168.at_ [1,1]) (ms168.drop 1)) (bodyK Tryz.prog r168 Q))):=by
  refine ⟨fun n e S=>n = 15 ∧ e = (env168_0 y0 y5) ∧ I  S,fun _ e S=>μ  S,?_,?_⟩
  · exact ⟨_,_,Wk.refl _ _,rfl,rfl,h0⟩
  · rintro _ e S ⟨rfl,rfl,hI⟩
    exact (b168_0_eq _ _ _ _ _).mpr (hr  S hI _ (fun  S' hI' hm=>⟨_,_,Wk.refl _ _,⟨rfl,rfl,hI'⟩,hm⟩))
noncomputable def c40:Code:=(Tryz.f40.body).getD .skip
def ms40:List (List Nat):=[[]]
def m40 (x0:AV) (S:Store) (Q:PoT):Prop :=
  boxN 82 2 x0 S fun v1 S=>shift v1 0 S fun v2 S=>ld1 v2 S fun v3 S=>bin .add 0 v3 (.v (.int .i64 1)) S fun v4 S=>shift v1 1 S fun v5 S=>ld1 v5 S fun v6 S=>lenS v6 S fun v7 S=>bin .add 0 v4 v7 S fun v8 S=>Q (.ret v8) S
theorem calls40 {x0:AV} {S:Store} {Q:PoT} (h:m40 x0 S Q):ACalls Tryz.prog 40 [x0] S Q :=
  calls_of_vc (fn:=Tryz.f40) (c:=c40) (n:=10) Tryz.func40 (by kernel_rfl) (by kernel_rfl) (by kernel_rfl) ms40 (Eq.mpr (by kernel_rfl) h)
noncomputable def c112:Code:=(Tryz.f112.body).getD .skip
def ms112:List (List Nat):=[[]]
def m112 (x0 x1:AV) (S:Store) (Q:PoT):Prop :=
  boxN 82 2 x0 S fun v1 S=>shift v1 0 S fun v2 S=>ld1 v2 S fun v3 S=>bin .geq 0 v3 (.v (.int .i64 0)) S fun v4 S=>onB v4 fun b5=>gd b5 (shift v1 0 S fun v6 S=>ld1 v6 S fun v7 S=>bin .leq 0 v7 (.v (.int .i64 2000)) S fun v8 S=>onB v8 fun b9=>gd b9 (bin .geq 0 x1 (.v (.int .i64 0)) S fun v10 S=>onB v10 fun b11=>gd b11 (bin .quo 0 x1 (.v (.int .i64 2)) S fun v12 S=>ldN 2 v1 S fun v13 S=>callF Tryz.prog 40 [v13] S Q fun v14 S=>bin .lss 0 v12 v14 S fun v15 S=>Q (.ret v15) S) (Q (.ret (.v (.bool false))) S)) (Q (.ret (.v (.bool false))) S)) (Q (.ret (.v (.bool false))) S)
theorem calls112 {x0 x1:AV} {S:Store} {Q:PoT} (h:m112 x0 x1 S Q):ACalls Tryz.prog 112 [x0,x1] S Q :=
  calls_of_vc (fn:=Tryz.f112) (c:=c112) (n:=24) Tryz.func112 (by kernel_rfl) (by kernel_rfl) (by kernel_rfl) ms112 (Eq.mpr (by kernel_rfl) h)
noncomputable def c111:Code:=(Tryz.f111.body).getD .skip
noncomputable def r111:List ResultVar:=Tryz.f111.results.toList
def env111_0 (y1 y3:AV):List AV:=[y1,y3]
def lv111_0:List Nat:=[1,3]
def env111_1 (y1 y3 y6:AV):List AV:=[y1,y3,y6]
def lv111_1:List Nat:=[1,3,6]
def ms111:List (List Nat):=[lv111_0,lv111_1,[]]
def m111 (x0:AV) (S:Store) (Q:PoT):Prop :=
  boxN 82 2 x0 S fun v1 S=>shift v1 0 S fun v2 S=>ld1 v2 S fun v3 S=>bin .lss 0 v3 (.v (.int .i64 0)) S fun v4 S=>onB v4 fun b5=>gd b5 (Q (.ret (.v (.bool false))) S) (shift v1 0 S fun v6 S=>ld1 v6 S fun v7 S=>bin .gtr 0 v7 (.v (.int .i64 2000)) S fun v8 S=>onB v8 fun b9=>gd b9 (Q (.ret (.v (.bool false))) S) (shift v1 1 S fun v10 S=>ld1 v10 S fun v11 S=>lenS v11 S fun v12 S=>bin .gtr 0 v12 (.v (.int .i64 2000)) S fun v13 S=>onB v13 fun b14=>gd b14 (Q (.ret (.v (.bool false))) S) (ldN 2 v1 S fun v15 S=>callF Tryz.prog 40 [v15] S Q fun v16 S=>bin .gtr 0 v16 (.v (.int .i64 2000)) S fun v17 S=>onB v17 fun b18=>gd b18 (Q (.ret (.v (.bool false))) S) (loopV lv111_0 (vc Tryz.prog (c111.at_ [1,1,0,1,0,0]) (ms111.drop 1)) 80 (env111_0 v1 (.v (.int .i64 0))) S (blockK 0 (seqK (vc Tryz.prog (c111.at_ [1,1,1]) (ms111.drop 2)) (bodyK Tryz.prog r111 Q)))))))
theorem calls111 {x0:AV} {S:Store} {Q:PoT} (h:m111 x0 S Q):ACalls Tryz.prog 111 [x0] S Q :=
  calls_of_vc (fn:=Tryz.f111) (c:=c111) (n:=80) Tryz.func111 (by kernel_rfl) (by kernel_rfl) (by kernel_rfl) ms111 (Eq.mpr (by kernel_rfl) h)
def b111_0 (y1 y3:AV) (S:Store) (KE0:KeT) (Q:PoT):Prop :=
  shift y1 1 S fun v19 S=>ld1 v19 S fun v20 S=>lenS v20 S fun v21 S=>bin .lss 0 y3 v21 S fun v22 S=>onB v22 fun b23=>gd b23 ((fun S0:Store=>∃ q24:AV,(shift y1 1 S fun v25 S=>v25 = q24 ∧ S = S0) ∧ ∃ q26:AV,(ld1 q24 S fun v27 S=>v27 = q26 ∧ S = S0) ∧ ∃ q28:AV,(ixS 124 2 q26 y3 S fun v29 S=>v29 = q28 ∧ S = S0) ∧ ∃ q30:AV,(ixA 2 1 q28 (.v (.int .i64 0)) S fun v31 S=>v31 = q30 ∧ S = S0) ∧ ∃ q32:AV,(ld1 q30 S fun v33 S=>v33 = q32 ∧ S = S0) ∧ ∃ q34:AV,(shift y1 1 S fun v35 S=>v35 = q34 ∧ S = S0) ∧ ∃ q36:AV,(ld1 q34 S fun v37 S=>v37 = q36 ∧ S = S0) ∧ ∃ q38:AV,(ixS 124 2 q36 y3 S fun v39 S=>v39 = q38 ∧ S = S0) ∧ ∃ q40:AV,(ixA 2 1 q38 (.v (.int .i64 1)) S fun v41 S=>v41 = q40 ∧ S = S0) ∧ ∃ q42:AV,(ld1 q40 S fun v43 S=>v43 = q42 ∧ S = S0) ∧ bin .lss 0 q42 (.v (.int .i64 2)) S fun v44 S=>onB v44 fun b45=>gd b45 (Q (.ret (.v (.bool false))) S) (bin .quo 0 q32 (.v (.int .i64 2)) S fun v46 S=>bin .quo 0 q42 (.v (.int .i64 2)) S fun v47 S=>bin .leq 0 v46 v47 S fun v48 S=>onB v48 fun b49=>gd b49 (Q (.ret (.v (.bool false))) S) (bin .quo 0 q32 (.v (.int .i64 2)) S fun v50 S=>shift y1 0 S fun v51 S=>ld1 v51 S fun v52 S=>bin .add 0 v52 (.v (.int .i64 1)) S fun v53 S=>bin .add 0 v53 y3 S fun v54 S=>bin .geq 0 v50 v54 S fun v55 S=>onB v55 fun b56=>gd b56 (Q (.ret (.v (.bool false))) S) (loopV lv111_1 (vc Tryz.prog (c111.at_ [1,1,0,1,0,0,1,0,0,1,1,1,0,0]) (ms111.drop 2)) 80 (env111_1 y1 y3 (.v (.int .i64 0))) S (blockK 2 (blockK 1 (seqK (vc Tryz.prog (c111.at_ [1,1,0,1,0,0,1,1]) (ms111.drop 2)) (thenK (fgK lv111_0 KE0) (blockK 0 (seqK (vc Tryz.prog (c111.at_ [1,1,1]) (ms111.drop 2)) (bodyK Tryz.prog r111 Q))))))))))) S) (Q (.ret (.v (.bool true))) S)
theorem b111_0_eq (y1 y3:AV) (S:Store) (KE0:KeT) (Q:PoT):vc Tryz.prog (c111.at_ [1,1,0,1,0,0]) (ms111.drop 1) (mkE 80 lv111_0 (env111_0 y1 y3)) S (thenK (fgK lv111_0 KE0) (blockK 0 (seqK (vc Tryz.prog (c111.at_ [1,1,1]) (ms111.drop 2)) (bodyK Tryz.prog r111 Q)))) = b111_0 y1 y3 S KE0 Q:=by kernel_rfl
theorem loop111_0 {y1:AV} {y30:AV} {S:Store} {Q:PoT} (I:AV → Store → Prop) (μ:AV → Store → Nat) (h0:I y30 S)
    (hr:∀ (y3:AV) (S:Store),I y3 S → ∀ KE0:KeT,(∀ (y3':AV) (S':Store),I y3' S' → μ y3' S' < μ y3 S → KE0 80 (env111_0 y1 y3') S') → b111_0 y1 y3 S KE0 Q) :
    loopV lv111_0 (vc Tryz.prog (c111.at_ [1,1,0,1,0,0]) (ms111.drop 1)) 80 (env111_0 y1 y30) S (blockK 0 (seqK (vc Tryz.prog (c111.at_ [1,1,1]) (ms111.drop 2)) (bodyK Tryz.prog r111 Q))):=by
  refine ⟨fun n e S=>n = 80 ∧ ∃ y3:AV,e = (env111_0 y1 y3) ∧ I y3 S,fun _ e S=>μ (e.getD 1 .j) S,?_,?_⟩
  · exact ⟨_,_,Wk.refl _ _,rfl,_,rfl,h0⟩
  · rintro _ e S ⟨rfl,y3,rfl,hI⟩
    exact (b111_0_eq _ _ _ _ _).mpr (hr y3 S hI _ (fun y3' S' hI' hm=>⟨_,_,Wk.refl _ _,⟨rfl,_,rfl,hI'⟩,hm⟩))
def b111_1 (y1 y3 y6:AV) (S:Store) (KE1:KeT) (KE0:KeT) (Q:PoT):Prop :=
  bin .lss 0 y6 y3 S fun v57 S=>onB v57 fun b58=>gd b58 ((fun S0:Store=>∃ q59:AV,(shift y1 1 S fun v60 S=>v60 = q59 ∧ S = S0) ∧ ∃ q61:AV,(ld1 q59 S fun v62 S=>v62 = q61 ∧ S = S0) ∧ ∃ q63:AV,(ixS 124 2 q61 y6 S fun v64 S=>v64 = q63 ∧ S = S0) ∧ ∃ q65:AV,(ldN 2 q63 S fun v66 S=>v66 = q65 ∧ S = S0) ∧ ∃ q67:AV,(shift y1 1 S fun v68 S=>v68 = q67 ∧ S = S0) ∧ ∃ q69:AV,(ld1 q67 S fun v70 S=>v70 = q69 ∧ S = S0) ∧ ∃ q71:AV,(ixS 124 2 q69 y3 S fun v72 S=>v72 = q71 ∧ S = S0) ∧ ∃ q73:AV,(ldN 2 q71 S fun v74 S=>v74 = q73 ∧ S = S0) ∧ ∃ q75:AV,(binP .i64 .eql q65 q73 S fun v76 S=>v76 = q75 ∧ S = S0) ∧ onB q75 fun b77=>gd b77 (Q (.ret (.v (.bool false))) S) (bin .add 0 y6 (.v (.int .i64 1)) S fun v78 S=>KE1 80 (env111_1 y1 y3 v78) S)) S) (bin .add 0 y3 (.v (.int .i64 1)) S fun v79 S=>KE0 80 (env111_0 y1 v79) S)
theorem b111_1_eq (y1 y3 y6:AV) (S:Store) (KE1:KeT) (KE0:KeT) (Q:PoT):vc Tryz.prog (c111.at_ [1,1,0,1,0,0,1,0,0,1,1,1,0,0]) (ms111.drop 2) (mkE 80 lv111_1 (env111_1 y1 y3 y6)) S (thenK (fgK lv111_1 KE1) (blockK 2 (blockK 1 (seqK (vc Tryz.prog (c111.at_ [1,1,0,1,0,0,1,1]) (ms111.drop 2)) (thenK (fgK lv111_0 KE0) (blockK 0 (seqK (vc Tryz.prog (c111.at_ [1,1,1]) (ms111.drop 2)) (bodyK Tryz.prog r111 Q)))))))) = b111_1 y1 y3 y6 S KE1 KE0 Q:=by kernel_rfl
theorem loop111_1 {y1 y3:AV} {y60:AV} {S:Store} {KE0:KeT} {Q:PoT} (I:AV → Store → Prop) (μ:AV → Store → Nat) (h0:I y60 S)
    (hr:∀ (y6:AV) (S:Store),I y6 S → ∀ KE1:KeT,(∀ (y6':AV) (S':Store),I y6' S' → μ y6' S' < μ y6 S → KE1 80 (env111_1 y1 y3 y6') S') → b111_1 y1 y3 y6 S KE1 KE0 Q) :
    loopV lv111_1 (vc Tryz.prog (c111.at_ [1,1,0,1,0,0,1,0,0,1,1,1,0,0]) (ms111.drop 2)) 80 (env111_1 y1 y3 y60) S (blockK 2 (blockK 1 (seqK (vc Tryz.prog (c111.at_ [1,1,0,1,0,0,1,1]) (ms111.drop 2)) (thenK (fgK lv111_0 KE0) (blockK 0 (seqK (vc Tryz.prog (c111.at_ [1,1,1]) (ms111.drop 2)) (bodyK Tryz.prog r111 Q))))))):=by
  refine ⟨fun n e S=>n = 80 ∧ ∃ y6:AV,e = (env111_1 y1 y3 y6) ∧ I y6 S,fun _ e S=>μ (e.getD 2 .j) S,?_,?_⟩
  · exact ⟨_,_,Wk.refl _ _,rfl,_,rfl,h0⟩
  · rintro _ e S ⟨rfl,y6,rfl,hI⟩
    exact (b111_1_eq _ _ _ _ _ _ _).mpr (hr y6 S hI _ (fun y6' S' hI' hm=>⟨_,_,Wk.refl _ _,⟨rfl,_,rfl,hI'⟩,hm⟩))
noncomputable def c120:Code:=(Tryz.f120.body).getD .skip
noncomputable def r120:List ResultVar:=Tryz.f120.results.toList
def env120_0 (y1 y2 y3 y6 y9:AV):List AV:=[y1,y2,y3,y6,y9]
def lv120_0:List Nat:=[1,2,3,6,9]
def ms120:List (List Nat):=[lv120_0,[]]
def m120 (x0 x1 x2:AV) (S:Store) (Q:PoT):Prop :=
  boxN 82 2 x0 S fun v1 S=>boxN 82 2 (.a [(.v (.int .i64 0)),.nl]) S fun v2 S=>ldN 2 v1 S fun v3 S=>callF Tryz.prog 111 [v3] S Q fun v4 S=>un .not v4 S fun v5 S=>onB v5 fun b6=>gd b6 (bld [(0,1),(1,1)] [(.v (.int .i64 0)),.nl] [] S fun v7 S=>stN 2 v2 v7 S fun v8 S=>ldN 2 v2 S fun v9 _=>Q (.ret (.t [v9,(.v (.int .i64 0)),(.v (.int .i64 1))])) S) (ldN 2 v1 S fun v10 S=>callF Tryz.prog 112 [v10,x1] S Q fun v11 S=>un .not v11 S fun v12 S=>onB v12 fun b13=>gd b13 (bld [(0,1),(1,1)] [(.v (.int .i64 0)),.nl] [] S fun v14 S=>stN 2 v2 v14 S fun v15 S=>ldN 2 v2 S fun v16 _=>Q (.ret (.t [v16,(.v (.int .i64 0)),(.v (.int .i64 1))])) S) (ldN 2 v1 S fun v17 S=>callF Tryz.prog 112 [v17,x2] S Q fun v18 S=>un .not v18 S fun v19 S=>onB v19 fun b20=>gd b20 (bld [(0,1),(1,1)] [(.v (.int .i64 0)),.nl] [] S fun v21 S=>stN 2 v2 v21 S fun v22 S=>ldN 2 v2 S fun v23 _=>Q (.ret (.t [v23,(.v (.int .i64 0)),(.v (.int .i64 1))])) S) (mxI true x1 x2 S fun v24 S=>mxI false x1 x2 S fun v25 S=>bin .eql 0 v25 (.v (.int .i64 0)) S fun v26 S=>onB v26 fun b27=>gd b27 (ldN 2 v1 S fun v28 S=>stN 2 v2 v28 S fun v29 S=>ldN 2 v2 S fun v30 _=>Q (.ret (.t [v30,(.v (.int .i64 0)),(.v (.int .i64 0))])) S) (bin .quo 0 v24 (.v (.int .i64 2)) S fun v31 S=>bin .quo 0 v25 (.v (.int .i64 2)) S fun v32 S=>bin .eql 0 v31 v32 S fun v33 S=>onB v33 fun b34=>gd b34 (bin .neq 0 v24 v25 S fun v35 S=>onB v35 fun b36=>gd b36 (ldN 2 v1 S fun v37 S=>stN 2 v2 v37 S fun v38 S=>ldN 2 v2 S fun v39 _=>Q (.ret (.t [v39,(.v (.int .i64 0)),(.v (.int .i64 0))])) S) (bin .eql 0 v25 (.v (.int .i64 1)) S fun v40 S=>onB v40 fun b41=>gd b41 (ldN 2 v1 S fun v42 S=>stN 2 v2 v42 S fun v43 S=>ldN 2 v2 S fun v44 _=>Q (.ret (.t [v44,v24,(.v (.int .i64 0))])) S) (bin .eql 0 v24 v25 S fun v45 S=>onB v45 fun b46=>gd b46 (ldN 2 v1 S fun v47 S=>stN 2 v2 v47 S fun v48 S=>ldN 2 v2 S fun v49 _=>Q (.ret (.t [v49,v24,(.v (.int .i64 0))])) S) (loopV lv120_0 (vc Tryz.prog (c120.at_ [1,1,1,1,0,1,0,0]) (ms120.drop 1)) 105 (env120_0 v24 v25 v1 v2 (.v (.int .i64 0))) S (blockK 1 (seqK (vc Tryz.prog (c120.at_ [1,1,1,1,1]) (ms120.drop 1)) (bodyK Tryz.prog r120 Q))))))) (bin .eql 0 v25 (.v (.int .i64 1)) S fun v50 S=>onB v50 fun b51=>gd b51 (ldN 2 v1 S fun v52 S=>stN 2 v2 v52 S fun v53 S=>ldN 2 v2 S fun v54 _=>Q (.ret (.t [v54,v24,(.v (.int .i64 0))])) S) (bin .eql 0 v24 v25 S fun v55 S=>onB v55 fun b56=>gd b56 (ldN 2 v1 S fun v57 S=>stN 2 v2 v57 S fun v58 S=>ldN 2 v2 S fun v59 _=>Q (.ret (.t [v59,v24,(.v (.int .i64 0))])) S) (loopV lv120_0 (vc Tryz.prog (c120.at_ [1,1,1,1,0,1,0,0]) (ms120.drop 1)) 105 (env120_0 v24 v25 v1 v2 (.v (.int .i64 0))) S (blockK 1 (seqK (vc Tryz.prog (c120.at_ [1,1,1,1,1]) (ms120.drop 1)) (bodyK Tryz.prog r120 Q))))))))))
theorem calls120 {x0 x1 x2:AV} {S:Store} {Q:PoT} (h:m120 x0 x1 x2 S Q):ACalls Tryz.prog 120 [x0,x1,x2] S Q :=
  calls_of_vc (fn:=Tryz.f120) (c:=c120) (n:=105) Tryz.func120 (by kernel_rfl) (by kernel_rfl) (by kernel_rfl) ms120 (Eq.mpr (by kernel_rfl) h)
def b120_0 (y1 y2 y3 y6 y9:AV) (S:Store) (KE0:KeT) (Q:PoT):Prop :=
  shift y3 1 S fun v60 S=>ld1 v60 S fun v61 S=>lenS v61 S fun v62 S=>bin .lss 0 y9 v62 S fun v63 S=>onB v63 fun b64=>gd b64 (shift y3 1 S fun v65 S=>ld1 v65 S fun v66 S=>ixS 124 2 v66 y9 S fun v67 S=>ldN 2 v67 S fun v68 S=>bld [(0,1),(1,1)] [(.v (.int .i64 0)),(.v (.int .i64 0))] [(0,y1),(1,y2)] S fun v69 S=>binP .i64 .eql v68 v69 S fun v70 S=>onB v70 fun b71=>gd b71 (∃ q72:AV,(∀ T:Store,Keep S T → ldN 2 y3 T fun v73 S=>v73 = q72 ∧ S = T) ∧ ∃ q74:AV,(∀ T:Store,Keep S T → shift y3 0 T fun v75 S=>v75 = q74 ∧ S = T) ∧ ∃ q76:AV,(∀ T:Store,Keep S T → ld1 q74 T fun v77 S=>v77 = q76 ∧ S = T) ∧ ∃ q78:AV,(∀ T:Store,Keep S T → bin .add 0 q76 (.v (.int .i64 1)) T fun v79 S=>v79 = q78 ∧ S = T) ∧ ∃ q80:AV,(∀ T:Store,Keep S T → bin .add 0 q78 y9 T fun v81 S=>v81 = q80 ∧ S = T) ∧ ∃ q82:AV,(∀ T:Store,Keep S T → bin .mul 0 (.v (.int .i64 2)) q80 T fun v83 S=>v83 = q82 ∧ S = T) ∧ stN 2 y6 q72 S fun v84 S=>(∀ T:Store,Keep S T → bin .mul 0 (.v (.int .i64 2)) q80 T fun v85 S=>v85 = q82 ∧ S = T) ∧ (∀ T:Store,Keep S T → bin .add 0 q78 y9 T fun v86 S=>v86 = q80 ∧ S = T) ∧ (∀ T:Store,Keep S T → bin .add 0 q76 (.v (.int .i64 1)) T fun v87 S=>v87 = q78 ∧ S = T) ∧ (∀ T:Store,Keep S T → ld1 q74 T fun v88 S=>v88 = q76 ∧ S = T) ∧ (∀ T:Store,Keep S T → shift y3 0 T fun v89 S=>v89 = q74 ∧ S = T) ∧ ldN 2 y6 S fun v90 _=>Q (.ret (.t [v90,q82,(.v (.int .i64 0))])) S) (bin .add 0 y9 (.v (.int .i64 1)) S fun v91 S=>KE0 105 (env120_0 y1 y2 y3 y6 v91) S)) (ldN 2 y3 S fun v92 S=>callF Tryz.prog 40 [v92] S Q fun v93 S=>bin .geq 0 v93 (.v (.int .i64 2000)) S fun v94 S=>onB v94 fun b95=>gd b95 (bld [(0,1),(1,1)] [(.v (.int .i64 0)),.nl] [] S fun v96 S=>stN 2 y6 v96 S fun v97 S=>ldN 2 y6 S fun v98 _=>Q (.ret (.t [v98,(.v (.int .i64 0)),(.v (.int .i64 2))])) S) (boxN 82 2 (.a [(.v (.int .i64 0)),.nl]) S fun v99 S=>shift y3 0 S fun v100 S=>ld1 v100 S fun v101 S=>shift v99 0 S fun v102 S=>stN 1 v102 v101 S fun v103 S=>shift v99 1 S fun v104 S=>ld1 v104 S fun v105 S=>shift y3 1 S fun v106 S=>ld1 v106 S fun v107 S=>appS 124 2 16 v105 v107 S fun v108 S=>bld [(0,1),(1,1)] [(.v (.int .i64 0)),(.v (.int .i64 0))] [(0,y1),(1,y2)] S fun v109 S=>bslN 124 2 1 [(.v (.int .i64 0)),(.v (.int .i64 0))] [(0,v109)] S fun v110 S=>appS 124 2 16 v108 v110 S fun v111 S=>shift v99 1 S fun v112 S=>stN 1 v112 v111 S fun v113 S=>∃ q114:AV,(∀ T:Store,Keep S T → ldN 2 v99 T fun v115 S=>v115 = q114 ∧ S = T) ∧ ∃ q116:AV,(∀ T:Store,Keep S T → ldN 2 v99 T fun v117 S=>v117 = q116 ∧ S = T) ∧ ∃ q118:AV,(∀ T:Store,Keep S T → callF Tryz.prog 40 [q116] T (fun _ _=>False) fun v119 S=>v119 = q118 ∧ S = T) ∧ ∃ q120:AV,(∀ T:Store,Keep S T → bin .mul 0 (.v (.int .i64 2)) q118 T fun v121 S=>v121 = q120 ∧ S = T) ∧ ∃ q122:AV,(∀ T:Store,Keep S T → bin .sub 0 q120 (.v (.int .i64 2)) T fun v123 S=>v123 = q122 ∧ S = T) ∧ stN 2 y6 q114 S fun v124 S=>(∀ T:Store,Keep S T → bin .sub 0 q120 (.v (.int .i64 2)) T fun v125 S=>v125 = q122 ∧ S = T) ∧ (∀ T:Store,Keep S T → bin .mul 0 (.v (.int .i64 2)) q118 T fun v126 S=>v126 = q120 ∧ S = T) ∧ ldN 2 y6 S fun v127 _=>Q (.ret (.t [v127,q122,(.v (.int .i64 0))])) S))
theorem b120_0_eq (y1 y2 y3 y6 y9:AV) (S:Store) (KE0:KeT) (Q:PoT):vc Tryz.prog (c120.at_ [1,1,1,1,0,1,0,0]) (ms120.drop 1) (mkE 105 lv120_0 (env120_0 y1 y2 y3 y6 y9)) S (thenK (fgK lv120_0 KE0) (blockK 1 (seqK (vc Tryz.prog (c120.at_ [1,1,1,1,1]) (ms120.drop 1)) (bodyK Tryz.prog r120 Q)))) = b120_0 y1 y2 y3 y6 y9 S KE0 Q:=by kernel_rfl
theorem loop120_0 {y1 y2 y3 y6:AV} {y90:AV} {S:Store} {Q:PoT} (I:AV → Store → Prop) (μ:AV → Store → Nat) (h0:I y90 S)
    (hr:∀ (y9:AV) (S:Store),I y9 S → ∀ KE0:KeT,(∀ (y9':AV) (S':Store),I y9' S' → μ y9' S' < μ y9 S → KE0 105 (env120_0 y1 y2 y3 y6 y9') S') → b120_0 y1 y2 y3 y6 y9 S KE0 Q) :
    loopV lv120_0 (vc Tryz.prog (c120.at_ [1,1,1,1,0,1,0,0]) (ms120.drop 1)) 105 (env120_0 y1 y2 y3 y6 y90) S (blockK 1 (seqK (vc Tryz.prog (c120.at_ [1,1,1,1,1]) (ms120.drop 1)) (bodyK Tryz.prog r120 Q))):=by
  refine ⟨fun n e S=>n = 105 ∧ ∃ y9:AV,e = (env120_0 y1 y2 y3 y6 y9) ∧ I y9 S,fun _ e S=>μ (e.getD 4 .j) S,?_,?_⟩
  · exact ⟨_,_,Wk.refl _ _,rfl,_,rfl,h0⟩
  · rintro _ e S ⟨rfl,y9,rfl,hI⟩
    exact (b120_0_eq _ _ _ _ _ _ _ _).mpr (hr y9 S hI _ (fun y9' S' hI' hm=>⟨_,_,Wk.refl _ _,⟨rfl,_,rfl,hI'⟩,hm⟩))
noncomputable def c204:Code:=(Tryz.f204.body).getD .skip
noncomputable def r204:List ResultVar:=Tryz.f204.results.toList
def env204_0 (y0 y13 y14 y15:AV):List AV:=[y0,y13,y14,y15]
def lv204_0:List Nat:=[0,13,14,15]
def ms204:List (List Nat):=[lv204_0,[]]
def m204 (x0:AV) (S:Store) (Q:PoT):Prop :=
  mkM (.p .i64) S fun v1 S=>nilChk x0 S fun v2 S=>shift v2 4 S fun v3 S=>stN 1 v3 v1 S fun v4 S=>nilChk x0 S fun v5 S=>shift v5 3 S fun v6 S=>ld1 v6 S fun v7 S=>lenS v7 S fun v8 S=>loopV lv204_0 (vc Tryz.prog (c204.at_ [1,1,0,0]) (ms204.drop 1)) 38 (env204_0 x0 v7 v8 (.v (.int .i64 0))) S (blockK 0 (bodyK Tryz.prog r204 Q))
theorem calls204 {x0:AV} {S:Store} {Q:PoT} (h:m204 x0 S Q):ACalls Tryz.prog 204 [x0] S Q :=
  calls_of_vc (fn:=Tryz.f204) (c:=c204) (n:=38) Tryz.func204 (by kernel_rfl) (by kernel_rfl) (by kernel_rfl) ms204 (Eq.mpr (by kernel_rfl) h)
def b204_0 (y0 y13 y14 y15:AV) (S:Store) (KE0:KeT) (Q:PoT):Prop :=
  bin .lss 0 y15 y14 S fun v9 S=>onB v9 fun b10=>gd b10 (ixS 124 2 y13 y15 S fun v11 S=>ldN 2 v11 S fun v12 S=>boxN 124 2 (.a [(.v (.int .i64 0)),(.v (.int .i64 0))]) S fun v13 S=>stN 2 v13 v12 S fun v14 S=>(fun S0:Store=>∃ q15:AV,(nilChk y0 S fun v16 S=>v16 = q15 ∧ S = S0) ∧ ∃ q17:AV,(shift q15 4 S fun v18 S=>v18 = q17 ∧ S = S0) ∧ ∃ q19:AV,(ld1 q17 S fun v20 S=>v20 = q19 ∧ S = S0) ∧ ∃ q21:AV,(ldN 2 v13 S fun v22 S=>v22 = q21 ∧ S = S0) ∧ ∃ q23:AV,(lkM (.p .i64) (.v (.int .i64 0)) true q19 q21 S fun v24 S=>v24 = q23 ∧ S = S0) ∧ ∃ q25:AV,(extr q23 0 S fun v26 S=>v26 = q25 ∧ S = S0) ∧ ∃ q27:AV,(extr q23 1 S fun v28 S=>v28 = q27 ∧ S = S0) ∧ un .not q27 S fun v29 S=>onB v29 fun b30=>gd b30 (∃ q31:AV,(∀ T:Store,Keep S T → nilChk y0 T fun v32 S=>v32 = q31 ∧ S = T) ∧ ∃ q33:AV,(∀ T:Store,Keep S T → shift q31 4 T fun v34 S=>v34 = q33 ∧ S = T) ∧ ∃ q35:AV,(∀ T:Store,Keep S T → ld1 q33 T fun v36 S=>v36 = q35 ∧ S = T) ∧ ∃ q37:AV,(∀ T:Store,Keep S T → ldN 2 v13 T fun v38 S=>v38 = q37 ∧ S = T) ∧ updM (.p .i64) q35 q37 y15 S fun v39 S=>bin .add 0 y15 (.v (.int .i64 1)) S fun v40 S=>KE0 38 (env204_0 y0 y13 y14 v40) S) (bin .add 0 y15 (.v (.int .i64 1)) S fun v41 S=>KE0 38 (env204_0 y0 y13 y14 v41) S)) S) (Q (.ret (.t [])) S)
theorem b204_0_eq (y0 y13 y14 y15:AV) (S:Store) (KE0:KeT) (Q:PoT):vc Tryz.prog (c204.at_ [1,1,0,0]) (ms204.drop 1) (mkE 38 lv204_0 (env204_0 y0 y13 y14 y15)) S (thenK (fgK lv204_0 KE0) (blockK 0 (bodyK Tryz.prog r204 Q))) = b204_0 y0 y13 y14 y15 S KE0 Q:=by kernel_rfl
theorem loop204_0 {y0 y13 y14:AV} {y150:AV} {S:Store} {Q:PoT} (I:AV → Store → Prop) (μ:AV → Store → Nat) (h0:I y150 S)
    (hr:∀ (y15:AV) (S:Store),I y15 S → ∀ KE0:KeT,(∀ (y15':AV) (S':Store),I y15' S' → μ y15' S' < μ y15 S → KE0 38 (env204_0 y0 y13 y14 y15') S') → b204_0 y0 y13 y14 y15 S KE0 Q) :
    loopV lv204_0 (vc Tryz.prog (c204.at_ [1,1,0,0]) (ms204.drop 1)) 38 (env204_0 y0 y13 y14 y150) S (blockK 0 (bodyK Tryz.prog r204 Q)):=by
  refine ⟨fun n e S=>n = 38 ∧ ∃ y15:AV,e = (env204_0 y0 y13 y14 y15) ∧ I y15 S,fun _ e S=>μ (e.getD 3 .j) S,?_,?_⟩
  · exact ⟨_,_,Wk.refl _ _,rfl,_,rfl,h0⟩
  · rintro _ e S ⟨rfl,y15,rfl,hI⟩
    exact (b204_0_eq _ _ _ _ _ _ _).mpr (hr y15 S hI _ (fun y15' S' hI' hm=>⟨_,_,Wk.refl _ _,⟨rfl,_,rfl,hI'⟩,hm⟩))
noncomputable def c184:Code:=(Tryz.f184.body).getD .skip
def ms184:List (List Nat):=[[204,203]]
def m184 (x0:AV) (S:Store) (Q:PoT):Prop :=
  nilChk x0 S fun v1 S=>shift v1 0 S fun v2 S=>callF Tryz.prog 203 [v2,(.f (.func 204) [x0] [])] S Q fun v3 S=>nilChk x0 S fun v4 S=>shift v4 4 S fun v5 S=>ld1 v5 S fun v6 S=>lenM v6 S fun v7 S=>Q (.ret v7) S
theorem calls184 {x0:AV} {S:Store} {Q:PoT} (h:m184 x0 S Q):ACalls Tryz.prog 184 [x0] S Q :=
  calls_of_vc (fn:=Tryz.f184) (c:=c184) (n:=14) Tryz.func184 (by kernel_rfl) (by kernel_rfl) (by kernel_rfl) ms184 (Eq.mpr (by kernel_rfl) h)
noncomputable def c164:Code:=(Tryz.f164.body).getD .skip
noncomputable def r164:List ResultVar:=Tryz.f164.results.toList
def env164_0 (y1 y2 y27 y28 y29:AV):List AV:=[y1,y2,y27,y28,y29]
def lv164_0:List Nat:=[1,2,27,28,29]
def ms164:List (List Nat):=[lv164_0,[184]]
def m164 (x0 x1:AV) (S:Store) (Q:PoT):Prop :=
  boxN 82 2 x0 S fun v1 S=>shift v1 0 S fun v2 S=>ld1 v2 S fun v3 S=>bin .lss 0 v3 (.v (.int .i64 0)) S fun v4 S=>onB v4 fun b5=>gd b5 (Q (.ret (.v (.bool false))) S) (shift v1 0 S fun v6 S=>ld1 v6 S fun v7 S=>bin .gtr 0 v7 (.v (.int .i64 2000)) S fun v8 S=>onB v8 fun b9=>gd b9 (Q (.ret (.v (.bool false))) S) (shift v1 1 S fun v10 S=>ld1 v10 S fun v11 S=>lenS v11 S fun v12 S=>bin .gtr 0 v12 (.v (.int .i64 2000)) S fun v13 S=>onB v13 fun b14=>gd b14 (Q (.ret (.v (.bool false))) S) (ldN 2 v1 S fun v15 S=>callF Tryz.prog 135 [v15] S Q fun v16 S=>bin .gtr 0 v16 (.v (.int .i64 2000)) S fun v17 S=>onB v17 fun b18=>gd b18 (Q (.ret (.v (.bool false))) S) (shift v1 1 S fun v19 S=>ld1 v19 S fun v20 S=>lenS v20 S fun v21 S=>loopV lv164_0 (vc Tryz.prog (c164.at_ [1,1,0,1,0,0]) (ms164.drop 1)) 49 (env164_0 x1 v1 v20 v21 (.v (.int .i64 0))) S (blockK 0 (seqK (vc Tryz.prog (c164.at_ [1,1,1]) (ms164.drop 1)) (bodyK Tryz.prog r164 Q)))))))
theorem calls164 {x0 x1:AV} {S:Store} {Q:PoT} (h:m164 x0 x1 S Q):ACalls Tryz.prog 164 [x0,x1] S Q :=
  calls_of_vc (fn:=Tryz.f164) (c:=c164) (n:=49) Tryz.func164 (by kernel_rfl) (by kernel_rfl) (by kernel_rfl) ms164 (Eq.mpr (by kernel_rfl) h)
def b164_0 (y1 y2 y27 y28 y29:AV) (S:Store) (KE0:KeT) (Q:PoT):Prop :=
  bin .lss 0 y29 y28 S fun v22 S=>onB v22 fun b23=>gd b23 (ixS 124 2 y27 y29 S fun v24 S=>ldN 2 v24 S fun v25 S=>boxN 124 2 (.a [(.v (.int .i64 0)),(.v (.int .i64 0))]) S fun v26 S=>stN 2 v26 v25 S fun v27 S=>ldN 2 v26 S fun v28 S=>shift y2 0 S fun v29 S=>ld1 v29 S fun v30 S=>bin .add 0 v30 (.v (.int .i64 1)) S fun v31 S=>bin .add 0 v31 y29 S fun v32 S=>callF Tryz.prog 183 [v28,v32] S Q fun v33 S=>un .not v33 S fun v34 S=>onB v34 fun b35=>gd b35 (Q (.ret (.v (.bool false))) S) (bin .add 0 y29 (.v (.int .i64 1)) S fun v36 S=>KE0 49 (env164_0 y1 y2 y27 y28 v36) S)) (∃ q37:AV,(∀ T:Store,Keep S T → shift y2 1 T fun v38 S=>v38 = q37 ∧ S = T) ∧ ∃ q39:AV,(∀ T:Store,Keep S T → ld1 q37 T fun v40 S=>v40 = q39 ∧ S = T) ∧ ∃ q41:AV,(∀ T:Store,Keep S T → lenS q39 T fun v42 S=>v42 = q41 ∧ S = T) ∧ callF Tryz.prog 184 [y1] S (fun _ _=>False) fun v43 S=>(∀ T:Store,Keep S T → lenS q39 T fun v44 S=>v44 = q41 ∧ S = T) ∧ (∀ T:Store,Keep S T → ld1 q37 T fun v45 S=>v45 = q39 ∧ S = T) ∧ (∀ T:Store,Keep S T → shift y2 1 T fun v46 S=>v46 = q37 ∧ S = T) ∧ ∃ q47:AV,(∀ T:Store,Keep S T → bin .eql 0 v43 q41 T fun v48 S=>v48 = q47 ∧ S = T) ∧ Q (.ret q47) S)
theorem b164_0_eq (y1 y2 y27 y28 y29:AV) (S:Store) (KE0:KeT) (Q:PoT):vc Tryz.prog (c164.at_ [1,1,0,1,0,0]) (ms164.drop 1) (mkE 49 lv164_0 (env164_0 y1 y2 y27 y28 y29)) S (thenK (fgK lv164_0 KE0) (blockK 0 (seqK (vc Tryz.prog (c164.at_ [1,1,1]) (ms164.drop 1)) (bodyK Tryz.prog r164 Q)))) = b164_0 y1 y2 y27 y28 y29 S KE0 Q:=by kernel_rfl
theorem loop164_0 {y1 y2 y27 y28:AV} {y290:AV} {S:Store} {Q:PoT} (I:AV → Store → Prop) (μ:AV → Store → Nat) (h0:I y290 S)
    (hr:∀ (y29:AV) (S:Store),I y29 S → ∀ KE0:KeT,(∀ (y29':AV) (S':Store),I y29' S' → μ y29' S' < μ y29 S → KE0 49 (env164_0 y1 y2 y27 y28 y29') S') → b164_0 y1 y2 y27 y28 y29 S KE0 Q) :
    loopV lv164_0 (vc Tryz.prog (c164.at_ [1,1,0,1,0,0]) (ms164.drop 1)) 49 (env164_0 y1 y2 y27 y28 y290) S (blockK 0 (seqK (vc Tryz.prog (c164.at_ [1,1,1]) (ms164.drop 1)) (bodyK Tryz.prog r164 Q))):=by
  refine ⟨fun n e S=>n = 49 ∧ ∃ y29:AV,e = (env164_0 y1 y2 y27 y28 y29) ∧ I y29 S,fun _ e S=>μ (e.getD 4 .j) S,?_,?_⟩
  · exact ⟨_,_,Wk.refl _ _,rfl,_,rfl,h0⟩
  · rintro _ e S ⟨rfl,y29,rfl,hI⟩
    exact (b164_0_eq _ _ _ _ _ _ _ _).mpr (hr y29 S hI _ (fun y29' S' hI' hm=>⟨_,_,Wk.refl _ _,⟨rfl,_,rfl,hI'⟩,hm⟩))
noncomputable def c130:Code:=(Tryz.f130.body).getD .skip
def ms130:List (List Nat):=[[164]]
def m130 (x0:AV) (S:Store) (Q:PoT):Prop :=
  boxN 82 2 x0 S fun v1 S=>ldN 2 v1 S fun v2 S=>shift v1 1 S fun v3 S=>ld1 v3 S fun v4 S=>bld [(0,3),(3,1),(4,1)] [(.v (.int .u32 0)),(.v (.int .i32 0)),(.v (.int .u32 0)),.nl,(.v (.map none))] [(1,v4)] S fun v5 S=>boxN 195 5 v5 S fun v6 S=>callF Tryz.prog 164 [v2,v6] S Q fun v7 S=>Q (.ret v7) S
theorem calls130 {x0:AV} {S:Store} {Q:PoT} (h:m130 x0 S Q):ACalls Tryz.prog 130 [x0] S Q :=
  calls_of_vc (fn:=Tryz.f130) (c:=c130) (n:=9) Tryz.func130 (by kernel_rfl) (by kernel_rfl) (by kernel_rfl) ms130 (Eq.mpr (by kernel_rfl) h)
noncomputable def c135:Code:=(Tryz.f135.body).getD .skip
def ms135:List (List Nat):=[[]]
def m135 (x0:AV) (S:Store) (Q:PoT):Prop :=
  boxN 82 2 x0 S fun v1 S=>shift v1 0 S fun v2 S=>ld1 v2 S fun v3 S=>bin .add 0 v3 (.v (.int .i64 1)) S fun v4 S=>shift v1 1 S fun v5 S=>ld1 v5 S fun v6 S=>lenS v6 S fun v7 S=>bin .add 0 v4 v7 S fun v8 S=>Q (.ret v8) S
theorem calls135 {x0:AV} {S:Store} {Q:PoT} (h:m135 x0 S Q):ACalls Tryz.prog 135 [x0] S Q :=
  calls_of_vc (fn:=Tryz.f135) (c:=c135) (n:=10) Tryz.func135 (by kernel_rfl) (by kernel_rfl) (by kernel_rfl) ms135 (Eq.mpr (by kernel_rfl) h)
noncomputable def c183:Code:=(Tryz.f183.body).getD .skip
def ms183:List (List Nat):=[[]]
def m183 (x0 x1:AV) (S:Store) (Q:PoT):Prop :=
  boxN 124 2 x0 S fun v1 S=>ixA 2 1 v1 (.v (.int .i64 1)) S fun v2 S=>ld1 v2 S fun v3 S=>bin .geq 0 v3 (.v (.int .i64 2)) S fun v4 S=>onB v4 fun b5=>gd b5 (ixA 2 1 v1 (.v (.int .i64 0)) S fun v6 S=>ld1 v6 S fun v7 S=>bin .quo 0 v7 (.v (.int .i64 2)) S fun v8 S=>ixA 2 1 v1 (.v (.int .i64 1)) S fun v9 S=>ld1 v9 S fun v10 S=>bin .quo 0 v10 (.v (.int .i64 2)) S fun v11 S=>bin .gtr 0 v8 v11 S fun v12 S=>onB v12 fun b13=>gd b13 (ixA 2 1 v1 (.v (.int .i64 0)) S fun v14 S=>ld1 v14 S fun v15 S=>bin .quo 0 v15 (.v (.int .i64 2)) S fun v16 S=>bin .lss 0 v16 x1 S fun v17 S=>Q (.ret v17) S) (Q (.ret (.v (.bool false))) S)) (Q (.ret (.v (.bool false))) S)
theorem calls183 {x0 x1:AV} {S:Store} {Q:PoT} (h:m183 x0 x1 S Q):ACalls Tryz.prog 183 [x0,x1] S Q :=
  calls_of_vc (fn:=Tryz.f183) (c:=c183) (n:=24) Tryz.func183 (by kernel_rfl) (by kernel_rfl) (by kernel_rfl) ms183 (Eq.mpr (by kernel_rfl) h)
noncomputable def c88:Code:=(Tryz.f88.body).getD .skip
def ms88:List (List Nat):=[[]]
def m88 (x0 x1:AV) (S:Store) (Q:PoT):Prop :=
  boxN 82 2 x0 S fun v1 S=>shift v1 0 S fun v2 S=>ld1 v2 S fun v3 S=>bin .geq 0 v3 (.v (.int .i64 0)) S fun v4 S=>onB v4 fun b5=>gd b5 (shift v1 0 S fun v6 S=>ld1 v6 S fun v7 S=>bin .leq 0 v7 (.v (.int .i64 2000)) S fun v8 S=>onB v8 fun b9=>gd b9 (bin .geq 0 x1 (.v (.int .i64 0)) S fun v10 S=>onB v10 fun b11=>gd b11 (bin .quo 0 x1 (.v (.int .i64 2)) S fun v12 S=>ldN 2 v1 S fun v13 S=>callF Tryz.prog 135 [v13] S Q fun v14 S=>bin .lss 0 v12 v14 S fun v15 S=>Q (.ret v15) S) (Q (.ret (.v (.bool false))) S)) (Q (.ret (.v (.bool false))) S)) (Q (.ret (.v (.bool false))) S)
theorem calls88 {x0 x1:AV} {S:Store} {Q:PoT} (h:m88 x0 x1 S Q):ACalls Tryz.prog 88 [x0,x1] S Q :=
  calls_of_vc (fn:=Tryz.f88) (c:=c88) (n:=24) Tryz.func88 (by kernel_rfl) (by kernel_rfl) (by kernel_rfl) ms88 (Eq.mpr (by kernel_rfl) h)
noncomputable def c218:Code:=(Tryz.f218.body).getD .skip
def ms218:List (List Nat):=[[221]]
def m218 (x0:AV) (S:Store) (Q:PoT):Prop :=
  nilChk x0 S fun v1 S=>shift v1 0 S fun v2 S=>callF Tryz.prog 221 [v2] S Q fun v3 S=>Q (.ret (.t [])) S
noncomputable def c219:Code:=(Tryz.f219.body).getD .skip
def ms219:List (List Nat):=[[222]]
def m219 (x0 x1:AV) (S:Store) (Q:PoT):Prop :=
  ∃ q1:AV,(∀ T:Store,Keep S T → nilChk x0 T fun v2 S=>v2 = q1 ∧ S = T) ∧ ∃ q3:AV,(∀ T:Store,Keep S T → shift q1 0 T fun v4 S=>v4 = q3 ∧ S = T) ∧ ∃ q5:AV,(∀ T:Store,Keep S T → callF Tryz.prog 223 [x1] T (fun _ _=>False) fun v6 S=>v6 = q5 ∧ S = T) ∧ callF Tryz.prog 222 [q3,q5] S (fun _ _=>False) fun v7 S=>Q (.ret (.t [])) S
noncomputable def c214:Code:=(Tryz.f214.body).getD .skip
def ms214:List (List Nat):=[[]]
def m214 (x0:AV) (S:Store) (Q:PoT):Prop :=
  nilChk x0 S fun v1 S=>shift v1 0 S fun v2 S=>callF Tryz.prog 216 [v2] S Q fun v3 S=>bin .neq 0 v3 (.v (.int .u32 0)) S fun v4 S=>Q (.ret v4) S
theorem calls214 {x0:AV} {S:Store} {Q:PoT} (h:m214 x0 S Q):ACalls Tryz.prog 214 [x0] S Q :=
  calls_of_vc (fn:=Tryz.f214) (c:=c214) (n:=8) Tryz.func214 (by kernel_rfl) (by kernel_rfl) (by kernel_rfl) ms214 (Eq.mpr (by kernel_rfl) h)
noncomputable def c217:Code:=(Tryz.f217.body).getD .skip
def ms217:List (List Nat):=[[220]]
def m217 (x0:AV) (S:Store) (Q:PoT):Prop :=
  nilChk x0 S fun v1 S=>shift v1 0 S fun v2 S=>callF Tryz.prog 220 [v2] S Q fun v3 S=>Q (.ret (.t [])) S
theorem calls217 {x0:AV} {S:Store} {Q:PoT} (h:m217 x0 S Q):ACalls Tryz.prog 217 [x0] S Q :=
  calls_of_vc (fn:=Tryz.f217) (c:=c217) (n:=6) Tryz.func217 (by kernel_rfl) (by kernel_rfl) (by kernel_rfl) ms217 (Eq.mpr (by kernel_rfl) h)
noncomputable def c220:Code:=(Tryz.f220.body).getD .skip
def ms220:List (List Nat):=[[225]]
def m220 (x0:AV) (S:Store) (Q:PoT):Prop :=
  callF Tryz.prog 224 [] S Q fun v1 S=>nilChk x0 S fun v2 S=>shift v2 0 S fun v3 S=>callF Tryz.prog 225 [v3,(.v (.int .i32 0)),(.v (.int .i32 1))] S Q fun v4 S=>onB v4 fun b5=>gd b5 (callF Tryz.prog 226 [] S Q fun v6 S=>convU x0 S fun v7 S=>callF Tryz.prog 227 [v7] S Q fun v8 S=>Q (.ret (.t [])) S) (callF Tryz.prog 228 [x0] S Q fun v9 S=>Q (.ret (.t [])) S)
theorem calls220 {x0:AV} {S:Store} {Q:PoT} (h:m220 x0 S Q):ACalls Tryz.prog 220 [x0] S Q :=
  calls_of_vc (fn:=Tryz.f220) (c:=c220) (n:=13) Tryz.func220 (by kernel_rfl) (by kernel_rfl) (by kernel_rfl) ms220 (Eq.mpr (by kernel_rfl) h)
noncomputable def c221:Code:=(Tryz.f221.body).getD .skip
def ms221:List (List Nat):=[[230]]
def m221 (x0:AV) (S:Store) (Q:PoT):Prop :=
  nilChk x0 S fun v1 S=>shift v1 0 S fun v2 S=>ld1 v2 S fun v3 S=>convU x0 S fun v4 S=>callF Tryz.prog 229 [v4] S Q fun v5 S=>callF Tryz.prog 224 [] S Q fun v6 S=>nilChk x0 S fun v7 S=>shift v7 0 S fun v8 S=>callF Tryz.prog 230 [v8,(.v (.int .i32 (-1)))] S Q fun v9 S=>bin .neq 0 v9 (.v (.int .i32 0)) S fun v10 S=>onB v10 fun b11=>gd b11 (callF Tryz.prog 231 [x0,v9] S Q fun v12 S=>callF Tryz.prog 226 [] S Q fun v13 S=>Q (.ret (.t [])) S) (callF Tryz.prog 226 [] S Q fun v14 S=>Q (.ret (.t [])) S)
theorem calls221 {x0:AV} {S:Store} {Q:PoT} (h:m221 x0 S Q):ACalls Tryz.prog 221 [x0] S Q :=
  calls_of_vc (fn:=Tryz.f221) (c:=c221) (n:=21) Tryz.func221 (by kernel_rfl) (by kernel_rfl) (by kernel_rfl) ms221 (Eq.mpr (by kernel_rfl) h)
noncomputable def c223:Code:=(Tryz.f223.body).getD .skip
def ms223:List (List Nat):=[[]]
def m223 (x0:AV) (S:Store) (Q:PoT):Prop :=
  onB x0 fun b1=>gd b1 (Q (.ret (.v (.int .u32 1))) S) (Q (.ret (.v (.int .u32 0))) S)
theorem calls223 {x0:AV} {S:Store} {Q:PoT} (h:m223 x0 S Q):ACalls Tryz.prog 223 [x0] S Q :=
  calls_of_vc (fn:=Tryz.f223) (c:=c223) (n:=4) Tryz.func223 (by kernel_rfl) (by kernel_rfl) (by kernel_rfl) ms223 (Eq.mpr (by kernel_rfl) h)
noncomputable def c203:Code:=(Tryz.f203.body).getD .skip
def ms203:List (List Nat):=[[215]]
def m203 (x0 x1:AV) (S:Store) (Q:PoT):Prop :=
  nilChk x0 S fun v1 S=>shift v1 0 S fun v2 S=>callF Tryz.prog 214 [v2] S Q fun v3 S=>un .not v3 S fun v4 S=>onB v4 fun b5=>gd b5 (callF Tryz.prog 215 [x0,x1] S Q fun v6 S=>Q (.ret (.t [])) S) (Q (.ret (.t [])) S)
theorem calls203 {x0 x1:AV} {S:Store} {Q:PoT} (h:m203 x0 x1 S Q):ACalls Tryz.prog 203 [x0,x1] S Q :=
  calls_of_vc (fn:=Tryz.f203) (c:=c203) (n:=12) Tryz.func203 (by kernel_rfl) (by kernel_rfl) (by kernel_rfl) ms203 (Eq.mpr (by kernel_rfl) h)
end Go.Proofs.YtolgpokppnajdaaGreat.G
set_option linter.unusedVariables false
set_option linter.unusedSimpArgs false
namespace Go.Proofs.YtolgpokppnajdaaGreat.G
open Go Go.Ab
noncomputable def c215:Code:=(Tryz.f215.body).getD .skip
noncomputable def r215:List ResultVar:=Tryz.f215.results.toList
def m215 (x0 x1:AV) (S:Store) (Q:AEnd → Store → Prop):Prop :=
  nilChk x0 S fun v1 S=>shift v1 1 S fun v2 S=>callF Tryz.prog 217 [v2] S (fun _ _=>False) fun v3 S=>nilChk x0 S fun v4 S=>shift v4 1 S fun v5 S=>nilChk x0 S fun v6 S=>shift v6 0 S fun v7 S=>callF Tryz.prog 214 [v7] S (fun _ _=>False) fun v8 S=>un .not v8 S fun v9 S=>onB v9 fun b10 =>
    gd b10 (nilChk x0 S fun v11 S=>shift v11 0 S fun v12 S=>callV Tryz.prog x1 [] S (fun v13 S=>ADCalls Tryz.prog 219 [v12,.v (.bool true)] S fun e S=>match e with
        | .ret _=>ADCalls Tryz.prog 218 [v5] S fun e S=>match e with | .ret _=>Q (.ret (.t [])) S | .pan _=>False
        | .pan _=>False) (fun _ _=>False))
      (ADCalls Tryz.prog 218 [v5] S fun e S=>match e with | .ret _=>Q (.ret (.t [])) S | .pan _=>False)
set_option maxRecDepth 100000 in
theorem m215_eq:(fun (x0 x1:AV) (S:Store) (Q:AEnd → Store → Prop)=>vcT Tryz.prog c215 [] (ofArgs 21 [x0,x1]) S [] (bodyT Tryz.prog r215 Q)) = (fun (x0 x1:AV) (S:Store) (Q:AEnd → Store → Prop)=>m215 x0 x1 S Q):=by kernel_rfl
theorem calls215 {x0 x1:AV} {S:Store} {Q:AEnd → Store → Prop} (h:m215 x0 x1 S Q):ACalls Tryz.prog 215 [x0,x1] S Q :=
  calls_of_vcT (fn:=Tryz.f215) (c:=c215) (n:=21) Tryz.func215 (by kernel_rfl) (by kernel_rfl) (by kernel_rfl) [] ((congrFun (congrFun (congrFun (congrFun m215_eq x0) x1) S) Q).mpr h)
theorem dcalls218 {x0:AV} {S:Store} {Q:AEnd → Store → Prop} (h:m218 x0 S Q):ADCalls Tryz.prog 218 [x0] S Q :=
  dcalls_of_vc (fn:=Tryz.f218) (c:=c218) (n:=6) Tryz.func218 (by kernel_rfl) (by kernel_rfl) (by kernel_rfl) ms218 (Eq.mpr (by kernel_rfl) h)
theorem dcalls219 {x0 x1:AV} {S:Store} {Q:AEnd → Store → Prop} (h:m219 x0 x1 S Q):ADCalls Tryz.prog 219 [x0,x1] S Q :=
  dcalls_of_vc (fn:=Tryz.f219) (c:=c219) (n:=10) Tryz.func219 (by kernel_rfl) (by kernel_rfl) (by kernel_rfl) ms219 (Eq.mpr (by kernel_rfl) h)
theorem nt224:NoText Tryz.prog 224 Tryz.f224:=⟨Tryz.func224,by kernel_rfl,by kernel_rfl,by kernel_rfl⟩
theorem nt226:NoText Tryz.prog 226 Tryz.f226:=⟨Tryz.func226,by kernel_rfl,by kernel_rfl,by kernel_rfl⟩
theorem nt227:NoText Tryz.prog 227 Tryz.f227:=⟨Tryz.func227,by kernel_rfl,by kernel_rfl,by kernel_rfl⟩
theorem nt229:NoText Tryz.prog 229 Tryz.f229:=⟨Tryz.func229,by kernel_rfl,by kernel_rfl,by kernel_rfl⟩
theorem nt216:NoText Tryz.prog 216 Tryz.f216:=⟨Tryz.func216,by kernel_rfl,by kernel_rfl,by kernel_rfl⟩
theorem nt222:NoText Tryz.prog 222 Tryz.f222:=⟨Tryz.func222,by kernel_rfl,by kernel_rfl,by kernel_rfl⟩
theorem nt225:NoText Tryz.prog 225 Tryz.f225:=⟨Tryz.func225,by kernel_rfl,by kernel_rfl,by kernel_rfl⟩
theorem nt230:NoText Tryz.prog 230 Tryz.f230:=⟨Tryz.func230,by kernel_rfl,by kernel_rfl,by kernel_rfl⟩
abbrev aW32 (n:Int):AV:=.v (.int .u32 n)
abbrev aS32 (n:Int):AV:=.v (.int .i32 n)
section
variable {S:Store} {Q:AEnd → Store → Prop}
theorem mark224 {Q:AEnd → Store → Prop} {K:AV → Store → Prop} (k:K (.t []) S):callF Tryz.prog 224 [] S Q K:=.inr (ext_mark0 nt224 .disable (by kernel_rfl) k)
theorem mark226 {K:AV → Store → Prop} (k:K (.t []) S):callF Tryz.prog 226 [] S Q K:=.inr (ext_mark0 nt226 .enable (by kernel_rfl) k)
theorem mark227 {K:AV → Store → Prop} {id i j:Nat} (k:K (.t []) S):callF Tryz.prog 227 [.p id i j] S Q K:=.inr (ext_mark1 nt227 .acquire (by kernel_rfl) k)
theorem mark229 {K:AV → Store → Prop} {id i j:Nat} (k:K (.t []) S):callF Tryz.prog 229 [.p id i j] S Q K:=.inr (ext_mark1 nt229 .releaseMerge (by kernel_rfl) k)
end
@[simp] theorem nilChk_p (id i j:Nat) (S:Store) (K:AV → Store → Prop):nilChk (.p id i j) S K = K (.p id i j) S:=rfl
theorem upd_upd (S:Store) (id:Nat) (o o':AObj):(S.upd id o).upd id o' = S.upd id o':=by
  unfold Store.upd
  congr 1
  funext i
  by_cases h:i = id <;> simp [h]
def onceO (t:TypeId) (done st:Int) (z:AV) (c:List AV):AObj:=.cells t [aW32 done :: aS32 st :: z :: c] true
section
variable {S:Store} {Q:AEnd → Store → Prop} {id t:Nat} {done st:Int} {z:AV} {c:List AV}
theorem load_once (h:S.obj id = some (onceO t done st z c)) (k:Q (.ret (aB (!decide (done = 0)))) S):ACalls Tryz.prog 214 [.p id 0 0] S Q:=by
  refine calls214 ?_
  unfold m214
  rw [nilChk_p,shift_p]
  refine .inr (ext_load nt216 .u32 (by kernel_rfl) h rfl rfl ?_)
  show bin .neq 0 (aW32 done) (aW32 0) S _
  rw [bin_neq]
  exact k
theorem lock_once (h:S.obj id = some (onceO t done 0 z c)) (k:Q (.ret (.t [])) (S.upd id (onceO t done 1 z c))):ACalls Tryz.prog 217 [.p id 0 1] S Q:=by
  refine calls217 ?_
  unfold m217
  rw [nilChk_p,shift_p]
  refine .inl (calls220 ?_)
  unfold m220
  refine mark224 ?_
  rw [nilChk_p,shift_p]
  refine .inr (ext_cas nt225 .i32 (by kernel_rfl) h rfl rfl ?_)
  show onB _ _
  rw [onB_v,gd_true]
  refine mark226 ⟨aS32 1,?_,mark227 k⟩
  simp [rd1,place,Store.get]
theorem unlock_once (h:S.obj id = some (onceO t done 1 z c)) (k:Q (.ret (.t [])) (S.upd id (onceO t done 0 z c))):ADCalls Tryz.prog 218 [.p id 0 1] S Q:=by
  refine dcalls218 ?_
  unfold m218
  rw [nilChk_p,shift_p]
  refine .inl (calls221 ?_)
  unfold m221
  rw [nilChk_p,shift_p,ld1_p h rfl rfl]
  refine ⟨aS32 1,by simp [rd1,place,Store.get,h,onceO],mark229 (mark224 ?_)⟩
  rw [nilChk_p,shift_p]
  refine .inr (ext_add nt230 .i32 (by kernel_rfl) h rfl rfl ?_)
  show bin .neq 0 (aS32 (IntKind.i32.wrap (1 + -1))) (aS32 0) _ _
  have:IntKind.i32.wrap (1 + -1) = 0:=by decide
  rw [this,bin_neq,onB_v]
  simp only [decide_true,Bool.not_true,gd_false]
  exact mark226 k
theorem store_once (h:S.obj id = some (onceO t done st z c)) (k:Q (.ret (.t [])) (S.upd id (onceO t 1 st z c))):ADCalls Tryz.prog 219 [.p id 0 0,aB true] S Q:=by
  refine dcalls219 ?_
  unfold m219
  have hb:∀ T,ACalls Tryz.prog 223 [aB true] T (fun e S'=>e = .ret (aW32 1) ∧ S' = T):=fun T=>by
    refine calls223 ?_
    unfold m223
    rw [onB_v,gd_true]
    exact ⟨rfl,rfl⟩
  refine ⟨.p id 0 0,fun T _=>⟨rfl,rfl⟩,.p id 0 0,fun T _=>⟨rfl,rfl⟩,aW32 1,fun T _=>callF_at (hb T) ⟨rfl,rfl⟩,?_⟩
  exact .inr (ext_store nt222 (by kernel_rfl) h rfl rfl k)
theorem do_once (h:S.obj id = some (onceO t 0 0 z c)) {f:AV} (hf:callV Tryz.prog f [] (S.upd id (onceO t 0 1 z c)) (fun _ S2=>∃ c',S2.obj id = some (onceO t 0 1 z c') ∧ Q (.ret (.t [])) (S2.upd id (onceO t 1 0 z c'))) (fun _ _=>False)):ACalls Tryz.prog 203 [.p id 0 0,f] S Q:=by
  refine calls203 ?_
  unfold m203
  rw [nilChk_p,shift_p]
  refine .inl (load_once h ?_)
  show un .not (aB (!decide ((0:Int) = 0))) S _
  rw [un_not,onB_v]
  refine .inl (calls215 ?_)
  unfold m215
  rw [nilChk_p,shift_p]
  refine .inl (lock_once h ?_)
  show nilChk _ _ _
  rw [nilChk_p,shift_p,nilChk_p,shift_p]
  refine .inl (load_once (upd_self _ _) ?_)
  show un .not (aB (!decide ((0:Int) = 0))) _ _
  rw [un_not,onB_v]
  show gd true _ _
  rw [gd_true,nilChk_p,shift_p]
  refine callV_mono hf (fun v S2 h2=>?_) (fun _ _ h=>h)
  obtain ⟨c',h3,h4⟩:=h2
  refine store_once h3 (unlock_once (upd_self _ _) ?_)
  show Q (.ret (.t [])) _
  rw [upd_upd]
  exact h4
end
def pL (l:List (Int × Int)):AV:=.l (l.map fun p=>[aI p.1,aI p.2])
structure Gr where
  inputs:Int
  ands:List (Int × Int)
  deriving DecidableEq
def Gr.cells (g:Gr):List AV:=[aI g.inputs,pL g.ands]
def Gr.av (g:Gr):AV:=.a g.cells
def Gr.vars (g:Gr):Int:=g.inputs + 1 + g.ands.length
def i64R (a:Int):Prop:=-9223372036854775808 ≤ a ∧ a ≤ 9223372036854775807
structure Gr.ok (g:Gr):Prop where
  inp:i64R g.inputs
  len:g.ands.length ≤ 1000000
  pairs:∀ p ∈ g.ands,i64R p.1 ∧ i64R p.2
def may (p:Int × Int) (v:Int):Bool:=decide (2 ≤ p.2) && (decide (p.2.tdiv 2 < p.1.tdiv 2) && decide (p.1.tdiv 2 < v))
def Gr.right (g:Gr):Bool:=decide (0 ≤ g.inputs) && (decide (g.inputs ≤ 2000) && (decide ((g.ands.length:Int) ≤ 2000) && (decide (g.vars ≤ 2000) &&
  ((List.range g.ands.length).all (fun i=>may (g.ands.getD i (0,0)) (g.inputs + 1 + i)) && decide g.ands.Nodup))))
def Gr.lit (g:Gr) (l:Int):Bool:=decide (0 ≤ g.inputs) && (decide (g.inputs ≤ 2000) && (decide (0 ≤ l) && decide (l.tdiv 2 < g.vars)))
@[simp] theorem lenS_pL (l:List (Int × Int)) {S:Store} {K:AV → Store → Prop}:lenS (pL l) S K = K (aI l.length) S:=by simp [pL]
theorem ixS_pL {l:List (Int × Int)} {e i:Nat} {S:Store} {K:AV → Store → Prop} (h:i < l.length):ixS e 2 (pL l) (aI i) S K = K (.q [aI l[i].1,aI l[i].2] 0) S:=by
  unfold pL
  rw [ixS_l (by simpa using h) (by simp)]
  simp
@[simp] theorem ldN_q2 {u v:AV} {S:Store} {K:AV → Store → Prop}:ldN 2 (.q [u,v] 0) S K = K (.a [u,v]) S:=by simp [ldN,rdN,place]
theorem tdiv2 {a:Int} (h:i64R a):-9223372036854775808 ≤ a.tdiv 2 ∧ a.tdiv 2 ≤ 9223372036854775807:=by
  obtain ⟨h1,h2⟩:=h
  rcases Int.le_total 0 a with h | h
  · rw [Int.tdiv_eq_ediv_of_nonneg h]; omega
  · have:a.tdiv 2 = -((-a).tdiv 2):=by rw [Int.neg_tdiv,Int.neg_neg]
    rw [this,Int.tdiv_eq_ediv_of_nonneg (by omega)]; omega
theorem bin_half {a:Int} (h:i64R a) {S:Store} {K:AV → Store → Prop}:bin .quo 0 (aI a) (.v (.int .i64 2)) S K = K (aI (a.tdiv 2)) S:=bin_quo (by decide) (tdiv2 h).1 (tdiv2 h).2 0
theorem ixA_p {n sz id:Nat} {z:Nat} {S:Store} {K:AV → Store → Prop} (hz:z < n):ixA n sz (.p id 0 0) (aI z) S K = K (.p id 0 (z * sz)) S:=by
  unfold ixA
  simp only [intA,optP_some,Int.toNat_natCast,shift_p,Nat.zero_add]
  exact propext ⟨fun h=>h.2,fun h=>⟨⟨by omega,by omega⟩,h⟩⟩
theorem ans135 {g:Gr} (hg:g.ok) (hi:g.inputs ≤ 1000000) (h0:0 ≤ g.inputs):Ans Tryz.prog 135 [g.av] (aI g.vars):=by
  intro S
  have hl:=hg.len
  refine ACalls.ans_v (calls135 ?_)
  unfold m135 Gr.av
  refine boxA_of rfl fun S1 k1 n1 o1=>?_
  rw [shift_p,ld1_p o1 rfl rfl,bin_add (by omega) (by omega),shift_p,ld1_p o1 rfl rfl,lenS_pL,bin_add (by omega) (by omega)]
  exact ⟨rfl,k1⟩
theorem ans183 {p:Int × Int} {v:Int} (h:i64R p.1 ∧ i64R p.2):Ans Tryz.prog 183 [.a [aI p.1,aI p.2],aI v] (aB (may p v)):=by
  intro S
  refine ACalls.ans_v (calls183 ?_)
  unfold m183 may
  refine boxA_of rfl fun S1 k1 n1 o1=>?_
  have e1:∀ K:AV → Store → Prop,ixA 2 1 (.p S.n 0 0) (.v (.int .i64 1)) S1 K = K (.p S.n 0 1) S1:=fun K=>ixA_p (z:=1) (by decide)
  have e0:∀ K:AV → Store → Prop,ixA 2 1 (.p S.n 0 0) (.v (.int .i64 0)) S1 K = K (.p S.n 0 0) S1:=fun K=>ixA_p (z:=0) (by decide)
  rw [e1,ld1_p o1 rfl rfl,bin_geq,onB_v]
  refine gd_of (fun h1=>?_) (fun h1=>⟨by simp only [h1,Bool.false_and],k1⟩)
  rw [e0,ld1_p o1 rfl rfl,bin_half h.1,e1,ld1_p o1 rfl rfl,bin_half h.2,bin_gtr,onB_v]
  refine gd_of (fun h2=>?_) (fun h2=>⟨by simp only [h1,h2,Bool.false_and,Bool.true_and],k1⟩)
  rw [e0,ld1_p o1 rfl rfl,bin_half h.1,bin_lss]
  exact ⟨by simp only [h1,h2,Bool.true_and],k1⟩
theorem ans88 {g:Gr} {l:Int} (hg:g.ok) (hl:i64R l):Ans Tryz.prog 88 [g.av,aI l] (aB (g.lit l)):=by
  intro S
  refine ACalls.ans_v (calls88 ?_)
  unfold m88 Gr.av Gr.lit
  refine boxA_of rfl fun S1 k1 n1 o1=>?_
  rw [shift_p,ld1_p o1 rfl rfl,bin_geq,onB_v]
  refine gd_of (fun h1=>?_) (fun h1=>⟨by simp only [h1,Bool.false_and],k1⟩)
  rw [shift_p,ld1_p o1 rfl rfl,bin_leq,onB_v]
  refine gd_of (fun h2=>?_) (fun h2=>⟨by simp only [h1,h2,Bool.false_and,Bool.true_and],k1⟩)
  rw [bin_geq,onB_v]
  refine gd_of (fun h3=>?_) (fun h3=>⟨by simp only [h1,h2,h3,Bool.false_and,Bool.true_and],k1⟩)
  rw [bin_half hl,ldN_p (n:=2) o1 rfl]
  refine callF_ans (ans135 hg (by have:=of_decide_eq_true h2; omega) (of_decide_eq_true h1)) ?_
  rw [bin_lss]
  exact ⟨by simp only [h1,h2,h3,Bool.true_and],k1⟩
def gat (l:List (Int × Int)):Nat → List (Key × AV)
  | 0=>[]
  | i + 1=>match kix (gat l i) (.p (l.getD i (0,0)).1 (l.getD i (0,0)).2) with
    | some _=>gat l i
    | none=>gat l i ++ [(.p (l.getD i (0,0)).1 (l.getD i (0,0)).2,aI i)]
theorem kix_none {es:List (Key × AV)} {k:Key}:kix es k = none ↔ k ∉ es.map (·.1):=by
  unfold kix
  rw [List.findIdx?_eq_none_iff]
  simp only [List.mem_map,not_exists,not_and]
  constructor
  · intro h x hx e
    have:=h x hx
    simp [e] at this
  · intro h x hx
    simpa using h x hx
theorem gat_keys {l:List (Int × Int)}:∀ {i:Nat},i ≤ l.length → ∀ k,k ∈ (gat l i).map (·.1) ↔ ∃ p ∈ l.take i,k = .p p.1 p.2
  | 0,_,k=>by simp [gat]
  | i + 1,h,k=>by
    have ih:=gat_keys (l:=l) (i:=i) (by omega)
    have hi:i < l.length:=by omega
    have hg:l.getD i (0,0) = l[i]:=by simp [List.getD_eq_getElem?_getD,hi]
    rw [List.take_add_one,List.getElem?_eq_getElem hi]
    unfold gat
    rw [hg]
    split
    · rename_i j hj
      rw [ih]
      have hm:Key.p l[i].1 l[i].2 ∈ (gat l i).map (·.1):=by
        by_cases c:Key.p l[i].1 l[i].2 ∈ (gat l i).map (·.1)
        · exact c
        · rw [kix_none.2 c] at hj; cases hj
      constructor
      · rintro ⟨p,hp,e⟩
        exact ⟨p,List.mem_append_left _ hp,e⟩
      · rintro ⟨p,hp,e⟩
        rcases List.mem_append.1 hp with hp | hp
        · exact ⟨p,hp,e⟩
        · have:p = l[i]:=by simpa using hp
          subst this
          rw [e]; exact (ih _).1 hm
    · rw [List.map_append,List.mem_append,ih]
      constructor
      · rintro (⟨p,hp,e⟩ | hk)
        · exact ⟨p,List.mem_append_left _ hp,e⟩
        · exact ⟨l[i],List.mem_append_right _ (by simp),by simpa using hk⟩
      · rintro ⟨p,hp,e⟩
        rcases List.mem_append.1 hp with hp | hp
        · exact .inl ⟨p,hp,e⟩
        · have:p = l[i]:=by simpa using hp
          subst this
          exact .inr (by simp [e])
theorem gat_le (l:List (Int × Int)):∀ i:Nat,(gat l i).length ≤ i
  | 0=>Nat.le_refl _
  | i + 1=>by
    have:=gat_le l i
    unfold gat
    split
    · omega
    · simp; omega
theorem gat_all {l:List (Int × Int)}:∀ {i:Nat},i ≤ l.length → ((gat l i).length = i ↔ (l.take i).Nodup)
  | 0,_=>by simp [gat]
  | i + 1,h=>by
    have ih:=gat_all (l:=l) (i:=i) (by omega)
    have hi:i < l.length:=by omega
    have hk:=gat_keys (l:=l) (i:=i) (by omega) (.p l[i].1 l[i].2)
    have hle:=gat_le l i
    have hg:l.getD i (0,0) = l[i]:=by simp [List.getD_eq_getElem?_getD,hi]
    rw [List.take_add_one,List.getElem?_eq_getElem hi,List.nodup_append]
    unfold gat
    rw [hg]
    split
    · rename_i j hj
      have hm:Key.p l[i].1 l[i].2 ∈ (gat l i).map (·.1):=by
        by_cases c:Key.p l[i].1 l[i].2 ∈ (gat l i).map (·.1)
        · exact c
        · rw [kix_none.2 c] at hj; cases hj
      obtain ⟨p,hp,e⟩:=hk.1 hm
      constructor
      · intro h; omega
      · rintro ⟨_,_,h3⟩
        refine absurd ?_ (h3 p hp l[i] (by simp))
        simp only [Key.p.injEq] at e
        exact Prod.ext e.1.symm e.2.symm
    · rename_i hn
      rw [kix_none,hk] at hn
      rw [List.length_append,List.length_singleton,Nat.add_right_cancel_iff,ih]
      constructor
      · intro h
        refine ⟨h,by simp,fun a ha b hb=>?_⟩
        have:b = l[i]:=by simpa using hb
        subst this
        rintro rfl
        exact hn ⟨_,ha,rfl⟩
      · exact fun h=>h.1
@[simp] theorem extr0 {x:AV} {l:List AV} {S:Store} {K:AV → Store → Prop}:extr (.t (x :: l)) 0 S K = K x S:=by simp [extr]
@[simp] theorem extr1 {x y:AV} {l:List AV} {S:Store} {K:AV → Store → Prop}:extr (.t (x :: y :: l)) 1 S K = K y S:=by simp [extr]
@[simp] theorem extr2 {x y z:AV} {l:List AV} {S:Store} {K:AV → Store → Prop}:extr (.t (x :: y :: z :: l)) 2 S K = K z S:=by simp [extr]
theorem lkM_m {S:Store} {kk:KK} {z:AV} {c:Bool} {id:Nat} {k:AV} {key:Key} {es:List (Key × AV)} {lv:Bool} {K:AV → Store → Prop} (h:S.obj id = some (.map kk es lv)) (hk:keyA kk k = some key):lkM kk z c (.m id) k S K = K (lkV z c (lkp es key)) S:=by
  simp [lkM,entsA,h,hk]
theorem updM_m {S:Store} {kk:KK} {id:Nat} {k v:AV} {key:Key} {es:List (Key × AV)} {K:AV → Store → Prop} (h:S.obj id = some (.map kk es true)) (hk:keyA kk k = some key):updM kk (.m id) k v S K = K .j (S.upd id (.map kk (insM es key v) true)):=by
  simp [updM,h,hk]
theorem lenM_m {S:Store} {kk:KK} {id:Nat} {es:List (Key × AV)} {lv:Bool} {K:AV → Store → Prop} (h:S.obj id = some (.map kk es lv)):lenM (.m id) S K = K (aI es.length) S:=by
  simp [lenM,h]
theorem keyP (a b:Int):keyA (.p .i64) (.a [aI a,aI b]) = some (.p a b):=by simp [keyA]
theorem lkp_isSome (es:List (Key × AV)) (k:Key):(lkp es k).isSome = (kix es k).isSome:=by
  cases h:kix es k with
  | none=>simp [lkp,h]
  | some i =>
    obtain ⟨e,h1,h2⟩:=lkp_row (kk:=.s) h
    simp [h2]
theorem make_once {S:Store} {id:Nat} {z g0:AV} {d st:Int} {l:List (Int × Int)} {Q:AEnd → Store → Prop} (hl:l.length ≤ 1000000) (hid:id < S.n) (h:S.obj id = some (onceO 195 d st z [pL l,g0]))
    (k:∀ S2 m,S.n ≤ S2.n → (∀ x,x < S.n → x ≠ id → S2.obj x = S.obj x) → m ≠ id → S2.obj id = some (onceO 195 d st z [pL l,.m m]) → S2.obj m = some (.map (.p .i64) (gat l l.length) true) → Q (.ret (.t [])) S2) :
    ACalls Tryz.prog 204 [.p id 0 0] S Q:=by
  refine calls204 ?_
  unfold m204 mkM
  have h':=(new_lt (o:=.map (.p .i64) [] true) hid).trans h
  show nilChk _ _ _
  rw [nilChk_p,shift_p]
  refine stF_of h' (by simp) rfl fun S1 n1 o1 f1=>?_
  rw [nilChk_p,shift_p,ld1_p o1 rfl rfl,lenS_pL]
  have hm:S.n ≠ id:=by omega
  refine loop204_0 (fun y S'=>S.n < S'.n ∧ (∀ x,x < S.n → x ≠ id → S'.obj x = S.obj x) ∧ S'.obj id = some (onceO 195 d st z [pL l,.m S.n]) ∧ ∃ i:Nat,y = aI i ∧ i ≤ l.length ∧ S'.obj S.n = some (.map (.p .i64) (gat l i) true))
    (fun y _=>l.length - ((intA y).getD 0).toNat) ⟨by rw [n1,new_n]; omega,fun x hx hne=>by rw [f1 x hne,new_lt hx],o1,0,rfl,Nat.zero_le _,by rw [f1 _ hm,new_self]; rfl⟩ ?_
  rintro _ S2 ⟨n2,f2,o2,i,rfl,hi,m2⟩ KE hKE
  unfold b204_0
  rw [bin_lss,onB_v]
  refine gd_of (fun hlt=>?_) (fun hge=>?_)
  · have hlt:i < l.length:=by simpa using hlt
    have hg:l.getD i (0,0) = l[i]:=by simp [List.getD_eq_getElem?_getD,hlt]
    rw [ixS_pL hlt,ldN_q2]
    refine boxA_of rfl fun S3 k3 n3 o3=>?_
    refine stA_of o3 rfl rfl fun S4 n4 o4 f4=>?_
    have p4:S4.obj id = _:=(f4 id (by omega)).trans ((k3.2 id (by omega)).trans o2)
    have q4:S4.obj S.n = _:=(f4 S.n (by omega)).trans ((k3.2 S.n n2).trans m2)
    have r4:∀ x,x < S.n → x ≠ id → S4.obj x = S.obj x:=fun x hx hne=>(f4 x (by omega)).trans ((k3.2 x (by omega)).trans (f2 x hx hne))
    show ∃ q15:AV,_
    refine ⟨_,by rw [nilChk_p]; exact ⟨rfl,rfl⟩,_,by rw [shift_p]; exact ⟨rfl,rfl⟩,_,by rw [ld1_p p4 rfl rfl]; exact ⟨rfl,rfl⟩,_,by rw [ldN_p (n:=2) o4 rfl]; exact ⟨rfl,rfl⟩,_,by rw [lkM_m q4 (keyP _ _)]; exact ⟨rfl,rfl⟩,_,by rw [lkV,extr0]; exact ⟨rfl,rfl⟩,_,by rw [lkV,extr1]; exact ⟨rfl,rfl⟩,?_⟩
    rw [lkp_isSome,un_not,onB_v]
    have hadd:∀ K:AV → Store → Prop,∀ S,bin .add 0 (.v (.int .i64 (i:Int))) (.v (.int .i64 1)) S K = K (aI (i + 1:Nat)) S:=fun K S=>bin_add (by omega) (by omega) 0
    have hμ:l.length - ((intA (aI (i + 1:Nat))).getD 0).toNat < l.length - ((intA (aI i)).getD 0).toNat:=by simp [intA]; omega
    refine gd_of (fun hn=>?_) (fun hn=>?_)
    · have hn:kix (gat l i) (.p l[i].1 l[i].2) = none:=by simpa using hn
      refine ⟨_,fun T hT=>by rw [nilChk_p]; exact ⟨rfl,rfl⟩,_,fun T hT=>by rw [shift_p]; exact ⟨rfl,rfl⟩,_,fun T hT=>by rw [ld1_p ((hT.2 id (by omega)).trans p4) rfl rfl]; exact ⟨rfl,rfl⟩,_,fun T hT=>by rw [ldN_p (n:=2) ((hT.2 _ (by omega)).trans o4) rfl]; exact ⟨rfl,rfl⟩,?_⟩
      rw [updM_m q4 (keyP _ _),hadd]
      refine hKE _ _ ⟨by simp; omega,fun x hx hne=>by rw [upd_ne (by omega)]; exact r4 x hx hne,by rw [upd_ne (by omega)]; exact p4,i + 1,rfl,hlt,?_⟩ hμ
      rw [upd_self]
      simp only [gat,hg,hn,insM_none hn]
    · obtain ⟨j,hj⟩:∃ j,kix (gat l i) (.p l[i].1 l[i].2) = some j:=by
        cases e:kix (gat l i) (.p l[i].1 l[i].2) with
        | none=>simp [e] at hn
        | some j=>exact ⟨j,rfl⟩
      rw [hadd]
      refine hKE _ _ ⟨by omega,r4,p4,i + 1,rfl,hlt,?_⟩ hμ
      rw [q4]
      simp only [gat,hg,hj]
  · have hge:i = l.length:=by simp at hge; omega
    subst hge
    exact k S2 S.n (by omega) f2 hm o2 m2
theorem many_once {S:Store} {id:Nat} {z g0:AV} {l:List (Int × Int)} {Q:AEnd → Store → Prop} (hl:l.length ≤ 1000000) (hid:id < S.n) (h:S.obj id = some (onceO 195 0 0 z [pL l,g0]))
    (k:∀ S2,S.n ≤ S2.n → (∀ x,x < S.n → x ≠ id → S2.obj x = S.obj x) → Q (.ret (aI (gat l l.length).length)) S2) :
    ACalls Tryz.prog 184 [.p id 0 0] S Q:=by
  refine calls184 ?_
  unfold m184
  rw [nilChk_p,shift_p]
  refine .inl (do_once h (.inl (make_once hl (by simpa using hid) (upd_self _ _) fun S2 m n2 f2 hm o2 m2=>⟨_,o2,?_⟩)))
  show nilChk _ _ _
  rw [nilChk_p,shift_p,ld1_p (show (S2.upd id (onceO 195 1 0 z [pL l,.m m])).obj id = some (.cells 195 [[aW32 1,aS32 0,z,pL l,.m m]] true) from upd_self _ _) rfl rfl]
  rw [lenM_m (by rw [upd_ne hm]; exact m2)]
  refine k _ (by simpa using n2) fun x hx hne=>?_
  rw [upd_ne hne,f2 x (by simpa using hx) hne,upd_ne hne]
theorem bld_of {pl:List (Nat × Nat)} {zc:List AV} {parts:List (Nat × AV)} {S:Store} {K:AV → Store → Prop} {cs:List AV} (h:fillA (fun i=>pl[i]?) zc parts = some cs):bld pl zc parts S K = K (.a cs) S:=by
  simp [bld,h]
theorem right_of {g:Gr} (hg:g.ok) {S:Store} {id:Nat} (hid:id < S.n) {z g0:AV} (h:S.obj id = some (onceO 195 0 0 z [pL g.ands,g0])) {Q:AEnd → Store → Prop}
    (k:∀ S2,S.n ≤ S2.n → (∀ x,x < S.n → x ≠ id → S2.obj x = S.obj x) → Q (.ret (aB g.right)) S2):ACalls Tryz.prog 164 [g.av,.p id 0 0] S Q:=by
  have hlen:=hg.len
  refine calls164 ?_
  unfold m164 Gr.av
  refine boxA_of rfl fun S1 k1 n1 o1=>?_
  have kk:∀ b:Bool,g.right = b → Q (.ret (aB b)) S1:=fun b e=>e ▸ k S1 (by omega) fun x hx _=>k1.2 x hx
  rw [shift_p,ld1_p o1 rfl rfl,bin_lss,onB_v]
  refine gd_of (fun h1=>kk _ ?_) (fun h1=>?_)
  · have h1:=of_decide_eq_true h1
    simp [Gr.right,show ¬ 0 ≤ g.inputs by omega]
  have h1:0 ≤ g.inputs:=by simpa using h1
  rw [shift_p,ld1_p o1 rfl rfl,bin_gtr,onB_v]
  refine gd_of (fun h2=>kk _ ?_) (fun h2=>?_)
  · have h2:=of_decide_eq_true h2
    simp [Gr.right,show ¬ g.inputs ≤ 2000 by omega]
  have h2:g.inputs ≤ 2000:=by simpa using h2
  rw [shift_p,ld1_p o1 rfl rfl,lenS_pL,bin_gtr,onB_v]
  refine gd_of (fun h3=>kk _ ?_) (fun h3=>?_)
  · have h3:=of_decide_eq_true h3
    have:¬ (g.ands.length:Int) ≤ 2000:=by omega
    simp only [Gr.right,this,decide_false,Bool.false_and,Bool.and_false]
  have h3:g.ands.length ≤ 2000:=by have:=of_decide_eq_false h3; omega
  rw [ldN_p (n:=2) o1 rfl]
  refine callF_ans (ans135 hg (by omega) h1) ?_
  rw [bin_gtr,onB_v]
  refine gd_of (fun h4=>kk _ ?_) (fun h4=>?_)
  · have h4:=of_decide_eq_true h4
    simp [Gr.right,show ¬ g.vars ≤ 2000 by omega]
  have h4:g.vars ≤ 2000:=by simpa using h4
  rw [shift_p,ld1_p o1 rfl rfl,lenS_pL]
  refine loop164_0 (fun y S'=>Keep S1 S' ∧ ∃ i:Nat,y = aI i ∧ i ≤ g.ands.length ∧ ∀ j,j < i → may (g.ands.getD j (0,0)) (g.inputs + 1 + j) = true)
    (fun y _=>g.ands.length - ((intA y).getD 0).toNat) ⟨Keep.refl _,0,rfl,Nat.zero_le _,fun j hj=>(Nat.not_lt_zero _ hj).elim⟩ ?_
  rintro _ S2 ⟨k2,i,rfl,hi,hmay⟩ KE hKE
  have o2:=(k2.2 S.n (by omega)).trans o1
  have b2:=(k2.2 id (by omega)).trans ((k1.2 id hid).trans h)
  unfold b164_0
  rw [bin_lss,onB_v]
  refine gd_of (fun hlt=>?_) (fun hge=>?_)
  · have hlt:i < g.ands.length:=by simpa using hlt
    have hg':g.ands.getD i (0,0) = g.ands[i]:=by simp [List.getD_eq_getElem?_getD,hlt]
    rw [ixS_pL hlt,ldN_q2]
    refine boxA_of rfl fun S3 k3 n3 o3=>?_
    refine stA_of o3 rfl rfl fun S4 n4 o4 f4=>?_
    have k4:Keep S1 S4:=(k2.trans k3).st (by have:=k2.1; omega) n4 f4
    have p4:=(k4.2 S.n (by omega)).trans o1
    rw [ldN_p (n:=2) o4 rfl,shift_p,ld1_p p4 rfl rfl,bin_add (by omega) (by omega),bin_add (by omega) (by omega)]
    refine callF_ans (ans183 (p:=g.ands[i]) (hg.pairs _ (List.getElem_mem hlt))) ?_
    rw [un_not,onB_v]
    refine gd_of (fun h5=>?_) (fun h5=>?_)
    · have:g.right = false:=by
        have hr:(List.range g.ands.length).all (fun i=>may (g.ands.getD i (0,0)) (g.inputs + 1 + i)) = false:=by
          rw [List.all_eq_false]
          exact ⟨i,by simpa using hlt,by rw [hg']; simpa using h5⟩
        simp only [Gr.right,hr,Bool.false_and,Bool.and_false]
      rw [← this]
      exact k S4 (by have:=k4.1; omega) fun x hx _=>(k4.2 x (by omega)).trans (k1.2 x hx)
    · have hadd:∀ K:AV → Store → Prop,∀ S,bin .add 0 (.v (.int .i64 (i:Int))) (.v (.int .i64 1)) S K = K (aI (i + 1:Nat)) S:=fun K S=>bin_add (by omega) (by omega) 0
      rw [hadd]
      refine hKE _ _ ⟨k4,i + 1,rfl,hlt,fun j hj=>?_⟩ (by simp [intA]; omega)
      rcases Nat.lt_or_ge j i with hj' | hj'
      · exact hmay j hj'
      · have:j = i:=by omega
        subst this
        rw [hg']
        simpa using h5
  · have hge:i = g.ands.length:=by simp at hge; omega
    subst hge
    have hn2:=k2.1
    refine ⟨_,fun T hT=>by rw [shift_p]; exact ⟨rfl,rfl⟩,_,fun T hT=>by rw [ld1_p ((hT.2 _ (by omega)).trans o2) rfl rfl]; exact ⟨rfl,rfl⟩,_,fun T hT=>by rw [lenS_pL]; exact ⟨rfl,rfl⟩,.inl (many_once hlen (by omega) b2 fun S3 n3 f3=>?_)⟩
    have o3:=(f3 S.n (by omega) (by omega)).trans o2
    refine ⟨fun T hT=>by rw [lenS_pL]; exact ⟨rfl,rfl⟩,fun T hT=>by rw [ld1_p ((hT.2 _ (by omega)).trans o3) rfl rfl]; exact ⟨rfl,rfl⟩,fun T hT=>by rw [shift_p]; exact ⟨rfl,rfl⟩,_,fun T hT=>by rw [bin_eql]; exact ⟨rfl,rfl⟩,?_⟩
    have:g.right = decide (((gat g.ands g.ands.length).length:Int) = g.ands.length):=by
      have hr:(List.range g.ands.length).all (fun i=>may (g.ands.getD i (0,0)) (g.inputs + 1 + i)) = true:=by
        rw [List.all_eq_true]
        exact fun j hj=>hmay j (by simpa using hj)
      have hall:=gat_all (l:=g.ands) (i:=g.ands.length) (Nat.le_refl _)
      rw [List.take_length] at hall
      simp only [Gr.right,hr,Bool.true_and,h1,h2,h4,show (g.ands.length:Int) ≤ 2000 by omega,decide_true,Int.natCast_inj,hall]
    rw [← this]
    exact k S3 (by omega) fun x hx hne=>(f3 x (by omega) hne).trans ((k2.2 x (by omega)).trans (k1.2 x hx))
theorem ans130 {g:Gr} (hg:g.ok):Ans Tryz.prog 130 [g.av] (aB g.right):=by
  intro S
  refine ACalls.ans_v (calls130 ?_)
  unfold m130 Gr.av
  refine boxA_of rfl fun S1 k1 n1 o1=>?_
  rw [ldN_p (n:=2) o1 rfl,shift_p,ld1_p o1 rfl rfl]
  rw [bld_of (cs:=[aW32 0,aS32 0,.v (.int .u32 0),pL g.ands,.v (.map none)]) rfl]
  refine boxA_of rfl fun S2 k2 n2 o2=>?_
  refine .inl (right_of hg (by omega) o2 fun S3 n3 f3=>⟨rfl,k1.trans ⟨by omega,fun x hx=>?_⟩⟩)
  rw [f3 x (by omega) (by omega),k2.2 x hx]
theorem ans40 {g:Gr} (hg:g.ok) (hi:g.inputs ≤ 1000000) (h0:0 ≤ g.inputs):Ans Tryz.prog 40 [g.av] (aI g.vars):=by
  intro S
  have hl:=hg.len
  refine ACalls.ans_v (calls40 ?_)
  unfold m40 Gr.av
  refine boxA_of rfl fun S1 k1 n1 o1=>?_
  rw [shift_p,ld1_p o1 rfl rfl,bin_add (by omega) (by omega),shift_p,ld1_p o1 rfl rfl,lenS_pL,bin_add (by omega) (by omega)]
  exact ⟨rfl,k1⟩
theorem ans112 {g:Gr} {l:Int} (hg:g.ok) (hl:i64R l):Ans Tryz.prog 112 [g.av,aI l] (aB (g.lit l)):=by
  intro S
  refine ACalls.ans_v (calls112 ?_)
  unfold m112 Gr.av Gr.lit
  refine boxA_of rfl fun S1 k1 n1 o1=>?_
  rw [shift_p,ld1_p o1 rfl rfl,bin_geq,onB_v]
  refine gd_of (fun h1=>?_) (fun h1=>⟨by simp only [h1,Bool.false_and],k1⟩)
  rw [shift_p,ld1_p o1 rfl rfl,bin_leq,onB_v]
  refine gd_of (fun h2=>?_) (fun h2=>⟨by simp only [h1,h2,Bool.false_and,Bool.true_and],k1⟩)
  rw [bin_geq,onB_v]
  refine gd_of (fun h3=>?_) (fun h3=>⟨by simp only [h1,h2,h3,Bool.false_and,Bool.true_and],k1⟩)
  rw [bin_half hl,ldN_p (n:=2) o1 rfl]
  refine callF_ans (ans40 hg (by have:=of_decide_eq_true h2; omega) (of_decide_eq_true h1)) ?_
  rw [bin_lss]
  exact ⟨by simp only [h1,h2,h3,Bool.true_and],k1⟩
theorem binP_eq {a b c d:Int} {S:Store} {K:AV → Store → Prop}:binP .i64 .eql (.a [aI a,aI b]) (.a [aI c,aI d]) S K = K (aB (decide ((a,b) = (c,d)))) S:=by
  simp [binP,keyA]
theorem ixA_q {n sz:Nat} {c:List AV} {z:Nat} {S:Store} {K:AV → Store → Prop} (hz:z < n):ixA n sz (.q c 0) (aI z) S K = K (.q c (z * sz)) S:=by
  unfold ixA
  simp only [intA,optP_some,Int.toNat_natCast,shift,Nat.zero_add]
  exact propext ⟨fun h=>h.2,fun h=>⟨⟨by omega,by omega⟩,h⟩⟩
theorem ld1_q1 {u v:AV} {S:Store} {K:AV → Store → Prop}:ld1 (.q [u,v] 1) S K = K v S:=by simp [ld1,rd1,place]
theorem ld1_q0 {u:AV} {l:List AV} {S:Store} {K:AV → Store → Prop}:ld1 (.q (u :: l) 0) S K = K u S:=by simp [ld1,rd1,place]
theorem right_iff {g:Gr}:g.right = true ↔ 0 ≤ g.inputs ∧ g.inputs ≤ 2000 ∧ (g.ands.length:Int) ≤ 2000 ∧ g.vars ≤ 2000 ∧ (∀ j,j < g.ands.length → may (g.ands.getD j (0,0)) (g.inputs + 1 + j) = true) ∧ g.ands.Nodup:=by
  simp [Gr.right]
theorem nodup_take {α:Type} [DecidableEq α] {l:List α} {i:Nat} (h:i < l.length):(l.take (i + 1)).Nodup ↔ (l.take i).Nodup ∧ ∀ k (hk:k < i),l[k] ≠ l[i]:=by
  rw [List.take_add_one,List.getElem?_eq_getElem h,List.nodup_append]
  constructor
  · rintro ⟨h1,_,h3⟩
    refine ⟨h1,fun k hk=>h3 _ ?_ _ (by simp)⟩
    rw [List.mem_take_iff_getElem]
    exact ⟨k,by omega,rfl⟩
  · rintro ⟨h1,h2⟩
    refine ⟨h1,by simp,fun a ha b hb=>?_⟩
    have:b = l[i]:=by simpa using hb
    subst this
    rw [List.mem_take_iff_getElem] at ha
    obtain ⟨k,hk,rfl⟩:=ha
    exact h2 k (by omega)
theorem may_false1 {p:Int × Int} {v:Int} (h:p.2 < 2):may p v = false:=by simp [may,show ¬ 2 ≤ p.2 by omega]
theorem may_false2 {p:Int × Int} {v:Int} (h:p.1.tdiv 2 ≤ p.2.tdiv 2):may p v = false:=by simp [may,show ¬ p.2.tdiv 2 < p.1.tdiv 2 by omega]
theorem may_false3 {p:Int × Int} {v:Int} (h:v ≤ p.1.tdiv 2):may p v = false:=by simp [may,show ¬ p.1.tdiv 2 < v by omega]
theorem right_may {g:Gr} {i:Nat} (h:i < g.ands.length) (hm:may (g.ands.getD i (0,0)) (g.inputs + 1 + i) = false):g.right = false:=by
  cases e:g.right with
  | false=>rfl
  | true=>rw [(right_iff.1 e).2.2.2.2.1 i h] at hm; cases hm
theorem ans111 {g:Gr} (hg:g.ok):Ans Tryz.prog 111 [g.av] (aB g.right):=by
  intro S
  refine ACalls.ans_v (calls111 ?_)
  have hlen:=hg.len
  unfold m111 Gr.av
  refine boxA_of rfl fun S1 k1 n1 o1=>?_
  rw [shift_p,ld1_p o1 rfl rfl,bin_lss,onB_v]
  refine gd_of (fun h1=>⟨?_,k1⟩) (fun h1=>?_)
  · have h1:=of_decide_eq_true h1
    simp [Gr.right,show ¬ 0 ≤ g.inputs by omega]
  have h1:0 ≤ g.inputs:=by simpa using h1
  rw [shift_p,ld1_p o1 rfl rfl,bin_gtr,onB_v]
  refine gd_of (fun h2=>⟨?_,k1⟩) (fun h2=>?_)
  · have h2:=of_decide_eq_true h2
    simp [Gr.right,show ¬ g.inputs ≤ 2000 by omega]
  have h2:g.inputs ≤ 2000:=by simpa using h2
  rw [shift_p,ld1_p o1 rfl rfl,lenS_pL,bin_gtr,onB_v]
  refine gd_of (fun h3=>⟨?_,k1⟩) (fun h3=>?_)
  · have h3:=of_decide_eq_true h3
    have:¬ (g.ands.length:Int) ≤ 2000:=by omega
    simp only [Gr.right,this,decide_false,Bool.false_and,Bool.and_false]
  have h3:g.ands.length ≤ 2000:=by have:=of_decide_eq_false h3; omega
  rw [ldN_p (n:=2) o1 rfl]
  refine callF_ans (ans40 hg (by omega) h1) ?_
  rw [bin_gtr,onB_v]
  refine gd_of (fun h4=>⟨?_,k1⟩) (fun h4=>?_)
  · have h4:=of_decide_eq_true h4
    simp [Gr.right,show ¬ g.vars ≤ 2000 by omega]
  have h4:g.vars ≤ 2000:=by simpa using h4
  refine loop111_0 (fun y S'=>S' = S1 ∧ ∃ i:Nat,y = aI i ∧ i ≤ g.ands.length ∧ (∀ j,j < i → may (g.ands.getD j (0,0)) (g.inputs + 1 + j) = true) ∧ (g.ands.take i).Nodup)
    (fun y _=>g.ands.length - ((intA y).getD 0).toNat) ⟨rfl,0,rfl,Nat.zero_le _,fun j hj=>(Nat.not_lt_zero _ hj).elim,by simp⟩ ?_
  rintro _ S1 ⟨rfl,i,rfl,hi,hmay,hnd⟩ KE hKE
  unfold b111_0
  rw [shift_p,ld1_p o1 rfl rfl,lenS_pL,bin_lss,onB_v]
  refine gd_of (fun hlt=>?_) (fun hge=>?_)
  · have hlt:i < g.ands.length:=by simpa using hlt
    have hg':g.ands.getD i (0,0) = g.ands[i]:=by simp [List.getD_eq_getElem?_getD,hlt]
    have hp:=hg.pairs _ (List.getElem_mem hlt)
    have e1:∀ (c:List AV) (K:AV → Store → Prop),ixA 2 1 (.q c 0) (.v (.int .i64 1)) S1 K = K (.q c 1) S1:=fun c K=>ixA_q (z:=1) (by decide)
    have e0:∀ (c:List AV) (K:AV → Store → Prop),ixA 2 1 (.q c 0) (.v (.int .i64 0)) S1 K = K (.q c 0) S1:=fun c K=>ixA_q (z:=0) (by decide)
    show ∃ q24:AV,_
    refine ⟨_,by rw [shift_p]; exact ⟨rfl,rfl⟩,_,by rw [ld1_p o1 rfl rfl]; exact ⟨rfl,rfl⟩,_,by rw [ixS_pL hlt]; exact ⟨rfl,rfl⟩,_,by rw [e0]; exact ⟨rfl,rfl⟩,_,by rw [ld1_q0]; exact ⟨rfl,rfl⟩,
      _,by rw [shift_p]; exact ⟨rfl,rfl⟩,_,by rw [ld1_p o1 rfl rfl]; exact ⟨rfl,rfl⟩,_,by rw [ixS_pL hlt]; exact ⟨rfl,rfl⟩,_,by rw [e1]; exact ⟨rfl,rfl⟩,_,by rw [ld1_q1]; exact ⟨rfl,rfl⟩,?_⟩
    rw [bin_lss,onB_v]
    refine gd_of (fun h5=>⟨?_,k1⟩) (fun h5=>?_)
    · rw [right_may hlt (by rw [hg']; exact may_false1 (of_decide_eq_true h5))]
    rw [bin_half hp.1,bin_half hp.2,bin_leq,onB_v]
    refine gd_of (fun h6=>⟨?_,k1⟩) (fun h6=>?_)
    · rw [right_may hlt (by rw [hg']; exact may_false2 (of_decide_eq_true h6))]
    rw [bin_half hp.1,shift_p,ld1_p o1 rfl rfl,bin_add (by omega) (by omega),bin_add (by omega) (by omega),bin_geq,onB_v]
    refine gd_of (fun h7=>⟨?_,k1⟩) (fun h7=>?_)
    · rw [right_may hlt (by rw [hg']; exact may_false3 (of_decide_eq_true h7))]
    have h5:=of_decide_eq_false h5
    have h6:=of_decide_eq_false h6
    have h7:=of_decide_eq_false h7
    refine loop111_1 (fun y S'=>S' = S1 ∧ ∃ k:Nat,y = aI k ∧ k ≤ i ∧ ∀ j (hj:j < k) (hk:k ≤ i),g.ands[j]'(by omega) ≠ g.ands[i])
      (fun y _=>g.ands.length - ((intA y).getD 0).toNat) ⟨rfl,0,rfl,Nat.zero_le _,fun j hj=>(Nat.not_lt_zero _ hj).elim⟩ ?_
    rintro _ S1 ⟨rfl,k,rfl,hk,hne⟩ KE1 hKE1
    unfold b111_1
    rw [bin_lss,onB_v]
    refine gd_of (fun hlk=>?_) (fun hgk=>?_)
    · have hlk:k < i:=by simpa using hlk
      have hkl:k < g.ands.length:=by omega
      show ∃ q24:AV,_
      refine ⟨_,by rw [shift_p]; exact ⟨rfl,rfl⟩,_,by rw [ld1_p o1 rfl rfl]; exact ⟨rfl,rfl⟩,_,by rw [ixS_pL hkl]; exact ⟨rfl,rfl⟩,_,by rw [ldN_q2]; exact ⟨rfl,rfl⟩,
        _,by rw [shift_p]; exact ⟨rfl,rfl⟩,_,by rw [ld1_p o1 rfl rfl]; exact ⟨rfl,rfl⟩,_,by rw [ixS_pL hlt]; exact ⟨rfl,rfl⟩,_,by rw [ldN_q2]; exact ⟨rfl,rfl⟩,_,by rw [binP_eq]; exact ⟨rfl,rfl⟩,?_⟩
      rw [onB_v]
      refine gd_of (fun h8=>⟨?_,k1⟩) (fun h8=>?_)
      · have h8:g.ands[k] = g.ands[i]:=of_decide_eq_true h8
        have:g.right = false:=by
          cases e:g.right with
          | false=>rfl
          | true =>
            have hnd:=(right_iff.1 e).2.2.2.2.2
            exact absurd h8 (List.pairwise_iff_getElem.1 hnd k i hkl hlt hlk)
        rw [this]
      · have h8:¬ g.ands[k] = g.ands[i]:=of_decide_eq_false h8
        have hadd:∀ K:AV → Store → Prop,∀ S,bin .add 0 (.v (.int .i64 (k:Int))) (.v (.int .i64 1)) S K = K (aI (k + 1:Nat)) S:=fun K S=>bin_add (by omega) (by omega) 0
        rw [hadd]
        refine hKE1 _ _ ⟨rfl,k + 1,rfl,hlk,fun j hj _=>?_⟩ (by simp [intA]; omega)
        rcases Nat.lt_or_ge j k with hj' | hj'
        · exact hne j hj' (by omega)
        · have:j = k:=by omega
          subst this
          exact h8
    · have hge:k = i:=by simp at hgk; omega
      subst hge
      have hadd:∀ K:AV → Store → Prop,∀ S,bin .add 0 (.v (.int .i64 (k:Int))) (.v (.int .i64 1)) S K = K (aI (k + 1:Nat)) S:=fun K S=>bin_add (by omega) (by omega) 0
      rw [hadd]
      refine hKE _ _ ⟨rfl,k + 1,rfl,hlt,fun j hj=>?_,(nodup_take hlt).2 ⟨hnd,fun j hj=>hne j hj (Nat.le_refl _)⟩⟩ (by simp [intA]; omega)
      rcases Nat.lt_or_ge j k with hj' | hj'
      · exact hmay j hj'
      · have:j = k:=by omega
        subst this
        rw [hg']
        simp [may,show 2 ≤ (g.ands[j]).2 by omega,show (g.ands[j]).2.tdiv 2 < (g.ands[j]).1.tdiv 2 by omega,show (g.ands[j]).1.tdiv 2 < g.inputs + 1 + j by omega]
  · have hge:i = g.ands.length:=by simp at hge; omega
    subst hge
    rw [List.take_length] at hnd
    rw [right_iff.2 ⟨h1,h2,by omega,h4,hmay,hnd⟩]
    exact ⟨rfl,k1⟩
theorem Own.appL {n:Nat} {S:Store} {x:AV} {e sz b:Nat} {es ys:List (List AV)} (h:Own n S x e es) (hn:n ≤ S.n) {K:AV → Store → Prop} (hc:∀ c ∈ ys,c.length = sz) (hb:(es.length + ys.length) * b ≤ 140737488355328)
    (k:∀ x' S',Own n S' x' e (es ++ ys) → But S S' x → (x' = x ∨ ∃ m,x' = .s S.n 0 m) → K x' S') {y:AV} (hy:srcE S y = some ys):appS e sz b x y S K:=by
  refine ⟨h.isSl,ys,hy,hc,?_⟩
  cases ys with
  | nil=>exact k x S (by simpa using h) ⟨Nat.le_refl _,fun _ _ _=>rfl⟩ (.inl rfl)
  | cons c ys =>
    rcases h with ⟨rfl,rfl⟩ | ⟨id,rfl,h1,h2,h3⟩
    · refine ⟨by simpa using hb,k _ _ (.inr ⟨S.n,rfl,hn,Nat.lt_succ_self _,by simp [Store.new]⟩) ⟨Nat.le_succ _,fun i hi _=>?_⟩ (.inr ⟨_,rfl⟩)⟩
      simp only [Store.new]; rw [if_neg (by omega)]
    · simp only [appE,h3]
      refine ⟨⟨trivial,trivial,by simpa using hb⟩,k _ _ (.inr ⟨S.n,by simp,hn,Nat.lt_succ_self _,by simp [Store.new,Store.kill]⟩) ⟨Nat.le_succ _,fun i hi hne=>?_⟩ (.inr ⟨_,rfl⟩)⟩
      have e1:i ≠ S.n:=by omega
      have e2:i ≠ id:=fun hq=>hne 0 es.length (by rw [hq])
      simp [Store.new,Store.kill,e1,e2]
theorem bslP {e:Nat} {z1 z2 u v:AV} {S:Store} {K:AV → Store → Prop} (k:K (.l [[u,v]]) S):bslN e 2 1 [z1,z2] [(0,.a [u,v])] S K:=by
  refine ⟨[u,v],?_,.inr ?_⟩
  · simp [fillA,cellsOf,spl,List.range_succ]
  · simpa [chunks,List.range_succ] using k
@[simp] theorem mx_true (a b:Int) {S:Store} {K:AV → Store → Prop}:mxI true (aI a) (aI b) S K = K (aI (if b > a then b else a)) S:=rfl
@[simp] theorem mx_false (a b:Int) {S:Store} {K:AV → Store → Prop}:mxI false (aI a) (aI b) S K = K (aI (if b < a then b else a)) S:=rfl
theorem treeP (l:List (Int × Int)):Tree (pL l):=Tree.l fun c hc u hu=>by
  obtain ⟨p,_,rfl⟩:=List.mem_map.1 hc
  rcases List.mem_cons.1 hu with rfl | hu
  · exact Tree.v _
  · rcases List.mem_cons.1 hu with rfl | hu
    · exact Tree.v _
    · simp at hu
theorem Gr.tree (g:Gr):Tree g.av:=Tree.a fun u hu=>by
  rcases List.mem_cons.1 hu with rfl | hu
  · exact Tree.v _
  · rcases List.mem_cons.1 hu with rfl | hu
    · exact treeP _
    · simp at hu
theorem cv_t3 {S:Store} {n:Nat} {x y z x' y' z':AV} (h1:Cv S n x x') (h2:Cv S n y y') (h3:Cv S n z z'):Cv S n (.t [x,y,z]) (.t [x',y',z']) :=
  .t _ _ rfl fun k u u2 hk hk2=>by
    match k with
    | 0=>cases hk; cases hk2; exact h1
    | 1=>cases hk; cases hk2; exact h2
    | 2=>cases hk; cases hk2; exact h3
    | k + 3=>simp at hk
theorem cv_t2 {S:Store} {n:Nat} {x y x' y':AV} (h1:Cv S n x x') (h2:Cv S n y y'):Cv S n (.t [x,y]) (.t [x',y']) :=
  .t _ _ rfl fun k u u2 hk hk2=>by
    match k with
    | 0=>cases hk; cases hk2; exact h1
    | 1=>cases hk; cases hk2; exact h2
    | k + 2=>simp at hk
theorem cv_a2 {S:Store} {n:Nat} {x y x' y':AV} (h1:Cv S n x x') (h2:Cv S n y y'):Cv S n (.a [x,y]) (.a [x',y']) :=
  .a _ _ rfl fun k u u2 hk hk2=>by
    match k with
    | 0=>cases hk; cases hk2; exact h1
    | 1=>cases hk; cases hk2; exact h2
    | k + 2=>simp at hk
theorem gd_two {b c:Bool} {R T:Prop} (h1:b = true → c = true → R) (h2:¬ (b = true ∧ c = true) → T):gd b (gd c R T) T:=by
  cases b <;> cases c <;> simp_all [gd]
def andT (g:Gr) (x y:Int):Gr × Int × Int :=
  if y = 0 then (g,0,0)
  else if x.tdiv 2 = y.tdiv 2 ∧ x ≠ y then (g,0,0)
  else if y = 1 then (g,x,0)
  else if x = y then (g,x,0)
  else match g.ands.findIdx? (fun p=>decide (p = (x,y))) with
    | some i=>(g,2 * (g.inputs + 1 + i),0)
    | none=>if 2000 ≤ g.vars then (⟨0,[]⟩,0,2) else (⟨g.inputs,g.ands ++ [(x,y)]⟩,2 * (g.vars + 1) - 2,0)
def Gr.and (g:Gr) (a b:Int):Gr × Int × Int :=
  if (g.right && (g.lit a && g.lit b)) = false then (⟨0,[]⟩,0,1) else andT g (if b > a then b else a) (if b < a then b else a)
def andAV (r:Gr × Int × Int):AV:=.t [r.1.av,aI r.2.1,aI r.2.2]
theorem vars40 {i:Int} {x:AV} {n:Nat} (hx:∀ (S:Store) (K:AV → Store → Prop),lenS x S K = K (aI n) S) (h0:0 ≤ i) (h1:i ≤ 1000000) (hn:n ≤ 2000000):Ans Tryz.prog 40 [.a [aI i,x]] (aI (i + 1 + n)):=by
  intro S
  refine ACalls.ans_v (calls40 ?_)
  unfold m40
  refine boxA_of rfl fun S1 k1 n1 o1=>?_
  rw [shift_p,ld1_p o1 rfl rfl,bin_add (by omega) (by omega),shift_p,ld1_p o1 rfl rfl,hx,bin_add (by omega) (by omega)]
  exact ⟨rfl,k1⟩
theorem ans120 {g:Gr} {a b:Int} (hg:g.ok) (ha:i64R a) (hb:i64R b):Ans Tryz.prog 120 [g.av,aI a,aI b] (andAV (g.and a b)):=by
  intro S
  refine ACalls.tree (calls120 ?_)
  have hlen:=hg.len
  unfold m120
  have bd:∀ {a b:Int} {S:Store} {K:AV → Store → Prop},bld [(0,1),(1,1)] [(.v (.int .i64 0)),(.v (.int .i64 0))] [(0,aI a),(1,aI b)] S K = K (.a [aI a,aI b]) S:=bld_of rfl
  have bz:∀ {S:Store} {K:AV → Store → Prop},bld [(0,1),(1,1)] [(.v (.int .i64 0)),.nl] [] S K = K (.a [aI 0,.nl]) S:=bld_of rfl
  refine boxA_of rfl fun S1 k1 n1 o1=>?_
  refine boxA_of rfl fun S2 k2 n2 o2=>?_
  have k2:=k1.trans k2
  have p1:S2.obj S.n = _:=(‹Keep S1 S2›.2 S.n (by omega)).trans o1
  have fin:∀ {S':Store} {v:AV} (r:Gr × Int × Int),Keep S S' → Cv (S'.frz (newer S.n)) S.n v r.1.av → g.and a b = r → ∃ q,AEnd.ret (.t [v,aI r.2.1,aI r.2.2]) = .ret q ∧ Keep S S' ∧ Cv (S'.frz (newer S.n)) S.n q (andAV (g.and a b)) :=
    fun r hk hc e=>⟨_,rfl,hk,by rw [e]; exact cv_t3 hc (.v _) (.v _)⟩
  have err:∀ S',Cv (Store.frz S' (newer S.n)) S.n (.a [aI 0,.nl]) (Gr.av ⟨0,[]⟩):=fun _=>cv_a2 (.v _) .nl
  have bad:∀ {e:Int},(g.right && (g.lit a && g.lit b)) = false → g.and a b = (⟨0,[]⟩,0,1):=fun h=>by simp only [Gr.and]; rw [if_pos h]
  rw [ldN_p (n:=2) p1 rfl]
  refine callF_ans (ans111 hg) ?_
  rw [un_not,onB_v]
  refine gd_of (fun h1=>?_) (fun h1=>?_)
  · rw [bz]
    refine stA_of o2 rfl rfl fun S3 n3 o3 f3=>?_
    rw [ldN_p (n:=2) o3 rfl]
    exact fin (⟨0,[]⟩,0,1) (k2.st (by omega) n3 f3) (err _) (bad (e:=0) (by rw [Bool.not_eq_true'] at h1; rw [h1]; rfl))
  have h1:g.right = true:=by simpa using h1
  rw [ldN_p (n:=2) p1 rfl]
  refine callF_ans (ans112 hg ha) ?_
  rw [un_not,onB_v]
  refine gd_of (fun h2=>?_) (fun h2=>?_)
  · rw [bz]
    refine stA_of o2 rfl rfl fun S3 n3 o3 f3=>?_
    rw [ldN_p (n:=2) o3 rfl]
    exact fin (⟨0,[]⟩,0,1) (k2.st (by omega) n3 f3) (err _) (bad (e:=0) (by rw [Bool.not_eq_true'] at h2; rw [h1,h2]; rfl))
  have h2:g.lit a = true:=by simpa using h2
  rw [ldN_p (n:=2) p1 rfl]
  refine callF_ans (ans112 hg hb) ?_
  rw [un_not,onB_v]
  refine gd_of (fun h3=>?_) (fun h3=>?_)
  · rw [bz]
    refine stA_of o2 rfl rfl fun S3 n3 o3 f3=>?_
    rw [ldN_p (n:=2) o3 rfl]
    exact fin (⟨0,[]⟩,0,1) (k2.st (by omega) n3 f3) (err _) (bad (e:=0) (by rw [Bool.not_eq_true'] at h3; rw [h1,h2,h3]; rfl))
  have h3:g.lit b = true:=by simpa using h3
  obtain ⟨r1,r2,r3,r4,r5,r6⟩:=right_iff.1 h1
  rw [mx_true,mx_false]
  have hx:i64R (if b > a then b else a):=by split <;> assumption
  have hy:i64R (if b < a then b else a):=by split <;> assumption
  have hand:g.and a b = andT g (if b > a then b else a) (if b < a then b else a):=by
    simp only [Gr.and]
    rw [if_neg (by rw [h1,h2,h3]; decide)]
  generalize hex:(if b > a then b else a) = x at *
  generalize hey:(if b < a then b else a) = y at *
  have ok:∀ {S':Store},Cv (S'.frz (newer S.n)) S.n (.a g.cells) g.av:=fun {S'}=>g.tree _ _
  rw [bin_eql,onB_v]
  refine gd_of (fun h4=>?_) (fun h4=>?_)
  · rw [ldN_p (n:=2) p1 rfl]
    refine stA_of o2 rfl rfl fun S3 n3 o3 f3=>?_
    rw [ldN_p (n:=2) o3 rfl]
    exact fin (g,0,0) (k2.st (by omega) n3 f3) ok (hand.trans (by rw [andT,if_pos (of_decide_eq_true h4)]))
  have h4:=of_decide_eq_false h4
  rw [bin_half hx,bin_half hy,bin_eql,onB_v]
  rw [bin_neq,onB_v]
  refine gd_two (fun h5 h6=>?_) (fun h7=>?_)
  · rw [ldN_p (n:=2) p1 rfl]
    refine stA_of o2 rfl rfl fun S3 n3 o3 f3=>?_
    rw [ldN_p (n:=2) o3 rfl]
    exact fin (g,0,0) (k2.st (by omega) n3 f3) ok (hand.trans (by rw [andT,if_neg h4,if_pos ⟨of_decide_eq_true h5,by simpa using h6⟩]))
  · have h7:¬ (x.tdiv 2 = y.tdiv 2 ∧ x ≠ y):=fun h=>h7 ⟨by simpa using h.1,by simpa using h.2⟩
    have hand:g.and a b = (if y = 1 then (g,x,(0:Int))
      else if x = y then (g,x,0)
      else match g.ands.findIdx? (fun p=>decide (p = (x,y))) with
        | some i=>(g,2 * (g.inputs + 1 + i),0)
        | none=>if 2000 ≤ g.vars then (⟨0,[]⟩,0,2) else (⟨g.inputs,g.ands ++ [(x,y)]⟩,2 * (g.vars + 1) - 2,0):Gr × Int × Int):=hand.trans (by rw [andT,if_neg h4,if_neg h7])
    rw [bin_eql,onB_v]
    refine gd_of (fun h8=>?_) (fun h8=>?_)
    · rw [ldN_p (n:=2) p1 rfl]
      refine stA_of o2 rfl rfl fun S3 n3 o3 f3=>?_
      rw [ldN_p (n:=2) o3 rfl]
      exact fin (g,x,0) (k2.st (by omega) n3 f3) ok (hand.trans (by rw [if_pos (of_decide_eq_true h8)]))
    have h8:=of_decide_eq_false h8
    rw [bin_eql,onB_v]
    refine gd_of (fun h9=>?_) (fun h9=>?_)
    · rw [ldN_p (n:=2) p1 rfl]
      refine stA_of o2 rfl rfl fun S3 n3 o3 f3=>?_
      rw [ldN_p (n:=2) o3 rfl]
      exact fin (g,x,0) (k2.st (by omega) n3 f3) ok (hand.trans (by rw [if_neg h8,if_pos (of_decide_eq_true h9)]))
    have h9:=of_decide_eq_false h9
    have hand:=hand.trans (by rw [if_neg h8,if_neg h9])
    refine loop120_0 (fun z S'=>S' = S2 ∧ ∃ i:Nat,z = aI i ∧ i ≤ g.ands.length ∧ ∀ j (hj:j < g.ands.length),j < i → g.ands[j] ≠ (x,y))
      (fun z _=>g.ands.length - ((intA z).getD 0).toNat) ⟨rfl,0,rfl,Nat.zero_le _,fun j _ hj=>(Nat.not_lt_zero _ hj).elim⟩ ?_
    rintro _ S2 ⟨rfl,i,rfl,hi,hno⟩ KE hKE
    unfold b120_0
    have hl3:=r3
    have hv:=r4
    unfold Gr.vars at hv
    rw [shift_p,ld1_p p1 rfl rfl,lenS_pL,bin_lss,onB_v]
    refine gd_of (fun hlt=>?_) (fun hge=>?_)
    · have hlt:i < g.ands.length:=by simpa using hlt
      rw [shift_p,ld1_p p1 rfl rfl,ixS_pL hlt,ldN_q2,bd,binP_eq,onB_v]
      refine gd_of (fun h10=>?_) (fun h10=>?_)
      · have h10:g.ands[i] = (x,y):=of_decide_eq_true h10
        have hf:g.ands.findIdx? (fun p=>decide (p = (x,y))) = some i:=by
          rw [List.findIdx?_eq_some_iff_getElem]
          exact ⟨hlt,by simpa using h10,fun j hj=>by simpa using hno j (by omega) hj⟩
        have q:∀ T:Store,Keep S2 T → T.obj S.n = some (.cells 82 [g.cells] true):=fun T hT=>(hT.2 _ (by omega)).trans p1
        have e1:∀ {S:Store} {K:AV → Store → Prop},bin .add 0 (aI g.inputs) (aI 1) S K = K (aI (g.inputs + 1)) S:=bin_add (by omega) (by omega) 0
        have e2:∀ {S:Store} {K:AV → Store → Prop},bin .add 0 (aI (g.inputs + 1)) (aI i) S K = K (aI (g.inputs + 1 + i)) S:=bin_add (by omega) (by omega) 0
        have e3:∀ {S:Store} {K:AV → Store → Prop},bin .mul 0 (aI 2) (aI (g.inputs + 1 + i)) S K = K (aI (2 * (g.inputs + 1 + i))) S:=bin_mul (by omega) (by omega) 0
        refine ⟨_,fun T hT=>by rw [ldN_p (n:=2) (q T hT) rfl]; exact ⟨rfl,rfl⟩,_,fun T hT=>by rw [shift_p]; exact ⟨rfl,rfl⟩,_,fun T hT=>by rw [ld1_p (q T hT) rfl rfl]; exact ⟨rfl,rfl⟩,_,fun T hT=>by rw [e1]; exact ⟨rfl,rfl⟩,_,fun T hT=>by rw [e2]; exact ⟨rfl,rfl⟩,_,fun T hT=>by rw [e3]; exact ⟨rfl,rfl⟩,?_⟩
        refine stA_of o2 rfl rfl fun S3 n3 o3 f3=>?_
        have q3:∀ T:Store,Keep S3 T → T.obj S.n = some (.cells 82 [g.cells] true):=fun T hT=>(hT.2 _ (by omega)).trans ((f3 _ (by omega)).trans p1)
        refine ⟨fun T hT=>by rw [e3]; exact ⟨rfl,rfl⟩,fun T hT=>by rw [e2]; exact ⟨rfl,rfl⟩,fun T hT=>by rw [e1]; exact ⟨rfl,rfl⟩,fun T hT=>by rw [ld1_p (q3 T hT) rfl rfl]; exact ⟨rfl,rfl⟩,fun T hT=>by rw [shift_p]; exact ⟨rfl,rfl⟩,?_⟩
        rw [ldN_p (n:=2) o3 rfl]
        exact fin (g,2 * (g.inputs + 1 + i),0) (k2.st (by omega) n3 f3) ok (hand.trans (by rw [hf]))
      · have h10:¬ g.ands[i] = (x,y):=of_decide_eq_false h10
        have hadd:∀ K:AV → Store → Prop,∀ S,bin .add 0 (.v (.int .i64 (i:Int))) (.v (.int .i64 1)) S K = K (aI (i + 1:Nat)) S:=fun K S=>bin_add (by omega) (by omega) 0
        rw [hadd]
        refine hKE _ _ ⟨rfl,i + 1,rfl,hlt,fun j hj hj'=>?_⟩ (by simp [intA]; omega)
        rcases Nat.lt_or_ge j i with h | h
        · exact hno j hj h
        · have:j = i:=by omega
          subst this
          exact h10
    · have hge:i = g.ands.length:=by simp at hge; omega
      subst hge
      have hf:g.ands.findIdx? (fun p=>decide (p = (x,y))) = none:=by
        rw [List.findIdx?_eq_none_iff]
        intro q hq
        obtain ⟨j,hj,rfl⟩:=List.getElem_of_mem hq
        simpa using hno j hj hj
      rw [hf] at hand
      rw [ldN_p (n:=2) p1 rfl]
      refine callF_ans (ans40 hg (by omega) r1) ?_
      rw [bin_geq,onB_v]
      refine gd_of (fun h11=>?_) (fun h11=>?_)
      · rw [bz]
        refine stA_of o2 rfl rfl fun S3 n3 o3 f3=>?_
        rw [ldN_p (n:=2) o3 rfl]
        exact fin (⟨0,[]⟩,0,2) (k2.st (by omega) n3 f3) (err _) (hand.trans (by simp only [if_pos (of_decide_eq_true h11)]))
      have h11:=of_decide_eq_false h11
      have hand:g.and a b = (⟨g.inputs,g.ands ++ [(x,y)]⟩,2 * (g.vars + 1) - 2,0):=hand.trans (by simp only [if_neg h11])
      refine boxA_of rfl fun S3 k3 n3 o3=>?_
      have p3:=(k3.2 S.n (by omega)).trans p1
      rw [shift_p,ld1_p p3 rfl rfl,shift_p]
      refine stF_of o3 (by simp) rfl fun S4 n4 o4 f4=>?_
      have p4:=(f4 S.n (by omega)).trans p3
      rw [shift_p,ld1_p o4 rfl rfl,shift_p,ld1_p p4 rfl rfl]
      have m2:=k2.1
      have m3:=k3.1
      have k4:Keep S S4:=(k2.trans k3).st (by omega) n4 f4
      have v4:S4.obj S1.n = _:=(f4 S1.n (by omega)).trans ((k3.2 S1.n (by omega)).trans o2)
      refine Own.appL (Own.nl S.n S4 124) (by omega) (ys:=g.ands.map fun p=>[aI p.1,aI p.2]) (fun c hc=>by obtain ⟨p,_,rfl⟩:=List.mem_map.1 hc; rfl) (by simp; omega) (fun z1 S5 w5 b5 hz5=>?_) rfl
      rw [bd]
      refine bslP ?_
      have k5:Keep S S5:=w5.keep (S0:=S) (Nat.le_refl _) ⟨Nat.le_refl _,fun _ _ _=>rfl⟩ ⟨Nat.le_trans k4.1 b5.1,fun i hi=>(b5.2 i (by have:=k4.1; omega) (fun _ _ h=>by cases h)).trans (k4.2 i hi)⟩
      have e5:∀ i,i < S4.n → S5.obj i = S4.obj i:=fun i hi=>b5.2 i hi (fun _ _ h=>by cases h)
      have z5:∀ i b m,z1 = .s i b m → i = S4.n:=fun i b m e=>by
        rcases hz5 with h | ⟨m',h⟩
        · rw [h] at e; cases e
        · rw [h] at e; cases e; rfl
      have n5:=b5.1
      refine w5.app (by have:=k5.1; omega) (c:=[aI x,aI y]) rfl (by simp; omega) (fun z2 S6 w6 b6 hz6=>?_) rfl
      have e6:∀ i,i < S4.n → S6.obj i = S4.obj i:=fun i hi=>(b6.2 i (by omega) (fun b m e=>by have:=z5 i b m e; omega)).trans (e5 i hi)
      have n6:=b6.1
      have k6:Keep S S6:=w5.keep (Nat.le_refl _) b6 k5
      obtain ⟨m6,hz6⟩:=hz6
      rw [shift_p]
      refine stF_of ((e6 S2.n (by omega)).trans o4) (by simp) (by rw [hz6]; rfl) fun S7 n7 o7 f7=>?_
      have p7:S7.obj S.n = _:=(f7 S.n (by omega)).trans ((e6 S.n (by omega)).trans p4)
      have v7:S7.obj S1.n = _:=(f7 S1.n (by omega)).trans ((e6 S1.n (by omega)).trans v4)
      have k7:Keep S S7:=k6.st (by omega) n7 f7
      have w7:Own S.n S7 z2 124 _:=w6.st (id:=S2.n) (fun b m e=>by rw [hz6] at e; injection e; omega) n7 f7
      have hlen2:(((g.ands.map fun p=>[aI p.1,aI p.2]) ++ [[aI x,aI y]]).length:Nat) = g.ands.length + 1:=by simp
      have hz:∀ (S:Store) (K:AV → Store → Prop),lenS z2 S K = K (aI (g.ands.length + 1:Nat)) S:=fun S K=>by
        rcases w7 with ⟨h,h'⟩ | ⟨id,h,_,_,_⟩
        · rw [h] at hz6; cases hz6
        · rw [h,lenS_s,List.nil_append,hlen2]
      have q:∀ T:Store,Keep S7 T → T.obj S2.n = some (.cells 82 [[aI g.inputs,z2]] true):=fun T hT=>(hT.2 _ (by omega)).trans o7
      have e1:∀ {S:Store} {K:AV → Store → Prop},bin .mul 0 (aI 2) (aI (g.inputs + 1 + (g.ands.length + 1:Nat))) S K = K (aI (2 * (g.inputs + 1 + (g.ands.length + 1:Nat)))) S:=bin_mul (by omega) (by omega) 0
      have e2:∀ {S:Store} {K:AV → Store → Prop},bin .sub 0 (aI (2 * (g.inputs + 1 + (g.ands.length + 1:Nat)))) (aI 2) S K = K (aI (2 * (g.inputs + 1 + (g.ands.length + 1:Nat)) - 2)) S:=bin_sub (by omega) (by omega) 0
      refine ⟨_,fun T hT=>by rw [ldN_p (n:=2) (q T hT) rfl]; exact ⟨rfl,rfl⟩,_,fun T hT=>by rw [ldN_p (n:=2) (q T hT) rfl]; exact ⟨rfl,rfl⟩,_,fun T hT=>callF_ans (vars40 hz r1 (by omega) (by omega)) ⟨rfl,rfl⟩,_,fun T hT=>by rw [e1]; exact ⟨rfl,rfl⟩,_,fun T hT=>by rw [e2]; exact ⟨rfl,rfl⟩,?_⟩
      refine stA_of v7 rfl rfl fun S8 n8 o8 f8=>?_
      refine ⟨fun T hT=>by rw [e2]; exact ⟨rfl,rfl⟩,fun T hT=>by rw [e1]; exact ⟨rfl,rfl⟩,?_⟩
      rw [ldN_p (n:=2) o8 rfl]
      have w8:Own S.n S8 z2 124 _:=w7.st (id:=S1.n) (fun b m e=>by rw [hz6] at e; injection e; omega) n8 f8
      have hv2:g.vars = g.inputs + 1 + g.ands.length:=rfl
      have:=fin (S':=S8) (v:=.a [aI g.inputs,z2]) (⟨g.inputs,g.ands ++ [(x,y)]⟩,2 * (g.vars + 1) - 2,0) (k7.st (by omega) n8 f8) (cv_a2 (.v _) (w8.cv rfl (by simp) (fun i c c2 hc hc2=>?_))) hand
      · rw [hv2,show g.inputs + 1 + (g.ands.length:Int) + 1 = g.inputs + 1 + (g.ands.length + 1:Nat) by omega] at this
        exact this
      · have:c = c2:=by
          rw [List.nil_append] at hc
          rw [List.map_append] at hc2
          exact Option.some.inj (hc.symm.trans hc2)
        subst this
        refine ⟨rfl,fun k u u2 hu hu2=>?_⟩
        rw [hu] at hu2; cases hu2
        have hm:=List.mem_of_getElem? hc2
        rw [List.mem_map] at hm
        obtain ⟨p,_,rfl⟩:=hm
        match k with
        | 0=>cases hu; exact .v _
        | 1=>cases hu; exact .v _
        | k + 2=>simp at hu
section
variable {S:Store} {K:AV → Store → Prop}
theorem ixStr_b {b:ByteArray} {i:Nat} (h:i < b.size):ixStr (.v (.string b)) (aI i) S K = K (.v (.int .u8 (b[i]).toNat)) S:=by
  simp [ixStr,intA,h]
@[simp] theorem lenStr_b (b:ByteArray):lenStr (.v (.string b)) S K = K (aI b.size) S:=rfl
theorem bytesEq (a b:ByteArray):(a.toList == b.toList) = decide (a = b):=by
  rw [Bool.eq_iff_iff,beq_iff_eq,ByteArray.toList_eq,ByteArray.toList_eq,decide_eq_true_eq]
  exact ⟨fun h=>ByteArray.ext (Array.toList_inj.mp h),fun h=>by rw [h]⟩
theorem bin_eqlS (a b:ByteArray) (kd:Nat):bin .eql kd (.v (.string a)) (.v (.string b)) S K = K (aB (decide (a = b))) S:=by simp [bin,b2,strB,bytesEq]
theorem bin_neqS (a b:ByteArray) (kd:Nat):bin .neq kd (.v (.string a)) (.v (.string b)) S K = K (aB (!decide (a = b))) S:=by simp [bin,b2,strB,bytesEq]
theorem ld1_qj {c:List AV} {j:Nat} {u:AV} (h:c[j]? = some u):ld1 (.q c j) S K = K u S:=by simp [ld1,rd1,place,h]
@[simp] theorem shift_q (c:List AV) (j n:Nat):shift (.q c j) n S K = K (.q c (j + n)) S:=rfl
end
def wordB (b:ByteArray):Bool:=decide (∀ i (h:i < b.size),33 ≤ (b[i]).toNat ∧ (b[i]).toNat ≤ 126) && (decide (0 < b.size) && decide (b.size ≤ 20))
theorem ans149 (b:ByteArray) (hb:b.size ≤ 9223372036854775807):Ans Tryz.prog 149 [.v (.string b)] (aB (wordB b)):=by
  intro S
  refine ACalls.ans_v (calls149 ?_)
  unfold m149
  refine loop149_0 (fun y S'=>S' = S ∧ ∃ i:Nat,y = aI i ∧ i ≤ b.size ∧ ∀ j (h:j < b.size),j < i → 33 ≤ (b[j]).toNat ∧ (b[j]).toNat ≤ 126)
    (fun y _=>b.size - ((intA y).getD 0).toNat) ⟨rfl,0,rfl,Nat.zero_le _,fun j _ hj=>(Nat.not_lt_zero _ hj).elim⟩ ?_
  rintro _ S ⟨rfl,i,rfl,hi,hok⟩ KE hKE
  unfold b149_0
  rw [lenStr_b,bin_lss,onB_v]
  refine gd_of (fun hlt=>?_) (fun hge=>?_)
  · have hlt:i < b.size:=by simpa using hlt
    have bad:¬ (33 ≤ (b[i]).toNat ∧ (b[i]).toNat ≤ 126) → wordB b = false:=fun h=>by
      simp only [wordB,Bool.and_eq_false_iff,decide_eq_false_iff_not]
      exact .inl fun h'=>h (h' i hlt)
    rw [ixStr_b hlt,bin_lss,onB_v]
    refine gd_of (fun h1=>⟨by rw [bad (fun h=>by have:=of_decide_eq_true h1; omega)],Keep.refl _⟩) (fun h1=>?_)
    rw [ixStr_b hlt,bin_gtr,onB_v]
    refine gd_of (fun h2=>⟨by rw [bad (fun h=>by have:=of_decide_eq_true h2; omega)],Keep.refl _⟩) (fun h2=>?_)
    have hadd:∀ K:AV → Store → Prop,∀ S,bin .add 0 (.v (.int .i64 (i:Int))) (.v (.int .i64 1)) S K = K (aI (i + 1:Nat)) S:=fun K S=>bin_add (by omega) (by omega) 0
    rw [hadd]
    refine hKE _ _ ⟨rfl,i + 1,rfl,hlt,fun j hj hj'=>?_⟩ (by simp [intA]; omega)
    rcases Nat.lt_or_ge j i with h | h
    · exact hok j hj h
    · have:j = i:=by omega
      subst this
      have h1:=of_decide_eq_false h1
      have h2:=of_decide_eq_false h2
      omega
  · have hge:i = b.size:=by simp at hge; omega
    subst hge
    have hall:decide (∀ i (h:i < b.size),33 ≤ (b[i]).toNat ∧ (b[i]).toNat ≤ 126) = true:=decide_eq_true fun j hj=>hok j hj hj
    rw [lenStr_b,bin_gtr,onB_v]
    refine gd_of (fun h1=>?_) (fun h1=>⟨?_,Keep.refl _⟩)
    · rw [lenStr_b,bin_leq]
      refine ⟨?_,Keep.refl _⟩
      simp only [wordB,hall,Bool.true_and,show 0 < b.size by simpa using h1,decide_true]
      rw [show decide ((b.size:Int) ≤ 20) = decide (b.size ≤ 20) from decide_eq_decide.2 (by omega)]
    · simp [wordB,show ¬ 0 < b.size by simpa using h1]
theorem ans167 (b:ByteArray) (hb:b.size ≤ 9223372036854775807):Ans Tryz.prog 167 [.v (.string b)] (aB (wordB b)):=by
  intro S
  refine ACalls.ans_v (calls167 ?_)
  unfold m167
  rw [lenStr_b]
  refine loop167_0 (fun y S'=>S' = S ∧ ∃ i:Nat,y = aI i ∧ i ≤ b.size ∧ ∀ j (h:j < b.size),j < i → 33 ≤ (b[j]).toNat ∧ (b[j]).toNat ≤ 126)
    (fun y _=>b.size - ((intA y).getD 0).toNat) ⟨rfl,0,rfl,Nat.zero_le _,fun j _ hj=>(Nat.not_lt_zero _ hj).elim⟩ ?_
  rintro _ S ⟨rfl,i,rfl,hi,hok⟩ KE hKE
  unfold b167_0
  rw [bin_lss,onB_v]
  refine gd_of (fun hlt=>?_) (fun hge=>?_)
  · have hlt:i < b.size:=by simpa using hlt
    have bad:¬ (33 ≤ (b[i]).toNat ∧ (b[i]).toNat ≤ 126) → wordB b = false:=fun h=>by
      simp only [wordB,Bool.and_eq_false_iff,decide_eq_false_iff_not]
      exact .inl fun h'=>h (h' i hlt)
    rw [ixStr_b hlt,bin_leq,onB_v]
    refine gd_of (fun h1=>⟨by rw [bad (fun h=>by have:=of_decide_eq_true h1; omega)],Keep.refl _⟩) (fun h1=>?_)
    rw [ixStr_b hlt,bin_gtr,onB_v]
    refine gd_of (fun h2=>⟨by rw [bad (fun h=>by have:=of_decide_eq_true h2; omega)],Keep.refl _⟩) (fun h2=>?_)
    have hadd:∀ K:AV → Store → Prop,∀ S,bin .add 0 (.v (.int .i64 (i:Int))) (.v (.int .i64 1)) S K = K (aI (i + 1:Nat)) S:=fun K S=>bin_add (by omega) (by omega) 0
    rw [hadd]
    refine hKE _ _ ⟨rfl,i + 1,rfl,hlt,fun j hj hj'=>?_⟩ (by simp [intA]; omega)
    rcases Nat.lt_or_ge j i with h | h
    · exact hok j hj h
    · have:j = i:=by omega
      subst this
      have h1:=of_decide_eq_false h1
      have h2:=of_decide_eq_false h2
      omega
  · have hge:i = b.size:=by simp at hge; omega
    subst hge
    have hall:decide (∀ i (h:i < b.size),33 ≤ (b[i]).toNat ∧ (b[i]).toNat ≤ 126) = true:=decide_eq_true fun j hj=>hok j hj hj
    have he:decide (b = { data:=#[] }) = decide (b.size = 0):=by
      by_cases h:b.size = 0
      · have:b = { data:=#[] }:=byteArray_ext (Array.eq_empty_of_size_eq_zero h)
        subst this
        rfl
      · have:¬ b = { data:=#[] }:=fun e=>h (by rw [e]; rfl)
        simp [this,h]
    rw [bin_neqS,he,onB_v]
    refine gd_of (fun h1=>?_) (fun h1=>⟨?_,Keep.refl _⟩)
    · have h1:b.size ≠ 0:=by simpa using h1
      rw [lenStr_b,bin_leq]
      refine ⟨?_,Keep.refl _⟩
      simp only [wordB,hall,Bool.true_and,show 0 < b.size by omega,decide_true]
      rw [show decide ((b.size:Int) ≤ 20) = decide (b.size ≤ 20) from decide_eq_decide.2 (by omega)]
    · have h1:b.size = 0:=by simpa using h1
      simp [wordB,h1]
def rankI (k:Int):Int:=if k = 105 then 0 else if k = 108 then 1 else if k = 111 then 2 else if k = 98 then 3 else if k = 99 then 4 else if k = 102 then 5 else -1
def kindS:ByteArray:={ data:=#[105,108,111,98,99,102] }
def kindAt (i:Nat):Int:=[105,108,111,98,99,102].getD i 0
theorem kindS_get {i:Nat} (h:i < 6):∃ h':i < kindS.size,((kindS[i]'h').toNat:Int) = kindAt i:=by
  match i,h with
  | 0,_ | 1,_ | 2,_ | 3,_ | 4,_ | 5,_=>exact ⟨by decide,by decide⟩
theorem rankI_at {k:Int} {i:Nat} (h:i < 6) (hk:kindAt i = k):rankI k = i:=by
  subst hk
  match i,h with
  | 0,_ | 1,_ | 2,_ | 3,_ | 4,_ | 5,_=>decide
theorem rankI_no {k:Int} (h:∀ i,i < 6 → kindAt i ≠ k):rankI k = -1:=by
  have h0:(105:Int) ≠ k:=h 0 (by decide)
  have h1:(108:Int) ≠ k:=h 1 (by decide)
  have h2:(111:Int) ≠ k:=h 2 (by decide)
  have h3:(98:Int) ≠ k:=h 3 (by decide)
  have h4:(99:Int) ≠ k:=h 4 (by decide)
  have h5:(102:Int) ≠ k:=h 5 (by decide)
  simp only [rankI]
  rw [if_neg (Ne.symm h0),if_neg (Ne.symm h1),if_neg (Ne.symm h2),if_neg (Ne.symm h3),if_neg (Ne.symm h4),if_neg (Ne.symm h5)]
theorem ans151 (k:Int):Ans Tryz.prog 151 [.v (.int .u8 k)] (aI (rankI k)):=by
  intro S
  refine ACalls.ans_v (calls151 ?_)
  unfold m151
  refine loop151_0 (fun y S'=>S' = S ∧ ∃ i:Nat,y = aI i ∧ i ≤ 6 ∧ ∀ j,j < i → kindAt j ≠ k)
    (fun y _=>6 - ((intA y).getD 0).toNat) ⟨rfl,0,rfl,Nat.zero_le _,fun j hj=>(Nat.not_lt_zero _ hj).elim⟩ ?_
  rintro _ S ⟨rfl,i,rfl,hi,hno⟩ KE hKE
  unfold b151_0
  rw [lenStr_b,bin_lss,onB_v]
  refine gd_of (fun hlt=>?_) (fun hge=>?_)
  · have hlt:i < 6:=by have:=of_decide_eq_true hlt; exact Int.ofNat_lt.1 this
    obtain ⟨h',he⟩:=kindS_get hlt
    show ixStr (.v (.string kindS)) _ _ _
    rw [ixStr_b h',he,bin_eql,onB_v]
    refine gd_of (fun h1=>⟨?_,Keep.refl _⟩) (fun h1=>?_)
    · rw [rankI_at hlt (of_decide_eq_true h1)]
    · have hadd:∀ K:AV → Store → Prop,∀ S,bin .add 0 (.v (.int .i64 (i:Int))) (.v (.int .i64 1)) S K = K (aI (i + 1:Nat)) S:=fun K S=>bin_add (by omega) (by omega) 0
      rw [hadd]
      refine hKE _ _ ⟨rfl,i + 1,rfl,hlt,fun j hj=>?_⟩ (by simp [intA]; omega)
      rcases Nat.lt_or_ge j i with h | h
      · exact hno j h
      · have:j = i:=by omega
        subst this
        exact of_decide_eq_false h1
  · have hge:i = 6:=by
      have:¬ ((i:Int) < 6):=of_decide_eq_false hge
      omega
    subst hge
    rw [rankI_no hno]
    exact ⟨rfl,Keep.refl _⟩
theorem ans168 (k:Int) (h0:0 ≤ k) (h1:k < 256):Ans Tryz.prog 168 [.v (.int .u8 k)] (aI (rankI k)):=by
  intro S
  refine ACalls.ans_v (calls168 ?_)
  unfold m168 rngS
  refine loop168_0 (fun S'=>Keep S S' ∧ ∃ i:Nat,S'.obj S.n = some (.sit kindS i) ∧ i ≤ 6 ∧ ∀ j,j < i → kindAt j ≠ k)
    (fun S'=>match S'.obj S.n with | some (.sit _ i)=>6 - i | _=>0) ⟨(Keep.refl S).new _,0,by rw [new_self]; rfl,Nat.zero_le _,fun j hj=>(Nat.not_lt_zero _ hj).elim⟩ ?_
  rintro S1 ⟨k1,i,o1,hi,hno⟩ KE hKE
  unfold b168_0 nextM
  simp only [o1]
  refine ⟨fun hlt=>?_,fun hge=>?_⟩
  · have hlt:i < 6:=hlt
    have hdec:(((Utf8.decode kindS i).1:Nat):Int) = kindAt i ∧ (Utf8.decode kindS i).2 = 1:=by
      match i,hlt with
      | 0,_ | 1,_ | 2,_ | 3,_ | 4,_ | 5,_=>exact ⟨by decide,by decide⟩
    rw [hdec.1,hdec.2]
    show extr _ _ _ _
    rw [extr0]
    show onB _ _
    rw [onB_v,gd_true,extr1,extr2,convI_v]
    have hw:IntKind.i32.wrap k = k:=by
      rw [IntKind.wrap_i32]; omega
    rw [hw,bin_eql,onB_v]
    refine gd_of (fun h2=>⟨?_,k1.upd (Nat.le_refl _) _⟩) (fun h2=>?_)
    · rw [rankI_at hlt (of_decide_eq_true h2).symm]
    · refine hKE _ ⟨k1.upd (Nat.le_refl _) _,i + 1,upd_self _ _,hlt,fun j hj=>?_⟩ (by simp only [upd_self,o1]; omega)
      rcases Nat.lt_or_ge j i with h | h
      · exact hno j h
      · have:j = i:=by omega
        subst this
        exact Ne.symm (of_decide_eq_false h2)
  · have hge:i = 6:=by
      have:¬ (i < 6):=hge
      omega
    subst hge
    show extr _ _ _ _
    rw [over,extr0,onB_v,gd_false,rankI_no hno]
    exact ⟨rfl,k1⟩
end Go.Proofs.YtolgpokppnajdaaGreat.G

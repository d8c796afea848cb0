/- It is proved here that each of the laws of spaces (SpaceAny, SpaceMade, SpaceNext, SpaceInputs) returns true for every input and changes none of its arguments. There is no condition beyond the given statement. -/
import Derived.Test.YtolgpokppnajdaaProg
import Derived.KernelRfl
import Derived.Test.YtolgpokppnajdaaSpT3
set_option linter.unusedVariables false
set_option maxRecDepth 100000
namespace Go.Proofs.Ytolgpokppnajdaa.G
open Go Go.Ab
/-! ### 48 parterre/parterreref04.names -/
noncomputable def c48 : Code := (Try.f48.body).getD .skip
noncomputable def r48 : List ResultVar := Try.f48.results.toList
def env48_0 (y1 y3 : AV) : List AV := [y1, y3]
def lv48_0 : List Nat := [1, 3]
def env48_1 (y1 y3 y4 y5 : AV) : List AV := [y1, y3, y4, y5]
def lv48_1 : List Nat := [1, 3, 4, 5]
def ms48 : List (List Nat) := [lv48_0, lv48_1, []]
def m48 (x0 : AV) (S : Store) (Q : AEnd → Store → Prop) : Prop :=
  boxN 27 8 x0 S fun v1 S => loopV lv48_0 (vc Try.prog (c48.at_ [1, 0, 1, 0, 0]) (ms48.drop 1)) 85 (env48_0 v1 (.v (Go.Value.int Go.IntKind.i64 0))) S (blockK 0 (seqK (vc Try.prog (c48.at_ [1, 1]) (ms48.drop 2)) (bodyK Try.prog r48 Q)))
theorem m48_eq : (fun (x0 : AV) (S : Store) (Q : AEnd → Store → Prop) => vc Try.prog c48 ms48 (ofArgs 85 [x0]) S (bodyK Try.prog r48 Q)) = (fun (x0 : AV) (S : Store) (Q : AEnd → Store → Prop) => m48 x0 S Q) := by kernel_rfl
theorem calls48 {x0 : AV} {S : Store} {Q : AEnd → Store → Prop} (h : m48 x0 S Q) : ACalls Try.prog 48 [x0] S Q :=
  calls_of_vc (fn := Try.f48) (c := c48) (n := 85) Try.func48 (by kernel_rfl) (by kernel_rfl) (by kernel_rfl) ms48 ((congrFun (congrFun (congrFun m48_eq x0) S) Q).mpr h)
-- loop 0: written: y3; read alone: y1
def b48_0 (y1 y3 : AV) (S : Store) (KE0 : Nat → List AV → Store → Prop) (Q : AEnd → Store → Prop) : Prop :=
  shift y1 7 S fun v2 S => ld1 v2 S fun v3 S => lenS v3 S fun v4 S => bin .lss 0 y3 v4 S fun v5 S => onB v5 fun b6 => gd b6 (shift y1 7 S fun v7 S => ld1 v7 S fun v8 S => ixS 54 3 v8 y3 S fun v9 S => ldN 3 v9 S fun v10 S => boxN 54 3 (.a [(.v (.int .u8 0)), (.v (.int .i64 0)), (.v (.string ByteArray.empty))]) S fun v11 S => stN 3 v11 v10 S fun v12 S => (fun S0 : Store => ∃ q13 : AV, (shift v11 2 S fun v14 S => v14 = q13 ∧ S = S0) ∧ ∃ q15 : AV, (ld1 q13 S fun v16 S => v16 = q15 ∧ S = S0) ∧ ∃ q17 : AV, (callF Try.prog 59 [q15] S (fun _ _ => False) fun v18 S => v18 = q17 ∧ S = S0) ∧ ∃ q19 : AV, (un .not q17 S fun v20 S => v20 = q19 ∧ S = S0) ∧ onB q19 fun b21 => gd b21 (∃ q22 : AV, ((.v (Go.Value.bool true)) = q22 ∧ S = S0) ∧ onB q22 fun b23 => gd b23 (∃ q24 : AV, ((.v (Go.Value.bool true)) = q24 ∧ S = S0) ∧ onB q24 fun b25 => gd b25 (Q (.ret (.v (Go.Value.bool false))) S) (loopV lv48_1 (vc Try.prog (c48.at_ [1, 0, 1, 0, 0, 1, 0, 0, 1, 1, 0, 1, 0, 0]) (ms48.drop 2)) 85 (env48_1 y1 y3 v11 (.v (Go.Value.int Go.IntKind.i64 0))) S (blockK 2 (seqK (vc Try.prog (c48.at_ [1, 0, 1, 0, 0, 1, 0, 0, 1, 1, 1]) (ms48.drop 2)) (blockK 1 (seqK (vc Try.prog (c48.at_ [1, 0, 1, 0, 0, 1, 1]) (ms48.drop 2)) (thenK (fgK lv48_0 KE0) (blockK 0 (seqK (vc Try.prog (c48.at_ [1, 1]) (ms48.drop 2)) (bodyK Try.prog r48 Q)))))))))) (∃ q26 : AV, (shift v11 1 S fun v27 S => v27 = q26 ∧ S = S0) ∧ ∃ q28 : AV, (ld1 q26 S fun v29 S => v29 = q28 ∧ S = S0) ∧ ∃ q30 : AV, (ldN 8 y1 S fun v31 S => v31 = q30 ∧ S = S0) ∧ ∃ q32 : AV, (shift v11 0 S fun v33 S => v33 = q32 ∧ S = S0) ∧ ∃ q34 : AV, (ld1 q32 S fun v35 S => v35 = q34 ∧ S = S0) ∧ ∃ q36 : AV, (callF Try.prog 60 [q30, q34] S (fun _ _ => False) fun v37 S => v37 = q36 ∧ S = S0) ∧ ∃ q38 : AV, (bin .geq 0 q28 q36 S fun v39 S => v39 = q38 ∧ S = S0) ∧ ∃ q40 : AV, (q38 = q40 ∧ S = S0) ∧ onB q40 fun b41 => gd b41 (Q (.ret (.v (Go.Value.bool false))) S) (loopV lv48_1 (vc Try.prog (c48.at_ [1, 0, 1, 0, 0, 1, 0, 0, 1, 1, 0, 1, 0, 0]) (ms48.drop 2)) 85 (env48_1 y1 y3 v11 (.v (Go.Value.int Go.IntKind.i64 0))) S (blockK 2 (seqK (vc Try.prog (c48.at_ [1, 0, 1, 0, 0, 1, 0, 0, 1, 1, 1]) (ms48.drop 2)) (blockK 1 (seqK (vc Try.prog (c48.at_ [1, 0, 1, 0, 0, 1, 1]) (ms48.drop 2)) (thenK (fgK lv48_0 KE0) (blockK 0 (seqK (vc Try.prog (c48.at_ [1, 1]) (ms48.drop 2)) (bodyK Try.prog r48 Q))))))))))) (∃ q42 : AV, (shift v11 1 S fun v43 S => v43 = q42 ∧ S = S0) ∧ ∃ q44 : AV, (ld1 q42 S fun v45 S => v45 = q44 ∧ S = S0) ∧ ∃ q46 : AV, (bin .lss 0 q44 (.v (Go.Value.int Go.IntKind.i64 0)) S fun v47 S => v47 = q46 ∧ S = S0) ∧ ∃ q48 : AV, (q46 = q48 ∧ S = S0) ∧ onB q48 fun b49 => gd b49 (∃ q50 : AV, ((.v (Go.Value.bool true)) = q50 ∧ S = S0) ∧ onB q50 fun b51 => gd b51 (Q (.ret (.v (Go.Value.bool false))) S) (loopV lv48_1 (vc Try.prog (c48.at_ [1, 0, 1, 0, 0, 1, 0, 0, 1, 1, 0, 1, 0, 0]) (ms48.drop 2)) 85 (env48_1 y1 y3 v11 (.v (Go.Value.int Go.IntKind.i64 0))) S (blockK 2 (seqK (vc Try.prog (c48.at_ [1, 0, 1, 0, 0, 1, 0, 0, 1, 1, 1]) (ms48.drop 2)) (blockK 1 (seqK (vc Try.prog (c48.at_ [1, 0, 1, 0, 0, 1, 1]) (ms48.drop 2)) (thenK (fgK lv48_0 KE0) (blockK 0 (seqK (vc Try.prog (c48.at_ [1, 1]) (ms48.drop 2)) (bodyK Try.prog r48 Q)))))))))) (∃ q52 : AV, (shift v11 1 S fun v53 S => v53 = q52 ∧ S = S0) ∧ ∃ q54 : AV, (ld1 q52 S fun v55 S => v55 = q54 ∧ S = S0) ∧ ∃ q56 : AV, (ldN 8 y1 S fun v57 S => v57 = q56 ∧ S = S0) ∧ ∃ q58 : AV, (shift v11 0 S fun v59 S => v59 = q58 ∧ S = S0) ∧ ∃ q60 : AV, (ld1 q58 S fun v61 S => v61 = q60 ∧ S = S0) ∧ ∃ q62 : AV, (callF Try.prog 60 [q56, q60] S (fun _ _ => False) fun v63 S => v63 = q62 ∧ S = S0) ∧ ∃ q64 : AV, (bin .geq 0 q54 q62 S fun v65 S => v65 = q64 ∧ S = S0) ∧ ∃ q66 : AV, (q64 = q66 ∧ S = S0) ∧ onB q66 fun b67 => gd b67 (Q (.ret (.v (Go.Value.bool false))) S) (loopV lv48_1 (vc Try.prog (c48.at_ [1, 0, 1, 0, 0, 1, 0, 0, 1, 1, 0, 1, 0, 0]) (ms48.drop 2)) 85 (env48_1 y1 y3 v11 (.v (Go.Value.int Go.IntKind.i64 0))) S (blockK 2 (seqK (vc Try.prog (c48.at_ [1, 0, 1, 0, 0, 1, 0, 0, 1, 1, 1]) (ms48.drop 2)) (blockK 1 (seqK (vc Try.prog (c48.at_ [1, 0, 1, 0, 0, 1, 1]) (ms48.drop 2)) (thenK (fgK lv48_0 KE0) (blockK 0 (seqK (vc Try.prog (c48.at_ [1, 1]) (ms48.drop 2)) (bodyK Try.prog r48 Q)))))))))))) S) (Q (.ret (.v (Go.Value.bool true))) S)
theorem b48_0_eq : (fun (y1 y3 : AV) (S : Store) (KE0 : Nat → List AV → Store → Prop) (Q : AEnd → Store → Prop) => vc Try.prog (c48.at_ [1, 0, 1, 0, 0]) (ms48.drop 1) (mkE 85 lv48_0 (env48_0 y1 y3)) S (thenK (fgK lv48_0 KE0) (blockK 0 (seqK (vc Try.prog (c48.at_ [1, 1]) (ms48.drop 2)) (bodyK Try.prog r48 Q))))) = (fun (y1 y3 : AV) (S : Store) (KE0 : Nat → List AV → Store → Prop) (Q : AEnd → Store → Prop) => b48_0 y1 y3 S KE0 Q) := by kernel_rfl
theorem loop48_0 {y1 : AV} {y30 : AV} {S : Store} {Q : AEnd → Store → Prop} (I : AV → Store → Prop) (μ : AV → Store → Nat) (h0 : I y30 S)
    (hr : ∀ (y3 : AV) (S : Store), I y3 S → ∀ KE0 : Nat → List AV → Store → Prop, (∀ (y3' : AV) (S' : Store), I y3' S' → μ y3' S' < μ y3 S → KE0 85 (env48_0 y1 y3') S') → b48_0 y1 y3 S KE0 Q) :
    loopV lv48_0 (vc Try.prog (c48.at_ [1, 0, 1, 0, 0]) (ms48.drop 1)) 85 (env48_0 y1 y30) S (blockK 0 (seqK (vc Try.prog (c48.at_ [1, 1]) (ms48.drop 2)) (bodyK Try.prog r48 Q))) := by
  refine ⟨fun n e S => n = 85 ∧ ∃ y3 : AV, e = (env48_0 y1 y3) ∧ I y3 S, fun _ e S => μ (e.getD 1 .j) S, ?_, ?_⟩
  · exact ⟨_, _, Wk.refl _ _, rfl, _, rfl, h0⟩
  · rintro _ e S ⟨rfl, y3, rfl, hI⟩
    exact (congrFun (congrFun (congrFun (congrFun (congrFun b48_0_eq y1) y3) S) _) Q).mpr (hr y3 S hI _ (fun y3' S' hI' hm => ⟨_, _, Wk.refl _ _, ⟨rfl, _, rfl, hI'⟩, hm⟩))
theorem loopw48_0 {y1 y3 : AV} {S : Store} {Q : AEnd → Store → Prop} (I : AV → AV → Store → Prop) (μ : AV → AV → Store → Nat) (h0 : ∃ (y1' y3' : AV) (S' : Store), Wk S (env48_0 y1 y3) S' (env48_0 y1' y3') ∧ I y1' y3' S')
    (hr : ∀ (y1 y3 : AV) (S : Store), I y1 y3 S → ∀ KE0 : Nat → List AV → Store → Prop, (∀ (y1' y3' : AV) (S' : Store) (y1'' y3'' : AV) (S'' : Store), Wk S' (env48_0 y1' y3') S'' (env48_0 y1'' y3'') → I y1'' y3'' S'' → μ y1'' y3'' S'' < μ y1 y3 S → KE0 85 (env48_0 y1' y3') S') → b48_0 y1 y3 S KE0 Q) :
    loopV lv48_0 (vc Try.prog (c48.at_ [1, 0, 1, 0, 0]) (ms48.drop 1)) 85 (env48_0 y1 y3) S (blockK 0 (seqK (vc Try.prog (c48.at_ [1, 1]) (ms48.drop 2)) (bodyK Try.prog r48 Q))) := by
  obtain ⟨y1', y3', S0, hw0, h0⟩ := h0
  refine ⟨fun n e S => n = 85 ∧ ∃ y1 y3 : AV, e = (env48_0 y1 y3) ∧ I y1 y3 S, fun _ e S => μ (e.getD 0 .j) (e.getD 1 .j) S, ?_, ?_⟩
  · exact ⟨_, _, hw0, rfl, _, _, rfl, h0⟩
  · rintro _ e S ⟨rfl, y1, y3, rfl, hI⟩
    exact (congrFun (congrFun (congrFun (congrFun (congrFun b48_0_eq y1) y3) S) _) Q).mpr (hr y1 y3 S hI _ (fun y1' y3' S' y1'' y3'' S'' hw hI' hm => ⟨_, _, hw, ⟨rfl, _, _, rfl, hI'⟩, hm⟩))
-- loop 1: written: y5; read alone: y1 y3 y4
def b48_1 (y1 y3 y4 y5 : AV) (S : Store) (KE1 : Nat → List AV → Store → Prop) (KE0 : Nat → List AV → Store → Prop) (Q : AEnd → Store → Prop) : Prop :=
  bin .lss 0 y5 y3 S fun v68 S => onB v68 fun b69 => gd b69 ((fun S0 : Store => ∃ q70 : AV, (shift y1 7 S fun v71 S => v71 = q70 ∧ S = S0) ∧ ∃ q72 : AV, (ld1 q70 S fun v73 S => v73 = q72 ∧ S = S0) ∧ ∃ q74 : AV, (ixS 54 3 q72 y5 S fun v75 S => v75 = q74 ∧ S = S0) ∧ ∃ q76 : AV, (shift q74 2 S fun v77 S => v77 = q76 ∧ S = S0) ∧ ∃ q78 : AV, (ld1 q76 S fun v79 S => v79 = q78 ∧ S = S0) ∧ ∃ q80 : AV, (shift y4 2 S fun v81 S => v81 = q80 ∧ S = S0) ∧ ∃ q82 : AV, (ld1 q80 S fun v83 S => v83 = q82 ∧ S = S0) ∧ ∃ q84 : AV, (bin .eql 0 q78 q82 S fun v85 S => v85 = q84 ∧ S = S0) ∧ onB q84 fun b86 => gd b86 (Q (.ret (.v (Go.Value.bool false))) S) (bin .add 0 y5 (.v (Go.Value.int Go.IntKind.i64 1)) S fun v87 S => KE1 85 (env48_1 y1 y3 y4 v87) S)) S) (bin .gtr 0 y3 (.v (Go.Value.int Go.IntKind.i64 0)) S fun v88 S => onB v88 fun b89 => gd b89 ((fun S0 : Store => ∃ q90 : AV, (shift y1 7 S fun v91 S => v91 = q90 ∧ S = S0) ∧ ∃ q92 : AV, (ld1 q90 S fun v93 S => v93 = q92 ∧ S = S0) ∧ ∃ q94 : AV, (bin .sub 0 y3 (.v (Go.Value.int Go.IntKind.i64 1)) S fun v95 S => v95 = q94 ∧ S = S0) ∧ ∃ q96 : AV, (ixS 54 3 q92 q94 S fun v97 S => v97 = q96 ∧ S = S0) ∧ ∃ q98 : AV, (shift q96 0 S fun v99 S => v99 = q98 ∧ S = S0) ∧ ∃ q100 : AV, (ld1 q98 S fun v101 S => v101 = q100 ∧ S = S0) ∧ ∃ q102 : AV, (callF Try.prog 61 [q100] S (fun _ _ => False) fun v103 S => v103 = q102 ∧ S = S0) ∧ ∃ q104 : AV, (shift y4 0 S fun v105 S => v105 = q104 ∧ S = S0) ∧ ∃ q106 : AV, (ld1 q104 S fun v107 S => v107 = q106 ∧ S = S0) ∧ ∃ q108 : AV, (callF Try.prog 61 [q106] S (fun _ _ => False) fun v109 S => v109 = q108 ∧ S = S0) ∧ (fun S0 : Store => ∃ q110 : AV, (bin .gtr 0 q102 q108 S fun v111 S => v111 = q110 ∧ S = S0) ∧ onB q110 fun b112 => gd b112 (∃ q113 : AV, ((.v (Go.Value.bool true)) = q113 ∧ S = S0) ∧ onB q113 fun b114 => gd b114 (Q (.ret (.v (Go.Value.bool false))) S) (bin .add 0 y3 (.v (Go.Value.int Go.IntKind.i64 1)) S fun v115 S => KE0 85 (env48_0 y1 v115) S)) (∃ q116 : AV, (bin .eql 0 q102 q108 S fun v117 S => v117 = q116 ∧ S = S0) ∧ onB q116 fun b118 => gd b118 (∃ q119 : AV, (shift y1 7 S fun v120 S => v120 = q119 ∧ S = S0) ∧ ∃ q121 : AV, (ld1 q119 S fun v122 S => v122 = q121 ∧ S = S0) ∧ ∃ q123 : AV, (bin .sub 0 y3 (.v (Go.Value.int Go.IntKind.i64 1)) S fun v124 S => v124 = q123 ∧ S = S0) ∧ ∃ q125 : AV, (ixS 54 3 q121 q123 S fun v126 S => v126 = q125 ∧ S = S0) ∧ ∃ q127 : AV, (shift q125 1 S fun v128 S => v128 = q127 ∧ S = S0) ∧ ∃ q129 : AV, (ld1 q127 S fun v130 S => v130 = q129 ∧ S = S0) ∧ ∃ q131 : AV, (shift y4 1 S fun v132 S => v132 = q131 ∧ S = S0) ∧ ∃ q133 : AV, (ld1 q131 S fun v134 S => v134 = q133 ∧ S = S0) ∧ ∃ q135 : AV, (bin .geq 0 q129 q133 S fun v136 S => v136 = q135 ∧ S = S0) ∧ ∃ q137 : AV, (q135 = q137 ∧ S = S0) ∧ ∃ q138 : AV, (q137 = q138 ∧ S = S0) ∧ onB q138 fun b139 => gd b139 (Q (.ret (.v (Go.Value.bool false))) S) (bin .add 0 y3 (.v (Go.Value.int Go.IntKind.i64 1)) S fun v140 S => KE0 85 (env48_0 y1 v140) S)) (∃ q141 : AV, ((.v (Go.Value.bool false)) = q141 ∧ S = S0) ∧ ∃ q142 : AV, (q141 = q142 ∧ S = S0) ∧ onB q142 fun b143 => gd b143 (Q (.ret (.v (Go.Value.bool false))) S) (bin .add 0 y3 (.v (Go.Value.int Go.IntKind.i64 1)) S fun v144 S => KE0 85 (env48_0 y1 v144) S)))) S) S) (bin .add 0 y3 (.v (Go.Value.int Go.IntKind.i64 1)) S fun v145 S => KE0 85 (env48_0 y1 v145) S))
theorem b48_1_eq : (fun (y1 y3 y4 y5 : AV) (S : Store) (KE1 : Nat → List AV → Store → Prop) (KE0 : Nat → List AV → Store → Prop) (Q : AEnd → Store → Prop) => vc Try.prog (c48.at_ [1, 0, 1, 0, 0, 1, 0, 0, 1, 1, 0, 1, 0, 0]) (ms48.drop 2) (mkE 85 lv48_1 (env48_1 y1 y3 y4 y5)) S (thenK (fgK lv48_1 KE1) (blockK 2 (seqK (vc Try.prog (c48.at_ [1, 0, 1, 0, 0, 1, 0, 0, 1, 1, 1]) (ms48.drop 2)) (blockK 1 (seqK (vc Try.prog (c48.at_ [1, 0, 1, 0, 0, 1, 1]) (ms48.drop 2)) (thenK (fgK lv48_0 KE0) (blockK 0 (seqK (vc Try.prog (c48.at_ [1, 1]) (ms48.drop 2)) (bodyK Try.prog r48 Q)))))))))) = (fun (y1 y3 y4 y5 : AV) (S : Store) (KE1 : Nat → List AV → Store → Prop) (KE0 : Nat → List AV → Store → Prop) (Q : AEnd → Store → Prop) => b48_1 y1 y3 y4 y5 S KE1 KE0 Q) := by kernel_rfl
theorem loop48_1 {y1 y3 y4 : AV} {y50 : AV} {S : Store} {KE0 : Nat → List AV → Store → Prop} {Q : AEnd → Store → Prop} (I : AV → Store → Prop) (μ : AV → Store → Nat) (h0 : I y50 S)
    (hr : ∀ (y5 : AV) (S : Store), I y5 S → ∀ KE1 : Nat → List AV → Store → Prop, (∀ (y5' : AV) (S' : Store), I y5' S' → μ y5' S' < μ y5 S → KE1 85 (env48_1 y1 y3 y4 y5') S') → b48_1 y1 y3 y4 y5 S KE1 KE0 Q) :
    loopV lv48_1 (vc Try.prog (c48.at_ [1, 0, 1, 0, 0, 1, 0, 0, 1, 1, 0, 1, 0, 0]) (ms48.drop 2)) 85 (env48_1 y1 y3 y4 y50) S (blockK 2 (seqK (vc Try.prog (c48.at_ [1, 0, 1, 0, 0, 1, 0, 0, 1, 1, 1]) (ms48.drop 2)) (blockK 1 (seqK (vc Try.prog (c48.at_ [1, 0, 1, 0, 0, 1, 1]) (ms48.drop 2)) (thenK (fgK lv48_0 KE0) (blockK 0 (seqK (vc Try.prog (c48.at_ [1, 1]) (ms48.drop 2)) (bodyK Try.prog r48 Q)))))))) := by
  refine ⟨fun n e S => n = 85 ∧ ∃ y5 : AV, e = (env48_1 y1 y3 y4 y5) ∧ I y5 S, fun _ e S => μ (e.getD 3 .j) S, ?_, ?_⟩
  · exact ⟨_, _, Wk.refl _ _, rfl, _, rfl, h0⟩
  · rintro _ e S ⟨rfl, y5, rfl, hI⟩
    exact (congrFun (congrFun (congrFun (congrFun (congrFun (congrFun (congrFun (congrFun b48_1_eq y1) y3) y4) y5) S) _) KE0) Q).mpr (hr y5 S hI _ (fun y5' S' hI' hm => ⟨_, _, Wk.refl _ _, ⟨rfl, _, rfl, hI'⟩, hm⟩))
theorem loopw48_1 {y1 y3 y4 y5 : AV} {S : Store} {KE0 : Nat → List AV → Store → Prop} {Q : AEnd → Store → Prop} (I : AV → AV → AV → AV → Store → Prop) (μ : AV → AV → AV → AV → Store → Nat) (h0 : ∃ (y1' y3' y4' y5' : AV) (S' : Store), Wk S (env48_1 y1 y3 y4 y5) S' (env48_1 y1' y3' y4' y5') ∧ I y1' y3' y4' y5' S')
    (hr : ∀ (y1 y3 y4 y5 : AV) (S : Store), I y1 y3 y4 y5 S → ∀ KE1 : Nat → List AV → Store → Prop, (∀ (y1' y3' y4' y5' : AV) (S' : Store) (y1'' y3'' y4'' y5'' : AV) (S'' : Store), Wk S' (env48_1 y1' y3' y4' y5') S'' (env48_1 y1'' y3'' y4'' y5'') → I y1'' y3'' y4'' y5'' S'' → μ y1'' y3'' y4'' y5'' S'' < μ y1 y3 y4 y5 S → KE1 85 (env48_1 y1' y3' y4' y5') S') → b48_1 y1 y3 y4 y5 S KE1 KE0 Q) :
    loopV lv48_1 (vc Try.prog (c48.at_ [1, 0, 1, 0, 0, 1, 0, 0, 1, 1, 0, 1, 0, 0]) (ms48.drop 2)) 85 (env48_1 y1 y3 y4 y5) S (blockK 2 (seqK (vc Try.prog (c48.at_ [1, 0, 1, 0, 0, 1, 0, 0, 1, 1, 1]) (ms48.drop 2)) (blockK 1 (seqK (vc Try.prog (c48.at_ [1, 0, 1, 0, 0, 1, 1]) (ms48.drop 2)) (thenK (fgK lv48_0 KE0) (blockK 0 (seqK (vc Try.prog (c48.at_ [1, 1]) (ms48.drop 2)) (bodyK Try.prog r48 Q)))))))) := by
  obtain ⟨y1', y3', y4', y5', S0, hw0, h0⟩ := h0
  refine ⟨fun n e S => n = 85 ∧ ∃ y1 y3 y4 y5 : AV, e = (env48_1 y1 y3 y4 y5) ∧ I y1 y3 y4 y5 S, fun _ e S => μ (e.getD 0 .j) (e.getD 1 .j) (e.getD 2 .j) (e.getD 3 .j) S, ?_, ?_⟩
  · exact ⟨_, _, hw0, rfl, _, _, _, _, rfl, h0⟩
  · rintro _ e S ⟨rfl, y1, y3, y4, y5, rfl, hI⟩
    exact (congrFun (congrFun (congrFun (congrFun (congrFun (congrFun (congrFun (congrFun b48_1_eq y1) y3) y4) y5) S) _) KE0) Q).mpr (hr y1 y3 y4 y5 S hI _ (fun y1' y3' y4' y5' S' y1'' y3'' y4'' y5'' S'' hw hI' hm => ⟨_, _, hw, ⟨rfl, _, _, _, _, rfl, hI'⟩, hm⟩))
/-! ### 47 parterre/parterreref04.lits -/
noncomputable def c47 : Code := (Try.f47.body).getD .skip
noncomputable def r47 : List ResultVar := Try.f47.results.toList
def env47_0 (y1 y2 y5 : AV) : List AV := [y1, y2, y5]
def lv47_0 : List Nat := [1, 2, 5]
def ms47 : List (List Nat) := [lv47_0, []]
def m47 (x0 x1 : AV) (S : Store) (Q : AEnd → Store → Prop) : Prop :=
  boxN 49 2 x0 S fun v1 S => loopV lv47_0 (vc Try.prog (c47.at_ [1, 0, 1, 0, 0]) (ms47.drop 1)) 22 (env47_0 x1 v1 (.v (Go.Value.int Go.IntKind.i64 0))) S (blockK 0 (seqK (vc Try.prog (c47.at_ [1, 1]) (ms47.drop 1)) (bodyK Try.prog r47 Q)))
theorem m47_eq : (fun (x0 x1 : AV) (S : Store) (Q : AEnd → Store → Prop) => vc Try.prog c47 ms47 (ofArgs 22 [x0, x1]) S (bodyK Try.prog r47 Q)) = (fun (x0 x1 : AV) (S : Store) (Q : AEnd → Store → Prop) => m47 x0 x1 S Q) := by kernel_rfl
theorem calls47 {x0 x1 : AV} {S : Store} {Q : AEnd → Store → Prop} (h : m47 x0 x1 S Q) : ACalls Try.prog 47 [x0, x1] S Q :=
  calls_of_vc (fn := Try.f47) (c := c47) (n := 22) Try.func47 (by kernel_rfl) (by kernel_rfl) (by kernel_rfl) ms47 ((congrFun (congrFun (congrFun (congrFun m47_eq x0) x1) S) Q).mpr h)
-- loop 0: written: y5; read alone: y1 y2
def b47_0 (y1 y2 y5 : AV) (S : Store) (KE0 : Nat → List AV → Store → Prop) (Q : AEnd → Store → Prop) : Prop :=
  lenS y1 S fun v2 S => bin .lss 0 y5 v2 S fun v3 S => onB v3 fun b4 => gd b4 ((fun S0 : Store => ∃ q5 : AV, (ldN 2 y2 S fun v6 S => v6 = q5 ∧ S = S0) ∧ ∃ q7 : AV, (ixS 3 1 y1 y5 S fun v8 S => v8 = q7 ∧ S = S0) ∧ ∃ q9 : AV, (ld1 q7 S fun v10 S => v10 = q9 ∧ S = S0) ∧ ∃ q11 : AV, (callF Try.prog 46 [q5, q9] S (fun _ _ => False) fun v12 S => v12 = q11 ∧ S = S0) ∧ ∃ q13 : AV, (un .not q11 S fun v14 S => v14 = q13 ∧ S = S0) ∧ onB q13 fun b15 => gd b15 (Q (.ret (.v (Go.Value.bool false))) S) (bin .add 0 y5 (.v (Go.Value.int Go.IntKind.i64 1)) S fun v16 S => KE0 22 (env47_0 y1 y2 v16) S)) S) (lenS y1 S fun v17 S => bin .leq 0 v17 (.v (Go.Value.int Go.IntKind.i64 2000)) S fun v18 S => Q (.ret v18) S)
theorem b47_0_eq : (fun (y1 y2 y5 : AV) (S : Store) (KE0 : Nat → List AV → Store → Prop) (Q : AEnd → Store → Prop) => vc Try.prog (c47.at_ [1, 0, 1, 0, 0]) (ms47.drop 1) (mkE 22 lv47_0 (env47_0 y1 y2 y5)) S (thenK (fgK lv47_0 KE0) (blockK 0 (seqK (vc Try.prog (c47.at_ [1, 1]) (ms47.drop 1)) (bodyK Try.prog r47 Q))))) = (fun (y1 y2 y5 : AV) (S : Store) (KE0 : Nat → List AV → Store → Prop) (Q : AEnd → Store → Prop) => b47_0 y1 y2 y5 S KE0 Q) := by kernel_rfl
theorem loop47_0 {y1 y2 : AV} {y50 : AV} {S : Store} {Q : AEnd → Store → Prop} (I : AV → Store → Prop) (μ : AV → Store → Nat) (h0 : I y50 S)
    (hr : ∀ (y5 : AV) (S : Store), I y5 S → ∀ KE0 : Nat → List AV → Store → Prop, (∀ (y5' : AV) (S' : Store), I y5' S' → μ y5' S' < μ y5 S → KE0 22 (env47_0 y1 y2 y5') S') → b47_0 y1 y2 y5 S KE0 Q) :
    loopV lv47_0 (vc Try.prog (c47.at_ [1, 0, 1, 0, 0]) (ms47.drop 1)) 22 (env47_0 y1 y2 y50) S (blockK 0 (seqK (vc Try.prog (c47.at_ [1, 1]) (ms47.drop 1)) (bodyK Try.prog r47 Q))) := by
  refine ⟨fun n e S => n = 22 ∧ ∃ y5 : AV, e = (env47_0 y1 y2 y5) ∧ I y5 S, fun _ e S => μ (e.getD 2 .j) S, ?_, ?_⟩
  · exact ⟨_, _, Wk.refl _ _, rfl, _, rfl, h0⟩
  · rintro _ e S ⟨rfl, y5, rfl, hI⟩
    exact (congrFun (congrFun (congrFun (congrFun (congrFun (congrFun b47_0_eq y1) y2) y5) S) _) Q).mpr (hr y5 S hI _ (fun y5' S' hI' hm => ⟨_, _, Wk.refl _ _, ⟨rfl, _, rfl, hI'⟩, hm⟩))
theorem loopw47_0 {y1 y2 y5 : AV} {S : Store} {Q : AEnd → Store → Prop} (I : AV → AV → AV → Store → Prop) (μ : AV → AV → AV → Store → Nat) (h0 : ∃ (y1' y2' y5' : AV) (S' : Store), Wk S (env47_0 y1 y2 y5) S' (env47_0 y1' y2' y5') ∧ I y1' y2' y5' S')
    (hr : ∀ (y1 y2 y5 : AV) (S : Store), I y1 y2 y5 S → ∀ KE0 : Nat → List AV → Store → Prop, (∀ (y1' y2' y5' : AV) (S' : Store) (y1'' y2'' y5'' : AV) (S'' : Store), Wk S' (env47_0 y1' y2' y5') S'' (env47_0 y1'' y2'' y5'') → I y1'' y2'' y5'' S'' → μ y1'' y2'' y5'' S'' < μ y1 y2 y5 S → KE0 22 (env47_0 y1' y2' y5') S') → b47_0 y1 y2 y5 S KE0 Q) :
    loopV lv47_0 (vc Try.prog (c47.at_ [1, 0, 1, 0, 0]) (ms47.drop 1)) 22 (env47_0 y1 y2 y5) S (blockK 0 (seqK (vc Try.prog (c47.at_ [1, 1]) (ms47.drop 1)) (bodyK Try.prog r47 Q))) := by
  obtain ⟨y1', y2', y5', S0, hw0, h0⟩ := h0
  refine ⟨fun n e S => n = 22 ∧ ∃ y1 y2 y5 : AV, e = (env47_0 y1 y2 y5) ∧ I y1 y2 y5 S, fun _ e S => μ (e.getD 0 .j) (e.getD 1 .j) (e.getD 2 .j) S, ?_, ?_⟩
  · exact ⟨_, _, hw0, rfl, _, _, _, rfl, h0⟩
  · rintro _ e S ⟨rfl, y1, y2, y5, rfl, hI⟩
    exact (congrFun (congrFun (congrFun (congrFun (congrFun (congrFun b47_0_eq y1) y2) y5) S) _) Q).mpr (hr y1 y2 y5 S hI _ (fun y1' y2' y5' S' y1'' y2'' y5'' S'' hw hI' hm => ⟨_, _, hw, ⟨rfl, _, _, _, rfl, hI'⟩, hm⟩))
end Go.Proofs.Ytolgpokppnajdaa.G
set_option linter.unusedVariables false
set_option maxRecDepth 100000
namespace Go.Proofs.Ytolgpokppnajdaa.G
open Go Go.Ab
/-! ### 41 parterre/circuit.names -/
noncomputable def c41 : Code := (Try.f41.body).getD .skip
noncomputable def r41 : List ResultVar := Try.f41.results.toList
def env41_0 (y1 y3 y4 y12 y13 y14 : AV) : List AV := [y1, y3, y4, y12, y13, y14]
def lv41_0 : List Nat := [1, 3, 4, 12, 13, 14]
def ms41 : List (List Nat) := [lv41_0, []]
def m41 (x0 : AV) (S : Store) (Q : AEnd → Store → Prop) : Prop :=
  boxN 27 8 x0 S fun v1 S => ldN 8 v1 S fun v2 S => callF Try.prog 34 [v2] S Q fun v3 S => mkM .s S fun v4 S => shift v1 7 S fun v5 S => ld1 v5 S fun v6 S => lenS v6 S fun v7 S => loopV lv41_0 (vc Try.prog (c41.at_ [1, 1, 1, 0, 1, 0, 0]) (ms41.drop 1)) 78 (env41_0 v1 v3 v4 v6 v7 (.v (Go.Value.int Go.IntKind.i64 0))) S (blockK 0 (seqK (vc Try.prog (c41.at_ [1, 1, 1, 1]) (ms41.drop 1)) (bodyK Try.prog r41 Q)))
theorem m41_eq : (fun (x0 : AV) (S : Store) (Q : AEnd → Store → Prop) => vc Try.prog c41 ms41 (ofArgs 78 [x0]) S (bodyK Try.prog r41 Q)) = (fun (x0 : AV) (S : Store) (Q : AEnd → Store → Prop) => m41 x0 S Q) := by kernel_rfl
theorem calls41 {x0 : AV} {S : Store} {Q : AEnd → Store → Prop} (h : m41 x0 S Q) : ACalls Try.prog 41 [x0] S Q :=
  calls_of_vc (fn := Try.f41) (c := c41) (n := 78) Try.func41 (by kernel_rfl) (by kernel_rfl) (by kernel_rfl) ms41 ((congrFun (congrFun (congrFun m41_eq x0) S) Q).mpr h)
-- loop 0: written: y14; read alone: y1 y3 y4 y12 y13
def b41_0 (y1 y3 y4 y12 y13 y14 : AV) (S : Store) (KE0 : Nat → List AV → Store → Prop) (Q : AEnd → Store → Prop) : Prop :=
  bin .lss 0 y14 y13 S fun v8 S => onB v8 fun b9 => gd b9 (ixS 54 3 y12 y14 S fun v10 S => ldN 3 v10 S fun v11 S => boxN 54 3 (.a [(.v (.int .u8 0)), (.v (.int .i64 0)), (.v (.string ByteArray.empty))]) S fun v12 S => stN 3 v12 v11 S fun v13 S => shift v12 2 S fun v14 S => ld1 v14 S fun v15 S => callF Try.prog 55 [v15] S Q fun v16 S => un .not v16 S fun v17 S => onB v17 fun b18 => gd b18 (Q (.ret (.v (Go.Value.bool false))) S) (shift v12 0 S fun v19 S => ld1 v19 S fun v20 S => callF Try.prog 56 [v20] S Q fun v21 S => bin .lss 0 v21 (.v (Go.Value.int Go.IntKind.i64 0)) S fun v22 S => onB v22 fun b23 => gd b23 (Q (.ret (.v (Go.Value.bool false))) S) (shift v12 1 S fun v24 S => ld1 v24 S fun v25 S => bin .lss 0 v25 (.v (Go.Value.int Go.IntKind.i64 0)) S fun v26 S => onB v26 fun b27 => gd b27 (Q (.ret (.v (Go.Value.bool false))) S) (shift v12 1 S fun v28 S => ld1 v28 S fun v29 S => shift v12 0 S fun v30 S => ld1 v30 S fun v31 S => convI .i32 v31 S fun v32 S => lkM (.i .i32) (.v (.int .i64 0)) false y3 v32 S fun v33 S => bin .geq 0 v29 v33 S fun v34 S => onB v34 fun b35 => gd b35 (Q (.ret (.v (Go.Value.bool false))) S) (shift v12 2 S fun v36 S => ld1 v36 S fun v37 S => bld [] [] [] S fun v38 S => updM .s y4 v37 v38 S fun v39 S => bin .eql 0 y14 (.v (Go.Value.int Go.IntKind.i64 0)) S fun v40 S => onB v40 fun b41 => gd b41 (bin .add 0 y14 (.v (Go.Value.int Go.IntKind.i64 1)) S fun v42 S => KE0 78 (env41_0 y1 y3 y4 y12 y13 v42) S) (shift y1 7 S fun v43 S => ld1 v43 S fun v44 S => bin .sub 0 y14 (.v (Go.Value.int Go.IntKind.i64 1)) S fun v45 S => ixS 54 3 v44 v45 S fun v46 S => ldN 3 v46 S fun v47 S => boxN 54 3 (.a [(.v (.int .u8 0)), (.v (.int .i64 0)), (.v (.string ByteArray.empty))]) S fun v48 S => stN 3 v48 v47 S fun v49 S => (fun S0 : Store => ∃ q50 : AV, (shift v48 0 S fun v51 S => v51 = q50 ∧ S = S0) ∧ ∃ q52 : AV, (ld1 q50 S fun v53 S => v53 = q52 ∧ S = S0) ∧ ∃ q54 : AV, (callF Try.prog 56 [q52] S (fun _ _ => False) fun v55 S => v55 = q54 ∧ S = S0) ∧ ∃ q56 : AV, (shift v12 0 S fun v57 S => v57 = q56 ∧ S = S0) ∧ ∃ q58 : AV, (ld1 q56 S fun v59 S => v59 = q58 ∧ S = S0) ∧ ∃ q60 : AV, (callF Try.prog 56 [q58] S (fun _ _ => False) fun v61 S => v61 = q60 ∧ S = S0) ∧ ∃ q62 : AV, (callF Try.prog 58 [q54, q60] S (fun _ _ => False) fun v63 S => v63 = q62 ∧ S = S0) ∧ ∃ q64 : AV, (shift v48 1 S fun v65 S => v65 = q64 ∧ S = S0) ∧ ∃ q66 : AV, (ld1 q64 S fun v67 S => v67 = q66 ∧ S = S0) ∧ ∃ q68 : AV, (shift v12 1 S fun v69 S => v69 = q68 ∧ S = S0) ∧ ∃ q70 : AV, (ld1 q68 S fun v71 S => v71 = q70 ∧ S = S0) ∧ ∃ q72 : AV, (callF Try.prog 58 [q66, q70] S (fun _ _ => False) fun v73 S => v73 = q72 ∧ S = S0) ∧ ∃ q74 : AV, (bslN 3 1 2 [(.v (.int .i64 0))] [(0, q62), (1, q72)] S fun v75 S => v75 = q74 ∧ S = S0) ∧ ∃ q76 : AV, (callF Try.prog 57 [q74] S (fun _ _ => False) fun v77 S => v77 = q76 ∧ S = S0) ∧ ∃ q78 : AV, (bin .geq 0 q76 (.v (Go.Value.int Go.IntKind.i64 0)) S fun v79 S => v79 = q78 ∧ S = S0) ∧ onB q78 fun b80 => gd b80 (Q (.ret (.v (Go.Value.bool false))) S) (bin .add 0 y14 (.v (Go.Value.int Go.IntKind.i64 1)) S fun v81 S => KE0 78 (env41_0 y1 y3 y4 y12 y13 v81) S)) S)))))) (lenM y4 S fun v82 S => shift y1 7 S fun v83 S => ld1 v83 S fun v84 S => lenS v84 S fun v85 S => bin .eql 0 v82 v85 S fun v86 S => Q (.ret v86) S)
theorem b41_0_eq : (fun (y1 y3 y4 y12 y13 y14 : AV) (S : Store) (KE0 : Nat → List AV → Store → Prop) (Q : AEnd → Store → Prop) => vc Try.prog (c41.at_ [1, 1, 1, 0, 1, 0, 0]) (ms41.drop 1) (mkE 78 lv41_0 (env41_0 y1 y3 y4 y12 y13 y14)) S (thenK (fgK lv41_0 KE0) (blockK 0 (seqK (vc Try.prog (c41.at_ [1, 1, 1, 1]) (ms41.drop 1)) (bodyK Try.prog r41 Q))))) = (fun (y1 y3 y4 y12 y13 y14 : AV) (S : Store) (KE0 : Nat → List AV → Store → Prop) (Q : AEnd → Store → Prop) => b41_0 y1 y3 y4 y12 y13 y14 S KE0 Q) := by kernel_rfl
theorem loop41_0 {y1 y3 y4 y12 y13 : AV} {y140 : AV} {S : Store} {Q : AEnd → Store → Prop} (I : AV → Store → Prop) (μ : AV → Store → Nat) (h0 : I y140 S)
    (hr : ∀ (y14 : AV) (S : Store), I y14 S → ∀ KE0 : Nat → List AV → Store → Prop, (∀ (y14' : AV) (S' : Store), I y14' S' → μ y14' S' < μ y14 S → KE0 78 (env41_0 y1 y3 y4 y12 y13 y14') S') → b41_0 y1 y3 y4 y12 y13 y14 S KE0 Q) :
    loopV lv41_0 (vc Try.prog (c41.at_ [1, 1, 1, 0, 1, 0, 0]) (ms41.drop 1)) 78 (env41_0 y1 y3 y4 y12 y13 y140) S (blockK 0 (seqK (vc Try.prog (c41.at_ [1, 1, 1, 1]) (ms41.drop 1)) (bodyK Try.prog r41 Q))) := by
  refine ⟨fun n e S => n = 78 ∧ ∃ y14 : AV, e = (env41_0 y1 y3 y4 y12 y13 y14) ∧ I y14 S, fun _ e S => μ (e.getD 5 .j) S, ?_, ?_⟩
  · exact ⟨_, _, Wk.refl _ _, rfl, _, rfl, h0⟩
  · rintro _ e S ⟨rfl, y14, rfl, hI⟩
    exact (congrFun (congrFun (congrFun (congrFun (congrFun (congrFun (congrFun (congrFun (congrFun b41_0_eq y1) y3) y4) y12) y13) y14) S) _) Q).mpr (hr y14 S hI _ (fun y14' S' hI' hm => ⟨_, _, Wk.refl _ _, ⟨rfl, _, rfl, hI'⟩, hm⟩))
theorem loopw41_0 {y1 y3 y4 y12 y13 y14 : AV} {S : Store} {Q : AEnd → Store → Prop} (I : AV → AV → AV → AV → AV → AV → Store → Prop) (μ : AV → AV → AV → AV → AV → AV → Store → Nat) (h0 : ∃ (y1' y3' y4' y12' y13' y14' : AV) (S' : Store), Wk S (env41_0 y1 y3 y4 y12 y13 y14) S' (env41_0 y1' y3' y4' y12' y13' y14') ∧ I y1' y3' y4' y12' y13' y14' S')
    (hr : ∀ (y1 y3 y4 y12 y13 y14 : AV) (S : Store), I y1 y3 y4 y12 y13 y14 S → ∀ KE0 : Nat → List AV → Store → Prop, (∀ (y1' y3' y4' y12' y13' y14' : AV) (S' : Store) (y1'' y3'' y4'' y12'' y13'' y14'' : AV) (S'' : Store), Wk S' (env41_0 y1' y3' y4' y12' y13' y14') S'' (env41_0 y1'' y3'' y4'' y12'' y13'' y14'') → I y1'' y3'' y4'' y12'' y13'' y14'' S'' → μ y1'' y3'' y4'' y12'' y13'' y14'' S'' < μ y1 y3 y4 y12 y13 y14 S → KE0 78 (env41_0 y1' y3' y4' y12' y13' y14') S') → b41_0 y1 y3 y4 y12 y13 y14 S KE0 Q) :
    loopV lv41_0 (vc Try.prog (c41.at_ [1, 1, 1, 0, 1, 0, 0]) (ms41.drop 1)) 78 (env41_0 y1 y3 y4 y12 y13 y14) S (blockK 0 (seqK (vc Try.prog (c41.at_ [1, 1, 1, 1]) (ms41.drop 1)) (bodyK Try.prog r41 Q))) := by
  obtain ⟨y1', y3', y4', y12', y13', y14', S0, hw0, h0⟩ := h0
  refine ⟨fun n e S => n = 78 ∧ ∃ y1 y3 y4 y12 y13 y14 : AV, e = (env41_0 y1 y3 y4 y12 y13 y14) ∧ I y1 y3 y4 y12 y13 y14 S, fun _ e S => μ (e.getD 0 .j) (e.getD 1 .j) (e.getD 2 .j) (e.getD 3 .j) (e.getD 4 .j) (e.getD 5 .j) S, ?_, ?_⟩
  · exact ⟨_, _, hw0, rfl, _, _, _, _, _, _, rfl, h0⟩
  · rintro _ e S ⟨rfl, y1, y3, y4, y12, y13, y14, rfl, hI⟩
    exact (congrFun (congrFun (congrFun (congrFun (congrFun (congrFun (congrFun (congrFun (congrFun b41_0_eq y1) y3) y4) y12) y13) y14) S) _) Q).mpr (hr y1 y3 y4 y12 y13 y14 S hI _ (fun y1' y3' y4' y12' y13' y14' S' y1'' y3'' y4'' y12'' y13'' y14'' S'' hw hI' hm => ⟨_, _, hw, ⟨rfl, _, _, _, _, _, _, rfl, hI'⟩, hm⟩))
end Go.Proofs.Ytolgpokppnajdaa.G
set_option linter.unusedVariables false
set_option maxRecDepth 100000
namespace Go.Proofs.Ytolgpokppnajdaa.G
open Go Go.Ab
/-! ### 66 cmp.isNaN[int] -/
noncomputable def c66 : Code := (Try.f66.body).getD .skip
noncomputable def r66 : List ResultVar := Try.f66.results.toList
def ms66 : List (List Nat) := [[]]
def m66 (x0 : AV) (S : Store) (Q : AEnd → Store → Prop) : Prop :=
  bin .neq 0 x0 x0 S fun v1 S => Q (.ret v1) S
theorem m66_eq : (fun (x0 : AV) (S : Store) (Q : AEnd → Store → Prop) => vc Try.prog c66 ms66 (ofArgs 6 [x0]) S (bodyK Try.prog r66 Q)) = (fun (x0 : AV) (S : Store) (Q : AEnd → Store → Prop) => m66 x0 S Q) := by kernel_rfl
theorem calls66 {x0 : AV} {S : Store} {Q : AEnd → Store → Prop} (h : m66 x0 S Q) : ACalls Try.prog 66 [x0] S Q :=
  calls_of_vc (fn := Try.f66) (c := c66) (n := 6) Try.func66 (by kernel_rfl) (by kernel_rfl) (by kernel_rfl) ms66 ((congrFun (congrFun (congrFun m66_eq x0) S) Q).mpr h)
/-! ### 58 cmp.Compare[int] -/
noncomputable def c58 : Code := (Try.f58.body).getD .skip
noncomputable def r58 : List ResultVar := Try.f58.results.toList
def ms58 : List (List Nat) := [[]]
def m58 (x0 x1 : AV) (S : Store) (Q : AEnd → Store → Prop) : Prop :=
  callF Try.prog 66 [x0] S Q fun v1 S => callF Try.prog 66 [x1] S Q fun v2 S => onB v1 fun b3 => gd b3 (onB v2 fun b4 => gd b4 (Q (.ret (.v (Go.Value.int Go.IntKind.i64 0))) S) (Q (.ret (.v (Go.Value.int Go.IntKind.i64 (-1)))) S)) (onB v2 fun b5 => gd b5 (Q (.ret (.v (Go.Value.int Go.IntKind.i64 1))) S) (bin .lss 0 x0 x1 S fun v6 S => onB v6 fun b7 => gd b7 (Q (.ret (.v (Go.Value.int Go.IntKind.i64 (-1)))) S) (bin .gtr 0 x0 x1 S fun v8 S => onB v8 fun b9 => gd b9 (Q (.ret (.v (Go.Value.int Go.IntKind.i64 1))) S) (Q (.ret (.v (Go.Value.int Go.IntKind.i64 0))) S))))
theorem m58_eq : (fun (x0 x1 : AV) (S : Store) (Q : AEnd → Store → Prop) => vc Try.prog c58 ms58 (ofArgs 20 [x0, x1]) S (bodyK Try.prog r58 Q)) = (fun (x0 x1 : AV) (S : Store) (Q : AEnd → Store → Prop) => m58 x0 x1 S Q) := by kernel_rfl
theorem calls58 {x0 x1 : AV} {S : Store} {Q : AEnd → Store → Prop} (h : m58 x0 x1 S Q) : ACalls Try.prog 58 [x0, x1] S Q :=
  calls_of_vc (fn := Try.f58) (c := c58) (n := 20) Try.func58 (by kernel_rfl) (by kernel_rfl) (by kernel_rfl) ms58 ((congrFun (congrFun (congrFun (congrFun m58_eq x0) x1) S) Q).mpr h)
/-! ### 57 cmp.Or[int] -/
noncomputable def c57 : Code := (Try.f57.body).getD .skip
noncomputable def r57 : List ResultVar := Try.f57.results.toList
def env57_0 (y3 y6 y7 y8 : AV) : List AV := [y3, y6, y7, y8]
def lv57_0 : List Nat := [3, 6, 7, 8]
def ms57 : List (List Nat) := [lv57_0, []]
def m57 (x0 : AV) (S : Store) (Q : AEnd → Store → Prop) : Prop :=
  lenS x0 S fun v1 S => loopV lv57_0 (vc Try.prog (c57.at_ [1, 1, 0, 1, 0, 0]) (ms57.drop 1)) 18 (env57_0 (.v (Go.Value.int Go.IntKind.i64 0)) x0 v1 (.v (Go.Value.int Go.IntKind.i64 0))) S (blockK 0 (seqK (vc Try.prog (c57.at_ [1, 1, 1]) (ms57.drop 1)) (bodyK Try.prog r57 Q)))
theorem m57_eq : (fun (x0 : AV) (S : Store) (Q : AEnd → Store → Prop) => vc Try.prog c57 ms57 (ofArgs 18 [x0]) S (bodyK Try.prog r57 Q)) = (fun (x0 : AV) (S : Store) (Q : AEnd → Store → Prop) => m57 x0 S Q) := by kernel_rfl
theorem calls57 {x0 : AV} {S : Store} {Q : AEnd → Store → Prop} (h : m57 x0 S Q) : ACalls Try.prog 57 [x0] S Q :=
  calls_of_vc (fn := Try.f57) (c := c57) (n := 18) Try.func57 (by kernel_rfl) (by kernel_rfl) (by kernel_rfl) ms57 ((congrFun (congrFun (congrFun m57_eq x0) S) Q).mpr h)
-- loop 0: written: y8; read alone: y3 y6 y7
def b57_0 (y3 y6 y7 y8 : AV) (S : Store) (KE0 : Nat → List AV → Store → Prop) (Q : AEnd → Store → Prop) : Prop :=
  bin .lss 0 y8 y7 S fun v2 S => onB v2 fun b3 => gd b3 (ixS 3 1 y6 y8 S fun v4 S => ld1 v4 S fun v5 S => bin .neq 0 v5 y3 S fun v6 S => onB v6 fun b7 => gd b7 (Q (.ret v5) S) (bin .add 0 y8 (.v (Go.Value.int Go.IntKind.i64 1)) S fun v8 S => KE0 18 (env57_0 y3 y6 y7 v8) S)) (Q (.ret y3) S)
theorem b57_0_eq : (fun (y3 y6 y7 y8 : AV) (S : Store) (KE0 : Nat → List AV → Store → Prop) (Q : AEnd → Store → Prop) => vc Try.prog (c57.at_ [1, 1, 0, 1, 0, 0]) (ms57.drop 1) (mkE 18 lv57_0 (env57_0 y3 y6 y7 y8)) S (thenK (fgK lv57_0 KE0) (blockK 0 (seqK (vc Try.prog (c57.at_ [1, 1, 1]) (ms57.drop 1)) (bodyK Try.prog r57 Q))))) = (fun (y3 y6 y7 y8 : AV) (S : Store) (KE0 : Nat → List AV → Store → Prop) (Q : AEnd → Store → Prop) => b57_0 y3 y6 y7 y8 S KE0 Q) := by kernel_rfl
theorem loop57_0 {y3 y6 y7 : AV} {y80 : AV} {S : Store} {Q : AEnd → Store → Prop} (I : AV → Store → Prop) (μ : AV → Store → Nat) (h0 : I y80 S)
    (hr : ∀ (y8 : AV) (S : Store), I y8 S → ∀ KE0 : Nat → List AV → Store → Prop, (∀ (y8' : AV) (S' : Store), I y8' S' → μ y8' S' < μ y8 S → KE0 18 (env57_0 y3 y6 y7 y8') S') → b57_0 y3 y6 y7 y8 S KE0 Q) :
    loopV lv57_0 (vc Try.prog (c57.at_ [1, 1, 0, 1, 0, 0]) (ms57.drop 1)) 18 (env57_0 y3 y6 y7 y80) S (blockK 0 (seqK (vc Try.prog (c57.at_ [1, 1, 1]) (ms57.drop 1)) (bodyK Try.prog r57 Q))) := by
  refine ⟨fun n e S => n = 18 ∧ ∃ y8 : AV, e = (env57_0 y3 y6 y7 y8) ∧ I y8 S, fun _ e S => μ (e.getD 3 .j) S, ?_, ?_⟩
  · exact ⟨_, _, Wk.refl _ _, rfl, _, rfl, h0⟩
  · rintro _ e S ⟨rfl, y8, rfl, hI⟩
    exact (congrFun (congrFun (congrFun (congrFun (congrFun (congrFun (congrFun b57_0_eq y3) y6) y7) y8) S) _) Q).mpr (hr y8 S hI _ (fun y8' S' hI' hm => ⟨_, _, Wk.refl _ _, ⟨rfl, _, rfl, hI'⟩, hm⟩))
theorem loopw57_0 {y3 y6 y7 y8 : AV} {S : Store} {Q : AEnd → Store → Prop} (I : AV → AV → AV → AV → Store → Prop) (μ : AV → AV → AV → AV → Store → Nat) (h0 : ∃ (y3' y6' y7' y8' : AV) (S' : Store), Wk S (env57_0 y3 y6 y7 y8) S' (env57_0 y3' y6' y7' y8') ∧ I y3' y6' y7' y8' S')
    (hr : ∀ (y3 y6 y7 y8 : AV) (S : Store), I y3 y6 y7 y8 S → ∀ KE0 : Nat → List AV → Store → Prop, (∀ (y3' y6' y7' y8' : AV) (S' : Store) (y3'' y6'' y7'' y8'' : AV) (S'' : Store), Wk S' (env57_0 y3' y6' y7' y8') S'' (env57_0 y3'' y6'' y7'' y8'') → I y3'' y6'' y7'' y8'' S'' → μ y3'' y6'' y7'' y8'' S'' < μ y3 y6 y7 y8 S → KE0 18 (env57_0 y3' y6' y7' y8') S') → b57_0 y3 y6 y7 y8 S KE0 Q) :
    loopV lv57_0 (vc Try.prog (c57.at_ [1, 1, 0, 1, 0, 0]) (ms57.drop 1)) 18 (env57_0 y3 y6 y7 y8) S (blockK 0 (seqK (vc Try.prog (c57.at_ [1, 1, 1]) (ms57.drop 1)) (bodyK Try.prog r57 Q))) := by
  obtain ⟨y3', y6', y7', y8', S0, hw0, h0⟩ := h0
  refine ⟨fun n e S => n = 18 ∧ ∃ y3 y6 y7 y8 : AV, e = (env57_0 y3 y6 y7 y8) ∧ I y3 y6 y7 y8 S, fun _ e S => μ (e.getD 0 .j) (e.getD 1 .j) (e.getD 2 .j) (e.getD 3 .j) S, ?_, ?_⟩
  · exact ⟨_, _, hw0, rfl, _, _, _, _, rfl, h0⟩
  · rintro _ e S ⟨rfl, y3, y6, y7, y8, rfl, hI⟩
    exact (congrFun (congrFun (congrFun (congrFun (congrFun (congrFun (congrFun b57_0_eq y3) y6) y7) y8) S) _) Q).mpr (hr y3 y6 y7 y8 S hI _ (fun y3' y6' y7' y8' S' y3'' y6'' y7'' y8'' S'' hw hI' hm => ⟨_, _, hw, ⟨rfl, _, _, _, _, rfl, hI'⟩, hm⟩))
/-! ### 18 parterre/circuit.Of -/
noncomputable def c18 : Code := (Try.f18.body).getD .skip
noncomputable def r18 : List ResultVar := Try.f18.results.toList
def ms18 : List (List Nat) := [[]]
def m18 (x0 : AV) (S : Store) (Q : AEnd → Store → Prop) : Prop :=
  boxN 27 8 x0 S fun v1 S => boxN 49 2 (.a [(.v (.int .i64 0)), .nl]) S fun v2 S => shift v1 0 S fun v3 S => ld1 v3 S fun v4 S => shift v1 1 S fun v5 S => ld1 v5 S fun v6 S => lenS v6 S fun v7 S => bin .add 0 v4 v7 S fun v8 S => shift v1 2 S fun v9 S => ld1 v9 S fun v10 S => bld [(0, 1), (1, 1)] [(.v (.int .i64 0)), .nl] [(0, v8), (1, v10)] S fun v11 S => stN 2 v2 v11 S fun v12 S => ldN 2 v2 S fun v13 _ => Q (.ret v13) S
theorem m18_eq : (fun (x0 : AV) (S : Store) (Q : AEnd → Store → Prop) => vc Try.prog c18 ms18 (ofArgs 12 [x0]) S (bodyK Try.prog r18 Q)) = (fun (x0 : AV) (S : Store) (Q : AEnd → Store → Prop) => m18 x0 S Q) := by kernel_rfl
theorem calls18 {x0 : AV} {S : Store} {Q : AEnd → Store → Prop} (h : m18 x0 S Q) : ACalls Try.prog 18 [x0] S Q :=
  calls_of_vc (fn := Try.f18) (c := c18) (n := 12) Try.func18 (by kernel_rfl) (by kernel_rfl) (by kernel_rfl) ms18 ((congrFun (congrFun (congrFun m18_eq x0) S) Q).mpr h)
/-! ### 28 parterre/parterreref04.Of -/
noncomputable def c28 : Code := (Try.f28.body).getD .skip
noncomputable def r28 : List ResultVar := Try.f28.results.toList
def ms28 : List (List Nat) := [[]]
def m28 (x0 : AV) (S : Store) (Q : AEnd → Store → Prop) : Prop :=
  boxN 27 8 x0 S fun v1 S => boxN 49 2 (.a [(.v (.int .i64 0)), .nl]) S fun v2 S => shift v1 0 S fun v3 S => ld1 v3 S fun v4 S => shift v1 1 S fun v5 S => ld1 v5 S fun v6 S => lenS v6 S fun v7 S => bin .add 0 v4 v7 S fun v8 S => shift v1 2 S fun v9 S => ld1 v9 S fun v10 S => bld [(0, 1), (1, 1)] [(.v (.int .i64 0)), .nl] [(0, v8), (1, v10)] S fun v11 S => stN 2 v2 v11 S fun v12 S => ldN 2 v2 S fun v13 _ => Q (.ret v13) S
theorem m28_eq : (fun (x0 : AV) (S : Store) (Q : AEnd → Store → Prop) => vc Try.prog c28 ms28 (ofArgs 12 [x0]) S (bodyK Try.prog r28 Q)) = (fun (x0 : AV) (S : Store) (Q : AEnd → Store → Prop) => m28 x0 S Q) := by kernel_rfl
theorem calls28 {x0 : AV} {S : Store} {Q : AEnd → Store → Prop} (h : m28 x0 S Q) : ACalls Try.prog 28 [x0] S Q :=
  calls_of_vc (fn := Try.f28) (c := c28) (n := 12) Try.func28 (by kernel_rfl) (by kernel_rfl) (by kernel_rfl) ms28 ((congrFun (congrFun (congrFun m28_eq x0) S) Q).mpr h)
/-! ### 34 parterre/circuit.many -/
noncomputable def c34 : Code := (Try.f34.body).getD .skip
noncomputable def r34 : List ResultVar := Try.f34.results.toList
def ms34 : List (List Nat) := [[]]
def m34 (x0 : AV) (S : Store) (Q : AEnd → Store → Prop) : Prop :=
  boxN 27 8 x0 S fun v1 S => mkM (.i .i32) S fun v2 S => shift v1 0 S fun v3 S => ld1 v3 S fun v4 S => updM (.i .i32) v2 (.v (Go.Value.int Go.IntKind.i32 105)) v4 S fun v5 S => shift v1 1 S fun v6 S => ld1 v6 S fun v7 S => lenS v7 S fun v8 S => updM (.i .i32) v2 (.v (Go.Value.int Go.IntKind.i32 108)) v8 S fun v9 S => shift v1 3 S fun v10 S => ld1 v10 S fun v11 S => lenS v11 S fun v12 S => updM (.i .i32) v2 (.v (Go.Value.int Go.IntKind.i32 111)) v12 S fun v13 S => shift v1 4 S fun v14 S => ld1 v14 S fun v15 S => lenS v15 S fun v16 S => updM (.i .i32) v2 (.v (Go.Value.int Go.IntKind.i32 98)) v16 S fun v17 S => shift v1 5 S fun v18 S => ld1 v18 S fun v19 S => lenS v19 S fun v20 S => updM (.i .i32) v2 (.v (Go.Value.int Go.IntKind.i32 99)) v20 S fun v21 S => shift v1 6 S fun v22 S => ld1 v22 S fun v23 S => lenS v23 S fun v24 S => updM (.i .i32) v2 (.v (Go.Value.int Go.IntKind.i32 102)) v24 S fun v25 S => Q (.ret v2) S
theorem m34_eq : (fun (x0 : AV) (S : Store) (Q : AEnd → Store → Prop) => vc Try.prog c34 ms34 (ofArgs 22 [x0]) S (bodyK Try.prog r34 Q)) = (fun (x0 : AV) (S : Store) (Q : AEnd → Store → Prop) => m34 x0 S Q) := by kernel_rfl
theorem calls34 {x0 : AV} {S : Store} {Q : AEnd → Store → Prop} (h : m34 x0 S Q) : ACalls Try.prog 34 [x0] S Q :=
  calls_of_vc (fn := Try.f34) (c := c34) (n := 22) Try.func34 (by kernel_rfl) (by kernel_rfl) (by kernel_rfl) ms34 ((congrFun (congrFun (congrFun m34_eq x0) S) Q).mpr h)
/-! ### 60 parterre/parterreref04.many -/
noncomputable def c60 : Code := (Try.f60.body).getD .skip
noncomputable def r60 : List ResultVar := Try.f60.results.toList
def ms60 : List (List Nat) := [[]]
def m60 (x0 x1 : AV) (S : Store) (Q : AEnd → Store → Prop) : Prop :=
  boxN 27 8 x0 S fun v1 S => callF Try.prog 61 [x1] S Q fun v2 S => bin .lss 0 v2 (.v (Go.Value.int Go.IntKind.i64 0)) S fun v3 S => onB v3 fun b4 => gd b4 (Q (.ret (.v (Go.Value.int Go.IntKind.i64 0))) S) (shift v1 0 S fun v5 S => ld1 v5 S fun v6 S => shift v1 1 S fun v7 S => ld1 v7 S fun v8 S => lenS v8 S fun v9 S => shift v1 3 S fun v10 S => ld1 v10 S fun v11 S => lenS v11 S fun v12 S => shift v1 4 S fun v13 S => ld1 v13 S fun v14 S => lenS v14 S fun v15 S => shift v1 5 S fun v16 S => ld1 v16 S fun v17 S => lenS v17 S fun v18 S => shift v1 6 S fun v19 S => ld1 v19 S fun v20 S => lenS v20 S fun v21 S => bslN 3 1 6 [(.v (.int .i64 0))] [(0, v6), (1, v9), (2, v12), (3, v15), (4, v18), (5, v21)] S fun v22 S => ixS 3 1 v22 v2 S fun v23 S => ld1 v23 S fun v24 S => Q (.ret v24) S)
theorem m60_eq : (fun (x0 x1 : AV) (S : Store) (Q : AEnd → Store → Prop) => vc Try.prog c60 ms60 (ofArgs 31 [x0, x1]) S (bodyK Try.prog r60 Q)) = (fun (x0 x1 : AV) (S : Store) (Q : AEnd → Store → Prop) => m60 x0 x1 S Q) := by kernel_rfl
theorem calls60 {x0 x1 : AV} {S : Store} {Q : AEnd → Store → Prop} (h : m60 x0 x1 S Q) : ACalls Try.prog 60 [x0, x1] S Q :=
  calls_of_vc (fn := Try.f60) (c := c60) (n := 31) Try.func60 (by kernel_rfl) (by kernel_rfl) (by kernel_rfl) ms60 ((congrFun (congrFun (congrFun (congrFun m60_eq x0) x1) S) Q).mpr h)
end Go.Proofs.Ytolgpokppnajdaa.G
set_option linter.unusedVariables false
set_option maxRecDepth 100000
namespace Go.Proofs.Ytolgpokppnajdaa.G
open Go Go.Ab
/-! ### 59 parterre/parterreref04.Word -/
noncomputable def c59 : Code := (Try.f59.body).getD .skip
noncomputable def r59 : List ResultVar := Try.f59.results.toList
def env59_0 (y0 y3 : AV) : List AV := [y0, y3]
def lv59_0 : List Nat := [0, 3]
def ms59 : List (List Nat) := [lv59_0, []]
def m59 (x0 : AV) (S : Store) (Q : AEnd → Store → Prop) : Prop :=
  loopV lv59_0 (vc Try.prog (c59.at_ [1, 0, 1, 0, 0]) (ms59.drop 1)) 28 (env59_0 x0 (.v (Go.Value.int Go.IntKind.i64 0))) S (blockK 0 (seqK (vc Try.prog (c59.at_ [1, 1]) (ms59.drop 1)) (bodyK Try.prog r59 Q)))
theorem m59_eq : (fun (x0 : AV) (S : Store) (Q : AEnd → Store → Prop) => vc Try.prog c59 ms59 (ofArgs 28 [x0]) S (bodyK Try.prog r59 Q)) = (fun (x0 : AV) (S : Store) (Q : AEnd → Store → Prop) => m59 x0 S Q) := by kernel_rfl
theorem calls59 {x0 : AV} {S : Store} {Q : AEnd → Store → Prop} (h : m59 x0 S Q) : ACalls Try.prog 59 [x0] S Q :=
  calls_of_vc (fn := Try.f59) (c := c59) (n := 28) Try.func59 (by kernel_rfl) (by kernel_rfl) (by kernel_rfl) ms59 ((congrFun (congrFun (congrFun m59_eq x0) S) Q).mpr h)
-- loop 0: written: y3; read alone: y0
def b59_0 (y0 y3 : AV) (S : Store) (KE0 : Nat → List AV → Store → Prop) (Q : AEnd → Store → Prop) : Prop :=
  lenStr y0 S fun v1 S => bin .lss 0 y3 v1 S fun v2 S => onB v2 fun b3 => gd b3 (ixStr y0 y3 S fun v4 S => bin .lss 0 v4 (.v (Go.Value.int Go.IntKind.u8 33)) S fun v5 S => onB v5 fun b6 => gd b6 (Q (.ret (.v (Go.Value.bool false))) S) (ixStr y0 y3 S fun v7 S => bin .gtr 0 v7 (.v (Go.Value.int Go.IntKind.u8 126)) S fun v8 S => onB v8 fun b9 => gd b9 (Q (.ret (.v (Go.Value.bool false))) S) (bin .add 0 y3 (.v (Go.Value.int Go.IntKind.i64 1)) S fun v10 S => KE0 28 (env59_0 y0 v10) S))) (lenStr y0 S fun v11 S => bin .gtr 0 v11 (.v (Go.Value.int Go.IntKind.i64 0)) S fun v12 S => onB v12 fun b13 => gd b13 (lenStr y0 S fun v14 S => bin .leq 0 v14 (.v (Go.Value.int Go.IntKind.i64 20)) S fun v15 S => Q (.ret v15) S) (Q (.ret (.v (Go.Value.bool false))) S))
theorem b59_0_eq : (fun (y0 y3 : AV) (S : Store) (KE0 : Nat → List AV → Store → Prop) (Q : AEnd → Store → Prop) => vc Try.prog (c59.at_ [1, 0, 1, 0, 0]) (ms59.drop 1) (mkE 28 lv59_0 (env59_0 y0 y3)) S (thenK (fgK lv59_0 KE0) (blockK 0 (seqK (vc Try.prog (c59.at_ [1, 1]) (ms59.drop 1)) (bodyK Try.prog r59 Q))))) = (fun (y0 y3 : AV) (S : Store) (KE0 : Nat → List AV → Store → Prop) (Q : AEnd → Store → Prop) => b59_0 y0 y3 S KE0 Q) := by kernel_rfl
theorem loop59_0 {y0 : AV} {y30 : AV} {S : Store} {Q : AEnd → Store → Prop} (I : AV → Store → Prop) (μ : AV → Store → Nat) (h0 : I y30 S)
    (hr : ∀ (y3 : AV) (S : Store), I y3 S → ∀ KE0 : Nat → List AV → Store → Prop, (∀ (y3' : AV) (S' : Store), I y3' S' → μ y3' S' < μ y3 S → KE0 28 (env59_0 y0 y3') S') → b59_0 y0 y3 S KE0 Q) :
    loopV lv59_0 (vc Try.prog (c59.at_ [1, 0, 1, 0, 0]) (ms59.drop 1)) 28 (env59_0 y0 y30) S (blockK 0 (seqK (vc Try.prog (c59.at_ [1, 1]) (ms59.drop 1)) (bodyK Try.prog r59 Q))) := by
  refine ⟨fun n e S => n = 28 ∧ ∃ y3 : AV, e = (env59_0 y0 y3) ∧ I y3 S, fun _ e S => μ (e.getD 1 .j) S, ?_, ?_⟩
  · exact ⟨_, _, Wk.refl _ _, rfl, _, rfl, h0⟩
  · rintro _ e S ⟨rfl, y3, rfl, hI⟩
    exact (congrFun (congrFun (congrFun (congrFun (congrFun b59_0_eq y0) y3) S) _) Q).mpr (hr y3 S hI _ (fun y3' S' hI' hm => ⟨_, _, Wk.refl _ _, ⟨rfl, _, rfl, hI'⟩, hm⟩))
theorem loopw59_0 {y0 y3 : AV} {S : Store} {Q : AEnd → Store → Prop} (I : AV → AV → Store → Prop) (μ : AV → AV → Store → Nat) (h0 : ∃ (y0' y3' : AV) (S' : Store), Wk S (env59_0 y0 y3) S' (env59_0 y0' y3') ∧ I y0' y3' S')
    (hr : ∀ (y0 y3 : AV) (S : Store), I y0 y3 S → ∀ KE0 : Nat → List AV → Store → Prop, (∀ (y0' y3' : AV) (S' : Store) (y0'' y3'' : AV) (S'' : Store), Wk S' (env59_0 y0' y3') S'' (env59_0 y0'' y3'') → I y0'' y3'' S'' → μ y0'' y3'' S'' < μ y0 y3 S → KE0 28 (env59_0 y0' y3') S') → b59_0 y0 y3 S KE0 Q) :
    loopV lv59_0 (vc Try.prog (c59.at_ [1, 0, 1, 0, 0]) (ms59.drop 1)) 28 (env59_0 y0 y3) S (blockK 0 (seqK (vc Try.prog (c59.at_ [1, 1]) (ms59.drop 1)) (bodyK Try.prog r59 Q))) := by
  obtain ⟨y0', y3', S0, hw0, h0⟩ := h0
  refine ⟨fun n e S => n = 28 ∧ ∃ y0 y3 : AV, e = (env59_0 y0 y3) ∧ I y0 y3 S, fun _ e S => μ (e.getD 0 .j) (e.getD 1 .j) S, ?_, ?_⟩
  · exact ⟨_, _, hw0, rfl, _, _, rfl, h0⟩
  · rintro _ e S ⟨rfl, y0, y3, rfl, hI⟩
    exact (congrFun (congrFun (congrFun (congrFun (congrFun b59_0_eq y0) y3) S) _) Q).mpr (hr y0 y3 S hI _ (fun y0' y3' S' y0'' y3'' S'' hw hI' hm => ⟨_, _, hw, ⟨rfl, _, _, rfl, hI'⟩, hm⟩))
/-! ### 55 parterre/circuit.word -/
noncomputable def c55 : Code := (Try.f55.body).getD .skip
noncomputable def r55 : List ResultVar := Try.f55.results.toList
def env55_0 (y0 y5 y6 : AV) : List AV := [y0, y5, y6]
def lv55_0 : List Nat := [0, 5, 6]
def ms55 : List (List Nat) := [lv55_0, []]
def m55 (x0 : AV) (S : Store) (Q : AEnd → Store → Prop) : Prop :=
  lenStr x0 S fun v1 S => loopV lv55_0 (vc Try.prog (c55.at_ [1, 0, 1, 0, 0]) (ms55.drop 1)) 27 (env55_0 x0 v1 (.v (Go.Value.int Go.IntKind.i64 0))) S (blockK 0 (seqK (vc Try.prog (c55.at_ [1, 1]) (ms55.drop 1)) (bodyK Try.prog r55 Q)))
theorem m55_eq : (fun (x0 : AV) (S : Store) (Q : AEnd → Store → Prop) => vc Try.prog c55 ms55 (ofArgs 27 [x0]) S (bodyK Try.prog r55 Q)) = (fun (x0 : AV) (S : Store) (Q : AEnd → Store → Prop) => m55 x0 S Q) := by kernel_rfl
theorem calls55 {x0 : AV} {S : Store} {Q : AEnd → Store → Prop} (h : m55 x0 S Q) : ACalls Try.prog 55 [x0] S Q :=
  calls_of_vc (fn := Try.f55) (c := c55) (n := 27) Try.func55 (by kernel_rfl) (by kernel_rfl) (by kernel_rfl) ms55 ((congrFun (congrFun (congrFun m55_eq x0) S) Q).mpr h)
-- loop 0: written: y6; read alone: y0 y5
def b55_0 (y0 y5 y6 : AV) (S : Store) (KE0 : Nat → List AV → Store → Prop) (Q : AEnd → Store → Prop) : Prop :=
  bin .lss 0 y6 y5 S fun v2 S => onB v2 fun b3 => gd b3 (ixStr y0 y6 S fun v4 S => bin .leq 0 v4 (.v (Go.Value.int Go.IntKind.u8 32)) S fun v5 S => onB v5 fun b6 => gd b6 (Q (.ret (.v (Go.Value.bool false))) S) (ixStr y0 y6 S fun v7 S => bin .gtr 0 v7 (.v (Go.Value.int Go.IntKind.u8 126)) S fun v8 S => onB v8 fun b9 => gd b9 (Q (.ret (.v (Go.Value.bool false))) S) (bin .add 0 y6 (.v (Go.Value.int Go.IntKind.i64 1)) S fun v10 S => KE0 27 (env55_0 y0 y5 v10) S))) (bin .neq 0 y0 (.v (Go.Value.string { data := #[] })) S fun v11 S => onB v11 fun b12 => gd b12 (lenStr y0 S fun v13 S => bin .leq 0 v13 (.v (Go.Value.int Go.IntKind.i64 20)) S fun v14 S => Q (.ret v14) S) (Q (.ret (.v (Go.Value.bool false))) S))
theorem b55_0_eq : (fun (y0 y5 y6 : AV) (S : Store) (KE0 : Nat → List AV → Store → Prop) (Q : AEnd → Store → Prop) => vc Try.prog (c55.at_ [1, 0, 1, 0, 0]) (ms55.drop 1) (mkE 27 lv55_0 (env55_0 y0 y5 y6)) S (thenK (fgK lv55_0 KE0) (blockK 0 (seqK (vc Try.prog (c55.at_ [1, 1]) (ms55.drop 1)) (bodyK Try.prog r55 Q))))) = (fun (y0 y5 y6 : AV) (S : Store) (KE0 : Nat → List AV → Store → Prop) (Q : AEnd → Store → Prop) => b55_0 y0 y5 y6 S KE0 Q) := by kernel_rfl
theorem loop55_0 {y0 y5 : AV} {y60 : AV} {S : Store} {Q : AEnd → Store → Prop} (I : AV → Store → Prop) (μ : AV → Store → Nat) (h0 : I y60 S)
    (hr : ∀ (y6 : AV) (S : Store), I y6 S → ∀ KE0 : Nat → List AV → Store → Prop, (∀ (y6' : AV) (S' : Store), I y6' S' → μ y6' S' < μ y6 S → KE0 27 (env55_0 y0 y5 y6') S') → b55_0 y0 y5 y6 S KE0 Q) :
    loopV lv55_0 (vc Try.prog (c55.at_ [1, 0, 1, 0, 0]) (ms55.drop 1)) 27 (env55_0 y0 y5 y60) S (blockK 0 (seqK (vc Try.prog (c55.at_ [1, 1]) (ms55.drop 1)) (bodyK Try.prog r55 Q))) := by
  refine ⟨fun n e S => n = 27 ∧ ∃ y6 : AV, e = (env55_0 y0 y5 y6) ∧ I y6 S, fun _ e S => μ (e.getD 2 .j) S, ?_, ?_⟩
  · exact ⟨_, _, Wk.refl _ _, rfl, _, rfl, h0⟩
  · rintro _ e S ⟨rfl, y6, rfl, hI⟩
    exact (congrFun (congrFun (congrFun (congrFun (congrFun (congrFun b55_0_eq y0) y5) y6) S) _) Q).mpr (hr y6 S hI _ (fun y6' S' hI' hm => ⟨_, _, Wk.refl _ _, ⟨rfl, _, rfl, hI'⟩, hm⟩))
theorem loopw55_0 {y0 y5 y6 : AV} {S : Store} {Q : AEnd → Store → Prop} (I : AV → AV → AV → Store → Prop) (μ : AV → AV → AV → Store → Nat) (h0 : ∃ (y0' y5' y6' : AV) (S' : Store), Wk S (env55_0 y0 y5 y6) S' (env55_0 y0' y5' y6') ∧ I y0' y5' y6' S')
    (hr : ∀ (y0 y5 y6 : AV) (S : Store), I y0 y5 y6 S → ∀ KE0 : Nat → List AV → Store → Prop, (∀ (y0' y5' y6' : AV) (S' : Store) (y0'' y5'' y6'' : AV) (S'' : Store), Wk S' (env55_0 y0' y5' y6') S'' (env55_0 y0'' y5'' y6'') → I y0'' y5'' y6'' S'' → μ y0'' y5'' y6'' S'' < μ y0 y5 y6 S → KE0 27 (env55_0 y0' y5' y6') S') → b55_0 y0 y5 y6 S KE0 Q) :
    loopV lv55_0 (vc Try.prog (c55.at_ [1, 0, 1, 0, 0]) (ms55.drop 1)) 27 (env55_0 y0 y5 y6) S (blockK 0 (seqK (vc Try.prog (c55.at_ [1, 1]) (ms55.drop 1)) (bodyK Try.prog r55 Q))) := by
  obtain ⟨y0', y5', y6', S0, hw0, h0⟩ := h0
  refine ⟨fun n e S => n = 27 ∧ ∃ y0 y5 y6 : AV, e = (env55_0 y0 y5 y6) ∧ I y0 y5 y6 S, fun _ e S => μ (e.getD 0 .j) (e.getD 1 .j) (e.getD 2 .j) S, ?_, ?_⟩
  · exact ⟨_, _, hw0, rfl, _, _, _, rfl, h0⟩
  · rintro _ e S ⟨rfl, y0, y5, y6, rfl, hI⟩
    exact (congrFun (congrFun (congrFun (congrFun (congrFun (congrFun b55_0_eq y0) y5) y6) S) _) Q).mpr (hr y0 y5 y6 S hI _ (fun y0' y5' y6' S' y0'' y5'' y6'' S'' hw hI' hm => ⟨_, _, hw, ⟨rfl, _, _, _, rfl, hI'⟩, hm⟩))
/-! ### 61 parterre/parterreref04.rank -/
noncomputable def c61 : Code := (Try.f61.body).getD .skip
noncomputable def r61 : List ResultVar := Try.f61.results.toList
def env61_0 (y0 y3 y4 : AV) : List AV := [y0, y3, y4]
def lv61_0 : List Nat := [0, 3, 4]
def ms61 : List (List Nat) := [lv61_0, []]
def m61 (x0 : AV) (S : Store) (Q : AEnd → Store → Prop) : Prop :=
  loopV lv61_0 (vc Try.prog (c61.at_ [1, 1, 0, 1, 0, 0]) (ms61.drop 1)) 17 (env61_0 x0 (.v (Go.Value.string { data := #[105, 108, 111, 98, 99, 102] })) (.v (Go.Value.int Go.IntKind.i64 0))) S (blockK 0 (seqK (vc Try.prog (c61.at_ [1, 1, 1]) (ms61.drop 1)) (bodyK Try.prog r61 Q)))
theorem m61_eq : (fun (x0 : AV) (S : Store) (Q : AEnd → Store → Prop) => vc Try.prog c61 ms61 (ofArgs 17 [x0]) S (bodyK Try.prog r61 Q)) = (fun (x0 : AV) (S : Store) (Q : AEnd → Store → Prop) => m61 x0 S Q) := by kernel_rfl
theorem calls61 {x0 : AV} {S : Store} {Q : AEnd → Store → Prop} (h : m61 x0 S Q) : ACalls Try.prog 61 [x0] S Q :=
  calls_of_vc (fn := Try.f61) (c := c61) (n := 17) Try.func61 (by kernel_rfl) (by kernel_rfl) (by kernel_rfl) ms61 ((congrFun (congrFun (congrFun m61_eq x0) S) Q).mpr h)
-- loop 0: written: y4; read alone: y0 y3
def b61_0 (y0 y3 y4 : AV) (S : Store) (KE0 : Nat → List AV → Store → Prop) (Q : AEnd → Store → Prop) : Prop :=
  lenStr y3 S fun v1 S => bin .lss 0 y4 v1 S fun v2 S => onB v2 fun b3 => gd b3 (ixStr y3 y4 S fun v4 S => bin .eql 0 v4 y0 S fun v5 S => onB v5 fun b6 => gd b6 (Q (.ret y4) S) (bin .add 0 y4 (.v (Go.Value.int Go.IntKind.i64 1)) S fun v7 S => KE0 17 (env61_0 y0 y3 v7) S)) (Q (.ret (.v (Go.Value.int Go.IntKind.i64 (-1)))) S)
theorem b61_0_eq : (fun (y0 y3 y4 : AV) (S : Store) (KE0 : Nat → List AV → Store → Prop) (Q : AEnd → Store → Prop) => vc Try.prog (c61.at_ [1, 1, 0, 1, 0, 0]) (ms61.drop 1) (mkE 17 lv61_0 (env61_0 y0 y3 y4)) S (thenK (fgK lv61_0 KE0) (blockK 0 (seqK (vc Try.prog (c61.at_ [1, 1, 1]) (ms61.drop 1)) (bodyK Try.prog r61 Q))))) = (fun (y0 y3 y4 : AV) (S : Store) (KE0 : Nat → List AV → Store → Prop) (Q : AEnd → Store → Prop) => b61_0 y0 y3 y4 S KE0 Q) := by kernel_rfl
theorem loop61_0 {y0 y3 : AV} {y40 : AV} {S : Store} {Q : AEnd → Store → Prop} (I : AV → Store → Prop) (μ : AV → Store → Nat) (h0 : I y40 S)
    (hr : ∀ (y4 : AV) (S : Store), I y4 S → ∀ KE0 : Nat → List AV → Store → Prop, (∀ (y4' : AV) (S' : Store), I y4' S' → μ y4' S' < μ y4 S → KE0 17 (env61_0 y0 y3 y4') S') → b61_0 y0 y3 y4 S KE0 Q) :
    loopV lv61_0 (vc Try.prog (c61.at_ [1, 1, 0, 1, 0, 0]) (ms61.drop 1)) 17 (env61_0 y0 y3 y40) S (blockK 0 (seqK (vc Try.prog (c61.at_ [1, 1, 1]) (ms61.drop 1)) (bodyK Try.prog r61 Q))) := by
  refine ⟨fun n e S => n = 17 ∧ ∃ y4 : AV, e = (env61_0 y0 y3 y4) ∧ I y4 S, fun _ e S => μ (e.getD 2 .j) S, ?_, ?_⟩
  · exact ⟨_, _, Wk.refl _ _, rfl, _, rfl, h0⟩
  · rintro _ e S ⟨rfl, y4, rfl, hI⟩
    exact (congrFun (congrFun (congrFun (congrFun (congrFun (congrFun b61_0_eq y0) y3) y4) S) _) Q).mpr (hr y4 S hI _ (fun y4' S' hI' hm => ⟨_, _, Wk.refl _ _, ⟨rfl, _, rfl, hI'⟩, hm⟩))
theorem loopw61_0 {y0 y3 y4 : AV} {S : Store} {Q : AEnd → Store → Prop} (I : AV → AV → AV → Store → Prop) (μ : AV → AV → AV → Store → Nat) (h0 : ∃ (y0' y3' y4' : AV) (S' : Store), Wk S (env61_0 y0 y3 y4) S' (env61_0 y0' y3' y4') ∧ I y0' y3' y4' S')
    (hr : ∀ (y0 y3 y4 : AV) (S : Store), I y0 y3 y4 S → ∀ KE0 : Nat → List AV → Store → Prop, (∀ (y0' y3' y4' : AV) (S' : Store) (y0'' y3'' y4'' : AV) (S'' : Store), Wk S' (env61_0 y0' y3' y4') S'' (env61_0 y0'' y3'' y4'') → I y0'' y3'' y4'' S'' → μ y0'' y3'' y4'' S'' < μ y0 y3 y4 S → KE0 17 (env61_0 y0' y3' y4') S') → b61_0 y0 y3 y4 S KE0 Q) :
    loopV lv61_0 (vc Try.prog (c61.at_ [1, 1, 0, 1, 0, 0]) (ms61.drop 1)) 17 (env61_0 y0 y3 y4) S (blockK 0 (seqK (vc Try.prog (c61.at_ [1, 1, 1]) (ms61.drop 1)) (bodyK Try.prog r61 Q))) := by
  obtain ⟨y0', y3', y4', S0, hw0, h0⟩ := h0
  refine ⟨fun n e S => n = 17 ∧ ∃ y0 y3 y4 : AV, e = (env61_0 y0 y3 y4) ∧ I y0 y3 y4 S, fun _ e S => μ (e.getD 0 .j) (e.getD 1 .j) (e.getD 2 .j) S, ?_, ?_⟩
  · exact ⟨_, _, hw0, rfl, _, _, _, rfl, h0⟩
  · rintro _ e S ⟨rfl, y0, y3, y4, rfl, hI⟩
    exact (congrFun (congrFun (congrFun (congrFun (congrFun (congrFun b61_0_eq y0) y3) y4) S) _) Q).mpr (hr y0 y3 y4 S hI _ (fun y0' y3' y4' S' y0'' y3'' y4'' S'' hw hI' hm => ⟨_, _, hw, ⟨rfl, _, _, _, rfl, hI'⟩, hm⟩))
/-! ### 56 parterre/circuit.rank -/
noncomputable def c56 : Code := (Try.f56.body).getD .skip
noncomputable def r56 : List ResultVar := Try.f56.results.toList
def env56_0 (y0 y5 : AV) : List AV := [y0, y5]
def lv56_0 : List Nat := [0, 5]
def ms56 : List (List Nat) := [lv56_0, []]
def m56 (x0 : AV) (S : Store) (Q : AEnd → Store → Prop) : Prop :=
  rngS (.v (Go.Value.string { data := #[105, 108, 111, 98, 99, 102] })) S fun v1 S => loopV lv56_0 (vc Try.prog (c56.at_ [1, 0, 1, 0, 0]) (ms56.drop 1)) 15 (env56_0 x0 v1) S (blockK 0 (seqK (vc Try.prog (c56.at_ [1, 1]) (ms56.drop 1)) (bodyK Try.prog r56 Q)))
theorem m56_eq : (fun (x0 : AV) (S : Store) (Q : AEnd → Store → Prop) => vc Try.prog c56 ms56 (ofArgs 15 [x0]) S (bodyK Try.prog r56 Q)) = (fun (x0 : AV) (S : Store) (Q : AEnd → Store → Prop) => m56 x0 S Q) := by kernel_rfl
theorem calls56 {x0 : AV} {S : Store} {Q : AEnd → Store → Prop} (h : m56 x0 S Q) : ACalls Try.prog 56 [x0] S Q :=
  calls_of_vc (fn := Try.f56) (c := c56) (n := 15) Try.func56 (by kernel_rfl) (by kernel_rfl) (by kernel_rfl) ms56 ((congrFun (congrFun (congrFun m56_eq x0) S) Q).mpr h)
-- loop 0: written: ; read alone: y0 y5
def b56_0 (y0 y5 : AV) (S : Store) (KE0 : Nat → List AV → Store → Prop) (Q : AEnd → Store → Prop) : Prop :=
  nextM true y5 S fun v2 S => extr v2 0 S fun v3 S => onB v3 fun b4 => gd b4 (extr v2 1 S fun v5 S => extr v2 2 S fun v6 S => convI .i32 y0 S fun v7 S => bin .eql 0 v7 v6 S fun v8 S => onB v8 fun b9 => gd b9 (Q (.ret v5) S) (KE0 15 (env56_0 y0 y5) S)) (Q (.ret (.v (Go.Value.int Go.IntKind.i64 (-1)))) S)
theorem b56_0_eq : (fun (y0 y5 : AV) (S : Store) (KE0 : Nat → List AV → Store → Prop) (Q : AEnd → Store → Prop) => vc Try.prog (c56.at_ [1, 0, 1, 0, 0]) (ms56.drop 1) (mkE 15 lv56_0 (env56_0 y0 y5)) S (thenK (fgK lv56_0 KE0) (blockK 0 (seqK (vc Try.prog (c56.at_ [1, 1]) (ms56.drop 1)) (bodyK Try.prog r56 Q))))) = (fun (y0 y5 : AV) (S : Store) (KE0 : Nat → List AV → Store → Prop) (Q : AEnd → Store → Prop) => b56_0 y0 y5 S KE0 Q) := by kernel_rfl
theorem loop56_0 {y0 y5 : AV} {S : Store} {Q : AEnd → Store → Prop} (I : Store → Prop) (μ : Store → Nat) (h0 : I  S)
    (hr : ∀ (S : Store), I  S → ∀ KE0 : Nat → List AV → Store → Prop, (∀ (S' : Store), I  S' → μ  S' < μ  S → KE0 15 (env56_0 y0 y5) S') → b56_0 y0 y5 S KE0 Q) :
    loopV lv56_0 (vc Try.prog (c56.at_ [1, 0, 1, 0, 0]) (ms56.drop 1)) 15 (env56_0 y0 y5) S (blockK 0 (seqK (vc Try.prog (c56.at_ [1, 1]) (ms56.drop 1)) (bodyK Try.prog r56 Q))) := by
  refine ⟨fun n e S => n = 15 ∧ e = (env56_0 y0 y5) ∧ I  S, fun _ e S => μ  S, ?_, ?_⟩
  · exact ⟨_, _, Wk.refl _ _, rfl, rfl, h0⟩
  · rintro _ e S ⟨rfl, rfl, hI⟩
    exact (congrFun (congrFun (congrFun (congrFun (congrFun b56_0_eq y0) y5) S) _) Q).mpr (hr  S hI _ (fun  S' hI' hm => ⟨_, _, Wk.refl _ _, ⟨rfl, rfl, hI'⟩, hm⟩))
theorem loopw56_0 {y0 y5 : AV} {S : Store} {Q : AEnd → Store → Prop} (I : AV → AV → Store → Prop) (μ : AV → AV → Store → Nat) (h0 : ∃ (y0' y5' : AV) (S' : Store), Wk S (env56_0 y0 y5) S' (env56_0 y0' y5') ∧ I y0' y5' S')
    (hr : ∀ (y0 y5 : AV) (S : Store), I y0 y5 S → ∀ KE0 : Nat → List AV → Store → Prop, (∀ (y0' y5' : AV) (S' : Store) (y0'' y5'' : AV) (S'' : Store), Wk S' (env56_0 y0' y5') S'' (env56_0 y0'' y5'') → I y0'' y5'' S'' → μ y0'' y5'' S'' < μ y0 y5 S → KE0 15 (env56_0 y0' y5') S') → b56_0 y0 y5 S KE0 Q) :
    loopV lv56_0 (vc Try.prog (c56.at_ [1, 0, 1, 0, 0]) (ms56.drop 1)) 15 (env56_0 y0 y5) S (blockK 0 (seqK (vc Try.prog (c56.at_ [1, 1]) (ms56.drop 1)) (bodyK Try.prog r56 Q))) := by
  obtain ⟨y0', y5', S0, hw0, h0⟩ := h0
  refine ⟨fun n e S => n = 15 ∧ ∃ y0 y5 : AV, e = (env56_0 y0 y5) ∧ I y0 y5 S, fun _ e S => μ (e.getD 0 .j) (e.getD 1 .j) S, ?_, ?_⟩
  · exact ⟨_, _, hw0, rfl, _, _, rfl, h0⟩
  · rintro _ e S ⟨rfl, y0, y5, rfl, hI⟩
    exact (congrFun (congrFun (congrFun (congrFun (congrFun b56_0_eq y0) y5) S) _) Q).mpr (hr y0 y5 S hI _ (fun y0' y5' S' y0'' y5'' S'' hw hI' hm => ⟨_, _, hw, ⟨rfl, _, _, rfl, hI'⟩, hm⟩))
end Go.Proofs.Ytolgpokppnajdaa.G
set_option linter.unusedVariables false
set_option maxRecDepth 100000
namespace Go.Proofs.Ytolgpokppnajdaa.G
open Go Go.Ab
/-! ### 16 parterre/parterreref01.Vars -/
noncomputable def c16 : Code := (Try.f16.body).getD .skip
noncomputable def r16 : List ResultVar := Try.f16.results.toList
def ms16 : List (List Nat) := [[]]
def m16 (x0 : AV) (S : Store) (Q : AEnd → Store → Prop) : Prop :=
  boxN 49 2 x0 S fun v1 S => shift v1 0 S fun v2 S => ld1 v2 S fun v3 S => bin .add 0 v3 (.v (Go.Value.int Go.IntKind.i64 1)) S fun v4 S => shift v1 1 S fun v5 S => ld1 v5 S fun v6 S => lenS v6 S fun v7 S => bin .add 0 v4 v7 S fun v8 S => Q (.ret v8) S
theorem m16_eq : (fun (x0 : AV) (S : Store) (Q : AEnd → Store → Prop) => vc Try.prog c16 ms16 (ofArgs 10 [x0]) S (bodyK Try.prog r16 Q)) = (fun (x0 : AV) (S : Store) (Q : AEnd → Store → Prop) => m16 x0 S Q) := by kernel_rfl
theorem calls16 {x0 : AV} {S : Store} {Q : AEnd → Store → Prop} (h : m16 x0 S Q) : ACalls Try.prog 16 [x0] S Q :=
  calls_of_vc (fn := Try.f16) (c := c16) (n := 10) Try.func16 (by kernel_rfl) (by kernel_rfl) (by kernel_rfl) ms16 ((congrFun (congrFun (congrFun m16_eq x0) S) Q).mpr h)
/-! ### 46 parterre/parterreref01.Lit -/
noncomputable def c46 : Code := (Try.f46.body).getD .skip
noncomputable def r46 : List ResultVar := Try.f46.results.toList
def ms46 : List (List Nat) := [[]]
def m46 (x0 x1 : AV) (S : Store) (Q : AEnd → Store → Prop) : Prop :=
  boxN 49 2 x0 S fun v1 S => shift v1 0 S fun v2 S => ld1 v2 S fun v3 S => bin .geq 0 v3 (.v (Go.Value.int Go.IntKind.i64 0)) S fun v4 S => onB v4 fun b5 => gd b5 (shift v1 0 S fun v6 S => ld1 v6 S fun v7 S => bin .leq 0 v7 (.v (Go.Value.int Go.IntKind.i64 2000)) S fun v8 S => onB v8 fun b9 => gd b9 (bin .geq 0 x1 (.v (Go.Value.int Go.IntKind.i64 0)) S fun v10 S => onB v10 fun b11 => gd b11 (bin .quo 0 x1 (.v (Go.Value.int Go.IntKind.i64 2)) S fun v12 S => ldN 2 v1 S fun v13 S => callF Try.prog 16 [v13] S Q fun v14 S => bin .lss 0 v12 v14 S fun v15 S => Q (.ret v15) S) (Q (.ret (.v (Go.Value.bool false))) S)) (Q (.ret (.v (Go.Value.bool false))) S)) (Q (.ret (.v (Go.Value.bool false))) S)
theorem m46_eq : (fun (x0 x1 : AV) (S : Store) (Q : AEnd → Store → Prop) => vc Try.prog c46 ms46 (ofArgs 24 [x0, x1]) S (bodyK Try.prog r46 Q)) = (fun (x0 x1 : AV) (S : Store) (Q : AEnd → Store → Prop) => m46 x0 x1 S Q) := by kernel_rfl
theorem calls46 {x0 x1 : AV} {S : Store} {Q : AEnd → Store → Prop} (h : m46 x0 x1 S Q) : ACalls Try.prog 46 [x0, x1] S Q :=
  calls_of_vc (fn := Try.f46) (c := c46) (n := 24) Try.func46 (by kernel_rfl) (by kernel_rfl) (by kernel_rfl) ms46 ((congrFun (congrFun (congrFun (congrFun m46_eq x0) x1) S) Q).mpr h)
/-! ### 45 parterre/parterreref01.Right -/
noncomputable def c45 : Code := (Try.f45.body).getD .skip
noncomputable def r45 : List ResultVar := Try.f45.results.toList
def env45_0 (y1 y3 : AV) : List AV := [y1, y3]
def lv45_0 : List Nat := [1, 3]
def env45_1 (y1 y3 y6 : AV) : List AV := [y1, y3, y6]
def lv45_1 : List Nat := [1, 3, 6]
def ms45 : List (List Nat) := [lv45_0, lv45_1, []]
def m45 (x0 : AV) (S : Store) (Q : AEnd → Store → Prop) : Prop :=
  boxN 49 2 x0 S fun v1 S => shift v1 0 S fun v2 S => ld1 v2 S fun v3 S => bin .lss 0 v3 (.v (Go.Value.int Go.IntKind.i64 0)) S fun v4 S => onB v4 fun b5 => gd b5 (Q (.ret (.v (Go.Value.bool false))) S) (shift v1 0 S fun v6 S => ld1 v6 S fun v7 S => bin .gtr 0 v7 (.v (Go.Value.int Go.IntKind.i64 2000)) S fun v8 S => onB v8 fun b9 => gd b9 (Q (.ret (.v (Go.Value.bool false))) S) (shift v1 1 S fun v10 S => ld1 v10 S fun v11 S => lenS v11 S fun v12 S => bin .gtr 0 v12 (.v (Go.Value.int Go.IntKind.i64 2000)) S fun v13 S => onB v13 fun b14 => gd b14 (Q (.ret (.v (Go.Value.bool false))) S) (ldN 2 v1 S fun v15 S => callF Try.prog 16 [v15] S Q fun v16 S => bin .gtr 0 v16 (.v (Go.Value.int Go.IntKind.i64 2000)) S fun v17 S => onB v17 fun b18 => gd b18 (Q (.ret (.v (Go.Value.bool false))) S) (loopV lv45_0 (vc Try.prog (c45.at_ [1, 1, 0, 1, 0, 0]) (ms45.drop 1)) 80 (env45_0 v1 (.v (Go.Value.int Go.IntKind.i64 0))) S (blockK 0 (seqK (vc Try.prog (c45.at_ [1, 1, 1]) (ms45.drop 2)) (bodyK Try.prog r45 Q)))))))
theorem m45_eq : (fun (x0 : AV) (S : Store) (Q : AEnd → Store → Prop) => vc Try.prog c45 ms45 (ofArgs 80 [x0]) S (bodyK Try.prog r45 Q)) = (fun (x0 : AV) (S : Store) (Q : AEnd → Store → Prop) => m45 x0 S Q) := by kernel_rfl
theorem calls45 {x0 : AV} {S : Store} {Q : AEnd → Store → Prop} (h : m45 x0 S Q) : ACalls Try.prog 45 [x0] S Q :=
  calls_of_vc (fn := Try.f45) (c := c45) (n := 80) Try.func45 (by kernel_rfl) (by kernel_rfl) (by kernel_rfl) ms45 ((congrFun (congrFun (congrFun m45_eq x0) S) Q).mpr h)
-- loop 0: written: y3; read alone: y1
def b45_0 (y1 y3 : AV) (S : Store) (KE0 : Nat → List AV → Store → Prop) (Q : AEnd → Store → Prop) : Prop :=
  shift y1 1 S fun v19 S => ld1 v19 S fun v20 S => lenS v20 S fun v21 S => bin .lss 0 y3 v21 S fun v22 S => onB v22 fun b23 => gd b23 ((fun S0 : Store => ∃ q24 : AV, (shift y1 1 S fun v25 S => v25 = q24 ∧ S = S0) ∧ ∃ q26 : AV, (ld1 q24 S fun v27 S => v27 = q26 ∧ S = S0) ∧ ∃ q28 : AV, (ixS 80 2 q26 y3 S fun v29 S => v29 = q28 ∧ S = S0) ∧ ∃ q30 : AV, (ixA 2 1 q28 (.v (Go.Value.int Go.IntKind.i64 0)) S fun v31 S => v31 = q30 ∧ S = S0) ∧ ∃ q32 : AV, (ld1 q30 S fun v33 S => v33 = q32 ∧ S = S0) ∧ ∃ q34 : AV, (shift y1 1 S fun v35 S => v35 = q34 ∧ S = S0) ∧ ∃ q36 : AV, (ld1 q34 S fun v37 S => v37 = q36 ∧ S = S0) ∧ ∃ q38 : AV, (ixS 80 2 q36 y3 S fun v39 S => v39 = q38 ∧ S = S0) ∧ ∃ q40 : AV, (ixA 2 1 q38 (.v (Go.Value.int Go.IntKind.i64 1)) S fun v41 S => v41 = q40 ∧ S = S0) ∧ ∃ q42 : AV, (ld1 q40 S fun v43 S => v43 = q42 ∧ S = S0) ∧ bin .lss 0 q42 (.v (Go.Value.int Go.IntKind.i64 2)) S fun v44 S => onB v44 fun b45 => gd b45 (Q (.ret (.v (Go.Value.bool false))) S) (bin .quo 0 q32 (.v (Go.Value.int Go.IntKind.i64 2)) S fun v46 S => bin .quo 0 q42 (.v (Go.Value.int Go.IntKind.i64 2)) S fun v47 S => bin .leq 0 v46 v47 S fun v48 S => onB v48 fun b49 => gd b49 (Q (.ret (.v (Go.Value.bool false))) S) (bin .quo 0 q32 (.v (Go.Value.int Go.IntKind.i64 2)) S fun v50 S => shift y1 0 S fun v51 S => ld1 v51 S fun v52 S => bin .add 0 v52 (.v (Go.Value.int Go.IntKind.i64 1)) S fun v53 S => bin .add 0 v53 y3 S fun v54 S => bin .geq 0 v50 v54 S fun v55 S => onB v55 fun b56 => gd b56 (Q (.ret (.v (Go.Value.bool false))) S) (loopV lv45_1 (vc Try.prog (c45.at_ [1, 1, 0, 1, 0, 0, 1, 0, 0, 1, 1, 1, 0, 0]) (ms45.drop 2)) 80 (env45_1 y1 y3 (.v (Go.Value.int Go.IntKind.i64 0))) S (blockK 2 (blockK 1 (seqK (vc Try.prog (c45.at_ [1, 1, 0, 1, 0, 0, 1, 1]) (ms45.drop 2)) (thenK (fgK lv45_0 KE0) (blockK 0 (seqK (vc Try.prog (c45.at_ [1, 1, 1]) (ms45.drop 2)) (bodyK Try.prog r45 Q))))))))))) S) (Q (.ret (.v (Go.Value.bool true))) S)
theorem b45_0_eq : (fun (y1 y3 : AV) (S : Store) (KE0 : Nat → List AV → Store → Prop) (Q : AEnd → Store → Prop) => vc Try.prog (c45.at_ [1, 1, 0, 1, 0, 0]) (ms45.drop 1) (mkE 80 lv45_0 (env45_0 y1 y3)) S (thenK (fgK lv45_0 KE0) (blockK 0 (seqK (vc Try.prog (c45.at_ [1, 1, 1]) (ms45.drop 2)) (bodyK Try.prog r45 Q))))) = (fun (y1 y3 : AV) (S : Store) (KE0 : Nat → List AV → Store → Prop) (Q : AEnd → Store → Prop) => b45_0 y1 y3 S KE0 Q) := by kernel_rfl
theorem loop45_0 {y1 : AV} {y30 : AV} {S : Store} {Q : AEnd → Store → Prop} (I : AV → Store → Prop) (μ : AV → Store → Nat) (h0 : I y30 S)
    (hr : ∀ (y3 : AV) (S : Store), I y3 S → ∀ KE0 : Nat → List AV → Store → Prop, (∀ (y3' : AV) (S' : Store), I y3' S' → μ y3' S' < μ y3 S → KE0 80 (env45_0 y1 y3') S') → b45_0 y1 y3 S KE0 Q) :
    loopV lv45_0 (vc Try.prog (c45.at_ [1, 1, 0, 1, 0, 0]) (ms45.drop 1)) 80 (env45_0 y1 y30) S (blockK 0 (seqK (vc Try.prog (c45.at_ [1, 1, 1]) (ms45.drop 2)) (bodyK Try.prog r45 Q))) := by
  refine ⟨fun n e S => n = 80 ∧ ∃ y3 : AV, e = (env45_0 y1 y3) ∧ I y3 S, fun _ e S => μ (e.getD 1 .j) S, ?_, ?_⟩
  · exact ⟨_, _, Wk.refl _ _, rfl, _, rfl, h0⟩
  · rintro _ e S ⟨rfl, y3, rfl, hI⟩
    exact (congrFun (congrFun (congrFun (congrFun (congrFun b45_0_eq y1) y3) S) _) Q).mpr (hr y3 S hI _ (fun y3' S' hI' hm => ⟨_, _, Wk.refl _ _, ⟨rfl, _, rfl, hI'⟩, hm⟩))
theorem loopw45_0 {y1 y3 : AV} {S : Store} {Q : AEnd → Store → Prop} (I : AV → AV → Store → Prop) (μ : AV → AV → Store → Nat) (h0 : ∃ (y1' y3' : AV) (S' : Store), Wk S (env45_0 y1 y3) S' (env45_0 y1' y3') ∧ I y1' y3' S')
    (hr : ∀ (y1 y3 : AV) (S : Store), I y1 y3 S → ∀ KE0 : Nat → List AV → Store → Prop, (∀ (y1' y3' : AV) (S' : Store) (y1'' y3'' : AV) (S'' : Store), Wk S' (env45_0 y1' y3') S'' (env45_0 y1'' y3'') → I y1'' y3'' S'' → μ y1'' y3'' S'' < μ y1 y3 S → KE0 80 (env45_0 y1' y3') S') → b45_0 y1 y3 S KE0 Q) :
    loopV lv45_0 (vc Try.prog (c45.at_ [1, 1, 0, 1, 0, 0]) (ms45.drop 1)) 80 (env45_0 y1 y3) S (blockK 0 (seqK (vc Try.prog (c45.at_ [1, 1, 1]) (ms45.drop 2)) (bodyK Try.prog r45 Q))) := by
  obtain ⟨y1', y3', S0, hw0, h0⟩ := h0
  refine ⟨fun n e S => n = 80 ∧ ∃ y1 y3 : AV, e = (env45_0 y1 y3) ∧ I y1 y3 S, fun _ e S => μ (e.getD 0 .j) (e.getD 1 .j) S, ?_, ?_⟩
  · exact ⟨_, _, hw0, rfl, _, _, rfl, h0⟩
  · rintro _ e S ⟨rfl, y1, y3, rfl, hI⟩
    exact (congrFun (congrFun (congrFun (congrFun (congrFun b45_0_eq y1) y3) S) _) Q).mpr (hr y1 y3 S hI _ (fun y1' y3' S' y1'' y3'' S'' hw hI' hm => ⟨_, _, hw, ⟨rfl, _, _, rfl, hI'⟩, hm⟩))
-- loop 1: written: y6; read alone: y1 y3
def b45_1 (y1 y3 y6 : AV) (S : Store) (KE1 : Nat → List AV → Store → Prop) (KE0 : Nat → List AV → Store → Prop) (Q : AEnd → Store → Prop) : Prop :=
  bin .lss 0 y6 y3 S fun v57 S => onB v57 fun b58 => gd b58 ((fun S0 : Store => ∃ q59 : AV, (shift y1 1 S fun v60 S => v60 = q59 ∧ S = S0) ∧ ∃ q61 : AV, (ld1 q59 S fun v62 S => v62 = q61 ∧ S = S0) ∧ ∃ q63 : AV, (ixS 80 2 q61 y6 S fun v64 S => v64 = q63 ∧ S = S0) ∧ ∃ q65 : AV, (ldN 2 q63 S fun v66 S => v66 = q65 ∧ S = S0) ∧ ∃ q67 : AV, (shift y1 1 S fun v68 S => v68 = q67 ∧ S = S0) ∧ ∃ q69 : AV, (ld1 q67 S fun v70 S => v70 = q69 ∧ S = S0) ∧ ∃ q71 : AV, (ixS 80 2 q69 y3 S fun v72 S => v72 = q71 ∧ S = S0) ∧ ∃ q73 : AV, (ldN 2 q71 S fun v74 S => v74 = q73 ∧ S = S0) ∧ ∃ q75 : AV, (binP .i64 .eql q65 q73 S fun v76 S => v76 = q75 ∧ S = S0) ∧ onB q75 fun b77 => gd b77 (Q (.ret (.v (Go.Value.bool false))) S) (bin .add 0 y6 (.v (Go.Value.int Go.IntKind.i64 1)) S fun v78 S => KE1 80 (env45_1 y1 y3 v78) S)) S) (bin .add 0 y3 (.v (Go.Value.int Go.IntKind.i64 1)) S fun v79 S => KE0 80 (env45_0 y1 v79) S)
theorem b45_1_eq : (fun (y1 y3 y6 : AV) (S : Store) (KE1 : Nat → List AV → Store → Prop) (KE0 : Nat → List AV → Store → Prop) (Q : AEnd → Store → Prop) => vc Try.prog (c45.at_ [1, 1, 0, 1, 0, 0, 1, 0, 0, 1, 1, 1, 0, 0]) (ms45.drop 2) (mkE 80 lv45_1 (env45_1 y1 y3 y6)) S (thenK (fgK lv45_1 KE1) (blockK 2 (blockK 1 (seqK (vc Try.prog (c45.at_ [1, 1, 0, 1, 0, 0, 1, 1]) (ms45.drop 2)) (thenK (fgK lv45_0 KE0) (blockK 0 (seqK (vc Try.prog (c45.at_ [1, 1, 1]) (ms45.drop 2)) (bodyK Try.prog r45 Q))))))))) = (fun (y1 y3 y6 : AV) (S : Store) (KE1 : Nat → List AV → Store → Prop) (KE0 : Nat → List AV → Store → Prop) (Q : AEnd → Store → Prop) => b45_1 y1 y3 y6 S KE1 KE0 Q) := by kernel_rfl
theorem loop45_1 {y1 y3 : AV} {y60 : AV} {S : Store} {KE0 : Nat → List AV → Store → Prop} {Q : AEnd → Store → Prop} (I : AV → Store → Prop) (μ : AV → Store → Nat) (h0 : I y60 S)
    (hr : ∀ (y6 : AV) (S : Store), I y6 S → ∀ KE1 : Nat → List AV → Store → Prop, (∀ (y6' : AV) (S' : Store), I y6' S' → μ y6' S' < μ y6 S → KE1 80 (env45_1 y1 y3 y6') S') → b45_1 y1 y3 y6 S KE1 KE0 Q) :
    loopV lv45_1 (vc Try.prog (c45.at_ [1, 1, 0, 1, 0, 0, 1, 0, 0, 1, 1, 1, 0, 0]) (ms45.drop 2)) 80 (env45_1 y1 y3 y60) S (blockK 2 (blockK 1 (seqK (vc Try.prog (c45.at_ [1, 1, 0, 1, 0, 0, 1, 1]) (ms45.drop 2)) (thenK (fgK lv45_0 KE0) (blockK 0 (seqK (vc Try.prog (c45.at_ [1, 1, 1]) (ms45.drop 2)) (bodyK Try.prog r45 Q))))))) := by
  refine ⟨fun n e S => n = 80 ∧ ∃ y6 : AV, e = (env45_1 y1 y3 y6) ∧ I y6 S, fun _ e S => μ (e.getD 2 .j) S, ?_, ?_⟩
  · exact ⟨_, _, Wk.refl _ _, rfl, _, rfl, h0⟩
  · rintro _ e S ⟨rfl, y6, rfl, hI⟩
    exact (congrFun (congrFun (congrFun (congrFun (congrFun (congrFun (congrFun b45_1_eq y1) y3) y6) S) _) KE0) Q).mpr (hr y6 S hI _ (fun y6' S' hI' hm => ⟨_, _, Wk.refl _ _, ⟨rfl, _, rfl, hI'⟩, hm⟩))
theorem loopw45_1 {y1 y3 y6 : AV} {S : Store} {KE0 : Nat → List AV → Store → Prop} {Q : AEnd → Store → Prop} (I : AV → AV → AV → Store → Prop) (μ : AV → AV → AV → Store → Nat) (h0 : ∃ (y1' y3' y6' : AV) (S' : Store), Wk S (env45_1 y1 y3 y6) S' (env45_1 y1' y3' y6') ∧ I y1' y3' y6' S')
    (hr : ∀ (y1 y3 y6 : AV) (S : Store), I y1 y3 y6 S → ∀ KE1 : Nat → List AV → Store → Prop, (∀ (y1' y3' y6' : AV) (S' : Store) (y1'' y3'' y6'' : AV) (S'' : Store), Wk S' (env45_1 y1' y3' y6') S'' (env45_1 y1'' y3'' y6'') → I y1'' y3'' y6'' S'' → μ y1'' y3'' y6'' S'' < μ y1 y3 y6 S → KE1 80 (env45_1 y1' y3' y6') S') → b45_1 y1 y3 y6 S KE1 KE0 Q) :
    loopV lv45_1 (vc Try.prog (c45.at_ [1, 1, 0, 1, 0, 0, 1, 0, 0, 1, 1, 1, 0, 0]) (ms45.drop 2)) 80 (env45_1 y1 y3 y6) S (blockK 2 (blockK 1 (seqK (vc Try.prog (c45.at_ [1, 1, 0, 1, 0, 0, 1, 1]) (ms45.drop 2)) (thenK (fgK lv45_0 KE0) (blockK 0 (seqK (vc Try.prog (c45.at_ [1, 1, 1]) (ms45.drop 2)) (bodyK Try.prog r45 Q))))))) := by
  obtain ⟨y1', y3', y6', S0, hw0, h0⟩ := h0
  refine ⟨fun n e S => n = 80 ∧ ∃ y1 y3 y6 : AV, e = (env45_1 y1 y3 y6) ∧ I y1 y3 y6 S, fun _ e S => μ (e.getD 0 .j) (e.getD 1 .j) (e.getD 2 .j) S, ?_, ?_⟩
  · exact ⟨_, _, hw0, rfl, _, _, _, rfl, h0⟩
  · rintro _ e S ⟨rfl, y1, y3, y6, rfl, hI⟩
    exact (congrFun (congrFun (congrFun (congrFun (congrFun (congrFun (congrFun b45_1_eq y1) y3) y6) S) _) KE0) Q).mpr (hr y1 y3 y6 S hI _ (fun y1' y3' y6' S' y1'' y3'' y6'' S'' hw hI' hm => ⟨_, _, hw, ⟨rfl, _, _, _, rfl, hI'⟩, hm⟩))
end Go.Proofs.Ytolgpokppnajdaa.G
set_option linter.unusedVariables false
set_option maxRecDepth 100000
namespace Go.Proofs.Ytolgpokppnajdaa.G
open Go Go.Ab
/-! ### 33 parterre/parterreref01.And -/
noncomputable def c33 : Code := (Try.f33.body).getD .skip
noncomputable def r33 : List ResultVar := Try.f33.results.toList
def env33_0 (y1 y2 y3 y6 y9 : AV) : List AV := [y1, y2, y3, y6, y9]
def lv33_0 : List Nat := [1, 2, 3, 6, 9]
def ms33 : List (List Nat) := [lv33_0, []]
def m33 (x0 x1 x2 : AV) (S : Store) (Q : AEnd → Store → Prop) : Prop :=
  boxN 49 2 x0 S fun v1 S => boxN 49 2 (.a [(.v (.int .i64 0)), .nl]) S fun v2 S => ldN 2 v1 S fun v3 S => callF Try.prog 45 [v3] S Q fun v4 S => un .not v4 S fun v5 S => onB v5 fun b6 => gd b6 (bld [(0, 1), (1, 1)] [(.v (.int .i64 0)), .nl] [] S fun v7 S => stN 2 v2 v7 S fun v8 S => ldN 2 v2 S fun v9 _ => Q (.ret (.t [v9, (.v (Go.Value.int Go.IntKind.i64 0)), (.v (Go.Value.int Go.IntKind.i64 1))])) S) (ldN 2 v1 S fun v10 S => callF Try.prog 46 [v10, x1] S Q fun v11 S => un .not v11 S fun v12 S => onB v12 fun b13 => gd b13 (bld [(0, 1), (1, 1)] [(.v (.int .i64 0)), .nl] [] S fun v14 S => stN 2 v2 v14 S fun v15 S => ldN 2 v2 S fun v16 _ => Q (.ret (.t [v16, (.v (Go.Value.int Go.IntKind.i64 0)), (.v (Go.Value.int Go.IntKind.i64 1))])) S) (ldN 2 v1 S fun v17 S => callF Try.prog 46 [v17, x2] S Q fun v18 S => un .not v18 S fun v19 S => onB v19 fun b20 => gd b20 (bld [(0, 1), (1, 1)] [(.v (.int .i64 0)), .nl] [] S fun v21 S => stN 2 v2 v21 S fun v22 S => ldN 2 v2 S fun v23 _ => Q (.ret (.t [v23, (.v (Go.Value.int Go.IntKind.i64 0)), (.v (Go.Value.int Go.IntKind.i64 1))])) S) (mxI true x1 x2 S fun v24 S => mxI false x1 x2 S fun v25 S => bin .eql 0 v25 (.v (Go.Value.int Go.IntKind.i64 0)) S fun v26 S => onB v26 fun b27 => gd b27 (ldN 2 v1 S fun v28 S => stN 2 v2 v28 S fun v29 S => ldN 2 v2 S fun v30 _ => Q (.ret (.t [v30, (.v (Go.Value.int Go.IntKind.i64 0)), (.v (Go.Value.int Go.IntKind.i64 0))])) S) (bin .quo 0 v24 (.v (Go.Value.int Go.IntKind.i64 2)) S fun v31 S => bin .quo 0 v25 (.v (Go.Value.int Go.IntKind.i64 2)) S fun v32 S => bin .eql 0 v31 v32 S fun v33 S => onB v33 fun b34 => gd b34 (bin .neq 0 v24 v25 S fun v35 S => onB v35 fun b36 => gd b36 (ldN 2 v1 S fun v37 S => stN 2 v2 v37 S fun v38 S => ldN 2 v2 S fun v39 _ => Q (.ret (.t [v39, (.v (Go.Value.int Go.IntKind.i64 0)), (.v (Go.Value.int Go.IntKind.i64 0))])) S) (bin .eql 0 v25 (.v (Go.Value.int Go.IntKind.i64 1)) S fun v40 S => onB v40 fun b41 => gd b41 (ldN 2 v1 S fun v42 S => stN 2 v2 v42 S fun v43 S => ldN 2 v2 S fun v44 _ => Q (.ret (.t [v44, v24, (.v (Go.Value.int Go.IntKind.i64 0))])) S) (bin .eql 0 v24 v25 S fun v45 S => onB v45 fun b46 => gd b46 (ldN 2 v1 S fun v47 S => stN 2 v2 v47 S fun v48 S => ldN 2 v2 S fun v49 _ => Q (.ret (.t [v49, v24, (.v (Go.Value.int Go.IntKind.i64 0))])) S) (loopV lv33_0 (vc Try.prog (c33.at_ [1, 1, 1, 1, 0, 1, 0, 0]) (ms33.drop 1)) 105 (env33_0 v24 v25 v1 v2 (.v (Go.Value.int Go.IntKind.i64 0))) S (blockK 1 (seqK (vc Try.prog (c33.at_ [1, 1, 1, 1, 1]) (ms33.drop 1)) (bodyK Try.prog r33 Q))))))) (bin .eql 0 v25 (.v (Go.Value.int Go.IntKind.i64 1)) S fun v50 S => onB v50 fun b51 => gd b51 (ldN 2 v1 S fun v52 S => stN 2 v2 v52 S fun v53 S => ldN 2 v2 S fun v54 _ => Q (.ret (.t [v54, v24, (.v (Go.Value.int Go.IntKind.i64 0))])) S) (bin .eql 0 v24 v25 S fun v55 S => onB v55 fun b56 => gd b56 (ldN 2 v1 S fun v57 S => stN 2 v2 v57 S fun v58 S => ldN 2 v2 S fun v59 _ => Q (.ret (.t [v59, v24, (.v (Go.Value.int Go.IntKind.i64 0))])) S) (loopV lv33_0 (vc Try.prog (c33.at_ [1, 1, 1, 1, 0, 1, 0, 0]) (ms33.drop 1)) 105 (env33_0 v24 v25 v1 v2 (.v (Go.Value.int Go.IntKind.i64 0))) S (blockK 1 (seqK (vc Try.prog (c33.at_ [1, 1, 1, 1, 1]) (ms33.drop 1)) (bodyK Try.prog r33 Q))))))))))
theorem m33_eq : (fun (x0 x1 x2 : AV) (S : Store) (Q : AEnd → Store → Prop) => vc Try.prog c33 ms33 (ofArgs 105 [x0, x1, x2]) S (bodyK Try.prog r33 Q)) = (fun (x0 x1 x2 : AV) (S : Store) (Q : AEnd → Store → Prop) => m33 x0 x1 x2 S Q) := by kernel_rfl
theorem calls33 {x0 x1 x2 : AV} {S : Store} {Q : AEnd → Store → Prop} (h : m33 x0 x1 x2 S Q) : ACalls Try.prog 33 [x0, x1, x2] S Q :=
  calls_of_vc (fn := Try.f33) (c := c33) (n := 105) Try.func33 (by kernel_rfl) (by kernel_rfl) (by kernel_rfl) ms33 ((congrFun (congrFun (congrFun (congrFun (congrFun m33_eq x0) x1) x2) S) Q).mpr h)
-- loop 0: written: y9; read alone: y1 y2 y3 y6
def b33_0 (y1 y2 y3 y6 y9 : AV) (S : Store) (KE0 : Nat → List AV → Store → Prop) (Q : AEnd → Store → Prop) : Prop :=
  shift y3 1 S fun v60 S => ld1 v60 S fun v61 S => lenS v61 S fun v62 S => bin .lss 0 y9 v62 S fun v63 S => onB v63 fun b64 => gd b64 (shift y3 1 S fun v65 S => ld1 v65 S fun v66 S => ixS 80 2 v66 y9 S fun v67 S => ldN 2 v67 S fun v68 S => bld [(0, 1), (1, 1)] [(.v (.int .i64 0)), (.v (.int .i64 0))] [(0, y1), (1, y2)] S fun v69 S => binP .i64 .eql v68 v69 S fun v70 S => onB v70 fun b71 => gd b71 (∃ q72 : AV, (∀ T : Store, Keep S T → ldN 2 y3 T fun v73 S => v73 = q72 ∧ S = T) ∧ ∃ q74 : AV, (∀ T : Store, Keep S T → shift y3 0 T fun v75 S => v75 = q74 ∧ S = T) ∧ ∃ q76 : AV, (∀ T : Store, Keep S T → ld1 q74 T fun v77 S => v77 = q76 ∧ S = T) ∧ ∃ q78 : AV, (∀ T : Store, Keep S T → bin .add 0 q76 (.v (Go.Value.int Go.IntKind.i64 1)) T fun v79 S => v79 = q78 ∧ S = T) ∧ ∃ q80 : AV, (∀ T : Store, Keep S T → bin .add 0 q78 y9 T fun v81 S => v81 = q80 ∧ S = T) ∧ ∃ q82 : AV, (∀ T : Store, Keep S T → bin .mul 0 (.v (Go.Value.int Go.IntKind.i64 2)) q80 T fun v83 S => v83 = q82 ∧ S = T) ∧ stN 2 y6 q72 S fun v84 S => (∀ T : Store, Keep S T → bin .mul 0 (.v (Go.Value.int Go.IntKind.i64 2)) q80 T fun v85 S => v85 = q82 ∧ S = T) ∧ (∀ T : Store, Keep S T → bin .add 0 q78 y9 T fun v86 S => v86 = q80 ∧ S = T) ∧ (∀ T : Store, Keep S T → bin .add 0 q76 (.v (Go.Value.int Go.IntKind.i64 1)) T fun v87 S => v87 = q78 ∧ S = T) ∧ (∀ T : Store, Keep S T → ld1 q74 T fun v88 S => v88 = q76 ∧ S = T) ∧ (∀ T : Store, Keep S T → shift y3 0 T fun v89 S => v89 = q74 ∧ S = T) ∧ ldN 2 y6 S fun v90 _ => Q (.ret (.t [v90, q82, (.v (Go.Value.int Go.IntKind.i64 0))])) S) (bin .add 0 y9 (.v (Go.Value.int Go.IntKind.i64 1)) S fun v91 S => KE0 105 (env33_0 y1 y2 y3 y6 v91) S)) (ldN 2 y3 S fun v92 S => callF Try.prog 16 [v92] S Q fun v93 S => bin .geq 0 v93 (.v (Go.Value.int Go.IntKind.i64 2000)) S fun v94 S => onB v94 fun b95 => gd b95 (bld [(0, 1), (1, 1)] [(.v (.int .i64 0)), .nl] [] S fun v96 S => stN 2 y6 v96 S fun v97 S => ldN 2 y6 S fun v98 _ => Q (.ret (.t [v98, (.v (Go.Value.int Go.IntKind.i64 0)), (.v (Go.Value.int Go.IntKind.i64 2))])) S) (boxN 49 2 (.a [(.v (.int .i64 0)), .nl]) S fun v99 S => shift y3 0 S fun v100 S => ld1 v100 S fun v101 S => shift v99 0 S fun v102 S => stN 1 v102 v101 S fun v103 S => shift v99 1 S fun v104 S => ld1 v104 S fun v105 S => shift y3 1 S fun v106 S => ld1 v106 S fun v107 S => appS 80 2 16 v105 v107 S fun v108 S => bld [(0, 1), (1, 1)] [(.v (.int .i64 0)), (.v (.int .i64 0))] [(0, y1), (1, y2)] S fun v109 S => bslN 80 2 1 [(.v (.int .i64 0)), (.v (.int .i64 0))] [(0, v109)] S fun v110 S => appS 80 2 16 v108 v110 S fun v111 S => shift v99 1 S fun v112 S => stN 1 v112 v111 S fun v113 S => ∃ q114 : AV, (∀ T : Store, Keep S T → ldN 2 v99 T fun v115 S => v115 = q114 ∧ S = T) ∧ ∃ q116 : AV, (∀ T : Store, Keep S T → ldN 2 v99 T fun v117 S => v117 = q116 ∧ S = T) ∧ ∃ q118 : AV, (∀ T : Store, Keep S T → callF Try.prog 16 [q116] T (fun _ _ => False) fun v119 S => v119 = q118 ∧ S = T) ∧ ∃ q120 : AV, (∀ T : Store, Keep S T → bin .mul 0 (.v (Go.Value.int Go.IntKind.i64 2)) q118 T fun v121 S => v121 = q120 ∧ S = T) ∧ ∃ q122 : AV, (∀ T : Store, Keep S T → bin .sub 0 q120 (.v (Go.Value.int Go.IntKind.i64 2)) T fun v123 S => v123 = q122 ∧ S = T) ∧ stN 2 y6 q114 S fun v124 S => (∀ T : Store, Keep S T → bin .sub 0 q120 (.v (Go.Value.int Go.IntKind.i64 2)) T fun v125 S => v125 = q122 ∧ S = T) ∧ (∀ T : Store, Keep S T → bin .mul 0 (.v (Go.Value.int Go.IntKind.i64 2)) q118 T fun v126 S => v126 = q120 ∧ S = T) ∧ ldN 2 y6 S fun v127 _ => Q (.ret (.t [v127, q122, (.v (Go.Value.int Go.IntKind.i64 0))])) S))
theorem b33_0_eq : (fun (y1 y2 y3 y6 y9 : AV) (S : Store) (KE0 : Nat → List AV → Store → Prop) (Q : AEnd → Store → Prop) => vc Try.prog (c33.at_ [1, 1, 1, 1, 0, 1, 0, 0]) (ms33.drop 1) (mkE 105 lv33_0 (env33_0 y1 y2 y3 y6 y9)) S (thenK (fgK lv33_0 KE0) (blockK 1 (seqK (vc Try.prog (c33.at_ [1, 1, 1, 1, 1]) (ms33.drop 1)) (bodyK Try.prog r33 Q))))) = (fun (y1 y2 y3 y6 y9 : AV) (S : Store) (KE0 : Nat → List AV → Store → Prop) (Q : AEnd → Store → Prop) => b33_0 y1 y2 y3 y6 y9 S KE0 Q) := by kernel_rfl
theorem loop33_0 {y1 y2 y3 y6 : AV} {y90 : AV} {S : Store} {Q : AEnd → Store → Prop} (I : AV → Store → Prop) (μ : AV → Store → Nat) (h0 : I y90 S)
    (hr : ∀ (y9 : AV) (S : Store), I y9 S → ∀ KE0 : Nat → List AV → Store → Prop, (∀ (y9' : AV) (S' : Store), I y9' S' → μ y9' S' < μ y9 S → KE0 105 (env33_0 y1 y2 y3 y6 y9') S') → b33_0 y1 y2 y3 y6 y9 S KE0 Q) :
    loopV lv33_0 (vc Try.prog (c33.at_ [1, 1, 1, 1, 0, 1, 0, 0]) (ms33.drop 1)) 105 (env33_0 y1 y2 y3 y6 y90) S (blockK 1 (seqK (vc Try.prog (c33.at_ [1, 1, 1, 1, 1]) (ms33.drop 1)) (bodyK Try.prog r33 Q))) := by
  refine ⟨fun n e S => n = 105 ∧ ∃ y9 : AV, e = (env33_0 y1 y2 y3 y6 y9) ∧ I y9 S, fun _ e S => μ (e.getD 4 .j) S, ?_, ?_⟩
  · exact ⟨_, _, Wk.refl _ _, rfl, _, rfl, h0⟩
  · rintro _ e S ⟨rfl, y9, rfl, hI⟩
    exact (congrFun (congrFun (congrFun (congrFun (congrFun (congrFun (congrFun (congrFun b33_0_eq y1) y2) y3) y6) y9) S) _) Q).mpr (hr y9 S hI _ (fun y9' S' hI' hm => ⟨_, _, Wk.refl _ _, ⟨rfl, _, rfl, hI'⟩, hm⟩))
theorem loopw33_0 {y1 y2 y3 y6 y9 : AV} {S : Store} {Q : AEnd → Store → Prop} (I : AV → AV → AV → AV → AV → Store → Prop) (μ : AV → AV → AV → AV → AV → Store → Nat) (h0 : ∃ (y1' y2' y3' y6' y9' : AV) (S' : Store), Wk S (env33_0 y1 y2 y3 y6 y9) S' (env33_0 y1' y2' y3' y6' y9') ∧ I y1' y2' y3' y6' y9' S')
    (hr : ∀ (y1 y2 y3 y6 y9 : AV) (S : Store), I y1 y2 y3 y6 y9 S → ∀ KE0 : Nat → List AV → Store → Prop, (∀ (y1' y2' y3' y6' y9' : AV) (S' : Store) (y1'' y2'' y3'' y6'' y9'' : AV) (S'' : Store), Wk S' (env33_0 y1' y2' y3' y6' y9') S'' (env33_0 y1'' y2'' y3'' y6'' y9'') → I y1'' y2'' y3'' y6'' y9'' S'' → μ y1'' y2'' y3'' y6'' y9'' S'' < μ y1 y2 y3 y6 y9 S → KE0 105 (env33_0 y1' y2' y3' y6' y9') S') → b33_0 y1 y2 y3 y6 y9 S KE0 Q) :
    loopV lv33_0 (vc Try.prog (c33.at_ [1, 1, 1, 1, 0, 1, 0, 0]) (ms33.drop 1)) 105 (env33_0 y1 y2 y3 y6 y9) S (blockK 1 (seqK (vc Try.prog (c33.at_ [1, 1, 1, 1, 1]) (ms33.drop 1)) (bodyK Try.prog r33 Q))) := by
  obtain ⟨y1', y2', y3', y6', y9', S0, hw0, h0⟩ := h0
  refine ⟨fun n e S => n = 105 ∧ ∃ y1 y2 y3 y6 y9 : AV, e = (env33_0 y1 y2 y3 y6 y9) ∧ I y1 y2 y3 y6 y9 S, fun _ e S => μ (e.getD 0 .j) (e.getD 1 .j) (e.getD 2 .j) (e.getD 3 .j) (e.getD 4 .j) S, ?_, ?_⟩
  · exact ⟨_, _, hw0, rfl, _, _, _, _, _, rfl, h0⟩
  · rintro _ e S ⟨rfl, y1, y2, y3, y6, y9, rfl, hI⟩
    exact (congrFun (congrFun (congrFun (congrFun (congrFun (congrFun (congrFun (congrFun b33_0_eq y1) y2) y3) y6) y9) S) _) Q).mpr (hr y1 y2 y3 y6 y9 S hI _ (fun y1' y2' y3' y6' y9' S' y1'' y2'' y3'' y6'' y9'' S'' hw hI' hm => ⟨_, _, hw, ⟨rfl, _, _, _, _, _, rfl, hI'⟩, hm⟩))
end Go.Proofs.Ytolgpokppnajdaa.G
set_option linter.unusedVariables false
set_option maxRecDepth 100000
namespace Go.Proofs.Ytolgpokppnajdaa.G
open Go Go.Ab
/-! ### 68 (*parterre/graph.index).make -/
noncomputable def c68 : Code := (Try.f68.body).getD .skip
noncomputable def r68 : List ResultVar := Try.f68.results.toList
def env68_0 (y0 y13 y14 y15 : AV) : List AV := [y0, y13, y14, y15]
def lv68_0 : List Nat := [0, 13, 14, 15]
def ms68 : List (List Nat) := [lv68_0, []]
def m68 (x0 : AV) (S : Store) (Q : AEnd → Store → Prop) : Prop :=
  mkM (.p .i64) S fun v1 S => nilChk x0 S fun v2 S => shift v2 4 S fun v3 S => stN 1 v3 v1 S fun v4 S => nilChk x0 S fun v5 S => shift v5 3 S fun v6 S => ld1 v6 S fun v7 S => lenS v7 S fun v8 S => loopV lv68_0 (vc Try.prog (c68.at_ [1, 1, 0, 0]) (ms68.drop 1)) 38 (env68_0 x0 v7 v8 (.v (Go.Value.int Go.IntKind.i64 0))) S (blockK 0 (bodyK Try.prog r68 Q))
theorem m68_eq : (fun (x0 : AV) (S : Store) (Q : AEnd → Store → Prop) => vc Try.prog c68 ms68 (ofArgs 38 [x0]) S (bodyK Try.prog r68 Q)) = (fun (x0 : AV) (S : Store) (Q : AEnd → Store → Prop) => m68 x0 S Q) := by kernel_rfl
theorem calls68 {x0 : AV} {S : Store} {Q : AEnd → Store → Prop} (h : m68 x0 S Q) : ACalls Try.prog 68 [x0] S Q :=
  calls_of_vc (fn := Try.f68) (c := c68) (n := 38) Try.func68 (by kernel_rfl) (by kernel_rfl) (by kernel_rfl) ms68 ((congrFun (congrFun (congrFun m68_eq x0) S) Q).mpr h)
-- loop 0: written: y15; read alone: y0 y13 y14
def b68_0 (y0 y13 y14 y15 : AV) (S : Store) (KE0 : Nat → List AV → Store → Prop) (Q : AEnd → Store → Prop) : Prop :=
  bin .lss 0 y15 y14 S fun v9 S => onB v9 fun b10 => gd b10 (ixS 80 2 y13 y15 S fun v11 S => ldN 2 v11 S fun v12 S => boxN 80 2 (.a [(.v (.int .i64 0)), (.v (.int .i64 0))]) S fun v13 S => stN 2 v13 v12 S fun v14 S => (fun S0 : Store => ∃ q15 : AV, (nilChk y0 S fun v16 S => v16 = q15 ∧ S = S0) ∧ ∃ q17 : AV, (shift q15 4 S fun v18 S => v18 = q17 ∧ S = S0) ∧ ∃ q19 : AV, (ld1 q17 S fun v20 S => v20 = q19 ∧ S = S0) ∧ ∃ q21 : AV, (ldN 2 v13 S fun v22 S => v22 = q21 ∧ S = S0) ∧ ∃ q23 : AV, (lkM (.p .i64) (.v (.int .i64 0)) true q19 q21 S fun v24 S => v24 = q23 ∧ S = S0) ∧ ∃ q25 : AV, (extr q23 0 S fun v26 S => v26 = q25 ∧ S = S0) ∧ ∃ q27 : AV, (extr q23 1 S fun v28 S => v28 = q27 ∧ S = S0) ∧ un .not q27 S fun v29 S => onB v29 fun b30 => gd b30 (∃ q31 : AV, (∀ T : Store, Keep S T → nilChk y0 T fun v32 S => v32 = q31 ∧ S = T) ∧ ∃ q33 : AV, (∀ T : Store, Keep S T → shift q31 4 T fun v34 S => v34 = q33 ∧ S = T) ∧ ∃ q35 : AV, (∀ T : Store, Keep S T → ld1 q33 T fun v36 S => v36 = q35 ∧ S = T) ∧ ∃ q37 : AV, (∀ T : Store, Keep S T → ldN 2 v13 T fun v38 S => v38 = q37 ∧ S = T) ∧ updM (.p .i64) q35 q37 y15 S fun v39 S => bin .add 0 y15 (.v (Go.Value.int Go.IntKind.i64 1)) S fun v40 S => KE0 38 (env68_0 y0 y13 y14 v40) S) (bin .add 0 y15 (.v (Go.Value.int Go.IntKind.i64 1)) S fun v41 S => KE0 38 (env68_0 y0 y13 y14 v41) S)) S) (Q (.ret (.t [])) S)
theorem b68_0_eq : (fun (y0 y13 y14 y15 : AV) (S : Store) (KE0 : Nat → List AV → Store → Prop) (Q : AEnd → Store → Prop) => vc Try.prog (c68.at_ [1, 1, 0, 0]) (ms68.drop 1) (mkE 38 lv68_0 (env68_0 y0 y13 y14 y15)) S (thenK (fgK lv68_0 KE0) (blockK 0 (bodyK Try.prog r68 Q)))) = (fun (y0 y13 y14 y15 : AV) (S : Store) (KE0 : Nat → List AV → Store → Prop) (Q : AEnd → Store → Prop) => b68_0 y0 y13 y14 y15 S KE0 Q) := by kernel_rfl
theorem loop68_0 {y0 y13 y14 : AV} {y150 : AV} {S : Store} {Q : AEnd → Store → Prop} (I : AV → Store → Prop) (μ : AV → Store → Nat) (h0 : I y150 S)
    (hr : ∀ (y15 : AV) (S : Store), I y15 S → ∀ KE0 : Nat → List AV → Store → Prop, (∀ (y15' : AV) (S' : Store), I y15' S' → μ y15' S' < μ y15 S → KE0 38 (env68_0 y0 y13 y14 y15') S') → b68_0 y0 y13 y14 y15 S KE0 Q) :
    loopV lv68_0 (vc Try.prog (c68.at_ [1, 1, 0, 0]) (ms68.drop 1)) 38 (env68_0 y0 y13 y14 y150) S (blockK 0 (bodyK Try.prog r68 Q)) := by
  refine ⟨fun n e S => n = 38 ∧ ∃ y15 : AV, e = (env68_0 y0 y13 y14 y15) ∧ I y15 S, fun _ e S => μ (e.getD 3 .j) S, ?_, ?_⟩
  · exact ⟨_, _, Wk.refl _ _, rfl, _, rfl, h0⟩
  · rintro _ e S ⟨rfl, y15, rfl, hI⟩
    exact (congrFun (congrFun (congrFun (congrFun (congrFun (congrFun (congrFun b68_0_eq y0) y13) y14) y15) S) _) Q).mpr (hr y15 S hI _ (fun y15' S' hI' hm => ⟨_, _, Wk.refl _ _, ⟨rfl, _, rfl, hI'⟩, hm⟩))
theorem loopw68_0 {y0 y13 y14 y15 : AV} {S : Store} {Q : AEnd → Store → Prop} (I : AV → AV → AV → AV → Store → Prop) (μ : AV → AV → AV → AV → Store → Nat) (h0 : ∃ (y0' y13' y14' y15' : AV) (S' : Store), Wk S (env68_0 y0 y13 y14 y15) S' (env68_0 y0' y13' y14' y15') ∧ I y0' y13' y14' y15' S')
    (hr : ∀ (y0 y13 y14 y15 : AV) (S : Store), I y0 y13 y14 y15 S → ∀ KE0 : Nat → List AV → Store → Prop, (∀ (y0' y13' y14' y15' : AV) (S' : Store) (y0'' y13'' y14'' y15'' : AV) (S'' : Store), Wk S' (env68_0 y0' y13' y14' y15') S'' (env68_0 y0'' y13'' y14'' y15'') → I y0'' y13'' y14'' y15'' S'' → μ y0'' y13'' y14'' y15'' S'' < μ y0 y13 y14 y15 S → KE0 38 (env68_0 y0' y13' y14' y15') S') → b68_0 y0 y13 y14 y15 S KE0 Q) :
    loopV lv68_0 (vc Try.prog (c68.at_ [1, 1, 0, 0]) (ms68.drop 1)) 38 (env68_0 y0 y13 y14 y15) S (blockK 0 (bodyK Try.prog r68 Q)) := by
  obtain ⟨y0', y13', y14', y15', S0, hw0, h0⟩ := h0
  refine ⟨fun n e S => n = 38 ∧ ∃ y0 y13 y14 y15 : AV, e = (env68_0 y0 y13 y14 y15) ∧ I y0 y13 y14 y15 S, fun _ e S => μ (e.getD 0 .j) (e.getD 1 .j) (e.getD 2 .j) (e.getD 3 .j) S, ?_, ?_⟩
  · exact ⟨_, _, hw0, rfl, _, _, _, _, rfl, h0⟩
  · rintro _ e S ⟨rfl, y0, y13, y14, y15, rfl, hI⟩
    exact (congrFun (congrFun (congrFun (congrFun (congrFun (congrFun (congrFun b68_0_eq y0) y13) y14) y15) S) _) Q).mpr (hr y0 y13 y14 y15 S hI _ (fun y0' y13' y14' y15' S' y0'' y13'' y14'' y15'' S'' hw hI' hm => ⟨_, _, hw, ⟨rfl, _, _, _, _, rfl, hI'⟩, hm⟩))
/-! ### 65 (*parterre/graph.index).many -/
noncomputable def c65 : Code := (Try.f65.body).getD .skip
noncomputable def r65 : List ResultVar := Try.f65.results.toList
def ms65 : List (List Nat) := [[68, 67]]
def m65 (x0 : AV) (S : Store) (Q : AEnd → Store → Prop) : Prop :=
  nilChk x0 S fun v1 S => shift v1 0 S fun v2 S => callF Try.prog 67 [v2, (.f (Go.Fn.func 68) [x0] [])] S Q fun v3 S => nilChk x0 S fun v4 S => shift v4 4 S fun v5 S => ld1 v5 S fun v6 S => lenM v6 S fun v7 S => Q (.ret v7) S
theorem m65_eq : (fun (x0 : AV) (S : Store) (Q : AEnd → Store → Prop) => vc Try.prog c65 ms65 (ofArgs 14 [x0]) S (bodyK Try.prog r65 Q)) = (fun (x0 : AV) (S : Store) (Q : AEnd → Store → Prop) => m65 x0 S Q) := by kernel_rfl
theorem calls65 {x0 : AV} {S : Store} {Q : AEnd → Store → Prop} (h : m65 x0 S Q) : ACalls Try.prog 65 [x0] S Q :=
  calls_of_vc (fn := Try.f65) (c := c65) (n := 14) Try.func65 (by kernel_rfl) (by kernel_rfl) (by kernel_rfl) ms65 ((congrFun (congrFun (congrFun m65_eq x0) S) Q).mpr h)
/-! ### 52 parterre/graph.right -/
noncomputable def c52 : Code := (Try.f52.body).getD .skip
noncomputable def r52 : List ResultVar := Try.f52.results.toList
def env52_0 (y1 y2 y27 y28 y29 : AV) : List AV := [y1, y2, y27, y28, y29]
def lv52_0 : List Nat := [1, 2, 27, 28, 29]
def ms52 : List (List Nat) := [lv52_0, [65]]
def m52 (x0 x1 : AV) (S : Store) (Q : AEnd → Store → Prop) : Prop :=
  boxN 49 2 x0 S fun v1 S => shift v1 0 S fun v2 S => ld1 v2 S fun v3 S => bin .lss 0 v3 (.v (Go.Value.int Go.IntKind.i64 0)) S fun v4 S => onB v4 fun b5 => gd b5 (Q (.ret (.v (Go.Value.bool false))) S) (shift v1 0 S fun v6 S => ld1 v6 S fun v7 S => bin .gtr 0 v7 (.v (Go.Value.int Go.IntKind.i64 2000)) S fun v8 S => onB v8 fun b9 => gd b9 (Q (.ret (.v (Go.Value.bool false))) S) (shift v1 1 S fun v10 S => ld1 v10 S fun v11 S => lenS v11 S fun v12 S => bin .gtr 0 v12 (.v (Go.Value.int Go.IntKind.i64 2000)) S fun v13 S => onB v13 fun b14 => gd b14 (Q (.ret (.v (Go.Value.bool false))) S) (ldN 2 v1 S fun v15 S => callF Try.prog 51 [v15] S Q fun v16 S => bin .gtr 0 v16 (.v (Go.Value.int Go.IntKind.i64 2000)) S fun v17 S => onB v17 fun b18 => gd b18 (Q (.ret (.v (Go.Value.bool false))) S) (shift v1 1 S fun v19 S => ld1 v19 S fun v20 S => lenS v20 S fun v21 S => loopV lv52_0 (vc Try.prog (c52.at_ [1, 1, 0, 1, 0, 0]) (ms52.drop 1)) 49 (env52_0 x1 v1 v20 v21 (.v (Go.Value.int Go.IntKind.i64 0))) S (blockK 0 (seqK (vc Try.prog (c52.at_ [1, 1, 1]) (ms52.drop 1)) (bodyK Try.prog r52 Q)))))))
theorem m52_eq : (fun (x0 x1 : AV) (S : Store) (Q : AEnd → Store → Prop) => vc Try.prog c52 ms52 (ofArgs 49 [x0, x1]) S (bodyK Try.prog r52 Q)) = (fun (x0 x1 : AV) (S : Store) (Q : AEnd → Store → Prop) => m52 x0 x1 S Q) := by kernel_rfl
theorem calls52 {x0 x1 : AV} {S : Store} {Q : AEnd → Store → Prop} (h : m52 x0 x1 S Q) : ACalls Try.prog 52 [x0, x1] S Q :=
  calls_of_vc (fn := Try.f52) (c := c52) (n := 49) Try.func52 (by kernel_rfl) (by kernel_rfl) (by kernel_rfl) ms52 ((congrFun (congrFun (congrFun (congrFun m52_eq x0) x1) S) Q).mpr h)
-- loop 0: written: y29; read alone: y1 y2 y27 y28
def b52_0 (y1 y2 y27 y28 y29 : AV) (S : Store) (KE0 : Nat → List AV → Store → Prop) (Q : AEnd → Store → Prop) : Prop :=
  bin .lss 0 y29 y28 S fun v22 S => onB v22 fun b23 => gd b23 (ixS 80 2 y27 y29 S fun v24 S => ldN 2 v24 S fun v25 S => boxN 80 2 (.a [(.v (.int .i64 0)), (.v (.int .i64 0))]) S fun v26 S => stN 2 v26 v25 S fun v27 S => ldN 2 v26 S fun v28 S => shift y2 0 S fun v29 S => ld1 v29 S fun v30 S => bin .add 0 v30 (.v (Go.Value.int Go.IntKind.i64 1)) S fun v31 S => bin .add 0 v31 y29 S fun v32 S => callF Try.prog 64 [v28, v32] S Q fun v33 S => un .not v33 S fun v34 S => onB v34 fun b35 => gd b35 (Q (.ret (.v (Go.Value.bool false))) S) (bin .add 0 y29 (.v (Go.Value.int Go.IntKind.i64 1)) S fun v36 S => KE0 49 (env52_0 y1 y2 y27 y28 v36) S)) (∃ q37 : AV, (∀ T : Store, Keep S T → shift y2 1 T fun v38 S => v38 = q37 ∧ S = T) ∧ ∃ q39 : AV, (∀ T : Store, Keep S T → ld1 q37 T fun v40 S => v40 = q39 ∧ S = T) ∧ ∃ q41 : AV, (∀ T : Store, Keep S T → lenS q39 T fun v42 S => v42 = q41 ∧ S = T) ∧ callF Try.prog 65 [y1] S (fun _ _ => False) fun v43 S => (∀ T : Store, Keep S T → lenS q39 T fun v44 S => v44 = q41 ∧ S = T) ∧ (∀ T : Store, Keep S T → ld1 q37 T fun v45 S => v45 = q39 ∧ S = T) ∧ (∀ T : Store, Keep S T → shift y2 1 T fun v46 S => v46 = q37 ∧ S = T) ∧ ∃ q47 : AV, (∀ T : Store, Keep S T → bin .eql 0 v43 q41 T fun v48 S => v48 = q47 ∧ S = T) ∧ Q (.ret q47) S)
theorem b52_0_eq : (fun (y1 y2 y27 y28 y29 : AV) (S : Store) (KE0 : Nat → List AV → Store → Prop) (Q : AEnd → Store → Prop) => vc Try.prog (c52.at_ [1, 1, 0, 1, 0, 0]) (ms52.drop 1) (mkE 49 lv52_0 (env52_0 y1 y2 y27 y28 y29)) S (thenK (fgK lv52_0 KE0) (blockK 0 (seqK (vc Try.prog (c52.at_ [1, 1, 1]) (ms52.drop 1)) (bodyK Try.prog r52 Q))))) = (fun (y1 y2 y27 y28 y29 : AV) (S : Store) (KE0 : Nat → List AV → Store → Prop) (Q : AEnd → Store → Prop) => b52_0 y1 y2 y27 y28 y29 S KE0 Q) := by kernel_rfl
theorem loop52_0 {y1 y2 y27 y28 : AV} {y290 : AV} {S : Store} {Q : AEnd → Store → Prop} (I : AV → Store → Prop) (μ : AV → Store → Nat) (h0 : I y290 S)
    (hr : ∀ (y29 : AV) (S : Store), I y29 S → ∀ KE0 : Nat → List AV → Store → Prop, (∀ (y29' : AV) (S' : Store), I y29' S' → μ y29' S' < μ y29 S → KE0 49 (env52_0 y1 y2 y27 y28 y29') S') → b52_0 y1 y2 y27 y28 y29 S KE0 Q) :
    loopV lv52_0 (vc Try.prog (c52.at_ [1, 1, 0, 1, 0, 0]) (ms52.drop 1)) 49 (env52_0 y1 y2 y27 y28 y290) S (blockK 0 (seqK (vc Try.prog (c52.at_ [1, 1, 1]) (ms52.drop 1)) (bodyK Try.prog r52 Q))) := by
  refine ⟨fun n e S => n = 49 ∧ ∃ y29 : AV, e = (env52_0 y1 y2 y27 y28 y29) ∧ I y29 S, fun _ e S => μ (e.getD 4 .j) S, ?_, ?_⟩
  · exact ⟨_, _, Wk.refl _ _, rfl, _, rfl, h0⟩
  · rintro _ e S ⟨rfl, y29, rfl, hI⟩
    exact (congrFun (congrFun (congrFun (congrFun (congrFun (congrFun (congrFun (congrFun b52_0_eq y1) y2) y27) y28) y29) S) _) Q).mpr (hr y29 S hI _ (fun y29' S' hI' hm => ⟨_, _, Wk.refl _ _, ⟨rfl, _, rfl, hI'⟩, hm⟩))
theorem loopw52_0 {y1 y2 y27 y28 y29 : AV} {S : Store} {Q : AEnd → Store → Prop} (I : AV → AV → AV → AV → AV → Store → Prop) (μ : AV → AV → AV → AV → AV → Store → Nat) (h0 : ∃ (y1' y2' y27' y28' y29' : AV) (S' : Store), Wk S (env52_0 y1 y2 y27 y28 y29) S' (env52_0 y1' y2' y27' y28' y29') ∧ I y1' y2' y27' y28' y29' S')
    (hr : ∀ (y1 y2 y27 y28 y29 : AV) (S : Store), I y1 y2 y27 y28 y29 S → ∀ KE0 : Nat → List AV → Store → Prop, (∀ (y1' y2' y27' y28' y29' : AV) (S' : Store) (y1'' y2'' y27'' y28'' y29'' : AV) (S'' : Store), Wk S' (env52_0 y1' y2' y27' y28' y29') S'' (env52_0 y1'' y2'' y27'' y28'' y29'') → I y1'' y2'' y27'' y28'' y29'' S'' → μ y1'' y2'' y27'' y28'' y29'' S'' < μ y1 y2 y27 y28 y29 S → KE0 49 (env52_0 y1' y2' y27' y28' y29') S') → b52_0 y1 y2 y27 y28 y29 S KE0 Q) :
    loopV lv52_0 (vc Try.prog (c52.at_ [1, 1, 0, 1, 0, 0]) (ms52.drop 1)) 49 (env52_0 y1 y2 y27 y28 y29) S (blockK 0 (seqK (vc Try.prog (c52.at_ [1, 1, 1]) (ms52.drop 1)) (bodyK Try.prog r52 Q))) := by
  obtain ⟨y1', y2', y27', y28', y29', S0, hw0, h0⟩ := h0
  refine ⟨fun n e S => n = 49 ∧ ∃ y1 y2 y27 y28 y29 : AV, e = (env52_0 y1 y2 y27 y28 y29) ∧ I y1 y2 y27 y28 y29 S, fun _ e S => μ (e.getD 0 .j) (e.getD 1 .j) (e.getD 2 .j) (e.getD 3 .j) (e.getD 4 .j) S, ?_, ?_⟩
  · exact ⟨_, _, hw0, rfl, _, _, _, _, _, rfl, h0⟩
  · rintro _ e S ⟨rfl, y1, y2, y27, y28, y29, rfl, hI⟩
    exact (congrFun (congrFun (congrFun (congrFun (congrFun (congrFun (congrFun (congrFun b52_0_eq y1) y2) y27) y28) y29) S) _) Q).mpr (hr y1 y2 y27 y28 y29 S hI _ (fun y1' y2' y27' y28' y29' S' y1'' y2'' y27'' y28'' y29'' S'' hw hI' hm => ⟨_, _, hw, ⟨rfl, _, _, _, _, _, rfl, hI'⟩, hm⟩))
/-! ### 38 parterre/graph.Right -/
noncomputable def c38 : Code := (Try.f38.body).getD .skip
noncomputable def r38 : List ResultVar := Try.f38.results.toList
def ms38 : List (List Nat) := [[52]]
def m38 (x0 : AV) (S : Store) (Q : AEnd → Store → Prop) : Prop :=
  boxN 49 2 x0 S fun v1 S => ldN 2 v1 S fun v2 S => shift v1 1 S fun v3 S => ld1 v3 S fun v4 S => bld [(0, 3), (3, 1), (4, 1)] [(.v (.int .u32 0)), (.v (.int .i32 0)), (.v (.int .u32 0)), .nl, (.v (.map none))] [(1, v4)] S fun v5 S => boxN 100 5 v5 S fun v6 S => callF Try.prog 52 [v2, v6] S Q fun v7 S => Q (.ret v7) S
theorem m38_eq : (fun (x0 : AV) (S : Store) (Q : AEnd → Store → Prop) => vc Try.prog c38 ms38 (ofArgs 9 [x0]) S (bodyK Try.prog r38 Q)) = (fun (x0 : AV) (S : Store) (Q : AEnd → Store → Prop) => m38 x0 S Q) := by kernel_rfl
theorem calls38 {x0 : AV} {S : Store} {Q : AEnd → Store → Prop} (h : m38 x0 S Q) : ACalls Try.prog 38 [x0] S Q :=
  calls_of_vc (fn := Try.f38) (c := c38) (n := 9) Try.func38 (by kernel_rfl) (by kernel_rfl) (by kernel_rfl) ms38 ((congrFun (congrFun (congrFun m38_eq x0) S) Q).mpr h)
end Go.Proofs.Ytolgpokppnajdaa.G
set_option linter.unusedVariables false
set_option maxRecDepth 100000
namespace Go.Proofs.Ytolgpokppnajdaa.G
open Go Go.Ab
/-! ### 51 parterre/graph.vars -/
noncomputable def c51 : Code := (Try.f51.body).getD .skip
noncomputable def r51 : List ResultVar := Try.f51.results.toList
def ms51 : List (List Nat) := [[]]
def m51 (x0 : AV) (S : Store) (Q : AEnd → Store → Prop) : Prop :=
  boxN 49 2 x0 S fun v1 S => shift v1 0 S fun v2 S => ld1 v2 S fun v3 S => bin .add 0 v3 (.v (Go.Value.int Go.IntKind.i64 1)) S fun v4 S => shift v1 1 S fun v5 S => ld1 v5 S fun v6 S => lenS v6 S fun v7 S => bin .add 0 v4 v7 S fun v8 S => Q (.ret v8) S
theorem m51_eq : (fun (x0 : AV) (S : Store) (Q : AEnd → Store → Prop) => vc Try.prog c51 ms51 (ofArgs 10 [x0]) S (bodyK Try.prog r51 Q)) = (fun (x0 : AV) (S : Store) (Q : AEnd → Store → Prop) => m51 x0 S Q) := by kernel_rfl
theorem calls51 {x0 : AV} {S : Store} {Q : AEnd → Store → Prop} (h : m51 x0 S Q) : ACalls Try.prog 51 [x0] S Q :=
  calls_of_vc (fn := Try.f51) (c := c51) (n := 10) Try.func51 (by kernel_rfl) (by kernel_rfl) (by kernel_rfl) ms51 ((congrFun (congrFun (congrFun m51_eq x0) S) Q).mpr h)
/-! ### 64 parterre/graph.may -/
noncomputable def c64 : Code := (Try.f64.body).getD .skip
noncomputable def r64 : List ResultVar := Try.f64.results.toList
def ms64 : List (List Nat) := [[]]
def m64 (x0 x1 : AV) (S : Store) (Q : AEnd → Store → Prop) : Prop :=
  boxN 80 2 x0 S fun v1 S => ixA 2 1 v1 (.v (Go.Value.int Go.IntKind.i64 1)) S fun v2 S => ld1 v2 S fun v3 S => bin .geq 0 v3 (.v (Go.Value.int Go.IntKind.i64 2)) S fun v4 S => onB v4 fun b5 => gd b5 (ixA 2 1 v1 (.v (Go.Value.int Go.IntKind.i64 0)) S fun v6 S => ld1 v6 S fun v7 S => bin .quo 0 v7 (.v (Go.Value.int Go.IntKind.i64 2)) S fun v8 S => ixA 2 1 v1 (.v (Go.Value.int Go.IntKind.i64 1)) S fun v9 S => ld1 v9 S fun v10 S => bin .quo 0 v10 (.v (Go.Value.int Go.IntKind.i64 2)) S fun v11 S => bin .gtr 0 v8 v11 S fun v12 S => onB v12 fun b13 => gd b13 (ixA 2 1 v1 (.v (Go.Value.int Go.IntKind.i64 0)) S fun v14 S => ld1 v14 S fun v15 S => bin .quo 0 v15 (.v (Go.Value.int Go.IntKind.i64 2)) S fun v16 S => bin .lss 0 v16 x1 S fun v17 S => Q (.ret v17) S) (Q (.ret (.v (Go.Value.bool false))) S)) (Q (.ret (.v (Go.Value.bool false))) S)
theorem m64_eq : (fun (x0 x1 : AV) (S : Store) (Q : AEnd → Store → Prop) => vc Try.prog c64 ms64 (ofArgs 24 [x0, x1]) S (bodyK Try.prog r64 Q)) = (fun (x0 x1 : AV) (S : Store) (Q : AEnd → Store → Prop) => m64 x0 x1 S Q) := by kernel_rfl
theorem calls64 {x0 x1 : AV} {S : Store} {Q : AEnd → Store → Prop} (h : m64 x0 x1 S Q) : ACalls Try.prog 64 [x0, x1] S Q :=
  calls_of_vc (fn := Try.f64) (c := c64) (n := 24) Try.func64 (by kernel_rfl) (by kernel_rfl) (by kernel_rfl) ms64 ((congrFun (congrFun (congrFun (congrFun m64_eq x0) x1) S) Q).mpr h)
/-! ### 36 parterre/graph.Lit -/
noncomputable def c36 : Code := (Try.f36.body).getD .skip
noncomputable def r36 : List ResultVar := Try.f36.results.toList
def ms36 : List (List Nat) := [[]]
def m36 (x0 x1 : AV) (S : Store) (Q : AEnd → Store → Prop) : Prop :=
  boxN 49 2 x0 S fun v1 S => shift v1 0 S fun v2 S => ld1 v2 S fun v3 S => bin .geq 0 v3 (.v (Go.Value.int Go.IntKind.i64 0)) S fun v4 S => onB v4 fun b5 => gd b5 (shift v1 0 S fun v6 S => ld1 v6 S fun v7 S => bin .leq 0 v7 (.v (Go.Value.int Go.IntKind.i64 2000)) S fun v8 S => onB v8 fun b9 => gd b9 (bin .geq 0 x1 (.v (Go.Value.int Go.IntKind.i64 0)) S fun v10 S => onB v10 fun b11 => gd b11 (bin .quo 0 x1 (.v (Go.Value.int Go.IntKind.i64 2)) S fun v12 S => ldN 2 v1 S fun v13 S => callF Try.prog 51 [v13] S Q fun v14 S => bin .lss 0 v12 v14 S fun v15 S => Q (.ret v15) S) (Q (.ret (.v (Go.Value.bool false))) S)) (Q (.ret (.v (Go.Value.bool false))) S)) (Q (.ret (.v (Go.Value.bool false))) S)
theorem m36_eq : (fun (x0 x1 : AV) (S : Store) (Q : AEnd → Store → Prop) => vc Try.prog c36 ms36 (ofArgs 24 [x0, x1]) S (bodyK Try.prog r36 Q)) = (fun (x0 x1 : AV) (S : Store) (Q : AEnd → Store → Prop) => m36 x0 x1 S Q) := by kernel_rfl
theorem calls36 {x0 x1 : AV} {S : Store} {Q : AEnd → Store → Prop} (h : m36 x0 x1 S Q) : ACalls Try.prog 36 [x0, x1] S Q :=
  calls_of_vc (fn := Try.f36) (c := c36) (n := 24) Try.func36 (by kernel_rfl) (by kernel_rfl) (by kernel_rfl) ms36 ((congrFun (congrFun (congrFun (congrFun m36_eq x0) x1) S) Q).mpr h)
end Go.Proofs.Ytolgpokppnajdaa.G
set_option linter.unusedVariables false
set_option maxRecDepth 100000
namespace Go.Proofs.Ytolgpokppnajdaa.G
open Go Go.Ab
/-! ### 73 (*sync.Mutex).Unlock -/
noncomputable def c73 : Code := (Try.f73.body).getD .skip
noncomputable def r73 : List ResultVar := Try.f73.results.toList
def ms73 : List (List Nat) := [[76]]
def m73 (x0 : AV) (S : Store) (Q : AEnd → Store → Prop) : Prop :=
  nilChk x0 S fun v1 S => shift v1 0 S fun v2 S => callF Try.prog 76 [v2] S Q fun v3 S => Q (.ret (.t [])) S
theorem m73_eq : (fun (x0 : AV) (S : Store) (Q : AEnd → Store → Prop) => vc Try.prog c73 ms73 (ofArgs 6 [x0]) S (bodyK Try.prog r73 Q)) = (fun (x0 : AV) (S : Store) (Q : AEnd → Store → Prop) => m73 x0 S Q) := by kernel_rfl
theorem calls73 {x0 : AV} {S : Store} {Q : AEnd → Store → Prop} (h : m73 x0 S Q) : ACalls Try.prog 73 [x0] S Q :=
  calls_of_vc (fn := Try.f73) (c := c73) (n := 6) Try.func73 (by kernel_rfl) (by kernel_rfl) (by kernel_rfl) ms73 ((congrFun (congrFun (congrFun m73_eq x0) S) Q).mpr h)
/-! ### 74 (*sync/atomic.Bool).Store -/
noncomputable def c74 : Code := (Try.f74.body).getD .skip
noncomputable def r74 : List ResultVar := Try.f74.results.toList
def ms74 : List (List Nat) := [[77]]
def m74 (x0 x1 : AV) (S : Store) (Q : AEnd → Store → Prop) : Prop :=
  ∃ q1 : AV, (∀ T : Store, Keep S T → nilChk x0 T fun v2 S => v2 = q1 ∧ S = T) ∧ ∃ q3 : AV, (∀ T : Store, Keep S T → shift q1 0 T fun v4 S => v4 = q3 ∧ S = T) ∧ ∃ q5 : AV, (∀ T : Store, Keep S T → callF Try.prog 78 [x1] T (fun _ _ => False) fun v6 S => v6 = q5 ∧ S = T) ∧ callF Try.prog 77 [q3, q5] S (fun _ _ => False) fun v7 S => Q (.ret (.t [])) S
theorem m74_eq : (fun (x0 x1 : AV) (S : Store) (Q : AEnd → Store → Prop) => vc Try.prog c74 ms74 (ofArgs 10 [x0, x1]) S (bodyK Try.prog r74 Q)) = (fun (x0 x1 : AV) (S : Store) (Q : AEnd → Store → Prop) => m74 x0 x1 S Q) := by kernel_rfl
theorem calls74 {x0 x1 : AV} {S : Store} {Q : AEnd → Store → Prop} (h : m74 x0 x1 S Q) : ACalls Try.prog 74 [x0, x1] S Q :=
  calls_of_vc (fn := Try.f74) (c := c74) (n := 10) Try.func74 (by kernel_rfl) (by kernel_rfl) (by kernel_rfl) ms74 ((congrFun (congrFun (congrFun (congrFun m74_eq x0) x1) S) Q).mpr h)
end Go.Proofs.Ytolgpokppnajdaa.G
set_option linter.unusedVariables false
set_option maxRecDepth 100000
namespace Go.Proofs.Ytolgpokppnajdaa.G
open Go Go.Ab
/-! ### 69 (*sync/atomic.Bool).Load -/
noncomputable def c69 : Code := (Try.f69.body).getD .skip
noncomputable def r69 : List ResultVar := Try.f69.results.toList
def ms69 : List (List Nat) := [[]]
def m69 (x0 : AV) (S : Store) (Q : AEnd → Store → Prop) : Prop :=
  nilChk x0 S fun v1 S => shift v1 0 S fun v2 S => callF Try.prog 71 [v2] S Q fun v3 S => bin .neq 0 v3 (.v (Go.Value.int Go.IntKind.u32 0)) S fun v4 S => Q (.ret v4) S
theorem m69_eq : (fun (x0 : AV) (S : Store) (Q : AEnd → Store → Prop) => vc Try.prog c69 ms69 (ofArgs 8 [x0]) S (bodyK Try.prog r69 Q)) = (fun (x0 : AV) (S : Store) (Q : AEnd → Store → Prop) => m69 x0 S Q) := by kernel_rfl
theorem calls69 {x0 : AV} {S : Store} {Q : AEnd → Store → Prop} (h : m69 x0 S Q) : ACalls Try.prog 69 [x0] S Q :=
  calls_of_vc (fn := Try.f69) (c := c69) (n := 8) Try.func69 (by kernel_rfl) (by kernel_rfl) (by kernel_rfl) ms69 ((congrFun (congrFun (congrFun m69_eq x0) S) Q).mpr h)
/-! ### 72 (*sync.Mutex).Lock -/
noncomputable def c72 : Code := (Try.f72.body).getD .skip
noncomputable def r72 : List ResultVar := Try.f72.results.toList
def ms72 : List (List Nat) := [[75]]
def m72 (x0 : AV) (S : Store) (Q : AEnd → Store → Prop) : Prop :=
  nilChk x0 S fun v1 S => shift v1 0 S fun v2 S => callF Try.prog 75 [v2] S Q fun v3 S => Q (.ret (.t [])) S
theorem m72_eq : (fun (x0 : AV) (S : Store) (Q : AEnd → Store → Prop) => vc Try.prog c72 ms72 (ofArgs 6 [x0]) S (bodyK Try.prog r72 Q)) = (fun (x0 : AV) (S : Store) (Q : AEnd → Store → Prop) => m72 x0 S Q) := by kernel_rfl
theorem calls72 {x0 : AV} {S : Store} {Q : AEnd → Store → Prop} (h : m72 x0 S Q) : ACalls Try.prog 72 [x0] S Q :=
  calls_of_vc (fn := Try.f72) (c := c72) (n := 6) Try.func72 (by kernel_rfl) (by kernel_rfl) (by kernel_rfl) ms72 ((congrFun (congrFun (congrFun m72_eq x0) S) Q).mpr h)
/-! ### 75 (*internal/sync.Mutex).Lock -/
noncomputable def c75 : Code := (Try.f75.body).getD .skip
noncomputable def r75 : List ResultVar := Try.f75.results.toList
def ms75 : List (List Nat) := [[80]]
def m75 (x0 : AV) (S : Store) (Q : AEnd → Store → Prop) : Prop :=
  callF Try.prog 79 [] S Q fun v1 S => nilChk x0 S fun v2 S => shift v2 0 S fun v3 S => callF Try.prog 80 [v3, (.v (Go.Value.int Go.IntKind.i32 0)), (.v (Go.Value.int Go.IntKind.i32 1))] S Q fun v4 S => onB v4 fun b5 => gd b5 (callF Try.prog 81 [] S Q fun v6 S => convU x0 S fun v7 S => callF Try.prog 82 [v7] S Q fun v8 S => Q (.ret (.t [])) S) (callF Try.prog 83 [x0] S Q fun v9 S => Q (.ret (.t [])) S)
theorem m75_eq : (fun (x0 : AV) (S : Store) (Q : AEnd → Store → Prop) => vc Try.prog c75 ms75 (ofArgs 13 [x0]) S (bodyK Try.prog r75 Q)) = (fun (x0 : AV) (S : Store) (Q : AEnd → Store → Prop) => m75 x0 S Q) := by kernel_rfl
theorem calls75 {x0 : AV} {S : Store} {Q : AEnd → Store → Prop} (h : m75 x0 S Q) : ACalls Try.prog 75 [x0] S Q :=
  calls_of_vc (fn := Try.f75) (c := c75) (n := 13) Try.func75 (by kernel_rfl) (by kernel_rfl) (by kernel_rfl) ms75 ((congrFun (congrFun (congrFun m75_eq x0) S) Q).mpr h)
/-! ### 76 (*internal/sync.Mutex).Unlock -/
noncomputable def c76 : Code := (Try.f76.body).getD .skip
noncomputable def r76 : List ResultVar := Try.f76.results.toList
def ms76 : List (List Nat) := [[85]]
def m76 (x0 : AV) (S : Store) (Q : AEnd → Store → Prop) : Prop :=
  nilChk x0 S fun v1 S => shift v1 0 S fun v2 S => ld1 v2 S fun v3 S => convU x0 S fun v4 S => callF Try.prog 84 [v4] S Q fun v5 S => callF Try.prog 79 [] S Q fun v6 S => nilChk x0 S fun v7 S => shift v7 0 S fun v8 S => callF Try.prog 85 [v8, (.v (Go.Value.int Go.IntKind.i32 (-1)))] S Q fun v9 S => bin .neq 0 v9 (.v (Go.Value.int Go.IntKind.i32 0)) S fun v10 S => onB v10 fun b11 => gd b11 (callF Try.prog 86 [x0, v9] S Q fun v12 S => callF Try.prog 81 [] S Q fun v13 S => Q (.ret (.t [])) S) (callF Try.prog 81 [] S Q fun v14 S => Q (.ret (.t [])) S)
theorem m76_eq : (fun (x0 : AV) (S : Store) (Q : AEnd → Store → Prop) => vc Try.prog c76 ms76 (ofArgs 21 [x0]) S (bodyK Try.prog r76 Q)) = (fun (x0 : AV) (S : Store) (Q : AEnd → Store → Prop) => m76 x0 S Q) := by kernel_rfl
theorem calls76 {x0 : AV} {S : Store} {Q : AEnd → Store → Prop} (h : m76 x0 S Q) : ACalls Try.prog 76 [x0] S Q :=
  calls_of_vc (fn := Try.f76) (c := c76) (n := 21) Try.func76 (by kernel_rfl) (by kernel_rfl) (by kernel_rfl) ms76 ((congrFun (congrFun (congrFun m76_eq x0) S) Q).mpr h)
/-! ### 78 sync/atomic.b32 -/
noncomputable def c78 : Code := (Try.f78.body).getD .skip
noncomputable def r78 : List ResultVar := Try.f78.results.toList
def ms78 : List (List Nat) := [[]]
def m78 (x0 : AV) (S : Store) (Q : AEnd → Store → Prop) : Prop :=
  onB x0 fun b1 => gd b1 (Q (.ret (.v (Go.Value.int Go.IntKind.u32 1))) S) (Q (.ret (.v (Go.Value.int Go.IntKind.u32 0))) S)
theorem m78_eq : (fun (x0 : AV) (S : Store) (Q : AEnd → Store → Prop) => vc Try.prog c78 ms78 (ofArgs 4 [x0]) S (bodyK Try.prog r78 Q)) = (fun (x0 : AV) (S : Store) (Q : AEnd → Store → Prop) => m78 x0 S Q) := by kernel_rfl
theorem calls78 {x0 : AV} {S : Store} {Q : AEnd → Store → Prop} (h : m78 x0 S Q) : ACalls Try.prog 78 [x0] S Q :=
  calls_of_vc (fn := Try.f78) (c := c78) (n := 4) Try.func78 (by kernel_rfl) (by kernel_rfl) (by kernel_rfl) ms78 ((congrFun (congrFun (congrFun m78_eq x0) S) Q).mpr h)
/-! ### 67 (*sync.Once).Do -/
noncomputable def c67 : Code := (Try.f67.body).getD .skip
noncomputable def r67 : List ResultVar := Try.f67.results.toList
def ms67 : List (List Nat) := [[70]]
def m67 (x0 x1 : AV) (S : Store) (Q : AEnd → Store → Prop) : Prop :=
  nilChk x0 S fun v1 S => shift v1 0 S fun v2 S => callF Try.prog 69 [v2] S Q fun v3 S => un .not v3 S fun v4 S => onB v4 fun b5 => gd b5 (callF Try.prog 70 [x0, x1] S Q fun v6 S => Q (.ret (.t [])) S) (Q (.ret (.t [])) S)
theorem m67_eq : (fun (x0 x1 : AV) (S : Store) (Q : AEnd → Store → Prop) => vc Try.prog c67 ms67 (ofArgs 12 [x0, x1]) S (bodyK Try.prog r67 Q)) = (fun (x0 x1 : AV) (S : Store) (Q : AEnd → Store → Prop) => m67 x0 x1 S Q) := by kernel_rfl
theorem calls67 {x0 x1 : AV} {S : Store} {Q : AEnd → Store → Prop} (h : m67 x0 x1 S Q) : ACalls Try.prog 67 [x0, x1] S Q :=
  calls_of_vc (fn := Try.f67) (c := c67) (n := 12) Try.func67 (by kernel_rfl) (by kernel_rfl) (by kernel_rfl) ms67 ((congrFun (congrFun (congrFun (congrFun m67_eq x0) x1) S) Q).mpr h)
end Go.Proofs.Ytolgpokppnajdaa.G
set_option linter.unusedVariables false
set_option linter.unusedSimpArgs false
namespace Go.Proofs.Ytolgpokppnajdaa.G
open Go Go.Ab

/-! ### sync.Once -/
noncomputable def c70 : Code := (Try.f70.body).getD .skip
noncomputable def r70 : List ResultVar := Try.f70.results.toList
def m70 (x0 x1 : AV) (S : Store) (Q : AEnd → Store → Prop) : Prop :=
  nilChk x0 S fun v1 S => shift v1 1 S fun v2 S => callF Try.prog 72 [v2] S (fun _ _ => False) fun v3 S => nilChk x0 S fun v4 S => shift v4 1 S fun v5 S => nilChk x0 S fun v6 S => shift v6 0 S fun v7 S => callF Try.prog 69 [v7] S (fun _ _ => False) fun v8 S => un .not v8 S fun v9 S => onB v9 fun b10 =>
    gd b10 (nilChk x0 S fun v11 S => shift v11 0 S fun v12 S => callV Try.prog x1 [] S (fun v13 S => ADCalls Try.prog 74 [v12, .v (.bool true)] S fun e S => match e with
        | .ret _ => ADCalls Try.prog 73 [v5] S fun e S => match e with | .ret _ => Q (.ret (.t [])) S | .pan _ => False
        | .pan _ => False) (fun _ _ => False))
      (ADCalls Try.prog 73 [v5] S fun e S => match e with | .ret _ => Q (.ret (.t [])) S | .pan _ => False)
set_option maxRecDepth 100000 in
theorem m70_eq : (fun (x0 x1 : AV) (S : Store) (Q : AEnd → Store → Prop) => vcT Try.prog c70 [] (ofArgs 21 [x0, x1]) S [] (bodyT Try.prog r70 Q)) = (fun (x0 x1 : AV) (S : Store) (Q : AEnd → Store → Prop) => m70 x0 x1 S Q) := by kernel_rfl
theorem calls70 {x0 x1 : AV} {S : Store} {Q : AEnd → Store → Prop} (h : m70 x0 x1 S Q) : ACalls Try.prog 70 [x0, x1] S Q :=
  calls_of_vcT (fn := Try.f70) (c := c70) (n := 21) Try.func70 (by kernel_rfl) (by kernel_rfl) (by kernel_rfl) [] ((congrFun (congrFun (congrFun (congrFun m70_eq x0) x1) S) Q).mpr h)
theorem dcalls73 {x0 : AV} {S : Store} {Q : AEnd → Store → Prop} (h : m73 x0 S Q) : ADCalls Try.prog 73 [x0] S Q :=
  dcalls_of_vc (fn := Try.f73) (c := c73) (n := 6) Try.func73 (by kernel_rfl) (by kernel_rfl) (by kernel_rfl) ms73 ((congrFun (congrFun (congrFun m73_eq x0) S) Q).mpr h)
theorem dcalls74 {x0 x1 : AV} {S : Store} {Q : AEnd → Store → Prop} (h : m74 x0 x1 S Q) : ADCalls Try.prog 74 [x0, x1] S Q :=
  dcalls_of_vc (fn := Try.f74) (c := c74) (n := 10) Try.func74 (by kernel_rfl) (by kernel_rfl) (by kernel_rfl) ms74 ((congrFun (congrFun (congrFun (congrFun m74_eq x0) x1) S) Q).mpr h)

theorem nt79 : NoText Try.prog 79 Try.f79 := ⟨Try.func79, by kernel_rfl, by kernel_rfl, by kernel_rfl⟩
theorem nt81 : NoText Try.prog 81 Try.f81 := ⟨Try.func81, by kernel_rfl, by kernel_rfl, by kernel_rfl⟩
theorem nt82 : NoText Try.prog 82 Try.f82 := ⟨Try.func82, by kernel_rfl, by kernel_rfl, by kernel_rfl⟩
theorem nt84 : NoText Try.prog 84 Try.f84 := ⟨Try.func84, by kernel_rfl, by kernel_rfl, by kernel_rfl⟩
theorem nt71 : NoText Try.prog 71 Try.f71 := ⟨Try.func71, by kernel_rfl, by kernel_rfl, by kernel_rfl⟩
theorem nt77 : NoText Try.prog 77 Try.f77 := ⟨Try.func77, by kernel_rfl, by kernel_rfl, by kernel_rfl⟩
theorem nt80 : NoText Try.prog 80 Try.f80 := ⟨Try.func80, by kernel_rfl, by kernel_rfl, by kernel_rfl⟩
theorem nt85 : NoText Try.prog 85 Try.f85 := ⟨Try.func85, by kernel_rfl, by kernel_rfl, by kernel_rfl⟩
abbrev aW32 (n : Int) : AV := .v (.int .u32 n)
abbrev aS32 (n : Int) : AV := .v (.int .i32 n)
section
variable {S : Store} {Q : AEnd → Store → Prop}
theorem mark79 {Q : AEnd → Store → Prop} {K : AV → Store → Prop} (k : K (.t []) S) : callF Try.prog 79 [] S Q K := .inr (ext_mark0 nt79 .disable (by kernel_rfl) k)
theorem mark81 {K : AV → Store → Prop} (k : K (.t []) S) : callF Try.prog 81 [] S Q K := .inr (ext_mark0 nt81 .enable (by kernel_rfl) k)
theorem mark82 {K : AV → Store → Prop} {id i j : Nat} (k : K (.t []) S) : callF Try.prog 82 [.p id i j] S Q K := .inr (ext_mark1 nt82 .acquire (by kernel_rfl) k)
theorem mark84 {K : AV → Store → Prop} {id i j : Nat} (k : K (.t []) S) : callF Try.prog 84 [.p id i j] S Q K := .inr (ext_mark1 nt84 .releaseMerge (by kernel_rfl) k)
end
end Go.Proofs.Ytolgpokppnajdaa.G
set_option linter.unusedVariables false
set_option linter.unusedSimpArgs false
namespace Go.Proofs.Ytolgpokppnajdaa.G
open Go Go.Ab

@[simp] theorem nilChk_p (id i j : Nat) (S : Store) (K : AV → Store → Prop) : nilChk (.p id i j) S K = K (.p id i j) S := rfl
theorem upd_upd (S : Store) (id : Nat) (o o' : AObj) : (S.upd id o).upd id o' = S.upd id o' := by
  unfold Store.upd
  congr 1
  funext i
  by_cases h : i = id <;> simp [h]
theorem upd_same {S : Store} {id : Nat} {o : AObj} (h : S.obj id = some o) : S.upd id o = S := by
  cases S with
  | mk n obj =>
    unfold Store.upd
    congr 1
    funext i
    by_cases e : i = id
    · subst e; simp only [if_pos rfl]; exact h.symm
    · simp [e]
/-- What a struct with a Once ahead is. -/
def onceO (t : TypeId) (done st : Int) (z : AV) (c : List AV) : AObj := .cells t [aW32 done :: aS32 st :: z :: c] true

section
variable {S : Store} {Q : AEnd → Store → Prop} {id t : Nat} {done st : Int} {z : AV} {c : List AV}
theorem load_once (h : S.obj id = some (onceO t done st z c)) (k : Q (.ret (aB (!decide (done = 0)))) S) : ACalls Try.prog 69 [.p id 0 0] S Q := by
  refine calls69 ?_
  unfold m69
  rw [nilChk_p, shift_p]
  refine .inr (ext_load nt71 .u32 (by kernel_rfl) h rfl rfl ?_)
  show bin .neq 0 (aW32 done) (aW32 0) S _
  rw [bin_neq]
  exact k
theorem lock_once (h : S.obj id = some (onceO t done 0 z c)) (k : Q (.ret (.t [])) (S.upd id (onceO t done 1 z c))) : ACalls Try.prog 72 [.p id 0 1] S Q := by
  refine calls72 ?_
  unfold m72
  rw [nilChk_p, shift_p]
  refine .inl (calls75 ?_)
  unfold m75
  refine mark79 ?_
  rw [nilChk_p, shift_p]
  refine .inr (ext_cas nt80 .i32 (by kernel_rfl) h rfl rfl ?_)
  show onB _ _
  rw [onB_v, gd_true]
  refine mark81 ⟨aS32 1, ?_, mark82 k⟩
  simp [rd1, place, Store.get]
theorem unlock_once (h : S.obj id = some (onceO t done 1 z c)) (k : Q (.ret (.t [])) (S.upd id (onceO t done 0 z c))) : ADCalls Try.prog 73 [.p id 0 1] S Q := by
  refine dcalls73 ?_
  unfold m73
  rw [nilChk_p, shift_p]
  refine .inl (calls76 ?_)
  unfold m76
  rw [nilChk_p, shift_p, ld1_p h rfl rfl]
  refine ⟨aS32 1, by simp [rd1, place, Store.get, h, onceO], mark84 (mark79 ?_)⟩
  rw [nilChk_p, shift_p]
  refine .inr (ext_add nt85 .i32 (by kernel_rfl) h rfl rfl ?_)
  show bin .neq 0 (aS32 (IntKind.i32.wrap (1 + -1))) (aS32 0) _ _
  have : IntKind.i32.wrap (1 + -1) = 0 := by decide
  rw [this, bin_neq, onB_v]
  simp only [decide_true, Bool.not_true, gd_false]
  exact mark81 k
theorem store_once (h : S.obj id = some (onceO t done st z c)) (k : Q (.ret (.t [])) (S.upd id (onceO t 1 st z c))) : ADCalls Try.prog 74 [.p id 0 0, aB true] S Q := by
  refine dcalls74 ?_
  unfold m74
  have hb : ∀ T, ACalls Try.prog 78 [aB true] T (fun e S' => e = .ret (aW32 1) ∧ S' = T) := fun T => by
    refine calls78 ?_
    unfold m78
    rw [onB_v, gd_true]
    exact ⟨rfl, rfl⟩
  refine ⟨.p id 0 0, fun T _ => ⟨rfl, rfl⟩, .p id 0 0, fun T _ => ⟨rfl, rfl⟩, aW32 1, fun T _ => callF_at (hb T) ⟨rfl, rfl⟩, ?_⟩
  exact .inr (ext_store nt77 (by kernel_rfl) h rfl rfl k)
theorem do_done (h : S.obj id = some (onceO t 1 st z c)) {f : AV} (k : Q (.ret (.t [])) S) : ACalls Try.prog 67 [.p id 0 0, f] S Q := by
  refine calls67 ?_
  unfold m67
  rw [nilChk_p, shift_p]
  refine .inl (load_once h ?_)
  show un .not (aB (!decide ((1 : Int) = 0))) S _
  rw [un_not, onB_v]
  exact k
theorem do_once (h : S.obj id = some (onceO t 0 0 z c)) {f : AV} (hf : callV Try.prog f [] (S.upd id (onceO t 0 1 z c)) (fun _ S2 => ∃ c', S2.obj id = some (onceO t 0 1 z c') ∧ Q (.ret (.t [])) (S2.upd id (onceO t 1 0 z c'))) (fun _ _ => False)) : ACalls Try.prog 67 [.p id 0 0, f] S Q := by
  refine calls67 ?_
  unfold m67
  rw [nilChk_p, shift_p]
  refine .inl (load_once h ?_)
  show un .not (aB (!decide ((0 : Int) = 0))) S _
  rw [un_not, onB_v]
  refine .inl (calls70 ?_)
  unfold m70
  rw [nilChk_p, shift_p]
  refine .inl (lock_once h ?_)
  show nilChk _ _ _
  rw [nilChk_p, shift_p, nilChk_p, shift_p]
  refine .inl (load_once (upd_self _ _) ?_)
  show un .not (aB (!decide ((0 : Int) = 0))) _ _
  rw [un_not, onB_v]
  show gd true _ _
  rw [gd_true, nilChk_p, shift_p]
  refine callV_mono hf (fun v S2 h2 => ?_) (fun _ _ h => h)
  obtain ⟨c', h3, h4⟩ := h2
  refine store_once h3 (unlock_once (upd_self _ _) ?_)
  show Q (.ret (.t [])) _
  rw [upd_upd]
  exact h4
end
end Go.Proofs.Ytolgpokppnajdaa.G
set_option linter.unusedVariables false
set_option linter.unusedSimpArgs false
namespace Go.Proofs.Ytolgpokppnajdaa.G
open Go Go.Ab

/-! Graphs -/
def pL (l : List (Int × Int)) : AV := .l (l.map fun p => [aI p.1, aI p.2])
structure Gr where
  inputs : Int
  ands : List (Int × Int)
  deriving DecidableEq
def Gr.cells (g : Gr) : List AV := [aI g.inputs, pL g.ands]
def Gr.av (g : Gr) : AV := .a g.cells
def Gr.vars (g : Gr) : Int := g.inputs + 1 + g.ands.length
def i64R (a : Int) : Prop := -9223372036854775808 ≤ a ∧ a ≤ 9223372036854775807
structure Gr.ok (g : Gr) : Prop where
  inp : i64R g.inputs
  len : g.ands.length ≤ 1000000
  pairs : ∀ p ∈ g.ands, i64R p.1 ∧ i64R p.2
def may (p : Int × Int) (v : Int) : Bool := decide (2 ≤ p.2) && (decide (p.2.tdiv 2 < p.1.tdiv 2) && decide (p.1.tdiv 2 < v))
def Gr.right (g : Gr) : Bool := decide (0 ≤ g.inputs) && (decide (g.inputs ≤ 2000) && (decide ((g.ands.length : Int) ≤ 2000) && (decide (g.vars ≤ 2000) &&
  ((List.range g.ands.length).all (fun i => may (g.ands.getD i (0, 0)) (g.inputs + 1 + i)) && decide g.ands.Nodup))))
def Gr.lit (g : Gr) (l : Int) : Bool := decide (0 ≤ g.inputs) && (decide (g.inputs ≤ 2000) && (decide (0 ≤ l) && decide (l.tdiv 2 < g.vars)))

@[simp] theorem lenS_pL (l : List (Int × Int)) {S : Store} {K : AV → Store → Prop} : lenS (pL l) S K = K (aI l.length) S := by simp [pL]
theorem ixS_pL {l : List (Int × Int)} {e i : Nat} {S : Store} {K : AV → Store → Prop} (h : i < l.length) : ixS e 2 (pL l) (aI i) S K = K (.q [aI l[i].1, aI l[i].2] 0) S := by
  unfold pL
  rw [ixS_l (by simpa using h) (by simp)]
  simp
@[simp] theorem ldN_q2 {u v : AV} {S : Store} {K : AV → Store → Prop} : ldN 2 (.q [u, v] 0) S K = K (.a [u, v]) S := by simp [ldN, rdN, place]
theorem tdiv2 {a : Int} (h : i64R a) : -9223372036854775808 ≤ a.tdiv 2 ∧ a.tdiv 2 ≤ 9223372036854775807 := by
  obtain ⟨h1, h2⟩ := h
  rcases Int.le_total 0 a with h | h
  · rw [Int.tdiv_eq_ediv_of_nonneg h]; omega
  · have : a.tdiv 2 = -((-a).tdiv 2) := by rw [Int.neg_tdiv, Int.neg_neg]
    rw [this, Int.tdiv_eq_ediv_of_nonneg (by omega)]; omega
theorem bin_half {a : Int} (h : i64R a) {S : Store} {K : AV → Store → Prop} : bin .quo 0 (aI a) (.v (.int .i64 2)) S K = K (aI (a.tdiv 2)) S := bin_quo (by decide) (tdiv2 h).1 (tdiv2 h).2 0
theorem ixA_p {n sz id : Nat} {z : Nat} {S : Store} {K : AV → Store → Prop} (hz : z < n) : ixA n sz (.p id 0 0) (aI z) S K = K (.p id 0 (z * sz)) S := by
  unfold ixA
  simp only [intA, optP_some, Int.toNat_natCast, shift_p, Nat.zero_add]
  exact propext ⟨fun h => h.2, fun h => ⟨⟨by omega, by omega⟩, h⟩⟩

theorem ans51 {g : Gr} (hg : g.ok) (hi : g.inputs ≤ 1000000) (h0 : 0 ≤ g.inputs) : Ans Try.prog 51 [g.av] (aI g.vars) := by
  intro S
  have hl := hg.len
  refine ACalls.ans_v (calls51 ?_)
  unfold m51 Gr.av
  refine boxA_of rfl fun S1 k1 n1 o1 => ?_
  rw [shift_p, ld1_p o1 rfl rfl, bin_add (by omega) (by omega), shift_p, ld1_p o1 rfl rfl, lenS_pL, bin_add (by omega) (by omega)]
  exact ⟨rfl, k1⟩
theorem ans64 {p : Int × Int} {v : Int} (h : i64R p.1 ∧ i64R p.2) : Ans Try.prog 64 [.a [aI p.1, aI p.2], aI v] (aB (may p v)) := by
  intro S
  refine ACalls.ans_v (calls64 ?_)
  unfold m64 may
  refine boxA_of rfl fun S1 k1 n1 o1 => ?_
  have e1 : ∀ K : AV → Store → Prop, ixA 2 1 (.p S.n 0 0) (.v (.int .i64 1)) S1 K = K (.p S.n 0 1) S1 := fun K => ixA_p (z := 1) (by decide)
  have e0 : ∀ K : AV → Store → Prop, ixA 2 1 (.p S.n 0 0) (.v (.int .i64 0)) S1 K = K (.p S.n 0 0) S1 := fun K => ixA_p (z := 0) (by decide)
  rw [e1, ld1_p o1 rfl rfl, bin_geq, onB_v]
  refine gd_of (fun h1 => ?_) (fun h1 => ⟨by simp only [h1, Bool.false_and], k1⟩)
  rw [e0, ld1_p o1 rfl rfl, bin_half h.1, e1, ld1_p o1 rfl rfl, bin_half h.2, bin_gtr, onB_v]
  refine gd_of (fun h2 => ?_) (fun h2 => ⟨by simp only [h1, h2, Bool.false_and, Bool.true_and], k1⟩)
  rw [e0, ld1_p o1 rfl rfl, bin_half h.1, bin_lss]
  exact ⟨by simp only [h1, h2, Bool.true_and], k1⟩
theorem ans36 {g : Gr} {l : Int} (hg : g.ok) (hl : i64R l) : Ans Try.prog 36 [g.av, aI l] (aB (g.lit l)) := by
  intro S
  refine ACalls.ans_v (calls36 ?_)
  unfold m36 Gr.av Gr.lit
  refine boxA_of rfl fun S1 k1 n1 o1 => ?_
  rw [shift_p, ld1_p o1 rfl rfl, bin_geq, onB_v]
  refine gd_of (fun h1 => ?_) (fun h1 => ⟨by simp only [h1, Bool.false_and], k1⟩)
  rw [shift_p, ld1_p o1 rfl rfl, bin_leq, onB_v]
  refine gd_of (fun h2 => ?_) (fun h2 => ⟨by simp only [h1, h2, Bool.false_and, Bool.true_and], k1⟩)
  rw [bin_geq, onB_v]
  refine gd_of (fun h3 => ?_) (fun h3 => ⟨by simp only [h1, h2, h3, Bool.false_and, Bool.true_and], k1⟩)
  rw [bin_half hl, ldN_p (n := 2) o1 rfl]
  refine callF_ans (ans51 hg (by have := of_decide_eq_true h2; omega) (of_decide_eq_true h1)) ?_
  rw [bin_lss]
  exact ⟨by simp only [h1, h2, h3, Bool.true_and], k1⟩

/-- The gates that are unlike, with their places. -/
def gat (l : List (Int × Int)) : Nat → List (Key × AV)
  | 0 => []
  | i + 1 => match kix (gat l i) (.p (l.getD i (0, 0)).1 (l.getD i (0, 0)).2) with
    | some _ => gat l i
    | none => gat l i ++ [(.p (l.getD i (0, 0)).1 (l.getD i (0, 0)).2, aI i)]
theorem kix_none {es : List (Key × AV)} {k : Key} : kix es k = none ↔ k ∉ es.map (·.1) := by
  unfold kix
  rw [List.findIdx?_eq_none_iff]
  simp only [List.mem_map, not_exists, not_and]
  constructor
  · intro h x hx e
    have := h x hx
    simp [e] at this
  · intro h x hx
    simpa using h x hx
theorem gat_keys {l : List (Int × Int)} : ∀ {i : Nat}, i ≤ l.length → ∀ k, k ∈ (gat l i).map (·.1) ↔ ∃ p ∈ l.take i, k = .p p.1 p.2
  | 0, _, k => by simp [gat]
  | i + 1, h, k => by
    have ih := gat_keys (l := l) (i := i) (by omega)
    have hi : i < l.length := by omega
    have hg : l.getD i (0, 0) = l[i] := by simp [List.getD_eq_getElem?_getD, hi]
    rw [List.take_add_one, List.getElem?_eq_getElem hi]
    unfold gat
    rw [hg]
    split
    · rename_i j hj
      rw [ih]
      have hm : Key.p l[i].1 l[i].2 ∈ (gat l i).map (·.1) := by
        by_cases c : Key.p l[i].1 l[i].2 ∈ (gat l i).map (·.1)
        · exact c
        · rw [kix_none.2 c] at hj; cases hj
      constructor
      · rintro ⟨p, hp, e⟩
        exact ⟨p, List.mem_append_left _ hp, e⟩
      · rintro ⟨p, hp, e⟩
        rcases List.mem_append.1 hp with hp | hp
        · exact ⟨p, hp, e⟩
        · have : p = l[i] := by simpa using hp
          subst this
          rw [e]; exact (ih _).1 hm
    · rw [List.map_append, List.mem_append, ih]
      constructor
      · rintro (⟨p, hp, e⟩ | hk)
        · exact ⟨p, List.mem_append_left _ hp, e⟩
        · exact ⟨l[i], List.mem_append_right _ (by simp), by simpa using hk⟩
      · rintro ⟨p, hp, e⟩
        rcases List.mem_append.1 hp with hp | hp
        · exact .inl ⟨p, hp, e⟩
        · have : p = l[i] := by simpa using hp
          subst this
          exact .inr (by simp [e])
theorem gat_le (l : List (Int × Int)) : ∀ i : Nat, (gat l i).length ≤ i
  | 0 => Nat.le_refl _
  | i + 1 => by
    have := gat_le l i
    unfold gat
    split
    · omega
    · simp; omega
theorem gat_all {l : List (Int × Int)} : ∀ {i : Nat}, i ≤ l.length → ((gat l i).length = i ↔ (l.take i).Nodup)
  | 0, _ => by simp [gat]
  | i + 1, h => by
    have ih := gat_all (l := l) (i := i) (by omega)
    have hi : i < l.length := by omega
    have hk := gat_keys (l := l) (i := i) (by omega) (.p l[i].1 l[i].2)
    have hle := gat_le l i
    have hg : l.getD i (0, 0) = l[i] := by simp [List.getD_eq_getElem?_getD, hi]
    rw [List.take_add_one, List.getElem?_eq_getElem hi, List.nodup_append]
    unfold gat
    rw [hg]
    split
    · rename_i j hj
      have hm : Key.p l[i].1 l[i].2 ∈ (gat l i).map (·.1) := by
        by_cases c : Key.p l[i].1 l[i].2 ∈ (gat l i).map (·.1)
        · exact c
        · rw [kix_none.2 c] at hj; cases hj
      obtain ⟨p, hp, e⟩ := hk.1 hm
      constructor
      · intro h; omega
      · rintro ⟨_, _, h3⟩
        refine absurd ?_ (h3 p hp l[i] (by simp))
        simp only [Key.p.injEq] at e
        exact Prod.ext e.1.symm e.2.symm
    · rename_i hn
      rw [kix_none, hk] at hn
      rw [List.length_append, List.length_singleton, Nat.add_right_cancel_iff, ih]
      constructor
      · intro h
        refine ⟨h, by simp, fun a ha b hb => ?_⟩
        have : b = l[i] := by simpa using hb
        subst this
        rintro rfl
        exact hn ⟨_, ha, rfl⟩
      · exact fun h => h.1
end Go.Proofs.Ytolgpokppnajdaa.G
set_option linter.unusedVariables false
set_option linter.unusedSimpArgs false
namespace Go.Proofs.Ytolgpokppnajdaa.G
open Go Go.Ab

@[simp] theorem extr0 {x : AV} {l : List AV} {S : Store} {K : AV → Store → Prop} : extr (.t (x :: l)) 0 S K = K x S := by simp [extr]
@[simp] theorem extr1 {x y : AV} {l : List AV} {S : Store} {K : AV → Store → Prop} : extr (.t (x :: y :: l)) 1 S K = K y S := by simp [extr]
@[simp] theorem extr2 {x y z : AV} {l : List AV} {S : Store} {K : AV → Store → Prop} : extr (.t (x :: y :: z :: l)) 2 S K = K z S := by simp [extr]
theorem lkM_m {S : Store} {kk : KK} {z : AV} {c : Bool} {id : Nat} {k : AV} {key : Key} {es : List (Key × AV)} {lv : Bool} {K : AV → Store → Prop} (h : S.obj id = some (.map kk es lv)) (hk : keyA kk k = some key) : lkM kk z c (.m id) k S K = K (lkV z c (lkp es key)) S := by
  simp [lkM, entsA, h, hk]
theorem updM_m {S : Store} {kk : KK} {id : Nat} {k v : AV} {key : Key} {es : List (Key × AV)} {K : AV → Store → Prop} (h : S.obj id = some (.map kk es true)) (hk : keyA kk k = some key) : updM kk (.m id) k v S K = K .j (S.upd id (.map kk (insM es key v) true)) := by
  simp [updM, h, hk]
theorem lenM_m {S : Store} {kk : KK} {id : Nat} {es : List (Key × AV)} {lv : Bool} {K : AV → Store → Prop} (h : S.obj id = some (.map kk es lv)) : lenM (.m id) S K = K (aI es.length) S := by
  simp [lenM, h]
theorem keyP (a b : Int) : keyA (.p .i64) (.a [aI a, aI b]) = some (.p a b) := by simp [keyA]
theorem lkp_isSome (es : List (Key × AV)) (k : Key) : (lkp es k).isSome = (kix es k).isSome := by
  cases h : kix es k with
  | none => simp [lkp, h]
  | some i =>
    obtain ⟨e, h1, h2⟩ := lkp_row (kk := .s) h
    simp [h2]

theorem make_once {S : Store} {id : Nat} {z g0 : AV} {d st : Int} {l : List (Int × Int)} {Q : AEnd → Store → Prop} (hl : l.length ≤ 1000000) (hid : id < S.n) (h : S.obj id = some (onceO 100 d st z [pL l, g0]))
    (k : ∀ S2 m, S.n ≤ S2.n → (∀ x, x < S.n → x ≠ id → S2.obj x = S.obj x) → m ≠ id → S2.obj id = some (onceO 100 d st z [pL l, .m m]) → S2.obj m = some (.map (.p .i64) (gat l l.length) true) → Q (.ret (.t [])) S2) :
    ACalls Try.prog 68 [.p id 0 0] S Q := by
  refine calls68 ?_
  unfold m68 mkM
  have h' := (new_lt (o := .map (.p .i64) [] true) hid).trans h
  show nilChk _ _ _
  rw [nilChk_p, shift_p]
  refine stF_of h' (by simp) rfl fun S1 n1 o1 f1 => ?_
  rw [nilChk_p, shift_p, ld1_p o1 rfl rfl, lenS_pL]
  have hm : S.n ≠ id := by omega
  refine loop68_0 (fun y S' => S.n < S'.n ∧ (∀ x, x < S.n → x ≠ id → S'.obj x = S.obj x) ∧ S'.obj id = some (onceO 100 d st z [pL l, .m S.n]) ∧ ∃ i : Nat, y = aI i ∧ i ≤ l.length ∧ S'.obj S.n = some (.map (.p .i64) (gat l i) true))
    (fun y _ => l.length - ((intA y).getD 0).toNat) ⟨by rw [n1, new_n]; omega, fun x hx hne => by rw [f1 x hne, new_lt hx], o1, 0, rfl, Nat.zero_le _, by rw [f1 _ hm, new_self]; rfl⟩ ?_
  rintro _ S2 ⟨n2, f2, o2, i, rfl, hi, m2⟩ KE hKE
  unfold b68_0
  rw [bin_lss, onB_v]
  refine gd_of (fun hlt => ?_) (fun hge => ?_)
  · have hlt : i < l.length := by simpa using hlt
    have hg : l.getD i (0, 0) = l[i] := by simp [List.getD_eq_getElem?_getD, hlt]
    rw [ixS_pL hlt, ldN_q2]
    refine boxA_of rfl fun S3 k3 n3 o3 => ?_
    refine stA_of o3 rfl rfl fun S4 n4 o4 f4 => ?_
    have p4 : S4.obj id = _ := (f4 id (by omega)).trans ((k3.2 id (by omega)).trans o2)
    have q4 : S4.obj S.n = _ := (f4 S.n (by omega)).trans ((k3.2 S.n n2).trans m2)
    have r4 : ∀ x, x < S.n → x ≠ id → S4.obj x = S.obj x := fun x hx hne => (f4 x (by omega)).trans ((k3.2 x (by omega)).trans (f2 x hx hne))
    show ∃ q15 : AV, _
    refine ⟨_, by rw [nilChk_p]; exact ⟨rfl, rfl⟩, _, by rw [shift_p]; exact ⟨rfl, rfl⟩, _, by rw [ld1_p p4 rfl rfl]; exact ⟨rfl, rfl⟩, _, by rw [ldN_p (n := 2) o4 rfl]; exact ⟨rfl, rfl⟩, _, by rw [lkM_m q4 (keyP _ _)]; exact ⟨rfl, rfl⟩, _, by rw [lkV, extr0]; exact ⟨rfl, rfl⟩, _, by rw [lkV, extr1]; exact ⟨rfl, rfl⟩, ?_⟩
    rw [lkp_isSome, un_not, onB_v]
    have hadd : ∀ K : AV → Store → Prop, ∀ S, bin .add 0 (.v (.int .i64 (i : Int))) (.v (.int .i64 1)) S K = K (aI (i + 1 : Nat)) S := fun K S => bin_add (by omega) (by omega) 0
    have hμ : l.length - ((intA (aI (i + 1 : Nat))).getD 0).toNat < l.length - ((intA (aI i)).getD 0).toNat := by simp [intA]; omega
    refine gd_of (fun hn => ?_) (fun hn => ?_)
    · have hn : kix (gat l i) (.p l[i].1 l[i].2) = none := by simpa using hn
      refine ⟨_, fun T hT => by rw [nilChk_p]; exact ⟨rfl, rfl⟩, _, fun T hT => by rw [shift_p]; exact ⟨rfl, rfl⟩, _, fun T hT => by rw [ld1_p ((hT.2 id (by omega)).trans p4) rfl rfl]; exact ⟨rfl, rfl⟩, _, fun T hT => by rw [ldN_p (n := 2) ((hT.2 _ (by omega)).trans o4) rfl]; exact ⟨rfl, rfl⟩, ?_⟩
      rw [updM_m q4 (keyP _ _), hadd]
      refine hKE _ _ ⟨by simp; omega, fun x hx hne => by rw [upd_ne (by omega)]; exact r4 x hx hne, by rw [upd_ne (by omega)]; exact p4, i + 1, rfl, hlt, ?_⟩ hμ
      rw [upd_self]
      simp only [gat, hg, hn, insM_none hn]
    · obtain ⟨j, hj⟩ : ∃ j, kix (gat l i) (.p l[i].1 l[i].2) = some j := by
        cases e : kix (gat l i) (.p l[i].1 l[i].2) with
        | none => simp [e] at hn
        | some j => exact ⟨j, rfl⟩
      rw [hadd]
      refine hKE _ _ ⟨by omega, r4, p4, i + 1, rfl, hlt, ?_⟩ hμ
      rw [q4]
      simp only [gat, hg, hj]
  · have hge : i = l.length := by simp at hge; omega
    subst hge
    exact k S2 S.n (by omega) f2 hm o2 m2

theorem many_once {S : Store} {id : Nat} {z g0 : AV} {l : List (Int × Int)} {Q : AEnd → Store → Prop} (hl : l.length ≤ 1000000) (hid : id < S.n) (h : S.obj id = some (onceO 100 0 0 z [pL l, g0]))
    (k : ∀ S2, S.n ≤ S2.n → (∀ x, x < S.n → x ≠ id → S2.obj x = S.obj x) → Q (.ret (aI (gat l l.length).length)) S2) :
    ACalls Try.prog 65 [.p id 0 0] S Q := by
  refine calls65 ?_
  unfold m65
  rw [nilChk_p, shift_p]
  refine .inl (do_once h (.inl (make_once hl (by simpa using hid) (upd_self _ _) fun S2 m n2 f2 hm o2 m2 => ⟨_, o2, ?_⟩)))
  show nilChk _ _ _
  rw [nilChk_p, shift_p, ld1_p (show (S2.upd id (onceO 100 1 0 z [pL l, .m m])).obj id = some (.cells 100 [[aW32 1, aS32 0, z, pL l, .m m]] true) from upd_self _ _) rfl rfl]
  rw [lenM_m (by rw [upd_ne hm]; exact m2)]
  refine k _ (by simpa using n2) fun x hx hne => ?_
  rw [upd_ne hne, f2 x (by simpa using hx) hne, upd_ne hne]

theorem bld_of {pl : List (Nat × Nat)} {zc : List AV} {parts : List (Nat × AV)} {S : Store} {K : AV → Store → Prop} {cs : List AV} (h : fillA (fun i => pl[i]?) zc parts = some cs) : bld pl zc parts S K = K (.a cs) S := by
  simp [bld, h]
theorem right_of {g : Gr} (hg : g.ok) {S : Store} {id : Nat} (hid : id < S.n) {z g0 : AV} (h : S.obj id = some (onceO 100 0 0 z [pL g.ands, g0])) {Q : AEnd → Store → Prop}
    (k : ∀ S2, S.n ≤ S2.n → (∀ x, x < S.n → x ≠ id → S2.obj x = S.obj x) → Q (.ret (aB g.right)) S2) : ACalls Try.prog 52 [g.av, .p id 0 0] S Q := by
  have hlen := hg.len
  refine calls52 ?_
  unfold m52 Gr.av
  refine boxA_of rfl fun S1 k1 n1 o1 => ?_
  have kk : ∀ b : Bool, g.right = b → Q (.ret (aB b)) S1 := fun b e => e ▸ k S1 (by omega) fun x hx _ => k1.2 x hx
  rw [shift_p, ld1_p o1 rfl rfl, bin_lss, onB_v]
  refine gd_of (fun h1 => kk _ ?_) (fun h1 => ?_)
  · have h1 := of_decide_eq_true h1
    simp [Gr.right, show ¬ 0 ≤ g.inputs by omega]
  have h1 : 0 ≤ g.inputs := by simpa using h1
  rw [shift_p, ld1_p o1 rfl rfl, bin_gtr, onB_v]
  refine gd_of (fun h2 => kk _ ?_) (fun h2 => ?_)
  · have h2 := of_decide_eq_true h2
    simp [Gr.right, show ¬ g.inputs ≤ 2000 by omega]
  have h2 : g.inputs ≤ 2000 := by simpa using h2
  rw [shift_p, ld1_p o1 rfl rfl, lenS_pL, bin_gtr, onB_v]
  refine gd_of (fun h3 => kk _ ?_) (fun h3 => ?_)
  · have h3 := of_decide_eq_true h3
    have : ¬ (g.ands.length : Int) ≤ 2000 := by omega
    simp only [Gr.right, this, decide_false, Bool.false_and, Bool.and_false]
  have h3 : g.ands.length ≤ 2000 := by have := of_decide_eq_false h3; omega
  rw [ldN_p (n := 2) o1 rfl]
  refine callF_ans (ans51 hg (by omega) h1) ?_
  rw [bin_gtr, onB_v]
  refine gd_of (fun h4 => kk _ ?_) (fun h4 => ?_)
  · have h4 := of_decide_eq_true h4
    simp [Gr.right, show ¬ g.vars ≤ 2000 by omega]
  have h4 : g.vars ≤ 2000 := by simpa using h4
  rw [shift_p, ld1_p o1 rfl rfl, lenS_pL]
  refine loop52_0 (fun y S' => Keep S1 S' ∧ ∃ i : Nat, y = aI i ∧ i ≤ g.ands.length ∧ ∀ j, j < i → may (g.ands.getD j (0, 0)) (g.inputs + 1 + j) = true)
    (fun y _ => g.ands.length - ((intA y).getD 0).toNat) ⟨Keep.refl _, 0, rfl, Nat.zero_le _, fun j hj => (Nat.not_lt_zero _ hj).elim⟩ ?_
  rintro _ S2 ⟨k2, i, rfl, hi, hmay⟩ KE hKE
  have o2 := (k2.2 S.n (by omega)).trans o1
  have b2 := (k2.2 id (by omega)).trans ((k1.2 id hid).trans h)
  unfold b52_0
  rw [bin_lss, onB_v]
  refine gd_of (fun hlt => ?_) (fun hge => ?_)
  · have hlt : i < g.ands.length := by simpa using hlt
    have hg' : g.ands.getD i (0, 0) = g.ands[i] := by simp [List.getD_eq_getElem?_getD, hlt]
    rw [ixS_pL hlt, ldN_q2]
    refine boxA_of rfl fun S3 k3 n3 o3 => ?_
    refine stA_of o3 rfl rfl fun S4 n4 o4 f4 => ?_
    have k4 : Keep S1 S4 := (k2.trans k3).st (by have := k2.1; omega) n4 f4
    have p4 := (k4.2 S.n (by omega)).trans o1
    rw [ldN_p (n := 2) o4 rfl, shift_p, ld1_p p4 rfl rfl, bin_add (by omega) (by omega), bin_add (by omega) (by omega)]
    refine callF_ans (ans64 (p := g.ands[i]) (hg.pairs _ (List.getElem_mem hlt))) ?_
    rw [un_not, onB_v]
    refine gd_of (fun h5 => ?_) (fun h5 => ?_)
    · have : g.right = false := by
        have hr : (List.range g.ands.length).all (fun i => may (g.ands.getD i (0, 0)) (g.inputs + 1 + i)) = false := by
          rw [List.all_eq_false]
          exact ⟨i, by simpa using hlt, by rw [hg']; simpa using h5⟩
        simp only [Gr.right, hr, Bool.false_and, Bool.and_false]
      rw [← this]
      exact k S4 (by have := k4.1; omega) fun x hx _ => (k4.2 x (by omega)).trans (k1.2 x hx)
    · have hadd : ∀ K : AV → Store → Prop, ∀ S, bin .add 0 (.v (.int .i64 (i : Int))) (.v (.int .i64 1)) S K = K (aI (i + 1 : Nat)) S := fun K S => bin_add (by omega) (by omega) 0
      rw [hadd]
      refine hKE _ _ ⟨k4, i + 1, rfl, hlt, fun j hj => ?_⟩ (by simp [intA]; omega)
      rcases Nat.lt_or_ge j i with hj' | hj'
      · exact hmay j hj'
      · have : j = i := by omega
        subst this
        rw [hg']
        simpa using h5
  · have hge : i = g.ands.length := by simp at hge; omega
    subst hge
    have hn2 := k2.1
    refine ⟨_, fun T hT => by rw [shift_p]; exact ⟨rfl, rfl⟩, _, fun T hT => by rw [ld1_p ((hT.2 _ (by omega)).trans o2) rfl rfl]; exact ⟨rfl, rfl⟩, _, fun T hT => by rw [lenS_pL]; exact ⟨rfl, rfl⟩, .inl (many_once hlen (by omega) b2 fun S3 n3 f3 => ?_)⟩
    have o3 := (f3 S.n (by omega) (by omega)).trans o2
    refine ⟨fun T hT => by rw [lenS_pL]; exact ⟨rfl, rfl⟩, fun T hT => by rw [ld1_p ((hT.2 _ (by omega)).trans o3) rfl rfl]; exact ⟨rfl, rfl⟩, fun T hT => by rw [shift_p]; exact ⟨rfl, rfl⟩, _, fun T hT => by rw [bin_eql]; exact ⟨rfl, rfl⟩, ?_⟩
    have : g.right = decide (((gat g.ands g.ands.length).length : Int) = g.ands.length) := by
      have hr : (List.range g.ands.length).all (fun i => may (g.ands.getD i (0, 0)) (g.inputs + 1 + i)) = true := by
        rw [List.all_eq_true]
        exact fun j hj => hmay j (by simpa using hj)
      have hall := gat_all (l := g.ands) (i := g.ands.length) (Nat.le_refl _)
      rw [List.take_length] at hall
      simp only [Gr.right, hr, Bool.true_and, h1, h2, h4, show (g.ands.length : Int) ≤ 2000 by omega, decide_true, Int.natCast_inj, hall]
    rw [← this]
    exact k S3 (by omega) fun x hx hne => (f3 x (by omega) hne).trans ((k2.2 x (by omega)).trans (k1.2 x hx))

theorem ans38 {g : Gr} (hg : g.ok) : Ans Try.prog 38 [g.av] (aB g.right) := by
  intro S
  refine ACalls.ans_v (calls38 ?_)
  unfold m38 Gr.av
  refine boxA_of rfl fun S1 k1 n1 o1 => ?_
  rw [ldN_p (n := 2) o1 rfl, shift_p, ld1_p o1 rfl rfl]
  rw [bld_of (cs := [aW32 0, aS32 0, .v (.int .u32 0), pL g.ands, .v (.map none)]) rfl]
  refine boxA_of rfl fun S2 k2 n2 o2 => ?_
  refine .inl (right_of hg (by omega) o2 fun S3 n3 f3 => ⟨rfl, k1.trans ⟨by omega, fun x hx => ?_⟩⟩)
  rw [f3 x (by omega) (by omega), k2.2 x hx]
end Go.Proofs.Ytolgpokppnajdaa.G
set_option linter.unusedVariables false
set_option linter.unusedSimpArgs false
namespace Go.Proofs.Ytolgpokppnajdaa.G
open Go Go.Ab

theorem ans16 {g : Gr} (hg : g.ok) (hi : g.inputs ≤ 1000000) (h0 : 0 ≤ g.inputs) : Ans Try.prog 16 [g.av] (aI g.vars) := by
  intro S
  have hl := hg.len
  refine ACalls.ans_v (calls16 ?_)
  unfold m16 Gr.av
  refine boxA_of rfl fun S1 k1 n1 o1 => ?_
  rw [shift_p, ld1_p o1 rfl rfl, bin_add (by omega) (by omega), shift_p, ld1_p o1 rfl rfl, lenS_pL, bin_add (by omega) (by omega)]
  exact ⟨rfl, k1⟩
theorem ans46 {g : Gr} {l : Int} (hg : g.ok) (hl : i64R l) : Ans Try.prog 46 [g.av, aI l] (aB (g.lit l)) := by
  intro S
  refine ACalls.ans_v (calls46 ?_)
  unfold m46 Gr.av Gr.lit
  refine boxA_of rfl fun S1 k1 n1 o1 => ?_
  rw [shift_p, ld1_p o1 rfl rfl, bin_geq, onB_v]
  refine gd_of (fun h1 => ?_) (fun h1 => ⟨by simp only [h1, Bool.false_and], k1⟩)
  rw [shift_p, ld1_p o1 rfl rfl, bin_leq, onB_v]
  refine gd_of (fun h2 => ?_) (fun h2 => ⟨by simp only [h1, h2, Bool.false_and, Bool.true_and], k1⟩)
  rw [bin_geq, onB_v]
  refine gd_of (fun h3 => ?_) (fun h3 => ⟨by simp only [h1, h2, h3, Bool.false_and, Bool.true_and], k1⟩)
  rw [bin_half hl, ldN_p (n := 2) o1 rfl]
  refine callF_ans (ans16 hg (by have := of_decide_eq_true h2; omega) (of_decide_eq_true h1)) ?_
  rw [bin_lss]
  exact ⟨by simp only [h1, h2, h3, Bool.true_and], k1⟩


theorem binP_eq {a b c d : Int} {S : Store} {K : AV → Store → Prop} : binP .i64 .eql (.a [aI a, aI b]) (.a [aI c, aI d]) S K = K (aB (decide ((a, b) = (c, d)))) S := by
  simp [binP, keyA]
theorem ixA_q {n sz : Nat} {c : List AV} {z : Nat} {S : Store} {K : AV → Store → Prop} (hz : z < n) : ixA n sz (.q c 0) (aI z) S K = K (.q c (z * sz)) S := by
  unfold ixA
  simp only [intA, optP_some, Int.toNat_natCast, shift, Nat.zero_add]
  exact propext ⟨fun h => h.2, fun h => ⟨⟨by omega, by omega⟩, h⟩⟩
theorem ld1_q1 {u v : AV} {S : Store} {K : AV → Store → Prop} : ld1 (.q [u, v] 1) S K = K v S := by simp [ld1, rd1, place]
theorem ld1_q0 {u : AV} {l : List AV} {S : Store} {K : AV → Store → Prop} : ld1 (.q (u :: l) 0) S K = K u S := by simp [ld1, rd1, place]
theorem right_iff {g : Gr} : g.right = true ↔ 0 ≤ g.inputs ∧ g.inputs ≤ 2000 ∧ (g.ands.length : Int) ≤ 2000 ∧ g.vars ≤ 2000 ∧ (∀ j, j < g.ands.length → may (g.ands.getD j (0, 0)) (g.inputs + 1 + j) = true) ∧ g.ands.Nodup := by
  simp [Gr.right]
theorem nodup_take {α : Type} [DecidableEq α] {l : List α} {i : Nat} (h : i < l.length) : (l.take (i + 1)).Nodup ↔ (l.take i).Nodup ∧ ∀ k (hk : k < i), l[k] ≠ l[i] := by
  rw [List.take_add_one, List.getElem?_eq_getElem h, List.nodup_append]
  constructor
  · rintro ⟨h1, _, h3⟩
    refine ⟨h1, fun k hk => h3 _ ?_ _ (by simp)⟩
    rw [List.mem_take_iff_getElem]
    exact ⟨k, by omega, rfl⟩
  · rintro ⟨h1, h2⟩
    refine ⟨h1, by simp, fun a ha b hb => ?_⟩
    have : b = l[i] := by simpa using hb
    subst this
    rw [List.mem_take_iff_getElem] at ha
    obtain ⟨k, hk, rfl⟩ := ha
    exact h2 k (by omega)
theorem may_false1 {p : Int × Int} {v : Int} (h : p.2 < 2) : may p v = false := by simp [may, show ¬ 2 ≤ p.2 by omega]
theorem may_false2 {p : Int × Int} {v : Int} (h : p.1.tdiv 2 ≤ p.2.tdiv 2) : may p v = false := by simp [may, show ¬ p.2.tdiv 2 < p.1.tdiv 2 by omega]
theorem may_false3 {p : Int × Int} {v : Int} (h : v ≤ p.1.tdiv 2) : may p v = false := by simp [may, show ¬ p.1.tdiv 2 < v by omega]
theorem right_may {g : Gr} {i : Nat} (h : i < g.ands.length) (hm : may (g.ands.getD i (0, 0)) (g.inputs + 1 + i) = false) : g.right = false := by
  cases e : g.right with
  | false => rfl
  | true => rw [(right_iff.1 e).2.2.2.2.1 i h] at hm; cases hm

theorem ans45 {g : Gr} (hg : g.ok) : Ans Try.prog 45 [g.av] (aB g.right) := by
  intro S
  refine ACalls.ans_v (calls45 ?_)
  have hlen := hg.len
  unfold m45 Gr.av
  refine boxA_of rfl fun S1 k1 n1 o1 => ?_
  rw [shift_p, ld1_p o1 rfl rfl, bin_lss, onB_v]
  refine gd_of (fun h1 => ⟨?_, k1⟩) (fun h1 => ?_)
  · have h1 := of_decide_eq_true h1
    simp [Gr.right, show ¬ 0 ≤ g.inputs by omega]
  have h1 : 0 ≤ g.inputs := by simpa using h1
  rw [shift_p, ld1_p o1 rfl rfl, bin_gtr, onB_v]
  refine gd_of (fun h2 => ⟨?_, k1⟩) (fun h2 => ?_)
  · have h2 := of_decide_eq_true h2
    simp [Gr.right, show ¬ g.inputs ≤ 2000 by omega]
  have h2 : g.inputs ≤ 2000 := by simpa using h2
  rw [shift_p, ld1_p o1 rfl rfl, lenS_pL, bin_gtr, onB_v]
  refine gd_of (fun h3 => ⟨?_, k1⟩) (fun h3 => ?_)
  · have h3 := of_decide_eq_true h3
    have : ¬ (g.ands.length : Int) ≤ 2000 := by omega
    simp only [Gr.right, this, decide_false, Bool.false_and, Bool.and_false]
  have h3 : g.ands.length ≤ 2000 := by have := of_decide_eq_false h3; omega
  rw [ldN_p (n := 2) o1 rfl]
  refine callF_ans (ans16 hg (by omega) h1) ?_
  rw [bin_gtr, onB_v]
  refine gd_of (fun h4 => ⟨?_, k1⟩) (fun h4 => ?_)
  · have h4 := of_decide_eq_true h4
    simp [Gr.right, show ¬ g.vars ≤ 2000 by omega]
  have h4 : g.vars ≤ 2000 := by simpa using h4
  refine loop45_0 (fun y S' => S' = S1 ∧ ∃ i : Nat, y = aI i ∧ i ≤ g.ands.length ∧ (∀ j, j < i → may (g.ands.getD j (0, 0)) (g.inputs + 1 + j) = true) ∧ (g.ands.take i).Nodup)
    (fun y _ => g.ands.length - ((intA y).getD 0).toNat) ⟨rfl, 0, rfl, Nat.zero_le _, fun j hj => (Nat.not_lt_zero _ hj).elim, by simp⟩ ?_
  rintro _ S1 ⟨rfl, i, rfl, hi, hmay, hnd⟩ KE hKE
  unfold b45_0
  rw [shift_p, ld1_p o1 rfl rfl, lenS_pL, bin_lss, onB_v]
  refine gd_of (fun hlt => ?_) (fun hge => ?_)
  · have hlt : i < g.ands.length := by simpa using hlt
    have hg' : g.ands.getD i (0, 0) = g.ands[i] := by simp [List.getD_eq_getElem?_getD, hlt]
    have hp := hg.pairs _ (List.getElem_mem hlt)
    have e1 : ∀ (c : List AV) (K : AV → Store → Prop), ixA 2 1 (.q c 0) (.v (.int .i64 1)) S1 K = K (.q c 1) S1 := fun c K => ixA_q (z := 1) (by decide)
    have e0 : ∀ (c : List AV) (K : AV → Store → Prop), ixA 2 1 (.q c 0) (.v (.int .i64 0)) S1 K = K (.q c 0) S1 := fun c K => ixA_q (z := 0) (by decide)
    show ∃ q24 : AV, _
    refine ⟨_, by rw [shift_p]; exact ⟨rfl, rfl⟩, _, by rw [ld1_p o1 rfl rfl]; exact ⟨rfl, rfl⟩, _, by rw [ixS_pL hlt]; exact ⟨rfl, rfl⟩, _, by rw [e0]; exact ⟨rfl, rfl⟩, _, by rw [ld1_q0]; exact ⟨rfl, rfl⟩,
      _, by rw [shift_p]; exact ⟨rfl, rfl⟩, _, by rw [ld1_p o1 rfl rfl]; exact ⟨rfl, rfl⟩, _, by rw [ixS_pL hlt]; exact ⟨rfl, rfl⟩, _, by rw [e1]; exact ⟨rfl, rfl⟩, _, by rw [ld1_q1]; exact ⟨rfl, rfl⟩, ?_⟩
    rw [bin_lss, onB_v]
    refine gd_of (fun h5 => ⟨?_, k1⟩) (fun h5 => ?_)
    · rw [right_may hlt (by rw [hg']; exact may_false1 (of_decide_eq_true h5))]
    rw [bin_half hp.1, bin_half hp.2, bin_leq, onB_v]
    refine gd_of (fun h6 => ⟨?_, k1⟩) (fun h6 => ?_)
    · rw [right_may hlt (by rw [hg']; exact may_false2 (of_decide_eq_true h6))]
    rw [bin_half hp.1, shift_p, ld1_p o1 rfl rfl, bin_add (by omega) (by omega), bin_add (by omega) (by omega), bin_geq, onB_v]
    refine gd_of (fun h7 => ⟨?_, k1⟩) (fun h7 => ?_)
    · rw [right_may hlt (by rw [hg']; exact may_false3 (of_decide_eq_true h7))]
    have h5 := of_decide_eq_false h5
    have h6 := of_decide_eq_false h6
    have h7 := of_decide_eq_false h7
    refine loop45_1 (fun y S' => S' = S1 ∧ ∃ k : Nat, y = aI k ∧ k ≤ i ∧ ∀ j (hj : j < k) (hk : k ≤ i), g.ands[j]'(by omega) ≠ g.ands[i])
      (fun y _ => g.ands.length - ((intA y).getD 0).toNat) ⟨rfl, 0, rfl, Nat.zero_le _, fun j hj => (Nat.not_lt_zero _ hj).elim⟩ ?_
    rintro _ S1 ⟨rfl, k, rfl, hk, hne⟩ KE1 hKE1
    unfold b45_1
    rw [bin_lss, onB_v]
    refine gd_of (fun hlk => ?_) (fun hgk => ?_)
    · have hlk : k < i := by simpa using hlk
      have hkl : k < g.ands.length := by omega
      show ∃ q24 : AV, _
      refine ⟨_, by rw [shift_p]; exact ⟨rfl, rfl⟩, _, by rw [ld1_p o1 rfl rfl]; exact ⟨rfl, rfl⟩, _, by rw [ixS_pL hkl]; exact ⟨rfl, rfl⟩, _, by rw [ldN_q2]; exact ⟨rfl, rfl⟩,
        _, by rw [shift_p]; exact ⟨rfl, rfl⟩, _, by rw [ld1_p o1 rfl rfl]; exact ⟨rfl, rfl⟩, _, by rw [ixS_pL hlt]; exact ⟨rfl, rfl⟩, _, by rw [ldN_q2]; exact ⟨rfl, rfl⟩, _, by rw [binP_eq]; exact ⟨rfl, rfl⟩, ?_⟩
      rw [onB_v]
      refine gd_of (fun h8 => ⟨?_, k1⟩) (fun h8 => ?_)
      · have h8 : g.ands[k] = g.ands[i] := of_decide_eq_true h8
        have : g.right = false := by
          cases e : g.right with
          | false => rfl
          | true =>
            have hnd := (right_iff.1 e).2.2.2.2.2
            exact absurd h8 (List.pairwise_iff_getElem.1 hnd k i hkl hlt hlk)
        rw [this]
      · have h8 : ¬ g.ands[k] = g.ands[i] := of_decide_eq_false h8
        have hadd : ∀ K : AV → Store → Prop, ∀ S, bin .add 0 (.v (.int .i64 (k : Int))) (.v (.int .i64 1)) S K = K (aI (k + 1 : Nat)) S := fun K S => bin_add (by omega) (by omega) 0
        rw [hadd]
        refine hKE1 _ _ ⟨rfl, k + 1, rfl, hlk, fun j hj _ => ?_⟩ (by simp [intA]; omega)
        rcases Nat.lt_or_ge j k with hj' | hj'
        · exact hne j hj' (by omega)
        · have : j = k := by omega
          subst this
          exact h8
    · have hge : k = i := by simp at hgk; omega
      subst hge
      have hadd : ∀ K : AV → Store → Prop, ∀ S, bin .add 0 (.v (.int .i64 (k : Int))) (.v (.int .i64 1)) S K = K (aI (k + 1 : Nat)) S := fun K S => bin_add (by omega) (by omega) 0
      rw [hadd]
      refine hKE _ _ ⟨rfl, k + 1, rfl, hlt, fun j hj => ?_, (nodup_take hlt).2 ⟨hnd, fun j hj => hne j hj (Nat.le_refl _)⟩⟩ (by simp [intA]; omega)
      rcases Nat.lt_or_ge j k with hj' | hj'
      · exact hmay j hj'
      · have : j = k := by omega
        subst this
        rw [hg']
        simp [may, show 2 ≤ (g.ands[j]).2 by omega, show (g.ands[j]).2.tdiv 2 < (g.ands[j]).1.tdiv 2 by omega, show (g.ands[j]).1.tdiv 2 < g.inputs + 1 + j by omega]
  · have hge : i = g.ands.length := by simp at hge; omega
    subst hge
    rw [List.take_length] at hnd
    rw [right_iff.2 ⟨h1, h2, by omega, h4, hmay, hnd⟩]
    exact ⟨rfl, k1⟩
end Go.Proofs.Ytolgpokppnajdaa.G
set_option linter.unusedVariables false
set_option linter.unusedSimpArgs false
namespace Go.Proofs.Ytolgpokppnajdaa.G
open Go Go.Ab

theorem Own.appL {n : Nat} {S : Store} {x : AV} {e sz b : Nat} {es ys : List (List AV)} (h : Own n S x e es) (hn : n ≤ S.n) {K : AV → Store → Prop} (hc : ∀ c ∈ ys, c.length = sz) (hb : (es.length + ys.length) * b ≤ 140737488355328)
    (k : ∀ x' S', Own n S' x' e (es ++ ys) → But S S' x → (x' = x ∨ ∃ m, x' = .s S.n 0 m) → K x' S') {y : AV} (hy : srcE S y = some ys) : appS e sz b x y S K := by
  refine ⟨h.isSl, ys, hy, hc, ?_⟩
  cases ys with
  | nil => exact k x S (by simpa using h) ⟨Nat.le_refl _, fun _ _ _ => rfl⟩ (.inl rfl)
  | cons c ys =>
    rcases h with ⟨rfl, rfl⟩ | ⟨id, rfl, h1, h2, h3⟩
    · refine ⟨by simpa using hb, k _ _ (.inr ⟨S.n, rfl, hn, Nat.lt_succ_self _, by simp [Store.new]⟩) ⟨Nat.le_succ _, fun i hi _ => ?_⟩ (.inr ⟨_, rfl⟩)⟩
      simp only [Store.new]; rw [if_neg (by omega)]
    · simp only [appE, h3]
      refine ⟨⟨trivial, trivial, by simpa using hb⟩, k _ _ (.inr ⟨S.n, by simp, hn, Nat.lt_succ_self _, by simp [Store.new, Store.kill]⟩) ⟨Nat.le_succ _, fun i hi hne => ?_⟩ (.inr ⟨_, rfl⟩)⟩
      have e1 : i ≠ S.n := by omega
      have e2 : i ≠ id := fun hq => hne 0 es.length (by rw [hq])
      simp [Store.new, Store.kill, e1, e2]
theorem bslP {e : Nat} {z1 z2 u v : AV} {S : Store} {K : AV → Store → Prop} (k : K (.l [[u, v]]) S) : bslN e 2 1 [z1, z2] [(0, .a [u, v])] S K := by
  refine ⟨[u, v], ?_, .inr ?_⟩
  · simp [fillA, cellsOf, spl, List.range_succ]
  · simpa [chunks, List.range_succ] using k
@[simp] theorem mx_true (a b : Int) {S : Store} {K : AV → Store → Prop} : mxI true (aI a) (aI b) S K = K (aI (if b > a then b else a)) S := rfl
@[simp] theorem mx_false (a b : Int) {S : Store} {K : AV → Store → Prop} : mxI false (aI a) (aI b) S K = K (aI (if b < a then b else a)) S := rfl
theorem treeP (l : List (Int × Int)) : Tree (pL l) := Tree.l fun c hc u hu => by
  obtain ⟨p, _, rfl⟩ := List.mem_map.1 hc
  rcases List.mem_cons.1 hu with rfl | hu
  · exact Tree.v _
  · rcases List.mem_cons.1 hu with rfl | hu
    · exact Tree.v _
    · simp at hu
theorem Gr.tree (g : Gr) : Tree g.av := Tree.a fun u hu => by
  rcases List.mem_cons.1 hu with rfl | hu
  · exact Tree.v _
  · rcases List.mem_cons.1 hu with rfl | hu
    · exact treeP _
    · simp at hu
theorem cv_t3 {S : Store} {n : Nat} {x y z x' y' z' : AV} (h1 : Cv S n x x') (h2 : Cv S n y y') (h3 : Cv S n z z') : Cv S n (.t [x, y, z]) (.t [x', y', z']) :=
  .t _ _ rfl fun k u u2 hk hk2 => by
    match k with
    | 0 => cases hk; cases hk2; exact h1
    | 1 => cases hk; cases hk2; exact h2
    | 2 => cases hk; cases hk2; exact h3
    | k + 3 => simp at hk
theorem cv_t2 {S : Store} {n : Nat} {x y x' y' : AV} (h1 : Cv S n x x') (h2 : Cv S n y y') : Cv S n (.t [x, y]) (.t [x', y']) :=
  .t _ _ rfl fun k u u2 hk hk2 => by
    match k with
    | 0 => cases hk; cases hk2; exact h1
    | 1 => cases hk; cases hk2; exact h2
    | k + 2 => simp at hk
theorem cv_a2 {S : Store} {n : Nat} {x y x' y' : AV} (h1 : Cv S n x x') (h2 : Cv S n y y') : Cv S n (.a [x, y]) (.a [x', y']) :=
  .a _ _ rfl fun k u u2 hk hk2 => by
    match k with
    | 0 => cases hk; cases hk2; exact h1
    | 1 => cases hk; cases hk2; exact h2
    | k + 2 => simp at hk

theorem gd_two {b c : Bool} {R T : Prop} (h1 : b = true → c = true → R) (h2 : ¬ (b = true ∧ c = true) → T) : gd b (gd c R T) T := by
  cases b <;> cases c <;> simp_all [gd]
/-- Two literals together. -/
def andT (g : Gr) (x y : Int) : Gr × Int × Int :=
  if y = 0 then (g, 0, 0)
  else if x.tdiv 2 = y.tdiv 2 ∧ x ≠ y then (g, 0, 0)
  else if y = 1 then (g, x, 0)
  else if x = y then (g, x, 0)
  else match g.ands.findIdx? (fun p => decide (p = (x, y))) with
    | some i => (g, 2 * (g.inputs + 1 + i), 0)
    | none => if 2000 ≤ g.vars then (⟨0, []⟩, 0, 2) else (⟨g.inputs, g.ands ++ [(x, y)]⟩, 2 * (g.vars + 1) - 2, 0)
def Gr.and (g : Gr) (a b : Int) : Gr × Int × Int :=
  if (g.right && (g.lit a && g.lit b)) = false then (⟨0, []⟩, 0, 1) else andT g (if b > a then b else a) (if b < a then b else a)
def andAV (r : Gr × Int × Int) : AV := .t [r.1.av, aI r.2.1, aI r.2.2]

theorem vars16 {i : Int} {x : AV} {n : Nat} (hx : ∀ (S : Store) (K : AV → Store → Prop), lenS x S K = K (aI n) S) (h0 : 0 ≤ i) (h1 : i ≤ 1000000) (hn : n ≤ 2000000) : Ans Try.prog 16 [.a [aI i, x]] (aI (i + 1 + n)) := by
  intro S
  refine ACalls.ans_v (calls16 ?_)
  unfold m16
  refine boxA_of rfl fun S1 k1 n1 o1 => ?_
  rw [shift_p, ld1_p o1 rfl rfl, bin_add (by omega) (by omega), shift_p, ld1_p o1 rfl rfl, hx, bin_add (by omega) (by omega)]
  exact ⟨rfl, k1⟩

theorem ans33 {g : Gr} {a b : Int} (hg : g.ok) (ha : i64R a) (hb : i64R b) : Ans Try.prog 33 [g.av, aI a, aI b] (andAV (g.and a b)) := by
  intro S
  refine ACalls.tree (calls33 ?_)
  have hlen := hg.len
  unfold m33
  have bd : ∀ {a b : Int} {S : Store} {K : AV → Store → Prop}, bld [(0, 1), (1, 1)] [(.v (.int .i64 0)), (.v (.int .i64 0))] [(0, aI a), (1, aI b)] S K = K (.a [aI a, aI b]) S := bld_of rfl
  have bz : ∀ {S : Store} {K : AV → Store → Prop}, bld [(0, 1), (1, 1)] [(.v (.int .i64 0)), .nl] [] S K = K (.a [aI 0, .nl]) S := bld_of rfl
  refine boxA_of rfl fun S1 k1 n1 o1 => ?_
  refine boxA_of rfl fun S2 k2 n2 o2 => ?_
  have k2 := k1.trans k2
  have p1 : S2.obj S.n = _ := (‹Keep S1 S2›.2 S.n (by omega)).trans o1
  have fin : ∀ {S' : Store} {v : AV} (r : Gr × Int × Int), Keep S S' → Cv (S'.frz (newer S.n)) S.n v r.1.av → g.and a b = r → ∃ q, AEnd.ret (.t [v, aI r.2.1, aI r.2.2]) = .ret q ∧ Keep S S' ∧ Cv (S'.frz (newer S.n)) S.n q (andAV (g.and a b)) :=
    fun r hk hc e => ⟨_, rfl, hk, by rw [e]; exact cv_t3 hc (.v _) (.v _)⟩
  have err : ∀ S', Cv (Store.frz S' (newer S.n)) S.n (.a [aI 0, .nl]) (Gr.av ⟨0, []⟩) := fun _ => cv_a2 (.v _) .nl
  have bad : ∀ {e : Int}, (g.right && (g.lit a && g.lit b)) = false → g.and a b = (⟨0, []⟩, 0, 1) := fun h => by simp only [Gr.and]; rw [if_pos h]
  rw [ldN_p (n := 2) p1 rfl]
  refine callF_ans (ans45 hg) ?_
  rw [un_not, onB_v]
  refine gd_of (fun h1 => ?_) (fun h1 => ?_)
  · rw [bz]
    refine stA_of o2 rfl rfl fun S3 n3 o3 f3 => ?_
    rw [ldN_p (n := 2) o3 rfl]
    exact fin (⟨0, []⟩, 0, 1) (k2.st (by omega) n3 f3) (err _) (bad (e := 0) (by rw [Bool.not_eq_true'] at h1; rw [h1]; rfl))
  have h1 : g.right = true := by simpa using h1
  rw [ldN_p (n := 2) p1 rfl]
  refine callF_ans (ans46 hg ha) ?_
  rw [un_not, onB_v]
  refine gd_of (fun h2 => ?_) (fun h2 => ?_)
  · rw [bz]
    refine stA_of o2 rfl rfl fun S3 n3 o3 f3 => ?_
    rw [ldN_p (n := 2) o3 rfl]
    exact fin (⟨0, []⟩, 0, 1) (k2.st (by omega) n3 f3) (err _) (bad (e := 0) (by rw [Bool.not_eq_true'] at h2; rw [h1, h2]; rfl))
  have h2 : g.lit a = true := by simpa using h2
  rw [ldN_p (n := 2) p1 rfl]
  refine callF_ans (ans46 hg hb) ?_
  rw [un_not, onB_v]
  refine gd_of (fun h3 => ?_) (fun h3 => ?_)
  · rw [bz]
    refine stA_of o2 rfl rfl fun S3 n3 o3 f3 => ?_
    rw [ldN_p (n := 2) o3 rfl]
    exact fin (⟨0, []⟩, 0, 1) (k2.st (by omega) n3 f3) (err _) (bad (e := 0) (by rw [Bool.not_eq_true'] at h3; rw [h1, h2, h3]; rfl))
  have h3 : g.lit b = true := by simpa using h3
  obtain ⟨r1, r2, r3, r4, r5, r6⟩ := right_iff.1 h1
  rw [mx_true, mx_false]
  have hx : i64R (if b > a then b else a) := by split <;> assumption
  have hy : i64R (if b < a then b else a) := by split <;> assumption
  have hand : g.and a b = andT g (if b > a then b else a) (if b < a then b else a) := by
    simp only [Gr.and]
    rw [if_neg (by rw [h1, h2, h3]; decide)]
  generalize hex : (if b > a then b else a) = x at *
  generalize hey : (if b < a then b else a) = y at *
  have ok : ∀ {S' : Store}, Cv (S'.frz (newer S.n)) S.n (.a g.cells) g.av := fun {S'} => g.tree _ _
  rw [bin_eql, onB_v]
  refine gd_of (fun h4 => ?_) (fun h4 => ?_)
  · rw [ldN_p (n := 2) p1 rfl]
    refine stA_of o2 rfl rfl fun S3 n3 o3 f3 => ?_
    rw [ldN_p (n := 2) o3 rfl]
    exact fin (g, 0, 0) (k2.st (by omega) n3 f3) ok (hand.trans (by rw [andT, if_pos (of_decide_eq_true h4)]))
  have h4 := of_decide_eq_false h4
  rw [bin_half hx, bin_half hy, bin_eql, onB_v]
  rw [bin_neq, onB_v]
  refine gd_two (fun h5 h6 => ?_) (fun h7 => ?_)
  · rw [ldN_p (n := 2) p1 rfl]
    refine stA_of o2 rfl rfl fun S3 n3 o3 f3 => ?_
    rw [ldN_p (n := 2) o3 rfl]
    exact fin (g, 0, 0) (k2.st (by omega) n3 f3) ok (hand.trans (by rw [andT, if_neg h4, if_pos ⟨of_decide_eq_true h5, by simpa using h6⟩]))
  · have h7 : ¬ (x.tdiv 2 = y.tdiv 2 ∧ x ≠ y) := fun h => h7 ⟨by simpa using h.1, by simpa using h.2⟩
    have hand : g.and a b = (if y = 1 then (g, x, (0 : Int))
      else if x = y then (g, x, 0)
      else match g.ands.findIdx? (fun p => decide (p = (x, y))) with
        | some i => (g, 2 * (g.inputs + 1 + i), 0)
        | none => if 2000 ≤ g.vars then (⟨0, []⟩, 0, 2) else (⟨g.inputs, g.ands ++ [(x, y)]⟩, 2 * (g.vars + 1) - 2, 0) : Gr × Int × Int) := hand.trans (by rw [andT, if_neg h4, if_neg h7])
    rw [bin_eql, onB_v]
    refine gd_of (fun h8 => ?_) (fun h8 => ?_)
    · rw [ldN_p (n := 2) p1 rfl]
      refine stA_of o2 rfl rfl fun S3 n3 o3 f3 => ?_
      rw [ldN_p (n := 2) o3 rfl]
      exact fin (g, x, 0) (k2.st (by omega) n3 f3) ok (hand.trans (by rw [if_pos (of_decide_eq_true h8)]))
    have h8 := of_decide_eq_false h8
    rw [bin_eql, onB_v]
    refine gd_of (fun h9 => ?_) (fun h9 => ?_)
    · rw [ldN_p (n := 2) p1 rfl]
      refine stA_of o2 rfl rfl fun S3 n3 o3 f3 => ?_
      rw [ldN_p (n := 2) o3 rfl]
      exact fin (g, x, 0) (k2.st (by omega) n3 f3) ok (hand.trans (by rw [if_neg h8, if_pos (of_decide_eq_true h9)]))
    have h9 := of_decide_eq_false h9
    have hand := hand.trans (by rw [if_neg h8, if_neg h9])
    refine loop33_0 (fun z S' => S' = S2 ∧ ∃ i : Nat, z = aI i ∧ i ≤ g.ands.length ∧ ∀ j (hj : j < g.ands.length), j < i → g.ands[j] ≠ (x, y))
      (fun z _ => g.ands.length - ((intA z).getD 0).toNat) ⟨rfl, 0, rfl, Nat.zero_le _, fun j _ hj => (Nat.not_lt_zero _ hj).elim⟩ ?_
    rintro _ S2 ⟨rfl, i, rfl, hi, hno⟩ KE hKE
    unfold b33_0
    have hl3 := r3
    have hv := r4
    unfold Gr.vars at hv
    rw [shift_p, ld1_p p1 rfl rfl, lenS_pL, bin_lss, onB_v]
    refine gd_of (fun hlt => ?_) (fun hge => ?_)
    · have hlt : i < g.ands.length := by simpa using hlt
      rw [shift_p, ld1_p p1 rfl rfl, ixS_pL hlt, ldN_q2, bd, binP_eq, onB_v]
      refine gd_of (fun h10 => ?_) (fun h10 => ?_)
      · have h10 : g.ands[i] = (x, y) := of_decide_eq_true h10
        have hf : g.ands.findIdx? (fun p => decide (p = (x, y))) = some i := by
          rw [List.findIdx?_eq_some_iff_getElem]
          exact ⟨hlt, by simpa using h10, fun j hj => by simpa using hno j (by omega) hj⟩
        have q : ∀ T : Store, Keep S2 T → T.obj S.n = some (.cells 49 [g.cells] true) := fun T hT => (hT.2 _ (by omega)).trans p1
        have e1 : ∀ {S : Store} {K : AV → Store → Prop}, bin .add 0 (aI g.inputs) (aI 1) S K = K (aI (g.inputs + 1)) S := bin_add (by omega) (by omega) 0
        have e2 : ∀ {S : Store} {K : AV → Store → Prop}, bin .add 0 (aI (g.inputs + 1)) (aI i) S K = K (aI (g.inputs + 1 + i)) S := bin_add (by omega) (by omega) 0
        have e3 : ∀ {S : Store} {K : AV → Store → Prop}, bin .mul 0 (aI 2) (aI (g.inputs + 1 + i)) S K = K (aI (2 * (g.inputs + 1 + i))) S := bin_mul (by omega) (by omega) 0
        refine ⟨_, fun T hT => by rw [ldN_p (n := 2) (q T hT) rfl]; exact ⟨rfl, rfl⟩, _, fun T hT => by rw [shift_p]; exact ⟨rfl, rfl⟩, _, fun T hT => by rw [ld1_p (q T hT) rfl rfl]; exact ⟨rfl, rfl⟩, _, fun T hT => by rw [e1]; exact ⟨rfl, rfl⟩, _, fun T hT => by rw [e2]; exact ⟨rfl, rfl⟩, _, fun T hT => by rw [e3]; exact ⟨rfl, rfl⟩, ?_⟩
        refine stA_of o2 rfl rfl fun S3 n3 o3 f3 => ?_
        have q3 : ∀ T : Store, Keep S3 T → T.obj S.n = some (.cells 49 [g.cells] true) := fun T hT => (hT.2 _ (by omega)).trans ((f3 _ (by omega)).trans p1)
        refine ⟨fun T hT => by rw [e3]; exact ⟨rfl, rfl⟩, fun T hT => by rw [e2]; exact ⟨rfl, rfl⟩, fun T hT => by rw [e1]; exact ⟨rfl, rfl⟩, fun T hT => by rw [ld1_p (q3 T hT) rfl rfl]; exact ⟨rfl, rfl⟩, fun T hT => by rw [shift_p]; exact ⟨rfl, rfl⟩, ?_⟩
        rw [ldN_p (n := 2) o3 rfl]
        exact fin (g, 2 * (g.inputs + 1 + i), 0) (k2.st (by omega) n3 f3) ok (hand.trans (by rw [hf]))
      · have h10 : ¬ g.ands[i] = (x, y) := of_decide_eq_false h10
        have hadd : ∀ K : AV → Store → Prop, ∀ S, bin .add 0 (.v (.int .i64 (i : Int))) (.v (.int .i64 1)) S K = K (aI (i + 1 : Nat)) S := fun K S => bin_add (by omega) (by omega) 0
        rw [hadd]
        refine hKE _ _ ⟨rfl, i + 1, rfl, hlt, fun j hj hj' => ?_⟩ (by simp [intA]; omega)
        rcases Nat.lt_or_ge j i with h | h
        · exact hno j hj h
        · have : j = i := by omega
          subst this
          exact h10
    · have hge : i = g.ands.length := by simp at hge; omega
      subst hge
      have hf : g.ands.findIdx? (fun p => decide (p = (x, y))) = none := by
        rw [List.findIdx?_eq_none_iff]
        intro q hq
        obtain ⟨j, hj, rfl⟩ := List.getElem_of_mem hq
        simpa using hno j hj hj
      rw [hf] at hand
      rw [ldN_p (n := 2) p1 rfl]
      refine callF_ans (ans16 hg (by omega) r1) ?_
      rw [bin_geq, onB_v]
      refine gd_of (fun h11 => ?_) (fun h11 => ?_)
      · rw [bz]
        refine stA_of o2 rfl rfl fun S3 n3 o3 f3 => ?_
        rw [ldN_p (n := 2) o3 rfl]
        exact fin (⟨0, []⟩, 0, 2) (k2.st (by omega) n3 f3) (err _) (hand.trans (by simp only [if_pos (of_decide_eq_true h11)]))
      have h11 := of_decide_eq_false h11
      have hand : g.and a b = (⟨g.inputs, g.ands ++ [(x, y)]⟩, 2 * (g.vars + 1) - 2, 0) := hand.trans (by simp only [if_neg h11])
      refine boxA_of rfl fun S3 k3 n3 o3 => ?_
      have p3 := (k3.2 S.n (by omega)).trans p1
      rw [shift_p, ld1_p p3 rfl rfl, shift_p]
      refine stF_of o3 (by simp) rfl fun S4 n4 o4 f4 => ?_
      have p4 := (f4 S.n (by omega)).trans p3
      rw [shift_p, ld1_p o4 rfl rfl, shift_p, ld1_p p4 rfl rfl]
      have m2 := k2.1
      have m3 := k3.1
      have k4 : Keep S S4 := (k2.trans k3).st (by omega) n4 f4
      have v4 : S4.obj S1.n = _ := (f4 S1.n (by omega)).trans ((k3.2 S1.n (by omega)).trans o2)
      refine Own.appL (Own.nl S.n S4 80) (by omega) (ys := g.ands.map fun p => [aI p.1, aI p.2]) (fun c hc => by obtain ⟨p, _, rfl⟩ := List.mem_map.1 hc; rfl) (by simp; omega) (fun z1 S5 w5 b5 hz5 => ?_) rfl
      rw [bd]
      refine bslP ?_
      have k5 : Keep S S5 := w5.keep (S0 := S) (Nat.le_refl _) ⟨Nat.le_refl _, fun _ _ _ => rfl⟩ ⟨Nat.le_trans k4.1 b5.1, fun i hi => (b5.2 i (by have := k4.1; omega) (fun _ _ h => by cases h)).trans (k4.2 i hi)⟩
      have e5 : ∀ i, i < S4.n → S5.obj i = S4.obj i := fun i hi => b5.2 i hi (fun _ _ h => by cases h)
      have z5 : ∀ i b m, z1 = .s i b m → i = S4.n := fun i b m e => by
        rcases hz5 with h | ⟨m', h⟩
        · rw [h] at e; cases e
        · rw [h] at e; cases e; rfl
      have n5 := b5.1
      refine w5.app (by have := k5.1; omega) (c := [aI x, aI y]) rfl (by simp; omega) (fun z2 S6 w6 b6 hz6 => ?_) rfl
      have e6 : ∀ i, i < S4.n → S6.obj i = S4.obj i := fun i hi => (b6.2 i (by omega) (fun b m e => by have := z5 i b m e; omega)).trans (e5 i hi)
      have n6 := b6.1
      have k6 : Keep S S6 := w5.keep (Nat.le_refl _) b6 k5
      obtain ⟨m6, hz6⟩ := hz6
      rw [shift_p]
      refine stF_of ((e6 S2.n (by omega)).trans o4) (by simp) (by rw [hz6]; rfl) fun S7 n7 o7 f7 => ?_
      have p7 : S7.obj S.n = _ := (f7 S.n (by omega)).trans ((e6 S.n (by omega)).trans p4)
      have v7 : S7.obj S1.n = _ := (f7 S1.n (by omega)).trans ((e6 S1.n (by omega)).trans v4)
      have k7 : Keep S S7 := k6.st (by omega) n7 f7
      have w7 : Own S.n S7 z2 80 _ := w6.st (id := S2.n) (fun b m e => by rw [hz6] at e; injection e; omega) n7 f7
      have hlen2 : (((g.ands.map fun p => [aI p.1, aI p.2]) ++ [[aI x, aI y]]).length : Nat) = g.ands.length + 1 := by simp
      have hz : ∀ (S : Store) (K : AV → Store → Prop), lenS z2 S K = K (aI (g.ands.length + 1 : Nat)) S := fun S K => by
        rcases w7 with ⟨h, h'⟩ | ⟨id, h, _, _, _⟩
        · rw [h] at hz6; cases hz6
        · rw [h, lenS_s, List.nil_append, hlen2]
      have q : ∀ T : Store, Keep S7 T → T.obj S2.n = some (.cells 49 [[aI g.inputs, z2]] true) := fun T hT => (hT.2 _ (by omega)).trans o7
      have e1 : ∀ {S : Store} {K : AV → Store → Prop}, bin .mul 0 (aI 2) (aI (g.inputs + 1 + (g.ands.length + 1 : Nat))) S K = K (aI (2 * (g.inputs + 1 + (g.ands.length + 1 : Nat)))) S := bin_mul (by omega) (by omega) 0
      have e2 : ∀ {S : Store} {K : AV → Store → Prop}, bin .sub 0 (aI (2 * (g.inputs + 1 + (g.ands.length + 1 : Nat)))) (aI 2) S K = K (aI (2 * (g.inputs + 1 + (g.ands.length + 1 : Nat)) - 2)) S := bin_sub (by omega) (by omega) 0
      refine ⟨_, fun T hT => by rw [ldN_p (n := 2) (q T hT) rfl]; exact ⟨rfl, rfl⟩, _, fun T hT => by rw [ldN_p (n := 2) (q T hT) rfl]; exact ⟨rfl, rfl⟩, _, fun T hT => callF_ans (vars16 hz r1 (by omega) (by omega)) ⟨rfl, rfl⟩, _, fun T hT => by rw [e1]; exact ⟨rfl, rfl⟩, _, fun T hT => by rw [e2]; exact ⟨rfl, rfl⟩, ?_⟩
      refine stA_of v7 rfl rfl fun S8 n8 o8 f8 => ?_
      refine ⟨fun T hT => by rw [e2]; exact ⟨rfl, rfl⟩, fun T hT => by rw [e1]; exact ⟨rfl, rfl⟩, ?_⟩
      rw [ldN_p (n := 2) o8 rfl]
      have w8 : Own S.n S8 z2 80 _ := w7.st (id := S1.n) (fun b m e => by rw [hz6] at e; injection e; omega) n8 f8
      have hv2 : g.vars = g.inputs + 1 + g.ands.length := rfl
      have := fin (S' := S8) (v := .a [aI g.inputs, z2]) (⟨g.inputs, g.ands ++ [(x, y)]⟩, 2 * (g.vars + 1) - 2, 0) (k7.st (by omega) n8 f8) (cv_a2 (.v _) (w8.cv rfl (by simp) (fun i c c2 hc hc2 => ?_))) hand
      · rw [hv2, show g.inputs + 1 + (g.ands.length : Int) + 1 = g.inputs + 1 + (g.ands.length + 1 : Nat) by omega] at this
        exact this
      · have : c = c2 := by
          rw [List.nil_append] at hc
          rw [List.map_append] at hc2
          exact Option.some.inj (hc.symm.trans hc2)
        subst this
        refine ⟨rfl, fun k u u2 hu hu2 => ?_⟩
        rw [hu] at hu2; cases hu2
        have hm := List.mem_of_getElem? hc2
        rw [List.mem_map] at hm
        obtain ⟨p, _, rfl⟩ := hm
        match k with
        | 0 => cases hu; exact .v _
        | 1 => cases hu; exact .v _
        | k + 2 => simp at hu
end Go.Proofs.Ytolgpokppnajdaa.G
set_option linter.unusedVariables false
set_option linter.unusedSimpArgs false
namespace Go.Proofs.Ytolgpokppnajdaa.G
open Go Go.Ab


section
variable {S : Store} {K : AV → Store → Prop}
theorem ixStr_b {b : ByteArray} {i : Nat} (h : i < b.size) : ixStr (.v (.string b)) (aI i) S K = K (.v (.int .u8 (b[i]).toNat)) S := by
  simp [ixStr, intA, h]
@[simp] theorem lenStr_b (b : ByteArray) : lenStr (.v (.string b)) S K = K (aI b.size) S := rfl
theorem bytesEq (a b : ByteArray) : (a.toList == b.toList) = decide (a = b) := by
  rw [Bool.eq_iff_iff, beq_iff_eq, ByteArray.toList_eq, ByteArray.toList_eq, decide_eq_true_eq]
  exact ⟨fun h => ByteArray.ext (Array.toList_inj.mp h), fun h => by rw [h]⟩
theorem bin_eqlS (a b : ByteArray) (kd : Nat) : bin .eql kd (.v (.string a)) (.v (.string b)) S K = K (aB (decide (a = b))) S := by simp [bin, b2, strB, bytesEq]
theorem bin_neqS (a b : ByteArray) (kd : Nat) : bin .neq kd (.v (.string a)) (.v (.string b)) S K = K (aB (!decide (a = b))) S := by simp [bin, b2, strB, bytesEq]
theorem ld1_qj {c : List AV} {j : Nat} {u : AV} (h : c[j]? = some u) : ld1 (.q c j) S K = K u S := by simp [ld1, rd1, place, h]
@[simp] theorem shift_q (c : List AV) (j n : Nat) : shift (.q c j) n S K = K (.q c (j + n)) S := rfl
end

/-- May a text be a name's? -/
def wordB (b : ByteArray) : Bool := decide (∀ i (h : i < b.size), 33 ≤ (b[i]).toNat ∧ (b[i]).toNat ≤ 126) && (decide (0 < b.size) && decide (b.size ≤ 20))
theorem ans59 (b : ByteArray) (hb : b.size ≤ 9223372036854775807) : Ans Try.prog 59 [.v (.string b)] (aB (wordB b)) := by
  intro S
  refine ACalls.ans_v (calls59 ?_)
  unfold m59
  refine loop59_0 (fun y S' => S' = S ∧ ∃ i : Nat, y = aI i ∧ i ≤ b.size ∧ ∀ j (h : j < b.size), j < i → 33 ≤ (b[j]).toNat ∧ (b[j]).toNat ≤ 126)
    (fun y _ => b.size - ((intA y).getD 0).toNat) ⟨rfl, 0, rfl, Nat.zero_le _, fun j _ hj => (Nat.not_lt_zero _ hj).elim⟩ ?_
  rintro _ S ⟨rfl, i, rfl, hi, hok⟩ KE hKE
  unfold b59_0
  rw [lenStr_b, bin_lss, onB_v]
  refine gd_of (fun hlt => ?_) (fun hge => ?_)
  · have hlt : i < b.size := by simpa using hlt
    have bad : ¬ (33 ≤ (b[i]).toNat ∧ (b[i]).toNat ≤ 126) → wordB b = false := fun h => by
      simp only [wordB, Bool.and_eq_false_iff, decide_eq_false_iff_not]
      exact .inl fun h' => h (h' i hlt)
    rw [ixStr_b hlt, bin_lss, onB_v]
    refine gd_of (fun h1 => ⟨by rw [bad (fun h => by have := of_decide_eq_true h1; omega)], Keep.refl _⟩) (fun h1 => ?_)
    rw [ixStr_b hlt, bin_gtr, onB_v]
    refine gd_of (fun h2 => ⟨by rw [bad (fun h => by have := of_decide_eq_true h2; omega)], Keep.refl _⟩) (fun h2 => ?_)
    have hadd : ∀ K : AV → Store → Prop, ∀ S, bin .add 0 (.v (.int .i64 (i : Int))) (.v (.int .i64 1)) S K = K (aI (i + 1 : Nat)) S := fun K S => bin_add (by omega) (by omega) 0
    rw [hadd]
    refine hKE _ _ ⟨rfl, i + 1, rfl, hlt, fun j hj hj' => ?_⟩ (by simp [intA]; omega)
    rcases Nat.lt_or_ge j i with h | h
    · exact hok j hj h
    · have : j = i := by omega
      subst this
      have h1 := of_decide_eq_false h1
      have h2 := of_decide_eq_false h2
      omega
  · have hge : i = b.size := by simp at hge; omega
    subst hge
    have hall : decide (∀ i (h : i < b.size), 33 ≤ (b[i]).toNat ∧ (b[i]).toNat ≤ 126) = true := decide_eq_true fun j hj => hok j hj hj
    rw [lenStr_b, bin_gtr, onB_v]
    refine gd_of (fun h1 => ?_) (fun h1 => ⟨?_, Keep.refl _⟩)
    · rw [lenStr_b, bin_leq]
      refine ⟨?_, Keep.refl _⟩
      simp only [wordB, hall, Bool.true_and, show 0 < b.size by simpa using h1, decide_true]
      rw [show decide ((b.size : Int) ≤ 20) = decide (b.size ≤ 20) from decide_eq_decide.2 (by omega)]
    · simp [wordB, show ¬ 0 < b.size by simpa using h1]
theorem ans55 (b : ByteArray) (hb : b.size ≤ 9223372036854775807) : Ans Try.prog 55 [.v (.string b)] (aB (wordB b)) := by
  intro S
  refine ACalls.ans_v (calls55 ?_)
  unfold m55
  rw [lenStr_b]
  refine loop55_0 (fun y S' => S' = S ∧ ∃ i : Nat, y = aI i ∧ i ≤ b.size ∧ ∀ j (h : j < b.size), j < i → 33 ≤ (b[j]).toNat ∧ (b[j]).toNat ≤ 126)
    (fun y _ => b.size - ((intA y).getD 0).toNat) ⟨rfl, 0, rfl, Nat.zero_le _, fun j _ hj => (Nat.not_lt_zero _ hj).elim⟩ ?_
  rintro _ S ⟨rfl, i, rfl, hi, hok⟩ KE hKE
  unfold b55_0
  rw [bin_lss, onB_v]
  refine gd_of (fun hlt => ?_) (fun hge => ?_)
  · have hlt : i < b.size := by simpa using hlt
    have bad : ¬ (33 ≤ (b[i]).toNat ∧ (b[i]).toNat ≤ 126) → wordB b = false := fun h => by
      simp only [wordB, Bool.and_eq_false_iff, decide_eq_false_iff_not]
      exact .inl fun h' => h (h' i hlt)
    rw [ixStr_b hlt, bin_leq, onB_v]
    refine gd_of (fun h1 => ⟨by rw [bad (fun h => by have := of_decide_eq_true h1; omega)], Keep.refl _⟩) (fun h1 => ?_)
    rw [ixStr_b hlt, bin_gtr, onB_v]
    refine gd_of (fun h2 => ⟨by rw [bad (fun h => by have := of_decide_eq_true h2; omega)], Keep.refl _⟩) (fun h2 => ?_)
    have hadd : ∀ K : AV → Store → Prop, ∀ S, bin .add 0 (.v (.int .i64 (i : Int))) (.v (.int .i64 1)) S K = K (aI (i + 1 : Nat)) S := fun K S => bin_add (by omega) (by omega) 0
    rw [hadd]
    refine hKE _ _ ⟨rfl, i + 1, rfl, hlt, fun j hj hj' => ?_⟩ (by simp [intA]; omega)
    rcases Nat.lt_or_ge j i with h | h
    · exact hok j hj h
    · have : j = i := by omega
      subst this
      have h1 := of_decide_eq_false h1
      have h2 := of_decide_eq_false h2
      omega
  · have hge : i = b.size := by simp at hge; omega
    subst hge
    have hall : decide (∀ i (h : i < b.size), 33 ≤ (b[i]).toNat ∧ (b[i]).toNat ≤ 126) = true := decide_eq_true fun j hj => hok j hj hj
    have he : decide (b = { data := #[] }) = decide (b.size = 0) := by
      by_cases h : b.size = 0
      · have : b = { data := #[] } := byteArray_ext (Array.eq_empty_of_size_eq_zero h)
        subst this
        rfl
      · have : ¬ b = { data := #[] } := fun e => h (by rw [e]; rfl)
        simp [this, h]
    rw [bin_neqS, he, onB_v]
    refine gd_of (fun h1 => ?_) (fun h1 => ⟨?_, Keep.refl _⟩)
    · have h1 : b.size ≠ 0 := by simpa using h1
      rw [lenStr_b, bin_leq]
      refine ⟨?_, Keep.refl _⟩
      simp only [wordB, hall, Bool.true_and, show 0 < b.size by omega, decide_true]
      rw [show decide ((b.size : Int) ≤ 20) = decide (b.size ≤ 20) from decide_eq_decide.2 (by omega)]
    · have h1 : b.size = 0 := by simpa using h1
      simp [wordB, h1]
/-- Which kind a letter is. -/
def rankI (k : Int) : Int := if k = 105 then 0 else if k = 108 then 1 else if k = 111 then 2 else if k = 98 then 3 else if k = 99 then 4 else if k = 102 then 5 else -1
def kindS : ByteArray := { data := #[105, 108, 111, 98, 99, 102] }
def kindAt (i : Nat) : Int := [105, 108, 111, 98, 99, 102].getD i 0
theorem kindS_get {i : Nat} (h : i < 6) : ∃ h' : i < kindS.size, ((kindS[i]'h').toNat : Int) = kindAt i := by
  match i, h with
  | 0, _ | 1, _ | 2, _ | 3, _ | 4, _ | 5, _ => exact ⟨by decide, by decide⟩
theorem rankI_at {k : Int} {i : Nat} (h : i < 6) (hk : kindAt i = k) : rankI k = i := by
  subst hk
  match i, h with
  | 0, _ | 1, _ | 2, _ | 3, _ | 4, _ | 5, _ => decide
theorem rankI_no {k : Int} (h : ∀ i, i < 6 → kindAt i ≠ k) : rankI k = -1 := by
  have h0 : (105 : Int) ≠ k := h 0 (by decide)
  have h1 : (108 : Int) ≠ k := h 1 (by decide)
  have h2 : (111 : Int) ≠ k := h 2 (by decide)
  have h3 : (98 : Int) ≠ k := h 3 (by decide)
  have h4 : (99 : Int) ≠ k := h 4 (by decide)
  have h5 : (102 : Int) ≠ k := h 5 (by decide)
  simp only [rankI]
  rw [if_neg (Ne.symm h0), if_neg (Ne.symm h1), if_neg (Ne.symm h2), if_neg (Ne.symm h3), if_neg (Ne.symm h4), if_neg (Ne.symm h5)]
theorem ans61 (k : Int) : Ans Try.prog 61 [.v (.int .u8 k)] (aI (rankI k)) := by
  intro S
  refine ACalls.ans_v (calls61 ?_)
  unfold m61
  refine loop61_0 (fun y S' => S' = S ∧ ∃ i : Nat, y = aI i ∧ i ≤ 6 ∧ ∀ j, j < i → kindAt j ≠ k)
    (fun y _ => 6 - ((intA y).getD 0).toNat) ⟨rfl, 0, rfl, Nat.zero_le _, fun j hj => (Nat.not_lt_zero _ hj).elim⟩ ?_
  rintro _ S ⟨rfl, i, rfl, hi, hno⟩ KE hKE
  unfold b61_0
  rw [lenStr_b, bin_lss, onB_v]
  refine gd_of (fun hlt => ?_) (fun hge => ?_)
  · have hlt : i < 6 := by have := of_decide_eq_true hlt; exact Int.ofNat_lt.1 this
    obtain ⟨h', he⟩ := kindS_get hlt
    show ixStr (.v (.string kindS)) _ _ _
    rw [ixStr_b h', he, bin_eql, onB_v]
    refine gd_of (fun h1 => ⟨?_, Keep.refl _⟩) (fun h1 => ?_)
    · rw [rankI_at hlt (of_decide_eq_true h1)]
    · have hadd : ∀ K : AV → Store → Prop, ∀ S, bin .add 0 (.v (.int .i64 (i : Int))) (.v (.int .i64 1)) S K = K (aI (i + 1 : Nat)) S := fun K S => bin_add (by omega) (by omega) 0
      rw [hadd]
      refine hKE _ _ ⟨rfl, i + 1, rfl, hlt, fun j hj => ?_⟩ (by simp [intA]; omega)
      rcases Nat.lt_or_ge j i with h | h
      · exact hno j h
      · have : j = i := by omega
        subst this
        exact of_decide_eq_false h1
  · have hge : i = 6 := by
      have : ¬ ((i : Int) < 6) := of_decide_eq_false hge
      omega
    subst hge
    rw [rankI_no hno]
    exact ⟨rfl, Keep.refl _⟩
theorem ans56 (k : Int) (h0 : 0 ≤ k) (h1 : k < 256) : Ans Try.prog 56 [.v (.int .u8 k)] (aI (rankI k)) := by
  intro S
  refine ACalls.ans_v (calls56 ?_)
  unfold m56 rngS
  refine loop56_0 (fun S' => Keep S S' ∧ ∃ i : Nat, S'.obj S.n = some (.sit kindS i) ∧ i ≤ 6 ∧ ∀ j, j < i → kindAt j ≠ k)
    (fun S' => match S'.obj S.n with | some (.sit _ i) => 6 - i | _ => 0) ⟨(Keep.refl S).new _, 0, by rw [new_self]; rfl, Nat.zero_le _, fun j hj => (Nat.not_lt_zero _ hj).elim⟩ ?_
  rintro S1 ⟨k1, i, o1, hi, hno⟩ KE hKE
  unfold b56_0 nextM
  simp only [o1]
  refine ⟨fun hlt => ?_, fun hge => ?_⟩
  · have hlt : i < 6 := hlt
    have hdec : (((Utf8.decode kindS i).1 : Nat) : Int) = kindAt i ∧ (Utf8.decode kindS i).2 = 1 := by
      match i, hlt with
      | 0, _ | 1, _ | 2, _ | 3, _ | 4, _ | 5, _ => exact ⟨by decide, by decide⟩
    rw [hdec.1, hdec.2]
    show extr _ _ _ _
    rw [extr0]
    show onB _ _
    rw [onB_v, gd_true, extr1, extr2, convI_v]
    have hw : IntKind.i32.wrap k = k := by
      rw [IntKind.wrap_i32]; omega
    rw [hw, bin_eql, onB_v]
    refine gd_of (fun h2 => ⟨?_, k1.upd (Nat.le_refl _) _⟩) (fun h2 => ?_)
    · rw [rankI_at hlt (of_decide_eq_true h2).symm]
    · refine hKE _ ⟨k1.upd (Nat.le_refl _) _, i + 1, upd_self _ _, hlt, fun j hj => ?_⟩ (by simp only [upd_self, o1]; omega)
      rcases Nat.lt_or_ge j i with h | h
      · exact hno j h
      · have : j = i := by omega
        subst this
        exact Ne.symm (of_decide_eq_false h2)
  · have hge : i = 6 := by
      have : ¬ (i < 6) := hge
      omega
    subst hge
    show extr _ _ _ _
    rw [over, extr0, onB_v, gd_false, rankI_no hno]
    exact ⟨rfl, k1⟩
end Go.Proofs.Ytolgpokppnajdaa.G
set_option linter.unusedVariables false
set_option linter.unusedSimpArgs false
namespace Go.Proofs.Ytolgpokppnajdaa.G
open Go Go.Ab

theorem ans66 (a : Int) : Ans Try.prog 66 [aI a] (aB false) := by
  intro S
  refine ACalls.ans_v (calls66 ?_)
  unfold m66
  rw [bin_neq]
  exact ⟨by simp, Keep.refl _⟩
def cmpZ (a b : Int) : Int := if a < b then -1 else if b < a then 1 else 0
theorem ans58 (a b : Int) : Ans Try.prog 58 [aI a, aI b] (aI (cmpZ a b)) := by
  intro S
  refine ACalls.ans_v (calls58 ?_)
  unfold m58
  refine callF_ans (ans66 a) (callF_ans (ans66 b) ?_)
  rw [onB_v, gd_false, onB_v, gd_false, bin_lss, onB_v]
  refine gd_of (fun h => ⟨?_, Keep.refl _⟩) (fun h => ?_)
  · rw [cmpZ, if_pos (of_decide_eq_true h)]
  rw [bin_gtr, onB_v]
  have h := of_decide_eq_false h
  refine gd_of (fun h2 => ⟨?_, Keep.refl _⟩) (fun h2 => ⟨?_, Keep.refl _⟩)
  · rw [cmpZ, if_neg h, if_pos (of_decide_eq_true h2)]
  · rw [cmpZ, if_neg h, if_neg (of_decide_eq_false h2)]
theorem ans57 (a b : Int) : Ans Try.prog 57 [.l [[aI a], [aI b]]] (aI (if a ≠ 0 then a else b)) := by
  intro S
  refine ACalls.ans_v (calls57 ?_)
  unfold m57
  rw [lenS_l]
  refine loop57_0 (fun y S' => S' = S ∧ ∃ i : Nat, y = aI i ∧ i ≤ 2 ∧ (1 ≤ i → a = 0) ∧ (2 ≤ i → b = 0))
    (fun y _ => 2 - ((intA y).getD 0).toNat) ⟨rfl, 0, rfl, Nat.zero_le _, fun h => by omega, fun h => by omega⟩ ?_
  rintro _ S ⟨rfl, i, rfl, hi, h1, h2⟩ KE hKE
  unfold b57_0
  rw [bin_lss, onB_v]
  refine gd_of (fun hlt => ?_) (fun hge => ?_)
  · have hlt : i < 2 := by have := of_decide_eq_true hlt; exact Int.ofNat_lt.1 this
    have hadd : ∀ K : AV → Store → Prop, ∀ S, bin .add 0 (.v (.int .i64 (i : Int))) (.v (.int .i64 1)) S K = K (aI (i + 1 : Nat)) S := fun K S => bin_add (by omega) (by omega) 0
    match i, hlt with
    | 0, _ =>
      rw [show ∀ K : AV → Store → Prop, ixS 3 1 (.l [[aI a], [aI b]]) (aI ((0 : Nat) : Int)) S K = K (.q [aI a] 0) S from fun K => ixS_l (es := [[aI a], [aI b]]) (i := 0) (by simp) rfl, ld1_qj rfl, bin_neq, onB_v]
      refine gd_of (fun h => ⟨?_, Keep.refl _⟩) (fun h => ?_)
      · rw [if_pos (by simpa using h)]
      · rw [hadd]
        exact hKE _ _ ⟨rfl, 1, rfl, by decide, fun _ => by simpa using h, fun h => by omega⟩ (by simp [intA])
    | 1, _ =>
      have ha := h1 (Nat.le_refl _)
      rw [show ∀ K : AV → Store → Prop, ixS 3 1 (.l [[aI a], [aI b]]) (aI ((1 : Nat) : Int)) S K = K (.q [aI b] 0) S from fun K => ixS_l (es := [[aI a], [aI b]]) (i := 1) (by simp) rfl, ld1_qj rfl, bin_neq, onB_v]
      refine gd_of (fun h => ⟨?_, Keep.refl _⟩) (fun h => ?_)
      · rw [if_neg (by simp [ha])]
      · rw [hadd]
        exact hKE _ _ ⟨rfl, 2, rfl, by decide, fun _ => ha, fun _ => by simpa using h⟩ (by simp [intA])
  · have hge : i = 2 := by
      have : ¬ ((i : Int) < 2) := of_decide_eq_false hge
      omega
    subst hge
    refine ⟨?_, Keep.refl _⟩
    rw [h1 (by decide), h2 (by decide)]
    rfl

/-! Circuits -/
structure Na where
  kind : Int
  pos : Int
  text : ByteArray
  deriving DecidableEq
structure Ci where
  inputs : Int
  latches : List (Int × Int)
  ands : List (Int × Int)
  outs : List Int
  bads : List Int
  cons : List Int
  fair : List Int
  names : List Na
def Na.row (x : Na) : List AV := [.v (.int .u8 x.kind), aI x.pos, .v (.string x.text)]
def nL (l : List Na) : AV := .l (l.map Na.row)
def Ci.cells (c : Ci) : List AV := [aI c.inputs, pL c.latches, pL c.ands, aL aI c.outs, aL aI c.bads, aL aI c.cons, aL aI c.fair, nL c.names]
def Ci.av (c : Ci) : AV := .a c.cells
def Ci.gr (c : Ci) : Gr := ⟨IntKind.i64.wrap (c.inputs + c.latches.length), c.ands⟩
structure Ci.ok (c : Ci) : Prop where
  inp : i64R c.inputs
  llen : c.latches.length ≤ 1000000
  alen : c.ands.length ≤ 1000000
  lats : ∀ p ∈ c.latches, i64R p.1 ∧ i64R p.2
  pairs : ∀ p ∈ c.ands, i64R p.1 ∧ i64R p.2
  outs : (∀ x ∈ c.outs, i64R x) ∧ c.outs.length ≤ 9223372036854775807
  bads : (∀ x ∈ c.bads, i64R x) ∧ c.bads.length ≤ 9223372036854775807
  cons : (∀ x ∈ c.cons, i64R x) ∧ c.cons.length ≤ 9223372036854775807
  fair : (∀ x ∈ c.fair, i64R x) ∧ c.fair.length ≤ 9223372036854775807
  names : ∀ x ∈ c.names, 0 ≤ x.kind ∧ x.kind < 256 ∧ i64R x.pos ∧ x.text.size ≤ 9223372036854775807
  nlen : c.names.length ≤ 1000000
theorem wrapR (n : Int) : i64R (IntKind.i64.wrap n) := by
  unfold i64R
  rw [IntKind.wrap_i64]; omega
theorem Ci.ok.gr {c : Ci} (h : c.ok) : c.gr.ok := ⟨wrapR _, h.alen, h.pairs⟩
theorem bin_addW {a b : Int} (kd : Nat) {S : Store} {K : AV → Store → Prop} : bin .add kd (aI a) (aI b) S K = K (aI (IntKind.i64.wrap (a + b))) S := by
  simp [bin, b2, isSh, cmpI, ariI]
theorem ans18 (c : Ci) : Ans Try.prog 18 [c.av] c.gr.av := by
  intro S
  refine ACalls.tree (calls18 ?_)
  unfold m18
  refine boxA_of rfl fun S1 k1 n1 o1 => ?_
  refine boxA_of rfl fun S2 k2 n2 o2 => ?_
  have p1 : S2.obj S.n = _ := (k2.2 S.n (by omega)).trans o1
  rw [shift_p, ld1_p p1 rfl rfl, shift_p, ld1_p p1 rfl rfl, lenS_pL, bin_addW, shift_p, ld1_p p1 rfl rfl, bld_of (cs := c.gr.cells) rfl]
  refine stA_of o2 rfl rfl fun S3 n3 o3 f3 => ?_
  rw [ldN_p (n := 2) o3 rfl]
  exact ⟨_, rfl, (k1.trans k2).st (by omega) n3 f3, c.gr.tree _ _⟩
theorem ans28 (c : Ci) : Ans Try.prog 28 [c.av] c.gr.av := by
  intro S
  refine ACalls.tree (calls28 ?_)
  unfold m28
  refine boxA_of rfl fun S1 k1 n1 o1 => ?_
  refine boxA_of rfl fun S2 k2 n2 o2 => ?_
  have p1 : S2.obj S.n = _ := (k2.2 S.n (by omega)).trans o1
  rw [shift_p, ld1_p p1 rfl rfl, shift_p, ld1_p p1 rfl rfl, lenS_pL, bin_addW, shift_p, ld1_p p1 rfl rfl, bld_of (cs := c.gr.cells) rfl]
  refine stA_of o2 rfl rfl fun S3 n3 o3 f3 => ?_
  rw [ldN_p (n := 2) o3 rfl]
  exact ⟨_, rfl, (k1.trans k2).st (by omega) n3 f3, c.gr.tree _ _⟩
/-- How many signals of a kind there are. -/
def Ci.many (c : Ci) (k : Int) : Int := if k = 105 then c.inputs else if k = 108 then c.latches.length else if k = 111 then c.outs.length else if k = 98 then c.bads.length else if k = 99 then c.cons.length else if k = 102 then c.fair.length else 0
def Ci.manyE (c : Ci) : List (Key × AV) := [(.i 105, aI c.inputs), (.i 108, aI c.latches.length), (.i 111, aI c.outs.length), (.i 98, aI c.bads.length), (.i 99, aI c.cons.length), (.i 102, aI c.fair.length)]
theorem keyI (k : IntKind) (a : Int) : keyA (.i k) (.v (.int k a)) = some (.i a) := by simp [keyA]
theorem ans34 (c : Ci) : Ans Try.prog 34 [c.av] (.mt (.i .i32) c.manyE) := by
  intro S
  refine ACalls.tree (calls34 ?_)
  unfold m34
  refine boxA_of rfl fun S1 k1 n1 o1 => ?_
  unfold mkM
  show shift _ _ _ _
  have p1 : (S1.new (.map (.i .i32) [] true)).obj S.n = _ := (new_lt (by omega)).trans o1
  have u : ∀ {es : List (Key × AV)}, (Store.upd (S1.new (.map (.i .i32) [] true)) S1.n (.map (.i .i32) es true)).obj S.n = _ := fun {es} => (upd_ne (by omega)).trans p1
  rw [shift_p, ld1_p p1 rfl rfl, updM_m (new_self _) (keyI _ _)]
  rw [shift_p, ld1_p u rfl rfl, lenS_pL, updM_m (upd_self _ _) (keyI _ _), upd_upd]
  rw [shift_p, ld1_p u rfl rfl, lenS_aL, updM_m (upd_self _ _) (keyI _ _), upd_upd]
  rw [shift_p, ld1_p u rfl rfl, lenS_aL, updM_m (upd_self _ _) (keyI _ _), upd_upd]
  rw [shift_p, ld1_p u rfl rfl, lenS_aL, updM_m (upd_self _ _) (keyI _ _), upd_upd]
  rw [shift_p, ld1_p u rfl rfl, lenS_aL, updM_m (upd_self _ _) (keyI _ _), upd_upd]
  refine ⟨_, rfl, (k1.new _).upd (by omega) _, .m' S1.n (.i .i32) c.manyE c.manyE ?_ rfl (fun i e e2 h h2 => by rw [h] at h2; cases h2; rfl) (fun i e e2 h h2 => ?_)⟩
  · rw [frz_ofM (upd_self _ _)]
    have : newer S.n S1.n = true := by simp [newer]; omega
    rw [this]
    rfl
  · rw [h] at h2; cases h2
    match i with
    | 0 | 1 | 2 | 3 | 4 | 5 => cases h; exact .v _
    | i + 6 => simp [Ci.manyE] at h
theorem lkp_many (c : Ci) (k : Int) : ((lkp c.manyE (.i k)).getD (aI 0)) = aI (c.many k) := by
  by_cases h0 : k = 105
  · subst h0; rfl
  by_cases h1 : k = 108
  · subst h1; rfl
  by_cases h2 : k = 111
  · subst h2; rfl
  by_cases h3 : k = 98
  · subst h3; rfl
  by_cases h4 : k = 99
  · subst h4; rfl
  by_cases h5 : k = 102
  · subst h5; rfl
  have : kix c.manyE (.i k) = none := by
    rw [kix_none]
    simp [Ci.manyE, h0, h1, h2, h3, h4, h5]
  simp [lkp, this, Ci.many, h0, h1, h2, h3, h4, h5]
theorem rank_many {c : Ci} {k : Int} (h : ¬ rankI k < 0) : c.many k = [c.inputs, c.latches.length, c.outs.length, c.bads.length, c.cons.length, c.fair.length].getD (rankI k).toNat 0 := by
  unfold rankI at h ⊢
  unfold Ci.many
  repeat' split
  all_goals first | rfl | (exfalso; apply h; simp [*])
theorem many_no {c : Ci} {k : Int} (h : rankI k < 0) : c.many k = 0 := by
  unfold rankI at h
  unfold Ci.many
  repeat' split
  all_goals first | rfl | (simp [*] at h)
theorem rank_lt (k : Int) : rankI k < 6 := by
  unfold rankI
  repeat' split
  all_goals decide
theorem bsl6 {e : Nat} {z a b c d f g : Int} {S : Store} {K : AV → Store → Prop} (k : K (.l [[aI a], [aI b], [aI c], [aI d], [aI f], [aI g]]) S) : bslN e 1 6 [aI z] [(0, aI a), (1, aI b), (2, aI c), (3, aI d), (4, aI f), (5, aI g)] S K := by
  refine ⟨[aI a, aI b, aI c, aI d, aI f, aI g], ?_, .inr ?_⟩
  · simp [fillA, cells_of_one, spl, List.range_succ, cellsOf, AV.one, Value.oneCell']
  · simpa [chunks, List.range_succ] using k
theorem ans60 (c : Ci) (k : Int) : Ans Try.prog 60 [c.av, .v (.int .u8 k)] (aI (c.many k)) := by
  intro S
  refine ACalls.ans_v (calls60 ?_)
  unfold m60
  refine boxA_of rfl fun S1 k1 n1 o1 => ?_
  refine callF_ans (ans61 k) ?_
  rw [bin_lss, onB_v]
  refine gd_of (fun h => ⟨?_, k1⟩) (fun h => ?_)
  · rw [many_no (of_decide_eq_true h)]
  have h : ¬ rankI k < 0 := of_decide_eq_false h
  rw [shift_p, ld1_p o1 rfl rfl, shift_p, ld1_p o1 rfl rfl, lenS_pL, shift_p, ld1_p o1 rfl rfl, lenS_aL, shift_p, ld1_p o1 rfl rfl, lenS_aL, shift_p, ld1_p o1 rfl rfl, lenS_aL, shift_p, ld1_p o1 rfl rfl, lenS_aL]
  refine bsl6 ?_
  obtain ⟨r, hr⟩ := Int.eq_ofNat_of_zero_le (show 0 ≤ rankI k by omega)
  have hr6 : r < 6 := by have := rank_lt k; omega
  rw [rank_many h, hr]
  match r, hr6 with
  | 0, _ | 1, _ | 2, _ | 3, _ | 4, _ | 5, _ =>
    rw [ixS_l (by simp) (by rfl), ld1_qj rfl]
    exact ⟨rfl, k1⟩
end Go.Proofs.Ytolgpokppnajdaa.G
set_option linter.unusedVariables false
set_option maxRecDepth 100000
namespace Go.Proofs.Ytolgpokppnajdaa.G
open Go Go.Ab
/-! ### 54 slices.IndexFunc[[]int,int] -/
noncomputable def c54 : Code := (Try.f54.body).getD .skip
noncomputable def r54 : List ResultVar := Try.f54.results.toList
def env54_0 (y0 y1 y7 y8 : AV) : List AV := [y0, y1, y7, y8]
def lv54_0 : List Nat := [0, 1, 7, 8]
def ms54 : List (List Nat) := [lv54_0, []]
def m54 (x0 x1 : AV) (S : Store) (Q : AEnd → Store → Prop) : Prop :=
  lenS x0 S fun v1 S => loopV lv54_0 (vc Try.prog (c54.at_ [1, 0, 1, 0, 0]) (ms54.drop 1)) 19 (env54_0 x0 x1 v1 (.v (Go.Value.int Go.IntKind.i64 0))) S (blockK 0 (seqK (vc Try.prog (c54.at_ [1, 1]) (ms54.drop 1)) (bodyK Try.prog r54 Q)))
theorem m54_eq : (fun (x0 x1 : AV) (S : Store) (Q : AEnd → Store → Prop) => vc Try.prog c54 ms54 (ofArgs 19 [x0, x1]) S (bodyK Try.prog r54 Q)) = (fun (x0 x1 : AV) (S : Store) (Q : AEnd → Store → Prop) => m54 x0 x1 S Q) := by kernel_rfl
theorem calls54 {x0 x1 : AV} {S : Store} {Q : AEnd → Store → Prop} (h : m54 x0 x1 S Q) : ACalls Try.prog 54 [x0, x1] S Q :=
  calls_of_vc (fn := Try.f54) (c := c54) (n := 19) Try.func54 (by kernel_rfl) (by kernel_rfl) (by kernel_rfl) ms54 ((congrFun (congrFun (congrFun (congrFun m54_eq x0) x1) S) Q).mpr h)
-- loop 0: written: y8; read alone: y0 y1 y7
def b54_0 (y0 y1 y7 y8 : AV) (S : Store) (KE0 : Nat → List AV → Store → Prop) (Q : AEnd → Store → Prop) : Prop :=
  bin .lss 0 y8 y7 S fun v2 S => onB v2 fun b3 => gd b3 (ixS 3 1 y0 y8 S fun v4 S => ld1 v4 S fun v5 S => callV Try.prog y1 [v5] S (fun v6 S => onB v6 fun b7 => gd b7 (Q (.ret y8) S) (bin .add 0 y8 (.v (Go.Value.int Go.IntKind.i64 1)) S fun v8 S => KE0 19 (env54_0 y0 y1 y7 v8) S)) (fun u S => Q (.pan u) S)) (Q (.ret (.v (Go.Value.int Go.IntKind.i64 (-1)))) S)
theorem b54_0_eq : (fun (y0 y1 y7 y8 : AV) (S : Store) (KE0 : Nat → List AV → Store → Prop) (Q : AEnd → Store → Prop) => vc Try.prog (c54.at_ [1, 0, 1, 0, 0]) (ms54.drop 1) (mkE 19 lv54_0 (env54_0 y0 y1 y7 y8)) S (thenK (fgK lv54_0 KE0) (blockK 0 (seqK (vc Try.prog (c54.at_ [1, 1]) (ms54.drop 1)) (bodyK Try.prog r54 Q))))) = (fun (y0 y1 y7 y8 : AV) (S : Store) (KE0 : Nat → List AV → Store → Prop) (Q : AEnd → Store → Prop) => b54_0 y0 y1 y7 y8 S KE0 Q) := by kernel_rfl
theorem loop54_0 {y0 y1 y7 : AV} {y80 : AV} {S : Store} {Q : AEnd → Store → Prop} (I : AV → Store → Prop) (μ : AV → Store → Nat) (h0 : I y80 S)
    (hr : ∀ (y8 : AV) (S : Store), I y8 S → ∀ KE0 : Nat → List AV → Store → Prop, (∀ (y8' : AV) (S' : Store), I y8' S' → μ y8' S' < μ y8 S → KE0 19 (env54_0 y0 y1 y7 y8') S') → b54_0 y0 y1 y7 y8 S KE0 Q) :
    loopV lv54_0 (vc Try.prog (c54.at_ [1, 0, 1, 0, 0]) (ms54.drop 1)) 19 (env54_0 y0 y1 y7 y80) S (blockK 0 (seqK (vc Try.prog (c54.at_ [1, 1]) (ms54.drop 1)) (bodyK Try.prog r54 Q))) := by
  refine ⟨fun n e S => n = 19 ∧ ∃ y8 : AV, e = (env54_0 y0 y1 y7 y8) ∧ I y8 S, fun _ e S => μ (e.getD 3 .j) S, ?_, ?_⟩
  · exact ⟨_, _, Wk.refl _ _, rfl, _, rfl, h0⟩
  · rintro _ e S ⟨rfl, y8, rfl, hI⟩
    exact (congrFun (congrFun (congrFun (congrFun (congrFun (congrFun (congrFun b54_0_eq y0) y1) y7) y8) S) _) Q).mpr (hr y8 S hI _ (fun y8' S' hI' hm => ⟨_, _, Wk.refl _ _, ⟨rfl, _, rfl, hI'⟩, hm⟩))
theorem loopw54_0 {y0 y1 y7 y8 : AV} {S : Store} {Q : AEnd → Store → Prop} (I : AV → AV → AV → AV → Store → Prop) (μ : AV → AV → AV → AV → Store → Nat) (h0 : ∃ (y0' y1' y7' y8' : AV) (S' : Store), Wk S (env54_0 y0 y1 y7 y8) S' (env54_0 y0' y1' y7' y8') ∧ I y0' y1' y7' y8' S')
    (hr : ∀ (y0 y1 y7 y8 : AV) (S : Store), I y0 y1 y7 y8 S → ∀ KE0 : Nat → List AV → Store → Prop, (∀ (y0' y1' y7' y8' : AV) (S' : Store) (y0'' y1'' y7'' y8'' : AV) (S'' : Store), Wk S' (env54_0 y0' y1' y7' y8') S'' (env54_0 y0'' y1'' y7'' y8'') → I y0'' y1'' y7'' y8'' S'' → μ y0'' y1'' y7'' y8'' S'' < μ y0 y1 y7 y8 S → KE0 19 (env54_0 y0' y1' y7' y8') S') → b54_0 y0 y1 y7 y8 S KE0 Q) :
    loopV lv54_0 (vc Try.prog (c54.at_ [1, 0, 1, 0, 0]) (ms54.drop 1)) 19 (env54_0 y0 y1 y7 y8) S (blockK 0 (seqK (vc Try.prog (c54.at_ [1, 1]) (ms54.drop 1)) (bodyK Try.prog r54 Q))) := by
  obtain ⟨y0', y1', y7', y8', S0, hw0, h0⟩ := h0
  refine ⟨fun n e S => n = 19 ∧ ∃ y0 y1 y7 y8 : AV, e = (env54_0 y0 y1 y7 y8) ∧ I y0 y1 y7 y8 S, fun _ e S => μ (e.getD 0 .j) (e.getD 1 .j) (e.getD 2 .j) (e.getD 3 .j) S, ?_, ?_⟩
  · exact ⟨_, _, hw0, rfl, _, _, _, _, rfl, h0⟩
  · rintro _ e S ⟨rfl, y0, y1, y7, y8, rfl, hI⟩
    exact (congrFun (congrFun (congrFun (congrFun (congrFun (congrFun (congrFun b54_0_eq y0) y1) y7) y8) S) _) Q).mpr (hr y0 y1 y7 y8 S hI _ (fun y0' y1' y7' y8' S' y0'' y1'' y7'' y8'' S'' hw hI' hm => ⟨_, _, hw, ⟨rfl, _, _, _, _, rfl, hI'⟩, hm⟩))
/-! ### 40 slices.ContainsFunc[[]int,int] -/
noncomputable def c40 : Code := (Try.f40.body).getD .skip
noncomputable def r40 : List ResultVar := Try.f40.results.toList
def ms40 : List (List Nat) := [[]]
def m40 (x0 x1 : AV) (S : Store) (Q : AEnd → Store → Prop) : Prop :=
  callF Try.prog 54 [x0, x1] S Q fun v1 S => bin .geq 0 v1 (.v (Go.Value.int Go.IntKind.i64 0)) S fun v2 S => Q (.ret v2) S
theorem m40_eq : (fun (x0 x1 : AV) (S : Store) (Q : AEnd → Store → Prop) => vc Try.prog c40 ms40 (ofArgs 9 [x0, x1]) S (bodyK Try.prog r40 Q)) = (fun (x0 x1 : AV) (S : Store) (Q : AEnd → Store → Prop) => m40 x0 x1 S Q) := by kernel_rfl
theorem calls40 {x0 x1 : AV} {S : Store} {Q : AEnd → Store → Prop} (h : m40 x0 x1 S Q) : ACalls Try.prog 40 [x0, x1] S Q :=
  calls_of_vc (fn := Try.f40) (c := c40) (n := 9) Try.func40 (by kernel_rfl) (by kernel_rfl) (by kernel_rfl) ms40 ((congrFun (congrFun (congrFun (congrFun m40_eq x0) x1) S) Q).mpr h)
end Go.Proofs.Ytolgpokppnajdaa.G
set_option linter.unusedVariables false
set_option linter.unusedSimpArgs false
namespace Go.Proofs.Ytolgpokppnajdaa.G
open Go Go.Ab
def idxOf (o : Option Nat) : Int := match o with | some i => i | none => -1
theorem find_at {α : Type} {g : α → Bool} {l : List α} {i : Nat} (hi : i < l.length) (hg : g l[i] = true) (h : ∀ k (hk : k < i), g (l[k]'(Nat.lt_trans hk hi)) = false) : l.findIdx? g = some i := by
  rw [List.findIdx?_eq_some_iff_getElem]
  exact ⟨hi, hg, fun j hj => by simp [h j hj]⟩
theorem find_none {α : Type} {g : α → Bool} {l : List α} (h : ∀ k (hk : k < l.length), g l[k] = false) : l.findIdx? g = none := by
  rw [List.findIdx?_eq_none_iff]
  intro x hx
  obtain ⟨k, hk, rfl⟩ := List.mem_iff_getElem.1 hx
  exact h k hk

theorem at54 {α : Type} {f : α → AV} {l : List α} (hl : l.length ≤ 9223372036854775807) {g : α → Bool} {fn : FuncId} {fs cs : List AV} {S : Store}
    (hf : ∀ x, x ∈ l → AnsAt Try.prog fn (fs ++ [f x] ++ cs) S (aB (g x))) : AnsAt Try.prog 54 [aL f l, .f (.func fn) fs cs] S (aI (idxOf (l.findIdx? g))) := by
  refine calls54 ?_
  unfold m54
  rw [lenS_aL]
  refine loop54_0 (fun y S' => S' = S ∧ ∃ i : Nat, y = aI i ∧ i ≤ l.length ∧ ∀ k (hk : k < l.length), k < i → g l[k] = false) (fun y _ => l.length - ((intA y).getD 0).toNat) ⟨rfl, 0, rfl, Nat.zero_le _, fun k _ h => absurd h (Nat.not_lt_zero _)⟩ ?_
  rintro _ _ ⟨rfl, i, rfl, hi, hk⟩ KE hKE
  unfold b54_0 aI
  rw [bin_lss, onB_v]
  refine gd_of (fun h => ?_) (fun h => ?_)
  · have hlt : i < l.length := by simpa using h
    rw [ixS_aL hlt, ld1_q]
    refine callV_at (hf _ (List.getElem_mem hlt)) ?_
    unfold aB
    rw [onB_v]
    refine gd_of (fun hg => ⟨?_, rfl⟩) (fun hg => ?_)
    · rw [find_at hlt hg (fun k hk' => hk k _ hk')]; rfl
    · rw [bin_add (by omega) (by omega)]
      refine hKE _ _ ⟨rfl, i + 1, rfl, hlt, fun k hk1 hk2 => ?_⟩ ?_
      · by_cases e : k = i
        · subst e; exact hg
        · exact hk k hk1 (by omega)
      · simp [intA, aI]; omega
  · have hge : i = l.length := by simp at h; omega
    subst hge
    rw [find_none (fun k hk' => hk k hk' hk')]
    exact ⟨rfl, rfl⟩

theorem idx_any {α : Type} (g : α → Bool) (l : List α) : decide (0 ≤ idxOf (l.findIdx? g)) = l.any g := by
  cases h : l.findIdx? g with
  | none =>
    rw [List.findIdx?_eq_none_iff] at h
    have : l.any g = false := by simpa [List.any_eq_false] using h
    rw [this]; rfl
  | some i =>
    rw [List.findIdx?_eq_some_iff_getElem] at h
    obtain ⟨hi, hg, _⟩ := h
    have : l.any g = true := List.any_eq_true.2 ⟨_, List.getElem_mem hi, by simpa using hg⟩
    rw [this]
    simp [idxOf]
theorem at40 {α : Type} {f : α → AV} {l : List α} (hl : l.length ≤ 9223372036854775807) {g : α → Bool} {fn : FuncId} {fs cs : List AV} {S : Store}
    (hf : ∀ x, x ∈ l → AnsAt Try.prog fn (fs ++ [f x] ++ cs) S (aB (g x))) : AnsAt Try.prog 40 [aL f l, .f (.func fn) fs cs] S (aB (l.any g)) := by
  refine calls40 ?_
  unfold m40
  refine callF_at (at54 hl hf) ?_
  unfold aI
  rw [bin_geq, idx_any]
  exact ⟨rfl, rfl⟩
structure Sp where
  bits : Int
  valid : List Bool
  initial : List Bool
  next : List (List Int)
  fair : List (List Bool)
def Sp.cells (s : Sp) : List AV := [aI s.bits, aL aB s.valid, aL aB s.initial, aL (aL aI) s.next, aL (aL aB) s.fair]
def Sp.av (s : Sp) : AV := .a s.cells
def Sp.small (s : Sp) : Prop := s.valid.length < 1048576 ∧ s.next.length < 1048576 ∧ s.fair.length < 1048576 ∧ ∀ x ∈ s.next, x.length < 1048576
def fits (s : Sp) (l : List (List Bool)) : Bool :=
  decide (s.next.length = s.valid.length) && s.fair.all (fun p => decide (p.length = s.valid.length)) && l.all (fun p => decide (p.length = s.valid.length)) && s.next.all (fun x => x.all fun i => decide (0 ≤ i) && decide (i < s.valid.length))
theorem not_any {α : Type} (l : List α) (g h : α → Bool) (e : ∀ x, g x = !h x) : l.any g = !l.all h := by
  induction l with
  | nil => rfl
  | cons x l ih => simp [e x, ih, Bool.not_and]
end Go.Proofs.Ytolgpokppnajdaa.G
set_option linter.unusedVariables false
set_option linter.unusedSimpArgs false
namespace Go.Proofs.Ytolgpokppnajdaa.G
open Go Go.Ab

def keyOf (b : ByteArray) : Key := .s b.data.toList
theorem keyOf_inj {a b : ByteArray} (h : keyOf a = keyOf b) : a = b := by
  simp only [keyOf, Key.s.injEq] at h
  exact byteArray_ext (Array.toList_inj.1 h)
theorem ins_keys {es : List (Key × AV)} {x k : Key} {v : AV} : k ∈ (insM es x v).map (·.1) ↔ k ∈ es.map (·.1) ∨ k = x := by
  induction es with
  | nil => simp [insM]
  | cons e es ih =>
    simp only [insM]
    split
    · rename_i h
      subst h
      simp only [List.map_cons, List.mem_cons]
      constructor
      · rintro (h | h)
        · exact .inr h
        · exact .inl (.inr h)
      · rintro ((h | h) | h)
        · exact .inl h
        · exact .inr h
        · exact .inl h
    · simp only [List.map_cons, List.mem_cons, ih, or_assoc]
theorem ins_len_in {es : List (Key × AV)} {x : Key} {v : AV} (h : x ∈ es.map (·.1)) : (insM es x v).length = es.length := by
  induction es with
  | nil => simp at h
  | cons e es ih =>
    simp only [insM]
    split
    · rfl
    · rename_i hne
      have : x ∈ es.map (·.1) := by
        rcases List.mem_cons.1 h with h | h
        · exact absurd h.symm hne
        · exact h
      simp [ih this]
/-- What a map tells of a list. -/
structure Tells (es : List (Key × AV)) (l : List Key) : Prop where
  mem : ∀ k, k ∈ es.map (·.1) ↔ k ∈ l
  le : es.length ≤ l.length
  eq : es.length = l.length ↔ l.Nodup
theorem Tells.nil : Tells [] [] := ⟨fun k => by simp, Nat.le_refl _, by simp⟩
theorem Tells.add {es : List (Key × AV)} {l : List Key} (h : Tells es l) (x : Key) (v : AV) : Tells (insM es x v) (l ++ [x]) where
  mem k := by rw [ins_keys, h.mem, List.mem_append, List.mem_singleton]
  le := by
    have := h.le
    by_cases c : x ∈ es.map (·.1)
    · rw [ins_len_in c]; simp; omega
    · rw [insM_none (kix_none.2 c)]; simp; omega
  eq := by
    have hle := h.le
    rw [List.nodup_append]
    by_cases c : x ∈ es.map (·.1)
    · rw [ins_len_in c]
      constructor
      · intro e; simp at e; omega
      · rintro ⟨_, _, h3⟩
        exact absurd rfl (h3 x ((h.mem x).1 c) x (by simp))
    · rw [insM_none (kix_none.2 c)]
      simp only [List.length_append, List.length_singleton, Nat.add_right_cancel_iff, h.eq]
      constructor
      · intro e
        refine ⟨e, by simp, fun a ha b hb => ?_⟩
        have : b = x := by simpa using hb
        subst this
        rintro rfl
        exact c ((h.mem _).2 ha)
      · exact fun e => e.1

/-- What must be of names. -/
def nameOk (c : Ci) (x : Na) : Prop := wordB x.text = true ∧ 0 ≤ x.pos ∧ x.pos < c.many x.kind
def nameLt (y x : Na) : Prop := rankI y.kind < rankI x.kind ∨ rankI y.kind = rankI x.kind ∧ y.pos < x.pos
structure NamesR (c : Ci) (n : Nat) : Prop where
  ok : ∀ i (h : i < c.names.length), i < n → nameOk c c.names[i]
  lt : ∀ i (h : i + 1 < c.names.length), i + 1 < n → nameLt c.names[i] c.names[i + 1]
  nodup : ((c.names.take n).map fun x => keyOf x.text).Nodup
open Classical in
noncomputable def namesB (c : Ci) : Bool := decide (NamesR c c.names.length)
theorem NamesR.zero (c : Ci) : NamesR c 0 := ⟨fun _ _ h => by omega, fun _ _ h => by omega, by simp⟩
theorem NamesR.no_ok {c : Ci} {i : Nat} (h : i < c.names.length) (hn : ¬ nameOk c c.names[i]) : namesB c = false := by
  simp only [namesB, decide_eq_false_iff_not]
  exact fun h' => hn (h'.ok i h h)
theorem NamesR.no_lt {c : Ci} {i : Nat} (h : i + 1 < c.names.length) (hn : ¬ nameLt c.names[i] c.names[i + 1]) : namesB c = false := by
  simp only [namesB, decide_eq_false_iff_not]
  exact fun h' => hn (h'.lt i h h)

@[simp] theorem lenS_nL (l : List Na) {S : Store} {K : AV → Store → Prop} : lenS (nL l) S K = K (aI l.length) S := by simp [nL]
theorem ixS_nL {l : List Na} {e i : Nat} {S : Store} {K : AV → Store → Prop} (h : i < l.length) : ixS e 3 (nL l) (aI i) S K = K (.q l[i].row 0) S := by
  unfold nL
  rw [ixS_l (by simpa using h) (by simp [Na.row])]
  simp
theorem ldN_q3 {u v z : AV} {S : Store} {K : AV → Store → Prop} : ldN 3 (.q [u, v, z] 0) S K = K (.a [u, v, z]) S := by simp [ldN, rdN, place]
theorem keyS (b : ByteArray) : keyA .s (.v (.string b)) = some (keyOf b) := rfl
theorem lkM_mt {S : Store} {kk : KK} {z : AV} {c : Bool} {k : AV} {key : Key} {es : List (Key × AV)} {K : AV → Store → Prop} (hk : keyA kk k = some key) : lkM kk z c (.mt kk es) k S K = K (lkV z c (lkp es key)) S := by
  simp [lkM, entsA, hk]
theorem lkV_many (c : Ci) (k : Int) : lkV (aI 0) false (lkp c.manyE (.i k)) = aI (c.many k) := lkp_many c k
theorem wrap32 {k : Int} (h0 : 0 ≤ k) (h1 : k < 256) : IntKind.i32.wrap k = k := by rw [IntKind.wrap_i32]; omega

theorem ans41 {c : Ci} (hc : c.ok) : Ans Try.prog 41 [c.av] (aB (namesB c)) := by
  intro S
  refine ACalls.ans_v (calls41 ?_)
  have hlen := hc.nlen
  unfold m41
  refine boxA_of rfl fun S1 k1 n1 o1 => ?_
  rw [ldN_p (n := 8) o1 rfl]
  refine callF_ans (ans34 c) ?_
  unfold mkM
  show shift _ _ _ _
  have k2 := k1.new (.map .s [] true)
  have p2 : (S1.new (.map .s [] true)).obj S.n = _ := (new_lt (by omega)).trans o1
  rw [shift_p, ld1_p p2 rfl rfl, lenS_nL]
  refine loop41_0 (fun y S' => Keep S S' ∧ S1.n < S'.n ∧ S'.obj S.n = some (.cells 27 [c.cells] true) ∧ ∃ i : Nat, y = aI i ∧ i ≤ c.names.length ∧
      (∀ j (h : j < c.names.length), j < i → nameOk c c.names[j]) ∧ (∀ j (h : j + 1 < c.names.length), j + 1 < i → nameLt c.names[j] c.names[j + 1]) ∧ ∃ es, S'.obj S1.n = some (.map .s es true) ∧ Tells es ((c.names.take i).map fun x => keyOf x.text))
    (fun y _ => c.names.length - ((intA y).getD 0).toNat) ⟨k2, by simp, p2, 0, rfl, Nat.zero_le _, fun j _ h => by omega, fun j _ h => by omega, [], new_self _, by simpa using Tells.nil⟩ ?_
  rintro _ S3 ⟨k3, n3, p3, i, rfl, hi, hok, hltn, es, m3, ht⟩ KE hKE
  unfold b41_0
  rw [bin_lss, onB_v]
  refine gd_of (fun hlt => ?_) (fun hge => ?_)
  · have hlt : i < c.names.length := by simpa using hlt
    have hx := hc.names _ (List.getElem_mem hlt)
    rw [ixS_nL hlt]
    generalize hxe : c.names[i] = x at *
    have hno := fun h => NamesR.no_ok hlt (hxe ▸ h)
    unfold Na.row
    rw [ldN_q3]
    refine boxA_of rfl fun S4 k4 n4 o4 => ?_
    refine stA_of o4 rfl rfl fun S5 n5 o5 f5 => ?_
    have k5 : Keep S S5 := (k3.trans k4).st (by have := k3.1; omega) n5 f5
    have p5 : S5.obj S.n = _ := (f5 _ (by omega)).trans ((k4.2 _ (by omega)).trans p3)
    have m5 : S5.obj S1.n = _ := (f5 _ (by omega)).trans ((k4.2 _ (by omega)).trans m3)
    rw [shift_p, ld1_p o5 rfl rfl]
    refine callF_ans (ans55 x.text hx.2.2.2) ?_
    rw [un_not, onB_v]
    refine gd_of (fun h1 => ⟨?_, k5⟩) (fun h1 => ?_)
    · rw [hno (fun h => by rw [h.1] at h1; cases h1)]
    rw [shift_p, ld1_p o5 rfl rfl]
    refine callF_ans (ans56 x.kind hx.1 hx.2.1) ?_
    rw [bin_lss, onB_v]
    refine gd_of (fun h2 => ⟨?_, k5⟩) (fun h2 => ?_)
    · rw [hno (fun h => by have := h.2; rw [many_no (of_decide_eq_true h2)] at this; omega)]
    rw [shift_p, ld1_p o5 rfl rfl, bin_lss, onB_v]
    refine gd_of (fun h3 => ⟨?_, k5⟩) (fun h3 => ?_)
    · rw [hno (fun h => by have := h.2; have := of_decide_eq_true h3; omega)]
    rw [shift_p, ld1_p o5 rfl rfl, shift_p, ld1_p o5 rfl rfl, convI_v, wrap32 hx.1 hx.2.1, lkM_mt (keyI _ _)]
    rw [lkV_many]
    rw [bin_geq, onB_v]
    refine gd_of (fun h4 => ⟨?_, k5⟩) (fun h4 => ?_)
    · rw [hno (fun h => by have := h.2; have := of_decide_eq_true h4; omega)]
    have hgood : nameOk c x := ⟨by simpa using h1, by have := of_decide_eq_false h3; omega, by have := of_decide_eq_false h4; omega⟩
    rw [shift_p, ld1_p o5 rfl rfl, bld_of (cs := []) rfl, updM_m m5 (keyS _)]
    have k6 := k5.upd (id := S1.n) (by omega) (.map .s (insM es (keyOf x.text) (.a [])) true)
    have p6 : (Store.upd S5 S1.n (.map .s (insM es (keyOf x.text) (.a [])) true)).obj S.n = _ := (upd_ne (by omega)).trans p5
    have o6 : (Store.upd S5 S1.n (.map .s (insM es (keyOf x.text) (.a [])) true)).obj S3.n = _ := (upd_ne (by omega)).trans o5
    have m6 : (Store.upd S5 S1.n (.map .s (insM es (keyOf x.text) (.a [])) true)).obj S1.n = _ := upd_self _ _
    have n6 : S4.n = (Store.upd S5 S1.n (.map .s (insM es (keyOf x.text) (.a [])) true)).n := n5.symm
    have n6' : S3.n + 1 = (Store.upd S5 S1.n (.map .s (insM es (keyOf x.text) (.a [])) true)).n := by rw [← n6, n4]
    generalize Store.upd S5 S1.n (.map .s (insM es (keyOf x.text) (.a [])) true) = S6 at *
    have ht' : Tells (insM es (keyOf x.text) (.a [])) ((c.names.take (i + 1)).map fun x => keyOf x.text) := by
      rw [List.take_add_one, List.getElem?_eq_getElem hlt, hxe, List.map_append]
      exact ht.add _ _
    have hok' : ∀ j (h : j < c.names.length), j < i + 1 → nameOk c c.names[j] := fun j hj hj' => by
      rcases Nat.lt_or_ge j i with h | h
      · exact hok j hj h
      · have : j = i := by omega
        subst this
        rw [hxe]; exact hgood
    have hadd : ∀ K : AV → Store → Prop, ∀ S, bin .add 0 (.v (.int .i64 (i : Int))) (.v (.int .i64 1)) S K = K (aI (i + 1 : Nat)) S := fun K S => bin_add (by omega) (by omega) 0
    have hμ : c.names.length - ((intA (aI (i + 1 : Nat))).getD 0).toNat < c.names.length - ((intA (aI i)).getD 0).toNat := by simp [intA]; omega
    rw [bin_eql, onB_v]
    refine gd_of (fun h5 => ?_) (fun h5 => ?_)
    · have h5 : i = 0 := by have := of_decide_eq_true h5; omega
      rw [hadd]
      exact hKE _ _ ⟨k6, by omega, p6, i + 1, rfl, hlt, hok', fun j hj hj' => by omega, _, m6, ht'⟩ hμ
    · have h5 : i ≠ 0 := by have := of_decide_eq_false h5; omega
      obtain ⟨j, rfl⟩ : ∃ j, i = j + 1 := ⟨i - 1, by omega⟩
      have hj : j < c.names.length := by omega
      have hy := hc.names _ (List.getElem_mem hj)
      have hsub : ∀ K : AV → Store → Prop, ∀ S, bin .sub 0 (.v (.int .i64 ((j + 1 : Nat) : Int))) (.v (.int .i64 1)) S K = K (aI j) S := fun K S => (bin_sub (by omega) (by omega) 0).trans (by rw [show ((j + 1 : Nat) : Int) - 1 = j by omega])
      rw [shift_p, ld1_p p6 rfl rfl, hsub, ixS_nL hj]
      have hnl : ¬ nameLt c.names[j] x → namesB c = false := fun h => NamesR.no_lt hlt (by rw [hxe]; exact h)
      generalize hye : c.names[j] = y at *
      unfold Na.row
      rw [ldN_q3]
      refine boxA_of rfl fun S7 k7 n7 o7 => ?_
      refine stA_of o7 rfl rfl fun S8 n8 o8 f8 => ?_
      have k8 : Keep S S8 := (k6.trans k7).st (by have := k6.1; omega) n8 f8
      have p8 : S8.obj S.n = _ := (f8 _ (by omega)).trans ((k7.2 _ (by omega)).trans p6)
      have m8 : S8.obj S1.n = _ := (f8 _ (by omega)).trans ((k7.2 _ (by omega)).trans m6)
      have q8 : S8.obj S3.n = _ := (f8 _ (by omega)).trans ((k7.2 _ (by omega)).trans o6)
      show ∃ q50 : AV, _
      refine ⟨_, by rw [shift_p]; exact ⟨rfl, rfl⟩, ?_⟩
      refine ⟨_, by rw [ld1_p o8 rfl rfl]; exact ⟨rfl, rfl⟩, ?_⟩
      refine ⟨_, callF_ans (ans56 y.kind hy.1 hy.2.1) ⟨rfl, rfl⟩, ?_⟩
      refine ⟨_, by rw [shift_p]; exact ⟨rfl, rfl⟩, ?_⟩
      refine ⟨_, by rw [ld1_p q8 rfl rfl]; exact ⟨rfl, rfl⟩, ?_⟩
      refine ⟨_, callF_ans (ans56 x.kind hx.1 hx.2.1) ⟨rfl, rfl⟩, ?_⟩
      refine ⟨_, callF_ans (ans58 _ _) ⟨rfl, rfl⟩, ?_⟩
      refine ⟨_, by rw [shift_p]; exact ⟨rfl, rfl⟩, ?_⟩
      refine ⟨_, by rw [ld1_p o8 rfl rfl]; exact ⟨rfl, rfl⟩, ?_⟩
      refine ⟨_, by rw [shift_p]; exact ⟨rfl, rfl⟩, ?_⟩
      refine ⟨_, by rw [ld1_p q8 rfl rfl]; exact ⟨rfl, rfl⟩, ?_⟩
      refine ⟨_, callF_ans (ans58 _ _) ⟨rfl, rfl⟩, ?_⟩
      refine ⟨_, bsl2 rfl rfl ⟨rfl, rfl⟩, ?_⟩
      refine ⟨_, callF_ans (ans57 _ _) ⟨rfl, rfl⟩, ?_⟩
      refine ⟨_, by rw [bin_geq]; exact ⟨rfl, rfl⟩, ?_⟩
      rw [onB_v]
      have hcmp : (0 ≤ if cmpZ (rankI y.kind) (rankI x.kind) ≠ 0 then cmpZ (rankI y.kind) (rankI x.kind) else cmpZ y.pos x.pos) ↔ ¬ nameLt y x := by
        unfold cmpZ nameLt
        repeat' split
        all_goals omega
      refine gd_of (fun h6 => ⟨?_, k8⟩) (fun h6 => ?_)
      · rw [hnl (hcmp.1 (of_decide_eq_true h6))]
      · rw [hadd]
        refine hKE _ _ ⟨k8, by omega, p8, j + 1 + 1, rfl, hlt, hok', fun k hk hk' => ?_, _, m8, ht'⟩ hμ
        rcases Nat.lt_or_ge (k + 1) (j + 1) with h | h
        · exact hltn k hk h
        · have : k = j := by omega
          subst this
          rw [hxe, hye]
          have := of_decide_eq_false h6
          exact Classical.not_not.1 fun hh => this (hcmp.2 hh)
  · have hge : i = c.names.length := by simp at hge; omega
    subst hge
    rw [lenM_m m3, shift_p, ld1_p p3 rfl rfl, lenS_nL, bin_eql]
    refine ⟨?_, k3⟩
    congr 3
    simp only [namesB, decide_eq_decide]
    have := ht.eq
    rw [List.length_map, List.length_take, Nat.min_self] at this
    rw [Int.natCast_inj, this]
    exact ⟨fun h => ⟨hok, hltn, h⟩, fun h => h.nodup⟩
end Go.Proofs.Ytolgpokppnajdaa.G
set_option linter.unusedVariables false
set_option linter.unusedSimpArgs false
namespace Go.Proofs.Ytolgpokppnajdaa.G
open Go Go.Ab

theorem ans48 {c : Ci} (hc : c.ok) : Ans Try.prog 48 [c.av] (aB (namesB c)) := by
  intro S
  refine ACalls.ans_v (calls48 ?_)
  have hlen := hc.nlen
  unfold m48
  refine boxA_of rfl fun S1 k1 n1 o1 => ?_
  refine loop48_0 (fun y S' => Keep S S' ∧ S.n < S'.n ∧ S'.obj S.n = some (.cells 27 [c.cells] true) ∧ ∃ i : Nat, y = aI i ∧ i ≤ c.names.length ∧ NamesR c i)
    (fun y _ => c.names.length - ((intA y).getD 0).toNat) ⟨k1, by omega, o1, 0, rfl, Nat.zero_le _, NamesR.zero c⟩ ?_
  rintro _ S3 ⟨k3, n3, p3, i, rfl, hi, hR⟩ KE hKE
  unfold b48_0
  rw [shift_p, ld1_p p3 rfl rfl, lenS_nL, bin_lss, onB_v]
  refine gd_of (fun hlt => ?_) (fun hge => ?_)
  · have hlt : i < c.names.length := by simpa using hlt
    have hx := hc.names _ (List.getElem_mem hlt)
    rw [shift_p, ld1_p p3 rfl rfl, ixS_nL hlt]
    generalize hxe : c.names[i] = x at *
    have hno := fun h => NamesR.no_ok hlt (hxe ▸ h)
    have hrow : x.row = [.v (.int .u8 x.kind), aI x.pos, .v (.string x.text)] := rfl
    rw [hrow, ldN_q3]
    refine boxA_of rfl fun S4 k4 n4 o4 => ?_
    refine stA_of o4 rfl rfl fun S5 n5 o5 f5 => ?_
    have k5 : Keep S S5 := (k3.trans k4).st (by have := k3.1; omega) n5 f5
    have p5 : S5.obj S.n = _ := (f5 _ (by omega)).trans ((k4.2 _ (by omega)).trans p3)
    show ∃ q13 : AV, _
    refine ⟨_, by rw [shift_p]; exact ⟨rfl, rfl⟩, ?_⟩
    refine ⟨_, by rw [ld1_p o5 rfl rfl]; exact ⟨rfl, rfl⟩, ?_⟩
    refine ⟨_, callF_ans (ans59 x.text hx.2.2.2) ⟨rfl, rfl⟩, ?_⟩
    refine ⟨_, by rw [un_not]; exact ⟨rfl, rfl⟩, ?_⟩
    rw [onB_v]
    refine gd_of (fun h1 => ?_) (fun h1 => ?_)
    · refine ⟨_, ⟨rfl, rfl⟩, ?_⟩
      rw [onB_v, gd_true]
      refine ⟨_, ⟨rfl, rfl⟩, ?_⟩
      rw [onB_v, gd_true]
      exact ⟨by rw [hno (fun h => by rw [h.1] at h1; cases h1)], k5⟩
    refine ⟨_, by rw [shift_p]; exact ⟨rfl, rfl⟩, ?_⟩
    refine ⟨_, by rw [ld1_p o5 rfl rfl]; exact ⟨rfl, rfl⟩, ?_⟩
    refine ⟨_, by rw [bin_lss]; exact ⟨rfl, rfl⟩, ?_⟩
    refine ⟨_, ⟨rfl, rfl⟩, ?_⟩
    rw [onB_v]
    refine gd_of (fun h3 => ?_) (fun h3 => ?_)
    · refine ⟨_, ⟨rfl, rfl⟩, ?_⟩
      rw [onB_v, gd_true]
      exact ⟨by rw [hno (fun h => by have := h.2; have := of_decide_eq_true h3; omega)], k5⟩
    refine ⟨_, by rw [shift_p]; exact ⟨rfl, rfl⟩, ?_⟩
    refine ⟨_, by rw [ld1_p o5 rfl rfl]; exact ⟨rfl, rfl⟩, ?_⟩
    refine ⟨_, by rw [ldN_p (n := 8) p5 rfl]; exact ⟨rfl, rfl⟩, ?_⟩
    refine ⟨_, by rw [shift_p]; exact ⟨rfl, rfl⟩, ?_⟩
    refine ⟨_, by rw [ld1_p o5 rfl rfl]; exact ⟨rfl, rfl⟩, ?_⟩
    refine ⟨_, callF_ans (ans60 c x.kind) ⟨rfl, rfl⟩, ?_⟩
    refine ⟨_, by rw [bin_geq]; exact ⟨rfl, rfl⟩, ?_⟩
    refine ⟨_, ⟨rfl, rfl⟩, ?_⟩
    rw [onB_v]
    refine gd_of (fun h4 => ⟨?_, k5⟩) (fun h4 => ?_)
    · rw [hno (fun h => by have := h.2; have := of_decide_eq_true h4; omega)]
    have hgood : nameOk c x := ⟨by simpa using h1, by have := of_decide_eq_false h3; omega, by have := of_decide_eq_false h4; omega⟩
    have hok' : ∀ j (h : j < c.names.length), j < i + 1 → nameOk c c.names[j] := fun j hj hj' => by
      rcases Nat.lt_or_ge j i with h | h
      · exact hR.ok j hj h
      · have : j = i := by omega
        subst this
        rw [hxe]; exact hgood
    refine loop48_1 (fun y S' => S' = S5 ∧ ∃ k : Nat, y = aI k ∧ k ≤ i ∧ ∀ j (hj : j < k) (hk : k ≤ i), (c.names[j]'(by omega)).text ≠ x.text)
      (fun y _ => i - ((intA y).getD 0).toNat) ⟨rfl, 0, rfl, Nat.zero_le _, fun j hj => (Nat.not_lt_zero _ hj).elim⟩ ?_
    rintro _ S5 ⟨rfl, k, rfl, hk, hne⟩ KE1 hKE1
    unfold b48_1
    rw [bin_lss, onB_v]
    refine gd_of (fun hlk => ?_) (fun hgk => ?_)
    · have hlk : k < i := by simpa using hlk
      have hkl : k < c.names.length := by omega
      show ∃ q70 : AV, _
      refine ⟨_, by rw [shift_p]; exact ⟨rfl, rfl⟩, ?_⟩
      refine ⟨_, by rw [ld1_p p5 rfl rfl]; exact ⟨rfl, rfl⟩, ?_⟩
      refine ⟨_, by rw [ixS_nL hkl]; exact ⟨rfl, rfl⟩, ?_⟩
      refine ⟨_, by rw [shift_q]; exact ⟨rfl, rfl⟩, ?_⟩
      refine ⟨_, by rw [ld1_qj (u := .v (.string c.names[k].text)) rfl]; exact ⟨rfl, rfl⟩, ?_⟩
      refine ⟨_, by rw [shift_p]; exact ⟨rfl, rfl⟩, ?_⟩
      refine ⟨_, by rw [ld1_p o5 rfl rfl]; exact ⟨rfl, rfl⟩, ?_⟩
      refine ⟨_, by rw [bin_eqlS]; exact ⟨rfl, rfl⟩, ?_⟩
      rw [onB_v]
      refine gd_of (fun h6 => ⟨?_, k5⟩) (fun h6 => ?_)
      · have h6 : c.names[k].text = x.text := of_decide_eq_true h6
        have : namesB c = false := by
          simp only [namesB, decide_eq_false_iff_not]
          intro h'
          have hnd := h'.nodup
          rw [List.take_length] at hnd
          have := List.pairwise_iff_getElem.1 hnd k i (by simpa using hkl) (by simpa using hlt) hlk
          simp only [List.getElem_map, hxe, h6] at this
          exact this rfl
        rw [this]
      · have hadd : ∀ K : AV → Store → Prop, ∀ S, bin .add 0 (.v (.int .i64 (k : Int))) (.v (.int .i64 1)) S K = K (aI (k + 1 : Nat)) S := fun K S => bin_add (by omega) (by omega) 0
        rw [hadd]
        refine hKE1 _ _ ⟨rfl, k + 1, rfl, hlk, fun j hj _ => ?_⟩ (by simp [intA]; omega)
        rcases Nat.lt_or_ge j k with hj' | hj'
        · exact hne j hj' (by omega)
        · have : j = k := by omega
          subst this
          exact of_decide_eq_false h6
    · have hge : k = i := by simp at hgk; omega
      subst hge
      have hnd' : ((c.names.take (k + 1)).map fun x => keyOf x.text).Nodup := by
        have h := hR.nodup
        rw [List.take_add_one, List.getElem?_eq_getElem hlt, List.map_append, List.nodup_append]
        refine ⟨h, by simp, fun a ha b hb => ?_⟩
        rw [List.mem_map] at ha hb
        obtain ⟨y, hy, rfl⟩ := ha
        obtain ⟨z, hz, rfl⟩ := hb
        have : z = x := by simpa [hxe] using hz
        subst this
        rw [List.mem_take_iff_getElem] at hy
        obtain ⟨j, hj, rfl⟩ := hy
        exact fun e => hne j (by omega) (Nat.le_refl _) (keyOf_inj e)
      have hadd : ∀ K : AV → Store → Prop, ∀ S, bin .add 0 (.v (.int .i64 (k : Int))) (.v (.int .i64 1)) S K = K (aI (k + 1 : Nat)) S := fun K S => bin_add (by omega) (by omega) 0
      have hμ : c.names.length - ((intA (aI (k + 1 : Nat))).getD 0).toNat < c.names.length - ((intA (aI k)).getD 0).toNat := by simp [intA]; omega
      have next : (∀ j (h : j + 1 < c.names.length), j + 1 = k → nameLt c.names[j] x) → KE _ (env48_0 (.p S.n 0 0) (aI (k + 1 : Nat))) S5 := fun hl => hKE _ _ ⟨k5, by omega, p5, k + 1, rfl, hlt, hok', fun j hj hj' => by
        rcases Nat.lt_or_ge (j + 1) k with h | h
        · exact hR.lt j hj h
        · have e : j + 1 = k := by omega
          have := hl j hj e
          subst e
          rw [hxe]; exact this, hnd'⟩ hμ
      rw [bin_gtr, onB_v]
      refine gd_of (fun h7 => ?_) (fun h7 => ?_)
      · obtain ⟨j, rfl⟩ : ∃ j, k = j + 1 := ⟨k - 1, by have := of_decide_eq_true h7; omega⟩
        have hj : j < c.names.length := by omega
        have hnl : ¬ nameLt c.names[j] x → namesB c = false := fun h => NamesR.no_lt hlt (by rw [hxe]; exact h)
        have next := fun (h : nameLt c.names[j] x) => next (fun j' hj' e => by
          have : j' = j := by omega
          subst this
          exact h)
        have hsub : ∀ K : AV → Store → Prop, ∀ S, bin .sub 0 (.v (.int .i64 ((j + 1 : Nat) : Int))) (.v (.int .i64 1)) S K = K (aI j) S := fun K S => (bin_sub (by omega) (by omega) 0).trans (by rw [show ((j + 1 : Nat) : Int) - 1 = j by omega])
        have hix : ∀ K : AV → Store → Prop, ixS 54 3 (nL c.names) (aI j) S5 K = K (.q c.names[j].row 0) S5 := fun K => ixS_nL hj
        generalize hye : c.names[j] = y at *
        have hrow' : y.row = [.v (.int .u8 y.kind), aI y.pos, .v (.string y.text)] := rfl
        show ∃ q90 : AV, _
        refine ⟨_, by rw [shift_p]; exact ⟨rfl, rfl⟩, ?_⟩
        refine ⟨_, by rw [ld1_p p5 rfl rfl]; exact ⟨rfl, rfl⟩, ?_⟩
        refine ⟨_, by rw [hsub]; exact ⟨rfl, rfl⟩, ?_⟩
        refine ⟨_, by rw [hix]; exact ⟨rfl, rfl⟩, ?_⟩
        refine ⟨_, by rw [shift_q]; exact ⟨rfl, rfl⟩, ?_⟩
        refine ⟨_, by rw [ld1_qj (u := .v (.int .u8 y.kind)) rfl]; exact ⟨rfl, rfl⟩, ?_⟩
        refine ⟨_, callF_ans (ans61 y.kind) ⟨rfl, rfl⟩, ?_⟩
        refine ⟨_, by rw [shift_p]; exact ⟨rfl, rfl⟩, ?_⟩
        refine ⟨_, by rw [ld1_p o5 rfl rfl]; exact ⟨rfl, rfl⟩, ?_⟩
        refine ⟨_, callF_ans (ans61 x.kind) ⟨rfl, rfl⟩, ?_⟩
        show ∃ q110 : AV, _
        refine ⟨_, by rw [bin_gtr]; exact ⟨rfl, rfl⟩, ?_⟩
        rw [onB_v]
        refine gd_of (fun h8 => ?_) (fun h8 => ?_)
        · refine ⟨_, ⟨rfl, rfl⟩, ?_⟩
          rw [onB_v, gd_true]
          refine ⟨?_, k5⟩
          have h8 := of_decide_eq_true h8
          rw [hnl (by unfold nameLt; omega)]
        have h8 := of_decide_eq_false h8
        refine ⟨_, by rw [bin_eql]; exact ⟨rfl, rfl⟩, ?_⟩
        rw [onB_v]
        refine gd_of (fun h9 => ?_) (fun h9 => ?_)
        · have h9 : rankI y.kind = rankI x.kind := of_decide_eq_true h9
          refine ⟨_, by rw [shift_p]; exact ⟨rfl, rfl⟩, ?_⟩
          refine ⟨_, by rw [ld1_p p5 rfl rfl]; exact ⟨rfl, rfl⟩, ?_⟩
          refine ⟨_, by rw [hsub]; exact ⟨rfl, rfl⟩, ?_⟩
          refine ⟨_, by rw [hix]; exact ⟨rfl, rfl⟩, ?_⟩
          refine ⟨_, by rw [shift_q]; exact ⟨rfl, rfl⟩, ?_⟩
          refine ⟨_, by rw [ld1_qj (u := aI y.pos) rfl]; exact ⟨rfl, rfl⟩, ?_⟩
          refine ⟨_, by rw [shift_p]; exact ⟨rfl, rfl⟩, ?_⟩
          refine ⟨_, by rw [ld1_p o5 rfl rfl]; exact ⟨rfl, rfl⟩, ?_⟩
          refine ⟨_, by rw [bin_geq]; exact ⟨rfl, rfl⟩, ?_⟩
          refine ⟨_, ⟨rfl, rfl⟩, ?_⟩
          refine ⟨_, ⟨rfl, rfl⟩, ?_⟩
          rw [onB_v]
          refine gd_of (fun h10 => ⟨?_, k5⟩) (fun h10 => ?_)
          · have h10 := of_decide_eq_true h10
            rw [hnl (by unfold nameLt; omega)]
          · have h10 := of_decide_eq_false h10
            rw [hadd]
            exact next (by unfold nameLt; omega)
        · have h9 : ¬ rankI y.kind = rankI x.kind := of_decide_eq_false h9
          refine ⟨_, ⟨rfl, rfl⟩, ?_⟩
          refine ⟨_, ⟨rfl, rfl⟩, ?_⟩
          rw [onB_v, gd_false, hadd]
          exact next (by unfold nameLt; omega)
      · rw [hadd]
        exact next (fun j hj e => by have := of_decide_eq_false h7; omega)
  · have hge : i = c.names.length := by simp at hge; omega
    subst hge
    refine ⟨?_, k3⟩
    have : namesB c = true := by simp only [namesB, decide_eq_true_eq]; exact hR
    rw [this]

/-- Are all literals of a graph? -/
theorem ans47 {g : Gr} {l : List Int} (hg : g.ok) (hl : ∀ x ∈ l, i64R x) (hn : l.length ≤ 9223372036854775807) : Ans Try.prog 47 [g.av, aL aI l] (aB (l.all g.lit && decide (l.length ≤ 2000))) := by
  intro S
  refine ACalls.ans_v (calls47 ?_)
  unfold m47
  refine boxA_of rfl fun S1 k1 n1 o1 => ?_
  refine loop47_0 (fun y S' => S' = S1 ∧ ∃ i : Nat, y = aI i ∧ i ≤ l.length ∧ ∀ j (h : j < l.length), j < i → g.lit l[j] = true)
    (fun y _ => l.length - ((intA y).getD 0).toNat) ⟨rfl, 0, rfl, Nat.zero_le _, fun j _ hj => (Nat.not_lt_zero _ hj).elim⟩ ?_
  rintro _ S1 ⟨rfl, i, rfl, hi, hok⟩ KE hKE
  unfold b47_0
  rw [lenS_aL, bin_lss, onB_v]
  refine gd_of (fun hlt => ?_) (fun hge => ?_)
  · have hlt : i < l.length := by simpa using hlt
    have hm := List.getElem_mem hlt
    show ∃ q5 : AV, _
    refine ⟨_, by rw [ldN_p (n := 2) o1 rfl]; exact ⟨rfl, rfl⟩, ?_⟩
    refine ⟨_, by rw [ixS_aL hlt]; exact ⟨rfl, rfl⟩, ?_⟩
    refine ⟨_, by rw [ld1_q]; exact ⟨rfl, rfl⟩, ?_⟩
    refine ⟨_, callF_ans (ans46 hg (hl _ hm)) ⟨rfl, rfl⟩, ?_⟩
    refine ⟨_, by rw [un_not]; exact ⟨rfl, rfl⟩, ?_⟩
    rw [onB_v]
    refine gd_of (fun h => ⟨?_, k1⟩) (fun h => ?_)
    · have : l.all g.lit = false := by
        rw [List.all_eq_false]
        exact ⟨_, hm, by simpa using h⟩
      rw [this]; rfl
    · have hadd : ∀ K : AV → Store → Prop, ∀ S, bin .add 0 (.v (.int .i64 (i : Int))) (.v (.int .i64 1)) S K = K (aI (i + 1 : Nat)) S := fun K S => bin_add (by omega) (by omega) 0
      rw [hadd]
      refine hKE _ _ ⟨rfl, i + 1, rfl, hlt, fun j hj hj' => ?_⟩ (by simp [intA]; omega)
      rcases Nat.lt_or_ge j i with h' | h'
      · exact hok j hj h'
      · have : j = i := by omega
        subst this
        simpa using h
  · have hge : i = l.length := by simp at hge; omega
    subst hge
    rw [lenS_aL, bin_leq]
    refine ⟨?_, k1⟩
    have : l.all g.lit = true := by
      rw [List.all_eq_true]
      intro x hx
      obtain ⟨j, hj, rfl⟩ := List.getElem_of_mem hx
      exact hok j hj hj
    rw [this, Bool.true_and, show decide ((l.length : Int) ≤ 2000) = decide (l.length ≤ 2000) from decide_eq_decide.2 (by omega)]
end Go.Proofs.Ytolgpokppnajdaa.G
set_option linter.unusedVariables false
set_option linter.unusedSimpArgs false
namespace Go.Proofs.Ytolgpokppnajdaa.G
open Go Go.Ab

def latOk (g : Gr) (p : Int × Int) : Bool := g.lit p.1 && (decide (0 ≤ p.2) && decide (p.2 ≤ 2))
def Ci.manyL (c : Ci) : List Int := [c.inputs, c.latches.length, c.outs.length, c.bads.length, c.cons.length, c.fair.length]
noncomputable def Ci.right (c : Ci) : Bool :=
  c.manyL.all (fun n => decide (0 ≤ n) && decide (n ≤ 2000)) && (c.gr.right && (c.latches.all (latOk c.gr) && (c.outs.all c.gr.lit && (c.bads.all c.gr.lit && (c.cons.all c.gr.lit && (c.fair.all c.gr.lit && namesB c))))))

theorem at35 {S : Store} {g : Gr} {id : Nat} {l : Int} (hg : g.ok) (hl : i64R l) (h : S.obj id = some (.cells 49 [g.cells] true)) : AnsAt Try.prog 35 [aI l, .p id 0 0] S (aB (!g.lit l)) := by
  refine calls35 ?_
  unfold m35
  rw [ldN_p (n := 2) h rfl]
  refine callF_ans (ans36 hg hl) ?_
  rw [un_not]
  exact ⟨rfl, rfl⟩
theorem at37 {S : Store} {g : Gr} {id fid t : Nat} {p : Int × Int} (hg : g.ok) (hl : i64R p.1) (hid : id < S.n) (hf : fid < S.n) (h : S.obj id = some (.cells 49 [g.cells] true))
    (h2 : S.obj fid = some (.cells t [[.f (.func 35) [] [.p id 0 0]]] true)) : AnsAt Try.prog 37 [.a [aI p.1, aI p.2], .p fid 0 0] S (aB (!latOk g p)) := by
  refine ACalls.ans_v (calls37 ?_)
  unfold m37
  refine boxA_of rfl fun S1 k1 n1 o1 => ?_
  have h' := (k1.2 _ hid).trans h
  have h2' := (k1.2 _ hf).trans h2
  rw [ld1_p h2' rfl rfl, shift_p, ld1_p o1 rfl rfl]
  refine callV_at (at35 hg hl h') ?_
  rw [onB_v]
  refine gd_of (fun h3 => ⟨?_, k1⟩) (fun h3 => ?_)
  · rw [Bool.not_eq_true'] at h3
    simp [latOk, h3]
  have h3 : g.lit p.1 = true := by simpa using h3
  rw [shift_p, ld1_p o1 rfl rfl, bin_lss, onB_v]
  refine gd_of (fun h4 => ⟨?_, k1⟩) (fun h4 => ?_)
  · have h4 := of_decide_eq_true h4
    simp [latOk, show ¬ 0 ≤ p.2 by omega]
  rw [shift_p, ld1_p o1 rfl rfl, bin_gtr]
  refine ⟨?_, k1⟩
  have h4 := of_decide_eq_false h4
  simp only [latOk, h3, Bool.true_and, show 0 ≤ p.2 by omega, decide_true]
  congr 4
  rw [← decide_not]
  exact decide_eq_decide.2 (by omega)
theorem at53 {l : List (Int × Int)} (hl : l.length ≤ 9223372036854775807) {g : Int × Int → Bool} {fn : FuncId} {fs cs : List AV} {S : Store}
    (hf : ∀ x, x ∈ l → AnsAt Try.prog fn (fs ++ [.a [aI x.1, aI x.2]] ++ cs) S (aB (g x))) : AnsAt Try.prog 53 [pL l, .f (.func fn) fs cs] S (aI (idxOf (l.findIdx? g))) := by
  refine calls53 ?_
  unfold m53
  rw [lenS_pL]
  refine loop53_0 (fun y S' => S' = S ∧ ∃ i : Nat, y = aI i ∧ i ≤ l.length ∧ ∀ k (hk : k < l.length), k < i → g l[k] = false) (fun y _ => l.length - ((intA y).getD 0).toNat) ⟨rfl, 0, rfl, Nat.zero_le _, fun k _ h => absurd h (Nat.not_lt_zero _)⟩ ?_
  rintro _ _ ⟨rfl, i, rfl, hi, hk⟩ KE hKE
  unfold b53_0
  rw [bin_lss, onB_v]
  refine gd_of (fun h => ?_) (fun h => ?_)
  · have hlt : i < l.length := by simpa using h
    rw [ixS_pL hlt, ldN_q2]
    refine callV_at (hf _ (List.getElem_mem hlt)) ?_
    rw [onB_v]
    refine gd_of (fun hg => ⟨?_, rfl⟩) (fun hg => ?_)
    · rw [find_at hlt hg (fun k hk' => hk k _ hk')]; rfl
    · rw [bin_add (by omega) (by omega)]
      refine hKE _ _ ⟨rfl, i + 1, rfl, hlt, fun k hk1 hk2 => ?_⟩ ?_
      · by_cases e : k = i
        · subst e; exact hg
        · exact hk k hk1 (by omega)
      · simp [intA, aI]; omega
  · have hge : i = l.length := by simp at h; omega
    subst hge
    rw [find_none (fun k hk' => hk k hk' hk')]
    exact ⟨rfl, rfl⟩
theorem at39 {l : List (Int × Int)} (hl : l.length ≤ 9223372036854775807) {g : Int × Int → Bool} {fn : FuncId} {fs cs : List AV} {S : Store}
    (hf : ∀ x, x ∈ l → AnsAt Try.prog fn (fs ++ [.a [aI x.1, aI x.2]] ++ cs) S (aB (g x))) : AnsAt Try.prog 39 [pL l, .f (.func fn) fs cs] S (aB (l.any g)) := by
  refine calls39 ?_
  unfold m39
  refine callF_at (at53 hl hf) ?_
  unfold aI
  rw [bin_geq, idx_any]
  exact ⟨rfl, rfl⟩
theorem manyE_at {c : Ci} {i : Nat} {e : Key × AV} (h : c.manyE[i]? = some e) : ∃ h' : i < 6, e.2 = aI (c.manyL[i]'h') := by
  match i with
  | 0 | 1 | 2 | 3 | 4 | 5 => cases h; exact ⟨by decide, rfl⟩
  | i + 6 => simp [Ci.manyE] at h
theorem any_not {l : List Int} {g : Int → Bool} : l.any (fun x => !g x) = !l.all g := by
  induction l with
  | nil => rfl
  | cons a l ih => simp [ih]
theorem any_notP {l : List (Int × Int)} {g : Int × Int → Bool} : l.any (fun x => !g x) = !l.all g := by
  induction l with
  | nil => rfl
  | cons a l ih => simp [ih]

theorem nodup_lt6 : ∀ {n : Nat} {l : List Nat}, l.Nodup → (∀ x ∈ l, x < n) → l.length ≤ n
  | 0, l, _, h => by
    cases l with
    | nil => simp
    | cons x l => exact absurd (h x (by simp)) (Nat.not_lt_zero _)
  | n + 1, l, hd, h => by
    have h1 := nodup_lt6 (n := n) (l := l.erase n) (hd.erase n) (fun x hx => by
      have := (hd.mem_erase_iff).1 hx
      have := h x this.2
      omega)
    by_cases hm : n ∈ l
    · have := List.length_erase_of_mem hm
      omega
    · rw [List.erase_of_not_mem hm] at h1
      omega

theorem ans17 {c : Ci} (hc : c.ok) : Ans Try.prog 17 [c.av] (aB c.right) := by
  intro S
  refine ACalls.ans_v (calls17 ?_)
  have hg := hc.gr
  unfold m17
  refine boxA_of rfl fun S1 k1 n1 o1 => ?_
  rw [ldN_p (n := 8) o1 rfl]
  refine callF_ans (ans18 c) ?_
  refine boxA_of rfl fun S2 k2 n2 o2 => ?_
  refine stA_of o2 rfl rfl fun S3 n3 o3 f3 => ?_
  have k3 : Keep S S3 := (k1.trans k2).st (by omega) n3 f3
  have p3 : S3.obj S.n = _ := (f3 _ (by omega)).trans ((k2.2 _ (by omega)).trans o1)
  rw [ldN_p (n := 8) p3 rfl]
  refine callF_ans (ans34 c) ?_
  show loopV _ _ _ _ _ _
  have hmany : ∀ (i : Nat) (h : i < 6), ¬ (0 ≤ c.manyL[i]'h ∧ c.manyL[i]'h ≤ 2000) → c.right = false := fun i h hn => by
    have : c.manyL.all (fun n => decide (0 ≤ n) && decide (n ≤ 2000)) = false := by
      rw [List.all_eq_false]
      exact ⟨_, List.getElem_mem (l := c.manyL) h, by simpa using hn⟩
    simp only [Ci.right, this, Bool.false_and]
  refine loop17_0 (fun S' => Keep S S' ∧ S3.n < S'.n ∧ S'.obj S.n = some (.cells 27 [c.cells] true) ∧ S'.obj S1.n = some (.cells 49 [c.gr.cells] true) ∧
      ∃ seen, S'.obj S3.n = some (.mit (.mt (.i .i32) c.manyE) 6 seen) ∧ seen.Nodup ∧ (∀ i ∈ seen, ∃ h : i < 6, 0 ≤ c.manyL[i]'h ∧ c.manyL[i]'h ≤ 2000))
    (fun S' => match S'.obj S3.n with | some (.mit _ _ seen) => 6 - seen.length | _ => 0)
    ⟨k3.new _, by simp, (new_lt (by omega)).trans p3, (new_lt (by omega)).trans o3, [], new_self _, by simp, fun i h => by simp at h⟩ ?_
  rintro S4 ⟨k4, n4, p4, g4, seen, m4, hnd, hse⟩ KE hKE
  unfold b17_0 nextM
  simp only [m4, mapKK, optP_some]
  refine ⟨rfl, fun i e he hi => ?_, fun hall => ?_⟩
  · obtain ⟨hi6, hev⟩ := manyE_at he
    have k5 : Keep S (Store.upd S4 S3.n (.mit (.mt (.i .i32) c.manyE) 6 (seen ++ [i]))) := k4.upd (by have := k3.1; omega) _
    have m5 : (Store.upd S4 S3.n (.mit (.mt (.i .i32) c.manyE) 6 (seen ++ [i]))).obj S3.n = _ := upd_self _ _
    have p5 : (Store.upd S4 S3.n (.mit (.mt (.i .i32) c.manyE) 6 (seen ++ [i]))).obj S.n = _ := (upd_ne (by omega)).trans p4
    have g5 : (Store.upd S4 S3.n (.mit (.mt (.i .i32) c.manyE) 6 (seen ++ [i]))).obj S1.n = _ := (upd_ne (by omega)).trans g4
    have n5 : (Store.upd S4 S3.n (.mit (.mt (.i .i32) c.manyE) 6 (seen ++ [i]))).n = S4.n := rfl
    generalize Store.upd S4 S3.n (.mit (.mt (.i .i32) c.manyE) 6 (seen ++ [i])) = S5 at *
    rw [extr0, onB_v, gd_true]
    unfold entryM
    simp only [m5, mapKK, optP_some]
    refine ⟨rfl, i, by simp, e, he, ?_⟩
    show extr _ _ _ _
    rw [extr1, hev, bin_lss, onB_v]
    refine gd_of (fun h1 => ⟨?_, k5⟩) (fun h1 => ?_)
    · rw [hmany i hi6 (fun h => by have := of_decide_eq_true h1; omega)]
    rw [bin_gtr, onB_v]
    refine gd_of (fun h2 => ⟨?_, k5⟩) (fun h2 => ?_)
    · rw [hmany i hi6 (fun h => by have := of_decide_eq_true h2; omega)]
    have h1 := of_decide_eq_false h1
    have h2 := of_decide_eq_false h2
    have hnd' : (seen ++ [i]).Nodup := by
      rw [List.nodup_append]
      refine ⟨hnd, by simp, fun a ha b hb => ?_⟩
      have : b = i := by simpa using hb
      subst this
      rintro rfl
      exact hi ha
    have hse' : ∀ j ∈ seen ++ [i], ∃ h : j < 6, 0 ≤ c.manyL[j]'h ∧ c.manyL[j]'h ≤ 2000 := fun j hj => by
      rcases List.mem_append.1 hj with hj | hj
      · exact hse j hj
      · have : j = i := by simpa using hj
        subst this
        exact ⟨hi6, by omega, by omega⟩
    have hlen : (seen ++ [i]).length ≤ 6 := by
      exact nodup_lt6 hnd' (fun x hx => (hse' x hx).1)
    refine hKE _ ⟨k5, by omega, p5, g5, _, m5, hnd', hse'⟩ ?_
    simp only [m5, m4]
    simp at hlen ⊢
    omega
  · unfold over
    rw [extr0, onB_v, gd_false]
    have hm : c.manyL.all (fun n => decide (0 ≤ n) && decide (n ≤ 2000)) = true := by
      rw [List.all_eq_true]
      intro x hx
      obtain ⟨i, hi, rfl⟩ := List.getElem_of_mem hx
      obtain ⟨h6, h0, h1⟩ := hse i (hall i hi)
      simp only [Bool.and_eq_true, decide_eq_true_eq]
      exact ⟨h0, h1⟩
    have hright : c.right = (c.gr.right && (c.latches.all (latOk c.gr) && (c.outs.all c.gr.lit && (c.bads.all c.gr.lit && (c.cons.all c.gr.lit && (c.fair.all c.gr.lit && namesB c)))))) := by
      simp only [Ci.right, hm, Bool.true_and]
    clear hm hall hse hmany
    refine box1_of rfl fun S5 k5 n5 o5 => ?_
    refine st_of o5 rfl rfl fun S6 n6 o6 f6 => ?_
    have k6 : Keep S S6 := (k4.trans k5).st (by have := k4.1; omega) n6 f6
    have p6 : S6.obj S.n = _ := (f6 _ (by omega)).trans ((k5.2 _ (by omega)).trans p4)
    have g6 : S6.obj S1.n = _ := (f6 _ (by omega)).trans ((k5.2 _ (by omega)).trans g4)
    rw [ldN_p (n := 2) g6 rfl]
    refine callF_ans (ans38 hg) ?_
    rw [un_not, onB_v]
    refine gd_of (fun h1 => ⟨?_, k6⟩) (fun h1 => ?_)
    · rw [Bool.not_eq_true'] at h1
      rw [hright, h1]; rfl
    have h1 : c.gr.right = true := by simpa using h1
    rw [shift_p, ld1_p p6 rfl rfl]
    have hlat := hc.llen
    refine callF_at (at39 (by omega) (g := fun p => !latOk c.gr p) (fun p hp => at37 hg (hc.lats p hp).1 (by omega) (by omega) g6 o6)) ?_
    rw [any_notP, onB_v]
    refine gd_of (fun h2 => ⟨?_, k6⟩) (fun h2 => ?_)
    · rw [Bool.not_eq_true'] at h2
      rw [hright, h1, h2]; rfl
    have h2 : c.latches.all (latOk c.gr) = true := by simpa using h2
    rw [shift_p, ld1_p p6 rfl rfl, shift_p, ld1_p p6 rfl rfl, shift_p, ld1_p p6 rfl rfl, shift_p, ld1_p p6 rfl rfl, bld_of (cs := [aL aI c.outs, aL aI c.bads, aL aI c.cons, aL aI c.fair]) rfl]
    rw [h1, h2, Bool.true_and, Bool.true_and] at hright
    have call : ∀ (l : List Int), ((∀ x ∈ l, i64R x) ∧ l.length ≤ 9223372036854775807) → ∀ {Q : AEnd → Store → Prop} {K : AV → Store → Prop}, K (aB (!l.all c.gr.lit)) S6 → callF Try.prog 40 [aL aI l, .f (.func 35) [] [.p S1.n 0 0]] S6 Q K := fun l hl Q K k =>
      callF_at (at40 hl.2 (g := fun x => !c.gr.lit x) (fun x hx => at35 hg (hl.1 x hx) g6)) (show K (aB (l.any fun x => !c.gr.lit x)) S6 by rw [any_not]; exact k)
    refine loop17_1 (fun y S' => S' = S6 ∧ ∃ i : Nat, y = aI i ∧ i ≤ 4 ∧ (1 ≤ i → c.outs.all c.gr.lit = true) ∧ (2 ≤ i → c.bads.all c.gr.lit = true) ∧ (3 ≤ i → c.cons.all c.gr.lit = true) ∧ (4 ≤ i → c.fair.all c.gr.lit = true))
      (fun y _ => 4 - ((intA y).getD 0).toNat) ⟨rfl, 0, rfl, Nat.zero_le _, fun h => by omega, fun h => by omega, fun h => by omega, fun h => by omega⟩ ?_
    rintro _ S6 ⟨rfl, i, rfl, hi, a1, a2, a3, a4⟩ KE1 hKE1
    unfold b17_1
    rw [bin_lss, onB_v]
    refine gd_of (fun hlt => ?_) (fun hge => ?_)
    · have hlt : i < 4 := by have := of_decide_eq_true hlt; exact Int.ofNat_lt.1 this
      have hadd : ∀ K : AV → Store → Prop, ∀ S, bin .add 0 (.v (.int .i64 (i : Int))) (.v (.int .i64 1)) S K = K (aI (i + 1 : Nat)) S := fun K S => bin_add (by omega) (by omega) 0
      match i, hlt with
      | 0, _ =>
        refine ⟨0, rfl, ⟨by decide, by decide⟩, _, rfl, ?_⟩
        show ld1 _ _ _
        rw [ld1_p o6 rfl rfl]
        refine call _ hc.outs ?_
        rw [onB_v]
        refine gd_of (fun h => ⟨?_, k6⟩) (fun h => ?_)
        · rw [Bool.not_eq_true'] at h
          rw [hright, h]; rfl
        · rw [hadd]
          exact hKE1 _ _ ⟨rfl, 1, rfl, by decide, fun _ => by simpa using h, fun h => by omega, fun h => by omega, fun h => by omega⟩ (by simp [intA])
      | 1, _ =>
        have a1 := a1 (by decide)
        refine ⟨1, rfl, ⟨by decide, by decide⟩, _, rfl, ?_⟩
        show ld1 _ _ _
        rw [ld1_p o6 rfl rfl]
        refine call _ hc.bads ?_
        rw [onB_v]
        refine gd_of (fun h => ⟨?_, k6⟩) (fun h => ?_)
        · rw [Bool.not_eq_true'] at h
          rw [hright, a1, h]; rfl
        · rw [hadd]
          exact hKE1 _ _ ⟨rfl, 2, rfl, by decide, fun _ => a1, fun _ => by simpa using h, fun h => by omega, fun h => by omega⟩ (by simp [intA])
      | 2, _ =>
        have a1 := a1 (by decide)
        have a2 := a2 (by decide)
        refine ⟨2, rfl, ⟨by decide, by decide⟩, _, rfl, ?_⟩
        show ld1 _ _ _
        rw [ld1_p o6 rfl rfl]
        refine call _ hc.cons ?_
        rw [onB_v]
        refine gd_of (fun h => ⟨?_, k6⟩) (fun h => ?_)
        · rw [Bool.not_eq_true'] at h
          rw [hright, a1, a2, h]; rfl
        · rw [hadd]
          exact hKE1 _ _ ⟨rfl, 3, rfl, by decide, fun _ => a1, fun _ => a2, fun _ => by simpa using h, fun h => by omega⟩ (by simp [intA])
      | 3, _ =>
        have a1 := a1 (by decide)
        have a2 := a2 (by decide)
        have a3 := a3 (by decide)
        refine ⟨3, rfl, ⟨by decide, by decide⟩, _, rfl, ?_⟩
        show ld1 _ _ _
        rw [ld1_p o6 rfl rfl]
        refine call _ hc.fair ?_
        rw [onB_v]
        refine gd_of (fun h => ⟨?_, k6⟩) (fun h => ?_)
        · rw [Bool.not_eq_true'] at h
          rw [hright, a1, a2, a3, h]; rfl
        · rw [hadd]
          exact hKE1 _ _ ⟨rfl, 4, rfl, by decide, fun _ => a1, fun _ => a2, fun _ => a3, fun _ => by simpa using h⟩ (by simp [intA])
    · have hge : i = 4 := by
        have : ¬ ((i : Int) < 4) := of_decide_eq_false hge
        omega
      subst hge
      rw [ldN_p (n := 8) p6 rfl]
      refine callF_ans (ans41 hc) ⟨?_, k6⟩
      rw [hright, a1 (by decide), a2 (by decide), a3 (by decide), a4 (by decide)]; rfl
end Go.Proofs.Ytolgpokppnajdaa.G
set_option linter.unusedVariables false
set_option linter.unusedSimpArgs false
namespace Go.Proofs.Ytolgpokppnajdaa.G
open Go Go.Ab

theorem right_c {c : Ci} : c.right = true ↔ (0 ≤ c.inputs ∧ c.inputs ≤ 2000) ∧ c.latches.length ≤ 2000 ∧ c.outs.length ≤ 2000 ∧ c.bads.length ≤ 2000 ∧ c.cons.length ≤ 2000 ∧ c.fair.length ≤ 2000 ∧
    c.gr.right = true ∧ c.latches.all (latOk c.gr) = true ∧ c.outs.all c.gr.lit = true ∧ c.bads.all c.gr.lit = true ∧ c.cons.all c.gr.lit = true ∧ c.fair.all c.gr.lit = true ∧ namesB c = true := by
  have e : ∀ n : Nat, (decide (0 ≤ (n : Int)) && decide ((n : Int) ≤ 2000)) = decide (n ≤ 2000) := fun n => by
    rw [decide_eq_true (by omega : 0 ≤ (n : Int)), Bool.true_and]
    exact decide_eq_decide.2 (by omega)
  simp only [Ci.right, Ci.manyL, List.all_cons, List.all_nil, e, Bool.and_eq_true, decide_eq_true_eq, Bool.and_true]
  constructor
  · rintro ⟨⟨a, b1, b2, b3, b4, b5⟩, c1, c2, c3, c4, c5, c6, c7⟩
    exact ⟨a, b1, b2, b3, b4, b5, c1, c2, c3, c4, c5, c6, c7⟩
  · rintro ⟨a, b1, b2, b3, b4, b5, c1, c2, c3, c4, c5, c6, c7⟩
    exact ⟨⟨a, b1, b2, b3, b4, b5⟩, c1, c2, c3, c4, c5, c6, c7⟩
theorem gd_fo {b : Bool} {A B : Prop} (h2 : b = false → B) (h1 : b = true → A) : gd b A B := gd_of h1 h2
theorem right_no {c : Ci} (h : ¬ c.right = true) : c.right = false := by simpa using h

theorem ans27 {c : Ci} (hc : c.ok) : Ans Try.prog 27 [c.av] (aB c.right) := by
  intro S
  refine ACalls.ans_v (calls27 ?_)
  have hg := hc.gr
  have hll := hc.llen
  unfold m27
  refine boxA_of rfl fun S1 k1 n1 o1 => ?_
  rw [ldN_p (n := 8) o1 rfl]
  refine callF_ans (ans28 c) ?_
  refine boxA_of rfl fun S2 k2 n2 o2 => ?_
  refine stA_of o2 rfl rfl fun S3 n3 o3 f3 => ?_
  have k3 : Keep S S3 := (k1.trans k2).st (by omega) n3 f3
  have p3 : S3.obj S.n = _ := (f3 _ (by omega)).trans ((k2.2 _ (by omega)).trans o1)
  rw [shift_p, ld1_p p3 rfl rfl, bin_lss, onB_v]
  refine gd_of (fun h1 => ⟨?_, k3⟩) (fun h1 => ?_)
  · rw [right_no fun h => by have := (right_c.1 h).1; have := of_decide_eq_true h1; omega]
  rw [shift_p, ld1_p p3 rfl rfl, bin_gtr, onB_v]
  refine gd_of (fun h2 => ⟨?_, k3⟩) (fun h2 => ?_)
  · rw [right_no fun h => by have := (right_c.1 h).1; have := of_decide_eq_true h2; omega]
  rw [shift_p, ld1_p p3 rfl rfl, lenS_pL, bin_gtr, onB_v]
  refine gd_of (fun h3 => ⟨?_, k3⟩) (fun h3 => ?_)
  · rw [right_no fun h => by have := (right_c.1 h).2.1; have := of_decide_eq_true h3; omega]
  have h1 := of_decide_eq_false h1
  have h2 := of_decide_eq_false h2
  have h3 := of_decide_eq_false h3
  rw [ldN_p (n := 2) o3 rfl]
  refine callF_ans (ans45 hg) ?_
  rw [un_not, onB_v]
  refine gd_of (fun h4 => ⟨?_, k3⟩) (fun h4 => ?_)
  · rw [right_no fun h => by rw [(right_c.1 h).2.2.2.2.2.2.1] at h4; cases h4]
  have h4 : c.gr.right = true := by simpa using h4
  refine loop27_0 (fun y S' => S' = S3 ∧ ∃ i : Nat, y = aI i ∧ i ≤ c.latches.length ∧ ∀ j (h : j < c.latches.length), j < i → latOk c.gr c.latches[j] = true)
    (fun y _ => c.latches.length - ((intA y).getD 0).toNat) ⟨rfl, 0, rfl, Nat.zero_le _, fun j _ hj => (Nat.not_lt_zero _ hj).elim⟩ ?_
  rintro _ S3 ⟨rfl, i, rfl, hi, hok⟩ KE hKE
  unfold b27_0
  rw [shift_p, ld1_p p3 rfl rfl, lenS_pL, bin_lss, onB_v]
  refine gd_of (fun hlt => ?_) (fun hge => ?_)
  · have hlt : i < c.latches.length := by simpa using hlt
    have hm := List.getElem_mem hlt
    have hno : latOk c.gr c.latches[i] = false → c.right = false := fun h => right_no fun h' => by
      have := List.all_eq_true.1 (right_c.1 h').2.2.2.2.2.2.2.1 _ hm
      rw [h] at this; cases this
    have hix : ∀ K : AV → Store → Prop, ixS 44 2 (pL c.latches) (aI i) S3 K = K (.q [aI c.latches[i].1, aI c.latches[i].2] 0) S3 := fun K => ixS_pL hlt
    have hl := (hc.lats _ hm).1
    have hnext : latOk c.gr c.latches[i] = true → KE _ (env27_0 (.p S.n 0 0) (.p S1.n 0 0) (aI (i + 1 : Nat))) S3 := fun h => hKE _ _ ⟨rfl, i + 1, rfl, hlt, fun j hj hj' => by
      rcases Nat.lt_or_ge j i with h' | h'
      · exact hok j hj h'
      · have : j = i := by omega
        subst this
        exact h⟩ (by simp [intA]; omega)
    generalize c.latches[i] = x at *
    show ∃ q28 : AV, _
    refine ⟨_, by rw [ldN_p (n := 2) o3 rfl]; exact ⟨rfl, rfl⟩, ?_⟩
    refine ⟨_, by rw [shift_p]; exact ⟨rfl, rfl⟩, ?_⟩
    refine ⟨_, by rw [ld1_p p3 rfl rfl]; exact ⟨rfl, rfl⟩, ?_⟩
    refine ⟨_, by rw [hix]; exact ⟨rfl, rfl⟩, ?_⟩
    refine ⟨_, by rw [shift_q]; exact ⟨rfl, rfl⟩, ?_⟩
    refine ⟨_, by rw [ld1_qj (u := aI x.1) rfl]; exact ⟨rfl, rfl⟩, ?_⟩
    refine ⟨_, callF_ans (ans46 hg hl) ⟨rfl, rfl⟩, ?_⟩
    refine ⟨_, by rw [un_not]; exact ⟨rfl, rfl⟩, ?_⟩
    rw [onB_v]
    refine gd_of (fun h5 => ?_) (fun h5 => ?_)
    · refine ⟨_, ⟨rfl, rfl⟩, ?_⟩
      rw [onB_v, gd_true]
      refine ⟨_, ⟨rfl, rfl⟩, ?_⟩
      rw [onB_v, gd_true]
      refine ⟨?_, k3⟩
      rw [Bool.not_eq_true'] at h5
      rw [hno (by simp [latOk, h5])]
    have h5 : c.gr.lit x.1 = true := by simpa using h5
    refine ⟨_, by rw [shift_p]; exact ⟨rfl, rfl⟩, ?_⟩
    refine ⟨_, by rw [ld1_p p3 rfl rfl]; exact ⟨rfl, rfl⟩, ?_⟩
    refine ⟨_, by rw [hix]; exact ⟨rfl, rfl⟩, ?_⟩
    refine ⟨_, by rw [shift_q]; exact ⟨rfl, rfl⟩, ?_⟩
    refine ⟨_, by rw [ld1_qj (u := aI x.2) rfl]; exact ⟨rfl, rfl⟩, ?_⟩
    refine ⟨_, by rw [bin_lss]; exact ⟨rfl, rfl⟩, ?_⟩
    refine ⟨_, ⟨rfl, rfl⟩, ?_⟩
    rw [onB_v]
    refine gd_of (fun h6 => ?_) (fun h6 => ?_)
    · refine ⟨_, ⟨rfl, rfl⟩, ?_⟩
      rw [onB_v, gd_true]
      refine ⟨?_, k3⟩
      have h6 := of_decide_eq_true h6
      rw [hno (by simp [latOk, show ¬ 0 ≤ x.2 by omega])]
    refine ⟨_, by rw [shift_p]; exact ⟨rfl, rfl⟩, ?_⟩
    refine ⟨_, by rw [ld1_p p3 rfl rfl]; exact ⟨rfl, rfl⟩, ?_⟩
    refine ⟨_, by rw [hix]; exact ⟨rfl, rfl⟩, ?_⟩
    refine ⟨_, by rw [shift_q]; exact ⟨rfl, rfl⟩, ?_⟩
    refine ⟨_, by rw [ld1_qj (u := aI x.2) rfl]; exact ⟨rfl, rfl⟩, ?_⟩
    refine ⟨_, by rw [bin_gtr]; exact ⟨rfl, rfl⟩, ?_⟩
    refine ⟨_, ⟨rfl, rfl⟩, ?_⟩
    rw [onB_v]
    refine gd_of (fun h7 => ⟨?_, k3⟩) (fun h7 => ?_)
    · have h7 := of_decide_eq_true h7
      rw [hno (by simp [latOk, show ¬ x.2 ≤ 2 by omega])]
    · have hadd : ∀ K : AV → Store → Prop, ∀ S, bin .add 0 (.v (.int .i64 (i : Int))) (.v (.int .i64 1)) S K = K (aI (i + 1 : Nat)) S := fun K S => bin_add (by omega) (by omega) 0
      rw [hadd]
      have h6 := of_decide_eq_false h6
      have h7 := of_decide_eq_false h7
      exact hnext (by simp [latOk, h5, show 0 ≤ x.2 by omega, show x.2 ≤ 2 by omega])
  · have hge : i = c.latches.length := by simp at hge; omega
    subst hge
    have h5 : c.latches.all (latOk c.gr) = true := by
      rw [List.all_eq_true]
      intro x hx
      obtain ⟨j, hj, rfl⟩ := List.getElem_of_mem hx
      exact hok j hj hj
    rw [ldN_p (n := 2) o3 rfl, shift_p, ld1_p p3 rfl rfl]
    refine callF_ans (ans47 hg hc.outs.1 hc.outs.2) ?_
    rw [onB_v]
    refine gd_fo (fun a1 => ⟨?_, k3⟩) (fun a1 => ?_)
    · rw [right_no fun h => by simp [(right_c.1 h).2.2.2.2.2.2.2.2.1, (right_c.1 h).2.2.1] at a1]
    rw [ldN_p (n := 2) o3 rfl, shift_p, ld1_p p3 rfl rfl]
    refine callF_ans (ans47 hg hc.bads.1 hc.bads.2) ?_
    rw [onB_v]
    refine gd_fo (fun a2 => ⟨?_, k3⟩) (fun a2 => ?_)
    · rw [right_no fun h => by simp [(right_c.1 h).2.2.2.2.2.2.2.2.2.1, (right_c.1 h).2.2.2.1] at a2]
    rw [ldN_p (n := 2) o3 rfl, shift_p, ld1_p p3 rfl rfl]
    refine callF_ans (ans47 hg hc.cons.1 hc.cons.2) ?_
    rw [onB_v]
    refine gd_fo (fun a3 => ⟨?_, k3⟩) (fun a3 => ?_)
    · rw [right_no fun h => by simp [(right_c.1 h).2.2.2.2.2.2.2.2.2.2.1, (right_c.1 h).2.2.2.2.1] at a3]
    rw [ldN_p (n := 2) o3 rfl, shift_p, ld1_p p3 rfl rfl]
    refine callF_ans (ans47 hg hc.fair.1 hc.fair.2) ?_
    rw [onB_v]
    refine gd_fo (fun a4 => ⟨?_, k3⟩) (fun a4 => ?_)
    · rw [right_no fun h => by simp [(right_c.1 h).2.2.2.2.2.2.2.2.2.2.2.1, (right_c.1 h).2.2.2.2.2.1] at a4]
    rw [ldN_p (n := 8) p3 rfl]
    refine callF_ans (ans48 hc) ⟨?_, k3⟩
    rw [Bool.and_eq_true, decide_eq_true_eq] at a1 a2 a3 a4
    congr 3
    rw [Bool.eq_iff_iff]
    exact ⟨fun h => right_c.2 ⟨⟨by omega, by omega⟩, by omega, a1.2, a2.2, a3.2, a4.2, h4, h5, a1.1, a2.1, a3.1, a4.1, h⟩, fun h => (right_c.1 h).2.2.2.2.2.2.2.2.2.2.2.2⟩
end Go.Proofs.Ytolgpokppnajdaa.G
set_option linter.unusedVariables false
set_option linter.unusedSimpArgs false
namespace Go.Proofs.Ytolgpokppnajdaa.G
open Go Go.Ab

/-- A literal by the values of variables. -/
def litB (v : List Bool) (l : Int) : Bool := v.getD (l.tdiv 2).toNat false != decide (l.tmod 2 = 1)
def allTo (g : Gr) (ins : List Bool) : Nat → List Bool
  | 0 => false :: ins
  | i + 1 => allTo g ins i ++ [litB (allTo g ins i) (g.ands.getD i (0, 0)).1 && litB (allTo g ins i) (g.ands.getD i (0, 0)).2]
@[simp] theorem allTo_len (g : Gr) (ins : List Bool) : ∀ i, (allTo g ins i).length = ins.length + 1 + i
  | 0 => rfl
  | i + 1 => by simp [allTo, allTo_len g ins i]; omega
/-- What all variables are. -/
def allB (g : Gr) (ins : List Bool) : List Bool := if (g.right && decide ((ins.length : Int) = g.inputs)) = true then allTo g ins g.ands.length else []

theorem bitL_at {S : Store} {x : AV} {l : Int} {b : Bool} (hl : i64R l) (hx : ∀ K : AV → Store → Prop, K (aB b) S → ixS 4 1 x (aI (l.tdiv 2)) S fun v S => ld1 v S K) : AnsAt Try.prog 63 [x, aI l] S (aB (b != decide (l.tmod 2 = 1))) := by
  refine calls63 ?_
  unfold m63
  rw [bin_half hl]
  refine hx _ ?_
  rw [bin_rem (by decide), bin_eql, bin_neqB]
  exact ⟨rfl, rfl⟩
/-- The gates of a right graph. -/
theorem may_at {g : Gr} (h : g.right = true) {i : Nat} (hi : i < g.ands.length) : 2 ≤ g.ands[i].2 ∧ g.ands[i].2.tdiv 2 < g.ands[i].1.tdiv 2 ∧ g.ands[i].1.tdiv 2 < g.inputs + 1 + i ∧ 0 ≤ g.ands[i].2.tdiv 2 := by
  have := (right_iff.1 h).2.2.2.2.1 i hi
  rw [show g.ands.getD i (0, 0) = g.ands[i] by simp [List.getD_eq_getElem?_getD, hi]] at this
  simp only [may, Bool.and_eq_true, decide_eq_true_eq] at this
  exact ⟨this.1, this.2.1, this.2.2, Int.tdiv_nonneg (by omega) (by decide)⟩
theorem ix_own {n : Nat} {S : Store} {x : AV} {v : List Bool} (h : Own n S x 4 (v.map fun b => [aB b])) {z : Int} (h0 : 0 ≤ z) (h1 : z < v.length) (K : AV → Store → Prop) (k : K (aB (v.getD z.toNat false)) S) : ixS 4 1 x (aI z) S fun v S => ld1 v S K := by
  obtain ⟨i, rfl⟩ := Int.eq_ofNat_of_zero_le h0
  have hi : i < v.length := by omega
  obtain ⟨id, rfl, h2, h3, h4⟩ := h.ix (i := i) (by simpa using hi)
  rw [ixS_s (by simpa using hi) h4, ld1_p h4 (by rw [Nat.zero_add, List.getElem?_map, List.getElem?_eq_getElem hi]; rfl) rfl]
  rw [show (v.getD (Int.toNat i) false) = v[i] by simp [List.getD_eq_getElem?_getD, hi]] at k
  exact k
theorem ix_tree {S : Store} {v : List Bool} {z : Int} (h0 : 0 ≤ z) (h1 : z < v.length) (K : AV → Store → Prop) (k : K (aB (v.getD z.toNat false)) S) : ixS 4 1 (aL aB v) (aI z) S fun v S => ld1 v S K := by
  obtain ⟨i, rfl⟩ := Int.eq_ofNat_of_zero_le h0
  have hi : i < v.length := by omega
  rw [ixS_aL hi, ld1_q]
  rw [show (v.getD (Int.toNat i) false) = v[i] by simp [List.getD_eq_getElem?_getD, hi]] at k
  exact k
def OwnL (f : FuncId) (args : List AV) (l : List Bool) : Prop :=
  ∀ S, ACalls Try.prog f args S (fun r S' => ∃ x, r = .ret x ∧ Keep S S' ∧ Own S.n S' x 4 (l.map fun b => [aB b]))
theorem OwnL.ans {f : FuncId} {args : List AV} {l : List Bool} (h : OwnL f args l) : Ans Try.prog f args (aL aB l) := ACalls.ans_own (f := fun b => .bool b) (e := 4) h
theorem src_aL (S : Store) (l : List Bool) : srcE S (aL aB l) = some (l.map fun b => [aB b]) := rfl

theorem own62 {g : Gr} (hg : g.ok) {ins : List Bool} (hin : ins.length ≤ 1000000) : OwnL 62 [g.av, aL aB ins] (allB g ins) := by
  intro S
  refine calls62 ?_
  have hlen := hg.len
  unfold m62
  refine boxA_of rfl fun S1 k1 n1 o1 => ?_
  rw [ldN_p (n := 2) o1 rfl]
  refine callF_ans (ans45 hg) ?_
  rw [un_not, onB_v]
  refine gd_of (fun h1 => ⟨_, rfl, k1, ?_⟩) (fun h1 => ?_)
  · rw [Bool.not_eq_true'] at h1
    rw [allB, h1]
    exact Own.nl _ _ _
  have h1 : g.right = true := by simpa using h1
  rw [lenS_aL, shift_p, ld1_p o1 rfl rfl, bin_neq, onB_v]
  refine gd_of (fun h2 => ⟨_, rfl, k1, ?_⟩) (fun h2 => ?_)
  · rw [Bool.not_eq_true'] at h2
    rw [allB, h2, Bool.and_false]
    exact Own.nl _ _ _
  have h2 : decide ((ins.length : Int) = g.inputs) = true := by simpa using h2
  have h2' := of_decide_eq_true h2
  have hres : allB g ins = allTo g ins g.ands.length := by rw [allB, h1, h2]; rfl
  have hb : ∀ (b : Bool) {S : Store} {K : AV → Store → Prop}, K (.l [[aB b]]) S → bslN 4 1 1 [.v (.bool false)] [(0, aB b)] S K := fun b S K k => bsl1 rfl (fun _ h => by cases h) k
  refine ⟨[aB false], by simp [fillA, cellsOf, AV.one, Value.oneCell', spl], .inl ?_⟩
  have w2 : Own S1.n (S1.new (.cells 4 (chunks 1 1 [aB false]) true)) (.s S1.n 0 1) 4 [[aB false]] := .inr ⟨S1.n, rfl, Nat.le_refl _, by simp, by rw [new_self]; rfl⟩
  have k2 : Keep S1 (S1.new (.cells 4 (chunks 1 1 [aB false]) true)) := (Keep.refl _).new _
  generalize S1.new (.cells 4 (chunks 1 1 [aB false]) true) = S2 at *
  refine Own.appL w2 k2.1 (ys := ins.map fun b => [aB b]) (fun c hc => by obtain ⟨p, _, rfl⟩ := List.mem_map.1 hc; rfl) (by simp; omega) (fun z1 S3 w3 b3 hz3 => ?_) (src_aL _ _)
  have k3 : Keep S1 S3 := w2.keep (Nat.le_refl _) b3 k2
  have k3' := k1.trans k3
  refine loop62_0 (fun y z S' => Keep S1 S' ∧ ∃ i : Nat, z = aI i ∧ i ≤ g.ands.length ∧ Own S1.n S' y 4 ((allTo g ins i).map fun b => [aB b]))
    (fun _ z _ => g.ands.length - ((intA z).getD 0).toNat) ⟨k3, 0, rfl, Nat.zero_le _, w3⟩ ?_
  rintro y _ S4 ⟨k4, i, rfl, hi, w4⟩ KE hKE
  have o4 := (k4.2 S.n (by omega)).trans o1
  unfold b62_0
  rw [shift_p, ld1_p o4 rfl rfl, lenS_pL, bin_lss, onB_v]
  refine gd_of (fun hlt => ?_) (fun hge => ?_)
  · have hlt : i < g.ands.length := by simpa using hlt
    obtain ⟨q1, q2, q3, q4⟩ := may_at h1 hlt
    have hp := hg.pairs _ (List.getElem_mem hlt)
    have hget : g.ands.getD i (0, 0) = g.ands[i] := by simp [List.getD_eq_getElem?_getD, hlt]
    have e1 : ∀ (c : List AV) (K : AV → Store → Prop), ixA 2 1 (.q c 0) (.v (.int .i64 1)) S4 K = K (.q c 1) S4 := fun c K => ixA_q (z := 1) (by decide)
    have e0 : ∀ (c : List AV) (K : AV → Store → Prop), ixA 2 1 (.q c 0) (.v (.int .i64 0)) S4 K = K (.q c 0) S4 := fun c K => ixA_q (z := 0) (by decide)
    have hadd : ∀ K : AV → Store → Prop, ∀ S, bin .add 0 (.v (.int .i64 (i : Int))) (.v (.int .i64 1)) S K = K (aI (i + 1 : Nat)) S := fun K S => bin_add (by omega) (by omega) 0
    have hl4 : (allTo g ins i).length = ins.length + 1 + i := allTo_len g ins i
    have step : ∀ b, allTo g ins (i + 1) = allTo g ins i ++ [b] → appS 4 1 1 y (.l [[aB b]]) S4 fun v T => bin .add 0 (aI i) (.v (.int .i64 1)) T fun v' T => KE 49 (env62_0 (.p S.n 0 0) v v') T := fun b hb => by
      refine w4.app k4.1 (c := [aB b]) rfl (by simp; omega) (fun z5 S5 w5 b5 hz5 => ?_) rfl
      rw [hadd]
      refine hKE _ _ _ ⟨w4.keep (Nat.le_refl _) b5 k4, i + 1, rfl, hlt, ?_⟩ (by simp [intA]; omega)
      rw [hb, List.map_append]
      exact w5
    rw [shift_p, ld1_p o4 rfl rfl, ixS_pL hlt, e0, ld1_q0]
    refine callF_at (bitL_at hp.1 (fun K k => ix_own w4 (by omega) (by rw [hl4]; omega) K k)) ?_
    rw [onB_v]
    refine gd_of (fun h3 => ?_) (fun h3 => ?_)
    · rw [shift_p, ld1_p o4 rfl rfl, ixS_pL hlt, e1, ld1_q1]
      refine callF_at (bitL_at hp.2 (fun K k => ix_own w4 (by omega) (by rw [hl4]; omega) K k)) ?_
      refine hb _ (step _ ?_)
      simp only [allTo, hget, litB]
      rw [h3, Bool.true_and]
    · refine hb _ (step _ ?_)
      simp only [allTo, hget, litB]
      rw [h3, Bool.false_and]
  · have hge : i = g.ands.length := by simp at hge; omega
    subst hge
    rw [hres]
    exact ⟨_, rfl, k1.trans k4, w4.low (by omega)⟩
theorem allB_len {g : Gr} {ins : List Bool} : (allB g ins).length = if (g.right && decide ((ins.length : Int) = g.inputs)) = true then (g.vars).toNat else 0 := by
  unfold allB
  split
  · rename_i h
    simp only [Bool.and_eq_true, decide_eq_true_eq] at h
    rw [allTo_len]
    simp only [Gr.vars, ← h.2]
    omega
  · rfl
/-- A literal by inputs. -/
def Gr.eval (g : Gr) (l : Int) (ins : List Bool) : Bool := decide (0 < (allB g ins).length) && (g.lit l && litB (allB g ins) l)
theorem ans49 {g : Gr} (hg : g.ok) {l : Int} (hl : i64R l) {ins : List Bool} (hin : ins.length ≤ 1000000) : Ans Try.prog 49 [g.av, aI l, aL aB ins] (aB (g.eval l ins)) := by
  intro S
  refine ACalls.ans_v (calls49 ?_)
  unfold m49
  refine boxA_of rfl fun S1 k1 n1 o1 => ?_
  rw [ldN_p (n := 2) o1 rfl]
  refine callF_ans (own62 hg hin).ans ?_
  rw [lenS_aL, bin_gtr, onB_v]
  refine gd_fo (fun h1 => ⟨?_, k1⟩) (fun h1 => ?_)
  · have h1 := of_decide_eq_false h1
    simp [Gr.eval, show ¬ 0 < (allB g ins).length by omega]
  have h1 : 0 < (allB g ins).length := by have := of_decide_eq_true h1; omega
  rw [ldN_p (n := 2) o1 rfl]
  refine callF_ans (ans46 hg hl) ?_
  rw [onB_v]
  refine gd_fo (fun h2 => ⟨?_, k1⟩) (fun h2 => ?_)
  · simp [Gr.eval, h2]
  have h3 : 0 ≤ l.tdiv 2 ∧ l.tdiv 2 < (allB g ins).length := by
    have h4 := h2
    simp only [Gr.lit, Bool.and_eq_true, decide_eq_true_eq] at h4
    have := allB_len (g := g) (ins := ins)
    split at this
    · exact ⟨Int.tdiv_nonneg (by omega) (by decide), by omega⟩
    · omega
  refine callF_at (bitL_at hl (fun K k => ix_tree h3.1 h3.2 K k)) ⟨?_, k1⟩
  simp only [Gr.eval, h1, h2, decide_true, Bool.true_and]
  rfl
end Go.Proofs.Ytolgpokppnajdaa.G
set_option linter.unusedVariables false
set_option linter.unusedSimpArgs false
namespace Go.Proofs.Ytolgpokppnajdaa.G
open Go Go.Ab

theorem and1 (a : Int) : IntKind.i64.wrap ((BitVec.ofInt 64 a &&& BitVec.ofInt 64 1).toNat : Nat) = a % 2 := by
  have h1 : (BitVec.ofInt 64 1).toNat = 1 := by decide
  rw [BitVec.toNat_and, h1, Nat.and_one_is_mod, BitVec.toNat_ofInt, wrap64 (by omega) (by omega)]
  omega
theorem bin_and1 {a : Int} {S : Store} {K : AV → Store → Prop} : bin .and 0 (aI a) (.v (.int .i64 1)) S K = K (aI (a % 2)) S := by
  show bin .and 0 (.v (.int .i64 a)) (.v (.int .i64 1)) S K = _
  have : b2 .and 0 (.int .i64 a) (.int .i64 1) = some (.int .i64 (a % 2)) := by
    rw [← and1 a]; rfl
  show optP (b2 .and 0 (.int .i64 a) (.int .i64 1)) _ = _
  rw [this, optP_some]
theorem bin_shr1 {a : Int} (h : 0 ≤ a) {S : Store} {K : AV → Store → Prop} : bin .shr 0 (aI a) (.v (.int .u64 1)) S K = K (aI (a.tdiv 2)) S := by
  rw [bin_shr (by decide)]
  have : a.fdiv (2 ^ min (Int.toNat 1) IntKind.i64.bits) = a.tdiv 2 := by
    show a.fdiv 2 = _
    rw [Int.fdiv_eq_ediv_of_nonneg _ (by decide), Int.tdiv_eq_ediv_of_nonneg h]
  rw [this]
theorem at42 {S : Store} {fid t n : Nat} {x : AV} {v : List Bool} {l : Int} (h0 : 0 ≤ l) (h1 : l.tdiv 2 < v.length) (hf : S.obj fid = some (.cells t [[x]] true)) (hx : Own n S x 4 (v.map fun b => [aB b])) :
    AnsAt Try.prog 42 [aI l, .p fid 0 0] S (aB (litB v l)) := by
  refine calls42 ?_
  unfold m42
  rw [ld1_p hf rfl rfl, bin_shr1 h0]
  refine ix_own hx (Int.tdiv_nonneg h0 (by decide)) h1 _ ?_
  rw [bin_and1, bin_eql, bin_neqB]
  refine ⟨?_, rfl⟩
  rw [litB, show l.tmod 2 = l % 2 from Int.tmod_eq_emod_of_nonneg h0]
theorem mkN_lc {e b l c : Nat} {zc : List AV} (hl : l ≤ c) (hb : b * c ≤ 281474976710656) (hn : c ≤ 9223372036854775807) {S : Store} {K : AV → Store → Prop} : mkN e b zc (aI l) (aI c) S K = K (.s S.n 0 l) (S.new (.cells e (List.replicate l zc) true)) := by
  have h1 : (b : Int) * c ≤ 281474976710656 := by
    have h := Int.ofNat_le.2 hb
    rw [Int.natCast_mul] at h
    omega
  have h2 : (c : Int) ≤ 9223372036854775807 := by omega
  have h0 : (0 : Int) ≤ l := by omega
  have h3 : (l : Int) ≤ c := by omega
  simp only [mkN, intA, optP_some, h0, h1, h2, h3, Int.toNat_natCast, and_self, true_and]
theorem own_keep {n : Nat} {S T : Store} {x : AV} {e : Nat} {es : List (List AV)} (h : Own n S x e es) (k : Keep S T) : Own n T x e es := by
  rcases h with h | ⟨id, h1, h2, h3, h4⟩
  · exact .inl h
  · exact .inr ⟨id, h1, h2, Nat.lt_of_lt_of_le h3 k.1, (k.2 _ h3).trans h4⟩

theorem own_at19 {g : Gr} (hg : g.ok) {ins : List Bool} (hin : ins.length ≤ 1000000) {S : Store} {xi : AV} (hlx : ∀ (T : Store) (K : AV → Store → Prop), lenS xi T K = K (aI ins.length) T) (hsx : ∀ T, Keep S T → srcE T xi = some (ins.map fun b => [aB b])) :
    ACalls Try.prog 19 [g.av, xi] S (fun r S' => ∃ x, r = .ret x ∧ Keep S S' ∧ Own S.n S' x 4 ((allB g ins).map fun b => [aB b])) := by
  refine calls19 ?_
  have hlen := hg.len
  unfold m19
  refine boxA_of rfl fun S1 k1 n1 o1 => ?_
  rw [ldN_p (n := 2) o1 rfl]
  refine callF_ans (ans38 hg) ?_
  rw [un_not, onB_v]
  refine gd_of (fun h1 => ⟨_, rfl, k1, ?_⟩) (fun h1 => ?_)
  · rw [Bool.not_eq_true'] at h1
    rw [allB, h1]
    exact Own.nl _ _ _
  have h1 : g.right = true := by simpa using h1
  rw [hlx, shift_p, ld1_p o1 rfl rfl, bin_neq, onB_v]
  refine gd_of (fun h2 => ⟨_, rfl, k1, ?_⟩) (fun h2 => ?_)
  · rw [Bool.not_eq_true'] at h2
    rw [allB, h2, Bool.and_false]
    exact Own.nl _ _ _
  have h2 : decide ((ins.length : Int) = g.inputs) = true := by simpa using h2
  have h2' := of_decide_eq_true h2
  have hres : allB g ins = allTo g ins g.ands.length := by rw [allB, h1, h2]; rfl
  rw [shift_p, ld1_p o1 rfl rfl, bin_add (by omega) (by omega), shift_p, ld1_p o1 rfl rfl, lenS_pL, bin_add (by omega) (by omega)]
  have hcap : g.inputs + 1 + (g.ands.length : Int) = ((ins.length + 1 + g.ands.length : Nat) : Int) := by omega
  rw [hcap]
  have hmk : ∀ {K : AV → Store → Prop}, mkN 4 1 [.v (.bool false)] (.v (.int .i64 1)) (aI ((ins.length + 1 + g.ands.length : Nat) : Int)) S1 K = K (.s S1.n 0 1) (S1.new (.cells 4 (List.replicate 1 [.v (.bool false)]) true)) := mkN_lc (l := 1) (by omega) (by omega) (by omega)
  rw [hmk]
  have w2 : Own S1.n (S1.new (.cells 4 (List.replicate 1 [.v (.bool false)]) true)) (.s S1.n 0 1) 4 [[aB false]] := .inr ⟨S1.n, rfl, Nat.le_refl _, by simp, by rw [new_self]; rfl⟩
  have k2 : Keep S1 (S1.new (.cells 4 (List.replicate 1 [.v (.bool false)]) true)) := (Keep.refl _).new _
  have n2 : (S1.new (.cells 4 (List.replicate 1 [.v (.bool false)]) true)).n = S1.n + 1 := rfl
  generalize S1.new (.cells 4 (List.replicate 1 [.v (.bool false)]) true) = S2 at *
  refine box1_of rfl fun S3 k3 n3 o3 => ?_
  refine st_of o3 rfl rfl fun S4 n4 o4 f4 => ?_
  have k4 : Keep S1 S4 := (k2.trans k3).st (by omega) n4 f4
  have w4 : Own S1.n S4 (.s S1.n 0 1) 4 [[aB false]] := (own_keep w2 k3).st (id := S2.n) (fun b m e => by injection e; omega) n4 f4
  rw [ld1_p o4 rfl rfl]
  refine Own.appL w4 k4.1 (ys := ins.map fun b => [aB b]) (fun c hc => by obtain ⟨p, _, rfl⟩ := List.mem_map.1 hc; rfl) (by simp; omega) (fun z1 S5 w5 b5 hz5 => ?_) (hsx _ (k1.trans k4))
  have k5 : Keep S1 S5 := w4.keep (Nat.le_refl _) b5 k4
  have o5 := (b5.2 S2.n (by omega) (fun b m e => by injection e; omega)).trans o4
  have m5 := b5.1
  have z5 : ∀ b m, z1 ≠ .s S2.n b m := fun b m e => by
    rcases hz5 with h | ⟨m', h⟩
    · rw [h] at e; injection e; omega
    · rw [h] at e; injection e; omega
  refine st_of o5 rfl (by rcases w5 with ⟨h, _⟩ | ⟨_, h, _⟩ <;> rw [h] <;> rfl) fun S6 n6 o6 f6 => ?_
  have k6 : Keep S1 S6 := k5.st (by omega) n6 f6
  have w6 := w5.st (id := S2.n) z5 n6 f6
  have p6 := (k6.2 S.n (by omega)).trans o1
  rw [shift_p, ld1_p p6 rfl rfl, lenS_pL]
  refine loop19_0 (fun y S' => Keep S1 S' ∧ S2.n < S'.n ∧ ∃ i : Nat, y = aI i ∧ i ≤ g.ands.length ∧ ∃ z, S'.obj S2.n = some (.cells 33 [[z]] true) ∧ (∀ b m, z ≠ .s S2.n b m) ∧ Own S1.n S' z 4 ((allTo g ins i).map fun b => [aB b]))
    (fun y _ => g.ands.length - ((intA y).getD 0).toNat) ⟨k6, by omega, 0, rfl, Nat.zero_le _, z1, o6, z5, w6⟩ ?_
  rintro _ S7 ⟨k7, n7, i, rfl, hi, z, o7, hz, w7⟩ KE hKE
  unfold b19_0
  rw [bin_lss, onB_v]
  refine gd_of (fun hlt => ?_) (fun hge => ?_)
  · have hlt : i < g.ands.length := by simpa using hlt
    obtain ⟨q1, q2, q3, q4⟩ := may_at h1 hlt
    have hp := hg.pairs _ (List.getElem_mem hlt)
    have hget : g.ands.getD i (0, 0) = g.ands[i] := by simp [List.getD_eq_getElem?_getD, hlt]
    have hl4 : (allTo g ins i).length = ins.length + 1 + i := allTo_len g ins i
    rw [ixS_pL hlt, ldN_q2]
    generalize g.ands[i] = p at *
    refine boxA_of rfl fun S8 k8 n8 o8 => ?_
    refine stA_of o8 rfl rfl fun S9 n9 o9 f9 => ?_
    have k9 : Keep S7 S9 := k8.st (Nat.le_refl _) n9 f9
    have w9 : Own S1.n S9 z 4 _ := own_keep w7 k9
    have v9 := (k9.2 S2.n n7).trans o7
    have e1 : ∀ (T : Store) (K : AV → Store → Prop), ixA 2 1 (.p S7.n 0 0) (.v (.int .i64 1)) T K = K (.p S7.n 0 1) T := fun T K => ixA_p (z := 1) (by decide)
    have e0 : ∀ (T : Store) (K : AV → Store → Prop), ixA 2 1 (.p S7.n 0 0) (.v (.int .i64 0)) T K = K (.p S7.n 0 0) T := fun T K => ixA_p (z := 0) (by decide)
    have hadd : ∀ K : AV → Store → Prop, ∀ S, bin .add 0 (.v (.int .i64 (i : Int))) (.v (.int .i64 1)) S K = K (aI (i + 1 : Nat)) S := fun K S => bin_add (by omega) (by omega) 0
    have hp1 : 0 ≤ p.1 := by
      rcases Int.le_total 0 p.1 with h | h
      · exact h
      · have : p.1.tdiv 2 ≤ 0 := by
          rw [show p.1.tdiv 2 = -((-p.1).tdiv 2) by rw [Int.neg_tdiv, Int.neg_neg], Int.tdiv_eq_ediv_of_nonneg (by omega)]
          omega
        omega
    have m9 : S9.n = S7.n + 1 := by omega
    have step : ∀ b, allTo g ins (i + 1) = allTo g ins i ++ [b] → appS 4 1 1 z (.l [[aB b]]) S9 fun v T => stN 1 (.p S2.n 0 0) v T fun _ T => bin .add 0 (aI i) (.v (.int .i64 1)) T fun v' T => KE 53 (env19_0 (.p S2.n 0 0) (.f (.func 42) [] [.p S2.n 0 0]) (pL g.ands) (aI g.ands.length) v') T := fun b hb => by
      refine w9.app (by have := k7.1; omega) (c := [aB b]) rfl (by simp; omega) (fun zz T1 wT bT hzT => ?_) rfl
      have kT : Keep S1 T1 := w9.keep (Nat.le_refl _) bT (k7.trans k9)
      have oT := (bT.2 S2.n (by omega) (fun b m => hz b m)).trans v9
      have mT := bT.1
      have hzz : ∀ b m, zz ≠ .s S2.n b m := fun b m e => by
        obtain ⟨m', h⟩ := hzT
        rw [h] at e; injection e; omega
      refine st_of oT rfl (by rcases wT with ⟨h, _⟩ | ⟨_, h, _⟩ <;> rw [h] <;> rfl) fun T2 nT o2 f2 => ?_
      rw [hadd]
      refine hKE _ _ ⟨kT.st (by omega) nT f2, by omega, i + 1, rfl, hlt, zz, o2, hzz, ?_⟩ (by simp [intA]; omega)
      rw [hb, List.map_append]
      exact wT.st (id := S2.n) hzz nT f2
    refine ⟨_, fun T hT => by rw [ld1_p ((hT.2 _ (by omega)).trans v9) rfl rfl]; exact ⟨rfl, rfl⟩, _, fun T hT => by rw [e0]; exact ⟨rfl, rfl⟩, _, fun T hT => by rw [ld1_p ((hT.2 _ (by omega)).trans o9) rfl rfl]; exact ⟨rfl, rfl⟩,
      _, fun T hT => callV_at (at42 hp1 (by rw [hl4]; omega) ((hT.2 _ (by omega)).trans v9) (own_keep w9 hT)) ⟨rfl, rfl⟩, ?_⟩
    rw [onB_v]
    refine gd_of (fun h3 => ?_) (fun h3 => ?_)
    · refine ⟨_, fun T hT => by rw [e1]; exact ⟨rfl, rfl⟩, _, fun T hT => by rw [ld1_p ((hT.2 _ (by omega)).trans o9) rfl rfl]; exact ⟨rfl, rfl⟩,
        _, fun T hT => callV_at (at42 (by omega) (by rw [hl4]; omega) ((hT.2 _ (by omega)).trans v9) (own_keep w9 hT)) ⟨rfl, rfl⟩, _, fun T hT => ⟨rfl, rfl⟩, _, fun T hT => bsl1 rfl (fun _ h => by cases h) ⟨rfl, rfl⟩, ?_⟩
      refine step _ ?_
      simp only [allTo, hget]
      rw [h3, Bool.true_and]
    · refine ⟨_, fun T hT => ⟨rfl, rfl⟩, _, fun T hT => bsl1 rfl (fun _ h => by cases h) ⟨rfl, rfl⟩, ?_⟩
      refine step _ ?_
      simp only [allTo, hget]
      rw [h3, Bool.false_and]
  · have hge : i = g.ands.length := by simp at hge; omega
    subst hge
    rw [hres, ld1_p o7 rfl rfl]
    exact ⟨_, rfl, k1.trans k7, w7.low (by omega)⟩
theorem own19 {g : Gr} (hg : g.ok) {ins : List Bool} (hin : ins.length ≤ 1000000) : OwnL 19 [g.av, aL aB ins] (allB g ins) :=
  fun S => own_at19 hg hin (fun T K => lenS_aL _ _) (fun T _ => src_aL _ _)
theorem ans_own_at {α : Type} {f : α → Value} {P : Program} {fn : FuncId} {args : List AV} {S : Store} {e : Nat} {l : List α} (h : ACalls P fn args S (fun r S' => ∃ x, r = .ret x ∧ Keep S S' ∧ Own S.n S' x e (l.map fun a => [.v (f a)]))) : AnsAt P fn args S (aL (fun a => .v (f a)) l) :=
  ACalls.tree (h.mono fun r S' ⟨x, h1, h2, h3⟩ => ⟨x, h1, h2, h3.cv_v⟩)
end Go.Proofs.Ytolgpokppnajdaa.G

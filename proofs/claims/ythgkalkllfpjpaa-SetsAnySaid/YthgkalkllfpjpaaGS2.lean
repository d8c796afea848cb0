/- It is proved that SetsAny returns true for every input; this text is one part of that proof, and it has no further condition. -/
import Derived.Test.YthgkalkllfpjpaaProg
import Derived.KernelRfl
import Derived.Test.YthgkalkllfpjpaaAb6
set_option linter.unusedVariables false
set_option maxRecDepth 100000
namespace Go.Proofs.Ythgkalkllfpjpaa.G
open Go Go.Ab
/-! ### 3 parterre/parterrelaw12.SetsAny -/
noncomputable def c3 : Code := (Try.f3.body).getD .skip
noncomputable def r3 : List ResultVar := Try.f3.results.toList
def env3_0 (y1 y2 y3 y7 : AV) : List AV := [.j, y1, y2, y3, .j, .j, .j, y7, .j, .j, .j, .j, .j, .j, .j, .j, .j, .j, .j, .j, .j, .j, .j, .j, .j, .j, .j, .j, .j, .j, .j, .j, .j, .j, .j, .j, .j, .j, .j, .j, .j, .j, .j, .j, .j, .j, .j]
def mask3_0 : Nat := 142
def ms3 : List Nat := [mask3_0]
def m3 (x0 x1 x2 : AV) (S : Store) (Q : AEnd → Store → Prop) : Prop :=
  boxN 26 5 x0 S fun v1 S => shift v1 1 S fun v2 S => ld1 v2 S fun v3 S => lenS v3 S fun v4 S => bin .gtr 0 v4 (.v (Go.Value.int Go.IntKind.i64 20)) S fun v5 S => onB v5 fun b6 => gd b6 (callF Try.prog 12 [] S Q fun v7 S => Q (.ret v7) S) (shift v1 3 S fun v8 S => ld1 v8 S fun v9 S => lenS v9 S fun v10 S => bin .gtr 0 v10 (.v (Go.Value.int Go.IntKind.i64 20)) S fun v11 S => onB v11 fun b12 => gd b12 (callF Try.prog 12 [] S Q fun v13 S => Q (.ret v13) S) (shift v1 4 S fun v14 S => ld1 v14 S fun v15 S => lenS v15 S fun v16 S => bin .gtr 0 v16 (.v (Go.Value.int Go.IntKind.i64 5)) S fun v17 S => onB v17 fun b18 => gd b18 (callF Try.prog 12 [] S Q fun v19 S => Q (.ret v19) S) (loopV mask3_0 (vc Try.prog (c3.at_ [1, 1, 0, 1, 0, 0]) (ms3.drop 1)) (env3_0 x1 x2 v1 (.v (Go.Value.int Go.IntKind.i64 0))) S (blockK 0 (seqK (vc Try.prog (c3.at_ [1, 1, 1]) (ms3.drop 1)) (bodyK Try.prog r3 Q))))))
theorem m3_eq : (fun (x0 x1 x2 : AV) (S : Store) (Q : AEnd → Store → Prop) => vc Try.prog c3 ms3 ([x0, x1, x2] ++ List.replicate 44 .j) S (bodyK Try.prog r3 Q)) = (fun (x0 x1 x2 : AV) (S : Store) (Q : AEnd → Store → Prop) => m3 x0 x1 x2 S Q) := by kernel_rfl
theorem calls3 {x0 x1 x2 : AV} {S : Store} {Q : AEnd → Store → Prop} (h : m3 x0 x1 x2 S Q) : ACalls Try.prog 3 [x0, x1, x2] S Q :=
  calls_of_vc (fn := Try.f3) (c := c3) Try.func3 (by kernel_rfl) (by kernel_rfl) ms3 (by
    have e : Try.f3.ntmps - ([x0, x1, x2] : List AV).length = 44 := by kernel_rfl
    rw [e]
    exact (congrFun (congrFun (congrFun (congrFun (congrFun m3_eq x0) x1) x2) S) Q).mpr h)
-- loop 0: written: y7; read alone: y1 y2 y3
def b3_0 (y1 y2 y3 y7 : AV) (S : Store) (KE0 : List AV → Store → Prop) (Q : AEnd → Store → Prop) : Prop :=
  shift y3 3 S fun v20 S => ld1 v20 S fun v21 S => lenS v21 S fun v22 S => bin .lss 0 y7 v22 S fun v23 S => onB v23 fun b24 => gd b24 (shift y3 3 S fun v25 S => ld1 v25 S fun v26 S => ixS 28 1 v26 y7 S fun v27 S => ld1 v27 S fun v28 S => lenS v28 S fun v29 S => bin .gtr 0 v29 (.v (Go.Value.int Go.IntKind.i64 40)) S fun v30 S => onB v30 fun b31 => gd b31 (callF Try.prog 12 [] S Q fun v32 S => Q (.ret v32) S) (bin .add 0 y7 (.v (Go.Value.int Go.IntKind.i64 1)) S fun v33 S => KE0 (env3_0 y1 y2 y3 v33) S)) (callF Try.prog 12 [] S Q fun v34 S => onB v34 fun b35 => gd b35 (ldN 5 y3 S fun v36 S => callF Try.prog 13 [v36, y1, y2] S Q fun v37 S => Q (.ret v37) S) (Q (.ret (.v (Go.Value.bool false))) S))
theorem b3_0_eq : (fun (y1 y2 y3 y7 : AV) (S : Store) (KE0 : List AV → Store → Prop) (Q : AEnd → Store → Prop) => vc Try.prog (c3.at_ [1, 1, 0, 1, 0, 0]) (ms3.drop 1) (env3_0 y1 y2 y3 y7) S (thenK (fgK mask3_0 KE0) (blockK 0 (seqK (vc Try.prog (c3.at_ [1, 1, 1]) (ms3.drop 1)) (bodyK Try.prog r3 Q))))) = (fun (y1 y2 y3 y7 : AV) (S : Store) (KE0 : List AV → Store → Prop) (Q : AEnd → Store → Prop) => b3_0 y1 y2 y3 y7 S KE0 Q) := by kernel_rfl
theorem loop3_0 {y1 y2 y3 : AV} {y70 : AV} {S : Store} {Q : AEnd → Store → Prop} (I : AV → Store → Prop) (μ : AV → Store → Nat) (h0 : I y70 S)
    (hr : ∀ (y7 : AV) (S : Store), I y7 S → ∀ KE0 : List AV → Store → Prop, (∀ (y7' : AV) (S' : Store), I y7' S' → μ y7' S' < μ y7 S → KE0 (env3_0 y1 y2 y3 y7') S') → b3_0 y1 y2 y3 y7 S KE0 Q) :
    loopV mask3_0 (vc Try.prog (c3.at_ [1, 1, 0, 1, 0, 0]) (ms3.drop 1)) (env3_0 y1 y2 y3 y70) S (blockK 0 (seqK (vc Try.prog (c3.at_ [1, 1, 1]) (ms3.drop 1)) (bodyK Try.prog r3 Q))) := by
  refine ⟨fun e S => ∃ y7 : AV, e = (env3_0 y1 y2 y3 y7) ∧ I y7 S, fun e S => μ (e.getD 7 .j) S, ?_, ?_⟩
  · exact ⟨_, rfl, h0⟩
  · rintro e S ⟨y7, rfl, hI⟩
    exact (congrFun (congrFun (congrFun (congrFun (congrFun (congrFun (congrFun b3_0_eq y1) y2) y3) y7) S) _) Q).mpr (hr y7 S hI _ (fun y7' S' hI' hm => ⟨⟨_, rfl, hI'⟩, hm⟩))
end Go.Proofs.Ythgkalkllfpjpaa.G

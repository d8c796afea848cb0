/- It is proved here that each of the laws of sets (SetsMade, SetsFix, SetsMore, SetsFair) returns true for every input and changes none of its arguments. There is no condition beyond the given statement. -/
import Derived.Test.YthgkalkllfpjpaaProg
import Derived.KernelRfl
import Derived.Test.YthgkalkllfpjpaaAb6
set_option linter.unusedVariables false
set_option maxRecDepth 100000
namespace Go.Proofs.Ythgkalkllfpjpaa.G
open Go Go.Ab
/-! ### 83 slices.IndexFunc[[][]bool,[]bool] -/
noncomputable def c83 : Code := (Try.f83.body).getD .skip
noncomputable def r83 : List ResultVar := Try.f83.results.toList
def env83_0 (y0 y1 y7 y8 : AV) : List AV := [y0, y1, y7, y8]
def lv83_0 : List Nat := [0, 1, 7, 8]
def ms83 : List (List Nat) := [lv83_0]
def m83 (x0 x1 : AV) (S : Store) (Q : AEnd → Store → Prop) : Prop :=
  lenS x0 S fun v1 S => loopV lv83_0 (vc Try.prog (c83.at_ [1, 0, 1, 0, 0]) (ms83.drop 1)) 19 (env83_0 x0 x1 v1 (.v (Go.Value.int Go.IntKind.i64 0))) S (blockK 0 (seqK (vc Try.prog (c83.at_ [1, 1]) (ms83.drop 1)) (bodyK Try.prog r83 Q)))
theorem m83_eq : (fun (x0 x1 : AV) (S : Store) (Q : AEnd → Store → Prop) => vc Try.prog c83 ms83 (ofArgs 19 [x0, x1]) S (bodyK Try.prog r83 Q)) = (fun (x0 x1 : AV) (S : Store) (Q : AEnd → Store → Prop) => m83 x0 x1 S Q) := by kernel_rfl
theorem calls83 {x0 x1 : AV} {S : Store} {Q : AEnd → Store → Prop} (h : m83 x0 x1 S Q) : ACalls Try.prog 83 [x0, x1] S Q :=
  calls_of_vc (fn := Try.f83) (c := c83) (n := 19) Try.func83 (by kernel_rfl) (by kernel_rfl) (by kernel_rfl) ms83 ((congrFun (congrFun (congrFun (congrFun m83_eq x0) x1) S) Q).mpr h)
-- loop 0: written: y8; read alone: y0 y1 y7
def b83_0 (y0 y1 y7 y8 : AV) (S : Store) (KE0 : Nat → List AV → Store → Prop) (Q : AEnd → Store → Prop) : Prop :=
  bin .lss 0 y8 y7 S fun v2 S => onB v2 fun b3 => gd b3 (ixS 22 1 y0 y8 S fun v4 S => ld1 v4 S fun v5 S => callV Try.prog y1 [v5] S (fun v6 S => onB v6 fun b7 => gd b7 (Q (.ret y8) S) (bin .add 0 y8 (.v (Go.Value.int Go.IntKind.i64 1)) S fun v8 S => KE0 19 (env83_0 y0 y1 y7 v8) S)) (fun u S => Q (.pan u) S)) (Q (.ret (.v (Go.Value.int Go.IntKind.i64 (-1)))) S)
theorem b83_0_eq : (fun (y0 y1 y7 y8 : AV) (S : Store) (KE0 : Nat → List AV → Store → Prop) (Q : AEnd → Store → Prop) => vc Try.prog (c83.at_ [1, 0, 1, 0, 0]) (ms83.drop 1) (mkE 19 lv83_0 (env83_0 y0 y1 y7 y8)) S (thenK (fgK lv83_0 KE0) (blockK 0 (seqK (vc Try.prog (c83.at_ [1, 1]) (ms83.drop 1)) (bodyK Try.prog r83 Q))))) = (fun (y0 y1 y7 y8 : AV) (S : Store) (KE0 : Nat → List AV → Store → Prop) (Q : AEnd → Store → Prop) => b83_0 y0 y1 y7 y8 S KE0 Q) := by kernel_rfl
theorem loop83_0 {y0 y1 y7 : AV} {y80 : AV} {S : Store} {Q : AEnd → Store → Prop} (I : AV → Store → Prop) (μ : AV → Store → Nat) (h0 : I y80 S)
    (hr : ∀ (y8 : AV) (S : Store), I y8 S → ∀ KE0 : Nat → List AV → Store → Prop, (∀ (y8' : AV) (S' : Store), I y8' S' → μ y8' S' < μ y8 S → KE0 19 (env83_0 y0 y1 y7 y8') S') → b83_0 y0 y1 y7 y8 S KE0 Q) :
    loopV lv83_0 (vc Try.prog (c83.at_ [1, 0, 1, 0, 0]) (ms83.drop 1)) 19 (env83_0 y0 y1 y7 y80) S (blockK 0 (seqK (vc Try.prog (c83.at_ [1, 1]) (ms83.drop 1)) (bodyK Try.prog r83 Q))) := by
  refine ⟨fun n e S => n = 19 ∧ ∃ y8 : AV, e = (env83_0 y0 y1 y7 y8) ∧ I y8 S, fun _ e S => μ (e.getD 3 .j) S, ?_, ?_⟩
  · exact ⟨rfl, _, rfl, h0⟩
  · rintro _ e S ⟨rfl, y8, rfl, hI⟩
    exact (congrFun (congrFun (congrFun (congrFun (congrFun (congrFun (congrFun b83_0_eq y0) y1) y7) y8) S) _) Q).mpr (hr y8 S hI _ (fun y8' S' hI' hm => ⟨⟨rfl, _, rfl, hI'⟩, hm⟩))
/-! ### 84 slices.IndexFunc[[]int,int] -/
noncomputable def c84 : Code := (Try.f84.body).getD .skip
noncomputable def r84 : List ResultVar := Try.f84.results.toList
def env84_0 (y0 y1 y7 y8 : AV) : List AV := [y0, y1, y7, y8]
def lv84_0 : List Nat := [0, 1, 7, 8]
def ms84 : List (List Nat) := [lv84_0]
def m84 (x0 x1 : AV) (S : Store) (Q : AEnd → Store → Prop) : Prop :=
  lenS x0 S fun v1 S => loopV lv84_0 (vc Try.prog (c84.at_ [1, 0, 1, 0, 0]) (ms84.drop 1)) 19 (env84_0 x0 x1 v1 (.v (Go.Value.int Go.IntKind.i64 0))) S (blockK 0 (seqK (vc Try.prog (c84.at_ [1, 1]) (ms84.drop 1)) (bodyK Try.prog r84 Q)))
theorem m84_eq : (fun (x0 x1 : AV) (S : Store) (Q : AEnd → Store → Prop) => vc Try.prog c84 ms84 (ofArgs 19 [x0, x1]) S (bodyK Try.prog r84 Q)) = (fun (x0 x1 : AV) (S : Store) (Q : AEnd → Store → Prop) => m84 x0 x1 S Q) := by kernel_rfl
theorem calls84 {x0 x1 : AV} {S : Store} {Q : AEnd → Store → Prop} (h : m84 x0 x1 S Q) : ACalls Try.prog 84 [x0, x1] S Q :=
  calls_of_vc (fn := Try.f84) (c := c84) (n := 19) Try.func84 (by kernel_rfl) (by kernel_rfl) (by kernel_rfl) ms84 ((congrFun (congrFun (congrFun (congrFun m84_eq x0) x1) S) Q).mpr h)
-- loop 0: written: y8; read alone: y0 y1 y7
def b84_0 (y0 y1 y7 y8 : AV) (S : Store) (KE0 : Nat → List AV → Store → Prop) (Q : AEnd → Store → Prop) : Prop :=
  bin .lss 0 y8 y7 S fun v2 S => onB v2 fun b3 => gd b3 (ixS 3 1 y0 y8 S fun v4 S => ld1 v4 S fun v5 S => callV Try.prog y1 [v5] S (fun v6 S => onB v6 fun b7 => gd b7 (Q (.ret y8) S) (bin .add 0 y8 (.v (Go.Value.int Go.IntKind.i64 1)) S fun v8 S => KE0 19 (env84_0 y0 y1 y7 v8) S)) (fun u S => Q (.pan u) S)) (Q (.ret (.v (Go.Value.int Go.IntKind.i64 (-1)))) S)
theorem b84_0_eq : (fun (y0 y1 y7 y8 : AV) (S : Store) (KE0 : Nat → List AV → Store → Prop) (Q : AEnd → Store → Prop) => vc Try.prog (c84.at_ [1, 0, 1, 0, 0]) (ms84.drop 1) (mkE 19 lv84_0 (env84_0 y0 y1 y7 y8)) S (thenK (fgK lv84_0 KE0) (blockK 0 (seqK (vc Try.prog (c84.at_ [1, 1]) (ms84.drop 1)) (bodyK Try.prog r84 Q))))) = (fun (y0 y1 y7 y8 : AV) (S : Store) (KE0 : Nat → List AV → Store → Prop) (Q : AEnd → Store → Prop) => b84_0 y0 y1 y7 y8 S KE0 Q) := by kernel_rfl
theorem loop84_0 {y0 y1 y7 : AV} {y80 : AV} {S : Store} {Q : AEnd → Store → Prop} (I : AV → Store → Prop) (μ : AV → Store → Nat) (h0 : I y80 S)
    (hr : ∀ (y8 : AV) (S : Store), I y8 S → ∀ KE0 : Nat → List AV → Store → Prop, (∀ (y8' : AV) (S' : Store), I y8' S' → μ y8' S' < μ y8 S → KE0 19 (env84_0 y0 y1 y7 y8') S') → b84_0 y0 y1 y7 y8 S KE0 Q) :
    loopV lv84_0 (vc Try.prog (c84.at_ [1, 0, 1, 0, 0]) (ms84.drop 1)) 19 (env84_0 y0 y1 y7 y80) S (blockK 0 (seqK (vc Try.prog (c84.at_ [1, 1]) (ms84.drop 1)) (bodyK Try.prog r84 Q))) := by
  refine ⟨fun n e S => n = 19 ∧ ∃ y8 : AV, e = (env84_0 y0 y1 y7 y8) ∧ I y8 S, fun _ e S => μ (e.getD 3 .j) S, ?_, ?_⟩
  · exact ⟨rfl, _, rfl, h0⟩
  · rintro _ e S ⟨rfl, y8, rfl, hI⟩
    exact (congrFun (congrFun (congrFun (congrFun (congrFun (congrFun (congrFun b84_0_eq y0) y1) y7) y8) S) _) Q).mpr (hr y8 S hI _ (fun y8' S' hI' hm => ⟨⟨rfl, _, rfl, hI'⟩, hm⟩))
/-! ### 55 slices.ContainsFunc[[][]bool,[]bool] -/
noncomputable def c55 : Code := (Try.f55.body).getD .skip
noncomputable def r55 : List ResultVar := Try.f55.results.toList
def ms55 : List (List Nat) := []
def m55 (x0 x1 : AV) (S : Store) (Q : AEnd → Store → Prop) : Prop :=
  callF Try.prog 83 [x0, x1] S Q fun v1 S => bin .geq 0 v1 (.v (Go.Value.int Go.IntKind.i64 0)) S fun v2 S => Q (.ret v2) S
theorem m55_eq : (fun (x0 x1 : AV) (S : Store) (Q : AEnd → Store → Prop) => vc Try.prog c55 ms55 (ofArgs 9 [x0, x1]) S (bodyK Try.prog r55 Q)) = (fun (x0 x1 : AV) (S : Store) (Q : AEnd → Store → Prop) => m55 x0 x1 S Q) := by kernel_rfl
theorem calls55 {x0 x1 : AV} {S : Store} {Q : AEnd → Store → Prop} (h : m55 x0 x1 S Q) : ACalls Try.prog 55 [x0, x1] S Q :=
  calls_of_vc (fn := Try.f55) (c := c55) (n := 9) Try.func55 (by kernel_rfl) (by kernel_rfl) (by kernel_rfl) ms55 ((congrFun (congrFun (congrFun (congrFun m55_eq x0) x1) S) Q).mpr h)
/-! ### 56 slices.ContainsFunc[[]int,int] -/
noncomputable def c56 : Code := (Try.f56.body).getD .skip
noncomputable def r56 : List ResultVar := Try.f56.results.toList
def ms56 : List (List Nat) := []
def m56 (x0 x1 : AV) (S : Store) (Q : AEnd → Store → Prop) : Prop :=
  callF Try.prog 84 [x0, x1] S Q fun v1 S => bin .geq 0 v1 (.v (Go.Value.int Go.IntKind.i64 0)) S fun v2 S => Q (.ret v2) S
theorem m56_eq : (fun (x0 x1 : AV) (S : Store) (Q : AEnd → Store → Prop) => vc Try.prog c56 ms56 (ofArgs 9 [x0, x1]) S (bodyK Try.prog r56 Q)) = (fun (x0 x1 : AV) (S : Store) (Q : AEnd → Store → Prop) => m56 x0 x1 S Q) := by kernel_rfl
theorem calls56 {x0 x1 : AV} {S : Store} {Q : AEnd → Store → Prop} (h : m56 x0 x1 S Q) : ACalls Try.prog 56 [x0, x1] S Q :=
  calls_of_vc (fn := Try.f56) (c := c56) (n := 9) Try.func56 (by kernel_rfl) (by kernel_rfl) (by kernel_rfl) ms56 ((congrFun (congrFun (congrFun (congrFun m56_eq x0) x1) S) Q).mpr h)
/-! ### 54 parterre/sets.Fits$1 -/
noncomputable def c54 : Code := (Try.f54.body).getD .skip
noncomputable def r54 : List ResultVar := Try.f54.results.toList
def ms54 : List (List Nat) := []
def m54 (x0 x1 : AV) (S : Store) (Q : AEnd → Store → Prop) : Prop :=
  lenS x0 S fun v1 S => ld1 x1 S fun v2 S => bin .neq 0 v1 v2 S fun v3 S => Q (.ret v3) S
theorem m54_eq : (fun (x0 x1 : AV) (S : Store) (Q : AEnd → Store → Prop) => vc Try.prog c54 ms54 (ofArgs 8 [x0, x1]) S (bodyK Try.prog r54 Q)) = (fun (x0 x1 : AV) (S : Store) (Q : AEnd → Store → Prop) => m54 x0 x1 S Q) := by kernel_rfl
theorem calls54 {x0 x1 : AV} {S : Store} {Q : AEnd → Store → Prop} (h : m54 x0 x1 S Q) : ACalls Try.prog 54 [x0, x1] S Q :=
  calls_of_vc (fn := Try.f54) (c := c54) (n := 8) Try.func54 (by kernel_rfl) (by kernel_rfl) (by kernel_rfl) ms54 ((congrFun (congrFun (congrFun (congrFun m54_eq x0) x1) S) Q).mpr h)
/-! ### 57 parterre/sets.Fits$2 -/
noncomputable def c57 : Code := (Try.f57.body).getD .skip
noncomputable def r57 : List ResultVar := Try.f57.results.toList
def ms57 : List (List Nat) := []
def m57 (x0 x1 : AV) (S : Store) (Q : AEnd → Store → Prop) : Prop :=
  bin .lss 0 x0 (.v (Go.Value.int Go.IntKind.i64 0)) S fun v1 S => onB v1 fun b2 => gd b2 (Q (.ret (.v (Go.Value.bool true))) S) (ld1 x1 S fun v3 S => bin .geq 0 x0 v3 S fun v4 S => Q (.ret v4) S)
theorem m57_eq : (fun (x0 x1 : AV) (S : Store) (Q : AEnd → Store → Prop) => vc Try.prog c57 ms57 (ofArgs 11 [x0, x1]) S (bodyK Try.prog r57 Q)) = (fun (x0 x1 : AV) (S : Store) (Q : AEnd → Store → Prop) => m57 x0 x1 S Q) := by kernel_rfl
theorem calls57 {x0 x1 : AV} {S : Store} {Q : AEnd → Store → Prop} (h : m57 x0 x1 S Q) : ACalls Try.prog 57 [x0, x1] S Q :=
  calls_of_vc (fn := Try.f57) (c := c57) (n := 11) Try.func57 (by kernel_rfl) (by kernel_rfl) (by kernel_rfl) ms57 ((congrFun (congrFun (congrFun (congrFun m57_eq x0) x1) S) Q).mpr h)
/-! ### 29 parterre/sets.Fits -/
noncomputable def c29 : Code := (Try.f29.body).getD .skip
noncomputable def r29 : List ResultVar := Try.f29.results.toList
def env29_0 (y5 y30 y31 y32 : AV) : List AV := [y5, y30, y31, y32]
def lv29_0 : List Nat := [5, 30, 31, 32]
def ms29 : List (List Nat) := [lv29_0]
def m29 (x0 x1 : AV) (S : Store) (Q : AEnd → Store → Prop) : Prop :=
  boxN 26 5 x0 S fun v1 S => shift v1 1 S fun v2 S => ld1 v2 S fun v3 S => lenS v3 S fun v4 S => boxN 3 1 (.v (.int .i64 0)) S fun v5 S => stN 1 v5 v4 S fun v6 S => shift v1 3 S fun v7 S => ld1 v7 S fun v8 S => lenS v8 S fun v9 S => ld1 v5 S fun v10 S => bin .neq 0 v9 v10 S fun v11 S => onB v11 fun b12 => gd b12 (Q (.ret (.v (Go.Value.bool false))) S) (shift v1 4 S fun v13 S => ld1 v13 S fun v14 S => callF Try.prog 55 [v14, (.f (Go.Fn.func 54) [] [v5])] S Q fun v15 S => onB v15 fun b16 => gd b16 (Q (.ret (.v (Go.Value.bool false))) S) (callF Try.prog 55 [x1, (.f (Go.Fn.func 54) [] [v5])] S Q fun v17 S => onB v17 fun b18 => gd b18 (Q (.ret (.v (Go.Value.bool false))) S) (shift v1 3 S fun v19 S => ld1 v19 S fun v20 S => lenS v20 S fun v21 S => loopV lv29_0 (vc Try.prog (c29.at_ [1, 1, 1, 1, 0, 1, 0, 0]) (ms29.drop 1)) 40 (env29_0 v5 v20 v21 (.v (Go.Value.int Go.IntKind.i64 0))) S (blockK 0 (seqK (vc Try.prog (c29.at_ [1, 1, 1, 1, 1]) (ms29.drop 1)) (bodyK Try.prog r29 Q))))))
theorem m29_eq : (fun (x0 x1 : AV) (S : Store) (Q : AEnd → Store → Prop) => vc Try.prog c29 ms29 (ofArgs 40 [x0, x1]) S (bodyK Try.prog r29 Q)) = (fun (x0 x1 : AV) (S : Store) (Q : AEnd → Store → Prop) => m29 x0 x1 S Q) := by kernel_rfl
theorem calls29 {x0 x1 : AV} {S : Store} {Q : AEnd → Store → Prop} (h : m29 x0 x1 S Q) : ACalls Try.prog 29 [x0, x1] S Q :=
  calls_of_vc (fn := Try.f29) (c := c29) (n := 40) Try.func29 (by kernel_rfl) (by kernel_rfl) (by kernel_rfl) ms29 ((congrFun (congrFun (congrFun (congrFun m29_eq x0) x1) S) Q).mpr h)
-- loop 0: written: y32; read alone: y5 y30 y31
def b29_0 (y5 y30 y31 y32 : AV) (S : Store) (KE0 : Nat → List AV → Store → Prop) (Q : AEnd → Store → Prop) : Prop :=
  bin .lss 0 y32 y31 S fun v22 S => onB v22 fun b23 => gd b23 (ixS 28 1 y30 y32 S fun v24 S => ld1 v24 S fun v25 S => callF Try.prog 56 [v25, (.f (Go.Fn.func 57) [] [y5])] S Q fun v26 S => onB v26 fun b27 => gd b27 (Q (.ret (.v (Go.Value.bool false))) S) (bin .add 0 y32 (.v (Go.Value.int Go.IntKind.i64 1)) S fun v28 S => KE0 40 (env29_0 y5 y30 y31 v28) S)) (Q (.ret (.v (Go.Value.bool true))) S)
theorem b29_0_eq : (fun (y5 y30 y31 y32 : AV) (S : Store) (KE0 : Nat → List AV → Store → Prop) (Q : AEnd → Store → Prop) => vc Try.prog (c29.at_ [1, 1, 1, 1, 0, 1, 0, 0]) (ms29.drop 1) (mkE 40 lv29_0 (env29_0 y5 y30 y31 y32)) S (thenK (fgK lv29_0 KE0) (blockK 0 (seqK (vc Try.prog (c29.at_ [1, 1, 1, 1, 1]) (ms29.drop 1)) (bodyK Try.prog r29 Q))))) = (fun (y5 y30 y31 y32 : AV) (S : Store) (KE0 : Nat → List AV → Store → Prop) (Q : AEnd → Store → Prop) => b29_0 y5 y30 y31 y32 S KE0 Q) := by kernel_rfl
theorem loop29_0 {y5 y30 y31 : AV} {y320 : AV} {S : Store} {Q : AEnd → Store → Prop} (I : AV → Store → Prop) (μ : AV → Store → Nat) (h0 : I y320 S)
    (hr : ∀ (y32 : AV) (S : Store), I y32 S → ∀ KE0 : Nat → List AV → Store → Prop, (∀ (y32' : AV) (S' : Store), I y32' S' → μ y32' S' < μ y32 S → KE0 40 (env29_0 y5 y30 y31 y32') S') → b29_0 y5 y30 y31 y32 S KE0 Q) :
    loopV lv29_0 (vc Try.prog (c29.at_ [1, 1, 1, 1, 0, 1, 0, 0]) (ms29.drop 1)) 40 (env29_0 y5 y30 y31 y320) S (blockK 0 (seqK (vc Try.prog (c29.at_ [1, 1, 1, 1, 1]) (ms29.drop 1)) (bodyK Try.prog r29 Q))) := by
  refine ⟨fun n e S => n = 40 ∧ ∃ y32 : AV, e = (env29_0 y5 y30 y31 y32) ∧ I y32 S, fun _ e S => μ (e.getD 3 .j) S, ?_, ?_⟩
  · exact ⟨rfl, _, rfl, h0⟩
  · rintro _ e S ⟨rfl, y32, rfl, hI⟩
    exact (congrFun (congrFun (congrFun (congrFun (congrFun (congrFun (congrFun b29_0_eq y5) y30) y31) y32) S) _) Q).mpr (hr y32 S hI _ (fun y32' S' hI' hm => ⟨⟨rfl, _, rfl, hI'⟩, hm⟩))
/-! ### 60 parterre/sets.ex$1 -/
noncomputable def c60 : Code := (Try.f60.body).getD .skip
noncomputable def r60 : List ResultVar := Try.f60.results.toList
def ms60 : List (List Nat) := []
def m60 (x0 x1 : AV) (S : Store) (Q : AEnd → Store → Prop) : Prop :=
  ld1 x1 S fun v1 S => ixS 4 1 v1 x0 S fun v2 S => ld1 v2 S fun v3 S => Q (.ret v3) S
theorem m60_eq : (fun (x0 x1 : AV) (S : Store) (Q : AEnd → Store → Prop) => vc Try.prog c60 ms60 (ofArgs 8 [x0, x1]) S (bodyK Try.prog r60 Q)) = (fun (x0 x1 : AV) (S : Store) (Q : AEnd → Store → Prop) => m60 x0 x1 S Q) := by kernel_rfl
theorem calls60 {x0 x1 : AV} {S : Store} {Q : AEnd → Store → Prop} (h : m60 x0 x1 S Q) : ACalls Try.prog 60 [x0, x1] S Q :=
  calls_of_vc (fn := Try.f60) (c := c60) (n := 8) Try.func60 (by kernel_rfl) (by kernel_rfl) (by kernel_rfl) ms60 ((congrFun (congrFun (congrFun (congrFun m60_eq x0) x1) S) Q).mpr h)
/-! ### 85 slices.Clone[[]bool,bool] -/
noncomputable def c85 : Code := (Try.f85.body).getD .skip
noncomputable def r85 : List ResultVar := Try.f85.results.toList
def ms85 : List (List Nat) := []
def m85 (x0 : AV) (S : Store) (Q : AEnd → Store → Prop) : Prop :=
  nilV .eql 2 x0 S fun v1 S => onB v1 fun b2 => gd b2 (Q (.ret .nl) S) (bslN 4 1 0 [(.v (.bool false))] [] S fun v3 S => appS 4 1 1 v3 x0 S fun v4 S => Q (.ret v4) S)
theorem m85_eq : (fun (x0 : AV) (S : Store) (Q : AEnd → Store → Prop) => vc Try.prog c85 ms85 (ofArgs 8 [x0]) S (bodyK Try.prog r85 Q)) = (fun (x0 : AV) (S : Store) (Q : AEnd → Store → Prop) => m85 x0 S Q) := by kernel_rfl
theorem calls85 {x0 : AV} {S : Store} {Q : AEnd → Store → Prop} (h : m85 x0 S Q) : ACalls Try.prog 85 [x0] S Q :=
  calls_of_vc (fn := Try.f85) (c := c85) (n := 8) Try.func85 (by kernel_rfl) (by kernel_rfl) (by kernel_rfl) ms85 ((congrFun (congrFun (congrFun m85_eq x0) S) Q).mpr h)
/-! ### 58 parterre/sets.both -/
noncomputable def c58 : Code := (Try.f58.body).getD .skip
noncomputable def r58 : List ResultVar := Try.f58.results.toList
def env58_0 (y5 y10 y11 y12 : AV) : List AV := [y5, y10, y11, y12]
def lv58_0 : List Nat := [5, 10, 11, 12]
def ms58 : List (List Nat) := [lv58_0]
def m58 (x0 x1 : AV) (S : Store) (Q : AEnd → Store → Prop) : Prop :=
  callF Try.prog 85 [x0] S Q fun v1 S => lenS x1 S fun v2 S => loopV lv58_0 (vc Try.prog (c58.at_ [1, 1, 0, 1, 0, 0]) (ms58.drop 1)) 29 (env58_0 v1 x1 v2 (.v (Go.Value.int Go.IntKind.i64 0))) S (blockK 0 (seqK (vc Try.prog (c58.at_ [1, 1, 1]) (ms58.drop 1)) (bodyK Try.prog r58 Q)))
theorem m58_eq : (fun (x0 x1 : AV) (S : Store) (Q : AEnd → Store → Prop) => vc Try.prog c58 ms58 (ofArgs 29 [x0, x1]) S (bodyK Try.prog r58 Q)) = (fun (x0 x1 : AV) (S : Store) (Q : AEnd → Store → Prop) => m58 x0 x1 S Q) := by kernel_rfl
theorem calls58 {x0 x1 : AV} {S : Store} {Q : AEnd → Store → Prop} (h : m58 x0 x1 S Q) : ACalls Try.prog 58 [x0, x1] S Q :=
  calls_of_vc (fn := Try.f58) (c := c58) (n := 29) Try.func58 (by kernel_rfl) (by kernel_rfl) (by kernel_rfl) ms58 ((congrFun (congrFun (congrFun (congrFun m58_eq x0) x1) S) Q).mpr h)
-- loop 0: written: y12; read alone: y5 y10 y11
def b58_0 (y5 y10 y11 y12 : AV) (S : Store) (KE0 : Nat → List AV → Store → Prop) (Q : AEnd → Store → Prop) : Prop :=
  bin .lss 0 y12 y11 S fun v3 S => onB v3 fun b4 => gd b4 (ixS 4 1 y10 y12 S fun v5 S => ld1 v5 S fun v6 S => ixS 4 1 y5 y12 S fun v7 S => ld1 v7 S fun v8 S => onB v8 fun b9 => gd b9 (ixS 4 1 y5 y12 S fun v10 S => stN 1 v10 v6 S fun v11 S => bin .add 0 y12 (.v (Go.Value.int Go.IntKind.i64 1)) S fun v12 S => KE0 29 (env58_0 y5 y10 y11 v12) S) (ixS 4 1 y5 y12 S fun v13 S => stN 1 v13 (.v (Go.Value.bool false)) S fun v14 S => bin .add 0 y12 (.v (Go.Value.int Go.IntKind.i64 1)) S fun v15 S => KE0 29 (env58_0 y5 y10 y11 v15) S)) (Q (.ret y5) S)
theorem b58_0_eq : (fun (y5 y10 y11 y12 : AV) (S : Store) (KE0 : Nat → List AV → Store → Prop) (Q : AEnd → Store → Prop) => vc Try.prog (c58.at_ [1, 1, 0, 1, 0, 0]) (ms58.drop 1) (mkE 29 lv58_0 (env58_0 y5 y10 y11 y12)) S (thenK (fgK lv58_0 KE0) (blockK 0 (seqK (vc Try.prog (c58.at_ [1, 1, 1]) (ms58.drop 1)) (bodyK Try.prog r58 Q))))) = (fun (y5 y10 y11 y12 : AV) (S : Store) (KE0 : Nat → List AV → Store → Prop) (Q : AEnd → Store → Prop) => b58_0 y5 y10 y11 y12 S KE0 Q) := by kernel_rfl
theorem loop58_0 {y5 y10 y11 : AV} {y120 : AV} {S : Store} {Q : AEnd → Store → Prop} (I : AV → Store → Prop) (μ : AV → Store → Nat) (h0 : I y120 S)
    (hr : ∀ (y12 : AV) (S : Store), I y12 S → ∀ KE0 : Nat → List AV → Store → Prop, (∀ (y12' : AV) (S' : Store), I y12' S' → μ y12' S' < μ y12 S → KE0 29 (env58_0 y5 y10 y11 y12') S') → b58_0 y5 y10 y11 y12 S KE0 Q) :
    loopV lv58_0 (vc Try.prog (c58.at_ [1, 1, 0, 1, 0, 0]) (ms58.drop 1)) 29 (env58_0 y5 y10 y11 y120) S (blockK 0 (seqK (vc Try.prog (c58.at_ [1, 1, 1]) (ms58.drop 1)) (bodyK Try.prog r58 Q))) := by
  refine ⟨fun n e S => n = 29 ∧ ∃ y12 : AV, e = (env58_0 y5 y10 y11 y12) ∧ I y12 S, fun _ e S => μ (e.getD 3 .j) S, ?_, ?_⟩
  · exact ⟨rfl, _, rfl, h0⟩
  · rintro _ e S ⟨rfl, y12, rfl, hI⟩
    exact (congrFun (congrFun (congrFun (congrFun (congrFun (congrFun (congrFun b58_0_eq y5) y10) y11) y12) S) _) Q).mpr (hr y12 S hI _ (fun y12' S' hI' hm => ⟨⟨rfl, _, rfl, hI'⟩, hm⟩))
/-! ### 31 parterre/sets.ex -/
noncomputable def c31 : Code := (Try.f31.body).getD .skip
noncomputable def r31 : List ResultVar := Try.f31.results.toList
def env31_0 (y2 y3 y5 y12 y13 y14 : AV) : List AV := [y2, y3, y5, y12, y13, y14]
def lv31_0 : List Nat := [2, 3, 5, 12, 13, 14]
def ms31 : List (List Nat) := [lv31_0]
def m31 (x0 x1 : AV) (S : Store) (Q : AEnd → Store → Prop) : Prop :=
  boxN 26 5 x0 S fun v1 S => boxN 22 1 x1 S fun v2 S => ld1 v2 S fun v3 S => lenS v3 S fun v4 S => mkN 4 1 [(.v (.bool false))] v4 v4 S fun v5 S => shift v1 3 S fun v6 S => ld1 v6 S fun v7 S => lenS v7 S fun v8 S => loopV lv31_0 (vc Try.prog (c31.at_ [1, 1, 0, 1, 0, 0]) (ms31.drop 1)) 34 (env31_0 v1 v2 v5 v7 v8 (.v (Go.Value.int Go.IntKind.i64 0))) S (blockK 0 (seqK (vc Try.prog (c31.at_ [1, 1, 1]) (ms31.drop 1)) (bodyK Try.prog r31 Q)))
theorem m31_eq : (fun (x0 x1 : AV) (S : Store) (Q : AEnd → Store → Prop) => vc Try.prog c31 ms31 (ofArgs 34 [x0, x1]) S (bodyK Try.prog r31 Q)) = (fun (x0 x1 : AV) (S : Store) (Q : AEnd → Store → Prop) => m31 x0 x1 S Q) := by kernel_rfl
theorem calls31 {x0 x1 : AV} {S : Store} {Q : AEnd → Store → Prop} (h : m31 x0 x1 S Q) : ACalls Try.prog 31 [x0, x1] S Q :=
  calls_of_vc (fn := Try.f31) (c := c31) (n := 34) Try.func31 (by kernel_rfl) (by kernel_rfl) (by kernel_rfl) ms31 ((congrFun (congrFun (congrFun (congrFun m31_eq x0) x1) S) Q).mpr h)
-- loop 0: written: y14; read alone: y2 y3 y5 y12 y13
def b31_0 (y2 y3 y5 y12 y13 y14 : AV) (S : Store) (KE0 : Nat → List AV → Store → Prop) (Q : AEnd → Store → Prop) : Prop :=
  bin .lss 0 y14 y13 S fun v9 S => onB v9 fun b10 => gd b10 (ixS 28 1 y12 y14 S fun v11 S => ld1 v11 S fun v12 S => shift y2 1 S fun v13 S => ld1 v13 S fun v14 S => ixS 4 1 v14 y14 S fun v15 S => ld1 v15 S fun v16 S => onB v16 fun b17 => gd b17 (callF Try.prog 56 [v12, (.f (Go.Fn.func 60) [] [y3])] S Q fun v18 S => ixS 4 1 y5 y14 S fun v19 S => stN 1 v19 v18 S fun v20 S => bin .add 0 y14 (.v (Go.Value.int Go.IntKind.i64 1)) S fun v21 S => KE0 34 (env31_0 y2 y3 y5 y12 y13 v21) S) (ixS 4 1 y5 y14 S fun v22 S => stN 1 v22 (.v (Go.Value.bool false)) S fun v23 S => bin .add 0 y14 (.v (Go.Value.int Go.IntKind.i64 1)) S fun v24 S => KE0 34 (env31_0 y2 y3 y5 y12 y13 v24) S)) (Q (.ret y5) S)
theorem b31_0_eq : (fun (y2 y3 y5 y12 y13 y14 : AV) (S : Store) (KE0 : Nat → List AV → Store → Prop) (Q : AEnd → Store → Prop) => vc Try.prog (c31.at_ [1, 1, 0, 1, 0, 0]) (ms31.drop 1) (mkE 34 lv31_0 (env31_0 y2 y3 y5 y12 y13 y14)) S (thenK (fgK lv31_0 KE0) (blockK 0 (seqK (vc Try.prog (c31.at_ [1, 1, 1]) (ms31.drop 1)) (bodyK Try.prog r31 Q))))) = (fun (y2 y3 y5 y12 y13 y14 : AV) (S : Store) (KE0 : Nat → List AV → Store → Prop) (Q : AEnd → Store → Prop) => b31_0 y2 y3 y5 y12 y13 y14 S KE0 Q) := by kernel_rfl
theorem loop31_0 {y2 y3 y5 y12 y13 : AV} {y140 : AV} {S : Store} {Q : AEnd → Store → Prop} (I : AV → Store → Prop) (μ : AV → Store → Nat) (h0 : I y140 S)
    (hr : ∀ (y14 : AV) (S : Store), I y14 S → ∀ KE0 : Nat → List AV → Store → Prop, (∀ (y14' : AV) (S' : Store), I y14' S' → μ y14' S' < μ y14 S → KE0 34 (env31_0 y2 y3 y5 y12 y13 y14') S') → b31_0 y2 y3 y5 y12 y13 y14 S KE0 Q) :
    loopV lv31_0 (vc Try.prog (c31.at_ [1, 1, 0, 1, 0, 0]) (ms31.drop 1)) 34 (env31_0 y2 y3 y5 y12 y13 y140) S (blockK 0 (seqK (vc Try.prog (c31.at_ [1, 1, 1]) (ms31.drop 1)) (bodyK Try.prog r31 Q))) := by
  refine ⟨fun n e S => n = 34 ∧ ∃ y14 : AV, e = (env31_0 y2 y3 y5 y12 y13 y14) ∧ I y14 S, fun _ e S => μ (e.getD 5 .j) S, ?_, ?_⟩
  · exact ⟨rfl, _, rfl, h0⟩
  · rintro _ e S ⟨rfl, y14, rfl, hI⟩
    exact (congrFun (congrFun (congrFun (congrFun (congrFun (congrFun (congrFun (congrFun (congrFun b31_0_eq y2) y3) y5) y12) y13) y14) S) _) Q).mpr (hr y14 S hI _ (fun y14' S' hI' hm => ⟨⟨rfl, _, rfl, hI'⟩, hm⟩))
/-! ### 59 parterre/sets.ahead -/
noncomputable def c59 : Code := (Try.f59.body).getD .skip
noncomputable def r59 : List ResultVar := Try.f59.results.toList
def env59_0 (y1 y3 y13 y14 y15 : AV) : List AV := [y1, y3, y13, y14, y15]
def lv59_0 : List Nat := [1, 3, 13, 14, 15]
def env59_1 (y1 y3 y4 y13 y14 y15 y20 y21 y22 : AV) : List AV := [y1, y3, y4, y13, y14, y15, y20, y21, y22]
def lv59_1 : List Nat := [1, 3, 4, 13, 14, 15, 20, 21, 22]
def ms59 : List (List Nat) := [lv59_0, lv59_1]
def m59 (x0 : AV) (S : Store) (Q : AEnd → Store → Prop) : Prop :=
  boxN 26 5 x0 S fun v1 S => shift v1 3 S fun v2 S => ld1 v2 S fun v3 S => lenS v3 S fun v4 S => mkN 28 24 [.nl] v4 v4 S fun v5 S => shift v1 3 S fun v6 S => ld1 v6 S fun v7 S => lenS v7 S fun v8 S => loopV lv59_0 (vc Try.prog (c59.at_ [1, 1, 0, 1, 0, 0]) (ms59.drop 1)) 44 (env59_0 v1 v5 v7 v8 (.v (Go.Value.int Go.IntKind.i64 0))) S (blockK 0 (seqK (vc Try.prog (c59.at_ [1, 1, 1]) (ms59.drop 2)) (bodyK Try.prog r59 Q)))
theorem m59_eq : (fun (x0 : AV) (S : Store) (Q : AEnd → Store → Prop) => vc Try.prog c59 ms59 (ofArgs 44 [x0]) S (bodyK Try.prog r59 Q)) = (fun (x0 : AV) (S : Store) (Q : AEnd → Store → Prop) => m59 x0 S Q) := by kernel_rfl
theorem calls59 {x0 : AV} {S : Store} {Q : AEnd → Store → Prop} (h : m59 x0 S Q) : ACalls Try.prog 59 [x0] S Q :=
  calls_of_vc (fn := Try.f59) (c := c59) (n := 44) Try.func59 (by kernel_rfl) (by kernel_rfl) (by kernel_rfl) ms59 ((congrFun (congrFun (congrFun m59_eq x0) S) Q).mpr h)
-- loop 0: written: y15; read alone: y1 y3 y13 y14
def b59_0 (y1 y3 y13 y14 y15 : AV) (S : Store) (KE0 : Nat → List AV → Store → Prop) (Q : AEnd → Store → Prop) : Prop :=
  bin .lss 0 y15 y14 S fun v9 S => onB v9 fun b10 => gd b10 (ixS 28 1 y13 y15 S fun v11 S => ld1 v11 S fun v12 S => lenS v12 S fun v13 S => loopV lv59_1 (vc Try.prog (c59.at_ [1, 1, 0, 1, 0, 0, 1, 1, 0, 0, 1, 1, 0, 0]) (ms59.drop 2)) 44 (env59_1 y1 y3 y15 y13 y14 y15 v12 v13 (.v (Go.Value.int Go.IntKind.i64 0))) S (blockK 2 (blockK 1 (seqK (vc Try.prog (c59.at_ [1, 1, 0, 1, 0, 0, 1, 1, 1]) (ms59.drop 2)) (thenK (fgK lv59_0 KE0) (blockK 0 (seqK (vc Try.prog (c59.at_ [1, 1, 1]) (ms59.drop 2)) (bodyK Try.prog r59 Q)))))))) (Q (.ret y3) S)
theorem b59_0_eq : (fun (y1 y3 y13 y14 y15 : AV) (S : Store) (KE0 : Nat → List AV → Store → Prop) (Q : AEnd → Store → Prop) => vc Try.prog (c59.at_ [1, 1, 0, 1, 0, 0]) (ms59.drop 1) (mkE 44 lv59_0 (env59_0 y1 y3 y13 y14 y15)) S (thenK (fgK lv59_0 KE0) (blockK 0 (seqK (vc Try.prog (c59.at_ [1, 1, 1]) (ms59.drop 2)) (bodyK Try.prog r59 Q))))) = (fun (y1 y3 y13 y14 y15 : AV) (S : Store) (KE0 : Nat → List AV → Store → Prop) (Q : AEnd → Store → Prop) => b59_0 y1 y3 y13 y14 y15 S KE0 Q) := by kernel_rfl
theorem loop59_0 {y1 y3 y13 y14 : AV} {y150 : AV} {S : Store} {Q : AEnd → Store → Prop} (I : AV → Store → Prop) (μ : AV → Store → Nat) (h0 : I y150 S)
    (hr : ∀ (y15 : AV) (S : Store), I y15 S → ∀ KE0 : Nat → List AV → Store → Prop, (∀ (y15' : AV) (S' : Store), I y15' S' → μ y15' S' < μ y15 S → KE0 44 (env59_0 y1 y3 y13 y14 y15') S') → b59_0 y1 y3 y13 y14 y15 S KE0 Q) :
    loopV lv59_0 (vc Try.prog (c59.at_ [1, 1, 0, 1, 0, 0]) (ms59.drop 1)) 44 (env59_0 y1 y3 y13 y14 y150) S (blockK 0 (seqK (vc Try.prog (c59.at_ [1, 1, 1]) (ms59.drop 2)) (bodyK Try.prog r59 Q))) := by
  refine ⟨fun n e S => n = 44 ∧ ∃ y15 : AV, e = (env59_0 y1 y3 y13 y14 y15) ∧ I y15 S, fun _ e S => μ (e.getD 4 .j) S, ?_, ?_⟩
  · exact ⟨rfl, _, rfl, h0⟩
  · rintro _ e S ⟨rfl, y15, rfl, hI⟩
    exact (congrFun (congrFun (congrFun (congrFun (congrFun (congrFun (congrFun (congrFun b59_0_eq y1) y3) y13) y14) y15) S) _) Q).mpr (hr y15 S hI _ (fun y15' S' hI' hm => ⟨⟨rfl, _, rfl, hI'⟩, hm⟩))
-- loop 1: written: y22; read alone: y1 y3 y4 y13 y14 y15 y20 y21
def b59_1 (y1 y3 y4 y13 y14 y15 y20 y21 y22 : AV) (S : Store) (KE1 : Nat → List AV → Store → Prop) (KE0 : Nat → List AV → Store → Prop) (Q : AEnd → Store → Prop) : Prop :=
  bin .lss 0 y22 y21 S fun v14 S => onB v14 fun b15 => gd b15 (ixS 3 1 y20 y22 S fun v16 S => ld1 v16 S fun v17 S => shift y1 1 S fun v18 S => ld1 v18 S fun v19 S => ixS 4 1 v19 y4 S fun v20 S => ld1 v20 S fun v21 S => onB v21 fun b22 => gd b22 (ixS 28 1 y3 v17 S fun v23 S => ld1 v23 S fun v24 S => bslN 3 1 1 [(.v (.int .i64 0))] [(0, y4)] S fun v25 S => appS 3 1 8 v24 v25 S fun v26 S => ixS 28 1 y3 v17 S fun v27 S => stN 1 v27 v26 S fun v28 S => bin .add 0 y22 (.v (Go.Value.int Go.IntKind.i64 1)) S fun v29 S => KE1 44 (env59_1 y1 y3 y4 y13 y14 y15 y20 y21 v29) S) (bin .add 0 y22 (.v (Go.Value.int Go.IntKind.i64 1)) S fun v30 S => KE1 44 (env59_1 y1 y3 y4 y13 y14 y15 y20 y21 v30) S)) (bin .add 0 y15 (.v (Go.Value.int Go.IntKind.i64 1)) S fun v31 S => KE0 44 (env59_0 y1 y3 y13 y14 v31) S)
theorem b59_1_eq : (fun (y1 y3 y4 y13 y14 y15 y20 y21 y22 : AV) (S : Store) (KE1 : Nat → List AV → Store → Prop) (KE0 : Nat → List AV → Store → Prop) (Q : AEnd → Store → Prop) => vc Try.prog (c59.at_ [1, 1, 0, 1, 0, 0, 1, 1, 0, 0, 1, 1, 0, 0]) (ms59.drop 2) (mkE 44 lv59_1 (env59_1 y1 y3 y4 y13 y14 y15 y20 y21 y22)) S (thenK (fgK lv59_1 KE1) (blockK 2 (blockK 1 (seqK (vc Try.prog (c59.at_ [1, 1, 0, 1, 0, 0, 1, 1, 1]) (ms59.drop 2)) (thenK (fgK lv59_0 KE0) (blockK 0 (seqK (vc Try.prog (c59.at_ [1, 1, 1]) (ms59.drop 2)) (bodyK Try.prog r59 Q))))))))) = (fun (y1 y3 y4 y13 y14 y15 y20 y21 y22 : AV) (S : Store) (KE1 : Nat → List AV → Store → Prop) (KE0 : Nat → List AV → Store → Prop) (Q : AEnd → Store → Prop) => b59_1 y1 y3 y4 y13 y14 y15 y20 y21 y22 S KE1 KE0 Q) := by kernel_rfl
theorem loop59_1 {y1 y3 y4 y13 y14 y15 y20 y21 : AV} {y220 : AV} {S : Store} {KE0 : Nat → List AV → Store → Prop} {Q : AEnd → Store → Prop} (I : AV → Store → Prop) (μ : AV → Store → Nat) (h0 : I y220 S)
    (hr : ∀ (y22 : AV) (S : Store), I y22 S → ∀ KE1 : Nat → List AV → Store → Prop, (∀ (y22' : AV) (S' : Store), I y22' S' → μ y22' S' < μ y22 S → KE1 44 (env59_1 y1 y3 y4 y13 y14 y15 y20 y21 y22') S') → b59_1 y1 y3 y4 y13 y14 y15 y20 y21 y22 S KE1 KE0 Q) :
    loopV lv59_1 (vc Try.prog (c59.at_ [1, 1, 0, 1, 0, 0, 1, 1, 0, 0, 1, 1, 0, 0]) (ms59.drop 2)) 44 (env59_1 y1 y3 y4 y13 y14 y15 y20 y21 y220) S (blockK 2 (blockK 1 (seqK (vc Try.prog (c59.at_ [1, 1, 0, 1, 0, 0, 1, 1, 1]) (ms59.drop 2)) (thenK (fgK lv59_0 KE0) (blockK 0 (seqK (vc Try.prog (c59.at_ [1, 1, 1]) (ms59.drop 2)) (bodyK Try.prog r59 Q))))))) := by
  refine ⟨fun n e S => n = 44 ∧ ∃ y22 : AV, e = (env59_1 y1 y3 y4 y13 y14 y15 y20 y21 y22) ∧ I y22 S, fun _ e S => μ (e.getD 8 .j) S, ?_, ?_⟩
  · exact ⟨rfl, _, rfl, h0⟩
  · rintro _ e S ⟨rfl, y22, rfl, hI⟩
    exact (congrFun (congrFun (congrFun (congrFun (congrFun (congrFun (congrFun (congrFun (congrFun (congrFun (congrFun (congrFun (congrFun b59_1_eq y1) y3) y4) y13) y14) y15) y20) y21) y22) S) _) KE0) Q).mpr (hr y22 S hI _ (fun y22' S' hI' hm => ⟨⟨rfl, _, rfl, hI'⟩, hm⟩))
/-! ### 30 parterre/sets.eu -/
noncomputable def c30 : Code := (Try.f30.body).getD .skip
noncomputable def r30 : List ResultVar := Try.f30.results.toList
def env30_0 (y1 y3 y7 y8 y19 y20 y21 : AV) : List AV := [y1, y3, y7, y8, y19, y20, y21]
def lv30_0 : List Nat := [1, 3, 7, 8, 19, 20, 21]
def env30_1 (y1 y7 y8 y11 y12 : AV) : List AV := [y1, y7, y8, y11, y12]
def lv30_1 : List Nat := [1, 7, 8, 11, 12]
def env30_2 (y1 y7 y8 y11 y12 y46 y47 y48 : AV) : List AV := [y1, y7, y8, y11, y12, y46, y47, y48]
def lv30_2 : List Nat := [1, 7, 8, 11, 12, 46, 47, 48]
def ms30 : List (List Nat) := [lv30_0, lv30_1, lv30_2]
def m30 (x0 x1 x2 : AV) (S : Store) (Q : AEnd → Store → Prop) : Prop :=
  boxN 26 5 x0 S fun v1 S => shift v1 1 S fun v2 S => ld1 v2 S fun v3 S => callF Try.prog 58 [x2, v3] S Q fun v4 S => lenS v4 S fun v5 S => loopV lv30_0 (vc Try.prog (c30.at_ [1, 1, 1, 0, 1, 0, 0]) (ms30.drop 1)) 72 (env30_0 x1 v1 v4 .nl v4 v5 (.v (Go.Value.int Go.IntKind.i64 0))) S (blockK 0 (seqK (vc Try.prog (c30.at_ [1, 1, 1, 1]) (ms30.drop 1)) (bodyK Try.prog r30 Q)))
theorem m30_eq : (fun (x0 x1 x2 : AV) (S : Store) (Q : AEnd → Store → Prop) => vc Try.prog c30 ms30 (ofArgs 72 [x0, x1, x2]) S (bodyK Try.prog r30 Q)) = (fun (x0 x1 x2 : AV) (S : Store) (Q : AEnd → Store → Prop) => m30 x0 x1 x2 S Q) := by kernel_rfl
theorem calls30 {x0 x1 x2 : AV} {S : Store} {Q : AEnd → Store → Prop} (h : m30 x0 x1 x2 S Q) : ACalls Try.prog 30 [x0, x1, x2] S Q :=
  calls_of_vc (fn := Try.f30) (c := c30) (n := 72) Try.func30 (by kernel_rfl) (by kernel_rfl) (by kernel_rfl) ms30 ((congrFun (congrFun (congrFun (congrFun (congrFun m30_eq x0) x1) x2) S) Q).mpr h)
-- loop 0: written: y8 y21; read alone: y1 y3 y7 y19 y20
def b30_0 (y1 y3 y7 y8 y19 y20 y21 : AV) (S : Store) (KE0 : Nat → List AV → Store → Prop) (Q : AEnd → Store → Prop) : Prop :=
  bin .lss 0 y21 y20 S fun v6 S => onB v6 fun b7 => gd b7 (ixS 4 1 y19 y21 S fun v8 S => ld1 v8 S fun v9 S => onB v9 fun b10 => gd b10 (bslN 3 1 1 [(.v (.int .i64 0))] [(0, y21)] S fun v11 S => appS 3 1 8 y8 v11 S fun v12 S => bin .add 0 y21 (.v (Go.Value.int Go.IntKind.i64 1)) S fun v13 S => KE0 72 (env30_0 y1 y3 y7 v12 y19 y20 v13) S) (bin .add 0 y21 (.v (Go.Value.int Go.IntKind.i64 1)) S fun v14 S => KE0 72 (env30_0 y1 y3 y7 y8 y19 y20 v14) S)) (ldN 5 y3 S fun v15 S => callF Try.prog 59 [v15] S Q fun v16 S => loopV lv30_1 (vc Try.prog (c30.at_ [1, 1, 1, 1, 1, 0, 1, 0, 0]) (ms30.drop 2)) 72 (env30_1 y1 y7 y8 v16 (.v (Go.Value.int Go.IntKind.i64 0))) S (blockK 2 (seqK (vc Try.prog (c30.at_ [1, 1, 1, 1, 1, 1]) (ms30.drop 3)) (bodyK Try.prog r30 Q))))
theorem b30_0_eq : (fun (y1 y3 y7 y8 y19 y20 y21 : AV) (S : Store) (KE0 : Nat → List AV → Store → Prop) (Q : AEnd → Store → Prop) => vc Try.prog (c30.at_ [1, 1, 1, 0, 1, 0, 0]) (ms30.drop 1) (mkE 72 lv30_0 (env30_0 y1 y3 y7 y8 y19 y20 y21)) S (thenK (fgK lv30_0 KE0) (blockK 0 (seqK (vc Try.prog (c30.at_ [1, 1, 1, 1]) (ms30.drop 1)) (bodyK Try.prog r30 Q))))) = (fun (y1 y3 y7 y8 y19 y20 y21 : AV) (S : Store) (KE0 : Nat → List AV → Store → Prop) (Q : AEnd → Store → Prop) => b30_0 y1 y3 y7 y8 y19 y20 y21 S KE0 Q) := by kernel_rfl
theorem loop30_0 {y1 y3 y7 y19 y20 : AV} {y80 y210 : AV} {S : Store} {Q : AEnd → Store → Prop} (I : AV → AV → Store → Prop) (μ : AV → AV → Store → Nat) (h0 : I y80 y210 S)
    (hr : ∀ (y8 y21 : AV) (S : Store), I y8 y21 S → ∀ KE0 : Nat → List AV → Store → Prop, (∀ (y8' y21' : AV) (S' : Store), I y8' y21' S' → μ y8' y21' S' < μ y8 y21 S → KE0 72 (env30_0 y1 y3 y7 y8' y19 y20 y21') S') → b30_0 y1 y3 y7 y8 y19 y20 y21 S KE0 Q) :
    loopV lv30_0 (vc Try.prog (c30.at_ [1, 1, 1, 0, 1, 0, 0]) (ms30.drop 1)) 72 (env30_0 y1 y3 y7 y80 y19 y20 y210) S (blockK 0 (seqK (vc Try.prog (c30.at_ [1, 1, 1, 1]) (ms30.drop 1)) (bodyK Try.prog r30 Q))) := by
  refine ⟨fun n e S => n = 72 ∧ ∃ y8 y21 : AV, e = (env30_0 y1 y3 y7 y8 y19 y20 y21) ∧ I y8 y21 S, fun _ e S => μ (e.getD 3 .j) (e.getD 6 .j) S, ?_, ?_⟩
  · exact ⟨rfl, _, _, rfl, h0⟩
  · rintro _ e S ⟨rfl, y8, y21, rfl, hI⟩
    exact (congrFun (congrFun (congrFun (congrFun (congrFun (congrFun (congrFun (congrFun (congrFun (congrFun b30_0_eq y1) y3) y7) y8) y19) y20) y21) S) _) Q).mpr (hr y8 y21 S hI _ (fun y8' y21' S' hI' hm => ⟨⟨rfl, _, _, rfl, hI'⟩, hm⟩))
-- loop 1: written: y8 y12; read alone: y1 y7 y11
def b30_1 (y1 y7 y8 y11 y12 : AV) (S : Store) (KE1 : Nat → List AV → Store → Prop) (Q : AEnd → Store → Prop) : Prop :=
  lenS y8 S fun v17 S => bin .lss 0 y12 v17 S fun v18 S => onB v18 fun b19 => gd b19 (ixS 3 1 y8 y12 S fun v20 S => ld1 v20 S fun v21 S => ixS 28 1 y11 v21 S fun v22 S => ld1 v22 S fun v23 S => lenS v23 S fun v24 S => loopV lv30_2 (vc Try.prog (c30.at_ [1, 1, 1, 1, 1, 0, 1, 0, 0, 1, 0, 0, 1, 0, 0]) (ms30.drop 3)) 72 (env30_2 y1 y7 y8 y11 y12 v23 v24 (.v (Go.Value.int Go.IntKind.i64 0))) S (blockK 4 (blockK 3 (seqK (vc Try.prog (c30.at_ [1, 1, 1, 1, 1, 0, 1, 0, 0, 1, 1]) (ms30.drop 3)) (thenK (fgK lv30_1 KE1) (blockK 2 (seqK (vc Try.prog (c30.at_ [1, 1, 1, 1, 1, 1]) (ms30.drop 3)) (bodyK Try.prog r30 Q)))))))) (Q (.ret y7) S)
theorem b30_1_eq : (fun (y1 y7 y8 y11 y12 : AV) (S : Store) (KE1 : Nat → List AV → Store → Prop) (Q : AEnd → Store → Prop) => vc Try.prog (c30.at_ [1, 1, 1, 1, 1, 0, 1, 0, 0]) (ms30.drop 2) (mkE 72 lv30_1 (env30_1 y1 y7 y8 y11 y12)) S (thenK (fgK lv30_1 KE1) (blockK 2 (seqK (vc Try.prog (c30.at_ [1, 1, 1, 1, 1, 1]) (ms30.drop 3)) (bodyK Try.prog r30 Q))))) = (fun (y1 y7 y8 y11 y12 : AV) (S : Store) (KE1 : Nat → List AV → Store → Prop) (Q : AEnd → Store → Prop) => b30_1 y1 y7 y8 y11 y12 S KE1 Q) := by kernel_rfl
theorem loop30_1 {y1 y7 y11 : AV} {y80 y120 : AV} {S : Store} {Q : AEnd → Store → Prop} (I : AV → AV → Store → Prop) (μ : AV → AV → Store → Nat) (h0 : I y80 y120 S)
    (hr : ∀ (y8 y12 : AV) (S : Store), I y8 y12 S → ∀ KE1 : Nat → List AV → Store → Prop, (∀ (y8' y12' : AV) (S' : Store), I y8' y12' S' → μ y8' y12' S' < μ y8 y12 S → KE1 72 (env30_1 y1 y7 y8' y11 y12') S') → b30_1 y1 y7 y8 y11 y12 S KE1 Q) :
    loopV lv30_1 (vc Try.prog (c30.at_ [1, 1, 1, 1, 1, 0, 1, 0, 0]) (ms30.drop 2)) 72 (env30_1 y1 y7 y80 y11 y120) S (blockK 2 (seqK (vc Try.prog (c30.at_ [1, 1, 1, 1, 1, 1]) (ms30.drop 3)) (bodyK Try.prog r30 Q))) := by
  refine ⟨fun n e S => n = 72 ∧ ∃ y8 y12 : AV, e = (env30_1 y1 y7 y8 y11 y12) ∧ I y8 y12 S, fun _ e S => μ (e.getD 2 .j) (e.getD 4 .j) S, ?_, ?_⟩
  · exact ⟨rfl, _, _, rfl, h0⟩
  · rintro _ e S ⟨rfl, y8, y12, rfl, hI⟩
    exact (congrFun (congrFun (congrFun (congrFun (congrFun (congrFun (congrFun (congrFun b30_1_eq y1) y7) y8) y11) y12) S) _) Q).mpr (hr y8 y12 S hI _ (fun y8' y12' S' hI' hm => ⟨⟨rfl, _, _, rfl, hI'⟩, hm⟩))
-- loop 2: written: y8 y48; read alone: y1 y7 y11 y12 y46 y47
def b30_2 (y1 y7 y8 y11 y12 y46 y47 y48 : AV) (S : Store) (KE2 : Nat → List AV → Store → Prop) (KE1 : Nat → List AV → Store → Prop) (Q : AEnd → Store → Prop) : Prop :=
  bin .lss 0 y48 y47 S fun v25 S => onB v25 fun b26 => gd b26 (ixS 3 1 y46 y48 S fun v27 S => ld1 v27 S fun v28 S => ixS 4 1 y7 v28 S fun v29 S => ld1 v29 S fun v30 S => un .not v30 S fun v31 S => onB v31 fun b32 => gd b32 (ixS 4 1 y1 v28 S fun v33 S => ld1 v33 S fun v34 S => onB v34 fun b35 => gd b35 (ixS 4 1 y7 v28 S fun v36 S => stN 1 v36 (.v (Go.Value.bool true)) S fun v37 S => bslN 3 1 1 [(.v (.int .i64 0))] [(0, v28)] S fun v38 S => appS 3 1 8 y8 v38 S fun v39 S => bin .add 0 y48 (.v (Go.Value.int Go.IntKind.i64 1)) S fun v40 S => KE2 72 (env30_2 y1 y7 v39 y11 y12 y46 y47 v40) S) (bin .add 0 y48 (.v (Go.Value.int Go.IntKind.i64 1)) S fun v41 S => KE2 72 (env30_2 y1 y7 y8 y11 y12 y46 y47 v41) S)) (bin .add 0 y48 (.v (Go.Value.int Go.IntKind.i64 1)) S fun v42 S => KE2 72 (env30_2 y1 y7 y8 y11 y12 y46 y47 v42) S)) (bin .add 0 y12 (.v (Go.Value.int Go.IntKind.i64 1)) S fun v43 S => KE1 72 (env30_1 y1 y7 y8 y11 v43) S)
theorem b30_2_eq : (fun (y1 y7 y8 y11 y12 y46 y47 y48 : AV) (S : Store) (KE2 : Nat → List AV → Store → Prop) (KE1 : Nat → List AV → Store → Prop) (Q : AEnd → Store → Prop) => vc Try.prog (c30.at_ [1, 1, 1, 1, 1, 0, 1, 0, 0, 1, 0, 0, 1, 0, 0]) (ms30.drop 3) (mkE 72 lv30_2 (env30_2 y1 y7 y8 y11 y12 y46 y47 y48)) S (thenK (fgK lv30_2 KE2) (blockK 4 (blockK 3 (seqK (vc Try.prog (c30.at_ [1, 1, 1, 1, 1, 0, 1, 0, 0, 1, 1]) (ms30.drop 3)) (thenK (fgK lv30_1 KE1) (blockK 2 (seqK (vc Try.prog (c30.at_ [1, 1, 1, 1, 1, 1]) (ms30.drop 3)) (bodyK Try.prog r30 Q))))))))) = (fun (y1 y7 y8 y11 y12 y46 y47 y48 : AV) (S : Store) (KE2 : Nat → List AV → Store → Prop) (KE1 : Nat → List AV → Store → Prop) (Q : AEnd → Store → Prop) => b30_2 y1 y7 y8 y11 y12 y46 y47 y48 S KE2 KE1 Q) := by kernel_rfl
theorem loop30_2 {y1 y7 y11 y12 y46 y47 : AV} {y80 y480 : AV} {S : Store} {KE1 : Nat → List AV → Store → Prop} {Q : AEnd → Store → Prop} (I : AV → AV → Store → Prop) (μ : AV → AV → Store → Nat) (h0 : I y80 y480 S)
    (hr : ∀ (y8 y48 : AV) (S : Store), I y8 y48 S → ∀ KE2 : Nat → List AV → Store → Prop, (∀ (y8' y48' : AV) (S' : Store), I y8' y48' S' → μ y8' y48' S' < μ y8 y48 S → KE2 72 (env30_2 y1 y7 y8' y11 y12 y46 y47 y48') S') → b30_2 y1 y7 y8 y11 y12 y46 y47 y48 S KE2 KE1 Q) :
    loopV lv30_2 (vc Try.prog (c30.at_ [1, 1, 1, 1, 1, 0, 1, 0, 0, 1, 0, 0, 1, 0, 0]) (ms30.drop 3)) 72 (env30_2 y1 y7 y80 y11 y12 y46 y47 y480) S (blockK 4 (blockK 3 (seqK (vc Try.prog (c30.at_ [1, 1, 1, 1, 1, 0, 1, 0, 0, 1, 1]) (ms30.drop 3)) (thenK (fgK lv30_1 KE1) (blockK 2 (seqK (vc Try.prog (c30.at_ [1, 1, 1, 1, 1, 1]) (ms30.drop 3)) (bodyK Try.prog r30 Q))))))) := by
  refine ⟨fun n e S => n = 72 ∧ ∃ y8 y48 : AV, e = (env30_2 y1 y7 y8 y11 y12 y46 y47 y48) ∧ I y8 y48 S, fun _ e S => μ (e.getD 2 .j) (e.getD 7 .j) S, ?_, ?_⟩
  · exact ⟨rfl, _, _, rfl, h0⟩
  · rintro _ e S ⟨rfl, y8, y48, rfl, hI⟩
    exact (congrFun (congrFun (congrFun (congrFun (congrFun (congrFun (congrFun (congrFun (congrFun (congrFun (congrFun (congrFun b30_2_eq y1) y7) y8) y11) y12) y46) y47) y48) S) _) KE1) Q).mpr (hr y8 y48 S hI _ (fun y8' y48' S' hI' hm => ⟨⟨rfl, _, _, rfl, hI'⟩, hm⟩))
/-! ### 86 slices.Index[[]bool,bool] -/
noncomputable def c86 : Code := (Try.f86.body).getD .skip
noncomputable def r86 : List ResultVar := Try.f86.results.toList
def env86_0 (y0 y1 y7 y8 : AV) : List AV := [y0, y1, y7, y8]
def lv86_0 : List Nat := [0, 1, 7, 8]
def ms86 : List (List Nat) := [lv86_0]
def m86 (x0 x1 : AV) (S : Store) (Q : AEnd → Store → Prop) : Prop :=
  lenS x0 S fun v1 S => loopV lv86_0 (vc Try.prog (c86.at_ [1, 0, 1, 0, 0]) (ms86.drop 1)) 19 (env86_0 x0 x1 v1 (.v (Go.Value.int Go.IntKind.i64 0))) S (blockK 0 (seqK (vc Try.prog (c86.at_ [1, 1]) (ms86.drop 1)) (bodyK Try.prog r86 Q)))
theorem m86_eq : (fun (x0 x1 : AV) (S : Store) (Q : AEnd → Store → Prop) => vc Try.prog c86 ms86 (ofArgs 19 [x0, x1]) S (bodyK Try.prog r86 Q)) = (fun (x0 x1 : AV) (S : Store) (Q : AEnd → Store → Prop) => m86 x0 x1 S Q) := by kernel_rfl
theorem calls86 {x0 x1 : AV} {S : Store} {Q : AEnd → Store → Prop} (h : m86 x0 x1 S Q) : ACalls Try.prog 86 [x0, x1] S Q :=
  calls_of_vc (fn := Try.f86) (c := c86) (n := 19) Try.func86 (by kernel_rfl) (by kernel_rfl) (by kernel_rfl) ms86 ((congrFun (congrFun (congrFun (congrFun m86_eq x0) x1) S) Q).mpr h)
-- loop 0: written: y8; read alone: y0 y1 y7
def b86_0 (y0 y1 y7 y8 : AV) (S : Store) (KE0 : Nat → List AV → Store → Prop) (Q : AEnd → Store → Prop) : Prop :=
  bin .lss 0 y8 y7 S fun v2 S => onB v2 fun b3 => gd b3 (ixS 4 1 y0 y8 S fun v4 S => ld1 v4 S fun v5 S => bin .eql 1 y1 v5 S fun v6 S => onB v6 fun b7 => gd b7 (Q (.ret y8) S) (bin .add 0 y8 (.v (Go.Value.int Go.IntKind.i64 1)) S fun v8 S => KE0 19 (env86_0 y0 y1 y7 v8) S)) (Q (.ret (.v (Go.Value.int Go.IntKind.i64 (-1)))) S)
theorem b86_0_eq : (fun (y0 y1 y7 y8 : AV) (S : Store) (KE0 : Nat → List AV → Store → Prop) (Q : AEnd → Store → Prop) => vc Try.prog (c86.at_ [1, 0, 1, 0, 0]) (ms86.drop 1) (mkE 19 lv86_0 (env86_0 y0 y1 y7 y8)) S (thenK (fgK lv86_0 KE0) (blockK 0 (seqK (vc Try.prog (c86.at_ [1, 1]) (ms86.drop 1)) (bodyK Try.prog r86 Q))))) = (fun (y0 y1 y7 y8 : AV) (S : Store) (KE0 : Nat → List AV → Store → Prop) (Q : AEnd → Store → Prop) => b86_0 y0 y1 y7 y8 S KE0 Q) := by kernel_rfl
theorem loop86_0 {y0 y1 y7 : AV} {y80 : AV} {S : Store} {Q : AEnd → Store → Prop} (I : AV → Store → Prop) (μ : AV → Store → Nat) (h0 : I y80 S)
    (hr : ∀ (y8 : AV) (S : Store), I y8 S → ∀ KE0 : Nat → List AV → Store → Prop, (∀ (y8' : AV) (S' : Store), I y8' S' → μ y8' S' < μ y8 S → KE0 19 (env86_0 y0 y1 y7 y8') S') → b86_0 y0 y1 y7 y8 S KE0 Q) :
    loopV lv86_0 (vc Try.prog (c86.at_ [1, 0, 1, 0, 0]) (ms86.drop 1)) 19 (env86_0 y0 y1 y7 y80) S (blockK 0 (seqK (vc Try.prog (c86.at_ [1, 1]) (ms86.drop 1)) (bodyK Try.prog r86 Q))) := by
  refine ⟨fun n e S => n = 19 ∧ ∃ y8 : AV, e = (env86_0 y0 y1 y7 y8) ∧ I y8 S, fun _ e S => μ (e.getD 3 .j) S, ?_, ?_⟩
  · exact ⟨rfl, _, rfl, h0⟩
  · rintro _ e S ⟨rfl, y8, rfl, hI⟩
    exact (congrFun (congrFun (congrFun (congrFun (congrFun (congrFun (congrFun b86_0_eq y0) y1) y7) y8) S) _) Q).mpr (hr y8 S hI _ (fun y8' S' hI' hm => ⟨⟨rfl, _, rfl, hI'⟩, hm⟩))
/-! ### 61 slices.Contains[[]bool,bool] -/
noncomputable def c61 : Code := (Try.f61.body).getD .skip
noncomputable def r61 : List ResultVar := Try.f61.results.toList
def ms61 : List (List Nat) := []
def m61 (x0 x1 : AV) (S : Store) (Q : AEnd → Store → Prop) : Prop :=
  callF Try.prog 86 [x0, x1] S Q fun v1 S => bin .geq 0 v1 (.v (Go.Value.int Go.IntKind.i64 0)) S fun v2 S => Q (.ret v2) S
theorem m61_eq : (fun (x0 x1 : AV) (S : Store) (Q : AEnd → Store → Prop) => vc Try.prog c61 ms61 (ofArgs 9 [x0, x1]) S (bodyK Try.prog r61 Q)) = (fun (x0 x1 : AV) (S : Store) (Q : AEnd → Store → Prop) => m61 x0 x1 S Q) := by kernel_rfl
theorem calls61 {x0 x1 : AV} {S : Store} {Q : AEnd → Store → Prop} (h : m61 x0 x1 S Q) : ACalls Try.prog 61 [x0, x1] S Q :=
  calls_of_vc (fn := Try.f61) (c := c61) (n := 9) Try.func61 (by kernel_rfl) (by kernel_rfl) (by kernel_rfl) ms61 ((congrFun (congrFun (congrFun (congrFun m61_eq x0) x1) S) Q).mpr h)
/-! ### 62 slices.Equal[[]bool,bool] -/
noncomputable def c62 : Code := (Try.f62.body).getD .skip
noncomputable def r62 : List ResultVar := Try.f62.results.toList
def env62_0 (y0 y1 y12 y13 : AV) : List AV := [y0, y1, y12, y13]
def lv62_0 : List Nat := [0, 1, 12, 13]
def ms62 : List (List Nat) := [lv62_0]
def m62 (x0 x1 : AV) (S : Store) (Q : AEnd → Store → Prop) : Prop :=
  lenS x0 S fun v1 S => lenS x1 S fun v2 S => bin .neq 0 v1 v2 S fun v3 S => onB v3 fun b4 => gd b4 (Q (.ret (.v (Go.Value.bool false))) S) (lenS x0 S fun v5 S => loopV lv62_0 (vc Try.prog (c62.at_ [1, 1, 0, 1, 0, 0]) (ms62.drop 1)) 26 (env62_0 x0 x1 v5 (.v (Go.Value.int Go.IntKind.i64 0))) S (blockK 0 (seqK (vc Try.prog (c62.at_ [1, 1, 1]) (ms62.drop 1)) (bodyK Try.prog r62 Q))))
theorem m62_eq : (fun (x0 x1 : AV) (S : Store) (Q : AEnd → Store → Prop) => vc Try.prog c62 ms62 (ofArgs 26 [x0, x1]) S (bodyK Try.prog r62 Q)) = (fun (x0 x1 : AV) (S : Store) (Q : AEnd → Store → Prop) => m62 x0 x1 S Q) := by kernel_rfl
theorem calls62 {x0 x1 : AV} {S : Store} {Q : AEnd → Store → Prop} (h : m62 x0 x1 S Q) : ACalls Try.prog 62 [x0, x1] S Q :=
  calls_of_vc (fn := Try.f62) (c := c62) (n := 26) Try.func62 (by kernel_rfl) (by kernel_rfl) (by kernel_rfl) ms62 ((congrFun (congrFun (congrFun (congrFun m62_eq x0) x1) S) Q).mpr h)
-- loop 0: written: y13; read alone: y0 y1 y12
def b62_0 (y0 y1 y12 y13 : AV) (S : Store) (KE0 : Nat → List AV → Store → Prop) (Q : AEnd → Store → Prop) : Prop :=
  bin .lss 0 y13 y12 S fun v6 S => onB v6 fun b7 => gd b7 ((fun S0 : Store => ∃ q8 : AV, (ixS 4 1 y0 y13 S fun v9 S => v9 = q8 ∧ S = S0) ∧ ∃ q10 : AV, (ld1 q8 S fun v11 S => v11 = q10 ∧ S = S0) ∧ ∃ q12 : AV, (ixS 4 1 y1 y13 S fun v13 S => v13 = q12 ∧ S = S0) ∧ ∃ q14 : AV, (ld1 q12 S fun v15 S => v15 = q14 ∧ S = S0) ∧ ∃ q16 : AV, (bin .neq 1 q10 q14 S fun v17 S => v17 = q16 ∧ S = S0) ∧ onB q16 fun b18 => gd b18 (Q (.ret (.v (Go.Value.bool false))) S) (bin .add 0 y13 (.v (Go.Value.int Go.IntKind.i64 1)) S fun v19 S => KE0 26 (env62_0 y0 y1 y12 v19) S)) S) (Q (.ret (.v (Go.Value.bool true))) S)
theorem b62_0_eq : (fun (y0 y1 y12 y13 : AV) (S : Store) (KE0 : Nat → List AV → Store → Prop) (Q : AEnd → Store → Prop) => vc Try.prog (c62.at_ [1, 1, 0, 1, 0, 0]) (ms62.drop 1) (mkE 26 lv62_0 (env62_0 y0 y1 y12 y13)) S (thenK (fgK lv62_0 KE0) (blockK 0 (seqK (vc Try.prog (c62.at_ [1, 1, 1]) (ms62.drop 1)) (bodyK Try.prog r62 Q))))) = (fun (y0 y1 y12 y13 : AV) (S : Store) (KE0 : Nat → List AV → Store → Prop) (Q : AEnd → Store → Prop) => b62_0 y0 y1 y12 y13 S KE0 Q) := by kernel_rfl
theorem loop62_0 {y0 y1 y12 : AV} {y130 : AV} {S : Store} {Q : AEnd → Store → Prop} (I : AV → Store → Prop) (μ : AV → Store → Nat) (h0 : I y130 S)
    (hr : ∀ (y13 : AV) (S : Store), I y13 S → ∀ KE0 : Nat → List AV → Store → Prop, (∀ (y13' : AV) (S' : Store), I y13' S' → μ y13' S' < μ y13 S → KE0 26 (env62_0 y0 y1 y12 y13') S') → b62_0 y0 y1 y12 y13 S KE0 Q) :
    loopV lv62_0 (vc Try.prog (c62.at_ [1, 1, 0, 1, 0, 0]) (ms62.drop 1)) 26 (env62_0 y0 y1 y12 y130) S (blockK 0 (seqK (vc Try.prog (c62.at_ [1, 1, 1]) (ms62.drop 1)) (bodyK Try.prog r62 Q))) := by
  refine ⟨fun n e S => n = 26 ∧ ∃ y13 : AV, e = (env62_0 y0 y1 y12 y13) ∧ I y13 S, fun _ e S => μ (e.getD 3 .j) S, ?_, ?_⟩
  · exact ⟨rfl, _, rfl, h0⟩
  · rintro _ e S ⟨rfl, y13, rfl, hI⟩
    exact (congrFun (congrFun (congrFun (congrFun (congrFun (congrFun (congrFun b62_0_eq y0) y1) y12) y13) S) _) Q).mpr (hr y13 S hI _ (fun y13' S' hI' hm => ⟨⟨rfl, _, rfl, hI'⟩, hm⟩))
/-! ### 32 parterre/sets.eg -/
noncomputable def c32 : Code := (Try.f32.body).getD .skip
noncomputable def r32 : List ResultVar := Try.f32.results.toList
def env32_0 (y2 y5 y6 : AV) : List AV := [y2, y5, y6]
def lv32_0 : List Nat := [2, 5, 6]
def env32_1 (y2 y5 y6 y7 y23 y24 y25 : AV) : List AV := [y2, y5, y6, y7, y23, y24, y25]
def lv32_1 : List Nat := [2, 5, 6, 7, 23, 24, 25]
def ms32 : List (List Nat) := [lv32_0, lv32_1]
def m32 (x0 x1 : AV) (S : Store) (Q : AEnd → Store → Prop) : Prop :=
  boxN 26 5 x0 S fun v1 S => shift v1 4 S fun v2 S => ld1 v2 S fun v3 S => lenS v3 S fun v4 S => bin .eql 0 v4 (.v (Go.Value.int Go.IntKind.i64 0)) S fun v5 S => onB v5 fun b6 => gd b6 (shift v1 1 S fun v7 S => ld1 v7 S fun v8 S => bslN 22 1 1 [.nl] [(0, v8)] S fun v9 S => shift v1 1 S fun v10 S => ld1 v10 S fun v11 S => callF Try.prog 58 [x1, v11] S Q fun v12 S => loopV lv32_0 (vc Try.prog (c32.at_ [1, 0, 1, 1, 1, 1, 0, 0, 0]) (ms32.drop 1)) 47 (env32_0 v1 v9 v12) S (blockK 0 (seqK (vc Try.prog (c32.at_ [1, 0, 1, 1, 1, 1, 1]) (ms32.drop 2)) (scopeK (bodyK Try.prog r32 Q))))) (shift v1 1 S fun v13 S => ld1 v13 S fun v14 S => callF Try.prog 58 [x1, v14] S Q fun v15 S => loopV lv32_0 (vc Try.prog (c32.at_ [1, 0, 1, 1, 1, 1, 0, 0, 0]) (ms32.drop 1)) 47 (env32_0 v1 v3 v15) S (blockK 0 (seqK (vc Try.prog (c32.at_ [1, 0, 1, 1, 1, 1, 1]) (ms32.drop 2)) (scopeK (bodyK Try.prog r32 Q)))))
theorem m32_eq : (fun (x0 x1 : AV) (S : Store) (Q : AEnd → Store → Prop) => vc Try.prog c32 ms32 (ofArgs 47 [x0, x1]) S (bodyK Try.prog r32 Q)) = (fun (x0 x1 : AV) (S : Store) (Q : AEnd → Store → Prop) => m32 x0 x1 S Q) := by kernel_rfl
theorem calls32 {x0 x1 : AV} {S : Store} {Q : AEnd → Store → Prop} (h : m32 x0 x1 S Q) : ACalls Try.prog 32 [x0, x1] S Q :=
  calls_of_vc (fn := Try.f32) (c := c32) (n := 47) Try.func32 (by kernel_rfl) (by kernel_rfl) (by kernel_rfl) ms32 ((congrFun (congrFun (congrFun (congrFun m32_eq x0) x1) S) Q).mpr h)
-- loop 0: written: y6; read alone: y2 y5
def b32_0 (y2 y5 y6 : AV) (S : Store) (KE0 : Nat → List AV → Store → Prop) (Q : AEnd → Store → Prop) : Prop :=
  lenS y5 S fun v16 S => loopV lv32_1 (vc Try.prog (c32.at_ [1, 0, 1, 1, 1, 1, 0, 0, 0, 0, 1, 0, 1, 0, 0]) (ms32.drop 2)) 47 (env32_1 y2 y5 y6 y6 y5 v16 (.v (Go.Value.int Go.IntKind.i64 0))) S (blockK 2 (seqK (vc Try.prog (c32.at_ [1, 0, 1, 1, 1, 1, 0, 0, 0, 0, 1, 1]) (ms32.drop 2)) (blockK 1 (thenK (fgK lv32_0 KE0) (blockK 0 (seqK (vc Try.prog (c32.at_ [1, 0, 1, 1, 1, 1, 1]) (ms32.drop 2)) (scopeK (bodyK Try.prog r32 Q))))))))
theorem b32_0_eq : (fun (y2 y5 y6 : AV) (S : Store) (KE0 : Nat → List AV → Store → Prop) (Q : AEnd → Store → Prop) => vc Try.prog (c32.at_ [1, 0, 1, 1, 1, 1, 0, 0, 0]) (ms32.drop 1) (mkE 47 lv32_0 (env32_0 y2 y5 y6)) S (thenK (fgK lv32_0 KE0) (blockK 0 (seqK (vc Try.prog (c32.at_ [1, 0, 1, 1, 1, 1, 1]) (ms32.drop 2)) (scopeK (bodyK Try.prog r32 Q)))))) = (fun (y2 y5 y6 : AV) (S : Store) (KE0 : Nat → List AV → Store → Prop) (Q : AEnd → Store → Prop) => b32_0 y2 y5 y6 S KE0 Q) := by kernel_rfl
theorem loop32_0 {y2 y5 : AV} {y60 : AV} {S : Store} {Q : AEnd → Store → Prop} (I : AV → Store → Prop) (μ : AV → Store → Nat) (h0 : I y60 S)
    (hr : ∀ (y6 : AV) (S : Store), I y6 S → ∀ KE0 : Nat → List AV → Store → Prop, (∀ (y6' : AV) (S' : Store), I y6' S' → μ y6' S' < μ y6 S → KE0 47 (env32_0 y2 y5 y6') S') → b32_0 y2 y5 y6 S KE0 Q) :
    loopV lv32_0 (vc Try.prog (c32.at_ [1, 0, 1, 1, 1, 1, 0, 0, 0]) (ms32.drop 1)) 47 (env32_0 y2 y5 y60) S (blockK 0 (seqK (vc Try.prog (c32.at_ [1, 0, 1, 1, 1, 1, 1]) (ms32.drop 2)) (scopeK (bodyK Try.prog r32 Q)))) := by
  refine ⟨fun n e S => n = 47 ∧ ∃ y6 : AV, e = (env32_0 y2 y5 y6) ∧ I y6 S, fun _ e S => μ (e.getD 2 .j) S, ?_, ?_⟩
  · exact ⟨rfl, _, rfl, h0⟩
  · rintro _ e S ⟨rfl, y6, rfl, hI⟩
    exact (congrFun (congrFun (congrFun (congrFun (congrFun (congrFun b32_0_eq y2) y5) y6) S) _) Q).mpr (hr y6 S hI _ (fun y6' S' hI' hm => ⟨⟨rfl, _, rfl, hI'⟩, hm⟩))
-- loop 1: written: y6 y25; read alone: y2 y5 y7 y23 y24
def b32_1 (y2 y5 y6 y7 y23 y24 y25 : AV) (S : Store) (KE1 : Nat → List AV → Store → Prop) (KE0 : Nat → List AV → Store → Prop) (Q : AEnd → Store → Prop) : Prop :=
  bin .lss 0 y25 y24 S fun v17 S => onB v17 fun b18 => gd b18 (ixS 22 1 y23 y25 S fun v19 S => ld1 v19 S fun v20 S => (fun S0 : Store => ∃ q21 : AV, (ldN 5 y2 S fun v22 S => v22 = q21 ∧ S = S0) ∧ ∃ q23 : AV, (ldN 5 y2 S fun v24 S => v24 = q23 ∧ S = S0) ∧ ∃ q25 : AV, (callF Try.prog 58 [y6, v20] S (fun _ _ => False) fun v26 S => v26 = q25 ∧ S = S0) ∧ ∃ q27 : AV, (callF Try.prog 30 [q23, y6, q25] S (fun _ _ => False) fun v28 S => v28 = q27 ∧ S = S0) ∧ ∃ q29 : AV, (callF Try.prog 31 [q21, q27] S (fun _ _ => False) fun v30 S => v30 = q29 ∧ S = S0) ∧ ∃ q31 : AV, (callF Try.prog 58 [y6, q29] S (fun _ _ => False) fun v32 S => v32 = q31 ∧ S = S0) ∧ callF Try.prog 61 [q31, (.v (Go.Value.bool true))] S Q fun v33 S => un .not v33 S fun v34 S => onB v34 fun b35 => gd b35 (Q (.ret q31) S) (bin .add 0 y25 (.v (Go.Value.int Go.IntKind.i64 1)) S fun v36 S => KE1 47 (env32_1 y2 y5 q31 y7 y23 y24 v36) S)) S) (callF Try.prog 62 [y7, y6] S Q fun v37 S => onB v37 fun b38 => gd b38 (Q (.ret y6) S) (KE0 47 (env32_0 y2 y5 y6) S))
theorem b32_1_eq : (fun (y2 y5 y6 y7 y23 y24 y25 : AV) (S : Store) (KE1 : Nat → List AV → Store → Prop) (KE0 : Nat → List AV → Store → Prop) (Q : AEnd → Store → Prop) => vc Try.prog (c32.at_ [1, 0, 1, 1, 1, 1, 0, 0, 0, 0, 1, 0, 1, 0, 0]) (ms32.drop 2) (mkE 47 lv32_1 (env32_1 y2 y5 y6 y7 y23 y24 y25)) S (thenK (fgK lv32_1 KE1) (blockK 2 (seqK (vc Try.prog (c32.at_ [1, 0, 1, 1, 1, 1, 0, 0, 0, 0, 1, 1]) (ms32.drop 2)) (blockK 1 (thenK (fgK lv32_0 KE0) (blockK 0 (seqK (vc Try.prog (c32.at_ [1, 0, 1, 1, 1, 1, 1]) (ms32.drop 2)) (scopeK (bodyK Try.prog r32 Q)))))))))) = (fun (y2 y5 y6 y7 y23 y24 y25 : AV) (S : Store) (KE1 : Nat → List AV → Store → Prop) (KE0 : Nat → List AV → Store → Prop) (Q : AEnd → Store → Prop) => b32_1 y2 y5 y6 y7 y23 y24 y25 S KE1 KE0 Q) := by kernel_rfl
theorem loop32_1 {y2 y5 y7 y23 y24 : AV} {y60 y250 : AV} {S : Store} {KE0 : Nat → List AV → Store → Prop} {Q : AEnd → Store → Prop} (I : AV → AV → Store → Prop) (μ : AV → AV → Store → Nat) (h0 : I y60 y250 S)
    (hr : ∀ (y6 y25 : AV) (S : Store), I y6 y25 S → ∀ KE1 : Nat → List AV → Store → Prop, (∀ (y6' y25' : AV) (S' : Store), I y6' y25' S' → μ y6' y25' S' < μ y6 y25 S → KE1 47 (env32_1 y2 y5 y6' y7 y23 y24 y25') S') → b32_1 y2 y5 y6 y7 y23 y24 y25 S KE1 KE0 Q) :
    loopV lv32_1 (vc Try.prog (c32.at_ [1, 0, 1, 1, 1, 1, 0, 0, 0, 0, 1, 0, 1, 0, 0]) (ms32.drop 2)) 47 (env32_1 y2 y5 y60 y7 y23 y24 y250) S (blockK 2 (seqK (vc Try.prog (c32.at_ [1, 0, 1, 1, 1, 1, 0, 0, 0, 0, 1, 1]) (ms32.drop 2)) (blockK 1 (thenK (fgK lv32_0 KE0) (blockK 0 (seqK (vc Try.prog (c32.at_ [1, 0, 1, 1, 1, 1, 1]) (ms32.drop 2)) (scopeK (bodyK Try.prog r32 Q)))))))) := by
  refine ⟨fun n e S => n = 47 ∧ ∃ y6 y25 : AV, e = (env32_1 y2 y5 y6 y7 y23 y24 y25) ∧ I y6 y25 S, fun _ e S => μ (e.getD 2 .j) (e.getD 6 .j) S, ?_, ?_⟩
  · exact ⟨rfl, _, _, rfl, h0⟩
  · rintro _ e S ⟨rfl, y6, y25, rfl, hI⟩
    exact (congrFun (congrFun (congrFun (congrFun (congrFun (congrFun (congrFun (congrFun (congrFun (congrFun (congrFun b32_1_eq y2) y5) y6) y7) y23) y24) y25) S) _) KE0) Q).mpr (hr y6 y25 S hI _ (fun y6' y25' S' hI' hm => ⟨⟨rfl, _, _, rfl, hI'⟩, hm⟩))
/-! ### 17 parterre/sets.EX -/
noncomputable def c17 : Code := (Try.f17.body).getD .skip
noncomputable def r17 : List ResultVar := Try.f17.results.toList
def ms17 : List (List Nat) := []
def m17 (x0 x1 : AV) (S : Store) (Q : AEnd → Store → Prop) : Prop :=
  boxN 26 5 x0 S fun v1 S => ldN 5 v1 S fun v2 S => bslN 22 1 1 [.nl] [(0, x1)] S fun v3 S => callF Try.prog 29 [v2, v3] S Q fun v4 S => un .not v4 S fun v5 S => onB v5 fun b6 => gd b6 (Q (.ret .nl) S) (ldN 5 v1 S fun v7 S => callF Try.prog 31 [v7, x1] S Q fun v8 S => Q (.ret v8) S)
theorem m17_eq : (fun (x0 x1 : AV) (S : Store) (Q : AEnd → Store → Prop) => vc Try.prog c17 ms17 (ofArgs 13 [x0, x1]) S (bodyK Try.prog r17 Q)) = (fun (x0 x1 : AV) (S : Store) (Q : AEnd → Store → Prop) => m17 x0 x1 S Q) := by kernel_rfl
theorem calls17 {x0 x1 : AV} {S : Store} {Q : AEnd → Store → Prop} (h : m17 x0 x1 S Q) : ACalls Try.prog 17 [x0, x1] S Q :=
  calls_of_vc (fn := Try.f17) (c := c17) (n := 13) Try.func17 (by kernel_rfl) (by kernel_rfl) (by kernel_rfl) ms17 ((congrFun (congrFun (congrFun (congrFun m17_eq x0) x1) S) Q).mpr h)
/-! ### 16 parterre/sets.EU -/
noncomputable def c16 : Code := (Try.f16.body).getD .skip
noncomputable def r16 : List ResultVar := Try.f16.results.toList
def ms16 : List (List Nat) := []
def m16 (x0 x1 x2 : AV) (S : Store) (Q : AEnd → Store → Prop) : Prop :=
  boxN 26 5 x0 S fun v1 S => ldN 5 v1 S fun v2 S => bslN 22 1 2 [.nl] [(0, x1), (1, x2)] S fun v3 S => callF Try.prog 29 [v2, v3] S Q fun v4 S => un .not v4 S fun v5 S => onB v5 fun b6 => gd b6 (Q (.ret .nl) S) (ldN 5 v1 S fun v7 S => callF Try.prog 30 [v7, x1, x2] S Q fun v8 S => Q (.ret v8) S)
theorem m16_eq : (fun (x0 x1 x2 : AV) (S : Store) (Q : AEnd → Store → Prop) => vc Try.prog c16 ms16 (ofArgs 17 [x0, x1, x2]) S (bodyK Try.prog r16 Q)) = (fun (x0 x1 x2 : AV) (S : Store) (Q : AEnd → Store → Prop) => m16 x0 x1 x2 S Q) := by kernel_rfl
theorem calls16 {x0 x1 x2 : AV} {S : Store} {Q : AEnd → Store → Prop} (h : m16 x0 x1 x2 S Q) : ACalls Try.prog 16 [x0, x1, x2] S Q :=
  calls_of_vc (fn := Try.f16) (c := c16) (n := 17) Try.func16 (by kernel_rfl) (by kernel_rfl) (by kernel_rfl) ms16 ((congrFun (congrFun (congrFun (congrFun (congrFun m16_eq x0) x1) x2) S) Q).mpr h)
/-! ### 18 parterre/sets.EG -/
noncomputable def c18 : Code := (Try.f18.body).getD .skip
noncomputable def r18 : List ResultVar := Try.f18.results.toList
def ms18 : List (List Nat) := []
def m18 (x0 x1 : AV) (S : Store) (Q : AEnd → Store → Prop) : Prop :=
  boxN 26 5 x0 S fun v1 S => ldN 5 v1 S fun v2 S => bslN 22 1 1 [.nl] [(0, x1)] S fun v3 S => callF Try.prog 29 [v2, v3] S Q fun v4 S => un .not v4 S fun v5 S => onB v5 fun b6 => gd b6 (Q (.ret .nl) S) (ldN 5 v1 S fun v7 S => callF Try.prog 32 [v7, x1] S Q fun v8 S => Q (.ret v8) S)
theorem m18_eq : (fun (x0 x1 : AV) (S : Store) (Q : AEnd → Store → Prop) => vc Try.prog c18 ms18 (ofArgs 13 [x0, x1]) S (bodyK Try.prog r18 Q)) = (fun (x0 x1 : AV) (S : Store) (Q : AEnd → Store → Prop) => m18 x0 x1 S Q) := by kernel_rfl
theorem calls18 {x0 x1 : AV} {S : Store} {Q : AEnd → Store → Prop} (h : m18 x0 x1 S Q) : ACalls Try.prog 18 [x0, x1] S Q :=
  calls_of_vc (fn := Try.f18) (c := c18) (n := 13) Try.func18 (by kernel_rfl) (by kernel_rfl) (by kernel_rfl) ms18 ((congrFun (congrFun (congrFun (congrFun m18_eq x0) x1) S) Q).mpr h)
/-! ### 19 parterre/parterreref12.And -/
noncomputable def c19 : Code := (Try.f19.body).getD .skip
noncomputable def r19 : List ResultVar := Try.f19.results.toList
def env19_0 (y0 y1 y5 y6 : AV) : List AV := [y0, y1, y5, y6]
def lv19_0 : List Nat := [0, 1, 5, 6]
def ms19 : List (List Nat) := [lv19_0]
def m19 (x0 x1 : AV) (S : Store) (Q : AEnd → Store → Prop) : Prop :=
  loopV lv19_0 (vc Try.prog (c19.at_ [1, 1, 0, 1, 0, 0]) (ms19.drop 1)) 27 (env19_0 x0 x1 .nl (.v (Go.Value.int Go.IntKind.i64 0))) S (blockK 0 (seqK (vc Try.prog (c19.at_ [1, 1, 1]) (ms19.drop 1)) (bodyK Try.prog r19 Q)))
theorem m19_eq : (fun (x0 x1 : AV) (S : Store) (Q : AEnd → Store → Prop) => vc Try.prog c19 ms19 (ofArgs 27 [x0, x1]) S (bodyK Try.prog r19 Q)) = (fun (x0 x1 : AV) (S : Store) (Q : AEnd → Store → Prop) => m19 x0 x1 S Q) := by kernel_rfl
theorem calls19 {x0 x1 : AV} {S : Store} {Q : AEnd → Store → Prop} (h : m19 x0 x1 S Q) : ACalls Try.prog 19 [x0, x1] S Q :=
  calls_of_vc (fn := Try.f19) (c := c19) (n := 27) Try.func19 (by kernel_rfl) (by kernel_rfl) (by kernel_rfl) ms19 ((congrFun (congrFun (congrFun (congrFun m19_eq x0) x1) S) Q).mpr h)
-- loop 0: written: y5 y6; read alone: y0 y1
def b19_0 (y0 y1 y5 y6 : AV) (S : Store) (KE0 : Nat → List AV → Store → Prop) (Q : AEnd → Store → Prop) : Prop :=
  lenS y0 S fun v1 S => bin .lss 0 y6 v1 S fun v2 S => onB v2 fun b3 => gd b3 (ixS 4 1 y0 y6 S fun v4 S => ld1 v4 S fun v5 S => onB v5 fun b6 => gd b6 (ixS 4 1 y1 y6 S fun v7 S => ld1 v7 S fun v8 S => bslN 4 1 1 [(.v (.bool false))] [(0, v8)] S fun v9 S => appS 4 1 1 y5 v9 S fun v10 S => bin .add 0 y6 (.v (Go.Value.int Go.IntKind.i64 1)) S fun v11 S => KE0 27 (env19_0 y0 y1 v10 v11) S) (bslN 4 1 1 [(.v (.bool false))] [(0, (.v (Go.Value.bool false)))] S fun v12 S => appS 4 1 1 y5 v12 S fun v13 S => bin .add 0 y6 (.v (Go.Value.int Go.IntKind.i64 1)) S fun v14 S => KE0 27 (env19_0 y0 y1 v13 v14) S)) (Q (.ret y5) S)
theorem b19_0_eq : (fun (y0 y1 y5 y6 : AV) (S : Store) (KE0 : Nat → List AV → Store → Prop) (Q : AEnd → Store → Prop) => vc Try.prog (c19.at_ [1, 1, 0, 1, 0, 0]) (ms19.drop 1) (mkE 27 lv19_0 (env19_0 y0 y1 y5 y6)) S (thenK (fgK lv19_0 KE0) (blockK 0 (seqK (vc Try.prog (c19.at_ [1, 1, 1]) (ms19.drop 1)) (bodyK Try.prog r19 Q))))) = (fun (y0 y1 y5 y6 : AV) (S : Store) (KE0 : Nat → List AV → Store → Prop) (Q : AEnd → Store → Prop) => b19_0 y0 y1 y5 y6 S KE0 Q) := by kernel_rfl
theorem loop19_0 {y0 y1 : AV} {y50 y60 : AV} {S : Store} {Q : AEnd → Store → Prop} (I : AV → AV → Store → Prop) (μ : AV → AV → Store → Nat) (h0 : I y50 y60 S)
    (hr : ∀ (y5 y6 : AV) (S : Store), I y5 y6 S → ∀ KE0 : Nat → List AV → Store → Prop, (∀ (y5' y6' : AV) (S' : Store), I y5' y6' S' → μ y5' y6' S' < μ y5 y6 S → KE0 27 (env19_0 y0 y1 y5' y6') S') → b19_0 y0 y1 y5 y6 S KE0 Q) :
    loopV lv19_0 (vc Try.prog (c19.at_ [1, 1, 0, 1, 0, 0]) (ms19.drop 1)) 27 (env19_0 y0 y1 y50 y60) S (blockK 0 (seqK (vc Try.prog (c19.at_ [1, 1, 1]) (ms19.drop 1)) (bodyK Try.prog r19 Q))) := by
  refine ⟨fun n e S => n = 27 ∧ ∃ y5 y6 : AV, e = (env19_0 y0 y1 y5 y6) ∧ I y5 y6 S, fun _ e S => μ (e.getD 2 .j) (e.getD 3 .j) S, ?_, ?_⟩
  · exact ⟨rfl, _, _, rfl, h0⟩
  · rintro _ e S ⟨rfl, y5, y6, rfl, hI⟩
    exact (congrFun (congrFun (congrFun (congrFun (congrFun (congrFun (congrFun b19_0_eq y0) y1) y5) y6) S) _) Q).mpr (hr y5 y6 S hI _ (fun y5' y6' S' hI' hm => ⟨⟨rfl, _, _, rfl, hI'⟩, hm⟩))
/-! ### 20 parterre/parterreref12.Same -/
noncomputable def c20 : Code := (Try.f20.body).getD .skip
noncomputable def r20 : List ResultVar := Try.f20.results.toList
def env20_0 (y0 y1 y5 : AV) : List AV := [y0, y1, y5]
def lv20_0 : List Nat := [0, 1, 5]
def ms20 : List (List Nat) := [lv20_0]
def m20 (x0 x1 : AV) (S : Store) (Q : AEnd → Store → Prop) : Prop :=
  lenS x0 S fun v1 S => lenS x1 S fun v2 S => bin .neq 0 v1 v2 S fun v3 S => onB v3 fun b4 => gd b4 (Q (.ret (.v (Go.Value.bool false))) S) (loopV lv20_0 (vc Try.prog (c20.at_ [1, 1, 0, 1, 0, 0]) (ms20.drop 1)) 26 (env20_0 x0 x1 (.v (Go.Value.int Go.IntKind.i64 0))) S (blockK 0 (seqK (vc Try.prog (c20.at_ [1, 1, 1]) (ms20.drop 1)) (bodyK Try.prog r20 Q))))
theorem m20_eq : (fun (x0 x1 : AV) (S : Store) (Q : AEnd → Store → Prop) => vc Try.prog c20 ms20 (ofArgs 26 [x0, x1]) S (bodyK Try.prog r20 Q)) = (fun (x0 x1 : AV) (S : Store) (Q : AEnd → Store → Prop) => m20 x0 x1 S Q) := by kernel_rfl
theorem calls20 {x0 x1 : AV} {S : Store} {Q : AEnd → Store → Prop} (h : m20 x0 x1 S Q) : ACalls Try.prog 20 [x0, x1] S Q :=
  calls_of_vc (fn := Try.f20) (c := c20) (n := 26) Try.func20 (by kernel_rfl) (by kernel_rfl) (by kernel_rfl) ms20 ((congrFun (congrFun (congrFun (congrFun m20_eq x0) x1) S) Q).mpr h)
-- loop 0: written: y5; read alone: y0 y1
def b20_0 (y0 y1 y5 : AV) (S : Store) (KE0 : Nat → List AV → Store → Prop) (Q : AEnd → Store → Prop) : Prop :=
  lenS y0 S fun v5 S => bin .lss 0 y5 v5 S fun v6 S => onB v6 fun b7 => gd b7 ((fun S0 : Store => ∃ q8 : AV, (ixS 4 1 y0 y5 S fun v9 S => v9 = q8 ∧ S = S0) ∧ ∃ q10 : AV, (ld1 q8 S fun v11 S => v11 = q10 ∧ S = S0) ∧ ∃ q12 : AV, (ixS 4 1 y1 y5 S fun v13 S => v13 = q12 ∧ S = S0) ∧ ∃ q14 : AV, (ld1 q12 S fun v15 S => v15 = q14 ∧ S = S0) ∧ ∃ q16 : AV, (bin .neq 1 q10 q14 S fun v17 S => v17 = q16 ∧ S = S0) ∧ onB q16 fun b18 => gd b18 (Q (.ret (.v (Go.Value.bool false))) S) (bin .add 0 y5 (.v (Go.Value.int Go.IntKind.i64 1)) S fun v19 S => KE0 26 (env20_0 y0 y1 v19) S)) S) (Q (.ret (.v (Go.Value.bool true))) S)
theorem b20_0_eq : (fun (y0 y1 y5 : AV) (S : Store) (KE0 : Nat → List AV → Store → Prop) (Q : AEnd → Store → Prop) => vc Try.prog (c20.at_ [1, 1, 0, 1, 0, 0]) (ms20.drop 1) (mkE 26 lv20_0 (env20_0 y0 y1 y5)) S (thenK (fgK lv20_0 KE0) (blockK 0 (seqK (vc Try.prog (c20.at_ [1, 1, 1]) (ms20.drop 1)) (bodyK Try.prog r20 Q))))) = (fun (y0 y1 y5 : AV) (S : Store) (KE0 : Nat → List AV → Store → Prop) (Q : AEnd → Store → Prop) => b20_0 y0 y1 y5 S KE0 Q) := by kernel_rfl
theorem loop20_0 {y0 y1 : AV} {y50 : AV} {S : Store} {Q : AEnd → Store → Prop} (I : AV → Store → Prop) (μ : AV → Store → Nat) (h0 : I y50 S)
    (hr : ∀ (y5 : AV) (S : Store), I y5 S → ∀ KE0 : Nat → List AV → Store → Prop, (∀ (y5' : AV) (S' : Store), I y5' S' → μ y5' S' < μ y5 S → KE0 26 (env20_0 y0 y1 y5') S') → b20_0 y0 y1 y5 S KE0 Q) :
    loopV lv20_0 (vc Try.prog (c20.at_ [1, 1, 0, 1, 0, 0]) (ms20.drop 1)) 26 (env20_0 y0 y1 y50) S (blockK 0 (seqK (vc Try.prog (c20.at_ [1, 1, 1]) (ms20.drop 1)) (bodyK Try.prog r20 Q))) := by
  refine ⟨fun n e S => n = 26 ∧ ∃ y5 : AV, e = (env20_0 y0 y1 y5) ∧ I y5 S, fun _ e S => μ (e.getD 2 .j) S, ?_, ?_⟩
  · exact ⟨rfl, _, rfl, h0⟩
  · rintro _ e S ⟨rfl, y5, rfl, hI⟩
    exact (congrFun (congrFun (congrFun (congrFun (congrFun (congrFun b20_0_eq y0) y1) y5) S) _) Q).mpr (hr y5 S hI _ (fun y5' S' hI' hm => ⟨⟨rfl, _, rfl, hI'⟩, hm⟩))
/-! ### 26 parterre/parterreref12.EX -/
noncomputable def c26 : Code := (Try.f26.body).getD .skip
noncomputable def r26 : List ResultVar := Try.f26.results.toList
def env26_0 (y1 y2 y5 y6 : AV) : List AV := [y1, y2, y5, y6]
def lv26_0 : List Nat := [1, 2, 5, 6]
def env26_1 (y1 y2 y5 y6 y7 y8 : AV) : List AV := [y1, y2, y5, y6, y7, y8]
def lv26_1 : List Nat := [1, 2, 5, 6, 7, 8]
def ms26 : List (List Nat) := [lv26_0, lv26_1]
def m26 (x0 x1 : AV) (S : Store) (Q : AEnd → Store → Prop) : Prop :=
  boxN 26 5 x0 S fun v1 S => ldN 5 v1 S fun v2 S => callF Try.prog 51 [v2, x1] S Q fun v3 S => un .not v3 S fun v4 S => onB v4 fun b5 => gd b5 (Q (.ret .nl) S) (loopV lv26_0 (vc Try.prog (c26.at_ [1, 1, 1, 0, 1, 0, 0]) (ms26.drop 1)) 55 (env26_0 x1 v1 .nl (.v (Go.Value.int Go.IntKind.i64 0))) S (blockK 0 (seqK (vc Try.prog (c26.at_ [1, 1, 1, 1]) (ms26.drop 2)) (bodyK Try.prog r26 Q))))
theorem m26_eq : (fun (x0 x1 : AV) (S : Store) (Q : AEnd → Store → Prop) => vc Try.prog c26 ms26 (ofArgs 55 [x0, x1]) S (bodyK Try.prog r26 Q)) = (fun (x0 x1 : AV) (S : Store) (Q : AEnd → Store → Prop) => m26 x0 x1 S Q) := by kernel_rfl
theorem calls26 {x0 x1 : AV} {S : Store} {Q : AEnd → Store → Prop} (h : m26 x0 x1 S Q) : ACalls Try.prog 26 [x0, x1] S Q :=
  calls_of_vc (fn := Try.f26) (c := c26) (n := 55) Try.func26 (by kernel_rfl) (by kernel_rfl) (by kernel_rfl) ms26 ((congrFun (congrFun (congrFun (congrFun m26_eq x0) x1) S) Q).mpr h)
-- loop 0: written: y5 y6; read alone: y1 y2
def b26_0 (y1 y2 y5 y6 : AV) (S : Store) (KE0 : Nat → List AV → Store → Prop) (Q : AEnd → Store → Prop) : Prop :=
  lenS y1 S fun v6 S => bin .lss 0 y6 v6 S fun v7 S => onB v7 fun b8 => gd b8 (loopV lv26_1 (vc Try.prog (c26.at_ [1, 1, 1, 0, 1, 0, 0, 1, 0, 0, 1, 0, 1, 0, 0]) (ms26.drop 2)) 55 (env26_1 y1 y2 y5 y6 (.v (Go.Value.bool false)) (.v (Go.Value.int Go.IntKind.i64 0))) S (blockK 2 (seqK (vc Try.prog (c26.at_ [1, 1, 1, 0, 1, 0, 0, 1, 0, 0, 1, 1]) (ms26.drop 2)) (blockK 1 (seqK (vc Try.prog (c26.at_ [1, 1, 1, 0, 1, 0, 0, 1, 1]) (ms26.drop 2)) (thenK (fgK lv26_0 KE0) (blockK 0 (seqK (vc Try.prog (c26.at_ [1, 1, 1, 1]) (ms26.drop 2)) (bodyK Try.prog r26 Q))))))))) (Q (.ret y5) S)
theorem b26_0_eq : (fun (y1 y2 y5 y6 : AV) (S : Store) (KE0 : Nat → List AV → Store → Prop) (Q : AEnd → Store → Prop) => vc Try.prog (c26.at_ [1, 1, 1, 0, 1, 0, 0]) (ms26.drop 1) (mkE 55 lv26_0 (env26_0 y1 y2 y5 y6)) S (thenK (fgK lv26_0 KE0) (blockK 0 (seqK (vc Try.prog (c26.at_ [1, 1, 1, 1]) (ms26.drop 2)) (bodyK Try.prog r26 Q))))) = (fun (y1 y2 y5 y6 : AV) (S : Store) (KE0 : Nat → List AV → Store → Prop) (Q : AEnd → Store → Prop) => b26_0 y1 y2 y5 y6 S KE0 Q) := by kernel_rfl
theorem loop26_0 {y1 y2 : AV} {y50 y60 : AV} {S : Store} {Q : AEnd → Store → Prop} (I : AV → AV → Store → Prop) (μ : AV → AV → Store → Nat) (h0 : I y50 y60 S)
    (hr : ∀ (y5 y6 : AV) (S : Store), I y5 y6 S → ∀ KE0 : Nat → List AV → Store → Prop, (∀ (y5' y6' : AV) (S' : Store), I y5' y6' S' → μ y5' y6' S' < μ y5 y6 S → KE0 55 (env26_0 y1 y2 y5' y6') S') → b26_0 y1 y2 y5 y6 S KE0 Q) :
    loopV lv26_0 (vc Try.prog (c26.at_ [1, 1, 1, 0, 1, 0, 0]) (ms26.drop 1)) 55 (env26_0 y1 y2 y50 y60) S (blockK 0 (seqK (vc Try.prog (c26.at_ [1, 1, 1, 1]) (ms26.drop 2)) (bodyK Try.prog r26 Q))) := by
  refine ⟨fun n e S => n = 55 ∧ ∃ y5 y6 : AV, e = (env26_0 y1 y2 y5 y6) ∧ I y5 y6 S, fun _ e S => μ (e.getD 2 .j) (e.getD 3 .j) S, ?_, ?_⟩
  · exact ⟨rfl, _, _, rfl, h0⟩
  · rintro _ e S ⟨rfl, y5, y6, rfl, hI⟩
    exact (congrFun (congrFun (congrFun (congrFun (congrFun (congrFun (congrFun b26_0_eq y1) y2) y5) y6) S) _) Q).mpr (hr y5 y6 S hI _ (fun y5' y6' S' hI' hm => ⟨⟨rfl, _, _, rfl, hI'⟩, hm⟩))
-- loop 1: written: y7 y8; read alone: y1 y2 y5 y6
def b26_1 (y1 y2 y5 y6 y7 y8 : AV) (S : Store) (KE1 : Nat → List AV → Store → Prop) (KE0 : Nat → List AV → Store → Prop) (Q : AEnd → Store → Prop) : Prop :=
  shift y2 3 S fun v9 S => ld1 v9 S fun v10 S => ixS 28 1 v10 y6 S fun v11 S => ld1 v11 S fun v12 S => lenS v12 S fun v13 S => bin .lss 0 y8 v13 S fun v14 S => onB v14 fun b15 => gd b15 (onB y7 fun b16 => gd b16 (bin .add 0 y8 (.v (Go.Value.int Go.IntKind.i64 1)) S fun v17 S => KE1 55 (env26_1 y1 y2 y5 y6 (.v (Go.Value.bool true)) v17) S) (shift y2 3 S fun v18 S => ld1 v18 S fun v19 S => ixS 28 1 v19 y6 S fun v20 S => ld1 v20 S fun v21 S => ixS 3 1 v21 y8 S fun v22 S => ld1 v22 S fun v23 S => ixS 4 1 y1 v23 S fun v24 S => ld1 v24 S fun v25 S => bin .add 0 y8 (.v (Go.Value.int Go.IntKind.i64 1)) S fun v26 S => KE1 55 (env26_1 y1 y2 y5 y6 v25 v26) S)) (onB y7 fun b27 => gd b27 (shift y2 1 S fun v28 S => ld1 v28 S fun v29 S => ixS 4 1 v29 y6 S fun v30 S => ld1 v30 S fun v31 S => bslN 4 1 1 [(.v (.bool false))] [(0, v31)] S fun v32 S => appS 4 1 1 y5 v32 S fun v33 S => bin .add 0 y6 (.v (Go.Value.int Go.IntKind.i64 1)) S fun v34 S => KE0 55 (env26_0 y1 y2 v33 v34) S) (bslN 4 1 1 [(.v (.bool false))] [(0, (.v (Go.Value.bool false)))] S fun v35 S => appS 4 1 1 y5 v35 S fun v36 S => bin .add 0 y6 (.v (Go.Value.int Go.IntKind.i64 1)) S fun v37 S => KE0 55 (env26_0 y1 y2 v36 v37) S))
theorem b26_1_eq : (fun (y1 y2 y5 y6 y7 y8 : AV) (S : Store) (KE1 : Nat → List AV → Store → Prop) (KE0 : Nat → List AV → Store → Prop) (Q : AEnd → Store → Prop) => vc Try.prog (c26.at_ [1, 1, 1, 0, 1, 0, 0, 1, 0, 0, 1, 0, 1, 0, 0]) (ms26.drop 2) (mkE 55 lv26_1 (env26_1 y1 y2 y5 y6 y7 y8)) S (thenK (fgK lv26_1 KE1) (blockK 2 (seqK (vc Try.prog (c26.at_ [1, 1, 1, 0, 1, 0, 0, 1, 0, 0, 1, 1]) (ms26.drop 2)) (blockK 1 (seqK (vc Try.prog (c26.at_ [1, 1, 1, 0, 1, 0, 0, 1, 1]) (ms26.drop 2)) (thenK (fgK lv26_0 KE0) (blockK 0 (seqK (vc Try.prog (c26.at_ [1, 1, 1, 1]) (ms26.drop 2)) (bodyK Try.prog r26 Q)))))))))) = (fun (y1 y2 y5 y6 y7 y8 : AV) (S : Store) (KE1 : Nat → List AV → Store → Prop) (KE0 : Nat → List AV → Store → Prop) (Q : AEnd → Store → Prop) => b26_1 y1 y2 y5 y6 y7 y8 S KE1 KE0 Q) := by kernel_rfl
theorem loop26_1 {y1 y2 y5 y6 : AV} {y70 y80 : AV} {S : Store} {KE0 : Nat → List AV → Store → Prop} {Q : AEnd → Store → Prop} (I : AV → AV → Store → Prop) (μ : AV → AV → Store → Nat) (h0 : I y70 y80 S)
    (hr : ∀ (y7 y8 : AV) (S : Store), I y7 y8 S → ∀ KE1 : Nat → List AV → Store → Prop, (∀ (y7' y8' : AV) (S' : Store), I y7' y8' S' → μ y7' y8' S' < μ y7 y8 S → KE1 55 (env26_1 y1 y2 y5 y6 y7' y8') S') → b26_1 y1 y2 y5 y6 y7 y8 S KE1 KE0 Q) :
    loopV lv26_1 (vc Try.prog (c26.at_ [1, 1, 1, 0, 1, 0, 0, 1, 0, 0, 1, 0, 1, 0, 0]) (ms26.drop 2)) 55 (env26_1 y1 y2 y5 y6 y70 y80) S (blockK 2 (seqK (vc Try.prog (c26.at_ [1, 1, 1, 0, 1, 0, 0, 1, 0, 0, 1, 1]) (ms26.drop 2)) (blockK 1 (seqK (vc Try.prog (c26.at_ [1, 1, 1, 0, 1, 0, 0, 1, 1]) (ms26.drop 2)) (thenK (fgK lv26_0 KE0) (blockK 0 (seqK (vc Try.prog (c26.at_ [1, 1, 1, 1]) (ms26.drop 2)) (bodyK Try.prog r26 Q)))))))) := by
  refine ⟨fun n e S => n = 55 ∧ ∃ y7 y8 : AV, e = (env26_1 y1 y2 y5 y6 y7 y8) ∧ I y7 y8 S, fun _ e S => μ (e.getD 4 .j) (e.getD 5 .j) S, ?_, ?_⟩
  · exact ⟨rfl, _, _, rfl, h0⟩
  · rintro _ e S ⟨rfl, y7, y8, rfl, hI⟩
    exact (congrFun (congrFun (congrFun (congrFun (congrFun (congrFun (congrFun (congrFun (congrFun (congrFun b26_1_eq y1) y2) y5) y6) y7) y8) S) _) KE0) Q).mpr (hr y7 y8 S hI _ (fun y7' y8' S' hI' hm => ⟨⟨rfl, _, _, rfl, hI'⟩, hm⟩))
/-! ### 27 parterre/parterreref12.EU -/
noncomputable def c27 : Code := (Try.f27.body).getD .skip
noncomputable def r27 : List ResultVar := Try.f27.results.toList
def env27_0 (y1 y3 y7 y8 : AV) : List AV := [y1, y3, y7, y8]
def lv27_0 : List Nat := [1, 3, 7, 8]
def ms27 : List (List Nat) := [lv27_0]
def m27 (x0 x1 x2 : AV) (S : Store) (Q : AEnd → Store → Prop) : Prop :=
  boxN 26 5 x0 S fun v1 S => ldN 5 v1 S fun v2 S => callF Try.prog 51 [v2, x1] S Q fun v3 S => un .not v3 S fun v4 S => onB v4 fun b5 => gd b5 (Q (.ret .nl) S) (ldN 5 v1 S fun v6 S => callF Try.prog 51 [v6, x2] S Q fun v7 S => un .not v7 S fun v8 S => onB v8 fun b9 => gd b9 (Q (.ret .nl) S) (shift v1 1 S fun v10 S => ld1 v10 S fun v11 S => callF Try.prog 19 [x2, v11] S Q fun v12 S => loopV lv27_0 (vc Try.prog (c27.at_ [1, 1, 1, 0, 1, 0, 0]) (ms27.drop 1)) 46 (env27_0 x1 v1 v12 (.v (Go.Value.int Go.IntKind.i64 0))) S (blockK 0 (seqK (vc Try.prog (c27.at_ [1, 1, 1, 1]) (ms27.drop 1)) (bodyK Try.prog r27 Q)))))
theorem m27_eq : (fun (x0 x1 x2 : AV) (S : Store) (Q : AEnd → Store → Prop) => vc Try.prog c27 ms27 (ofArgs 46 [x0, x1, x2]) S (bodyK Try.prog r27 Q)) = (fun (x0 x1 x2 : AV) (S : Store) (Q : AEnd → Store → Prop) => m27 x0 x1 x2 S Q) := by kernel_rfl
theorem calls27 {x0 x1 x2 : AV} {S : Store} {Q : AEnd → Store → Prop} (h : m27 x0 x1 x2 S Q) : ACalls Try.prog 27 [x0, x1, x2] S Q :=
  calls_of_vc (fn := Try.f27) (c := c27) (n := 46) Try.func27 (by kernel_rfl) (by kernel_rfl) (by kernel_rfl) ms27 ((congrFun (congrFun (congrFun (congrFun (congrFun m27_eq x0) x1) x2) S) Q).mpr h)
-- loop 0: written: y7 y8; read alone: y1 y3
def b27_0 (y1 y3 y7 y8 : AV) (S : Store) (KE0 : Nat → List AV → Store → Prop) (Q : AEnd → Store → Prop) : Prop :=
  lenS y1 S fun v13 S => bin .lss 0 y8 v13 S fun v14 S => onB v14 fun b15 => gd b15 ((fun S0 : Store => ∃ q16 : AV, (shift y3 1 S fun v17 S => v17 = q16 ∧ S = S0) ∧ ∃ q18 : AV, (ld1 q16 S fun v19 S => v19 = q18 ∧ S = S0) ∧ ∃ q20 : AV, (callF Try.prog 19 [y1, q18] S (fun _ _ => False) fun v21 S => v21 = q20 ∧ S = S0) ∧ ∃ q22 : AV, (ldN 5 y3 S fun v23 S => v23 = q22 ∧ S = S0) ∧ ∃ q24 : AV, (callF Try.prog 26 [q22, y7] S (fun _ _ => False) fun v25 S => v25 = q24 ∧ S = S0) ∧ ∃ q26 : AV, (callF Try.prog 19 [q20, q24] S (fun _ _ => False) fun v27 S => v27 = q26 ∧ S = S0) ∧ ∃ q28 : AV, (callF Try.prog 52 [y7, q26] S (fun _ _ => False) fun v29 S => v29 = q28 ∧ S = S0) ∧ callF Try.prog 20 [q28, y7] S Q fun v30 S => onB v30 fun b31 => gd b31 (Q (.ret y7) S) (bin .add 0 y8 (.v (Go.Value.int Go.IntKind.i64 1)) S fun v32 S => KE0 46 (env27_0 y1 y3 q28 v32) S)) S) (Q (.ret y7) S)
theorem b27_0_eq : (fun (y1 y3 y7 y8 : AV) (S : Store) (KE0 : Nat → List AV → Store → Prop) (Q : AEnd → Store → Prop) => vc Try.prog (c27.at_ [1, 1, 1, 0, 1, 0, 0]) (ms27.drop 1) (mkE 46 lv27_0 (env27_0 y1 y3 y7 y8)) S (thenK (fgK lv27_0 KE0) (blockK 0 (seqK (vc Try.prog (c27.at_ [1, 1, 1, 1]) (ms27.drop 1)) (bodyK Try.prog r27 Q))))) = (fun (y1 y3 y7 y8 : AV) (S : Store) (KE0 : Nat → List AV → Store → Prop) (Q : AEnd → Store → Prop) => b27_0 y1 y3 y7 y8 S KE0 Q) := by kernel_rfl
theorem loop27_0 {y1 y3 : AV} {y70 y80 : AV} {S : Store} {Q : AEnd → Store → Prop} (I : AV → AV → Store → Prop) (μ : AV → AV → Store → Nat) (h0 : I y70 y80 S)
    (hr : ∀ (y7 y8 : AV) (S : Store), I y7 y8 S → ∀ KE0 : Nat → List AV → Store → Prop, (∀ (y7' y8' : AV) (S' : Store), I y7' y8' S' → μ y7' y8' S' < μ y7 y8 S → KE0 46 (env27_0 y1 y3 y7' y8') S') → b27_0 y1 y3 y7 y8 S KE0 Q) :
    loopV lv27_0 (vc Try.prog (c27.at_ [1, 1, 1, 0, 1, 0, 0]) (ms27.drop 1)) 46 (env27_0 y1 y3 y70 y80) S (blockK 0 (seqK (vc Try.prog (c27.at_ [1, 1, 1, 1]) (ms27.drop 1)) (bodyK Try.prog r27 Q))) := by
  refine ⟨fun n e S => n = 46 ∧ ∃ y7 y8 : AV, e = (env27_0 y1 y3 y7 y8) ∧ I y7 y8 S, fun _ e S => μ (e.getD 2 .j) (e.getD 3 .j) S, ?_, ?_⟩
  · exact ⟨rfl, _, _, rfl, h0⟩
  · rintro _ e S ⟨rfl, y7, y8, rfl, hI⟩
    exact (congrFun (congrFun (congrFun (congrFun (congrFun (congrFun (congrFun b27_0_eq y1) y3) y7) y8) S) _) Q).mpr (hr y7 y8 S hI _ (fun y7' y8' S' hI' hm => ⟨⟨rfl, _, _, rfl, hI'⟩, hm⟩))
/-! ### 28 parterre/parterreref12.EG -/
noncomputable def c28 : Code := (Try.f28.body).getD .skip
noncomputable def r28 : List ResultVar := Try.f28.results.toList
def env28_0 (y1 y2 y5 y6 : AV) : List AV := [y1, y2, y5, y6]
def lv28_0 : List Nat := [1, 2, 5, 6]
def env28_1 (y1 y2 y5 y6 y7 y8 y9 : AV) : List AV := [y1, y2, y5, y6, y7, y8, y9]
def lv28_1 : List Nat := [1, 2, 5, 6, 7, 8, 9]
def ms28 : List (List Nat) := [lv28_0, lv28_1]
def m28 (x0 x1 : AV) (S : Store) (Q : AEnd → Store → Prop) : Prop :=
  boxN 26 5 x0 S fun v1 S => ldN 5 v1 S fun v2 S => callF Try.prog 51 [v2, x1] S Q fun v3 S => un .not v3 S fun v4 S => onB v4 fun b5 => gd b5 (Q (.ret .nl) S) (shift v1 1 S fun v6 S => ld1 v6 S fun v7 S => callF Try.prog 19 [x1, v7] S Q fun v8 S => loopV lv28_0 (vc Try.prog (c28.at_ [1, 1, 1, 0, 1, 0, 0]) (ms28.drop 1)) 52 (env28_0 x1 v1 v8 (.v (Go.Value.int Go.IntKind.i64 0))) S (blockK 0 (seqK (vc Try.prog (c28.at_ [1, 1, 1, 1]) (ms28.drop 2)) (bodyK Try.prog r28 Q))))
theorem m28_eq : (fun (x0 x1 : AV) (S : Store) (Q : AEnd → Store → Prop) => vc Try.prog c28 ms28 (ofArgs 52 [x0, x1]) S (bodyK Try.prog r28 Q)) = (fun (x0 x1 : AV) (S : Store) (Q : AEnd → Store → Prop) => m28 x0 x1 S Q) := by kernel_rfl
theorem calls28 {x0 x1 : AV} {S : Store} {Q : AEnd → Store → Prop} (h : m28 x0 x1 S Q) : ACalls Try.prog 28 [x0, x1] S Q :=
  calls_of_vc (fn := Try.f28) (c := c28) (n := 52) Try.func28 (by kernel_rfl) (by kernel_rfl) (by kernel_rfl) ms28 ((congrFun (congrFun (congrFun (congrFun m28_eq x0) x1) S) Q).mpr h)
-- loop 0: written: y5 y6; read alone: y1 y2
def b28_0 (y1 y2 y5 y6 : AV) (S : Store) (KE0 : Nat → List AV → Store → Prop) (Q : AEnd → Store → Prop) : Prop :=
  lenS y1 S fun v9 S => bin .leq 0 y6 v9 S fun v10 S => onB v10 fun b11 => gd b11 (ldN 5 y2 S fun v12 S => callF Try.prog 53 [v12] S Q fun v13 S => loopV lv28_1 (vc Try.prog (c28.at_ [1, 1, 1, 0, 1, 0, 0, 1, 0, 0, 1, 1, 0, 1, 0, 0]) (ms28.drop 2)) 52 (env28_1 y1 y2 y5 y6 v13 y5 (.v (Go.Value.int Go.IntKind.i64 0))) S (blockK 2 (seqK (vc Try.prog (c28.at_ [1, 1, 1, 0, 1, 0, 0, 1, 0, 0, 1, 1, 1]) (ms28.drop 2)) (blockK 1 (seqK (vc Try.prog (c28.at_ [1, 1, 1, 0, 1, 0, 0, 1, 1]) (ms28.drop 2)) (thenK (fgK lv28_0 KE0) (blockK 0 (seqK (vc Try.prog (c28.at_ [1, 1, 1, 1]) (ms28.drop 2)) (bodyK Try.prog r28 Q))))))))) (Q (.ret y5) S)
theorem b28_0_eq : (fun (y1 y2 y5 y6 : AV) (S : Store) (KE0 : Nat → List AV → Store → Prop) (Q : AEnd → Store → Prop) => vc Try.prog (c28.at_ [1, 1, 1, 0, 1, 0, 0]) (ms28.drop 1) (mkE 52 lv28_0 (env28_0 y1 y2 y5 y6)) S (thenK (fgK lv28_0 KE0) (blockK 0 (seqK (vc Try.prog (c28.at_ [1, 1, 1, 1]) (ms28.drop 2)) (bodyK Try.prog r28 Q))))) = (fun (y1 y2 y5 y6 : AV) (S : Store) (KE0 : Nat → List AV → Store → Prop) (Q : AEnd → Store → Prop) => b28_0 y1 y2 y5 y6 S KE0 Q) := by kernel_rfl
theorem loop28_0 {y1 y2 : AV} {y50 y60 : AV} {S : Store} {Q : AEnd → Store → Prop} (I : AV → AV → Store → Prop) (μ : AV → AV → Store → Nat) (h0 : I y50 y60 S)
    (hr : ∀ (y5 y6 : AV) (S : Store), I y5 y6 S → ∀ KE0 : Nat → List AV → Store → Prop, (∀ (y5' y6' : AV) (S' : Store), I y5' y6' S' → μ y5' y6' S' < μ y5 y6 S → KE0 52 (env28_0 y1 y2 y5' y6') S') → b28_0 y1 y2 y5 y6 S KE0 Q) :
    loopV lv28_0 (vc Try.prog (c28.at_ [1, 1, 1, 0, 1, 0, 0]) (ms28.drop 1)) 52 (env28_0 y1 y2 y50 y60) S (blockK 0 (seqK (vc Try.prog (c28.at_ [1, 1, 1, 1]) (ms28.drop 2)) (bodyK Try.prog r28 Q))) := by
  refine ⟨fun n e S => n = 52 ∧ ∃ y5 y6 : AV, e = (env28_0 y1 y2 y5 y6) ∧ I y5 y6 S, fun _ e S => μ (e.getD 2 .j) (e.getD 3 .j) S, ?_, ?_⟩
  · exact ⟨rfl, _, _, rfl, h0⟩
  · rintro _ e S ⟨rfl, y5, y6, rfl, hI⟩
    exact (congrFun (congrFun (congrFun (congrFun (congrFun (congrFun (congrFun b28_0_eq y1) y2) y5) y6) S) _) Q).mpr (hr y5 y6 S hI _ (fun y5' y6' S' hI' hm => ⟨⟨rfl, _, _, rfl, hI'⟩, hm⟩))
-- loop 1: written: y8 y9; read alone: y1 y2 y5 y6 y7
def b28_1 (y1 y2 y5 y6 y7 y8 y9 : AV) (S : Store) (KE1 : Nat → List AV → Store → Prop) (KE0 : Nat → List AV → Store → Prop) (Q : AEnd → Store → Prop) : Prop :=
  lenS y7 S fun v14 S => bin .lss 0 y9 v14 S fun v15 S => onB v15 fun b16 => gd b16 ((fun S0 : Store => ∃ q17 : AV, (ldN 5 y2 S fun v18 S => v18 = q17 ∧ S = S0) ∧ ∃ q19 : AV, (ldN 5 y2 S fun v20 S => v20 = q19 ∧ S = S0) ∧ ∃ q21 : AV, (ixS 22 1 y7 y9 S fun v22 S => v22 = q21 ∧ S = S0) ∧ ∃ q23 : AV, (ld1 q21 S fun v24 S => v24 = q23 ∧ S = S0) ∧ ∃ q25 : AV, (callF Try.prog 19 [y5, q23] S (fun _ _ => False) fun v26 S => v26 = q25 ∧ S = S0) ∧ ∃ q27 : AV, (callF Try.prog 27 [q19, y5, q25] S (fun _ _ => False) fun v28 S => v28 = q27 ∧ S = S0) ∧ ∃ q29 : AV, (callF Try.prog 26 [q17, q27] S (fun _ _ => False) fun v30 S => v30 = q29 ∧ S = S0) ∧ ∃ q31 : AV, (callF Try.prog 19 [y8, q29] S (fun _ _ => False) fun v32 S => v32 = q31 ∧ S = S0) ∧ bin .add 0 y9 (.v (Go.Value.int Go.IntKind.i64 1)) S fun v33 S => KE1 52 (env28_1 y1 y2 y5 y6 y7 q31 v33) S) S) (callF Try.prog 20 [y8, y5] S Q fun v34 S => onB v34 fun b35 => gd b35 (Q (.ret y5) S) (bin .add 0 y6 (.v (Go.Value.int Go.IntKind.i64 1)) S fun v36 S => KE0 52 (env28_0 y1 y2 y8 v36) S))
theorem b28_1_eq : (fun (y1 y2 y5 y6 y7 y8 y9 : AV) (S : Store) (KE1 : Nat → List AV → Store → Prop) (KE0 : Nat → List AV → Store → Prop) (Q : AEnd → Store → Prop) => vc Try.prog (c28.at_ [1, 1, 1, 0, 1, 0, 0, 1, 0, 0, 1, 1, 0, 1, 0, 0]) (ms28.drop 2) (mkE 52 lv28_1 (env28_1 y1 y2 y5 y6 y7 y8 y9)) S (thenK (fgK lv28_1 KE1) (blockK 2 (seqK (vc Try.prog (c28.at_ [1, 1, 1, 0, 1, 0, 0, 1, 0, 0, 1, 1, 1]) (ms28.drop 2)) (blockK 1 (seqK (vc Try.prog (c28.at_ [1, 1, 1, 0, 1, 0, 0, 1, 1]) (ms28.drop 2)) (thenK (fgK lv28_0 KE0) (blockK 0 (seqK (vc Try.prog (c28.at_ [1, 1, 1, 1]) (ms28.drop 2)) (bodyK Try.prog r28 Q)))))))))) = (fun (y1 y2 y5 y6 y7 y8 y9 : AV) (S : Store) (KE1 : Nat → List AV → Store → Prop) (KE0 : Nat → List AV → Store → Prop) (Q : AEnd → Store → Prop) => b28_1 y1 y2 y5 y6 y7 y8 y9 S KE1 KE0 Q) := by kernel_rfl
theorem loop28_1 {y1 y2 y5 y6 y7 : AV} {y80 y90 : AV} {S : Store} {KE0 : Nat → List AV → Store → Prop} {Q : AEnd → Store → Prop} (I : AV → AV → Store → Prop) (μ : AV → AV → Store → Nat) (h0 : I y80 y90 S)
    (hr : ∀ (y8 y9 : AV) (S : Store), I y8 y9 S → ∀ KE1 : Nat → List AV → Store → Prop, (∀ (y8' y9' : AV) (S' : Store), I y8' y9' S' → μ y8' y9' S' < μ y8 y9 S → KE1 52 (env28_1 y1 y2 y5 y6 y7 y8' y9') S') → b28_1 y1 y2 y5 y6 y7 y8 y9 S KE1 KE0 Q) :
    loopV lv28_1 (vc Try.prog (c28.at_ [1, 1, 1, 0, 1, 0, 0, 1, 0, 0, 1, 1, 0, 1, 0, 0]) (ms28.drop 2)) 52 (env28_1 y1 y2 y5 y6 y7 y80 y90) S (blockK 2 (seqK (vc Try.prog (c28.at_ [1, 1, 1, 0, 1, 0, 0, 1, 0, 0, 1, 1, 1]) (ms28.drop 2)) (blockK 1 (seqK (vc Try.prog (c28.at_ [1, 1, 1, 0, 1, 0, 0, 1, 1]) (ms28.drop 2)) (thenK (fgK lv28_0 KE0) (blockK 0 (seqK (vc Try.prog (c28.at_ [1, 1, 1, 1]) (ms28.drop 2)) (bodyK Try.prog r28 Q)))))))) := by
  refine ⟨fun n e S => n = 52 ∧ ∃ y8 y9 : AV, e = (env28_1 y1 y2 y5 y6 y7 y8 y9) ∧ I y8 y9 S, fun _ e S => μ (e.getD 5 .j) (e.getD 6 .j) S, ?_, ?_⟩
  · exact ⟨rfl, _, _, rfl, h0⟩
  · rintro _ e S ⟨rfl, y8, y9, rfl, hI⟩
    exact (congrFun (congrFun (congrFun (congrFun (congrFun (congrFun (congrFun (congrFun (congrFun (congrFun (congrFun b28_1_eq y1) y2) y5) y6) y7) y8) y9) S) _) KE0) Q).mpr (hr y8 y9 S hI _ (fun y8' y9' S' hI' hm => ⟨⟨rfl, _, _, rfl, hI'⟩, hm⟩))
/-! ### 51 parterre/parterreref12.Fits -/
noncomputable def c51 : Code := (Try.f51.body).getD .skip
noncomputable def r51 : List ResultVar := Try.f51.results.toList
def env51_0 (y2 y5 y6 : AV) : List AV := [y2, y5, y6]
def lv51_0 : List Nat := [2, 5, 6]
def env51_1 (y2 y5 y7 : AV) : List AV := [y2, y5, y7]
def lv51_1 : List Nat := [2, 5, 7]
def env51_2 (y2 y5 y7 y8 : AV) : List AV := [y2, y5, y7, y8]
def lv51_2 : List Nat := [2, 5, 7, 8]
def ms51 : List (List Nat) := [lv51_0, lv51_1, lv51_2]
def m51 (x0 x1 : AV) (S : Store) (Q : AEnd → Store → Prop) : Prop :=
  boxN 26 5 x0 S fun v1 S => shift v1 1 S fun v2 S => ld1 v2 S fun v3 S => lenS v3 S fun v4 S => lenS x1 S fun v5 S => bin .neq 0 v5 v4 S fun v6 S => onB v6 fun b7 => gd b7 (Q (.ret (.v (Go.Value.bool false))) S) (shift v1 3 S fun v8 S => ld1 v8 S fun v9 S => lenS v9 S fun v10 S => bin .neq 0 v10 v4 S fun v11 S => onB v11 fun b12 => gd b12 (Q (.ret (.v (Go.Value.bool false))) S) (loopV lv51_0 (vc Try.prog (c51.at_ [1, 1, 1, 0, 1, 0, 0]) (ms51.drop 1)) 74 (env51_0 v1 v4 (.v (Go.Value.int Go.IntKind.i64 0))) S (blockK 0 (seqK (vc Try.prog (c51.at_ [1, 1, 1, 1]) (ms51.drop 1)) (bodyK Try.prog r51 Q)))))
theorem m51_eq : (fun (x0 x1 : AV) (S : Store) (Q : AEnd → Store → Prop) => vc Try.prog c51 ms51 (ofArgs 74 [x0, x1]) S (bodyK Try.prog r51 Q)) = (fun (x0 x1 : AV) (S : Store) (Q : AEnd → Store → Prop) => m51 x0 x1 S Q) := by kernel_rfl
theorem calls51 {x0 x1 : AV} {S : Store} {Q : AEnd → Store → Prop} (h : m51 x0 x1 S Q) : ACalls Try.prog 51 [x0, x1] S Q :=
  calls_of_vc (fn := Try.f51) (c := c51) (n := 74) Try.func51 (by kernel_rfl) (by kernel_rfl) (by kernel_rfl) ms51 ((congrFun (congrFun (congrFun (congrFun m51_eq x0) x1) S) Q).mpr h)
-- loop 0: written: y6; read alone: y2 y5
def b51_0 (y2 y5 y6 : AV) (S : Store) (KE0 : Nat → List AV → Store → Prop) (Q : AEnd → Store → Prop) : Prop :=
  shift y2 4 S fun v13 S => ld1 v13 S fun v14 S => lenS v14 S fun v15 S => bin .lss 0 y6 v15 S fun v16 S => onB v16 fun b17 => gd b17 (shift y2 4 S fun v18 S => ld1 v18 S fun v19 S => ixS 22 1 v19 y6 S fun v20 S => ld1 v20 S fun v21 S => lenS v21 S fun v22 S => bin .neq 0 v22 y5 S fun v23 S => onB v23 fun b24 => gd b24 (Q (.ret (.v (Go.Value.bool false))) S) (bin .add 0 y6 (.v (Go.Value.int Go.IntKind.i64 1)) S fun v25 S => KE0 74 (env51_0 y2 y5 v25) S)) (loopV lv51_1 (vc Try.prog (c51.at_ [1, 1, 1, 1, 0, 1, 0, 0]) (ms51.drop 2)) 74 (env51_1 y2 y5 (.v (Go.Value.int Go.IntKind.i64 0))) S (blockK 2 (seqK (vc Try.prog (c51.at_ [1, 1, 1, 1, 1]) (ms51.drop 3)) (bodyK Try.prog r51 Q))))
theorem b51_0_eq : (fun (y2 y5 y6 : AV) (S : Store) (KE0 : Nat → List AV → Store → Prop) (Q : AEnd → Store → Prop) => vc Try.prog (c51.at_ [1, 1, 1, 0, 1, 0, 0]) (ms51.drop 1) (mkE 74 lv51_0 (env51_0 y2 y5 y6)) S (thenK (fgK lv51_0 KE0) (blockK 0 (seqK (vc Try.prog (c51.at_ [1, 1, 1, 1]) (ms51.drop 1)) (bodyK Try.prog r51 Q))))) = (fun (y2 y5 y6 : AV) (S : Store) (KE0 : Nat → List AV → Store → Prop) (Q : AEnd → Store → Prop) => b51_0 y2 y5 y6 S KE0 Q) := by kernel_rfl
theorem loop51_0 {y2 y5 : AV} {y60 : AV} {S : Store} {Q : AEnd → Store → Prop} (I : AV → Store → Prop) (μ : AV → Store → Nat) (h0 : I y60 S)
    (hr : ∀ (y6 : AV) (S : Store), I y6 S → ∀ KE0 : Nat → List AV → Store → Prop, (∀ (y6' : AV) (S' : Store), I y6' S' → μ y6' S' < μ y6 S → KE0 74 (env51_0 y2 y5 y6') S') → b51_0 y2 y5 y6 S KE0 Q) :
    loopV lv51_0 (vc Try.prog (c51.at_ [1, 1, 1, 0, 1, 0, 0]) (ms51.drop 1)) 74 (env51_0 y2 y5 y60) S (blockK 0 (seqK (vc Try.prog (c51.at_ [1, 1, 1, 1]) (ms51.drop 1)) (bodyK Try.prog r51 Q))) := by
  refine ⟨fun n e S => n = 74 ∧ ∃ y6 : AV, e = (env51_0 y2 y5 y6) ∧ I y6 S, fun _ e S => μ (e.getD 2 .j) S, ?_, ?_⟩
  · exact ⟨rfl, _, rfl, h0⟩
  · rintro _ e S ⟨rfl, y6, rfl, hI⟩
    exact (congrFun (congrFun (congrFun (congrFun (congrFun (congrFun b51_0_eq y2) y5) y6) S) _) Q).mpr (hr y6 S hI _ (fun y6' S' hI' hm => ⟨⟨rfl, _, rfl, hI'⟩, hm⟩))
-- loop 1: written: y7; read alone: y2 y5
def b51_1 (y2 y5 y7 : AV) (S : Store) (KE1 : Nat → List AV → Store → Prop) (Q : AEnd → Store → Prop) : Prop :=
  bin .lss 0 y7 y5 S fun v26 S => onB v26 fun b27 => gd b27 (loopV lv51_2 (vc Try.prog (c51.at_ [1, 1, 1, 1, 0, 1, 0, 0, 1, 0, 0, 1, 0, 0]) (ms51.drop 3)) 74 (env51_2 y2 y5 y7 (.v (Go.Value.int Go.IntKind.i64 0))) S (blockK 4 (blockK 3 (seqK (vc Try.prog (c51.at_ [1, 1, 1, 1, 0, 1, 0, 0, 1, 1]) (ms51.drop 3)) (thenK (fgK lv51_1 KE1) (blockK 2 (seqK (vc Try.prog (c51.at_ [1, 1, 1, 1, 1]) (ms51.drop 3)) (bodyK Try.prog r51 Q)))))))) (Q (.ret (.v (Go.Value.bool true))) S)
theorem b51_1_eq : (fun (y2 y5 y7 : AV) (S : Store) (KE1 : Nat → List AV → Store → Prop) (Q : AEnd → Store → Prop) => vc Try.prog (c51.at_ [1, 1, 1, 1, 0, 1, 0, 0]) (ms51.drop 2) (mkE 74 lv51_1 (env51_1 y2 y5 y7)) S (thenK (fgK lv51_1 KE1) (blockK 2 (seqK (vc Try.prog (c51.at_ [1, 1, 1, 1, 1]) (ms51.drop 3)) (bodyK Try.prog r51 Q))))) = (fun (y2 y5 y7 : AV) (S : Store) (KE1 : Nat → List AV → Store → Prop) (Q : AEnd → Store → Prop) => b51_1 y2 y5 y7 S KE1 Q) := by kernel_rfl
theorem loop51_1 {y2 y5 : AV} {y70 : AV} {S : Store} {Q : AEnd → Store → Prop} (I : AV → Store → Prop) (μ : AV → Store → Nat) (h0 : I y70 S)
    (hr : ∀ (y7 : AV) (S : Store), I y7 S → ∀ KE1 : Nat → List AV → Store → Prop, (∀ (y7' : AV) (S' : Store), I y7' S' → μ y7' S' < μ y7 S → KE1 74 (env51_1 y2 y5 y7') S') → b51_1 y2 y5 y7 S KE1 Q) :
    loopV lv51_1 (vc Try.prog (c51.at_ [1, 1, 1, 1, 0, 1, 0, 0]) (ms51.drop 2)) 74 (env51_1 y2 y5 y70) S (blockK 2 (seqK (vc Try.prog (c51.at_ [1, 1, 1, 1, 1]) (ms51.drop 3)) (bodyK Try.prog r51 Q))) := by
  refine ⟨fun n e S => n = 74 ∧ ∃ y7 : AV, e = (env51_1 y2 y5 y7) ∧ I y7 S, fun _ e S => μ (e.getD 2 .j) S, ?_, ?_⟩
  · exact ⟨rfl, _, rfl, h0⟩
  · rintro _ e S ⟨rfl, y7, rfl, hI⟩
    exact (congrFun (congrFun (congrFun (congrFun (congrFun (congrFun b51_1_eq y2) y5) y7) S) _) Q).mpr (hr y7 S hI _ (fun y7' S' hI' hm => ⟨⟨rfl, _, rfl, hI'⟩, hm⟩))
-- loop 2: written: y8; read alone: y2 y5 y7
def b51_2 (y2 y5 y7 y8 : AV) (S : Store) (KE2 : Nat → List AV → Store → Prop) (KE1 : Nat → List AV → Store → Prop) (Q : AEnd → Store → Prop) : Prop :=
  shift y2 3 S fun v28 S => ld1 v28 S fun v29 S => ixS 28 1 v29 y7 S fun v30 S => ld1 v30 S fun v31 S => lenS v31 S fun v32 S => bin .lss 0 y8 v32 S fun v33 S => onB v33 fun b34 => gd b34 (shift y2 3 S fun v35 S => ld1 v35 S fun v36 S => ixS 28 1 v36 y7 S fun v37 S => ld1 v37 S fun v38 S => ixS 3 1 v38 y8 S fun v39 S => ld1 v39 S fun v40 S => bin .lss 0 v40 (.v (Go.Value.int Go.IntKind.i64 0)) S fun v41 S => onB v41 fun b42 => gd b42 (Q (.ret (.v (Go.Value.bool false))) S) (shift y2 3 S fun v43 S => ld1 v43 S fun v44 S => ixS 28 1 v44 y7 S fun v45 S => ld1 v45 S fun v46 S => ixS 3 1 v46 y8 S fun v47 S => ld1 v47 S fun v48 S => bin .geq 0 v48 y5 S fun v49 S => onB v49 fun b50 => gd b50 (Q (.ret (.v (Go.Value.bool false))) S) (bin .add 0 y8 (.v (Go.Value.int Go.IntKind.i64 1)) S fun v51 S => KE2 74 (env51_2 y2 y5 y7 v51) S))) (bin .add 0 y7 (.v (Go.Value.int Go.IntKind.i64 1)) S fun v52 S => KE1 74 (env51_1 y2 y5 v52) S)
theorem b51_2_eq : (fun (y2 y5 y7 y8 : AV) (S : Store) (KE2 : Nat → List AV → Store → Prop) (KE1 : Nat → List AV → Store → Prop) (Q : AEnd → Store → Prop) => vc Try.prog (c51.at_ [1, 1, 1, 1, 0, 1, 0, 0, 1, 0, 0, 1, 0, 0]) (ms51.drop 3) (mkE 74 lv51_2 (env51_2 y2 y5 y7 y8)) S (thenK (fgK lv51_2 KE2) (blockK 4 (blockK 3 (seqK (vc Try.prog (c51.at_ [1, 1, 1, 1, 0, 1, 0, 0, 1, 1]) (ms51.drop 3)) (thenK (fgK lv51_1 KE1) (blockK 2 (seqK (vc Try.prog (c51.at_ [1, 1, 1, 1, 1]) (ms51.drop 3)) (bodyK Try.prog r51 Q))))))))) = (fun (y2 y5 y7 y8 : AV) (S : Store) (KE2 : Nat → List AV → Store → Prop) (KE1 : Nat → List AV → Store → Prop) (Q : AEnd → Store → Prop) => b51_2 y2 y5 y7 y8 S KE2 KE1 Q) := by kernel_rfl
theorem loop51_2 {y2 y5 y7 : AV} {y80 : AV} {S : Store} {KE1 : Nat → List AV → Store → Prop} {Q : AEnd → Store → Prop} (I : AV → Store → Prop) (μ : AV → Store → Nat) (h0 : I y80 S)
    (hr : ∀ (y8 : AV) (S : Store), I y8 S → ∀ KE2 : Nat → List AV → Store → Prop, (∀ (y8' : AV) (S' : Store), I y8' S' → μ y8' S' < μ y8 S → KE2 74 (env51_2 y2 y5 y7 y8') S') → b51_2 y2 y5 y7 y8 S KE2 KE1 Q) :
    loopV lv51_2 (vc Try.prog (c51.at_ [1, 1, 1, 1, 0, 1, 0, 0, 1, 0, 0, 1, 0, 0]) (ms51.drop 3)) 74 (env51_2 y2 y5 y7 y80) S (blockK 4 (blockK 3 (seqK (vc Try.prog (c51.at_ [1, 1, 1, 1, 0, 1, 0, 0, 1, 1]) (ms51.drop 3)) (thenK (fgK lv51_1 KE1) (blockK 2 (seqK (vc Try.prog (c51.at_ [1, 1, 1, 1, 1]) (ms51.drop 3)) (bodyK Try.prog r51 Q))))))) := by
  refine ⟨fun n e S => n = 74 ∧ ∃ y8 : AV, e = (env51_2 y2 y5 y7 y8) ∧ I y8 S, fun _ e S => μ (e.getD 3 .j) S, ?_, ?_⟩
  · exact ⟨rfl, _, rfl, h0⟩
  · rintro _ e S ⟨rfl, y8, rfl, hI⟩
    exact (congrFun (congrFun (congrFun (congrFun (congrFun (congrFun (congrFun (congrFun b51_2_eq y2) y5) y7) y8) S) _) KE1) Q).mpr (hr y8 S hI _ (fun y8' S' hI' hm => ⟨⟨rfl, _, rfl, hI'⟩, hm⟩))
/-! ### 52 parterre/parterreref12.Or -/
noncomputable def c52 : Code := (Try.f52.body).getD .skip
noncomputable def r52 : List ResultVar := Try.f52.results.toList
def env52_0 (y0 y1 y5 y6 : AV) : List AV := [y0, y1, y5, y6]
def lv52_0 : List Nat := [0, 1, 5, 6]
def ms52 : List (List Nat) := [lv52_0]
def m52 (x0 x1 : AV) (S : Store) (Q : AEnd → Store → Prop) : Prop :=
  loopV lv52_0 (vc Try.prog (c52.at_ [1, 1, 0, 1, 0, 0]) (ms52.drop 1)) 27 (env52_0 x0 x1 .nl (.v (Go.Value.int Go.IntKind.i64 0))) S (blockK 0 (seqK (vc Try.prog (c52.at_ [1, 1, 1]) (ms52.drop 1)) (bodyK Try.prog r52 Q)))
theorem m52_eq : (fun (x0 x1 : AV) (S : Store) (Q : AEnd → Store → Prop) => vc Try.prog c52 ms52 (ofArgs 27 [x0, x1]) S (bodyK Try.prog r52 Q)) = (fun (x0 x1 : AV) (S : Store) (Q : AEnd → Store → Prop) => m52 x0 x1 S Q) := by kernel_rfl
theorem calls52 {x0 x1 : AV} {S : Store} {Q : AEnd → Store → Prop} (h : m52 x0 x1 S Q) : ACalls Try.prog 52 [x0, x1] S Q :=
  calls_of_vc (fn := Try.f52) (c := c52) (n := 27) Try.func52 (by kernel_rfl) (by kernel_rfl) (by kernel_rfl) ms52 ((congrFun (congrFun (congrFun (congrFun m52_eq x0) x1) S) Q).mpr h)
-- loop 0: written: y5 y6; read alone: y0 y1
def b52_0 (y0 y1 y5 y6 : AV) (S : Store) (KE0 : Nat → List AV → Store → Prop) (Q : AEnd → Store → Prop) : Prop :=
  lenS y0 S fun v1 S => bin .lss 0 y6 v1 S fun v2 S => onB v2 fun b3 => gd b3 (ixS 4 1 y0 y6 S fun v4 S => ld1 v4 S fun v5 S => onB v5 fun b6 => gd b6 (bslN 4 1 1 [(.v (.bool false))] [(0, (.v (Go.Value.bool true)))] S fun v7 S => appS 4 1 1 y5 v7 S fun v8 S => bin .add 0 y6 (.v (Go.Value.int Go.IntKind.i64 1)) S fun v9 S => KE0 27 (env52_0 y0 y1 v8 v9) S) (ixS 4 1 y1 y6 S fun v10 S => ld1 v10 S fun v11 S => bslN 4 1 1 [(.v (.bool false))] [(0, v11)] S fun v12 S => appS 4 1 1 y5 v12 S fun v13 S => bin .add 0 y6 (.v (Go.Value.int Go.IntKind.i64 1)) S fun v14 S => KE0 27 (env52_0 y0 y1 v13 v14) S)) (Q (.ret y5) S)
theorem b52_0_eq : (fun (y0 y1 y5 y6 : AV) (S : Store) (KE0 : Nat → List AV → Store → Prop) (Q : AEnd → Store → Prop) => vc Try.prog (c52.at_ [1, 1, 0, 1, 0, 0]) (ms52.drop 1) (mkE 27 lv52_0 (env52_0 y0 y1 y5 y6)) S (thenK (fgK lv52_0 KE0) (blockK 0 (seqK (vc Try.prog (c52.at_ [1, 1, 1]) (ms52.drop 1)) (bodyK Try.prog r52 Q))))) = (fun (y0 y1 y5 y6 : AV) (S : Store) (KE0 : Nat → List AV → Store → Prop) (Q : AEnd → Store → Prop) => b52_0 y0 y1 y5 y6 S KE0 Q) := by kernel_rfl
theorem loop52_0 {y0 y1 : AV} {y50 y60 : AV} {S : Store} {Q : AEnd → Store → Prop} (I : AV → AV → Store → Prop) (μ : AV → AV → Store → Nat) (h0 : I y50 y60 S)
    (hr : ∀ (y5 y6 : AV) (S : Store), I y5 y6 S → ∀ KE0 : Nat → List AV → Store → Prop, (∀ (y5' y6' : AV) (S' : Store), I y5' y6' S' → μ y5' y6' S' < μ y5 y6 S → KE0 27 (env52_0 y0 y1 y5' y6') S') → b52_0 y0 y1 y5 y6 S KE0 Q) :
    loopV lv52_0 (vc Try.prog (c52.at_ [1, 1, 0, 1, 0, 0]) (ms52.drop 1)) 27 (env52_0 y0 y1 y50 y60) S (blockK 0 (seqK (vc Try.prog (c52.at_ [1, 1, 1]) (ms52.drop 1)) (bodyK Try.prog r52 Q))) := by
  refine ⟨fun n e S => n = 27 ∧ ∃ y5 y6 : AV, e = (env52_0 y0 y1 y5 y6) ∧ I y5 y6 S, fun _ e S => μ (e.getD 2 .j) (e.getD 3 .j) S, ?_, ?_⟩
  · exact ⟨rfl, _, _, rfl, h0⟩
  · rintro _ e S ⟨rfl, y5, y6, rfl, hI⟩
    exact (congrFun (congrFun (congrFun (congrFun (congrFun (congrFun (congrFun b52_0_eq y0) y1) y5) y6) S) _) Q).mpr (hr y5 y6 S hI _ (fun y5' y6' S' hI' hm => ⟨⟨rfl, _, _, rfl, hI'⟩, hm⟩))
/-! ### 53 parterre/parterreref12.fairs -/
noncomputable def c53 : Code := (Try.f53.body).getD .skip
noncomputable def r53 : List ResultVar := Try.f53.results.toList
def ms53 : List (List Nat) := []
def m53 (x0 : AV) (S : Store) (Q : AEnd → Store → Prop) : Prop :=
  boxN 26 5 x0 S fun v1 S => shift v1 4 S fun v2 S => ld1 v2 S fun v3 S => lenS v3 S fun v4 S => bin .eql 0 v4 (.v (Go.Value.int Go.IntKind.i64 0)) S fun v5 S => onB v5 fun b6 => gd b6 (shift v1 1 S fun v7 S => ld1 v7 S fun v8 S => bslN 22 1 1 [.nl] [(0, v8)] S fun v9 S => Q (.ret v9) S) (shift v1 4 S fun v10 S => ld1 v10 S fun v11 S => Q (.ret v11) S)
theorem m53_eq : (fun (x0 : AV) (S : Store) (Q : AEnd → Store → Prop) => vc Try.prog c53 ms53 (ofArgs 12 [x0]) S (bodyK Try.prog r53 Q)) = (fun (x0 : AV) (S : Store) (Q : AEnd → Store → Prop) => m53 x0 S Q) := by kernel_rfl
theorem calls53 {x0 : AV} {S : Store} {Q : AEnd → Store → Prop} (h : m53 x0 S Q) : ACalls Try.prog 53 [x0] S Q :=
  calls_of_vc (fn := Try.f53) (c := c53) (n := 12) Try.func53 (by kernel_rfl) (by kernel_rfl) (by kernel_rfl) ms53 ((congrFun (congrFun (congrFun m53_eq x0) S) Q).mpr h)
/-! ### 13 parterre/parterrelaw12.same -/
noncomputable def c13 : Code := (Try.f13.body).getD .skip
noncomputable def r13 : List ResultVar := Try.f13.results.toList
def ms13 : List (List Nat) := []
def m13 (x0 x1 x2 : AV) (S : Store) (Q : AEnd → Store → Prop) : Prop :=
  boxN 26 5 x0 S fun v1 S => (fun S0 : Store => ∃ q2 : AV, (ldN 5 v1 S fun v3 S => v3 = q2 ∧ S = S0) ∧ ∃ q4 : AV, (callF Try.prog 17 [q2, x1] S (fun _ _ => False) fun v5 S => v5 = q4 ∧ S = S0) ∧ ∃ q6 : AV, (ldN 5 v1 S fun v7 S => v7 = q6 ∧ S = S0) ∧ ∃ q8 : AV, (callF Try.prog 26 [q6, x1] S (fun _ _ => False) fun v9 S => v9 = q8 ∧ S = S0) ∧ ∃ q10 : AV, (callF Try.prog 20 [q4, q8] S (fun _ _ => False) fun v11 S => v11 = q10 ∧ S = S0) ∧ onB q10 fun b12 => gd b12 (∃ q13 : AV, (ldN 5 v1 S fun v14 S => v14 = q13 ∧ S = S0) ∧ ∃ q15 : AV, (callF Try.prog 16 [q13, x1, x2] S (fun _ _ => False) fun v16 S => v16 = q15 ∧ S = S0) ∧ ∃ q17 : AV, (ldN 5 v1 S fun v18 S => v18 = q17 ∧ S = S0) ∧ ∃ q19 : AV, (callF Try.prog 27 [q17, x1, x2] S (fun _ _ => False) fun v20 S => v20 = q19 ∧ S = S0) ∧ ∃ q21 : AV, (callF Try.prog 20 [q15, q19] S (fun _ _ => False) fun v22 S => v22 = q21 ∧ S = S0) ∧ ∃ q23 : AV, (q21 = q23 ∧ S = S0) ∧ onB q23 fun b24 => gd b24 (∃ q25 : AV, (ldN 5 v1 S fun v26 S => v26 = q25 ∧ S = S0) ∧ ∃ q27 : AV, (callF Try.prog 18 [q25, x1] S (fun _ _ => False) fun v28 S => v28 = q27 ∧ S = S0) ∧ ∃ q29 : AV, (ldN 5 v1 S fun v30 S => v30 = q29 ∧ S = S0) ∧ ∃ q31 : AV, (callF Try.prog 28 [q29, x1] S (fun _ _ => False) fun v32 S => v32 = q31 ∧ S = S0) ∧ ∃ q33 : AV, (callF Try.prog 20 [q27, q31] S (fun _ _ => False) fun v34 S => v34 = q33 ∧ S = S0) ∧ ∃ q35 : AV, (q33 = q35 ∧ S = S0) ∧ Q (.ret q35) S) (∃ q36 : AV, ((.v (Go.Value.bool false)) = q36 ∧ S = S0) ∧ Q (.ret q36) S)) (∃ q37 : AV, ((.v (Go.Value.bool false)) = q37 ∧ S = S0) ∧ onB q37 fun b38 => gd b38 (∃ q39 : AV, (ldN 5 v1 S fun v40 S => v40 = q39 ∧ S = S0) ∧ ∃ q41 : AV, (callF Try.prog 18 [q39, x1] S (fun _ _ => False) fun v42 S => v42 = q41 ∧ S = S0) ∧ ∃ q43 : AV, (ldN 5 v1 S fun v44 S => v44 = q43 ∧ S = S0) ∧ ∃ q45 : AV, (callF Try.prog 28 [q43, x1] S (fun _ _ => False) fun v46 S => v46 = q45 ∧ S = S0) ∧ ∃ q47 : AV, (callF Try.prog 20 [q41, q45] S (fun _ _ => False) fun v48 S => v48 = q47 ∧ S = S0) ∧ ∃ q49 : AV, (q47 = q49 ∧ S = S0) ∧ Q (.ret q49) S) (∃ q50 : AV, ((.v (Go.Value.bool false)) = q50 ∧ S = S0) ∧ Q (.ret q50) S))) S
theorem m13_eq : (fun (x0 x1 x2 : AV) (S : Store) (Q : AEnd → Store → Prop) => vc Try.prog c13 ms13 (ofArgs 34 [x0, x1, x2]) S (bodyK Try.prog r13 Q)) = (fun (x0 x1 x2 : AV) (S : Store) (Q : AEnd → Store → Prop) => m13 x0 x1 x2 S Q) := by kernel_rfl
theorem calls13 {x0 x1 x2 : AV} {S : Store} {Q : AEnd → Store → Prop} (h : m13 x0 x1 x2 S Q) : ACalls Try.prog 13 [x0, x1, x2] S Q :=
  calls_of_vc (fn := Try.f13) (c := c13) (n := 34) Try.func13 (by kernel_rfl) (by kernel_rfl) (by kernel_rfl) ms13 ((congrFun (congrFun (congrFun (congrFun (congrFun m13_eq x0) x1) x2) S) Q).mpr h)
/-! ### 12 parterre/parterrelaw12.awake -/
noncomputable def c12 : Code := (Try.f12.body).getD .skip
noncomputable def r12 : List ResultVar := Try.f12.results.toList
def ms12 : List (List Nat) := []
def m12 (S : Store) (Q : AEnd → Store → Prop) : Prop :=
  bslN 4 1 2 [(.v (.bool false))] [(0, (.v (Go.Value.bool true))), (1, (.v (Go.Value.bool true)))] S fun v1 S => bslN 4 1 2 [(.v (.bool false))] [(0, (.v (Go.Value.bool true))), (1, (.v (Go.Value.bool false)))] S fun v2 S => bslN 3 1 1 [(.v (.int .i64 0))] [(0, (.v (Go.Value.int Go.IntKind.i64 1)))] S fun v3 S => bslN 3 1 1 [(.v (.int .i64 0))] [(0, (.v (Go.Value.int Go.IntKind.i64 0)))] S fun v4 S => bslN 28 1 2 [.nl] [(0, v3), (1, v4)] S fun v5 S => bld [(0, 1), (1, 1), (2, 1), (3, 1), (4, 1)] [(.v (.int .i64 0)), .nl, .nl, .nl, .nl] [(0, (.v (Go.Value.int Go.IntKind.i64 1))), (1, v1), (2, v2), (3, v5)] S fun v6 S => boxN 26 5 (.a [(.v (.int .i64 0)), .nl, .nl, .nl, .nl]) S fun v7 S => stN 5 v7 v6 S fun v8 S => (fun S0 : Store => ∃ q9 : AV, (ldN 5 v7 S fun v10 S => v10 = q9 ∧ S = S0) ∧ ∃ q11 : AV, (bslN 4 1 2 [(.v (.bool false))] [(0, (.v (Go.Value.bool true))), (1, (.v (Go.Value.bool true)))] S fun v12 S => v12 = q11 ∧ S = S0) ∧ ∃ q13 : AV, (callF Try.prog 18 [q9, q11] S (fun _ _ => False) fun v14 S => v14 = q13 ∧ S = S0) ∧ ∃ q15 : AV, (ldN 5 v7 S fun v16 S => v16 = q15 ∧ S = S0) ∧ ∃ q17 : AV, (bslN 4 1 2 [(.v (.bool false))] [(0, (.v (Go.Value.bool true))), (1, (.v (Go.Value.bool false)))] S fun v18 S => v18 = q17 ∧ S = S0) ∧ ∃ q19 : AV, (callF Try.prog 18 [q15, q17] S (fun _ _ => False) fun v20 S => v20 = q19 ∧ S = S0) ∧ (fun S0 : Store => ∃ q21 : AV, (ldN 5 v7 S fun v22 S => v22 = q21 ∧ S = S0) ∧ ∃ q23 : AV, (bslN 4 1 2 [(.v (.bool false))] [(0, (.v (Go.Value.bool true))), (1, (.v (Go.Value.bool false)))] S fun v24 S => v24 = q23 ∧ S = S0) ∧ ∃ q25 : AV, (callF Try.prog 17 [q21, q23] S (fun _ _ => False) fun v26 S => v26 = q25 ∧ S = S0) ∧ ∃ q27 : AV, (ldN 5 v7 S fun v28 S => v28 = q27 ∧ S = S0) ∧ ∃ q29 : AV, (bslN 4 1 2 [(.v (.bool false))] [(0, (.v (Go.Value.bool false))), (1, (.v (Go.Value.bool true)))] S fun v30 S => v30 = q29 ∧ S = S0) ∧ ∃ q31 : AV, (bslN 4 1 2 [(.v (.bool false))] [(0, (.v (Go.Value.bool true))), (1, (.v (Go.Value.bool false)))] S fun v32 S => v32 = q31 ∧ S = S0) ∧ ∃ q33 : AV, (callF Try.prog 16 [q27, q29, q31] S (fun _ _ => False) fun v34 S => v34 = q33 ∧ S = S0) ∧ bslN 4 1 2 [(.v (.bool false))] [(0, (.v (Go.Value.bool true))), (1, (.v (Go.Value.bool true)))] S fun v35 S => callF Try.prog 20 [q13, v35] S Q fun v36 S => onB v36 fun b37 => gd b37 (bslN 4 1 2 [(.v (.bool false))] [(0, (.v (Go.Value.bool false))), (1, (.v (Go.Value.bool false)))] S fun v38 S => callF Try.prog 20 [q19, v38] S Q fun v39 S => onB v39 fun b40 => gd b40 (bslN 4 1 2 [(.v (.bool false))] [(0, (.v (Go.Value.bool false))), (1, (.v (Go.Value.bool true)))] S fun v41 S => callF Try.prog 20 [q25, v41] S Q fun v42 S => onB v42 fun b43 => gd b43 (bslN 4 1 2 [(.v (.bool false))] [(0, (.v (Go.Value.bool true))), (1, (.v (Go.Value.bool true)))] S fun v44 S => callF Try.prog 20 [q33, v44] S Q fun v45 S => onB v45 fun b46 => gd b46 (ldN 5 v7 S fun v47 S => callF Try.prog 17 [v47, .nl] S Q fun v48 S => lenS v48 S fun v49 S => bin .eql 0 v49 (.v (Go.Value.int Go.IntKind.i64 0)) S fun v50 S => Q (.ret v50) S) (Q (.ret (.v (Go.Value.bool false))) S)) (Q (.ret (.v (Go.Value.bool false))) S)) (Q (.ret (.v (Go.Value.bool false))) S)) (Q (.ret (.v (Go.Value.bool false))) S)) S) S
theorem m12_eq : (fun (S : Store) (Q : AEnd → Store → Prop) => vc Try.prog c12 ms12 (ofArgs 49 []) S (bodyK Try.prog r12 Q)) = (fun (S : Store) (Q : AEnd → Store → Prop) => m12  S Q) := by kernel_rfl
theorem calls12 {S : Store} {Q : AEnd → Store → Prop} (h : m12  S Q) : ACalls Try.prog 12 [] S Q :=
  calls_of_vc (fn := Try.f12) (c := c12) (n := 49) Try.func12 (by kernel_rfl) (by kernel_rfl) (by kernel_rfl) ms12 ((congrFun (congrFun m12_eq S) Q).mpr h)
/-! ### 15 parterre/parterrelaw12.bits -/
noncomputable def c15 : Code := (Try.f15.body).getD .skip
noncomputable def r15 : List ResultVar := Try.f15.results.toList
def env15_0 (y0 y1 y5 y6 : AV) : List AV := [y0, y1, y5, y6]
def lv15_0 : List Nat := [0, 1, 5, 6]
def ms15 : List (List Nat) := [lv15_0]
def m15 (x0 x1 : AV) (S : Store) (Q : AEnd → Store → Prop) : Prop :=
  loopV lv15_0 (vc Try.prog (c15.at_ [1, 1, 0, 1, 0, 0]) (ms15.drop 1)) 21 (env15_0 x0 x1 .nl (.v (Go.Value.int Go.IntKind.i64 0))) S (blockK 0 (seqK (vc Try.prog (c15.at_ [1, 1, 1]) (ms15.drop 1)) (bodyK Try.prog r15 Q)))
theorem m15_eq : (fun (x0 x1 : AV) (S : Store) (Q : AEnd → Store → Prop) => vc Try.prog c15 ms15 (ofArgs 21 [x0, x1]) S (bodyK Try.prog r15 Q)) = (fun (x0 x1 : AV) (S : Store) (Q : AEnd → Store → Prop) => m15 x0 x1 S Q) := by kernel_rfl
theorem calls15 {x0 x1 : AV} {S : Store} {Q : AEnd → Store → Prop} (h : m15 x0 x1 S Q) : ACalls Try.prog 15 [x0, x1] S Q :=
  calls_of_vc (fn := Try.f15) (c := c15) (n := 21) Try.func15 (by kernel_rfl) (by kernel_rfl) (by kernel_rfl) ms15 ((congrFun (congrFun (congrFun (congrFun m15_eq x0) x1) S) Q).mpr h)
-- loop 0: written: y5 y6; read alone: y0 y1
def b15_0 (y0 y1 y5 y6 : AV) (S : Store) (KE0 : Nat → List AV → Store → Prop) (Q : AEnd → Store → Prop) : Prop :=
  bin .lss 0 y6 y1 S fun v1 S => onB v1 fun b2 => gd b2 (bin .shr 0 y0 y6 S fun v3 S => bin .rem 0 v3 (.v (Go.Value.int Go.IntKind.i64 2)) S fun v4 S => bin .eql 0 v4 (.v (Go.Value.int Go.IntKind.i64 1)) S fun v5 S => bslN 4 1 1 [(.v (.bool false))] [(0, v5)] S fun v6 S => appS 4 1 1 y5 v6 S fun v7 S => bin .add 0 y6 (.v (Go.Value.int Go.IntKind.i64 1)) S fun v8 S => KE0 21 (env15_0 y0 y1 v7 v8) S) (Q (.ret y5) S)
theorem b15_0_eq : (fun (y0 y1 y5 y6 : AV) (S : Store) (KE0 : Nat → List AV → Store → Prop) (Q : AEnd → Store → Prop) => vc Try.prog (c15.at_ [1, 1, 0, 1, 0, 0]) (ms15.drop 1) (mkE 21 lv15_0 (env15_0 y0 y1 y5 y6)) S (thenK (fgK lv15_0 KE0) (blockK 0 (seqK (vc Try.prog (c15.at_ [1, 1, 1]) (ms15.drop 1)) (bodyK Try.prog r15 Q))))) = (fun (y0 y1 y5 y6 : AV) (S : Store) (KE0 : Nat → List AV → Store → Prop) (Q : AEnd → Store → Prop) => b15_0 y0 y1 y5 y6 S KE0 Q) := by kernel_rfl
theorem loop15_0 {y0 y1 : AV} {y50 y60 : AV} {S : Store} {Q : AEnd → Store → Prop} (I : AV → AV → Store → Prop) (μ : AV → AV → Store → Nat) (h0 : I y50 y60 S)
    (hr : ∀ (y5 y6 : AV) (S : Store), I y5 y6 S → ∀ KE0 : Nat → List AV → Store → Prop, (∀ (y5' y6' : AV) (S' : Store), I y5' y6' S' → μ y5' y6' S' < μ y5 y6 S → KE0 21 (env15_0 y0 y1 y5' y6') S') → b15_0 y0 y1 y5 y6 S KE0 Q) :
    loopV lv15_0 (vc Try.prog (c15.at_ [1, 1, 0, 1, 0, 0]) (ms15.drop 1)) 21 (env15_0 y0 y1 y50 y60) S (blockK 0 (seqK (vc Try.prog (c15.at_ [1, 1, 1]) (ms15.drop 1)) (bodyK Try.prog r15 Q))) := by
  refine ⟨fun n e S => n = 21 ∧ ∃ y5 y6 : AV, e = (env15_0 y0 y1 y5 y6) ∧ I y5 y6 S, fun _ e S => μ (e.getD 2 .j) (e.getD 3 .j) S, ?_, ?_⟩
  · exact ⟨rfl, _, _, rfl, h0⟩
  · rintro _ e S ⟨rfl, y5, y6, rfl, hI⟩
    exact (congrFun (congrFun (congrFun (congrFun (congrFun (congrFun (congrFun b15_0_eq y0) y1) y5) y6) S) _) Q).mpr (hr y5 y6 S hI _ (fun y5' y6' S' hI' hm => ⟨⟨rfl, _, _, rfl, hI'⟩, hm⟩))
end Go.Proofs.Ythgkalkllfpjpaa.G

/- It is proved that SetsAny returns true for every input; this text is one part of that proof, and it has no further condition. -/
import Derived.Test.YthgkalkllfpjpaaS11
import Derived.Test.YthgkalkllfpjpaaAb8
import Derived.Test.YthgkalkllfpjpaaRows
import Derived.OpenShut
import Derived.ChangeOld
set_option linter.unusedVariables false
set_option linter.unusedSimpArgs false
namespace Go.Proofs.Ythgkalkllfpjpaa.G
open Go Go.Ab
open Go.ChangeShapes Go.WideShapes Go.ChangeAt Go.RowKit

section
variable {H : Type} {enc : TypeId × Value → H} {w : World} {sp : Nat → Bool} {held : Bool}
theorem opB : Opens enc Try.prog w sp held 4 1 (fun b : Bool => [aB b]) (fun _ => True) := opens_bool Try.underlying4
theorem opI : Opens enc Try.prog w sp held 3 1 (fun n : Int => [aI n]) (fun n => (Lit.int .i64 n).wf = true) := opens_int Try.underlying3
theorem opBs : Opens enc Try.prog w sp held 22 1 (fun l : List Bool => [aL aB l]) (fun l => l.length ≤ maxLen ∧ ∀ a ∈ l, True) := opens_slice Try.underlying22 (by kernel_rfl) (by decide) opB
theorem opIs : Opens enc Try.prog w sp held 28 1 (fun l : List Int => [aL aI l]) (fun l => l.length ≤ maxLen ∧ ∀ a ∈ l, (Lit.int .i64 a).wf = true) := opens_slice Try.underlying28 (by kernel_rfl) (by decide) opI
theorem opIIs : Opens enc Try.prog w sp held 23 1 (fun l : List (List Int) => [aL (aL aI) l]) (fun l => l.length ≤ maxLen ∧ ∀ a ∈ l, a.length ≤ maxLen ∧ ∀ b ∈ a, (Lit.int .i64 b).wf = true) := opens_slice Try.underlying23 (by kernel_rfl) (by decide) opIs
theorem opBBs : Opens enc Try.prog w sp held 24 1 (fun l : List (List Bool) => [aL (aL aB) l]) (fun l => l.length ≤ maxLen ∧ ∀ a ∈ l, a.length ≤ maxLen ∧ ∀ b ∈ a, True) := opens_slice Try.underlying24 (by kernel_rfl) (by decide) opBs
set_option maxRecDepth 100000 in
theorem opSp : Opens enc Try.prog w sp held 26 5 Sp.cells (fun _ => True) := by
  intro fuel cs x h
  obtain ⟨hl, n, hf⟩ := trod_struct Try.underlying26 h
  have h5 : cs.length = 5 := hl.trans (by kernel_rfl)
  have c3 : Try.prog.cellsOf 3 = 1 := by kernel_rfl
  have c22 : Try.prog.cellsOf 22 = 1 := by kernel_rfl
  have c23 : Try.prog.cellsOf 23 = 1 := by kernel_rfl
  have c24 : Try.prog.cellsOf 24 = 1 := by kernel_rfl
  match cs, h5 with
  | [c0, c1, c2, c3', c4], _ =>
    simp only [List.mem_cons, List.not_mem_nil, or_false, forall_eq_or_imp, forall_eq, c3, c22, c23, c24, List.drop_zero, List.drop_succ_cons, List.take_succ_cons, List.take_zero] at hf
    obtain ⟨⟨y0, h0⟩, ⟨y1, h1⟩, ⟨y2, h2⟩, ⟨y3, h3⟩, ⟨y4, h4⟩⟩ := hf
    obtain ⟨a0, _, _, _, r0⟩ := opI n _ _ h0
    obtain ⟨a1, _, _, _, r1⟩ := opBs n _ _ h1
    obtain ⟨a2, _, _, _, r2⟩ := opBs n _ _ h2
    obtain ⟨a3, _, _, _, r3⟩ := opIIs n _ _ h3
    obtain ⟨a4, _, _, _, r4⟩ := opBBs n _ _ h4
    refine ⟨⟨a0, a1, a2, a3, a4⟩, trivial, rfl, rfl, fun k u c hu hc => ?_⟩
    match k, hu, hc with
    | 0, hu, hc => cases hu; cases hc; exact r0 0 _ _ rfl rfl
    | 1, hu, hc => cases hu; cases hc; exact r1 0 _ _ rfl rfl
    | 2, hu, hc => cases hu; cases hc; exact r2 0 _ _ rfl rfl
    | 3, hu, hc => cases hu; cases hc; exact r3 0 _ _ rfl rfl
    | 4, hu, hc => cases hu; cases hc; exact r4 0 _ _ rfl rfl
    | k + 5, hu, _ => simp [Sp.cells] at hu
end

theorem own : ownKnob Try.prog.godebug = none := by kernel_rfl
theorem laidOut : laidOutB Try.prog = true := by kernel_rfl

set_option maxRecDepth 100000 in
theorem lifted3 (os : Os) (started : os.Started) (H : Type) (enc : TypeId × Value → H) :
    ReturnsInHanded {} Try.checked os 3 .any (Rows.setsAnySpec.pre6 enc Try.prog Try.f3 Rows.setsAnyRow.domain false) (Rows.setsAnySpec.post enc Try.prog Try.f3 false true false false) := by
  refine returnsInHanded_of_change (C := Try.checked) own started (by kernel_rfl) Try.func3
    (ChangeSpec.witness6 (enc := enc) (C := Try.checked) false ⟨#[], #[.agg #[.int .i64 0, .slice none 0 0, .slice none 0 0, .slice none 0 0, .slice none 0 0], .slice none 0 0, .slice none 0 0], []⟩ 8 (by kernel_rfl) (by kernel_rfl) (by kernel_rfl) (by kernel_rfl)) ?_
  intro W base args ds gs before hval0 hW hcnd _
  have hval : ∀ (j : Nat) t v, Try.f3.params[j]? = some t → args[j]? = some v → Value.okWide Try.prog W .any base t v := hval0
  have hW' := hW
  obtain ⟨p, q, hA0, hV, rfl, hfz, hnd⟩ := hW
  have hA : DataW.TrodAll enc Try.prog W 0 (fun _ => true) true Try.f3.params.toList args.toList ds p := hA0
  rw [Try.params3] at hA hval
  obtain ⟨v0, vs0, d0, ds0, p0, q0, hargs, rfl, rfl, h0, r0⟩ := trodAll_cons hA
  obtain ⟨v1, vs1, d1, ds1, p1, q1, rfl, rfl, rfl, h1, r1⟩ := trodAll_cons r0
  obtain ⟨v2, vs2, d2, ds2, p2, q2, rfl, rfl, rfl, h2, r2⟩ := trodAll_cons r1
  obtain ⟨rfl, rfl, rfl⟩ := trodAll_nil r2
  obtain rfl : args = #[v0, v1, v2] := by cases args; simp_all
  obtain ⟨rfl, rfl⟩ := trodVars_none hV
  have lt0 : ∀ x ∈ p0, x.block < W.heap.size := by obtain ⟨m, hm⟩ := h0; exact DataW.trod_lt m _ _ _ hm
  have lt1 : ∀ x ∈ p1, x.block < W.heap.size := by obtain ⟨m, hm⟩ := h1; exact DataW.trod_lt m _ _ _ hm
  have lt2 : ∀ x ∈ p2, x.block < W.heap.size := by obtain ⟨m, hm⟩ := h2; exact DataW.trod_lt m _ _ _ hm
  have o0 := hval 0 26 v0 rfl rfl
  unfold Value.okWide at o0
  rw [Try.underlying26] at o0
  obtain ⟨cs0, rfl, _, _⟩ := o0
  obtain ⟨a1, l1, c1, rfl⟩ := okWide_slice Try.underlying22 (hval 1 22 v1 rfl rfl)
  obtain ⟨a2, l2, c2, rfl⟩ := okWide_slice Try.underlying22 (hval 2 22 v2 rfl rfl)
  obtain ⟨s, _, hr0⟩ := opened_agg opSp h0
  obtain ⟨x1, _, hr1⟩ := opened_one opBs rfl h1
  obtain ⟨x2, _, hr2⟩ := opened_one opBs rfl h2
  clear hA0 hval0
  refine (ACalls.law (ans3 s x1 x2) (by rfl) (args3 hr0 hr1 hr2)).mono fun e W' ⟨he, bel⟩ => ?_
  subst he
  exact ⟨_, rfl, _, _, _, [], _, [], hW', trodAll_mk1 (shut_bool Try.underlying4 _), (trodAll_cons_mk (Below.trod laidOut (by kernel_rfl) (of_decide_eq_true (by kernel_rfl)) h0 bel lt0) (trodAll_cons_mk (Below.trod laidOut (by kernel_rfl) (of_decide_eq_true (by kernel_rfl)) h1 bel lt1) (trodAll_cons_mk (Below.trod laidOut (by kernel_rfl) (of_decide_eq_true (by kernel_rfl)) h2 bel lt2) trodAll_mk0))), rfl, bel.frame _, fun h => by cases h⟩

theorem over3 : Rows.setsAnyRow.holds Try.pinned (OpenSpec.ofChange Rows.setsAnySpec) :=
  OpenClaim.holds_of_wide 3 Try.f3 rfl rfl rfl rfl rfl rfl rfl ⟨rfl, rfl, rfl, rfl, rfl⟩ rfl rfl rfl rfl rfl (by kernel_rfl) Try.func3 (by kernel_rfl)
    (of_decide_eq_true (by kernel_rfl)) (by unfold Func.isWrapper; rw [if_neg (of_decide_eq_false (by kernel_rfl))]; exact ⟨rfl, rfl⟩)
    (fun os started H enc _ => lifted3 os started H enc)
end Go.Proofs.Ythgkalkllfpjpaa.G
namespace Go.Proofs.Ythgkalkllfpjpaa
theorem setsAny_proved : Rows.SetsAnySaid := G.over3
end Go.Proofs.Ythgkalkllfpjpaa

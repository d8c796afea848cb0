/- Tree -/
import Derived.Test.YtfhekpnddoihkaaGreatRows
import Derived.OpenShut
import Derived.ChangeOld
import Derived.Test.YtfhekpnddoihkaaGreatTgT6
set_option linter.unusedVariables false
set_option linter.unusedSimpArgs false
namespace Go.Proofs.YtfhekpnddoihkaaGreat.G
open Go Go.Ab
open Go.ChangeShapes Go.WideShapes Go.ChangeAt Go.RowKit

theorem own : ownKnob Tryz.prog.godebug = none := by kernel_rfl
theorem laidOut : laidOutB Tryz.prog = true := by kernel_rfl
theorem gl_none {w : World} : Gl Tryz.prog w (g0 w) := fun n b hn hm => by
  simp only [globS, List.mem_cons, List.not_mem_nil, or_false] at hm
  rcases hm with rfl | rfl | rfl | rfl
  · rw [show Tryz.prog.globalNamed "strconv.ErrSyntax" = none by kernel_rfl] at hn; cases hn
  · rw [show Tryz.prog.globalNamed "strconv.ErrRange" = none by kernel_rfl] at hn; cases hn
  · rw [show Tryz.prog.globalNamed "internal/strconv.uint64pow10" = none by kernel_rfl] at hn; cases hn
  · rw [show Tryz.prog.globalNamed "internal/bytealg.MaxLen" = none by kernel_rfl] at hn; cases hn
theorem argsN {w : World} {g : Gh} {a0 : AV} {y0 : Value} (h0 : R w g a0 y0) {a1 : AV} {y1 : Value} (h1 : R w g a1 y1) {a2 : AV} {y2 : Value} (h2 : R w g a2 y2) {a3 : AV} {y3 : Value} (h3 : R w g a3 y3) {a4 : AV} {y4 : Value} (h4 : R w g a4 y4) : ∀ (k : Nat) (u : AV), [a0, a1, a2, a3, a4][k]? = some u → R w g u (#[y0, y1, y2, y3, y4].getD k undef)
  | 0, _, h => by cases h; exact h0
  | 1, _, h => by cases h; exact h1
  | 2, _, h => by cases h; exact h2
  | 3, _, h => by cases h; exact h3
  | 4, _, h => by cases h; exact h4
  | k + 5, _, h => by simp at h
set_option maxRecDepth 100000 in
theorem lifted (os : Os) (started : os.Started) (H : Type) (enc : TypeId × Value → H) :
    ReturnsInHanded {} Tryz.checked os 3 .any (Rows.treeGrownSpec.pre6 enc Tryz.prog Tryz.f3 Rows.treeGrownRow.domain false) (Rows.treeGrownSpec.post enc Tryz.prog Tryz.f3 false true false false) := by
  refine returnsInHanded_of_change (C := Tryz.checked) own started (by kernel_rfl) Tryz.func3
    (ChangeSpec.witness6 (enc := enc) (C := Tryz.checked) false ⟨#[], #[.slice none 0 0, .slice none 0 0, .slice none 0 0, .int .u8 0, .int .i64 0], []⟩ 8 (by kernel_rfl) (by kernel_rfl) (by kernel_rfl) (by kernel_rfl)) ?_
  intro W base args ds gs before hval0 hW hcnd _
  have hval : ∀ (j : Nat) t v, Tryz.f3.params[j]? = some t → args[j]? = some v → Value.okWide Tryz.prog W .any base t v := hval0
  have hW' := hW
  obtain ⟨p, q, hA0, hV, rfl, hfz, hnd⟩ := hW
  have hA : DataW.TrodAll enc Tryz.prog W 0 (fun _ => true) true Tryz.f3.params.toList args.toList ds p := hA0
  rw [Tryz.params3] at hA hval
  obtain ⟨v0, vs0, d0, ds0, p0, q0, hargs, rfl, rfl, h0, r0⟩ := trodAll_cons hA
  obtain ⟨v1, vs1, d1, ds1, p1, q1, rfl, rfl, rfl, h1, r1⟩ := trodAll_cons r0
  obtain ⟨v2, vs2, d2, ds2, p2, q2, rfl, rfl, rfl, h2, r2⟩ := trodAll_cons r1
  obtain ⟨v3, vs3, d3, ds3, p3, q3, rfl, rfl, rfl, h3, r3⟩ := trodAll_cons r2
  obtain ⟨v4, vs4, d4, ds4, p4, q4, rfl, rfl, rfl, h4, r4⟩ := trodAll_cons r3
  obtain ⟨rfl, rfl, rfl⟩ := trodAll_nil r4
  obtain rfl : args = #[v0, v1, v2, v3, v4] := by cases args; simp_all
  obtain ⟨rfl, rfl⟩ := trodVars_none hV
  have lt0 : ∀ x ∈ p0, x.block < W.heap.size := by obtain ⟨m, hm⟩ := h0; exact DataW.trod_lt m _ _ _ hm
  have lt1 : ∀ x ∈ p1, x.block < W.heap.size := by obtain ⟨m, hm⟩ := h1; exact DataW.trod_lt m _ _ _ hm
  have lt2 : ∀ x ∈ p2, x.block < W.heap.size := by obtain ⟨m, hm⟩ := h2; exact DataW.trod_lt m _ _ _ hm
  have lt3 : ∀ x ∈ p3, x.block < W.heap.size := by obtain ⟨m, hm⟩ := h3; exact DataW.trod_lt m _ _ _ hm
  have lt4 : ∀ x ∈ p4, x.block < W.heap.size := by obtain ⟨m, hm⟩ := h4; exact DataW.trod_lt m _ _ _ hm
  obtain ⟨a0, l0, c0, rfl⟩ := okWide_slice Tryz.underlying22 (hval 0 22 v0 rfl rfl)
  obtain ⟨a1, l1, c1, rfl⟩ := okWide_slice Tryz.underlying23 (hval 1 23 v1 rfl rfl)
  obtain ⟨a2, l2, c2, rfl⟩ := okWide_slice Tryz.underlying23 (hval 2 23 v2 rfl rfl)
  obtain ⟨c3, rfl⟩ := okWide_int Tryz.underlying5 (hval 3 5 v3 rfl rfl)
  obtain ⟨c4, rfl⟩ := okWide_int Tryz.underlying3 (hval 4 3 v4 rfl rfl)
  obtain ⟨x0, q0, hr0⟩ := opened_one opVs rfl h0
  obtain ⟨x1, q1, hr1⟩ := opened_one opUs rfl h1
  obtain ⟨x2, q2, hr2⟩ := opened_one opUs rfl h2
  obtain ⟨x3, q3, hr3⟩ := opened_one opU rfl h3
  obtain ⟨x4, q4, hr4⟩ := opened_one opI rfl h4
  clear hA0 hval0
  refine (ACalls.law0 (law3 (l := x0) (m := x1) (ls := x2) (how := x3) (n := x4) (fun a h => u16_wf (q0.2 a h)) (fun a h => u8_wf (q1.2 a h)) (fun a h => u8_wf (q2.2 a h)) q2.1 (u8_wf q3) (i64_wf q4)) gl_none (by rfl) (argsN hr0 hr1 hr2 hr3 hr4)).mono fun e W' ⟨he, bel⟩ => ?_
  subst he
  exact ⟨_, rfl, _, _, _, [], _, [], hW', trodAll_mk1 (shut_bool Tryz.underlying4 _), (trodAll_cons_mk (Below.trod laidOut (by kernel_rfl) (of_decide_eq_true (by kernel_rfl)) h0 bel lt0) (trodAll_cons_mk (Below.trod laidOut (by kernel_rfl) (of_decide_eq_true (by kernel_rfl)) h1 bel lt1) (trodAll_cons_mk (Below.trod laidOut (by kernel_rfl) (of_decide_eq_true (by kernel_rfl)) h2 bel lt2) (trodAll_cons_mk (Below.trod laidOut (by kernel_rfl) (of_decide_eq_true (by kernel_rfl)) h3 bel lt3) (trodAll_cons_mk (Below.trod laidOut (by kernel_rfl) (of_decide_eq_true (by kernel_rfl)) h4 bel lt4) trodAll_mk0))))), rfl, bel.frame _, fun h => by cases h⟩

theorem over : Rows.treeGrownRow.holds Tryz.pinned (OpenSpec.ofChange Rows.treeGrownSpec) :=
  OpenClaim.holds_of_wide 3 Tryz.f3 rfl rfl rfl rfl rfl rfl rfl ⟨rfl, rfl, rfl, rfl, rfl⟩ rfl rfl rfl rfl rfl (by kernel_rfl) Tryz.func3 (by kernel_rfl)
    (of_decide_eq_true (by kernel_rfl)) (by unfold Func.isWrapper; rw [if_neg (of_decide_eq_false (by kernel_rfl))]; exact ⟨rfl, rfl⟩)
    (fun os started H enc _ => lifted os started H enc)
end Go.Proofs.YtfhekpnddoihkaaGreat.G
namespace Go.Proofs.YtfhekpnddoihkaaGreat
theorem treeGrown_proved : Rows.TreeGrownSaid := G.over
end Go.Proofs.YtfhekpnddoihkaaGreat

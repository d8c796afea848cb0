/- It is proved here that each of the laws of sets (SetsMade, SetsFix, SetsMore, SetsFair) returns true for every input and changes none of its arguments. There is no condition beyond the given statement. -/
import Derived.Test.YthgkalkllfpjpaaS6
set_option linter.unusedVariables false
set_option linter.unusedSimpArgs false
namespace Go.Proofs.Ythgkalkllfpjpaa.G
open Go Go.Ab

theorem Fit.with {s : Sp} {p q : List Bool} (h : Fit s p) (hl : q.length = s.valid.length) : Fit s q := ⟨h.small, h.next, hl, h.fair, h.behind⟩
theorem mem_fairL {s : Sp} {p : List Bool} (h : Fit s p) {f : List Bool} (hf : f ∈ fairL s) : f.length = s.valid.length := by
  unfold fairL at hf
  split at hf
  · simp only [List.mem_singleton] at hf; subst hf; rfl
  · exact h.fair f hf
theorem fairL_len {s : Sp} (h : s.small) : (fairL s).length < 1048576 := by
  unfold fairL
  split
  · simp
  · exact h.2.2.1

theorem loop_eg {s : Sp} {p : List Bool} (hf : Fit s p) {S S1 : Store} (k1 : Keep S S1) (o1 : S1.obj S.n = some (.cells 26 [s.cells] true)) :
    loopV lv32_0 (vc Try.prog (c32.at_ [1, 0, 1, 1, 1, 1, 0, 0, 0]) (ms32.drop 1)) 47 (env32_0 (.p S.n 0 0) (aL (aL aB) (fairL s)) (aL aB (andP p s.valid))) S1 (blockK 0 (seqK (vc Try.prog (c32.at_ [1, 0, 1, 1, 1, 1, 1]) (ms32.drop 2)) (scopeK (bodyK Try.prog r32 fun e S' => e = .ret (aL aB (egP s p)) ∧ Keep S S')))) := by
  have hs := hf.small
  have hfl := hf.len
  have hsl := hs.1
  have hfll := fairL_len hs
  refine loop32_0 (fun y S' => S' = S1 ∧ ∃ z, y = aL aB z ∧ z.length = p.length ∧ Sub z (andP p s.valid) ∧ Above s p z) (fun y _ => cnt (avB y)) ⟨rfl, _, rfl, by simp, Sub.refl _, fun y _ h _ => h⟩ ?_
  rintro _ S1 ⟨rfl, was, rfl, hwl, hws, hwa⟩ KE hKE
  unfold b32_0
  rw [lenS_aL]
  refine loop32_1 (fun y x S' => S' = S1 ∧ ∃ (z : List Bool) (i : Nat), y = aL aB z ∧ x = aI i ∧ i ≤ (fairL s).length ∧ z.length = p.length ∧ Sub z was ∧ Above s p z ∧ ∀ f ∈ (fairL s).take i, Sub z (stepP s was f))
    (fun _ x _ => (fairL s).length - ((intA x).getD 0).toNat) ⟨rfl, was, 0, rfl, rfl, Nat.zero_le _, hwl, Sub.refl _, hwa, fun f h => by simp at h⟩ ?_
  rintro _ _ S1 ⟨rfl, z, i, rfl, rfl, hi, hzl, hzw, hza, hst⟩ KE1 hKE1
  unfold b32_1
  rw [bin_lss, onB_v]
  refine gd_of (fun h => ?_) (fun h => ?_)
  · have hlt : i < (fairL s).length := by simpa using h
    rw [ixS_aL hlt, ld1_q]
    have hfm := List.getElem_mem hlt
    generalize hfi : (fairL s)[i] = f at *
    have hfle := mem_fairL hf hfm
    have hzf : Fit s z := hf.with (by omega)
    have haf : Fit s (andP z f) := hf.with (by simp; omega)
    have huf : Fit s (euP s z (andP z f)) := hf.with (by simp; omega)
    refine ⟨s.av, by rw [ldN_p (n := 5) o1 rfl]; exact ⟨rfl, rfl⟩, s.av, by rw [ldN_p (n := 5) o1 rfl]; exact ⟨rfl, rfl⟩, _, callF_ans (own58 z f (by omega) (by omega)).ans ⟨rfl, rfl⟩, _, callF_ans (own30 hzf haf).ans ⟨rfl, rfl⟩, _,
      callF_ans (ans31 huf) ⟨rfl, rfl⟩, _, callF_ans (own58 z _ (by omega) (by simp)).ans ⟨rfl, rfl⟩, ?_⟩
    have hz' : Above s p (stepP s z f) := hza.step hzl hfm
    refine callF_ans (ans61 true (by simp; omega)) ?_
    rw [un_not, onB_v]
    refine gd_of (fun h => ⟨?_, k1⟩) (fun h => ?_)
    · have := any_bit (l := stepP s z f) (by rw [Bool.not_eq_true'] at h; exact h)
      rw [← eg_none (by simpa using hzl) hz' this]
      rfl
    · rw [bin_add (by omega) (by omega)]
      refine hKE1 _ _ _ ⟨rfl, stepP s z f, i + 1, rfl, rfl, hlt, by simpa using hzl, (stepP_sub s z f).trans hzw, hz', fun g hg => ?_⟩ (by simp [intA]; omega)
      rw [List.take_add_one, List.getElem?_eq_getElem hlt, hfi] at hg
      rcases List.mem_append.1 hg with hg | hg
      · exact (stepP_sub s z f).trans (hst g hg)
      · have : g = f := by simpa using hg
        subst this
        exact stepP_mono hzw (by omega)
  · have hge : i = (fairL s).length := by simp at h; omega
    subst hge
    rw [List.take_length] at hst
    refine callF_ans (ans62 (by omega)) ?_
    rw [onB_v]
    refine gd_of (fun h => ⟨?_, k1⟩) (fun h => ?_)
    · have : was = z := by simpa using h
      subst this
      rw [← eg_of hzl hws hza hst]
    · have hne : ¬ was = z := by simpa using h
      refine hKE _ _ ⟨rfl, z, rfl, hzl, hzw.trans hws, hza⟩ ?_
      have := cnt_sub (a := z) (b := was) (by omega) hzw
      rw [avB_aL, avB_aL]
      have h2 : cnt z ≠ cnt was := fun e => hne (this.2 e).symm
      omega
theorem ans32 {s : Sp} {p : List Bool} (hf : Fit s p) : Ans Try.prog 32 [s.av, aL aB p] (aL aB (egP s p)) := by
  intro S
  refine ACalls.ans_aL (f := fun b => .bool b) (calls32 ?_)
  have hs := hf.small
  have hfl := hf.len
  have hsl := hs.1
  unfold m32 Sp.av
  refine boxA_of rfl fun S1 k1 n1 o1 => ?_
  rw [shift_p, ld1_p o1 rfl rfl, lenS_aL, bin_eql, onB_v]
  have hl := loop_eg hf k1 o1
  refine gd_of (fun h => ?_) (fun h => ?_)
  · have he : s.fair = [] := List.eq_nil_of_length_eq_zero (by simpa using h)
    rw [shift_p, ld1_p o1 rfl rfl]
    refine bsl1 rfl (fun _ h => by cases h) ?_
    rw [shift_p, ld1_p o1 rfl rfl]
    refine callF_ans (own58 p s.valid (by omega) (by omega)).ans ?_
    have : fairL s = [s.valid] := by simp [fairL, he]
    rw [this] at hl
    exact hl
  · have he : s.fair.isEmpty = false := by
      cases hq : s.fair with
      | nil => rw [hq] at h; simp at h
      | cons x l => rfl
    rw [shift_p, ld1_p o1 rfl rfl]
    refine callF_ans (own58 p s.valid (by omega) (by omega)).ans ?_
    have : fairL s = s.fair := by simp [fairL, he]
    rw [this] at hl
    exact hl
/-- The three functions that are asked. -/
noncomputable def EXs (s : Sp) (p : List Bool) : List Bool := if fits s [p] then exP s p else []
noncomputable def EUs (s : Sp) (p q : List Bool) : List Bool := if fits s [p, q] then euP s p q else []
noncomputable def EGs (s : Sp) (p : List Bool) : List Bool := if fits s [p] then egP s p else []
theorem ACalls.ans_nl {P : Program} {fn : FuncId} {args : List AV} {S : Store} (h : ACalls P fn args S (fun r S' => r = .ret .nl ∧ Keep S S')) : AnsAt P fn args S (.l []) :=
  ACalls.tree (ACalls.mono h fun r S' ⟨h1, h2⟩ => ⟨_, h1, h2, .nl⟩)
theorem ans17 {s : Sp} (hs : s.small) (p : List Bool) : Ans Try.prog 17 [s.av, aL aB p] (aL aB (EXs s p)) := by
  intro S
  cases hfit : fits s [p] with
  | false =>
    rw [EXs, hfit]
    refine ACalls.ans_nl (calls17 ?_)
    unfold m17
    refine boxA_of rfl fun S1 k1 n1 o1 => ?_
    rw [ldN_p (n := 5) o1 rfl]
    refine bsl1 rfl (fun _ h => by cases h) ?_
    refine callF_ans (ans29 s hs [p] (by simp)) ?_
    rw [hfit, un_not, onB_v]
    exact ⟨rfl, k1⟩
  | true =>
    rw [EXs, hfit]
    refine ACalls.ans_aL (f := fun b => .bool b) (calls17 ?_)
    unfold m17
    refine boxA_of rfl fun S1 k1 n1 o1 => ?_
    rw [ldN_p (n := 5) o1 rfl]
    refine bsl1 rfl (fun _ h => by cases h) ?_
    refine callF_ans (ans29 s hs [p] (by simp)) ?_
    rw [hfit, un_not, onB_v]
    rw [show (!true) = false from rfl, gd_false, ldN_p (n := 5) o1 rfl]
    exact callF_ans (ans31 (Fit.of hs hfit (by simp))) ⟨rfl, k1⟩
theorem ans18 {s : Sp} (hs : s.small) (p : List Bool) : Ans Try.prog 18 [s.av, aL aB p] (aL aB (EGs s p)) := by
  intro S
  cases hfit : fits s [p] with
  | false =>
    rw [EGs, hfit]
    refine ACalls.ans_nl (calls18 ?_)
    unfold m18
    refine boxA_of rfl fun S1 k1 n1 o1 => ?_
    rw [ldN_p (n := 5) o1 rfl]
    refine bsl1 rfl (fun _ h => by cases h) ?_
    refine callF_ans (ans29 s hs [p] (by simp)) ?_
    rw [hfit, un_not, onB_v]
    exact ⟨rfl, k1⟩
  | true =>
    rw [EGs, hfit]
    refine ACalls.ans_aL (f := fun b => .bool b) (calls18 ?_)
    unfold m18
    refine boxA_of rfl fun S1 k1 n1 o1 => ?_
    rw [ldN_p (n := 5) o1 rfl]
    refine bsl1 rfl (fun _ h => by cases h) ?_
    refine callF_ans (ans29 s hs [p] (by simp)) ?_
    rw [hfit, un_not, onB_v]
    rw [show (!true) = false from rfl, gd_false, ldN_p (n := 5) o1 rfl]
    exact callF_ans (ans32 (Fit.of hs hfit (by simp))) ⟨rfl, k1⟩
theorem ans16 {s : Sp} (hs : s.small) (p q : List Bool) : Ans Try.prog 16 [s.av, aL aB p, aL aB q] (aL aB (EUs s p q)) := by
  intro S
  cases hfit : fits s [p, q] with
  | false =>
    rw [EUs, hfit]
    refine ACalls.ans_nl (calls16 ?_)
    unfold m16
    refine boxA_of rfl fun S1 k1 n1 o1 => ?_
    rw [ldN_p (n := 5) o1 rfl]
    refine bsl2 rfl rfl ?_
    refine callF_ans (ans29 s hs [p, q] (by simp)) ?_
    rw [hfit, un_not, onB_v]
    exact ⟨rfl, k1⟩
  | true =>
    rw [EUs, hfit]
    refine ACalls.ans_aL (f := fun b => .bool b) (calls16 ?_)
    unfold m16
    refine boxA_of rfl fun S1 k1 n1 o1 => ?_
    rw [ldN_p (n := 5) o1 rfl]
    refine bsl2 rfl rfl ?_
    refine callF_ans (ans29 s hs [p, q] (by simp)) ?_
    rw [hfit, un_not, onB_v]
    rw [show (!true) = false from rfl, gd_false, ldN_p (n := 5) o1 rfl]
    exact callF_ans (own30 (Fit.of hs hfit (by simp)) (Fit.of hs hfit (by simp))).ans ⟨rfl, k1⟩
end Go.Proofs.Ythgkalkllfpjpaa.G

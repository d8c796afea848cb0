/- It is proved here that each of the laws of sets (SetsMade, SetsFix, SetsMore, SetsFair) returns true for every input and changes none of its arguments. There is no condition beyond the given statement. -/
import Derived.Test.YthgkalkllfpjpaaS10
import Derived.Test.YthgkalkllfpjpaaGS2
set_option linter.unusedVariables false
set_option linter.unusedSimpArgs false
namespace Go.Proofs.Ythgkalkllfpjpaa.G
open Go Go.Ab

theorem EXs_len {s : Sp} (hs : s.small) (p : List Bool) : (EXs s p).length < 1048576 := by
  cases h : fits s [p] with
  | false => simp [EXs, h]
  | true => have := (Fit.one hs h).len; have := hs.1; simp [EXs, h]; omega
theorem EGs_len {s : Sp} (hs : s.small) (p : List Bool) : (EGs s p).length < 1048576 := by
  cases h : fits s [p] with
  | false => simp [EGs, h]
  | true => have := (Fit.one hs h).len; have := hs.1; simp [EGs, h]; omega
theorem EUs_len {s : Sp} (hs : s.small) (p q : List Bool) : (EUs s p q).length < 1048576 := by
  cases h : fits s [p, q] with
  | false => simp [EUs, h]
  | true =>
    rw [fits_two, Bool.and_eq_true] at h
    have := (Fit.one hs h.2).len; have := hs.1; simp [EUs, fits_two, h]; omega
theorem ans20' {a : List Bool} (hl : a.length < 1048576) : Ans Try.prog 20 [aL aB a, aL aB a] (aB true) := by
  have := ans20 (a := a) (b := a) (by omega)
  simpa using this
theorem ans13 {s : Sp} (hs : s.small) (p q : List Bool) : Ans Try.prog 13 [s.av, aL aB p, aL aB q] (aB true) := by
  intro S
  refine ACalls.ans_v (calls13 ?_)
  unfold m13
  refine boxA_of rfl fun S1 k1 n1 o1 => ?_
  have hL : ∀ K : AV → Store → Prop, ldN 5 (.p S.n 0 0) S1 K = K s.av S1 := fun K => ldN_p (n := 5) o1 rfl
  refine ⟨s.av, by rw [hL]; exact ⟨rfl, rfl⟩, _, callF_ans (ans17 hs p) ⟨rfl, rfl⟩, s.av, by rw [hL]; exact ⟨rfl, rfl⟩, _, callF_ans (ans26 hs p) ⟨rfl, rfl⟩, _, callF_ans (ans20' (EXs_len hs p)) ⟨rfl, rfl⟩, ?_⟩
  rw [onB_v, gd_true]
  refine ⟨s.av, by rw [hL]; exact ⟨rfl, rfl⟩, _, callF_ans (ans16 hs p q) ⟨rfl, rfl⟩, s.av, by rw [hL]; exact ⟨rfl, rfl⟩, _, callF_ans (ans27 hs p q) ⟨rfl, rfl⟩, _, callF_ans (ans20' (EUs_len hs p q)) ⟨rfl, rfl⟩, _, ⟨rfl, rfl⟩, ?_⟩
  rw [onB_v, gd_true]
  exact ⟨s.av, by rw [hL]; exact ⟨rfl, rfl⟩, _, callF_ans (ans18 hs p) ⟨rfl, rfl⟩, s.av, by rw [hL]; exact ⟨rfl, rfl⟩, _, callF_ans (ans28 hs p) ⟨rfl, rfl⟩, _, callF_ans (ans20' (EGs_len hs p)) ⟨rfl, rfl⟩, _, ⟨rfl, rfl⟩, rfl, k1⟩

/-! ### awake -/
def s0 : Sp := { bits := 1, valid := [true, true], initial := [true, false], next := [[1], [0]], fair := [] }
theorem s0_small : s0.small := by
  refine ⟨by decide, by decide, by decide, fun x hx => ?_⟩
  have : x = [1] ∨ x = [0] := by simpa [s0] using hx
  rcases this with rfl | rfl <;> decide
theorem bit2 {p : List Bool} (hl : p.length = 2) {i : Nat} (h : bit p i = true) : i = 0 ∨ i = 1 := by
  have := bit_lt h
  omega
theorem fairs0 : fairL s0 = [[true, true]] := rfl
theorem fit0 (p : List Bool) (h : p.length = 2) : fits s0 [p] = true := by
  rw [fits_len (q := [true, true]) (by simpa using h)]
  decide
theorem reach1 : Reach s0 [true, true] (andP [true, true] [true, true]) 1 := .base 1 (by decide) (by decide)
theorem reach0 : Reach s0 [true, true] (andP [true, true] [true, true]) 0 := .base 0 (by decide) (by decide)
theorem eg1 : EGs s0 [true, true] = [true, true] := by
  rw [EGs, fit0 _ rfl]
  show egP s0 [true, true] = _
  refine (eg_of (s := s0) (p := [true, true]) (z := [true, true]) rfl (fun i h => ?_) (fun y hl h _ i hi => ?_) (fun f hf i h => ?_)).symm
  · rcases bit2 rfl h with rfl | rfl <;> decide
  · rcases bit2 hl hi with rfl | rfl <;> decide
  · rw [fairs0, List.mem_singleton] at hf
    subst hf
    rw [stepP, bit_and, h, Bool.true_and, bit_ex]
    refine ⟨by simpa using bit_lt h, ?_⟩
    rcases bit2 rfl h with rfl | rfl
    · exact ⟨by decide, 1, by decide, bit_eu.2 ⟨by decide, reach1⟩⟩
    · exact ⟨by decide, 0, by decide, bit_eu.2 ⟨by decide, reach0⟩⟩
theorem eg2 : EGs s0 [true, false] = [false, false] := by
  rw [EGs, fit0 _ rfl]
  show egP s0 [true, false] = _
  refine (eg_of (s := s0) (p := [true, false]) (z := [false, false]) rfl (fun i h => ?_) (fun y hl h hst i hi => ?_) (fun f hf i h => ?_)).symm
  · rcases bit2 rfl h with rfl | rfl <;> cases h
  · have h1 : bit y 1 = false := by
      cases hy : bit y 1 with
      | false => rfl
      | true => have := h 1 hy; revert this; decide
    have hi0 : i = 0 := by
      rcases bit2 hl hi with rfl | rfl
      · rfl
      · rw [h1] at hi; cases hi
    subst hi0
    have h2 := hst [true, true] (by rw [fairs0]; simp) 0 hi
    rw [stepP, bit_and, hi, Bool.true_and, bit_ex] at h2
    obtain ⟨_, _, k, hk, hb⟩ := h2
    have : k = 1 := by simpa [nx, s0] using hk
    subst this
    have hr := (bit_eu.1 hb).2
    cases hr with
    | base i h3 h4 =>
      rw [bit_and, Bool.and_eq_true] at h3
      have := h3.1
      simp only [Int.toNat_one] at this
      rw [h1] at this; cases this
    | step i k h3 h4 h5 h6 =>
      simp only [Int.toNat_one] at h3
      rw [h1] at h3; cases h3
  · rcases bit2 rfl h with rfl | rfl <;> cases h
theorem ex1 : EXs s0 [true, false] = [false, true] := by rw [EXs, fit0 _ rfl]; decide
theorem ex2 : EXs s0 [] = [] := by
  have : fits s0 [[]] = false := by decide
  rw [EXs, this]; rfl
theorem eu1 : EUs s0 [false, true] [true, false] = [true, true] := by
  rw [EUs, fits_two, fit0 _ rfl, fit0 _ rfl]
  have h0 : Reach s0 [false, true] [true, false] 0 := .base 0 (by decide) (by decide)
  have h1 : Reach s0 [false, true] [true, false] 1 := .step 1 0 (by decide) (by decide) (by decide) h0
  simp [euP, tab, List.range_succ, h0, h1]

theorem cv_two {S : Store} {n : Nat} {a b a' b' : AV} (h1 : Cv S n a a') (h2 : Cv S n b b') : ∀ (k : Nat) (u u2 : AV), [a, b][k]? = some u → [a', b'][k]? = some u2 → Cv S n u u2
  | 0, _, _, hu, hv => by cases hu; cases hv; exact h1
  | 1, _, _, hu, hv => by cases hu; cases hv; exact h2
  | k + 2, _, _, hu, _ => by simp at hu
theorem cv_three {S : Store} {n : Nat} {a b c a' b' c' : AV} (h1 : Cv S n a a') (h2 : Cv S n b b') (h3 : Cv S n c c') : ∀ (k : Nat) (u u2 : AV), [a, b, c][k]? = some u → [a', b', c'][k]? = some u2 → Cv S n u u2
  | 0, _, _, hu, hv => by cases hu; cases hv; exact h1
  | 1, _, _, hu, hv => by cases hu; cases hv; exact h2
  | 2, _, _, hu, hv => by cases hu; cases hv; exact h3
  | k + 3, _, _, hu, _ => by simp at hu
theorem cvB {S : Store} {n : Nat} (l : List Bool) : Cv S n (aL aB l) (aL aB l) := cv_aL (f := fun b => .bool b) l
def s0c : List AV := [aI 1, aL aB [true, true], aL aB [true, false], aL (aL aI) [[1], [0]], .nl]
theorem cvS0 {S : Store} {n : Nat} : Cv S n (.a s0c) s0.av := by
  refine .a _ _ rfl fun k u u2 hu hv => ?_
  match k, hu, hv with
  | 0, hu, hv => cases hu; cases hv; exact .v _
  | 1, hu, hv => cases hu; cases hv; exact cvB _
  | 2, hu, hv => cases hu; cases hv; exact cvB _
  | 3, hu, hv => cases hu; cases hv; exact cv_g _ fun a _ => cv_g _ fun b _ => .v _
  | 4, hu, hv => cases hu; cases hv; exact .nl
  | k + 5, hu, _ => simp [s0c] at hu
theorem callF_cv {P : Program} {f : FuncId} {args args2 : List AV} {r : AV} (h : Ans P f args2 r) {S : Store} (hl : args.length = args2.length) (hcv : ∀ (k : Nat) (u u2 : AV), args[k]? = some u → args2[k]? = some u2 → Cv S S.n u u2) {Q : AEnd → Store → Prop} {K : AV → Store → Prop} (k : K r S) : callF P f args S Q K :=
  .inl (ACalls.conv hl hcv (ACalls.mono (h S) fun e S' h => by obtain ⟨rfl, rfl⟩ := h; exact k))
theorem ans12 : Ans Try.prog 12 [] (aB true) := by
  intro S
  refine ACalls.ans_v (calls12 ?_)
  unfold m12
  refine bsl2 rfl rfl (bsl2 rfl rfl (bsl1 rfl (fun _ h => by cases h) (bsl1 rfl (fun _ h => by cases h) (bsl2 rfl rfl ?_))))
  refine ⟨s0c, rfl, ?_⟩
  refine boxA_of rfl fun S1 k1 n1 o1 => ?_
  refine stA_of o1 rfl rfl fun S2 n2 o2 f2 => ?_
  have k2 : Keep S S2 := k1.st (Nat.le_refl _) n2 f2
  have hL : ∀ K : AV → Store → Prop, ldN 5 (.p S.n 0 0) S2 K = K (.a s0c) S2 := fun K => ldN_p (n := 5) o2 rfl
  have hv : ∀ {a b : Bool} {K : AV → Store → Prop} {S : Store}, K (aL aB [a, b]) S → bslN 4 1 2 [(.v (.bool false))] [(0, .v (.bool a)), (1, .v (.bool b))] S K := fun k => bsl2 rfl rfl k
  have c18a := ans18 s0_small [true, true]
  have c18b := ans18 s0_small [true, false]
  have c17a := ans17 s0_small [true, false]
  have c17b := ans17 s0_small []
  have c16 := ans16 s0_small [false, true] [true, false]
  rw [eg1] at c18a
  rw [eg2] at c18b
  rw [ex1] at c17a
  rw [ex2] at c17b
  rw [eu1] at c16
  refine ⟨AV.a s0c, by rw [hL]; exact ⟨rfl, rfl⟩, _, hv ⟨rfl, rfl⟩, _, callF_cv (args := [.a s0c, aL aB [true, true]]) c18a rfl (cv_two cvS0 (cvB _)) ⟨rfl, rfl⟩, AV.a s0c, by rw [hL]; exact ⟨rfl, rfl⟩, _, hv ⟨rfl, rfl⟩, _, callF_cv (args := [.a s0c, aL aB [true, false]]) c18b rfl (cv_two cvS0 (cvB _)) ⟨rfl, rfl⟩, ?_⟩
  refine ⟨AV.a s0c, by rw [hL]; exact ⟨rfl, rfl⟩, _, hv ⟨rfl, rfl⟩, _, callF_cv (args := [.a s0c, aL aB [true, false]]) c17a rfl (cv_two cvS0 (cvB _)) ⟨rfl, rfl⟩, AV.a s0c, by rw [hL]; exact ⟨rfl, rfl⟩, _, hv ⟨rfl, rfl⟩, _, hv ⟨rfl, rfl⟩, _, callF_cv (args := [.a s0c, aL aB [false, true], aL aB [true, false]]) c16 rfl (cv_three cvS0 (cvB _) (cvB _)) ⟨rfl, rfl⟩, ?_⟩
  refine hv (callF_ans (ans20' (by decide)) ?_)
  rw [onB_v, gd_true]
  refine hv (callF_ans (ans20' (by decide)) ?_)
  rw [onB_v, gd_true]
  refine hv (callF_ans (ans20' (by decide)) ?_)
  rw [onB_v, gd_true]
  refine hv (callF_ans (ans20' (by decide)) ?_)
  rw [onB_v, gd_true, hL]
  refine callF_cv (args := [.a s0c, .nl]) c17b rfl (cv_two cvS0 .nl) ?_
  rw [lenS_aL, bin_eql]
  exact ⟨rfl, k2⟩
theorem ans3 (s : Sp) (p q : List Bool) : Ans Try.prog 3 [s.av, aL aB p, aL aB q] (aB true) := by
  intro S
  refine ACalls.ans_v (calls3 ?_)
  unfold m3
  refine boxA_of rfl fun S1 k1 n1 o1 => ?_
  rw [shift_p, ld1_p o1 rfl rfl, lenS_aL, bin_gtr, onB_v]
  refine gd_of (fun h => callF_ans ans12 ⟨rfl, k1⟩) (fun h => ?_)
  have h1 : s.valid.length ≤ 20 := by simp at h; omega
  rw [shift_p, ld1_p o1 rfl rfl, lenS_aL, bin_gtr, onB_v]
  refine gd_of (fun h => callF_ans ans12 ⟨rfl, k1⟩) (fun h => ?_)
  have h2 : s.next.length ≤ 20 := by simp at h; omega
  rw [shift_p, ld1_p o1 rfl rfl, lenS_aL, bin_gtr, onB_v]
  refine gd_of (fun h => callF_ans ans12 ⟨rfl, k1⟩) (fun h => ?_)
  have h3 : s.fair.length ≤ 5 := by simp at h; omega
  refine loop3_0 (fun y T => T = S1 ∧ ∃ i : Nat, y = aI i ∧ i ≤ s.next.length ∧ ∀ k (hk : k < s.next.length), k < i → s.next[k].length ≤ 40) (fun y _ => s.next.length - ((intA y).getD 0).toNat) ⟨rfl, 0, rfl, Nat.zero_le _, fun k _ h => absurd h (Nat.not_lt_zero _)⟩ ?_
  rintro _ S1 ⟨rfl, i, rfl, hi, hk⟩ KE hKE
  unfold b3_0
  rw [shift_p, ld1_p o1 rfl rfl, lenS_aL, bin_lss, onB_v]
  refine gd_of (fun h => ?_) (fun h => ?_)
  · have hlt : i < s.next.length := by simpa using h
    rw [shift_p, ld1_p o1 rfl rfl, ixS_aL hlt, ld1_q, lenS_aL, bin_gtr, onB_v]
    refine gd_of (fun h => callF_ans ans12 ⟨rfl, k1⟩) (fun h => ?_)
    rw [bin_add (by omega) (by omega)]
    refine hKE _ _ ⟨rfl, i + 1, rfl, hlt, fun k hk1 hk2 => ?_⟩ (by simp [intA]; omega)
    by_cases e : k = i
    · subst e; simp at h; omega
    · exact hk k hk1 (by omega)
  · have hge : i = s.next.length := by simp at h; omega
    subst hge
    refine callF_ans ans12 ?_
    rw [onB_v, gd_true, ldN_p (n := 5) o1 rfl]
    have hs : s.small := ⟨by omega, by omega, by omega, fun x hx => by
      obtain ⟨k, hk1, rfl⟩ := List.mem_iff_getElem.1 hx
      have := hk k hk1 hk1
      omega⟩
    exact callF_ans (ans13 hs p q) ⟨rfl, k1⟩
end Go.Proofs.Ythgkalkllfpjpaa.G

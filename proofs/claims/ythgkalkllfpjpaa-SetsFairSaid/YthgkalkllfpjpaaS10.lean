/- It is proved here that each of the laws of sets (SetsMade, SetsFix, SetsMore, SetsFair) returns true for every input and changes none of its arguments. There is no condition beyond the given statement. -/
import Derived.Test.YthgkalkllfpjpaaS9
set_option linter.unusedVariables false
set_option linter.unusedSimpArgs false
namespace Go.Proofs.Ythgkalkllfpjpaa.G
open Go Go.Ab

theorem cnt_le : ∀ l : List Bool, cnt l ≤ l.length := fun l => List.length_filter_le _ _
theorem cnt_full : ∀ l : List Bool, cnt l = l.length → ∀ i, i < l.length → bit l i = true
  | [], _, i, h => absurd h (Nat.not_lt_zero _)
  | x :: l, hc, i, h => by
    have h1 := cnt_le l
    cases x with
    | false =>
      have : cnt (false :: l) = cnt l := rfl
      rw [this] at hc
      simp at hc
      omega
    | true =>
      have e : cnt (true :: l) = cnt l + 1 := rfl
      rw [e] at hc
      have hc' : cnt l = l.length := by simpa using hc
      cases i with
      | zero => rfl
      | succ i =>
        have := cnt_full l hc' i (by simpa using h)
        simpa [bit] using this
/-- One round of the reference. -/
def rnd (s : Sp) (p out : List Bool) : List Bool := orP out (andP (andP p s.valid) (exP s out))
theorem rnd_len (s : Sp) (p out : List Bool) : (rnd s p out).length = out.length := by simp [rnd]
theorem rnd_up {s : Sp} {p out : List Bool} (hl : out.length = p.length) : Sub out (rnd s p out) := fun i h => by
  rw [rnd, bit_or (by simp [hl]), h]; rfl
theorem rnd_in {s : Sp} {p q out : List Bool} (hf : Fit s p) (hl : out.length = p.length) (hq : q.length = p.length) (h : Sub out (euP s p q)) : Sub (rnd s p out) (euP s p q) := fun i hi => by
  rw [rnd, bit_or (by simp [hl]), Bool.or_eq_true] at hi
  rcases hi with hi | hi
  · exact h i hi
  · rw [bit_and, bit_and, Bool.and_eq_true, Bool.and_eq_true, bit_ex] at hi
    obtain ⟨⟨h1, h2⟩, h3, _, k, hk, hbk⟩ := hi
    have hkn := hf.behind i k hk
    obtain ⟨c, rfl⟩ := Int.eq_ofNat_of_zero_le hkn.1
    have hr := (bit_eu.1 (h _ hbk)).2
    exact bit_eu.2 ⟨by omega, .step i c h1 h2 hk hr⟩
theorem rnd_fix {s : Sp} {p q out : List Bool} (hl : out.length = p.length) (hq : q.length = p.length) (hv : s.valid.length = p.length) (h0 : Sub (andP q s.valid) out) (h : Sub (rnd s p out) out) : Sub (euP s p q) out := fun i hi => by
  have hr := (bit_eu.1 hi).2
  clear hi
  induction hr with
  | base i h1 h2 => exact h0 i (by rw [bit_and, h1, h2]; rfl)
  | step i k h1 h2 h3 hr ih =>
    refine h i ?_
    rw [rnd, bit_or (by simp [hl]), bit_and, bit_and, h1, h2, Bool.or_eq_true]
    refine .inr ?_
    have := bit_lt h1
    rw [Bool.true_and, Bool.true_and, bit_ex]
    exact ⟨by omega, h2, k, h3, by simpa using ih⟩

theorem ans27 {s : Sp} (hs : s.small) (p q : List Bool) : Ans Try.prog 27 [s.av, aL aB p, aL aB q] (aL aB (EUs s p q)) := by
  intro S
  cases hfit : fits s [p] with
  | false =>
    rw [EUs, fits_two, hfit]
    refine ACalls.ans_nl (calls27 ?_)
    unfold m27
    refine boxA_of rfl fun S1 k1 n1 o1 => ?_
    rw [ldN_p (n := 5) o1 rfl]
    refine callF_ans (at51 hs p) ?_
    rw [hfit, un_not, onB_v]
    exact ⟨rfl, k1⟩
  | true =>
  cases hfiq : fits s [q] with
  | false =>
    rw [EUs, fits_two, hfit, hfiq]
    refine ACalls.ans_nl (calls27 ?_)
    unfold m27
    refine boxA_of rfl fun S1 k1 n1 o1 => ?_
    rw [ldN_p (n := 5) o1 rfl]
    refine callF_ans (at51 hs p) ?_
    rw [hfit, un_not, onB_v, show (!true) = false from rfl, gd_false, ldN_p (n := 5) o1 rfl]
    refine callF_ans (at51 hs q) ?_
    rw [hfiq, un_not, onB_v]
    exact ⟨rfl, k1⟩
  | true =>
    rw [EUs, fits_two, hfit, hfiq]
    have hfp := Fit.one hs hfit
    have hfq := Fit.one hs hfiq
    have hpl := hfp.len
    have hql := hfq.len
    have hvl := hs.1
    refine ACalls.ans_aL (f := fun b => .bool b) (calls27 ?_)
    show m27 _ _ _ S (fun r S' => r = .ret (aL aB (euP s p q)) ∧ Keep S S')
    unfold m27
    refine boxA_of rfl fun S1 k1 n1 o1 => ?_
    rw [ldN_p (n := 5) o1 rfl]
    refine callF_ans (at51 hs p) ?_
    rw [hfit, un_not, onB_v, show (!true) = false from rfl, gd_false, ldN_p (n := 5) o1 rfl]
    refine callF_ans (at51 hs q) ?_
    rw [hfiq, un_not, onB_v, show (!true) = false from rfl, gd_false, shift_p, ld1_p o1 rfl rfl]
    refine callF_ans (ans19 (by omega) (by omega)) ?_
    refine loop27_0 (fun y x T => T = S1 ∧ ∃ (out : List Bool) (i : Nat), y = aL aB out ∧ x = aI i ∧ i ≤ p.length ∧ out.length = p.length ∧ Sub (andP q s.valid) out ∧ Sub out (euP s p q) ∧ i ≤ cnt out)
      (fun _ x _ => p.length - ((intA x).getD 0).toNat) ⟨rfl, _, 0, rfl, rfl, Nat.zero_le _, by simp; omega, Sub.refl _, fun i h => ?_, Nat.zero_le _⟩ ?_
    · rw [bit_and, Bool.and_eq_true] at h
      exact bit_eu.2 ⟨bit_lt h.1, .base i h.1 h.2⟩
    rintro _ _ S1 ⟨rfl, out, i, rfl, rfl, hi, hol, h0, hin, hc⟩ KE hKE
    unfold b27_0
    rw [lenS_aL, bin_lss, onB_v]
    refine gd_of (fun h => ?_) (fun h => ?_)
    · have hlt : i < p.length := by simpa using h
      have hfo : fits s [out] = true := by rw [fits_len hol]; exact hfit
      have e26 : EXs s out = exP s out := by rw [EXs, hfo]; rfl
      refine ⟨_, by rw [shift_p]; exact ⟨rfl, rfl⟩, _, by rw [ld1_p o1 rfl rfl]; exact ⟨rfl, rfl⟩, _, callF_ans (ans19 (by omega) (by omega)) ⟨rfl, rfl⟩, s.av, by rw [ldN_p (n := 5) o1 rfl]; exact ⟨rfl, rfl⟩, _, callF_ans (ans26 hs out) ⟨rfl, rfl⟩, _,
        by rw [e26]; exact callF_ans (ans19 (by simp; omega) (by simp; omega)) ⟨rfl, rfl⟩, _, callF_ans (ans52 (by omega) (by simp; omega)) ⟨rfl, rfl⟩, ?_⟩
      show callF _ _ [aL aB (rnd s p out), aL aB out] _ _ _
      have hrl := rnd_len s p out
      refine callF_ans (ans20 (by omega)) ?_
      rw [onB_v]
      refine gd_of (fun h => ⟨?_, k1⟩) (fun h => ?_)
      · have he : rnd s p out = out := by simpa using h
        rw [Sub.anti (by simp; omega) hin (rnd_fix (q := q) hol (by omega) (by omega) h0 (by rw [he]; exact Sub.refl _))]
      · have he : ¬ rnd s p out = out := by simpa using h
        rw [bin_add (by omega) (by omega)]
        have hcs := cnt_sub (a := out) (b := rnd s p out) (by omega) (rnd_up hol)
        refine hKE _ _ _ ⟨rfl, rnd s p out, i + 1, rfl, rfl, hlt, by omega, h0.trans (rnd_up hol), rnd_in hfp hol (by omega) hin, ?_⟩ (by simp [intA]; omega)
        have : cnt out ≠ cnt (rnd s p out) := fun e => he (hcs.2 e).symm
        omega
    · have hge : i = p.length := by simp at h; omega
      subst hge
      refine ⟨?_, k1⟩
      have hcl := cnt_le out
      rw [Sub.anti (by simp; omega) hin (fun i hi => cnt_full out (by omega) i (by have := bit_lt hi; simp at this; omega))]

/-- One round of the reference's EG: the first k of the fair sets. -/
noncomputable def rndG (s : Sp) (z : List Bool) : Nat → List Bool
  | 0 => z
  | k + 1 => andP (rndG s z k) (exP s (euP s z (andP z ((fairL s).getD k []))))
theorem rndG_len (s : Sp) (z : List Bool) : ∀ k, (rndG s z k).length = z.length
  | 0 => rfl
  | k + 1 => by simp [rndG, rndG_len s z k]
theorem rndG_sub (s : Sp) (z : List Bool) : ∀ k, Sub (rndG s z k) z
  | 0 => Sub.refl z
  | k + 1 => fun i h => by
    rw [rndG, bit_and, Bool.and_eq_true] at h
    exact rndG_sub s z k i h.1
theorem rndG_step (s : Sp) (z : List Bool) : ∀ k, ∀ j, j < k → Sub (rndG s z k) (stepP s z ((fairL s).getD j []))
  | 0, j, h => absurd h (Nat.not_lt_zero _)
  | k + 1, j, h => fun i hi => by
    have hz := rndG_sub s z (k + 1) i hi
    rw [rndG, bit_and, Bool.and_eq_true] at hi
    by_cases e : j = k
    · subst e
      rw [stepP, bit_and, hz, hi.2]; rfl
    · exact rndG_step s z k j (by omega) i hi.1
theorem rndG_above {s : Sp} {p z : List Bool} (h : Above s p z) (hl : z.length = p.length) : ∀ k, k ≤ (fairL s).length → Above s p (rndG s z k)
  | 0, _ => h
  | k + 1, hk => fun y h1 h2 h3 i hi => by
    have h4 := rndG_above h hl k (by omega) y h1 h2 h3 i hi
    have hm : (fairL s).getD k [] ∈ fairL s := by
      rw [List.getD_eq_getElem?_getD, List.getElem?_eq_getElem (by omega)]
      exact List.getElem_mem _
    have h5 := stepP_mono (f := (fairL s).getD k []) (h y h1 h2 h3) (by omega : y.length ≤ z.length) i (h3 _ hm i hi)
    rw [stepP, bit_and, Bool.and_eq_true] at h5
    rw [rndG, bit_and, h4, h5.2]; rfl

theorem ans28 {s : Sp} (hs : s.small) (p : List Bool) : Ans Try.prog 28 [s.av, aL aB p] (aL aB (EGs s p)) := by
  intro S
  cases hfit : fits s [p] with
  | false =>
    rw [EGs, hfit]
    refine ACalls.ans_nl (calls28 ?_)
    unfold m28
    refine boxA_of rfl fun S1 k1 n1 o1 => ?_
    rw [ldN_p (n := 5) o1 rfl]
    refine callF_ans (at51 hs p) ?_
    rw [hfit, un_not, onB_v]
    exact ⟨rfl, k1⟩
  | true =>
    rw [EGs, hfit]
    have hf := Fit.one hs hfit
    have hpl := hf.len
    have hvl := hs.1
    have hfll := fairL_len hs
    refine ACalls.ans_aL (f := fun b => .bool b) (calls28 ?_)
    show m28 _ _ S (fun r S' => r = .ret (aL aB (egP s p)) ∧ Keep S S')
    unfold m28
    refine boxA_of rfl fun S1 k1 n1 o1 => ?_
    rw [ldN_p (n := 5) o1 rfl]
    refine callF_ans (at51 hs p) ?_
    rw [hfit, un_not, onB_v, show (!true) = false from rfl, gd_false, shift_p, ld1_p o1 rfl rfl]
    refine callF_ans (ans19 (by omega) (by omega)) ?_
    refine loop28_0 (fun y x T => Keep S1 T ∧ ∃ (z : List Bool) (r : Nat), y = aL aB z ∧ x = aI r ∧ r ≤ p.length + 1 ∧ z.length = p.length ∧ Sub z (andP p s.valid) ∧ Above s p z ∧ cnt z + r ≤ p.length)
      (fun _ x _ => p.length + 1 - ((intA x).getD 0).toNat) ⟨Keep.refl _, _, 0, rfl, rfl, Nat.zero_le _, by simp, Sub.refl _, fun y _ h _ => h, by have := cnt_le (andP p s.valid); simp at this; omega⟩ ?_
    rintro _ _ S2 ⟨k2, z, r, rfl, rfl, hr, hzl, hzs, hza, hc⟩ KE hKE
    have q2 := (k2.2 S.n (by omega)).trans o1
    unfold b28_0
    rw [lenS_aL, bin_leq, onB_v]
    refine gd_of (fun h => ?_) (fun h => ?_)
    · have hlt : r < p.length + 1 := by simp at h; omega
      rw [ldN_p (n := 5) q2 rfl]
      refine .inl (ACalls.mono (ans53 s S2) ?_)
      rintro _ S3 ⟨rfl, k3⟩
      have q3 := (k3.2 S.n (by have := k2.1; omega)).trans q2
      show loopV _ _ _ _ _ _
      refine loop28_1 (fun y x T => T = S3 ∧ ∃ k : Nat, y = aL aB (rndG s z k) ∧ x = aI k ∧ k ≤ (fairL s).length) (fun _ x _ => (fairL s).length - ((intA x).getD 0).toNat) ⟨rfl, 0, rfl, rfl, Nat.zero_le _⟩ ?_
      rintro _ _ S3 ⟨rfl, k, rfl, rfl, hk⟩ KE1 hKE1
      unfold b28_1
      rw [lenS_aL, bin_lss, onB_v]
      refine gd_of (fun h => ?_) (fun h => ?_)
      · have hkl : k < (fairL s).length := by simpa using h
        have hfe : (fairL s).getD k [] = (fairL s)[k] := by simp [List.getD_eq_getElem?_getD, hkl]
        have hfle := mem_fairL hf (List.getElem_mem hkl)
        have hrl := rndG_len s z k
        have e1 : EUs s z (andP z (fairL s)[k]) = euP s z (andP z (fairL s)[k]) := by
          rw [EUs, fits_two, (hf.with (by omega) : Fit s z).fits, (hf.with (by simp; omega) : Fit s (andP z (fairL s)[k])).fits]; rfl
        have e2 : EXs s (euP s z (andP z (fairL s)[k])) = exP s (euP s z (andP z (fairL s)[k])) := by
          rw [EXs, (hf.with (by simp; omega) : Fit s (euP s z (andP z (fairL s)[k]))).fits]; rfl
        refine ⟨s.av, by rw [ldN_p (n := 5) q3 rfl]; exact ⟨rfl, rfl⟩, s.av, by rw [ldN_p (n := 5) q3 rfl]; exact ⟨rfl, rfl⟩, _, by rw [ixS_aL hkl]; exact ⟨rfl, rfl⟩, _, by rw [ld1_q]; exact ⟨rfl, rfl⟩, _, callF_ans (ans19 (by omega) (by omega)) ⟨rfl, rfl⟩, _,
          callF_ans (ans27 hs z _) ⟨rfl, rfl⟩, _, callF_ans (ans26 hs _) ⟨rfl, rfl⟩, _, by rw [e1, e2]; exact callF_ans (ans19 (by omega) (by simp; omega)) ⟨rfl, rfl⟩, ?_⟩
        rw [bin_add (by omega) (by omega)]
        exact hKE1 _ _ _ ⟨rfl, k + 1, by rw [rndG, hfe], rfl, hkl⟩ (by simp [intA]; omega)
      · have hge : k = (fairL s).length := by simp at h; omega
        subst hge
        have hrl := rndG_len s z (fairL s).length
        refine callF_ans (ans20 (by omega)) ?_
        rw [onB_v]
        refine gd_of (fun h => ⟨?_, (k1.trans k2).trans k3⟩) (fun h => ?_)
        · have he : rndG s z (fairL s).length = z := by simpa using h
          rw [← eg_of hzl hzs hza (fun f hfm => ?_)]
          obtain ⟨j, hj, rfl⟩ := List.mem_iff_getElem.1 hfm
          have := rndG_step s z (fairL s).length j hj
          rw [he] at this
          simpa [List.getD_eq_getElem?_getD, hj] using this
        · have he : ¬ rndG s z (fairL s).length = z := by simpa using h
          rw [bin_add (by omega) (by omega)]
          have hcs := cnt_sub (a := rndG s z (fairL s).length) (b := z) (by omega) (rndG_sub s z _)
          have hne : cnt (rndG s z (fairL s).length) ≠ cnt z := fun e => he (hcs.2 e)
          refine hKE _ _ _ ⟨k2.trans k3, _, r + 1, rfl, rfl, hlt, by omega, (rndG_sub s z _).trans hzs, rndG_above hza hzl _ (Nat.le_refl _), by omega⟩ (by simp [intA]; omega)
    · have hge : p.length < r := by simp at h; omega
      omega
end Go.Proofs.Ythgkalkllfpjpaa.G

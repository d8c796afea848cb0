/- It is proved here that each of the laws of sets (SetsMade, SetsFix, SetsMore, SetsFair) returns true for every input and changes none of its arguments. There is no condition beyond the given statement. -/
import Derived.Test.YthgkalkllfpjpaaS8
set_option linter.unusedVariables false
set_option linter.unusedSimpArgs false
namespace Go.Proofs.Ythgkalkllfpjpaa.G
open Go Go.Ab

theorem fits_len {s : Sp} {p q : List Bool} (h : p.length = q.length) : fits s [p] = fits s [q] := by rw [fits_one, fits_one, h]
theorem fits_two (s : Sp) (p q : List Bool) : fits s [p, q] = (fits s [p] && fits s [q]) := by
  rw [fits_one, fits_one]
  simp only [fits, List.all_cons, List.all_nil, Bool.and_true]
  cases decide (p.length = s.valid.length) <;> cases decide (q.length = s.valid.length) <;> cases decide (s.next.length = s.valid.length) <;> cases s.fair.all (fun p => decide (p.length = s.valid.length)) <;> simp
theorem Fit.one {s : Sp} (hs : s.small) {p : List Bool} (h : fits s [p] = true) : Fit s p := Fit.of hs h (by simp)
theorem Fit.fits {s : Sp} {p : List Bool} (hf : Fit s p) : fits s [p] = true := by
  rw [fits_one]
  have h1 : s.fair.all (fun p => decide (p.length = s.valid.length)) = true := List.all_eq_true.2 fun f hm => by simpa using hf.fair f hm
  have h2 : s.next.all (fun x => x.all fun i => decide (0 ≤ i) && decide (i < s.valid.length)) = true := all_at fun k hk => List.all_eq_true.2 fun x hx => by
    have := hf.behind k x (by rw [nx_get hk]; exact hx)
    simp [this.1, this.2]
  rw [h1, h2]
  simp [hf.len, hf.next]

theorem ans53 (s : Sp) : ∀ S, ACalls Try.prog 53 [s.av] S (fun r S' => r = .ret (aL (aL aB) (fairL s)) ∧ Keep S S') := by
  intro S
  refine calls53 ?_
  unfold m53
  refine boxA_of rfl fun S1 k1 n1 o1 => ?_
  rw [shift_p, ld1_p o1 rfl rfl, lenS_aL, bin_eql, onB_v]
  refine gd_of (fun h => ?_) (fun h => ?_)
  · have he : s.fair = [] := List.eq_nil_of_length_eq_zero (by simpa using h)
    rw [shift_p, ld1_p o1 rfl rfl]
    refine bsl1 rfl (fun _ h => by cases h) ⟨?_, k1⟩
    simp [fairL, he, aL]
  · have he : s.fair.isEmpty = false := by
      cases hq : s.fair with
      | nil => rw [hq] at h; simp at h
      | cons x l => rfl
    rw [shift_p, ld1_p o1 rfl rfl]
    exact ⟨by simp [fairL, he], k1⟩

theorem ans26 {s : Sp} (hs : s.small) (p : List Bool) : Ans Try.prog 26 [s.av, aL aB p] (aL aB (EXs s p)) := by
  intro S
  cases hfit : fits s [p] with
  | false =>
    rw [EXs, hfit]
    refine ACalls.ans_nl (calls26 ?_)
    unfold m26
    refine boxA_of rfl fun S1 k1 n1 o1 => ?_
    rw [ldN_p (n := 5) o1 rfl]
    refine callF_ans (at51 hs p) ?_
    rw [hfit, un_not, onB_v]
    exact ⟨rfl, k1⟩
  | true =>
    rw [EXs, hfit]
    have hf := Fit.one hs hfit
    have hpl := hf.len
    have hnl := hf.next
    have hvl := hs.1
    refine ACalls.ans_own (f := fun b => .bool b) (e := 4) (fun S' => calls26 ?_) S
    unfold m26
    refine boxA_of rfl fun S1 k1 n1 o1 => ?_
    rw [ldN_p (n := 5) o1 rfl]
    refine callF_ans (at51 hs p) ?_
    rw [hfit, un_not, onB_v, show (!true) = false from rfl, gd_false]
    refine loop26_0 (fun y x T => Keep S' T ∧ S1.n ≤ T.n ∧ T.obj S'.n = some (.cells 26 [s.cells] true) ∧ ∃ i : Nat, x = aI i ∧ i ≤ p.length ∧ Own S1.n T y 4 ((tab i fun i => bit s.valid i && (nx s i).any fun k => bit p k.toNat).map fun b => [aB b]))
      (fun _ x _ => p.length - ((intA x).getD 0).toNat) ⟨k1, Nat.le_refl _, o1, 0, rfl, Nat.zero_le _, .nl _ _ _⟩ ?_
    rintro y _ S2 ⟨k2, hS2, q2, i, rfl, hi, w2⟩ KE hKE
    unfold b26_0
    rw [lenS_aL, bin_lss, onB_v]
    refine gd_of (fun h => ?_) (fun h => ?_)
    · have hlt : i < p.length := by simpa using h
      have hin : i < s.next.length := by omega
      have hiv : i < s.valid.length := by omega
      have hrl := hs.2.2.2 _ (List.getElem_mem hin)
      refine loop26_1 (fun y x T => T = S2 ∧ ∃ (b : Bool) (j : Nat), y = aB b ∧ x = aI j ∧ j ≤ s.next[i].length ∧ b = (s.next[i].take j).any fun k => bit p k.toNat) (fun _ x _ => s.next[i].length - ((intA x).getD 0).toNat) ⟨rfl, false, 0, rfl, rfl, Nat.zero_le _, rfl⟩ ?_
      rintro _ _ S2 ⟨rfl, b, j, rfl, rfl, hj, hb⟩ KE1 hKE1
      unfold b26_1
      rw [shift_p, ld1_p q2 rfl rfl, ixS_aL hin, ld1_q, lenS_aL, bin_lss, onB_v]
      refine gd_of (fun h => ?_) (fun h => ?_)
      · have hjl : j < s.next[i].length := by simpa using h
        have hadd : ∀ K : AV → Store → Prop, ∀ S, bin .add 0 (.v (.int .i64 (j : Int))) (.v (.int .i64 1)) S K = K (aI (j + 1 : Nat)) S := fun K S => bin_add (by omega) (by omega) 0
        have hμ : s.next[i].length - ((intA (aI (j + 1 : Nat))).getD 0).toNat < s.next[i].length - ((intA (aI j)).getD 0).toNat := by simp [intA]; omega
        have htk : (s.next[i].take (j + 1)).any (fun k => bit p k.toNat) = (b || bit p (s.next[i][j]).toNat) := by
          rw [List.take_add_one, List.getElem?_eq_getElem hjl, List.any_append, ← hb]
          simp
        rw [onB_v]
        refine gd_of (fun hb1 => ?_) (fun hb1 => ?_)
        · rw [hadd]
          exact hKE1 _ _ _ ⟨rfl, true, j + 1, rfl, rfl, hjl, by rw [htk, hb1]; rfl⟩ hμ
        · have hk := hf.behind i s.next[i][j] (by rw [nx_get hin]; exact List.getElem_mem hjl)
          obtain ⟨k, hk'⟩ := Int.eq_ofNat_of_zero_le hk.1
          have hkp : k < p.length := by rw [hk'] at hk; omega
          rw [shift_p, ld1_p q2 rfl rfl, ixS_aL hin, ld1_q, ixS_aL hjl, ld1_q]
          simp only [hk']
          rw [ixS_aL hkp, ld1_q, hadd]
          exact hKE1 _ _ _ ⟨rfl, p[k], j + 1, rfl, rfl, hjl, by rw [htk, hb1, hk', Int.toNat_natCast, bit_get hkp]; rfl⟩ hμ
      · have hge : j = s.next[i].length := by simp at h; omega
        subst hge
        rw [List.take_length] at hb
        have step : ∀ c : Bool, c = (bit s.valid i && (nx s i).any fun k => bit p k.toNat) → appS 4 1 1 y (.l [[aB c]]) S2 fun v10 S => bin .add 0 (.v (.int .i64 (i : Int))) (.v (.int .i64 1)) S fun v11 S => KE 55 (env26_0 (aL aB p) (.p S'.n 0 0) v10 v11) S := by
          intro c hc
          refine w2.app (b := 1) (c := [aB c]) (y := .l [[aB c]]) hS2 rfl (by simp; omega) (fun x' S5 ho5 hb5 hx5 => ?_) rfl
          rw [bin_add (by omega) (by omega)]
          refine hKE _ _ _ ⟨w2.keep (by omega) hb5 k2, Nat.le_trans hS2 hb5.1, ?_, i + 1, rfl, hlt, ?_⟩ (by simp [intA]; omega)
          · rw [hb5.2 S'.n (by omega) (fun b m e => by have := w2.lt e; omega)]
            exact q2
          · rw [tab_succ, List.map_append, ← hc]
            exact ho5
        rw [onB_v]
        refine gd_of (fun hb1 => ?_) (fun hb1 => ?_)
        · rw [shift_p, ld1_p q2 rfl rfl, ixS_aL hiv, ld1_q]
          refine bsl1 rfl (fun _ h => by cases h) (step _ ?_)
          rw [bit_get hiv, nx_get hin, ← hb, hb1]; simp
        · refine bsl1 rfl (fun _ h => by cases h) (step false ?_)
          rw [nx_get hin, ← hb, hb1]; simp
    · have hge : i = p.length := by simp at h; omega
      subst hge
      exact ⟨_, rfl, k2, w2.low (by omega)⟩
end Go.Proofs.Ythgkalkllfpjpaa.G

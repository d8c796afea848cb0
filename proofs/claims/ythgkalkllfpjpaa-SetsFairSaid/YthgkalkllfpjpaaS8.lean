/- It is proved here that each of the laws of sets (SetsMade, SetsFix, SetsMore, SetsFair) returns true for every input and changes none of its arguments. There is no condition beyond the given statement. -/
import Derived.Test.YthgkalkllfpjpaaS7
set_option linter.unusedVariables false
set_option linter.unusedSimpArgs false
namespace Go.Proofs.Ythgkalkllfpjpaa.G
open Go Go.Ab

theorem tab_succ {α : Type} (n : Nat) (f : Nat → α) : tab (n + 1) f = tab n f ++ [f n] := by simp [tab, List.range_succ]
def orP (a b : List Bool) : List Bool := tab a.length fun i => bit a i || bit b i
@[simp] theorem orP_len (a b : List Bool) : (orP a b).length = a.length := by simp [orP]
theorem bit_or {a b : List Bool} (h : a.length = b.length) (i : Nat) : bit (orP a b) i = (bit a i || bit b i) := by
  rcases Nat.lt_or_ge i a.length with h' | h'
  · rw [orP, bit_tab h']
  · rw [bit_ge (by simpa [orP] using h'), bit_ge h', bit_ge (by omega)]; rfl
theorem ans19 {a b : List Bool} (ha : a.length < 1048576) (hab : a.length = b.length) : Ans Try.prog 19 [aL aB a, aL aB b] (aL aB (andP a b)) := by
  refine ACalls.ans_own (f := fun b => .bool b) (e := 4) fun S => calls19 ?_
  unfold m19
  refine loop19_0 (fun y x S' => Keep S S' ∧ ∃ i : Nat, x = aI i ∧ i ≤ a.length ∧ Own S.n S' y 4 ((tab i fun i => bit a i && bit b i).map fun b => [aB b]))
    (fun _ x _ => a.length - ((intA x).getD 0).toNat) ⟨Keep.refl S, 0, rfl, Nat.zero_le _, .nl _ _ _⟩ ?_
  rintro y _ S1 ⟨k1, i, rfl, hi, w1⟩ KE hKE
  unfold b19_0
  rw [lenS_aL, bin_lss, onB_v]
  refine gd_of (fun h => ?_) (fun h => ?_)
  · have hlt : i < a.length := by simpa using h
    have hadd : ∀ K : AV → Store → Prop, ∀ S, bin .add 0 (.v (.int .i64 (i : Int))) (.v (.int .i64 1)) S K = K (aI (i + 1 : Nat)) S := fun K S => bin_add (by omega) (by omega) 0
    have hμ : a.length - ((intA (aI (i + 1 : Nat))).getD 0).toNat < a.length - ((intA (aI i)).getD 0).toNat := by simp [intA]; omega
    have step : ∀ c : Bool, c = (bit a i && bit b i) → appS 4 1 1 y (.l [[aB c]]) S1 fun v10 S => bin .add 0 (.v (.int .i64 (i : Int))) (.v (.int .i64 1)) S fun v11 S => KE 27 (env19_0 (aL aB a) (aL aB b) v10 v11) S := by
      intro c hc
      refine w1.app (b := 1) (c := [aB c]) (y := .l [[aB c]]) (by have := k1.1; omega) rfl (by simp; omega) (fun x' S5 ho5 hb5 hx5 => ?_) rfl
      rw [hadd]
      refine hKE _ _ _ ⟨w1.keep (Nat.le_refl _) hb5 k1, i + 1, rfl, hlt, ?_⟩ hμ
      rw [tab_succ, List.map_append, ← hc]
      exact ho5
    rw [ixS_aL hlt, ld1_q, onB_v]
    refine gd_of (fun h => ?_) (fun h => ?_)
    · rw [ixS_aL (by omega : i < b.length), ld1_q]
      refine bsl1 rfl (fun _ h => by cases h) (step _ ?_)
      rw [bit_get hlt, bit_get (by omega), h]; rfl
    · refine bsl1 rfl (fun _ h => by cases h) (step false ?_)
      rw [bit_get hlt, h]; rfl
  · have hge : i = a.length := by simp at h; omega
    subst hge
    exact ⟨_, rfl, k1, w1⟩
theorem ans52 {a b : List Bool} (ha : a.length < 1048576) (hab : a.length = b.length) : Ans Try.prog 52 [aL aB a, aL aB b] (aL aB (orP a b)) := by
  refine ACalls.ans_own (f := fun b => .bool b) (e := 4) fun S => calls52 ?_
  unfold m52
  refine loop52_0 (fun y x S' => Keep S S' ∧ ∃ i : Nat, x = aI i ∧ i ≤ a.length ∧ Own S.n S' y 4 ((tab i fun i => bit a i || bit b i).map fun b => [aB b]))
    (fun _ x _ => a.length - ((intA x).getD 0).toNat) ⟨Keep.refl S, 0, rfl, Nat.zero_le _, .nl _ _ _⟩ ?_
  rintro y _ S1 ⟨k1, i, rfl, hi, w1⟩ KE hKE
  unfold b52_0
  rw [lenS_aL, bin_lss, onB_v]
  refine gd_of (fun h => ?_) (fun h => ?_)
  · have hlt : i < a.length := by simpa using h
    have hadd : ∀ K : AV → Store → Prop, ∀ S, bin .add 0 (.v (.int .i64 (i : Int))) (.v (.int .i64 1)) S K = K (aI (i + 1 : Nat)) S := fun K S => bin_add (by omega) (by omega) 0
    have hμ : a.length - ((intA (aI (i + 1 : Nat))).getD 0).toNat < a.length - ((intA (aI i)).getD 0).toNat := by simp [intA]; omega
    have step : ∀ c : Bool, c = (bit a i || bit b i) → appS 4 1 1 y (.l [[aB c]]) S1 fun v10 S => bin .add 0 (.v (.int .i64 (i : Int))) (.v (.int .i64 1)) S fun v11 S => KE 27 (env52_0 (aL aB a) (aL aB b) v10 v11) S := by
      intro c hc
      refine w1.app (b := 1) (c := [aB c]) (y := .l [[aB c]]) (by have := k1.1; omega) rfl (by simp; omega) (fun x' S5 ho5 hb5 hx5 => ?_) rfl
      rw [hadd]
      refine hKE _ _ _ ⟨w1.keep (Nat.le_refl _) hb5 k1, i + 1, rfl, hlt, ?_⟩ hμ
      rw [tab_succ, List.map_append, ← hc]
      exact ho5
    rw [ixS_aL hlt, ld1_q, onB_v]
    refine gd_of (fun h => ?_) (fun h => ?_)
    · refine bsl1 rfl (fun _ h => by cases h) (step true ?_)
      rw [bit_get hlt, h]; rfl
    · rw [ixS_aL (by omega : i < b.length), ld1_q]
      refine bsl1 rfl (fun _ h => by cases h) (step _ ?_)
      rw [bit_get hlt, bit_get (by omega), h]; rfl
  · have hge : i = a.length := by simp at h; omega
    subst hge
    exact ⟨_, rfl, k1, w1⟩
theorem ans20 {a b : List Bool} (hl : a.length < 9223372036854775807) : Ans Try.prog 20 [aL aB a, aL aB b] (aB (decide (a = b))) := by
  intro S
  refine calls20 ?_
  unfold m20
  rw [lenS_aL, lenS_aL, bin_neq, onB_v]
  refine gd_of (fun h => ⟨?_, rfl⟩) (fun h => ?_)
  · have : ¬ a = b := fun e => by subst e; simp at h
    simp [this]
  have hab : a.length = b.length := by simp at h; omega
  refine loop20_0 (fun y S' => S' = S ∧ ∃ i : Nat, y = aI i ∧ i ≤ a.length ∧ ∀ k, k < i → a[k]? = b[k]?) (fun y _ => a.length - ((intA y).getD 0).toNat) ⟨rfl, 0, rfl, Nat.zero_le _, fun k h => absurd h (Nat.not_lt_zero _)⟩ ?_
  rintro _ _ ⟨rfl, i, rfl, hi, hk⟩ KE hKE
  unfold b20_0
  rw [lenS_aL, bin_lss, onB_v]
  refine gd_of (fun h => ?_) (fun h => ?_)
  · have hlt : i < a.length := by simpa using h
    have hlt' : i < b.length := by omega
    refine ⟨_, by rw [ixS_aL hlt]; exact ⟨rfl, rfl⟩, _, by rw [ld1_q]; exact ⟨rfl, rfl⟩, _, by rw [ixS_aL hlt']; exact ⟨rfl, rfl⟩, _, by rw [ld1_q]; exact ⟨rfl, rfl⟩, _, by rw [bin_neqB]; exact ⟨rfl, rfl⟩, ?_⟩
    rw [onB_v]
    refine gd_of (fun hg => ⟨?_, rfl⟩) (fun hg => ?_)
    · have : ¬ a = b := fun e => by subst e; simp at hg
      simp [this]
    · rw [bin_add (by omega) (by omega)]
      refine hKE _ _ ⟨rfl, i + 1, rfl, hlt, fun k hk2 => ?_⟩ ?_
      · by_cases e : k = i
        · subst e
          rw [List.getElem?_eq_getElem hlt, List.getElem?_eq_getElem hlt']
          simpa using hg
        · exact hk k (by omega)
      · simp [intA]; omega
  · have hge : i = a.length := by simp at h; omega
    subst hge
    have : a = b := by
      apply List.ext_getElem?
      intro k
      by_cases hk' : k < a.length
      · exact hk k hk'
      · rw [List.getElem?_eq_none (by omega), List.getElem?_eq_none (by omega)]
    exact ⟨by simp [this], rfl⟩

theorem not_mem_all {α : Type} {l : List α} {g : α → Bool} {i : Nat} (hi : i < l.length) (h : g l[i] = false) : l.all g = false :=
  List.all_eq_false.2 ⟨_, List.getElem_mem hi, by simp [h]⟩
theorem all_at {α : Type} {l : List α} {g : α → Bool} (h : ∀ k (hk : k < l.length), g l[k] = true) : l.all g = true :=
  List.all_eq_true.2 fun x hx => by
    obtain ⟨k, hk, rfl⟩ := List.mem_iff_getElem.1 hx
    exact h k hk
theorem fits_one (s : Sp) (p : List Bool) : fits s [p] = (decide (p.length = s.valid.length) && decide (s.next.length = s.valid.length) && s.fair.all (fun p => decide (p.length = s.valid.length)) && s.next.all (fun x => x.all fun i => decide (0 ≤ i) && decide (i < s.valid.length))) := by
  simp only [fits, List.all_cons, List.all_nil, Bool.and_true]
  cases decide (p.length = s.valid.length) <;> cases decide (s.next.length = s.valid.length) <;> cases s.fair.all (fun p => decide (p.length = s.valid.length)) <;> simp
theorem at51 {s : Sp} (hs : s.small) (p : List Bool) : Ans Try.prog 51 [s.av, aL aB p] (aB (fits s [p])) := by
  intro S
  obtain ⟨hs1, hs2, hs3, hs4⟩ := hs
  refine ACalls.ans_v (calls51 ?_)
  rw [fits_one]
  unfold m51
  refine boxA_of rfl fun S1 k1 n1 o1 => ?_
  rw [shift_p, ld1_p o1 rfl rfl, lenS_aL, lenS_aL, bin_neq, onB_v]
  refine gd_of (fun h => ⟨?_, k1⟩) (fun h => ?_)
  · have : ¬ p.length = s.valid.length := by simp at h; omega
    simp [this]
  have e1 : p.length = s.valid.length := by simp at h; omega
  rw [shift_p, ld1_p o1 rfl rfl, lenS_aL, bin_neq, onB_v]
  refine gd_of (fun h => ⟨?_, k1⟩) (fun h => ?_)
  · have : ¬ s.next.length = s.valid.length := by simp at h; omega
    simp [this]
  have e2 : s.next.length = s.valid.length := by simp at h; omega
  rw [show decide (p.length = s.valid.length) = true by simp [e1], show decide (s.next.length = s.valid.length) = true by simp [e2]]
  refine loop51_0 (fun y S' => S' = S1 ∧ ∃ i : Nat, y = aI i ∧ i ≤ s.fair.length ∧ ∀ k (hk : k < s.fair.length), k < i → decide (s.fair[k].length = s.valid.length) = true) (fun y _ => s.fair.length - ((intA y).getD 0).toNat) ⟨rfl, 0, rfl, Nat.zero_le _, fun k _ h => absurd h (Nat.not_lt_zero _)⟩ ?_
  rintro _ S1 ⟨rfl, i, rfl, hi, hk⟩ KE hKE
  unfold b51_0
  rw [shift_p, ld1_p o1 rfl rfl, lenS_aL, bin_lss, onB_v]
  refine gd_of (fun h => ?_) (fun h => ?_)
  · have hlt : i < s.fair.length := by simpa using h
    rw [shift_p, ld1_p o1 rfl rfl, ixS_aL hlt, ld1_q, lenS_aL, bin_neq, onB_v]
    refine gd_of (fun h => ⟨?_, k1⟩) (fun h => ?_)
    · have h1 : ¬ s.fair[i].length = s.valid.length := by simp at h; omega
      rw [not_mem_all (l := s.fair) (g := fun p => decide (p.length = s.valid.length)) hlt (by simpa using h1)]
      simp
    · have h1 : s.fair[i].length = s.valid.length := by simp at h; omega
      rw [bin_add (by omega) (by omega)]
      refine hKE _ _ ⟨rfl, i + 1, rfl, hlt, fun k hk1 hk2 => ?_⟩ (by simp [intA]; omega)
      by_cases e : k = i
      · subst e; simpa using h1
      · exact hk k hk1 (by omega)
  · have hge : i = s.fair.length := by simp at h; omega
    subst hge
    rw [all_at (l := s.fair) (g := fun p => decide (p.length = s.valid.length)) fun k hk1 => hk k hk1 hk1]
    clear hKE hk hi h
    refine loop51_1 (fun y S' => S' = S1 ∧ ∃ i : Nat, y = aI i ∧ i ≤ s.valid.length ∧ ∀ k (hk : k < s.next.length), k < i → (s.next[k].all fun i => decide (0 ≤ i) && decide (i < s.valid.length)) = true) (fun y _ => s.valid.length - ((intA y).getD 0).toNat) ⟨rfl, 0, rfl, Nat.zero_le _, fun k _ h => absurd h (Nat.not_lt_zero _)⟩ ?_
    rintro _ S1 ⟨rfl, i, rfl, hi, hk⟩ KE hKE
    unfold b51_1
    rw [bin_lss, onB_v]
    refine gd_of (fun h => ?_) (fun h => ?_)
    · have hlt : i < s.valid.length := by simpa using h
      have hln : i < s.next.length := by omega
      have hrl := hs4 _ (List.getElem_mem hln)
      refine loop51_2 (fun y S' => S' = S1 ∧ ∃ j : Nat, y = aI j ∧ j ≤ s.next[i].length ∧ ∀ k (hk : k < s.next[i].length), k < j → (decide (0 ≤ s.next[i][k]) && decide (s.next[i][k] < s.valid.length)) = true) (fun y _ => s.next[i].length - ((intA y).getD 0).toNat) ⟨rfl, 0, rfl, Nat.zero_le _, fun k _ h => absurd h (Nat.not_lt_zero _)⟩ ?_
      rintro _ S1 ⟨rfl, j, rfl, hj, hjk⟩ KE2 hKE2
      unfold b51_2
      rw [shift_p, ld1_p o1 rfl rfl, ixS_aL hln, ld1_q, lenS_aL, bin_lss, onB_v]
      refine gd_of (fun h => ?_) (fun h => ?_)
      · have hjl : j < s.next[i].length := by simpa using h
        rw [shift_p, ld1_p o1 rfl rfl, ixS_aL hln, ld1_q, ixS_aL hjl, ld1_q, bin_lss, onB_v]
        have bad : ¬ (0 ≤ s.next[i][j] ∧ s.next[i][j] < s.valid.length) → (true && true && true && s.next.all fun x => x.all fun i => decide (0 ≤ i) && decide (i < s.valid.length)) = false := by
          intro hn
          rw [not_mem_all (l := s.next) hln (not_mem_all (l := s.next[i]) (g := fun i : Int => decide (0 ≤ i) && decide (i < s.valid.length)) hjl (by
            rw [Bool.and_eq_false_iff]
            by_cases h0 : 0 ≤ s.next[i][j]
            · exact .inr (decide_eq_false fun hh => hn ⟨h0, hh⟩)
            · exact .inl (decide_eq_false h0)))]
          rfl
        refine gd_of (fun h => ⟨?_, k1⟩) (fun h => ?_)
        · rw [bad (fun hn => by have : s.next[i][j] < 0 := by simpa using h
                                omega)]
        have h0 : 0 ≤ s.next[i][j] := by simpa using h
        rw [shift_p, ld1_p o1 rfl rfl, ixS_aL hln, ld1_q, ixS_aL hjl, ld1_q, bin_geq, onB_v]
        refine gd_of (fun h => ⟨?_, k1⟩) (fun h => ?_)
        · rw [bad (fun hn => by have : (s.valid.length : Int) ≤ s.next[i][j] := by simpa using h
                                omega)]
        have h1 : s.next[i][j] < s.valid.length := by simpa using h
        rw [bin_add (by omega) (by omega)]
        refine hKE2 _ _ ⟨rfl, j + 1, rfl, hjl, fun k hk1 hk2 => ?_⟩ (by simp [intA]; omega)
        by_cases e : k = j
        · subst e; simp [h0, h1]
        · exact hjk k hk1 (by omega)
      · have hge : j = s.next[i].length := by simp at h; omega
        subst hge
        rw [bin_add (by omega) (by omega)]
        refine hKE _ _ ⟨rfl, i + 1, rfl, hlt, fun k hk1 hk2 => ?_⟩ (by simp [intA]; omega)
        by_cases e : k = i
        · subst e; exact all_at fun k hk1 => hjk k hk1 hk1
        · exact hk k hk1 (by omega)
    · have hge : i = s.valid.length := by simp at h; omega
      subst hge
      refine ⟨?_, k1⟩
      rw [all_at (l := s.next) fun k hk1 => hk k hk1 (by omega)]
      rfl
end Go.Proofs.Ythgkalkllfpjpaa.G

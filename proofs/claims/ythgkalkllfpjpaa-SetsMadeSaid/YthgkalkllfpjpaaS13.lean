/- It is proved here that each of the laws of sets (SetsMade, SetsFix, SetsMore, SetsFair) returns true for every input and changes none of its arguments. There is no condition beyond the given statement. -/
import Derived.Test.YthgkalkllfpjpaaS12
import Derived.Test.YthgkalkllfpjpaaGS3
set_option linter.unusedVariables false
set_option linter.unusedSimpArgs false
namespace Go.Proofs.Ythgkalkllfpjpaa.G
open Go Go.Ab

/-! The plain laws of layer 12 -/
theorem eg_stay (s : Sp) (p : List Bool) : Stay s (fairL s) (egP s p) := fun f hf i hi => by
  obtain ⟨z, h1, h2, h3, h4⟩ := bit_eg.1 hi
  exact stepP_mono (fun j hj => bit_eg.2 ⟨z, h1, h2, h3, hj⟩) (by simp [h1]) i (h3 f hf i h4)
theorem eg_sub (s : Sp) (p : List Bool) : Sub (egP s p) (andP p s.valid) := fun i hi => by
  obtain ⟨z, h1, h2, h3, h4⟩ := bit_eg.1 hi
  exact h2 i h4
theorem eg_mono {s : Sp} {p p' : List Bool} (h : Sub p p') (hl : p.length = p'.length) : Sub (egP s p) (egP s p') := fun i hi => by
  obtain ⟨z, h1, h2, h3, h4⟩ := bit_eg.1 hi
  exact bit_eg.2 ⟨z, by omega, h2.trans (andP_mono h (Sub.refl _)), h3, h4⟩
theorem eg_idem (s : Sp) (p : List Bool) : egP s (egP s p) = egP s p :=
  Sub.anti (by simp) (fun i hi => by
    have := eg_sub s (egP s p) i hi
    rw [bit_and, Bool.and_eq_true] at this
    exact this.1) (fun i hi => bit_eg.2 ⟨egP s p, by simp, fun j hj => by
      have := eg_sub s p j hj
      rw [bit_and, Bool.and_eq_true] at this ⊢
      exact ⟨hj, this.2⟩, eg_stay s p, hi⟩)
theorem eu_fix {s : Sp} {p q : List Bool} (hf : Fit s p) (hl : q.length = p.length) {i : Nat} (hi : i < p.length) :
    bit (euP s p q) i = (bit s.valid i && (bit q i || (bit p i && bit (exP s (euP s p q)) i))) := by
  rw [Bool.eq_iff_iff, bit_eu]
  simp only [Bool.and_eq_true, Bool.or_eq_true, bit_ex, euP_len]
  constructor
  · rintro ⟨_, h⟩
    cases h with
    | base _ h1 h2 => exact ⟨h2, .inl h1⟩
    | step _ k h1 h2 h3 h => exact ⟨h2, .inr ⟨h1, by omega, h2, k, h3, by
        have := hf.behind i k h3
        have hl' := hf.len
        simpa using bit_eu.2 ⟨by omega, h⟩⟩⟩
  · rintro ⟨h2, h1 | ⟨h1, _, _, k, h3, h4⟩⟩
    · exact ⟨by omega, .base i h1 h2⟩
    · have hk := (hf.behind i k h3).1
      exact ⟨by omega, .step i k.toNat h1 h2 (by rwa [Int.toNat_of_nonneg hk]) (bit_eu.1 h4).2⟩
theorem eg_next {s : Sp} {p : List Bool} {i : Nat} (h : bit (egP s p) i = true) : bit (exP s (egP s p)) i = true := by
  have hne : ∃ f, f ∈ fairL s := by
    unfold fairL
    split
    · exact ⟨_, List.mem_singleton.2 rfl⟩
    · rename_i hq
      cases hs : s.fair with
      | nil => rw [hs] at hq; simp at hq
      | cons f l => exact ⟨f, by simp⟩
  obtain ⟨f, hf⟩ := hne
  have h1 := eg_stay s p f hf i h
  rw [stepP, bit_and, Bool.and_eq_true, bit_ex] at h1
  obtain ⟨_, h2, h3, k, h4, h5⟩ := h1
  refine bit_ex.2 ⟨by simpa using h2, h3, k, h4, ?_⟩
  have hr := (bit_eu.1 h5).2
  cases hr with
  | base _ h6 h7 => rw [bit_and, Bool.and_eq_true] at h6; exact h6.1
  | step _ k' h6 h7 h8 h9 => exact h6
theorem eg_fair {s : Sp} {p f : List Bool} (hF : Fit s p) (hf : f ∈ s.fair) {i : Nat} (h : bit (egP s p) i = true) : bit (euP s (egP s p) (andP (egP s p) f)) i = true := by
  have hfl : fairL s = s.fair := by
    unfold fairL
    cases hs : s.fair with
    | nil => rw [hs] at hf; cases hf
    | cons f l => rfl
  have h1 := eg_stay s p f (by rw [hfl]; exact hf) i h
  rw [stepP, bit_and, Bool.and_eq_true, bit_ex] at h1
  obtain ⟨_, h2, h3, k, h4, h5⟩ := h1
  have hi := bit_lt h
  refine bit_eu.2 ⟨by simpa using hi, ?_⟩
  exact .step i k.toNat h h3 (by rwa [Int.toNat_of_nonneg (hF.behind i k h4).1]) (bit_eu.1 h5).2
/-- With one set of Fair less. -/
def lessF (s : Sp) : Sp := { s with fair := s.fair.tail }
theorem reach_less {s : Sp} {p q q' : List Bool} (h : ∀ i, bit q i = true → bit s.valid i = true → bit q' i = true) {i : Nat} (hr : Reach s p q i) : Reach (lessF s) p q' i := by
  induction hr with
  | base i h1 h2 => exact .base i (h i h1 h2) h2
  | step i k h1 h2 h3 _ ih => exact .step i k h1 h2 h3 ih
theorem step_less {s : Sp} {z f f' : List Bool} (h : ∀ i, bit z i = true → bit f i = true → bit s.valid i = true → bit f' i = true) : Sub (stepP s z f) (stepP (lessF s) z f') := fun i hi => by
  rw [stepP, bit_and, Bool.and_eq_true, bit_ex] at hi ⊢
  obtain ⟨h1, h2, h3, k, h4, h5⟩ := hi
  refine ⟨h1, by simpa using h2, h3, k, h4, ?_⟩
  obtain ⟨h6, h7⟩ := bit_eu.1 h5
  refine bit_eu.2 ⟨by simpa using h6, reach_less (fun j hj hv => ?_) h7⟩
  rw [bit_and, Bool.and_eq_true] at hj ⊢
  exact ⟨hj.1, h j hj.1 hj.2 hv⟩
theorem eg_less (s : Sp) (p : List Bool) : Sub (egP s p) (egP (lessF s) p) := fun i hi => by
  obtain ⟨z, h1, h2, h3, h4⟩ := bit_eg.1 hi
  refine bit_eg.2 ⟨z, h1, h2, fun f hf => ?_, h4⟩
  cases hs : s.fair with
  | nil =>
    have e : fairL (lessF s) = fairL s := by simp [fairL, lessF, hs]
    rw [e] at hf
    exact (h3 f hf).trans (step_less fun _ _ h _ => h)
  | cons g l =>
    have e1 : fairL s = g :: l := by simp [fairL, hs]
    cases hl : l with
    | nil =>
      have e : fairL (lessF s) = [s.valid] := by simp [fairL, lessF, hs, hl]
      rw [e] at hf
      obtain rfl := List.mem_singleton.1 hf
      exact (h3 g (by rw [e1]; simp)).trans (step_less fun _ _ _ h => h)
    | cons g' l' =>
      have e : fairL (lessF s) = l := by simp [fairL, lessF, hs, hl]
      rw [e] at hf
      exact (h3 f (by rw [e1]; simp [hf])).trans (step_less fun _ _ h _ => h)
theorem less_small {s : Sp} (h : s.small) : (lessF s).small := ⟨h.1, h.2.1, by have := h.2.2.1; simp [lessF]; omega, h.2.2.2⟩
theorem fits_less {s : Sp} {p : List Bool} (h : fits s [p] = true) : fits (lessF s) [p] = true := by
  rw [fits_one] at h ⊢
  simp only [Bool.and_eq_true, decide_eq_true_eq, List.all_eq_true] at h ⊢
  exact ⟨⟨h.1.1, fun f hf => h.1.2 f (List.mem_of_mem_tail hf)⟩, h.2⟩

/-- A bit of p is one of p or more. -/
theorem bitI_nat (n i : Nat) (hi : i < 64) : bitI (n : Int) i = n.testBit i := by
  have h2 : min i 64 = i := by omega
  unfold bitI
  rw [h2]
  have h3 : ((n : Int).fdiv (2 ^ i)) = ((n / 2 ^ i : Nat) : Int) := by
    rw [Int.fdiv_eq_ediv_of_nonneg _ (by exact_mod_cast Nat.zero_le (2 ^ i))]
    norm_cast
  rw [h3]
  have h4 : ((n / 2 ^ i : Nat) : Int).tmod 2 = (((n / 2 ^ i) % 2 : Nat) : Int) := by
    rw [Int.tmod_eq_emod_of_nonneg (Int.natCast_nonneg _)]; norm_cast
  rw [h4, Nat.testBit, Nat.shiftRight_eq_div_pow]
  have : (n / 2 ^ i) % 2 = 0 ∨ (n / 2 ^ i) % 2 = 1 := by omega
  rcases this with h | h <;> simp [h, Nat.and_one_is_mod]
def orU (p m : Int) : Int := IntKind.u8.wrap ((BitVec.ofInt 8 p ||| BitVec.ofInt 8 m).toNat : Int)
theorem bitI_or {p m : Int} (h0 : 0 ≤ p) (h1 : p < 256) {i : Nat} (hi : i < 64) (h : bitI (IntKind.i64.wrap p) i = true) : bitI (IntKind.i64.wrap (orU p m)) i = true := by
  obtain ⟨a, rfl⟩ := Int.eq_ofNat_of_zero_le h0
  have hw : ∀ n : Nat, n < 256 → IntKind.u8.wrap (n : Int) = n := fun n hn => by
    rw [IntKind.wrap_u8]; omega
  have hlt : (BitVec.ofInt 8 (a : Int) ||| BitVec.ofInt 8 m).toNat < 256 := (BitVec.ofInt 8 (a : Int) ||| BitVec.ofInt 8 m).isLt
  rw [wrap64 (by omega) (by omega), bitI_nat _ _ hi] at h
  rw [orU, hw _ hlt, wrap64 (by omega) (by omega), bitI_nat _ _ hi, BitVec.toNat_or, Nat.testBit_or]
  have : (BitVec.ofInt 8 (a : Int)).toNat = a := by
    rw [BitVec.toNat_ofInt]; omega
  rw [this, h]
  rfl
end Go.Proofs.Ythgkalkllfpjpaa.G

/- It is proved here that each of the laws of sets (SetsMade, SetsFix, SetsMore, SetsFair) returns true for every input and changes none of its arguments. There is no condition beyond the given statement. -/
import Derived.Test.YthgkalkllfpjpaaS5
set_option linter.unusedVariables false
set_option linter.unusedSimpArgs false
namespace Go.Proofs.Ythgkalkllfpjpaa.G
open Go Go.Ab

theorem ans86 (b : Bool) {l : List Bool} (hl : l.length < 9223372036854775807) : Ans Try.prog 86 [aL aB l, aB b] (aI (idxOf (l.findIdx? (b == ·)))) := by
  intro S
  refine calls86 ?_
  unfold m86
  rw [lenS_aL]
  refine loop86_0 (fun y S' => S' = S ∧ ∃ i : Nat, y = aI i ∧ i ≤ l.length ∧ ∀ k (hk : k < l.length), k < i → (b == l[k]) = false) (fun y _ => l.length - ((intA y).getD 0).toNat) ⟨rfl, 0, rfl, Nat.zero_le _, fun k _ h => absurd h (Nat.not_lt_zero _)⟩ ?_
  rintro _ _ ⟨rfl, i, rfl, hi, hk⟩ KE hKE
  unfold b86_0
  rw [bin_lss, onB_v]
  refine gd_of (fun h => ?_) (fun h => ?_)
  · have hlt : i < l.length := by simpa using h
    rw [ixS_aL hlt, ld1_q, bin_eqlB, onB_v]
    refine gd_of (fun hg => ⟨?_, rfl⟩) (fun hg => ?_)
    · rw [find_at (g := (b == ·)) hlt hg (fun k hk' => hk k _ hk')]; rfl
    · rw [bin_add (by omega) (by omega)]
      refine hKE _ _ ⟨rfl, i + 1, rfl, hlt, fun k hk1 hk2 => ?_⟩ ?_
      · by_cases e : k = i
        · subst e; exact hg
        · exact hk k hk1 (by omega)
      · simp [intA]; omega
  · have hge : i = l.length := by simp at h; omega
    subst hge
    rw [find_none (g := (b == ·)) (fun k hk' => hk k hk' hk')]
    exact ⟨rfl, rfl⟩
theorem ans61 (b : Bool) {l : List Bool} (hl : l.length < 9223372036854775807) : Ans Try.prog 61 [aL aB l, aB b] (aB (l.any (b == ·))) := by
  intro S
  refine calls61 ?_
  unfold m61
  refine callF_ans (ans86 b hl) ?_
  rw [bin_geq, idx_any]
  exact ⟨rfl, rfl⟩
theorem ans62 {a b : List Bool} (hl : a.length < 9223372036854775807) : Ans Try.prog 62 [aL aB a, aL aB b] (aB (decide (a = b))) := by
  intro S
  refine calls62 ?_
  unfold m62
  rw [lenS_aL, lenS_aL, bin_neq, onB_v]
  refine gd_of (fun h => ⟨?_, rfl⟩) (fun h => ?_)
  · have : ¬ a = b := fun e => by subst e; simp at h
    simp [this]
  have hab : a.length = b.length := by simp at h; omega
  rw [lenS_aL]
  refine loop62_0 (fun y S' => S' = S ∧ ∃ i : Nat, y = aI i ∧ i ≤ a.length ∧ ∀ k, k < i → a[k]? = b[k]?) (fun y _ => a.length - ((intA y).getD 0).toNat) ⟨rfl, 0, rfl, Nat.zero_le _, fun k h => absurd h (Nat.not_lt_zero _)⟩ ?_
  rintro _ _ ⟨rfl, i, rfl, hi, hk⟩ KE hKE
  unfold b62_0
  rw [bin_lss, onB_v]
  refine gd_of (fun h => ?_) (fun h => ?_)
  · have hlt : i < a.length := by simpa using h
    have hlt' : i < b.length := by omega
    refine ⟨_, by rw [ixS_aL hlt]; exact ⟨rfl, rfl⟩, _, by rw [ld1_q]; exact ⟨rfl, rfl⟩, _, by rw [ixS_aL hlt']; exact ⟨rfl, rfl⟩, _, by rw [ld1_q]; exact ⟨rfl, rfl⟩, _, by rw [bin_neqB]; exact ⟨rfl, rfl⟩, ?_⟩
    rw [onB_v]
    refine gd_of (fun hg => ⟨?_, rfl⟩) (fun hg => ?_)
    · have : ¬ a = b := fun e => by subst e; simp at hg
      simp [this]
    · rw [bin_add (by omega) (by omega)]
      refine hKE _ _ ⟨rfl, i + 1, rfl, hlt, fun k hk2 => ?_⟩ ?_
      · by_cases e : k = i
        · subst e
          rw [List.getElem?_eq_getElem hlt, List.getElem?_eq_getElem hlt']
          simpa using hg
        · exact hk k (by omega)
      · simp [intA]; omega
  · have hge : i = a.length := by simp at h; omega
    subst hge
    have : a = b := by
      apply List.ext_getElem?
      intro k
      by_cases hk' : k < a.length
      · exact hk k hk'
      · rw [List.getElem?_eq_none (by omega), List.getElem?_eq_none (by omega)]
    exact ⟨by simp [this], rfl⟩

theorem bit_ge {p : List Bool} {i : Nat} (h : p.length ≤ i) : bit p i = false := by simp [bit, List.getD_eq_getElem?_getD, h]
theorem bit_lt {p : List Bool} {i : Nat} (h : bit p i = true) : i < p.length := by
  rcases Nat.lt_or_ge i p.length with h' | h'
  · exact h'
  · rw [bit_ge h'] at h; cases h
theorem bit_tab {n : Nat} {f : Nat → Bool} {i : Nat} (h : i < n) : bit (tab n f) i = f i := by rw [bit, List.getD_eq_getElem?_getD, tab_get h]; rfl
theorem bit_and (a b : List Bool) (i : Nat) : bit (andP a b) i = (bit a i && bit b i) := by
  rcases Nat.lt_or_ge i a.length with h | h
  · rw [andP, bit_tab h]
  · rw [bit_ge (by simpa [andP] using h), bit_ge h]; rfl
@[simp] theorem andP_len (a b : List Bool) : (andP a b).length = a.length := by simp [andP]
@[simp] theorem exP_len (s : Sp) (p : List Bool) : (exP s p).length = p.length := by simp [exP]
@[simp] theorem euP_len (s : Sp) (p q : List Bool) : (euP s p q).length = q.length := by simp [euP]
theorem bit_ex {s : Sp} {p : List Bool} {i : Nat} : bit (exP s p) i = true ↔ i < p.length ∧ bit s.valid i = true ∧ ∃ k ∈ nx s i, bit p k.toNat = true := by
  constructor
  · intro h
    have hi : i < p.length := by simpa using bit_lt h
    rw [exP, bit_tab hi] at h
    simpa [hi] using h
  · rintro ⟨hi, h⟩
    rw [exP, bit_tab hi]
    simpa using h
theorem bit_eu {s : Sp} {p q : List Bool} {i : Nat} : bit (euP s p q) i = true ↔ i < q.length ∧ Reach s p q i := by
  constructor
  · intro h
    have hi : i < q.length := by simpa using bit_lt h
    rw [euP, bit_tab hi] at h
    exact ⟨hi, by simpa using h⟩
  · rintro ⟨hi, h⟩
    rw [euP, bit_tab hi]
    simpa using h
def Sub (a b : List Bool) : Prop := ∀ i, bit a i = true → bit b i = true
theorem Sub.refl (a : List Bool) : Sub a a := fun _ h => h
theorem Sub.trans {a b c : List Bool} (h : Sub a b) (k : Sub b c) : Sub a c := fun i hi => k i (h i hi)
theorem Reach.mono {s : Sp} {p q p' q' : List Bool} (hp : Sub p p') (hq : Sub q q') {i : Nat} (h : Reach s p q i) : Reach s p' q' i := by
  induction h with
  | base i h1 h2 => exact .base i (hq i h1) h2
  | step i k h1 h2 h3 h ih => exact .step i k (hp i h1) h2 h3 ih
theorem exP_mono {s : Sp} {p p' : List Bool} (h : Sub p p') (hl : p.length ≤ p'.length) : Sub (exP s p) (exP s p') := by
  intro i hi
  rw [bit_ex] at hi ⊢
  obtain ⟨h1, h2, k, h3, h4⟩ := hi
  exact ⟨by omega, h2, k, h3, h _ h4⟩
theorem euP_mono {s : Sp} {p q p' q' : List Bool} (hp : Sub p p') (hq : Sub q q') (hl : q.length ≤ q'.length) : Sub (euP s p q) (euP s p' q') := by
  intro i hi
  rw [bit_eu] at hi ⊢
  exact ⟨by omega, hi.2.mono hp hq⟩
theorem andP_mono {a b a' b' : List Bool} (ha : Sub a a') (hb : Sub b b') : Sub (andP a b) (andP a' b') := by
  intro i hi
  rw [bit_and, Bool.and_eq_true] at hi ⊢
  exact ⟨ha i hi.1, hb i hi.2⟩
theorem ext_bit {a b : List Bool} (hl : a.length = b.length) (h : ∀ i, bit a i = bit b i) : a = b := by
  rw [tab_bit a, tab_bit b, hl]
  exact tab_congr fun i _ => h i
theorem Sub.anti {a b : List Bool} (hl : a.length = b.length) (h : Sub a b) (k : Sub b a) : a = b :=
  ext_bit hl fun i => by
    cases ha : bit a i with
    | true => exact (h i ha).symm
    | false => cases hb : bit b i with
      | true => rw [k i hb] at ha; cases ha
      | false => rfl

/-- One step of the shrinking. -/
noncomputable def stepP (s : Sp) (z f : List Bool) : List Bool := andP z (exP s (euP s z (andP z f)))
@[simp] theorem stepP_len (s : Sp) (z f : List Bool) : (stepP s z f).length = z.length := by simp [stepP]
theorem stepP_sub (s : Sp) (z f : List Bool) : Sub (stepP s z f) z := fun i h => by
  rw [stepP, bit_and, Bool.and_eq_true] at h
  exact h.1
theorem stepP_mono {s : Sp} {z z' f : List Bool} (h : Sub z z') (hl : z.length ≤ z'.length) : Sub (stepP s z f) (stepP s z' f) :=
  andP_mono h (exP_mono (euP_mono h (andP_mono h (Sub.refl f)) (by simpa using hl)) (by simpa using hl))
/-- Each of a set stays in it on a way that comes to each of the sets fs. -/
def Stay (s : Sp) (fs : List (List Bool)) (z : List Bool) : Prop := ∀ f ∈ fs, Sub z (stepP s z f)
def fairL (s : Sp) : List (List Bool) := if s.fair.isEmpty then [s.valid] else s.fair
/-- A fair way stays in p. -/
def InEG (s : Sp) (p : List Bool) (i : Nat) : Prop := ∃ z : List Bool, z.length = p.length ∧ Sub z (andP p s.valid) ∧ Stay s (fairL s) z ∧ bit z i = true
open Classical in
noncomputable def egP (s : Sp) (p : List Bool) : List Bool := tab p.length fun i => decide (InEG s p i)
@[simp] theorem egP_len (s : Sp) (p : List Bool) : (egP s p).length = p.length := by simp [egP]
theorem bit_eg {s : Sp} {p : List Bool} {i : Nat} : bit (egP s p) i = true ↔ InEG s p i := by
  constructor
  · intro h
    have hi : i < p.length := by simpa using bit_lt h
    rw [egP, bit_tab hi] at h
    simpa using h
  · intro h
    have hi : i < p.length := by
      obtain ⟨z, hl, hs, _, hz⟩ := h
      rw [← hl]; exact bit_lt hz
    rw [egP, bit_tab hi]
    simpa using h
/-- All that stays is in z. -/
def Above (s : Sp) (p z : List Bool) : Prop := ∀ y : List Bool, y.length = p.length → Sub y (andP p s.valid) → Stay s (fairL s) y → Sub y z
theorem eg_of {s : Sp} {p z : List Bool} (hl : z.length = p.length) (hs : Sub z (andP p s.valid)) (ha : Above s p z) (hst : Stay s (fairL s) z) : z = egP s p := by
  refine Sub.anti (by simpa using hl) (fun i hi => bit_eg.2 ⟨z, hl, hs, hst, hi⟩) (fun i hi => ?_)
  obtain ⟨y, h1, h2, h3, h4⟩ := bit_eg.1 hi
  exact ha y h1 h2 h3 i h4
theorem Above.step {s : Sp} {p z f : List Bool} (h : Above s p z) (hl : z.length = p.length) (hf : f ∈ fairL s) : Above s p (stepP s z f) := fun y h1 h2 h3 =>
  (h3 f hf).trans (stepP_mono (h y h1 h2 h3) (by omega))
theorem eg_none {s : Sp} {p z : List Bool} (hl : z.length = p.length) (ha : Above s p z) (hz : ∀ i, bit z i = false) : z = egP s p :=
  eg_of hl (fun i h => by rw [hz] at h; cases h) ha (fun f _ i h => by rw [hz] at h; cases h)
theorem any_bit {l : List Bool} (h : l.any (true == ·) = false) (i : Nat) : bit l i = false := by
  cases hb : bit l i with
  | false => rfl
  | true =>
    have hi := bit_lt hb
    rw [bit_get hi] at hb
    have : l.any (true == ·) = true := List.any_eq_true.2 ⟨_, List.getElem_mem hi, by simp [hb]⟩
    rw [this] at h; cases h
def cnt (l : List Bool) : Nat := (l.filter id).length
theorem cnt_sub : ∀ {a b : List Bool}, a.length = b.length → Sub a b → cnt a ≤ cnt b ∧ (cnt a = cnt b → a = b)
  | [], [], _, _ => ⟨Nat.le_refl _, fun _ => rfl⟩
  | x :: a, y :: b, hl, h => by
    have ih := cnt_sub (a := a) (b := b) (by simpa using hl) (fun i hi => by have := h (i + 1) (by simpa [bit] using hi); simpa [bit] using this)
    have h0 := h 0
    simp only [bit, List.getD_cons_zero] at h0
    have h1 := ih.1
    cases x <;> cases y <;> simp only [cnt, List.filter_cons, id, if_true, if_false, Bool.false_eq_true, List.length_cons] at h1 ih ⊢
    · exact ⟨h1, fun e => by rw [ih.2 e]⟩
    · exact ⟨by omega, fun e => by omega⟩
    · exact absurd (h0 rfl) (by simp)
    · exact ⟨by omega, fun e => by rw [ih.2 (by omega)]⟩
end Go.Proofs.Ythgkalkllfpjpaa.G

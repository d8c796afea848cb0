/- It is proved here that each of the laws of sets (SetsMade, SetsFix, SetsMore, SetsFair) returns true for every input and changes none of its arguments. There is no condition beyond the given statement. -/
import Derived.Test.YthgkalkllfpjpaaGS1
import Derived.Test.YthgkalkllfpjpaaAb7
set_option linter.unusedVariables false
set_option linter.unusedSimpArgs false
namespace Go.Proofs.Ythgkalkllfpjpaa.G
open Go Go.Ab

def idxOf (o : Option Nat) : Int := match o with | some i => i | none => -1
theorem find_at {α : Type} {g : α → Bool} {l : List α} {i : Nat} (hi : i < l.length) (hg : g l[i] = true) (h : ∀ k (hk : k < i), g (l[k]'(Nat.lt_trans hk hi)) = false) : l.findIdx? g = some i := by
  rw [List.findIdx?_eq_some_iff_getElem]
  exact ⟨hi, hg, fun j hj => by simp [h j hj]⟩
theorem find_none {α : Type} {g : α → Bool} {l : List α} (h : ∀ k (hk : k < l.length), g l[k] = false) : l.findIdx? g = none := by
  rw [List.findIdx?_eq_none_iff]
  intro x hx
  obtain ⟨k, hk, rfl⟩ := List.mem_iff_getElem.1 hx
  exact h k hk

theorem at83 {α : Type} {f : α → AV} {l : List α} (hl : l.length < 9223372036854775807) {g : α → Bool} {fn : FuncId} {fs cs : List AV} {S : Store}
    (hf : ∀ x, x ∈ l → AnsAt Try.prog fn (fs ++ [f x] ++ cs) S (aB (g x))) : AnsAt Try.prog 83 [aL f l, .f (.func fn) fs cs] S (aI (idxOf (l.findIdx? g))) := by
  refine calls83 ?_
  unfold m83
  rw [lenS_aL]
  refine loop83_0 (fun y S' => S' = S ∧ ∃ i : Nat, y = aI i ∧ i ≤ l.length ∧ ∀ k (hk : k < l.length), k < i → g l[k] = false) (fun y _ => l.length - ((intA y).getD 0).toNat) ⟨rfl, 0, rfl, Nat.zero_le _, fun k _ h => absurd h (Nat.not_lt_zero _)⟩ ?_
  rintro _ _ ⟨rfl, i, rfl, hi, hk⟩ KE hKE
  unfold b83_0 aI
  rw [bin_lss, onB_v]
  refine gd_of (fun h => ?_) (fun h => ?_)
  · have hlt : i < l.length := by simpa using h
    rw [ixS_aL hlt, ld1_q]
    refine callV_at (hf _ (List.getElem_mem hlt)) ?_
    unfold aB
    rw [onB_v]
    refine gd_of (fun hg => ⟨?_, rfl⟩) (fun hg => ?_)
    · rw [find_at hlt hg (fun k hk' => hk k _ hk')]; rfl
    · rw [bin_add (by omega) (by omega)]
      refine hKE _ _ ⟨rfl, i + 1, rfl, hlt, fun k hk1 hk2 => ?_⟩ ?_
      · by_cases e : k = i
        · subst e; exact hg
        · exact hk k hk1 (by omega)
      · simp [intA, aI]; omega
  · have hge : i = l.length := by simp at h; omega
    subst hge
    rw [find_none (fun k hk' => hk k hk' hk')]
    exact ⟨rfl, rfl⟩
theorem at84 {α : Type} {f : α → AV} {l : List α} (hl : l.length < 9223372036854775807) {g : α → Bool} {fn : FuncId} {fs cs : List AV} {S : Store}
    (hf : ∀ x, x ∈ l → AnsAt Try.prog fn (fs ++ [f x] ++ cs) S (aB (g x))) : AnsAt Try.prog 84 [aL f l, .f (.func fn) fs cs] S (aI (idxOf (l.findIdx? g))) := by
  refine calls84 ?_
  unfold m84
  rw [lenS_aL]
  refine loop84_0 (fun y S' => S' = S ∧ ∃ i : Nat, y = aI i ∧ i ≤ l.length ∧ ∀ k (hk : k < l.length), k < i → g l[k] = false) (fun y _ => l.length - ((intA y).getD 0).toNat) ⟨rfl, 0, rfl, Nat.zero_le _, fun k _ h => absurd h (Nat.not_lt_zero _)⟩ ?_
  rintro _ _ ⟨rfl, i, rfl, hi, hk⟩ KE hKE
  unfold b84_0 aI
  rw [bin_lss, onB_v]
  refine gd_of (fun h => ?_) (fun h => ?_)
  · have hlt : i < l.length := by simpa using h
    rw [ixS_aL hlt, ld1_q]
    refine callV_at (hf _ (List.getElem_mem hlt)) ?_
    unfold aB
    rw [onB_v]
    refine gd_of (fun hg => ⟨?_, rfl⟩) (fun hg => ?_)
    · rw [find_at hlt hg (fun k hk' => hk k _ hk')]; rfl
    · rw [bin_add (by omega) (by omega)]
      refine hKE _ _ ⟨rfl, i + 1, rfl, hlt, fun k hk1 hk2 => ?_⟩ ?_
      · by_cases e : k = i
        · subst e; exact hg
        · exact hk k hk1 (by omega)
      · simp [intA, aI]; omega
  · have hge : i = l.length := by simp at h; omega
    subst hge
    rw [find_none (fun k hk' => hk k hk' hk')]
    exact ⟨rfl, rfl⟩

/-! ## -/
theorem idx_any {α : Type} (g : α → Bool) (l : List α) : decide (0 ≤ idxOf (l.findIdx? g)) = l.any g := by
  cases h : l.findIdx? g with
  | none =>
    rw [List.findIdx?_eq_none_iff] at h
    have : l.any g = false := by simpa [List.any_eq_false] using h
    rw [this]; rfl
  | some i =>
    rw [List.findIdx?_eq_some_iff_getElem] at h
    obtain ⟨hi, hg, _⟩ := h
    have : l.any g = true := List.any_eq_true.2 ⟨_, List.getElem_mem hi, by simpa using hg⟩
    rw [this]
    simp [idxOf]
theorem at55 {α : Type} {f : α → AV} {l : List α} (hl : l.length < 9223372036854775807) {g : α → Bool} {fn : FuncId} {fs cs : List AV} {S : Store}
    (hf : ∀ x, x ∈ l → AnsAt Try.prog fn (fs ++ [f x] ++ cs) S (aB (g x))) : AnsAt Try.prog 55 [aL f l, .f (.func fn) fs cs] S (aB (l.any g)) := by
  refine calls55 ?_
  unfold m55
  refine callF_at (at83 hl hf) ?_
  unfold aI
  rw [bin_geq, idx_any]
  exact ⟨rfl, rfl⟩
theorem at56 {α : Type} {f : α → AV} {l : List α} (hl : l.length < 9223372036854775807) {g : α → Bool} {fn : FuncId} {fs cs : List AV} {S : Store}
    (hf : ∀ x, x ∈ l → AnsAt Try.prog fn (fs ++ [f x] ++ cs) S (aB (g x))) : AnsAt Try.prog 56 [aL f l, .f (.func fn) fs cs] S (aB (l.any g)) := by
  refine calls56 ?_
  unfold m56
  refine callF_at (at84 hl hf) ?_
  unfold aI
  rw [bin_geq, idx_any]
  exact ⟨rfl, rfl⟩
theorem at54 {α : Type} {f : α → AV} (p : List α) {S : Store} {id t : Nat} {n : Int} {l : Bool} (h : S.obj id = some (.cells t [[aI n]] l)) : AnsAt Try.prog 54 [aL f p, .p id 0 0] S (aB (!decide ((p.length : Int) = n))) := by
  refine calls54 ?_
  unfold m54
  rw [lenS_aL, ld1_p h rfl rfl]
  unfold aI
  rw [bin_neq]
  exact ⟨rfl, rfl⟩
theorem at57 (i : Int) {S : Store} {id t : Nat} {n : Int} {l : Bool} (h : S.obj id = some (.cells t [[aI n]] l)) : AnsAt Try.prog 57 [aI i, .p id 0 0] S (aB (decide (i < 0) || decide (n ≤ i))) := by
  refine calls57 ?_
  unfold m57 aI
  rw [bin_lss, onB_v]
  refine gd_of (fun h0 => ⟨by rw [h0]; rfl, rfl⟩) (fun h0 => ?_)
  rw [ld1_p h rfl rfl]
  unfold aI
  rw [bin_geq, h0]
  exact ⟨rfl, rfl⟩

structure Sp where
  bits : Int
  valid : List Bool
  initial : List Bool
  next : List (List Int)
  fair : List (List Bool)
def Sp.cells (s : Sp) : List AV := [aI s.bits, aL aB s.valid, aL aB s.initial, aL (aL aI) s.next, aL (aL aB) s.fair]
def Sp.av (s : Sp) : AV := .a s.cells
def Sp.small (s : Sp) : Prop := s.valid.length < 1048576 ∧ s.next.length < 1048576 ∧ s.fair.length < 1048576 ∧ ∀ x ∈ s.next, x.length < 1048576
def fits (s : Sp) (l : List (List Bool)) : Bool :=
  decide (s.next.length = s.valid.length) && s.fair.all (fun p => decide (p.length = s.valid.length)) && l.all (fun p => decide (p.length = s.valid.length)) && s.next.all (fun x => x.all fun i => decide (0 ≤ i) && decide (i < s.valid.length))
theorem not_any {α : Type} (l : List α) (g h : α → Bool) (e : ∀ x, g x = !h x) : l.any g = !l.all h := by
  induction l with
  | nil => rfl
  | cons x l ih => simp [e x, ih, Bool.not_and]
theorem ans29 (s : Sp) (hs : s.small) (l : List (List Bool)) (hl : l.length < 9223372036854775807) : Ans Try.prog 29 [s.av, aL (aL aB) l] (aB (fits s l)) := by
  intro S
  obtain ⟨hs1, hs2, hs3, hs4⟩ := hs
  refine ACalls.ans_v (calls29 ?_)
  unfold m29 Sp.av
  refine boxA_of rfl fun S1 k1 n1 o1 => ?_
  rw [shift_p, ld1_p o1 rfl rfl, lenS_aL]
  refine box1_of rfl fun S2 k2 n2 o2 => ?_
  refine st_of o2 rfl rfl fun S3 n3 o3 f3 => ?_
  have p1 := (f3 S.n (by omega)).trans ((k2.2 S.n (by omega)).trans o1)
  have k3 : Keep S S3 := (k1.trans k2).st (by omega) n3 f3
  rw [shift_p, ld1_p p1 rfl rfl, lenS_aL, ld1_p o3 rfl rfl, bin_neq, onB_v]
  generalize hid : S1.n = id at *
  refine gd_of (fun h => ⟨?_, k3⟩) (fun h => ?_)
  · have : ¬ s.next.length = s.valid.length := by simp at h; omega
    simp [fits, this]
  have e1 : s.next.length = s.valid.length := by simp at h; omega
  have g54 : ∀ p : List Bool, (!decide ((p.length : Int) = s.valid.length)) = !decide (p.length = s.valid.length) := fun p => by simp [Int.ofNat_inj]
  rw [shift_p, ld1_p p1 rfl rfl]
  refine callF_at (at55 (by omega) (fun x _ => at54 x o3)) ?_
  unfold aB
  rw [onB_v, not_any _ _ _ g54]
  refine gd_of (fun h => ⟨?_, k3⟩) (fun h => ?_)
  · simp only [Bool.not_eq_true'] at h
    simp [fits, h]
  have e2 : s.fair.all (fun p => decide (p.length = s.valid.length)) = true := by simpa using h
  refine callF_at (at55 (f := aL aB) (by omega) (fun x _ => at54 x o3)) ?_
  unfold aB
  rw [onB_v, not_any _ _ _ g54]
  refine gd_of (fun h => ⟨?_, k3⟩) (fun h => ?_)
  · simp only [Bool.not_eq_true'] at h
    simp [fits, h]
  have e3 : l.all (fun p => decide (p.length = s.valid.length)) = true := by simpa using h
  rw [shift_p, ld1_p p1 rfl rfl, lenS_aL]
  refine loop29_0 (fun y S' => S' = S3 ∧ ∃ i : Nat, y = aI i ∧ i ≤ s.next.length ∧ ∀ k (hk : k < s.next.length), k < i → (s.next[k].all fun i => decide (0 ≤ i) && decide (i < s.valid.length)) = true) (fun y _ => s.next.length - ((intA y).getD 0).toNat) ⟨rfl, 0, rfl, Nat.zero_le _, fun k _ h => absurd h (Nat.not_lt_zero _)⟩ ?_
  rintro _ _ ⟨rfl, i, rfl, hi, hk⟩ KE hKE
  unfold b29_0 aI
  rw [bin_lss, onB_v]
  refine gd_of (fun h => ?_) (fun h => ?_)
  · have hlt : i < s.next.length := by simpa using h
    rw [ixS_aL hlt, ld1_q]
    refine callF_at (at56 (by have := hs4 _ (List.getElem_mem hlt); omega) (fun x _ => at57 x o3)) ?_
    unfold aB
    have g57 : ∀ x : Int, (decide (x < 0) || decide ((s.valid.length : Int) ≤ x)) = !(decide (0 ≤ x) && decide (x < s.valid.length)) := fun x => by
      have a1 : decide (x < 0) = !decide (0 ≤ x) := by rw [← decide_not]; exact decide_eq_decide.2 Int.not_le.symm
      have a2 : decide ((s.valid.length : Int) ≤ x) = !decide (x < s.valid.length) := by rw [← decide_not]; exact decide_eq_decide.2 Int.not_lt.symm
      rw [Bool.not_and, a1, a2]
    rw [onB_v, not_any _ _ _ g57]
    refine gd_of (fun hg => ⟨?_, k3⟩) (fun hg => ?_)
    · have : s.next.all (fun x => x.all fun i => decide (0 ≤ i) && decide (i < s.valid.length)) = false := by
        rw [List.all_eq_false]
        exact ⟨_, List.getElem_mem hlt, by simpa using hg⟩
      rw [fits, this, Bool.and_false]
    · rw [bin_add (by omega) (by omega)]
      refine hKE _ _ ⟨rfl, i + 1, rfl, hlt, fun k hk1 hk2 => ?_⟩ ?_
      · by_cases e : k = i
        · subst e; simpa using hg
        · exact hk k hk1 (by omega)
      · simp [intA, aI]; omega
  · have hge : i = s.next.length := by simp at h; omega
    subst hge
    have : s.next.all (fun x => x.all fun i => decide (0 ≤ i) && decide (i < s.valid.length)) = true := by
      rw [List.all_eq_true]
      intro x hx
      obtain ⟨k, hk1, rfl⟩ := List.mem_iff_getElem.1 hx
      exact hk k hk1 hk1
    exact ⟨by rw [fits, this, e2, e3, e1]; simp, k3⟩
end Go.Proofs.Ythgkalkllfpjpaa.G

/- It is proved here that each of the laws of sets (SetsMade, SetsFix, SetsMore, SetsFair) returns true for every input and changes none of its arguments. There is no condition beyond the given statement. -/
import Derived.Test.YthgkalkllfpjpaaS1
set_option linter.unusedVariables false
set_option linter.unusedSimpArgs false
namespace Go.Proofs.Ythgkalkllfpjpaa.G
open Go Go.Ab

def bit (p : List Bool) (i : Nat) : Bool := p.getD i false
def nx (s : Sp) (i : Nat) : List Int := s.next.getD i []
theorem bit_get {p : List Bool} {i : Nat} (h : i < p.length) : bit p i = p[i] := by simp [bit, List.getD_eq_getElem?_getD, h]
theorem nx_get {s : Sp} {i : Nat} (h : i < s.next.length) : nx s i = s.next[i] := by simp [nx, List.getD_eq_getElem?_getD, h]
/-- A row by its places. -/
def tab {α : Type} (n : Nat) (f : Nat → α) : List α := (List.range n).map f
@[simp] theorem tab_len {α : Type} (n : Nat) (f : Nat → α) : (tab n f).length = n := by simp [tab]
theorem tab_get {α : Type} {n : Nat} {f : Nat → α} {i : Nat} (h : i < n) : (tab n f)[i]? = some (f i) := by simp [tab, h]
theorem tab_set {α : Type} {n : Nat} {f : Nat → α} {i : Nat} {x : α} : (tab n f).set i x = tab n (fun k => if k = i then x else f k) := by
  apply List.ext_getElem?
  intro k
  rw [List.getElem?_set]
  by_cases hk : k < n
  · by_cases e : i = k
    · subst e; rw [if_pos rfl, tab_get hk]; simp [hk]
    · rw [if_neg e, tab_get hk, tab_get hk, if_neg (Ne.symm e)]
  · by_cases e : i = k
    · subst e; simp [tab, hk]
    · rw [if_neg e]; simp [tab, hk]
theorem tab_congr {α : Type} {n : Nat} {f g : Nat → α} (h : ∀ i, i < n → f i = g i) : tab n f = tab n g :=
  List.map_congr_left fun i hi => h i (by simpa using hi)
theorem tab_bit (p : List Bool) : p = tab p.length (bit p) := by
  apply List.ext_getElem?
  intro k
  by_cases hk : k < p.length
  · rw [tab_get hk, bit_get hk, List.getElem?_eq_getElem hk]
  · simp [tab, hk]
theorem tab_map {α β : Type} {n : Nat} {f : Nat → α} {g : α → β} : (tab n f).map g = tab n (fun i => g (f i)) := by simp [tab]
theorem tab_rep {α : Type} (n : Nat) (x : α) : List.replicate n x = tab n (fun _ => x) := by
  apply List.ext_getElem?
  intro k
  by_cases hk : k < n
  · rw [tab_get hk]; simp [hk]
  · simp [tab, hk]

def exP (s : Sp) (p : List Bool) : List Bool := tab p.length fun i => bit s.valid i && (nx s i).any fun k => bit p k.toNat

theorem at60 {p : List Bool} {k : Int} (h0 : 0 ≤ k) (h1 : k < p.length) {S : Store} {id t : Nat} {l : Bool} (h : S.obj id = some (.cells t [[aL aB p]] l)) : AnsAt Try.prog 60 [aI k, .p id 0 0] S (aB (bit p k.toNat)) := by
  refine calls60 ?_
  unfold m60
  have hk : k.toNat < p.length := by omega
  rw [ld1_p h rfl rfl]
  obtain ⟨n, rfl⟩ := Int.eq_ofNat_of_zero_le h0
  unfold aI
  rw [ixS_aL (i := n) (by simpa using hk), ld1_q, bit_get hk]
  exact ⟨rfl, rfl⟩

/-- The space fits, and so does the set. -/
structure Fit (s : Sp) (p : List Bool) : Prop where
  small : s.small
  next : s.next.length = s.valid.length
  len : p.length = s.valid.length
  fair : ∀ f ∈ s.fair, f.length = s.valid.length
  behind : ∀ i, ∀ k ∈ nx s i, 0 ≤ k ∧ k < s.valid.length
theorem Fit.of {s : Sp} (hs : s.small) {l : List (List Bool)} (h : fits s l = true) {p : List Bool} (hp : p ∈ l) : Fit s p := by
  simp only [fits, Bool.and_eq_true, decide_eq_true_eq, List.all_eq_true] at h
  obtain ⟨⟨⟨h1, h2⟩, h3⟩, h4⟩ := h
  refine ⟨hs, h1, h3 p hp, h2, fun i k hk => ?_⟩
  unfold nx at hk
  rw [List.getD_eq_getElem?_getD] at hk
  cases hq : s.next[i]? with
  | none => rw [hq] at hk; simp at hk
  | some x =>
    rw [hq] at hk
    exact h4 x (List.mem_of_getElem? hq) k hk

theorem ans31 {s : Sp} {p : List Bool} (hf : Fit s p) : Ans Try.prog 31 [s.av, aL aB p] (aL aB (exP s p)) := by
  refine ACalls.ans_own (f := fun b => .bool b) (e := 4) fun S => calls31 ?_
  obtain ⟨⟨hs1, hs2, hs3, hs4⟩, hn, hl, _, hb⟩ := hf
  unfold m31 Sp.av
  refine boxA_of rfl fun S1 k1 n1 o1 => ?_
  refine box1_of rfl fun S2 k2 n2 o2 => ?_
  rw [ld1_p o2 rfl rfl, lenS_aL]
  refine mk_of (by omega) (by omega) fun S3 k3 n3 o3 => ?_
  have p1 := (k3.2 S.n (by omega)).trans ((k2.2 S.n (by omega)).trans o1)
  have p2 := (k3.2 S1.n (by omega)).trans o2
  rw [shift_p, ld1_p p1 rfl rfl, lenS_aL]
  refine loop31_0 (fun y S' => Keep S S' ∧ S'.obj S.n = some (.cells 26 [s.cells] true) ∧ S'.obj S1.n = some (.cells 22 [[aL aB p]] true) ∧ S3.n ≤ S'.n ∧
      ∃ i : Nat, y = aI i ∧ i ≤ s.next.length ∧ S'.obj S2.n = some (.cells 4 (tab p.length fun k => [aB (if k < i then bit s.valid k && (nx s k).any fun k => bit p k.toNat else false)]) true))
    (fun y _ => s.next.length - ((intA y).getD 0).toNat) ⟨(k1.trans k2).trans k3, p1, p2, Nat.le_refl _, 0, rfl, Nat.zero_le _, by rw [o3, tab_rep]; simp [aB]⟩ ?_
  rintro _ S4 ⟨k4, q1, q2, n4, i, rfl, hi, q3⟩ KE hKE
  unfold b31_0 aI
  rw [bin_lss, onB_v]
  refine gd_of (fun h => ?_) (fun h => ?_)
  · have hlt : i < s.next.length := by simpa using h
    have hv : i < s.valid.length := by omega
    rw [ixS_aL hlt, ld1_q, shift_p, ld1_p q1 rfl rfl, ixS_aL hv, ld1_q]
    have step : ∀ (b : Bool) (S5 : Store), b = (bit s.valid i && (nx s i).any fun k => bit p k.toNat) → S5.n = S4.n → S5.obj S2.n = some (.cells 4 ((tab p.length fun k => [aB (if k < i then bit s.valid k && (nx s k).any fun k => bit p k.toNat else false)]).set i [aB b]) true) → (∀ x, x ≠ S2.n → S5.obj x = S4.obj x) →
        KE 34 (env31_0 (.p S.n 0 0) (.p S1.n 0 0) (.s S2.n 0 p.length) (aL (aL aI) s.next) (.v (.int .i64 s.next.length)) (aI (i + 1 : Nat))) S5 := by
      intro b S5 hbv n5 o5 f5
      refine hKE _ _ ⟨k4.st (by omega) n5 f5, (f5 _ (by omega)).trans q1, (f5 _ (by omega)).trans q2, by omega, i + 1, rfl, hlt, ?_⟩ ?_
      · rw [o5, tab_set, hbv]
        congr 2
        refine tab_congr fun k hk => ?_
        by_cases e : k = i
        · subst e; simp
        · have : k < i + 1 ↔ k < i := by omega
          simp [e, this]
      · simp [intA, aI]; omega
    have hi2 : i < p.length := by omega
    have hadd : ∀ K : AV → Store → Prop, ∀ S, bin .add 0 (.v (.int .i64 (i : Int))) (.v (.int .i64 1)) S K = K (aI (i + 1 : Nat)) S := fun K S => bin_add (by omega) (by omega) 0
    unfold aB
    rw [onB_v]
    refine gd_of (fun hvi => ?_) (fun hvi => ?_)
    · refine callF_at (at56 (g := fun k => bit p k.toNat) (by have := hs4 _ (List.getElem_mem hlt); omega) (fun k hk => at60 ?_ ?_ q2)) ?_
      · exact (hb i k (by rw [nx_get hlt]; exact hk)).1
      · have := (hb i k (by rw [nx_get hlt]; exact hk)).2
        omega
      rw [ixS_s hi2 q3]
      refine st_of q3 (by rw [Nat.zero_add]; exact tab_get hi2) rfl fun S5 n5 o5 f5 => ?_
      rw [hadd]
      refine step _ S5 ?_ n5 (by rw [o5]; congr 3; simp [aB]) f5
      rw [bit_get hv, hvi, nx_get hlt]; simp
    · rw [ixS_s hi2 q3]
      refine st_of q3 (by rw [Nat.zero_add]; exact tab_get hi2) rfl fun S5 n5 o5 f5 => ?_
      rw [hadd]
      refine step false S5 ?_ n5 (by rw [o5]; congr 3; simp [aB]) f5
      rw [bit_get hv, hvi]; simp
  · have hge : i = s.next.length := by simp at h; omega
    subst hge
    refine ⟨_, rfl, k4, .inr ⟨S2.n, by simp [exP], by omega, by omega, ?_⟩⟩
    rw [q3, exP, tab_map]
    congr 2
    refine tab_congr fun k hk => ?_
    have : k < s.next.length := by omega
    simp [this, aB]
end Go.Proofs.Ythgkalkllfpjpaa.G

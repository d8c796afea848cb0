/- It is proved here that each of the laws of sets (SetsMade, SetsFix, SetsMore, SetsFair) returns true for every input and changes none of its arguments. There is no condition beyond the given statement. -/
import Derived.Test.YthgkalkllfpjpaaS3
set_option linter.unusedVariables false
set_option linter.unusedSimpArgs false
namespace Go.Proofs.Ythgkalkllfpjpaa.G
open Go Go.Ab

def rowP (s : Sp) (i : Nat) : List (Nat × Nat) := if bit s.valid i then (nx s i).map fun k => (k.toNat, i) else []
def prsTo (s : Sp) : Nat → List (Nat × Nat)
  | 0 => []
  | i + 1 => prsTo s i ++ rowP s i
def sel (P : List (Nat × Nat)) (k : Nat) : List Int := (P.filter (·.1 == k)).map fun p => (p.2 : Int)
def aheadP (s : Sp) : List (List Int) := tab s.next.length (sel (prsTo s s.next.length))
theorem sel_len (P : List (Nat × Nat)) (k : Nat) : (sel P k).length ≤ P.length := by
  simp only [sel, List.length_map]
  exact List.length_filter_le _ _
theorem sel_add (P : List (Nat × Nat)) (k i k' : Nat) : sel (P ++ [(k, i)]) k' = if k = k' then sel P k' ++ [(i : Int)] else sel P k' := by
  by_cases h : k = k' <;> simp [sel, List.filter_append, h]
theorem rowP_len (s : Sp) (i : Nat) : (rowP s i).length ≤ (nx s i).length := by
  unfold rowP
  split <;> simp
theorem nx_len {s : Sp} (hs : s.small) (i : Nat) : (nx s i).length < 1048576 := by
  by_cases h : i < s.next.length
  · rw [nx_get h]; exact hs.2.2.2 _ (List.getElem_mem h)
  · simp [nx, List.getD_eq_getElem?_getD, List.getElem?_eq_none (Nat.le_of_not_lt h)]
theorem prsTo_len {s : Sp} (hs : s.small) : ∀ i, (prsTo s i).length ≤ i * 1048576
  | 0 => by simp [prsTo]
  | i + 1 => by
    have h1 := prsTo_len hs i
    have h2 := rowP_len s i
    have h3 := nx_len hs i
    simp only [prsTo, List.length_append]
    omega
/-- Rows of one's own, in a row of one's own. -/
structure Rows2 (S : Store) (id n : Nat) (P : List (Nat × Nat)) (xs : Nat → AV) : Prop where
  lt : id < S.n
  obj : S.obj id = some (.cells 28 (tab n fun k => [xs k]) true)
  own : ∀ k, k < n → Own (id + 1) S (xs k) 3 ((sel P k).map fun i => [aI i])
  apart : ∀ k k', k < n → k' < n → k ≠ k' → Apart (xs k) (xs k')

theorem Rows2.add {S : Store} {id n : Nat} {P : List (Nat × Nat)} {xs : Nat → AV} (h : Rows2 S id n P xs) {k i : Nat} (hk : k < n) {S1 S2 : Store} {x : AV} (ho : Own (id + 1) S1 x 3 ((sel P k).map (fun i => [aI i]) ++ [[aI i]])) (hb : But S S1 (xs k)) (hx : ∃ m, x = .s S.n 0 m)
    (n2 : S2.n = S1.n) (o2 : S2.obj id = some (.cells 28 ((tab n fun k => [xs k]).set (0 + k) [x]) true)) (f2 : ∀ y, y ≠ id → S2.obj y = S1.obj y) : Rows2 S2 id n (P ++ [(k, i)]) (fun j => if j = k then x else xs j) where
  lt := by have := h.lt; have := hb.1; omega
  obj := by
    rw [o2, Nat.zero_add, tab_set]
    congr 2
    refine tab_congr fun j hj => ?_
    split <;> rfl
  own j hj := by
    have hsame : ∀ {y : AV} {es : List (List AV)}, Own (id + 1) S1 y 3 es → Own (id + 1) S2 y 3 es := fun h => h.same (by omega) (fun q h1 h2 => f2 q (by omega))
    rw [sel_add]
    by_cases e : j = k
    · subst e
      rw [if_pos rfl, if_pos rfl, List.map_append]
      exact hsame ho
    · rw [if_neg e, if_neg (Ne.symm e)]
      exact hsame ((h.own j hj).but hb (h.apart k j hk hj (Ne.symm e)))
  apart j j' hj hj' hne := by
    obtain ⟨m, rfl⟩ := hx
    have hlt : ∀ q, q < n → ∀ i b m, xs q = .s i b m → i < S.n := by
      intro q hq i b m e
      rcases h.own q hq with ⟨h1, _⟩ | ⟨id', h1, h2, h3, h4⟩
      · rw [h1] at e; cases e
      · rw [h1] at e; cases e; exact h3
    intro i b m1 b' m' e1 e2
    by_cases ej : j = k
    · by_cases ej' : j' = k
      · omega
      · simp only [ej, if_pos, if_neg ej'] at e1 e2
        cases e1
        have := hlt j' hj' _ _ _ e2
        omega
    · by_cases ej' : j' = k
      · simp only [ej', if_pos, if_neg ej] at e1 e2
        cases e2
        have := hlt j hj _ _ _ e1
        omega
      · simp only [if_neg ej, if_neg ej'] at e1 e2
        exact h.apart j j' hj hj' hne _ _ _ _ _ e1 e2
theorem Rows2.cv {S : Store} {id n : Nat} {P : List (Nat × Nat)} {xs : Nat → AV} (h : Rows2 S id n P xs) {m : Nat} (hm : m ≤ id) : Cv (S.frz (newer m)) m (.s id 0 n) (aL (aL aI) (tab n (sel P))) := by
  have ho : Own m S (.s id 0 (tab n fun k => [xs k]).length) 28 (tab n fun k => [xs k]) := .inr ⟨id, rfl, hm, h.lt, h.obj⟩
  rw [tab_len] at ho
  refine ho.cv rfl (by simp) fun i c c2 hc hc2 => ?_
  have hi : i < n := by
    have := (List.getElem?_eq_some_iff.1 hc).1
    simpa using this
  rw [tab_get hi] at hc
  rw [tab_map, tab_get hi] at hc2
  cases hc
  cases hc2
  refine ⟨rfl, fun k u u2 hk hk2 => ?_⟩
  cases k with
  | zero =>
    cases hk
    cases hk2
    exact Own.cv_v (f := fun i : Int => .int .i64 i) ((h.own i hi).low (by omega))
  | succ k => simp at hk

theorem ans59 {s : Sp} {p : List Bool} (hf : Fit s p) : Ans Try.prog 59 [s.av] (aL (aL aI) (aheadP s)) := by
  intro S
  refine ACalls.tree (calls59 ?_)
  have hs := hf.small
  obtain ⟨⟨hs1, hs2, hs3, hs4⟩, hn, hl, _, hb⟩ := hf
  unfold m59 Sp.av
  refine boxA_of rfl fun S1 k1 n1 o1 => ?_
  rw [shift_p, ld1_p o1 rfl rfl, lenS_aL]
  refine mk_of (by omega) (by omega) fun S2 k2 n2 o2 => ?_
  have p1 := (k2.2 S.n (by omega)).trans o1
  rw [shift_p, ld1_p p1 rfl rfl, lenS_aL]
  refine loop59_0 (fun y S' => Keep S S' ∧ S'.obj S.n = some (.cells 26 [s.cells] true) ∧ ∃ i : Nat, y = aI i ∧ i ≤ s.next.length ∧ ∃ xs, Rows2 S' S1.n s.next.length (prsTo s i) xs)
    (fun y _ => s.next.length - ((intA y).getD 0).toNat) ⟨k1.trans k2, p1, 0, rfl, Nat.zero_le _, fun _ => .nl, ⟨by omega, by rw [o2, tab_rep], fun k hk => .nl _ _ _, fun k k' _ _ _ i b m b' m' e => by cases e⟩⟩ ?_
  rintro _ S3 ⟨k3, q3, i, rfl, hi, xs, hR⟩ KE hKE
  unfold b59_0
  rw [bin_lss, onB_v]
  refine gd_of (fun h => ?_) (fun h => ?_)
  · have hlt : i < s.next.length := by simpa using h
    have hv : i < s.valid.length := by omega
    have hrow : (nx s i).length < 1048576 := nx_len hs i
    rw [ixS_aL hlt, ld1_q, lenS_aL, ← nx_get hlt]
    refine loop59_1 (fun y S' => Keep S S' ∧ S'.obj S.n = some (.cells 26 [s.cells] true) ∧ ∃ j : Nat, y = aI j ∧ j ≤ (nx s i).length ∧ ∃ xs, Rows2 S' S1.n s.next.length (prsTo s i ++ (rowP s i).take j) xs)
      (fun y _ => (nx s i).length - ((intA y).getD 0).toNat) ⟨k3, q3, 0, rfl, Nat.zero_le _, xs, by simpa using hR⟩ ?_
    rintro _ S4 ⟨k4, q4, j, rfl, hj, ys, hR4⟩ KE1 hKE1
    unfold b59_1
    rw [bin_lss, onB_v]
    refine gd_of (fun h => ?_) (fun h => ?_)
    · have hjl : j < (nx s i).length := by simpa using h
      rw [ixS_aL hjl, ld1_q, shift_p, ld1_p q4 rfl rfl, ixS_aL hv, ld1_q, onB_v]
      have hadd : ∀ K : AV → Store → Prop, ∀ S, bin .add 0 (.v (.int .i64 (j : Int))) (.v (.int .i64 1)) S K = K (aI (j + 1 : Nat)) S := fun K S => bin_add (by omega) (by omega) 0
      have hμ : (nx s i).length - ((intA (aI (j + 1 : Nat))).getD 0).toNat < (nx s i).length - ((intA (aI j)).getD 0).toNat := by simp [intA]; omega
      refine gd_of (fun hvi => ?_) (fun hvi => ?_)
      · have hkb := hb i _ (List.getElem_mem hjl)
        obtain ⟨k, hk⟩ := Int.eq_ofNat_of_zero_le hkb.1
        have hkn : k < s.next.length := by rw [hk] at hkb; omega
        have hrp : (rowP s i).take (j + 1) = (rowP s i).take j ++ [(k, i)] := by
          have hlen : j < (rowP s i).length := by simp [rowP, bit_get hv, hvi, hjl]
          rw [List.take_add_one, List.getElem?_eq_getElem hlen]
          have : (rowP s i)[j] = (k, i) := by
            have : (rowP s i) = (nx s i).map fun k => (k.toNat, i) := by simp [rowP, bit_get hv, hvi]
            simp [this, hk]
          rw [this]; rfl
        rw [hk, ixS_s hkn hR4.obj, ld1_p hR4.obj (by rw [Nat.zero_add]; exact tab_get hkn) rfl]
        refine bsl1 rfl (fun _ h => by cases h) ?_
        have hsl := sel_len (prsTo s i ++ (rowP s i).take j) k
        have hpl := prsTo_len hs i
        have hrl := rowP_len s i
        refine (hR4.own k hkn).app (b := 8) (c := [aI i]) (y := .l [[aI i]]) (by have := hR4.lt; omega) rfl (by simp at hsl ⊢; omega) (fun x S5 ho5 hb5 hx5 => ?_) rfl
        have o5 : S5.obj S1.n = some (.cells 28 (tab s.next.length fun k => [ys k]) true) := by
          rw [hb5.2 S1.n hR4.lt (fun b m e => ?_)]
          · exact hR4.obj
          · rcases hR4.own k hkn with ⟨h1, _⟩ | ⟨id', h1, h2, h3, h4⟩
            · rw [h1] at e; cases e
            · rw [h1] at e; cases e; omega
        have q5 : S5.obj S.n = some (.cells 26 [s.cells] true) := by
          rw [hb5.2 S.n (by have := hR4.lt; omega) (fun b m e => ?_)]
          · exact q4
          · rcases hR4.own k hkn with ⟨h1, _⟩ | ⟨id', h1, h2, h3, h4⟩
            · rw [h1] at e; cases e
            · rw [h1] at e; cases e; omega
        have k5 : Keep S S5 := (hR4.own k hkn).keep (S0 := S) (by omega) hb5 k4
        rw [ixS_s hkn o5]
        obtain ⟨m5, hm5⟩ := hx5
        refine st_of o5 (by rw [Nat.zero_add]; exact tab_get hkn) (by rw [hm5]; rfl) fun S6 n6 o6 f6 => ?_
        rw [hadd]
        refine hKE1 _ _ ⟨k5.st (by omega) n6 f6, (f6 _ (by omega)).trans q5, j + 1, rfl, hjl, fun q => if q = k then x else ys q, ?_⟩ hμ
        rw [hrp, ← List.append_assoc]
        exact hR4.add hkn ho5 hb5 ⟨m5, hm5⟩ n6 o6 f6
      · rw [hadd]
        refine hKE1 _ _ ⟨k4, q4, j + 1, rfl, hjl, ys, ?_⟩ hμ
        have : rowP s i = [] := by simp [rowP, bit_get hv, hvi]
        rw [this] at hR4 ⊢
        simpa using hR4
    · have hge : j = (nx s i).length := by simp at h; omega
      subst hge
      rw [bin_add (by omega) (by omega)]
      refine hKE _ _ ⟨k4, q4, i + 1, rfl, hlt, ys, ?_⟩ (by simp [intA]; omega)
      rw [List.take_of_length_le (rowP_len s i)] at hR4
      exact hR4
  · have hge : i = s.next.length := by simp at h; omega
    subst hge
    refine ⟨_, rfl, k3, hR.cv (by omega)⟩
end Go.Proofs.Ythgkalkllfpjpaa.G

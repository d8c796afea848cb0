/- It is proved here that each of the laws of sets (SetsMade, SetsFix, SetsMore, SetsFair) returns true for every input and changes none of its arguments. There is no condition beyond the given statement. -/
import Derived.Test.YthgkalkllfpjpaaS4
set_option linter.unusedVariables false
set_option linter.unusedSimpArgs false
namespace Go.Proofs.Ythgkalkllfpjpaa.G
open Go Go.Ab

/-- There is a way of p to q. -/
inductive Reach (s : Sp) (p q : List Bool) : Nat → Prop
  | base (i : Nat) (h1 : bit q i = true) (h2 : bit s.valid i = true) : Reach s p q i
  | step (i k : Nat) (h1 : bit p i = true) (h2 : bit s.valid i = true) (h3 : (k : Int) ∈ nx s i) (h : Reach s p q k) : Reach s p q i
open Classical in
noncomputable def euP (s : Sp) (p q : List Bool) : List Bool := tab q.length fun i => decide (Reach s p q i)

theorem nodup_lt : ∀ (n : Nat) (l : List Nat), l.Nodup → (∀ x ∈ l, x < n) → l.length ≤ n
  | 0, l, _, h => by
    cases l with
    | nil => simp
    | cons x l => exact absurd (h x (by simp)) (Nat.not_lt_zero _)
  | n + 1, l, hd, h => by
    have h1 := nodup_lt n (l.erase n) (hd.erase n) (fun x hx => by
      have := (hd.mem_erase_iff).1 hx
      have := h x this.2
      omega)
    by_cases hm : n ∈ l
    · have := List.length_erase_of_mem hm
      omega
    · rw [List.erase_of_not_mem hm] at h1
      omega
theorem mem_rowP {s : Sp} {i c j : Nat} : (c, j) ∈ rowP s i ↔ j = i ∧ bit s.valid i = true ∧ ∃ k ∈ nx s i, k.toNat = c := by
  unfold rowP
  split
  · rename_i h
    simp only [List.mem_map, Prod.mk.injEq, h, true_and]
    constructor
    · rintro ⟨k, h1, h2, h3⟩; exact ⟨h3.symm, k, h1, h2⟩
    · rintro ⟨h3, k, h1, h2⟩; exact ⟨k, h1, h2, h3.symm⟩
  · rename_i h
    simp [h]
theorem mem_prsTo {s : Sp} {c j : Nat} : ∀ {i : Nat}, (c, j) ∈ prsTo s i ↔ j < i ∧ bit s.valid j = true ∧ ∃ k ∈ nx s j, k.toNat = c
  | 0 => by simp [prsTo]
  | i + 1 => by
    rw [prsTo, List.mem_append, mem_prsTo, mem_rowP]
    constructor
    · rintro (⟨h1, h2⟩ | ⟨rfl, h2⟩)
      · exact ⟨by omega, h2⟩
      · exact ⟨by omega, h2⟩
    · rintro ⟨h1, h2⟩
      by_cases e : j = i
      · subst e; exact .inr ⟨rfl, h2⟩
      · exact .inl ⟨by omega, h2⟩
theorem mem_sel {P : List (Nat × Nat)} {c : Nat} {x : Int} : x ∈ sel P c ↔ ∃ j : Nat, x = j ∧ (c, j) ∈ P := by
  simp only [sel, List.mem_map, List.mem_filter, beq_iff_eq]
  constructor
  · rintro ⟨⟨a, b⟩, ⟨h1, rfl⟩, h3⟩; exact ⟨b, h3.symm, h1⟩
  · rintro ⟨j, rfl, h⟩; exact ⟨(c, j), ⟨h, rfl⟩, rfl⟩

/-- What is found so far. -/
structure Found (s : Sp) (p q : List Bool) (n : Nat) (out : Nat → Bool) (come : List Nat) : Prop where
  nodup : come.Nodup
  lt : ∀ x ∈ come, x < n
  out : ∀ i, i < n → (out i = true ↔ i ∈ come)
  reach : ∀ x ∈ come, Reach s p q x
  base : ∀ i, i < n → bit q i = true → bit s.valid i = true → i ∈ come
def Shut (s : Sp) (p : List Bool) (come : List Nat) (c : Nat) : Prop := ∀ i, i < s.next.length → bit s.valid i = true → (c : Int) ∈ nx s i → bit p i = true → i ∈ come
theorem Found.len {s : Sp} {p q : List Bool} {n : Nat} {out : Nat → Bool} {come : List Nat} (h : Found s p q n out come) : come.length ≤ n := nodup_lt n come h.nodup h.lt
theorem Found.add {s : Sp} {p q : List Bool} {n : Nat} {out : Nat → Bool} {come : List Nat} (h : Found s p q n out come) {i : Nat} (hi : i < n) (ho : out i = false) (hr : Reach s p q i) : Found s p q n (fun k => if k = i then true else out k) (come ++ [i]) where
  nodup := by
    rw [List.nodup_append]
    refine ⟨h.nodup, by simp, fun a ha b hb => ?_⟩
    simp only [List.mem_singleton] at hb
    subst hb
    rintro rfl
    rw [(h.out _ hi).2 ha] at ho
    cases ho
  lt x hx := by
    rcases List.mem_append.1 hx with hx | hx
    · exact h.lt x hx
    · simp only [List.mem_singleton] at hx; omega
  out k hk := by
    by_cases e : k = i
    · subst e; simp
    · simp [e, h.out k hk]
  reach x hx := by
    rcases List.mem_append.1 hx with hx | hx
    · exact h.reach x hx
    · simp only [List.mem_singleton] at hx; subst hx; exact hr
  base k hk h1 h2 := List.mem_append_left _ (h.base k hk h1 h2)
theorem Shut.more {s : Sp} {p : List Bool} {come : List Nat} {c : Nat} (h : Shut s p come c) (x : Nat) : Shut s p (come ++ [x]) c := fun i h1 h2 h3 h4 => List.mem_append_left _ (h i h1 h2 h3 h4)
/-- All is found. -/
theorem Found.done {s : Sp} {p q : List Bool} {n : Nat} {out : Nat → Bool} {come : List Nat} (h : Found s p q n out come) (hn : s.valid.length = n) (hn' : s.next.length = n) (hs : ∀ c ∈ come, Shut s p come c) {i : Nat} (hi : i < n) : out i = true ↔ Reach s p q i := by
  rw [h.out i hi]
  refine ⟨h.reach i, fun hr => ?_⟩
  clear hi
  have hlt : ∀ i, bit s.valid i = true → i < n := by
    intro i hb
    rcases Nat.lt_or_ge i n with h | h
    · exact h
    · rw [bit, List.getD_eq_getElem?_getD, List.getElem?_eq_none (by omega)] at hb
      cases hb
  induction hr with
  | base i h1 h2 => exact h.base i (hlt i h2) h1 h2
  | step i k h1 h2 h3 hr ih => exact hs k ih i (by have := hlt i h2; omega) h2 h3 h1

theorem own30 {s : Sp} {p q : List Bool} (hfp : Fit s p) (hfq : Fit s q) : OwnB 30 [s.av, aL aB p, aL aB q] (euP s p q) := by
  intro S
  refine calls30 ?_
  obtain ⟨⟨hs1, hs2, hs3, hs4⟩, hn, hl, _, hb⟩ := hfq
  have hlp := hfp.len
  unfold m30 Sp.av
  refine boxA_of rfl fun S1 k1 n1 o1 => ?_
  rw [shift_p, ld1_p o1 rfl rfl]
  refine OwnB.call (own58 q s.valid (by omega) (by omega)) fun x S2 k2 w2 => ?_
  have hlen : ∀ f : Nat → Bool, ((tab q.length f).map fun b => [aB b]) = tab q.length fun i => [aB (f i)] := fun f => tab_map
  rw [andP, hlen] at w2
  rw [w2.len, tab_len]
  have p2 := (k2.2 S.n (by omega)).trans o1
  replace w2 : Own S1.n S2 x 4 (tab q.length fun k => [aB ((fun i => bit q i && bit s.valid i) k)]) := w2
  generalize ho0 : (fun i => bit q i && bit s.valid i) = o0 at *
  refine loop30_0 (fun y z S' => Keep S S' ∧ S'.obj S.n = some (.cells 26 [s.cells] true) ∧ ∃ i : Nat, z = aI i ∧ i ≤ q.length ∧ Own S1.n S' x 4 (tab q.length fun k => [aB (o0 k)]) ∧
      Own S1.n S' y 3 (((List.range i).filter o0).map fun i : Nat => [aI i]) ∧ Apart y x)
    (fun _ y _ => q.length - ((intA y).getD 0).toNat) ⟨k1.trans k2, p2, 0, rfl, Nat.zero_le _, w2, .nl _ _ _, fun i b m b' m' e => by cases e⟩ ?_
  rintro y _ S3 ⟨k3, q3, i, rfl, hi, wx, wy, hap⟩ KE hKE
  unfold b30_0
  rw [bin_lss, onB_v]
  refine gd_of (fun h => ?_) (fun h => ?_)
  · have hlt : i < q.length := by simpa using h
    obtain ⟨id, rfl, hid, hid2, qx⟩ := Own.ix wx (i := i) (by simpa using hlt)
    rw [ixS_s (by simpa using hlt) qx, ld1_p qx (by rw [Nat.zero_add]; exact tab_get hlt) rfl, onB_v]
    have hadd : ∀ K : AV → Store → Prop, ∀ S, bin .add 0 (.v (.int .i64 (i : Int))) (.v (.int .i64 1)) S K = K (aI (i + 1 : Nat)) S := fun K S => bin_add (by omega) (by omega) 0
    have hμ : q.length - ((intA (aI (i + 1 : Nat))).getD 0).toNat < q.length - ((intA (aI i)).getD 0).toNat := by simp [intA]; omega
    refine gd_of (fun hoi => ?_) (fun hoi => ?_)
    · refine bsl1 rfl (fun _ h => by cases h) ?_
      have hfl := List.length_filter_le o0 (List.range i)
      refine wy.app (b := 8) (c := [aI i]) (y := .l [[aI i]]) (by omega) rfl (by simp at hfl ⊢; omega) (fun x' S5 ho5 hb5 hx5 => ?_) rfl
      rw [hadd]
      obtain ⟨m5, rfl⟩ := hx5
      refine hKE _ _ _ ⟨wy.keep (by omega) hb5 k3, ?_, i + 1, rfl, hlt, wx.but hb5 hap, ?_, ?_⟩ hμ
      · rw [hb5.2 S.n (by have := k3.1; omega) (fun b m e => by have := wy.lt e; omega)]
        exact q3
      · rw [List.range_succ, List.filter_append]
        simpa [hoi] using ho5
      · intro a b m b' m' e1 e2
        cases e1
        cases e2
        omega
    · rw [hadd]
      refine hKE _ _ _ ⟨k3, q3, i + 1, rfl, hlt, wx, ?_, hap⟩ hμ
      rw [List.range_succ, List.filter_append]
      simpa [hoi] using wy
  · have hge : i = q.length := by simp at h; omega
    subst hge
    rw [ldN_p (n := 5) q3 rfl]
    refine callF_ans (ans59 hfp) ?_
    have hF0 : Found s p q q.length o0 ((List.range q.length).filter o0) := by
      refine ⟨List.nodup_range.filter _, fun x hx => ?_, fun i hi => by simp [hi], fun x hx => ?_, fun i hi h1 h2 => ?_⟩
      · simpa using (List.mem_filter.1 hx).1
      · have := (List.mem_filter.1 hx).2
        rw [← ho0] at this
        simp only [Bool.and_eq_true] at this
        exact .base x this.1 this.2
      · rw [List.mem_filter, ← ho0]
        simp [hi, h1, h2]
    refine loop30_1 (fun y z S' => Keep S S' ∧ ∃ (m : Nat) (out : Nat → Bool) (come : List Nat), z = aI m ∧ m ≤ come.length ∧ Own S1.n S' x 4 (tab q.length fun k => [aB (out k)]) ∧
        Own S1.n S' y 3 (come.map fun i : Nat => [aI i]) ∧ Apart y x ∧ Found s p q q.length out come ∧ ∀ m' c, m' < m → come[m']? = some c → Shut s p come c)
      (fun _ z _ => q.length - ((intA z).getD 0).toNat) ⟨k3, 0, o0, _, rfl, Nat.zero_le _, wx, wy, hap, hF0, fun m' c h => absurd h (Nat.not_lt_zero _)⟩ ?_
    clear KE hKE hF0 hap wy wx hi q3 k3 h y S3
    rintro y _ S3 ⟨k3, m, out, come, rfl, hm, wx, wy, hap, hF, hsh⟩ KE hKE
    unfold b30_1
    rw [wy.len, bin_lss, onB_v]
    have hcl := hF.len
    refine gd_of (fun h => ?_) (fun h => ?_)
    · have hlt : m < come.length := by simpa using h
      obtain ⟨id, rfl, hid, hid2, qy⟩ := Own.ix wy (i := m) (by simpa using hlt)
      obtain ⟨c, hc⟩ : ∃ c, come[m]? = some c := ⟨_, List.getElem?_eq_getElem hlt⟩
      have hcn := hF.lt c (List.mem_of_getElem? hc)
      have hcA : c < (aheadP s).length := by simp [aheadP]; omega
      rw [ixS_s (by simpa using hlt) qy, ld1_p qy (c := [aI c]) (u := aI c) (by simp [hc]) rfl, ixS_aL hcA, ld1_q, lenS_aL]
      generalize hL : (aheadP s)[c] = L
      have hLc : L = sel (prsTo s s.next.length) c := by rw [← hL]; simp [aheadP, tab]
      have hLl : L.length < 9223372036854775807 := by
        have h1 := sel_len (prsTo s s.next.length) c
        have h2 := prsTo_len hfp.small s.next.length
        rw [hLc]
        omega
      refine loop30_2 (fun y z S' => Keep S S' ∧ ∃ (j : Nat) (out : Nat → Bool) (come : List Nat), z = aI j ∧ j ≤ L.length ∧ m < come.length ∧ come[m]? = some c ∧ Own S1.n S' x 4 (tab q.length fun k => [aB (out k)]) ∧
          Own S1.n S' y 3 (come.map fun i : Nat => [aI i]) ∧ Apart y x ∧ Found s p q q.length out come ∧ (∀ m' c, m' < m → come[m']? = some c → Shut s p come c) ∧ ∀ (j' i : Nat), j' < j → L[j']? = some (i : Int) → bit p i = true → i ∈ come)
        (fun _ z _ => L.length - ((intA z).getD 0).toNat) ⟨k3, 0, out, come, rfl, Nat.zero_le _, hlt, hc, wx, wy, hap, hF, hsh, fun j' i h => absurd h (Nat.not_lt_zero _)⟩ ?_
      clear hsh hF hap wy wx hm k3 h hcl qy hid hid2 hlt hc
      rintro y _ S4 ⟨k4, j, out, come, rfl, hj, hlt, hc, wx, wy, hap, hF, hsh, hjs⟩ KE2 hKE2
      unfold b30_2
      rw [bin_lss, onB_v]
      have hcl := hF.len
      refine gd_of (fun h => ?_) (fun h => ?_)
      · have hjl : j < L.length := by simpa using h
        have hmem : L[j] ∈ sel (prsTo s s.next.length) c := by rw [← hLc]; exact List.getElem_mem hjl
        obtain ⟨i, hi, hpr⟩ := mem_sel.1 hmem
        obtain ⟨hin, hiv, k, hk, hkc⟩ := mem_prsTo.1 hpr
        have hin' : i < q.length := by omega
        have hip : i < p.length := by omega
        have hck : (c : Int) ∈ nx s i := by
          have := (hb i k hk).1
          rw [← hkc, Int.toNat_of_nonneg this]; exact hk
        have hadd : ∀ K : AV → Store → Prop, ∀ S, bin .add 0 (.v (.int .i64 (j : Int))) (.v (.int .i64 1)) S K = K (aI (j + 1 : Nat)) S := fun K S => bin_add (by omega) (by omega) 0
        have hμ : L.length - ((intA (aI (j + 1 : Nat))).getD 0).toNat < L.length - ((intA (aI j)).getD 0).toNat := by simp [intA]; omega
        obtain ⟨id, rfl, hid, hid2, qx⟩ := Own.ix wx (i := i) (by simpa using hin')
        have hjs' : (bit p i = true → i ∈ come) → ∀ (j' i : Nat), j' < j + 1 → L[j']? = some (i : Int) → bit p i = true → i ∈ come := by
          intro hh j' i' h1 h2 h3
          by_cases e : j' = j
          · subst e
            rw [List.getElem?_eq_getElem hjl, hi] at h2
            have : i = i' := by simpa [Int.ofNat_inj] using h2
            subst this
            exact hh h3
          · exact hjs j' i' (by omega) h2 h3
        rw [ixS_aL hjl, ld1_q, hi, ixS_s (by simpa using hin') qx, ld1_p qx (by rw [Nat.zero_add]; exact tab_get hin') rfl, un_not, onB_v]
        refine gd_of (fun hoi => ?_) (fun hoi => ?_)
        · have hoi : out i = false := by simpa using hoi
          rw [ixS_aL hip, ld1_q, onB_v]
          refine gd_of (fun hpi => ?_) (fun hpi => ?_)
          · rw [← bit_get hip] at hpi
            rw [ixS_s (by simpa using hin') qx]
            refine st_of qx (by rw [Nat.zero_add]; exact tab_get hin') rfl fun S5 n5 o5 f5 => ?_
            refine bsl1 rfl (fun _ h => by cases h) ?_
            have wy5 := wy.st (S' := S5) (id := id) (fun b m e => hap _ _ _ _ _ e rfl) n5 f5
            refine wy5.app (b := 8) (c := [aI i]) (y := .l [[aI i]]) (by omega) rfl (by simp; omega) (fun x' S6 ho6 hb6 hx6 => ?_) rfl
            rw [hadd]
            obtain ⟨m6, rfl⟩ := hx6
            have wx5 : Own S1.n S5 (.s id 0 (tab q.length fun k => [aB (out k)]).length) 4 (tab q.length fun k => [aB (if k = i then true else out k)]) := by
              refine .inr ⟨id, by simp, hid, by omega, ?_⟩
              rw [o5, Nat.zero_add, tab_set]
              congr 2
              refine tab_congr fun k hk => ?_
              split <;> rfl
            have hr : Reach s p q i := .step i c hpi hiv hck (hF.reach c (List.mem_of_getElem? hc))
            have hget : ∀ {m' c' : Nat}, m' < come.length → (come ++ [i])[m']? = some c' → come[m']? = some c' := fun h1 h2 => by rwa [List.getElem?_append_left h1] at h2
            refine hKE2 _ _ _ ⟨wy5.keep (by omega) hb6 (k4.st (by omega) n5 f5), j + 1, _, come ++ [i], rfl, hjl, by simp; omega, by rw [List.getElem?_append_left hlt]; exact hc, wx5.but hb6 hap, by simpa using ho6, ?_, hF.add hin' hoi hr, ?_, ?_⟩ hμ
            · intro a b m b' m' e1 e2
              cases e1
              cases e2
              omega
            · intro m' c' h1 h2
              exact (hsh m' c' h1 (hget (by omega) h2)).more i
            · intro j' i' h1 h2 h3
              by_cases e : j' = j
              · subst e
                rw [List.getElem?_eq_getElem hjl, hi] at h2
                have : i = i' := by simpa [Int.ofNat_inj] using h2
                subst this
                simp
              · exact List.mem_append_left _ (hjs j' i' (by omega) h2 h3)
          · rw [← bit_get hip] at hpi
            rw [hadd]
            exact hKE2 _ _ _ ⟨k4, j + 1, out, come, rfl, hjl, hlt, hc, wx, wy, hap, hF, hsh, hjs' (fun h => by rw [hpi] at h; cases h)⟩ hμ
        · have hoi : out i = true := by simpa using hoi
          rw [hadd]
          exact hKE2 _ _ _ ⟨k4, j + 1, out, come, rfl, hjl, hlt, hc, wx, wy, hap, hF, hsh, hjs' (fun h => (hF.out i hin').1 hoi)⟩ hμ
      · have hge : j = L.length := by simp at h; omega
        subst hge
        rw [bin_add (by omega) (by omega)]
        refine hKE _ _ _ ⟨k4, m + 1, out, come, rfl, hlt, wx, wy, hap, hF, ?_⟩ (by simp [intA]; omega)
        intro m' c' h1 h2
        by_cases e : m' = m
        · subst e
          rw [hc] at h2
          cases h2
          intro i h3 h4 h5 h6
          have : (i : Int) ∈ L := by
            rw [hLc]
            exact mem_sel.2 ⟨i, rfl, mem_prsTo.2 ⟨h3, h4, c, h5, by simp⟩⟩
          obtain ⟨j', hj', e⟩ := List.mem_iff_getElem.1 this
          exact hjs j' i hj' (by rw [List.getElem?_eq_getElem hj', e]) h6
        · exact hsh m' c' (by omega) h2
    · have hge : m = come.length := by simp at h; omega
      subst hge
      refine ⟨_, rfl, k3, ?_⟩
      have e : ((euP s p q).map fun b => [aB b]) = tab q.length fun k => [aB (out k)] := by
        rw [euP, tab_map]
        refine tab_congr fun i hi => ?_
        have hd := hF.done (by omega) (by omega) (fun c hc => by
          obtain ⟨m', hm', rfl⟩ := List.mem_iff_getElem.1 hc
          exact hsh m' _ hm' (List.getElem?_eq_getElem hm')) hi
        congr 2
        cases ho : out i with
        | true => simpa using hd.1 ho
        | false => simpa using fun hr => by rw [hd.2 hr] at ho; cases ho
      rw [e]
      exact wx.low (by omega)
end Go.Proofs.Ythgkalkllfpjpaa.G

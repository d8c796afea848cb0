/- It is proved here that each of the laws of sets (SetsMade, SetsFix, SetsMore, SetsFair) returns true for every input and changes none of its arguments. There is no condition beyond the given statement. -/
import Derived.Test.YthgkalkllfpjpaaAb7
import Derived.Below
import Derived.WalkKit
import Derived.ProofKit
set_option linter.unusedVariables false
set_option linter.unusedSimpArgs false
namespace Go.Ab
open Go Go.RowKit

/-! ### What comes in from outside -/
theorem mapM_list {α β : Type} {f : α → Option β} : ∀ {l : List α} {r : List β}, l.mapM f = some r → r.length = l.length ∧ ∀ (i : Nat) (x : α), l[i]? = some x → ∃ y, r[i]? = some y ∧ f x = some y
  | [], r, h => by
    have : r = [] := by simpa using h.symm
    subst this
    exact ⟨rfl, fun i x hx => by simp at hx⟩
  | a :: l, r, h => by
    rw [List.mapM_cons] at h
    cases hb : f a with
    | none => rw [hb] at h; cases h
    | some b =>
      rw [hb] at h
      cases hr : l.mapM f with
      | none => rw [hr] at h; cases h
      | some r' =>
        rw [hr] at h
        have hrr : r = b :: r' := by
          have : some (b :: r') = some r := h
          exact (Option.some.inj this).symm
        subst hrr
        obtain ⟨h1, h2⟩ := mapM_list hr
        refine ⟨by simp [h1], fun i x hx => ?_⟩
        cases i with
        | zero => cases hx; exact ⟨b, rfl, hb⟩
        | succ i => exact h2 i x (by simpa using hx)
theorem cells_list {w : World} {base : Nat} {a : Addr} {n : Nat} {cs : List Value} (h : w.cells? base a n = some cs) : cs.length = n ∧ ∀ i, i < n → ∃ c, cs[i]? = some c ∧ w.cell? (a.add i) = some c := by
  unfold World.cells? at h
  split at h
  · obtain ⟨h1, h2⟩ := mapM_list h
    refine ⟨by simpa using h1, fun i hi => h2 i i (by simp [hi])⟩
  · cases h

def g0 (w : World) : Gh := { n := 0, blk := fun _ => 0, sz := fun _ => 0, cap := fun _ => 0, im := fun b => b < w.heap.size }
def S0 : Store := ⟨0, fun _ => none⟩
theorem heap0 (P : Program) (w : World) : Heap P w (g0 w) S0 where
  n := rfl
  im _ h := h
  ob i o h := by cases h
  sp a b o o' h := by cases h
theorem cell_lt {w : World} {a : Addr} {v : Value} (h : w.cell? a = some v) : a.block < w.heap.size := by
  unfold World.cell? at h
  split at h
  · rename_i hb
    exact (Array.getElem?_eq_some_iff.1 hb).1
  · cases h

theorem list_of {α : Type} {p : Nat → α → Prop} : ∀ (n : Nat), (∀ i, i < n → ∃ a, p i a) → ∃ l : List α, l.length = n ∧ ∀ (i : Nat) (a : α), l[i]? = some a → p i a
  | 0, _ => ⟨[], rfl, fun i a h => by simp at h⟩
  | n + 1, h => by
    obtain ⟨l, h1, h2⟩ := list_of n fun i hi => h i (by omega)
    obtain ⟨a, ha⟩ := h n (by omega)
    refine ⟨l ++ [a], by simp [h1], fun i b hb => ?_⟩
    by_cases hi : i < n
    · rw [List.getElem?_append_left (by omega)] at hb
      exact h2 i b hb
    · rw [List.getElem?_append_right (by omega)] at hb
      have : i = n := by
        have := (List.getElem?_eq_some_iff.1 hb).1
        simp at this
        omega
      subst this
      rw [h1] at hb
      simp at hb
      subst hb
      exact ha
/-- Whatever is read at this type is one of these. -/
def Opens {H : Type} (enc : TypeId × Value → H) (P : Program) (w : World) (sp : Nat → Bool) (held : Bool) (t : TypeId) (sz : Nat) {α : Type} (f : α → List AV) (Q : α → Prop) : Prop :=
  ∀ (fuel : Nat) (cs : List Value) (x : DataW H × List MemPlace), DataW.trod enc P w 0 sp held fuel t cs = some x →
    ∃ a, Q a ∧ (f a).length = sz ∧ cs.length = sz ∧ ∀ (k : Nat) (u : AV) (c : Value), (f a)[k]? = some u → cs[k]? = some c → u.one = true ∧ R w (g0 w) u c

section
variable {H : Type} {enc : TypeId × Value → H} {P : Program} {w : World} {sp : Nat → Bool} {held : Bool}
theorem opens_one {u : AV} {c : Value} (h : u.one = true ∧ R w (g0 w) u c) : ∀ (k : Nat) (u' : AV) (c' : Value), [u][k]? = some u' → [c][k]? = some c' → u'.one = true ∧ R w (g0 w) u' c'
  | 0, _, _, h1, h2 => by cases h1; cases h2; exact h
  | k + 1, _, _, h1, _ => by simp at h1
theorem opens_bool {t : TypeId} (ht : P.underlying t = some .bool) : Opens enc P w sp held t 1 (fun b : Bool => [aB b]) (fun _ => True) := by
  intro fuel cs x h
  cases fuel with
  | zero => cases h
  | succ n =>
    unfold DataW.trod at h
    rw [ht] at h
    split at h <;> rename_i e1 <;> try (cases e1)
    · exact ⟨_, trivial, rfl, rfl, opens_one ⟨rfl, .v _⟩⟩
    · cases h
theorem opens_int {t : TypeId} {k : IntKind} (ht : P.underlying t = some (.int k)) : Opens enc P w sp held t 1 (fun n : Int => [AV.v (.int k n)]) (fun n => (Lit.int k n).wf = true) := by
  intro fuel cs x h
  cases fuel with
  | zero => cases h
  | succ n =>
    unfold DataW.trod at h
    rw [ht] at h
    split at h <;> rename_i e1 <;> try (cases e1)
    · split at h
      · rename_i hk
        obtain ⟨rfl, hw⟩ := hk
        exact ⟨_, hw, rfl, rfl, opens_one ⟨rfl, .v _⟩⟩
      · cases h
    · cases h
theorem opens_string {t : TypeId} (ht : P.underlying t = some .string) : Opens enc P w sp held t 1 (fun b : ByteArray => [AV.v (.string b)]) (fun b => b.size ≤ maxLen) := by
  intro fuel cs x h
  cases fuel with
  | zero => cases h
  | succ n =>
    unfold DataW.trod at h
    rw [ht] at h
    split at h <;> rename_i e1 <;> try (cases e1)
    · split at h
      · rename_i hk
        exact ⟨_, hk, rfl, rfl, opens_one ⟨rfl, .v _⟩⟩
      · cases h
    · cases h
theorem opens_slice {t e : TypeId} {sz : Nat} {α : Type} {f : α → List AV} {Q : α → Prop} (ht : P.underlying t = some (.slice e)) (hc : P.cellsOf e = sz) (hpos : 0 < sz) (he : Opens enc P w sp held e sz f Q) :
    Opens enc P w sp held t 1 (fun l : List α => [.l (l.map f)]) (fun l => l.length ≤ maxLen ∧ ∀ a ∈ l, Q a) := by
  intro fuel cs x h
  cases fuel with
  | zero => cases h
  | succ n =>
    unfold DataW.trod at h
    rw [ht] at h
    split at h <;> rename_i e1 <;> try (cases e1)
    · exact ⟨[], ⟨Nat.zero_le _, fun a h => by cases h⟩, rfl, rfl, opens_one ⟨rfl, .l [] none 0 0 (fun _ _ => undef) (Nat.le_refl _) (fun h => absurd rfl h) (fun i c' j u h => by simp at h) (fun i c' j u h => by simp at h)⟩⟩
    · rename_i a len cap
      rw [hc] at h
      dsimp only at h
      split at h
      · rename_i hb
        obtain ⟨_, hlc, hcm⟩ := hb
        cases hm : (List.range len).mapM (fun i => (w.cells? 0 (a.add (i * sz)) sz).bind (DataW.trod enc P w 0 sp held n e)) with
        | none => rw [hm] at h; cases h
        | some elems =>
          obtain ⟨h1, h2⟩ := mapM_list hm
          have hel : ∀ i, i < len → ∃ (b : α) (cs : List Value), w.cells? 0 (a.add (i * sz)) sz = some cs ∧ Q b ∧ (f b).length = sz ∧ ∀ (k : Nat) (u : AV) (c : Value), (f b)[k]? = some u → cs[k]? = some c → u.one = true ∧ R w (g0 w) u c := by
            intro i hi
            obtain ⟨y, _, hy⟩ := h2 i i (by simp [hi])
            obtain ⟨cs, hcs, hy⟩ := Option.bind_eq_some_iff.1 hy
            obtain ⟨b, hq, hl, _, hr⟩ := he n cs y hy
            exact ⟨b, cs, hcs, hq, hl, hr⟩
          obtain ⟨l, hll, hl⟩ := list_of len hel
          have hv : ∃ vs : Nat → Nat → Value, ∀ (i j : Nat) (v : Value), i < len → j < sz → w.cell? ((a.add (i * sz)).add j) = some v → vs i j = v := by
            refine ⟨fun i j => (w.cell? ((a.add (i * sz)).add j)).getD undef, fun i j v _ _ h => by simp [h]⟩
          obtain ⟨vs, hvs⟩ := hv
          have hadd : ∀ x y : Nat, (a.add x).add y = a.add (x + y) := fun x y => by by_cases h1 : x = 0 <;> by_cases h2 : y = 0 <;> simp [Addr.add, h1, h2, Nat.add_assoc]
          have hR : ∀ (i : Nat) (c' : List AV) (j : Nat) (u : AV), (l.map f)[i]? = some c' → c'[j]? = some u → u.one = true ∧ R w (g0 w) u (vs i j) := by
            intro i c' j u hi hj
            rw [List.getElem?_map] at hi
            obtain ⟨b, hb, rfl⟩ := Option.map_eq_some_iff.1 hi
            have hil : i < len := by
              have := (List.getElem?_eq_some_iff.1 hb).1
              omega
            obtain ⟨cs, hcs, _, hfl, hr⟩ := hl i b hb
            have hjs : j < sz := by
              have := (List.getElem?_eq_some_iff.1 hj).1
              omega
            obtain ⟨c, hc1, hc2⟩ := (cells_list hcs).2 j hjs
            rw [hvs i j c hil hjs hc2]
            exact hr j u c hj hc1
          refine ⟨l, ⟨by omega, fun b hb => ?_⟩, rfl, rfl, opens_one ⟨rfl, ?_⟩⟩
          · obtain ⟨i, hi⟩ := List.getElem?_of_mem hb
            obtain ⟨_, _, hq, _⟩ := hl i b hi
            exact hq
          · have hlen : (l.map f).length = len := by simp [hll]
            have hmain := R.l (w := w) (g := g0 w) (l.map f) (some a) cap sz vs (by omega) (fun hne => ⟨a, rfl, ?_, fun i c' hi => ?_⟩) (fun i c' j u h1 h2 => (hR i c' j u h1 h2).1) (fun i c' j u h1 h2 => (hR i c' j u h1 h2).2)
            · rw [hlen] at hmain
              exact hmain
            · have hl0 : 0 < len := by
                rw [← hlen]
                exact List.length_pos_iff.2 hne
              obtain ⟨b, hb⟩ : ∃ b, l[0]? = some b := ⟨_, List.getElem?_eq_getElem (by omega)⟩
              obtain ⟨cs, hcs, _⟩ := hl 0 b hb
              obtain ⟨c, _, hc2⟩ := (cells_list hcs).2 0 hpos
              have := cell_lt hc2
              exact (by simpa [Addr.add] using this : a.block < w.heap.size)
            · rw [List.getElem?_map] at hi
              obtain ⟨b, hb, rfl⟩ := Option.map_eq_some_iff.1 hi
              have hil : i < len := by
                have := (List.getElem?_eq_some_iff.1 hb).1
                omega
              obtain ⟨cs, hcs, _, hfl, hr⟩ := hl i b hb
              refine ⟨hfl, fun j hj => ?_⟩
              obtain ⟨c, hc1, hc2⟩ := (cells_list hcs).2 j hj
              rw [hvs i j c hil hj hc2, ← hadd]
              exact hc2
      · cases h
    · cases h
theorem trod_struct {t : TypeId} {fs : Array Field} (ht : P.underlying t = some (.struct fs)) {fuel : Nat} {cs : List Value} {x : DataW H × List MemPlace} (h : DataW.trod enc P w 0 sp held fuel t cs = some x) :
    cs.length = P.cellsOf t ∧ ∃ n, ∀ f ∈ fs.toList, ∃ y, DataW.trod enc P w 0 sp held n f.type ((cs.drop f.offset).take (P.cellsOf f.type)) = some y := by
  cases fuel with
  | zero => cases h
  | succ n =>
    unfold DataW.trod at h
    rw [ht] at h
    dsimp only at h
    split at h
    · rename_i hl
      refine ⟨hl, n, fun f hf => ?_⟩
      obtain ⟨xs, hxs, _⟩ := Option.map_eq_some_iff.1 h
      obtain ⟨i, hi⟩ := List.getElem?_of_mem hf
      obtain ⟨y, _, hy⟩ := (mapM_list hxs).2 i f hi
      exact ⟨y, hy⟩
    · cases h
theorem opened_one {t : TypeId} {α : Type} {f : α → AV} {Q : α → Prop} (h : Opens enc P w sp held t 1 (fun a => [f a]) Q) {v : Value} {d : DataW H} {ps : List MemPlace} (hv : v.oneCell' = true) (hd : DataW.Trod enc P w 0 sp held t v d ps) : ∃ a, Q a ∧ R w (g0 w) (f a) v := by
  obtain ⟨n, hn⟩ := hd
  rw [cells_one hv] at hn
  obtain ⟨a, hq, _, _, hr⟩ := h n _ _ hn
  exact ⟨a, hq, (hr 0 (f a) v rfl rfl).2⟩
theorem opened_agg {t : TypeId} {sz : Nat} {α : Type} {f : α → List AV} {Q : α → Prop} (h : Opens enc P w sp held t sz f Q) {cs : Array Value} {d : DataW H} {ps : List MemPlace} (hd : DataW.Trod enc P w 0 sp held t (.agg cs) d ps) : ∃ a, Q a ∧ R w (g0 w) (.a (f a)) (.agg cs) := by
  obtain ⟨n, hn⟩ := hd
  obtain ⟨a, hq, h1, h2, hr⟩ := h n _ _ hn
  have hsz : cs.size = sz := by simpa [Value.cells] using h2
  have hg : ∀ (k : Nat) (u : AV), (f a)[k]? = some u → u.one = true ∧ R w (g0 w) u (cs.getD k undef) := by
    intro k u hu
    have hk : k < cs.size := by
      have := (List.getElem?_eq_some_iff.1 hu).1
      omega
    have := hr k u cs[k] hu (by simp [Value.cells, hk])
    simpa [Array.getD_eq_getD_getElem?, hk] using this
  exact ⟨a, hq, .a _ _ (by omega) (fun k u hu => (hg k u hu).1) (fun k u hu => (hg k u hu).2)⟩
end

/-- A law's call: it returns true, and of what was there nothing turns. -/
theorem ACalls.law {P : Program} {f : FuncId} {args : List AV} (h : Ans P f args (.v (.bool true))) {w : World} {vs : Array Value} (hl : args.length = vs.size) (hr : ∀ (k : Nat) (u : AV), args[k]? = some u → R w (g0 w) u (vs.getD k undef)) :
    Calls P f vs w fun e w' => e = .returned (.bool true) ∧ Below w.heap.size w w' := by
  refine ((h S0).2 w (g0 w) vs (heap0 P w) ⟨hl, hr⟩).mono ?_
  rintro e w' ⟨r, S', g', h1, h2, h3, rfl, rfl⟩
  cases e with
  | returned v => exact ⟨by rw [R.inv_v h3], h2.os, h2.tape, h2.output, h2.size, fun k hk => h2.keep k hk⟩
  | panicked chain => exact h3.elim
  | outgrown => exact h3.elim
theorem args3 {w : World} {g : Gh} {a b c : AV} {x y z : Value} (h1 : R w g a x) (h2 : R w g b y) (h3 : R w g c z) : ∀ (k : Nat) (u : AV), [a, b, c][k]? = some u → R w g u (#[x, y, z].getD k undef)
  | 0, _, h => by cases h; exact h1
  | 1, _, h => by cases h; exact h2
  | 2, _, h => by cases h; exact h3
  | k + 3, _, h => by simp at h
end Go.Ab

/- It is proved here that each of the laws of sets (SetsMade, SetsFix, SetsMore, SetsFair) returns true for every input and changes none of its arguments. There is no condition beyond the given statement. -/
import Derived.Test.YthgkalkllfpjpaaAb7
set_option linter.unusedVariables false
set_option linter.unusedSimpArgs false
namespace Go.Ab
open Go Go.RowKit

/-! ### What one has made, with rows within rows -/
open Classical in
noncomputable def Store.on (S : Store) (F : Nat → Prop) : Store := ⟨S.n, fun i => if F i then S.obj i else none⟩
theorem on_obj {S : Store} {F : Nat → Prop} {i : Nat} {o : AObj} (h : (S.on F).obj i = some o) : F i ∧ S.obj i = some o := by
  simp only [Store.on] at h
  split at h
  · rename_i hf; exact ⟨hf, h⟩
  · cases h
theorem on_of {S : Store} {F : Nat → Prop} {i : Nat} (h : F i) : (S.on F).obj i = S.obj i := by simp [Store.on, h]
theorem Cv.sub {S S' : Store} {n : Nat} {x t : AV} (h : Cv S n x t) (hs : ∀ i o, S.obj i = some o → S'.obj i = some o) : Cv S' n x t := by
  induction h with
  | v x => exact .v x
  | nl => exact .nl
  | nl' => exact .nl'
  | p id i j h => exact .p id i j h
  | s' id b m h => exact .s' id b m h
  | s id b m t es es2 ho hb hl hc hR ih => exact .s id b m t es es2 (hs _ _ ho) hb hl hc ih
  | l es es2 hl hc hR ih => exact .l es es2 hl hc ih
  | q c c2 j hl hR ih => exact .q c c2 j hl ih
  | f fn fs cs fs2 cs2 hl hl2 hR hR2 ih1 ih2 => exact .f fn fs cs fs2 cs2 hl hl2 ih1 ih2
  | a cs cs2 hl hR ih => exact .a cs cs2 hl ih
  | t cs cs2 hl hR ih => exact .t cs cs2 hl ih
  | i t x x2 h ih => exact .i t x x2 ih
  | m id h => exact .m id h
  | m' id kk es es2 ho hl hk hR ih => exact .m' id kk es es2 (hs _ _ ho) hl hk ih
  | mt kk es es2 hl hk hR ih => exact .mt kk es es2 hl hk ih
  | j => exact .j
/-- It reads as t once it is frozen; F: the objects in it. -/
structure Deep (n : Nat) (F : Nat → Prop) (S : Store) (x t : AV) : Prop where
  cv : Cv ((S.on F).frz (newer n)) n x t
  fp : ∀ i, F i → n ≤ i ∧ i < S.n
theorem frz_sub {S S' : Store} {D : Nat → Bool} (h : ∀ i o, S.obj i = some o → S'.obj i = some o) : ∀ i o, (S.frz D).obj i = some o → (S'.frz D).obj i = some o := by
  intro i o ho
  obtain ⟨o0, h1, rfl⟩ := frz_ob ho
  simp [Store.frz, h _ _ h1]
theorem Deep.toCv {n : Nat} {F : Nat → Prop} {S : Store} {x t : AV} (h : Deep n F S x t) : Cv (S.frz (newer n)) n x t :=
  h.cv.sub (frz_sub fun i o ho => (on_obj ho).2)
theorem cv_on {n : Nat} {F : Nat → Prop} {S S' : Store} {x t : AV} (h : Cv ((S.on F).frz (newer n)) n x t) (ho : ∀ i, F i → S'.obj i = S.obj i) : Cv ((S'.on F).frz (newer n)) n x t :=
  h.sub (frz_sub fun i o hi => by
    obtain ⟨h1, h2⟩ := on_obj hi
    rw [on_of h1, ho i h1]; exact h2)
theorem cv_or {n : Nat} {F G : Nat → Prop} {S : Store} {x t : AV} (h : Cv ((S.on F).frz (newer n)) n x t) (hG : ∀ i, F i → G i) : Cv ((S.on G).frz (newer n)) n x t :=
  h.sub (frz_sub fun i o hi => by
    obtain ⟨h1, h2⟩ := on_obj hi
    rw [on_of (hG i h1)]; exact h2)
theorem Deep.frame {n : Nat} {F : Nat → Prop} {S S' : Store} {x t : AV} (h : Deep n F S x t) (hn : S.n ≤ S'.n) (ho : ∀ i, F i → S'.obj i = S.obj i) : Deep n F S' x t :=
  ⟨cv_on h.cv ho, fun i hi => ⟨(h.fp i hi).1, Nat.lt_of_lt_of_le (h.fp i hi).2 hn⟩⟩
theorem Deep.or {n : Nat} {F G : Nat → Prop} {S : Store} {x t : AV} (h : Deep n F S x t) (hG : ∀ i, F i → G i) (hb : ∀ i, G i → n ≤ i ∧ i < S.n) : Deep n G S x t := ⟨cv_or h.cv hG, hb⟩
/-- A tree without objects. -/
def Tree (t : AV) : Prop := ∀ (S : Store) (n : Nat), Cv S n t t
theorem Tree.v (x : Value) : Tree (.v x) := fun _ _ => .v x
theorem Tree.l {es : List (List AV)} (h : ∀ c ∈ es, ∀ u ∈ c, Tree u) : Tree (.l es) := fun S n =>
  .l _ _ rfl (fun i c c2 h1 h2 => by rw [h1] at h2; cases h2; rfl) (fun i c c2 k u u2 h1 h2 h3 h4 => by
    rw [h1] at h2; cases h2
    rw [h3] at h4; cases h4
    exact h c (List.mem_of_getElem? h1) u (List.mem_of_getElem? h3) S n)
theorem Tree.a {cs : List AV} (h : ∀ u ∈ cs, Tree u) : Tree (.a cs) := fun S n =>
  .a _ _ rfl (fun k u u2 h3 h4 => by rw [h3] at h4; cases h4; exact h u (List.mem_of_getElem? h3) S n)
theorem Tree.aL {α : Type} {f : α → AV} {l : List α} (h : ∀ a ∈ l, Tree (f a)) : Tree (aL f l) := Tree.l fun c hc u hu => by
  obtain ⟨a, ha, rfl⟩ := List.mem_map.1 hc
  obtain rfl := List.mem_singleton.1 hu
  exact h a ha
theorem treeB (l : List Bool) : Tree (aL aB l) := Tree.aL fun _ _ => Tree.v _
theorem treeI (l : List Int) : Tree (aL aI l) := Tree.aL fun _ _ => Tree.v _
theorem Deep.tree {n : Nat} {S : Store} {t : AV} (h : Tree t) : Deep n (fun _ => False) S t t := ⟨h _ _, fun _ h => h.elim⟩

/-- A row of one's own whose parts are one's own. -/
structure LOwn (n : Nat) (F : Nat → Prop) (S : Store) (y : AV) (e : Nat) (ts : List (List AV)) : Prop where
  fp : ∀ i, F i → n ≤ i ∧ i < S.n
  no : ∀ id b m, y = .s id b m → ¬ F id
  row : ∃ es, Own n S y e es ∧ es.length = ts.length ∧ ∀ (i : Nat) (c c2 : List AV), es[i]? = some c → ts[i]? = some c2 → c.length = c2.length ∧ ∀ (k : Nat) (u u2 : AV), c[k]? = some u → c2[k]? = some u2 → Cv ((S.on F).frz (newer n)) n u u2
theorem LOwn.nl {n : Nat} {S : Store} {e : Nat} : LOwn n (fun _ => False) S .nl e [] := ⟨fun _ h => h.elim, fun _ _ _ h => (by cases h), [], Own.nl _ _ _, rfl, fun i c c2 h => (by simp at h)⟩
/-- Which objects a row of one's own is. -/
def idOf (y : AV) (i : Nat) : Prop := ∃ b m, y = .s i b m
theorem LOwn.deep {n : Nat} {F : Nat → Prop} {S : Store} {y : AV} {e : Nat} {ts : List (List AV)} (h : LOwn n F S y e ts) : Deep n (fun i => F i ∨ idOf y i) S y (.l ts) := by
  obtain ⟨hfp, hno, es, hown, hl, hel⟩ := h
  rcases hown with ⟨rfl, rfl⟩ | ⟨id, rfl, h1, h2, h3⟩
  · have : ts = [] := List.eq_nil_of_length_eq_zero hl.symm
    subst this
    exact ⟨.nl, fun i hi => by rcases hi with hi | ⟨b, m, hi⟩; exact hfp i hi; cases hi⟩
  · refine ⟨.s id 0 es.length e es ts ?_ (by simp) hl.symm (fun i c c2 hi hi2 => (hel i c c2 (by simpa using hi) hi2).1) (fun i c c2 k u u2 hi hi2 hk hk2 => cv_or ((hel i c c2 (by simpa using hi) hi2).2 k u u2 hk hk2) fun i hi => .inl hi), fun i hi => ?_⟩
    · have : ((S.on (fun i => F i ∨ idOf (.s id 0 es.length) i))).obj id = some (.cells e es true) := by rw [on_of (.inr ⟨_, _, rfl⟩)]; exact h3
      rw [frz_of this]
      have : newer n id = true := by simp [newer, h1]
      simp [this]
    · rcases hi with hi | ⟨b, m, hi⟩
      · exact hfp i hi
      · cases hi; exact ⟨h1, h2⟩
theorem LOwn.len {n : Nat} {F : Nat → Prop} {S : Store} {y : AV} {e : Nat} {ts : List (List AV)} (h : LOwn n F S y e ts) {K : AV → Store → Prop} : lenS y S K = K (.v (.int .i64 ts.length)) S := by
  obtain ⟨es, hown, hl, _⟩ := h.row
  rw [hown.len, hl]
theorem LOwn.frame {n : Nat} {F : Nat → Prop} {S S' : Store} {y : AV} {e : Nat} {ts : List (List AV)} (h : LOwn n F S y e ts) (hn : S.n ≤ S'.n) (ho : ∀ i, F i ∨ idOf y i → S'.obj i = S.obj i) : LOwn n F S' y e ts := by
  obtain ⟨hfp, hno, es, hown, hl, hel⟩ := h
  refine ⟨fun i hi => ⟨(hfp i hi).1, Nat.lt_of_lt_of_le (hfp i hi).2 hn⟩, hno, es, ?_, hl, fun i c c2 h1 h2 => ⟨(hel i c c2 h1 h2).1, fun k u u2 h3 h4 => cv_on ((hel i c c2 h1 h2).2 k u u2 h3 h4) fun i hi => ho i (.inl hi)⟩⟩
  rcases hown with h | ⟨id, rfl, h1, h2, h3⟩
  · exact .inl h
  · exact .inr ⟨id, rfl, h1, by omega, by rw [ho id (.inr ⟨_, _, rfl⟩)]; exact h3⟩
theorem LOwn.or {n : Nat} {F G : Nat → Prop} {S : Store} {y : AV} {e : Nat} {ts : List (List AV)} (h : LOwn n F S y e ts) (hG : ∀ i, F i → G i) (hb : ∀ i, G i → n ≤ i ∧ i < S.n) (hno : ∀ i, idOf y i → ¬ G i) : LOwn n G S y e ts := by
  obtain ⟨hfp, _, es, hown, hl, hel⟩ := h
  exact ⟨hb, fun id b m hy => hno id ⟨b, m, hy⟩, es, hown, hl, fun i c c2 h1 h2 => ⟨(hel i c c2 h1 h2).1, fun k u u2 h3 h4 => cv_or ((hel i c c2 h1 h2).2 k u u2 h3 h4) hG⟩⟩
theorem LOwn.id_lt {n : Nat} {F : Nat → Prop} {S : Store} {y : AV} {e : Nat} {ts : List (List AV)} (h : LOwn n F S y e ts) {i : Nat} (hi : idOf y i) : n ≤ i ∧ i < S.n := by
  obtain ⟨b, m, hy⟩ := hi
  obtain ⟨es, hown, _⟩ := h.row
  exact hown.lt hy
/-- One thing more. -/
theorem LOwn.app {n : Nat} {F : Nat → Prop} {S : Store} {y : AV} {e sz b : Nat} {ts : List (List AV)} (h : LOwn n F S y e ts) (hn : n ≤ S.n) {c c2 : List AV} {K : AV → Store → Prop} (hc : c.length = sz) (hl : c.length = c2.length)
    (hel : ∀ (k : Nat) (u u2 : AV), c[k]? = some u → c2[k]? = some u2 → Cv ((S.on F).frz (newer n)) n u u2) (hb : (ts.length + 1) * b ≤ 140737488355328)
    {z : AV} (hz : srcE S z = some [c]) (k : ∀ y' S', LOwn n F S' y' e (ts ++ [c2]) → But S S' y → (∃ m, y' = .s S.n 0 m) → K y' S') : appS e sz b y z S K := by
  obtain ⟨hfp, hno, es, hown, hle, he⟩ := h
  refine hown.app hn hc (by rw [hle]; exact hb) (fun y' S' ho hbut hid => k y' S' ?_ hbut hid) hz
  have hsame : ∀ i, F i → S'.obj i = S.obj i := fun i hi => hbut.2 i (hfp i hi).2 fun b m hy => hno i b m hy hi
  refine ⟨fun i hi => ⟨(hfp i hi).1, Nat.lt_of_lt_of_le (hfp i hi).2 hbut.1⟩, fun id b m hy hF => ?_, es ++ [c], ho, by simp [hle], fun i c' c2' h1 h2 => ?_⟩
  · obtain ⟨m', hy'⟩ := hid
    rw [hy'] at hy
    cases hy
    exact Nat.lt_irrefl _ (hfp _ hF).2
  · by_cases hi : i < es.length
    · rw [List.getElem?_append_left hi] at h1
      rw [List.getElem?_append_left (by omega)] at h2
      exact ⟨(he i c' c2' h1 h2).1, fun k u u2 h3 h4 => cv_on ((he i c' c2' h1 h2).2 k u u2 h3 h4) hsame⟩
    · rw [List.getElem?_append_right (by omega)] at h1
      rw [List.getElem?_append_right (by omega)] at h2
      have hlt := (List.getElem?_eq_some_iff.1 h1).1
      have : i = es.length := by simp at hlt; omega
      subst this
      rw [hle] at h2
      rw [Nat.sub_self] at h1
      simp at h1 h2
      subst h1
      subst h2
      exact ⟨hl, fun k u u2 h3 h4 => cv_on (hel k u u2 h3 h4) hsame⟩
/-- The new thing has one cell. -/
theorem LOwn.app1 {n : Nat} {F : Nat → Prop} {S : Store} {y : AV} {e b : Nat} {ts : List (List AV)} (h : LOwn n F S y e ts) (hn : n ≤ S.n) {u t : AV} {K : AV → Store → Prop}
    (hu : Cv ((S.on F).frz (newer n)) n u t) (hb : (ts.length + 1) * b ≤ 140737488355328)
    {z : AV} (hz : srcE S z = some [[u]]) (k : ∀ y' S', LOwn n F S' y' e (ts ++ [[t]]) → But S S' y → (∃ m, y' = .s S.n 0 m) → K y' S') : appS e 1 b y z S K :=
  h.app (c := [u]) (c2 := [t]) hn rfl rfl (fun k u' u2 h1 h2 => by
    cases k with
    | zero => cases h1; cases h2; exact hu
    | succ k => simp at h1) hb hz k
theorem But.keep {S0 S S' : Store} {y : AV} (h : But S S' y) (k : Keep S0 S) (hy : ∀ i, idOf y i → S0.n ≤ i) : Keep S0 S' := by
  refine ⟨Nat.le_trans k.1 h.1, fun i hi => ?_⟩
  rw [h.2 i (Nat.lt_of_lt_of_le hi k.1) (fun b m e => by have := hy i ⟨b, m, e⟩; omega)]
  exact k.2 i hi
theorem But.obj {S S' : Store} {y : AV} (h : But S S' y) {i : Nat} (hi : i < S.n) (hy : ¬ idOf y i) : S'.obj i = S.obj i := h.2 i hi fun b m e => hy ⟨b, m, e⟩
/-- A call's result that is one's own, told as a tree. -/
theorem ACalls.ans_deep {P : Program} {fn : FuncId} {args : List AV} {S : Store} {t : AV} (h : ACalls P fn args S (fun r S' => ∃ x F, r = .ret x ∧ Keep S S' ∧ Deep S.n F S' x t)) : AnsAt P fn args S t :=
  ACalls.tree (h.mono fun r S' ⟨x, F, h1, h2, h3⟩ => ⟨x, h1, h2, h3.toCv⟩)

theorem Own.on {n : Nat} {S : Store} {x : AV} {e : Nat} {es : List (List AV)} (h : Own n S x e es) {G : Nat → Prop} (hG : ∀ i, idOf x i → G i) : Own n (S.on G) x e es := by
  rcases h with h | ⟨id, rfl, h1, h2, h3⟩
  · exact .inl h
  · exact .inr ⟨id, rfl, h1, h2, by rw [on_of (hG id ⟨_, _, rfl⟩)]; exact h3⟩
theorem Own.cvon {α : Type} {f : α → Value} {n : Nat} {S : Store} {x : AV} {e : Nat} {l : List α} (h : Own n S x e (l.map fun a => [.v (f a)])) {G : Nat → Prop} (hG : ∀ i, idOf x i → G i) : Cv ((S.on G).frz (newer n)) n x (aL (fun a => .v (f a)) l) :=
  (h.on hG).cv_v
/-- A field of a struct that one has boxed. -/
theorem stF_of {S : Store} {K : AV → Store → Prop} {id t j : Nat} {cs : List AV} {u : AV} (h : S.obj id = some (.cells t [cs] true)) (hj : j < cs.length) (hu : u.one = true)
    (k : ∀ S', S'.n = S.n → S'.obj id = some (.cells t [cs.set j u] true) → (∀ x, x ≠ id → S'.obj x = S.obj x) → K .j S') : stN 1 (.p id 0 j) u S K := by
  have hs : spl cs j [u] = cs.set j u := by
    simp only [spl, List.length_singleton]
    rw [List.set_eq_take_append_cons_drop, if_pos hj]
    simp
  have h1 : j + [u].length ≤ cs.length := by simp; omega
  refine ⟨[u], cells_of_one hu, rfl, ?_⟩
  simp only [stS, h]
  simp only [List.getElem?_cons_zero, Option.bind_some, if_pos h1, hs, List.set_cons_zero]
  exact ⟨_, rfl, k _ rfl (upd_self _ _) fun x hx => upd_ne hx⟩

/-! ### More words -/
section
variable {S : Store} {K : AV → Store → Prop}
theorem bin_rem {a b : Int} (hb : b ≠ 0) (k : IntKind) (kd : Nat) : bin .rem kd (.v (.int k a)) (.v (.int k b)) S K = K (.v (.int k (a.tmod b))) S := by
  simp [bin, b2, isSh, cmpI, ariI, hb]
theorem bin_quo {a b : Int} (hb : b ≠ 0) (h1 : -9223372036854775808 ≤ a.tdiv b) (h2 : a.tdiv b ≤ 9223372036854775807) (kd : Nat) : bin .quo kd (.v (.int .i64 a)) (.v (.int .i64 b)) S K = K (.v (.int .i64 (a.tdiv b))) S := by
  simp [bin, b2, isSh, cmpI, ariI, hb, wrap64 h1 h2]
theorem bin_sub {a b : Int} (h : -9223372036854775808 ≤ a - b) (h' : a - b ≤ 9223372036854775807) (kd : Nat) : bin .sub kd (.v (.int .i64 a)) (.v (.int .i64 b)) S K = K (.v (.int .i64 (a - b))) S := by
  simp [bin, b2, isSh, cmpI, ariI, wrap64 h h']
theorem bin_mul {a b : Int} (h : -9223372036854775808 ≤ a * b) (h' : a * b ≤ 9223372036854775807) (kd : Nat) : bin .mul kd (.v (.int .i64 a)) (.v (.int .i64 b)) S K = K (.v (.int .i64 (a * b))) S := by
  simp [bin, b2, isSh, cmpI, ariI, wrap64 h h']
theorem bin_shr {a b : Int} (hb : 0 ≤ b) (k k' : IntKind) (kd : Nat) : bin .shr kd (.v (.int k a)) (.v (.int k' b)) S K = K (.v (.int k (a.fdiv (2 ^ min b.toNat k.bits)))) S := by
  have : ¬ b < 0 := by omega
  simp [bin, b2, isSh, shI, this]
theorem convI_v (k k' : IntKind) (a : Int) : convI k (.v (.int k' a)) S K = K (.v (.int k (k.wrap a))) S := rfl
theorem convI_64 (k' : IntKind) {a : Int} (h : -9223372036854775808 ≤ a) (h' : a ≤ 9223372036854775807) : convI .i64 (.v (.int k' a)) S K = K (aI a) S := by
  rw [convI_v, wrap64 h h']
theorem ixS_l {e sz i : Nat} {es : List (List AV)} (h : i < es.length) (hs : (es[i]).length = sz) : ixS e sz (.l es) (.v (.int .i64 i)) S K = K (.q es[i] 0) S := by
  have : (i : Int) < es.length := by omega
  simp [ixS, intA, h, this, hs]
end
end Go.Ab

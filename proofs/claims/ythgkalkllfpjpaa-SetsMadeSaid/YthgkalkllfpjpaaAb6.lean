/- It is proved here that each of the laws of sets (SetsMade, SetsFix, SetsMore, SetsFair) returns true for every input and changes none of its arguments. There is no condition beyond the given statement. -/
import Derived.Test.YthgkalkllfpjpaaAb5
set_option linter.unusedVariables false
set_option linter.unusedSimpArgs false
namespace Go.Ab
open Go Go.RowKit

/-! ### Freezing: what was written becomes a tree -/
def AObj.frz (d : Bool) : AObj → AObj
  | .cells t es l => .cells t es (l && !d)
  | .map kk es l => .map kk es (l && !d)
  | o => o
def AObj.frzs : AObj → Bool
  | .cells _ _ _ | .map _ _ _ => true
  | _ => false
def Store.frz (S : Store) (D : Nat → Bool) : Store := ⟨S.n, fun i => (S.obj i).map (AObj.frz (D i))⟩
def Gh.frz (g : Gh) (S : Store) (D : Nat → Bool) : Gh :=
  { g with im := fun b => g.im b ∨ ∃ id o, D id = true ∧ S.obj id = some o ∧ o.frzs = true ∧ g.blk id = b }
theorem frz_ob {S : Store} {D : Nat → Bool} {i : Nat} {o : AObj} (h : (S.frz D).obj i = some o) : ∃ o0, S.obj i = some o0 ∧ o = o0.frz (D i) := by
  simp only [Store.frz, Option.map_eq_some_iff] at h
  obtain ⟨o0, h1, h2⟩ := h
  exact ⟨o0, h1, h2.symm⟩
theorem frz_id (o : AObj) : o.frz false = o := by cases o <;> simp [AObj.frz]
theorem frz_false {S : Store} {D : Nat → Bool} {i : Nat} (h : D i = false) : (S.frz D).obj i = S.obj i := by
  simp only [Store.frz, h]
  cases S.obj i with
  | none => rfl
  | some o => simp [frz_id]
theorem frz_of {S : Store} {D : Nat → Bool} {i : Nat} {t : TypeId} {es : List (List AV)} {l : Bool} (h : S.obj i = some (.cells t es l)) : (S.frz D).obj i = some (.cells t es (l && !D i)) := by
  simp [Store.frz, h, AObj.frz]
theorem frz_ofM {S : Store} {D : Nat → Bool} {i : Nat} {kk : KK} {es : List (Key × AV)} {l : Bool} (h : S.obj i = some (.map kk es l)) : (S.frz D).obj i = some (.map kk es (l && !D i)) := by
  simp [Store.frz, h, AObj.frz]
theorem mv_frz {P : Program} {w : World} {g : Gh} {S : Store} (hh : Heap P w g S) (D : Nat → Bool) : Mv w g w (g.frz S D) :=
  ⟨rfl, rfl, rfl, Nat.le_refl _, fun _ _ => rfl, fun _ h => .inl h, Nat.le_refl _, fun _ _ => rfl, fun _ _ => rfl, fun _ _ => rfl⟩
theorem live_frz {o : AObj} {d : Bool} : (o.frz d).live = true → o.live = true ∧ (o.frzs = true → d = false) := by
  cases o <;> cases d <;> simp [AObj.frz, AObj.live, AObj.frzs]
theorem dead_frz {o : AObj} {d : Bool} : (o.frz d).live = false → o.live = true → o.frzs = true ∧ d = true := by
  cases o <;> cases d <;> simp [AObj.frz, AObj.live, AObj.frzs]
theorem ORow.frz {P : Program} {w : World} {g : Gh} {id : Nat} {o : AObj} (d : Bool) (h : ORow P w g id o) : ORow P w g id (o.frz d) := by
  cases o <;> exact h
theorem heap_frz {P : Program} {w : World} {g : Gh} {S : Store} (hh : Heap P w g S) (D : Nat → Bool) : Heap P w (g.frz S D) (S.frz D) where
  n := hh.n
  im b hb := by
    rcases hb with hb | ⟨id, o, _, ho, _, rfl⟩
    · exact hh.im b hb
    · exact (hh.ob _ _ ho).blk
  ob i o h := by
    obtain ⟨o0, ho, rfl⟩ := frz_ob h
    have hob := hh.ob _ _ ho
    refine ⟨hob.lt, hob.blk, fun hl => ?_, fun hl => ?_, (hob.row.frz (D i)).mv (mv_frz hh D) hob.lt rfl⟩
    · obtain ⟨hl0, hD⟩ := live_frz hl
      rintro (hb | ⟨id, o', hD', ho', hf, hb⟩)
      · exact hob.imY hl0 hb
      · cases hl' : o'.live with
        | true =>
          obtain rfl := hh.sp _ _ _ _ ho' ho hl' hl0 hb
          rw [ho] at ho'
          cases ho'
          rw [hD hf] at hD'
          cases hD'
        | false => exact hob.imY hl0 (hb ▸ (hh.ob _ _ ho').imN hl')
    · cases hl0 : o0.live with
      | false => exact .inl (hob.imN hl0)
      | true =>
        obtain ⟨h1, h2⟩ := dead_frz hl hl0
        exact .inr ⟨i, o0, h2, ho, h1, rfl⟩
  sp a b o o' h1 h2 l1 l2 he := by
    obtain ⟨o1, h3, rfl⟩ := frz_ob h1
    obtain ⟨o2, h5, rfl⟩ := frz_ob h2
    exact hh.sp _ _ _ _ h3 h5 (live_frz l1).1 (live_frz l2).1 he

/-- One reading of a value, and another one that uses only numbers below n. -/
inductive Cv (S : Store) (n : Nat) : AV → AV → Prop
  | v (x : Value) : Cv S n (.v x) (.v x)
  | nl : Cv S n .nl (.l [])
  | nl' : Cv S n .nl .nl
  | p (id i j : Nat) (h : id < n) : Cv S n (.p id i j) (.p id i j)
  | s' (id b m : Nat) (h : id < n) : Cv S n (.s id b m) (.s id b m)
  | s (id b m : Nat) (t : TypeId) (es es2 : List (List AV)) (ho : S.obj id = some (.cells t es false)) (hb : b + m ≤ es.length) (hl : es2.length = m)
      (hc : ∀ (i : Nat) (c c2 : List AV), es[b + i]? = some c → es2[i]? = some c2 → c.length = c2.length)
      (hR : ∀ (i : Nat) (c c2 : List AV) (k : Nat) (u u2 : AV), es[b + i]? = some c → es2[i]? = some c2 → c[k]? = some u → c2[k]? = some u2 → Cv S n u u2) : Cv S n (.s id b m) (.l es2)
  | l (es es2 : List (List AV)) (hl : es.length = es2.length) (hc : ∀ (i : Nat) (c c2 : List AV), es[i]? = some c → es2[i]? = some c2 → c.length = c2.length)
      (hR : ∀ (i : Nat) (c c2 : List AV) (k : Nat) (u u2 : AV), es[i]? = some c → es2[i]? = some c2 → c[k]? = some u → c2[k]? = some u2 → Cv S n u u2) : Cv S n (.l es) (.l es2)
  | q (c c2 : List AV) (j : Nat) (hl : c.length = c2.length) (hR : ∀ (k : Nat) (u u2 : AV), c[k]? = some u → c2[k]? = some u2 → Cv S n u u2) : Cv S n (.q c j) (.q c2 j)
  | f (fn : Fn) (fs cs fs2 cs2 : List AV) (hl : fs.length = fs2.length) (hl2 : cs.length = cs2.length) (hR : ∀ (k : Nat) (u u2 : AV), fs[k]? = some u → fs2[k]? = some u2 → Cv S n u u2)
      (hR2 : ∀ (k : Nat) (u u2 : AV), cs[k]? = some u → cs2[k]? = some u2 → Cv S n u u2) : Cv S n (.f fn fs cs) (.f fn fs2 cs2)
  | a (cs cs2 : List AV) (hl : cs.length = cs2.length) (hR : ∀ (k : Nat) (u u2 : AV), cs[k]? = some u → cs2[k]? = some u2 → Cv S n u u2) : Cv S n (.a cs) (.a cs2)
  | t (cs cs2 : List AV) (hl : cs.length = cs2.length) (hR : ∀ (k : Nat) (u u2 : AV), cs[k]? = some u → cs2[k]? = some u2 → Cv S n u u2) : Cv S n (.t cs) (.t cs2)
  | i (t : TypeId) (x x2 : AV) (h : Cv S n x x2) : Cv S n (.i t x) (.i t x2)
  | m (id : Nat) (h : id < n) : Cv S n (.m id) (.m id)
  | m' (id : Nat) (kk : KK) (es es2 : List (Key × AV)) (ho : S.obj id = some (.map kk es false)) (hl : es.length = es2.length) (hk : ∀ (i : Nat) (e e2 : Key × AV), es[i]? = some e → es2[i]? = some e2 → e.1 = e2.1)
      (hR : ∀ (i : Nat) (e e2 : Key × AV), es[i]? = some e → es2[i]? = some e2 → Cv S n e.2 e2.2) : Cv S n (.m id) (.mt kk es2)
  | mt (kk : KK) (es es2 : List (Key × AV)) (hl : es.length = es2.length) (hk : ∀ (i : Nat) (e e2 : Key × AV), es[i]? = some e → es2[i]? = some e2 → e.1 = e2.1)
      (hR : ∀ (i : Nat) (e e2 : Key × AV), es[i]? = some e → es2[i]? = some e2 → Cv S n e.2 e2.2) : Cv S n (.mt kk es) (.mt kk es2)
  | j : Cv S n .j .j

theorem Cv.one {S : Store} {n : Nat} {u u2 : AV} (h : Cv S n u u2) (h1 : u.one = true) : u2.one = true := by
  cases h <;> first | rfl | exact h1 | (simp [AV.one] at h1)

def Gh.cut (g : Gh) (n : Nat) : Gh := { g with n := n }

theorem get_of {α : Type} {l : List α} {n i : Nat} (h : l.length = n) (hi : i < n) : ∃ x, l[i]? = some x := ⟨_, List.getElem?_eq_getElem (by omega)⟩

theorem MapRow.conv {kk : KK} {es es2 : List (Key × AV)} {ms : Array MapEntry} (h : MapRow kk es ms) (hl : es.length = es2.length) (hk : ∀ (i : Nat) (e e2 : Key × AV), es[i]? = some e → es2[i]? = some e2 → e.1 = e2.1) : MapRow kk es2 ms := by
  refine ⟨h.1.trans hl, fun i e2 h2 => ?_⟩
  obtain ⟨e, h1⟩ := get_of hl (List.getElem?_eq_some_iff.1 h2).1
  rw [← hk i e e2 h1 h2]
  exact h.2 i e h1
theorem R_cv {P : Program} {w : World} {g : Gh} {S : Store} (hh : Heap P w g S) {n : Nat} {u u2 : AV} (h : Cv S n u u2) : ∀ {y : Value}, R w g u y → R w (g.cut n) u2 y := by
  induction h with
  | v x => intro y hr; obtain rfl := hr.inv_v; exact .v _
  | nl => intro y hr; obtain ⟨A, rfl⟩ := hr.inv_nl; exact .l [] A 0 0 (fun _ _ => undef) (Nat.le_refl _) (fun h => absurd rfl h) (fun i c' j u h => by simp at h) (fun i c' j u h => by simp at h)
  | nl' => intro y hr; obtain ⟨A, rfl⟩ := hr.inv_nl; exact .nl _
  | p id i j h => intro y hr; obtain ⟨_, rfl⟩ := hr.inv_p; exact .p (g := g.cut n) id i j h
  | s' id b m h => intro y hr; obtain ⟨_, A, c, rfl, h1, h2, h3⟩ := hr.inv_s; exact .s (g := g.cut n) id b m c A h h1 h2 h3
  | s id b m t es es2 ho hb hl hc hR ih =>
    intro y hr
    obtain ⟨_, A, c, rfl, h1, h2, h3⟩ := hr.inv_s
    have hob := hh.obj _ _ _ _ ho
    obtain ⟨cs, hrow, hcs, hro⟩ := hob.row
    subst hl
    refine .l es2 (some A) c (g.sz id) (fun i j => cs.getD ((b + i) * g.sz id + j) undef) h1 (fun hne => ?_) (fun i c2 j u2 h4 h5 => ?_) (fun i c2 j u2 h4 h5 => ?_)
    · have hpos : 0 < es2.length := List.length_pos_iff.2 hne
      have hA := h3 (by omega)
      subst hA
      refine ⟨_, rfl, hob.imN rfl, fun i c2 h4 => ?_⟩
      have hi := (List.getElem?_eq_some_iff.1 h4).1
      obtain ⟨c1, h5⟩ : ∃ c1, es[b + i]? = some c1 := ⟨_, List.getElem?_eq_getElem (by omega)⟩
      refine ⟨by rw [← hc i c1 c2 h5 h4]; exact (hro _ _ h5).1, fun j hj => ?_⟩
      have hlt : (b + i) * g.sz id + j < cs.size := by
        rw [hcs]
        exact idx_lt (List.getElem?_eq_some_iff.1 h5).1 hob.len hj
      rw [add_at, cell_row hrow, ← Nat.add_assoc, ← Nat.add_mul]
      simp [Array.getD_eq_getD_getElem?, Array.getElem?_eq_getElem hlt]
    · have hi := (List.getElem?_eq_some_iff.1 h4).1
      obtain ⟨c1, h6⟩ : ∃ c1, es[b + i]? = some c1 := ⟨_, List.getElem?_eq_getElem (by omega)⟩
      obtain ⟨u, h7⟩ := get_of (hc i c1 c2 h6 h4) (List.getElem?_eq_some_iff.1 h5).1
      exact (hR i c1 c2 j u u2 h6 h4 h7 h5).one ((hro _ _ h6).2 _ _ h7).1
    · have hi := (List.getElem?_eq_some_iff.1 h4).1
      obtain ⟨c1, h6⟩ : ∃ c1, es[b + i]? = some c1 := ⟨_, List.getElem?_eq_getElem (by omega)⟩
      obtain ⟨u, h7⟩ := get_of (hc i c1 c2 h6 h4) (List.getElem?_eq_some_iff.1 h5).1
      exact ih i c1 c2 j u u2 h6 h4 h7 h5 ((hro _ _ h6).2 _ _ h7).2
  | l es es2 hl hc hR ih =>
    intro y hr
    obtain ⟨A, c, sz, vs, rfl, h1, hm, h3⟩ := hr.inv_l
    rw [hl]
    refine .l es2 A c sz vs (by omega) (fun hne => ?_) (fun i c2 j u2 h4 h5 => ?_) (fun i c2 j u2 h4 h5 => ?_)
    · have hne' : es ≠ [] := by
        rintro rfl
        simp at hl
        exact hne (List.eq_nil_of_length_eq_zero hl.symm)
      obtain ⟨ad, rfl, him, hcell⟩ := hm hne'
      refine ⟨ad, rfl, him, fun i c2 h4 => ?_⟩
      obtain ⟨c1, h5⟩ := get_of hl (List.getElem?_eq_some_iff.1 h4).1
      exact ⟨by rw [← hc i c1 c2 h5 h4]; exact (hcell _ _ h5).1, (hcell _ _ h5).2⟩
    · obtain ⟨c1, h6⟩ := get_of hl (List.getElem?_eq_some_iff.1 h4).1
      obtain ⟨u, h7⟩ := get_of (hc i c1 c2 h6 h4) (List.getElem?_eq_some_iff.1 h5).1
      exact (hR i c1 c2 j u u2 h6 h4 h7 h5).one (h3 _ _ _ _ h6 h7).1
    · obtain ⟨c1, h6⟩ := get_of hl (List.getElem?_eq_some_iff.1 h4).1
      obtain ⟨u, h7⟩ := get_of (hc i c1 c2 h6 h4) (List.getElem?_eq_some_iff.1 h5).1
      exact ih i c1 c2 j u u2 h6 h4 h7 h5 (h3 _ _ _ _ h6 h7).2
  | q c c2 j hl hR ih =>
    intro y hr
    cases hr with
    | q c j ad vs him hm h1 h2 =>
      refine .q c2 j ad vs him (fun k hk => hm k (by omega)) (fun k u2 h5 => ?_) (fun k u2 h5 => ?_)
      · obtain ⟨u, h7⟩ := get_of hl (List.getElem?_eq_some_iff.1 h5).1
        exact (hR k u u2 h7 h5).one (h1 _ _ h7)
      · obtain ⟨u, h7⟩ := get_of hl (List.getElem?_eq_some_iff.1 h5).1
        exact ih k u u2 h7 h5 (h2 _ _ h7)
  | f fn fs cs fs2 cs2 hl hl2 hR hR2 ih1 ih2 =>
    intro y hr
    cases hr with
    | f fn fs cs fs' cs' hf hc hF hC =>
      refine .f fn fs2 cs2 fs' cs' (by omega) (by omega) (fun k u2 h5 => ?_) (fun k u2 h5 => ?_)
      · obtain ⟨u, h7⟩ := get_of hl (List.getElem?_eq_some_iff.1 h5).1
        exact ih1 k u u2 h7 h5 (hF _ _ h7)
      · obtain ⟨u, h7⟩ := get_of hl2 (List.getElem?_eq_some_iff.1 h5).1
        exact ih2 k u u2 h7 h5 (hC _ _ h7)
  | a cs cs2 hl hR ih =>
    intro y hr
    cases hr with
    | a cs cs' hl' h1 h2 =>
      refine .a cs2 cs' (by omega) (fun k u2 h5 => ?_) (fun k u2 h5 => ?_)
      · obtain ⟨u, h7⟩ := get_of hl (List.getElem?_eq_some_iff.1 h5).1
        exact (hR k u u2 h7 h5).one (h1 _ _ h7)
      · obtain ⟨u, h7⟩ := get_of hl (List.getElem?_eq_some_iff.1 h5).1
        exact ih k u u2 h7 h5 (h2 _ _ h7)
  | t cs cs2 hl hR ih =>
    intro y hr
    cases hr with
    | t cs cs' hl' h2 =>
      refine .t cs2 cs' (by omega) (fun k u2 h5 => ?_)
      obtain ⟨u, h7⟩ := get_of hl (List.getElem?_eq_some_iff.1 h5).1
      exact ih k u u2 h7 h5 (h2 _ _ h7)
  | i t x x2 h ih =>
    intro y hr
    cases hr with
    | i t x y h' => exact .i t x2 y (ih h')
  | m id h =>
    intro y hr
    cases hr with
    | m id h' => exact .m (g := g.cut n) id h
  | m' id kk es es2 ho hl hk hR ih =>
    intro y hr
    cases hr with
    | m id h' =>
      have hob := hh.ob _ _ ho
      obtain ⟨ms, h1, h2, h3⟩ := hob.row
      refine .mt kk es2 (g.blk id) ms (hob.imN rfl) h1 (h2.conv hl hk) (fun i e2 h5 => ?_)
      obtain ⟨e, h4⟩ := get_of hl (List.getElem?_eq_some_iff.1 h5).1
      exact ih i e e2 h4 h5 (h3 i e h4)
  | mt kk es es2 hl hk hR ih =>
    intro y hr
    cases hr with
    | mt kk es r ms him hm hrow hR' =>
      refine .mt kk es2 r ms him hm (hrow.conv hl hk) (fun i e2 h5 => ?_)
      obtain ⟨e, h4⟩ := get_of hl (List.getElem?_eq_some_iff.1 h5).1
      exact ih i e e2 h4 h5 (hR' i e h4)
  | j => intro y hr; exact .j _

/-- What a reading says is closed. -/
theorem R.cl {w : World} {g : Gh} {u : AV} {y : Value} (h : R w g u y) (S : Store) : Cv S g.n u u := by
  induction h with
  | v x => exact .v x
  | nl A => exact .nl'
  | p id i j h => exact .p id i j h
  | s id i n c A h hn hc hA => exact .s' id i n h
  | l es A c sz vs hc hm h1 hR ih => exact .l es es rfl (fun i c c2 h h' => by rw [h] at h'; cases h'; rfl) (fun i c c2 k u u2 h h' h3 h4 => by rw [h] at h'; cases h'; rw [h3] at h4; cases h4; exact ih _ _ _ _ h h3)
  | q c j ad vs him hm h1 hR ih => exact .q c c j rfl (fun k u u2 h3 h4 => by rw [h3] at h4; cases h4; exact ih _ _ h3)
  | f fn fs cs fs' cs' hf hc hF hC ih1 ih2 => exact .f fn fs cs fs cs rfl rfl (fun k u u2 h3 h4 => by rw [h3] at h4; cases h4; exact ih1 _ _ h3) (fun k u u2 h3 h4 => by rw [h3] at h4; cases h4; exact ih2 _ _ h3)
  | a cs cs' hl h1 hR ih => exact .a cs cs rfl (fun k u u2 h3 h4 => by rw [h3] at h4; cases h4; exact ih _ _ h3)
  | t cs cs' hl hR ih => exact .t cs cs rfl (fun k u u2 h3 h4 => by rw [h3] at h4; cases h4; exact ih _ _ h3)
  | i t x y h ih => exact .i t x x ih
  | m id h => exact .m id h
  | mt kk es r ms him hm hrow hR ih => exact .mt kk es es rfl (fun i e e2 h h' => by rw [h] at h'; cases h'; rfl) (fun i e e2 h h' => by rw [h] at h'; cases h'; exact ih _ _ h)
  | j y => exact .j

/-- Back to the caller's store. -/
theorem heap_cut {P : Program} {w : World} {g : Gh} {S : Store} (hh : Heap P w g S) {w' : World} {g' : Gh} {S' : Store} (hh' : Heap P w' g' S') (hk : ∀ i, i < S.n → S'.obj i = S.obj i) : Heap P w' (g'.cut S.n) S where
  n := rfl
  im := hh'.im
  ob i o ho := by
    have hob0 := hh.ob _ _ ho
    have hi : i < S.n := by rw [← hh.n]; exact hob0.lt
    have ho' := hk i hi
    rw [ho] at ho'
    have hob := hh'.ob _ _ ho'
    refine ⟨hi, hob.blk, hob.imY, hob.imN, ?_⟩
    have hr0 := hob0.row
    have hr := hob.row
    cases o with
    | cells t es l =>
      obtain ⟨_, _, cs0, _, _, h03⟩ := hr0
      obtain ⟨a1, a2, cs, h1, h2, h3⟩ := hr
      refine ⟨a1, a2, cs, h1, h2, fun i c hc => ⟨(h3 i c hc).1, fun k u hu => ⟨((h3 i c hc).2 k u hu).1, ?_⟩⟩⟩
      have hcl := ((h03 i c hc).2 k u hu).2.cl S'
      rw [hh.n] at hcl
      exact R_cv hh' hcl ((h3 i c hc).2 k u hu).2
    | map kk es l =>
      obtain ⟨_, _, _, h03⟩ := hr0
      obtain ⟨ms, h1, h2, h3⟩ := hr
      refine ⟨ms, h1, h2, fun i e he => ?_⟩
      have hcl := (h03 i e he).cl S'
      rw [hh.n] at hcl
      exact R_cv hh' hcl (h3 i e he)
    | sit s pos => exact hr
    | mit x n seen =>
      obtain ⟨_, _, h03⟩ := hr0
      obtain ⟨r, h1, h2⟩ := hr
      have hcl := h03.cl S'
      rw [hh.n] at hcl
      exact ⟨r, h1, R_cv hh' hcl h2⟩
  sp a b o o' h1 h2 l1 l2 he := by
    have ha : a < S.n := by rw [← hh.n]; exact (hh.ob _ _ h1).lt
    have hb : b < S.n := by rw [← hh.n]; exact (hh.ob _ _ h2).lt
    exact hh'.sp _ _ _ _ ((hk a ha).trans h1) ((hk b hb).trans h2) l1 l2 he

theorem mv_cut {w : World} {g : Gh} {w' : World} {g' : Gh} {n : Nat} (m : Mv w g w' g') (hn : g.n = n) : Mv w g w' (g'.cut n) :=
  ⟨m.os, m.tape, m.output, m.size, m.keep, m.im, by rw [hn]; exact Nat.le_refl _, m.blk, m.sz, m.cap⟩

def newer (n : Nat) (i : Nat) : Bool := decide (n ≤ i)

/-- A call whose result is a tree, and which leaves the store alone. -/
theorem ACalls.tree {P : Program} {f : FuncId} {args : List AV} {S : Store} {tr : AV} (h : ACalls P f args S (fun e S' => ∃ r, e = .ret r ∧ Keep S S' ∧ Cv (S'.frz (newer S.n)) S.n r tr)) : ACalls P f args S (fun e S' => e = .ret tr ∧ S' = S) := by
  refine ⟨h.1, fun w g vs hh ha => (h.2 w g vs hh ha).mono ?_⟩
  rintro e w' ⟨_, S', g', h1, h2, h3, r, rfl, hk, hcv⟩
  cases e with
  | returned v =>
    have hf := heap_frz h1 (newer S.n)
    have hm := mv_frz h1 (newer S.n)
    refine ⟨.ret tr, S, (g'.frz S' (newer S.n)).cut S.n, heap_cut hh hf (fun i hi => ?_), mv_cut (h2.trans hm) hh.n, R_cv hf hcv (R.mv hm h3), rfl, rfl⟩
    rw [← hk.2 i hi]
    exact frz_false (by simp [newer]; omega)
  | panicked chain => exact h3.elim
  | outgrown => exact h3.elim


/-! ### Arguments that are handed on as trees -/
theorem Args.cv {P : Program} {w : World} {g : Gh} {S : Store} (hh : Heap P w g S) {n : Nat} {args args2 : List AV} {vs : Array Value} (hl : args.length = args2.length)
    (hcv : ∀ (k : Nat) (u u2 : AV), args[k]? = some u → args2[k]? = some u2 → Cv S n u u2) (ha : Args w g args vs) : Args w (g.cut n) args2 vs := by
  refine ⟨by rw [← hl]; exact ha.1, fun k u2 h2 => ?_⟩
  obtain ⟨u, hu⟩ := get_of hl (List.getElem?_eq_some_iff.1 h2).1
  exact R_cv hh (hcv k u u2 hu h2) (ha.2 _ _ hu)

/-- What is handed on is frozen first: the objects of D. -/
theorem ACalls.frz {P : Program} {f : FuncId} {args args2 : List AV} {S : Store} (D : Nat → Bool) {Q : AEnd → Store → Prop} (hl : args.length = args2.length)
    (hcv : ∀ (k : Nat) (u u2 : AV), args[k]? = some u → args2[k]? = some u2 → Cv (S.frz D) S.n u u2) (h : ACalls P f args2 (S.frz D) Q) : ACalls P f args S Q := by
  refine ⟨h.1, fun w g vs hh ha => ?_⟩
  have hf := heap_frz hh D
  have hm := mv_frz hh D
  have hn : (g.frz S D).n = S.n := hh.n
  have ha1 : Args w (g.frz S D) args vs := ⟨ha.1, fun k u hu => (ha.2 k u hu).mv hm⟩
  have ha2 := Args.cv hf hl hcv ha1
  have hcut : (g.frz S D).cut S.n = g.frz S D := by
    rw [← hn]
    rfl
  rw [hcut] at ha2
  refine (h.2 w _ vs hf ha2).mono ?_
  rintro e w' ⟨r, S', g', h1, h2, h3, h4⟩
  exact ⟨r, S', g', h1, hm.trans h2, h3, h4⟩

/-- A block of its own, taken as a new object. -/
theorem heap_adopt {P : Program} {w : World} {g : Gh} {S : Store} (hh : Heap P w g S) {b cap sz : Nat} {t : TypeId} {es : List (List AV)} {cs : Array Value} (hb : b < w.heap.size) (him : ¬ g.im b) (hsep : ∀ i o, S.obj i = some o → o.live = true → g.blk i ≠ b)
    (hlen : es.length ≤ cap) (hinfo : ∃ i, P.info? t = some i ∧ i.size = sz) (hrow : w.heap[b]? = some (.cells cs t (0, 0))) (hcs : cs.size = cap * sz) (hro : RowOk w g sz es cs) :
    Heap P w (g.add b cap sz) (S.new (.cells t es true)) ∧ Mv w g w (g.add b cap sz) := by
  have m := mv_add b cap sz (Mv.refl w g)
  refine heap_add hh (ao := .cells t es true) hb rfl him hsep ⟨by simpa using hlen, by simpa using hinfo, cs, by simpa using hrow, by simpa using hcs, ?_⟩
  have := hro.mv m
  simpa [RowOk] using this

def newBut (n id : Nat) (i : Nat) : Bool := decide (n ≤ i) && !decide (i = id)

/-- A call whose result is a row of its own: it is the store's next object. -/
theorem ACalls.own {P : Program} {f : FuncId} {args : List AV} {S : Store} {t : TypeId} {es2 : List (List AV)}
    (h : ACalls P f args S (fun e S' => ∃ id es, e = .ret (.s id 0 es.length) ∧ S.n ≤ id ∧ Keep S S' ∧ S'.obj id = some (.cells t es true) ∧ es.length = es2.length ∧
      ∀ (i : Nat) (c c2 : List AV), es[i]? = some c → es2[i]? = some c2 → c.length = c2.length ∧ ∀ (k : Nat) (u u2 : AV), c[k]? = some u → c2[k]? = some u2 → Cv (S'.frz (newBut S.n id)) S.n u u2)) :
    ACalls P f args S (fun e S' => e = .ret (.s S.n 0 es2.length) ∧ S' = S.new (.cells t es2 true)) := by
  refine ⟨h.1, fun w g vs hh ha => (h.2 w g vs hh ha).mono ?_⟩
  rintro e w' ⟨_, S', g', h1, h2, h3, id, es, rfl, hid, hk, ho, hl, hcv⟩
  cases e with
  | returned v =>
    have hf := heap_frz h1 (newBut S.n id)
    have hm := mv_frz h1 (newBut S.n id)
    have hkf : ∀ i, i < S.n → (S'.frz (newBut S.n id)).obj i = S.obj i := by
      intro i hi
      rw [← hk.2 i hi]
      exact frz_false (by simp [newBut]; omega)
    have hc := heap_cut hh hf hkf
    have hof : (S'.frz (newBut S.n id)).obj id = some (.cells t es true) := by
      rw [frz_of ho]
      simp [newBut]
    have hob := hf.obj _ _ _ _ hof
    obtain ⟨cs, hrow, hcs, hro⟩ := hob.row
    obtain ⟨_, A, c, rfl, hn, hcap, hA⟩ := (R.mv hm h3 : R w' (g'.frz S' (newBut S.n id)) (.s id 0 es.length) v).inv_s
    have hro2 : RowOk w' ((g'.frz S' (newBut S.n id)).cut S.n) ((g'.frz S' (newBut S.n id)).sz id) es2 cs := by
      intro i c2 hc2
      obtain ⟨c1, hc1⟩ := get_of hl (List.getElem?_eq_some_iff.1 hc2).1
      obtain ⟨h5, h6⟩ := hro i c1 hc1
      obtain ⟨h7, h8⟩ := hcv i c1 c2 hc1 hc2
      refine ⟨by rw [← h7]; exact h5, fun k u2 hu2 => ?_⟩
      obtain ⟨u, hu⟩ := get_of h7 (List.getElem?_eq_some_iff.1 hu2).1
      exact ⟨(h8 k u u2 hu hu2).one (h6 k u hu).1, R_cv hf (h8 k u u2 hu hu2) (h6 k u hu).2⟩
    have had := heap_adopt hc (b := (g'.frz S' (newBut S.n id)).blk id) (cap := (g'.frz S' (newBut S.n id)).cap id) (sz := (g'.frz S' (newBut S.n id)).sz id) hob.blk (hob.imY rfl) (fun i o hi hl' he => by
      have hi' : i < S.n := by rw [← hh.n]; exact (hh.ob _ _ hi).lt
      have := hf.sp _ _ _ _ ((hkf i hi').trans hi) hof hl' rfl he
      omega) (by rw [← hl]; exact hob.len) hob.info hrow hcs hro2
    refine ⟨_, _, _, had.1, (mv_cut (h2.trans hm) hh.n).trans had.2, ?_, rfl, rfl⟩
    show R _ _ _ _
    rw [← hl]
    have := R.s (w := w') (g := ((g'.frz S' (newBut S.n id)).cut S.n).add ((g'.frz S' (newBut S.n id)).blk id) ((g'.frz S' (newBut S.n id)).cap id) ((g'.frz S' (newBut S.n id)).sz id)) S.n 0 es.length c A (Nat.lt_succ_self _) hn (by
      have e := add_cap ((g'.frz S' (newBut S.n id)).cut S.n) ((g'.frz S' (newBut S.n id)).blk id) ((g'.frz S' (newBut S.n id)).cap id) ((g'.frz S' (newBut S.n id)).sz id)
      have e' : ((g'.frz S' (newBut S.n id)).cut S.n).n = S.n := rfl
      rw [e'] at e
      rw [e]
      exact hcap) (fun hp => by
      have e := add_blk ((g'.frz S' (newBut S.n id)).cut S.n) ((g'.frz S' (newBut S.n id)).blk id) ((g'.frz S' (newBut S.n id)).cap id) ((g'.frz S' (newBut S.n id)).sz id)
      have e' : ((g'.frz S' (newBut S.n id)).cut S.n).n = S.n := rfl
      rw [e'] at e
      rw [e, Nat.zero_mul]
      have := hA hp
      rwa [Nat.zero_mul] at this)
    exact this
  | panicked chain => exact h3.elim
  | outgrown => exact h3.elim

end Go.Ab

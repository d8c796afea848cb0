/- It is proved here that each of the laws of sets (SetsMade, SetsFix, SetsMore, SetsFair) returns true for every input and changes none of its arguments. There is no condition beyond the given statement. -/
import Derived.Below
import Derived.Laws.Rows
import Derived.Laws.OwnMore
import Derived.Laws.Slices
import Derived.WalkKit
import Derived.Tactics
import Derived.Deep.Draws
import Derived.KernelRfl
set_option linter.unusedVariables false
set_option linter.unusedSimpArgs false
namespace Go.Ab
open Go Go.RowKit

theorem byteArray_ext {a b : ByteArray} (h : a.data = b.data) : a = b := by cases a; cases b; cases h; rfl
/-- The keys of maps. -/
inductive Key where
  | i (n : Int)
  | s (b : List UInt8)
  | p (x y : Int)
  deriving DecidableEq
inductive KK where
  | i (k : IntKind)
  | s
  | p (k : IntKind)
  deriving DecidableEq
def Key.val : KK → Key → Value
  | .i k, .i n => .int k n
  | .s, .s b => .string ⟨b.toArray⟩
  | .p k, .p x y => .agg #[.int k x, .int k y]
  | _, _ => undef
def Key.fits : KK → Key → Bool
  | .i _, .i _ => true
  | .s, .s _ => true
  | .p _, .p _ _ => true
  | _, _ => false

/-- Abstract values: trees for what is only read, numbers for what is written. -/
inductive AV where
  | v (x : Value)
  | nl
  | p (id i j : Nat)
  | s (id i n : Nat)
  | l (es : List (List AV))
  | q (c : List AV) (j : Nat)
  | f (fn : Fn) (first cap : List AV)
  | a (cs : List AV)
  | t (vs : List AV)
  | i (t : TypeId) (x : AV)
  | m (id : Nat)
  | mt (kk : KK) (es : List (Key × AV))
  | j
  deriving Inhabited

def AV.one : AV → Bool
  | .v x => x.oneCell'
  | .a _ | .t _ | .j => false
  | _ => true

structure Gh where
  n : Nat
  blk : Nat → Nat
  sz : Nat → Nat
  cap : Nat → Nat
  im : Nat → Prop

def MapRow (kk : KK) (es : List (Key × AV)) (ms : Array MapEntry) : Prop :=
  ms.size = es.length ∧ ∀ (i : Nat) (e : Key × AV), es[i]? = some e → e.1.fits kk = true ∧ ∃ m, ms[i]? = some m ∧ m.key = e.1.val kk ∧ m.born = i

inductive R (w : World) (g : Gh) : AV → Value → Prop
  | v (x : Value) : R w g (.v x) x
  | nl (A : Option Addr) : R w g .nl (.slice A 0 0)
  | p (id i j : Nat) (h : id < g.n) : R w g (.p id i j) (.pointer (some ⟨g.blk id, i * g.sz id + j, none⟩))
  | s (id i n c : Nat) (A : Addr) (h : id < g.n) (hn : n ≤ c) (hc : i + c ≤ g.cap id) (hA : 0 < c → A = ⟨g.blk id, i * g.sz id, none⟩) : R w g (.s id i n) (.slice (some A) n c)
  | l (es : List (List AV)) (A : Option Addr) (c sz : Nat) (vs : Nat → Nat → Value) (hc : es.length ≤ c)
      (hm : es ≠ [] → ∃ ad, A = some ad ∧ g.im ad.block ∧ ∀ i c', es[i]? = some c' → c'.length = sz ∧ ∀ j, j < sz → w.cell? (ad.add (i * sz + j)) = some (vs i j))
      (h1 : ∀ (i : Nat) (c' : List AV) (j : Nat) (u : AV), es[i]? = some c' → c'[j]? = some u → u.one = true)
      (hR : ∀ (i : Nat) (c' : List AV) (j : Nat) (u : AV), es[i]? = some c' → c'[j]? = some u → R w g u (vs i j)) : R w g (.l es) (.slice A es.length c)
  | q (c : List AV) (j : Nat) (ad : Addr) (vs : Nat → Value) (him : g.im ad.block) (hm : ∀ k, k < c.length → w.cell? (ad.add k) = some (vs k))
      (h1 : ∀ (k : Nat) (u : AV), c[k]? = some u → u.one = true) (hR : ∀ (k : Nat) (u : AV), c[k]? = some u → R w g u (vs k)) : R w g (.q c j) (.pointer (some (ad.add j)))
  | f (fn : Fn) (fs cs : List AV) (fs' cs' : Array Value) (hf : fs.length = fs'.size) (hc : cs.length = cs'.size)
      (hF : ∀ (k : Nat) (u : AV), fs[k]? = some u → R w g u (fs'.getD k undef)) (hC : ∀ (k : Nat) (u : AV), cs[k]? = some u → R w g u (cs'.getD k undef)) : R w g (.f fn fs cs) (.func fn fs' cs')
  | a (cs : List AV) (cs' : Array Value) (hl : cs.length = cs'.size) (h1 : ∀ (k : Nat) (u : AV), cs[k]? = some u → u.one = true)
      (hR : ∀ (k : Nat) (u : AV), cs[k]? = some u → R w g u (cs'.getD k undef)) : R w g (.a cs) (.agg cs')
  | t (cs : List AV) (cs' : Array Value) (hl : cs.length = cs'.size)
      (hR : ∀ (k : Nat) (u : AV), cs[k]? = some u → R w g u (cs'.getD k undef)) : R w g (.t cs) (.tuple cs')
  | i (t : TypeId) (x : AV) (y : Value) (h : R w g x y) : R w g (.i t x) (.iface t y)
  | m (id : Nat) (h : id < g.n) : R w g (.m id) (.map (some (g.blk id)))
  | mt (kk : KK) (es : List (Key × AV)) (r : Nat) (ms : Array MapEntry) (him : g.im r) (hm : w.heap[r]? = some (.map ms ms.size)) (hrow : MapRow kk es ms)
      (hR : ∀ (i : Nat) (e : Key × AV), es[i]? = some e → R w g e.2 (ms[i]?.getD default).val) : R w g (.mt kk es) (.map (some r))
  | j (y : Value) : R w g .j y

structure Mv (w : World) (g : Gh) (w' : World) (g' : Gh) : Prop where
  os : w'.os = w.os
  tape : w'.tape = w.tape
  output : w'.output = w.output
  size : w.heap.size ≤ w'.heap.size
  keep : ∀ b, g.im b → w'.heap[b]? = w.heap[b]?
  im : ∀ b, g.im b → g'.im b
  n : g.n ≤ g'.n
  blk : ∀ id, id < g.n → g'.blk id = g.blk id
  sz : ∀ id, id < g.n → g'.sz id = g.sz id
  cap : ∀ id, id < g.n → g'.cap id = g.cap id

theorem Mv.refl (w : World) (g : Gh) : Mv w g w g := ⟨rfl, rfl, rfl, Nat.le_refl _, fun _ _ => rfl, fun _ h => h, Nat.le_refl _, fun _ _ => rfl, fun _ _ => rfl, fun _ _ => rfl⟩
theorem Mv.trans {w : World} {g : Gh} {w1 : World} {g1 : Gh} {w2 : World} {g2 : Gh} (h : Mv w g w1 g1) (k : Mv w1 g1 w2 g2) : Mv w g w2 g2 where
  os := k.os.trans h.os
  tape := k.tape.trans h.tape
  output := k.output.trans h.output
  size := Nat.le_trans h.size k.size
  keep b hb := (k.keep b (h.im b hb)).trans (h.keep b hb)
  im b hb := k.im b (h.im b hb)
  n := Nat.le_trans h.n k.n
  blk id hi := (k.blk id (Nat.lt_of_lt_of_le hi h.n)).trans (h.blk id hi)
  sz id hi := (k.sz id (Nat.lt_of_lt_of_le hi h.n)).trans (h.sz id hi)
  cap id hi := (k.cap id (Nat.lt_of_lt_of_le hi h.n)).trans (h.cap id hi)

theorem add_block (a : Addr) (n : Nat) : (a.add n).block = a.block := by unfold Addr.add; split <;> rfl
theorem add_add (a : Addr) (m n : Nat) : (a.add m).add n = a.add (m + n) := by
  unfold Addr.add
  by_cases h1 : m = 0 <;> by_cases h2 : n = 0 <;> simp [h1, h2, Nat.add_assoc]
theorem add_at (b o n : Nat) : (⟨b, o, none⟩ : Addr).add n = ⟨b, o + n, none⟩ := by
  unfold Addr.add
  by_cases h : n = 0 <;> simp [h]
theorem cell_of_block {w w' : World} {a : Addr} (h : w'.heap[a.block]? = w.heap[a.block]?) : w'.cell? a = w.cell? a := by
  unfold World.cell?
  rw [h]

theorem R.mv {w : World} {g : Gh} {w' : World} {g' : Gh} (m : Mv w g w' g') {u : AV} {y : Value} (h : R w g u y) : R w' g' u y := by
  induction h with
  | v x => exact .v x
  | nl A => exact .nl A
  | p id i j h =>
    have := R.p (w := w') (g := g') id i j (Nat.lt_of_lt_of_le h m.n)
    rwa [m.blk id h, m.sz id h] at this
  | s id i n c A h hn hc hA =>
    exact .s id i n c A (Nat.lt_of_lt_of_le h m.n) hn (by rw [m.cap id h]; exact hc) (by rw [m.blk id h, m.sz id h]; exact hA)
  | l es A c sz vs hc hm h1 hR ih =>
    refine .l es A c sz vs hc (fun he => ?_) h1 ih
    obtain ⟨ad, e, hi, hcell⟩ := hm he
    refine ⟨ad, e, m.im _ hi, fun i c' hc' => ⟨(hcell i c' hc').1, fun j hj => ?_⟩⟩
    rw [cell_of_block (w := w) (w' := w') (a := ad.add (i * sz + j)) (by rw [add_block]; exact m.keep _ hi)]
    exact (hcell i c' hc').2 j hj
  | q c j ad vs him hm h1 hR ih =>
    refine .q c j ad vs (m.im _ him) (fun k hk => ?_) h1 ih
    rw [cell_of_block (w := w) (w' := w') (a := ad.add k) (by rw [add_block]; exact m.keep _ him)]
    exact hm k hk
  | f fn fs cs fs' cs' hf hc hF hC ih1 ih2 => exact .f fn fs cs fs' cs' hf hc ih1 ih2
  | a cs cs' hl h1 hR ih => exact .a cs cs' hl h1 ih
  | t cs cs' hl hR ih => exact .t cs cs' hl ih
  | i t x y h ih => exact .i t x y ih
  | m id h =>
    have := R.m (w := w') (g := g') id (Nat.lt_of_lt_of_le h m.n)
    rwa [m.blk id h] at this
  | mt kk es r ms him hm hrow hR ih => exact .mt kk es r ms (m.im _ him) ((m.keep r him).trans hm) hrow ih
  | j y => exact .j y

theorem R.oneCell {w : World} {g : Gh} {u : AV} {y : Value} (h : R w g u y) (h1 : u.one = true) : y.oneCell' = true := by
  cases h <;> first | rfl | exact h1 | (simp [AV.one] at h1)

theorem R.inv_p {w : World} {g : Gh} {id i j : Nat} {y : Value} (h : R w g (.p id i j) y) : id < g.n ∧ y = .pointer (some ⟨g.blk id, i * g.sz id + j, none⟩) := by cases h; exact ⟨‹_›, rfl⟩
theorem R.inv_v {w : World} {g : Gh} {x y : Value} (h : R w g (.v x) y) : y = x := by cases h; rfl
theorem R.inv_nl {w : World} {g : Gh} {y : Value} (h : R w g .nl y) : ∃ A, y = .slice A 0 0 := by cases h; exact ⟨_, rfl⟩
theorem R.inv_s {w : World} {g : Gh} {id i n : Nat} {y : Value} (h : R w g (.s id i n) y) : id < g.n ∧ ∃ A c, y = .slice (some A) n c ∧ n ≤ c ∧ i + c ≤ g.cap id ∧ (0 < c → A = ⟨g.blk id, i * g.sz id, none⟩) := by
  cases h; exact ⟨‹_›, _, _, rfl, ‹_›, ‹_›, ‹_›⟩
theorem R.inv_l {w : World} {g : Gh} {es : List (List AV)} {y : Value} (h : R w g (.l es) y) : ∃ (A : Option Addr) (c sz : Nat) (vs : Nat → Nat → Value), y = .slice A es.length c ∧ es.length ≤ c ∧
    (es ≠ [] → ∃ ad, A = some ad ∧ g.im ad.block ∧ ∀ i c', es[i]? = some c' → c'.length = sz ∧ ∀ j, j < sz → w.cell? (ad.add (i * sz + j)) = some (vs i j)) ∧
    (∀ (i : Nat) (c' : List AV) (j : Nat) (u : AV), es[i]? = some c' → c'[j]? = some u → u.one = true ∧ R w g u (vs i j)) := by
  cases h with
  | l es A c sz vs hc hm h1 hR => exact ⟨A, c, sz, vs, rfl, hc, hm, fun i c' j u h2 h3 => ⟨h1 i c' j u h2 h3, hR i c' j u h2 h3⟩⟩

/-! ### The store -/
inductive AObj where
  | cells (t : TypeId) (es : List (List AV)) (live : Bool)
  | map (kk : KK) (es : List (Key × AV)) (live : Bool)
  | sit (s : ByteArray) (pos : Nat)
  | mit (x : AV) (n : Nat) (seen : List Nat)
  deriving Inhabited
def AObj.live : AObj → Bool
  | .cells _ _ l => l
  | .map _ _ l => l
  | .sit _ _ => true
  | .mit _ _ _ => true

structure Store where
  n : Nat
  obj : Nat → Option AObj

def Store.new (S : Store) (o : AObj) : Store := ⟨S.n + 1, fun i => if i = S.n then some o else S.obj i⟩
def Store.upd (S : Store) (id : Nat) (o : AObj) : Store := ⟨S.n, fun i => if i = id then some o else S.obj i⟩
def Store.kill (S : Store) (id : Nat) : Store := ⟨S.n, fun i => if i = id then none else S.obj i⟩

def Keep (S S' : Store) : Prop := S.n ≤ S'.n ∧ ∀ i, i < S.n → S'.obj i = S.obj i
theorem Keep.refl (S : Store) : Keep S S := ⟨Nat.le_refl _, fun _ _ => rfl⟩
theorem Keep.trans {S S1 S2 : Store} (h : Keep S S1) (k : Keep S1 S2) : Keep S S2 := ⟨Nat.le_trans h.1 k.1, fun i hi => (k.2 i (Nat.lt_of_lt_of_le hi h.1)).trans (h.2 i hi)⟩
theorem Keep.new {S S' : Store} (h : Keep S S') (o : AObj) : Keep S (S'.new o) := ⟨Nat.le_trans h.1 (Nat.le_succ _), fun i hi => by
  have := h.1
  simp only [Store.new]
  rw [if_neg (by omega)]
  exact h.2 i hi⟩
theorem Keep.kill {S S' : Store} (h : Keep S S') {id : Nat} (hid : S.n ≤ id) : Keep S (S'.kill id) := ⟨h.1, fun i hi => by
  simp only [Store.kill]
  rw [if_neg (by omega)]
  exact h.2 i hi⟩
theorem Keep.upd {S S' : Store} (h : Keep S S') {id : Nat} (hid : S.n ≤ id) (o : AObj) : Keep S (S'.upd id o) := ⟨h.1, fun i hi => by
  simp only [Store.upd]
  rw [if_neg (by omega)]
  exact h.2 i hi⟩


structure ObjOk (P : Program) (w : World) (g : Gh) (id : Nat) (t : TypeId) (es : List (List AV)) (live : Bool) : Prop where
  lt : id < g.n
  blk : g.blk id < w.heap.size
  imY : live = true → ¬ g.im (g.blk id)
  imN : live = false → g.im (g.blk id)
  len : es.length ≤ g.cap id
  info : ∃ i, P.info? t = some i ∧ i.size = g.sz id
  row : ∃ cs : Array Value, w.heap[g.blk id]? = some (.cells cs t (0, 0)) ∧ cs.size = g.cap id * g.sz id ∧
    ∀ (i : Nat) (c : List AV), es[i]? = some c → c.length = g.sz id ∧ ∀ (k : Nat) (u : AV), c[k]? = some u → u.one = true ∧ R w g u (cs.getD (i * g.sz id + k) undef)

/-- What an object is in memory. -/
def ORow (P : Program) (w : World) (g : Gh) (id : Nat) : AObj → Prop
  | .cells t es _ => es.length ≤ g.cap id ∧ (∃ i, P.info? t = some i ∧ i.size = g.sz id) ∧ ∃ cs : Array Value, w.heap[g.blk id]? = some (.cells cs t (0, 0)) ∧ cs.size = g.cap id * g.sz id ∧
    ∀ (i : Nat) (c : List AV), es[i]? = some c → c.length = g.sz id ∧ ∀ (k : Nat) (u : AV), c[k]? = some u → u.one = true ∧ R w g u (cs.getD (i * g.sz id + k) undef)
  | .map kk es _ => ∃ ms, w.heap[g.blk id]? = some (.map ms ms.size) ∧ MapRow kk es ms ∧ ∀ (i : Nat) (e : Key × AV), es[i]? = some e → R w g e.2 (ms[i]?.getD default).val
  | .sit s pos => w.heap[g.blk id]? = some (.stringIter s pos)
  | .mit x n seen => ∃ r, w.heap[g.blk id]? = some (.mapIter (some r) n seen.toArray n) ∧ R w g x (.map (some r))
structure OOk (P : Program) (w : World) (g : Gh) (id : Nat) (o : AObj) : Prop where
  lt : id < g.n
  blk : g.blk id < w.heap.size
  imY : o.live = true → ¬ g.im (g.blk id)
  imN : o.live = false → g.im (g.blk id)
  row : ORow P w g id o
theorem ORow.mv {P : Program} {w : World} {g : Gh} {w' : World} {g' : Gh} (m : Mv w g w' g') {id : Nat} (lt : id < g.n) {o : AObj} (h : ORow P w g id o) (hb : w'.heap[g.blk id]? = w.heap[g.blk id]?) : ORow P w' g' id o := by
  cases o with
  | cells t es l =>
    obtain ⟨h1, h2, cs, h3, h4, h5⟩ := h
    refine ⟨by rw [m.cap id lt]; exact h1, by rw [m.sz id lt]; exact h2, cs, by rw [m.blk id lt, hb]; exact h3, by rw [m.cap id lt, m.sz id lt]; exact h4, fun i c hc => ?_⟩
    rw [m.sz id lt]
    exact ⟨(h5 i c hc).1, fun k u hu => ⟨((h5 i c hc).2 k u hu).1, ((h5 i c hc).2 k u hu).2.mv m⟩⟩
  | map kk es l =>
    obtain ⟨ms, h1, h2, h3⟩ := h
    exact ⟨ms, by rw [m.blk id lt, hb]; exact h1, h2, fun i e he => (h3 i e he).mv m⟩
  | sit s pos =>
    show w'.heap[g'.blk id]? = _
    rw [m.blk id lt, hb]
    exact h
  | mit x n seen =>
    obtain ⟨r, h1, h2⟩ := h
    exact ⟨r, by rw [m.blk id lt, hb]; exact h1, h2.mv m⟩
theorem OOk.mv {P : Program} {w : World} {g : Gh} {w' : World} {g' : Gh} (m : Mv w g w' g') {id : Nat} {o : AObj} (h : OOk P w g id o)
    (hb : w'.heap[g.blk id]? = w.heap[g.blk id]?) (hn : o.live = true → ¬ g'.im (g.blk id)) : OOk P w' g' id o where
  lt := Nat.lt_of_lt_of_le h.lt m.n
  blk := by rw [m.blk id h.lt]; exact Nat.lt_of_lt_of_le h.blk m.size
  imY hl := by rw [m.blk id h.lt]; exact hn hl
  imN hl := by rw [m.blk id h.lt]; exact m.im _ (h.imN hl)
  row := h.row.mv m h.lt hb

structure Heap (P : Program) (w : World) (g : Gh) (S : Store) : Prop where
  n : g.n = S.n
  im : ∀ b, g.im b → b < w.heap.size
  ob : ∀ id o, S.obj id = some o → OOk P w g id o
  sp : ∀ a b o o', S.obj a = some o → S.obj b = some o' → o.live = true → o'.live = true → g.blk a = g.blk b → a = b
theorem OOk.cells {P : Program} {w : World} {g : Gh} {id : Nat} {t : TypeId} {es : List (List AV)} {live : Bool} (h : OOk P w g id (.cells t es live)) : ObjOk P w g id t es live :=
  ⟨h.lt, h.blk, h.imY, h.imN, h.row.1, h.row.2.1, h.row.2.2⟩
theorem ObjOk.gen {P : Program} {w : World} {g : Gh} {id : Nat} {t : TypeId} {es : List (List AV)} {live : Bool} (h : ObjOk P w g id t es live) : OOk P w g id (.cells t es live) :=
  ⟨h.lt, h.blk, h.imY, h.imN, h.len, h.info, h.row⟩
theorem Heap.obj {P : Program} {w : World} {g : Gh} {S : Store} (hh : Heap P w g S) (id : Nat) (t : TypeId) (es : List (List AV)) (live : Bool) (ho : S.obj id = some (.cells t es live)) : ObjOk P w g id t es live := (hh.ob id _ ho).cells
theorem Heap.sep {P : Program} {w : World} {g : Gh} {S : Store} (hh : Heap P w g S) (a b : Nat) (t : TypeId) (es : List (List AV)) (t' : TypeId) (es' : List (List AV)) (h1 : S.obj a = some (.cells t es true)) (h2 : S.obj b = some (.cells t' es' true)) (h : g.blk a = g.blk b) : a = b :=
  hh.sp a b _ _ h1 h2 rfl rfl h
theorem ObjOk.mv {P : Program} {w : World} {g : Gh} {w' : World} {g' : Gh} (m : Mv w g w' g') {id : Nat} {t : TypeId} {es : List (List AV)} {live : Bool} (h : ObjOk P w g id t es live)
    (hb : w'.heap[g.blk id]? = w.heap[g.blk id]?) (hn : live = true → ¬ g'.im (g.blk id)) : ObjOk P w' g' id t es live := (h.gen.mv m hb hn).cells

/-! ### Frames -/
/-- The slots: beyond the n-th there is none. -/
structure Env where
  n : Nat
  f : Nat → AV
  out : ∀ k, n ≤ k → f k = .j
theorem Env.put_out (env : Env) (d : Nat) (u : AV) (k : Nat) (h : env.n ≤ k) : (match Nat.beq k d with | true => (match Nat.blt d env.n with | true => u | false => .j) | false => env.f k) = .j := by
  split
  · rename_i e
    have : k = d := Nat.eq_of_beq_eq_true e
    subst this
    have : Nat.blt k env.n = false := by
      cases hb : Nat.blt k env.n with
      | false => rfl
      | true => have : k < env.n := by simpa [Nat.blt_eq] using hb
                omega
    rw [this]
  · exact env.out k h
def Env.put (env : Env) (d : Nat) (u : AV) : Env :=
  ⟨env.n, fun i => match Nat.beq i d with | true => (match Nat.blt d env.n with | true => u | false => .j) | false => env.f i, env.put_out d u⟩
theorem Env.put_ne (env : Env) {d k : Nat} (u : AV) (h : k ≠ d) : (env.put d u).f k = env.f k := by
  have : Nat.beq k d = false := by
    cases hb : Nat.beq k d with
    | false => rfl
    | true => exact absurd (Nat.eq_of_beq_eq_true hb) h
  simp [Env.put, this]
theorem Env.put_eq (env : Env) {d : Nat} (u : AV) (h : d < env.n) : (env.put d u).f d = u := by
  have h1 : Nat.beq d d = true := Nat.beq_refl d
  have h2 : Nat.blt d env.n = true := by simpa [Nat.blt_eq] using h
  simp [Env.put, h1, h2]
theorem Env.ext {e e' : Env} (h : e.n = e'.n) (k : ∀ i, e.f i = e'.f i) : e = e' := by
  obtain ⟨n, f, o⟩ := e
  obtain ⟨n', f', o'⟩ := e'
  simp only at h k
  subst h
  have : f = f' := funext k
  subst this
  rfl
structure EnvR (w : World) (g : Gh) (env : Env) (a : Act) : Prop where
  size : env.n = a.tmps.size
  rel : ∀ (k : Nat), R w g (env.f k) (a.tmps.getD k undef)
  defers : a.defers = []

theorem EnvR.mv {w : World} {g : Gh} {w' : World} {g' : Gh} {env : Env} {a : Act} (m : Mv w g w' g') (h : EnvR w g env a) : EnvR w' g' env a :=
  ⟨h.size, fun k => (h.rel k).mv m, h.defers⟩

def setD (env : Env) : Option Tmp → AV → Env
  | some d, u => env.put d u
  | none, _ => env

theorem EnvR.put {w : World} {g : Gh} {env : Env} {a : Act} (h : EnvR w g env a) (d : Option Tmp) {u : AV} {y : Value} (hr : R w g u y) : EnvR w g (setD env d u) (a.put d y) := by
  cases d with
  | none => exact h
  | some d =>
    refine ⟨by simp [setD, Env.put, Act.put, h.size], fun k => ?_, h.defers⟩
    simp only [Act.put, Array.getD_eq_getD_getElem?, Array.getElem?_setIfInBounds]
    have hl := h.size
    by_cases e : d = k
    · subst e
      by_cases hd : d < env.n
      · have hd' : d < a.tmps.size := hl ▸ hd
        rw [show (setD env (some d) u).f d = u from env.put_eq u hd]
        simpa [hd'] using hr
      · rw [show (setD env (some d) u).f d = .j from (env.put d u).out d (Nat.le_of_not_lt hd)]
        exact .j _
    · rw [if_neg e, show (setD env (some d) u).f k = env.f k from env.put_ne u (fun q => e q.symm)]
      have := h.rel k
      rwa [Array.getD_eq_getD_getElem?] at this


def abs1 : Value → AV
  | .slice none 0 0 => .nl
  | x => .v x
def absC : Value → AV
  | .agg cs => if cs.all Value.oneCell' then .a (cs.toList.map abs1) else .v (.agg cs)
  | x => abs1 x
theorem R_abs1 (w : World) (g : Gh) (x : Value) : R w g (abs1 x) x := by
  unfold abs1
  split
  · exact .nl _
  · exact .v _
theorem one_abs1 {x : Value} (h : x.oneCell' = true) : (abs1 x).one = true := by
  unfold abs1
  split
  · rfl
  · exact h
theorem R_absC (w : World) (g : Gh) (x : Value) : R w g (absC x) x := by
  unfold absC
  split
  · rename_i cs
    split
    · rename_i h
      refine .a _ _ (by simp) (fun k u hu => ?_) (fun k u hu => ?_)
      · simp only [List.getElem?_map, Array.getElem?_toList, Option.map_eq_some_iff] at hu
        obtain ⟨y, hy, rfl⟩ := hu
        exact one_abs1 (Array.all_eq_true_iff_forall_mem.1 h y (Array.mem_of_getElem? hy))
      · simp only [List.getElem?_map, Array.getElem?_toList, Option.map_eq_some_iff] at hu
        obtain ⟨y, hy, rfl⟩ := hu
        simp only [Array.getD_eq_getD_getElem?, hy, Option.getD_some]
        exact R_abs1 _ _ _
    · exact .v _
  · exact R_abs1 _ _ _

def ev (env : Env) : Operand → AV
  | .tmp t => env.f t
  | .const x => absC x
  | .global g => .v (.pointer (some ⟨g, 0, none⟩))
  | .func f => .f (.func f) [] []
theorem EnvR.ev {w : World} {g : Gh} {env : Env} {a : Act} (h : EnvR w g env a) (x : Operand) : R w g (Ab.ev env x) (a.eval x) := by
  cases x with
  | tmp t =>
    exact h.rel t
  | const x => exact R_absC _ _ _
  | global g => exact .v _
  | func f => exact .f _ _ _ _ _ rfl rfl (fun k u hu => by simp at hu) (fun k u hu => by simp at hu)

/-! ### What an operation is to show -/
def OpS (P : Program) (o : Oper) (env : Env) (S : Store) (K X : AV → Store → Prop) : Prop :=
  ∀ (w : World) (g : Gh) (a : Act) (next : Act → World → Prop) (Q : Exit → Act → World → Prop), Heap P w g S → EnvR w g env a →
    (∀ v S' w' g' y, Heap P w' g' S' → Mv w g w' g' → R w' g' v y → K v S' → next (a.put o.dst y) w') →
    (∀ u S' w' g' y, Heap P w' g' S' → Mv w g w' g' → R w' g' u y → X u S' → Q (.panic [{ v := y, recovered := false }]) a w') →
    o.wp P a w next Q

theorem wp_value {P : Program} {o : Oper} {a : Act} {w w' : World} {next : Act → World → Prop} {Q : Exit → Act → World → Prop} {y : Value} (h : (execOp a.eval o).run P w = .ok (.value y) w') (hn : next (a.put o.dst y) w') : o.wp P a w next Q := by
  unfold Oper.wp
  rw [h]
  exact hn
theorem wp_skip' {P : Program} {o : Oper} {a : Act} {w w' : World} {next : Act → World → Prop} {Q : Exit → Act → World → Prop} (h : (execOp a.eval o).run P w = .ok .skip w') (hn : next (a.put o.dst undef) w') : o.wp P a w next Q := by
  unfold Oper.wp
  rw [h]
  exact hn

/-- The world stays. -/
theorem opS_pure {P : Program} {o : Oper} {env : Env} {S : Store} {K X : AV → Store → Prop} {u : AV} (hK : K u S)
    (h : ∀ (w : World) (g : Gh) (a : Act), Heap P w g S → EnvR w g env a → ∃ y, (execOp a.eval o).run P w = .ok (.value y) w ∧ R w g u y) : OpS P o env S K X := by
  intro w g a next Q hh he hn hx
  obtain ⟨y, hrun, hr⟩ := h w g a hh he
  exact wp_value hrun (hn u S w g y hh (Mv.refl _ _) hr hK)

/-! ### Types -/
def szT (P : Program) (t : TypeId) : Option Nat := (P.info? t).map (·.size)
def aggT (P : Program) (t : TypeId) : Option Bool := (P.underlying t).map fun | .struct _ | .array _ _ => true | _ => false
theorem run_sz {P : Program} {t : TypeId} {n : Nat} (h : szT P t = some n) (w : World) : (sizeOf t).run P w = .ok n w := by
  unfold szT at h
  obtain ⟨i, hi, rfl⟩ := Option.map_eq_some_iff.1 h
  simp [sizeOf, typeInfo, hi]
theorem run_agg {P : Program} {t : TypeId} {b : Bool} (h : aggT P t = some b) (w : World) : (isAgg t).run P w = .ok b w := by
  unfold aggT at h
  obtain ⟨d, hd, rfl⟩ := Option.map_eq_some_iff.1 h
  unfold isAgg
  rw [Sem.run_bind, run_underlying hd w]
  cases d <;> rfl

/-! ### Reading -/
def optP {α : Type} (o : Option α) (K : α → Prop) : Prop := ∃ u, o = some u ∧ K u
@[simp] theorem optP_some {α : Type} (u : α) (K : α → Prop) : optP (some u) K = K u := by
  unfold optP
  apply propext
  constructor
  · rintro ⟨v, h, hk⟩; cases h; exact hk
  · exact fun h => ⟨u, rfl, h⟩
@[simp] theorem optP_none {α : Type} (K : α → Prop) : optP (none : Option α) K = False := by
  unfold optP
  apply propext
  constructor
  · rintro ⟨v, h, _⟩; cases h
  · exact False.elim

def Store.get (S : Store) (id i : Nat) : Option (List AV) :=
  match S.obj id with
  | some (.cells _ es _) => es[i]?
  | _ => none
/-- The cells that a pointer leads to, and where in them. -/
def place (S : Store) : AV → Option (List AV × Nat)
  | .p id i j => (S.get id i).map (·, j)
  | .q c j => some (c, j)
  | _ => none
def rd1 (S : Store) (x : AV) : Option AV := (place S x).bind fun (c, j) => c[j]?
def rdN (S : Store) (n : Nat) (x : AV) : Option (List AV) := (place S x).bind fun (c, j) => if j + n ≤ c.length then some ((c.drop j).take n) else none

theorem cell_row {w : World} {b o : Nat} {cs : Array Value} {t : TypeId} {fr : Nat × Nat} (h : w.heap[b]? = some (.cells cs t fr)) : w.cell? ⟨b, o, none⟩ = cs[o]? := by
  simp [World.cell?, h]

/-- What a place is in memory. -/
theorem place_cells {P : Program} {w : World} {g : Gh} {S : Store} (hh : Heap P w g S) {x : AV} {y : Value} (hr : R w g x y) {c : List AV} {j : Nat} (hp : place S x = some (c, j)) :
    ∃ ad : Addr, y = .pointer (some ad) ∧ ∀ k u, c[j + k]? = some u → ∃ z, w.cell? (ad.add k) = some z ∧ R w g u z ∧ u.one = true := by
  cases hr with
  | p id i j h =>
    simp only [place, Store.get, Option.map_eq_some_iff] at hp
    obtain ⟨c', hc', he⟩ := hp
    cases he
    split at hc'
    · rename_i t es live ho
      obtain ⟨cs, h1, h2, h3⟩ := (hh.obj _ _ _ _ ho).row
      refine ⟨_, rfl, fun k u hu => ?_⟩
      obtain ⟨hl, h4⟩ := h3 i c hc'
      obtain ⟨h5, h6⟩ := h4 (j + k) u hu
      have hk : j + k < c.length := (List.getElem?_eq_some_iff.1 hu).1
      have hi : i < es.length := (List.getElem?_eq_some_iff.1 hc').1
      have hb : i * g.sz id + (j + k) < cs.size := by
        rw [h2]
        have h7 : (i + 1) * g.sz id ≤ g.cap id * g.sz id := Nat.mul_le_mul_right _ (Nat.le_trans hi (hh.obj _ _ _ _ ho).len)
        rw [Nat.add_mul, Nat.one_mul] at h7
        omega
      refine ⟨cs.getD (i * g.sz id + (j + k)) undef, ?_, h6, h5⟩
      rw [add_at, cell_row h1, Nat.add_assoc]
      simp [Array.getD_eq_getD_getElem?, Array.getElem?_eq_getElem hb]
    · cases hc'
  | q c' j' ad vs him hm h1 hR =>
    simp only [place, Option.some.injEq, Prod.mk.injEq] at hp
    obtain ⟨rfl, rfl⟩ := hp
    refine ⟨_, rfl, fun k u hu => ?_⟩
    have hk := (List.getElem?_eq_some_iff.1 hu).1
    refine ⟨vs (j' + k), ?_, hR _ _ hu, h1 _ _ hu⟩
    rw [add_add]
    exact hm _ hk
  | _ => simp [place] at hp

/-- A load. -/
def ld1 (x : AV) (S : Store) (K : AV → Store → Prop) : Prop := optP (rd1 S x) fun u => K u S
def ldN (n : Nat) (x : AV) (S : Store) (K : AV → Store → Prop) : Prop := optP (rdN S n x) fun c => K (.a c) S
def ld (P : Program) (t : TypeId) (x : AV) (S : Store) (K : AV → Store → Prop) : Prop :=
  match aggT P t, szT P t with
  | some false, _ => ld1 x S K
  | some true, some n => ldN n x S K
  | _, _ => False

theorem run_ld {P : Program} {w : World} {g : Gh} {S : Store} (hh : Heap P w g S) {t : TypeId} {x : AV} {y : Value} (hr : R w g x y) {K : AV → Store → Prop} (h : ld P t x S K) :
    ∃ ad u v, y = .pointer (some ad) ∧ (loadVar t ad).run P w = .ok v w ∧ R w g u v ∧ K u S := by
  unfold ld at h
  split at h
  · rename_i ha
    obtain ⟨u, hu, hK⟩ := h
    unfold rd1 at hu
    obtain ⟨⟨c, j⟩, hp, hc⟩ := Option.bind_eq_some_iff.1 hu
    obtain ⟨ad, hy, hcell⟩ := place_cells hh hr hp
    obtain ⟨z, hz, hrz, _⟩ := hcell 0 u (by simpa using hc)
    refine ⟨ad, u, z, hy, ?_, hrz, hK⟩
    have hz' : w.cell? ad = some z := by simpa [Addr.add] using hz
    simp [loadVar, run_agg ha, hz']
  · rename_i n ha hs
    obtain ⟨c, hu, hK⟩ := h
    unfold rdN at hu
    obtain ⟨⟨c', j⟩, hp, hc⟩ := Option.bind_eq_some_iff.1 hu
    dsimp only at hc
    split at hc
    · rename_i hl
      cases hc
      obtain ⟨ad, hy, hcell⟩ := place_cells hh hr hp
      have hf : ∀ k, ∃ z, k < n → ∃ u, c'[j + k]? = some u ∧ w.cell? (ad.add k) = some z ∧ R w g u z ∧ u.one = true := by
        intro k
        by_cases hk : k < n
        · obtain ⟨z, h1, h2, h3⟩ := hcell k _ (List.getElem?_eq_getElem (show j + k < c'.length by omega))
          exact ⟨z, fun _ => ⟨_, List.getElem?_eq_getElem (show j + k < c'.length by omega), h1, h2, h3⟩⟩
        · exact ⟨undef, fun h => absurd h hk⟩
      obtain ⟨f, hf⟩ := Classical.axiomOfChoice hf
      refine ⟨ad, _, .agg ((List.range n).map f).toArray, hy, ?_, ?_, hK⟩
      · have hl : (loadCells ad n).run P w = .ok ((List.range n).map f).toArray w := by
          have := run_loadCells_list (P := P) w ad ((List.range n).map f) (fun k v hv => by
            rw [List.getElem?_map] at hv
            obtain ⟨k', hk', rfl⟩ := Option.map_eq_some_iff.1 hv
            have hk2 := (List.getElem?_eq_some_iff.1 hk').1
            have hk3 := (List.getElem?_eq_some_iff.1 hk').2
            simp at hk2 hk3
            subst hk3
            obtain ⟨_, _, h1, _⟩ := hf k hk2
            exact h1)
          simpa using this
        simp [loadVar, run_agg ha, run_sz hs, hl]
      · have hget : ∀ (k : Nat) (u : AV), ((c'.drop j).take n)[k]? = some u → k < n ∧ c'[j + k]? = some u := by
          intro k u hu
          rw [List.getElem?_take] at hu
          split at hu
          · rename_i hk
            rw [List.getElem?_drop] at hu
            exact ⟨hk, hu⟩
          · cases hu
        refine .a _ _ (by simp; omega) (fun k u hu => ?_) (fun k u hu => ?_)
        · obtain ⟨hk, hu⟩ := hget k u hu
          obtain ⟨u', hu', _, _, h3⟩ := hf k hk
          rw [hu] at hu'
          cases hu'
          exact h3
        · obtain ⟨hk, hu⟩ := hget k u hu
          obtain ⟨u', hu', _, h2, _⟩ := hf k hk
          rw [hu] at hu'
          cases hu'
          simpa [Array.getD_eq_getD_getElem?, hk] using h2
    · cases hc
  · exact h.elim
theorem ld_sound {P : Program} {o : Oper} {t : TypeId} {x : Operand} (ho : o.op = .load t x) {env : Env} {S : Store} {K X : AV → Store → Prop} (h : ld P t (ev env x) S K) : OpS P o env S K X := by
  intro w g a next Q hh he hn hx
  obtain ⟨ad, u, v, hy, hrun, hr, hK⟩ := run_ld hh (he.ev x) h
  refine wp_value (w' := w) ?_ (hn u S w g v hh (Mv.refl _ _) hr hK)
  simp [execOp, ho, hy, Instr.loadAt, Instr.sureAddr, hrun]

/-! ### Changes of memory -/
def Gh.add (g : Gh) (b cap sz : Nat) : Gh :=
  { n := g.n + 1, blk := fun i => if i = g.n then b else g.blk i, sz := fun i => if i = g.n then sz else g.sz i, cap := fun i => if i = g.n then cap else g.cap i, im := g.im }
@[simp] theorem add_blk (g : Gh) (b cap sz : Nat) : (g.add b cap sz).blk g.n = b := by simp [Gh.add]
@[simp] theorem add_sz (g : Gh) (b cap sz : Nat) : (g.add b cap sz).sz g.n = sz := by simp [Gh.add]
@[simp] theorem add_cap (g : Gh) (b cap sz : Nat) : (g.add b cap sz).cap g.n = cap := by simp [Gh.add]

theorem mv_add {w w' : World} {g : Gh} (b cap sz : Nat) (m : Mv w g w' g) : Mv w g w' (g.add b cap sz) where
  os := m.os
  tape := m.tape
  output := m.output
  size := m.size
  keep := m.keep
  im _ h := h
  n := Nat.le_succ _
  blk id h := by simp [Gh.add, Nat.ne_of_lt h]
  sz id h := by simp [Gh.add, Nat.ne_of_lt h]
  cap id h := by simp [Gh.add, Nat.ne_of_lt h]

theorem mv_same {w w' : World} (g : Gh) (ho : w'.os = w.os) (ht : w'.tape = w.tape) (hp : w'.output = w.output) (h : w'.heap = w.heap) : Mv w g w' g :=
  ⟨ho, ht, hp, by rw [h]; exact Nat.le_refl _, fun _ _ => by rw [h], fun _ h => h, Nat.le_refl _, fun _ _ => rfl, fun _ _ => rfl, fun _ _ => rfl⟩
theorem Heap.same {P : Program} {w w' : World} {g : Gh} {S : Store} (hh : Heap P w g S) (m : Mv w g w' g) (h : w'.heap = w.heap) : Heap P w' g S where
  n := hh.n
  im b hb := by rw [h]; exact hh.im b hb
  ob id o ho := (hh.ob id o ho).mv m (by rw [h]) (fun hl => (hh.ob id o ho).imY hl)
  sp := hh.sp
theorem mv_drew (w : World) (g : Gh) : Mv w g w.drew g := mv_same g rfl rfl rfl rfl
theorem Heap.drew {P : Program} {w : World} {g : Gh} {S : Store} (hh : Heap P w g S) : Heap P w.drew g S := hh.same (mv_drew w g) rfl
theorem Heap.kill {P : Program} {w : World} {g : Gh} {S : Store} (hh : Heap P w g S) (id : Nat) : Heap P w g (S.kill id) where
  n := hh.n
  im := hh.im
  ob i o ho := by
    simp only [Store.kill] at ho
    split at ho
    · cases ho
    · exact hh.ob i o ho
  sp a b o o' h1 h2 := by
    simp only [Store.kill] at h1 h2
    split at h1
    · cases h1
    · split at h2
      · cases h2
      · exact hh.sp a b o o' h1 h2

theorem mv_alloc {P : Program} {w : World} {g : Gh} {S : Store} (hh : Heap P w g S) (o : Obj) : Mv w g (w.alloc o) g :=
  ⟨rfl, rfl, rfl, by simp, fun b hb => Below.heap_alloc w o b (hh.im b hb), fun _ h => h, Nat.le_refl _, fun _ _ => rfl, fun _ _ => rfl, fun _ _ => rfl⟩

/-- A new block that nobody will write. -/
theorem heap_im {P : Program} {w : World} {g : Gh} {S : Store} (hh : Heap P w g S) (o : Obj) :
    Heap P (w.alloc o) { g with im := fun b => g.im b ∨ b = w.heap.size } S ∧ Mv w g (w.alloc o) { g with im := fun b => g.im b ∨ b = w.heap.size } := by
  have m : Mv w g (w.alloc o) { g with im := fun b => g.im b ∨ b = w.heap.size } :=
    ⟨rfl, rfl, rfl, by simp, fun b hb => Below.heap_alloc w o b (hh.im b hb), fun _ h => .inl h, Nat.le_refl _, fun _ _ => rfl, fun _ _ => rfl, fun _ _ => rfl⟩
  refine ⟨⟨hh.n, ?_, fun id o' ho => ?_, hh.sp⟩, m⟩
  · intro b hb
    simp only [World.size_alloc]
    rcases hb with hb | rfl
    · exact Nat.lt_succ_of_lt (hh.im b hb)
    · exact Nat.lt_succ_self _
  · have hob := hh.ob _ _ ho
    refine hob.mv m (Below.heap_alloc w _ _ hob.blk) (fun hl hb => ?_)
    rcases hb with hb | hb
    · exact hob.imY hl hb
    · have := hob.blk
      omega

/-- What an object's row is to be. -/
def RowOk (w : World) (g : Gh) (sz : Nat) (es : List (List AV)) (cs : Array Value) : Prop :=
  ∀ (i : Nat) (c : List AV), es[i]? = some c → c.length = sz ∧ ∀ (k : Nat) (u : AV), c[k]? = some u → u.one = true ∧ R w g u (cs.getD (i * sz + k) undef)
theorem RowOk.mv {w : World} {g : Gh} {w' : World} {g' : Gh} (m : Mv w g w' g') {sz : Nat} {es : List (List AV)} {cs : Array Value} (h : RowOk w g sz es cs) : RowOk w' g' sz es cs :=
  fun i c hc => ⟨(h i c hc).1, fun k u hu => ⟨((h i c hc).2 k u hu).1, ((h i c hc).2 k u hu).2.mv m⟩⟩

theorem heap_alloc' {P : Program} {w : World} {g : Gh} {S : Store} (hh : Heap P w g S) (o : Obj) : Heap P (w.alloc o) g S where
  n := hh.n
  im b hb := by have := hh.im b hb; simp; omega
  ob id ao ho := (hh.ob id ao ho).mv (mv_alloc hh o) (Below.heap_alloc w _ _ (hh.ob id ao ho).blk) (fun hl => (hh.ob id ao ho).imY hl)
  sp := hh.sp
/-- A block that is there already, as a new object. -/
theorem heap_add {P : Program} {w : World} {g : Gh} {S : Store} (hh : Heap P w g S) {b cap sz : Nat} {ao : AObj} (hb : b < w.heap.size) (hlive : ao.live = true) (him : ¬ g.im b) (hsep : ∀ i o, S.obj i = some o → o.live = true → g.blk i ≠ b)
    (hrow : ORow P w (g.add b cap sz) g.n ao) : Heap P w (g.add b cap sz) (S.new ao) ∧ Mv w g w (g.add b cap sz) := by
  have m := mv_add b cap sz (Mv.refl w g)
  refine ⟨⟨?_, hh.im, ?_, ?_⟩, m⟩
  · show g.n + 1 = S.n + 1
    rw [hh.n]
  · intro i o ho
    simp only [Store.new] at ho
    split at ho
    · rename_i e
      have e' : i = g.n := by rw [hh.n]; exact e
      subst e'
      cases ho
      exact ⟨Nat.lt_succ_self _, by simpa using hb, fun _ => by rw [add_blk]; exact him, fun h => (by rw [hlive] at h; cases h), hrow⟩
    · have hi := hh.ob _ _ ho
      exact hi.mv m rfl (fun hl => hi.imY hl)
  · intro a c o1 o2 h1 h2 l1 l2 he
    simp only [Store.new] at h1 h2
    split at h1 <;> split at h2
    · omega
    · rename_i e1 e2
      have e' : a = g.n := by rw [hh.n]; exact e1
      subst e'
      rw [add_blk, m.blk c (hh.ob _ _ h2).lt] at he
      exact absurd he.symm (hsep _ _ h2 l2)
    · rename_i e1 e2
      have e' : c = g.n := by rw [hh.n]; exact e2
      subst e'
      rw [add_blk, m.blk a (hh.ob _ _ h1).lt] at he
      exact absurd he (hsep _ _ h1 l1)
    · rw [m.blk a (hh.ob _ _ h1).lt, m.blk c (hh.ob _ _ h2).lt] at he
      exact hh.sp _ _ _ _ h1 h2 l1 l2 he
/-- A new block, which is a new object, of any kind. -/
theorem heap_newO {P : Program} {w : World} {g : Gh} {S : Store} (hh : Heap P w g S) (o : Obj) {cap sz : Nat} {ao : AObj} (hlive : ao.live = true) (hrow : ORow P (w.alloc o) (g.add w.heap.size cap sz) g.n ao) :
    Heap P (w.alloc o) (g.add w.heap.size cap sz) (S.new ao) ∧ Mv w g (w.alloc o) (g.add w.heap.size cap sz) := by
  obtain ⟨h1, h2⟩ := heap_add (heap_alloc' hh o) (b := w.heap.size) (cap := cap) (sz := sz) (ao := ao) (by simp) hlive (fun hb => Nat.lt_irrefl _ (hh.im _ hb)) (fun i o' ho _ he => by have := (hh.ob _ _ ho).blk; omega) hrow
  exact ⟨h1, (mv_alloc hh o).trans h2⟩
/-- A new block, which is a new object. -/
theorem heap_new {P : Program} {w : World} {g : Gh} {S : Store} (hh : Heap P w g S) {t : TypeId} {es : List (List AV)} {cs : Array Value} {cap sz : Nat} (hsz : szT P t = some sz)
    (hcs : cs.size = cap * sz) (hl : es.length ≤ cap) (hr : RowOk w g sz es cs) :
    Heap P (w.alloc (.cells cs t)) (g.add w.heap.size cap sz) (S.new (.cells t es true)) ∧ Mv w g (w.alloc (.cells cs t)) (g.add w.heap.size cap sz) := by
  have m := mv_add w.heap.size cap sz (mv_alloc hh (.cells cs t))
  refine heap_newO hh (.cells cs t) rfl ⟨by simpa using hl, ?_, cs, ?_, by simpa using hcs, ?_⟩
  · unfold szT at hsz
    obtain ⟨i, hi, rfl⟩ := Option.map_eq_some_iff.1 hsz
    exact ⟨i, hi, by simp⟩
  · rw [add_blk]
    exact Go.heap_alloc_new w _
  · rw [add_sz]
    exact hr.mv m

theorem mv_setRow {P : Program} {w : World} {g : Gh} {S : Store} (hh : Heap P w g S) {id : Nat} {t : TypeId} {es : List (List AV)} (ho : S.obj id = some (.cells t es true)) (cs' : Array Value) : Mv w g (w.setRow (g.blk id) cs') g :=
  ⟨rfl, rfl, rfl, by simp [World.setRow], fun b hb => Go.setRow_other w _ b _ (fun e => (hh.obj _ _ _ _ ho).imY rfl (e ▸ hb)), fun _ h => h, Nat.le_refl _, fun _ _ => rfl, fun _ _ => rfl, fun _ _ => rfl⟩

/-- A live object is written, of any kind. -/
theorem heap_setO {P : Program} {w : World} {g : Gh} {S : Store} (hh : Heap P w g S) {id : Nat} {o0 o1 : AObj} (ho : S.obj id = some o0) (l0 : o0.live = true) (l1 : o1.live = true) {w' : World}
    (m : Mv w g w' g) (hs : w'.heap.size = w.heap.size) (hb : ∀ b, b ≠ g.blk id → w'.heap[b]? = w.heap[b]?) (hrow : ORow P w' g id o1) : Heap P w' g (S.upd id o1) where
  n := hh.n
  im b h := by rw [hs]; exact hh.im b h
  ob i o h := by
    have hid := hh.ob _ _ ho
    simp only [Store.upd] at h
    split at h
    · rename_i e
      subst e
      cases h
      exact ⟨hid.lt, by rw [hs]; exact hid.blk, fun _ => hid.imY l0, fun h => (by rw [l1] at h; cases h), hrow⟩
    · rename_i e
      have hi := hh.ob _ _ h
      refine hi.mv m (hb _ (fun hq => ?_)) (fun hl => hi.imY hl)
      cases hlv : o.live with
      | true => exact e (hh.sp _ _ _ _ h ho hlv l0 hq)
      | false => exact hid.imY l0 (hq ▸ hi.imN hlv)
  sp a b oa ob h1 h2 la lb he := by
    simp only [Store.upd] at h1 h2
    split at h1 <;> split at h2
    · omega
    · rename_i e1 e2
      subst e1
      exact hh.sp _ _ _ _ ho h2 l0 lb he
    · rename_i e1 e2
      subst e2
      exact hh.sp _ _ _ _ h1 ho la l0 he
    · exact hh.sp _ _ _ _ h1 h2 la lb he
/-- A live object is written. -/
theorem heap_set {P : Program} {w : World} {g : Gh} {S : Store} (hh : Heap P w g S) {id : Nat} {t : TypeId} {es es' : List (List AV)} (ho : S.obj id = some (.cells t es true)) {cs' : Array Value}
    (hcs : cs'.size = g.cap id * g.sz id) (hl : es'.length ≤ g.cap id) (hr : RowOk w g (g.sz id) es' cs') :
    Heap P (w.setRow (g.blk id) cs') g (S.upd id (.cells t es' true)) ∧ Mv w g (w.setRow (g.blk id) cs') g := by
  have m := mv_setRow hh ho cs'
  have hid := hh.obj _ _ _ _ ho
  obtain ⟨cs, hrow, _, _⟩ := hid.row
  exact ⟨heap_setO hh ho rfl rfl m (by simp [World.setRow]) (fun b hb => Go.setRow_other w _ _ _ hb) ⟨hl, hid.info, cs', Go.setRow_heap w _ _ _ _ _ hrow, hcs, hr.mv m⟩, m⟩

/-- The same row under a new number: what an append in place is. -/
theorem heap_renew {P : Program} {w : World} {g : Gh} {S : Store} (hh : Heap P w g S) {id : Nat} {t : TypeId} {es : List (List AV)} (ho : S.obj id = some (.cells t es true)) :
    Heap P w (g.add (g.blk id) (g.cap id) (g.sz id)) ((S.kill id).new (.cells t es true)) ∧ Mv w g w (g.add (g.blk id) (g.cap id) (g.sz id)) := by
  have m := mv_add (g.blk id) (g.cap id) (g.sz id) (Mv.refl w g)
  have hid := hh.obj _ _ _ _ ho
  refine heap_add (hh.kill id) (ao := .cells t es true) hid.blk rfl (hid.imY rfl) (fun i o h hl he => ?_) ?_
  · simp only [Store.kill] at h
    split at h
    · cases h
    · rename_i e
      exact e (hh.sp _ _ _ _ h ho hl rfl he)
  · obtain ⟨cs, h1, h2, h3⟩ := hid.row
    refine ⟨by simpa using hid.len, by simpa using hid.info, cs, by simpa using h1, by simpa using h2, ?_⟩
    have h3' : RowOk w g (g.sz id) es cs := h3
    have := h3'.mv m
    simpa [RowOk] using this


/-! ### Cells of a value; stores -/
def cellsOf : AV → Option (List AV)
  | .a cs => some cs
  | x => if x.one then some [x] else none
theorem cells_one {y : Value} (h : y.oneCell' = true) : y.cells = #[y] := by
  cases y <;> first | rfl | (simp [Value.oneCell'] at h)
theorem cellsOf_sound {w : World} {g : Gh} {x : AV} {y : Value} (hr : R w g x y) {cs : List AV} (h : cellsOf x = some cs) :
    cs.length = y.cells.size ∧ ∀ (k : Nat) (u : AV), cs[k]? = some u → u.one = true ∧ R w g u (y.cells.getD k undef) := by
  by_cases hx : x.one = true
  · have h' : cs = [x] := by
      cases x <;> simp_all [cellsOf, AV.one]
    subst h'
    rw [cells_one (hr.oneCell hx)]
    refine ⟨rfl, fun k u hu => ?_⟩
    cases k with
    | zero => cases hu; exact ⟨hx, hr⟩
    | succ k => simp at hu
  · cases hr with
    | a cs1 cs' hl h1 hR =>
      cases h
      exact ⟨hl, fun k u hu => ⟨h1 k u hu, hR k u hu⟩⟩
    | v z => simp [cellsOf, hx] at h
    | t cs1 cs' hl hR => simp [cellsOf, AV.one] at h
    | j y => simp [cellsOf, AV.one] at h
    | _ => simp [AV.one] at hx

def spl {α : Type} (l : List α) (o : Nat) (vs : List α) : List α := l.take o ++ vs ++ l.drop (o + vs.length)
theorem spl_length {α : Type} {l : List α} {o : Nat} {vs : List α} (h : o + vs.length ≤ l.length) : (spl l o vs).length = l.length := by
  simp [spl]; omega
theorem spl_get {α : Type} {l : List α} {o : Nat} {vs : List α} (h : o + vs.length ≤ l.length) (k : Nat) : (spl l o vs)[k]? = if o ≤ k ∧ k < o + vs.length then vs[k - o]? else l[k]? := by
  unfold spl
  have hto : (l.take o).length = o := by simp; omega
  by_cases h1 : k < o
  · rw [if_neg (by omega), List.append_assoc, List.getElem?_append_left (by omega), List.getElem?_take, if_pos h1]
  · by_cases h2 : k < o + vs.length
    · rw [if_pos (by omega), List.append_assoc, List.getElem?_append_right (by omega), List.getElem?_append_left (by omega), hto]
    · rw [if_neg (by omega), List.getElem?_append_right (by simp; omega), List.getElem?_drop]
      congr 1
      simp
      omega

def stS (S : Store) (x : AV) (cs : List AV) : Option Store :=
  match x with
  | .p id i j =>
    match S.obj id with
    | some (.cells t es true) => (es[i]?).bind fun c => if j + cs.length ≤ c.length then some (S.upd id (.cells t (es.set i (spl c j cs)) true)) else none
    | _ => none
  | _ => none
def stN (n : Nat) (x v : AV) (S : Store) (K : AV → Store → Prop) : Prop :=
  optP (cellsOf v) fun cs => cs.length = n ∧ optP (stS S x cs) fun S' => K .j S'
def st (P : Program) (t : TypeId) (x v : AV) (S : Store) (K : AV → Store → Prop) : Prop :=
  match szT P t with
  | some n => stN n x v S K
  | none => False
theorem st_open {P : Program} {t : TypeId} {x v : AV} {S : Store} {K : AV → Store → Prop} (h : st P t x v S K) : ∃ cs, cellsOf v = some cs ∧ szT P t = some cs.length ∧ ∃ S', stS S x cs = some S' ∧ K .j S' := by
  unfold st at h
  split at h
  · rename_i n hn
    obtain ⟨cs, h1, h2, S', h3, h4⟩ := h
    exact ⟨cs, h1, by rw [hn, h2], S', h3, h4⟩
  · exact h.elim

theorem idx_lt {sz cap i n k : Nat} (hi : i < n) (hn : n ≤ cap) (hk : k < sz) : i * sz + k < cap * sz := by
  have h7 : (i + 1) * sz ≤ cap * sz := Nat.mul_le_mul_right _ (Nat.le_trans hi hn)
  rw [Nat.add_mul, Nat.one_mul] at h7
  omega

theorem st_sound {P : Program} {o : Oper} {t : TypeId} {x y : Operand} (ho : o.op = .store t x y) {env : Env} {S : Store} {K X : AV → Store → Prop} (h : st P t (ev env x) (ev env y) S K) : OpS P o env S K X := by
  obtain ⟨cs, hcs, hsz, S', hS', hK⟩ := st_open h
  intro w g a next Q hh he hn hx
  have hrx := he.ev x
  have hry := he.ev y
  obtain ⟨hcl, hcR⟩ := cellsOf_sound hry hcs
  generalize ev env x = X0 at hS' hrx
  unfold stS at hS'
  split at hS'
  · rename_i id i j
    split at hS'
    · rename_i t' es hob
      obtain ⟨c, hc, hS'⟩ := Option.bind_eq_some_iff.1 hS'
      split at hS'
      · rename_i hle
        cases hS'
        have hid := hh.obj _ _ _ _ hob
        obtain ⟨cs0, hrow, hrs, hrR⟩ := hid.row
        obtain ⟨hclen, hcr⟩ := hrR i c hc
        have hi : i < es.length := (List.getElem?_eq_some_iff.1 hc).1
        have hy := hrx.inv_p.2
        have hfit : i * g.sz id + j + (a.eval y).cells.toList.length ≤ cs0.size := by
          rw [hrs]
          simp only [Array.length_toList, ← hcl]
          have h7 : (i + 1) * g.sz id ≤ g.cap id * g.sz id := Nat.mul_le_mul_right _ (Nat.le_trans hi hid.len)
          rw [Nat.add_mul, Nat.one_mul] at h7
          omega
        have hone : ∀ v ∈ (a.eval y).cells.toList, v.oneCell' = true := by
          intro v hv
          obtain ⟨k, hk⟩ := List.getElem?_of_mem hv
          have hk' : k < cs.length := by
            have := (List.getElem?_eq_some_iff.1 hk).1
            simp at this
            omega
          obtain ⟨h1, h2⟩ := hcR k _ (List.getElem?_eq_getElem hk')
          have h3 := h2.oneCell h1
          simp at hk
          simpa [Array.getD_eq_getD_getElem?, hk] using h3
        have hst := Go.run_storeCells_at (P := P) (g.blk id) (i * g.sz id + j) t' (a.eval y).cells.toList 0 cs0 w hrow (by simpa using hfit) hone
        rw [Nat.add_zero] at hst
        have hfit' : i * g.sz id + j + (a.eval y).cells.toList.length ≤ cs0.toList.length := by simpa using hfit
        have hro : RowOk w g (g.sz id) (es.set i (spl c j cs)) (spl cs0.toList (i * g.sz id + j) (a.eval y).cells.toList).toArray := by
          intro i' c' hc'
          rw [List.getElem?_set] at hc'
          split at hc'
          · rename_i e
            subst e
            cases hc'
            refine ⟨by rw [spl_length hle, hclen], fun k u hu => ?_⟩
            rw [spl_get hle] at hu
            simp only [Array.getD_eq_getD_getElem?, List.getElem?_toArray]
            rw [spl_get hfit']
            split at hu
            · rename_i hk
              rw [if_pos (by simp [← hcl]; omega)]
              obtain ⟨h1, h2⟩ := hcR _ _ hu
              refine ⟨h1, ?_⟩
              rw [show i * g.sz id + k - (i * g.sz id + j) = k - j from by omega]
              simpa [Array.getD_eq_getD_getElem?] using h2
            · rename_i hk
              rw [if_neg (by simp [← hcl]; omega)]
              obtain ⟨h1, h2⟩ := hcr _ _ hu
              exact ⟨h1, by simpa [Array.getD_eq_getD_getElem?] using h2⟩
          · rename_i e
            obtain ⟨h1, h2⟩ := hrR i' c' hc'
            refine ⟨h1, fun k u hu => ?_⟩
            obtain ⟨h3, h4⟩ := h2 k u hu
            refine ⟨h3, ?_⟩
            have hk : k < g.sz id := by have := (List.getElem?_eq_some_iff.1 hu).1; omega
            simp only [Array.getD_eq_getD_getElem?, List.getElem?_toArray]
            rw [spl_get hfit', if_neg ?_]
            · simpa [Array.getD_eq_getD_getElem?] using h4
            · simp only [Array.length_toList, ← hcl]
              rcases Nat.lt_or_gt_of_ne e with h5 | h5
              · have h7 : (i + 1) * g.sz id ≤ i' * g.sz id := Nat.mul_le_mul_right _ h5
                rw [Nat.add_mul, Nat.one_mul] at h7
                omega
              · have h7 : (i' + 1) * g.sz id ≤ i * g.sz id := Nat.mul_le_mul_right _ h5
                rw [Nat.add_mul, Nat.one_mul] at h7
                omega
        have hnew := heap_set hh hob (cs' := (spl cs0.toList (i * g.sz id + j) (a.eval y).cells.toList).toArray) (by simp [spl_length hfit', hrs]) (by simpa using hid.len) hro
        refine wp_skip' ?_ (hn .j _ _ _ undef hnew.1 hnew.2 (.j _) hK)
        have hsz' : (a.eval y).cells.size = cs.length := hcl.symm
        simp [execOp, ho, hy, Instr.storeAt, Instr.sureAddr, storeVar, run_sz hsz, hsz', hst, spl]
      · cases hS'
    · cases hS'
  · cases hS'

/-! ### New variables -/
def zT (P : Program) (t : TypeId) : Option Value := (P.info? t).bind (·.zero)
theorem run_zero {P : Program} {t : TypeId} {z : Value} (h : zT P t = some z) (w : World) : (zeroValue t).run P w = .ok z w := by
  unfold zT at h
  obtain ⟨i, hi, hz⟩ := Option.bind_eq_some_iff.1 h
  simp [zeroValue, typeInfo, hi, hz]

theorem rowOk_one {w : World} {g : Gh} {x : AV} {y : Value} (hr : R w g x y) {cs : List AV} (h : cellsOf x = some cs) : RowOk w g cs.length [cs] y.cells := by
  obtain ⟨h1, h2⟩ := cellsOf_sound hr h
  intro i c hc
  cases i with
  | zero =>
    cases hc
    exact ⟨rfl, fun k u hu => by simpa using h2 k u hu⟩
  | succ i => simp at hc

def boxN (t n : Nat) (x : AV) (S : Store) (K : AV → Store → Prop) : Prop :=
  optP (cellsOf x) fun cs => cs.length = n ∧ K (.p S.n 0 0) (S.new (.cells t [cs] true))
def box (P : Program) (t : TypeId) (x : AV) (S : Store) (K : AV → Store → Prop) : Prop :=
  match szT P t with
  | some n => boxN t n x S K
  | none => False
theorem box_open {P : Program} {t : TypeId} {x : AV} {S : Store} {K : AV → Store → Prop} (h : box P t x S K) : ∃ cs, cellsOf x = some cs ∧ szT P t = some cs.length ∧ K (.p S.n 0 0) (S.new (.cells t [cs] true)) := by
  unfold box at h
  split at h
  · rename_i n hn
    obtain ⟨cs, h1, h2, h3⟩ := h
    exact ⟨cs, h1, by rw [hn, h2], h3⟩
  · exact h.elim

theorem box_heap {P : Program} {w : World} {g : Gh} {S : Store} (hh : Heap P w g S) {t : TypeId} {x : AV} {y : Value} (hr : R w g x y) {cs : List AV} (hcs : cellsOf x = some cs) (hsz : szT P t = some cs.length) :
    Heap P (w.alloc (.cells y.cells t)) (g.add w.heap.size 1 cs.length) (S.new (.cells t [cs] true)) ∧ Mv w g (w.alloc (.cells y.cells t)) (g.add w.heap.size 1 cs.length) :=
  heap_new hh hsz (by rw [Nat.one_mul]; exact (cellsOf_sound hr hcs).1.symm) (Nat.le_refl _) (rowOk_one hr hcs)

theorem box_sound {P : Program} {o : Oper} {t : TypeId} {x : Operand} (ho : o.op = .box t x) {env : Env} {S : Store} {K X : AV → Store → Prop} (h : box P t (ev env x) S K) : OpS P o env S K X := by
  obtain ⟨cs, hcs, hsz, hK⟩ := box_open h
  intro w g a next Q hh he hn hx
  obtain ⟨h1, h2⟩ := box_heap hh (he.ev x) hcs hsz
  have hr := R.p (w := w.alloc (.cells (a.eval x).cells t)) (g := g.add w.heap.size 1 cs.length) g.n 0 0 (Nat.lt_succ_self _)
  refine wp_value (y := .pointer (some ⟨w.heap.size, 0, none⟩)) (w' := w.alloc (.cells (a.eval x).cells t)) ?_ (hn _ _ _ _ _ h1 h2 ?_ hK)
  · simp [execOp, ho, Instr.box, newVar, newRow]
  · rw [← hh.n]
    simpa using hr

def alloc (P : Program) (t : TypeId) (S : Store) (K : AV → Store → Prop) : Prop :=
  match zT P t with
  | some z => box P t (absC z) S K
  | none => False
theorem alloc_sound {P : Program} {o : Oper} {t : TypeId} (ho : o.op = .alloc t) {env : Env} {S : Store} {K X : AV → Store → Prop} (h : alloc P t S K) : OpS P o env S K X := by
  unfold alloc at h
  split at h
  · rename_i z hz
    obtain ⟨cs, hcs, hsz, hK⟩ := box_open h
    intro w g a next Q hh he hn hx
    obtain ⟨h1, h2⟩ := box_heap hh (R_absC w g z) hcs hsz
    have hr := R.p (w := w.alloc (.cells z.cells t)) (g := g.add w.heap.size 1 cs.length) g.n 0 0 (Nat.lt_succ_self _)
    refine wp_value (y := .pointer (some ⟨w.heap.size, 0, none⟩)) (w' := w.alloc (.cells z.cells t)) ?_ (hn _ _ _ _ _ h1 h2 ?_ hK)
    · simp [execOp, ho, Instr.alloc, run_zero hz, newVar, newRow]
    · rw [← hh.n]
      simpa using hr
  · exact h.elim


/-! ### Composite literals -/
def FlatOk (w : World) (g : Gh) (cs : List AV) (cs' : Array Value) : Prop := cs.length = cs'.size ∧ ∀ (k : Nat) (u : AV), cs[k]? = some u → u.one = true ∧ R w g u (cs'.getD k undef)
def fillA (place : Nat → Option (Nat × Nat)) (cells : List AV) : List (Nat × AV) → Option (List AV)
  | [] => some cells
  | (i, v) :: rest =>
    match place i with
    | none => none
    | some (off, size) =>
      match cellsOf v with
      | none => none
      | some cs => if cs.length = size ∧ off + size ≤ cells.length then fillA place (spl cells off cs) rest else none

theorem foldl_set (off : Nat) : ∀ (l : List Value) (n : Nat) (cells : Array Value), (∀ j, j < l.length → off + (n + j) < cells.size) →
    ((l.zipIdx n).foldl (fun cs (c, j) => cs.setIfInBounds (off + j) c) cells).size = cells.size ∧
    ∀ k, ((l.zipIdx n).foldl (fun cs (c, j) => cs.setIfInBounds (off + j) c) cells)[k]? = if off + n ≤ k ∧ k < off + n + l.length then l[k - (off + n)]? else cells[k]?
  | [], n, cells, _ => ⟨rfl, fun k => by rw [if_neg (by simp)]; rfl⟩
  | c :: l, n, cells, h => by
    obtain ⟨h1, h2⟩ := foldl_set off l (n + 1) (cells.setIfInBounds (off + n) c) (fun j hj => by
      have := h (j + 1) (by simpa using hj)
      simp
      omega)
    refine ⟨by simpa using h1, fun k => ?_⟩
    have h3 := h2 k
    simp only [List.zipIdx_cons, List.foldl_cons]
    rw [h3]
    have hn := h 0 (by simp)
    simp only [List.length_cons]
    by_cases hk : off + (n + 1) ≤ k ∧ k < off + (n + 1) + l.length
    · rw [if_pos hk, if_pos (by omega), show k - (off + n) = (k - (off + (n + 1))) + 1 from by omega, List.getElem?_cons_succ]
    · rw [if_neg hk, Array.getElem?_setIfInBounds]
      by_cases he : off + n = k
      · subst he
        have : off + n < cells.size := by simpa using hn
        rw [if_pos rfl, if_pos this, if_pos (by omega)]
        simp
      · rw [if_neg he, if_neg (by omega)]

theorem fill_sound {w : World} {g : Gh} (place : Nat → Option (Nat × Nat)) : ∀ (parts : List (Nat × AV)) (parts' : List (Nat × Value)) (cells : List AV) (cells' : Array Value) (res : List AV),
    parts.length = parts'.length → (∀ (k : Nat) (p : Nat × AV) (q : Nat × Value), parts[k]? = some p → parts'[k]? = some q → p.1 = q.1 ∧ R w g p.2 q.2) → FlatOk w g cells cells' → fillA place cells parts = some res →
    ∃ res', Instr.fill place cells' parts' = some res' ∧ FlatOk w g res res'
  | [], [], cells, cells', res, _, _, hf, h => by
    cases h
    exact ⟨cells', rfl, hf⟩
  | [], _ :: _, _, _, _, hl, _, _, _ => by cases hl
  | _ :: _, [], _, _, _, hl, _, _, _ => by cases hl
  | (i, v) :: parts, (i', v') :: parts', cells, cells', res, hl, hp, hf, h => by
    obtain ⟨hi, hr⟩ := hp 0 (i, v) (i', v') rfl rfl
    dsimp only at hi hr
    subst hi
    simp only [fillA] at h
    simp only [Instr.fill]
    cases hpl : place i with
    | none => rw [hpl] at h; cases h
    | some os =>
      obtain ⟨off, size⟩ := os
      rw [hpl] at h
      dsimp only at h ⊢
      cases hcv : cellsOf v with
      | none => rw [hcv] at h; cases h
      | some cs =>
        rw [hcv] at h
        dsimp only at h
        split at h
        · rename_i hc
          obtain ⟨hc1, hc2⟩ := hc
          obtain ⟨hs, hR⟩ := cellsOf_sound hr hcv
          have hsz : v'.cells.size = size := by omega
          have hfit : ¬ (off + v'.cells.size > cells'.size) := by have := hf.1; omega
          rw [if_neg (by simp [hsz]; have := hf.1; omega)]
          have hfs := foldl_set off v'.cells.toList 0 cells' (fun j hj => by simp at hj ⊢; omega)
          refine fill_sound place parts parts' (spl cells off cs) _ res (by simpa using hl) (fun k p q h1 h2 => hp (k + 1) p q (by simpa using h1) (by simpa using h2)) ?_ h
          rw [← Array.foldl_toList]
          have hz : (v'.cells.zipIdx).toList = v'.cells.toList.zipIdx 0 := by simp
          rw [hz]
          refine ⟨by rw [spl_length (by omega), hfs.1]; exact hf.1, fun k u hu => ?_⟩
          rw [spl_get (by omega)] at hu
          rw [Array.getD_eq_getD_getElem?, hfs.2 k]
          split at hu
          · rename_i hk
            rw [if_pos (by simp; omega)]
            have h5 := hR _ _ hu
            rw [Nat.add_zero]
            simpa [Array.getD_eq_getD_getElem?] using h5
          · rename_i hk
            rw [if_neg (by simp; omega)]
            have h5 := hf.2 _ _ hu
            simpa [Array.getD_eq_getD_getElem?] using h5
        · cases h

theorem parts_rel {w : World} {g : Gh} {env : Env} {a : Act} (he : EnvR w g env a) (parts : Array (Nat × Operand)) :
    (parts.toList.map fun (i, x) => (i, ev env x)).length = (parts.map fun (i, x) => (i, a.eval x)).toList.length ∧
    ∀ (k : Nat) (p : Nat × AV) (q : Nat × Value), (parts.toList.map fun (i, x) => (i, ev env x))[k]? = some p → (parts.map fun (i, x) => (i, a.eval x)).toList[k]? = some q → p.1 = q.1 ∧ R w g p.2 q.2 := by
  refine ⟨by simp, fun k p q h1 h2 => ?_⟩
  simp only [Array.toList_map, List.getElem?_map] at h1 h2
  obtain ⟨⟨i, x⟩, hx, rfl⟩ := Option.map_eq_some_iff.1 h1
  rw [hx] at h2
  cases h2
  exact ⟨rfl, he.ev x⟩

/-- A struct by its parts: where each field lies. -/
def bld (place : List (Nat × Nat)) (zc : List AV) (parts : List (Nat × AV)) (S : Store) (K : AV → Store → Prop) : Prop :=
  optP (fillA (fun i => place[i]?) zc parts) fun cs => K (.a cs) S
def places (P : Program) : List Field → Option (List (Nat × Nat))
  | [] => some []
  | f :: fs =>
    match szT P f.type, places P fs with
    | some n, some l => some ((f.offset, n) :: l)
    | _, _ => none
def build (P : Program) (t : TypeId) (parts : List (Nat × AV)) (S : Store) (K : AV → Store → Prop) : Prop :=
  match P.underlying t, zT P t with
  | some (.struct fs), some z =>
    match places P fs.toList, cellsOf (absC z) with
    | some pl, some zc => bld pl zc parts S K
    | _, _ => False
  | some (.array n e), some z =>
    match szT P e, cellsOf (absC z) with
    | some sz, some zc => bld ((List.range n).map fun i => (i * sz, sz)) zc parts S K
    | _, _ => False
  | _, _ => False

theorem run_places {P : Program} (w : World) : ∀ (fs : List Field) (l : List (Nat × Nat)), places P fs = some l → (fs.mapM (m := Sem) fun f => do pure (f.offset, ← sizeOf f.type)).run P w = .ok l w
  | [], l, h => by cases h; simp
  | f :: fs, l, h => by
    simp only [places] at h
    split at h
    · rename_i n l' h1 h2
      cases h
      have ih := run_places w fs l' h2
      simp at ih
      simp [run_sz h1, ih]
    · cases h

theorem flat_zero (w : World) (g : Gh) (z : Value) {zc : List AV} (h : cellsOf (absC z) = some zc) : FlatOk w g zc z.cells := cellsOf_sound (R_absC w g z) h


theorem build_sound {P : Program} {o : Oper} {t : TypeId} {parts : Array (Nat × Operand)} (ho : o.op = .build t parts) {env : Env} {S : Store} {K X : AV → Store → Prop}
    (h : build P t (parts.toList.map fun (i, x) => (i, ev env x)) S K) : OpS P o env S K X := by
  unfold build at h
  split at h
  · rename_i fs z hu hz
    split at h
    · rename_i pl zc hpl hzc
      obtain ⟨cs, hcs, hK⟩ := h
      refine opS_pure hK fun w g a hh he => ?_
      obtain ⟨hp1, hp2⟩ := parts_rel he parts
      obtain ⟨res, h1, h2⟩ := fill_sound (w := w) (g := g) (fun i => pl[i]?) _ (parts.map fun (i, x) => (i, a.eval x)).toList zc z.cells cs hp1 hp2 (flat_zero w g z hzc) hcs
      refine ⟨.agg res, ?_, .a _ _ h2.1 (fun k u hu => (h2.2 k u hu).1) (fun k u hu => (h2.2 k u hu).2)⟩
      have hm := run_places (P := P) w fs.toList pl hpl
      have hm' : (fs.mapM (m := Sem) fun f => do pure (f.offset, ← sizeOf f.type)).run P w = .ok pl.toArray w := by
        rw [Array.mapM_eq_mapM_toList, Sem.run_map, hm]
        rfl
      simp only [execOp, ho, Instr.build, Sem.run_bind, run_zero hz, Result.andThen_ok, run_underlying hu, hm', List.getElem?_toArray, h1, Sem.run_pure]
    · exact h.elim
  · rename_i n e z hu hz
    split at h
    · rename_i sz zc hsz hzc
      obtain ⟨cs, hcs, hK⟩ := h
      refine opS_pure hK fun w g a hh he => ?_
      obtain ⟨hp1, hp2⟩ := parts_rel he parts
      have hcs' : fillA (fun i => some (i * sz, sz)) zc (parts.toList.map fun (i, x) => (i, ev env x)) = some cs := by
        have hgen : ∀ (l : List (Nat × AV)) (c0 res : List AV), fillA (fun i => ((List.range n).map fun i => (i * sz, sz))[i]?) c0 l = some res → fillA (fun i => some (i * sz, sz)) c0 l = some res := by
          intro l
          induction l with
          | nil => exact fun c0 res h => h
          | cons p l ih =>
            intro c0 res h
            obtain ⟨i, v⟩ := p
            simp only [fillA] at h ⊢
            by_cases hi : i < n
            · have hpl : ((List.range n).map fun i => (i * sz, sz))[i]? = some (i * sz, sz) := by simp [hi]
              rw [hpl] at h
              dsimp only at h
              split at h
              · cases h
              · rename_i cs0 hc0
                split at h
                · rename_i hc
                  rw [if_pos hc]
                  exact ih _ _ h
                · cases h
            · have : ((List.range n).map fun i => (i * sz, sz))[i]? = none := by simp; omega
              rw [this] at h
              cases h
        exact hgen _ _ _ hcs
      obtain ⟨res, h1, h2⟩ := fill_sound (w := w) (g := g) (fun i => some (i * sz, sz)) _ (parts.map fun (i, x) => (i, a.eval x)).toList zc z.cells cs hp1 hp2 (flat_zero w g z hzc) hcs'
      refine ⟨.agg res, ?_, .a _ _ h2.1 (fun k u hu => (h2.2 k u hu).1) (fun k u hu => (h2.2 k u hu).2)⟩
      simp only [execOp, ho, Instr.build, Sem.run_bind, run_zero hz, Result.andThen_ok, run_underlying hu, run_sz hsz, h1, Sem.run_pure]
    · exact h.elim
  · exact h.elim

/-- A slice by its parts. -/
def chunks (sz len : Nat) (cs : List AV) : List (List AV) := (List.range len).map fun i => (cs.drop (i * sz)).take sz
def bslN (e sz len : Nat) (zc : List AV) (parts : List (Nat × AV)) (S : Store) (K : AV → Store → Prop) : Prop :=
  optP (fillA (fun i => some (i * sz, sz)) ((List.range (len * sz)).map fun k => zc.getD (k % zc.length) .j) parts) fun cs => K (.s S.n 0 len) (S.new (.cells e (chunks sz len cs) true)) ∨ K (.l (chunks sz len cs)) S
def elT (P : Program) (t : TypeId) : Option TypeId := match P.underlying t with | some (.slice e) => some e | _ => none
theorem elT_under {P : Program} {t e : TypeId} (h : elT P t = some e) : P.underlying t = some (.slice e) := by
  unfold elT at h
  split at h
  · rename_i h'; cases h; exact h'
  · cases h
def bsl (P : Program) (t : TypeId) (len : Nat) (parts : List (Nat × AV)) (S : Store) (K : AV → Store → Prop) : Prop :=
  match elT P t with
  | some e =>
    match szT P e, zT P e with
    | some sz, some z =>
      match cellsOf (absC z) with
      | some zc => match decide (len * sz ≤ 2 ^ 24) && decide (zc.length = sz) with
        | true => bslN e sz len zc parts S K
        | false => False
      | none => False
    | _, _ => False
  | none => False

theorem chunks_row {w : World} {g : Gh} {sz len : Nat} {cs : List AV} {cs' : Array Value} (hf : FlatOk w g cs cs') (hl : cs.length = len * sz) : RowOk w g sz (chunks sz len cs) cs' := by
  intro i c hc
  unfold chunks at hc
  rw [List.getElem?_map] at hc
  obtain ⟨i', hi', rfl⟩ := Option.map_eq_some_iff.1 hc
  obtain ⟨h1, h2⟩ := List.getElem?_eq_some_iff.1 hi'
  simp at h1 h2
  subst h2
  have hb : i * sz + sz ≤ len * sz := by
    have : (i + 1) * sz ≤ len * sz := Nat.mul_le_mul_right sz h1
    rwa [Nat.add_mul, Nat.one_mul] at this
  refine ⟨by simp; omega, fun k u hu => ?_⟩
  rw [List.getElem?_take] at hu
  split at hu
  · rw [List.getElem?_drop] at hu
    exact hf.2 _ _ hu
  · cases hu

theorem bsl_sound {P : Program} {o : Oper} {t : TypeId} {len : Nat} {parts : Array (Nat × Operand)} (ho : o.op = .buildSlice t len parts) {env : Env} {S : Store} {K X : AV → Store → Prop}
    (h : bsl P t len (parts.toList.map fun (i, x) => (i, ev env x)) S K) : OpS P o env S K X := by
  unfold bsl at h
  split at h
  case h_2 => exact h.elim
  rename_i e he0
  split at h
  case h_2 => exact h.elim
  rename_i sz z hsz hz
  split at h
  case h_2 => exact h.elim
  rename_i zc hzc
  split at h
  case h_2 => exact h.elim
  rename_i hb24
  simp only [Bool.and_eq_true, decide_eq_true_eq] at hb24
  obtain ⟨h24, hzl⟩ := hb24
  obtain ⟨cs, hcs, hK⟩ := h
  have hu := elT_under he0
  intro w g a next Q hh he hn hx
  obtain ⟨hp1, hp2⟩ := parts_rel he parts
  have hfz := flat_zero w g z hzc
  have hzs : z.cells.size = sz := by rw [← hfz.1, hzl]
  let zero : Array Value := if len * sz = 0 then #[] else z.cells
  have hflat : FlatOk w g ((List.range (len * sz)).map fun k => zc.getD (k % zc.length) .j) ((Array.range (len * sz)).map (zero[· % zero.size]!)) := by
    refine ⟨by simp, fun k u hu => ?_⟩
    rw [List.getElem?_map] at hu
    obtain ⟨k', hk', rfl⟩ := Option.map_eq_some_iff.1 hu
    obtain ⟨h1, h2⟩ := List.getElem?_eq_some_iff.1 hk'
    simp at h1 h2
    subst h2
    have hpos : 0 < sz := by
      rcases Nat.eq_zero_or_pos sz with h | h
      · subst h; simp at h1
      · exact h
    have hzero : zero = z.cells := by
      show (if len * sz = 0 then #[] else z.cells) = z.cells
      rw [if_neg (by omega)]
    have hkm : k % zc.length < zc.length := Nat.mod_lt _ (by omega)
    obtain ⟨u', hu'⟩ : ∃ u', zc[k % zc.length]? = some u' := ⟨_, List.getElem?_eq_getElem hkm⟩
    have hgd : zc.getD (k % zc.length) .j = u' := by rw [List.getD_eq_getElem?_getD, hu']; rfl
    obtain ⟨h3, h4⟩ := hfz.2 _ _ hu'
    rw [hgd]
    refine ⟨h3, ?_⟩
    rw [hfz.1] at h4
    have hkm' : k % z.cells.size < z.cells.size := Nat.mod_lt _ (by omega)
    have e1 : ((Array.range (len * sz)).map (zero[· % zero.size]!)).getD k undef = z.cells.getD (k % z.cells.size) undef := by
      rw [hzero]
      have e3 : (Array.range (len * sz))[k]? = some k := by simp [h1]
      have e4 : z.cells[k % z.cells.size]! = z.cells[k % z.cells.size]'hkm' := getElem!_pos z.cells (k % z.cells.size) hkm'
      simp only [Array.getD_eq_getD_getElem?, Array.getElem?_map, e3, Option.map_some, Option.getD_some, e4, Array.getElem?_eq_getElem hkm']
    rw [e1]
    exact h4
  obtain ⟨res, h1, h2⟩ := fill_sound (w := w) (g := g) (fun i => some (i * sz, sz)) _ (parts.map fun (i, x) => (i, a.eval x)).toList _ _ cs hp1 hp2 hflat hcs
  have hflen : ∀ (l : List (Nat × AV)) (c0 res : List AV), fillA (fun i => some (i * sz, sz)) c0 l = some res → res.length = c0.length := by
    intro l
    induction l with
    | nil => intro c0 res h; cases h; rfl
    | cons p l ih =>
      intro c0 res h
      obtain ⟨i, v⟩ := p
      simp only [fillA] at h
      split at h
      · cases h
      · split at h
        · rename_i hc
          rw [ih _ _ h, spl_length (by omega)]
        · cases h
  have hcl : cs.length = len * sz := by rw [hflen _ _ _ hcs]; simp
  have hrun : (execOp a.eval o).run P w = .ok (.value (.slice (some ⟨w.heap.size, 0, none⟩) len len)) (w.alloc (.cells res e)) := by
    have h24' : ¬ (len * sz > 2 ^ 24) := by omega
    simp only [execOp, ho, Instr.buildSlice, Sem.run_bind, run_underlying hu, Result.andThen_ok, run_sz hsz, if_neg h24']
    by_cases h0 : len * sz = 0
    · have hzero : zero = #[] := if_pos h0
      rw [hzero] at h1
      rw [if_pos h0]
      simp only [Sem.run_bind, Sem.run_pure, Result.andThen_ok, h1, newRow, run_newObj, World.alloc_eq]
    · have hzero : zero = z.cells := if_neg h0
      rw [hzero] at h1
      rw [if_neg h0]
      simp only [Sem.run_bind, Sem.run_pure, Result.andThen_ok, run_zero hz, h1, newRow, run_newObj, World.alloc_eq]
  have hrow := chunks_row h2 hcl
  have hclen : (chunks sz len cs).length = len := by simp [chunks]
  rcases hK with hK | hK
  · have hnew := heap_new hh (t := e) (cap := len) hsz (by rw [← h2.1, hcl]) (by rw [hclen]; exact Nat.le_refl _) hrow
    refine wp_value (y := .slice (some ⟨w.heap.size, 0, none⟩) len len) hrun (hn _ _ _ _ _ hnew.1 hnew.2 ?_ hK)
    rw [← hh.n]
    exact R.s (w := w.alloc (.cells res e)) (g := g.add w.heap.size len sz) g.n 0 len len ⟨w.heap.size, 0, none⟩ (Nat.lt_succ_self _) (Nat.le_refl _) (by simp) (fun _ => by simp)
  · obtain ⟨h5, m5⟩ := heap_im hh (.cells res e)
    refine wp_value (y := .slice (some ⟨w.heap.size, 0, none⟩) len len) hrun (hn _ _ _ _ _ h5 m5 ?_ hK)
    have hr5 := hrow.mv m5
    have hrl := R.l (w := w.alloc (.cells res e)) (g := { g with im := fun b => g.im b ∨ b = w.heap.size }) (chunks sz len cs) (some ⟨w.heap.size, 0, none⟩) len sz (fun i j => res.getD (i * sz + j) undef) (by rw [hclen]; exact Nat.le_refl _) (fun hne => ⟨_, rfl, .inr rfl, fun i c hc => ⟨(hr5 i c hc).1, fun j hj => by
      have hi := (List.getElem?_eq_some_iff.1 hc).1
      have hlt : i * sz + j < res.size := by
        rw [← h2.1, hcl]
        exact idx_lt (n := len) (by rw [hclen] at hi; exact hi) (Nat.le_refl _) hj
      rw [add_at, cell_row (Go.heap_alloc_new w _), Nat.zero_add]
      simp [Array.getD_eq_getD_getElem?, Array.getElem?_eq_getElem hlt]⟩⟩) (fun i c j u hc hu => ((hr5 i c hc).2 j u hu).1) (fun i c j u hc hu => ((hr5 i c hc).2 j u hu).2)
    rw [hclen] at hrl
    exact hrl

/-! ### Numbers, tests -/
def intA : AV → Option Int
  | .v (.int _ n) => some n
  | _ => none
theorem intA_sound {w : World} {g : Gh} {x : AV} {y : Value} (hr : R w g x y) {n : Int} (h : intA x = some n) : ∃ k, y = .int k n := by
  unfold intA at h
  split at h
  · rename_i k m
    cases h
    exact ⟨k, hr.inv_v⟩
  · cases h

def cmpI (op : BinOp) (x y : Int) : Option Bool :=
  match op with
  | .eql => some (x == y)
  | .neq => some (x != y)
  | .lss => some (x < y)
  | .leq => some (x ≤ y)
  | .gtr => some (x > y)
  | .geq => some (x ≥ y)
  | _ => none
def ariI (op : BinOp) (k : IntKind) (x y : Int) : Option Int :=
  match op with
  | .add => some (k.wrap (x + y))
  | .sub => some (k.wrap (x - y))
  | .mul => some (k.wrap (x * y))
  | .quo => if y = 0 then none else some (k.wrap (x.tdiv y))
  | .rem => if y = 0 then none else some (x.tmod y)
  | .and => some (k.wrap (BitVec.ofInt k.bits x &&& BitVec.ofInt k.bits y).toNat)
  | .or => some (k.wrap (BitVec.ofInt k.bits x ||| BitVec.ofInt k.bits y).toNat)
  | .xor => some (k.wrap (BitVec.ofInt k.bits x ^^^ BitVec.ofInt k.bits y).toNat)
  | .andNot => some (k.wrap (BitVec.ofInt k.bits x &&& ~~~BitVec.ofInt k.bits y).toNat)
  | _ => none
def shI (op : BinOp) (k : IntKind) (x y : Int) : Option Int :=
  if y < 0 then none else
  match op with
  | .shl => some (k.wrap (x * 2 ^ min y.toNat k.bits))
  | .shr => some (x.fdiv (2 ^ min y.toNat k.bits))
  | _ => none
def isSh : BinOp → Bool
  | .shl | .shr => true
  | _ => false
def strB (op : BinOp) (x y : ByteArray) : Option Value :=
  match op with
  | .add => if x.size + y.size ≤ 9223372036854775807 then some (.string (x ++ y)) else none
  | .eql => some (.bool (x.toList == y.toList))
  | .neq => some (.bool !(x.toList == y.toList))
  | _ => none
/-- Two scalars. 'kd' is 1 where the operands' type is of a bool's kind. -/
def b2 (op : BinOp) (kd : Nat) : Value → Value → Option Value
  | .int k a, .int k' b =>
    if isSh op then (shI op k a b).map (.int k) else
    if k = k' then match cmpI op a b with
      | some r => some (.bool r)
      | none => (ariI op k a b).map (.int k)
    else none
  | .string a, .string b => strB op a b
  | .bool a, .bool b => if kd = 1 then match op with
      | .eql => some (.bool (a == b))
      | .neq => some (.bool !(a == b))
      | _ => none
    else none
  | _, _ => none

def kdT (P : Program) (t : TypeId) : Nat :=
  match P.underlying t with
  | some .bool => 1
  | some (.slice _) => 2
  | some (.pointer _) => 3
  | some (.interface _) => 4
  | some (.map _ _) => 5
  | some (.func _ _ _) => 6
  | _ => 0
/-- Against nil: what is told is open where an empty slice may be nil. -/
def nilV (op : BinOp) (kd : Nat) (x : AV) (S : Store) (K : AV → Store → Prop) : Prop :=
  let ans (b : Bool) : Prop := match op with
    | .eql => K (.v (.bool b)) S
    | .neq => K (.v (.bool !b)) S
    | _ => False
  match kd, x with
  | 2, .nl | 2, .l [] => ans true ∧ ans false
  | 2, .s _ _ _ | 2, .l (_ :: _) => ans false
  | 3, .p _ _ _ | 3, .q _ _ => ans false
  | 3, .v (.pointer none) => ans true
  | 4, .i _ _ => ans false
  | 4, .v .nilIface => ans true
  | 5, .m _ => ans false
  | 5, .v (.map none) => ans true
  | 6, .f _ _ _ => ans false
  | 6, .v .nilFunc => ans true
  | _, _ => False
def isNil : Operand → Bool
  | .const (.slice none 0 0) | .const (.pointer none) | .const .nilIface | .const (.map none) | .const .nilFunc => true
  | _ => false
def bin (op : BinOp) (kd : Nat) (x y : AV) (S : Store) (K : AV → Store → Prop) : Prop :=
  match x, y with
  | .v a, .v b => optP (b2 op kd a b) fun r => K (.v r) S
  | _, _ => False

theorem run_intCmp {P : Program} {w : World} {op : BinOp} {x y : Int} {b : Bool} (h : cmpI op x y = some b) : (Op.intCmp op x y).run P w = .ok (.bool b) w := by
  unfold cmpI at h
  unfold Op.intCmp
  split at h <;> first | (cases h; rfl) | cases h
theorem run_ari {P : Program} {w : World} {op : BinOp} {k : IntKind} {x y r : Int} (hs : isSh op = false) (hc : cmpI op x y = none) (h : ariI op k x y = some r) {t : TypeId} : (binOp op t (.int k x) (.int k y)).run P w = .ok (.int k r) w := by
  unfold ariI at h
  split at h <;> first | (cases h; simp [binOp, Op.intArith, Op.intBits]; done) | skip
  · split at h
    · cases h
    · rename_i hy; cases h; simp [binOp, Op.intDiv, hy]
  · split at h
    · cases h
    · rename_i hy; cases h; simp [binOp, Op.intDiv, hy]
  · cases h


theorem run_b2 {P : Program} {w : World} {op : BinOp} {t : TypeId} {a b r : Value} (h : b2 op (kdT P t) a b = some r) : (binOp op t a b).run P w = .ok r w := by
  unfold b2 at h
  split at h
  · rename_i k x k' y
    split at h
    · rename_i hs
      obtain ⟨n, hn, rfl⟩ := Option.map_eq_some_iff.1 h
      unfold shI at hn
      split at hn
      · cases hn
      · rename_i hy
        split at hn
        · cases hn; simp [binOp, Op.shift, hy]
        · cases hn; simp [binOp, Op.shift, hy]
        · cases hn
    · rename_i hs
      have hs' : isSh op = false := by simpa using hs
      split at h
      · rename_i hk
        subst hk
        split at h
        · rename_i b hc
          cases h
          have := run_intCmp (P := P) (w := w) hc
          unfold cmpI at hc
          split at hc <;> first | (cases hc; done) | (cases hc; simpa [binOp] using this)
        · rename_i hc
          obtain ⟨n, hn, rfl⟩ := Option.map_eq_some_iff.1 h
          exact run_ari hs' hc hn
      · cases h
  · rename_i x y
    unfold strB at h
    split at h
    · split at h
      · rename_i hl
        cases h
        have hm : IntKind.i64.max = 9223372036854775807 := by decide
        have hl' : ¬ (((x.size + y.size : Nat) : Int) > IntKind.i64.max) := by rw [hm]; omega
        simp only [binOp, Op.stringOp, if_neg hl', Sem.run_pure]
      · cases h
    · cases h; simp [binOp, Op.stringOp]
    · cases h; simp [binOp, Op.stringOp]
    · cases h
  · rename_i x y
    split at h
    · rename_i hk
      have hu : P.underlying t = some .bool := by
        unfold kdT at hk
        split at hk <;> first | assumption | (simp at hk)
      have he : (Op.equal t (.bool x) (.bool y)).run P w = .ok (x == y) w := by
        show (Op.equalIn (9999 + 1) t (.bool x) (.bool y)).run P w = _
        unfold Op.equalIn
        simp [run_underlying hu]
      split at h
      · cases h; simp [binOp, he]
      · cases h; simp [binOp, he]
      · cases h
    · cases h
  · cases h

theorem b2_guard {P : Program} {w : World} {op : BinOp} {kd : Nat} {t : TypeId} {x y : Operand} {a b r : Value} (h : b2 op kd a b = some r) : (eqGuard op t x y a b).run P w = .ok () w := by
  unfold b2 at h
  split at h <;> first | cases h | skip
  all_goals (unfold eqGuard; split <;> simp)

theorem bin_sound {P : Program} {o : Oper} {op : BinOp} {t yt : TypeId} {x y : Operand} (ho : o.op = .binOp op t x y yt) {env : Env} {S : Store} {K X : AV → Store → Prop}
    (h : bin op (kdT P t) (ev env x) (ev env y) S K) : OpS P o env S K X := by
  unfold bin at h
  split at h
  · rename_i a b hx hy
    obtain ⟨r, hr, hK⟩ := h
    refine opS_pure hK fun w g ac hh he => ⟨r, ?_, .v _⟩
    have h1 := he.ev x
    have h2 := he.ev y
    rw [hx] at h1
    rw [hy] at h2
    simp only [execOp, ho, h1.inv_v, h2.inv_v, Sem.run_bind, b2_guard hr, run_b2 hr, Result.andThen_ok, Sem.run_pure]
  · exact h.elim

theorem kd_slice {P : Program} {t : TypeId} (h : kdT P t = 2) : ∃ e, P.underlying t = some (.slice e) := by
  unfold kdT at h
  split at h <;> first | (rename_i h'; exact ⟨_, h'⟩) | (simp at h)
theorem kd_pointer {P : Program} {t : TypeId} (h : kdT P t = 3) : ∃ e, P.underlying t = some (.pointer e) := by
  unfold kdT at h
  split at h <;> first | (rename_i h'; exact ⟨_, h'⟩) | (simp at h)
theorem kd_iface {P : Program} {t : TypeId} (h : kdT P t = 4) : ∃ e, P.underlying t = some (.interface e) := by
  unfold kdT at h
  split at h <;> first | (rename_i h'; exact ⟨_, h'⟩) | (simp at h)
theorem kd_map {P : Program} {t : TypeId} (h : kdT P t = 5) : ∃ k e, P.underlying t = some (.map k e) := by
  unfold kdT at h
  split at h <;> first | (rename_i h'; exact ⟨_, _, h'⟩) | (simp at h)
theorem kd_func {P : Program} {t : TypeId} (h : kdT P t = 6) : ∃ a b c, P.underlying t = some (.func a b c) := by
  unfold kdT at h
  split at h <;> first | (rename_i h'; exact ⟨_, _, _, h'⟩) | (simp at h)


theorem eqGuard_nil {P : Program} {w : World} {op : BinOp} {t : TypeId} {xo : Operand} {v nv : Value} (hn : isNil (.const nv) = true) : (eqGuard op t xo (.const nv) v nv).run P w = .ok () w := by
  unfold eqGuard
  cases op <;> cases nv <;> first | (simp [isNil] at hn; done) | skip
  all_goals (cases v <;> simp)

theorem nil_ans {P : Program} {w : World} {t : TypeId} {v nv : Value} {b : Bool} (he : (Op.equal t v nv).run P w = .ok b w) (hv : ∀ k a, v ≠ .int k a) {op : BinOp} {S : Store} {K : AV → Store → Prop} {xo : Operand} (hn : isNil (.const nv) = true)
    (h : match op with | .eql => K (.v (.bool b)) S | .neq => K (.v (.bool !b)) S | _ => False) : ∃ r, (do eqGuard op t xo (.const nv) v nv; binOp op t v nv : Sem Value).run P w = .ok (.bool r) w ∧ K (.v (.bool r)) S := by
  have hb : ∀ op, op = .eql ∨ op = .neq → (binOp op t v nv).run P w = .ok (.bool (if op = .eql then b else !b)) w := by
    rintro op (rfl | rfl)
    · cases nv <;> first | (simp [isNil] at hn; done) | skip
      all_goals (cases v <;> first | (simp [binOp, he]; done) | skip)
    · cases nv <;> first | (simp [isNil] at hn; done) | skip
      all_goals (cases v <;> first | (simp [binOp, he]; done) | skip)
  split at h
  · exact ⟨b, by simp only [Sem.run_bind, eqGuard_nil hn, Result.andThen_ok, hb _ (.inl rfl), if_true], h⟩
  · exact ⟨!b, by simp [eqGuard_nil hn, hb _ (.inr rfl)], h⟩
  · exact h.elim

theorem nil_run {P : Program} {w : World} {g : Gh} {t : TypeId} {x : AV} {v nv : Value} (hr : R w g x v) (hn : isNil (.const nv) = true) {op : BinOp} {S : Store} {K : AV → Store → Prop}
    (h : nilV op (kdT P t) x S K) (xo : Operand) (hk : ∀ e, P.underlying t = some (.slice e) → nv = .slice none 0 0) (hk2 : ∀ e, P.underlying t = some (.pointer e) → nv = .pointer none) (hk3 : ∀ e, P.underlying t = some (.interface e) → nv = .nilIface)
    (hk4 : ∀ k e, P.underlying t = some (.map k e) → nv = .map none) (hk5 : ∀ a b c, P.underlying t = some (.func a b c) → nv = .nilFunc) : ∃ r, (do eqGuard op t xo (.const nv) v nv; binOp op t v nv : Sem Value).run P w = .ok (.bool r) w ∧ K (.v (.bool r)) S := by
  have heq : ∀ u, (Op.equal t v u).run P w = (Op.equalIn (9999 + 1) t v u).run P w := fun _ => rfl
  unfold nilV at h
  dsimp only at h
  generalize hkd : kdT P t = kd at h
  split at h
  · obtain ⟨e, hu⟩ := kd_slice hkd
    obtain rfl := hk e hu
    obtain ⟨A, rfl⟩ := hr.inv_nl
    refine nil_ans (b := A.isNone) ?_ (by simp) hn (by cases A <;> first | exact h.1 | exact h.2)
    rw [heq]
    unfold Op.equalIn
    cases A <;> simp [run_underlying hu]
  · obtain ⟨e, hu⟩ := kd_slice hkd
    obtain rfl := hk e hu
    obtain ⟨A, c, _, _, rfl, _⟩ := hr.inv_l
    refine nil_ans (b := A.isNone) ?_ (by simp) hn (by cases A <;> first | exact h.1 | exact h.2)
    rw [heq]
    unfold Op.equalIn
    cases A <;> simp [run_underlying hu]
  · obtain ⟨e, hu⟩ := kd_slice hkd
    obtain rfl := hk e hu
    obtain ⟨_, A, c, rfl, _⟩ := hr.inv_s
    refine nil_ans (b := false) ?_ (by simp) hn h
    rw [heq]
    unfold Op.equalIn
    simp [run_underlying hu]
  · obtain ⟨e, hu⟩ := kd_slice hkd
    obtain rfl := hk e hu
    obtain ⟨A, c, _, _, rfl, _, hm, _⟩ := hr.inv_l
    obtain ⟨ad, rfl, _⟩ := hm (by simp)
    refine nil_ans (b := false) ?_ (by simp) hn h
    rw [heq]
    unfold Op.equalIn
    simp [run_underlying hu]
  · obtain ⟨e, hu⟩ := kd_pointer hkd
    obtain rfl := hk2 e hu
    obtain ⟨_, rfl⟩ := hr.inv_p
    refine nil_ans (b := false) ?_ (by simp) hn h
    rw [heq]
    unfold Op.equalIn
    simp [run_underlying hu]
  · obtain ⟨e, hu⟩ := kd_pointer hkd
    obtain rfl := hk2 e hu
    cases hr
    refine nil_ans (b := false) ?_ (by simp) hn h
    rw [heq]
    unfold Op.equalIn
    simp [run_underlying hu]
  · obtain ⟨e, hu⟩ := kd_pointer hkd
    obtain rfl := hk2 e hu
    obtain rfl := hr.inv_v
    refine nil_ans (b := true) ?_ (by simp) hn h
    rw [heq]
    unfold Op.equalIn
    simp [run_underlying hu]
  · obtain ⟨e, hu⟩ := kd_iface hkd
    obtain rfl := hk3 e hu
    cases hr
    refine nil_ans (b := false) ?_ (by simp) hn h
    rw [heq]
    unfold Op.equalIn
    simp [run_underlying hu]
  · obtain ⟨e, hu⟩ := kd_iface hkd
    obtain rfl := hk3 e hu
    obtain rfl := hr.inv_v
    refine nil_ans (b := true) ?_ (by simp) hn h
    rw [heq]
    unfold Op.equalIn
    simp [run_underlying hu]
  · obtain ⟨k, e, hu⟩ := kd_map hkd
    obtain rfl := hk4 k e hu
    cases hr
    refine nil_ans (b := false) ?_ (by simp) hn h
    rw [heq]
    unfold Op.equalIn
    simp [run_underlying hu]
  · obtain ⟨k, e, hu⟩ := kd_map hkd
    obtain rfl := hk4 k e hu
    obtain rfl := hr.inv_v
    refine nil_ans (b := true) ?_ (by simp) hn h
    rw [heq]
    unfold Op.equalIn
    simp [run_underlying hu]
  · obtain ⟨k, e, c, hu⟩ := kd_func hkd
    obtain rfl := hk5 k e c hu
    cases hr
    refine nil_ans (b := false) ?_ (by simp) hn h
    rw [heq]
    unfold Op.equalIn
    simp [run_underlying hu]
  · obtain ⟨k, e, c, hu⟩ := kd_func hkd
    obtain rfl := hk5 k e c hu
    obtain rfl := hr.inv_v
    refine nil_ans (b := true) ?_ (by simp) hn h
    rw [heq]
    unfold Op.equalIn
    simp [run_underlying hu]
  · exact h.elim

/-- Does the nil fit the type? -/
def nilFits (kd : Nat) : Operand → Bool
  | .const (.slice none 0 0) => kd == 2
  | .const (.pointer none) => kd == 3
  | .const .nilIface => kd == 4
  | .const (.map none) => kd == 5
  | .const .nilFunc => kd == 6
  | _ => false

theorem nil_sound {P : Program} {o : Oper} {op : BinOp} {t yt : TypeId} {x y : Operand} (ho : o.op = .binOp op t x y yt) {env : Env} {S : Store} {K X : AV → Store → Prop} (hf : nilFits (kdT P t) y = true)
    (h : nilV op (kdT P t) (ev env x) S K) : OpS P o env S K X := by
  intro w g a next Q hh he hn hx
  have hy : ∃ nv, y = .const nv ∧ isNil (.const nv) = true ∧ (∀ e, P.underlying t = some (.slice e) → nv = .slice none 0 0) ∧ (∀ e, P.underlying t = some (.pointer e) → nv = .pointer none) ∧ (∀ e, P.underlying t = some (.interface e) → nv = .nilIface) ∧
      (∀ k e, P.underlying t = some (.map k e) → nv = .map none) ∧ (∀ a b c, P.underlying t = some (.func a b c) → nv = .nilFunc) := by
    unfold nilFits at hf
    split at hf <;> first | (cases hf; done) | skip
    all_goals
      simp only [beq_iff_eq] at hf
      refine ⟨_, rfl, rfl, ?_, ?_, ?_, ?_, ?_⟩
      all_goals
        intros
        rename_i hu
        first | rfl | (unfold kdT at hf; rw [hu] at hf; simp at hf)
  obtain ⟨nv, rfl, h1, h2, h3, h4, h5, h6⟩ := hy
  obtain ⟨r, hr, hK⟩ := nil_run (he.ev x) h1 h x h2 h3 h4 h5 h6
  have hr' : (do eqGuard op t x (.const nv) (a.eval x) (a.eval (.const nv)); binOp op t (a.eval x) (a.eval (.const nv)) : Sem Value).run P w = .ok (.bool r) w := hr
  refine wp_value (y := .bool r) (w' := w) ?_ (hn _ S w g _ hh (Mv.refl _ _) (.v _) hK)
  simp only [execOp, ho, Sem.run_bind] at hr' ⊢
  rw [hr']
  rfl


/-! ### Simple operations -/
def pick (c x y : AV) (S : Store) (K : AV → Store → Prop) : Prop :=
  match c with
  | .v (.bool b) => match b with | true => K x S | false => K y S
  | _ => False
theorem pick_sound {P : Program} {o : Oper} {c x y : Operand} (ho : o.op = .pick c x y) {env : Env} {S : Store} {K X : AV → Store → Prop} (h : pick (ev env c) (ev env x) (ev env y) S K) : OpS P o env S K X := by
  unfold pick at h
  split at h
  · rename_i b hc
    cases b with
    | false =>
      refine opS_pure h fun w g a hh he => ⟨a.eval y, ?_, he.ev y⟩
      have h1 := he.ev c
      rw [hc] at h1
      simp [execOp, ho, h1.inv_v, asBool]
    | true =>
      refine opS_pure h fun w g a hh he => ⟨a.eval x, ?_, he.ev x⟩
      have h1 := he.ev c
      rw [hc] at h1
      simp [execOp, ho, h1.inv_v, asBool]
  · exact h.elim

theorem move_sound {P : Program} {o : Oper} {x : Operand} (ho : o.op = .move x ∨ o.op = .assign x) {env : Env} {S : Store} {K X : AV → Store → Prop} (h : K (ev env x) S) : OpS P o env S K X :=
  opS_pure h fun w g a hh he => ⟨a.eval x, by rcases ho with ho | ho <;> simp [execOp, ho], he.ev x⟩

def un (op : UnOp) (x : AV) (S : Store) (K : AV → Store → Prop) : Prop :=
  match op, x with
  | .not, .v (.bool b) => K (.v (.bool !b)) S
  | .neg, .v (.int k n) => K (.v (.int k (k.wrap (0 - n)))) S
  | _, _ => False
theorem un_sound {P : Program} {o : Oper} {op : UnOp} {t : TypeId} {x : Operand} (ho : o.op = .unOp op t x) {env : Env} {S : Store} {K X : AV → Store → Prop} (h : un op (ev env x) S K) : OpS P o env S K X := by
  unfold un at h
  split at h
  · rename_i b hx
    refine opS_pure h fun w g a hh he => ⟨_, ?_, .v _⟩
    have h1 := he.ev x
    rw [hx] at h1
    simp [execOp, ho, h1.inv_v, Op.unary]
  · rename_i k n hx
    refine opS_pure h fun w g a hh he => ⟨_, ?_, .v _⟩
    have h1 := he.ev x
    rw [hx] at h1
    simp [execOp, ho, h1.inv_v, Op.unary, Op.intArith]
  · exact h.elim

def mkFunc (fn : Fn) (fs cs : List AV) (S : Store) (K : AV → Store → Prop) : Prop := K (.f fn fs cs) S
theorem rel_map {w : World} {g : Gh} {env : Env} {a : Act} (he : EnvR w g env a) (xs : Array Operand) :
    (xs.toList.map (ev env)).length = (xs.map a.eval).size ∧ ∀ (k : Nat) (u : AV), (xs.toList.map (ev env))[k]? = some u → R w g u ((xs.map a.eval).getD k undef) := by
  refine ⟨by simp, fun k u hu => ?_⟩
  rw [List.getElem?_map] at hu
  obtain ⟨x, hx, rfl⟩ := Option.map_eq_some_iff.1 hu
  have hx' : xs[k]? = some x := by simpa using hx
  simp only [Array.getD_eq_getD_getElem?, Array.getElem?_map, hx', Option.map_some, Option.getD_some]
  exact he.ev x
theorem mkFunc_sound {P : Program} {o : Oper} {fn : Fn} {fs cs : Array Operand} (ho : o.op = .makeFunc fn fs cs) {env : Env} {S : Store} {K X : AV → Store → Prop}
    (h : mkFunc fn (fs.toList.map (ev env)) (cs.toList.map (ev env)) S K) : OpS P o env S K X :=
  opS_pure h fun w g a hh he => ⟨.func fn (fs.map a.eval) (cs.map a.eval), by simp [execOp, ho, Instr.makeFunc], .f _ _ _ _ _ (rel_map he fs).1 (rel_map he cs).1 (rel_map he fs).2 (rel_map he cs).2⟩

def extr (x : AV) (ix : Nat) (S : Store) (K : AV → Store → Prop) : Prop :=
  match x with
  | .t vs => optP vs[ix]? fun u => K u S
  | _ => False
theorem extr_sound {P : Program} {o : Oper} {x : Operand} {ix : Nat} (ho : o.op = .extract x ix) {env : Env} {S : Store} {K X : AV → Store → Prop} (h : extr (ev env x) ix S K) : OpS P o env S K X := by
  unfold extr at h
  split at h
  · rename_i vs hx
    obtain ⟨u, hu, hK⟩ := h
    refine opS_pure hK fun w g a hh he => ?_
    have h1 := he.ev x
    rw [hx] at h1
    generalize hv : a.eval x = v at h1
    cases h1 with
    | t cs cs' hl hR =>
      have hlt : ix < cs'.size := by have := (List.getElem?_eq_some_iff.1 hu).1; omega
      refine ⟨cs'.getD ix undef, ?_, hR _ _ hu⟩
      simp [execOp, ho, hv, Instr.extract, hlt]
  · exact h.elim

/-! ### Places -/
def shift (x : AV) (n : Nat) (S : Store) (K : AV → Store → Prop) : Prop :=
  match x with
  | .p id i j => K (.p id i (j + n)) S
  | .q c j => K (.q c (j + n)) S
  | _ => False
theorem shift_rel {w : World} {g : Gh} {x : AV} {y : Value} (hr : R w g x y) {n : Nat} {S : Store} {K : AV → Store → Prop} (h : shift x n S K) : ∃ ad u, y = .pointer (some ad) ∧ R w g u (.pointer (some (ad.add n))) ∧ K u S := by
  unfold shift at h
  split at h
  · rename_i id i j
    obtain ⟨h1, h2⟩ := hr.inv_p
    refine ⟨_, _, h2, ?_, h⟩
    have := R.p (w := w) (g := g) id i (j + n) h1
    rwa [add_at, Nat.add_assoc]
  · cases hr with
    | q c j ad vs him hm h1 hR =>
      refine ⟨_, _, rfl, ?_, h⟩
      rw [add_add]
      exact .q _ _ _ vs him hm h1 hR
  · exact h.elim
/-- Where a field lies. -/
def fieldT (P : Program) (s : TypeId) (f : Nat) : Option (Nat × TypeId) :=
  match P.underlying s with
  | some (.struct fs) => (fs[f]?).map fun d => (d.offset, d.type)
  | _ => none
theorem fieldT_spec {P : Program} {s : TypeId} {f off : Nat} {t : TypeId} (h : fieldT P s f = some (off, t)) : ∃ fs d, P.underlying s = some (.struct fs) ∧ fs[f]? = some d ∧ d.offset = off ∧ d.type = t := by
  unfold fieldT at h
  split at h
  · rename_i fs hu
    obtain ⟨d, hd, he⟩ := Option.map_eq_some_iff.1 h
    cases he
    exact ⟨fs, d, hu, hd, rfl, rfl⟩
  · cases h
def fieldAddr (P : Program) (s : TypeId) (x : AV) (f : Nat) (S : Store) (K : AV → Store → Prop) : Prop :=
  match fieldT P s f with
  | some (off, t) => match szT P t with
    | some (_ + 1) => shift x off S K
    | _ => False
  | none => False
theorem fieldAddr_sound {P : Program} {o : Oper} {s : TypeId} {x : Operand} {f : Nat} (ho : o.op = .fieldAddr s x f) {env : Env} {S : Store} {K X : AV → Store → Prop} (h : fieldAddr P s (ev env x) f S K) : OpS P o env S K X := by
  unfold fieldAddr at h
  split at h
  case h_2 => exact h.elim
  rename_i off t hf
  split at h
  case h_2 => exact h.elim
  rename_i n hn
  obtain ⟨fs, d, hu, hd, rfl, rfl⟩ := fieldT_spec hf
  intro w g a next Q hh he hnx hx
  obtain ⟨ad, u, hy, hr, hK⟩ := shift_rel (he.ev x) h
  refine wp_value (y := .pointer (some (ad.add d.offset))) (w' := w) ?_ (hnx _ S w g _ hh (Mv.refl _ _) hr hK)
  simp [execOp, ho, hy, Instr.fieldAt, run_underlying hu, hd, Instr.sureAddr, fieldPlace, run_sz hn]

/-- A part of a struct or an array. -/
def partA (agg : Bool) (sz off : Nat) (cs : List AV) : Option AV :=
  if agg then (if off + sz ≤ cs.length then some (.a ((cs.drop off).take sz)) else none) else cs[off]?
def part1 (x : AV) (off : Nat) (S : Store) (K : AV → Store → Prop) : Prop :=
  match x with
  | .a cs => optP (partA false 1 off cs) fun u => K u S
  | _ => False
def partN (x : AV) (sz off : Nat) (S : Store) (K : AV → Store → Prop) : Prop :=
  match x with
  | .a cs => optP (partA true sz off cs) fun u => K u S
  | _ => False
theorem run_part {P : Program} {w : World} {g : Gh} {t : TypeId} {agg : Bool} {sz off : Nat} (ha : aggT P t = some agg) (hs : szT P t = some sz) {cs : List AV} {cs' : Array Value} (hl : cs.length = cs'.size) (h1 : ∀ (k : Nat) (u : AV), cs[k]? = some u → u.one = true)
    (hR : ∀ (k : Nat) (u : AV), cs[k]? = some u → R w g u (cs'.getD k undef)) {u : AV} (h : partA agg sz off cs = some u) : ∃ y, (part t cs' off).run P w = .ok y w ∧ R w g u y := by
  unfold partA at h
  unfold Go.part
  cases agg with
  | false =>
    simp only [Bool.false_eq_true, if_false] at h
    have hlt : off < cs'.size := by have := (List.getElem?_eq_some_iff.1 h).1; omega
    refine ⟨cs'.getD off undef, ?_, hR _ _ h⟩
    simp [run_agg ha, hlt, Array.getD_eq_getD_getElem?]
  | true =>
    simp only [if_true] at h
    split at h
    · rename_i hle
      cases h
      refine ⟨.agg (cs'.extract off (off + sz)), by simp [run_agg ha, run_sz hs], ?_⟩
      have hget : ∀ (k : Nat) (u : AV), ((cs.drop off).take sz)[k]? = some u → k < sz ∧ cs[off + k]? = some u := by
        intro k u hu
        rw [List.getElem?_take] at hu
        split at hu
        · rename_i hk
          rw [List.getElem?_drop] at hu
          exact ⟨hk, hu⟩
        · cases hu
      refine .a _ _ (by simp; omega) (fun k u hu => h1 _ _ (hget k u hu).2) (fun k u hu => ?_)
      obtain ⟨hk, hu⟩ := hget k u hu
      have := hR _ _ hu
      have hlt : off + k < cs'.size := by have := (List.getElem?_eq_some_iff.1 hu).1; omega
      simp only [Array.getD_eq_getD_getElem?, Array.getElem?_extract] at this ⊢
      rwa [if_pos (by omega)]
    · cases h
def field (P : Program) (s : TypeId) (x : AV) (f : Nat) (S : Store) (K : AV → Store → Prop) : Prop :=
  match fieldT P s f with
  | some (off, t) => match aggT P t, szT P t with
    | some false, some _ => part1 x off S K
    | some true, some n => partN x n off S K
    | _, _ => False
  | none => False
theorem field_sound {P : Program} {o : Oper} {s : TypeId} {x : Operand} {f : Nat} (ho : o.op = .field s x f) {env : Env} {S : Store} {K X : AV → Store → Prop} (h : field P s (ev env x) f S K) : OpS P o env S K X := by
  unfold field at h
  split at h
  case h_2 => exact h.elim
  rename_i off t hf
  obtain ⟨fs, d, hu, hd, rfl, rfl⟩ := fieldT_spec hf
  have key : ∀ agg sz cs u, aggT P d.type = some agg → szT P d.type = some sz → ev env x = .a cs → partA agg sz d.offset cs = some u → K u S → OpS P o env S K X := by
    intro agg sz cs u ha hs hx hp hK
    refine opS_pure hK fun w g a hh he => ?_
    have h1 := he.ev x
    rw [hx] at h1
    generalize hv : a.eval x = v at h1
    cases h1 with
    | a cs0 cs' hl h2 hR =>
      obtain ⟨y, hrun, hr⟩ := run_part (P := P) (w := w) (g := g) ha hs hl h2 hR hp
      refine ⟨y, ?_, hr⟩
      simp [execOp, ho, hv, Instr.field, run_underlying hu, hd, asAgg, hrun]
  split at h
  · rename_i n ha hs
    unfold part1 at h
    split at h
    · rename_i cs hx
      obtain ⟨u, hu', hK⟩ := h
      exact key false n cs u ha hs hx (by simpa [partA] using hu') hK
    · exact h.elim
  · rename_i n ha hs
    unfold partN at h
    split at h
    · rename_i cs hx
      obtain ⟨u, hu', hK⟩ := h
      exact key true n cs u ha hs hx hu' hK
    · exact h.elim
  · exact h.elim

end Go.Ab

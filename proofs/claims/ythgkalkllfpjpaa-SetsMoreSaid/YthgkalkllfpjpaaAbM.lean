/- It is proved here that each of the laws of sets (SetsMade, SetsFix, SetsMore, SetsFair) returns true for every input and changes none of its arguments. There is no condition beyond the given statement. -/
import Derived.Test.YthgkalkllfpjpaaAb2
import Derived.MapKept
import Derived.Maps.RangeRun
set_option linter.unusedVariables false
set_option linter.unusedSimpArgs false
namespace Go.Ab
open Go Go.RowKit

/-! ### Maps -/
def kkT (P : Program) (kt : TypeId) : Option KK :=
  match P.underlying kt with
  | some (.int k) => some (.i k)
  | some .string => some .s
  | some (.array 2 e) => match P.underlying e, szT P e with
    | some (.int k), some 1 => some (.p k)
    | _, _ => none
  | _ => none
def keyA : KK → AV → Option Key
  | .i k, .v (.int k' n) => if k' = k then some (.i n) else none
  | .s, .v (.string b) => some (.s b.data.toList)
  | .p k, .a [.v (.int k1 x), .v (.int k2 y)] => if k1 = k ∧ k2 = k then some (.p x y) else none
  | _, _ => none
theorem keyA_sound {w : World} {g : Gh} {kk : KK} {u : AV} {y : Value} {key : Key} (hr : R w g u y) (h : keyA kk u = some key) : y = key.val kk ∧ key.fits kk = true := by
  unfold keyA at h
  split at h
  · split at h
    · rename_i e; cases h; cases e; exact ⟨hr.inv_v, rfl⟩
    · cases h
  · cases h
    obtain rfl := hr.inv_v
    simp [Key.val, Key.fits]
  · split at h
    · rename_i e
      obtain ⟨rfl, rfl⟩ := e
      cases h
      cases hr with
      | a cs cs' hl h1 hR =>
        refine ⟨?_, rfl⟩
        have h0 := (hR 0 _ rfl).inv_v
        have h2 := (hR 1 _ rfl).inv_v
        obtain ⟨l⟩ := cs'
        match l, hl with
        | [p, q], _ =>
          simp at h0 h2
          simp [Key.val, h0, h2]
    · cases h
  · cases h

theorem kk_cases {P : Program} {kt : TypeId} {kk : KK} (h : kkT P kt = some kk) : (∃ k, kk = .i k ∧ P.underlying kt = some (.int k)) ∨ (kk = .s ∧ P.underlying kt = some .string) ∨
    ∃ k e, kk = .p k ∧ P.underlying kt = some (.array 2 e) ∧ P.underlying e = some (.int k) ∧ szT P e = some 1 := by
  unfold kkT at h
  split at h
  · rename_i k hk; cases h; exact .inl ⟨k, rfl, hk⟩
  · rename_i hk; cases h; exact .inr (.inl ⟨rfl, hk⟩)
  · rename_i e hk
    split at h
    · rename_i k h1 h2; cases h; exact .inr (.inr ⟨k, e, rfl, hk, h1, h2⟩)
    · cases h
  · cases h
theorem agg_int {P : Program} {e : TypeId} {k : IntKind} (h : P.underlying e = some (.int k)) : aggT P e = some false := by simp [aggT, h]
theorem run_part1 {P : Program} {w : World} {e : TypeId} {k : IntKind} (h : P.underlying e = some (.int k)) (h1 : szT P e = some 1) {cs : Array Value} {i : Nat} {v : Value} (hv : cs[i]? = some v) : (part e cs i).run P w = .ok v w := by
  simp [part, run_agg (agg_int h), hv]
theorem run_check {P : Program} {w : World} {kt : TypeId} {kk : KK} (hk : kkT P kt = some kk) {key : Key} (hf : key.fits kk = true) (b : Bool) : (Instr.checkKey b 10000 kt (key.val kk)).run P w = .ok () w := by
  rcases kk_cases hk with ⟨k, rfl, hu⟩ | ⟨rfl, hu⟩ | ⟨k, e, rfl, hu, he, hs⟩
  · cases key <;> simp [Key.fits] at hf
    exact MapKept.run_checkKey hu (by simp [Key.val, MapKept.IsKey]) b 9999
  · cases key <;> simp [Key.fits] at hf
    exact MapKept.run_checkKey hu (by simp [Key.val, MapKept.IsKey]) b 9999
  · cases key <;> simp [Key.fits] at hf
    rename_i x y
    have c : ∀ n : Int, (Instr.checkKey b 9999 e (.int k n)).run P w = .ok () w := fun n => MapKept.run_checkKey he (by simp [MapKept.IsKey]) b 9998
    have h0 := run_part1 (w := w) (cs := #[.int k x, .int k y]) (i := 0) he hs rfl
    have h1 := run_part1 (w := w) (cs := #[.int k x, .int k y]) (i := 1) he hs rfl
    unfold Instr.checkKey
    simp only [Sem.run_bind, run_underlying hu, Result.andThen, Key.val]
    simp [Std.Legacy.Range.forIn_eq_forIn_range', Std.Legacy.Range.size, List.range', run_sz hs, h0, h1, c, Result.andThen]
/-- Two keys are equal. -/
theorem run_equal {P : Program} {w : World} {kt : TypeId} {k : IntKind} {e : TypeId} (hu : P.underlying kt = some (.array 2 e)) (he : P.underlying e = some (.int k)) (hs : szT P e = some 1) (a b : Key) (ha : a.fits (.p k) = true) (hb : b.fits (.p k) = true) :
    (Op.equal kt (a.val (.p k)) (b.val (.p k))).run P w = .ok (decide (a = b)) w := by
  cases a <;> simp [Key.fits] at ha
  cases b <;> simp [Key.fits] at hb
  rename_i x y x' y'
  have h0 := run_part1 (w := w) (cs := #[.int k x, .int k y]) (i := 0) he hs rfl
  have h1 := run_part1 (w := w) (cs := #[.int k x, .int k y]) (i := 1) he hs rfl
  have h2 := run_part1 (w := w) (cs := #[.int k x', .int k y']) (i := 0) he hs rfl
  have h3 := run_part1 (w := w) (cs := #[.int k x', .int k y']) (i := 1) he hs rfl
  have c : ∀ m n : Int, (Op.equalIn 9999 e (.int k m) (.int k n)).run P w = .ok (m == n) w := fun m n => by
    unfold Op.equalIn
    simp [Sem.run_bind, run_underlying he, Result.andThen]
  have g0 : ∀ p q : Int, (part e #[.int k p, .int k q] 0).run P w = .ok (.int k p) w := fun p q => run_part1 (w := w) (cs := #[.int k p, .int k q]) (i := 0) he hs rfl
  have g1 : ∀ p q : Int, (part e #[.int k p, .int k q] 1).run P w = .ok (.int k q) w := fun p q => run_part1 (w := w) (cs := #[.int k p, .int k q]) (i := 1) he hs rfl
  clear h0 h1 h2 h3
  unfold Op.equal Op.maxDepth Op.equalIn
  simp only [Sem.run_bind, run_underlying hu, Result.andThen, Key.val]
  by_cases e1 : x = x' <;> by_cases e2 : y = y' <;>
    simp [Std.Legacy.Range.forIn_eq_forIn_range', Std.Legacy.Range.size, List.range', run_sz hs, g0, g1, c, Result.andThen, e1, e2]

/-- Where a key is. -/
def kix (es : List (Key × AV)) (k : Key) : Option Nat := es.findIdx? fun e => decide (e.1 = k)
theorem run_find {P : Program} {w : World} {kt : TypeId} {kk : KK} (hk : kkT P kt = some kk) {key : Key} (hf : key.fits kk = true) {es : List (Key × AV)} {ms : Array MapEntry} (hrow : MapRow kk es ms) :
    (Instr.findKey kt (key.val kk) ms.toList).run P w = .ok ((kix es key).map fun i => (i, (ms[i]?.getD default).val)) w := by
  have hkeys : ∀ (i : Nat) (e : Key × AV), es[i]? = some e → e.1.fits kk = true ∧ ∃ m, ms.toList[i]? = some m ∧ m.key = e.1.val kk := fun i e he => by
    obtain ⟨h1, m, h2, h3, _⟩ := hrow.2 i e he
    exact ⟨h1, m, by simpa using h2, h3⟩
  have hlen : ms.toList.length = es.length := by simpa using hrow.1
  have hget : ∀ i : Nat, (ms[i]?.getD default).val = (ms.toList[i]?.getD default).val := fun i => by simp
  simp only [hget]
  generalize ms.toList = l at hkeys hlen
  clear hrow hget
  have now : ∀ (d : TypeDesc), P.underlying kt = some d → (∀ k' : Key, k'.fits kk = true → Instr.sameNow d (key.val kk) (k'.val kk) = some (decide (k' = key))) →
      ∀ (es : List (Key × AV)) (l : List MapEntry) (j : Nat), (∀ (i : Nat) (e : Key × AV), es[i]? = some e → e.1.fits kk = true ∧ ∃ m, l[i]? = some m ∧ m.key = e.1.val kk) → l.length = es.length →
        Instr.findNow d (key.val kk) l j = some ((kix es key).map fun i => (j + i, (l[i]?.getD default).val)) := by
    intro d hd hs es
    induction es with
    | nil => intro l j _ hl; obtain rfl := List.eq_nil_of_length_eq_zero hl; rfl
    | cons e es ih =>
      intro l j h hl
      obtain ⟨hf0, m, hm, hmk⟩ := h 0 e rfl
      cases l with
      | nil => simp at hm
      | cons m' l =>
        simp at hm
        subst hm
        have hsm := hs e.1 hf0
        rw [← hmk] at hsm
        by_cases heq : e.1 = key
        · simp [Instr.findNow, hsm, heq, kix, List.findIdx?_cons]
        · have hi := ih l (j + 1) (fun i e' he' => by have := h (i + 1) e' (by simpa using he'); simpa using this) (by simpa using hl)
          simp only [Instr.findNow, hsm, heq, decide_false, hi, kix, List.findIdx?_cons, Bool.false_eq_true, if_false, Option.map_map]
          congr 2
          funext i
          simp [Nat.add_assoc, Nat.add_comm 1 i]
  have fin : ∀ (d : TypeDesc), P.underlying kt = some d → (∀ k' : Key, k'.fits kk = true → Instr.sameNow d (key.val kk) (k'.val kk) = some (decide (k' = key))) → (Instr.findKey kt (key.val kk) l).run P w = .ok ((kix es key).map fun i => (i, (l[i]?.getD default).val)) w := by
    intro d hd hs
    have := now d hd hs es l 0 hkeys hlen
    simp only [Nat.zero_add] at this
    exact MapKept.run_findKey hd this
  rcases kk_cases hk with ⟨k, rfl, hu⟩ | ⟨rfl, hu⟩ | ⟨k, e, rfl, hu, he, hs⟩
  · refine fin _ hu fun k' h' => ?_
    cases key <;> simp [Key.fits] at hf
    cases k' <;> simp [Key.fits] at h'
    rename_i a b
    simp only [Key.val, Instr.sameNow, if_true, Key.i.injEq, Option.some.injEq]
    by_cases h : a = b
    · simp [h]
    · simp [h, Ne.symm h]
  · refine fin _ hu fun k' h' => ?_
    cases key <;> simp [Key.fits] at hf
    cases k' <;> simp [Key.fits] at h'
    rename_i a b
    simp only [Key.val, Instr.sameNow, Key.s.injEq, Option.some.injEq]
    by_cases h : b = a
    · subst h; simp; exact (MapKept.bytes_beq _ _).2 rfl
    · simp only [h, decide_false]
      cases hb : ((⟨a.toArray⟩ : ByteArray) == ⟨b.toArray⟩) with
      | false => rfl
      | true =>
        have := (MapKept.bytes_beq _ _).1 hb
        simp at this
        exact absurd this.symm h
  · have ask : ∀ (es : List (Key × AV)) (l : List MapEntry) (j : Nat), (∀ (i : Nat) (e : Key × AV), es[i]? = some e → e.1.fits (.p k) = true ∧ ∃ m, l[i]? = some m ∧ m.key = e.1.val (.p k)) → l.length = es.length →
        (Instr.findAsking kt (key.val (.p k)) l j).run P w = .ok ((kix es key).map fun i => (j + i, (l[i]?.getD default).val)) w := by
      intro es
      induction es with
      | nil => intro l j _ hl; obtain rfl := List.eq_nil_of_length_eq_zero hl; rfl
      | cons e' es ih =>
        intro l j h hl
        obtain ⟨hf0, m, hm, hmk⟩ := h 0 e' rfl
        cases l with
        | nil => simp at hm
        | cons m' l =>
          simp at hm
          subst hm
          have hq := run_equal (w := w) hu he hs key e'.1 hf hf0
          rw [← hmk] at hq
          by_cases heq : e'.1 = key
          · have : key = e'.1 := heq.symm
            simp only [this, decide_true] at hq
            unfold Instr.findAsking
            rw [this]
            simp [hq, Result.andThen, kix, List.findIdx?_cons]
          · have hne : ¬ key = e'.1 := fun q => heq q.symm
            simp only [hne, decide_false] at hq
            have hi := ih l (j + 1) (fun i e2 he' => by have := h (i + 1) e2 (by simpa using he'); simpa using this) (by simpa using hl)
            unfold Instr.findAsking
            simp only [Sem.run_bind, hq, Result.andThen_ok, Bool.false_eq_true, if_false, hi, kix, List.findIdx?_cons, heq, decide_false, Option.map_map]
            congr 2
            funext i
            simp [Nat.add_assoc, Nat.add_comm 1 i]
    have hA := ask es l 0 hkeys hlen
    simp only [Nat.zero_add] at hA
    cases l with
    | nil =>
      have : es = [] := List.eq_nil_of_length_eq_zero (by simpa using hlen.symm)
      subst this
      simp [Instr.findKey, run_underlying hu, Result.andThen, Instr.findNow, kix]
    | cons m l =>
      have : Instr.findNow (.array 2 e) (key.val (.p k)) (m :: l) 0 = none := by simp [Instr.findNow, Instr.sameNow]
      simp only [Instr.findKey, Sem.run_bind, run_underlying hu, Result.andThen_ok, this]
      exact hA

/-- What is found. -/
def lkp (es : List (Key × AV)) (k : Key) : Option AV := (kix es k).bind fun i => (es[i]?).map (·.2)
/-- The entries that a value tells. -/
def entsA (S : Store) (kk : KK) : AV → Option (List (Key × AV))
  | .m id => match S.obj id with
    | some (.map kk' es _) => if kk' = kk then some es else none
    | _ => none
  | .mt kk' es => if kk' = kk then some es else none
  | .v (.map none) => some []
  | _ => none
def lkV (z : AV) (c : Bool) (r : Option AV) : AV := match c with
  | true => .t [r.getD z, .v (.bool r.isSome)]
  | false => r.getD z
def lkM (kk : KK) (z : AV) (c : Bool) (x k : AV) (S : Store) (K : AV → Store → Prop) : Prop :=
  optP (entsA S kk x) fun es => optP (keyA kk k) fun key => K (lkV z c (lkp es key)) S
def lookupM (P : Program) (t : TypeId) (x k : AV) (c : Bool) (S : Store) (K : AV → Store → Prop) : Prop :=
  match P.underlying t with
  | some (.map kt e) => match kkT P kt, zT P e with
    | some kk, some z => lkM kk (absC z) c x k S K
    | _, _ => False
  | _ => False
/-- What the entries are in memory. -/
theorem entsA_sound {P : Program} {w : World} {g : Gh} {S : Store} (hh : Heap P w g S) {kk : KK} {x : AV} {y : Value} (hr : R w g x y) {es : List (Key × AV)} (h : entsA S kk x = some es) :
    (y = .map none ∧ es = []) ∨ ∃ r ms, y = .map (some r) ∧ w.heap[r]? = some (.map ms ms.size) ∧ MapRow kk es ms ∧ ∀ (i : Nat) (e : Key × AV), es[i]? = some e → R w g e.2 (ms[i]?.getD default).val := by
  unfold entsA at h
  split at h
  · rename_i id
    split at h
    · rename_i kk' es' l ho
      split at h
      · rename_i e
        subst e
        cases h
        cases hr with
        | m id h' =>
          obtain ⟨ms, h1, h2, h3⟩ := (hh.ob _ _ ho).row
          exact .inr ⟨_, ms, rfl, h1, h2, h3⟩
      · cases h
    · cases h
  · split at h
    · rename_i e
      subst e
      cases h
      cases hr with
      | mt kk es r ms him hm hrow hR => exact .inr ⟨r, ms, rfl, hm, hrow, hR⟩
    · cases h
  · cases h
    exact .inl ⟨hr.inv_v, rfl⟩
  · cases h
theorem lkp_row {kk : KK} {es : List (Key × AV)} {k : Key} {i : Nat} (h : kix es k = some i) : ∃ e, es[i]? = some e ∧ lkp es k = some e.2 := by
  have hi : i < es.length := by
    unfold kix at h
    exact (List.findIdx?_eq_some_iff_getElem.1 h).1
  exact ⟨es[i], List.getElem?_eq_getElem hi, by simp [lkp, h, hi]⟩
theorem lookup_sound {P : Program} {o : Oper} {t : TypeId} {x k : Operand} {c : Bool} (ho : o.op = .lookup t x k c) {env : Env} {S : Store} {K X : AV → Store → Prop} (h : lookupM P t (ev env x) (ev env k) c S K) : OpS P o env S K X := by
  unfold lookupM at h
  split at h
  case h_2 => exact h.elim
  rename_i kt e hu
  split at h
  case h_2 => exact h.elim
  rename_i kk z hk hz
  obtain ⟨es, he, key, hkey, hK⟩ := h
  refine opS_pure hK fun w g a hh hE => ?_
  obtain ⟨hkv, hkf⟩ := keyA_sound (hE.ev k) hkey
  have hz0 := run_zero hz w
  have fin : ∀ (v : Value) (b : Bool), R w g ((lkp es key).getD (absC z)) v → (lkp es key).isSome = b → R w g (lkV (absC z) c (lkp es key)) (if c then .tuple #[v, .bool b] else v) := by
    intro v b h1 h2
    cases c with
    | false => exact h1
    | true =>
      refine .t _ _ rfl fun i u hu => ?_
      match i, hu with
      | 0, hu => cases hu; exact h1
      | 1, hu => cases hu; rw [h2]; exact .v _
      | i + 2, hu => simp at hu
  rcases entsA_sound hh (hE.ev x) he with ⟨hy, rfl⟩ | ⟨r, ms, hy, hb, hrow, hR⟩
  · refine ⟨if c then .tuple #[z, .bool false] else z, ?_, fin _ _ (by simpa [lkp, kix] using R_absC w g z) (by simp [lkp, kix])⟩
    have hf : (Instr.findKey kt (key.val kk) []).run P w = .ok none w := by
      have hd : ∃ d, P.underlying kt = some d := by
        rcases kk_cases hk with ⟨_, _, h⟩ | ⟨_, h⟩ | ⟨_, _, _, h, _⟩ <;> exact ⟨_, h⟩
      obtain ⟨d, hd⟩ := hd
      exact MapKept.run_findKey hd rfl
    cases c <;> simp [execOp, ho, Instr.lookup, run_underlying hu, hy, hkv, run_check hk hkf, hf, hz0, Result.andThen]
  · have hf := run_find (w := w) hk hkf hrow
    cases hix : kix es key with
    | none =>
      rw [hix] at hf
      refine ⟨if c then .tuple #[z, .bool false] else z, ?_, fin _ _ (by simpa [lkp, hix] using R_absC w g z) (by simp [lkp, hix])⟩
      cases c <;> simp [execOp, ho, Instr.lookup, run_underlying hu, hy, hkv, MapKept.run_getObj_map hb, run_check hk hkf, hf, hz0, Result.andThen]
    | some i =>
      rw [hix] at hf
      obtain ⟨e', he', hl⟩ := lkp_row (kk := kk) hix
      refine ⟨if c then .tuple #[(ms[i]?.getD default).val, .bool true] else (ms[i]?.getD default).val, ?_, fin _ _ (by rw [hl]; exact hR i e' he') (by rw [hl]; rfl)⟩
      cases c <;> simp [execOp, ho, Instr.lookup, run_underlying hu, hy, hkv, MapKept.run_getObj_map hb, run_check hk hkf, hf, Result.andThen]

/-- Its length. -/
def lenM (x : AV) (S : Store) (K : AV → Store → Prop) : Prop :=
  match x with
  | .m id => match S.obj id with
    | some (.map _ es _) => K (.v (.int .i64 es.length)) S
    | _ => False
  | .mt _ es => K (.v (.int .i64 es.length)) S
  | .v (.map none) => K (.v (.int .i64 0)) S
  | _ => False
theorem run_lenM {P : Program} {w : World} {g : Gh} {S : Store} (hh : Heap P w g S) {t kt e : TypeId} (hu : P.underlying t = some (.map kt e)) {x : AV} {y : Value} (hr : R w g x y) {K : AV → Store → Prop} (h : lenM x S K) (ty : TypeId) :
    ∃ n : Int, (Builtin.len_ #[t] ty #[y]).run P w = .ok (.int .i64 n) w ∧ K (.v (.int .i64 n)) S := by
  unfold lenM at h
  split at h
  · rename_i id
    split at h
    · rename_i kk es l ho
      cases hr with
      | m id h' =>
        obtain ⟨ms, h1, h2, h3⟩ := (hh.ob _ _ ho).row
        exact ⟨_, by simp [Builtin.len_, run_underlying hu, MapKept.run_getObj_map h1, Result.andThen, goInt, h2.1], h⟩
    · exact h.elim
  · cases hr with
    | mt kk' es' r ms him hm hrow hR => exact ⟨_, by simp [Builtin.len_, run_underlying hu, MapKept.run_getObj_map hm, Result.andThen, goInt, hrow.1], h⟩
  · exact ⟨0, by simp [Builtin.len_, run_underlying hu, hr.inv_v, goInt], h⟩
  · exact h.elim

/-- A new map. -/
def mkM (kk : KK) (S : Store) (K : AV → Store → Prop) : Prop := K (.m S.n) (S.new (.map kk [] true))
def makeM (P : Program) (t : TypeId) (r : Option Operand) (S : Store) (K : AV → Store → Prop) : Prop :=
  match P.underlying t, r with
  | some (.map kt _), none => match kkT P kt with
    | some kk => mkM kk S K
    | none => False
  | _, _ => False
theorem makeM_sound {P : Program} {o : Oper} {t : TypeId} {r : Option Operand} (ho : o.op = .makeMap t r) {env : Env} {S : Store} {K X : AV → Store → Prop} (h : makeM P t r S K) : OpS P o env S K X := by
  unfold makeM at h
  split at h
  case h_2 => exact h.elim
  rename_i kt e hu
  split at h
  case h_2 => exact h.elim
  rename_i kk hk
  intro w g a next Q hh hE hn hx
  obtain ⟨h1, h2⟩ := heap_newO hh (.map #[] 0) (cap := 0) (sz := 0) (ao := .map kk [] true) rfl ⟨#[], by rw [add_blk]; exact Go.heap_alloc_new w _, ⟨rfl, fun i e h => by simp at h⟩, fun i e h => by simp at h⟩
  refine wp_value (w' := w.alloc (.map #[] 0)) (y := .map (some w.heap.size)) ?_ (hn _ _ _ _ _ h1 h2 ?_ h)
  · simp [execOp, ho, Instr.makeMap, Result.andThen]
  · have := R.m (w := w.alloc (.map #[] 0)) (g := g.add w.heap.size 0 0) S.n (by rw [← hh.n]; exact Nat.lt_succ_self _)
    rwa [show (g.add w.heap.size 0 0).blk S.n = w.heap.size by rw [← hh.n]; simp] at this

/-- To put a value at a key. -/
def insM : List (Key × AV) → Key → AV → List (Key × AV)
  | [], k, v => [(k, v)]
  | e :: es, k, v => if e.1 = k then (e.1, v) :: es else e :: insM es k v
theorem insM_none : ∀ {es : List (Key × AV)} {k : Key} {v : AV}, kix es k = none → insM es k v = es ++ [(k, v)]
  | [], k, v, _ => rfl
  | e :: es, k, v, h => by
    simp only [kix, List.findIdx?_cons] at h
    split at h
    · cases h
    · rename_i hne
      have hne : ¬ e.1 = k := by simpa using hne
      have : kix es k = none := by simpa [kix] using h
      simp [insM, hne, insM_none this]
theorem insM_some : ∀ {es : List (Key × AV)} {k : Key} {v : AV} {i : Nat}, kix es k = some i → ∃ e, es[i]? = some e ∧ e.1 = k ∧ insM es k v = es.set i (e.1, v)
  | [], k, v, i, h => by simp [kix] at h
  | e :: es, k, v, i, h => by
    simp only [kix, List.findIdx?_cons] at h
    split at h
    · rename_i heq
      have heq : e.1 = k := by simpa using heq
      cases h
      exact ⟨e, rfl, heq, by simp [insM, heq]⟩
    · rename_i hne
      have hne : ¬ e.1 = k := by simpa using hne
      obtain ⟨j, hj, rfl⟩ := Option.map_eq_some_iff.1 h
      obtain ⟨e', h1, h2, h3⟩ := insM_some (es := es) (k := k) (v := v) hj
      exact ⟨e', by simpa using h1, h2, by simp [insM, hne, h3]⟩
def updM (kk : KK) (x k v : AV) (S : Store) (K : AV → Store → Prop) : Prop :=
  match x with
  | .m id => match S.obj id with
    | some (.map kk' es true) => kk' = kk ∧ optP (keyA kk k) fun key => K .j (S.upd id (.map kk (insM es key v) true))
    | _ => False
  | _ => False
def updateM (P : Program) (t : TypeId) (x k v : AV) (S : Store) (K : AV → Store → Prop) : Prop :=
  match P.underlying t with
  | some (.map kt _) => match kkT P kt with
    | some kk => updM kk x k v S K
    | none => False
  | _ => False
theorem sameBits_key {kk : KK} {key : Key} (h : key.fits kk = true) (n : Nat) : Instr.sameBits (n + 1) (key.val kk) (key.val kk) = true := by
  cases kk <;> cases key <;> simp [Key.fits] at h
  · simp [Key.val, Instr.sameBits]
  · simp [Key.val, Instr.sameBits]; exact (MapKept.bytes_beq _ _).2 rfl
  · cases n <;> simp [Key.val, Instr.sameBits]
theorem stays {P : Program} {w : World} {kk : KK} {key : Key} (h : key.fits kk = true) : (Instr.keyThatStays (key.val kk) (key.val kk)).run P w = .ok (key.val kk) w := by
  simp [Instr.keyThatStays, sameBits_key h 9999]
theorem mv_map {P : Program} {w : World} {g : Gh} {S : Store} (hh : Heap P w g S) {id : Nat} {o : AObj} (ho : S.obj id = some o) (hl : o.live = true) (o' : Obj) : Mv w g { w with heap := w.heap.setIfInBounds (g.blk id) o' } g :=
  ⟨rfl, rfl, rfl, by simp, fun b hb => by
    have hne : b ≠ g.blk id := fun e => (hh.ob _ _ ho).imY hl (e ▸ hb)
    simp [Array.getElem?_setIfInBounds, Ne.symm hne], fun _ h => h, Nat.le_refl _, fun _ _ => rfl, fun _ _ => rfl, fun _ _ => rfl⟩
theorem updateM_sound {P : Program} {o : Oper} {t : TypeId} {x k v : Operand} (ho : o.op = .mapUpdate t x k v ∨ o.op = .insert t x k v) {env : Env} {S : Store} {K X : AV → Store → Prop} (h : updateM P t (ev env x) (ev env k) (ev env v) S K) : OpS P o env S K X := by
  unfold updateM at h
  split at h
  case h_2 => exact h.elim
  rename_i kt e hu
  split at h
  case h_2 => exact h.elim
  rename_i kk hk
  unfold updM at h
  split at h
  case h_2 => exact h.elim
  rename_i id hx
  split at h
  case h_2 => exact h.elim
  rename_i kk' es hob
  obtain ⟨rfl, key, hkey, hK⟩ := h
  intro w g a next Q hh hE hn hx'
  have hrx := hE.ev x
  rw [hx] at hrx
  generalize hv : a.eval x = vx at hrx
  cases hrx with
  | m id hid =>
    obtain ⟨hkv, hkf⟩ := keyA_sound (hE.ev k) hkey
    obtain ⟨ms, hb, hrow, hR⟩ := (hh.ob _ _ hob).row
    have hf := run_find (w := w) hk hkf hrow
    have hblt := (hh.ob _ _ hob).blk
    cases hix : kix es key with
    | none =>
      rw [hix] at hf
      let ms' := ms.push { key := key.val kk', val := a.eval v, born := ms.size }
      have m := mv_map hh hob rfl (.map ms' (ms.size + 1))
      have hsz : ms'.size = ms.size + 1 := by simp [ms']
      refine wp_skip' (w' := { w with heap := w.heap.setIfInBounds (g.blk id) (.map ms' (ms.size + 1)) }) ?_ (hn .j _ _ g _ (heap_setO hh hob rfl rfl (o1 := .map kk' (insM es key (ev env v)) true) m (by simp) (fun b hb' => by simp [Array.getElem?_setIfInBounds, Ne.symm hb']) ?_) m (.j _) hK)
      · rcases ho with ho | ho <;> simp [execOp, ho, Instr.mapUpdate, run_underlying hu, hv, hkv, MapKept.run_getObj_map hb, run_check hk hkf, hf, MapKept.run_setObj_map _ hb, Result.andThen, ms']
      · have hl := hrow.1
        refine ⟨ms', by simp [hblt, hsz], ⟨by rw [insM_none hix, hsz]; simp [hl], fun i e' he' => ?_⟩, fun i e' he' => ?_⟩
        · rw [insM_none hix] at he'
          by_cases hi : i < es.length
          · rw [List.getElem?_append_left hi] at he'
            obtain ⟨h1, m0, h2, h3, h4⟩ := hrow.2 i e' he'
            exact ⟨h1, m0, by rw [Array.getElem?_push]; have : ¬ i = ms.size := by omega
                              simp [this, h2], h3, h4⟩
          · rw [List.getElem?_append_right (by omega)] at he'
            have : i = es.length := by
              have := (List.getElem?_eq_some_iff.1 he').1
              simp at this; omega
            subst this
            simp at he'
            subst he'
            exact ⟨hkf, ⟨key.val kk', a.eval v, ms.size⟩, by rw [← hl]; simp [ms'], rfl, hl⟩
        · rw [insM_none hix] at he'
          by_cases hi : i < es.length
          · rw [List.getElem?_append_left hi] at he'
            have hne : ¬ i = ms.size := by omega
            simp only [ms', Array.getElem?_push, hne, if_false]
            exact (hR i e' he').mv m
          · rw [List.getElem?_append_right (by omega)] at he'
            have : i = es.length := by
              have := (List.getElem?_eq_some_iff.1 he').1
              simp at this; omega
            subst this
            simp at he'
            subst he'
            simp only [ms', Array.getElem?_push, ← hl, if_true, Option.getD_some]
            exact (hE.ev v).mv m
    | some i =>
      rw [hix] at hf
      obtain ⟨e0, he0, hek, hins⟩ := insM_some (v := ev env v) hix
      obtain ⟨h1, m0, h2, h3, h4⟩ := hrow.2 i e0 he0
      have hi : i < ms.size := (Array.getElem?_eq_some_iff.1 h2).1
      let ms' := ms.modify i fun e => { e with key := key.val kk', val := a.eval v }
      have m := mv_map hh hob rfl (.map ms' ms.size)
      have hsz : ms'.size = ms.size := by simp [ms']
      have hold : (((ms[i]?).map (·.key)).getD (key.val kk')) = key.val kk' := by rw [h2]; simp [h3, hek]
      refine wp_skip' (w' := { w with heap := w.heap.setIfInBounds (g.blk id) (.map ms' ms.size) }) ?_ (hn .j _ _ g _ (heap_setO hh hob rfl rfl (o1 := .map kk' (insM es key (ev env v)) true) m (by simp) (fun b hb' => by simp [Array.getElem?_setIfInBounds, Ne.symm hb']) ?_) m (.j _) hK)
      · rcases ho with ho | ho <;> simp only [execOp, ho, Instr.mapUpdate, Sem.run_bind, run_underlying hu, hv, hkv, MapKept.run_getObj_map hb, run_check hk hkf, hf, hold, stays hkf, MapKept.run_setObj_map _ hb, Result.andThen_ok, Option.map_some] <;> rfl
      · have hget : ∀ j, ms'[j]? = (ms[j]?).map fun e => if i = j then { e with key := key.val kk', val := a.eval v } else e := by
          intro j
          simp only [ms', Array.getElem?_modify]
          by_cases e : i = j
          · simp [e]
          · simp [e]
        refine ⟨ms', by simp [hblt, hsz], ⟨by rw [hins, hsz]; simp [hrow.1], fun j e' he' => ?_⟩, fun j e' he' => ?_⟩
        · rw [hins, List.getElem?_set] at he'
          split at he'
          · rename_i e
            subst e
            split at he'
            · cases he'
              rw [hget, h2]
              exact ⟨h1, _, rfl, by simp [hek], by simp [h4]⟩
            · cases he'
          · rename_i e
            obtain ⟨h1', m1, h2', h3', h4'⟩ := hrow.2 j e' he'
            rw [hget, h2']
            exact ⟨h1', _, rfl, by simp [e, h3'], by simp [e, h4']⟩
        · rw [hins, List.getElem?_set] at he'
          rw [hget]
          split at he'
          · rename_i e
            subst e
            split at he'
            · cases he'
              rw [h2]
              simpa using (hE.ev v).mv m
            · cases he'
          · rename_i e
            obtain ⟨_, m1, h2', _⟩ := hrow.2 j e' he'
            have := (hR j e' he').mv m
            rw [h2'] at this ⊢
            simpa [e] using this

/-! ### Iterators -/
def rngM (x : AV) (S : Store) (K : AV → Store → Prop) : Prop :=
  match x with
  | .v (.string b) => K (.p S.n 0 0) (S.new (.sit b 0))
  | .m id => match S.obj id with
    | some (.map _ es _) => K (.p S.n 0 0) (S.new (.mit (.m id) es.length []))
    | _ => False
  | .mt kk es => K (.p S.n 0 0) (S.new (.mit (.mt kk es) es.length []))
  | _ => False
def rangeM (P : Program) (t : TypeId) (x : AV) (S : Store) (K : AV → Store → Prop) : Prop :=
  match P.underlying t, x with
  | some .string, .v (.string b) => rngM (.v (.string b)) S K
  | some (.map _ _), .m id => rngM (.m id) S K
  | some (.map _ _), .mt kk es => rngM (.mt kk es) S K
  | _, _ => False
theorem rel_new {w : World} {g : Gh} {S : Store} (hn : g.n = S.n) {o : Obj} : R (w.alloc o) (g.add w.heap.size 0 0) (.p S.n 0 0) (.pointer (some ⟨w.heap.size, 0, none⟩)) := by
  have := R.p (w := w.alloc o) (g := g.add w.heap.size 0 0) S.n 0 0 (by rw [← hn]; exact Nat.lt_succ_self _)
  rwa [show (g.add w.heap.size 0 0).blk S.n = w.heap.size by rw [← hn]; simp, Nat.zero_mul] at this
theorem rangeM_sound {P : Program} {o : Oper} {t : TypeId} {x : Operand} (ho : o.op = .range t x) {env : Env} {S : Store} {K X : AV → Store → Prop} (h : rangeM P t (ev env x) S K) : OpS P o env S K X := by
  unfold rangeM at h
  split at h
  · rename_i b hu hx
    intro w g a next Q hh hE hn hx'
    have hr := hE.ev x
    rw [hx] at hr
    obtain ⟨h1, h2⟩ := heap_newO hh (.stringIter b 0) (cap := 0) (sz := 0) (ao := .sit b 0) rfl (by show _ = _; rw [add_blk]; exact Go.heap_alloc_new w _)
    refine wp_value (w' := w.alloc (.stringIter b 0)) (y := .pointer (some ⟨w.heap.size, 0, none⟩)) ?_ (hn _ _ _ _ _ h1 h2 (rel_new hh.n) h)
    simp [execOp, ho, Instr.range, run_underlying hu, hr.inv_v, Result.andThen]
  · rename_i kt e id hu hx
    unfold rngM at h
    dsimp only at h
    split at h
    case h_2 => exact h.elim
    rename_i kk es l hob
    intro w g a next Q hh hE hn hx'
    have hr := hE.ev x
    rw [hx] at hr
    generalize hv : a.eval x = vx at hr
    cases hr with
    | m id hid =>
      obtain ⟨ms, hb, hrow, hR⟩ := (hh.ob _ _ hob).row
      have hm := mv_add w.heap.size 0 0 (mv_alloc hh (.mapIter (some (g.blk id)) es.length #[] es.length))
      obtain ⟨h1, h2⟩ := heap_newO hh (.mapIter (some (g.blk id)) es.length #[] es.length) (cap := 0) (sz := 0) (ao := .mit (.m id) es.length []) rfl ⟨g.blk id, by rw [add_blk]; exact Go.heap_alloc_new w _, (R.m id hid).mv hm⟩
      refine wp_value (w' := w.alloc (.mapIter (some (g.blk id)) es.length #[] es.length)) (y := .pointer (some ⟨w.heap.size, 0, none⟩)) ?_ (hn _ _ _ _ _ h1 h2 (rel_new hh.n) h)
      simp [execOp, ho, Instr.range, run_underlying hu, hv, MapKept.run_getObj_map hb, Result.andThen, hrow.1]
  · rename_i kt e kk es hu hx
    intro w g a next Q hh hE hn hx'
    have hr := hE.ev x
    rw [hx] at hr
    generalize hv : a.eval x = vx at hr
    have hr0 := hr
    cases hr with
    | mt kk es r ms him hm hrow hR =>
      have hmv := mv_add w.heap.size 0 0 (mv_alloc hh (.mapIter (some r) es.length #[] es.length))
      obtain ⟨h1, h2⟩ := heap_newO hh (.mapIter (some r) es.length #[] es.length) (cap := 0) (sz := 0) (ao := .mit (.mt kk es) es.length []) rfl ⟨r, by rw [add_blk]; exact Go.heap_alloc_new w _, hr0.mv hmv⟩
      refine wp_value (w' := w.alloc (.mapIter (some r) es.length #[] es.length)) (y := .pointer (some ⟨w.heap.size, 0, none⟩)) ?_ (hn _ _ _ _ _ h1 h2 (rel_new hh.n) h)
      simp [execOp, ho, Instr.range, run_underlying hu, hv, MapKept.run_getObj_map hm, Result.andThen, hrow.1]
  · exact h.elim

def _root_.Go.Ab.KK.av : KK → Key → AV
  | .i k, .i n => .v (.int k n)
  | .s, .s b => .v (.string ⟨b.toArray⟩)
  | .p k, .p x y => .a [.v (.int k x), .v (.int k y)]
  | _, _ => .j
theorem R_key {w : World} {g : Gh} {kk : KK} {key : Key} : R w g (kk.av key) (key.val kk) := by
  cases kk <;> cases key <;> first | exact .v _ | exact .j _ | skip
  refine .a _ _ rfl (fun k u hu => ?_) (fun k u hu => ?_)
  · match k, hu with
    | 0, hu => cases hu; rfl
    | 1, hu => cases hu; rfl
    | k + 2, hu => simp at hu
  · match k, hu with
    | 0, hu => cases hu; exact .v _
    | 1, hu => cases hu; exact .v _
    | k + 2, hu => simp at hu
def mapKK (S : Store) : AV → Option (KK × List (Key × AV))
  | .m id => match S.obj id with
    | some (.map kk es _) => some (kk, es)
    | _ => none
  | .mt kk es => some (kk, es)
  | _ => none
def over : AV := .t [.v (.bool false)]
def nextM (str : Bool) (x : AV) (S : Store) (K : AV → Store → Prop) : Prop :=
  match x with
  | .p id 0 0 => match S.obj id, str with
    | some (.sit s pos), true => gdP (pos < s.size) (K (.t [.v (.bool true), .v (.int .i64 pos), .v (.int .i32 (Utf8.decode s pos).1)]) (S.upd id (.sit s (pos + (Utf8.decode s pos).2)))) (K over S)
    | some (.mit m n seen), false => optP (mapKK S m) fun (kk, es) => es.length = n ∧ (∀ (i : Nat) (e : Key × AV), es[i]? = some e → i ∉ seen → K (.t [.v (.bool true), kk.av e.1, e.2]) (S.upd id (.mit m n (seen ++ [i])))) ∧
        ((∀ i, i < n → i ∈ seen) → K over S)
    | _, _ => False
  | _ => False
where gdP (c : Prop) (A B : Prop) : Prop := (c → A) ∧ (¬ c → B)
theorem run_getObj {P : Program} {w : World} {r : Nat} {o : Obj} (h : w.heap[r]? = some o) (hp : ∀ c e f, o ≠ .cells c e f) : (getObj r).run P w = .ok o w := by
  cases o <;> first | (exact absurd rfl (hp _ _ _)) | simp [getObj, Sem.run, h]
theorem run_setObj {P : Program} {w : World} {r : Nat} {o : Obj} (o' : Obj) (h : w.heap[r]? = some o) (hp : ∀ c e f, o ≠ .cells c e f) : (setObj r o').run P w = .ok () { w with heap := w.heap.setIfInBounds r o' } := by
  cases o <;> first | (exact absurd rfl (hp _ _ _)) | simp [setObj, Sem.run, h]
theorem mapKK_sound {P : Program} {w : World} {g : Gh} {S : Store} (hh : Heap P w g S) {x : AV} {r : Nat} (hr : R w g x (.map (some r))) {kk : KK} {es : List (Key × AV)} (h : mapKK S x = some (kk, es)) :
    ∃ ms, w.heap[r]? = some (.map ms ms.size) ∧ MapRow kk es ms ∧ ∀ (i : Nat) (e : Key × AV), es[i]? = some e → R w g e.2 (ms[i]?.getD default).val := by
  unfold mapKK at h
  split at h
  · split at h
    · rename_i kk' es' l ho
      cases h
      cases hr with
      | m id hid => exact (hh.ob _ _ ho).row
    · cases h
  · cases h
    cases hr with
    | mt kk es r ms him hm hrow hR => exact ⟨ms, hm, hrow, hR⟩
  · cases h
theorem nextM_sound {P : Program} {o : Oper} {str : Bool} {x : Operand} (ho : o.op = .next x str) {env : Env} {S : Store} {K X : AV → Store → Prop} (h : nextM str (ev env x) S K) : OpS P o env S K X := by
  unfold nextM at h
  split at h
  case h_2 => exact h.elim
  rename_i id hx
  split at h
  · rename_i s pos hob
    intro w g a next Q hh hE hn hx'
    have hr := hE.ev x
    rw [hx] at hr
    obtain ⟨hlt, hv⟩ := hr.inv_p
    rw [Nat.zero_mul] at hv
    have hob' := hh.ob _ _ hob
    have hb : w.heap[g.blk id]? = some (.stringIter s pos) := hob'.row
    have hblt := hob'.blk
    by_cases hp : pos < s.size
    · have m := mv_map hh hob rfl (.stringIter s (pos + (Utf8.decode s pos).2))
      refine wp_value (w' := { w with heap := w.heap.setIfInBounds (g.blk id) (.stringIter s (pos + (Utf8.decode s pos).2)) }) (y := .tuple #[.bool true, .int .i64 pos, .int .i32 (Utf8.decode s pos).1]) ?_
        (hn _ _ _ g _ (heap_setO hh hob rfl rfl (o1 := .sit s (pos + (Utf8.decode s pos).2)) m (by simp) (fun b hb' => by simp [Array.getElem?_setIfInBounds, Ne.symm hb']) (by show _ = _; simp [hblt])) m ?_ (h.1 hp))
      · simp [execOp, ho, Instr.next, hv, run_getObj hb (fun _ _ _ => by simp), run_setObj _ hb (fun _ _ _ => by simp), hp, Result.andThen, goInt]
      · refine .t _ _ rfl fun i u hu => ?_
        match i, hu with
        | 0, hu => cases hu; exact .v _
        | 1, hu => cases hu; exact .v _
        | 2, hu => cases hu; exact .v _
        | i + 3, hu => simp at hu
    · refine wp_value (w' := w) (y := .tuple #[.bool false]) ?_ (hn _ _ _ g _ hh (Mv.refl _ _) ?_ (h.2 hp))
      · simp [execOp, ho, Instr.next, hv, run_getObj hb (fun _ _ _ => by simp), hp, Result.andThen]
      · refine .t _ _ rfl fun i u hu => ?_
        match i, hu with
        | 0, hu => cases hu; exact .v _
        | i + 1, hu => simp at hu
  · rename_i m n seen hob
    obtain ⟨⟨kk, es⟩, hes, hlen, hK, hO⟩ := h
    intro w g a next Q hh hE hn hx'
    have hr := hE.ev x
    rw [hx] at hr
    obtain ⟨hlt, hv⟩ := hr.inv_p
    rw [Nat.zero_mul] at hv
    have hob' := hh.ob _ _ hob
    obtain ⟨r, hb, hrm⟩ := hob'.row
    obtain ⟨ms, hmb, hrow, hR⟩ := mapKK_sound hh hrm hes
    have hblt := hob'.blk
    have hms : ms.size = n := hrow.1.trans hlen
    have hborn : ∀ (i : Nat) (mm : MapEntry), ms[i]? = some mm → i < es.length ∧ mm.born = i := fun i mm hm => by
      have hi : i < es.length := by have := (Array.getElem?_eq_some_iff.1 hm).1; omega
      obtain ⟨_, m0, h2, _, h4⟩ := hrow.2 i _ (List.getElem?_eq_getElem hi)
      rw [hm] at h2
      cases h2
      exact ⟨hi, h4⟩
    rcases run_next_at (P := P) w o.type (g.blk id) r n n seen.toArray ms ms.size hb hmb (fun x hx => by
        obtain ⟨i, hi⟩ := List.getElem?_of_mem hx
        obtain ⟨h1, h2⟩ := hborn i x (by simpa using hi)
        omega) (Nat.le_refl _) with ⟨h0, hrun⟩ | ⟨e, he, w1, hw1, hrun⟩
    · refine wp_value (w' := w) (y := .tuple #[.bool false]) ?_ (hn _ _ _ g _ hh (Mv.refl _ _) ?_ (hO fun i hi => ?_))
      · simp only [execOp, ho, hv, Sem.run_bind, hrun, Result.andThen_ok, Sem.run_pure]
      · refine .t _ _ rfl fun i u hu => ?_
        match i, hu with
        | 0, hu => cases hu; exact .v _
        | i + 1, hu => simp at hu
      · have hi' : i < ms.size := by omega
        have hb1 := (hborn i ms[i] (Array.getElem?_eq_getElem hi')).2
        rcases Nat.lt_or_ge 0 0 with h | _
        · omega
        · have hemp : leftOf ms seen.toArray = #[] := Array.eq_empty_of_size_eq_zero h0
          unfold leftOf at hemp
          rw [Array.filter_eq_empty_iff] at hemp
          have := hemp ms[i] (Array.getElem_mem hi')
          simpa [hb1] using this
    · unfold leftOf at he
      simp only [Array.toList_filter, List.mem_filter] at he
      obtain ⟨hem, hns⟩ := he
      obtain ⟨i, hi⟩ := List.getElem?_of_mem hem
      have hi : ms[i]? = some e := by simpa using hi
      obtain ⟨hil, hbi⟩ := hborn i e hi
      have hes' := List.getElem?_eq_getElem hil
      obtain ⟨hfit, m0, h2, h3, h4⟩ := hrow.2 i _ hes'
      rw [hi] at h2
      cases h2
      have hval := hR i _ hes'
      rw [hi] at hval
      simp only [Option.getD_some] at hval
      have hnot : i ∉ seen := by simpa [hbi] using hns
      have hh1 : Heap P w1 g S ∧ Mv w g w1 g ∧ w1.heap = w.heap := by
        rcases hw1 with rfl | rfl
        · exact ⟨hh, Mv.refl _ _, rfl⟩
        · exact ⟨hh.drew, mv_drew _ _, rfl⟩
      obtain ⟨hh1, mv1, heq⟩ := hh1
      have mm := mv_map hh1 hob rfl (.mapIter (some r) n (seen.toArray.push e.born) ms.size)
      refine wp_value (w' := { w1 with heap := w1.heap.setIfInBounds (g.blk id) (.mapIter (some r) n (seen.toArray.push e.born) ms.size) }) (y := .tuple #[.bool true, e.key, e.val]) ?_
        (hn _ _ _ g _ (heap_setO hh1 hob rfl rfl (o1 := .mit m n (seen ++ [i])) mm (by simp) (fun b hb' => by simp [Array.getElem?_setIfInBounds, Ne.symm hb']) ⟨r, by simp [heq, hblt, hms, hbi], (hrm.mv mv1).mv mm⟩) (mv1.trans mm) ?_ (hK i _ hes' hnot))
      · simp only [execOp, ho, hv, Sem.run_bind, hrun, Result.andThen_ok, Sem.run_pure, ChangeMaps.setBlock]
      · refine .t _ _ rfl fun j u hu => ?_
        match j, hu with
        | 0, hu => cases hu; exact .v _
        | 1, hu => cases hu; simp only [h3]; exact R_key
        | 2, hu => cases hu; exact (hval.mv mv1).mv mm
        | j + 3, hu => simp at hu
  · exact h.elim
/-- The entry that an iterator stands at. -/
def entryM (x : AV) (S : Store) (K : AV → Store → Prop) : Prop :=
  match x with
  | .p id 0 0 => match S.obj id with
    | some (.mit m n seen) => optP (mapKK S m) fun (kk, es) => es.length = n ∧ optP seen.getLast? fun i => optP es[i]? fun e => K (.t [kk.av e.1, e.2]) S
    | _ => False
  | _ => False
theorem entryM_sound {P : Program} {o : Oper} {x : Operand} (ho : o.op = .entry x) {env : Env} {S : Store} {K X : AV → Store → Prop} (h : entryM (ev env x) S K) : OpS P o env S K X := by
  unfold entryM at h
  split at h
  case h_2 => exact h.elim
  rename_i id hx
  split at h
  case h_2 => exact h.elim
  rename_i m n seen hob
  obtain ⟨⟨kk, es⟩, hes, hlen, i, hi, e, he, hK⟩ := h
  refine opS_pure hK fun w g a hh hE => ?_
  have hr := hE.ev x
  rw [hx] at hr
  obtain ⟨hlt, hv⟩ := hr.inv_p
  rw [Nat.zero_mul] at hv
  obtain ⟨r, hb, hrm⟩ := (hh.ob _ _ hob).row
  obtain ⟨ms, hmb, hrow, hR⟩ := mapKK_sound hh hrm hes
  have hms : ms.size = n := hrow.1.trans hlen
  obtain ⟨hfit, m0, h2, h3, h4⟩ := hrow.2 i e he
  have hval := hR i e he
  rw [h2] at hval
  have hfind : ms.find? (fun y => y.born == i) = some m0 := by
    have hil := (Array.getElem?_eq_some_iff.1 h2).1
    rw [← Array.find?_toList, List.find?_eq_some_iff_getElem]
    refine ⟨by simp [h4], i, by simpa using hil, by simpa using (Array.getElem?_eq_some_iff.1 h2).2, fun j hj => ?_⟩
    have hjl : j < es.length := by have := (List.getElem?_eq_some_iff.1 he).1; omega
    obtain ⟨_, m1, k2, _, k4⟩ := hrow.2 j _ (List.getElem?_eq_getElem hjl)
    have : ms[j]'(by omega) = m1 := (Array.getElem?_eq_some_iff.1 k2).2
    simp [this, k4]; omega
  refine ⟨.tuple #[m0.key, m0.val], ?_, ?_⟩
  · simp [execOp, ho, Instr.entry, hv, run_getObj hb (fun _ _ _ => by simp), run_getObj hmb (fun _ _ _ => by simp), Result.andThen, hi, hms, hfind]
  · refine .t _ _ rfl fun j u hu => ?_
    match j, hu with
    | 0, hu => cases hu; simp only [h3]; exact R_key
    | 1, hu => cases hu; exact hval
    | j + 2, hu => simp at hu
end Go.Ab

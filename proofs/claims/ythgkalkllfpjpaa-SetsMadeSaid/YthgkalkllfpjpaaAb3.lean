/- It is proved here that each of the laws of sets (SetsMade, SetsFix, SetsMore, SetsFair) returns true for every input and changes none of its arguments. There is no condition beyond the given statement. -/
import Derived.Test.YthgkalkllfpjpaaAbM
import Derived.WalkMore
set_option linter.unusedVariables false
set_option linter.unusedSimpArgs false
namespace Go.Ab
open Go Go.RowKit

/-! ### Calls -/
inductive AEnd where
  | ret (r : AV)
  | pan (x : AV)

def ER (w : World) (g : Gh) : AEnd → Ending → Prop
  | .ret r, .returned v => R w g r v
  | .pan x, .panicked chain => ∃ y, chain = [{ v := y, recovered := false }] ∧ R w g x y
  | _, _ => False

def Args (w : World) (g : Gh) (args : List AV) (vs : Array Value) : Prop := args.length = vs.size ∧ ∀ (k : Nat) (u : AV), args[k]? = some u → R w g u (vs.getD k undef)

def ACalls (P : Program) (f : FuncId) (args : List AV) (S : Store) (Q : AEnd → Store → Prop) : Prop :=
  (∀ (vs : Array Value) (w : World), (callFunc f vs).run P w = .ok (.enter f vs) w) ∧
  ∀ (w : World) (g : Gh) (vs : Array Value), Heap P w g S → Args w g args vs → Calls P f vs w (fun e w' => ∃ r S' g', Heap P w' g' S' ∧ Mv w g w' g' ∧ ER w' g' r e ∧ Q r S')

theorem ACalls.mono {P : Program} {f : FuncId} {args : List AV} {S : Store} {Q Q' : AEnd → Store → Prop} (h : ACalls P f args S Q) (hq : ∀ e S', Q e S' → Q' e S') : ACalls P f args S Q' :=
  ⟨h.1, fun w g vs hh ha => (h.2 w g vs hh ha).mono fun e w' ⟨r, S', g', h1, h2, h3, h4⟩ => ⟨r, S', g', h1, h2, h3, hq _ _ h4⟩⟩

/-- A function without a text. -/
def AExt (P : Program) (f : FuncId) (args : List AV) (S : Store) (Q : AEnd → Store → Prop) : Prop :=
  ∀ (w : World) (g : Gh) (vs : Array Value), Heap P w g S → Args w g args vs → ∃ v w' r S' g', (callFunc f vs).run P w = .ok (.value v) w' ∧ Heap P w' g' S' ∧ Mv w g w' g' ∧ R w' g' r v ∧ Q (.ret r) S'
def ACallX (P : Program) (f : FuncId) (args : List AV) (S : Store) (Q : AEnd → Store → Prop) : Prop := ACalls P f args S Q ∨ AExt P f args S Q

def callV (P : Program) (fv : AV) (args : List AV) (S : Store) (K X : AV → Store → Prop) : Prop :=
  match fv with
  | .f (.func f) fs cs => ACallX P f (fs ++ args ++ cs) S (fun e S' => match e with | .ret r => K r S' | .pan x => X x S')
  | _ => False

def callF (P : Program) (f : FuncId) (args : List AV) (S : Store) (Q : AEnd → Store → Prop) (K : AV → Store → Prop) : Prop :=
  ACallX P f args S (fun e S' => match e with | .ret r => K r S' | .pan x => Q (.pan x) S')
theorem args_append {w : World} {g : Gh} {xs ys : List AV} {vs ws : Array Value} (h : Args w g xs vs) (k : Args w g ys ws) : Args w g (xs ++ ys) (vs ++ ws) := by
  refine ⟨by simp [h.1, k.1], fun q u hu => ?_⟩
  simp only [Array.getD_eq_getD_getElem?, Array.getElem?_append]
  by_cases hq : q < xs.length
  · rw [List.getElem?_append_left hq] at hu
    rw [if_pos (by rw [← h.1]; exact hq)]
    have := h.2 _ _ hu
    simpa [Array.getD_eq_getD_getElem?] using this
  · rw [List.getElem?_append_right (by omega)] at hu
    rw [if_neg (by rw [← h.1]; exact hq), ← h.1]
    have := k.2 _ _ hu
    simpa [Array.getD_eq_getD_getElem?] using this

theorem callV_sound {P : Program} {o : Oper} {f : Operand} {args : Array Operand} {ts : Array TypeId} (ho : o.op = .call { callee := .value f, args := args, argTypes := ts }) {env : Env} {S : Store} {K X : AV → Store → Prop}
    (h : callV P (ev env f) (args.toList.map (ev env)) S K X) : OpS P o env S K X := by
  unfold callV at h
  split at h
  · rename_i fid fs cs hf
    intro w g a next Q hh he hnx hx
    have hrf := he.ev f
    rw [hf] at hrf
    generalize hv : a.eval f = v at hrf
    cases hrf with
    | f fn fs0 cs0 fs' cs' hl1 hl2 hF hC =>
      have ha : Args w g (fs ++ args.toList.map (ev env) ++ cs) ((fs' ++ args.map a.eval) ++ cs') :=
        args_append (args_append ⟨hl1, hF⟩ (rel_map he args)) ⟨hl2, hC⟩
      rcases h with h | h
      case inr =>
        obtain ⟨v1, w', r, S', g', h0, h1, h2, h3, h4⟩ := h w g _ hh ha
        refine wp_value (w' := w') (y := v1) ?_ (hnx r S' w' g' v1 h1 h2 h3 h4)
        simp only [execOp, ho, resolve, hv, Deferred.ofValue, Sem.run_bind, Sem.run_pure, Result.andThen_ok, invoke, h0]
      have hrun : (execOp a.eval o).run P w = .ok (.enter fid ((fs' ++ args.map a.eval) ++ cs')) w := by
        simp only [execOp, ho, resolve, hv, Deferred.ofValue, Sem.run_bind, Sem.run_pure, Result.andThen_ok, invoke, h.1]
      unfold Oper.wp
      rw [hrun, Oper.upon_enter]
      refine (h.2 w g _ hh ha).mono ?_
      rintro e w' ⟨r, S', g', h1, h2, h3, h4⟩
      cases r with
      | ret r =>
        cases e with
        | returned v => exact hnx r S' w' g' v h1 h2 h3 h4
        | panicked chain => exact h3.elim
        | outgrown => exact h3.elim
      | pan x =>
        cases e with
        | returned v => exact h3.elim
        | panicked chain =>
          obtain ⟨y, rfl, hr⟩ := h3
          exact hx x S' w' g' y h1 h2 hr h4
        | outgrown => exact h3.elim
  · exact h.elim

theorem app_sound {P : Program} {o : Oper} {x y : Operand} {ts : Array TypeId} (ho : o.op = .call { callee := .builtin .append, args := #[x, y], argTypes := ts }) {env : Env} {S : Store} {K X : AV → Store → Prop}
    (h : app P ts (ev env x) (ev env y) S K) : OpS P o env S K X := by
  unfold app at h
  split at h
  case h_2 => exact h.elim
  rename_i t t' hts
  split at h
  case h_2 => exact h.elim
  rename_i e he0
  split at h
  case h_2 => exact h.elim
  rename_i sz b z hsz hb hz
  split at h
  case h_2 => exact h.elim
  rename_i hq
  simp only [Bool.and_eq_true, decide_eq_true_eq] at hq
  obtain ⟨rfl, hb0, hzs⟩ := hq
  intro w g a next Q hh he hnx hx
  obtain ⟨w', g', S', v, u, hrun, h1, h2, h3, h4⟩ := run_app hh (ty := o.type) he0 hsz hb hz hb0 hzs (he.ev x) (he.ev y) h
  refine wp_value ?_ (hnx u S' w' g' v h1 h2 h3 h4)
  have hts' : ts = #[t, t] := by
    apply Array.ext'
    exact hts
  subst hts'
  simp [execOp, ho, resolve, invoke, builtin, hrun]

theorem len_sound {P : Program} {o : Oper} {x : Operand} {t : TypeId} (ho : o.op = .call { callee := .builtin .len, args := #[x], argTypes := #[t] }) {env : Env} {S : Store} {K X : AV → Store → Prop}
    (h : len P t (ev env x) S K) : OpS P o env S K X := by
  intro w g a next Q hh he hnx hx
  obtain ⟨n, hrun, hK⟩ := run_len (he.ev x) h o.type
  refine wp_value (w' := w) ?_ (hnx _ S w g _ hh (Mv.refl _ _) (.v _) hK)
  simp [execOp, ho, resolve, invoke, builtin, hrun]

/-- Of maps, too. -/
def lenG (P : Program) (t : TypeId) (x : AV) (S : Store) (K : AV → Store → Prop) : Prop :=
  match P.underlying t with
  | some (.map _ _) => lenM x S K
  | _ => len P t x S K
theorem lenG_sound {P : Program} {o : Oper} {x : Operand} {t : TypeId} (ho : o.op = .call { callee := .builtin .len, args := #[x], argTypes := #[t] }) {env : Env} {S : Store} {K X : AV → Store → Prop}
    (h : lenG P t (ev env x) S K) : OpS P o env S K X := by
  unfold lenG at h
  split at h
  · rename_i kt e hu
    intro w g a next Q hh he hnx hx
    obtain ⟨n, hrun, hK⟩ := run_lenM hh hu (he.ev x) h o.type
    refine wp_value (w' := w) ?_ (hnx _ S w g _ hh (Mv.refl _ _) (.v _) hK)
    simp [execOp, ho, resolve, invoke, builtin, hrun]
  · exact len_sound ho h
/-- The greater, the lesser, of two numbers. -/
def mxI (mx : Bool) (x y : AV) (S : Store) (K : AV → Store → Prop) : Prop :=
  match x, y with
  | .v (.int k a), .v (.int _ b) => match mx with
    | true => K (.v (.int k (if b > a then b else a))) S
    | false => K (.v (.int k (if b < a then b else a))) S
  | _, _ => False
theorem mxI_sound {P : Program} {o : Oper} {x y : Operand} {ts : Array TypeId} {mx : Bool} (ho : o.op = .call { callee := .builtin (if mx then .max else .min), args := #[x, y], argTypes := ts }) {env : Env} {S : Store} {K X : AV → Store → Prop}
    (h : mxI mx (ev env x) (ev env y) S K) : OpS P o env S K X := by
  unfold mxI at h
  split at h
  · rename_i k a k' b hx hy
    intro w g ac next Q hh he hnx hxx
    have h1 := he.ev x
    have h2 := he.ev y
    rw [hx] at h1
    rw [hy] at h2
    have e1 := h1.inv_v
    have e2 := h2.inv_v
    cases mx with
    | true =>
      refine wp_value (w' := w) (y := .int k (if b > a then b else a)) ?_ (hnx _ S w g _ hh (Mv.refl _ _) (.v _) h)
      simp [execOp, ho, resolve, invoke, builtin, Builtin.max_, Builtin.max2, e1, e2]
    | false =>
      refine wp_value (w' := w) (y := .int k (if b < a then b else a)) ?_ (hnx _ S w g _ hh (Mv.refl _ _) (.v _) h)
      simp [execOp, ho, resolve, invoke, builtin, Builtin.min_, Builtin.min2, e1, e2]
  · exact h.elim

/-! ### Conversions; nil checks -/
def convI (k : IntKind) (x : AV) (S : Store) (K : AV → Store → Prop) : Prop :=
  match x with
  | .v (.int _ n) => K (.v (.int k (k.wrap n))) S
  | _ => False
def convS (x : AV) (S : Store) (K : AV → Store → Prop) : Prop :=
  match x with
  | .v (.string b) => K (.v (.string b)) S
  | _ => False
def conv (P : Program) (src dst : TypeId) (x : AV) (S : Store) (K : AV → Store → Prop) : Prop :=
  match P.underlying src, P.underlying dst with
  | some _, some (.int k) => convI k x S K
  | some _, some .string => convS x S K
  | _, _ => False
theorem conv_sound {P : Program} {o : Oper} {src dst : TypeId} {x : Operand} (ho : o.op = .convert src dst x) {env : Env} {S : Store} {K X : AV → Store → Prop} (h : conv P src dst (ev env x) S K) : OpS P o env S K X := by
  unfold conv at h
  split at h
  · rename_i d k hs hd
    unfold convI at h
    split at h
    · rename_i k' n hX
      refine opS_pure h fun w g a hh he => ⟨_, ?_, .v _⟩
      have h1 := he.ev x
      rw [hX] at h1
      simp [execOp, ho, h1.inv_v, convert, run_underlying hs, run_underlying hd, Conv.intToInt]
    · exact h.elim
  · rename_i d hs hd
    unfold convS at h
    split at h
    · rename_i b hX
      refine opS_pure h fun w g a hh he => ⟨_, ?_, .v _⟩
      have h1 := he.ev x
      rw [hX] at h1
      simp [execOp, ho, h1.inv_v, convert, run_underlying hs, run_underlying hd]
    · exact h.elim
  · exact h.elim
def nilChk (x : AV) (S : Store) (K : AV → Store → Prop) : Prop :=
  match x with
  | .p _ _ _ | .q _ _ | .f (.func _) _ _ => K x S
  | _ => False
theorem nilChk_sound {P : Program} {o : Oper} {x : Operand} (ho : o.op = .nilCheck x) {env : Env} {S : Store} {K X : AV → Store → Prop} (h : nilChk (ev env x) S K) : OpS P o env S K X := by
  unfold nilChk at h
  split at h
  · rename_i hX
    refine opS_pure h fun w g a hh he => ⟨a.eval x, ?_, he.ev x⟩
    have h1 := he.ev x
    rw [hX] at h1
    simp [execOp, ho, h1.inv_p.2]
  · rename_i hX
    refine opS_pure h fun w g a hh he => ⟨a.eval x, ?_, he.ev x⟩
    have h1 := he.ev x
    rw [hX] at h1
    generalize hv : a.eval x = v at h1
    cases h1 with
    | q c j ad vs him hm h2 hR => simp [execOp, ho, hv]
  · rename_i hX
    refine opS_pure h fun w g a hh he => ⟨a.eval x, ?_, he.ev x⟩
    have h1 := he.ev x
    rw [hX] at h1
    generalize hv : a.eval x = v at h1
    cases h1 with
    | f fn fs cs fs' cs' hf hc hF hC => simp [execOp, ho, hv]
  · exact h.elim

/-! ### One operation -/
def callB (P : Program) (b : Builtin) (xs : List AV) (ts : Array TypeId) (S : Store) (K : AV → Store → Prop) : Prop :=
  match b, xs, ts.toList with
  | .len, [x], [t] => lenG P t x S K
  | .max, [x, y], _ => mxI true x y S K
  | .min, [x, y], _ => mxI false x y S K
  | .append, [x, y], [_, _] => app P ts x y S K
  | _, _, _ => False

def vcOp (P : Program) (op : Op) (env : Env) (S : Store) (K X : AV → Store → Prop) : Prop :=
  match op with
  | .move x | .assign x => K (ev env x) S
  | .pick c x y => pick (ev env c) (ev env x) (ev env y) S K
  | .alloc t => alloc P t S K
  | .box t x => box P t (ev env x) S K
  | .build t parts => build P t (parts.toList.map fun (i, x) => (i, ev env x)) S K
  | .buildSlice t n parts => bsl P t n (parts.toList.map fun (i, x) => (i, ev env x)) S K
  | .load t x => ld P t (ev env x) S K
  | .store t x y => st P t (ev env x) (ev env y) S K
  | .binOp op t x y _ => match nilFits (kdT P t) y with | true => nilV op (kdT P t) (ev env x) S K | false => bin op (kdT P t) (ev env x) (ev env y) S K
  | .unOp op _ x => un op (ev env x) S K
  | .makeFunc fn fs cs => mkFunc fn (fs.toList.map (ev env)) (cs.toList.map (ev env)) S K
  | .makeSlice t l c => makeS P t (ev env l) (ev env c) S K
  | .slice t x lo hi mx => slice P t (ev env x) (lo.map (ev env)) (hi.map (ev env)) (mx.map (ev env)) S K
  | .fieldAddr s x f => fieldAddr P s (ev env x) f S K
  | .field s x f => field P s (ev env x) f S K
  | .indexAddr t x i => indexAddr P t (ev env x) (ev env i) S K
  | .index t x i => index P t (ev env x) (ev env i) S K
  | .extract x i => extr (ev env x) i S K
  | .convert s d x => conv P s d (ev env x) S K
  | .nilCheck x => nilChk (ev env x) S K
  | .lookup t x k c => lookupM P t (ev env x) (ev env k) c S K
  | .mapUpdate t m k v => updateM P t (ev env m) (ev env k) (ev env v) S K
  | .insert t m k v => updateM P t (ev env m) (ev env k) (ev env v) S K
  | .makeMap t r => makeM P t r S K
  | .range t x => rangeM P t (ev env x) S K
  | .next x str => nextM str (ev env x) S K
  | .entry x => entryM (ev env x) S K
  | .call c => match c.callee with
    | .value f => callV P (ev env f) (c.args.toList.map (ev env)) S K X
    | .builtin b => callB P b (c.args.toList.map (ev env)) c.argTypes S K
    | _ => False
  | _ => False

theorem list_two {α β : Type} {f : α → β} {a : Array α} {x y : β} (h : a.toList.map f = [x, y]) : ∃ p q, a = #[p, q] ∧ f p = x ∧ f q = y := by
  obtain ⟨l⟩ := a
  simp only at h
  match l, h with
  | [p, q], h => exact ⟨p, q, rfl, by simpa using h⟩
theorem list_one {α β : Type} {f : α → β} {a : Array α} {x : β} (h : a.toList.map f = [x]) : ∃ p, a = #[p] ∧ f p = x := by
  obtain ⟨l⟩ := a
  simp only at h
  match l, h with
  | [p], h => exact ⟨p, rfl, by simpa using h⟩

theorem vcOp_sound {P : Program} {o : Oper} {env : Env} {S : Store} {K X : AV → Store → Prop} (h : vcOp P o.op env S K X) : OpS P o env S K X := by
  generalize hop : o.op = op at h
  unfold vcOp at h
  split at h
  · exact move_sound (.inl hop) h
  · exact move_sound (.inr hop) h
  · exact pick_sound hop h
  · exact alloc_sound hop h
  · exact box_sound hop h
  · exact build_sound hop h
  · exact bsl_sound hop h
  · exact ld_sound hop h
  · exact st_sound hop h
  · split at h
    · rename_i hf
      exact nil_sound hop hf h
    · exact bin_sound hop h
  · exact un_sound hop h
  · exact mkFunc_sound hop h
  · exact makeS_sound hop h
  · exact slice_sound hop h
  · exact fieldAddr_sound hop h
  · exact field_sound hop h
  · exact indexAddr_sound hop h
  · exact index_sound hop h
  · exact extr_sound hop h
  · exact conv_sound hop h
  · exact nilChk_sound hop h
  · exact lookup_sound hop h
  · exact updateM_sound (.inl hop) h
  · exact updateM_sound (.inr hop) h
  · exact makeM_sound hop h
  · exact rangeM_sound hop h
  · exact nextM_sound hop h
  · exact entryM_sound hop h
  · rename_i c
    split at h
    · rename_i f hc
      exact callV_sound (f := f) (args := c.args) (ts := c.argTypes) (by rw [hop, ← hc]) h
    · rename_i b hc
      unfold callB at h
      split at h
      · rename_i x t hx ht
        obtain ⟨p, hp, rfl⟩ := list_one hx
        have ht' : c.argTypes = #[t] := Array.ext' ht
        exact lenG_sound (x := p) (t := t) (by rw [hop, ← hp, ← ht', ← hc]) h
      · rename_i x y ts hx
        obtain ⟨p, q, hp, rfl, rfl⟩ := list_two hx
        exact mxI_sound (mx := true) (x := p) (y := q) (ts := c.argTypes) (by rw [hop, ← hp, if_pos rfl, ← hc]) h
      · rename_i x y ts hx
        obtain ⟨p, q, hp, rfl, rfl⟩ := list_two hx
        exact mxI_sound (mx := false) (x := p) (y := q) (ts := c.argTypes) (by rw [hop, ← hp, if_neg (by simp), ← hc]) h
      · rename_i x y t t' hx ht
        obtain ⟨p, q, hp, rfl, rfl⟩ := list_two hx
        exact app_sound (x := p) (y := q) (ts := c.argTypes) (by rw [hop, ← hp, ← hc]) h
      · exact h.elim
    · exact h.elim
  · exact h.elim


/-! ### Lists of operations -/
def gd (b : Bool) (A B : Prop) : Prop := match b with | true => A | false => B
theorem gd_cases {b : Bool} {A B : Prop} (h : gd b A B) : (b = true ∧ A) ∨ (b = false ∧ B) := by cases b <;> simp_all [gd]
@[simp] theorem gd_true (A B : Prop) : gd true A B = A := rfl
@[simp] theorem gd_false (A B : Prop) : gd false A B = B := rfl

def wantA (ops : Array Oper) (env : Env) (o : Oper) : Option Bool :=
  match o.guard with
  | none => some true
  | some (j, want) =>
    match (ops[j]?).bind (·.dst) with
    | none => none
    | some d =>
      match Nat.blt d env.n with
      | false => some false
      | true => match env.f d with
        | .v (.bool b) => some (b == want)
        | .v (.tuple _) => some false
        | _ => none

theorem blt_false {a b : Nat} (h : Nat.blt a b = false) : b ≤ a := by
  rcases Nat.lt_or_ge a b with h' | h'
  · have : Nat.blt a b = true := by simpa [Nat.blt_eq] using h'
    rw [this] at h; cases h
  · exact h'
theorem wantA_sound {w : World} {g : Gh} {env : Env} {a : Act} (he : EnvR w g env a) {ops : Array Oper} {o : Oper} {t : Bool} (h : wantA ops env o = some t) : Region.wanted o (yielded ops a.tmps) = t := by
  unfold wantA at h
  unfold Region.wanted
  split at h
  · rename_i hg
    cases h
    rw [hg]
  · rename_i j want hg
    split at h
    · cases h
    · rename_i d hd
      split at h
      · rename_i hb
        cases h
        rw [hg]
        unfold yielded
        dsimp only
        rw [hd]
        have hlt : a.tmps.size ≤ d := by rw [← he.size]; exact blt_false hb
        simp only [Option.bind_some, Array.getElem?_eq_none hlt]
        rfl
      · rename_i hb
        have hlt : d < a.tmps.size := by rw [← he.size]; simpa [Nat.blt_eq] using hb
        have hr := he.rel d
        rw [Array.getD_eq_getD_getElem?, Array.getElem?_eq_getElem hlt] at hr
        simp only [Option.getD_some] at hr
        rw [hg]
        unfold yielded
        dsimp only
        rw [hd]
        split at h
        · rename_i b hb
          cases h
          rw [hb] at hr
          have := hr.inv_v
          simp only [Option.bind_some, Array.getElem?_eq_getElem hlt, this]
          cases b <;> cases want <;> rfl
        · rename_i vs hb
          cases h
          rw [hb] at hr
          have := hr.inv_v
          simp only [Option.bind_some, Array.getElem?_eq_getElem hlt, this]
          rfl
        · cases h

/-- A test. -/
def onB (x : AV) (K : Bool → Prop) : Prop := match x with | .v (.bool b) => K b | _ => False
/-- The slots of the operations that were skipped. -/
def skSet (sk : Nat → Bool) (d : Option Tmp) (b : Bool) : Nat → Bool :=
  match d with
  | none => sk
  | some d => fun i => match Nat.beq i d with | true => b | false => sk i
def Sk (sk : Nat → Bool) (env : Env) : Prop := ∀ d, sk d = true → d < env.n → env.f d = .v undef
theorem Sk.nil (env : Env) : Sk (fun _ => false) env := fun d h => by cases h
theorem beq_ne {a b : Nat} (h : a ≠ b) : Nat.beq a b = false := by
  cases hb : Nat.beq a b with
  | false => rfl
  | true => exact absurd (Nat.eq_of_beq_eq_true hb) h
theorem Sk.add {sk : Nat → Bool} {env : Env} (h : Sk sk env) (d : Option Tmp) : Sk (skSet sk d true) (setD env d (.v undef)) := by
  cases d with
  | none => exact h
  | some d =>
    intro e he hn
    by_cases hq : e = d
    · subst hq
      exact env.put_eq _ hn
    · rw [show (setD env (some d) (.v undef)).f e = env.f e from env.put_ne _ hq]
      simp only [skSet, beq_ne hq] at he
      exact h e he hn
theorem Sk.del {sk : Nat → Bool} {env : Env} (h : Sk sk env) (d : Option Tmp) (v : AV) : Sk (skSet sk d false) (setD env d v) := by
  cases d with
  | none => exact h
  | some d =>
    intro e he hn
    by_cases hq : e = d
    · subst hq
      have : Nat.beq e e = true := Nat.beq_refl e
      simp [skSet, this] at he
    · rw [show (setD env (some d) v).f e = env.f e from env.put_ne _ hq]
      simp only [skSet, beq_ne hq] at he
      exact h e he hn

/-- Under an operation's guard. -/
abbrev gu (sk : Nat → Bool) (ops : Array Oper) (o : Oper) (env : Env) (run skip : Env → Prop) : Prop :=
  match o.guard with
  | none => run env
  | some (j, want) =>
    match (ops[j]?).bind (·.dst) with
    | none => False
    | some d => match sk d with
      | true => skip env
      | false => onB (env.f d) fun b => match want with
        | true => gd b (run (env.put d (.v (.bool true)))) (skip (env.put d (.v (.bool false))))
        | false => gd b (skip (env.put d (.v (.bool true)))) (run (env.put d (.v (.bool false))))
theorem set_same {env : Env} {d : Nat} {x : AV} (h : env.f d = x) (hx : x ≠ .j) : env.put d x = env := by
  refine Env.ext rfl fun i => ?_
  by_cases e : i = d
  · subst e
    rcases Nat.lt_or_ge i env.n with hi | hi
    · rw [env.put_eq _ hi, h]
    · exact absurd ((env.out i hi).symm.trans h).symm hx
  · exact env.put_ne _ e
theorem gu_spec {sk : Nat → Bool} {ops : Array Oper} {o : Oper} {env : Env} {run skip : Env → Prop} (hsk : Sk sk env) (h : gu sk ops o env run skip) : (wantA ops env o = some true ∧ run env) ∨ (wantA ops env o = some false ∧ skip env) := by
  unfold gu at h
  unfold wantA
  split at h
  · rename_i hg
    exact .inl ⟨rfl, h⟩
  · rename_i j want hg
    split at h
    · exact h.elim
    · rename_i d hd
      split at h
      · rename_i hc
        have hb := hsk d hc
        try rw [hd]
        try dsimp only
        refine .inr ⟨?_, h⟩
        cases hbl : Nat.blt d env.n with
        | false => rfl
        | true =>
          have hlt : d < env.n := by simpa [Nat.blt_eq] using hbl
          simp only [hb hlt]
          rfl
      · unfold onB at h
        split at h
        · rename_i b hb
          have hbl : Nat.blt d env.n = true := by
            rcases Nat.lt_or_ge d env.n with hi | hi
            · simpa [Nat.blt_eq] using hi
            · rw [env.out d hi] at hb; cases hb
          try rw [hd]
          try dsimp only
          try rw [hbl]
          try dsimp only
          try rw [hb]
          try dsimp only
          have e1 : env.put d (.v (.bool b)) = env := set_same hb (by simp)
          cases want with
          | true =>
            rcases gd_cases h with ⟨rfl, h'⟩ | ⟨rfl, h'⟩
            · rw [e1] at h'; exact .inl ⟨rfl, h'⟩
            · rw [e1] at h'; exact .inr ⟨rfl, h'⟩
          | false =>
            rcases gd_cases h with ⟨rfl, h'⟩ | ⟨rfl, h'⟩
            · rw [e1] at h'; exact .inr ⟨rfl, h'⟩
            · rw [e1] at h'; exact .inl ⟨rfl, h'⟩
        · exact h.elim

def vcOps (P : Program) (ops : Array Oper) : List Oper → (Nat → Bool) → Env → Store → (Env → Store → Prop) → (AV → Env → Store → Prop) → Prop
  | [], _, env, S, K, _ => K env S
  | o :: rest, sk, env, S, K, X =>
    gu sk ops o env (fun env => vcOp P o.op env S (fun v S' => vcOps P ops rest (skSet sk o.dst false) (setD env o.dst v) S' K X) (fun u S' => X u env S')) (fun env => vcOps P ops rest (skSet sk o.dst true) (setD env o.dst (.v undef)) S K X)

/-! ### Code -/
inductive AX where
  | normal
  | exit (id : Nat)
  | goto (l : Nat)
  | ret
  | pan (x : AV)

def XR (w : World) (g : Gh) : AX → Exit → Prop
  | .normal, .normal => True
  | .exit id, .exit id' => id = id'
  | .goto l, .goto l' => l = l'
  | .ret, .ret => True
  | .pan x, .panic chain => ∃ y, chain = [{ v := y, recovered := false }] ∧ R w g x y
  | _, _ => False

/-- What an abstract postcondition says of the machine. -/
def Post (P : Program) (w : World) (g : Gh) (Q : AX → Env → Store → Prop) (e : Exit) (a' : Act) (w' : World) : Prop :=
  ∃ x env' S' g', Heap P w' g' S' ∧ EnvR w' g' env' a' ∧ Mv w g w' g' ∧ XR w' g' x e ∧ Q x env' S'

theorem vcOps_sound {P : Program} {ops : Array Oper} {Q : AX → Env → Store → Prop} {w0 : World} {g0 : Gh} : ∀ (l : List Oper) (sk : Nat → Bool) (env : Env) (S : Store) (w : World) (g : Gh) (a : Act), Sk sk env → Heap P w g S → EnvR w g env a → Mv w0 g0 w g →
    vcOps P ops l sk env S (Q .normal) (fun u env' S' => Q (.pan u) env' S') → wpList P ops (Post P w0 g0 Q) l a w
  | [], _, env, S, w, g, a, hs, hh, he, m, h => ⟨.normal, env, S, g, hh, he, m, trivial, h⟩
  | o :: rest, sk, env, S, w, g, a, hs, hh, he, m, h => by
    simp only [vcOps] at h
    unfold wpList
    rcases gu_spec hs h with ⟨ht, h'⟩ | ⟨ht, h'⟩
    · have hw := wantA_sound he ht
      rw [if_pos hw]
      refine .inl (vcOp_sound h' w g a _ _ hh he (fun v S' w' g' y h1 h2 h3 h4 => ?_) (fun u S' w' g' y h1 h2 h3 h4 => ?_))
      · exact vcOps_sound rest _ _ S' w' g' _ (hs.del o.dst v) h1 ((he.mv h2).put o.dst h3) (m.trans h2) h4
      · exact ⟨.pan u, env, S', g', h1, he.mv h2, m.trans h2, ⟨y, rfl, h3⟩, h4⟩
    · have hw := wantA_sound he ht
      rw [if_neg (by rw [hw]; simp)]
      exact vcOps_sound rest _ _ S w g _ (hs.add o.dst) hh (he.put o.dst (.v _)) m h'

def AWp (P : Program) (c : Code) (env : Env) (S : Store) (Q : AX → Env → Store → Prop) : Prop :=
  ∀ (w : World) (g : Gh) (a : Act), Heap P w g S → EnvR w g env a → c.wp P (Post P w g Q) a w

theorem AWp.mono {P : Program} {c : Code} {env : Env} {S : Store} {Q Q' : AX → Env → Store → Prop} (h : AWp P c env S Q) (hq : ∀ x env S, Q x env S → Q' x env S) : AWp P c env S Q' :=
  fun w g a hh he => wp_mono (h w g a hh he) fun e a' w' ⟨x, env', S', g', h1, h2, h3, h4, h5⟩ => ⟨x, env', S', g', h1, h2, h3, h4, hq _ _ _ h5⟩

end Go.Ab

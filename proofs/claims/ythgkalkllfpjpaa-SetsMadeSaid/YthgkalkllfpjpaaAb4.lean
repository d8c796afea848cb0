/- It is proved here that each of the laws of sets (SetsMade, SetsFix, SetsMore, SetsFair) returns true for every input and changes none of its arguments. There is no condition beyond the given statement. -/
import Derived.Test.YthgkalkllfpjpaaAb3
import Derived.Still
set_option linter.unusedVariables false
set_option linter.unusedSimpArgs false
namespace Go.Ab
open Go Go.RowKit

/-! ### Regions that draw their order, and only read -/
theorem ev_congr {env env' : Env} {x : Operand} (h : ∀ t, x = .tmp t → env.f t = env'.f t) : ev env x = ev env' x := by
  cases x with
  | tmp t => exact h t rfl
  | _ => rfl
theorem map_ev_congr {env env' : Env} {xs : Array Operand} (h : ∀ x, x ∈ xs → ev env x = ev env' x) : xs.toList.map (ev env) = xs.toList.map (ev env') :=
  List.map_congr_left fun x hx => h x (by simpa using hx)
theorem map_parts_congr {env env' : Env} {xs : Array (Nat × Operand)} (h : ∀ x, x ∈ xs → ev env x.2 = ev env' x.2) : (xs.toList.map fun (i, x) => (i, ev env x)) = xs.toList.map fun (i, x) => (i, ev env' x) :=
  List.map_congr_left fun x hx => by
    have := h x (by simpa using hx)
    obtain ⟨i, y⟩ := x
    simp only at this ⊢
    rw [this]
theorem map_opt_congr {env env' : Env} {o : Option Operand} (h : ∀ x, o = some x → ev env x = ev env' x) : o.map (ev env) = o.map (ev env') := by
  cases o with
  | none => rfl
  | some x => simp [h x rfl]

theorem vcOp_congr {P : Program} {op : Op} {env env' : Env} {S : Store} {K X : AV → Store → Prop} (h : ∀ x, x ∈ op.operands → ev env x = ev env' x) : vcOp P op env S K X = vcOp P op env' S K X := by
  unfold vcOp
  cases op <;> simp only [Op.operands] at h <;> try rfl
  case move x => simp only [h x (by simp)]
  case assign x => simp only [h x (by simp)]
  case pick c x y => simp only [h c (by simp), h x (by simp), h y (by simp)]
  case box t x => simp only [h x (by simp)]
  case build t ps => simp only [map_parts_congr (xs := ps) (fun x hx => h x.2 (by simp; exact ⟨x.1, hx⟩))]
  case buildSlice t n ps => simp only [map_parts_congr (xs := ps) (fun x hx => h x.2 (by simp; exact ⟨x.1, hx⟩))]
  case load t x => simp only [h x (by simp)]
  case store t x y => simp only [h x (by simp), h y (by simp)]
  case nilCheck x => simp only [h x (by simp)]
  case binOp o t x y yt => simp only [h x (by simp), h y (by simp)]
  case unOp o t x => simp only [h x (by simp)]
  case convert s d x => simp only [h x (by simp)]
  case makeFunc fn fs cs => simp only [map_ev_congr (xs := fs) (fun x hx => h x (by simp [hx])), map_ev_congr (xs := cs) (fun x hx => h x (by simp [hx]))]
  case makeSlice t l c => simp only [h l (by simp), h c (by simp)]
  case slice t x lo hi mx => simp only [h x (by simp), map_opt_congr (o := lo) (fun y hy => h y (by simp [hy])), map_opt_congr (o := hi) (fun y hy => h y (by simp [hy])), map_opt_congr (o := mx) (fun y hy => h y (by simp [hy]))]
  case fieldAddr s x f => simp only [h x (by simp)]
  case field s x f => simp only [h x (by simp)]
  case indexAddr t x i => simp only [h x (by simp), h i (by simp)]
  case index t x i => simp only [h x (by simp), h i (by simp)]
  case extract x i => simp only [h x (by simp)]
  case lookup t x k c => simp only [h x (by simp), h k (by simp)]
  case mapUpdate t m k v => simp only [h m (by simp), h k (by simp), h v (by simp)]
  case insert t m k v => simp only [h m (by simp), h k (by simp), h v (by simp)]
  case range t x => simp only [h x (by simp)]
  case next x str => simp only [h x (by simp)]
  case entry x => simp only [h x (by simp)]
  case call c =>
    obtain ⟨callee, args, ts⟩ := c
    have ha : args.toList.map (ev env) = args.toList.map (ev env') := map_ev_congr (xs := args) (fun x hx => h x (by cases callee <;> simp [Call.operands, hx]))
    cases callee with
    | value f => simp only [ha, h f (by simp [Call.operands])]
    | builtin b => simp only [ha]
    | invoke r m => rfl

theorem getD_setD {env : Env} {d : Option Tmp} {v : AV} {t : Tmp} (h : d ≠ some t) : (setD env d v).f t = env.f t := by
  cases d with
  | none => rfl
  | some d => exact env.put_ne v fun e => h (by rw [e])
theorem setD_n (env : Env) (d : Option Tmp) (v : AV) : (setD env d v).n = env.n := by cases d <;> rfl
theorem setD_comm {env : Env} {x y : Option Tmp} (v u : AV) (h : ∀ d, x = some d → y ≠ some d) : setD (setD env x v) y u = setD (setD env y u) x v := by
  cases x with
  | none => rfl
  | some a =>
    cases y with
    | none => rfl
    | some b =>
      have hab : a ≠ b := fun e => h a rfl (by rw [e])
      refine Env.ext rfl fun i => ?_
      show ((env.put a v).put b u).f i = ((env.put b u).put a v).f i
      by_cases hb : i = b
      · subst hb
        rw [Env.put_ne _ _ (fun e => hab e.symm)]
        rcases Nat.lt_or_ge i env.n with hi | hi
        · rw [Env.put_eq _ _ (show i < (env.put a v).n from hi), Env.put_eq _ _ hi]
        · rw [Env.out _ i (show (((env.put a v).put i u)).n ≤ i from hi), Env.out _ i (show ((env.put i u)).n ≤ i from hi)]
      · rw [Env.put_ne _ _ hb]
        by_cases ha : i = a
        · subst ha
          rcases Nat.lt_or_ge i env.n with hi | hi
          · rw [Env.put_eq _ _ hi, Env.put_eq _ _ (show i < (env.put b u).n from hi)]
          · rw [Env.out _ i (show ((env.put i v)).n ≤ i from hi), Env.out _ i (show (((env.put b u).put i v)).n ≤ i from hi)]
        · rw [Env.put_ne _ _ ha, Env.put_ne _ _ ha, Env.put_ne _ _ hb]

/-- The operation yields v, and leaves the store alone. -/
def Yd (P : Program) (ops : Array Oper) (S : Store) (o : Oper) (v : AV) (env : Env) : Prop :=
  ∃ t, wantA ops env o = some t ∧ gd t (vcOp P o.op env S (fun u S' => u = v ∧ S' = S) (fun _ _ => False)) (v = .v undef)

theorem looksAt_ev {ops : Array Oper} {o : Oper} {env : Env} {d : Option Tmp} {v : AV} (h : ∀ t, d = some t → t ∉ o.looksAt ops) : ∀ x, x ∈ o.op.operands → ev (setD env d v) x = ev env x := by
  intro x hx
  refine ev_congr fun t ht => getD_setD fun hd => h t hd ?_
  subst ht
  exact List.mem_append_left _ (List.mem_filterMap.2 ⟨.tmp t, by simpa using hx, rfl⟩)
theorem wantA_setD {ops : Array Oper} {o : Oper} {env : Env} {d : Option Tmp} {v : AV} (h : ∀ t, d = some t → t ∉ o.looksAt ops) : wantA ops (setD env d v) o = wantA ops env o := by
  unfold wantA
  split
  · rfl
  · rename_i j want hg
    split
    · rfl
    · rename_i t ht
      have : d ≠ some t := fun hd => h t hd (by simp [Oper.looksAt, hg, ht])
      rw [setD_n, getD_setD this]
theorem Yd.setD {P : Program} {ops : Array Oper} {S : Store} {o : Oper} {v : AV} {env : Env} {d : Option Tmp} {u : AV} (h : ∀ t, d = some t → t ∉ o.looksAt ops) : Yd P ops S o v (Ab.setD env d u) ↔ Yd P ops S o v env := by
  unfold Yd
  rw [wantA_setD h, vcOp_congr (looksAt_ev h)]

def aAny (P : Program) (ops : Array Oper) (S : Store) (K : Env → Prop) : Nat → Array Bool → Env → Prop
  | 0, listed, env => Region.ready .any ops listed = [] ∧ K env
  | n + 1, listed, env => (Region.ready .any ops listed = [] → K env) ∧ ∀ i, i ∈ Region.ready .any ops listed → ∃ o v, ops[i]? = some o ∧ Yd P ops S o v env ∧ aAny P ops S K n (listed.setIfInBounds i true) (setD env o.dst v)

theorem aAny_first {P : Program} {ops : Array Oper} {S : Store} {K : Env → Prop} {i : Nat} {oi : Oper} {v : AV} (hi : ops[i]? = some oi) : ∀ (n : Nat) (listed : Array Bool) (env : Env),
    (∀ j oj, ops[j]? = some oj → j ≠ i → listed.getD j true = false → (∀ e ∈ oj.after, Region.binds .any e = true → e.on ≠ i) → oi.apart ops oj = true) →
    i ∈ Region.ready .any ops listed → Yd P ops S oi v env → aAny P ops S K n (listed.setIfInBounds i true) (setD env oi.dst v) → aAny P ops S K (n + 1) listed env := by
  intro n
  induction n with
  | zero =>
    intro listed env _ hr hy H
    refine ⟨fun h => (by rw [h] at hr; cases hr), fun j hj => ?_⟩
    by_cases hji : j = i
    · subst hji; exact ⟨oi, v, hi, hy, H⟩
    · have := ready_mono hj hji
      rw [H.1] at this
      cases this
  | succ n ih =>
    intro listed env hfree hr hy H
    refine ⟨fun h => (by rw [h] at hr; cases hr), fun j hj => ?_⟩
    by_cases hji : j = i
    · subst hji; exact ⟨oi, v, hi, hy, H⟩
    · obtain ⟨oj, u, hoj, hyj, Hj⟩ := H.2 j (ready_mono hj hji)
      obtain ⟨hjun, oj', hoj', hall⟩ := mem_ready.1 hj
      rw [hoj] at hoj'
      cases hoj'
      have hnot : ∀ e ∈ oj.after, Region.binds .any e = true → e.on ≠ i := fun e he hb heq => by
        have h1 := hall e he hb
        have h0 := (mem_ready.1 hr).1
        rw [heq] at h1
        rcases Nat.lt_or_ge i listed.size with h' | h'
        · simp [h'] at h0 h1; rw [h0] at h1; cases h1
        · simp [Array.getElem?_eq_none h'] at h1
      obtain ⟨h1, h2, h3⟩ := Oper.apart_spec (hfree j oj hoj hji hjun hnot)
      refine ⟨oj, u, hoj, (Yd.setD h1).1 hyj, ih _ _ (fun k ok hk hki hun hno => ?_) (ready_mono hr (Ne.symm hji)) ((Yd.setD h3).2 hy) ?_⟩
      · refine hfree k ok hk hki ?_ hno
        by_cases hjk : j = k
        · subst hjk; exact hjun
        · rw [getD_set_ne true hjk] at hun; exact hun
      · rw [Array.setIfInBounds_comm _ _ hji, ← setD_comm v u h2]
        exact Hj

def mvA (op : Op) (env : Env) : Option AV :=
  match op with
  | .move x | .assign x => some (ev env x)
  | _ => none
/-- The operations in the text's order. -/
def vcQ (P : Program) (ops : Array Oper) (S : Store) : List Oper → (Nat → Bool) → Env → (Env → Prop) → Prop
  | [], _, env, K => K env
  | o :: rest, sk, env, K =>
    gu sk ops o env (fun env => match mvA o.op env with
      | some v => vcQ P ops S rest (skSet sk o.dst false) (setD env o.dst v) K
      | none => ∃ v, vcOp P o.op env S (fun u S' => u = v ∧ S' = S) (fun _ _ => False) ∧ vcQ P ops S rest (skSet sk o.dst false) (setD env o.dst v) K) (fun env => vcQ P ops S rest (skSet sk o.dst true) (setD env o.dst (.v undef)) K)
theorem mvA_op {P : Program} {op : Op} {env : Env} {v : AV} (h : mvA op env = some v) {S : Store} : vcOp P op env S (fun u S' => u = v ∧ S' = S) (fun _ _ => False) := by
  unfold mvA at h
  split at h
  · cases h; exact ⟨rfl, rfl⟩
  · cases h; exact ⟨rfl, rfl⟩
  · cases h

theorem aAny_lex {P : Program} {ops : Array Oper} {S : Store} {K : Env → Prop} : ∀ (l : List Oper) (sk : Nat → Bool) (k : Nat) (listed : Array Bool) (env : Env), Sk sk env → (∀ j : Nat, l[j]? = ops[k + j]?) →
    Region.lexFrom .any ops l.length k listed = true → vcQ P ops S l sk env K → aAny P ops S K l.length listed env
  | [], _, _, _, _, _, _, hB, h => ⟨by simpa [Region.lexFrom] using hB, h⟩
  | o :: l, sk, k, listed, env, hs, hl, hB, h => by
    have h0 : ops[k]? = some o := by simpa using (hl 0).symm
    simp only [List.length_cons, Region.lexFrom, Bool.and_eq_true] at hB
    obtain ⟨⟨hr, hf⟩, hB'⟩ := hB
    have hrest := fun sk' env' (hs' : Sk sk' env') => aAny_lex (P := P) (S := S) (K := K) l sk' (k + 1) (listed.setIfInBounds k true) env' hs' (fun j => by have := hl (j + 1); simpa [Nat.add_assoc, Nat.add_comm 1 j] using this) hB'
    simp only [vcQ] at h
    rcases gu_spec hs h with ⟨ht, h'⟩ | ⟨ht, h2⟩
    · have h'' : ∃ v, vcOp P o.op env S (fun u S' => u = v ∧ S' = S) (fun _ _ => False) ∧ vcQ P ops S l (skSet sk o.dst false) (setD env o.dst v) K := by
        split at h'
        · rename_i v hv
          exact ⟨v, mvA_op hv, h'⟩
        · exact h'
      obtain ⟨v, h1, h2⟩ := h''
      exact aAny_first h0 l.length listed env (Region.free_spec h0 hf) (by simpa using hr) ⟨true, ht, h1⟩ (hrest _ _ (hs.del o.dst v) h2)
    · exact aAny_first h0 l.length listed env (Region.free_spec h0 hf) (by simpa using hr) ⟨false, ht, rfl⟩ (hrest _ _ (hs.add o.dst) h2)

theorem aAny_wp {P : Program} {ops : Array Oper} {S : Store} {Q : AX → Env → Store → Prop} {w0 : World} {g0 : Gh} : ∀ (n : Nat) (listed : Array Bool) (env : Env) (w : World) (g : Gh) (a : Act), Heap P w g S → EnvR w g env a → Mv w0 g0 w g →
    aAny P ops S (fun env' => Q .normal env' S) n listed env → wpAny P .any ops (Post P w0 g0 Q) n listed a w
  | 0, _, env, w, g, a, hh, he, m, h => ⟨h.1, .normal, env, S, g, hh, he, m, trivial, h.2⟩
  | n + 1, listed, env, w, g, a, hh, he, m, h => by
    refine ⟨fun h0 => ⟨.normal, env, S, g, hh, he, m, trivial, h.1 h0⟩, fun i hi => ?_⟩
    obtain ⟨o, v, ho, ⟨t, ht, hy⟩, hn⟩ := h.2 i hi
    have hw := wantA_sound he ht
    unfold wpOp
    simp only [ho]
    rcases gd_cases hy with ⟨rfl, hy'⟩ | ⟨rfl, hy'⟩
    · rw [if_pos hw]
      refine .inl (vcOp_sound hy' w g a _ _ hh he (fun u S' w' g' y h1 h2 h3 h4 => ?_) (fun u S' w' g' y h1 h2 h3 h4 => h4.elim))
      obtain ⟨rfl, rfl⟩ := h4
      exact aAny_wp n _ _ w' g' _ h1 ((he.mv h2).put o.dst h3) (m.trans h2) hn
    · rw [if_neg (by rw [hw]; simp)]
      subst hy'
      exact aAny_wp n _ _ w g _ hh (he.put o.dst (.v _)) m hn

/-- What a region that draws its order is to show. -/
def drawV (P : Program) (id : Nat) (ops : Array Oper) (env : Env) (S : Store) (K : AX → Env → Store → Prop) : Prop := AWp P (.region id ops true) env S K
/-- A region that draws its order: whatever it is, the text's order tells. -/
theorem draw_quiet {P : Program} (hm : P.follows .mixedOrders = true) {id : Nat} {ops : Array Oper} (hB : Region.lexB .any ops = true) {env : Env} {S : Store} {K : AX → Env → Store → Prop}
    (h : vcQ P ops S ops.toList (fun _ => false) env (fun env' => K .normal env' S)) : drawV P id ops env S K := by
  intro w g a hh he
  simp only [Region.lexB, Bool.and_eq_true] at hB
  refine wp_region_any hm ?_
  have h1 := aAny_lex (P := P) (S := S) ops.toList (fun _ => false) 0 (Array.replicate ops.size false) env (Sk.nil env) (by simp) (by simpa using hB.2) h
  have h2 := aAny_wp (w0 := w) (g0 := g) ops.toList.length (Array.replicate ops.size false) env w.drew g a hh.drew (he.mv (mv_drew w g)) (mv_drew w g) h1
  simpa using h2

end Go.Ab

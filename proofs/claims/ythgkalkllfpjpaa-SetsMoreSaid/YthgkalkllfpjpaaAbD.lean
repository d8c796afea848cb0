/- It is proved here that each of the laws of sets (SetsMade, SetsFix, SetsMore, SetsFair) returns true for every input and changes none of its arguments. There is no condition beyond the given statement. -/
import Derived.Test.YthgkalkllfpjpaaAb4
set_option linter.unusedVariables false
set_option linter.unusedSimpArgs false
namespace Go.Ab
open Go Go.RowKit

/-! ### Long regions: each operation's worth is named, and the ways meet again -/
def wantT (x : AV) (want : Bool) : Option Bool :=
  match x with
  | .v (.bool b) => some (b == want)
  | .v (.tuple _) => some false
  | _ => none
/-- The operation's worth, which leaves the store alone. -/
def valJ (P : Program) (op : Op) (env : Env) (S : Store) (v : AV) : Prop :=
  match mvA op env with
  | some x => v = x
  | none => vcOp P op env S (fun u S' => u = v ∧ S' = S) (fun _ _ => False)
theorem valJ_vc {P : Program} {op : Op} {env : Env} {S : Store} {v : AV} (h : valJ P op env S v) : vcOp P op env S (fun u S' => u = v ∧ S' = S) (fun _ _ => False) := by
  unfold valJ at h
  split at h
  · rename_i x hx
    subst h
    exact mvA_op hx
  · exact h
def guJ (ops : Array Oper) (o : Oper) (env : Env) (run : Prop) (K : Bool → Prop) : Prop :=
  match o.guard with
  | none => run
  | some (j, want) => match (ops[j]?).bind (·.dst) with
    | none => False
    | some d => match Nat.blt d env.n with
      | false => False
      | true => ∃ t, wantT (env.f d) want = some t ∧ K t
theorem guJ_spec {ops : Array Oper} {o : Oper} {env : Env} {run : Prop} {K : Bool → Prop} (h : guJ ops o env run K) : (wantA ops env o = some true ∧ run) ∨ ∃ t, wantA ops env o = some t ∧ K t := by
  unfold guJ at h
  unfold wantA
  split at h
  · rename_i hg
    rw [hg]
    exact .inl ⟨rfl, h⟩
  · rename_i j want hg
    rw [hg]
    dsimp only
    split at h
    · exact h.elim
    · rename_i d hd
      rw [hd]
      dsimp only
      split at h
      · exact h.elim
      · rename_i hb
        rw [hb]
        dsimp only
        obtain ⟨t, ht, hK⟩ := h
        refine .inr ⟨t, ?_, hK⟩
        unfold wantT at ht
        split at ht <;> simp_all
def quietOp : Op → Bool
  | .store _ _ _ | .alloc _ | .box _ _ | .makeSlice _ _ _ | .makeMap _ _ | .mapUpdate _ _ _ _ | .insert _ _ _ _ | .mapEntry _ _ _ | .entryStore _ _ _ _ | .range _ _ | .next _ _ | .call { callee := .builtin .append, .. } => false
  | _ => true
def vcJ (P : Program) (ops : Array Oper) : List Oper → Env → Store → (Env → Store → Prop) → (AV → Env → Store → Prop) → Prop
  | [], env, S, K, _ => K env S
  | o :: rest, env, S, K, X =>
    guJ ops o env (match quietOp o.op with
        | true => match mvA o.op env with
          | some v => vcJ P ops rest (setD env o.dst v) S K X
          | none => ∃ v, vcOp P o.op env S (fun u S' => u = v ∧ S' = S) (fun _ _ => False) ∧ vcJ P ops rest (setD env o.dst v) S K X
        | false => vcOp P o.op env S (fun v S' => vcJ P ops rest (setD env o.dst v) S' K X) (fun u S' => X u env S'))
      (fun t => ∃ v, gd t (valJ P o.op env S v) (v = .v undef) ∧ vcJ P ops rest (setD env o.dst v) S K X)
theorem vcJ_sound {P : Program} {ops : Array Oper} {Q : AX → Env → Store → Prop} {w0 : World} {g0 : Gh} : ∀ (l : List Oper) (env : Env) (S : Store) (w : World) (g : Gh) (a : Act), Heap P w g S → EnvR w g env a → Mv w0 g0 w g →
    vcJ P ops l env S (Q .normal) (fun u env' S' => Q (.pan u) env' S') → wpList P ops (Post P w0 g0 Q) l a w
  | [], env, S, w, g, a, hh, he, m, h => ⟨.normal, env, S, g, hh, he, m, trivial, h⟩
  | o :: rest, env, S, w, g, a, hh, he, m, h => by
    unfold wpList
    have quiet : ∀ v, vcOp P o.op env S (fun u S' => u = v ∧ S' = S) (fun _ _ => False) → vcJ P ops rest (setD env o.dst v) S (Q .normal) (fun u env' S' => Q (.pan u) env' S') →
        o.wp P a w (fun a w => wpList P ops (Post P w0 g0 Q) rest a w) (Post P w0 g0 Q) := fun v h1 h2 =>
      vcOp_sound h1 w g a _ _ hh he (fun u S' w' g' y k1 k2 k3 k4 => by
        obtain ⟨rfl, rfl⟩ := k4
        exact vcJ_sound rest _ _ w' g' _ k1 ((he.mv k2).put o.dst k3) (m.trans k2) h2) (fun u S' w' g' y k1 k2 k3 k4 => k4.elim)
    simp only [vcJ] at h
    rcases guJ_spec h with ⟨ht, h'⟩ | ⟨t, ht, v, h1, h2⟩
    · rw [if_pos (wantA_sound he ht)]
      split at h'
      · split at h'
        · rename_i v hv
          exact .inl (quiet v (mvA_op hv) h')
        · obtain ⟨v, h1, h2⟩ := h'
          exact .inl (quiet v h1 h2)
      · exact .inl (vcOp_sound h' w g a _ _ hh he (fun v S' w' g' y k1 k2 k3 k4 => vcJ_sound rest _ _ w' g' _ k1 ((he.mv k2).put o.dst k3) (m.trans k2) k4)
          (fun u S' w' g' y k1 k2 k3 k4 => ⟨.pan u, env, S', g', k1, he.mv k2, m.trans k2, ⟨y, rfl, k3⟩, k4⟩))
    · rcases gd_cases h1 with ⟨rfl, h1⟩ | ⟨rfl, rfl⟩
      · rw [if_pos (wantA_sound he ht)]
        exact .inl (quiet v (valJ_vc h1) h2)
      · rw [if_neg (by rw [wantA_sound he ht]; simp)]
        exact vcJ_sound rest _ _ w g _ hh (he.put o.dst (.v _)) m h2

/-- The same where the order is drawn. -/
def vcQJ (P : Program) (ops : Array Oper) (S : Store) : List Oper → Env → (Env → Prop) → Prop
  | [], env, K => K env
  | o :: rest, env, K =>
    guJ ops o env (match mvA o.op env with
        | some v => vcQJ P ops S rest (setD env o.dst v) K
        | none => ∃ v, vcOp P o.op env S (fun u S' => u = v ∧ S' = S) (fun _ _ => False) ∧ vcQJ P ops S rest (setD env o.dst v) K)
      (fun t => ∃ v, gd t (valJ P o.op env S v) (v = .v undef) ∧ vcQJ P ops S rest (setD env o.dst v) K)
theorem aAny_lexJ {P : Program} {ops : Array Oper} {S : Store} {K : Env → Prop} : ∀ (l : List Oper) (k : Nat) (listed : Array Bool) (env : Env), (∀ j : Nat, l[j]? = ops[k + j]?) →
    Region.lexFrom .any ops l.length k listed = true → vcQJ P ops S l env K → aAny P ops S K l.length listed env
  | [], _, _, _, _, hB, h => ⟨by simpa [Region.lexFrom] using hB, h⟩
  | o :: l, k, listed, env, hl, hB, h => by
    have h0 : ops[k]? = some o := by simpa using (hl 0).symm
    simp only [List.length_cons, Region.lexFrom, Bool.and_eq_true] at hB
    obtain ⟨⟨hr, hf⟩, hB'⟩ := hB
    have hrest := fun env' => aAny_lexJ (P := P) (S := S) (K := K) l (k + 1) (listed.setIfInBounds k true) env' (fun j => by have := hl (j + 1); simpa [Nat.add_assoc, Nat.add_comm 1 j] using this) hB'
    simp only [vcQJ] at h
    have fin : ∀ v, Yd P ops S o v env → vcQJ P ops S l (setD env o.dst v) K → aAny P ops S K (l.length + 1) listed env := fun v h1 h2 =>
      aAny_first h0 l.length listed env (Region.free_spec h0 hf) (by simpa using hr) h1 (hrest _ h2)
    rcases guJ_spec h with ⟨ht, h'⟩ | ⟨t, ht, v, h1, h2⟩
    · split at h'
      · rename_i v hv
        exact fin v ⟨true, ht, mvA_op hv⟩ h'
      · obtain ⟨v, h1, h2⟩ := h'
        exact fin v ⟨true, ht, h1⟩ h2
    · refine fin v ⟨t, ht, ?_⟩ h2
      rcases gd_cases h1 with ⟨rfl, h1⟩ | ⟨rfl, rfl⟩
      · exact valJ_vc h1
      · rfl
theorem draw_quietJ {P : Program} (hm : P.follows .mixedOrders = true) {id : Nat} {ops : Array Oper} (hB : Region.lexB .any ops = true) {env : Env} {S : Store} {K : AX → Env → Store → Prop}
    (h : vcQJ P ops S ops.toList env (fun env' => K .normal env' S)) : drawV P id ops env S K := by
  intro w g a hh he
  simp only [Region.lexB, Bool.and_eq_true] at hB
  refine wp_region_any hm ?_
  have h1 := aAny_lexJ (P := P) (S := S) ops.toList 0 (Array.replicate ops.size false) env (by simp) (by simpa using hB.2) h
  have h2 := aAny_wp (w0 := w) (g0 := g) ops.toList.length (Array.replicate ops.size false) env w.drew g a hh.drew (he.mv (mv_drew w g)) (mv_drew w g) h1
  simpa using h2

/-! ### Regions that draw their order and write -/
/-- A step of the order: an operation that leaves the store alone; one alone; new objects, in any order. -/
inductive St where
  | q (i : Nat)
  | k (i : Nat)
  | n (is : List Nat)
  deriving DecidableEq

/-- The object that an operation makes. -/
def newObj (P : Program) (op : Op) (env : Env) : Option AObj :=
  match op with
  | .alloc t => match zT P t, szT P t with
    | some z, some n => match cellsOf (absC z) with
      | some cs => match decide (cs.length = n) with | true => some (.cells t [cs] true) | false => none
      | none => none
    | _, _ => none
  | .box t x => match szT P t with
    | some n => match cellsOf (ev env x) with
      | some cs => match decide (cs.length = n) with | true => some (.cells t [cs] true) | false => none
      | none => none
    | none => none
  | _ => none
theorem newObj_vc {P : Program} {op : Op} {env : Env} {o : AObj} (h : newObj P op env = some o) {S : Store} {K X : AV → Store → Prop} (hK : K (.p S.n 0 0) (S.new o)) : vcOp P op env S K X := by
  unfold newObj at h
  split at h
  · split at h
    · rename_i z n hz hn
      split at h
      · rename_i cs hcs
        split at h
        · rename_i hd
          cases h
          simp only [vcOp, alloc, hz, box, hn]
          exact ⟨cs, hcs, of_decide_eq_true hd, hK⟩
        · cases h
      · cases h
    · cases h
  · split at h
    · rename_i n hn
      split at h
      · rename_i cs hcs
        split at h
        · rename_i hd
          cases h
          simp only [vcOp, box, hn]
          exact ⟨cs, hcs, of_decide_eq_true hd, hK⟩
        · cases h
      · cases h
    · cases h
  · cases h
def newOp : Op → Bool
  | .alloc _ | .box _ _ => true
  | _ => false
theorem vc_newObj {P : Program} {op : Op} {env : Env} (hn : newOp op = true) {S : Store} {K X : AV → Store → Prop} (h : vcOp P op env S K X) : ∃ o, newObj P op env = some o ∧ K (.p S.n 0 0) (S.new o) := by
  cases op <;> simp [newOp] at hn
  · simp only [vcOp, alloc] at h
    split at h
    · rename_i z hz
      obtain ⟨cs, h1, h2, h3⟩ := box_open h
      exact ⟨_, by simp [newObj, hz, h2, h1], h3⟩
    · exact h.elim
  · simp only [vcOp] at h
    obtain ⟨cs, h1, h2, h3⟩ := box_open h
    exact ⟨_, by simp [newObj, h2, h1], h3⟩
theorem newObj_congr {P : Program} {op : Op} {env env' : Env} (h : ∀ x, x ∈ op.operands → ev env x = ev env' x) : newObj P op env = newObj P op env' := by
  cases op <;> simp only [Op.operands] at h <;> try rfl
  case box t x => simp only [newObj, h x (by simp)]

/-- New objects, in any order. -/
structure Newed (S : Store) (os : List AObj) (ids : List Nat) (S' : Store) : Prop where
  n : S'.n = S.n + os.length
  old : ∀ i, i < S.n → S'.obj i = S.obj i
  len : ids.length = os.length
  nodup : ids.Nodup
  lo : ∀ id ∈ ids, S.n ≤ id
  hi : ∀ id ∈ ids, id < S'.n
  new : ∀ (k id : Nat) (o : AObj), ids[k]? = some id → os[k]? = some o → S'.obj id = some o
theorem Newed.keep {S S' : Store} {os : List AObj} {ids : List Nat} (h : Newed S os ids S') : Keep S S' := ⟨by rw [h.n]; omega, h.old⟩
def newObjs (P : Program) (ops : Array Oper) (env : Env) : List Nat → Option (List AObj)
  | [] => some []
  | i :: is => match ops[i]? with
    | some o => match newObj P o.op env with
      | some x => match newObjs P ops env is with
        | some xs => some (x :: xs)
        | none => none
      | none => none
    | none => none
def newObjK (P : Program) (op : Op) (env : Env) (K : AObj → Prop) : Prop :=
  match op with
  | .alloc t => match newObj P (.alloc t) env with
    | some o => K o
    | none => False
  | .box t x => match szT P t with
    | some n => optP (cellsOf (ev env x)) fun cs => cs.length = n ∧ K (.cells t [cs] true)
    | none => False
  | _ => False
theorem newObjK_spec {P : Program} {op : Op} {env : Env} {K : AObj → Prop} (h : newObjK P op env K) : ∃ o, newObj P op env = some o ∧ K o := by
  unfold newObjK at h
  split at h
  · split at h
    · rename_i o ho
      exact ⟨o, ho, h⟩
    · exact h.elim
  · split at h
    · rename_i n hn
      obtain ⟨cs, h1, h2, h3⟩ := h
      exact ⟨_, by simp [newObj, hn, h1, h2], h3⟩
    · exact h.elim
  · exact h.elim
def newObjsK (P : Program) (ops : Array Oper) (env : Env) : List Nat → (List AObj → Prop) → Prop
  | [], K => K []
  | i :: is, K => match ops[i]? with
    | some o => newObjK P o.op env fun x => newObjsK P ops env is fun xs => K (x :: xs)
    | none => False
theorem newObjsK_spec {P : Program} {ops : Array Oper} {env : Env} : ∀ {is : List Nat} {K : List AObj → Prop}, newObjsK P ops env is K → ∃ os, newObjs P ops env is = some os ∧ K os
  | [], K, h => ⟨[], rfl, h⟩
  | i :: is, K, h => by
    simp only [newObjsK] at h
    split at h
    · rename_i o ho
      obtain ⟨x, hx, h⟩ := newObjK_spec h
      obtain ⟨xs, hxs, h⟩ := newObjsK_spec h
      exact ⟨x :: xs, by simp [newObjs, ho, hx, hxs], h⟩
    · exact h.elim
def newsV (os : List AObj) (S : Store) (K : List Nat → Store → Prop) : Prop := ∀ ids S', Newed S os ids S' → K ids S'
def putN : List (Option Tmp) → List Nat → Env → Env
  | [], _, env => env
  | d :: ds, ids, env => putN ds ids.tail (setD env d (.p (ids.headD 0) 0 0))
def skN : List (Option Tmp) → (Nat → Bool) → (Nat → Bool)
  | [], sk => sk
  | d :: ds, sk => skN ds (skSet sk d false)
def dstOf (ops : Array Oper) (i : Nat) : Option Tmp := (ops[i]?).bind (·.dst)
def setAll : List Nat → Array Bool → Array Bool
  | [], l => l
  | i :: is, l => setAll is (l.setIfInBounds i true)

def vcD (P : Program) (ops : Array Oper) : List St → (Nat → Bool) → Env → Store → (Env → Store → Prop) → Prop
  | [], _, env, S, K => K env S
  | .q i :: rest, sk, env, S, K => match ops[i]? with
    | none => False
    | some o => gu sk ops o env (fun env => match mvA o.op env with
        | some v => vcD P ops rest (skSet sk o.dst false) (setD env o.dst v) S K
        | none => ∃ v, (∀ T, Keep S T → vcOp P o.op env T (fun u T' => u = v ∧ T' = T) (fun _ _ => False)) ∧ vcD P ops rest (skSet sk o.dst false) (setD env o.dst v) S K)
      (fun env => vcD P ops rest (skSet sk o.dst true) (setD env o.dst (.v undef)) S K)
  | .k i :: rest, sk, env, S, K => match ops[i]? with
    | none => False
    | some o => gu sk ops o env (fun env => vcOp P o.op env S (fun v S' => vcD P ops rest (skSet sk o.dst false) (setD env o.dst v) S' K) (fun _ _ => False))
      (fun env => vcD P ops rest (skSet sk o.dst true) (setD env o.dst (.v undef)) S K)
  | .n is :: rest, sk, env, S, K => newObjsK P ops env is fun os => newsV os S fun ids S' => vcD P ops rest (skN (is.map (dstOf ops)) sk) (putN (is.map (dstOf ops)) ids env) S' K

/-! Whether a plan is one. -/
def early (ops : Array Oper) (qs : List Nat) (j : Nat) : Bool := qs.contains j || match ops[j]? with | some o => newOp o.op && o.guard.isNone | none => false
/-- What can come up without i. -/
def grow (ops : Array Oper) (i : Nat) : Nat → Array Bool → Array Bool
  | 0, D => D
  | n + 1, D => grow ops i n (setAll ((Region.ready .any ops D).filter (· != i)) D)
def subA (a b : Array Bool) (n : Nat) : Bool := (List.range n).all fun k => !a.getD k false || b.getD k false
def calm (ops : Array Oper) (qs : List Nat) (i : Nat) (listed : Array Bool) : Bool :=
  let D := grow ops i ops.size listed
  subA listed D ops.size && (D.size == listed.size && (!D.getD i true && ((Region.ready .any ops D).all (· == i) && (List.range ops.size).all fun k => !D.getD k false || (listed.getD k true || early ops qs k))))
def planOk (ops : Array Oper) (qs : List Nat) : List St → Array Bool → Bool
  | [], listed => (Region.ready .any ops listed).isEmpty
  | .q i :: rest, listed => (Region.ready .any ops listed).contains i && (Region.free .any ops listed i && (qs.contains i && (calm ops qs i listed && planOk ops qs rest (listed.setIfInBounds i true))))
  | .k i :: rest, listed => Region.ready .any ops listed == [i] && (!qs.contains i && planOk ops qs rest (listed.setIfInBounds i true))
  | .n is :: rest, listed => is.all (fun i => (Region.ready .any ops listed).contains i && (!qs.contains i && (match ops[i]? with | some o => newOp o.op && o.guard.isNone | none => false))) &&
      (is.all (fun j => (Region.ready .any ops (setAll (is.erase j) listed)).all (· == j)) && (decide is.Nodup &&
      (is.all (fun i => is.all fun j => i == j || (match ops[i]?, ops[j]? with | some oi, some oj => oi.apart ops oj | _, _ => false)) && planOk ops qs rest (setAll is listed))))
/-- The plan: what leaves the store alone first. -/
def stepsOf (ops : Array Oper) (wr : List Nat) : Nat → Array Bool → List St
  | 0, _ => []
  | n + 1, listed =>
    let r := Region.ready .any ops listed
    match r.filter (fun i => !wr.contains i) with
    | i :: _ => .q i :: stepsOf ops wr n (listed.setIfInBounds i true)
    | [] => match r with
      | [] => []
      | [i] => .k i :: stepsOf ops wr n (listed.setIfInBounds i true)
      | is => .n is :: stepsOf ops wr n (setAll is listed)
def writersOf (ops : Array Oper) : List Nat := (List.range ops.size).filter fun i => match ops[i]? with | some o => !quietOp o.op | none => false
def qsOf : List St → List Nat
  | [] => []
  | .q i :: r => i :: qsOf r
  | _ :: r => qsOf r
def cntSt : List St → Nat
  | [] => 0
  | .n is :: r => is.length + cntSt r
  | _ :: r => cntSt r + 1
def planOf (ops : Array Oper) : Option (List St) :=
  let pl := stepsOf ops (writersOf ops) ops.size (Array.replicate ops.size false)
  match cntSt pl == ops.size && planOk ops (qsOf pl) pl (Array.replicate ops.size false) with
  | true => some pl
  | false => none

/-! Soundness. -/
def Step1 (P : Program) (ops : Array Oper) (o : Oper) (env : Env) (S : Store) (k : AV → Store → Prop) : Prop :=
  ∃ t, wantA ops env o = some t ∧ gd t (∃ k', vcOp P o.op env S k' (fun _ _ => False) ∧ ∀ v S', k' v S' → k v S') (k (.v undef) S)
def aW (P : Program) (ops : Array Oper) (qs : List Nat) (K : Env → Store → Prop) : Nat → Array Bool → Env → Store → Prop
  | 0, listed, env, S => Region.ready .any ops listed = [] ∧ K env S
  | n + 1, listed, env, S => (Region.ready .any ops listed = [] → K env S) ∧ ∀ i, i ∈ Region.ready .any ops listed → ∃ o, ops[i]? = some o ∧
      gd (qs.contains i) (∃ v, Yd P ops S o v env ∧ aW P ops qs K n (listed.setIfInBounds i true) (setD env o.dst v) S)
        (Step1 P ops o env S fun v S' => aW P ops qs K n (listed.setIfInBounds i true) (setD env o.dst v) S')

theorem vcOp_mono {P : Program} {o : Oper} {env : Env} {S : Store} {K X : AV → Store → Prop} {w : World} {g : Gh} {a : Act} (h : vcOp P o.op env S K X) (hh : Heap P w g S) (he : EnvR w g env a) {next : Act → World → Prop} {Q : Exit → Act → World → Prop}
    (hn : ∀ v S' w' g' y, Heap P w' g' S' → Mv w g w' g' → R w' g' v y → K v S' → next (a.put o.dst y) w') (hx : ∀ u S' w' g' y, Heap P w' g' S' → Mv w g w' g' → R w' g' u y → X u S' → Q (.panic [{ v := y, recovered := false }]) a w') : o.wp P a w next Q :=
  vcOp_sound h w g a next Q hh he hn hx
theorem aW_wp {P : Program} {ops : Array Oper} {qs : List Nat} {Q : AX → Env → Store → Prop} {w0 : World} {g0 : Gh} : ∀ (n : Nat) (listed : Array Bool) (env : Env) (S : Store) (w : World) (g : Gh) (a : Act), Heap P w g S → EnvR w g env a → Mv w0 g0 w g →
    aW P ops qs (fun env' S' => Q .normal env' S') n listed env S → wpAny P .any ops (Post P w0 g0 Q) n listed a w
  | 0, _, env, S, w, g, a, hh, he, m, h => ⟨h.1, .normal, env, S, g, hh, he, m, trivial, h.2⟩
  | n + 1, listed, env, S, w, g, a, hh, he, m, h => by
    refine ⟨fun h0 => ⟨.normal, env, S, g, hh, he, m, trivial, h.1 h0⟩, fun i hi => ?_⟩
    obtain ⟨o, ho, hg⟩ := h.2 i hi
    unfold wpOp
    simp only [ho]
    rcases gd_cases hg with ⟨_, v, ⟨t, ht, hy⟩, hn⟩ | ⟨_, t, ht, hy⟩
    · have hw := wantA_sound he ht
      rcases gd_cases hy with ⟨rfl, hy'⟩ | ⟨rfl, hy'⟩
      · rw [if_pos hw]
        refine .inl (vcOp_sound hy' w g a _ _ hh he (fun u S' w' g' y h1 h2 h3 h4 => ?_) (fun u S' w' g' y h1 h2 h3 h4 => h4.elim))
        obtain ⟨rfl, rfl⟩ := h4
        exact aW_wp n _ _ _ w' g' _ h1 ((he.mv h2).put o.dst h3) (m.trans h2) hn
      · rw [if_neg (by rw [hw]; simp)]
        subst hy'
        exact aW_wp n _ _ _ w g _ hh (he.put o.dst (.v _)) m hn
    · have hw := wantA_sound he ht
      rcases gd_cases hy with ⟨rfl, hy'⟩ | ⟨rfl, hy'⟩
      · rw [if_pos hw]
        obtain ⟨k', hy', hk'⟩ := hy'
        exact .inl (vcOp_sound hy' w g a _ _ hh he (fun u S' w' g' y h1 h2 h3 h4 => aW_wp n _ _ _ w' g' _ h1 ((he.mv h2).put o.dst h3) (m.trans h2) (hk' _ _ h4)) (fun u S' w' g' y h1 h2 h3 h4 => h4.elim))
      · rw [if_neg (by rw [hw]; simp)]
        exact aW_wp n _ _ _ w g _ hh (he.put o.dst (.v _)) m hy'

/-- What is known of the orders that leave i for later. -/
structure Calm (ops : Array Oper) (qs : List Nat) (i : Nat) (listed D : Array Bool) : Prop where
  size : D.size = listed.size
  sub : ∀ k, listed.getD k false = true → D.getD k false = true
  no : D.getD i true = false
  end_ : ∀ k, k ∈ Region.ready .any ops D → k = i
  ear : ∀ k, k < ops.size → D.getD k false = true → listed.getD k true = true ∨ early ops qs k = true
theorem getD_dd {l : Array Bool} {k : Nat} (h : k < l.size) (a b : Bool) : l.getD k a = l.getD k b := by simp [Array.getD_eq_getD_getElem?, h]
theorem Calm.ready {ops : Array Oper} {qs : List Nat} {i : Nat} {listed D : Array Bool} (c : Calm ops qs i listed D) (hs : listed.size = ops.size) {j : Nat} (hj : j ∈ Region.ready .any ops listed) (hne : j ≠ i) :
    early ops qs j = true ∧ Calm ops qs i (listed.setIfInBounds j true) D := by
  obtain ⟨hjun, oj, hoj, hall⟩ := mem_ready.1 hj
  have hlt : j < ops.size := (Array.getElem?_eq_some_iff.1 hoj).1
  have hD : D.getD j false = true := by
    cases hb : D.getD j false with
    | true => rfl
    | false =>
      exact absurd (c.end_ j (mem_ready.2 ⟨by rw [getD_dd (by rw [c.size, hs]; exact hlt) true false]; exact hb, oj, hoj, fun e he hb => c.sub _ (hall e he hb)⟩)) hne
  have he : early ops qs j = true := by
    rcases c.ear j hlt hD with h | h
    · rw [hjun] at h; cases h
    · exact h
  refine ⟨he, ⟨by simpa using c.size, fun k hk => ?_, c.no, c.end_, fun k hk hd => ?_⟩⟩
  · by_cases e : j = k
    · subst e; exact hD
    · rw [getD_set_ne false e] at hk
      exact c.sub k hk
  · by_cases e : j = k
    · subst e; exact .inr he
    · rw [getD_set_ne true e]
      exact c.ear k hk hd

theorem aW_first {P : Program} {ops : Array Oper} {qs : List Nat} {K : Env → Store → Prop} {i : Nat} {oi : Oper} {v : AV} (hi : ops[i]? = some oi) (hq : qs.contains i = true) {D : Array Bool} : ∀ (n : Nat) (listed : Array Bool) (env : Env) (S : Store),
    listed.size = ops.size → Calm ops qs i listed D →
    (∀ j oj, ops[j]? = some oj → j ≠ i → listed.getD j true = false → (∀ e ∈ oj.after, Region.binds .any e = true → e.on ≠ i) → oi.apart ops oj = true) →
    i ∈ Region.ready .any ops listed → (∀ T, Keep S T → Yd P ops T oi v env) → aW P ops qs K n (listed.setIfInBounds i true) (setD env oi.dst v) S → aW P ops qs K (n + 1) listed env S := by
  intro n
  induction n with
  | zero =>
    intro listed env S hs hc hfree hr hy H
    refine ⟨fun h => (by rw [h] at hr; cases hr), fun j hj => ?_⟩
    by_cases hji : j = i
    · subst hji
      exact ⟨oi, hi, by rw [hq]; exact ⟨v, hy S (Keep.refl S), H⟩⟩
    · have := ready_mono hj hji
      rw [H.1] at this
      cases this
  | succ n ih =>
    intro listed env S hs hc hfree hr hy H
    refine ⟨fun h => (by rw [h] at hr; cases hr), fun j hj => ?_⟩
    by_cases hji : j = i
    · subst hji
      exact ⟨oi, hi, by rw [hq]; exact ⟨v, hy S (Keep.refl S), H⟩⟩
    · obtain ⟨oj, hoj, Hj⟩ := H.2 j (ready_mono hj hji)
      obtain ⟨hjun, oj', hoj', hall⟩ := mem_ready.1 hj
      rw [hoj] at hoj'
      cases hoj'
      have hnot : ∀ e ∈ oj.after, Region.binds .any e = true → e.on ≠ i := fun e he hb heq => by
        have h1 := hall e he hb
        have h0 := (mem_ready.1 hr).1
        rw [heq] at h1
        rcases Nat.lt_or_ge i listed.size with h' | h'
        · simp [h'] at h0 h1; rw [h0] at h1; cases h1
        · simp [Array.getElem?_eq_none h'] at h1
      obtain ⟨h1, h2, h3⟩ := Oper.apart_spec (hfree j oj hoj hji hjun hnot)
      obtain ⟨hej, hcj⟩ := hc.ready hs hj hji
      have hfree' : ∀ k ok, ops[k]? = some ok → k ≠ i → (listed.setIfInBounds j true).getD k true = false → (∀ e ∈ ok.after, Region.binds .any e = true → e.on ≠ i) → oi.apart ops ok = true := fun k ok hk hki hun hno => by
        refine hfree k ok hk hki ?_ hno
        by_cases hjk : j = k
        · subst hjk; exact hjun
        · rw [getD_set_ne true hjk] at hun; exact hun
      refine ⟨oj, hoj, ?_⟩
      have hgo : ∀ (u : AV) (S' : Store), Keep S S' → aW P ops qs K n ((listed.setIfInBounds i true).setIfInBounds j true) (setD (setD env oi.dst v) oj.dst u) S' → aW P ops qs K (n + 1) (listed.setIfInBounds j true) (setD env oj.dst u) S' := fun u S' hk hA => by
        refine ih _ _ S' (by simpa using hs) hcj hfree' (ready_mono hr (Ne.symm hji)) (fun T hT => (Yd.setD h3).2 (hy T (hk.trans hT))) ?_
        rw [Array.setIfInBounds_comm _ _ hji, ← setD_comm v u h2]
        exact hA
      cases hqj : qs.contains j with
      | true =>
        rw [hqj] at Hj
        obtain ⟨u, hyj, Hj⟩ := Hj
        exact ⟨u, (Yd.setD h1).1 hyj, hgo u S (Keep.refl S) Hj⟩
      | false =>
        rw [hqj] at Hj
        have hnew : newOp oj.op = true ∧ oj.guard = none := by
          simp only [early, hqj, hoj, Bool.false_or, Bool.and_eq_true, Option.isNone_iff_eq_none] at hej
          exact hej
        obtain ⟨t, ht, hs'⟩ := Hj
        rw [wantA_setD h1] at ht
        have htt : t = true := by
          have : wantA ops env oj = some true := by simp [wantA, hnew.2]
          rw [this] at ht; cases ht; rfl
        subst htt
        rw [gd_true] at hs'
        obtain ⟨k', hs', hk'⟩ := hs'
        obtain ⟨x, hx1, hx2⟩ := vc_newObj hnew.1 hs'
        have hx2 := hk' _ _ hx2
        rw [newObj_congr (looksAt_ev h1)] at hx1
        refine ⟨true, ht, ?_⟩
        rw [gd_true]
        exact ⟨_, newObj_vc (K := fun v S' => aW P ops qs K (n + 1) (listed.setIfInBounds j true) (setD env oj.dst v) S') hx1 (hgo _ _ ((Keep.refl S).new _) hx2), fun _ _ h => h⟩

theorem setAll_get {l : Array Bool} : ∀ {is : List Nat} {k : Nat} {d : Bool}, k < l.size → (setAll is l).getD k d = (is.contains k || l.getD k d)
  | [], k, d, h => by simp [setAll]
  | i :: is, k, d, h => by
    rw [setAll, setAll_get (by simpa using h)]
    by_cases e : i = k
    · subst e; simp [h]
    · have e' : ¬ k = i := fun q => e q.symm
      rw [getD_set_ne d e]
      simp [e', List.contains_cons]
theorem setAll_size : ∀ {is : List Nat} {l : Array Bool}, (setAll is l).size = l.size
  | [], _ => rfl
  | i :: is, l => by rw [setAll, setAll_size]; simp
theorem setAll_ge {l : Array Bool} : ∀ {is : List Nat} {k : Nat} {d : Bool}, l.size ≤ k → (setAll is l).getD k d = d
  | is, k, d, h => by
    have : (setAll is l).size ≤ k := by rw [setAll_size]; exact h
    simp [Array.getD_eq_getD_getElem?, Array.getElem?_eq_none this]
theorem setAll_comm : ∀ {is : List Nat} {l : Array Bool} {i : Nat}, setAll is (l.setIfInBounds i true) = (setAll is l).setIfInBounds i true
  | [], l, i => rfl
  | j :: is, l, i => by
    rw [setAll, setAll, ← setAll_comm]
    by_cases e : i = j
    · subst e; rfl
    · rw [Array.setIfInBounds_comm _ _ e]
theorem setAll_erase : ∀ {is : List Nat} {l : Array Bool} {i : Nat}, i ∈ is → setAll (is.erase i) (l.setIfInBounds i true) = setAll is l
  | j :: is, l, i, h => by
    by_cases e : j = i
    · subst e; simp [setAll]
    · have hi : i ∈ is := by
        rcases List.mem_cons.1 h with h | h
        · exact absurd h.symm e
        · exact h
      rw [List.erase_cons_tail (by simpa using e), setAll, setAll, ← setAll_erase (l := l.setIfInBounds j true) hi, Array.setIfInBounds_comm _ _ e]

theorem ready_of_sub {ops : Array Oper} {l l' : Array Bool} {j : Nat} (hs : l.size = ops.size) (hs' : l'.size = ops.size) (hsub : ∀ k, l.getD k false = true → l'.getD k false = true) (hj : j ∈ Region.ready .any ops l) (hno : l'.getD j false = false) : j ∈ Region.ready .any ops l' := by
  obtain ⟨_, o, ho, hall⟩ := mem_ready.1 hj
  have hlt : j < ops.size := (Array.getElem?_eq_some_iff.1 ho).1
  exact mem_ready.2 ⟨by rw [getD_dd (by rw [hs']; exact hlt) true false]; exact hno, o, ho, fun e he hb => hsub _ (hall e he hb)⟩

/-- New objects to be made: what is known of them. -/
structure NewR (P : Program) (ops : Array Oper) (qs : List Nat) (is : List Nat) (listed : Array Bool) : Prop where
  size : listed.size = ops.size
  nodup : is.Nodup
  rdy : ∀ i ∈ is, i ∈ Region.ready .any ops listed
  last : ∀ j ∈ is, ∀ k, k ∈ Region.ready .any ops (setAll (is.erase j) listed) → k = j
  op : ∀ i ∈ is, qs.contains i = false ∧ ∃ o, ops[i]? = some o ∧ newOp o.op = true ∧ o.guard = none
  apart : ∀ i ∈ is, ∀ j ∈ is, i ≠ j → ∀ oi oj, ops[i]? = some oi → ops[j]? = some oj → oi.apart ops oj = true
theorem NewR.only {P : Program} {ops : Array Oper} {qs : List Nat} {is : List Nat} {listed : Array Bool} (h : NewR P ops qs is listed) (hne : is ≠ []) {k : Nat} (hk : k ∈ Region.ready .any ops listed) : k ∈ is := by
  obtain ⟨j, hj⟩ := List.exists_mem_of_ne_nil is hne
  by_cases hm : k ∈ is
  · exact hm
  · have hkl : k < ops.size := (by obtain ⟨_, o, ho, _⟩ := mem_ready.1 hk; exact (Array.getElem?_eq_some_iff.1 ho).1)
    have h0 := (mem_ready.1 hk).1
    have hne' : k ∉ is.erase j := fun q => hm (List.mem_of_mem_erase q)
    have := h.last j hj k (ready_of_sub h.size (by rw [setAll_size]; exact h.size) (fun x hx => by
      rcases Nat.lt_or_ge x listed.size with hx' | hx'
      · rw [setAll_get hx', hx]; simp
      · simp [Array.getD_eq_getD_getElem?, Array.getElem?_eq_none hx'] at hx) hk (by
        have hks : k < listed.size := by rw [h.size]; exact hkl
        rw [setAll_get hks, getD_dd hks false true, h0]; simpa using hne'))
    subst this
    exact hj
theorem NewR.step {P : Program} {ops : Array Oper} {qs : List Nat} {is : List Nat} {listed : Array Bool} (h : NewR P ops qs is listed) {i : Nat} (hi : i ∈ is) : NewR P ops qs (is.erase i) (listed.setIfInBounds i true) where
  size := by simpa using h.size
  nodup := h.nodup.erase i
  rdy j hj := ready_mono (h.rdy j (List.mem_of_mem_erase hj)) (fun e => by subst e; exact (h.nodup.mem_erase_iff.1 hj).1 rfl)
  last j hj k hk := by
    have hj' := h.nodup.mem_erase_iff.1 hj
    have hi' : i ∈ is.erase j := h.nodup.mem_erase_iff.2 ⟨Ne.symm hj'.1, hi⟩
    rw [List.erase_comm, setAll_erase hi'] at hk
    exact h.last j hj'.2 k hk
  op j hj := h.op j (List.mem_of_mem_erase hj)
  apart a ha b hb := h.apart a (List.mem_of_mem_erase ha) b (List.mem_of_mem_erase hb)

theorem putN_split {d : Option Tmp} {x : Nat} : ∀ (l1 : List (Option Tmp)) (l2 : List (Option Tmp)) (a b : List Nat) (env : Env), a.length = l1.length → (∀ e ∈ l1, ∀ t, d = some t → e ≠ some t) →
    putN (l1 ++ d :: l2) (a ++ x :: b) env = putN (l1 ++ l2) (a ++ b) (setD env d (.p x 0 0))
  | [], l2, a, b, env, hl, _ => by
    obtain rfl := List.eq_nil_of_length_eq_zero hl
    rfl
  | d1 :: l1, l2, a, b, env, hl, hd => by
    match a, hl with
    | a1 :: a, hl =>
      have hne := hd d1 (by simp)
      show putN (l1 ++ d :: l2) (a ++ x :: b) (setD env d1 (.p a1 0 0)) = putN (l1 ++ l2) (a ++ b) (setD (setD env d (.p x 0 0)) d1 (.p a1 0 0))
      rw [putN_split l1 l2 a b _ (by simpa using hl) (fun e he => hd e (by simp [he]))]
      rw [setD_comm (x := d) (y := d1) (.p x 0 0) (.p a1 0 0) (fun t ht => hne t ht)]

theorem newObjs_get {P : Program} {ops : Array Oper} {env : Env} : ∀ {is : List Nat} {os : List AObj}, newObjs P ops env is = some os → os.length = is.length ∧ ∀ (k i : Nat), is[k]? = some i → ∃ o x, ops[i]? = some o ∧ newObj P o.op env = some x ∧ os[k]? = some x
  | [], os, h => by cases h; exact ⟨rfl, fun k i h => by simp at h⟩
  | i :: is, os, h => by
    simp only [newObjs] at h
    split at h
    · rename_i o ho
      split at h
      · rename_i x hx
        split at h
        · rename_i xs hxs
          cases h
          obtain ⟨h1, h2⟩ := newObjs_get hxs
          refine ⟨by simp [h1], fun k j hj => ?_⟩
          cases k with
          | zero => cases hj; exact ⟨o, x, ho, hx, rfl⟩
          | succ k => exact h2 k j (by simpa using hj)
        · cases h
      · cases h
    · cases h
theorem newObjs_of {P : Program} {ops : Array Oper} {env : Env} : ∀ {is : List Nat} {os : List AObj}, os.length = is.length → (∀ (k i : Nat) (x : AObj), is[k]? = some i → os[k]? = some x → ∃ o, ops[i]? = some o ∧ newObj P o.op env = some x) → newObjs P ops env is = some os
  | [], os, hl, _ => by obtain rfl := List.eq_nil_of_length_eq_zero hl; rfl
  | i :: is, os, hl, h => by
    match os, hl with
    | x :: xs, hl =>
      obtain ⟨o, ho, hx⟩ := h 0 i x rfl rfl
      have := newObjs_of (P := P) (env := env) (is := is) (os := xs) (by simpa using hl) (fun k j y hj hy => h (k + 1) j y (by simpa using hj) (by simpa using hy))
      simp [newObjs, ho, hx, this]

theorem aW_news {P : Program} {ops : Array Oper} {qs : List Nat} {K : Env → Store → Prop} (N : Nat) : ∀ (m : Nat) (is : List Nat) (os : List AObj) (listed : Array Bool) (env : Env) (S : Store), is.length = m → NewR P ops qs is listed →
    newObjs P ops env is = some os → (∀ ids S', Newed S os ids S' → aW P ops qs K N (setAll is listed) (putN (is.map (dstOf ops)) ids env) S') → aW P ops qs K (N + m) listed env S := by
  intro m
  induction m with
  | zero =>
    intro is os listed env S hl hr ho H
    obtain rfl := List.eq_nil_of_length_eq_zero hl
    cases ho
    exact H [] S ⟨rfl, fun _ _ => rfl, rfl, List.nodup_nil, fun _ h => (by cases h), fun _ h => (by cases h), fun k id o h => (by simp at h)⟩
  | succ m ih =>
    intro is os listed env S hl hr ho H
    have hne : is ≠ [] := by rintro rfl; simp at hl
    refine ⟨fun h0 => ?_, fun i hi => ?_⟩
    · obtain ⟨j, hj⟩ := List.exists_mem_of_ne_nil is hne
      have := hr.rdy j hj
      rw [h0] at this; cases this
    · have him := hr.only hne hi
      obtain ⟨hqi, oi, hoi, hnew, hgd⟩ := hr.op i him
      refine ⟨oi, hoi, ?_⟩
      rw [hqi]
      obtain ⟨l1, l2, rfl, hn1⟩ := List.eq_append_cons_of_mem him
      have hn2 : i ∉ l2 := by
        have := (List.nodup_append.1 hr.nodup).2.1
        exact (List.nodup_cons.1 this).1
      have her : (l1 ++ i :: l2).erase i = l1 ++ l2 := by rw [List.erase_append_right _ hn1]; simp
      obtain ⟨hol, hog⟩ := newObjs_get ho
      have hoL : os.length = l1.length + (l2.length + 1) := by simpa using hol
      obtain ⟨o1, x, ho1, hx1, hx2⟩ := hog l1.length i (by simp)
      rw [hoi] at ho1
      cases ho1
      have hos : os = os.take l1.length ++ x :: os.drop (l1.length + 1) := by
        have hlt : l1.length < os.length := by omega
        have hx3 : os[l1.length] = x := by rw [List.getElem?_eq_getElem hlt] at hx2; exact Option.some.inj hx2
        rw [← hx3, ← List.drop_eq_getElem_cons, List.take_append_drop]
      generalize hA : os.take l1.length = A at hos
      generalize hB : os.drop (l1.length + 1) = B at hos
      have hAl : A.length = l1.length := by rw [← hA]; simp; omega
      have hBl : B.length = l2.length := by rw [← hB]; simp; omega
      subst hos
      refine ⟨true, by simp [wantA, hgd], ?_⟩
      rw [gd_true]
      refine ⟨_, newObj_vc (K := fun v S' => aW P ops qs K (N + m) (listed.setIfInBounds i true) (setD env oi.dst v) S') hx1 ?_, fun _ _ h => h⟩
      have hstep := hr.step him
      rw [her] at hstep
      have hset := setAll_erase (l := listed) him
      rw [her] at hset
      refine ih (l1 ++ l2) (A ++ B) _ _ _ (by simp at hl ⊢; omega) hstep (newObjs_of (by simp [hAl, hBl]) (fun k j y hj hy => ?_)) (fun ids S' hN => ?_)
      · have hjm : j ∈ l1 ++ l2 := List.mem_of_getElem? hj
        have hji : j ≠ i := fun e => by subst e; rcases List.mem_append.1 hjm with h | h; exact hn1 h; exact hn2 h
        have hjis : j ∈ l1 ++ i :: l2 := by rcases List.mem_append.1 hjm with h | h <;> simp [h]
        have hk : ∃ k' : Nat, (l1 ++ i :: l2)[k']? = some j ∧ (A ++ x :: B)[k']? = some y := by
          by_cases hkl : k < l1.length
          · refine ⟨k, ?_, ?_⟩
            · rw [List.getElem?_append_left hkl] at hj ⊢; exact hj
            · rw [List.getElem?_append_left (by omega)] at hy ⊢; exact hy
          · refine ⟨k + 1, ?_, ?_⟩
            · rw [List.getElem?_append_right (by omega)] at hj
              rw [List.getElem?_append_right (by omega), show k + 1 - l1.length = (k - l1.length) + 1 by omega]; simpa using hj
            · rw [List.getElem?_append_right (by omega)] at hy
              rw [List.getElem?_append_right (by omega), show k + 1 - A.length = (k - A.length) + 1 by omega]; simpa using hy
        obtain ⟨k', h1, h2⟩ := hk
        obtain ⟨o, y', h3, h4, h5⟩ := hog k' j h1
        rw [h2] at h5
        cases h5
        refine ⟨o, h3, ?_⟩
        have hap := (Oper.apart_spec (hr.apart i him j hjis (Ne.symm hji) oi o hoi h3)).1
        rw [newObj_congr (looksAt_ev hap)]
        exact h4
      · rw [hset]
        have hlen : ids.length = l1.length + l2.length := by rw [hN.len]; simp [hAl, hBl]
        have hids : ids = ids.take l1.length ++ ids.drop l1.length := (List.take_append_drop _ _).symm
        generalize hC : ids.take l1.length = C at hids
        generalize hE : ids.drop l1.length = E at hids
        have hCl : C.length = l1.length := by rw [← hC]; simp; omega
        have hEl : E.length = l2.length := by rw [← hE]; simp; omega
        subst hids
        have hdst : (setD env oi.dst (.p S.n 0 0)) = setD env (dstOf ops i) (.p S.n 0 0) := by simp [dstOf, hoi]
        rw [hdst, List.map_append, ← putN_split (l1.map (dstOf ops)) (l2.map (dstOf ops)) C E env (by simp [hCl]) ?_]
        · have := H (C ++ S.n :: E) S' ?_
          · simpa using this
          · have hlo : ∀ id ∈ C ++ E, S.n + 1 ≤ id := fun id h => by simpa [Store.new] using hN.lo id h
            refine ⟨by rw [hN.n]; simp [hAl, hBl, Store.new]; omega, fun q hq => ?_, by simp [hCl, hEl, hAl, hBl], ?_, fun id h => ?_, fun id h => ?_, fun k id o h1 h2 => ?_⟩
            · rw [hN.old q (by simp [Store.new]; omega)]
              simp only [Store.new]
              rw [if_neg (by omega)]
            · have hnd := hN.nodup
              rw [List.nodup_append] at hnd ⊢
              refine ⟨hnd.1, List.nodup_cons.2 ⟨fun h => ?_, hnd.2.1⟩, fun p hp q hq => ?_⟩
              · have := hlo _ (List.mem_append_right _ h); omega
              · rcases List.mem_cons.1 hq with rfl | hq
                · intro e; subst e; have := hlo _ (List.mem_append_left _ hp); omega
                · exact hnd.2.2 p hp q hq
            · rcases List.mem_append.1 h with h | h
              · have := hlo _ (List.mem_append_left _ h); omega
              · rcases List.mem_cons.1 h with rfl | h
                · exact Nat.le_refl _
                · have := hlo _ (List.mem_append_right _ h); omega
            · have hSn : S.n < S'.n := by rw [hN.n]; simp [Store.new]; omega
              rcases List.mem_append.1 h with h | h
              · exact hN.hi _ (List.mem_append_left _ h)
              · rcases List.mem_cons.1 h with rfl | h
                · exact hSn
                · exact hN.hi _ (List.mem_append_right _ h)
            · rcases Nat.lt_trichotomy k C.length with hk | hk | hk
              · rw [List.getElem?_append_left hk] at h1
                rw [List.getElem?_append_left (by omega)] at h2
                exact hN.new k id o (by rw [List.getElem?_append_left hk]; exact h1) (by rw [List.getElem?_append_left (by omega)]; exact h2)
              · subst hk
                simp at h1
                have : (A ++ x :: B)[C.length]? = some x := by rw [hCl, ← hAl]; simp
                rw [this] at h2
                cases h2
                subst h1
                rw [hN.old _ (by simp [Store.new])]
                simp [Store.new]
              · rw [List.getElem?_append_right (by omega), show k - C.length = (k - 1 - C.length) + 1 by omega] at h1
                rw [List.getElem?_append_right (by omega), show k - A.length = (k - 1 - A.length) + 1 by omega] at h2
                exact hN.new (k - 1) id o (by rw [List.getElem?_append_right (by omega)]; simpa using h1) (by rw [List.getElem?_append_right (by omega)]; simpa using h2)
        · intro e he t ht hq
          obtain ⟨j, hj, rfl⟩ := List.mem_map.1 he
          have hji : i ≠ j := fun q => by subst q; exact hn1 hj
          obtain ⟨_, oj, hoj, _⟩ := hr.op j (by simp [hj])
          have := (Oper.apart_spec (hr.apart i him j (by simp [hj]) hji oi oj hoi hoj)).2.1
          simp [dstOf, hoi] at ht
          simp [dstOf, hoj] at hq
          exact this t ht hq

theorem Sk.putN : ∀ {ds : List (Option Tmp)} {ids : List Nat} {sk : Nat → Bool} {env : Env}, Sk sk env → Sk (skN ds sk) (putN ds ids env)
  | [], _, _, _, h => h
  | d :: ds, ids, sk, env, h => Sk.putN (ds := ds) (ids := ids.tail) (sk := skSet sk d false) (env := setD env d (.p (ids.headD 0) 0 0)) (h.del d _)
theorem calm_spec {ops : Array Oper} {qs : List Nat} {i : Nat} {listed : Array Bool} (h : calm ops qs i listed = true) (hs : listed.size = ops.size) : ∃ D, Calm ops qs i listed D := by
  simp only [calm, Bool.and_eq_true, List.all_eq_true, List.mem_range, Bool.or_eq_true, Bool.not_eq_true', beq_iff_eq, subA] at h
  obtain ⟨h1, h2, h3, h4, h5⟩ := h
  refine ⟨_, ⟨h2, fun k hk => ?_, h3, h4, fun k hk hd => ?_⟩⟩
  · have hkl : k < ops.size := by
      rcases Nat.lt_or_ge k ops.size with h' | h'
      · exact h'
      · simp [Array.getD_eq_getD_getElem?, Array.getElem?_eq_none (show listed.size ≤ k by omega)] at hk
    rcases h1 k hkl with h | h
    · rw [hk] at h; cases h
    · exact h
  · rcases h5 k hk with h | h | h
    · rw [hd] at h; cases h
    · exact .inl h
    · exact .inr h
theorem aW_plan {P : Program} {ops : Array Oper} {qs : List Nat} {K : Env → Store → Prop} : ∀ (pl : List St) (sk : Nat → Bool) (listed : Array Bool) (env : Env) (S : Store), listed.size = ops.size → Sk sk env → planOk ops qs pl listed = true →
    vcD P ops pl sk env S K → aW P ops qs K (cntSt pl) listed env S
  | [], sk, listed, env, S, hs, hsk, hp, h => ⟨by simpa [planOk] using hp, h⟩
  | .q i :: rest, sk, listed, env, S, hs, hsk, hp, h => by
    simp only [planOk, Bool.and_eq_true] at hp
    obtain ⟨h1, h2, h3, h4, h5⟩ := hp
    obtain ⟨D, hD⟩ := calm_spec h4 hs
    simp only [vcD] at h
    split at h
    · exact h.elim
    · rename_i o ho
      rcases gu_spec hsk h with ⟨ht, h'⟩ | ⟨ht, h'⟩
      · have h'' : ∃ v, (∀ T, Keep S T → vcOp P o.op env T (fun u T' => u = v ∧ T' = T) (fun _ _ => False)) ∧ vcD P ops rest (skSet sk o.dst false) (setD env o.dst v) S K := by
          split at h'
          · rename_i v hv
            exact ⟨v, fun T _ => mvA_op hv, h'⟩
          · exact h'
        obtain ⟨v, k1, k2⟩ := h''
        exact aW_first ho h3 _ listed env S hs hD (Region.free_spec ho h2) (by simpa using h1) (fun T hT => ⟨true, ht, k1 T hT⟩) (aW_plan rest _ _ _ _ (by simpa using hs) (hsk.del o.dst v) h5 k2)
      · exact aW_first ho h3 _ listed env S hs hD (Region.free_spec ho h2) (by simpa using h1) (fun T hT => ⟨false, ht, rfl⟩) (aW_plan rest _ _ _ _ (by simpa using hs) (hsk.add o.dst) h5 h')
  | .k i :: rest, sk, listed, env, S, hs, hsk, hp, h => by
    simp only [planOk, Bool.and_eq_true, beq_iff_eq, Bool.not_eq_true'] at hp
    obtain ⟨h1, h2, h3⟩ := hp
    simp only [vcD] at h
    split at h
    · exact h.elim
    · rename_i o ho
      refine ⟨fun h0 => (by rw [h0] at h1; cases h1), fun j hj => ?_⟩
      rw [h1] at hj
      obtain rfl := List.mem_singleton.1 hj
      refine ⟨o, ho, ?_⟩
      rw [h2]
      rcases gu_spec hsk h with ⟨ht, h'⟩ | ⟨ht, h'⟩
      · refine ⟨true, ht, ?_⟩
        rw [gd_true]
        exact ⟨_, h', fun v S' hv => aW_plan rest _ _ _ _ (by simpa using hs) (hsk.del o.dst v) h3 hv⟩
      · exact ⟨false, ht, aW_plan rest _ _ _ _ (by simpa using hs) (hsk.add o.dst) h3 h'⟩
  | .n is :: rest, sk, listed, env, S, hs, hsk, hp, h => by
    simp only [planOk, Bool.and_eq_true, List.all_eq_true, Bool.not_eq_true', decide_eq_true_eq, Bool.or_eq_true, beq_iff_eq] at hp
    obtain ⟨h1, h2, h3, h4, h5⟩ := hp
    simp only [vcD] at h
    · obtain ⟨os, hos, h⟩ := newObjsK_spec h
      show aW P ops qs K (is.length + cntSt rest) listed env S
      rw [Nat.add_comm]
      refine aW_news (cntSt rest) is.length is os listed env S rfl ⟨hs, h3, fun i hi => by simpa using (h1 i hi).1, h2, fun i hi => ?_, fun a ha b hb hne oa ob hoa hob => ?_⟩ hos (fun ids S' hN => aW_plan rest _ _ _ _ (by rw [setAll_size]; exact hs) (Sk.putN hsk) h5 (h ids S' hN))
      · obtain ⟨_, k2, k3⟩ := h1 i hi
        refine ⟨k2, ?_⟩
        cases ho : ops[i]? with
        | none => rw [ho] at k3; cases k3
        | some o =>
          rw [ho] at k3
          simp only [Bool.and_eq_true, Option.isNone_iff_eq_none] at k3
          exact ⟨o, rfl, k3⟩
      · rcases h4 a ha b hb with h | h
        · exact absurd h hne
        · rw [hoa, hob] at h; exact h
theorem planOf_spec {ops : Array Oper} {pl : List St} (h : planOf ops = some pl) : cntSt pl = ops.size ∧ planOk ops (qsOf pl) pl (Array.replicate ops.size false) = true := by
  simp only [planOf] at h
  split at h
  · rename_i hb
    cases h
    simp only [Bool.and_eq_true, beq_iff_eq] at hb
    exact hb
  · cases h
/-- A region that draws its order and writes. -/
theorem draw_plan {P : Program} (hm : P.follows .mixedOrders = true) {id : Nat} {ops : Array Oper} {pl : List St} (hp : planOf ops = some pl) {env : Env} {S : Store} {K : AX → Env → Store → Prop}
    (h : vcD P ops pl (fun _ => false) env S (fun env' S' => K .normal env' S')) : drawV P id ops env S K := by
  intro w g a hh he
  obtain ⟨h1, h2⟩ := planOf_spec hp
  refine wp_region_any hm ?_
  have h3 := aW_plan (qs := qsOf pl) pl (fun _ => false) (Array.replicate ops.size false) env S (by simp) (Sk.nil env) h2 h
  have h4 := aW_wp (w0 := w) (g0 := g) (cntSt pl) (Array.replicate ops.size false) env S w.drew g a hh.drew (he.mv (mv_drew w g)) (mv_drew w g) h3
  rw [h1] at h4
  simpa using h4
end Go.Ab

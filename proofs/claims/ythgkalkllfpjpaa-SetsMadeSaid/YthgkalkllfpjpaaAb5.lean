/- It is proved here that each of the laws of sets (SetsMade, SetsFix, SetsMore, SetsFair) returns true for every input and changes none of its arguments. There is no condition beyond the given statement. -/
import Derived.Test.YthgkalkllfpjpaaAbD
import Derived.WalkMore
set_option linter.unusedVariables false
set_option linter.unusedSimpArgs false
namespace Go.Ab
open Go Go.RowKit

/-! ### Code -/
/-- What stands behind, told by its own continuation. -/
abbrev seqK (V : Env → Store → (AX → Env → Store → Prop) → Prop) (K : AX → Env → Store → Prop) : AX → Env → Store → Prop
  | .normal, env, S => V env S K
  | x, env, S => K x env S
abbrev thenK (N : Env → Store → Prop) (K : AX → Env → Store → Prop) : AX → Env → Store → Prop
  | .normal, env, S => N env S
  | x, env, S => K x env S

/-- Slots of whose worth a list tells. -/
def mkE (n : Nat) : List Nat → List AV → Env
  | d :: ds, x :: xs => (mkE n ds xs).put d x
  | _, _ => ⟨n, fun _ => .j, fun _ _ => rfl⟩
theorem mkE_n (n : Nat) : ∀ (ds : List Nat) (xs : List AV), (mkE n ds xs).n = n
  | d :: ds, x :: xs => mkE_n n ds xs
  | [], xs => by cases xs <;> rfl
  | d :: ds, [] => rfl
theorem EnvR.some {w : World} {g : Gh} {env : Env} {a : Act} (h : EnvR w g env a) : ∀ lv : List Nat, EnvR w g (mkE env.n lv (lv.map env.f)) a
  | [] => ⟨h.size, fun k => .j _, h.defers⟩
  | d :: lv => by
    have ih := EnvR.some h lv
    refine ⟨(mkE_n env.n (d :: lv) _).trans h.size, fun k => ?_, h.defers⟩
    show R w g (((mkE env.n lv (lv.map env.f)).put d (env.f d)).f k) _
    by_cases e : k = d
    · subst e
      rcases Nat.lt_or_ge k env.n with hi | hi
      · rw [Env.put_eq _ _ (by rw [mkE_n]; exact hi)]
        exact h.rel k
      · rw [Env.out _ k (by show (mkE env.n lv (lv.map env.f)).n ≤ k; rw [mkE_n]; exact hi)]
        exact .j _
    · rw [Env.put_ne _ _ e]
      exact ih.rel k
abbrev fgK (lv : List Nat) (KE : Nat → List AV → Store → Prop) (e : Env) (S : Store) : Prop := KE e.n (lv.map e.f) S

/-- n: how many slots; lv: those that are handed on. -/
def loopV (lv : List Nat) (B : Env → Store → (AX → Env → Store → Prop) → Prop) (n : Nat) (l : List AV) (S : Store) (K : AX → Env → Store → Prop) : Prop :=
  ∃ (I : Nat → List AV → Store → Prop) (μ : Nat → List AV → Store → Nat), I n l S ∧ ∀ n l S, I n l S → B (mkE n lv l) S (thenK (fgK lv fun n' l' S' => I n' l' S' ∧ μ n' l' S' < μ n l S) K)

abbrev blockK (id : Nat) (K : AX → Env → Store → Prop) : AX → Env → Store → Prop
  | .exit id', env, S => match Nat.beq id' id with | true => K .normal env S | false => K (.exit id') env S
  | x, env, S => K x env S
abbrev scopeK (K : AX → Env → Store → Prop) : AX → Env → Store → Prop
  | .goto _, _, _ => False
  | x, env, S => K x env S


/-- An operation that leaves the store alone. -/
def stillOp : Op → Bool
  | .store _ _ _ | .alloc _ | .box _ _ | .makeSlice _ _ _ | .makeMap _ _ | .mapUpdate _ _ _ _ | .insert _ _ _ _ | .mapEntry _ _ _ | .entryStore _ _ _ _ | .range _ _ | .next _ _ | .call { callee := .builtin .append, .. } => false
  | .move _ | .assign _ | .pick _ _ _ | .build _ _ | .buildSlice _ _ _ | .load _ _ | .binOp _ _ _ _ _ | .unOp _ _ _ | .makeFunc _ _ _ | .slice _ _ _ _ _ | .fieldAddr _ _ _ | .field _ _ _ | .indexAddr _ _ _ | .index _ _ _ | .extract _ _ | .convert _ _ _ | .nilCheck _ | .call _ => true
  | _ => false

/-- Whether a region is a long one. -/
def long (ops : Array Oper) : Bool := Nat.blt 40 ops.size
/-- How many loops a text has. -/
def nl : Code → Nat
  | .seq a b => nl a + nl b
  | .cond _ a b => nl a + nl b
  | .block _ c => nl c
  | .scope c => nl c
  | .loop c => nl c + 1
  | _ => 0

/-- ms: for each loop, which slots it hands on. -/
def vc (P : Program) : Code → List (List Nat) → Env → Store → (AX → Env → Store → Prop) → Prop
  | .skip, _, env, S, K => K .normal env S
  | .label _, _, env, S, K => K .normal env S
  | .exit id, _, env, S, K => K (.exit id) env S
  | .goto l, _, env, S, K => K (.goto l) env S
  | .ret, _, env, S, K => K .ret env S
  | .seq a b, ms, env, S, K => vc P a ms env S (seqK (vc P b (ms.drop (nl a))) K)
  | .cond c x y, ms, env, S, K => onB (ev env c) fun b => gd b (vc P x ms env S K) (vc P y (ms.drop (nl x)) env S K)
  | .block id c, ms, env, S, K => vc P c ms env S (blockK id K)
  | .loop c, ms, env, S, K => loopV (ms.headD []) (vc P c ms.tail) env.n ((ms.headD []).map env.f) S K
  | .scope c, ms, env, S, K => vc P c ms env S (scopeK K)
  | .region id ops draw, _, env, S, K => match draw with
    | true => match P.follows .mixedOrders && (Region.lexB .any ops && ops.all (stillOp ·.op)) with
      | true => match long ops with
        | true => vcQJ P ops S ops.toList env (fun env' => K .normal env' S)
        | false => vcQ P ops S ops.toList (fun _ => false) env (fun env' => K .normal env' S)
      | false => match planOf ops, P.follows .mixedOrders with
        | some pl, true => vcD P ops pl (fun _ => false) env S (fun env' S' => K .normal env' S')
        | _, _ => drawV P id ops env S K
    | false => match long ops with
      | true => vcJ P ops ops.toList env S (fun env' S' => K .normal env' S') (fun u env' S' => K (.pan u) env' S')
      | false => vcOps P ops ops.toList (fun _ => false) env S (fun env' S' => K .normal env' S') (fun u env' S' => K (.pan u) env' S')
  | _, _, _, _, _ => False

theorem Post.of_mv {P : Program} {w0 : World} {g0 : Gh} {w : World} {g : Gh} (m : Mv w0 g0 w g) {Q : AX → Env → Store → Prop} {e : Exit} {a : Act} {w' : World} (h : Post P w g Q e a w') : Post P w0 g0 Q e a w' := by
  obtain ⟨x, env', S', g', h1, h2, h3, h4, h5⟩ := h
  exact ⟨x, env', S', g', h1, h2, m.trans h3, h4, h5⟩

theorem exists_min {p : Nat → Prop} (h : ∃ n, p n) : ∃ m, p m ∧ ∀ n, p n → m ≤ n := by
  obtain ⟨n, hn⟩ := h
  induction n using Nat.strongRecOn with
  | _ n ih =>
    by_cases hm : ∃ k, k < n ∧ p k
    · obtain ⟨k, hk, hp⟩ := hm
      exact ih k hk hp
    · exact ⟨n, hn, fun k hk => by
        rcases Nat.lt_or_ge k n with h | h
        · exact absurd ⟨k, h, hk⟩ hm
        · exact h⟩
open Classical in
noncomputable def sInfN (p : Nat → Prop) : Nat := if h : ∃ n, p n then Classical.choose (exists_min h) else 0
theorem sInfN_mem {p : Nat → Prop} (h : ∃ n, p n) : p (sInfN p) := by
  unfold sInfN
  rw [dif_pos h]
  exact (Classical.choose_spec (exists_min h)).1
theorem sInfN_le {p : Nat → Prop} {n : Nat} (h : p n) : sInfN p ≤ n := by
  unfold sInfN
  rw [dif_pos ⟨n, h⟩]
  exact (Classical.choose_spec (exists_min ⟨n, h⟩)).2 n h
theorem vc_sound {P : Program} : ∀ (c : Code) (ms : List (List Nat)) (env : Env) (S : Store) (K : AX → Env → Store → Prop), vc P c ms env S K → AWp P c env S K
  | .skip, ms, env, S, K, h => fun w g a hh he => wp_skip ⟨.normal, env, S, g, hh, he, Mv.refl _ _, trivial, h⟩
  | .label _, ms, env, S, K, h => fun w g a hh he => wp_label ⟨.normal, env, S, g, hh, he, Mv.refl _ _, trivial, h⟩
  | .exit id, ms, env, S, K, h => fun w g a hh he => wp_exit ⟨.exit id, env, S, g, hh, he, Mv.refl _ _, rfl, h⟩
  | .goto l, ms, env, S, K, h => fun w g a hh he => wp_goto ⟨.goto l, env, S, g, hh, he, Mv.refl _ _, rfl, h⟩
  | .ret, ms, env, S, K, h => fun w g a hh he => wp_ret ⟨.ret, env, S, g, hh, he, Mv.refl _ _, trivial, h⟩
  | .seq a b, ms, env, S, K, h => by
    have ha := vc_sound a ms env S _ h
    intro w g ac hh he
    refine wp_seq (wp_mono (ha w g ac hh he) ?_)
    rintro e a' w' ⟨x, env', S', g', h1, h2, h3, h4, h5⟩
    cases x with
    | normal =>
      cases e with
      | normal => exact wp_mono (vc_sound b _ env' S' K h5 w' g' a' h1 h2) (fun e a w => Post.of_mv h3)
      | _ => exact h4.elim
    | exit id => cases e <;> first | exact h4.elim | exact ⟨.exit id, env', S', g', h1, h2, h3, h4, h5⟩
    | goto l => cases e <;> first | exact h4.elim | exact ⟨.goto l, env', S', g', h1, h2, h3, h4, h5⟩
    | ret => cases e <;> first | exact h4.elim | exact ⟨.ret, env', S', g', h1, h2, h3, h4, h5⟩
    | pan x => cases e <;> first | exact h4.elim | exact ⟨.pan x, env', S', g', h1, h2, h3, h4, h5⟩
  | .cond c x y, ms, env, S, K, h => by
    simp only [vc, onB] at h
    split at h
    · rename_i b hb
      intro w g a hh he
      have h1 := he.ev c
      rw [hb] at h1
      rcases gd_cases h with ⟨rfl, h'⟩ | ⟨rfl, h'⟩
      · exact wp_cond_true h1.inv_v (vc_sound x _ env S K h' w g a hh he)
      · exact wp_cond_false h1.inv_v (vc_sound y _ env S K h' w g a hh he)
    · exact h.elim
  | .block id c, ms, env, S, K, h => by
    have hc := vc_sound c _ env S _ h
    intro w g a hh he
    refine wp_block (wp_mono (hc w g a hh he) ?_)
    rintro e a' w' ⟨x, env', S', g', h1, h2, h3, h4, h5⟩
    cases x with
    | normal => cases e <;> first | exact h4.elim | exact ⟨.normal, env', S', g', h1, h2, h3, trivial, h5⟩
    | exit id' =>
      cases e with
      | exit id2 =>
        obtain rfl : id' = id2 := h4
        simp only [blockK] at h5
        simp only [Exit.inBlock]
        split at h5
        · rename_i hid
          have hid : id' = id := Nat.eq_of_beq_eq_true hid
          rw [if_pos hid]
          exact ⟨.normal, env', S', g', h1, h2, h3, trivial, h5⟩
        · rename_i hid
          have hid : id' ≠ id := Nat.ne_of_beq_eq_false hid
          rw [if_neg hid]
          exact ⟨.exit id', env', S', g', h1, h2, h3, rfl, h5⟩
      | _ => exact h4.elim
    | goto l => cases e <;> first | exact h4.elim | exact ⟨.goto l, env', S', g', h1, h2, h3, h4, h5⟩
    | ret => cases e <;> first | exact h4.elim | exact ⟨.ret, env', S', g', h1, h2, h3, h4, h5⟩
    | pan x => cases e <;> first | exact h4.elim | exact ⟨.pan x, env', S', g', h1, h2, h3, h4, h5⟩
  | .loop c, ms, env, S, K, h => by
    obtain ⟨I, μ, hI, hr⟩ := h
    intro w g a hh he
    generalize hlv : ms.headD [] = lv at *
    have hcl : ∀ n l S, I n l S → AWp P c (mkE n lv l) S (thenK (fgK lv fun n' l' S' => I n' l' S' ∧ μ n' l' S' < μ n l S) K) := fun n l S hi => vc_sound c _ (mkE n lv l) S _ (hr n l S hi)
    -- the machine's measure: the least that any reading of this state has
    have key := wp_loop (P := P) (c := c) (Q := Post P w g K) (a := a) (w := w)
      (I := fun a' w' => ∃ n l S' g' m, Heap P w' g' S' ∧ EnvR w' g' (mkE n lv l) a' ∧ Mv w g w' g' ∧ I n l S' ∧ μ n l S' = m)
      (μ := fun a' w' => sInfN (fun m => ∃ n l S' g', Heap P w' g' S' ∧ EnvR w' g' (mkE n lv l) a' ∧ Mv w g w' g' ∧ I n l S' ∧ μ n l S' = m))
      ⟨env.n, lv.map env.f, S, g, _, hh, he.some _, Mv.refl _ _, hI, rfl⟩ ?_
    · exact key
    · rintro a1 w1 ⟨n0, l0, S0, g0, m0, h10, h20, h30, h40, h50⟩
      obtain ⟨n1, l1, S1, g1, h1, h2, h3, h4, h5⟩ := sInfN_mem (p := fun m => ∃ n l S' g', Heap P w1 g' S' ∧ EnvR w1 g' (mkE n lv l) a1 ∧ Mv w g w1 g' ∧ I n l S' ∧ μ n l S' = m) ⟨m0, n0, l0, S0, g0, h10, h20, h30, h40, h50⟩
      refine wp_mono (hcl n1 l1 S1 h4 w1 g1 a1 h1 h2) ?_
      rintro e a' w' ⟨x, env', S', g', k1, k2, k3, k4, k5⟩
      cases x with
      | normal =>
        cases e with
        | normal =>
          obtain ⟨k6, k7⟩ := k5
          refine ⟨⟨env'.n, lv.map env'.f, S', g', _, k1, k2.some _, h3.trans k3, k6, rfl⟩, ?_⟩
          have hle := sInfN_le (p := fun m => ∃ n l S'' g'', Heap P w' g'' S'' ∧ EnvR w' g'' (mkE n lv l) a' ∧ Mv w g w' g'' ∧ I n l S'' ∧ μ n l S'' = m) (n := μ env'.n (lv.map env'.f) S') ⟨env'.n, lv.map env'.f, S', g', k1, k2.some _, h3.trans k3, k6, rfl⟩
          exact Nat.lt_of_le_of_lt hle (by rw [h5] at k7; exact k7)
        | _ => exact k4.elim
      | exit id => cases e <;> first | exact k4.elim | exact ⟨.exit id, env', S', g', k1, k2, h3.trans k3, k4, k5⟩
      | goto l => cases e <;> first | exact k4.elim | exact ⟨.goto l, env', S', g', k1, k2, h3.trans k3, k4, k5⟩
      | ret => cases e <;> first | exact k4.elim | exact ⟨.ret, env', S', g', k1, k2, h3.trans k3, k4, k5⟩
      | pan x => cases e <;> first | exact k4.elim | exact ⟨.pan x, env', S', g', k1, k2, h3.trans k3, k4, k5⟩
  | .scope c, ms, env, S, K, h => by
    have hc := vc_sound c _ env S _ h
    intro w g a hh he
    refine wp_scope_straight (wp_mono (hc w g a hh he) ?_)
    rintro e a' w' ⟨x, env', S', g', h1, h2, h3, h4, h5⟩
    cases x with
    | normal => cases e <;> first | exact h4.elim | exact ⟨.normal, env', S', g', h1, h2, h3, trivial, h5⟩
    | exit id' => cases e <;> first | exact h4.elim | exact ⟨.exit id', env', S', g', h1, h2, h3, h4, h5⟩
    | goto l => exact h5.elim
    | ret => cases e <;> first | exact h4.elim | exact ⟨.ret, env', S', g', h1, h2, h3, h4, h5⟩
    | pan x => cases e <;> first | exact h4.elim | exact ⟨.pan x, env', S', g', h1, h2, h3, h4, h5⟩
  | .region id ops draw, ms, env, S, K, h => by
    cases draw with
    | true =>
      simp only [vc] at h
      split at h
      · rename_i hb
        simp only [Bool.and_eq_true] at hb
        split at h
        · exact draw_quietJ hb.1 hb.2.1 h
        · exact draw_quiet hb.1 hb.2.1 h
      · split at h
        · rename_i pl hp hm
          exact draw_plan hm hp h
        · exact h
    | false =>
      simp only [vc] at h
      split at h
      · exact fun w g a hh he => wp_region_list (vcJ_sound ops.toList env S w g a hh he (Mv.refl _ _) h)
      · exact fun w g a hh he => wp_region_list (vcOps_sound ops.toList (fun _ => false) env S w g a (Sk.nil env) hh he (Mv.refl _ _) h)
  | .rangeFunc _ _ _ _, _, _, _, _, h => h.elim
  | .refuse _, _, _, _, _, h => h.elim

/-! ### Functions -/
abbrev resV (P : Program) : List ResultVar → Env → Store → (List AV → Prop) → Prop
  | [], _, _, K => K []
  | .tmp t :: rs, env, S, K => resV P rs env S fun l => K (env.f t :: l)
  | .cell a t :: rs, env, S, K => ld P t (env.f a) S fun u _ => resV P rs env S fun l => K (u :: l)
def retV (l : List AV) : AV := match l with | [x] => x | l => .t l
abbrev bodyK (P : Program) (rs : List ResultVar) (Q : AEnd → Store → Prop) : AX → Env → Store → Prop
  | .normal, env, S | .ret, env, S => resV P rs env S fun l => Q (.ret (retV l)) S
  | .pan x, _, S => Q (.pan x) S
  | _, _, _ => False


theorem run_results {P : Program} {w : World} {g : Gh} {S : Store} (hh : Heap P w g S) {env : Env} {a : Act} (he : EnvR w g env a) : ∀ (rs : List ResultVar) (K : List AV → Prop), resV P rs env S K →
    ∃ (l : List AV) (vs : List Value), (rs.mapM (m := Sem) fun | .tmp t => pure (a.tmps.getD t undef) | .cell ad t => do loadVar t (← asAddr (a.tmps.getD ad undef))).run P w = .ok vs w ∧ l.length = vs.length ∧ (∀ (k : Nat) (u : AV), l[k]? = some u → ∃ v, vs[k]? = some v ∧ R w g u v) ∧ K l
  | [], K, h => ⟨[], [], by simp, rfl, fun k u hu => by simp at hu, h⟩
  | .tmp t :: rs, K, h => by
    obtain ⟨l, vs, h1, h2, h3, h4⟩ := run_results hh he rs _ h
    refine ⟨env.f t :: l, a.tmps.getD t undef :: vs, ?_, by simp [h2], fun k u hu => ?_, h4⟩
    · rw [List.mapM_cons]
      simp only [Sem.run_bind, Sem.run_pure, Result.andThen_ok, h1]
    · cases k with
      | zero => cases hu; exact ⟨_, rfl, he.ev (.tmp t)⟩
      | succ k => exact h3 k u (by simpa using hu)
  | .cell ad t :: rs, K, h => by
    obtain ⟨ad', u, v, hy, hrun, hr, h'⟩ := run_ld hh (he.ev (.tmp ad)) h
    have hy' : a.tmps.getD ad undef = .pointer (some ad') := hy
    obtain ⟨l, vs, h1, h2, h3, h4⟩ := run_results hh he rs _ h'
    refine ⟨u :: l, v :: vs, ?_, by simp [h2], fun k u hu => ?_, h4⟩
    · rw [List.mapM_cons]
      have hA : (asAddr (a.tmps.getD ad undef)).run P w = .ok ad' w := by rw [hy']; rfl
      simp only [Sem.run_bind, Sem.run_pure, Result.andThen_ok, hA, hrun, h1]
    · cases k with
      | zero => cases hu; exact ⟨_, rfl, hr⟩
      | succ k => exact h3 k u (by simpa using hu)

def enterOk (P : Program) (f : FuncId) : Bool :=
  match P.funcs[f]? with
  | some fn => !(fn.name == "runtime.NumGoroutine") && fn.body.isSome
  | none => false
theorem enterOk_run {P : Program} {f : FuncId} (h : enterOk P f = true) (vs : Array Value) (w : World) : (callFunc f vs).run P w = .ok (.enter f vs) w := by
  unfold enterOk at h
  unfold callFunc
  simp only [Sem.run_bind, run_program, Result.andThen_ok]
  split at h
  · rename_i fn hf
    rw [hf]
    simp only [Bool.and_eq_true, Bool.not_eq_true'] at h
    obtain ⟨h1, h2⟩ := h
    have h3 : fn.body.isNone = false := by cases hb : fn.body <;> simp_all
    simp [h1, h3]
  · cases h

theorem run_retV {P : Program} {fn : Func} {w : World} {g : Gh} {S : Store} (hh : Heap P w g S) {env : Env} {a : Act} (he : EnvR w g env a) {K : List AV → Prop} (h : resV P fn.results.toList env S K) :
    ∃ l v, (results fn a.tmps).run P w = .ok v w ∧ R w g (retV l) v ∧ K l := by
  obtain ⟨l, vs, h1, h2, h3, h4⟩ := run_results hh he fn.results.toList K h
  refine ⟨l, if h : vs.toArray.size = 1 then vs.toArray[0] else .tuple vs.toArray, ?_, ?_, h4⟩
  · unfold results
    rw [Sem.run_bind, Array.mapM_eq_mapM_toList, Sem.run_map]
    erw [h1]
    simp
  · unfold retV
    split
    · rename_i x
      obtain ⟨v, hv, hr⟩ := h3 0 x rfl
      have hl : vs.toArray.size = 1 := by simp; simp at h2; omega
      rw [dif_pos hl]
      have : vs.toArray[0] = v := by
        have h5 := (List.getElem?_eq_some_iff.1 hv).2
        simpa using h5
      rw [this]
      exact hr
    · rename_i hne
      have hl : ¬ vs.toArray.size = 1 := by
        intro hl
        simp at hl
        rw [hl] at h2
        match l, h2 with
        | [x], _ => exact hne x rfl
      rw [dif_neg hl]
      refine .t _ _ (by simpa using h2) (fun k u hu => ?_)
      obtain ⟨v, hv, hr⟩ := h3 k u hu
      simpa [Array.getD_eq_getD_getElem?, hv] using hr

def ofArgs (n : Nat) (args : List AV) : Env :=
  ⟨n, fun i => match Nat.blt i n with | true => args.getD i .j | false => .j, fun k h => by
    cases hb : Nat.blt k n with
    | false => rfl
    | true => have : k < n := by simpa [Nat.blt_eq] using hb
              omega⟩
/-- A function's contract out of its text. -/
theorem calls_of_vc {P : Program} {f : FuncId} {fn : Func} {c : Code} {args : List AV} {S : Store} {Q : AEnd → Store → Prop} {n : Nat} (hf : P.funcs[f]? = some fn) (hb : fn.body = some c) (he : enterOk P f = true) (hn : args.length + (fn.ntmps - args.length) = n) (ms : List (List Nat))
    (h : vc P c ms (ofArgs n args) S (bodyK P fn.results.toList Q)) : ACalls P f args S Q := by
  refine ⟨enterOk_run he, fun w g vs hh ha => calls_of_wp hf hb ?_⟩
  have hE : EnvR w g (ofArgs n args) { tmps := vs ++ Array.replicate (fn.ntmps - vs.size) undef, defers := [] } := by
    have hsz := ha.1
    refine ⟨by simp [ofArgs]; omega, fun k => ?_, rfl⟩
    show R w g (match Nat.blt k n with | true => args.getD k .j | false => .j) _
    split
    · rw [List.getD_eq_getElem?_getD]
      cases hq : args[k]? with
      | none => exact .j _
      | some u =>
        have hk : k < vs.size := by rw [← hsz]; exact (List.getElem?_eq_some_iff.1 hq).1
        have := ha.2 k u hq
        simpa [Array.getD_eq_getD_getElem?, Array.getElem?_append, hk] using this
    · exact .j _
  refine wp_mono (vc_sound c ms _ S _ h w g _ hh hE) ?_
  rintro e a' w' ⟨x, env', S', g', h1, h2, h3, h4, h5⟩
  cases x with
  | normal =>
    cases e with
    | normal =>
      obtain ⟨l, v, hrun, hr, hQ⟩ := run_retV h1 h2 h5
      exact ⟨h2.defers, v, hrun, .ret _, S', g', h1, h3, hr, hQ⟩
    | _ => exact h4.elim
  | ret =>
    cases e with
    | ret =>
      obtain ⟨l, v, hrun, hr, hQ⟩ := run_retV h1 h2 h5
      exact ⟨h2.defers, v, hrun, .ret _, S', g', h1, h3, hr, hQ⟩
    | _ => exact h4.elim
  | pan y =>
    cases e with
    | panic chain => exact ⟨h2.defers, .pan y, S', g', h1, h3, h4, h5⟩
    | _ => exact h4.elim
  | exit id => exact h5.elim
  | goto l => exact h5.elim


/-! ### Parts of a text -/
def _root_.Go.Code.at_ : Code → List Nat → Code
  | c, [] => c
  | .seq a _, 0 :: p => a.at_ p
  | .seq _ b, _ :: p => b.at_ p
  | .cond _ a _, 0 :: p => a.at_ p
  | .cond _ _ b, _ :: p => b.at_ p
  | .block _ c, _ :: p => c.at_ p
  | .loop c, _ :: p => c.at_ p
  | .scope c, _ :: p => c.at_ p
  | c, _ => c
def _root_.Go.Code.ops_ : Code → Array Oper
  | .region _ ops _ => ops
  | _ => #[]

end Go.Ab

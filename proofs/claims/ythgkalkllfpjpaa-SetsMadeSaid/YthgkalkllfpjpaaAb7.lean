/- It is proved here that each of the laws of sets (SetsMade, SetsFix, SetsMore, SetsFair) returns true for every input and changes none of its arguments. There is no condition beyond the given statement. -/
import Derived.Test.YthgkalkllfpjpaaAb6
set_option linter.unusedVariables false
set_option linter.unusedSimpArgs false
namespace Go.Ab
open Go Go.RowKit

/-! ### Words for what is read alone -/
abbrev aI (i : Int) : AV := .v (.int .i64 i)
abbrev aB (b : Bool) : AV := .v (.bool b)
/-- A list of one-celled things. -/
def aL {α : Type} (f : α → AV) (l : List α) : AV := .l (l.map fun x => [f x])

/-- It answers r, and the store is as it was. -/
def AnsAt (P : Program) (f : FuncId) (args : List AV) (S : Store) (r : AV) : Prop := ACalls P f args S (fun e S' => e = .ret r ∧ S' = S)
def Ans (P : Program) (f : FuncId) (args : List AV) (r : AV) : Prop := ∀ S, ACalls P f args S (fun e S' => e = .ret r ∧ S' = S)

theorem callF_ans {P : Program} {f : FuncId} {args : List AV} {r : AV} (h : Ans P f args r) {S : Store} {Q : AEnd → Store → Prop} {K : AV → Store → Prop} (k : K r S) : callF P f args S Q K :=
  .inl ((h S).mono fun e S' h => by obtain ⟨rfl, rfl⟩ := h; exact k)
theorem callF_at {P : Program} {f : FuncId} {args : List AV} {r : AV} {S : Store} (h : AnsAt P f args S r) {Q : AEnd → Store → Prop} {K : AV → Store → Prop} (k : K r S) : callF P f args S Q K :=
  .inl (ACalls.mono h fun e S' h => by obtain ⟨rfl, rfl⟩ := h; exact k)
theorem callV_at {P : Program} {f : FuncId} {fs args cs : List AV} {r : AV} {S : Store} (h : AnsAt P f (fs ++ args ++ cs) S r) {K X : AV → Store → Prop} (k : K r S) : callV P (.f (.func f) fs cs) args S K X :=
  .inl (ACalls.mono h fun e S' h => by obtain ⟨rfl, rfl⟩ := h; exact k)
theorem callV_ans {P : Program} {f : FuncId} {fs args cs : List AV} {r : AV} (h : Ans P f (fs ++ args ++ cs) r) {S : Store} {K X : AV → Store → Prop} (k : K r S) : callV P (.f (.func f) fs cs) args S K X :=
  .inl ((h S).mono fun e S' h => by obtain ⟨rfl, rfl⟩ := h; exact k)

theorem gd_of {b : Bool} {A B : Prop} (h1 : b = true → A) (h2 : b = false → B) : gd b A B := by cases b <;> simp_all [gd]
theorem onB_of {b : Bool} {K : Bool → Prop} (h : K b) : onB (.v (.bool b)) K := h

section
variable {S : Store} {K : AV → Store → Prop}
@[simp] theorem onB_v (b : Bool) (K : Bool → Prop) : onB (.v (.bool b)) K = K b := rfl
@[simp] theorem lenS_l (es : List (List AV)) : lenS (.l es) S K = K (.v (.int .i64 es.length)) S := rfl
@[simp] theorem lenS_s (id b n : Nat) : lenS (.s id b n) S K = K (.v (.int .i64 n)) S := rfl
@[simp] theorem lenS_nl : lenS .nl S K = K (.v (.int .i64 0)) S := rfl
@[simp] theorem lenS_aL {α : Type} (f : α → AV) (l : List α) : lenS (aL f l) S K = K (.v (.int .i64 l.length)) S := by simp [aL]
@[simp] theorem ld1_q (u : AV) : ld1 (.q [u] 0) S K = K u S := by simp [ld1, rd1, place]
theorem ixS_aL {α : Type} {f : α → AV} {l : List α} {e : Nat} {i : Nat} (h : i < l.length) : ixS e 1 (aL f l) (.v (.int .i64 i)) S K = K (.q [f l[i]] 0) S := by
  have : (i : Int) < l.length := by omega
  simp [ixS, intA, aL, h, this]
@[simp] theorem bin_lss (k : IntKind) (a b : Int) (kd : Nat) : bin .lss kd (.v (.int k a)) (.v (.int k b)) S K = K (.v (.bool (decide (a < b)))) S := by simp [bin, b2, isSh, cmpI]
@[simp] theorem bin_leq (k : IntKind) (a b : Int) (kd : Nat) : bin .leq kd (.v (.int k a)) (.v (.int k b)) S K = K (.v (.bool (decide (a ≤ b)))) S := by simp [bin, b2, isSh, cmpI]
@[simp] theorem bin_gtr (k : IntKind) (a b : Int) (kd : Nat) : bin .gtr kd (.v (.int k a)) (.v (.int k b)) S K = K (.v (.bool (decide (b < a)))) S := by simp [bin, b2, isSh, cmpI]
@[simp] theorem bin_geq (k : IntKind) (a b : Int) (kd : Nat) : bin .geq kd (.v (.int k a)) (.v (.int k b)) S K = K (.v (.bool (decide (b ≤ a)))) S := by simp [bin, b2, isSh, cmpI]
@[simp] theorem bin_eql (k : IntKind) (a b : Int) (kd : Nat) : bin .eql kd (.v (.int k a)) (.v (.int k b)) S K = K (.v (.bool (decide (a = b)))) S := by
  simp only [bin, b2, isSh, cmpI, optP_some, if_true, Bool.false_eq_true, if_false]; rfl
@[simp] theorem bin_neq (k : IntKind) (a b : Int) (kd : Nat) : bin .neq kd (.v (.int k a)) (.v (.int k b)) S K = K (.v (.bool (!decide (a = b)))) S := by
  simp only [bin, b2, isSh, cmpI, optP_some, if_true, Bool.false_eq_true, if_false]; rfl
@[simp] theorem bin_eqlB (a b : Bool) : bin .eql 1 (.v (.bool a)) (.v (.bool b)) S K = K (.v (.bool (a == b))) S := by simp [bin, b2]
@[simp] theorem bin_neqB (a b : Bool) : bin .neq 1 (.v (.bool a)) (.v (.bool b)) S K = K (.v (.bool (a != b))) S := by
  simp only [bin, b2, if_true, optP_some]; rfl
theorem wrap64 {n : Int} (h : -9223372036854775808 ≤ n) (h' : n ≤ 9223372036854775807) : IntKind.i64.wrap n = n := by
  rw [IntKind.wrap_i64]; omega
theorem bin_add {a b : Int} (h : -9223372036854775808 ≤ a + b) (h' : a + b ≤ 9223372036854775807) (kd : Nat) : bin .add kd (.v (.int .i64 a)) (.v (.int .i64 b)) S K = K (.v (.int .i64 (a + b))) S := by
  simp [bin, b2, isSh, cmpI, ariI, wrap64 h h']
@[simp] theorem un_not (b : Bool) : un .not (.v (.bool b)) S K = K (.v (.bool !b)) S := rfl
end

/-! ### Objects -/
section
variable {S : Store} {K : AV → Store → Prop}
@[simp] theorem new_n (o : AObj) : (S.new o).n = S.n + 1 := rfl
@[simp] theorem upd_n (i : Nat) (o : AObj) : (S.upd i o).n = S.n := rfl
@[simp] theorem kill_n (i : Nat) : (S.kill i).n = S.n := rfl
theorem new_obj (o : AObj) (i : Nat) : (S.new o).obj i = if i = S.n then some o else S.obj i := rfl
theorem upd_obj (j : Nat) (o : AObj) (i : Nat) : (S.upd j o).obj i = if i = j then some o else S.obj i := rfl
@[simp] theorem new_self (o : AObj) : (S.new o).obj S.n = some o := by simp [new_obj]
@[simp] theorem upd_self (j : Nat) (o : AObj) : (S.upd j o).obj j = some o := by simp [upd_obj]
theorem new_lt {o : AObj} {i : Nat} (h : i < S.n) : (S.new o).obj i = S.obj i := by rw [new_obj, if_neg (by omega)]
theorem upd_ne {j : Nat} {o : AObj} {i : Nat} (h : i ≠ j) : (S.upd j o).obj i = S.obj i := by rw [upd_obj, if_neg h]
theorem boxN_a (t : Nat) (cs : List AV) : boxN t cs.length (.a cs) S K = K (.p S.n 0 0) (S.new (.cells t [cs] true)) := by simp [boxN, cellsOf]
theorem boxN_1 {t : Nat} {u : AV} (h : u.one = true) : boxN t 1 u S K = K (.p S.n 0 0) (S.new (.cells t [[u]] true)) := by
  have : cellsOf u = some [u] := by cases u <;> first | rfl | (simp [AV.one] at h; simp [cellsOf, AV.one, h]; done) | (simp [AV.one] at h)
  simp [boxN, this]
theorem ldN_p {id t n : Nat} {cs : List AV} {l : Bool} (h : S.obj id = some (.cells t [cs] l)) (hn : cs.length = n) : ldN n (.p id 0 0) S K = K (.a cs) S := by
  subst hn
  simp [ldN, rdN, place, Store.get, h]
theorem ld1_p {id i j t : Nat} {es : List (List AV)} {c : List AV} {u : AV} {l : Bool} (h : S.obj id = some (.cells t es l)) (hi : es[i]? = some c) (hj : c[j]? = some u) : ld1 (.p id i j) S K = K u S := by
  simp [ld1, rd1, place, Store.get, h, hi, hj]
@[simp] theorem shift_p (id i j n : Nat) : shift (.p id i j) n S K = K (.p id i (j + n)) S := rfl
theorem stN_p {id i t : Nat} {es : List (List AV)} {u0 u : AV} (h : S.obj id = some (.cells t es true)) (hi : es[i]? = some [u0]) (hu : u.one = true) : stN 1 (.p id i 0) u S K = K .j (S.upd id (.cells t (es.set i [u]) true)) := by
  have : cellsOf u = some [u] := by cases u <;> first | rfl | (simp [AV.one] at hu; simp [cellsOf, AV.one, hu]; done) | (simp [AV.one] at hu)
  simp [stN, stS, this, h, hi, spl]
theorem stN_a {id t n : Nat} {cs cs' : List AV} (h : S.obj id = some (.cells t [cs] true)) (hn : cs'.length = n) (hl : cs.length = n) : stN n (.p id 0 0) (.a cs') S K = K .j (S.upd id (.cells t [cs'] true)) := by
  subst hn
  have : cs.drop cs'.length = [] := List.drop_eq_nil_of_le (by omega)
  simp [stN, stS, cellsOf, h, spl, hl, this]
theorem ixS_s {e sz id b n i : Nat} {es : List (List AV)} {l : Bool} (hi : i < n) (h : S.obj id = some (.cells e es l)) : ixS e sz (.s id b n) (.v (.int .i64 i)) S K = K (.p id (b + i) 0) S := by
  have : (i : Int) < n := by omega
  simp [ixS, intA, Store.ty, h, this]
theorem mkN_n {e b n : Nat} {zc : List AV} (hb : b * n ≤ 281474976710656) (hn : n ≤ 9223372036854775807) : mkN e b zc (.v (.int .i64 n)) (.v (.int .i64 n)) S K = K (.s S.n 0 n) (S.new (.cells e (List.replicate n zc) true)) := by
  have h1 : (b : Int) * n ≤ 281474976710656 := by
    have h := Int.ofNat_le.2 hb
    rw [Int.natCast_mul] at h
    omega
  have h2 : (n : Int) ≤ 9223372036854775807 := by omega
  have h0 : (0 : Int) ≤ n := by omega
  simp only [mkN, intA, optP_some, h0, h1, h2, Int.le_refl, Int.toNat_natCast, and_self, true_and]
end
section
variable {S : Store} {K : AV → Store → Prop}
theorem boxA_of {t n : Nat} {cs : List AV} (hn : cs.length = n) (k : ∀ S', Keep S S' → S'.n = S.n + 1 → S'.obj S.n = some (.cells t [cs] true) → K (.p S.n 0 0) S') : boxN t n (.a cs) S K := by
  subst hn
  rw [boxN_a]
  exact k _ ((Keep.refl S).new _) rfl (new_self _)
theorem box1_of {t : Nat} {u : AV} (h : u.one = true) (k : ∀ S', Keep S S' → S'.n = S.n + 1 → S'.obj S.n = some (.cells t [[u]] true) → K (.p S.n 0 0) S') : boxN t 1 u S K := by
  rw [boxN_1 h]
  exact k _ ((Keep.refl S).new _) rfl (new_self _)
theorem mk_of {e b n : Nat} {zc : List AV} (hb : b * n ≤ 281474976710656) (hn : n ≤ 9223372036854775807) (k : ∀ S', Keep S S' → S'.n = S.n + 1 → S'.obj S.n = some (.cells e (List.replicate n zc) true) → K (.s S.n 0 n) S') : mkN e b zc (.v (.int .i64 n)) (.v (.int .i64 n)) S K := by
  rw [mkN_n hb hn]
  exact k _ ((Keep.refl S).new _) rfl (new_self _)
theorem st_of {id i t : Nat} {es : List (List AV)} {u0 u : AV} (h : S.obj id = some (.cells t es true)) (hi : es[i]? = some [u0]) (hu : u.one = true) (k : ∀ S', S'.n = S.n → S'.obj id = some (.cells t (es.set i [u]) true) → (∀ x, x ≠ id → S'.obj x = S.obj x) → K .j S') : stN 1 (.p id i 0) u S K := by
  rw [stN_p h hi hu]
  exact k _ rfl (upd_self _ _) (fun x hx => upd_ne hx)
theorem stA_of {id t n : Nat} {cs cs' : List AV} (h : S.obj id = some (.cells t [cs] true)) (hn : cs'.length = n) (hl : cs.length = n) (k : ∀ S', S'.n = S.n → S'.obj id = some (.cells t [cs'] true) → (∀ x, x ≠ id → S'.obj x = S.obj x) → K .j S') : stN n (.p id 0 0) (.a cs') S K := by
  rw [stN_a h hn hl]
  exact k _ rfl (upd_self _ _) (fun x hx => upd_ne hx)
end
theorem Keep.st {S0 S S' : Store} (h : Keep S0 S) {id : Nat} (hid : S0.n ≤ id) (hn : S'.n = S.n) (ho : ∀ x, x ≠ id → S'.obj x = S.obj x) : Keep S0 S' :=
  ⟨by rw [hn]; exact h.1, fun i hi => by rw [ho i (by omega)]; exact h.2 i hi⟩
theorem Keep.new' {S0 S : Store} (h : Keep S0 S) (o : AObj) : Keep S0 (S.new o) := h.new o
/-- A scalar out of a call that leaves only new things behind. -/
theorem ACalls.ans_v {P : Program} {fn : FuncId} {args : List AV} {S : Store} {x : Value} (h : ACalls P fn args S (fun r S' => r = .ret (.v x) ∧ Keep S S')) : AnsAt P fn args S (.v x) :=
  ACalls.tree (ACalls.mono h fun r S' ⟨h1, h2⟩ => ⟨_, h1, h2, .v _⟩)
theorem cells_of_one {u : AV} (hu : u.one = true) : cellsOf u = some [u] := by
  cases u <;> first | rfl | (simp [AV.one] at hu; simp [cellsOf, AV.one, hu]; done) | (simp [AV.one] at hu)
theorem bsl2 {e : Nat} {z u v : AV} {S : Store} {K : AV → Store → Prop} (hu : u.one = true) (hv : v.one = true) (k : K (.l [[u], [v]]) S) : bslN e 1 2 [z] [(0, u), (1, v)] S K := by
  refine ⟨[u, v], ?_, .inr ?_⟩
  · simp [fillA, cells_of_one hu, cells_of_one hv, spl, List.range_succ]
  · simpa [chunks, List.range_succ] using k

/-! ### Lists of one's own -/
/-- x holds es, and was made since n. -/
def Own (n : Nat) (S : Store) (x : AV) (e : Nat) (es : List (List AV)) : Prop :=
  (x = .nl ∧ es = []) ∨ ∃ id, x = .s id 0 es.length ∧ n ≤ id ∧ id < S.n ∧ S.obj id = some (.cells e es true)
theorem Own.nl (n : Nat) (S : Store) (e : Nat) : Own n S .nl e [] := .inl ⟨rfl, rfl⟩
theorem Own.len {n : Nat} {S : Store} {x : AV} {e : Nat} {es : List (List AV)} (h : Own n S x e es) {K : AV → Store → Prop} : lenS x S K = K (.v (.int .i64 es.length)) S := by
  rcases h with ⟨rfl, rfl⟩ | ⟨id, rfl, _, _, _⟩ <;> rfl
theorem Own.isSl {n : Nat} {S : Store} {x : AV} {e : Nat} {es : List (List AV)} (h : Own n S x e es) : isSlA x = true := by
  rcases h with ⟨rfl, rfl⟩ | ⟨id, rfl, _, _, _⟩ <;> rfl
/-- All but one object are as they were. -/
def But (S S' : Store) (x : AV) : Prop := S.n ≤ S'.n ∧ ∀ i, i < S.n → (∀ b n, x ≠ .s i b n) → S'.obj i = S.obj i
theorem Own.but {n : Nat} {S S' : Store} {x y : AV} {e : Nat} {es : List (List AV)} (h : Own n S y e es) (hb : But S S' x) (hx : ∀ i b m b' m', x = .s i b m → y ≠ .s i b' m') : Own n S' y e es := by
  rcases h with ⟨rfl, rfl⟩ | ⟨id, rfl, h1, h2, h3⟩
  · exact .nl _ _ _
  · exact .inr ⟨id, rfl, h1, Nat.lt_of_lt_of_le h2 hb.1, by rw [hb.2 id h2 (fun b m hq => hx id b m _ _ hq rfl)]; exact h3⟩
theorem Own.keep {n : Nat} {S S' : Store} {x : AV} {e : Nat} {es : List (List AV)} (h : Own n S x e es) {S0 : Store} (hn : S0.n ≤ n) (hb : But S S' x) (k : Keep S0 S) : Keep S0 S' := by
  refine ⟨Nat.le_trans k.1 hb.1, fun i hi => ?_⟩
  rw [hb.2 i (Nat.lt_of_lt_of_le hi k.1) (fun b m hq => ?_)]
  · exact k.2 i hi
  · rcases h with ⟨rfl, rfl⟩ | ⟨id, rfl, h1, h2, h3⟩
    · cases hq
    · cases hq
      omega
/-- To put one thing behind the others. -/
theorem Own.app {n : Nat} {S : Store} {x : AV} {e sz b : Nat} {es : List (List AV)} (h : Own n S x e es) (hn : n ≤ S.n) {c : List AV} {K : AV → Store → Prop} (hc : c.length = sz) (hb : (es.length + 1) * b ≤ 140737488355328)
    (k : ∀ x' S', Own n S' x' e (es ++ [c]) → But S S' x → (∃ m, x' = .s S.n 0 m) → K x' S') {y : AV} (hy : srcE S y = some [c]) : appS e sz b x y S K := by
  refine ⟨h.isSl, [c], hy, by simpa using hc, ?_⟩
  rcases h with ⟨rfl, rfl⟩ | ⟨id, rfl, h1, h2, h3⟩
  · refine ⟨by simpa using hb, k _ _ (.inr ⟨S.n, rfl, hn, Nat.lt_succ_self _, by simp [Store.new]⟩) ⟨Nat.le_succ _, fun i hi _ => ?_⟩ ⟨_, rfl⟩⟩
    simp only [Store.new]; rw [if_neg (by omega)]
  · simp only [appE, h3]
    refine ⟨⟨trivial, trivial, by simpa using hb⟩, k _ _ (.inr ⟨S.n, by simp, hn, Nat.lt_succ_self _, by simp [Store.new, Store.kill]⟩) ⟨Nat.le_succ _, fun i hi hne => ?_⟩ ⟨_, rfl⟩⟩
    have e1 : i ≠ S.n := by omega
    have e2 : i ≠ id := fun hq => hne 0 es.length (by rw [hq])
    simp [Store.new, Store.kill, e1, e2]

theorem Own.ix {n : Nat} {S : Store} {x : AV} {e : Nat} {es : List (List AV)} (h : Own n S x e es) {i : Nat} (hi : i < es.length) : ∃ id, x = .s id 0 es.length ∧ n ≤ id ∧ id < S.n ∧ S.obj id = some (.cells e es true) := by
  rcases h with ⟨rfl, rfl⟩ | h
  · simp at hi
  · exact h

theorem Own.low {n n' : Nat} {S : Store} {x : AV} {e : Nat} {es : List (List AV)} (h : Own n S x e es) (hn : n' ≤ n) : Own n' S x e es := by
  rcases h with h | ⟨id, h1, h2, h3, h4⟩
  · exact .inl h
  · exact .inr ⟨id, h1, by omega, h3, h4⟩
theorem Own.same {n : Nat} {S S' : Store} {x : AV} {e : Nat} {es : List (List AV)} (h : Own n S x e es) (hn : S.n ≤ S'.n) (ho : ∀ i, n ≤ i → i < S.n → S'.obj i = S.obj i) : Own n S' x e es := by
  rcases h with h | ⟨id, h1, h2, h3, h4⟩
  · exact .inl h
  · exact .inr ⟨id, h1, h2, by omega, by rw [ho id h2 h3]; exact h4⟩
theorem Own.st {n : Nat} {S S' : Store} {x : AV} {e : Nat} {es : List (List AV)} (h : Own n S x e es) {id : Nat} (hx : ∀ b m, x ≠ .s id b m) (hn : S'.n = S.n) (ho : ∀ i, i ≠ id → S'.obj i = S.obj i) : Own n S' x e es := by
  rcases h with h | ⟨id', h1, h2, h3, h4⟩
  · exact .inl h
  · exact .inr ⟨id', h1, h2, by omega, by rw [ho id' (fun e => hx _ _ (by rw [h1, e]))]; exact h4⟩
theorem Own.lt {n : Nat} {S : Store} {x : AV} {e : Nat} {es : List (List AV)} (h : Own n S x e es) {i b m : Nat} (hx : x = .s i b m) : n ≤ i ∧ i < S.n := by
  rcases h with ⟨h, _⟩ | ⟨id', h1, h2, h3, h4⟩
  · rw [h] at hx; cases hx
  · rw [h1] at hx; cases hx; exact ⟨h2, h3⟩
/-- No two share an object. -/
def Apart (x y : AV) : Prop := ∀ i b m b' m', x = .s i b m → y ≠ .s i b' m'

/-- The one new thing of an append, by either way. -/
theorem bsl1 {e : Nat} {z u : AV} {S : Store} {K : AV → Store → Prop} (hu : u.one = true) (hA : ∀ cs, u ≠ .a cs) (k : K (.l [[u]]) S) : bslN e 1 1 [z] [(0, u)] S K := by
  refine ⟨[u], ?_, .inr ?_⟩
  · have : cellsOf u = some [u] := by cases u <;> first | rfl | (simp [AV.one] at hu; simp [cellsOf, AV.one, hu]; done) | (simp [AV.one] at hu) | (simp [cellsOf, hu])
    simp [fillA, this, spl]
  · simpa [chunks] using k

/-- What one has made, told as a tree. -/
theorem Own.cv {n : Nat} {S : Store} {x : AV} {e : Nat} {es es2 : List (List AV)} (h : Own n S x e es) {m : Nat} (hm : n = m) (hl : es.length = es2.length) (hc : ∀ (i : Nat) (c c2 : List AV), es[i]? = some c → es2[i]? = some c2 → c.length = c2.length ∧ ∀ (k : Nat) (u u2 : AV), c[k]? = some u → c2[k]? = some u2 → Cv (S.frz (newer n)) m u u2) : Cv (S.frz (newer n)) m x (.l es2) := by
  rcases h with ⟨rfl, rfl⟩ | ⟨id, rfl, h1, h2, h3⟩
  · have : es2 = [] := List.eq_nil_of_length_eq_zero hl.symm
    subst this
    exact .nl
  · refine .s id 0 es.length e es es2 ?_ (by simp) hl.symm (fun i c c2 hi hi2 => (hc i c c2 (by simpa using hi) hi2).1) (fun i c c2 k u u2 hi hi2 hk hk2 => (hc i c c2 (by simpa using hi) hi2).2 k u u2 hk hk2)
    rw [frz_of h3]
    have : newer n id = true := by simp [newer, h1]
    simp [this]
theorem Own.cv_v {α : Type} {f : α → Value} {n : Nat} {S : Store} {x : AV} {e : Nat} {l : List α} (h : Own n S x e (l.map fun a => [.v (f a)])) : Cv (S.frz (newer n)) n x (aL (fun a => .v (f a)) l) :=
  h.cv rfl rfl (fun i c c2 hi hi2 => by
    rw [hi] at hi2
    cases hi2
    refine ⟨rfl, fun k u u2 hk hk2 => ?_⟩
    rw [hk] at hk2
    cases hk2
    rw [List.getElem?_map] at hi
    obtain ⟨a, _, rfl⟩ := Option.map_eq_some_iff.1 hi
    cases k with
    | zero => cases hk; exact .v _
    | succ k => simp at hk)
/-- A result of one's own, told as a tree. -/
theorem ACalls.ans_own {α : Type} {f : α → Value} {P : Program} {fn : FuncId} {args : List AV} {e : Nat} {l : List α} (h : ∀ S, ACalls P fn args S (fun r S' => ∃ x, r = .ret x ∧ Keep S S' ∧ Own S.n S' x e (l.map fun a => [.v (f a)]))) : Ans P fn args (aL (fun a => .v (f a)) l) :=
  fun S => ACalls.tree ((h S).mono fun r S' ⟨x, h1, h2, h3⟩ => ⟨x, h1, h2, h3.cv_v⟩)
theorem cv_aL {α : Type} {f : α → Value} {S : Store} {n : Nat} (l : List α) : Cv S n (aL (fun a => .v (f a)) l) (aL (fun a => .v (f a)) l) := by
  refine .l _ _ rfl (fun i c c2 h h2 => by rw [h] at h2; cases h2; rfl) (fun i c c2 k u u2 h h2 hk hk2 => ?_)
  rw [h] at h2
  cases h2
  rw [hk] at hk2
  cases hk2
  rw [List.getElem?_map] at h
  obtain ⟨a, _, rfl⟩ := Option.map_eq_some_iff.1 h
  cases k with
  | zero => cases hk; exact .v _
  | succ k => simp at hk
/-- A tree out of a call that leaves only new things behind. -/
theorem ACalls.ans_aL {α : Type} {f : α → Value} {P : Program} {fn : FuncId} {args : List AV} {S : Store} {l : List α} (h : ACalls P fn args S (fun r S' => r = .ret (aL (fun a => .v (f a)) l) ∧ Keep S S')) : AnsAt P fn args S (aL (fun a => .v (f a)) l) :=
  ACalls.tree (ACalls.mono h fun r S' ⟨h1, h2⟩ => ⟨_, h1, h2, cv_aL l⟩)
theorem cv_g {α : Type} {f : α → AV} {S : Store} {n : Nat} (l : List α) (h : ∀ a ∈ l, Cv S n (f a) (f a)) : Cv S n (aL f l) (aL f l) := by
  refine .l _ _ rfl (fun i c c2 h h2 => by rw [h] at h2; cases h2; rfl) (fun i c c2 k u u2 h1 h2 hk hk2 => ?_)
  rw [h1] at h2
  cases h2
  rw [hk] at hk2
  cases hk2
  rw [List.getElem?_map] at h1
  obtain ⟨a, ha, rfl⟩ := Option.map_eq_some_iff.1 h1
  cases k with
  | zero => cases hk; exact h a (List.mem_of_getElem? ha)
  | succ k => simp at hk
theorem frz_none (S : Store) : S.frz (fun _ => false) = S := by
  cases S with
  | mk n obj =>
    simp only [Store.frz]
    congr
    funext i
    cases hq : obj i with
    | none => rfl
    | some o => simp [frz_id]
/-- The arguments may be told in another way. -/
theorem ACalls.conv {P : Program} {f : FuncId} {args args2 : List AV} {S : Store} {Q : AEnd → Store → Prop} (hl : args.length = args2.length)
    (hcv : ∀ (k : Nat) (u u2 : AV), args[k]? = some u → args2[k]? = some u2 → Cv S S.n u u2) (h : ACalls P f args2 S Q) : ACalls P f args S Q :=
  ACalls.frz (fun _ => false) hl (by rw [frz_none]; exact hcv) (by rw [frz_none]; exact h)
/-- The bits of a row. -/
def avB : AV → List Bool
  | .l es => es.map fun c => match c with | [.v (.bool b)] => b | _ => false
  | _ => []
@[simp] theorem avB_aL (l : List Bool) : avB (aL aB l) = l := by
  simp [avB, aL, Function.comp_def]
end Go.Ab

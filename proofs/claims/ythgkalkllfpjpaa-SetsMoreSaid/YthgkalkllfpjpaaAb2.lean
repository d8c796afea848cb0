/- It is proved here that each of the laws of sets (SetsMade, SetsFix, SetsMore, SetsFair) returns true for every input and changes none of its arguments. There is no condition beyond the given statement. -/
import Derived.Test.YthgkalkllfpjpaaAb1
set_option linter.unusedVariables false
set_option linter.unusedSimpArgs false
namespace Go.Ab
open Go Go.RowKit

/-! ### Slices: length, an element's place -/
def Store.ty (S : Store) (id : Nat) : Option TypeId :=
  match S.obj id with
  | some (.cells t _ _) => some t
  | _ => none
theorem ty_obj {S : Store} {id : Nat} {t : TypeId} (h : S.ty id = some t) : ∃ es live, S.obj id = some (.cells t es live) := by
  unfold Store.ty at h
  split at h
  · rename_i t' es live ho
    cases h
    exact ⟨_, _, ho⟩
  · cases h
theorem ty_sz {P : Program} {w : World} {g : Gh} {S : Store} (hh : Heap P w g S) {id : Nat} {t : TypeId} {n : Nat} (h : S.ty id = some t) (hs : szT P t = some n) : g.sz id = n := by
  obtain ⟨es, live, ho⟩ := ty_obj h
  obtain ⟨i, hi, h2⟩ := (hh.obj _ _ _ _ ho).info
  unfold szT at hs
  rw [hi] at hs
  cases hs
  exact h2.symm

def lenS (x : AV) (S : Store) (K : AV → Store → Prop) : Prop :=
  match x with
  | .s _ _ n => K (.v (.int .i64 n)) S
  | .l es => K (.v (.int .i64 es.length)) S
  | .nl => K (.v (.int .i64 0)) S
  | _ => False
def lenStr (x : AV) (S : Store) (K : AV → Store → Prop) : Prop :=
  match x with
  | .v (.string b) => K (.v (.int .i64 b.size)) S
  | _ => False
def len (P : Program) (t : TypeId) (x : AV) (S : Store) (K : AV → Store → Prop) : Prop :=
  match P.underlying t with
  | some (.slice _) => lenS x S K
  | some .string => lenStr x S K
  | some (.array n _) => K (.v (.int .i64 n)) S
  | _ => False
theorem run_len {P : Program} {w : World} {g : Gh} {t : TypeId} {x : AV} {y : Value} (hr : R w g x y) {S : Store} {K : AV → Store → Prop} (h : len P t x S K) (ty : TypeId) : ∃ n : Int, (Builtin.len_ #[t] ty #[y]).run P w = .ok (.int .i64 n) w ∧ K (.v (.int .i64 n)) S := by
  unfold len at h
  split at h
  · rename_i e hu
    unfold lenS at h
    split at h
    · obtain ⟨_, A, c, rfl, _⟩ := hr.inv_s
      exact ⟨_, by simp [Builtin.len_, run_underlying hu, goInt], h⟩
    · obtain ⟨A, c, _, _, rfl, _⟩ := hr.inv_l
      exact ⟨_, by simp [Builtin.len_, run_underlying hu, goInt], h⟩
    · obtain ⟨A, rfl⟩ := hr.inv_nl
      exact ⟨0, by simp [Builtin.len_, run_underlying hu, goInt], h⟩
    · exact h.elim
  · rename_i hu
    unfold lenStr at h
    split at h
    · obtain rfl := hr.inv_v
      exact ⟨_, by simp [Builtin.len_, run_underlying hu, goInt], h⟩
    · exact h.elim
  · rename_i n e hu
    exact ⟨n, by simp [Builtin.len_, run_underlying hu, goInt], h⟩
  · exact h.elim

/-- An element of a slice (e its type, sz how many cells that has). -/
def ixS (e sz : Nat) (x i : AV) (S : Store) (K : AV → Store → Prop) : Prop :=
  optP (intA i) fun z =>
    match x with
    | .s id b n => (0 ≤ z ∧ z < n) ∧ S.ty id = some e ∧ K (.p id (b + z.toNat) 0) S
    | .l es => (0 ≤ z ∧ z < es.length) ∧ optP es[z.toNat]? fun c => c.length = sz ∧ K (.q c 0) S
    | _ => False
def ixA (n sz : Nat) (x i : AV) (S : Store) (K : AV → Store → Prop) : Prop :=
  optP (intA i) fun z => (0 ≤ z ∧ z < n) ∧ shift x (z.toNat * sz) S K
def indexAddr (P : Program) (t : TypeId) (x i : AV) (S : Store) (K : AV → Store → Prop) : Prop :=
  match P.underlying t with
  | some (.slice e) => match szT P e with
    | some sz => ixS e sz x i S K
    | none => False
  | some (.array n e) => match szT P e with
    | some sz => ixA n sz x i S K
    | none => False
  | _ => False
theorem indexAddr_sound {P : Program} {o : Oper} {t : TypeId} {x i : Operand} (ho : o.op = .indexAddr t x i) {env : Env} {S : Store} {K X : AV → Store → Prop} (h : indexAddr P t (ev env x) (ev env i) S K) : OpS P o env S K X := by
  unfold indexAddr at h
  split at h
  · rename_i e hu
    split at h
    case h_2 => exact h.elim
    rename_i sz hsz
    obtain ⟨z, hz, h⟩ := h
    intro w g a next Q hh he hnx hx
    obtain ⟨k, hi⟩ := intA_sound (he.ev i) hz
    have hrx := he.ev x
    split at h
    · rename_i id b n hX
      rw [hX] at hrx
      obtain ⟨⟨h0, h1⟩, hty, hK⟩ := h
      obtain ⟨hid, A, c, hy, hn, hc, hA⟩ := hrx.inv_s
      have hA' := hA (by omega)
      subst hA'
      have hsz' := ty_sz hh hty hsz
      refine wp_value (y := .pointer (some ⟨g.blk id, (b + z.toNat) * g.sz id + 0, none⟩)) (w' := w) ?_ (hnx _ S w g _ hh (Mv.refl _ _) (.p _ _ _ hid) hK)
      simp [execOp, ho, hy, hi, Instr.indexAt, run_underlying hu, asIntOf, run_sz hsz, h0, h1, add_at, hsz', Nat.add_mul]
    · rename_i es hX
      rw [hX] at hrx
      obtain ⟨⟨h0, h1⟩, c, hc, hcl, hK⟩ := h
      obtain ⟨A, cp, sz', vs, hy, hcp, hm, hR⟩ := hrx.inv_l
      have hne : es ≠ [] := by rintro rfl; simp at hc
      obtain ⟨ad, rfl, him, hcell⟩ := hm hne
      obtain ⟨h2, h3⟩ := hcell _ _ hc
      have hs : sz' = sz := by omega
      subst hs
      have hq := R.q (w := w) (g := g) c 0 (ad.add (z.toNat * sz')) (fun k => vs z.toNat k) (by rw [add_block]; exact him) (fun k hk => by rw [add_add]; exact h3 k (by omega)) (fun k u hu => (hR _ _ _ _ hc hu).1) (fun k u hu => (hR _ _ _ _ hc hu).2)
      have h00 : (ad.add (z.toNat * sz')).add 0 = ad.add (z.toNat * sz') := by rw [add_add, Nat.add_zero]
      rw [h00] at hq
      refine wp_value (y := .pointer (some (ad.add (z.toNat * sz')))) (w' := w) ?_ (hnx _ S w g _ hh (Mv.refl _ _) hq hK)
      simp [execOp, ho, hy, hi, Instr.indexAt, run_underlying hu, asIntOf, run_sz hsz, h0, h1]
    · exact h.elim
  · rename_i n e hu
    split at h
    case h_2 => exact h.elim
    rename_i sz hsz
    obtain ⟨z, hz, ⟨h0, h1⟩, h⟩ := h
    intro w g a next Q hh he hnx hx
    obtain ⟨k, hi⟩ := intA_sound (he.ev i) hz
    obtain ⟨ad, u, hy, hr, hK⟩ := shift_rel (he.ev x) h
    refine wp_value (y := .pointer (some (ad.add (z.toNat * sz)))) (w' := w) ?_ (hnx _ S w g _ hh (Mv.refl _ _) hr hK)
    simp [execOp, ho, hy, hi, Instr.indexAt, Instr.sureAddr, run_underlying hu, asIntOf, run_sz hsz, h0, h1]
  · exact h.elim

/-- A byte of a string; a part of an array. -/
def ixStr (x i : AV) (S : Store) (K : AV → Store → Prop) : Prop :=
  optP (intA i) fun z =>
    match x with
    | .v (.string b) => 0 ≤ z ∧ ∃ h : z.toNat < b.size, K (.v (.int .u8 (b[z.toNat]'h).toNat)) S
    | _ => False
def index (P : Program) (t : TypeId) (x i : AV) (S : Store) (K : AV → Store → Prop) : Prop :=
  match P.underlying t with
  | some .string => ixStr x i S K
  | some (.array n e) => match aggT P e, szT P e with
    | some false, some sz => optP (intA i) fun z => (0 ≤ z ∧ z < n) ∧ part1 x (z.toNat * sz) S K
    | some true, some sz => optP (intA i) fun z => (0 ≤ z ∧ z < n) ∧ partN x sz (z.toNat * sz) S K
    | _, _ => False
  | _ => False
theorem index_sound {P : Program} {o : Oper} {t : TypeId} {x i : Operand} (ho : o.op = .index t x i) {env : Env} {S : Store} {K X : AV → Store → Prop} (h : index P t (ev env x) (ev env i) S K) : OpS P o env S K X := by
  unfold index at h
  split at h
  · rename_i hu
    obtain ⟨z, hz, h⟩ := h
    split at h
    · rename_i b hX
      obtain ⟨h0, hlt, hK⟩ := h
      refine opS_pure hK fun w g a hh he => ⟨_, ?_, .v _⟩
      obtain ⟨k, hi⟩ := intA_sound (he.ev i) hz
      have hrx := he.ev x
      rw [hX] at hrx
      have hg : b[z.toNat]? = some (b[z.toNat]'hlt) := getElem?_pos b z.toNat hlt
      simp [execOp, ho, hrx.inv_v, hi, Instr.index, asIntOf, run_underlying hu, h0, hg]
    · exact h.elim
  · rename_i n e hu
    have key : ∀ agg sz z cs u, aggT P e = some agg → szT P e = some sz → intA (ev env i) = some z → 0 ≤ z → z < n → ev env x = .a cs → partA agg sz (z.toNat * sz) cs = some u → K u S → OpS P o env S K X := by
      intro agg sz z cs u ha hs hz h0 h1 hx hp hK
      refine opS_pure hK fun w g a hh he => ?_
      obtain ⟨k, hi⟩ := intA_sound (he.ev i) hz
      have hrx := he.ev x
      rw [hx] at hrx
      generalize hv : a.eval x = v at hrx
      cases hrx with
      | a cs0 cs' hl h2 hR =>
        obtain ⟨y, hrun, hr⟩ := run_part (P := P) (w := w) (g := g) ha hs hl h2 hR hp
        refine ⟨y, ?_, hr⟩
        simp [execOp, ho, hv, hi, Instr.index, asIntOf, run_underlying hu, run_sz hs, h0, h1, hrun]
    split at h
    · rename_i sz ha hs
      obtain ⟨z, hz, ⟨h0, h1⟩, h⟩ := h
      unfold part1 at h
      split at h
      · rename_i cs hx
        obtain ⟨u, hu', hK⟩ := h
        exact key false sz z cs u ha hs hz h0 h1 hx (by simpa [partA] using hu') hK
      · exact h.elim
    · rename_i sz ha hs
      obtain ⟨z, hz, ⟨h0, h1⟩, h⟩ := h
      unfold partN at h
      split at h
      · rename_i cs hx
        obtain ⟨u, hu', hK⟩ := h
        exact key true sz z cs u ha hs hz h0 h1 hx hu' hK
      · exact h.elim
    · exact h.elim
  · exact h.elim

/-! ### make -/
def mkN (e bytes : Nat) (zc : List AV) (l c : AV) (S : Store) (K : AV → Store → Prop) : Prop :=
  optP (intA l) fun l => optP (intA c) fun c => (0 ≤ l ∧ l ≤ c ∧ (bytes : Int) * c ≤ 281474976710656 ∧ c ≤ 9223372036854775807) ∧ K (.s S.n 0 l.toNat) (S.new (.cells e (List.replicate l.toNat zc) true))
def bytT (P : Program) (t : TypeId) : Option Nat := (P.info? t).map (·.bytes)
def makeS (P : Program) (t : TypeId) (l c : AV) (S : Store) (K : AV → Store → Prop) : Prop :=
  match elT P t with
  | some e => match szT P e, bytT P e, zT P e with
    | some sz, some b, some z => match cellsOf (absC z) with
      | some zc => match decide (zc.length = sz) with
        | true => mkN e b zc l c S K
        | false => False
      | none => False
    | _, _, _ => False
  | none => False
theorem makeS_sound {P : Program} {o : Oper} {t : TypeId} {l c : Operand} (ho : o.op = .makeSlice t l c) {env : Env} {S : Store} {K X : AV → Store → Prop} (h : makeS P t (ev env l) (ev env c) S K) : OpS P o env S K X := by
  unfold makeS at h
  split at h
  case h_2 => exact h.elim
  rename_i e he0
  split at h
  case h_2 => exact h.elim
  rename_i sz b z hsz hb hz
  split at h
  case h_2 => exact h.elim
  rename_i zc hzc
  split at h
  case h_2 => exact h.elim
  rename_i hzl
  simp only [decide_eq_true_eq] at hzl
  obtain ⟨l0, hl0, c0, hc0, ⟨h0, hlc, hbytes, h63⟩, hK⟩ := h
  intro w g a next Q hh he hnx hx
  obtain ⟨k1, h1⟩ := intA_sound (he.ev l) hl0
  obtain ⟨k2, h2⟩ := intA_sound (he.ev c) hc0
  have hszT := hsz
  unfold szT at hsz
  obtain ⟨i, hi, hsz'⟩ := Option.map_eq_some_iff.1 hsz
  have hb' : i.bytes = b := by unfold bytT at hb; rw [hi] at hb; cases hb; rfl
  have hz' : i.zero = some z := by unfold zT at hz; rw [hi] at hz; exact hz
  have hrun := Go.run_make (P := P) w t e i z (elT_under he0) hi hz' k1 k2 l0 c0 h0 hlc (by rw [hb']; exact hbytes) h63
  have hfz := flat_zero w g z hzc
  have hzs : z.cells.size = sz := by rw [← hfz.1, hzl]
  have hro : RowOk w g sz (List.replicate l0.toNat zc) (madeCells z.cells (c0.toNat * i.size)) := by
    intro q cc hcc
    rw [List.getElem?_replicate] at hcc
    split at hcc
    · rename_i hq
      cases hcc
      refine ⟨hzl, fun k u hu => ?_⟩
      obtain ⟨h3, h4⟩ := hfz.2 k u hu
      refine ⟨h3, ?_⟩
      have hk : k < sz := by have := (List.getElem?_eq_some_iff.1 hu).1; omega
      have hlt : q * sz + k < c0.toNat * sz := idx_lt (cap := c0.toNat) (n := l0.toNat) hq (by omega) hk
      have hkm : (q * sz + k) % z.cells.size = k := by rw [hzs, Nat.mul_comm, Nat.mul_add_mod, Nat.mod_eq_of_lt hk]
      have hk2 : k < z.cells.size := by omega
      have e3 : (Array.range (c0.toNat * i.size))[q * sz + k]? = some (q * sz + k) := by rw [hsz']; simp [hlt]
      have e4 : z.cells[(q * sz + k) % z.cells.size]! = z.cells[k]'hk2 := by rw [hkm]; exact getElem!_pos z.cells k hk2
      have e5 : (madeCells z.cells (c0.toNat * i.size)).getD (q * sz + k) undef = z.cells.getD k undef := by
        simp only [madeCells, Array.getD_eq_getD_getElem?, Array.getElem?_map, e3, Option.map_some, Option.getD_some, e4, Array.getElem?_eq_getElem hk2]
      rw [e5]
      exact h4
    · cases hcc
  have hnew := heap_new hh (t := e) (cap := c0.toNat) hszT (by rw [size_madeCells, hsz']) (by simp; omega) hro
  refine wp_value (y := .slice (some ⟨w.heap.size, 0, none⟩) l0.toNat c0.toNat) (by simp [execOp, ho, h1, h2, hrun]) (hnx _ _ _ _ _ hnew.1 hnew.2 ?_ hK)
  rw [← hh.n]
  exact R.s (g := g.add w.heap.size c0.toNat sz) g.n 0 l0.toNat c0.toNat ⟨w.heap.size, 0, none⟩ (Nat.lt_succ_self _) (by omega) (by simp) (fun _ => by simp)


/-! ### Slicing -/
def bnd (d : Option AV) (z : Int) : Option Int :=
  match d with
  | none => some z
  | some x => intA x
/-- e: the element's type, sz how many cells that has. -/
def slc (e sz : Nat) (x : AV) (lo hi mx : Option AV) (S : Store) (K : AV → Store → Prop) : Prop :=
  match x with
  | .s id b n => optP (bnd lo 0) fun l => optP (bnd hi n) fun h =>
      match mx with
      | none => (0 ≤ l ∧ l ≤ h ∧ h ≤ n) ∧ (l = 0 ∨ S.ty id = some e) ∧ K (.s id (b + l.toNat) (h - l).toNat) S
      | some m => optP (intA m) fun m => hi.isSome = true ∧ (0 ≤ l ∧ l ≤ h ∧ h ≤ m ∧ m ≤ n) ∧ (l = 0 ∨ S.ty id = some e) ∧ K (if m = l then .nl else .s id (b + l.toNat) (h - l).toNat) S
  | .l es => optP (bnd lo 0) fun l => optP (bnd hi es.length) fun h =>
      match mx with
      | none => (0 ≤ l ∧ l ≤ h ∧ h ≤ es.length) ∧ (∀ c, c ∈ es → c.length = sz) ∧ K (.l ((es.drop l.toNat).take (h - l).toNat)) S
      | some m => optP (intA m) fun m => hi.isSome = true ∧ (0 ≤ l ∧ l ≤ h ∧ h ≤ m ∧ m ≤ es.length) ∧ (∀ c, c ∈ es → c.length = sz) ∧ K (if m = l then .nl else .l ((es.drop l.toNat).take (h - l).toNat)) S
  | .nl => optP (bnd lo 0) fun l => optP (bnd hi 0) fun h => optP (bnd mx 0) fun m => (mx.isSome = true → hi.isSome = true) ∧ (l = 0 ∧ h = 0 ∧ m = 0) ∧ K .nl S
  | _ => False
def slcStr (x : AV) (lo hi : Option AV) (S : Store) (K : AV → Store → Prop) : Prop :=
  match x with
  | .v (.string b) => optP (bnd lo 0) fun l => optP (bnd hi b.size) fun h => (0 ≤ l ∧ l ≤ h ∧ h ≤ b.size) ∧ K (.v (.string (b.extract l.toNat h.toNat))) S
  | _ => False
def slice (P : Program) (t : TypeId) (x : AV) (lo hi mx : Option AV) (S : Store) (K : AV → Store → Prop) : Prop :=
  match P.underlying t with
  | some (.slice e) => match szT P e with
    | some sz => slc e sz x lo hi mx S K
    | none => False
  | some .string => mx = none ∧ slcStr x lo hi S K
  | _ => False

/-- A bound as the machine reads it. -/
theorem run_bound {P : Program} {w : World} {x : Value} {y : Nat} {c : BoundsCode} {k : IntKind} {n : Int} (h : x = .int k n) (h0 : 0 ≤ n) (h1 : n ≤ y) : (Instr.sliceBound x y c).run P w = .ok n.toNat w := by
  subst h
  simp [Instr.sliceBound, asIntOf, h0, h1]
theorem bnd_sound {w : World} {g : Gh} {env : Env} {a : Act} (he : EnvR w g env a) {o : Option Operand} {d z : Int} (h : bnd (o.map (ev env)) d = some z) :
    (o = none ∧ z = d) ∨ ∃ x k, o = some x ∧ a.eval x = .int k z := by
  cases o with
  | none => cases h; exact .inl ⟨rfl, rfl⟩
  | some x =>
    obtain ⟨k, hk⟩ := intA_sound (he.ev x) h
    exact .inr ⟨x, k, rfl, hk⟩

theorem run_bounds {P : Program} {w : World} {g : Gh} {env : Env} {a : Act} (he : EnvR w g env a) {lo hi mx : Option Operand} {isS : Bool} {n c : Nat} {l h m : Int} (hl : bnd (lo.map (ev env)) 0 = some l) (hh : bnd (hi.map (ev env)) n = some h)
    (hm : bnd (mx.map (ev env)) c = some m) (hx : mx.isSome = true → hi.isSome = true) (h0 : 0 ≤ l) (h1 : l ≤ h) (h2 : h ≤ m) (h3 : m ≤ c) (hc : mx = none → m = c) :
    (Instr.sliceBounds isS n c (lo.map a.eval) (hi.map a.eval) (mx.map a.eval)).run P w = .ok (l.toNat, h.toNat, m.toNat) w := by
  have hL : ∀ x k, a.eval x = .int k l → ∀ code, (Instr.sliceBound (a.eval x) h.toNat code).run P w = .ok l.toNat w := fun x k e code => run_bound e h0 (by omega)
  have hH : ∀ x k, a.eval x = .int k h → ∀ code, (Instr.sliceBound (a.eval x) m.toNat code).run P w = .ok h.toNat w := fun x k e code => run_bound e (by omega) (by omega)
  have hH' : mx = none → ∀ x k, a.eval x = .int k h → ∀ code, (Instr.sliceBound (a.eval x) c code).run P w = .ok h.toNat w := fun em x k e code => run_bound e (by omega) (by omega)
  have hM : ∀ x k, a.eval x = .int k m → ∀ code, (Instr.sliceBound (a.eval x) c code).run P w = .ok m.toNat w := fun x k e code => run_bound e (by omega) (by omega)
  unfold Instr.sliceBounds
  rcases bnd_sound he hm with ⟨rfl, rfl⟩ | ⟨xm, km, rfl, em⟩
  · rcases bnd_sound he hh with ⟨rfl, rfl⟩ | ⟨xh, kh, rfl, eh⟩ <;> rcases bnd_sound he hl with ⟨rfl, rfl⟩ | ⟨xl, kl, rfl, el⟩
    · simp
    · have := hL xl kl el
      simp at this
      simp [this]
    · simp [hH' rfl xh kh eh]
    · simp [hH' rfl xh kh eh, hL xl kl el]
  · rcases bnd_sound he hh with ⟨rfl, rfl⟩ | ⟨xh, kh, rfl, eh⟩ <;> rcases bnd_sound he hl with ⟨rfl, rfl⟩ | ⟨xl, kl, rfl, el⟩
    · simp at hx
    · simp at hx
    · simp [hM xm km em, hH xh kh eh]
    · simp [hM xm km em, hH xh kh eh, hL xl kl el]

theorem slice_sound {P : Program} {o : Oper} {t : TypeId} {x : Operand} {lo hi mx : Option Operand} (ho : o.op = .slice t x lo hi mx) {env : Env} {S : Store} {K X : AV → Store → Prop}
    (h : slice P t (ev env x) (lo.map (ev env)) (hi.map (ev env)) (mx.map (ev env)) S K) : OpS P o env S K X := by
  unfold slice at h
  split at h
  · rename_i e hu
    split at h
    case h_2 => exact h.elim
    rename_i sz hsz
    -- the machine's side
    have mach : ∀ (w : World) (g : Gh) (a : Act) (A : Option Addr) (n c : Nat) (l h m : Int), EnvR w g env a → a.eval x = .slice A n c → bnd (lo.map (ev env)) 0 = some l → bnd (hi.map (ev env)) n = some h → bnd (mx.map (ev env)) c = some m →
        (mx.isSome = true → hi.isSome = true) → 0 ≤ l → l ≤ h → h ≤ m → m ≤ c → (mx = none → m = c) →
        (execOp a.eval o).run P w = .ok (.value (.slice (if m.toNat = l.toNat then A else A.map (·.add (l.toNat * sz))) (h.toNat - l.toNat) (m.toNat - l.toNat))) w := by
      intro w g a A n c l h m he hx hl hh hm hxx h0 h1 h2 h3 hc
      have hb := run_bounds (P := P) (isS := true) he hl hh hm hxx h0 h1 h2 h3 hc
      simp [execOp, ho, hx, Instr.sliceAt, Instr.slice, run_underlying hu, hb, run_sz hsz]
    unfold slc at h
    split at h
    · rename_i id b n hX
      obtain ⟨l, hl, hh0, hhh, h⟩ := h
      have fin : ∀ (w : World) (g : Gh) (a : Act) (S0 : Heap P w g S) (he : EnvR w g env a) (A : Addr) (c : Nat) (m : Int), id < g.n → n ≤ c → b + c ≤ g.cap id → (0 < c → A = ⟨g.blk id, b * g.sz id, none⟩) → 0 ≤ l → l ≤ hh0 → hh0 ≤ m → m ≤ c → (l = 0 ∨ S.ty id = some e) →
          R w g (.s id (b + l.toNat) (hh0 - l).toNat) (.slice (if m.toNat = l.toNat then some A else (some A).map (·.add (l.toNat * sz))) (hh0.toNat - l.toNat) (m.toNat - l.toNat)) := by
        intro w g a S0 he A c m hid hn hc hA h0 h1 h2 h3 hty
        have e1 : (hh0 - l).toNat = hh0.toNat - l.toNat := by omega
        rw [e1]
        by_cases hml : m.toNat = l.toNat
        · rw [if_pos hml]
          exact .s id _ _ _ A hid (by omega) (by omega) (fun hp => by omega)
        · rw [if_neg hml]
          refine .s id _ _ _ (A.add (l.toNat * sz)) hid (by omega) (by omega) (fun hp => ?_)
          rw [hA (by omega), add_at]
          rcases hty with rfl | hty
          · simp
          · rw [ty_sz S0 hty hsz, Nat.add_mul]
      cases hmx : mx with
      | none =>
        rw [hmx] at h
        obtain ⟨⟨h0, h1, h2⟩, hty, hK⟩ := h
        intro w g a next Q hh he hnx hx
        have hrx := he.ev x
        rw [hX] at hrx
        obtain ⟨hid, A, c, hy, hn, hc, hA⟩ := hrx.inv_s
        refine wp_value (mach w g a (some A) n c l hh0 c he hy hl hhh (by rw [hmx]; rfl) (by simp [hmx]) h0 h1 (by omega) (by omega) (fun _ => rfl)) (hnx _ S w g _ hh (Mv.refl _ _) ?_ hK)
        exact fin w g a hh he A c c hid hn hc hA h0 h1 (by omega) (by omega) hty
      | some xm =>
        rw [hmx] at h
        obtain ⟨m, hm, hhi, ⟨h0, h1, h2, h3⟩, hty, hK⟩ := h
        intro w g a next Q hh he hnx hx
        have hrx := he.ev x
        rw [hX] at hrx
        obtain ⟨hid, A, c, hy, hn, hc, hA⟩ := hrx.inv_s
        refine wp_value (mach w g a (some A) n c l hh0 m he hy hl hhh (by rw [hmx]; exact hm) (fun _ => by simpa using hhi) h0 h1 h2 (by omega) (by simp [hmx])) (hnx _ S w g _ hh (Mv.refl _ _) ?_ hK)
        split
        · rename_i e
          subst e
          have e1 : hh0.toNat - m.toNat = 0 := by omega
          rw [if_pos rfl, e1, Nat.sub_self]
          exact .nl _
        · exact fin w g a hh he A c m hid hn hc hA h0 h1 h2 (by omega) hty
    · rename_i es hX
      obtain ⟨l, hl, hh0, hhh, h⟩ := h
      have fin : ∀ (w : World) (g : Gh) (y : Value) (A : Option Addr) (c : Nat) (m : Int), R w g (.l es) y → y = .slice A es.length c → 0 ≤ l → l ≤ hh0 → hh0 ≤ m → m ≤ c → hh0 ≤ es.length → (∀ c, c ∈ es → c.length = sz) →
          R w g (.l ((es.drop l.toNat).take (hh0 - l).toNat)) (.slice (if m.toNat = l.toNat then A else A.map (·.add (l.toNat * sz))) (hh0.toNat - l.toNat) (m.toNat - l.toNat)) := by
        intro w g y A c m hr hy h0 h1 h2 h3 h4 hcl
        obtain ⟨A', c', sz', vs, hy', hc', hm, hR⟩ := hr.inv_l
        rw [hy'] at hy
        cases hy
        have e1 : (hh0 - l).toNat = hh0.toNat - l.toNat := by omega
        have hlen : ((es.drop l.toNat).take (hh0 - l).toNat).length = hh0.toNat - l.toNat := by simp; omega
        have hget : ∀ (i : Nat) (cc : List AV), ((es.drop l.toNat).take (hh0 - l).toNat)[i]? = some cc → es[l.toNat + i]? = some cc := by
          intro i cc hcc
          rw [List.getElem?_take] at hcc
          split at hcc
          · rwa [List.getElem?_drop] at hcc
          · cases hcc
        rw [← hlen]
        refine .l _ _ _ sz (fun i j => vs (l.toNat + i) j) (by rw [hlen]; omega) (fun hne => ?_) (fun i cc j u h5 h6 => (hR _ _ _ _ (hget i cc h5) h6).1) (fun i cc j u h5 h6 => (hR _ _ _ _ (hget i cc h5) h6).2)
        have hpos : 0 < hh0.toNat - l.toNat := by
          rw [← hlen]
          exact List.length_pos_iff.2 hne
        have hes : es ≠ [] := by rintro rfl; simp at hne
        obtain ⟨ad, rfl, him, hcell⟩ := hm hes
        have hszz : sz' = sz := by
          obtain ⟨cc, hcc⟩ : ∃ cc, es[l.toNat]? = some cc := ⟨_, List.getElem?_eq_getElem (by omega)⟩
          rw [← (hcell _ _ hcc).1]
          exact hcl cc (List.mem_of_getElem? hcc)
        subst hszz
        rw [if_neg (by omega)]
        refine ⟨_, rfl, by rw [add_block]; exact him, fun i cc hcc => ?_⟩
        obtain ⟨h7, h8⟩ := hcell _ _ (hget i cc hcc)
        refine ⟨h7, fun j hj => ?_⟩
        rw [add_add, ← Nat.add_assoc, ← Nat.add_mul]
        exact h8 j hj
      cases hmx : mx with
      | none =>
        rw [hmx] at h
        obtain ⟨⟨h0, h1, h2⟩, hty, hK⟩ := h
        intro w g a next Q hh he hnx hx
        have hrx := he.ev x
        rw [hX] at hrx
        obtain ⟨A, c, _, _, hy, hn, _⟩ := hrx.inv_l
        refine wp_value (mach w g a A es.length c l hh0 c he hy hl hhh (by rw [hmx]; rfl) (by simp [hmx]) h0 h1 (by omega) (by omega) (fun _ => rfl)) (hnx _ S w g _ hh (Mv.refl _ _) ?_ hK)
        exact fin w g _ A c c hrx hy h0 h1 (by omega) (by omega) h2 hty
      | some xm =>
        rw [hmx] at h
        obtain ⟨m, hm, hhi, ⟨h0, h1, h2, h3⟩, hty, hK⟩ := h
        intro w g a next Q hh he hnx hx
        have hrx := he.ev x
        rw [hX] at hrx
        obtain ⟨A, c, _, _, hy, hn, _⟩ := hrx.inv_l
        refine wp_value (mach w g a A es.length c l hh0 m he hy hl hhh (by rw [hmx]; exact hm) (fun _ => by simpa using hhi) h0 h1 h2 (by omega) (by simp [hmx])) (hnx _ S w g _ hh (Mv.refl _ _) ?_ hK)
        split
        · rename_i e
          subst e
          have e1 : hh0.toNat - m.toNat = 0 := by omega
          rw [if_pos rfl, e1, Nat.sub_self]
          exact .nl _
        · exact fin w g _ A c m hrx hy h0 h1 h2 (by omega) (by omega) hty
    · rename_i hX
      obtain ⟨l, hl, h0, hh0, m, hm, hxx, ⟨rfl, rfl, rfl⟩, hK⟩ := h
      intro w g a next Q hh he hnx hx
      have hrx := he.ev x
      rw [hX] at hrx
      obtain ⟨A, hy⟩ := hrx.inv_nl
      refine wp_value (mach w g a A 0 0 0 0 0 he hy hl hh0 hm (by simpa using hxx) (Int.le_refl _) (Int.le_refl _) (Int.le_refl _) (Int.le_refl _) (fun _ => rfl)) (hnx _ S w g _ hh (Mv.refl _ _) ?_ hK)
      exact .nl _
    · exact h.elim
  · rename_i hu
    obtain ⟨hmx, h⟩ := h
    unfold slcStr at h
    split at h
    · rename_i b hX
      obtain ⟨l, hl, hh0, hhh, ⟨h0, h1, h2⟩, hK⟩ := h
      refine opS_pure hK fun w g a hh he => ⟨_, ?_, .v _⟩
      have hrx := he.ev x
      rw [hX] at hrx
      have hmx' : mx = none := by cases mx with | none => rfl | some _ => cases hmx
      subst hmx'
      have hb := run_bounds (P := P) (w := w) (isS := false) (mx := none) (c := b.size) (m := b.size) he hl hhh rfl (by simp) h0 h1 h2 (Int.le_refl _) (fun _ => rfl)
      simp at hb
      simp [execOp, ho, hrx.inv_v, Instr.sliceAt, Instr.slice, run_underlying hu, hb]
    · exact h.elim
  · exact h.elim


/-! ### append -/
/-- What a slice reads as. -/
def srcE (S : Store) (y : AV) : Option (List (List AV)) :=
  match y with
  | .nl => some []
  | .l es => some es
  | .s id b n =>
    match S.obj id with
    | some (.cells _ es _) => if b + n ≤ es.length then some ((es.drop b).take n) else none
    | _ => none
  | _ => none

theorem src_sound {P : Program} {w : World} {g : Gh} {S : Store} (hh : Heap P w g S) {y : AV} {v : Value} (hr : R w g y v) {es : List (List AV)} (hs : srcE S y = some es) {sz : Nat} (hc : ∀ c, c ∈ es → c.length = sz) :
    ∃ (A : Option Addr) (c : Nat), v = .slice A es.length c ∧ es.length ≤ c ∧ (es ≠ [] → ∃ (ad : Addr) (news : List Value), A = some ad ∧ news.length = es.length * sz ∧ (∀ j u, news[j]? = some u → w.cell? (ad.add j) = some u) ∧ (∀ u, u ∈ news → u.oneCell' = true) ∧ RowOk w g sz es news.toArray) := by
  have build : ∀ (ad : Addr) (f : Nat → Nat → Value), (∀ (i : Nat) (c : List AV) (k : Nat) (u : AV), es[i]? = some c → c[k]? = some u → u.one = true ∧ R w g u (f i k) ∧ w.cell? (ad.add (i * sz + k)) = some (f i k)) →
      ∃ news : List Value, news.length = es.length * sz ∧ (∀ j u, news[j]? = some u → w.cell? (ad.add j) = some u) ∧ (∀ u, u ∈ news → u.oneCell' = true) ∧ RowOk w g sz es news.toArray := by
    intro ad f hf
    have hat : ∀ j, j < es.length * sz → ∃ c u, es[j / sz]? = some c ∧ c[j % sz]? = some u ∧ 0 < sz := by
      intro j hj
      have hpos : 0 < sz := by
        rcases Nat.eq_zero_or_pos sz with h | h
        · subst h; simp at hj
        · exact h
      have h1 : j / sz < es.length := Nat.div_lt_of_lt_mul (by rw [Nat.mul_comm]; exact hj)
      have h2 : j % sz < sz := Nat.mod_lt _ hpos
      have h3 := hc _ (List.getElem_mem h1)
      exact ⟨es[j / sz], es[j / sz][j % sz]'(by omega), List.getElem?_eq_getElem h1, List.getElem?_eq_getElem (by omega), hpos⟩
    refine ⟨(List.range (es.length * sz)).map fun j => f (j / sz) (j % sz), by simp, fun j u hu => ?_, fun u hu => ?_, fun i c hci => ⟨hc c (List.mem_of_getElem? hci), fun k u hu => ?_⟩⟩
    · rw [List.getElem?_map] at hu
      obtain ⟨j', hj', rfl⟩ := Option.map_eq_some_iff.1 hu
      obtain ⟨h1, h2⟩ := List.getElem?_eq_some_iff.1 hj'
      simp at h1 h2
      subst h2
      obtain ⟨c, u, h3, h4, hpos⟩ := hat j h1
      have := (hf _ _ _ _ h3 h4).2.2
      rwa [Nat.mul_comm, Nat.div_add_mod] at this
    · obtain ⟨j, hj, rfl⟩ := List.mem_map.1 hu
      simp at hj
      obtain ⟨c, u, h3, h4, hpos⟩ := hat j hj
      obtain ⟨h5, h6, _⟩ := hf _ _ _ _ h3 h4
      exact h6.oneCell h5
    · obtain ⟨h5, h6, _⟩ := hf _ _ _ _ hci hu
      refine ⟨h5, ?_⟩
      have hk : k < sz := by
        have := (List.getElem?_eq_some_iff.1 hu).1
        have := hc c (List.mem_of_getElem? hci)
        omega
      have hi : i < es.length := (List.getElem?_eq_some_iff.1 hci).1
      have hlt : i * sz + k < es.length * sz := idx_lt hi (Nat.le_refl _) hk
      have e1 : (i * sz + k) / sz = i := by
        rw [Nat.mul_comm, Nat.mul_add_div (by omega), Nat.div_eq_of_lt hk, Nat.add_zero]
      have e2 : (i * sz + k) % sz = k := by rw [Nat.mul_comm, Nat.mul_add_mod, Nat.mod_eq_of_lt hk]
      have e3 : (List.range (es.length * sz))[i * sz + k]? = some (i * sz + k) := by simp [hlt]
      simp only [Array.getD_eq_getD_getElem?, List.getElem?_toArray, List.getElem?_map, e3, Option.map_some, Option.getD_some, e1, e2]
      exact h6
  cases y with
  | nl =>
    cases hs
    obtain ⟨A, rfl⟩ := hr.inv_nl
    exact ⟨A, 0, rfl, Nat.le_refl _, fun h => absurd rfl h⟩
  | l es' =>
    have hs' : es' = es := by simpa [srcE] using hs
    subst hs'
    obtain ⟨A, c, sz', vs, rfl, hcap, hm, hR⟩ := hr.inv_l
    refine ⟨A, c, rfl, hcap, fun hne => ?_⟩
    obtain ⟨ad, rfl, him, hcell⟩ := hm hne
    have hsz : sz' = sz := by
      cases es' with
      | nil => exact absurd rfl hne
      | cons c0 rest =>
        rw [← (hcell 0 c0 rfl).1]
        exact hc c0 List.mem_cons_self
    subst hsz
    obtain ⟨news, h2⟩ := build ad vs (fun i c k u h3 h4 => ⟨(hR _ _ _ _ h3 h4).1, (hR _ _ _ _ h3 h4).2, (hcell i c h3).2 k (by have := (List.getElem?_eq_some_iff.1 h4).1; have := (hcell i c h3).1; omega)⟩)
    exact ⟨ad, news, rfl, h2⟩
  | s id b n =>
    obtain ⟨hid, A, c, rfl, hn, hcap, hA⟩ := hr.inv_s
    simp only [srcE] at hs
    split at hs
    · rename_i t es0 live ho
      split at hs
      · rename_i hle
        cases hs
        have hlen : ((es0.drop b).take n).length = n := by simp; omega
        refine ⟨some A, c, by rw [hlen], by omega, fun hne => ?_⟩
        have hpos : 0 < n := by rw [← hlen]; exact List.length_pos_iff.2 hne
        have hA' := hA (by omega)
        subst hA'
        have hob := hh.obj _ _ _ _ ho
        obtain ⟨cs, hrow, hcs, hro⟩ := hob.row
        have hget : ∀ (i : Nat) (cc : List AV), ((es0.drop b).take n)[i]? = some cc → es0[b + i]? = some cc := by
          intro i cc hcc
          rw [List.getElem?_take] at hcc
          split at hcc
          · rwa [List.getElem?_drop] at hcc
          · cases hcc
        have hszz : g.sz id = sz := by
          have h0 : es0[b]? = some es0[b] := List.getElem?_eq_getElem (by omega)
          rw [← (hro b _ h0).1]
          refine hc _ ?_
          have : ((es0.drop b).take n)[0]? = some es0[b] := by
            rw [List.getElem?_take, if_pos hpos, List.getElem?_drop]
            exact h0
          exact List.mem_of_getElem? this
        subst hszz
        obtain ⟨news, h2⟩ := build ⟨g.blk id, b * g.sz id, none⟩ (fun i k => cs.getD ((b + i) * g.sz id + k) undef) (fun i c k u h3 h4 => by
          obtain ⟨h5, h6⟩ := hro _ _ (hget i c h3)
          obtain ⟨h7, h8⟩ := h6 k u h4
          refine ⟨h7, h8, ?_⟩
          have hk : k < g.sz id := by have := (List.getElem?_eq_some_iff.1 h4).1; omega
          have hb : (b + i) * g.sz id + k < cs.size := by
            rw [hcs]
            exact idx_lt (List.getElem?_eq_some_iff.1 (hget i c h3)).1 hob.len hk
          rw [add_at, cell_row hrow, ← Nat.add_assoc, ← Nat.add_mul]
          simp [Array.getD_eq_getD_getElem?, Array.getElem?_eq_getElem hb])
        exact ⟨_, news, rfl, h2⟩
      · cases hs
    · cases hs
  | _ => simp [srcE] at hs

/-- An append: e the element's type, sz its cells, b its bytes. -/
def appE (e b : Nat) (x : AV) (ys : List (List AV)) (S : Store) (K : AV → Store → Prop) : Prop :=
  match ys with
  | [] => K x S
  | _ :: _ => match x with
    | .nl => ys.length * b ≤ 140737488355328 ∧ K (.s S.n 0 ys.length) (S.new (.cells e ys true))
    | .s id 0 n =>
      match S.obj id with
      | some (.cells t es true) => (t = e ∧ es.length = n ∧ (n + ys.length) * b ≤ 140737488355328) ∧ K (.s S.n 0 (n + ys.length)) ((S.kill id).new (.cells e (es ++ ys) true))
      | _ => False
    | _ => False
def isSlA : AV → Bool
  | .nl | .s _ _ _ | .l _ => true
  | _ => false
def appS (e sz b : Nat) (x y : AV) (S : Store) (K : AV → Store → Prop) : Prop :=
  isSlA x = true ∧ optP (srcE S y) fun ys => (∀ c, c ∈ ys → c.length = sz) ∧ appE e b x ys S K
def app (P : Program) (ts : Array TypeId) (x y : AV) (S : Store) (K : AV → Store → Prop) : Prop :=
  match ts.toList with
  | [t, t'] => match elT P t with
    | some e => match szT P e, bytT P e, zT P e with
      | some sz, some b, some z => match decide (t = t') && (decide (0 < b) && decide (z.cells.size = sz)) with
        | true => appS e sz b x y S K
        | false => False
      | _, _, _ => False
    | none => False
  | _ => False


theorem rowOk_prefix {w : World} {g : Gh} {sz : Nat} {es : List (List AV)} {l l' : List Value} (h : RowOk w g sz es l.toArray) (hl : es.length * sz ≤ l.length) : RowOk w g sz es (l ++ l').toArray := by
  intro i c hc
  obtain ⟨h1, h2⟩ := h i c hc
  refine ⟨h1, fun k u hu => ?_⟩
  obtain ⟨h3, h4⟩ := h2 k u hu
  refine ⟨h3, ?_⟩
  have hk : k < sz := by have := (List.getElem?_eq_some_iff.1 hu).1; omega
  have hlt := idx_lt (List.getElem?_eq_some_iff.1 hc).1 (Nat.le_refl _) hk
  simp only [Array.getD_eq_getD_getElem?, List.getElem?_toArray] at h4 ⊢
  rwa [List.getElem?_append_left (by omega)]
theorem rowOk_append {w : World} {g : Gh} {sz : Nat} {es ys : List (List AV)} {l l' : List Value} (h : RowOk w g sz es l.toArray) (h' : RowOk w g sz ys l'.toArray) (hl : l.length = es.length * sz) : RowOk w g sz (es ++ ys) (l ++ l').toArray := by
  intro i c hc
  by_cases hi : i < es.length
  · rw [List.getElem?_append_left hi] at hc
    exact rowOk_prefix h (by omega) i c hc
  · rw [List.getElem?_append_right (by omega)] at hc
    obtain ⟨h1, h2⟩ := h' _ _ hc
    refine ⟨h1, fun k u hu => ?_⟩
    obtain ⟨h3, h4⟩ := h2 k u hu
    refine ⟨h3, ?_⟩
    have e1 : i * sz + k = l.length + ((i - es.length) * sz + k) := by
      rw [hl, Nat.sub_mul]
      have : es.length * sz ≤ i * sz := Nat.mul_le_mul_right _ (by omega)
      omega
    simp only [Array.getD_eq_getD_getElem?, List.getElem?_toArray] at h4 ⊢
    rw [e1, List.getElem?_append_right (by omega), Nat.add_sub_cancel_left]
    exact h4
theorem rowOk_take {w : World} {g : Gh} {sz : Nat} {es : List (List AV)} {cs : Array Value} (h : RowOk w g sz es cs) : RowOk w g sz es (cs.toList.take (es.length * sz)).toArray := by
  intro i c hc
  obtain ⟨h1, h2⟩ := h i c hc
  refine ⟨h1, fun k u hu => ?_⟩
  obtain ⟨h3, h4⟩ := h2 k u hu
  refine ⟨h3, ?_⟩
  have hk : k < sz := by have := (List.getElem?_eq_some_iff.1 hu).1; omega
  have hlt := idx_lt (List.getElem?_eq_some_iff.1 hc).1 (Nat.le_refl _) hk
  simp only [Array.getD_eq_getD_getElem?, List.getElem?_toArray] at h4 ⊢
  rw [List.getElem?_take, if_pos hlt]
  simpa using h4

theorem run_append_zero {P : Program} {w : World} {t ty e : TypeId} {i : TypeInfo} (ht : P.underlying t = some (.slice e)) (hi : P.info? e = some i) (A B : Option Addr) (n c c' : Nat) (hn : n ≤ c) :
    (Builtin.append_ #[t, t] ty #[.slice A n c, .slice B 0 c']).run P w = .ok (.slice A n c) w := by
  cases A <;> cases B <;> simp [Builtin.append_, run_underlying ht, sizeOf, typeInfo, hi, Builtin.lenOf, Builtin.firstCells, hn, loadCells, loadCellsFrom, storeCells]

theorem isSlA_val {w : World} {g : Gh} {x : AV} {y : Value} (hr : R w g x y) (h : isSlA x = true) : ∃ A n c, y = .slice A n c ∧ n ≤ c := by
  cases x with
  | nl => obtain ⟨A, rfl⟩ := hr.inv_nl; exact ⟨A, 0, 0, rfl, Nat.le_refl _⟩
  | s id i n => obtain ⟨_, A, c, rfl, h1, _⟩ := hr.inv_s; exact ⟨_, _, _, rfl, h1⟩
  | l es => obtain ⟨A, c, _, _, rfl, h1, _⟩ := hr.inv_l; exact ⟨_, _, _, rfl, h1⟩
  | _ => simp [isSlA] at h

/-- A new row: what was there, what is put behind, and room. -/
theorem grown_heap {P : Program} {w : World} {g : Gh} {S : Store} (hh : Heap P w g S) {e : TypeId} {sz : Nat} (hsz : szT P e = some sz) {es : List (List AV)} {l : List Value} (hro : RowOk w g sz es l.toArray) (hl : l.length = es.length * sz) {z : Array Value} (hz : z.size = sz) {cap : Nat} (hcap : es.length ≤ cap) :
    Heap P (w.drew.alloc (.cells (l.toArray ++ Builtin.zeroCells z (cap - es.length)) e)) (g.add w.heap.size cap sz) (S.new (.cells e es true)) ∧ Mv w g (w.drew.alloc (.cells (l.toArray ++ Builtin.zeroCells z (cap - es.length)) e)) (g.add w.heap.size cap sz) := by
  have h := heap_new hh.drew (t := e) (es := es) (cs := l.toArray ++ Builtin.zeroCells z (cap - es.length)) (cap := cap) hsz (by
    simp only [Array.size_append, List.size_toArray, size_zeroCells, hl, hz, ← Nat.add_mul]
    congr 1
    omega) hcap (by
    have h1 : RowOk w.drew g sz es (l ++ (Builtin.zeroCells z (cap - es.length)).toList).toArray := rowOk_prefix (hro.mv (mv_drew w g)) (by omega)
    have h2 : (l ++ (Builtin.zeroCells z (cap - es.length)).toList).toArray = l.toArray ++ Builtin.zeroCells z (cap - es.length) := by simp
    rwa [h2] at h1)
  exact ⟨h.1, (mv_drew w g).trans h.2⟩

theorem run_app {P : Program} {w : World} {g : Gh} {S : Store} (hh : Heap P w g S) {t ty e : TypeId} {sz b : Nat} {z : Value} (ht : elT P t = some e) (hsz : szT P e = some sz) (hb : bytT P e = some b) (hz : zT P e = some z) (hb0 : 0 < b) (hzs : z.cells.size = sz)
    {x y : AV} {vx vy : Value} (hx : R w g x vx) (hy : R w g y vy) {K : AV → Store → Prop} (h : appS e sz b x y S K) :
    ∃ w' g' S' v u, (Builtin.append_ #[t, t] ty #[vx, vy]).run P w = .ok v w' ∧ Heap P w' g' S' ∧ Mv w g w' g' ∧ R w' g' u v ∧ K u S' := by
  obtain ⟨hisl, ys, hys, hcl, h⟩ := h
  have hszT := hsz
  unfold szT at hsz
  obtain ⟨i, hi, hsz'⟩ := Option.map_eq_some_iff.1 hsz
  subst hsz'
  have hb' : i.bytes = b := by unfold bytT at hb; rw [hi] at hb; cases hb; rfl
  subst hb'
  have hz' : i.zero = some z := by unfold zT at hz; rw [hi] at hz; exact hz
  have htu := elT_under ht
  obtain ⟨B, c', rfl, hc', hsrc⟩ := src_sound hh hy hys hcl
  unfold appE at h
  split at h
  · obtain ⟨A, n, c, rfl, hn⟩ := isSlA_val hx hisl
    exact ⟨w, g, S, _, x, run_append_zero htu hi A B n c _ hn, hh, Mv.refl _ _, hx, h⟩
  · rename_i y0 yr
    obtain ⟨ad, news, rfl, hnl, hncell, hn1, hnro⟩ := hsrc (by simp)
    generalize hm : (y0 :: yr) = ys at *
    have hmpos : 0 < ys.length := by rw [← hm]; simp
    split at h
    · obtain ⟨hbytes, hK⟩ := h
      obtain ⟨A, rfl⟩ := hx.inv_nl
      have h63 : ys.length ≤ 140737488355328 := Nat.le_trans (Nat.le_mul_of_pos_right _ hb0) hbytes
      have hcap := grownCap_ge w ys.length 0 e
      have hnew := grown_heap hh hszT hnro hnl hzs hcap
      have hrun : (Builtin.append_ #[t, t] ty #[.slice A 0 0, .slice (some ad) ys.length c']).run P w = .ok (.slice (some ⟨w.heap.size, 0, none⟩) ys.length (grownCap w ys.length 0 e)) (w.drew.alloc (.cells (news.toArray ++ Builtin.zeroCells z.cells (grownCap w ys.length 0 e - ys.length)) e)) := by
        cases A with
        | none => exact Go.run_append_nil (P := P) w t ty e i z htu hi hz' ad ys.length c' news hnl hncell hmpos (by omega) (by omega)
        | some A =>
          have := Go.run_append_grow (P := P) w t ty e i z htu hi hz' A 0 0 [] (by simp) (by simp) ad ys.length c' news hnl hncell (by omega) (by omega) (growslice_fits (by omega) (by simpa using hbytes))
          simpa using this
      refine ⟨_, _, _, _, _, hrun, hnew.1, hnew.2, ?_, hK⟩
      rw [← hh.n]
      exact R.s (g := g.add w.heap.size (grownCap w ys.length 0 e) i.size) g.n 0 ys.length _ ⟨w.heap.size, 0, none⟩ (Nat.lt_succ_self _) hcap (by simp) (fun _ => by simp)
    · rename_i id n
      split at h
      · rename_i t' es ho
        obtain ⟨⟨rfl, hesn, hbytes⟩, hK⟩ := h
        obtain ⟨hid, A, c, rfl, hnc, hcap, hA⟩ := hx.inv_s
        have hob := hh.obj _ _ _ _ ho
        obtain ⟨cs, hrow, hcs, hro⟩ := hob.row
        have hszid : g.sz id = i.size := by
          obtain ⟨i', hi', h2⟩ := hob.info
          rw [hi] at hi'
          cases hi'
          exact h2.symm
        have h63 : n + ys.length ≤ 140737488355328 := Nat.le_trans (Nat.le_mul_of_pos_right _ hb0) hbytes
        have hro' : RowOk w g i.size es cs := by rw [← hszid]; exact hro
        have hlen : (cs.toList.take (es.length * i.size)).length = es.length * i.size := by
          simp only [List.length_take, Array.length_toList, hcs, hszid]
          have : es.length * i.size ≤ g.cap id * i.size := Nat.mul_le_mul_right _ hob.len
          omega
        have hroall := rowOk_append (rowOk_take hro') hnro hlen
        have hlenall : (cs.toList.take (es.length * i.size) ++ news).length = (es ++ ys).length * i.size := by
          rw [List.length_append, hlen, hnl, List.length_append, Nat.add_mul]
        by_cases hroom : n + ys.length ≤ c
        · have hA' := hA (by omega)
          rw [Nat.zero_mul] at hA'
          subst hA'
          have hfit : n * i.size + news.length ≤ cs.size := by
            rw [hnl, hcs, hszid, ← Nat.add_mul]
            exact Nat.mul_le_mul_right _ (by omega)
          have hr := Go.run_append_room (P := P) w t ty t' i htu hi (g.blk id) n c cs hrow ad ys.length c' news hnl hncell hn1 hroom hfit
          obtain ⟨h1, m1⟩ := heap_renew hh ho
          have ho' : ((S.kill id).new (.cells t' es true)).obj g.n = some (.cells t' es true) := by simp [Store.new, Store.kill, hh.n]
          obtain ⟨h2, m2⟩ := heap_set h1 ho' (es' := es ++ ys) (cs' := (cs.toList.take (n * i.size) ++ news ++ cs.toList.drop (n * i.size + news.length)).toArray) (by
            rw [add_cap, add_sz, hszid]
            simp only [List.size_toArray, List.length_append, List.length_take, List.length_drop, Array.length_toList]
            rw [hcs, hszid] at hfit ⊢
            omega) (by rw [add_cap, List.length_append]; omega) (by
            have e0 : (g.add (g.blk id) (g.cap id) (g.sz id)).sz g.n = i.size := by rw [add_sz, hszid]
            rw [e0]
            have h3 := rowOk_prefix (l' := cs.toList.drop (n * i.size + news.length)) (hroall.mv m1) (by omega)
            rw [hesn] at h3
            exact h3)
          rw [add_blk] at h2 m2
          have hst : ((S.kill id).new (.cells t' es true)).upd g.n (.cells t' (es ++ ys) true) = (S.kill id).new (.cells t' (es ++ ys) true) := by
            simp only [Store.upd, Store.new, Store.kill, hh.n, Store.mk.injEq, true_and]
            funext q
            split <;> simp_all
          rw [hst] at h2
          refine ⟨_, _, _, _, _, hr, h2, m1.trans m2, ?_, hK⟩
          rw [← hh.n]
          exact R.s (g := g.add (g.blk id) (g.cap id) (g.sz id)) g.n 0 (n + ys.length) c ⟨g.blk id, 0, none⟩ (Nat.lt_succ_self _) hroom (by rw [add_cap]; omega) (fun _ => by simp)
        · have hold : ∀ j v, (cs.toList.take (n * i.size))[j]? = some v → w.cell? (A.add j) = some v := by
            intro j v hv
            have hj := (List.getElem?_eq_some_iff.1 hv).1
            have hpos : 0 < n := by
              rcases Nat.eq_zero_or_pos n with h | h
              · subst h; simp at hj
              · exact h
            have hA' := hA (by omega)
            subst hA'
            rw [List.getElem?_take] at hv
            split at hv
            · rw [Nat.zero_mul, add_at, cell_row hrow, Nat.zero_add]
              simpa using hv
            · cases hv
          have hr := Go.run_append_grow (P := P) w t ty t' i z htu hi hz' A n c (cs.toList.take (n * i.size)) (by rw [← hesn]; exact hlen) hold ad ys.length c' news hnl hncell (by omega) (by omega) (growslice_fits (by omega) hbytes)
          have hge := grownCap_ge w (n + ys.length) c t'
          obtain ⟨h2, m2⟩ := grown_heap (hh.kill id) hszT hroall hlenall hzs (cap := grownCap w (n + ys.length) c t') (by rw [List.length_append]; omega)
          have e1 : (es ++ ys).length = n + ys.length := by rw [List.length_append, hesn]
          rw [e1, hesn] at h2 m2
          have e2 : (cs.toList.take (n * i.size) ++ news).toArray = (cs.toList.take (n * i.size)).toArray ++ news.toArray := by simp
          rw [e2] at h2 m2
          refine ⟨_, _, _, _, _, hr, h2, m2, ?_, hK⟩
          rw [← hh.n]
          exact R.s (g := g.add w.heap.size (grownCap w (n + ys.length) c t') i.size) g.n 0 (n + ys.length) _ ⟨w.heap.size, 0, none⟩ (Nat.lt_succ_self _) hge (by simp) (fun _ => by simp)
      · exact h.elim
    · exact h.elim

end Go.Ab

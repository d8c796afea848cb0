/- It is proved here that each of the laws of sets (SetsMade, SetsFix, SetsMore, SetsFair) returns true for every input and changes none of its arguments. There is no condition beyond the given statement. -/
import Derived.Test.YthgkalkllfpjpaaS2
set_option linter.unusedVariables false
set_option linter.unusedSimpArgs false
namespace Go.Proofs.Ythgkalkllfpjpaa.G
open Go Go.Ab

/-- A result of one's own. -/
def OwnB (f : FuncId) (args : List AV) (l : List Bool) : Prop :=
  ∀ S, ACalls Try.prog f args S (fun r S' => ∃ x, r = .ret x ∧ Keep S S' ∧ Own S.n S' x 4 (l.map fun b => [aB b]))
theorem OwnB.ans {f : FuncId} {args : List AV} {l : List Bool} (h : OwnB f args l) : Ans Try.prog f args (aL aB l) := ACalls.ans_own (f := fun b => .bool b) (e := 4) h
theorem OwnB.call {f : FuncId} {args : List AV} {l : List Bool} (h : OwnB f args l) {S : Store} {Q : AEnd → Store → Prop} {K : AV → Store → Prop} (k : ∀ x S', Keep S S' → Own S.n S' x 4 (l.map fun b => [aB b]) → K x S') : callF Try.prog f args S Q K :=
  .inl ((h S).mono fun e S' ⟨x, h1, h2, h3⟩ => by subst h1; exact k x S' h2 h3)

theorem own85 (l : List Bool) (hl : l.length < 140737488355328) : OwnB 85 [aL aB l] l := by
  intro S
  refine calls85 ?_
  unfold m85
  have main : bslN 4 1 0 [(.v (.bool false))] [] S fun v3 S_1 => appS 4 1 1 v3 (aL aB l) S_1 fun v4 S_2 => ∃ x, AEnd.ret v4 = AEnd.ret x ∧ Keep S S_2 ∧ Own S.n S_2 x 4 (l.map fun b => [aB b]) := by
    refine ⟨[], rfl, .inl ⟨rfl, l.map (fun b => [aB b]), rfl, by simp; rintro c (⟨_, rfl⟩ | ⟨_, rfl⟩) <;> rfl, ?_⟩⟩
    cases l with
    | nil => exact ⟨_, rfl, (Keep.refl S).new _, .inr ⟨S.n, rfl, Nat.le_refl _, Nat.lt_succ_self _, by simp [chunks]⟩⟩
    | cons b l =>
      simp only [List.map_cons, appE, new_self]
      refine ⟨⟨trivial, rfl, by simp at hl ⊢; omega⟩, _, rfl, (((Keep.refl S).new _).kill (Nat.le_refl _)).new _, .inr ⟨S.n + 1, ?_, Nat.le_succ _, Nat.lt_succ_self _, ?_⟩⟩
      · simp
      · have := new_self (S := (S.new (.cells 4 (chunks 1 0 []) true)).kill S.n) (.cells 4 (chunks 1 0 [] ++ [aB b] :: l.map fun b => [aB b]) true)
        simpa [chunks] using this
  cases l with
  | nil => exact ⟨⟨_, rfl, Keep.refl S, .nl _ _ _⟩, main⟩
  | cons b l => exact main

def andP (a b : List Bool) : List Bool := tab a.length fun i => bit a i && bit b i
theorem own58 (a b : List Bool) (ha : a.length < 140737488355328) (hab : b.length = a.length) : OwnB 58 [aL aB a, aL aB b] (andP a b) := by
  intro S
  refine calls58 ?_
  unfold m58
  refine OwnB.call (own85 a ha) fun x S1 k1 o1 => ?_
  rw [lenS_aL]
  refine loop58_0 (fun y S' => Keep S S' ∧ ∃ i : Nat, y = aI i ∧ i ≤ b.length ∧ Own S.n S' x 4 (tab a.length fun k => [aB (if k < i then bit a k && bit b k else bit a k)]))
    (fun y _ => b.length - ((intA y).getD 0).toNat) ⟨k1, 0, rfl, Nat.zero_le _, by
      rw [tab_bit a, tab_map] at o1; simpa using o1⟩ ?_
  rintro _ S2 ⟨k2, i, rfl, hi, o2⟩ KE hKE
  unfold b58_0 aI
  rw [bin_lss, onB_v]
  refine gd_of (fun h => ?_) (fun h => ?_)
  · have hlt : i < b.length := by simpa using h
    have hia : i < a.length := by omega
    obtain ⟨id, rfl, hid, hid2, q2⟩ := Own.ix o2 (i := i) (by simpa using hia)
    have hg := tab_get (f := fun k => [aB (if k < i then bit a k && bit b k else bit a k)]) hia
    have hg' : (tab a.length fun k => [aB (if k < i then bit a k && bit b k else bit a k)])[0 + i]? = some [aB (bit a i)] := by rw [Nat.zero_add, hg]; simp
    have hi' : i < (tab a.length fun k => [aB (if k < i then bit a k && bit b k else bit a k)]).length := by simpa using hia
    rw [ixS_aL hlt, ld1_q, ixS_s hi' q2, ld1_p q2 hg' rfl, onB_v]
    have hadd : ∀ K : AV → Store → Prop, ∀ S, bin .add 0 (.v (.int .i64 (i : Int))) (.v (.int .i64 1)) S K = K (aI (i + 1 : Nat)) S := fun K S => bin_add (by omega) (by omega) 0
    have step : ∀ (c : Bool) (S5 : Store), c = (bit a i && bit b i) → S5.n = S2.n → S5.obj id = some (.cells 4 ((tab a.length fun k => [aB (if k < i then bit a k && bit b k else bit a k)]).set (0 + i) [.v (.bool c)]) true) → (∀ x, x ≠ id → S5.obj x = S2.obj x) →
        KE 29 (env58_0 (.s id 0 (tab a.length fun k => [aB (if k < i then bit a k && bit b k else bit a k)]).length) (aL aB b) (.v (.int .i64 b.length)) (aI (i + 1 : Nat))) S5 := by
      intro c S5 hc n5 o5 f5
      refine hKE _ _ ⟨k2.st hid n5 f5, i + 1, rfl, hlt, .inr ⟨id, by simp, hid, by omega, ?_⟩⟩ ?_
      · rw [o5, Nat.zero_add, tab_set, hc]
        congr 2
        refine tab_congr fun k hk => ?_
        by_cases e : k = i
        · subst e; simp [aB]
        · have : k < i + 1 ↔ k < i := by omega
          simp [e, this]
      · simp [intA, aI]; omega
    refine gd_of (fun hb => ?_) (fun hb => ?_)
    · rw [ixS_s hi' q2]
      refine st_of q2 hg' rfl fun S5 n5 o5 f5 => ?_
      rw [hadd]
      exact step b[i] S5 (by rw [hb, bit_get hlt]; rfl) n5 o5 f5
    · rw [ixS_s hi' q2]
      refine st_of q2 hg' rfl fun S5 n5 o5 f5 => ?_
      rw [hadd]
      exact step false S5 (by rw [hb]; rfl) n5 o5 f5
  · have hge : i = b.length := by simp at h; omega
    subst hge
    refine ⟨_, rfl, k2, ?_⟩
    have e : ((andP a b).map fun b => [aB b]) = tab a.length fun k => [aB (if k < b.length then bit a k && bit b k else bit a k)] := by
      rw [andP, tab_map]
      refine tab_congr fun k hk => ?_
      have : k < b.length := by omega
      simp [this]
    rw [e]
    exact o2
end Go.Proofs.Ythgkalkllfpjpaa.G

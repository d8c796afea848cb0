/- It is proved here that each of the laws of sets (SetsMade, SetsFix, SetsMore, SetsFair) returns true for every input and changes none of its arguments. There is no condition beyond the given statement. -/
import Derived.Test.YthgkalkllfpjpaaAb9
set_option linter.unusedVariables false
set_option linter.unusedSimpArgs false
namespace Go.Ab
open Go Go.RowKit

/-! ### Steps of long regions: 'rw' with these, one after another -/
section
variable {A : AV → Prop} {P : AV → Prop} {S0 : Store}
theorem J_run {b : Bool} : (∃ t : Bool, wantT (.v (.bool b)) b = some t ∧ ∃ q, gd t (A q) (q = .v undef) ∧ P q) = ∃ q, A q ∧ P q := by
  apply propext
  have : wantT (.v (.bool b)) b = some true := by simp [wantT]
  rw [this]
  constructor
  · rintro ⟨t, h, q, h1, h2⟩; cases h; exact ⟨q, h1, h2⟩
  · rintro ⟨q, h1, h2⟩; exact ⟨true, rfl, q, h1, h2⟩
theorem J_skip {x : AV} {w : Bool} (h : wantT x w = some false) : (∃ t : Bool, wantT x w = some t ∧ ∃ q, gd t (A q) (q = .v undef) ∧ P q) = P (.v undef) := by
  apply propext
  rw [h]
  constructor
  · rintro ⟨t, h, q, h1, h2⟩; cases h; cases h1; exact h2
  · intro h2; exact ⟨false, rfl, _, rfl, h2⟩
theorem J_skipTF : (∃ t : Bool, wantT (.v (.bool true)) false = some t ∧ ∃ q, gd t (A q) (q = .v undef) ∧ P q) = P (.v undef) := J_skip rfl
theorem J_skipFT : (∃ t : Bool, wantT (.v (.bool false)) true = some t ∧ ∃ q, gd t (A q) (q = .v undef) ∧ P q) = P (.v undef) := J_skip rfl
theorem J_skipU {w : Bool} : (∃ t : Bool, wantT (.v undef) w = some t ∧ ∃ q, gd t (A q) (q = .v undef) ∧ P q) = P (.v undef) := J_skip rfl
theorem J_eq {x : AV} : (∃ q, (q = x) ∧ P q) = P x := by apply propext; simp
theorem J_of {op : (AV → Store → Prop) → Prop} {v : AV} (h : ∀ K, op K = K v S0) : (∃ q, op (fun u S => u = q ∧ S = S0) ∧ P q) = P v := by
  apply propext
  constructor
  · rintro ⟨q, h1, h2⟩
    rw [h] at h1
    obtain ⟨rfl, _⟩ := h1
    exact h2
  · intro h2
    exact ⟨v, by rw [h]; exact ⟨rfl, rfl⟩, h2⟩
theorem J_len {α : Type} {f : α → AV} {l : List α} : (∃ q, (lenS (aL f l) S0 fun v S => v = q ∧ S = S0) ∧ P q) = P (.v (.int .i64 l.length)) := J_of (op := fun K => lenS (aL f l) S0 K) fun K => lenS_aL f l
theorem J_lenN {α : Type} {f : α → AV} {l : List α} {n : Nat} (h : l.length = n) : (∃ q, (lenS (aL f l) S0 fun v S => v = q ∧ S = S0) ∧ P q) = P (.v (.int .i64 n)) := J_of (op := fun K => lenS (aL f l) S0 K) fun K => by rw [lenS_aL, h]
theorem J_neqS {k : IntKind} {a : Int} {kd : Nat} : (∃ q, (bin .neq kd (.v (.int k a)) (.v (.int k a)) S0 fun v S => v = q ∧ S = S0) ∧ P q) = P (.v (.bool false)) :=
  J_of (op := fun K => bin .neq kd (.v (.int k a)) (.v (.int k a)) S0 K) fun K => by rw [bin_neq]; simp
theorem J_neq {k : IntKind} {a b : Int} {kd : Nat} : (∃ q, (bin .neq kd (.v (.int k a)) (.v (.int k b)) S0 fun v S => v = q ∧ S = S0) ∧ P q) = P (.v (.bool (!decide (a = b)))) :=
  J_of (op := fun K => bin .neq kd (.v (.int k a)) (.v (.int k b)) S0 K) fun K => bin_neq _ _ _ _
theorem J_neqB {a b : Bool} : (∃ q, (bin .neq 1 (.v (.bool a)) (.v (.bool b)) S0 fun v S => v = q ∧ S = S0) ∧ P q) = P (.v (.bool (a != b))) :=
  J_of (op := fun K => bin .neq 1 (.v (.bool a)) (.v (.bool b)) S0 K) fun K => bin_neqB _ _
theorem J_neqBs {a : Bool} : (∃ q, (bin .neq 1 (.v (.bool a)) (.v (.bool a)) S0 fun v S => v = q ∧ S = S0) ∧ P q) = P (.v (.bool false)) := by rw [J_neqB]; simp
theorem J_ix {α : Type} {l : List α} {f : α → AV} {e i : Nat} (h : i < l.length) : (∃ q, (ixS e 1 (aL f l) (.v (.int .i64 i)) S0 fun v S => v = q ∧ S = S0) ∧ P q) = P (.q [f l[i]] 0) :=
  J_of (op := fun K => ixS e 1 (aL f l) (.v (.int .i64 i)) S0 K) fun K => ixS_aL h
theorem J_ld {u : AV} : (∃ q, (ld1 (.q [u] 0) S0 fun v S => v = q ∧ S = S0) ∧ P q) = P u := J_of (op := fun K => ld1 (.q [u] 0) S0 K) fun K => ld1_q u
theorem J_ldp {id i j t : Nat} {es : List (List AV)} {c : List AV} {u : AV} {l : Bool} (h : S0.obj id = some (.cells t es l)) (hi : es[i]? = some c) (hj : c[j]? = some u) : (∃ q, (ld1 (.p id i j) S0 fun v S => v = q ∧ S = S0) ∧ P q) = P u :=
  J_of (op := fun K => ld1 (.p id i j) S0 K) fun K => ld1_p h hi hj
theorem J_shift {id i j n : Nat} : (∃ q, (shift (.p id i j) n S0 fun v S => v = q ∧ S = S0) ∧ P q) = P (.p id i (j + n)) := J_of (op := fun K => shift (.p id i j) n S0 K) fun K => shift_p id i j n
theorem J_not {b : Bool} : (∃ q, (un .not (.v (.bool b)) S0 fun v S => v = q ∧ S = S0) ∧ P q) = P (.v (.bool !b)) := J_of (op := fun K => un .not (.v (.bool b)) S0 K) fun K => un_not b
theorem J_notT : (∃ q, (un .not (.v (.bool true)) S0 fun v S => v = q ∧ S = S0) ∧ P q) = P (.v (.bool false)) := J_not
theorem J_notF : (∃ q, (un .not (.v (.bool false)) S0 fun v S => v = q ∧ S = S0) ∧ P q) = P (.v (.bool true)) := J_not
theorem J_pickT {x y : AV} : (∃ q, (pick (.v (.bool true)) x y S0 fun v S => v = q ∧ S = S0) ∧ P q) = P x := J_of (op := fun K => pick (.v (.bool true)) x y S0 K) fun K => rfl
theorem J_pickF {x y : AV} : (∃ q, (pick (.v (.bool false)) x y S0 fun v S => v = q ∧ S = S0) ∧ P q) = P y := J_of (op := fun K => pick (.v (.bool false)) x y S0 K) fun K => rfl
end
end Go.Ab

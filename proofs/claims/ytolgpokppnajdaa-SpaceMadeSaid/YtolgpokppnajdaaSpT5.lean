/- It is proved here that each of the laws of spaces (SpaceAny, SpaceMade, SpaceNext, SpaceInputs) returns true for every input and changes none of its arguments. There is no condition beyond the given statement. -/
import Derived.Test.YtolgpokppnajdaaProg
import Derived.KernelRfl
import Derived.Test.YtolgpokppnajdaaSpT4
set_option linter.unusedVariables false
set_option linter.unusedSimpArgs false
namespace Go.Proofs.Ytolgpokppnajdaa.G
open Go Go.Ab

def bitN (n : Int) (i : Nat) : Bool := decide (n.fdiv (2 ^ i) % 2 = 1)
def bitsL (n : Int) (many : Nat) : List Bool := (List.range many).map (bitN n)
@[simp] theorem bitsL_len (n : Int) (m : Nat) : (bitsL n m).length = m := by simp [bitsL]
theorem bitsL_succ (n : Int) (m : Nat) : bitsL n (m + 1) = bitsL n m ++ [bitN n m] := by simp [bitsL, List.range_succ]
theorem bin_shrN {a : Int} {i : Nat} (h : i ≤ 64) {S : Store} {K : AV → Store → Prop} : bin .shr 0 (aI a) (aI i) S K = K (aI (a.fdiv (2 ^ i))) S := by
  rw [bin_shr (by omega), show min (Int.toNat i) IntKind.i64.bits = i by rw [Int.toNat_natCast]; exact Nat.min_eq_left h]
theorem own50 (s : Int) {m : Nat} (hm : m ≤ 64) : OwnL 50 [aI s, aI m] (bitsL s m) := by
  intro S
  refine calls50 ?_
  unfold m50
  refine loop50_0 (fun y z S' => Keep S S' ∧ ∃ i : Nat, z = aI i ∧ i ≤ m ∧ Own S.n S' y 4 ((bitsL s i).map fun b => [aB b]))
    (fun _ z _ => m - ((intA z).getD 0).toNat) ⟨Keep.refl _, 0, rfl, Nat.zero_le _, Own.nl _ _ _⟩ ?_
  rintro y _ S1 ⟨k1, i, rfl, hi, w1⟩ KE hKE
  unfold b50_0
  rw [bin_lss, onB_v]
  refine gd_of (fun hlt => ?_) (fun hge => ?_)
  · have hlt : i < m := by simpa using hlt
    rw [bin_shrN (by omega), bin_and1, bin_eql]
    refine bsl1 rfl (fun _ h => by cases h) ?_
    refine w1.app k1.1 (c := [aB (bitN s i)]) rfl (by simp; omega) (fun z5 S5 w5 b5 hz5 => ?_) rfl
    have hadd : ∀ K : AV → Store → Prop, ∀ S, bin .add 0 (.v (.int .i64 (i : Int))) (.v (.int .i64 1)) S K = K (aI (i + 1 : Nat)) S := fun K S => bin_add (by omega) (by omega) 0
    rw [hadd]
    refine hKE _ _ _ ⟨w1.keep (Nat.le_refl _) b5 k1, i + 1, rfl, hlt, ?_⟩ (by simp [intA]; omega)
    rw [bitsL_succ, List.map_append]
    exact w5
  · have hge : i = m := by simp at hge; omega
    subst hge
    exact ⟨_, rfl, k1, w1⟩
/-- Is a literal so in a state? -/
noncomputable def isB (c : Ci) (s l : Int) : Bool := c.right && (decide (c.gr.inputs ≤ 60) && c.gr.eval l (bitsL s c.gr.inputs.toNat))
theorem part10 {x : AV} {l : List AV} {S : Store} {K : AV → Store → Prop} : part1 (.a (x :: l)) 0 S K = K x S := by simp [part1, partA]
theorem gr_inp {c : Ci} (h : c.right = true) : c.gr.inputs = c.inputs + c.latches.length ∧ 0 ≤ c.gr.inputs ∧ c.gr.inputs ≤ 2000 := by
  obtain ⟨⟨h1, h2⟩, h3, _, _, _, _, h4, _⟩ := right_c.1 h
  have h5 := right_iff.1 h4
  refine ⟨?_, h5.1, h5.2.1⟩
  show IntKind.i64.wrap (c.inputs + c.latches.length) = _
  exact wrap64 (by omega) (by omega)
theorem ans29 {c : Ci} (hc : c.ok) {s l : Int} (hl : i64R l) : Ans Try.prog 29 [c.av, aI s, aI l] (aB (isB c s l)) := by
  intro S
  refine ACalls.ans_v (calls29 ?_)
  unfold m29
  refine boxA_of rfl fun S1 k1 n1 o1 => ?_
  rw [ldN_p (n := 8) o1 rfl]
  refine callF_ans (ans27 hc) ?_
  rw [un_not, onB_v]
  refine gd_of (fun h1 => ⟨?_, k1⟩) (fun h1 => ?_)
  · rw [Bool.not_eq_true'] at h1
    simp [isB, h1]
  have h1 : c.right = true := by simpa using h1
  obtain ⟨g1, g2, g3⟩ := gr_inp h1
  rw [ldN_p (n := 8) o1 rfl]
  refine callF_ans (ans28 c) ?_
  unfold Gr.av Gr.cells
  rw [part10, bin_gtr, onB_v]
  refine gd_of (fun h2 => ⟨?_, k1⟩) (fun h2 => ?_)
  · have h2 := of_decide_eq_true h2
    simp [isB, show ¬ c.gr.inputs ≤ 60 by omega]
  have h2 := of_decide_eq_false h2
  obtain ⟨m, hm⟩ := Int.eq_ofNat_of_zero_le g2
  show ∃ q11 : AV, _
  refine ⟨_, by rw [ldN_p (n := 8) o1 rfl]; exact ⟨rfl, rfl⟩, ?_⟩
  refine ⟨_, callF_ans (ans28 c) ⟨rfl, rfl⟩, ?_⟩
  refine ⟨_, by rw [ldN_p (n := 8) o1 rfl]; exact ⟨rfl, rfl⟩, ?_⟩
  refine ⟨_, callF_ans (ans28 c) ⟨rfl, rfl⟩, ?_⟩
  refine ⟨aI m, by unfold Gr.av Gr.cells; rw [part10, hm]; exact ⟨rfl, rfl⟩, ?_⟩
  refine ⟨_, callF_ans (own50 s (by omega)).ans ⟨rfl, rfl⟩, ?_⟩
  refine ⟨_, callF_ans (ans49 hc.gr hl (ins := bitsL s m) (by simp; omega)) ⟨rfl, rfl⟩, ?_⟩
  refine ⟨?_, k1⟩
  simp only [isB, h1, Bool.true_and, show c.gr.inputs ≤ 60 by omega, decide_true]
  rw [hm, Int.toNat_natCast]
/-- The latches behind a state. -/
noncomputable def afterTo (c : Ci) (s : Int) : Nat → Int
  | 0 => 0
  | i + 1 => if isB c s (c.latches.getD i (0, 0)).1 = true then afterTo c s i + 2 ^ (c.inputs.toNat + i) else afterTo c s i
noncomputable def afterB (c : Ci) (s : Int) : Int := if (c.right && decide (c.gr.inputs ≤ 60)) = true then afterTo c s c.latches.length else 0
theorem afterTo_le (c : Ci) (s : Int) : ∀ i, 0 ≤ afterTo c s i ∧ afterTo c s i < 2 ^ (c.inputs.toNat + i)
  | 0 => ⟨Int.le_refl _, Int.pow_pos (by decide)⟩
  | i + 1 => by
    have ⟨h1, h2⟩ := afterTo_le c s i
    have h3 : (2 : Int) ^ (c.inputs.toNat + (i + 1)) = 2 * 2 ^ (c.inputs.toNat + i) := by rw [← Nat.add_assoc, Int.pow_succ]; omega
    have h4 : (0 : Int) < 2 ^ (c.inputs.toNat + i) := Int.pow_pos (by decide)
    unfold afterTo
    split <;> constructor <;> omega
theorem pow_le60 {n : Nat} (h : n ≤ 60) : (2 : Int) ^ n ≤ 1152921504606846976 := by
  have h1 : 2 ^ n ≤ 2 ^ 60 := Nat.pow_le_pow_right (by decide) h
  have h2 : ((2 ^ n : Nat) : Int) ≤ ((2 ^ 60 : Nat) : Int) := Int.ofNat_le.2 h1
  rw [Int.natCast_pow] at h2
  exact h2
theorem bin_shl1 {i : Nat} (h : i ≤ 60) {S : Store} {K : AV → Store → Prop} : bin .shl 0 (.v (.int .i64 1)) (aI i) S K = K (aI (2 ^ i)) S := by
  have h2 : ¬ ((i : Int) < 0) := by omega
  have h3 : min (Int.toNat i) IntKind.i64.bits = i := by rw [Int.toNat_natCast]; exact Nat.min_eq_left (by show i ≤ 64; omega)
  have h4 := pow_le60 h
  have h5 : (0 : Int) < 2 ^ i := Int.pow_pos (by decide)
  show optP (b2 .shl 0 (.int .i64 1) (.int .i64 i)) _ = _
  have : b2 .shl 0 (.int .i64 1) (.int .i64 i) = some (.int .i64 (2 ^ i)) := by
    simp only [b2, isSh, shI, if_neg h2, h3, Int.one_mul]
    rw [wrap64 (by omega) (by omega)]
    rfl
  rw [this, optP_some]
theorem ans11 {c : Ci} (hc : c.ok) (s : Int) : Ans Try.prog 11 [c.av, aI s] (aI (afterB c s)) := by
  intro S
  refine ACalls.ans_v (calls11 ?_)
  have hll := hc.llen
  unfold m11
  refine boxA_of rfl fun S1 k1 n1 o1 => ?_
  rw [ldN_p (n := 8) o1 rfl]
  refine callF_ans (ans27 hc) ?_
  rw [un_not, onB_v]
  refine gd_of (fun h1 => ⟨?_, k1⟩) (fun h1 => ?_)
  · rw [Bool.not_eq_true'] at h1
    simp [afterB, h1]
  have h1 : c.right = true := by simpa using h1
  obtain ⟨g1, g2, g3⟩ := gr_inp h1
  have hin := (right_c.1 h1).1
  rw [ldN_p (n := 8) o1 rfl]
  refine callF_ans (ans28 c) ?_
  unfold Gr.av Gr.cells
  rw [part10, bin_gtr, onB_v]
  refine gd_of (fun h2 => ⟨?_, k1⟩) (fun h2 => ?_)
  · have h2 := of_decide_eq_true h2
    simp [afterB, show ¬ c.gr.inputs ≤ 60 by omega]
  have h2 := of_decide_eq_false h2
  have hres : afterB c s = afterTo c s c.latches.length := by
    simp only [afterB, h1, Bool.true_and, show c.gr.inputs ≤ 60 by omega, decide_true, if_true]
  obtain ⟨m, hm⟩ := Int.eq_ofNat_of_zero_le hin.1
  refine loop11_0 (fun y z S' => S' = S1 ∧ ∃ i : Nat, z = aI i ∧ i ≤ c.latches.length ∧ y = aI (afterTo c s i))
    (fun _ z _ => c.latches.length - ((intA z).getD 0).toNat) ⟨rfl, 0, rfl, Nat.zero_le _, rfl⟩ ?_
  rintro _ _ S1 ⟨rfl, i, rfl, hi, rfl⟩ KE hKE
  unfold b11_0
  rw [shift_p, ld1_p o1 rfl rfl, lenS_pL, bin_lss, onB_v]
  refine gd_of (fun hlt => ?_) (fun hge => ?_)
  · have hlt : i < c.latches.length := by simpa using hlt
    have hget : c.latches.getD i (0, 0) = c.latches[i] := by simp [List.getD_eq_getElem?_getD, hlt]
    have hadd : ∀ K : AV → Store → Prop, ∀ S, bin .add 0 (.v (.int .i64 (i : Int))) (.v (.int .i64 1)) S K = K (aI (i + 1 : Nat)) S := fun K S => bin_add (by omega) (by omega) 0
    have hμ : c.latches.length - ((intA (aI (i + 1 : Nat))).getD 0).toNat < c.latches.length - ((intA (aI i)).getD 0).toNat := by simp [intA]; omega
    show ∃ q16 : AV, _
    refine ⟨_, by rw [ldN_p (n := 8) o1 rfl]; exact ⟨rfl, rfl⟩, ?_⟩
    refine ⟨_, by rw [shift_p]; exact ⟨rfl, rfl⟩, ?_⟩
    refine ⟨_, by rw [ld1_p o1 rfl rfl]; exact ⟨rfl, rfl⟩, ?_⟩
    refine ⟨_, by rw [ixS_pL hlt]; exact ⟨rfl, rfl⟩, ?_⟩
    refine ⟨_, by rw [shift_q]; exact ⟨rfl, rfl⟩, ?_⟩
    refine ⟨_, by rw [ld1_qj (u := aI c.latches[i].1) rfl]; exact ⟨rfl, rfl⟩, ?_⟩
    refine ⟨_, callF_ans (ans29 hc (hc.lats _ (List.getElem_mem hlt)).1) ⟨rfl, rfl⟩, ?_⟩
    rw [onB_v]
    refine gd_of (fun h3 => ?_) (fun h3 => ?_)
    · have hb := afterTo_le c s i
      have hp := pow_le60 (n := c.inputs.toNat + i) (by omega)
      rw [shift_p, ld1_p o1 rfl rfl, bin_add (by omega) (by omega)]
      have e : c.inputs + (i : Int) = ((c.inputs.toNat + i : Nat) : Int) := by omega
      rw [e, bin_shl1 (by omega), bin_add (by omega) (by omega), hadd]
      exact hKE _ _ _ ⟨rfl, i + 1, rfl, hlt, by rw [afterTo, hget, if_pos h3]⟩ hμ
    · rw [hadd]
      exact hKE _ _ _ ⟨rfl, i + 1, rfl, hlt, by rw [afterTo, hget, h3]; rfl⟩ hμ
  · have hge : i = c.latches.length := by simp at hge; omega
    subst hge
    rw [hres]
    exact ⟨rfl, k1⟩
end Go.Proofs.Ytolgpokppnajdaa.G
set_option linter.unusedVariables false
set_option linter.unusedSimpArgs false
namespace Go.Proofs.Ytolgpokppnajdaa.G
open Go Go.Ab

theorem orN {a b : Nat} (ha : a < 4611686018427387904) (hb : b < 4611686018427387904) (h : a ||| b < 4611686018427387904) {S : Store} {K : AV → Store → Prop} : bin .or 0 (aI a) (aI b) S K = K (aI (a ||| b : Nat)) S := by
  show optP (b2 .or 0 (.int .i64 a) (.int .i64 b)) _ = _
  have : b2 .or 0 (.int .i64 a) (.int .i64 b) = some (.int .i64 (a ||| b : Nat)) := by
    show (some (Int.ofNat 0)).bind (fun _ => some (Value.int .i64 (IntKind.i64.wrap (BitVec.ofInt 64 a ||| BitVec.ofInt 64 b).toNat))) = _
    have h1 : (BitVec.ofInt 64 (a : Int)).toNat = a := by rw [BitVec.toNat_ofInt]; omega
    have h2 : (BitVec.ofInt 64 (b : Int)).toNat = b := by rw [BitVec.toNat_ofInt]; omega
    rw [BitVec.toNat_or, h1, h2, wrap64 (by omega) (by omega)]
    rfl
  rw [this, optP_some]
theorem or_add {k q b : Nat} (h : b < 2 ^ k) : 2 ^ k * q ||| b = 2 ^ k * q + b := (Nat.two_pow_add_eq_or_of_lt h q).symm
theorem two_le60 {n : Nat} (h : n ≤ 60) : 2 ^ n ≤ 1152921504606846976 := Nat.pow_le_pow_right (by decide) h
/-- What comes behind is put in one by one. -/
theorem bin_or_pow {a : Int} {k : Nat} (h0 : 0 ≤ a) (h1 : a < 2 ^ k) (hk : k ≤ 60) {S : Store} {K : AV → Store → Prop} : bin .or 0 (aI a) (aI (2 ^ k)) S K = K (aI (a + 2 ^ k)) S := by
  obtain ⟨n, rfl⟩ := Int.eq_ofNat_of_zero_le h0
  have hp := two_le60 hk
  have e : ((2 : Int) ^ k) = ((2 ^ k : Nat) : Int) := by rw [Int.natCast_pow]; rfl
  rw [e] at h1 ⊢
  have hn : n < 2 ^ k := by omega
  have ho : n ||| 2 ^ k = n + 2 ^ k := by
    rw [Nat.or_comm]
    have := or_add (k := k) (q := 1) hn
    rw [Nat.mul_one] at this
    rw [this]; omega
  rw [orN (by omega) (by omega) (by rw [ho]; omega), ho, Int.natCast_add]
theorem bin_or_low {q x k : Nat} (h1 : x < 2 ^ k) (h2 : 2 ^ k * q + x < 4611686018427387904) {S : Store} {K : AV → Store → Prop} : bin .or 0 (aI (2 ^ k * q : Nat)) (aI x) S K = K (aI (2 ^ k * q + x : Nat)) S := by
  rw [orN (by omega) (by omega) (by rw [or_add h1]; omega), or_add h1]

/-- A maker: the circuit, its graph, and the values of all variables in each state. -/
structure Mk (c : Ci) (vals : List (List Bool)) (n mid t : Nat) (S : Store) : Prop where
  lt : mid < S.n
  z : ∃ z, S.obj mid = some (.cells t [c.cells ++ c.gr.cells ++ [z]] true) ∧ Own n S z 33 (vals.map fun v => [aL aB v])
theorem Mk.keep {c : Ci} {vals : List (List Bool)} {n mid t : Nat} {S T : Store} (h : Mk c vals n mid t S) (k : Keep S T) : Mk c vals n mid t T := by
  obtain ⟨z, h1, h2⟩ := h.z
  exact ⟨Nat.lt_of_lt_of_le h.lt k.1, z, (k.2 _ h.lt).trans h1, own_keep h2 k⟩
section
variable {c : Ci} {vals : List (List Bool)} {n mid t : Nat} {S : Store}
theorem at25 (h : Mk c vals n mid t S) {s : Nat} (hs : s < vals.length) {l : Int} (hl : i64R l) (h0 : 0 ≤ l) (h1 : l.tdiv 2 < (vals.getD s []).length) : AnsAt Try.prog 25 [.p mid 0 0, aI s, aI l] S (aB (litB (vals.getD s []) l)) := by
  refine calls25 ?_
  unfold m25
  obtain ⟨z, hz, hw⟩ := h.z
  rw [nilChk_p, shift_p, ld1_p hz rfl rfl]
  obtain ⟨id, rfl, h2, h3, h4⟩ := hw.ix (i := s) (by simpa using hs)
  rw [show vals.getD s [] = vals[s] by simp [List.getD_eq_getElem?_getD, hs]] at h1 ⊢
  rw [ixS_s (by simpa using hs) h4, ld1_p h4 (by rw [Nat.zero_add, List.getElem?_map, List.getElem?_eq_getElem hs]; rfl) rfl, bin_half hl]
  refine ix_tree (Int.tdiv_nonneg h0 (by decide)) h1 _ ?_
  rw [bin_and1, bin_eql, bin_neqB]
  refine ⟨?_, rfl⟩
  rw [litB, show l.tmod 2 = l % 2 from Int.tmod_eq_emod_of_nonneg h0]
theorem at43 (h : Mk c vals n mid t S) {s : Nat} (hs : s < vals.length) {l : Int} (hl : i64R l) (h0 : 0 ≤ l) (h1 : l.tdiv 2 < (vals.getD s []).length) {a b ta tb : Nat} (ha : S.obj a = some (.cells ta [[.p mid 0 0]] true)) (hb : S.obj b = some (.cells tb [[aI s]] true)) :
    AnsAt Try.prog 43 [aI l, .p a 0 0, .p b 0 0] S (aB (!litB (vals.getD s []) l)) := by
  refine calls43 ?_
  unfold m43
  rw [ld1_p ha rfl rfl, ld1_p hb rfl rfl]
  refine callF_at (at25 h hs hl h0 h1) ?_
  rw [un_not]
  exact ⟨rfl, rfl⟩
/-- All literals are of the values. -/
def Lits (l : List Int) (v : List Bool) : Prop := ∀ x ∈ l, i64R x ∧ 0 ≤ x ∧ x.tdiv 2 < v.length
theorem at21 (h : Mk c vals n mid t S) {s : Nat} (hs : s < vals.length) (hl : Lits c.cons (vals.getD s [])) (hn : c.cons.length ≤ 9223372036854775807) : AnsAt Try.prog 21 [.p mid 0 0, aI s] S (aB (c.cons.all (litB (vals.getD s [])))) := by
  refine ACalls.ans_v (calls21 ?_)
  unfold m21
  refine box1_of rfl fun S1 k1 n1 o1 => ?_
  refine box1_of rfl fun S2 k2 n2 o2 => ?_
  have o1' := (k2.2 S.n (by omega)).trans o1
  have h2 := h.keep (k1.trans k2)
  obtain ⟨z, hz, _⟩ := h2.z
  rw [ld1_p o1' rfl rfl, nilChk_p, shift_p, shift_p, ld1_p hz rfl rfl]
  refine callF_at (at40 hn (g := fun x => !litB (vals.getD s []) x) (fun x hx => at43 h2 hs (hl x hx).1 (hl x hx).2.1 (hl x hx).2.2 o1' o2)) ?_
  rw [un_not, any_not, Bool.not_not]
  exact ⟨rfl, k1.trans k2⟩
/-- The latches behind values. -/
def afterV (c : Ci) (v : List Bool) : Nat → Int
  | 0 => 0
  | i + 1 => if litB v (c.latches.getD i (0, 0)).1 = true then afterV c v i + 2 ^ (c.inputs.toNat + i) else afterV c v i
theorem afterV_le (c : Ci) (v : List Bool) : ∀ i, 0 ≤ afterV c v i ∧ afterV c v i < 2 ^ (c.inputs.toNat + i)
  | 0 => ⟨Int.le_refl _, Int.pow_pos (by decide)⟩
  | i + 1 => by
    have ⟨h1, h2⟩ := afterV_le c v i
    have h3 : (2 : Int) ^ (c.inputs.toNat + (i + 1)) = 2 * 2 ^ (c.inputs.toNat + i) := by rw [← Nat.add_assoc, Int.pow_succ]; omega
    have h4 : (0 : Int) < 2 ^ (c.inputs.toNat + i) := Int.pow_pos (by decide)
    unfold afterV
    split <;> constructor <;> omega
theorem at44 (h : Mk c vals n mid t S) (h0 : 0 ≤ c.inputs) (h60 : c.inputs + c.latches.length ≤ 60) {s : Nat} (hs : s < vals.length) (hl : Lits (c.latches.map (·.1)) (vals.getD s [])) : AnsAt Try.prog 44 [.p mid 0 0, aI s] S (aI (afterV c (vals.getD s []) c.latches.length)) := by
  refine ACalls.ans_v (calls44 ?_)
  unfold m44
  obtain ⟨z, hz, _⟩ := h.z
  rw [nilChk_p, shift_p, shift_p, ld1_p hz rfl rfl, lenS_pL]
  refine loop44_0 (fun y w S' => Keep S S' ∧ ∃ i : Nat, w = aI i ∧ i ≤ c.latches.length ∧ y = aI (afterV c (vals.getD s []) i))
    (fun _ w _ => c.latches.length - ((intA w).getD 0).toNat) ⟨Keep.refl _, 0, rfl, Nat.zero_le _, rfl⟩ ?_
  rintro _ _ S1 ⟨k1, i, rfl, hi, rfl⟩ KE hKE
  unfold b44_0
  rw [bin_lss, onB_v]
  refine gd_of (fun hlt => ?_) (fun hge => ?_)
  · have hlt : i < c.latches.length := by simpa using hlt
    have hget : c.latches.getD i (0, 0) = c.latches[i] := by simp [List.getD_eq_getElem?_getD, hlt]
    have hadd : ∀ K : AV → Store → Prop, ∀ S, bin .add 0 (.v (.int .i64 (i : Int))) (.v (.int .i64 1)) S K = K (aI (i + 1 : Nat)) S := fun K S => bin_add (by omega) (by omega) 0
    have hμ : c.latches.length - ((intA (aI (i + 1 : Nat))).getD 0).toNat < c.latches.length - ((intA (aI i)).getD 0).toNat := by simp [intA]; omega
    have hli := hl _ (List.mem_map_of_mem (List.getElem_mem hlt))
    rw [ixS_pL hlt, ldN_q2]
    refine boxA_of rfl fun S2 k2 n2 o2 => ?_
    refine stA_of o2 rfl rfl fun S3 n3 o3 f3 => ?_
    have k3 : Keep S S3 := (k1.trans k2).st k1.1 n3 f3
    have h3 := h.keep k3
    obtain ⟨z3, hz3, _⟩ := h3.z
    rw [shift_p, ld1_p o3 rfl rfl]
    refine callF_at (at25 h3 hs hli.1 hli.2.1 hli.2.2) ?_
    rw [onB_v]
    refine gd_of (fun h4 => ?_) (fun h4 => ?_)
    · have hb := afterV_le c (vals.getD s []) i
      rw [nilChk_p, shift_p, shift_p, ld1_p hz3 rfl rfl, bin_add (by omega) (by omega)]
      have e : c.inputs + (i : Int) = ((c.inputs.toNat + i : Nat) : Int) := by omega
      rw [e, bin_shl1 (by omega), bin_or_pow hb.1 hb.2 (by omega), hadd]
      exact hKE _ _ _ ⟨k3, i + 1, rfl, hlt, by rw [afterV, hget, if_pos h4]⟩ hμ
    · rw [hadd]
      exact hKE _ _ _ ⟨k3, i + 1, rfl, hlt, by rw [afterV, hget, h4]; rfl⟩ hμ
  · have hge : i = c.latches.length := by simp at hge; omega
    subst hge
    exact ⟨rfl, k1⟩
/-- Are latches as they are at first? -/
def begB (c : Ci) (s : Int) : Bool := (List.range c.latches.length).all fun i => decide ((c.latches.getD i (0, 0)).2 = 2) || decide (s.fdiv (2 ^ (c.inputs.toNat + i)) % 2 = (c.latches.getD i (0, 0)).2)
theorem at23 (h : Mk c vals n mid t S) (h0 : 0 ≤ c.inputs) (h60 : c.inputs + c.latches.length ≤ 60) (s : Int) : AnsAt Try.prog 23 [.p mid 0 0, aI s] S (aB (begB c s)) := by
  refine ACalls.ans_v (calls23 ?_)
  unfold m23
  obtain ⟨z, hz, _⟩ := h.z
  rw [nilChk_p, shift_p, shift_p, ld1_p hz rfl rfl, lenS_pL]
  refine loop23_0 (fun w S' => Keep S S' ∧ ∃ i : Nat, w = aI i ∧ i ≤ c.latches.length ∧ ∀ j, j < i → (decide ((c.latches.getD j (0, 0)).2 = 2) || decide (s.fdiv (2 ^ (c.inputs.toNat + j)) % 2 = (c.latches.getD j (0, 0)).2)) = true)
    (fun w _ => c.latches.length - ((intA w).getD 0).toNat) ⟨Keep.refl _, 0, rfl, Nat.zero_le _, fun j hj => (Nat.not_lt_zero _ hj).elim⟩ ?_
  rintro _ S1 ⟨k1, i, rfl, hi, hok⟩ KE hKE
  unfold b23_0
  rw [bin_lss, onB_v]
  refine gd_of (fun hlt => ?_) (fun hge => ?_)
  · have hlt : i < c.latches.length := by simpa using hlt
    have hget : c.latches.getD i (0, 0) = c.latches[i] := by simp [List.getD_eq_getElem?_getD, hlt]
    have hadd : ∀ K : AV → Store → Prop, ∀ S, bin .add 0 (.v (.int .i64 (i : Int))) (.v (.int .i64 1)) S K = K (aI (i + 1 : Nat)) S := fun K S => bin_add (by omega) (by omega) 0
    have hno : (decide ((c.latches.getD i (0, 0)).2 = 2) || decide (s.fdiv (2 ^ (c.inputs.toNat + i)) % 2 = (c.latches.getD i (0, 0)).2)) = false → begB c s = false := fun hh => by
      rw [begB, List.all_eq_false]
      exact ⟨i, by simpa using hlt, by rw [hh]; decide⟩
    rw [ixS_pL hlt, ldN_q2]
    rw [hget] at hno
    have hnext : ∀ {T : Store}, Keep S T → (decide (c.latches[i].2 = 2) || decide (s.fdiv (2 ^ (c.inputs.toNat + i)) % 2 = c.latches[i].2)) = true → KE 37 (env23_0 (.p mid 0 0) (aI s) (pL c.latches) (aI c.latches.length) (aI (i + 1 : Nat))) T := fun {T} kT hh => hKE _ _ ⟨kT, i + 1, rfl, hlt, fun j hj => by
      rcases Nat.lt_or_ge j i with h' | h'
      · exact hok j h'
      · have : j = i := by omega
        subst this
        rw [hget]; exact hh⟩ (by simp [intA]; omega)
    generalize c.latches[i] = x at *
    refine boxA_of rfl fun S2 k2 n2 o2 => ?_
    refine stA_of o2 rfl rfl fun S3 n3 o3 f3 => ?_
    have k3 : Keep S S3 := (k1.trans k2).st k1.1 n3 f3
    obtain ⟨z3, hz3, _⟩ := (h.keep k3).z
    have e : c.inputs + (i : Int) = ((c.inputs.toNat + i : Nat) : Int) := by omega
    show ∃ q12 : AV, _
    refine ⟨_, by rw [shift_p]; exact ⟨rfl, rfl⟩, ?_⟩
    refine ⟨_, by rw [ld1_p o3 rfl rfl]; exact ⟨rfl, rfl⟩, ?_⟩
    refine ⟨_, by rw [bin_neq]; exact ⟨rfl, rfl⟩, ?_⟩
    rw [onB_v]
    refine gd_of (fun h4 => ?_) (fun h4 => ?_)
    · have h4 : ¬ x.2 = 2 := by simpa using h4
      refine ⟨_, by rw [nilChk_p]; exact ⟨rfl, rfl⟩, ?_⟩
      refine ⟨_, by rw [shift_p]; exact ⟨rfl, rfl⟩, ?_⟩
      refine ⟨_, by rw [shift_p]; exact ⟨rfl, rfl⟩, ?_⟩
      refine ⟨_, by rw [ld1_p hz3 rfl rfl]; exact ⟨rfl, rfl⟩, ?_⟩
      refine ⟨aI ((c.inputs.toNat + i : Nat) : Int), by rw [bin_add (by omega) (by omega), e]; exact ⟨rfl, rfl⟩, ?_⟩
      refine ⟨_, by rw [bin_shrN (by omega)]; exact ⟨rfl, rfl⟩, ?_⟩
      refine ⟨_, by rw [bin_and1]; exact ⟨rfl, rfl⟩, ?_⟩
      refine ⟨_, by rw [shift_p]; exact ⟨rfl, rfl⟩, ?_⟩
      refine ⟨_, by rw [ld1_p o3 rfl rfl]; exact ⟨rfl, rfl⟩, ?_⟩
      refine ⟨_, by rw [bin_neq]; exact ⟨rfl, rfl⟩, ?_⟩
      refine ⟨_, ⟨rfl, rfl⟩, ?_⟩
      rw [onB_v]
      refine gd_of (fun h5 => ⟨?_, k3⟩) (fun h5 => ?_)
      · have h5 : ¬ s.fdiv (2 ^ (c.inputs.toNat + i)) % 2 = x.2 := by simpa using h5
        rw [hno (by simp only [h4, h5, decide_false, Bool.or_self])]
      · have h5 : s.fdiv (2 ^ (c.inputs.toNat + i)) % 2 = x.2 := by simpa using h5
        rw [hadd]
        exact hnext k3 (by simp only [h5, decide_true, Bool.or_true])
    · have h4 : x.2 = 2 := by simpa using h4
      refine ⟨_, ⟨rfl, rfl⟩, ?_⟩
      rw [onB_v, gd_false, hadd]
      exact hnext k3 (by simp only [h4, decide_true, Bool.true_or])
  · have hge : i = c.latches.length := by simp at hge; omega
    subst hge
    refine ⟨?_, k1⟩
    have : begB c s = true := by
      rw [begB, List.all_eq_true]
      exact fun j hj => hok j (by simpa using hj)
    rw [this]
end
end Go.Proofs.Ytolgpokppnajdaa.G
set_option linter.unusedVariables false
set_option linter.unusedSimpArgs false
namespace Go.Proofs.Ytolgpokppnajdaa.G
open Go Go.Ab

theorem set_range {α : Type} {n i : Nat} {f f' : Nat → α} (hi : i < n) (h : ∀ k, k ≠ i → f' k = f k) : ((List.range n).map f).set i (f' i) = (List.range n).map f' := by
  apply List.ext_getElem
  · simp
  · intro k h1 h2
    rw [List.getElem_set]
    split
    · rename_i e
      subst e
      simp
    · rename_i e
      simp [h k (fun h => e h.symm)]
section
variable {c : Ci} {vals : List (List Bool)} {n mid t : Nat} {S : Store}
theorem each_of (h : Mk c vals n mid t S) (hv : vals.length ≤ 1000000) {F : FuncId} {fs cs : List AV} {g : Nat → Bool} (hf : ∀ T, Keep S T → ∀ i, i < vals.length → AnsAt Try.prog F (fs ++ [aI i] ++ cs) T (aB (g i))) :
    ACalls Try.prog 20 [.p mid 0 0, .f (.func F) fs cs] S (fun r S' => ∃ x, r = .ret x ∧ Keep S S' ∧ Own S.n S' x 4 (((List.range vals.length).map g).map fun b => [aB b])) := by
  refine calls20 ?_
  unfold m20
  obtain ⟨z, hz, hw⟩ := h.z
  rw [nilChk_p, shift_p, ld1_p hz rfl rfl, hw.len, List.length_map]
  refine mk_of (by omega) (by omega) fun S1 k1 n1 o1 => ?_
  rw [lenS_s]
  have hrep : List.replicate vals.length [AV.v (.bool false)] = (List.range vals.length).map fun k => [aB (if k < 0 then g k else false)] := by
    apply List.ext_getElem
    · simp
    · intro k h1 h2
      simp
  rw [hrep] at o1
  refine loop20_0 (fun w S' => Keep S S' ∧ S.n < S'.n ∧ ∃ i : Nat, w = aI i ∧ i ≤ vals.length ∧ S'.obj S.n = some (.cells 4 ((List.range vals.length).map fun k => [aB (if k < i then g k else false)]) true))
    (fun w _ => vals.length - ((intA w).getD 0).toNat) ⟨k1, by omega, 0, rfl, Nat.zero_le _, o1⟩ ?_
  rintro _ S2 ⟨k2, n2, i, rfl, hi, o2⟩ KE hKE
  unfold b20_0
  rw [bin_lss, onB_v]
  refine gd_of (fun hlt => ?_) (fun hge => ?_)
  · have hlt : i < vals.length := by simpa using hlt
    refine callV_at (hf S2 k2 i hlt) ?_
    rw [ixS_s hlt o2]
    refine st_of o2 (u0 := aB (if i < i then g i else false)) (by rw [Nat.zero_add]; simp [hlt]) rfl fun S3 n3 o3 f3 => ?_
    rw [bin_add (by omega) (by omega)]
    refine hKE _ _ ⟨k2.st (Nat.le_refl _) n3 f3, by omega, i + 1, rfl, hlt, ?_⟩ (by simp [intA]; omega)
    rw [o3, Nat.zero_add]
    have := set_range (n := vals.length) (i := i) (f := fun k => [aB (if k < i then g k else false)]) (f' := fun k => [aB (if k < i + 1 then g k else false)]) hlt (fun k hk => by
      have : (k < i + 1) = (k < i) := by apply propext; omega
      simp only [this])
    rw [← this]
    simp
  · have hge : i = vals.length := by simp at hge; omega
    subst hge
    refine ⟨_, rfl, k2, .inr ⟨S.n, by simp, Nat.le_refl _, n2, ?_⟩⟩
    rw [o2, List.map_map]
    congr 2
    apply List.map_congr_left
    intro k hk
    simp [List.mem_range.1 hk]
theorem afterV_div (c : Ci) (v : List Bool) : ∀ i, ∃ q : Nat, q < 2 ^ i ∧ afterV c v i = ((2 ^ c.inputs.toNat * q : Nat) : Int)
  | 0 => ⟨0, by decide, by simp [afterV]⟩
  | i + 1 => by
    obtain ⟨q, h1, h2⟩ := afterV_div c v i
    have h3 : 2 ^ (i + 1) = 2 * 2 ^ i := by rw [Nat.pow_succ]; omega
    unfold afterV
    split
    · refine ⟨q + 2 ^ i, by omega, ?_⟩
      rw [h2, Nat.mul_add, ← Nat.pow_add, Int.natCast_add, Int.natCast_pow]
      rfl
    · exact ⟨q, by omega, h2⟩
/-- The states behind one. -/
def nextL (c : Ci) (v vs : List Bool) : List Int := ((List.range (2 ^ c.inputs.toNat)).filter fun x => vs.getD ((afterV c v c.latches.length).toNat + x) false).map fun x : Nat => afterV c v c.latches.length + (x : Int)
theorem next_of (h : Mk c vals n mid t S) (h0 : 0 ≤ c.inputs) (h60 : c.inputs + c.latches.length ≤ 20) {s : Nat} (hs : s < vals.length) (hl : Lits (c.latches.map (·.1)) (vals.getD s []))
    {vs : List Bool} (hvl : vs.length = 2 ^ (c.inputs.toNat + c.latches.length)) (hsv : s < vs.length) :
    ACalls Try.prog 26 [.p mid 0 0, aI s, aL aB vs] S (fun r S' => ∃ x, r = .ret x ∧ Keep S S' ∧ Own S.n S' x 3 ((if vs.getD s false = true then nextL c (vals.getD s []) vs else []).map fun i => [aI i])) := by
  refine calls26 ?_
  unfold m26
  refine ix_tree (by omega) (by omega) _ ?_
  rw [un_not, onB_v, Int.toNat_natCast]
  refine gd_of (fun h1 => ⟨_, rfl, Keep.refl _, ?_⟩) (fun h1 => ?_)
  · rw [Bool.not_eq_true'] at h1
    rw [if_neg (by rw [h1]; decide)]
    exact Own.nl _ _ _
  have h1 : vs.getD s false = true := by simpa using h1
  rw [if_pos h1]
  refine callF_at (at44 h h0 (by omega) hs hl) ?_
  obtain ⟨z, hz, _⟩ := h.z
  obtain ⟨m, hm⟩ := Int.eq_ofNat_of_zero_le h0
  have hmt : c.inputs.toNat = m := by rw [hm]; rfl
  rw [nilChk_p, shift_p, shift_p, ld1_p hz rfl rfl]
  rw [show aI c.inputs = aI (m : Int) by rw [hm]]
  rw [bin_shl1 (by omega)]
  obtain ⟨q, hq, hA⟩ := afterV_div c (vals.getD s []) c.latches.length
  rw [hmt] at hA
  have e2 : ((2 : Int) ^ m) = ((2 ^ m : Nat) : Int) := by rw [Int.natCast_pow]; rfl
  have hpm : 2 ^ m ≤ 1048576 := Nat.pow_le_pow_right (by decide) (show m ≤ 20 by omega)
  have hpt : 2 ^ (m + c.latches.length) ≤ 1048576 := Nat.pow_le_pow_right (by decide) (show m + c.latches.length ≤ 20 by omega)
  have hb : ∀ x, x < 2 ^ m → 2 ^ m * q + x < 2 ^ (m + c.latches.length) := fun x hx => by
    have : 2 ^ m * (q + 1) ≤ 2 ^ m * 2 ^ c.latches.length := Nat.mul_le_mul_left _ hq
    rw [← Nat.pow_add] at this
    rw [Nat.mul_add, Nat.mul_one] at this
    omega
  rw [hmt] at hvl
  rw [e2, hA]
  have hN : nextL c (vals.getD s []) vs = ((List.range (2 ^ m)).filter fun x => vs.getD (2 ^ m * q + x) false).map fun x => ((2 ^ m * q + x : Nat) : Int) := by
    unfold nextL
    rw [hA, hmt, Int.toNat_natCast]
    apply List.map_congr_left
    intro x _
    rw [Int.natCast_add]
  rw [hN]
  refine loop26_0 (fun y w S' => Keep S S' ∧ ∃ i : Nat, w = aI i ∧ i ≤ 2 ^ m ∧ Own S.n S' y 3 ((((List.range i).filter fun x => vs.getD (2 ^ m * q + x) false).map fun x => ((2 ^ m * q + x : Nat) : Int)).map fun i => [aI i]))
    (fun _ w _ => 2 ^ m - ((intA w).getD 0).toNat) ⟨Keep.refl _, 0, rfl, Nat.zero_le _, Own.nl _ _ _⟩ ?_
  rintro y _ S1 ⟨k1, i, rfl, hi, w1⟩ KE hKE
  unfold b26_0
  rw [bin_lss, onB_v]
  refine gd_of (fun hlt => ?_) (fun hge => ?_)
  · have hlt : i < 2 ^ m := by
      have : ((i : Int) < ((2 ^ m : Nat) : Int)) := of_decide_eq_true hlt
      omega
    have hbi := hb i hlt
    have hadd : ∀ K : AV → Store → Prop, ∀ S, bin .add 0 (.v (.int .i64 (i : Int))) (.v (.int .i64 1)) S K = K (aI (i + 1 : Nat)) S := fun K S => bin_add (by omega) (by omega) 0
    have hμ : 2 ^ m - ((intA (aI (i + 1 : Nat))).getD 0).toNat < 2 ^ m - ((intA (aI i)).getD 0).toNat := by simp [intA]; omega
    rw [bin_or_low hlt (by omega)]
    refine ix_tree (by omega) (by omega) _ ?_
    rw [onB_v, Int.toNat_natCast]
    refine gd_of (fun h2 => ?_) (fun h2 => ?_)
    · rw [bin_or_low hlt (by omega)]
      refine bsl1 rfl (fun _ h => by cases h) ?_
      have hfl := List.length_filter_le (fun x => vs.getD (2 ^ m * q + x) false) (List.range i)
      rw [List.length_range] at hfl
      refine w1.app k1.1 (c := [aI ((2 ^ m * q + i : Nat) : Int)]) rfl (by rw [List.length_map, List.length_map]; omega) (fun z5 S5 w5 b5 hz5 => ?_) rfl
      rw [hadd]
      refine hKE _ _ _ ⟨w1.keep (Nat.le_refl _) b5 k1, i + 1, rfl, hlt, ?_⟩ hμ
      rw [List.range_succ, List.filter_append, List.map_append, List.map_append]
      rw [show List.filter (fun x => vs.getD (2 ^ m * q + x) false) [i] = [i] by simp only [List.filter_cons, h2, if_true, List.filter_nil]]
      exact w5
    · rw [hadd]
      refine hKE _ _ _ ⟨k1, i + 1, rfl, hlt, ?_⟩ hμ
      rw [List.range_succ, List.filter_append, List.map_append, List.map_append]
      rw [show List.filter (fun x => vs.getD (2 ^ m * q + x) false) [i] = [] by simp only [List.filter_cons, h2, List.filter_nil]; rfl]
      simpa using w1
  · have hge : i = 2 ^ m := by
      have : ¬ ((i : Int) < ((2 ^ m : Nat) : Int)) := of_decide_eq_false hge
      omega
    subst hge
    exact ⟨_, rfl, k1, w1⟩
end
end Go.Proofs.Ytolgpokppnajdaa.G
set_option linter.unusedVariables false
set_option linter.unusedSimpArgs false
namespace Go.Proofs.Ytolgpokppnajdaa.G
open Go Go.Ab
section
variable {c : Ci} {vals : List (List Bool)} {n mid t : Nat} {S : Store}
theorem at22 (h : Mk c vals n mid t S) (h0 : 0 ≤ c.inputs) (h60 : c.inputs + c.latches.length ≤ 60) {s : Nat} {vs : List Bool} (hs : s < vs.length) {sid pid ts tp : Nat} {cs : List AV}
    (ho : S.obj sid = some (.cells ts [cs] true)) (hc : cs[1]? = some (aL aB vs)) (hp : S.obj pid = some (.cells tp [[.p mid 0 0]] true)) :
    AnsAt Try.prog 22 [aI s, .p sid 0 0, .p pid 0 0] S (aB (vs.getD s false && begB c s)) := by
  refine calls22 ?_
  unfold m22
  rw [shift_p, ld1_p ho rfl hc]
  refine ix_tree (by omega) (by omega) _ ?_
  rw [onB_v, Int.toNat_natCast]
  refine gd_of (fun h1 => ?_) (fun h1 => ⟨by rw [h1]; rfl, rfl⟩)
  rw [ld1_p hp rfl rfl]
  refine callF_at (at23 h h0 h60 s) ⟨by rw [h1]; rfl, rfl⟩
theorem at24 (h : Mk c vals n mid t S) {s : Nat} {vs : List Bool} (hs : s < vs.length) (hsv : s < vals.length) {l : Int} (hl : i64R l) (h0 : 0 ≤ l) (h1 : l.tdiv 2 < (vals.getD s []).length) {sid pid lid ts tp tl : Nat} {cs : List AV}
    (ho : S.obj sid = some (.cells ts [cs] true)) (hc : cs[1]? = some (aL aB vs)) (hp : S.obj pid = some (.cells tp [[.p mid 0 0]] true)) (hll : S.obj lid = some (.cells tl [[aI l]] true)) :
    AnsAt Try.prog 24 [aI s, .p sid 0 0, .p pid 0 0, .p lid 0 0] S (aB (vs.getD s false && litB (vals.getD s []) l)) := by
  refine calls24 ?_
  unfold m24
  rw [shift_p, ld1_p ho rfl hc]
  refine ix_tree (by omega) (by omega) _ ?_
  rw [onB_v, Int.toNat_natCast]
  refine gd_of (fun h2 => ?_) (fun h2 => ⟨by rw [h2]; rfl, rfl⟩)
  rw [ld1_p hp rfl rfl, ld1_p hll rfl rfl]
  refine callF_at (at25 h hsv hl h0 h1) ⟨by rw [h2]; rfl, rfl⟩
theorem at20 (h : Mk c vals n mid t S) (hv : vals.length ≤ 1000000) {F : FuncId} {fs cs : List AV} {g : Nat → Bool} (hf : ∀ T, Keep S T → ∀ i, i < vals.length → AnsAt Try.prog F (fs ++ [aI i] ++ cs) T (aB (g i))) :
    AnsAt Try.prog 20 [.p mid 0 0, .f (.func F) fs cs] S (aL aB ((List.range vals.length).map g)) :=
  ans_own_at (f := fun b => .bool b) (each_of h hv hf)
theorem at26 (h : Mk c vals n mid t S) (h0 : 0 ≤ c.inputs) (h60 : c.inputs + c.latches.length ≤ 20) {s : Nat} (hs : s < vals.length) (hl : Lits (c.latches.map (·.1)) (vals.getD s []))
    {vs : List Bool} (hvl : vs.length = 2 ^ (c.inputs.toNat + c.latches.length)) (hsv : s < vs.length) :
    AnsAt Try.prog 26 [.p mid 0 0, aI s, aL aB vs] S (aL aI (if vs.getD s false = true then nextL c (vals.getD s []) vs else [])) :=
  ans_own_at (f := fun i => .int .i64 i) (next_of h h0 h60 hs hl hvl hsv)
/-- What a list of lists of one's own is. -/
theorem own_app_row {α : Type} {f : α → AV} (hf : ∀ a, ∀ cs, f a ≠ .a cs) {S : Store} {n : Nat} {z : AV} {e : Nat} {rs : List α} {r : α} {K : AV → Store → Prop} (w : Own n S z e (rs.map fun v => [f v])) (hn : n ≤ S.n) (hl : rs.length ≤ 1000000)
    (k : ∀ x' S', Own n S' x' e ((rs ++ [r]).map fun v => [f v]) → But S S' z → (∃ m, x' = .s S.n 0 m) → K x' S') : appS e 1 24 z (.l [[f r]]) S K := by
  refine w.app hn (c := [f r]) rfl (by simp; omega) (fun x' S' w' b' h' => k x' S' ?_ b' h') rfl
  rw [List.map_append]
  exact w'
end
/-- The states of a circuit. -/
def valsOf (c : Ci) : List (List Bool) := (List.range (2 ^ c.gr.inputs.toNat)).map fun s : Nat => allB c.gr (bitsL s c.gr.inputs.toNat)
def validOf (c : Ci) : List Bool := (List.range (2 ^ c.gr.inputs.toNat)).map fun s : Nat => c.cons.all (litB ((valsOf c).getD s []))
def spOf (c : Ci) : Sp where
  bits := c.gr.inputs
  valid := validOf c
  initial := (List.range (2 ^ c.gr.inputs.toNat)).map fun s : Nat => (validOf c).getD s false && begB c s
  next := (List.range (2 ^ c.gr.inputs.toNat)).map fun s : Nat => if (validOf c).getD s false = true then nextL c ((valsOf c).getD s []) (validOf c) else []
  fair := c.fair.map fun l => (List.range (2 ^ c.gr.inputs.toNat)).map fun s : Nat => (validOf c).getD s false && litB ((valsOf c).getD s []) l
def sp0 : Sp := ⟨0, [], [], [], []⟩
noncomputable def spaceB (c : Ci) : Sp × Int := if c.right = false then (sp0, 1) else if 10 < c.gr.inputs then (sp0, 2) else (spOf c, 0)
end Go.Proofs.Ytolgpokppnajdaa.G
set_option linter.unusedVariables false
set_option linter.unusedSimpArgs false
namespace Go.Proofs.Ytolgpokppnajdaa.G
open Go Go.Ab

theorem cv_sp0 {S : Store} {n : Nat} : Cv S n (.a [aI 0, .nl, .nl, .nl, .nl]) sp0.av :=
  .a _ _ rfl fun k u u2 hk hk2 => by
    match k with
    | 0 => cases hk; cases hk2; exact .v _
    | 1 | 2 | 3 | 4 => cases hk; cases hk2; exact .nl
    | k + 5 => simp at hk
theorem ldN_off {S : Store} {id t n j : Nat} {cs cs' : List AV} {l : Bool} {K : AV → Store → Prop} (h : S.obj id = some (.cells t [cs] l)) (hj : j + n ≤ cs.length) (hc : (cs.drop j).take n = cs') : ldN n (.p id 0 j) S K = K (.a cs') S := by
  simp [ldN, rdN, place, Store.get, h, hj, hc]
/-- What the loop that makes the values keeps. -/
structure Fr (c : Ci) (S S1 S4 S' : Store) (a b : Nat) (sp : List AV) (rows : List (List Bool)) : Prop where
  keep : Keep S S'
  n : S4.n ≤ S'.n
  cb : S'.obj S.n = some (.cells 27 [c.cells] true)
  sb : S'.obj S1.n = some (.cells 37 [sp] true)
  pb : S'.obj b = some (.cells 56 [[.p a 0 0]] true)
  mb : ∃ z, S'.obj a = some (.cells 59 [c.cells ++ c.gr.cells ++ [z]] true) ∧ Own S4.n S' z 33 (rows.map fun v => [aL aB v])

theorem lits_of {g : Gr} {l : List Int} (hr : ∀ x ∈ l, i64R x) (ha : l.all g.lit = true) {v : List Bool} (hv : (v.length : Int) = g.vars) : Lits l v := fun x hx => by
  have := List.all_eq_true.1 ha x hx
  simp only [Gr.lit, Bool.and_eq_true, decide_eq_true_eq] at this
  exact ⟨hr x hx, this.2.2.1, by omega⟩
theorem vals_len {c : Ci} (h : c.right = true) {s : Nat} (hs : s < 2 ^ c.gr.inputs.toNat) : (((valsOf c).getD s []).length : Int) = c.gr.vars := by
  obtain ⟨g1, g2, g3⟩ := gr_inp h
  have hr := (right_c.1 h).2.2.2.2.2.2.1
  have : (valsOf c).getD s [] = allB c.gr (bitsL s c.gr.inputs.toNat) := by simp [valsOf, List.getD_eq_getElem?_getD, hs]
  rw [this, allB_len, if_pos]
  · have : 0 ≤ c.gr.vars := by unfold Gr.vars; omega
    omega
  · rw [hr, bitsL_len]
    simp; omega
theorem lat_lits {g : Gr} {l : List (Int × Int)} (hr : ∀ x ∈ l, i64R x.1 ∧ i64R x.2) (ha : l.all (latOk g) = true) {v : List Bool} (hv : (v.length : Int) = g.vars) : Lits (l.map (·.1)) v := by
  refine lits_of (g := g) (fun x hx => ?_) ?_ hv
  · obtain ⟨p, hp, rfl⟩ := List.mem_map.1 hx
    exact (hr p hp).1
  · rw [List.all_eq_true]
    intro x hx
    obtain ⟨p, hp, rfl⟩ := List.mem_map.1 hx
    have := List.all_eq_true.1 ha p hp
    simp only [latOk, Bool.and_eq_true] at this
    exact this.1
/-- What the later loops keep. -/
structure Fr2 (c : Ci) (S S1 S4 S' : Store) (a b : Nat) (sp : List AV) (z4 : AV) (e4 : Nat) (rows : List AV) : Prop where
  keep : Keep S S'
  n : S4.n ≤ S'.n
  cb : S'.obj S.n = some (.cells 27 [c.cells] true)
  sb : S'.obj S1.n = some (.cells 37 [sp] true)
  pb : S'.obj b = some (.cells 56 [[.p a 0 0]] true)
  mb : ∃ z, S'.obj a = some (.cells 59 [c.cells ++ c.gr.cells ++ [z]] true) ∧ Own S4.n S' z 33 ((valsOf c).map fun v => [aL aB v]) ∧ Apart z4 z
  ow : Own S4.n S' z4 e4 (rows.map fun v => [v])

theorem own_tree {α : Type} {f : α → AV} {n : Nat} {S : Store} {x : AV} {e : Nat} {l : List α} (hf : ∀ a ∈ l, Tree (f a)) (h : Own n S x e (l.map fun a => [f a])) : Cv (S.frz (newer n)) n x (aL f l) :=
  h.cv rfl rfl (fun i c c2 hi hi2 => by
    rw [hi] at hi2
    cases hi2
    refine ⟨rfl, fun k u u2 hk hk2 => ?_⟩
    rw [hk] at hk2
    cases hk2
    rw [List.getElem?_map] at hi
    obtain ⟨a, ha, rfl⟩ := Option.map_eq_some_iff.1 hi
    cases k with
    | zero => cases hk; exact hf a (List.mem_of_getElem? ha) _ _
    | succ k => simp at hk)
theorem cv_a5 {S : Store} {n : Nat} {x y z u v x' y' z' u' v' : AV} (h1 : Cv S n x x') (h2 : Cv S n y y') (h3 : Cv S n z z') (h4 : Cv S n u u') (h5 : Cv S n v v') : Cv S n (.a [x, y, z, u, v]) (.a [x', y', z', u', v']) :=
  .a _ _ rfl fun k w w2 hk hk2 => by
    match k with
    | 0 => cases hk; cases hk2; exact h1
    | 1 => cases hk; cases hk2; exact h2
    | 2 => cases hk; cases hk2; exact h3
    | 3 => cases hk; cases hk2; exact h4
    | 4 => cases hk; cases hk2; exact h5
    | k + 5 => simp at hk

theorem ans10 {c : Ci} (hc : c.ok) : Ans Try.prog 10 [c.av] (.t [(spaceB c).1.av, aI (spaceB c).2]) := by
  intro S
  refine ACalls.tree (calls10 ?_)
  unfold m10
  refine boxA_of rfl fun S1 k1 n1 o1 => ?_
  refine boxA_of rfl fun S2 k2 n2 o2 => ?_
  have k2' := k1.trans k2
  have p2 : S2.obj S.n = _ := (k2.2 _ (by omega)).trans o1
  rw [ldN_p (n := 8) p2 rfl]
  refine callF_ans (ans17 hc) ?_
  rw [un_not, onB_v]
  refine gd_of (fun h1 => ?_) (fun h1 => ?_)
  · rw [ldN_p (n := 5) o2 rfl]
    refine stA_of o2 rfl rfl fun S3 n3 o3 f3 => ?_
    rw [ldN_p (n := 5) o3 rfl]
    rw [Bool.not_eq_true'] at h1
    refine ⟨_, rfl, k2'.st (by omega) n3 f3, ?_⟩
    rw [spaceB, if_pos h1]
    exact cv_t2 cv_sp0 (.v _)
  have h1 : c.right = true := by simpa using h1
  have h1' : ¬ c.right = false := by rw [h1]; decide
  obtain ⟨g1, g2, g3⟩ := gr_inp h1
  have hin := (right_c.1 h1).1
  obtain ⟨m, hm⟩ := Int.eq_ofNat_of_zero_le g2
  have q2 : ∀ T : Store, Keep S2 T → T.obj S.n = some (.cells 27 [c.cells] true) := fun T hT => (hT.2 _ (by omega)).trans p2
  refine ⟨_, fun T hT => by rw [ldN_p (n := 8) (q2 T hT) rfl]; exact ⟨rfl, rfl⟩, _, fun T hT => by rw [ldN_p (n := 8) (q2 T hT) rfl]; exact ⟨rfl, rfl⟩, _, fun T hT => callF_ans (ans18 c) ⟨rfl, rfl⟩, _, fun T hT => by rw [bld_of (cs := c.cells ++ c.gr.cells ++ [.nl]) rfl]; exact ⟨rfl, rfl⟩, ?_⟩
  refine ⟨_, rfl, rfl, fun ids S3 hN => ?_⟩
  obtain ⟨a, b, rfl⟩ : ∃ a b, ids = [a, b] := by
    have := hN.len
    match ids, this with
    | [a, b], _ => exact ⟨a, b, rfl⟩
  have k3 := hN.keep
  have n3 : S3.n = S2.n + 2 := hN.n
  have ha := hN.lo a (by simp)
  have hb := hN.lo b (by simp)
  have ha' := hN.hi a (by simp)
  have hb' := hN.hi b (by simp)
  have hab : a ≠ b := by have := hN.nodup; simp at this; exact this
  have oa : S3.obj a = some (.cells 59 [c.cells ++ c.gr.cells ++ [.nl]] true) := hN.new 0 a _ rfl rfl
  have ob : S3.obj b = some (.cells 56 [[.v (.pointer none)]] true) := hN.new 1 b _ rfl rfl
  show stN 1 (.p b 0 0) (.p a 0 0) S3 _
  refine st_of ob rfl rfl fun S4 n4 o4 f4 => ?_
  have k4 : Keep S S4 := (k2'.trans k3).st (by omega) n4 f4
  have fr4 : Fr c S S1 S4 S4 a b [aI 0, .nl, .nl, .nl, .nl] [] := ⟨k4, Nat.le_refl _, (f4 _ (by omega)).trans (q2 S3 k3), (f4 _ (by omega)).trans ((k3.2 _ (by omega)).trans o2), o4, .nl, (f4 _ hab).trans oa, Own.nl _ _ _⟩
  show ld1 (.p b 0 0) S4 _
  obtain ⟨z4, m4, _⟩ := fr4.mb
  rw [ld1_p fr4.pb rfl rfl, nilChk_p, shift_p, shift_p, ld1_p m4 rfl rfl]
  show bin .gtr 0 (aI c.gr.inputs) _ _ _
  rw [bin_gtr, onB_v]
  refine gd_of (fun h2 => ?_) (fun h2 => ?_)
  · rw [ldN_p (n := 5) fr4.sb rfl]
    refine stA_of fr4.sb rfl rfl fun S5 n5 o5 f5 => ?_
    rw [ldN_p (n := 5) o5 rfl]
    refine ⟨_, rfl, k4.st (by omega) n5 f5, ?_⟩
    rw [spaceB, if_neg h1', if_pos (of_decide_eq_true h2)]
    exact cv_t2 cv_sp0 (.v _)
  have h2 : ¬ 10 < c.gr.inputs := of_decide_eq_false h2
  have hm10 : m ≤ 10 := by omega
  have hres : spaceB c = (spOf c, 0) := by rw [spaceB, if_neg h1', if_neg h2]
  rw [hres]
  show ld1 (.p b 0 0) S4 _
  rw [ld1_p fr4.pb rfl rfl, nilChk_p, shift_p, shift_p, ld1_p m4 rfl rfl]
  show bin .shl 0 _ (aI c.gr.inputs) _ _
  rw [show aI c.gr.inputs = aI (m : Int) by rw [hm], bin_shl1 (by omega), show ((2 : Int) ^ m) = ((2 ^ m : Nat) : Int) by rw [Int.natCast_pow]; rfl]
  have hN1 : 2 ^ m ≤ 1024 := Nat.pow_le_pow_right (by decide) (show m ≤ 10 by omega)
  have hgt : c.gr.inputs.toNat = m := by rw [hm]; rfl
  show loopV _ _ _ (env10_0 (.p S.n 0 0) (.p S1.n 0 0) (.p b 0 0) (aI ((2 ^ m : Nat) : Int)) (.v (.int .i64 0))) _ _
  refine loop10_0 (fun y S' => ∃ i : Nat, y = aI i ∧ i ≤ 2 ^ m ∧ Fr c S S1 S4 S' a b [aI 0, .nl, .nl, .nl, .nl] ((List.range i).map fun s : Nat => allB c.gr (bitsL s m)))
    (fun y _ => 2 ^ m - ((intA y).getD 0).toNat) ⟨0, rfl, Nat.zero_le _, fr4⟩ ?_
  rintro _ S5 ⟨i, rfl, hi, fr⟩ KE hKE
  unfold b10_0
  obtain ⟨z, hz, hw⟩ := fr.mb
  rw [bin_lss, onB_v]
  refine gd_of (fun hlt => ?_) (fun hge => ?_)
  · have hlt : i < 2 ^ m := by
      have : ((i : Int) < ((2 ^ m : Nat) : Int)) := of_decide_eq_true hlt
      omega
    rw [ld1_p fr.pb rfl rfl, nilChk_p, shift_p, shift_p, ld1_p hz rfl rfl]
    show mkN _ _ _ (aI c.gr.inputs) (aI c.gr.inputs) _ _
    rw [show aI c.gr.inputs = aI (m : Int) by rw [hm]]
    refine mk_of (by omega) (by omega) fun S6 k6 n6 o6 => ?_
    rw [lenS_s]
    have hrep : List.replicate m [AV.v (.bool false)] = (List.range m).map fun k => [aB (if k < 0 then bitN i k else false)] := by
      apply List.ext_getElem
      · simp
      · intro k h1 h2
        simp
    rw [hrep] at o6
    have hs5 := fr.n
    refine loop10_1 (fun y S' => S'.n = S6.n ∧ (∀ x, x < S5.n → S'.obj x = S5.obj x) ∧ ∃ j : Nat, y = aI j ∧ j ≤ m ∧ S'.obj S5.n = some (.cells 4 ((List.range m).map fun k => [aB (if k < j then bitN i k else false)]) true))
      (fun y _ => m - ((intA y).getD 0).toNat) ⟨rfl, k6.2, 0, rfl, Nat.zero_le _, o6⟩ ?_
    rintro _ S7 ⟨n7, f7, j, rfl, hj, o7⟩ KE1 hKE1
    unfold b10_1
    rw [bin_lss, onB_v]
    refine gd_of (fun hlt1 => ?_) (fun hge1 => ?_)
    · have hlt1 : j < m := by simpa using hlt1
      rw [bin_shrN (by omega), bin_and1, bin_eql, ixS_s hlt1 o7]
      refine st_of o7 (u0 := aB (if j < j then bitN i j else false)) (by rw [Nat.zero_add]; simp [hlt1]) rfl fun S8 n8 o8 f8 => ?_
      rw [bin_add (by omega) (by omega)]
      refine hKE1 _ _ ⟨by omega, fun x hx => (f8 x (by omega)).trans (f7 x hx), j + 1, rfl, hlt1, ?_⟩ (by simp [intA]; omega)
      rw [o8, Nat.zero_add]
      have := set_range (n := m) (i := j) (f := fun k => [aB (if k < j then bitN i k else false)]) (f' := fun k => [aB (if k < j + 1 then bitN i k else false)]) hlt1 (fun k hk => by
        have : (k < j + 1) = (k < j) := by apply propext; omega
        simp only [this])
      rw [← this]
      simp [bitN]
    · have hgj : j = m := by
        have : ¬ ((j : Int) < (m : Int)) := of_decide_eq_false hge1
        omega
      subst hgj
      have o7' : S7.obj S5.n = some (.cells 4 ((bitsL i j).map fun b => [aB b]) true) := by
        rw [o7, bitsL, List.map_map]
        congr 2
        apply List.map_congr_left
        intro k hk
        simp [List.mem_range.1 hk]
      have bp := (f7 b (by omega)).trans fr.pb
      have bz := (f7 a (by omega)).trans hz
      have kT : ∀ {T : Store} {x : Nat} {o : AObj}, Keep S7 T → x < S5.n → S7.obj x = some o → T.obj x = some o := fun hT hx ho => (hT.2 _ (by omega)).trans ho
      have w7 : Own S4.n S7 z 33 (((List.range i).map fun s : Nat => allB c.gr (bitsL s j)).map fun v => [aL aB v]) := hw.same (by omega) (fun x _ hx => f7 x hx)
      refine ⟨_, fun T hT => by rw [ld1_p (kT hT (by omega) bp) rfl rfl]; exact ⟨rfl, rfl⟩, _, fun T hT => by rw [ld1_p (kT hT (by omega) bp) rfl rfl]; exact ⟨rfl, rfl⟩, _, fun T hT => by rw [nilChk_p]; exact ⟨rfl, rfl⟩, _, fun T hT => by rw [shift_p]; exact ⟨rfl, rfl⟩,
        z, fun T hT => by rw [ld1_p (kT hT (by omega) bz) rfl rfl]; exact ⟨rfl, rfl⟩, _, fun T hT => by rw [ld1_p (kT hT (by omega) bp) rfl rfl]; exact ⟨rfl, rfl⟩, _, fun T hT => by rw [nilChk_p]; exact ⟨rfl, rfl⟩, _, fun T hT => by rw [shift_p]; exact ⟨rfl, rfl⟩,
        c.gr.av, fun T hT => by rw [ldN_off (n := 2) (cs' := c.gr.cells) (kT hT (by omega) bz) (by simp [Ci.cells, Gr.cells]) rfl]; exact ⟨rfl, rfl⟩,
        aL aB (allB c.gr (bitsL i j)), fun T hT => callF_at (ans_own_at (f := fun b => .bool b) (own_at19 hc.gr (ins := bitsL i j) (by simp; omega) (fun T K => by rw [lenS_s, bitsL_len]) (fun T' hT' => ?_))) ⟨rfl, rfl⟩,
        _, fun T hT => bsl1 rfl (fun _ h => by cases h) ⟨rfl, rfl⟩, ?_⟩
      · have := (hT'.2 S5.n (by have := hT.1; omega)).trans ((hT.2 S5.n (by omega)).trans o7')
        simp only [srcE, this]
        rw [if_pos (by simp)]
        simp [List.take_of_length_le]
      refine own_app_row (f := aL aB) (fun _ _ h => by cases h) w7 (by omega) (by simp; omega) (fun z8 S8 w8 b8 hz8 => ?_)
      have k8 : ∀ x, x < S4.n → S8.obj x = S7.obj x := fun x hx => b8.2 x (by omega) (fun b m e => by
        have := w7.lt e
        omega)
      have n8 := b8.1
      have b8p := (k8 b (by omega)).trans bp
      refine ⟨fun T hT => by rw [ld1_p ((hT.2 _ (by omega)).trans b8p) rfl rfl]; exact ⟨rfl, rfl⟩, _, fun T hT => by rw [nilChk_p]; exact ⟨rfl, rfl⟩, _, fun T hT => by rw [shift_p]; exact ⟨rfl, rfl⟩, ?_⟩
      obtain ⟨m8, hm8⟩ := hz8
      refine stF_of ((k8 a (by omega)).trans bz) (by simp [Ci.cells, Gr.cells]) (by rw [hm8]; rfl) fun S9 n9 o9 f9 => ?_
      have b9p := (f9 b (Ne.symm hab)).trans b8p
      rw [bin_add (by omega) (by omega)]
      have old : ∀ x, x < S4.n → x ≠ a → S9.obj x = S5.obj x := fun x hx hne => (f9 x hne).trans ((k8 x hx).trans (f7 x (by omega)))
      have k4n := k4.1
      refine hKE _ _ ⟨i + 1, rfl, hlt, ⟨by have := fr.keep.1; omega, fun x hx => (old x (by omega) (by omega)).trans (fr.keep.2 x hx)⟩, by omega, (old _ (by omega) (by omega)).trans fr.cb, (old _ (by omega) (by omega)).trans fr.sb, b9p, z8, o9, ?_⟩ (by simp [intA]; omega)
      rw [List.range_succ, List.map_append]
      exact w8.st (id := a) (fun b m e => by rw [hm8] at e; injection e; omega) n9 f9
  · have hge : i = 2 ^ m := by
      have : ¬ ((i : Int) < ((2 ^ m : Nat) : Int)) := of_decide_eq_false hge
      omega
    subst hge
    have hvals : (List.range (2 ^ m)).map (fun s : Nat => allB c.gr (bitsL s m)) = valsOf c := by unfold valsOf; rw [hgt]
    rw [hvals] at fr
    clear hw hz z
    have hvl : (valsOf c).length = 2 ^ m := by rw [← hvals]; simp
    have hvalid : validOf c = (List.range (valsOf c).length).map fun s : Nat => c.cons.all (litB ((valsOf c).getD s [])) := by rw [hvl, validOf, hgt]
    have hvv : (validOf c).length = 2 ^ m := by rw [hvalid]; simp [hvl]
    have hR := right_c.1 h1
    have hlen : ∀ s, s < (valsOf c).length → (((valsOf c).getD s []).length : Int) = c.gr.vars := fun s hs => vals_len h1 (by rw [hgt, ← hvl]; exact hs)
    have hcons : ∀ s, s < (valsOf c).length → Lits c.cons ((valsOf c).getD s []) := fun s hs => lits_of hc.cons.1 hR.2.2.2.2.2.2.2.2.2.2.1 (hlen s hs)
    have hfair : ∀ s, s < (valsOf c).length → Lits c.fair ((valsOf c).getD s []) := fun s hs => lits_of hc.fair.1 hR.2.2.2.2.2.2.2.2.2.2.2.1 (hlen s hs)
    have hlats : ∀ s, s < (valsOf c).length → Lits (c.latches.map (·.1)) ((valsOf c).getD s []) := fun s hs => lat_lits hc.lats hR.2.2.2.2.2.2.2.1 (hlen s hs)
    have hs5 := fr.n
    obtain ⟨z, hz, hw⟩ := fr.mb
    rw [ld1_p fr.pb rfl rfl, nilChk_p, shift_p, shift_p, ld1_p hz rfl rfl, shift_p]
    show stN 1 _ (aI c.gr.inputs) _ _
    refine stF_of fr.sb (by simp) rfl fun S6 n6 o6 f6 => ?_
    have b6 := (f6 b (by omega)).trans fr.pb
    have z6 := (f6 a (by omega)).trans hz
    have w6 : Own S4.n S6 z 33 _ := hw.st (id := S1.n) (fun b m e => by have := hw.lt e; omega) n6 f6
    have mk6 : Mk c (valsOf c) S4.n a 59 S6 := ⟨by omega, z, z6, w6⟩
    rw [ld1_p b6 rfl rfl, ld1_p b6 rfl rfl]
    refine callF_at (at20 mk6 (by omega) (g := fun s => c.cons.all (litB ((valsOf c).getD s []))) (fun T hT s hs => at21 (mk6.keep hT) hs (hcons s hs) hc.cons.2)) ?_
    rw [← hvalid, shift_p]
    refine stF_of o6 (by simp) rfl fun S7 n7 o7 f7 => ?_
    have b7 := (f7 b (by omega)).trans b6
    have z7 := (f7 a (by omega)).trans z6
    have w7 : Own S4.n S7 z 33 _ := w6.st (id := S1.n) (fun b m e => by have := w6.lt e; omega) n7 f7
    have mk7 : Mk c (valsOf c) S4.n a 59 S7 := ⟨by omega, z, z7, w7⟩
    rw [ld1_p b7 rfl rfl]
    refine callF_at (at20 mk7 (by omega) (g := fun s => (validOf c).getD s false && begB c s) (fun T hT s hs => at22 (mk7.keep hT) hin.1 (by omega) (by omega) ((hT.2 _ (by omega)).trans o7) rfl ((hT.2 _ (by omega)).trans b7))) ?_
    rw [shift_p]
    refine stF_of o7 (by simp) rfl fun S8 n8 o8 f8 => ?_
    have b8 := (f8 b (by omega)).trans b7
    have z8 := (f8 a (by omega)).trans z7
    have w8 : Own S4.n S8 z 33 _ := w7.st (id := S1.n) (fun b m e => by have := w7.lt e; omega) n8 f8
    have old8 : ∀ x, x ≠ S1.n → S8.obj x = S5.obj x := fun x hx => (f8 x hx).trans ((f7 x hx).trans (f6 x hx))
    have hinit : (spOf c).initial = (List.range (valsOf c).length).map (fun s : Nat => (validOf c).getD s false && begB c s) := by rw [hvl]; simp only [spOf, hgt]
    rw [← hinit] at o8
    have fr8 : Fr2 c S S1 S4 S8 a b [aI c.gr.inputs, aL aB (validOf c), aL aB (spOf c).initial, .nl, .nl] .nl 33 [] :=
      ⟨⟨by have := fr.keep.1; omega, fun x hx => (old8 x (by omega)).trans (fr.keep.2 x hx)⟩, by omega, (old8 _ (by omega)).trans fr.cb, o8, b8, ⟨z, z8, w8, fun _ _ _ _ _ e => by cases e⟩, Own.nl _ _ _⟩
    rw [shift_p, ld1_p fr8.cb rfl rfl, lenS_aL]
    have hfl : c.fair.length ≤ 2000 := hR.2.2.2.2.2.1
    have hspf : (spOf c).fair = c.fair.map fun l => (List.range (valsOf c).length).map fun s : Nat => (validOf c).getD s false && litB ((valsOf c).getD s []) l := by rw [hvl]; simp only [spOf, hgt]
    refine loop10_2 (fun y S' => ∃ (i : Nat) (z4 : AV), y = aI i ∧ i ≤ c.fair.length ∧ Fr2 c S S1 S4 S' a b [aI c.gr.inputs, aL aB (validOf c), aL aB (spOf c).initial, .nl, z4] z4 33 (((spOf c).fair.take i).map fun v => aL aB v))
      (fun y _ => c.fair.length - ((intA y).getD 0).toNat) ⟨0, .nl, rfl, Nat.zero_le _, fr8⟩ ?_
    rintro _ S9 ⟨i, z4, rfl, hi, fr9⟩ KE2 hKE2
    unfold b10_2
    have h9n := fr9.n
    have hk4 := k4.1
    rw [bin_lss, onB_v]
    refine gd_of (fun hlt => ?_) (fun hge => ?_)
    · have hlt : i < c.fair.length := by simpa using hlt
      have hlf : i < (spOf c).fair.length := by rw [hspf, List.length_map]; exact hlt
      have hli := List.getElem_mem hlt
      have hrow : (spOf c).fair[i] = (List.range (valsOf c).length).map fun s : Nat => (validOf c).getD s false && litB ((valsOf c).getD s []) c.fair[i] := by simp only [hspf, List.getElem_map]
      have htk : (spOf c).fair.take (i + 1) = (spOf c).fair.take i ++ [(spOf c).fair[i]] := by rw [List.take_add_one, List.getElem?_eq_getElem hlf]; rfl
      rw [ixS_aL hlt, ld1_q]
      refine box1_of rfl fun S10 k10 n10 o10 => ?_
      refine st_of o10 rfl rfl fun S11 n11 o11 f11 => ?_
      have k11 : Keep S9 S11 := k10.st (Nat.le_refl _) n11 f11
      obtain ⟨zz, hzz, hww, hap⟩ := fr9.mb
      have mk11 : Mk c (valsOf c) S4.n a 59 S11 := ⟨by have := k11.1; omega, zz, (k11.2 _ (by omega)).trans hzz, own_keep hww k11⟩
      have m11 := k11.1
      have s11 := (k11.2 _ (by omega)).trans fr9.sb
      have b11 := (k11.2 _ (by omega)).trans fr9.pb
      have kT : ∀ {T : Store} {x : Nat} {o : AObj}, Keep S11 T → x < S11.n → S11.obj x = some o → T.obj x = some o := fun hT hx ho => (hT.2 _ hx).trans ho
      refine ⟨_, fun T hT => by rw [shift_p]; exact ⟨rfl, rfl⟩, z4, fun T hT => by rw [ld1_p (kT hT (by omega) s11) rfl rfl]; exact ⟨rfl, rfl⟩, _, fun T hT => by rw [ld1_p (kT hT (by omega) b11) rfl rfl]; exact ⟨rfl, rfl⟩, _, fun T hT => ⟨rfl, rfl⟩,
        aL aB (spOf c).fair[i], fun T hT => callF_at (show AnsAt _ _ _ T (aL aB (spOf c).fair[i]) from hrow ▸ at20 (mk11.keep hT) (by omega) (g := fun s => (validOf c).getD s false && litB ((valsOf c).getD s []) c.fair[i]) (fun T' hT' s hs =>
          at24 (mk11.keep (hT.trans hT')) (by omega) hs (hfair s hs _ hli).1 (hfair s hs _ hli).2.1 (hfair s hs _ hli).2.2 (kT (hT.trans hT') (by omega) s11) rfl (kT (hT.trans hT') (by omega) b11) (kT (hT.trans hT') (by omega) o11))) ⟨rfl, rfl⟩,
        _, fun T hT => bsl1 rfl (fun _ h => by cases h) ⟨rfl, rfl⟩, ?_⟩
      refine (own_keep fr9.ow k11).app (by omega) (c := [aL aB (spOf c).fair[i]]) rfl (by simp; omega) (fun z5 S12 w12 b12 hz12 => ?_) rfl
      obtain ⟨m12, hm12⟩ := hz12
      have n12 := b12.1
      have k12 : ∀ x, x < S4.n → S12.obj x = S11.obj x := fun x hx => b12.2 x (by omega) (fun b m e => by have := fr9.ow.lt e; omega)
      refine ⟨_, fun T hT => by rw [shift_p]; exact ⟨rfl, rfl⟩, ?_⟩
      refine stF_of ((k12 S1.n (by omega)).trans s11) (by simp) (by rw [hm12]; rfl) fun S13 n13 o13 f13 => ?_
      rw [bin_add (by omega) (by omega)]
      have old : ∀ x, x < S4.n → x ≠ S1.n → S13.obj x = S9.obj x := fun x hx hne => (f13 x hne).trans ((k12 x hx).trans (k11.2 x (by omega)))
      have wz : Own S4.n S13 zz 33 _ := ((own_keep hww k11).but b12 hap).st (id := S1.n) (fun b m e => by have := hww.lt e; omega) n13 f13
      refine hKE2 _ _ ⟨i + 1, z5, rfl, hlt, ⟨by have := fr9.keep.1; omega, fun x hx => (old x (by omega) (by omega)).trans (fr9.keep.2 x hx)⟩, by omega, (old _ (by omega) (by omega)).trans fr9.cb, o13, (old _ (by omega) (by omega)).trans fr9.pb, ⟨zz, (old _ (by omega) (by omega)).trans hzz, wz, fun x b m b' m' e e' => ?_⟩, ?_⟩ (by simp [intA]; omega)
      · rw [hm12] at e; injection e with e1 e2 e3
        have := hww.lt e'
        omega
      · rw [htk, List.map_append, List.map_append]
        exact w12.st (id := S1.n) (fun b m e => by rw [hm12] at e; injection e; omega) n13 f13
    · have hge : i = c.fair.length := by
        have : ¬ ((i : Int) < (c.fair.length : Int)) := of_decide_eq_false hge
        omega
      subst hge
      rw [List.take_of_length_le (by rw [hspf, List.length_map]; exact Nat.le_refl _)] at fr9
      obtain ⟨zz, hzz, hww, hap⟩ := fr9.mb
      rw [ld1_p fr9.pb rfl rfl, nilChk_p, shift_p, ld1_p hzz rfl rfl, hww.len, List.length_map]
      have hspn : (spOf c).next = (List.range (valsOf c).length).map fun s : Nat => if (validOf c).getD s false = true then nextL c ((valsOf c).getD s []) (validOf c) else [] := by rw [hvl]; simp only [spOf, hgt]
      have hnl : (spOf c).next.length = (valsOf c).length := by rw [hspn, List.length_map, List.length_range]
      refine loop10_3 (fun y S' => ∃ (i : Nat) (z3 : AV), y = aI i ∧ i ≤ (valsOf c).length ∧ Fr2 c S S1 S4 S' a b [aI c.gr.inputs, aL aB (validOf c), aL aB (spOf c).initial, z3, z4] z3 24 (((spOf c).next.take i).map fun v => aL aI v) ∧
          Own S4.n S' z4 33 (((spOf c).fair.map fun v => aL aB v).map fun v => [v]) ∧ Apart z3 z4)
        (fun y _ => (valsOf c).length - ((intA y).getD 0).toNat) ⟨0, .nl, rfl, Nat.zero_le _, ⟨fr9.keep, fr9.n, fr9.cb, fr9.sb, fr9.pb, ⟨zz, hzz, hww, fun _ _ _ _ _ e => by cases e⟩, Own.nl _ _ _⟩, fr9.ow, fun _ _ _ _ _ e => by cases e⟩ ?_
      clear hzz hww hap zz fr9 h9n
      rintro _ S9 ⟨i, z3, rfl, hi, fr9, wf, hap4⟩ KE3 hKE3
      unfold b10_3
      have h9n := fr9.n
      obtain ⟨zz, hzz, hww, hap⟩ := fr9.mb
      rw [bin_lss, onB_v]
      refine gd_of (fun hlt => ?_) (fun hge => ?_)
      · have hlt : i < (valsOf c).length := by
          have : ((i : Int) < ((valsOf c).length : Int)) := of_decide_eq_true hlt
          omega
        have hlf : i < (spOf c).next.length := by omega
        have hrow : (spOf c).next[i] = if (validOf c).getD i false = true then nextL c ((valsOf c).getD i []) (validOf c) else [] := by simp only [hspn, List.getElem_map, List.getElem_range]
        have htk : (spOf c).next.take (i + 1) = (spOf c).next.take i ++ [(spOf c).next[i]] := by rw [List.take_add_one, List.getElem?_eq_getElem hlf]; rfl
        have mk9 : Mk c (valsOf c) S4.n a 59 S9 := ⟨by omega, zz, hzz, hww⟩
        have kT : ∀ {T : Store} {x : Nat} {o : AObj}, Keep S9 T → x < S9.n → S9.obj x = some o → T.obj x = some o := fun hT hx ho => (hT.2 _ hx).trans ho
        have hmm : m = c.inputs.toNat + c.latches.length := by omega
        refine ⟨_, fun T hT => by rw [shift_p]; exact ⟨rfl, rfl⟩, z3, fun T hT => by rw [ld1_p (kT hT (by omega) fr9.sb) rfl rfl]; exact ⟨rfl, rfl⟩, _, fun T hT => by rw [ld1_p (kT hT (by omega) fr9.pb) rfl rfl]; exact ⟨rfl, rfl⟩, _, fun T hT => by rw [shift_p]; exact ⟨rfl, rfl⟩, aL aB (validOf c), fun T hT => by rw [ld1_p (kT hT (by omega) fr9.sb) rfl rfl]; exact ⟨rfl, rfl⟩,
          aL aI (spOf c).next[i], fun T hT => callF_at (show AnsAt _ _ _ T (aL aI (spOf c).next[i]) from hrow ▸ at26 (mk9.keep hT) hin.1 (by omega) hlt (hlats i hlt) (by rw [hvv, hmm]) (by omega)) ⟨rfl, rfl⟩,
          _, fun T hT => bsl1 rfl (fun _ h => by cases h) ⟨rfl, rfl⟩, ?_⟩
        refine fr9.ow.app (by omega) (c := [aL aI (spOf c).next[i]]) rfl (by simp; omega) (fun z5 S12 w12 b12 hz12 => ?_) rfl
        obtain ⟨m12, hm12⟩ := hz12
        have n12 := b12.1
        have k12 : ∀ x, x < S4.n → S12.obj x = S9.obj x := fun x hx => b12.2 x (by omega) (fun b m e => by have := fr9.ow.lt e; omega)
        refine ⟨_, fun T hT => by rw [shift_p]; exact ⟨rfl, rfl⟩, ?_⟩
        refine stF_of ((k12 S1.n (by omega)).trans fr9.sb) (by simp) (by rw [hm12]; rfl) fun S13 n13 o13 f13 => ?_
        rw [bin_add (by omega) (by omega)]
        have old : ∀ x, x < S4.n → x ≠ S1.n → S13.obj x = S9.obj x := fun x hx hne => (f13 x hne).trans (k12 x hx)
        have wz : Own S4.n S13 zz 33 _ := (hww.but b12 hap).st (id := S1.n) (fun b m e => by have := hww.lt e; omega) n13 f13
        have wf' : Own S4.n S13 z4 33 _ := (wf.but b12 hap4).st (id := S1.n) (fun b m e => by have := wf.lt e; omega) n13 f13
        refine hKE3 _ _ ⟨i + 1, z5, rfl, hlt, ⟨⟨by have := fr9.keep.1; omega, fun x hx => (old x (by omega) (by omega)).trans (fr9.keep.2 x hx)⟩, by omega, (old _ (by omega) (by omega)).trans fr9.cb, o13, (old _ (by omega) (by omega)).trans fr9.pb, ⟨zz, (old _ (by omega) (by omega)).trans hzz, wz, fun x b m b' m' e e' => ?_⟩, ?_⟩, wf', fun x b m b' m' e e' => ?_⟩ (by simp [intA]; omega)
        · rw [hm12] at e; injection e with e1 e2 e3
          have := hww.lt e'
          omega
        · rw [htk, List.map_append, List.map_append]
          exact w12.st (id := S1.n) (fun b m e => by rw [hm12] at e; injection e; omega) n13 f13
        · rw [hm12] at e; injection e with e1 e2 e3
          have := wf.lt e'
          omega
      · have hge : i = (valsOf c).length := by
          have : ¬ ((i : Int) < ((valsOf c).length : Int)) := of_decide_eq_false hge
          omega
        subst hge
        have hnx := fr9.ow
        rw [List.take_of_length_le (by omega)] at hnx
        rw [ldN_p (n := 5) fr9.sb rfl]
        refine stA_of fr9.sb rfl rfl fun S10 n10 o10 f10 => ?_
        rw [ldN_p (n := 5) o10 rfl]
        have w3 : Own S.n S10 z3 24 _ := (hnx.st (id := S1.n) (fun b m e => by have := hnx.lt e; omega) n10 f10).low (by omega)
        have w4 : Own S.n S10 z4 33 _ := (wf.st (id := S1.n) (fun b m e => by have := wf.lt e; omega) n10 f10).low (by omega)
        rw [List.map_map] at w3 w4
        refine ⟨_, rfl, fr9.keep.st (by omega) n10 f10, cv_t2 (cv_a5 (.v _) (treeB _ _ _) (treeB _ _ _) (own_tree (fun _ _ => treeI _) w3) (own_tree (fun _ _ => treeB _) w4)) (.v _)⟩
end Go.Proofs.Ytolgpokppnajdaa.G
set_option linter.unusedVariables false
set_option linter.unusedSimpArgs false
namespace Go.Proofs.Ytolgpokppnajdaa.G
open Go Go.Ab

theorem ans30 {c : Ci} (hc : c.ok) {s : Int} {l : List Int} (hl : ∀ x ∈ l, i64R x) (hn : l.length ≤ 9223372036854775807) : Ans Try.prog 30 [c.av, aI s, aL aI l] (aB (l.all (isB c s))) := by
  intro S
  refine ACalls.ans_v (calls30 ?_)
  unfold m30
  refine boxA_of rfl fun S1 k1 n1 o1 => ?_
  refine loop30_0 (fun y S' => S' = S1 ∧ ∃ i : Nat, y = aI i ∧ i ≤ l.length ∧ ∀ j (h : j < l.length), j < i → isB c s l[j] = true)
    (fun y _ => l.length - ((intA y).getD 0).toNat) ⟨rfl, 0, rfl, Nat.zero_le _, fun j _ hj => (Nat.not_lt_zero _ hj).elim⟩ ?_
  rintro _ S1 ⟨rfl, i, rfl, hi, hok⟩ KE hKE
  unfold b30_0
  rw [lenS_aL, bin_lss, onB_v]
  refine gd_of (fun hlt => ?_) (fun hge => ?_)
  · have hlt : i < l.length := by simpa using hlt
    have hm := List.getElem_mem hlt
    show ∃ q5 : AV, _
    refine ⟨_, by rw [ldN_p (n := 8) o1 rfl]; exact ⟨rfl, rfl⟩, ?_⟩
    refine ⟨_, by rw [ixS_aL hlt]; exact ⟨rfl, rfl⟩, ?_⟩
    refine ⟨_, by rw [ld1_q]; exact ⟨rfl, rfl⟩, ?_⟩
    refine ⟨_, callF_ans (ans29 hc (hl _ hm)) ⟨rfl, rfl⟩, ?_⟩
    refine ⟨_, by rw [un_not]; exact ⟨rfl, rfl⟩, ?_⟩
    rw [onB_v]
    refine gd_of (fun h => ⟨?_, k1⟩) (fun h => ?_)
    · have : l.all (isB c s) = false := by
        rw [List.all_eq_false]
        exact ⟨_, hm, by simpa using h⟩
      rw [this]
    · have hadd : ∀ K : AV → Store → Prop, ∀ S, bin .add 0 (.v (.int .i64 (i : Int))) (.v (.int .i64 1)) S K = K (aI (i + 1 : Nat)) S := fun K S => bin_add (by omega) (by omega) 0
      rw [hadd]
      refine hKE _ _ ⟨rfl, i + 1, rfl, hlt, fun j hj hj' => ?_⟩ (by simp [intA]; omega)
      rcases Nat.lt_or_ge j i with h' | h'
      · exact hok j hj h'
      · have : j = i := by omega
        subst this
        simpa using h
  · have hge : i = l.length := by simp at hge; omega
    subst hge
    refine ⟨?_, k1⟩
    have : l.all (isB c s) = true := by
      rw [List.all_eq_true]
      intro x hx
      obtain ⟨j, hj, rfl⟩ := List.getElem_of_mem hx
      exact hok j hj hj
    rw [this]
theorem ans31 {c : Ci} (hll : c.latches.length ≤ 1000000) (h0 : 0 ≤ c.inputs) (h60 : c.inputs + c.latches.length ≤ 60) {s : Int} (hs : 0 ≤ s) : Ans Try.prog 31 [c.av, aI s] (aB (begB c s)) := by
  intro S
  refine ACalls.ans_v (calls31 ?_)
  unfold m31
  refine boxA_of rfl fun S1 k1 n1 o1 => ?_
  refine loop31_0 (fun w S' => S' = S1 ∧ ∃ i : Nat, w = aI i ∧ i ≤ c.latches.length ∧ ∀ j, j < i → (decide ((c.latches.getD j (0, 0)).2 = 2) || decide (s.fdiv (2 ^ (c.inputs.toNat + j)) % 2 = (c.latches.getD j (0, 0)).2)) = true)
    (fun w _ => c.latches.length - ((intA w).getD 0).toNat) ⟨rfl, 0, rfl, Nat.zero_le _, fun j hj => (Nat.not_lt_zero _ hj).elim⟩ ?_
  rintro _ S1 ⟨rfl, i, rfl, hi, hok⟩ KE hKE
  unfold b31_0
  rw [shift_p, ld1_p o1 rfl rfl, lenS_pL, bin_lss, onB_v]
  refine gd_of (fun hlt => ?_) (fun hge => ?_)
  · have hlt : i < c.latches.length := by simpa using hlt
    have hget : c.latches.getD i (0, 0) = c.latches[i] := by simp [List.getD_eq_getElem?_getD, hlt]
    have hadd : ∀ K : AV → Store → Prop, ∀ S, bin .add 0 (.v (.int .i64 (i : Int))) (.v (.int .i64 1)) S K = K (aI (i + 1 : Nat)) S := fun K S => bin_add (by omega) (by omega) 0
    have hno : (decide ((c.latches.getD i (0, 0)).2 = 2) || decide (s.fdiv (2 ^ (c.inputs.toNat + i)) % 2 = (c.latches.getD i (0, 0)).2)) = false → begB c s = false := fun hh => by
      rw [begB, List.all_eq_false]
      exact ⟨i, by simpa using hlt, by rw [hh]; decide⟩
    rw [hget] at hno
    have hnext : (decide (c.latches[i].2 = 2) || decide (s.fdiv (2 ^ (c.inputs.toNat + i)) % 2 = c.latches[i].2)) = true → KE 33 (env31_0 (aI s) (.p S.n 0 0) (aI (i + 1 : Nat))) S1 := fun hh => hKE _ _ ⟨rfl, i + 1, rfl, hlt, fun j hj => by
      rcases Nat.lt_or_ge j i with h' | h'
      · exact hok j h'
      · have : j = i := by omega
        subst this
        rw [hget]; exact hh⟩ (by simp [intA]; omega)
    have e : c.inputs + (i : Int) = ((c.inputs.toNat + i : Nat) : Int) := by omega
    rw [shift_p, ld1_p o1 rfl rfl, ixS_pL hlt, shift_q, ld1_qj (u := aI c.latches[i].2) rfl, bin_neq, onB_v]
    generalize c.latches[i] = x at *
    refine gd_of (fun h4 => ?_) (fun h4 => ?_)
    · have h4 : ¬ x.2 = 2 := by simpa using h4
      have hnn : 0 ≤ s.fdiv (2 ^ (c.inputs.toNat + i)) := Int.fdiv_nonneg hs (Int.le_of_lt (Int.pow_pos (by decide)))
      rw [shift_p, ld1_p o1 rfl rfl, bin_add (by omega) (by omega), e, bin_shrN (by omega), bin_rem (by decide), bin_neq, onB_v, show (s.fdiv (2 ^ (c.inputs.toNat + i))).tmod 2 = s.fdiv (2 ^ (c.inputs.toNat + i)) % 2 from Int.tmod_eq_emod_of_nonneg hnn]
      refine gd_of (fun h5 => ⟨?_, k1⟩) (fun h5 => ?_)
      · have h5 : ¬ s.fdiv (2 ^ (c.inputs.toNat + i)) % 2 = x.2 := by simpa using h5
        rw [hno (by simp only [h4, h5, decide_false, Bool.or_self])]
      · have h5 : s.fdiv (2 ^ (c.inputs.toNat + i)) % 2 = x.2 := by simpa using h5
        rw [hadd]
        exact hnext (by simp only [h5, decide_true, Bool.or_true])
    · have h4 : x.2 = 2 := by simpa using h4
      rw [hadd]
      exact hnext (by simp only [h4, decide_true, Bool.true_or])
  · have hge : i = c.latches.length := by simp at hge; omega
    subst hge
    refine ⟨?_, k1⟩
    have : begB c s = true := by
      rw [begB, List.all_eq_true]
      exact fun j hj => hok j (by simpa using hj)
    rw [this]
theorem ans32 {p q : List Bool} (hp : p.length ≤ 1000000) : Ans Try.prog 32 [aL aB p, aL aB q] (aB (decide (p = q))) := by
  intro S
  refine ACalls.ans_v (calls32 ?_)
  unfold m32
  rw [lenS_aL, lenS_aL, bin_neq, onB_v]
  refine gd_of (fun h => ⟨?_, Keep.refl _⟩) (fun h => ?_)
  · have : ¬ p = q := fun e => by subst e; simp at h
    simp [this]
  have hl : p.length = q.length := by
    have : (p.length : Int) = q.length := by simpa using h
    omega
  refine loop32_0 (fun y S' => S' = S ∧ ∃ i : Nat, y = aI i ∧ i ≤ p.length ∧ ∀ j (h : j < p.length) (h' : j < q.length), j < i → p[j] = q[j])
    (fun y _ => p.length - ((intA y).getD 0).toNat) ⟨rfl, 0, rfl, Nat.zero_le _, fun j _ _ hj => (Nat.not_lt_zero _ hj).elim⟩ ?_
  rintro _ S ⟨rfl, i, rfl, hi, hok⟩ KE hKE
  unfold b32_0
  rw [lenS_aL, bin_lss, onB_v]
  refine gd_of (fun hlt => ?_) (fun hge => ?_)
  · have hlt : i < p.length := by simpa using hlt
    have hlq : i < q.length := by omega
    show ∃ q8 : AV, _
    refine ⟨_, by rw [ixS_aL hlt]; exact ⟨rfl, rfl⟩, ?_⟩
    refine ⟨_, by rw [ld1_q]; exact ⟨rfl, rfl⟩, ?_⟩
    refine ⟨_, by rw [ixS_aL hlq]; exact ⟨rfl, rfl⟩, ?_⟩
    refine ⟨_, by rw [ld1_q]; exact ⟨rfl, rfl⟩, ?_⟩
    refine ⟨_, by rw [bin_neqB]; exact ⟨rfl, rfl⟩, ?_⟩
    rw [onB_v]
    refine gd_of (fun h => ⟨?_, Keep.refl _⟩) (fun h => ?_)
    · have : ¬ p = q := fun e => by subst e; simp at h
      simp [this]
    · have hadd : ∀ K : AV → Store → Prop, ∀ S, bin .add 0 (.v (.int .i64 (i : Int))) (.v (.int .i64 1)) S K = K (aI (i + 1 : Nat)) S := fun K S => bin_add (by omega) (by omega) 0
      rw [hadd]
      refine hKE _ _ ⟨rfl, i + 1, rfl, hlt, fun j hj hj2 hj' => ?_⟩ (by simp [intA]; omega)
      rcases Nat.lt_or_ge j i with h' | h'
      · exact hok j hj hj2 h'
      · have : j = i := by omega
        subst this
        simpa using h
  · have hge : i = p.length := by simp at hge; omega
    subst hge
    have : p = q := List.ext_getElem hl fun j h1 h2 => hok j h1 h2 h1
    simp [this, Keep.refl]
end Go.Proofs.Ytolgpokppnajdaa.G
set_option linter.unusedVariables false
set_option linter.unusedSimpArgs false
namespace Go.Proofs.Ytolgpokppnajdaa.G
open Go Go.Ab

/-- A space is the same as itself. -/
theorem same13 {s : Sp} (h1 : s.valid.length ≤ 1000000) (h2 : s.initial.length ≤ 1000000) (h3 : s.next.length ≤ 1000000) (h4 : ∀ r ∈ s.next, r.length ≤ 1000000) (h5 : s.fair.length ≤ 1000000) (h6 : ∀ r ∈ s.fair, r.length ≤ 1000000) :
    Ans Try.prog 13 [s.av, s.av] (aB true) := by
  intro S
  refine ACalls.ans_v (calls13 ?_)
  unfold m13 Sp.av
  refine boxA_of rfl fun S1 k1 n1 o1 => ?_
  refine boxA_of rfl fun S2 k2 n2 o2 => ?_
  have k2' := k1.trans k2
  have p2 := (k2.2 S.n (by omega)).trans o1
  have nn : ∀ {n : Nat} {S : Store} {K : AV → Store → Prop}, bin .neq 0 (aI n) (aI n) S K = K (aB false) S := fun {n S K} => by rw [bin_neq]; simp
  rw [shift_p, ld1_p p2 rfl rfl, shift_p, ld1_p o2 rfl rfl, bin_neq, onB_v]
  refine gd_fo (fun _ => ?_) (fun h => by simp at h)
  rw [shift_p, ld1_p p2 rfl rfl, shift_p, ld1_p o2 rfl rfl]
  refine callF_ans (ans32 h1) ?_
  rw [decide_eq_true rfl, un_not, onB_v, Bool.not_true, gd_false]
  rw [shift_p, ld1_p p2 rfl rfl, shift_p, ld1_p o2 rfl rfl]
  refine callF_ans (ans32 h2) ?_
  rw [decide_eq_true rfl, un_not, onB_v, Bool.not_true, gd_false]
  rw [shift_p, ld1_p p2 rfl rfl, lenS_aL, shift_p, ld1_p o2 rfl rfl, lenS_aL, nn, onB_v, gd_false]
  rw [shift_p, ld1_p p2 rfl rfl, lenS_aL, shift_p, ld1_p o2 rfl rfl, lenS_aL, nn, onB_v, gd_false]
  refine loop13_0 (fun y S' => S' = S2 ∧ ∃ i : Nat, y = aI i ∧ i ≤ s.next.length)
    (fun y _ => s.next.length - ((intA y).getD 0).toNat) ⟨rfl, 0, rfl, Nat.zero_le _⟩ ?_
  rintro _ S2 ⟨rfl, i, rfl, hi⟩ KE hKE
  unfold b13_0
  rw [shift_p, ld1_p p2 rfl rfl, lenS_aL, bin_lss, onB_v]
  refine gd_of (fun hlt => ?_) (fun hge => ?_)
  · have hlt : i < s.next.length := by simpa using hlt
    have hr := h4 _ (List.getElem_mem hlt)
    show ∃ q44 : AV, _
    refine ⟨_, by rw [shift_p]; exact ⟨rfl, rfl⟩, ?_⟩
    refine ⟨_, by rw [ld1_p p2 rfl rfl]; exact ⟨rfl, rfl⟩, ?_⟩
    refine ⟨_, by rw [ixS_aL hlt]; exact ⟨rfl, rfl⟩, ?_⟩
    refine ⟨_, by rw [ld1_q]; exact ⟨rfl, rfl⟩, ?_⟩
    refine ⟨_, by rw [lenS_aL]; exact ⟨rfl, rfl⟩, ?_⟩
    refine ⟨_, by rw [shift_p]; exact ⟨rfl, rfl⟩, ?_⟩
    refine ⟨_, by rw [ld1_p o2 rfl rfl]; exact ⟨rfl, rfl⟩, ?_⟩
    refine ⟨_, by rw [ixS_aL hlt]; exact ⟨rfl, rfl⟩, ?_⟩
    refine ⟨_, by rw [ld1_q]; exact ⟨rfl, rfl⟩, ?_⟩
    refine ⟨_, by rw [lenS_aL]; exact ⟨rfl, rfl⟩, ?_⟩
    refine ⟨_, by rw [nn]; exact ⟨rfl, rfl⟩, ?_⟩
    rw [onB_v, gd_false]
    refine loop13_1 (fun y S' => S' = S2 ∧ ∃ j : Nat, y = aI j ∧ j ≤ (s.next[i]).length)
      (fun y _ => (s.next[i]).length - ((intA y).getD 0).toNat) ⟨rfl, 0, rfl, Nat.zero_le _⟩ ?_
    rintro _ S2 ⟨rfl, j, rfl, hj⟩ KE1 hKE1
    unfold b13_1
    rw [shift_p, ld1_p p2 rfl rfl, ixS_aL hlt, ld1_q, lenS_aL, bin_lss, onB_v]
    refine gd_of (fun hl1 => ?_) (fun hg1 => ?_)
    · have hl1 : j < (s.next[i]).length := by simpa using hl1
      show ∃ q74 : AV, _
      refine ⟨_, by rw [shift_p]; exact ⟨rfl, rfl⟩, ?_⟩
      refine ⟨_, by rw [ld1_p p2 rfl rfl]; exact ⟨rfl, rfl⟩, ?_⟩
      refine ⟨_, by rw [ixS_aL hlt]; exact ⟨rfl, rfl⟩, ?_⟩
      refine ⟨_, by rw [ld1_q]; exact ⟨rfl, rfl⟩, ?_⟩
      refine ⟨_, by rw [ixS_aL hl1]; exact ⟨rfl, rfl⟩, ?_⟩
      refine ⟨_, by rw [ld1_q]; exact ⟨rfl, rfl⟩, ?_⟩
      refine ⟨_, by rw [shift_p]; exact ⟨rfl, rfl⟩, ?_⟩
      refine ⟨_, by rw [ld1_p o2 rfl rfl]; exact ⟨rfl, rfl⟩, ?_⟩
      refine ⟨_, by rw [ixS_aL hlt]; exact ⟨rfl, rfl⟩, ?_⟩
      refine ⟨_, by rw [ld1_q]; exact ⟨rfl, rfl⟩, ?_⟩
      refine ⟨_, by rw [ixS_aL hl1]; exact ⟨rfl, rfl⟩, ?_⟩
      refine ⟨_, by rw [ld1_q]; exact ⟨rfl, rfl⟩, ?_⟩
      refine ⟨_, by rw [bin_neq]; exact ⟨rfl, rfl⟩, ?_⟩
      rw [onB_v]
      refine gd_fo (fun _ => ?_) (fun h => by simp at h)
      rw [bin_add (by omega) (by omega)]
      exact hKE1 _ _ ⟨rfl, j + 1, rfl, hl1⟩ (by simp [intA]; omega)
    · rw [bin_add (by omega) (by omega)]
      exact hKE _ _ ⟨rfl, i + 1, rfl, hlt⟩ (by simp [intA]; omega)
  · refine loop13_2 (fun y S' => S' = S2 ∧ ∃ i : Nat, y = aI i ∧ i ≤ s.fair.length)
      (fun y _ => s.fair.length - ((intA y).getD 0).toNat) ⟨rfl, 0, rfl, Nat.zero_le _⟩ ?_
    rintro _ S2 ⟨rfl, j, rfl, hj⟩ KE2 hKE2
    unfold b13_2
    rw [shift_p, ld1_p p2 rfl rfl, lenS_aL, bin_lss, onB_v]
    refine gd_of (fun hlt => ?_) (fun hge => ?_)
    · have hlt : j < s.fair.length := by simpa using hlt
      have hr := h6 _ (List.getElem_mem hlt)
      show ∃ q108 : AV, _
      refine ⟨_, by rw [shift_p]; exact ⟨rfl, rfl⟩, ?_⟩
      refine ⟨_, by rw [ld1_p p2 rfl rfl]; exact ⟨rfl, rfl⟩, ?_⟩
      refine ⟨_, by rw [ixS_aL hlt]; exact ⟨rfl, rfl⟩, ?_⟩
      refine ⟨_, by rw [ld1_q]; exact ⟨rfl, rfl⟩, ?_⟩
      refine ⟨_, by rw [shift_p]; exact ⟨rfl, rfl⟩, ?_⟩
      refine ⟨_, by rw [ld1_p o2 rfl rfl]; exact ⟨rfl, rfl⟩, ?_⟩
      refine ⟨_, by rw [ixS_aL hlt]; exact ⟨rfl, rfl⟩, ?_⟩
      refine ⟨_, by rw [ld1_q]; exact ⟨rfl, rfl⟩, ?_⟩
      refine ⟨_, callF_ans (ans32 hr) ⟨rfl, rfl⟩, ?_⟩
      refine ⟨_, by rw [un_not]; exact ⟨rfl, rfl⟩, ?_⟩
      rw [decide_eq_true rfl, onB_v, Bool.not_true, gd_false, bin_add (by omega) (by omega)]
      exact hKE2 _ _ ⟨rfl, j + 1, rfl, hlt⟩ (by simp [intA]; omega)
    · exact ⟨rfl, k2'⟩
end Go.Proofs.Ytolgpokppnajdaa.G
set_option linter.unusedVariables false
set_option linter.unusedSimpArgs false
namespace Go.Proofs.Ytolgpokppnajdaa.G
open Go Go.Ab

/-! The document's words and the program's are the same. -/
theorem vals_get {c : Ci} {s : Nat} (hs : s < 2 ^ c.gr.inputs.toNat) : (valsOf c).getD s [] = allB c.gr (bitsL s c.gr.inputs.toNat) := by
  simp [valsOf, List.getD_eq_getElem?_getD, hs]
theorem isB_eq {c : Ci} (h : c.right = true) (h10 : c.gr.inputs ≤ 60) {s : Nat} (hs : s < 2 ^ c.gr.inputs.toNat) {l : Int} (hl : c.gr.lit l = true) : isB c s l = litB ((valsOf c).getD s []) l := by
  have hv := vals_len h hs
  rw [vals_get hs] at hv ⊢
  obtain ⟨g1, g2, g3⟩ := gr_inp h
  have hpos : 0 < (allB c.gr (bitsL s c.gr.inputs.toNat)).length := by
    have : 1 ≤ c.gr.vars := by unfold Gr.vars; omega
    omega
  simp only [isB, h, Bool.true_and, h10, decide_true, Gr.eval, hpos, hl]
theorem valid_eq {c : Ci} (h : c.right = true) (h10 : c.gr.inputs ≤ 60) {s : Nat} (hs : s < 2 ^ c.gr.inputs.toNat) {l : List Int} (hl : l.all c.gr.lit = true) : l.all (isB c s) = l.all (litB ((valsOf c).getD s [])) := by
  have := List.all_eq_true.1 hl
  clear hl
  induction l with
  | nil => rfl
  | cons a l ih =>
    rw [List.all_cons, List.all_cons, isB_eq h h10 hs (this a (by simp)), ih fun x hx => this x (by simp [hx])]
theorem afterTo_eq {c : Ci} (h : c.right = true) (h10 : c.gr.inputs ≤ 60) {s : Nat} (hs : s < 2 ^ c.gr.inputs.toNat) : ∀ {i : Nat}, i ≤ c.latches.length → afterTo c s i = afterV c ((valsOf c).getD s []) i
  | 0, _ => rfl
  | i + 1, hi => by
    have hlt : i < c.latches.length := hi
    have hget : c.latches.getD i (0, 0) = c.latches[i] := by simp [List.getD_eq_getElem?_getD, hlt]
    have hlit : c.gr.lit c.latches[i].1 = true := by
      have := List.all_eq_true.1 (right_c.1 h).2.2.2.2.2.2.2.1 _ (List.getElem_mem hlt)
      simp only [latOk, Bool.and_eq_true] at this
      exact this.1
    rw [afterTo, afterV, afterTo_eq h h10 hs (by omega), hget, isB_eq h h10 hs hlit]
theorem afterB_eq {c : Ci} (h : c.right = true) (h10 : c.gr.inputs ≤ 60) {s : Nat} (hs : s < 2 ^ c.gr.inputs.toNat) : afterB c s = afterV c ((valsOf c).getD s []) c.latches.length := by
  rw [afterB, h, decide_eq_true h10, Bool.true_and, if_pos rfl, afterTo_eq h h10 hs (Nat.le_refl _)]
end Go.Proofs.Ytolgpokppnajdaa.G
set_option linter.unusedVariables false
set_option linter.unusedSimpArgs false
namespace Go.Proofs.Ytolgpokppnajdaa.G
open Go Go.Ab

abbrev aW16 (i : Int) : AV := .v (.int .u16 i)
/-- The number that is picked next. -/
def pickV (l : List Int) (k : Nat) (n : Int) : Int := if l.length < k + 1 then 0 else (l.getD k 0).tmod n
theorem pick_of {S : Store} {aid lid ta tl k : Nat} {l : List Int} {n : Int} {Q : AEnd → Store → Prop} (h1 : S.obj aid = some (.cells ta [[aI k]] true)) (h2 : S.obj lid = some (.cells tl [[aL aW16 l]] true)) (hne : lid ≠ aid)
    (hl : ∀ x ∈ l, 0 ≤ x ∧ x < 65536) (hn : 0 < n) (hk : k ≤ 1000000)
    (K : ∀ S', S'.n = S.n → S'.obj aid = some (.cells ta [[aI (k + 1 : Nat)]] true) → (∀ x, x ≠ aid → S'.obj x = S.obj x) → Q (.ret (aI (pickV l k n))) S') : ACalls Try.prog 14 [aI n, .p aid 0 0, .p lid 0 0] S Q := by
  refine calls14 ?_
  unfold m14
  have hadd : ∀ K : AV → Store → Prop, ∀ S, bin .add 0 (.v (.int .i64 (k : Int))) (.v (.int .i64 1)) S K = K (aI (k + 1 : Nat)) S := fun K S => bin_add (by omega) (by omega) 0
  rw [ld1_p h1 rfl rfl, hadd]
  refine st_of h1 rfl rfl fun S1 n1 o1 f1 => ?_
  have p1 := (f1 lid hne).trans h2
  rw [ld1_p o1 rfl rfl, ld1_p p1 rfl rfl, lenS_aL, bin_gtr, onB_v]
  refine gd_of (fun h => ?_) (fun h => ?_)
  · have h := of_decide_eq_true h
    have := K S1 n1 o1 f1
    rw [pickV, if_pos (by omega)] at this
    exact this
  · have h := of_decide_eq_false h
    have hlt : k < l.length := by omega
    have hx := hl _ (List.getElem_mem hlt)
    have hsub : ∀ K : AV → Store → Prop, ∀ S, bin .sub 0 (.v (.int .i64 ((k + 1 : Nat) : Int))) (.v (.int .i64 1)) S K = K (aI k) S := fun K S => (bin_sub (by omega) (by omega) 0).trans (by rw [show ((k + 1 : Nat) : Int) - 1 = k by omega])
    rw [ld1_p p1 rfl rfl, ld1_p o1 rfl rfl, hsub, ixS_aL hlt, ld1_q, convI_64 _ (by omega) (by omega), bin_rem (by omega)]
    have := K S1 n1 o1 f1
    rw [pickV, if_neg (by omega), show l.getD k 0 = l[k] by simp [List.getD_eq_getElem?_getD, hlt]] at this
    exact this
end Go.Proofs.Ytolgpokppnajdaa.G
set_option linter.unusedVariables false
set_option linter.unusedSimpArgs false
namespace Go.Proofs.Ytolgpokppnajdaa.G
open Go Go.Ab

def xr (x y : Int) : Int := IntKind.i64.wrap (BitVec.ofInt 64 x ^^^ BitVec.ofInt 64 y).toNat
theorem bin_xor {a b : Int} {S : Store} {K : AV → Store → Prop} : bin .xor 0 (aI a) (aI b) S K = K (aI (xr a b)) S := by
  show optP (b2 .xor 0 (.int .i64 a) (.int .i64 b)) _ = _
  have : b2 .xor 0 (.int .i64 a) (.int .i64 b) = some (.int .i64 (xr a b)) := rfl
  rw [this, optP_some]
theorem small_and {g : Gr} (hg : g.ok) {a b : Int} (ha : i64R a) (hb : i64R b) : (g.and a b).1.ok := by
  have h0 : (⟨0, []⟩ : Gr).ok := ⟨⟨by decide, by decide⟩, by simp, fun p hp => by simp at hp⟩
  unfold Gr.and
  split
  · exact h0
  · rename_i h1
    have hr : g.right = true := by
      cases e : g.right with
      | true => rfl
      | false => exact absurd (by rw [e]; rfl) h1
    unfold andT
    have hx : i64R (if b > a then b else a) := by split <;> assumption
    have hy : i64R (if b < a then b else a) := by split <;> assumption
    generalize (if b > a then b else a) = x at *
    generalize (if b < a then b else a) = y at *
    repeat' split
    all_goals first | exact hg | exact h0 | skip
    obtain ⟨_, _, r3, _⟩ := right_iff.1 hr
    refine ⟨hg.inp, by simp; omega, fun p hp => ?_⟩
    rcases List.mem_append.1 hp with hp | hp
    · exact hg.pairs p hp
    · have : p = (x, y) := by simpa using hp
      subst this
      exact ⟨hx, hy⟩
/-- A graph by numbers. -/
def madeS (g : Gr) (last : Int) (s : Int) : Gr × Int :=
  let many := 2 * g.vars
  let r := g.and (s.tmod many) ((s.tdiv many).tmod many)
  if r.2.2 = 0 then (r.1, xr r.2.1 ((s.tdiv 7).tmod 2)) else (g, last)
def madeTo (n : Int) (l : List Int) : Nat → Gr × Int
  | 0 => (⟨n, []⟩, 1)
  | i + 1 => madeS (madeTo n l i).1 (madeTo n l i).2 (l.getD i 0)
end Go.Proofs.Ytolgpokppnajdaa.G
set_option linter.unusedVariables false
set_option linter.unusedSimpArgs false
namespace Go.Proofs.Ytolgpokppnajdaa.G
open Go Go.Ab

theorem and_inp {g : Gr} {a b : Int} (h : (g.and a b).2.2 = 0) : (g.and a b).1.inputs = g.inputs := by
  revert h
  unfold Gr.and
  split
  · intro h; cases h
  · unfold andT
    generalize (if b > a then b else a) = x
    generalize (if b < a then b else a) = y
    repeat' split
    all_goals first | (intro _; rfl) | (intro h; cases h)
theorem madeTo_inp (n : Int) (l : List Int) : ∀ i, (madeTo n l i).1.inputs = n
  | 0 => rfl
  | i + 1 => by
    have ih := madeTo_inp n l i
    simp only [madeTo, madeS]
    split
    · rename_i h
      rw [and_inp h, ih]
    · exact ih
theorem rem_small {a b : Int} (h0 : 0 ≤ a) (h1 : a ≤ 65536) (hb : 0 < b) : 0 ≤ a.tmod b ∧ a.tmod b ≤ 65536 := by
  rw [Int.tmod_eq_emod_of_nonneg h0]
  have h2 := Int.emod_nonneg a (show b ≠ 0 by omega)
  have h3 : a % b ≤ a := by
    have h4 := Int.mul_ediv_add_emod a b
    have h5 : 0 ≤ b * (a / b) := Int.mul_nonneg (by omega) (Int.ediv_nonneg h0 (by omega))
    omega
  omega
theorem madeTo_ok {n : Int} (hn : i64R n) {l : List Int} (hl : ∀ x ∈ l, 0 ≤ x ∧ x < 65536) (h0 : 0 ≤ n) : ∀ i, (madeTo n l i).1.ok
  | 0 => ⟨hn, by simp [madeTo], fun p hp => by simp [madeTo] at hp⟩
  | i + 1 => by
    have ih := madeTo_ok hn hl h0 i
    have hv : 0 < 2 * (madeTo n l i).1.vars := by
      have := madeTo_inp n l i
      unfold Gr.vars
      omega
    have hx : 0 ≤ l.getD i 0 ∧ l.getD i 0 ≤ 65536 := by
      rw [List.getD_eq_getElem?_getD]
      rcases Nat.lt_or_ge i l.length with h | h
      · rw [List.getElem?_eq_getElem h]
        have := hl _ (List.getElem_mem h)
        exact ⟨this.1, by show l[i] ≤ 65536; omega⟩
      · rw [List.getElem?_eq_none h]
        exact ⟨by decide, by decide⟩
    have hd : 0 ≤ (l.getD i 0).tdiv (2 * (madeTo n l i).1.vars) ∧ (l.getD i 0).tdiv (2 * (madeTo n l i).1.vars) ≤ 65536 := by
      rw [Int.tdiv_eq_ediv_of_nonneg hx.1]
      have h1 := Int.ediv_nonneg hx.1 (show 0 ≤ 2 * (madeTo n l i).1.vars by omega)
      have h2 := Int.ediv_le_self (2 * (madeTo n l i).1.vars) hx.1
      omega
    have ha := rem_small hx.1 hx.2 hv
    have hb := rem_small hd.1 hd.2 hv
    simp only [madeTo, madeS]
    split
    · exact small_and ih ⟨by omega, by omega⟩ ⟨by omega, by omega⟩
    · exact ih
end Go.Proofs.Ytolgpokppnajdaa.G
set_option linter.unusedVariables false
set_option linter.unusedSimpArgs false
namespace Go.Proofs.Ytolgpokppnajdaa.G
open Go Go.Ab

theorem lit_iff {g : Gr} {l : Int} : g.lit l = true ↔ 0 ≤ g.inputs ∧ g.inputs ≤ 2000 ∧ 0 ≤ l ∧ l / 2 < g.vars := by
  simp only [Gr.lit, Bool.and_eq_true, decide_eq_true_eq]
  constructor
  · rintro ⟨h1, h2, h3, h4⟩
    rw [Int.tdiv_eq_ediv_of_nonneg h3] at h4
    exact ⟨h1, h2, h3, h4⟩
  · rintro ⟨h1, h2, h3, h4⟩
    rw [Int.tdiv_eq_ediv_of_nonneg h3]
    exact ⟨h1, h2, h3, h4⟩
theorem and_right {g : Gr} (h : g.right = true) {a b : Int} (e : (g.and a b).2.2 = 0) :
    (g.and a b).1.right = true ∧ (g.and a b).1.lit (g.and a b).2.1 = true ∧ (g.and a b).1.vars ≤ g.vars + 1 ∧ g.vars ≤ (g.and a b).1.vars ∧ (g.and a b).1.inputs = g.inputs := by
  have hin := and_inp e
  obtain ⟨r1, r2, r3, r4, r5, r6⟩ := right_iff.1 h
  have hv : g.vars = g.inputs + 1 + g.ands.length := rfl
  revert e
  unfold Gr.and
  split
  · intro e; cases e
  · rename_i hl
    have hl : (g.right && (g.lit a && g.lit b)) = true := by simpa using hl
    simp only [Bool.and_eq_true] at hl
    obtain ⟨_, la, lb⟩ := hl
    have lx : g.lit (if b > a then b else a) = true := by split <;> assumption
    have ly : g.lit (if b < a then b else a) = true := by split <;> assumption
    have hxy : (if b < a then b else a) ≤ (if b > a then b else a) := by split <;> split <;> omega
    generalize (if b > a then b else a) = x at *
    generalize (if b < a then b else a) = y at *
    obtain ⟨_, _, x0, x1⟩ := lit_iff.1 lx
    obtain ⟨_, _, y0, y1⟩ := lit_iff.1 ly
    unfold andT
    split
    · intro _; exact ⟨h, lit_iff.2 ⟨r1, r2, Int.le_refl _, by show (0 : Int) / 2 < g.vars; omega⟩, by show g.vars ≤ _; omega, Int.le_refl _, rfl⟩
    rename_i hy0
    split
    · intro _; exact ⟨h, lit_iff.2 ⟨r1, r2, Int.le_refl _, by show (0 : Int) / 2 < g.vars; omega⟩, by show g.vars ≤ _; omega, Int.le_refl _, rfl⟩
    rename_i hd
    split
    · intro _; exact ⟨h, lx, by show g.vars ≤ _; omega, Int.le_refl _, rfl⟩
    rename_i hy1
    split
    · intro _; exact ⟨h, lx, by show g.vars ≤ _; omega, Int.le_refl _, rfl⟩
    rename_i hne
    rw [Int.tdiv_eq_ediv_of_nonneg x0, Int.tdiv_eq_ediv_of_nonneg y0] at hd
    split
    · rename_i i hi
      obtain ⟨hi, _, _⟩ := List.findIdx?_eq_some_iff_getElem.1 hi
      intro _
      exact ⟨h, lit_iff.2 ⟨r1, r2, by show 0 ≤ 2 * (g.inputs + 1 + (i : Int)); omega, by show 2 * (g.inputs + 1 + (i : Int)) / 2 < g.vars; omega⟩, by show g.vars ≤ _; omega, Int.le_refl _, rfl⟩
    · rename_i hi
      split
      · intro e; cases e
      · rename_i hbig
        intro _
        have hv' : (⟨g.inputs, g.ands ++ [(x, y)]⟩ : Gr).vars = g.vars + 1 := by simp [Gr.vars]; omega
        refine ⟨right_iff.2 ⟨r1, r2, by simp; omega, by rw [hv']; omega, fun j hj => ?_, ?_⟩, lit_iff.2 ⟨r1, r2, by show 0 ≤ 2 * (g.vars + 1) - 2; omega, by rw [hv']; show (2 * (g.vars + 1) - 2) / 2 < _; omega⟩, by rw [hv']; omega, by rw [hv']; omega, rfl⟩
        · rcases Nat.lt_or_ge j g.ands.length with hj' | hj'
          · have := r5 j hj'
            simpa [List.getD_eq_getElem?_getD, List.getElem?_append_left hj'] using this
          · have hj2 : j = g.ands.length := by simp at hj; omega
            subst hj2
            have : (g.ands ++ [(x, y)]).getD g.ands.length (0, 0) = (x, y) := by simp [List.getD_eq_getElem?_getD]
            show may ((g.ands ++ [(x, y)]).getD g.ands.length (0, 0)) _ = true
            rw [this]
            simp only [may, Bool.and_eq_true, decide_eq_true_eq]
            rw [Int.tdiv_eq_ediv_of_nonneg x0, Int.tdiv_eq_ediv_of_nonneg y0]
            refine ⟨by omega, ?_, ?_⟩
            · have : x / 2 ≠ y / 2 := fun q => hd ⟨q, hne⟩
              omega
            · show x / 2 < g.inputs + 1 + (g.ands.length : Int); omega
        · show (g.ands ++ [(x, y)]).Nodup
          rw [List.nodup_append]
          refine ⟨r6, by simp, fun p hp q hq => ?_⟩
          have : q = (x, y) := by simpa using hq
          subst this
          rintro rfl
          have := List.findIdx?_eq_none_iff.1 hi _ hp
          simp at this
theorem xr_nat (a b : Nat) (ha : a < 2 ^ 62) (hb : b < 2 ^ 62) : xr (a : Int) (b : Int) = ((a ^^^ b : Nat) : Int) := by
  have h1 : a ^^^ b < 2 ^ 62 := Nat.xor_lt_two_pow ha hb
  have hp : (2 : Nat) ^ 62 = 4611686018427387904 := by decide
  unfold xr
  have e : (BitVec.ofInt 64 (a : Int) ^^^ BitVec.ofInt 64 (b : Int)).toNat = a ^^^ b := by
    rw [BitVec.toNat_xor, BitVec.ofInt_natCast, BitVec.ofInt_natCast, BitVec.toNat_ofNat, BitVec.toNat_ofNat, Nat.mod_eq_of_lt (by omega), Nat.mod_eq_of_lt (by omega)]
  rw [e, wrap64 (by omega) (by omega)]
theorem xr_half {a b : Int} (h0 : 0 ≤ a) (h1 : a ≤ 1000000) (hb : b = 0 ∨ b = 1) : 0 ≤ xr a b ∧ xr a b / 2 = a / 2 ∧ xr a b ≤ 1000001 := by
  obtain ⟨n, rfl⟩ := Int.eq_ofNat_of_zero_le h0
  obtain ⟨m, rfl, hm⟩ : ∃ m : Nat, b = (m : Int) ∧ m < 2 := by rcases hb with rfl | rfl; exact ⟨0, rfl, by decide⟩; exact ⟨1, rfl, by decide⟩
  have hp : (2 : Nat) ^ 62 = 4611686018427387904 := by decide
  rw [xr_nat n m (by omega) (by omega)]
  have : (n ^^^ m) / 2 = n / 2 := by
    rw [Nat.xor_div_two, show m / 2 = 0 by omega, Nat.xor_zero]
  omega
theorem madeTo_right {n : Int} (h0 : 0 ≤ n) (hn : n ≤ 100) {l : List Int} (hl : ∀ x ∈ l, 0 ≤ x ∧ x < 65536) : ∀ i, i ≤ 40 → (madeTo n l i).1.right = true ∧ (madeTo n l i).1.lit (madeTo n l i).2 = true ∧ n + 1 ≤ (madeTo n l i).1.vars ∧ (madeTo n l i).1.vars ≤ n + 1 + i
  | 0, _ => by
    refine ⟨right_iff.2 ⟨h0, by show n ≤ 2000; omega, by show ((0 : Nat) : Int) ≤ 2000; decide, by show n + 1 + 0 ≤ 2000; omega, fun j hj => by simp [madeTo] at hj, by simp [madeTo]⟩, lit_iff.2 ⟨h0, by show n ≤ 2000; omega, by show (0 : Int) ≤ 1; decide, by show (1 : Int) / 2 < n + 1 + 0; omega⟩, by show _ ≤ n + 1 + 0; omega, by show n + 1 + 0 ≤ _; omega⟩
  | i + 1, hi => by
    obtain ⟨h1, h2, h3, h4⟩ := madeTo_right h0 hn hl i (by omega)
    have hx : 0 ≤ l.getD i 0 := by
      rw [List.getD_eq_getElem?_getD]
      rcases Nat.lt_or_ge i l.length with h | h
      · rw [List.getElem?_eq_getElem h]
        exact (hl _ (List.getElem_mem h)).1
      · rw [List.getElem?_eq_none h]
        exact Int.le_refl 0
    simp only [madeTo, madeS]
    split
    · rename_i he
      obtain ⟨k1, k2, k3, k4, k5⟩ := and_right h1 he
      generalize (madeTo n l i).1.and ((l.getD i 0).tmod (2 * (madeTo n l i).1.vars)) (((l.getD i 0).tdiv (2 * (madeTo n l i).1.vars)).tmod (2 * (madeTo n l i).1.vars)) = r at *
      obtain ⟨l1, l2, l3, l4⟩ := lit_iff.1 k2
      have hb : ((l.getD i 0).tdiv 7).tmod 2 = 0 ∨ ((l.getD i 0).tdiv 7).tmod 2 = 1 := by
        rw [Int.tdiv_eq_ediv_of_nonneg hx, Int.tmod_eq_emod_of_nonneg (by omega)]
        omega
      obtain ⟨q1, q2, _⟩ := xr_half (a := r.2.1) l3 (by omega) hb
      exact ⟨k1, lit_iff.2 ⟨l1, l2, q1, by rw [q2]; exact l4⟩, by show _ ≤ r.1.vars; omega, by show r.1.vars ≤ _; omega⟩
    · exact ⟨h1, h2, h3, by show (madeTo n l i).1.vars ≤ _; omega⟩
/-- What a circuit by numbers is. -/
structure MadeC (c : Ci) : Prop where
  ok : c.ok
  right : c.right = true
  inp : 0 ≤ c.inputs ∧ c.inputs ≤ 3
  lats : 1 ≤ c.latches.length ∧ c.latches.length ≤ 3
  ands : c.ands.length ≤ 8
  outs : c.outs.length ≤ 2
  bads : c.bads.length ≤ 1
  cons : c.cons.length ≤ 1
  fair : c.fair.length ≤ 1
  names : ∃ (b1 b2 : Bool) (t : ByteArray), c.names = (if b1 then [⟨108, 0, ⟨#[113]⟩⟩] else []) ++ (if b2 then [⟨111, c.outs.length - 1, t⟩] else []) ∧ (b2 = true → 0 < c.outs.length ∧ (t = ⟨#[111, 117, 116]⟩ ∨ t = ⟨#[108, 49]⟩ ∨ t = ⟨#[97, 45, 98]⟩))
end Go.Proofs.Ytolgpokppnajdaa.G
set_option linter.unusedVariables false
set_option maxRecDepth 100000
namespace Go.Proofs.Ytolgpokppnajdaa.G
open Go Go.Ab
/-! ### 15 parterre/parterrelaw01.Made -/
noncomputable def c15 : Code := (Try.f15.body).getD .skip
noncomputable def r15 : List ResultVar := Try.f15.results.toList
def env15_0 (y1 y4 y6 y7 y8 : AV) : List AV := [y1, y4, y6, y7, y8]
def lv15_0 : List Nat := [1, 4, 6, 7, 8]
def ms15 : List (List Nat) := [lv15_0, []]
def m15 (x0 x1 : AV) (S : Store) (Q : AEnd → Store → Prop) : Prop :=
  boxN 49 2 (.a [(.v (.int .i64 0)), .nl]) S fun v1 S => bld [(0, 1), (1, 1)] [(.v (.int .i64 0)), .nl] [(0, x0)] S fun v2 S => boxN 49 2 (.a [(.v (.int .i64 0)), .nl]) S fun v3 S => stN 2 v3 v2 S fun v4 S => loopV lv15_0 (vc Try.prog (c15.at_ [1, 1, 1, 0, 1, 0, 0]) (ms15.drop 1)) 68 (env15_0 x1 v1 v3 (.v (Go.Value.int Go.IntKind.i64 1)) (.v (Go.Value.int Go.IntKind.i64 0))) S (blockK 0 (seqK (vc Try.prog (c15.at_ [1, 1, 1, 1]) (ms15.drop 1)) (bodyK Try.prog r15 Q)))
theorem m15_eq : (fun (x0 x1 : AV) (S : Store) (Q : AEnd → Store → Prop) => vc Try.prog c15 ms15 (ofArgs 68 [x0, x1]) S (bodyK Try.prog r15 Q)) = (fun (x0 x1 : AV) (S : Store) (Q : AEnd → Store → Prop) => m15 x0 x1 S Q) := by kernel_rfl
theorem calls15 {x0 x1 : AV} {S : Store} {Q : AEnd → Store → Prop} (h : m15 x0 x1 S Q) : ACalls Try.prog 15 [x0, x1] S Q :=
  calls_of_vc (fn := Try.f15) (c := c15) (n := 68) Try.func15 (by kernel_rfl) (by kernel_rfl) (by kernel_rfl) ms15 ((congrFun (congrFun (congrFun (congrFun m15_eq x0) x1) S) Q).mpr h)
-- loop 0: written: y7 y8; read alone: y1 y4 y6
def b15_0 (y1 y4 y6 y7 y8 : AV) (S : Store) (KE0 : Nat → List AV → Store → Prop) (Q : AEnd → Store → Prop) : Prop :=
  lenS y1 S fun v5 S => bin .lss 0 y8 v5 S fun v6 S => onB v6 fun b7 => gd b7 (bin .lss 0 y8 (.v (Go.Value.int Go.IntKind.i64 40)) S fun v8 S => onB v8 fun b9 => gd b9 (ldN 2 y6 S fun v10 S => callF Try.prog 16 [v10] S Q fun v11 S => bin .mul 0 (.v (Go.Value.int Go.IntKind.i64 2)) v11 S fun v12 S => (fun S0 : Store => ∃ q13 : AV, (ixS 46 1 y1 y8 S fun v14 S => v14 = q13 ∧ S = S0) ∧ ∃ q15 : AV, (ld1 q13 S fun v16 S => v16 = q15 ∧ S = S0) ∧ ∃ q17 : AV, (convI .i64 q15 S fun v18 S => v18 = q17 ∧ S = S0) ∧ ∃ q19 : AV, (bin .rem 0 q17 v12 S fun v20 S => v20 = q19 ∧ S = S0) ∧ ∃ q21 : AV, (ixS 46 1 y1 y8 S fun v22 S => v22 = q21 ∧ S = S0) ∧ ∃ q23 : AV, (ld1 q21 S fun v24 S => v24 = q23 ∧ S = S0) ∧ ∃ q25 : AV, (convI .i64 q23 S fun v26 S => v26 = q25 ∧ S = S0) ∧ ∃ q27 : AV, (bin .quo 0 q25 v12 S fun v28 S => v28 = q27 ∧ S = S0) ∧ ∃ q29 : AV, (bin .rem 0 q27 v12 S fun v30 S => v30 = q29 ∧ S = S0) ∧ ldN 2 y6 S fun v31 S => callF Try.prog 33 [v31, q19, q29] S Q fun v32 S => extr v32 0 S fun v33 S => extr v32 1 S fun v34 S => extr v32 2 S fun v35 S => boxN 49 2 (.a [(.v (.int .i64 0)), .nl]) S fun v36 S => stN 2 v36 v33 S fun v37 S => bin .eql 0 v35 (.v (Go.Value.int Go.IntKind.i64 0)) S fun v38 S => onB v38 fun b39 => gd b39 (∃ q40 : AV, (∀ T : Store, Keep S T → ldN 2 v36 T fun v41 S => v41 = q40 ∧ S = T) ∧ ∃ q42 : AV, (∀ T : Store, Keep S T → ixS 46 1 y1 y8 T fun v43 S => v43 = q42 ∧ S = T) ∧ ∃ q44 : AV, (∀ T : Store, Keep S T → ld1 q42 T fun v45 S => v45 = q44 ∧ S = T) ∧ ∃ q46 : AV, (∀ T : Store, Keep S T → convI .i64 q44 T fun v47 S => v47 = q46 ∧ S = T) ∧ ∃ q48 : AV, (∀ T : Store, Keep S T → bin .quo 0 q46 (.v (Go.Value.int Go.IntKind.i64 7)) T fun v49 S => v49 = q48 ∧ S = T) ∧ ∃ q50 : AV, (∀ T : Store, Keep S T → bin .rem 0 q48 (.v (Go.Value.int Go.IntKind.i64 2)) T fun v51 S => v51 = q50 ∧ S = T) ∧ ∃ q52 : AV, (∀ T : Store, Keep S T → bin .xor 0 v34 q50 T fun v53 S => v53 = q52 ∧ S = T) ∧ stN 2 y6 q40 S fun v54 S => (∀ T : Store, Keep S T → bin .xor 0 v34 q50 T fun v55 S => v55 = q52 ∧ S = T) ∧ (∀ T : Store, Keep S T → bin .rem 0 q48 (.v (Go.Value.int Go.IntKind.i64 2)) T fun v56 S => v56 = q50 ∧ S = T) ∧ (∀ T : Store, Keep S T → bin .quo 0 q46 (.v (Go.Value.int Go.IntKind.i64 7)) T fun v57 S => v57 = q48 ∧ S = T) ∧ (∀ T : Store, Keep S T → convI .i64 q44 T fun v58 S => v58 = q46 ∧ S = T) ∧ (∀ T : Store, Keep S T → ld1 q42 T fun v59 S => v59 = q44 ∧ S = T) ∧ (∀ T : Store, Keep S T → ixS 46 1 y1 y8 T fun v60 S => v60 = q42 ∧ S = T) ∧ bin .add 0 y8 (.v (Go.Value.int Go.IntKind.i64 1)) S fun v61 S => KE0 68 (env15_0 y1 y4 y6 q52 v61) S) (bin .add 0 y8 (.v (Go.Value.int Go.IntKind.i64 1)) S fun v62 S => KE0 68 (env15_0 y1 y4 y6 y7 v62) S)) S) (ldN 2 y6 S fun v63 S => stN 2 y4 v63 S fun v64 S => ldN 2 y4 S fun v65 _ => Q (.ret (.t [v65, y7])) S)) (ldN 2 y6 S fun v66 S => stN 2 y4 v66 S fun v67 S => ldN 2 y4 S fun v68 _ => Q (.ret (.t [v68, y7])) S)
theorem b15_0_eq : (fun (y1 y4 y6 y7 y8 : AV) (S : Store) (KE0 : Nat → List AV → Store → Prop) (Q : AEnd → Store → Prop) => vc Try.prog (c15.at_ [1, 1, 1, 0, 1, 0, 0]) (ms15.drop 1) (mkE 68 lv15_0 (env15_0 y1 y4 y6 y7 y8)) S (thenK (fgK lv15_0 KE0) (blockK 0 (seqK (vc Try.prog (c15.at_ [1, 1, 1, 1]) (ms15.drop 1)) (bodyK Try.prog r15 Q))))) = (fun (y1 y4 y6 y7 y8 : AV) (S : Store) (KE0 : Nat → List AV → Store → Prop) (Q : AEnd → Store → Prop) => b15_0 y1 y4 y6 y7 y8 S KE0 Q) := by kernel_rfl
theorem loop15_0 {y1 y4 y6 : AV} {y70 y80 : AV} {S : Store} {Q : AEnd → Store → Prop} (I : AV → AV → Store → Prop) (μ : AV → AV → Store → Nat) (h0 : I y70 y80 S)
    (hr : ∀ (y7 y8 : AV) (S : Store), I y7 y8 S → ∀ KE0 : Nat → List AV → Store → Prop, (∀ (y7' y8' : AV) (S' : Store), I y7' y8' S' → μ y7' y8' S' < μ y7 y8 S → KE0 68 (env15_0 y1 y4 y6 y7' y8') S') → b15_0 y1 y4 y6 y7 y8 S KE0 Q) :
    loopV lv15_0 (vc Try.prog (c15.at_ [1, 1, 1, 0, 1, 0, 0]) (ms15.drop 1)) 68 (env15_0 y1 y4 y6 y70 y80) S (blockK 0 (seqK (vc Try.prog (c15.at_ [1, 1, 1, 1]) (ms15.drop 1)) (bodyK Try.prog r15 Q))) := by
  refine ⟨fun n e S => n = 68 ∧ ∃ y7 y8 : AV, e = (env15_0 y1 y4 y6 y7 y8) ∧ I y7 y8 S, fun _ e S => μ (e.getD 3 .j) (e.getD 4 .j) S, ?_, ?_⟩
  · exact ⟨_, _, Wk.refl _ _, rfl, _, _, rfl, h0⟩
  · rintro _ e S ⟨rfl, y7, y8, rfl, hI⟩
    exact (congrFun (congrFun (congrFun (congrFun (congrFun (congrFun (congrFun (congrFun b15_0_eq y1) y4) y6) y7) y8) S) _) Q).mpr (hr y7 y8 S hI _ (fun y7' y8' S' hI' hm => ⟨_, _, Wk.refl _ _, ⟨rfl, _, _, rfl, hI'⟩, hm⟩))
theorem loopw15_0 {y1 y4 y6 y7 y8 : AV} {S : Store} {Q : AEnd → Store → Prop} (I : AV → AV → AV → AV → AV → Store → Prop) (μ : AV → AV → AV → AV → AV → Store → Nat) (h0 : ∃ (y1' y4' y6' y7' y8' : AV) (S' : Store), Wk S (env15_0 y1 y4 y6 y7 y8) S' (env15_0 y1' y4' y6' y7' y8') ∧ I y1' y4' y6' y7' y8' S')
    (hr : ∀ (y1 y4 y6 y7 y8 : AV) (S : Store), I y1 y4 y6 y7 y8 S → ∀ KE0 : Nat → List AV → Store → Prop, (∀ (y1' y4' y6' y7' y8' : AV) (S' : Store) (y1'' y4'' y6'' y7'' y8'' : AV) (S'' : Store), Wk S' (env15_0 y1' y4' y6' y7' y8') S'' (env15_0 y1'' y4'' y6'' y7'' y8'') → I y1'' y4'' y6'' y7'' y8'' S'' → μ y1'' y4'' y6'' y7'' y8'' S'' < μ y1 y4 y6 y7 y8 S → KE0 68 (env15_0 y1' y4' y6' y7' y8') S') → b15_0 y1 y4 y6 y7 y8 S KE0 Q) :
    loopV lv15_0 (vc Try.prog (c15.at_ [1, 1, 1, 0, 1, 0, 0]) (ms15.drop 1)) 68 (env15_0 y1 y4 y6 y7 y8) S (blockK 0 (seqK (vc Try.prog (c15.at_ [1, 1, 1, 1]) (ms15.drop 1)) (bodyK Try.prog r15 Q))) := by
  obtain ⟨y1', y4', y6', y7', y8', S0, hw0, h0⟩ := h0
  refine ⟨fun n e S => n = 68 ∧ ∃ y1 y4 y6 y7 y8 : AV, e = (env15_0 y1 y4 y6 y7 y8) ∧ I y1 y4 y6 y7 y8 S, fun _ e S => μ (e.getD 0 .j) (e.getD 1 .j) (e.getD 2 .j) (e.getD 3 .j) (e.getD 4 .j) S, ?_, ?_⟩
  · exact ⟨_, _, hw0, rfl, _, _, _, _, _, rfl, h0⟩
  · rintro _ e S ⟨rfl, y1, y4, y6, y7, y8, rfl, hI⟩
    exact (congrFun (congrFun (congrFun (congrFun (congrFun (congrFun (congrFun (congrFun b15_0_eq y1) y4) y6) y7) y8) S) _) Q).mpr (hr y1 y4 y6 y7 y8 S hI _ (fun y1' y4' y6' y7' y8' S' y1'' y4'' y6'' y7'' y8'' S'' hw hI' hm => ⟨_, _, hw, ⟨rfl, _, _, _, _, _, rfl, hI'⟩, hm⟩))
end Go.Proofs.Ytolgpokppnajdaa.G
set_option linter.unusedVariables false
set_option linter.unusedSimpArgs false
namespace Go.Proofs.Ytolgpokppnajdaa.G
open Go Go.Ab

theorem frz_none (S : Store) : S.frz (fun _ => false) = S := by
  cases S with
  | mk n obj =>
    unfold Store.frz
    congr 1
    funext i
    cases h : obj i with
    | none => simp [h]
    | some o => simp [h, frz_id]
/-- An empty list may be handed on as a tree. -/
theorem ansAt_cv {P : Program} {f : FuncId} {args args2 : List AV} {S : Store} {r : AV} (hl : args.length = args2.length) (hcv : ∀ (k : Nat) (u u2 : AV), args[k]? = some u → args2[k]? = some u2 → Cv S S.n u u2) (h : AnsAt P f args2 S r) : AnsAt P f args S r := by
  refine ACalls.frz (fun _ => false) hl ?_ ?_
  · rw [frz_none]; exact hcv
  · rw [frz_none]; exact h
theorem at15 {n : Int} (h0 : 0 ≤ n) (hn : n ≤ 1000) {l : List Int} (hl : ∀ x ∈ l, 0 ≤ x ∧ x < 65536) (hlen : l.length ≤ 1000000) {S : Store} {x1 : AV} (hx1 : ∀ (T : Store) (K : AV → Store → Prop), lenS x1 T K = K (aI l.length) T)
    {P : Nat → AV} (hP : ∀ T, Keep S T → ∀ i (h : i < l.length), (∀ K : AV → Store → Prop, ixS 46 1 x1 (aI i) T K = K (P i) T) ∧ ∀ K : AV → Store → Prop, ld1 (P i) T K = K (aW16 l[i]) T) :
    AnsAt Try.prog 15 [aI n, x1] S (.t [(madeTo n l (min l.length 40)).1.av, aI (madeTo n l (min l.length 40)).2]) := by
  refine ACalls.tree (calls15 ?_)
  unfold m15
  have hok := madeTo_ok (n := n) ⟨by omega, by omega⟩ hl h0
  have hin := madeTo_inp n l
  refine boxA_of rfl fun S1 k1 n1 o1 => ?_
  rw [bld_of (cs := [aI n, .nl]) rfl]
  refine boxA_of rfl fun S2 k2 n2 o2 => ?_
  refine stA_of o2 rfl rfl fun S3 n3 o3 f3 => ?_
  have k3 : Keep S S3 := (k1.trans k2).st (by omega) n3 f3
  refine loop15_0 (fun y w S' => Keep S S' ∧ S3.n ≤ S'.n ∧ S'.obj S.n = some (.cells 49 [[aI 0, .nl]] true) ∧ ∃ i : Nat, w = aI i ∧ i ≤ min l.length 40 ∧ y = aI (madeTo n l i).2 ∧
      (((madeTo n l i).1 = ⟨n, []⟩ ∧ S'.obj S1.n = some (.cells 49 [[aI n, .nl]] true)) ∨ S'.obj S1.n = some (.cells 49 [(madeTo n l i).1.cells] true)))
    (fun _ w _ => 40 - ((intA w).getD 0).toNat) ⟨k3, Nat.le_refl _, (f3 _ (by omega)).trans ((k2.2 _ (by omega)).trans o1), 0, rfl, Nat.zero_le _, rfl, .inl ⟨rfl, o3⟩⟩ ?_
  rintro _ _ S4 ⟨k4, n4, p4, i, rfl, hi, rfl, hg⟩ KE hKE
  have hk3 := k3.1
  obtain ⟨cs, hcs, hcl, hcv⟩ : ∃ cs, S4.obj S1.n = some (.cells 49 [cs] true) ∧ cs.length = 2 ∧ ∀ (T : Store) (m : Nat), Cv T m (.a cs) (madeTo n l i).1.av := by
    rcases hg with ⟨e, h⟩ | h
    · exact ⟨_, h, rfl, fun T m => by rw [e]; exact cv_a2 (.v _) .nl⟩
    · exact ⟨_, h, rfl, fun T m => Gr.tree _ _ _⟩
  have hgi := hin i
  have hgo := hok i
  have hlen2 := hgo.len
  have fin : i = min l.length 40 → ldN 2 (.p S1.n 0 0) S4 fun v S5 => stN 2 (.p S.n 0 0) v S5 fun _ S5 => ldN 2 (.p S.n 0 0) S5 fun v S6 => ∃ r, AEnd.ret (.t [v, aI (madeTo n l i).2]) = .ret r ∧ Keep S S6 ∧ Cv (S6.frz (newer S.n)) S.n r (.t [(madeTo n l (min l.length 40)).1.av, aI (madeTo n l (min l.length 40)).2]) := fun e => by
    rw [ldN_p (n := 2) hcs hcl]
    refine stA_of p4 hcl rfl fun S5 n5 o5 f5 => ?_
    rw [ldN_p (n := 2) o5 hcl]
    exact ⟨_, rfl, k4.st (Nat.le_refl _) n5 f5, by rw [← e]; exact cv_t2 (hcv _ _) (.v _)⟩
  unfold b15_0
  rw [hx1, bin_lss, onB_v]
  refine gd_of (fun hlt => ?_) (fun hge => fin (by have := of_decide_eq_false hge; omega))
  rw [bin_lss, onB_v]
  refine gd_of (fun h40 => ?_) (fun hge => fin (by have : ¬ ((i : Int) < 40) := of_decide_eq_false hge; omega))
  have hlt : i < l.length := by have := of_decide_eq_true hlt; omega
  have h40 : i < 40 := by have : ((i : Int) < 40) := of_decide_eq_true h40; omega
  obtain ⟨hP1, hP2⟩ := hP S4 k4 i hlt
  have hx := hl _ (List.getElem_mem hlt)
  have hgd : l.getD i 0 = l[i] := by simp [List.getD_eq_getElem?_getD, hlt]
  have hv : 0 < 2 * (madeTo n l i).1.vars := by unfold Gr.vars; omega
  have hv2 : (madeTo n l i).1.vars ≤ 1002000 := by unfold Gr.vars; omega
  have hd : 0 ≤ l[i].tdiv (2 * (madeTo n l i).1.vars) ∧ l[i].tdiv (2 * (madeTo n l i).1.vars) ≤ 65536 := by
    rw [Int.tdiv_eq_ediv_of_nonneg hx.1]
    have h1 := Int.ediv_nonneg hx.1 (show 0 ≤ 2 * (madeTo n l i).1.vars by omega)
    have h2 := Int.ediv_le_self (2 * (madeTo n l i).1.vars) hx.1
    omega
  have ha := rem_small hx.1 (by omega) hv
  have hb := rem_small hd.1 hd.2 hv
  have cv1 : ∀ (T : Store) (k : Nat) (u u2 : AV), [AV.a cs][k]? = some u → [(madeTo n l i).1.av][k]? = some u2 → Cv T T.n u u2 := fun T k u u2 hu hu2 => by
    match k with
    | 0 => cases hu; cases hu2; exact hcv _ _
    | k + 1 => simp at hu
  rw [ldN_p (n := 2) hcs hcl]
  have hva : AnsAt Try.prog 16 [.a cs] S4 (aI (madeTo n l i).1.vars) := ansAt_cv (args2 := [(madeTo n l i).1.av]) rfl (cv1 S4) (ans16 hgo (by omega) (by omega) S4)
  refine callF_at hva ?_
  rw [bin_mul (by omega) (by omega)]
  show ∃ q13 : AV, _
  refine ⟨_, by rw [hP1]; exact ⟨rfl, rfl⟩, ?_⟩
  refine ⟨_, by rw [hP2]; exact ⟨rfl, rfl⟩, ?_⟩
  refine ⟨aI l[i], by rw [convI_64 _ (by omega) (by omega)]; exact ⟨rfl, rfl⟩, ?_⟩
  refine ⟨aI (l[i].tmod (2 * (madeTo n l i).1.vars)), by rw [bin_rem (by omega)]; exact ⟨rfl, rfl⟩, ?_⟩
  refine ⟨_, by rw [hP1]; exact ⟨rfl, rfl⟩, ?_⟩
  refine ⟨_, by rw [hP2]; exact ⟨rfl, rfl⟩, ?_⟩
  refine ⟨aI l[i], by rw [convI_64 _ (by omega) (by omega)]; exact ⟨rfl, rfl⟩, ?_⟩
  refine ⟨aI (l[i].tdiv (2 * (madeTo n l i).1.vars)), by rw [bin_quo (by omega) (by omega) (by omega)]; exact ⟨rfl, rfl⟩, ?_⟩
  refine ⟨aI ((l[i].tdiv (2 * (madeTo n l i).1.vars)).tmod (2 * (madeTo n l i).1.vars)), by rw [bin_rem (by omega)]; exact ⟨rfl, rfl⟩, ?_⟩
  have hand : AnsAt Try.prog 33 [.a cs, aI (l[i].tmod (2 * (madeTo n l i).1.vars)), aI ((l[i].tdiv (2 * (madeTo n l i).1.vars)).tmod (2 * (madeTo n l i).1.vars))] S4 (andAV ((madeTo n l i).1.and (l[i].tmod (2 * (madeTo n l i).1.vars)) ((l[i].tdiv (2 * (madeTo n l i).1.vars)).tmod (2 * (madeTo n l i).1.vars)))) :=
    ansAt_cv (args2 := [(madeTo n l i).1.av, aI (l[i].tmod (2 * (madeTo n l i).1.vars)), aI ((l[i].tdiv (2 * (madeTo n l i).1.vars)).tmod (2 * (madeTo n l i).1.vars))]) rfl (fun k u u2 hu hu2 => by
      match k with
      | 0 => cases hu; cases hu2; exact hcv _ _
      | 1 | 2 => cases hu; cases hu2; exact .v _
      | k + 3 => simp at hu) (ans33 hgo ⟨by omega, by omega⟩ ⟨by omega, by omega⟩ S4)
  rw [ldN_p (n := 2) hcs hcl]
  refine callF_at hand ?_
  have hs : madeTo n l (i + 1) = madeS (madeTo n l i).1 (madeTo n l i).2 l[i] := by rw [madeTo, hgd]
  simp only [madeS] at hs
  generalize (madeTo n l i).1.and (l[i].tmod (2 * (madeTo n l i).1.vars)) ((l[i].tdiv (2 * (madeTo n l i).1.vars)).tmod (2 * (madeTo n l i).1.vars)) = r at *
  unfold andAV
  rw [extr0, extr1, extr2]
  refine boxA_of rfl fun S5 k5 n5 o5 => ?_
  refine stA_of o5 rfl rfl fun S6 n6 o6 f6 => ?_
  have k6 : Keep S4 S6 := k5.st (Nat.le_refl _) n6 f6
  have p6 := (k6.2 _ (by omega)).trans p4
  have c6 := (k6.2 S1.n (by omega)).trans hcs
  have hadd : ∀ K : AV → Store → Prop, ∀ S, bin .add 0 (.v (.int .i64 (i : Int))) (.v (.int .i64 1)) S K = K (aI (i + 1 : Nat)) S := fun K S => bin_add (by omega) (by omega) 0
  have hμ : 40 - ((intA (aI (i + 1 : Nat))).getD 0).toNat < 40 - ((intA (aI i)).getD 0).toNat := by simp [intA]; omega
  rw [bin_eql, onB_v]
  refine gd_of (fun h => ?_) (fun h => ?_)
  · have h : r.2.2 = 0 := of_decide_eq_true h
    simp only [h, if_true] at hs
    have qq : 0 ≤ l[i].tdiv 7 ∧ l[i].tdiv 7 ≤ 65536 := by
      rw [Int.tdiv_eq_ediv_of_nonneg hx.1]; omega
    have e1 : ∀ (T : Store) (K : AV → Store → Prop), convI .i64 (aW16 l[i]) T K = K (aI l[i]) T := fun T K => convI_64 _ (by omega) (by omega)
    have e2 : ∀ (T : Store) (K : AV → Store → Prop), bin .quo 0 (aI l[i]) (.v (.int .i64 7)) T K = K (aI (l[i].tdiv 7)) T := fun T K => bin_quo (by decide) (by omega) (by omega) 0
    have e3 : ∀ (T : Store) (K : AV → Store → Prop), bin .rem 0 (aI (l[i].tdiv 7)) (.v (.int .i64 2)) T K = K (aI ((l[i].tdiv 7).tmod 2)) T := fun T K => bin_rem (by decide) _ 0
    have pT : ∀ {T : Store}, Keep S T → _ := fun {T} hT => hP T hT i hlt
    refine ⟨.a r.1.cells, fun T hT => by rw [ldN_p (n := 2) ((hT.2 _ (by omega)).trans o6) rfl]; exact ⟨rfl, rfl⟩, P i, fun T hT => by rw [(pT ((k4.trans k6).trans hT)).1]; exact ⟨rfl, rfl⟩, _, fun T hT => by rw [(pT ((k4.trans k6).trans hT)).2]; exact ⟨rfl, rfl⟩, _, fun T hT => by rw [e1]; exact ⟨rfl, rfl⟩, _, fun T hT => by rw [e2]; exact ⟨rfl, rfl⟩, _, fun T hT => by rw [e3]; exact ⟨rfl, rfl⟩, _, fun T hT => by rw [bin_xor]; exact ⟨rfl, rfl⟩, ?_⟩
    refine stA_of c6 rfl hcl fun S7 n7 o7 f7 => ?_
    have k7 : Keep S S7 := (k4.trans k6).st (by omega) n7 f7
    refine ⟨fun T hT => by rw [bin_xor]; exact ⟨rfl, rfl⟩, fun T hT => by rw [e3]; exact ⟨rfl, rfl⟩, fun T hT => by rw [e2]; exact ⟨rfl, rfl⟩, fun T hT => by rw [e1]; exact ⟨rfl, rfl⟩, fun T hT => by rw [(pT (k7.trans hT)).2]; exact ⟨rfl, rfl⟩, fun T hT => by rw [(pT (k7.trans hT)).1]; exact ⟨rfl, rfl⟩, ?_⟩
    rw [hadd]
    exact hKE _ _ _ ⟨k7, by have := k6.1; omega, (f7 _ (by omega)).trans p6, i + 1, rfl, by omega, by rw [hs], .inr (by rw [hs]; exact o7)⟩ hμ
  · have h : ¬ r.2.2 = 0 := of_decide_eq_false h
    simp only [h, if_false] at hs
    rw [hadd]
    refine hKE _ _ _ ⟨k4.trans k6, by have := k6.1; omega, p6, i + 1, rfl, by omega, by rw [hs], ?_⟩ hμ
    rcases hg with ⟨e, h'⟩ | h'
    · exact .inl ⟨by rw [hs]; exact e, (k6.2 S1.n (by omega)).trans h'⟩
    · exact .inr (by rw [hs]; exact (k6.2 S1.n (by omega)).trans h')
end Go.Proofs.Ytolgpokppnajdaa.G
set_option linter.unusedVariables false
set_option maxRecDepth 100000
namespace Go.Proofs.Ytolgpokppnajdaa.G
open Go Go.Ab
/-! ### 12 parterre/parterreref11.Of -/
noncomputable def c12 : Code := (Try.f12.body).getD .skip
noncomputable def r12 : List ResultVar := Try.f12.results.toList
def env12_0 (y1 y2 y4 y5 y6 : AV) : List AV := [y1, y2, y4, y5, y6]
def lv12_0 : List Nat := [1, 2, 4, 5, 6]
def env12_1 (y1 y2 y4 y5 y8 : AV) : List AV := [y1, y2, y4, y5, y8]
def lv12_1 : List Nat := [1, 2, 4, 5, 8]
def env12_2 (y1 y2 y4 y5 y8 y9 y10 : AV) : List AV := [y1, y2, y4, y5, y8, y9, y10]
def lv12_2 : List Nat := [1, 2, 4, 5, 8, 9, 10]
def env12_3 (y1 y2 y4 y5 y11 : AV) : List AV := [y1, y2, y4, y5, y11]
def lv12_3 : List Nat := [1, 2, 4, 5, 11]
def env12_4 (y1 y2 y4 y5 y11 y12 y13 y14 : AV) : List AV := [y1, y2, y4, y5, y11, y12, y13, y14]
def lv12_4 : List Nat := [1, 2, 4, 5, 11, 12, 13, 14]
def ms12 : List (List Nat) := [lv12_0, lv12_1, lv12_2, lv12_3, lv12_4, []]
def m12 (x0 : AV) (S : Store) (Q : AEnd → Store → Prop) : Prop :=
  boxN 27 8 x0 S fun v1 S => boxN 37 5 (.a [(.v (.int .i64 0)), .nl, .nl, .nl, .nl]) S fun v2 S => ldN 8 v1 S fun v3 S => callF Try.prog 27 [v3] S Q fun v4 S => un .not v4 S fun v5 S => onB v5 fun b6 => gd b6 (bld [(0, 1), (1, 1), (2, 1), (3, 1), (4, 1)] [(.v (.int .i64 0)), .nl, .nl, .nl, .nl] [] S fun v7 S => stN 5 v2 v7 S fun v8 S => ldN 5 v2 S fun v9 _ => Q (.ret (.t [v9, (.v (Go.Value.int Go.IntKind.i64 1))])) S) (shift v1 0 S fun v10 S => ld1 v10 S fun v11 S => shift v1 1 S fun v12 S => ld1 v12 S fun v13 S => lenS v13 S fun v14 S => bin .add 0 v11 v14 S fun v15 S => bin .gtr 0 v15 (.v (Go.Value.int Go.IntKind.i64 10)) S fun v16 S => onB v16 fun b17 => gd b17 (bld [(0, 1), (1, 1), (2, 1), (3, 1), (4, 1)] [(.v (.int .i64 0)), .nl, .nl, .nl, .nl] [] S fun v18 S => stN 5 v2 v18 S fun v19 S => ldN 5 v2 S fun v20 _ => Q (.ret (.t [v20, (.v (Go.Value.int Go.IntKind.i64 2))])) S) (bld [(0, 1), (1, 1), (2, 1), (3, 1), (4, 1)] [(.v (.int .i64 0)), .nl, .nl, .nl, .nl] [(0, v15)] S fun v21 S => boxN 37 5 (.a [(.v (.int .i64 0)), .nl, .nl, .nl, .nl]) S fun v22 S => stN 5 v22 v21 S fun v23 S => loopV lv12_0 (vc Try.prog (c12.at_ [1, 1, 1, 1, 1, 0, 1, 0, 0]) (ms12.drop 1)) 138 (env12_0 v1 v2 v15 v22 (.v (Go.Value.int Go.IntKind.i64 0))) S (blockK 0 (seqK (vc Try.prog (c12.at_ [1, 1, 1, 1, 1, 1]) (ms12.drop 1)) (bodyK Try.prog r12 Q)))))
theorem m12_eq : (fun (x0 : AV) (S : Store) (Q : AEnd → Store → Prop) => vc Try.prog c12 ms12 (ofArgs 138 [x0]) S (bodyK Try.prog r12 Q)) = (fun (x0 : AV) (S : Store) (Q : AEnd → Store → Prop) => m12 x0 S Q) := by kernel_rfl
theorem calls12 {x0 : AV} {S : Store} {Q : AEnd → Store → Prop} (h : m12 x0 S Q) : ACalls Try.prog 12 [x0] S Q :=
  calls_of_vc (fn := Try.f12) (c := c12) (n := 138) Try.func12 (by kernel_rfl) (by kernel_rfl) (by kernel_rfl) ms12 ((congrFun (congrFun (congrFun m12_eq x0) S) Q).mpr h)
-- loop 0: written: y6; read alone: y1 y2 y4 y5
def b12_0 (y1 y2 y4 y5 y6 : AV) (S : Store) (KE0 : Nat → List AV → Store → Prop) (Q : AEnd → Store → Prop) : Prop :=
  bin .shl 0 (.v (Go.Value.int Go.IntKind.i64 1)) y4 S fun v24 S => bin .lss 0 y6 v24 S fun v25 S => onB v25 fun b26 => gd b26 (ldN 8 y1 S fun v27 S => shift y1 5 S fun v28 S => ld1 v28 S fun v29 S => callF Try.prog 30 [v27, y6, v29] S Q fun v30 S => shift y5 1 S fun v31 S => ld1 v31 S fun v32 S => bslN 4 1 1 [(.v (.bool false))] [(0, v30)] S fun v33 S => appS 4 1 1 v32 v33 S fun v34 S => shift y5 1 S fun v35 S => stN 1 v35 v34 S fun v36 S => ∃ q37 : AV, (∀ T : Store, Keep S T → shift y5 2 T fun v38 S => v38 = q37 ∧ S = T) ∧ ∃ q39 : AV, (∀ T : Store, Keep S T → ld1 q37 T fun v40 S => v40 = q39 ∧ S = T) ∧ onB v30 fun b41 => gd b41 (∃ q42 : AV, (∀ T : Store, Keep S T → ldN 8 y1 T fun v43 S => v43 = q42 ∧ S = T) ∧ ∃ q44 : AV, (∀ T : Store, Keep S T → callF Try.prog 31 [q42, y6] T (fun _ _ => False) fun v45 S => v45 = q44 ∧ S = T) ∧ ∃ q46 : AV, (∀ T : Store, Keep S T → q44 = q46 ∧ T = T) ∧ ∃ q47 : AV, (∀ T : Store, Keep S T → bslN 4 1 1 [(.v (.bool false))] [(0, q46)] T fun v48 S => v48 = q47 ∧ S = T) ∧ appS 4 1 1 q39 q47 S fun v49 S => ∃ q50 : AV, (∀ T : Store, Keep S T → shift y5 2 T fun v51 S => v51 = q50 ∧ S = T) ∧ stN 1 q50 v49 S fun v52 S => bin .add 0 y6 (.v (Go.Value.int Go.IntKind.i64 1)) S fun v53 S => KE0 138 (env12_0 y1 y2 y4 y5 v53) S) (∃ q54 : AV, (∀ T : Store, Keep S T → (.v (Go.Value.bool false)) = q54 ∧ T = T) ∧ ∃ q55 : AV, (∀ T : Store, Keep S T → bslN 4 1 1 [(.v (.bool false))] [(0, q54)] T fun v56 S => v56 = q55 ∧ S = T) ∧ appS 4 1 1 q39 q55 S fun v57 S => ∃ q58 : AV, (∀ T : Store, Keep S T → shift y5 2 T fun v59 S => v59 = q58 ∧ S = T) ∧ stN 1 q58 v57 S fun v60 S => bin .add 0 y6 (.v (Go.Value.int Go.IntKind.i64 1)) S fun v61 S => KE0 138 (env12_0 y1 y2 y4 y5 v61) S)) (loopV lv12_1 (vc Try.prog (c12.at_ [1, 1, 1, 1, 1, 1, 0, 1, 0, 0]) (ms12.drop 2)) 138 (env12_1 y1 y2 y4 y5 (.v (Go.Value.int Go.IntKind.i64 0))) S (blockK 2 (seqK (vc Try.prog (c12.at_ [1, 1, 1, 1, 1, 1, 1]) (ms12.drop 3)) (bodyK Try.prog r12 Q))))
theorem b12_0_eq : (fun (y1 y2 y4 y5 y6 : AV) (S : Store) (KE0 : Nat → List AV → Store → Prop) (Q : AEnd → Store → Prop) => vc Try.prog (c12.at_ [1, 1, 1, 1, 1, 0, 1, 0, 0]) (ms12.drop 1) (mkE 138 lv12_0 (env12_0 y1 y2 y4 y5 y6)) S (thenK (fgK lv12_0 KE0) (blockK 0 (seqK (vc Try.prog (c12.at_ [1, 1, 1, 1, 1, 1]) (ms12.drop 1)) (bodyK Try.prog r12 Q))))) = (fun (y1 y2 y4 y5 y6 : AV) (S : Store) (KE0 : Nat → List AV → Store → Prop) (Q : AEnd → Store → Prop) => b12_0 y1 y2 y4 y5 y6 S KE0 Q) := by kernel_rfl
theorem loop12_0 {y1 y2 y4 y5 : AV} {y60 : AV} {S : Store} {Q : AEnd → Store → Prop} (I : AV → Store → Prop) (μ : AV → Store → Nat) (h0 : I y60 S)
    (hr : ∀ (y6 : AV) (S : Store), I y6 S → ∀ KE0 : Nat → List AV → Store → Prop, (∀ (y6' : AV) (S' : Store), I y6' S' → μ y6' S' < μ y6 S → KE0 138 (env12_0 y1 y2 y4 y5 y6') S') → b12_0 y1 y2 y4 y5 y6 S KE0 Q) :
    loopV lv12_0 (vc Try.prog (c12.at_ [1, 1, 1, 1, 1, 0, 1, 0, 0]) (ms12.drop 1)) 138 (env12_0 y1 y2 y4 y5 y60) S (blockK 0 (seqK (vc Try.prog (c12.at_ [1, 1, 1, 1, 1, 1]) (ms12.drop 1)) (bodyK Try.prog r12 Q))) := by
  refine ⟨fun n e S => n = 138 ∧ ∃ y6 : AV, e = (env12_0 y1 y2 y4 y5 y6) ∧ I y6 S, fun _ e S => μ (e.getD 4 .j) S, ?_, ?_⟩
  · exact ⟨_, _, Wk.refl _ _, rfl, _, rfl, h0⟩
  · rintro _ e S ⟨rfl, y6, rfl, hI⟩
    exact (congrFun (congrFun (congrFun (congrFun (congrFun (congrFun (congrFun (congrFun b12_0_eq y1) y2) y4) y5) y6) S) _) Q).mpr (hr y6 S hI _ (fun y6' S' hI' hm => ⟨_, _, Wk.refl _ _, ⟨rfl, _, rfl, hI'⟩, hm⟩))
theorem loopw12_0 {y1 y2 y4 y5 y6 : AV} {S : Store} {Q : AEnd → Store → Prop} (I : AV → AV → AV → AV → AV → Store → Prop) (μ : AV → AV → AV → AV → AV → Store → Nat) (h0 : ∃ (y1' y2' y4' y5' y6' : AV) (S' : Store), Wk S (env12_0 y1 y2 y4 y5 y6) S' (env12_0 y1' y2' y4' y5' y6') ∧ I y1' y2' y4' y5' y6' S')
    (hr : ∀ (y1 y2 y4 y5 y6 : AV) (S : Store), I y1 y2 y4 y5 y6 S → ∀ KE0 : Nat → List AV → Store → Prop, (∀ (y1' y2' y4' y5' y6' : AV) (S' : Store) (y1'' y2'' y4'' y5'' y6'' : AV) (S'' : Store), Wk S' (env12_0 y1' y2' y4' y5' y6') S'' (env12_0 y1'' y2'' y4'' y5'' y6'') → I y1'' y2'' y4'' y5'' y6'' S'' → μ y1'' y2'' y4'' y5'' y6'' S'' < μ y1 y2 y4 y5 y6 S → KE0 138 (env12_0 y1' y2' y4' y5' y6') S') → b12_0 y1 y2 y4 y5 y6 S KE0 Q) :
    loopV lv12_0 (vc Try.prog (c12.at_ [1, 1, 1, 1, 1, 0, 1, 0, 0]) (ms12.drop 1)) 138 (env12_0 y1 y2 y4 y5 y6) S (blockK 0 (seqK (vc Try.prog (c12.at_ [1, 1, 1, 1, 1, 1]) (ms12.drop 1)) (bodyK Try.prog r12 Q))) := by
  obtain ⟨y1', y2', y4', y5', y6', S0, hw0, h0⟩ := h0
  refine ⟨fun n e S => n = 138 ∧ ∃ y1 y2 y4 y5 y6 : AV, e = (env12_0 y1 y2 y4 y5 y6) ∧ I y1 y2 y4 y5 y6 S, fun _ e S => μ (e.getD 0 .j) (e.getD 1 .j) (e.getD 2 .j) (e.getD 3 .j) (e.getD 4 .j) S, ?_, ?_⟩
  · exact ⟨_, _, hw0, rfl, _, _, _, _, _, rfl, h0⟩
  · rintro _ e S ⟨rfl, y1, y2, y4, y5, y6, rfl, hI⟩
    exact (congrFun (congrFun (congrFun (congrFun (congrFun (congrFun (congrFun (congrFun b12_0_eq y1) y2) y4) y5) y6) S) _) Q).mpr (hr y1 y2 y4 y5 y6 S hI _ (fun y1' y2' y4' y5' y6' S' y1'' y2'' y4'' y5'' y6'' S'' hw hI' hm => ⟨_, _, hw, ⟨rfl, _, _, _, _, _, rfl, hI'⟩, hm⟩))
-- loop 1: written: y8; read alone: y1 y2 y4 y5
def b12_1 (y1 y2 y4 y5 y8 : AV) (S : Store) (KE1 : Nat → List AV → Store → Prop) (Q : AEnd → Store → Prop) : Prop :=
  shift y1 6 S fun v62 S => ld1 v62 S fun v63 S => lenS v63 S fun v64 S => bin .lss 0 y8 v64 S fun v65 S => onB v65 fun b66 => gd b66 (loopV lv12_2 (vc Try.prog (c12.at_ [1, 1, 1, 1, 1, 1, 0, 1, 0, 0, 1, 0, 0, 1, 0, 1, 0, 0]) (ms12.drop 3)) 138 (env12_2 y1 y2 y4 y5 y8 .nl (.v (Go.Value.int Go.IntKind.i64 0))) S (blockK 4 (seqK (vc Try.prog (c12.at_ [1, 1, 1, 1, 1, 1, 0, 1, 0, 0, 1, 0, 0, 1, 1]) (ms12.drop 3)) (blockK 3 (seqK (vc Try.prog (c12.at_ [1, 1, 1, 1, 1, 1, 0, 1, 0, 0, 1, 1]) (ms12.drop 3)) (thenK (fgK lv12_1 KE1) (blockK 2 (seqK (vc Try.prog (c12.at_ [1, 1, 1, 1, 1, 1, 1]) (ms12.drop 3)) (bodyK Try.prog r12 Q))))))))) (loopV lv12_3 (vc Try.prog (c12.at_ [1, 1, 1, 1, 1, 1, 1, 0, 1, 0, 0]) (ms12.drop 4)) 138 (env12_3 y1 y2 y4 y5 (.v (Go.Value.int Go.IntKind.i64 0))) S (blockK 6 (seqK (vc Try.prog (c12.at_ [1, 1, 1, 1, 1, 1, 1, 1]) (ms12.drop 5)) (bodyK Try.prog r12 Q))))
theorem b12_1_eq : (fun (y1 y2 y4 y5 y8 : AV) (S : Store) (KE1 : Nat → List AV → Store → Prop) (Q : AEnd → Store → Prop) => vc Try.prog (c12.at_ [1, 1, 1, 1, 1, 1, 0, 1, 0, 0]) (ms12.drop 2) (mkE 138 lv12_1 (env12_1 y1 y2 y4 y5 y8)) S (thenK (fgK lv12_1 KE1) (blockK 2 (seqK (vc Try.prog (c12.at_ [1, 1, 1, 1, 1, 1, 1]) (ms12.drop 3)) (bodyK Try.prog r12 Q))))) = (fun (y1 y2 y4 y5 y8 : AV) (S : Store) (KE1 : Nat → List AV → Store → Prop) (Q : AEnd → Store → Prop) => b12_1 y1 y2 y4 y5 y8 S KE1 Q) := by kernel_rfl
theorem loop12_1 {y1 y2 y4 y5 : AV} {y80 : AV} {S : Store} {Q : AEnd → Store → Prop} (I : AV → Store → Prop) (μ : AV → Store → Nat) (h0 : I y80 S)
    (hr : ∀ (y8 : AV) (S : Store), I y8 S → ∀ KE1 : Nat → List AV → Store → Prop, (∀ (y8' : AV) (S' : Store), I y8' S' → μ y8' S' < μ y8 S → KE1 138 (env12_1 y1 y2 y4 y5 y8') S') → b12_1 y1 y2 y4 y5 y8 S KE1 Q) :
    loopV lv12_1 (vc Try.prog (c12.at_ [1, 1, 1, 1, 1, 1, 0, 1, 0, 0]) (ms12.drop 2)) 138 (env12_1 y1 y2 y4 y5 y80) S (blockK 2 (seqK (vc Try.prog (c12.at_ [1, 1, 1, 1, 1, 1, 1]) (ms12.drop 3)) (bodyK Try.prog r12 Q))) := by
  refine ⟨fun n e S => n = 138 ∧ ∃ y8 : AV, e = (env12_1 y1 y2 y4 y5 y8) ∧ I y8 S, fun _ e S => μ (e.getD 4 .j) S, ?_, ?_⟩
  · exact ⟨_, _, Wk.refl _ _, rfl, _, rfl, h0⟩
  · rintro _ e S ⟨rfl, y8, rfl, hI⟩
    exact (congrFun (congrFun (congrFun (congrFun (congrFun (congrFun (congrFun (congrFun b12_1_eq y1) y2) y4) y5) y8) S) _) Q).mpr (hr y8 S hI _ (fun y8' S' hI' hm => ⟨_, _, Wk.refl _ _, ⟨rfl, _, rfl, hI'⟩, hm⟩))
theorem loopw12_1 {y1 y2 y4 y5 y8 : AV} {S : Store} {Q : AEnd → Store → Prop} (I : AV → AV → AV → AV → AV → Store → Prop) (μ : AV → AV → AV → AV → AV → Store → Nat) (h0 : ∃ (y1' y2' y4' y5' y8' : AV) (S' : Store), Wk S (env12_1 y1 y2 y4 y5 y8) S' (env12_1 y1' y2' y4' y5' y8') ∧ I y1' y2' y4' y5' y8' S')
    (hr : ∀ (y1 y2 y4 y5 y8 : AV) (S : Store), I y1 y2 y4 y5 y8 S → ∀ KE1 : Nat → List AV → Store → Prop, (∀ (y1' y2' y4' y5' y8' : AV) (S' : Store) (y1'' y2'' y4'' y5'' y8'' : AV) (S'' : Store), Wk S' (env12_1 y1' y2' y4' y5' y8') S'' (env12_1 y1'' y2'' y4'' y5'' y8'') → I y1'' y2'' y4'' y5'' y8'' S'' → μ y1'' y2'' y4'' y5'' y8'' S'' < μ y1 y2 y4 y5 y8 S → KE1 138 (env12_1 y1' y2' y4' y5' y8') S') → b12_1 y1 y2 y4 y5 y8 S KE1 Q) :
    loopV lv12_1 (vc Try.prog (c12.at_ [1, 1, 1, 1, 1, 1, 0, 1, 0, 0]) (ms12.drop 2)) 138 (env12_1 y1 y2 y4 y5 y8) S (blockK 2 (seqK (vc Try.prog (c12.at_ [1, 1, 1, 1, 1, 1, 1]) (ms12.drop 3)) (bodyK Try.prog r12 Q))) := by
  obtain ⟨y1', y2', y4', y5', y8', S0, hw0, h0⟩ := h0
  refine ⟨fun n e S => n = 138 ∧ ∃ y1 y2 y4 y5 y8 : AV, e = (env12_1 y1 y2 y4 y5 y8) ∧ I y1 y2 y4 y5 y8 S, fun _ e S => μ (e.getD 0 .j) (e.getD 1 .j) (e.getD 2 .j) (e.getD 3 .j) (e.getD 4 .j) S, ?_, ?_⟩
  · exact ⟨_, _, hw0, rfl, _, _, _, _, _, rfl, h0⟩
  · rintro _ e S ⟨rfl, y1, y2, y4, y5, y8, rfl, hI⟩
    exact (congrFun (congrFun (congrFun (congrFun (congrFun (congrFun (congrFun (congrFun b12_1_eq y1) y2) y4) y5) y8) S) _) Q).mpr (hr y1 y2 y4 y5 y8 S hI _ (fun y1' y2' y4' y5' y8' S' y1'' y2'' y4'' y5'' y8'' S'' hw hI' hm => ⟨_, _, hw, ⟨rfl, _, _, _, _, _, rfl, hI'⟩, hm⟩))
-- loop 2: written: y9 y10; read alone: y1 y2 y4 y5 y8
def b12_2 (y1 y2 y4 y5 y8 y9 y10 : AV) (S : Store) (KE2 : Nat → List AV → Store → Prop) (KE1 : Nat → List AV → Store → Prop) (Q : AEnd → Store → Prop) : Prop :=
  bin .shl 0 (.v (Go.Value.int Go.IntKind.i64 1)) y4 S fun v67 S => bin .lss 0 y10 v67 S fun v68 S => onB v68 fun b69 => gd b69 (∃ q70 : AV, (∀ T : Store, Keep S T → shift y5 1 T fun v71 S => v71 = q70 ∧ S = T) ∧ ∃ q72 : AV, (∀ T : Store, Keep S T → ld1 q70 T fun v73 S => v73 = q72 ∧ S = T) ∧ ∃ q74 : AV, (∀ T : Store, Keep S T → ixS 4 1 q72 y10 T fun v75 S => v75 = q74 ∧ S = T) ∧ ∃ q76 : AV, (∀ T : Store, Keep S T → ld1 q74 T fun v77 S => v77 = q76 ∧ S = T) ∧ onB q76 fun b78 => gd b78 (∃ q79 : AV, (∀ T : Store, Keep S T → ldN 8 y1 T fun v80 S => v80 = q79 ∧ S = T) ∧ ∃ q81 : AV, (∀ T : Store, Keep S T → shift y1 6 T fun v82 S => v82 = q81 ∧ S = T) ∧ ∃ q83 : AV, (∀ T : Store, Keep S T → ld1 q81 T fun v84 S => v84 = q83 ∧ S = T) ∧ ∃ q85 : AV, (∀ T : Store, Keep S T → ixS 3 1 q83 y8 T fun v86 S => v86 = q85 ∧ S = T) ∧ ∃ q87 : AV, (∀ T : Store, Keep S T → ld1 q85 T fun v88 S => v88 = q87 ∧ S = T) ∧ ∃ q89 : AV, (∀ T : Store, Keep S T → callF Try.prog 29 [q79, y10, q87] T (fun _ _ => False) fun v90 S => v90 = q89 ∧ S = T) ∧ ∃ q91 : AV, (∀ T : Store, Keep S T → q89 = q91 ∧ T = T) ∧ ∃ q92 : AV, (∀ T : Store, Keep S T → bslN 4 1 1 [(.v (.bool false))] [(0, q91)] T fun v93 S => v93 = q92 ∧ S = T) ∧ appS 4 1 1 y9 q92 S fun v94 S => bin .add 0 y10 (.v (Go.Value.int Go.IntKind.i64 1)) S fun v95 S => KE2 138 (env12_2 y1 y2 y4 y5 y8 v94 v95) S) (∃ q96 : AV, (∀ T : Store, Keep S T → (.v (Go.Value.bool false)) = q96 ∧ T = T) ∧ ∃ q97 : AV, (∀ T : Store, Keep S T → bslN 4 1 1 [(.v (.bool false))] [(0, q96)] T fun v98 S => v98 = q97 ∧ S = T) ∧ appS 4 1 1 y9 q97 S fun v99 S => bin .add 0 y10 (.v (Go.Value.int Go.IntKind.i64 1)) S fun v100 S => KE2 138 (env12_2 y1 y2 y4 y5 y8 v99 v100) S)) (shift y5 4 S fun v101 S => ld1 v101 S fun v102 S => bslN 33 1 1 [.nl] [(0, y9)] S fun v103 S => appS 33 1 24 v102 v103 S fun v104 S => shift y5 4 S fun v105 S => stN 1 v105 v104 S fun v106 S => bin .add 0 y8 (.v (Go.Value.int Go.IntKind.i64 1)) S fun v107 S => KE1 138 (env12_1 y1 y2 y4 y5 v107) S)
theorem b12_2_eq : (fun (y1 y2 y4 y5 y8 y9 y10 : AV) (S : Store) (KE2 : Nat → List AV → Store → Prop) (KE1 : Nat → List AV → Store → Prop) (Q : AEnd → Store → Prop) => vc Try.prog (c12.at_ [1, 1, 1, 1, 1, 1, 0, 1, 0, 0, 1, 0, 0, 1, 0, 1, 0, 0]) (ms12.drop 3) (mkE 138 lv12_2 (env12_2 y1 y2 y4 y5 y8 y9 y10)) S (thenK (fgK lv12_2 KE2) (blockK 4 (seqK (vc Try.prog (c12.at_ [1, 1, 1, 1, 1, 1, 0, 1, 0, 0, 1, 0, 0, 1, 1]) (ms12.drop 3)) (blockK 3 (seqK (vc Try.prog (c12.at_ [1, 1, 1, 1, 1, 1, 0, 1, 0, 0, 1, 1]) (ms12.drop 3)) (thenK (fgK lv12_1 KE1) (blockK 2 (seqK (vc Try.prog (c12.at_ [1, 1, 1, 1, 1, 1, 1]) (ms12.drop 3)) (bodyK Try.prog r12 Q)))))))))) = (fun (y1 y2 y4 y5 y8 y9 y10 : AV) (S : Store) (KE2 : Nat → List AV → Store → Prop) (KE1 : Nat → List AV → Store → Prop) (Q : AEnd → Store → Prop) => b12_2 y1 y2 y4 y5 y8 y9 y10 S KE2 KE1 Q) := by kernel_rfl
theorem loop12_2 {y1 y2 y4 y5 y8 : AV} {y90 y100 : AV} {S : Store} {KE1 : Nat → List AV → Store → Prop} {Q : AEnd → Store → Prop} (I : AV → AV → Store → Prop) (μ : AV → AV → Store → Nat) (h0 : I y90 y100 S)
    (hr : ∀ (y9 y10 : AV) (S : Store), I y9 y10 S → ∀ KE2 : Nat → List AV → Store → Prop, (∀ (y9' y10' : AV) (S' : Store), I y9' y10' S' → μ y9' y10' S' < μ y9 y10 S → KE2 138 (env12_2 y1 y2 y4 y5 y8 y9' y10') S') → b12_2 y1 y2 y4 y5 y8 y9 y10 S KE2 KE1 Q) :
    loopV lv12_2 (vc Try.prog (c12.at_ [1, 1, 1, 1, 1, 1, 0, 1, 0, 0, 1, 0, 0, 1, 0, 1, 0, 0]) (ms12.drop 3)) 138 (env12_2 y1 y2 y4 y5 y8 y90 y100) S (blockK 4 (seqK (vc Try.prog (c12.at_ [1, 1, 1, 1, 1, 1, 0, 1, 0, 0, 1, 0, 0, 1, 1]) (ms12.drop 3)) (blockK 3 (seqK (vc Try.prog (c12.at_ [1, 1, 1, 1, 1, 1, 0, 1, 0, 0, 1, 1]) (ms12.drop 3)) (thenK (fgK lv12_1 KE1) (blockK 2 (seqK (vc Try.prog (c12.at_ [1, 1, 1, 1, 1, 1, 1]) (ms12.drop 3)) (bodyK Try.prog r12 Q)))))))) := by
  refine ⟨fun n e S => n = 138 ∧ ∃ y9 y10 : AV, e = (env12_2 y1 y2 y4 y5 y8 y9 y10) ∧ I y9 y10 S, fun _ e S => μ (e.getD 5 .j) (e.getD 6 .j) S, ?_, ?_⟩
  · exact ⟨_, _, Wk.refl _ _, rfl, _, _, rfl, h0⟩
  · rintro _ e S ⟨rfl, y9, y10, rfl, hI⟩
    exact (congrFun (congrFun (congrFun (congrFun (congrFun (congrFun (congrFun (congrFun (congrFun (congrFun (congrFun b12_2_eq y1) y2) y4) y5) y8) y9) y10) S) _) KE1) Q).mpr (hr y9 y10 S hI _ (fun y9' y10' S' hI' hm => ⟨_, _, Wk.refl _ _, ⟨rfl, _, _, rfl, hI'⟩, hm⟩))
theorem loopw12_2 {y1 y2 y4 y5 y8 y9 y10 : AV} {S : Store} {KE1 : Nat → List AV → Store → Prop} {Q : AEnd → Store → Prop} (I : AV → AV → AV → AV → AV → AV → AV → Store → Prop) (μ : AV → AV → AV → AV → AV → AV → AV → Store → Nat) (h0 : ∃ (y1' y2' y4' y5' y8' y9' y10' : AV) (S' : Store), Wk S (env12_2 y1 y2 y4 y5 y8 y9 y10) S' (env12_2 y1' y2' y4' y5' y8' y9' y10') ∧ I y1' y2' y4' y5' y8' y9' y10' S')
    (hr : ∀ (y1 y2 y4 y5 y8 y9 y10 : AV) (S : Store), I y1 y2 y4 y5 y8 y9 y10 S → ∀ KE2 : Nat → List AV → Store → Prop, (∀ (y1' y2' y4' y5' y8' y9' y10' : AV) (S' : Store) (y1'' y2'' y4'' y5'' y8'' y9'' y10'' : AV) (S'' : Store), Wk S' (env12_2 y1' y2' y4' y5' y8' y9' y10') S'' (env12_2 y1'' y2'' y4'' y5'' y8'' y9'' y10'') → I y1'' y2'' y4'' y5'' y8'' y9'' y10'' S'' → μ y1'' y2'' y4'' y5'' y8'' y9'' y10'' S'' < μ y1 y2 y4 y5 y8 y9 y10 S → KE2 138 (env12_2 y1' y2' y4' y5' y8' y9' y10') S') → b12_2 y1 y2 y4 y5 y8 y9 y10 S KE2 KE1 Q) :
    loopV lv12_2 (vc Try.prog (c12.at_ [1, 1, 1, 1, 1, 1, 0, 1, 0, 0, 1, 0, 0, 1, 0, 1, 0, 0]) (ms12.drop 3)) 138 (env12_2 y1 y2 y4 y5 y8 y9 y10) S (blockK 4 (seqK (vc Try.prog (c12.at_ [1, 1, 1, 1, 1, 1, 0, 1, 0, 0, 1, 0, 0, 1, 1]) (ms12.drop 3)) (blockK 3 (seqK (vc Try.prog (c12.at_ [1, 1, 1, 1, 1, 1, 0, 1, 0, 0, 1, 1]) (ms12.drop 3)) (thenK (fgK lv12_1 KE1) (blockK 2 (seqK (vc Try.prog (c12.at_ [1, 1, 1, 1, 1, 1, 1]) (ms12.drop 3)) (bodyK Try.prog r12 Q)))))))) := by
  obtain ⟨y1', y2', y4', y5', y8', y9', y10', S0, hw0, h0⟩ := h0
  refine ⟨fun n e S => n = 138 ∧ ∃ y1 y2 y4 y5 y8 y9 y10 : AV, e = (env12_2 y1 y2 y4 y5 y8 y9 y10) ∧ I y1 y2 y4 y5 y8 y9 y10 S, fun _ e S => μ (e.getD 0 .j) (e.getD 1 .j) (e.getD 2 .j) (e.getD 3 .j) (e.getD 4 .j) (e.getD 5 .j) (e.getD 6 .j) S, ?_, ?_⟩
  · exact ⟨_, _, hw0, rfl, _, _, _, _, _, _, _, rfl, h0⟩
  · rintro _ e S ⟨rfl, y1, y2, y4, y5, y8, y9, y10, rfl, hI⟩
    exact (congrFun (congrFun (congrFun (congrFun (congrFun (congrFun (congrFun (congrFun (congrFun (congrFun (congrFun b12_2_eq y1) y2) y4) y5) y8) y9) y10) S) _) KE1) Q).mpr (hr y1 y2 y4 y5 y8 y9 y10 S hI _ (fun y1' y2' y4' y5' y8' y9' y10' S' y1'' y2'' y4'' y5'' y8'' y9'' y10'' S'' hw hI' hm => ⟨_, _, hw, ⟨rfl, _, _, _, _, _, _, _, rfl, hI'⟩, hm⟩))
-- loop 3: written: y11; read alone: y1 y2 y4 y5
def b12_3 (y1 y2 y4 y5 y11 : AV) (S : Store) (KE3 : Nat → List AV → Store → Prop) (Q : AEnd → Store → Prop) : Prop :=
  bin .shl 0 (.v (Go.Value.int Go.IntKind.i64 1)) y4 S fun v108 S => bin .lss 0 y11 v108 S fun v109 S => onB v109 fun b110 => gd b110 (ldN 8 y1 S fun v111 S => callF Try.prog 11 [v111, y11] S Q fun v112 S => loopV lv12_4 (vc Try.prog (c12.at_ [1, 1, 1, 1, 1, 1, 1, 0, 1, 0, 0, 1, 0, 0, 1, 1, 0, 1, 0, 0]) (ms12.drop 5)) 138 (env12_4 y1 y2 y4 y5 y11 .nl v112 (.v (Go.Value.int Go.IntKind.i64 0))) S (blockK 8 (seqK (vc Try.prog (c12.at_ [1, 1, 1, 1, 1, 1, 1, 0, 1, 0, 0, 1, 0, 0, 1, 1, 1]) (ms12.drop 5)) (blockK 7 (seqK (vc Try.prog (c12.at_ [1, 1, 1, 1, 1, 1, 1, 0, 1, 0, 0, 1, 1]) (ms12.drop 5)) (thenK (fgK lv12_3 KE3) (blockK 6 (seqK (vc Try.prog (c12.at_ [1, 1, 1, 1, 1, 1, 1, 1]) (ms12.drop 5)) (bodyK Try.prog r12 Q))))))))) (ldN 5 y5 S fun v113 S => stN 5 y2 v113 S fun v114 S => ldN 5 y2 S fun v115 _ => Q (.ret (.t [v115, (.v (Go.Value.int Go.IntKind.i64 0))])) S)
theorem b12_3_eq : (fun (y1 y2 y4 y5 y11 : AV) (S : Store) (KE3 : Nat → List AV → Store → Prop) (Q : AEnd → Store → Prop) => vc Try.prog (c12.at_ [1, 1, 1, 1, 1, 1, 1, 0, 1, 0, 0]) (ms12.drop 4) (mkE 138 lv12_3 (env12_3 y1 y2 y4 y5 y11)) S (thenK (fgK lv12_3 KE3) (blockK 6 (seqK (vc Try.prog (c12.at_ [1, 1, 1, 1, 1, 1, 1, 1]) (ms12.drop 5)) (bodyK Try.prog r12 Q))))) = (fun (y1 y2 y4 y5 y11 : AV) (S : Store) (KE3 : Nat → List AV → Store → Prop) (Q : AEnd → Store → Prop) => b12_3 y1 y2 y4 y5 y11 S KE3 Q) := by kernel_rfl
theorem loop12_3 {y1 y2 y4 y5 : AV} {y110 : AV} {S : Store} {Q : AEnd → Store → Prop} (I : AV → Store → Prop) (μ : AV → Store → Nat) (h0 : I y110 S)
    (hr : ∀ (y11 : AV) (S : Store), I y11 S → ∀ KE3 : Nat → List AV → Store → Prop, (∀ (y11' : AV) (S' : Store), I y11' S' → μ y11' S' < μ y11 S → KE3 138 (env12_3 y1 y2 y4 y5 y11') S') → b12_3 y1 y2 y4 y5 y11 S KE3 Q) :
    loopV lv12_3 (vc Try.prog (c12.at_ [1, 1, 1, 1, 1, 1, 1, 0, 1, 0, 0]) (ms12.drop 4)) 138 (env12_3 y1 y2 y4 y5 y110) S (blockK 6 (seqK (vc Try.prog (c12.at_ [1, 1, 1, 1, 1, 1, 1, 1]) (ms12.drop 5)) (bodyK Try.prog r12 Q))) := by
  refine ⟨fun n e S => n = 138 ∧ ∃ y11 : AV, e = (env12_3 y1 y2 y4 y5 y11) ∧ I y11 S, fun _ e S => μ (e.getD 4 .j) S, ?_, ?_⟩
  · exact ⟨_, _, Wk.refl _ _, rfl, _, rfl, h0⟩
  · rintro _ e S ⟨rfl, y11, rfl, hI⟩
    exact (congrFun (congrFun (congrFun (congrFun (congrFun (congrFun (congrFun (congrFun b12_3_eq y1) y2) y4) y5) y11) S) _) Q).mpr (hr y11 S hI _ (fun y11' S' hI' hm => ⟨_, _, Wk.refl _ _, ⟨rfl, _, rfl, hI'⟩, hm⟩))
theorem loopw12_3 {y1 y2 y4 y5 y11 : AV} {S : Store} {Q : AEnd → Store → Prop} (I : AV → AV → AV → AV → AV → Store → Prop) (μ : AV → AV → AV → AV → AV → Store → Nat) (h0 : ∃ (y1' y2' y4' y5' y11' : AV) (S' : Store), Wk S (env12_3 y1 y2 y4 y5 y11) S' (env12_3 y1' y2' y4' y5' y11') ∧ I y1' y2' y4' y5' y11' S')
    (hr : ∀ (y1 y2 y4 y5 y11 : AV) (S : Store), I y1 y2 y4 y5 y11 S → ∀ KE3 : Nat → List AV → Store → Prop, (∀ (y1' y2' y4' y5' y11' : AV) (S' : Store) (y1'' y2'' y4'' y5'' y11'' : AV) (S'' : Store), Wk S' (env12_3 y1' y2' y4' y5' y11') S'' (env12_3 y1'' y2'' y4'' y5'' y11'') → I y1'' y2'' y4'' y5'' y11'' S'' → μ y1'' y2'' y4'' y5'' y11'' S'' < μ y1 y2 y4 y5 y11 S → KE3 138 (env12_3 y1' y2' y4' y5' y11') S') → b12_3 y1 y2 y4 y5 y11 S KE3 Q) :
    loopV lv12_3 (vc Try.prog (c12.at_ [1, 1, 1, 1, 1, 1, 1, 0, 1, 0, 0]) (ms12.drop 4)) 138 (env12_3 y1 y2 y4 y5 y11) S (blockK 6 (seqK (vc Try.prog (c12.at_ [1, 1, 1, 1, 1, 1, 1, 1]) (ms12.drop 5)) (bodyK Try.prog r12 Q))) := by
  obtain ⟨y1', y2', y4', y5', y11', S0, hw0, h0⟩ := h0
  refine ⟨fun n e S => n = 138 ∧ ∃ y1 y2 y4 y5 y11 : AV, e = (env12_3 y1 y2 y4 y5 y11) ∧ I y1 y2 y4 y5 y11 S, fun _ e S => μ (e.getD 0 .j) (e.getD 1 .j) (e.getD 2 .j) (e.getD 3 .j) (e.getD 4 .j) S, ?_, ?_⟩
  · exact ⟨_, _, hw0, rfl, _, _, _, _, _, rfl, h0⟩
  · rintro _ e S ⟨rfl, y1, y2, y4, y5, y11, rfl, hI⟩
    exact (congrFun (congrFun (congrFun (congrFun (congrFun (congrFun (congrFun (congrFun b12_3_eq y1) y2) y4) y5) y11) S) _) Q).mpr (hr y1 y2 y4 y5 y11 S hI _ (fun y1' y2' y4' y5' y11' S' y1'' y2'' y4'' y5'' y11'' S'' hw hI' hm => ⟨_, _, hw, ⟨rfl, _, _, _, _, _, rfl, hI'⟩, hm⟩))
-- loop 4: written: y12 y14; read alone: y1 y2 y4 y5 y11 y13
def b12_4 (y1 y2 y4 y5 y11 y12 y13 y14 : AV) (S : Store) (KE4 : Nat → List AV → Store → Prop) (KE3 : Nat → List AV → Store → Prop) (Q : AEnd → Store → Prop) : Prop :=
  shift y1 0 S fun v116 S => ld1 v116 S fun v117 S => bin .shl 0 (.v (Go.Value.int Go.IntKind.i64 1)) v117 S fun v118 S => bin .lss 0 y14 v118 S fun v119 S => onB v119 fun b120 => gd b120 (shift y5 1 S fun v121 S => ld1 v121 S fun v122 S => ixS 4 1 v122 y11 S fun v123 S => ld1 v123 S fun v124 S => onB v124 fun b125 => gd b125 (shift y5 1 S fun v126 S => ld1 v126 S fun v127 S => bin .add 0 y13 y14 S fun v128 S => ixS 4 1 v127 v128 S fun v129 S => ld1 v129 S fun v130 S => onB v130 fun b131 => gd b131 (bin .add 0 y13 y14 S fun v132 S => bslN 3 1 1 [(.v (.int .i64 0))] [(0, v132)] S fun v133 S => appS 3 1 8 y12 v133 S fun v134 S => bin .add 0 y14 (.v (Go.Value.int Go.IntKind.i64 1)) S fun v135 S => KE4 138 (env12_4 y1 y2 y4 y5 y11 v134 y13 v135) S) (bin .add 0 y14 (.v (Go.Value.int Go.IntKind.i64 1)) S fun v136 S => KE4 138 (env12_4 y1 y2 y4 y5 y11 y12 y13 v136) S)) (shift y5 3 S fun v137 S => ld1 v137 S fun v138 S => bslN 24 1 1 [.nl] [(0, y12)] S fun v139 S => appS 24 1 24 v138 v139 S fun v140 S => shift y5 3 S fun v141 S => stN 1 v141 v140 S fun v142 S => bin .add 0 y11 (.v (Go.Value.int Go.IntKind.i64 1)) S fun v143 S => KE3 138 (env12_3 y1 y2 y4 y5 v143) S)) (shift y5 3 S fun v144 S => ld1 v144 S fun v145 S => bslN 24 1 1 [.nl] [(0, y12)] S fun v146 S => appS 24 1 24 v145 v146 S fun v147 S => shift y5 3 S fun v148 S => stN 1 v148 v147 S fun v149 S => bin .add 0 y11 (.v (Go.Value.int Go.IntKind.i64 1)) S fun v150 S => KE3 138 (env12_3 y1 y2 y4 y5 v150) S)
theorem b12_4_eq : (fun (y1 y2 y4 y5 y11 y12 y13 y14 : AV) (S : Store) (KE4 : Nat → List AV → Store → Prop) (KE3 : Nat → List AV → Store → Prop) (Q : AEnd → Store → Prop) => vc Try.prog (c12.at_ [1, 1, 1, 1, 1, 1, 1, 0, 1, 0, 0, 1, 0, 0, 1, 1, 0, 1, 0, 0]) (ms12.drop 5) (mkE 138 lv12_4 (env12_4 y1 y2 y4 y5 y11 y12 y13 y14)) S (thenK (fgK lv12_4 KE4) (blockK 8 (seqK (vc Try.prog (c12.at_ [1, 1, 1, 1, 1, 1, 1, 0, 1, 0, 0, 1, 0, 0, 1, 1, 1]) (ms12.drop 5)) (blockK 7 (seqK (vc Try.prog (c12.at_ [1, 1, 1, 1, 1, 1, 1, 0, 1, 0, 0, 1, 1]) (ms12.drop 5)) (thenK (fgK lv12_3 KE3) (blockK 6 (seqK (vc Try.prog (c12.at_ [1, 1, 1, 1, 1, 1, 1, 1]) (ms12.drop 5)) (bodyK Try.prog r12 Q)))))))))) = (fun (y1 y2 y4 y5 y11 y12 y13 y14 : AV) (S : Store) (KE4 : Nat → List AV → Store → Prop) (KE3 : Nat → List AV → Store → Prop) (Q : AEnd → Store → Prop) => b12_4 y1 y2 y4 y5 y11 y12 y13 y14 S KE4 KE3 Q) := by kernel_rfl
theorem loop12_4 {y1 y2 y4 y5 y11 y13 : AV} {y120 y140 : AV} {S : Store} {KE3 : Nat → List AV → Store → Prop} {Q : AEnd → Store → Prop} (I : AV → AV → Store → Prop) (μ : AV → AV → Store → Nat) (h0 : I y120 y140 S)
    (hr : ∀ (y12 y14 : AV) (S : Store), I y12 y14 S → ∀ KE4 : Nat → List AV → Store → Prop, (∀ (y12' y14' : AV) (S' : Store), I y12' y14' S' → μ y12' y14' S' < μ y12 y14 S → KE4 138 (env12_4 y1 y2 y4 y5 y11 y12' y13 y14') S') → b12_4 y1 y2 y4 y5 y11 y12 y13 y14 S KE4 KE3 Q) :
    loopV lv12_4 (vc Try.prog (c12.at_ [1, 1, 1, 1, 1, 1, 1, 0, 1, 0, 0, 1, 0, 0, 1, 1, 0, 1, 0, 0]) (ms12.drop 5)) 138 (env12_4 y1 y2 y4 y5 y11 y120 y13 y140) S (blockK 8 (seqK (vc Try.prog (c12.at_ [1, 1, 1, 1, 1, 1, 1, 0, 1, 0, 0, 1, 0, 0, 1, 1, 1]) (ms12.drop 5)) (blockK 7 (seqK (vc Try.prog (c12.at_ [1, 1, 1, 1, 1, 1, 1, 0, 1, 0, 0, 1, 1]) (ms12.drop 5)) (thenK (fgK lv12_3 KE3) (blockK 6 (seqK (vc Try.prog (c12.at_ [1, 1, 1, 1, 1, 1, 1, 1]) (ms12.drop 5)) (bodyK Try.prog r12 Q)))))))) := by
  refine ⟨fun n e S => n = 138 ∧ ∃ y12 y14 : AV, e = (env12_4 y1 y2 y4 y5 y11 y12 y13 y14) ∧ I y12 y14 S, fun _ e S => μ (e.getD 5 .j) (e.getD 7 .j) S, ?_, ?_⟩
  · exact ⟨_, _, Wk.refl _ _, rfl, _, _, rfl, h0⟩
  · rintro _ e S ⟨rfl, y12, y14, rfl, hI⟩
    exact (congrFun (congrFun (congrFun (congrFun (congrFun (congrFun (congrFun (congrFun (congrFun (congrFun (congrFun (congrFun b12_4_eq y1) y2) y4) y5) y11) y12) y13) y14) S) _) KE3) Q).mpr (hr y12 y14 S hI _ (fun y12' y14' S' hI' hm => ⟨_, _, Wk.refl _ _, ⟨rfl, _, _, rfl, hI'⟩, hm⟩))
theorem loopw12_4 {y1 y2 y4 y5 y11 y12 y13 y14 : AV} {S : Store} {KE3 : Nat → List AV → Store → Prop} {Q : AEnd → Store → Prop} (I : AV → AV → AV → AV → AV → AV → AV → AV → Store → Prop) (μ : AV → AV → AV → AV → AV → AV → AV → AV → Store → Nat) (h0 : ∃ (y1' y2' y4' y5' y11' y12' y13' y14' : AV) (S' : Store), Wk S (env12_4 y1 y2 y4 y5 y11 y12 y13 y14) S' (env12_4 y1' y2' y4' y5' y11' y12' y13' y14') ∧ I y1' y2' y4' y5' y11' y12' y13' y14' S')
    (hr : ∀ (y1 y2 y4 y5 y11 y12 y13 y14 : AV) (S : Store), I y1 y2 y4 y5 y11 y12 y13 y14 S → ∀ KE4 : Nat → List AV → Store → Prop, (∀ (y1' y2' y4' y5' y11' y12' y13' y14' : AV) (S' : Store) (y1'' y2'' y4'' y5'' y11'' y12'' y13'' y14'' : AV) (S'' : Store), Wk S' (env12_4 y1' y2' y4' y5' y11' y12' y13' y14') S'' (env12_4 y1'' y2'' y4'' y5'' y11'' y12'' y13'' y14'') → I y1'' y2'' y4'' y5'' y11'' y12'' y13'' y14'' S'' → μ y1'' y2'' y4'' y5'' y11'' y12'' y13'' y14'' S'' < μ y1 y2 y4 y5 y11 y12 y13 y14 S → KE4 138 (env12_4 y1' y2' y4' y5' y11' y12' y13' y14') S') → b12_4 y1 y2 y4 y5 y11 y12 y13 y14 S KE4 KE3 Q) :
    loopV lv12_4 (vc Try.prog (c12.at_ [1, 1, 1, 1, 1, 1, 1, 0, 1, 0, 0, 1, 0, 0, 1, 1, 0, 1, 0, 0]) (ms12.drop 5)) 138 (env12_4 y1 y2 y4 y5 y11 y12 y13 y14) S (blockK 8 (seqK (vc Try.prog (c12.at_ [1, 1, 1, 1, 1, 1, 1, 0, 1, 0, 0, 1, 0, 0, 1, 1, 1]) (ms12.drop 5)) (blockK 7 (seqK (vc Try.prog (c12.at_ [1, 1, 1, 1, 1, 1, 1, 0, 1, 0, 0, 1, 1]) (ms12.drop 5)) (thenK (fgK lv12_3 KE3) (blockK 6 (seqK (vc Try.prog (c12.at_ [1, 1, 1, 1, 1, 1, 1, 1]) (ms12.drop 5)) (bodyK Try.prog r12 Q)))))))) := by
  obtain ⟨y1', y2', y4', y5', y11', y12', y13', y14', S0, hw0, h0⟩ := h0
  refine ⟨fun n e S => n = 138 ∧ ∃ y1 y2 y4 y5 y11 y12 y13 y14 : AV, e = (env12_4 y1 y2 y4 y5 y11 y12 y13 y14) ∧ I y1 y2 y4 y5 y11 y12 y13 y14 S, fun _ e S => μ (e.getD 0 .j) (e.getD 1 .j) (e.getD 2 .j) (e.getD 3 .j) (e.getD 4 .j) (e.getD 5 .j) (e.getD 6 .j) (e.getD 7 .j) S, ?_, ?_⟩
  · exact ⟨_, _, hw0, rfl, _, _, _, _, _, _, _, _, rfl, h0⟩
  · rintro _ e S ⟨rfl, y1, y2, y4, y5, y11, y12, y13, y14, rfl, hI⟩
    exact (congrFun (congrFun (congrFun (congrFun (congrFun (congrFun (congrFun (congrFun (congrFun (congrFun (congrFun (congrFun b12_4_eq y1) y2) y4) y5) y11) y12) y13) y14) S) _) KE3) Q).mpr (hr y1 y2 y4 y5 y11 y12 y13 y14 S hI _ (fun y1' y2' y4' y5' y11' y12' y13' y14' S' y1'' y2'' y4'' y5'' y11'' y12'' y13'' y14'' S'' hw hI' hm => ⟨_, _, hw, ⟨rfl, _, _, _, _, _, _, _, _, rfl, hI'⟩, hm⟩))
end Go.Proofs.Ytolgpokppnajdaa.G
set_option linter.unusedVariables false
set_option linter.unusedSimpArgs false
namespace Go.Proofs.Ytolgpokppnajdaa.G
open Go Go.Ab

/-- What the first loop of the document's space keeps. -/
structure Fv (c : Ci) (S S1 S2 S4 S' : Store) (m : Nat) (zv zi : AV) (i : Nat) : Prop where
  keep : Keep S S'
  n : S4.n ≤ S'.n
  cb : S'.obj S.n = some (.cells 27 [c.cells] true)
  ob : S'.obj S1.n = some (.cells 37 [[aI 0, .nl, .nl, .nl, .nl]] true)
  sb : S'.obj S2.n = some (.cells 37 [[aI m, zv, zi, .nl, .nl]] true)
  wv : Own S4.n S' zv 4 (((validOf c).take i).map fun b => [aB b])
  wi : Own S4.n S' zi 4 (((spOf c).initial.take i).map fun b => [aB b])
  ap : Apart zv zi
  ap' : Apart zi zv

/-- What the later loops keep. -/
structure Ff (c : Ci) (S S1 S2 S4 S' : Store) (sp : List AV) (z : AV) (e : Nat) (rows : List AV) : Prop where
  keep : Keep S S'
  n : S4.n ≤ S'.n
  cb : S'.obj S.n = some (.cells 27 [c.cells] true)
  ob : S'.obj S1.n = some (.cells 37 [[aI 0, .nl, .nl, .nl, .nl]] true)
  sb : S'.obj S2.n = some (.cells 37 [sp] true)
  ow : Own S4.n S' z e (rows.map fun v => [v])
theorem own_cvF {α : Type} {f : α → Value} {n : Nat} {S : Store} {x : AV} {e : Nat} {l : List α} {F : Nat → Bool} (h : Own n S x e (l.map fun a => [.v (f a)])) (hF : ∀ i b m, x = .s i b m → F i = true) : Cv (S.frz F) S.n x (aL (fun a => .v (f a)) l) := by
  rcases h with ⟨rfl, h⟩ | ⟨id, rfl, h1, h2, h3⟩
  · have : l = [] := List.map_eq_nil_iff.1 h
    subst this
    exact .nl
  · refine .s id 0 _ e _ _ (by rw [frz_of h3, hF id _ _ rfl]; rfl) (by simp) (by simp) (fun i c c2 hi hi2 => ?_) (fun i c c2 k u u2 hi hi2 hk hk2 => ?_)
    · rw [Nat.zero_add] at hi; rw [hi] at hi2; cases hi2; rfl
    · rw [Nat.zero_add] at hi; rw [hi] at hi2; cases hi2
      rw [hk] at hk2; cases hk2
      rw [List.getElem?_map] at hi
      obtain ⟨a, _, rfl⟩ := Option.map_eq_some_iff.1 hi
      cases k with
      | zero => cases hk; exact .v _
      | succ k => simp at hk
theorem own_trees {α : Type} {f : α → AV} {n : Nat} {S : Store} {x : AV} {e : Nat} {l : List α} (hf : ∀ a ∈ l, Tree (f a)) (h : Own n S x e (l.map fun a => [f a])) {k : Nat} (hk : k ≤ n) : Cv (S.frz (newer k)) S.n x (aL f l) := by
  rcases h with ⟨rfl, h⟩ | ⟨id, rfl, h1, h2, h3⟩
  · have : l = [] := List.map_eq_nil_iff.1 h
    subst this
    exact .nl
  · refine .s id 0 _ e _ _ (by rw [frz_of h3]; have : newer k id = true := by simp [newer]; omega
                               rw [this]; rfl) (by simp) (by simp) (fun i c c2 hi hi2 => ?_) (fun i c c2 k u u2 hi hi2 hk hk2 => ?_)
    · rw [Nat.zero_add] at hi; rw [hi] at hi2; cases hi2; rfl
    · rw [Nat.zero_add] at hi; rw [hi] at hi2; cases hi2
      rw [hk] at hk2; cases hk2
      rw [List.getElem?_map] at hi
      obtain ⟨a, ha, rfl⟩ := Option.map_eq_some_iff.1 hi
      cases k with
      | zero => cases hk; exact hf a (List.mem_of_getElem? ha) _ _
      | succ k => simp at hk
theorem own_cvn {n : Nat} {S0 S : Store} {x : AV} {e : Nat} {l : List Bool} (_ : S0.n ≤ n) (_ : n ≤ S.n) (h : Own n S x e (l.map fun a => [aB a])) : Cv (S.frz (newer n)) S.n x (aL aB l) :=
  own_cvF (f := fun b => .bool b) h fun i b m e => by have := h.lt e; simp [newer]; omega
theorem own_cvb {n id : Nat} {S : Store} {x : AV} {e : Nat} {l : List Bool} (_ : n ≤ S.n) (h : Own n S x e (l.map fun a => [aB a])) (hne : ∀ b m, x ≠ .s id b m) : Cv (S.frz (newBut n id)) S.n x (aL aB l) :=
  own_cvF (f := fun b => .bool b) h fun i b m e => by
    have := h.lt e
    have : i ≠ id := fun q => hne b m (by rw [e, q])
    simp [newBut, this]; omega

theorem ans12 {c : Ci} (hc : c.ok) : Ans Try.prog 12 [c.av] (.t [(spaceB c).1.av, aI (spaceB c).2]) := by
  intro S
  refine ACalls.tree (calls12 ?_)
  have hll := hc.llen
  unfold m12
  have bz : ∀ {S : Store} {K : AV → Store → Prop}, bld [(0, 1), (1, 1), (2, 1), (3, 1), (4, 1)] [(.v (.int .i64 0)), .nl, .nl, .nl, .nl] [] S K = K (.a [aI 0, .nl, .nl, .nl, .nl]) S := bld_of rfl
  refine boxA_of rfl fun S1 k1 n1 o1 => ?_
  refine boxA_of rfl fun S2 k2 n2 o2 => ?_
  have k2' := k1.trans k2
  have p2 : S2.obj S.n = _ := (k2.2 _ (by omega)).trans o1
  rw [ldN_p (n := 8) p2 rfl]
  refine callF_ans (ans27 hc) ?_
  rw [un_not, onB_v]
  refine gd_of (fun h1 => ?_) (fun h1 => ?_)
  · rw [bz]
    refine stA_of o2 rfl rfl fun S3 n3 o3 f3 => ?_
    rw [ldN_p (n := 5) o3 rfl]
    rw [Bool.not_eq_true'] at h1
    refine ⟨_, rfl, k2'.st (by omega) n3 f3, ?_⟩
    rw [spaceB, if_pos h1]
    exact cv_t2 cv_sp0 (.v _)
  have h1 : c.right = true := by simpa using h1
  have h1' : ¬ c.right = false := by rw [h1]; decide
  obtain ⟨g1, g2, g3⟩ := gr_inp h1
  have hR := right_c.1 h1
  have hin := hR.1
  rw [shift_p, ld1_p p2 rfl rfl, shift_p, ld1_p p2 rfl rfl, lenS_pL, bin_add (by omega) (by omega), ← g1, bin_gtr, onB_v]
  refine gd_of (fun h2 => ?_) (fun h2 => ?_)
  · rw [bz]
    refine stA_of o2 rfl rfl fun S3 n3 o3 f3 => ?_
    rw [ldN_p (n := 5) o3 rfl]
    refine ⟨_, rfl, k2'.st (by omega) n3 f3, ?_⟩
    rw [spaceB, if_neg h1', if_pos (of_decide_eq_true h2)]
    exact cv_t2 cv_sp0 (.v _)
  have h2 : ¬ 10 < c.gr.inputs := of_decide_eq_false h2
  obtain ⟨m, hm⟩ := Int.eq_ofNat_of_zero_le g2
  have hm10 : m ≤ 10 := by omega
  have hgt : c.gr.inputs.toNat = m := by rw [hm]; rfl
  have hres : spaceB c = (spOf c, 0) := by rw [spaceB, if_neg h1', if_neg h2]
  rw [hres]
  have hN1 : 2 ^ m ≤ 1024 := Nat.pow_le_pow_right (by decide) (show m ≤ 10 by omega)
  have hpow : ((2 : Int) ^ m) = ((2 ^ m : Nat) : Int) := by rw [Int.natCast_pow]; rfl
  rw [show c.gr.inputs = (m : Int) from hm, bld_of (cs := [aI m, .nl, .nl, .nl, .nl]) rfl]
  refine boxA_of rfl fun S3 k3 n3 o3 => ?_
  refine stA_of o3 rfl rfl fun S4 n4 o4 f4 => ?_
  have k4 : Keep S S4 := (k2'.trans k3).st (by omega) n4 f4
  have fr4 : Fv c S S1 S2 S4 S4 m .nl .nl 0 := ⟨k4, Nat.le_refl _, (f4 _ (by omega)).trans ((k3.2 _ (by omega)).trans p2), (f4 _ (by omega)).trans ((k3.2 _ (by omega)).trans o2), o4, Own.nl _ _ _, Own.nl _ _ _, (fun _ _ _ _ _ e => by cases e), (fun _ _ _ _ _ e => by cases e)⟩
  have hvalid : validOf c = (List.range (2 ^ m)).map fun s : Nat => c.cons.all (isB c s) := by
    rw [validOf, hgt]
    apply List.map_congr_left
    intro s hs
    exact (valid_eq h1 (by omega) (by rw [hgt]; exact List.mem_range.1 hs) hR.2.2.2.2.2.2.2.2.2.2.1).symm
  have hvl : (validOf c).length = 2 ^ m := by rw [hvalid]; simp
  have hinit : (spOf c).initial = (List.range (2 ^ m)).map fun s : Nat => (validOf c).getD s false && begB c s := by simp only [spOf, hgt]
  have hil : (spOf c).initial.length = 2 ^ m := by rw [hinit]; simp
  refine loop12_0 (fun y S' => ∃ (i : Nat) (zv zi : AV), y = aI i ∧ i ≤ 2 ^ m ∧ Fv c S S1 S2 S4 S' m zv zi i)
    (fun y _ => 2 ^ m - ((intA y).getD 0).toNat) ⟨0, .nl, .nl, rfl, Nat.zero_le _, fr4⟩ ?_
  rintro _ S5 ⟨i, zv, zi, rfl, hi, fr⟩ KE hKE
  have hk4 := k4.1
  have h5n := fr.n
  unfold b12_0
  rw [bin_shl1 (by omega), hpow, bin_lss, onB_v]
  refine gd_of (fun hlt => ?_) (fun hge => ?_)
  · have hlt : i < 2 ^ m := by
      have : ((i : Int) < ((2 ^ m : Nat) : Int)) := of_decide_eq_true hlt
      omega
    have hadd : ∀ K : AV → Store → Prop, ∀ S, bin .add 0 (.v (.int .i64 (i : Int))) (.v (.int .i64 1)) S K = K (aI (i + 1 : Nat)) S := fun K S => bin_add (by omega) (by omega) 0
    have hv : (validOf c)[i]? = some (c.cons.all (isB c i)) := by rw [hvalid]; simp [hlt]
    have hvg : (validOf c).getD i false = c.cons.all (isB c i) := by rw [List.getD_eq_getElem?_getD, hv]; rfl
    have hi2 : (spOf c).initial[i]? = some (c.cons.all (isB c i) && begB c i) := by
      rw [hinit, List.getElem?_map, List.getElem?_range hlt]
      show some ((validOf c).getD i false && begB c i) = _
      rw [hvg]
    rw [ldN_p (n := 8) fr.cb rfl, shift_p, ld1_p fr.cb rfl rfl]
    refine callF_ans (ans30 hc (s := i) hc.cons.1 hc.cons.2) ?_
    rw [shift_p, ld1_p fr.sb rfl rfl]
    refine bsl1 rfl (fun _ h => by cases h) ?_
    refine fr.wv.app (by omega) (c := [aB (c.cons.all (isB c i))]) rfl (by rw [List.length_map, List.length_take]; omega) (fun z6 S6 w6 b6 hz6 => ?_) rfl
    obtain ⟨m6, hm6⟩ := hz6
    have n6 := b6.1
    have k6 : ∀ x, x < S4.n → S6.obj x = S5.obj x := fun x hx => b6.2 x (by omega) (fun b m e => by have := fr.wv.lt e; omega)
    rw [shift_p]
    refine stF_of ((k6 S2.n (by omega)).trans fr.sb) (by simp) (by rw [hm6]; rfl) fun S7 n7 o7 f7 => ?_
    have w7 : Own S4.n S7 z6 4 _ := w6.st (id := S2.n) (fun b m e => by rw [hm6] at e; injection e; omega) n7 f7
    have wi7 : Own S4.n S7 zi 4 _ := (fr.wi.but b6 fr.ap).st (id := S2.n) (fun b m e => by have := fr.wi.lt e; omega) n7 f7
    have ap7 : Apart zi z6 := fun x b m b' m' e e' => by
      rw [hm6] at e'; injection e' with e1
      have := fr.wi.lt e
      omega
    have c7 := (f7 S.n (by omega)).trans ((k6 S.n (by omega)).trans fr.cb)
    refine ⟨_, fun T hT => by rw [shift_p]; exact ⟨rfl, rfl⟩, zi, fun T hT => by rw [ld1_p ((hT.2 _ (by omega)).trans o7) rfl rfl]; exact ⟨rfl, rfl⟩, ?_⟩
    have step : ∀ b, (c.cons.all (isB c i) && begB c i) = b → appS 4 1 1 zi (.l [[aB b]]) S7 fun v T => ∃ q50 : AV, (∀ T' : Store, Keep T T' → shift (.p S2.n 0 0) 2 T' fun v51 S => v51 = q50 ∧ S = T') ∧ stN 1 q50 v T fun _ T => bin .add 0 (aI i) (.v (.int .i64 1)) T fun v' T => KE 138 (env12_0 (.p S.n 0 0) (.p S1.n 0 0) (aI m) (.p S2.n 0 0) v') T := fun b hb => by
      refine wi7.app (by omega) (c := [aB b]) rfl (by rw [List.length_map, List.length_take]; omega) (fun z8 S8 w8 b8 hz8 => ?_) rfl
      obtain ⟨m8, hm8⟩ := hz8
      have n8 := b8.1
      have k8 : ∀ x, x < S4.n → S8.obj x = S7.obj x := fun x hx => b8.2 x (by omega) (fun b m e => by have := wi7.lt e; omega)
      refine ⟨_, fun T hT => by rw [shift_p]; exact ⟨rfl, rfl⟩, ?_⟩
      refine stF_of ((k8 S2.n (by omega)).trans o7) (by simp) (by rw [hm8]; rfl) fun S9 n9 o9 f9 => ?_
      rw [hadd]
      have old : ∀ x, x < S4.n → x ≠ S2.n → S9.obj x = S5.obj x := fun x hx hne => (f9 x hne).trans ((k8 x hx).trans ((f7 x hne).trans (k6 x hx)))
      refine hKE _ _ ⟨i + 1, z6, z8, rfl, hlt, ⟨by have := fr.keep.1; omega, fun x hx => (old x (by omega) (by omega)).trans (fr.keep.2 x hx)⟩, by omega, (old _ (by omega) (by omega)).trans fr.cb, (old _ (by omega) (by omega)).trans fr.ob, o9, ?_, ?_, fun x b m b' m' e e' => ?_, fun x b m b' m' e e' => ?_⟩ (by simp [intA]; omega)
      · rw [List.take_add_one, hv, List.map_append]
        exact (w7.but b8 ap7).st (id := S2.n) (fun b m e => by rw [hm6] at e; injection e; omega) n9 f9
      · rw [List.take_add_one, hi2, hb, List.map_append]
        exact w8.st (id := S2.n) (fun b m e => by rw [hm8] at e; injection e; omega) n9 f9
      · rw [hm8] at e'; injection e' with e1
        have := w7.lt e
        omega
      · rw [hm8] at e; injection e with e1
        have := w7.lt e'
        omega
    rw [onB_v]
    refine gd_of (fun h3 => ?_) (fun h3 => ?_)
    · refine ⟨_, fun T hT => by rw [ldN_p (n := 8) ((hT.2 _ (by omega)).trans c7) rfl]; exact ⟨rfl, rfl⟩, _, fun T hT => callF_ans (ans31 hll hin.1 (by omega) (by omega)) ⟨rfl, rfl⟩, _, fun T hT => ⟨rfl, rfl⟩, _, fun T hT => bsl1 rfl (fun _ h => by cases h) ⟨rfl, rfl⟩, ?_⟩
      exact step _ (by rw [h3, Bool.true_and])
    · refine ⟨_, fun T hT => ⟨rfl, rfl⟩, _, fun T hT => bsl1 rfl (fun _ h => by cases h) ⟨rfl, rfl⟩, ?_⟩
      exact step _ (by rw [h3, Bool.false_and])
  · have hge : i = 2 ^ m := by
      have : ¬ ((i : Int) < ((2 ^ m : Nat) : Int)) := of_decide_eq_false hge
      omega
    subst hge
    have hfl : c.fair.length ≤ 2000 := hR.2.2.2.2.2.1
    have hspf : (spOf c).fair = c.fair.map fun l => (List.range (2 ^ m)).map fun s : Nat => (validOf c).getD s false && isB c s l := by
      simp only [spOf, hgt]
      apply List.map_congr_left
      intro l hl
      apply List.map_congr_left
      intro s hs
      rw [isB_eq h1 (by omega) (by rw [hgt]; exact List.mem_range.1 hs) (List.all_eq_true.1 hR.2.2.2.2.2.2.2.2.2.2.2.1 l hl)]
    have hfln : (spOf c).fair.length = c.fair.length := by rw [hspf, List.length_map]
    have wv := fr.wv
    have wi := fr.wi
    rw [List.take_of_length_le (by omega)] at wv wi
    -- the lists are told as trees
    refine loopw12_1 (fun y1 y2 y4 y5 y8 S' => y1 = .p S.n 0 0 ∧ y2 = .p S1.n 0 0 ∧ y4 = aI m ∧ y5 = .p S2.n 0 0 ∧ ∃ (k : Nat) (zf : AV), y8 = aI k ∧ k ≤ c.fair.length ∧ Ff c S S1 S2 S4 S' [aI m, aL aB (validOf c), aL aB (spOf c).initial, .nl, zf] zf 33 (((spOf c).fair.take k).map fun v => aL aB v))
      (fun _ _ _ _ y _ => c.fair.length - ((intA y).getD 0).toNat) ⟨_, _, _, _, _, _, Wk.row (newer S4.n) fr.sb (by simp [newer]; omega) (es2 := [[aI m, aL aB (validOf c), aL aB (spOf c).initial, .nl, .nl]]) ⟨rfl, fun i c1 c2 e1 e2 => ?_⟩, rfl, rfl, rfl, rfl, 0, .nl, rfl, Nat.zero_le _, ?_⟩ ?_
    · match i with
      | 0 =>
        cases e1; cases e2
        refine ⟨rfl, fun k u u2 hk hk2 => ?_⟩
        match k with
        | 0 => cases hk; cases hk2; exact .v _
        | 1 => cases hk; cases hk2; exact (own_cvn hk4 h5n wv)
        | 2 => cases hk; cases hk2; exact (own_cvn hk4 h5n wi)
        | 3 | 4 => cases hk; cases hk2; exact .nl'
        | k + 5 => simp at hk
      | i + 1 => simp at e1
    · have hlow : ∀ x, x < S4.n → x ≠ S2.n → (S5.tell (newer S4.n) S2.n (.cells 37 [[aI m, aL aB (validOf c), aL aB (spOf c).initial, .nl, .nl]] true)).obj x = S5.obj x := fun x hx hne => tell_ne hne (by simp [newer]; omega)
      refine ⟨⟨by rw [tell_n]; exact fr.keep.1, fun x hx => (hlow x (by omega) (by omega)).trans (fr.keep.2 x hx)⟩, by rw [tell_n]; exact fr.n, (hlow _ (by omega) (by omega)).trans fr.cb, (hlow _ (by omega) (by omega)).trans fr.ob, tell_id, Own.nl _ _ _⟩
    clear wv wi fr h5n hi S5 KE hKE
    rintro _ _ _ _ _ S5 ⟨rfl, rfl, rfl, rfl, k, zf, rfl, hk, fr⟩ KE hKE
    unfold b12_1
    have h5n := fr.n
    rw [shift_p, ld1_p fr.cb rfl rfl, lenS_aL, bin_lss, onB_v]
    refine gd_of (fun hlt => ?_) (fun hge => ?_)
    · have hlt : k < c.fair.length := by simpa using hlt
      have hlf : k < (spOf c).fair.length := by omega
      have hml := List.getElem_mem hlt
      have hrow : (spOf c).fair[k] = (List.range (2 ^ m)).map fun s : Nat => (validOf c).getD s false && isB c s c.fair[k] := by simp only [hspf, List.getElem_map]
      refine loop12_2 (fun y9 y10 S' => ∃ i : Nat, y10 = aI i ∧ i ≤ 2 ^ m ∧ Ff c S S1 S2 S4 S' [aI m, aL aB (validOf c), aL aB (spOf c).initial, .nl, zf] zf 33 (((spOf c).fair.take k).map fun v => aL aB v) ∧
          Own S4.n S' y9 4 (((spOf c).fair[k].take i).map fun b => [aB b]) ∧ Apart y9 zf)
        (fun _ y _ => 2 ^ m - ((intA y).getD 0).toNat) ⟨0, rfl, Nat.zero_le _, fr, Own.nl _ _ _, fun _ _ _ _ _ e => by cases e⟩ ?_
      clear fr h5n S5
      rintro y9 _ S5 ⟨i, rfl, hi, fr, w9, ap9⟩ KE2 hKE2
      unfold b12_2
      have h5n := fr.n
      rw [bin_shl1 (by omega), hpow, bin_lss, onB_v]
      refine gd_of (fun hl2 => ?_) (fun hg2 => ?_)
      · have hl2 : i < 2 ^ m := by
          have : ((i : Int) < ((2 ^ m : Nat) : Int)) := of_decide_eq_true hl2
          omega
        have kT : ∀ {T : Store} {x : Nat} {o : AObj}, Keep S5 T → x < S5.n → S5.obj x = some o → T.obj x = some o := fun hT hx ho => (hT.2 _ hx).trans ho
        have hget : (spOf c).fair[k][i]? = some ((validOf c).getD i false && isB c i c.fair[k]) := by rw [hrow, List.getElem?_map, List.getElem?_range hl2]; rfl
        have hvi : (validOf c)[i]'(by omega) = (validOf c).getD i false := by simp [List.getD_eq_getElem?_getD, hvl, hl2]
        have step : ∀ b, ((validOf c).getD i false && isB c i c.fair[k]) = b → appS 4 1 1 y9 (.l [[aB b]]) S5 fun v T => bin .add 0 (aI i) (.v (.int .i64 1)) T fun v' T => KE2 138 (env12_2 (.p S.n 0 0) (.p S1.n 0 0) (aI m) (.p S2.n 0 0) (aI k) v v') T := fun b hb => by
          refine w9.app (by omega) (c := [aB b]) rfl (by rw [List.length_map, List.length_take]; omega) (fun z8 S8 w8 b8 hz8 => ?_) rfl
          obtain ⟨m8, hm8⟩ := hz8
          have n8 := b8.1
          have k8 : ∀ x, x < S4.n → S8.obj x = S5.obj x := fun x hx => b8.2 x (by omega) (fun b m e => by have := w9.lt e; omega)
          rw [bin_add (by omega) (by omega)]
          refine hKE2 _ _ _ ⟨i + 1, rfl, hl2, ⟨⟨by have := fr.keep.1; omega, fun x hx => (k8 x (by omega)).trans (fr.keep.2 x hx)⟩, by omega, (k8 _ (by omega)).trans fr.cb, (k8 _ (by omega)).trans fr.ob, (k8 _ (by omega)).trans fr.sb, fr.ow.but b8 ap9⟩, ?_, fun x b m b' m' e e' => ?_⟩ (by simp [intA]; omega)
          · rw [List.take_add_one, hget, hb, List.map_append]
            exact w8
          · rw [hm8] at e; injection e with e1
            have := fr.ow.lt e'
            omega
        refine ⟨_, fun T hT => by rw [shift_p]; exact ⟨rfl, rfl⟩, _, fun T hT => by rw [ld1_p (kT hT (by omega) fr.sb) rfl rfl]; exact ⟨rfl, rfl⟩, _, fun T hT => by rw [ixS_aL (by omega)]; exact ⟨rfl, rfl⟩, _, fun T hT => by rw [ld1_q]; exact ⟨rfl, rfl⟩, ?_⟩
        rw [hvi, onB_v]
        refine gd_of (fun h3 => ?_) (fun h3 => ?_)
        · refine ⟨_, fun T hT => by rw [ldN_p (n := 8) (kT hT (by omega) fr.cb) rfl]; exact ⟨rfl, rfl⟩, _, fun T hT => by rw [shift_p]; exact ⟨rfl, rfl⟩, _, fun T hT => by rw [ld1_p (kT hT (by omega) fr.cb) rfl rfl]; exact ⟨rfl, rfl⟩, _, fun T hT => by rw [ixS_aL hlt]; exact ⟨rfl, rfl⟩, _, fun T hT => by rw [ld1_q]; exact ⟨rfl, rfl⟩,
            _, fun T hT => callF_ans (ans29 hc (hc.fair.1 _ hml)) ⟨rfl, rfl⟩, _, fun T hT => ⟨rfl, rfl⟩, _, fun T hT => bsl1 rfl (fun _ h => by cases h) ⟨rfl, rfl⟩, ?_⟩
          exact step _ (by rw [h3, Bool.true_and])
        · refine ⟨_, fun T hT => ⟨rfl, rfl⟩, _, fun T hT => bsl1 rfl (fun _ h => by cases h) ⟨rfl, rfl⟩, ?_⟩
          exact step _ (by rw [h3, Bool.false_and])
      · have hge : i = 2 ^ m := by
          have : ¬ ((i : Int) < ((2 ^ m : Nat) : Int)) := of_decide_eq_false hg2
          omega
        subst hge
        rw [List.take_of_length_le (by rw [hrow]; simp)] at w9
        rw [shift_p, ld1_p fr.sb rfl rfl]
        have h9one : y9.one = true := by rcases w9 with ⟨rfl, _⟩ | ⟨id, rfl, _⟩ <;> rfl
        have h9A : ∀ cs, y9 ≠ .a cs := by rcases w9 with ⟨rfl, _⟩ | ⟨id, rfl, _⟩ <;> (intro cs h; cases h)
        refine bsl1 h9one h9A ?_
        refine fr.ow.app (by omega) (c := [y9]) rfl (by rw [List.length_map, List.length_map, List.length_take]; omega) (fun z8 S8 w8 b8 hz8 => ?_) rfl
        obtain ⟨m8, hm8⟩ := hz8
        have n8 := b8.1
        have k8 : ∀ x, x < S4.n → S8.obj x = S5.obj x := fun x hx => b8.2 x (by omega) (fun b m e => by have := fr.ow.lt e; omega)
        have w98 : Own S4.n S8 y9 4 _ := w9.but b8 (fun x b m b' m' e e' => ap9 x b' m' b m e' e)
        rw [shift_p]
        refine stF_of ((k8 S2.n (by omega)).trans fr.sb) (by simp) (by rw [hm8]; rfl) fun S9 n9 o9 f9 => ?_
        rw [bin_add (by omega) (by omega)]
        have w99 : Own S4.n S9 y9 4 _ := w98.st (id := S2.n) (fun b m e => by have := w98.lt e; omega) n9 f9
        have w89 := w8.st (id := S2.n) (fun b m e => by rw [hm8] at e; injection e; omega) n9 f9
        have hne9 : ∀ b m', y9 ≠ .s S5.n b m' := fun b m' e => by have := w9.lt e; omega
        obtain ⟨id, e8, h8a, h8b, h8o⟩ := w89.ix (i := 0) (by simp)
        have hid : id = S5.n := by rw [hm8] at e8; injection e8 with e; exact e.symm
        subst hid
        have htk : (spOf c).fair.take (k + 1) = (spOf c).fair.take k ++ [(spOf c).fair[k]] := by rw [List.take_add_one, List.getElem?_eq_getElem hlf]; rfl
        refine hKE _ _ _ _ _ S9 _ _ _ _ _ _ (Wk.row (newBut S4.n S5.n) h8o (by simp [newBut]) (es2 := (((spOf c).fair.take (k + 1)).map fun v => aL aB v).map fun v => [v]) ?_) ⟨rfl, rfl, rfl, rfl, k + 1, z8, rfl, hlt, ?_⟩ (by simp [intA]; omega)
        · rw [htk, List.map_append, List.map_append]
          refine RowsCv.snoc (fun r hr u hu => ?_) rfl (fun k' u u2 e1 e2 => ?_)
          · simp only [List.mem_map] at hr
            obtain ⟨x, ⟨v, _, rfl⟩, rfl⟩ := hr
            obtain rfl := List.mem_singleton.1 hu
            exact treeB _
          · match k' with
            | 0 => cases e1; cases e2; exact own_cvb (by omega) w99 hne9
            | k' + 1 => simp at e1
        · have old : ∀ x, x < S4.n → x ≠ S2.n → (S9.tell (newBut S4.n S5.n) S5.n (.cells 33 ((((spOf c).fair.take (k + 1)).map fun v => aL aB v).map fun v => [v]) true)).obj x = S5.obj x := fun x hx hne => (tell_ne (by omega) (by simp [newBut]; omega)).trans ((f9 x hne).trans (k8 x hx))
          refine ⟨⟨by rw [tell_n]; have := fr.keep.1; omega, fun x hx => (old x (by omega) (by omega)).trans (fr.keep.2 x hx)⟩, by rw [tell_n]; omega, (old _ (by omega) (by omega)).trans fr.cb, (old _ (by omega) (by omega)).trans fr.ob, (tell_ne (by omega) (by simp [newBut]; omega)).trans o9, ?_⟩
          refine .inr ⟨S5.n, ?_, by omega, by rw [tell_n]; omega, tell_id⟩
          rw [e8, htk]
          simp
          omega
    · have hge : k = c.fair.length := by
        have : ¬ ((k : Int) < (c.fair.length : Int)) := of_decide_eq_false hge
        omega
      subst hge
      have wf := fr.ow
      rw [List.take_of_length_le (by omega)] at wf
      have hspn : (spOf c).next = (List.range (2 ^ m)).map fun s : Nat => if (validOf c).getD s false = true then nextL c ((valsOf c).getD s []) (validOf c) else [] := by simp only [spOf, hgt]
      have hnl : (spOf c).next.length = 2 ^ m := by rw [hspn]; simp
      refine loopw12_3 (fun y1 y2 y4 y5 y11 S' => y1 = .p S.n 0 0 ∧ y2 = .p S1.n 0 0 ∧ y4 = aI m ∧ y5 = .p S2.n 0 0 ∧ ∃ (k : Nat) (zn : AV), y11 = aI k ∧ k ≤ 2 ^ m ∧ Ff c S S1 S2 S4 S' [aI m, aL aB (validOf c), aL aB (spOf c).initial, zn, aL (aL aB) (spOf c).fair] zn 24 (((spOf c).next.take k).map fun v => aL aI v))
        (fun _ _ _ _ y _ => 2 ^ m - ((intA y).getD 0).toNat) ⟨_, _, _, _, _, _, Wk.row (newer S4.n) fr.sb (by simp [newer]; omega) (es2 := [[aI m, aL aB (validOf c), aL aB (spOf c).initial, .nl, aL (aL aB) (spOf c).fair]]) ⟨rfl, fun i c1 c2 e1 e2 => ?_⟩, rfl, rfl, rfl, rfl, 0, .nl, rfl, Nat.zero_le _, ?_⟩ ?_
      · match i with
        | 0 =>
          cases e1; cases e2
          refine ⟨rfl, fun k u u2 hk hk2 => ?_⟩
          match k with
          | 0 => cases hk; cases hk2; exact .v _
          | 1 => cases hk; cases hk2; exact treeB _ _ _
          | 2 => cases hk; cases hk2; exact treeB _ _ _
          | 3 => cases hk; cases hk2; exact .nl'
          | 4 => cases hk; cases hk2; exact own_trees (fun _ _ => treeB _) (by rw [List.map_map] at wf; exact wf) (by omega)
          | k + 5 => simp at hk
        | i + 1 => simp at e1
      · have hlow : ∀ x, x < S4.n → x ≠ S2.n → (S5.tell (newer S4.n) S2.n (.cells 37 [[aI m, aL aB (validOf c), aL aB (spOf c).initial, .nl, aL (aL aB) (spOf c).fair]] true)).obj x = S5.obj x := fun x hx hne => tell_ne hne (by simp [newer]; omega)
        refine ⟨⟨by rw [tell_n]; exact fr.keep.1, fun x hx => (hlow x (by omega) (by omega)).trans (fr.keep.2 x hx)⟩, by rw [tell_n]; exact fr.n, (hlow _ (by omega) (by omega)).trans fr.cb, (hlow _ (by omega) (by omega)).trans fr.ob, tell_id, Own.nl _ _ _⟩
      clear wf fr h5n hk S5 KE hKE zf
      rintro _ _ _ _ _ S5 ⟨rfl, rfl, rfl, rfl, k, zn, rfl, hk, fr⟩ KE hKE
      unfold b12_3
      have h5n := fr.n
      rw [bin_shl1 (by omega), hpow, bin_lss, onB_v]
      refine gd_of (fun hlt => ?_) (fun hge => ?_)
      · have hlt : k < 2 ^ m := by
          have : ((k : Int) < ((2 ^ m : Nat) : Int)) := of_decide_eq_true hlt
          omega
        have hlf : k < (spOf c).next.length := by omega
        have hrow : (spOf c).next[k] = if (validOf c).getD k false = true then nextL c ((valsOf c).getD k []) (validOf c) else [] := by simp only [hspn, List.getElem_map, List.getElem_range]
        have htk : (spOf c).next.take (k + 1) = (spOf c).next.take k ++ [(spOf c).next[k]] := by rw [List.take_add_one, List.getElem?_eq_getElem hlf]; rfl
        rw [ldN_p (n := 8) fr.cb rfl]
        refine callF_ans (ans11 hc k) ?_
        rw [afterB_eq h1 (by omega) (by rw [hgt]; exact hlt)]
        obtain ⟨a0, a1⟩ := afterV_le c ((valsOf c).getD k []) c.latches.length
        obtain ⟨aq, aq1, aq2⟩ := afterV_div c ((valsOf c).getD k []) c.latches.length
        have hml : c.inputs.toNat + c.latches.length = m := by omega
        have hin10 : c.inputs.toNat ≤ 10 := by omega
        generalize hA : afterV c ((valsOf c).getD k []) c.latches.length = a at *
        have hbnd : ∀ x, x < 2 ^ c.inputs.toNat → a.toNat + x < 2 ^ m := fun x hx => by
          rw [aq2]
          have h1 : 2 ^ c.inputs.toNat * aq + x < 2 ^ c.inputs.toNat * (aq + 1) := by rw [Nat.mul_add]; omega
          have h2 : 2 ^ c.inputs.toNat * (aq + 1) ≤ 2 ^ c.inputs.toNat * 2 ^ c.latches.length := Nat.mul_le_mul_left _ aq1
          rw [← Nat.pow_add, hml] at h2
          have : (((2 ^ c.inputs.toNat * aq : Nat) : Int)).toNat = 2 ^ c.inputs.toNat * aq := Int.toNat_natCast _
          omega
        let nt : Nat → List Int := fun x => ((List.range x).filter fun x => (validOf c).getD (a.toNat + x) false).map fun x : Nat => a + (x : Int)
        have nts : ∀ x, nt (x + 1) = if (validOf c).getD (a.toNat + x) false = true then nt x ++ [a + (x : Int)] else nt x := fun x => by
          simp only [nt, List.range_succ, List.filter_append, List.map_append]
          by_cases hq : (validOf c).getD (a.toNat + x) false = true
          · rw [if_pos hq, List.filter_cons, if_pos hq]; rfl
          · rw [if_neg hq, List.filter_cons, if_neg hq, List.filter_nil, List.map_nil, List.append_nil]
        have ntl : ∀ x, (nt x).length ≤ x := fun x => by
          simp only [nt, List.length_map]
          have := List.length_filter_le (fun x => (validOf c).getD (a.toNat + x) false) (List.range x)
          simpa using this
        have hN : nextL c ((valsOf c).getD k []) (validOf c) = nt (2 ^ c.inputs.toNat) := by simp only [nextL, hA, nt]
        have hp2 : 2 ^ c.inputs.toNat ≤ 1024 := Nat.pow_le_pow_right (by decide) hin10
        have hpi : ((2 : Int) ^ c.inputs.toNat) = ((2 ^ c.inputs.toNat : Nat) : Int) := by rw [Int.natCast_pow]; rfl
        have hci : aI c.inputs = aI (c.inputs.toNat : Int) := by rw [Int.toNat_of_nonneg hin.1]
        refine loop12_4 (fun y12 y14 S' => ∃ x : Nat, y14 = aI x ∧ x ≤ 2 ^ c.inputs.toNat ∧ (0 < x → (validOf c).getD k false = true) ∧ Ff c S S1 S2 S4 S' [aI m, aL aB (validOf c), aL aB (spOf c).initial, zn, aL (aL aB) (spOf c).fair] zn 24 (((spOf c).next.take k).map fun v => aL aI v) ∧
            Own S4.n S' y12 3 ((nt x).map fun b => [aI b]) ∧ Apart y12 zn)
          (fun _ y _ => 2 ^ c.inputs.toNat - ((intA y).getD 0).toNat) ⟨0, rfl, Nat.zero_le _, fun h => by omega, fr, Own.nl _ _ _, fun _ _ _ _ _ e => by cases e⟩ ?_
        clear fr h5n S5
        rintro y12 _ S5 ⟨x, rfl, hx, hx0, fr, w9, ap9⟩ KE4 hKE4
        have h5n := fr.n
        have fin : nt x = (spOf c).next[k] → shift (.p S2.n 0 0) 3 S5 fun v137 T => ld1 v137 T fun v138 T => bslN 24 1 1 [.nl] [(0, y12)] T fun v139 T => appS 24 1 24 v138 v139 T fun v140 T => shift (.p S2.n 0 0) 3 T fun v141 T => stN 1 v141 v140 T fun v142 T => bin .add 0 (aI k) (.v (Go.Value.int Go.IntKind.i64 1)) T fun v143 T => KE 138 (env12_3 (.p S.n 0 0) (.p S1.n 0 0) (aI m) (.p S2.n 0 0) v143) T := fun hxr => by
          rw [hxr] at w9
          rw [shift_p, ld1_p fr.sb rfl rfl]
          have h9one : y12.one = true := by rcases w9 with ⟨rfl, _⟩ | ⟨id, rfl, _⟩ <;> rfl
          have h9A : ∀ cs, y12 ≠ .a cs := by rcases w9 with ⟨rfl, _⟩ | ⟨id, rfl, _⟩ <;> (intro cs h; cases h)
          refine bsl1 h9one h9A ?_
          refine fr.ow.app (by omega) (c := [y12]) rfl (by rw [List.length_map, List.length_map, List.length_take]; omega) (fun z8 S8 w8 b8 hz8 => ?_) rfl
          obtain ⟨m8, hm8⟩ := hz8
          have n8 := b8.1
          have k8 : ∀ x, x < S4.n → S8.obj x = S5.obj x := fun x hx => b8.2 x (by omega) (fun b m e => by have := fr.ow.lt e; omega)
          have w98 : Own S4.n S8 y12 3 _ := w9.but b8 (fun x b m b' m' e e' => ap9 x b' m' b m e' e)
          rw [shift_p]
          refine stF_of ((k8 S2.n (by omega)).trans fr.sb) (by simp) (by rw [hm8]; rfl) fun S9 n9 o9 f9 => ?_
          rw [bin_add (by omega) (by omega)]
          have w99 : Own S4.n S9 y12 3 _ := w98.st (id := S2.n) (fun b m e => by have := w98.lt e; omega) n9 f9
          have w89 := w8.st (id := S2.n) (fun b m e => by rw [hm8] at e; injection e; omega) n9 f9
          have hne9 : ∀ b m', y12 ≠ .s S5.n b m' := fun b m' e => by have := w9.lt e; omega
          obtain ⟨id, e8, h8a, h8b, h8o⟩ := w89.ix (i := 0) (by simp)
          have hid : id = S5.n := by rw [hm8] at e8; injection e8 with e; exact e.symm
          subst hid
          refine hKE _ _ _ _ _ S9 _ _ _ _ _ _ (Wk.row (newBut S4.n S5.n) h8o (by simp [newBut]) (es2 := (((spOf c).next.take (k + 1)).map fun v => aL aI v).map fun v => [v]) ?_) ⟨rfl, rfl, rfl, rfl, k + 1, z8, rfl, hlt, ?_⟩ (by simp [intA]; omega)
          · rw [htk, List.map_append, List.map_append]
            refine RowsCv.snoc (fun r hr u hu => ?_) rfl (fun k' u u2 e1 e2 => ?_)
            · simp only [List.mem_map] at hr
              obtain ⟨x, ⟨v, _, rfl⟩, rfl⟩ := hr
              obtain rfl := List.mem_singleton.1 hu
              exact treeI _
            · match k' with
              | 0 =>
                cases e1; cases e2
                exact own_cvF (f := fun i => .int .i64 i) w99 fun i b m e => by
                  have := w99.lt e
                  have : i ≠ S5.n := fun q => hne9 b m (by rw [e, q])
                  simp [newBut, this]; omega
              | k' + 1 => simp at e1
          · have old : ∀ x, x < S4.n → x ≠ S2.n → (S9.tell (newBut S4.n S5.n) S5.n (.cells 24 ((((spOf c).next.take (k + 1)).map fun v => aL aI v).map fun v => [v]) true)).obj x = S5.obj x := fun x hx hne => (tell_ne (by omega) (by simp [newBut]; omega)).trans ((f9 x hne).trans (k8 x hx))
            refine ⟨⟨by rw [tell_n]; have := fr.keep.1; omega, fun x hx => (old x (by omega) (by omega)).trans (fr.keep.2 x hx)⟩, by rw [tell_n]; omega, (old _ (by omega) (by omega)).trans fr.cb, (old _ (by omega) (by omega)).trans fr.ob, (tell_ne (by omega) (by simp [newBut]; omega)).trans o9, ?_⟩
            refine .inr ⟨S5.n, ?_, by omega, by rw [tell_n]; omega, tell_id⟩
            rw [e8, htk]
            simp
            omega
        unfold b12_4
        rw [shift_p, ld1_p fr.cb rfl rfl, hci, bin_shl1 (by omega), hpi, bin_lss, onB_v]
        have hvk : (validOf c)[k]'(by omega) = (validOf c).getD k false := by simp [List.getD_eq_getElem?_getD, hvl, hlt]
        refine gd_of (fun hl2 => ?_) (fun hg2 => ?_)
        · have hl2 : x < 2 ^ c.inputs.toNat := by
            have : ((x : Int) < ((2 ^ c.inputs.toNat : Nat) : Int)) := of_decide_eq_true hl2
            omega
          rw [shift_p, ld1_p fr.sb rfl rfl, ixS_aL (by omega), ld1_q, hvk, onB_v]
          refine gd_of (fun h3 => ?_) (fun h3 => ?_)
          · have hb := hbnd x hl2
            have hax : a + (x : Int) = ((a.toNat + x : Nat) : Int) := by omega
            have hvx : (validOf c)[a.toNat + x]'(by omega) = (validOf c).getD (a.toNat + x) false := by simp [List.getD_eq_getElem?_getD, hvl, hb]
            rw [shift_p, ld1_p fr.sb rfl rfl, bin_add (by omega) (by omega), hax, ixS_aL (by omega), ld1_q, hvx, onB_v]
            refine gd_of (fun h4 => ?_) (fun h4 => ?_)
            · rw [bin_add (by omega) (by omega)]
              refine bsl1 rfl (fun _ h => by cases h) ?_
              refine w9.app (by omega) (c := [aI (a + (x : Int))]) rfl (by have := ntl x; rw [List.length_map]; omega) (fun z8 S8 w8 b8 hz8 => ?_) rfl
              obtain ⟨m8, hm8⟩ := hz8
              have n8 := b8.1
              have k8 : ∀ x, x < S4.n → S8.obj x = S5.obj x := fun x hx => b8.2 x (by omega) (fun b m e => by have := w9.lt e; omega)
              rw [bin_add (by omega) (by omega)]
              refine hKE4 _ _ _ ⟨x + 1, rfl, hl2, fun _ => h3, ⟨⟨by have := fr.keep.1; omega, fun x hx => (k8 x (by omega)).trans (fr.keep.2 x hx)⟩, by omega, (k8 _ (by omega)).trans fr.cb, (k8 _ (by omega)).trans fr.ob, (k8 _ (by omega)).trans fr.sb, fr.ow.but b8 ap9⟩, ?_, fun x b m b' m' e e' => ?_⟩ (by simp [intA]; omega)
              · rw [nts, if_pos h4, List.map_append]
                exact w8
              · rw [hm8] at e; injection e with e1
                have := fr.ow.lt e'
                omega
            · rw [bin_add (by omega) (by omega)]
              refine hKE4 _ _ _ ⟨x + 1, rfl, hl2, fun _ => h3, fr, ?_, ap9⟩ (by simp [intA]; omega)
              rw [nts, if_neg (by rw [h4]; decide)]
              exact w9
          · refine fin ?_
            have : x = 0 := by
              rcases Nat.eq_zero_or_pos x with h | h
              · exact h
              · rw [hx0 h] at h3; cases h3
            subst this
            rw [hrow, h3, if_neg (by decide)]
            rfl
        · have hge : x = 2 ^ c.inputs.toNat := by
            have : ¬ ((x : Int) < ((2 ^ c.inputs.toNat : Nat) : Int)) := of_decide_eq_false hg2
            omega
          refine fin ?_
          have hpos : 0 < 2 ^ c.inputs.toNat := Nat.two_pow_pos _
          rw [hrow, hx0 (by omega), if_pos rfl, hN, hge]
      · have hge : k = 2 ^ m := by
          have : ¬ ((k : Int) < ((2 ^ m : Nat) : Int)) := of_decide_eq_false hge
          omega
        subst hge
        have hnx := fr.ow
        rw [List.take_of_length_le (by omega)] at hnx
        rw [ldN_p (n := 5) fr.sb rfl]
        refine stA_of fr.ob rfl rfl fun S10 n10 o10 f10 => ?_
        rw [ldN_p (n := 5) o10 rfl]
        have w3 : Own S.n S10 zn 24 _ := (hnx.st (id := S1.n) (fun b m e => by have := hnx.lt e; omega) n10 f10).low (by omega)
        rw [List.map_map] at w3
        have hbits : (spOf c).bits = (m : Int) := hm
        refine ⟨_, rfl, fr.keep.st (by omega) n10 f10, cv_t2 (cv_a5 (by rw [hbits]; exact .v _) (treeB _ _ _) (treeB _ _ _) (own_tree (fun _ _ => treeI _) w3) (Tree.aL (fun _ _ => treeB _) _ _)) (.v _)⟩
end Go.Proofs.Ytolgpokppnajdaa.G
set_option linter.unusedVariables false
set_option linter.unusedSimpArgs false
namespace Go.Proofs.Ytolgpokppnajdaa.G
open Go Go.Ab

theorem pickV_rng {l : List Int} (hl : ∀ x ∈ l, 0 ≤ x ∧ x < 65536) {k : Nat} {n : Int} (hn : 0 < n) : 0 ≤ pickV l k n ∧ pickV l k n < n := by
  unfold pickV
  split
  · omega
  · rename_i h
    have hlt : k < l.length := by omega
    have hx := hl _ (List.getElem_mem hlt)
    rw [show l.getD k 0 = l[k] by simp [List.getD_eq_getElem?_getD, hlt], Int.tmod_eq_emod_of_nonneg hx.1]
    exact ⟨Int.emod_nonneg _ (by omega), Int.emod_lt_of_pos _ hn⟩
/-- What is kept while a circuit is made. -/
structure Fm (S : Store) (l : List Int) (S' : Store) (k : Nat) (cs : List AV) : Prop where
  keep : Keep S S'
  n : S.n + 4 ≤ S'.n
  lo : S'.obj S.n = some (.cells 30 [[aL aW16 l]] true)
  ro : S'.obj (S.n + 1) = some (.cells 27 [[aI 0, .nl, .nl, .nl, .nl, .nl, .nl, .nl]] true)
  ao : S'.obj (S.n + 2) = some (.cells 3 [[aI k]] true)
  co : S'.obj (S.n + 3) = some (.cells 27 [cs] true)
abbrev pickF (S : Store) : AV := .f (.func 14) [] [.p (S.n + 2) 0 0, .p S.n 0 0]
theorem Fm.old {S S' S'' : Store} {l : List Int} {k : Nat} {cs : List AV} (h : Fm S l S' k cs) (hn : S'.n ≤ S''.n) (ho : ∀ x, x < S.n + 4 → S''.obj x = S'.obj x) : Fm S l S'' k cs :=
  ⟨⟨by have := h.keep.1; omega, fun x hx => (ho x (by omega)).trans (h.keep.2 x hx)⟩, by have := h.n; omega, (ho _ (by omega)).trans h.lo, (ho _ (by omega)).trans h.ro, (ho _ (by omega)).trans h.ao, (ho _ (by omega)).trans h.co⟩
theorem Fm.pick {S S' : Store} {l : List Int} {k : Nat} {cs : List AV} (h : Fm S l S' k cs) (hl : ∀ x ∈ l, 0 ≤ x ∧ x < 65536) {n : Int} (hn : 0 < n) (hk : k ≤ 1000) {K X : AV → Store → Prop}
    (kk : ∀ S'', Fm S l S'' (k + 1) cs → S''.n = S'.n → (∀ x, x ≠ S.n + 2 → S''.obj x = S'.obj x) → K (aI (pickV l k n)) S'') : callV Try.prog (pickF S) [aI n] S' K X := by
  refine .inl (pick_of h.ao h.lo (by omega) hl hn (by omega) fun S'' n2 o2 f2 => kk S'' ⟨⟨by have := h.keep.1; omega, fun x hx => (f2 x (by omega)).trans (h.keep.2 x hx)⟩, by have := h.n; omega, (f2 _ (by omega)).trans h.lo, (f2 _ (by omega)).trans h.ro, o2, (f2 _ (by omega)).trans h.co⟩ n2 f2)
theorem Fm.st {S S' : Store} {l : List Int} {k j : Nat} {cs : List AV} {u : AV} (h : Fm S l S' k cs) (hj : j < cs.length) (hu : u.one = true) {K : AV → Store → Prop}
    (kk : ∀ S'', Fm S l S'' k (cs.set j u) → S''.n = S'.n → (∀ x, x ≠ S.n + 3 → S''.obj x = S'.obj x) → K .j S'') : stN 1 (.p (S.n + 3) 0 j) u S' K :=
  stF_of h.co hj hu fun S'' n2 o2 f2 => kk S'' ⟨⟨by have := h.keep.1; omega, fun x hx => (f2 x (by omega)).trans (h.keep.2 x hx)⟩, by have := h.n; omega, (f2 _ (by omega)).trans h.lo, (f2 _ (by omega)).trans h.ro, (f2 _ (by omega)).trans h.ao, o2⟩ n2 f2
theorem Fm.kT {S S' T : Store} {l : List Int} {k : Nat} {cs : List AV} (h : Fm S l S' k cs) (hT : Keep S' T) : T.obj (S.n + 3) = some (.cells 27 [cs] true) := (hT.2 _ (by have := h.n; omega)).trans h.co
/-- The circuit's lists told as trees. -/
theorem Fm.wk {S S' : Store} {l : List Int} {k : Nat} {cs cs2 : List AV} (h : Fm S l S' k cs) (hl : cs.length = cs2.length) (hc : ∀ (k : Nat) (u u2 : AV), cs[k]? = some u → cs2[k]? = some u2 → Cv (S'.frz (newer (S.n + 4))) S'.n u u2) (ls : List AV) :
    ∃ S'', Wk S' ls S'' ls ∧ Fm S l S'' k cs2 ∧ S''.n = S'.n := by
  refine ⟨_, Wk.row (newer (S.n + 4)) h.co (by simp [newer]) (es2 := [cs2]) ⟨rfl, fun i c1 c2 e1 e2 => ?_⟩, ?_, rfl⟩
  · match i with
    | 0 => cases e1; cases e2; exact ⟨hl, hc⟩
    | i + 1 => simp at e1
  · have hlow : ∀ x, x < S.n + 4 → x ≠ S.n + 3 → (S'.tell (newer (S.n + 4)) (S.n + 3) (.cells 27 [cs2] true)).obj x = S'.obj x := fun x hx hne => tell_ne hne (by simp [newer]; omega)
    exact ⟨⟨h.keep.1, fun x hx => (hlow x (by omega) (by omega)).trans (h.keep.2 x hx)⟩, h.n, (hlow _ (by omega) (by omega)).trans h.lo, (hlow _ (by omega) (by omega)).trans h.ro, (hlow _ (by omega) (by omega)).trans h.ao, tell_id⟩
theorem bsl3 {e : Nat} {z u v w : AV} {S : Store} {K : AV → Store → Prop} (hu : u.one = true) (hv : v.one = true) (hw : w.one = true) (k : K (.l [[u], [v], [w]]) S) : bslN e 1 3 [z] [(0, u), (1, v), (2, w)] S K := by
  refine ⟨[u, v, w], ?_, .inr ?_⟩
  · simp [fillA, cells_of_one hu, cells_of_one hv, cells_of_one hw, spl, List.range_succ]
  · simpa [chunks, List.range_succ] using k
theorem bslA3 {e : Nat} {z1 z2 z3 u v w : AV} {S : Store} {K : AV → Store → Prop} (k : K (.l [[u, v, w]]) S) : bslN e 3 1 [z1, z2, z3] [(0, .a [u, v, w])] S K := by
  refine ⟨[u, v, w], ?_, .inr ?_⟩
  · simp [fillA, cellsOf, spl]
  · simpa [chunks] using k
theorem own_one {n : Nat} {S : Store} {x : AV} {e : Nat} {es : List (List AV)} (h : Own n S x e es) : x.one = true := by rcases h with ⟨rfl, _⟩ | ⟨id, rfl, _⟩ <;> rfl
theorem wrap16 {x : Int} (h0 : 0 ≤ x) (h1 : x < 65536) : IntKind.u16.wrap x = x := by rw [IntKind.wrap_u16]; omega
theorem _root_.Go.Ab.Own.fm {S S' S'' : Store} {x : AV} {e : Nat} {es : List (List AV)} {id : Nat} (h : Own (S.n + 4) S' x e es) (hid : id < S.n + 4) (hn : S''.n = S'.n) (ho : ∀ y, y ≠ id → S''.obj y = S'.obj y) : Own (S.n + 4) S'' x e es :=
  h.st (id := id) (fun b m e => by have := h.lt e; omega) hn ho
theorem own_cvP {n : Nat} {S : Store} {x : AV} {e : Nat} {l : List (Int × Int)} {F : Nat → Bool} {k : Nat} (h : Own n S x e (l.map fun p => [aI p.1, aI p.2])) (hF : ∀ i b m, x = .s i b m → F i = true) : Cv (S.frz F) k x (pL l) := by
  rcases h with ⟨rfl, h⟩ | ⟨id, rfl, h1, h2, h3⟩
  · have : l = [] := List.map_eq_nil_iff.1 h
    subst this
    exact .nl
  · refine .s id 0 _ e _ _ (by rw [frz_of h3, hF id _ _ rfl]; rfl) (by simp) (by simp) (fun i c c2 hi hi2 => ?_) (fun i c c2 k u u2 hi hi2 hk hk2 => ?_)
    · rw [Nat.zero_add] at hi; rw [hi] at hi2; cases hi2; rfl
    · rw [Nat.zero_add] at hi; rw [hi] at hi2; cases hi2
      rw [hk] at hk2; cases hk2
      rw [List.getElem?_map] at hi
      obtain ⟨a, _, rfl⟩ := Option.map_eq_some_iff.1 hi
      match k with
      | 0 => cases hk; exact .v _
      | 1 => cases hk; exact .v _
      | k + 2 => simp at hk
theorem own_cvI {n : Nat} {S : Store} {x : AV} {e : Nat} {l : List Int} {F : Nat → Bool} {k : Nat} (h : Own n S x e (l.map fun p => [aI p])) (hF : ∀ i b m, x = .s i b m → F i = true) : Cv (S.frz F) k x (aL aI l) := by
  rcases h with ⟨rfl, h⟩ | ⟨id, rfl, h1, h2, h3⟩
  · have : l = [] := List.map_eq_nil_iff.1 h
    subst this
    exact .nl
  · refine .s id 0 _ e _ _ (by rw [frz_of h3, hF id _ _ rfl]; rfl) (by simp) (by simp) (fun i c c2 hi hi2 => ?_) (fun i c c2 k u u2 hi hi2 hk hk2 => ?_)
    · rw [Nat.zero_add] at hi; rw [hi] at hi2; cases hi2; rfl
    · rw [Nat.zero_add] at hi; rw [hi] at hi2; cases hi2
      rw [hk] at hk2; cases hk2
      rw [List.getElem?_map] at hi
      obtain ⟨a, _, rfl⟩ := Option.map_eq_some_iff.1 hi
      match k with
      | 0 => cases hk; exact .v _
      | k + 1 => simp at hk
theorem own_cvN {n : Nat} {S : Store} {x : AV} {e : Nat} {l : List Na} {F : Nat → Bool} {k : Nat} (h : Own n S x e (l.map Na.row)) (hF : ∀ i b m, x = .s i b m → F i = true) : Cv (S.frz F) k x (nL l) := by
  rcases h with ⟨rfl, h⟩ | ⟨id, rfl, h1, h2, h3⟩
  · have : l = [] := List.map_eq_nil_iff.1 h
    subst this
    exact .nl
  · refine .s id 0 _ e _ _ (by rw [frz_of h3, hF id _ _ rfl]; rfl) (by simp) (by simp) (fun i c c2 hi hi2 => ?_) (fun i c c2 k u u2 hi hi2 hk hk2 => ?_)
    · rw [Nat.zero_add] at hi; rw [hi] at hi2; cases hi2; rfl
    · rw [Nat.zero_add] at hi; rw [hi] at hi2; cases hi2
      rw [hk] at hk2; cases hk2
      rw [List.getElem?_map] at hi
      obtain ⟨a, _, rfl⟩ := Option.map_eq_some_iff.1 hi
      unfold Na.row at hk
      match k with
      | 0 => cases hk; exact .v _
      | 1 => cases hk; exact .v _
      | 2 => cases hk; exact .v _
      | k + 3 => simp at hk
theorem _root_.Go.Ab.Own.fF {n : Nat} {S : Store} {x : AV} {e : Nat} {es : List (List AV)} (h : Own n S x e es) {m : Nat} (hm : m ≤ n) : ∀ i b k, x = .s i b k → newer m i = true := fun i b k e => by
  have := h.lt e
  simp [newer]; omega
end Go.Proofs.Ytolgpokppnajdaa.G
set_option linter.unusedVariables false
set_option linter.unusedSimpArgs false
namespace Go.Proofs.Ytolgpokppnajdaa.G
open Go Go.Ab

/-- What a made circuit's parts are to be. -/
theorem madeC_of {inp : Int} {lats : List (Int × Int)} {g : Gr} {outs bads cons fair : List Int} {b1 b2 : Bool} {t : ByteArray} (h0 : 0 ≤ inp) (h1 : inp ≤ 3) (hl1 : 1 ≤ lats.length) (hl2 : lats.length ≤ 3)
    (hg : g.right = true) (hgi : g.inputs = inp + lats.length) (hga : g.ands.length ≤ 8) (hgok : g.ok) (hlat : ∀ p ∈ lats, g.lit p.1 = true ∧ 0 ≤ p.2 ∧ p.2 ≤ 2) (ho : ∀ x ∈ outs, g.lit x = true) (hb : ∀ x ∈ bads, g.lit x = true)
    (hc : ∀ x ∈ cons, g.lit x = true) (hf : ∀ x ∈ fair, g.lit x = true) (lo : outs.length ≤ 2) (lb : bads.length ≤ 1) (lc : cons.length ≤ 1) (lf : fair.length ≤ 1)
    (ht : b2 = true → 0 < outs.length ∧ (t = ⟨#[111, 117, 116]⟩ ∨ t = ⟨#[108, 49]⟩ ∨ t = ⟨#[97, 45, 98]⟩)) :
    MadeC ⟨inp, lats, g.ands, outs, bads, cons, fair, (if b1 then [⟨108, 0, ⟨#[113]⟩⟩] else []) ++ (if b2 then [⟨111, outs.length - 1, t⟩] else [])⟩ := by
  have hvg : g.vars = inp + lats.length + 1 + g.ands.length := by unfold Gr.vars; omega
  have hi64 : ∀ {x : Int}, g.lit x = true → i64R x := fun h => by
    obtain ⟨_, _, h1, h2⟩ := lit_iff.1 h
    exact ⟨by omega, by omega⟩
  have hgr : ∀ nm, (⟨inp, lats, g.ands, outs, bads, cons, fair, nm⟩ : Ci).gr = g := fun nm => by
    show (⟨IntKind.i64.wrap (inp + lats.length), g.ands⟩ : Gr) = g
    rw [wrap64 (by omega) (by omega), ← hgi]
  have htl : b2 = true → wordB t = true ∧ t.size ≤ 100 ∧ t ≠ ⟨#[113]⟩ := fun h => by
    rcases (ht h).2 with rfl | rfl | rfl <;> exact ⟨by decide, by decide, by decide⟩
  generalize hnm : ((if b1 then [⟨108, 0, ⟨#[113]⟩⟩] else []) ++ (if b2 then [⟨111, outs.length - 1, t⟩] else []) : List Na) = nm
  have hnl : nm.length ≤ 2 := by subst hnm; cases b1 <;> cases b2 <;> simp
  have hnames : namesB ⟨inp, lats, g.ands, outs, bads, cons, fair, nm⟩ = true := by
    have e1 : nameOk ⟨inp, lats, g.ands, outs, bads, cons, fair, nm⟩ ⟨108, 0, ⟨#[113]⟩⟩ := ⟨by decide, by decide, by simp [Ci.many]; omega⟩
    have e2 : b2 = true → nameOk ⟨inp, lats, g.ands, outs, bads, cons, fair, nm⟩ ⟨111, outs.length - 1, t⟩ := fun h => ⟨(htl h).1, by have := (ht h).1; show (0 : Int) ≤ outs.length - 1; omega, by have := (ht h).1; simp [Ci.many]; omega⟩
    have e3 : nameLt ⟨108, 0, ⟨#[113]⟩⟩ ⟨111, outs.length - 1, t⟩ := .inl (by show rankI 108 < rankI 111; decide)
    simp only [namesB, decide_eq_true_eq]
    subst hnm
    cases b1 <;> cases b2
    · exact ⟨fun i h => by simp at h, fun i h => by simp at h, by simp⟩
    · refine ⟨fun i h _ => ?_, fun i h => by simp at h, by simp⟩
      match i with
      | 0 => exact e2 rfl
      | i + 1 => exact absurd (show i + 1 < 1 from h) (by omega)
    · refine ⟨fun i h _ => ?_, fun i h => by simp at h, by simp⟩
      match i with
      | 0 => exact e1
      | i + 1 => exact absurd (show i + 1 < 1 from h) (by omega)
    · refine ⟨fun i h _ => ?_, fun i h _ => ?_, ?_⟩
      · match i with
        | 0 => exact e1
        | 1 => exact e2 rfl
        | i + 2 => exact absurd (show i + 2 < 2 from h) (by omega)
      · match i with
        | 0 => exact e3
        | i + 1 => exact absurd (show i + 1 + 1 < 2 from h) (by omega)
      · have := (htl rfl).2.2
        simp only [if_true, List.cons_append, List.nil_append, List.length_cons, List.length_nil, List.take_succ_cons, List.take_zero, List.map_cons, List.map_nil, List.nodup_cons, List.mem_singleton, List.not_mem_nil, not_false_eq_true, List.nodup_nil, and_true]
        exact fun h => this (keyOf_inj h.symm)
  have hnk : ∀ x ∈ nm, 0 ≤ x.kind ∧ x.kind < 256 ∧ i64R x.pos ∧ x.text.size ≤ 9223372036854775807 := by
    subst hnm
    intro x hx
    rcases List.mem_append.1 hx with hx | hx
    · cases b1
      · simp at hx
      · have : x = ⟨108, 0, ⟨#[113]⟩⟩ := by simpa using hx
        subst this
        exact ⟨by decide, by decide, ⟨by decide, by decide⟩, by decide⟩
    · cases b2
      · simp at hx
      · have : x = ⟨111, outs.length - 1, t⟩ := by simpa using hx
        subst this
        have h2 := htl rfl
        exact ⟨by show (0 : Int) ≤ 111; decide, by show (111 : Int) < 256; decide, ⟨by show _ ≤ (outs.length : Int) - 1; omega, by show (outs.length : Int) - 1 ≤ _; omega⟩, by show t.size ≤ _; omega⟩
  refine ⟨⟨⟨by show _ ≤ inp; omega, by show inp ≤ _; omega⟩, by show lats.length ≤ _; omega, by show g.ands.length ≤ _; omega, fun p hp => ⟨hi64 (hlat p hp).1, ⟨by have := hlat p hp; omega, by have := hlat p hp; omega⟩⟩, hgok.pairs, ⟨fun x hx => hi64 (ho x hx), by show outs.length ≤ _; omega⟩, ⟨fun x hx => hi64 (hb x hx), by show bads.length ≤ _; omega⟩,
    ⟨fun x hx => hi64 (hc x hx), by show cons.length ≤ _; omega⟩, ⟨fun x hx => hi64 (hf x hx), by show fair.length ≤ _; omega⟩, hnk, by show nm.length ≤ _; omega⟩, right_c.2 ?_, ⟨h0, h1⟩, ⟨hl1, hl2⟩, hga, lo, lb, lc, lf, ⟨b1, b2, t, hnm.symm, ht⟩⟩
  rw [hgr]
  refine ⟨⟨h0, by show inp ≤ _; omega⟩, by show lats.length ≤ _; omega, by show outs.length ≤ _; omega, by show bads.length ≤ _; omega, by show cons.length ≤ _; omega, by show fair.length ≤ _; omega, hg, ?_, ?_, ?_, ?_, ?_, hnames⟩
  · refine List.all_eq_true.2 fun p hp => ?_
    obtain ⟨q1, q2, q3⟩ := hlat p hp
    simp only [latOk, q1, decide_eq_true q2, decide_eq_true q3, Bool.and_self]
  · exact List.all_eq_true.2 ho
  · exact List.all_eq_true.2 hb
  · exact List.all_eq_true.2 hc
  · exact List.all_eq_true.2 hf

theorem made9 {l : List Int} (hl : ∀ x ∈ l, 0 ≤ x ∧ x < 65536) {S : Store} : ACalls Try.prog 9 [aL aW16 l] S (fun e S' => ∃ tr, e = .ret tr ∧ S' = S ∧ ∃ c, tr = c.av ∧ MadeC c) := by
  refine ACalls.treeE (calls9 ?_)
  unfold m9
  refine box1_of rfl fun S1 k1 n1 o1 => ?_
  refine boxA_of rfl fun S2 k2 n2 o2 => ?_
  refine box1_of rfl fun S3 k3 n3 o3 => ?_
  refine st_of o3 rfl rfl fun S4 n4 o4 f4 => ?_
  refine boxA_of rfl fun S5 k5 n5 o5 => ?_
  have e1 : S1.n = S.n + 1 := n1
  have e2 : S2.n = S.n + 2 := by omega
  have e4 : S4.n = S.n + 3 := by omega
  rw [e1] at o2; rw [e2] at o3 o4 f4; rw [e4] at o5
  rw [e1, e2, e4]
  have fm : Fm S l S5 0 [aI 0, .nl, .nl, .nl, .nl, .nl, .nl, .nl] := by
    have old4 : ∀ x, x < S.n + 2 → S4.obj x = S2.obj x := fun x hx => (f4 x (by omega)).trans (k3.2 x (by omega))
    have old5 : ∀ x, x < S.n + 3 → S5.obj x = S4.obj x := fun x hx => k5.2 x (by omega)
    refine ⟨⟨by omega, fun x hx => (old5 x (by omega)).trans ((old4 x (by omega)).trans ((k2.2 x (by omega)).trans (k1.2 x hx)))⟩, by omega, ?_, ?_, (old5 _ (by omega)).trans o4, o5⟩
    · exact (old5 _ (by omega)).trans ((old4 _ (by omega)).trans ((k2.2 _ (by omega)).trans o1))
    · exact (old5 _ (by omega)).trans ((old4 _ (by omega)).trans o2)
  show callV _ (pickF S) _ _ _ _
  refine fm.pick hl (by decide) (by decide) fun S6 fm n6 f6 => ?_
  have pi := pickV_rng hl (k := 0) (n := 4) (by decide)
  generalize pickV l 0 4 = inp at *
  rw [shift_p]
  refine fm.st (by simp) rfl fun S7 fm n7 f7 => ?_
  show callV _ (pickF S) _ _ _ _
  refine fm.pick hl (by decide) (by decide) fun S8 fm n8 f8 => ?_
  have pm := pickV_rng hl (k := 1) (n := 3) (by decide)
  generalize pickV l 1 3 = m3 at *
  rw [bin_add (by omega) (by omega)]
  obtain ⟨many, hmany⟩ := Int.eq_ofNat_of_zero_le (show 0 ≤ 1 + m3 by omega)
  have hm1 : 1 ≤ many ∧ many ≤ 3 := by omega
  rw [hmany]
  show callV _ (pickF S) _ _ _ _
  refine fm.pick hl (by decide) (by decide) fun S9 fm n9 f9 => ?_
  have pr := pickV_rng hl (k := 2) (n := 9) (by decide)
  generalize pickV l 2 9 = r9 at *
  obtain ⟨r0, rfl⟩ := Int.eq_ofNat_of_zero_le pr.1
  replace fm : Fm S l S9 3 [aI inp, .nl, .nl, .nl, .nl, .nl, .nl, .nl] := fm
  show loopV _ _ _ (env9_0 (.p (S.n + 1) 0 0) (pickF S) (.p (S.n + 3) 0 0) (aI many) .nl (aI r0)) _ _
  refine loop9_0 (fun y7 y8 S' => ∃ (r k : Nat) (sd : List Int), y8 = aI r ∧ r + sd.length ≤ 8 ∧ k + r ≤ 11 ∧ Fm S l S' k [aI inp, .nl, .nl, .nl, .nl, .nl, .nl, .nl] ∧ Own (S.n + 4) S' y7 46 (sd.map fun x => [aW16 x]) ∧ ∀ x ∈ sd, 0 ≤ x ∧ x < 65536)
    (fun _ y _ => ((intA y).getD 0).toNat) ⟨r0, 3, [], rfl, by simp; omega, by omega, fm, Own.nl _ _ _, fun _ h => by cases h⟩ ?_
  rintro y7 _ S1 ⟨r, k, sd, rfl, hr, hk, fm, w7, hsd⟩ KE hKE
  unfold b9_0
  rw [bin_gtr, onB_v]
  refine gd_of (fun hgt => ?_) (fun hle => ?_)
  · have hgt : 0 < r := by have := of_decide_eq_true hgt; omega
    refine fm.pick hl (by decide) (by omega) fun S2 fm n2 f2 => ?_
    have px := pickV_rng hl (k := k) (n := 65536) (by decide)
    generalize pickV l k 65536 = x at *
    have w2 := w7.fm (by omega) n2 f2
    rw [convI_v, wrap16 px.1 px.2]
    refine bsl1 rfl (fun _ h => by cases h) ?_
    refine w2.app (by have := fm.n; omega) (c := [aW16 x]) rfl (by rw [List.length_map]; omega) (fun z S3 w3 b3 hz => ?_) rfl
    have n3 := b3.1
    have o3 : ∀ x, x < S.n + 4 → S3.obj x = S2.obj x := fun x hx => b3.2 x (by have := fm.n; omega) (fun b m e => by have := w2.lt e; omega)
    rw [bin_sub (by omega) (by omega), show (r : Int) - 1 = ((r - 1 : Nat) : Int) by omega]
    refine hKE _ _ _ ⟨r - 1, k + 1, sd ++ [x], rfl, by rw [List.length_append, List.length_singleton]; omega, by omega, fm.old n3 o3, by rw [List.map_append]; exact w3, fun a ha => ?_⟩ (by simp [intA]; omega)
    rcases List.mem_append.1 ha with ha | ha
    · exact hsd a ha
    · have : a = x := by simpa using ha
      subst this
      exact px
  have hle : r = 0 := by have := of_decide_eq_false hle; omega
  subst hle
  clear hKE KE
  rw [shift_p, ld1_p fm.co rfl rfl, bin_add (by omega) (by omega)]
  have hlen : ∀ (T : Store) (K : AV → Store → Prop), lenS y7 T K = K (aI sd.length) T := fun T K => by
    rcases w7 with ⟨rfl, e⟩ | ⟨id, rfl, _⟩
    · have : sd = [] := List.map_eq_nil_iff.1 e
      subst this; rfl
    · rw [lenS_s, List.length_map]
  obtain ⟨q7, hq7⟩ : ∃ q : Nat, ∀ (i : Nat), i < sd.length → y7 = .s q 0 sd.length ∧ q < S1.n ∧ S1.obj q = some (.cells 46 (sd.map fun x => [aW16 x]) true) := by
    rcases w7 with ⟨rfl, e⟩ | ⟨id, rfl, h1, h2, h3⟩
    · have : sd = [] := List.map_eq_nil_iff.1 e
      subst this; exact ⟨0, fun i hi => by simp at hi⟩
    · exact ⟨id, fun i _ => ⟨by rw [List.length_map], h2, h3⟩⟩
  have hmade := at15 (n := inp + many) (by omega) (by omega) hsd (by omega) (S := S1) (x1 := y7) hlen (P := fun i => .p q7 i 0) (fun T hT i hi => by
    obtain ⟨h1, h2, h3⟩ := hq7 i hi
    have h4 := (hT.2 _ h2).trans h3
    subst h1
    refine ⟨fun K => by rw [ixS_s hi h4, Nat.zero_add], fun K => by rw [ld1_p h4 (by rw [List.getElem?_map, List.getElem?_eq_getElem hi]; rfl) rfl]⟩)
  have hrt := madeTo_right (n := inp + many) (by omega) (by omega) hsd (min sd.length 40) (by omega)
  have hgok := madeTo_ok (n := inp + many) ⟨by omega, by omega⟩ hsd (by omega) (min sd.length 40)
  have hgin := madeTo_inp (inp + many) sd (min sd.length 40)
  have hmin : min sd.length 40 ≤ 8 := by omega
  generalize (madeTo (inp + many) sd (min sd.length 40)).1 = g at *
  generalize (madeTo (inp + many) sd (min sd.length 40)).2 = last at *
  obtain ⟨hg, hlast, hv1, hv2⟩ := hrt
  have hga : g.ands.length ≤ 8 := by unfold Gr.vars at hv2; omega
  refine callF_at hmade ?_
  rw [extr0, extr1]
  refine boxA_of rfl fun S2 k2 n2 o2 => ?_
  refine stA_of o2 rfl rfl fun S3 n3 o3 f3 => ?_
  have hb := fm.n
  replace fm : Fm S l S3 k _ := fm.old (by omega) fun x hx => (f3 x (by omega)).trans (k2.2 x (by omega))
  rw [shift_p, ld1_p o3 rfl rfl, shift_p]
  refine fm.st (by simp) rfl fun S4 fm n4 f4 => ?_
  have o4 := (f4 S1.n (by omega)).trans o3
  rw [ldN_p (n := 2) o4 rfl]
  refine callF_ans (ans16 hgok (by omega) (by omega)) ?_
  rw [bin_mul (by omega) (by omega)]
  have hvp : 0 < 2 * g.vars := by omega
  have plit : ∀ {x : Int}, 0 ≤ x ∧ x < 2 * g.vars → g.lit x = true := fun h => lit_iff.2 ⟨by omega, by omega, h.1, by omega⟩
  show loopV _ _ _ (env9_1 (.p (S.n + 1) 0 0) (pickF S) (.p (S.n + 3) 0 0) (aI many) (aI last) (aI (2 * g.vars)) (aI (0 : Nat))) _ _
  replace fm : Fm S l S4 k [aI inp, .nl, pL g.ands, .nl, .nl, .nl, .nl, .nl] := fm
  refine loop9_1 (fun y12 S' => ∃ (i k : Nat) (zl : AV) (lats : List (Int × Int)), y12 = aI i ∧ i ≤ many ∧ k ≤ 11 + 2 * i ∧ Fm S l S' k [aI inp, zl, pL g.ands, .nl, .nl, .nl, .nl, .nl] ∧ Own (S.n + 4) S' zl 44 (lats.map fun p => [aI p.1, aI p.2]) ∧ lats.length = i ∧ ∀ p ∈ lats, g.lit p.1 = true ∧ 0 ≤ p.2 ∧ p.2 ≤ 2)
    (fun y _ => many - ((intA y).getD 0).toNat) ⟨0, k, .nl, [], rfl, Nat.zero_le _, by omega, fm, Own.nl _ _ _, rfl, fun _ h => by cases h⟩ ?_
  rintro _ S1 ⟨i, k, zl, lats, rfl, hi, hk, fm, wl, hll, hlat⟩ KE hKE
  unfold b9_1
  rw [bin_lss, onB_v]
  refine gd_of (fun hlt => ?_) (fun hge => ?_)
  · have hlt : i < many := by have := of_decide_eq_true hlt; omega
    refine fm.pick hl hvp (by omega) fun S2 fm n2 f2 => ?_
    have pn := plit (pickV_rng hl (k := k) hvp)
    generalize pickV l k (2 * g.vars) = n at *
    have w2 := wl.fm (by omega) n2 f2
    rw [bin_eql, onB_v]
    have step : ∀ nx : Int, g.lit nx = true → ∀ (S3 : Store) (p5 : Int) (k' : Nat), 0 ≤ p5 ∧ p5 < 5 → k' ≤ 11 + 2 * (i + 1) → Fm S l S3 k' [aI inp, zl, pL g.ands, .nl, .nl, .nl, .nl, .nl] → Own (S.n + 4) S3 zl 44 (lats.map fun p => [aI p.1, aI p.2]) →
        (∃ q46 : AV, (∀ T : Store, Keep S3 T → bin .quo 0 (aI p5) (.v (.int .i64 2)) T fun v S => v = q46 ∧ S = T) ∧ ∃ q48 : AV, (∀ T : Store, Keep S3 T → bld [(0, 1), (1, 1)] [(.v (.int .i64 0)), (.v (.int .i64 0))] [(0, aI nx), (1, q46)] T fun v S => v = q48 ∧ S = T) ∧
          ∃ q50 : AV, (∀ T : Store, Keep S3 T → bslN 44 2 1 [(.v (.int .i64 0)), (.v (.int .i64 0))] [(0, q48)] T fun v S => v = q50 ∧ S = T) ∧ appS 44 2 16 zl q50 S3 fun v52 T =>
          ∃ q53 : AV, (∀ T' : Store, Keep T T' → shift (.p (S.n + 3) 0 0) 1 T' fun v S => v = q53 ∧ S = T') ∧ stN 1 q53 v52 T fun _ T => bin .add 0 (aI i) (.v (.int .i64 1)) T fun v T => KE 156 (env9_1 (.p (S.n + 1) 0 0) (pickF S) (.p (S.n + 3) 0 0) (aI many) (aI last) (aI (2 * g.vars)) v) T) := by
      intro nx hnx S3 p5 k' hp5 hk' fm w3
      have hd : 0 ≤ p5.tdiv 2 ∧ p5.tdiv 2 ≤ 2 := by rw [Int.tdiv_eq_ediv_of_nonneg hp5.1]; omega
      refine ⟨_, fun T hT => by rw [bin_quo (by decide) (by omega) (by omega)]; exact ⟨rfl, rfl⟩, _, fun T hT => by rw [bld_of (cs := [aI nx, aI (p5.tdiv 2)]) rfl]; exact ⟨rfl, rfl⟩, _, fun T hT => bslP ⟨rfl, rfl⟩, ?_⟩
      refine w3.app (by have := fm.n; omega) (c := [aI nx, aI (p5.tdiv 2)]) rfl (by rw [List.length_map]; omega) (fun z S4 w4 b4 hz => ?_) rfl
      have n4 := b4.1
      have hn3 := fm.n
      have o4 : ∀ x, x < S.n + 4 → S4.obj x = S3.obj x := fun x hx => b4.2 x (by omega) (fun b m e => by have := w3.lt e; omega)
      refine ⟨_, fun T hT => by rw [shift_p]; exact ⟨rfl, rfl⟩, ?_⟩
      replace fm := fm.old n4 o4
      refine fm.st (by simp) (own_one w4) fun S5 fm n5 f5 => ?_
      have w5 := w4.fm (by omega) n5 f5
      rw [bin_add (by omega) (by omega)]
      refine hKE _ _ ⟨i + 1, k', z, lats ++ [(nx, p5.tdiv 2)], rfl, hlt, hk', fm, by rw [List.map_append]; exact w5, by simp [hll], fun p hp => ?_⟩ (by simp [intA]; omega)
      rcases List.mem_append.1 hp with hp | hp
      · exact hlat p hp
      · have : p = (nx, p5.tdiv 2) := by simpa using hp
        subst this
        exact ⟨hnx, hd⟩
    have p5 := pickV_rng hl (k := k + 1) (n := 5) (by decide)
    refine gd_of (fun h0 => ?_) (fun h0 => ?_)
    · refine ⟨_, fun T hT => by rw [shift_p]; exact ⟨rfl, rfl⟩, zl, fun T hT => by rw [ld1_p (fm.kT hT) rfl rfl]; exact ⟨rfl, rfl⟩, ?_⟩
      refine fm.pick hl (by decide) (by omega) fun S3 fm n3 f3 => ?_
      have w3 := w2.fm (by omega) n3 f3
      refine ⟨fun T hT => by rw [ld1_p (fm.kT hT) rfl rfl]; exact ⟨rfl, rfl⟩, fun T hT => by rw [shift_p]; exact ⟨rfl, rfl⟩, ?_⟩
      exact step _ hlast S3 _ _ p5 (by omega) fm w3
    · refine ⟨_, fun T hT => by rw [shift_p]; exact ⟨rfl, rfl⟩, zl, fun T hT => by rw [ld1_p (fm.kT hT) rfl rfl]; exact ⟨rfl, rfl⟩, ?_⟩
      refine fm.pick hl (by decide) (by omega) fun S3 fm n3 f3 => ?_
      have w3 := w2.fm (by omega) n3 f3
      refine ⟨fun T hT => by rw [ld1_p (fm.kT hT) rfl rfl]; exact ⟨rfl, rfl⟩, fun T hT => by rw [shift_p]; exact ⟨rfl, rfl⟩, ?_⟩
      exact step _ pn S3 _ _ p5 (by omega) fm w3
  have hge : i = many := by have := of_decide_eq_false hge; omega
  subst hge
  clear hKE KE
  refine fm.pick hl (by decide) (by omega) fun S2 fm n2 f2 => ?_
  have w2 := wl.fm (by omega) n2 f2
  have p3 := pickV_rng hl (k := k) (n := 3) (by decide)
  generalize pickV l k 3 = r3 at *
  obtain ⟨r0, rfl⟩ := Int.eq_ofNat_of_zero_le p3.1
  obtain ⟨S3, wk3, fm3, n3⟩ := fm.wk (cs2 := [aI inp, pL lats, pL g.ands, .nl, .nl, .nl, .nl, .nl]) rfl (fun k' u u2 e1 e2 => by
    match k' with
    | 0 => cases e1; cases e2; exact .v _
    | 1 => cases e1; cases e2; exact own_cvP w2 (w2.fF (Nat.le_refl _))
    | 2 => cases e1; cases e2; exact treeP _ _ _
    | 3 | 4 | 5 | 6 | 7 => cases e1; cases e2; exact .nl'
    | k + 8 => simp at e1) (env9_2 (.p (S.n + 1) 0 0) (pickF S) (.p (S.n + 3) 0 0) (aI (2 * g.vars)) (aI r0))
  show loopV _ _ _ (env9_2 (.p (S.n + 1) 0 0) (pickF S) (.p (S.n + 3) 0 0) (aI (2 * g.vars)) (aI r0)) _ _
  refine loopw9_2 (fun y2 y4 y5 y11 y14 S' => y2 = .p (S.n + 1) 0 0 ∧ y4 = pickF S ∧ y5 = .p (S.n + 3) 0 0 ∧ y11 = aI (2 * g.vars) ∧ ∃ (r k : Nat) (zo : AV) (outs : List Int), y14 = aI r ∧ outs.length + r ≤ 2 ∧ k + r ≤ 20 ∧ Fm S l S' k [aI inp, pL lats, pL g.ands, zo, .nl, .nl, .nl, .nl] ∧ Own (S.n + 4) S' zo 3 (outs.map fun p => [aI p]) ∧ ∀ x ∈ outs, g.lit x = true)
    (fun _ _ _ _ y _ => ((intA y).getD 0).toNat) ⟨_, _, _, _, _, S3, wk3, rfl, rfl, rfl, rfl, r0, k + 1, .nl, [], rfl, by simp; omega, by omega, fm3, Own.nl _ _ _, fun _ h => by cases h⟩ ?_
  rintro _ _ _ _ _ S1 ⟨rfl, rfl, rfl, rfl, r, k, zo, outs, rfl, hor, hk, fm, wo, hou⟩ KE hKE
  unfold b9_2
  rw [bin_gtr, onB_v]
  refine gd_of (fun hgt => ?_) (fun hle => ?_)
  · have hgt : 0 < r := by have := of_decide_eq_true hgt; omega
    refine ⟨_, fun T hT => by rw [shift_p]; exact ⟨rfl, rfl⟩, zo, fun T hT => by rw [ld1_p (fm.kT hT) rfl rfl]; exact ⟨rfl, rfl⟩, ?_⟩
    refine fm.pick hl hvp (by omega) fun S2 fm n2 f2 => ?_
    have pn := plit (pickV_rng hl (k := k) hvp)
    generalize pickV l k (2 * g.vars) = n at *
    have w2 := wo.fm (by omega) n2 f2
    refine ⟨fun T hT => by rw [ld1_p (fm.kT hT) rfl rfl]; exact ⟨rfl, rfl⟩, fun T hT => by rw [shift_p]; exact ⟨rfl, rfl⟩, _, fun T hT => bsl1 rfl (fun _ h => by cases h) ⟨rfl, rfl⟩, ?_⟩
    refine w2.app (by have := fm.n; omega) (c := [aI n]) rfl (by rw [List.length_map]; omega) (fun z S4 w4 b4 hz => ?_) rfl
    have n4 := b4.1
    have hn3 := fm.n
    have o4 : ∀ x, x < S.n + 4 → S4.obj x = S2.obj x := fun x hx => b4.2 x (by omega) (fun b m e => by have := w2.lt e; omega)
    refine ⟨_, fun T hT => by rw [shift_p]; exact ⟨rfl, rfl⟩, ?_⟩
    replace fm := fm.old n4 o4
    refine fm.st (by simp) (own_one w4) fun S5 fm n5 f5 => ?_
    have w5 := w4.fm (by omega) n5 f5
    rw [bin_sub (by omega) (by omega), show (r : Int) - 1 = ((r - 1 : Nat) : Int) by omega]
    refine hKE _ _ _ _ _ _ _ _ _ _ _ _ (Wk.refl _ _) ⟨rfl, rfl, rfl, rfl, r - 1, k + 1, z, outs ++ [n], rfl, by rw [List.length_append, List.length_singleton]; omega, by omega, fm, by rw [List.map_append]; exact w5, fun p hp => ?_⟩ (by simp [intA]; omega)
    rcases List.mem_append.1 hp with hp | hp
    · exact hou p hp
    · have : p = n := by simpa using hp
      subst this
      exact pn
  have hle : r = 0 := by have := of_decide_eq_false hle; omega
  subst hle
  clear hKE KE
  -- the last loop and what stands behind
  have tail : ∀ (S' : Store) (k : Nat) (zo zb zc : AV) (bads cons : List Int) (r0 : Nat), r0 ≤ 1 → k ≤ 25 → Fm S l S' k [aI inp, pL lats, pL g.ands, zo, zb, zc, .nl, .nl] → Own (S.n + 4) S' zo 3 (outs.map fun p => [aI p]) → Own (S.n + 4) S' zb 3 (bads.map fun p => [aI p]) → Own (S.n + 4) S' zc 3 (cons.map fun p => [aI p]) →
      bads.length ≤ 1 → cons.length ≤ 1 → (∀ x ∈ bads, g.lit x = true) → (∀ x ∈ cons, g.lit x = true) →
      loopV lv9_3 (vc Try.prog (c9.at_ [1, 1, 1, 1, 1, 1, 1, 1, 1, 1, 1, 1, 1, 1, 1, 0, 1, 0, 0]) (ms9.drop 4)) 156 (env9_3 (.p (S.n + 1) 0 0) (pickF S) (.p (S.n + 3) 0 0) (aI (2 * g.vars)) (aI r0)) S'
        (blockK 6 (seqK (vc Try.prog (c9.at_ [1, 1, 1, 1, 1, 1, 1, 1, 1, 1, 1, 1, 1, 1, 1, 1]) (ms9.drop 4)) (bodyK Try.prog r9 fun e S' => ∃ r tr, e = .ret r ∧ Keep S S' ∧ Cv (S'.frz (newer S.n)) S.n r tr ∧ ∃ c : Ci, tr = c.av ∧ MadeC c))) := by
    intro S' k zo zb zc bads cons r0 hr0 hk fm wo wb wc lb lc hbl hcl
    obtain ⟨S3, wk3, fm3, n3⟩ := fm.wk (cs2 := [aI inp, pL lats, pL g.ands, aL aI outs, aL aI bads, aL aI cons, .nl, .nl]) rfl (fun k' u u2 e1 e2 => by
      match k' with
      | 0 => cases e1; cases e2; exact .v _
      | 1 => cases e1; cases e2; exact treeP _ _ _
      | 2 => cases e1; cases e2; exact treeP _ _ _
      | 3 => cases e1; cases e2; exact own_cvI wo (wo.fF (Nat.le_refl _))
      | 4 => cases e1; cases e2; exact own_cvI wb (wb.fF (Nat.le_refl _))
      | 5 => cases e1; cases e2; exact own_cvI wc (wc.fF (Nat.le_refl _))
      | 6 | 7 => cases e1; cases e2; exact .nl'
      | k + 8 => simp at e1) (env9_3 (.p (S.n + 1) 0 0) (pickF S) (.p (S.n + 3) 0 0) (aI (2 * g.vars)) (aI r0))
    refine loopw9_3 (fun y2 y4 y5 y11 y15 S' => y2 = .p (S.n + 1) 0 0 ∧ y4 = pickF S ∧ y5 = .p (S.n + 3) 0 0 ∧ y11 = aI (2 * g.vars) ∧ ∃ (r k : Nat) (zf : AV) (fair : List Int), y15 = aI r ∧ fair.length + r ≤ 1 ∧ k + r ≤ 26 ∧ Fm S l S' k [aI inp, pL lats, pL g.ands, aL aI outs, aL aI bads, aL aI cons, zf, .nl] ∧ Own (S.n + 4) S' zf 3 (fair.map fun p => [aI p]) ∧ ∀ x ∈ fair, g.lit x = true)
      (fun _ _ _ _ y _ => ((intA y).getD 0).toNat) ⟨_, _, _, _, _, S3, wk3, rfl, rfl, rfl, rfl, r0, k, .nl, [], rfl, by simp; omega, by omega, fm3, Own.nl _ _ _, fun _ h => by cases h⟩ ?_
    rintro _ _ _ _ _ S1 ⟨rfl, rfl, rfl, rfl, r, k, zf, fair, rfl, hfr, hk, fm, wf, hfl⟩ KE hKE
    unfold b9_3
    rw [bin_gtr, onB_v]
    refine gd_of (fun hgt => ?_) (fun hle => ?_)
    · have hgt : 0 < r := by have := of_decide_eq_true hgt; omega
      refine ⟨_, fun T hT => by rw [shift_p]; exact ⟨rfl, rfl⟩, zf, fun T hT => by rw [ld1_p (fm.kT hT) rfl rfl]; exact ⟨rfl, rfl⟩, ?_⟩
      refine fm.pick hl hvp (by omega) fun S2 fm n2 f2 => ?_
      have pn := plit (pickV_rng hl (k := k) hvp)
      generalize pickV l k (2 * g.vars) = n at *
      have w2 := wf.fm (by omega) n2 f2
      refine ⟨fun T hT => by rw [ld1_p (fm.kT hT) rfl rfl]; exact ⟨rfl, rfl⟩, fun T hT => by rw [shift_p]; exact ⟨rfl, rfl⟩, _, fun T hT => bsl1 rfl (fun _ h => by cases h) ⟨rfl, rfl⟩, ?_⟩
      refine w2.app (by have := fm.n; omega) (c := [aI n]) rfl (by rw [List.length_map]; omega) (fun z S4 w4 b4 hz => ?_) rfl
      have n4 := b4.1
      have hn3 := fm.n
      have o4 : ∀ x, x < S.n + 4 → S4.obj x = S2.obj x := fun x hx => b4.2 x (by omega) (fun b m e => by have := w2.lt e; omega)
      refine ⟨_, fun T hT => by rw [shift_p]; exact ⟨rfl, rfl⟩, ?_⟩
      replace fm := fm.old n4 o4
      refine fm.st (by simp) (own_one w4) fun S5 fm n5 f5 => ?_
      have w5 := w4.fm (by omega) n5 f5
      rw [bin_sub (by omega) (by omega), show (r : Int) - 1 = ((r - 1 : Nat) : Int) by omega]
      refine hKE _ _ _ _ _ _ _ _ _ _ _ _ (Wk.refl _ _) ⟨rfl, rfl, rfl, rfl, r - 1, k + 1, z, fair ++ [n], rfl, by rw [List.length_append, List.length_singleton]; omega, by omega, fm, by rw [List.map_append]; exact w5, fun p hp => ?_⟩ (by simp [intA]; omega)
      rcases List.mem_append.1 hp with hp | hp
      · exact hfl p hp
      · have : p = n := by simpa using hp
        subst this
        exact pn
    have hle : r = 0 := by have := of_decide_eq_false hle; omega
    subst hle
    clear hKE KE
    have fin : ∀ (S1 : Store) (k : Nat) (zn : AV) (b1 b2 : Bool) (t : ByteArray), Fm S l S1 k [aI inp, pL lats, pL g.ands, aL aI outs, aL aI bads, aL aI cons, zf, zn] → Own (S.n + 4) S1 zf 3 (fair.map fun p => [aI p]) → (b2 = true → 0 < outs.length ∧ (t = ⟨#[111, 117, 116]⟩ ∨ t = ⟨#[108, 49]⟩ ∨ t = ⟨#[97, 45, 98]⟩)) →
        Own (S.n + 4) S1 zn 54 (((if b1 then [⟨108, 0, ⟨#[113]⟩⟩] else []) ++ (if b2 then [⟨111, outs.length - 1, t⟩] else []) : List Na).map Na.row) →
        ldN 8 (.p (S.n + 3) 0 0) S1 fun v S1 => stN 8 (.p (S.n + 1) 0 0) v S1 fun _ S2 => ldN 8 (.p (S.n + 1) 0 0) S2 fun v _ => ∃ r tr, AEnd.ret v = .ret r ∧ Keep S S2 ∧ Cv (S2.frz (newer S.n)) S.n r tr ∧ ∃ c : Ci, tr = c.av ∧ MadeC c := by
      intro S1 k zn b1 b2 t fm wf ht wn
      rw [ldN_p (n := 8) fm.co rfl]
      refine stA_of fm.ro rfl rfl fun S2 n2 o2 f2 => ?_
      rw [ldN_p (n := 8) o2 rfl]
      have wf2 := wf.fm (id := S.n + 1) (by omega) n2 f2
      have wn2 := wn.fm (id := S.n + 1) (by omega) n2 f2
      refine ⟨_, _, rfl, fm.keep.st (by omega) n2 f2, ?_, ⟨inp, lats, g.ands, outs, bads, cons, fair, (if b1 then [⟨108, 0, ⟨#[113]⟩⟩] else []) ++ (if b2 then [⟨111, outs.length - 1, t⟩] else [])⟩, rfl, madeC_of pi.1 (by omega) (by omega) (by omega) hg (by rw [hgin, hll]) hga hgok hlat hou hbl hcl hfl (by omega) lb lc (by omega) ht⟩
      refine .a _ _ rfl fun k' u u2 e1 e2 => ?_
      match k' with
      | 0 => cases e1; cases e2; exact .v _
      | 1 => cases e1; cases e2; exact treeP _ _ _
      | 2 => cases e1; cases e2; exact treeP _ _ _
      | 3 => cases e1; cases e2; exact treeI _ _ _
      | 4 => cases e1; cases e2; exact treeI _ _ _
      | 5 => cases e1; cases e2; exact treeI _ _ _
      | 6 => cases e1; cases e2; exact own_cvI wf2 (wf2.fF (by omega))
      | 7 => cases e1; cases e2; exact own_cvN wn2 (wn2.fF (by omega))
      | k + 8 => simp at e1
    -- the second name
    have snd : ∀ (S1 : Store) (k : Nat) (zn : AV) (b1 : Bool), k ≤ 100 → Fm S l S1 k [aI inp, pL lats, pL g.ands, aL aI outs, aL aI bads, aL aI cons, zf, zn] → Own (S.n + 4) S1 zf 3 (fair.map fun p => [aI p]) → Apart zn zf →
        Own (S.n + 4) S1 zn 54 (((if b1 then [⟨108, 0, ⟨#[113]⟩⟩] else []) : List Na).map Na.row) → 0 < outs.length →
        (∃ q182 : AV, (∀ T : Store, Keep S1 T → shift (.p (S.n + 3) 0 0) 7 T fun v S => v = q182 ∧ S = T) ∧ ∃ q184 : AV, (∀ T : Store, Keep S1 T → ld1 q182 T fun v S => v = q184 ∧ S = T) ∧ ∃ q186 : AV, (∀ T : Store, Keep S1 T → shift (.p (S.n + 3) 0 0) 3 T fun v S => v = q186 ∧ S = T) ∧
          ∃ q188 : AV, (∀ T : Store, Keep S1 T → ld1 q186 T fun v S => v = q188 ∧ S = T) ∧ ∃ q190 : AV, (∀ T : Store, Keep S1 T → lenS q188 T fun v S => v = q190 ∧ S = T) ∧ ∃ q192 : AV, (∀ T : Store, Keep S1 T → bin .sub 0 q190 (.v (.int .i64 1)) T fun v S => v = q192 ∧ S = T) ∧
          ∃ q194 : AV, (∀ T : Store, Keep S1 T → bslN 9 1 3 [(.v (.string ByteArray.empty))] [(0, (.v (.string { data := #[111, 117, 116] }))), (1, (.v (.string { data := #[108, 49] }))), (2, (.v (.string { data := #[97, 45, 98] })))] T fun v S => v = q194 ∧ S = T) ∧
          callV Try.prog (pickF S) [(.v (.int .i64 3))] S1 (fun v196 S1 => (∀ T : Store, Keep S1 T → bslN 9 1 3 [(.v (.string ByteArray.empty))] [(0, (.v (.string { data := #[111, 117, 116] }))), (1, (.v (.string { data := #[108, 49] }))), (2, (.v (.string { data := #[97, 45, 98] })))] T fun v S => v = q194 ∧ S = T) ∧
            (∀ T : Store, Keep S1 T → bin .sub 0 q190 (.v (.int .i64 1)) T fun v S => v = q192 ∧ S = T) ∧ (∀ T : Store, Keep S1 T → lenS q188 T fun v S => v = q190 ∧ S = T) ∧ (∀ T : Store, Keep S1 T → ld1 q186 T fun v S => v = q188 ∧ S = T) ∧ (∀ T : Store, Keep S1 T → shift (.p (S.n + 3) 0 0) 3 T fun v S => v = q186 ∧ S = T) ∧
            (∀ T : Store, Keep S1 T → ld1 q182 T fun v S => v = q184 ∧ S = T) ∧ (∀ T : Store, Keep S1 T → shift (.p (S.n + 3) 0 0) 7 T fun v S => v = q182 ∧ S = T) ∧
            ∃ q204 : AV, (∀ T : Store, Keep S1 T → ixS 9 1 q194 v196 T fun v S => v = q204 ∧ S = T) ∧ ∃ q206 : AV, (∀ T : Store, Keep S1 T → ld1 q204 T fun v S => v = q206 ∧ S = T) ∧
            ∃ q208 : AV, (∀ T : Store, Keep S1 T → bld [(0, 1), (1, 1), (2, 1)] [(.v (.int .u8 0)), (.v (.int .i64 0)), (.v (.string ByteArray.empty))] [(0, (.v (.int .u8 111))), (1, q192), (2, q206)] T fun v S => v = q208 ∧ S = T) ∧
            ∃ q210 : AV, (∀ T : Store, Keep S1 T → bslN 54 3 1 [(.v (.int .u8 0)), (.v (.int .i64 0)), (.v (.string ByteArray.empty))] [(0, q208)] T fun v S => v = q210 ∧ S = T) ∧ appS 54 3 32 q184 q210 S1 fun v212 S1 =>
            ∃ q213 : AV, (∀ T : Store, Keep S1 T → shift (.p (S.n + 3) 0 0) 7 T fun v S => v = q213 ∧ S = T) ∧ stN 1 q213 v212 S1 fun _ S1 =>
            ldN 8 (.p (S.n + 3) 0 0) S1 fun v S1 => stN 8 (.p (S.n + 1) 0 0) v S1 fun _ S2 => ldN 8 (.p (S.n + 1) 0 0) S2 fun v _ => ∃ r tr, AEnd.ret v = .ret r ∧ Keep S S2 ∧ Cv (S2.frz (newer S.n)) S.n r tr ∧ ∃ c : Ci, tr = c.av ∧ MadeC c) (fun _ _ => False)) := by
      intro S1 k zn b1 hk fm wf hap wn hol
      have hsub : ∀ (T : Store) (K : AV → Store → Prop), bin .sub 0 (aI outs.length) (.v (.int .i64 1)) T K = K (aI (outs.length - 1)) T := fun T K => bin_sub (by omega) (by omega) 0
      refine ⟨_, fun T hT => by rw [shift_p]; exact ⟨rfl, rfl⟩, zn, fun T hT => by rw [ld1_p (fm.kT hT) rfl rfl]; exact ⟨rfl, rfl⟩, _, fun T hT => by rw [shift_p]; exact ⟨rfl, rfl⟩, aL aI outs, fun T hT => by rw [ld1_p (fm.kT hT) rfl rfl]; exact ⟨rfl, rfl⟩, aI outs.length, fun T hT => by rw [lenS_aL]; exact ⟨rfl, rfl⟩, _, fun T hT => by rw [hsub]; exact ⟨rfl, rfl⟩,
        _, fun T hT => bsl3 rfl rfl rfl ⟨rfl, rfl⟩, ?_⟩
      refine fm.pick hl (by decide) (by omega) fun S2 fm n2 f2 => ?_
      have p3 := pickV_rng hl (k := k) (n := 3) (by decide)
      generalize pickV l k 3 = x at *
      obtain ⟨x, rfl⟩ := Int.eq_ofNat_of_zero_le p3.1
      have wf2 := wf.fm (by omega) n2 f2
      have wn2 := wn.fm (by omega) n2 f2
      refine ⟨fun T hT => bsl3 rfl rfl rfl ⟨rfl, rfl⟩, fun T hT => by rw [hsub]; exact ⟨rfl, rfl⟩, fun T hT => by rw [lenS_aL]; exact ⟨rfl, rfl⟩, fun T hT => by rw [ld1_p (fm.kT hT) rfl rfl]; exact ⟨rfl, rfl⟩, fun T hT => by rw [shift_p]; exact ⟨rfl, rfl⟩, fun T hT => by rw [ld1_p (fm.kT hT) rfl rfl]; exact ⟨rfl, rfl⟩, fun T hT => by rw [shift_p]; exact ⟨rfl, rfl⟩, ?_⟩
      obtain ⟨t, ht, hx⟩ : ∃ t : ByteArray, (t = ⟨#[111, 117, 116]⟩ ∨ t = ⟨#[108, 49]⟩ ∨ t = ⟨#[97, 45, 98]⟩) ∧ ∀ (T : Store) (K : AV → Store → Prop), ixS 9 1 (.l [[.v (.string { data := #[111, 117, 116] })], [.v (.string { data := #[108, 49] })], [.v (.string { data := #[97, 45, 98] })]]) (aI x) T K = K (.q [.v (.string t)] 0) T := by
        match x, p3 with
        | 0, _ => exact ⟨_, .inl rfl, fun T K => ixS_l (i := 0) (by simp) rfl⟩
        | 1, _ => exact ⟨_, .inr (.inl rfl), fun T K => ixS_l (i := 1) (by simp) rfl⟩
        | 2, _ => exact ⟨_, .inr (.inr rfl), fun T K => ixS_l (i := 2) (by simp) rfl⟩
        | x + 3, h => omega
      refine ⟨_, fun T hT => by rw [hx]; exact ⟨rfl, rfl⟩, _, fun T hT => by rw [ld1_q]; exact ⟨rfl, rfl⟩, _, fun T hT => by rw [bld_of (cs := [.v (.int .u8 111), aI (outs.length - 1), .v (.string t)]) rfl]; exact ⟨rfl, rfl⟩, _, fun T hT => bslA3 ⟨rfl, rfl⟩, ?_⟩
      refine wn2.app (by have := fm.n; omega) (c := [.v (.int .u8 111), aI (outs.length - 1), .v (.string t)]) rfl (by cases b1 <;> simp) (fun z S4 w4 b4 hz => ?_) rfl
      have n4 := b4.1
      have hn3 := fm.n
      have o4 : ∀ x, x < S.n + 4 → S4.obj x = S2.obj x := fun x hx => b4.2 x (by omega) (fun b m e => by have := wn2.lt e; omega)
      refine ⟨_, fun T hT => by rw [shift_p]; exact ⟨rfl, rfl⟩, ?_⟩
      replace fm := fm.old n4 o4
      have wf4 := wf2.but b4 hap
      refine fm.st (by simp) (own_one w4) fun S5 fm n5 f5 => ?_
      refine fin S5 _ z b1 true t fm (wf4.fm (by omega) n5 f5) (fun _ => ⟨hol, ht⟩) ?_
      have w5 := w4.fm (by omega) n5 f5
      rw [List.map_append]
      exact w5
    refine fm.pick hl (by decide) (by omega) fun S2 fm n2 f2 => ?_
    have wf2 := wf.fm (by omega) n2 f2
    have p3 := pickV_rng hl (k := k) (n := 3) (by decide)
    generalize pickV l k 3 = x3 at *
    rw [bin_gtr, onB_v]
    refine gd_of (fun hx => ?_) (fun hx => ?_)
    · rw [shift_p, ld1_p fm.co rfl rfl, bld_of (cs := [.v (.int .u8 108), aI 0, .v (.string ⟨#[113]⟩)]) rfl]
      refine bslA3 ?_
      refine (Own.nl (S.n + 4) S2 54).app (by have := fm.n; omega) (c := [.v (.int .u8 108), aI 0, .v (.string ⟨#[113]⟩)]) rfl (by simp) (fun z S4 w4 b4 hz => ?_) rfl
      have n4 := b4.1
      have hn3 := fm.n
      have o4 : ∀ x, x < S2.n → S4.obj x = S2.obj x := fun x hx => b4.2 x (by omega) (fun b m e => by cases e)
      rw [shift_p]
      replace fm := fm.old n4 fun x hx => o4 x (by omega)
      have wf4 := wf2.but b4 (fun _ _ _ _ _ e => by cases e)
      obtain ⟨mz, hmz⟩ := hz
      have hap : Apart z zf := fun i b m b' m' e e' => by
        rw [hmz] at e; injection e with e
        have := wf2.lt e'; omega
      refine fm.st (by simp) (own_one w4) fun S5 fm n5 f5 => ?_
      have w5 : Own (S.n + 4) S5 z 54 ([⟨108, 0, ⟨#[113]⟩⟩].map Na.row) := w4.fm (by omega) n5 f5
      have wf5 := wf4.fm (by omega) n5 f5
      rw [shift_p, ld1_p fm.co rfl rfl, lenS_aL, bin_gtr, onB_v]
      refine gd_of (fun ho => ?_) (fun ho => fin S5 _ z true false ⟨#[]⟩ fm wf5 (fun h => by cases h) w5)
      have ho : 0 < outs.length := by have := of_decide_eq_true ho; omega
      refine fm.pick hl (by decide) (by omega) fun S6 fm n6 f6 => ?_
      have w6 := w5.fm (by omega) n6 f6
      have wf6 := wf5.fm (by omega) n6 f6
      rw [bin_gtr, onB_v]
      refine gd_of (fun _ => ?_) (fun _ => fin S6 _ z true false ⟨#[]⟩ fm wf6 (fun h => by cases h) w6)
      exact snd S6 _ z true (by omega) fm wf6 hap w6 ho
    · rw [shift_p, ld1_p fm.co rfl rfl, lenS_aL, bin_gtr, onB_v]
      refine gd_of (fun ho => ?_) (fun ho => fin S2 _ .nl false false ⟨#[]⟩ fm wf2 (fun h => by cases h) (Own.nl _ _ _))
      have ho : 0 < outs.length := by have := of_decide_eq_true ho; omega
      refine fm.pick hl (by decide) (by omega) fun S6 fm n6 f6 => ?_
      have wf6 := wf2.fm (by omega) n6 f6
      rw [bin_gtr, onB_v]
      refine gd_of (fun _ => ?_) (fun _ => fin S6 _ .nl false false ⟨#[]⟩ fm wf6 (fun h => by cases h) (Own.nl _ _ _))
      exact snd S6 _ .nl false (by omega) fm wf6 (fun _ _ _ _ _ e => by cases e) (Own.nl _ _ _) ho
  -- the fair literals' number
  have last4 : ∀ (S' : Store) (k : Nat) (zo zb zc : AV) (bads cons : List Int), k ≤ 24 → Fm S l S' k [aI inp, pL lats, pL g.ands, zo, zb, zc, .nl, .nl] → Own (S.n + 4) S' zo 3 (outs.map fun p => [aI p]) → Own (S.n + 4) S' zb 3 (bads.map fun p => [aI p]) → Own (S.n + 4) S' zc 3 (cons.map fun p => [aI p]) →
      bads.length ≤ 1 → cons.length ≤ 1 → (∀ x ∈ bads, g.lit x = true) → (∀ x ∈ cons, g.lit x = true) → ∀ X, 
      callV Try.prog (pickF S) [(.v (.int .i64 4))] S' (fun v S' => bin .quo 0 v (.v (.int .i64 2)) S' fun v S' => loopV lv9_3 (vc Try.prog (c9.at_ [1, 1, 1, 1, 1, 1, 1, 1, 1, 1, 1, 1, 1, 1, 1, 0, 1, 0, 0]) (ms9.drop 4)) 156 (env9_3 (.p (S.n + 1) 0 0) (pickF S) (.p (S.n + 3) 0 0) (aI (2 * g.vars)) v) S'
        (blockK 6 (seqK (vc Try.prog (c9.at_ [1, 1, 1, 1, 1, 1, 1, 1, 1, 1, 1, 1, 1, 1, 1, 1]) (ms9.drop 4)) (bodyK Try.prog r9 fun e S' => ∃ r tr, e = .ret r ∧ Keep S S' ∧ Cv (S'.frz (newer S.n)) S.n r tr ∧ ∃ c : Ci, tr = c.av ∧ MadeC c)))) X := by
    intro S' k zo zb zc bads cons hk fm wo wb wc lb lc hbl hcl X
    refine fm.pick hl (by decide) (by omega) fun S2 fm n2 f2 => ?_
    have p4 := pickV_rng hl (k := k) (n := 4) (by decide)
    generalize pickV l k 4 = x4 at *
    have hd : 0 ≤ x4.tdiv 2 ∧ x4.tdiv 2 ≤ 1 := by rw [Int.tdiv_eq_ediv_of_nonneg p4.1]; omega
    rw [bin_quo (by decide) (by omega) (by omega)]
    obtain ⟨r0, hr0⟩ := Int.eq_ofNat_of_zero_le hd.1
    rw [hr0]
    exact tail S2 _ zo zb zc bads cons r0 (by omega) (by omega) fm (wo.fm (by omega) n2 f2) (wb.fm (by omega) n2 f2) (wc.fm (by omega) n2 f2) lb lc hbl hcl
  have cons3 : ∀ (S' : Store) (k : Nat) (zo zb : AV) (bads : List Int), k ≤ 22 → Fm S l S' k [aI inp, pL lats, pL g.ands, zo, zb, .nl, .nl, .nl] → Own (S.n + 4) S' zo 3 (outs.map fun p => [aI p]) → Own (S.n + 4) S' zb 3 (bads.map fun p => [aI p]) →
      bads.length ≤ 1 → (∀ x ∈ bads, g.lit x = true) → ∀ X : AV → Store → Prop,
      callV Try.prog (pickF S) [(.v (.int .i64 3))] S' (fun v S' => bin .eql 0 v (.v (.int .i64 0)) S' fun v S' => onB v fun b => gd b
        (∃ q111 : AV, (∀ T : Store, Keep S' T → shift (.p (S.n + 3) 0 0) 5 T fun v S => v = q111 ∧ S = T) ∧ ∃ q113 : AV, (∀ T : Store, Keep S' T → ld1 q111 T fun v S => v = q113 ∧ S = T) ∧ callV Try.prog (pickF S) [aI (2 * g.vars)] S' (fun v115 S' =>
          (∀ T : Store, Keep S' T → ld1 q111 T fun v S => v = q113 ∧ S = T) ∧ (∀ T : Store, Keep S' T → shift (.p (S.n + 3) 0 0) 5 T fun v S => v = q111 ∧ S = T) ∧ ∃ q118 : AV, (∀ T : Store, Keep S' T → bslN 3 1 1 [(.v (.int .i64 0))] [(0, v115)] T fun v S => v = q118 ∧ S = T) ∧ appS 3 1 8 q113 q118 S' fun v120 S' =>
          ∃ q121 : AV, (∀ T : Store, Keep S' T → shift (.p (S.n + 3) 0 0) 5 T fun v S => v = q121 ∧ S = T) ∧ stN 1 q121 v120 S' fun _ S' => callV Try.prog (pickF S) [(.v (.int .i64 4))] S' (fun v S' => bin .quo 0 v (.v (.int .i64 2)) S' fun v S' => loopV lv9_3 (vc Try.prog (c9.at_ [1, 1, 1, 1, 1, 1, 1, 1, 1, 1, 1, 1, 1, 1, 1, 0, 1, 0, 0]) (ms9.drop 4)) 156 (env9_3 (.p (S.n + 1) 0 0) (pickF S) (.p (S.n + 3) 0 0) (aI (2 * g.vars)) v) S'
        (blockK 6 (seqK (vc Try.prog (c9.at_ [1, 1, 1, 1, 1, 1, 1, 1, 1, 1, 1, 1, 1, 1, 1, 1]) (ms9.drop 4)) (bodyK Try.prog r9 fun e S' => ∃ r tr, e = .ret r ∧ Keep S S' ∧ Cv (S'.frz (newer S.n)) S.n r tr ∧ ∃ c : Ci, tr = c.av ∧ MadeC c)))) X) (fun _ _ => False))
        (callV Try.prog (pickF S) [(.v (.int .i64 4))] S' (fun v S' => bin .quo 0 v (.v (.int .i64 2)) S' fun v S' => loopV lv9_3 (vc Try.prog (c9.at_ [1, 1, 1, 1, 1, 1, 1, 1, 1, 1, 1, 1, 1, 1, 1, 0, 1, 0, 0]) (ms9.drop 4)) 156 (env9_3 (.p (S.n + 1) 0 0) (pickF S) (.p (S.n + 3) 0 0) (aI (2 * g.vars)) v) S'
        (blockK 6 (seqK (vc Try.prog (c9.at_ [1, 1, 1, 1, 1, 1, 1, 1, 1, 1, 1, 1, 1, 1, 1, 1]) (ms9.drop 4)) (bodyK Try.prog r9 fun e S' => ∃ r tr, e = .ret r ∧ Keep S S' ∧ Cv (S'.frz (newer S.n)) S.n r tr ∧ ∃ c : Ci, tr = c.av ∧ MadeC c)))) X)) X := by
    intro S' k zo zb bads hk fm wo wb lb hbl X
    refine fm.pick hl (by decide) (by omega) fun S2 fm n2 f2 => ?_
    have wo2 := wo.fm (by omega) n2 f2
    have wb2 := wb.fm (by omega) n2 f2
    rw [bin_eql, onB_v]
    refine gd_of (fun _ => ?_) (fun _ => last4 S2 _ zo zb .nl bads [] (by omega) fm wo2 wb2 (Own.nl _ _ _) lb (by simp) hbl (fun _ h => by cases h) X)
    refine ⟨_, fun T hT => by rw [shift_p]; exact ⟨rfl, rfl⟩, .nl, fun T hT => by rw [ld1_p (fm.kT hT) rfl rfl]; exact ⟨rfl, rfl⟩, ?_⟩
    refine fm.pick hl hvp (by omega) fun S3 fm n3 f3 => ?_
    have pn := plit (pickV_rng hl (k := k + 1) hvp)
    generalize pickV l (k + 1) (2 * g.vars) = n at *
    have hn1 : ∀ x ∈ [n], g.lit x = true := fun x hx => by rw [List.mem_singleton.1 hx]; exact pn
    have wo3 := wo2.fm (by omega) n3 f3
    have wb3 := wb2.fm (by omega) n3 f3
    refine ⟨fun T hT => by rw [ld1_p (fm.kT hT) rfl rfl]; exact ⟨rfl, rfl⟩, fun T hT => by rw [shift_p]; exact ⟨rfl, rfl⟩, _, fun T hT => bsl1 rfl (fun _ h => by cases h) ⟨rfl, rfl⟩, ?_⟩
    refine (Own.nl (S.n + 4) S3 3).app (by have := fm.n; omega) (c := [aI n]) rfl (by simp) (fun z S4 w4 b4 hz => ?_) rfl
    have n4 := b4.1
    have hn3 := fm.n
    have o4 : ∀ x, x < S3.n → S4.obj x = S3.obj x := fun x hx => b4.2 x (by omega) (fun b m e => by cases e)
    refine ⟨_, fun T hT => by rw [shift_p]; exact ⟨rfl, rfl⟩, ?_⟩
    replace fm := fm.old n4 fun x hx => o4 x (by omega)
    have wo4 := wo3.but b4 (fun _ _ _ _ _ e => by cases e)
    have wb4 := wb3.but b4 (fun _ _ _ _ _ e => by cases e)
    refine fm.st (by simp) (own_one w4) fun S5 fm n5 f5 => ?_
    exact last4 S5 _ zo zb z bads [n] (by omega) fm (wo4.fm (by omega) n5 f5) (wb4.fm (by omega) n5 f5) (w4.fm (by omega) n5 f5) lb (by simp) hbl hn1 X
  refine fm.pick hl (by decide) (by omega) fun S2 fm n2 f2 => ?_
  have wo2 := wo.fm (by omega) n2 f2
  rw [bin_eql, onB_v]
  refine gd_of (fun _ => ?_) (fun _ => cons3 S2 _ zo .nl [] (by omega) fm wo2 (Own.nl _ _ _) (by simp) (fun _ h => by cases h) _)
  refine ⟨_, fun T hT => by rw [shift_p]; exact ⟨rfl, rfl⟩, .nl, fun T hT => by rw [ld1_p (fm.kT hT) rfl rfl]; exact ⟨rfl, rfl⟩, ?_⟩
  refine fm.pick hl hvp (by omega) fun S3 fm n3 f3 => ?_
  have pn := plit (pickV_rng hl (k := k + 1) hvp)
  generalize pickV l (k + 1) (2 * g.vars) = n at *
  have hn1 : ∀ x ∈ [n], g.lit x = true := fun x hx => by rw [List.mem_singleton.1 hx]; exact pn
  have wo3 := wo2.fm (by omega) n3 f3
  refine ⟨fun T hT => by rw [ld1_p (fm.kT hT) rfl rfl]; exact ⟨rfl, rfl⟩, fun T hT => by rw [shift_p]; exact ⟨rfl, rfl⟩, _, fun T hT => bsl1 rfl (fun _ h => by cases h) ⟨rfl, rfl⟩, ?_⟩
  refine (Own.nl (S.n + 4) S3 3).app (by have := fm.n; omega) (c := [aI n]) rfl (by simp) (fun z S4 w4 b4 hz => ?_) rfl
  have n4 := b4.1
  have hn3 := fm.n
  have o4 : ∀ x, x < S3.n → S4.obj x = S3.obj x := fun x hx => b4.2 x (by omega) (fun b m e => by cases e)
  refine ⟨_, fun T hT => by rw [shift_p]; exact ⟨rfl, rfl⟩, ?_⟩
  replace fm := fm.old n4 fun x hx => o4 x (by omega)
  have wo4 := wo3.but b4 (fun _ _ _ _ _ e => by cases e)
  refine fm.st (by simp) (own_one w4) fun S5 fm n5 f5 => ?_
  exact cons3 S5 _ zo z [n] (by omega) fm (wo4.fm (by omega) n5 f5) (w4.fm (by omega) n5 f5) (by simp) hn1 _
end Go.Proofs.Ytolgpokppnajdaa.G
set_option linter.unusedVariables false
set_option linter.unusedSimpArgs false
namespace Go.Proofs.Ytolgpokppnajdaa.G
open Go Go.Ab

theorem nextL_len (c : Ci) (v vs : List Bool) : (nextL c v vs).length ≤ 2 ^ c.inputs.toNat := by
  simp only [nextL, List.length_map]
  have := List.length_filter_le (fun x => vs.getD ((afterV c v c.latches.length).toNat + x) false) (List.range (2 ^ c.inputs.toNat))
  simpa using this
structure SpSmall (s : Sp) : Prop where
  h1 : s.valid.length ≤ 1024
  h2 : s.initial.length ≤ 1024
  h3 : s.next.length ≤ 1024
  h4 : ∀ r ∈ s.next, r.length ≤ 1024
  h5 : s.fair.length ≤ 2000
  h6 : ∀ r ∈ s.fair, r.length ≤ 1024
theorem spOf_small {c : Ci} (h : c.right = true) (h10 : ¬ 10 < c.gr.inputs) : SpSmall (spOf c) := by
  obtain ⟨g1, g2, g3⟩ := gr_inp h
  have hR := right_c.1 h
  have hN : 2 ^ c.gr.inputs.toNat ≤ 1024 := Nat.pow_le_pow_right (by decide) (show c.gr.inputs.toNat ≤ 10 by omega)
  have hI : 2 ^ c.inputs.toNat ≤ 1024 := Nat.pow_le_pow_right (by decide) (show c.inputs.toNat ≤ 10 by omega)
  refine ⟨by simp only [spOf, validOf, List.length_map, List.length_range]; exact hN, by simp only [spOf, List.length_map, List.length_range]; exact hN, by simp only [spOf, List.length_map, List.length_range]; exact hN, fun r hr => ?_, by simp only [spOf, List.length_map]; exact hR.2.2.2.2.2.1, fun r hr => ?_⟩
  · simp only [spOf, List.mem_map] at hr
    obtain ⟨s, _, rfl⟩ := hr
    split
    · have := nextL_len c ((valsOf c).getD s []) (validOf c)
      omega
    · simp
  · simp only [spOf, List.mem_map] at hr
    obtain ⟨s, _, rfl⟩ := hr
    rw [List.length_map, List.length_range]
    exact hN
theorem spaceB_small (c : Ci) : SpSmall (spaceB c).1 := by
  have h0 : SpSmall sp0 := ⟨by decide, by decide, by decide, fun r hr => by simp [sp0] at hr, by decide, fun r hr => by simp [sp0] at hr⟩
  unfold spaceB
  split
  · exact h0
  · rename_i h1
    split
    · exact h0
    · rename_i h2
      exact spOf_small (by simpa using h1) h2
theorem same_self {s : Sp} (h : SpSmall s) : Ans Try.prog 13 [s.av, s.av] (aB true) :=
  same13 (by have := h.h1; omega) (by have := h.h2; omega) (by have := h.h3; omega) (fun r hr => by have := h.h4 r hr; omega) (by have := h.h5; omega) (fun r hr => by have := h.h6 r hr; omega)
theorem ans8 {c : Ci} (hc : c.ok) : Ans Try.prog 8 [c.av] (aB true) := by
  intro S
  refine ACalls.ans_v (calls8 ?_)
  unfold m8
  have hs := spaceB_small c
  have h1 := ans10 hc
  have h2 := ans12 hc
  generalize spaceB c = p at *
  obtain ⟨s, e⟩ := p
  refine boxA_of rfl fun S1 k1 n1 o1 => ?_
  rw [ldN_p (n := 8) o1 rfl]
  refine callF_ans h1 ?_
  rw [extr0, extr1]
  refine boxA_of rfl fun S2 k2 n2 o2 => ?_
  refine stA_of o2 rfl rfl fun S3 n3 o3 f3 => ?_
  have k3 : Keep S1 S3 := k2.st (Nat.le_refl _) n3 f3
  rw [ldN_p (n := 8) ((k3.2 _ (by omega)).trans o1) rfl]
  refine callF_ans h2 ?_
  rw [extr0, extr1]
  refine boxA_of rfl fun S4 k4 n4 o4 => ?_
  refine stA_of o4 rfl rfl fun S5 n5 o5 f5 => ?_
  have k5 : Keep S3 S5 := k4.st (Nat.le_refl _) n5 f5
  rw [ldN_p (n := 5) ((k5.2 _ (by omega)).trans o3) rfl, ldN_p (n := 5) o5 rfl]
  refine callF_ans (same_self hs) ?_
  rw [onB_v, gd_true, bin_eql, decide_eq_true rfl]
  exact ⟨rfl, (k1.trans k3).trans k5⟩

/-! What any right program answers. -/
def ca0 : Ci := ⟨0, [(3, 0)], [], [], [], [], [], []⟩
def caN (n : Int) : Ci := ⟨n, [], [], [], [], [], [], []⟩
theorem names0 {c : Ci} (h : c.names = []) : namesB c = true := by
  simp only [namesB, decide_eq_true_eq]
  exact ⟨fun i hi => by simp [h] at hi, fun i hi => by simp [h] at hi, by simp [h]⟩
theorem ca0_ok : ca0.ok := by
  refine ⟨⟨by decide, by decide⟩, by decide, by decide, fun p hp => ?_, (fun p hp => by cases hp), ⟨(fun _ h => by cases h), by decide⟩, ⟨(fun _ h => by cases h), by decide⟩, ⟨(fun _ h => by cases h), by decide⟩, ⟨(fun _ h => by cases h), by decide⟩, (fun _ h => by cases h), by decide⟩
  have : p = (3, 0) := by simpa [ca0] using hp
  subst this
  exact ⟨⟨by decide, by decide⟩, ⟨by decide, by decide⟩⟩
theorem caN_ok {n : Int} (h : i64R n) : (caN n).ok :=
  ⟨h, Nat.zero_le _, Nat.zero_le _, (fun p hp => by cases hp), (fun p hp => by cases hp), ⟨(fun _ h => by cases h), Nat.zero_le _⟩, ⟨(fun _ h => by cases h), Nat.zero_le _⟩, ⟨(fun _ h => by cases h), Nat.zero_le _⟩, ⟨(fun _ h => by cases h), Nat.zero_le _⟩, (fun _ h => by cases h), Nat.zero_le _⟩
theorem ca0_right : ca0.right = true := by
  refine right_c.2 ⟨by decide, by decide, by decide, by decide, by decide, by decide, by decide, by decide, by decide, by decide, by decide, by decide, names0 rfl⟩
theorem ca0_sp : spaceB ca0 = (⟨1, [true, true], [true, false], [[1], [0]], []⟩, 0) := by
  rw [spaceB, ca0_right, if_neg (by decide), if_neg (by decide)]
  have h1 : (spOf ca0).bits = 1 := by decide
  have h2 : (spOf ca0).valid = [true, true] := by decide
  have h3 : (spOf ca0).initial = [true, false] := by decide
  have h4 : (spOf ca0).next = [[1], [0]] := by decide
  have h5 : (spOf ca0).fair = [] := by decide
  generalize spOf ca0 = s at *
  cases s
  simp_all
theorem caN_long : spaceB (caN 11) = (sp0, 2) := by
  have : (caN 11).right = true := right_c.2 ⟨by decide, by decide, by decide, by decide, by decide, by decide, by decide, by decide, by decide, by decide, by decide, by decide, names0 rfl⟩
  rw [spaceB, this, if_neg (by decide), if_pos (by decide)]
theorem caN_arg : spaceB (caN (-1)) = (sp0, 1) := by
  have : (caN (-1)).right = false := by
    cases h : (caN (-1)).right with
    | false => rfl
    | true => exact absurd (right_c.1 h).1.1 (by decide)
  rw [spaceB, this, if_pos rfl]
/-- Lists that are not there are empty ones. -/
theorem callF_cv' {P : Program} {f : FuncId} {args args2 : List AV} {r : AV} (h : Ans P f args2 r) {S : Store} (hl : args.length = args2.length) (hcv : ∀ (k : Nat) (u u2 : AV), args[k]? = some u → args2[k]? = some u2 → Cv S S.n u u2) {Q : AEnd → Store → Prop} {K : AV → Store → Prop} (k : K r S) : callF P f args S Q K :=
  .inl (ACalls.conv hl hcv (ACalls.mono (h S) fun e S' h => by obtain ⟨rfl, rfl⟩ := h; exact k))
theorem cv_ci {S : Store} {n : Nat} {i l l' : AV} (hi : Cv S n i i) (h : Cv S n l l') : Cv S n (.a [i, l, .nl, .nl, .nl, .nl, .nl, .nl]) (.a [i, l', .l [], .l [], .l [], .l [], .l [], .l []]) :=
  .a _ _ rfl fun k u u2 hk hk2 => by
    match k with
    | 0 => cases hk; cases hk2; exact hi
    | 1 => cases hk; cases hk2; exact h
    | 2 | 3 | 4 | 5 | 6 | 7 => cases hk; cases hk2; exact .nl
    | k + 8 => simp at hk
theorem cv_1 {S : Store} {n : Nat} {x y : AV} (h : Cv S n x y) : ∀ (k : Nat) (u u2 : AV), [x][k]? = some u → [y][k]? = some u2 → Cv S n u u2
  | 0, _, _, h1, h2 => by cases h1; cases h2; exact h
  | k + 1, _, _, h1, _ => by simp at h1
theorem ans7 : Ans Try.prog 7 [] (aB true) := by
  intro S
  refine ACalls.ans_v (calls7 ?_)
  unfold m7
  have h1 := ans10 ca0_ok
  have h2 := ans10 (c := caN 11) (caN_ok ⟨by decide, by decide⟩)
  have h3 := ans10 (c := caN (-1)) (caN_ok ⟨by decide, by decide⟩)
  rw [ca0_sp] at h1
  rw [caN_long] at h2
  rw [caN_arg] at h3
  rw [bld_of (cs := [aI 3, aI 0]) rfl]
  refine bslP ?_
  rw [bld_of (cs := [aI 0, .l [[aI 3, aI 0]], .nl, .nl, .nl, .nl, .nl, .nl]) rfl]
  refine callF_cv' (args := [.a [aI 0, .l [[aI 3, aI 0]], .nl, .nl, .nl, .nl, .nl, .nl]]) h1 rfl (cv_1 (cv_ci (.v _) (treeP [(3, 0)] _ _))) ?_
  rw [extr0, extr1]
  refine boxA_of rfl fun S1 k1 n1 o1 => ?_
  refine stA_of o1 rfl rfl fun S2 n2 o2 f2 => ?_
  have k2 : Keep S S2 := k1.st (Nat.le_refl _) n2 f2
  rw [bld_of (cs := [aI 11, .nl, .nl, .nl, .nl, .nl, .nl, .nl]) rfl]
  refine callF_cv' (args := [.a [aI 11, .nl, .nl, .nl, .nl, .nl, .nl, .nl]]) h2 rfl (cv_1 (cv_ci (.v _) .nl)) ?_
  rw [extr0, extr1]
  refine boxA_of rfl fun S3 k3 n3 o3 => ?_
  refine stA_of o3 rfl rfl fun S4 n4 o4 f4 => ?_
  have k4 : Keep S2 S4 := k3.st (Nat.le_refl _) n4 f4
  rw [bld_of (cs := [aI (-1), .nl, .nl, .nl, .nl, .nl, .nl, .nl]) rfl]
  refine callF_cv' (args := [.a [aI (-1), .nl, .nl, .nl, .nl, .nl, .nl, .nl]]) h3 rfl (cv_1 (cv_ci (.v _) .nl)) ?_
  rw [extr0, extr1]
  refine boxA_of rfl fun S5 k5 n5 o5 => ?_
  refine stA_of o5 rfl rfl fun S6 n6 o6 f6 => ?_
  have k6 : Keep S4 S6 := k5.st (Nat.le_refl _) n6 f6
  have p6 : S6.obj S.n = some (.cells 37 [[aI 1, aL aB [true, true], aL aB [true, false], aL (aL aI) [[1], [0]], aL (aL aB) []]] true) := (k6.2 _ (by omega)).trans ((k4.2 _ (by omega)).trans o2)
  have kk := (k2.trans k4).trans k6
  have hL : ∀ (j : Nat) (u : AV) (P : AV → Prop), [aI 1, aL aB [true, true], aL aB [true, false], aL (aL aI) [[1], [0]], aL (aL aB) []][j]? = some u → (∃ q, (ld1 (.p S.n 0 j) S6 fun v S => v = q ∧ S = S6) ∧ P q) = P u := fun j u P hu => J_ldp p6 rfl hu
  have l0 := fun P => hL 0 _ P rfl
  have l1 := fun P => hL 1 _ P rfl
  have l2 := fun P => hL 2 _ P rfl
  have l3 := fun P => hL 3 _ P rfl
  have heq : ∀ {a b : Int} {P : AV → Prop}, a = b → (∃ q, (bin .eql 0 (aI a) (aI b) S6 fun v S => v = q ∧ S = S6) ∧ P q) = P (aB true) := fun {a b P} h => (J_of (op := fun K => bin .eql 0 (aI a) (aI b) S6 K) fun K => bin_eql _ _ _ _).trans (by rw [decide_eq_true h])
  have hx : ∀ {α : Type} {f : α → AV} (l : List α) (i : Nat) (e : Nat) (h : i < l.length) (P : AV → Prop), (∃ q, (ixS e 1 (aL f l) (aI i) S6 fun v S => v = q ∧ S = S6) ∧ P q) = P (.q [f l[i]] 0) := fun l i e h P => J_ix h
  have x0 : ∀ {α : Type} {f : α → AV} {a b : α} {e : Nat} {P : AV → Prop}, (∃ q, (ixS e 1 (aL f [a, b]) (.v (.int .i64 0)) S6 fun v S => v = q ∧ S = S6) ∧ P q) = P (.q [f a] 0) := fun {α f a b e P} => hx [a, b] 0 e (by simp) P
  have x1 : ∀ {α : Type} {f : α → AV} {a b : α} {e : Nat} {P : AV → Prop}, (∃ q, (ixS e 1 (aL f [a, b]) (.v (.int .i64 1)) S6 fun v S => v = q ∧ S = S6) ∧ P q) = P (.q [f b] 0) := fun {α f a b e P} => hx [a, b] 1 e (by simp) P
  have y0 : ∀ {α : Type} {f : α → AV} {a : α} {e : Nat} {P : AV → Prop}, (∃ q, (ixS e 1 (aL f [a]) (.v (.int .i64 0)) S6 fun v S => v = q ∧ S = S6) ∧ P q) = P (.q [f a] 0) := fun {α f a e P} => hx [a] 0 e (by simp) P
  have hl : ∀ {α : Type} {f : α → AV} (l : List α) (P : AV → Prop), (∃ q, (lenS (aL f l) S6 fun v S => v = q ∧ S = S6) ∧ P q) = P (aI l.length) := fun l P => J_len
  show ∃ q21 : AV, _
  (repeat (first | rw [J_eq] | rw [J_run] | rw [J_skipTF] | rw [J_skipFT] | rw [J_skipU] | rw [J_pickT] | rw [J_pickF] | rw [J_shift] | rw [l0] | rw [l1] | rw [l2] | rw [l3] | rw [hl] | rw [J_ld] | rw [J_notF] | rw [J_notT] | rw [x0] | rw [x1] | rw [y0] | rw [heq]))
  · exact ⟨rfl, kk⟩
  all_goals decide
end Go.Proofs.Ytolgpokppnajdaa.G
set_option linter.unusedVariables false
set_option linter.unusedSimpArgs false
namespace Go.Proofs.Ytolgpokppnajdaa.G
open Go Go.Ab

/-! ### Circuits that come in from outside -/
section
variable {H : Type} {enc : TypeId × Value → H} {w : World} {sp : Nat → Bool} {held : Bool}
theorem trod_array {P : Program} {t e : TypeId} {n : Nat} (ht : P.underlying t = some (.array n e)) {fuel : Nat} {cs : List Value} {x : DataW H × List MemPlace} (h : DataW.trod enc P w 0 sp held fuel t cs = some x) :
    cs.length = P.cellsOf t ∧ ∃ m, ∀ i, i < n → ∃ y, DataW.trod enc P w 0 sp held m e ((cs.drop (i * P.cellsOf e)).take (P.cellsOf e)) = some y := by
  cases fuel with
  | zero => cases h
  | succ m =>
    unfold DataW.trod at h
    rw [ht] at h
    dsimp only at h
    split at h
    · rename_i hl
      refine ⟨hl, m, fun i hi => ?_⟩
      obtain ⟨xs, hxs, _⟩ := Option.map_eq_some_iff.1 h
      obtain ⟨y, _, hy⟩ := (mapM_list hxs).2 i i (by simp [hi])
      exact ⟨y, hy⟩
    · cases h
theorem i64_wf {n : Int} (h : (Lit.int .i64 n).wf = true) : i64R n := by
  simp [Lit.wf, IntKind.min, IntKind.max, IntKind.bits, IntKind.signed] at h
  exact ⟨by omega, by omega⟩
theorem u8_wf {n : Int} (h : (Lit.int .u8 n).wf = true) : 0 ≤ n ∧ n < 256 := by
  simp [Lit.wf, IntKind.min, IntKind.max, IntKind.bits, IntKind.signed] at h
  omega
theorem u16_wf {n : Int} (h : (Lit.int .u16 n).wf = true) : 0 ≤ n ∧ n < 65536 := by
  simp [Lit.wf, IntKind.min, IntKind.max, IntKind.bits, IntKind.signed] at h
  omega
theorem opI : Opens enc Try.prog w sp held 3 1 (fun n : Int => [aI n]) (fun n => (Lit.int .i64 n).wf = true) := opens_int Try.underlying3
theorem opU : Opens enc Try.prog w sp held 5 1 (fun n : Int => [AV.v (.int .u8 n)]) (fun n => (Lit.int .u8 n).wf = true) := opens_int Try.underlying5
theorem opStr : Opens enc Try.prog w sp held 9 1 (fun b : ByteArray => [AV.v (.string b)]) (fun b => b.size ≤ maxLen) := opens_string Try.underlying9
theorem opIs : Opens enc Try.prog w sp held 24 1 (fun l : List Int => [aL aI l]) (fun l => l.length ≤ maxLen ∧ ∀ a ∈ l, (Lit.int .i64 a).wf = true) := opens_slice Try.underlying24 (by kernel_rfl) (by decide) opI
set_option maxRecDepth 100000 in
theorem opPair : Opens enc Try.prog w sp held 80 2 (fun p : Int × Int => [aI p.1, aI p.2]) (fun p => i64R p.1 ∧ i64R p.2) := by
  intro fuel cs x h
  obtain ⟨hl, n, hf⟩ := trod_array Try.underlying80 h
  have h2 : cs.length = 2 := hl.trans (by kernel_rfl)
  have c3 : Try.prog.cellsOf 3 = 1 := by kernel_rfl
  match cs, h2 with
  | [c0, c1], _ =>
    obtain ⟨y0, h0⟩ := hf 0 (by decide)
    obtain ⟨y1, h1⟩ := hf 1 (by decide)
    simp only [c3, Nat.zero_mul, Nat.one_mul, List.drop_zero, List.drop_succ_cons, List.take_succ_cons, List.take_zero] at h0 h1
    obtain ⟨a0, q0, _, _, r0⟩ := opI n _ _ h0
    obtain ⟨a1, q1, _, _, r1⟩ := opI n _ _ h1
    refine ⟨(a0, a1), ⟨i64_wf q0, i64_wf q1⟩, rfl, rfl, fun k u c hu hc => ?_⟩
    match k, hu, hc with
    | 0, hu, hc => cases hu; cases hc; exact r0 0 _ _ rfl rfl
    | 1, hu, hc => cases hu; cases hc; exact r1 0 _ _ rfl rfl
    | k + 2, hu, _ => simp at hu
set_option maxRecDepth 100000 in
theorem opLat : Opens enc Try.prog w sp held 44 2 (fun p : Int × Int => [aI p.1, aI p.2]) (fun p => i64R p.1 ∧ i64R p.2) := by
  intro fuel cs x h
  obtain ⟨hl, n, hf⟩ := trod_struct Try.underlying44 h
  have h2 : cs.length = 2 := hl.trans (by kernel_rfl)
  have c3 : Try.prog.cellsOf 3 = 1 := by kernel_rfl
  match cs, h2 with
  | [c0, c1], _ =>
    simp only [List.mem_cons, List.not_mem_nil, or_false, forall_eq_or_imp, forall_eq, c3, List.drop_zero, List.drop_succ_cons, List.take_succ_cons, List.take_zero] at hf
    obtain ⟨⟨y0, h0⟩, ⟨y1, h1⟩⟩ := hf
    obtain ⟨a0, q0, _, _, r0⟩ := opI n _ _ h0
    obtain ⟨a1, q1, _, _, r1⟩ := opI n _ _ h1
    refine ⟨(a0, a1), ⟨i64_wf q0, i64_wf q1⟩, rfl, rfl, fun k u c hu hc => ?_⟩
    match k, hu, hc with
    | 0, hu, hc => cases hu; cases hc; exact r0 0 _ _ rfl rfl
    | 1, hu, hc => cases hu; cases hc; exact r1 0 _ _ rfl rfl
    | k + 2, hu, _ => simp at hu
set_option maxRecDepth 100000 in
theorem opNa : Opens enc Try.prog w sp held 54 3 Na.row (fun x => 0 ≤ x.kind ∧ x.kind < 256 ∧ i64R x.pos ∧ x.text.size ≤ 9223372036854775807) := by
  intro fuel cs x h
  obtain ⟨hl, n, hf⟩ := trod_struct Try.underlying54 h
  have h2 : cs.length = 3 := hl.trans (by kernel_rfl)
  have c1 : Try.prog.cellsOf 5 = 1 := by kernel_rfl
  have c3 : Try.prog.cellsOf 3 = 1 := by kernel_rfl
  have c9 : Try.prog.cellsOf 9 = 1 := by kernel_rfl
  match cs, h2 with
  | [d0, d1, d2], _ =>
    simp only [List.mem_cons, List.not_mem_nil, or_false, forall_eq_or_imp, forall_eq, c1, c3, c9, List.drop_zero, List.drop_succ_cons, List.take_succ_cons, List.take_zero] at hf
    obtain ⟨⟨y0, h0⟩, ⟨y1, h1⟩, ⟨y2, h2⟩⟩ := hf
    obtain ⟨a0, q0, _, _, r0⟩ := opU n _ _ h0
    obtain ⟨a1, q1, _, _, r1⟩ := opI n _ _ h1
    obtain ⟨a2, q2, _, _, r2⟩ := opStr n _ _ h2
    refine ⟨⟨a0, a1, a2⟩, ⟨(u8_wf q0).1, (u8_wf q0).2, i64_wf q1, q2⟩, rfl, rfl, fun k u c hu hc => ?_⟩
    match k, hu, hc with
    | 0, hu, hc => cases hu; cases hc; exact r0 0 _ _ rfl rfl
    | 1, hu, hc => cases hu; cases hc; exact r1 0 _ _ rfl rfl
    | 2, hu, hc => cases hu; cases hc; exact r2 0 _ _ rfl rfl
    | k + 3, hu, _ => simp [Na.row] at hu
theorem opLats : Opens enc Try.prog w sp held 22 1 (fun l : List (Int × Int) => [pL l]) (fun l => l.length ≤ maxLen ∧ ∀ p ∈ l, i64R p.1 ∧ i64R p.2) := opens_slice Try.underlying22 (by kernel_rfl) (by decide) opLat
theorem opAnds : Opens enc Try.prog w sp held 23 1 (fun l : List (Int × Int) => [pL l]) (fun l => l.length ≤ maxLen ∧ ∀ p ∈ l, i64R p.1 ∧ i64R p.2) := opens_slice Try.underlying23 (by kernel_rfl) (by decide) opPair
theorem opNas : Opens enc Try.prog w sp held 25 1 (fun l : List Na => [nL l]) (fun l => l.length ≤ maxLen ∧ ∀ x ∈ l, 0 ≤ x.kind ∧ x.kind < 256 ∧ i64R x.pos ∧ x.text.size ≤ 9223372036854775807) := opens_slice Try.underlying25 (by kernel_rfl) (by decide) opNa
/-- What is known of a circuit that comes in. -/
structure Ci.got (c : Ci) : Prop where
  inp : i64R c.inputs
  lats : c.latches.length ≤ maxLen ∧ ∀ p ∈ c.latches, i64R p.1 ∧ i64R p.2
  pairs : c.ands.length ≤ maxLen ∧ ∀ p ∈ c.ands, i64R p.1 ∧ i64R p.2
  outs : c.outs.length ≤ maxLen ∧ ∀ x ∈ c.outs, i64R x
  bads : c.bads.length ≤ maxLen ∧ ∀ x ∈ c.bads, i64R x
  cons : c.cons.length ≤ maxLen ∧ ∀ x ∈ c.cons, i64R x
  fair : c.fair.length ≤ maxLen ∧ ∀ x ∈ c.fair, i64R x
  names : c.names.length ≤ maxLen ∧ ∀ x ∈ c.names, 0 ≤ x.kind ∧ x.kind < 256 ∧ i64R x.pos ∧ x.text.size ≤ 9223372036854775807
set_option maxRecDepth 100000 in
theorem opCi : Opens enc Try.prog w sp held 27 8 Ci.cells Ci.got := by
  intro fuel cs x h
  obtain ⟨hl, n, hf⟩ := trod_struct Try.underlying27 h
  have h2 : cs.length = 8 := hl.trans (by kernel_rfl)
  have c1 : Try.prog.cellsOf 3 = 1 := by kernel_rfl
  have c2 : Try.prog.cellsOf 22 = 1 := by kernel_rfl
  have c3 : Try.prog.cellsOf 23 = 1 := by kernel_rfl
  have c4 : Try.prog.cellsOf 24 = 1 := by kernel_rfl
  have c5 : Try.prog.cellsOf 25 = 1 := by kernel_rfl
  match cs, h2 with
  | [d0, d1, d2, d3, d4, d5, d6, d7], _ =>
    simp only [List.mem_cons, List.not_mem_nil, or_false, forall_eq_or_imp, forall_eq, c1, c2, c3, c4, c5, List.drop_zero, List.drop_succ_cons, List.take_succ_cons, List.take_zero] at hf
    obtain ⟨⟨y0, h0⟩, ⟨y1, h1⟩, ⟨y2, h2⟩, ⟨y3, h3⟩, ⟨y4, h4⟩, ⟨y5, h5⟩, ⟨y6, h6⟩, ⟨y7, h7⟩⟩ := hf
    obtain ⟨a0, q0, _, _, r0⟩ := opI n _ _ h0
    obtain ⟨a1, q1, _, _, r1⟩ := opLats n _ _ h1
    obtain ⟨a2, q2, _, _, r2⟩ := opAnds n _ _ h2
    obtain ⟨a3, q3, _, _, r3⟩ := opIs n _ _ h3
    obtain ⟨a4, q4, _, _, r4⟩ := opIs n _ _ h4
    obtain ⟨a5, q5, _, _, r5⟩ := opIs n _ _ h5
    obtain ⟨a6, q6, _, _, r6⟩ := opIs n _ _ h6
    obtain ⟨a7, q7, _, _, r7⟩ := opNas n _ _ h7
    refine ⟨⟨a0, a1, a2, a3, a4, a5, a6, a7⟩, ⟨i64_wf q0, q1, q2, ⟨q3.1, fun x hx => i64_wf (q3.2 x hx)⟩, ⟨q4.1, fun x hx => i64_wf (q4.2 x hx)⟩, ⟨q5.1, fun x hx => i64_wf (q5.2 x hx)⟩, ⟨q6.1, fun x hx => i64_wf (q6.2 x hx)⟩, q7⟩, rfl, rfl, fun k u c hu hc => ?_⟩
    match k, hu, hc with
    | 0, hu, hc => cases hu; cases hc; exact r0 0 _ _ rfl rfl
    | 1, hu, hc => cases hu; cases hc; exact r1 0 _ _ rfl rfl
    | 2, hu, hc => cases hu; cases hc; exact r2 0 _ _ rfl rfl
    | 3, hu, hc => cases hu; cases hc; exact r3 0 _ _ rfl rfl
    | 4, hu, hc => cases hu; cases hc; exact r4 0 _ _ rfl rfl
    | 5, hu, hc => cases hu; cases hc; exact r5 0 _ _ rfl rfl
    | 6, hu, hc => cases hu; cases hc; exact r6 0 _ _ rfl rfl
    | 7, hu, hc => cases hu; cases hc; exact r7 0 _ _ rfl rfl
    | k + 8, hu, _ => simp [Ci.cells] at hu
theorem opV : Opens enc Try.prog w sp held 46 1 (fun n : Int => [aW16 n]) (fun n => (Lit.int .u16 n).wf = true) := opens_int Try.underlying46
theorem opVs : Opens enc Try.prog w sp held 30 1 (fun l : List Int => [aL aW16 l]) (fun l => l.length ≤ maxLen ∧ ∀ a ∈ l, (Lit.int .u16 a).wf = true) := opens_slice Try.underlying30 (by kernel_rfl) (by decide) opV
end
theorem Ci.got.ok {c : Ci} (h : c.got) (h1 : c.latches.length ≤ 1000000) (h2 : c.ands.length ≤ 1000000) (h3 : c.names.length ≤ 1000000) : c.ok := by
  have hm : maxLen = 9223372036854775807 := by decide
  refine ⟨h.inp, h1, h2, h.lats.2, h.pairs.2, ⟨h.outs.2, ?_⟩, ⟨h.bads.2, ?_⟩, ⟨h.cons.2, ?_⟩, ⟨h.fair.2, ?_⟩, h.names.2, h3⟩
  · have := h.outs.1; omega
  · have := h.bads.1; omega
  · have := h.cons.1; omega
  · have := h.fair.1; omega
end Go.Proofs.Ytolgpokppnajdaa.G
set_option linter.unusedVariables false
set_option linter.unusedSimpArgs false
namespace Go.Proofs.Ytolgpokppnajdaa.G
open Go Go.Ab

theorem law4 {l : List Int} (hl : ∀ x ∈ l, 0 ≤ x ∧ x < 65536) : Ans Try.prog 4 [aL aW16 l] (aB true) := by
  intro S
  refine calls4 ?_
  unfold m4
  refine callF_ans ans7 ?_
  rw [onB_v, gd_true]
  refine .inl ((made9 hl).mono ?_)
  rintro _ _ ⟨_, rfl, rfl, c, rfl, hc⟩
  exact callF_ans (ans8 hc.ok) ⟨rfl, rfl⟩
theorem law3 {c : Ci} (hc : c.got) : Ans Try.prog 3 [c.av] (aB true) := by
  intro S
  refine ACalls.ans_v (calls3 ?_)
  unfold m3
  refine boxA_of rfl fun S1 k1 n1 o1 => ?_
  rw [shift_p, ld1_p o1 rfl rfl, shift_p, ld1_p o1 rfl rfl, lenS_pL, bin_addW, shift_p, ld1_p o1 rfl rfl, lenS_pL, bin_gtr, onB_v]
  refine gd_of (fun h => callF_ans ans7 ⟨rfl, k1⟩) (fun h2 => ?_)
  rw [shift_p, ld1_p o1 rfl rfl, lenS_pL, bin_gtr, onB_v]
  refine gd_of (fun h => callF_ans ans7 ⟨rfl, k1⟩) (fun h1 => ?_)
  rw [shift_p, ld1_p o1 rfl rfl, lenS_nL, bin_gtr, onB_v]
  refine gd_of (fun h => callF_ans ans7 ⟨rfl, k1⟩) (fun h3 => ?_)
  have h1 := of_decide_eq_false h1
  have h2 := of_decide_eq_false h2
  have h3 := of_decide_eq_false h3
  have hok := hc.ok (by omega) (by omega) (by omega)
  rw [shift_p, ld1_p o1 rfl rfl, lenS_aL, bin_gtr, onB_v]
  refine gd_of (fun h => callF_ans ans7 ⟨rfl, k1⟩) (fun _ => ?_)
  rw [shift_p, ld1_p o1 rfl rfl, lenS_aL, bin_gtr, onB_v]
  refine gd_of (fun h => callF_ans ans7 ⟨rfl, k1⟩) (fun _ => ?_)
  rw [bin_gtr, onB_v]
  refine gd_of (fun _ => ?_) (fun _ => ?_)
  · rw [bin_leq, onB_v]
    refine gd_of (fun _ => callF_ans ans7 ⟨rfl, k1⟩) (fun _ => ?_)
    refine callF_ans ans7 ?_
    rw [onB_v, gd_true, ldN_p (n := 8) o1 rfl]
    exact callF_ans (ans8 hok) ⟨rfl, k1⟩
  · refine callF_ans ans7 ?_
    rw [onB_v, gd_true, ldN_p (n := 8) o1 rfl]
    exact callF_ans (ans8 hok) ⟨rfl, k1⟩
end Go.Proofs.Ytolgpokppnajdaa.G
set_option linter.unusedVariables false
set_option linter.unusedSimpArgs false
namespace Go.Proofs.Ytolgpokppnajdaa.G
open Go Go.Ab

/-! ### Spaces: what is behind, and how many -/
theorem fdivN (k p : Nat) : (k : Int).fdiv ((2 : Int) ^ p) = ((k / 2 ^ p : Nat) : Int) := by
  rw [Int.fdiv_eq_ediv_of_nonneg _ (Int.le_of_lt (Int.pow_pos (by decide))), Int.natCast_ediv, Int.natCast_pow]
  rfl
theorem count_block {N p q : Nat} (hq : 2 ^ p * q + 2 ^ p ≤ N) (P : Nat → Bool) :
    ((List.range N).filter fun k => P k && decide (k / 2 ^ p = q)).length = ((List.range (2 ^ p)).filter fun y => P (2 ^ p * q + y)).length := by
  have hpos : 0 < 2 ^ p := Nat.two_pow_pos p
  obtain ⟨r, rfl⟩ : ∃ r, N = 2 ^ p * q + 2 ^ p + r := ⟨N - (2 ^ p * q + 2 ^ p), by omega⟩
  rw [List.range_add, List.range_add, List.filter_append, List.filter_append, List.length_append, List.length_append, List.filter_map, List.filter_map, List.length_map, List.length_map]
  have h1 : (List.range (2 ^ p * q)).filter (fun k => P k && decide (k / 2 ^ p = q)) = [] := by
    rw [List.filter_eq_nil_iff]
    intro k hk
    have : k < 2 ^ p * q := List.mem_range.1 hk
    have h : k / 2 ^ p < q := Nat.div_lt_of_lt_mul this
    simp only [Bool.and_eq_true, decide_eq_true_eq, not_and]
    exact fun _ => by omega
  have h2 : (List.range r).filter ((fun k => P k && decide (k / 2 ^ p = q)) ∘ fun x => 2 ^ p * q + 2 ^ p + x) = [] := by
    rw [List.filter_eq_nil_iff]
    intro k hk
    have h : q + 1 ≤ (2 ^ p * q + 2 ^ p + k) / 2 ^ p := by
      rw [Nat.le_div_iff_mul_le hpos, Nat.add_mul, Nat.mul_comm q]; omega
    simp only [Function.comp, Bool.and_eq_true, decide_eq_true_eq, not_and]
    exact fun _ => by omega
  have h3 : (List.range (2 ^ p)).filter ((fun k => P k && decide (k / 2 ^ p = q)) ∘ fun x => 2 ^ p * q + x) = (List.range (2 ^ p)).filter fun y => P (2 ^ p * q + y) := by
    apply List.filter_congr
    intro y hy
    have hy := List.mem_range.1 hy
    have h : (2 ^ p * q + y) / 2 ^ p = q := by rw [Nat.mul_add_div hpos, Nat.div_eq_of_lt hy, Nat.add_zero]
    simp only [Function.comp, h, decide_true, Bool.and_true]
  rw [h1, h2, h3]
  simp
theorem filter_lt (P : Nat → Bool) (n : Nat) : ((List.range n).filter P).Pairwise (· < ·) := List.pairwise_lt_range.filter P

/-- What is behind a state: facts. -/
structure NextF (c : Ci) (i : Nat) (m p q : Nat) (fl : List Nat) : Prop where
  after : afterB c i = ((2 ^ p * q : Nat) : Int)
  next : (spOf c).next[i]? = some (fl.map fun y : Nat => ((2 ^ p * q + y : Nat) : Int))
  fit : 2 ^ p * q + 2 ^ p ≤ 2 ^ m
  none_ : (validOf c).getD i false = false → fl = []
  mem : ∀ y ∈ fl, y < 2 ^ p ∧ (validOf c).getD (2 ^ p * q + y) false = true
  up : fl.Pairwise (· < ·)
  many : (validOf c).getD i false = true → fl.length = ((List.range (2 ^ m)).filter fun k => (validOf c).getD k false && decide (k / 2 ^ p = q)).length
theorem nextF {c : Ci} (h1 : c.right = true) {m : Nat} (hm : c.inputs.toNat + c.latches.length = m) (hm6 : m ≤ 10) {i : Nat} (hi : i < 2 ^ m) : ∃ q fl, NextF c i m c.inputs.toNat q fl := by
  obtain ⟨g1, g2, g3⟩ := gr_inp h1
  have hin := (right_c.1 h1).1
  have hgt : c.gr.inputs.toNat = m := by omega
  obtain ⟨q, hq1, hq2⟩ := afterV_div c ((valsOf c).getD i []) c.latches.length
  have haf := afterB_eq h1 (by omega) (s := i) (by rw [hgt]; exact hi)
  have hfit : 2 ^ c.inputs.toNat * q + 2 ^ c.inputs.toNat ≤ 2 ^ m := by
    have h2 : 2 ^ c.inputs.toNat * (q + 1) ≤ 2 ^ c.inputs.toNat * 2 ^ c.latches.length := Nat.mul_le_mul_left _ hq1
    rw [← Nat.pow_add, hm, Nat.mul_add, Nat.mul_one] at h2
    exact h2
  have hnx : (spOf c).next[i]? = some (if (validOf c).getD i false = true then nextL c ((valsOf c).getD i []) (validOf c) else []) := by
    simp only [spOf, hgt]
    rw [List.getElem?_map, List.getElem?_range hi]
    rfl
  have htn : ((((2 ^ c.inputs.toNat * q : Nat) : Int))).toNat = 2 ^ c.inputs.toNat * q := Int.toNat_natCast _
  have hN : nextL c ((valsOf c).getD i []) (validOf c) = (((List.range (2 ^ c.inputs.toNat)).filter fun x => (validOf c).getD (2 ^ c.inputs.toNat * q + x) false)).map fun y : Nat => ((2 ^ c.inputs.toNat * q + y : Nat) : Int) := by
    simp only [nextL, hq2, htn, Int.natCast_add]
  refine ⟨q, if (validOf c).getD i false = true then (List.range (2 ^ c.inputs.toNat)).filter fun x => (validOf c).getD (2 ^ c.inputs.toNat * q + x) false else [], haf.trans hq2, ?_, hfit, fun h => by rw [h, if_neg (by decide)], fun y hy => ?_, ?_, fun h => ?_⟩
  · rw [hnx, hN]
    split <;> rfl
  · split at hy
    · rw [List.mem_filter, List.mem_range] at hy
      exact hy
    · cases hy
  · split
    · exact filter_lt _ _
    · exact List.Pairwise.nil
  · rw [if_pos h, count_block hfit fun k => (validOf c).getD k false]

/-! How many are Initial. -/
def okR (r : Int) (b : Nat) : Bool := decide (r = 2) || decide ((b : Int) = r)
def eithers (l : List (Int × Int)) (i : Nat) : Nat := ((List.range i).filter fun j => decide ((l.getD j (0, 0)).2 = 2)).length
theorem eithers_succ (l : List (Int × Int)) (i : Nat) : eithers l (i + 1) = eithers l i + if (l.getD i (0, 0)).2 = 2 then 1 else 0 := by
  simp only [eithers, List.range_succ, List.filter_append, List.length_append]
  by_cases h : (l.getD i (0, 0)).2 = 2
  · rw [if_pos h, List.filter_cons, if_pos (by simpa using h)]; rfl
  · rw [if_neg h, List.filter_cons, if_neg (by simpa using h)]; rfl
theorem all_and {α : Type} {l : List α} {f g : α → Bool} (h : ∀ x ∈ l, f x = g x) : l.all f = l.all g := by
  induction l with
  | nil => rfl
  | cons a l ih => rw [List.all_cons, List.all_cons, h a (by simp), ih fun x hx => h x (by simp [hx])]
theorem many_begin (l : List (Int × Int)) (p : Nat) : ∀ i, (∀ j, j < i → 0 ≤ (l.getD j (0, 0)).2 ∧ (l.getD j (0, 0)).2 ≤ 2) →
    ((List.range (2 ^ (p + i))).filter fun s => (List.range i).all fun j => okR (l.getD j (0, 0)).2 (s / 2 ^ (p + j) % 2)).length = 2 ^ (p + eithers l i)
  | 0, _ => by
    have : ∀ s : Nat, ((List.range 0).all fun j => okR (l.getD j (0, 0)).2 (s / 2 ^ (p + j) % 2)) = true := fun s => rfl
    rw [List.filter_eq_self.2 fun s _ => this s]
    simp [eithers]
  | i + 1, hr => by
    have ih := many_begin l p i fun j hj => hr j (by omega)
    have hri := hr i (by omega)
    have hM : 2 ^ (p + (i + 1)) = 2 ^ (p + i) + 2 ^ (p + i) := by rw [← Nat.add_assoc, Nat.pow_succ]; omega
    have hpos : 0 < 2 ^ (p + i) := Nat.two_pow_pos _
    rw [hM, show List.range (2 ^ (p + i) + 2 ^ (p + i)) = List.range (2 ^ (p + i)) ++ (List.range (2 ^ (p + i))).map (fun x => 2 ^ (p + i) + x) from List.range_add, List.filter_append, List.length_append, List.filter_map, List.length_map]
    have e1 : (List.range (2 ^ (p + i))).filter (fun s => (List.range (i + 1)).all fun j => okR (l.getD j (0, 0)).2 (s / 2 ^ (p + j) % 2)) = if okR (l.getD i (0, 0)).2 0 = true then (List.range (2 ^ (p + i))).filter (fun s => (List.range i).all fun j => okR (l.getD j (0, 0)).2 (s / 2 ^ (p + j) % 2)) else [] := by
      have hc : ∀ s ∈ List.range (2 ^ (p + i)), ((List.range (i + 1)).all fun j => okR (l.getD j (0, 0)).2 (s / 2 ^ (p + j) % 2)) = (((List.range i).all fun j => okR (l.getD j (0, 0)).2 (s / 2 ^ (p + j) % 2)) && okR (l.getD i (0, 0)).2 0) := fun s hs => by
        have hs := List.mem_range.1 hs
        rw [List.range_succ, List.all_append, List.all_cons, List.all_nil, Bool.and_true, Nat.div_eq_of_lt hs]
      rw [List.filter_congr hc]
      cases okR (l.getD i (0, 0)).2 0 <;> simp
    have e2 : (List.range (2 ^ (p + i))).filter ((fun s => (List.range (i + 1)).all fun j => okR (l.getD j (0, 0)).2 (s / 2 ^ (p + j) % 2)) ∘ fun x => 2 ^ (p + i) + x) = if okR (l.getD i (0, 0)).2 1 = true then (List.range (2 ^ (p + i))).filter (fun s => (List.range i).all fun j => okR (l.getD j (0, 0)).2 (s / 2 ^ (p + j) % 2)) else [] := by
      have hc : ∀ s ∈ List.range (2 ^ (p + i)), ((fun s => (List.range (i + 1)).all fun j => okR (l.getD j (0, 0)).2 (s / 2 ^ (p + j) % 2)) ∘ fun x => 2 ^ (p + i) + x) s = (((List.range i).all fun j => okR (l.getD j (0, 0)).2 (s / 2 ^ (p + j) % 2)) && okR (l.getD i (0, 0)).2 1) := fun s hs => by
        have hs := List.mem_range.1 hs
        show ((List.range (i + 1)).all fun j => okR (l.getD j (0, 0)).2 ((2 ^ (p + i) + s) / 2 ^ (p + j) % 2)) = _
        have hlast : (2 ^ (p + i) + s) / 2 ^ (p + i) % 2 = 1 := by rw [Nat.add_div_left _ hpos, Nat.div_eq_of_lt hs]
        rw [List.range_succ, List.all_append, List.all_cons, List.all_nil, Bool.and_true, hlast]
        congr 1
        refine all_and fun j hj => ?_
        have hj := List.mem_range.1 hj
        obtain ⟨d, hd⟩ : ∃ d, i = j + 1 + d := ⟨i - (j + 1), by omega⟩
        have : 2 ^ (p + i) = 2 ^ (p + j) * (2 * 2 ^ d) := by
          rw [hd, show p + (j + 1 + d) = (p + j) + (1 + d) by omega, Nat.pow_add, Nat.pow_add 2 1 d]
        rw [this, Nat.mul_add_div (Nat.two_pow_pos _), Nat.mul_add_mod]
      rw [List.filter_congr hc]
      cases okR (l.getD i (0, 0)).2 1 <;> simp
    rw [e1, e2, eithers_succ]
    clear e1 e2
    generalize (l.getD i (0, 0)).2 = r at *
    by_cases h2 : r = 2
    · subst h2
      rw [if_pos (show okR 2 0 = true by decide), if_pos (show okR 2 1 = true by decide), if_pos rfl, ih, show p + (eithers l i + 1) = (p + eithers l i) + 1 by omega, Nat.pow_succ]; omega
    · rw [if_neg h2, Nat.add_zero]
      by_cases h0 : r = 0
      · subst h0
        rw [if_pos (show okR 0 0 = true by decide), if_neg (show ¬ okR 0 1 = true by decide), ih]; rfl
      · have h1 : r = 1 := by omega
        subst h1
        rw [if_neg (show ¬ okR 1 0 = true by decide), if_pos (show okR 1 1 = true by decide), ih]; simp
theorem begB_nat (c : Ci) (s : Nat) : begB c s = (List.range c.latches.length).all fun j => okR (c.latches.getD j (0, 0)).2 (s / 2 ^ (c.inputs.toNat + j) % 2) := by
  unfold begB okR
  refine all_and fun j _ => ?_
  rw [fdivN]
  congr 1
/-- A circuit without constraints. -/
def Ci.free (c : Ci) : Ci := { c with cons := [] }
theorem free_ok {c : Ci} (h : c.ok) : c.free.ok := ⟨h.inp, h.llen, h.alen, h.lats, h.pairs, h.outs, h.bads, ⟨fun _ h => by simp [Ci.free] at h, by simp [Ci.free]⟩, h.fair, h.names, h.nlen⟩
theorem free_right {c : Ci} (h : MadeC c) : c.free.right = true := by
  obtain ⟨r1, r2, r3, r4, r5, r6, r7, r8, r9, r10, r11, r12, r13⟩ := right_c.1 h.right
  refine right_c.2 ⟨r1, r2, r3, r4, by simp [Ci.free], r6, r7, r8, r9, r10, by simp [Ci.free], r12, ?_⟩
  simp only [namesB, decide_eq_true_eq] at r13 ⊢
  obtain ⟨n1, n2, n3⟩ := r13
  refine ⟨fun i hi hn => ?_, n2, n3⟩
  obtain ⟨q1, q2, q3⟩ := n1 i hi hn
  refine ⟨q1, q2, ?_⟩
  have hall : ∀ x ∈ c.names, x.kind = 108 ∨ x.kind = 111 := by
    obtain ⟨b1, b2, t, hnm, _⟩ := h.names
    intro x hm
    rw [hnm] at hm
    rcases List.mem_append.1 hm with hm | hm
    · cases b1
      · simp at hm
      · left
        have : x = ⟨108, 0, ⟨#[113]⟩⟩ := by simpa using hm
        rw [this]
    · cases b2
      · simp at hm
      · right
        have : x = ⟨111, c.outs.length - 1, t⟩ := by simpa using hm
        rw [this]
  have hk : c.names[i].kind = 108 ∨ c.names[i].kind = 111 := hall _ (List.getElem_mem hn)
  show c.names[i].pos < c.free.many c.names[i].kind
  rcases hk with hk | hk
  · rw [hk] at q3 ⊢; exact q3
  · rw [hk] at q3 ⊢; exact q3
end Go.Proofs.Ytolgpokppnajdaa.G
set_option linter.unusedVariables false
set_option linter.unusedSimpArgs false
namespace Go.Proofs.Ytolgpokppnajdaa.G
open Go Go.Ab

theorem treeN (l : List Na) : Tree (nL l) := Tree.l fun c hc u hu => by
  obtain ⟨a, ha, rfl⟩ := List.mem_map.1 hc
  unfold Na.row at hu
  simp only [List.mem_cons, List.not_mem_nil, or_false] at hu
  rcases hu with rfl | rfl | rfl <;> exact Tree.v _
theorem J_mv {P : AV → Prop} {S0 : Store} {x : AV} : (∃ q, (x = q ∧ S0 = S0) ∧ P q) = P x := by apply propext; simp
/-- A made circuit's space. -/
theorem made_sp {c : Ci} (h1 : c.right = true) (hi : c.inputs ≤ 3) (hl : c.latches.length ≤ 3) : spaceB c = (spOf c, 0) ∧ ∃ m : Nat, c.inputs.toNat + c.latches.length = m ∧ m ≤ 6 ∧ c.gr.inputs = m ∧ c.inputs = (c.inputs.toNat : Int) ∧ (validOf c).length = 2 ^ m ∧ (spOf c).initial.length = 2 ^ m ∧ (spOf c).next.length = 2 ^ m := by
  obtain ⟨g1, g2, g3⟩ := gr_inp h1
  have hin := (right_c.1 h1).1
  refine ⟨by rw [spaceB, if_neg (by rw [h1]; decide), if_neg (by omega)], c.inputs.toNat + c.latches.length, rfl, by omega, by omega, by omega, ?_, ?_, ?_⟩
  · have : c.gr.inputs.toNat = c.inputs.toNat + c.latches.length := by omega
    simp [validOf, this]
  · have : c.gr.inputs.toNat = c.inputs.toNat + c.latches.length := by omega
    simp [spOf, this]
  · have : c.gr.inputs.toNat = c.inputs.toNat + c.latches.length := by omega
    simp [spOf, this]
theorem pow_le64 {m : Nat} (h : m ≤ 6) : 2 ^ m ≤ 64 := Nat.pow_le_pow_right (by decide) h
theorem pow_cast (m : Nat) : ((2 : Int) ^ m) = ((2 ^ m : Nat) : Int) := by rw [Int.natCast_pow]; rfl

theorem law6 {l : List Int} (hl : ∀ x ∈ l, 0 ≤ x ∧ x < 65536) : Ans Try.prog 6 [aL aW16 l] (aB true) := by
  intro S
  refine ACalls.ans_v (calls6 ?_)
  unfold m6
  refine callF_ans ans7 ?_
  rw [un_not, onB_v, Bool.not_true, gd_false]
  refine .inl ((made9 hl).mono ?_)
  rintro _ S0 ⟨_, rfl, hS, c0, rfl, hc⟩
  have hS := hS.symm
  subst hS
  refine boxA_of rfl fun S1 k1 n1 o1 => ?_
  refine stA_of (cs' := c0.cells) o1 rfl rfl fun S2 n2 o2 f2 => ?_
  have k2 := k1.st (Nat.le_refl _) n2 f2
  rw [shift_p]
  refine stF_of o2 (by simp [Ci.cells]) rfl fun S3 n3 o3 f3 => ?_
  have k3 := k2.st (Nat.le_refl _) n3 f3
  have e3 : c0.cells.set (0 + 5) .nl = [aI c0.inputs, pL c0.latches, pL c0.ands, aL aI c0.outs, aL aI c0.bads, .nl, aL aI c0.fair, nL c0.names] := rfl
  rw [e3] at o3
  rw [ldN_p (n := 8) o3 rfl]
  have hr := free_right hc
  have hok := free_ok hc.ok
  have hsp := made_sp hr hc.inp.2 hc.lats.2
  have hbeg : ∀ s : Nat, begB c0.free s = _ := begB_nat c0.free
  have hinit : (spOf c0.free).initial = (List.range (2 ^ c0.free.gr.inputs.toNat)).map fun s : Nat => (validOf c0.free).getD s false && begB c0.free s := rfl
  have hva : validOf c0.free = (List.range (2 ^ c0.free.gr.inputs.toNat)).map fun s : Nat => ([] : List Int).all (litB ((valsOf c0.free).getD s [])) := rfl
  have hlat : ∀ j, j < c0.latches.length → 0 ≤ (c0.latches.getD j (0, 0)).2 ∧ (c0.latches.getD j (0, 0)).2 ≤ 2 := fun j hj => by
    have := List.all_eq_true.1 (right_c.1 hc.right).2.2.2.2.2.2.2.1 _ (List.getElem_mem hj)
    simp only [latOk, Bool.and_eq_true, decide_eq_true_eq] at this
    rw [show c0.latches.getD j (0, 0) = c0.latches[j] by simp [List.getD_eq_getElem?_getD, hj]]
    exact this.2
  have hans := ans10 hok
  obtain ⟨hs1, m, hm, hm6, hgi, hin, hvl, hil, hnl⟩ := hsp
  rw [hs1] at hans
  have hgt : c0.free.gr.inputs.toNat = m := by rw [hgi]; rfl
  rw [hgt] at hinit hva
  have hvv : ∀ s, s < 2 ^ m → (validOf c0.free).getD s false = true := fun s hs => by rw [hva]; simp [List.getD_eq_getElem?_getD, hs]
  have hnx : ∀ i, i < 2 ^ m → ∃ fl : List Nat, (spOf c0.free).next[i]? = some (fl.map fun y : Nat => (y : Int)) ∧ fl.length = 2 ^ c0.inputs.toNat := fun i hi => by
    obtain ⟨q, fl, hf⟩ := nextF hr hm (by omega) hi
    refine ⟨fl.map fun y => 2 ^ c0.free.inputs.toNat * q + y, by rw [hf.next, List.map_map]; rfl, ?_⟩
    rw [List.length_map, hf.many (hvv i hi)]
    have : (List.range (2 ^ m)).filter (fun k => (validOf c0.free).getD k false && decide (k / 2 ^ c0.free.inputs.toNat = q)) = (List.range (2 ^ m)).filter (fun k => true && decide (k / 2 ^ c0.free.inputs.toNat = q)) :=
      List.filter_congr fun k hk => by rw [hvv k (List.mem_range.1 hk)]
    rw [this, count_block hf.fit fun _ => true, List.filter_eq_self.2 fun _ _ => rfl, List.length_range]
    rfl
  have hmany : ((List.range (2 ^ m)).filter fun s => ((spOf c0.free).initial).getD s false).length = 2 ^ (c0.inputs.toNat + eithers c0.latches c0.latches.length) := by
    rw [← many_begin c0.latches c0.inputs.toNat c0.latches.length hlat]
    have : c0.inputs.toNat + c0.latches.length = m := hm
    rw [this]
    congr 1
    refine List.filter_congr fun s hs => ?_
    have hs := List.mem_range.1 hs
    rw [hinit, List.getD_eq_getElem?_getD, List.getElem?_map, List.getElem?_range hs]
    show ((validOf c0.free).getD s false && begB c0.free s) = _
    rw [hvv s hs, Bool.true_and, hbeg]
    rfl
  have hp64 := pow_le64 hm6
  refine callF_cv' (args := [.a [aI c0.inputs, pL c0.latches, pL c0.ands, aL aI c0.outs, aL aI c0.bads, .nl, aL aI c0.fair, nL c0.names]]) hans rfl (cv_1 (.a _ _ rfl fun k u u2 hk hk2 => ?_)) ?_
  · match k with
    | 0 => cases hk; cases hk2; exact .v _
    | 1 => cases hk; cases hk2; exact treeP _ _ _
    | 2 => cases hk; cases hk2; exact treeP _ _ _
    | 3 => cases hk; cases hk2; exact treeI _ _ _
    | 4 => cases hk; cases hk2; exact treeI _ _ _
    | 5 => cases hk; cases hk2; exact .nl
    | 6 => cases hk; cases hk2; exact treeI _ _ _
    | 7 => cases hk; cases hk2; exact treeN _ _ _
    | k + 8 => simp at hk
  rw [extr0, extr1]
  refine boxA_of rfl fun S4 k4 n4 o4 => ?_
  refine stA_of o4 rfl rfl fun S5 n5 o5 f5 => ?_
  have k5 := k4.st (Nat.le_refl _) n5 f5
  have c5 := (k5.2 _ (by omega)).trans o3
  rw [shift_p, ld1_p c5 rfl rfl]
  have hll : c0.latches.length ≤ 3 := hc.lats.2
  have hein : ∀ i, eithers c0.latches i ≤ i := fun i => by
    have := List.length_filter_le (fun j => decide ((c0.latches.getD j (0, 0)).2 = 2)) (List.range i)
    simpa [eithers] using this
  generalize hsp : spOf c0.free = s at *
  replace o5 : S5.obj S3.n = some (.cells 37 [[aI s.bits, aL aB s.valid, aL aB s.initial, aL (aL aI) s.next, aL (aL aB) s.fair]] true) := o5
  have hv2 : s.valid = validOf c0.free := by rw [← hsp]; rfl
  have hin' : c0.inputs = (c0.inputs.toNat : Int) := hin
  have hi3 : c0.inputs.toNat ≤ 3 := by have := hc.inp; omega
  refine loop6_0 (fun y7 y8 S' => S' = S5 ∧ ∃ i : Nat, y8 = aI i ∧ i ≤ c0.latches.length ∧ y7 = aI ((c0.inputs.toNat + eithers c0.latches i : Nat) : Int))
    (fun _ y _ => c0.latches.length - ((intA y).getD 0).toNat) ⟨rfl, 0, rfl, Nat.zero_le _, by rw [hin']; rfl⟩ ?_
  rintro _ _ S' ⟨rfl, i, rfl, hi, rfl⟩ KE hKE
  unfold b6_0
  rw [shift_p, ld1_p c5 rfl rfl, lenS_pL, bin_lss, onB_v]
  have hei := hein i
  refine gd_of (fun hlt => ?_) (fun hge => ?_)
  · have hlt : i < c0.latches.length := by have := of_decide_eq_true hlt; omega
    have hgd : c0.latches.getD i (0, 0) = c0.latches[i] := by simp [List.getD_eq_getElem?_getD, hlt]
    have hes := eithers_succ c0.latches i
    rw [hgd] at hes
    rw [shift_p, ld1_p c5 rfl rfl, ixS_pL hlt, shift_q, ld1_qj (u := aI c0.latches[i].2) rfl, bin_eql, onB_v]
    refine gd_of (fun h2 => ?_) (fun h2 => ?_)
    · have h2 : c0.latches[i].2 = 2 := of_decide_eq_true h2
      rw [bin_add (by omega) (by omega), bin_add (by omega) (by omega)]
      refine hKE _ _ _ ⟨rfl, i + 1, rfl, hlt, ?_⟩ (by simp [intA]; omega)
      rw [hes, if_pos h2]; rfl
    · have h2 : ¬ c0.latches[i].2 = 2 := of_decide_eq_false h2
      rw [bin_add (by omega) (by omega)]
      refine hKE _ _ _ ⟨rfl, i + 1, rfl, hlt, ?_⟩ (by simp [intA]; omega)
      rw [hes, if_neg h2]; rfl
  have hge : i = c0.latches.length := by have := of_decide_eq_false hge; omega
  subst hge
  clear hKE KE
  have cnt : ∀ k, ((List.range (k + 1)).filter fun t => s.initial.getD t false).length = ((List.range k).filter fun t => s.initial.getD t false).length + if s.initial.getD k false = true then 1 else 0 := fun k => by
    rw [List.range_succ, List.filter_append, List.length_append, List.filter_cons]
    split <;> rfl
  have cntl : ∀ k, ((List.range k).filter fun t => s.initial.getD t false).length ≤ k := fun k => by
    have := List.length_filter_le (fun t => s.initial.getD t false) (List.range k)
    simpa using this
  refine loop6_1 (fun y9 y10 S'' => S'' = S' ∧ ∃ k : Nat, y10 = aI k ∧ k ≤ 2 ^ m ∧ y9 = aI (((List.range k).filter fun t => s.initial.getD t false).length : Nat))
    (fun _ y _ => 2 ^ m - ((intA y).getD 0).toNat) ⟨rfl, 0, rfl, Nat.zero_le _, rfl⟩ ?_
  rintro _ _ S' ⟨rfl, k, rfl, hk, rfl⟩ KE hKE
  unfold b6_1
  rw [shift_p, ld1_p o5 rfl rfl, lenS_aL, bin_lss, onB_v]
  have hck := cntl k
  refine gd_of (fun hlt => ?_) (fun hge => ?_)
  · have hlt : k < s.initial.length := by have := of_decide_eq_true hlt; omega
    have hgd : s.initial.getD k false = s.initial[k] := by simp [List.getD_eq_getElem?_getD, hlt]
    have hcs := cnt k
    rw [hgd] at hcs
    rw [shift_p, ld1_p o5 rfl rfl, ixS_aL hlt, ld1_q, onB_v]
    refine gd_of (fun h2 => ?_) (fun h2 => ?_)
    · rw [bin_add (by omega) (by omega), bin_add (by omega) (by omega)]
      refine hKE _ _ _ ⟨rfl, k + 1, rfl, by omega, ?_⟩ (by simp [intA]; omega)
      rw [hcs, if_pos h2]; rfl
    · rw [bin_add (by omega) (by omega)]
      refine hKE _ _ _ ⟨rfl, k + 1, rfl, by omega, ?_⟩ (by simp [intA]; omega)
      rw [hcs, if_neg (by rw [h2]; decide)]; rfl
  have hge : k = 2 ^ m := by have := of_decide_eq_false hge; omega
  subst hge
  clear hKE KE
  have hshl : ∀ {n : Nat}, n ≤ 60 → ∀ (T : Store) (K : AV → Store → Prop), bin .shl 0 (.v (.int .i64 1)) (aI (n : Int)) T K = K (aI ((2 ^ n : Nat) : Int)) T := fun hn T K => by rw [bin_shl1 hn, pow_cast]
  have hshi : ∀ (T : Store) (K : AV → Store → Prop), bin .shl 0 (.v (.int .i64 1)) (aI c0.inputs) T K = K (aI ((2 ^ c0.inputs.toNat : Nat) : Int)) T := fun T K => by rw [hin', hshl (by omega)]; rfl
  refine loop6_2 (fun y11 S'' => S'' = S' ∧ ∃ k : Nat, y11 = aI k ∧ k ≤ 2 ^ m)
    (fun y _ => 2 ^ m - ((intA y).getD 0).toNat) ⟨rfl, 0, rfl, Nat.zero_le _⟩ ?_
  rintro _ S' ⟨rfl, k, rfl, hk⟩ KE hKE
  unfold b6_2
  rw [shift_p, ld1_p o5 rfl rfl, lenS_aL, bin_lss, onB_v]
  refine gd_of (fun hlt => ?_) (fun hge => ?_)
  · have hlt : k < s.next.length := by have := of_decide_eq_true hlt; omega
    obtain ⟨fl, hfl, hlen⟩ := hnx k (by omega)
    have hrow : s.next[k] = fl.map fun y : Nat => (y : Int) := by rw [List.getElem?_eq_getElem hlt] at hfl; exact Option.some.inj hfl
    show ∃ q : AV, _
    refine ⟨_, by rw [shift_p]; exact ⟨rfl, rfl⟩, ?_⟩
    refine ⟨_, by rw [ld1_p o5 rfl rfl]; exact ⟨rfl, rfl⟩, ?_⟩
    refine ⟨_, by rw [ixS_aL hlt]; exact ⟨rfl, rfl⟩, ?_⟩
    refine ⟨_, by rw [ld1_q]; exact ⟨rfl, rfl⟩, ?_⟩
    refine ⟨_, by rw [lenS_aL]; exact ⟨rfl, rfl⟩, ?_⟩
    refine ⟨_, by rw [shift_p]; exact ⟨rfl, rfl⟩, ?_⟩
    refine ⟨_, by rw [ld1_p c5 rfl rfl]; exact ⟨rfl, rfl⟩, ?_⟩
    refine ⟨_, by rw [hshi]; exact ⟨rfl, rfl⟩, ?_⟩
    refine ⟨_, by rw [bin_neq]; exact ⟨rfl, rfl⟩, ?_⟩
    have : (!decide ((s.next[k].length : Int) = ((2 ^ c0.inputs.toNat : Nat) : Int))) = false := by
      rw [hrow, List.length_map, hlen, decide_eq_true rfl]; rfl
    rw [this, onB_v, gd_false, bin_add (by omega) (by omega)]
    exact hKE _ _ ⟨rfl, k + 1, rfl, by omega⟩ (by simp [intA]; omega)
  have kk : Keep S' S' := Keep.refl _
  have kS : Keep S S' := k3.trans k5
  show onB (aB true) _
  rw [onB_v, gd_true]
  have hlast : c0.inputs + (c0.latches.length : Int) = (m : Int) := by have : c0.inputs.toNat + c0.latches.length = m := hm; omega
  show ∃ q : AV, _
  refine ⟨_, by rw [bin_eql]; exact ⟨rfl, rfl⟩, ?_⟩
  refine ⟨_, ⟨rfl, rfl⟩, ?_⟩
  rw [decide_eq_true rfl, onB_v, gd_true]
  have hle := hein c0.latches.length
  refine ⟨_, by rw [hshl (by omega)]; exact ⟨rfl, rfl⟩, ?_⟩
  refine ⟨_, by rw [bin_eql]; exact ⟨rfl, rfl⟩, ?_⟩
  refine ⟨_, ⟨rfl, rfl⟩, ?_⟩
  rw [hmany, decide_eq_true rfl, onB_v, gd_true]
  refine ⟨_, by rw [shift_p]; exact ⟨rfl, rfl⟩, ?_⟩
  refine ⟨_, by rw [ld1_p o5 rfl rfl]; exact ⟨rfl, rfl⟩, ?_⟩
  refine ⟨_, by rw [lenS_aL]; exact ⟨rfl, rfl⟩, ?_⟩
  refine ⟨_, by rw [shift_p]; exact ⟨rfl, rfl⟩, ?_⟩
  refine ⟨_, by rw [ld1_p c5 rfl rfl]; exact ⟨rfl, rfl⟩, ?_⟩
  refine ⟨_, by rw [shift_p]; exact ⟨rfl, rfl⟩, ?_⟩
  refine ⟨_, by rw [ld1_p c5 rfl rfl]; exact ⟨rfl, rfl⟩, ?_⟩
  refine ⟨_, by rw [lenS_pL]; exact ⟨rfl, rfl⟩, ?_⟩
  refine ⟨aI (m : Int), by rw [bin_add (by omega) (by omega), hlast]; exact ⟨rfl, rfl⟩, ?_⟩
  refine ⟨_, by rw [hshl (by omega)]; exact ⟨rfl, rfl⟩, ?_⟩
  refine ⟨_, by rw [bin_eql]; exact ⟨rfl, rfl⟩, ?_⟩
  refine ⟨_, ⟨rfl, rfl⟩, ?_⟩
  rw [hnl, decide_eq_true rfl]
  exact ⟨rfl, kS⟩
end Go.Proofs.Ytolgpokppnajdaa.G

/- It is proved here that each of the laws of sets (SetsMade, SetsFix, SetsMore, SetsFair) returns true for every input and changes none of its arguments. There is no condition beyond the given statement. -/
import Derived.Test.YthgkalkllfpjpaaS11
import Derived.Test.YthgkalkllfpjpaaGS2
import Derived.Test.YthgkalkllfpjpaaAb9
set_option linter.unusedVariables false
set_option linter.unusedSimpArgs false
namespace Go.Proofs.Ythgkalkllfpjpaa.G
open Go Go.Ab

def bitI (n : Int) (i : Nat) : Bool := decide ((n.fdiv (2 ^ min i 64)).tmod 2 = 1)
def bitsP (n : Int) (m : Nat) : List Bool := tab m (bitI n)
@[simp] theorem bitsP_len (n : Int) (m : Nat) : (bitsP n m).length = m := by simp [bitsP]
abbrev aU (n : Int) : AV := .v (.int .u8 n)
theorem bits_step {S : Store} {K : AV → Store → Prop} (n : Int) (i : Nat) : bin .shr 0 (aI n) (aI i) S (fun v S => bin .rem 0 v (.v (.int .i64 2)) S fun v S => bin .eql 0 v (.v (.int .i64 1)) S K) = K (aB (bitI n i)) S := by
  rw [bin_shr (by omega), bin_rem (by omega), bin_eql]
  rfl
theorem ans15 (n : Int) {m : Nat} (hm : m < 1048576) : Ans Try.prog 15 [aI n, aI m] (aL aB (bitsP n m)) := by
  refine ACalls.ans_own (f := fun b => .bool b) (e := 4) fun S => calls15 ?_
  unfold m15
  refine loop15_0 (fun y x S' => Keep S S' ∧ ∃ i : Nat, x = aI i ∧ i ≤ m ∧ Own S.n S' y 4 ((tab i (bitI n)).map fun b => [aB b]))
    (fun _ x _ => m - ((intA x).getD 0).toNat) ⟨Keep.refl S, 0, rfl, Nat.zero_le _, .nl _ _ _⟩ ?_
  rintro y _ S1 ⟨k1, i, rfl, hi, w1⟩ KE hKE
  unfold b15_0
  rw [bin_lss, onB_v]
  refine gd_of (fun h => ?_) (fun h => ?_)
  · have hlt : i < m := by simpa using h
    rw [bits_step]
    refine bsl1 rfl (fun _ h => by cases h) ?_
    refine w1.app (b := 1) (c := [aB (bitI n i)]) (y := .l [[aB (bitI n i)]]) (by have := k1.1; omega) rfl (by simp; omega) (fun x' S5 ho5 hb5 hx5 => ?_) rfl
    rw [bin_add (by omega) (by omega)]
    refine hKE _ _ _ ⟨w1.keep (Nat.le_refl _) hb5 k1, i + 1, rfl, hlt, ?_⟩ (by simp [intA]; omega)
    rw [tab_succ, List.map_append]
    exact ho5
  · have hge : i = m := by simp at h; omega
    subst hge
    exact ⟨_, rfl, k1, w1⟩

/-- What is behind a state, by the bits of a number. -/
def nextN (n : Nat) (x : Int) (k : Nat) : List Int := ((List.range k).filter (bitI x)).map fun i : Nat => (i : Int)
theorem nextN_succ (n : Nat) (x : Int) (k : Nat) : nextN n x (k + 1) = if bitI x k then nextN n x k ++ [(k : Int)] else nextN n x k := by
  simp only [nextN, List.range_succ, List.filter_append, List.map_append]
  cases h : bitI x k <;> simp [h]
theorem nextN_len (n : Nat) (x : Int) (k : Nat) : (nextN n x k).length ≤ k := by
  simp only [nextN, List.length_map]
  exact Nat.le_trans (List.length_filter_le _ _) (by simp)
def numX (l : List Int) (i : Nat) : Int := if h : i < l.length then IntKind.i64.wrap l[i] else (i : Int) + 1
def madeN (many : Int) : Nat := 1 + (many % 8).toNat
/-- The space by numbers. -/
def madeP (l : List Int) (many valid : Int) (fair : List Int) : Sp :=
  { bits := 3, valid := bitsP (IntKind.i64.wrap valid) (madeN many), initial := bitsP 0 (madeN many), next := tab (madeN many) fun i => nextN (madeN many) (numX l i) (madeN many),
    fair := (fair.take 3).map fun f => bitsP (IntKind.i64.wrap f) (madeN many) }
theorem madeN_le (many : Int) : 1 ≤ madeN many ∧ madeN many ≤ 8 := by unfold madeN; omega
theorem made_small (l : List Int) (many valid : Int) (fair : List Int) : (madeP l many valid fair).small := by
  have h := madeN_le many
  refine ⟨by simp [madeP]; omega, by simp [madeP]; omega, by simp [madeP]; omega, fun x hx => ?_⟩
  simp only [madeP, tab, List.mem_map] at hx
  obtain ⟨i, _, rfl⟩ := hx
  have := nextN_len (madeN many) (numX l i) (madeN many)
  omega
theorem made_fits (l : List Int) (many valid : Int) (fair : List Int) {p : List Bool} (hp : p.length = madeN many) : fits (madeP l many valid fair) [p] = true := by
  rw [fits_one]
  simp only [Bool.and_eq_true, decide_eq_true_eq, List.all_eq_true]
  refine ⟨⟨⟨by simp [madeP, hp], by simp [madeP]⟩, fun x hx => ?_⟩, fun x hx i hi => ?_⟩
  · simp only [madeP, List.mem_map] at hx
    obtain ⟨f, _, rfl⟩ := hx
    simp [madeP]
  · simp only [madeP, tab, List.mem_map] at hx
    obtain ⟨j, _, rfl⟩ := hx
    simp only [nextN, List.mem_map, List.mem_filter, List.mem_range] at hi
    obtain ⟨k, ⟨hk, _⟩, rfl⟩ := hi
    simp [madeP]; omega
theorem tree_sp (s : Sp) : Tree s.av := Tree.a fun u hu => by
  simp only [Sp.cells, List.mem_cons, List.not_mem_nil, or_false] at hu
  rcases hu with rfl | rfl | rfl | rfl | rfl
  · exact Tree.v _
  · exact treeB _
  · exact treeB _
  · exact Tree.aL fun _ _ => treeI _
  · exact Tree.aL fun _ _ => treeB _

theorem ans14 (l : List Int) {many : Int} (h0 : 0 ≤ many) (h1 : many < 256) (valid : Int) (fair : List Int) (hl : l.length ≤ 9223372036854775807) :
    Ans Try.prog 14 [aL aU l, aU many, aU valid, aL aU fair] (madeP l many valid fair).av := by
  intro S
  refine ACalls.ans_deep (calls14 ?_)
  unfold m14
  have hn := madeN_le many
  have hlenAU : ∀ (l : List Int) (K : AV → Store → Prop) (S : Store), lenS (aL aU l) S K = K (.v (.int .i64 l.length)) S := fun l K S => lenS_aL _ _
  refine boxA_of rfl fun S1 k1 n1 o1 => ?_
  have ht : many.tmod 8 = many % 8 := Int.tmod_eq_emod_of_nonneg h0
  rw [convI_64 _ (by omega) (by omega), bin_rem (by omega), ht, bin_add (by omega) (by omega)]
  have hm : (1 + many % 8 : Int) = (madeN many : Nat) := by unfold madeN; omega
  rw [hm, convI_v]
  generalize hN : madeN many = n at hm
  rw [hN] at hn
  refine callF_ans (ans15 _ (by omega)) (callF_ans (ans15 _ (by omega)) ?_)
  refine ⟨[aI 3, aL aB (bitsP (IntKind.i64.wrap valid) n), aL aB (bitsP 0 n), .nl, .nl], rfl, ?_⟩
  refine boxA_of rfl fun S2 k2 n2 o2 => ?_
  refine stA_of o2 rfl rfl fun S3 n3 o3 f3 => ?_
  have k3 : Keep S1 S3 := k2.st (Nat.le_refl _) n3 f3
  have q3 : S3.obj S.n = some (.cells 26 [[aI 0, .nl, .nl, .nl, .nl]] true) := (k3.2 _ (by omega)).trans o1
  have hid : S1.n = S.n + 1 := n1
  rw [hid] at o3 n2 ⊢
  have n3' : S3.n = S.n + 2 := by omega
  -- the rows
  refine loop14_0 (fun z S' => Keep S S' ∧ S'.obj S.n = some (.cells 26 [[aI 0, .nl, .nl, .nl, .nl]] true) ∧ S.n + 2 ≤ S'.n ∧ ∃ i : Nat, z = aI i ∧ i ≤ n ∧ ∃ Y F,
      LOwn S.n F S' Y 28 (tab i fun j => [aL aI (nextN n (numX l j) n)]) ∧ (∀ x, F x ∨ idOf Y x → S.n + 2 ≤ x) ∧ S'.obj (S.n + 1) = some (.cells 26 [[aI 3, aL aB (bitsP (IntKind.i64.wrap valid) n), aL aB (bitsP 0 n), Y, .nl]] true))
    (fun z _ => n - ((intA z).getD 0).toNat) ⟨k1.trans k3, q3, by omega, 0, rfl, Nat.zero_le _, .nl, _, .nl, fun x hx => (by rcases hx with hx | ⟨b, m, hx⟩; exact hx.elim; cases hx), o3⟩ ?_
  clear k1 k2 k3 o1 o2 o3 f3 q3 n1 n2 n3 n3' hid S1 S2 S3
  rintro _ S1 ⟨k1, q1, m1, i, rfl, hi, Y, F, hY, hF, hs⟩ KE hKE
  unfold b14_0
  rw [bin_lss, onB_v]
  refine gd_of (fun h => ?_) (fun h => ?_)
  · have hlt : i < n := by simpa using h
    rw [bin_add (by omega) (by omega), hlenAU, bin_lss, onB_v]
    -- the inner loop, of any number
    have inner : ∀ x : Int, x = numX l i → loopV lv14_1 (vc Try.prog (c14.at_ [1, 1, 1, 0, 1, 0, 0, 1, 0, 0, 1, 1, 1, 0, 1, 0, 0]) (ms14.drop 2)) 86 (env14_1 (aL aU l) (aL aU fair) (.p S.n 0 0) (aI n) (.p (S.n + 1) 0 0) (aI i) (aI x) .nl (.v (.int .i64 0))) S1
        (blockK 2 (seqK (vc Try.prog (c14.at_ [1, 1, 1, 0, 1, 0, 0, 1, 0, 0, 1, 1, 1, 1]) (ms14.drop 2)) (blockK 1 (seqK (vc Try.prog (c14.at_ [1, 1, 1, 0, 1, 0, 0, 1, 1]) (ms14.drop 2)) (thenK (fgK lv14_0 KE) (blockK 0 (seqK (vc Try.prog (c14.at_ [1, 1, 1, 1]) (ms14.drop 2)) (bodyK Try.prog r14 fun r S' => ∃ x F, r = .ret x ∧ Keep S S' ∧ Deep S.n F S' x (madeP l many valid fair).av)))))))) := by
      rintro x hx
      refine loop14_1 (fun y z S' => Keep S S' ∧ S'.obj S.n = some (.cells 26 [[aI 0, .nl, .nl, .nl, .nl]] true) ∧ S.n + 2 ≤ S'.n ∧ ∃ k : Nat, z = aI k ∧ k ≤ n ∧ Own S.n S' y 3 ((nextN n x k).map fun a => [aI a]) ∧ (∀ x, idOf y x → S.n + 2 ≤ x ∧ ¬ F x ∧ ¬ idOf Y x) ∧
          LOwn S.n F S' Y 28 (tab i fun j => [aL aI (nextN n (numX l j) n)]) ∧ S'.obj (S.n + 1) = some (.cells 26 [[aI 3, aL aB (bitsP (IntKind.i64.wrap valid) n), aL aB (bitsP 0 n), Y, .nl]] true))
        (fun _ z _ => n - ((intA z).getD 0).toNat) ⟨k1, q1, m1, 0, rfl, Nat.zero_le _, .nl _ _ _, fun x ⟨b, m, hx⟩ => (by cases hx), hY, hs⟩ ?_
      clear q1 m1 hs hY k1 S1
      rintro y _ S1 ⟨k1, q1, m1, k, rfl, hk, w1, hy, hY, hs⟩ KE1 hKE1
      unfold b14_1
      rw [bin_lss, onB_v]
      refine gd_of (fun h => ?_) (fun h => ?_)
      · have hkn : k < n := by simpa using h
        rw [bin_shr (by omega), bin_rem (by omega), bin_eql, onB_v]
        have hbit : decide (((x.fdiv (2 ^ min (k : Int).toNat IntKind.i64.bits)).tmod 2) = 1) = bitI x k := rfl
        rw [hbit]
        refine gd_of (fun h => ?_) (fun h => ?_)
        · refine bsl1 rfl (fun _ h => by cases h) ?_
          have := nextN_len n x k
          refine w1.app (b := 8) (c := [aI k]) (y := .l [[aI k]]) (by have := k1.1; omega) rfl (by simp; omega) (fun y' S2 w2 hb2 hid2 => ?_) rfl
          rw [bin_add (by omega) (by omega)]
          have hyn : ∀ x, ¬ idOf y x → x < S1.n → S2.obj x = S1.obj x := fun x hx hlt => hb2.obj hlt hx
          refine hKE1 _ _ _ ⟨hb2.keep k1 fun x hx => by have := (hy x hx).1; omega, ?_, by have := hb2.1; omega, k + 1, rfl, hkn, ?_, ?_, hY.frame hb2.1 (fun x hx => ?_), ?_⟩ (by simp [intA]; omega)
          · rw [hyn _ (fun hx => by have := (hy _ hx).1; omega) (by omega)]; exact q1
          · rw [nextN_succ, if_pos h, List.map_append]; exact w2
          · rintro x ⟨b, m, hx⟩
            obtain ⟨m', rfl⟩ := hid2
            cases hx
            exact ⟨by omega, fun hf => Nat.lt_irrefl _ (hY.fp _ hf).2, fun hf => Nat.lt_irrefl _ (hY.id_lt hf).2⟩
          · refine hyn x (fun hq => ?_) ?_
            · have h3 := hy x hq
              rcases hx with hx | hx
              · exact h3.2.1 hx
              · exact h3.2.2 hx
            · rcases hx with hx | hx
              · exact (hY.fp _ hx).2
              · exact (hY.id_lt hx).2
          · rw [hyn _ (fun hx => by have := (hy _ hx).1; omega) (by omega)]; exact hs
        · rw [bin_add (by omega) (by omega)]
          refine hKE1 _ _ _ ⟨k1, q1, m1, k + 1, rfl, hkn, ?_, hy, hY, hs⟩ (by simp [intA]; omega)
          rw [nextN_succ, if_neg (by simp [h])]; exact w1
      · have hge : k = n := by simp at h; omega
        subst hge
        rw [shift_p, ld1_p hs rfl rfl]
        have hyone : y.one = true := by rcases w1 with ⟨rfl, _⟩ | ⟨id, rfl, _⟩ <;> rfl
        have hyA : ∀ cs, y ≠ .a cs := by rcases w1 with ⟨rfl, _⟩ | ⟨id, rfl, _⟩ <;> (intro cs h; cases h)
        refine bsl1 hyone hyA ?_
        have hYG : LOwn S.n (fun z => F z ∨ idOf y z) S1 Y 28 (tab i fun j => [aL aI (nextN k (numX l j) k)]) := hY.or (fun z hz => .inl hz) (fun z hz => by
          rcases hz with hz | ⟨b, m, hz⟩
          · exact hY.fp z hz
          · exact w1.lt hz) (fun z hz hg => by
          rcases hg with hg | hg
          · obtain ⟨b, m, hz⟩ := hz; exact hY.no z b m hz hg
          · exact (hy z hg).2.2 hz)
        refine hYG.app1 (b := 24) (by have := k1.1; omega) (w1.cvon (f := fun a => .int .i64 a) fun z hz => .inr hz) (by simp; omega) rfl fun Y' S2 hY2 hb2 hid2 => ?_
        have hYn : ∀ x, x < S.n + 2 → S2.obj x = S1.obj x := fun x hx => hb2.obj (by omega) (fun hq => by have := hF x (.inr hq); omega)
        rw [shift_p]
        have hs2 := (hYn (S.n + 1) (by omega)).trans hs
        have hY2one : Y'.one = true := by obtain ⟨m, rfl⟩ := hid2; rfl
        refine stF_of hs2 (by simp) hY2one fun S3 n3 o3 f3 => ?_
        rw [bin_add (by omega) (by omega)]
        have hF2 : ∀ z, (F z ∨ idOf y z) ∨ idOf Y' z → S.n + 2 ≤ z := by
          rintro z ((hz | hz) | hz)
          · exact hF z (.inl hz)
          · exact (hy z hz).1
          · obtain ⟨m, rfl⟩ := hid2
            obtain ⟨b, m', hz⟩ := hz
            cases hz; omega
        refine hKE _ _ ⟨(hb2.keep k1 fun z hz => by have := hF z (.inr hz); omega).st (id := S.n + 1) (by omega) n3 f3, ?_, by have := hb2.1; omega, i + 1, rfl, hlt, Y', _, hY2.frame (by omega) (fun z hz => f3 z (by have := hF2 z hz; omega)) |> fun h => ?_, hF2, o3⟩ (by simp [intA]; omega)
        · rw [f3 _ (by omega), hYn _ (by omega)]; exact q1
        · rw [tab_succ, ← hx]; exact h
    refine gd_of (fun h => ?_) (fun h => ?_)
    · have hil : i < l.length := by simpa using h
      rw [ixS_aL hil, ld1_q, convI_v]
      exact inner _ (by simp [numX, hil])
    · have hil : ¬ i < l.length := by simpa using h
      exact inner _ (by simp [numX, hil])
  · have hge : i = n := by simp at h; omega
    subst hge
    -- the sets of Fair
    refine loop14_2 (fun z S' => Keep S S' ∧ S'.obj S.n = some (.cells 26 [[aI 0, .nl, .nl, .nl, .nl]] true) ∧ S.n + 2 ≤ S'.n ∧ ∃ j : Nat, z = aI j ∧ j ≤ fair.length ∧ j ≤ 3 ∧ ∃ Z,
        LOwn S.n F S' Y 28 (tab i fun j => [aL aI (nextN i (numX l j) i)]) ∧ LOwn S.n (fun _ => False) S' Z 22 ((fair.take j).map fun f => [aL aB (bitsP (IntKind.i64.wrap f) i)]) ∧ (∀ x, idOf Z x → S.n + 2 ≤ x ∧ ¬ F x ∧ ¬ idOf Y x) ∧
        S'.obj (S.n + 1) = some (.cells 26 [[aI 3, aL aB (bitsP (IntKind.i64.wrap valid) i), aL aB (bitsP 0 i), Y, Z]] true))
      (fun z _ => fair.length - ((intA z).getD 0).toNat) ⟨k1, q1, m1, 0, rfl, Nat.zero_le _, Nat.zero_le _, .nl, hY, .nl, fun x ⟨b, m, hx⟩ => (by cases hx), hs⟩ ?_
    clear q1 m1 hs hY k1 S1 h
    rintro _ S1 ⟨k1, q1, m1, j, rfl, hj, hj3, Z, hY, hZ, hZi, hs⟩ KE2 hKE2
    have fin : (j = fair.length ∨ j = 3) → ldN 5 (.p (S.n + 1) 0 0) S1 fun v61 S_1 => stN 5 (.p S.n 0 0) v61 S_1 fun v62 S_2 => ldN 5 (.p S.n 0 0) S_2 fun v63 _ => ∃ x F, AEnd.ret v63 = AEnd.ret x ∧ Keep S S_2 ∧ Deep S.n F S_2 x (madeP l many valid fair).av := by
      intro hj'
      rw [ldN_p (n := 5) hs rfl]
      refine stA_of q1 rfl rfl fun S2 n2 o2 f2 => ?_
      rw [ldN_p (n := 5) o2 rfl]
      have hfr : ∀ x, S.n + 2 ≤ x → S2.obj x = S1.obj x := fun x hx => f2 x (by omega)
      have hY2 := hY.frame (S' := S2) (by omega) fun x hx => hfr x (hF x hx)
      have hZ2 := hZ.frame (S' := S2) (by omega) fun x hx => hfr x (by rcases hx with hx | hx; exact hx.elim; exact (hZi x hx).1)
      have ht : (fair.take j) = fair.take 3 := by
        rcases hj' with rfl | rfl
        · rw [List.take_length, List.take_of_length_le (by omega)]
        · rfl
      rw [ht] at hZ2
      refine ⟨_, fun x => (F x ∨ idOf Y x) ∨ idOf Z x, rfl, k1.st (Nat.le_refl _) n2 f2, ?_, ?_⟩
      · refine .a _ _ rfl fun k u u2 hu hu2 => ?_
        match k, hu, hu2 with
        | 0, hu, hu2 => cases hu; cases hu2; exact .v _
        | 1, hu, hu2 => cases hu; cases hu2; simp only [madeP, hN]; exact treeB _ _ _
        | 2, hu, hu2 => cases hu; cases hu2; simp only [madeP, hN]; exact treeB _ _ _
        | 3, hu, hu2 => cases hu; cases hu2; simp only [madeP, hN, aL, tab_map]; exact cv_or hY2.deep.cv fun x hx => .inl hx
        | 4, hu, hu2 =>
          cases hu; cases hu2
          simp only [madeP, hN]
          have := cv_or hZ2.deep.cv (G := fun x => (F x ∨ idOf Y x) ∨ idOf Z x) fun x hx => by rcases hx with hx | hx; exact hx.elim; exact .inr hx
          simpa [aL, Function.comp_def] using this
        | k + 5, hu, _ => simp at hu
      · rintro x ((hx | hx) | hx)
        · exact hY2.fp x hx
        · exact hY2.id_lt hx
        · exact hZ2.id_lt hx
    unfold b14_2
    rw [hlenAU, bin_lss, onB_v]
    refine gd_of (fun h => ?_) (fun h => fin (.inl (by simp at h; omega)))
    have hjl : j < fair.length := by simpa using h
    rw [bin_lss, onB_v]
    refine gd_of (fun h => ?_) (fun h => fin (.inr (by simp at h; omega)))
    have hj3' : j < 3 := by simp at h; omega
    have hT : ∀ {T}, Keep S1 T → T.obj (S.n + 1) = some (.cells 26 [[aI 3, aL aB (bitsP (IntKind.i64.wrap valid) i), aL aB (bitsP 0 i), Y, Z]] true) := fun kT => (kT.2 _ (by omega)).trans hs
    refine ⟨.p (S.n + 1) 0 4, fun T kT => ⟨rfl, rfl⟩, Z, fun T kT => by rw [ld1_p (hT kT) rfl rfl]; exact ⟨rfl, rfl⟩, .q [aU fair[j]] 0, fun T kT => by rw [ixS_aL hjl]; exact ⟨rfl, rfl⟩, aU fair[j], fun T kT => by rw [ld1_q]; exact ⟨rfl, rfl⟩, aI (IntKind.i64.wrap fair[j]), fun T kT => ⟨rfl, rfl⟩,
      aL aB (bitsP (IntKind.i64.wrap fair[j]) i), fun T kT => callF_ans (ans15 _ (by omega)) ⟨rfl, rfl⟩, .l [[aL aB (bitsP (IntKind.i64.wrap fair[j]) i)]], fun T kT => bsl1 rfl (fun _ h => by cases h) ⟨rfl, rfl⟩, ?_⟩
    refine hZ.app1 (b := 24) (by have := k1.1; omega) (treeB _ _ _) (by simp; omega) rfl fun Z' S2 hZ2 hb2 hid2 => ?_
    refine ⟨.p (S.n + 1) 0 4, fun T kT => ⟨rfl, rfl⟩, ?_⟩
    have hZn : ∀ x, x < S1.n → ¬ idOf Z x → S2.obj x = S1.obj x := fun x hx hq => hb2.obj hx hq
    have hlow : ∀ x, x < S.n + 2 → S2.obj x = S1.obj x := fun x hx => hZn x (by omega) fun hq => by have := (hZi x hq).1; omega
    have hs2 := (hlow (S.n + 1) (by omega)).trans hs
    refine stF_of hs2 (by simp) (by obtain ⟨m, rfl⟩ := hid2; rfl) fun S3 n3 o3 f3 => ?_
    rw [bin_add (by omega) (by omega)]
    have hZ'i : ∀ x, idOf Z' x → x = S1.n := by
      rintro x ⟨b, m, hx⟩
      obtain ⟨m', rfl⟩ := hid2
      cases hx; rfl
    refine hKE2 _ _ ⟨(hb2.keep k1 fun z hz => by have := (hZi z hz).1; omega).st (id := S.n + 1) (by omega) n3 f3, ?_, by have := hb2.1; omega, j + 1, rfl, hjl, hj3', Z', (hY.frame hb2.1 fun x hx => ?_).frame (by omega) fun x hx => f3 x (by have := hF x hx; omega),
      hZ2.frame (by omega) (fun x hx => f3 x ?_) |> fun h => ?_, fun x hx => ?_, o3⟩ (by simp [intA]; omega)
    · rw [f3 _ (by omega), hlow _ (by omega)]; exact q1
    · refine hZn x ?_ (fun hq => ?_)
      · rcases hx with hx | hx
        · exact (hY.fp _ hx).2
        · exact (hY.id_lt hx).2
      · rcases hx with hx | hx
        · exact (hZi x hq).2.1 hx
        · exact (hZi x hq).2.2 hx
    · rw [List.take_add_one, List.getElem?_eq_getElem hjl, List.map_append]
      exact h
    · rcases hx with hx | hx
      · exact hx.elim
      · have := hZ'i x hx; omega
    · have := hZ'i x hx
      subst this
      exact ⟨m1, fun hf => Nat.lt_irrefl _ (hY.fp _ hf).2, fun hf => Nat.lt_irrefl _ (hY.id_lt hf).2⟩
end Go.Proofs.Ythgkalkllfpjpaa.G

/- It is proved here that each of the laws of spaces (SpaceAny, SpaceMade, SpaceNext, SpaceInputs) returns true for every input and changes none of its arguments. There is no condition beyond the given statement. -/
import Derived.Test.YtolgpokppnajdaaSpT5
set_option linter.unusedVariables false
set_option linter.unusedSimpArgs false
namespace Go.Proofs.Ytolgpokppnajdaa.G
open Go Go.Ab

theorem law5 {l : List Int} (hl : ∀ x ∈ l, 0 ≤ x ∧ x < 65536) {wh : Int} (hw : 0 ≤ wh ∧ wh < 256) : Ans Try.prog 5 [aL aW16 l, .v (.int .u8 wh)] (aB true) := by
  intro S
  refine ACalls.ans_v (calls5 ?_)
  unfold m5
  refine callF_ans ans7 ?_
  rw [un_not, onB_v, Bool.not_true, gd_false]
  refine .inl ((made9 hl).mono ?_)
  rintro _ S0 ⟨_, rfl, hS, c, rfl, hc⟩
  have hS := hS.symm
  subst hS
  have hr := hc.right
  obtain ⟨hs1, m, hm, hm6, hgi, hin, hvl, hil, hnl⟩ := made_sp hr hc.inp.2 hc.lats.2
  have hans : Ans Try.prog 10 [c.av] (.t [(spOf c).av, aI 0]) := by
    have := ans10 hc.ok
    rwa [hs1] at this
  have hll := hc.lats.2
  have hgt : c.gr.inputs.toNat = m := by rw [hgi]; rfl
  have hp64 := pow_le64 hm6
  have hfl : (spOf c).fair.length = c.fair.length := by simp [spOf]
  have hfr : ∀ r ∈ (spOf c).fair, r.length = 2 ^ m ∧ ∀ i, i < 2 ^ m → r.getD i false = true → (validOf c).getD i false = true := fun r hr => by
    simp only [spOf, List.mem_map, hgt] at hr
    obtain ⟨l, _, rfl⟩ := hr
    refine ⟨by simp, fun i hi h => ?_⟩
    rw [List.getD_eq_getElem?_getD, List.getElem?_map, List.getElem?_range hi] at h
    have h : ((validOf c).getD i false && litB ((valsOf c).getD i []) l) = true := h
    rw [Bool.and_eq_true] at h
    exact h.1
  have hini : ∀ i, i < 2 ^ m → (spOf c).initial.getD i false = true → (validOf c).getD i false = true := fun i hi h => by
    simp only [spOf, hgt] at h
    rw [List.getD_eq_getElem?_getD, List.getElem?_map, List.getElem?_range hi] at h
    have h : ((validOf c).getD i false && begB c i) = true := h
    rw [Bool.and_eq_true] at h
    exact h.1
  have hval : (spOf c).valid = validOf c := rfl
  refine boxA_of rfl fun S1 k1 n1 o1 => ?_
  refine stA_of (cs' := c.cells) o1 rfl rfl fun S2 n2 o2 f2 => ?_
  have k2 := k1.st (Nat.le_refl _) n2 f2
  rw [ldN_p (n := 8) o2 rfl]
  refine callF_ans hans ?_
  rw [extr0, extr1]
  refine boxA_of rfl fun S3 k3 n3 o3 => ?_
  refine stA_of (cs' := (spOf c).cells) o3 rfl rfl fun S4 n4 o4 f4 => ?_
  have k4 := k3.st (Nat.le_refl _) n4 f4
  have c4 := (k4.2 _ (by omega)).trans o2
  have kk : Keep S S4 := k2.trans k4
  replace o4 : S4.obj S2.n = some (.cells 37 [[aI (spOf c).bits, aL aB (validOf c), aL aB (spOf c).initial, aL (aL aI) (spOf c).next, aL (aL aB) (spOf c).fair]] true) := o4
  replace c4 : S4.obj S.n = some (.cells 27 [[aI c.inputs, pL c.latches, pL c.ands, aL aI c.outs, aL aI c.bads, aL aI c.cons, aL aI c.fair, nL c.names]] true) := c4
  have hnx := fun (i : Nat) (hi : i < 2 ^ m) => nextF hr hm (by omega) hi
  generalize hsp : spOf c = s at *
  have hlast : c.inputs + (c.latches.length : Int) = (m : Int) := by omega
  rw [shift_p, ld1_p c4 rfl rfl, shift_p, ld1_p c4 rfl rfl, lenS_pL, bin_add (by omega) (by omega), hlast]
  have hshl : ∀ (T : Store) (K : AV → Store → Prop), bin .shl 0 (.v (.int .i64 1)) (aI (m : Int)) T K = K (aI ((2 ^ m : Nat) : Int)) T := fun T K => by rw [bin_shl1 (by omega), pow_cast]
  have jshl : ∀ (P : AV → Prop), (∃ qq, (bin .shl 0 (.v (.int .i64 1)) (aI (m : Int)) S4 fun v S => v = qq ∧ S = S4) ∧ P qq) = P (aI ((2 ^ m : Nat) : Int)) := fun P => J_of (op := fun K => bin .shl 0 (.v (.int .i64 1)) (aI (m : Int)) S4 K) fun K => hshl _ _
  have l1 : ∀ (P : AV → Prop), (∃ qq, (ld1 (.p S2.n 0 (0 + 1)) S4 fun v S => v = qq ∧ S = S4) ∧ P qq) = P (aL aB (validOf c)) := fun P => J_ldp o4 rfl rfl
  have l2 : ∀ (P : AV → Prop), (∃ qq, (ld1 (.p S2.n 0 (0 + 2)) S4 fun v S => v = qq ∧ S = S4) ∧ P qq) = P (aL aB s.initial) := fun P => J_ldp o4 rfl rfl
  have l3 : ∀ (P : AV → Prop), (∃ qq, (ld1 (.p S2.n 0 (0 + 3)) S4 fun v S => v = qq ∧ S = S4) ∧ P qq) = P (aL (aL aI) s.next) := fun P => J_ldp o4 rfl rfl
  have l4 : ∀ (P : AV → Prop), (∃ qq, (ld1 (.p S2.n 0 (0 + 4)) S4 fun v S => v = qq ∧ S = S4) ∧ P qq) = P (aL (aL aB) s.fair) := fun P => J_ldp o4 rfl rfl
  have l0c : ∀ (P : AV → Prop), (∃ qq, (ld1 (.p S.n 0 (0 + 0)) S4 fun v S => v = qq ∧ S = S4) ∧ P qq) = P (aI c.inputs) := fun P => J_ldp c4 rfl rfl
  have l6c : ∀ (P : AV → Prop), (∃ qq, (ld1 (.p S.n 0 (0 + 6)) S4 fun v S => v = qq ∧ S = S4) ∧ P qq) = P (aL aI c.fair) := fun P => J_ldp c4 rfl rfl
  show ∃ q : AV, _
  (repeat (first | rw [J_shift] | rw [l1] | rw [l2] | rw [l3] | rw [l4] | rw [l6c] | rw [J_lenN hvl] | rw [J_lenN hil] | rw [J_lenN hnl] | rw [J_lenN hfl] | rw [J_len] | rw [jshl] | rw [J_neqS] | rw [J_mv] | rw [onB_v, gd_false]))
  rw [convI_64 _ (by omega) (by omega), hshl]
  have hpos : 0 < 2 ^ m := Nat.two_pow_pos m
  obtain ⟨w, rfl⟩ := Int.eq_ofNat_of_zero_le hw.1
  have hrem : ((w : Int)).tmod ((2 ^ m : Nat) : Int) = ((w % 2 ^ m : Nat) : Int) := by rw [Int.tmod_eq_emod_of_nonneg (by omega), Int.natCast_emod]
  rw [bin_rem (by omega), hrem]
  have hi : w % 2 ^ m < 2 ^ m := Nat.mod_lt _ hpos
  generalize w % 2 ^ m = i at hi ⊢
  obtain ⟨q, fl, hf⟩ := hnx i hi
  have hnl' : i < s.next.length := by omega
  have hrow : s.next[i] = fl.map fun y : Nat => ((2 ^ c.inputs.toNat * q + y : Nat) : Int) := by have := hf.next; rw [hsp, List.getElem?_eq_getElem hnl'] at this; exact Option.some.inj this
  rw [ldN_p (n := 8) c4 rfl]
  refine callF_ans (ans11 hc.ok i) ?_
  rw [hf.after]
  have hvi : (validOf c)[i]'(by omega) = (validOf c).getD i false := by simp [List.getD_eq_getElem?_getD, hvl, hi]
  have hvk : ∀ k (h : k < (validOf c).length), (validOf c)[k] = (validOf c).getD k false := fun k h => by simp [List.getD_eq_getElem?_getD, h]
  have hci : aI c.inputs = aI (c.inputs.toNat : Int) := by rw [← hin]
  have hsh : ∀ (k : Nat) (T : Store) (K : AV → Store → Prop), bin .shr 0 (aI (k : Int)) (aI c.inputs) T K = K (aI ((k / 2 ^ c.inputs.toNat : Nat) : Int)) T := fun k T K => by rw [hci, bin_shrN (by omega), fdivN]
  have hq0 : (2 ^ c.inputs.toNat * q) / 2 ^ c.inputs.toNat = q := Nat.mul_div_cancel_left _ (Nat.two_pow_pos _)
  have hsa : ∀ (T : Store) (K : AV → Store → Prop), bin .shr 0 (aI ((2 ^ c.inputs.toNat * q : Nat) : Int)) (aI c.inputs) T K = K (aI (q : Int)) T := fun T K => by rw [hsh, hq0]
  let cw : Nat → Nat := fun k => ((List.range k).filter fun k => (validOf c).getD i false && ((validOf c).getD k false && decide (k / 2 ^ c.inputs.toNat = q))).length
  have cws : ∀ k, cw (k + 1) = cw k + if ((validOf c).getD i false && ((validOf c).getD k false && decide (k / 2 ^ c.inputs.toNat = q))) = true then 1 else 0 := fun k => by
    simp only [cw, List.range_succ, List.filter_append, List.length_append, List.filter_cons]
    split <;> rfl
  have cwl : ∀ k, cw k ≤ k := fun k => by
    have := List.length_filter_le (fun k => (validOf c).getD i false && ((validOf c).getD k false && decide (k / 2 ^ c.inputs.toNat = q))) (List.range k)
    rw [List.length_range] at this
    exact this
  have cwe : fl.length = cw (2 ^ m) := by
    cases hv : (validOf c).getD i false with
    | true => rw [hf.many hv]; simp only [cw, hv, Bool.true_and]
    | false =>
      rw [hf.none_ hv]
      simp only [cw, hv, Bool.false_and]
      rw [List.filter_eq_nil_iff.2 (by simp)]
  refine loop5_0 (fun y12 y13 S' => S' = S4 ∧ ∃ k : Nat, y13 = aI k ∧ k ≤ 2 ^ m ∧ y12 = aI (cw k))
    (fun _ y _ => 2 ^ m - ((intA y).getD 0).toNat) ⟨rfl, 0, rfl, Nat.zero_le _, rfl⟩ ?_
  rintro _ _ S' ⟨rfl, k, rfl, hk, rfl⟩ KE hKE
  unfold b5_0
  rw [hshl, bin_lss, onB_v]
  have hck := cwl k
  refine gd_of (fun hlt => ?_) (fun hge => ?_)
  · have hlt : k < 2 ^ m := by have : ((k : Int) < ((2 ^ m : Nat) : Int)) := of_decide_eq_true hlt; omega
    have hcs := cws k
    have yes : ((validOf c).getD i false && ((validOf c).getD k false && decide (k / 2 ^ c.inputs.toNat = q))) = true → bin .add 0 (aI (cw k)) (.v (.int .i64 1)) S' fun v S'' => bin .add 0 (aI k) (.v (.int .i64 1)) S'' fun v' S'' => KE 229 (env5_0 (aB true) (.p S.n 0 0) (.p S2.n 0 0) (aI m) (aI i) (aI ((2 ^ c.inputs.toNat * q : Nat) : Int)) v v') S'' := fun h => by
      rw [bin_add (by omega) (by omega), bin_add (by omega) (by omega)]
      refine hKE _ _ _ ⟨rfl, k + 1, rfl, hlt, ?_⟩ (by simp [intA]; omega)
      rw [hcs, if_pos h]; rfl
    have no : ((validOf c).getD i false && ((validOf c).getD k false && decide (k / 2 ^ c.inputs.toNat = q))) = false → bin .add 0 (aI k) (.v (.int .i64 1)) S' fun v' S'' => KE 229 (env5_0 (aB true) (.p S.n 0 0) (.p S2.n 0 0) (aI m) (aI i) (aI ((2 ^ c.inputs.toNat * q : Nat) : Int)) (aI (cw k)) v') S'' := fun h => by
      rw [bin_add (by omega) (by omega)]
      refine hKE _ _ _ ⟨rfl, k + 1, rfl, hlt, ?_⟩ (by simp [intA]; omega)
      rw [hcs, if_neg (by rw [h]; decide)]; rfl
    have jix : ∀ (j : Nat) (h : j < 2 ^ m) (P : AV → Prop), (∃ qq, (ixS 4 1 (aL aB (validOf c)) (aI j) S' fun v S => v = qq ∧ S = S') ∧ P qq) = P (.q [aB ((validOf c).getD j false)] 0) := fun j h P => by rw [J_ix (by omega), hvk]
    have jsk : ∀ (P : AV → Prop), (∃ qq, (bin .shr 0 (aI (k : Int)) (aI c.inputs) S' fun v S => v = qq ∧ S = S') ∧ P qq) = P (aI ((k / 2 ^ c.inputs.toNat : Nat) : Int)) := fun P => J_of (op := fun K => bin .shr 0 (aI (k : Int)) (aI c.inputs) S' K) fun K => hsh _ _ _
    have jsa : ∀ (P : AV → Prop), (∃ qq, (bin .shr 0 (aI ((2 ^ c.inputs.toNat * q : Nat) : Int)) (aI c.inputs) S' fun v S => v = qq ∧ S = S') ∧ P qq) = P (aI (q : Int)) := fun P => J_of (op := fun K => bin .shr 0 (aI ((2 ^ c.inputs.toNat * q : Nat) : Int)) (aI c.inputs) S' K) fun K => hsa _ _
    have jeq : ∀ (a b : Nat) (P : AV → Prop), (∃ qq, (bin .eql 0 (aI (a : Int)) (aI (b : Int)) S' fun v S => v = qq ∧ S = S') ∧ P qq) = P (aB (decide (a = b))) := fun a b P => J_of (op := fun K => bin .eql 0 (aI (a : Int)) (aI (b : Int)) S' K) fun K => by rw [bin_eql, show decide ((a : Int) = b) = decide (a = b) from decide_eq_decide.2 Int.ofNat_inj]
    show ∃ q : AV, _
    rw [J_shift, l1, jix i hi, J_ld, onB_v]
    refine gd_of (fun h3 => ?_) (fun h3 => ?_)
    · rw [J_shift, l1, jix k hlt, J_ld, J_mv, onB_v]
      refine gd_of (fun h4 => ?_) (fun h4 => ?_)
      · rw [J_shift, l0c, jsk, J_shift, l0c, jsa, jeq, J_mv, onB_v]
        exact gd_of (fun h5 => yes (by rw [h3, h4, h5]; rfl)) (fun h5 => no (by rw [h3, h4, h5]; rfl))
      · rw [J_mv, onB_v, gd_false]
        exact no (by rw [h3, h4]; rfl)
    · rw [J_mv, onB_v, gd_false, J_mv, onB_v, gd_false]
      exact no (by rw [h3]; rfl)
  have hge : k = 2 ^ m := by have : ¬ ((k : Int) < ((2 ^ m : Nat) : Int)) := of_decide_eq_false hge; omega
  subst hge
  clear hKE KE hck
  refine loop5_1 (fun y14 S'' => S'' = S' ∧ ∃ k : Nat, y14 = aI k ∧ k ≤ fl.length)
    (fun y _ => fl.length - ((intA y).getD 0).toNat) ⟨rfl, 0, rfl, Nat.zero_le _⟩ ?_
  rintro _ S' ⟨rfl, k, rfl, hk⟩ KE hKE
  unfold b5_1
  have hfl64 : fl.length ≤ 64 := by have := cwl (2 ^ m); omega
  rw [shift_p, ld1_p o4 rfl rfl, ixS_aL hnl', ld1_q, hrow, lenS_aL, List.length_map, bin_lss, onB_v]
  refine gd_of (fun hlt => ?_) (fun hge => ?_)
  · have hlt : k < fl.length := by have := of_decide_eq_true hlt; omega
    rw [shift_p, ld1_p o4 rfl rfl, ixS_aL hnl', ld1_q, hrow, ixS_aL (by rw [List.length_map]; exact hlt), ld1_q, List.getElem_map]
    obtain ⟨hy1, hy2⟩ := hf.mem _ (List.getElem_mem hlt)
    have hfit := hf.fit
    have hX : 2 ^ c.inputs.toNat * q + fl[k] < 2 ^ m := by omega
    have hXq : (2 ^ c.inputs.toNat * q + fl[k]) / 2 ^ c.inputs.toNat = q := by rw [Nat.mul_add_div (Nat.two_pow_pos _), Nat.div_eq_of_lt hy1, Nat.add_zero]
    have hprev : 0 < k → ∃ h : k - 1 < fl.length, fl[k - 1] < fl[k] := fun h0 => ⟨by omega, List.pairwise_iff_getElem.1 hf.up (k - 1) k (by omega) hlt (by omega)⟩
    generalize hXe : 2 ^ c.inputs.toNat * q + fl[k] = X at *
    have jlss : ∀ (P : AV → Prop), (∃ qq, (bin .lss 0 (aI (X : Int)) (.v (.int .i64 0)) S' fun v S => v = qq ∧ S = S') ∧ P qq) = P (aB false) := fun P => J_of (op := fun K => bin .lss 0 (aI (X : Int)) (.v (.int .i64 0)) S' K) fun K => by rw [bin_lss, decide_eq_false (by omega)]
    have jgeq : ∀ (P : AV → Prop), (∃ qq, (bin .geq 0 (aI (X : Int)) (aI ((2 ^ m : Nat) : Int)) S' fun v S => v = qq ∧ S = S') ∧ P qq) = P (aB false) := fun P => J_of (op := fun K => bin .geq 0 (aI (X : Int)) (aI ((2 ^ m : Nat) : Int)) S' K) fun K => by rw [bin_geq, decide_eq_false (by omega)]
    have jixX : ∀ (P : AV → Prop), (∃ qq, (ixS 4 1 (aL aB (validOf c)) (aI (X : Int)) S' fun v S => v = qq ∧ S = S') ∧ P qq) = P (.q [aB true] 0) := fun P => by rw [J_ix (by omega), hvk, hy2]
    have jsX : ∀ (P : AV → Prop), (∃ qq, (bin .shr 0 (aI (X : Int)) (aI c.inputs) S' fun v S => v = qq ∧ S = S') ∧ P qq) = P (aI (q : Int)) := fun P => J_of (op := fun K => bin .shr 0 (aI (X : Int)) (aI c.inputs) S' K) fun K => by rw [hsh, hXq]
    have jsa : ∀ (P : AV → Prop), (∃ qq, (bin .shr 0 (aI ((2 ^ c.inputs.toNat * q : Nat) : Int)) (aI c.inputs) S' fun v S => v = qq ∧ S = S') ∧ P qq) = P (aI (q : Int)) := fun P => J_of (op := fun K => bin .shr 0 (aI ((2 ^ c.inputs.toNat * q : Nat) : Int)) (aI c.inputs) S' K) fun K => hsa _ _
    have jixN : ∀ (P : AV → Prop), (∃ qq, (ixS 24 1 (aL (aL aI) s.next) (aI (i : Int)) S' fun v S => v = qq ∧ S = S') ∧ P qq) = P (.q [aL aI (fl.map fun y : Nat => ((2 ^ c.inputs.toNat * q + y : Nat) : Int))] 0) := fun P => by rw [J_ix hnl', hrow]
    have jgt : ∀ (P : AV → Prop), (∃ qq, (bin .gtr 0 (aI (k : Int)) (.v (.int .i64 0)) S' fun v S => v = qq ∧ S = S') ∧ P qq) = P (aB (decide (0 < k))) := fun P => J_of (op := fun K => bin .gtr 0 (aI (k : Int)) (.v (.int .i64 0)) S' K) fun K => by rw [bin_gtr, show decide ((0 : Int) < k) = decide (0 < k) from decide_eq_decide.2 (by omega)]
    show ∃ q : AV, _
    rcases Nat.eq_zero_or_pos k with h0 | h0
    · rw [decide_eq_false (by omega : ¬ 0 < k)] at jgt
      (repeat (first | rw [J_eq] | rw [J_run] | rw [J_skipFT] | rw [J_skipTF] | rw [J_skipU] | rw [J_pickF] | rw [J_pickT] | rw [jlss] | rw [jgeq] | rw [jshl] | rw [J_shift] | rw [l1] | rw [l0c] | rw [jixX] | rw [J_ld] | rw [J_notT] | rw [jsX] | rw [jsa] | rw [J_neqS] | rw [jgt]))
      show onB (aB false) _
      rw [onB_v, gd_false, bin_add (by omega) (by omega)]
      exact hKE _ _ ⟨rfl, k + 1, rfl, hlt⟩ (by simp [intA]; omega)
    · obtain ⟨hk1, hk2⟩ := hprev h0
      rw [decide_eq_true h0] at jgt
      have jsub : ∀ (P : AV → Prop), (∃ qq, (bin .sub 0 (aI (k : Int)) (.v (.int .i64 1)) S' fun v S => v = qq ∧ S = S') ∧ P qq) = P (aI ((k - 1 : Nat) : Int)) := fun P => J_of (op := fun K => bin .sub 0 (aI (k : Int)) (.v (.int .i64 1)) S' K) fun K => by rw [bin_sub (by omega) (by omega), show (k : Int) - 1 = ((k - 1 : Nat) : Int) by omega]
      have jixR : ∀ (P : AV → Prop), (∃ qq, (ixS 3 1 (aL aI (fl.map fun y : Nat => ((2 ^ c.inputs.toNat * q + y : Nat) : Int))) (aI ((k - 1 : Nat) : Int)) S' fun v S => v = qq ∧ S = S') ∧ P qq) = P (.q [aI ((2 ^ c.inputs.toNat * q + fl[k - 1] : Nat) : Int)] 0) := fun P => by rw [J_ix (by rw [List.length_map]; exact hk1), List.getElem_map]
      have jleq : ∀ (P : AV → Prop), (∃ q', (bin .leq 0 (aI (X : Int)) (aI ((2 ^ c.inputs.toNat * q + fl[k - 1] : Nat) : Int)) S' fun v S => v = q' ∧ S = S') ∧ P q') = P (aB false) := fun P => J_of (op := fun K => bin .leq 0 (aI (X : Int)) (aI ((2 ^ c.inputs.toNat * q + fl[k - 1] : Nat) : Int)) S' K) fun K => by rw [bin_leq, decide_eq_false (by omega)]
      (repeat (first | rw [J_eq] | rw [J_run] | rw [J_skipFT] | rw [J_skipTF] | rw [J_skipU] | rw [J_pickF] | rw [J_pickT] | rw [jlss] | rw [jgeq] | rw [jshl] | rw [J_shift] | rw [l1] | rw [l3] | rw [l0c] | rw [jixX] | rw [J_ld] | rw [J_notT] | rw [jsX] | rw [jsa] | rw [J_neqS] | rw [jgt] | rw [jixN] | rw [jsub] | rw [jixR] | rw [jleq]))
      show onB (aB false) _
      rw [onB_v, gd_false, bin_add (by omega) (by omega)]
      exact hKE _ _ ⟨rfl, k + 1, rfl, hlt⟩ (by simp [intA]; omega)
  have hge : k = fl.length := by have := of_decide_eq_false hge; omega
  subst hge
  clear hKE KE
  have hfa : s.fair.length ≤ 2000 := by have := (right_c.1 hr).2.2.2.2.2.1; omega
  refine loop5_2 (fun y14 S'' => S'' = S' ∧ ∃ k : Nat, y14 = aI k ∧ k ≤ s.fair.length)
    (fun y _ => s.fair.length - ((intA y).getD 0).toNat) ⟨rfl, 0, rfl, Nat.zero_le _⟩ ?_
  rintro _ S' ⟨rfl, k, rfl, hk⟩ KE hKE
  unfold b5_2
  rw [shift_p, ld1_p o4 rfl rfl, lenS_aL, bin_lss, onB_v]
  have jix : ∀ (j : Nat) (h : j < 2 ^ m) (P : AV → Prop), (∃ qq, (ixS 4 1 (aL aB (validOf c)) (aI j) S' fun v S => v = qq ∧ S = S') ∧ P qq) = P (.q [aB ((validOf c).getD j false)] 0) := fun j h P => by rw [J_ix (by omega), hvk]
  refine gd_of (fun hlt => ?_) (fun hge => ?_)
  · have hlt : k < s.fair.length := by have := of_decide_eq_true hlt; omega
    obtain ⟨hr1, hr2⟩ := hfr _ (List.getElem_mem hlt)
    have hgd : (s.fair[k])[i]'(by omega) = (s.fair[k]).getD i false := by simp [List.getD_eq_getElem?_getD, hr1, hi]
    show ∃ q : AV, _
    rw [J_shift, l4, J_ix hlt, J_ld, J_lenN hr1, jshl, J_neqS, onB_v, gd_false]
    rw [J_shift, l4, J_ix hlt, J_ld, J_ix (by omega), J_ld, hgd, onB_v]
    refine gd_of (fun h => ?_) (fun h => ?_)
    · rw [J_shift, l1, jix i hi, J_ld, hr2 i hi h, J_notT, J_mv, J_mv, onB_v, gd_false, bin_add (by omega) (by omega)]
      exact hKE _ _ ⟨rfl, k + 1, rfl, hlt⟩ (by simp [intA]; omega)
    · rw [J_mv, J_mv, onB_v, gd_false, bin_add (by omega) (by omega)]
      exact hKE _ _ ⟨rfl, k + 1, rfl, hlt⟩ (by simp [intA]; omega)
  · have hgd : s.initial[i]'(by omega) = s.initial.getD i false := by simp [List.getD_eq_getElem?_getD, hil, hi]
    rw [onB_v, gd_true, shift_p, ld1_p o4 rfl rfl, ixS_aL hnl', ld1_q, hrow, lenS_aL, List.length_map, bin_eql, cwe, decide_eq_true rfl, onB_v, gd_true, shift_p, ld1_p o4 rfl rfl, ixS_aL (by omega), ld1_q, un_not, onB_v, hgd]
    refine gd_of (fun h => ⟨rfl, kk⟩) (fun h => ?_)
    rw [shift_p, ld1_p o4 rfl rfl, ixS_aL (by omega), ld1_q, hvi, hini i hi (by simpa using h)]
    exact ⟨rfl, kk⟩
end Go.Proofs.Ytolgpokppnajdaa.G

/- It is proved here that each of the laws of sets (SetsMade, SetsFix, SetsMore, SetsFair) returns true for every input and changes none of its arguments. There is no condition beyond the given statement. -/
import Derived.Test.YthgkalkllfpjpaaS14
import Derived.Test.YthgkalkllfpjpaaGS4
set_option linter.unusedVariables false
set_option linter.unusedSimpArgs false
namespace Go.Proofs.Ythgkalkllfpjpaa.G
open Go Go.Ab

theorem fixCases : ∀ (u v b a x g y : Bool), u = (v && (b || (a && x))) → (g = true → a = true ∧ v = true ∧ y = true) →
    (v = false ∧ u = false ∧ g = false) ∨ (v = true ∧ b = true ∧ u = true ∧ g = false) ∨ (v = true ∧ b = true ∧ u = true ∧ g = true ∧ a = true ∧ y = true) ∨ (v = true ∧ b = false ∧ a = false ∧ u = false ∧ g = false) ∨
    (v = true ∧ b = false ∧ a = true ∧ x = true ∧ u = true ∧ g = false) ∨ (v = true ∧ b = false ∧ a = true ∧ x = true ∧ u = true ∧ g = true ∧ y = true) ∨ (v = true ∧ b = false ∧ a = true ∧ x = false ∧ u = false ∧ g = false) ∨
    (v = true ∧ b = false ∧ a = true ∧ x = false ∧ u = false ∧ g = true ∧ y = true) := by
  intro u v b a x g y
  cases v <;> cases b <;> cases a <;> cases x <;> cases g <;> cases y <;> cases u <;> simp

theorem ans5 (l : List Int) {many : Int} (h0 : 0 ≤ many) (h1 : many < 256) (valid : Int) (fair : List Int) (p q : Int) (hl : l.length ≤ 9223372036854775807) :
    Ans Try.prog 5 [aL aU l, aU many, aU valid, aL aU fair, aU p, aU q] (aB true) := by
  intro S
  refine ACalls.ans_v (calls5 ?_)
  unfold m5
  refine callF_ans ans12 ?_
  rw [un_not, onB_v]
  simp only [Bool.not_true, gd_false]
  refine callF_ans (ans14 l h0 h1 valid fair hl) ?_
  have hn := madeN_le many
  have hsm := made_small l many valid fair
  have hft : ∀ {p : List Bool}, p.length = madeN many → fits (madeP l many valid fair) [p] = true := fun h => made_fits l many valid fair h
  have hvl : (madeP l many valid fair).valid.length = madeN many := by simp [madeP]
  generalize hs : madeP l many valid fair = s at *
  generalize hnn : madeN many = n at *
  refine boxA_of rfl fun S1 k1 n1 o1 => ?_
  refine stA_of o1 rfl rfl fun S2 n2 o2 f2 => ?_
  have k2 : Keep S S2 := k1.st (Nat.le_refl _) n2 f2
  rw [shift_p, ld1_p o2 rfl rfl, lenS_aL, hvl, convI_v]
  refine callF_ans (ans15 _ (by omega)) ?_
  rw [convI_v]
  refine callF_ans (ans15 _ (by omega)) ?_
  generalize hA : bitsP (IntKind.i64.wrap p) n = a at *
  generalize hB : bitsP (IntKind.i64.wrap q) n = b at *
  have hal : a.length = n := by rw [← hA]; simp
  have hbl : b.length = n := by rw [← hB]; simp
  have hfa := hft hal
  have hfb := hft hbl
  have fa : Fit s a := Fit.one hsm hfa
  have hL : ∀ K : AV → Store → Prop, ldN 5 (.p S.n 0 0) S2 K = K s.av S2 := fun K => ldN_p (n := 5) o2 rfl
  have cu := ans16 hsm a b
  rw [EUs_of hfa hfb] at cu
  have lu : (euP s a b).length = n := by simp [hbl]
  have cx := ans17 hsm (euP s a b)
  rw [EXs_of (hft lu)] at cx
  have lx : (exP s (euP s a b)).length = n := by simp [hbl]
  have cg := ans18 hsm a
  rw [EGs_of hfa] at cg
  have lg : (egP s a).length = n := by simp [hal]
  have cy := ans17 hsm (egP s a)
  rw [EXs_of (hft lg)] at cy
  have ly : (exP s (egP s a)).length = n := by simp [hal]
  rw [hL]
  refine callF_ans cu ?_
  rw [hL]
  refine callF_ans cx ?_
  rw [hL]
  refine callF_ans cg ?_
  rw [hL]
  refine callF_ans cy ?_
  have hU : ∀ i, i < n → bit (euP s a b) i = (bit s.valid i && (bit b i || (bit a i && bit (exP s (euP s a b)) i))) := fun i hi => eu_fix fa (by omega) (by omega)
  have hG : ∀ i, bit (egP s a) i = true → bit a i = true ∧ bit s.valid i = true ∧ bit (exP s (egP s a)) i = true := fun i hi => by
    have h1 := eg_sub s a i hi
    rw [bit_and, Bool.and_eq_true] at h1
    exact ⟨h1.1, h1.2, eg_next hi⟩
  have hF : ∀ f ∈ s.fair, ∀ i, bit (egP s a) i = true → bit (euP s (egP s a) (andP (egP s a) f)) i = true := fun f hf i hi => eg_fair fa hf hi
  have hfl := fa.fair
  have hfn := hsm.2.2.1
  generalize hu : euP s a b = u at *
  generalize hx : exP s u = x at *
  generalize hg : egP s a = g at *
  generalize hy : exP s g = y at *
  have hne : ∀ {z : List Bool} {A B : Store → Prop} {S : Store}, z.length = n → B S → lenS (aL aB z) S (fun v22 S => bin .neq 0 v22 (.v (.int .i64 n)) S fun v23 S => onB v23 fun b24 => gd b24 (A S) (B S)) := fun hz hB => by
    rw [lenS_aL, hz, bin_neq, onB_v]
    simpa using hB
  refine hne lu (hne lx (hne lg (hne ly ?_)))
  refine loop5_0 (fun y S' => S' = S2 ∧ ∃ i : Nat, y = aI i ∧ i ≤ n) (fun y _ => n - ((intA y).getD 0).toNat) ⟨rfl, 0, rfl, Nat.zero_le _⟩ ?_
  rintro _ S3 ⟨rfl, i, rfl, hi⟩ KE hKE
  unfold b5_0
  rw [bin_lss, onB_v]
  refine gd_of (fun hh => ?_) (fun hh => ?_)
  · have hlt : i < n := by simpa using hh
    have hstep := hKE _ S3 ⟨rfl, i + 1, rfl, hlt⟩ (by simp [intA]; omega)
    have hadd : ∀ K : AV → Store → Prop, ∀ S, bin .add 0 (aI i) (.v (.int .i64 1)) S K = K (aI (i + 1 : Nat)) S := fun K S => bin_add (by omega) (by omega) 0
    have hix : ∀ {l : List Bool} {c : Bool}, l.length = n → bit l i = c → ∀ (P : AV → Prop), (∃ q, (ixS 4 1 (aL aB l) (aI i) S3 fun v S => v = q ∧ S = S3) ∧ P q) = P (.q [aB c] 0) := fun hl hc P => by
      rw [J_ix (by omega), ← hc, bit_get (by omega)]
    have hld : ∀ (P : AV → Prop), (∃ q, (ld1 (.p S.n 0 (0 + 1)) S3 fun v S => v = q ∧ S = S3) ∧ P q) = P (aL aB s.valid) := fun P => J_ldp o2 rfl rfl
    have hU' := hU i hlt
    have hG' := hG i
    clear hU hG hF hfl cu cx cg cy hne
    generalize eu : bit u i = bu at *
    generalize ev : bit s.valid i = bv at *
    generalize eb : bit b i = bb at *
    generalize ea : bit a i = ba at *
    generalize ex : bit x i = bx at *
    generalize eg : bit g i = bg at *
    generalize ey : bit y i = by' at *
    dsimp only
    rcases fixCases bu bv bb ba bx bg by' hU' hG' with ⟨rfl, rfl, rfl⟩ | ⟨rfl, rfl, rfl, rfl⟩ | ⟨rfl, rfl, rfl, rfl, rfl, rfl⟩ | ⟨rfl, rfl, rfl, rfl, rfl⟩ | ⟨rfl, rfl, rfl, rfl, rfl, rfl⟩ | ⟨rfl, rfl, rfl, rfl, rfl, rfl, rfl⟩ | ⟨rfl, rfl, rfl, rfl, rfl, rfl⟩ | ⟨rfl, rfl, rfl, rfl, rfl, rfl, rfl⟩ <;>
      (repeat (first | rw [J_run] | rw [J_skipTF] | rw [J_skipFT] | rw [J_skipU] | rw [J_eq] | rw [hix lu eu] | rw [hix hvl ev] | rw [hix hbl eb] | rw [hix hal ea] | rw [hix lx ex] | rw [hix lg eg] | rw [hix ly ey] | rw [J_ld] | rw [hld] | rw [J_shift] | rw [J_notT] | rw [J_notF] | rw [J_pickT] | rw [J_pickF] | rw [J_neqBs])) <;>
      (rw [onB_v, gd_false, hadd]; exact hstep)
  · clear hKE KE hU hG hh hi i
    refine loop5_1 (fun y S' => S' = S3 ∧ ∃ i : Nat, y = aI i ∧ i ≤ s.fair.length) (fun y _ => s.fair.length - ((intA y).getD 0).toNat) ⟨rfl, 0, rfl, Nat.zero_le _⟩ ?_
    rintro _ S3 ⟨rfl, i, rfl, hi⟩ KE hKE
    unfold b5_1
    rw [shift_p, ld1_p o2 rfl rfl, lenS_aL, bin_lss, onB_v]
    refine gd_of (fun hh => ?_) (fun hh => ⟨rfl, k2⟩)
    have hlt : i < s.fair.length := by simpa using hh
    have hfm := List.getElem_mem hlt
    generalize hfi : s.fair[i] = f at *
    have hf1 := hfl f hfm
    have hf2 := hF f hfm
    have cv := ans16 hsm g (andP g f)
    rw [EUs_of (hft lg) (hft (by simp [lg]))] at cv
    have lv : (euP s g (andP g f)).length = n := by simp [lg]
    refine ⟨s.av, by rw [hL]; exact ⟨rfl, rfl⟩, .p S.n 0 4, ⟨rfl, rfl⟩, aL (aL aB) s.fair, by rw [ld1_p o2 rfl rfl]; exact ⟨rfl, rfl⟩, .q [aL aB f] 0, by rw [ixS_aL hlt, hfi]; exact ⟨rfl, rfl⟩, aL aB f, by rw [ld1_q]; exact ⟨rfl, rfl⟩,
      _, callF_ans (ans19 (by omega) (by omega)) ⟨rfl, rfl⟩, _, callF_ans cv ⟨rfl, rfl⟩, ?_⟩
    generalize hv : euP s g (andP g f) = v at *
    refine loop5_2 (fun y S' => S' = S3 ∧ ∃ i : Nat, y = aI i ∧ i ≤ n) (fun y _ => n - ((intA y).getD 0).toNat) ⟨rfl, 0, rfl, Nat.zero_le _⟩ ?_
    rintro _ S3 ⟨rfl, j, rfl, hj⟩ KE2 hKE2
    unfold b5_2
    rw [bin_lss, onB_v]
    refine gd_of (fun hh => ?_) (fun hh => ?_)
    · have hjn : j < n := by simpa using hh
      have hstep := hKE2 _ S3 ⟨rfl, j + 1, rfl, hjn⟩ (by simp [intA]; omega)
      refine hne lv ?_
      rw [ixB (by omega), ld1_q, onB_v]
      refine gd_of (fun h => ?_) (fun h => ?_)
      · rw [ixB (by omega), ld1_q, hf2 j h, un_not, onB_v]
        simp only [Bool.not_true, gd_false]
        rw [bin_add (by omega) (by omega)]
        exact hstep
      · rw [bin_add (by omega) (by omega)]
        exact hstep
    · rw [bin_add (by omega) (by omega)]
      exact hKE _ _ ⟨rfl, i + 1, rfl, hlt⟩ (by simp [intA]; omega)
end Go.Proofs.Ythgkalkllfpjpaa.G

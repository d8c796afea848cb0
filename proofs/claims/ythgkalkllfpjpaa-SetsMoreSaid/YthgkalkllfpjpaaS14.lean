/- It is proved here that each of the laws of sets (SetsMade, SetsFix, SetsMore, SetsFair) returns true for every input and changes none of its arguments. There is no condition beyond the given statement. -/
import Derived.Test.YthgkalkllfpjpaaS13
import Derived.Test.YthgkalkllfpjpaaAb10
set_option linter.unusedVariables false
set_option linter.unusedSimpArgs false
namespace Go.Proofs.Ythgkalkllfpjpaa.G
open Go Go.Ab

theorem ans4 (l : List Int) {many : Int} (h0 : 0 ≤ many) (h1 : many < 256) (valid : Int) (fair : List Int) (p q : Int) (hl : l.length ≤ 9223372036854775807) :
    Ans Try.prog 4 [aL aU l, aU many, aU valid, aL aU fair, aU p, aU q] (aB true) := by
  intro S
  refine ACalls.ans_v (calls4 ?_)
  unfold m4
  refine callF_ans (ans14 l h0 h1 valid fair hl) ?_
  have hn := madeN_le many
  have hsm := made_small l many valid fair
  have hvl : (madeP l many valid fair).valid.length = madeN many := by simp [madeP]
  generalize hs : madeP l many valid fair = s at *
  refine boxA_of rfl fun S1 k1 n1 o1 => ?_
  refine stA_of o1 rfl rfl fun S2 n2 o2 f2 => ?_
  have k2 : Keep S S2 := k1.st (Nat.le_refl _) n2 f2
  rw [shift_p, ld1_p o2 rfl rfl, lenS_aL, hvl]
  refine ⟨aB true, callF_ans ans12 ⟨rfl, rfl⟩, ?_⟩
  rw [onB_v, gd_true]
  exact ⟨s.av, by rw [ldN_p (n := 5) o2 rfl]; exact ⟨rfl, rfl⟩, aI (IntKind.i64.wrap p), ⟨rfl, rfl⟩, _, callF_ans (ans15 _ (by omega)) ⟨rfl, rfl⟩, aI (IntKind.i64.wrap q), ⟨rfl, rfl⟩, _, callF_ans (ans15 _ (by omega)) ⟨rfl, rfl⟩,
    _, callF_ans (ans13 hsm _ _) ⟨rfl, rfl⟩, _, ⟨rfl, rfl⟩, rfl, k2⟩

theorem EXs_of {s : Sp} {p : List Bool} (h : fits s [p] = true) : EXs s p = exP s p := by rw [EXs, if_pos h]
theorem EGs_of {s : Sp} {p : List Bool} (h : fits s [p] = true) : EGs s p = egP s p := by rw [EGs, if_pos h]
theorem EUs_of {s : Sp} {p q : List Bool} (h : fits s [p] = true) (k : fits s [q] = true) : EUs s p q = euP s p q := by rw [EUs, if_pos (by rw [fits_two, h, k]; rfl)]

theorem slc_tail {α : Type} {f : α → AV} {l : List α} {e : Nat} (h : 0 < l.length) {S : Store} {K : AV → Store → Prop} : slc e 1 (aL f l) (some (.v (.int .i64 1))) none none S K = K (aL f l.tail) S := by
  have h1 : (1 : Int) ≤ l.length := by omega
  have h2 : ((l.length : Int) - 1).toNat = l.length - 1 := by omega
  simp only [slc, aL, bnd, intA, optP_some, List.length_map]
  have h3 : List.take ((l.length : Int) - 1).toNat (List.drop (Int.toNat 1) (List.map (fun x => [f x]) l)) = List.map (fun x => [f x]) l.tail := by
    rw [h2]
    cases l with
    | nil => simp at h
    | cons a l => simp [List.take_of_length_le]
  rw [h3]
  simp [h1]

/-- A place in a row of bits. -/
theorem ixB {l : List Bool} {e i : Nat} (h : i < l.length) {S : Store} {K : AV → Store → Prop} : ixS e 1 (aL aB l) (aI i) S K = K (.q [aB (bit l i)] 0) S := by
  rw [ixS_aL h, bit_get h]

theorem ans7 (l : List Int) {many : Int} (h0 : 0 ≤ many) (h1 : many < 256) (valid : Int) (fair : List Int) (p : Int) (hl : l.length ≤ 9223372036854775807) :
    Ans Try.prog 7 [aL aU l, aU many, aU valid, aL aU fair, aU p] (aB true) := by
  intro S
  refine ACalls.ans_v (calls7 ?_)
  unfold m7
  refine callF_ans ans12 ?_
  rw [un_not, onB_v]
  simp only [Bool.not_true, gd_false]
  refine callF_ans (ans14 l h0 h1 valid fair hl) ?_
  have hn := madeN_le many
  have hsm := made_small l many valid fair
  have hft : ∀ {p : List Bool}, p.length = madeN many → fits (madeP l many valid fair) [p] = true := fun h => made_fits l many valid fair h
  have hvl : (madeP l many valid fair).valid.length = madeN many := by simp [madeP]
  generalize hs : madeP l many valid fair = s at *
  generalize hnn : madeN many = n at *
  refine boxA_of rfl fun S1 k1 n1 o1 => ?_
  refine stA_of o1 rfl rfl fun S2 n2 o2 f2 => ?_
  have k2 : Keep S S2 := k1.st (Nat.le_refl _) n2 f2
  rw [shift_p, ld1_p o2 rfl rfl, lenS_aL, hvl, convI_v]
  refine callF_ans (ans15 _ (by omega)) ?_
  generalize hA : bitsP (IntKind.i64.wrap p) n = a
  have hal : a.length = n := by rw [← hA]; simp
  rw [ldN_p (n := 5) o2 rfl]
  have c1 := ans18 hsm a
  rw [EGs_of (hft hal)] at c1
  refine callF_ans c1 ?_
  rw [ldN_p (n := 5) o2 rfl]
  have c2 := ans18 hsm (egP s a)
  rw [EGs_of (hft (by simp [hal])), eg_idem] at c2
  refine callF_ans c2 ?_
  rw [ldN_p (n := 5) o2 rfl]
  refine boxA_of rfl fun S3 k3 n3 o3 => ?_
  refine stA_of o3 rfl rfl fun S4 n4 o4 f4 => ?_
  have k4 : Keep S S4 := k2.trans (k3.st (Nat.le_refl _) n4 f4)
  -- the loop, of a space with more in EG
  have main : ∀ (h : List Bool) (S5 : Store), Keep S S5 → h.length = n → Sub (egP s a) h →
      loopV lv7_0 (vc Try.prog (c7.at_ [1, 1, 1, 1, 1, 1, 1, 1, 1, 1, 1, 0, 1, 0, 0]) (ms7.drop 1)) 87 (env7_0 (aB true) (aI n) (aL aB (egP s a)) (aL aB (egP s a)) (aL aB h) (.v (.int .i64 0))) S5
        (blockK 0 (seqK (vc Try.prog (c7.at_ [1, 1, 1, 1, 1, 1, 1, 1, 1, 1, 1, 1]) (ms7.drop 1)) (bodyK Try.prog r7 fun r S' => r = .ret (aB true) ∧ Keep S S'))) := by
    intro h S5 k5 hhl hsub
    refine loop7_0 (fun y S' => S' = S5 ∧ ∃ i : Nat, y = aI i ∧ i ≤ n) (fun y _ => n - ((intA y).getD 0).toNat) ⟨rfl, 0, rfl, Nat.zero_le _⟩ ?_
    rintro _ S5 ⟨rfl, i, rfl, hi⟩ KE hKE
    unfold b7_0
    rw [bin_lss, onB_v]
    refine gd_of (fun hh => ?_) (fun hh => ?_)
    · have hlt : i < n := by simpa using hh
      have e1 : ((egP s a).length : Int) = n := by simp [hal]
      have e2 : (h.length : Int) = n := by omega
      have hstep : KE 87 (env7_0 (aB true) (aI n) (aL aB (egP s a)) (aL aB (egP s a)) (aL aB h) (aI (i + 1 : Nat))) S5 := hKE _ _ ⟨rfl, i + 1, rfl, hlt⟩ (by simp [intA]; omega)
      rw [lenS_aL, e1, bin_neq, onB_v]
      simp only [decide_true, Bool.not_true, gd_false]
      rw [lenS_aL, e2, bin_neq, onB_v]
      simp only [decide_true, Bool.not_true, gd_false]
      rw [ixB (by simp; omega), ld1_q, onB_v]
      refine gd_of (fun hg => ?_) (fun hg => ?_)
      · rw [ixB (by omega), ld1_q, un_not, onB_v, hsub i hg]
        simp only [Bool.not_true, gd_false]
        rw [bin_add (by omega) (by omega)]
        exact hstep
      · rw [bin_add (by omega) (by omega)]
        exact hstep
    · rw [onB_v, gd_true]
      exact callF_ans (ans20' (by simp; omega)) ⟨rfl, k5⟩
  rw [shift_p, ld1_p o4 rfl rfl, lenS_aL, bin_gtr, onB_v]
  refine gd_of (fun h => ?_) (fun h => ?_)
  · have hpos : 0 < s.fair.length := by simpa using h
    rw [shift_p, ld1_p o4 rfl rfl, slc_tail hpos, shift_p]
    refine stF_of o4 (by simp [Sp.cells]) rfl fun S6 n6 o6 f6 => ?_
    rw [ldN_p (n := 5) o6 (by simp [Sp.cells])]
    have k6 : Keep S S6 := k4.st (id := S2.n) (by have := k2.1; omega) n6 f6
    have hfl := fits_less (hft hal)
    have c3 := ans18 (less_small hsm) a
    rw [EGs_of hfl] at c3
    refine callF_ans c3 ?_
    exact main _ _ k6 (by simp [hal]) (eg_less s a)
  · rw [ldN_p (n := 5) o4 rfl]
    refine callF_ans c1 ?_
    exact main _ _ k4 (by simp [hal]) (Sub.refl _)

theorem ans6 (l : List Int) {many : Int} (h0 : 0 ≤ many) (h1 : many < 256) (valid : Int) (fair : List Int) {p : Int} (p0 : 0 ≤ p) (p1 : p < 256) (more : Int) (hl : l.length ≤ 9223372036854775807) :
    Ans Try.prog 6 [aL aU l, aU many, aU valid, aL aU fair, aU p, aU more] (aB true) := by
  intro S
  refine ACalls.ans_v (calls6 ?_)
  unfold m6
  refine callF_ans ans12 ?_
  rw [un_not, onB_v]
  simp only [Bool.not_true, gd_false]
  refine callF_ans (ans14 l h0 h1 valid fair hl) ?_
  have hn := madeN_le many
  have hsm := made_small l many valid fair
  have hft : ∀ {p : List Bool}, p.length = madeN many → fits (madeP l many valid fair) [p] = true := fun h => made_fits l many valid fair h
  have hvl : (madeP l many valid fair).valid.length = madeN many := by simp [madeP]
  generalize hs : madeP l many valid fair = s at *
  generalize hnn : madeN many = n at *
  refine boxA_of rfl fun S1 k1 n1 o1 => ?_
  refine stA_of o1 rfl rfl fun S2 n2 o2 f2 => ?_
  have k2 : Keep S S2 := k1.st (Nat.le_refl _) n2 f2
  rw [shift_p, ld1_p o2 rfl rfl, lenS_aL, hvl, convI_v]
  refine callF_ans (ans15 _ (by omega)) ?_
  have hor : ∀ K : AV → Store → Prop, bin .or 0 (aU p) (aU more) S2 K = K (aU (orU p more)) S2 := fun K => by
    simp only [bin, b2, isSh, cmpI, ariI, orU, optP_some, Option.map_some, if_true, Bool.false_eq_true, if_false]
    rfl
  rw [hor, convI_v]
  refine callF_ans (ans15 _ (by omega)) ?_
  have hab : Sub (bitsP (IntKind.i64.wrap p) n) (bitsP (IntKind.i64.wrap (orU p more)) n) := fun i hi => by
    have hin : i < n := by simpa using bit_lt hi
    rw [bitsP, bit_tab hin] at hi ⊢
    exact bitI_or p0 p1 (by omega) hi
  generalize hA : bitsP (IntKind.i64.wrap p) n = a at *
  generalize hB : bitsP (IntKind.i64.wrap (orU p more)) n = b at *
  have hal : a.length = n := by rw [← hA]; simp
  have hbl : b.length = n := by rw [← hB]; simp
  have hfa := hft hal
  have hfb := hft hbl
  have hL : ∀ K : AV → Store → Prop, ldN 5 (.p S.n 0 0) S2 K = K s.av S2 := fun K => ldN_p (n := 5) o2 rfl
  have cx := ans17 hsm a
  have cy := ans17 hsm b
  have cu := ans16 hsm a a
  have cv := ans16 hsm b b
  have cg := ans18 hsm a
  have ch := ans18 hsm b
  rw [EXs_of hfa] at cx
  rw [EXs_of hfb] at cy
  rw [EUs_of hfa hfa] at cu
  rw [EUs_of hfb hfb] at cv
  rw [EGs_of hfa] at cg
  rw [EGs_of hfb] at ch
  refine ⟨s.av, by rw [hL]; exact ⟨rfl, rfl⟩, _, callF_ans cx ⟨rfl, rfl⟩, s.av, by rw [hL]; exact ⟨rfl, rfl⟩, _, callF_ans cy ⟨rfl, rfl⟩, s.av, by rw [hL]; exact ⟨rfl, rfl⟩, _, callF_ans cu ⟨rfl, rfl⟩, s.av, by rw [hL]; exact ⟨rfl, rfl⟩, _, callF_ans cv ⟨rfl, rfl⟩,
    s.av, by rw [hL]; exact ⟨rfl, rfl⟩, _, callF_ans cg ⟨rfl, rfl⟩, s.av, by rw [hL]; exact ⟨rfl, rfl⟩, _, callF_ans ch ⟨rfl, rfl⟩, ?_⟩
  have sx : Sub (exP s a) (exP s b) := exP_mono hab (by omega)
  have su : Sub (euP s a a) (euP s b b) := euP_mono hab hab (by omega)
  have sg : Sub (egP s a) (egP s b) := eg_mono hab (by omega)
  have lx : (exP s a).length = n := by simp [hal]
  have ly : (exP s b).length = n := by simp [hbl]
  have lu : (euP s a a).length = n := by simp [hal]
  have lv : (euP s b b).length = n := by simp [hbl]
  have lg : (egP s a).length = n := by simp [hal]
  have lh : (egP s b).length = n := by simp [hbl]
  generalize exP s a = x at *
  generalize exP s b = y at *
  generalize euP s a a = u at *
  generalize euP s b b = v at *
  generalize egP s a = g at *
  generalize egP s b = h at *
  refine loop6_0 (fun y S' => S' = S2 ∧ ∃ i : Nat, y = aI i ∧ i ≤ n) (fun y _ => n - ((intA y).getD 0).toNat) ⟨rfl, 0, rfl, Nat.zero_le _⟩ ?_
  rintro _ S3 ⟨rfl, i, rfl, hi⟩ KE hKE
  unfold b6_0
  rw [bin_lss, onB_v]
  refine gd_of (fun hh => ?_) (fun hh => ⟨rfl, k2⟩)
  have hlt : i < n := by simpa using hh
  have hstep := hKE _ S3 ⟨rfl, i + 1, rfl, hlt⟩ (by simp [intA]; omega)
  have hadd : ∀ K : AV → Store → Prop, ∀ S, bin .add 0 (aI i) (.v (.int .i64 1)) S K = K (aI (i + 1 : Nat)) S := fun K S => bin_add (by omega) (by omega) 0
  have hix : ∀ {l : List Bool} {c : Bool}, l.length = n → bit l i = c → ∀ (P : AV → Prop), (∃ q, (ixS 4 1 (aL aB l) (aI i) S3 fun v S => v = q ∧ S = S3) ∧ P q) = P (.q [aB c] 0) := fun hl hc P => by
    rw [J_ix (by omega), ← hc, bit_get (by omega)]
  have sx' := sx i
  have su' := su i
  have sg' := sg i
  generalize hx : bit x i = bx at *
  generalize hu : bit u i = bu at *
  generalize hg : bit g i = bg at *
  generalize hy : bit y i = by' at *
  generalize hv : bit v i = bv at *
  generalize hh' : bit h i = bh at *
  have fin : ∀ (c d : Bool), (c = true → d = true) → (c = true ∧ d = true) ∨ c = false := fun c d h => by cases c <;> simp_all
  dsimp only
  rcases fin _ _ sx' with ⟨rfl, rfl⟩ | rfl <;> rcases fin _ _ su' with ⟨rfl, rfl⟩ | rfl <;> rcases fin _ _ sg' with ⟨rfl, rfl⟩ | rfl <;>
    (repeat (first | rw [J_run] | rw [J_skipTF] | rw [J_skipFT] | rw [J_skipU] | rw [J_eq] | rw [J_lenN lx] | rw [J_lenN ly] | rw [J_lenN lu] | rw [J_lenN lv] | rw [J_lenN lg] | rw [J_lenN lh] | rw [J_neqS] | rw [hix lx hx] | rw [hix ly hy] | rw [hix lu hu] | rw [hix lv hv] | rw [hix lg hg] | rw [hix lh hh'] | rw [J_ld] | rw [J_notT] | rw [J_notF] | rw [J_pickT] | rw [J_pickF])) <;>
    (rw [onB_v, gd_false, hadd]; exact hstep)
end Go.Proofs.Ythgkalkllfpjpaa.G

/- Tree -/
import Derived.Test.YtolgpokppnajdaaGreatProg
import Derived.KernelRfl
import Derived.Test.YtolgpokppnajdaaGreatWdT4
set_option linter.unusedVariables false
set_option linter.unusedSimpArgs false
namespace Go.Proofs.YtolgpokppnajdaaGreat.G
open Go Go.Ab
section
variable {H:Type} {enc:TypeId × Value → H} {w:World} {sp:Nat → Bool} {held:Bool}
theorem u8_wf {n:Int} (h:(Lit.int .u8 n).wf = true):0 ≤ n ∧ n < 256:=by
  simp [Lit.wf,IntKind.min,IntKind.max,IntKind.bits,IntKind.signed] at h
  omega
theorem u16_wf {n:Int} (h:(Lit.int .u16 n).wf = true):0 ≤ n ∧ n < 65536:=by
  simp [Lit.wf,IntKind.min,IntKind.max,IntKind.bits,IntKind.signed] at h
  omega
theorem opU:Opens enc Tryz.prog w sp held 5 1 (fun n:Int=>[AV.v (.int .u8 n)]) (fun n=>(Lit.int .u8 n).wf = true):=opens_int Tryz.underlying5
theorem opV:Opens enc Tryz.prog w sp held 126 1 (fun n:Int=>[aW16 n]) (fun n=>(Lit.int .u16 n).wf = true):=opens_int Tryz.underlying126
theorem opVs:Opens enc Tryz.prog w sp held 33 1 (fun l:List Int=>[aL aW16 l]) (fun l=>l.length ≤ maxLen ∧ ∀ a ∈ l,(Lit.int .u16 a).wf = true):=opens_slice Tryz.underlying33 (by kernel_rfl) (by decide) opV
end
inductive Fo where
  | mk (kind:Int) (name:ByteArray) (lit:Int) (kids:List Fo)
def Fo.kind:Fo → Int | .mk k _ _ _=>k
def Fo.lit:Fo → Int | .mk _ _ l _=>l
theorem Fo.ind {P:Fo → Prop} (h:∀ k n l ks,(∀ f ∈ ks,P f) → P (.mk k n l ks)) (f:Fo):P f :=
  Fo.rec (motive_1:=P) (motive_2:=fun l=>∀ f ∈ l,P f) (fun k n l ks ih=>h k n l ks ih) (fun f hf=>by cases hf)
    (fun a l ha hl f hf=>by
      rcases List.mem_cons.1 hf with rfl | hf
      · exact ha
      · exact hl f hf) f
mutual
def Fo.row:Fo → List AV
  | .mk k n l ks=>[aI k,.v (.string n),aI l,.l (Fo.rows ks)]
def Fo.rows:List Fo → List (List AV)
  | []=>[]
  | f :: fs=>Fo.row f :: Fo.rows fs
end
def foL (l:List Fo):AV:=.l (l.map Fo.row)
theorem Fo.rows_map:∀ l:List Fo,Fo.rows l = l.map Fo.row
  | []=>by rw [Fo.rows]; rfl
  | f :: fs=>by rw [Fo.rows,Fo.rows_map fs]; rfl
theorem Fo.row_mk (k:Int) (n:ByteArray) (l:Int) (ks:List Fo):Fo.row (.mk k n l ks) = [aI k,.v (.string n),aI l,foL ks]:=by rw [Fo.row,Fo.rows_map]; rfl
def Fo.av (f:Fo):AV:=.a f.row
theorem Fo.row_len (f:Fo):f.row.length = 4:=by cases f; rw [Fo.row_mk]; rfl
inductive Fo.ok:Fo → Prop
  | mk (k:Int) (n:ByteArray) (l:Int) (ks:List Fo) (h1:i64R k) (h2:i64R l) (h3:n.size ≤ 9223372036854775807) (h4:ks.length ≤ 1000000) (h:∀ f ∈ ks,Fo.ok f):Fo.ok (.mk k n l ks)
def kidsN (k:Int):Int:=if k < 1 ∨ 18 < k then -1 else if k ≤ 3 then 0 else if k = 4 ∨ 9 ≤ k ∧ k ≤ 14 then 1 else 2
mutual
def Fo.mayB:Fo → Int → Bool
  | .mk k n l ks,d=>decide (0 < d) && (decide (l = 0 ∨ 0 < l ∧ k = 3) && (decide (n = (⟨#[]⟩:ByteArray)) && (decide ((ks.length:Int) = kidsN k) && Fo.mayBs ks (d - 1))))
def Fo.mayBs:List Fo → Int → Bool
  | [],_=>true
  | f :: fs,d=>Fo.mayB f d && Fo.mayBs fs d
end
theorem Fo.mayBs_all:∀ (l:List Fo) (d:Int),Fo.mayBs l d = l.all fun f=>f.mayB d
  | [],d=>by rw [Fo.mayBs]; rfl
  | f :: fs,d=>by rw [Fo.mayBs,Fo.mayBs_all fs]; rfl
theorem Fo.mayB_mk (k:Int) (n:ByteArray) (l:Int) (ks:List Fo) (d:Int):Fo.mayB (.mk k n l ks) d = (decide (0 < d) && (decide (l = 0 ∨ 0 < l ∧ k = 3) && (decide (n = (⟨#[]⟩:ByteArray)) && (decide ((ks.length:Int) = kidsN k) && ks.all fun f=>f.mayB (d - 1))))):=by rw [Fo.mayB,Fo.mayBs_all]
mutual
def Fo.litsB (g:Gr):Fo → Bool
  | .mk k _ l ks=>(decide (k ≠ 3) || g.lit l) && Fo.litsBs g ks
def Fo.litsBs (g:Gr):List Fo → Bool
  | []=>true
  | f :: fs=>Fo.litsB g f && Fo.litsBs g fs
end
theorem Fo.litsBs_all (g:Gr):∀ (l:List Fo),Fo.litsBs g l = l.all fun f=>f.litsB g
  | []=>by rw [Fo.litsBs]; rfl
  | f :: fs=>by rw [Fo.litsBs,Fo.litsBs_all g fs]; rfl
theorem Fo.litsB_mk (g:Gr) (k:Int) (n:ByteArray) (l:Int) (ks:List Fo):Fo.litsB g (.mk k n l ks) = ((decide (k ≠ 3) || g.lit l) && ks.all fun f=>f.litsB g):=by rw [Fo.litsB,Fo.litsBs_all]
noncomputable def mayC (c:Ci) (f:Fo):Bool:=c.right && (f.mayB 60 && f.litsB c.gr)
@[simp] theorem lenS_foL (l:List Fo) {S:Store} {K:AV → Store → Prop}:lenS (foL l) S K = K (aI l.length) S:=by simp [foL]
theorem ixS_foL {l:List Fo} {e i:Nat} {S:Store} {K:AV → Store → Prop} (h:i < l.length):ixS e 4 (foL l) (aI i) S K = K (.q l[i].row 0) S:=by
  unfold foL
  rw [ixS_l (by simpa using h) (by simp [Fo.row_len])]
  simp
theorem ldN_q {c:List AV} {n:Nat} {S:Store} {K:AV → Store → Prop} (h:c.length = n):ldN n (.q c 0) S K = K (.a c) S:=by
  subst h
  simp [ldN,rdN,place]
section
variable {H:Type} {enc:TypeId × Value → H} {w:World} {sp:Nat → Bool} {held:Bool}
theorem opUs:Opens enc Tryz.prog w sp held 25 1 (fun l:List Int=>[aL (fun n=>AV.v (.int .u8 n)) l]) (fun l=>l.length ≤ maxLen ∧ ∀ a ∈ l,(Lit.int .u8 a).wf = true):=opens_slice Tryz.underlying25 (by kernel_rfl) (by decide) opU
end
section
variable {H:Type} {enc:TypeId × Value → H} {w:World} {sp:Nat → Bool} {held:Bool}
end
inductive Tn where
  | mk (kind:Int) (state:Int) (back:Int) (states:List Int) (kids:List Tn)
theorem Tn.ind {P:Tn → Prop} (h:∀ k s b ss ks,(∀ t ∈ ks,P t) → P (.mk k s b ss ks)) (t:Tn):P t :=
  Tn.rec (motive_1:=P) (motive_2:=fun l=>∀ t ∈ l,P t) (fun k s b ss ks ih=>h k s b ss ks ih) (fun t ht=>by cases ht)
    (fun a l ha hl t ht=>by
      rcases List.mem_cons.1 ht with rfl | ht
      · exact ha
      · exact hl t ht) t
mutual
def Tn.row:Tn → List AV
  | .mk k s b ss ks=>[aI k,aI s,aI b,aL aI ss,.l (Tn.rows ks)]
def Tn.rows:List Tn → List (List AV)
  | []=>[]
  | t :: ts=>Tn.row t :: Tn.rows ts
end
def tnL (l:List Tn):AV:=.l (l.map Tn.row)
theorem Tn.rows_map:∀ l:List Tn,Tn.rows l = l.map Tn.row
  | []=>by rw [Tn.rows]; rfl
  | t :: ts=>by rw [Tn.rows,Tn.rows_map ts]; rfl
theorem Tn.row_mk (k s b:Int) (ss:List Int) (ks:List Tn):Tn.row (.mk k s b ss ks) = [aI k,aI s,aI b,aL aI ss,tnL ks]:=by rw [Tn.row,Tn.rows_map]; rfl
def Tn.av (t:Tn):AV:=.a t.row
theorem Tn.row_len (t:Tn):t.row.length = 5:=by cases t; rw [Tn.row_mk]; rfl
section
variable {H:Type} {enc:TypeId × Value → H} {w:World} {sp:Nat → Bool} {held:Bool}
end
end Go.Proofs.YtolgpokppnajdaaGreat.G
set_option linter.unusedVariables false
set_option linter.unusedSimpArgs false
namespace Go.Proofs.YtolgpokppnajdaaGreat.G
open Go Go.Ab
set_option maxRecDepth 100000
noncomputable def c42:Code:=(Tryz.f42.body).getD .skip
noncomputable def r42:List ResultVar:=Tryz.f42.results.toList
def env42_0 (y1 y2 y4 y5 y6:AV):List AV:=[y1,y2,y4,y5,y6]
def lv42_0:List Nat:=[1,2,4,5,6]
def ms42:List (List Nat):=[lv42_0,[]]
def m42 (x0 x1:AV) (S:Store) (Q:PoT):Prop :=
  boxN 24 4 x0 S fun v1 S=>boxN 24 4 (.a [(.v (.int .i64 0)),(.v (.string ByteArray.empty)),(.v (.int .i64 0)),.nl]) S fun v2 S=>shift v1 0 S fun v3 S=>ld1 v3 S fun v4 S=>bld [(0,1),(1,1),(2,1),(3,1)] [(.v (.int .i64 0)),(.v (.string ByteArray.empty)),(.v (.int .i64 0)),.nl] [(0,v4)] S fun v5 S=>boxN 24 4 (.a [(.v (.int .i64 0)),(.v (.string ByteArray.empty)),(.v (.int .i64 0)),.nl]) S fun v6 S=>stN 4 v6 v5 S fun v7 S=>shift v1 0 S fun v8 S=>ld1 v8 S fun v9 S=>bin .eql 0 v9 (.v (.int .i64 3)) S fun v10 S=>onB v10 fun b11=>gd b11 (∃ q12:AV,(∀ T:Store,Keep S T → shift v1 1 T fun v13 S=>v13 = q12 ∧ S = T) ∧ ∃ q14:AV,(∀ T:Store,Keep S T → ld1 q12 T fun v15 S=>v15 = q14 ∧ S = T) ∧ ∃ q16:AV,(∀ T:Store,Keep S T → lenStr q14 T fun v17 S=>v17 = q16 ∧ S = T) ∧ ∃ q18:AV,(∀ T:Store,Keep S T → bin .mul 0 q16 (.v (.int .i64 7)) T fun v19 S=>v19 = q18 ∧ S = T) ∧ ∃ q20:AV,(∀ T:Store,Keep S T → shift v1 1 T fun v21 S=>v21 = q20 ∧ S = T) ∧ ∃ q22:AV,(∀ T:Store,Keep S T → ld1 q20 T fun v23 S=>v23 = q22 ∧ S = T) ∧ ∃ q24:AV,(∀ T:Store,Keep S T → ixStr q22 (.v (.int .i64 0)) T fun v25 S=>v25 = q24 ∧ S = T) ∧ ∃ q26:AV,(∀ T:Store,Keep S T → convI .i64 q24 T fun v27 S=>v27 = q26 ∧ S = T) ∧ ∃ q28:AV,(∀ T:Store,Keep S T → bin .add 0 q18 q26 T fun v29 S=>v29 = q28 ∧ S = T) ∧ ∃ q30:AV,(∀ T:Store,Keep S T → mxI true x1 (.v (.int .i64 1)) T fun v31 S=>v31 = q30 ∧ S = T) ∧ ∃ q32:AV,(∀ T:Store,Keep S T → bin .rem 0 q28 q30 T fun v33 S=>v33 = q32 ∧ S = T) ∧ ∃ q34:AV,(∀ T:Store,Keep S T → shift v6 2 T fun v35 S=>v35 = q34 ∧ S = T) ∧ stN 1 q34 q32 S fun v36 S=>loopV lv42_0 (vc Tryz.prog (c42.at_ [1,1,1,0,1,0,0]) (ms42.drop 1)) 46 (env42_0 x1 v1 v2 v6 (.v (.int .i64 0))) S (blockK 0 (seqK (vc Tryz.prog (c42.at_ [1,1,1,1]) (ms42.drop 1)) (bodyK Tryz.prog r42 Q)))) (loopV lv42_0 (vc Tryz.prog (c42.at_ [1,1,1,0,1,0,0]) (ms42.drop 1)) 46 (env42_0 x1 v1 v2 v6 (.v (.int .i64 0))) S (blockK 0 (seqK (vc Tryz.prog (c42.at_ [1,1,1,1]) (ms42.drop 1)) (bodyK Tryz.prog r42 Q))))
theorem calls42 {x0 x1:AV} {S:Store} {Q:PoT} (h:m42 x0 x1 S Q):ACalls Tryz.prog 42 [x0,x1] S Q :=
  calls_of_vc (fn:=Tryz.f42) (c:=c42) (n:=46) Tryz.func42 (by kernel_rfl) (by kernel_rfl) (by kernel_rfl) ms42 (Eq.mpr (by kernel_rfl) h)
def b42_0 (y1 y2 y4 y5 y6:AV) (S:Store) (KE0:KeT) (Q:PoT):Prop :=
  shift y2 3 S fun v37 S=>ld1 v37 S fun v38 S=>lenS v38 S fun v39 S=>bin .lss 0 y6 v39 S fun v40 S=>onB v40 fun b41=>gd b41 (∃ q42:AV,(∀ T:Store,Keep S T → shift y5 3 T fun v43 S=>v43 = q42 ∧ S = T) ∧ ∃ q44:AV,(∀ T:Store,Keep S T → ld1 q42 T fun v45 S=>v45 = q44 ∧ S = T) ∧ ∃ q46:AV,(∀ T:Store,Keep S T → shift y2 3 T fun v47 S=>v47 = q46 ∧ S = T) ∧ ∃ q48:AV,(∀ T:Store,Keep S T → ld1 q46 T fun v49 S=>v49 = q48 ∧ S = T) ∧ ∃ q50:AV,(∀ T:Store,Keep S T → ixS 24 4 q48 y6 T fun v51 S=>v51 = q50 ∧ S = T) ∧ ∃ q52:AV,(∀ T:Store,Keep S T → ldN 4 q50 T fun v53 S=>v53 = q52 ∧ S = T) ∧ ∃ q54:AV,(∀ T:Store,Keep S T → callF Tryz.prog 42 [q52,y1] T (fun _ _=>False) fun v55 S=>v55 = q54 ∧ S = T) ∧ ∃ q56:AV,(∀ T:Store,Keep S T → bslN 24 4 1 [(.v (.int .i64 0)),(.v (.string ByteArray.empty)),(.v (.int .i64 0)),.nl] [(0,q54)] T fun v57 S=>v57 = q56 ∧ S = T) ∧ appS 24 4 56 q44 q56 S fun v58 S=>∃ q59:AV,(∀ T:Store,Keep S T → shift y5 3 T fun v60 S=>v60 = q59 ∧ S = T) ∧ stN 1 q59 v58 S fun v61 S=>bin .add 0 y6 (.v (.int .i64 1)) S fun v62 S=>KE0 46 (env42_0 y1 y2 y4 y5 v62) S) (ldN 4 y5 S fun v63 S=>stN 4 y4 v63 S fun v64 S=>ldN 4 y4 S fun v65 _=>Q (.ret v65) S)
theorem b42_0_eq (y1 y2 y4 y5 y6:AV) (S:Store) (KE0:KeT) (Q:PoT):vc Tryz.prog (c42.at_ [1,1,1,0,1,0,0]) (ms42.drop 1) (mkE 46 lv42_0 (env42_0 y1 y2 y4 y5 y6)) S (thenK (fgK lv42_0 KE0) (blockK 0 (seqK (vc Tryz.prog (c42.at_ [1,1,1,1]) (ms42.drop 1)) (bodyK Tryz.prog r42 Q)))) = b42_0 y1 y2 y4 y5 y6 S KE0 Q:=by kernel_rfl
theorem loop42_0 {y1 y2 y4 y5:AV} {y60:AV} {S:Store} {Q:PoT} (I:AV → Store → Prop) (μ:AV → Store → Nat) (h0:I y60 S)
    (hr:∀ (y6:AV) (S:Store),I y6 S → ∀ KE0:KeT,(∀ (y6':AV) (S':Store),I y6' S' → μ y6' S' < μ y6 S → KE0 46 (env42_0 y1 y2 y4 y5 y6') S') → b42_0 y1 y2 y4 y5 y6 S KE0 Q) :
    loopV lv42_0 (vc Tryz.prog (c42.at_ [1,1,1,0,1,0,0]) (ms42.drop 1)) 46 (env42_0 y1 y2 y4 y5 y60) S (blockK 0 (seqK (vc Tryz.prog (c42.at_ [1,1,1,1]) (ms42.drop 1)) (bodyK Tryz.prog r42 Q))):=by
  refine ⟨fun n e S=>n = 46 ∧ ∃ y6:AV,e = (env42_0 y1 y2 y4 y5 y6) ∧ I y6 S,fun _ e S=>μ (e.getD 4 .j) S,?_,?_⟩
  · exact ⟨_,_,Wk.refl _ _,rfl,_,rfl,h0⟩
  · rintro _ e S ⟨rfl,y6,rfl,hI⟩
    exact (b42_0_eq _ _ _ _ _ _ _ _).mpr (hr y6 S hI _ (fun y6' S' hI' hm=>⟨_,_,Wk.refl _ _,⟨rfl,_,rfl,hI'⟩,hm⟩))
noncomputable def c187:Code:=(Tryz.f187.body).getD .skip
noncomputable def r187:List ResultVar:=Tryz.f187.results.toList
def env187_0 (y1 y5 y6 y22 y23:AV):List AV:=[y1,y5,y6,y22,y23]
def lv187_0:List Nat:=[1,5,6,22,23]
def ms187:List (List Nat):=[lv187_0,[]]
def m187 (x0 x1:AV) (S:Store) (Q:PoT):Prop :=
  boxN 42 8 x0 S fun v1 S=>ldN 8 v1 S fun v2 S=>callF Tryz.prog 84 [v2] S Q fun v3 S=>boxN 82 2 (.a [(.v (.int .i64 0)),.nl]) S fun v4 S=>stN 2 v4 v3 S fun v5 S=>ldN 8 v1 S fun v6 S=>callF Tryz.prog 85 [v6] S Q fun v7 S=>un .not v7 S fun v8 S=>onB v8 fun b9=>gd b9 (Q (.ret .nl) S) (shift v4 0 S fun v10 S=>ld1 v10 S fun v11 S=>bin .gtr 0 v11 (.v (.int .i64 60)) S fun v12 S=>onB v12 fun b13=>gd b13 (Q (.ret .nl) S) (shift v4 0 S fun v14 S=>ld1 v14 S fun v15 S=>mkN 4 1 [(.v (.bool false))] v15 v15 S fun v16 S=>lenS v16 S fun v17 S=>loopV lv187_0 (vc Tryz.prog (c187.at_ [1,1,1,1,0,1,0,0]) (ms187.drop 1)) 38 (env187_0 x1 v4 v16 v17 (.v (.int .i64 0))) S (blockK 0 (seqK (vc Tryz.prog (c187.at_ [1,1,1,1,1]) (ms187.drop 1)) (bodyK Tryz.prog r187 Q)))))
theorem calls187 {x0 x1:AV} {S:Store} {Q:PoT} (h:m187 x0 x1 S Q):ACalls Tryz.prog 187 [x0,x1] S Q :=
  calls_of_vc (fn:=Tryz.f187) (c:=c187) (n:=38) Tryz.func187 (by kernel_rfl) (by kernel_rfl) (by kernel_rfl) ms187 (Eq.mpr (by kernel_rfl) h)
def b187_0 (y1 y5 y6 y22 y23:AV) (S:Store) (KE0:KeT) (Q:PoT):Prop :=
  bin .lss 0 y23 y22 S fun v18 S=>onB v18 fun b19=>gd b19 (bin .shr 0 y1 y23 S fun v20 S=>bin .and 0 v20 (.v (.int .i64 1)) S fun v21 S=>bin .eql 0 v21 (.v (.int .i64 1)) S fun v22 S=>ixS 4 1 y6 y23 S fun v23 S=>stN 1 v23 v22 S fun v24 S=>bin .add 0 y23 (.v (.int .i64 1)) S fun v25 S=>KE0 38 (env187_0 y1 y5 y6 y22 v25) S) (ldN 2 y5 S fun v26 S=>callF Tryz.prog 154 [v26,y6] S Q fun v27 S=>Q (.ret v27) S)
theorem b187_0_eq (y1 y5 y6 y22 y23:AV) (S:Store) (KE0:KeT) (Q:PoT):vc Tryz.prog (c187.at_ [1,1,1,1,0,1,0,0]) (ms187.drop 1) (mkE 38 lv187_0 (env187_0 y1 y5 y6 y22 y23)) S (thenK (fgK lv187_0 KE0) (blockK 0 (seqK (vc Tryz.prog (c187.at_ [1,1,1,1,1]) (ms187.drop 1)) (bodyK Tryz.prog r187 Q)))) = b187_0 y1 y5 y6 y22 y23 S KE0 Q:=by kernel_rfl
theorem loop187_0 {y1 y5 y6 y22:AV} {y230:AV} {S:Store} {Q:PoT} (I:AV → Store → Prop) (μ:AV → Store → Nat) (h0:I y230 S)
    (hr:∀ (y23:AV) (S:Store),I y23 S → ∀ KE0:KeT,(∀ (y23':AV) (S':Store),I y23' S' → μ y23' S' < μ y23 S → KE0 38 (env187_0 y1 y5 y6 y22 y23') S') → b187_0 y1 y5 y6 y22 y23 S KE0 Q) :
    loopV lv187_0 (vc Tryz.prog (c187.at_ [1,1,1,1,0,1,0,0]) (ms187.drop 1)) 38 (env187_0 y1 y5 y6 y22 y230) S (blockK 0 (seqK (vc Tryz.prog (c187.at_ [1,1,1,1,1]) (ms187.drop 1)) (bodyK Tryz.prog r187 Q))):=by
  refine ⟨fun n e S=>n = 38 ∧ ∃ y23:AV,e = (env187_0 y1 y5 y6 y22 y23) ∧ I y23 S,fun _ e S=>μ (e.getD 4 .j) S,?_,?_⟩
  · exact ⟨_,_,Wk.refl _ _,rfl,_,rfl,h0⟩
  · rintro _ e S ⟨rfl,y23,rfl,hI⟩
    exact (b187_0_eq _ _ _ _ _ _ _ _).mpr (hr y23 S hI _ (fun y23' S' hI' hm=>⟨_,_,Wk.refl _ _,⟨rfl,_,rfl,hI'⟩,hm⟩))
noncomputable def c186:Code:=(Tryz.f186.body).getD .skip
def ms186:List (List Nat):=[[]]
def m186 (x0 x1:AV) (S:Store) (Q:PoT):Prop :=
  bin .geq 0 x1 (.v (.int .i64 0)) S fun v1 S=>onB v1 fun b2=>gd b2 (bin .quo 0 x1 (.v (.int .i64 2)) S fun v3 S=>lenS x0 S fun v4 S=>bin .lss 0 v3 v4 S fun v5 S=>onB v5 fun b6=>gd b6 (bin .quo 0 x1 (.v (.int .i64 2)) S fun v7 S=>ixS 4 1 x0 v7 S fun v8 S=>ld1 v8 S fun v9 S=>bin .and 0 x1 (.v (.int .i64 1)) S fun v10 S=>bin .eql 0 v10 (.v (.int .i64 1)) S fun v11 S=>bin .neq 1 v9 v11 S fun v12 S=>Q (.ret v12) S) (Q (.ret (.v (.bool false))) S)) (Q (.ret (.v (.bool false))) S)
theorem calls186 {x0 x1:AV} {S:Store} {Q:PoT} (h:m186 x0 x1 S Q):ACalls Tryz.prog 186 [x0,x1] S Q :=
  calls_of_vc (fn:=Tryz.f186) (c:=c186) (n:=25) Tryz.func186 (by kernel_rfl) (by kernel_rfl) (by kernel_rfl) ms186 (Eq.mpr (by kernel_rfl) h)
noncomputable def c171:Code:=(Tryz.f171.body).getD .skip
def ms171:List (List Nat):=[[]]
def m171 (x0 x1 x2:AV) (S:Store) (Q:PoT):Prop :=
  boxN 42 8 x0 S fun v1 S=>ldN 8 v1 S fun v2 S=>callF Tryz.prog 187 [v2,x1] S Q fun v3 S=>callF Tryz.prog 186 [v3,x2] S Q fun v4 S=>Q (.ret v4) S
theorem calls171 {x0 x1 x2:AV} {S:Store} {Q:PoT} (h:m171 x0 x1 x2 S Q):ACalls Tryz.prog 171 [x0,x1,x2] S Q :=
  calls_of_vc (fn:=Tryz.f171) (c:=c171) (n:=12) Tryz.func171 (by kernel_rfl) (by kernel_rfl) (by kernel_rfl) ms171 (Eq.mpr (by kernel_rfl) h)
noncomputable def c172:Code:=(Tryz.f172.body).getD .skip
noncomputable def r172:List ResultVar:=Tryz.f172.results.toList
def env172_0 (y2 y4 y5 y15 y16 y17:AV):List AV:=[y2,y4,y5,y15,y16,y17]
def lv172_0:List Nat:=[2,4,5,15,16,17]
def ms172:List (List Nat):=[lv172_0,[]]
def m172 (x0 x1:AV) (S:Store) (Q:PoT):Prop :=
  boxN 42 8 x0 S fun v1 S=>ldN 8 v1 S fun v2 S=>callF Tryz.prog 187 [v2,x1] S Q fun v3 S=>lenS v3 S fun v4 S=>bin .eql 0 v4 (.v (.int .i64 0)) S fun v5 S=>onB v5 fun b6=>gd b6 (Q (.ret (.v (.int .i64 0))) S) (shift v1 1 S fun v7 S=>ld1 v7 S fun v8 S=>lenS v8 S fun v9 S=>loopV lv172_0 (vc Tryz.prog (c172.at_ [1,1,1,0,1,0,0]) (ms172.drop 1)) 35 (env172_0 v1 (.v (.int .i64 0)) v3 v8 v9 (.v (.int .i64 0))) S (blockK 0 (seqK (vc Tryz.prog (c172.at_ [1,1,1,1]) (ms172.drop 1)) (bodyK Tryz.prog r172 Q))))
theorem calls172 {x0 x1:AV} {S:Store} {Q:PoT} (h:m172 x0 x1 S Q):ACalls Tryz.prog 172 [x0,x1] S Q :=
  calls_of_vc (fn:=Tryz.f172) (c:=c172) (n:=35) Tryz.func172 (by kernel_rfl) (by kernel_rfl) (by kernel_rfl) ms172 (Eq.mpr (by kernel_rfl) h)
def b172_0 (y2 y4 y5 y15 y16 y17:AV) (S:Store) (KE0:KeT) (Q:PoT):Prop :=
  bin .lss 0 y17 y16 S fun v10 S=>onB v10 fun b11=>gd b11 (ixS 66 2 y15 y17 S fun v12 S=>ldN 2 v12 S fun v13 S=>boxN 66 2 (.a [(.v (.int .i64 0)),(.v (.int .i64 0))]) S fun v14 S=>stN 2 v14 v13 S fun v15 S=>shift v14 0 S fun v16 S=>ld1 v16 S fun v17 S=>callF Tryz.prog 186 [y5,v17] S Q fun v18 S=>onB v18 fun b19=>gd b19 (shift y2 0 S fun v20 S=>ld1 v20 S fun v21 S=>bin .add 0 v21 y17 S fun v22 S=>bin .shl 0 (.v (.int .i64 1)) v22 S fun v23 S=>bin .or 0 y4 v23 S fun v24 S=>bin .add 0 y17 (.v (.int .i64 1)) S fun v25 S=>KE0 35 (env172_0 y2 v24 y5 y15 y16 v25) S) (bin .add 0 y17 (.v (.int .i64 1)) S fun v26 S=>KE0 35 (env172_0 y2 y4 y5 y15 y16 v26) S)) (Q (.ret y4) S)
theorem b172_0_eq (y2 y4 y5 y15 y16 y17:AV) (S:Store) (KE0:KeT) (Q:PoT):vc Tryz.prog (c172.at_ [1,1,1,0,1,0,0]) (ms172.drop 1) (mkE 35 lv172_0 (env172_0 y2 y4 y5 y15 y16 y17)) S (thenK (fgK lv172_0 KE0) (blockK 0 (seqK (vc Tryz.prog (c172.at_ [1,1,1,1]) (ms172.drop 1)) (bodyK Tryz.prog r172 Q)))) = b172_0 y2 y4 y5 y15 y16 y17 S KE0 Q:=by kernel_rfl
theorem loop172_0 {y2 y5 y15 y16:AV} {y40 y170:AV} {S:Store} {Q:PoT} (I:AV → AV → Store → Prop) (μ:AV → AV → Store → Nat) (h0:I y40 y170 S)
    (hr:∀ (y4 y17:AV) (S:Store),I y4 y17 S → ∀ KE0:KeT,(∀ (y4' y17':AV) (S':Store),I y4' y17' S' → μ y4' y17' S' < μ y4 y17 S → KE0 35 (env172_0 y2 y4' y5 y15 y16 y17') S') → b172_0 y2 y4 y5 y15 y16 y17 S KE0 Q) :
    loopV lv172_0 (vc Tryz.prog (c172.at_ [1,1,1,0,1,0,0]) (ms172.drop 1)) 35 (env172_0 y2 y40 y5 y15 y16 y170) S (blockK 0 (seqK (vc Tryz.prog (c172.at_ [1,1,1,1]) (ms172.drop 1)) (bodyK Tryz.prog r172 Q))):=by
  refine ⟨fun n e S=>n = 35 ∧ ∃ y4 y17:AV,e = (env172_0 y2 y4 y5 y15 y16 y17) ∧ I y4 y17 S,fun _ e S=>μ (e.getD 1 .j) (e.getD 5 .j) S,?_,?_⟩
  · exact ⟨_,_,Wk.refl _ _,rfl,_,_,rfl,h0⟩
  · rintro _ e S ⟨rfl,y4,y17,rfl,hI⟩
    exact (b172_0_eq _ _ _ _ _ _ _ _ _).mpr (hr y4 y17 S hI _ (fun y4' y17' S' hI' hm=>⟨_,_,Wk.refl _ _,⟨rfl,_,_,rfl,hI'⟩,hm⟩))
noncomputable def c46:Code:=(Tryz.f46.body).getD .skip
noncomputable def r46:List ResultVar:=Tryz.f46.results.toList
def env46_0 (y1 y2 y5:AV):List AV:=[y1,y2,y5]
def lv46_0:List Nat:=[1,2,5]
def ms46:List (List Nat):=[lv46_0,[]]
def m46 (x0 x1:AV) (S:Store) (Q:PoT):Prop :=
  boxN 24 4 x0 S fun v1 S=>(fun S0:Store=>∃ q2:AV,(bin .lss 0 x1 (.v (.int .i64 1)) S fun v3 S=>v3 = q2 ∧ S = S0) ∧ onB q2 fun b4=>gd b4 (∃ q5:AV,((.v (.bool true)) = q5 ∧ S = S0) ∧ onB q5 fun b6=>gd b6 (∃ q7:AV,((.v (.bool true)) = q7 ∧ S = S0) ∧ onB q7 fun b8=>gd b8 (∃ q9:AV,((.v (.bool true)) = q9 ∧ S = S0) ∧ onB q9 fun b10=>gd b10 (∃ q11:AV,((.v (.bool true)) = q11 ∧ S = S0) ∧ onB q11 fun b12=>gd b12 (Q (.ret (.v (.bool false))) S) (loopV lv46_0 (vc Tryz.prog (c46.at_ [1,1,0,1,0,0]) (ms46.drop 1)) 53 (env46_0 x1 v1 (.v (.int .i64 0))) S (blockK 0 (seqK (vc Tryz.prog (c46.at_ [1,1,1]) (ms46.drop 1)) (bodyK Tryz.prog r46 Q))))) (∃ q13:AV,(shift v1 0 S fun v14 S=>v14 = q13 ∧ S = S0) ∧ ∃ q15:AV,(ld1 q13 S fun v16 S=>v16 = q15 ∧ S = S0) ∧ ∃ q17:AV,(bin .neq 0 q15 (.v (.int .i64 3)) S fun v18 S=>v18 = q17 ∧ S = S0) ∧ onB q17 fun b19=>gd b19 (∃ q20:AV,(shift v1 2 S fun v21 S=>v21 = q20 ∧ S = S0) ∧ ∃ q22:AV,(ld1 q20 S fun v23 S=>v23 = q22 ∧ S = S0) ∧ ∃ q24:AV,(bin .neq 0 q22 (.v (.int .i64 0)) S fun v25 S=>v25 = q24 ∧ S = S0) ∧ ∃ q26:AV,(q24 = q26 ∧ S = S0) ∧ ∃ q27:AV,(q26 = q27 ∧ S = S0) ∧ onB q27 fun b28=>gd b28 (Q (.ret (.v (.bool false))) S) (loopV lv46_0 (vc Tryz.prog (c46.at_ [1,1,0,1,0,0]) (ms46.drop 1)) 53 (env46_0 x1 v1 (.v (.int .i64 0))) S (blockK 0 (seqK (vc Tryz.prog (c46.at_ [1,1,1]) (ms46.drop 1)) (bodyK Tryz.prog r46 Q))))) (∃ q29:AV,((.v (.bool false)) = q29 ∧ S = S0) ∧ ∃ q30:AV,(q29 = q30 ∧ S = S0) ∧ onB q30 fun b31=>gd b31 (Q (.ret (.v (.bool false))) S) (loopV lv46_0 (vc Tryz.prog (c46.at_ [1,1,0,1,0,0]) (ms46.drop 1)) 53 (env46_0 x1 v1 (.v (.int .i64 0))) S (blockK 0 (seqK (vc Tryz.prog (c46.at_ [1,1,1]) (ms46.drop 1)) (bodyK Tryz.prog r46 Q))))))) (∃ q32:AV,(shift v1 2 S fun v33 S=>v33 = q32 ∧ S = S0) ∧ ∃ q34:AV,(ld1 q32 S fun v35 S=>v35 = q34 ∧ S = S0) ∧ ∃ q36:AV,(bin .lss 0 q34 (.v (.int .i64 0)) S fun v37 S=>v37 = q36 ∧ S = S0) ∧ ∃ q38:AV,(q36 = q38 ∧ S = S0) ∧ onB q38 fun b39=>gd b39 (∃ q40:AV,((.v (.bool true)) = q40 ∧ S = S0) ∧ onB q40 fun b41=>gd b41 (Q (.ret (.v (.bool false))) S) (loopV lv46_0 (vc Tryz.prog (c46.at_ [1,1,0,1,0,0]) (ms46.drop 1)) 53 (env46_0 x1 v1 (.v (.int .i64 0))) S (blockK 0 (seqK (vc Tryz.prog (c46.at_ [1,1,1]) (ms46.drop 1)) (bodyK Tryz.prog r46 Q))))) (∃ q42:AV,(shift v1 0 S fun v43 S=>v43 = q42 ∧ S = S0) ∧ ∃ q44:AV,(ld1 q42 S fun v45 S=>v45 = q44 ∧ S = S0) ∧ ∃ q46:AV,(bin .neq 0 q44 (.v (.int .i64 3)) S fun v47 S=>v47 = q46 ∧ S = S0) ∧ onB q46 fun b48=>gd b48 (∃ q49:AV,(shift v1 2 S fun v50 S=>v50 = q49 ∧ S = S0) ∧ ∃ q51:AV,(ld1 q49 S fun v52 S=>v52 = q51 ∧ S = S0) ∧ ∃ q53:AV,(bin .neq 0 q51 (.v (.int .i64 0)) S fun v54 S=>v54 = q53 ∧ S = S0) ∧ ∃ q55:AV,(q53 = q55 ∧ S = S0) ∧ ∃ q56:AV,(q55 = q56 ∧ S = S0) ∧ onB q56 fun b57=>gd b57 (Q (.ret (.v (.bool false))) S) (loopV lv46_0 (vc Tryz.prog (c46.at_ [1,1,0,1,0,0]) (ms46.drop 1)) 53 (env46_0 x1 v1 (.v (.int .i64 0))) S (blockK 0 (seqK (vc Tryz.prog (c46.at_ [1,1,1]) (ms46.drop 1)) (bodyK Tryz.prog r46 Q))))) (∃ q58:AV,((.v (.bool false)) = q58 ∧ S = S0) ∧ ∃ q59:AV,(q58 = q59 ∧ S = S0) ∧ onB q59 fun b60=>gd b60 (Q (.ret (.v (.bool false))) S) (loopV lv46_0 (vc Tryz.prog (c46.at_ [1,1,0,1,0,0]) (ms46.drop 1)) 53 (env46_0 x1 v1 (.v (.int .i64 0))) S (blockK 0 (seqK (vc Tryz.prog (c46.at_ [1,1,1]) (ms46.drop 1)) (bodyK Tryz.prog r46 Q)))))))) (∃ q61:AV,(shift v1 1 S fun v62 S=>v62 = q61 ∧ S = S0) ∧ ∃ q63:AV,(ld1 q61 S fun v64 S=>v64 = q63 ∧ S = S0) ∧ ∃ q65:AV,(bin .neq 0 q63 (.v (.string { data:=#[] })) S fun v66 S=>v66 = q65 ∧ S = S0) ∧ ∃ q67:AV,(q65 = q67 ∧ S = S0) ∧ onB q67 fun b68=>gd b68 (∃ q69:AV,((.v (.bool true)) = q69 ∧ S = S0) ∧ onB q69 fun b70=>gd b70 (∃ q71:AV,((.v (.bool true)) = q71 ∧ S = S0) ∧ onB q71 fun b72=>gd b72 (Q (.ret (.v (.bool false))) S) (loopV lv46_0 (vc Tryz.prog (c46.at_ [1,1,0,1,0,0]) (ms46.drop 1)) 53 (env46_0 x1 v1 (.v (.int .i64 0))) S (blockK 0 (seqK (vc Tryz.prog (c46.at_ [1,1,1]) (ms46.drop 1)) (bodyK Tryz.prog r46 Q))))) (∃ q73:AV,(shift v1 0 S fun v74 S=>v74 = q73 ∧ S = S0) ∧ ∃ q75:AV,(ld1 q73 S fun v76 S=>v76 = q75 ∧ S = S0) ∧ ∃ q77:AV,(bin .neq 0 q75 (.v (.int .i64 3)) S fun v78 S=>v78 = q77 ∧ S = S0) ∧ onB q77 fun b79=>gd b79 (∃ q80:AV,(shift v1 2 S fun v81 S=>v81 = q80 ∧ S = S0) ∧ ∃ q82:AV,(ld1 q80 S fun v83 S=>v83 = q82 ∧ S = S0) ∧ ∃ q84:AV,(bin .neq 0 q82 (.v (.int .i64 0)) S fun v85 S=>v85 = q84 ∧ S = S0) ∧ ∃ q86:AV,(q84 = q86 ∧ S = S0) ∧ ∃ q87:AV,(q86 = q87 ∧ S = S0) ∧ onB q87 fun b88=>gd b88 (Q (.ret (.v (.bool false))) S) (loopV lv46_0 (vc Tryz.prog (c46.at_ [1,1,0,1,0,0]) (ms46.drop 1)) 53 (env46_0 x1 v1 (.v (.int .i64 0))) S (blockK 0 (seqK (vc Tryz.prog (c46.at_ [1,1,1]) (ms46.drop 1)) (bodyK Tryz.prog r46 Q))))) (∃ q89:AV,((.v (.bool false)) = q89 ∧ S = S0) ∧ ∃ q90:AV,(q89 = q90 ∧ S = S0) ∧ onB q90 fun b91=>gd b91 (Q (.ret (.v (.bool false))) S) (loopV lv46_0 (vc Tryz.prog (c46.at_ [1,1,0,1,0,0]) (ms46.drop 1)) 53 (env46_0 x1 v1 (.v (.int .i64 0))) S (blockK 0 (seqK (vc Tryz.prog (c46.at_ [1,1,1]) (ms46.drop 1)) (bodyK Tryz.prog r46 Q))))))) (∃ q92:AV,(shift v1 2 S fun v93 S=>v93 = q92 ∧ S = S0) ∧ ∃ q94:AV,(ld1 q92 S fun v95 S=>v95 = q94 ∧ S = S0) ∧ ∃ q96:AV,(bin .lss 0 q94 (.v (.int .i64 0)) S fun v97 S=>v97 = q96 ∧ S = S0) ∧ ∃ q98:AV,(q96 = q98 ∧ S = S0) ∧ onB q98 fun b99=>gd b99 (∃ q100:AV,((.v (.bool true)) = q100 ∧ S = S0) ∧ onB q100 fun b101=>gd b101 (Q (.ret (.v (.bool false))) S) (loopV lv46_0 (vc Tryz.prog (c46.at_ [1,1,0,1,0,0]) (ms46.drop 1)) 53 (env46_0 x1 v1 (.v (.int .i64 0))) S (blockK 0 (seqK (vc Tryz.prog (c46.at_ [1,1,1]) (ms46.drop 1)) (bodyK Tryz.prog r46 Q))))) (∃ q102:AV,(shift v1 0 S fun v103 S=>v103 = q102 ∧ S = S0) ∧ ∃ q104:AV,(ld1 q102 S fun v105 S=>v105 = q104 ∧ S = S0) ∧ ∃ q106:AV,(bin .neq 0 q104 (.v (.int .i64 3)) S fun v107 S=>v107 = q106 ∧ S = S0) ∧ onB q106 fun b108=>gd b108 (∃ q109:AV,(shift v1 2 S fun v110 S=>v110 = q109 ∧ S = S0) ∧ ∃ q111:AV,(ld1 q109 S fun v112 S=>v112 = q111 ∧ S = S0) ∧ ∃ q113:AV,(bin .neq 0 q111 (.v (.int .i64 0)) S fun v114 S=>v114 = q113 ∧ S = S0) ∧ ∃ q115:AV,(q113 = q115 ∧ S = S0) ∧ ∃ q116:AV,(q115 = q116 ∧ S = S0) ∧ onB q116 fun b117=>gd b117 (Q (.ret (.v (.bool false))) S) (loopV lv46_0 (vc Tryz.prog (c46.at_ [1,1,0,1,0,0]) (ms46.drop 1)) 53 (env46_0 x1 v1 (.v (.int .i64 0))) S (blockK 0 (seqK (vc Tryz.prog (c46.at_ [1,1,1]) (ms46.drop 1)) (bodyK Tryz.prog r46 Q))))) (∃ q118:AV,((.v (.bool false)) = q118 ∧ S = S0) ∧ ∃ q119:AV,(q118 = q119 ∧ S = S0) ∧ onB q119 fun b120=>gd b120 (Q (.ret (.v (.bool false))) S) (loopV lv46_0 (vc Tryz.prog (c46.at_ [1,1,0,1,0,0]) (ms46.drop 1)) 53 (env46_0 x1 v1 (.v (.int .i64 0))) S (blockK 0 (seqK (vc Tryz.prog (c46.at_ [1,1,1]) (ms46.drop 1)) (bodyK Tryz.prog r46 Q))))))))) (∃ q121:AV,(shift v1 0 S fun v122 S=>v122 = q121 ∧ S = S0) ∧ ∃ q123:AV,(ld1 q121 S fun v124 S=>v124 = q123 ∧ S = S0) ∧ ∃ q125:AV,(callF Tryz.prog 64 [q123] S (fun _ _=>False) fun v126 S=>v126 = q125 ∧ S = S0) ∧ ∃ q127:AV,(shift v1 3 S fun v128 S=>v128 = q127 ∧ S = S0) ∧ ∃ q129:AV,(ld1 q127 S fun v130 S=>v130 = q129 ∧ S = S0) ∧ ∃ q131:AV,(lenS q129 S fun v132 S=>v132 = q131 ∧ S = S0) ∧ ∃ q133:AV,(bin .neq 0 q125 q131 S fun v134 S=>v134 = q133 ∧ S = S0) ∧ ∃ q135:AV,(q133 = q135 ∧ S = S0) ∧ onB q135 fun b136=>gd b136 (∃ q137:AV,((.v (.bool true)) = q137 ∧ S = S0) ∧ onB q137 fun b138=>gd b138 (∃ q139:AV,((.v (.bool true)) = q139 ∧ S = S0) ∧ onB q139 fun b140=>gd b140 (∃ q141:AV,((.v (.bool true)) = q141 ∧ S = S0) ∧ onB q141 fun b142=>gd b142 (Q (.ret (.v (.bool false))) S) (loopV lv46_0 (vc Tryz.prog (c46.at_ [1,1,0,1,0,0]) (ms46.drop 1)) 53 (env46_0 x1 v1 (.v (.int .i64 0))) S (blockK 0 (seqK (vc Tryz.prog (c46.at_ [1,1,1]) (ms46.drop 1)) (bodyK Tryz.prog r46 Q))))) (∃ q143:AV,(shift v1 0 S fun v144 S=>v144 = q143 ∧ S = S0) ∧ ∃ q145:AV,(ld1 q143 S fun v146 S=>v146 = q145 ∧ S = S0) ∧ ∃ q147:AV,(bin .neq 0 q145 (.v (.int .i64 3)) S fun v148 S=>v148 = q147 ∧ S = S0) ∧ onB q147 fun b149=>gd b149 (∃ q150:AV,(shift v1 2 S fun v151 S=>v151 = q150 ∧ S = S0) ∧ ∃ q152:AV,(ld1 q150 S fun v153 S=>v153 = q152 ∧ S = S0) ∧ ∃ q154:AV,(bin .neq 0 q152 (.v (.int .i64 0)) S fun v155 S=>v155 = q154 ∧ S = S0) ∧ ∃ q156:AV,(q154 = q156 ∧ S = S0) ∧ ∃ q157:AV,(q156 = q157 ∧ S = S0) ∧ onB q157 fun b158=>gd b158 (Q (.ret (.v (.bool false))) S) (loopV lv46_0 (vc Tryz.prog (c46.at_ [1,1,0,1,0,0]) (ms46.drop 1)) 53 (env46_0 x1 v1 (.v (.int .i64 0))) S (blockK 0 (seqK (vc Tryz.prog (c46.at_ [1,1,1]) (ms46.drop 1)) (bodyK Tryz.prog r46 Q))))) (∃ q159:AV,((.v (.bool false)) = q159 ∧ S = S0) ∧ ∃ q160:AV,(q159 = q160 ∧ S = S0) ∧ onB q160 fun b161=>gd b161 (Q (.ret (.v (.bool false))) S) (loopV lv46_0 (vc Tryz.prog (c46.at_ [1,1,0,1,0,0]) (ms46.drop 1)) 53 (env46_0 x1 v1 (.v (.int .i64 0))) S (blockK 0 (seqK (vc Tryz.prog (c46.at_ [1,1,1]) (ms46.drop 1)) (bodyK Tryz.prog r46 Q))))))) (∃ q162:AV,(shift v1 2 S fun v163 S=>v163 = q162 ∧ S = S0) ∧ ∃ q164:AV,(ld1 q162 S fun v165 S=>v165 = q164 ∧ S = S0) ∧ ∃ q166:AV,(bin .lss 0 q164 (.v (.int .i64 0)) S fun v167 S=>v167 = q166 ∧ S = S0) ∧ ∃ q168:AV,(q166 = q168 ∧ S = S0) ∧ onB q168 fun b169=>gd b169 (∃ q170:AV,((.v (.bool true)) = q170 ∧ S = S0) ∧ onB q170 fun b171=>gd b171 (Q (.ret (.v (.bool false))) S) (loopV lv46_0 (vc Tryz.prog (c46.at_ [1,1,0,1,0,0]) (ms46.drop 1)) 53 (env46_0 x1 v1 (.v (.int .i64 0))) S (blockK 0 (seqK (vc Tryz.prog (c46.at_ [1,1,1]) (ms46.drop 1)) (bodyK Tryz.prog r46 Q))))) (∃ q172:AV,(shift v1 0 S fun v173 S=>v173 = q172 ∧ S = S0) ∧ ∃ q174:AV,(ld1 q172 S fun v175 S=>v175 = q174 ∧ S = S0) ∧ ∃ q176:AV,(bin .neq 0 q174 (.v (.int .i64 3)) S fun v177 S=>v177 = q176 ∧ S = S0) ∧ onB q176 fun b178=>gd b178 (∃ q179:AV,(shift v1 2 S fun v180 S=>v180 = q179 ∧ S = S0) ∧ ∃ q181:AV,(ld1 q179 S fun v182 S=>v182 = q181 ∧ S = S0) ∧ ∃ q183:AV,(bin .neq 0 q181 (.v (.int .i64 0)) S fun v184 S=>v184 = q183 ∧ S = S0) ∧ ∃ q185:AV,(q183 = q185 ∧ S = S0) ∧ ∃ q186:AV,(q185 = q186 ∧ S = S0) ∧ onB q186 fun b187=>gd b187 (Q (.ret (.v (.bool false))) S) (loopV lv46_0 (vc Tryz.prog (c46.at_ [1,1,0,1,0,0]) (ms46.drop 1)) 53 (env46_0 x1 v1 (.v (.int .i64 0))) S (blockK 0 (seqK (vc Tryz.prog (c46.at_ [1,1,1]) (ms46.drop 1)) (bodyK Tryz.prog r46 Q))))) (∃ q188:AV,((.v (.bool false)) = q188 ∧ S = S0) ∧ ∃ q189:AV,(q188 = q189 ∧ S = S0) ∧ onB q189 fun b190=>gd b190 (Q (.ret (.v (.bool false))) S) (loopV lv46_0 (vc Tryz.prog (c46.at_ [1,1,0,1,0,0]) (ms46.drop 1)) 53 (env46_0 x1 v1 (.v (.int .i64 0))) S (blockK 0 (seqK (vc Tryz.prog (c46.at_ [1,1,1]) (ms46.drop 1)) (bodyK Tryz.prog r46 Q)))))))) (∃ q191:AV,(shift v1 1 S fun v192 S=>v192 = q191 ∧ S = S0) ∧ ∃ q193:AV,(ld1 q191 S fun v194 S=>v194 = q193 ∧ S = S0) ∧ ∃ q195:AV,(bin .neq 0 q193 (.v (.string { data:=#[] })) S fun v196 S=>v196 = q195 ∧ S = S0) ∧ ∃ q197:AV,(q195 = q197 ∧ S = S0) ∧ onB q197 fun b198=>gd b198 (∃ q199:AV,((.v (.bool true)) = q199 ∧ S = S0) ∧ onB q199 fun b200=>gd b200 (∃ q201:AV,((.v (.bool true)) = q201 ∧ S = S0) ∧ onB q201 fun b202=>gd b202 (Q (.ret (.v (.bool false))) S) (loopV lv46_0 (vc Tryz.prog (c46.at_ [1,1,0,1,0,0]) (ms46.drop 1)) 53 (env46_0 x1 v1 (.v (.int .i64 0))) S (blockK 0 (seqK (vc Tryz.prog (c46.at_ [1,1,1]) (ms46.drop 1)) (bodyK Tryz.prog r46 Q))))) (∃ q203:AV,(shift v1 0 S fun v204 S=>v204 = q203 ∧ S = S0) ∧ ∃ q205:AV,(ld1 q203 S fun v206 S=>v206 = q205 ∧ S = S0) ∧ ∃ q207:AV,(bin .neq 0 q205 (.v (.int .i64 3)) S fun v208 S=>v208 = q207 ∧ S = S0) ∧ onB q207 fun b209=>gd b209 (∃ q210:AV,(shift v1 2 S fun v211 S=>v211 = q210 ∧ S = S0) ∧ ∃ q212:AV,(ld1 q210 S fun v213 S=>v213 = q212 ∧ S = S0) ∧ ∃ q214:AV,(bin .neq 0 q212 (.v (.int .i64 0)) S fun v215 S=>v215 = q214 ∧ S = S0) ∧ ∃ q216:AV,(q214 = q216 ∧ S = S0) ∧ ∃ q217:AV,(q216 = q217 ∧ S = S0) ∧ onB q217 fun b218=>gd b218 (Q (.ret (.v (.bool false))) S) (loopV lv46_0 (vc Tryz.prog (c46.at_ [1,1,0,1,0,0]) (ms46.drop 1)) 53 (env46_0 x1 v1 (.v (.int .i64 0))) S (blockK 0 (seqK (vc Tryz.prog (c46.at_ [1,1,1]) (ms46.drop 1)) (bodyK Tryz.prog r46 Q))))) (∃ q219:AV,((.v (.bool false)) = q219 ∧ S = S0) ∧ ∃ q220:AV,(q219 = q220 ∧ S = S0) ∧ onB q220 fun b221=>gd b221 (Q (.ret (.v (.bool false))) S) (loopV lv46_0 (vc Tryz.prog (c46.at_ [1,1,0,1,0,0]) (ms46.drop 1)) 53 (env46_0 x1 v1 (.v (.int .i64 0))) S (blockK 0 (seqK (vc Tryz.prog (c46.at_ [1,1,1]) (ms46.drop 1)) (bodyK Tryz.prog r46 Q))))))) (∃ q222:AV,(shift v1 2 S fun v223 S=>v223 = q222 ∧ S = S0) ∧ ∃ q224:AV,(ld1 q222 S fun v225 S=>v225 = q224 ∧ S = S0) ∧ ∃ q226:AV,(bin .lss 0 q224 (.v (.int .i64 0)) S fun v227 S=>v227 = q226 ∧ S = S0) ∧ ∃ q228:AV,(q226 = q228 ∧ S = S0) ∧ onB q228 fun b229=>gd b229 (∃ q230:AV,((.v (.bool true)) = q230 ∧ S = S0) ∧ onB q230 fun b231=>gd b231 (Q (.ret (.v (.bool false))) S) (loopV lv46_0 (vc Tryz.prog (c46.at_ [1,1,0,1,0,0]) (ms46.drop 1)) 53 (env46_0 x1 v1 (.v (.int .i64 0))) S (blockK 0 (seqK (vc Tryz.prog (c46.at_ [1,1,1]) (ms46.drop 1)) (bodyK Tryz.prog r46 Q))))) (∃ q232:AV,(shift v1 0 S fun v233 S=>v233 = q232 ∧ S = S0) ∧ ∃ q234:AV,(ld1 q232 S fun v235 S=>v235 = q234 ∧ S = S0) ∧ ∃ q236:AV,(bin .neq 0 q234 (.v (.int .i64 3)) S fun v237 S=>v237 = q236 ∧ S = S0) ∧ onB q236 fun b238=>gd b238 (∃ q239:AV,(shift v1 2 S fun v240 S=>v240 = q239 ∧ S = S0) ∧ ∃ q241:AV,(ld1 q239 S fun v242 S=>v242 = q241 ∧ S = S0) ∧ ∃ q243:AV,(bin .neq 0 q241 (.v (.int .i64 0)) S fun v244 S=>v244 = q243 ∧ S = S0) ∧ ∃ q245:AV,(q243 = q245 ∧ S = S0) ∧ ∃ q246:AV,(q245 = q246 ∧ S = S0) ∧ onB q246 fun b247=>gd b247 (Q (.ret (.v (.bool false))) S) (loopV lv46_0 (vc Tryz.prog (c46.at_ [1,1,0,1,0,0]) (ms46.drop 1)) 53 (env46_0 x1 v1 (.v (.int .i64 0))) S (blockK 0 (seqK (vc Tryz.prog (c46.at_ [1,1,1]) (ms46.drop 1)) (bodyK Tryz.prog r46 Q))))) (∃ q248:AV,((.v (.bool false)) = q248 ∧ S = S0) ∧ ∃ q249:AV,(q248 = q249 ∧ S = S0) ∧ onB q249 fun b250=>gd b250 (Q (.ret (.v (.bool false))) S) (loopV lv46_0 (vc Tryz.prog (c46.at_ [1,1,0,1,0,0]) (ms46.drop 1)) 53 (env46_0 x1 v1 (.v (.int .i64 0))) S (blockK 0 (seqK (vc Tryz.prog (c46.at_ [1,1,1]) (ms46.drop 1)) (bodyK Tryz.prog r46 Q)))))))))) S
theorem calls46 {x0 x1:AV} {S:Store} {Q:PoT} (h:m46 x0 x1 S Q):ACalls Tryz.prog 46 [x0,x1] S Q :=
  calls_of_vc (fn:=Tryz.f46) (c:=c46) (n:=53) Tryz.func46 (by kernel_rfl) (by kernel_rfl) (by kernel_rfl) ms46 (Eq.mpr (by kernel_rfl) h)
def b46_0 (y1 y2 y5:AV) (S:Store) (KE0:KeT) (Q:PoT):Prop :=
  shift y2 3 S fun v251 S=>ld1 v251 S fun v252 S=>lenS v252 S fun v253 S=>bin .lss 0 y5 v253 S fun v254 S=>onB v254 fun b255=>gd b255 (shift y2 3 S fun v256 S=>ld1 v256 S fun v257 S=>ixS 24 4 v257 y5 S fun v258 S=>ldN 4 v258 S fun v259 S=>bin .sub 0 y1 (.v (.int .i64 1)) S fun v260 S=>callF Tryz.prog 46 [v259,v260] S Q fun v261 S=>un .not v261 S fun v262 S=>onB v262 fun b263=>gd b263 (Q (.ret (.v (.bool false))) S) (bin .add 0 y5 (.v (.int .i64 1)) S fun v264 S=>KE0 53 (env46_0 y1 y2 v264) S)) (Q (.ret (.v (.bool true))) S)
theorem b46_0_eq (y1 y2 y5:AV) (S:Store) (KE0:KeT) (Q:PoT):vc Tryz.prog (c46.at_ [1,1,0,1,0,0]) (ms46.drop 1) (mkE 53 lv46_0 (env46_0 y1 y2 y5)) S (thenK (fgK lv46_0 KE0) (blockK 0 (seqK (vc Tryz.prog (c46.at_ [1,1,1]) (ms46.drop 1)) (bodyK Tryz.prog r46 Q)))) = b46_0 y1 y2 y5 S KE0 Q:=by kernel_rfl
theorem loop46_0 {y1 y2:AV} {y50:AV} {S:Store} {Q:PoT} (I:AV → Store → Prop) (μ:AV → Store → Nat) (h0:I y50 S)
    (hr:∀ (y5:AV) (S:Store),I y5 S → ∀ KE0:KeT,(∀ (y5':AV) (S':Store),I y5' S' → μ y5' S' < μ y5 S → KE0 53 (env46_0 y1 y2 y5') S') → b46_0 y1 y2 y5 S KE0 Q) :
    loopV lv46_0 (vc Tryz.prog (c46.at_ [1,1,0,1,0,0]) (ms46.drop 1)) 53 (env46_0 y1 y2 y50) S (blockK 0 (seqK (vc Tryz.prog (c46.at_ [1,1,1]) (ms46.drop 1)) (bodyK Tryz.prog r46 Q))):=by
  refine ⟨fun n e S=>n = 53 ∧ ∃ y5:AV,e = (env46_0 y1 y2 y5) ∧ I y5 S,fun _ e S=>μ (e.getD 2 .j) S,?_,?_⟩
  · exact ⟨_,_,Wk.refl _ _,rfl,_,rfl,h0⟩
  · rintro _ e S ⟨rfl,y5,rfl,hI⟩
    exact (b46_0_eq _ _ _ _ _ _).mpr (hr y5 S hI _ (fun y5' S' hI' hm=>⟨_,_,Wk.refl _ _,⟨rfl,_,rfl,hI'⟩,hm⟩))
noncomputable def c86:Code:=(Tryz.f86.body).getD .skip
def ms86:List (List Nat):=[[]]
def m86 (x0 x1:AV) (S:Store) (Q:PoT):Prop :=
  boxN 24 4 x0 S fun v1 S=>boxN 134 1 x1 S fun v2 S=>shift v1 0 S fun v3 S=>ld1 v3 S fun v4 S=>bin .neq 0 v4 (.v (.int .i64 3)) S fun v5 S=>onB v5 fun b6=>gd b6 (shift v1 3 S fun v7 S=>ld1 v7 S fun v8 S=>callF Tryz.prog 72 [v8,(.f (.func 134) [] [v2])] S Q fun v9 S=>un .not v9 S fun v10 S=>Q (.ret v10) S) (ld1 v2 S fun v11 S=>shift v1 2 S fun v12 S=>ld1 v12 S fun v13 S=>callV Tryz.prog v11 [v13] S (fun v14 S=>onB v14 fun b15=>gd b15 (shift v1 3 S fun v16 S=>ld1 v16 S fun v17 S=>callF Tryz.prog 72 [v17,(.f (.func 134) [] [v2])] S Q fun v18 S=>un .not v18 S fun v19 S=>Q (.ret v19) S) (Q (.ret (.v (.bool false))) S)) (fun u S=>Q (.pan u) S))
theorem calls86 {x0 x1:AV} {S:Store} {Q:PoT} (h:m86 x0 x1 S Q):ACalls Tryz.prog 86 [x0,x1] S Q :=
  calls_of_vc (fn:=Tryz.f86) (c:=c86) (n:=23) Tryz.func86 (by kernel_rfl) (by kernel_rfl) (by kernel_rfl) ms86 (Eq.mpr (by kernel_rfl) h)
noncomputable def c134:Code:=(Tryz.f134.body).getD .skip
def ms134:List (List Nat):=[[]]
def m134 (x0 x1:AV) (S:Store) (Q:PoT):Prop :=
  boxN 24 4 x0 S fun v1 S=>ldN 4 v1 S fun v2 S=>ld1 x1 S fun v3 S=>callF Tryz.prog 86 [v2,v3] S Q fun v4 S=>un .not v4 S fun v5 S=>Q (.ret v5) S
theorem calls134 {x0 x1:AV} {S:Store} {Q:PoT} (h:m134 x0 x1 S Q):ACalls Tryz.prog 134 [x0,x1] S Q :=
  calls_of_vc (fn:=Tryz.f134) (c:=c134) (n:=8) Tryz.func134 (by kernel_rfl) (by kernel_rfl) (by kernel_rfl) ms134 (Eq.mpr (by kernel_rfl) h)
noncomputable def c52:Code:=(Tryz.f52.body).getD .skip
def ms52:List (List Nat):=[[]]
def m52 (x0 x1:AV) (S:Store) (Q:PoT):Prop :=
  boxN 42 8 x0 S fun v1 S=>boxN 24 4 x1 S fun v2 S=>ldN 8 v1 S fun v3 S=>callF Tryz.prog 84 [v3] S Q fun v4 S=>boxN 82 2 (.a [(.v (.int .i64 0)),.nl]) S fun v5 S=>stN 2 v5 v4 S fun v6 S=>ldN 8 v1 S fun v7 S=>callF Tryz.prog 85 [v7] S Q fun v8 S=>onB v8 fun b9=>gd b9 (ldN 4 v2 S fun v10 S=>callF Tryz.prog 43 [v10,(.v (.int .i64 60))] S Q fun v11 S=>onB v11 fun b12=>gd b12 (ldN 4 v2 S fun v13 S=>callF Tryz.prog 86 [v13,(.f (.func 87) [] [v5])] S Q fun v14 S=>Q (.ret v14) S) (Q (.ret (.v (.bool false))) S)) (Q (.ret (.v (.bool false))) S)
theorem calls52 {x0 x1:AV} {S:Store} {Q:PoT} (h:m52 x0 x1 S Q):ACalls Tryz.prog 52 [x0,x1] S Q :=
  calls_of_vc (fn:=Tryz.f52) (c:=c52) (n:=19) Tryz.func52 (by kernel_rfl) (by kernel_rfl) (by kernel_rfl) ms52 (Eq.mpr (by kernel_rfl) h)
noncomputable def c87:Code:=(Tryz.f87.body).getD .skip
def ms87:List (List Nat):=[[]]
def m87 (x0 x1:AV) (S:Store) (Q:PoT):Prop :=
  ldN 2 x1 S fun v1 S=>callF Tryz.prog 88 [v1,x0] S Q fun v2 S=>Q (.ret v2) S
theorem calls87 {x0 x1:AV} {S:Store} {Q:PoT} (h:m87 x0 x1 S Q):ACalls Tryz.prog 87 [x0,x1] S Q :=
  calls_of_vc (fn:=Tryz.f87) (c:=c87) (n:=7) Tryz.func87 (by kernel_rfl) (by kernel_rfl) (by kernel_rfl) ms87 (Eq.mpr (by kernel_rfl) h)
noncomputable def c101:Code:=(Tryz.f101.body).getD .skip
noncomputable def r101:List ResultVar:=Tryz.f101.results.toList
def env101_0 (y2 y3 y5:AV):List AV:=[y2,y3,y5]
def lv101_0:List Nat:=[2,3,5]
def ms101:List (List Nat):=[lv101_0,[]]
def m101 (x0 x1:AV) (S:Store) (Q:PoT):Prop :=
  boxN 82 2 x0 S fun v1 S=>boxN 24 4 x1 S fun v2 S=>shift v2 0 S fun v3 S=>ld1 v3 S fun v4 S=>bin .eql 0 v4 (.v (.int .i64 3)) S fun v5 S=>onB v5 fun b6=>gd b6 (ldN 2 v1 S fun v7 S=>shift v2 2 S fun v8 S=>ld1 v8 S fun v9 S=>callF Tryz.prog 112 [v7,v9] S Q fun v10 S=>un .not v10 S fun v11 S=>onB v11 fun b12=>gd b12 (Q (.ret (.v (.bool false))) S) (loopV lv101_0 (vc Tryz.prog (c101.at_ [1,1,0,1,0,0]) (ms101.drop 1)) 31 (env101_0 v1 v2 (.v (.int .i64 0))) S (blockK 0 (seqK (vc Tryz.prog (c101.at_ [1,1,1]) (ms101.drop 1)) (bodyK Tryz.prog r101 Q))))) (loopV lv101_0 (vc Tryz.prog (c101.at_ [1,1,0,1,0,0]) (ms101.drop 1)) 31 (env101_0 v1 v2 (.v (.int .i64 0))) S (blockK 0 (seqK (vc Tryz.prog (c101.at_ [1,1,1]) (ms101.drop 1)) (bodyK Tryz.prog r101 Q))))
theorem calls101 {x0 x1:AV} {S:Store} {Q:PoT} (h:m101 x0 x1 S Q):ACalls Tryz.prog 101 [x0,x1] S Q :=
  calls_of_vc (fn:=Tryz.f101) (c:=c101) (n:=31) Tryz.func101 (by kernel_rfl) (by kernel_rfl) (by kernel_rfl) ms101 (Eq.mpr (by kernel_rfl) h)
def b101_0 (y2 y3 y5:AV) (S:Store) (KE0:KeT) (Q:PoT):Prop :=
  shift y3 3 S fun v13 S=>ld1 v13 S fun v14 S=>lenS v14 S fun v15 S=>bin .lss 0 y5 v15 S fun v16 S=>onB v16 fun b17=>gd b17 ((fun S0:Store=>∃ q18:AV,(ldN 2 y2 S fun v19 S=>v19 = q18 ∧ S = S0) ∧ ∃ q20:AV,(shift y3 3 S fun v21 S=>v21 = q20 ∧ S = S0) ∧ ∃ q22:AV,(ld1 q20 S fun v23 S=>v23 = q22 ∧ S = S0) ∧ ∃ q24:AV,(ixS 24 4 q22 y5 S fun v25 S=>v25 = q24 ∧ S = S0) ∧ ∃ q26:AV,(ldN 4 q24 S fun v27 S=>v27 = q26 ∧ S = S0) ∧ ∃ q28:AV,(callF Tryz.prog 101 [q18,q26] S (fun _ _=>False) fun v29 S=>v29 = q28 ∧ S = S0) ∧ ∃ q30:AV,(un .not q28 S fun v31 S=>v31 = q30 ∧ S = S0) ∧ onB q30 fun b32=>gd b32 (Q (.ret (.v (.bool false))) S) (bin .add 0 y5 (.v (.int .i64 1)) S fun v33 S=>KE0 31 (env101_0 y2 y3 v33) S)) S) (Q (.ret (.v (.bool true))) S)
theorem b101_0_eq (y2 y3 y5:AV) (S:Store) (KE0:KeT) (Q:PoT):vc Tryz.prog (c101.at_ [1,1,0,1,0,0]) (ms101.drop 1) (mkE 31 lv101_0 (env101_0 y2 y3 y5)) S (thenK (fgK lv101_0 KE0) (blockK 0 (seqK (vc Tryz.prog (c101.at_ [1,1,1]) (ms101.drop 1)) (bodyK Tryz.prog r101 Q)))) = b101_0 y2 y3 y5 S KE0 Q:=by kernel_rfl
theorem loop101_0 {y2 y3:AV} {y50:AV} {S:Store} {Q:PoT} (I:AV → Store → Prop) (μ:AV → Store → Nat) (h0:I y50 S)
    (hr:∀ (y5:AV) (S:Store),I y5 S → ∀ KE0:KeT,(∀ (y5':AV) (S':Store),I y5' S' → μ y5' S' < μ y5 S → KE0 31 (env101_0 y2 y3 y5') S') → b101_0 y2 y3 y5 S KE0 Q) :
    loopV lv101_0 (vc Tryz.prog (c101.at_ [1,1,0,1,0,0]) (ms101.drop 1)) 31 (env101_0 y2 y3 y50) S (blockK 0 (seqK (vc Tryz.prog (c101.at_ [1,1,1]) (ms101.drop 1)) (bodyK Tryz.prog r101 Q))):=by
  refine ⟨fun n e S=>n = 31 ∧ ∃ y5:AV,e = (env101_0 y2 y3 y5) ∧ I y5 S,fun _ e S=>μ (e.getD 2 .j) S,?_,?_⟩
  · exact ⟨_,_,Wk.refl _ _,rfl,_,rfl,h0⟩
  · rintro _ e S ⟨rfl,y5,rfl,hI⟩
    exact (b101_0_eq _ _ _ _ _ _).mpr (hr y5 S hI _ (fun y5' S' hI' hm=>⟨_,_,Wk.refl _ _,⟨rfl,_,rfl,hI'⟩,hm⟩))
noncomputable def c55:Code:=(Tryz.f55.body).getD .skip
def ms55:List (List Nat):=[[]]
def m55 (x0 x1:AV) (S:Store) (Q:PoT):Prop :=
  boxN 42 8 x0 S fun v1 S=>boxN 24 4 x1 S fun v2 S=>(fun S0:Store=>∃ q3:AV,(ldN 8 v1 S fun v4 S=>v4 = q3 ∧ S = S0) ∧ ∃ q5:AV,(callF Tryz.prog 65 [q3] S (fun _ _=>False) fun v6 S=>v6 = q5 ∧ S = S0) ∧ onB q5 fun b7=>gd b7 (∃ q8:AV,(ldN 4 v2 S fun v9 S=>v9 = q8 ∧ S = S0) ∧ ∃ q10:AV,(callF Tryz.prog 46 [q8,(.v (.int .i64 60))] S (fun _ _=>False) fun v11 S=>v11 = q10 ∧ S = S0) ∧ ∃ q12:AV,(q10 = q12 ∧ S = S0) ∧ onB q12 fun b13=>gd b13 (∃ q14:AV,(ldN 8 v1 S fun v15 S=>v15 = q14 ∧ S = S0) ∧ ∃ q16:AV,(callF Tryz.prog 41 [q14] S (fun _ _=>False) fun v17 S=>v17 = q16 ∧ S = S0) ∧ ∃ q18:AV,(ldN 4 v2 S fun v19 S=>v19 = q18 ∧ S = S0) ∧ ∃ q20:AV,(callF Tryz.prog 101 [q16,q18] S (fun _ _=>False) fun v21 S=>v21 = q20 ∧ S = S0) ∧ ∃ q22:AV,(q20 = q22 ∧ S = S0) ∧ Q (.ret q22) S) (∃ q23:AV,((.v (.bool false)) = q23 ∧ S = S0) ∧ Q (.ret q23) S)) (∃ q24:AV,((.v (.bool false)) = q24 ∧ S = S0) ∧ onB q24 fun b25=>gd b25 (∃ q26:AV,(ldN 8 v1 S fun v27 S=>v27 = q26 ∧ S = S0) ∧ ∃ q28:AV,(callF Tryz.prog 41 [q26] S (fun _ _=>False) fun v29 S=>v29 = q28 ∧ S = S0) ∧ ∃ q30:AV,(ldN 4 v2 S fun v31 S=>v31 = q30 ∧ S = S0) ∧ ∃ q32:AV,(callF Tryz.prog 101 [q28,q30] S (fun _ _=>False) fun v33 S=>v33 = q32 ∧ S = S0) ∧ ∃ q34:AV,(q32 = q34 ∧ S = S0) ∧ Q (.ret q34) S) (∃ q35:AV,((.v (.bool false)) = q35 ∧ S = S0) ∧ Q (.ret q35) S))) S
theorem calls55 {x0 x1:AV} {S:Store} {Q:PoT} (h:m55 x0 x1 S Q):ACalls Tryz.prog 55 [x0,x1] S Q :=
  calls_of_vc (fn:=Tryz.f55) (c:=c55) (n:=17) Tryz.func55 (by kernel_rfl) (by kernel_rfl) (by kernel_rfl) ms55 (Eq.mpr (by kernel_rfl) h)
noncomputable def c71:Code:=(Tryz.f71.body).getD .skip
def ms71:List (List Nat):=[[]]
def m71 (x0:AV) (S:Store) (Q:PoT):Prop :=
  bin .lss 0 x0 (.v (.int .i64 1)) S fun v1 S=>onB v1 fun b2=>gd b2 (Q (.ret (.v (.int .i64 (-1)))) S) (bin .gtr 0 x0 (.v (.int .i64 18)) S fun v3 S=>onB v3 fun b4=>gd b4 (Q (.ret (.v (.int .i64 (-1)))) S) (bin .leq 0 x0 (.v (.int .i64 3)) S fun v5 S=>onB v5 fun b6=>gd b6 (Q (.ret (.v (.int .i64 0))) S) (bin .eql 0 x0 (.v (.int .i64 4)) S fun v7 S=>onB v7 fun b8=>gd b8 (Q (.ret (.v (.int .i64 1))) S) (bin .geq 0 x0 (.v (.int .i64 9)) S fun v9 S=>onB v9 fun b10=>gd b10 (bin .leq 0 x0 (.v (.int .i64 14)) S fun v11 S=>onB v11 fun b12=>gd b12 (Q (.ret (.v (.int .i64 1))) S) (Q (.ret (.v (.int .i64 2))) S)) (Q (.ret (.v (.int .i64 2))) S)))))
theorem calls71 {x0:AV} {S:Store} {Q:PoT} (h:m71 x0 S Q):ACalls Tryz.prog 71 [x0] S Q :=
  calls_of_vc (fn:=Tryz.f71) (c:=c71) (n:=24) Tryz.func71 (by kernel_rfl) (by kernel_rfl) (by kernel_rfl) ms71 (Eq.mpr (by kernel_rfl) h)
noncomputable def c64:Code:=(Tryz.f64.body).getD .skip
def ms64:List (List Nat):=[[]]
def m64 (x0:AV) (S:Store) (Q:PoT):Prop :=
  bin .lss 0 x0 (.v (.int .i64 1)) S fun v1 S=>onB v1 fun b2=>gd b2 (Q (.ret (.v (.int .i64 (-1)))) S) (bin .gtr 0 x0 (.v (.int .i64 18)) S fun v3 S=>onB v3 fun b4=>gd b4 (Q (.ret (.v (.int .i64 (-1)))) S) (bin .leq 0 x0 (.v (.int .i64 3)) S fun v5 S=>onB v5 fun b6=>gd b6 (Q (.ret (.v (.int .i64 0))) S) (bin .eql 0 x0 (.v (.int .i64 4)) S fun v7 S=>onB v7 fun b8=>gd b8 (Q (.ret (.v (.int .i64 1))) S) (bin .geq 0 x0 (.v (.int .i64 9)) S fun v9 S=>onB v9 fun b10=>gd b10 (bin .leq 0 x0 (.v (.int .i64 14)) S fun v11 S=>onB v11 fun b12=>gd b12 (Q (.ret (.v (.int .i64 1))) S) (Q (.ret (.v (.int .i64 2))) S)) (Q (.ret (.v (.int .i64 2))) S)))))
theorem calls64 {x0:AV} {S:Store} {Q:PoT} (h:m64 x0 S Q):ACalls Tryz.prog 64 [x0] S Q :=
  calls_of_vc (fn:=Tryz.f64) (c:=c64) (n:=24) Tryz.func64 (by kernel_rfl) (by kernel_rfl) (by kernel_rfl) ms64 (Eq.mpr (by kernel_rfl) h)
noncomputable def c119:Code:=(Tryz.f119.body).getD .skip
noncomputable def r119:List ResultVar:=Tryz.f119.results.toList
def env119_0 (y0 y1 y7 y8:AV):List AV:=[y0,y1,y7,y8]
def lv119_0:List Nat:=[0,1,7,8]
def ms119:List (List Nat):=[lv119_0,[]]
def m119 (x0 x1:AV) (S:Store) (Q:PoT):Prop :=
  lenS x0 S fun v1 S=>loopV lv119_0 (vc Tryz.prog (c119.at_ [1,0,1,0,0]) (ms119.drop 1)) 19 (env119_0 x0 x1 v1 (.v (.int .i64 0))) S (blockK 0 (seqK (vc Tryz.prog (c119.at_ [1,1]) (ms119.drop 1)) (bodyK Tryz.prog r119 Q)))
theorem calls119 {x0 x1:AV} {S:Store} {Q:PoT} (h:m119 x0 x1 S Q):ACalls Tryz.prog 119 [x0,x1] S Q :=
  calls_of_vc (fn:=Tryz.f119) (c:=c119) (n:=19) Tryz.func119 (by kernel_rfl) (by kernel_rfl) (by kernel_rfl) ms119 (Eq.mpr (by kernel_rfl) h)
def b119_0 (y0 y1 y7 y8:AV) (S:Store) (KE0:KeT) (Q:PoT):Prop :=
  bin .lss 0 y8 y7 S fun v2 S=>onB v2 fun b3=>gd b3 (ixS 24 4 y0 y8 S fun v4 S=>ldN 4 v4 S fun v5 S=>callV Tryz.prog y1 [v5] S (fun v6 S=>onB v6 fun b7=>gd b7 (Q (.ret y8) S) (bin .add 0 y8 (.v (.int .i64 1)) S fun v8 S=>KE0 19 (env119_0 y0 y1 y7 v8) S)) (fun u S=>Q (.pan u) S)) (Q (.ret (.v (.int .i64 (-1)))) S)
theorem b119_0_eq (y0 y1 y7 y8:AV) (S:Store) (KE0:KeT) (Q:PoT):vc Tryz.prog (c119.at_ [1,0,1,0,0]) (ms119.drop 1) (mkE 19 lv119_0 (env119_0 y0 y1 y7 y8)) S (thenK (fgK lv119_0 KE0) (blockK 0 (seqK (vc Tryz.prog (c119.at_ [1,1]) (ms119.drop 1)) (bodyK Tryz.prog r119 Q)))) = b119_0 y0 y1 y7 y8 S KE0 Q:=by kernel_rfl
theorem loop119_0 {y0 y1 y7:AV} {y80:AV} {S:Store} {Q:PoT} (I:AV → Store → Prop) (μ:AV → Store → Nat) (h0:I y80 S)
    (hr:∀ (y8:AV) (S:Store),I y8 S → ∀ KE0:KeT,(∀ (y8':AV) (S':Store),I y8' S' → μ y8' S' < μ y8 S → KE0 19 (env119_0 y0 y1 y7 y8') S') → b119_0 y0 y1 y7 y8 S KE0 Q) :
    loopV lv119_0 (vc Tryz.prog (c119.at_ [1,0,1,0,0]) (ms119.drop 1)) 19 (env119_0 y0 y1 y7 y80) S (blockK 0 (seqK (vc Tryz.prog (c119.at_ [1,1]) (ms119.drop 1)) (bodyK Tryz.prog r119 Q))):=by
  refine ⟨fun n e S=>n = 19 ∧ ∃ y8:AV,e = (env119_0 y0 y1 y7 y8) ∧ I y8 S,fun _ e S=>μ (e.getD 3 .j) S,?_,?_⟩
  · exact ⟨_,_,Wk.refl _ _,rfl,_,rfl,h0⟩
  · rintro _ e S ⟨rfl,y8,rfl,hI⟩
    exact (b119_0_eq _ _ _ _ _ _ _).mpr (hr y8 S hI _ (fun y8' S' hI' hm=>⟨_,_,Wk.refl _ _,⟨rfl,_,rfl,hI'⟩,hm⟩))
noncomputable def c72:Code:=(Tryz.f72.body).getD .skip
def ms72:List (List Nat):=[[]]
def m72 (x0 x1:AV) (S:Store) (Q:PoT):Prop :=
  callF Tryz.prog 119 [x0,x1] S Q fun v1 S=>bin .geq 0 v1 (.v (.int .i64 0)) S fun v2 S=>Q (.ret v2) S
theorem calls72 {x0 x1:AV} {S:Store} {Q:PoT} (h:m72 x0 x1 S Q):ACalls Tryz.prog 72 [x0,x1] S Q :=
  calls_of_vc (fn:=Tryz.f72) (c:=c72) (n:=9) Tryz.func72 (by kernel_rfl) (by kernel_rfl) (by kernel_rfl) ms72 (Eq.mpr (by kernel_rfl) h)
noncomputable def c70:Code:=(Tryz.f70.body).getD .skip
def ms70:List (List Nat):=[[]]
def m70 (x0 x1:AV) (S:Store) (Q:PoT):Prop :=
  boxN 24 4 x0 S fun v1 S=>ldN 4 v1 S fun v2 S=>ld1 x1 S fun v3 S=>bin .sub 0 v3 (.v (.int .i64 1)) S fun v4 S=>callF Tryz.prog 43 [v2,v4] S Q fun v5 S=>un .not v5 S fun v6 S=>Q (.ret v6) S
theorem calls70 {x0 x1:AV} {S:Store} {Q:PoT} (h:m70 x0 x1 S Q):ACalls Tryz.prog 70 [x0,x1] S Q :=
  calls_of_vc (fn:=Tryz.f70) (c:=c70) (n:=9) Tryz.func70 (by kernel_rfl) (by kernel_rfl) (by kernel_rfl) ms70 (Eq.mpr (by kernel_rfl) h)
noncomputable def c43:Code:=(Tryz.f43.body).getD .skip
def ms43:List (List Nat):=[[]]
def m43 (x0 x1:AV) (S:Store) (Q:PoT):Prop :=
  boxN 24 4 x0 S fun v1 S=>boxN 3 1 x1 S fun v2 S=>shift v1 2 S fun v3 S=>ld1 v3 S fun v4 S=>bin .eql 0 v4 (.v (.int .i64 0)) S fun v5 S=>onB v5 fun b6=>gd b6 ((fun S0:Store=>∃ q7:AV,(ld1 v2 S fun v8 S=>v8 = q7 ∧ S = S0) ∧ ∃ q9:AV,(bin .gtr 0 q7 (.v (.int .i64 0)) S fun v10 S=>v10 = q9 ∧ S = S0) ∧ onB q9 fun b11=>gd b11 (∃ q12:AV,((.v (.bool true)) = q12 ∧ S = S0) ∧ onB q12 fun b13=>gd b13 (∃ q14:AV,(shift v1 1 S fun v15 S=>v15 = q14 ∧ S = S0) ∧ ∃ q16:AV,(ld1 q14 S fun v17 S=>v17 = q16 ∧ S = S0) ∧ ∃ q18:AV,(bin .eql 0 q16 (.v (.string { data:=#[] })) S fun v19 S=>v19 = q18 ∧ S = S0) ∧ ∃ q20:AV,(q18 = q20 ∧ S = S0) ∧ onB q20 fun b21=>gd b21 (∃ q22:AV,(shift v1 3 S fun v23 S=>v23 = q22 ∧ S = S0) ∧ ∃ q24:AV,(ld1 q22 S fun v25 S=>v25 = q24 ∧ S = S0) ∧ ∃ q26:AV,(lenS q24 S fun v27 S=>v27 = q26 ∧ S = S0) ∧ ∃ q28:AV,(shift v1 0 S fun v29 S=>v29 = q28 ∧ S = S0) ∧ ∃ q30:AV,(ld1 q28 S fun v31 S=>v31 = q30 ∧ S = S0) ∧ ∃ q32:AV,(callF Tryz.prog 71 [q30] S (fun _ _=>False) fun v33 S=>v33 = q32 ∧ S = S0) ∧ ∃ q34:AV,(bin .eql 0 q26 q32 S fun v35 S=>v35 = q34 ∧ S = S0) ∧ ∃ q36:AV,(q34 = q36 ∧ S = S0) ∧ onB q36 fun b37=>gd b37 (∃ q38:AV,(shift v1 3 S fun v39 S=>v39 = q38 ∧ S = S0) ∧ ∃ q40:AV,(ld1 q38 S fun v41 S=>v41 = q40 ∧ S = S0) ∧ ∃ q42:AV,(callF Tryz.prog 72 [q40,(.f (.func 70) [] [v2])] S (fun _ _=>False) fun v43 S=>v43 = q42 ∧ S = S0) ∧ ∃ q44:AV,(un .not q42 S fun v45 S=>v45 = q44 ∧ S = S0) ∧ ∃ q46:AV,(q44 = q46 ∧ S = S0) ∧ Q (.ret q46) S) (∃ q47:AV,((.v (.bool false)) = q47 ∧ S = S0) ∧ Q (.ret q47) S)) (∃ q48:AV,((.v (.bool false)) = q48 ∧ S = S0) ∧ onB q48 fun b49=>gd b49 (∃ q50:AV,(shift v1 3 S fun v51 S=>v51 = q50 ∧ S = S0) ∧ ∃ q52:AV,(ld1 q50 S fun v53 S=>v53 = q52 ∧ S = S0) ∧ ∃ q54:AV,(callF Tryz.prog 72 [q52,(.f (.func 70) [] [v2])] S (fun _ _=>False) fun v55 S=>v55 = q54 ∧ S = S0) ∧ ∃ q56:AV,(un .not q54 S fun v57 S=>v57 = q56 ∧ S = S0) ∧ ∃ q58:AV,(q56 = q58 ∧ S = S0) ∧ Q (.ret q58) S) (∃ q59:AV,((.v (.bool false)) = q59 ∧ S = S0) ∧ Q (.ret q59) S))) (∃ q60:AV,((.v (.bool false)) = q60 ∧ S = S0) ∧ onB q60 fun b61=>gd b61 (∃ q62:AV,(shift v1 3 S fun v63 S=>v63 = q62 ∧ S = S0) ∧ ∃ q64:AV,(ld1 q62 S fun v65 S=>v65 = q64 ∧ S = S0) ∧ ∃ q66:AV,(lenS q64 S fun v67 S=>v67 = q66 ∧ S = S0) ∧ ∃ q68:AV,(shift v1 0 S fun v69 S=>v69 = q68 ∧ S = S0) ∧ ∃ q70:AV,(ld1 q68 S fun v71 S=>v71 = q70 ∧ S = S0) ∧ ∃ q72:AV,(callF Tryz.prog 71 [q70] S (fun _ _=>False) fun v73 S=>v73 = q72 ∧ S = S0) ∧ ∃ q74:AV,(bin .eql 0 q66 q72 S fun v75 S=>v75 = q74 ∧ S = S0) ∧ ∃ q76:AV,(q74 = q76 ∧ S = S0) ∧ onB q76 fun b77=>gd b77 (∃ q78:AV,(shift v1 3 S fun v79 S=>v79 = q78 ∧ S = S0) ∧ ∃ q80:AV,(ld1 q78 S fun v81 S=>v81 = q80 ∧ S = S0) ∧ ∃ q82:AV,(callF Tryz.prog 72 [q80,(.f (.func 70) [] [v2])] S (fun _ _=>False) fun v83 S=>v83 = q82 ∧ S = S0) ∧ ∃ q84:AV,(un .not q82 S fun v85 S=>v85 = q84 ∧ S = S0) ∧ ∃ q86:AV,(q84 = q86 ∧ S = S0) ∧ Q (.ret q86) S) (∃ q87:AV,((.v (.bool false)) = q87 ∧ S = S0) ∧ Q (.ret q87) S)) (∃ q88:AV,((.v (.bool false)) = q88 ∧ S = S0) ∧ onB q88 fun b89=>gd b89 (∃ q90:AV,(shift v1 3 S fun v91 S=>v91 = q90 ∧ S = S0) ∧ ∃ q92:AV,(ld1 q90 S fun v93 S=>v93 = q92 ∧ S = S0) ∧ ∃ q94:AV,(callF Tryz.prog 72 [q92,(.f (.func 70) [] [v2])] S (fun _ _=>False) fun v95 S=>v95 = q94 ∧ S = S0) ∧ ∃ q96:AV,(un .not q94 S fun v97 S=>v97 = q96 ∧ S = S0) ∧ ∃ q98:AV,(q96 = q98 ∧ S = S0) ∧ Q (.ret q98) S) (∃ q99:AV,((.v (.bool false)) = q99 ∧ S = S0) ∧ Q (.ret q99) S)))) (∃ q100:AV,((.v (.bool false)) = q100 ∧ S = S0) ∧ onB q100 fun b101=>gd b101 (∃ q102:AV,(shift v1 1 S fun v103 S=>v103 = q102 ∧ S = S0) ∧ ∃ q104:AV,(ld1 q102 S fun v105 S=>v105 = q104 ∧ S = S0) ∧ ∃ q106:AV,(bin .eql 0 q104 (.v (.string { data:=#[] })) S fun v107 S=>v107 = q106 ∧ S = S0) ∧ ∃ q108:AV,(q106 = q108 ∧ S = S0) ∧ onB q108 fun b109=>gd b109 (∃ q110:AV,(shift v1 3 S fun v111 S=>v111 = q110 ∧ S = S0) ∧ ∃ q112:AV,(ld1 q110 S fun v113 S=>v113 = q112 ∧ S = S0) ∧ ∃ q114:AV,(lenS q112 S fun v115 S=>v115 = q114 ∧ S = S0) ∧ ∃ q116:AV,(shift v1 0 S fun v117 S=>v117 = q116 ∧ S = S0) ∧ ∃ q118:AV,(ld1 q116 S fun v119 S=>v119 = q118 ∧ S = S0) ∧ ∃ q120:AV,(callF Tryz.prog 71 [q118] S (fun _ _=>False) fun v121 S=>v121 = q120 ∧ S = S0) ∧ ∃ q122:AV,(bin .eql 0 q114 q120 S fun v123 S=>v123 = q122 ∧ S = S0) ∧ ∃ q124:AV,(q122 = q124 ∧ S = S0) ∧ onB q124 fun b125=>gd b125 (∃ q126:AV,(shift v1 3 S fun v127 S=>v127 = q126 ∧ S = S0) ∧ ∃ q128:AV,(ld1 q126 S fun v129 S=>v129 = q128 ∧ S = S0) ∧ ∃ q130:AV,(callF Tryz.prog 72 [q128,(.f (.func 70) [] [v2])] S (fun _ _=>False) fun v131 S=>v131 = q130 ∧ S = S0) ∧ ∃ q132:AV,(un .not q130 S fun v133 S=>v133 = q132 ∧ S = S0) ∧ ∃ q134:AV,(q132 = q134 ∧ S = S0) ∧ Q (.ret q134) S) (∃ q135:AV,((.v (.bool false)) = q135 ∧ S = S0) ∧ Q (.ret q135) S)) (∃ q136:AV,((.v (.bool false)) = q136 ∧ S = S0) ∧ onB q136 fun b137=>gd b137 (∃ q138:AV,(shift v1 3 S fun v139 S=>v139 = q138 ∧ S = S0) ∧ ∃ q140:AV,(ld1 q138 S fun v141 S=>v141 = q140 ∧ S = S0) ∧ ∃ q142:AV,(callF Tryz.prog 72 [q140,(.f (.func 70) [] [v2])] S (fun _ _=>False) fun v143 S=>v143 = q142 ∧ S = S0) ∧ ∃ q144:AV,(un .not q142 S fun v145 S=>v145 = q144 ∧ S = S0) ∧ ∃ q146:AV,(q144 = q146 ∧ S = S0) ∧ Q (.ret q146) S) (∃ q147:AV,((.v (.bool false)) = q147 ∧ S = S0) ∧ Q (.ret q147) S))) (∃ q148:AV,((.v (.bool false)) = q148 ∧ S = S0) ∧ onB q148 fun b149=>gd b149 (∃ q150:AV,(shift v1 3 S fun v151 S=>v151 = q150 ∧ S = S0) ∧ ∃ q152:AV,(ld1 q150 S fun v153 S=>v153 = q152 ∧ S = S0) ∧ ∃ q154:AV,(lenS q152 S fun v155 S=>v155 = q154 ∧ S = S0) ∧ ∃ q156:AV,(shift v1 0 S fun v157 S=>v157 = q156 ∧ S = S0) ∧ ∃ q158:AV,(ld1 q156 S fun v159 S=>v159 = q158 ∧ S = S0) ∧ ∃ q160:AV,(callF Tryz.prog 71 [q158] S (fun _ _=>False) fun v161 S=>v161 = q160 ∧ S = S0) ∧ ∃ q162:AV,(bin .eql 0 q154 q160 S fun v163 S=>v163 = q162 ∧ S = S0) ∧ ∃ q164:AV,(q162 = q164 ∧ S = S0) ∧ onB q164 fun b165=>gd b165 (∃ q166:AV,(shift v1 3 S fun v167 S=>v167 = q166 ∧ S = S0) ∧ ∃ q168:AV,(ld1 q166 S fun v169 S=>v169 = q168 ∧ S = S0) ∧ ∃ q170:AV,(callF Tryz.prog 72 [q168,(.f (.func 70) [] [v2])] S (fun _ _=>False) fun v171 S=>v171 = q170 ∧ S = S0) ∧ ∃ q172:AV,(un .not q170 S fun v173 S=>v173 = q172 ∧ S = S0) ∧ ∃ q174:AV,(q172 = q174 ∧ S = S0) ∧ Q (.ret q174) S) (∃ q175:AV,((.v (.bool false)) = q175 ∧ S = S0) ∧ Q (.ret q175) S)) (∃ q176:AV,((.v (.bool false)) = q176 ∧ S = S0) ∧ onB q176 fun b177=>gd b177 (∃ q178:AV,(shift v1 3 S fun v179 S=>v179 = q178 ∧ S = S0) ∧ ∃ q180:AV,(ld1 q178 S fun v181 S=>v181 = q180 ∧ S = S0) ∧ ∃ q182:AV,(callF Tryz.prog 72 [q180,(.f (.func 70) [] [v2])] S (fun _ _=>False) fun v183 S=>v183 = q182 ∧ S = S0) ∧ ∃ q184:AV,(un .not q182 S fun v185 S=>v185 = q184 ∧ S = S0) ∧ ∃ q186:AV,(q184 = q186 ∧ S = S0) ∧ Q (.ret q186) S) (∃ q187:AV,((.v (.bool false)) = q187 ∧ S = S0) ∧ Q (.ret q187) S))))) S) (shift v1 2 S fun v188 S=>ld1 v188 S fun v189 S=>bin .gtr 0 v189 (.v (.int .i64 0)) S fun v190 S=>onB v190 fun b191=>gd b191 (shift v1 0 S fun v192 S=>ld1 v192 S fun v193 S=>bin .eql 0 v193 (.v (.int .i64 3)) S fun v194 S=>(fun S0:Store=>∃ q195:AV,(ld1 v2 S fun v196 S=>v196 = q195 ∧ S = S0) ∧ ∃ q197:AV,(bin .gtr 0 q195 (.v (.int .i64 0)) S fun v198 S=>v198 = q197 ∧ S = S0) ∧ onB q197 fun b199=>gd b199 (∃ q200:AV,(v194 = q200 ∧ S = S0) ∧ onB q200 fun b201=>gd b201 (∃ q202:AV,(shift v1 1 S fun v203 S=>v203 = q202 ∧ S = S0) ∧ ∃ q204:AV,(ld1 q202 S fun v205 S=>v205 = q204 ∧ S = S0) ∧ ∃ q206:AV,(bin .eql 0 q204 (.v (.string { data:=#[] })) S fun v207 S=>v207 = q206 ∧ S = S0) ∧ ∃ q208:AV,(q206 = q208 ∧ S = S0) ∧ onB q208 fun b209=>gd b209 (∃ q210:AV,(shift v1 3 S fun v211 S=>v211 = q210 ∧ S = S0) ∧ ∃ q212:AV,(ld1 q210 S fun v213 S=>v213 = q212 ∧ S = S0) ∧ ∃ q214:AV,(lenS q212 S fun v215 S=>v215 = q214 ∧ S = S0) ∧ ∃ q216:AV,(shift v1 0 S fun v217 S=>v217 = q216 ∧ S = S0) ∧ ∃ q218:AV,(ld1 q216 S fun v219 S=>v219 = q218 ∧ S = S0) ∧ ∃ q220:AV,(callF Tryz.prog 71 [q218] S (fun _ _=>False) fun v221 S=>v221 = q220 ∧ S = S0) ∧ ∃ q222:AV,(bin .eql 0 q214 q220 S fun v223 S=>v223 = q222 ∧ S = S0) ∧ ∃ q224:AV,(q222 = q224 ∧ S = S0) ∧ onB q224 fun b225=>gd b225 (∃ q226:AV,(shift v1 3 S fun v227 S=>v227 = q226 ∧ S = S0) ∧ ∃ q228:AV,(ld1 q226 S fun v229 S=>v229 = q228 ∧ S = S0) ∧ ∃ q230:AV,(callF Tryz.prog 72 [q228,(.f (.func 70) [] [v2])] S (fun _ _=>False) fun v231 S=>v231 = q230 ∧ S = S0) ∧ ∃ q232:AV,(un .not q230 S fun v233 S=>v233 = q232 ∧ S = S0) ∧ ∃ q234:AV,(q232 = q234 ∧ S = S0) ∧ Q (.ret q234) S) (∃ q235:AV,((.v (.bool false)) = q235 ∧ S = S0) ∧ Q (.ret q235) S)) (∃ q236:AV,((.v (.bool false)) = q236 ∧ S = S0) ∧ onB q236 fun b237=>gd b237 (∃ q238:AV,(shift v1 3 S fun v239 S=>v239 = q238 ∧ S = S0) ∧ ∃ q240:AV,(ld1 q238 S fun v241 S=>v241 = q240 ∧ S = S0) ∧ ∃ q242:AV,(callF Tryz.prog 72 [q240,(.f (.func 70) [] [v2])] S (fun _ _=>False) fun v243 S=>v243 = q242 ∧ S = S0) ∧ ∃ q244:AV,(un .not q242 S fun v245 S=>v245 = q244 ∧ S = S0) ∧ ∃ q246:AV,(q244 = q246 ∧ S = S0) ∧ Q (.ret q246) S) (∃ q247:AV,((.v (.bool false)) = q247 ∧ S = S0) ∧ Q (.ret q247) S))) (∃ q248:AV,((.v (.bool false)) = q248 ∧ S = S0) ∧ onB q248 fun b249=>gd b249 (∃ q250:AV,(shift v1 3 S fun v251 S=>v251 = q250 ∧ S = S0) ∧ ∃ q252:AV,(ld1 q250 S fun v253 S=>v253 = q252 ∧ S = S0) ∧ ∃ q254:AV,(lenS q252 S fun v255 S=>v255 = q254 ∧ S = S0) ∧ ∃ q256:AV,(shift v1 0 S fun v257 S=>v257 = q256 ∧ S = S0) ∧ ∃ q258:AV,(ld1 q256 S fun v259 S=>v259 = q258 ∧ S = S0) ∧ ∃ q260:AV,(callF Tryz.prog 71 [q258] S (fun _ _=>False) fun v261 S=>v261 = q260 ∧ S = S0) ∧ ∃ q262:AV,(bin .eql 0 q254 q260 S fun v263 S=>v263 = q262 ∧ S = S0) ∧ ∃ q264:AV,(q262 = q264 ∧ S = S0) ∧ onB q264 fun b265=>gd b265 (∃ q266:AV,(shift v1 3 S fun v267 S=>v267 = q266 ∧ S = S0) ∧ ∃ q268:AV,(ld1 q266 S fun v269 S=>v269 = q268 ∧ S = S0) ∧ ∃ q270:AV,(callF Tryz.prog 72 [q268,(.f (.func 70) [] [v2])] S (fun _ _=>False) fun v271 S=>v271 = q270 ∧ S = S0) ∧ ∃ q272:AV,(un .not q270 S fun v273 S=>v273 = q272 ∧ S = S0) ∧ ∃ q274:AV,(q272 = q274 ∧ S = S0) ∧ Q (.ret q274) S) (∃ q275:AV,((.v (.bool false)) = q275 ∧ S = S0) ∧ Q (.ret q275) S)) (∃ q276:AV,((.v (.bool false)) = q276 ∧ S = S0) ∧ onB q276 fun b277=>gd b277 (∃ q278:AV,(shift v1 3 S fun v279 S=>v279 = q278 ∧ S = S0) ∧ ∃ q280:AV,(ld1 q278 S fun v281 S=>v281 = q280 ∧ S = S0) ∧ ∃ q282:AV,(callF Tryz.prog 72 [q280,(.f (.func 70) [] [v2])] S (fun _ _=>False) fun v283 S=>v283 = q282 ∧ S = S0) ∧ ∃ q284:AV,(un .not q282 S fun v285 S=>v285 = q284 ∧ S = S0) ∧ ∃ q286:AV,(q284 = q286 ∧ S = S0) ∧ Q (.ret q286) S) (∃ q287:AV,((.v (.bool false)) = q287 ∧ S = S0) ∧ Q (.ret q287) S)))) (∃ q288:AV,((.v (.bool false)) = q288 ∧ S = S0) ∧ onB q288 fun b289=>gd b289 (∃ q290:AV,(shift v1 1 S fun v291 S=>v291 = q290 ∧ S = S0) ∧ ∃ q292:AV,(ld1 q290 S fun v293 S=>v293 = q292 ∧ S = S0) ∧ ∃ q294:AV,(bin .eql 0 q292 (.v (.string { data:=#[] })) S fun v295 S=>v295 = q294 ∧ S = S0) ∧ ∃ q296:AV,(q294 = q296 ∧ S = S0) ∧ onB q296 fun b297=>gd b297 (∃ q298:AV,(shift v1 3 S fun v299 S=>v299 = q298 ∧ S = S0) ∧ ∃ q300:AV,(ld1 q298 S fun v301 S=>v301 = q300 ∧ S = S0) ∧ ∃ q302:AV,(lenS q300 S fun v303 S=>v303 = q302 ∧ S = S0) ∧ ∃ q304:AV,(shift v1 0 S fun v305 S=>v305 = q304 ∧ S = S0) ∧ ∃ q306:AV,(ld1 q304 S fun v307 S=>v307 = q306 ∧ S = S0) ∧ ∃ q308:AV,(callF Tryz.prog 71 [q306] S (fun _ _=>False) fun v309 S=>v309 = q308 ∧ S = S0) ∧ ∃ q310:AV,(bin .eql 0 q302 q308 S fun v311 S=>v311 = q310 ∧ S = S0) ∧ ∃ q312:AV,(q310 = q312 ∧ S = S0) ∧ onB q312 fun b313=>gd b313 (∃ q314:AV,(shift v1 3 S fun v315 S=>v315 = q314 ∧ S = S0) ∧ ∃ q316:AV,(ld1 q314 S fun v317 S=>v317 = q316 ∧ S = S0) ∧ ∃ q318:AV,(callF Tryz.prog 72 [q316,(.f (.func 70) [] [v2])] S (fun _ _=>False) fun v319 S=>v319 = q318 ∧ S = S0) ∧ ∃ q320:AV,(un .not q318 S fun v321 S=>v321 = q320 ∧ S = S0) ∧ ∃ q322:AV,(q320 = q322 ∧ S = S0) ∧ Q (.ret q322) S) (∃ q323:AV,((.v (.bool false)) = q323 ∧ S = S0) ∧ Q (.ret q323) S)) (∃ q324:AV,((.v (.bool false)) = q324 ∧ S = S0) ∧ onB q324 fun b325=>gd b325 (∃ q326:AV,(shift v1 3 S fun v327 S=>v327 = q326 ∧ S = S0) ∧ ∃ q328:AV,(ld1 q326 S fun v329 S=>v329 = q328 ∧ S = S0) ∧ ∃ q330:AV,(callF Tryz.prog 72 [q328,(.f (.func 70) [] [v2])] S (fun _ _=>False) fun v331 S=>v331 = q330 ∧ S = S0) ∧ ∃ q332:AV,(un .not q330 S fun v333 S=>v333 = q332 ∧ S = S0) ∧ ∃ q334:AV,(q332 = q334 ∧ S = S0) ∧ Q (.ret q334) S) (∃ q335:AV,((.v (.bool false)) = q335 ∧ S = S0) ∧ Q (.ret q335) S))) (∃ q336:AV,((.v (.bool false)) = q336 ∧ S = S0) ∧ onB q336 fun b337=>gd b337 (∃ q338:AV,(shift v1 3 S fun v339 S=>v339 = q338 ∧ S = S0) ∧ ∃ q340:AV,(ld1 q338 S fun v341 S=>v341 = q340 ∧ S = S0) ∧ ∃ q342:AV,(lenS q340 S fun v343 S=>v343 = q342 ∧ S = S0) ∧ ∃ q344:AV,(shift v1 0 S fun v345 S=>v345 = q344 ∧ S = S0) ∧ ∃ q346:AV,(ld1 q344 S fun v347 S=>v347 = q346 ∧ S = S0) ∧ ∃ q348:AV,(callF Tryz.prog 71 [q346] S (fun _ _=>False) fun v349 S=>v349 = q348 ∧ S = S0) ∧ ∃ q350:AV,(bin .eql 0 q342 q348 S fun v351 S=>v351 = q350 ∧ S = S0) ∧ ∃ q352:AV,(q350 = q352 ∧ S = S0) ∧ onB q352 fun b353=>gd b353 (∃ q354:AV,(shift v1 3 S fun v355 S=>v355 = q354 ∧ S = S0) ∧ ∃ q356:AV,(ld1 q354 S fun v357 S=>v357 = q356 ∧ S = S0) ∧ ∃ q358:AV,(callF Tryz.prog 72 [q356,(.f (.func 70) [] [v2])] S (fun _ _=>False) fun v359 S=>v359 = q358 ∧ S = S0) ∧ ∃ q360:AV,(un .not q358 S fun v361 S=>v361 = q360 ∧ S = S0) ∧ ∃ q362:AV,(q360 = q362 ∧ S = S0) ∧ Q (.ret q362) S) (∃ q363:AV,((.v (.bool false)) = q363 ∧ S = S0) ∧ Q (.ret q363) S)) (∃ q364:AV,((.v (.bool false)) = q364 ∧ S = S0) ∧ onB q364 fun b365=>gd b365 (∃ q366:AV,(shift v1 3 S fun v367 S=>v367 = q366 ∧ S = S0) ∧ ∃ q368:AV,(ld1 q366 S fun v369 S=>v369 = q368 ∧ S = S0) ∧ ∃ q370:AV,(callF Tryz.prog 72 [q368,(.f (.func 70) [] [v2])] S (fun _ _=>False) fun v371 S=>v371 = q370 ∧ S = S0) ∧ ∃ q372:AV,(un .not q370 S fun v373 S=>v373 = q372 ∧ S = S0) ∧ ∃ q374:AV,(q372 = q374 ∧ S = S0) ∧ Q (.ret q374) S) (∃ q375:AV,((.v (.bool false)) = q375 ∧ S = S0) ∧ Q (.ret q375) S))))) S) ((fun S0:Store=>∃ q376:AV,(ld1 v2 S fun v377 S=>v377 = q376 ∧ S = S0) ∧ ∃ q378:AV,(bin .gtr 0 q376 (.v (.int .i64 0)) S fun v379 S=>v379 = q378 ∧ S = S0) ∧ onB q378 fun b380=>gd b380 (∃ q381:AV,((.v (.bool false)) = q381 ∧ S = S0) ∧ onB q381 fun b382=>gd b382 (∃ q383:AV,(shift v1 1 S fun v384 S=>v384 = q383 ∧ S = S0) ∧ ∃ q385:AV,(ld1 q383 S fun v386 S=>v386 = q385 ∧ S = S0) ∧ ∃ q387:AV,(bin .eql 0 q385 (.v (.string { data:=#[] })) S fun v388 S=>v388 = q387 ∧ S = S0) ∧ ∃ q389:AV,(q387 = q389 ∧ S = S0) ∧ onB q389 fun b390=>gd b390 (∃ q391:AV,(shift v1 3 S fun v392 S=>v392 = q391 ∧ S = S0) ∧ ∃ q393:AV,(ld1 q391 S fun v394 S=>v394 = q393 ∧ S = S0) ∧ ∃ q395:AV,(lenS q393 S fun v396 S=>v396 = q395 ∧ S = S0) ∧ ∃ q397:AV,(shift v1 0 S fun v398 S=>v398 = q397 ∧ S = S0) ∧ ∃ q399:AV,(ld1 q397 S fun v400 S=>v400 = q399 ∧ S = S0) ∧ ∃ q401:AV,(callF Tryz.prog 71 [q399] S (fun _ _=>False) fun v402 S=>v402 = q401 ∧ S = S0) ∧ ∃ q403:AV,(bin .eql 0 q395 q401 S fun v404 S=>v404 = q403 ∧ S = S0) ∧ ∃ q405:AV,(q403 = q405 ∧ S = S0) ∧ onB q405 fun b406=>gd b406 (∃ q407:AV,(shift v1 3 S fun v408 S=>v408 = q407 ∧ S = S0) ∧ ∃ q409:AV,(ld1 q407 S fun v410 S=>v410 = q409 ∧ S = S0) ∧ ∃ q411:AV,(callF Tryz.prog 72 [q409,(.f (.func 70) [] [v2])] S (fun _ _=>False) fun v412 S=>v412 = q411 ∧ S = S0) ∧ ∃ q413:AV,(un .not q411 S fun v414 S=>v414 = q413 ∧ S = S0) ∧ ∃ q415:AV,(q413 = q415 ∧ S = S0) ∧ Q (.ret q415) S) (∃ q416:AV,((.v (.bool false)) = q416 ∧ S = S0) ∧ Q (.ret q416) S)) (∃ q417:AV,((.v (.bool false)) = q417 ∧ S = S0) ∧ onB q417 fun b418=>gd b418 (∃ q419:AV,(shift v1 3 S fun v420 S=>v420 = q419 ∧ S = S0) ∧ ∃ q421:AV,(ld1 q419 S fun v422 S=>v422 = q421 ∧ S = S0) ∧ ∃ q423:AV,(callF Tryz.prog 72 [q421,(.f (.func 70) [] [v2])] S (fun _ _=>False) fun v424 S=>v424 = q423 ∧ S = S0) ∧ ∃ q425:AV,(un .not q423 S fun v426 S=>v426 = q425 ∧ S = S0) ∧ ∃ q427:AV,(q425 = q427 ∧ S = S0) ∧ Q (.ret q427) S) (∃ q428:AV,((.v (.bool false)) = q428 ∧ S = S0) ∧ Q (.ret q428) S))) (∃ q429:AV,((.v (.bool false)) = q429 ∧ S = S0) ∧ onB q429 fun b430=>gd b430 (∃ q431:AV,(shift v1 3 S fun v432 S=>v432 = q431 ∧ S = S0) ∧ ∃ q433:AV,(ld1 q431 S fun v434 S=>v434 = q433 ∧ S = S0) ∧ ∃ q435:AV,(lenS q433 S fun v436 S=>v436 = q435 ∧ S = S0) ∧ ∃ q437:AV,(shift v1 0 S fun v438 S=>v438 = q437 ∧ S = S0) ∧ ∃ q439:AV,(ld1 q437 S fun v440 S=>v440 = q439 ∧ S = S0) ∧ ∃ q441:AV,(callF Tryz.prog 71 [q439] S (fun _ _=>False) fun v442 S=>v442 = q441 ∧ S = S0) ∧ ∃ q443:AV,(bin .eql 0 q435 q441 S fun v444 S=>v444 = q443 ∧ S = S0) ∧ ∃ q445:AV,(q443 = q445 ∧ S = S0) ∧ onB q445 fun b446=>gd b446 (∃ q447:AV,(shift v1 3 S fun v448 S=>v448 = q447 ∧ S = S0) ∧ ∃ q449:AV,(ld1 q447 S fun v450 S=>v450 = q449 ∧ S = S0) ∧ ∃ q451:AV,(callF Tryz.prog 72 [q449,(.f (.func 70) [] [v2])] S (fun _ _=>False) fun v452 S=>v452 = q451 ∧ S = S0) ∧ ∃ q453:AV,(un .not q451 S fun v454 S=>v454 = q453 ∧ S = S0) ∧ ∃ q455:AV,(q453 = q455 ∧ S = S0) ∧ Q (.ret q455) S) (∃ q456:AV,((.v (.bool false)) = q456 ∧ S = S0) ∧ Q (.ret q456) S)) (∃ q457:AV,((.v (.bool false)) = q457 ∧ S = S0) ∧ onB q457 fun b458=>gd b458 (∃ q459:AV,(shift v1 3 S fun v460 S=>v460 = q459 ∧ S = S0) ∧ ∃ q461:AV,(ld1 q459 S fun v462 S=>v462 = q461 ∧ S = S0) ∧ ∃ q463:AV,(callF Tryz.prog 72 [q461,(.f (.func 70) [] [v2])] S (fun _ _=>False) fun v464 S=>v464 = q463 ∧ S = S0) ∧ ∃ q465:AV,(un .not q463 S fun v466 S=>v466 = q465 ∧ S = S0) ∧ ∃ q467:AV,(q465 = q467 ∧ S = S0) ∧ Q (.ret q467) S) (∃ q468:AV,((.v (.bool false)) = q468 ∧ S = S0) ∧ Q (.ret q468) S)))) (∃ q469:AV,((.v (.bool false)) = q469 ∧ S = S0) ∧ onB q469 fun b470=>gd b470 (∃ q471:AV,(shift v1 1 S fun v472 S=>v472 = q471 ∧ S = S0) ∧ ∃ q473:AV,(ld1 q471 S fun v474 S=>v474 = q473 ∧ S = S0) ∧ ∃ q475:AV,(bin .eql 0 q473 (.v (.string { data:=#[] })) S fun v476 S=>v476 = q475 ∧ S = S0) ∧ ∃ q477:AV,(q475 = q477 ∧ S = S0) ∧ onB q477 fun b478=>gd b478 (∃ q479:AV,(shift v1 3 S fun v480 S=>v480 = q479 ∧ S = S0) ∧ ∃ q481:AV,(ld1 q479 S fun v482 S=>v482 = q481 ∧ S = S0) ∧ ∃ q483:AV,(lenS q481 S fun v484 S=>v484 = q483 ∧ S = S0) ∧ ∃ q485:AV,(shift v1 0 S fun v486 S=>v486 = q485 ∧ S = S0) ∧ ∃ q487:AV,(ld1 q485 S fun v488 S=>v488 = q487 ∧ S = S0) ∧ ∃ q489:AV,(callF Tryz.prog 71 [q487] S (fun _ _=>False) fun v490 S=>v490 = q489 ∧ S = S0) ∧ ∃ q491:AV,(bin .eql 0 q483 q489 S fun v492 S=>v492 = q491 ∧ S = S0) ∧ ∃ q493:AV,(q491 = q493 ∧ S = S0) ∧ onB q493 fun b494=>gd b494 (∃ q495:AV,(shift v1 3 S fun v496 S=>v496 = q495 ∧ S = S0) ∧ ∃ q497:AV,(ld1 q495 S fun v498 S=>v498 = q497 ∧ S = S0) ∧ ∃ q499:AV,(callF Tryz.prog 72 [q497,(.f (.func 70) [] [v2])] S (fun _ _=>False) fun v500 S=>v500 = q499 ∧ S = S0) ∧ ∃ q501:AV,(un .not q499 S fun v502 S=>v502 = q501 ∧ S = S0) ∧ ∃ q503:AV,(q501 = q503 ∧ S = S0) ∧ Q (.ret q503) S) (∃ q504:AV,((.v (.bool false)) = q504 ∧ S = S0) ∧ Q (.ret q504) S)) (∃ q505:AV,((.v (.bool false)) = q505 ∧ S = S0) ∧ onB q505 fun b506=>gd b506 (∃ q507:AV,(shift v1 3 S fun v508 S=>v508 = q507 ∧ S = S0) ∧ ∃ q509:AV,(ld1 q507 S fun v510 S=>v510 = q509 ∧ S = S0) ∧ ∃ q511:AV,(callF Tryz.prog 72 [q509,(.f (.func 70) [] [v2])] S (fun _ _=>False) fun v512 S=>v512 = q511 ∧ S = S0) ∧ ∃ q513:AV,(un .not q511 S fun v514 S=>v514 = q513 ∧ S = S0) ∧ ∃ q515:AV,(q513 = q515 ∧ S = S0) ∧ Q (.ret q515) S) (∃ q516:AV,((.v (.bool false)) = q516 ∧ S = S0) ∧ Q (.ret q516) S))) (∃ q517:AV,((.v (.bool false)) = q517 ∧ S = S0) ∧ onB q517 fun b518=>gd b518 (∃ q519:AV,(shift v1 3 S fun v520 S=>v520 = q519 ∧ S = S0) ∧ ∃ q521:AV,(ld1 q519 S fun v522 S=>v522 = q521 ∧ S = S0) ∧ ∃ q523:AV,(lenS q521 S fun v524 S=>v524 = q523 ∧ S = S0) ∧ ∃ q525:AV,(shift v1 0 S fun v526 S=>v526 = q525 ∧ S = S0) ∧ ∃ q527:AV,(ld1 q525 S fun v528 S=>v528 = q527 ∧ S = S0) ∧ ∃ q529:AV,(callF Tryz.prog 71 [q527] S (fun _ _=>False) fun v530 S=>v530 = q529 ∧ S = S0) ∧ ∃ q531:AV,(bin .eql 0 q523 q529 S fun v532 S=>v532 = q531 ∧ S = S0) ∧ ∃ q533:AV,(q531 = q533 ∧ S = S0) ∧ onB q533 fun b534=>gd b534 (∃ q535:AV,(shift v1 3 S fun v536 S=>v536 = q535 ∧ S = S0) ∧ ∃ q537:AV,(ld1 q535 S fun v538 S=>v538 = q537 ∧ S = S0) ∧ ∃ q539:AV,(callF Tryz.prog 72 [q537,(.f (.func 70) [] [v2])] S (fun _ _=>False) fun v540 S=>v540 = q539 ∧ S = S0) ∧ ∃ q541:AV,(un .not q539 S fun v542 S=>v542 = q541 ∧ S = S0) ∧ ∃ q543:AV,(q541 = q543 ∧ S = S0) ∧ Q (.ret q543) S) (∃ q544:AV,((.v (.bool false)) = q544 ∧ S = S0) ∧ Q (.ret q544) S)) (∃ q545:AV,((.v (.bool false)) = q545 ∧ S = S0) ∧ onB q545 fun b546=>gd b546 (∃ q547:AV,(shift v1 3 S fun v548 S=>v548 = q547 ∧ S = S0) ∧ ∃ q549:AV,(ld1 q547 S fun v550 S=>v550 = q549 ∧ S = S0) ∧ ∃ q551:AV,(callF Tryz.prog 72 [q549,(.f (.func 70) [] [v2])] S (fun _ _=>False) fun v552 S=>v552 = q551 ∧ S = S0) ∧ ∃ q553:AV,(un .not q551 S fun v554 S=>v554 = q553 ∧ S = S0) ∧ ∃ q555:AV,(q553 = q555 ∧ S = S0) ∧ Q (.ret q555) S) (∃ q556:AV,((.v (.bool false)) = q556 ∧ S = S0) ∧ Q (.ret q556) S))))) S))
theorem calls43 {x0 x1:AV} {S:Store} {Q:PoT} (h:m43 x0 x1 S Q):ACalls Tryz.prog 43 [x0,x1] S Q :=
  calls_of_vc (fn:=Tryz.f43) (c:=c43) (n:=47) Tryz.func43 (by kernel_rfl) (by kernel_rfl) (by kernel_rfl) ms43 (Eq.mpr (by kernel_rfl) h)
end Go.Proofs.YtolgpokppnajdaaGreat.G
set_option linter.unusedVariables false
set_option linter.unusedSimpArgs false
namespace Go.Proofs.YtolgpokppnajdaaGreat.G
open Go Go.Ab
def bit (p:List Bool) (i:Nat):Bool:=p.getD i false
def nx (s:Sp) (i:Nat):List Int:=s.next.getD i []
def tab {α:Type} (n:Nat) (f:Nat → α):List α:=(List.range n).map f
@[simp] theorem tab_len {α:Type} (n:Nat) (f:Nat → α):(tab n f).length = n:=by simp [tab]
def exP (s:Sp) (p:List Bool):List Bool:=tab p.length fun i=>bit s.valid i && (nx s i).any fun k=>bit p k.toNat
def andP (a b:List Bool):List Bool:=tab a.length fun i=>bit a i && bit b i
inductive Reach (s:Sp) (p q:List Bool):Nat → Prop
  | base (i:Nat) (h1:bit q i = true) (h2:bit s.valid i = true):Reach s p q i
  | step (i k:Nat) (h1:bit p i = true) (h2:bit s.valid i = true) (h3:(k:Int) ∈ nx s i) (h:Reach s p q k):Reach s p q i
open Classical in
noncomputable def euP (s:Sp) (p q:List Bool):List Bool:=tab q.length fun i=>decide (Reach s p q i)
@[simp] theorem andP_len (a b:List Bool):(andP a b).length = a.length:=by simp [andP]
@[simp] theorem exP_len (s:Sp) (p:List Bool):(exP s p).length = p.length:=by simp [exP]
@[simp] theorem euP_len (s:Sp) (p q:List Bool):(euP s p q).length = q.length:=by simp [euP]
def Sub (a b:List Bool):Prop:=∀ i,bit a i = true → bit b i = true
noncomputable def stepP (s:Sp) (z f:List Bool):List Bool:=andP z (exP s (euP s z (andP z f)))
@[simp] theorem stepP_len (s:Sp) (z f:List Bool):(stepP s z f).length = z.length:=by simp [stepP]
def Stay (s:Sp) (fs:List (List Bool)) (z:List Bool):Prop:=∀ f ∈ fs,Sub z (stepP s z f)
def fairL (s:Sp):List (List Bool):=if s.fair.isEmpty then [s.valid] else s.fair
def InEG (s:Sp) (p:List Bool) (i:Nat):Prop:=∃ z:List Bool,z.length = p.length ∧ Sub z (andP p s.valid) ∧ Stay s (fairL s) z ∧ bit z i = true
open Classical in
noncomputable def egP (s:Sp) (p:List Bool):List Bool:=tab p.length fun i=>decide (InEG s p i)
@[simp] theorem egP_len (s:Sp) (p:List Bool):(egP s p).length = p.length:=by simp [egP]
def orP (a b:List Bool):List Bool:=tab a.length fun i=>bit a i || bit b i
@[simp] theorem orP_len (a b:List Bool):(orP a b).length = a.length:=by simp [orP]
structure In (s:Sp) (p:List Bool):Prop where
  len:p.length = s.valid.length
  sub:Sub p s.valid
theorem may_cases {k:Int} {n:ByteArray} {l:Int} {ks:List Fo} {d:Int} (h:Fo.mayB (.mk k n l ks) d = true) :
    n = (⟨#[]⟩:ByteArray) ∧ 0 < d ∧ (((k = 1 ∨ k = 2) ∧ ks = [] ∧ l = 0) ∨ (k = 3 ∧ ks = [] ∧ 0 ≤ l) ∨ ((k = 4 ∨ 9 ≤ k ∧ k ≤ 14) ∧ l = 0 ∧ ∃ f,ks = [f] ∧ f.mayB (d - 1) = true) ∨ ((5 ≤ k ∧ k ≤ 8 ∨ 15 ≤ k ∧ k ≤ 18) ∧ l = 0 ∧ ∃ f g,ks = [f,g] ∧ f.mayB (d - 1) = true ∧ g.mayB (d - 1) = true)):=by
  rw [Fo.mayB_mk] at h
  simp only [Bool.and_eq_true,decide_eq_true_eq,List.all_eq_true] at h
  obtain ⟨h1,h2,h3,h4,h5⟩:=h
  refine ⟨h3,h1,?_⟩
  unfold kidsN at h4
  split at h4
  · omega
  split at h4
  · have:ks = []:=List.eq_nil_of_length_eq_zero (by omega)
    by_cases hk:k = 3
    · exact .inr (.inl ⟨hk,this,by omega⟩)
    · exact .inl ⟨by omega,this,by omega⟩
  split at h4
  · rename_i hk
    obtain ⟨f,rfl⟩:=List.length_eq_one_iff.1 (show ks.length = 1 by omega)
    exact .inr (.inr (.inl ⟨hk,by omega,f,rfl,h5 f (by simp)⟩))
  · match ks,h4,h5 with
    | [f,g],_,h5=>exact .inr (.inr (.inr ⟨by omega,by omega,f,g,rfl,h5 f (by simp),h5 g (by simp)⟩))
    | [],h4,_=>simp at h4
    | [_],h4,_=>simp at h4
    | _ :: _ :: _ :: _,h4,_=>simp at h4; omega
theorem J_eqS {a b:ByteArray} {S0:Store} {P:AV → Prop}:(∃ q,(bin .eql 0 (.v (.string a)) (.v (.string b)) S0 fun v S=>v = q ∧ S = S0) ∧ P q) = P (aB (decide (a = b))):=J_by (op:=fun K=>bin .eql 0 (.v (.string a)) (.v (.string b)) S0 K) fun K=>bin_eqlS _ _ _
theorem J_neS {a b:ByteArray} {S0:Store} {P:AV → Prop}:(∃ q,(bin .neq 0 (.v (.string a)) (.v (.string b)) S0 fun v S=>v = q ∧ S = S0) ∧ P q) = P (aB (!decide (a = b))):=J_by (op:=fun K=>bin .neq 0 (.v (.string a)) (.v (.string b)) S0 K) fun K=>bin_neqS _ _ _
theorem J_lenfoL {l:List Fo} {S0:Store} {P:AV → Prop}:(∃ q,(lenS (foL l) S0 fun v S=>v = q ∧ S = S0) ∧ P q) = P (aI l.length):=J_by (op:=fun K=>lenS (foL l) S0 K) fun K=>lenS_foL _
theorem kids_at (k:Int) {f:FuncId} {m:AV → Store → (AEnd → Store → Prop) → Prop} (hm:∀ (S:Store) (Q:AEnd → Store → Prop),m (aI k) S Q → ACalls Tryz.prog f [aI k] S Q)
    (hd:∀ (S:Store) (Q:AEnd → Store → Prop),m (aI k) S Q = (bin .lss 0 (aI k) (.v (.int .i64 1)) S fun v S=>onB v fun b=>gd b (Q (.ret (aI (-1))) S) (bin .gtr 0 (aI k) (.v (.int .i64 18)) S fun v S=>onB v fun b=>gd b (Q (.ret (aI (-1))) S) (bin .leq 0 (aI k) (.v (.int .i64 3)) S fun v S=>onB v fun b=>gd b (Q (.ret (aI 0)) S)
      (bin .eql 0 (aI k) (.v (.int .i64 4)) S fun v S=>onB v fun b=>gd b (Q (.ret (aI 1)) S) (bin .geq 0 (aI k) (.v (.int .i64 9)) S fun v S=>onB v fun b=>gd b (bin .leq 0 (aI k) (.v (.int .i64 14)) S fun v S=>onB v fun b=>gd b (Q (.ret (aI 1)) S) (Q (.ret (aI 2)) S)) (Q (.ret (aI 2)) S))))))) :
    Ans Tryz.prog f [aI k] (aI (kidsN k)):=by
  intro S
  refine hm S _ ?_
  rw [hd,bin_lss,onB_v]
  unfold kidsN
  refine gd_of (fun h=>⟨by rw [if_pos (.inl (of_decide_eq_true h))],rfl⟩) (fun h1=>?_)
  have h1:=of_decide_eq_false h1
  rw [bin_gtr,onB_v]
  refine gd_of (fun h=>⟨by rw [if_pos (.inr (of_decide_eq_true h))],rfl⟩) (fun h2=>?_)
  have h2:=of_decide_eq_false h2
  rw [if_neg (by omega),bin_leq,onB_v]
  refine gd_of (fun h=>⟨by rw [if_pos (of_decide_eq_true h)],rfl⟩) (fun h3=>?_)
  have h3:=of_decide_eq_false h3
  rw [if_neg h3,bin_eql,onB_v]
  refine gd_of (fun h=>⟨by rw [if_pos (.inl (of_decide_eq_true h))],rfl⟩) (fun h4=>?_)
  have h4:=of_decide_eq_false h4
  rw [bin_geq,onB_v]
  refine gd_of (fun h5=>?_) (fun h5=>?_)
  · have h5:=of_decide_eq_true h5
    rw [bin_leq,onB_v]
    refine gd_of (fun h=>⟨by rw [if_pos (.inr ⟨h5,of_decide_eq_true h⟩)],rfl⟩) (fun h=>⟨by have:=of_decide_eq_false h; rw [if_neg (by omega)],rfl⟩)
  · have h5:=of_decide_eq_false h5
    exact ⟨by rw [if_neg (by omega)],rfl⟩
theorem ans71 (k:Int):Ans Tryz.prog 71 [aI k] (aI (kidsN k)):=kids_at k (m:=m71) (fun S Q h=>calls71 h) fun S Q=>rfl
theorem ans64 (k:Int):Ans Tryz.prog 64 [aI k] (aI (kidsN k)):=kids_at k (m:=m64) (fun S Q h=>calls64 h) fun S Q=>rfl
theorem at119 {l:List Fo} (hl:l.length ≤ 9223372036854775807) {g:Fo → Bool} {fn:FuncId} {fs cs:List AV} {S:Store}
    (hf:∀ x,x ∈ l → AnsAt Tryz.prog fn (fs ++ [x.av] ++ cs) S (aB (g x))):AnsAt Tryz.prog 119 [foL l,.f (.func fn) fs cs] S (aI (idxOf (l.findIdx? g))):=by
  refine calls119 ?_
  unfold m119
  rw [lenS_foL]
  refine loop119_0 (fun y S'=>S' = S ∧ ∃ i:Nat,y = aI i ∧ i ≤ l.length ∧ ∀ k (hk:k < l.length),k < i → g l[k] = false) (fun y _=>l.length - ((intA y).getD 0).toNat) ⟨rfl,0,rfl,Nat.zero_le _,fun k _ h=>absurd h (Nat.not_lt_zero _)⟩ ?_
  rintro _ _ ⟨rfl,i,rfl,hi,hk⟩ KE hKE
  unfold b119_0
  rw [bin_lss,onB_v]
  refine gd_of (fun h=>?_) (fun h=>?_)
  · have hlt:i < l.length:=by simpa using h
    rw [ixS_foL hlt,ldN_q (Fo.row_len _)]
    refine callV_at (hf _ (List.getElem_mem hlt)) ?_
    rw [onB_v]
    refine gd_of (fun hg=>⟨?_,rfl⟩) (fun hg=>?_)
    · rw [find_at hlt hg (fun k hk'=>hk k _ hk')]; rfl
    · rw [bin_add (by omega) (by omega)]
      refine hKE _ _ ⟨rfl,i + 1,rfl,hlt,fun k hk1 hk2=>?_⟩ ?_
      · by_cases e:k = i
        · subst e; exact hg
        · exact hk k hk1 (by omega)
      · simp [intA]; omega
  · have hge:i = l.length:=by simp at h; omega
    subst hge
    rw [find_none (fun k hk'=>hk k hk' hk')]
    exact ⟨rfl,rfl⟩
theorem at72 {l:List Fo} (hl:l.length ≤ 9223372036854775807) {g:Fo → Bool} {fn:FuncId} {fs cs:List AV} {S:Store}
    (hf:∀ x,x ∈ l → AnsAt Tryz.prog fn (fs ++ [x.av] ++ cs) S (aB (g x))):AnsAt Tryz.prog 72 [foL l,.f (.func fn) fs cs] S (aB (l.any g)):=by
  refine calls72 ?_
  unfold m72
  refine callF_at (at119 hl hf) ?_
  rw [bin_geq,idx_any]
  exact ⟨rfl,rfl⟩
theorem any_notF {l:List Fo} {g:Fo → Bool}:l.any (fun x=>!g x) = !l.all g:=by
  induction l with
  | nil=>rfl
  | cons a l ih=>rw [List.any_cons,List.all_cons,ih,Bool.not_and]
theorem Fo.ok.inv {k:Int} {n:ByteArray} {l:Int} {ks:List Fo} (h:Fo.ok (.mk k n l ks)):i64R k ∧ i64R l ∧ n.size ≤ 9223372036854775807 ∧ ks.length ≤ 1000000 ∧ ∀ f ∈ ks,Fo.ok f:=by
  cases h with
  | mk k n l ks h1 h2 h3 h4 h=>exact ⟨h1,h2,h3,h4,h⟩
theorem at70 {S:Store} {id t:Nat} {d:Int} {f:Fo} {b:Bool} (h:S.obj id = some (.cells t [[aI d]] true)) (hid:id < S.n) (h0:0 < d) (hd:i64R d) (hr:Ans Tryz.prog 43 [f.av,aI (d - 1)] (aB b)) :
    AnsAt Tryz.prog 70 [f.av,.p id 0 0] S (aB (!b)):=by
  refine ACalls.ans_v (calls70 ?_)
  unfold m70 Fo.av
  refine boxA_of (Fo.row_len f) fun S1 k1 n1 o1=>?_
  rw [ldN_p (n:=4) o1 (Fo.row_len f),ld1_p ((k1.2 _ hid).trans h) rfl rfl,bin_sub (by have:=hd.2; omega) (by have:=hd.2; omega)]
  refine callF_ans hr ?_
  rw [un_not]
  exact ⟨rfl,k1⟩
theorem ans43:∀ (f:Fo),f.ok → ∀ d,i64R d → Ans Tryz.prog 43 [f.av,aI d] (aB (f.mayB d)):=by
  intro f
  induction f using Fo.ind with
  | h k n l ks ih =>
    intro hok d hd S
    obtain ⟨h1,h2,h3,h4,h5⟩:=hok.inv
    refine ACalls.ans_v (calls43 ?_)
    unfold m43 Fo.av
    rw [Fo.row_mk,Fo.mayB_mk]
    refine boxA_of rfl fun S1 k1 n1 o1=>?_
    refine box1_of rfl fun S2 k2 n2 o2=>?_
    have p2:=(k2.2 _ (by omega)).trans o1
    have kk:=k1.trans k2
    have hcont:0 < d → AnsAt Tryz.prog 72 [foL ks,.f (.func 70) [] [.p S1.n 0 0]] S2 (aB (!ks.all fun f=>f.mayB (d - 1))):=fun h0=>by
      rw [← any_notF]
      exact at72 (by omega) fun x hx=>at70 o2 (by omega) h0 hd (ih x hx (h5 x hx) (d - 1) ⟨by have:=hd.2; omega,by have:=hd.2; omega⟩)
    rw [shift_p,ld1_p p2 rfl rfl,bin_eql,onB_v]
    have hk:=ans71 k
    have fin:∀ (b:Bool) (E:AEnd),b = (decide (0 < d) && (decide (l = 0 ∨ 0 < l ∧ k = 3) && (decide (n = (⟨#[]⟩:ByteArray)) && (decide ((ks.length:Int) = kidsN k) && ks.all fun f=>f.mayB (d - 1))))) → E = .ret (aB b) →
        E = .ret (aB (decide (0 < d) && (decide (l = 0 ∨ 0 < l ∧ k = 3) && (decide (n = (⟨#[]⟩:ByteArray)) && (decide ((ks.length:Int) = kidsN k) && ks.all fun f=>f.mayB (d - 1)))))) ∧ Keep S S2:=fun b E h1 h2=>⟨by rw [← h1]; exact h2,kk⟩
    refine gd_of (fun hl0=>?_) (fun hl0=>?_)
    · have hlit:decide (l = 0 ∨ 0 < l ∧ k = 3) = true:=decide_eq_true (.inl (of_decide_eq_true hl0))
      show ∃ q:AV,_
      cases e1:decide (0 < d) with
      | false =>
        (repeat (first | with_reducible_and_instances (first | refine WJ ?_ | refine W (J_ldp o2 (by with_unfolding_all rfl) (by with_unfolding_all rfl)) ?_ | refine W (J_ldp p2 (by with_unfolding_all rfl) (by with_unfolding_all rfl)) ?_ | refine W (gd_T e1) ?_ | refine W (gd_F e1) ?_ | refine W (gd_nT e1) ?_ | refine W (gd_nF e1) ?_ | refine W (J_ldq (by with_unfolding_all rfl)) ?_)))
        exact ⟨by rw [Bool.false_and],kk⟩
      | true =>
        cases e2:decide (n = (⟨#[]⟩:ByteArray)) with
        | false =>
          (repeat (first | with_reducible_and_instances (first | refine WJ ?_ | refine W (J_ldp o2 (by with_unfolding_all rfl) (by with_unfolding_all rfl)) ?_ | refine W (J_ldp p2 (by with_unfolding_all rfl) (by with_unfolding_all rfl)) ?_ | refine W (J_eqS) ?_ | refine W (gd_T e1) ?_ | refine W (gd_F e1) ?_ | refine W (gd_nT e1) ?_ | refine W (gd_nF e1) ?_ | refine W (gd_T e2) ?_ | refine W (gd_F e2) ?_ | refine W (gd_nT e2) ?_ | refine W (gd_nF e2) ?_ | refine W (J_ldq (by with_unfolding_all rfl)) ?_)))
          exact ⟨by rw [Bool.true_and,Bool.false_and,Bool.and_false],kk⟩
        | true =>
          cases e3:decide ((ks.length:Int) = kidsN k) with
          | false =>
            (repeat (first | with_reducible_and_instances (first | refine WJ ?_ | refine W (J_ldp o2 (by with_unfolding_all rfl) (by with_unfolding_all rfl)) ?_ | refine W (J_ldp p2 (by with_unfolding_all rfl) (by with_unfolding_all rfl)) ?_ | refine W (J_eqS) ?_ | refine W (J_lenfoL) ?_ | refine W (gd_T e1) ?_ | refine W (gd_F e1) ?_ | refine W (gd_nT e1) ?_ | refine W (gd_nF e1) ?_ | refine W (gd_T e2) ?_ | refine W (gd_F e2) ?_ | refine W (gd_nT e2) ?_ | refine W (gd_nF e2) ?_ | refine W (gd_T e3) ?_ | refine W (gd_F e3) ?_ | refine W (gd_nT e3) ?_ | refine W (gd_nF e3) ?_ | refine W (J_ldq (by with_unfolding_all rfl)) ?_) | refine J_cA (hk) rfl rfl ?_ | refine C_A (hk) rfl rfl ?_))
            exact ⟨by rw [Bool.true_and,Bool.true_and,Bool.false_and,Bool.and_false],kk⟩
          | true =>
            (repeat (first | with_reducible_and_instances (first | refine WJ ?_ | refine W (J_ldp o2 (by with_unfolding_all rfl) (by with_unfolding_all rfl)) ?_ | refine W (J_ldp p2 (by with_unfolding_all rfl) (by with_unfolding_all rfl)) ?_ | refine W (J_eqS) ?_ | refine W (J_lenfoL) ?_ | refine W (gd_T e1) ?_ | refine W (gd_F e1) ?_ | refine W (gd_nT e1) ?_ | refine W (gd_nF e1) ?_ | refine W (gd_T e2) ?_ | refine W (gd_F e2) ?_ | refine W (gd_nT e2) ?_ | refine W (gd_nF e2) ?_ | refine W (gd_T e3) ?_ | refine W (gd_F e3) ?_ | refine W (gd_nT e3) ?_ | refine W (gd_nF e3) ?_ | refine W (J_ldq (by with_unfolding_all rfl)) ?_) | refine J_cI (hcont (of_decide_eq_true e1)) rfl rfl ?_ | refine C_I (hcont (of_decide_eq_true e1)) rfl rfl ?_ | refine J_cA (hk) rfl rfl ?_ | refine C_A (hk) rfl rfl ?_))
            exact ⟨by rw [hlit,Bool.true_and,Bool.true_and,Bool.true_and,Bool.true_and,Bool.not_not],kk⟩
    · have hl0':=of_decide_eq_false hl0
      rw [shift_p,ld1_p p2 rfl rfl,bin_gtr,onB_v]
      refine gd_of (fun hl1=>?_) (fun hl1=>?_)
      · have hlit:decide (l = 0 ∨ 0 < l ∧ k = 3) = decide (k = 3):=decide_eq_decide.2 ⟨fun h=>by rcases h with h | h; exact absurd h hl0'; exact h.2,fun h=>.inr ⟨of_decide_eq_true hl1,h⟩⟩
        rw [shift_p,ld1_p p2 rfl rfl,bin_eql,hlit]
        show ∃ q:AV,_
        cases e1:decide (0 < d) with
        | false =>
          (repeat (first | with_reducible_and_instances (first | refine WJ ?_ | refine W (J_ldp o2 (by with_unfolding_all rfl) (by with_unfolding_all rfl)) ?_ | refine W (J_ldp p2 (by with_unfolding_all rfl) (by with_unfolding_all rfl)) ?_ | refine W (gd_T e1) ?_ | refine W (gd_F e1) ?_ | refine W (gd_nT e1) ?_ | refine W (gd_nF e1) ?_ | refine W (J_ldq (by with_unfolding_all rfl)) ?_)))
          exact ⟨by rw [Bool.false_and],kk⟩
        | true =>
          cases e4:decide (k = 3) with
          | false =>
            (repeat (first | with_reducible_and_instances (first | refine WJ ?_ | refine W (J_ldp o2 (by with_unfolding_all rfl) (by with_unfolding_all rfl)) ?_ | refine W (J_ldp p2 (by with_unfolding_all rfl) (by with_unfolding_all rfl)) ?_ | refine W (gd_T e1) ?_ | refine W (gd_F e1) ?_ | refine W (gd_nT e1) ?_ | refine W (gd_nF e1) ?_ | refine W (J_ldq (by with_unfolding_all rfl)) ?_)))
            exact ⟨by rw [Bool.false_and,Bool.and_false],kk⟩
          | true =>
            cases e2:decide (n = (⟨#[]⟩:ByteArray)) with
            | false =>
              (repeat (first | with_reducible_and_instances (first | refine WJ ?_ | refine W (J_ldp o2 (by with_unfolding_all rfl) (by with_unfolding_all rfl)) ?_ | refine W (J_ldp p2 (by with_unfolding_all rfl) (by with_unfolding_all rfl)) ?_ | refine W (J_eqS) ?_ | refine W (gd_T e1) ?_ | refine W (gd_F e1) ?_ | refine W (gd_nT e1) ?_ | refine W (gd_nF e1) ?_ | refine W (gd_T e2) ?_ | refine W (gd_F e2) ?_ | refine W (gd_nT e2) ?_ | refine W (gd_nF e2) ?_ | refine W (J_ldq (by with_unfolding_all rfl)) ?_)))
              exact ⟨by rw [Bool.true_and,Bool.true_and,Bool.false_and],kk⟩
            | true =>
              cases e3:decide ((ks.length:Int) = kidsN k) with
              | false =>
                (repeat (first | with_reducible_and_instances (first | refine WJ ?_ | refine W (J_ldp o2 (by with_unfolding_all rfl) (by with_unfolding_all rfl)) ?_ | refine W (J_ldp p2 (by with_unfolding_all rfl) (by with_unfolding_all rfl)) ?_ | refine W (J_eqS) ?_ | refine W (J_lenfoL) ?_ | refine W (gd_T e1) ?_ | refine W (gd_F e1) ?_ | refine W (gd_nT e1) ?_ | refine W (gd_nF e1) ?_ | refine W (gd_T e2) ?_ | refine W (gd_F e2) ?_ | refine W (gd_nT e2) ?_ | refine W (gd_nF e2) ?_ | refine W (gd_T e3) ?_ | refine W (gd_F e3) ?_ | refine W (gd_nT e3) ?_ | refine W (gd_nF e3) ?_ | refine W (J_ldq (by with_unfolding_all rfl)) ?_) | refine J_cA (hk) rfl rfl ?_ | refine C_A (hk) rfl rfl ?_))
                exact ⟨by rw [Bool.true_and,Bool.true_and,Bool.true_and,Bool.false_and],kk⟩
              | true =>
                (repeat (first | with_reducible_and_instances (first | refine WJ ?_ | refine W (J_ldp o2 (by with_unfolding_all rfl) (by with_unfolding_all rfl)) ?_ | refine W (J_ldp p2 (by with_unfolding_all rfl) (by with_unfolding_all rfl)) ?_ | refine W (J_eqS) ?_ | refine W (J_lenfoL) ?_ | refine W (gd_T e1) ?_ | refine W (gd_F e1) ?_ | refine W (gd_nT e1) ?_ | refine W (gd_nF e1) ?_ | refine W (gd_T e2) ?_ | refine W (gd_F e2) ?_ | refine W (gd_nT e2) ?_ | refine W (gd_nF e2) ?_ | refine W (gd_T e3) ?_ | refine W (gd_F e3) ?_ | refine W (gd_nT e3) ?_ | refine W (gd_nF e3) ?_ | refine W (J_ldq (by with_unfolding_all rfl)) ?_) | refine J_cI (hcont (of_decide_eq_true e1)) rfl rfl ?_ | refine C_I (hcont (of_decide_eq_true e1)) rfl rfl ?_ | refine J_cA (hk) rfl rfl ?_ | refine C_A (hk) rfl rfl ?_))
                exact ⟨by rw [Bool.true_and,Bool.true_and,Bool.true_and,Bool.true_and,Bool.not_not],kk⟩
      · have hlit:decide (l = 0 ∨ 0 < l ∧ k = 3) = false:=decide_eq_false fun h=>by rcases h with h | h; exact absurd h hl0'; exact absurd h.1 (of_decide_eq_false hl1)
        show ∃ q:AV,_
        rw [hlit]
        cases e1:decide (0 < d) with
        | false =>
          (repeat (first | with_reducible_and_instances (first | refine WJ ?_ | refine W (J_ldp o2 (by with_unfolding_all rfl) (by with_unfolding_all rfl)) ?_ | refine W (J_ldp p2 (by with_unfolding_all rfl) (by with_unfolding_all rfl)) ?_ | refine W (gd_T e1) ?_ | refine W (gd_F e1) ?_ | refine W (gd_nT e1) ?_ | refine W (gd_nF e1) ?_ | refine W (J_ldq (by with_unfolding_all rfl)) ?_)))
          exact ⟨by rw [Bool.false_and],kk⟩
        | true =>
          (repeat (first | with_reducible_and_instances (first | refine WJ ?_ | refine W (J_ldp o2 (by with_unfolding_all rfl) (by with_unfolding_all rfl)) ?_ | refine W (J_ldp p2 (by with_unfolding_all rfl) (by with_unfolding_all rfl)) ?_ | refine W (gd_T e1) ?_ | refine W (gd_F e1) ?_ | refine W (gd_nT e1) ?_ | refine W (gd_nF e1) ?_ | refine W (J_ldq (by with_unfolding_all rfl)) ?_)))
          exact ⟨by rw [Bool.false_and,Bool.and_false],kk⟩
theorem mayB_eq (k:Int) (n:ByteArray) (l:Int) (ks:List Fo) (d:Int):Fo.mayB (.mk k n l ks) d = (decide (0 < d ∧ kidsN k = ks.length ∧ n = (⟨#[]⟩:ByteArray) ∧ (l = 0 ∨ 0 < l ∧ k = 3)) && ks.all fun f=>f.mayB (d - 1)):=by
  rw [Fo.mayB_mk,← Bool.and_assoc,← Bool.and_assoc,← Bool.and_assoc]
  congr 1
  rw [← Bool.decide_and,← Bool.decide_and,← Bool.decide_and]
  exact decide_eq_decide.2 ⟨fun ⟨⟨⟨h1,h2⟩,h3⟩,h4⟩=>⟨h1,h4.symm,h3,h2⟩,fun ⟨h1,h4,h3,h2⟩=>⟨⟨⟨h1,h2⟩,h3⟩,h4.symm⟩⟩
theorem all_lt {α:Type} {l:List α} {g:α → Bool} (h:∀ j (h:j < l.length),g l[j] = true):l.all g = true:=List.all_eq_true.2 fun x hx=>by
  obtain ⟨j,hj,rfl⟩:=List.getElem_of_mem hx
  exact h j hj
theorem all_no {α:Type} {l:List α} {g:α → Bool} {i:Nat} (hi:i < l.length) (h:g l[i] = false):l.all g = false:=List.all_eq_false.2 ⟨_,List.getElem_mem hi,by simp [h]⟩
theorem lt_step {α:Type} {l:List α} {p:α → Prop} {i:Nat} {hi:i < l.length} (hok:∀ j (h:j < l.length),j < i → p l[j]) (h:p l[i]):∀ j (h:j < l.length),j < i + 1 → p l[j]:=fun j hj hj'=>by
  rcases Nat.lt_or_ge j i with h' | h'
  · exact hok j hj h'
  · have:j = i:=by omega
    subst this
    exact h
theorem ans46:∀ (f:Fo),f.ok → ∀ d,i64R d → Ans Tryz.prog 46 [f.av,aI d] (aB (f.mayB d)):=by
  intro f
  induction f using Fo.ind with
  | h k n l ks ih =>
    intro hok d hd S
    obtain ⟨h1,h2,h3,h4,h5⟩:=hok.inv
    refine ACalls.ans_v (calls46 ?_)
    unfold m46 Fo.av
    rw [Fo.row_mk,mayB_eq]
    refine boxA_of rfl fun S1 k1 n1 o1=>?_
    have hk:=ans64 k
    have bad:∀ {E:AEnd},¬ (0 < d ∧ kidsN k = ks.length ∧ n = (⟨#[]⟩:ByteArray) ∧ (l = 0 ∨ 0 < l ∧ k = 3)) → E = .ret (aB false) → E = .ret (aB (decide (0 < d ∧ kidsN k = ks.length ∧ n = (⟨#[]⟩:ByteArray) ∧ (l = 0 ∨ 0 < l ∧ k = 3)) && ks.all fun f=>f.mayB (d - 1))) ∧ Keep S S1:=fun h1 h2=>⟨by rw [decide_eq_false h1,Bool.false_and]; exact h2,k1⟩
    have main:0 < d ∧ kidsN k = ks.length ∧ n = (⟨#[]⟩:ByteArray) ∧ (l = 0 ∨ 0 < l ∧ k = 3) → loopV lv46_0 (vc Tryz.prog (c46.at_ [1,1,0,1,0,0]) (ms46.drop 1)) 53 (env46_0 (aI d) (.p S.n 0 0) (.v (.int .i64 0))) S1 (blockK 0 (seqK (vc Tryz.prog (c46.at_ [1,1,1]) (ms46.drop 1)) (bodyK Tryz.prog r46 fun r S'=>r = .ret (aB (decide (0 < d ∧ kidsN k = ks.length ∧ n = (⟨#[]⟩:ByteArray) ∧ (l = 0 ∨ 0 < l ∧ k = 3)) && ks.all fun f=>f.mayB (d - 1))) ∧ Keep S S'))):=fun good=>by
      rw [decide_eq_true good,Bool.true_and]
      refine loop46_0 (fun y S'=>S' = S1 ∧ ∃ i:Nat,y = aI i ∧ i ≤ ks.length ∧ ∀ j (h:j < ks.length),j < i → ks[j].mayB (d - 1) = true)
        (fun y _=>ks.length - ((intA y).getD 0).toNat) ⟨rfl,0,rfl,Nat.zero_le _,fun j _ hj=>(Nat.not_lt_zero _ hj).elim⟩ ?_
      rintro _ S1 ⟨rfl,i,rfl,hi,hall⟩ KE hKE
      unfold b46_0
      rw [shift_p,ld1_p o1 rfl rfl,lenS_foL,bin_lss,onB_v]
      refine gd_of (fun hlt=>?_) (fun hge=>?_)
      · have hlt:i < ks.length:=by simpa using hlt
        have hm:=List.getElem_mem hlt
        rw [shift_p,ld1_p o1 rfl rfl,ixS_foL hlt,ldN_q (Fo.row_len _),bin_sub (by have:=hd.2; omega) (by have:=hd.2; omega)]
        refine callF_ans (ih _ hm (h5 _ hm) (d - 1) ⟨by have:=hd.2; omega,by have:=hd.2; omega⟩) ?_
        rw [un_not,onB_v]
        refine gd_of (fun h=>⟨by rw [all_no hlt (by simpa using h)],k1⟩) (fun h=>?_)
        rw [bin_add (by omega) (by omega)]
        exact hKE _ _ ⟨rfl,i + 1,rfl,hlt,lt_step (p:=fun f=>f.mayB (d - 1) = true) (hi:=hlt) hall (by simpa using h)⟩ (by simp [intA]; omega)
      · have hge:i = ks.length:=by simp at hge; omega
        subst hge
        exact ⟨by rw [all_lt fun j hj=>hall j hj hj],k1⟩
    show ∃ q:AV,_
    cases e1:decide (d < 1) with
    | true =>
      (repeat (first | with_reducible_and_instances (first | refine WJ ?_ | refine W (gd_T e1) ?_ | refine W (gd_F e1) ?_ | refine W (gd_nT e1) ?_ | refine W (gd_nF e1) ?_ | refine W (J_ldq (by with_unfolding_all rfl)) ?_)))
      exact bad (fun h=>by have:=of_decide_eq_true e1; omega) rfl
    | false =>
      cases e2:decide (kidsN k = ks.length) with
      | false =>
        (repeat (first | with_reducible_and_instances (first | refine WJ ?_ | refine W (J_ldp o1 (by with_unfolding_all rfl) (by with_unfolding_all rfl)) ?_ | refine W (J_lenfoL) ?_ | refine W (gd_T e1) ?_ | refine W (gd_F e1) ?_ | refine W (gd_nT e1) ?_ | refine W (gd_nF e1) ?_ | refine W (gd_T e2) ?_ | refine W (gd_F e2) ?_ | refine W (gd_nT e2) ?_ | refine W (gd_nF e2) ?_ | refine W (J_ldq (by with_unfolding_all rfl)) ?_) | refine J_cA (hk) rfl rfl ?_ | refine C_A (hk) rfl rfl ?_))
        exact bad (fun h=>of_decide_eq_false e2 h.2.1) rfl
      | true =>
        cases e3:decide (n = (⟨#[]⟩:ByteArray)) with
        | false =>
          (repeat (first | with_reducible_and_instances (first | refine WJ ?_ | refine W (J_ldp o1 (by with_unfolding_all rfl) (by with_unfolding_all rfl)) ?_ | refine W (J_lenfoL) ?_ | refine W (J_neS) ?_ | refine W (gd_T e1) ?_ | refine W (gd_F e1) ?_ | refine W (gd_nT e1) ?_ | refine W (gd_nF e1) ?_ | refine W (gd_T e2) ?_ | refine W (gd_F e2) ?_ | refine W (gd_nT e2) ?_ | refine W (gd_nF e2) ?_ | refine W (gd_T e3) ?_ | refine W (gd_F e3) ?_ | refine W (gd_nT e3) ?_ | refine W (gd_nF e3) ?_ | refine W (J_ldq (by with_unfolding_all rfl)) ?_) | refine J_cA (hk) rfl rfl ?_ | refine C_A (hk) rfl rfl ?_))
          exact bad (fun h=>of_decide_eq_false e3 h.2.2.1) rfl
        | true =>
          cases e4:decide (l < 0) with
          | true =>
            (repeat (first | with_reducible_and_instances (first | refine WJ ?_ | refine W (J_ldp o1 (by with_unfolding_all rfl) (by with_unfolding_all rfl)) ?_ | refine W (J_lenfoL) ?_ | refine W (J_neS) ?_ | refine W (gd_T e1) ?_ | refine W (gd_F e1) ?_ | refine W (gd_nT e1) ?_ | refine W (gd_nF e1) ?_ | refine W (gd_T e2) ?_ | refine W (gd_F e2) ?_ | refine W (gd_nT e2) ?_ | refine W (gd_nF e2) ?_ | refine W (gd_T e3) ?_ | refine W (gd_F e3) ?_ | refine W (gd_nT e3) ?_ | refine W (gd_nF e3) ?_ | refine W (gd_T e4) ?_ | refine W (gd_F e4) ?_ | refine W (gd_nT e4) ?_ | refine W (gd_nF e4) ?_ | refine W (J_ldq (by with_unfolding_all rfl)) ?_) | refine J_cA (hk) rfl rfl ?_ | refine C_A (hk) rfl rfl ?_))
            exact bad (fun h=>by have:=of_decide_eq_true e4; have:=h.2.2.2; omega) rfl
          | false =>
            have e1':=of_decide_eq_false e1
            have e2':=of_decide_eq_true e2
            have e3':=of_decide_eq_true e3
            have e4':=of_decide_eq_false e4
            cases e5:decide (k = 3) with
            | true =>
              (repeat (first | with_reducible_and_instances (first | refine WJ ?_ | refine W (J_ldp o1 (by with_unfolding_all rfl) (by with_unfolding_all rfl)) ?_ | refine W (J_lenfoL) ?_ | refine W (J_neS) ?_ | refine W (gd_T e1) ?_ | refine W (gd_F e1) ?_ | refine W (gd_nT e1) ?_ | refine W (gd_nF e1) ?_ | refine W (gd_T e2) ?_ | refine W (gd_F e2) ?_ | refine W (gd_nT e2) ?_ | refine W (gd_nF e2) ?_ | refine W (gd_T e3) ?_ | refine W (gd_F e3) ?_ | refine W (gd_nT e3) ?_ | refine W (gd_nF e3) ?_ | refine W (gd_T e4) ?_ | refine W (gd_F e4) ?_ | refine W (gd_nT e4) ?_ | refine W (gd_nF e4) ?_ | refine W (gd_T e5) ?_ | refine W (gd_F e5) ?_ | refine W (gd_nT e5) ?_ | refine W (gd_nF e5) ?_ | refine W (J_ldq (by with_unfolding_all rfl)) ?_) | refine J_cA (hk) rfl rfl ?_ | refine C_A (hk) rfl rfl ?_))
              have e5':=of_decide_eq_true e5
              exact main ⟨by omega,e2',e3',by omega⟩
            | false =>
              have e5':=of_decide_eq_false e5
              cases e6:decide (l = 0) with
              | true =>
                (repeat (first | with_reducible_and_instances (first | refine WJ ?_ | refine W (J_ldp o1 (by with_unfolding_all rfl) (by with_unfolding_all rfl)) ?_ | refine W (J_lenfoL) ?_ | refine W (J_neS) ?_ | refine W (gd_T e1) ?_ | refine W (gd_F e1) ?_ | refine W (gd_nT e1) ?_ | refine W (gd_nF e1) ?_ | refine W (gd_T e2) ?_ | refine W (gd_F e2) ?_ | refine W (gd_nT e2) ?_ | refine W (gd_nF e2) ?_ | refine W (gd_T e3) ?_ | refine W (gd_F e3) ?_ | refine W (gd_nT e3) ?_ | refine W (gd_nF e3) ?_ | refine W (gd_T e4) ?_ | refine W (gd_F e4) ?_ | refine W (gd_nT e4) ?_ | refine W (gd_nF e4) ?_ | refine W (gd_T e5) ?_ | refine W (gd_F e5) ?_ | refine W (gd_nT e5) ?_ | refine W (gd_nF e5) ?_ | refine W (gd_T e6) ?_ | refine W (gd_F e6) ?_ | refine W (gd_nT e6) ?_ | refine W (gd_nF e6) ?_ | refine W (J_ldq (by with_unfolding_all rfl)) ?_) | refine J_cA (hk) rfl rfl ?_ | refine C_A (hk) rfl rfl ?_))
                exact main ⟨by omega,e2',e3',.inl (of_decide_eq_true e6)⟩
              | false =>
                (repeat (first | with_reducible_and_instances (first | refine WJ ?_ | refine W (J_ldp o1 (by with_unfolding_all rfl) (by with_unfolding_all rfl)) ?_ | refine W (J_lenfoL) ?_ | refine W (J_neS) ?_ | refine W (gd_T e1) ?_ | refine W (gd_F e1) ?_ | refine W (gd_nT e1) ?_ | refine W (gd_nF e1) ?_ | refine W (gd_T e2) ?_ | refine W (gd_F e2) ?_ | refine W (gd_nT e2) ?_ | refine W (gd_nF e2) ?_ | refine W (gd_T e3) ?_ | refine W (gd_F e3) ?_ | refine W (gd_nT e3) ?_ | refine W (gd_nF e3) ?_ | refine W (gd_T e4) ?_ | refine W (gd_F e4) ?_ | refine W (gd_nT e4) ?_ | refine W (gd_nF e4) ?_ | refine W (gd_T e5) ?_ | refine W (gd_F e5) ?_ | refine W (gd_nT e5) ?_ | refine W (gd_nF e5) ?_ | refine W (gd_T e6) ?_ | refine W (gd_F e6) ?_ | refine W (gd_nT e6) ?_ | refine W (gd_nF e6) ?_ | refine W (J_ldq (by with_unfolding_all rfl)) ?_) | refine J_cA (hk) rfl rfl ?_ | refine C_A (hk) rfl rfl ?_))
                exact bad (fun h=>by have:=of_decide_eq_false e6; have:=h.2.2.2; omega) rfl
def IsLit (g:Gr) (S:Store) (fn:FuncId) (cs:List AV):Prop:=∀ T,Keep S T → ∀ l,i64R l → AnsAt Tryz.prog fn ([] ++ [aI l] ++ cs) T (aB (g.lit l))
theorem at86 {g:Gr}:∀ (f:Fo),f.ok → ∀ {S:Store} {fn:FuncId} {cs:List AV},IsLit g S fn cs → AnsAt Tryz.prog 86 [f.av,.f (.func fn) [] cs] S (aB (f.litsB g)):=by
  intro f
  induction f using Fo.ind with
  | h k n l ks ih =>
    intro hok S fn cs hfn
    obtain ⟨h1,h2,h3,h4,h5⟩:=hok.inv
    refine ACalls.ans_v (calls86 ?_)
    unfold m86 Fo.av
    rw [Fo.row_mk,Fo.litsB_mk]
    refine boxA_of rfl fun S1 k1 n1 o1=>?_
    refine box1_of rfl fun S2 k2 n2 o2=>?_
    have p2:=(k2.2 _ (by omega)).trans o1
    have kk:=k1.trans k2
    have hkid:∀ x ∈ ks,AnsAt Tryz.prog 134 ([] ++ [x.av] ++ [.p S1.n 0 0]) S2 (aB (!x.litsB g)):=fun x hx=>by
      refine ACalls.ans_v (calls134 ?_)
      unfold m134 Fo.av
      refine boxA_of (Fo.row_len x) fun S3 k3 n3 o3=>?_
      rw [ldN_p (n:=4) o3 (Fo.row_len x),ld1_p ((k3.2 _ (by omega)).trans o2) rfl rfl]
      refine callF_at (ih x hx (h5 x hx) (S:=S3) (fn:=fn) (cs:=cs) fun T hT=>hfn T ((kk.trans k3).trans hT)) ?_
      rw [un_not]
      exact ⟨rfl,k3⟩
    have hcont:=at72 (l:=ks) (by omega) hkid
    rw [any_notF] at hcont
    rw [shift_p,ld1_p p2 rfl rfl,bin_neq,onB_v]
    refine gd_of (fun h=>?_) (fun h=>?_)
    · rw [shift_p,ld1_p p2 rfl rfl]
      refine callF_at hcont ?_
      rw [un_not,Bool.not_not]
      have:(decide (k ≠ 3) || g.lit l) = true:=by simp at h; simp [h]
      exact ⟨by rw [this,Bool.true_and],kk⟩
    · have hk3:decide (k ≠ 3) = false:=by simp at h; simp [h]
      rw [hk3,Bool.false_or,ld1_p o2 rfl rfl,shift_p,ld1_p p2 rfl rfl]
      refine callV_at (hfn S2 kk l h2) ?_
      rw [onB_v]
      refine gd_of (fun hg=>?_) (fun hg=>⟨by rw [hg,Bool.false_and],kk⟩)
      rw [shift_p,ld1_p p2 rfl rfl]
      refine callF_at hcont ?_
      rw [un_not,Bool.not_not]
      exact ⟨by rw [hg,Bool.true_and],kk⟩
theorem ans52 {c:Ci} (hc:c.ok) {f:Fo} (hf:f.ok):Ans Tryz.prog 52 [c.av,f.av] (aB (mayC c f)):=by
  intro S
  refine ACalls.ans_v (calls52 ?_)
  unfold m52 mayC
  refine boxA_of rfl fun S1 k1 n1 o1=>?_
  refine boxA_of (Fo.row_len f) fun S2 k2 n2 o2=>?_
  have p2:=(k2.2 _ (by omega)).trans o1
  rw [ldN_p (n:=8) p2 rfl]
  refine callF_ans (ans84 c) ?_
  refine boxA_of rfl fun S3 k3 n3 o3=>?_
  refine stA_of (cs':=c.gr.cells) o3 rfl rfl fun S4 n4 o4 f4=>?_
  have k4:=k3.st (Nat.le_refl _) n4 f4
  have kk:=(k1.trans k2).trans k4
  rw [ldN_p (n:=8) ((k4.2 _ (by omega)).trans p2) rfl]
  refine callF_ans (ans85 hc) ?_
  rw [onB_v]
  refine gd_of (fun h=>?_) (fun h=>⟨by rw [h,Bool.false_and],kk⟩)
  rw [h,Bool.true_and,ldN_p (n:=4) ((k4.2 _ (by omega)).trans o2) (Fo.row_len f)]
  refine callF_ans (ans43 f hf 60 ⟨by decide,by decide⟩) ?_
  rw [onB_v]
  refine gd_of (fun h=>?_) (fun h=>⟨by rw [h,Bool.false_and],kk⟩)
  rw [h,Bool.true_and,ldN_p (n:=4) ((k4.2 _ (by omega)).trans o2) (Fo.row_len f)]
  refine callF_at (at86 (g:=c.gr) f hf fun T hT l hl=>?_) ⟨rfl,kk⟩
  refine calls87 ?_
  unfold m87
  rw [ldN_p (n:=2) ((hT.2 _ (by omega)).trans o4) rfl]
  exact callF_ans (ans88 hc.gr hl) ⟨rfl,rfl⟩
theorem ans101 {g:Gr} (hg:g.ok):∀ (f:Fo),f.ok → Ans Tryz.prog 101 [g.av,f.av] (aB (f.litsB g)):=by
  intro f
  induction f using Fo.ind with
  | h k n l ks ih =>
    intro hok S
    obtain ⟨h1,h2,h3,h4,h5⟩:=hok.inv
    refine ACalls.ans_v (calls101 ?_)
    unfold m101 Fo.av
    rw [Fo.row_mk,Fo.litsB_mk]
    refine boxA_of rfl fun S1 k1 n1 o1=>?_
    refine boxA_of rfl fun S2 k2 n2 o2=>?_
    have p2:=(k2.2 _ (by omega)).trans o1
    have kk:=k1.trans k2
    have main:(decide (k ≠ 3) || g.lit l) = true → loopV lv101_0 (vc Tryz.prog (c101.at_ [1,1,0,1,0,0]) (ms101.drop 1)) 31 (env101_0 (.p S.n 0 0) (.p S1.n 0 0) (.v (.int .i64 0))) S2 (blockK 0 (seqK (vc Tryz.prog (c101.at_ [1,1,1]) (ms101.drop 1)) (bodyK Tryz.prog r101 fun r S'=>r = .ret (aB ((decide (k ≠ 3) || g.lit l) && ks.all fun f=>f.litsB g)) ∧ Keep S S'))):=fun good=>by
      rw [good,Bool.true_and]
      refine loop101_0 (fun y S'=>S' = S2 ∧ ∃ i:Nat,y = aI i ∧ i ≤ ks.length ∧ ∀ j (h:j < ks.length),j < i → ks[j].litsB g = true)
        (fun y _=>ks.length - ((intA y).getD 0).toNat) ⟨rfl,0,rfl,Nat.zero_le _,fun j _ hj=>(Nat.not_lt_zero _ hj).elim⟩ ?_
      rintro _ S2 ⟨rfl,i,rfl,hi,hall⟩ KE hKE
      unfold b101_0
      rw [shift_p,ld1_p o2 rfl rfl,lenS_foL,bin_lss,onB_v]
      refine gd_of (fun hlt=>?_) (fun hge=>?_)
      · have hlt:i < ks.length:=by simpa using hlt
        have hm:=List.getElem_mem hlt
        show ∃ q:AV,_
        refine ⟨_,by rw [ldN_p (n:=2) p2 rfl]; exact ⟨rfl,rfl⟩,?_⟩
        refine ⟨_,by rw [shift_p]; exact ⟨rfl,rfl⟩,?_⟩
        refine ⟨_,by rw [ld1_p o2 rfl rfl]; exact ⟨rfl,rfl⟩,?_⟩
        refine ⟨_,by rw [ixS_foL hlt]; exact ⟨rfl,rfl⟩,?_⟩
        refine ⟨_,by rw [ldN_q (Fo.row_len _)]; exact ⟨rfl,rfl⟩,?_⟩
        refine ⟨_,callF_ans (ih _ hm (h5 _ hm)) ⟨rfl,rfl⟩,?_⟩
        refine ⟨_,by rw [un_not]; exact ⟨rfl,rfl⟩,?_⟩
        rw [onB_v]
        refine gd_of (fun h=>⟨by rw [all_no hlt (by simpa using h)],kk⟩) (fun h=>?_)
        rw [bin_add (by omega) (by omega)]
        exact hKE _ _ ⟨rfl,i + 1,rfl,hlt,lt_step (p:=fun f=>f.litsB g = true) (hi:=hlt) hall (by simpa using h)⟩ (by simp [intA]; omega)
      · have hge:i = ks.length:=by simp at hge; omega
        subst hge
        exact ⟨by rw [all_lt fun j hj=>hall j hj hj],kk⟩
    rw [shift_p,ld1_p o2 rfl rfl,bin_eql,onB_v]
    refine gd_of (fun h=>?_) (fun h=>main (by simp at h; simp [h]))
    have hk3:decide (k ≠ 3) = false:=by simp at h; simp [h]
    rw [ldN_p (n:=2) p2 rfl,shift_p,ld1_p o2 rfl rfl]
    refine callF_ans (ans112 hg h2) ?_
    rw [un_not,onB_v]
    refine gd_of (fun hl=>⟨by rw [hk3,Bool.false_or,show g.lit l = false by simpa using hl,Bool.false_and],kk⟩) (fun hl=>main (by rw [hk3,Bool.false_or]; simpa using hl))
theorem ans55 {c:Ci} (hc:c.ok) {f:Fo} (hf:f.ok):Ans Tryz.prog 55 [c.av,f.av] (aB (mayC c f)):=by
  intro S
  refine ACalls.ans_v (calls55 ?_)
  unfold m55 mayC
  refine boxA_of rfl fun S1 k1 n1 o1=>?_
  refine boxA_of (Fo.row_len f) fun S2 k2 n2 o2=>?_
  have p2:=(k2.2 _ (by omega)).trans o1
  have kk:=k1.trans k2
  have c1:=ans65 hc
  have c2:=ans46 f hf 60 ⟨by decide,by decide⟩
  have c3:=ans41 c
  have c4:=ans101 hc.gr f hf
  show ∃ q:AV,_
  cases e1:c.right with
  | false =>
    (repeat (first | with_reducible_and_instances (first | refine WJ ?_ | refine W (J_ldN (n:=8) p2 (by with_unfolding_all rfl)) ?_ | refine W (J_ldN (n:=4) o2 (Fo.row_len f)) ?_ | refine W (gd_T e1) ?_ | refine W (gd_F e1) ?_ | refine W (gd_nT e1) ?_ | refine W (gd_nF e1) ?_ | refine W (J_ldq (by with_unfolding_all rfl)) ?_) | refine J_cA (c1) rfl rfl ?_ | refine C_A (c1) rfl rfl ?_))
    exact ⟨by rw [Bool.false_and],kk⟩
  | true =>
    cases e2:f.mayB 60 with
    | false =>
      (repeat (first | with_reducible_and_instances (first | refine WJ ?_ | refine W (J_ldN (n:=8) p2 (by with_unfolding_all rfl)) ?_ | refine W (J_ldN (n:=4) o2 (Fo.row_len f)) ?_ | refine W (gd_T e1) ?_ | refine W (gd_F e1) ?_ | refine W (gd_nT e1) ?_ | refine W (gd_nF e1) ?_ | refine W (gd_T e2) ?_ | refine W (gd_F e2) ?_ | refine W (gd_nT e2) ?_ | refine W (gd_nF e2) ?_ | refine W (J_ldq (by with_unfolding_all rfl)) ?_) | refine J_cA (c1) rfl rfl ?_ | refine C_A (c1) rfl rfl ?_ | refine J_cA (c2) rfl rfl ?_ | refine C_A (c2) rfl rfl ?_))
      exact ⟨by rw [Bool.false_and,Bool.and_false],kk⟩
    | true =>
      (repeat (first | with_reducible_and_instances (first | refine WJ ?_ | refine W (J_ldN (n:=8) p2 (by with_unfolding_all rfl)) ?_ | refine W (J_ldN (n:=4) o2 (Fo.row_len f)) ?_ | refine W (gd_T e1) ?_ | refine W (gd_F e1) ?_ | refine W (gd_nT e1) ?_ | refine W (gd_nF e1) ?_ | refine W (gd_T e2) ?_ | refine W (gd_F e2) ?_ | refine W (gd_nT e2) ?_ | refine W (gd_nF e2) ?_ | refine W (J_ldq (by with_unfolding_all rfl)) ?_) | refine J_cA (c1) rfl rfl ?_ | refine C_A (c1) rfl rfl ?_ | refine J_cA (c2) rfl rfl ?_ | refine C_A (c2) rfl rfl ?_ | refine J_cA (c3) rfl rfl ?_ | refine C_A (c3) rfl rfl ?_ | refine J_cA (c4) rfl rfl ?_ | refine C_A (c4) rfl rfl ?_))
      exact ⟨by rw [Bool.true_and,Bool.true_and],kk⟩
noncomputable def valB (c:Ci) (s:Int):List Bool:=if (c.right && decide (c.gr.inputs ≤ 60)) = true then allB c.gr (bitsL s c.gr.inputs.toNat) else []
def isV (v:List Bool) (l:Int):Bool:=decide (0 ≤ l) && (decide (l.tdiv 2 < v.length) && litB v l)
theorem allB_vars {c:Ci} (h:c.right = true) (s:Int):((allB c.gr (bitsL s c.gr.inputs.toNat)).length:Int) = c.gr.vars:=by
  obtain ⟨g1,g2,g3⟩:=gr_inp h
  have hr:=(right_c.1 h).2.2.2.2.2.2.1
  rw [allB_len,if_pos]
  · have:0 ≤ c.gr.vars:=by unfold Gr.vars; omega
    omega
  · rw [hr,bitsL_len]
    simp; omega
theorem isV_isB {c:Ci} (s l:Int):isV (valB c s) l = isB c s l:=by
  unfold valB isB
  cases h:c.right with
  | false =>
    rw [Bool.false_and,if_neg (by decide),Bool.false_and]
    simp only [isV,Bool.and_eq_false_iff,decide_eq_false_iff_not]
    by_cases h0:0 ≤ l
    · refine .inr (.inl ?_)
      have:=Int.tdiv_nonneg h0 (show (0:Int) ≤ 2 by decide)
      simp; omega
    · exact .inl h0
  | true =>
    cases h6:decide (c.gr.inputs ≤ 60) with
    | false =>
      rw [Bool.and_false,if_neg (by decide),Bool.false_and,Bool.and_false]
      simp only [isV,Bool.and_eq_false_iff,decide_eq_false_iff_not]
      by_cases h0:0 ≤ l
      · refine .inr (.inl ?_)
        have:=Int.tdiv_nonneg h0 (show (0:Int) ≤ 2 by decide)
        simp; omega
      · exact .inl h0
    | true =>
      rw [Bool.true_and,if_pos rfl,Bool.true_and,Bool.true_and]
      obtain ⟨g1,g2,g3⟩:=gr_inp h
      have hv:=allB_vars h s
      have hpos:0 < (allB c.gr (bitsL s c.gr.inputs.toNat)).length:=by
        have:1 ≤ c.gr.vars:=by unfold Gr.vars; omega
        omega
      simp only [isV,Gr.eval,hpos,decide_true,Bool.true_and,hv,Gr.lit,g2,g3,Bool.and_assoc]
theorem ans187 {c:Ci} (hc:c.ok) (s:Int):Ans Tryz.prog 187 [c.av,aI s] (aL aB (valB c s)):=by
  intro S
  refine ACalls.tree (calls187 ?_)
  unfold m187 valB
  refine boxA_of rfl fun S1 k1 n1 o1=>?_
  rw [ldN_p (n:=8) o1 rfl]
  refine callF_ans (ans84 c) ?_
  refine boxA_of rfl fun S2 k2 n2 o2=>?_
  refine stA_of (cs':=c.gr.cells) o2 rfl rfl fun S3 n3 o3 f3=>?_
  have k3:=k2.st (Nat.le_refl _) n3 f3
  have kk:=k1.trans k3
  rw [ldN_p (n:=8) ((k3.2 _ (by omega)).trans o1) rfl]
  refine callF_ans (ans85 hc) ?_
  rw [un_not,onB_v]
  refine gd_of (fun h=>?_) (fun h=>?_)
  · have h:c.right = false:=by simpa using h
    refine ⟨_,rfl,kk,?_⟩
    rw [h,Bool.false_and,if_neg (by decide)]
    exact .nl
  have h:c.right = true:=by simpa using h
  obtain ⟨g1,g2,g3⟩:=gr_inp h
  rw [shift_p,ld1_p o3 rfl rfl,bin_gtr,onB_v]
  refine gd_of (fun h6=>?_) (fun h6=>?_)
  · have h6:=of_decide_eq_true h6
    refine ⟨_,rfl,kk,?_⟩
    rw [h,decide_eq_false (by omega:¬ c.gr.inputs ≤ 60),if_neg (by decide)]
    exact .nl
  have h6:=of_decide_eq_false h6
  rw [h,decide_eq_true (by omega:c.gr.inputs ≤ 60),Bool.and_self,if_pos rfl]
  obtain ⟨m,hm⟩:=Int.eq_ofNat_of_zero_le g2
  have hm60:m ≤ 60:=by omega
  have hgt:c.gr.inputs.toNat = m:=by rw [hm]; rfl
  rw [hgt,shift_p,ld1_p o3 rfl rfl]
  show mkN _ _ _ (aI c.gr.inputs) (aI c.gr.inputs) _ _
  rw [hm]
  refine mk_of (by omega) (by omega) fun S6 k6 n6 o6=>?_
  rw [lenS_s]
  have hrep:List.replicate m [AV.v (.bool false)] = (List.range m).map fun k=>[aB (if k < 0 then bitN s k else false)]:=by
    apply List.ext_getElem
    · simp
    · intro k h1 h2
      simp
  rw [hrep] at o6
  refine loop187_0 (fun y S'=>S'.n = S6.n ∧ (∀ x,x < S3.n → S'.obj x = S3.obj x) ∧ ∃ j:Nat,y = aI j ∧ j ≤ m ∧ S'.obj S3.n = some (.cells 4 ((List.range m).map fun k=>[aB (if k < j then bitN s k else false)]) true))
    (fun y _=>m - ((intA y).getD 0).toNat) ⟨rfl,k6.2,0,rfl,Nat.zero_le _,o6⟩ ?_
  rintro _ S7 ⟨n7,f7,j,rfl,hj,o7⟩ KE1 hKE1
  unfold b187_0
  rw [bin_lss,onB_v]
  refine gd_of (fun hlt1=>?_) (fun hge1=>?_)
  · have hlt1:j < m:=by have:((j:Int) < (m:Int)):=of_decide_eq_true hlt1; omega
    rw [bin_shrN (by omega),bin_and1,bin_eql,ixS_s hlt1 o7]
    refine st_of o7 (u0:=aB (if j < j then bitN s j else false)) (by rw [Nat.zero_add]; simp [hlt1]) rfl fun S8 n8 o8 f8=>?_
    rw [bin_add (by omega) (by omega)]
    refine hKE1 _ _ ⟨by omega,fun x hx=>(f8 x (by omega)).trans (f7 x hx),j + 1,rfl,hlt1,?_⟩ (by simp [intA]; omega)
    rw [o8,Nat.zero_add]
    have:=set_range (n:=m) (i:=j) (f:=fun k=>[aB (if k < j then bitN s k else false)]) (f':=fun k=>[aB (if k < j + 1 then bitN s k else false)]) hlt1 (fun k hk=>by
      have:(k < j + 1) = (k < j):=by apply propext; omega
      simp only [this])
    rw [← this]
    simp [bitN]
  · have hgj:j = m:=by
      have:¬ ((j:Int) < (m:Int)):=of_decide_eq_false hge1
      omega
    subst hgj
    have o7':S7.obj S3.n = some (.cells 4 ((bitsL s j).map fun b=>[aB b]) true):=by
      rw [o7,bitsL,List.map_map]
      congr 2
      apply List.map_congr_left
      intro k hk
      simp [List.mem_range.1 hk]
    rw [ldN_p (n:=2) ((f7 _ (by omega)).trans o3) rfl]
    have call:=own_at154 hc.gr (ins:=bitsL s j) (S:=S7) (xi:=.s S3.n 0 j) (by simp; omega) (fun T K=>by rw [lenS_s,bitsL_len]) (fun T hT=>by
      have:=(hT.2 S3.n (by omega)).trans o7'
      simp only [srcE,this]
      rw [if_pos (by simp)]
      simp [List.take_of_length_le])
    refine callF_at (ans_own_at (f:=fun b=>.bool b) call) ?_
    have k3':Keep S S7:=⟨by have:=kk.1; omega,fun x hx=>(f7 x (by have:=kk.1; omega)).trans (kk.2 x hx)⟩
    exact ⟨_,rfl,k3',cv_aL (f:=fun b=>.bool b) _⟩
theorem ans186 (v:List Bool) {l:Int} (hl:i64R l):Ans Tryz.prog 186 [aL aB v,aI l] (aB (isV v l)):=by
  intro S
  refine calls186 ?_
  unfold m186 isV
  rw [bin_geq,onB_v]
  refine gd_of (fun h=>?_) (fun h=>⟨by rw [h,Bool.false_and],rfl⟩)
  have h0:=of_decide_eq_true h
  rw [h,Bool.true_and,bin_half hl,lenS_aL,bin_lss,onB_v]
  refine gd_of (fun h1=>?_) (fun h1=>⟨by rw [h1,Bool.false_and],rfl⟩)
  have hlt:=of_decide_eq_true h1
  rw [h1,Bool.true_and,bin_half hl]
  refine ix_tree (Int.tdiv_nonneg h0 (by decide)) hlt _ ?_
  rw [bin_and1,bin_eql,bin_neqB]
  refine ⟨?_,rfl⟩
  rw [litB,Int.tmod_eq_emod_of_nonneg h0]
theorem ans171 {c:Ci} (hc:c.ok) (s:Int) {l:Int} (hl:i64R l):Ans Tryz.prog 171 [c.av,aI s,aI l] (aB (isB c s l)):=by
  intro S
  refine ACalls.ans_v (calls171 ?_)
  unfold m171
  refine boxA_of rfl fun S1 k1 n1 o1=>?_
  rw [ldN_p (n:=8) o1 rfl]
  refine callF_ans (ans187 hc s) ?_
  refine callF_ans (ans186 _ hl) ?_
  exact ⟨by rw [isV_isB],k1⟩
theorem ans172 {c:Ci} (hc:c.ok) (s:Int):Ans Tryz.prog 172 [c.av,aI s] (aI (afterB c s)):=by
  intro S
  refine ACalls.ans_v (calls172 ?_)
  unfold m172
  refine boxA_of rfl fun S1 k1 n1 o1=>?_
  rw [ldN_p (n:=8) o1 rfl]
  refine callF_ans (ans187 hc s) ?_
  have hil:=fun l=>isV_isB (c:=c) s l
  rw [lenS_aL,bin_eql,onB_v]
  refine gd_of (fun h=>?_) (fun h=>?_)
  · have hv:valB c s = []:=List.eq_nil_of_length_eq_zero (by have:=of_decide_eq_true h; omega)
    refine ⟨?_,k1⟩
    have:(c.right && decide (c.gr.inputs ≤ 60)) = false:=by
      cases h1:(c.right && decide (c.gr.inputs ≤ 60)) with
      | false=>rfl
      | true =>
        unfold valB at hv
        rw [if_pos h1] at hv
        simp only [Bool.and_eq_true] at h1
        have h2:=allB_vars h1.1 s
        obtain ⟨g1,g2,g3⟩:=gr_inp h1.1
        rw [hv] at h2
        unfold Gr.vars at h2
        simp at h2; omega
    rw [afterB,this,if_neg (by decide)]
  have hgood:(c.right && decide (c.gr.inputs ≤ 60)) = true:=by
    cases h1:(c.right && decide (c.gr.inputs ≤ 60)) with
    | true=>rfl
    | false =>
      have:valB c s = []:=by rw [valB,h1,if_neg (by decide)]
      rw [this] at h
      simp at h
  have hr:c.right = true:=by simp only [Bool.and_eq_true] at hgood; exact hgood.1
  have h60:c.gr.inputs ≤ 60:=by simp only [Bool.and_eq_true,decide_eq_true_eq] at hgood; exact hgood.2
  obtain ⟨g1,g2,g3⟩:=gr_inp hr
  have hin:=(right_c.1 hr).1
  generalize valB c s = v at *
  rw [afterB,hgood,if_pos rfl,shift_p,ld1_p o1 rfl rfl,lenS_pL]
  refine loop172_0 (fun y w S'=>Keep S1 S' ∧ ∃ i:Nat,w = aI i ∧ i ≤ c.latches.length ∧ y = aI (afterTo c s i))
    (fun _ w _=>c.latches.length - ((intA w).getD 0).toNat) ⟨Keep.refl _,0,rfl,Nat.zero_le _,rfl⟩ ?_
  rintro _ _ S2 ⟨k2,i,rfl,hi,rfl⟩ KE hKE
  unfold b172_0
  rw [bin_lss,onB_v]
  refine gd_of (fun hlt=>?_) (fun hge=>?_)
  · have hlt:i < c.latches.length:=by simpa using hlt
    have hget:c.latches.getD i (0,0) = c.latches[i]:=by simp [List.getD_eq_getElem?_getD,hlt]
    have hli:=hc.lats _ (List.getElem_mem hlt)
    have hμ:c.latches.length - ((intA (aI (i + 1:Nat))).getD 0).toNat < c.latches.length - ((intA (aI i)).getD 0).toNat:=by simp [intA]; omega
    rw [ixS_pL hlt,ldN_q2]
    refine boxA_of rfl fun S3 k3 n3 o3=>?_
    refine stA_of o3 rfl rfl fun S4 n4 o4 f4=>?_
    have k4:=k2.trans (k3.st (Nat.le_refl _) n4 f4)
    rw [shift_p,ld1_p o4 rfl rfl]
    refine callF_ans (ans186 v hli.1) ?_
    rw [hil,onB_v]
    have hb:=afterTo_le c s i
    have e:c.inputs + (i:Int) = ((c.inputs.toNat + i:Nat):Int):=by omega
    refine gd_of (fun h4=>?_) (fun h4=>?_)
    · rw [shift_p,ld1_p ((k4.2 _ (by omega)).trans o1) rfl rfl,bin_add (by omega) (by omega),e,bin_shl1 (by omega),bin_or_pow hb.1 hb.2 (by omega),bin_add (by omega) (by omega)]
      exact hKE _ _ _ ⟨k4,i + 1,rfl,hlt,by rw [afterTo,hget,if_pos h4]⟩ hμ
    · rw [bin_add (by omega) (by omega)]
      exact hKE _ _ _ ⟨k4,i + 1,rfl,hlt,by rw [afterTo,hget,h4]; rfl⟩ hμ
  · have hge:i = c.latches.length:=by simp at hge; omega
    subst hge
    exact ⟨rfl,k1.trans k2⟩
set_option linter.unusedSectionVars false
structure SpOk (s:Sp):Prop where
  small:SpSmall s
  next:s.next.length = s.valid.length
  fair:∀ r ∈ s.fair,r.length = s.valid.length
  mem:∀ x ∈ s.next,∀ i ∈ x,0 ≤ i ∧ i < s.valid.length
  ini:s.initial.length = s.valid.length
section
variable {c:Ci} {s:Sp} {fr:List Bool} {tid:Nat} {S:Store}
theorem J_nil {id i j:Nat} {S0:Store} {P:AV → Prop}:(∃ q,(nilChk (.p id i j) S0 fun v S=>v = q ∧ S = S0) ∧ P q) = P (.p id i j):=J_by (op:=fun K=>nilChk (.p id i j) S0 K) fun K=>nilChk_p _ _ _ _ _
variable (hs:SpOk s) (hfr:In s fr)
include hs hfr
end
section
variable {c:Ci} {s:Sp} {fr:List Bool} {tid:Nat} {S:Store}
variable (hs:SpOk s) (hfr:In s fr)
include hs hfr
end
section
variable {c:Ci} {s:Sp} {fr:List Bool} {tid:Nat} {S:Store}
variable (hs:SpOk s) (hfr:In s fr)
include hs
include hfr
end
theorem tno {k j:Int} (h:¬ k = j) {S:Store} {A B:Store → Prop} (hB:B S):bin .eql 0 (.v (.int .i64 k)) (.v (.int .i64 j)) S (fun v S=>onB v fun b=>gd b (A S) (B S)):=by
  rw [bin_eql,onB_v,decide_eq_false h]; exact hB
theorem tyes {k j:Int} (h:k = j) {S:Store} {A B:Store → Prop} (hA:A S):bin .eql 0 (.v (.int .i64 k)) (.v (.int .i64 j)) S (fun v S=>onB v fun b=>gd b (A S) (B S)):=by
  rw [bin_eql,onB_v,decide_eq_true h]; exact hA
set_option linter.unusedSectionVars false
section
variable {c:Ci} {s:Sp} {fr:List Bool} {tid:Nat} (hs:SpOk s) (hfr:In s fr) (hc:c.ok)
include hs hfr hc
end
end Go.Proofs.YtolgpokppnajdaaGreat.G
set_option linter.unusedVariables false
set_option linter.unusedSimpArgs false
namespace Go.Proofs.YtolgpokppnajdaaGreat.G
open Go Go.Ab
set_option maxRecDepth 100000
noncomputable def c62:Code:=(Tryz.f62.body).getD .skip
def ms62:List (List Nat):=[[]]
def m62 (x0 x1 x2:AV) (S:Store) (Q:PoT):Prop :=
  ld1 x1 S fun v1 S=>bin .add 0 v1 (.v (.int .i64 1)) S fun v2 S=>stN 1 x1 v2 S fun v3 S=>ld1 x1 S fun v4 S=>ld1 x2 S fun v5 S=>lenS v5 S fun v6 S=>bin .gtr 0 v4 v6 S fun v7 S=>onB v7 fun b8=>gd b8 (Q (.ret (.v (.int .i64 0))) S) (ld1 x2 S fun v9 S=>ld1 x1 S fun v10 S=>bin .sub 0 v10 (.v (.int .i64 1)) S fun v11 S=>ixS 5 1 v9 v11 S fun v12 S=>ld1 v12 S fun v13 S=>convI .i64 v13 S fun v14 S=>bin .rem 0 v14 x0 S fun v15 S=>Q (.ret v15) S)
theorem calls62 {x0 x1 x2:AV} {S:Store} {Q:PoT} (h:m62 x0 x1 x2 S Q):ACalls Tryz.prog 62 [x0,x1,x2] S Q :=
  calls_of_vc (fn:=Tryz.f62) (c:=c62) (n:=19) Tryz.func62 (by kernel_rfl) (by kernel_rfl) (by kernel_rfl) ms62 (Eq.mpr (by kernel_rfl) h)
noncomputable def c63:Code:=(Tryz.f63.body).getD .skip
noncomputable def r63:List ResultVar:=Tryz.f63.results.toList
def env63_0 (y0 y4 y6 y8 y9:AV):List AV:=[y0,y4,y6,y8,y9]
def lv63_0:List Nat:=[0,4,6,8,9]
def ms63:List (List Nat):=[lv63_0,[0]]
def m63 (x0 x1 x2 x3 x4:AV) (S:Store) (Q:PoT):Prop :=
  boxN 24 4 (.a [(.v (.int .i64 0)),(.v (.string ByteArray.empty)),(.v (.int .i64 0)),.nl]) S fun v1 S=>ld1 x1 S fun v2 S=>callV Tryz.prog v2 [(.v (.int .i64 18))] S (fun v3 S=>bin .add 0 (.v (.int .i64 1)) v3 S fun v4 S=>bin .eql 0 x0 (.v (.int .i64 0)) S fun v5 S=>onB v5 fun b6=>gd b6 (ld1 x1 S fun v7 S=>callV Tryz.prog v7 [(.v (.int .i64 7))] S (fun v8 S=>bin .quo 0 v8 (.v (.int .i64 5)) S fun v9 S=>bin .sub 0 (.v (.int .i64 3)) v9 S fun v10 S=>bld [(0,1),(1,1),(2,1),(3,1)] [(.v (.int .i64 0)),(.v (.string ByteArray.empty)),(.v (.int .i64 0)),.nl] [(0,v10)] S fun v11 S=>boxN 24 4 (.a [(.v (.int .i64 0)),(.v (.string ByteArray.empty)),(.v (.int .i64 0)),.nl]) S fun v12 S=>stN 4 v12 v11 S fun v13 S=>bin .eql 0 v10 (.v (.int .i64 3)) S fun v14 S=>onB v14 fun b15=>gd b15 (bslN 9 1 7 [(.v (.string ByteArray.empty))] [(0,(.v (.string { data:=#[113] }))),(1,(.v (.string { data:=#[108,48] }))),(2,(.v (.string { data:=#[111,117,116] }))),(3,(.v (.string { data:=#[108,49] }))),(4,(.v (.string { data:=#[105,48] }))),(5,(.v (.string { data:=#[111,48] }))),(6,(.v (.string { data:=#[97,45,98] })))] S fun v16 S=>ld1 x1 S fun v17 S=>callV Tryz.prog v17 [(.v (.int .i64 7))] S (fun v18 S=>ixS 9 1 v16 v18 S fun v19 S=>ld1 v19 S fun v20 S=>shift v12 1 S fun v21 S=>stN 1 v21 v20 S fun v22 S=>callF Tryz.prog 64 [v10] S Q fun v23 S=>loopV lv63_0 (vc Tryz.prog (c63.at_ [1,1,1,1,1,0,1,0,0]) (ms63.drop 1)) 55 (env63_0 x0 x4 v1 v12 v23) S (blockK 0 (seqK (vc Tryz.prog (c63.at_ [1,1,1,1,1,1]) (ms63.drop 1)) (bodyK Tryz.prog r63 Q)))) (fun u S=>Q (.pan u) S)) (callF Tryz.prog 64 [v10] S Q fun v24 S=>loopV lv63_0 (vc Tryz.prog (c63.at_ [1,1,1,1,1,0,1,0,0]) (ms63.drop 1)) 55 (env63_0 x0 x4 v1 v12 v24) S (blockK 0 (seqK (vc Tryz.prog (c63.at_ [1,1,1,1,1,1]) (ms63.drop 1)) (bodyK Tryz.prog r63 Q))))) (fun u S=>Q (.pan u) S)) (ld1 x2 S fun v25 S=>ld1 x3 S fun v26 S=>lenS v26 S fun v27 S=>bin .geq 0 v25 v27 S fun v28 S=>onB v28 fun b29=>gd b29 (ld1 x1 S fun v30 S=>callV Tryz.prog v30 [(.v (.int .i64 7))] S (fun v31 S=>bin .quo 0 v31 (.v (.int .i64 5)) S fun v32 S=>bin .sub 0 (.v (.int .i64 3)) v32 S fun v33 S=>bld [(0,1),(1,1),(2,1),(3,1)] [(.v (.int .i64 0)),(.v (.string ByteArray.empty)),(.v (.int .i64 0)),.nl] [(0,v33)] S fun v34 S=>boxN 24 4 (.a [(.v (.int .i64 0)),(.v (.string ByteArray.empty)),(.v (.int .i64 0)),.nl]) S fun v35 S=>stN 4 v35 v34 S fun v36 S=>bin .eql 0 v33 (.v (.int .i64 3)) S fun v37 S=>onB v37 fun b38=>gd b38 (bslN 9 1 7 [(.v (.string ByteArray.empty))] [(0,(.v (.string { data:=#[113] }))),(1,(.v (.string { data:=#[108,48] }))),(2,(.v (.string { data:=#[111,117,116] }))),(3,(.v (.string { data:=#[108,49] }))),(4,(.v (.string { data:=#[105,48] }))),(5,(.v (.string { data:=#[111,48] }))),(6,(.v (.string { data:=#[97,45,98] })))] S fun v39 S=>ld1 x1 S fun v40 S=>callV Tryz.prog v40 [(.v (.int .i64 7))] S (fun v41 S=>ixS 9 1 v39 v41 S fun v42 S=>ld1 v42 S fun v43 S=>shift v35 1 S fun v44 S=>stN 1 v44 v43 S fun v45 S=>callF Tryz.prog 64 [v33] S Q fun v46 S=>loopV lv63_0 (vc Tryz.prog (c63.at_ [1,1,1,1,1,0,1,0,0]) (ms63.drop 1)) 55 (env63_0 x0 x4 v1 v35 v46) S (blockK 0 (seqK (vc Tryz.prog (c63.at_ [1,1,1,1,1,1]) (ms63.drop 1)) (bodyK Tryz.prog r63 Q)))) (fun u S=>Q (.pan u) S)) (callF Tryz.prog 64 [v33] S Q fun v47 S=>loopV lv63_0 (vc Tryz.prog (c63.at_ [1,1,1,1,1,0,1,0,0]) (ms63.drop 1)) 55 (env63_0 x0 x4 v1 v35 v47) S (blockK 0 (seqK (vc Tryz.prog (c63.at_ [1,1,1,1,1,1]) (ms63.drop 1)) (bodyK Tryz.prog r63 Q))))) (fun u S=>Q (.pan u) S)) (ld1 x2 S fun v48 S=>bin .gtr 0 v48 (.v (.int .i64 30)) S fun v49 S=>onB v49 fun b50=>gd b50 (ld1 x1 S fun v51 S=>callV Tryz.prog v51 [(.v (.int .i64 7))] S (fun v52 S=>bin .quo 0 v52 (.v (.int .i64 5)) S fun v53 S=>bin .sub 0 (.v (.int .i64 3)) v53 S fun v54 S=>bld [(0,1),(1,1),(2,1),(3,1)] [(.v (.int .i64 0)),(.v (.string ByteArray.empty)),(.v (.int .i64 0)),.nl] [(0,v54)] S fun v55 S=>boxN 24 4 (.a [(.v (.int .i64 0)),(.v (.string ByteArray.empty)),(.v (.int .i64 0)),.nl]) S fun v56 S=>stN 4 v56 v55 S fun v57 S=>bin .eql 0 v54 (.v (.int .i64 3)) S fun v58 S=>onB v58 fun b59=>gd b59 (bslN 9 1 7 [(.v (.string ByteArray.empty))] [(0,(.v (.string { data:=#[113] }))),(1,(.v (.string { data:=#[108,48] }))),(2,(.v (.string { data:=#[111,117,116] }))),(3,(.v (.string { data:=#[108,49] }))),(4,(.v (.string { data:=#[105,48] }))),(5,(.v (.string { data:=#[111,48] }))),(6,(.v (.string { data:=#[97,45,98] })))] S fun v60 S=>ld1 x1 S fun v61 S=>callV Tryz.prog v61 [(.v (.int .i64 7))] S (fun v62 S=>ixS 9 1 v60 v62 S fun v63 S=>ld1 v63 S fun v64 S=>shift v56 1 S fun v65 S=>stN 1 v65 v64 S fun v66 S=>callF Tryz.prog 64 [v54] S Q fun v67 S=>loopV lv63_0 (vc Tryz.prog (c63.at_ [1,1,1,1,1,0,1,0,0]) (ms63.drop 1)) 55 (env63_0 x0 x4 v1 v56 v67) S (blockK 0 (seqK (vc Tryz.prog (c63.at_ [1,1,1,1,1,1]) (ms63.drop 1)) (bodyK Tryz.prog r63 Q)))) (fun u S=>Q (.pan u) S)) (callF Tryz.prog 64 [v54] S Q fun v68 S=>loopV lv63_0 (vc Tryz.prog (c63.at_ [1,1,1,1,1,0,1,0,0]) (ms63.drop 1)) 55 (env63_0 x0 x4 v1 v56 v68) S (blockK 0 (seqK (vc Tryz.prog (c63.at_ [1,1,1,1,1,1]) (ms63.drop 1)) (bodyK Tryz.prog r63 Q))))) (fun u S=>Q (.pan u) S)) (bld [(0,1),(1,1),(2,1),(3,1)] [(.v (.int .i64 0)),(.v (.string ByteArray.empty)),(.v (.int .i64 0)),.nl] [(0,v4)] S fun v69 S=>boxN 24 4 (.a [(.v (.int .i64 0)),(.v (.string ByteArray.empty)),(.v (.int .i64 0)),.nl]) S fun v70 S=>stN 4 v70 v69 S fun v71 S=>bin .eql 0 v4 (.v (.int .i64 3)) S fun v72 S=>onB v72 fun b73=>gd b73 (bslN 9 1 7 [(.v (.string ByteArray.empty))] [(0,(.v (.string { data:=#[113] }))),(1,(.v (.string { data:=#[108,48] }))),(2,(.v (.string { data:=#[111,117,116] }))),(3,(.v (.string { data:=#[108,49] }))),(4,(.v (.string { data:=#[105,48] }))),(5,(.v (.string { data:=#[111,48] }))),(6,(.v (.string { data:=#[97,45,98] })))] S fun v74 S=>ld1 x1 S fun v75 S=>callV Tryz.prog v75 [(.v (.int .i64 7))] S (fun v76 S=>ixS 9 1 v74 v76 S fun v77 S=>ld1 v77 S fun v78 S=>shift v70 1 S fun v79 S=>stN 1 v79 v78 S fun v80 S=>callF Tryz.prog 64 [v4] S Q fun v81 S=>loopV lv63_0 (vc Tryz.prog (c63.at_ [1,1,1,1,1,0,1,0,0]) (ms63.drop 1)) 55 (env63_0 x0 x4 v1 v70 v81) S (blockK 0 (seqK (vc Tryz.prog (c63.at_ [1,1,1,1,1,1]) (ms63.drop 1)) (bodyK Tryz.prog r63 Q)))) (fun u S=>Q (.pan u) S)) (callF Tryz.prog 64 [v4] S Q fun v82 S=>loopV lv63_0 (vc Tryz.prog (c63.at_ [1,1,1,1,1,0,1,0,0]) (ms63.drop 1)) 55 (env63_0 x0 x4 v1 v70 v82) S (blockK 0 (seqK (vc Tryz.prog (c63.at_ [1,1,1,1,1,1]) (ms63.drop 1)) (bodyK Tryz.prog r63 Q)))))))) (fun u S=>Q (.pan u) S)
theorem calls63 {x0 x1 x2 x3 x4:AV} {S:Store} {Q:PoT} (h:m63 x0 x1 x2 x3 x4 S Q):ACalls Tryz.prog 63 [x0,x1,x2,x3,x4] S Q :=
  calls_of_vc (fn:=Tryz.f63) (c:=c63) (n:=55) Tryz.func63 (by kernel_rfl) (by kernel_rfl) (by kernel_rfl) ms63 (Eq.mpr (by kernel_rfl) h)
def b63_0 (y0 y4 y6 y8 y9:AV) (S:Store) (KE0:KeT) (Q:PoT):Prop :=
  bin .gtr 0 y9 (.v (.int .i64 0)) S fun v83 S=>onB v83 fun b84=>gd b84 (∃ q85:AV,(∀ T:Store,Keep S T → shift y8 3 T fun v86 S=>v86 = q85 ∧ S = T) ∧ ∃ q87:AV,(∀ T:Store,Keep S T → ld1 q85 T fun v88 S=>v88 = q87 ∧ S = T) ∧ ∃ q89:AV,(∀ T:Store,Keep S T → ld1 y4 T fun v90 S=>v90 = q89 ∧ S = T) ∧ ∃ q91:AV,(∀ T:Store,Keep S T → bin .sub 0 y0 (.v (.int .i64 1)) T fun v92 S=>v92 = q91 ∧ S = T) ∧ callV Tryz.prog q89 [q91] S (fun v93 S=>(∀ T:Store,Keep S T → ld1 q85 T fun v94 S=>v94 = q87 ∧ S = T) ∧ (∀ T:Store,Keep S T → shift y8 3 T fun v95 S=>v95 = q85 ∧ S = T) ∧ ∃ q96:AV,(∀ T:Store,Keep S T → bslN 24 4 1 [(.v (.int .i64 0)),(.v (.string ByteArray.empty)),(.v (.int .i64 0)),.nl] [(0,v93)] T fun v97 S=>v97 = q96 ∧ S = T) ∧ appS 24 4 56 q87 q96 S fun v98 S=>∃ q99:AV,(∀ T:Store,Keep S T → shift y8 3 T fun v100 S=>v100 = q99 ∧ S = T) ∧ stN 1 q99 v98 S fun v101 S=>bin .sub 0 y9 (.v (.int .i64 1)) S fun v102 S=>KE0 55 (env63_0 y0 y4 y6 y8 v102) S) (fun u S=>False)) (ldN 4 y8 S fun v103 S=>stN 4 y6 v103 S fun v104 S=>ldN 4 y6 S fun v105 _=>Q (.ret v105) S)
theorem b63_0_eq (y0 y4 y6 y8 y9:AV) (S:Store) (KE0:KeT) (Q:PoT):vc Tryz.prog (c63.at_ [1,1,1,1,1,0,1,0,0]) (ms63.drop 1) (mkE 55 lv63_0 (env63_0 y0 y4 y6 y8 y9)) S (thenK (fgK lv63_0 KE0) (blockK 0 (seqK (vc Tryz.prog (c63.at_ [1,1,1,1,1,1]) (ms63.drop 1)) (bodyK Tryz.prog r63 Q)))) = b63_0 y0 y4 y6 y8 y9 S KE0 Q:=by kernel_rfl
theorem loop63_0 {y0 y4 y6 y8:AV} {y90:AV} {S:Store} {Q:PoT} (I:AV → Store → Prop) (μ:AV → Store → Nat) (h0:I y90 S)
    (hr:∀ (y9:AV) (S:Store),I y9 S → ∀ KE0:KeT,(∀ (y9':AV) (S':Store),I y9' S' → μ y9' S' < μ y9 S → KE0 55 (env63_0 y0 y4 y6 y8 y9') S') → b63_0 y0 y4 y6 y8 y9 S KE0 Q) :
    loopV lv63_0 (vc Tryz.prog (c63.at_ [1,1,1,1,1,0,1,0,0]) (ms63.drop 1)) 55 (env63_0 y0 y4 y6 y8 y90) S (blockK 0 (seqK (vc Tryz.prog (c63.at_ [1,1,1,1,1,1]) (ms63.drop 1)) (bodyK Tryz.prog r63 Q))):=by
  refine ⟨fun n e S=>n = 55 ∧ ∃ y9:AV,e = (env63_0 y0 y4 y6 y8 y9) ∧ I y9 S,fun _ e S=>μ (e.getD 4 .j) S,?_,?_⟩
  · exact ⟨_,_,Wk.refl _ _,rfl,_,rfl,h0⟩
  · rintro _ e S ⟨rfl,y9,rfl,hI⟩
    exact (b63_0_eq _ _ _ _ _ _ _ _).mpr (hr y9 S hI _ (fun y9' S' hI' hm=>⟨_,_,Wk.refl _ _,⟨rfl,_,rfl,hI'⟩,hm⟩))
noncomputable def c34:Code:=(Tryz.f34.body).getD .skip
def ms34:List (List Nat):=[[0]]
def m34 (x0:AV) (S:Store) (Q:PoT):Prop :=
  boxN 25 1 x0 S fun v1 S=>boxN 24 4 (.a [(.v (.int .i64 0)),(.v (.string ByteArray.empty)),(.v (.int .i64 0)),.nl]) S fun v2 S=>boxN 3 1 (.v (.int .i64 0)) S fun v3 S=>stN 1 v3 (.v (.int .i64 0)) S fun v4 S=>boxN 95 1 (.v .nilFunc) S fun v5 S=>stN 1 v5 (.f (.func 62) [] [v3,v1]) S fun v6 S=>boxN 113 1 (.v .nilFunc) S fun v7 S=>stN 1 v7 (.f (.func 63) [] [v5,v3,v1,v7]) S fun v8 S=>ld1 v7 S fun v9 S=>callV Tryz.prog v9 [(.v (.int .i64 6))] S (fun v10 S=>stN 4 v2 v10 S fun v11 S=>ldN 4 v2 S fun v12 _=>Q (.ret v12) S) (fun u S=>Q (.pan u) S)
theorem calls34 {x0:AV} {S:Store} {Q:PoT} (h:m34 x0 S Q):ACalls Tryz.prog 34 [x0] S Q :=
  calls_of_vc (fn:=Tryz.f34) (c:=c34) (n:=10) Tryz.func34 (by kernel_rfl) (by kernel_rfl) (by kernel_rfl) ms34 (Eq.mpr (by kernel_rfl) h)
end Go.Proofs.YtolgpokppnajdaaGreat.G
set_option linter.unusedVariables false
set_option linter.unusedSimpArgs false
namespace Go.Proofs.YtolgpokppnajdaaGreat.G
open Go Go.Ab
abbrev aU8 (n:Int):AV:=.v (.int .u8 n)
def wordsL:List ByteArray:=[⟨#[113]⟩,⟨#[108,48]⟩,⟨#[111,117,116]⟩,⟨#[108,49]⟩,⟨#[105,48]⟩,⟨#[111,48]⟩,⟨#[97,45,98]⟩]
inductive MadeF:Nat → Fo → Prop
  | mk (d:Nat) (k:Int) (n:ByteArray) (ks:List Fo) (h1:1 ≤ k) (h2:k ≤ 18) (h3:(ks.length:Int) = kidsN k) (h4:k = 3 → n ∈ wordsL) (h5:¬ k = 3 → n = ⟨#[]⟩) (h6:ks ≠ [] → 0 < d) (h:∀ f ∈ ks,MadeF (d - 1) f):MadeF d (.mk k n 0 ks)
theorem kidsN_le (k:Int):kidsN k ≤ 2:=by unfold kidsN; split; omega; split; omega; split <;> omega
theorem Fo.tree:∀ (f:Fo),∀ u ∈ f.row,Tree u:=by
  intro f
  induction f using Fo.ind with
  | h k n l ks ih =>
    intro u hu
    rw [Fo.row_mk] at hu
    simp only [List.mem_cons,List.not_mem_nil,or_false] at hu
    rcases hu with rfl | rfl | rfl | rfl
    · exact Tree.v _
    · exact Tree.v _
    · exact Tree.v _
    · refine Tree.l fun c hc u hu=>?_
      obtain ⟨f,hf,rfl⟩:=List.mem_map.1 hc
      exact ih f hf u hu
theorem MadeF.ok:∀ (f:Fo) (d:Nat),MadeF d f → f.ok:=by
  intro f
  induction f using Fo.ind with
  | h k n l ks ih =>
    intro d h
    cases h with
    | mk d _ _ _ h1 h2 h3 h4 h5 h6 h =>
      have hk:=kidsN_le k
      have hn:n.size ≤ 3:=by
        by_cases hk:k = 3
        · have:=h4 hk
          simp only [wordsL,List.mem_cons,List.not_mem_nil,or_false] at this
          rcases this with rfl | rfl | rfl | rfl | rfl | rfl | rfl <;> decide
        · rw [h5 hk]; decide
      exact .mk _ _ _ _ ⟨by omega,by omega⟩ ⟨by decide,by decide⟩ (by omega) (by omega) fun f hf=>ih f hf _ (h f hf)
theorem pickG_of {S:Store} {aid lid ta tl k:Nat} {l:List Int} {n:Int} {Q:AEnd → Store → Prop} (h1:S.obj aid = some (.cells ta [[aI k]] true)) (h2:S.obj lid = some (.cells tl [[aL aU8 l]] true)) (hne:lid ≠ aid)
    (hl:∀ x ∈ l,0 ≤ x ∧ x < 256) (hn:0 < n) (hk:k ≤ 1000000)
    (K:∀ S',S'.n = S.n → S'.obj aid = some (.cells ta [[aI (k + 1:Nat)]] true) → (∀ x,x ≠ aid → S'.obj x = S.obj x) → Q (.ret (aI (pickV l k n))) S'):ACalls Tryz.prog 62 [aI n,.p aid 0 0,.p lid 0 0] S Q:=by
  refine calls62 ?_
  unfold m62
  have hadd:∀ K:AV → Store → Prop,∀ S,bin .add 0 (.v (.int .i64 (k:Int))) (.v (.int .i64 1)) S K = K (aI (k + 1:Nat)) S:=fun K S=>bin_add (by omega) (by omega) 0
  rw [ld1_p h1 rfl rfl,hadd]
  refine st_of h1 rfl rfl fun S1 n1 o1 f1=>?_
  have p1:=(f1 lid hne).trans h2
  rw [ld1_p o1 rfl rfl,ld1_p p1 rfl rfl,lenS_aL,bin_gtr,onB_v]
  refine gd_of (fun h=>?_) (fun h=>?_)
  · have h:=of_decide_eq_true h
    have:=K S1 n1 o1 f1
    rw [pickV,if_pos (by omega)] at this
    exact this
  · have h:=of_decide_eq_false h
    have hlt:k < l.length:=by omega
    have hx:=hl _ (List.getElem_mem hlt)
    have hsub:∀ K:AV → Store → Prop,∀ S,bin .sub 0 (.v (.int .i64 ((k + 1:Nat):Int))) (.v (.int .i64 1)) S K = K (aI k) S:=fun K S=>(bin_sub (by omega) (by omega) 0).trans (by rw [show ((k + 1:Nat):Int) - 1 = k by omega])
    rw [ld1_p p1 rfl rfl,ld1_p o1 rfl rfl,hsub,ixS_aL hlt,ld1_q,convI_64 _ (by omega) (by omega),bin_rem (by omega)]
    have:=K S1 n1 o1 f1
    rw [pickV,if_neg (by omega),show l.getD k 0 = l[k] by simp [List.getD_eq_getElem?_getD,hlt]] at this
    exact this
abbrev pickG (b:Nat):AV:=.f (.func 62) [] [.p (b + 2) 0 0,.p b 0 0]
abbrev makeG (b:Nat):AV:=.f (.func 63) [] [.p (b + 3) 0 0,.p (b + 2) 0 0,.p b 0 0,.p (b + 4) 0 0]
structure Mg (b:Nat) (l:List Int) (k:Nat) (S:Store):Prop where
  n:b + 5 ≤ S.n
  lo:S.obj b = some (.cells 25 [[aL aU8 l]] true)
  ao:S.obj (b + 2) = some (.cells 3 [[aI k]] true)
  po:S.obj (b + 3) = some (.cells 95 [[pickG b]] true)
  mo:S.obj (b + 4) = some (.cells 113 [[makeG b]] true)
def Ch (b:Nat) (S S':Store):Prop:=S.n ≤ S'.n ∧ ∀ i,i < S.n → i ≠ b + 2 → S'.obj i = S.obj i
theorem Ch.trans {b:Nat} {S S' S'':Store} (h:Ch b S S') (k:Ch b S' S''):Ch b S S'':=⟨Nat.le_trans h.1 k.1,fun i hi hb=>(k.2 i (by have:=h.1; omega) hb).trans (h.2 i hi hb)⟩
theorem Ch.keep {b:Nat} {S S':Store} (k:Keep S S'):Ch b S S':=⟨k.1,fun i hi _=>k.2 i hi⟩
theorem Ch.st {b id:Nat} {S0 S S':Store} (h:Ch b S0 S) (hid:S0.n ≤ id ∨ id = b + 2) (hn:S'.n = S.n) (ho:∀ x,x ≠ id → S'.obj x = S.obj x):Ch b S0 S':=⟨by have:=h.1; omega,fun i hi hb=>(ho i (by omega)).trans (h.2 i hi hb)⟩
theorem Ch.low {b:Nat} {S0 S S':Store} (h:Ch b S0 S) (hn:S.n ≤ S'.n) (ho:∀ x,x < S0.n → S'.obj x = S.obj x):Ch b S0 S':=⟨Nat.le_trans h.1 hn,fun i hi hb=>(ho i hi).trans (h.2 i hi hb)⟩
theorem Mg.mv {b k:Nat} {l:List Int} {S S':Store} (h:Mg b l k S) (hn:S.n ≤ S'.n) (ho:∀ i,i < b + 5 → S'.obj i = S.obj i):Mg b l k S':=⟨by have:=h.n; omega,(ho _ (by omega)).trans h.lo,(ho _ (by omega)).trans h.ao,(ho _ (by omega)).trans h.po,(ho _ (by omega)).trans h.mo⟩
theorem Mg.keep {b k:Nat} {l:List Int} {S S':Store} (h:Mg b l k S) (q:Keep S S'):Mg b l k S':=h.mv q.1 fun i hi=>q.2 i (by have:=h.n; omega)
theorem Mg.st {b k id:Nat} {l:List Int} {S S':Store} (h:Mg b l k S) (hid:b + 5 ≤ id) (hn:S'.n = S.n) (ho:∀ x,x ≠ id → S'.obj x = S.obj x):Mg b l k S':=h.mv (by omega) fun i hi=>ho i (by omega)
theorem Mg.pick {b k:Nat} {l:List Int} {S:Store} (h:Mg b l k S) (hl:∀ x ∈ l,0 ≤ x ∧ x < 256) {n:Int} (hn:0 < n) (hk:k ≤ 1000) {K X:AV → Store → Prop}
    (kk:∀ S',Mg b l (k + 1) S' → S'.n = S.n → (∀ x,x ≠ b + 2 → S'.obj x = S.obj x) → K (aI (pickV l k n)) S'):callV Tryz.prog (pickG b) [aI n] S K X :=
  .inl (pickG_of h.ao h.lo (by omega) hl hn (by omega) fun S' n2 o2 f2=>kk S' ⟨by have:=h.n; omega,(f2 _ (by omega)).trans h.lo,o2,(f2 _ (by omega)).trans h.po,(f2 _ (by omega)).trans h.mo⟩ n2 f2)
def mostP:Nat → Nat
  | 0=>3
  | d + 1=>3 + 2 * mostP d
theorem mostP_pos:∀ d,3 ≤ mostP d
  | 0=>by decide
  | d + 1=>by unfold mostP; omega
def MadeQ (b:Nat) (l:List Int) (k d:Nat) (T:Store) (tr:AV) (T':Store):Prop:=∃ (f:Fo) (k':Nat),tr = f.av ∧ Mg b l k' T' ∧ Ch b T T' ∧ k ≤ k' ∧ k' ≤ k + mostP d ∧ MadeF d f
theorem bslA4 {e:Nat} {z1 z2 z3 z4:AV} {r:List AV} {S:Store} {K:AV → Store → Prop} (hr:r.length = 4) (k:K (.l [r]) S):bslN e 4 1 [z1,z2,z3,z4] [(0,.a r)] S K:=by
  match r,hr with
  | [u,v,w,x],_ =>
    refine ⟨[u,v,w,x],?_,.inr ?_⟩
    · simp [fillA,cellsOf,spl]
    · simpa [chunks] using k
theorem bsl7 {e:Nat} {z:AV} {a1 a2 a3 a4 a5 a6 a7:ByteArray} {S:Store} {K:AV → Store → Prop} (k:K (aL (fun a=>.v (.string a)) [a1,a2,a3,a4,a5,a6,a7]) S) :
    bslN e 1 7 [z] [(0,.v (.string a1)),(1,.v (.string a2)),(2,.v (.string a3)),(3,.v (.string a4)),(4,.v (.string a5)),(5,.v (.string a6)),(6,.v (.string a7))] S K:=by
  refine ⟨[.v (.string a1),.v (.string a2),.v (.string a3),.v (.string a4),.v (.string a5),.v (.string a6),.v (.string a7)],?_,.inr ?_⟩
  · have h:∀ a:ByteArray,cellsOf (.v (.string a)) = some [.v (.string a)]:=fun _=>rfl
    simp [fillA,h,spl,List.range_succ]
  · simpa [chunks,List.range_succ,aL] using k
section
variable {b:Nat} {l:List Int} (hl:∀ x ∈ l,0 ≤ x ∧ x < 256) {d:Nat}
  (ih:∀ d',d = d' + 1 → ∀ {k:Nat} {T:Store},Mg b l k T → k + mostP d' ≤ 1000 → ACalls Tryz.prog 63 [aI d',.p (b + 3) 0 0,.p (b + 2) 0 0,.p b 0 0,.p (b + 4) 0 0] T (fun e T'=>∃ tr,e = .ret tr ∧ MadeQ b l k d' T tr T'))
include ih
theorem kids_of {T0 T:Store} {k0 k fid:Nat} {kd:Int} {nm:ByteArray} {r:Int} {Q:AEnd → Store → Prop} (hm:Mg b l k T) (h0:b + 5 ≤ T0.n) (hc:Ch b T0 T) (hb:b + 2 < T0.n) (hf:T0.n < fid) (hfT:fid < T.n) (hv1:T.obj T0.n = some (.cells 24 [(Fo.mk 0 ⟨#[]⟩ 0 []).row.set 3 .nl] true))
    (ho:T.obj fid = some (.cells 24 [[aI kd,.v (.string nm),aI 0,.nl]] true)) (hr:r = kidsN kd) (h1:1 ≤ kd) (h2:kd ≤ 18) (h3:kd = 3 → nm ∈ wordsL) (h4:¬ kd = 3 → nm = ⟨#[]⟩) (h5:kd ≤ 3 ∨ 0 < d) (hd:d ≤ 6)
    (hk0:k0 ≤ k) (hk:k ≤ k0 + 3) (hk1:k0 + mostP d ≤ 1000) (hQ:∀ rr tr T',Cv (T'.frz (newer T0.n)) T'.n rr tr → MadeQ b l k0 d T0 tr T' → Q (.ret rr) T') :
    loopV lv63_0 (vc Tryz.prog (c63.at_ [1,1,1,1,1,0,1,0,0]) (ms63.drop 1)) 55 (env63_0 (aI d) (.p (b + 4) 0 0) (.p T0.n 0 0) (.p fid 0 0) (aI r)) T (blockK 0 (seqK (vc Tryz.prog (c63.at_ [1,1,1,1,1,1]) (ms63.drop 1)) (bodyK Tryz.prog r63 Q))):=by
  have hr0:0 ≤ r ∧ r ≤ 2 ∧ (kd ≤ 3 → r = 0):=by
    have hle:=kidsN_le kd
    subst hr
    refine ⟨?_,hle,fun h=>?_⟩
    · unfold kidsN
      rw [if_neg (by omega)]
      split
      · omega
      split <;> omega
    · unfold kidsN
      rw [if_neg (by omega),if_pos h]
  have hP:∀ d',d = d' + 1 → mostP d = 3 + 2 * mostP d':=fun d' e=>by subst e; rfl
  refine loop63_0 (fun y S'=>∃ (i k':Nat) (ks:List Fo) (yk:AV),y = aI i ∧ (i:Int) + ks.length = r ∧ Mg b l k' S' ∧ Ch b T0 S' ∧ fid < S'.n ∧ S'.obj T0.n = some (.cells 24 [(Fo.mk 0 ⟨#[]⟩ 0 []).row.set 3 .nl] true) ∧
      S'.obj fid = some (.cells 24 [[aI kd,.v (.string nm),aI 0,yk]] true) ∧ Own (fid + 1) S' yk 24 (ks.map Fo.row) ∧ (∀ f ∈ ks,MadeF (d - 1) f) ∧ k0 ≤ k' ∧ k' + i * mostP (d - 1) ≤ k0 + 3 + r.toNat * mostP (d - 1))
    (fun y _=>((intA y).getD 0).toNat) ⟨r.toNat,k,[],.nl,by rw [show ((r.toNat:Nat):Int) = r by omega],by simp; omega,hm,hc,hfT,hv1,ho,.nl _ _ _,(fun f h=>by cases h),hk0,by omega⟩ ?_
  rintro _ S1 ⟨i,k',ks,yk,rfl,hi,m1,c1,f1,v1,o1,w1,hks,hk2,hk3⟩ KE hKE
  unfold b63_0
  have mn:=m1.n
  rw [bin_gtr,onB_v]
  refine gd_of (fun h=>?_) (fun h=>?_)
  · have hpos:0 < i:=by have:=of_decide_eq_true h; omega
    obtain ⟨i',rfl⟩:∃ i',i = i' + 1:=⟨i - 1,by omega⟩
    have hd0:0 < d:=by
      rcases h5 with h5 | h5
      · have:=hr0.2.2 h5
        omega
      · exact h5
    obtain ⟨d',rfl⟩:∃ d',d = d' + 1:=⟨d - 1,by omega⟩
    have hP':=hP d' rfl
    rw [show d' + 1 - 1 = d' from rfl] at hk3 hks
    have hi2:i' + 1 ≤ 2:=by omega
    have hrt:r.toNat ≤ 2:=by omega
    have hmul:r.toNat * mostP d' ≤ 2 * mostP d':=Nat.mul_le_mul_right _ hrt
    have hsplit:(i' + 1) * mostP d' = i' * mostP d' + mostP d':=Nat.succ_mul _ _
    refine L_shift ?_
    refine L_ldp o1 f1 rfl rfl ?_
    refine L_ldp m1.mo (by omega) rfl rfl ?_
    refine ⟨aI d',fun T hT=>by rw [bin_sub (by omega) (by omega),show ((d' + 1:Nat):Int) - 1 = d' by omega]; exact ⟨rfl,rfl⟩,?_⟩
    refine .inl ((ih d' rfl m1 (by omega)).mono ?_)
    rintro e S2 ⟨tr,rfl,f,k2,rfl,m2,c2,hk4,hk5,hf2⟩
    show _ ∧ _
    have o2:=(c2.2 _ f1 (by omega)).trans o1
    have n2:=c2.1
    have w2:Own (fid + 1) S2 yk 24 (ks.map Fo.row):=w1.same n2 fun j hj hj2=>c2.2 j hj2 (by omega)
    refine ⟨fun T hT=>by rw [ld1_p ((hT.2 _ (by omega)).trans o2) rfl rfl]; exact ⟨rfl,rfl⟩,fun T hT=>⟨rfl,rfl⟩,?_⟩
    refine ⟨.l [f.row],fun T hT=>bslA4 (Fo.row_len f) ⟨rfl,rfl⟩,?_⟩
    refine w2.app (c:=f.row) (by omega) (Fo.row_len f) (by rw [List.length_map]; omega) (fun z S3 w3 b3 hz3=>?_) rfl
    obtain ⟨m3,hm3⟩:=hz3
    have n3:=b3.1
    have k3:∀ x,x < fid + 1 → S3.obj x = S2.obj x:=fun x hx=>b3.2 x (by omega) (fun b m e=>by have:=w2.lt e; omega)
    refine L_shift ?_
    refine stF_of ((k3 _ (by omega)).trans o2) (by simp) (by rw [hm3]; rfl) fun S4 n4 o4 f4=>?_
    rw [bin_sub (by omega) (by omega),show ((i' + 1:Nat):Int) - 1 = i' by omega]
    have old:∀ x,x < fid → S4.obj x = S2.obj x:=fun x hx=>(f4 x (by omega)).trans (k3 x (by omega))
    refine hKE _ _ ⟨i',k2,ks ++ [f],z,rfl,by simp; omega,m2.mv (by omega) fun x hx=>old x (by omega),(c1.trans c2).low (by omega) fun x hx=>old x (by omega),by omega,(old _ hf).trans ((c2.2 _ (by omega) (by omega)).trans v1),o4,?_,?_,by omega,?_⟩ (by simp [intA])
    · rw [List.map_append]
      exact w3.st (id:=fid) (fun b m e=>by rw [hm3] at e; injection e; omega) n4 f4
    · intro g hg
      rcases List.mem_append.1 hg with hg | hg
      · exact hks g hg
      · rw [List.mem_singleton.1 hg]; exact hf2
    · show k2 + i' * mostP d' ≤ k0 + 3 + r.toNat * mostP d'
      omega
  · have hge:i = 0:=by have:=of_decide_eq_false h; omega
    subst hge
    rw [ldN_p (n:=4) o1 rfl]
    refine stA_of v1 rfl (by rw [List.length_set,Fo.row_len]) fun S2 n2 o2 f2=>?_
    rw [ldN_p (n:=4) o2 rfl]
    have w2:Own (fid + 1) S2 yk 24 (ks.map Fo.row):=w1.st (id:=T0.n) (fun b m e=>by have:=w1.lt e; omega) n2 f2
    refine hQ _ (Fo.mk kd nm 0 ks).av S2 ?_ ⟨.mk kd nm 0 ks,k',rfl,m1.st (id:=T0.n) (by omega) n2 f2,c1.st (.inl (Nat.le_refl _)) n2 f2,hk2,?_,.mk _ _ _ _ h1 h2 (by omega) h3 h4 (fun hne=>?_) hks⟩
    · rw [Fo.av,Fo.row_mk]
      refine .a _ _ rfl fun k u u2 e1 e2=>?_
      match k with
      | 0=>cases e1; cases e2; exact .v _
      | 1=>cases e1; cases e2; exact .v _
      | 2=>cases e1; cases e2; exact .v _
      | 3=>cases e1; cases e2; exact own_rows (fun r hr u hu=>by obtain ⟨f,_,rfl⟩:=List.mem_map.1 hr; exact Fo.tree f u hu) w2 (by omega)
      | k + 4=>simp at e1
    · rcases Nat.eq_zero_or_pos d with hz | hz
      · have:r = 0:=hr0.2.2 (by omega)
        rw [this] at hk3
        have:=mostP_pos d
        simp at hk3
        omega
      · obtain ⟨d',rfl⟩:∃ d',d = d' + 1:=⟨d - 1,by omega⟩
        have hP':=hP d' rfl
        have hmul:r.toNat * mostP d' ≤ 2 * mostP d':=Nat.mul_le_mul_right _ (by omega)
        rw [show d' + 1 - 1 = d' from rfl] at hk3
        omega
    · rcases h5 with h5 | h5
      · have:=hr0.2.2 h5
        have:ks = []:=List.eq_nil_of_length_eq_zero (by omega)
        exact absurd this hne
      · exact h5
end
section
variable {b:Nat} {l:List Int} (hl:∀ x ∈ l,0 ≤ x ∧ x < 256) {d:Nat}
  (ih:∀ d',d = d' + 1 → ∀ {k:Nat} {T:Store},Mg b l k T → k + mostP d' ≤ 1000 → ACalls Tryz.prog 63 [aI d',.p (b + 3) 0 0,.p (b + 2) 0 0,.p b 0 0,.p (b + 4) 0 0] T (fun e T'=>∃ tr,e = .ret tr ∧ MadeQ b l k d' T tr T'))
include hl ih
theorem rest_of {T0 T:Store} {k0 k:Nat} {kd:Int} {Q:AEnd → Store → Prop} (hm:Mg b l k T) (h0:b + 5 ≤ T0.n) (hc:Ch b T0 T) (hT:T0.n < T.n) (hv1:T.obj T0.n = some (.cells 24 [(Fo.mk 0 ⟨#[]⟩ 0 []).row.set 3 .nl] true))
    (h1:1 ≤ kd) (h2:kd ≤ 18) (h5:kd ≤ 3 ∨ 0 < d) (hd:d ≤ 6) (hk0:k0 ≤ k) (hk:k ≤ k0 + 2) (hk1:k0 + mostP d ≤ 1000) (hQ:∀ rr tr T',Cv (T'.frz (newer T0.n)) T'.n rr tr → MadeQ b l k0 d T0 tr T' → Q (.ret rr) T') :
    bld [(0,1),(1,1),(2,1),(3,1)] [(.v (.int .i64 0)),(.v (.string ByteArray.empty)),(.v (.int .i64 0)),.nl] [(0,(aI kd))] T fun v11 S=>boxN 24 4 (.a [(.v (.int .i64 0)),(.v (.string ByteArray.empty)),(.v (.int .i64 0)),.nl]) S fun v12 S=>stN 4 v12 v11 S fun v13 S=>bin .eql 0 (aI kd) (.v (.int .i64 3)) S fun v14 S=>onB v14 fun b15=>gd b15 (bslN 9 1 7 [(.v (.string ByteArray.empty))] [(0,(.v (.string { data:=#[113] }))),(1,(.v (.string { data:=#[108,48] }))),(2,(.v (.string { data:=#[111,117,116] }))),(3,(.v (.string { data:=#[108,49] }))),(4,(.v (.string { data:=#[105,48] }))),(5,(.v (.string { data:=#[111,48] }))),(6,(.v (.string { data:=#[97,45,98] })))] S fun v16 S=>ld1 (.p (b + 3) 0 0) S fun v17 S=>callV Tryz.prog v17 [(.v (.int .i64 7))] S (fun v18 S=>ixS 9 1 v16 v18 S fun v19 S=>ld1 v19 S fun v20 S=>shift v12 1 S fun v21 S=>stN 1 v21 v20 S fun v22 S=>callF Tryz.prog 64 [(aI kd)] S Q fun v23 S=>loopV lv63_0 (vc Tryz.prog (c63.at_ [1,1,1,1,1,0,1,0,0]) (ms63.drop 1)) 55 (env63_0 (aI d) (.p (b + 4) 0 0) (.p T0.n 0 0) v12 v23) S (blockK 0 (seqK (vc Tryz.prog (c63.at_ [1,1,1,1,1,1]) (ms63.drop 1)) (bodyK Tryz.prog r63 Q)))) (fun u S=>Q (.pan u) S)) (callF Tryz.prog 64 [(aI kd)] S Q fun v24 S=>loopV lv63_0 (vc Tryz.prog (c63.at_ [1,1,1,1,1,0,1,0,0]) (ms63.drop 1)) 55 (env63_0 (aI d) (.p (b + 4) 0 0) (.p T0.n 0 0) v12 v24) S (blockK 0 (seqK (vc Tryz.prog (c63.at_ [1,1,1,1,1,1]) (ms63.drop 1)) (bodyK Tryz.prog r63 Q)))):=by
  have hmp:=mostP_pos d
  rw [bld_of (cs:=[aI kd,.v (.string ⟨#[]⟩),aI 0,.nl]) rfl]
  refine boxA_of rfl fun S1 k1 n1 o1=>?_
  refine stA_of (cs':=[aI kd,.v (.string ⟨#[]⟩),aI 0,.nl]) o1 rfl rfl fun S2 n2 o2 f2=>?_
  have k2:=k1.st (Nat.le_refl _) n2 f2
  have m2:=hm.keep k2
  have c2:=hc.trans (Ch.keep (b:=b) k2)
  have v2:=(k2.2 _ hT).trans hv1
  rw [bin_eql,onB_v]
  refine gd_of (fun h=>?_) (fun h=>?_)
  · have h:kd = 3:=of_decide_eq_true h
    refine bsl7 ?_
    rw [ld1_p m2.po rfl rfl]
    refine m2.pick hl (by omega) (by omega) fun S3 m3 n3 f3=>?_
    obtain ⟨q0,q7⟩:=pickV_rng (l:=l) (k:=k) (n:=7) (fun x hx=>⟨(hl x hx).1,by have:=(hl x hx).2; omega⟩) (by omega)
    generalize pickV l k 7 = p at *
    obtain ⟨p,rfl⟩:=Int.eq_ofNat_of_zero_le q0
    have hp:p < wordsL.length:=by simp [wordsL]; omega
    rw [show ∀ K:AV → Store → Prop,ixS 9 1 (aL (fun a=>.v (.string a)) [⟨#[113]⟩,⟨#[108,48]⟩,⟨#[111,117,116]⟩,⟨#[108,49]⟩,⟨#[105,48]⟩,⟨#[111,48]⟩,⟨#[97,45,98]⟩]) (aI p) S3 K = K (.q [.v (.string wordsL[p])] 0) S3 from fun K=>ixS_aL (l:=wordsL) hp]
    rw [ld1_q,shift_p]
    have o3:=(f3 T.n (by have:=hm.n; omega)).trans o2
    refine stF_of o3 (by simp) rfl fun S4 n4 o4 f4=>?_
    refine callF_ans (ans64 kd) ?_
    exact kids_of ih (nm:=wordsL[p]) (m3.st (id:=T.n) (by have:=hm.n; omega) n4 f4) h0 ((c2.st (.inr rfl) n3 f3).st (.inl (by omega)) n4 f4) (by omega) hT (by omega) ((f4 _ (by omega)).trans ((f3 _ (by omega)).trans v2)) o4 rfl h1 h2 (fun _=>List.getElem_mem _) (fun h'=>absurd h h') h5 hd (by omega) (by omega) hk1 hQ
  · have h:¬ kd = 3:=of_decide_eq_false h
    refine callF_ans (ans64 kd) ?_
    exact kids_of ih (nm:=⟨#[]⟩) m2 h0 c2 (by omega) hT (by omega) v2 o2 rfl h1 h2 (fun h'=>absurd h' h) (fun _=>rfl) h5 hd (by omega) (by omega) hk1 hQ
theorem make_step (hd:d ≤ 6) {k:Nat} {T:Store} (hm:Mg b l k T) (hk:k + mostP d ≤ 1000):ACalls Tryz.prog 63 [aI d,.p (b + 3) 0 0,.p (b + 2) 0 0,.p b 0 0,.p (b + 4) 0 0] T (fun e T'=>∃ tr,e = .ret tr ∧ MadeQ b l k d T tr T'):=by
  have hmp:=mostP_pos d
  have h0:=hm.n
  refine (ACalls.treeW (Φ:=fun tr T'=>MadeQ b l k d T tr T') (calls63 ?_)).mono ?_
  · unfold m63
    refine boxA_of (cs:=(Fo.mk 0 ⟨#[]⟩ 0 []).row.set 3 .nl) (by rw [List.length_set,Fo.row_len]) fun S1 k1 n1 o1=>?_
    have hQ:∀ rr tr T',Cv (T'.frz (newer T.n)) T'.n rr tr → MadeQ b l k d T tr T' → ∃ r tr,AEnd.ret rr = .ret r ∧ Cv (T'.frz (newer T.n)) T'.n r tr ∧ MadeQ b l k d T tr T':=fun rr tr T' h1 h2=>⟨rr,tr,rfl,h1,h2⟩
    have m1:=hm.keep k1
    rw [ld1_p m1.po rfl rfl]
    refine m1.pick hl (by omega) (by omega) fun S2 m2 n2 f2=>?_
    obtain ⟨p0,p18⟩:=pickV_rng (l:=l) (k:=k) (n:=18) (fun x hx=>⟨(hl x hx).1,by have:=(hl x hx).2; omega⟩) (by omega)
    generalize pickV l k 18 = pk at *
    have c2:Ch b T S2:=(Ch.keep (b:=b) k1).st (.inr rfl) n2 f2
    have v2:=(f2 _ (by omega)).trans o1
    rw [bin_add (by omega) (by omega),bin_eql,onB_v]
    refine gd_of (fun h=>?_) (fun h=>?_)
    ·
      rw [ld1_p m2.po rfl rfl]
      refine m2.pick hl (by omega) (by omega) fun S3 m3 n3 f3=>?_
      obtain ⟨q0,q7⟩:=pickV_rng (l:=l) (k:=k + 1) (n:=7) (fun x hx=>⟨(hl x hx).1,by have:=(hl x hx).2; omega⟩) (by omega)
      generalize pickV l (k + 1) 7 = p at *
      have hq:p.tdiv 5 = p / 5:=Int.tdiv_eq_ediv_of_nonneg q0
      rw [bin_quo (by omega) (by omega) (by omega),bin_sub (by omega) (by omega)]
      exact rest_of hl ih (kd:=3 - p.tdiv 5) m3 h0 (c2.st (.inr rfl) n3 f3) (by omega) ((f3 _ (by omega)).trans v2) (by omega) (by omega) (.inl (by omega)) hd (by omega) (by omega) hk hQ
    have hd0:¬ (d:Int) = 0:=of_decide_eq_false h
    rw [ld1_p m2.ao rfl rfl,ld1_p m2.lo rfl rfl,lenS_aL,bin_geq,onB_v]
    refine gd_of (fun h=>?_) (fun h=>?_)
    ·
      rw [ld1_p m2.po rfl rfl]
      refine m2.pick hl (by omega) (by omega) fun S3 m3 n3 f3=>?_
      obtain ⟨q0,q7⟩:=pickV_rng (l:=l) (k:=k + 1) (n:=7) (fun x hx=>⟨(hl x hx).1,by have:=(hl x hx).2; omega⟩) (by omega)
      generalize pickV l (k + 1) 7 = p at *
      have hq:p.tdiv 5 = p / 5:=Int.tdiv_eq_ediv_of_nonneg q0
      rw [bin_quo (by omega) (by omega) (by omega),bin_sub (by omega) (by omega)]
      exact rest_of hl ih (kd:=3 - p.tdiv 5) m3 h0 (c2.st (.inr rfl) n3 f3) (by omega) ((f3 _ (by omega)).trans v2) (by omega) (by omega) (.inl (by omega)) hd (by omega) (by omega) hk hQ
    rw [ld1_p m2.ao rfl rfl,bin_gtr,onB_v]
    refine gd_of (fun h=>?_) (fun h=>?_)
    ·
      rw [ld1_p m2.po rfl rfl]
      refine m2.pick hl (by omega) (by omega) fun S3 m3 n3 f3=>?_
      obtain ⟨q0,q7⟩:=pickV_rng (l:=l) (k:=k + 1) (n:=7) (fun x hx=>⟨(hl x hx).1,by have:=(hl x hx).2; omega⟩) (by omega)
      generalize pickV l (k + 1) 7 = p at *
      have hq:p.tdiv 5 = p / 5:=Int.tdiv_eq_ediv_of_nonneg q0
      rw [bin_quo (by omega) (by omega) (by omega),bin_sub (by omega) (by omega)]
      exact rest_of hl ih (kd:=3 - p.tdiv 5) m3 h0 (c2.st (.inr rfl) n3 f3) (by omega) ((f3 _ (by omega)).trans v2) (by omega) (by omega) (.inl (by omega)) hd (by omega) (by omega) hk hQ
    exact rest_of hl ih (kd:=1 + pk) m2 h0 c2 (by omega) v2 (by omega) (by omega) (.inr (by omega)) hd (by omega) (by omega) hk hQ
  · rintro e T' ⟨tr,T1,rfl,rfl,f,k',rfl,m',c',h1,h2,h3⟩
    have old:∀ i,i < T.n → (T1.frz (newer T.n)).obj i = T1.obj i:=fun i hi=>frz_false (by simp [newer]; omega)
    exact ⟨_,rfl,f,k',rfl,m'.mv (Nat.le_refl _) fun i hi=>old i (by omega),⟨c'.1,fun i hi hb=>(old i hi).trans (c'.2 i hi hb)⟩,h1,h2,h3⟩
end
theorem make_of {b:Nat} {l:List Int} (hl:∀ x ∈ l,0 ≤ x ∧ x < 256):∀ {d:Nat},d ≤ 6 → ∀ {k:Nat} {T:Store},Mg b l k T → k + mostP d ≤ 1000 → ACalls Tryz.prog 63 [aI d,.p (b + 3) 0 0,.p (b + 2) 0 0,.p b 0 0,.p (b + 4) 0 0] T (fun e T'=>∃ tr,e = .ret tr ∧ MadeQ b l k d T tr T'):=by
  intro d
  induction d with
  | zero=>exact fun hd {k T} hm hk=>make_step hl (fun d' h=>by omega) hd hm hk
  | succ d ih =>
    intro hd k T hm hk
    refine make_step hl (fun d' h {k T} hm hk=>?_) hd hm hk
    obtain rfl:d = d':=by omega
    exact ih (by omega) hm hk
theorem made34 {l:List Int} (hl:∀ x ∈ l,0 ≤ x ∧ x < 256) {S:Store}:ACalls Tryz.prog 34 [aL aU8 l] S (fun e S'=>∃ tr,e = .ret tr ∧ S' = S ∧ ∃ f:Fo,tr = f.av ∧ MadeF 6 f):=by
  refine ACalls.treeE (calls34 ?_)
  unfold m34
  refine box1_of rfl fun S1 k1 n1 o1=>?_
  refine boxA_of rfl fun S2 k2 n2 o2=>?_
  refine box1_of rfl fun S3 k3 n3 o3=>?_
  refine st_of o3 rfl rfl fun S4 n4 o4 f4=>?_
  refine box1_of rfl fun S5 k5 n5 o5=>?_
  refine st_of o5 rfl rfl fun S6 n6 o6 f6=>?_
  refine box1_of rfl fun S7 k7 n7 o7=>?_
  refine st_of o7 rfl rfl fun S8 n8 o8 f8=>?_
  rw [ld1_p o8 rfl rfl]
  have e2:S2.n = S.n + 2:=by omega
  have e4:S4.n = S.n + 3:=by omega
  have e6:S6.n = S.n + 4:=by omega
  rw [e2] at o3 o4 f4
  rw [e4] at o5 o6 f6
  rw [e6] at o7 o8 f8
  have q8:∀ i,i < S.n + 4 → S8.obj i = S6.obj i:=fun i hi=>(f8 i (by omega)).trans (k7.2 i (by omega))
  have q6:∀ i,i < S.n + 3 → S8.obj i = S4.obj i:=fun i hi=>(q8 i (by omega)).trans ((f6 i (by omega)).trans (k5.2 i (by omega)))
  have q4:∀ i,i < S.n + 2 → S8.obj i = S2.obj i:=fun i hi=>(q6 i (by omega)).trans ((f4 i (by omega)).trans (k3.2 i (by omega)))
  have hm:Mg S.n l 0 S8:=⟨by omega,(q4 _ (by omega)).trans ((k2.2 _ (by omega)).trans o1),(q6 _ (by omega)).trans o4,(q8 _ (by omega)).trans (by rw [o6,e2]; rfl),by rw [o8,e2,e4]; rfl⟩
  refine .inl ?_
  rw [e2,e4,e6]
  refine (make_of (d:=6) hl (Nat.le_refl _) hm (by decide)).mono ?_
  rintro e S9 ⟨tr,rfl,f,k',rfl,m9,c9,_,_,hf⟩
  show stN 4 _ _ _ _
  have n9:=m9.n
  have c9n:=c9.1
  refine stA_of ((c9.2 S1.n (by omega) (by omega)).trans ((q4 _ (by omega)).trans o2)) (Fo.row_len f) rfl fun S10 n10 o10 f10=>?_
  rw [ldN_p (n:=4) o10 (Fo.row_len f)]
  refine ⟨_,f.av,rfl,⟨by omega,fun i hi=>(f10 i (by omega)).trans ((c9.2 i (by omega) (by omega)).trans ((q4 i (by omega)).trans ((k2.2 i (by omega)).trans (k1.2 i hi))))⟩,Tree.a (fun u hu=>Fo.tree f u hu) _ _,f,rfl,hf⟩
def litV (m:Int) (n:ByteArray):Int:=((n.size:Int) * 7 + (n[0]!).toNat).tmod (if 1 > m then 1 else m)
mutual
def Fo.litsF (m:Int):Fo → Fo
  | .mk k n _ ks=>.mk k ⟨#[]⟩ (if k = 3 then litV m n else 0) (Fo.litsFs m ks)
def Fo.litsFs (m:Int):List Fo → List Fo
  | []=>[]
  | f :: fs=>Fo.litsF m f :: Fo.litsFs m fs
end
theorem Fo.litsFs_map (m:Int):∀ l:List Fo,Fo.litsFs m l = l.map (Fo.litsF m)
  | []=>by rw [Fo.litsFs]; rfl
  | f :: fs=>by rw [Fo.litsFs,Fo.litsFs_map m fs]; rfl
theorem Fo.litsF_mk (m k:Int) (n:ByteArray) (l:Int) (ks:List Fo):Fo.litsF m (.mk k n l ks) = .mk k ⟨#[]⟩ (if k = 3 then litV m n else 0) (ks.map (Fo.litsF m)):=by rw [Fo.litsF,Fo.litsFs_map]
theorem litV_rng {m:Int} (n:ByteArray):0 ≤ litV m n ∧ litV m n < max m 1:=by
  unfold litV
  have h:(0:Int) < (if 1 > m then 1 else m):=by split <;> omega
  have h0:(0:Int) ≤ (n.size:Int) * 7 + (n[0]!).toNat:=by omega
  have h3:(if 1 > m then 1 else m) ≤ max m 1:=by split <;> omega
  generalize (if 1 > m then 1 else m) = q at *
  rw [Int.tmod_eq_emod_of_nonneg h0]
  have h1:=Int.emod_nonneg ((n.size:Int) * 7 + (n[0]!).toNat) (show q ≠ 0 by omega)
  have h2:=Int.emod_lt_of_pos ((n.size:Int) * 7 + (n[0]!).toNat) h
  exact ⟨h1,by omega⟩
theorem litsF_ok {m:Int} (hm:m ≤ 9223372036854775807):∀ (f:Fo) (d:Nat),MadeF d f → (f.litsF m).ok ∧ (f.litsF m).mayB (d + 1) = true ∧ ∀ g:Gr,(∀ l:Int,0 ≤ l → l < max m 1 → g.lit l = true) → (f.litsF m).litsB g = true:=by
  intro f
  induction f using Fo.ind with
  | h k n l ks ih =>
    intro d h
    cases h with
    | mk d _ _ _ h1 h2 h3 h4 h5 h6 h =>
      have hk:=kidsN_le k
      have hv:=litV_rng (m:=m) n
      rw [Fo.litsF_mk]
      refine ⟨.mk _ _ _ _ ⟨by omega,by omega⟩ (by unfold i64R; split <;> omega) (by decide) (by rw [List.length_map]; omega) fun g hg=>?_,?_,fun g hg=>?_⟩
      · obtain ⟨f,hf,rfl⟩:=List.mem_map.1 hg
        exact (ih f hf _ (h f hf)).1
      · rw [Fo.mayB_mk]
        simp only [Bool.and_eq_true,decide_eq_true_eq,List.all_eq_true,List.length_map]
        refine ⟨by omega,?_,trivial,h3,fun g hg=>?_⟩
        · split
          · rename_i hk3
            rcases Int.lt_or_eq_of_le hv.1 with h | h
            · exact .inr ⟨h,hk3⟩
            · exact .inl h.symm
          · exact .inl rfl
        · obtain ⟨f,hf,rfl⟩:=List.mem_map.1 hg
          have:=(ih f hf _ (h f hf)).2.1
          have hd:=h6 (fun e=>by subst e; cases hf)
          rwa [show ((d - 1:Nat):Int) + 1 = (d:Int) + 1 - 1 by omega] at this
      · rw [Fo.litsB_mk]
        simp only [Bool.and_eq_true,Bool.or_eq_true,decide_eq_true_eq,List.all_eq_true]
        refine ⟨?_,fun g' hg'=>?_⟩
        · by_cases hk3:k = 3
          · rw [if_pos hk3]; exact .inr (hg _ hv.1 hv.2)
          · exact .inl hk3
        · obtain ⟨f,hf,rfl⟩:=List.mem_map.1 hg'
          exact (ih f hf _ (h f hf)).2.2 g hg
theorem word0 {n:ByteArray} (h:n ∈ wordsL):0 < n.size ∧ n.size ≤ 3:=by
  simp only [wordsL,List.mem_cons,List.not_mem_nil,or_false] at h
  rcases h with rfl | rfl | rfl | rfl | rfl | rfl | rfl <;> decide
theorem ans42 {m:Int} (hm:i64R m):∀ (f:Fo) (d:Nat),MadeF d f → Ans Tryz.prog 42 [f.av,aI m] (f.litsF m).av:=by
  intro f
  induction f using Fo.ind with
  | h k n l ks ih =>
    intro d h S
    have hok:=h.ok
    cases h with
    | mk d _ _ _ h1 h2 h3 h4 h5 h6 hks =>
    have hkl:=kidsN_le k
    refine ACalls.tree (calls42 ?_)
    unfold m42
    rw [Fo.av,Fo.row_mk]
    refine boxA_of rfl fun S1 k1 n1 o1=>?_
    refine boxA_of rfl fun S2 k2 n2 o2=>?_
    have p2:=(k2.2 _ (by omega)).trans o1
    rw [shift_p,ld1_p p2 rfl rfl,bld_of (cs:=[aI k,.v (.string ⟨#[]⟩),aI 0,.nl]) rfl]
    refine boxA_of rfl fun S3 k3 n3 o3=>?_
    refine stA_of (cs':=[aI k,.v (.string ⟨#[]⟩),aI 0,.nl]) o3 rfl rfl fun S4 n4 o4 f4=>?_
    have k4:=k3.st (Nat.le_refl _) n4 f4
    have p4:=(k4.2 _ (by omega)).trans p2
    have r4:=(k4.2 _ (by omega)).trans o2
    have kk:=(k1.trans k2).trans k4
    have tail:∀ (T:Store) (v:Int),v = (if k = 3 then litV m n else 0) → Keep S T → S4.n ≤ T.n → T.obj S.n = some (.cells 24 [[aI k,.v (.string n),aI 0,foL ks]] true) → T.obj S1.n = some (.cells 24 [[.v (.int .i64 0),.v (.string ByteArray.empty),.v (.int .i64 0),.nl]] true) →
        T.obj S2.n = some (.cells 24 [[aI k,.v (.string ⟨#[]⟩),aI v,.nl]] true) →
        loopV lv42_0 (vc Tryz.prog (c42.at_ [1,1,1,0,1,0,0]) (ms42.drop 1)) 46 (env42_0 (aI m) (.p S.n 0 0) (.p S1.n 0 0) (.p S2.n 0 0) (.v (.int .i64 0))) T (blockK 0 (seqK (vc Tryz.prog (c42.at_ [1,1,1,1]) (ms42.drop 1)) (bodyK Tryz.prog r42 fun e S'=>∃ r,e = .ret r ∧ Keep S S' ∧ Cv (S'.frz (newer S.n)) S.n r (Fo.litsF m (.mk k n 0 ks)).av))):=by
      intro T v hv kT nT oa ob oc
      refine loop42_0 (fun y S'=>∃ (i:Nat) (z:AV),y = aI i ∧ i ≤ ks.length ∧ Keep S S' ∧ S4.n ≤ S'.n ∧ S'.obj S.n = some (.cells 24 [[aI k,.v (.string n),aI 0,foL ks]] true) ∧ S'.obj S1.n = some (.cells 24 [[.v (.int .i64 0),.v (.string ByteArray.empty),.v (.int .i64 0),.nl]] true) ∧
          S'.obj S2.n = some (.cells 24 [[aI k,.v (.string ⟨#[]⟩),aI v,z]] true) ∧ Own S4.n S' z 24 (((ks.take i).map (Fo.litsF m)).map Fo.row))
        (fun y _=>ks.length - ((intA y).getD 0).toNat) ⟨0,.nl,rfl,Nat.zero_le _,kT,nT,oa,ob,oc,.nl _ _ _⟩ ?_
      rintro _ S5 ⟨i,z,rfl,hi,k5,n5,oa,ob,oc,w5⟩ KE hKE
      unfold b42_0
      rw [shift_p,ld1_p oa rfl rfl,lenS_foL,bin_lss,onB_v]
      refine gd_of (fun hlt=>?_) (fun hge=>?_)
      · have hlt:i < ks.length:=by have:=of_decide_eq_true hlt; omega
        have hmem:=List.getElem_mem hlt
        refine L_shift ?_
        refine L_ldp oc (by omega) rfl rfl ?_
        refine L_shift ?_
        refine L_ldp oa (by omega) rfl rfl ?_
        refine ⟨_,fun T hT=>by rw [ixS_foL hlt]; exact ⟨rfl,rfl⟩,?_⟩
        refine L_ldNq (Fo.row_len _) ?_
        refine L_callA (ih _ hmem _ (hks _ hmem)) ?_
        refine ⟨.l [(Fo.litsF m ks[i]).row],fun T hT=>bslA4 (Fo.row_len _) ⟨rfl,rfl⟩,?_⟩
        refine w5.app (c:=(Fo.litsF m ks[i]).row) (by omega) (Fo.row_len _) (by simp; omega) (fun z' S6 w6 b6 hz=>?_) rfl
        obtain ⟨m6,hm6⟩:=hz
        have n6:=b6.1
        have old6:∀ x,x < S4.n → S6.obj x = S5.obj x:=fun x hx=>b6.2 x (by omega) (fun b m e=>by have:=w5.lt e; omega)
        refine L_shift ?_
        refine stF_of ((old6 _ (by omega)).trans oc) (by simp) (by rw [hm6]; rfl) fun S7 n7 o7 f7=>?_
        rw [bin_add (by omega) (by omega)]
        have old7:∀ x,x < S2.n → S7.obj x = S5.obj x:=fun x hx=>(f7 x (by omega)).trans (old6 x (by omega))
        refine hKE _ _ ⟨i + 1,z',rfl,hlt,⟨by have:=k5.1; omega,fun x hx=>(old7 x (by omega)).trans (k5.2 x hx)⟩,by omega,(old7 _ (by omega)).trans oa,(old7 _ (by omega)).trans ob,o7,?_⟩ (by simp [intA]; omega)
        rw [List.take_add_one,List.getElem?_eq_getElem hlt,List.map_append,List.map_append]
        exact w6.st (id:=S2.n) (fun b m e=>by rw [hm6] at e; injection e; omega) n7 f7
      · have hge:i = ks.length:=by have:=of_decide_eq_false hge; omega
        subst hge
        rw [ldN_p (n:=4) oc rfl]
        refine stA_of ob rfl rfl fun S6 n6 o6 f6=>?_
        rw [ldN_p (n:=4) o6 rfl]
        have w6:Own S4.n S6 z 24 _:=w5.st (id:=S1.n) (fun b m e=>by have:=w5.lt e; omega) n6 f6
        rw [List.take_length] at w6
        refine ⟨_,rfl,k5.st (by omega) n6 f6,?_⟩
        rw [Fo.litsF_mk,Fo.av,Fo.row_mk,← hv]
        refine .a _ _ rfl fun k u u2 e1 e2=>?_
        match k with
        | 0=>cases e1; cases e2; exact .v _
        | 1=>cases e1; cases e2; exact .v _
        | 2=>cases e1; cases e2; exact .v _
        | 3=>cases e1; cases e2; exact own_rows (fun r hr u hu=>by obtain ⟨f,_,rfl⟩:=List.mem_map.1 hr; exact Fo.tree f u hu) w6 (by omega)
        | k + 4=>simp at e1
    rw [shift_p,ld1_p p4 rfl rfl,bin_eql,onB_v]
    refine gd_of (fun hk3=>?_) (fun hk3=>?_)
    · have hk3:k = 3:=of_decide_eq_true hk3
      obtain ⟨hn0,hn3⟩:=word0 (h4 hk3)
      have hb:((n[0]!).toNat) ≤ 255:=by have:=(n[0]!).toNat_lt; omega
      have hne:(if 1 > m then 1 else m) ≠ 0:=by split <;> omega
      refine L_shift ?_
      refine L_ldp p4 (by omega) rfl rfl ?_
      refine ⟨_,fun T hT=>by rw [lenStr_b]; exact ⟨rfl,rfl⟩,?_⟩
      refine ⟨_,fun T hT=>by rw [bin_mul (by omega) (by omega)]; exact ⟨rfl,rfl⟩,?_⟩
      refine L_shift ?_
      refine L_ldp p4 (by omega) rfl rfl ?_
      refine ⟨_,fun T hT=>by rw [show ∀ K:AV → Store → Prop,ixStr (.v (.string n)) (.v (.int .i64 0)) T K = K (.v (.int .u8 (n[0]!).toNat)) T from fun K=>(ixStr_b (i:=0) hn0).trans (by rw [getElem!_pos n 0 hn0])]; exact ⟨rfl,rfl⟩,?_⟩
      refine ⟨_,fun T hT=>by rw [convI_64 _ (by omega) (by omega)]; exact ⟨rfl,rfl⟩,?_⟩
      refine ⟨_,fun T hT=>by rw [bin_add (by omega) (by omega)]; exact ⟨rfl,rfl⟩,?_⟩
      refine ⟨_,fun T hT=>by rw [mx_true]; exact ⟨rfl,rfl⟩,?_⟩
      refine ⟨_,fun T hT=>by rw [bin_rem hne]; exact ⟨rfl,rfl⟩,?_⟩
      refine L_shift ?_
      refine stF_of o4 (by simp) rfl fun S5 n5 o5 f5=>?_
      exact tail S5 _ (by rw [if_pos hk3]; rfl) (kk.st (by omega) n5 f5) (by omega) ((f5 _ (by omega)).trans p4) ((f5 _ (by omega)).trans r4) o5
    · have hk3:¬ k = 3:=of_decide_eq_false hk3
      exact tail S4 0 (by rw [if_neg hk3]) kk (Nat.le_refl _) p4 r4 o4
abbrev foQ (l:Int):Fo:=.mk 3 ⟨#[]⟩ l []
abbrev foOne (k:Int) (f:Fo):Fo:=.mk k ⟨#[]⟩ 0 [f]
abbrev foTwo (k:Int) (f g:Fo):Fo:=.mk k ⟨#[]⟩ 0 [f,g]
theorem bslA42 {e:Nat} {z1 z2 z3 z4:AV} {r r2:List AV} {S:Store} {K:AV → Store → Prop} (hr:r.length = 4) (hr2:r2.length = 4) (k:K (.l [r,r2]) S):bslN e 4 2 [z1,z2,z3,z4] [(0,.a r),(1,.a r2)] S K:=by
  match r,hr,r2,hr2 with
  | [u,v,w,x],_,[u2,v2,w2,x2],_ =>
    refine ⟨[u,v,w,x,u2,v2,w2,x2],?_,.inr ?_⟩
    · simp [fillA,cellsOf,spl,List.range_succ]
    · simpa [chunks,List.range_succ] using k
theorem Fo.tr (f:Fo):Tree f.av:=Tree.a fun u hu=>Fo.tree f u hu
structure ResV (v:Int) (f:Fo):Prop where
  ok:f.ok
  may:f.mayB 7 = true
  lits:∀ g:Gr,(∀ l:Int,0 ≤ l → l < 2 * v → g.lit l = true) → f.litsB g = true
theorem res16 {l:List Int} (hl:∀ x ∈ l,0 ≤ x ∧ x < 256) {v:Int} (hv:1 ≤ v) (hv2:v ≤ 1000000) {S:Store}:ACalls Tryz.prog 16 [aL aU8 l,aI (2 * v)] S (fun e S'=>∃ tr,e = .ret tr ∧ S' = S ∧ ∃ f:Fo,tr = f.av ∧ ResV v f):=by
  refine ACalls.treeE (calls16 ?_)
  unfold m16
  refine boxA_of rfl fun S1 k1 n1 o1=>?_
  refine .inl ((made34 hl).mono ?_)
  rintro e S' ⟨tr,rfl,rfl,f,rfl,hf⟩
  show callF _ _ _ _ _ _
  refine callF_ans (ans42 (m:=2 * v) ⟨by omega,by omega⟩ f 6 hf) ?_
  refine stA_of o1 (Fo.row_len _) rfl fun S3 n3 o3 f3=>?_
  rw [ldN_p (n:=4) o3 (Fo.row_len _)]
  obtain ⟨h1,h2,h3⟩:=litsF_ok (m:=2 * v) (by omega) f 6 hf
  exact ⟨_,_,rfl,k1.st (Nat.le_refl _) n3 f3,Fo.tr _ _ _,_,rfl,h1,h2,fun g hg=>h3 g fun l h0 hlt=>hg l h0 (by omega)⟩
theorem made_lit {c:Ci} (h:MadeC c):1 ≤ c.gr.vars ∧ c.gr.vars ≤ 100 ∧ ∀ l:Int,0 ≤ l → l < 2 * c.gr.vars → c.gr.lit l = true:=by
  obtain ⟨g1,g2,g3⟩:=gr_inp h.right
  have h1:=h.inp
  have h2:=h.lats
  have h3:=h.ands
  have hv:c.gr.vars = c.inputs + c.latches.length + 1 + c.ands.length:=by
    unfold Gr.vars
    rw [g1]
    show _ + 1 + (c.ands.length:Int) = _
    rfl
  refine ⟨by omega,by omega,fun l h0 hl=>lit_iff.2 ⟨g2,by omega,h0,by omega⟩⟩
theorem of23 {l m:List Int} (hl:∀ x ∈ l,0 ≤ x ∧ x < 65536) (hm:∀ x ∈ m,0 ≤ x ∧ x < 256) {S:Store}:ACalls Tryz.prog 23 [aL aW16 l,aL aU8 m] S (fun e S'=>∃ tr,e = .ret tr ∧ S' = S ∧ ∃ (c:Ci) (f:Fo),tr = .t [c.av,f.av] ∧ MadeC c ∧ c.gr.vars = varsL l ∧ ResV c.gr.vars f):=by
  refine ACalls.treeE (calls23 ?_)
  unfold m23
  refine boxA_of rfl fun S1 k1 n1 o1=>?_
  refine boxA_of rfl fun S2 k2 n2 o2=>?_
  have p2:=(k2.2 _ (by omega)).trans o1
  refine .inl ((made248 hl).mono ?_)
  rintro e S' ⟨tr,rfl,rfl,c,rfl,hc,hcv⟩
  show boxN _ _ _ _ _
  refine boxA_of rfl fun S3 k3 n3 o3=>?_
  refine stA_of (cs':=c.cells) o3 rfl rfl fun S4 n4 o4 f4=>?_
  have k4:=k3.st (Nat.le_refl _) n4 f4
  obtain ⟨v1,v2,v3⟩:=made_lit hc
  obtain ⟨g1,g2,g3⟩:=gr_inp hc.right
  have hi:=hc.inp
  have hla:=hc.lats
  refine L_ldN (n:=8) o4 (by omega) rfl ?_
  refine L_ldN (n:=8) o4 (by omega) rfl ?_
  refine L_callA (ans41 c) ?_
  refine L_callA (ans40 hc.ok.gr (by omega) (by omega)) ?_
  refine ⟨aI (2 * c.gr.vars),fun T hT=>by rw [bin_mul (by omega) (by omega)]; exact ⟨rfl,rfl⟩,?_⟩
  refine .inl ((res16 hm (v:=c.gr.vars) v1 (by omega)).mono ?_)
  rintro e S' ⟨tr,rfl,rfl,f,rfl,hf⟩
  refine ⟨fun T hT=>by rw [ldN_p (n:=8) ((hT.2 _ (by omega)).trans o4) rfl]; exact ⟨rfl,rfl⟩,?_⟩
  refine stA_of ((k4.2 _ (by omega)).trans p2) rfl rfl fun S5 n5 o5 f5=>?_
  refine stA_of ((f5 _ (by omega)).trans ((k4.2 _ (by omega)).trans o2)) (Fo.row_len _) rfl fun S6 n6 o6 f6=>?_
  rw [ldN_p (n:=8) ((f6 _ (by omega)).trans o5) rfl,ldN_p (n:=4) o6 (Fo.row_len _)]
  refine ⟨_,.t [c.av,f.av],rfl,(((k1.trans k2).trans k4).st (id:=S.n) (by omega) n5 f5).st (id:=S1.n) (by omega) n6 f6,cv_t2 ?_ (Fo.tr _ _ _),c,f,rfl,hc,hcv,hf⟩
  exact Tree.a (fun u hu=>by
    simp only [Ci.cells,List.mem_cons,List.not_mem_nil,or_false] at hu
    rcases hu with rfl | rfl | rfl | rfl | rfl | rfl | rfl | rfl
    · exact Tree.v _
    · exact treeP _
    · exact treeP _
    · exact treeI _
    · exact treeI _
    · exact treeI _
    · exact treeI _
    · exact treeN _) _ _
theorem ans75 (k:Int) (f:Fo):Ans Tryz.prog 75 [aI k,f.av] (foOne k f).av:=by
  intro S
  refine ACalls.tree (calls75 ?_)
  unfold m75
  refine boxA_of (Fo.row_len f) fun S1 k1 n1 o1=>?_
  refine boxA_of rfl fun S2 k2 n2 o2=>?_
  rw [ldN_p (n:=4) ((k2.2 _ (by omega)).trans o1) (Fo.row_len f)]
  refine bslA4 (Fo.row_len f) ?_
  rw [bld_of (cs:=(foOne k f).row) (by rw [Fo.row_mk]; rfl)]
  refine stA_of o2 (Fo.row_len _) rfl fun S3 n3 o3 f3=>?_
  rw [ldN_p (n:=4) o3 (Fo.row_len _)]
  exact ⟨_,rfl,(k1.trans k2).st (by omega) n3 f3,Fo.tr _ _ _⟩
theorem ans76 (k:Int) (f g:Fo):Ans Tryz.prog 76 [aI k,f.av,g.av] (foTwo k f g).av:=by
  intro S
  refine ACalls.tree (calls76 ?_)
  unfold m76
  refine boxA_of (Fo.row_len f) fun S1 k1 n1 o1=>?_
  refine boxA_of (Fo.row_len g) fun S2 k2 n2 o2=>?_
  refine boxA_of rfl fun S3 k3 n3 o3=>?_
  have kk:=(k1.trans k2).trans k3
  rw [ldN_p (n:=4) ((k3.2 _ (by omega)).trans ((k2.2 _ (by omega)).trans o1)) (Fo.row_len f),ldN_p (n:=4) ((k3.2 _ (by omega)).trans o2) (Fo.row_len g)]
  refine bslA42 (Fo.row_len f) (Fo.row_len g) ?_
  rw [bld_of (cs:=(foTwo k f g).row) (by rw [Fo.row_mk]; rfl)]
  refine stA_of o3 (Fo.row_len _) rfl fun S4 n4 o4 f4=>?_
  rw [ldN_p (n:=4) o4 (Fo.row_len _)]
  exact ⟨_,rfl,kk.st (by omega) n4 f4,Fo.tr _ _ _⟩
def dualK (k:Int):Int :=
  if k = 1 then 2 else if k = 2 then 1 else if k = 5 then 6 else if k = 6 then 5 else if k = 9 then 10 else if k = 10 then 9 else if k = 11 then 14 else if k = 14 then 11
  else if k = 13 then 12 else if k = 12 then 13 else if k = 15 then 18 else if k = 18 then 15 else if k = 17 then 16 else 17
theorem ans77 (k:Int):Ans Tryz.prog 77 [aI k] (aI (dualK k)):=by
  intro S
  refine ACalls.ans_v (calls77 ?_)
  unfold m77 dualK
  repeat (first
    | exact ⟨rfl,Keep.refl _⟩
    | (rw [bin_eql,onB_v]
       refine gd_of (fun h=>?_) (fun h=>?_)
       · have h:=of_decide_eq_true h
         subst h
         exact ⟨rfl,Keep.refl _⟩
       have h:=of_decide_eq_false h
       rw [if_neg h]))
abbrev fo0:Fo:=.mk 0 ⟨#[]⟩ 0 []
mutual
def Fo.push:Fo → Bool → Fo
  | .mk k n l ks,t =>
    if k = 3 then (if t then foOne 4 (.mk k n l ks) else .mk k n l ks)
    else if k = 4 then (Fo.pushs ks (!t)).getD 0 fo0
    else if k = 7 then (if t then foTwo 5 ((Fo.pushs ks false).getD 0 fo0) ((Fo.pushs ks true).getD 1 fo0) else foTwo 6 ((Fo.pushs ks true).getD 0 fo0) ((Fo.pushs ks false).getD 1 fo0))
    else if k = 8 then foTwo 6 (foTwo 5 ((Fo.pushs ks false).getD 0 fo0) ((Fo.pushs ks t).getD 1 fo0)) (foTwo 5 ((Fo.pushs ks true).getD 0 fo0) ((Fo.pushs ks (!t)).getD 1 fo0))
    else .mk (if t then dualK k else k) ⟨#[]⟩ 0 (Fo.pushs ks t)
def Fo.pushs:List Fo → Bool → List Fo
  | [],_=>[]
  | f :: fs,t=>Fo.push f t :: Fo.pushs fs t
end
theorem Fo.pushs_map (t:Bool):∀ l:List Fo,Fo.pushs l t = l.map fun f=>f.push t
  | []=>by rw [Fo.pushs]; rfl
  | f :: fs=>by rw [Fo.pushs,Fo.pushs_map t fs]; rfl
inductive Pu:Fo → Prop
  | c (k:Int) (hk:k = 1 ∨ k = 2):Pu (.mk k ⟨#[]⟩ 0 [])
  | a (l:Int) (h0:0 ≤ l) (hl:i64R l):Pu (.mk 3 ⟨#[]⟩ l [])
  | n (l:Int) (h0:0 ≤ l) (hl:i64R l):Pu (.mk 4 ⟨#[]⟩ 0 [.mk 3 ⟨#[]⟩ l []])
  | o (k:Int) (f:Fo) (hk:9 ≤ k ∧ k ≤ 14) (h:Pu f):Pu (.mk k ⟨#[]⟩ 0 [f])
  | t (k:Int) (f g:Fo) (hk:k = 5 ∨ k = 6 ∨ 15 ≤ k ∧ k ≤ 18) (h:Pu f) (h2:Pu g):Pu (.mk k ⟨#[]⟩ 0 [f,g])
theorem Pu.ok {f:Fo} (h:Pu f):f.ok:=by
  have z:i64R 0:=⟨by decide,by decide⟩
  have e:(⟨#[]⟩:ByteArray).size ≤ 9223372036854775807:=by decide
  induction h with
  | c k hk=>exact .mk _ _ _ _ ⟨by omega,by omega⟩ z e (by simp) (fun f hf=>by cases hf)
  | a l h0 hl=>exact .mk _ _ _ _ ⟨by omega,by omega⟩ hl e (by simp) (fun f hf=>by cases hf)
  | n l h0 hl=>exact .mk _ _ _ _ ⟨by omega,by omega⟩ z e (by simp) (fun f hf=>by
      rw [List.mem_singleton.1 hf]
      exact .mk _ _ _ _ ⟨by omega,by omega⟩ hl e (by simp) (fun f hf=>by cases hf))
  | o k f hk h ih=>exact .mk _ _ _ _ ⟨by omega,by omega⟩ z e (by simp) (fun g hg=>by rw [List.mem_singleton.1 hg]; exact ih)
  | t k f g hk h h2 ih ih2=>exact .mk _ _ _ _ ⟨by omega,by omega⟩ z e (by simp) (fun x hx=>by
      simp only [List.mem_cons,List.not_mem_nil,or_false] at hx
      rcases hx with rfl | rfl
      · exact ih
      · exact ih2)
theorem push_const {k:Int} {n:ByteArray} {l:Int} {t:Bool} (hk:k = 1 ∨ k = 2):Fo.push (.mk k n l []) t = .mk (if t then dualK k else k) ⟨#[]⟩ 0 []:=by
  rw [Fo.push,if_neg (by omega),if_neg (by omega),if_neg (by omega),if_neg (by omega),Fo.pushs]
theorem push_atom {n:ByteArray} {l:Int} {t:Bool}:Fo.push (.mk 3 n l []) t = if t then foOne 4 (.mk 3 n l []) else .mk 3 n l []:=by rw [Fo.push,if_pos rfl]
theorem push_not {n:ByteArray} {l:Int} {f:Fo} {t:Bool}:Fo.push (.mk 4 n l [f]) t = f.push (!t):=by
  rw [Fo.push,if_neg (by decide),if_pos rfl,Fo.pushs]; rfl
theorem push_imp {n:ByteArray} {l:Int} {f g:Fo} {t:Bool}:Fo.push (.mk 7 n l [f,g]) t = if t then foTwo 5 (f.push false) (g.push true) else foTwo 6 (f.push true) (g.push false):=by
  rw [Fo.push,if_neg (by decide),if_neg (by decide),if_pos rfl,Fo.pushs,Fo.pushs,Fo.pushs,Fo.pushs,Fo.pushs,Fo.pushs]; rfl
theorem push_same {n:ByteArray} {l:Int} {f g:Fo} {t:Bool}:Fo.push (.mk 8 n l [f,g]) t = foTwo 6 (foTwo 5 (f.push false) (g.push t)) (foTwo 5 (f.push true) (g.push (!t))):=by
  rw [Fo.push,if_neg (by decide),if_neg (by decide),if_neg (by decide),if_pos rfl]
  simp only [Fo.pushs_map,List.map_cons,List.map_nil]; rfl
theorem push_one {k:Int} {n:ByteArray} {l:Int} {f:Fo} {t:Bool} (hk:9 ≤ k ∧ k ≤ 14):Fo.push (.mk k n l [f]) t = .mk (if t then dualK k else k) ⟨#[]⟩ 0 [f.push t]:=by
  rw [Fo.push,if_neg (by omega),if_neg (by omega),if_neg (by omega),if_neg (by omega),Fo.pushs,Fo.pushs]
theorem push_two {k:Int} {n:ByteArray} {l:Int} {f g:Fo} {t:Bool} (hk:k = 5 ∨ k = 6 ∨ 15 ≤ k ∧ k ≤ 18):Fo.push (.mk k n l [f,g]) t = .mk (if t then dualK k else k) ⟨#[]⟩ 0 [f.push t,g.push t]:=by
  rw [Fo.push,if_neg (by omega),if_neg (by omega),if_neg (by omega),if_neg (by omega),Fo.pushs,Fo.pushs,Fo.pushs]
theorem dual_one {k:Int} (hk:9 ≤ k ∧ k ≤ 14):9 ≤ dualK k ∧ dualK k ≤ 14:=by
  have:k = 9 ∨ k = 10 ∨ k = 11 ∨ k = 12 ∨ k = 13 ∨ k = 14:=by omega
  rcases this with rfl | rfl | rfl | rfl | rfl | rfl <;> decide
theorem dual_two {k:Int} (hk:k = 5 ∨ k = 6 ∨ 15 ≤ k ∧ k ≤ 18):dualK k = 5 ∨ dualK k = 6 ∨ 15 ≤ dualK k ∧ dualK k ≤ 18:=by
  have:k = 5 ∨ k = 6 ∨ k = 15 ∨ k = 16 ∨ k = 17 ∨ k = 18:=by omega
  rcases this with rfl | rfl | rfl | rfl | rfl | rfl <;> decide
theorem push_pu:∀ (f:Fo),f.ok → ∀ {d:Int},f.mayB d = true → ∀ t,Pu (f.push t):=by
  intro f
  induction f using Fo.ind with
  | h k n l ks ih =>
    intro hok d hm t
    obtain ⟨o1,o2,o3,o4,o5⟩:=hok.inv
    obtain ⟨rfl,hd,h⟩:=may_cases hm
    rcases h with ⟨hk,rfl,rfl⟩ | ⟨rfl,rfl,h0⟩ | ⟨hk,rfl,f,rfl,hf⟩ | ⟨hk,rfl,f,g,rfl,hf,hg⟩
    · rw [push_const hk]
      refine .c _ ?_
      rcases hk with rfl | rfl <;> cases t <;> decide
    · rw [push_atom]
      cases t with
      | true=>exact .n _ h0 o2
      | false=>exact .a _ h0 o2
    · have hf':=fun t=>ih f (by simp) (o5 f (by simp)) hf t
      by_cases h4:k = 4
      · subst h4
        rw [push_not]
        exact hf' _
      · rw [push_one (by omega)]
        refine .o _ _ ?_ (hf' _)
        have:=dual_one (k:=k) (by omega)
        split <;> omega
    · have hf':=fun t=>ih f (by simp) (o5 f (by simp)) hf t
      have hg':=fun t=>ih g (by simp) (o5 g (by simp)) hg t
      by_cases h7:k = 7
      · subst h7
        rw [push_imp]
        cases t with
        | true=>exact .t _ _ _ (by decide) (hf' _) (hg' _)
        | false=>exact .t _ _ _ (by decide) (hf' _) (hg' _)
      by_cases h8:k = 8
      · subst h8
        rw [push_same]
        exact .t _ _ _ (by decide) (.t _ _ _ (by decide) (hf' _) (hg' _)) (.t _ _ _ (by decide) (hf' _) (hg' _))
      rw [push_two (by omega)]
      refine .t _ _ _ ?_ (hf' _) (hg' _)
      have:=dual_two (k:=k) (by omega)
      split <;> omega
def Tn.st:Tn → Int
  | .mk _ s _ _ _=>s
noncomputable def validS (c:Ci) (s:Int):Bool:=decide (0 ≤ s) && (decide (s < 2 ^ c.gr.inputs.toNat) && c.cons.all fun l=>isB c s l)
noncomputable def behindS (c:Ci) (s t:Int):Bool:=validS c s && (validS c t && decide ((afterB c s).fdiv (2 ^ min c.inputs.toNat 64) = t.fdiv (2 ^ min c.inputs.toNat 64)))
noncomputable def chainS (c:Ci) (ss:List Int):Bool:=(List.range (ss.length - 1)).all fun i=>behindS c (ss.getD i 0) (ss.getD (i + 1) 0)
noncomputable def metS (c:Ci) (ss:List Int):Bool:=c.fair.all fun l=>ss.any fun s=>isB c s l
abbrev fo2:Fo:=.mk 2 ⟨#[]⟩ 0 []
abbrev foG:Fo:=foOne 13 fo2
open Classical in
noncomputable def planA (c:Ci) (f:Fo) (tk s a:Int) (ss kst:List Int):(Int × Bool) ⊕ (List Fo × List Int) :=
  match f with
  | .mk k _ l fs =>
    if validS c s = false then .inl (0,false)
    else if k = 1 then .inl (0,false)
    else if k = 2 then .inl (0,decide (tk = 1 ∧ a = 0 ∧ ss = [] ∧ kst = []))
    else if k = 3 then .inl (0,decide (tk = 1 ∧ a = 0 ∧ ss = [] ∧ kst = []) && isB c s l)
    else if k = 4 then .inl (0,decide (tk = 1 ∧ a = 0 ∧ ss = [] ∧ kst = []) && !isB c s (fs.getD 0 fo0).lit)
    else if k = 5 then if tk = 2 ∧ a = 0 ∧ ss = [] then .inr (fs,[s,s]) else .inl (0,false)
    else if k = 6 then if tk = 3 ∧ 0 ≤ a ∧ a ≤ 1 ∧ ss = [] then .inr ([fs.getD a.toNat fo0],[s]) else .inl (0,false)
    else if k = 9 then if tk = 4 ∧ a = 0 ∧ ss = [] ∧ kst.length = 2 ∧ behindS c s (kst.getD 0 0) = true then .inr ([fs.getD 0 fo0,foG],[kst.getD 0 0,kst.getD 0 0]) else .inl (0,false)
    else if k = 11 ∨ k = 15 then if ss ≠ [] ∧ ss.getD 0 0 = s ∧ a = 0 ∧ tk = 5 ∧ chainS c ss = true then .inr (List.replicate (ss.length - 1) (if k = 11 then fo2 else fs.getD 0 fo0) ++ [fs.getD (if k = 11 then 0 else 1) fo0,foG],ss ++ [ss.getD (ss.length - 1) 0]) else .inl (0,false)
    else if k = 13 then if ss ≠ [] ∧ ss.getD 0 0 = s ∧ 0 ≤ a ∧ a < ss.length ∧ tk = 6 ∧ behindS c (ss.getD (ss.length - 1) 0) (ss.getD a.toNat 0) = true ∧ chainS c ss = true ∧ metS c (ss.drop a.toNat) = true then .inr (List.replicate ss.length (fs.getD 0 fo0),ss) else .inl (0,false)
    else if k = 17 then if tk = 3 ∧ 0 ≤ a ∧ a ≤ 1 ∧ ss = [] then .inr ([if a = 0 then foOne 13 (fs.getD 1 fo0) else foTwo 15 (fs.getD 1 fo0) (foTwo 5 (fs.getD 0 fo0) (fs.getD 1 fo0))],[s]) else .inl (0,false)
    else .inl (1,decide (tk = 7 ∧ a = 0 ∧ ss = [] ∧ kst = []))
mutual
noncomputable def Tn.acc (c:Ci):Tn → Fo → Int × Bool
  | .mk tk s a ss ks,f=>match planA c f tk s a ss (ks.map Tn.st) with
    | .inl r=>r
    | .inr (fs,sts)=>Tn.accs c ks fs sts 0
noncomputable def Tn.accs (c:Ci):List Tn → List Fo → List Int → Int → Int × Bool
  | [],fs,ss,n=>match fs,ss with
    | [],[]=>(n,true)
    | _,_=>(0,false)
  | t :: ts,fs,ss,n=>match fs,ss with
    | f :: fs,s :: ss=>if ((Tn.acc c t f).2 && decide (t.st = s)) = true then Tn.accs c ts fs ss (IntKind.i64.wrap (n + (Tn.acc c t f).1)) else (0,false)
    | _,_=>(0,false)
end
theorem accs_len (c:Ci):∀ (ts:List Tn) (fs:List Fo) (ss:List Int) (n:Int),¬ (fs.length = ts.length ∧ ss.length = ts.length) → Tn.accs c ts fs ss n = (0,false):=by
  intro ts
  induction ts with
  | nil =>
    intro fs ss n h
    cases fs <;> cases ss <;> first | (exact absurd ⟨rfl,rfl⟩ h) | (simp [Tn.accs])
  | cons t ts ih =>
    intro fs ss n h
    cases fs with
    | nil=>cases ss <;> simp [Tn.accs]
    | cons f fs =>
      cases ss with
      | nil=>simp [Tn.accs]
      | cons s ss =>
        rw [Tn.accs]
        split
        · exact ih fs ss _ (fun hq=>h (by simp [hq]))
        · rfl
theorem accs_cons {c:Ci} {t:Tn} {ts:List Tn} {f:Fo} {fs:List Fo} {s:Int} {ss:List Int} {n:Int}:Tn.accs c (t :: ts) (f :: fs) (s :: ss) n = if ((Tn.acc c t f).2 && decide (t.st = s)) = true then Tn.accs c ts fs ss (IntKind.i64.wrap (n + (Tn.acc c t f).1)) else (0,false):=by rw [Tn.accs]
theorem accs_nil {c:Ci} {n:Int}:Tn.accs c [] [] [] n = (n,true):=by rw [Tn.accs]
theorem wrap_wrap {a b:Int}:IntKind.i64.wrap (IntKind.i64.wrap a + b) = IntKind.i64.wrap (a + b):=by rw [IntKind.wrap_i64,IntKind.wrap_i64,IntKind.wrap_i64]; omega
theorem wrap_wrap' {a b:Int}:IntKind.i64.wrap (a + IntKind.i64.wrap b) = IntKind.i64.wrap (a + b):=by rw [Int.add_comm,wrap_wrap,Int.add_comm]
theorem accs_on (c:Ci):∀ (ts:List Tn) (fs:List Fo) (ss:List Int) (n m:Int),(Tn.accs c ts fs ss n).2 = (Tn.accs c ts fs ss m).2 ∧ ((Tn.accs c ts fs ss n).2 = true → IntKind.i64.wrap (m + (Tn.accs c ts fs ss n).1) = IntKind.i64.wrap (n + (Tn.accs c ts fs ss m).1)):=by
  intro ts
  induction ts with
  | nil =>
    intro fs ss n m
    cases fs <;> cases ss <;> first | (simp [Tn.accs]; done) | (simp [Tn.accs,Int.add_comm])
  | cons t ts ih =>
    intro fs ss n m
    cases fs with
    | nil=>cases ss <;> simp [Tn.accs]
    | cons f fs =>
      cases ss with
      | nil=>simp [Tn.accs]
      | cons s ss =>
        rw [accs_cons,accs_cons]
        split
        · obtain ⟨h1,h2⟩:=ih fs ss (IntKind.i64.wrap (n + (Tn.acc c t f).1)) (IntKind.i64.wrap (m + (Tn.acc c t f).1))
          refine ⟨h1,fun h=>?_⟩
          have h3:=h2 h
          rw [wrap_wrap,wrap_wrap] at h3
          generalize (Tn.accs c ts fs ss (IntKind.i64.wrap (n + (Tn.acc c t f).1))).1 = x at *
          generalize (Tn.accs c ts fs ss (IntKind.i64.wrap (m + (Tn.acc c t f).1))).1 = y at *
          generalize (Tn.acc c t f).1 = z at *
          rw [IntKind.wrap_i64,IntKind.wrap_i64] at h3 ⊢
          omega
        · exact ⟨rfl,fun h=>by cases h⟩
theorem ixF0 {e:Nat} {f:Fo} {l:List Fo} {S:Store} {K:AV → Store → Prop}:ixS e 4 (foL (f :: l)) (.v (.int .i64 0)) S K = K (.q f.row 0) S:=ixS_foL (i:=0) (by simp)
theorem ixF1 {e:Nat} {f g:Fo} {l:List Fo} {S:Store} {K:AV → Store → Prop}:ixS e 4 (foL (f :: g :: l)) (.v (.int .i64 1)) S K = K (.q g.row 0) S:=ixS_foL (i:=1) (by simp)
theorem LJ_F0 {e:Nat} {f:Fo} {l:List Fo} {S0:Store} {P:AV → Prop}:(∃ q,(∀ T,Keep S0 T → ixS e 4 (foL (f :: l)) (.v (.int .i64 0)) T fun v S=>v = q ∧ S = T) ∧ P q) = P (.q f.row 0):=LJ_of (op:=fun T K=>ixS e 4 (foL (f :: l)) (.v (.int .i64 0)) T K) fun T hT K=>ixF0
theorem LJ_F1 {e:Nat} {f g:Fo} {l:List Fo} {S0:Store} {P:AV → Prop}:(∃ q,(∀ T,Keep S0 T → ixS e 4 (foL (f :: g :: l)) (.v (.int .i64 1)) T fun v S=>v = q ∧ S = T) ∧ P q) = P (.q g.row 0):=LJ_of (op:=fun T K=>ixS e 4 (foL (f :: g :: l)) (.v (.int .i64 1)) T K) fun T hT K=>ixF1
theorem LJ_Fi {e i:Nat} {l:List Fo} (h:i < l.length) {S0:Store} {P:AV → Prop}:(∃ q,(∀ T,Keep S0 T → ixS e 4 (foL l) (aI i) T fun v S=>v = q ∧ S = T) ∧ P q) = P (.q l[i].row 0):=LJ_of (op:=fun T K=>ixS e 4 (foL l) (aI i) T K) fun T hT K=>ixS_foL h
theorem LJ_bsl4 {e:Nat} {z1 z2 z3 z4:AV} {r:List AV} (hr:r.length = 4) {S0:Store} {P:AV → Prop} (k:P (.l [r])):∃ q,(∀ T,Keep S0 T → bslN e 4 1 [z1,z2,z3,z4] [(0,.a r)] T fun v S=>v = q ∧ S = T) ∧ P q:=⟨_,fun T hT=>bslA4 hr ⟨rfl,rfl⟩,k⟩
abbrev fo0r:List AV:=[.v (.int .i64 0),.v (.string ByteArray.empty),.v (.int .i64 0),.nl]
theorem ref20push_loop {ks:List Fo} {k k2 l:Int} {n:ByteArray} {t:Bool} (hl:ks.length ≤ 1000000) (hf:∀ f ∈ ks,Ans Tryz.prog 47 [f.av,aB t] (f.push t).av) {S S4:Store} {o:Nat} {Q:AEnd → Store → Prop} (kk:Keep S S4) (h0:S.n < S4.n)
    (ho:S.n + 1 < o) (ho2:o < S4.n) (oa:S4.obj S.n = some (.cells 24 [[aI k,.v (.string n),aI l,foL ks]] true)) (ob:S4.obj (S.n + 1) = some (.cells 24 [fo0r] true)) (oc:S4.obj o = some (.cells 24 [[aI k2,.v (.string ⟨#[]⟩),aI 0,.nl]] true))
    (hQ:∀ (r:AV) (T:Store),Keep S T → Cv (T.frz (newer S.n)) S.n r (Fo.mk k2 ⟨#[]⟩ 0 (Fo.pushs ks t)).av → Q (.ret r) T) :
    loopV lv47_0 (vc Tryz.prog (c47.at_ [1,1,1,1,0,1,0,0]) (ms47.drop 1)) 109 (env47_0 (aB t) (.p S.n 0 0) (.p (S.n + 1) 0 0) (.p o 0 0) (.v (.int .i64 0))) S4 (blockK 1 (seqK (vc Tryz.prog (c47.at_ [1,1,1,1,1]) (ms47.drop 1)) (bodyK Tryz.prog r47 Q))):=by
  refine loop47_0 (fun y S'=>∃ (i:Nat) (z:AV),y = aI i ∧ i ≤ ks.length ∧ Keep S S' ∧ S4.n ≤ S'.n ∧ S'.obj S.n = some (.cells 24 [[aI k,.v (.string n),aI l,foL ks]] true) ∧ S'.obj (S.n + 1) = some (.cells 24 [fo0r] true) ∧
      S'.obj o = some (.cells 24 [[aI k2,.v (.string ⟨#[]⟩),aI 0,z]] true) ∧ Own S4.n S' z 24 (((ks.take i).map fun f=>f.push t).map Fo.row))
    (fun y _=>ks.length - ((intA y).getD 0).toNat) ⟨0,.nl,rfl,Nat.zero_le _,kk,Nat.le_refl _,oa,ob,oc,.nl _ _ _⟩ ?_
  rintro _ S5 ⟨i,z,rfl,hi,k5,n5,oa,ob,oc,w5⟩ KE hKE
  unfold b47_0
  rw [shift_p,ld1_p oa rfl rfl,lenS_foL,bin_lss,onB_v]
  refine gd_of (fun hlt=>?_) (fun hge=>?_)
  · have hlt:i < ks.length:=by have:=of_decide_eq_true hlt; omega
    have hmem:=List.getElem_mem hlt
    (repeat (first | with_reducible_and_instances (first | refine WJ ?_ | refine W (LJ_ldp oc (by omega) (by with_unfolding_all rfl) (by with_unfolding_all rfl)) ?_ | refine W (LJ_ldp oa (by omega) (by with_unfolding_all rfl) (by with_unfolding_all rfl)) ?_ | refine W (LJ_Fi hlt) ?_ | refine W (LJ_ldNq (Fo.row_len _)) ?_ | refine W (J_ldq (by with_unfolding_all rfl)) ?_) | refine J_cA (hf _ hmem) rfl rfl ?_ | refine C_A (hf _ hmem) rfl rfl ?_ | refine L_cA (hf _ hmem) rfl rfl ?_))
    refine LJ_bsl4 (Fo.row_len _) ?_
    refine w5.app (c:=(ks[i].push t).row) (by omega) (Fo.row_len _) (by simp; omega) (fun z' S6 w6 b6 hz=>?_) rfl
    obtain ⟨m6,hm6⟩:=hz
    have n6:=b6.1
    have old6:∀ x,x < S4.n → S6.obj x = S5.obj x:=fun x hx=>b6.2 x (by omega) (fun b m e=>by have:=w5.lt e; omega)
    refine L_shift ?_
    refine stF_of ((old6 _ (by omega)).trans oc) (by simp) (by rw [hm6]; rfl) fun S7 n7 o7 f7=>?_
    rw [bin_add (by omega) (by omega)]
    have old7:∀ x,x < o → S7.obj x = S5.obj x:=fun x hx=>(f7 x (by omega)).trans (old6 x (by omega))
    refine hKE _ _ ⟨i + 1,z',rfl,hlt,⟨by have:=k5.1; omega,fun x hx=>(old7 x (by omega)).trans (k5.2 x hx)⟩,by omega,(old7 _ (by omega)).trans oa,(old7 _ (by omega)).trans ob,o7,?_⟩ (by simp [intA]; omega)
    rw [List.take_add_one,List.getElem?_eq_getElem hlt,List.map_append,List.map_append]
    exact w6.st (id:=o) (fun b m e=>by rw [hm6] at e; injection e; omega) n7 f7
  · have hge:i = ks.length:=by have:=of_decide_eq_false hge; omega
    subst hge
    rw [ldN_p (n:=4) oc rfl]
    refine stA_of ob rfl rfl fun S6 n6 o6 f6=>?_
    rw [ldN_p (n:=4) o6 rfl]
    have w6:Own S4.n S6 z 24 _:=w5.st (id:=S.n + 1) (fun b m e=>by have:=w5.lt e; omega) n6 f6
    rw [List.take_length] at w6
    refine hQ _ _ (k5.st (by omega) n6 f6) ?_
    rw [Fo.av,Fo.row_mk,Fo.pushs_map]
    refine .a _ _ rfl fun k u u2 e1 e2=>?_
    match k with
    | 0=>cases e1; cases e2; exact .v _
    | 1=>cases e1; cases e2; exact .v _
    | 2=>cases e1; cases e2; exact .v _
    | 3=>cases e1; cases e2; exact own_rows (fun r hr u hu=>by obtain ⟨f,_,rfl⟩:=List.mem_map.1 hr; exact Fo.tree f u hu) w6 (by omega)
    | k + 4=>simp at e1
theorem ans47:∀ (f:Fo),f.ok → ∀ {d:Int},f.mayB d = true → ∀ t,Ans Tryz.prog 47 [f.av,aB t] (f.push t).av:=by
  intro f
  induction f using Fo.ind with
  | h k n l ks ih =>
    intro hok d hm t S
    obtain ⟨h1,h2,h3,h4,h5⟩:=hok.inv
    have hf:∀ f ∈ ks,∀ d,f.mayB d = true → ∀ t,Ans Tryz.prog 47 [f.av,aB t] (f.push t).av:=fun f hf d hd t=>ih f hf (h5 f hf) hd t
    have hall:∀ f ∈ ks,f.mayB (d - 1) = true:=fun f hf=>by
      rw [Fo.mayB_mk] at hm
      simp only [Bool.and_eq_true,List.all_eq_true] at hm
      exact hm.2.2.2.2 f hf
    refine ACalls.tree (calls47 ?_)
    unfold m47
    rw [Fo.av,Fo.row_mk]
    refine boxA_of rfl fun S1 k1 n1 o1=>?_
    refine boxA_of rfl fun S2 k2 n2 o2=>?_
    have p2:=(k2.2 _ (by omega)).trans o1
    have kk:=k1.trans k2
    rw [n1] at o2
    rw [n1]
    rw [shift_p,ld1_p p2 rfl rfl]
    have fin:∀ (g:Fo) (T:Store),Keep S T → T.obj (S.n + 1) = some (.cells 24 [fo0r] true) → g = Fo.push (.mk k n l ks) t → stN 4 (.p (S.n + 1) 0 0) g.av T (fun _ T2=>ldN 4 (.p (S.n + 1) 0 0) T2 fun v S'=>∃ r,AEnd.ret v = .ret r ∧ Keep S S' ∧ Cv (S'.frz (newer S.n)) S.n r (Fo.push (.mk k n l ks) t).av):=by
      intro g T hT ho hg
      rw [Fo.av]
      refine stA_of ho (Fo.row_len g) rfl fun T1 n1 o1 f1=>?_
      rw [ldN_p (n:=4) o1 (Fo.row_len g)]
      exact ⟨_,rfl,hT.st (by omega) n1 f1,by rw [← hg]; exact Fo.tr g _ _⟩
    have dflt:∀ (T:Store) (o:Nat) (k2:Int),Keep S T → S.n + 1 < o → o < T.n → T.obj S.n = some (.cells 24 [[aI k,.v (.string n),aI l,foL ks]] true) → T.obj (S.n + 1) = some (.cells 24 [fo0r] true) → T.obj o = some (.cells 24 [[aI k2,.v (.string ⟨#[]⟩),aI 0,.nl]] true) →
        Fo.push (.mk k n l ks) t = .mk k2 ⟨#[]⟩ 0 (Fo.pushs ks t) →
        loopV lv47_0 (vc Tryz.prog (c47.at_ [1,1,1,1,0,1,0,0]) (ms47.drop 1)) 109 (env47_0 (aB t) (.p S.n 0 0) (.p (S.n + 1) 0 0) (.p o 0 0) (.v (.int .i64 0))) T (blockK 1 (seqK (vc Tryz.prog (c47.at_ [1,1,1,1,1]) (ms47.drop 1)) (bodyK Tryz.prog r47 fun e S'=>∃ r,e = .ret r ∧ Keep S S' ∧ Cv (S'.frz (newer S.n)) S.n r (Fo.push (.mk k n l ks) t).av))):=fun T o k2 hT ho ho2 oa ob oc he =>
      ref20push_loop h4 (fun f hf'=>hf f hf' _ (hall f hf') t) hT (by omega) ho ho2 oa ob oc fun r T' hT' hr=>⟨r,rfl,hT',by rw [he]; exact hr⟩
    have rest:¬ k = 3 → ¬ k = 4 → ¬ k = 7 → ¬ k = 8 → bld [(0,1),(1,1),(2,1),(3,1)] fo0r [(0,aI k)] S2 fun v135 T=>boxN 24 4 (.a fo0r) T fun v136 T=>stN 4 v136 v135 T fun _ T=>gd t (shift (.p S.n 0 0) 0 T fun v139 T=>ld1 v139 T fun v140 T=>callF Tryz.prog 77 [v140] T (fun e S'=>∃ r,e = .ret r ∧ Keep S S' ∧ Cv (S'.frz (newer S.n)) S.n r (Fo.push (.mk k n l ks) t).av) fun v141 T=>shift v136 0 T fun v142 T=>stN 1 v142 v141 T fun _ T =>
        loopV lv47_0 (vc Tryz.prog (c47.at_ [1,1,1,1,0,1,0,0]) (ms47.drop 1)) 109 (env47_0 (aB t) (.p S.n 0 0) (.p (S.n + 1) 0 0) v136 (.v (.int .i64 0))) T (blockK 1 (seqK (vc Tryz.prog (c47.at_ [1,1,1,1,1]) (ms47.drop 1)) (bodyK Tryz.prog r47 fun e S'=>∃ r,e = .ret r ∧ Keep S S' ∧ Cv (S'.frz (newer S.n)) S.n r (Fo.push (.mk k n l ks) t).av))))
        (loopV lv47_0 (vc Tryz.prog (c47.at_ [1,1,1,1,0,1,0,0]) (ms47.drop 1)) 109 (env47_0 (aB t) (.p S.n 0 0) (.p (S.n + 1) 0 0) v136 (.v (.int .i64 0))) T (blockK 1 (seqK (vc Tryz.prog (c47.at_ [1,1,1,1,1]) (ms47.drop 1)) (bodyK Tryz.prog r47 fun e S'=>∃ r,e = .ret r ∧ Keep S S' ∧ Cv (S'.frz (newer S.n)) S.n r (Fo.push (.mk k n l ks) t).av)))):=by
      intro h3 h4' h7 h8
      have he:Fo.push (.mk k n l ks) t = .mk (if t then dualK k else k) ⟨#[]⟩ 0 (Fo.pushs ks t):=by rw [Fo.push,if_neg h3,if_neg h4',if_neg h7,if_neg h8]
      rw [bld_of (cs:=[aI k,.v (.string ⟨#[]⟩),aI 0,.nl]) rfl]
      refine boxA_of rfl fun S3 k3 n3 o3=>?_
      refine stA_of (cs':=[aI k,.v (.string ⟨#[]⟩),aI 0,.nl]) o3 rfl rfl fun S4 n4 o4 f4=>?_
      have k4:=k3.st (Nat.le_refl _) n4 f4
      have p4:=(k4.2 _ (by omega)).trans p2
      have r4:=(k4.2 _ (by omega)).trans o2
      refine gd_of (fun ht=>?_) (fun ht=>?_)
      · subst ht
        rw [shift_p,ld1_p p4 rfl rfl]
        refine callF_ans (ans77 k) ?_
        rw [shift_p]
        refine stF_of o4 (by simp) rfl fun S5 n5 o5 f5=>?_
        exact dflt S5 S2.n (dualK k) ((kk.trans k4).st (by omega) n5 f5) (by omega) (by omega) ((f5 _ (by omega)).trans p4) ((f5 _ (by omega)).trans r4) o5 he
      · subst ht
        exact dflt S4 S2.n k (kk.trans k4) (by omega) (by omega) p4 r4 o4 he
    obtain ⟨rfl,hd,hc⟩:=may_cases hm
    rcases hc with ⟨hk,rfl,rfl⟩ | ⟨rfl,rfl,h0⟩ | ⟨hk,rfl,f,rfl,hfm⟩ | ⟨hk,rfl,f,g,rfl,hfm,hgm⟩
    · repeat (refine tno (by omega) ?_)
      rw [shift_p,ld1_p p2 rfl rfl]
      exact rest (by omega) (by omega) (by omega) (by omega)
    · refine tyes rfl ?_
      rw [onB_v]
      refine gd_of (fun ht=>?_) (fun ht=>?_)
      · subst ht
        rw [ldN_p (n:=4) p2 rfl]
        refine C_A (ans75 4 (.mk 3 ⟨#[]⟩ l [])) rfl (by rw [Fo.av,Fo.row_mk]) ?_
        exact fin (foOne 4 (.mk 3 ⟨#[]⟩ l [])) _ kk o2 (by rw [push_atom]; rfl)
      · subst ht
        rw [ldN_p (n:=4) p2 rfl]
        have:=fin (.mk 3 ⟨#[]⟩ l []) _ kk o2 (by rw [push_atom]; rfl)
        rw [Fo.av,Fo.row_mk] at this
        exact this
    · have cf:=fun t=>hf f (by simp) _ hfm t
      by_cases h4:k = 4
      · subst h4
        refine tno (by decide) (tyes rfl ?_)
        rw [shift_p,ld1_p p2 rfl rfl,ixF0,ldN_q (Fo.row_len f),un_not]
        refine callF_ans (cf _) ?_
        exact fin _ _ kk o2 push_not.symm
      · repeat (refine tno (by omega) ?_)
        rw [shift_p,ld1_p p2 rfl rfl]
        exact rest (by omega) (by omega) (by omega) (by omega)
    · have cf:=fun t=>hf f (by simp) _ hfm t
      have cg:=fun t=>hf g (by simp) _ hgm t
      by_cases h7:k = 7
      · subst h7
        refine tno (by decide) (tno (by decide) (tyes rfl ?_))
        rw [onB_v]
        refine gd_of (fun ht=>?_) (fun ht=>?_)
        · subst ht
          (repeat (first | with_reducible_and_instances (first | refine WJ ?_ | refine W (LJ_ldp p2 (by omega) (by with_unfolding_all rfl) (by with_unfolding_all rfl)) ?_ | refine W (LJ_F0) ?_ | refine W (LJ_F1) ?_ | refine W (LJ_ldNq (Fo.row_len _)) ?_ | refine W (J_ldq (by with_unfolding_all rfl)) ?_) | refine J_cA (cf false) rfl rfl ?_ | refine C_A (cf false) rfl rfl ?_ | refine L_cA (cf false) rfl rfl ?_ | refine J_cA (cg true) rfl rfl ?_ | refine C_A (cg true) rfl rfl ?_ | refine L_cA (cg true) rfl rfl ?_ | refine J_cA (ans76 5 _ _) rfl rfl ?_ | refine C_A (ans76 5 _ _) rfl rfl ?_ | refine L_cA (ans76 5 _ _) rfl rfl ?_))
          exact fin (foTwo 5 (f.push false) (g.push true)) _ kk o2 (by rw [push_imp]; rfl)
        · subst ht
          (repeat (first | with_reducible_and_instances (first | refine WJ ?_ | refine W (LJ_ldp p2 (by omega) (by with_unfolding_all rfl) (by with_unfolding_all rfl)) ?_ | refine W (LJ_F0) ?_ | refine W (LJ_F1) ?_ | refine W (LJ_ldNq (Fo.row_len _)) ?_ | refine W (J_ldq (by with_unfolding_all rfl)) ?_) | refine J_cA (cf true) rfl rfl ?_ | refine C_A (cf true) rfl rfl ?_ | refine L_cA (cf true) rfl rfl ?_ | refine J_cA (cg false) rfl rfl ?_ | refine C_A (cg false) rfl rfl ?_ | refine L_cA (cg false) rfl rfl ?_ | refine J_cA (ans76 6 _ _) rfl rfl ?_ | refine C_A (ans76 6 _ _) rfl rfl ?_ | refine L_cA (ans76 6 _ _) rfl rfl ?_))
          exact fin (foTwo 6 (f.push true) (g.push false)) _ kk o2 (by rw [push_imp]; rfl)
      by_cases h8:k = 8
      · subst h8
        refine tno (by decide) (tno (by decide) (tno (by decide) (tyes rfl ?_)))
        (repeat (first | with_reducible_and_instances (first | refine WJ ?_ | refine W (LJ_ldp p2 (by omega) (by with_unfolding_all rfl) (by with_unfolding_all rfl)) ?_ | refine W (LJ_F0) ?_ | refine W (LJ_F1) ?_ | refine W (LJ_ldNq (Fo.row_len _)) ?_ | refine W (J_ldq (by with_unfolding_all rfl)) ?_) | refine J_cA (cf false) rfl rfl ?_ | refine C_A (cf false) rfl rfl ?_ | refine L_cA (cf false) rfl rfl ?_ | refine J_cA (cg t) rfl rfl ?_ | refine C_A (cg t) rfl rfl ?_ | refine L_cA (cg t) rfl rfl ?_ | refine J_cA (ans76 5 (f.push false) (g.push t)) rfl rfl ?_ | refine C_A (ans76 5 (f.push false) (g.push t)) rfl rfl ?_ | refine L_cA (ans76 5 (f.push false) (g.push t)) rfl rfl ?_))
        refine boxA_of rfl fun S3 k3 n3 o3=>?_
        refine stA_of (cs':=(foTwo 5 (f.push false) (g.push t)).row) o3 (Fo.row_len _) rfl fun S4 n4 o4 f4=>?_
        have k4:=k3.st (Nat.le_refl _) n4 f4
        have p4:=(k4.2 _ (by omega)).trans p2
        have r4:=(k4.2 _ (by omega)).trans o2
        (repeat (first | with_reducible_and_instances (first | refine WJ ?_ | refine W (LJ_ldp p4 (by omega) (by with_unfolding_all rfl) (by with_unfolding_all rfl)) ?_ | refine W (LJ_F0) ?_ | refine W (LJ_F1) ?_ | refine W (LJ_ldNq (Fo.row_len _)) ?_ | refine W (J_ldq (by with_unfolding_all rfl)) ?_) | refine J_cA (cf true) rfl rfl ?_ | refine C_A (cf true) rfl rfl ?_ | refine L_cA (cf true) rfl rfl ?_ | refine J_cA (cg (!t)) rfl rfl ?_ | refine C_A (cg (!t)) rfl rfl ?_ | refine L_cA (cg (!t)) rfl rfl ?_ | refine J_cA (ans76 5 (f.push true) (g.push (!t))) rfl rfl ?_ | refine C_A (ans76 5 (f.push true) (g.push (!t))) rfl rfl ?_ | refine L_cA (ans76 5 (f.push true) (g.push (!t))) rfl rfl ?_))
        refine boxA_of rfl fun S5 k5 n5 o5=>?_
        refine stA_of (cs':=(foTwo 5 (f.push true) (g.push (!t))).row) o5 (Fo.row_len _) rfl fun S6 n6 o6 f6=>?_
        have k6:=k5.st (Nat.le_refl _) n6 f6
        rw [ldN_p (n:=4) ((k6.2 _ (by omega)).trans o4) (Fo.row_len _),ldN_p (n:=4) o6 (Fo.row_len _)]
        refine callF_ans (ans76 6 (foTwo 5 (f.push false) (g.push t)) (foTwo 5 (f.push true) (g.push (!t)))) ?_
        exact fin _ _ ((kk.trans k4).trans k6) ((k6.2 _ (by omega)).trans r4) push_same.symm
      · repeat (refine tno (by omega) ?_)
        rw [shift_p,ld1_p p2 rfl rfl]
        exact rest (by omega) (by omega) (by omega) (by omega)
theorem ans74 (k:Int) (l:List Fo):Ans Tryz.prog 74 [aI k,foL l] (Fo.av (.mk k ⟨#[]⟩ 0 l)):=by
  intro S
  refine ACalls.tree (calls74 ?_)
  unfold m74
  refine boxA_of rfl fun S1 k1 n1 o1=>?_
  rw [bld_of (cs:=Fo.row (.mk k ⟨#[]⟩ 0 l)) (by rw [Fo.row_mk]; rfl)]
  refine stA_of o1 (Fo.row_len _) rfl fun S2 n2 o2 f2=>?_
  rw [ldN_p (n:=4) o2 (Fo.row_len _)]
  exact ⟨_,rfl,k1.st (Nat.le_refl _) n2 f2,Fo.tr _ _ _⟩
def dualP:List (Int × Int):=[(1,2),(5,6),(9,10),(11,14),(13,12),(15,18),(17,16)]
def dualE (n:Nat):List (Key × AV):=(dualP.take n).flatMap fun p=>[(.i p.1,aI p.2),(.i p.2,aI p.1)]
abbrev dualM:AV:=.mt (.i .i64) (dualE 7)
def dualA:List AV:=[aI 1,aI 2,aI 5,aI 6,aI 9,aI 10,aI 11,aI 14,aI 13,aI 12,aI 15,aI 18,aI 17,aI 16]
theorem dual_step {i:Nat} (h:i < 7):∃ a b:Int,partA true 2 (i * 2) dualA = some (.a [aI a,aI b]) ∧ insM (insM (dualE i) (.i a) (aI b)) (.i b) (aI a) = dualE (i + 1):=by
  match i,h with
  | 0,_=>exact ⟨1,2,rfl,rfl⟩
  | 1,_=>exact ⟨5,6,rfl,rfl⟩
  | 2,_=>exact ⟨9,10,rfl,rfl⟩
  | 3,_=>exact ⟨11,14,rfl,rfl⟩
  | 4,_=>exact ⟨13,12,rfl,rfl⟩
  | 5,_=>exact ⟨15,18,rfl,rfl⟩
  | 6,_=>exact ⟨17,16,rfl,rfl⟩
theorem dual_lk {k:Int} (h:k = 1 ∨ k = 2 ∨ k = 5 ∨ k = 6 ∨ 9 ≤ k ∧ k ≤ 18):lkV (aI 0) false (lkp (dualE 7) (.i k)) = aI (dualK k):=by
  have:k = 1 ∨ k = 2 ∨ k = 5 ∨ k = 6 ∨ k = 9 ∨ k = 10 ∨ k = 11 ∨ k = 12 ∨ k = 13 ∨ k = 14 ∨ k = 15 ∨ k = 16 ∨ k = 17 ∨ k = 18:=by omega
  rcases this with rfl | rfl | rfl | rfl | rfl | rfl | rfl | rfl | rfl | rfl | rfl | rfl | rfl | rfl <;> rfl
theorem LJ_ixA {n sz id z:Nat} (hz:z < n) {S0:Store} {P:AV → Prop}:(∃ q,(∀ T,Keep S0 T → ixA n sz (.p id 0 0) (aI z) T fun v S=>v = q ∧ S = T) ∧ P q) = P (.p id 0 (z * sz)):=LJ_of (op:=fun T K=>ixA n sz (.p id 0 0) (aI z) T K) fun T hT K=>ixA_p hz
theorem ans45:Ans Tryz.prog 45 [] dualM:=by
  intro S
  refine ACalls.tree (calls45 ?_)
  unfold m45
  unfold mkM
  dsimp only
  rw [bld_of (cs:=[aI 1,aI 2]) rfl,bld_of (cs:=[aI 5,aI 6]) rfl,bld_of (cs:=[aI 9,aI 10]) rfl,bld_of (cs:=[aI 11,aI 14]) rfl,bld_of (cs:=[aI 13,aI 12]) rfl,bld_of (cs:=[aI 15,aI 18]) rfl,bld_of (cs:=[aI 17,aI 16]) rfl,bld_of (cs:=dualA) rfl]
  refine loop45_0 (fun y S'=>Keep S S' ∧ S.n < S'.n ∧ ∃ i:Nat,y = aI i ∧ i ≤ 7 ∧ S'.obj S.n = some (.map (.i .i64) (dualE i) true)) (fun y _=>7 - ((intA y).getD 0).toNat) ⟨(Keep.refl S).new _,by simp,0,rfl,by omega,new_self _⟩ ?_
  rintro _ S3 ⟨k3,n3,i,rfl,hi,m3⟩ KE hKE
  unfold b45_0
  rw [bin_lss,onB_v]
  refine gd_of (fun hlt=>?_) (fun hge=>?_)
  · have hlt:i < 7:=by have:=of_decide_eq_true hlt; omega
    obtain ⟨a,b,hp,hs⟩:=dual_step hlt
    refine ⟨i,rfl,⟨by omega,by omega⟩,?_⟩
    refine ⟨.a [aI a,aI b],by rw [Int.toNat_natCast]; exact hp,?_⟩
    refine boxA_of rfl fun S4 k4 n4 o4=>?_
    refine stA_of (cs':=[aI a,aI b]) o4 rfl rfl fun S5 n5 o5 f5=>?_
    have k5:=k4.st (Nat.le_refl _) n5 f5
    have m5:=(k5.2 _ n3).trans m3
    have r0:∀ {P:AV → Prop},(∃ q,(∀ T,Keep S5 T → ixA 2 1 (.p S3.n 0 0) (.v (.int .i64 0)) T fun v S=>v = q ∧ S = T) ∧ P q) = P (.p S3.n 0 0):=LJ_ixA (z:=0) (by omega)
    have r1:∀ {P:AV → Prop},(∃ q,(∀ T,Keep S5 T → ixA 2 1 (.p S3.n 0 0) (.v (.int .i64 1)) T fun v S=>v = q ∧ S = T) ∧ P q) = P (.p S3.n 0 1):=LJ_ixA (z:=1) (by omega)
    rw [r0,LJ_ldp o5 (by omega) rfl rfl,r1,LJ_ldp o5 (by omega) rfl rfl,r1,LJ_ldp o5 (by omega) rfl rfl,r0,LJ_ldp o5 (by omega) rfl rfl]
    rw [updM_m m5 (keyI _ _)]
    have o6:(Store.upd S5 S.n (.map (.i .i64) (insM (dualE i) (.i a) (aI b)) true)).obj S3.n = _:=(upd_ne (by omega)).trans o5
    refine ⟨fun T hT=>by rw [ld1_p ((hT.2 _ (by show _ < S5.n; omega)).trans o6) rfl rfl]; exact ⟨rfl,rfl⟩,fun T hT=>by rw [show (AV.v (.int .i64 0)) = aI ((0:Nat):Int) from rfl,ixA_p (by omega)]; exact ⟨rfl,rfl⟩,fun T hT=>by rw [ld1_p ((hT.2 _ (by show _ < S5.n; omega)).trans o6) rfl rfl]; exact ⟨rfl,rfl⟩,fun T hT=>by rw [show (AV.v (.int .i64 1)) = aI ((1:Nat):Int) from rfl,ixA_p (by omega)]; exact ⟨rfl,rfl⟩,?_⟩
    rw [updM_m (upd_self _ _) (keyI _ _),upd_upd,hs,bin_add (by omega) (by omega)]
    exact hKE _ _ ⟨(k3.trans k5).upd (Nat.le_refl _) _,by show S.n < S5.n; omega,i + 1,rfl,hlt,upd_self _ _⟩ (by simp [intA]; omega)
  · have hge:i = 7:=by have:=of_decide_eq_false hge; omega
    subst hge
    refine ⟨_,rfl,k3,.m' S.n (.i .i64) (dualE 7) (dualE 7) ?_ rfl (fun i e e2 h h2=>by rw [h] at h2; cases h2; rfl) (fun i e e2 h h2=>?_)⟩
    · rw [frz_ofM m3]
      have:newer S.n S.n = true:=by simp [newer]
      rw [this]
      rfl
    · rw [h] at h2; cases h2
      have hm:e ∈ dualE 7:=List.mem_of_getElem? h
      simp only [dualE,List.mem_flatMap] at hm
      obtain ⟨p,_,hp⟩:=hm
      simp only [List.mem_cons,List.not_mem_nil,or_false] at hp
      rcases hp with rfl | rfl <;> exact .v _
theorem at73 {S:Store} {fid mid i tf:Nat} {k l:Int} {n:ByteArray} {ks:List Fo} {t:Bool} (ho:S.obj fid = some (.cells tf [[aI k,.v (.string n),aI l,foL ks]] true)) (hf:fid < S.n) (hm:S.obj mid = some (.cells 87 [[dualM]] true)) (hm2:mid < S.n) (hi:i < ks.length)
    (h:Ans Tryz.prog 44 [ks[i].av,aB t,dualM] (ks[i].push t).av):AnsAt Tryz.prog 73 ([] ++ [aI i,aB t] ++ [.p fid 0 0,.p mid 0 0]) S (ks[i].push t).av:=by
  refine ACalls.tree (calls73 ?_)
  unfold m73
  refine boxA_of rfl fun S1 k1 n1 o1=>?_
  have p1:=(k1.2 _ hf).trans ho
  have q1:=(k1.2 _ hm2).trans hm
  (repeat (first | with_reducible_and_instances (first | refine WJ ?_ | refine W (LJ_ldp p1 (by omega) (by with_unfolding_all rfl) (by with_unfolding_all rfl)) ?_ | refine W (LJ_ldp q1 (by omega) (by with_unfolding_all rfl) (by with_unfolding_all rfl)) ?_ | refine W (LJ_Fi hi) ?_ | refine W (LJ_ldNq (Fo.row_len _)) ?_ | refine W (J_ldq (by with_unfolding_all rfl)) ?_) | refine J_cA (h) rfl rfl ?_ | refine C_A (h) rfl rfl ?_ | refine L_cA (h) rfl rfl ?_))
  refine stA_of o1 (Fo.row_len _) rfl fun S2 n2 o2 f2=>?_
  rw [ldN_p (n:=4) o2 (Fo.row_len _)]
  exact ⟨_,rfl,k1.st (Nat.le_refl _) n2 f2,Fo.tr _ _ _⟩
abbrev kidF (a b:Nat):AV:=.f (.func 73) [] [.p a 0 0,.p b 0 0]
theorem treepush_loop {ks:List Fo} {k k2 l:Int} {n:ByteArray} {t:Bool} (hl:ks.length ≤ 1000000) (hf:∀ f ∈ ks,Ans Tryz.prog 44 [f.av,aB t,dualM] (f.push t).av) {S S4:Store} {o:Nat} {Q:AEnd → Store → Prop} (kk:Keep S S4) (h0:S.n < S4.n)
    (ho:S.n + 2 < o) (ho2:o < S4.n) (oa:S4.obj S.n = some (.cells 24 [[aI k,.v (.string n),aI l,foL ks]] true)) (om:S4.obj (S.n + 1) = some (.cells 87 [[dualM]] true)) (ob:S4.obj (S.n + 2) = some (.cells 24 [fo0r] true)) (oc:S4.obj o = some (.cells 24 [[aI k2,.v (.string ⟨#[]⟩),aI 0,.nl]] true))
    (hQ:∀ (r:AV) (T:Store),Keep S T → Cv (T.frz (newer S.n)) S.n r (Fo.mk k2 ⟨#[]⟩ 0 (Fo.pushs ks t)).av → Q (.ret r) T) :
    loopV lv44_0 (vc Tryz.prog (c44.at_ [1,1,1,1,1,0,1,0,0]) (ms44.drop 1)) 86 (env44_0 (aB t) (.p (S.n + 2) 0 0) (kidF S.n (S.n + 1)) (.p o 0 0) (aI ks.length) (.v (.int .i64 0))) S4 (blockK 1 (seqK (vc Tryz.prog (c44.at_ [1,1,1,1,1,1]) (ms44.drop 1)) (bodyK Tryz.prog r44 Q))):=by
  refine loop44_0 (fun y S'=>∃ (i:Nat) (z:AV),y = aI i ∧ i ≤ ks.length ∧ Keep S S' ∧ S4.n ≤ S'.n ∧ S'.obj S.n = some (.cells 24 [[aI k,.v (.string n),aI l,foL ks]] true) ∧ S'.obj (S.n + 1) = some (.cells 87 [[dualM]] true) ∧ S'.obj (S.n + 2) = some (.cells 24 [fo0r] true) ∧
      S'.obj o = some (.cells 24 [[aI k2,.v (.string ⟨#[]⟩),aI 0,z]] true) ∧ Own S4.n S' z 24 (((ks.take i).map fun f=>f.push t).map Fo.row))
    (fun y _=>ks.length - ((intA y).getD 0).toNat) ⟨0,.nl,rfl,Nat.zero_le _,kk,Nat.le_refl _,oa,om,ob,oc,.nl _ _ _⟩ ?_
  rintro _ S5 ⟨i,z,rfl,hi,k5,n5,oa,om,ob,oc,w5⟩ KE hKE
  unfold b44_0
  rw [bin_lss,onB_v]
  refine gd_of (fun hlt=>?_) (fun hge=>?_)
  · have hlt:i < ks.length:=by have:=of_decide_eq_true hlt; omega
    have hmem:=List.getElem_mem hlt
    (repeat (first | with_reducible_and_instances (first | refine WJ ?_ | refine W (LJ_ldp oc (by omega) (by with_unfolding_all rfl) (by with_unfolding_all rfl)) ?_ | refine W (J_ldq (by with_unfolding_all rfl)) ?_) | refine L_cV ((fun T hT=>at73 (t:=t) ((hT.2 _ (by omega)).trans oa) (by have:=hT.1; omega) ((hT.2 _ (by omega)).trans om) (by have:=hT.1; omega) hlt (hf _ hmem))) rfl rfl ?_))
    refine LJ_bsl4 (Fo.row_len _) ?_
    refine w5.app (c:=(ks[i].push t).row) (by omega) (Fo.row_len _) (by simp; omega) (fun z' S6 w6 b6 hz=>?_) rfl
    obtain ⟨m6,hm6⟩:=hz
    have n6:=b6.1
    have old6:∀ x,x < S4.n → S6.obj x = S5.obj x:=fun x hx=>b6.2 x (by omega) (fun b m e=>by have:=w5.lt e; omega)
    refine L_shift ?_
    refine stF_of ((old6 _ (by omega)).trans oc) (by simp) (by rw [hm6]; rfl) fun S7 n7 o7 f7=>?_
    rw [bin_add (by omega) (by omega)]
    have old7:∀ x,x < o → S7.obj x = S5.obj x:=fun x hx=>(f7 x (by omega)).trans (old6 x (by omega))
    refine hKE _ _ ⟨i + 1,z',rfl,hlt,⟨by have:=k5.1; omega,fun x hx=>(old7 x (by omega)).trans (k5.2 x hx)⟩,by omega,(old7 _ (by omega)).trans oa,(old7 _ (by omega)).trans om,(old7 _ (by omega)).trans ob,o7,?_⟩ (by simp [intA]; omega)
    rw [List.take_add_one,List.getElem?_eq_getElem hlt,List.map_append,List.map_append]
    exact w6.st (id:=o) (fun b m e=>by rw [hm6] at e; injection e; omega) n7 f7
  · have hge:i = ks.length:=by have:=of_decide_eq_false hge; omega
    subst hge
    rw [ldN_p (n:=4) oc rfl]
    refine stA_of ob rfl rfl fun S6 n6 o6 f6=>?_
    rw [ldN_p (n:=4) o6 rfl]
    have w6:Own S4.n S6 z 24 _:=w5.st (id:=S.n + 2) (fun b m e=>by have:=w5.lt e; omega) n6 f6
    rw [List.take_length] at w6
    refine hQ _ _ (k5.st (by omega) n6 f6) ?_
    rw [Fo.av,Fo.row_mk,Fo.pushs_map]
    refine .a _ _ rfl fun k u u2 e1 e2=>?_
    match k with
    | 0=>cases e1; cases e2; exact .v _
    | 1=>cases e1; cases e2; exact .v _
    | 2=>cases e1; cases e2; exact .v _
    | 3=>cases e1; cases e2; exact own_rows (fun r hr u hu=>by obtain ⟨f,_,rfl⟩:=List.mem_map.1 hr; exact Fo.tree f u hu) w6 (by omega)
    | k + 4=>simp at e1
theorem ans44:∀ (f:Fo),f.ok → ∀ {d:Int},f.mayB d = true → ∀ t,Ans Tryz.prog 44 [f.av,aB t,dualM] (f.push t).av:=by
  intro f
  induction f using Fo.ind with
  | h k n l ks ih =>
    intro hok d hm t S
    obtain ⟨h1,h2,h3,h4,h5⟩:=hok.inv
    have hf:∀ f ∈ ks,∀ d,f.mayB d = true → ∀ t,Ans Tryz.prog 44 [f.av,aB t,dualM] (f.push t).av:=fun f hf d hd t=>ih f hf (h5 f hf) hd t
    have hall:∀ f ∈ ks,f.mayB (d - 1) = true:=fun f hf=>by
      rw [Fo.mayB_mk] at hm
      simp only [Bool.and_eq_true,List.all_eq_true] at hm
      exact hm.2.2.2.2 f hf
    refine ACalls.tree (calls44 ?_)
    unfold m44
    rw [Fo.av,Fo.row_mk]
    refine boxA_of rfl fun S1 k1 n1 o1=>?_
    refine box1_of rfl fun S2 k2 n2 o2=>?_
    refine boxA_of rfl fun S3 k3 n3 o3=>?_
    rw [show S2.n = S.n + 2 by omega] at o3
    rw [n1] at o2
    rw [show S2.n = S.n + 2 by omega,n1]
    have p3:=(k3.2 _ (by omega)).trans ((k2.2 _ (by omega)).trans o1)
    have q3:=(k3.2 _ (by omega)).trans o2
    have kk:=(k1.trans k2).trans k3
    rw [shift_p,ld1_p p3 rfl rfl]
    have ck:∀ (T:Store),T.obj S.n = some (.cells 24 [[aI k,.v (.string n),aI l,foL ks]] true) → T.obj (S.n + 1) = some (.cells 87 [[dualM]] true) → S.n + 1 < T.n → ∀ (i:Nat) (hi:i < ks.length) (t:Bool),AnsAt Tryz.prog 73 ([] ++ [aI i,aB t] ++ [.p S.n 0 0,.p (S.n + 1) 0 0]) T (ks[i].push t).av :=
      fun T ho hm hn i hi t=>at73 ho (by omega) hm hn hi (hf _ (List.getElem_mem hi) _ (hall _ (List.getElem_mem hi)) t)
    have fin:∀ (g:Fo) (T:Store),Keep S T → T.obj (S.n + 2) = some (.cells 24 [fo0r] true) → g = Fo.push (.mk k n l ks) t → stN 4 (.p (S.n + 2) 0 0) g.av T (fun _ T2=>ldN 4 (.p (S.n + 2) 0 0) T2 fun v S'=>∃ r,AEnd.ret v = .ret r ∧ Keep S S' ∧ Cv (S'.frz (newer S.n)) S.n r (Fo.push (.mk k n l ks) t).av):=by
      intro g T hT ho hg
      rw [Fo.av]
      refine stA_of ho (Fo.row_len g) rfl fun T1 n1 o1 f1=>?_
      rw [ldN_p (n:=4) o1 (Fo.row_len g)]
      exact ⟨_,rfl,hT.st (by omega) n1 f1,by rw [← hg]; exact Fo.tr g _ _⟩
    have dflt:∀ (T:Store) (o:Nat) (k2:Int),Keep S T → S.n + 2 < o → o < T.n → T.obj S.n = some (.cells 24 [[aI k,.v (.string n),aI l,foL ks]] true) → T.obj (S.n + 1) = some (.cells 87 [[dualM]] true) → T.obj (S.n + 2) = some (.cells 24 [fo0r] true) → T.obj o = some (.cells 24 [[aI k2,.v (.string ⟨#[]⟩),aI 0,.nl]] true) →
        Fo.push (.mk k n l ks) t = .mk k2 ⟨#[]⟩ 0 (Fo.pushs ks t) →
        loopV lv44_0 (vc Tryz.prog (c44.at_ [1,1,1,1,1,0,1,0,0]) (ms44.drop 1)) 86 (env44_0 (aB t) (.p (S.n + 2) 0 0) (kidF S.n (S.n + 1)) (.p o 0 0) (aI ks.length) (.v (.int .i64 0))) T (blockK 1 (seqK (vc Tryz.prog (c44.at_ [1,1,1,1,1,1]) (ms44.drop 1)) (bodyK Tryz.prog r44 fun e S'=>∃ r,e = .ret r ∧ Keep S S' ∧ Cv (S'.frz (newer S.n)) S.n r (Fo.push (.mk k n l ks) t).av))):=fun T o k2 hT ho ho2 oa om ob oc he =>
      treepush_loop h4 (fun f hf'=>hf f hf' _ (hall f hf') t) hT (by omega) ho ho2 oa om ob oc fun r T' hT' hr=>⟨r,rfl,hT',by rw [he]; exact hr⟩
    have rest:¬ k = 3 → ¬ k = 4 → ¬ k = 7 → ¬ k = 8 → (k = 1 ∨ k = 2 ∨ k = 5 ∨ k = 6 ∨ 9 ≤ k ∧ k ≤ 18) → shift (.p S.n 0 0) 0 S3 fun v53 T=>ld1 v53 T fun v54 T=>bld [(0,1),(1,1),(2,1),(3,1)] fo0r [(0,v54)] T fun v55 T=>boxN 24 4 (.a fo0r) T fun v56 T=>stN 4 v56 v55 T fun _ T=>gd t (ld1 (.p (S.n + 1) 0 0) T fun v59 T=>shift (.p S.n 0 0) 0 T fun v60 T=>ld1 v60 T fun v61 T=>lkM (.i .i64) (.v (.int .i64 0)) false v59 v61 T fun v62 T=>shift v56 0 T fun v63 T=>stN 1 v63 v62 T fun _ T =>
        shift (.p S.n 0 0) 3 T fun v65 T=>ld1 v65 T fun v66 T=>lenS v66 T fun v67 T =>
        loopV lv44_0 (vc Tryz.prog (c44.at_ [1,1,1,1,1,0,1,0,0]) (ms44.drop 1)) 86 (env44_0 (aB t) (.p (S.n + 2) 0 0) (kidF S.n (S.n + 1)) v56 v67 (.v (.int .i64 0))) T (blockK 1 (seqK (vc Tryz.prog (c44.at_ [1,1,1,1,1,1]) (ms44.drop 1)) (bodyK Tryz.prog r44 fun e S'=>∃ r,e = .ret r ∧ Keep S S' ∧ Cv (S'.frz (newer S.n)) S.n r (Fo.push (.mk k n l ks) t).av))))
        (shift (.p S.n 0 0) 3 T fun v65 T=>ld1 v65 T fun v66 T=>lenS v66 T fun v67 T=>loopV lv44_0 (vc Tryz.prog (c44.at_ [1,1,1,1,1,0,1,0,0]) (ms44.drop 1)) 86 (env44_0 (aB t) (.p (S.n + 2) 0 0) (kidF S.n (S.n + 1)) v56 v67 (.v (.int .i64 0))) T (blockK 1 (seqK (vc Tryz.prog (c44.at_ [1,1,1,1,1,1]) (ms44.drop 1)) (bodyK Tryz.prog r44 fun e S'=>∃ r,e = .ret r ∧ Keep S S' ∧ Cv (S'.frz (newer S.n)) S.n r (Fo.push (.mk k n l ks) t).av)))):=by
      intro h3 h4' h7 h8 hkd
      have he:Fo.push (.mk k n l ks) t = .mk (if t then dualK k else k) ⟨#[]⟩ 0 (Fo.pushs ks t):=by rw [Fo.push,if_neg h3,if_neg h4',if_neg h7,if_neg h8]
      rw [shift_p,ld1_p p3 rfl rfl,bld_of (cs:=[aI k,.v (.string ⟨#[]⟩),aI 0,.nl]) rfl]
      refine boxA_of rfl fun S4 k4 n4 o4=>?_
      refine stA_of (cs':=[aI k,.v (.string ⟨#[]⟩),aI 0,.nl]) o4 rfl rfl fun S5 n5 o5 f5=>?_
      have k5:=k4.st (Nat.le_refl _) n5 f5
      have p5:=(k5.2 _ (by omega)).trans p3
      have q5:=(k5.2 _ (by omega)).trans q3
      have r5:=(k5.2 _ (by omega)).trans o3
      refine gd_of (fun ht=>?_) (fun ht=>?_)
      · subst ht
        rw [ld1_p q5 rfl rfl,shift_p,ld1_p p5 rfl rfl,lkM_mt (keyI _ _),dual_lk hkd,shift_p]
        refine stF_of o5 (by simp) rfl fun S6 n6 o6 f6=>?_
        rw [shift_p,ld1_p ((f6 _ (by omega)).trans p5) rfl rfl,lenS_foL]
        exact dflt S6 S3.n (dualK k) ((kk.trans k5).st (by omega) n6 f6) (by omega) (by omega) ((f6 _ (by omega)).trans p5) ((f6 _ (by omega)).trans q5) ((f6 _ (by omega)).trans r5) o6 he
      · subst ht
        rw [shift_p,ld1_p p5 rfl rfl,lenS_foL]
        exact dflt S5 S3.n k (kk.trans k5) (by omega) (by omega) p5 q5 r5 o5 he
    obtain ⟨rfl,hd,hc⟩:=may_cases hm
    rcases hc with ⟨hk,rfl,rfl⟩ | ⟨rfl,rfl,h0⟩ | ⟨hk,rfl,f,rfl,hfm⟩ | ⟨hk,rfl,f,g,rfl,hfm,hgm⟩
    · repeat (refine tno (by omega) ?_)
      exact rest (by omega) (by omega) (by omega) (by omega) (by omega)
    · refine tyes rfl ?_
      rw [onB_v]
      refine gd_of (fun ht=>?_) (fun ht=>?_)
      · subst ht
        rw [ldN_p (n:=4) p3 rfl]
        refine bslA4 (r:=[aI 3,.v (.string ⟨#[]⟩),aI l,foL []]) rfl ?_
        refine C_A (ans74 4 [.mk 3 ⟨#[]⟩ l []]) rfl (by rw [show foL [Fo.mk 3 ⟨#[]⟩ l []] = .l [Fo.row (.mk 3 ⟨#[]⟩ l [])] from rfl,Fo.row_mk]) ?_
        exact fin (foOne 4 (.mk 3 ⟨#[]⟩ l [])) _ kk o3 (by rw [push_atom]; rfl)
      · subst ht
        rw [ldN_p (n:=4) p3 rfl]
        have:=fin (.mk 3 ⟨#[]⟩ l []) _ kk o3 (by rw [push_atom]; rfl)
        rw [Fo.av,Fo.row_mk] at this
        exact this
    · have cf:=fun t=>ck S3 p3 q3 (by omega) 0 (by simp) t
      by_cases h4:k = 4
      · subst h4
        refine tno (by decide) (tyes rfl ?_)
        rw [un_not]
        refine callV_at (cf _) ?_
        exact fin _ _ kk o3 push_not.symm
      · repeat (refine tno (by omega) ?_)
        exact rest (by omega) (by omega) (by omega) (by omega) (by omega)
    · have cf:=fun t=>ck S3 p3 q3 (by omega) 0 (by simp) t
      have cg:=fun t=>ck S3 p3 q3 (by omega) 1 (by simp) t
      by_cases h7:k = 7
      · subst h7
        refine tno (by decide) (tno (by decide) (tyes rfl ?_))
        rw [onB_v]
        refine gd_of (fun ht=>?_) (fun ht=>?_)
        · subst ht
          refine callV_at (cf false) (callV_at (cg true) ?_)
          refine bslA42 (Fo.row_len _) (Fo.row_len _) (callF_ans (ans74 5 [f.push false,g.push true]) ?_)
          exact fin (foTwo 5 (f.push false) (g.push true)) _ kk o3 (by rw [push_imp]; rfl)
        · subst ht
          refine callV_at (cf true) (callV_at (cg false) ?_)
          refine bslA42 (Fo.row_len _) (Fo.row_len _) (callF_ans (ans74 6 [f.push true,g.push false]) ?_)
          exact fin (foTwo 6 (f.push true) (g.push false)) _ kk o3 (by rw [push_imp]; rfl)
      by_cases h8:k = 8
      · subst h8
        refine tno (by decide) (tno (by decide) (tno (by decide) (tyes rfl ?_)))
        refine callV_at (cf false) (callV_at (cg t) ?_)
        refine bslA42 (Fo.row_len _) (Fo.row_len _) (callF_ans (ans74 5 [f.push false,g.push t]) ?_)
        refine callV_at (cf true) ?_
        rw [un_not]
        refine callV_at (cg (!t)) ?_
        refine bslA42 (Fo.row_len _) (Fo.row_len _) (callF_ans (ans74 5 [f.push true,g.push (!t)]) ?_)
        refine bslA42 (Fo.row_len _) (Fo.row_len _) (callF_ans (ans74 6 [foTwo 5 (f.push false) (g.push t),foTwo 5 (f.push true) (g.push (!t))]) ?_)
        exact fin _ _ kk o3 push_same.symm
      · repeat (refine tno (by omega) ?_)
        exact rest (by omega) (by omega) (by omega) (by omega) (by omega)
def pushB (f:Fo):Fo:=if f.mayB 60 = true then f.push false else fo0
theorem ans21 {f:Fo} (hf:f.ok):Ans Tryz.prog 21 [f.av] (pushB f).av:=by
  intro S
  refine ACalls.tree (calls21 ?_)
  unfold m21 pushB
  refine boxA_of (Fo.row_len f) fun S1 k1 n1 o1=>?_
  refine boxA_of rfl fun S2 k2 n2 o2=>?_
  have p2:=(k2.2 _ (by omega)).trans o1
  rw [ldN_p (n:=4) p2 (Fo.row_len f)]
  refine callF_ans (ans43 f hf 60 ⟨by decide,by decide⟩) ?_
  rw [un_not,onB_v]
  refine gd_of (fun h=>?_) (fun h=>?_)
  · have h:f.mayB 60 = false:=by simpa using h
    rw [h,if_neg (by decide),bld_of (cs:=fo0r) rfl]
    refine stA_of (cs':=fo0r) o2 rfl rfl fun S3 n3 o3 f3=>?_
    rw [ldN_p (n:=4) o3 rfl]
    refine ⟨_,rfl,(k1.trans k2).st (by omega) n3 f3,?_⟩
    rw [Fo.av,Fo.row_mk]
    refine .a _ _ rfl fun k u u2 e1 e2=>?_
    match k with
    | 0=>cases e1; cases e2; exact .v _
    | 1=>cases e1; cases e2; exact .v _
    | 2=>cases e1; cases e2; exact .v _
    | 3=>cases e1; cases e2; exact .nl
    | k + 4=>simp at e1
  · have h:f.mayB 60 = true:=by simpa using h
    rw [h,if_pos rfl]
    (repeat (first | with_reducible_and_instances (first | refine WJ ?_ | refine W (LJ_ldN (n:=4) p2 (by omega) (Fo.row_len f)) ?_ | refine W (J_ldq (by with_unfolding_all rfl)) ?_) | refine J_cA (ans45) rfl rfl ?_ | refine C_A (ans45) rfl rfl ?_ | refine L_cA (ans45) rfl rfl ?_ | refine J_cA (ans44 f hf h false) rfl rfl ?_ | refine C_A (ans44 f hf h false) rfl rfl ?_ | refine L_cA (ans44 f hf h false) rfl rfl ?_))
    refine stA_of o2 (Fo.row_len _) rfl fun S3 n3 o3 f3=>?_
    rw [ldN_p (n:=4) o3 (Fo.row_len _)]
    exact ⟨_,rfl,(k1.trans k2).st (by omega) n3 f3,Fo.tr _ _ _⟩
structure Cs (c:Ci):Prop where
  ok:c.ok
  right:c.right = true
  small:c.gr.inputs ≤ 60
theorem Cs.sum {c:Ci} (h:Cs c):∃ m:Nat,c.inputs + c.latches.length = m ∧ c.gr.inputs = m ∧ m ≤ 60 ∧ 0 ≤ c.inputs ∧ c.inputs ≤ 60:=by
  obtain ⟨g1,g2,g3⟩:=gr_inp h.right
  have hin:=(right_c.1 h.right).1
  have:=h.small
  exact ⟨c.gr.inputs.toNat,by omega,by omega,by omega,hin.1,by omega⟩
theorem ans58 {c:Ci} (hc:Cs c) (s:Int):Ans Tryz.prog 58 [c.av,aI s] (aB (validS c s)):=by
  intro S
  obtain ⟨m,h1,h2,h3,h4,h5⟩:=hc.sum
  have hcon:=hc.ok.cons
  refine ACalls.ans_v (calls58 ?_)
  unfold m58 validS
  rw [h2,Int.toNat_natCast]
  refine boxA_of rfl fun S1 k1 n1 o1=>?_
  rw [shift_p,ld1_p o1 rfl rfl,shift_p,ld1_p o1 rfl rfl,lenS_pL,bin_add (by omega) (by omega),h1,bin_lss,onB_v]
  refine gd_of (fun h=>⟨?_,k1⟩) (fun h=>?_)
  · have:=of_decide_eq_true h
    rw [decide_eq_false (by omega),Bool.false_and]
  have h0:=of_decide_eq_false h
  rw [bin_shl1 h3,bin_geq,onB_v,decide_eq_true (show 0 ≤ s by omega),Bool.true_and]
  refine gd_of (fun h=>⟨?_,k1⟩) (fun h=>?_)
  · have:=of_decide_eq_true h
    rw [decide_eq_false (by omega),Bool.false_and]
  have h6:=of_decide_eq_false h
  rw [decide_eq_true (show s < 2 ^ m by omega),Bool.true_and]
  refine loop58_0 (fun y S'=>S' = S1 ∧ ∃ i:Nat,y = aI i ∧ i ≤ c.cons.length ∧ ∀ j (h:j < c.cons.length),j < i → isB c s c.cons[j] = true) (fun y _=>c.cons.length - ((intA y).getD 0).toNat) ⟨rfl,0,rfl,Nat.zero_le _,fun j _ h=>by omega⟩ ?_
  rintro _ S1 ⟨rfl,i,rfl,hi,hall⟩ KE hKE
  unfold b58_0
  rw [shift_p,ld1_p o1 rfl rfl,lenS_aL,bin_lss,onB_v]
  refine gd_of (fun hlt=>?_) (fun hge=>?_)
  · have hlt:i < c.cons.length:=by have:=of_decide_eq_true hlt; omega
    show ∃ q:AV,_
    refine ⟨_,by rw [ldN_p (n:=8) o1 rfl]; exact ⟨rfl,rfl⟩,?_⟩
    refine ⟨_,by rw [shift_p]; exact ⟨rfl,rfl⟩,?_⟩
    refine ⟨_,by rw [ld1_p o1 rfl rfl]; exact ⟨rfl,rfl⟩,?_⟩
    refine ⟨_,by rw [ixS_aL hlt]; exact ⟨rfl,rfl⟩,?_⟩
    refine ⟨_,by rw [ld1_q]; exact ⟨rfl,rfl⟩,?_⟩
    refine ⟨_,callF_ans (ans68 hc.ok (s:=s) (hcon.1 _ (List.getElem_mem hlt))) ⟨rfl,rfl⟩,?_⟩
    refine ⟨_,by rw [un_not]; exact ⟨rfl,rfl⟩,?_⟩
    rw [onB_v]
    refine gd_of (fun h=>⟨by rw [all_no hlt (by simpa using h)],k1⟩) (fun h=>?_)
    rw [bin_add (by omega) (by omega)]
    exact hKE _ _ ⟨rfl,i + 1,rfl,hlt,lt_step (p:=fun l=>isB c s l = true) (hi:=hlt) hall (by simpa using h)⟩ (by simp [intA]; omega)
  · have hge:i = c.cons.length:=by have:=of_decide_eq_false hge; omega
    subst hge
    exact ⟨by rw [all_lt fun j hj=>hall j hj hj],k1⟩
theorem J_shr {a b:Int} (hb:0 ≤ b) {S0:Store} {P:AV → Prop}:(∃ q,(bin .shr 0 (aI a) (aI b) S0 fun v S=>v = q ∧ S = S0) ∧ P q) = P (aI (a.fdiv (2 ^ min b.toNat 64))):=J_by (op:=fun K=>bin .shr 0 (aI a) (aI b) S0 K) fun K=>bin_shr hb .i64 .i64 0
theorem ans123 {c:Ci} (hc:Cs c) (s t:Int):Ans Tryz.prog 123 [c.av,aI s,aI t] (aB (behindS c s t)):=by
  intro S
  obtain ⟨m,h1,h2,h3,h4,h5⟩:=hc.sum
  refine ACalls.ans_v (calls123 ?_)
  unfold m123 behindS
  refine boxA_of rfl fun S1 k1 n1 o1=>?_
  show ∃ q:AV,_
  cases e1:validS c s with
  | false =>
    (repeat (first | with_reducible_and_instances (first | refine WJ ?_ | refine W (J_ldN (n:=8) o1 (by with_unfolding_all rfl)) ?_ | refine W (gd_T e1) ?_ | refine W (gd_F e1) ?_ | refine W (gd_nT e1) ?_ | refine W (gd_nF e1) ?_ | refine W (J_ldq (by with_unfolding_all rfl)) ?_) | refine J_cA (ans58 hc s) rfl rfl ?_ | refine C_A (ans58 hc s) rfl rfl ?_))
    exact ⟨by rw [Bool.false_and],k1⟩
  | true =>
    cases e2:validS c t with
    | false =>
      (repeat (first | with_reducible_and_instances (first | refine WJ ?_ | refine W (J_ldN (n:=8) o1 (by with_unfolding_all rfl)) ?_ | refine W (gd_T e1) ?_ | refine W (gd_F e1) ?_ | refine W (gd_nT e1) ?_ | refine W (gd_nF e1) ?_ | refine W (gd_T e2) ?_ | refine W (gd_F e2) ?_ | refine W (gd_nT e2) ?_ | refine W (gd_nF e2) ?_ | refine W (J_ldq (by with_unfolding_all rfl)) ?_) | refine J_cA (ans58 hc s) rfl rfl ?_ | refine C_A (ans58 hc s) rfl rfl ?_ | refine J_cA (ans58 hc t) rfl rfl ?_ | refine C_A (ans58 hc t) rfl rfl ?_))
      exact ⟨by rw [Bool.false_and,Bool.and_false],k1⟩
    | true =>
      (repeat (first | with_reducible_and_instances (first | refine WJ ?_ | refine W (J_ldN (n:=8) o1 (by with_unfolding_all rfl)) ?_ | refine W (J_ldp o1 (by with_unfolding_all rfl) (by with_unfolding_all rfl)) ?_ | refine W (J_shr h4) ?_ | refine W (gd_T e1) ?_ | refine W (gd_F e1) ?_ | refine W (gd_nT e1) ?_ | refine W (gd_nF e1) ?_ | refine W (gd_T e2) ?_ | refine W (gd_F e2) ?_ | refine W (gd_nT e2) ?_ | refine W (gd_nF e2) ?_ | refine W (J_ldq (by with_unfolding_all rfl)) ?_) | refine J_cA (ans58 hc s) rfl rfl ?_ | refine C_A (ans58 hc s) rfl rfl ?_ | refine J_cA (ans58 hc t) rfl rfl ?_ | refine C_A (ans58 hc t) rfl rfl ?_ | refine J_cA (ans59 hc.ok s) rfl rfl ?_ | refine C_A (ans59 hc.ok s) rfl rfl ?_))
      exact ⟨by rw [Bool.true_and,Bool.true_and],k1⟩
theorem ans124:Ans Tryz.prog 124 [] fo2.av:=by
  intro S
  refine ACalls.tree (calls124 ?_)
  unfold m124
  refine boxA_of rfl fun S1 k1 n1 o1=>?_
  rw [bld_of (cs:=[aI 2,.v (.string ByteArray.empty),aI 0,.nl]) rfl]
  refine stA_of (cs':=[aI 2,.v (.string ByteArray.empty),aI 0,.nl]) o1 rfl rfl fun S2 n2 o2 f2=>?_
  rw [ldN_p (n:=4) o2 rfl]
  refine ⟨_,rfl,k1.st (Nat.le_refl _) n2 f2,?_⟩
  rw [Fo.av,Fo.row_mk]
  refine .a _ _ rfl fun k u u2 e1 e2=>?_
  match k with
  | 0=>cases e1; cases e2; exact .v _
  | 1=>cases e1; cases e2; exact .v _
  | 2=>cases e1; cases e2; exact .v _
  | 3=>cases e1; cases e2; exact .nl
  | k + 4=>simp at e1
theorem ans82 (f g:Fo):Ans Tryz.prog 82 [f.av,g.av] (foTwo 15 f g).av:=by
  intro S
  refine ACalls.tree (calls82 ?_)
  unfold m82
  refine boxA_of (Fo.row_len f) fun S1 k1 n1 o1=>?_
  refine boxA_of (Fo.row_len g) fun S2 k2 n2 o2=>?_
  refine boxA_of rfl fun S3 k3 n3 o3=>?_
  rw [ldN_p (n:=4) ((k3.2 _ (by omega)).trans ((k2.2 _ (by omega)).trans o1)) (Fo.row_len f),ldN_p (n:=4) ((k3.2 _ (by omega)).trans o2) (Fo.row_len g)]
  refine callF_ans (ans76 15 f g) ?_
  refine stA_of o3 (Fo.row_len _) rfl fun S4 n4 o4 f4=>?_
  rw [ldN_p (n:=4) o4 (Fo.row_len _)]
  exact ⟨_,rfl,((k1.trans k2).trans k3).st (by omega) n4 f4,Fo.tr _ _ _⟩
theorem ans81 (f:Fo):Ans Tryz.prog 81 [f.av] (foOne 13 f).av:=by
  intro S
  refine ACalls.tree (calls81 ?_)
  unfold m81
  refine boxA_of (Fo.row_len f) fun S1 k1 n1 o1=>?_
  refine boxA_of rfl fun S2 k2 n2 o2=>?_
  rw [ldN_p (n:=4) ((k2.2 _ (by omega)).trans o1) (Fo.row_len f)]
  refine callF_ans (ans75 13 f) ?_
  refine stA_of o2 (Fo.row_len _) rfl fun S3 n3 o3 f3=>?_
  rw [ldN_p (n:=4) o3 (Fo.row_len _)]
  exact ⟨_,rfl,(k1.trans k2).st (by omega) n3 f3,Fo.tr _ _ _⟩
@[simp] theorem lenS_tnL (l:List Tn) {S:Store} {K:AV → Store → Prop}:lenS (tnL l) S K = K (aI l.length) S:=by simp [tnL]
theorem ixS_tnL {l:List Tn} {e i:Nat} {S:Store} {K:AV → Store → Prop} (h:i < l.length):ixS e 5 (tnL l) (aI i) S K = K (.q l[i].row 0) S:=by
  unfold tnL
  rw [ixS_l (by simpa using h) (by simp [Tn.row_len])]
  simp
theorem nil_len {α:Type} {l:List α}:decide ((l.length:Int) = 0) = decide (l.length = 0):=decide_eq_decide.2 ⟨fun h=>by omega,fun h=>by omega⟩
theorem ans121 (tk s a:Int) (ss:List Int) (ks:List Tn):Ans Tryz.prog 121 [(Tn.mk tk s a ss ks).av] (aB (decide (a = 0 ∧ ss.length = 0 ∧ ks.length = 0))):=by
  intro S
  refine ACalls.ans_v (calls121 ?_)
  unfold m121
  rw [Tn.av,Tn.row_mk]
  refine boxA_of rfl fun S1 k1 n1 o1=>?_
  rw [shift_p,ld1_p o1 rfl rfl,bin_eql,onB_v]
  refine gd_of (fun h=>?_) (fun h=>⟨?_,k1⟩)
  · have h1:=of_decide_eq_true h
    rw [shift_p,ld1_p o1 rfl rfl,lenS_aL,bin_eql,onB_v]
    refine gd_of (fun h=>?_) (fun h=>⟨?_,k1⟩)
    · have h2:=of_decide_eq_true h
      rw [shift_p,ld1_p o1 rfl rfl,lenS_tnL,bin_eql]
      exact ⟨by rw [nil_len]; congr 3; exact decide_eq_decide.2 ⟨fun h=>⟨h1,by omega,h⟩,fun h=>h.2.2⟩,k1⟩
    · have h2:=of_decide_eq_false h
      rw [decide_eq_false (fun h=>by omega)]
  · have h1:=of_decide_eq_false h
    rw [decide_eq_false (fun h=>by omega)]
inductive Tn.ok:Tn → Prop
  | mk (k s b:Int) (ss:List Int) (ks:List Tn) (h1:i64R k) (h2:i64R s) (h3:i64R b) (h4:ss.length ≤ 1000000) (h5:∀ x ∈ ss,i64R x) (h6:ks.length ≤ 1000000) (h:∀ t ∈ ks,Tn.ok t):Tn.ok (.mk k s b ss ks)
abbrev aR (r:Int × Bool):AV:=.t [aI r.1,aB r.2]
theorem ACalls.ansT {P:Program} {fn:FuncId} {args:List AV} {S:Store} {r:Int × Bool} (h:ACalls P fn args S (fun e S'=>e = .ret (aR r) ∧ Keep S S')):AnsAt P fn args S (aR r) :=
  ACalls.tree (ACalls.mono h fun e S' ⟨h1,h2⟩=>⟨_,h1,h2,cv_t2 (.v _) (.v _)⟩)
theorem J_ext {vs:List AV} {i:Nat} {u:AV} (h:vs[i]? = some u) {S0:Store} {P:AV → Prop}:(∃ q,(extr (.t vs) i S0 fun v S=>v = q ∧ S = S0) ∧ P q) = P u:=J_by (op:=fun K=>extr (.t vs) i S0 K) fun K=>by simp [extr,h]
theorem extr_t {vs:List AV} {i:Nat} {u:AV} (h:vs[i]? = some u) {S:Store} {K:AV → Store → Prop}:extr (.t vs) i S K = K u S:=by simp [extr,h]
theorem ans122 {c:Ci} {ts:List Tn} (ht:ts.length ≤ 1000000) (IH:∀ t ∈ ts,∀ f,Pu f → Ans Tryz.prog 80 [c.av,f.av,t.av] (aR (t.acc c f))) {fs:List Fo} (hf:∀ f ∈ fs,Pu f) (ss:List Int) :
    Ans Tryz.prog 122 [c.av,foL fs,aL aI ss,tnL ts] (aR (Tn.accs c ts fs ss 0)):=by
  intro S
  refine ACalls.ansT (calls122 ?_)
  unfold m122
  refine boxA_of rfl fun S1 k1 n1 o1=>?_
  rw [lenS_foL,lenS_tnL,bin_neq,onB_v]
  refine gd_of (fun h=>⟨?_,k1⟩) (fun h=>?_)
  · rw [accs_len c ts fs ss 0 (fun hq=>by simp [hq.1] at h)]
  have h1:fs.length = ts.length:=by simp at h; omega
  rw [lenS_aL,lenS_tnL,bin_neq,onB_v]
  refine gd_of (fun h=>⟨?_,k1⟩) (fun h=>?_)
  · rw [accs_len c ts fs ss 0 (fun hq=>by simp [hq.2] at h)]
  have h2:ss.length = ts.length:=by simp at h; omega
  refine loop122_0 (fun y z S'=>S' = S1 ∧ ∃ (i:Nat) (n:Int),z = aI i ∧ y = aI n ∧ i ≤ ts.length ∧ Tn.accs c ts fs ss 0 = Tn.accs c (ts.drop i) (fs.drop i) (ss.drop i) n) (fun _ z _=>ts.length - ((intA z).getD 0).toNat) ⟨rfl,0,0,rfl,rfl,Nat.zero_le _,rfl⟩ ?_
  rintro _ _ S1 ⟨rfl,i,n,rfl,rfl,hi,he⟩ KE hKE
  unfold b122_0
  rw [lenS_tnL,bin_lss,onB_v]
  refine gd_of (fun hlt=>?_) (fun hge=>?_)
  · have hlt:i < ts.length:=by have:=of_decide_eq_true hlt; omega
    have hf1:i < fs.length:=by omega
    have hs1:i < ss.length:=by omega
    have hmem:=List.getElem_mem hlt
    rw [List.drop_eq_getElem_cons hlt,List.drop_eq_getElem_cons hf1,List.drop_eq_getElem_cons hs1,accs_cons] at he
    have hst:∀ t:Tn,t.row[1]? = some (aI t.st):=fun t=>by cases t; rw [Tn.row_mk]; rfl
    show ∃ q:AV,_
    refine ⟨_,by rw [ldN_p (n:=8) o1 rfl]; exact ⟨rfl,rfl⟩,?_⟩
    refine ⟨_,by rw [ixS_foL hf1]; exact ⟨rfl,rfl⟩,?_⟩
    refine ⟨_,by rw [ldN_q (Fo.row_len _)]; exact ⟨rfl,rfl⟩,?_⟩
    refine ⟨_,by rw [ixS_tnL hlt]; exact ⟨rfl,rfl⟩,?_⟩
    refine ⟨_,by rw [ldN_q (Tn.row_len _)]; exact ⟨rfl,rfl⟩,?_⟩
    refine ⟨_,callF_ans (IH _ hmem _ (hf _ (List.getElem_mem hf1))) ⟨rfl,rfl⟩,?_⟩
    refine ⟨_,by rw [extr_t rfl]; exact ⟨rfl,rfl⟩,?_⟩
    refine ⟨_,by rw [extr_t rfl]; exact ⟨rfl,rfl⟩,?_⟩
    show ∃ q:AV,_
    cases e1:(ts[i].acc c fs[i]).2 with
    | false =>
      rw [e1,Bool.false_and,if_neg (by decide)] at he
      (repeat (first | with_reducible_and_instances (first | refine WJ ?_ | refine W (gd_T (Eq.refl false)) ?_ | refine W (gd_F (Eq.refl false)) ?_ | refine W (gd_nT (Eq.refl false)) ?_ | refine W (gd_nF (Eq.refl false)) ?_ | refine W (J_ldq (by with_unfolding_all rfl)) ?_)))
      exact ⟨by rw [he],k1⟩
    | true =>
      rw [e1,Bool.true_and] at he
      by_cases e2:ts[i].st = ss[i]
      · rw [decide_eq_true e2,if_pos rfl] at he
        (repeat (first | with_reducible_and_instances (first | refine WJ ?_ | refine W (J_of (op:=fun K=>ixS _ 5 (tnL ts) (aI i) S1 K) (fun K=>ixS_tnL hlt)) ?_ | refine W (J_ldq (hst _)) ?_ | refine W (J_of (op:=fun K=>ixS _ 1 (aL aI ss) (aI i) S1 K) (fun K=>ixS_aL hs1)) ?_ | refine W (gd_T (Eq.refl true)) ?_ | refine W (gd_F (Eq.refl true)) ?_ | refine W (gd_nT (Eq.refl true)) ?_ | refine W (gd_nF (Eq.refl true)) ?_ | refine W (gd_T (decide_eq_true e2)) ?_ | refine W (gd_F (decide_eq_true e2)) ?_ | refine W (gd_nT (decide_eq_true e2)) ?_ | refine W (gd_nF (decide_eq_true e2)) ?_ | refine W (J_ldq (by with_unfolding_all rfl)) ?_)))
        rw [bin_addW,show ∀ K:AV → Store → Prop,bin .add 0 (aI i) (.v (.int .i64 1)) S1 K = K (aI (i + 1:Nat)) S1 from fun K=>bin_add (by omega) (by omega) 0]
        exact hKE _ _ _ ⟨rfl,i + 1,_,rfl,rfl,hlt,he⟩ (by simp [intA]; omega)
      · rw [decide_eq_false e2,if_neg (by decide)] at he
        (repeat (first | with_reducible_and_instances (first | refine WJ ?_ | refine W (J_of (op:=fun K=>ixS _ 5 (tnL ts) (aI i) S1 K) (fun K=>ixS_tnL hlt)) ?_ | refine W (J_ldq (hst _)) ?_ | refine W (J_of (op:=fun K=>ixS _ 1 (aL aI ss) (aI i) S1 K) (fun K=>ixS_aL hs1)) ?_ | refine W (gd_T (Eq.refl true)) ?_ | refine W (gd_F (Eq.refl true)) ?_ | refine W (gd_nT (Eq.refl true)) ?_ | refine W (gd_nF (Eq.refl true)) ?_ | refine W (gd_T (decide_eq_false e2)) ?_ | refine W (gd_F (decide_eq_false e2)) ?_ | refine W (gd_nT (decide_eq_false e2)) ?_ | refine W (gd_nF (decide_eq_false e2)) ?_ | refine W (J_ldq (by with_unfolding_all rfl)) ?_)))
        exact ⟨by rw [he],k1⟩
  · have hge:i = ts.length:=by have:=of_decide_eq_false hge; omega
    subst hge
    rw [List.drop_length,← h1,List.drop_length,h1,← h2,List.drop_length,accs_nil] at he
    exact ⟨by rw [he],k1⟩
theorem J_ix0 {α:Type} {x:α} {l:List α} {f:α → AV} {e:Nat} {S0:Store} {P:AV → Prop}:(∃ q,(ixS e 1 (aL f (x :: l)) (.v (.int .i64 0)) S0 fun v S=>v = q ∧ S = S0) ∧ P q) = P (.q [f x] 0) :=
  J_of (op:=fun K=>ixS e 1 (aL f (x :: l)) (.v (.int .i64 0)) S0 K) fun K=>ixS_aL (i:=0) (by simp)
theorem Ci.tr' (c:Ci):Tree c.av:=Tree.a fun u hu=>by
  simp only [Ci.cells,List.mem_cons,List.not_mem_nil,or_false] at hu
  rcases hu with rfl | rfl | rfl | rfl | rfl | rfl | rfl | rfl
  · exact Tree.v _
  · exact treeP _
  · exact treeP _
  · exact treeI _
  · exact treeI _
  · exact treeI _
  · exact treeI _
  · exact treeN _
theorem Tn.tree:∀ (t:Tn),∀ u ∈ t.row,Tree u:=by
  intro t
  induction t using Tn.ind with
  | h k s b ss ks ih =>
    intro u hu
    rw [Tn.row_mk] at hu
    simp only [List.mem_cons,List.not_mem_nil,or_false] at hu
    rcases hu with rfl | rfl | rfl | rfl | rfl
    · exact Tree.v _
    · exact Tree.v _
    · exact Tree.v _
    · exact treeI _
    · refine Tree.l fun c hc u hu=>?_
      obtain ⟨t,ht,rfl⟩:=List.mem_map.1 hc
      exact ih t ht u hu
theorem tnL_tr (l:List Tn):Tree (tnL l):=Tree.l fun c hc u hu=>by
  obtain ⟨t,ht,rfl⟩:=List.mem_map.1 hc
  exact Tn.tree t u hu
theorem own_fo {n:Nat} {S:Store} {x:AV} {e:Nat} {l:List Fo} (h:Own n S x e (l.map Fo.row)) {k m:Nat} (hk:k ≤ n):Cv (S.frz (newer k)) m x (foL l) :=
  own_rows (fun r hr u hu=>by obtain ⟨f,_,rfl⟩:=List.mem_map.1 hr; exact Fo.tree f u hu) h hk
theorem own_in {n:Nat} {S:Store} {x:AV} {e:Nat} {l:List Int} (h:Own n S x e (l.map fun a=>[aI a])) {k m:Nat} (hk:k ≤ n):Cv (S.frz (newer k)) m x (aL aI l) :=
  own_rows (fun r hr u hu=>by obtain ⟨f,_,rfl⟩:=List.mem_map.1 hr; rw [List.mem_singleton.1 hu]; exact Tree.v _) h hk
theorem chain_no {c:Ci} {ss:List Int} {i:Nat} (hi:i + 1 < ss.length) (h:behindS c ss[i] ss[i + 1] = false):chainS c ss = false:=by
  unfold chainS
  rw [List.all_eq_false]
  refine ⟨i,List.mem_range.2 (by omega),?_⟩
  simp [List.getD_eq_getElem?_getD,show i < ss.length by omega,hi,h]
theorem chain_yes {c:Ci} {ss:List Int} (h:∀ i (hi:i + 1 < ss.length),behindS c (ss[i]'(by omega)) ss[i + 1] = true):chainS c ss = true:=by
  unfold chainS
  rw [List.all_eq_true]
  intro i hi
  have hi:=List.mem_range.1 hi
  have hi2:i + 1 < ss.length:=by omega
  simp [List.getD_eq_getElem?_getD,show i < ss.length by omega,hi2,h i hi2]
noncomputable def pathR (c:Ci) (f0 f1:Fo) (tk s a:Int) (ss:List Int) (ks:List Tn):Int × Bool :=
  if ss ≠ [] ∧ ss.getD 0 0 = s ∧ a = 0 ∧ tk = 5 ∧ chainS c ss = true then Tn.accs c ks (List.replicate (ss.length - 1) f0 ++ [f1,foG]) (ss ++ [ss.getD (ss.length - 1) 0]) 0 else (0,false)
theorem ans125 {c:Ci} (hc:Cs c) {ks:List Tn} (hk:ks.length ≤ 1000000) (IH:∀ t ∈ ks,∀ f,Pu f → Ans Tryz.prog 80 [c.av,f.av,t.av] (aR (t.acc c f))) {f0 f1:Fo} (h0:Pu f0) (h1:Pu f1) (k l:Int) (nm:ByteArray)
    {ss:List Int} (hs:ss.length ≤ 1000000) (tk s a:Int):Ans Tryz.prog 125 [c.av,(Fo.mk k nm l [f0,f1]).av,(Tn.mk tk s a ss ks).av] (aR (pathR c f0 f1 tk s a ss ks)):=by
  intro S
  refine ACalls.ansT (calls125 ?_)
  unfold m125
  rw [Fo.av,Fo.row_mk,Tn.av,Tn.row_mk]
  refine boxA_of rfl fun S1 k1 n1 o1=>?_
  refine boxA_of rfl fun S2 k2 n2 o2=>?_
  refine boxA_of rfl fun S3 k3 n3 o3=>?_
  have kk:=(k1.trans k2).trans k3
  have p1:=(k3.2 _ (by omega)).trans ((k2.2 _ (by omega)).trans o1)
  have p2:=(k3.2 _ (by omega)).trans o2
  rw [shift_p,ld1_p o3 rfl rfl,lenS_aL]
  have no:∀ {E:AEnd},¬ (ss ≠ [] ∧ ss.getD 0 0 = s ∧ a = 0 ∧ tk = 5 ∧ chainS c ss = true) → E = .ret (.t [aI 0,aB false]) → ∀ {T:Store},Keep S T → E = .ret (aR (pathR c f0 f1 tk s a ss ks)) ∧ Keep S T:=fun h e T hT=>⟨by rw [pathR,if_neg h]; exact e,hT⟩
  show ∃ q:AV,_
  cases ss with
  | nil =>
    (repeat (first | with_reducible_and_instances (first | refine WJ ?_ | refine W (J_ldp o3 (by with_unfolding_all rfl) (by with_unfolding_all rfl)) ?_ | refine W (gd_T (Eq.refl true)) ?_ | refine W (gd_F (Eq.refl true)) ?_ | refine W (gd_nT (Eq.refl true)) ?_ | refine W (gd_nF (Eq.refl true)) ?_ | refine W (gd_T (decide_eq_true (show ((List.length ([]:List Int):Nat):Int) < 1 by decide))) ?_ | refine W (gd_F (decide_eq_true (show ((List.length ([]:List Int):Nat):Int) < 1 by decide))) ?_ | refine W (gd_nT (decide_eq_true (show ((List.length ([]:List Int):Nat):Int) < 1 by decide))) ?_ | refine W (gd_nF (decide_eq_true (show ((List.length ([]:List Int):Nat):Int) < 1 by decide))) ?_ | refine W (J_ldq (by with_unfolding_all rfl)) ?_)))
    exact no (fun h=>h.1 rfl) rfl kk
  | cons x sr =>
    have e1:decide ((((x :: sr).length:Nat):Int) < 1) = false:=decide_eq_false (by simp; omega)
    by_cases e2:¬ x = s
    · by_cases e3:decide (a = 0) = true <;> by_cases e4:decide (tk = 5) = true
      all_goals
        first | rw [Bool.not_eq_true] at e3 | skip
        first | rw [Bool.not_eq_true] at e4 | skip
        (repeat (first | with_reducible_and_instances (first | refine WJ ?_ | refine W (J_ldp o3 (by with_unfolding_all rfl) (by with_unfolding_all rfl)) ?_ | refine W (J_ix0) ?_ | refine W (gd_T e1) ?_ | refine W (gd_F e1) ?_ | refine W (gd_nT e1) ?_ | refine W (gd_nF e1) ?_ | refine W (gd_T (decide_eq_false e2)) ?_ | refine W (gd_F (decide_eq_false e2)) ?_ | refine W (gd_nT (decide_eq_false e2)) ?_ | refine W (gd_nF (decide_eq_false e2)) ?_ | refine W (gd_T (Eq.refl true)) ?_ | refine W (gd_F (Eq.refl true)) ?_ | refine W (gd_nT (Eq.refl true)) ?_ | refine W (gd_nF (Eq.refl true)) ?_ | refine W (gd_T (Eq.refl false)) ?_ | refine W (gd_F (Eq.refl false)) ?_ | refine W (gd_nT (Eq.refl false)) ?_ | refine W (gd_nF (Eq.refl false)) ?_ | refine W (gd_T e3) ?_ | refine W (gd_F e3) ?_ | refine W (gd_nT e3) ?_ | refine W (gd_nF e3) ?_ | refine W (gd_T e4) ?_ | refine W (gd_F e4) ?_ | refine W (gd_nT e4) ?_ | refine W (gd_nF e4) ?_ | refine W (J_ldq (by with_unfolding_all rfl)) ?_)))
        exact no (fun h=>e2 h.2.1) rfl kk
    have e2:=Decidable.not_not.1 e2
    by_cases e3:¬ a = 0
    · by_cases e4:decide (tk = 5) = true
      all_goals
        first | rw [Bool.not_eq_true] at e4 | skip
        (repeat (first | with_reducible_and_instances (first | refine WJ ?_ | refine W (J_ldp o3 (by with_unfolding_all rfl) (by with_unfolding_all rfl)) ?_ | refine W (J_ix0) ?_ | refine W (gd_T e1) ?_ | refine W (gd_F e1) ?_ | refine W (gd_nT e1) ?_ | refine W (gd_nF e1) ?_ | refine W (gd_T (decide_eq_true e2)) ?_ | refine W (gd_F (decide_eq_true e2)) ?_ | refine W (gd_nT (decide_eq_true e2)) ?_ | refine W (gd_nF (decide_eq_true e2)) ?_ | refine W (gd_T (Eq.refl true)) ?_ | refine W (gd_F (Eq.refl true)) ?_ | refine W (gd_nT (Eq.refl true)) ?_ | refine W (gd_nF (Eq.refl true)) ?_ | refine W (gd_T (Eq.refl false)) ?_ | refine W (gd_F (Eq.refl false)) ?_ | refine W (gd_nT (Eq.refl false)) ?_ | refine W (gd_nF (Eq.refl false)) ?_ | refine W (gd_T (decide_eq_false e3)) ?_ | refine W (gd_F (decide_eq_false e3)) ?_ | refine W (gd_nT (decide_eq_false e3)) ?_ | refine W (gd_nF (decide_eq_false e3)) ?_ | refine W (gd_T e4) ?_ | refine W (gd_F e4) ?_ | refine W (gd_nT e4) ?_ | refine W (gd_nF e4) ?_ | refine W (J_ldq (by with_unfolding_all rfl)) ?_)))
        exact no (fun h=>e3 h.2.2.1) rfl kk
    have e3:=Decidable.not_not.1 e3
    by_cases e4:¬ tk = 5
    · (repeat (first | with_reducible_and_instances (first | refine WJ ?_ | refine W (J_ldp o3 (by with_unfolding_all rfl) (by with_unfolding_all rfl)) ?_ | refine W (J_ix0) ?_ | refine W (gd_T e1) ?_ | refine W (gd_F e1) ?_ | refine W (gd_nT e1) ?_ | refine W (gd_nF e1) ?_ | refine W (gd_T (decide_eq_true e2)) ?_ | refine W (gd_F (decide_eq_true e2)) ?_ | refine W (gd_nT (decide_eq_true e2)) ?_ | refine W (gd_nF (decide_eq_true e2)) ?_ | refine W (gd_T (Eq.refl true)) ?_ | refine W (gd_F (Eq.refl true)) ?_ | refine W (gd_nT (Eq.refl true)) ?_ | refine W (gd_nF (Eq.refl true)) ?_ | refine W (gd_T (Eq.refl false)) ?_ | refine W (gd_F (Eq.refl false)) ?_ | refine W (gd_nT (Eq.refl false)) ?_ | refine W (gd_nF (Eq.refl false)) ?_ | refine W (gd_T (decide_eq_true e3)) ?_ | refine W (gd_F (decide_eq_true e3)) ?_ | refine W (gd_nT (decide_eq_true e3)) ?_ | refine W (gd_nF (decide_eq_true e3)) ?_ | refine W (gd_T (decide_eq_false e4)) ?_ | refine W (gd_F (decide_eq_false e4)) ?_ | refine W (gd_nT (decide_eq_false e4)) ?_ | refine W (gd_nF (decide_eq_false e4)) ?_ | refine W (J_ldq (by with_unfolding_all rfl)) ?_)))
      exact no (fun h=>e4 h.2.2.2.1) rfl kk
    have e4:=Decidable.not_not.1 e4
    (repeat (first | with_reducible_and_instances (first | refine WJ ?_ | refine W (J_ldp o3 (by with_unfolding_all rfl) (by with_unfolding_all rfl)) ?_ | refine W (J_ix0) ?_ | refine W (gd_T e1) ?_ | refine W (gd_F e1) ?_ | refine W (gd_nT e1) ?_ | refine W (gd_nF e1) ?_ | refine W (gd_T (decide_eq_true e2)) ?_ | refine W (gd_F (decide_eq_true e2)) ?_ | refine W (gd_nT (decide_eq_true e2)) ?_ | refine W (gd_nF (decide_eq_true e2)) ?_ | refine W (gd_T (Eq.refl true)) ?_ | refine W (gd_F (Eq.refl true)) ?_ | refine W (gd_nT (Eq.refl true)) ?_ | refine W (gd_nF (Eq.refl true)) ?_ | refine W (gd_T (Eq.refl false)) ?_ | refine W (gd_F (Eq.refl false)) ?_ | refine W (gd_nT (Eq.refl false)) ?_ | refine W (gd_nF (Eq.refl false)) ?_ | refine W (gd_T (decide_eq_true e3)) ?_ | refine W (gd_F (decide_eq_true e3)) ?_ | refine W (gd_nT (decide_eq_true e3)) ?_ | refine W (gd_nF (decide_eq_true e3)) ?_ | refine W (gd_T (decide_eq_true e4)) ?_ | refine W (gd_F (decide_eq_true e4)) ?_ | refine W (gd_nT (decide_eq_true e4)) ?_ | refine W (gd_nF (decide_eq_true e4)) ?_ | refine W (J_ldq (by with_unfolding_all rfl)) ?_)))
    obtain ⟨ss,hss⟩:∃ ss,ss = x :: sr:=⟨_,rfl⟩
    have hne:ss ≠ []:=by rw [hss]; simp
    have hg:ss.getD 0 0 = s:=by rw [hss]; exact e2
    rw [← hss] at hs o3 no ⊢
    have hpos:0 < ss.length:=List.length_pos_iff.2 hne
    clear hss e1
    refine loop125_0 (fun y z S'=>∃ i:Nat,z = aI i ∧ i + 1 ≤ ss.length ∧ Keep S S' ∧ S3.n ≤ S'.n ∧ S'.obj S.n = some (.cells 42 [c.cells] true) ∧ S'.obj S1.n = some (.cells 24 [[aI k,.v (.string nm),aI l,foL [f0,f1]]] true) ∧
        S'.obj S2.n = some (.cells 37 [[aI tk,aI s,aI a,aL aI ss,tnL ks]] true) ∧ Own S3.n S' y 24 ((List.replicate i f0).map Fo.row) ∧ ∀ j (h:j + 1 < ss.length),j < i → behindS c (ss[j]'(by omega)) ss[j + 1] = true)
      (fun _ z _=>ss.length - ((intA z).getD 0).toNat) ⟨0,rfl,hpos,kk,Nat.le_refl _,p1,p2,o3,.nl _ _ _,fun j _ h=>by omega⟩ ?_
    rintro y _ S4 ⟨i,rfl,hi,k4,n4,p1,p2,p3,w4,hch⟩ KE hKE
    unfold b125_0
    have hadd:∀ (T:Store) (K:AV → Store → Prop),bin .add 0 (aI i) (.v (.int .i64 1)) T K = K (aI (i + 1:Nat)) T:=fun T K=>bin_add (by omega) (by omega) 0
    have hi0:i < ss.length:=by omega
    rw [hadd,bin_lss,onB_v]
    refine gd_of (fun hlt=>?_) (fun hge=>?_)
    · have hlt:i + 1 < ss.length:=by have:=of_decide_eq_true hlt; omega
      show ∃ q:AV,_
      refine ⟨_,by rw [ldN_p (n:=8) p1 rfl]; exact ⟨rfl,rfl⟩,?_⟩
      refine ⟨_,by rw [shift_p]; exact ⟨rfl,rfl⟩,?_⟩
      refine ⟨_,by rw [ld1_p p3 rfl rfl]; exact ⟨rfl,rfl⟩,?_⟩
      refine ⟨_,by rw [ixS_aL hi0]; exact ⟨rfl,rfl⟩,?_⟩
      refine ⟨_,by rw [ld1_q]; exact ⟨rfl,rfl⟩,?_⟩
      refine ⟨_,by rw [shift_p]; exact ⟨rfl,rfl⟩,?_⟩
      refine ⟨_,by rw [ld1_p p3 rfl rfl]; exact ⟨rfl,rfl⟩,?_⟩
      refine ⟨_,by rw [hadd]; exact ⟨rfl,rfl⟩,?_⟩
      refine ⟨_,by rw [ixS_aL hlt]; exact ⟨rfl,rfl⟩,?_⟩
      refine ⟨_,by rw [ld1_q]; exact ⟨rfl,rfl⟩,?_⟩
      refine ⟨_,callF_ans (ans123 hc ss[i] ss[i + 1]) ⟨rfl,rfl⟩,?_⟩
      refine ⟨_,by rw [un_not]; exact ⟨rfl,rfl⟩,?_⟩
      rw [onB_v]
      refine gd_of (fun h=>?_) (fun h=>?_)
      · exact no (fun hq=>by rw [chain_no hlt (by simpa using h)] at hq; cases hq.2.2.2.2) rfl k4
      · have h:behindS c ss[i] ss[i + 1] = true:=by simpa using h
        rw [shift_p,ld1_p p2 rfl rfl,ixF0,ldN_q (Fo.row_len _)]
        refine bslA4 (Fo.row_len _) ?_
        refine w4.app (c:=f0.row) (by omega) (Fo.row_len _) (by simp; omega) (fun z' S5 w5 b5 hz=>?_) rfl
        obtain ⟨m5,hm5⟩:=hz
        have n5:=b5.1
        have old5:∀ x,x < S3.n → S5.obj x = S4.obj x:=fun x hx=>b5.2 x (by omega) (fun b m e=>by have:=w4.lt e; omega)
        rw [hadd]
        refine hKE _ _ _ ⟨i + 1,rfl,hlt,⟨by have:=k4.1; omega,fun x hx=>(old5 x (by have:=kk.1; omega)).trans (k4.2 x hx)⟩,by omega,(old5 _ (by omega)).trans p1,(old5 _ (by omega)).trans p2,(old5 _ (by omega)).trans p3,?_,fun j hj hji=>?_⟩ (by simp [intA]; omega)
        · rw [List.replicate_succ',List.map_append]
          exact w5
        · by_cases e:j = i
          · subst e; exact h
          · exact hch j hj (by omega)
    · have hge:i + 1 = ss.length:=by have:=of_decide_eq_false hge; omega
      have hsub:∀ (T:Store) (K:AV → Store → Prop),bin .sub 0 (aI ss.length) (.v (.int .i64 1)) T K = K (aI i) T:=fun T K=>(bin_sub (by omega) (by omega) 0).trans (by rw [show ((ss.length:Nat):Int) - 1 = i by omega])
      have hlast:ss.getD (ss.length - 1) 0 = ss[i]:=by simp [List.getD_eq_getElem?_getD,← hge,hi0]
      have hall:chainS c ss = true:=chain_yes fun j hj=>hch j hj (by omega)
      have hres:pathR c f0 f1 tk s a ss ks = Tn.accs c ks (List.replicate i f0 ++ [f1,foG]) (ss ++ [ss[i]]) 0:=by
        rw [pathR,if_pos ⟨hne,hg,e3,e4,hall⟩,hlast,show ss.length - 1 = i by omega]
      rw [hres]
      clear no
      have lix:∀ {P:AV → Prop},(∃ q,(∀ T,Keep S4 T → ixS 3 1 (aL aI ss) (aI i) T fun v S=>v = q ∧ S = T) ∧ P q) = P (.q [aI ss[i]] 0):=LJ_ix hi0
      (repeat (first | with_reducible_and_instances (first | refine WJ ?_ | refine W (LJ_ldp p2 (by omega) (by with_unfolding_all rfl) (by with_unfolding_all rfl)) ?_ | refine W (LJ_F1) ?_ | refine W (LJ_ldNq (Fo.row_len _)) ?_ | refine W (J_ldq (by with_unfolding_all rfl)) ?_) | refine J_cA (ans124) rfl rfl ?_ | refine C_A (ans124) rfl rfl ?_ | refine L_cA (ans124) rfl rfl ?_ | refine J_cA (ans81 fo2) rfl rfl ?_ | refine C_A (ans81 fo2) rfl rfl ?_ | refine L_cA (ans81 fo2) rfl rfl ?_))
      refine ⟨.l [f1.row,foG.row],fun T hT=>bslA42 (Fo.row_len _) (Fo.row_len _) ⟨rfl,rfl⟩,?_⟩
      refine Own.appL (ys:=[f1.row,foG.row]) w4 (by omega) (by simp [Fo.row_len]) (by simp; omega) (fun z5 S5 w5 b5 hz5=>?_) rfl
      have n5:=b5.1
      have old5:∀ x,x < S3.n → S5.obj x = S4.obj x:=fun x hx=>b5.2 x (by omega) (fun b m e=>by have:=w4.lt e; omega)
      have q1:=(old5 _ (by omega)).trans p1
      have q3:=(old5 _ (by omega)).trans p3
      have lix:∀ {P:AV → Prop},(∃ q,(∀ T,Keep S5 T → ixS 3 1 (aL aI ss) (aI i) T fun v S=>v = q ∧ S = T) ∧ P q) = P (.q [aI ss[i]] 0):=LJ_ix hi0
      have lsub:∀ {P:AV → Prop},(∃ q,(∀ T,Keep S5 T → bin .sub 0 (aI ss.length) (.v (.int .i64 1)) T fun v S=>v = q ∧ S = T) ∧ P q) = P (aI i):=LJ_of (op:=fun T K=>bin .sub 0 (aI ss.length) (.v (.int .i64 1)) T K) fun T hT K=>hsub T K
      (repeat (first | with_reducible_and_instances (first | refine WJ ?_ | refine W (LJ_ldp q3 (by omega) (by with_unfolding_all rfl) (by with_unfolding_all rfl)) ?_ | refine W (lsub) ?_ | refine W (lix) ?_ | refine W (LJ_ldq (by with_unfolding_all rfl)) ?_ | refine W (J_ldq (by with_unfolding_all rfl)) ?_)))
      refine ⟨.l [[aI ss[i]]],fun T hT=>bsl1 rfl (fun _ h=>by cases h) ⟨rfl,rfl⟩,?_⟩
      refine Own.appL (n:=S5.n) (e:=3) (es:=[]) (ys:=ss.map fun a=>[aI a]) (.nl _ _ _) (Nat.le_refl _) (by simp) (by simp; omega) (fun z6 S6 w6 b6 hz6=>?_) rfl
      have n6:=b6.1
      rw [List.nil_append] at w6
      have old6:∀ x,x < S5.n → S6.obj x = S5.obj x:=fun x hx=>b6.2 x hx (fun b m e=>by cases e)
      have r3:=(old6 _ (by omega)).trans q3
      refine ⟨fun T hT=>bsl1 rfl (fun _ h=>by cases h) ⟨rfl,rfl⟩,fun T hT=>by rw [ld1_q]; exact ⟨rfl,rfl⟩,fun T hT=>by rw [ixS_aL hi0]; exact ⟨rfl,rfl⟩,fun T hT=>by rw [hsub]; exact ⟨rfl,rfl⟩,fun T hT=>by rw [ld1_p ((hT.2 _ (by omega)).trans r3) rfl rfl]; exact ⟨rfl,rfl⟩,fun T hT=>⟨rfl,rfl⟩,?_⟩
      refine Own.appL (ys:=[[aI ss[i]]]) w6 (by omega) (by simp) (by simp; omega) (fun z7 S7 w7 b7 hz7=>?_) rfl
      have n7:=b7.1
      have old7:∀ x,x < S5.n → S7.obj x = S5.obj x:=fun x hx=>(b7.2 x (by omega) (fun b m e=>by have:=w6.lt e; omega)).trans (old6 x hx)
      have w5':Own S3.n S7 z5 24 ((List.replicate i f0).map Fo.row ++ [f1.row,foG.row]):=w5.same (by omega) fun x _ hx=>old7 x hx
      have t1:=(old7 _ (by omega)).trans q1
      have t3:=(old7 _ (by omega)).trans q3
      rw [ldN_p (n:=8) t1 rfl,shift_p,ld1_p t3 rfl rfl]
      have e5:(List.replicate i f0).map Fo.row ++ [f1.row,foG.row] = (List.replicate i f0 ++ [f1,foG]).map Fo.row:=by rw [List.map_append]; rfl
      have e7:(ss.map fun a=>[aI a]) ++ [[aI ss[i]]] = (ss ++ [ss[i]]).map fun a=>[aI a]:=by rw [List.map_append]; rfl
      rw [e5] at w5'
      rw [e7] at w7
      have kS7:Keep S S7:=⟨by have:=k4.1; omega,fun x hx=>(old7 x (by have:=kk.1; omega)).trans ((old5 x (by have:=kk.1; omega)).trans (k4.2 x hx))⟩
      refine callF_frz (args:=[c.av,z5,z7,tnL ks]) (args2:=[c.av,foL (List.replicate i f0 ++ [f1,foG]),aL aI (ss ++ [ss[i]]),tnL ks]) (newer S3.n) rfl (fun j u u2 e1 e2=>?_) (ans122 hk IH (fun f hf=>?_) _) ?_
      · match j with
        | 0=>cases e1; cases e2; exact Ci.tr' c _ _
        | 1=>cases e1; cases e2; exact own_fo w5' (Nat.le_refl _)
        | 2=>cases e1; cases e2; exact own_in w7 (by omega)
        | 3=>cases e1; cases e2; exact tnL_tr _ _ _
        | j + 4=>simp at e1
      · rcases List.mem_append.1 hf with hf | hf
        · rw [(List.mem_replicate.1 hf).2]; exact h0
        · simp only [List.mem_cons,List.not_mem_nil,or_false] at hf
          rcases hf with rfl | rfl
          · exact h1
          · exact .o _ _ (by decide) (.c _ (by decide))
      · rw [extr_t rfl,extr_t rfl]
        exact ⟨rfl,kS7.frz (by have:=kk.1; omega)⟩
noncomputable def loopR (c:Ci) (f0:Fo) (tk s a:Int) (ss:List Int) (ks:List Tn):Int × Bool :=
  if ss ≠ [] ∧ ss.getD 0 0 = s ∧ 0 ≤ a ∧ a < ss.length ∧ tk = 6 ∧ behindS c (ss.getD (ss.length - 1) 0) (ss.getD a.toNat 0) = true ∧ chainS c ss = true ∧ metS c (ss.drop a.toNat) = true then Tn.accs c ks (List.replicate ss.length f0) ss 0 else (0,false)
theorem ans126 {c:Ci} (hc:Cs c) {ks:List Tn} (hk:ks.length ≤ 1000000) (IH:∀ t ∈ ks,∀ f,Pu f → Ans Tryz.prog 80 [c.av,f.av,t.av] (aR (t.acc c f))) {f0:Fo} (h0:Pu f0) (k l:Int) (nm:ByteArray)
    {ss:List Int} (hs:ss.length ≤ 1000000) (tk s a:Int):Ans Tryz.prog 126 [c.av,(Fo.mk k nm l [f0]).av,(Tn.mk tk s a ss ks).av] (aR (loopR c f0 tk s a ss ks)):=by
  intro S
  refine ACalls.ansT (calls126 ?_)
  unfold m126
  rw [Fo.av,Fo.row_mk,Tn.av,Tn.row_mk]
  refine boxA_of rfl fun S1 k1 n1 o1=>?_
  refine boxA_of rfl fun S2 k2 n2 o2=>?_
  refine boxA_of rfl fun S3 k3 n3 o3=>?_
  have kk:=(k1.trans k2).trans k3
  have p1:=(k3.2 _ (by omega)).trans ((k2.2 _ (by omega)).trans o1)
  have p2:=(k3.2 _ (by omega)).trans o2
  rw [shift_p,ld1_p o3 rfl rfl,lenS_aL]
  have no:∀ {E:AEnd},¬ (ss ≠ [] ∧ ss.getD 0 0 = s ∧ 0 ≤ a ∧ a < ss.length ∧ tk = 6 ∧ behindS c (ss.getD (ss.length - 1) 0) (ss.getD a.toNat 0) = true ∧ chainS c ss = true ∧ metS c (ss.drop a.toNat) = true) → E = .ret (.t [aI 0,aB false]) → ∀ {T:Store},Keep S T → E = .ret (aR (loopR c f0 tk s a ss ks)) ∧ Keep S T:=fun h e T hT=>⟨by rw [loopR,if_neg h]; exact e,hT⟩
  show ∃ q:AV,_
  refine W J_lss ?_
  by_cases hne:ss = []
  · have e1:decide (((ss.length:Nat):Int) < 1) = true:=decide_eq_true (by simp [hne])
    rw [e1]
    (repeat (first | with_reducible_and_instances (first | refine WJ ?_ | refine W (J_ldp o3 (by with_unfolding_all rfl) (by with_unfolding_all rfl)) ?_ | refine W (J_ldq (by with_unfolding_all rfl)) ?_)))
    exact no (fun h=>h.1 hne) rfl kk
  have hpos:0 < ss.length:=List.length_pos_iff.2 hne
  rw [show decide (((ss.length:Nat):Int) < 1) = false from decide_eq_false (by omega)]
  have hx0:∀ {e:Nat} {S0:Store} {P:AV → Prop},(∃ q,(ixS e 1 (aL aI ss) (.v (.int .i64 0)) S0 fun v S=>v = q ∧ S = S0) ∧ P q) = P (.q [aI (ss.getD 0 0)] 0):=by
    intro e S0 P
    match ss,hne with
    | x :: sr,_=>exact J_ix0
  (repeat (first | with_reducible_and_instances (first | refine WJ ?_ | refine W (J_ldp o3 (by with_unfolding_all rfl) (by with_unfolding_all rfl)) ?_ | refine W (hx0) ?_ | refine W (J_ldq (by with_unfolding_all rfl)) ?_)))
  by_cases e2:¬ ss.getD 0 0 = s
  · rw [decide_eq_false e2,Bool.not_false]
    (repeat (first | with_reducible_and_instances (first | refine WJ ?_ | refine W (J_ldp o3 (by with_unfolding_all rfl) (by with_unfolding_all rfl)) ?_ | refine W (J_ldq (by with_unfolding_all rfl)) ?_)))
    exact no (fun h=>e2 h.2.1) rfl kk
  have e2:=Decidable.not_not.1 e2
  rw [decide_eq_true e2,Bool.not_true]
  (repeat (first | with_reducible_and_instances (first | refine WJ ?_ | refine W (J_ldp o3 (by with_unfolding_all rfl) (by with_unfolding_all rfl)) ?_ | refine W (J_ldq (by with_unfolding_all rfl)) ?_)))
  by_cases e3:a < 0
  · rw [decide_eq_true e3]
    (repeat (first | with_reducible_and_instances (first | refine WJ ?_ | refine W (J_ldp o3 (by with_unfolding_all rfl) (by with_unfolding_all rfl)) ?_ | refine W (J_ldq (by with_unfolding_all rfl)) ?_)))
    exact no (fun h=>by have:=h.2.2.1; omega) rfl kk
  rw [decide_eq_false e3]
  (repeat (first | with_reducible_and_instances (first | refine WJ ?_ | refine W (J_ldp o3 (by with_unfolding_all rfl) (by with_unfolding_all rfl)) ?_ | refine W (J_ldq (by with_unfolding_all rfl)) ?_)))
  by_cases e4:((ss.length:Nat):Int) ≤ a
  · rw [decide_eq_true e4]
    (repeat (first | with_reducible_and_instances (first | refine WJ ?_ | refine W (J_ldp o3 (by with_unfolding_all rfl) (by with_unfolding_all rfl)) ?_ | refine W (J_ldq (by with_unfolding_all rfl)) ?_)))
    exact no (fun h=>by have:=h.2.2.2.1; omega) rfl kk
  rw [decide_eq_false e4]
  (repeat (first | with_reducible_and_instances (first | refine WJ ?_ | refine W (J_ldp o3 (by with_unfolding_all rfl) (by with_unfolding_all rfl)) ?_ | refine W (J_ldq (by with_unfolding_all rfl)) ?_)))
  by_cases e5:¬ tk = 6
  · rw [decide_eq_false e5,Bool.not_false]
    (repeat (first | with_reducible_and_instances (first | refine WJ ?_ | refine W (J_ldp o3 (by with_unfolding_all rfl) (by with_unfolding_all rfl)) ?_ | refine W (J_ldq (by with_unfolding_all rfl)) ?_)))
    exact no (fun h=>e5 h.2.2.2.2.1) rfl kk
  have e5:=Decidable.not_not.1 e5
  rw [decide_eq_true e5,Bool.not_true]
  obtain ⟨i0,hi0⟩:∃ i0:Nat,ss.length = i0 + 1:=⟨ss.length - 1,by omega⟩
  obtain ⟨j,rfl⟩:=Int.eq_ofNat_of_zero_le (show 0 ≤ a by omega)
  have hj:j < ss.length:=by omega
  have hi1:i0 < ss.length:=by omega
  have lsub:∀ {S0:Store} {P:AV → Prop},(∃ q,(bin .sub 0 (aI ss.length) (.v (.int .i64 1)) S0 fun v S=>v = q ∧ S = S0) ∧ P q) = P (aI i0):=fun {S0 P}=>J_of (op:=fun K=>bin .sub 0 (aI ss.length) (.v (.int .i64 1)) S0 K) fun K=>(bin_sub (by omega) (by omega) 0).trans (by rw [show ((ss.length:Nat):Int) - 1 = i0 by omega])
  have hlast:ss.getD (ss.length - 1) 0 = ss[i0]:=by simp [List.getD_eq_getElem?_getD,hi0]
  have hat:ss.getD (((j:Nat):Int)).toNat 0 = ss[j]:=by simp [List.getD_eq_getElem?_getD,hj]
  (repeat (first | with_reducible_and_instances (first | refine WJ ?_ | refine W (J_ldp o3 (by with_unfolding_all rfl) (by with_unfolding_all rfl)) ?_ | refine W (lsub) ?_ | refine W (J_ix hi1) ?_ | refine W (J_ix hj) ?_ | refine W (J_ldN (n:=8) p1 (by with_unfolding_all rfl)) ?_ | refine W (J_ldq (by with_unfolding_all rfl)) ?_) | refine J_cA (ans123 hc ss[i0] ss[j]) rfl rfl ?_ | refine C_A (ans123 hc ss[i0] ss[j]) rfl rfl ?_))
  cases e6:behindS c ss[i0] ss[j] with
  | false =>
    rw [Bool.not_false]
    (repeat (first | with_reducible_and_instances (first | refine WJ ?_ | refine W (J_ldp o3 (by with_unfolding_all rfl) (by with_unfolding_all rfl)) ?_ | refine W (J_ldq (by with_unfolding_all rfl)) ?_)))
    exact no (fun h=>by rw [hlast,hat,e6] at h; cases h.2.2.2.2.2.1) rfl kk
  | true =>
    rw [Bool.not_true]
    (repeat (first | with_reducible_and_instances (first | refine WJ ?_ | refine W (J_ldp o3 (by with_unfolding_all rfl) (by with_unfolding_all rfl)) ?_ | refine W (J_ldq (by with_unfolding_all rfl)) ?_)))
    have hg:=e2
    have no2:∀ {E:AEnd},¬ (chainS c ss = true ∧ metS c (ss.drop j) = true) → E = .ret (.t [aI 0,aB false]) → ∀ {T:Store},Keep S T → E = .ret (aR (loopR c f0 tk s j ss ks)) ∧ Keep S T:=fun h e T hT=>no (fun hq=>h ⟨hq.2.2.2.2.2.2.1,by have:=hq.2.2.2.2.2.2.2; rwa [Int.toNat_natCast] at this⟩) e hT
    have yes:chainS c ss = true → metS c (ss.drop j) = true → loopR c f0 tk s j ss ks = Tn.accs c ks (List.replicate ss.length f0) ss 0:=fun h1 h2=>by
      rw [loopR,if_pos ⟨hne,hg,by omega,by omega,e5,by rw [hlast,hat]; exact e6,h1,by rw [Int.toNat_natCast]; exact h2⟩]
    clear no
    refine loop126_0 (fun y z S'=>∃ i:Nat,z = aI i ∧ i ≤ ss.length ∧ Keep S S' ∧ S3.n ≤ S'.n ∧ S'.obj S.n = some (.cells 42 [c.cells] true) ∧ S'.obj S1.n = some (.cells 24 [[aI k,.v (.string nm),aI l,foL [f0]]] true) ∧
        S'.obj S2.n = some (.cells 37 [[aI tk,aI s,aI j,aL aI ss,tnL ks]] true) ∧ Own S3.n S' y 24 ((List.replicate i f0).map Fo.row) ∧ ∀ m (h:m + 1 < ss.length),m + 1 < i → behindS c (ss[m]'(by omega)) ss[m + 1] = true)
      (fun _ z _=>ss.length - ((intA z).getD 0).toNat) ⟨0,rfl,Nat.zero_le _,kk,Nat.le_refl _,p1,p2,o3,.nl _ _ _,fun j _ h=>by omega⟩ ?_
    rintro y _ S4 ⟨i,rfl,hi,k4,n4,p1,p2,p3,w4,hch⟩ KE hKE
    unfold b126_0
    have hadd:∀ (T:Store) (K:AV → Store → Prop),bin .add 0 (aI i) (.v (.int .i64 1)) T K = K (aI (i + 1:Nat)) T:=fun T K=>bin_add (by omega) (by omega) 0
    rw [bin_lss,onB_v]
    refine gd_of (fun hlt=>?_) (fun hge=>?_)
    · have hlt:i < ss.length:=by have:=of_decide_eq_true hlt; omega
      have step:(∀ m,m + 1 = i → (h:m < ss.length) → behindS c ss[m] ss[i] = true) → shift (.p S1.n 0 0) 3 S4 fun v T=>ld1 v T fun v T=>ixS 24 4 v (.v (.int .i64 0)) T fun v T=>ldN 4 v T fun v T=>bslN 24 4 1 fo0r [(0,v)] T fun v T=>appS 24 4 56 y v T fun v T=>bin .add 0 (aI i) (.v (.int .i64 1)) T fun v2 T=>KE 131 (env126_0 (.p S.n 0 0) (.p S1.n 0 0) (.p S2.n 0 0) (aI ss.length) v v2) T:=by
        intro hb
        rw [shift_p,ld1_p p2 rfl rfl,ixF0,ldN_q (Fo.row_len _)]
        refine bslA4 (Fo.row_len _) ?_
        refine w4.app (c:=f0.row) (by omega) (Fo.row_len _) (by simp; omega) (fun z' S5 w5 b5 hz=>?_) rfl
        obtain ⟨m5,hm5⟩:=hz
        have n5:=b5.1
        have old5:∀ x,x < S3.n → S5.obj x = S4.obj x:=fun x hx=>b5.2 x (by omega) (fun b m e=>by have:=w4.lt e; omega)
        rw [hadd]
        refine hKE _ _ _ ⟨i + 1,rfl,hlt,⟨by have:=k4.1; omega,fun x hx=>(old5 x (by have:=kk.1; omega)).trans (k4.2 x hx)⟩,by omega,(old5 _ (by omega)).trans p1,(old5 _ (by omega)).trans p2,(old5 _ (by omega)).trans p3,?_,fun m hm hmi=>?_⟩ (by simp [intA]; omega)
        · rw [List.replicate_succ',List.map_append]
          exact w5
        · by_cases e:m + 1 = i
          · subst e; exact hb m rfl (by omega)
          · exact hch m hm (by omega)
      show ∃ q:AV,_
      refine W J_gtr ?_
      by_cases hi00:i = 0
      · rw [show decide ((0:Int) < (i:Int)) = false from decide_eq_false (by omega)]
        (repeat (first | with_reducible_and_instances (first | refine WJ ?_ | refine W (J_ldq (by with_unfolding_all rfl)) ?_)))
        exact step fun m hm=>by omega
      · obtain ⟨m,rfl⟩:∃ m,i = m + 1:=⟨i - 1,by omega⟩
        have hm:m < ss.length:=by omega
        rw [show decide ((0:Int) < ((m + 1:Nat):Int)) = true from decide_eq_true (by omega)]
        have lsb:∀ {P:AV → Prop},(∃ q,(bin .sub 0 (aI (m + 1:Nat)) (.v (.int .i64 1)) S4 fun v S=>v = q ∧ S = S4) ∧ P q) = P (aI m):=J_of (op:=fun K=>bin .sub 0 (aI (m + 1:Nat)) (.v (.int .i64 1)) S4 K) fun K=>(bin_sub (by omega) (by omega) 0).trans (by rw [show (((m + 1:Nat):Nat):Int) - 1 = m by omega])
        cases e7:behindS c ss[m] ss[m + 1] with
        | false =>
          (repeat (first | with_reducible_and_instances (first | refine WJ ?_ | refine W (J_ldp p3 (by with_unfolding_all rfl) (by with_unfolding_all rfl)) ?_ | refine W (J_ldN (n:=8) p1 (by with_unfolding_all rfl)) ?_ | refine W (lsb) ?_ | refine W (J_ix hm) ?_ | refine W (J_ix hlt) ?_ | refine W (gd_T e7) ?_ | refine W (gd_F e7) ?_ | refine W (gd_nT e7) ?_ | refine W (gd_nF e7) ?_ | refine W (J_ldq (by with_unfolding_all rfl)) ?_) | refine J_cA (ans123 hc ss[m] ss[m + 1]) rfl rfl ?_ | refine C_A (ans123 hc ss[m] ss[m + 1]) rfl rfl ?_))
          exact no2 (fun hq=>by rw [chain_no hlt e7] at hq; cases hq.1) rfl k4
        | true =>
          (repeat (first | with_reducible_and_instances (first | refine WJ ?_ | refine W (J_ldp p3 (by with_unfolding_all rfl) (by with_unfolding_all rfl)) ?_ | refine W (J_ldN (n:=8) p1 (by with_unfolding_all rfl)) ?_ | refine W (lsb) ?_ | refine W (J_ix hm) ?_ | refine W (J_ix hlt) ?_ | refine W (gd_T e7) ?_ | refine W (gd_F e7) ?_ | refine W (gd_nT e7) ?_ | refine W (gd_nF e7) ?_ | refine W (J_ldq (by with_unfolding_all rfl)) ?_) | refine J_cA (ans123 hc ss[m] ss[m + 1]) rfl rfl ?_ | refine C_A (ans123 hc ss[m] ss[m + 1]) rfl rfl ?_))
          exact step fun m' hm' hl=>by
            have:m' = m:=by omega
            subst this
            exact e7
    · have hge:i = ss.length:=by have:=of_decide_eq_false hge; omega
      subst hge
      have hchain:chainS c ss = true:=chain_yes fun m hm=>hch m hm hm
      have hfair:=hc.ok.fair
      have hmx:ss.length ≤ 1000000:=hs
      refine loop126_1 (fun z S'=>S' = S4 ∧ ∃ i:Nat,z = aI i ∧ i ≤ c.fair.length ∧ ∀ m (h:m < c.fair.length),m < i → ((ss.drop j).any fun s=>isB c s c.fair[m]) = true) (fun z _=>c.fair.length - ((intA z).getD 0).toNat) ⟨rfl,0,rfl,Nat.zero_le _,fun m _ h=>by omega⟩ ?_
      rintro _ S4 ⟨rfl,i,rfl,hif,hmet⟩ KE1 hKE1
      unfold b126_1
      rw [shift_p,ld1_p p1 rfl rfl,lenS_aL,bin_lss,onB_v]
      refine gd_of (fun hlt=>?_) (fun hge=>?_)
      · have hlt:i < c.fair.length:=by have:=of_decide_eq_true hlt; omega
        rw [shift_p,ld1_p p3 rfl rfl]
        refine loop126_2 (fun y z S'=>S' = S4 ∧ ∃ r:Nat,z = aI r ∧ j ≤ r ∧ r ≤ ss.length ∧ y = aB (((ss.drop j).take (r - j)).any fun s=>isB c s c.fair[i])) (fun _ z _=>ss.length - ((intA z).getD 0).toNat) ⟨rfl,j,rfl,Nat.le_refl _,by omega,by simp⟩ ?_
        rintro _ _ S4 ⟨rfl,r,rfl,hjr,hr,rfl⟩ KE2 hKE2
        unfold b126_2
        rw [bin_lss,onB_v]
        refine gd_of (fun hlr=>?_) (fun hgr=>?_)
        · have hlr:r < ss.length:=by have:=of_decide_eq_true hlr; omega
          have hd:r - j < (ss.drop j).length:=by simp; omega
          have htk:((ss.drop j).take (r + 1 - j)).any (fun s=>isB c s c.fair[i]) = (((ss.drop j).take (r - j)).any (fun s=>isB c s c.fair[i]) || isB c ss[r] c.fair[i]):=by
            rw [show r + 1 - j = (r - j) + 1 by omega,List.take_add_one,List.any_append,List.getElem?_eq_getElem hd]
            have:(ss.drop j)[r - j] = ss[r]:=by rw [List.getElem_drop]; congr 1; omega
            simp [this]
          have hadd:∀ (T:Store) (K:AV → Store → Prop),bin .add 0 (aI r) (.v (.int .i64 1)) T K = K (aI (r + 1:Nat)) T:=fun T K=>bin_add (by omega) (by omega) 0
          show onB _ _
          rw [onB_v]
          refine gd_of (fun hm=>?_) (fun hm=>?_)
          · show ∃ q:AV,_
            refine W J_mvS ?_
            rw [hadd]
            exact hKE2 _ _ _ ⟨rfl,r + 1,rfl,by omega,hlr,by rw [htk,hm]; rfl⟩ (by simp [intA]; omega)
          · show ∃ q:AV,_
            (repeat (first | with_reducible_and_instances (first | refine WJ ?_ | refine W (J_ldp p3 (by with_unfolding_all rfl) (by with_unfolding_all rfl)) ?_ | refine W (J_ldp p1 (by with_unfolding_all rfl) (by with_unfolding_all rfl)) ?_ | refine W (J_ldN (n:=8) p1 (by with_unfolding_all rfl)) ?_ | refine W (J_ix hlr) ?_ | refine W (J_ix hlt) ?_ | refine W (J_ldq (by with_unfolding_all rfl)) ?_) | refine J_cA (ans68 hc.ok (s:=ss[r]) (hfair.1 _ (List.getElem_mem hlt))) rfl rfl ?_ | refine C_A (ans68 hc.ok (s:=ss[r]) (hfair.1 _ (List.getElem_mem hlt))) rfl rfl ?_))
            rw [hadd]
            exact hKE2 _ _ _ ⟨rfl,r + 1,rfl,by omega,hlr,by rw [htk,hm,Bool.false_or]⟩ (by simp [intA]; omega)
        · have hgr:r = ss.length:=by have:=of_decide_eq_false hgr; omega
          subst hgr
          rw [List.take_of_length_le (by simp),un_not,onB_v]
          refine gd_of (fun h=>?_) (fun h=>?_)
          · exact no2 (fun hq=>by
              have:=List.all_eq_true.1 hq.2 _ (List.getElem_mem hlt)
              rw [this] at h; cases h) rfl k4
          · rw [bin_add (by omega) (by omega)]
            exact hKE1 _ _ ⟨rfl,i + 1,rfl,hlt,lt_step (p:=fun l=>((ss.drop j).any fun s=>isB c s l) = true) (hi:=hlt) hmet (by simpa using h)⟩ (by simp [intA]; omega)
      · have hge:i = c.fair.length:=by have:=of_decide_eq_false hge; omega
        subst hge
        rw [yes hchain (all_lt fun m hm=>hmet m hm hm)]
        rw [ldN_p (n:=8) p1 rfl,shift_p,ld1_p p3 rfl rfl,shift_p,ld1_p p3 rfl rfl]
        refine callF_frz (args:=[c.av,y,aL aI ss,tnL ks]) (args2:=[c.av,foL (List.replicate ss.length f0),aL aI ss,tnL ks]) (newer S3.n) rfl (fun j u u2 e1 e2=>?_) (ans122 hk IH (fun f hf=>?_) _) ?_
        · match j with
          | 0=>cases e1; cases e2; exact Ci.tr' c _ _
          | 1=>cases e1; cases e2; exact own_fo w4 (Nat.le_refl _)
          | 2=>cases e1; cases e2; exact treeI _ _ _
          | 3=>cases e1; cases e2; exact tnL_tr _ _ _
          | j + 4=>simp at e1
        · rw [(List.mem_replicate.1 hf).2]; exact h0
        · rw [extr_t rfl,extr_t rfl]
          exact ⟨rfl,k4.frz (by have:=kk.1; omega)⟩
def leafB (j tk a:Int) (ss:List Int) (ks:List Tn):Bool:=decide (tk = j) && decide (a = 0 ∧ ss.length = 0 ∧ ks.length = 0)
theorem leaf_eq (j tk a:Int) (ss:List Int) (ks:List Tn):decide (tk = j ∧ a = 0 ∧ ss = [] ∧ ks.map Tn.st = []) = leafB j tk a ss ks:=by
  unfold leafB
  rw [← Bool.decide_and]
  refine decide_eq_decide.2 ?_
  rw [List.length_eq_zero_iff,List.length_eq_zero_iff,List.map_eq_nil_iff]
noncomputable def runA (c:Ci) (ks:List Tn):(Int × Bool) ⊕ (List Fo × List Int) → Int × Bool
  | .inl r=>r
  | .inr p=>Tn.accs c ks p.1 p.2 0
section
variable {c:Ci} {tk s a l:Int} {ss:List Int} {ks:List Tn} {nm:ByteArray} {fs:List Fo}
theorem acc_mk {f:Fo}:Tn.acc c (.mk tk s a ss ks) f = runA c ks (planA c f tk s a ss (ks.map Tn.st)):=by
  rw [Tn.acc]
  cases planA c f tk s a ss (ks.map Tn.st) <;> rfl
theorem runA_ite {p:Prop} [Decidable p] {x:List Fo} {y:List Int} {r:Int × Bool}:runA c ks (if p then .inr (x,y) else .inl r) = if p then Tn.accs c ks x y 0 else r:=by split <;> rfl
theorem acc_inv (f:Fo) (h:validS c s = false):Tn.acc c (.mk tk s a ss ks) f = (0,false):=by
  obtain ⟨k,n,l,fs⟩:=f
  rw [acc_mk,planA,if_pos h]; first | rfl | (simp [runA]; done)
theorem acc_1 (h:validS c s = true):Tn.acc c (.mk tk s a ss ks) (.mk 1 nm l fs) = (0,false):=by
  rw [acc_mk,planA,if_neg (by simp [h]),if_pos rfl]; first | rfl | (simp [runA]; done)
theorem acc_2 (h:validS c s = true):Tn.acc c (.mk tk s a ss ks) (.mk 2 nm l fs) = (0,leafB 1 tk a ss ks):=by
  rw [acc_mk,planA,if_neg (by simp [h]),if_neg (by decide),if_pos rfl,leaf_eq]; first | rfl | (simp [runA]; done)
theorem acc_3 (h:validS c s = true):Tn.acc c (.mk tk s a ss ks) (.mk 3 nm l fs) = (0,leafB 1 tk a ss ks && isB c s l):=by
  rw [acc_mk,planA,if_neg (by simp [h]),if_neg (by decide),if_neg (by decide),if_pos rfl,leaf_eq]; first | rfl | (simp [runA]; done)
theorem acc_4 {n2:ByteArray} {l2:Int} {f2:List Fo} (h:validS c s = true):Tn.acc c (.mk tk s a ss ks) (.mk 4 nm l [.mk 3 n2 l2 f2]) = (0,leafB 1 tk a ss ks && !isB c s l2):=by
  rw [acc_mk,planA,if_neg (by simp [h]),if_neg (by decide),if_neg (by decide),if_neg (by decide),if_pos rfl,leaf_eq]; first | rfl | (simp [runA]; done)
theorem acc_5 (h:validS c s = true):Tn.acc c (.mk tk s a ss ks) (.mk 5 nm l fs) = if tk = 2 ∧ a = 0 ∧ ss = [] then Tn.accs c ks fs [s,s] 0 else (0,false):=by
  rw [acc_mk,planA,if_neg (by simp [h]),if_neg (by decide),if_neg (by decide),if_neg (by decide),if_neg (by decide),if_pos rfl]
  exact runA_ite
theorem acc_6 (h:validS c s = true):Tn.acc c (.mk tk s a ss ks) (.mk 6 nm l fs) = if tk = 3 ∧ 0 ≤ a ∧ a ≤ 1 ∧ ss = [] then Tn.accs c ks [fs.getD a.toNat fo0] [s] 0 else (0,false):=by
  rw [acc_mk,planA,if_neg (by simp [h]),if_neg (by decide),if_neg (by decide),if_neg (by decide),if_neg (by decide),if_neg (by decide),if_pos rfl]
  exact runA_ite
theorem acc_9 (h:validS c s = true):Tn.acc c (.mk tk s a ss ks) (.mk 9 nm l fs) = if tk = 4 ∧ a = 0 ∧ ss = [] ∧ (ks.map Tn.st).length = 2 ∧ behindS c s ((ks.map Tn.st).getD 0 0) = true then Tn.accs c ks [fs.getD 0 fo0,foG] [(ks.map Tn.st).getD 0 0,(ks.map Tn.st).getD 0 0] 0 else (0,false):=by
  rw [acc_mk,planA,if_neg (by simp [h]),if_neg (by decide),if_neg (by decide),if_neg (by decide),if_neg (by decide),if_neg (by decide),if_neg (by decide),if_pos rfl]
  exact runA_ite
theorem acc_11 {f:Fo} (h:validS c s = true):Tn.acc c (.mk tk s a ss ks) (.mk 11 nm l [f]) = pathR c fo2 f tk s a ss ks:=by
  rw [acc_mk,planA,if_neg (by simp [h]),if_neg (by decide),if_neg (by decide),if_neg (by decide),if_neg (by decide),if_neg (by decide),if_neg (by decide),if_neg (by decide),if_pos (.inl rfl),pathR,if_pos rfl,if_pos rfl]
  exact runA_ite
theorem acc_15 {f g:Fo} (h:validS c s = true):Tn.acc c (.mk tk s a ss ks) (.mk 15 nm l [f,g]) = pathR c f g tk s a ss ks:=by
  rw [acc_mk,planA,if_neg (by simp [h]),if_neg (by decide),if_neg (by decide),if_neg (by decide),if_neg (by decide),if_neg (by decide),if_neg (by decide),if_neg (by decide),if_pos (.inr rfl),pathR]
  exact runA_ite
theorem acc_13 {f:Fo} (h:validS c s = true):Tn.acc c (.mk tk s a ss ks) (.mk 13 nm l [f]) = loopR c f tk s a ss ks:=by
  rw [acc_mk,planA,if_neg (by simp [h]),if_neg (by decide),if_neg (by decide),if_neg (by decide),if_neg (by decide),if_neg (by decide),if_neg (by decide),if_neg (by decide),if_neg (by decide),if_pos rfl,loopR]
  exact runA_ite
theorem acc_17 {f g:Fo} (h:validS c s = true):Tn.acc c (.mk tk s a ss ks) (.mk 17 nm l [f,g]) = if tk = 3 ∧ 0 ≤ a ∧ a ≤ 1 ∧ ss = [] then Tn.accs c ks [if a = 0 then foOne 13 g else foTwo 15 g (foTwo 5 f g)] [s] 0 else (0,false):=by
  rw [acc_mk,planA,if_neg (by simp [h]),if_neg (by decide),if_neg (by decide),if_neg (by decide),if_neg (by decide),if_neg (by decide),if_neg (by decide),if_neg (by decide),if_neg (by decide),if_neg (by decide),if_pos rfl]
  exact runA_ite
theorem acc_t {k:Int} (hk:k = 10 ∨ k = 12 ∨ k = 14 ∨ k = 16 ∨ k = 18) (h:validS c s = true):Tn.acc c (.mk tk s a ss ks) (.mk k nm l fs) = (1,leafB 7 tk a ss ks):=by
  rw [acc_mk,planA,if_neg (by simp [h]),if_neg (by omega),if_neg (by omega),if_neg (by omega),if_neg (by omega),if_neg (by omega),if_neg (by omega),if_neg (by omega),if_neg (by omega),if_neg (by omega),if_neg (by omega),leaf_eq]; first | rfl | (simp [runA]; done)
end
end Go.Proofs.YtolgpokppnajdaaGreat.G

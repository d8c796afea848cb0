/- Truth -/
import Derived.Test.YtolgpokppnajdaaGreatProg
import Derived.KernelRfl
import Derived.Test.YtolgpokppnajdaaGreatTxT3
set_option linter.unusedVariables false
set_option linter.unusedSimpArgs false
namespace Go.Proofs.YtolgpokppnajdaaGreat.G
open Go Go.Ab
section
variable {S:Store} {K:AV → Store → Prop}
theorem ixStr_b {b:ByteArray} {i:Nat} (h:i < b.size):ixStr (.v (.string b)) (aI i) S K = K (.v (.int .u8 (b[i]).toNat)) S:=by
  simp [ixStr,intA,h]
@[simp] theorem lenStr_b (b:ByteArray):lenStr (.v (.string b)) S K = K (aI b.size) S:=rfl
theorem bytesEq (a b:ByteArray):(a.toList == b.toList) = decide (a = b):=by
  rw [Bool.eq_iff_iff,beq_iff_eq,ByteArray.toList_eq,ByteArray.toList_eq,decide_eq_true_eq]
  exact ⟨fun h=>ByteArray.ext (Array.toList_inj.mp h),fun h=>by rw [h]⟩
theorem bin_eqlS (a b:ByteArray) (kd:Nat):bin .eql kd (.v (.string a)) (.v (.string b)) S K = K (aB (decide (a = b))) S:=by simp [bin,b2,strB,bytesEq]
theorem bin_neqS (a b:ByteArray) (kd:Nat):bin .neq kd (.v (.string a)) (.v (.string b)) S K = K (aB (!decide (a = b))) S:=by simp [bin,b2,strB,bytesEq]
theorem ld1_qj {c:List AV} {j:Nat} {u:AV} (h:c[j]? = some u):ld1 (.q c j) S K = K u S:=by simp [ld1,rd1,place,h]
@[simp] theorem shift_q (c:List AV) (j n:Nat):shift (.q c j) n S K = K (.q c (j + n)) S:=rfl
end
def wordB (b:ByteArray):Bool:=decide (∀ i (h:i < b.size),33 ≤ (b[i]).toNat ∧ (b[i]).toNat ≤ 126) && (decide (0 < b.size) && decide (b.size ≤ 20))
theorem ans149 (b:ByteArray) (hb:b.size ≤ 9223372036854775807):Ans Tryz.prog 149 [.v (.string b)] (aB (wordB b)):=by
  intro S
  refine ACalls.ans_v (calls149 ?_)
  unfold m149
  refine loop149_0 (fun y S'=>S' = S ∧ ∃ i:Nat,y = aI i ∧ i ≤ b.size ∧ ∀ j (h:j < b.size),j < i → 33 ≤ (b[j]).toNat ∧ (b[j]).toNat ≤ 126)
    (fun y _=>b.size - ((intA y).getD 0).toNat) ⟨rfl,0,rfl,Nat.zero_le _,fun j _ hj=>(Nat.not_lt_zero _ hj).elim⟩ ?_
  rintro _ S ⟨rfl,i,rfl,hi,hok⟩ KE hKE
  unfold b149_0
  rw [lenStr_b,bin_lss,onB_v]
  refine gd_of (fun hlt=>?_) (fun hge=>?_)
  · have hlt:i < b.size:=by simpa using hlt
    have bad:¬ (33 ≤ (b[i]).toNat ∧ (b[i]).toNat ≤ 126) → wordB b = false:=fun h=>by
      simp only [wordB,Bool.and_eq_false_iff,decide_eq_false_iff_not]
      exact .inl fun h'=>h (h' i hlt)
    rw [ixStr_b hlt,bin_lss,onB_v]
    refine gd_of (fun h1=>⟨by rw [bad (fun h=>by have:=of_decide_eq_true h1; omega)],Keep.refl _⟩) (fun h1=>?_)
    rw [ixStr_b hlt,bin_gtr,onB_v]
    refine gd_of (fun h2=>⟨by rw [bad (fun h=>by have:=of_decide_eq_true h2; omega)],Keep.refl _⟩) (fun h2=>?_)
    have hadd:∀ K:AV → Store → Prop,∀ S,bin .add 0 (.v (.int .i64 (i:Int))) (.v (.int .i64 1)) S K = K (aI (i + 1:Nat)) S:=fun K S=>bin_add (by omega) (by omega) 0
    rw [hadd]
    refine hKE _ _ ⟨rfl,i + 1,rfl,hlt,fun j hj hj'=>?_⟩ (by simp [intA]; omega)
    rcases Nat.lt_or_ge j i with h | h
    · exact hok j hj h
    · have:j = i:=by omega
      subst this
      have h1:=of_decide_eq_false h1
      have h2:=of_decide_eq_false h2
      omega
  · have hge:i = b.size:=by simp at hge; omega
    subst hge
    have hall:decide (∀ i (h:i < b.size),33 ≤ (b[i]).toNat ∧ (b[i]).toNat ≤ 126) = true:=decide_eq_true fun j hj=>hok j hj hj
    rw [lenStr_b,bin_gtr,onB_v]
    refine gd_of (fun h1=>?_) (fun h1=>⟨?_,Keep.refl _⟩)
    · rw [lenStr_b,bin_leq]
      refine ⟨?_,Keep.refl _⟩
      simp only [wordB,hall,Bool.true_and,show 0 < b.size by simpa using h1,decide_true]
      rw [show decide ((b.size:Int) ≤ 20) = decide (b.size ≤ 20) from decide_eq_decide.2 (by omega)]
    · simp [wordB,show ¬ 0 < b.size by simpa using h1]
theorem ans167 (b:ByteArray) (hb:b.size ≤ 9223372036854775807):Ans Tryz.prog 167 [.v (.string b)] (aB (wordB b)):=by
  intro S
  refine ACalls.ans_v (calls167 ?_)
  unfold m167
  rw [lenStr_b]
  refine loop167_0 (fun y S'=>S' = S ∧ ∃ i:Nat,y = aI i ∧ i ≤ b.size ∧ ∀ j (h:j < b.size),j < i → 33 ≤ (b[j]).toNat ∧ (b[j]).toNat ≤ 126)
    (fun y _=>b.size - ((intA y).getD 0).toNat) ⟨rfl,0,rfl,Nat.zero_le _,fun j _ hj=>(Nat.not_lt_zero _ hj).elim⟩ ?_
  rintro _ S ⟨rfl,i,rfl,hi,hok⟩ KE hKE
  unfold b167_0
  rw [bin_lss,onB_v]
  refine gd_of (fun hlt=>?_) (fun hge=>?_)
  · have hlt:i < b.size:=by simpa using hlt
    have bad:¬ (33 ≤ (b[i]).toNat ∧ (b[i]).toNat ≤ 126) → wordB b = false:=fun h=>by
      simp only [wordB,Bool.and_eq_false_iff,decide_eq_false_iff_not]
      exact .inl fun h'=>h (h' i hlt)
    rw [ixStr_b hlt,bin_leq,onB_v]
    refine gd_of (fun h1=>⟨by rw [bad (fun h=>by have:=of_decide_eq_true h1; omega)],Keep.refl _⟩) (fun h1=>?_)
    rw [ixStr_b hlt,bin_gtr,onB_v]
    refine gd_of (fun h2=>⟨by rw [bad (fun h=>by have:=of_decide_eq_true h2; omega)],Keep.refl _⟩) (fun h2=>?_)
    have hadd:∀ K:AV → Store → Prop,∀ S,bin .add 0 (.v (.int .i64 (i:Int))) (.v (.int .i64 1)) S K = K (aI (i + 1:Nat)) S:=fun K S=>bin_add (by omega) (by omega) 0
    rw [hadd]
    refine hKE _ _ ⟨rfl,i + 1,rfl,hlt,fun j hj hj'=>?_⟩ (by simp [intA]; omega)
    rcases Nat.lt_or_ge j i with h | h
    · exact hok j hj h
    · have:j = i:=by omega
      subst this
      have h1:=of_decide_eq_false h1
      have h2:=of_decide_eq_false h2
      omega
  · have hge:i = b.size:=by simp at hge; omega
    subst hge
    have hall:decide (∀ i (h:i < b.size),33 ≤ (b[i]).toNat ∧ (b[i]).toNat ≤ 126) = true:=decide_eq_true fun j hj=>hok j hj hj
    have he:decide (b = { data:=#[] }) = decide (b.size = 0):=by
      by_cases h:b.size = 0
      · have:b = { data:=#[] }:=byteArray_ext (Array.eq_empty_of_size_eq_zero h)
        subst this
        rfl
      · have:¬ b = { data:=#[] }:=fun e=>h (by rw [e]; rfl)
        simp [this,h]
    rw [bin_neqS,he,onB_v]
    refine gd_of (fun h1=>?_) (fun h1=>⟨?_,Keep.refl _⟩)
    · have h1:b.size ≠ 0:=by simpa using h1
      rw [lenStr_b,bin_leq]
      refine ⟨?_,Keep.refl _⟩
      simp only [wordB,hall,Bool.true_and,show 0 < b.size by omega,decide_true]
      rw [show decide ((b.size:Int) ≤ 20) = decide (b.size ≤ 20) from decide_eq_decide.2 (by omega)]
    · have h1:b.size = 0:=by simpa using h1
      simp [wordB,h1]
def rankI (k:Int):Int:=if k = 105 then 0 else if k = 108 then 1 else if k = 111 then 2 else if k = 98 then 3 else if k = 99 then 4 else if k = 102 then 5 else -1
def kindS:ByteArray:={ data:=#[105,108,111,98,99,102] }
def kindAt (i:Nat):Int:=[105,108,111,98,99,102].getD i 0
theorem kindS_get {i:Nat} (h:i < 6):∃ h':i < kindS.size,((kindS[i]'h').toNat:Int) = kindAt i:=by
  match i,h with
  | 0,_ | 1,_ | 2,_ | 3,_ | 4,_ | 5,_=>exact ⟨by decide,by decide⟩
theorem rankI_at {k:Int} {i:Nat} (h:i < 6) (hk:kindAt i = k):rankI k = i:=by
  subst hk
  match i,h with
  | 0,_ | 1,_ | 2,_ | 3,_ | 4,_ | 5,_=>decide
theorem rankI_no {k:Int} (h:∀ i,i < 6 → kindAt i ≠ k):rankI k = -1:=by
  have h0:(105:Int) ≠ k:=h 0 (by decide)
  have h1:(108:Int) ≠ k:=h 1 (by decide)
  have h2:(111:Int) ≠ k:=h 2 (by decide)
  have h3:(98:Int) ≠ k:=h 3 (by decide)
  have h4:(99:Int) ≠ k:=h 4 (by decide)
  have h5:(102:Int) ≠ k:=h 5 (by decide)
  simp only [rankI]
  rw [if_neg (Ne.symm h0),if_neg (Ne.symm h1),if_neg (Ne.symm h2),if_neg (Ne.symm h3),if_neg (Ne.symm h4),if_neg (Ne.symm h5)]
theorem ans151 (k:Int):Ans Tryz.prog 151 [.v (.int .u8 k)] (aI (rankI k)):=by
  intro S
  refine ACalls.ans_v (calls151 ?_)
  unfold m151
  refine loop151_0 (fun y S'=>S' = S ∧ ∃ i:Nat,y = aI i ∧ i ≤ 6 ∧ ∀ j,j < i → kindAt j ≠ k)
    (fun y _=>6 - ((intA y).getD 0).toNat) ⟨rfl,0,rfl,Nat.zero_le _,fun j hj=>(Nat.not_lt_zero _ hj).elim⟩ ?_
  rintro _ S ⟨rfl,i,rfl,hi,hno⟩ KE hKE
  unfold b151_0
  rw [lenStr_b,bin_lss,onB_v]
  refine gd_of (fun hlt=>?_) (fun hge=>?_)
  · have hlt:i < 6:=by have:=of_decide_eq_true hlt; exact Int.ofNat_lt.1 this
    obtain ⟨h',he⟩:=kindS_get hlt
    show ixStr (.v (.string kindS)) _ _ _
    rw [ixStr_b h',he,bin_eql,onB_v]
    refine gd_of (fun h1=>⟨?_,Keep.refl _⟩) (fun h1=>?_)
    · rw [rankI_at hlt (of_decide_eq_true h1)]
    · have hadd:∀ K:AV → Store → Prop,∀ S,bin .add 0 (.v (.int .i64 (i:Int))) (.v (.int .i64 1)) S K = K (aI (i + 1:Nat)) S:=fun K S=>bin_add (by omega) (by omega) 0
      rw [hadd]
      refine hKE _ _ ⟨rfl,i + 1,rfl,hlt,fun j hj=>?_⟩ (by simp [intA]; omega)
      rcases Nat.lt_or_ge j i with h | h
      · exact hno j h
      · have:j = i:=by omega
        subst this
        exact of_decide_eq_false h1
  · have hge:i = 6:=by
      have:¬ ((i:Int) < 6):=of_decide_eq_false hge
      omega
    subst hge
    rw [rankI_no hno]
    exact ⟨rfl,Keep.refl _⟩
theorem ans168 (k:Int) (h0:0 ≤ k) (h1:k < 256):Ans Tryz.prog 168 [.v (.int .u8 k)] (aI (rankI k)):=by
  intro S
  refine ACalls.ans_v (calls168 ?_)
  unfold m168 rngS
  refine loop168_0 (fun S'=>Keep S S' ∧ ∃ i:Nat,S'.obj S.n = some (.sit kindS i) ∧ i ≤ 6 ∧ ∀ j,j < i → kindAt j ≠ k)
    (fun S'=>match S'.obj S.n with | some (.sit _ i)=>6 - i | _=>0) ⟨(Keep.refl S).new _,0,by rw [new_self]; rfl,Nat.zero_le _,fun j hj=>(Nat.not_lt_zero _ hj).elim⟩ ?_
  rintro S1 ⟨k1,i,o1,hi,hno⟩ KE hKE
  unfold b168_0 nextM
  simp only [o1]
  refine ⟨fun hlt=>?_,fun hge=>?_⟩
  · have hlt:i < 6:=hlt
    have hdec:(((Utf8.decode kindS i).1:Nat):Int) = kindAt i ∧ (Utf8.decode kindS i).2 = 1:=by
      match i,hlt with
      | 0,_ | 1,_ | 2,_ | 3,_ | 4,_ | 5,_=>exact ⟨by decide,by decide⟩
    rw [hdec.1,hdec.2]
    show extr _ _ _ _
    rw [extr0]
    show onB _ _
    rw [onB_v,gd_true,extr1,extr2,convI_v]
    have hw:IntKind.i32.wrap k = k:=by
      rw [IntKind.wrap_i32]; omega
    rw [hw,bin_eql,onB_v]
    refine gd_of (fun h2=>⟨?_,k1.upd (Nat.le_refl _) _⟩) (fun h2=>?_)
    · rw [rankI_at hlt (of_decide_eq_true h2).symm]
    · refine hKE _ ⟨k1.upd (Nat.le_refl _) _,i + 1,upd_self _ _,hlt,fun j hj=>?_⟩ (by simp only [upd_self,o1]; omega)
      rcases Nat.lt_or_ge j i with h | h
      · exact hno j h
      · have:j = i:=by omega
        subst this
        exact Ne.symm (of_decide_eq_false h2)
  · have hge:i = 6:=by
      have:¬ (i < 6):=hge
      omega
    subst hge
    show extr _ _ _ _
    rw [over,extr0,onB_v,gd_false,rankI_no hno]
    exact ⟨rfl,k1⟩
theorem ans185 (a:Int):Ans Tryz.prog 185 [aI a] (aB false):=by
  intro S
  refine ACalls.ans_v (calls185 ?_)
  unfold m185
  rw [bin_neq]
  exact ⟨by simp,Keep.refl _⟩
def cmpZ (a b:Int):Int:=if a < b then -1 else if b < a then 1 else 0
theorem ans170 (a b:Int):Ans Tryz.prog 170 [aI a,aI b] (aI (cmpZ a b)):=by
  intro S
  refine ACalls.ans_v (calls170 ?_)
  unfold m170
  refine callF_ans (ans185 a) (callF_ans (ans185 b) ?_)
  rw [onB_v,gd_false,onB_v,gd_false,bin_lss,onB_v]
  refine gd_of (fun h=>⟨?_,Keep.refl _⟩) (fun h=>?_)
  · rw [cmpZ,if_pos (of_decide_eq_true h)]
  rw [bin_gtr,onB_v]
  have h:=of_decide_eq_false h
  refine gd_of (fun h2=>⟨?_,Keep.refl _⟩) (fun h2=>⟨?_,Keep.refl _⟩)
  · rw [cmpZ,if_neg h,if_pos (of_decide_eq_true h2)]
  · rw [cmpZ,if_neg h,if_neg (of_decide_eq_false h2)]
theorem ans169 (a b:Int):Ans Tryz.prog 169 [.l [[aI a],[aI b]]] (aI (if a ≠ 0 then a else b)):=by
  intro S
  refine ACalls.ans_v (calls169 ?_)
  unfold m169
  rw [lenS_l]
  refine loop169_0 (fun y S'=>S' = S ∧ ∃ i:Nat,y = aI i ∧ i ≤ 2 ∧ (1 ≤ i → a = 0) ∧ (2 ≤ i → b = 0))
    (fun y _=>2 - ((intA y).getD 0).toNat) ⟨rfl,0,rfl,Nat.zero_le _,fun h=>by omega,fun h=>by omega⟩ ?_
  rintro _ S ⟨rfl,i,rfl,hi,h1,h2⟩ KE hKE
  unfold b169_0
  rw [bin_lss,onB_v]
  refine gd_of (fun hlt=>?_) (fun hge=>?_)
  · have hlt:i < 2:=by have:=of_decide_eq_true hlt; exact Int.ofNat_lt.1 this
    have hadd:∀ K:AV → Store → Prop,∀ S,bin .add 0 (.v (.int .i64 (i:Int))) (.v (.int .i64 1)) S K = K (aI (i + 1:Nat)) S:=fun K S=>bin_add (by omega) (by omega) 0
    match i,hlt with
    | 0,_ =>
      rw [show ∀ K:AV → Store → Prop,ixS 3 1 (.l [[aI a],[aI b]]) (aI ((0:Nat):Int)) S K = K (.q [aI a] 0) S from fun K=>ixS_l (es:=[[aI a],[aI b]]) (i:=0) (by simp) rfl,ld1_qj rfl,bin_neq,onB_v]
      refine gd_of (fun h=>⟨?_,Keep.refl _⟩) (fun h=>?_)
      · rw [if_pos (by simpa using h)]
      · rw [hadd]
        exact hKE _ _ ⟨rfl,1,rfl,by decide,fun _=>by simpa using h,fun h=>by omega⟩ (by simp [intA])
    | 1,_ =>
      have ha:=h1 (Nat.le_refl _)
      rw [show ∀ K:AV → Store → Prop,ixS 3 1 (.l [[aI a],[aI b]]) (aI ((1:Nat):Int)) S K = K (.q [aI b] 0) S from fun K=>ixS_l (es:=[[aI a],[aI b]]) (i:=1) (by simp) rfl,ld1_qj rfl,bin_neq,onB_v]
      refine gd_of (fun h=>⟨?_,Keep.refl _⟩) (fun h=>?_)
      · rw [if_neg (by simp [ha])]
      · rw [hadd]
        exact hKE _ _ ⟨rfl,2,rfl,by decide,fun _=>ha,fun _=>by simpa using h⟩ (by simp [intA])
  · have hge:i = 2:=by
      have:¬ ((i:Int) < 2):=of_decide_eq_false hge
      omega
    subst hge
    refine ⟨?_,Keep.refl _⟩
    rw [h1 (by decide),h2 (by decide)]
    rfl
structure Na where
  kind:Int
  pos:Int
  text:ByteArray
  deriving DecidableEq
structure Ci where
  inputs:Int
  latches:List (Int × Int)
  ands:List (Int × Int)
  outs:List Int
  bads:List Int
  cons:List Int
  fair:List Int
  names:List Na
def Na.row (x:Na):List AV:=[.v (.int .u8 x.kind),aI x.pos,.v (.string x.text)]
def nL (l:List Na):AV:=.l (l.map Na.row)
def Ci.cells (c:Ci):List AV:=[aI c.inputs,pL c.latches,pL c.ands,aL aI c.outs,aL aI c.bads,aL aI c.cons,aL aI c.fair,nL c.names]
def Ci.av (c:Ci):AV:=.a c.cells
def Ci.gr (c:Ci):Gr:=⟨IntKind.i64.wrap (c.inputs + c.latches.length),c.ands⟩
structure Ci.ok (c:Ci):Prop where
  inp:i64R c.inputs
  llen:c.latches.length ≤ 1000000
  alen:c.ands.length ≤ 1000000
  lats:∀ p ∈ c.latches,i64R p.1 ∧ i64R p.2
  pairs:∀ p ∈ c.ands,i64R p.1 ∧ i64R p.2
  outs:(∀ x ∈ c.outs,i64R x) ∧ c.outs.length ≤ 9223372036854775807
  bads:(∀ x ∈ c.bads,i64R x) ∧ c.bads.length ≤ 9223372036854775807
  cons:(∀ x ∈ c.cons,i64R x) ∧ c.cons.length ≤ 9223372036854775807
  fair:(∀ x ∈ c.fair,i64R x) ∧ c.fair.length ≤ 9223372036854775807
  names:∀ x ∈ c.names,0 ≤ x.kind ∧ x.kind < 256 ∧ i64R x.pos ∧ x.text.size ≤ 9223372036854775807
  nlen:c.names.length ≤ 1000000
theorem wrapR (n:Int):i64R (IntKind.i64.wrap n):=by
  unfold i64R
  rw [IntKind.wrap_i64]; omega
theorem Ci.ok.gr {c:Ci} (h:c.ok):c.gr.ok:=⟨wrapR _,h.alen,h.pairs⟩
theorem bin_addW {a b:Int} (kd:Nat) {S:Store} {K:AV → Store → Prop}:bin .add kd (aI a) (aI b) S K = K (aI (IntKind.i64.wrap (a + b))) S:=by
  simp [bin,b2,isSh,cmpI,ariI]
theorem ans84 (c:Ci):Ans Tryz.prog 84 [c.av] c.gr.av:=by
  intro S
  refine ACalls.tree (calls84 ?_)
  unfold m84
  refine boxA_of rfl fun S1 k1 n1 o1=>?_
  refine boxA_of rfl fun S2 k2 n2 o2=>?_
  have p1:S2.obj S.n = _:=(k2.2 S.n (by omega)).trans o1
  rw [shift_p,ld1_p p1 rfl rfl,shift_p,ld1_p p1 rfl rfl,lenS_pL,bin_addW,shift_p,ld1_p p1 rfl rfl,bld_of (cs:=c.gr.cells) rfl]
  refine stA_of o2 rfl rfl fun S3 n3 o3 f3=>?_
  rw [ldN_p (n:=2) o3 rfl]
  exact ⟨_,rfl,(k1.trans k2).st (by omega) n3 f3,c.gr.tree _ _⟩
theorem ans41 (c:Ci):Ans Tryz.prog 41 [c.av] c.gr.av:=by
  intro S
  refine ACalls.tree (calls41 ?_)
  unfold m41
  refine boxA_of rfl fun S1 k1 n1 o1=>?_
  refine boxA_of rfl fun S2 k2 n2 o2=>?_
  have p1:S2.obj S.n = _:=(k2.2 S.n (by omega)).trans o1
  rw [shift_p,ld1_p p1 rfl rfl,shift_p,ld1_p p1 rfl rfl,lenS_pL,bin_addW,shift_p,ld1_p p1 rfl rfl,bld_of (cs:=c.gr.cells) rfl]
  refine stA_of o2 rfl rfl fun S3 n3 o3 f3=>?_
  rw [ldN_p (n:=2) o3 rfl]
  exact ⟨_,rfl,(k1.trans k2).st (by omega) n3 f3,c.gr.tree _ _⟩
def Ci.many (c:Ci) (k:Int):Int:=if k = 105 then c.inputs else if k = 108 then c.latches.length else if k = 111 then c.outs.length else if k = 98 then c.bads.length else if k = 99 then c.cons.length else if k = 102 then c.fair.length else 0
def Ci.manyE (c:Ci):List (Key × AV):=[(.i 105,aI c.inputs),(.i 108,aI c.latches.length),(.i 111,aI c.outs.length),(.i 98,aI c.bads.length),(.i 99,aI c.cons.length),(.i 102,aI c.fair.length)]
theorem keyI (k:IntKind) (a:Int):keyA (.i k) (.v (.int k a)) = some (.i a):=by simp [keyA]
theorem ans127 (c:Ci):Ans Tryz.prog 127 [c.av] (.mt (.i .i32) c.manyE):=by
  intro S
  refine ACalls.tree (calls127 ?_)
  unfold m127
  refine boxA_of rfl fun S1 k1 n1 o1=>?_
  unfold mkM
  show shift _ _ _ _
  have p1:(S1.new (.map (.i .i32) [] true)).obj S.n = _:=(new_lt (by omega)).trans o1
  have u:∀ {es:List (Key × AV)},(Store.upd (S1.new (.map (.i .i32) [] true)) S1.n (.map (.i .i32) es true)).obj S.n = _:=fun {es}=>(upd_ne (by omega)).trans p1
  rw [shift_p,ld1_p p1 rfl rfl,updM_m (new_self _) (keyI _ _)]
  rw [shift_p,ld1_p u rfl rfl,lenS_pL,updM_m (upd_self _ _) (keyI _ _),upd_upd]
  rw [shift_p,ld1_p u rfl rfl,lenS_aL,updM_m (upd_self _ _) (keyI _ _),upd_upd]
  rw [shift_p,ld1_p u rfl rfl,lenS_aL,updM_m (upd_self _ _) (keyI _ _),upd_upd]
  rw [shift_p,ld1_p u rfl rfl,lenS_aL,updM_m (upd_self _ _) (keyI _ _),upd_upd]
  rw [shift_p,ld1_p u rfl rfl,lenS_aL,updM_m (upd_self _ _) (keyI _ _),upd_upd]
  refine ⟨_,rfl,(k1.new _).upd (by omega) _,.m' S1.n (.i .i32) c.manyE c.manyE ?_ rfl (fun i e e2 h h2=>by rw [h] at h2; cases h2; rfl) (fun i e e2 h h2=>?_)⟩
  · rw [frz_ofM (upd_self _ _)]
    have:newer S.n S1.n = true:=by simp [newer]; omega
    rw [this]
    rfl
  · rw [h] at h2; cases h2
    match i with
    | 0 | 1 | 2 | 3 | 4 | 5=>cases h; exact .v _
    | i + 6=>simp [Ci.manyE] at h
theorem lkp_many (c:Ci) (k:Int):((lkp c.manyE (.i k)).getD (aI 0)) = aI (c.many k):=by
  by_cases h0:k = 105
  · subst h0; rfl
  by_cases h1:k = 108
  · subst h1; rfl
  by_cases h2:k = 111
  · subst h2; rfl
  by_cases h3:k = 98
  · subst h3; rfl
  by_cases h4:k = 99
  · subst h4; rfl
  by_cases h5:k = 102
  · subst h5; rfl
  have:kix c.manyE (.i k) = none:=by
    rw [kix_none]
    simp [Ci.manyE,h0,h1,h2,h3,h4,h5]
  simp [lkp,this,Ci.many,h0,h1,h2,h3,h4,h5]
theorem rank_many {c:Ci} {k:Int} (h:¬ rankI k < 0):c.many k = [c.inputs,c.latches.length,c.outs.length,c.bads.length,c.cons.length,c.fair.length].getD (rankI k).toNat 0:=by
  unfold rankI at h ⊢
  unfold Ci.many
  repeat' split
  all_goals first | rfl | (exfalso; apply h; simp [*])
theorem many_no {c:Ci} {k:Int} (h:rankI k < 0):c.many k = 0:=by
  unfold rankI at h
  unfold Ci.many
  repeat' split
  all_goals first | rfl | (simp [*] at h)
theorem rank_lt (k:Int):rankI k < 6:=by
  unfold rankI
  repeat' split
  all_goals decide
theorem bsl6 {e:Nat} {z a b c d f g:Int} {S:Store} {K:AV → Store → Prop} (k:K (.l [[aI a],[aI b],[aI c],[aI d],[aI f],[aI g]]) S):bslN e 1 6 [aI z] [(0,aI a),(1,aI b),(2,aI c),(3,aI d),(4,aI f),(5,aI g)] S K:=by
  refine ⟨[aI a,aI b,aI c,aI d,aI f,aI g],?_,.inr ?_⟩
  · simp [fillA,cells_of_one,spl,List.range_succ,cellsOf,AV.one,Value.oneCell']
  · simpa [chunks,List.range_succ] using k
theorem ans150 (c:Ci) (k:Int):Ans Tryz.prog 150 [c.av,.v (.int .u8 k)] (aI (c.many k)):=by
  intro S
  refine ACalls.ans_v (calls150 ?_)
  unfold m150
  refine boxA_of rfl fun S1 k1 n1 o1=>?_
  refine callF_ans (ans151 k) ?_
  rw [bin_lss,onB_v]
  refine gd_of (fun h=>⟨?_,k1⟩) (fun h=>?_)
  · rw [many_no (of_decide_eq_true h)]
  have h:¬ rankI k < 0:=of_decide_eq_false h
  rw [shift_p,ld1_p o1 rfl rfl,shift_p,ld1_p o1 rfl rfl,lenS_pL,shift_p,ld1_p o1 rfl rfl,lenS_aL,shift_p,ld1_p o1 rfl rfl,lenS_aL,shift_p,ld1_p o1 rfl rfl,lenS_aL,shift_p,ld1_p o1 rfl rfl,lenS_aL]
  refine bsl6 ?_
  obtain ⟨r,hr⟩:=Int.eq_ofNat_of_zero_le (show 0 ≤ rankI k by omega)
  have hr6:r < 6:=by have:=rank_lt k; omega
  rw [rank_many h,hr]
  match r,hr6 with
  | 0,_ | 1,_ | 2,_ | 3,_ | 4,_ | 5,_ =>
    rw [ixS_l (by simp) (by rfl),ld1_qj rfl]
    exact ⟨rfl,k1⟩
end Go.Proofs.YtolgpokppnajdaaGreat.G
set_option linter.unusedVariables false
set_option linter.unusedSimpArgs false
namespace Go.Proofs.YtolgpokppnajdaaGreat.G
open Go Go.Ab
set_option maxRecDepth 100000
noncomputable def c166:Code:=(Tryz.f166.body).getD .skip
noncomputable def r166:List ResultVar:=Tryz.f166.results.toList
def env166_0 (y0 y1 y7 y8:AV):List AV:=[y0,y1,y7,y8]
def lv166_0:List Nat:=[0,1,7,8]
def ms166:List (List Nat):=[lv166_0,[]]
def m166 (x0 x1:AV) (S:Store) (Q:PoT):Prop :=
  lenS x0 S fun v1 S=>loopV lv166_0 (vc Tryz.prog (c166.at_ [1,0,1,0,0]) (ms166.drop 1)) 19 (env166_0 x0 x1 v1 (.v (.int .i64 0))) S (blockK 0 (seqK (vc Tryz.prog (c166.at_ [1,1]) (ms166.drop 1)) (bodyK Tryz.prog r166 Q)))
theorem calls166 {x0 x1:AV} {S:Store} {Q:PoT} (h:m166 x0 x1 S Q):ACalls Tryz.prog 166 [x0,x1] S Q :=
  calls_of_vc (fn:=Tryz.f166) (c:=c166) (n:=19) Tryz.func166 (by kernel_rfl) (by kernel_rfl) (by kernel_rfl) ms166 (Eq.mpr (by kernel_rfl) h)
def b166_0 (y0 y1 y7 y8:AV) (S:Store) (KE0:KeT) (Q:PoT):Prop :=
  bin .lss 0 y8 y7 S fun v2 S=>onB v2 fun b3=>gd b3 (ixS 3 1 y0 y8 S fun v4 S=>ld1 v4 S fun v5 S=>callV Tryz.prog y1 [v5] S (fun v6 S=>onB v6 fun b7=>gd b7 (Q (.ret y8) S) (bin .add 0 y8 (.v (.int .i64 1)) S fun v8 S=>KE0 19 (env166_0 y0 y1 y7 v8) S)) (fun u S=>Q (.pan u) S)) (Q (.ret (.v (.int .i64 (-1)))) S)
theorem b166_0_eq (y0 y1 y7 y8:AV) (S:Store) (KE0:KeT) (Q:PoT):vc Tryz.prog (c166.at_ [1,0,1,0,0]) (ms166.drop 1) (mkE 19 lv166_0 (env166_0 y0 y1 y7 y8)) S (thenK (fgK lv166_0 KE0) (blockK 0 (seqK (vc Tryz.prog (c166.at_ [1,1]) (ms166.drop 1)) (bodyK Tryz.prog r166 Q)))) = b166_0 y0 y1 y7 y8 S KE0 Q:=by kernel_rfl
theorem loop166_0 {y0 y1 y7:AV} {y80:AV} {S:Store} {Q:PoT} (I:AV → Store → Prop) (μ:AV → Store → Nat) (h0:I y80 S)
    (hr:∀ (y8:AV) (S:Store),I y8 S → ∀ KE0:KeT,(∀ (y8':AV) (S':Store),I y8' S' → μ y8' S' < μ y8 S → KE0 19 (env166_0 y0 y1 y7 y8') S') → b166_0 y0 y1 y7 y8 S KE0 Q) :
    loopV lv166_0 (vc Tryz.prog (c166.at_ [1,0,1,0,0]) (ms166.drop 1)) 19 (env166_0 y0 y1 y7 y80) S (blockK 0 (seqK (vc Tryz.prog (c166.at_ [1,1]) (ms166.drop 1)) (bodyK Tryz.prog r166 Q))):=by
  refine ⟨fun n e S=>n = 19 ∧ ∃ y8:AV,e = (env166_0 y0 y1 y7 y8) ∧ I y8 S,fun _ e S=>μ (e.getD 3 .j) S,?_,?_⟩
  · exact ⟨_,_,Wk.refl _ _,rfl,_,rfl,h0⟩
  · rintro _ e S ⟨rfl,y8,rfl,hI⟩
    exact (b166_0_eq _ _ _ _ _ _ _).mpr (hr y8 S hI _ (fun y8' S' hI' hm=>⟨_,_,Wk.refl _ _,⟨rfl,_,rfl,hI'⟩,hm⟩))
noncomputable def c132:Code:=(Tryz.f132.body).getD .skip
def ms132:List (List Nat):=[[]]
def m132 (x0 x1:AV) (S:Store) (Q:PoT):Prop :=
  callF Tryz.prog 166 [x0,x1] S Q fun v1 S=>bin .geq 0 v1 (.v (.int .i64 0)) S fun v2 S=>Q (.ret v2) S
theorem calls132 {x0 x1:AV} {S:Store} {Q:PoT} (h:m132 x0 x1 S Q):ACalls Tryz.prog 132 [x0,x1] S Q :=
  calls_of_vc (fn:=Tryz.f132) (c:=c132) (n:=9) Tryz.func132 (by kernel_rfl) (by kernel_rfl) (by kernel_rfl) ms132 (Eq.mpr (by kernel_rfl) h)
end Go.Proofs.YtolgpokppnajdaaGreat.G
set_option linter.unusedVariables false
set_option linter.unusedSimpArgs false
namespace Go.Proofs.YtolgpokppnajdaaGreat.G
open Go Go.Ab
def idxOf (o:Option Nat):Int:=match o with | some i=>i | none=>-1
theorem find_at {α:Type} {g:α → Bool} {l:List α} {i:Nat} (hi:i < l.length) (hg:g l[i] = true) (h:∀ k (hk:k < i),g (l[k]'(Nat.lt_trans hk hi)) = false):l.findIdx? g = some i:=by
  rw [List.findIdx?_eq_some_iff_getElem]
  exact ⟨hi,hg,fun j hj=>by simp [h j hj]⟩
theorem find_none {α:Type} {g:α → Bool} {l:List α} (h:∀ k (hk:k < l.length),g l[k] = false):l.findIdx? g = none:=by
  rw [List.findIdx?_eq_none_iff]
  intro x hx
  obtain ⟨k,hk,rfl⟩:=List.mem_iff_getElem.1 hx
  exact h k hk
theorem at166 {α:Type} {f:α → AV} {l:List α} (hl:l.length ≤ 9223372036854775807) {g:α → Bool} {fn:FuncId} {fs cs:List AV} {S:Store}
    (hf:∀ x,x ∈ l → AnsAt Tryz.prog fn (fs ++ [f x] ++ cs) S (aB (g x))):AnsAt Tryz.prog 166 [aL f l,.f (.func fn) fs cs] S (aI (idxOf (l.findIdx? g))):=by
  refine calls166 ?_
  unfold m166
  rw [lenS_aL]
  refine loop166_0 (fun y S'=>S' = S ∧ ∃ i:Nat,y = aI i ∧ i ≤ l.length ∧ ∀ k (hk:k < l.length),k < i → g l[k] = false) (fun y _=>l.length - ((intA y).getD 0).toNat) ⟨rfl,0,rfl,Nat.zero_le _,fun k _ h=>absurd h (Nat.not_lt_zero _)⟩ ?_
  rintro _ _ ⟨rfl,i,rfl,hi,hk⟩ KE hKE
  unfold b166_0 aI
  rw [bin_lss,onB_v]
  refine gd_of (fun h=>?_) (fun h=>?_)
  · have hlt:i < l.length:=by simpa using h
    rw [ixS_aL hlt,ld1_q]
    refine callV_at (hf _ (List.getElem_mem hlt)) ?_
    unfold aB
    rw [onB_v]
    refine gd_of (fun hg=>⟨?_,rfl⟩) (fun hg=>?_)
    · rw [find_at hlt hg (fun k hk'=>hk k _ hk')]; rfl
    · rw [bin_add (by omega) (by omega)]
      refine hKE _ _ ⟨rfl,i + 1,rfl,hlt,fun k hk1 hk2=>?_⟩ ?_
      · by_cases e:k = i
        · subst e; exact hg
        · exact hk k hk1 (by omega)
      · simp [intA,aI]; omega
  · have hge:i = l.length:=by simp at h; omega
    subst hge
    rw [find_none (fun k hk'=>hk k hk' hk')]
    exact ⟨rfl,rfl⟩
theorem idx_any {α:Type} (g:α → Bool) (l:List α):decide (0 ≤ idxOf (l.findIdx? g)) = l.any g:=by
  cases h:l.findIdx? g with
  | none =>
    rw [List.findIdx?_eq_none_iff] at h
    have:l.any g = false:=by simpa [List.any_eq_false] using h
    rw [this]; rfl
  | some i =>
    rw [List.findIdx?_eq_some_iff_getElem] at h
    obtain ⟨hi,hg,_⟩:=h
    have:l.any g = true:=List.any_eq_true.2 ⟨_,List.getElem_mem hi,by simpa using hg⟩
    rw [this]
    simp [idxOf]
theorem at132 {α:Type} {f:α → AV} {l:List α} (hl:l.length ≤ 9223372036854775807) {g:α → Bool} {fn:FuncId} {fs cs:List AV} {S:Store}
    (hf:∀ x,x ∈ l → AnsAt Tryz.prog fn (fs ++ [f x] ++ cs) S (aB (g x))):AnsAt Tryz.prog 132 [aL f l,.f (.func fn) fs cs] S (aB (l.any g)):=by
  refine calls132 ?_
  unfold m132
  refine callF_at (at166 hl hf) ?_
  unfold aI
  rw [bin_geq,idx_any]
  exact ⟨rfl,rfl⟩
structure Sp where
  bits:Int
  valid:List Bool
  initial:List Bool
  next:List (List Int)
  fair:List (List Bool)
def Sp.cells (s:Sp):List AV:=[aI s.bits,aL aB s.valid,aL aB s.initial,aL (aL aI) s.next,aL (aL aB) s.fair]
def Sp.av (s:Sp):AV:=.a s.cells
def Sp.small (s:Sp):Prop:=s.valid.length < 1048576 ∧ s.next.length < 1048576 ∧ s.fair.length < 1048576 ∧ ∀ x ∈ s.next,x.length < 1048576
def fits (s:Sp) (l:List (List Bool)):Bool :=
  decide (s.next.length = s.valid.length) && s.fair.all (fun p=>decide (p.length = s.valid.length)) && l.all (fun p=>decide (p.length = s.valid.length)) && s.next.all (fun x=>x.all fun i=>decide (0 ≤ i) && decide (i < s.valid.length))
theorem not_any {α:Type} (l:List α) (g h:α → Bool) (e:∀ x,g x = !h x):l.any g = !l.all h:=by
  induction l with
  | nil=>rfl
  | cons x l ih=>simp [e x,ih,Bool.not_and]
def keyOf (b:ByteArray):Key:=.s b.data.toList
theorem keyOf_inj {a b:ByteArray} (h:keyOf a = keyOf b):a = b:=by
  simp only [keyOf,Key.s.injEq] at h
  exact byteArray_ext (Array.toList_inj.1 h)
theorem ins_keys {es:List (Key × AV)} {x k:Key} {v:AV}:k ∈ (insM es x v).map (·.1) ↔ k ∈ es.map (·.1) ∨ k = x:=by
  induction es with
  | nil=>simp [insM]
  | cons e es ih =>
    simp only [insM]
    split
    · rename_i h
      subst h
      simp only [List.map_cons,List.mem_cons]
      constructor
      · rintro (h | h)
        · exact .inr h
        · exact .inl (.inr h)
      · rintro ((h | h) | h)
        · exact .inl h
        · exact .inr h
        · exact .inl h
    · simp only [List.map_cons,List.mem_cons,ih,or_assoc]
theorem ins_len_in {es:List (Key × AV)} {x:Key} {v:AV} (h:x ∈ es.map (·.1)):(insM es x v).length = es.length:=by
  induction es with
  | nil=>simp at h
  | cons e es ih =>
    simp only [insM]
    split
    · rfl
    · rename_i hne
      have:x ∈ es.map (·.1):=by
        rcases List.mem_cons.1 h with h | h
        · exact absurd h.symm hne
        · exact h
      simp [ih this]
structure Tells (es:List (Key × AV)) (l:List Key):Prop where
  mem:∀ k,k ∈ es.map (·.1) ↔ k ∈ l
  le:es.length ≤ l.length
  eq:es.length = l.length ↔ l.Nodup
theorem Tells.nil:Tells [] []:=⟨fun k=>by simp,Nat.le_refl _,by simp⟩
theorem Tells.add {es:List (Key × AV)} {l:List Key} (h:Tells es l) (x:Key) (v:AV):Tells (insM es x v) (l ++ [x]) where
  mem k:=by rw [ins_keys,h.mem,List.mem_append,List.mem_singleton]
  le:=by
    have:=h.le
    by_cases c:x ∈ es.map (·.1)
    · rw [ins_len_in c]; simp; omega
    · rw [insM_none (kix_none.2 c)]; simp; omega
  eq:=by
    have hle:=h.le
    rw [List.nodup_append]
    by_cases c:x ∈ es.map (·.1)
    · rw [ins_len_in c]
      constructor
      · intro e; simp at e; omega
      · rintro ⟨_,_,h3⟩
        exact absurd rfl (h3 x ((h.mem x).1 c) x (by simp))
    · rw [insM_none (kix_none.2 c)]
      simp only [List.length_append,List.length_singleton,Nat.add_right_cancel_iff,h.eq]
      constructor
      · intro e
        refine ⟨e,by simp,fun a ha b hb=>?_⟩
        have:b = x:=by simpa using hb
        subst this
        rintro rfl
        exact c ((h.mem _).2 ha)
      · exact fun e=>e.1
def nameOk (c:Ci) (x:Na):Prop:=wordB x.text = true ∧ 0 ≤ x.pos ∧ x.pos < c.many x.kind
def nameLt (y x:Na):Prop:=rankI y.kind < rankI x.kind ∨ rankI y.kind = rankI x.kind ∧ y.pos < x.pos
structure NamesR (c:Ci) (n:Nat):Prop where
  ok:∀ i (h:i < c.names.length),i < n → nameOk c c.names[i]
  lt:∀ i (h:i + 1 < c.names.length),i + 1 < n → nameLt c.names[i] c.names[i + 1]
  nodup:((c.names.take n).map fun x=>keyOf x.text).Nodup
open Classical in
noncomputable def namesB (c:Ci):Bool:=decide (NamesR c c.names.length)
theorem NamesR.zero (c:Ci):NamesR c 0:=⟨fun _ _ h=>by omega,fun _ _ h=>by omega,by simp⟩
theorem NamesR.no_ok {c:Ci} {i:Nat} (h:i < c.names.length) (hn:¬ nameOk c c.names[i]):namesB c = false:=by
  simp only [namesB,decide_eq_false_iff_not]
  exact fun h'=>hn (h'.ok i h h)
theorem NamesR.no_lt {c:Ci} {i:Nat} (h:i + 1 < c.names.length) (hn:¬ nameLt c.names[i] c.names[i + 1]):namesB c = false:=by
  simp only [namesB,decide_eq_false_iff_not]
  exact fun h'=>hn (h'.lt i h h)
@[simp] theorem lenS_nL (l:List Na) {S:Store} {K:AV → Store → Prop}:lenS (nL l) S K = K (aI l.length) S:=by simp [nL]
theorem ixS_nL {l:List Na} {e i:Nat} {S:Store} {K:AV → Store → Prop} (h:i < l.length):ixS e 3 (nL l) (aI i) S K = K (.q l[i].row 0) S:=by
  unfold nL
  rw [ixS_l (by simpa using h) (by simp [Na.row])]
  simp
theorem ldN_q3 {u v z:AV} {S:Store} {K:AV → Store → Prop}:ldN 3 (.q [u,v,z] 0) S K = K (.a [u,v,z]) S:=by simp [ldN,rdN,place]
theorem keyS (b:ByteArray):keyA .s (.v (.string b)) = some (keyOf b):=rfl
theorem lkM_mt {S:Store} {kk:KK} {z:AV} {c:Bool} {k:AV} {key:Key} {es:List (Key × AV)} {K:AV → Store → Prop} (hk:keyA kk k = some key):lkM kk z c (.mt kk es) k S K = K (lkV z c (lkp es key)) S:=by
  simp [lkM,entsA,hk]
theorem lkV_many (c:Ci) (k:Int):lkV (aI 0) false (lkp c.manyE (.i k)) = aI (c.many k):=lkp_many c k
theorem wrap32 {k:Int} (h0:0 ≤ k) (h1:k < 256):IntKind.i32.wrap k = k:=by rw [IntKind.wrap_i32]; omega
theorem ans133 {c:Ci} (hc:c.ok):Ans Tryz.prog 133 [c.av] (aB (namesB c)):=by
  intro S
  refine ACalls.ans_v (calls133 ?_)
  have hlen:=hc.nlen
  unfold m133
  refine boxA_of rfl fun S1 k1 n1 o1=>?_
  rw [ldN_p (n:=8) o1 rfl]
  refine callF_ans (ans127 c) ?_
  unfold mkM
  show shift _ _ _ _
  have k2:=k1.new (.map .s [] true)
  have p2:(S1.new (.map .s [] true)).obj S.n = _:=(new_lt (by omega)).trans o1
  rw [shift_p,ld1_p p2 rfl rfl,lenS_nL]
  refine loop133_0 (fun y S'=>Keep S S' ∧ S1.n < S'.n ∧ S'.obj S.n = some (.cells 42 [c.cells] true) ∧ ∃ i:Nat,y = aI i ∧ i ≤ c.names.length ∧
      (∀ j (h:j < c.names.length),j < i → nameOk c c.names[j]) ∧ (∀ j (h:j + 1 < c.names.length),j + 1 < i → nameLt c.names[j] c.names[j + 1]) ∧ ∃ es,S'.obj S1.n = some (.map .s es true) ∧ Tells es ((c.names.take i).map fun x=>keyOf x.text))
    (fun y _=>c.names.length - ((intA y).getD 0).toNat) ⟨k2,by simp,p2,0,rfl,Nat.zero_le _,fun j _ h=>by omega,fun j _ h=>by omega,[],new_self _,by simpa using Tells.nil⟩ ?_
  rintro _ S3 ⟨k3,n3,p3,i,rfl,hi,hok,hltn,es,m3,ht⟩ KE hKE
  unfold b133_0
  rw [bin_lss,onB_v]
  refine gd_of (fun hlt=>?_) (fun hge=>?_)
  · have hlt:i < c.names.length:=by simpa using hlt
    have hx:=hc.names _ (List.getElem_mem hlt)
    rw [ixS_nL hlt]
    generalize hxe:c.names[i] = x at *
    have hno:=fun h=>NamesR.no_ok hlt (hxe ▸ h)
    unfold Na.row
    rw [ldN_q3]
    refine boxA_of rfl fun S4 k4 n4 o4=>?_
    refine stA_of o4 rfl rfl fun S5 n5 o5 f5=>?_
    have k5:Keep S S5:=(k3.trans k4).st (by have:=k3.1; omega) n5 f5
    have p5:S5.obj S.n = _:=(f5 _ (by omega)).trans ((k4.2 _ (by omega)).trans p3)
    have m5:S5.obj S1.n = _:=(f5 _ (by omega)).trans ((k4.2 _ (by omega)).trans m3)
    rw [shift_p,ld1_p o5 rfl rfl]
    refine callF_ans (ans167 x.text hx.2.2.2) ?_
    rw [un_not,onB_v]
    refine gd_of (fun h1=>⟨?_,k5⟩) (fun h1=>?_)
    · rw [hno (fun h=>by rw [h.1] at h1; cases h1)]
    rw [shift_p,ld1_p o5 rfl rfl]
    refine callF_ans (ans168 x.kind hx.1 hx.2.1) ?_
    rw [bin_lss,onB_v]
    refine gd_of (fun h2=>⟨?_,k5⟩) (fun h2=>?_)
    · rw [hno (fun h=>by have:=h.2; rw [many_no (of_decide_eq_true h2)] at this; omega)]
    rw [shift_p,ld1_p o5 rfl rfl,bin_lss,onB_v]
    refine gd_of (fun h3=>⟨?_,k5⟩) (fun h3=>?_)
    · rw [hno (fun h=>by have:=h.2; have:=of_decide_eq_true h3; omega)]
    rw [shift_p,ld1_p o5 rfl rfl,shift_p,ld1_p o5 rfl rfl,convI_v,wrap32 hx.1 hx.2.1,lkM_mt (keyI _ _)]
    rw [lkV_many]
    rw [bin_geq,onB_v]
    refine gd_of (fun h4=>⟨?_,k5⟩) (fun h4=>?_)
    · rw [hno (fun h=>by have:=h.2; have:=of_decide_eq_true h4; omega)]
    have hgood:nameOk c x:=⟨by simpa using h1,by have:=of_decide_eq_false h3; omega,by have:=of_decide_eq_false h4; omega⟩
    rw [shift_p,ld1_p o5 rfl rfl,bld_of (cs:=[]) rfl,updM_m m5 (keyS _)]
    have k6:=k5.upd (id:=S1.n) (by omega) (.map .s (insM es (keyOf x.text) (.a [])) true)
    have p6:(Store.upd S5 S1.n (.map .s (insM es (keyOf x.text) (.a [])) true)).obj S.n = _:=(upd_ne (by omega)).trans p5
    have o6:(Store.upd S5 S1.n (.map .s (insM es (keyOf x.text) (.a [])) true)).obj S3.n = _:=(upd_ne (by omega)).trans o5
    have m6:(Store.upd S5 S1.n (.map .s (insM es (keyOf x.text) (.a [])) true)).obj S1.n = _:=upd_self _ _
    have n6:S4.n = (Store.upd S5 S1.n (.map .s (insM es (keyOf x.text) (.a [])) true)).n:=n5.symm
    have n6':S3.n + 1 = (Store.upd S5 S1.n (.map .s (insM es (keyOf x.text) (.a [])) true)).n:=by rw [← n6,n4]
    generalize Store.upd S5 S1.n (.map .s (insM es (keyOf x.text) (.a [])) true) = S6 at *
    have ht':Tells (insM es (keyOf x.text) (.a [])) ((c.names.take (i + 1)).map fun x=>keyOf x.text):=by
      rw [List.take_add_one,List.getElem?_eq_getElem hlt,hxe,List.map_append]
      exact ht.add _ _
    have hok':∀ j (h:j < c.names.length),j < i + 1 → nameOk c c.names[j]:=fun j hj hj'=>by
      rcases Nat.lt_or_ge j i with h | h
      · exact hok j hj h
      · have:j = i:=by omega
        subst this
        rw [hxe]; exact hgood
    have hadd:∀ K:AV → Store → Prop,∀ S,bin .add 0 (.v (.int .i64 (i:Int))) (.v (.int .i64 1)) S K = K (aI (i + 1:Nat)) S:=fun K S=>bin_add (by omega) (by omega) 0
    have hμ:c.names.length - ((intA (aI (i + 1:Nat))).getD 0).toNat < c.names.length - ((intA (aI i)).getD 0).toNat:=by simp [intA]; omega
    rw [bin_eql,onB_v]
    refine gd_of (fun h5=>?_) (fun h5=>?_)
    · have h5:i = 0:=by have:=of_decide_eq_true h5; omega
      rw [hadd]
      exact hKE _ _ ⟨k6,by omega,p6,i + 1,rfl,hlt,hok',fun j hj hj'=>by omega,_,m6,ht'⟩ hμ
    · have h5:i ≠ 0:=by have:=of_decide_eq_false h5; omega
      obtain ⟨j,rfl⟩:∃ j,i = j + 1:=⟨i - 1,by omega⟩
      have hj:j < c.names.length:=by omega
      have hy:=hc.names _ (List.getElem_mem hj)
      have hsub:∀ K:AV → Store → Prop,∀ S,bin .sub 0 (.v (.int .i64 ((j + 1:Nat):Int))) (.v (.int .i64 1)) S K = K (aI j) S:=fun K S=>(bin_sub (by omega) (by omega) 0).trans (by rw [show ((j + 1:Nat):Int) - 1 = j by omega])
      rw [shift_p,ld1_p p6 rfl rfl,hsub,ixS_nL hj]
      have hnl:¬ nameLt c.names[j] x → namesB c = false:=fun h=>NamesR.no_lt hlt (by rw [hxe]; exact h)
      generalize hye:c.names[j] = y at *
      unfold Na.row
      rw [ldN_q3]
      refine boxA_of rfl fun S7 k7 n7 o7=>?_
      refine stA_of o7 rfl rfl fun S8 n8 o8 f8=>?_
      have k8:Keep S S8:=(k6.trans k7).st (by have:=k6.1; omega) n8 f8
      have p8:S8.obj S.n = _:=(f8 _ (by omega)).trans ((k7.2 _ (by omega)).trans p6)
      have m8:S8.obj S1.n = _:=(f8 _ (by omega)).trans ((k7.2 _ (by omega)).trans m6)
      have q8:S8.obj S3.n = _:=(f8 _ (by omega)).trans ((k7.2 _ (by omega)).trans o6)
      show ∃ q50:AV,_
      refine ⟨_,by rw [shift_p]; exact ⟨rfl,rfl⟩,?_⟩
      refine ⟨_,by rw [ld1_p o8 rfl rfl]; exact ⟨rfl,rfl⟩,?_⟩
      refine ⟨_,callF_ans (ans168 y.kind hy.1 hy.2.1) ⟨rfl,rfl⟩,?_⟩
      refine ⟨_,by rw [shift_p]; exact ⟨rfl,rfl⟩,?_⟩
      refine ⟨_,by rw [ld1_p q8 rfl rfl]; exact ⟨rfl,rfl⟩,?_⟩
      refine ⟨_,callF_ans (ans168 x.kind hx.1 hx.2.1) ⟨rfl,rfl⟩,?_⟩
      refine ⟨_,callF_ans (ans170 _ _) ⟨rfl,rfl⟩,?_⟩
      refine ⟨_,by rw [shift_p]; exact ⟨rfl,rfl⟩,?_⟩
      refine ⟨_,by rw [ld1_p o8 rfl rfl]; exact ⟨rfl,rfl⟩,?_⟩
      refine ⟨_,by rw [shift_p]; exact ⟨rfl,rfl⟩,?_⟩
      refine ⟨_,by rw [ld1_p q8 rfl rfl]; exact ⟨rfl,rfl⟩,?_⟩
      refine ⟨_,callF_ans (ans170 _ _) ⟨rfl,rfl⟩,?_⟩
      refine ⟨_,bsl2 rfl rfl ⟨rfl,rfl⟩,?_⟩
      refine ⟨_,callF_ans (ans169 _ _) ⟨rfl,rfl⟩,?_⟩
      refine ⟨_,by rw [bin_geq]; exact ⟨rfl,rfl⟩,?_⟩
      rw [onB_v]
      have hcmp:(0 ≤ if cmpZ (rankI y.kind) (rankI x.kind) ≠ 0 then cmpZ (rankI y.kind) (rankI x.kind) else cmpZ y.pos x.pos) ↔ ¬ nameLt y x:=by
        unfold cmpZ nameLt
        repeat' split
        all_goals omega
      refine gd_of (fun h6=>⟨?_,k8⟩) (fun h6=>?_)
      · rw [hnl (hcmp.1 (of_decide_eq_true h6))]
      · rw [hadd]
        refine hKE _ _ ⟨k8,by omega,p8,j + 1 + 1,rfl,hlt,hok',fun k hk hk'=>?_,_,m8,ht'⟩ hμ
        rcases Nat.lt_or_ge (k + 1) (j + 1) with h | h
        · exact hltn k hk h
        · have:k = j:=by omega
          subst this
          rw [hxe,hye]
          have:=of_decide_eq_false h6
          exact Classical.not_not.1 fun hh=>this (hcmp.2 hh)
  · have hge:i = c.names.length:=by simp at hge; omega
    subst hge
    rw [lenM_m m3,shift_p,ld1_p p3 rfl rfl,lenS_nL,bin_eql]
    refine ⟨?_,k3⟩
    congr 3
    simp only [namesB,decide_eq_decide]
    have:=ht.eq
    rw [List.length_map,List.length_take,Nat.min_self] at this
    rw [Int.natCast_inj,this]
    exact ⟨fun h=>⟨hok,hltn,h⟩,fun h=>h.nodup⟩
theorem ans114 {c:Ci} (hc:c.ok):Ans Tryz.prog 114 [c.av] (aB (namesB c)):=by
  intro S
  refine ACalls.ans_v (calls114 ?_)
  have hlen:=hc.nlen
  unfold m114
  refine boxA_of rfl fun S1 k1 n1 o1=>?_
  refine loop114_0 (fun y S'=>Keep S S' ∧ S.n < S'.n ∧ S'.obj S.n = some (.cells 42 [c.cells] true) ∧ ∃ i:Nat,y = aI i ∧ i ≤ c.names.length ∧ NamesR c i)
    (fun y _=>c.names.length - ((intA y).getD 0).toNat) ⟨k1,by omega,o1,0,rfl,Nat.zero_le _,NamesR.zero c⟩ ?_
  rintro _ S3 ⟨k3,n3,p3,i,rfl,hi,hR⟩ KE hKE
  unfold b114_0
  rw [shift_p,ld1_p p3 rfl rfl,lenS_nL,bin_lss,onB_v]
  refine gd_of (fun hlt=>?_) (fun hge=>?_)
  · have hlt:i < c.names.length:=by simpa using hlt
    have hx:=hc.names _ (List.getElem_mem hlt)
    rw [shift_p,ld1_p p3 rfl rfl,ixS_nL hlt]
    generalize hxe:c.names[i] = x at *
    have hno:=fun h=>NamesR.no_ok hlt (hxe ▸ h)
    have hrow:x.row = [.v (.int .u8 x.kind),aI x.pos,.v (.string x.text)]:=rfl
    rw [hrow,ldN_q3]
    refine boxA_of rfl fun S4 k4 n4 o4=>?_
    refine stA_of o4 rfl rfl fun S5 n5 o5 f5=>?_
    have k5:Keep S S5:=(k3.trans k4).st (by have:=k3.1; omega) n5 f5
    have p5:S5.obj S.n = _:=(f5 _ (by omega)).trans ((k4.2 _ (by omega)).trans p3)
    show ∃ q13:AV,_
    refine ⟨_,by rw [shift_p]; exact ⟨rfl,rfl⟩,?_⟩
    refine ⟨_,by rw [ld1_p o5 rfl rfl]; exact ⟨rfl,rfl⟩,?_⟩
    refine ⟨_,callF_ans (ans149 x.text hx.2.2.2) ⟨rfl,rfl⟩,?_⟩
    refine ⟨_,by rw [un_not]; exact ⟨rfl,rfl⟩,?_⟩
    rw [onB_v]
    refine gd_of (fun h1=>?_) (fun h1=>?_)
    · refine ⟨_,⟨rfl,rfl⟩,?_⟩
      rw [onB_v,gd_true]
      refine ⟨_,⟨rfl,rfl⟩,?_⟩
      rw [onB_v,gd_true]
      exact ⟨by rw [hno (fun h=>by rw [h.1] at h1; cases h1)],k5⟩
    refine ⟨_,by rw [shift_p]; exact ⟨rfl,rfl⟩,?_⟩
    refine ⟨_,by rw [ld1_p o5 rfl rfl]; exact ⟨rfl,rfl⟩,?_⟩
    refine ⟨_,by rw [bin_lss]; exact ⟨rfl,rfl⟩,?_⟩
    refine ⟨_,⟨rfl,rfl⟩,?_⟩
    rw [onB_v]
    refine gd_of (fun h3=>?_) (fun h3=>?_)
    · refine ⟨_,⟨rfl,rfl⟩,?_⟩
      rw [onB_v,gd_true]
      exact ⟨by rw [hno (fun h=>by have:=h.2; have:=of_decide_eq_true h3; omega)],k5⟩
    refine ⟨_,by rw [shift_p]; exact ⟨rfl,rfl⟩,?_⟩
    refine ⟨_,by rw [ld1_p o5 rfl rfl]; exact ⟨rfl,rfl⟩,?_⟩
    refine ⟨_,by rw [ldN_p (n:=8) p5 rfl]; exact ⟨rfl,rfl⟩,?_⟩
    refine ⟨_,by rw [shift_p]; exact ⟨rfl,rfl⟩,?_⟩
    refine ⟨_,by rw [ld1_p o5 rfl rfl]; exact ⟨rfl,rfl⟩,?_⟩
    refine ⟨_,callF_ans (ans150 c x.kind) ⟨rfl,rfl⟩,?_⟩
    refine ⟨_,by rw [bin_geq]; exact ⟨rfl,rfl⟩,?_⟩
    refine ⟨_,⟨rfl,rfl⟩,?_⟩
    rw [onB_v]
    refine gd_of (fun h4=>⟨?_,k5⟩) (fun h4=>?_)
    · rw [hno (fun h=>by have:=h.2; have:=of_decide_eq_true h4; omega)]
    have hgood:nameOk c x:=⟨by simpa using h1,by have:=of_decide_eq_false h3; omega,by have:=of_decide_eq_false h4; omega⟩
    have hok':∀ j (h:j < c.names.length),j < i + 1 → nameOk c c.names[j]:=fun j hj hj'=>by
      rcases Nat.lt_or_ge j i with h | h
      · exact hR.ok j hj h
      · have:j = i:=by omega
        subst this
        rw [hxe]; exact hgood
    refine loop114_1 (fun y S'=>S' = S5 ∧ ∃ k:Nat,y = aI k ∧ k ≤ i ∧ ∀ j (hj:j < k) (hk:k ≤ i),(c.names[j]'(by omega)).text ≠ x.text)
      (fun y _=>i - ((intA y).getD 0).toNat) ⟨rfl,0,rfl,Nat.zero_le _,fun j hj=>(Nat.not_lt_zero _ hj).elim⟩ ?_
    rintro _ S5 ⟨rfl,k,rfl,hk,hne⟩ KE1 hKE1
    unfold b114_1
    rw [bin_lss,onB_v]
    refine gd_of (fun hlk=>?_) (fun hgk=>?_)
    · have hlk:k < i:=by simpa using hlk
      have hkl:k < c.names.length:=by omega
      show ∃ q70:AV,_
      refine ⟨_,by rw [shift_p]; exact ⟨rfl,rfl⟩,?_⟩
      refine ⟨_,by rw [ld1_p p5 rfl rfl]; exact ⟨rfl,rfl⟩,?_⟩
      refine ⟨_,by rw [ixS_nL hkl]; exact ⟨rfl,rfl⟩,?_⟩
      refine ⟨_,by rw [shift_q]; exact ⟨rfl,rfl⟩,?_⟩
      refine ⟨_,by rw [ld1_qj (u:=.v (.string c.names[k].text)) rfl]; exact ⟨rfl,rfl⟩,?_⟩
      refine ⟨_,by rw [shift_p]; exact ⟨rfl,rfl⟩,?_⟩
      refine ⟨_,by rw [ld1_p o5 rfl rfl]; exact ⟨rfl,rfl⟩,?_⟩
      refine ⟨_,by rw [bin_eqlS]; exact ⟨rfl,rfl⟩,?_⟩
      rw [onB_v]
      refine gd_of (fun h6=>⟨?_,k5⟩) (fun h6=>?_)
      · have h6:c.names[k].text = x.text:=of_decide_eq_true h6
        have:namesB c = false:=by
          simp only [namesB,decide_eq_false_iff_not]
          intro h'
          have hnd:=h'.nodup
          rw [List.take_length] at hnd
          have:=List.pairwise_iff_getElem.1 hnd k i (by simpa using hkl) (by simpa using hlt) hlk
          simp only [List.getElem_map,hxe,h6] at this
          exact this rfl
        rw [this]
      · have hadd:∀ K:AV → Store → Prop,∀ S,bin .add 0 (.v (.int .i64 (k:Int))) (.v (.int .i64 1)) S K = K (aI (k + 1:Nat)) S:=fun K S=>bin_add (by omega) (by omega) 0
        rw [hadd]
        refine hKE1 _ _ ⟨rfl,k + 1,rfl,hlk,fun j hj _=>?_⟩ (by simp [intA]; omega)
        rcases Nat.lt_or_ge j k with hj' | hj'
        · exact hne j hj' (by omega)
        · have:j = k:=by omega
          subst this
          exact of_decide_eq_false h6
    · have hge:k = i:=by simp at hgk; omega
      subst hge
      have hnd':((c.names.take (k + 1)).map fun x=>keyOf x.text).Nodup:=by
        have h:=hR.nodup
        rw [List.take_add_one,List.getElem?_eq_getElem hlt,List.map_append,List.nodup_append]
        refine ⟨h,by simp,fun a ha b hb=>?_⟩
        rw [List.mem_map] at ha hb
        obtain ⟨y,hy,rfl⟩:=ha
        obtain ⟨z,hz,rfl⟩:=hb
        have:z = x:=by simpa [hxe] using hz
        subst this
        rw [List.mem_take_iff_getElem] at hy
        obtain ⟨j,hj,rfl⟩:=hy
        exact fun e=>hne j (by omega) (Nat.le_refl _) (keyOf_inj e)
      have hadd:∀ K:AV → Store → Prop,∀ S,bin .add 0 (.v (.int .i64 (k:Int))) (.v (.int .i64 1)) S K = K (aI (k + 1:Nat)) S:=fun K S=>bin_add (by omega) (by omega) 0
      have hμ:c.names.length - ((intA (aI (k + 1:Nat))).getD 0).toNat < c.names.length - ((intA (aI k)).getD 0).toNat:=by simp [intA]; omega
      have next:(∀ j (h:j + 1 < c.names.length),j + 1 = k → nameLt c.names[j] x) → KE _ (env114_0 (.p S.n 0 0) (aI (k + 1:Nat))) S5:=fun hl=>hKE _ _ ⟨k5,by omega,p5,k + 1,rfl,hlt,hok',fun j hj hj'=>by
        rcases Nat.lt_or_ge (j + 1) k with h | h
        · exact hR.lt j hj h
        · have e:j + 1 = k:=by omega
          have:=hl j hj e
          subst e
          rw [hxe]; exact this,hnd'⟩ hμ
      rw [bin_gtr,onB_v]
      refine gd_of (fun h7=>?_) (fun h7=>?_)
      · obtain ⟨j,rfl⟩:∃ j,k = j + 1:=⟨k - 1,by have:=of_decide_eq_true h7; omega⟩
        have hj:j < c.names.length:=by omega
        have hnl:¬ nameLt c.names[j] x → namesB c = false:=fun h=>NamesR.no_lt hlt (by rw [hxe]; exact h)
        have next:=fun (h:nameLt c.names[j] x)=>next (fun j' hj' e=>by
          have:j' = j:=by omega
          subst this
          exact h)
        have hsub:∀ K:AV → Store → Prop,∀ S,bin .sub 0 (.v (.int .i64 ((j + 1:Nat):Int))) (.v (.int .i64 1)) S K = K (aI j) S:=fun K S=>(bin_sub (by omega) (by omega) 0).trans (by rw [show ((j + 1:Nat):Int) - 1 = j by omega])
        have hix:∀ K:AV → Store → Prop,ixS 130 3 (nL c.names) (aI j) S5 K = K (.q c.names[j].row 0) S5:=fun K=>ixS_nL hj
        generalize hye:c.names[j] = y at *
        have hrow':y.row = [.v (.int .u8 y.kind),aI y.pos,.v (.string y.text)]:=rfl
        show ∃ q90:AV,_
        refine ⟨_,by rw [shift_p]; exact ⟨rfl,rfl⟩,?_⟩
        refine ⟨_,by rw [ld1_p p5 rfl rfl]; exact ⟨rfl,rfl⟩,?_⟩
        refine ⟨_,by rw [hsub]; exact ⟨rfl,rfl⟩,?_⟩
        refine ⟨_,by rw [hix]; exact ⟨rfl,rfl⟩,?_⟩
        refine ⟨_,by rw [shift_q]; exact ⟨rfl,rfl⟩,?_⟩
        refine ⟨_,by rw [ld1_qj (u:=.v (.int .u8 y.kind)) rfl]; exact ⟨rfl,rfl⟩,?_⟩
        refine ⟨_,callF_ans (ans151 y.kind) ⟨rfl,rfl⟩,?_⟩
        refine ⟨_,by rw [shift_p]; exact ⟨rfl,rfl⟩,?_⟩
        refine ⟨_,by rw [ld1_p o5 rfl rfl]; exact ⟨rfl,rfl⟩,?_⟩
        refine ⟨_,callF_ans (ans151 x.kind) ⟨rfl,rfl⟩,?_⟩
        show ∃ q110:AV,_
        refine ⟨_,by rw [bin_gtr]; exact ⟨rfl,rfl⟩,?_⟩
        rw [onB_v]
        refine gd_of (fun h8=>?_) (fun h8=>?_)
        · refine ⟨_,⟨rfl,rfl⟩,?_⟩
          rw [onB_v,gd_true]
          refine ⟨?_,k5⟩
          have h8:=of_decide_eq_true h8
          rw [hnl (by unfold nameLt; omega)]
        have h8:=of_decide_eq_false h8
        refine ⟨_,by rw [bin_eql]; exact ⟨rfl,rfl⟩,?_⟩
        rw [onB_v]
        refine gd_of (fun h9=>?_) (fun h9=>?_)
        · have h9:rankI y.kind = rankI x.kind:=of_decide_eq_true h9
          refine ⟨_,by rw [shift_p]; exact ⟨rfl,rfl⟩,?_⟩
          refine ⟨_,by rw [ld1_p p5 rfl rfl]; exact ⟨rfl,rfl⟩,?_⟩
          refine ⟨_,by rw [hsub]; exact ⟨rfl,rfl⟩,?_⟩
          refine ⟨_,by rw [hix]; exact ⟨rfl,rfl⟩,?_⟩
          refine ⟨_,by rw [shift_q]; exact ⟨rfl,rfl⟩,?_⟩
          refine ⟨_,by rw [ld1_qj (u:=aI y.pos) rfl]; exact ⟨rfl,rfl⟩,?_⟩
          refine ⟨_,by rw [shift_p]; exact ⟨rfl,rfl⟩,?_⟩
          refine ⟨_,by rw [ld1_p o5 rfl rfl]; exact ⟨rfl,rfl⟩,?_⟩
          refine ⟨_,by rw [bin_geq]; exact ⟨rfl,rfl⟩,?_⟩
          refine ⟨_,⟨rfl,rfl⟩,?_⟩
          refine ⟨_,⟨rfl,rfl⟩,?_⟩
          rw [onB_v]
          refine gd_of (fun h10=>⟨?_,k5⟩) (fun h10=>?_)
          · have h10:=of_decide_eq_true h10
            rw [hnl (by unfold nameLt; omega)]
          · have h10:=of_decide_eq_false h10
            rw [hadd]
            exact next (by unfold nameLt; omega)
        · have h9:¬ rankI y.kind = rankI x.kind:=of_decide_eq_false h9
          refine ⟨_,⟨rfl,rfl⟩,?_⟩
          refine ⟨_,⟨rfl,rfl⟩,?_⟩
          rw [onB_v,gd_false,hadd]
          exact next (by unfold nameLt; omega)
      · rw [hadd]
        exact next (fun j hj e=>by have:=of_decide_eq_false h7; omega)
  · have hge:i = c.names.length:=by simp at hge; omega
    subst hge
    refine ⟨?_,k3⟩
    have:namesB c = true:=by simp only [namesB,decide_eq_true_eq]; exact hR
    rw [this]
theorem ans113 {g:Gr} {l:List Int} (hg:g.ok) (hl:∀ x ∈ l,i64R x) (hn:l.length ≤ 9223372036854775807):Ans Tryz.prog 113 [g.av,aL aI l] (aB (l.all g.lit && decide (l.length ≤ 2000))):=by
  intro S
  refine ACalls.ans_v (calls113 ?_)
  unfold m113
  refine boxA_of rfl fun S1 k1 n1 o1=>?_
  refine loop113_0 (fun y S'=>S' = S1 ∧ ∃ i:Nat,y = aI i ∧ i ≤ l.length ∧ ∀ j (h:j < l.length),j < i → g.lit l[j] = true)
    (fun y _=>l.length - ((intA y).getD 0).toNat) ⟨rfl,0,rfl,Nat.zero_le _,fun j _ hj=>(Nat.not_lt_zero _ hj).elim⟩ ?_
  rintro _ S1 ⟨rfl,i,rfl,hi,hok⟩ KE hKE
  unfold b113_0
  rw [lenS_aL,bin_lss,onB_v]
  refine gd_of (fun hlt=>?_) (fun hge=>?_)
  · have hlt:i < l.length:=by simpa using hlt
    have hm:=List.getElem_mem hlt
    show ∃ q5:AV,_
    refine ⟨_,by rw [ldN_p (n:=2) o1 rfl]; exact ⟨rfl,rfl⟩,?_⟩
    refine ⟨_,by rw [ixS_aL hlt]; exact ⟨rfl,rfl⟩,?_⟩
    refine ⟨_,by rw [ld1_q]; exact ⟨rfl,rfl⟩,?_⟩
    refine ⟨_,callF_ans (ans112 hg (hl _ hm)) ⟨rfl,rfl⟩,?_⟩
    refine ⟨_,by rw [un_not]; exact ⟨rfl,rfl⟩,?_⟩
    rw [onB_v]
    refine gd_of (fun h=>⟨?_,k1⟩) (fun h=>?_)
    · have:l.all g.lit = false:=by
        rw [List.all_eq_false]
        exact ⟨_,hm,by simpa using h⟩
      rw [this]; rfl
    · have hadd:∀ K:AV → Store → Prop,∀ S,bin .add 0 (.v (.int .i64 (i:Int))) (.v (.int .i64 1)) S K = K (aI (i + 1:Nat)) S:=fun K S=>bin_add (by omega) (by omega) 0
      rw [hadd]
      refine hKE _ _ ⟨rfl,i + 1,rfl,hlt,fun j hj hj'=>?_⟩ (by simp [intA]; omega)
      rcases Nat.lt_or_ge j i with h' | h'
      · exact hok j hj h'
      · have:j = i:=by omega
        subst this
        simpa using h
  · have hge:i = l.length:=by simp at hge; omega
    subst hge
    rw [lenS_aL,bin_leq]
    refine ⟨?_,k1⟩
    have:l.all g.lit = true:=by
      rw [List.all_eq_true]
      intro x hx
      obtain ⟨j,hj,rfl⟩:=List.getElem_of_mem hx
      exact hok j hj hj
    rw [this,Bool.true_and,show decide ((l.length:Int) ≤ 2000) = decide (l.length ≤ 2000) from decide_eq_decide.2 (by omega)]
def latOk (g:Gr) (p:Int × Int):Bool:=g.lit p.1 && (decide (0 ≤ p.2) && decide (p.2 ≤ 2))
def Ci.manyL (c:Ci):List Int:=[c.inputs,c.latches.length,c.outs.length,c.bads.length,c.cons.length,c.fair.length]
noncomputable def Ci.right (c:Ci):Bool :=
  c.manyL.all (fun n=>decide (0 ≤ n) && decide (n ≤ 2000)) && (c.gr.right && (c.latches.all (latOk c.gr) && (c.outs.all c.gr.lit && (c.bads.all c.gr.lit && (c.cons.all c.gr.lit && (c.fair.all c.gr.lit && namesB c))))))
theorem at128 {S:Store} {g:Gr} {id:Nat} {l:Int} (hg:g.ok) (hl:i64R l) (h:S.obj id = some (.cells 82 [g.cells] true)):AnsAt Tryz.prog 128 [aI l,.p id 0 0] S (aB (!g.lit l)):=by
  refine calls128 ?_
  unfold m128
  rw [ldN_p (n:=2) h rfl]
  refine callF_ans (ans88 hg hl) ?_
  rw [un_not]
  exact ⟨rfl,rfl⟩
theorem at129 {S:Store} {g:Gr} {id fid t:Nat} {p:Int × Int} (hg:g.ok) (hl:i64R p.1) (hid:id < S.n) (hf:fid < S.n) (h:S.obj id = some (.cells 82 [g.cells] true))
    (h2:S.obj fid = some (.cells t [[.f (.func 128) [] [.p id 0 0]]] true)):AnsAt Tryz.prog 129 [.a [aI p.1,aI p.2],.p fid 0 0] S (aB (!latOk g p)):=by
  refine ACalls.ans_v (calls129 ?_)
  unfold m129
  refine boxA_of rfl fun S1 k1 n1 o1=>?_
  have h':=(k1.2 _ hid).trans h
  have h2':=(k1.2 _ hf).trans h2
  rw [ld1_p h2' rfl rfl,shift_p,ld1_p o1 rfl rfl]
  refine callV_at (at128 hg hl h') ?_
  rw [onB_v]
  refine gd_of (fun h3=>⟨?_,k1⟩) (fun h3=>?_)
  · rw [Bool.not_eq_true'] at h3
    simp [latOk,h3]
  have h3:g.lit p.1 = true:=by simpa using h3
  rw [shift_p,ld1_p o1 rfl rfl,bin_lss,onB_v]
  refine gd_of (fun h4=>⟨?_,k1⟩) (fun h4=>?_)
  · have h4:=of_decide_eq_true h4
    simp [latOk,show ¬ 0 ≤ p.2 by omega]
  rw [shift_p,ld1_p o1 rfl rfl,bin_gtr]
  refine ⟨?_,k1⟩
  have h4:=of_decide_eq_false h4
  simp only [latOk,h3,Bool.true_and,show 0 ≤ p.2 by omega,decide_true]
  congr 4
  rw [← decide_not]
  exact decide_eq_decide.2 (by omega)
theorem at165 {l:List (Int × Int)} (hl:l.length ≤ 9223372036854775807) {g:Int × Int → Bool} {fn:FuncId} {fs cs:List AV} {S:Store}
    (hf:∀ x,x ∈ l → AnsAt Tryz.prog fn (fs ++ [.a [aI x.1,aI x.2]] ++ cs) S (aB (g x))):AnsAt Tryz.prog 165 [pL l,.f (.func fn) fs cs] S (aI (idxOf (l.findIdx? g))):=by
  refine calls165 ?_
  unfold m165
  rw [lenS_pL]
  refine loop165_0 (fun y S'=>S' = S ∧ ∃ i:Nat,y = aI i ∧ i ≤ l.length ∧ ∀ k (hk:k < l.length),k < i → g l[k] = false) (fun y _=>l.length - ((intA y).getD 0).toNat) ⟨rfl,0,rfl,Nat.zero_le _,fun k _ h=>absurd h (Nat.not_lt_zero _)⟩ ?_
  rintro _ _ ⟨rfl,i,rfl,hi,hk⟩ KE hKE
  unfold b165_0
  rw [bin_lss,onB_v]
  refine gd_of (fun h=>?_) (fun h=>?_)
  · have hlt:i < l.length:=by simpa using h
    rw [ixS_pL hlt,ldN_q2]
    refine callV_at (hf _ (List.getElem_mem hlt)) ?_
    rw [onB_v]
    refine gd_of (fun hg=>⟨?_,rfl⟩) (fun hg=>?_)
    · rw [find_at hlt hg (fun k hk'=>hk k _ hk')]; rfl
    · rw [bin_add (by omega) (by omega)]
      refine hKE _ _ ⟨rfl,i + 1,rfl,hlt,fun k hk1 hk2=>?_⟩ ?_
      · by_cases e:k = i
        · subst e; exact hg
        · exact hk k hk1 (by omega)
      · simp [intA,aI]; omega
  · have hge:i = l.length:=by simp at h; omega
    subst hge
    rw [find_none (fun k hk'=>hk k hk' hk')]
    exact ⟨rfl,rfl⟩
theorem at131 {l:List (Int × Int)} (hl:l.length ≤ 9223372036854775807) {g:Int × Int → Bool} {fn:FuncId} {fs cs:List AV} {S:Store}
    (hf:∀ x,x ∈ l → AnsAt Tryz.prog fn (fs ++ [.a [aI x.1,aI x.2]] ++ cs) S (aB (g x))):AnsAt Tryz.prog 131 [pL l,.f (.func fn) fs cs] S (aB (l.any g)):=by
  refine calls131 ?_
  unfold m131
  refine callF_at (at165 hl hf) ?_
  unfold aI
  rw [bin_geq,idx_any]
  exact ⟨rfl,rfl⟩
theorem manyE_at {c:Ci} {i:Nat} {e:Key × AV} (h:c.manyE[i]? = some e):∃ h':i < 6,e.2 = aI (c.manyL[i]'h'):=by
  match i with
  | 0 | 1 | 2 | 3 | 4 | 5=>cases h; exact ⟨by decide,rfl⟩
  | i + 6=>simp [Ci.manyE] at h
theorem any_not {l:List Int} {g:Int → Bool}:l.any (fun x=>!g x) = !l.all g:=by
  induction l with
  | nil=>rfl
  | cons a l ih=>simp [ih]
theorem any_notP {l:List (Int × Int)} {g:Int × Int → Bool}:l.any (fun x=>!g x) = !l.all g:=by
  induction l with
  | nil=>rfl
  | cons a l ih=>simp [ih]
theorem nodup_lt6:∀ {n:Nat} {l:List Nat},l.Nodup → (∀ x ∈ l,x < n) → l.length ≤ n
  | 0,l,_,h=>by
    cases l with
    | nil=>simp
    | cons x l=>exact absurd (h x (by simp)) (Nat.not_lt_zero _)
  | n + 1,l,hd,h=>by
    have h1:=nodup_lt6 (n:=n) (l:=l.erase n) (hd.erase n) (fun x hx=>by
      have:=(hd.mem_erase_iff).1 hx
      have:=h x this.2
      omega)
    by_cases hm:n ∈ l
    · have:=List.length_erase_of_mem hm
      omega
    · rw [List.erase_of_not_mem hm] at h1
      omega
theorem ans85 {c:Ci} (hc:c.ok):Ans Tryz.prog 85 [c.av] (aB c.right):=by
  intro S
  refine ACalls.ans_v (calls85 ?_)
  have hg:=hc.gr
  unfold m85
  refine boxA_of rfl fun S1 k1 n1 o1=>?_
  rw [ldN_p (n:=8) o1 rfl]
  refine callF_ans (ans84 c) ?_
  refine boxA_of rfl fun S2 k2 n2 o2=>?_
  refine stA_of o2 rfl rfl fun S3 n3 o3 f3=>?_
  have k3:Keep S S3:=(k1.trans k2).st (by omega) n3 f3
  have p3:S3.obj S.n = _:=(f3 _ (by omega)).trans ((k2.2 _ (by omega)).trans o1)
  rw [ldN_p (n:=8) p3 rfl]
  refine callF_ans (ans127 c) ?_
  show loopV _ _ _ _ _ _
  have hmany:∀ (i:Nat) (h:i < 6),¬ (0 ≤ c.manyL[i]'h ∧ c.manyL[i]'h ≤ 2000) → c.right = false:=fun i h hn=>by
    have:c.manyL.all (fun n=>decide (0 ≤ n) && decide (n ≤ 2000)) = false:=by
      rw [List.all_eq_false]
      exact ⟨_,List.getElem_mem (l:=c.manyL) h,by simpa using hn⟩
    simp only [Ci.right,this,Bool.false_and]
  refine loop85_0 (fun S'=>Keep S S' ∧ S3.n < S'.n ∧ S'.obj S.n = some (.cells 42 [c.cells] true) ∧ S'.obj S1.n = some (.cells 82 [c.gr.cells] true) ∧
      ∃ seen,S'.obj S3.n = some (.mit (.mt (.i .i32) c.manyE) 6 seen) ∧ seen.Nodup ∧ (∀ i ∈ seen,∃ h:i < 6,0 ≤ c.manyL[i]'h ∧ c.manyL[i]'h ≤ 2000))
    (fun S'=>match S'.obj S3.n with | some (.mit _ _ seen)=>6 - seen.length | _=>0)
    ⟨k3.new _,by simp,(new_lt (by omega)).trans p3,(new_lt (by omega)).trans o3,[],new_self _,by simp,fun i h=>by simp at h⟩ ?_
  rintro S4 ⟨k4,n4,p4,g4,seen,m4,hnd,hse⟩ KE hKE
  unfold b85_0 nextM
  simp only [m4,mapKK,optP_some]
  refine ⟨rfl,fun i e he hi=>?_,fun hall=>?_⟩
  · obtain ⟨hi6,hev⟩:=manyE_at he
    have k5:Keep S (Store.upd S4 S3.n (.mit (.mt (.i .i32) c.manyE) 6 (seen ++ [i]))):=k4.upd (by have:=k3.1; omega) _
    have m5:(Store.upd S4 S3.n (.mit (.mt (.i .i32) c.manyE) 6 (seen ++ [i]))).obj S3.n = _:=upd_self _ _
    have p5:(Store.upd S4 S3.n (.mit (.mt (.i .i32) c.manyE) 6 (seen ++ [i]))).obj S.n = _:=(upd_ne (by omega)).trans p4
    have g5:(Store.upd S4 S3.n (.mit (.mt (.i .i32) c.manyE) 6 (seen ++ [i]))).obj S1.n = _:=(upd_ne (by omega)).trans g4
    have n5:(Store.upd S4 S3.n (.mit (.mt (.i .i32) c.manyE) 6 (seen ++ [i]))).n = S4.n:=rfl
    generalize Store.upd S4 S3.n (.mit (.mt (.i .i32) c.manyE) 6 (seen ++ [i])) = S5 at *
    rw [extr0,onB_v,gd_true]
    unfold entryM
    simp only [m5,mapKK,optP_some]
    refine ⟨rfl,i,by simp,e,he,?_⟩
    show extr _ _ _ _
    rw [extr1,hev,bin_lss,onB_v]
    refine gd_of (fun h1=>⟨?_,k5⟩) (fun h1=>?_)
    · rw [hmany i hi6 (fun h=>by have:=of_decide_eq_true h1; omega)]
    rw [bin_gtr,onB_v]
    refine gd_of (fun h2=>⟨?_,k5⟩) (fun h2=>?_)
    · rw [hmany i hi6 (fun h=>by have:=of_decide_eq_true h2; omega)]
    have h1:=of_decide_eq_false h1
    have h2:=of_decide_eq_false h2
    have hnd':(seen ++ [i]).Nodup:=by
      rw [List.nodup_append]
      refine ⟨hnd,by simp,fun a ha b hb=>?_⟩
      have:b = i:=by simpa using hb
      subst this
      rintro rfl
      exact hi ha
    have hse':∀ j ∈ seen ++ [i],∃ h:j < 6,0 ≤ c.manyL[j]'h ∧ c.manyL[j]'h ≤ 2000:=fun j hj=>by
      rcases List.mem_append.1 hj with hj | hj
      · exact hse j hj
      · have:j = i:=by simpa using hj
        subst this
        exact ⟨hi6,by omega,by omega⟩
    have hlen:(seen ++ [i]).length ≤ 6:=by
      exact nodup_lt6 hnd' (fun x hx=>(hse' x hx).1)
    refine hKE _ ⟨k5,by omega,p5,g5,_,m5,hnd',hse'⟩ ?_
    simp only [m5,m4]
    simp at hlen ⊢
    omega
  · unfold over
    rw [extr0,onB_v,gd_false]
    have hm:c.manyL.all (fun n=>decide (0 ≤ n) && decide (n ≤ 2000)) = true:=by
      rw [List.all_eq_true]
      intro x hx
      obtain ⟨i,hi,rfl⟩:=List.getElem_of_mem hx
      obtain ⟨h6,h0,h1⟩:=hse i (hall i hi)
      simp only [Bool.and_eq_true,decide_eq_true_eq]
      exact ⟨h0,h1⟩
    have hright:c.right = (c.gr.right && (c.latches.all (latOk c.gr) && (c.outs.all c.gr.lit && (c.bads.all c.gr.lit && (c.cons.all c.gr.lit && (c.fair.all c.gr.lit && namesB c)))))):=by
      simp only [Ci.right,hm,Bool.true_and]
    clear hm hall hse hmany
    refine box1_of rfl fun S5 k5 n5 o5=>?_
    refine st_of o5 rfl rfl fun S6 n6 o6 f6=>?_
    have k6:Keep S S6:=(k4.trans k5).st (by have:=k4.1; omega) n6 f6
    have p6:S6.obj S.n = _:=(f6 _ (by omega)).trans ((k5.2 _ (by omega)).trans p4)
    have g6:S6.obj S1.n = _:=(f6 _ (by omega)).trans ((k5.2 _ (by omega)).trans g4)
    rw [ldN_p (n:=2) g6 rfl]
    refine callF_ans (ans130 hg) ?_
    rw [un_not,onB_v]
    refine gd_of (fun h1=>⟨?_,k6⟩) (fun h1=>?_)
    · rw [Bool.not_eq_true'] at h1
      rw [hright,h1]; rfl
    have h1:c.gr.right = true:=by simpa using h1
    rw [shift_p,ld1_p p6 rfl rfl]
    have hlat:=hc.llen
    refine callF_at (at131 (by omega) (g:=fun p=>!latOk c.gr p) (fun p hp=>at129 hg (hc.lats p hp).1 (by omega) (by omega) g6 o6)) ?_
    rw [any_notP,onB_v]
    refine gd_of (fun h2=>⟨?_,k6⟩) (fun h2=>?_)
    · rw [Bool.not_eq_true'] at h2
      rw [hright,h1,h2]; rfl
    have h2:c.latches.all (latOk c.gr) = true:=by simpa using h2
    rw [shift_p,ld1_p p6 rfl rfl,shift_p,ld1_p p6 rfl rfl,shift_p,ld1_p p6 rfl rfl,shift_p,ld1_p p6 rfl rfl,bld_of (cs:=[aL aI c.outs,aL aI c.bads,aL aI c.cons,aL aI c.fair]) rfl]
    rw [h1,h2,Bool.true_and,Bool.true_and] at hright
    have call:∀ (l:List Int),((∀ x ∈ l,i64R x) ∧ l.length ≤ 9223372036854775807) → ∀ {Q:AEnd → Store → Prop} {K:AV → Store → Prop},K (aB (!l.all c.gr.lit)) S6 → callF Tryz.prog 132 [aL aI l,.f (.func 128) [] [.p S1.n 0 0]] S6 Q K:=fun l hl Q K k =>
      callF_at (at132 hl.2 (g:=fun x=>!c.gr.lit x) (fun x hx=>at128 hg (hl.1 x hx) g6)) (show K (aB (l.any fun x=>!c.gr.lit x)) S6 by rw [any_not]; exact k)
    refine loop85_1 (fun y S'=>S' = S6 ∧ ∃ i:Nat,y = aI i ∧ i ≤ 4 ∧ (1 ≤ i → c.outs.all c.gr.lit = true) ∧ (2 ≤ i → c.bads.all c.gr.lit = true) ∧ (3 ≤ i → c.cons.all c.gr.lit = true) ∧ (4 ≤ i → c.fair.all c.gr.lit = true))
      (fun y _=>4 - ((intA y).getD 0).toNat) ⟨rfl,0,rfl,Nat.zero_le _,fun h=>by omega,fun h=>by omega,fun h=>by omega,fun h=>by omega⟩ ?_
    rintro _ S6 ⟨rfl,i,rfl,hi,a1,a2,a3,a4⟩ KE1 hKE1
    unfold b85_1
    rw [bin_lss,onB_v]
    refine gd_of (fun hlt=>?_) (fun hge=>?_)
    · have hlt:i < 4:=by have:=of_decide_eq_true hlt; exact Int.ofNat_lt.1 this
      have hadd:∀ K:AV → Store → Prop,∀ S,bin .add 0 (.v (.int .i64 (i:Int))) (.v (.int .i64 1)) S K = K (aI (i + 1:Nat)) S:=fun K S=>bin_add (by omega) (by omega) 0
      match i,hlt with
      | 0,_ =>
        refine ⟨0,rfl,⟨by decide,by decide⟩,_,rfl,?_⟩
        show ld1 _ _ _
        rw [ld1_p o6 rfl rfl]
        refine call _ hc.outs ?_
        rw [onB_v]
        refine gd_of (fun h=>⟨?_,k6⟩) (fun h=>?_)
        · rw [Bool.not_eq_true'] at h
          rw [hright,h]; rfl
        · rw [hadd]
          exact hKE1 _ _ ⟨rfl,1,rfl,by decide,fun _=>by simpa using h,fun h=>by omega,fun h=>by omega,fun h=>by omega⟩ (by simp [intA])
      | 1,_ =>
        have a1:=a1 (by decide)
        refine ⟨1,rfl,⟨by decide,by decide⟩,_,rfl,?_⟩
        show ld1 _ _ _
        rw [ld1_p o6 rfl rfl]
        refine call _ hc.bads ?_
        rw [onB_v]
        refine gd_of (fun h=>⟨?_,k6⟩) (fun h=>?_)
        · rw [Bool.not_eq_true'] at h
          rw [hright,a1,h]; rfl
        · rw [hadd]
          exact hKE1 _ _ ⟨rfl,2,rfl,by decide,fun _=>a1,fun _=>by simpa using h,fun h=>by omega,fun h=>by omega⟩ (by simp [intA])
      | 2,_ =>
        have a1:=a1 (by decide)
        have a2:=a2 (by decide)
        refine ⟨2,rfl,⟨by decide,by decide⟩,_,rfl,?_⟩
        show ld1 _ _ _
        rw [ld1_p o6 rfl rfl]
        refine call _ hc.cons ?_
        rw [onB_v]
        refine gd_of (fun h=>⟨?_,k6⟩) (fun h=>?_)
        · rw [Bool.not_eq_true'] at h
          rw [hright,a1,a2,h]; rfl
        · rw [hadd]
          exact hKE1 _ _ ⟨rfl,3,rfl,by decide,fun _=>a1,fun _=>a2,fun _=>by simpa using h,fun h=>by omega⟩ (by simp [intA])
      | 3,_ =>
        have a1:=a1 (by decide)
        have a2:=a2 (by decide)
        have a3:=a3 (by decide)
        refine ⟨3,rfl,⟨by decide,by decide⟩,_,rfl,?_⟩
        show ld1 _ _ _
        rw [ld1_p o6 rfl rfl]
        refine call _ hc.fair ?_
        rw [onB_v]
        refine gd_of (fun h=>⟨?_,k6⟩) (fun h=>?_)
        · rw [Bool.not_eq_true'] at h
          rw [hright,a1,a2,a3,h]; rfl
        · rw [hadd]
          exact hKE1 _ _ ⟨rfl,4,rfl,by decide,fun _=>a1,fun _=>a2,fun _=>a3,fun _=>by simpa using h⟩ (by simp [intA])
    · have hge:i = 4:=by
        have:¬ ((i:Int) < 4):=of_decide_eq_false hge
        omega
      subst hge
      rw [ldN_p (n:=8) p6 rfl]
      refine callF_ans (ans133 hc) ⟨?_,k6⟩
      rw [hright,a1 (by decide),a2 (by decide),a3 (by decide),a4 (by decide)]; rfl
theorem right_c {c:Ci}:c.right = true ↔ (0 ≤ c.inputs ∧ c.inputs ≤ 2000) ∧ c.latches.length ≤ 2000 ∧ c.outs.length ≤ 2000 ∧ c.bads.length ≤ 2000 ∧ c.cons.length ≤ 2000 ∧ c.fair.length ≤ 2000 ∧
    c.gr.right = true ∧ c.latches.all (latOk c.gr) = true ∧ c.outs.all c.gr.lit = true ∧ c.bads.all c.gr.lit = true ∧ c.cons.all c.gr.lit = true ∧ c.fair.all c.gr.lit = true ∧ namesB c = true:=by
  have e:∀ n:Nat,(decide (0 ≤ (n:Int)) && decide ((n:Int) ≤ 2000)) = decide (n ≤ 2000):=fun n=>by
    rw [decide_eq_true (by omega:0 ≤ (n:Int)),Bool.true_and]
    exact decide_eq_decide.2 (by omega)
  simp only [Ci.right,Ci.manyL,List.all_cons,List.all_nil,e,Bool.and_eq_true,decide_eq_true_eq,Bool.and_true]
  constructor
  · rintro ⟨⟨a,b1,b2,b3,b4,b5⟩,c1,c2,c3,c4,c5,c6,c7⟩
    exact ⟨a,b1,b2,b3,b4,b5,c1,c2,c3,c4,c5,c6,c7⟩
  · rintro ⟨a,b1,b2,b3,b4,b5,c1,c2,c3,c4,c5,c6,c7⟩
    exact ⟨⟨a,b1,b2,b3,b4,b5⟩,c1,c2,c3,c4,c5,c6,c7⟩
theorem gd_fo {b:Bool} {A B:Prop} (h2:b = false → B) (h1:b = true → A):gd b A B:=gd_of h1 h2
theorem right_no {c:Ci} (h:¬ c.right = true):c.right = false:=by simpa using h
theorem ans65 {c:Ci} (hc:c.ok):Ans Tryz.prog 65 [c.av] (aB c.right):=by
  intro S
  refine ACalls.ans_v (calls65 ?_)
  have hg:=hc.gr
  have hll:=hc.llen
  unfold m65
  refine boxA_of rfl fun S1 k1 n1 o1=>?_
  rw [ldN_p (n:=8) o1 rfl]
  refine callF_ans (ans41 c) ?_
  refine boxA_of rfl fun S2 k2 n2 o2=>?_
  refine stA_of o2 rfl rfl fun S3 n3 o3 f3=>?_
  have k3:Keep S S3:=(k1.trans k2).st (by omega) n3 f3
  have p3:S3.obj S.n = _:=(f3 _ (by omega)).trans ((k2.2 _ (by omega)).trans o1)
  rw [shift_p,ld1_p p3 rfl rfl,bin_lss,onB_v]
  refine gd_of (fun h1=>⟨?_,k3⟩) (fun h1=>?_)
  · rw [right_no fun h=>by have:=(right_c.1 h).1; have:=of_decide_eq_true h1; omega]
  rw [shift_p,ld1_p p3 rfl rfl,bin_gtr,onB_v]
  refine gd_of (fun h2=>⟨?_,k3⟩) (fun h2=>?_)
  · rw [right_no fun h=>by have:=(right_c.1 h).1; have:=of_decide_eq_true h2; omega]
  rw [shift_p,ld1_p p3 rfl rfl,lenS_pL,bin_gtr,onB_v]
  refine gd_of (fun h3=>⟨?_,k3⟩) (fun h3=>?_)
  · rw [right_no fun h=>by have:=(right_c.1 h).2.1; have:=of_decide_eq_true h3; omega]
  have h1:=of_decide_eq_false h1
  have h2:=of_decide_eq_false h2
  have h3:=of_decide_eq_false h3
  rw [ldN_p (n:=2) o3 rfl]
  refine callF_ans (ans111 hg) ?_
  rw [un_not,onB_v]
  refine gd_of (fun h4=>⟨?_,k3⟩) (fun h4=>?_)
  · rw [right_no fun h=>by rw [(right_c.1 h).2.2.2.2.2.2.1] at h4; cases h4]
  have h4:c.gr.right = true:=by simpa using h4
  refine loop65_0 (fun y S'=>S' = S3 ∧ ∃ i:Nat,y = aI i ∧ i ≤ c.latches.length ∧ ∀ j (h:j < c.latches.length),j < i → latOk c.gr c.latches[j] = true)
    (fun y _=>c.latches.length - ((intA y).getD 0).toNat) ⟨rfl,0,rfl,Nat.zero_le _,fun j _ hj=>(Nat.not_lt_zero _ hj).elim⟩ ?_
  rintro _ S3 ⟨rfl,i,rfl,hi,hok⟩ KE hKE
  unfold b65_0
  rw [shift_p,ld1_p p3 rfl rfl,lenS_pL,bin_lss,onB_v]
  refine gd_of (fun hlt=>?_) (fun hge=>?_)
  · have hlt:i < c.latches.length:=by simpa using hlt
    have hm:=List.getElem_mem hlt
    have hno:latOk c.gr c.latches[i] = false → c.right = false:=fun h=>right_no fun h'=>by
      have:=List.all_eq_true.1 (right_c.1 h').2.2.2.2.2.2.2.1 _ hm
      rw [h] at this; cases this
    have hix:∀ K:AV → Store → Prop,ixS 66 2 (pL c.latches) (aI i) S3 K = K (.q [aI c.latches[i].1,aI c.latches[i].2] 0) S3:=fun K=>ixS_pL hlt
    have hl:=(hc.lats _ hm).1
    have hnext:latOk c.gr c.latches[i] = true → KE _ (env65_0 (.p S.n 0 0) (.p S1.n 0 0) (aI (i + 1:Nat))) S3:=fun h=>hKE _ _ ⟨rfl,i + 1,rfl,hlt,fun j hj hj'=>by
      rcases Nat.lt_or_ge j i with h' | h'
      · exact hok j hj h'
      · have:j = i:=by omega
        subst this
        exact h⟩ (by simp [intA]; omega)
    generalize c.latches[i] = x at *
    show ∃ q28:AV,_
    refine ⟨_,by rw [ldN_p (n:=2) o3 rfl]; exact ⟨rfl,rfl⟩,?_⟩
    refine ⟨_,by rw [shift_p]; exact ⟨rfl,rfl⟩,?_⟩
    refine ⟨_,by rw [ld1_p p3 rfl rfl]; exact ⟨rfl,rfl⟩,?_⟩
    refine ⟨_,by rw [hix]; exact ⟨rfl,rfl⟩,?_⟩
    refine ⟨_,by rw [shift_q]; exact ⟨rfl,rfl⟩,?_⟩
    refine ⟨_,by rw [ld1_qj (u:=aI x.1) rfl]; exact ⟨rfl,rfl⟩,?_⟩
    refine ⟨_,callF_ans (ans112 hg hl) ⟨rfl,rfl⟩,?_⟩
    refine ⟨_,by rw [un_not]; exact ⟨rfl,rfl⟩,?_⟩
    rw [onB_v]
    refine gd_of (fun h5=>?_) (fun h5=>?_)
    · refine ⟨_,⟨rfl,rfl⟩,?_⟩
      rw [onB_v,gd_true]
      refine ⟨_,⟨rfl,rfl⟩,?_⟩
      rw [onB_v,gd_true]
      refine ⟨?_,k3⟩
      rw [Bool.not_eq_true'] at h5
      rw [hno (by simp [latOk,h5])]
    have h5:c.gr.lit x.1 = true:=by simpa using h5
    refine ⟨_,by rw [shift_p]; exact ⟨rfl,rfl⟩,?_⟩
    refine ⟨_,by rw [ld1_p p3 rfl rfl]; exact ⟨rfl,rfl⟩,?_⟩
    refine ⟨_,by rw [hix]; exact ⟨rfl,rfl⟩,?_⟩
    refine ⟨_,by rw [shift_q]; exact ⟨rfl,rfl⟩,?_⟩
    refine ⟨_,by rw [ld1_qj (u:=aI x.2) rfl]; exact ⟨rfl,rfl⟩,?_⟩
    refine ⟨_,by rw [bin_lss]; exact ⟨rfl,rfl⟩,?_⟩
    refine ⟨_,⟨rfl,rfl⟩,?_⟩
    rw [onB_v]
    refine gd_of (fun h6=>?_) (fun h6=>?_)
    · refine ⟨_,⟨rfl,rfl⟩,?_⟩
      rw [onB_v,gd_true]
      refine ⟨?_,k3⟩
      have h6:=of_decide_eq_true h6
      rw [hno (by simp [latOk,show ¬ 0 ≤ x.2 by omega])]
    refine ⟨_,by rw [shift_p]; exact ⟨rfl,rfl⟩,?_⟩
    refine ⟨_,by rw [ld1_p p3 rfl rfl]; exact ⟨rfl,rfl⟩,?_⟩
    refine ⟨_,by rw [hix]; exact ⟨rfl,rfl⟩,?_⟩
    refine ⟨_,by rw [shift_q]; exact ⟨rfl,rfl⟩,?_⟩
    refine ⟨_,by rw [ld1_qj (u:=aI x.2) rfl]; exact ⟨rfl,rfl⟩,?_⟩
    refine ⟨_,by rw [bin_gtr]; exact ⟨rfl,rfl⟩,?_⟩
    refine ⟨_,⟨rfl,rfl⟩,?_⟩
    rw [onB_v]
    refine gd_of (fun h7=>⟨?_,k3⟩) (fun h7=>?_)
    · have h7:=of_decide_eq_true h7
      rw [hno (by simp [latOk,show ¬ x.2 ≤ 2 by omega])]
    · have hadd:∀ K:AV → Store → Prop,∀ S,bin .add 0 (.v (.int .i64 (i:Int))) (.v (.int .i64 1)) S K = K (aI (i + 1:Nat)) S:=fun K S=>bin_add (by omega) (by omega) 0
      rw [hadd]
      have h6:=of_decide_eq_false h6
      have h7:=of_decide_eq_false h7
      exact hnext (by simp [latOk,h5,show 0 ≤ x.2 by omega,show x.2 ≤ 2 by omega])
  · have hge:i = c.latches.length:=by simp at hge; omega
    subst hge
    have h5:c.latches.all (latOk c.gr) = true:=by
      rw [List.all_eq_true]
      intro x hx
      obtain ⟨j,hj,rfl⟩:=List.getElem_of_mem hx
      exact hok j hj hj
    rw [ldN_p (n:=2) o3 rfl,shift_p,ld1_p p3 rfl rfl]
    refine callF_ans (ans113 hg hc.outs.1 hc.outs.2) ?_
    rw [onB_v]
    refine gd_fo (fun a1=>⟨?_,k3⟩) (fun a1=>?_)
    · rw [right_no fun h=>by simp [(right_c.1 h).2.2.2.2.2.2.2.2.1,(right_c.1 h).2.2.1] at a1]
    rw [ldN_p (n:=2) o3 rfl,shift_p,ld1_p p3 rfl rfl]
    refine callF_ans (ans113 hg hc.bads.1 hc.bads.2) ?_
    rw [onB_v]
    refine gd_fo (fun a2=>⟨?_,k3⟩) (fun a2=>?_)
    · rw [right_no fun h=>by simp [(right_c.1 h).2.2.2.2.2.2.2.2.2.1,(right_c.1 h).2.2.2.1] at a2]
    rw [ldN_p (n:=2) o3 rfl,shift_p,ld1_p p3 rfl rfl]
    refine callF_ans (ans113 hg hc.cons.1 hc.cons.2) ?_
    rw [onB_v]
    refine gd_fo (fun a3=>⟨?_,k3⟩) (fun a3=>?_)
    · rw [right_no fun h=>by simp [(right_c.1 h).2.2.2.2.2.2.2.2.2.2.1,(right_c.1 h).2.2.2.2.1] at a3]
    rw [ldN_p (n:=2) o3 rfl,shift_p,ld1_p p3 rfl rfl]
    refine callF_ans (ans113 hg hc.fair.1 hc.fair.2) ?_
    rw [onB_v]
    refine gd_fo (fun a4=>⟨?_,k3⟩) (fun a4=>?_)
    · rw [right_no fun h=>by simp [(right_c.1 h).2.2.2.2.2.2.2.2.2.2.2.1,(right_c.1 h).2.2.2.2.2.1] at a4]
    rw [ldN_p (n:=8) p3 rfl]
    refine callF_ans (ans114 hc) ⟨?_,k3⟩
    rw [Bool.and_eq_true,decide_eq_true_eq] at a1 a2 a3 a4
    congr 3
    rw [Bool.eq_iff_iff]
    exact ⟨fun h=>right_c.2 ⟨⟨by omega,by omega⟩,by omega,a1.2,a2.2,a3.2,a4.2,h4,h5,a1.1,a2.1,a3.1,a4.1,h⟩,fun h=>(right_c.1 h).2.2.2.2.2.2.2.2.2.2.2.2⟩
def litB (v:List Bool) (l:Int):Bool:=v.getD (l.tdiv 2).toNat false != decide (l.tmod 2 = 1)
def allTo (g:Gr) (ins:List Bool):Nat → List Bool
  | 0=>false :: ins
  | i + 1=>allTo g ins i ++ [litB (allTo g ins i) (g.ands.getD i (0,0)).1 && litB (allTo g ins i) (g.ands.getD i (0,0)).2]
@[simp] theorem allTo_len (g:Gr) (ins:List Bool):∀ i,(allTo g ins i).length = ins.length + 1 + i
  | 0=>rfl
  | i + 1=>by simp [allTo,allTo_len g ins i]; omega
def allB (g:Gr) (ins:List Bool):List Bool:=if (g.right && decide ((ins.length:Int) = g.inputs)) = true then allTo g ins g.ands.length else []
theorem bitL_at {S:Store} {x:AV} {l:Int} {b:Bool} (hl:i64R l) (hx:∀ K:AV → Store → Prop,K (aB b) S → ixS 4 1 x (aI (l.tdiv 2)) S fun v S=>ld1 v S K):AnsAt Tryz.prog 153 [x,aI l] S (aB (b != decide (l.tmod 2 = 1))):=by
  refine calls153 ?_
  unfold m153
  rw [bin_half hl]
  refine hx _ ?_
  rw [bin_rem (by decide),bin_eql,bin_neqB]
  exact ⟨rfl,rfl⟩
theorem may_at {g:Gr} (h:g.right = true) {i:Nat} (hi:i < g.ands.length):2 ≤ g.ands[i].2 ∧ g.ands[i].2.tdiv 2 < g.ands[i].1.tdiv 2 ∧ g.ands[i].1.tdiv 2 < g.inputs + 1 + i ∧ 0 ≤ g.ands[i].2.tdiv 2:=by
  have:=(right_iff.1 h).2.2.2.2.1 i hi
  rw [show g.ands.getD i (0,0) = g.ands[i] by simp [List.getD_eq_getElem?_getD,hi]] at this
  simp only [may,Bool.and_eq_true,decide_eq_true_eq] at this
  exact ⟨this.1,this.2.1,this.2.2,Int.tdiv_nonneg (by omega) (by decide)⟩
theorem ix_own {n:Nat} {S:Store} {x:AV} {v:List Bool} (h:Own n S x 4 (v.map fun b=>[aB b])) {z:Int} (h0:0 ≤ z) (h1:z < v.length) (K:AV → Store → Prop) (k:K (aB (v.getD z.toNat false)) S):ixS 4 1 x (aI z) S fun v S=>ld1 v S K:=by
  obtain ⟨i,rfl⟩:=Int.eq_ofNat_of_zero_le h0
  have hi:i < v.length:=by omega
  obtain ⟨id,rfl,h2,h3,h4⟩:=h.ix (i:=i) (by simpa using hi)
  rw [ixS_s (by simpa using hi) h4,ld1_p h4 (by rw [Nat.zero_add,List.getElem?_map,List.getElem?_eq_getElem hi]; rfl) rfl]
  rw [show (v.getD (Int.toNat i) false) = v[i] by simp [List.getD_eq_getElem?_getD,hi]] at k
  exact k
theorem ix_tree {S:Store} {v:List Bool} {z:Int} (h0:0 ≤ z) (h1:z < v.length) (K:AV → Store → Prop) (k:K (aB (v.getD z.toNat false)) S):ixS 4 1 (aL aB v) (aI z) S fun v S=>ld1 v S K:=by
  obtain ⟨i,rfl⟩:=Int.eq_ofNat_of_zero_le h0
  have hi:i < v.length:=by omega
  rw [ixS_aL hi,ld1_q]
  rw [show (v.getD (Int.toNat i) false) = v[i] by simp [List.getD_eq_getElem?_getD,hi]] at k
  exact k
def OwnL (f:FuncId) (args:List AV) (l:List Bool):Prop :=
  ∀ S,ACalls Tryz.prog f args S (fun r S'=>∃ x,r = .ret x ∧ Keep S S' ∧ Own S.n S' x 4 (l.map fun b=>[aB b]))
theorem OwnL.ans {f:FuncId} {args:List AV} {l:List Bool} (h:OwnL f args l):Ans Tryz.prog f args (aL aB l):=ACalls.ans_own (f:=fun b=>.bool b) (e:=4) h
theorem src_aL (S:Store) (l:List Bool):srcE S (aL aB l) = some (l.map fun b=>[aB b]):=rfl
theorem own152 {g:Gr} (hg:g.ok) {ins:List Bool} (hin:ins.length ≤ 1000000):OwnL 152 [g.av,aL aB ins] (allB g ins):=by
  intro S
  refine calls152 ?_
  have hlen:=hg.len
  unfold m152
  refine boxA_of rfl fun S1 k1 n1 o1=>?_
  rw [ldN_p (n:=2) o1 rfl]
  refine callF_ans (ans111 hg) ?_
  rw [un_not,onB_v]
  refine gd_of (fun h1=>⟨_,rfl,k1,?_⟩) (fun h1=>?_)
  · rw [Bool.not_eq_true'] at h1
    rw [allB,h1]
    exact Own.nl _ _ _
  have h1:g.right = true:=by simpa using h1
  rw [lenS_aL,shift_p,ld1_p o1 rfl rfl,bin_neq,onB_v]
  refine gd_of (fun h2=>⟨_,rfl,k1,?_⟩) (fun h2=>?_)
  · rw [Bool.not_eq_true'] at h2
    rw [allB,h2,Bool.and_false]
    exact Own.nl _ _ _
  have h2:decide ((ins.length:Int) = g.inputs) = true:=by simpa using h2
  have h2':=of_decide_eq_true h2
  have hres:allB g ins = allTo g ins g.ands.length:=by rw [allB,h1,h2]; rfl
  have hb:∀ (b:Bool) {S:Store} {K:AV → Store → Prop},K (.l [[aB b]]) S → bslN 4 1 1 [.v (.bool false)] [(0,aB b)] S K:=fun b S K k=>bsl1 rfl (fun _ h=>by cases h) k
  refine ⟨[aB false],by simp [fillA,cellsOf,AV.one,Value.oneCell',spl],.inl ?_⟩
  have w2:Own S1.n (S1.new (.cells 4 (chunks 1 1 [aB false]) true)) (.s S1.n 0 1) 4 [[aB false]]:=.inr ⟨S1.n,rfl,Nat.le_refl _,by simp,by rw [new_self]; rfl⟩
  have k2:Keep S1 (S1.new (.cells 4 (chunks 1 1 [aB false]) true)):=(Keep.refl _).new _
  generalize S1.new (.cells 4 (chunks 1 1 [aB false]) true) = S2 at *
  refine Own.appL w2 k2.1 (ys:=ins.map fun b=>[aB b]) (fun c hc=>by obtain ⟨p,_,rfl⟩:=List.mem_map.1 hc; rfl) (by simp; omega) (fun z1 S3 w3 b3 hz3=>?_) (src_aL _ _)
  have k3:Keep S1 S3:=w2.keep (Nat.le_refl _) b3 k2
  have k3':=k1.trans k3
  refine loop152_0 (fun y z S'=>Keep S1 S' ∧ ∃ i:Nat,z = aI i ∧ i ≤ g.ands.length ∧ Own S1.n S' y 4 ((allTo g ins i).map fun b=>[aB b]))
    (fun _ z _=>g.ands.length - ((intA z).getD 0).toNat) ⟨k3,0,rfl,Nat.zero_le _,w3⟩ ?_
  rintro y _ S4 ⟨k4,i,rfl,hi,w4⟩ KE hKE
  have o4:=(k4.2 S.n (by omega)).trans o1
  unfold b152_0
  rw [shift_p,ld1_p o4 rfl rfl,lenS_pL,bin_lss,onB_v]
  refine gd_of (fun hlt=>?_) (fun hge=>?_)
  · have hlt:i < g.ands.length:=by simpa using hlt
    obtain ⟨q1,q2,q3,q4⟩:=may_at h1 hlt
    have hp:=hg.pairs _ (List.getElem_mem hlt)
    have hget:g.ands.getD i (0,0) = g.ands[i]:=by simp [List.getD_eq_getElem?_getD,hlt]
    have e1:∀ (c:List AV) (K:AV → Store → Prop),ixA 2 1 (.q c 0) (.v (.int .i64 1)) S4 K = K (.q c 1) S4:=fun c K=>ixA_q (z:=1) (by decide)
    have e0:∀ (c:List AV) (K:AV → Store → Prop),ixA 2 1 (.q c 0) (.v (.int .i64 0)) S4 K = K (.q c 0) S4:=fun c K=>ixA_q (z:=0) (by decide)
    have hadd:∀ K:AV → Store → Prop,∀ S,bin .add 0 (.v (.int .i64 (i:Int))) (.v (.int .i64 1)) S K = K (aI (i + 1:Nat)) S:=fun K S=>bin_add (by omega) (by omega) 0
    have hl4:(allTo g ins i).length = ins.length + 1 + i:=allTo_len g ins i
    have step:∀ b,allTo g ins (i + 1) = allTo g ins i ++ [b] → appS 4 1 1 y (.l [[aB b]]) S4 fun v T=>bin .add 0 (aI i) (.v (.int .i64 1)) T fun v' T=>KE 49 (env152_0 (.p S.n 0 0) v v') T:=fun b hb=>by
      refine w4.app k4.1 (c:=[aB b]) rfl (by simp; omega) (fun z5 S5 w5 b5 hz5=>?_) rfl
      rw [hadd]
      refine hKE _ _ _ ⟨w4.keep (Nat.le_refl _) b5 k4,i + 1,rfl,hlt,?_⟩ (by simp [intA]; omega)
      rw [hb,List.map_append]
      exact w5
    rw [shift_p,ld1_p o4 rfl rfl,ixS_pL hlt,e0,ld1_q0]
    refine callF_at (bitL_at hp.1 (fun K k=>ix_own w4 (by omega) (by rw [hl4]; omega) K k)) ?_
    rw [onB_v]
    refine gd_of (fun h3=>?_) (fun h3=>?_)
    · rw [shift_p,ld1_p o4 rfl rfl,ixS_pL hlt,e1,ld1_q1]
      refine callF_at (bitL_at hp.2 (fun K k=>ix_own w4 (by omega) (by rw [hl4]; omega) K k)) ?_
      refine hb _ (step _ ?_)
      simp only [allTo,hget,litB]
      rw [h3,Bool.true_and]
    · refine hb _ (step _ ?_)
      simp only [allTo,hget,litB]
      rw [h3,Bool.false_and]
  · have hge:i = g.ands.length:=by simp at hge; omega
    subst hge
    rw [hres]
    exact ⟨_,rfl,k1.trans k4,w4.low (by omega)⟩
theorem allB_len {g:Gr} {ins:List Bool}:(allB g ins).length = if (g.right && decide ((ins.length:Int) = g.inputs)) = true then (g.vars).toNat else 0:=by
  unfold allB
  split
  · rename_i h
    simp only [Bool.and_eq_true,decide_eq_true_eq] at h
    rw [allTo_len]
    simp only [Gr.vars,← h.2]
    omega
  · rfl
def Gr.eval (g:Gr) (l:Int) (ins:List Bool):Bool:=decide (0 < (allB g ins).length) && (g.lit l && litB (allB g ins) l)
theorem ans115 {g:Gr} (hg:g.ok) {l:Int} (hl:i64R l) {ins:List Bool} (hin:ins.length ≤ 1000000):Ans Tryz.prog 115 [g.av,aI l,aL aB ins] (aB (g.eval l ins)):=by
  intro S
  refine ACalls.ans_v (calls115 ?_)
  unfold m115
  refine boxA_of rfl fun S1 k1 n1 o1=>?_
  rw [ldN_p (n:=2) o1 rfl]
  refine callF_ans (own152 hg hin).ans ?_
  rw [lenS_aL,bin_gtr,onB_v]
  refine gd_fo (fun h1=>⟨?_,k1⟩) (fun h1=>?_)
  · have h1:=of_decide_eq_false h1
    simp [Gr.eval,show ¬ 0 < (allB g ins).length by omega]
  have h1:0 < (allB g ins).length:=by have:=of_decide_eq_true h1; omega
  rw [ldN_p (n:=2) o1 rfl]
  refine callF_ans (ans112 hg hl) ?_
  rw [onB_v]
  refine gd_fo (fun h2=>⟨?_,k1⟩) (fun h2=>?_)
  · simp [Gr.eval,h2]
  have h3:0 ≤ l.tdiv 2 ∧ l.tdiv 2 < (allB g ins).length:=by
    have h4:=h2
    simp only [Gr.lit,Bool.and_eq_true,decide_eq_true_eq] at h4
    have:=allB_len (g:=g) (ins:=ins)
    split at this
    · exact ⟨Int.tdiv_nonneg (by omega) (by decide),by omega⟩
    · omega
  refine callF_at (bitL_at hl (fun K k=>ix_tree h3.1 h3.2 K k)) ⟨?_,k1⟩
  simp only [Gr.eval,h1,h2,decide_true,Bool.true_and]
  rfl
theorem and1 (a:Int):IntKind.i64.wrap ((BitVec.ofInt 64 a &&& BitVec.ofInt 64 1).toNat:Nat) = a % 2:=by
  have h1:(BitVec.ofInt 64 1).toNat = 1:=by decide
  rw [BitVec.toNat_and,h1,Nat.and_one_is_mod,BitVec.toNat_ofInt,wrap64 (by omega) (by omega)]
  omega
theorem bin_and1 {a:Int} {S:Store} {K:AV → Store → Prop}:bin .and 0 (aI a) (.v (.int .i64 1)) S K = K (aI (a % 2)) S:=by
  show bin .and 0 (.v (.int .i64 a)) (.v (.int .i64 1)) S K = _
  have:b2 .and 0 (.int .i64 a) (.int .i64 1) = some (.int .i64 (a % 2)):=by
    rw [← and1 a]; rfl
  show optP (b2 .and 0 (.int .i64 a) (.int .i64 1)) _ = _
  rw [this,optP_some]
theorem bin_shr1 {a:Int} (h:0 ≤ a) {S:Store} {K:AV → Store → Prop}:bin .shr 0 (aI a) (.v (.int .u64 1)) S K = K (aI (a.tdiv 2)) S:=by
  rw [bin_shr (by decide)]
  have:a.fdiv (2 ^ min (Int.toNat 1) IntKind.i64.bits) = a.tdiv 2:=by
    show a.fdiv 2 = _
    rw [Int.fdiv_eq_ediv_of_nonneg _ (by decide),Int.tdiv_eq_ediv_of_nonneg h]
  rw [this]
theorem at173 {S:Store} {fid t n:Nat} {x:AV} {v:List Bool} {l:Int} (h0:0 ≤ l) (h1:l.tdiv 2 < v.length) (hf:S.obj fid = some (.cells t [[x]] true)) (hx:Own n S x 4 (v.map fun b=>[aB b])) :
    AnsAt Tryz.prog 173 [aI l,.p fid 0 0] S (aB (litB v l)):=by
  refine calls173 ?_
  unfold m173
  rw [ld1_p hf rfl rfl,bin_shr1 h0]
  refine ix_own hx (Int.tdiv_nonneg h0 (by decide)) h1 _ ?_
  rw [bin_and1,bin_eql,bin_neqB]
  refine ⟨?_,rfl⟩
  rw [litB,show l.tmod 2 = l % 2 from Int.tmod_eq_emod_of_nonneg h0]
theorem mkN_lc {e b l c:Nat} {zc:List AV} (hl:l ≤ c) (hb:b * c ≤ 281474976710656) (hn:c ≤ 9223372036854775807) {S:Store} {K:AV → Store → Prop}:mkN e b zc (aI l) (aI c) S K = K (.s S.n 0 l) (S.new (.cells e (List.replicate l zc) true)):=by
  have h1:(b:Int) * c ≤ 281474976710656:=by
    have h:=Int.ofNat_le.2 hb
    rw [Int.natCast_mul] at h
    omega
  have h2:(c:Int) ≤ 9223372036854775807:=by omega
  have h0:(0:Int) ≤ l:=by omega
  have h3:(l:Int) ≤ c:=by omega
  simp only [mkN,intA,optP_some,h0,h1,h2,h3,Int.toNat_natCast,and_self,true_and]
theorem own_keep {n:Nat} {S T:Store} {x:AV} {e:Nat} {es:List (List AV)} (h:Own n S x e es) (k:Keep S T):Own n T x e es:=by
  rcases h with h | ⟨id,h1,h2,h3,h4⟩
  · exact .inl h
  · exact .inr ⟨id,h1,h2,Nat.lt_of_lt_of_le h3 k.1,(k.2 _ h3).trans h4⟩
theorem own_at154 {g:Gr} (hg:g.ok) {ins:List Bool} (hin:ins.length ≤ 1000000) {S:Store} {xi:AV} (hlx:∀ (T:Store) (K:AV → Store → Prop),lenS xi T K = K (aI ins.length) T) (hsx:∀ T,Keep S T → srcE T xi = some (ins.map fun b=>[aB b])) :
    ACalls Tryz.prog 154 [g.av,xi] S (fun r S'=>∃ x,r = .ret x ∧ Keep S S' ∧ Own S.n S' x 4 ((allB g ins).map fun b=>[aB b])):=by
  refine calls154 ?_
  have hlen:=hg.len
  unfold m154
  refine boxA_of rfl fun S1 k1 n1 o1=>?_
  rw [ldN_p (n:=2) o1 rfl]
  refine callF_ans (ans130 hg) ?_
  rw [un_not,onB_v]
  refine gd_of (fun h1=>⟨_,rfl,k1,?_⟩) (fun h1=>?_)
  · rw [Bool.not_eq_true'] at h1
    rw [allB,h1]
    exact Own.nl _ _ _
  have h1:g.right = true:=by simpa using h1
  rw [hlx,shift_p,ld1_p o1 rfl rfl,bin_neq,onB_v]
  refine gd_of (fun h2=>⟨_,rfl,k1,?_⟩) (fun h2=>?_)
  · rw [Bool.not_eq_true'] at h2
    rw [allB,h2,Bool.and_false]
    exact Own.nl _ _ _
  have h2:decide ((ins.length:Int) = g.inputs) = true:=by simpa using h2
  have h2':=of_decide_eq_true h2
  have hres:allB g ins = allTo g ins g.ands.length:=by rw [allB,h1,h2]; rfl
  rw [shift_p,ld1_p o1 rfl rfl,bin_add (by omega) (by omega),shift_p,ld1_p o1 rfl rfl,lenS_pL,bin_add (by omega) (by omega)]
  have hcap:g.inputs + 1 + (g.ands.length:Int) = ((ins.length + 1 + g.ands.length:Nat):Int):=by omega
  rw [hcap]
  have hmk:∀ {K:AV → Store → Prop},mkN 4 1 [.v (.bool false)] (.v (.int .i64 1)) (aI ((ins.length + 1 + g.ands.length:Nat):Int)) S1 K = K (.s S1.n 0 1) (S1.new (.cells 4 (List.replicate 1 [.v (.bool false)]) true)):=mkN_lc (l:=1) (by omega) (by omega) (by omega)
  rw [hmk]
  have w2:Own S1.n (S1.new (.cells 4 (List.replicate 1 [.v (.bool false)]) true)) (.s S1.n 0 1) 4 [[aB false]]:=.inr ⟨S1.n,rfl,Nat.le_refl _,by simp,by rw [new_self]; rfl⟩
  have k2:Keep S1 (S1.new (.cells 4 (List.replicate 1 [.v (.bool false)]) true)):=(Keep.refl _).new _
  have n2:(S1.new (.cells 4 (List.replicate 1 [.v (.bool false)]) true)).n = S1.n + 1:=rfl
  generalize S1.new (.cells 4 (List.replicate 1 [.v (.bool false)]) true) = S2 at *
  refine box1_of rfl fun S3 k3 n3 o3=>?_
  refine st_of o3 rfl rfl fun S4 n4 o4 f4=>?_
  have k4:Keep S1 S4:=(k2.trans k3).st (by omega) n4 f4
  have w4:Own S1.n S4 (.s S1.n 0 1) 4 [[aB false]]:=(own_keep w2 k3).st (id:=S2.n) (fun b m e=>by injection e; omega) n4 f4
  rw [ld1_p o4 rfl rfl]
  refine Own.appL w4 k4.1 (ys:=ins.map fun b=>[aB b]) (fun c hc=>by obtain ⟨p,_,rfl⟩:=List.mem_map.1 hc; rfl) (by simp; omega) (fun z1 S5 w5 b5 hz5=>?_) (hsx _ (k1.trans k4))
  have k5:Keep S1 S5:=w4.keep (Nat.le_refl _) b5 k4
  have o5:=(b5.2 S2.n (by omega) (fun b m e=>by injection e; omega)).trans o4
  have m5:=b5.1
  have z5:∀ b m,z1 ≠ .s S2.n b m:=fun b m e=>by
    rcases hz5 with h | ⟨m',h⟩
    · rw [h] at e; injection e; omega
    · rw [h] at e; injection e; omega
  refine st_of o5 rfl (by rcases w5 with ⟨h,_⟩ | ⟨_,h,_⟩ <;> rw [h] <;> rfl) fun S6 n6 o6 f6=>?_
  have k6:Keep S1 S6:=k5.st (by omega) n6 f6
  have w6:=w5.st (id:=S2.n) z5 n6 f6
  have p6:=(k6.2 S.n (by omega)).trans o1
  rw [shift_p,ld1_p p6 rfl rfl,lenS_pL]
  refine loop154_0 (fun y S'=>Keep S1 S' ∧ S2.n < S'.n ∧ ∃ i:Nat,y = aI i ∧ i ≤ g.ands.length ∧ ∃ z,S'.obj S2.n = some (.cells 53 [[z]] true) ∧ (∀ b m,z ≠ .s S2.n b m) ∧ Own S1.n S' z 4 ((allTo g ins i).map fun b=>[aB b]))
    (fun y _=>g.ands.length - ((intA y).getD 0).toNat) ⟨k6,by omega,0,rfl,Nat.zero_le _,z1,o6,z5,w6⟩ ?_
  rintro _ S7 ⟨k7,n7,i,rfl,hi,z,o7,hz,w7⟩ KE hKE
  unfold b154_0
  rw [bin_lss,onB_v]
  refine gd_of (fun hlt=>?_) (fun hge=>?_)
  · have hlt:i < g.ands.length:=by simpa using hlt
    obtain ⟨q1,q2,q3,q4⟩:=may_at h1 hlt
    have hp:=hg.pairs _ (List.getElem_mem hlt)
    have hget:g.ands.getD i (0,0) = g.ands[i]:=by simp [List.getD_eq_getElem?_getD,hlt]
    have hl4:(allTo g ins i).length = ins.length + 1 + i:=allTo_len g ins i
    rw [ixS_pL hlt,ldN_q2]
    generalize g.ands[i] = p at *
    refine boxA_of rfl fun S8 k8 n8 o8=>?_
    refine stA_of o8 rfl rfl fun S9 n9 o9 f9=>?_
    have k9:Keep S7 S9:=k8.st (Nat.le_refl _) n9 f9
    have w9:Own S1.n S9 z 4 _:=own_keep w7 k9
    have v9:=(k9.2 S2.n n7).trans o7
    have e1:∀ (T:Store) (K:AV → Store → Prop),ixA 2 1 (.p S7.n 0 0) (.v (.int .i64 1)) T K = K (.p S7.n 0 1) T:=fun T K=>ixA_p (z:=1) (by decide)
    have e0:∀ (T:Store) (K:AV → Store → Prop),ixA 2 1 (.p S7.n 0 0) (.v (.int .i64 0)) T K = K (.p S7.n 0 0) T:=fun T K=>ixA_p (z:=0) (by decide)
    have hadd:∀ K:AV → Store → Prop,∀ S,bin .add 0 (.v (.int .i64 (i:Int))) (.v (.int .i64 1)) S K = K (aI (i + 1:Nat)) S:=fun K S=>bin_add (by omega) (by omega) 0
    have hp1:0 ≤ p.1:=by
      rcases Int.le_total 0 p.1 with h | h
      · exact h
      · have:p.1.tdiv 2 ≤ 0:=by
          rw [show p.1.tdiv 2 = -((-p.1).tdiv 2) by rw [Int.neg_tdiv,Int.neg_neg],Int.tdiv_eq_ediv_of_nonneg (by omega)]
          omega
        omega
    have m9:S9.n = S7.n + 1:=by omega
    have step:∀ b,allTo g ins (i + 1) = allTo g ins i ++ [b] → appS 4 1 1 z (.l [[aB b]]) S9 fun v T=>stN 1 (.p S2.n 0 0) v T fun _ T=>bin .add 0 (aI i) (.v (.int .i64 1)) T fun v' T=>KE 53 (env154_0 (.p S2.n 0 0) (.f (.func 173) [] [.p S2.n 0 0]) (pL g.ands) (aI g.ands.length) v') T:=fun b hb=>by
      refine w9.app (by have:=k7.1; omega) (c:=[aB b]) rfl (by simp; omega) (fun zz T1 wT bT hzT=>?_) rfl
      have kT:Keep S1 T1:=w9.keep (Nat.le_refl _) bT (k7.trans k9)
      have oT:=(bT.2 S2.n (by omega) (fun b m=>hz b m)).trans v9
      have mT:=bT.1
      have hzz:∀ b m,zz ≠ .s S2.n b m:=fun b m e=>by
        obtain ⟨m',h⟩:=hzT
        rw [h] at e; injection e; omega
      refine st_of oT rfl (by rcases wT with ⟨h,_⟩ | ⟨_,h,_⟩ <;> rw [h] <;> rfl) fun T2 nT o2 f2=>?_
      rw [hadd]
      refine hKE _ _ ⟨kT.st (by omega) nT f2,by omega,i + 1,rfl,hlt,zz,o2,hzz,?_⟩ (by simp [intA]; omega)
      rw [hb,List.map_append]
      exact wT.st (id:=S2.n) hzz nT f2
    refine ⟨_,fun T hT=>by rw [ld1_p ((hT.2 _ (by omega)).trans v9) rfl rfl]; exact ⟨rfl,rfl⟩,_,fun T hT=>by rw [e0]; exact ⟨rfl,rfl⟩,_,fun T hT=>by rw [ld1_p ((hT.2 _ (by omega)).trans o9) rfl rfl]; exact ⟨rfl,rfl⟩,
      _,fun T hT=>callV_at (at173 hp1 (by rw [hl4]; omega) ((hT.2 _ (by omega)).trans v9) (own_keep w9 hT)) ⟨rfl,rfl⟩,?_⟩
    rw [onB_v]
    refine gd_of (fun h3=>?_) (fun h3=>?_)
    · refine ⟨_,fun T hT=>by rw [e1]; exact ⟨rfl,rfl⟩,_,fun T hT=>by rw [ld1_p ((hT.2 _ (by omega)).trans o9) rfl rfl]; exact ⟨rfl,rfl⟩,
        _,fun T hT=>callV_at (at173 (by omega) (by rw [hl4]; omega) ((hT.2 _ (by omega)).trans v9) (own_keep w9 hT)) ⟨rfl,rfl⟩,_,fun T hT=>⟨rfl,rfl⟩,_,fun T hT=>bsl1 rfl (fun _ h=>by cases h) ⟨rfl,rfl⟩,?_⟩
      refine step _ ?_
      simp only [allTo,hget]
      rw [h3,Bool.true_and]
    · refine ⟨_,fun T hT=>⟨rfl,rfl⟩,_,fun T hT=>bsl1 rfl (fun _ h=>by cases h) ⟨rfl,rfl⟩,?_⟩
      refine step _ ?_
      simp only [allTo,hget]
      rw [h3,Bool.false_and]
  · have hge:i = g.ands.length:=by simp at hge; omega
    subst hge
    rw [hres,ld1_p o7 rfl rfl]
    exact ⟨_,rfl,k1.trans k7,w7.low (by omega)⟩
theorem ans_own_at {α:Type} {f:α → Value} {P:Program} {fn:FuncId} {args:List AV} {S:Store} {e:Nat} {l:List α} (h:ACalls P fn args S (fun r S'=>∃ x,r = .ret x ∧ Keep S S' ∧ Own S.n S' x e (l.map fun a=>[.v (f a)]))):AnsAt P fn args S (aL (fun a=>.v (f a)) l) :=
  ACalls.tree (h.mono fun r S' ⟨x,h1,h2,h3⟩=>⟨x,h1,h2,h3.cv_v⟩)
def bitN (n:Int) (i:Nat):Bool:=decide (n.fdiv (2 ^ i) % 2 = 1)
def bitsL (n:Int) (many:Nat):List Bool:=(List.range many).map (bitN n)
@[simp] theorem bitsL_len (n:Int) (m:Nat):(bitsL n m).length = m:=by simp [bitsL]
theorem bitsL_succ (n:Int) (m:Nat):bitsL n (m + 1) = bitsL n m ++ [bitN n m]:=by simp [bitsL,List.range_succ]
theorem bin_shrN {a:Int} {i:Nat} (h:i ≤ 64) {S:Store} {K:AV → Store → Prop}:bin .shr 0 (aI a) (aI i) S K = K (aI (a.fdiv (2 ^ i))) S:=by
  rw [bin_shr (by omega),show min (Int.toNat i) IntKind.i64.bits = i by rw [Int.toNat_natCast]; exact Nat.min_eq_left h]
theorem own116 (s:Int) {m:Nat} (hm:m ≤ 64):OwnL 116 [aI s,aI m] (bitsL s m):=by
  intro S
  refine calls116 ?_
  unfold m116
  refine loop116_0 (fun y z S'=>Keep S S' ∧ ∃ i:Nat,z = aI i ∧ i ≤ m ∧ Own S.n S' y 4 ((bitsL s i).map fun b=>[aB b]))
    (fun _ z _=>m - ((intA z).getD 0).toNat) ⟨Keep.refl _,0,rfl,Nat.zero_le _,Own.nl _ _ _⟩ ?_
  rintro y _ S1 ⟨k1,i,rfl,hi,w1⟩ KE hKE
  unfold b116_0
  rw [bin_lss,onB_v]
  refine gd_of (fun hlt=>?_) (fun hge=>?_)
  · have hlt:i < m:=by simpa using hlt
    rw [bin_shrN (by omega),bin_and1,bin_eql]
    refine bsl1 rfl (fun _ h=>by cases h) ?_
    refine w1.app k1.1 (c:=[aB (bitN s i)]) rfl (by simp; omega) (fun z5 S5 w5 b5 hz5=>?_) rfl
    have hadd:∀ K:AV → Store → Prop,∀ S,bin .add 0 (.v (.int .i64 (i:Int))) (.v (.int .i64 1)) S K = K (aI (i + 1:Nat)) S:=fun K S=>bin_add (by omega) (by omega) 0
    rw [hadd]
    refine hKE _ _ _ ⟨w1.keep (Nat.le_refl _) b5 k1,i + 1,rfl,hlt,?_⟩ (by simp [intA]; omega)
    rw [bitsL_succ,List.map_append]
    exact w5
  · have hge:i = m:=by simp at hge; omega
    subst hge
    exact ⟨_,rfl,k1,w1⟩
noncomputable def isB (c:Ci) (s l:Int):Bool:=c.right && (decide (c.gr.inputs ≤ 60) && c.gr.eval l (bitsL s c.gr.inputs.toNat))
theorem part10 {x:AV} {l:List AV} {S:Store} {K:AV → Store → Prop}:part1 (.a (x :: l)) 0 S K = K x S:=by simp [part1,partA]
theorem gr_inp {c:Ci} (h:c.right = true):c.gr.inputs = c.inputs + c.latches.length ∧ 0 ≤ c.gr.inputs ∧ c.gr.inputs ≤ 2000:=by
  obtain ⟨⟨h1,h2⟩,h3,_,_,_,_,h4,_⟩:=right_c.1 h
  have h5:=right_iff.1 h4
  refine ⟨?_,h5.1,h5.2.1⟩
  show IntKind.i64.wrap (c.inputs + c.latches.length) = _
  exact wrap64 (by omega) (by omega)
theorem ans68 {c:Ci} (hc:c.ok) {s l:Int} (hl:i64R l):Ans Tryz.prog 68 [c.av,aI s,aI l] (aB (isB c s l)):=by
  intro S
  refine ACalls.ans_v (calls68 ?_)
  unfold m68
  refine boxA_of rfl fun S1 k1 n1 o1=>?_
  rw [ldN_p (n:=8) o1 rfl]
  refine callF_ans (ans65 hc) ?_
  rw [un_not,onB_v]
  refine gd_of (fun h1=>⟨?_,k1⟩) (fun h1=>?_)
  · rw [Bool.not_eq_true'] at h1
    simp [isB,h1]
  have h1:c.right = true:=by simpa using h1
  obtain ⟨g1,g2,g3⟩:=gr_inp h1
  rw [ldN_p (n:=8) o1 rfl]
  refine callF_ans (ans41 c) ?_
  unfold Gr.av Gr.cells
  rw [part10,bin_gtr,onB_v]
  refine gd_of (fun h2=>⟨?_,k1⟩) (fun h2=>?_)
  · have h2:=of_decide_eq_true h2
    simp [isB,show ¬ c.gr.inputs ≤ 60 by omega]
  have h2:=of_decide_eq_false h2
  obtain ⟨m,hm⟩:=Int.eq_ofNat_of_zero_le g2
  show ∃ q11:AV,_
  refine ⟨_,by rw [ldN_p (n:=8) o1 rfl]; exact ⟨rfl,rfl⟩,?_⟩
  refine ⟨_,callF_ans (ans41 c) ⟨rfl,rfl⟩,?_⟩
  refine ⟨_,by rw [ldN_p (n:=8) o1 rfl]; exact ⟨rfl,rfl⟩,?_⟩
  refine ⟨_,callF_ans (ans41 c) ⟨rfl,rfl⟩,?_⟩
  refine ⟨aI m,by unfold Gr.av Gr.cells; rw [part10,hm]; exact ⟨rfl,rfl⟩,?_⟩
  refine ⟨_,callF_ans (own116 s (by omega)).ans ⟨rfl,rfl⟩,?_⟩
  refine ⟨_,callF_ans (ans115 hc.gr hl (ins:=bitsL s m) (by simp; omega)) ⟨rfl,rfl⟩,?_⟩
  refine ⟨?_,k1⟩
  simp only [isB,h1,Bool.true_and,show c.gr.inputs ≤ 60 by omega,decide_true]
  rw [hm,Int.toNat_natCast]
noncomputable def afterTo (c:Ci) (s:Int):Nat → Int
  | 0=>0
  | i + 1=>if isB c s (c.latches.getD i (0,0)).1 = true then afterTo c s i + 2 ^ (c.inputs.toNat + i) else afterTo c s i
noncomputable def afterB (c:Ci) (s:Int):Int:=if (c.right && decide (c.gr.inputs ≤ 60)) = true then afterTo c s c.latches.length else 0
theorem afterTo_le (c:Ci) (s:Int):∀ i,0 ≤ afterTo c s i ∧ afterTo c s i < 2 ^ (c.inputs.toNat + i)
  | 0=>⟨Int.le_refl _,Int.pow_pos (by decide)⟩
  | i + 1=>by
    have ⟨h1,h2⟩:=afterTo_le c s i
    have h3:(2:Int) ^ (c.inputs.toNat + (i + 1)) = 2 * 2 ^ (c.inputs.toNat + i):=by rw [← Nat.add_assoc,Int.pow_succ]; omega
    have h4:(0:Int) < 2 ^ (c.inputs.toNat + i):=Int.pow_pos (by decide)
    unfold afterTo
    split <;> constructor <;> omega
theorem pow_le60 {n:Nat} (h:n ≤ 60):(2:Int) ^ n ≤ 1152921504606846976:=by
  have h1:2 ^ n ≤ 2 ^ 60:=Nat.pow_le_pow_right (by decide) h
  have h2:((2 ^ n:Nat):Int) ≤ ((2 ^ 60:Nat):Int):=Int.ofNat_le.2 h1
  rw [Int.natCast_pow] at h2
  exact h2
theorem bin_shl1 {i:Nat} (h:i ≤ 60) {S:Store} {K:AV → Store → Prop}:bin .shl 0 (.v (.int .i64 1)) (aI i) S K = K (aI (2 ^ i)) S:=by
  have h2:¬ ((i:Int) < 0):=by omega
  have h3:min (Int.toNat i) IntKind.i64.bits = i:=by rw [Int.toNat_natCast]; exact Nat.min_eq_left (by show i ≤ 64; omega)
  have h4:=pow_le60 h
  have h5:(0:Int) < 2 ^ i:=Int.pow_pos (by decide)
  show optP (b2 .shl 0 (.int .i64 1) (.int .i64 i)) _ = _
  have:b2 .shl 0 (.int .i64 1) (.int .i64 i) = some (.int .i64 (2 ^ i)):=by
    simp only [b2,isSh,shI,if_neg h2,h3,Int.one_mul]
    rw [wrap64 (by omega) (by omega)]
    rfl
  rw [this,optP_some]
theorem ans59 {c:Ci} (hc:c.ok) (s:Int):Ans Tryz.prog 59 [c.av,aI s] (aI (afterB c s)):=by
  intro S
  refine ACalls.ans_v (calls59 ?_)
  have hll:=hc.llen
  unfold m59
  refine boxA_of rfl fun S1 k1 n1 o1=>?_
  rw [ldN_p (n:=8) o1 rfl]
  refine callF_ans (ans65 hc) ?_
  rw [un_not,onB_v]
  refine gd_of (fun h1=>⟨?_,k1⟩) (fun h1=>?_)
  · rw [Bool.not_eq_true'] at h1
    simp [afterB,h1]
  have h1:c.right = true:=by simpa using h1
  obtain ⟨g1,g2,g3⟩:=gr_inp h1
  have hin:=(right_c.1 h1).1
  rw [ldN_p (n:=8) o1 rfl]
  refine callF_ans (ans41 c) ?_
  unfold Gr.av Gr.cells
  rw [part10,bin_gtr,onB_v]
  refine gd_of (fun h2=>⟨?_,k1⟩) (fun h2=>?_)
  · have h2:=of_decide_eq_true h2
    simp [afterB,show ¬ c.gr.inputs ≤ 60 by omega]
  have h2:=of_decide_eq_false h2
  have hres:afterB c s = afterTo c s c.latches.length:=by
    simp only [afterB,h1,Bool.true_and,show c.gr.inputs ≤ 60 by omega,decide_true,if_true]
  obtain ⟨m,hm⟩:=Int.eq_ofNat_of_zero_le hin.1
  refine loop59_0 (fun y z S'=>S' = S1 ∧ ∃ i:Nat,z = aI i ∧ i ≤ c.latches.length ∧ y = aI (afterTo c s i))
    (fun _ z _=>c.latches.length - ((intA z).getD 0).toNat) ⟨rfl,0,rfl,Nat.zero_le _,rfl⟩ ?_
  rintro _ _ S1 ⟨rfl,i,rfl,hi,rfl⟩ KE hKE
  unfold b59_0
  rw [shift_p,ld1_p o1 rfl rfl,lenS_pL,bin_lss,onB_v]
  refine gd_of (fun hlt=>?_) (fun hge=>?_)
  · have hlt:i < c.latches.length:=by simpa using hlt
    have hget:c.latches.getD i (0,0) = c.latches[i]:=by simp [List.getD_eq_getElem?_getD,hlt]
    have hadd:∀ K:AV → Store → Prop,∀ S,bin .add 0 (.v (.int .i64 (i:Int))) (.v (.int .i64 1)) S K = K (aI (i + 1:Nat)) S:=fun K S=>bin_add (by omega) (by omega) 0
    have hμ:c.latches.length - ((intA (aI (i + 1:Nat))).getD 0).toNat < c.latches.length - ((intA (aI i)).getD 0).toNat:=by simp [intA]; omega
    show ∃ q16:AV,_
    refine ⟨_,by rw [ldN_p (n:=8) o1 rfl]; exact ⟨rfl,rfl⟩,?_⟩
    refine ⟨_,by rw [shift_p]; exact ⟨rfl,rfl⟩,?_⟩
    refine ⟨_,by rw [ld1_p o1 rfl rfl]; exact ⟨rfl,rfl⟩,?_⟩
    refine ⟨_,by rw [ixS_pL hlt]; exact ⟨rfl,rfl⟩,?_⟩
    refine ⟨_,by rw [shift_q]; exact ⟨rfl,rfl⟩,?_⟩
    refine ⟨_,by rw [ld1_qj (u:=aI c.latches[i].1) rfl]; exact ⟨rfl,rfl⟩,?_⟩
    refine ⟨_,callF_ans (ans68 hc (hc.lats _ (List.getElem_mem hlt)).1) ⟨rfl,rfl⟩,?_⟩
    rw [onB_v]
    refine gd_of (fun h3=>?_) (fun h3=>?_)
    · have hb:=afterTo_le c s i
      have hp:=pow_le60 (n:=c.inputs.toNat + i) (by omega)
      rw [shift_p,ld1_p o1 rfl rfl,bin_add (by omega) (by omega)]
      have e:c.inputs + (i:Int) = ((c.inputs.toNat + i:Nat):Int):=by omega
      rw [e,bin_shl1 (by omega),bin_add (by omega) (by omega),hadd]
      exact hKE _ _ _ ⟨rfl,i + 1,rfl,hlt,by rw [afterTo,hget,if_pos h3]⟩ hμ
    · rw [hadd]
      exact hKE _ _ _ ⟨rfl,i + 1,rfl,hlt,by rw [afterTo,hget,h3]; rfl⟩ hμ
  · have hge:i = c.latches.length:=by simp at hge; omega
    subst hge
    rw [hres]
    exact ⟨rfl,k1⟩
theorem orN {a b:Nat} (ha:a < 4611686018427387904) (hb:b < 4611686018427387904) (h:a ||| b < 4611686018427387904) {S:Store} {K:AV → Store → Prop}:bin .or 0 (aI a) (aI b) S K = K (aI (a ||| b:Nat)) S:=by
  show optP (b2 .or 0 (.int .i64 a) (.int .i64 b)) _ = _
  have:b2 .or 0 (.int .i64 a) (.int .i64 b) = some (.int .i64 (a ||| b:Nat)):=by
    show (some (Int.ofNat 0)).bind (fun _=>some (Value.int .i64 (IntKind.i64.wrap (BitVec.ofInt 64 a ||| BitVec.ofInt 64 b).toNat))) = _
    have h1:(BitVec.ofInt 64 (a:Int)).toNat = a:=by rw [BitVec.toNat_ofInt]; omega
    have h2:(BitVec.ofInt 64 (b:Int)).toNat = b:=by rw [BitVec.toNat_ofInt]; omega
    rw [BitVec.toNat_or,h1,h2,wrap64 (by omega) (by omega)]
    rfl
  rw [this,optP_some]
theorem or_add {k q b:Nat} (h:b < 2 ^ k):2 ^ k * q ||| b = 2 ^ k * q + b:=(Nat.two_pow_add_eq_or_of_lt h q).symm
theorem two_le60 {n:Nat} (h:n ≤ 60):2 ^ n ≤ 1152921504606846976:=Nat.pow_le_pow_right (by decide) h
theorem bin_or_pow {a:Int} {k:Nat} (h0:0 ≤ a) (h1:a < 2 ^ k) (hk:k ≤ 60) {S:Store} {K:AV → Store → Prop}:bin .or 0 (aI a) (aI (2 ^ k)) S K = K (aI (a + 2 ^ k)) S:=by
  obtain ⟨n,rfl⟩:=Int.eq_ofNat_of_zero_le h0
  have hp:=two_le60 hk
  have e:((2:Int) ^ k) = ((2 ^ k:Nat):Int):=by rw [Int.natCast_pow]; rfl
  rw [e] at h1 ⊢
  have hn:n < 2 ^ k:=by omega
  have ho:n ||| 2 ^ k = n + 2 ^ k:=by
    rw [Nat.or_comm]
    have:=or_add (k:=k) (q:=1) hn
    rw [Nat.mul_one] at this
    rw [this]; omega
  rw [orN (by omega) (by omega) (by rw [ho]; omega),ho,Int.natCast_add]
theorem bin_or_low {q x k:Nat} (h1:x < 2 ^ k) (h2:2 ^ k * q + x < 4611686018427387904) {S:Store} {K:AV → Store → Prop}:bin .or 0 (aI (2 ^ k * q:Nat)) (aI x) S K = K (aI (2 ^ k * q + x:Nat)) S:=by
  rw [orN (by omega) (by omega) (by rw [or_add h1]; omega),or_add h1]
structure Mk (c:Ci) (vals:List (List Bool)) (n mid t:Nat) (S:Store):Prop where
  lt:mid < S.n
  z:∃ z,S.obj mid = some (.cells t [c.cells ++ c.gr.cells ++ [z]] true) ∧ Own n S z 53 (vals.map fun v=>[aL aB v])
theorem Mk.keep {c:Ci} {vals:List (List Bool)} {n mid t:Nat} {S T:Store} (h:Mk c vals n mid t S) (k:Keep S T):Mk c vals n mid t T:=by
  obtain ⟨z,h1,h2⟩:=h.z
  exact ⟨Nat.lt_of_lt_of_le h.lt k.1,z,(k.2 _ h.lt).trans h1,own_keep h2 k⟩
section
variable {c:Ci} {vals:List (List Bool)} {n mid t:Nat} {S:Store}
theorem at160 (h:Mk c vals n mid t S) {s:Nat} (hs:s < vals.length) {l:Int} (hl:i64R l) (h0:0 ≤ l) (h1:l.tdiv 2 < (vals.getD s []).length):AnsAt Tryz.prog 160 [.p mid 0 0,aI s,aI l] S (aB (litB (vals.getD s []) l)):=by
  refine calls160 ?_
  unfold m160
  obtain ⟨z,hz,hw⟩:=h.z
  rw [nilChk_p,shift_p,ld1_p hz rfl rfl]
  obtain ⟨id,rfl,h2,h3,h4⟩:=hw.ix (i:=s) (by simpa using hs)
  rw [show vals.getD s [] = vals[s] by simp [List.getD_eq_getElem?_getD,hs]] at h1 ⊢
  rw [ixS_s (by simpa using hs) h4,ld1_p h4 (by rw [Nat.zero_add,List.getElem?_map,List.getElem?_eq_getElem hs]; rfl) rfl,bin_half hl]
  refine ix_tree (Int.tdiv_nonneg h0 (by decide)) h1 _ ?_
  rw [bin_and1,bin_eql,bin_neqB]
  refine ⟨?_,rfl⟩
  rw [litB,show l.tmod 2 = l % 2 from Int.tmod_eq_emod_of_nonneg h0]
theorem at174 (h:Mk c vals n mid t S) {s:Nat} (hs:s < vals.length) {l:Int} (hl:i64R l) (h0:0 ≤ l) (h1:l.tdiv 2 < (vals.getD s []).length) {a b ta tb:Nat} (ha:S.obj a = some (.cells ta [[.p mid 0 0]] true)) (hb:S.obj b = some (.cells tb [[aI s]] true)) :
    AnsAt Tryz.prog 174 [aI l,.p a 0 0,.p b 0 0] S (aB (!litB (vals.getD s []) l)):=by
  refine calls174 ?_
  unfold m174
  rw [ld1_p ha rfl rfl,ld1_p hb rfl rfl]
  refine callF_at (at160 h hs hl h0 h1) ?_
  rw [un_not]
  exact ⟨rfl,rfl⟩
def Lits (l:List Int) (v:List Bool):Prop:=∀ x ∈ l,i64R x ∧ 0 ≤ x ∧ x.tdiv 2 < v.length
theorem at156 (h:Mk c vals n mid t S) {s:Nat} (hs:s < vals.length) (hl:Lits c.cons (vals.getD s [])) (hn:c.cons.length ≤ 9223372036854775807):AnsAt Tryz.prog 156 [.p mid 0 0,aI s] S (aB (c.cons.all (litB (vals.getD s [])))):=by
  refine ACalls.ans_v (calls156 ?_)
  unfold m156
  refine box1_of rfl fun S1 k1 n1 o1=>?_
  refine box1_of rfl fun S2 k2 n2 o2=>?_
  have o1':=(k2.2 S.n (by omega)).trans o1
  have h2:=h.keep (k1.trans k2)
  obtain ⟨z,hz,_⟩:=h2.z
  rw [ld1_p o1' rfl rfl,nilChk_p,shift_p,shift_p,ld1_p hz rfl rfl]
  refine callF_at (at132 hn (g:=fun x=>!litB (vals.getD s []) x) (fun x hx=>at174 h2 hs (hl x hx).1 (hl x hx).2.1 (hl x hx).2.2 o1' o2)) ?_
  rw [un_not,any_not,Bool.not_not]
  exact ⟨rfl,k1.trans k2⟩
def afterV (c:Ci) (v:List Bool):Nat → Int
  | 0=>0
  | i + 1=>if litB v (c.latches.getD i (0,0)).1 = true then afterV c v i + 2 ^ (c.inputs.toNat + i) else afterV c v i
theorem afterV_le (c:Ci) (v:List Bool):∀ i,0 ≤ afterV c v i ∧ afterV c v i < 2 ^ (c.inputs.toNat + i)
  | 0=>⟨Int.le_refl _,Int.pow_pos (by decide)⟩
  | i + 1=>by
    have ⟨h1,h2⟩:=afterV_le c v i
    have h3:(2:Int) ^ (c.inputs.toNat + (i + 1)) = 2 * 2 ^ (c.inputs.toNat + i):=by rw [← Nat.add_assoc,Int.pow_succ]; omega
    have h4:(0:Int) < 2 ^ (c.inputs.toNat + i):=Int.pow_pos (by decide)
    unfold afterV
    split <;> constructor <;> omega
theorem at175 (h:Mk c vals n mid t S) (h0:0 ≤ c.inputs) (h60:c.inputs + c.latches.length ≤ 60) {s:Nat} (hs:s < vals.length) (hl:Lits (c.latches.map (·.1)) (vals.getD s [])):AnsAt Tryz.prog 175 [.p mid 0 0,aI s] S (aI (afterV c (vals.getD s []) c.latches.length)):=by
  refine ACalls.ans_v (calls175 ?_)
  unfold m175
  obtain ⟨z,hz,_⟩:=h.z
  rw [nilChk_p,shift_p,shift_p,ld1_p hz rfl rfl,lenS_pL]
  refine loop175_0 (fun y w S'=>Keep S S' ∧ ∃ i:Nat,w = aI i ∧ i ≤ c.latches.length ∧ y = aI (afterV c (vals.getD s []) i))
    (fun _ w _=>c.latches.length - ((intA w).getD 0).toNat) ⟨Keep.refl _,0,rfl,Nat.zero_le _,rfl⟩ ?_
  rintro _ _ S1 ⟨k1,i,rfl,hi,rfl⟩ KE hKE
  unfold b175_0
  rw [bin_lss,onB_v]
  refine gd_of (fun hlt=>?_) (fun hge=>?_)
  · have hlt:i < c.latches.length:=by simpa using hlt
    have hget:c.latches.getD i (0,0) = c.latches[i]:=by simp [List.getD_eq_getElem?_getD,hlt]
    have hadd:∀ K:AV → Store → Prop,∀ S,bin .add 0 (.v (.int .i64 (i:Int))) (.v (.int .i64 1)) S K = K (aI (i + 1:Nat)) S:=fun K S=>bin_add (by omega) (by omega) 0
    have hμ:c.latches.length - ((intA (aI (i + 1:Nat))).getD 0).toNat < c.latches.length - ((intA (aI i)).getD 0).toNat:=by simp [intA]; omega
    have hli:=hl _ (List.mem_map_of_mem (List.getElem_mem hlt))
    rw [ixS_pL hlt,ldN_q2]
    refine boxA_of rfl fun S2 k2 n2 o2=>?_
    refine stA_of o2 rfl rfl fun S3 n3 o3 f3=>?_
    have k3:Keep S S3:=(k1.trans k2).st k1.1 n3 f3
    have h3:=h.keep k3
    obtain ⟨z3,hz3,_⟩:=h3.z
    rw [shift_p,ld1_p o3 rfl rfl]
    refine callF_at (at160 h3 hs hli.1 hli.2.1 hli.2.2) ?_
    rw [onB_v]
    refine gd_of (fun h4=>?_) (fun h4=>?_)
    · have hb:=afterV_le c (vals.getD s []) i
      rw [nilChk_p,shift_p,shift_p,ld1_p hz3 rfl rfl,bin_add (by omega) (by omega)]
      have e:c.inputs + (i:Int) = ((c.inputs.toNat + i:Nat):Int):=by omega
      rw [e,bin_shl1 (by omega),bin_or_pow hb.1 hb.2 (by omega),hadd]
      exact hKE _ _ _ ⟨k3,i + 1,rfl,hlt,by rw [afterV,hget,if_pos h4]⟩ hμ
    · rw [hadd]
      exact hKE _ _ _ ⟨k3,i + 1,rfl,hlt,by rw [afterV,hget,h4]; rfl⟩ hμ
  · have hge:i = c.latches.length:=by simp at hge; omega
    subst hge
    exact ⟨rfl,k1⟩
def begB (c:Ci) (s:Int):Bool:=(List.range c.latches.length).all fun i=>decide ((c.latches.getD i (0,0)).2 = 2) || decide (s.fdiv (2 ^ (c.inputs.toNat + i)) % 2 = (c.latches.getD i (0,0)).2)
theorem at158 (h:Mk c vals n mid t S) (h0:0 ≤ c.inputs) (h60:c.inputs + c.latches.length ≤ 60) (s:Int):AnsAt Tryz.prog 158 [.p mid 0 0,aI s] S (aB (begB c s)):=by
  refine ACalls.ans_v (calls158 ?_)
  unfold m158
  obtain ⟨z,hz,_⟩:=h.z
  rw [nilChk_p,shift_p,shift_p,ld1_p hz rfl rfl,lenS_pL]
  refine loop158_0 (fun w S'=>Keep S S' ∧ ∃ i:Nat,w = aI i ∧ i ≤ c.latches.length ∧ ∀ j,j < i → (decide ((c.latches.getD j (0,0)).2 = 2) || decide (s.fdiv (2 ^ (c.inputs.toNat + j)) % 2 = (c.latches.getD j (0,0)).2)) = true)
    (fun w _=>c.latches.length - ((intA w).getD 0).toNat) ⟨Keep.refl _,0,rfl,Nat.zero_le _,fun j hj=>(Nat.not_lt_zero _ hj).elim⟩ ?_
  rintro _ S1 ⟨k1,i,rfl,hi,hok⟩ KE hKE
  unfold b158_0
  rw [bin_lss,onB_v]
  refine gd_of (fun hlt=>?_) (fun hge=>?_)
  · have hlt:i < c.latches.length:=by simpa using hlt
    have hget:c.latches.getD i (0,0) = c.latches[i]:=by simp [List.getD_eq_getElem?_getD,hlt]
    have hadd:∀ K:AV → Store → Prop,∀ S,bin .add 0 (.v (.int .i64 (i:Int))) (.v (.int .i64 1)) S K = K (aI (i + 1:Nat)) S:=fun K S=>bin_add (by omega) (by omega) 0
    have hno:(decide ((c.latches.getD i (0,0)).2 = 2) || decide (s.fdiv (2 ^ (c.inputs.toNat + i)) % 2 = (c.latches.getD i (0,0)).2)) = false → begB c s = false:=fun hh=>by
      rw [begB,List.all_eq_false]
      exact ⟨i,by simpa using hlt,by rw [hh]; decide⟩
    rw [ixS_pL hlt,ldN_q2]
    rw [hget] at hno
    have hnext:∀ {T:Store},Keep S T → (decide (c.latches[i].2 = 2) || decide (s.fdiv (2 ^ (c.inputs.toNat + i)) % 2 = c.latches[i].2)) = true → KE 37 (env158_0 (.p mid 0 0) (aI s) (pL c.latches) (aI c.latches.length) (aI (i + 1:Nat))) T:=fun {T} kT hh=>hKE _ _ ⟨kT,i + 1,rfl,hlt,fun j hj=>by
      rcases Nat.lt_or_ge j i with h' | h'
      · exact hok j h'
      · have:j = i:=by omega
        subst this
        rw [hget]; exact hh⟩ (by simp [intA]; omega)
    generalize c.latches[i] = x at *
    refine boxA_of rfl fun S2 k2 n2 o2=>?_
    refine stA_of o2 rfl rfl fun S3 n3 o3 f3=>?_
    have k3:Keep S S3:=(k1.trans k2).st k1.1 n3 f3
    obtain ⟨z3,hz3,_⟩:=(h.keep k3).z
    have e:c.inputs + (i:Int) = ((c.inputs.toNat + i:Nat):Int):=by omega
    show ∃ q12:AV,_
    refine ⟨_,by rw [shift_p]; exact ⟨rfl,rfl⟩,?_⟩
    refine ⟨_,by rw [ld1_p o3 rfl rfl]; exact ⟨rfl,rfl⟩,?_⟩
    refine ⟨_,by rw [bin_neq]; exact ⟨rfl,rfl⟩,?_⟩
    rw [onB_v]
    refine gd_of (fun h4=>?_) (fun h4=>?_)
    · have h4:¬ x.2 = 2:=by simpa using h4
      refine ⟨_,by rw [nilChk_p]; exact ⟨rfl,rfl⟩,?_⟩
      refine ⟨_,by rw [shift_p]; exact ⟨rfl,rfl⟩,?_⟩
      refine ⟨_,by rw [shift_p]; exact ⟨rfl,rfl⟩,?_⟩
      refine ⟨_,by rw [ld1_p hz3 rfl rfl]; exact ⟨rfl,rfl⟩,?_⟩
      refine ⟨aI ((c.inputs.toNat + i:Nat):Int),by rw [bin_add (by omega) (by omega),e]; exact ⟨rfl,rfl⟩,?_⟩
      refine ⟨_,by rw [bin_shrN (by omega)]; exact ⟨rfl,rfl⟩,?_⟩
      refine ⟨_,by rw [bin_and1]; exact ⟨rfl,rfl⟩,?_⟩
      refine ⟨_,by rw [shift_p]; exact ⟨rfl,rfl⟩,?_⟩
      refine ⟨_,by rw [ld1_p o3 rfl rfl]; exact ⟨rfl,rfl⟩,?_⟩
      refine ⟨_,by rw [bin_neq]; exact ⟨rfl,rfl⟩,?_⟩
      refine ⟨_,⟨rfl,rfl⟩,?_⟩
      rw [onB_v]
      refine gd_of (fun h5=>⟨?_,k3⟩) (fun h5=>?_)
      · have h5:¬ s.fdiv (2 ^ (c.inputs.toNat + i)) % 2 = x.2:=by simpa using h5
        rw [hno (by simp only [h4,h5,decide_false,Bool.or_self])]
      · have h5:s.fdiv (2 ^ (c.inputs.toNat + i)) % 2 = x.2:=by simpa using h5
        rw [hadd]
        exact hnext k3 (by simp only [h5,decide_true,Bool.or_true])
    · have h4:x.2 = 2:=by simpa using h4
      refine ⟨_,⟨rfl,rfl⟩,?_⟩
      rw [onB_v,gd_false,hadd]
      exact hnext k3 (by simp only [h4,decide_true,Bool.true_or])
  · have hge:i = c.latches.length:=by simp at hge; omega
    subst hge
    refine ⟨?_,k1⟩
    have:begB c s = true:=by
      rw [begB,List.all_eq_true]
      exact fun j hj=>hok j (by simpa using hj)
    rw [this]
end
theorem set_range {α:Type} {n i:Nat} {f f':Nat → α} (hi:i < n) (h:∀ k,k ≠ i → f' k = f k):((List.range n).map f).set i (f' i) = (List.range n).map f':=by
  apply List.ext_getElem
  · simp
  · intro k h1 h2
    rw [List.getElem_set]
    split
    · rename_i e
      subst e
      simp
    · rename_i e
      simp [h k (fun h=>e h.symm)]
section
variable {c:Ci} {vals:List (List Bool)} {n mid t:Nat} {S:Store}
theorem each_of (h:Mk c vals n mid t S) (hv:vals.length ≤ 1000000) {F:FuncId} {fs cs:List AV} {g:Nat → Bool} (hf:∀ T,Keep S T → ∀ i,i < vals.length → AnsAt Tryz.prog F (fs ++ [aI i] ++ cs) T (aB (g i))) :
    ACalls Tryz.prog 155 [.p mid 0 0,.f (.func F) fs cs] S (fun r S'=>∃ x,r = .ret x ∧ Keep S S' ∧ Own S.n S' x 4 (((List.range vals.length).map g).map fun b=>[aB b])):=by
  refine calls155 ?_
  unfold m155
  obtain ⟨z,hz,hw⟩:=h.z
  rw [nilChk_p,shift_p,ld1_p hz rfl rfl,hw.len,List.length_map]
  refine mk_of (by omega) (by omega) fun S1 k1 n1 o1=>?_
  rw [lenS_s]
  have hrep:List.replicate vals.length [AV.v (.bool false)] = (List.range vals.length).map fun k=>[aB (if k < 0 then g k else false)]:=by
    apply List.ext_getElem
    · simp
    · intro k h1 h2
      simp
  rw [hrep] at o1
  refine loop155_0 (fun w S'=>Keep S S' ∧ S.n < S'.n ∧ ∃ i:Nat,w = aI i ∧ i ≤ vals.length ∧ S'.obj S.n = some (.cells 4 ((List.range vals.length).map fun k=>[aB (if k < i then g k else false)]) true))
    (fun w _=>vals.length - ((intA w).getD 0).toNat) ⟨k1,by omega,0,rfl,Nat.zero_le _,o1⟩ ?_
  rintro _ S2 ⟨k2,n2,i,rfl,hi,o2⟩ KE hKE
  unfold b155_0
  rw [bin_lss,onB_v]
  refine gd_of (fun hlt=>?_) (fun hge=>?_)
  · have hlt:i < vals.length:=by simpa using hlt
    refine callV_at (hf S2 k2 i hlt) ?_
    rw [ixS_s hlt o2]
    refine st_of o2 (u0:=aB (if i < i then g i else false)) (by rw [Nat.zero_add]; simp [hlt]) rfl fun S3 n3 o3 f3=>?_
    rw [bin_add (by omega) (by omega)]
    refine hKE _ _ ⟨k2.st (Nat.le_refl _) n3 f3,by omega,i + 1,rfl,hlt,?_⟩ (by simp [intA]; omega)
    rw [o3,Nat.zero_add]
    have:=set_range (n:=vals.length) (i:=i) (f:=fun k=>[aB (if k < i then g k else false)]) (f':=fun k=>[aB (if k < i + 1 then g k else false)]) hlt (fun k hk=>by
      have:(k < i + 1) = (k < i):=by apply propext; omega
      simp only [this])
    rw [← this]
    simp
  · have hge:i = vals.length:=by simp at hge; omega
    subst hge
    refine ⟨_,rfl,k2,.inr ⟨S.n,by simp,Nat.le_refl _,n2,?_⟩⟩
    rw [o2,List.map_map]
    congr 2
    apply List.map_congr_left
    intro k hk
    simp [List.mem_range.1 hk]
theorem afterV_div (c:Ci) (v:List Bool):∀ i,∃ q:Nat,q < 2 ^ i ∧ afterV c v i = ((2 ^ c.inputs.toNat * q:Nat):Int)
  | 0=>⟨0,by decide,by simp [afterV]⟩
  | i + 1=>by
    obtain ⟨q,h1,h2⟩:=afterV_div c v i
    have h3:2 ^ (i + 1) = 2 * 2 ^ i:=by rw [Nat.pow_succ]; omega
    unfold afterV
    split
    · refine ⟨q + 2 ^ i,by omega,?_⟩
      rw [h2,Nat.mul_add,← Nat.pow_add,Int.natCast_add,Int.natCast_pow]
      rfl
    · exact ⟨q,by omega,h2⟩
def nextL (c:Ci) (v vs:List Bool):List Int:=((List.range (2 ^ c.inputs.toNat)).filter fun x=>vs.getD ((afterV c v c.latches.length).toNat + x) false).map fun x:Nat=>afterV c v c.latches.length + (x:Int)
theorem next_of (h:Mk c vals n mid t S) (h0:0 ≤ c.inputs) (h60:c.inputs + c.latches.length ≤ 20) {s:Nat} (hs:s < vals.length) (hl:Lits (c.latches.map (·.1)) (vals.getD s []))
    {vs:List Bool} (hvl:vs.length = 2 ^ (c.inputs.toNat + c.latches.length)) (hsv:s < vs.length) :
    ACalls Tryz.prog 161 [.p mid 0 0,aI s,aL aB vs] S (fun r S'=>∃ x,r = .ret x ∧ Keep S S' ∧ Own S.n S' x 3 ((if vs.getD s false = true then nextL c (vals.getD s []) vs else []).map fun i=>[aI i])):=by
  refine calls161 ?_
  unfold m161
  refine ix_tree (by omega) (by omega) _ ?_
  rw [un_not,onB_v,Int.toNat_natCast]
  refine gd_of (fun h1=>⟨_,rfl,Keep.refl _,?_⟩) (fun h1=>?_)
  · rw [Bool.not_eq_true'] at h1
    rw [if_neg (by rw [h1]; decide)]
    exact Own.nl _ _ _
  have h1:vs.getD s false = true:=by simpa using h1
  rw [if_pos h1]
  refine callF_at (at175 h h0 (by omega) hs hl) ?_
  obtain ⟨z,hz,_⟩:=h.z
  obtain ⟨m,hm⟩:=Int.eq_ofNat_of_zero_le h0
  have hmt:c.inputs.toNat = m:=by rw [hm]; rfl
  rw [nilChk_p,shift_p,shift_p,ld1_p hz rfl rfl]
  rw [show aI c.inputs = aI (m:Int) by rw [hm]]
  rw [bin_shl1 (by omega)]
  obtain ⟨q,hq,hA⟩:=afterV_div c (vals.getD s []) c.latches.length
  rw [hmt] at hA
  have e2:((2:Int) ^ m) = ((2 ^ m:Nat):Int):=by rw [Int.natCast_pow]; rfl
  have hpm:2 ^ m ≤ 1048576:=Nat.pow_le_pow_right (by decide) (show m ≤ 20 by omega)
  have hpt:2 ^ (m + c.latches.length) ≤ 1048576:=Nat.pow_le_pow_right (by decide) (show m + c.latches.length ≤ 20 by omega)
  have hb:∀ x,x < 2 ^ m → 2 ^ m * q + x < 2 ^ (m + c.latches.length):=fun x hx=>by
    have:2 ^ m * (q + 1) ≤ 2 ^ m * 2 ^ c.latches.length:=Nat.mul_le_mul_left _ hq
    rw [← Nat.pow_add] at this
    rw [Nat.mul_add,Nat.mul_one] at this
    omega
  rw [hmt] at hvl
  rw [e2,hA]
  have hN:nextL c (vals.getD s []) vs = ((List.range (2 ^ m)).filter fun x=>vs.getD (2 ^ m * q + x) false).map fun x=>((2 ^ m * q + x:Nat):Int):=by
    unfold nextL
    rw [hA,hmt,Int.toNat_natCast]
    apply List.map_congr_left
    intro x _
    rw [Int.natCast_add]
  rw [hN]
  refine loop161_0 (fun y w S'=>Keep S S' ∧ ∃ i:Nat,w = aI i ∧ i ≤ 2 ^ m ∧ Own S.n S' y 3 ((((List.range i).filter fun x=>vs.getD (2 ^ m * q + x) false).map fun x=>((2 ^ m * q + x:Nat):Int)).map fun i=>[aI i]))
    (fun _ w _=>2 ^ m - ((intA w).getD 0).toNat) ⟨Keep.refl _,0,rfl,Nat.zero_le _,Own.nl _ _ _⟩ ?_
  rintro y _ S1 ⟨k1,i,rfl,hi,w1⟩ KE hKE
  unfold b161_0
  rw [bin_lss,onB_v]
  refine gd_of (fun hlt=>?_) (fun hge=>?_)
  · have hlt:i < 2 ^ m:=by
      have:((i:Int) < ((2 ^ m:Nat):Int)):=of_decide_eq_true hlt
      omega
    have hbi:=hb i hlt
    have hadd:∀ K:AV → Store → Prop,∀ S,bin .add 0 (.v (.int .i64 (i:Int))) (.v (.int .i64 1)) S K = K (aI (i + 1:Nat)) S:=fun K S=>bin_add (by omega) (by omega) 0
    have hμ:2 ^ m - ((intA (aI (i + 1:Nat))).getD 0).toNat < 2 ^ m - ((intA (aI i)).getD 0).toNat:=by simp [intA]; omega
    rw [bin_or_low hlt (by omega)]
    refine ix_tree (by omega) (by omega) _ ?_
    rw [onB_v,Int.toNat_natCast]
    refine gd_of (fun h2=>?_) (fun h2=>?_)
    · rw [bin_or_low hlt (by omega)]
      refine bsl1 rfl (fun _ h=>by cases h) ?_
      have hfl:=List.length_filter_le (fun x=>vs.getD (2 ^ m * q + x) false) (List.range i)
      rw [List.length_range] at hfl
      refine w1.app k1.1 (c:=[aI ((2 ^ m * q + i:Nat):Int)]) rfl (by rw [List.length_map,List.length_map]; omega) (fun z5 S5 w5 b5 hz5=>?_) rfl
      rw [hadd]
      refine hKE _ _ _ ⟨w1.keep (Nat.le_refl _) b5 k1,i + 1,rfl,hlt,?_⟩ hμ
      rw [List.range_succ,List.filter_append,List.map_append,List.map_append]
      rw [show List.filter (fun x=>vs.getD (2 ^ m * q + x) false) [i] = [i] by simp only [List.filter_cons,h2,if_true,List.filter_nil]]
      exact w5
    · rw [hadd]
      refine hKE _ _ _ ⟨k1,i + 1,rfl,hlt,?_⟩ hμ
      rw [List.range_succ,List.filter_append,List.map_append,List.map_append]
      rw [show List.filter (fun x=>vs.getD (2 ^ m * q + x) false) [i] = [] by simp only [List.filter_cons,h2,List.filter_nil]; rfl]
      simpa using w1
  · have hge:i = 2 ^ m:=by
      have:¬ ((i:Int) < ((2 ^ m:Nat):Int)):=of_decide_eq_false hge
      omega
    subst hge
    exact ⟨_,rfl,k1,w1⟩
end
section
variable {c:Ci} {vals:List (List Bool)} {n mid t:Nat} {S:Store}
theorem at157 (h:Mk c vals n mid t S) (h0:0 ≤ c.inputs) (h60:c.inputs + c.latches.length ≤ 60) {s:Nat} {vs:List Bool} (hs:s < vs.length) {sid pid ts tp:Nat} {cs:List AV}
    (ho:S.obj sid = some (.cells ts [cs] true)) (hc:cs[1]? = some (aL aB vs)) (hp:S.obj pid = some (.cells tp [[.p mid 0 0]] true)) :
    AnsAt Tryz.prog 157 [aI s,.p sid 0 0,.p pid 0 0] S (aB (vs.getD s false && begB c s)):=by
  refine calls157 ?_
  unfold m157
  rw [shift_p,ld1_p ho rfl hc]
  refine ix_tree (by omega) (by omega) _ ?_
  rw [onB_v,Int.toNat_natCast]
  refine gd_of (fun h1=>?_) (fun h1=>⟨by rw [h1]; rfl,rfl⟩)
  rw [ld1_p hp rfl rfl]
  refine callF_at (at158 h h0 h60 s) ⟨by rw [h1]; rfl,rfl⟩
theorem at159 (h:Mk c vals n mid t S) {s:Nat} {vs:List Bool} (hs:s < vs.length) (hsv:s < vals.length) {l:Int} (hl:i64R l) (h0:0 ≤ l) (h1:l.tdiv 2 < (vals.getD s []).length) {sid pid lid ts tp tl:Nat} {cs:List AV}
    (ho:S.obj sid = some (.cells ts [cs] true)) (hc:cs[1]? = some (aL aB vs)) (hp:S.obj pid = some (.cells tp [[.p mid 0 0]] true)) (hll:S.obj lid = some (.cells tl [[aI l]] true)) :
    AnsAt Tryz.prog 159 [aI s,.p sid 0 0,.p pid 0 0,.p lid 0 0] S (aB (vs.getD s false && litB (vals.getD s []) l)):=by
  refine calls159 ?_
  unfold m159
  rw [shift_p,ld1_p ho rfl hc]
  refine ix_tree (by omega) (by omega) _ ?_
  rw [onB_v,Int.toNat_natCast]
  refine gd_of (fun h2=>?_) (fun h2=>⟨by rw [h2]; rfl,rfl⟩)
  rw [ld1_p hp rfl rfl,ld1_p hll rfl rfl]
  refine callF_at (at160 h hsv hl h0 h1) ⟨by rw [h2]; rfl,rfl⟩
theorem at155 (h:Mk c vals n mid t S) (hv:vals.length ≤ 1000000) {F:FuncId} {fs cs:List AV} {g:Nat → Bool} (hf:∀ T,Keep S T → ∀ i,i < vals.length → AnsAt Tryz.prog F (fs ++ [aI i] ++ cs) T (aB (g i))) :
    AnsAt Tryz.prog 155 [.p mid 0 0,.f (.func F) fs cs] S (aL aB ((List.range vals.length).map g)) :=
  ans_own_at (f:=fun b=>.bool b) (each_of h hv hf)
theorem at161 (h:Mk c vals n mid t S) (h0:0 ≤ c.inputs) (h60:c.inputs + c.latches.length ≤ 20) {s:Nat} (hs:s < vals.length) (hl:Lits (c.latches.map (·.1)) (vals.getD s []))
    {vs:List Bool} (hvl:vs.length = 2 ^ (c.inputs.toNat + c.latches.length)) (hsv:s < vs.length) :
    AnsAt Tryz.prog 161 [.p mid 0 0,aI s,aL aB vs] S (aL aI (if vs.getD s false = true then nextL c (vals.getD s []) vs else [])) :=
  ans_own_at (f:=fun i=>.int .i64 i) (next_of h h0 h60 hs hl hvl hsv)
theorem own_app_row {α:Type} {f:α → AV} (hf:∀ a,∀ cs,f a ≠ .a cs) {S:Store} {n:Nat} {z:AV} {e:Nat} {rs:List α} {r:α} {K:AV → Store → Prop} (w:Own n S z e (rs.map fun v=>[f v])) (hn:n ≤ S.n) (hl:rs.length ≤ 1000000)
    (k:∀ x' S',Own n S' x' e ((rs ++ [r]).map fun v=>[f v]) → But S S' z → (∃ m,x' = .s S.n 0 m) → K x' S'):appS e 1 24 z (.l [[f r]]) S K:=by
  refine w.app hn (c:=[f r]) rfl (by simp; omega) (fun x' S' w' b' h'=>k x' S' ?_ b' h') rfl
  rw [List.map_append]
  exact w'
end
def valsOf (c:Ci):List (List Bool):=(List.range (2 ^ c.gr.inputs.toNat)).map fun s:Nat=>allB c.gr (bitsL s c.gr.inputs.toNat)
def validOf (c:Ci):List Bool:=(List.range (2 ^ c.gr.inputs.toNat)).map fun s:Nat=>c.cons.all (litB ((valsOf c).getD s []))
def spOf (c:Ci):Sp where
  bits:=c.gr.inputs
  valid:=validOf c
  initial:=(List.range (2 ^ c.gr.inputs.toNat)).map fun s:Nat=>(validOf c).getD s false && begB c s
  next:=(List.range (2 ^ c.gr.inputs.toNat)).map fun s:Nat=>if (validOf c).getD s false = true then nextL c ((valsOf c).getD s []) (validOf c) else []
  fair:=c.fair.map fun l=>(List.range (2 ^ c.gr.inputs.toNat)).map fun s:Nat=>(validOf c).getD s false && litB ((valsOf c).getD s []) l
def sp0:Sp:=⟨0,[],[],[],[]⟩
noncomputable def spaceB (c:Ci):Sp × Int:=if c.right = false then (sp0,1) else if 10 < c.gr.inputs then (sp0,2) else (spOf c,0)
theorem cv_sp0 {S:Store} {n:Nat}:Cv S n (.a [aI 0,.nl,.nl,.nl,.nl]) sp0.av :=
  .a _ _ rfl fun k u u2 hk hk2=>by
    match k with
    | 0=>cases hk; cases hk2; exact .v _
    | 1 | 2 | 3 | 4=>cases hk; cases hk2; exact .nl
    | k + 5=>simp at hk
theorem ldN_off {S:Store} {id t n j:Nat} {cs cs':List AV} {l:Bool} {K:AV → Store → Prop} (h:S.obj id = some (.cells t [cs] l)) (hj:j + n ≤ cs.length) (hc:(cs.drop j).take n = cs'):ldN n (.p id 0 j) S K = K (.a cs') S:=by
  simp [ldN,rdN,place,Store.get,h,hj,hc]
structure Fr (c:Ci) (S S1 S4 S':Store) (a b:Nat) (sp:List AV) (rows:List (List Bool)):Prop where
  keep:Keep S S'
  n:S4.n ≤ S'.n
  cb:S'.obj S.n = some (.cells 42 [c.cells] true)
  sb:S'.obj S1.n = some (.cells 71 [sp] true)
  pb:S'.obj b = some (.cells 169 [[.p a 0 0]] true)
  mb:∃ z,S'.obj a = some (.cells 171 [c.cells ++ c.gr.cells ++ [z]] true) ∧ Own S4.n S' z 53 (rows.map fun v=>[aL aB v])
theorem lits_of {g:Gr} {l:List Int} (hr:∀ x ∈ l,i64R x) (ha:l.all g.lit = true) {v:List Bool} (hv:(v.length:Int) = g.vars):Lits l v:=fun x hx=>by
  have:=List.all_eq_true.1 ha x hx
  simp only [Gr.lit,Bool.and_eq_true,decide_eq_true_eq] at this
  exact ⟨hr x hx,this.2.2.1,by omega⟩
theorem vals_len {c:Ci} (h:c.right = true) {s:Nat} (hs:s < 2 ^ c.gr.inputs.toNat):(((valsOf c).getD s []).length:Int) = c.gr.vars:=by
  obtain ⟨g1,g2,g3⟩:=gr_inp h
  have hr:=(right_c.1 h).2.2.2.2.2.2.1
  have:(valsOf c).getD s [] = allB c.gr (bitsL s c.gr.inputs.toNat):=by simp [valsOf,List.getD_eq_getElem?_getD,hs]
  rw [this,allB_len,if_pos]
  · have:0 ≤ c.gr.vars:=by unfold Gr.vars; omega
    omega
  · rw [hr,bitsL_len]
    simp; omega
theorem lat_lits {g:Gr} {l:List (Int × Int)} (hr:∀ x ∈ l,i64R x.1 ∧ i64R x.2) (ha:l.all (latOk g) = true) {v:List Bool} (hv:(v.length:Int) = g.vars):Lits (l.map (·.1)) v:=by
  refine lits_of (g:=g) (fun x hx=>?_) ?_ hv
  · obtain ⟨p,hp,rfl⟩:=List.mem_map.1 hx
    exact (hr p hp).1
  · rw [List.all_eq_true]
    intro x hx
    obtain ⟨p,hp,rfl⟩:=List.mem_map.1 hx
    have:=List.all_eq_true.1 ha p hp
    simp only [latOk,Bool.and_eq_true] at this
    exact this.1
structure Fr2 (c:Ci) (S S1 S4 S':Store) (a b:Nat) (sp:List AV) (z4:AV) (e4:Nat) (rows:List AV):Prop where
  keep:Keep S S'
  n:S4.n ≤ S'.n
  cb:S'.obj S.n = some (.cells 42 [c.cells] true)
  sb:S'.obj S1.n = some (.cells 71 [sp] true)
  pb:S'.obj b = some (.cells 169 [[.p a 0 0]] true)
  mb:∃ z,S'.obj a = some (.cells 171 [c.cells ++ c.gr.cells ++ [z]] true) ∧ Own S4.n S' z 53 ((valsOf c).map fun v=>[aL aB v]) ∧ Apart z4 z
  ow:Own S4.n S' z4 e4 (rows.map fun v=>[v])
theorem own_tree {α:Type} {f:α → AV} {n:Nat} {S:Store} {x:AV} {e:Nat} {l:List α} (hf:∀ a ∈ l,Tree (f a)) (h:Own n S x e (l.map fun a=>[f a])):Cv (S.frz (newer n)) n x (aL f l) :=
  h.cv rfl rfl (fun i c c2 hi hi2=>by
    rw [hi] at hi2
    cases hi2
    refine ⟨rfl,fun k u u2 hk hk2=>?_⟩
    rw [hk] at hk2
    cases hk2
    rw [List.getElem?_map] at hi
    obtain ⟨a,ha,rfl⟩:=Option.map_eq_some_iff.1 hi
    cases k with
    | zero=>cases hk; exact hf a (List.mem_of_getElem? ha) _ _
    | succ k=>simp at hk)
theorem cv_a5 {S:Store} {n:Nat} {x y z u v x' y' z' u' v':AV} (h1:Cv S n x x') (h2:Cv S n y y') (h3:Cv S n z z') (h4:Cv S n u u') (h5:Cv S n v v'):Cv S n (.a [x,y,z,u,v]) (.a [x',y',z',u',v']) :=
  .a _ _ rfl fun k w w2 hk hk2=>by
    match k with
    | 0=>cases hk; cases hk2; exact h1
    | 1=>cases hk; cases hk2; exact h2
    | 2=>cases hk; cases hk2; exact h3
    | 3=>cases hk; cases hk2; exact h4
    | 4=>cases hk; cases hk2; exact h5
    | k + 5=>simp at hk
theorem ans117 {c:Ci} (hc:c.ok):Ans Tryz.prog 117 [c.av] (.t [(spaceB c).1.av,aI (spaceB c).2]):=by
  intro S
  refine ACalls.tree (calls117 ?_)
  unfold m117
  refine boxA_of rfl fun S1 k1 n1 o1=>?_
  refine boxA_of rfl fun S2 k2 n2 o2=>?_
  have k2':=k1.trans k2
  have p2:S2.obj S.n = _:=(k2.2 _ (by omega)).trans o1
  rw [ldN_p (n:=8) p2 rfl]
  refine callF_ans (ans85 hc) ?_
  rw [un_not,onB_v]
  refine gd_of (fun h1=>?_) (fun h1=>?_)
  · rw [ldN_p (n:=5) o2 rfl]
    refine stA_of o2 rfl rfl fun S3 n3 o3 f3=>?_
    rw [ldN_p (n:=5) o3 rfl]
    rw [Bool.not_eq_true'] at h1
    refine ⟨_,rfl,k2'.st (by omega) n3 f3,?_⟩
    rw [spaceB,if_pos h1]
    exact cv_t2 cv_sp0 (.v _)
  have h1:c.right = true:=by simpa using h1
  have h1':¬ c.right = false:=by rw [h1]; decide
  obtain ⟨g1,g2,g3⟩:=gr_inp h1
  have hin:=(right_c.1 h1).1
  obtain ⟨m,hm⟩:=Int.eq_ofNat_of_zero_le g2
  have q2:∀ T:Store,Keep S2 T → T.obj S.n = some (.cells 42 [c.cells] true):=fun T hT=>(hT.2 _ (by omega)).trans p2
  refine ⟨_,fun T hT=>by rw [ldN_p (n:=8) (q2 T hT) rfl]; exact ⟨rfl,rfl⟩,_,fun T hT=>by rw [ldN_p (n:=8) (q2 T hT) rfl]; exact ⟨rfl,rfl⟩,_,fun T hT=>callF_ans (ans84 c) ⟨rfl,rfl⟩,_,fun T hT=>by rw [bld_of (cs:=c.cells ++ c.gr.cells ++ [.nl]) rfl]; exact ⟨rfl,rfl⟩,?_⟩
  refine ⟨_,rfl,rfl,fun ids S3 hN=>?_⟩
  obtain ⟨a,b,rfl⟩:∃ a b,ids = [a,b]:=by
    have:=hN.len
    match ids,this with
    | [a,b],_=>exact ⟨a,b,rfl⟩
  have k3:=hN.keep
  have n3:S3.n = S2.n + 2:=hN.n
  have ha:=hN.lo a (by simp)
  have hb:=hN.lo b (by simp)
  have ha':=hN.hi a (by simp)
  have hb':=hN.hi b (by simp)
  have hab:a ≠ b:=by have:=hN.nodup; simp at this; exact this
  have oa:S3.obj a = some (.cells 171 [c.cells ++ c.gr.cells ++ [.nl]] true):=hN.new 0 a _ rfl rfl
  have ob:S3.obj b = some (.cells 169 [[.v (.pointer none)]] true):=hN.new 1 b _ rfl rfl
  show stN 1 (.p b 0 0) (.p a 0 0) S3 _
  refine st_of ob rfl rfl fun S4 n4 o4 f4=>?_
  have k4:Keep S S4:=(k2'.trans k3).st (by omega) n4 f4
  have fr4:Fr c S S1 S4 S4 a b [aI 0,.nl,.nl,.nl,.nl] []:=⟨k4,Nat.le_refl _,(f4 _ (by omega)).trans (q2 S3 k3),(f4 _ (by omega)).trans ((k3.2 _ (by omega)).trans o2),o4,.nl,(f4 _ hab).trans oa,Own.nl _ _ _⟩
  show ld1 (.p b 0 0) S4 _
  obtain ⟨z4,m4,_⟩:=fr4.mb
  rw [ld1_p fr4.pb rfl rfl,nilChk_p,shift_p,shift_p,ld1_p m4 rfl rfl]
  show bin .gtr 0 (aI c.gr.inputs) _ _ _
  rw [bin_gtr,onB_v]
  refine gd_of (fun h2=>?_) (fun h2=>?_)
  · rw [ldN_p (n:=5) fr4.sb rfl]
    refine stA_of fr4.sb rfl rfl fun S5 n5 o5 f5=>?_
    rw [ldN_p (n:=5) o5 rfl]
    refine ⟨_,rfl,k4.st (by omega) n5 f5,?_⟩
    rw [spaceB,if_neg h1',if_pos (of_decide_eq_true h2)]
    exact cv_t2 cv_sp0 (.v _)
  have h2:¬ 10 < c.gr.inputs:=of_decide_eq_false h2
  have hm10:m ≤ 10:=by omega
  have hres:spaceB c = (spOf c,0):=by rw [spaceB,if_neg h1',if_neg h2]
  rw [hres]
  show ld1 (.p b 0 0) S4 _
  rw [ld1_p fr4.pb rfl rfl,nilChk_p,shift_p,shift_p,ld1_p m4 rfl rfl]
  show bin .shl 0 _ (aI c.gr.inputs) _ _
  rw [show aI c.gr.inputs = aI (m:Int) by rw [hm],bin_shl1 (by omega),show ((2:Int) ^ m) = ((2 ^ m:Nat):Int) by rw [Int.natCast_pow]; rfl]
  have hN1:2 ^ m ≤ 1024:=Nat.pow_le_pow_right (by decide) (show m ≤ 10 by omega)
  have hgt:c.gr.inputs.toNat = m:=by rw [hm]; rfl
  show loopV _ _ _ (env117_0 (.p S.n 0 0) (.p S1.n 0 0) (.p b 0 0) (aI ((2 ^ m:Nat):Int)) (.v (.int .i64 0))) _ _
  refine loop117_0 (fun y S'=>∃ i:Nat,y = aI i ∧ i ≤ 2 ^ m ∧ Fr c S S1 S4 S' a b [aI 0,.nl,.nl,.nl,.nl] ((List.range i).map fun s:Nat=>allB c.gr (bitsL s m)))
    (fun y _=>2 ^ m - ((intA y).getD 0).toNat) ⟨0,rfl,Nat.zero_le _,fr4⟩ ?_
  rintro _ S5 ⟨i,rfl,hi,fr⟩ KE hKE
  unfold b117_0
  obtain ⟨z,hz,hw⟩:=fr.mb
  rw [bin_lss,onB_v]
  refine gd_of (fun hlt=>?_) (fun hge=>?_)
  · have hlt:i < 2 ^ m:=by
      have:((i:Int) < ((2 ^ m:Nat):Int)):=of_decide_eq_true hlt
      omega
    rw [ld1_p fr.pb rfl rfl,nilChk_p,shift_p,shift_p,ld1_p hz rfl rfl]
    show mkN _ _ _ (aI c.gr.inputs) (aI c.gr.inputs) _ _
    rw [show aI c.gr.inputs = aI (m:Int) by rw [hm]]
    refine mk_of (by omega) (by omega) fun S6 k6 n6 o6=>?_
    rw [lenS_s]
    have hrep:List.replicate m [AV.v (.bool false)] = (List.range m).map fun k=>[aB (if k < 0 then bitN i k else false)]:=by
      apply List.ext_getElem
      · simp
      · intro k h1 h2
        simp
    rw [hrep] at o6
    have hs5:=fr.n
    refine loop117_1 (fun y S'=>S'.n = S6.n ∧ (∀ x,x < S5.n → S'.obj x = S5.obj x) ∧ ∃ j:Nat,y = aI j ∧ j ≤ m ∧ S'.obj S5.n = some (.cells 4 ((List.range m).map fun k=>[aB (if k < j then bitN i k else false)]) true))
      (fun y _=>m - ((intA y).getD 0).toNat) ⟨rfl,k6.2,0,rfl,Nat.zero_le _,o6⟩ ?_
    rintro _ S7 ⟨n7,f7,j,rfl,hj,o7⟩ KE1 hKE1
    unfold b117_1
    rw [bin_lss,onB_v]
    refine gd_of (fun hlt1=>?_) (fun hge1=>?_)
    · have hlt1:j < m:=by simpa using hlt1
      rw [bin_shrN (by omega),bin_and1,bin_eql,ixS_s hlt1 o7]
      refine st_of o7 (u0:=aB (if j < j then bitN i j else false)) (by rw [Nat.zero_add]; simp [hlt1]) rfl fun S8 n8 o8 f8=>?_
      rw [bin_add (by omega) (by omega)]
      refine hKE1 _ _ ⟨by omega,fun x hx=>(f8 x (by omega)).trans (f7 x hx),j + 1,rfl,hlt1,?_⟩ (by simp [intA]; omega)
      rw [o8,Nat.zero_add]
      have:=set_range (n:=m) (i:=j) (f:=fun k=>[aB (if k < j then bitN i k else false)]) (f':=fun k=>[aB (if k < j + 1 then bitN i k else false)]) hlt1 (fun k hk=>by
        have:(k < j + 1) = (k < j):=by apply propext; omega
        simp only [this])
      rw [← this]
      simp [bitN]
    · have hgj:j = m:=by
        have:¬ ((j:Int) < (m:Int)):=of_decide_eq_false hge1
        omega
      subst hgj
      have o7':S7.obj S5.n = some (.cells 4 ((bitsL i j).map fun b=>[aB b]) true):=by
        rw [o7,bitsL,List.map_map]
        congr 2
        apply List.map_congr_left
        intro k hk
        simp [List.mem_range.1 hk]
      have bp:=(f7 b (by omega)).trans fr.pb
      have bz:=(f7 a (by omega)).trans hz
      have kT:∀ {T:Store} {x:Nat} {o:AObj},Keep S7 T → x < S5.n → S7.obj x = some o → T.obj x = some o:=fun hT hx ho=>(hT.2 _ (by omega)).trans ho
      have w7:Own S4.n S7 z 53 (((List.range i).map fun s:Nat=>allB c.gr (bitsL s j)).map fun v=>[aL aB v]):=hw.same (by omega) (fun x _ hx=>f7 x hx)
      refine ⟨_,fun T hT=>by rw [ld1_p (kT hT (by omega) bp) rfl rfl]; exact ⟨rfl,rfl⟩,_,fun T hT=>by rw [ld1_p (kT hT (by omega) bp) rfl rfl]; exact ⟨rfl,rfl⟩,_,fun T hT=>by rw [nilChk_p]; exact ⟨rfl,rfl⟩,_,fun T hT=>by rw [shift_p]; exact ⟨rfl,rfl⟩,
        z,fun T hT=>by rw [ld1_p (kT hT (by omega) bz) rfl rfl]; exact ⟨rfl,rfl⟩,_,fun T hT=>by rw [ld1_p (kT hT (by omega) bp) rfl rfl]; exact ⟨rfl,rfl⟩,_,fun T hT=>by rw [nilChk_p]; exact ⟨rfl,rfl⟩,_,fun T hT=>by rw [shift_p]; exact ⟨rfl,rfl⟩,
        c.gr.av,fun T hT=>by rw [ldN_off (n:=2) (cs':=c.gr.cells) (kT hT (by omega) bz) (by simp [Ci.cells,Gr.cells]) rfl]; exact ⟨rfl,rfl⟩,
        aL aB (allB c.gr (bitsL i j)),fun T hT=>callF_at (ans_own_at (f:=fun b=>.bool b) (own_at154 hc.gr (ins:=bitsL i j) (by simp; omega) (fun T K=>by rw [lenS_s,bitsL_len]) (fun T' hT'=>?_))) ⟨rfl,rfl⟩,
        _,fun T hT=>bsl1 rfl (fun _ h=>by cases h) ⟨rfl,rfl⟩,?_⟩
      · have:=(hT'.2 S5.n (by have:=hT.1; omega)).trans ((hT.2 S5.n (by omega)).trans o7')
        simp only [srcE,this]
        rw [if_pos (by simp)]
        simp [List.take_of_length_le]
      refine own_app_row (f:=aL aB) (fun _ _ h=>by cases h) w7 (by omega) (by simp; omega) (fun z8 S8 w8 b8 hz8=>?_)
      have k8:∀ x,x < S4.n → S8.obj x = S7.obj x:=fun x hx=>b8.2 x (by omega) (fun b m e=>by
        have:=w7.lt e
        omega)
      have n8:=b8.1
      have b8p:=(k8 b (by omega)).trans bp
      refine ⟨fun T hT=>by rw [ld1_p ((hT.2 _ (by omega)).trans b8p) rfl rfl]; exact ⟨rfl,rfl⟩,_,fun T hT=>by rw [nilChk_p]; exact ⟨rfl,rfl⟩,_,fun T hT=>by rw [shift_p]; exact ⟨rfl,rfl⟩,?_⟩
      obtain ⟨m8,hm8⟩:=hz8
      refine stF_of ((k8 a (by omega)).trans bz) (by simp [Ci.cells,Gr.cells]) (by rw [hm8]; rfl) fun S9 n9 o9 f9=>?_
      have b9p:=(f9 b (Ne.symm hab)).trans b8p
      rw [bin_add (by omega) (by omega)]
      have old:∀ x,x < S4.n → x ≠ a → S9.obj x = S5.obj x:=fun x hx hne=>(f9 x hne).trans ((k8 x hx).trans (f7 x (by omega)))
      have k4n:=k4.1
      refine hKE _ _ ⟨i + 1,rfl,hlt,⟨by have:=fr.keep.1; omega,fun x hx=>(old x (by omega) (by omega)).trans (fr.keep.2 x hx)⟩,by omega,(old _ (by omega) (by omega)).trans fr.cb,(old _ (by omega) (by omega)).trans fr.sb,b9p,z8,o9,?_⟩ (by simp [intA]; omega)
      rw [List.range_succ,List.map_append]
      exact w8.st (id:=a) (fun b m e=>by rw [hm8] at e; injection e; omega) n9 f9
  · have hge:i = 2 ^ m:=by
      have:¬ ((i:Int) < ((2 ^ m:Nat):Int)):=of_decide_eq_false hge
      omega
    subst hge
    have hvals:(List.range (2 ^ m)).map (fun s:Nat=>allB c.gr (bitsL s m)) = valsOf c:=by unfold valsOf; rw [hgt]
    rw [hvals] at fr
    clear hw hz z
    have hvl:(valsOf c).length = 2 ^ m:=by rw [← hvals]; simp
    have hvalid:validOf c = (List.range (valsOf c).length).map fun s:Nat=>c.cons.all (litB ((valsOf c).getD s [])):=by rw [hvl,validOf,hgt]
    have hvv:(validOf c).length = 2 ^ m:=by rw [hvalid]; simp [hvl]
    have hR:=right_c.1 h1
    have hlen:∀ s,s < (valsOf c).length → (((valsOf c).getD s []).length:Int) = c.gr.vars:=fun s hs=>vals_len h1 (by rw [hgt,← hvl]; exact hs)
    have hcons:∀ s,s < (valsOf c).length → Lits c.cons ((valsOf c).getD s []):=fun s hs=>lits_of hc.cons.1 hR.2.2.2.2.2.2.2.2.2.2.1 (hlen s hs)
    have hfair:∀ s,s < (valsOf c).length → Lits c.fair ((valsOf c).getD s []):=fun s hs=>lits_of hc.fair.1 hR.2.2.2.2.2.2.2.2.2.2.2.1 (hlen s hs)
    have hlats:∀ s,s < (valsOf c).length → Lits (c.latches.map (·.1)) ((valsOf c).getD s []):=fun s hs=>lat_lits hc.lats hR.2.2.2.2.2.2.2.1 (hlen s hs)
    have hs5:=fr.n
    obtain ⟨z,hz,hw⟩:=fr.mb
    rw [ld1_p fr.pb rfl rfl,nilChk_p,shift_p,shift_p,ld1_p hz rfl rfl,shift_p]
    show stN 1 _ (aI c.gr.inputs) _ _
    refine stF_of fr.sb (by simp) rfl fun S6 n6 o6 f6=>?_
    have b6:=(f6 b (by omega)).trans fr.pb
    have z6:=(f6 a (by omega)).trans hz
    have w6:Own S4.n S6 z 53 _:=hw.st (id:=S1.n) (fun b m e=>by have:=hw.lt e; omega) n6 f6
    have mk6:Mk c (valsOf c) S4.n a 171 S6:=⟨by omega,z,z6,w6⟩
    rw [ld1_p b6 rfl rfl,ld1_p b6 rfl rfl]
    refine callF_at (at155 mk6 (by omega) (g:=fun s=>c.cons.all (litB ((valsOf c).getD s []))) (fun T hT s hs=>at156 (mk6.keep hT) hs (hcons s hs) hc.cons.2)) ?_
    rw [← hvalid,shift_p]
    refine stF_of o6 (by simp) rfl fun S7 n7 o7 f7=>?_
    have b7:=(f7 b (by omega)).trans b6
    have z7:=(f7 a (by omega)).trans z6
    have w7:Own S4.n S7 z 53 _:=w6.st (id:=S1.n) (fun b m e=>by have:=w6.lt e; omega) n7 f7
    have mk7:Mk c (valsOf c) S4.n a 171 S7:=⟨by omega,z,z7,w7⟩
    rw [ld1_p b7 rfl rfl]
    refine callF_at (at155 mk7 (by omega) (g:=fun s=>(validOf c).getD s false && begB c s) (fun T hT s hs=>at157 (mk7.keep hT) hin.1 (by omega) (by omega) ((hT.2 _ (by omega)).trans o7) rfl ((hT.2 _ (by omega)).trans b7))) ?_
    rw [shift_p]
    refine stF_of o7 (by simp) rfl fun S8 n8 o8 f8=>?_
    have b8:=(f8 b (by omega)).trans b7
    have z8:=(f8 a (by omega)).trans z7
    have w8:Own S4.n S8 z 53 _:=w7.st (id:=S1.n) (fun b m e=>by have:=w7.lt e; omega) n8 f8
    have old8:∀ x,x ≠ S1.n → S8.obj x = S5.obj x:=fun x hx=>(f8 x hx).trans ((f7 x hx).trans (f6 x hx))
    have hinit:(spOf c).initial = (List.range (valsOf c).length).map (fun s:Nat=>(validOf c).getD s false && begB c s):=by rw [hvl]; simp only [spOf,hgt]
    rw [← hinit] at o8
    have fr8:Fr2 c S S1 S4 S8 a b [aI c.gr.inputs,aL aB (validOf c),aL aB (spOf c).initial,.nl,.nl] .nl 53 [] :=
      ⟨⟨by have:=fr.keep.1; omega,fun x hx=>(old8 x (by omega)).trans (fr.keep.2 x hx)⟩,by omega,(old8 _ (by omega)).trans fr.cb,o8,b8,⟨z,z8,w8,fun _ _ _ _ _ e=>by cases e⟩,Own.nl _ _ _⟩
    rw [shift_p,ld1_p fr8.cb rfl rfl,lenS_aL]
    have hfl:c.fair.length ≤ 2000:=hR.2.2.2.2.2.1
    have hspf:(spOf c).fair = c.fair.map fun l=>(List.range (valsOf c).length).map fun s:Nat=>(validOf c).getD s false && litB ((valsOf c).getD s []) l:=by rw [hvl]; simp only [spOf,hgt]
    refine loop117_2 (fun y S'=>∃ (i:Nat) (z4:AV),y = aI i ∧ i ≤ c.fair.length ∧ Fr2 c S S1 S4 S' a b [aI c.gr.inputs,aL aB (validOf c),aL aB (spOf c).initial,.nl,z4] z4 53 (((spOf c).fair.take i).map fun v=>aL aB v))
      (fun y _=>c.fair.length - ((intA y).getD 0).toNat) ⟨0,.nl,rfl,Nat.zero_le _,fr8⟩ ?_
    rintro _ S9 ⟨i,z4,rfl,hi,fr9⟩ KE2 hKE2
    unfold b117_2
    have h9n:=fr9.n
    have hk4:=k4.1
    rw [bin_lss,onB_v]
    refine gd_of (fun hlt=>?_) (fun hge=>?_)
    · have hlt:i < c.fair.length:=by simpa using hlt
      have hlf:i < (spOf c).fair.length:=by rw [hspf,List.length_map]; exact hlt
      have hli:=List.getElem_mem hlt
      have hrow:(spOf c).fair[i] = (List.range (valsOf c).length).map fun s:Nat=>(validOf c).getD s false && litB ((valsOf c).getD s []) c.fair[i]:=by simp only [hspf,List.getElem_map]
      have htk:(spOf c).fair.take (i + 1) = (spOf c).fair.take i ++ [(spOf c).fair[i]]:=by rw [List.take_add_one,List.getElem?_eq_getElem hlf]; rfl
      rw [ixS_aL hlt,ld1_q]
      refine box1_of rfl fun S10 k10 n10 o10=>?_
      refine st_of o10 rfl rfl fun S11 n11 o11 f11=>?_
      have k11:Keep S9 S11:=k10.st (Nat.le_refl _) n11 f11
      obtain ⟨zz,hzz,hww,hap⟩:=fr9.mb
      have mk11:Mk c (valsOf c) S4.n a 171 S11:=⟨by have:=k11.1; omega,zz,(k11.2 _ (by omega)).trans hzz,own_keep hww k11⟩
      have m11:=k11.1
      have s11:=(k11.2 _ (by omega)).trans fr9.sb
      have b11:=(k11.2 _ (by omega)).trans fr9.pb
      have kT:∀ {T:Store} {x:Nat} {o:AObj},Keep S11 T → x < S11.n → S11.obj x = some o → T.obj x = some o:=fun hT hx ho=>(hT.2 _ hx).trans ho
      refine ⟨_,fun T hT=>by rw [shift_p]; exact ⟨rfl,rfl⟩,z4,fun T hT=>by rw [ld1_p (kT hT (by omega) s11) rfl rfl]; exact ⟨rfl,rfl⟩,_,fun T hT=>by rw [ld1_p (kT hT (by omega) b11) rfl rfl]; exact ⟨rfl,rfl⟩,_,fun T hT=>⟨rfl,rfl⟩,
        aL aB (spOf c).fair[i],fun T hT=>callF_at (show AnsAt _ _ _ T (aL aB (spOf c).fair[i]) from hrow ▸ at155 (mk11.keep hT) (by omega) (g:=fun s=>(validOf c).getD s false && litB ((valsOf c).getD s []) c.fair[i]) (fun T' hT' s hs =>
          at159 (mk11.keep (hT.trans hT')) (by omega) hs (hfair s hs _ hli).1 (hfair s hs _ hli).2.1 (hfair s hs _ hli).2.2 (kT (hT.trans hT') (by omega) s11) rfl (kT (hT.trans hT') (by omega) b11) (kT (hT.trans hT') (by omega) o11))) ⟨rfl,rfl⟩,
        _,fun T hT=>bsl1 rfl (fun _ h=>by cases h) ⟨rfl,rfl⟩,?_⟩
      refine (own_keep fr9.ow k11).app (by omega) (c:=[aL aB (spOf c).fair[i]]) rfl (by simp; omega) (fun z5 S12 w12 b12 hz12=>?_) rfl
      obtain ⟨m12,hm12⟩:=hz12
      have n12:=b12.1
      have k12:∀ x,x < S4.n → S12.obj x = S11.obj x:=fun x hx=>b12.2 x (by omega) (fun b m e=>by have:=fr9.ow.lt e; omega)
      refine ⟨_,fun T hT=>by rw [shift_p]; exact ⟨rfl,rfl⟩,?_⟩
      refine stF_of ((k12 S1.n (by omega)).trans s11) (by simp) (by rw [hm12]; rfl) fun S13 n13 o13 f13=>?_
      rw [bin_add (by omega) (by omega)]
      have old:∀ x,x < S4.n → x ≠ S1.n → S13.obj x = S9.obj x:=fun x hx hne=>(f13 x hne).trans ((k12 x hx).trans (k11.2 x (by omega)))
      have wz:Own S4.n S13 zz 53 _:=((own_keep hww k11).but b12 hap).st (id:=S1.n) (fun b m e=>by have:=hww.lt e; omega) n13 f13
      refine hKE2 _ _ ⟨i + 1,z5,rfl,hlt,⟨by have:=fr9.keep.1; omega,fun x hx=>(old x (by omega) (by omega)).trans (fr9.keep.2 x hx)⟩,by omega,(old _ (by omega) (by omega)).trans fr9.cb,o13,(old _ (by omega) (by omega)).trans fr9.pb,⟨zz,(old _ (by omega) (by omega)).trans hzz,wz,fun x b m b' m' e e'=>?_⟩,?_⟩ (by simp [intA]; omega)
      · rw [hm12] at e; injection e with e1 e2 e3
        have:=hww.lt e'
        omega
      · rw [htk,List.map_append,List.map_append]
        exact w12.st (id:=S1.n) (fun b m e=>by rw [hm12] at e; injection e; omega) n13 f13
    · have hge:i = c.fair.length:=by
        have:¬ ((i:Int) < (c.fair.length:Int)):=of_decide_eq_false hge
        omega
      subst hge
      rw [List.take_of_length_le (by rw [hspf,List.length_map]; exact Nat.le_refl _)] at fr9
      obtain ⟨zz,hzz,hww,hap⟩:=fr9.mb
      rw [ld1_p fr9.pb rfl rfl,nilChk_p,shift_p,ld1_p hzz rfl rfl,hww.len,List.length_map]
      have hspn:(spOf c).next = (List.range (valsOf c).length).map fun s:Nat=>if (validOf c).getD s false = true then nextL c ((valsOf c).getD s []) (validOf c) else []:=by rw [hvl]; simp only [spOf,hgt]
      have hnl:(spOf c).next.length = (valsOf c).length:=by rw [hspn,List.length_map,List.length_range]
      refine loop117_3 (fun y S'=>∃ (i:Nat) (z3:AV),y = aI i ∧ i ≤ (valsOf c).length ∧ Fr2 c S S1 S4 S' a b [aI c.gr.inputs,aL aB (validOf c),aL aB (spOf c).initial,z3,z4] z3 34 (((spOf c).next.take i).map fun v=>aL aI v) ∧
          Own S4.n S' z4 53 (((spOf c).fair.map fun v=>aL aB v).map fun v=>[v]) ∧ Apart z3 z4)
        (fun y _=>(valsOf c).length - ((intA y).getD 0).toNat) ⟨0,.nl,rfl,Nat.zero_le _,⟨fr9.keep,fr9.n,fr9.cb,fr9.sb,fr9.pb,⟨zz,hzz,hww,fun _ _ _ _ _ e=>by cases e⟩,Own.nl _ _ _⟩,fr9.ow,fun _ _ _ _ _ e=>by cases e⟩ ?_
      clear hzz hww hap zz fr9 h9n
      rintro _ S9 ⟨i,z3,rfl,hi,fr9,wf,hap4⟩ KE3 hKE3
      unfold b117_3
      have h9n:=fr9.n
      obtain ⟨zz,hzz,hww,hap⟩:=fr9.mb
      rw [bin_lss,onB_v]
      refine gd_of (fun hlt=>?_) (fun hge=>?_)
      · have hlt:i < (valsOf c).length:=by
          have:((i:Int) < ((valsOf c).length:Int)):=of_decide_eq_true hlt
          omega
        have hlf:i < (spOf c).next.length:=by omega
        have hrow:(spOf c).next[i] = if (validOf c).getD i false = true then nextL c ((valsOf c).getD i []) (validOf c) else []:=by simp only [hspn,List.getElem_map,List.getElem_range]
        have htk:(spOf c).next.take (i + 1) = (spOf c).next.take i ++ [(spOf c).next[i]]:=by rw [List.take_add_one,List.getElem?_eq_getElem hlf]; rfl
        have mk9:Mk c (valsOf c) S4.n a 171 S9:=⟨by omega,zz,hzz,hww⟩
        have kT:∀ {T:Store} {x:Nat} {o:AObj},Keep S9 T → x < S9.n → S9.obj x = some o → T.obj x = some o:=fun hT hx ho=>(hT.2 _ hx).trans ho
        have hmm:m = c.inputs.toNat + c.latches.length:=by omega
        refine ⟨_,fun T hT=>by rw [shift_p]; exact ⟨rfl,rfl⟩,z3,fun T hT=>by rw [ld1_p (kT hT (by omega) fr9.sb) rfl rfl]; exact ⟨rfl,rfl⟩,_,fun T hT=>by rw [ld1_p (kT hT (by omega) fr9.pb) rfl rfl]; exact ⟨rfl,rfl⟩,_,fun T hT=>by rw [shift_p]; exact ⟨rfl,rfl⟩,aL aB (validOf c),fun T hT=>by rw [ld1_p (kT hT (by omega) fr9.sb) rfl rfl]; exact ⟨rfl,rfl⟩,
          aL aI (spOf c).next[i],fun T hT=>callF_at (show AnsAt _ _ _ T (aL aI (spOf c).next[i]) from hrow ▸ at161 (mk9.keep hT) hin.1 (by omega) hlt (hlats i hlt) (by rw [hvv,hmm]) (by omega)) ⟨rfl,rfl⟩,
          _,fun T hT=>bsl1 rfl (fun _ h=>by cases h) ⟨rfl,rfl⟩,?_⟩
        refine fr9.ow.app (by omega) (c:=[aL aI (spOf c).next[i]]) rfl (by simp; omega) (fun z5 S12 w12 b12 hz12=>?_) rfl
        obtain ⟨m12,hm12⟩:=hz12
        have n12:=b12.1
        have k12:∀ x,x < S4.n → S12.obj x = S9.obj x:=fun x hx=>b12.2 x (by omega) (fun b m e=>by have:=fr9.ow.lt e; omega)
        refine ⟨_,fun T hT=>by rw [shift_p]; exact ⟨rfl,rfl⟩,?_⟩
        refine stF_of ((k12 S1.n (by omega)).trans fr9.sb) (by simp) (by rw [hm12]; rfl) fun S13 n13 o13 f13=>?_
        rw [bin_add (by omega) (by omega)]
        have old:∀ x,x < S4.n → x ≠ S1.n → S13.obj x = S9.obj x:=fun x hx hne=>(f13 x hne).trans (k12 x hx)
        have wz:Own S4.n S13 zz 53 _:=(hww.but b12 hap).st (id:=S1.n) (fun b m e=>by have:=hww.lt e; omega) n13 f13
        have wf':Own S4.n S13 z4 53 _:=(wf.but b12 hap4).st (id:=S1.n) (fun b m e=>by have:=wf.lt e; omega) n13 f13
        refine hKE3 _ _ ⟨i + 1,z5,rfl,hlt,⟨⟨by have:=fr9.keep.1; omega,fun x hx=>(old x (by omega) (by omega)).trans (fr9.keep.2 x hx)⟩,by omega,(old _ (by omega) (by omega)).trans fr9.cb,o13,(old _ (by omega) (by omega)).trans fr9.pb,⟨zz,(old _ (by omega) (by omega)).trans hzz,wz,fun x b m b' m' e e'=>?_⟩,?_⟩,wf',fun x b m b' m' e e'=>?_⟩ (by simp [intA]; omega)
        · rw [hm12] at e; injection e with e1 e2 e3
          have:=hww.lt e'
          omega
        · rw [htk,List.map_append,List.map_append]
          exact w12.st (id:=S1.n) (fun b m e=>by rw [hm12] at e; injection e; omega) n13 f13
        · rw [hm12] at e; injection e with e1 e2 e3
          have:=wf.lt e'
          omega
      · have hge:i = (valsOf c).length:=by
          have:¬ ((i:Int) < ((valsOf c).length:Int)):=of_decide_eq_false hge
          omega
        subst hge
        have hnx:=fr9.ow
        rw [List.take_of_length_le (by omega)] at hnx
        rw [ldN_p (n:=5) fr9.sb rfl]
        refine stA_of fr9.sb rfl rfl fun S10 n10 o10 f10=>?_
        rw [ldN_p (n:=5) o10 rfl]
        have w3:Own S.n S10 z3 34 _:=(hnx.st (id:=S1.n) (fun b m e=>by have:=hnx.lt e; omega) n10 f10).low (by omega)
        have w4:Own S.n S10 z4 53 _:=(wf.st (id:=S1.n) (fun b m e=>by have:=wf.lt e; omega) n10 f10).low (by omega)
        rw [List.map_map] at w3 w4
        refine ⟨_,rfl,fr9.keep.st (by omega) n10 f10,cv_t2 (cv_a5 (.v _) (treeB _ _ _) (treeB _ _ _) (own_tree (fun _ _=>treeI _) w3) (own_tree (fun _ _=>treeB _) w4)) (.v _)⟩
theorem ans66 {c:Ci} (hc:c.ok) {s:Int} {l:List Int} (hl:∀ x ∈ l,i64R x) (hn:l.length ≤ 9223372036854775807):Ans Tryz.prog 66 [c.av,aI s,aL aI l] (aB (l.all (isB c s))):=by
  intro S
  refine ACalls.ans_v (calls66 ?_)
  unfold m66
  refine boxA_of rfl fun S1 k1 n1 o1=>?_
  refine loop66_0 (fun y S'=>S' = S1 ∧ ∃ i:Nat,y = aI i ∧ i ≤ l.length ∧ ∀ j (h:j < l.length),j < i → isB c s l[j] = true)
    (fun y _=>l.length - ((intA y).getD 0).toNat) ⟨rfl,0,rfl,Nat.zero_le _,fun j _ hj=>(Nat.not_lt_zero _ hj).elim⟩ ?_
  rintro _ S1 ⟨rfl,i,rfl,hi,hok⟩ KE hKE
  unfold b66_0
  rw [lenS_aL,bin_lss,onB_v]
  refine gd_of (fun hlt=>?_) (fun hge=>?_)
  · have hlt:i < l.length:=by simpa using hlt
    have hm:=List.getElem_mem hlt
    show ∃ q5:AV,_
    refine ⟨_,by rw [ldN_p (n:=8) o1 rfl]; exact ⟨rfl,rfl⟩,?_⟩
    refine ⟨_,by rw [ixS_aL hlt]; exact ⟨rfl,rfl⟩,?_⟩
    refine ⟨_,by rw [ld1_q]; exact ⟨rfl,rfl⟩,?_⟩
    refine ⟨_,callF_ans (ans68 hc (hl _ hm)) ⟨rfl,rfl⟩,?_⟩
    refine ⟨_,by rw [un_not]; exact ⟨rfl,rfl⟩,?_⟩
    rw [onB_v]
    refine gd_of (fun h=>⟨?_,k1⟩) (fun h=>?_)
    · have:l.all (isB c s) = false:=by
        rw [List.all_eq_false]
        exact ⟨_,hm,by simpa using h⟩
      rw [this]
    · have hadd:∀ K:AV → Store → Prop,∀ S,bin .add 0 (.v (.int .i64 (i:Int))) (.v (.int .i64 1)) S K = K (aI (i + 1:Nat)) S:=fun K S=>bin_add (by omega) (by omega) 0
      rw [hadd]
      refine hKE _ _ ⟨rfl,i + 1,rfl,hlt,fun j hj hj'=>?_⟩ (by simp [intA]; omega)
      rcases Nat.lt_or_ge j i with h' | h'
      · exact hok j hj h'
      · have:j = i:=by omega
        subst this
        simpa using h
  · have hge:i = l.length:=by simp at hge; omega
    subst hge
    refine ⟨?_,k1⟩
    have:l.all (isB c s) = true:=by
      rw [List.all_eq_true]
      intro x hx
      obtain ⟨j,hj,rfl⟩:=List.getElem_of_mem hx
      exact hok j hj hj
    rw [this]
theorem ans67 {c:Ci} (hll:c.latches.length ≤ 1000000) (h0:0 ≤ c.inputs) (h60:c.inputs + c.latches.length ≤ 60) {s:Int} (hs:0 ≤ s):Ans Tryz.prog 67 [c.av,aI s] (aB (begB c s)):=by
  intro S
  refine ACalls.ans_v (calls67 ?_)
  unfold m67
  refine boxA_of rfl fun S1 k1 n1 o1=>?_
  refine loop67_0 (fun w S'=>S' = S1 ∧ ∃ i:Nat,w = aI i ∧ i ≤ c.latches.length ∧ ∀ j,j < i → (decide ((c.latches.getD j (0,0)).2 = 2) || decide (s.fdiv (2 ^ (c.inputs.toNat + j)) % 2 = (c.latches.getD j (0,0)).2)) = true)
    (fun w _=>c.latches.length - ((intA w).getD 0).toNat) ⟨rfl,0,rfl,Nat.zero_le _,fun j hj=>(Nat.not_lt_zero _ hj).elim⟩ ?_
  rintro _ S1 ⟨rfl,i,rfl,hi,hok⟩ KE hKE
  unfold b67_0
  rw [shift_p,ld1_p o1 rfl rfl,lenS_pL,bin_lss,onB_v]
  refine gd_of (fun hlt=>?_) (fun hge=>?_)
  · have hlt:i < c.latches.length:=by simpa using hlt
    have hget:c.latches.getD i (0,0) = c.latches[i]:=by simp [List.getD_eq_getElem?_getD,hlt]
    have hadd:∀ K:AV → Store → Prop,∀ S,bin .add 0 (.v (.int .i64 (i:Int))) (.v (.int .i64 1)) S K = K (aI (i + 1:Nat)) S:=fun K S=>bin_add (by omega) (by omega) 0
    have hno:(decide ((c.latches.getD i (0,0)).2 = 2) || decide (s.fdiv (2 ^ (c.inputs.toNat + i)) % 2 = (c.latches.getD i (0,0)).2)) = false → begB c s = false:=fun hh=>by
      rw [begB,List.all_eq_false]
      exact ⟨i,by simpa using hlt,by rw [hh]; decide⟩
    rw [hget] at hno
    have hnext:(decide (c.latches[i].2 = 2) || decide (s.fdiv (2 ^ (c.inputs.toNat + i)) % 2 = c.latches[i].2)) = true → KE 33 (env67_0 (aI s) (.p S.n 0 0) (aI (i + 1:Nat))) S1:=fun hh=>hKE _ _ ⟨rfl,i + 1,rfl,hlt,fun j hj=>by
      rcases Nat.lt_or_ge j i with h' | h'
      · exact hok j h'
      · have:j = i:=by omega
        subst this
        rw [hget]; exact hh⟩ (by simp [intA]; omega)
    have e:c.inputs + (i:Int) = ((c.inputs.toNat + i:Nat):Int):=by omega
    rw [shift_p,ld1_p o1 rfl rfl,ixS_pL hlt,shift_q,ld1_qj (u:=aI c.latches[i].2) rfl,bin_neq,onB_v]
    generalize c.latches[i] = x at *
    refine gd_of (fun h4=>?_) (fun h4=>?_)
    · have h4:¬ x.2 = 2:=by simpa using h4
      have hnn:0 ≤ s.fdiv (2 ^ (c.inputs.toNat + i)):=Int.fdiv_nonneg hs (Int.le_of_lt (Int.pow_pos (by decide)))
      rw [shift_p,ld1_p o1 rfl rfl,bin_add (by omega) (by omega),e,bin_shrN (by omega),bin_rem (by decide),bin_neq,onB_v,show (s.fdiv (2 ^ (c.inputs.toNat + i))).tmod 2 = s.fdiv (2 ^ (c.inputs.toNat + i)) % 2 from Int.tmod_eq_emod_of_nonneg hnn]
      refine gd_of (fun h5=>⟨?_,k1⟩) (fun h5=>?_)
      · have h5:¬ s.fdiv (2 ^ (c.inputs.toNat + i)) % 2 = x.2:=by simpa using h5
        rw [hno (by simp only [h4,h5,decide_false,Bool.or_self])]
      · have h5:s.fdiv (2 ^ (c.inputs.toNat + i)) % 2 = x.2:=by simpa using h5
        rw [hadd]
        exact hnext (by simp only [h5,decide_true,Bool.or_true])
    · have h4:x.2 = 2:=by simpa using h4
      rw [hadd]
      exact hnext (by simp only [h4,decide_true,Bool.true_or])
  · have hge:i = c.latches.length:=by simp at hge; omega
    subst hge
    refine ⟨?_,k1⟩
    have:begB c s = true:=by
      rw [begB,List.all_eq_true]
      exact fun j hj=>hok j (by simpa using hj)
    rw [this]
theorem vals_get {c:Ci} {s:Nat} (hs:s < 2 ^ c.gr.inputs.toNat):(valsOf c).getD s [] = allB c.gr (bitsL s c.gr.inputs.toNat):=by
  simp [valsOf,List.getD_eq_getElem?_getD,hs]
theorem isB_eq {c:Ci} (h:c.right = true) (h10:c.gr.inputs ≤ 60) {s:Nat} (hs:s < 2 ^ c.gr.inputs.toNat) {l:Int} (hl:c.gr.lit l = true):isB c s l = litB ((valsOf c).getD s []) l:=by
  have hv:=vals_len h hs
  rw [vals_get hs] at hv ⊢
  obtain ⟨g1,g2,g3⟩:=gr_inp h
  have hpos:0 < (allB c.gr (bitsL s c.gr.inputs.toNat)).length:=by
    have:1 ≤ c.gr.vars:=by unfold Gr.vars; omega
    omega
  simp only [isB,h,Bool.true_and,h10,decide_true,Gr.eval,hpos,hl]
theorem valid_eq {c:Ci} (h:c.right = true) (h10:c.gr.inputs ≤ 60) {s:Nat} (hs:s < 2 ^ c.gr.inputs.toNat) {l:List Int} (hl:l.all c.gr.lit = true):l.all (isB c s) = l.all (litB ((valsOf c).getD s [])):=by
  have:=List.all_eq_true.1 hl
  clear hl
  induction l with
  | nil=>rfl
  | cons a l ih =>
    rw [List.all_cons,List.all_cons,isB_eq h h10 hs (this a (by simp)),ih fun x hx=>this x (by simp [hx])]
theorem afterTo_eq {c:Ci} (h:c.right = true) (h10:c.gr.inputs ≤ 60) {s:Nat} (hs:s < 2 ^ c.gr.inputs.toNat):∀ {i:Nat},i ≤ c.latches.length → afterTo c s i = afterV c ((valsOf c).getD s []) i
  | 0,_=>rfl
  | i + 1,hi=>by
    have hlt:i < c.latches.length:=hi
    have hget:c.latches.getD i (0,0) = c.latches[i]:=by simp [List.getD_eq_getElem?_getD,hlt]
    have hlit:c.gr.lit c.latches[i].1 = true:=by
      have:=List.all_eq_true.1 (right_c.1 h).2.2.2.2.2.2.2.1 _ (List.getElem_mem hlt)
      simp only [latOk,Bool.and_eq_true] at this
      exact this.1
    rw [afterTo,afterV,afterTo_eq h h10 hs (by omega),hget,isB_eq h h10 hs hlit]
theorem afterB_eq {c:Ci} (h:c.right = true) (h10:c.gr.inputs ≤ 60) {s:Nat} (hs:s < 2 ^ c.gr.inputs.toNat):afterB c s = afterV c ((valsOf c).getD s []) c.latches.length:=by
  rw [afterB,h,decide_eq_true h10,Bool.true_and,if_pos rfl,afterTo_eq h h10 hs (Nat.le_refl _)]
inductive Fo where
  | mk (kind:Int) (name:ByteArray) (lit:Int) (kids:List Fo)
def Fo.kind:Fo → Int | .mk k _ _ _=>k
theorem Fo.ind {P:Fo → Prop} (h:∀ k n l ks,(∀ f ∈ ks,P f) → P (.mk k n l ks)) (f:Fo):P f :=
  Fo.rec (motive_1:=P) (motive_2:=fun l=>∀ f ∈ l,P f) (fun k n l ks ih=>h k n l ks ih) (fun f hf=>by cases hf)
    (fun a l ha hl f hf=>by
      rcases List.mem_cons.1 hf with rfl | hf
      · exact ha
      · exact hl f hf) f
mutual
def Fo.row:Fo → List AV
  | .mk k n l ks=>[aI k,.v (.string n),aI l,.l (Fo.rows ks)]
def Fo.rows:List Fo → List (List AV)
  | []=>[]
  | f :: fs=>Fo.row f :: Fo.rows fs
end
def foL (l:List Fo):AV:=.l (l.map Fo.row)
theorem Fo.rows_map:∀ l:List Fo,Fo.rows l = l.map Fo.row
  | []=>by rw [Fo.rows]; rfl
  | f :: fs=>by rw [Fo.rows,Fo.rows_map fs]; rfl
theorem Fo.row_mk (k:Int) (n:ByteArray) (l:Int) (ks:List Fo):Fo.row (.mk k n l ks) = [aI k,.v (.string n),aI l,foL ks]:=by rw [Fo.row,Fo.rows_map]; rfl
def Fo.av (f:Fo):AV:=.a f.row
theorem Fo.row_len (f:Fo):f.row.length = 4:=by cases f; rw [Fo.row_mk]; rfl
inductive Fo.ok:Fo → Prop
  | mk (k:Int) (n:ByteArray) (l:Int) (ks:List Fo) (h1:i64R k) (h2:i64R l) (h3:n.size ≤ 9223372036854775807) (h4:ks.length ≤ 1000000) (h:∀ f ∈ ks,Fo.ok f):Fo.ok (.mk k n l ks)
def kidsN (k:Int):Int:=if k < 1 ∨ 18 < k then -1 else if k ≤ 3 then 0 else if k = 4 ∨ 9 ≤ k ∧ k ≤ 14 then 1 else 2
mutual
def Fo.mayB:Fo → Int → Bool
  | .mk k n l ks,d=>decide (0 < d) && (decide (l = 0 ∨ 0 < l ∧ k = 3) && (decide (n = (⟨#[]⟩:ByteArray)) && (decide ((ks.length:Int) = kidsN k) && Fo.mayBs ks (d - 1))))
def Fo.mayBs:List Fo → Int → Bool
  | [],_=>true
  | f :: fs,d=>Fo.mayB f d && Fo.mayBs fs d
end
theorem Fo.mayBs_all:∀ (l:List Fo) (d:Int),Fo.mayBs l d = l.all fun f=>f.mayB d
  | [],d=>by rw [Fo.mayBs]; rfl
  | f :: fs,d=>by rw [Fo.mayBs,Fo.mayBs_all fs]; rfl
theorem Fo.mayB_mk (k:Int) (n:ByteArray) (l:Int) (ks:List Fo) (d:Int):Fo.mayB (.mk k n l ks) d = (decide (0 < d) && (decide (l = 0 ∨ 0 < l ∧ k = 3) && (decide (n = (⟨#[]⟩:ByteArray)) && (decide ((ks.length:Int) = kidsN k) && ks.all fun f=>f.mayB (d - 1))))):=by rw [Fo.mayB,Fo.mayBs_all]
mutual
def Fo.litsB (g:Gr):Fo → Bool
  | .mk k _ l ks=>(decide (k ≠ 3) || g.lit l) && Fo.litsBs g ks
def Fo.litsBs (g:Gr):List Fo → Bool
  | []=>true
  | f :: fs=>Fo.litsB g f && Fo.litsBs g fs
end
theorem Fo.litsBs_all (g:Gr):∀ (l:List Fo),Fo.litsBs g l = l.all fun f=>f.litsB g
  | []=>by rw [Fo.litsBs]; rfl
  | f :: fs=>by rw [Fo.litsBs,Fo.litsBs_all g fs]; rfl
theorem Fo.litsB_mk (g:Gr) (k:Int) (n:ByteArray) (l:Int) (ks:List Fo):Fo.litsB g (.mk k n l ks) = ((decide (k ≠ 3) || g.lit l) && ks.all fun f=>f.litsB g):=by rw [Fo.litsB,Fo.litsBs_all]
noncomputable def mayC (c:Ci) (f:Fo):Bool:=c.right && (f.mayB 60 && f.litsB c.gr)
@[simp] theorem lenS_foL (l:List Fo) {S:Store} {K:AV → Store → Prop}:lenS (foL l) S K = K (aI l.length) S:=by simp [foL]
theorem ixS_foL {l:List Fo} {e i:Nat} {S:Store} {K:AV → Store → Prop} (h:i < l.length):ixS e 4 (foL l) (aI i) S K = K (.q l[i].row 0) S:=by
  unfold foL
  rw [ixS_l (by simpa using h) (by simp [Fo.row_len])]
  simp
theorem ldN_q {c:List AV} {n:Nat} {S:Store} {K:AV → Store → Prop} (h:c.length = n):ldN n (.q c 0) S K = K (.a c) S:=by
  subst h
  simp [ldN,rdN,place]
end Go.Proofs.YtolgpokppnajdaaGreat.G
set_option linter.unusedVariables false
set_option linter.unusedSimpArgs false
namespace Go.Proofs.YtolgpokppnajdaaGreat.G
open Go Go.Ab
set_option maxRecDepth 100000
noncomputable def c39:Code:=(Tryz.f39.body).getD .skip
noncomputable def r39:List ResultVar:=Tryz.f39.results.toList
def env39_0 (y0 y1 y5 y6:AV):List AV:=[y0,y1,y5,y6]
def lv39_0:List Nat:=[0,1,5,6]
def ms39:List (List Nat):=[lv39_0,[]]
def m39 (x0 x1:AV) (S:Store) (Q:PoT):Prop :=
  loopV lv39_0 (vc Tryz.prog (c39.at_ [1,1,0,1,0,0]) (ms39.drop 1)) 27 (env39_0 x0 x1 .nl (.v (.int .i64 0))) S (blockK 0 (seqK (vc Tryz.prog (c39.at_ [1,1,1]) (ms39.drop 1)) (bodyK Tryz.prog r39 Q)))
theorem calls39 {x0 x1:AV} {S:Store} {Q:PoT} (h:m39 x0 x1 S Q):ACalls Tryz.prog 39 [x0,x1] S Q :=
  calls_of_vc (fn:=Tryz.f39) (c:=c39) (n:=27) Tryz.func39 (by kernel_rfl) (by kernel_rfl) (by kernel_rfl) ms39 (Eq.mpr (by kernel_rfl) h)
def b39_0 (y0 y1 y5 y6:AV) (S:Store) (KE0:KeT) (Q:PoT):Prop :=
  lenS y0 S fun v1 S=>bin .lss 0 y6 v1 S fun v2 S=>onB v2 fun b3=>gd b3 (ixS 4 1 y0 y6 S fun v4 S=>ld1 v4 S fun v5 S=>onB v5 fun b6=>gd b6 (ixS 4 1 y1 y6 S fun v7 S=>ld1 v7 S fun v8 S=>bslN 4 1 1 [(.v (.bool false))] [(0,v8)] S fun v9 S=>appS 4 1 1 y5 v9 S fun v10 S=>bin .add 0 y6 (.v (.int .i64 1)) S fun v11 S=>KE0 27 (env39_0 y0 y1 v10 v11) S) (bslN 4 1 1 [(.v (.bool false))] [(0,(.v (.bool false)))] S fun v12 S=>appS 4 1 1 y5 v12 S fun v13 S=>bin .add 0 y6 (.v (.int .i64 1)) S fun v14 S=>KE0 27 (env39_0 y0 y1 v13 v14) S)) (Q (.ret y5) S)
theorem b39_0_eq (y0 y1 y5 y6:AV) (S:Store) (KE0:KeT) (Q:PoT):vc Tryz.prog (c39.at_ [1,1,0,1,0,0]) (ms39.drop 1) (mkE 27 lv39_0 (env39_0 y0 y1 y5 y6)) S (thenK (fgK lv39_0 KE0) (blockK 0 (seqK (vc Tryz.prog (c39.at_ [1,1,1]) (ms39.drop 1)) (bodyK Tryz.prog r39 Q)))) = b39_0 y0 y1 y5 y6 S KE0 Q:=by kernel_rfl
theorem loop39_0 {y0 y1:AV} {y50 y60:AV} {S:Store} {Q:PoT} (I:AV → AV → Store → Prop) (μ:AV → AV → Store → Nat) (h0:I y50 y60 S)
    (hr:∀ (y5 y6:AV) (S:Store),I y5 y6 S → ∀ KE0:KeT,(∀ (y5' y6':AV) (S':Store),I y5' y6' S' → μ y5' y6' S' < μ y5 y6 S → KE0 27 (env39_0 y0 y1 y5' y6') S') → b39_0 y0 y1 y5 y6 S KE0 Q) :
    loopV lv39_0 (vc Tryz.prog (c39.at_ [1,1,0,1,0,0]) (ms39.drop 1)) 27 (env39_0 y0 y1 y50 y60) S (blockK 0 (seqK (vc Tryz.prog (c39.at_ [1,1,1]) (ms39.drop 1)) (bodyK Tryz.prog r39 Q))):=by
  refine ⟨fun n e S=>n = 27 ∧ ∃ y5 y6:AV,e = (env39_0 y0 y1 y5 y6) ∧ I y5 y6 S,fun _ e S=>μ (e.getD 2 .j) (e.getD 3 .j) S,?_,?_⟩
  · exact ⟨_,_,Wk.refl _ _,rfl,_,_,rfl,h0⟩
  · rintro _ e S ⟨rfl,y5,y6,rfl,hI⟩
    exact (b39_0_eq _ _ _ _ _ _ _).mpr (hr y5 y6 S hI _ (fun y5' y6' S' hI' hm=>⟨_,_,Wk.refl _ _,⟨rfl,_,_,rfl,hI'⟩,hm⟩))
noncomputable def c29:Code:=(Tryz.f29.body).getD .skip
noncomputable def r29:List ResultVar:=Tryz.f29.results.toList
def env29_0 (y0 y1 y5:AV):List AV:=[y0,y1,y5]
def lv29_0:List Nat:=[0,1,5]
def ms29:List (List Nat):=[lv29_0,[]]
def m29 (x0 x1:AV) (S:Store) (Q:PoT):Prop :=
  lenS x0 S fun v1 S=>lenS x1 S fun v2 S=>bin .neq 0 v1 v2 S fun v3 S=>onB v3 fun b4=>gd b4 (Q (.ret (.v (.bool false))) S) (loopV lv29_0 (vc Tryz.prog (c29.at_ [1,1,0,1,0,0]) (ms29.drop 1)) 26 (env29_0 x0 x1 (.v (.int .i64 0))) S (blockK 0 (seqK (vc Tryz.prog (c29.at_ [1,1,1]) (ms29.drop 1)) (bodyK Tryz.prog r29 Q))))
theorem calls29 {x0 x1:AV} {S:Store} {Q:PoT} (h:m29 x0 x1 S Q):ACalls Tryz.prog 29 [x0,x1] S Q :=
  calls_of_vc (fn:=Tryz.f29) (c:=c29) (n:=26) Tryz.func29 (by kernel_rfl) (by kernel_rfl) (by kernel_rfl) ms29 (Eq.mpr (by kernel_rfl) h)
def b29_0 (y0 y1 y5:AV) (S:Store) (KE0:KeT) (Q:PoT):Prop :=
  lenS y0 S fun v5 S=>bin .lss 0 y5 v5 S fun v6 S=>onB v6 fun b7=>gd b7 ((fun S0:Store=>∃ q8:AV,(ixS 4 1 y0 y5 S fun v9 S=>v9 = q8 ∧ S = S0) ∧ ∃ q10:AV,(ld1 q8 S fun v11 S=>v11 = q10 ∧ S = S0) ∧ ∃ q12:AV,(ixS 4 1 y1 y5 S fun v13 S=>v13 = q12 ∧ S = S0) ∧ ∃ q14:AV,(ld1 q12 S fun v15 S=>v15 = q14 ∧ S = S0) ∧ ∃ q16:AV,(bin .neq 1 q10 q14 S fun v17 S=>v17 = q16 ∧ S = S0) ∧ onB q16 fun b18=>gd b18 (Q (.ret (.v (.bool false))) S) (bin .add 0 y5 (.v (.int .i64 1)) S fun v19 S=>KE0 26 (env29_0 y0 y1 v19) S)) S) (Q (.ret (.v (.bool true))) S)
theorem b29_0_eq (y0 y1 y5:AV) (S:Store) (KE0:KeT) (Q:PoT):vc Tryz.prog (c29.at_ [1,1,0,1,0,0]) (ms29.drop 1) (mkE 26 lv29_0 (env29_0 y0 y1 y5)) S (thenK (fgK lv29_0 KE0) (blockK 0 (seqK (vc Tryz.prog (c29.at_ [1,1,1]) (ms29.drop 1)) (bodyK Tryz.prog r29 Q)))) = b29_0 y0 y1 y5 S KE0 Q:=by kernel_rfl
theorem loop29_0 {y0 y1:AV} {y50:AV} {S:Store} {Q:PoT} (I:AV → Store → Prop) (μ:AV → Store → Nat) (h0:I y50 S)
    (hr:∀ (y5:AV) (S:Store),I y5 S → ∀ KE0:KeT,(∀ (y5':AV) (S':Store),I y5' S' → μ y5' S' < μ y5 S → KE0 26 (env29_0 y0 y1 y5') S') → b29_0 y0 y1 y5 S KE0 Q) :
    loopV lv29_0 (vc Tryz.prog (c29.at_ [1,1,0,1,0,0]) (ms29.drop 1)) 26 (env29_0 y0 y1 y50) S (blockK 0 (seqK (vc Tryz.prog (c29.at_ [1,1,1]) (ms29.drop 1)) (bodyK Tryz.prog r29 Q))):=by
  refine ⟨fun n e S=>n = 26 ∧ ∃ y5:AV,e = (env29_0 y0 y1 y5) ∧ I y5 S,fun _ e S=>μ (e.getD 2 .j) S,?_,?_⟩
  · exact ⟨_,_,Wk.refl _ _,rfl,_,rfl,h0⟩
  · rintro _ e S ⟨rfl,y5,rfl,hI⟩
    exact (b29_0_eq _ _ _ _ _ _).mpr (hr y5 S hI _ (fun y5' S' hI' hm=>⟨_,_,Wk.refl _ _,⟨rfl,_,rfl,hI'⟩,hm⟩))
noncomputable def c177:Code:=(Tryz.f177.body).getD .skip
noncomputable def r177:List ResultVar:=Tryz.f177.results.toList
def env177_0 (y2 y5 y6:AV):List AV:=[y2,y5,y6]
def lv177_0:List Nat:=[2,5,6]
def env177_1 (y2 y5 y6 y7 y23 y24 y25:AV):List AV:=[y2,y5,y6,y7,y23,y24,y25]
def lv177_1:List Nat:=[2,5,6,7,23,24,25]
def ms177:List (List Nat):=[lv177_0,lv177_1,[]]
def m177 (x0 x1:AV) (S:Store) (Q:PoT):Prop :=
  boxN 71 5 x0 S fun v1 S=>shift v1 4 S fun v2 S=>ld1 v2 S fun v3 S=>lenS v3 S fun v4 S=>bin .eql 0 v4 (.v (.int .i64 0)) S fun v5 S=>onB v5 fun b6=>gd b6 (shift v1 1 S fun v7 S=>ld1 v7 S fun v8 S=>bslN 53 1 1 [.nl] [(0,v8)] S fun v9 S=>shift v1 1 S fun v10 S=>ld1 v10 S fun v11 S=>callF Tryz.prog 191 [x1,v11] S Q fun v12 S=>loopV lv177_0 (vc Tryz.prog (c177.at_ [1,0,1,1,1,1,0,0,0]) (ms177.drop 1)) 47 (env177_0 v1 v9 v12) S (blockK 0 (seqK (vc Tryz.prog (c177.at_ [1,0,1,1,1,1,1]) (ms177.drop 2)) (scopeK (bodyK Tryz.prog r177 Q))))) (shift v1 1 S fun v13 S=>ld1 v13 S fun v14 S=>callF Tryz.prog 191 [x1,v14] S Q fun v15 S=>loopV lv177_0 (vc Tryz.prog (c177.at_ [1,0,1,1,1,1,0,0,0]) (ms177.drop 1)) 47 (env177_0 v1 v3 v15) S (blockK 0 (seqK (vc Tryz.prog (c177.at_ [1,0,1,1,1,1,1]) (ms177.drop 2)) (scopeK (bodyK Tryz.prog r177 Q)))))
theorem calls177 {x0 x1:AV} {S:Store} {Q:PoT} (h:m177 x0 x1 S Q):ACalls Tryz.prog 177 [x0,x1] S Q :=
  calls_of_vc (fn:=Tryz.f177) (c:=c177) (n:=47) Tryz.func177 (by kernel_rfl) (by kernel_rfl) (by kernel_rfl) ms177 (Eq.mpr (by kernel_rfl) h)
def b177_0 (y2 y5 y6:AV) (S:Store) (KE0:KeT) (Q:PoT):Prop :=
  lenS y5 S fun v16 S=>loopV lv177_1 (vc Tryz.prog (c177.at_ [1,0,1,1,1,1,0,0,0,0,1,0,1,0,0]) (ms177.drop 2)) 47 (env177_1 y2 y5 y6 y6 y5 v16 (.v (.int .i64 0))) S (blockK 2 (seqK (vc Tryz.prog (c177.at_ [1,0,1,1,1,1,0,0,0,0,1,1]) (ms177.drop 2)) (blockK 1 (thenK (fgK lv177_0 KE0) (blockK 0 (seqK (vc Tryz.prog (c177.at_ [1,0,1,1,1,1,1]) (ms177.drop 2)) (scopeK (bodyK Tryz.prog r177 Q))))))))
theorem b177_0_eq (y2 y5 y6:AV) (S:Store) (KE0:KeT) (Q:PoT):vc Tryz.prog (c177.at_ [1,0,1,1,1,1,0,0,0]) (ms177.drop 1) (mkE 47 lv177_0 (env177_0 y2 y5 y6)) S (thenK (fgK lv177_0 KE0) (blockK 0 (seqK (vc Tryz.prog (c177.at_ [1,0,1,1,1,1,1]) (ms177.drop 2)) (scopeK (bodyK Tryz.prog r177 Q))))) = b177_0 y2 y5 y6 S KE0 Q:=by kernel_rfl
theorem loop177_0 {y2 y5:AV} {y60:AV} {S:Store} {Q:PoT} (I:AV → Store → Prop) (μ:AV → Store → Nat) (h0:I y60 S)
    (hr:∀ (y6:AV) (S:Store),I y6 S → ∀ KE0:KeT,(∀ (y6':AV) (S':Store),I y6' S' → μ y6' S' < μ y6 S → KE0 47 (env177_0 y2 y5 y6') S') → b177_0 y2 y5 y6 S KE0 Q) :
    loopV lv177_0 (vc Tryz.prog (c177.at_ [1,0,1,1,1,1,0,0,0]) (ms177.drop 1)) 47 (env177_0 y2 y5 y60) S (blockK 0 (seqK (vc Tryz.prog (c177.at_ [1,0,1,1,1,1,1]) (ms177.drop 2)) (scopeK (bodyK Tryz.prog r177 Q)))):=by
  refine ⟨fun n e S=>n = 47 ∧ ∃ y6:AV,e = (env177_0 y2 y5 y6) ∧ I y6 S,fun _ e S=>μ (e.getD 2 .j) S,?_,?_⟩
  · exact ⟨_,_,Wk.refl _ _,rfl,_,rfl,h0⟩
  · rintro _ e S ⟨rfl,y6,rfl,hI⟩
    exact (b177_0_eq _ _ _ _ _ _).mpr (hr y6 S hI _ (fun y6' S' hI' hm=>⟨_,_,Wk.refl _ _,⟨rfl,_,rfl,hI'⟩,hm⟩))
def b177_1 (y2 y5 y6 y7 y23 y24 y25:AV) (S:Store) (KE1:KeT) (KE0:KeT) (Q:PoT):Prop :=
  bin .lss 0 y25 y24 S fun v17 S=>onB v17 fun b18=>gd b18 (ixS 53 1 y23 y25 S fun v19 S=>ld1 v19 S fun v20 S=>(fun S0:Store=>∃ q21:AV,(ldN 5 y2 S fun v22 S=>v22 = q21 ∧ S = S0) ∧ ∃ q23:AV,(ldN 5 y2 S fun v24 S=>v24 = q23 ∧ S = S0) ∧ ∃ q25:AV,(callF Tryz.prog 191 [y6,v20] S (fun _ _=>False) fun v26 S=>v26 = q25 ∧ S = S0) ∧ ∃ q27:AV,(callF Tryz.prog 193 [q23,y6,q25] S (fun _ _=>False) fun v28 S=>v28 = q27 ∧ S = S0) ∧ ∃ q29:AV,(callF Tryz.prog 192 [q21,q27] S (fun _ _=>False) fun v30 S=>v30 = q29 ∧ S = S0) ∧ ∃ q31:AV,(callF Tryz.prog 191 [y6,q29] S (fun _ _=>False) fun v32 S=>v32 = q31 ∧ S = S0) ∧ callF Tryz.prog 194 [q31,(.v (.bool true))] S Q fun v33 S=>un .not v33 S fun v34 S=>onB v34 fun b35=>gd b35 (Q (.ret q31) S) (bin .add 0 y25 (.v (.int .i64 1)) S fun v36 S=>KE1 47 (env177_1 y2 y5 q31 y7 y23 y24 v36) S)) S) (callF Tryz.prog 195 [y7,y6] S Q fun v37 S=>onB v37 fun b38=>gd b38 (Q (.ret y6) S) (KE0 47 (env177_0 y2 y5 y6) S))
theorem b177_1_eq (y2 y5 y6 y7 y23 y24 y25:AV) (S:Store) (KE1:KeT) (KE0:KeT) (Q:PoT):vc Tryz.prog (c177.at_ [1,0,1,1,1,1,0,0,0,0,1,0,1,0,0]) (ms177.drop 2) (mkE 47 lv177_1 (env177_1 y2 y5 y6 y7 y23 y24 y25)) S (thenK (fgK lv177_1 KE1) (blockK 2 (seqK (vc Tryz.prog (c177.at_ [1,0,1,1,1,1,0,0,0,0,1,1]) (ms177.drop 2)) (blockK 1 (thenK (fgK lv177_0 KE0) (blockK 0 (seqK (vc Tryz.prog (c177.at_ [1,0,1,1,1,1,1]) (ms177.drop 2)) (scopeK (bodyK Tryz.prog r177 Q))))))))) = b177_1 y2 y5 y6 y7 y23 y24 y25 S KE1 KE0 Q:=by kernel_rfl
theorem loop177_1 {y2 y5 y7 y23 y24:AV} {y60 y250:AV} {S:Store} {KE0:KeT} {Q:PoT} (I:AV → AV → Store → Prop) (μ:AV → AV → Store → Nat) (h0:I y60 y250 S)
    (hr:∀ (y6 y25:AV) (S:Store),I y6 y25 S → ∀ KE1:KeT,(∀ (y6' y25':AV) (S':Store),I y6' y25' S' → μ y6' y25' S' < μ y6 y25 S → KE1 47 (env177_1 y2 y5 y6' y7 y23 y24 y25') S') → b177_1 y2 y5 y6 y7 y23 y24 y25 S KE1 KE0 Q) :
    loopV lv177_1 (vc Tryz.prog (c177.at_ [1,0,1,1,1,1,0,0,0,0,1,0,1,0,0]) (ms177.drop 2)) 47 (env177_1 y2 y5 y60 y7 y23 y24 y250) S (blockK 2 (seqK (vc Tryz.prog (c177.at_ [1,0,1,1,1,1,0,0,0,0,1,1]) (ms177.drop 2)) (blockK 1 (thenK (fgK lv177_0 KE0) (blockK 0 (seqK (vc Tryz.prog (c177.at_ [1,0,1,1,1,1,1]) (ms177.drop 2)) (scopeK (bodyK Tryz.prog r177 Q)))))))):=by
  refine ⟨fun n e S=>n = 47 ∧ ∃ y6 y25:AV,e = (env177_1 y2 y5 y6 y7 y23 y24 y25) ∧ I y6 y25 S,fun _ e S=>μ (e.getD 2 .j) (e.getD 6 .j) S,?_,?_⟩
  · exact ⟨_,_,Wk.refl _ _,rfl,_,_,rfl,h0⟩
  · rintro _ e S ⟨rfl,y6,y25,rfl,hI⟩
    exact (b177_1_eq _ _ _ _ _ _ _ _ _ _ _).mpr (hr y6 y25 S hI _ (fun y6' y25' S' hI' hm=>⟨_,_,Wk.refl _ _,⟨rfl,_,_,rfl,hI'⟩,hm⟩))
noncomputable def c210:Code:=(Tryz.f210.body).getD .skip
def ms210:List (List Nat):=[[]]
def m210 (x0 x1:AV) (S:Store) (Q:PoT):Prop :=
  boxN 71 5 x0 S fun v1 S=>ldN 5 v1 S fun v2 S=>bslN 53 1 1 [.nl] [(0,x1)] S fun v3 S=>callF Tryz.prog 176 [v2,v3] S Q fun v4 S=>un .not v4 S fun v5 S=>onB v5 fun b6=>gd b6 (Q (.ret .nl) S) (ldN 5 v1 S fun v7 S=>callF Tryz.prog 192 [v7,x1] S Q fun v8 S=>Q (.ret v8) S)
theorem calls210 {x0 x1:AV} {S:Store} {Q:PoT} (h:m210 x0 x1 S Q):ACalls Tryz.prog 210 [x0,x1] S Q :=
  calls_of_vc (fn:=Tryz.f210) (c:=c210) (n:=13) Tryz.func210 (by kernel_rfl) (by kernel_rfl) (by kernel_rfl) ms210 (Eq.mpr (by kernel_rfl) h)
noncomputable def c162:Code:=(Tryz.f162.body).getD .skip
def ms162:List (List Nat):=[[]]
def m162 (x0 x1:AV) (S:Store) (Q:PoT):Prop :=
  boxN 71 5 x0 S fun v1 S=>ldN 5 v1 S fun v2 S=>bslN 53 1 1 [.nl] [(0,x1)] S fun v3 S=>callF Tryz.prog 176 [v2,v3] S Q fun v4 S=>un .not v4 S fun v5 S=>onB v5 fun b6=>gd b6 (Q (.ret .nl) S) (ldN 5 v1 S fun v7 S=>callF Tryz.prog 177 [v7,x1] S Q fun v8 S=>Q (.ret v8) S)
theorem calls162 {x0 x1:AV} {S:Store} {Q:PoT} (h:m162 x0 x1 S Q):ACalls Tryz.prog 162 [x0,x1] S Q :=
  calls_of_vc (fn:=Tryz.f162) (c:=c162) (n:=13) Tryz.func162 (by kernel_rfl) (by kernel_rfl) (by kernel_rfl) ms162 (Eq.mpr (by kernel_rfl) h)
noncomputable def c211:Code:=(Tryz.f211.body).getD .skip
def ms211:List (List Nat):=[[]]
def m211 (x0 x1 x2:AV) (S:Store) (Q:PoT):Prop :=
  boxN 71 5 x0 S fun v1 S=>ldN 5 v1 S fun v2 S=>bslN 53 1 2 [.nl] [(0,x1),(1,x2)] S fun v3 S=>callF Tryz.prog 176 [v2,v3] S Q fun v4 S=>un .not v4 S fun v5 S=>onB v5 fun b6=>gd b6 (Q (.ret .nl) S) (ldN 5 v1 S fun v7 S=>callF Tryz.prog 193 [v7,x1,x2] S Q fun v8 S=>Q (.ret v8) S)
theorem calls211 {x0 x1 x2:AV} {S:Store} {Q:PoT} (h:m211 x0 x1 x2 S Q):ACalls Tryz.prog 211 [x0,x1,x2] S Q :=
  calls_of_vc (fn:=Tryz.f211) (c:=c211) (n:=17) Tryz.func211 (by kernel_rfl) (by kernel_rfl) (by kernel_rfl) ms211 (Eq.mpr (by kernel_rfl) h)
noncomputable def c209:Code:=(Tryz.f209.body).getD .skip
noncomputable def r209:List ResultVar:=Tryz.f209.results.toList
def env209_0 (y0 y1 y7 y8:AV):List AV:=[y0,y1,y7,y8]
def lv209_0:List Nat:=[0,1,7,8]
def ms209:List (List Nat):=[lv209_0,[]]
def m209 (x0 x1:AV) (S:Store) (Q:PoT):Prop :=
  lenS x0 S fun v1 S=>loopV lv209_0 (vc Tryz.prog (c209.at_ [1,0,1,0,0]) (ms209.drop 1)) 19 (env209_0 x0 x1 v1 (.v (.int .i64 0))) S (blockK 0 (seqK (vc Tryz.prog (c209.at_ [1,1]) (ms209.drop 1)) (bodyK Tryz.prog r209 Q)))
theorem calls209 {x0 x1:AV} {S:Store} {Q:PoT} (h:m209 x0 x1 S Q):ACalls Tryz.prog 209 [x0,x1] S Q :=
  calls_of_vc (fn:=Tryz.f209) (c:=c209) (n:=19) Tryz.func209 (by kernel_rfl) (by kernel_rfl) (by kernel_rfl) ms209 (Eq.mpr (by kernel_rfl) h)
def b209_0 (y0 y1 y7 y8:AV) (S:Store) (KE0:KeT) (Q:PoT):Prop :=
  bin .lss 0 y8 y7 S fun v2 S=>onB v2 fun b3=>gd b3 (ixS 4 1 y0 y8 S fun v4 S=>ld1 v4 S fun v5 S=>bin .eql 1 y1 v5 S fun v6 S=>onB v6 fun b7=>gd b7 (Q (.ret y8) S) (bin .add 0 y8 (.v (.int .i64 1)) S fun v8 S=>KE0 19 (env209_0 y0 y1 y7 v8) S)) (Q (.ret (.v (.int .i64 (-1)))) S)
theorem b209_0_eq (y0 y1 y7 y8:AV) (S:Store) (KE0:KeT) (Q:PoT):vc Tryz.prog (c209.at_ [1,0,1,0,0]) (ms209.drop 1) (mkE 19 lv209_0 (env209_0 y0 y1 y7 y8)) S (thenK (fgK lv209_0 KE0) (blockK 0 (seqK (vc Tryz.prog (c209.at_ [1,1]) (ms209.drop 1)) (bodyK Tryz.prog r209 Q)))) = b209_0 y0 y1 y7 y8 S KE0 Q:=by kernel_rfl
theorem loop209_0 {y0 y1 y7:AV} {y80:AV} {S:Store} {Q:PoT} (I:AV → Store → Prop) (μ:AV → Store → Nat) (h0:I y80 S)
    (hr:∀ (y8:AV) (S:Store),I y8 S → ∀ KE0:KeT,(∀ (y8':AV) (S':Store),I y8' S' → μ y8' S' < μ y8 S → KE0 19 (env209_0 y0 y1 y7 y8') S') → b209_0 y0 y1 y7 y8 S KE0 Q) :
    loopV lv209_0 (vc Tryz.prog (c209.at_ [1,0,1,0,0]) (ms209.drop 1)) 19 (env209_0 y0 y1 y7 y80) S (blockK 0 (seqK (vc Tryz.prog (c209.at_ [1,1]) (ms209.drop 1)) (bodyK Tryz.prog r209 Q))):=by
  refine ⟨fun n e S=>n = 19 ∧ ∃ y8:AV,e = (env209_0 y0 y1 y7 y8) ∧ I y8 S,fun _ e S=>μ (e.getD 3 .j) S,?_,?_⟩
  · exact ⟨_,_,Wk.refl _ _,rfl,_,rfl,h0⟩
  · rintro _ e S ⟨rfl,y8,rfl,hI⟩
    exact (b209_0_eq _ _ _ _ _ _ _).mpr (hr y8 S hI _ (fun y8' S' hI' hm=>⟨_,_,Wk.refl _ _,⟨rfl,_,rfl,hI'⟩,hm⟩))
noncomputable def c194:Code:=(Tryz.f194.body).getD .skip
def ms194:List (List Nat):=[[]]
def m194 (x0 x1:AV) (S:Store) (Q:PoT):Prop :=
  callF Tryz.prog 209 [x0,x1] S Q fun v1 S=>bin .geq 0 v1 (.v (.int .i64 0)) S fun v2 S=>Q (.ret v2) S
theorem calls194 {x0 x1:AV} {S:Store} {Q:PoT} (h:m194 x0 x1 S Q):ACalls Tryz.prog 194 [x0,x1] S Q :=
  calls_of_vc (fn:=Tryz.f194) (c:=c194) (n:=9) Tryz.func194 (by kernel_rfl) (by kernel_rfl) (by kernel_rfl) ms194 (Eq.mpr (by kernel_rfl) h)
noncomputable def c195:Code:=(Tryz.f195.body).getD .skip
noncomputable def r195:List ResultVar:=Tryz.f195.results.toList
def env195_0 (y0 y1 y12 y13:AV):List AV:=[y0,y1,y12,y13]
def lv195_0:List Nat:=[0,1,12,13]
def ms195:List (List Nat):=[lv195_0,[]]
def m195 (x0 x1:AV) (S:Store) (Q:PoT):Prop :=
  lenS x0 S fun v1 S=>lenS x1 S fun v2 S=>bin .neq 0 v1 v2 S fun v3 S=>onB v3 fun b4=>gd b4 (Q (.ret (.v (.bool false))) S) (lenS x0 S fun v5 S=>loopV lv195_0 (vc Tryz.prog (c195.at_ [1,1,0,1,0,0]) (ms195.drop 1)) 26 (env195_0 x0 x1 v5 (.v (.int .i64 0))) S (blockK 0 (seqK (vc Tryz.prog (c195.at_ [1,1,1]) (ms195.drop 1)) (bodyK Tryz.prog r195 Q))))
theorem calls195 {x0 x1:AV} {S:Store} {Q:PoT} (h:m195 x0 x1 S Q):ACalls Tryz.prog 195 [x0,x1] S Q :=
  calls_of_vc (fn:=Tryz.f195) (c:=c195) (n:=26) Tryz.func195 (by kernel_rfl) (by kernel_rfl) (by kernel_rfl) ms195 (Eq.mpr (by kernel_rfl) h)
def b195_0 (y0 y1 y12 y13:AV) (S:Store) (KE0:KeT) (Q:PoT):Prop :=
  bin .lss 0 y13 y12 S fun v6 S=>onB v6 fun b7=>gd b7 ((fun S0:Store=>∃ q8:AV,(ixS 4 1 y0 y13 S fun v9 S=>v9 = q8 ∧ S = S0) ∧ ∃ q10:AV,(ld1 q8 S fun v11 S=>v11 = q10 ∧ S = S0) ∧ ∃ q12:AV,(ixS 4 1 y1 y13 S fun v13 S=>v13 = q12 ∧ S = S0) ∧ ∃ q14:AV,(ld1 q12 S fun v15 S=>v15 = q14 ∧ S = S0) ∧ ∃ q16:AV,(bin .neq 1 q10 q14 S fun v17 S=>v17 = q16 ∧ S = S0) ∧ onB q16 fun b18=>gd b18 (Q (.ret (.v (.bool false))) S) (bin .add 0 y13 (.v (.int .i64 1)) S fun v19 S=>KE0 26 (env195_0 y0 y1 y12 v19) S)) S) (Q (.ret (.v (.bool true))) S)
theorem b195_0_eq (y0 y1 y12 y13:AV) (S:Store) (KE0:KeT) (Q:PoT):vc Tryz.prog (c195.at_ [1,1,0,1,0,0]) (ms195.drop 1) (mkE 26 lv195_0 (env195_0 y0 y1 y12 y13)) S (thenK (fgK lv195_0 KE0) (blockK 0 (seqK (vc Tryz.prog (c195.at_ [1,1,1]) (ms195.drop 1)) (bodyK Tryz.prog r195 Q)))) = b195_0 y0 y1 y12 y13 S KE0 Q:=by kernel_rfl
theorem loop195_0 {y0 y1 y12:AV} {y130:AV} {S:Store} {Q:PoT} (I:AV → Store → Prop) (μ:AV → Store → Nat) (h0:I y130 S)
    (hr:∀ (y13:AV) (S:Store),I y13 S → ∀ KE0:KeT,(∀ (y13':AV) (S':Store),I y13' S' → μ y13' S' < μ y13 S → KE0 26 (env195_0 y0 y1 y12 y13') S') → b195_0 y0 y1 y12 y13 S KE0 Q) :
    loopV lv195_0 (vc Tryz.prog (c195.at_ [1,1,0,1,0,0]) (ms195.drop 1)) 26 (env195_0 y0 y1 y12 y130) S (blockK 0 (seqK (vc Tryz.prog (c195.at_ [1,1,1]) (ms195.drop 1)) (bodyK Tryz.prog r195 Q))):=by
  refine ⟨fun n e S=>n = 26 ∧ ∃ y13:AV,e = (env195_0 y0 y1 y12 y13) ∧ I y13 S,fun _ e S=>μ (e.getD 3 .j) S,?_,?_⟩
  · exact ⟨_,_,Wk.refl _ _,rfl,_,rfl,h0⟩
  · rintro _ e S ⟨rfl,y13,rfl,hI⟩
    exact (b195_0_eq _ _ _ _ _ _ _).mpr (hr y13 S hI _ (fun y13' S' hI' hm=>⟨_,_,Wk.refl _ _,⟨rfl,_,rfl,hI'⟩,hm⟩))
noncomputable def c193:Code:=(Tryz.f193.body).getD .skip
noncomputable def r193:List ResultVar:=Tryz.f193.results.toList
def env193_0 (y1 y3 y7 y8 y19 y20 y21:AV):List AV:=[y1,y3,y7,y8,y19,y20,y21]
def lv193_0:List Nat:=[1,3,7,8,19,20,21]
def env193_1 (y1 y7 y8 y11 y12:AV):List AV:=[y1,y7,y8,y11,y12]
def lv193_1:List Nat:=[1,7,8,11,12]
def env193_2 (y1 y7 y8 y11 y12 y46 y47 y48:AV):List AV:=[y1,y7,y8,y11,y12,y46,y47,y48]
def lv193_2:List Nat:=[1,7,8,11,12,46,47,48]
def ms193:List (List Nat):=[lv193_0,lv193_1,lv193_2,[]]
def m193 (x0 x1 x2:AV) (S:Store) (Q:PoT):Prop :=
  boxN 71 5 x0 S fun v1 S=>shift v1 1 S fun v2 S=>ld1 v2 S fun v3 S=>callF Tryz.prog 191 [x2,v3] S Q fun v4 S=>lenS v4 S fun v5 S=>loopV lv193_0 (vc Tryz.prog (c193.at_ [1,1,1,0,1,0,0]) (ms193.drop 1)) 72 (env193_0 x1 v1 v4 .nl v4 v5 (.v (.int .i64 0))) S (blockK 0 (seqK (vc Tryz.prog (c193.at_ [1,1,1,1]) (ms193.drop 1)) (bodyK Tryz.prog r193 Q)))
theorem calls193 {x0 x1 x2:AV} {S:Store} {Q:PoT} (h:m193 x0 x1 x2 S Q):ACalls Tryz.prog 193 [x0,x1,x2] S Q :=
  calls_of_vc (fn:=Tryz.f193) (c:=c193) (n:=72) Tryz.func193 (by kernel_rfl) (by kernel_rfl) (by kernel_rfl) ms193 (Eq.mpr (by kernel_rfl) h)
def b193_0 (y1 y3 y7 y8 y19 y20 y21:AV) (S:Store) (KE0:KeT) (Q:PoT):Prop :=
  bin .lss 0 y21 y20 S fun v6 S=>onB v6 fun b7=>gd b7 (ixS 4 1 y19 y21 S fun v8 S=>ld1 v8 S fun v9 S=>onB v9 fun b10=>gd b10 (bslN 3 1 1 [(.v (.int .i64 0))] [(0,y21)] S fun v11 S=>appS 3 1 8 y8 v11 S fun v12 S=>bin .add 0 y21 (.v (.int .i64 1)) S fun v13 S=>KE0 72 (env193_0 y1 y3 y7 v12 y19 y20 v13) S) (bin .add 0 y21 (.v (.int .i64 1)) S fun v14 S=>KE0 72 (env193_0 y1 y3 y7 y8 y19 y20 v14) S)) (ldN 5 y3 S fun v15 S=>callF Tryz.prog 208 [v15] S Q fun v16 S=>loopV lv193_1 (vc Tryz.prog (c193.at_ [1,1,1,1,1,0,1,0,0]) (ms193.drop 2)) 72 (env193_1 y1 y7 y8 v16 (.v (.int .i64 0))) S (blockK 2 (seqK (vc Tryz.prog (c193.at_ [1,1,1,1,1,1]) (ms193.drop 3)) (bodyK Tryz.prog r193 Q))))
theorem b193_0_eq (y1 y3 y7 y8 y19 y20 y21:AV) (S:Store) (KE0:KeT) (Q:PoT):vc Tryz.prog (c193.at_ [1,1,1,0,1,0,0]) (ms193.drop 1) (mkE 72 lv193_0 (env193_0 y1 y3 y7 y8 y19 y20 y21)) S (thenK (fgK lv193_0 KE0) (blockK 0 (seqK (vc Tryz.prog (c193.at_ [1,1,1,1]) (ms193.drop 1)) (bodyK Tryz.prog r193 Q)))) = b193_0 y1 y3 y7 y8 y19 y20 y21 S KE0 Q:=by kernel_rfl
theorem loop193_0 {y1 y3 y7 y19 y20:AV} {y80 y210:AV} {S:Store} {Q:PoT} (I:AV → AV → Store → Prop) (μ:AV → AV → Store → Nat) (h0:I y80 y210 S)
    (hr:∀ (y8 y21:AV) (S:Store),I y8 y21 S → ∀ KE0:KeT,(∀ (y8' y21':AV) (S':Store),I y8' y21' S' → μ y8' y21' S' < μ y8 y21 S → KE0 72 (env193_0 y1 y3 y7 y8' y19 y20 y21') S') → b193_0 y1 y3 y7 y8 y19 y20 y21 S KE0 Q) :
    loopV lv193_0 (vc Tryz.prog (c193.at_ [1,1,1,0,1,0,0]) (ms193.drop 1)) 72 (env193_0 y1 y3 y7 y80 y19 y20 y210) S (blockK 0 (seqK (vc Tryz.prog (c193.at_ [1,1,1,1]) (ms193.drop 1)) (bodyK Tryz.prog r193 Q))):=by
  refine ⟨fun n e S=>n = 72 ∧ ∃ y8 y21:AV,e = (env193_0 y1 y3 y7 y8 y19 y20 y21) ∧ I y8 y21 S,fun _ e S=>μ (e.getD 3 .j) (e.getD 6 .j) S,?_,?_⟩
  · exact ⟨_,_,Wk.refl _ _,rfl,_,_,rfl,h0⟩
  · rintro _ e S ⟨rfl,y8,y21,rfl,hI⟩
    exact (b193_0_eq _ _ _ _ _ _ _ _ _ _).mpr (hr y8 y21 S hI _ (fun y8' y21' S' hI' hm=>⟨_,_,Wk.refl _ _,⟨rfl,_,_,rfl,hI'⟩,hm⟩))
def b193_1 (y1 y7 y8 y11 y12:AV) (S:Store) (KE1:KeT) (Q:PoT):Prop :=
  lenS y8 S fun v17 S=>bin .lss 0 y12 v17 S fun v18 S=>onB v18 fun b19=>gd b19 (ixS 3 1 y8 y12 S fun v20 S=>ld1 v20 S fun v21 S=>ixS 34 1 y11 v21 S fun v22 S=>ld1 v22 S fun v23 S=>lenS v23 S fun v24 S=>loopV lv193_2 (vc Tryz.prog (c193.at_ [1,1,1,1,1,0,1,0,0,1,0,0,1,0,0]) (ms193.drop 3)) 72 (env193_2 y1 y7 y8 y11 y12 v23 v24 (.v (.int .i64 0))) S (blockK 4 (blockK 3 (seqK (vc Tryz.prog (c193.at_ [1,1,1,1,1,0,1,0,0,1,1]) (ms193.drop 3)) (thenK (fgK lv193_1 KE1) (blockK 2 (seqK (vc Tryz.prog (c193.at_ [1,1,1,1,1,1]) (ms193.drop 3)) (bodyK Tryz.prog r193 Q)))))))) (Q (.ret y7) S)
theorem b193_1_eq (y1 y7 y8 y11 y12:AV) (S:Store) (KE1:KeT) (Q:PoT):vc Tryz.prog (c193.at_ [1,1,1,1,1,0,1,0,0]) (ms193.drop 2) (mkE 72 lv193_1 (env193_1 y1 y7 y8 y11 y12)) S (thenK (fgK lv193_1 KE1) (blockK 2 (seqK (vc Tryz.prog (c193.at_ [1,1,1,1,1,1]) (ms193.drop 3)) (bodyK Tryz.prog r193 Q)))) = b193_1 y1 y7 y8 y11 y12 S KE1 Q:=by kernel_rfl
theorem loop193_1 {y1 y7 y11:AV} {y80 y120:AV} {S:Store} {Q:PoT} (I:AV → AV → Store → Prop) (μ:AV → AV → Store → Nat) (h0:I y80 y120 S)
    (hr:∀ (y8 y12:AV) (S:Store),I y8 y12 S → ∀ KE1:KeT,(∀ (y8' y12':AV) (S':Store),I y8' y12' S' → μ y8' y12' S' < μ y8 y12 S → KE1 72 (env193_1 y1 y7 y8' y11 y12') S') → b193_1 y1 y7 y8 y11 y12 S KE1 Q) :
    loopV lv193_1 (vc Tryz.prog (c193.at_ [1,1,1,1,1,0,1,0,0]) (ms193.drop 2)) 72 (env193_1 y1 y7 y80 y11 y120) S (blockK 2 (seqK (vc Tryz.prog (c193.at_ [1,1,1,1,1,1]) (ms193.drop 3)) (bodyK Tryz.prog r193 Q))):=by
  refine ⟨fun n e S=>n = 72 ∧ ∃ y8 y12:AV,e = (env193_1 y1 y7 y8 y11 y12) ∧ I y8 y12 S,fun _ e S=>μ (e.getD 2 .j) (e.getD 4 .j) S,?_,?_⟩
  · exact ⟨_,_,Wk.refl _ _,rfl,_,_,rfl,h0⟩
  · rintro _ e S ⟨rfl,y8,y12,rfl,hI⟩
    exact (b193_1_eq _ _ _ _ _ _ _ _).mpr (hr y8 y12 S hI _ (fun y8' y12' S' hI' hm=>⟨_,_,Wk.refl _ _,⟨rfl,_,_,rfl,hI'⟩,hm⟩))
def b193_2 (y1 y7 y8 y11 y12 y46 y47 y48:AV) (S:Store) (KE2:KeT) (KE1:KeT) (Q:PoT):Prop :=
  bin .lss 0 y48 y47 S fun v25 S=>onB v25 fun b26=>gd b26 (ixS 3 1 y46 y48 S fun v27 S=>ld1 v27 S fun v28 S=>ixS 4 1 y7 v28 S fun v29 S=>ld1 v29 S fun v30 S=>un .not v30 S fun v31 S=>onB v31 fun b32=>gd b32 (ixS 4 1 y1 v28 S fun v33 S=>ld1 v33 S fun v34 S=>onB v34 fun b35=>gd b35 (ixS 4 1 y7 v28 S fun v36 S=>stN 1 v36 (.v (.bool true)) S fun v37 S=>bslN 3 1 1 [(.v (.int .i64 0))] [(0,v28)] S fun v38 S=>appS 3 1 8 y8 v38 S fun v39 S=>bin .add 0 y48 (.v (.int .i64 1)) S fun v40 S=>KE2 72 (env193_2 y1 y7 v39 y11 y12 y46 y47 v40) S) (bin .add 0 y48 (.v (.int .i64 1)) S fun v41 S=>KE2 72 (env193_2 y1 y7 y8 y11 y12 y46 y47 v41) S)) (bin .add 0 y48 (.v (.int .i64 1)) S fun v42 S=>KE2 72 (env193_2 y1 y7 y8 y11 y12 y46 y47 v42) S)) (bin .add 0 y12 (.v (.int .i64 1)) S fun v43 S=>KE1 72 (env193_1 y1 y7 y8 y11 v43) S)
theorem b193_2_eq (y1 y7 y8 y11 y12 y46 y47 y48:AV) (S:Store) (KE2:KeT) (KE1:KeT) (Q:PoT):vc Tryz.prog (c193.at_ [1,1,1,1,1,0,1,0,0,1,0,0,1,0,0]) (ms193.drop 3) (mkE 72 lv193_2 (env193_2 y1 y7 y8 y11 y12 y46 y47 y48)) S (thenK (fgK lv193_2 KE2) (blockK 4 (blockK 3 (seqK (vc Tryz.prog (c193.at_ [1,1,1,1,1,0,1,0,0,1,1]) (ms193.drop 3)) (thenK (fgK lv193_1 KE1) (blockK 2 (seqK (vc Tryz.prog (c193.at_ [1,1,1,1,1,1]) (ms193.drop 3)) (bodyK Tryz.prog r193 Q)))))))) = b193_2 y1 y7 y8 y11 y12 y46 y47 y48 S KE2 KE1 Q:=by kernel_rfl
theorem loop193_2 {y1 y7 y11 y12 y46 y47:AV} {y80 y480:AV} {S:Store} {KE1:KeT} {Q:PoT} (I:AV → AV → Store → Prop) (μ:AV → AV → Store → Nat) (h0:I y80 y480 S)
    (hr:∀ (y8 y48:AV) (S:Store),I y8 y48 S → ∀ KE2:KeT,(∀ (y8' y48':AV) (S':Store),I y8' y48' S' → μ y8' y48' S' < μ y8 y48 S → KE2 72 (env193_2 y1 y7 y8' y11 y12 y46 y47 y48') S') → b193_2 y1 y7 y8 y11 y12 y46 y47 y48 S KE2 KE1 Q) :
    loopV lv193_2 (vc Tryz.prog (c193.at_ [1,1,1,1,1,0,1,0,0,1,0,0,1,0,0]) (ms193.drop 3)) 72 (env193_2 y1 y7 y80 y11 y12 y46 y47 y480) S (blockK 4 (blockK 3 (seqK (vc Tryz.prog (c193.at_ [1,1,1,1,1,0,1,0,0,1,1]) (ms193.drop 3)) (thenK (fgK lv193_1 KE1) (blockK 2 (seqK (vc Tryz.prog (c193.at_ [1,1,1,1,1,1]) (ms193.drop 3)) (bodyK Tryz.prog r193 Q))))))):=by
  refine ⟨fun n e S=>n = 72 ∧ ∃ y8 y48:AV,e = (env193_2 y1 y7 y8 y11 y12 y46 y47 y48) ∧ I y8 y48 S,fun _ e S=>μ (e.getD 2 .j) (e.getD 7 .j) S,?_,?_⟩
  · exact ⟨_,_,Wk.refl _ _,rfl,_,_,rfl,h0⟩
  · rintro _ e S ⟨rfl,y8,y48,rfl,hI⟩
    exact (b193_2_eq _ _ _ _ _ _ _ _ _ _ _ _).mpr (hr y8 y48 S hI _ (fun y8' y48' S' hI' hm=>⟨_,_,Wk.refl _ _,⟨rfl,_,_,rfl,hI'⟩,hm⟩))
noncomputable def c208:Code:=(Tryz.f208.body).getD .skip
noncomputable def r208:List ResultVar:=Tryz.f208.results.toList
def env208_0 (y1 y3 y13 y14 y15:AV):List AV:=[y1,y3,y13,y14,y15]
def lv208_0:List Nat:=[1,3,13,14,15]
def env208_1 (y1 y3 y4 y13 y14 y15 y20 y21 y22:AV):List AV:=[y1,y3,y4,y13,y14,y15,y20,y21,y22]
def lv208_1:List Nat:=[1,3,4,13,14,15,20,21,22]
def ms208:List (List Nat):=[lv208_0,lv208_1,[]]
def m208 (x0:AV) (S:Store) (Q:PoT):Prop :=
  boxN 71 5 x0 S fun v1 S=>shift v1 3 S fun v2 S=>ld1 v2 S fun v3 S=>lenS v3 S fun v4 S=>mkN 34 24 [.nl] v4 v4 S fun v5 S=>shift v1 3 S fun v6 S=>ld1 v6 S fun v7 S=>lenS v7 S fun v8 S=>loopV lv208_0 (vc Tryz.prog (c208.at_ [1,1,0,1,0,0]) (ms208.drop 1)) 44 (env208_0 v1 v5 v7 v8 (.v (.int .i64 0))) S (blockK 0 (seqK (vc Tryz.prog (c208.at_ [1,1,1]) (ms208.drop 2)) (bodyK Tryz.prog r208 Q)))
theorem calls208 {x0:AV} {S:Store} {Q:PoT} (h:m208 x0 S Q):ACalls Tryz.prog 208 [x0] S Q :=
  calls_of_vc (fn:=Tryz.f208) (c:=c208) (n:=44) Tryz.func208 (by kernel_rfl) (by kernel_rfl) (by kernel_rfl) ms208 (Eq.mpr (by kernel_rfl) h)
def b208_0 (y1 y3 y13 y14 y15:AV) (S:Store) (KE0:KeT) (Q:PoT):Prop :=
  bin .lss 0 y15 y14 S fun v9 S=>onB v9 fun b10=>gd b10 (ixS 34 1 y13 y15 S fun v11 S=>ld1 v11 S fun v12 S=>lenS v12 S fun v13 S=>loopV lv208_1 (vc Tryz.prog (c208.at_ [1,1,0,1,0,0,1,1,0,0,1,1,0,0]) (ms208.drop 2)) 44 (env208_1 y1 y3 y15 y13 y14 y15 v12 v13 (.v (.int .i64 0))) S (blockK 2 (blockK 1 (seqK (vc Tryz.prog (c208.at_ [1,1,0,1,0,0,1,1,1]) (ms208.drop 2)) (thenK (fgK lv208_0 KE0) (blockK 0 (seqK (vc Tryz.prog (c208.at_ [1,1,1]) (ms208.drop 2)) (bodyK Tryz.prog r208 Q)))))))) (Q (.ret y3) S)
theorem b208_0_eq (y1 y3 y13 y14 y15:AV) (S:Store) (KE0:KeT) (Q:PoT):vc Tryz.prog (c208.at_ [1,1,0,1,0,0]) (ms208.drop 1) (mkE 44 lv208_0 (env208_0 y1 y3 y13 y14 y15)) S (thenK (fgK lv208_0 KE0) (blockK 0 (seqK (vc Tryz.prog (c208.at_ [1,1,1]) (ms208.drop 2)) (bodyK Tryz.prog r208 Q)))) = b208_0 y1 y3 y13 y14 y15 S KE0 Q:=by kernel_rfl
theorem loop208_0 {y1 y3 y13 y14:AV} {y150:AV} {S:Store} {Q:PoT} (I:AV → Store → Prop) (μ:AV → Store → Nat) (h0:I y150 S)
    (hr:∀ (y15:AV) (S:Store),I y15 S → ∀ KE0:KeT,(∀ (y15':AV) (S':Store),I y15' S' → μ y15' S' < μ y15 S → KE0 44 (env208_0 y1 y3 y13 y14 y15') S') → b208_0 y1 y3 y13 y14 y15 S KE0 Q) :
    loopV lv208_0 (vc Tryz.prog (c208.at_ [1,1,0,1,0,0]) (ms208.drop 1)) 44 (env208_0 y1 y3 y13 y14 y150) S (blockK 0 (seqK (vc Tryz.prog (c208.at_ [1,1,1]) (ms208.drop 2)) (bodyK Tryz.prog r208 Q))):=by
  refine ⟨fun n e S=>n = 44 ∧ ∃ y15:AV,e = (env208_0 y1 y3 y13 y14 y15) ∧ I y15 S,fun _ e S=>μ (e.getD 4 .j) S,?_,?_⟩
  · exact ⟨_,_,Wk.refl _ _,rfl,_,rfl,h0⟩
  · rintro _ e S ⟨rfl,y15,rfl,hI⟩
    exact (b208_0_eq _ _ _ _ _ _ _ _).mpr (hr y15 S hI _ (fun y15' S' hI' hm=>⟨_,_,Wk.refl _ _,⟨rfl,_,rfl,hI'⟩,hm⟩))
def b208_1 (y1 y3 y4 y13 y14 y15 y20 y21 y22:AV) (S:Store) (KE1:KeT) (KE0:KeT) (Q:PoT):Prop :=
  bin .lss 0 y22 y21 S fun v14 S=>onB v14 fun b15=>gd b15 (ixS 3 1 y20 y22 S fun v16 S=>ld1 v16 S fun v17 S=>shift y1 1 S fun v18 S=>ld1 v18 S fun v19 S=>ixS 4 1 v19 y4 S fun v20 S=>ld1 v20 S fun v21 S=>onB v21 fun b22=>gd b22 (ixS 34 1 y3 v17 S fun v23 S=>ld1 v23 S fun v24 S=>bslN 3 1 1 [(.v (.int .i64 0))] [(0,y4)] S fun v25 S=>appS 3 1 8 v24 v25 S fun v26 S=>ixS 34 1 y3 v17 S fun v27 S=>stN 1 v27 v26 S fun v28 S=>bin .add 0 y22 (.v (.int .i64 1)) S fun v29 S=>KE1 44 (env208_1 y1 y3 y4 y13 y14 y15 y20 y21 v29) S) (bin .add 0 y22 (.v (.int .i64 1)) S fun v30 S=>KE1 44 (env208_1 y1 y3 y4 y13 y14 y15 y20 y21 v30) S)) (bin .add 0 y15 (.v (.int .i64 1)) S fun v31 S=>KE0 44 (env208_0 y1 y3 y13 y14 v31) S)
theorem b208_1_eq (y1 y3 y4 y13 y14 y15 y20 y21 y22:AV) (S:Store) (KE1:KeT) (KE0:KeT) (Q:PoT):vc Tryz.prog (c208.at_ [1,1,0,1,0,0,1,1,0,0,1,1,0,0]) (ms208.drop 2) (mkE 44 lv208_1 (env208_1 y1 y3 y4 y13 y14 y15 y20 y21 y22)) S (thenK (fgK lv208_1 KE1) (blockK 2 (blockK 1 (seqK (vc Tryz.prog (c208.at_ [1,1,0,1,0,0,1,1,1]) (ms208.drop 2)) (thenK (fgK lv208_0 KE0) (blockK 0 (seqK (vc Tryz.prog (c208.at_ [1,1,1]) (ms208.drop 2)) (bodyK Tryz.prog r208 Q)))))))) = b208_1 y1 y3 y4 y13 y14 y15 y20 y21 y22 S KE1 KE0 Q:=by kernel_rfl
theorem loop208_1 {y1 y3 y4 y13 y14 y15 y20 y21:AV} {y220:AV} {S:Store} {KE0:KeT} {Q:PoT} (I:AV → Store → Prop) (μ:AV → Store → Nat) (h0:I y220 S)
    (hr:∀ (y22:AV) (S:Store),I y22 S → ∀ KE1:KeT,(∀ (y22':AV) (S':Store),I y22' S' → μ y22' S' < μ y22 S → KE1 44 (env208_1 y1 y3 y4 y13 y14 y15 y20 y21 y22') S') → b208_1 y1 y3 y4 y13 y14 y15 y20 y21 y22 S KE1 KE0 Q) :
    loopV lv208_1 (vc Tryz.prog (c208.at_ [1,1,0,1,0,0,1,1,0,0,1,1,0,0]) (ms208.drop 2)) 44 (env208_1 y1 y3 y4 y13 y14 y15 y20 y21 y220) S (blockK 2 (blockK 1 (seqK (vc Tryz.prog (c208.at_ [1,1,0,1,0,0,1,1,1]) (ms208.drop 2)) (thenK (fgK lv208_0 KE0) (blockK 0 (seqK (vc Tryz.prog (c208.at_ [1,1,1]) (ms208.drop 2)) (bodyK Tryz.prog r208 Q))))))):=by
  refine ⟨fun n e S=>n = 44 ∧ ∃ y22:AV,e = (env208_1 y1 y3 y4 y13 y14 y15 y20 y21 y22) ∧ I y22 S,fun _ e S=>μ (e.getD 8 .j) S,?_,?_⟩
  · exact ⟨_,_,Wk.refl _ _,rfl,_,rfl,h0⟩
  · rintro _ e S ⟨rfl,y22,rfl,hI⟩
    exact (b208_1_eq _ _ _ _ _ _ _ _ _ _ _ _ _).mpr (hr y22 S hI _ (fun y22' S' hI' hm=>⟨_,_,Wk.refl _ _,⟨rfl,_,rfl,hI'⟩,hm⟩))
noncomputable def c206:Code:=(Tryz.f206.body).getD .skip
def ms206:List (List Nat):=[[]]
def m206 (x0:AV) (S:Store) (Q:PoT):Prop :=
  nilV .eql 2 x0 S fun v1 S=>onB v1 fun b2=>gd b2 (Q (.ret .nl) S) (bslN 4 1 0 [(.v (.bool false))] [] S fun v3 S=>appS 4 1 1 v3 x0 S fun v4 S=>Q (.ret v4) S)
theorem calls206 {x0:AV} {S:Store} {Q:PoT} (h:m206 x0 S Q):ACalls Tryz.prog 206 [x0] S Q :=
  calls_of_vc (fn:=Tryz.f206) (c:=c206) (n:=8) Tryz.func206 (by kernel_rfl) (by kernel_rfl) (by kernel_rfl) ms206 (Eq.mpr (by kernel_rfl) h)
noncomputable def c191:Code:=(Tryz.f191.body).getD .skip
noncomputable def r191:List ResultVar:=Tryz.f191.results.toList
def env191_0 (y5 y10 y11 y12:AV):List AV:=[y5,y10,y11,y12]
def lv191_0:List Nat:=[5,10,11,12]
def ms191:List (List Nat):=[lv191_0,[]]
def m191 (x0 x1:AV) (S:Store) (Q:PoT):Prop :=
  callF Tryz.prog 206 [x0] S Q fun v1 S=>lenS x1 S fun v2 S=>loopV lv191_0 (vc Tryz.prog (c191.at_ [1,1,0,1,0,0]) (ms191.drop 1)) 29 (env191_0 v1 x1 v2 (.v (.int .i64 0))) S (blockK 0 (seqK (vc Tryz.prog (c191.at_ [1,1,1]) (ms191.drop 1)) (bodyK Tryz.prog r191 Q)))
theorem calls191 {x0 x1:AV} {S:Store} {Q:PoT} (h:m191 x0 x1 S Q):ACalls Tryz.prog 191 [x0,x1] S Q :=
  calls_of_vc (fn:=Tryz.f191) (c:=c191) (n:=29) Tryz.func191 (by kernel_rfl) (by kernel_rfl) (by kernel_rfl) ms191 (Eq.mpr (by kernel_rfl) h)
def b191_0 (y5 y10 y11 y12:AV) (S:Store) (KE0:KeT) (Q:PoT):Prop :=
  bin .lss 0 y12 y11 S fun v3 S=>onB v3 fun b4=>gd b4 (ixS 4 1 y10 y12 S fun v5 S=>ld1 v5 S fun v6 S=>ixS 4 1 y5 y12 S fun v7 S=>ld1 v7 S fun v8 S=>onB v8 fun b9=>gd b9 (ixS 4 1 y5 y12 S fun v10 S=>stN 1 v10 v6 S fun v11 S=>bin .add 0 y12 (.v (.int .i64 1)) S fun v12 S=>KE0 29 (env191_0 y5 y10 y11 v12) S) (ixS 4 1 y5 y12 S fun v13 S=>stN 1 v13 (.v (.bool false)) S fun v14 S=>bin .add 0 y12 (.v (.int .i64 1)) S fun v15 S=>KE0 29 (env191_0 y5 y10 y11 v15) S)) (Q (.ret y5) S)
theorem b191_0_eq (y5 y10 y11 y12:AV) (S:Store) (KE0:KeT) (Q:PoT):vc Tryz.prog (c191.at_ [1,1,0,1,0,0]) (ms191.drop 1) (mkE 29 lv191_0 (env191_0 y5 y10 y11 y12)) S (thenK (fgK lv191_0 KE0) (blockK 0 (seqK (vc Tryz.prog (c191.at_ [1,1,1]) (ms191.drop 1)) (bodyK Tryz.prog r191 Q)))) = b191_0 y5 y10 y11 y12 S KE0 Q:=by kernel_rfl
theorem loop191_0 {y5 y10 y11:AV} {y120:AV} {S:Store} {Q:PoT} (I:AV → Store → Prop) (μ:AV → Store → Nat) (h0:I y120 S)
    (hr:∀ (y12:AV) (S:Store),I y12 S → ∀ KE0:KeT,(∀ (y12':AV) (S':Store),I y12' S' → μ y12' S' < μ y12 S → KE0 29 (env191_0 y5 y10 y11 y12') S') → b191_0 y5 y10 y11 y12 S KE0 Q) :
    loopV lv191_0 (vc Tryz.prog (c191.at_ [1,1,0,1,0,0]) (ms191.drop 1)) 29 (env191_0 y5 y10 y11 y120) S (blockK 0 (seqK (vc Tryz.prog (c191.at_ [1,1,1]) (ms191.drop 1)) (bodyK Tryz.prog r191 Q))):=by
  refine ⟨fun n e S=>n = 29 ∧ ∃ y12:AV,e = (env191_0 y5 y10 y11 y12) ∧ I y12 S,fun _ e S=>μ (e.getD 3 .j) S,?_,?_⟩
  · exact ⟨_,_,Wk.refl _ _,rfl,_,rfl,h0⟩
  · rintro _ e S ⟨rfl,y12,rfl,hI⟩
    exact (b191_0_eq _ _ _ _ _ _ _).mpr (hr y12 S hI _ (fun y12' S' hI' hm=>⟨_,_,Wk.refl _ _,⟨rfl,_,rfl,hI'⟩,hm⟩))
noncomputable def c207:Code:=(Tryz.f207.body).getD .skip
def ms207:List (List Nat):=[[]]
def m207 (x0 x1:AV) (S:Store) (Q:PoT):Prop :=
  ld1 x1 S fun v1 S=>ixS 4 1 v1 x0 S fun v2 S=>ld1 v2 S fun v3 S=>Q (.ret v3) S
theorem calls207 {x0 x1:AV} {S:Store} {Q:PoT} (h:m207 x0 x1 S Q):ACalls Tryz.prog 207 [x0,x1] S Q :=
  calls_of_vc (fn:=Tryz.f207) (c:=c207) (n:=8) Tryz.func207 (by kernel_rfl) (by kernel_rfl) (by kernel_rfl) ms207 (Eq.mpr (by kernel_rfl) h)
noncomputable def c192:Code:=(Tryz.f192.body).getD .skip
noncomputable def r192:List ResultVar:=Tryz.f192.results.toList
def env192_0 (y2 y3 y5 y12 y13 y14:AV):List AV:=[y2,y3,y5,y12,y13,y14]
def lv192_0:List Nat:=[2,3,5,12,13,14]
def ms192:List (List Nat):=[lv192_0,[]]
def m192 (x0 x1:AV) (S:Store) (Q:PoT):Prop :=
  boxN 71 5 x0 S fun v1 S=>boxN 53 1 x1 S fun v2 S=>ld1 v2 S fun v3 S=>lenS v3 S fun v4 S=>mkN 4 1 [(.v (.bool false))] v4 v4 S fun v5 S=>shift v1 3 S fun v6 S=>ld1 v6 S fun v7 S=>lenS v7 S fun v8 S=>loopV lv192_0 (vc Tryz.prog (c192.at_ [1,1,0,1,0,0]) (ms192.drop 1)) 34 (env192_0 v1 v2 v5 v7 v8 (.v (.int .i64 0))) S (blockK 0 (seqK (vc Tryz.prog (c192.at_ [1,1,1]) (ms192.drop 1)) (bodyK Tryz.prog r192 Q)))
theorem calls192 {x0 x1:AV} {S:Store} {Q:PoT} (h:m192 x0 x1 S Q):ACalls Tryz.prog 192 [x0,x1] S Q :=
  calls_of_vc (fn:=Tryz.f192) (c:=c192) (n:=34) Tryz.func192 (by kernel_rfl) (by kernel_rfl) (by kernel_rfl) ms192 (Eq.mpr (by kernel_rfl) h)
def b192_0 (y2 y3 y5 y12 y13 y14:AV) (S:Store) (KE0:KeT) (Q:PoT):Prop :=
  bin .lss 0 y14 y13 S fun v9 S=>onB v9 fun b10=>gd b10 (ixS 34 1 y12 y14 S fun v11 S=>ld1 v11 S fun v12 S=>shift y2 1 S fun v13 S=>ld1 v13 S fun v14 S=>ixS 4 1 v14 y14 S fun v15 S=>ld1 v15 S fun v16 S=>onB v16 fun b17=>gd b17 (callF Tryz.prog 132 [v12,(.f (.func 207) [] [y3])] S Q fun v18 S=>ixS 4 1 y5 y14 S fun v19 S=>stN 1 v19 v18 S fun v20 S=>bin .add 0 y14 (.v (.int .i64 1)) S fun v21 S=>KE0 34 (env192_0 y2 y3 y5 y12 y13 v21) S) (ixS 4 1 y5 y14 S fun v22 S=>stN 1 v22 (.v (.bool false)) S fun v23 S=>bin .add 0 y14 (.v (.int .i64 1)) S fun v24 S=>KE0 34 (env192_0 y2 y3 y5 y12 y13 v24) S)) (Q (.ret y5) S)
theorem b192_0_eq (y2 y3 y5 y12 y13 y14:AV) (S:Store) (KE0:KeT) (Q:PoT):vc Tryz.prog (c192.at_ [1,1,0,1,0,0]) (ms192.drop 1) (mkE 34 lv192_0 (env192_0 y2 y3 y5 y12 y13 y14)) S (thenK (fgK lv192_0 KE0) (blockK 0 (seqK (vc Tryz.prog (c192.at_ [1,1,1]) (ms192.drop 1)) (bodyK Tryz.prog r192 Q)))) = b192_0 y2 y3 y5 y12 y13 y14 S KE0 Q:=by kernel_rfl
theorem loop192_0 {y2 y3 y5 y12 y13:AV} {y140:AV} {S:Store} {Q:PoT} (I:AV → Store → Prop) (μ:AV → Store → Nat) (h0:I y140 S)
    (hr:∀ (y14:AV) (S:Store),I y14 S → ∀ KE0:KeT,(∀ (y14':AV) (S':Store),I y14' S' → μ y14' S' < μ y14 S → KE0 34 (env192_0 y2 y3 y5 y12 y13 y14') S') → b192_0 y2 y3 y5 y12 y13 y14 S KE0 Q) :
    loopV lv192_0 (vc Tryz.prog (c192.at_ [1,1,0,1,0,0]) (ms192.drop 1)) 34 (env192_0 y2 y3 y5 y12 y13 y140) S (blockK 0 (seqK (vc Tryz.prog (c192.at_ [1,1,1]) (ms192.drop 1)) (bodyK Tryz.prog r192 Q))):=by
  refine ⟨fun n e S=>n = 34 ∧ ∃ y14:AV,e = (env192_0 y2 y3 y5 y12 y13 y14) ∧ I y14 S,fun _ e S=>μ (e.getD 5 .j) S,?_,?_⟩
  · exact ⟨_,_,Wk.refl _ _,rfl,_,rfl,h0⟩
  · rintro _ e S ⟨rfl,y14,rfl,hI⟩
    exact (b192_0_eq _ _ _ _ _ _ _ _ _).mpr (hr y14 S hI _ (fun y14' S' hI' hm=>⟨_,_,Wk.refl _ _,⟨rfl,_,rfl,hI'⟩,hm⟩))
noncomputable def c205:Code:=(Tryz.f205.body).getD .skip
noncomputable def r205:List ResultVar:=Tryz.f205.results.toList
def env205_0 (y0 y1 y7 y8:AV):List AV:=[y0,y1,y7,y8]
def lv205_0:List Nat:=[0,1,7,8]
def ms205:List (List Nat):=[lv205_0,[]]
def m205 (x0 x1:AV) (S:Store) (Q:PoT):Prop :=
  lenS x0 S fun v1 S=>loopV lv205_0 (vc Tryz.prog (c205.at_ [1,0,1,0,0]) (ms205.drop 1)) 19 (env205_0 x0 x1 v1 (.v (.int .i64 0))) S (blockK 0 (seqK (vc Tryz.prog (c205.at_ [1,1]) (ms205.drop 1)) (bodyK Tryz.prog r205 Q)))
theorem calls205 {x0 x1:AV} {S:Store} {Q:PoT} (h:m205 x0 x1 S Q):ACalls Tryz.prog 205 [x0,x1] S Q :=
  calls_of_vc (fn:=Tryz.f205) (c:=c205) (n:=19) Tryz.func205 (by kernel_rfl) (by kernel_rfl) (by kernel_rfl) ms205 (Eq.mpr (by kernel_rfl) h)
def b205_0 (y0 y1 y7 y8:AV) (S:Store) (KE0:KeT) (Q:PoT):Prop :=
  bin .lss 0 y8 y7 S fun v2 S=>onB v2 fun b3=>gd b3 (ixS 53 1 y0 y8 S fun v4 S=>ld1 v4 S fun v5 S=>callV Tryz.prog y1 [v5] S (fun v6 S=>onB v6 fun b7=>gd b7 (Q (.ret y8) S) (bin .add 0 y8 (.v (.int .i64 1)) S fun v8 S=>KE0 19 (env205_0 y0 y1 y7 v8) S)) (fun u S=>Q (.pan u) S)) (Q (.ret (.v (.int .i64 (-1)))) S)
theorem b205_0_eq (y0 y1 y7 y8:AV) (S:Store) (KE0:KeT) (Q:PoT):vc Tryz.prog (c205.at_ [1,0,1,0,0]) (ms205.drop 1) (mkE 19 lv205_0 (env205_0 y0 y1 y7 y8)) S (thenK (fgK lv205_0 KE0) (blockK 0 (seqK (vc Tryz.prog (c205.at_ [1,1]) (ms205.drop 1)) (bodyK Tryz.prog r205 Q)))) = b205_0 y0 y1 y7 y8 S KE0 Q:=by kernel_rfl
theorem loop205_0 {y0 y1 y7:AV} {y80:AV} {S:Store} {Q:PoT} (I:AV → Store → Prop) (μ:AV → Store → Nat) (h0:I y80 S)
    (hr:∀ (y8:AV) (S:Store),I y8 S → ∀ KE0:KeT,(∀ (y8':AV) (S':Store),I y8' S' → μ y8' S' < μ y8 S → KE0 19 (env205_0 y0 y1 y7 y8') S') → b205_0 y0 y1 y7 y8 S KE0 Q) :
    loopV lv205_0 (vc Tryz.prog (c205.at_ [1,0,1,0,0]) (ms205.drop 1)) 19 (env205_0 y0 y1 y7 y80) S (blockK 0 (seqK (vc Tryz.prog (c205.at_ [1,1]) (ms205.drop 1)) (bodyK Tryz.prog r205 Q))):=by
  refine ⟨fun n e S=>n = 19 ∧ ∃ y8:AV,e = (env205_0 y0 y1 y7 y8) ∧ I y8 S,fun _ e S=>μ (e.getD 3 .j) S,?_,?_⟩
  · exact ⟨_,_,Wk.refl _ _,rfl,_,rfl,h0⟩
  · rintro _ e S ⟨rfl,y8,rfl,hI⟩
    exact (b205_0_eq _ _ _ _ _ _ _).mpr (hr y8 S hI _ (fun y8' S' hI' hm=>⟨_,_,Wk.refl _ _,⟨rfl,_,rfl,hI'⟩,hm⟩))
noncomputable def c189:Code:=(Tryz.f189.body).getD .skip
def ms189:List (List Nat):=[[]]
def m189 (x0 x1:AV) (S:Store) (Q:PoT):Prop :=
  callF Tryz.prog 205 [x0,x1] S Q fun v1 S=>bin .geq 0 v1 (.v (.int .i64 0)) S fun v2 S=>Q (.ret v2) S
theorem calls189 {x0 x1:AV} {S:Store} {Q:PoT} (h:m189 x0 x1 S Q):ACalls Tryz.prog 189 [x0,x1] S Q :=
  calls_of_vc (fn:=Tryz.f189) (c:=c189) (n:=9) Tryz.func189 (by kernel_rfl) (by kernel_rfl) (by kernel_rfl) ms189 (Eq.mpr (by kernel_rfl) h)
noncomputable def c188:Code:=(Tryz.f188.body).getD .skip
def ms188:List (List Nat):=[[]]
def m188 (x0 x1:AV) (S:Store) (Q:PoT):Prop :=
  lenS x0 S fun v1 S=>ld1 x1 S fun v2 S=>bin .neq 0 v1 v2 S fun v3 S=>Q (.ret v3) S
theorem calls188 {x0 x1:AV} {S:Store} {Q:PoT} (h:m188 x0 x1 S Q):ACalls Tryz.prog 188 [x0,x1] S Q :=
  calls_of_vc (fn:=Tryz.f188) (c:=c188) (n:=8) Tryz.func188 (by kernel_rfl) (by kernel_rfl) (by kernel_rfl) ms188 (Eq.mpr (by kernel_rfl) h)
noncomputable def c190:Code:=(Tryz.f190.body).getD .skip
def ms190:List (List Nat):=[[]]
def m190 (x0 x1:AV) (S:Store) (Q:PoT):Prop :=
  bin .lss 0 x0 (.v (.int .i64 0)) S fun v1 S=>onB v1 fun b2=>gd b2 (Q (.ret (.v (.bool true))) S) (ld1 x1 S fun v3 S=>bin .geq 0 x0 v3 S fun v4 S=>Q (.ret v4) S)
theorem calls190 {x0 x1:AV} {S:Store} {Q:PoT} (h:m190 x0 x1 S Q):ACalls Tryz.prog 190 [x0,x1] S Q :=
  calls_of_vc (fn:=Tryz.f190) (c:=c190) (n:=11) Tryz.func190 (by kernel_rfl) (by kernel_rfl) (by kernel_rfl) ms190 (Eq.mpr (by kernel_rfl) h)
noncomputable def c176:Code:=(Tryz.f176.body).getD .skip
noncomputable def r176:List ResultVar:=Tryz.f176.results.toList
def env176_0 (y5 y30 y31 y32:AV):List AV:=[y5,y30,y31,y32]
def lv176_0:List Nat:=[5,30,31,32]
def ms176:List (List Nat):=[lv176_0,[]]
def m176 (x0 x1:AV) (S:Store) (Q:PoT):Prop :=
  boxN 71 5 x0 S fun v1 S=>shift v1 1 S fun v2 S=>ld1 v2 S fun v3 S=>lenS v3 S fun v4 S=>boxN 3 1 (.v (.int .i64 0)) S fun v5 S=>stN 1 v5 v4 S fun v6 S=>shift v1 3 S fun v7 S=>ld1 v7 S fun v8 S=>lenS v8 S fun v9 S=>ld1 v5 S fun v10 S=>bin .neq 0 v9 v10 S fun v11 S=>onB v11 fun b12=>gd b12 (Q (.ret (.v (.bool false))) S) (shift v1 4 S fun v13 S=>ld1 v13 S fun v14 S=>callF Tryz.prog 189 [v14,(.f (.func 188) [] [v5])] S Q fun v15 S=>onB v15 fun b16=>gd b16 (Q (.ret (.v (.bool false))) S) (callF Tryz.prog 189 [x1,(.f (.func 188) [] [v5])] S Q fun v17 S=>onB v17 fun b18=>gd b18 (Q (.ret (.v (.bool false))) S) (shift v1 3 S fun v19 S=>ld1 v19 S fun v20 S=>lenS v20 S fun v21 S=>loopV lv176_0 (vc Tryz.prog (c176.at_ [1,1,1,1,0,1,0,0]) (ms176.drop 1)) 40 (env176_0 v5 v20 v21 (.v (.int .i64 0))) S (blockK 0 (seqK (vc Tryz.prog (c176.at_ [1,1,1,1,1]) (ms176.drop 1)) (bodyK Tryz.prog r176 Q))))))
theorem calls176 {x0 x1:AV} {S:Store} {Q:PoT} (h:m176 x0 x1 S Q):ACalls Tryz.prog 176 [x0,x1] S Q :=
  calls_of_vc (fn:=Tryz.f176) (c:=c176) (n:=40) Tryz.func176 (by kernel_rfl) (by kernel_rfl) (by kernel_rfl) ms176 (Eq.mpr (by kernel_rfl) h)
def b176_0 (y5 y30 y31 y32:AV) (S:Store) (KE0:KeT) (Q:PoT):Prop :=
  bin .lss 0 y32 y31 S fun v22 S=>onB v22 fun b23=>gd b23 (ixS 34 1 y30 y32 S fun v24 S=>ld1 v24 S fun v25 S=>callF Tryz.prog 132 [v25,(.f (.func 190) [] [y5])] S Q fun v26 S=>onB v26 fun b27=>gd b27 (Q (.ret (.v (.bool false))) S) (bin .add 0 y32 (.v (.int .i64 1)) S fun v28 S=>KE0 40 (env176_0 y5 y30 y31 v28) S)) (Q (.ret (.v (.bool true))) S)
theorem b176_0_eq (y5 y30 y31 y32:AV) (S:Store) (KE0:KeT) (Q:PoT):vc Tryz.prog (c176.at_ [1,1,1,1,0,1,0,0]) (ms176.drop 1) (mkE 40 lv176_0 (env176_0 y5 y30 y31 y32)) S (thenK (fgK lv176_0 KE0) (blockK 0 (seqK (vc Tryz.prog (c176.at_ [1,1,1,1,1]) (ms176.drop 1)) (bodyK Tryz.prog r176 Q)))) = b176_0 y5 y30 y31 y32 S KE0 Q:=by kernel_rfl
theorem loop176_0 {y5 y30 y31:AV} {y320:AV} {S:Store} {Q:PoT} (I:AV → Store → Prop) (μ:AV → Store → Nat) (h0:I y320 S)
    (hr:∀ (y32:AV) (S:Store),I y32 S → ∀ KE0:KeT,(∀ (y32':AV) (S':Store),I y32' S' → μ y32' S' < μ y32 S → KE0 40 (env176_0 y5 y30 y31 y32') S') → b176_0 y5 y30 y31 y32 S KE0 Q) :
    loopV lv176_0 (vc Tryz.prog (c176.at_ [1,1,1,1,0,1,0,0]) (ms176.drop 1)) 40 (env176_0 y5 y30 y31 y320) S (blockK 0 (seqK (vc Tryz.prog (c176.at_ [1,1,1,1,1]) (ms176.drop 1)) (bodyK Tryz.prog r176 Q))):=by
  refine ⟨fun n e S=>n = 40 ∧ ∃ y32:AV,e = (env176_0 y5 y30 y31 y32) ∧ I y32 S,fun _ e S=>μ (e.getD 3 .j) S,?_,?_⟩
  · exact ⟨_,_,Wk.refl _ _,rfl,_,rfl,h0⟩
  · rintro _ e S ⟨rfl,y32,rfl,hI⟩
    exact (b176_0_eq _ _ _ _ _ _ _).mpr (hr y32 S hI _ (fun y32' S' hI' hm=>⟨_,_,Wk.refl _ _,⟨rfl,_,rfl,hI'⟩,hm⟩))
end Go.Proofs.YtolgpokppnajdaaGreat.G
set_option linter.unusedVariables false
set_option linter.unusedSimpArgs false
namespace Go.Proofs.YtolgpokppnajdaaGreat.G
open Go Go.Ab
theorem at205 {α:Type} {f:α → AV} {l:List α} (hl:l.length ≤ 9223372036854775807) {g:α → Bool} {fn:FuncId} {fs cs:List AV} {S:Store}
    (hf:∀ x,x ∈ l → AnsAt Tryz.prog fn (fs ++ [f x] ++ cs) S (aB (g x))):AnsAt Tryz.prog 205 [aL f l,.f (.func fn) fs cs] S (aI (idxOf (l.findIdx? g))):=by
  refine calls205 ?_
  unfold m205
  rw [lenS_aL]
  refine loop205_0 (fun y S'=>S' = S ∧ ∃ i:Nat,y = aI i ∧ i ≤ l.length ∧ ∀ k (hk:k < l.length),k < i → g l[k] = false) (fun y _=>l.length - ((intA y).getD 0).toNat) ⟨rfl,0,rfl,Nat.zero_le _,fun k _ h=>absurd h (Nat.not_lt_zero _)⟩ ?_
  rintro _ _ ⟨rfl,i,rfl,hi,hk⟩ KE hKE
  unfold b205_0 aI
  rw [bin_lss,onB_v]
  refine gd_of (fun h=>?_) (fun h=>?_)
  · have hlt:i < l.length:=by simpa using h
    rw [ixS_aL hlt,ld1_q]
    refine callV_at (hf _ (List.getElem_mem hlt)) ?_
    unfold aB
    rw [onB_v]
    refine gd_of (fun hg=>⟨?_,rfl⟩) (fun hg=>?_)
    · rw [find_at hlt hg (fun k hk'=>hk k _ hk')]; rfl
    · rw [bin_add (by omega) (by omega)]
      refine hKE _ _ ⟨rfl,i + 1,rfl,hlt,fun k hk1 hk2=>?_⟩ ?_
      · by_cases e:k = i
        · subst e; exact hg
        · exact hk k hk1 (by omega)
      · simp [intA,aI]; omega
  · have hge:i = l.length:=by simp at h; omega
    subst hge
    rw [find_none (fun k hk'=>hk k hk' hk')]
    exact ⟨rfl,rfl⟩
theorem at189 {α:Type} {f:α → AV} {l:List α} (hl:l.length ≤ 9223372036854775807) {g:α → Bool} {fn:FuncId} {fs cs:List AV} {S:Store}
    (hf:∀ x,x ∈ l → AnsAt Tryz.prog fn (fs ++ [f x] ++ cs) S (aB (g x))):AnsAt Tryz.prog 189 [aL f l,.f (.func fn) fs cs] S (aB (l.any g)):=by
  refine calls189 ?_
  unfold m189
  refine callF_at (at205 hl hf) ?_
  unfold aI
  rw [bin_geq,idx_any]
  exact ⟨rfl,rfl⟩
theorem at188 {α:Type} {f:α → AV} (p:List α) {S:Store} {id t:Nat} {n:Int} {l:Bool} (h:S.obj id = some (.cells t [[aI n]] l)):AnsAt Tryz.prog 188 [aL f p,.p id 0 0] S (aB (!decide ((p.length:Int) = n))):=by
  refine calls188 ?_
  unfold m188
  rw [lenS_aL,ld1_p h rfl rfl]
  unfold aI
  rw [bin_neq]
  exact ⟨rfl,rfl⟩
theorem at190 (i:Int) {S:Store} {id t:Nat} {n:Int} {l:Bool} (h:S.obj id = some (.cells t [[aI n]] l)):AnsAt Tryz.prog 190 [aI i,.p id 0 0] S (aB (decide (i < 0) || decide (n ≤ i))):=by
  refine calls190 ?_
  unfold m190 aI
  rw [bin_lss,onB_v]
  refine gd_of (fun h0=>⟨by rw [h0]; rfl,rfl⟩) (fun h0=>?_)
  rw [ld1_p h rfl rfl]
  unfold aI
  rw [bin_geq,h0]
  exact ⟨rfl,rfl⟩
theorem ans176 (s:Sp) (hs:s.small) (l:List (List Bool)) (hl:l.length ≤ 9223372036854775807):Ans Tryz.prog 176 [s.av,aL (aL aB) l] (aB (fits s l)):=by
  intro S
  obtain ⟨hs1,hs2,hs3,hs4⟩:=hs
  refine ACalls.ans_v (calls176 ?_)
  unfold m176 Sp.av
  refine boxA_of rfl fun S1 k1 n1 o1=>?_
  rw [shift_p,ld1_p o1 rfl rfl,lenS_aL]
  refine box1_of rfl fun S2 k2 n2 o2=>?_
  refine st_of o2 rfl rfl fun S3 n3 o3 f3=>?_
  have p1:=(f3 S.n (by omega)).trans ((k2.2 S.n (by omega)).trans o1)
  have k3:Keep S S3:=(k1.trans k2).st (by omega) n3 f3
  rw [shift_p,ld1_p p1 rfl rfl,lenS_aL,ld1_p o3 rfl rfl,bin_neq,onB_v]
  generalize hid:S1.n = id at *
  refine gd_of (fun h=>⟨?_,k3⟩) (fun h=>?_)
  · have:¬ s.next.length = s.valid.length:=by simp at h; omega
    simp [fits,this]
  have e1:s.next.length = s.valid.length:=by simp at h; omega
  have g54:∀ p:List Bool,(!decide ((p.length:Int) = s.valid.length)) = !decide (p.length = s.valid.length):=fun p=>by simp [Int.ofNat_inj]
  rw [shift_p,ld1_p p1 rfl rfl]
  refine callF_at (at189 (by omega) (fun x _=>at188 x o3)) ?_
  unfold aB
  rw [onB_v,not_any _ _ _ g54]
  refine gd_of (fun h=>⟨?_,k3⟩) (fun h=>?_)
  · simp only [Bool.not_eq_true'] at h
    simp [fits,h]
  have e2:s.fair.all (fun p=>decide (p.length = s.valid.length)) = true:=by simpa using h
  refine callF_at (at189 (f:=aL aB) (by omega) (fun x _=>at188 x o3)) ?_
  unfold aB
  rw [onB_v,not_any _ _ _ g54]
  refine gd_of (fun h=>⟨?_,k3⟩) (fun h=>?_)
  · simp only [Bool.not_eq_true'] at h
    simp [fits,h]
  have e3:l.all (fun p=>decide (p.length = s.valid.length)) = true:=by simpa using h
  rw [shift_p,ld1_p p1 rfl rfl,lenS_aL]
  refine loop176_0 (fun y S'=>S' = S3 ∧ ∃ i:Nat,y = aI i ∧ i ≤ s.next.length ∧ ∀ k (hk:k < s.next.length),k < i → (s.next[k].all fun i=>decide (0 ≤ i) && decide (i < s.valid.length)) = true) (fun y _=>s.next.length - ((intA y).getD 0).toNat) ⟨rfl,0,rfl,Nat.zero_le _,fun k _ h=>absurd h (Nat.not_lt_zero _)⟩ ?_
  rintro _ _ ⟨rfl,i,rfl,hi,hk⟩ KE hKE
  unfold b176_0 aI
  rw [bin_lss,onB_v]
  refine gd_of (fun h=>?_) (fun h=>?_)
  · have hlt:i < s.next.length:=by simpa using h
    rw [ixS_aL hlt,ld1_q]
    refine callF_at (at132 (by have:=hs4 _ (List.getElem_mem hlt); omega) (fun x _=>at190 x o3)) ?_
    unfold aB
    have g57:∀ x:Int,(decide (x < 0) || decide ((s.valid.length:Int) ≤ x)) = !(decide (0 ≤ x) && decide (x < s.valid.length)):=fun x=>by
      have a1:decide (x < 0) = !decide (0 ≤ x):=by rw [← decide_not]; exact decide_eq_decide.2 Int.not_le.symm
      have a2:decide ((s.valid.length:Int) ≤ x) = !decide (x < s.valid.length):=by rw [← decide_not]; exact decide_eq_decide.2 Int.not_lt.symm
      rw [Bool.not_and,a1,a2]
    rw [onB_v,not_any _ _ _ g57]
    refine gd_of (fun hg=>⟨?_,k3⟩) (fun hg=>?_)
    · have:s.next.all (fun x=>x.all fun i=>decide (0 ≤ i) && decide (i < s.valid.length)) = false:=by
        rw [List.all_eq_false]
        exact ⟨_,List.getElem_mem hlt,by simpa using hg⟩
      rw [fits,this,Bool.and_false]
    · rw [bin_add (by omega) (by omega)]
      refine hKE _ _ ⟨rfl,i + 1,rfl,hlt,fun k hk1 hk2=>?_⟩ ?_
      · by_cases e:k = i
        · subst e; simpa using hg
        · exact hk k hk1 (by omega)
      · simp [intA,aI]; omega
  · have hge:i = s.next.length:=by simp at h; omega
    subst hge
    have:s.next.all (fun x=>x.all fun i=>decide (0 ≤ i) && decide (i < s.valid.length)) = true:=by
      rw [List.all_eq_true]
      intro x hx
      obtain ⟨k,hk1,rfl⟩:=List.mem_iff_getElem.1 hx
      exact hk k hk1 hk1
    exact ⟨by rw [fits,this,e2,e3,e1]; simp,k3⟩
def bit (p:List Bool) (i:Nat):Bool:=p.getD i false
def nx (s:Sp) (i:Nat):List Int:=s.next.getD i []
theorem bit_get {p:List Bool} {i:Nat} (h:i < p.length):bit p i = p[i]:=by simp [bit,List.getD_eq_getElem?_getD,h]
theorem nx_get {s:Sp} {i:Nat} (h:i < s.next.length):nx s i = s.next[i]:=by simp [nx,List.getD_eq_getElem?_getD,h]
def tab {α:Type} (n:Nat) (f:Nat → α):List α:=(List.range n).map f
@[simp] theorem tab_len {α:Type} (n:Nat) (f:Nat → α):(tab n f).length = n:=by simp [tab]
theorem tab_get {α:Type} {n:Nat} {f:Nat → α} {i:Nat} (h:i < n):(tab n f)[i]? = some (f i):=by simp [tab,h]
theorem tab_set {α:Type} {n:Nat} {f:Nat → α} {i:Nat} {x:α}:(tab n f).set i x = tab n (fun k=>if k = i then x else f k):=by
  apply List.ext_getElem?
  intro k
  rw [List.getElem?_set]
  by_cases hk:k < n
  · by_cases e:i = k
    · subst e; rw [if_pos rfl,tab_get hk]; simp [hk]
    · rw [if_neg e,tab_get hk,tab_get hk,if_neg (Ne.symm e)]
  · by_cases e:i = k
    · subst e; simp [tab,hk]
    · rw [if_neg e]; simp [tab,hk]
theorem tab_congr {α:Type} {n:Nat} {f g:Nat → α} (h:∀ i,i < n → f i = g i):tab n f = tab n g :=
  List.map_congr_left fun i hi=>h i (by simpa using hi)
theorem tab_bit (p:List Bool):p = tab p.length (bit p):=by
  apply List.ext_getElem?
  intro k
  by_cases hk:k < p.length
  · rw [tab_get hk,bit_get hk,List.getElem?_eq_getElem hk]
  · simp [tab,hk]
theorem tab_map {α β:Type} {n:Nat} {f:Nat → α} {g:α → β}:(tab n f).map g = tab n (fun i=>g (f i)):=by simp [tab]
theorem tab_rep {α:Type} (n:Nat) (x:α):List.replicate n x = tab n (fun _=>x):=by
  apply List.ext_getElem?
  intro k
  by_cases hk:k < n
  · rw [tab_get hk]; simp [hk]
  · simp [tab,hk]
def exP (s:Sp) (p:List Bool):List Bool:=tab p.length fun i=>bit s.valid i && (nx s i).any fun k=>bit p k.toNat
theorem at207 {p:List Bool} {k:Int} (h0:0 ≤ k) (h1:k < p.length) {S:Store} {id t:Nat} {l:Bool} (h:S.obj id = some (.cells t [[aL aB p]] l)):AnsAt Tryz.prog 207 [aI k,.p id 0 0] S (aB (bit p k.toNat)):=by
  refine calls207 ?_
  unfold m207
  have hk:k.toNat < p.length:=by omega
  rw [ld1_p h rfl rfl]
  obtain ⟨n,rfl⟩:=Int.eq_ofNat_of_zero_le h0
  unfold aI
  rw [ixS_aL (i:=n) (by simpa using hk),ld1_q,bit_get hk]
  exact ⟨rfl,rfl⟩
structure Fit (s:Sp) (p:List Bool):Prop where
  small:s.small
  next:s.next.length = s.valid.length
  len:p.length = s.valid.length
  fair:∀ f ∈ s.fair,f.length = s.valid.length
  behind:∀ i,∀ k ∈ nx s i,0 ≤ k ∧ k < s.valid.length
theorem Fit.of {s:Sp} (hs:s.small) {l:List (List Bool)} (h:fits s l = true) {p:List Bool} (hp:p ∈ l):Fit s p:=by
  simp only [fits,Bool.and_eq_true,decide_eq_true_eq,List.all_eq_true] at h
  obtain ⟨⟨⟨h1,h2⟩,h3⟩,h4⟩:=h
  refine ⟨hs,h1,h3 p hp,h2,fun i k hk=>?_⟩
  unfold nx at hk
  rw [List.getD_eq_getElem?_getD] at hk
  cases hq:s.next[i]? with
  | none=>rw [hq] at hk; simp at hk
  | some x =>
    rw [hq] at hk
    exact h4 x (List.mem_of_getElem? hq) k hk
theorem ans192 {s:Sp} {p:List Bool} (hf:Fit s p):Ans Tryz.prog 192 [s.av,aL aB p] (aL aB (exP s p)):=by
  refine ACalls.ans_own (f:=fun b=>.bool b) (e:=4) fun S=>calls192 ?_
  obtain ⟨⟨hs1,hs2,hs3,hs4⟩,hn,hl,_,hb⟩:=hf
  unfold m192 Sp.av
  refine boxA_of rfl fun S1 k1 n1 o1=>?_
  refine box1_of rfl fun S2 k2 n2 o2=>?_
  rw [ld1_p o2 rfl rfl,lenS_aL]
  refine mk_of (by omega) (by omega) fun S3 k3 n3 o3=>?_
  have p1:=(k3.2 S.n (by omega)).trans ((k2.2 S.n (by omega)).trans o1)
  have p2:=(k3.2 S1.n (by omega)).trans o2
  rw [shift_p,ld1_p p1 rfl rfl,lenS_aL]
  refine loop192_0 (fun y S'=>Keep S S' ∧ S'.obj S.n = some (.cells 71 [s.cells] true) ∧ S'.obj S1.n = some (.cells 53 [[aL aB p]] true) ∧ S3.n ≤ S'.n ∧
      ∃ i:Nat,y = aI i ∧ i ≤ s.next.length ∧ S'.obj S2.n = some (.cells 4 (tab p.length fun k=>[aB (if k < i then bit s.valid k && (nx s k).any fun k=>bit p k.toNat else false)]) true))
    (fun y _=>s.next.length - ((intA y).getD 0).toNat) ⟨(k1.trans k2).trans k3,p1,p2,Nat.le_refl _,0,rfl,Nat.zero_le _,by rw [o3,tab_rep]; simp [aB]⟩ ?_
  rintro _ S4 ⟨k4,q1,q2,n4,i,rfl,hi,q3⟩ KE hKE
  unfold b192_0 aI
  rw [bin_lss,onB_v]
  refine gd_of (fun h=>?_) (fun h=>?_)
  · have hlt:i < s.next.length:=by simpa using h
    have hv:i < s.valid.length:=by omega
    rw [ixS_aL hlt,ld1_q,shift_p,ld1_p q1 rfl rfl,ixS_aL hv,ld1_q]
    have step:∀ (b:Bool) (S5:Store),b = (bit s.valid i && (nx s i).any fun k=>bit p k.toNat) → S5.n = S4.n → S5.obj S2.n = some (.cells 4 ((tab p.length fun k=>[aB (if k < i then bit s.valid k && (nx s k).any fun k=>bit p k.toNat else false)]).set i [aB b]) true) → (∀ x,x ≠ S2.n → S5.obj x = S4.obj x) →
        KE 34 (env192_0 (.p S.n 0 0) (.p S1.n 0 0) (.s S2.n 0 p.length) (aL (aL aI) s.next) (.v (.int .i64 s.next.length)) (aI (i + 1:Nat))) S5:=by
      intro b S5 hbv n5 o5 f5
      refine hKE _ _ ⟨k4.st (by omega) n5 f5,(f5 _ (by omega)).trans q1,(f5 _ (by omega)).trans q2,by omega,i + 1,rfl,hlt,?_⟩ ?_
      · rw [o5,tab_set,hbv]
        congr 2
        refine tab_congr fun k hk=>?_
        by_cases e:k = i
        · subst e; simp
        · have:k < i + 1 ↔ k < i:=by omega
          simp [e,this]
      · simp [intA,aI]; omega
    have hi2:i < p.length:=by omega
    have hadd:∀ K:AV → Store → Prop,∀ S,bin .add 0 (.v (.int .i64 (i:Int))) (.v (.int .i64 1)) S K = K (aI (i + 1:Nat)) S:=fun K S=>bin_add (by omega) (by omega) 0
    unfold aB
    rw [onB_v]
    refine gd_of (fun hvi=>?_) (fun hvi=>?_)
    · refine callF_at (at132 (g:=fun k=>bit p k.toNat) (by have:=hs4 _ (List.getElem_mem hlt); omega) (fun k hk=>at207 ?_ ?_ q2)) ?_
      · exact (hb i k (by rw [nx_get hlt]; exact hk)).1
      · have:=(hb i k (by rw [nx_get hlt]; exact hk)).2
        omega
      rw [ixS_s hi2 q3]
      refine st_of q3 (by rw [Nat.zero_add]; exact tab_get hi2) rfl fun S5 n5 o5 f5=>?_
      rw [hadd]
      refine step _ S5 ?_ n5 (by rw [o5]; congr 3; simp [aB]) f5
      rw [bit_get hv,hvi,nx_get hlt]; simp
    · rw [ixS_s hi2 q3]
      refine st_of q3 (by rw [Nat.zero_add]; exact tab_get hi2) rfl fun S5 n5 o5 f5=>?_
      rw [hadd]
      refine step false S5 ?_ n5 (by rw [o5]; congr 3; simp [aB]) f5
      rw [bit_get hv,hvi]; simp
  · have hge:i = s.next.length:=by simp at h; omega
    subst hge
    refine ⟨_,rfl,k4,.inr ⟨S2.n,by simp [exP],by omega,by omega,?_⟩⟩
    rw [q3,exP,tab_map]
    congr 2
    refine tab_congr fun k hk=>?_
    have:k < s.next.length:=by omega
    simp [this,aB]
def OwnB (f:FuncId) (args:List AV) (l:List Bool):Prop :=
  ∀ S,ACalls Tryz.prog f args S (fun r S'=>∃ x,r = .ret x ∧ Keep S S' ∧ Own S.n S' x 4 (l.map fun b=>[aB b]))
theorem OwnB.ans {f:FuncId} {args:List AV} {l:List Bool} (h:OwnB f args l):Ans Tryz.prog f args (aL aB l):=ACalls.ans_own (f:=fun b=>.bool b) (e:=4) h
theorem OwnB.call {f:FuncId} {args:List AV} {l:List Bool} (h:OwnB f args l) {S:Store} {Q:AEnd → Store → Prop} {K:AV → Store → Prop} (k:∀ x S',Keep S S' → Own S.n S' x 4 (l.map fun b=>[aB b]) → K x S'):callF Tryz.prog f args S Q K :=
  .inl ((h S).mono fun e S' ⟨x,h1,h2,h3⟩=>by subst h1; exact k x S' h2 h3)
theorem own206 (l:List Bool) (hl:l.length < 140737488355328):OwnB 206 [aL aB l] l:=by
  intro S
  refine calls206 ?_
  unfold m206
  have main:bslN 4 1 0 [(.v (.bool false))] [] S fun v3 S_1=>appS 4 1 1 v3 (aL aB l) S_1 fun v4 S_2=>∃ x,AEnd.ret v4 = AEnd.ret x ∧ Keep S S_2 ∧ Own S.n S_2 x 4 (l.map fun b=>[aB b]):=by
    refine ⟨[],rfl,.inl ⟨rfl,l.map (fun b=>[aB b]),rfl,by simp; rintro c (⟨_,rfl⟩ | ⟨_,rfl⟩) <;> rfl,?_⟩⟩
    cases l with
    | nil=>exact ⟨_,rfl,(Keep.refl S).new _,.inr ⟨S.n,rfl,Nat.le_refl _,Nat.lt_succ_self _,by simp [chunks]⟩⟩
    | cons b l =>
      simp only [List.map_cons,appE,new_self]
      refine ⟨⟨trivial,rfl,by simp at hl ⊢; omega⟩,_,rfl,(((Keep.refl S).new _).kill (Nat.le_refl _)).new _,.inr ⟨S.n + 1,?_,Nat.le_succ _,Nat.lt_succ_self _,?_⟩⟩
      · simp
      · have:=new_self (S:=(S.new (.cells 4 (chunks 1 0 []) true)).kill S.n) (.cells 4 (chunks 1 0 [] ++ [aB b] :: l.map fun b=>[aB b]) true)
        simpa [chunks] using this
  cases l with
  | nil=>exact ⟨⟨_,rfl,Keep.refl S,.nl _ _ _⟩,main⟩
  | cons b l=>exact main
def andP (a b:List Bool):List Bool:=tab a.length fun i=>bit a i && bit b i
theorem own191 (a b:List Bool) (ha:a.length < 140737488355328) (hab:b.length = a.length):OwnB 191 [aL aB a,aL aB b] (andP a b):=by
  intro S
  refine calls191 ?_
  unfold m191
  refine OwnB.call (own206 a ha) fun x S1 k1 o1=>?_
  rw [lenS_aL]
  refine loop191_0 (fun y S'=>Keep S S' ∧ ∃ i:Nat,y = aI i ∧ i ≤ b.length ∧ Own S.n S' x 4 (tab a.length fun k=>[aB (if k < i then bit a k && bit b k else bit a k)]))
    (fun y _=>b.length - ((intA y).getD 0).toNat) ⟨k1,0,rfl,Nat.zero_le _,by
      rw [tab_bit a,tab_map] at o1; simpa using o1⟩ ?_
  rintro _ S2 ⟨k2,i,rfl,hi,o2⟩ KE hKE
  unfold b191_0 aI
  rw [bin_lss,onB_v]
  refine gd_of (fun h=>?_) (fun h=>?_)
  · have hlt:i < b.length:=by simpa using h
    have hia:i < a.length:=by omega
    obtain ⟨id,rfl,hid,hid2,q2⟩:=Own.ix o2 (i:=i) (by simpa using hia)
    have hg:=tab_get (f:=fun k=>[aB (if k < i then bit a k && bit b k else bit a k)]) hia
    have hg':(tab a.length fun k=>[aB (if k < i then bit a k && bit b k else bit a k)])[0 + i]? = some [aB (bit a i)]:=by rw [Nat.zero_add,hg]; simp
    have hi':i < (tab a.length fun k=>[aB (if k < i then bit a k && bit b k else bit a k)]).length:=by simpa using hia
    rw [ixS_aL hlt,ld1_q,ixS_s hi' q2,ld1_p q2 hg' rfl,onB_v]
    have hadd:∀ K:AV → Store → Prop,∀ S,bin .add 0 (.v (.int .i64 (i:Int))) (.v (.int .i64 1)) S K = K (aI (i + 1:Nat)) S:=fun K S=>bin_add (by omega) (by omega) 0
    have step:∀ (c:Bool) (S5:Store),c = (bit a i && bit b i) → S5.n = S2.n → S5.obj id = some (.cells 4 ((tab a.length fun k=>[aB (if k < i then bit a k && bit b k else bit a k)]).set (0 + i) [.v (.bool c)]) true) → (∀ x,x ≠ id → S5.obj x = S2.obj x) →
        KE 29 (env191_0 (.s id 0 (tab a.length fun k=>[aB (if k < i then bit a k && bit b k else bit a k)]).length) (aL aB b) (.v (.int .i64 b.length)) (aI (i + 1:Nat))) S5:=by
      intro c S5 hc n5 o5 f5
      refine hKE _ _ ⟨k2.st hid n5 f5,i + 1,rfl,hlt,.inr ⟨id,by simp,hid,by omega,?_⟩⟩ ?_
      · rw [o5,Nat.zero_add,tab_set,hc]
        congr 2
        refine tab_congr fun k hk=>?_
        by_cases e:k = i
        · subst e; simp [aB]
        · have:k < i + 1 ↔ k < i:=by omega
          simp [e,this]
      · simp [intA,aI]; omega
    refine gd_of (fun hb=>?_) (fun hb=>?_)
    · rw [ixS_s hi' q2]
      refine st_of q2 hg' rfl fun S5 n5 o5 f5=>?_
      rw [hadd]
      exact step b[i] S5 (by rw [hb,bit_get hlt]; rfl) n5 o5 f5
    · rw [ixS_s hi' q2]
      refine st_of q2 hg' rfl fun S5 n5 o5 f5=>?_
      rw [hadd]
      exact step false S5 (by rw [hb]; rfl) n5 o5 f5
  · have hge:i = b.length:=by simp at h; omega
    subst hge
    refine ⟨_,rfl,k2,?_⟩
    have e:((andP a b).map fun b=>[aB b]) = tab a.length fun k=>[aB (if k < b.length then bit a k && bit b k else bit a k)]:=by
      rw [andP,tab_map]
      refine tab_congr fun k hk=>?_
      have:k < b.length:=by omega
      simp [this]
    rw [e]
    exact o2
def rowP (s:Sp) (i:Nat):List (Nat × Nat):=if bit s.valid i then (nx s i).map fun k=>(k.toNat,i) else []
def prsTo (s:Sp):Nat → List (Nat × Nat)
  | 0=>[]
  | i + 1=>prsTo s i ++ rowP s i
def sel (P:List (Nat × Nat)) (k:Nat):List Int:=(P.filter (·.1 == k)).map fun p=>(p.2:Int)
def aheadP (s:Sp):List (List Int):=tab s.next.length (sel (prsTo s s.next.length))
theorem sel_len (P:List (Nat × Nat)) (k:Nat):(sel P k).length ≤ P.length:=by
  simp only [sel,List.length_map]
  exact List.length_filter_le _ _
theorem sel_add (P:List (Nat × Nat)) (k i k':Nat):sel (P ++ [(k,i)]) k' = if k = k' then sel P k' ++ [(i:Int)] else sel P k':=by
  by_cases h:k = k' <;> simp [sel,List.filter_append,h]
theorem rowP_len (s:Sp) (i:Nat):(rowP s i).length ≤ (nx s i).length:=by
  unfold rowP
  split <;> simp
theorem nx_len {s:Sp} (hs:s.small) (i:Nat):(nx s i).length < 1048576:=by
  by_cases h:i < s.next.length
  · rw [nx_get h]; exact hs.2.2.2 _ (List.getElem_mem h)
  · simp [nx,List.getD_eq_getElem?_getD,List.getElem?_eq_none (Nat.le_of_not_lt h)]
theorem prsTo_len {s:Sp} (hs:s.small):∀ i,(prsTo s i).length ≤ i * 1048576
  | 0=>by simp [prsTo]
  | i + 1=>by
    have h1:=prsTo_len hs i
    have h2:=rowP_len s i
    have h3:=nx_len hs i
    simp only [prsTo,List.length_append]
    omega
structure Rows2 (S:Store) (id n:Nat) (P:List (Nat × Nat)) (xs:Nat → AV):Prop where
  lt:id < S.n
  obj:S.obj id = some (.cells 34 (tab n fun k=>[xs k]) true)
  own:∀ k,k < n → Own (id + 1) S (xs k) 3 ((sel P k).map fun i=>[aI i])
  apart:∀ k k',k < n → k' < n → k ≠ k' → Apart (xs k) (xs k')
theorem Rows2.add {S:Store} {id n:Nat} {P:List (Nat × Nat)} {xs:Nat → AV} (h:Rows2 S id n P xs) {k i:Nat} (hk:k < n) {S1 S2:Store} {x:AV} (ho:Own (id + 1) S1 x 3 ((sel P k).map (fun i=>[aI i]) ++ [[aI i]])) (hb:But S S1 (xs k)) (hx:∃ m,x = .s S.n 0 m)
    (n2:S2.n = S1.n) (o2:S2.obj id = some (.cells 34 ((tab n fun k=>[xs k]).set (0 + k) [x]) true)) (f2:∀ y,y ≠ id → S2.obj y = S1.obj y):Rows2 S2 id n (P ++ [(k,i)]) (fun j=>if j = k then x else xs j) where
  lt:=by have:=h.lt; have:=hb.1; omega
  obj:=by
    rw [o2,Nat.zero_add,tab_set]
    congr 2
    refine tab_congr fun j hj=>?_
    split <;> rfl
  own j hj:=by
    have hsame:∀ {y:AV} {es:List (List AV)},Own (id + 1) S1 y 3 es → Own (id + 1) S2 y 3 es:=fun h=>h.same (by omega) (fun q h1 h2=>f2 q (by omega))
    rw [sel_add]
    by_cases e:j = k
    · subst e
      rw [if_pos rfl,if_pos rfl,List.map_append]
      exact hsame ho
    · rw [if_neg e,if_neg (Ne.symm e)]
      exact hsame ((h.own j hj).but hb (h.apart k j hk hj (Ne.symm e)))
  apart j j' hj hj' hne:=by
    obtain ⟨m,rfl⟩:=hx
    have hlt:∀ q,q < n → ∀ i b m,xs q = .s i b m → i < S.n:=by
      intro q hq i b m e
      rcases h.own q hq with ⟨h1,_⟩ | ⟨id',h1,h2,h3,h4⟩
      · rw [h1] at e; cases e
      · rw [h1] at e; cases e; exact h3
    intro i b m1 b' m' e1 e2
    by_cases ej:j = k
    · by_cases ej':j' = k
      · omega
      · simp only [ej,if_pos,if_neg ej'] at e1 e2
        cases e1
        have:=hlt j' hj' _ _ _ e2
        omega
    · by_cases ej':j' = k
      · simp only [ej',if_pos,if_neg ej] at e1 e2
        cases e2
        have:=hlt j hj _ _ _ e1
        omega
      · simp only [if_neg ej,if_neg ej'] at e1 e2
        exact h.apart j j' hj hj' hne _ _ _ _ _ e1 e2
theorem Rows2.cv {S:Store} {id n:Nat} {P:List (Nat × Nat)} {xs:Nat → AV} (h:Rows2 S id n P xs) {m:Nat} (hm:m ≤ id):Cv (S.frz (newer m)) m (.s id 0 n) (aL (aL aI) (tab n (sel P))):=by
  have ho:Own m S (.s id 0 (tab n fun k=>[xs k]).length) 34 (tab n fun k=>[xs k]):=.inr ⟨id,rfl,hm,h.lt,h.obj⟩
  rw [tab_len] at ho
  refine ho.cv rfl (by simp) fun i c c2 hc hc2=>?_
  have hi:i < n:=by
    have:=(List.getElem?_eq_some_iff.1 hc).1
    simpa using this
  rw [tab_get hi] at hc
  rw [tab_map,tab_get hi] at hc2
  cases hc
  cases hc2
  refine ⟨rfl,fun k u u2 hk hk2=>?_⟩
  cases k with
  | zero =>
    cases hk
    cases hk2
    exact Own.cv_v (f:=fun i:Int=>.int .i64 i) ((h.own i hi).low (by omega))
  | succ k=>simp at hk
theorem ans208 {s:Sp} {p:List Bool} (hf:Fit s p):Ans Tryz.prog 208 [s.av] (aL (aL aI) (aheadP s)):=by
  intro S
  refine ACalls.tree (calls208 ?_)
  have hs:=hf.small
  obtain ⟨⟨hs1,hs2,hs3,hs4⟩,hn,hl,_,hb⟩:=hf
  unfold m208 Sp.av
  refine boxA_of rfl fun S1 k1 n1 o1=>?_
  rw [shift_p,ld1_p o1 rfl rfl,lenS_aL]
  refine mk_of (by omega) (by omega) fun S2 k2 n2 o2=>?_
  have p1:=(k2.2 S.n (by omega)).trans o1
  rw [shift_p,ld1_p p1 rfl rfl,lenS_aL]
  refine loop208_0 (fun y S'=>Keep S S' ∧ S'.obj S.n = some (.cells 71 [s.cells] true) ∧ ∃ i:Nat,y = aI i ∧ i ≤ s.next.length ∧ ∃ xs,Rows2 S' S1.n s.next.length (prsTo s i) xs)
    (fun y _=>s.next.length - ((intA y).getD 0).toNat) ⟨k1.trans k2,p1,0,rfl,Nat.zero_le _,fun _=>.nl,⟨by omega,by rw [o2,tab_rep],fun k hk=>.nl _ _ _,fun k k' _ _ _ i b m b' m' e=>by cases e⟩⟩ ?_
  rintro _ S3 ⟨k3,q3,i,rfl,hi,xs,hR⟩ KE hKE
  unfold b208_0
  rw [bin_lss,onB_v]
  refine gd_of (fun h=>?_) (fun h=>?_)
  · have hlt:i < s.next.length:=by simpa using h
    have hv:i < s.valid.length:=by omega
    have hrow:(nx s i).length < 1048576:=nx_len hs i
    rw [ixS_aL hlt,ld1_q,lenS_aL,← nx_get hlt]
    refine loop208_1 (fun y S'=>Keep S S' ∧ S'.obj S.n = some (.cells 71 [s.cells] true) ∧ ∃ j:Nat,y = aI j ∧ j ≤ (nx s i).length ∧ ∃ xs,Rows2 S' S1.n s.next.length (prsTo s i ++ (rowP s i).take j) xs)
      (fun y _=>(nx s i).length - ((intA y).getD 0).toNat) ⟨k3,q3,0,rfl,Nat.zero_le _,xs,by simpa using hR⟩ ?_
    rintro _ S4 ⟨k4,q4,j,rfl,hj,ys,hR4⟩ KE1 hKE1
    unfold b208_1
    rw [bin_lss,onB_v]
    refine gd_of (fun h=>?_) (fun h=>?_)
    · have hjl:j < (nx s i).length:=by simpa using h
      rw [ixS_aL hjl,ld1_q,shift_p,ld1_p q4 rfl rfl,ixS_aL hv,ld1_q,onB_v]
      have hadd:∀ K:AV → Store → Prop,∀ S,bin .add 0 (.v (.int .i64 (j:Int))) (.v (.int .i64 1)) S K = K (aI (j + 1:Nat)) S:=fun K S=>bin_add (by omega) (by omega) 0
      have hμ:(nx s i).length - ((intA (aI (j + 1:Nat))).getD 0).toNat < (nx s i).length - ((intA (aI j)).getD 0).toNat:=by simp [intA]; omega
      refine gd_of (fun hvi=>?_) (fun hvi=>?_)
      · have hkb:=hb i _ (List.getElem_mem hjl)
        obtain ⟨k,hk⟩:=Int.eq_ofNat_of_zero_le hkb.1
        have hkn:k < s.next.length:=by rw [hk] at hkb; omega
        have hrp:(rowP s i).take (j + 1) = (rowP s i).take j ++ [(k,i)]:=by
          have hlen:j < (rowP s i).length:=by simp [rowP,bit_get hv,hvi,hjl]
          rw [List.take_add_one,List.getElem?_eq_getElem hlen]
          have:(rowP s i)[j] = (k,i):=by
            have:(rowP s i) = (nx s i).map fun k=>(k.toNat,i):=by simp [rowP,bit_get hv,hvi]
            simp [this,hk]
          rw [this]; rfl
        rw [hk,ixS_s hkn hR4.obj,ld1_p hR4.obj (by rw [Nat.zero_add]; exact tab_get hkn) rfl]
        refine bsl1 rfl (fun _ h=>by cases h) ?_
        have hsl:=sel_len (prsTo s i ++ (rowP s i).take j) k
        have hpl:=prsTo_len hs i
        have hrl:=rowP_len s i
        refine (hR4.own k hkn).app (b:=8) (c:=[aI i]) (y:=.l [[aI i]]) (by have:=hR4.lt; omega) rfl (by simp at hsl ⊢; omega) (fun x S5 ho5 hb5 hx5=>?_) rfl
        have o5:S5.obj S1.n = some (.cells 34 (tab s.next.length fun k=>[ys k]) true):=by
          rw [hb5.2 S1.n hR4.lt (fun b m e=>?_)]
          · exact hR4.obj
          · rcases hR4.own k hkn with ⟨h1,_⟩ | ⟨id',h1,h2,h3,h4⟩
            · rw [h1] at e; cases e
            · rw [h1] at e; cases e; omega
        have q5:S5.obj S.n = some (.cells 71 [s.cells] true):=by
          rw [hb5.2 S.n (by have:=hR4.lt; omega) (fun b m e=>?_)]
          · exact q4
          · rcases hR4.own k hkn with ⟨h1,_⟩ | ⟨id',h1,h2,h3,h4⟩
            · rw [h1] at e; cases e
            · rw [h1] at e; cases e; omega
        have k5:Keep S S5:=(hR4.own k hkn).keep (S0:=S) (by omega) hb5 k4
        rw [ixS_s hkn o5]
        obtain ⟨m5,hm5⟩:=hx5
        refine st_of o5 (by rw [Nat.zero_add]; exact tab_get hkn) (by rw [hm5]; rfl) fun S6 n6 o6 f6=>?_
        rw [hadd]
        refine hKE1 _ _ ⟨k5.st (by omega) n6 f6,(f6 _ (by omega)).trans q5,j + 1,rfl,hjl,fun q=>if q = k then x else ys q,?_⟩ hμ
        rw [hrp,← List.append_assoc]
        exact hR4.add hkn ho5 hb5 ⟨m5,hm5⟩ n6 o6 f6
      · rw [hadd]
        refine hKE1 _ _ ⟨k4,q4,j + 1,rfl,hjl,ys,?_⟩ hμ
        have:rowP s i = []:=by simp [rowP,bit_get hv,hvi]
        rw [this] at hR4 ⊢
        simpa using hR4
    · have hge:j = (nx s i).length:=by simp at h; omega
      subst hge
      rw [bin_add (by omega) (by omega)]
      refine hKE _ _ ⟨k4,q4,i + 1,rfl,hlt,ys,?_⟩ (by simp [intA]; omega)
      rw [List.take_of_length_le (rowP_len s i)] at hR4
      exact hR4
  · have hge:i = s.next.length:=by simp at h; omega
    subst hge
    refine ⟨_,rfl,k3,hR.cv (by omega)⟩
inductive Reach (s:Sp) (p q:List Bool):Nat → Prop
  | base (i:Nat) (h1:bit q i = true) (h2:bit s.valid i = true):Reach s p q i
  | step (i k:Nat) (h1:bit p i = true) (h2:bit s.valid i = true) (h3:(k:Int) ∈ nx s i) (h:Reach s p q k):Reach s p q i
open Classical in
noncomputable def euP (s:Sp) (p q:List Bool):List Bool:=tab q.length fun i=>decide (Reach s p q i)
theorem nodup_lt:∀ (n:Nat) (l:List Nat),l.Nodup → (∀ x ∈ l,x < n) → l.length ≤ n
  | 0,l,_,h=>by
    cases l with
    | nil=>simp
    | cons x l=>exact absurd (h x (by simp)) (Nat.not_lt_zero _)
  | n + 1,l,hd,h=>by
    have h1:=nodup_lt n (l.erase n) (hd.erase n) (fun x hx=>by
      have:=(hd.mem_erase_iff).1 hx
      have:=h x this.2
      omega)
    by_cases hm:n ∈ l
    · have:=List.length_erase_of_mem hm
      omega
    · rw [List.erase_of_not_mem hm] at h1
      omega
theorem mem_rowP {s:Sp} {i c j:Nat}:(c,j) ∈ rowP s i ↔ j = i ∧ bit s.valid i = true ∧ ∃ k ∈ nx s i,k.toNat = c:=by
  unfold rowP
  split
  · rename_i h
    simp only [List.mem_map,Prod.mk.injEq,h,true_and]
    constructor
    · rintro ⟨k,h1,h2,h3⟩; exact ⟨h3.symm,k,h1,h2⟩
    · rintro ⟨h3,k,h1,h2⟩; exact ⟨k,h1,h2,h3.symm⟩
  · rename_i h
    simp [h]
theorem mem_prsTo {s:Sp} {c j:Nat}:∀ {i:Nat},(c,j) ∈ prsTo s i ↔ j < i ∧ bit s.valid j = true ∧ ∃ k ∈ nx s j,k.toNat = c
  | 0=>by simp [prsTo]
  | i + 1=>by
    rw [prsTo,List.mem_append,mem_prsTo,mem_rowP]
    constructor
    · rintro (⟨h1,h2⟩ | ⟨rfl,h2⟩)
      · exact ⟨by omega,h2⟩
      · exact ⟨by omega,h2⟩
    · rintro ⟨h1,h2⟩
      by_cases e:j = i
      · subst e; exact .inr ⟨rfl,h2⟩
      · exact .inl ⟨by omega,h2⟩
theorem mem_sel {P:List (Nat × Nat)} {c:Nat} {x:Int}:x ∈ sel P c ↔ ∃ j:Nat,x = j ∧ (c,j) ∈ P:=by
  simp only [sel,List.mem_map,List.mem_filter,beq_iff_eq]
  constructor
  · rintro ⟨⟨a,b⟩,⟨h1,rfl⟩,h3⟩; exact ⟨b,h3.symm,h1⟩
  · rintro ⟨j,rfl,h⟩; exact ⟨(c,j),⟨h,rfl⟩,rfl⟩
structure Found (s:Sp) (p q:List Bool) (n:Nat) (out:Nat → Bool) (come:List Nat):Prop where
  nodup:come.Nodup
  lt:∀ x ∈ come,x < n
  out:∀ i,i < n → (out i = true ↔ i ∈ come)
  reach:∀ x ∈ come,Reach s p q x
  base:∀ i,i < n → bit q i = true → bit s.valid i = true → i ∈ come
def Shut (s:Sp) (p:List Bool) (come:List Nat) (c:Nat):Prop:=∀ i,i < s.next.length → bit s.valid i = true → (c:Int) ∈ nx s i → bit p i = true → i ∈ come
theorem Found.len {s:Sp} {p q:List Bool} {n:Nat} {out:Nat → Bool} {come:List Nat} (h:Found s p q n out come):come.length ≤ n:=nodup_lt n come h.nodup h.lt
theorem Found.add {s:Sp} {p q:List Bool} {n:Nat} {out:Nat → Bool} {come:List Nat} (h:Found s p q n out come) {i:Nat} (hi:i < n) (ho:out i = false) (hr:Reach s p q i):Found s p q n (fun k=>if k = i then true else out k) (come ++ [i]) where
  nodup:=by
    rw [List.nodup_append]
    refine ⟨h.nodup,by simp,fun a ha b hb=>?_⟩
    simp only [List.mem_singleton] at hb
    subst hb
    rintro rfl
    rw [(h.out _ hi).2 ha] at ho
    cases ho
  lt x hx:=by
    rcases List.mem_append.1 hx with hx | hx
    · exact h.lt x hx
    · simp only [List.mem_singleton] at hx; omega
  out k hk:=by
    by_cases e:k = i
    · subst e; simp
    · simp [e,h.out k hk]
  reach x hx:=by
    rcases List.mem_append.1 hx with hx | hx
    · exact h.reach x hx
    · simp only [List.mem_singleton] at hx; subst hx; exact hr
  base k hk h1 h2:=List.mem_append_left _ (h.base k hk h1 h2)
theorem Shut.more {s:Sp} {p:List Bool} {come:List Nat} {c:Nat} (h:Shut s p come c) (x:Nat):Shut s p (come ++ [x]) c:=fun i h1 h2 h3 h4=>List.mem_append_left _ (h i h1 h2 h3 h4)
theorem Found.done {s:Sp} {p q:List Bool} {n:Nat} {out:Nat → Bool} {come:List Nat} (h:Found s p q n out come) (hn:s.valid.length = n) (hn':s.next.length = n) (hs:∀ c ∈ come,Shut s p come c) {i:Nat} (hi:i < n):out i = true ↔ Reach s p q i:=by
  rw [h.out i hi]
  refine ⟨h.reach i,fun hr=>?_⟩
  clear hi
  have hlt:∀ i,bit s.valid i = true → i < n:=by
    intro i hb
    rcases Nat.lt_or_ge i n with h | h
    · exact h
    · rw [bit,List.getD_eq_getElem?_getD,List.getElem?_eq_none (by omega)] at hb
      cases hb
  induction hr with
  | base i h1 h2=>exact h.base i (hlt i h2) h1 h2
  | step i k h1 h2 h3 hr ih=>exact hs k ih i (by have:=hlt i h2; omega) h2 h3 h1
theorem own193 {s:Sp} {p q:List Bool} (hfp:Fit s p) (hfq:Fit s q):OwnB 193 [s.av,aL aB p,aL aB q] (euP s p q):=by
  intro S
  refine calls193 ?_
  obtain ⟨⟨hs1,hs2,hs3,hs4⟩,hn,hl,_,hb⟩:=hfq
  have hlp:=hfp.len
  unfold m193 Sp.av
  refine boxA_of rfl fun S1 k1 n1 o1=>?_
  rw [shift_p,ld1_p o1 rfl rfl]
  refine OwnB.call (own191 q s.valid (by omega) (by omega)) fun x S2 k2 w2=>?_
  have hlen:∀ f:Nat → Bool,((tab q.length f).map fun b=>[aB b]) = tab q.length fun i=>[aB (f i)]:=fun f=>tab_map
  rw [andP,hlen] at w2
  rw [w2.len,tab_len]
  have p2:=(k2.2 S.n (by omega)).trans o1
  replace w2:Own S1.n S2 x 4 (tab q.length fun k=>[aB ((fun i=>bit q i && bit s.valid i) k)]):=w2
  generalize ho0:(fun i=>bit q i && bit s.valid i) = o0 at *
  refine loop193_0 (fun y z S'=>Keep S S' ∧ S'.obj S.n = some (.cells 71 [s.cells] true) ∧ ∃ i:Nat,z = aI i ∧ i ≤ q.length ∧ Own S1.n S' x 4 (tab q.length fun k=>[aB (o0 k)]) ∧
      Own S1.n S' y 3 (((List.range i).filter o0).map fun i:Nat=>[aI i]) ∧ Apart y x)
    (fun _ y _=>q.length - ((intA y).getD 0).toNat) ⟨k1.trans k2,p2,0,rfl,Nat.zero_le _,w2,.nl _ _ _,fun i b m b' m' e=>by cases e⟩ ?_
  rintro y _ S3 ⟨k3,q3,i,rfl,hi,wx,wy,hap⟩ KE hKE
  unfold b193_0
  rw [bin_lss,onB_v]
  refine gd_of (fun h=>?_) (fun h=>?_)
  · have hlt:i < q.length:=by simpa using h
    obtain ⟨id,rfl,hid,hid2,qx⟩:=Own.ix wx (i:=i) (by simpa using hlt)
    rw [ixS_s (by simpa using hlt) qx,ld1_p qx (by rw [Nat.zero_add]; exact tab_get hlt) rfl,onB_v]
    have hadd:∀ K:AV → Store → Prop,∀ S,bin .add 0 (.v (.int .i64 (i:Int))) (.v (.int .i64 1)) S K = K (aI (i + 1:Nat)) S:=fun K S=>bin_add (by omega) (by omega) 0
    have hμ:q.length - ((intA (aI (i + 1:Nat))).getD 0).toNat < q.length - ((intA (aI i)).getD 0).toNat:=by simp [intA]; omega
    refine gd_of (fun hoi=>?_) (fun hoi=>?_)
    · refine bsl1 rfl (fun _ h=>by cases h) ?_
      have hfl:=List.length_filter_le o0 (List.range i)
      refine wy.app (b:=8) (c:=[aI i]) (y:=.l [[aI i]]) (by omega) rfl (by simp at hfl ⊢; omega) (fun x' S5 ho5 hb5 hx5=>?_) rfl
      rw [hadd]
      obtain ⟨m5,rfl⟩:=hx5
      refine hKE _ _ _ ⟨wy.keep (by omega) hb5 k3,?_,i + 1,rfl,hlt,wx.but hb5 hap,?_,?_⟩ hμ
      · rw [hb5.2 S.n (by have:=k3.1; omega) (fun b m e=>by have:=wy.lt e; omega)]
        exact q3
      · rw [List.range_succ,List.filter_append]
        simpa [hoi] using ho5
      · intro a b m b' m' e1 e2
        cases e1
        cases e2
        omega
    · rw [hadd]
      refine hKE _ _ _ ⟨k3,q3,i + 1,rfl,hlt,wx,?_,hap⟩ hμ
      rw [List.range_succ,List.filter_append]
      simpa [hoi] using wy
  · have hge:i = q.length:=by simp at h; omega
    subst hge
    rw [ldN_p (n:=5) q3 rfl]
    refine callF_ans (ans208 hfp) ?_
    have hF0:Found s p q q.length o0 ((List.range q.length).filter o0):=by
      refine ⟨List.nodup_range.filter _,fun x hx=>?_,fun i hi=>by simp [hi],fun x hx=>?_,fun i hi h1 h2=>?_⟩
      · simpa using (List.mem_filter.1 hx).1
      · have:=(List.mem_filter.1 hx).2
        rw [← ho0] at this
        simp only [Bool.and_eq_true] at this
        exact .base x this.1 this.2
      · rw [List.mem_filter,← ho0]
        simp [hi,h1,h2]
    refine loop193_1 (fun y z S'=>Keep S S' ∧ ∃ (m:Nat) (out:Nat → Bool) (come:List Nat),z = aI m ∧ m ≤ come.length ∧ Own S1.n S' x 4 (tab q.length fun k=>[aB (out k)]) ∧
        Own S1.n S' y 3 (come.map fun i:Nat=>[aI i]) ∧ Apart y x ∧ Found s p q q.length out come ∧ ∀ m' c,m' < m → come[m']? = some c → Shut s p come c)
      (fun _ z _=>q.length - ((intA z).getD 0).toNat) ⟨k3,0,o0,_,rfl,Nat.zero_le _,wx,wy,hap,hF0,fun m' c h=>absurd h (Nat.not_lt_zero _)⟩ ?_
    clear KE hKE hF0 hap wy wx hi q3 k3 h y S3
    rintro y _ S3 ⟨k3,m,out,come,rfl,hm,wx,wy,hap,hF,hsh⟩ KE hKE
    unfold b193_1
    rw [wy.len,bin_lss,onB_v]
    have hcl:=hF.len
    refine gd_of (fun h=>?_) (fun h=>?_)
    · have hlt:m < come.length:=by simpa using h
      obtain ⟨id,rfl,hid,hid2,qy⟩:=Own.ix wy (i:=m) (by simpa using hlt)
      obtain ⟨c,hc⟩:∃ c,come[m]? = some c:=⟨_,List.getElem?_eq_getElem hlt⟩
      have hcn:=hF.lt c (List.mem_of_getElem? hc)
      have hcA:c < (aheadP s).length:=by simp [aheadP]; omega
      rw [ixS_s (by simpa using hlt) qy,ld1_p qy (c:=[aI c]) (u:=aI c) (by simp [hc]) rfl,ixS_aL hcA,ld1_q,lenS_aL]
      generalize hL:(aheadP s)[c] = L
      have hLc:L = sel (prsTo s s.next.length) c:=by rw [← hL]; simp [aheadP,tab]
      have hLl:L.length ≤ 9223372036854775807:=by
        have h1:=sel_len (prsTo s s.next.length) c
        have h2:=prsTo_len hfp.small s.next.length
        rw [hLc]
        omega
      refine loop193_2 (fun y z S'=>Keep S S' ∧ ∃ (j:Nat) (out:Nat → Bool) (come:List Nat),z = aI j ∧ j ≤ L.length ∧ m < come.length ∧ come[m]? = some c ∧ Own S1.n S' x 4 (tab q.length fun k=>[aB (out k)]) ∧
          Own S1.n S' y 3 (come.map fun i:Nat=>[aI i]) ∧ Apart y x ∧ Found s p q q.length out come ∧ (∀ m' c,m' < m → come[m']? = some c → Shut s p come c) ∧ ∀ (j' i:Nat),j' < j → L[j']? = some (i:Int) → bit p i = true → i ∈ come)
        (fun _ z _=>L.length - ((intA z).getD 0).toNat) ⟨k3,0,out,come,rfl,Nat.zero_le _,hlt,hc,wx,wy,hap,hF,hsh,fun j' i h=>absurd h (Nat.not_lt_zero _)⟩ ?_
      clear hsh hF hap wy wx hm k3 h hcl qy hid hid2 hlt hc
      rintro y _ S4 ⟨k4,j,out,come,rfl,hj,hlt,hc,wx,wy,hap,hF,hsh,hjs⟩ KE2 hKE2
      unfold b193_2
      rw [bin_lss,onB_v]
      have hcl:=hF.len
      refine gd_of (fun h=>?_) (fun h=>?_)
      · have hjl:j < L.length:=by simpa using h
        have hmem:L[j] ∈ sel (prsTo s s.next.length) c:=by rw [← hLc]; exact List.getElem_mem hjl
        obtain ⟨i,hi,hpr⟩:=mem_sel.1 hmem
        obtain ⟨hin,hiv,k,hk,hkc⟩:=mem_prsTo.1 hpr
        have hin':i < q.length:=by omega
        have hip:i < p.length:=by omega
        have hck:(c:Int) ∈ nx s i:=by
          have:=(hb i k hk).1
          rw [← hkc,Int.toNat_of_nonneg this]; exact hk
        have hadd:∀ K:AV → Store → Prop,∀ S,bin .add 0 (.v (.int .i64 (j:Int))) (.v (.int .i64 1)) S K = K (aI (j + 1:Nat)) S:=fun K S=>bin_add (by omega) (by omega) 0
        have hμ:L.length - ((intA (aI (j + 1:Nat))).getD 0).toNat < L.length - ((intA (aI j)).getD 0).toNat:=by simp [intA]; omega
        obtain ⟨id,rfl,hid,hid2,qx⟩:=Own.ix wx (i:=i) (by simpa using hin')
        have hjs':(bit p i = true → i ∈ come) → ∀ (j' i:Nat),j' < j + 1 → L[j']? = some (i:Int) → bit p i = true → i ∈ come:=by
          intro hh j' i' h1 h2 h3
          by_cases e:j' = j
          · subst e
            rw [List.getElem?_eq_getElem hjl,hi] at h2
            have:i = i':=by simpa [Int.ofNat_inj] using h2
            subst this
            exact hh h3
          · exact hjs j' i' (by omega) h2 h3
        rw [ixS_aL hjl,ld1_q,hi,ixS_s (by simpa using hin') qx,ld1_p qx (by rw [Nat.zero_add]; exact tab_get hin') rfl,un_not,onB_v]
        refine gd_of (fun hoi=>?_) (fun hoi=>?_)
        · have hoi:out i = false:=by simpa using hoi
          rw [ixS_aL hip,ld1_q,onB_v]
          refine gd_of (fun hpi=>?_) (fun hpi=>?_)
          · rw [← bit_get hip] at hpi
            rw [ixS_s (by simpa using hin') qx]
            refine st_of qx (by rw [Nat.zero_add]; exact tab_get hin') rfl fun S5 n5 o5 f5=>?_
            refine bsl1 rfl (fun _ h=>by cases h) ?_
            have wy5:=wy.st (S':=S5) (id:=id) (fun b m e=>hap _ _ _ _ _ e rfl) n5 f5
            refine wy5.app (b:=8) (c:=[aI i]) (y:=.l [[aI i]]) (by omega) rfl (by simp; omega) (fun x' S6 ho6 hb6 hx6=>?_) rfl
            rw [hadd]
            obtain ⟨m6,rfl⟩:=hx6
            have wx5:Own S1.n S5 (.s id 0 (tab q.length fun k=>[aB (out k)]).length) 4 (tab q.length fun k=>[aB (if k = i then true else out k)]):=by
              refine .inr ⟨id,by simp,hid,by omega,?_⟩
              rw [o5,Nat.zero_add,tab_set]
              congr 2
              refine tab_congr fun k hk=>?_
              split <;> rfl
            have hr:Reach s p q i:=.step i c hpi hiv hck (hF.reach c (List.mem_of_getElem? hc))
            have hget:∀ {m' c':Nat},m' < come.length → (come ++ [i])[m']? = some c' → come[m']? = some c':=fun h1 h2=>by rwa [List.getElem?_append_left h1] at h2
            refine hKE2 _ _ _ ⟨wy5.keep (by omega) hb6 (k4.st (by omega) n5 f5),j + 1,_,come ++ [i],rfl,hjl,by simp; omega,by rw [List.getElem?_append_left hlt]; exact hc,wx5.but hb6 hap,by simpa using ho6,?_,hF.add hin' hoi hr,?_,?_⟩ hμ
            · intro a b m b' m' e1 e2
              cases e1
              cases e2
              omega
            · intro m' c' h1 h2
              exact (hsh m' c' h1 (hget (by omega) h2)).more i
            · intro j' i' h1 h2 h3
              by_cases e:j' = j
              · subst e
                rw [List.getElem?_eq_getElem hjl,hi] at h2
                have:i = i':=by simpa [Int.ofNat_inj] using h2
                subst this
                simp
              · exact List.mem_append_left _ (hjs j' i' (by omega) h2 h3)
          · rw [← bit_get hip] at hpi
            rw [hadd]
            exact hKE2 _ _ _ ⟨k4,j + 1,out,come,rfl,hjl,hlt,hc,wx,wy,hap,hF,hsh,hjs' (fun h=>by rw [hpi] at h; cases h)⟩ hμ
        · have hoi:out i = true:=by simpa using hoi
          rw [hadd]
          exact hKE2 _ _ _ ⟨k4,j + 1,out,come,rfl,hjl,hlt,hc,wx,wy,hap,hF,hsh,hjs' (fun h=>(hF.out i hin').1 hoi)⟩ hμ
      · have hge:j = L.length:=by simp at h; omega
        subst hge
        rw [bin_add (by omega) (by omega)]
        refine hKE _ _ _ ⟨k4,m + 1,out,come,rfl,hlt,wx,wy,hap,hF,?_⟩ (by simp [intA]; omega)
        intro m' c' h1 h2
        by_cases e:m' = m
        · subst e
          rw [hc] at h2
          cases h2
          intro i h3 h4 h5 h6
          have:(i:Int) ∈ L:=by
            rw [hLc]
            exact mem_sel.2 ⟨i,rfl,mem_prsTo.2 ⟨h3,h4,c,h5,by simp⟩⟩
          obtain ⟨j',hj',e⟩:=List.mem_iff_getElem.1 this
          exact hjs j' i hj' (by rw [List.getElem?_eq_getElem hj',e]) h6
        · exact hsh m' c' (by omega) h2
    · have hge:m = come.length:=by simp at h; omega
      subst hge
      refine ⟨_,rfl,k3,?_⟩
      have e:((euP s p q).map fun b=>[aB b]) = tab q.length fun k=>[aB (out k)]:=by
        rw [euP,tab_map]
        refine tab_congr fun i hi=>?_
        have hd:=hF.done (by omega) (by omega) (fun c hc=>by
          obtain ⟨m',hm',rfl⟩:=List.mem_iff_getElem.1 hc
          exact hsh m' _ hm' (List.getElem?_eq_getElem hm')) hi
        congr 2
        cases ho:out i with
        | true=>simpa using hd.1 ho
        | false=>simpa using fun hr=>by rw [hd.2 hr] at ho; cases ho
      rw [e]
      exact wx.low (by omega)
theorem ans209 (b:Bool) {l:List Bool} (hl:l.length ≤ 9223372036854775807):Ans Tryz.prog 209 [aL aB l,aB b] (aI (idxOf (l.findIdx? (b == ·)))):=by
  intro S
  refine calls209 ?_
  unfold m209
  rw [lenS_aL]
  refine loop209_0 (fun y S'=>S' = S ∧ ∃ i:Nat,y = aI i ∧ i ≤ l.length ∧ ∀ k (hk:k < l.length),k < i → (b == l[k]) = false) (fun y _=>l.length - ((intA y).getD 0).toNat) ⟨rfl,0,rfl,Nat.zero_le _,fun k _ h=>absurd h (Nat.not_lt_zero _)⟩ ?_
  rintro _ _ ⟨rfl,i,rfl,hi,hk⟩ KE hKE
  unfold b209_0
  rw [bin_lss,onB_v]
  refine gd_of (fun h=>?_) (fun h=>?_)
  · have hlt:i < l.length:=by simpa using h
    rw [ixS_aL hlt,ld1_q,bin_eqlB,onB_v]
    refine gd_of (fun hg=>⟨?_,rfl⟩) (fun hg=>?_)
    · rw [find_at (g:=(b == ·)) hlt hg (fun k hk'=>hk k _ hk')]; rfl
    · rw [bin_add (by omega) (by omega)]
      refine hKE _ _ ⟨rfl,i + 1,rfl,hlt,fun k hk1 hk2=>?_⟩ ?_
      · by_cases e:k = i
        · subst e; exact hg
        · exact hk k hk1 (by omega)
      · simp [intA]; omega
  · have hge:i = l.length:=by simp at h; omega
    subst hge
    rw [find_none (g:=(b == ·)) (fun k hk'=>hk k hk' hk')]
    exact ⟨rfl,rfl⟩
theorem ans194 (b:Bool) {l:List Bool} (hl:l.length ≤ 9223372036854775807):Ans Tryz.prog 194 [aL aB l,aB b] (aB (l.any (b == ·))):=by
  intro S
  refine calls194 ?_
  unfold m194
  refine callF_ans (ans209 b hl) ?_
  rw [bin_geq,idx_any]
  exact ⟨rfl,rfl⟩
theorem ans195 {a b:List Bool} (hl:a.length ≤ 9223372036854775807):Ans Tryz.prog 195 [aL aB a,aL aB b] (aB (decide (a = b))):=by
  intro S
  refine calls195 ?_
  unfold m195
  rw [lenS_aL,lenS_aL,bin_neq,onB_v]
  refine gd_of (fun h=>⟨?_,rfl⟩) (fun h=>?_)
  · have:¬ a = b:=fun e=>by subst e; simp at h
    simp [this]
  have hab:a.length = b.length:=by simp at h; omega
  rw [lenS_aL]
  refine loop195_0 (fun y S'=>S' = S ∧ ∃ i:Nat,y = aI i ∧ i ≤ a.length ∧ ∀ k,k < i → a[k]? = b[k]?) (fun y _=>a.length - ((intA y).getD 0).toNat) ⟨rfl,0,rfl,Nat.zero_le _,fun k h=>absurd h (Nat.not_lt_zero _)⟩ ?_
  rintro _ _ ⟨rfl,i,rfl,hi,hk⟩ KE hKE
  unfold b195_0
  rw [bin_lss,onB_v]
  refine gd_of (fun h=>?_) (fun h=>?_)
  · have hlt:i < a.length:=by simpa using h
    have hlt':i < b.length:=by omega
    refine ⟨_,by rw [ixS_aL hlt]; exact ⟨rfl,rfl⟩,_,by rw [ld1_q]; exact ⟨rfl,rfl⟩,_,by rw [ixS_aL hlt']; exact ⟨rfl,rfl⟩,_,by rw [ld1_q]; exact ⟨rfl,rfl⟩,_,by rw [bin_neqB]; exact ⟨rfl,rfl⟩,?_⟩
    rw [onB_v]
    refine gd_of (fun hg=>⟨?_,rfl⟩) (fun hg=>?_)
    · have:¬ a = b:=fun e=>by subst e; simp at hg
      simp [this]
    · rw [bin_add (by omega) (by omega)]
      refine hKE _ _ ⟨rfl,i + 1,rfl,hlt,fun k hk2=>?_⟩ ?_
      · by_cases e:k = i
        · subst e
          rw [List.getElem?_eq_getElem hlt,List.getElem?_eq_getElem hlt']
          simpa using hg
        · exact hk k (by omega)
      · simp [intA]; omega
  · have hge:i = a.length:=by simp at h; omega
    subst hge
    have:a = b:=by
      apply List.ext_getElem?
      intro k
      by_cases hk':k < a.length
      · exact hk k hk'
      · rw [List.getElem?_eq_none (by omega),List.getElem?_eq_none (by omega)]
    exact ⟨by simp [this],rfl⟩
theorem bit_ge {p:List Bool} {i:Nat} (h:p.length ≤ i):bit p i = false:=by simp [bit,List.getD_eq_getElem?_getD,h]
theorem bit_lt {p:List Bool} {i:Nat} (h:bit p i = true):i < p.length:=by
  rcases Nat.lt_or_ge i p.length with h' | h'
  · exact h'
  · rw [bit_ge h'] at h; cases h
theorem bit_tab {n:Nat} {f:Nat → Bool} {i:Nat} (h:i < n):bit (tab n f) i = f i:=by rw [bit,List.getD_eq_getElem?_getD,tab_get h]; rfl
theorem bit_and (a b:List Bool) (i:Nat):bit (andP a b) i = (bit a i && bit b i):=by
  rcases Nat.lt_or_ge i a.length with h | h
  · rw [andP,bit_tab h]
  · rw [bit_ge (by simpa [andP] using h),bit_ge h]; rfl
@[simp] theorem andP_len (a b:List Bool):(andP a b).length = a.length:=by simp [andP]
@[simp] theorem exP_len (s:Sp) (p:List Bool):(exP s p).length = p.length:=by simp [exP]
@[simp] theorem euP_len (s:Sp) (p q:List Bool):(euP s p q).length = q.length:=by simp [euP]
theorem bit_ex {s:Sp} {p:List Bool} {i:Nat}:bit (exP s p) i = true ↔ i < p.length ∧ bit s.valid i = true ∧ ∃ k ∈ nx s i,bit p k.toNat = true:=by
  constructor
  · intro h
    have hi:i < p.length:=by simpa using bit_lt h
    rw [exP,bit_tab hi] at h
    simpa [hi] using h
  · rintro ⟨hi,h⟩
    rw [exP,bit_tab hi]
    simpa using h
theorem bit_eu {s:Sp} {p q:List Bool} {i:Nat}:bit (euP s p q) i = true ↔ i < q.length ∧ Reach s p q i:=by
  constructor
  · intro h
    have hi:i < q.length:=by simpa using bit_lt h
    rw [euP,bit_tab hi] at h
    exact ⟨hi,by simpa using h⟩
  · rintro ⟨hi,h⟩
    rw [euP,bit_tab hi]
    simpa using h
def Sub (a b:List Bool):Prop:=∀ i,bit a i = true → bit b i = true
theorem Sub.refl (a:List Bool):Sub a a:=fun _ h=>h
theorem Sub.trans {a b c:List Bool} (h:Sub a b) (k:Sub b c):Sub a c:=fun i hi=>k i (h i hi)
theorem Reach.mono {s:Sp} {p q p' q':List Bool} (hp:Sub p p') (hq:Sub q q') {i:Nat} (h:Reach s p q i):Reach s p' q' i:=by
  induction h with
  | base i h1 h2=>exact .base i (hq i h1) h2
  | step i k h1 h2 h3 h ih=>exact .step i k (hp i h1) h2 h3 ih
theorem exP_mono {s:Sp} {p p':List Bool} (h:Sub p p') (hl:p.length ≤ p'.length):Sub (exP s p) (exP s p'):=by
  intro i hi
  rw [bit_ex] at hi ⊢
  obtain ⟨h1,h2,k,h3,h4⟩:=hi
  exact ⟨by omega,h2,k,h3,h _ h4⟩
theorem euP_mono {s:Sp} {p q p' q':List Bool} (hp:Sub p p') (hq:Sub q q') (hl:q.length ≤ q'.length):Sub (euP s p q) (euP s p' q'):=by
  intro i hi
  rw [bit_eu] at hi ⊢
  exact ⟨by omega,hi.2.mono hp hq⟩
theorem andP_mono {a b a' b':List Bool} (ha:Sub a a') (hb:Sub b b'):Sub (andP a b) (andP a' b'):=by
  intro i hi
  rw [bit_and,Bool.and_eq_true] at hi ⊢
  exact ⟨ha i hi.1,hb i hi.2⟩
theorem ext_bit {a b:List Bool} (hl:a.length = b.length) (h:∀ i,bit a i = bit b i):a = b:=by
  rw [tab_bit a,tab_bit b,hl]
  exact tab_congr fun i _=>h i
theorem Sub.anti {a b:List Bool} (hl:a.length = b.length) (h:Sub a b) (k:Sub b a):a = b :=
  ext_bit hl fun i=>by
    cases ha:bit a i with
    | true=>exact (h i ha).symm
    | false=>cases hb:bit b i with
      | true=>rw [k i hb] at ha; cases ha
      | false=>rfl
noncomputable def stepP (s:Sp) (z f:List Bool):List Bool:=andP z (exP s (euP s z (andP z f)))
@[simp] theorem stepP_len (s:Sp) (z f:List Bool):(stepP s z f).length = z.length:=by simp [stepP]
theorem stepP_sub (s:Sp) (z f:List Bool):Sub (stepP s z f) z:=fun i h=>by
  rw [stepP,bit_and,Bool.and_eq_true] at h
  exact h.1
theorem stepP_mono {s:Sp} {z z' f:List Bool} (h:Sub z z') (hl:z.length ≤ z'.length):Sub (stepP s z f) (stepP s z' f) :=
  andP_mono h (exP_mono (euP_mono h (andP_mono h (Sub.refl f)) (by simpa using hl)) (by simpa using hl))
def Stay (s:Sp) (fs:List (List Bool)) (z:List Bool):Prop:=∀ f ∈ fs,Sub z (stepP s z f)
def fairL (s:Sp):List (List Bool):=if s.fair.isEmpty then [s.valid] else s.fair
def InEG (s:Sp) (p:List Bool) (i:Nat):Prop:=∃ z:List Bool,z.length = p.length ∧ Sub z (andP p s.valid) ∧ Stay s (fairL s) z ∧ bit z i = true
open Classical in
noncomputable def egP (s:Sp) (p:List Bool):List Bool:=tab p.length fun i=>decide (InEG s p i)
@[simp] theorem egP_len (s:Sp) (p:List Bool):(egP s p).length = p.length:=by simp [egP]
theorem bit_eg {s:Sp} {p:List Bool} {i:Nat}:bit (egP s p) i = true ↔ InEG s p i:=by
  constructor
  · intro h
    have hi:i < p.length:=by simpa using bit_lt h
    rw [egP,bit_tab hi] at h
    simpa using h
  · intro h
    have hi:i < p.length:=by
      obtain ⟨z,hl,hs,_,hz⟩:=h
      rw [← hl]; exact bit_lt hz
    rw [egP,bit_tab hi]
    simpa using h
def Above (s:Sp) (p z:List Bool):Prop:=∀ y:List Bool,y.length = p.length → Sub y (andP p s.valid) → Stay s (fairL s) y → Sub y z
theorem eg_of {s:Sp} {p z:List Bool} (hl:z.length = p.length) (hs:Sub z (andP p s.valid)) (ha:Above s p z) (hst:Stay s (fairL s) z):z = egP s p:=by
  refine Sub.anti (by simpa using hl) (fun i hi=>bit_eg.2 ⟨z,hl,hs,hst,hi⟩) (fun i hi=>?_)
  obtain ⟨y,h1,h2,h3,h4⟩:=bit_eg.1 hi
  exact ha y h1 h2 h3 i h4
theorem Above.step {s:Sp} {p z f:List Bool} (h:Above s p z) (hl:z.length = p.length) (hf:f ∈ fairL s):Above s p (stepP s z f):=fun y h1 h2 h3 =>
  (h3 f hf).trans (stepP_mono (h y h1 h2 h3) (by omega))
theorem eg_none {s:Sp} {p z:List Bool} (hl:z.length = p.length) (ha:Above s p z) (hz:∀ i,bit z i = false):z = egP s p :=
  eg_of hl (fun i h=>by rw [hz] at h; cases h) ha (fun f _ i h=>by rw [hz] at h; cases h)
theorem any_bit {l:List Bool} (h:l.any (true == ·) = false) (i:Nat):bit l i = false:=by
  cases hb:bit l i with
  | false=>rfl
  | true =>
    have hi:=bit_lt hb
    rw [bit_get hi] at hb
    have:l.any (true == ·) = true:=List.any_eq_true.2 ⟨_,List.getElem_mem hi,by simp [hb]⟩
    rw [this] at h; cases h
def cnt (l:List Bool):Nat:=(l.filter id).length
theorem cnt_sub:∀ {a b:List Bool},a.length = b.length → Sub a b → cnt a ≤ cnt b ∧ (cnt a = cnt b → a = b)
  | [],[],_,_=>⟨Nat.le_refl _,fun _=>rfl⟩
  | x :: a,y :: b,hl,h=>by
    have ih:=cnt_sub (a:=a) (b:=b) (by simpa using hl) (fun i hi=>by have:=h (i + 1) (by simpa [bit] using hi); simpa [bit] using this)
    have h0:=h 0
    simp only [bit,List.getD_cons_zero] at h0
    have h1:=ih.1
    cases x <;> cases y <;> simp only [cnt,List.filter_cons,id,if_true,if_false,Bool.false_eq_true,List.length_cons] at h1 ih ⊢
    · exact ⟨h1,fun e=>by rw [ih.2 e]⟩
    · exact ⟨by omega,fun e=>by omega⟩
    · exact absurd (h0 rfl) (by simp)
    · exact ⟨by omega,fun e=>by rw [ih.2 (by omega)]⟩
theorem Fit.with {s:Sp} {p q:List Bool} (h:Fit s p) (hl:q.length = s.valid.length):Fit s q:=⟨h.small,h.next,hl,h.fair,h.behind⟩
theorem mem_fairL {s:Sp} {p:List Bool} (h:Fit s p) {f:List Bool} (hf:f ∈ fairL s):f.length = s.valid.length:=by
  unfold fairL at hf
  split at hf
  · simp only [List.mem_singleton] at hf; subst hf; rfl
  · exact h.fair f hf
theorem fairL_len {s:Sp} (h:s.small):(fairL s).length < 1048576:=by
  unfold fairL
  split
  · simp
  · exact h.2.2.1
theorem loop_eg {s:Sp} {p:List Bool} (hf:Fit s p) {S S1:Store} (k1:Keep S S1) (o1:S1.obj S.n = some (.cells 71 [s.cells] true)) :
    loopV lv177_0 (vc Tryz.prog (c177.at_ [1,0,1,1,1,1,0,0,0]) (ms177.drop 1)) 47 (env177_0 (.p S.n 0 0) (aL (aL aB) (fairL s)) (aL aB (andP p s.valid))) S1 (blockK 0 (seqK (vc Tryz.prog (c177.at_ [1,0,1,1,1,1,1]) (ms177.drop 2)) (scopeK (bodyK Tryz.prog r177 fun e S'=>e = .ret (aL aB (egP s p)) ∧ Keep S S')))):=by
  have hs:=hf.small
  have hfl:=hf.len
  have hsl:=hs.1
  have hfll:=fairL_len hs
  refine loop177_0 (fun y S'=>S' = S1 ∧ ∃ z,y = aL aB z ∧ z.length = p.length ∧ Sub z (andP p s.valid) ∧ Above s p z) (fun y _=>cnt (avB y)) ⟨rfl,_,rfl,by simp,Sub.refl _,fun y _ h _=>h⟩ ?_
  rintro _ S1 ⟨rfl,was,rfl,hwl,hws,hwa⟩ KE hKE
  unfold b177_0
  rw [lenS_aL]
  refine loop177_1 (fun y x S'=>S' = S1 ∧ ∃ (z:List Bool) (i:Nat),y = aL aB z ∧ x = aI i ∧ i ≤ (fairL s).length ∧ z.length = p.length ∧ Sub z was ∧ Above s p z ∧ ∀ f ∈ (fairL s).take i,Sub z (stepP s was f))
    (fun _ x _=>(fairL s).length - ((intA x).getD 0).toNat) ⟨rfl,was,0,rfl,rfl,Nat.zero_le _,hwl,Sub.refl _,hwa,fun f h=>by simp at h⟩ ?_
  rintro _ _ S1 ⟨rfl,z,i,rfl,rfl,hi,hzl,hzw,hza,hst⟩ KE1 hKE1
  unfold b177_1
  rw [bin_lss,onB_v]
  refine gd_of (fun h=>?_) (fun h=>?_)
  · have hlt:i < (fairL s).length:=by simpa using h
    rw [ixS_aL hlt,ld1_q]
    have hfm:=List.getElem_mem hlt
    generalize hfi:(fairL s)[i] = f at *
    have hfle:=mem_fairL hf hfm
    have hzf:Fit s z:=hf.with (by omega)
    have haf:Fit s (andP z f):=hf.with (by simp; omega)
    have huf:Fit s (euP s z (andP z f)):=hf.with (by simp; omega)
    refine ⟨s.av,by rw [ldN_p (n:=5) o1 rfl]; exact ⟨rfl,rfl⟩,s.av,by rw [ldN_p (n:=5) o1 rfl]; exact ⟨rfl,rfl⟩,_,callF_ans (own191 z f (by omega) (by omega)).ans ⟨rfl,rfl⟩,_,callF_ans (own193 hzf haf).ans ⟨rfl,rfl⟩,_,
      callF_ans (ans192 huf) ⟨rfl,rfl⟩,_,callF_ans (own191 z _ (by omega) (by simp)).ans ⟨rfl,rfl⟩,?_⟩
    have hz':Above s p (stepP s z f):=hza.step hzl hfm
    refine callF_ans (ans194 true (by simp; omega)) ?_
    rw [un_not,onB_v]
    refine gd_of (fun h=>⟨?_,k1⟩) (fun h=>?_)
    · have:=any_bit (l:=stepP s z f) (by rw [Bool.not_eq_true'] at h; exact h)
      rw [← eg_none (by simpa using hzl) hz' this]
      rfl
    · rw [bin_add (by omega) (by omega)]
      refine hKE1 _ _ _ ⟨rfl,stepP s z f,i + 1,rfl,rfl,hlt,by simpa using hzl,(stepP_sub s z f).trans hzw,hz',fun g hg=>?_⟩ (by simp [intA]; omega)
      rw [List.take_add_one,List.getElem?_eq_getElem hlt,hfi] at hg
      rcases List.mem_append.1 hg with hg | hg
      · exact (stepP_sub s z f).trans (hst g hg)
      · have:g = f:=by simpa using hg
        subst this
        exact stepP_mono hzw (by omega)
  · have hge:i = (fairL s).length:=by simp at h; omega
    subst hge
    rw [List.take_length] at hst
    refine callF_ans (ans195 (by omega)) ?_
    rw [onB_v]
    refine gd_of (fun h=>⟨?_,k1⟩) (fun h=>?_)
    · have:was = z:=by simpa using h
      subst this
      rw [← eg_of hzl hws hza hst]
    · have hne:¬ was = z:=by simpa using h
      refine hKE _ _ ⟨rfl,z,rfl,hzl,hzw.trans hws,hza⟩ ?_
      have:=cnt_sub (a:=z) (b:=was) (by omega) hzw
      rw [avB_aL,avB_aL]
      have h2:cnt z ≠ cnt was:=fun e=>hne (this.2 e).symm
      omega
theorem ans177 {s:Sp} {p:List Bool} (hf:Fit s p):Ans Tryz.prog 177 [s.av,aL aB p] (aL aB (egP s p)):=by
  intro S
  refine ACalls.ans_aL (f:=fun b=>.bool b) (calls177 ?_)
  have hs:=hf.small
  have hfl:=hf.len
  have hsl:=hs.1
  unfold m177 Sp.av
  refine boxA_of rfl fun S1 k1 n1 o1=>?_
  rw [shift_p,ld1_p o1 rfl rfl,lenS_aL,bin_eql,onB_v]
  have hl:=loop_eg hf k1 o1
  refine gd_of (fun h=>?_) (fun h=>?_)
  · have he:s.fair = []:=List.eq_nil_of_length_eq_zero (by simpa using h)
    rw [shift_p,ld1_p o1 rfl rfl]
    refine bsl1 rfl (fun _ h=>by cases h) ?_
    rw [shift_p,ld1_p o1 rfl rfl]
    refine callF_ans (own191 p s.valid (by omega) (by omega)).ans ?_
    have:fairL s = [s.valid]:=by simp [fairL,he]
    rw [this] at hl
    exact hl
  · have he:s.fair.isEmpty = false:=by
      cases hq:s.fair with
      | nil=>rw [hq] at h; simp at h
      | cons x l=>rfl
    rw [shift_p,ld1_p o1 rfl rfl]
    refine callF_ans (own191 p s.valid (by omega) (by omega)).ans ?_
    have:fairL s = s.fair:=by simp [fairL,he]
    rw [this] at hl
    exact hl
noncomputable def EXs (s:Sp) (p:List Bool):List Bool:=if fits s [p] then exP s p else []
noncomputable def EUs (s:Sp) (p q:List Bool):List Bool:=if fits s [p,q] then euP s p q else []
noncomputable def EGs (s:Sp) (p:List Bool):List Bool:=if fits s [p] then egP s p else []
theorem ACalls.ans_nl {P:Program} {fn:FuncId} {args:List AV} {S:Store} (h:ACalls P fn args S (fun r S'=>r = .ret .nl ∧ Keep S S')):AnsAt P fn args S (.l []) :=
  ACalls.tree (ACalls.mono h fun r S' ⟨h1,h2⟩=>⟨_,h1,h2,.nl⟩)
theorem ans210 {s:Sp} (hs:s.small) (p:List Bool):Ans Tryz.prog 210 [s.av,aL aB p] (aL aB (EXs s p)):=by
  intro S
  cases hfit:fits s [p] with
  | false =>
    rw [EXs,hfit]
    refine ACalls.ans_nl (calls210 ?_)
    unfold m210
    refine boxA_of rfl fun S1 k1 n1 o1=>?_
    rw [ldN_p (n:=5) o1 rfl]
    refine bsl1 rfl (fun _ h=>by cases h) ?_
    refine callF_ans (ans176 s hs [p] (by simp)) ?_
    rw [hfit,un_not,onB_v]
    exact ⟨rfl,k1⟩
  | true =>
    rw [EXs,hfit]
    refine ACalls.ans_aL (f:=fun b=>.bool b) (calls210 ?_)
    unfold m210
    refine boxA_of rfl fun S1 k1 n1 o1=>?_
    rw [ldN_p (n:=5) o1 rfl]
    refine bsl1 rfl (fun _ h=>by cases h) ?_
    refine callF_ans (ans176 s hs [p] (by simp)) ?_
    rw [hfit,un_not,onB_v]
    rw [show (!true) = false from rfl,gd_false,ldN_p (n:=5) o1 rfl]
    exact callF_ans (ans192 (Fit.of hs hfit (by simp))) ⟨rfl,k1⟩
theorem ans162 {s:Sp} (hs:s.small) (p:List Bool):Ans Tryz.prog 162 [s.av,aL aB p] (aL aB (EGs s p)):=by
  intro S
  cases hfit:fits s [p] with
  | false =>
    rw [EGs,hfit]
    refine ACalls.ans_nl (calls162 ?_)
    unfold m162
    refine boxA_of rfl fun S1 k1 n1 o1=>?_
    rw [ldN_p (n:=5) o1 rfl]
    refine bsl1 rfl (fun _ h=>by cases h) ?_
    refine callF_ans (ans176 s hs [p] (by simp)) ?_
    rw [hfit,un_not,onB_v]
    exact ⟨rfl,k1⟩
  | true =>
    rw [EGs,hfit]
    refine ACalls.ans_aL (f:=fun b=>.bool b) (calls162 ?_)
    unfold m162
    refine boxA_of rfl fun S1 k1 n1 o1=>?_
    rw [ldN_p (n:=5) o1 rfl]
    refine bsl1 rfl (fun _ h=>by cases h) ?_
    refine callF_ans (ans176 s hs [p] (by simp)) ?_
    rw [hfit,un_not,onB_v]
    rw [show (!true) = false from rfl,gd_false,ldN_p (n:=5) o1 rfl]
    exact callF_ans (ans177 (Fit.of hs hfit (by simp))) ⟨rfl,k1⟩
theorem ans211 {s:Sp} (hs:s.small) (p q:List Bool):Ans Tryz.prog 211 [s.av,aL aB p,aL aB q] (aL aB (EUs s p q)):=by
  intro S
  cases hfit:fits s [p,q] with
  | false =>
    rw [EUs,hfit]
    refine ACalls.ans_nl (calls211 ?_)
    unfold m211
    refine boxA_of rfl fun S1 k1 n1 o1=>?_
    rw [ldN_p (n:=5) o1 rfl]
    refine bsl2 rfl rfl ?_
    refine callF_ans (ans176 s hs [p,q] (by simp)) ?_
    rw [hfit,un_not,onB_v]
    exact ⟨rfl,k1⟩
  | true =>
    rw [EUs,hfit]
    refine ACalls.ans_aL (f:=fun b=>.bool b) (calls211 ?_)
    unfold m211
    refine boxA_of rfl fun S1 k1 n1 o1=>?_
    rw [ldN_p (n:=5) o1 rfl]
    refine bsl2 rfl rfl ?_
    refine callF_ans (ans176 s hs [p,q] (by simp)) ?_
    rw [hfit,un_not,onB_v]
    rw [show (!true) = false from rfl,gd_false,ldN_p (n:=5) o1 rfl]
    exact callF_ans (own193 (Fit.of hs hfit (by simp)) (Fit.of hs hfit (by simp))).ans ⟨rfl,k1⟩
theorem tab_succ {α:Type} (n:Nat) (f:Nat → α):tab (n + 1) f = tab n f ++ [f n]:=by simp [tab,List.range_succ]
def orP (a b:List Bool):List Bool:=tab a.length fun i=>bit a i || bit b i
@[simp] theorem orP_len (a b:List Bool):(orP a b).length = a.length:=by simp [orP]
theorem bit_or {a b:List Bool} (h:a.length = b.length) (i:Nat):bit (orP a b) i = (bit a i || bit b i):=by
  rcases Nat.lt_or_ge i a.length with h' | h'
  · rw [orP,bit_tab h']
  · rw [bit_ge (by simpa [orP] using h'),bit_ge h',bit_ge (by omega)]; rfl
theorem ans39 {a b:List Bool} (ha:a.length < 1048576) (hab:a.length = b.length):Ans Tryz.prog 39 [aL aB a,aL aB b] (aL aB (andP a b)):=by
  refine ACalls.ans_own (f:=fun b=>.bool b) (e:=4) fun S=>calls39 ?_
  unfold m39
  refine loop39_0 (fun y x S'=>Keep S S' ∧ ∃ i:Nat,x = aI i ∧ i ≤ a.length ∧ Own S.n S' y 4 ((tab i fun i=>bit a i && bit b i).map fun b=>[aB b]))
    (fun _ x _=>a.length - ((intA x).getD 0).toNat) ⟨Keep.refl S,0,rfl,Nat.zero_le _,.nl _ _ _⟩ ?_
  rintro y _ S1 ⟨k1,i,rfl,hi,w1⟩ KE hKE
  unfold b39_0
  rw [lenS_aL,bin_lss,onB_v]
  refine gd_of (fun h=>?_) (fun h=>?_)
  · have hlt:i < a.length:=by simpa using h
    have hadd:∀ K:AV → Store → Prop,∀ S,bin .add 0 (.v (.int .i64 (i:Int))) (.v (.int .i64 1)) S K = K (aI (i + 1:Nat)) S:=fun K S=>bin_add (by omega) (by omega) 0
    have hμ:a.length - ((intA (aI (i + 1:Nat))).getD 0).toNat < a.length - ((intA (aI i)).getD 0).toNat:=by simp [intA]; omega
    have step:∀ c:Bool,c = (bit a i && bit b i) → appS 4 1 1 y (.l [[aB c]]) S1 fun v10 S=>bin .add 0 (.v (.int .i64 (i:Int))) (.v (.int .i64 1)) S fun v11 S=>KE 27 (env39_0 (aL aB a) (aL aB b) v10 v11) S:=by
      intro c hc
      refine w1.app (b:=1) (c:=[aB c]) (y:=.l [[aB c]]) (by have:=k1.1; omega) rfl (by simp; omega) (fun x' S5 ho5 hb5 hx5=>?_) rfl
      rw [hadd]
      refine hKE _ _ _ ⟨w1.keep (Nat.le_refl _) hb5 k1,i + 1,rfl,hlt,?_⟩ hμ
      rw [tab_succ,List.map_append,← hc]
      exact ho5
    rw [ixS_aL hlt,ld1_q,onB_v]
    refine gd_of (fun h=>?_) (fun h=>?_)
    · rw [ixS_aL (by omega:i < b.length),ld1_q]
      refine bsl1 rfl (fun _ h=>by cases h) (step _ ?_)
      rw [bit_get hlt,bit_get (by omega),h]; rfl
    · refine bsl1 rfl (fun _ h=>by cases h) (step false ?_)
      rw [bit_get hlt,h]; rfl
  · have hge:i = a.length:=by simp at h; omega
    subst hge
    exact ⟨_,rfl,k1,w1⟩
theorem ans29 {a b:List Bool} (hl:a.length ≤ 9223372036854775807):Ans Tryz.prog 29 [aL aB a,aL aB b] (aB (decide (a = b))):=by
  intro S
  refine calls29 ?_
  unfold m29
  rw [lenS_aL,lenS_aL,bin_neq,onB_v]
  refine gd_of (fun h=>⟨?_,rfl⟩) (fun h=>?_)
  · have:¬ a = b:=fun e=>by subst e; simp at h
    simp [this]
  have hab:a.length = b.length:=by simp at h; omega
  refine loop29_0 (fun y S'=>S' = S ∧ ∃ i:Nat,y = aI i ∧ i ≤ a.length ∧ ∀ k,k < i → a[k]? = b[k]?) (fun y _=>a.length - ((intA y).getD 0).toNat) ⟨rfl,0,rfl,Nat.zero_le _,fun k h=>absurd h (Nat.not_lt_zero _)⟩ ?_
  rintro _ _ ⟨rfl,i,rfl,hi,hk⟩ KE hKE
  unfold b29_0
  rw [lenS_aL,bin_lss,onB_v]
  refine gd_of (fun h=>?_) (fun h=>?_)
  · have hlt:i < a.length:=by simpa using h
    have hlt':i < b.length:=by omega
    refine ⟨_,by rw [ixS_aL hlt]; exact ⟨rfl,rfl⟩,_,by rw [ld1_q]; exact ⟨rfl,rfl⟩,_,by rw [ixS_aL hlt']; exact ⟨rfl,rfl⟩,_,by rw [ld1_q]; exact ⟨rfl,rfl⟩,_,by rw [bin_neqB]; exact ⟨rfl,rfl⟩,?_⟩
    rw [onB_v]
    refine gd_of (fun hg=>⟨?_,rfl⟩) (fun hg=>?_)
    · have:¬ a = b:=fun e=>by subst e; simp at hg
      simp [this]
    · rw [bin_add (by omega) (by omega)]
      refine hKE _ _ ⟨rfl,i + 1,rfl,hlt,fun k hk2=>?_⟩ ?_
      · by_cases e:k = i
        · subst e
          rw [List.getElem?_eq_getElem hlt,List.getElem?_eq_getElem hlt']
          simpa using hg
        · exact hk k (by omega)
      · simp [intA]; omega
  · have hge:i = a.length:=by simp at h; omega
    subst hge
    have:a = b:=by
      apply List.ext_getElem?
      intro k
      by_cases hk':k < a.length
      · exact hk k hk'
      · rw [List.getElem?_eq_none (by omega),List.getElem?_eq_none (by omega)]
    exact ⟨by simp [this],rfl⟩
theorem fits_one (s:Sp) (p:List Bool):fits s [p] = (decide (p.length = s.valid.length) && decide (s.next.length = s.valid.length) && s.fair.all (fun p=>decide (p.length = s.valid.length)) && s.next.all (fun x=>x.all fun i=>decide (0 ≤ i) && decide (i < s.valid.length))):=by
  simp only [fits,List.all_cons,List.all_nil,Bool.and_true]
  cases decide (p.length = s.valid.length) <;> cases decide (s.next.length = s.valid.length) <;> cases s.fair.all (fun p=>decide (p.length = s.valid.length)) <;> simp
theorem fits_two (s:Sp) (p q:List Bool):fits s [p,q] = (fits s [p] && fits s [q]):=by
  rw [fits_one,fits_one]
  simp only [fits,List.all_cons,List.all_nil,Bool.and_true]
  cases decide (p.length = s.valid.length) <;> cases decide (q.length = s.valid.length) <;> cases decide (s.next.length = s.valid.length) <;> cases s.fair.all (fun p=>decide (p.length = s.valid.length)) <;> simp
structure In (s:Sp) (p:List Bool):Prop where
  len:p.length = s.valid.length
  sub:Sub p s.valid
def eachP (s:Sp) (g:Nat → Bool):List Bool:=tab s.valid.length fun i=>bit s.valid i && g i
theorem bit_each {s:Sp} {g:Nat → Bool} {i:Nat}:bit (eachP s g) i = (bit s.valid i && g i):=by
  rcases Nat.lt_or_ge i s.valid.length with h | h
  · rw [eachP,bit_tab h]
  · rw [bit_ge (by simpa [eachP] using h),bit_ge h]; rfl
theorem in_each (s:Sp) (g:Nat → Bool):In s (eachP s g):=⟨by simp [eachP],fun i h=>by
  rw [bit_each,Bool.and_eq_true] at h; exact h.1⟩
theorem in_valid (s:Sp):In s s.valid:=⟨rfl,Sub.refl _⟩
def notP (s:Sp) (p:List Bool):List Bool:=eachP s fun i=>!bit p i
theorem in_not (s:Sp) (p:List Bool):In s (notP s p):=in_each _ _
theorem bit_not {s:Sp} {p:List Bool} {i:Nat}:bit (notP s p) i = (bit s.valid i && !bit p i):=bit_each
theorem In.and {s:Sp} {p q:List Bool} (h:In s p):In s (andP p q):=⟨by simp [h.len],fun i hi=>by
  rw [bit_and,Bool.and_eq_true] at hi; exact h.sub i hi.1⟩
theorem In.or {s:Sp} {p q:List Bool} (h:In s p) (k:In s q):In s (orP p q):=⟨by simp [h.len],fun i hi=>by
  rw [bit_or (by rw [h.len,k.len]),Bool.or_eq_true] at hi
  rcases hi with hi | hi
  · exact h.sub i hi
  · exact k.sub i hi⟩
theorem In.ex {s:Sp} {p:List Bool} (h:p.length = s.valid.length):In s (exP s p):=⟨by simp [h],fun i hi=>(bit_ex.1 hi).2.1⟩
theorem reach_valid {s:Sp} {p q:List Bool} {i:Nat} (h:Reach s p q i):bit s.valid i = true:=by
  cases h <;> assumption
theorem In.eu {s:Sp} {p q:List Bool} (h:q.length = s.valid.length):In s (euP s p q):=⟨by simp [h],fun i hi=>reach_valid (bit_eu.1 hi).2⟩
theorem In.eg {s:Sp} {p:List Bool} (h:p.length = s.valid.length):In s (egP s p):=⟨by simp [h],fun i hi=>by
  obtain ⟨z,h1,h2,_,h4⟩:=bit_eg.1 hi
  have:=h2 i h4
  rw [bit_and,Bool.and_eq_true] at this
  exact this.2⟩
theorem In.eq {s:Sp} {p q:List Bool} (h:In s p) (k:In s q) (e:∀ i,bit s.valid i = true → bit p i = bit q i):p = q :=
  ext_bit (by rw [h.len,k.len]) fun i=>by
    cases hv:bit s.valid i with
    | true=>exact e i hv
    | false =>
      cases hp:bit p i with
      | true=>rw [h.sub i hp] at hv; cases hv
      | false=>cases hq:bit q i with
        | true=>rw [k.sub i hq] at hv; cases hv
        | false=>rfl
theorem each_and {s:Sp} {p q:List Bool} (h:In s p):eachP s (fun i=>bit p i && bit q i) = andP p q :=
  (in_each _ _).eq h.and fun i hi=>by rw [bit_each,bit_and,hi,Bool.true_and]
theorem each_or {s:Sp} {p q:List Bool} (h:In s p) (k:In s q):eachP s (fun i=>bit p i || bit q i) = orP p q :=
  (in_each _ _).eq (h.or k) fun i hi=>by rw [bit_each,bit_or (by rw [h.len,k.len]),hi,Bool.true_and]
theorem each_same {s:Sp} {p q:List Bool} (h:In s p) (k:In s q):eachP s (fun i=>bit p i == bit q i) = orP (andP p q) (notP s (orP p q)) :=
  (in_each _ _).eq (h.and.or (in_not _ _)) fun i hi=>by
    rw [bit_each,bit_or (by rw [h.and.len,(in_not _ _).len]),bit_and,bit_not,bit_or (by rw [h.len,k.len]),hi]
    cases bit p i <;> cases bit q i <;> rfl
theorem not_or {s:Sp} {p q:List Bool} (h:In s p) (k:In s q):andP (notP s p) (notP s q) = notP s (orP p q) :=
  (in_not _ _).and.eq (in_not _ _) fun i hi=>by
    rw [bit_and,bit_not,bit_not,bit_not,bit_or (by rw [h.len,k.len]),hi]
    cases bit p i <;> cases bit q i <;> rfl
noncomputable def nextP (s:Sp) (fr p:List Bool):List Bool:=exP s (andP p fr)
noncomputable def untilP (s:Sp) (fr p q:List Bool):List Bool:=euP s p (andP q fr)
noncomputable def oneP (s:Sp) (fr:List Bool) (k:Int) (p:List Bool):List Bool :=
  if k = 9 then nextP s fr p else if k = 10 then notP s (nextP s fr (notP s p)) else if k = 11 then untilP s fr s.valid p else if k = 12 then notP s (egP s (notP s p))
  else if k = 13 then egP s p else if k = 14 then notP s (untilP s fr s.valid (notP s p)) else notP s p
noncomputable def twoP (s:Sp) (fr:List Bool) (k:Int) (p q:List Bool):List Bool :=
  if k = 5 then andP p q else if k = 6 then orP p q else if k = 7 then orP (notP s p) q else if k = 8 then orP (andP p q) (notP s (orP p q))
  else if k = 15 then untilP s fr p q else if k = 16 then notP s (orP (untilP s fr (notP s q) (notP s (orP p q))) (egP s (notP s q)))
  else if k = 17 then orP (egP s q) (untilP s fr q (andP p q)) else notP s (untilP s fr (notP s p) (notP s q))
theorem in_one {s:Sp} {fr p:List Bool} (hp:In s p) (k:Int):In s (oneP s fr k p):=by
  have h1:∀ q:List Bool,In s q → In s (nextP s fr q):=fun q hq=>In.ex (by simp [hq.len])
  have h2:∀ p q:List Bool,In s q → In s (untilP s fr p q):=fun p q hq=>In.eu (by simp [hq.len])
  unfold oneP
  repeat' split
  all_goals first | exact in_not _ _ | exact h1 _ hp | exact h2 _ _ hp | exact In.eg hp.len
theorem in_two {s:Sp} {fr p q:List Bool} (hp:In s p) (hq:In s q) (k:Int):In s (twoP s fr k p q):=by
  have h2:∀ p q:List Bool,In s q → In s (untilP s fr p q):=fun p q hq=>In.eu (by simp [hq.len])
  unfold twoP
  repeat' split
  all_goals first | exact in_not _ _ | exact hp.and | exact hp.or hq | exact (in_not _ _).or hq | exact hp.and.or (in_not _ _) | exact h2 _ _ hq | exact (In.eg hq.len).or (h2 _ _ hp.and)
mutual
noncomputable def Fo.sem (s:Sp) (fr:List Bool) (at_:Int → List Bool):Fo → List Bool
  | .mk k _ l ks=>if k = 2 then s.valid else if k = 1 then notP s s.valid else if k = 3 then at_ l else
      match Fo.sems s fr at_ ks with
      | [p]=>oneP s fr k p
      | p :: q :: _=>twoP s fr k p q
      | []=>[]
noncomputable def Fo.sems (s:Sp) (fr:List Bool) (at_:Int → List Bool):List Fo → List (List Bool)
  | []=>[]
  | f :: fs=>Fo.sem s fr at_ f :: Fo.sems s fr at_ fs
end
theorem sem_true {s:Sp} {fr:List Bool} {at_:Int → List Bool} {n:ByteArray} {l:Int} {ks:List Fo}:Fo.sem s fr at_ (.mk 2 n l ks) = s.valid:=by rw [Fo.sem,if_pos rfl]
theorem sem_false {s:Sp} {fr:List Bool} {at_:Int → List Bool} {n:ByteArray} {l:Int} {ks:List Fo}:Fo.sem s fr at_ (.mk 1 n l ks) = notP s s.valid:=by rw [Fo.sem,if_neg (by decide),if_pos rfl]
theorem sem_atom {s:Sp} {fr:List Bool} {at_:Int → List Bool} {n:ByteArray} {l:Int} {ks:List Fo}:Fo.sem s fr at_ (.mk 3 n l ks) = at_ l:=by rw [Fo.sem,if_neg (by decide),if_neg (by decide),if_pos rfl]
theorem sem_one {s:Sp} {fr:List Bool} {at_:Int → List Bool} {k:Int} {n:ByteArray} {l:Int} {f:Fo} (hk:3 < k):Fo.sem s fr at_ (.mk k n l [f]) = oneP s fr k (f.sem s fr at_):=by
  rw [Fo.sem,if_neg (by omega),if_neg (by omega),if_neg (by omega),Fo.sems,Fo.sems]
theorem sem_two {s:Sp} {fr:List Bool} {at_:Int → List Bool} {k:Int} {n:ByteArray} {l:Int} {f g:Fo} (hk:3 < k):Fo.sem s fr at_ (.mk k n l [f,g]) = twoP s fr k (f.sem s fr at_) (g.sem s fr at_):=by
  rw [Fo.sem,if_neg (by omega),if_neg (by omega),if_neg (by omega),Fo.sems,Fo.sems,Fo.sems]
theorem may_cases {k:Int} {n:ByteArray} {l:Int} {ks:List Fo} {d:Int} (h:Fo.mayB (.mk k n l ks) d = true) :
    n = (⟨#[]⟩:ByteArray) ∧ 0 < d ∧ (((k = 1 ∨ k = 2) ∧ ks = [] ∧ l = 0) ∨ (k = 3 ∧ ks = [] ∧ 0 ≤ l) ∨ ((k = 4 ∨ 9 ≤ k ∧ k ≤ 14) ∧ l = 0 ∧ ∃ f,ks = [f] ∧ f.mayB (d - 1) = true) ∨ ((5 ≤ k ∧ k ≤ 8 ∨ 15 ≤ k ∧ k ≤ 18) ∧ l = 0 ∧ ∃ f g,ks = [f,g] ∧ f.mayB (d - 1) = true ∧ g.mayB (d - 1) = true)):=by
  rw [Fo.mayB_mk] at h
  simp only [Bool.and_eq_true,decide_eq_true_eq,List.all_eq_true] at h
  obtain ⟨h1,h2,h3,h4,h5⟩:=h
  refine ⟨h3,h1,?_⟩
  unfold kidsN at h4
  split at h4
  · omega
  split at h4
  · have:ks = []:=List.eq_nil_of_length_eq_zero (by omega)
    by_cases hk:k = 3
    · exact .inr (.inl ⟨hk,this,by omega⟩)
    · exact .inl ⟨by omega,this,by omega⟩
  split at h4
  · rename_i hk
    obtain ⟨f,rfl⟩:=List.length_eq_one_iff.1 (show ks.length = 1 by omega)
    exact .inr (.inr (.inl ⟨hk,by omega,f,rfl,h5 f (by simp)⟩))
  · match ks,h4,h5 with
    | [f,g],_,h5=>exact .inr (.inr (.inr ⟨by omega,by omega,f,g,rfl,h5 f (by simp),h5 g (by simp)⟩))
    | [],h4,_=>simp at h4
    | [_],h4,_=>simp at h4
    | _ :: _ :: _ :: _,h4,_=>simp at h4; omega
theorem in_sem {s:Sp} {fr:List Bool} {at_:Int → List Bool} (ha:∀ l,In s (at_ l)):∀ (f:Fo) (d:Int),f.mayB d = true → In s (f.sem s fr at_):=by
  intro f
  induction f using Fo.ind with
  | h k n l ks ih =>
    intro d h
    obtain ⟨_,_,h⟩:=may_cases h
    rcases h with ⟨hk | hk,rfl,_⟩ | ⟨rfl,rfl,_⟩ | ⟨hk,_,f,rfl,hf⟩ | ⟨hk,_,f,g,rfl,hf,hg⟩
    · subst hk; rw [sem_false]; exact in_not _ _
    · subst hk; rw [sem_true]; exact in_valid _
    · rw [sem_atom]; exact ha _
    · rw [sem_one (by omega)]; exact in_one (ih f (by simp) _ hf) _
    · rw [sem_two (by omega)]; exact in_two (ih f (by simp) _ hf) (ih g (by simp) _ hg) _
noncomputable def atomP (c:Ci) (s:Sp) (l:Int):List Bool:=eachP s fun i=>isB c i l
noncomputable def semC (c:Ci) (f:Fo):List Bool:=f.sem (spOf c) (egP (spOf c) (spOf c).valid) (atomP c (spOf c))
noncomputable def truthB (c:Ci) (f:Fo):List Bool × Int:=if mayC c f = false then ([],1) else if (spaceB c).2 = 0 then (semC c f,0) else ([],(spaceB c).2)
end Go.Proofs.YtolgpokppnajdaaGreat.G

/- Witness -/
import Derived.Test.YteooinddnfbglaaGreatDoorProg
import Derived.KernelRfl
import Derived.Test.YteooinddnfbglaaGreatDoorKqT2
set_option linter.unusedVariables false
set_option linter.unusedSimpArgs false
set_option linter.unusedSectionVars false
namespace Go.Proofs.YteooinddnfbglaaGreatDoor.G
open Go Go.Ab
noncomputable section
section
set_option maxRecDepth 100000
abbrev Pg : Program := Tryz.prog
theorem Ai2:type_of% @List.getD_eq_getElem?_getD:=@List.getD_eq_getElem?_getD
theorem Ai3:type_of% @List.getElem?_eq_getElem:=@List.getElem?_eq_getElem
theorem Ai4:type_of% @Nat.le_refl:=@Nat.le_refl
theorem Ai5:type_of% @Bool.and_eq_true:=@Bool.and_eq_true
theorem Ai6:type_of% @List.getElem_mem:=@List.getElem_mem
theorem Ai7:type_of% @Bool.true_and:=@Bool.true_and
theorem Ai8:type_of% @List.length_map:=@List.length_map
theorem Ai9:type_of% @Nat.zero_le:=@Nat.zero_le
theorem AiA:type_of% @List.mem_singleton:=@List.mem_singleton
theorem AiB:type_of% @List.map_append:=@List.map_append
theorem AiC:type_of% @Bool.false_and:=@Bool.false_and
theorem AiD:type_of% @List.all_eq_true:=@List.all_eq_true
theorem AiE:type_of% @Int.eq_ofNat_of_zero_le:=@Int.eq_ofNat_of_zero_le
theorem AiF:type_of% @Nat.not_lt_zero:=@Nat.not_lt_zero
theorem AiG:type_of% @Nat.zero_add:=@Nat.zero_add
theorem AiH:type_of% @List.getElem?_map:=@List.getElem?_map
theorem AiI:type_of% @Int.tdiv_eq_ediv_of_nonneg:=@Int.tdiv_eq_ediv_of_nonneg
theorem AiJ:type_of% @Int.toNat_natCast:=@Int.toNat_natCast
theorem AiK:type_of% @List.length_append:=@List.length_append
theorem AiL:type_of% @List.mem_map:=@List.mem_map
theorem AiM:type_of% @List.length_pos_iff:=@List.length_pos_iff
theorem AiN:type_of% @Bool.not_eq_true':=@Bool.not_eq_true'
theorem AiO:type_of% @List.mem_cons:=@List.mem_cons
theorem AiP:type_of% @List.range_succ:=@List.range_succ
theorem AiQ:type_of% @List.mem_append:=@List.mem_append
theorem AiR:type_of% @List.take_add_one:=@List.take_add_one
theorem AiS:type_of% @Nat.lt_or_ge:=@Nat.lt_or_ge
theorem AiT:type_of% @List.not_mem_nil:=@List.not_mem_nil
theorem AiU:type_of% @Decidable.not_not:=@Decidable.not_not
theorem AiV:type_of% @List.take_of_length_le:=@List.take_of_length_le
theorem AiW:type_of% @List.length_take:=@List.length_take
theorem AiX:type_of% @Int.tmod_eq_emod_of_nonneg:=@Int.tmod_eq_emod_of_nonneg
theorem AiY:type_of% @Nat.pow_le_pow_right:=@Nat.pow_le_pow_right
theorem AiZ:type_of% @List.getElem?_eq_none:=@List.getElem?_eq_none
theorem Aj0:type_of% @List.getElem_of_mem:=@List.getElem_of_mem
theorem Aj1:type_of% @List.length_singleton:=@List.length_singleton
theorem Aj2:type_of% @Bool.and_false:=@Bool.and_false
theorem Aj3:type_of% @List.take_length:=@List.take_length
theorem Aj4:type_of% @List.all_eq_false:=@List.all_eq_false
theorem Aj5:type_of% @List.mem_range:=@List.mem_range
theorem Aj6:type_of% @List.mem_append_left:=@List.mem_append_left
theorem Aj7:type_of% @Option.map_eq_some_iff:=@Option.map_eq_some_iff
theorem Aj8:type_of% @List.map_eq_nil_iff:=@List.map_eq_nil_iff
theorem Aj9:type_of% @List.map_congr_left:=@List.map_congr_left
theorem AjA:type_of% @List.all_cons:=@List.all_cons
theorem AjB:type_of% @List.mem_of_getElem?:=@List.mem_of_getElem?
theorem AjC:type_of% @List.map_map:=@List.map_map
theorem AjD:type_of% @List.findIdx?_eq_some_iff_getElem:=@List.findIdx?_eq_some_iff_getElem
theorem AjE:type_of% @List.filter_append:=@List.filter_append
theorem AjF:type_of% @Bool.and_true:=@Bool.and_true
theorem AjG:type_of% @List.findIdx?_eq_none_iff:=@List.findIdx?_eq_none_iff
theorem AjH:type_of% @List.drop_eq_getElem_cons:=@List.drop_eq_getElem_cons
theorem AjI:type_of% @List.nodup_append:=@List.nodup_append
theorem AjJ:type_of% @Int.natCast_pow:=@Int.natCast_pow
theorem AjK:type_of% @List.cons.inj:=@List.cons.inj
theorem AjL:type_of% @Nat.lt_succ_self:=@Nat.lt_succ_self
abbrev Lt(S:Aa)(o:Aa→(AV→Aa→Prop)→Prop)(P:AV→Prop):Prop:=∃ q,(∀ T,Am S T→o T fun u U=>u=q∧U=T)∧P q
abbrev Lc(S:Aa)(f:Nat)(a:List AV)(P:AV→Prop):Prop:=∃ q,(∀ T,Am S T→Ah Pg f a T (fun _ _=>False) fun u U=>u=q∧U=T)∧P q
abbrev Lq(S:Aa)(o:Aa→(AV→Aa→Prop)→Prop)(P:AV→Prop):Prop:=∃ q,(o S fun u U=>u=q∧U=S)∧P q
abbrev Ld(S:Aa)(f:Nat)(a:List AV)(P:AV→Prop):Prop:=∃ q,(Ah Pg f a S (fun _ _=>False) fun u U=>u=q∧U=S)∧P q
abbrev Fi(v:AV)(A B:Prop):Prop:=GI v fun b=>gd b A B
abbrev Lf(x:AV)(n:Nat)(S:Aa)(K:AV→Aa→Prop):Prop:=shift x n S fun v S=>Ax v S K
theorem Bl{f:Nat}{fn:Func}{args:List AV}{S:Aa}{Q:Bg→Aa→Prop}{n:Nat}(ms:List (List Nat))(hf:Pg.funcs[f]?=some fn)(hb:(fn.body.isSome&&(G5 Pg f&&Nat.beq (args.length+(fn.ntmps-args.length)) n))=true)(h:vc Pg (fn.body.getD .skip) ms (GJ n args) S (Ao Pg fn.results.toList Q)):Ad Pg f args S Q:=by
 rw[Ai5,Ai5] at hb
 obtain⟨c,hc⟩:=Option.isSome_iff_exists.1 hb.1
 rw[hc] at h
 exact RW hf hc hb.2.1 (Nat.eq_of_beq_eq_true hb.2.2) ms h
theorem Kg{S S':Aa}{o:Option Bw}{i:Nat}(h:Am S S')(e:S.obj i=o)(l:i<S.n:=by omega):S'.obj i=o:=(h.2 i l).trans e
abbrev CK:List AV:=[aI 0,.v (.string ByteArray.empty),aI 0,.nl]
abbrev Ju:List AV:=[aI 0,aI 0,aI 0,.nl,.nl]
abbrev Jt:List AV:=[aI 0,.v (.bool false)]
abbrev Qq:List (Nat×Nat):=[(0,1),(1,1),(2,1),(3,1)]
abbrev Uz:List (Nat×Nat):=[(0,1),(1,1),(2,1),(3,1),(4,1)]
abbrev XN:List AV:=[aI 0,.nl,.nl,.nl,.nl]
abbrev wW:List AV:=[aI 0,.nl,.nl,.nl,.nl,.nl,.nl,.nl]
abbrev Zz7:List AV:=[.v (.int .u8 0),aI 0,.v (.string ByteArray.empty)]
abbrev BS(E:AV→List AV)(n:Nat)(I:AV→Aa→Prop)(μ:AV→Aa→Nat)(b:AV→Aa→BB→Prop):Prop:=∀(y0:AV)(S:Aa),I y0 S→∀ KE:BB,(∀(y0':AV)(S':Aa),I y0' S'→μ y0' S'<μ y0 S→KE n (E y0') S')→b y0 S KE
theorem DY{lv:List Nat}{B:Env→Aa→(AX→Env→Aa→Prop)→Prop}{n:Nat}{K:AX→Env→Aa→Prop}{E:AV→List AV}{b:AV→Aa→BB→Prop}(d0:Nat)(hE:∀ y0,(E y0).getD d0 .j=y0)(eq:∀ y0 S KE,B (Ly n lv (E y0)) S (BY (Hn lv KE) K)=b y0 S KE){I:AV→Aa→Prop}{μ:AV→Aa→Nat}{z0:AV}{S:Aa}(h0:I z0 S)(hr:BS E n I μ b):Ap lv B n (E z0) S K:=by
 refine⟨fun m e S=>m=n∧∃ y0,e=E y0∧I y0 S,fun _ e S=>μ (e.getD d0 .j) S,⟨_,_,Wk.refl _ _,rfl,_,rfl,h0⟩,?_⟩
 rintro _ e S ⟨rfl,y0,rfl,hI⟩
 rw[eq]
 exact hr y0 S hI _ fun y0' S' hI' hm=>⟨_,_,Wk.refl _ _,⟨rfl,_,rfl,hI'⟩,by simp only[hE];exact hm⟩
abbrev DE(E:AV→AV→List AV)(n:Nat)(I:AV→AV→Aa→Prop)(μ:AV→AV→Aa→Nat)(b:AV→AV→Aa→BB→Prop):Prop:=∀(y0 y1:AV)(S:Aa),I y0 y1 S→∀ KE:BB,(∀(y0' y1':AV)(S':Aa),I y0' y1' S'→μ y0' y1' S'<μ y0 y1 S→KE n (E y0' y1') S')→b y0 y1 S KE
theorem IN{lv:List Nat}{B:Env→Aa→(AX→Env→Aa→Prop)→Prop}{n:Nat}{K:AX→Env→Aa→Prop}{E:AV→AV→List AV}{b:AV→AV→Aa→BB→Prop}(d0 d1:Nat)(hE:∀ y0 y1,(E y0 y1).getD d0 .j=y0∧(E y0 y1).getD d1 .j=y1)(eq:∀ y0 y1 S KE,B (Ly n lv (E y0 y1)) S (BY (Hn lv KE) K)=b y0 y1 S KE){I:AV→AV→Aa→Prop}{μ:AV→AV→Aa→Nat}{z0 z1:AV}{S:Aa}(h0:I z0 z1 S)(hr:DE E n I μ b):Ap lv B n (E z0 z1) S K:=by
 refine⟨fun m e S=>m=n∧∃ y0 y1,e=E y0 y1∧I y0 y1 S,fun _ e S=>μ (e.getD d0 .j) (e.getD d1 .j) S,⟨_,_,Wk.refl _ _,rfl,_,_,rfl,h0⟩,?_⟩
 rintro _ e S ⟨rfl,y0,y1,rfl,hI⟩
 rw[eq]
 exact hr y0 y1 S hI _ fun y0' y1' S' hI' hm=>⟨_,_,Wk.refl _ _,⟨rfl,_,_,rfl,hI'⟩,by simp only[hE];exact hm⟩
theorem dT{p:Prop}[Decidable p]:decide p=true→p:=of_decide_eq_true
theorem dF{p:Prop}[Decidable p]:decide p=false→¬p:=of_decide_eq_false
theorem gSm{α:Type}{l:List α}{i:Nat}{a:α}:l[i]?=some a↔∃ h:i<l.length,l[i]=a:=List.getElem?_eq_some_iff
def c4:Code:=(Tryz.f4.body).getD .skip
def r4:List ResultVar:=Tryz.f4.results.toList
abbrev Ta(S:Aa)(Q:Aq)(a c x4:AV):Prop:=Ah Pg 9 [] S Q fun d S=>Fi d (Lt S (AA 8 a) fun e=>Lt S (AA 4 c) fun f=>Lt S (Cf .i64 x4) fun g=>Lt S (shift a 0) fun h=>Lt S (Ax h) fun i=>Lt S (shift a 1) fun k=>Lt S (Ax k) fun l=>Lt S (AG l) fun m=>Lt S (bin .add 0 i m) fun n=>Lt S (bin .shl 0 (aI 1) n) fun o=>Lt S (bin .rem 0 g o) fun p=>Lc S 10 [e,f,p] fun q=>∃ r:AV,(∀ T:Aa,Am S T→q=r∧T=T)∧Q (.ret r) S) (∃ s:AV,(∀ T:Aa,Am S T→(.v (.bool false))=s∧T=T)∧Q (.ret s) S)
abbrev mO(x5 a:AV)(S:Aa)(Q:Aq)(c x4:AV):Prop:=Fi x5 (AA 4 a S fun d S=>Ah Pg 7 [aI 4,d] S Q fun e S=>A8 4 a e S fun f S=>Ta S Q c a x4) (Ta S Q c a x4)
abbrev mN(S:Aa)(a x3 c x5:AV)(Q:Aq)(d x4:AV):Prop:=Lt S (shift a 3) fun e=>Lt S (Ax e) fun f=>Lt S (Cf .i64 x3) fun g=>Lt S (bin .rem 0 g c) fun h=>Lt S (CH Qq CK [(0,(aI 3)),(2,h)]) fun i=>Lt S (AU 32 4 1 CK [(0,i)]) fun k=>Bo 32 4 56 f k S fun l S=>Lt S (shift a 3) fun m=>A8 1 m l S fun n S=>mO x5 a S Q d x4
def m4(x0 x1 x2 x3 x4 x5:AV)(S:Aa)(Q:Aq):Prop:=
 Ah Pg 6 [x0,.nl] S Q fun c S=>A0 c 0 S fun d S=>A0 c 1 S fun e S=>Az 29 8 (.a wW) S fun f S=>Az 32 4 (.a CK) S fun g S=>A8 8 f d S fun h S=>A8 4 g e S fun i S=>Lf f 0 S fun k S=>Lf f 1 S fun l S=>AG l S fun m S=>bin .add 0 k m S fun n S=>bin .add 0 n (aI 1) S fun o S=>Lf f 2 S fun p S=>AG p S fun q S=>bin .add 0 o q S fun r S=>bin .mul 0 (aI 2) r S fun s S=>Cf .i64 x1 S fun t S=>bin .rem 0 t (aI 15) S fun u S=>bin .add 0 (aI 4) u S fun v S=>Cf .i64 x2 S fun w S=>bin .rem 0 w s S fun x S=>CH Qq CK [(0,(aI 3)),(2,x)] S fun y S=>AU 32 4 1 CK [(0,y)] S fun z S=>CH Qq CK [(0,v),(3,z)] S fun A S=>Az 32 4 (.a CK) S fun B S=>A8 4 B A S fun C S=>bin .geq 0 v (aI 5) S fun D S=>Fi D (bin .leq 0 v (aI 8) S fun E S=>Fi E (mN S B x3 s x5 Q f x4) (bin .geq 0 v (aI 15) S fun F S=>Fi F (mN S B x3 s x5 Q f x4) (mO x5 B S Q f x4))) (bin .geq 0 v (aI 15) S fun G S=>Fi G (mN S B x3 s x5 Q f x4) (mO x5 B S Q f x4))
theorem zD{x0 x1 x2 x3 x4 x5:AV}{S:Aa}{Q:Aq}(h:m4 x0 x1 x2 x3 x4 x5 S Q):Ad Pg 4 [x0,x1,x2,x3,x4,x5] S Q:=
 Bl (n:=86) [[9]] Tryz.func4 (by kernel_rfl) (Eq.mpr (by kernel_rfl) h)
def c9:Code:=(Tryz.f9.body).getD .skip
def r9:List ResultVar:=Tryz.f9.results.toList
def m9(S:Aa)(Q:Aq):Prop:=
 CH [(0,1),(1,1)] [aI 0,aI 0] [(0,(aI 3))] S fun c S=>AU 67 2 1 [aI 0,aI 0] [(0,c)] S fun d S=>CH [(0,1),(1,1),(2,1),(3,1),(4,1),(5,1),(6,1),(7,1)] wW [(1,d)] S fun e S=>Az 29 8 (.a wW) S fun f S=>A8 8 f e S fun g S=>CH Qq CK [(0,(aI 3)),(2,(aI 2))] S fun h S=>Ah Pg 7 [aI 11,h] S Q fun i S=>Az 32 4 (.a CK) S fun k S=>A8 4 k i S fun l S=>AA 8 f S fun m S=>AA 4 k S fun n S=>Ah Pg 12 [m,n,aI 0] S Q fun o S=>A0 o 0 S fun p S=>A0 o 1 S fun q S=>A0 o 2 S fun r S=>Az 51 5 (.a Ju) S fun s S=>A8 5 s p S fun t S=>AA 8 f S fun u S=>AA 4 k S fun w S=>AA 5 s S fun x S=>Ah Pg 13 [u,w,x] S Q fun y S=>A0 y 0 S fun z S=>A0 y 1 S fun A S=>Lt S (AA 8 f) fun B=>Lt S (CH Qq CK [(0,(aI 3)),(2,(aI 2))]) fun C=>Lc S 7 [aI 9,C] fun D=>Lc S 12 [B,D,aI 1] fun E=>Lt S (A0 E 0) fun F=>Lt S (A0 E 1) fun G=>Lt S (A0 E 2) fun H=>Az 51 5 (.a Ju) S fun I S=>(∀ T:Aa,Am S T→A0 E 2 T fun J S=>J=H∧S=T)∧(∀ T:Aa,Am S T→A0 E 1 T fun K S=>K=G∧S=T)∧A8 5 I F S fun L S=>(∀ T:Aa,Am S T→A0 E 2 T fun M S=>M=H∧S=T)∧(∀ T:Aa,Am S T→A0 E 1 T fun N S=>N=G∧S=T)∧AA 8 f S fun O S=>AA 4 k S fun P S=>Ah Pg 12 [O,P,aI 2] S Q fun R S=>A0 R 0 S fun U S=>A0 R 1 S fun V S=>A0 R 2 S fun W S=>Az 51 5 (.a Ju) S fun X S=>A8 5 X U S fun Y S=>bin .eql 0 r (aI 0) S fun Z S=>Fi Z (Fi q (Fi A (bin .eql 0 z (aI 0) S fun a0 S=>Fi a0 (Lf s 1 S fun a1 S=>bin .eql 0 a1 (aI 0) S fun a2 S=>Fi a2 (bin .eql 0 H (aI 0) S fun a3 S=>Fi a3 (un .not G S fun a4 S=>Fi a4 (bin .eql 0 W (aI 1) S fun a5 S=>Q (.ret a5) S) (Q (.ret (.v (.bool false))) S)) (Q (.ret (.v (.bool false))) S)) (Q (.ret (.v (.bool false))) S)) (Q (.ret (.v (.bool false))) S)) (Q (.ret (.v (.bool false))) S)) (Q (.ret (.v (.bool false))) S)) (Q (.ret (.v (.bool false))) S)
theorem yY{S:Aa}{Q:Aq}(h:m9  S Q):Ad Pg 9 [] S Q:=
 Bl (n:=77) [[]] Tryz.func9 (by kernel_rfl) (Eq.mpr (by kernel_rfl) h)
def m10(x0 x1 x2:AV)(S:Aa)(Q:Aq):Prop:=
 Az 29 8 x0 S fun c S=>Az 32 4 x1 S fun d S=>AA 8 c S fun e S=>AA 4 d S fun f S=>Ah Pg 12 [e,f,x2] S Q fun g S=>A0 g 0 S fun h S=>A0 g 1 S fun i S=>A0 g 2 S fun k S=>Az 51 5 (.a Ju) S fun l S=>A8 5 l h S fun m S=>AA 8 c S fun n S=>AA 4 d S fun o S=>Ah Pg 21 [n,o,x2] S Q fun p S=>A0 p 0 S fun q S=>A0 p 1 S fun r S=>bin .neq 0 k r S fun s S=>Fi s (Q (.ret (.v (.bool false))) S) (bin .neq 1 i q S fun t S=>Fi t (Q (.ret (.v (.bool false))) S) (un .not i S fun u S=>Fi u (AA 5 l S fun w S=>Ah Pg 22 [w] S Q fun x S=>Q (.ret x) S) (AA 8 c S fun y S=>AA 4 d S fun z S=>AA 5 l S fun A S=>Ah Pg 13 [y,z,A] S Q fun B S=>A0 B 0 S fun C S=>A0 B 1 S fun D S=>Fi D (Lf l 1 S fun E S=>bin .eql 0 E x2 S fun F S=>Fi F (bin .eql 0 C (aI 0) S fun G S=>Fi G (Q (.ret (.v (.bool true))) S) (AA 4 d S fun H S=>Ah Pg 23 [H] S Q fun I S=>un .not I S fun J S=>Q (.ret J) S)) (Q (.ret (.v (.bool false))) S)) (Q (.ret (.v (.bool false))) S))))
theorem rP{x0 x1 x2:AV}{S:Aa}{Q:Aq}(h:m10 x0 x1 x2 S Q):Ad Pg 10 [x0,x1,x2] S Q:=
 Bl (n:=64) [[]] Tryz.func10 (by kernel_rfl) (Eq.mpr (by kernel_rfl) h)
abbrev Zy(S:Aa)(a:AV)(Q:Aq):Prop:=CH Uz Ju [] S fun c S=>A8 5 a c S fun d S=>AA 5 a S fun e _=>Q (.ret (.t [e,.v (.bool false),aI 1])) S
abbrev Zx(S:Aa)(a:AV)(Q:Aq)(c:AV):Prop:=CH Uz Ju [] S fun d S=>A8 5 a d S fun e S=>AA 5 a S fun f _=>Q (.ret (.t [f,.v (.bool false),c])) S
def m12(x0 x1 x2:AV)(S:Aa)(Q:Aq):Prop:=
 Az 29 8 x0 S fun c S=>Az 32 4 x1 S fun d S=>Az 51 5 (.a Ju) S fun e S=>AA 8 c S fun f S=>AA 4 d S fun g S=>Ah Pg 29 [f,g] S Q fun h S=>A0 h 0 S fun i S=>A0 h 1 S fun k S=>bin .neq 0 k (aI 0) S fun l S=>Fi l (Zx S e Q k) (bin .lss 0 x2 (aI 0) S fun m S=>Fi m (Zy S e Q) (AG i S fun n S=>bin .geq 0 x2 n S fun o S=>Fi o (Zy S e Q) (AR 4 1 i x2 S fun p S=>Ax p S fun q S=>un .not q S fun r S=>Fi r (CH Uz Ju [] S fun u S=>A8 5 e u S fun w S=>AA 5 e S fun x _=>Q (.ret (.t [x,.v (.bool false),aI 0])) S) (AA 8 c S fun y S=>Ah Pg 30 [y] S Q fun z S=>A0 z 0 S fun A S=>A0 z 1 S fun B S=>Az 45 5 (.a XN) S fun C S=>A8 5 C A S fun D S=>bin .neq 0 B (aI 0) S fun E S=>Fi E (Zx S e Q B) (AA 8 c S fun F S=>AA 5 C S fun G S=>Zb .s S fun H S=>CH [(0,8),(8,5),(13,1)] [aI 0,.nl,.nl,.nl,.nl,.nl,.nl,.nl,aI 0,.nl,.nl,.nl,.nl,.v (.map none)] [(0,F),(1,G),(2,H)] S fun I S=>Az 82 14 I S fun J S=>AA 4 d S fun K S=>Ah Pg 32 [K] S Q fun L S=>Ah Pg 31 [J,L,x2] S Q fun M S=>A8 5 e M S fun N S=>AA 5 e S fun O _=>Q (.ret (.t [O,.v (.bool true),aI 0])) S)))))
theorem rN{x0 x1 x2:AV}{S:Aa}{Q:Aq}(h:m12 x0 x1 x2 S Q):Ad Pg 12 [x0,x1,x2] S Q:=
 Bl (n:=57) [[31]] Tryz.func12 (by kernel_rfl) (Eq.mpr (by kernel_rfl) h)
def c40:Code:=(Tryz.f40.body).getD .skip
def r40:List ResultVar:=Tryz.f40.results.toList
def L7(y1 y3:AV):List AV:=[y1,y3]
def TE:List Nat:=[1,3]
def Y3:List (List Nat):=[TE,[]]
abbrev Oc(v4:AV)(Q:Aq)(S:Aa)(v1:AV):Prop:=Fi v4 (Q (.ret (.v (.bool false))) S) (Ap TE (vc Pg (c40.at_ [1,1,0,1,0,0]) (Y3.drop 1)) 26 (L7 v1 (aI 0)) S (Ak 1 (Av (vc Pg (c40.at_ [1,1,1]) (Y3.drop 1)) (Ao Pg r40 Q))))
def m40(x0:AV)(S:Aa)(Q:Aq):Prop:=
 Az 32 4 x0 S fun a S=>Lf a 0 S fun c S=>bin .eql 0 c (aI 10) S fun d S=>Fi d (Oc d Q S a) (bin .eql 0 c (aI 12) S fun e S=>Fi e (Oc e Q S a) (bin .eql 0 c (aI 14) S fun f S=>Fi f (Oc f Q S a) (bin .eql 0 c (aI 16) S fun g S=>Fi g (Oc g Q S a) (bin .eql 0 c (aI 18) S fun h S=>Oc h Q S a))))
theorem qO{x0:AV}{S:Aa}{Q:Aq}(h:m40 x0 S Q):Ad Pg 40 [x0] S Q:=
 Bl (n:=26) Y3 Tryz.func40 (by kernel_rfl) (Eq.mpr (by kernel_rfl) h)
def vI(y1 y3:AV)(S:Aa)(KE0:BB)(Q:Aq):Prop:=
 Lf y1 3 S fun a S=>AG a S fun c S=>bin .lss 0 y3 c S fun d S=>Fi d (Lf y1 3 S fun e S=>AR 32 4 e y3 S fun f S=>AA 4 f S fun g S=>Ah Pg 40 [g] S Q fun h S=>un .not h S fun i S=>Fi i (Q (.ret (.v (.bool false))) S) (bin .add 0 y3 (aI 1) S fun k S=>KE0 26 (L7 y1 k) S)) (Q (.ret (.v (.bool true))) S)
theorem Z5{y1:AV}{y30:AV}{S:Aa}{Q:Aq}(I:AV→Aa→Prop)(μ:AV→Aa→Nat)(h0:I y30 S)(hr:BS (fun y3=>L7 y1 y3) 26 I μ fun y3 S KE0=>vI y1 y3 S KE0 Q):
 Ap TE (vc Pg (c40.at_ [1,1,0,1,0,0]) (Y3.drop 1)) 26 (L7 y1 y30) S (Ak 1 (Av (vc Pg (c40.at_ [1,1,1]) (Y3.drop 1)) (Ao Pg r40 Q))):=DY 1 (fun _=>rfl) (fun _ _ _=>by kernel_rfl) h0 hr
def m21(x0 x1 x2:AV)(S:Aa)(Q:Aq):Prop:=
 Az 29 8 x0 S fun a S=>Az 32 4 x1 S fun c S=>AA 8 a S fun d S=>AA 4 c S fun e S=>Ah Pg 39 [d,e] S Q fun f S=>A0 f 0 S fun g S=>A0 f 1 S fun h S=>bin .neq 0 h (aI 0) S fun i S=>Fi i (Q (.ret (.t [.v (.bool false),h])) S) (bin .lss 0 x2 (aI 0) S fun k S=>Fi k (Q (.ret (.t [.v (.bool false),aI 1])) S) (AG g S fun l S=>bin .geq 0 x2 l S fun m S=>Fi m (Q (.ret (.t [.v (.bool false),aI 1])) S) (AR 4 1 g x2 S fun n S=>Ax n S fun o S=>Q (.ret (.t [o,aI 0])) S)))
theorem rF{x0 x1 x2:AV}{S:Aa}{Q:Aq}(h:m21 x0 x1 x2 S Q):Ad Pg 21 [x0,x1,x2] S Q:=
 Bl (n:=31) [[]] Tryz.func21 (by kernel_rfl) (Eq.mpr (by kernel_rfl) h)
def c7:Code:=(Tryz.f7.body).getD .skip
def m7(x0 x1:AV)(S:Aa)(Q:Aq):Prop:=
 Az 32 4 x1 S fun c S=>Az 32 4 (.a CK) S fun d S=>AA 4 c S fun e S=>AU 32 4 1 CK [(0,e)] S fun f S=>CH Qq CK [(0,x0),(3,f)] S fun g S=>A8 4 d g S fun h S=>AA 4 d S fun i _=>Q (.ret i) S
theorem zA{x0 x1:AV}{S:Aa}{Q:Aq}(h:m7 x0 x1 S Q):Ad Pg 7 [x0,x1] S Q:=
 Bl (n:=9) [[]] Tryz.func7 (by kernel_rfl) (Eq.mpr (by kernel_rfl) h)
def m22(x0:AV)(S:Aa)(Q:Aq):Prop:=
 Az 51 5 x0 S fun a S=>Lf a 0 S fun c S=>bin .eql 0 c (aI 0) S fun d S=>Fi d (Lf a 1 S fun e S=>bin .eql 0 e (aI 0) S fun f S=>Fi f (Lf a 2 S fun g S=>bin .eql 0 g (aI 0) S fun h S=>Fi h (Lf a 3 S fun i S=>AG i S fun k S=>bin .eql 0 k (aI 0) S fun l S=>Fi l (Lf a 4 S fun m S=>AG m S fun n S=>bin .eql 0 n (aI 0) S fun o S=>Q (.ret o) S) (Q (.ret (.v (.bool false))) S)) (Q (.ret (.v (.bool false))) S)) (Q (.ret (.v (.bool false))) S)) (Q (.ret (.v (.bool false))) S)
theorem rE{x0:AV}{S:Aa}{Q:Aq}(h:m22 x0 S Q):Ad Pg 22 [x0] S Q:=
 Bl (n:=28) [[]] Tryz.func22 (by kernel_rfl) (Eq.mpr (by kernel_rfl) h)
def m23(x0:AV)(S:Aa)(Q:Aq):Prop:=
 Az 32 4 x0 S fun a S=>AA 4 a S fun c S=>Ah Pg 41 [c] S Q fun d S=>Ah Pg 40 [d] S Q fun e S=>Q (.ret e) S
theorem rD{x0:AV}{S:Aa}{Q:Aq}(h:m23 x0 S Q):Ad Pg 23 [x0] S Q:=
 Bl (n:=6) [[]] Tryz.func23 (by kernel_rfl) (Eq.mpr (by kernel_rfl) h)
abbrev FD(a x2:AV)(S:Aa)(c:AV)(Q:Aq):Prop:=Fi a (CH Uz Ju [(0,(aI 1)),(1,x2)] S fun d S=>A8 5 c d S fun e S=>AA 5 c S fun f _=>Q (.ret f) S) (CH Uz Ju [(0,(aI 7)),(1,x2)] S fun g S=>A8 5 c g S fun h S=>AA 5 c S fun i _=>Q (.ret i) S)
def XV(x0 x1 x2:AV)(S:Aa)(Q:Aq):Prop:=
 Az 32 4 x1 S fun c S=>Az 51 5 (.a Ju) S fun d S=>Lf c 0 S fun e S=>bin .eql 0 e (aI 5) S fun f S=>Fi f (Lt S (shift c 3) fun g=>Lt S (Ax g) fun h=>Lt S (AR 32 4 h (aI 0)) fun i=>Lt S (AA 4 i) fun k=>Lt S (shift c 3) fun l=>Lt S (Ax l) fun m=>Lt S (AR 32 4 m (aI 1)) fun n=>Lt S (AA 4 n) fun o=>Ah Pg 31 [x0,k,x2] S Q fun q S=>(∀ T:Aa,Am S T→AA 4 n T fun r S=>r=o∧S=T)∧(∀ T:Aa,Am S T→AR 32 4 m (aI 1) T fun s S=>s=n∧S=T)∧(∀ T:Aa,Am S T→Ax l T fun t S=>t=m∧S=T)∧(∀ T:Aa,Am S T→shift c 3 T fun u S=>u=l∧S=T)∧Ah Pg 31 [x0,o,x2] S Q fun w S=>Lt S (AU 51 5 2 Ju [(0,q),(1,w)]) fun x=>Lt S (CH Uz Ju [(0,(aI 2)),(1,x2),(4,x)]) fun y=>A8 5 d y S fun z S=>AA 5 d S fun A _=>Q (.ret A) S) (bin .eql 0 e (aI 6) S fun B S=>Fi B (Lf c 3 S fun C S=>Ah Pg 59 [x0,x2,C] S Q fun D S=>A8 5 d D S fun E S=>AA 5 d S fun F _=>Q (.ret F) S) (bin .eql 0 e (aI 9) S fun G S=>Fi G (Lf c 3 S fun H S=>AR 32 4 H (aI 0) S fun I S=>AA 4 I S fun J S=>Ah Pg 60 [x0,J,x2] S Q fun K S=>A8 5 d K S fun L S=>AA 5 d S fun M _=>Q (.ret M) S) (bin .eql 0 e (aI 11) S fun N S=>Fi N (Lc S 62 [] fun O=>Lt S (shift c 3) fun P=>Lt S (Ax P) fun R=>Lt S (AR 32 4 R (aI 0)) fun U=>Lt S (AA 4 U) fun V=>Ah Pg 61 [x0,O,V,x2] S Q fun W S=>A8 5 d W S fun X S=>AA 5 d S fun Y _=>Q (.ret Y) S) (bin .eql 0 e (aI 15) S fun Z S=>Fi Z (Lt S (shift c 3) fun a0=>Lt S (Ax a0) fun a1=>Lt S (AR 32 4 a1 (aI 0)) fun a2=>Lt S (AA 4 a2) fun a3=>Lt S (shift c 3) fun a4=>Lt S (Ax a4) fun a5=>Lt S (AR 32 4 a5 (aI 1)) fun a6=>Lt S (AA 4 a6) fun a7=>Ah Pg 61 [x0,a3,a7,x2] S Q fun a8 S=>A8 5 d a8 S fun a9 S=>AA 5 d S fun b0 _=>Q (.ret b0) S) (bin .eql 0 e (aI 17) S fun b1 S=>Fi b1 (Lt S (shift c 3) fun b2=>Lt S (Ax b2) fun b3=>Lt S (AR 32 4 b3 (aI 0)) fun b4=>Lt S (AA 4 b4) fun b5=>Lt S (shift c 3) fun b6=>Lt S (Ax b6) fun b7=>Lt S (AR 32 4 b7 (aI 1)) fun b8=>Lt S (AA 4 b8) fun b9=>UZ [(.cells 32 [[aI 0,.v (.string ByteArray.empty),aI 0,.nl]] true),(.cells 32 [[aI 0,.v (.string ByteArray.empty),aI 0,.nl]] true)] S fun ids105 S=>A8 4 (.p (ids105.headD 0) 0 0) b5 S fun c0 S=>(∀ T:Aa,Am S T→AA 4 b8 T fun c1 S=>c1=b9∧S=T)∧(∀ T:Aa,Am S T→AR 32 4 b7 (aI 1) T fun c2 S=>c2=b8∧S=T)∧(∀ T:Aa,Am S T→Ax b6 T fun c3 S=>c3=b7∧S=T)∧(∀ T:Aa,Am S T→shift c 3 T fun c4 S=>c4=b6∧S=T)∧A8 4 (.p (ids105.tail.headD 0) 0 0) b9 S fun c5 S=>Lt S (AA 4 (.p (ids105.tail.headD 0) 0 0)) fun c6=>Lt S (AU 32 4 1 CK [(0,c6)]) fun c7=>Lc S 63 [aI 13,c7] fun c8=>Lt S (AA 4 (.p (ids105.tail.headD 0) 0 0)) fun c9=>Lt S (AA 4 (.p (ids105.headD 0) 0 0)) fun d0=>Lt S (AA 4 (.p (ids105.tail.headD 0) 0 0)) fun d1=>Lt S (AU 32 4 2 CK [(0,d0),(1,d1)]) fun d2=>Lc S 63 [aI 5,d2] fun d3=>Lt S (AU 32 4 2 CK [(0,c9),(1,d3)]) fun d4=>Lc S 63 [aI 15,d4] fun d5=>Lt S (AU 32 4 2 CK [(0,c8),(1,d5)]) fun d6=>Ah Pg 59 [x0,x2,d6] S Q fun d7 S=>A8 5 d d7 S fun d8 S=>AA 5 d S fun d9 _=>Q (.ret d9) S) (bin .eql 0 e (aI 13) S fun e0 S=>Fi e0 (AA 4 c S fun e1 S=>Ah Pg 65 [x0,e1] S Q fun e2 S=>Ah Pg 64 [x0,x2,e2] S Q fun e3 S=>A0 e3 0 S fun e4 S=>A0 e3 1 S fun e5 S=>Lf c 3 S fun e6 S=>AR 32 4 e6 (aI 0) S fun e7 S=>AA 4 e7 S fun e8 S=>Ah Pg 66 [x0,e8,e4] S Q fun e9 S=>CH Uz Ju [(0,(aI 6)),(1,x2),(2,e5),(3,e4),(4,e9)] S fun f0 S=>A8 5 d f0 S fun f1 S=>AA 5 d S fun f2 _=>Q (.ret f2) S) (bin .eql 0 e (aI 2) S fun f3 S=>Fi f3 (FD f3 x2 S d Q) (bin .eql 0 e (aI 3) S fun f4 S=>Fi f4 (FD f4 x2 S d Q) (bin .eql 0 e (aI 4) S fun f5 S=>FD f5 x2 S d Q)))))))))
theorem DO{x0 x1 x2:AV}{S:Aa}{Q:Aq}(h:XV x0 x1 x2 S Q):Ad Pg 31 [x0,x1,x2] S Q:=
 Bl (n:=125) [[31,59,60,61,66,65]] Tryz.func31 (by kernel_rfl) (Eq.mpr (by kernel_rfl) h)
def AeV(x0 x1:AV)(S:Aa)(Q:Aq):Prop:=
 Ax x1 S fun a S=>AR 4 1 a x0 S fun c S=>Ax c S fun d S=>Q (.ret d) S
theorem fI{x0 x1:AV}{S:Aa}{Q:Aq}(h:AeV x0 x1 S Q):Ad Pg 107 [x0,x1] S Q:=
 Bl (n:=8) [[]] Tryz.func107 (by kernel_rfl) (Eq.mpr (by kernel_rfl) h)
def m60(x0 x1 x2:AV)(S:Aa)(Q:Aq):Prop:=
 Az 32 4 x1 S fun c S=>Az 51 5 (.a Ju) S fun d S=>AA 4 c S fun e S=>Ah Pg 65 [x0,e] S Q fun g S=>Ah Pg 62 [] S Q fun h S=>AU 32 4 1 CK [(0,h)] S fun i S=>Ah Pg 63 [aI 13,i] S Q fun k S=>Ah Pg 65 [x0,k] S Q fun l S=>Ah Pg 105 [g,l] S Q fun m S=>Az 41 1 .nl S fun n S=>A8 1 n m S fun o S=>AJ x0 S fun p S=>shift p 8 S fun q S=>Lf q 3 S fun r S=>AR 26 1 r x2 S fun s S=>Ax s S fun t S=>Ah Pg 106 [t,(.f (.func 107) [] [n])] S Q fun u S=>AJ x0 S fun v S=>shift v 8 S fun w S=>Lf w 3 S fun x S=>AR 26 1 x x2 S fun y S=>Ax y S fun z S=>AR 3 1 z u S fun A S=>Ax A S fun B S=>AA 4 c S fun C S=>Ah Pg 31 [x0,C,B] S Q fun D S=>Ah Pg 108 [x0,B] S Q fun E S=>AU 51 5 2 Ju [(0,D),(1,E)] S fun F S=>CH Uz Ju [(0,(aI 4)),(1,x2),(4,F)] S fun G S=>A8 5 d G S fun H S=>AA 5 d S fun I _=>Q (.ret I) S
theorem pV{x0 x1 x2:AV}{S:Aa}{Q:Aq}(h:m60 x0 x1 x2 S Q):Ad Pg 60 [x0,x1,x2] S Q:=
 Bl (n:=50) [[31,108,65]] Tryz.func60 (by kernel_rfl) (Eq.mpr (by kernel_rfl) h)
def m61(x0 x1 x2 x3:AV)(S:Aa)(Q:Aq):Prop:=
 Az 32 4 x1 S fun c S=>Az 32 4 x2 S fun d S=>Az 51 5 (.a Ju) S fun e S=>Lt S (AA 4 c) fun f=>Lt S (AA 4 d) fun g=>Ah Pg 65 [x0,f] S Q fun h S=>(∀ T:Aa,Am S T→AA 4 d T fun i S=>i=g∧S=T)∧Ah Pg 65 [x0,g] S Q fun k S=>Lc S 62 [] fun l=>Lt S (AU 32 4 1 CK [(0,l)]) fun m=>Lc S 63 [aI 13,m] fun n=>Ah Pg 65 [x0,n] S Q fun o S=>Lc S 105 [k,o] fun p=>Ah Pg 109 [x0,x3,h,p,aI 0] S Q fun q S=>AG q S fun r S=>bin .sub 0 r (aI 1) S fun s S=>AR 3 1 q s S fun t S=>Ax t S fun u S=>Lt S (AA 4 c) fun v=>Lt S (AG q) fun w=>Lt S (bin .sub 0 w (aI 1)) fun x=>Lt S (IJ 3 1 q none (some x) none) fun y=>Ah Pg 66 [x0,v,y] S Q fun z S=>AA 4 d S fun A S=>Ah Pg 31 [x0,A,u] S Q fun B S=>Ah Pg 108 [x0,u] S Q fun C S=>AU 51 5 2 Ju [(0,B),(1,C)] S fun D S=>Bo 51 5 72 z D S fun E S=>CH Uz Ju [(0,(aI 5)),(1,x3),(3,q),(4,E)] S fun F S=>A8 5 e F S fun G S=>AA 5 e S fun H _=>Q (.ret H) S
theorem pU{x0 x1 x2 x3:AV}{S:Aa}{Q:Aq}(h:m61 x0 x1 x2 x3 S Q):Ad Pg 61 [x0,x1,x2,x3] S Q:=
 Bl (n:=54) [[109,31,66,108,65]] Tryz.func61 (by kernel_rfl) (Eq.mpr (by kernel_rfl) h)
def m59(x0 x1 x2:AV)(S:Aa)(Q:Aq):Prop:=
 Az 51 5 (.a Ju) S fun c S=>AR 32 4 x2 (aI 0) S fun d S=>AA 4 d S fun e S=>Ah Pg 65 [x0,e] S Q fun f S=>AR 4 1 f x1 S fun g S=>Ax g S fun h S=>un .not h S fun i S=>Fi i (AR 32 4 x2 (aI 1) S fun k S=>AA 4 k S fun l S=>Ah Pg 31 [x0,l,x1] S Q fun m S=>AU 51 5 1 Ju [(0,m)] S fun n S=>CH Uz Ju [(0,(aI 3)),(1,x1),(2,(aI 1)),(4,n)] S fun o S=>A8 5 c o S fun p S=>AA 5 c S fun q _=>Q (.ret q) S) (AR 32 4 x2 (aI 0) S fun r S=>AA 4 r S fun s S=>Ah Pg 31 [x0,s,x1] S Q fun t S=>AU 51 5 1 Ju [(0,t)] S fun u S=>CH Uz Ju [(0,(aI 3)),(1,x1),(2,(aI 0)),(4,u)] S fun v S=>A8 5 c v S fun w S=>AA 5 c S fun x _=>Q (.ret x) S)
theorem pW{x0 x1 x2:AV}{S:Aa}{Q:Aq}(h:m59 x0 x1 x2 S Q):Ad Pg 59 [x0,x1,x2] S Q:=
 Bl (n:=28) [[31,65]] Tryz.func59 (by kernel_rfl) (Eq.mpr (by kernel_rfl) h)
def c66:Code:=(Tryz.f66.body).getD .skip
def r66:List ResultVar:=Tryz.f66.results.toList
def JX(y0 y4 y6 y9 y10 y11:AV):List AV:=[y0,y4,y6,y9,y10,y11]
def Tt:List Nat:=[0,4,6,9,10,11]
def YV:List (List Nat):=[Tt,[31]]
def m66(x0 x1 x2:AV)(S:Aa)(Q:Aq):Prop:=
 Az 32 4 x1 S fun a S=>AG x2 S fun c S=>Ap Tt (vc Pg (c66.at_ [1,0,1,0,0]) (YV.drop 1)) 24 (JX x0 a .nl x2 c (aI 0)) S (Ak 0 (Av (vc Pg (c66.at_ [1,1]) (YV.drop 1)) (Ao Pg r66 Q)))
theorem pO{x0 x1 x2:AV}{S:Aa}{Q:Aq}(h:m66 x0 x1 x2 S Q):Ad Pg 66 [x0,x1,x2] S Q:=
 Bl (n:=24) YV Tryz.func66 (by kernel_rfl) (Eq.mpr (by kernel_rfl) h)
def u4(y0 y4 y6 y9 y10 y11:AV)(S:Aa)(KE0:BB)(Q:Aq):Prop:=
 bin .lss 0 y11 y10 S fun a S=>Fi a (AR 3 1 y9 y11 S fun c S=>Ax c S fun d S=>AA 4 y4 S fun e S=>Ah Pg 31 [y0,e,d] S Q fun f S=>AU 51 5 1 Ju [(0,f)] S fun g S=>Bo 51 5 72 y6 g S fun h S=>bin .add 0 y11 (aI 1) S fun i S=>KE0 24 (JX y0 y4 h y9 y10 i) S) (Q (.ret y6) S)
theorem ZR{y0 y4 y9 y10:AV}{y60 y110:AV}{S:Aa}{Q:Aq}(I:AV→AV→Aa→Prop)(μ:AV→AV→Aa→Nat)(h0:I y60 y110 S)(hr:DE (fun y6 y11=>JX y0 y4 y6 y9 y10 y11) 24 I μ fun y6 y11 S KE0=>u4 y0 y4 y6 y9 y10 y11 S KE0 Q):
 Ap Tt (vc Pg (c66.at_ [1,0,1,0,0]) (YV.drop 1)) 24 (JX y0 y4 y60 y9 y10 y110) S (Ak 0 (Av (vc Pg (c66.at_ [1,1]) (YV.drop 1)) (Ao Pg r66 Q))):=IN (E:=fun y6 y11=>JX y0 y4 y6 y9 y10 y11) 2 5 (fun _ _=>⟨rfl,rfl⟩) (fun _ _ _ _=>by kernel_rfl) h0 hr
def AeU(x0 x1:AV)(S:Aa)(Q:Aq):Prop:=
 Az 51 5 (.a Ju) S fun c S=>Ah Pg 62 [] S Q fun d S=>AU 32 4 1 CK [(0,d)] S fun e S=>Ah Pg 63 [aI 13,e] S Q fun f S=>Ah Pg 31 [x0,f,x1] S Q fun g S=>A8 5 c g S fun h S=>AA 5 c S fun i _=>Q (.ret i) S
theorem fH{x0 x1:AV}{S:Aa}{Q:Aq}(h:AeU x0 x1 S Q):Ad Pg 108 [x0,x1] S Q:=
 Bl (n:=11) [[31]] Tryz.func108 (by kernel_rfl) (Eq.mpr (by kernel_rfl) h)
def m65(x0 x1:AV)(S:Aa)(Q:Aq):Prop:=
 Az 32 4 x1 S fun a S=>AA 4 a S fun c S=>Ah Pg 112 [c] S Q fun d S=>AJ x0 S fun e S=>Lf e 13 S fun f S=>Vk .s .nl true f d S fun g S=>A0 g 0 S fun h S=>A0 g 1 S fun i S=>un .not i S fun k S=>Fi k (Lt S (AJ x0) fun l=>Lt S (shift l 13) fun m=>Lt S (Ax m) fun n=>Lt S (AJ x0) fun o=>Lt S (shift o 0) fun p=>Lt S (AA 8 p) fun q=>Lt S (AJ x0) fun r=>Lt S (shift r 8) fun t=>Lt S (AA 5 t) fun u=>Lt S (AA 4 a) fun v=>Lc S 93 [q,u,v] fun w=>Hr .s n d w S fun x S=>AJ x0 S fun y S=>Lf y 13 S fun z S=>Vk .s .nl false z d S fun A S=>Q (.ret A) S) (AJ x0 S fun B S=>Lf B 13 S fun C S=>Vk .s .nl false C d S fun D S=>Q (.ret D) S)
theorem pP{x0 x1:AV}{S:Aa}{Q:Aq}(h:m65 x0 x1 S Q):Ad Pg 65 [x0,x1] S Q:=
 Bl (n:=42) [[]] Tryz.func65 (by kernel_rfl) (Eq.mpr (by kernel_rfl) h)
def c64:Code:=(Tryz.f64.body).getD .skip
def r64:List ResultVar:=Tryz.f64.results.toList
def G0(y0 y1 y2 y13 y14 y15:AV):List AV:=[y0,y1,y2,y13,y14,y15]
def Tu:List Nat:=[0,1,2,13,14,15]
def YW:List (List Nat):=[Tu,[109]]
def m64(x0 x1 x2:AV)(S:Aa)(Q:Aq):Prop:=
 AG x2 S fun a S=>Ap Tu (vc Pg (c64.at_ [1,0,1,0,0]) (YW.drop 1)) 54 (G0 x0 x1 x2 x2 a (aI 0)) S (Ak 0 (Av (vc Pg (c64.at_ [1,1]) (YW.drop 1)) (Ao Pg r64 Q)))
theorem pQ{x0 x1 x2:AV}{S:Aa}{Q:Aq}(h:m64 x0 x1 x2 S Q):Ad Pg 64 [x0,x1,x2] S Q:=
 Bl (n:=54) YW Tryz.func64 (by kernel_rfl) (Eq.mpr (by kernel_rfl) h)
def u5(y0 y1 y2 y13 y14 y15:AV)(S:Aa)(KE0:BB)(Q:Aq):Prop:=
 bin .lss 0 y15 y14 S fun a S=>Fi a (AR 4 1 y13 y15 S fun c S=>Ax c S fun d S=>un .not d S fun e S=>Fi e (bin .add 0 y15 (aI 1) S fun f S=>KE0 54 (G0 y0 y1 y2 y13 y14 f) S) (Ah Pg 110 [y0,y15] S Q fun g S=>Ah Pg 109 [y0,y1,y2,g,aI 0] S Q fun h S=>AG h S fun i S=>bin .eql 0 i (aI 0) S fun k S=>Fi k (bin .add 0 y15 (aI 1) S fun l S=>KE0 54 (G0 y0 y1 y2 y13 y14 l) S) (Ah Pg 111 [y0,y15,y2] S Q fun m S=>A0 m 0 S fun n S=>A0 m 1 S fun o S=>Fi o (AG h S fun p S=>bin .sub 0 p (aI 1) S fun q S=>AG h S fun r S=>bin .sub 0 r (aI 1) S fun s S=>IJ 3 1 h none (some q) (some s) S fun u S=>Bo 3 1 8 u n S fun v S=>AG h S fun w S=>bin .sub 0 w (aI 1) S fun x S=>Q (.ret (.t [v,x])) S) (bin .add 0 y15 (aI 1) S fun y S=>KE0 54 (G0 y0 y1 y2 y13 y14 y) S)))) (Q (.ret (.t [.nl,aI 0])) S)
theorem ZS{y0 y1 y2 y13 y14:AV}{y150:AV}{S:Aa}{Q:Aq}(I:AV→Aa→Prop)(μ:AV→Aa→Nat)(h0:I y150 S)(hr:BS (fun y15=>G0 y0 y1 y2 y13 y14 y15) 54 I μ fun y15 S KE0=>u5 y0 y1 y2 y13 y14 y15 S KE0 Q):
 Ap Tu (vc Pg (c64.at_ [1,0,1,0,0]) (YW.drop 1)) 54 (G0 y0 y1 y2 y13 y14 y150) S (Ak 0 (Av (vc Pg (c64.at_ [1,1]) (YW.drop 1)) (Ao Pg r64 Q))):=DY 5 (fun _=>rfl) (fun _ _ _=>by kernel_rfl) h0 hr
def sL:Code:=(Tryz.f111.body).getD .skip
def AbT:List ResultVar:=Tryz.f111.results.toList
def HV(y0 y1 y2 y8 y9 y30 y31 y32:AV):List AV:=[y0,y1,y2,y8,y9,y30,y31,y32]
def PK:List Nat:=[0,1,2,8,9,30,31,32]
def Rn:List (List Nat):=[PK,[109]]
def AeR(x0 x1 x2:AV)(S:Aa)(Q:Aq):Prop:=
 AU 3 1 1 [aI 0] [(0,x1)] S fun a S=>(fun S0:Aa=>Lq S0 (AJ x0) fun c=>Lq S0 (shift c 8) fun d=>Lq S0 (AA 5 d) fun e=>Ld S0 110 [x0,x1] fun f=>Ld S0 143 [e,x2,f] fun g=>AJ x0 S fun h S=>shift h 8 S fun i S=>Lf i 4 S fun k S=>AG k S fun l S=>Ap PK (vc Pg (sL.at_ [1,1,1,0,1,0,0]) (Rn.drop 1)) 92 (HV x0 x1 x2 a g k l (aI 0)) S (Ak 0 (Av (vc Pg (sL.at_ [1,1,1,1]) (Rn.drop 1)) (Ao Pg AbT Q)))) S
theorem fD{x0 x1 x2:AV}{S:Aa}{Q:Aq}(h:AeR x0 x1 x2 S Q):Ad Pg 111 [x0,x1,x2] S Q:=
 Bl (n:=92) Rn Tryz.func111 (by kernel_rfl) (Eq.mpr (by kernel_rfl) h)
def iR(y0 y1 y2 y8 y9 y30 y31 y32:AV)(S:Aa)(KE0:BB)(Q:Aq):Prop:=
 bin .lss 0 y32 y31 S fun a S=>Fi a (AR 41 1 y30 y32 S fun c S=>Ax c S fun d S=>Ah Pg 105 [y2,d] S Q fun e S=>Ah Pg 105 [e,y9] S Q fun f S=>Ah Pg 109 [y0,y1,y2,f,aI 0] S Q fun g S=>AG g S fun h S=>bin .eql 0 h (aI 0) S fun i S=>Fi i (Q (.ret (.t [.nl,.v (.bool false)])) S) (IJ 3 1 g (some (aI 1)) none none S fun k S=>Bo 3 1 8 y8 k S fun l S=>Lt S (AG l) fun m=>Lt S (bin .sub 0 m (aI 1)) fun n=>Lt S (AR 3 1 l n) fun o=>Lt S (Ax o) fun p=>Lc S 110 [y0,y1] fun q=>Ah Pg 109 [y0,p,y2,q,aI 0] S Q fun r S=>IJ 3 1 r (some (aI 1)) none none S fun s S=>Bo 3 1 8 l s S fun u S=>bin .add 0 y32 (aI 1) S fun w S=>KE0 92 (HV y0 y1 y2 u y9 y30 y31 w) S)) (AG y8 S fun x S=>bin .gtr 0 x (aI 1) S fun y S=>Fi y (AG y8 S fun z S=>bin .sub 0 z (aI 1) S fun A S=>IJ 3 1 y8 none (some A) none S fun B S=>Q (.ret (.t [B,.v (.bool true)])) S) (Ah Pg 110 [y0,y1] S Q fun C S=>Ah Pg 109 [y0,y1,y2,C,aI 1] S Q fun D S=>AG D S fun E S=>bin .eql 0 E (aI 0) S fun F S=>Fi F (Q (.ret (.t [.nl,.v (.bool false)])) S) (AG D S fun G S=>bin .sub 0 G (aI 1) S fun H S=>IJ 3 1 D none (some H) none S fun I S=>Q (.ret (.t [I,.v (.bool true)])) S)))
theorem Xa{y0 y1 y2 y9 y30 y31:AV}{y80 y320:AV}{S:Aa}{Q:Aq}(I:AV→AV→Aa→Prop)(μ:AV→AV→Aa→Nat)(h0:I y80 y320 S)(hr:DE (fun y8 y32=>HV y0 y1 y2 y8 y9 y30 y31 y32) 92 I μ fun y8 y32 S KE0=>iR y0 y1 y2 y8 y9 y30 y31 y32 S KE0 Q):
 Ap PK (vc Pg (sL.at_ [1,1,1,0,1,0,0]) (Rn.drop 1)) 92 (HV y0 y1 y2 y80 y9 y30 y31 y320) S (Ak 0 (Av (vc Pg (sL.at_ [1,1,1,1]) (Rn.drop 1)) (Ao Pg AbT Q))):=IN (E:=fun y8 y32=>HV y0 y1 y2 y8 y9 y30 y31 y32) 3 7 (fun _ _=>⟨rfl,rfl⟩) (fun _ _ _ _=>by kernel_rfl) h0 hr
def NK:Code:=(Tryz.f109.body).getD .skip
def lQ:List ResultVar:=Tryz.f109.results.toList
def Gm(y0 y1 y2 y3 y11 y12 y13:AV):List AV:=[y0,y1,y2,y3,y11,y12,y13]
def JI:List Nat:=[0,1,2,3,11,12,13]
def Ej(y0 y1 y2 y3 y11 y12 y13 y14 y55 y56 y57:AV):List AV:=[y0,y1,y2,y3,y11,y12,y13,y14,y55,y56,y57]
def PL:List Nat:=[0,1,2,3,11,12,13,14,55,56,57]
def HD:List (List Nat):=[JI,PL,[]]
abbrev Td(S:Aa)(x2:AV)(Q:Aq)(x1 x0 x3:AV):Prop:=AU 3 1 1 [aI 0] [(0,(.v (.int .i64 (-1))))] S fun a S=>AG x2 S fun c S=>Ah Pg 141 [a,c] S Q fun d S=>AU 3 1 1 [aI 0] [(0,x1)] S fun e S=>Ap JI (vc Pg (NK.at_ [1,1,1,1,0,1,0,0]) (HD.drop 1)) 91 (Gm x0 x1 x2 x3 d e (aI 0)) S (Ak 0 (Av (vc Pg (NK.at_ [1,1,1,1,1]) (HD.drop 2)) (Ao Pg lQ Q)))
def AeT(x0 x1 x2 x3 x4:AV)(S:Aa)(Q:Aq):Prop:=
 bin .eql 0 x4 (aI 0) S fun a S=>Fi a (AR 4 1 x3 x1 S fun c S=>Ax c S fun d S=>Fi d (AU 3 1 1 [aI 0] [(0,x1)] S fun e S=>Q (.ret e) S) (Td S x2 Q x1 x0 x3)) (Td S x2 Q x1 x0 x3)
theorem fG{x0 x1 x2 x3 x4:AV}{S:Aa}{Q:Aq}(h:AeT x0 x1 x2 x3 x4 S Q):Ad Pg 109 [x0,x1,x2,x3,x4] S Q:=
 Bl (n:=91) HD Tryz.func109 (by kernel_rfl) (Eq.mpr (by kernel_rfl) h)
def iT(y0 y1 y2 y3 y11 y12 y13:AV)(S:Aa)(KE0:BB)(Q:Aq):Prop:=
 AG y12 S fun a S=>bin .lss 0 y13 a S fun c S=>Fi c (AR 3 1 y12 y13 S fun d S=>Ax d S fun e S=>AR 4 1 y2 e S fun f S=>Ax f S fun g S=>un .not g S fun h S=>Fi h (bin .add 0 y13 (aI 1) S fun i S=>KE0 91 (Gm y0 y1 y2 y3 y11 y12 i) S) (AJ y0 S fun k S=>shift k 8 S fun l S=>Lf l 3 S fun m S=>AR 26 1 m e S fun n S=>Ax n S fun o S=>AG o S fun p S=>Ap PL (vc Pg (NK.at_ [1,1,1,1,0,1,0,0,1,0,0,1,1,1,0,0]) (HD.drop 2)) 91 (Ej y0 y1 y2 y3 y11 y12 y13 e o p (aI 0)) S (Ak 2 (Ak 1 (Av (vc Pg (NK.at_ [1,1,1,1,0,1,0,0,1,1]) (HD.drop 2)) (BY (Hn JI KE0) (Ak 0 (Av (vc Pg (NK.at_ [1,1,1,1,1]) (HD.drop 2)) (Ao Pg lQ Q))))))))) (Q (.ret .nl) S)
theorem Xc{y0 y1 y2 y3 y11:AV}{y120 y130:AV}{S:Aa}{Q:Aq}(I:AV→AV→Aa→Prop)(μ:AV→AV→Aa→Nat)(h0:I y120 y130 S)(hr:DE (fun y12 y13=>Gm y0 y1 y2 y3 y11 y12 y13) 91 I μ fun y12 y13 S KE0=>iT y0 y1 y2 y3 y11 y12 y13 S KE0 Q):
 Ap JI (vc Pg (NK.at_ [1,1,1,1,0,1,0,0]) (HD.drop 1)) 91 (Gm y0 y1 y2 y3 y11 y120 y130) S (Ak 0 (Av (vc Pg (NK.at_ [1,1,1,1,1]) (HD.drop 2)) (Ao Pg lQ Q))):=IN (E:=fun y12 y13=>Gm y0 y1 y2 y3 y11 y12 y13) 5 6 (fun _ _=>⟨rfl,rfl⟩) (fun _ _ _ _=>by kernel_rfl) h0 hr
def iS(y0 y1 y2 y3 y11 y12 y13 y14 y55 y56 y57:AV)(S:Aa)(KE1:BB)(KE0:BB)(Q:Aq):Prop:=
 bin .lss 0 y57 y56 S fun a S=>Fi a (AR 3 1 y55 y57 S fun c S=>Ax c S fun d S=>AR 4 1 y3 d S fun e S=>Ax e S fun f S=>Fi f (Ah Pg 142 [y11,y1,y14] S Q fun g S=>AU 3 1 1 [aI 0] [(0,d)] S fun h S=>Bo 3 1 8 g h S fun i S=>Q (.ret i) S) (AR 3 1 y11 d S fun k S=>Ax k S fun l S=>bin .lss 0 l (aI 0) S fun m S=>Fi m (bin .neq 0 d y1 S fun n S=>Fi n (AR 3 1 y11 d S fun o S=>A8 1 o y14 S fun p S=>AU 3 1 1 [aI 0] [(0,d)] S fun q S=>Bo 3 1 8 y12 q S fun r S=>bin .add 0 y57 (aI 1) S fun s S=>KE1 91 (Ej y0 y1 y2 y3 y11 r y13 y14 y55 y56 s) S) (bin .add 0 y57 (aI 1) S fun t S=>KE1 91 (Ej y0 y1 y2 y3 y11 y12 y13 y14 y55 y56 t) S)) (bin .add 0 y57 (aI 1) S fun u S=>KE1 91 (Ej y0 y1 y2 y3 y11 y12 y13 y14 y55 y56 u) S))) (bin .add 0 y13 (aI 1) S fun v S=>KE0 91 (Gm y0 y1 y2 y3 y11 y12 v) S)
theorem Xb{y0 y1 y2 y3 y11 y13 y14 y55 y56:AV}{y120 y570:AV}{S:Aa}{KE0:BB}{Q:Aq}(I:AV→AV→Aa→Prop)(μ:AV→AV→Aa→Nat)(h0:I y120 y570 S)(hr:DE (fun y12 y57=>Ej y0 y1 y2 y3 y11 y12 y13 y14 y55 y56 y57) 91 I μ fun y12 y57 S KE1=>iS y0 y1 y2 y3 y11 y12 y13 y14 y55 y56 y57 S KE1 KE0 Q):
 Ap PL (vc Pg (NK.at_ [1,1,1,1,0,1,0,0,1,0,0,1,1,1,0,0]) (HD.drop 2)) 91 (Ej y0 y1 y2 y3 y11 y120 y13 y14 y55 y56 y570) S (Ak 2 (Ak 1 (Av (vc Pg (NK.at_ [1,1,1,1,0,1,0,0,1,1]) (HD.drop 2)) (BY (Hn JI KE0) (Ak 0 (Av (vc Pg (NK.at_ [1,1,1,1,1]) (HD.drop 2)) (Ao Pg lQ Q))))))):=IN (E:=fun y12 y57=>Ej y0 y1 y2 y3 y11 y12 y13 y14 y55 y56 y57) 5 10 (fun _ _=>⟨rfl,rfl⟩) (fun _ _ _ _=>by kernel_rfl) h0 hr
def AfK:Code:=(Tryz.f161.body).getD .skip
def AbD:List ResultVar:=Tryz.f161.results.toList
def HP(y0 y2 y3:AV):List AV:=[y0,y2,y3]
def Po:List Nat:=[0,2,3]
def Za:List (List Nat):=[Po,[]]
def AdI(x0:AV)(S:Aa)(Q:Aq):Prop:=
 AG x0 S fun a S=>bin .sub 0 a (aI 1) S fun c S=>Ap Po (vc Pg (AfK.at_ [1,0,0]) (Za.drop 1)) 28 (HP x0 (aI 0) c) S (Ak 0 (Ao Pg AbD Q))
theorem dH{x0:AV}{S:Aa}{Q:Aq}(h:AdI x0 S Q):Ad Pg 161 [x0] S Q:=
 Bl (n:=28) Za Tryz.func161 (by kernel_rfl) (Eq.mpr (by kernel_rfl) h)
def gO(y0 y2 y3:AV)(S:Aa)(KE0:BB)(Q:Aq):Prop:=
 bin .lss 0 y2 y3 S fun a S=>Fi a (Lt S (AR 3 1 y0 y3) fun c=>Lt S (Ax c) fun d=>Lt S (AR 3 1 y0 y2) fun e=>Lt S (Ax e) fun f=>Lt S (AR 3 1 y0 y2) fun g=>A8 1 g d S fun h S=>Lt S (AR 3 1 y0 y3) fun i=>A8 1 i f S fun k S=>bin .add 0 y2 (aI 1) S fun l S=>bin .sub 0 y3 (aI 1) S fun m S=>KE0 28 (HP y0 l m) S) (Q (.ret (.t [])) S)
theorem WL{y0:AV}{y20 y30:AV}{S:Aa}{Q:Aq}(I:AV→AV→Aa→Prop)(μ:AV→AV→Aa→Nat)(h0:I y20 y30 S)(hr:DE (fun y2 y3=>HP y0 y2 y3) 28 I μ fun y2 y3 S KE0=>gO y0 y2 y3 S KE0 Q):
 Ap Po (vc Pg (AfK.at_ [1,0,0]) (Za.drop 1)) 28 (HP y0 y20 y30) S (Ak 0 (Ao Pg AbD Q)):=IN (E:=fun y2 y3=>HP y0 y2 y3) 1 2 (fun _ _=>⟨rfl,rfl⟩) (fun _ _ _ _=>by kernel_rfl) h0 hr
def r8:Code:=(Tryz.f142.body).getD .skip
def AbJ:List ResultVar:=Tryz.f142.results.toList
def HS(y0 y1 y2 y7:AV):List AV:=[y0,y1,y2,y7]
def Px:List Nat:=[0,1,2,7]
def Rd:List (List Nat):=[Px,[]]
def AdZ(x0 x1 x2:AV)(S:Aa)(Q:Aq):Prop:=
 AU 3 1 1 [aI 0] [(0,x2)] S fun a S=>Ap Px (vc Pg (r8.at_ [1,1,0,0,0]) (Rd.drop 1)) 24 (HS x0 x1 x2 a) S (Ak 0 (Av (vc Pg (r8.at_ [1,1,1]) (Rd.drop 1)) (Ao Pg AbJ Q)))
theorem eA{x0 x1 x2:AV}{S:Aa}{Q:Aq}(h:AdZ x0 x1 x2 S Q):Ad Pg 142 [x0,x1,x2] S Q:=
 Bl (n:=24) Rd Tryz.func142 (by kernel_rfl) (Eq.mpr (by kernel_rfl) h)
def hG(y0 y1 y2 y7:AV)(S:Aa)(KE0:BB)(Q:Aq):Prop:=
 bin .neq 0 y2 y1 S fun a S=>Fi a (AR 3 1 y0 y2 S fun c S=>Ax c S fun d S=>AU 3 1 1 [aI 0] [(0,d)] S fun e S=>Bo 3 1 8 y7 e S fun f S=>KE0 24 (HS y0 y1 d f) S) (Ah Pg 161 [y7] S Q fun g S=>Q (.ret y7) S)
theorem WU{y0 y1:AV}{y20 y70:AV}{S:Aa}{Q:Aq}(I:AV→AV→Aa→Prop)(μ:AV→AV→Aa→Nat)(h0:I y20 y70 S)(hr:DE (fun y2 y7=>HS y0 y1 y2 y7) 24 I μ fun y2 y7 S KE0=>hG y0 y1 y2 y7 S KE0 Q):
 Ap Px (vc Pg (r8.at_ [1,1,0,0,0]) (Rd.drop 1)) 24 (HS y0 y1 y20 y70) S (Ak 0 (Av (vc Pg (r8.at_ [1,1,1]) (Rd.drop 1)) (Ao Pg AbJ Q))):=IN (E:=fun y2 y7=>HS y0 y1 y2 y7) 2 3 (fun _ _=>⟨rfl,rfl⟩) (fun _ _ _ _=>by kernel_rfl) h0 hr
def sN:Code:=(Tryz.f105.body).getD .skip
def AbV:List ResultVar:=Tryz.f105.results.toList
def Gn(y5 y10 y11 y12:AV):List AV:=[y5,y10,y11,y12]
def PN:List Nat:=[5,10,11,12]
def Rp:List (List Nat):=[PN,[]]
def AeX(x0 x1:AV)(S:Aa)(Q:Aq):Prop:=
 Ah Pg 140 [x0] S Q fun a S=>AG x1 S fun c S=>Ap PN (vc Pg (sN.at_ [1,1,0,1,0,0]) (Rp.drop 1)) 29 (Gn a x1 c (aI 0)) S (Ak 0 (Av (vc Pg (sN.at_ [1,1,1]) (Rp.drop 1)) (Ao Pg AbV Q)))
theorem fK{x0 x1:AV}{S:Aa}{Q:Aq}(h:AeX x0 x1 S Q):Ad Pg 105 [x0,x1] S Q:=
 Bl (n:=29) Rp Tryz.func105 (by kernel_rfl) (Eq.mpr (by kernel_rfl) h)
def iV(y5 y10 y11 y12:AV)(S:Aa)(KE0:BB)(Q:Aq):Prop:=
 bin .lss 0 y12 y11 S fun a S=>Fi a (AR 4 1 y10 y12 S fun c S=>Ax c S fun d S=>AR 4 1 y5 y12 S fun e S=>Ax e S fun f S=>Fi f (AR 4 1 y5 y12 S fun g S=>A8 1 g d S fun h S=>bin .add 0 y12 (aI 1) S fun i S=>KE0 29 (Gn y5 y10 y11 i) S) (AR 4 1 y5 y12 S fun k S=>A8 1 k (.v (.bool false)) S fun l S=>bin .add 0 y12 (aI 1) S fun m S=>KE0 29 (Gn y5 y10 y11 m) S)) (Q (.ret y5) S)
theorem Xe{y5 y10 y11:AV}{y120:AV}{S:Aa}{Q:Aq}(I:AV→Aa→Prop)(μ:AV→Aa→Nat)(h0:I y120 S)(hr:BS (fun y12=>Gn y5 y10 y11 y12) 29 I μ fun y12 S KE0=>iV y5 y10 y11 y12 S KE0 Q):
 Ap PN (vc Pg (sN.at_ [1,1,0,1,0,0]) (Rp.drop 1)) 29 (Gn y5 y10 y11 y120) S (Ak 0 (Av (vc Pg (sN.at_ [1,1,1]) (Rp.drop 1)) (Ao Pg AbV Q))):=DY 3 (fun _=>rfl) (fun _ _ _=>by kernel_rfl) h0 hr
def AeS(x0 x1:AV)(S:Aa)(Q:Aq):Prop:=
 AJ x0 S fun a S=>shift a 8 S fun c S=>Lf c 1 S fun d S=>AG d S fun e S=>Qt 4 1 [.v (.bool false)] e e S fun f S=>AR 4 1 f x1 S fun g S=>A8 1 g (.v (.bool true)) S fun h S=>Q (.ret f) S
theorem fE{x0 x1:AV}{S:Aa}{Q:Aq}(h:AeS x0 x1 S Q):Ad Pg 110 [x0,x1] S Q:=
 Bl (n:=17) [[]] Tryz.func110 (by kernel_rfl) (Eq.mpr (by kernel_rfl) h)
def AcY(x0 x1:AV)(S:Aa)(Q:Aq):Prop:=
 bin .and 0 x0 (.v (.int .u64 4294967295)) S fun a S=>bin .shr 0 x0 (.v (.int .u64 32)) S fun c S=>bin .and 0 x1 (.v (.int .u64 4294967295)) S fun d S=>bin .shr 0 x1 (.v (.int .u64 32)) S fun e S=>bin .mul 0 a d S fun f S=>bin .mul 0 c d S fun g S=>bin .shr 0 f (.v (.int .u64 32)) S fun h S=>bin .add 0 g h S fun i S=>bin .and 0 i (.v (.int .u64 4294967295)) S fun k S=>bin .shr 0 i (.v (.int .u64 32)) S fun l S=>bin .mul 0 a e S fun m S=>bin .add 0 k m S fun n S=>bin .mul 0 c e S fun o S=>bin .add 0 o l S fun p S=>bin .shr 0 n (.v (.int .u64 32)) S fun q S=>bin .add 0 p q S fun r S=>bin .mul 0 x0 x1 S fun s S=>Q (.ret (.t [r,s])) S
theorem cM{x0 x1:AV}{S:Aa}{Q:Aq}(h:AcY x0 x1 S Q):Ad Pg 183 [x0,x1] S Q:=
 Bl (n:=51) [[]] Tryz.func183 (by kernel_rfl) (Eq.mpr (by kernel_rfl) h)
def AdJ(x0 x1:AV)(S:Aa)(Q:Aq):Prop:=
 Ah Pg 183 [x0,x1] S Q fun a S=>A0 a 0 S fun c S=>A0 a 1 S fun d S=>Q (.ret (.t [c,d])) S
theorem dJ{x0 x1:AV}{S:Aa}{Q:Aq}(h:AdJ x0 x1 S Q):Ad Pg 160 [x0,x1] S Q:=
 Bl (n:=30) [[]] Tryz.func160 (by kernel_rfl) (Eq.mpr (by kernel_rfl) h)
def sA:Code:=(Tryz.f141.body).getD .skip
def AbK:List ResultVar:=Tryz.f141.results.toList
def J8(y7 y8:AV):List AV:=[y7,y8]
def Py:List Nat:=[7,8]
def Re:List (List Nat):=[Py,[]]
abbrev Tc(S:Aa)(Q:Aq):Prop:=Yt (.i 9 (.v (.string { data:=#[116,104,101,32,114,101,115,117,108,116,32,111,102,32,40,108,101,110,40,120,41,32,42,32,99,111,117,110,116,41,32,111,118,101,114,102,108,111,119,115] }))) S (fun u S=>Q (.pan u) S)
def Ae0(x0 x1:AV)(S:Aa)(Q:Aq):Prop:=
 bin .lss 0 x1 (aI 0) S fun a S=>Fi a (Yt (.i 9 (.v (.string { data:=#[99,97,110,110,111,116,32,98,101,32,110,101,103,97,116,105,118,101] }))) S (fun u S=>Q (.pan u) S)) (AG x0 S fun c S=>Cf .u64 c S fun d S=>Cf .u64 x1 S fun e S=>Ah Pg 160 [d,e] S Q fun f S=>A0 f 0 S fun g S=>A0 f 1 S fun h S=>bin .gtr 0 g (.v (.int .u64 0)) S fun k S=>Fi k (Tc S Q) (bin .gtr 0 h (.v (.int .u64 9223372036854775807)) S fun l S=>Fi l (Tc S Q) (Cf .i64 h S fun m S=>Qt 3 8 [aI 0] m m S fun n S=>oD 3 n x0 S fun o S=>Ap Py (vc Pg (sA.at_ [1,1,1,1,1,1,0,0,0]) (Re.drop 1)) 48 (J8 n o) S (Ak 0 (Av (vc Pg (sA.at_ [1,1,1,1,1,1,1]) (Re.drop 1)) (Ao Pg AbK Q))))))
theorem eB{x0 x1:AV}{S:Aa}{Q:Aq}(h:Ae0 x0 x1 S Q):Ad Pg 141 [x0,x1] S Q:=
 Bl (n:=48) Re Tryz.func141 (by kernel_rfl) (Eq.mpr (by kernel_rfl) h)
def hJ(y7 y8:AV)(S:Aa)(KE0:BB)(Q:Aq):Prop:=
 AG y7 S fun a S=>bin .lss 0 y8 a S fun c S=>Fi c (Lt S (IJ 3 1 y7 (some y8) none none) fun d=>Lt S (IJ 3 1 y7 none (some y8) none) fun e=>oD 3 d e S fun f S=>Lt S (bin .add 0 y8 f) fun g=>KE0 48 (J8 y7 g) S) (Q (.ret y7) S)
theorem WV{y7:AV}{y80:AV}{S:Aa}{Q:Aq}(I:AV→Aa→Prop)(μ:AV→Aa→Nat)(h0:I y80 S)(hr:BS (fun y8=>J8 y7 y8) 48 I μ fun y8 S KE0=>hJ y7 y8 S KE0 Q):
 Ap Py (vc Pg (sA.at_ [1,1,1,1,1,1,0,0,0]) (Re.drop 1)) 48 (J8 y7 y80) S (Ak 0 (Av (vc Pg (sA.at_ [1,1,1,1,1,1,1]) (Re.drop 1)) (Ao Pg AbK Q))):=DY 1 (fun _=>rfl) (fun _ _ _=>by kernel_rfl) h0 hr
def sK:Code:=(Tryz.f112.body).getD .skip
def AbS:List ResultVar:=Tryz.f112.results.toList
def HU(y3 y16 y17 y18:AV):List AV:=[y3,y16,y17,y18]
def PJ:List Nat:=[3,16,17,18]
def Rm:List (List Nat):=[PJ,[]]
def AeQ(x0:AV)(S:Aa)(Q:Aq):Prop:=
 Az 32 4 x0 S fun a S=>(fun S0:Aa=>Lq S0 (shift a 0) fun c=>Lq S0 (Ax c) fun d=>Ld S0 144 [d] fun e=>Lq S0 (bin .add 0 (.v (.string { data:=#[40] })) e) fun f=>Lq S0 (bin .add 0 f (.v (.string { data:=#[32] }))) fun g=>Lq S0 (shift a 2) fun h=>Lq S0 (Ax h) fun i=>Ld S0 144 [i] fun k=>Lq S0 (bin .add 0 g k) fun l=>Lf a 3 S fun m S=>AG m S fun n S=>Ap PJ (vc Pg (sK.at_ [1,1,0,1,0,0]) (Rm.drop 1)) 29 (HU l m n (aI 0)) S (Ak 0 (Av (vc Pg (sK.at_ [1,1,1]) (Rm.drop 1)) (Ao Pg AbS Q)))) S
theorem fC{x0:AV}{S:Aa}{Q:Aq}(h:AeQ x0 S Q):Ad Pg 112 [x0] S Q:=
 Bl (n:=29) Rm Tryz.func112 (by kernel_rfl) (Eq.mpr (by kernel_rfl) h)
def iQ(y3 y16 y17 y18:AV)(S:Aa)(KE0:BB)(Q:Aq):Prop:=
 bin .lss 0 y18 y17 S fun c S=>Fi c (AR 32 4 y16 y18 S fun d S=>AA 4 d S fun e S=>Az 32 4 (.a CK) S fun f S=>A8 4 f e S fun g S=>AA 4 f S fun h S=>Ah Pg 112 [h] S Q fun i S=>bin .add 0 y3 i S fun k S=>bin .add 0 y18 (aI 1) S fun l S=>KE0 29 (HU k y16 y17 l) S) (bin .add 0 y3 (.v (.string { data:=#[41] })) S fun m S=>Q (.ret m) S)
theorem W9{y16 y17:AV}{y30 y180:AV}{S:Aa}{Q:Aq}(I:AV→AV→Aa→Prop)(μ:AV→AV→Aa→Nat)(h0:I y30 y180 S)(hr:DE (fun y3 y18=>HU y3 y16 y17 y18) 29 I μ fun y3 y18 S KE0=>iQ y3 y16 y17 y18 S KE0 Q):
 Ap PJ (vc Pg (sK.at_ [1,1,0,1,0,0]) (Rm.drop 1)) 29 (HU y30 y16 y17 y180) S (Ak 0 (Av (vc Pg (sK.at_ [1,1,1]) (Rm.drop 1)) (Ao Pg AbS Q))):=IN (E:=fun y3 y18=>HU y3 y16 y17 y18) 0 3 (fun _ _=>⟨rfl,rfl⟩) (fun _ _ _ _=>by kernel_rfl) h0 hr
def m63(x0 x1:AV)(S:Aa)(Q:Aq):Prop:=
 Az 32 4 (.a CK) S fun c S=>CH Qq CK [(0,x0),(3,x1)] S fun d S=>A8 4 c d S fun e S=>AA 4 c S fun f _=>Q (.ret f) S
theorem pR{x0 x1:AV}{S:Aa}{Q:Aq}(h:m63 x0 x1 S Q):Ad Pg 63 [x0,x1] S Q:=
 Bl (n:=8) [[]] Tryz.func63 (by kernel_rfl) (Eq.mpr (by kernel_rfl) h)
def m62(S:Aa)(Q:Aq):Prop:=
 Az 32 4 (.a CK) S fun c S=>CH Qq CK [(0,(aI 2))] S fun d S=>A8 4 c d S fun e S=>AA 4 c S fun f _=>Q (.ret f) S
theorem pS{S:Aa}{Q:Aq}(h:m62  S Q):Ad Pg 62 [] S Q:=
 Bl (n:=2) [[]] Tryz.func62 (by kernel_rfl) (Eq.mpr (by kernel_rfl) h)
def LB:Code:=(Tryz.f150.body).getD .skip
def Ym:List ResultVar:=Tryz.f150.results.toList
def HR(y2 y5 y6:AV):List AV:=[y2,y5,y6]
def Ii:List Nat:=[2,5,6]
def HQ(y2 y5 y6 y7 y23 y24 y25:AV):List AV:=[y2,y5,y6,y7,y23,y24,y25]
def Pq:List Nat:=[2,5,6,7,23,24,25]
def F2:List (List Nat):=[Ii,Pq,[]]
abbrev Tb(a:AV)(S:Aa)(x1:AV)(Q:Aq)(c:AV):Prop:=Lf a 1 S fun d S=>Ah Pg 167 [x1,d] S Q fun e S=>Ap Ii (vc Pg (LB.at_ [1,0,1,1,1,1,0,0,0]) (F2.drop 1)) 47 (HR a c e) S (Ak 0 (Av (vc Pg (LB.at_ [1,0,1,1,1,1,1]) (F2.drop 2)) (KF (Ao Pg Ym Q))))
def AdT(x0 x1:AV)(S:Aa)(Q:Aq):Prop:=
 Az 45 5 x0 S fun a S=>Lf a 4 S fun c S=>AG c S fun d S=>bin .eql 0 d (aI 0) S fun e S=>Fi e (Lf a 1 S fun f S=>AU 41 1 1 [.nl] [(0,f)] S fun g S=>Tb a S x1 Q g) (Tb a S x1 Q c)
theorem dU{x0 x1:AV}{S:Aa}{Q:Aq}(h:AdT x0 x1 S Q):Ad Pg 150 [x0,x1] S Q:=
 Bl (n:=47) F2 Tryz.func150 (by kernel_rfl) (Eq.mpr (by kernel_rfl) h)
def gR(y2 y5 y6:AV)(S:Aa)(KE0:BB)(Q:Aq):Prop:=
 AG y5 S fun a S=>Ap Pq (vc Pg (LB.at_ [1,0,1,1,1,1,0,0,0,0,1,0,1,0,0]) (F2.drop 2)) 47 (HQ y2 y5 y6 y6 y5 a (aI 0)) S (Ak 2 (Av (vc Pg (LB.at_ [1,0,1,1,1,1,0,0,0,0,1,1]) (F2.drop 2)) (Ak 1 (BY (Hn Ii KE0) (Ak 0 (Av (vc Pg (LB.at_ [1,0,1,1,1,1,1]) (F2.drop 2)) (KF (Ao Pg Ym Q))))))))
theorem WO{y2 y5:AV}{y60:AV}{S:Aa}{Q:Aq}(I:AV→Aa→Prop)(μ:AV→Aa→Nat)(h0:I y60 S)(hr:BS (fun y6=>HR y2 y5 y6) 47 I μ fun y6 S KE0=>gR y2 y5 y6 S KE0 Q):
 Ap Ii (vc Pg (LB.at_ [1,0,1,1,1,1,0,0,0]) (F2.drop 1)) 47 (HR y2 y5 y60) S (Ak 0 (Av (vc Pg (LB.at_ [1,0,1,1,1,1,1]) (F2.drop 2)) (KF (Ao Pg Ym Q)))):=DY 2 (fun _=>rfl) (fun _ _ _=>by kernel_rfl) h0 hr
def gQ(y2 y5 y6 y7 y23 y24 y25:AV)(S:Aa)(KE1:BB)(KE0:BB)(Q:Aq):Prop:=
 bin .lss 0 y25 y24 S fun a S=>Fi a (AR 41 1 y23 y25 S fun c S=>Ax c S fun d S=>(fun S0:Aa=>Lq S0 (AA 5 y2) fun e=>Lq S0 (AA 5 y2) fun f=>Ld S0 167 [y6,d] fun g=>Ld S0 162 [f,y6,g] fun h=>Ld S0 168 [e,h] fun i=>Ld S0 167 [y6,i] fun k=>Ah Pg 169 [k,.v (.bool true)] S Q fun l S=>un .not l S fun m S=>Fi m (Q (.ret k) S) (bin .add 0 y25 (aI 1) S fun n S=>KE1 47 (HQ y2 y5 k y7 y23 y24 n) S)) S) (Ah Pg 170 [y7,y6] S Q fun o S=>Fi o (Q (.ret y6) S) (KE0 47 (HR y2 y5 y6) S))
theorem WN{y2 y5 y7 y23 y24:AV}{y60 y250:AV}{S:Aa}{KE0:BB}{Q:Aq}(I:AV→AV→Aa→Prop)(μ:AV→AV→Aa→Nat)(h0:I y60 y250 S)(hr:DE (fun y6 y25=>HQ y2 y5 y6 y7 y23 y24 y25) 47 I μ fun y6 y25 S KE1=>gQ y2 y5 y6 y7 y23 y24 y25 S KE1 KE0 Q):
 Ap Pq (vc Pg (LB.at_ [1,0,1,1,1,1,0,0,0,0,1,0,1,0,0]) (F2.drop 2)) 47 (HQ y2 y5 y60 y7 y23 y24 y250) S (Ak 2 (Av (vc Pg (LB.at_ [1,0,1,1,1,1,0,0,0,0,1,1]) (F2.drop 2)) (Ak 1 (BY (Hn Ii KE0) (Ak 0 (Av (vc Pg (LB.at_ [1,0,1,1,1,1,1]) (F2.drop 2)) (KF (Ao Pg Ym Q)))))))):=IN (E:=fun y6 y25=>HQ y2 y5 y6 y7 y23 y24 y25) 2 6 (fun _ _=>⟨rfl,rfl⟩) (fun _ _ _ _=>by kernel_rfl) h0 hr
def yH(x0 x1:AV)(S:Aa)(Q:Aq):Prop:=
 Az 45 5 x0 S fun a S=>AA 5 a S fun c S=>AU 41 1 1 [.nl] [(0,x1)] S fun d S=>Ah Pg 149 [c,d] S Q fun e S=>un .not e S fun f S=>Fi f (Q (.ret .nl) S) (AA 5 a S fun g S=>Ah Pg 168 [g,x1] S Q fun h S=>Q (.ret h) S)
theorem RX{x0 x1:AV}{S:Aa}{Q:Aq}(h:yH x0 x1 S Q):Ad Pg 189 [x0,x1] S Q:=
 Bl (n:=13) [[]] Tryz.func189 (by kernel_rfl) (Eq.mpr (by kernel_rfl) h)
def yJ(x0 x1:AV)(S:Aa)(Q:Aq):Prop:=
 Az 45 5 x0 S fun a S=>AA 5 a S fun c S=>AU 41 1 1 [.nl] [(0,x1)] S fun d S=>Ah Pg 149 [c,d] S Q fun e S=>un .not e S fun f S=>Fi f (Q (.ret .nl) S) (AA 5 a S fun g S=>Ah Pg 150 [g,x1] S Q fun h S=>Q (.ret h) S)
theorem RZ{x0 x1:AV}{S:Aa}{Q:Aq}(h:yJ x0 x1 S Q):Ad Pg 131 [x0,x1] S Q:=
 Bl (n:=13) [[]] Tryz.func131 (by kernel_rfl) (Eq.mpr (by kernel_rfl) h)
def yI(x0 x1 x2:AV)(S:Aa)(Q:Aq):Prop:=
 Az 45 5 x0 S fun a S=>AA 5 a S fun c S=>AU 41 1 2 [.nl] [(0,x1),(1,x2)] S fun d S=>Ah Pg 149 [c,d] S Q fun e S=>un .not e S fun f S=>Fi f (Q (.ret .nl) S) (AA 5 a S fun g S=>Ah Pg 162 [g,x1,x2] S Q fun h S=>Q (.ret h) S)
theorem RY{x0 x1 x2:AV}{S:Aa}{Q:Aq}(h:yI x0 x1 x2 S Q):Ad Pg 143 [x0,x1,x2] S Q:=
 Bl (n:=17) [[]] Tryz.func143 (by kernel_rfl) (Eq.mpr (by kernel_rfl) h)
def rQ:Code:=(Tryz.f188.body).getD .skip
def Ab6:List ResultVar:=Tryz.f188.results.toList
def J1(y0 y1 y7 y8:AV):List AV:=[y0,y1,y7,y8]
def Pc:List Nat:=[0,1,7,8]
def Q1:List (List Nat):=[Pc,[]]
def AcU(x0 x1:AV)(S:Aa)(Q:Aq):Prop:=
 AG x0 S fun a S=>Ap Pc (vc Pg (rQ.at_ [1,0,1,0,0]) (Q1.drop 1)) 19 (J1 x0 x1 a (aI 0)) S (Ak 0 (Av (vc Pg (rQ.at_ [1,1]) (Q1.drop 1)) (Ao Pg Ab6 Q)))
theorem cI{x0 x1:AV}{S:Aa}{Q:Aq}(h:AcU x0 x1 S Q):Ad Pg 188 [x0,x1] S Q:=
 Bl (n:=19) Q1 Tryz.func188 (by kernel_rfl) (Eq.mpr (by kernel_rfl) h)
def gB(y0 y1 y7 y8:AV)(S:Aa)(KE0:BB)(Q:Aq):Prop:=
 bin .lss 0 y8 y7 S fun a S=>Fi a (AR 4 1 y0 y8 S fun c S=>Ax c S fun d S=>bin .eql 1 y1 d S fun e S=>Fi e (Q (.ret y8) S) (bin .add 0 y8 (aI 1) S fun f S=>KE0 19 (J1 y0 y1 y7 f) S)) (Q (.ret (.v (.int .i64 (-1)))) S)
theorem Ww{y0 y1 y7:AV}{y80:AV}{S:Aa}{Q:Aq}(I:AV→Aa→Prop)(μ:AV→Aa→Nat)(h0:I y80 S)(hr:BS (fun y8=>J1 y0 y1 y7 y8) 19 I μ fun y8 S KE0=>gB y0 y1 y7 y8 S KE0 Q):
 Ap Pc (vc Pg (rQ.at_ [1,0,1,0,0]) (Q1.drop 1)) 19 (J1 y0 y1 y7 y80) S (Ak 0 (Av (vc Pg (rQ.at_ [1,1]) (Q1.drop 1)) (Ao Pg Ab6 Q))):=DY 3 (fun _=>rfl) (fun _ _ _=>by kernel_rfl) h0 hr
def AdB(x0 x1:AV)(S:Aa)(Q:Aq):Prop:=
 Ah Pg 188 [x0,x1] S Q fun a S=>bin .geq 0 a (aI 0) S fun c S=>Q (.ret c) S
theorem cZ{x0 x1:AV}{S:Aa}{Q:Aq}(h:AdB x0 x1 S Q):Ad Pg 169 [x0,x1] S Q:=
 Bl (n:=9) [[]] Tryz.func169 (by kernel_rfl) (Eq.mpr (by kernel_rfl) h)
def rT:Code:=(Tryz.f170.body).getD .skip
def AbA:List ResultVar:=Tryz.f170.results.toList
def J5(y0 y1 y12 y13:AV):List AV:=[y0,y1,y12,y13]
def Pj:List Nat:=[0,1,12,13]
def Q4:List (List Nat):=[Pj,[]]
def AdA(x0 x1:AV)(S:Aa)(Q:Aq):Prop:=
 AG x0 S fun a S=>AG x1 S fun c S=>bin .neq 0 a c S fun d S=>Fi d (Q (.ret (.v (.bool false))) S) (AG x0 S fun e S=>Ap Pj (vc Pg (rT.at_ [1,1,0,1,0,0]) (Q4.drop 1)) 26 (J5 x0 x1 e (aI 0)) S (Ak 0 (Av (vc Pg (rT.at_ [1,1,1]) (Q4.drop 1)) (Ao Pg AbA Q))))
theorem cY{x0 x1:AV}{S:Aa}{Q:Aq}(h:AdA x0 x1 S Q):Ad Pg 170 [x0,x1] S Q:=
 Bl (n:=26) Q4 Tryz.func170 (by kernel_rfl) (Eq.mpr (by kernel_rfl) h)
def gH(y0 y1 y12 y13:AV)(S:Aa)(KE0:BB)(Q:Aq):Prop:=
 bin .lss 0 y13 y12 S fun a S=>Fi a ((fun S0:Aa=>Lq S0 (AR 4 1 y0 y13) fun c=>Lq S0 (Ax c) fun d=>Lq S0 (AR 4 1 y1 y13) fun e=>Lq S0 (Ax e) fun f=>Lq S0 (bin .neq 1 d f) fun g=>Fi g (Q (.ret (.v (.bool false))) S) (bin .add 0 y13 (aI 1) S fun h S=>KE0 26 (J5 y0 y1 y12 h) S)) S) (Q (.ret (.v (.bool true))) S)
theorem WD{y0 y1 y12:AV}{y130:AV}{S:Aa}{Q:Aq}(I:AV→Aa→Prop)(μ:AV→Aa→Nat)(h0:I y130 S)(hr:BS (fun y13=>J5 y0 y1 y12 y13) 26 I μ fun y13 S KE0=>gH y0 y1 y12 y13 S KE0 Q):
 Ap Pj (vc Pg (rT.at_ [1,1,0,1,0,0]) (Q4.drop 1)) 26 (J5 y0 y1 y12 y130) S (Ak 0 (Av (vc Pg (rT.at_ [1,1,1]) (Q4.drop 1)) (Ao Pg AbA Q))):=DY 3 (fun _=>rfl) (fun _ _ _=>by kernel_rfl) h0 hr
def Kn:Code:=(Tryz.f162.body).getD .skip
def Wi:List ResultVar:=Tryz.f162.results.toList
def Gg(y1 y3 y7 y8 y19 y20 y21:AV):List AV:=[y1,y3,y7,y8,y19,y20,y21]
def Pn:List Nat:=[1,3,7,8,19,20,21]
def HO(y1 y7 y8 y11 y12:AV):List AV:=[y1,y7,y8,y11,y12]
def JE:List Nat:=[1,7,8,11,12]
def E5(y1 y7 y8 y11 y12 y46 y47 y48:AV):List AV:=[y1,y7,y8,y11,y12,y46,y47,y48]
def Pm:List Nat:=[1,7,8,11,12,46,47,48]
def ET:List (List Nat):=[Pn,JE,Pm,[]]
def AdH(x0 x1 x2:AV)(S:Aa)(Q:Aq):Prop:=
 Az 45 5 x0 S fun a S=>Lf a 1 S fun c S=>Ah Pg 167 [x2,c] S Q fun d S=>AG d S fun e S=>Ap Pn (vc Pg (Kn.at_ [1,1,1,0,1,0,0]) (ET.drop 1)) 72 (Gg x1 a d .nl d e (aI 0)) S (Ak 0 (Av (vc Pg (Kn.at_ [1,1,1,1]) (ET.drop 1)) (Ao Pg Wi Q)))
theorem dG{x0 x1 x2:AV}{S:Aa}{Q:Aq}(h:AdH x0 x1 x2 S Q):Ad Pg 162 [x0,x1,x2] S Q:=
 Bl (n:=72) ET Tryz.func162 (by kernel_rfl) (Eq.mpr (by kernel_rfl) h)
def gM(y1 y3 y7 y8 y19 y20 y21:AV)(S:Aa)(KE0:BB)(Q:Aq):Prop:=
 bin .lss 0 y21 y20 S fun a S=>Fi a (AR 4 1 y19 y21 S fun c S=>Ax c S fun d S=>Fi d (AU 3 1 1 [aI 0] [(0,y21)] S fun e S=>Bo 3 1 8 y8 e S fun f S=>bin .add 0 y21 (aI 1) S fun g S=>KE0 72 (Gg y1 y3 y7 f y19 y20 g) S) (bin .add 0 y21 (aI 1) S fun h S=>KE0 72 (Gg y1 y3 y7 y8 y19 y20 h) S)) (AA 5 y3 S fun i S=>Ah Pg 184 [i] S Q fun k S=>Ap JE (vc Pg (Kn.at_ [1,1,1,1,1,0,1,0,0]) (ET.drop 2)) 72 (HO y1 y7 y8 k (aI 0)) S (Ak 2 (Av (vc Pg (Kn.at_ [1,1,1,1,1,1]) (ET.drop 3)) (Ao Pg Wi Q))))
theorem WK{y1 y3 y7 y19 y20:AV}{y80 y210:AV}{S:Aa}{Q:Aq}(I:AV→AV→Aa→Prop)(μ:AV→AV→Aa→Nat)(h0:I y80 y210 S)(hr:DE (fun y8 y21=>Gg y1 y3 y7 y8 y19 y20 y21) 72 I μ fun y8 y21 S KE0=>gM y1 y3 y7 y8 y19 y20 y21 S KE0 Q):
 Ap Pn (vc Pg (Kn.at_ [1,1,1,0,1,0,0]) (ET.drop 1)) 72 (Gg y1 y3 y7 y80 y19 y20 y210) S (Ak 0 (Av (vc Pg (Kn.at_ [1,1,1,1]) (ET.drop 1)) (Ao Pg Wi Q))):=IN (E:=fun y8 y21=>Gg y1 y3 y7 y8 y19 y20 y21) 3 6 (fun _ _=>⟨rfl,rfl⟩) (fun _ _ _ _=>by kernel_rfl) h0 hr
def gL(y1 y7 y8 y11 y12:AV)(S:Aa)(KE1:BB)(Q:Aq):Prop:=
 AG y8 S fun a S=>bin .lss 0 y12 a S fun c S=>Fi c (AR 3 1 y8 y12 S fun d S=>Ax d S fun e S=>AR 26 1 y11 e S fun f S=>Ax f S fun g S=>AG g S fun h S=>Ap Pm (vc Pg (Kn.at_ [1,1,1,1,1,0,1,0,0,1,0,0,1,0,0]) (ET.drop 3)) 72 (E5 y1 y7 y8 y11 y12 g h (aI 0)) S (Ak 4 (Ak 3 (Av (vc Pg (Kn.at_ [1,1,1,1,1,0,1,0,0,1,1]) (ET.drop 3)) (BY (Hn JE KE1) (Ak 2 (Av (vc Pg (Kn.at_ [1,1,1,1,1,1]) (ET.drop 3)) (Ao Pg Wi Q)))))))) (Q (.ret y7) S)
theorem WI{y1 y7 y11:AV}{y80 y120:AV}{S:Aa}{Q:Aq}(I:AV→AV→Aa→Prop)(μ:AV→AV→Aa→Nat)(h0:I y80 y120 S)(hr:DE (fun y8 y12=>HO y1 y7 y8 y11 y12) 72 I μ fun y8 y12 S KE1=>gL y1 y7 y8 y11 y12 S KE1 Q):
 Ap JE (vc Pg (Kn.at_ [1,1,1,1,1,0,1,0,0]) (ET.drop 2)) 72 (HO y1 y7 y80 y11 y120) S (Ak 2 (Av (vc Pg (Kn.at_ [1,1,1,1,1,1]) (ET.drop 3)) (Ao Pg Wi Q))):=IN (E:=fun y8 y12=>HO y1 y7 y8 y11 y12) 2 4 (fun _ _=>⟨rfl,rfl⟩) (fun _ _ _ _=>by kernel_rfl) h0 hr
def gK(y1 y7 y8 y11 y12 y46 y47 y48:AV)(S:Aa)(KE2:BB)(KE1:BB)(Q:Aq):Prop:=
 bin .lss 0 y48 y47 S fun a S=>Fi a (AR 3 1 y46 y48 S fun c S=>Ax c S fun d S=>AR 4 1 y7 d S fun e S=>Ax e S fun f S=>un .not f S fun g S=>Fi g (AR 4 1 y1 d S fun h S=>Ax h S fun i S=>Fi i (AR 4 1 y7 d S fun k S=>A8 1 k (.v (.bool true)) S fun l S=>AU 3 1 1 [aI 0] [(0,d)] S fun m S=>Bo 3 1 8 y8 m S fun n S=>bin .add 0 y48 (aI 1) S fun o S=>KE2 72 (E5 y1 y7 n y11 y12 y46 y47 o) S) (bin .add 0 y48 (aI 1) S fun p S=>KE2 72 (E5 y1 y7 y8 y11 y12 y46 y47 p) S)) (bin .add 0 y48 (aI 1) S fun q S=>KE2 72 (E5 y1 y7 y8 y11 y12 y46 y47 q) S)) (bin .add 0 y12 (aI 1) S fun r S=>KE1 72 (HO y1 y7 y8 y11 r) S)
theorem WH{y1 y7 y11 y12 y46 y47:AV}{y80 y480:AV}{S:Aa}{KE1:BB}{Q:Aq}(I:AV→AV→Aa→Prop)(μ:AV→AV→Aa→Nat)(h0:I y80 y480 S)(hr:DE (fun y8 y48=>E5 y1 y7 y8 y11 y12 y46 y47 y48) 72 I μ fun y8 y48 S KE2=>gK y1 y7 y8 y11 y12 y46 y47 y48 S KE2 KE1 Q):
 Ap Pm (vc Pg (Kn.at_ [1,1,1,1,1,0,1,0,0,1,0,0,1,0,0]) (ET.drop 3)) 72 (E5 y1 y7 y80 y11 y12 y46 y47 y480) S (Ak 4 (Ak 3 (Av (vc Pg (Kn.at_ [1,1,1,1,1,0,1,0,0,1,1]) (ET.drop 3)) (BY (Hn JE KE1) (Ak 2 (Av (vc Pg (Kn.at_ [1,1,1,1,1,1]) (ET.drop 3)) (Ao Pg Wi Q))))))):=IN (E:=fun y8 y48=>E5 y1 y7 y8 y11 y12 y46 y47 y48) 2 7 (fun _ _=>⟨rfl,rfl⟩) (fun _ _ _ _=>by kernel_rfl) h0 hr
def NJ:Code:=(Tryz.f184.body).getD .skip
def lO:List ResultVar:=Tryz.f184.results.toList
def J3(y1 y3 y13 y14 y15:AV):List AV:=[y1,y3,y13,y14,y15]
def JD:List Nat:=[1,3,13,14,15]
def HM(y1 y3 y4 y13 y14 y15 y20 y21 y22:AV):List AV:=[y1,y3,y4,y13,y14,y15,y20,y21,y22]
def Pe:List Nat:=[1,3,4,13,14,15,20,21,22]
def HC:List (List Nat):=[JD,Pe,[]]
def AcX(x0:AV)(S:Aa)(Q:Aq):Prop:=
 Az 45 5 x0 S fun a S=>Lf a 3 S fun c S=>AG c S fun d S=>Qt 26 24 [.nl] d d S fun e S=>Lf a 3 S fun f S=>AG f S fun g S=>Ap JD (vc Pg (NJ.at_ [1,1,0,1,0,0]) (HC.drop 1)) 44 (J3 a e f g (aI 0)) S (Ak 0 (Av (vc Pg (NJ.at_ [1,1,1]) (HC.drop 2)) (Ao Pg lO Q)))
theorem cL{x0:AV}{S:Aa}{Q:Aq}(h:AcX x0 S Q):Ad Pg 184 [x0] S Q:=
 Bl (n:=44) HC Tryz.func184 (by kernel_rfl) (Eq.mpr (by kernel_rfl) h)
def gE(y1 y3 y13 y14 y15:AV)(S:Aa)(KE0:BB)(Q:Aq):Prop:=
 bin .lss 0 y15 y14 S fun a S=>Fi a (AR 26 1 y13 y15 S fun c S=>Ax c S fun d S=>AG d S fun e S=>Ap Pe (vc Pg (NJ.at_ [1,1,0,1,0,0,1,1,0,0,1,1,0,0]) (HC.drop 2)) 44 (HM y1 y3 y15 y13 y14 y15 d e (aI 0)) S (Ak 2 (Ak 1 (Av (vc Pg (NJ.at_ [1,1,0,1,0,0,1,1,1]) (HC.drop 2)) (BY (Hn JD KE0) (Ak 0 (Av (vc Pg (NJ.at_ [1,1,1]) (HC.drop 2)) (Ao Pg lO Q)))))))) (Q (.ret y3) S)
theorem WA{y1 y3 y13 y14:AV}{y150:AV}{S:Aa}{Q:Aq}(I:AV→Aa→Prop)(μ:AV→Aa→Nat)(h0:I y150 S)(hr:BS (fun y15=>J3 y1 y3 y13 y14 y15) 44 I μ fun y15 S KE0=>gE y1 y3 y13 y14 y15 S KE0 Q):
 Ap JD (vc Pg (NJ.at_ [1,1,0,1,0,0]) (HC.drop 1)) 44 (J3 y1 y3 y13 y14 y150) S (Ak 0 (Av (vc Pg (NJ.at_ [1,1,1]) (HC.drop 2)) (Ao Pg lO Q))):=DY 4 (fun _=>rfl) (fun _ _ _=>by kernel_rfl) h0 hr
def gD(y1 y3 y4 y13 y14 y15 y20 y21 y22:AV)(S:Aa)(KE1:BB)(KE0:BB)(Q:Aq):Prop:=
 bin .lss 0 y22 y21 S fun a S=>Fi a (AR 3 1 y20 y22 S fun c S=>Ax c S fun d S=>Lf y1 1 S fun e S=>AR 4 1 e y4 S fun f S=>Ax f S fun g S=>Fi g (AR 26 1 y3 d S fun h S=>Ax h S fun i S=>AU 3 1 1 [aI 0] [(0,y4)] S fun k S=>Bo 3 1 8 i k S fun l S=>AR 26 1 y3 d S fun m S=>A8 1 m l S fun n S=>bin .add 0 y22 (aI 1) S fun o S=>KE1 44 (HM y1 y3 y4 y13 y14 y15 y20 y21 o) S) (bin .add 0 y22 (aI 1) S fun p S=>KE1 44 (HM y1 y3 y4 y13 y14 y15 y20 y21 p) S)) (bin .add 0 y15 (aI 1) S fun q S=>KE0 44 (J3 y1 y3 y13 y14 q) S)
theorem Wz{y1 y3 y4 y13 y14 y15 y20 y21:AV}{y220:AV}{S:Aa}{KE0:BB}{Q:Aq}(I:AV→Aa→Prop)(μ:AV→Aa→Nat)(h0:I y220 S)(hr:BS (fun y22=>HM y1 y3 y4 y13 y14 y15 y20 y21 y22) 44 I μ fun y22 S KE1=>gD y1 y3 y4 y13 y14 y15 y20 y21 y22 S KE1 KE0 Q):
 Ap Pe (vc Pg (NJ.at_ [1,1,0,1,0,0,1,1,0,0,1,1,0,0]) (HC.drop 2)) 44 (HM y1 y3 y4 y13 y14 y15 y20 y21 y220) S (Ak 2 (Ak 1 (Av (vc Pg (NJ.at_ [1,1,0,1,0,0,1,1,1]) (HC.drop 2)) (BY (Hn JD KE0) (Ak 0 (Av (vc Pg (NJ.at_ [1,1,1]) (HC.drop 2)) (Ao Pg lO Q))))))):=DY 8 (fun _=>rfl) (fun _ _ _=>by kernel_rfl) h0 hr
def Ae1(x0:AV)(S:Aa)(Q:Aq):Prop:=
 YH .eql 2 x0 S fun a S=>Fi a (Q (.ret .nl) S) (AU 4 1 0 [.v (.bool false)] [] S fun c S=>Bo 4 1 1 c x0 S fun d S=>Q (.ret d) S)
theorem eC{x0:AV}{S:Aa}{Q:Aq}(h:Ae1 x0 S Q):Ad Pg 140 [x0] S Q:=
 Bl (n:=8) [[]] Tryz.func140 (by kernel_rfl) (Eq.mpr (by kernel_rfl) h)
def rV:Code:=(Tryz.f167.body).getD .skip
def AbC:List ResultVar:=Tryz.f167.results.toList
def Gf(y5 y10 y11 y12:AV):List AV:=[y5,y10,y11,y12]
def Pl:List Nat:=[5,10,11,12]
def Q6:List (List Nat):=[Pl,[]]
def AdD(x0 x1:AV)(S:Aa)(Q:Aq):Prop:=
 Ah Pg 140 [x0] S Q fun a S=>AG x1 S fun c S=>Ap Pl (vc Pg (rV.at_ [1,1,0,1,0,0]) (Q6.drop 1)) 29 (Gf a x1 c (aI 0)) S (Ak 0 (Av (vc Pg (rV.at_ [1,1,1]) (Q6.drop 1)) (Ao Pg AbC Q)))
theorem dB{x0 x1:AV}{S:Aa}{Q:Aq}(h:AdD x0 x1 S Q):Ad Pg 167 [x0,x1] S Q:=
 Bl (n:=29) Q6 Tryz.func167 (by kernel_rfl) (Eq.mpr (by kernel_rfl) h)
def gJ(y5 y10 y11 y12:AV)(S:Aa)(KE0:BB)(Q:Aq):Prop:=
 bin .lss 0 y12 y11 S fun a S=>Fi a (AR 4 1 y10 y12 S fun c S=>Ax c S fun d S=>AR 4 1 y5 y12 S fun e S=>Ax e S fun f S=>Fi f (AR 4 1 y5 y12 S fun g S=>A8 1 g d S fun h S=>bin .add 0 y12 (aI 1) S fun i S=>KE0 29 (Gf y5 y10 y11 i) S) (AR 4 1 y5 y12 S fun k S=>A8 1 k (.v (.bool false)) S fun l S=>bin .add 0 y12 (aI 1) S fun m S=>KE0 29 (Gf y5 y10 y11 m) S)) (Q (.ret y5) S)
theorem WG{y5 y10 y11:AV}{y120:AV}{S:Aa}{Q:Aq}(I:AV→Aa→Prop)(μ:AV→Aa→Nat)(h0:I y120 S)(hr:BS (fun y12=>Gf y5 y10 y11 y12) 29 I μ fun y12 S KE0=>gJ y5 y10 y11 y12 S KE0 Q):
 Ap Pl (vc Pg (rV.at_ [1,1,0,1,0,0]) (Q6.drop 1)) 29 (Gf y5 y10 y11 y120) S (Ak 0 (Av (vc Pg (rV.at_ [1,1,1]) (Q6.drop 1)) (Ao Pg AbC Q))):=DY 3 (fun _=>rfl) (fun _ _ _=>by kernel_rfl) h0 hr
def AcV(x0 x1:AV)(S:Aa)(Q:Aq):Prop:=
 Ax x1 S fun a S=>AR 4 1 a x0 S fun c S=>Ax c S fun d S=>Q (.ret d) S
theorem cJ{x0 x1:AV}{S:Aa}{Q:Aq}(h:AcV x0 x1 S Q):Ad Pg 187 [x0,x1] S Q:=
 Bl (n:=8) [[]] Tryz.func187 (by kernel_rfl) (Eq.mpr (by kernel_rfl) h)
def rU:Code:=(Tryz.f168.body).getD .skip
def AbB:List ResultVar:=Tryz.f168.results.toList
def Ge(y2 y3 y5 y12 y13 y14:AV):List AV:=[y2,y3,y5,y12,y13,y14]
def Pk:List Nat:=[2,3,5,12,13,14]
def Q5:List (List Nat):=[Pk,[]]
def AdC(x0 x1:AV)(S:Aa)(Q:Aq):Prop:=
 Az 45 5 x0 S fun a S=>Az 41 1 x1 S fun c S=>Ax c S fun d S=>AG d S fun e S=>Qt 4 1 [.v (.bool false)] e e S fun f S=>Lf a 3 S fun g S=>AG g S fun h S=>Ap Pk (vc Pg (rU.at_ [1,1,0,1,0,0]) (Q5.drop 1)) 34 (Ge a c f g h (aI 0)) S (Ak 0 (Av (vc Pg (rU.at_ [1,1,1]) (Q5.drop 1)) (Ao Pg AbB Q)))
theorem dA{x0 x1:AV}{S:Aa}{Q:Aq}(h:AdC x0 x1 S Q):Ad Pg 168 [x0,x1] S Q:=
 Bl (n:=34) Q5 Tryz.func168 (by kernel_rfl) (Eq.mpr (by kernel_rfl) h)
def gI(y2 y3 y5 y12 y13 y14:AV)(S:Aa)(KE0:BB)(Q:Aq):Prop:=
 bin .lss 0 y14 y13 S fun a S=>Fi a (AR 26 1 y12 y14 S fun c S=>Ax c S fun d S=>Lf y2 1 S fun e S=>AR 4 1 e y14 S fun g S=>Ax g S fun h S=>Fi h (Ah Pg 100 [d,(.f (.func 187) [] [y3])] S Q fun i S=>AR 4 1 y5 y14 S fun k S=>A8 1 k i S fun l S=>bin .add 0 y14 (aI 1) S fun m S=>KE0 34 (Ge y2 y3 y5 y12 y13 m) S) (AR 4 1 y5 y14 S fun n S=>A8 1 n (.v (.bool false)) S fun o S=>bin .add 0 y14 (aI 1) S fun p S=>KE0 34 (Ge y2 y3 y5 y12 y13 p) S)) (Q (.ret y5) S)
theorem WE{y2 y3 y5 y12 y13:AV}{y140:AV}{S:Aa}{Q:Aq}(I:AV→Aa→Prop)(μ:AV→Aa→Nat)(h0:I y140 S)(hr:BS (fun y14=>Ge y2 y3 y5 y12 y13 y14) 34 I μ fun y14 S KE0=>gI y2 y3 y5 y12 y13 y14 S KE0 Q):
 Ap Pk (vc Pg (rU.at_ [1,1,0,1,0,0]) (Q5.drop 1)) 34 (Ge y2 y3 y5 y12 y13 y140) S (Ak 0 (Av (vc Pg (rU.at_ [1,1,1]) (Q5.drop 1)) (Ao Pg AbB Q))):=DY 5 (fun _=>rfl) (fun _ _ _=>by kernel_rfl) h0 hr
def rR:Code:=(Tryz.f186.body).getD .skip
def Ab7:List ResultVar:=Tryz.f186.results.toList
def J2(y0 y1 y7 y8:AV):List AV:=[y0,y1,y7,y8]
def Pd:List Nat:=[0,1,7,8]
def Q2:List (List Nat):=[Pd,[]]
def AcW(x0 x1:AV)(S:Aa)(Q:Aq):Prop:=
 AG x0 S fun a S=>Ap Pd (vc Pg (rR.at_ [1,0,1,0,0]) (Q2.drop 1)) 19 (J2 x0 x1 a (aI 0)) S (Ak 0 (Av (vc Pg (rR.at_ [1,1]) (Q2.drop 1)) (Ao Pg Ab7 Q)))
theorem cK{x0 x1:AV}{S:Aa}{Q:Aq}(h:AcW x0 x1 S Q):Ad Pg 186 [x0,x1] S Q:=
 Bl (n:=19) Q2 Tryz.func186 (by kernel_rfl) (Eq.mpr (by kernel_rfl) h)
def gC(y0 y1 y7 y8:AV)(S:Aa)(KE0:BB)(Q:Aq):Prop:=
 bin .lss 0 y8 y7 S fun a S=>Fi a (AR 41 1 y0 y8 S fun c S=>Ax c S fun d S=>Bh Pg y1 [d] S (fun e S=>Fi e (Q (.ret y8) S) (bin .add 0 y8 (aI 1) S fun f S=>KE0 19 (J2 y0 y1 y7 f) S)) (fun u S=>Q (.pan u) S)) (Q (.ret (.v (.int .i64 (-1)))) S)
theorem Wx{y0 y1 y7:AV}{y80:AV}{S:Aa}{Q:Aq}(I:AV→Aa→Prop)(μ:AV→Aa→Nat)(h0:I y80 S)(hr:BS (fun y8=>J2 y0 y1 y7 y8) 19 I μ fun y8 S KE0=>gC y0 y1 y7 y8 S KE0 Q):
 Ap Pd (vc Pg (rR.at_ [1,0,1,0,0]) (Q2.drop 1)) 19 (J2 y0 y1 y7 y80) S (Ak 0 (Av (vc Pg (rR.at_ [1,1]) (Q2.drop 1)) (Ao Pg Ab7 Q))):=DY 3 (fun _=>rfl) (fun _ _ _=>by kernel_rfl) h0 hr
def AdF(x0 x1:AV)(S:Aa)(Q:Aq):Prop:=
 Ah Pg 186 [x0,x1] S Q fun a S=>bin .geq 0 a (aI 0) S fun c S=>Q (.ret c) S
theorem dD{x0 x1:AV}{S:Aa}{Q:Aq}(h:AdF x0 x1 S Q):Ad Pg 165 [x0,x1] S Q:=
 Bl (n:=9) [[]] Tryz.func165 (by kernel_rfl) (Eq.mpr (by kernel_rfl) h)
def AdG(x0 x1:AV)(S:Aa)(Q:Aq):Prop:=
 AG x0 S fun a S=>Ax x1 S fun c S=>bin .neq 0 a c S fun d S=>Q (.ret d) S
theorem dE{x0 x1:AV}{S:Aa}{Q:Aq}(h:AdG x0 x1 S Q):Ad Pg 164 [x0,x1] S Q:=
 Bl (n:=8) [[]] Tryz.func164 (by kernel_rfl) (Eq.mpr (by kernel_rfl) h)
def AdE(x0 x1:AV)(S:Aa)(Q:Aq):Prop:=
 bin .lss 0 x0 (aI 0) S fun a S=>Fi a (Q (.ret (.v (.bool true))) S) (Ax x1 S fun c S=>bin .geq 0 x0 c S fun d S=>Q (.ret d) S)
theorem dC{x0 x1:AV}{S:Aa}{Q:Aq}(h:AdE x0 x1 S Q):Ad Pg 166 [x0,x1] S Q:=
 Bl (n:=11) [[]] Tryz.func166 (by kernel_rfl) (Eq.mpr (by kernel_rfl) h)
def rX:Code:=(Tryz.f149.body).getD .skip
def AbF:List ResultVar:=Tryz.f149.results.toList
def J6(y5 y30 y31 y32:AV):List AV:=[y5,y30,y31,y32]
def Ps:List Nat:=[5,30,31,32]
def Q8:List (List Nat):=[Ps,[]]
def AdU(x0 x1:AV)(S:Aa)(Q:Aq):Prop:=
 Az 45 5 x0 S fun a S=>Lf a 1 S fun c S=>AG c S fun d S=>Az 3 1 (aI 0) S fun e S=>A8 1 e d S fun g S=>Lf a 3 S fun h S=>AG h S fun i S=>Ax e S fun k S=>bin .neq 0 i k S fun l S=>Fi l (Q (.ret (.v (.bool false))) S) (Lf a 4 S fun m S=>Ah Pg 165 [m,(.f (.func 164) [] [e])] S Q fun n S=>Fi n (Q (.ret (.v (.bool false))) S) (Ah Pg 165 [x1,(.f (.func 164) [] [e])] S Q fun o S=>Fi o (Q (.ret (.v (.bool false))) S) (Lf a 3 S fun p S=>AG p S fun q S=>Ap Ps (vc Pg (rX.at_ [1,1,1,1,0,1,0,0]) (Q8.drop 1)) 40 (J6 e p q (aI 0)) S (Ak 0 (Av (vc Pg (rX.at_ [1,1,1,1,1]) (Q8.drop 1)) (Ao Pg AbF Q))))))
theorem dV{x0 x1:AV}{S:Aa}{Q:Aq}(h:AdU x0 x1 S Q):Ad Pg 149 [x0,x1] S Q:=
 Bl (n:=40) Q8 Tryz.func149 (by kernel_rfl) (Eq.mpr (by kernel_rfl) h)
def gW(y5 y30 y31 y32:AV)(S:Aa)(KE0:BB)(Q:Aq):Prop:=
 bin .lss 0 y32 y31 S fun a S=>Fi a (AR 26 1 y30 y32 S fun c S=>Ax c S fun d S=>Ah Pg 100 [d,(.f (.func 166) [] [y5])] S Q fun e S=>Fi e (Q (.ret (.v (.bool false))) S) (bin .add 0 y32 (aI 1) S fun g S=>KE0 40 (J6 y5 y30 y31 g) S)) (Q (.ret (.v (.bool true))) S)
theorem WQ{y5 y30 y31:AV}{y320:AV}{S:Aa}{Q:Aq}(I:AV→Aa→Prop)(μ:AV→Aa→Nat)(h0:I y320 S)(hr:BS (fun y32=>J6 y5 y30 y31 y32) 40 I μ fun y32 S KE0=>gW y5 y30 y31 y32 S KE0 Q):
 Ap Ps (vc Pg (rX.at_ [1,1,1,1,0,1,0,0]) (Q8.drop 1)) 40 (J6 y5 y30 y31 y320) S (Ak 0 (Av (vc Pg (rX.at_ [1,1,1,1,1]) (Q8.drop 1)) (Ao Pg AbF Q))):=DY 3 (fun _=>rfl) (fun _ _ _=>by kernel_rfl) h0 hr
def sM:Code:=(Tryz.f106.body).getD .skip
def AbU:List ResultVar:=Tryz.f106.results.toList
def Kj(y0 y1 y7 y8:AV):List AV:=[y0,y1,y7,y8]
def PM:List Nat:=[0,1,7,8]
def Ro:List (List Nat):=[PM,[]]
def AeW(x0 x1:AV)(S:Aa)(Q:Aq):Prop:=
 AG x0 S fun a S=>Ap PM (vc Pg (sM.at_ [1,0,1,0,0]) (Ro.drop 1)) 19 (Kj x0 x1 a (aI 0)) S (Ak 0 (Av (vc Pg (sM.at_ [1,1]) (Ro.drop 1)) (Ao Pg AbU Q)))
theorem fJ{x0 x1:AV}{S:Aa}{Q:Aq}(h:AeW x0 x1 S Q):Ad Pg 106 [x0,x1] S Q:=
 Bl (n:=19) Ro Tryz.func106 (by kernel_rfl) (Eq.mpr (by kernel_rfl) h)
def iU(y0 y1 y7 y8:AV)(S:Aa)(KE0:BB)(Q:Aq):Prop:=
 bin .lss 0 y8 y7 S fun a S=>Fi a (AR 3 1 y0 y8 S fun c S=>Ax c S fun d S=>Bh Pg y1 [d] S (fun e S=>Fi e (Q (.ret y8) S) (bin .add 0 y8 (aI 1) S fun f S=>KE0 19 (Kj y0 y1 y7 f) S)) (fun u S=>Q (.pan u) S)) (Q (.ret (.v (.int .i64 (-1)))) S)
theorem Xd{y0 y1 y7:AV}{y80:AV}{S:Aa}{Q:Aq}(I:AV→Aa→Prop)(μ:AV→Aa→Nat)(h0:I y80 S)(hr:BS (fun y8=>Kj y0 y1 y7 y8) 19 I μ fun y8 S KE0=>iU y0 y1 y7 y8 S KE0 Q):
 Ap PM (vc Pg (sM.at_ [1,0,1,0,0]) (Ro.drop 1)) 19 (Kj y0 y1 y7 y80) S (Ak 0 (Av (vc Pg (sM.at_ [1,1]) (Ro.drop 1)) (Ao Pg AbU Q))):=DY 3 (fun _=>rfl) (fun _ _ _=>by kernel_rfl) h0 hr
def Af2(x0 x1:AV)(S:Aa)(Q:Aq):Prop:=
 Ah Pg 106 [x0,x1] S Q fun a S=>bin .geq 0 a (aI 0) S fun c S=>Q (.ret c) S
theorem fP{x0 x1:AV}{S:Aa}{Q:Aq}(h:Af2 x0 x1 S Q):Ad Pg 100 [x0,x1] S Q:=
 Bl (n:=9) [[]] Tryz.func100 (by kernel_rfl) (Eq.mpr (by kernel_rfl) h)
end
def idxOf(o:Option Nat):Int:=match o with|some i=>i|none=>-1
theorem JS{α:Type}{g:α→Bool}{l:List α}{i:Nat}(hi:i<l.length)(hg:g l[i]=true)(h:∀ k (hk:k<i),g (l[k]'(Nat.lt_trans hk hi))=false):l.findIdx? g=some i:=by
 rw[AjD]
 exact⟨hi,hg,fun j hj=>by simp[h j hj]⟩
theorem Gc{α:Type}{g:α→Bool}{l:List α}(h:∀ k (hk:k<l.length),g l[k]=false):l.findIdx? g=none:=by
 rw[AjG]
 intro x hx
 obtain⟨k,hk,rfl⟩:=List.mem_iff_getElem.1 hx
 exact h k hk
theorem wF{α:Type}{f:α→AV}{l:List α}(hl:l.length≤9223372036854775807){g:α→Bool}{fn:FuncId}{fs cs:List AV}{S:Aa}
    (hf:∀ x,x∈l→AW Pg fn (fs ++ [f x]++cs) S (aB (g x))):AW Pg 106 [aL f l,.f (.func fn) fs cs] S (aI (idxOf (l.findIdx? g))):=by
 refine fJ ?_
 unfold AeW
 rw[Ay]
 refine Xd (fun y S'=>S'=S∧∃ i:Nat,y=aI i∧i≤l.length∧∀ k (hk:k<l.length),k<i→g l[k]=false) (fun y _=>l.length - ((Aw y).getD 0).toNat) ⟨rfl,0,rfl,Ai9 _,fun k _ h=>absurd h (AiF _)⟩ ?_
 dsimp only[BS]
 rintro _ _ ⟨rfl,i,rfl,hi,hk⟩ KE hKE
 dsimp only[iU,Fi];unfold aI
 rw[As,Ag]
 refine Al (fun h=>?_) (fun h=>?_)
 ·have hlt:i<l.length:=by simpa using h
  rw[AM hlt,A3]
  refine BL (hf _ (Ai6 hlt)) ?_
  unfold aB
  rw[Ag]
  refine Al (fun hg=>⟨?_,rfl⟩) (fun hg=>?_)
  ·rw[JS hlt hg (fun k hk'=>hk k _ hk')];rfl
  ·rw[Ar (by omega) (by omega)]
   refine hKE _ _ ⟨rfl,i+1,rfl,hlt,fun k hk1 hk2=>?_⟩ ?_
   ·by_cases e:k=i
    ·subst e;exact hg
    ·exact hk k hk1 (by omega)
   ·simp[Aw,aI];omega
 ·have hge:i=l.length:=by simp at h;omega
  subst hge
  rw[Gc (fun k hk'=>hk k hk' hk')]
  exact⟨rfl,rfl⟩
theorem JP{α:Type}(g:α→Bool)(l:List α):decide (0≤idxOf (l.findIdx? g))=l.any g:=by
 cases h:l.findIdx? g with
 |none =>
  rw[AjG]at h
  have:l.any g=false:=by simpa[List.any_eq_false]using h
  rw[this];rfl
 |some i =>
  rw[AjD]at h
  obtain⟨hi,hg,_⟩:=h
  have:l.any g=true:=List.any_eq_true.2 ⟨_,Ai6 hi,by simpa using hg⟩
  rw[this]
  simp[idxOf]
theorem VJ{α:Type}{f:α→AV}{l:List α}(hl:l.length≤9223372036854775807){g:α→Bool}{fn:FuncId}{fs cs:List AV}{S:Aa}
    (hf:∀ x,x∈l→AW Pg fn (fs ++ [f x]++cs) S (aB (g x))):AW Pg 100 [aL f l,.f (.func fn) fs cs] S (aB (l.any g)):=by
 refine fP ?_
 unfold Af2
 refine Au (wF hl hf) ?_
 unfold aI
 rw[BA,JP]
 exact⟨rfl,rfl⟩
structure Sp where
 bits:Int
 valid:List Bool
 initial:List Bool
 next:List (List Int)
 fair:List (List Bool)
def Sp.cells(s:Sp):List AV:=[aI s.bits,aL aB s.valid,aL aB s.initial,aL (aL aI) s.next,aL (aL aB) s.fair]
def Sp.av(s:Sp):AV:=.a s.cells
def Sp.small(s:Sp):Prop:=s.valid.length<1048576∧s.next.length<1048576∧s.fair.length<1048576∧∀ x∈s.next,x.length<1048576
def fits(s:Sp)(l:List (List Bool)):Bool:=
 decide (s.next.length=s.valid.length) && s.fair.all (fun p=>decide (p.length=s.valid.length)) && l.all (fun p=>decide (p.length=s.valid.length)) && s.next.all (fun x=>x.all fun i=>decide (0≤i) && decide (i<s.valid.length))
theorem OX{α:Type}(l:List α)(g h:α→Bool)(e:∀ x,g x = !h x):l.any g = !l.all h:=by
 induction l with
 |nil=>rfl
 |cons x l ih=>simp[e x,ih,Bool.not_and]
theorem AfO{α:Type}{f:α→AV}{l:List α}(hl:l.length≤9223372036854775807){g:α→Bool}{fn:FuncId}{fs cs:List AV}{S:Aa}
    (hf:∀ x,x∈l→AW Pg fn (fs ++ [f x]++cs) S (aB (g x))):AW Pg 186 [aL f l,.f (.func fn) fs cs] S (aI (idxOf (l.findIdx? g))):=by
 refine cK ?_
 unfold AcW
 rw[Ay]
 refine Wx (fun y S'=>S'=S∧∃ i:Nat,y=aI i∧i≤l.length∧∀ k (hk:k<l.length),k<i→g l[k]=false) (fun y _=>l.length - ((Aw y).getD 0).toNat) ⟨rfl,0,rfl,Ai9 _,fun k _ h=>absurd h (AiF _)⟩ ?_
 dsimp only[BS]
 rintro _ _ ⟨rfl,i,rfl,hi,hk⟩ KE hKE
 dsimp only[gC,Fi];unfold aI
 rw[As,Ag]
 refine Al (fun h=>?_) (fun h=>?_)
 ·have hlt:i<l.length:=by simpa using h
  rw[AM hlt,A3]
  refine BL (hf _ (Ai6 hlt)) ?_
  unfold aB
  rw[Ag]
  refine Al (fun hg=>⟨?_,rfl⟩) (fun hg=>?_)
  ·rw[JS hlt hg (fun k hk'=>hk k _ hk')];rfl
  ·rw[Ar (by omega) (by omega)]
   refine hKE _ _ ⟨rfl,i+1,rfl,hlt,fun k hk1 hk2=>?_⟩ ?_
   ·by_cases e:k=i
    ·subst e;exact hg
    ·exact hk k hk1 (by omega)
   ·simp[Aw,aI];omega
 ·have hge:i=l.length:=by simp at h;omega
  subst hge
  rw[Gc (fun k hk'=>hk k hk' hk')]
  exact⟨rfl,rfl⟩
theorem wB{α:Type}{f:α→AV}{l:List α}(hl:l.length≤9223372036854775807){g:α→Bool}{fn:FuncId}{fs cs:List AV}{S:Aa}
    (hf:∀ x,x∈l→AW Pg fn (fs ++ [f x]++cs) S (aB (g x))):AW Pg 165 [aL f l,.f (.func fn) fs cs] S (aB (l.any g)):=by
 refine dD ?_
 unfold AdF
 refine Au (AfO hl hf) ?_
 unfold aI
 rw[BA,JP]
 exact⟨rfl,rfl⟩
theorem wC{α:Type}{f:α→AV}(p:List α){S:Aa}{id t:Nat}{n:Int}{l:Bool}(h:S.obj id=some (.cells t [[aI n]] l)):AW Pg 164 [aL f p,.p id 0 0] S (aB (!decide ((p.length:Int)=n))):=by
 refine dE ?_
 unfold AdG
 rw[Ay,Af h rfl rfl]
 unfold aI
 rw[Bi]
 exact⟨rfl,rfl⟩
theorem AfR(i:Int){S:Aa}{id t:Nat}{n:Int}{l:Bool}(h:S.obj id=some (.cells t [[aI n]] l)):AW Pg 166 [aI i,.p id 0 0] S (aB (decide (i<0) || decide (n≤i))):=by
 refine dC ?_
 dsimp only[AdE,Fi];unfold aI
 rw[As,Ag]
 refine Al (fun h0=>⟨by rw[h0];rfl,rfl⟩) (fun h0=>?_)
 rw[Af h rfl rfl]
 unfold aI
 rw[BA,h0]
 exact⟨rfl,rfl⟩
theorem K6(s:Sp)(hs:s.small)(l:List (List Bool))(hl:l.length≤9223372036854775807):BH Pg 149 [s.av,aL (aL aB) l] (aB (fits s l)):=by
 intro S
 obtain⟨hs1,hs2,hs3,hs4⟩:=hs
 refine Ad.Bt (dV ?_)
 dsimp only[AdU,Fi,Lf];unfold Sp.av
 refine Ai rfl fun S1 k1 n1 o1=>?_
 rw[Ac,Af o1 rfl rfl,Ay]
 refine BM rfl fun S2 k2 n2 o2=>?_
 refine Cc o2 rfl rfl fun S3 n3 o3 f3=>?_
 have p1:=(f3 S.n (by omega)).trans ((k2.2 S.n (by omega)).trans o1)
 have k3:Am S S3:=(k1.trans k2).st (by omega) n3 f3
 rw[Ac,Af p1 rfl rfl,Ay,Af o3 rfl rfl,Bi,Ag]
 generalize hid:S1.n=id at *
 refine Al (fun h=>⟨?_,k3⟩) (fun h=>?_)
 ·have:¬ s.next.length=s.valid.length:=by simp at h;omega
  simp[fits,this]
 have e1:s.next.length=s.valid.length:=by simp at h;omega
 have g54:∀ p:List Bool,(!decide ((p.length:Int)=s.valid.length)) = !decide (p.length=s.valid.length):=fun p=>by simp[Int.ofNat_inj]
 rw[Ac,Af p1 rfl rfl]
 refine Au (wB (by omega) (fun x _=>wC x o3)) ?_
 unfold aB
 rw[Ag,OX _ _ _ g54]
 refine Al (fun h=>⟨?_,k3⟩) (fun h=>?_)
 ·simp only[AiN]at h
  simp[fits,h]
 have e2:s.fair.all (fun p=>decide (p.length=s.valid.length))=true:=by simpa using h
 refine Au (wB (f:=aL aB) (by omega) (fun x _=>wC x o3)) ?_
 unfold aB
 rw[Ag,OX _ _ _ g54]
 refine Al (fun h=>⟨?_,k3⟩) (fun h=>?_)
 ·simp only[AiN]at h
  simp[fits,h]
 have e3:l.all (fun p=>decide (p.length=s.valid.length))=true:=by simpa using h
 rw[Ac,Af p1 rfl rfl,Ay]
 refine WQ (fun y S'=>S'=S3∧∃ i:Nat,y=aI i∧i≤s.next.length∧∀ k (hk:k<s.next.length),k<i→(s.next[k].all fun i=>decide (0≤i) && decide (i<s.valid.length))=true) (fun y _=>s.next.length - ((Aw y).getD 0).toNat) ⟨rfl,0,rfl,Ai9 _,fun k _ h=>absurd h (AiF _)⟩ ?_
 dsimp only[BS]
 rintro _ _ ⟨rfl,i,rfl,hi,hk⟩ KE hKE
 dsimp only[gW,Fi];unfold aI
 rw[As,Ag]
 refine Al (fun h=>?_) (fun h=>?_)
 ·have hlt:i<s.next.length:=by simpa using h
  rw[AM hlt,A3]
  refine Au (VJ (by have:=hs4 _ (Ai6 hlt);omega) (fun x _=>AfR x o3)) ?_
  unfold aB
  have g57:∀ x:Int,(decide (x<0) || decide ((s.valid.length:Int)≤x)) = !(decide (0≤x) && decide (x<s.valid.length)):=fun x=>by
   have a1:decide (x<0) = !decide (0≤x):=by rw[←decide_not];exact decide_eq_decide.2 Int.not_le.symm
   have a2:decide ((s.valid.length:Int)≤x) = !decide (x<s.valid.length):=by rw[←decide_not];exact decide_eq_decide.2 Int.not_lt.symm
   rw[Bool.not_and,a1,a2]
  rw[Ag,OX _ _ _ g57]
  refine Al (fun hg=>⟨?_,k3⟩) (fun hg=>?_)
  ·have:s.next.all (fun x=>x.all fun i=>decide (0≤i) && decide (i<s.valid.length))=false:=by
     rw[Aj4]
     exact⟨_,Ai6 hlt,by simpa using hg⟩
   rw[fits,this,Aj2]
  ·rw[Ar (by omega) (by omega)]
   refine hKE _ _ ⟨rfl,i+1,rfl,hlt,fun k hk1 hk2=>?_⟩ ?_
   ·by_cases e:k=i
    ·subst e;simpa using hg
    ·exact hk k hk1 (by omega)
   ·simp[Aw,aI];omega
 ·have hge:i=s.next.length:=by simp at h;omega
  subst hge
  have:s.next.all (fun x=>x.all fun i=>decide (0≤i) && decide (i<s.valid.length))=true:=by
   rw[AiD]
   intro x hx
   obtain⟨k,hk1,rfl⟩:=List.mem_iff_getElem.1 hx
   exact hk k hk1 hk1
  exact⟨by rw[fits,this,e2,e3,e1];simp,k3⟩
def bit(p:List Bool)(i:Nat):Bool:=p.getD i false
def nx(s:Sp)(i:Nat):List Int:=s.next.getD i []
theorem Bc{p:List Bool}{i:Nat}(h:i<p.length):bit p i=p[i]:=by simp[bit,Ai2,h]
theorem ES{s:Sp}{i:Nat}(h:i<s.next.length):nx s i=s.next[i]:=by simp[nx,Ai2,h]
def CI{α:Type}(n:Nat)(f:Nat→α):List α:=(List.range n).map f
@[simp] theorem OK{α:Type}(n:Nat)(f:Nat→α):(CI n f).length=n:=by simp[CI]
theorem BR{α:Type}{n:Nat}{f:Nat→α}{i:Nat}(h:i<n):(CI n f)[i]? = some (f i):=by simp[CI,h]
theorem Ft{α:Type}{n:Nat}{f:Nat→α}{i:Nat}{x:α}:(CI n f).set i x=CI n (fun k=>if k=i then x else f k):=by
 apply List.ext_getElem?
 intro k
 rw[List.getElem?_set]
 by_cases hk:k<n
 ·by_cases e:i=k
  ·subst e;rw[if_pos rfl,BR hk];simp[hk]
  ·rw[if_neg e,BR hk,BR hk,if_neg (Ne.symm e)]
 ·by_cases e:i=k
  ·subst e;simp[CI,hk]
  ·rw[if_neg e];simp[CI,hk]
theorem BX{α:Type}{n:Nat}{f g:Nat→α}(h:∀ i,i<n→f i=g i):CI n f=CI n g:=
 Aj9 fun i hi=>h i (by simpa using hi)
theorem LI(p:List Bool):p=CI p.length (bit p):=by
 apply List.ext_getElem?
 intro k
 by_cases hk:k<p.length
 ·rw[BR hk,Bc hk,Ai3 hk]
 ·simp[CI,hk]
theorem ED{α β:Type}{n:Nat}{f:Nat→α}{g:α→β}:(CI n f).map g=CI n (fun i=>g (f i)):=by simp[CI]
theorem OJ{α:Type}(n:Nat)(x:α):List.replicate n x=CI n (fun _=>x):=by
 apply List.ext_getElem?
 intro k
 by_cases hk:k<n
 ·rw[BR hk];simp[hk]
 ·simp[CI,hk]
def NC(s:Sp)(p:List Bool):List Bool:=CI p.length fun i=>bit s.valid i && (nx s i).any fun k=>bit p k.toNat
theorem AfN{p:List Bool}{k:Int}(h0:0≤k)(h1:k<p.length){S:Aa}{id t:Nat}{l:Bool}(h:S.obj id=some (.cells t [[aL aB p]] l)):AW Pg 187 [aI k,.p id 0 0] S (aB (bit p k.toNat)):=by
 refine cJ ?_
 unfold AcV
 have hk:k.toNat<p.length:=by omega
 rw[Af h rfl rfl]
 obtain⟨n,rfl⟩:=AiE h0
 unfold aI
 rw[AM (i:=n) (by simpa using hk),A3,Bc hk]
 exact⟨rfl,rfl⟩
structure Fit (s:Sp) (p:List Bool):Prop where
 small:s.small
 next:s.next.length=s.valid.length
 len:p.length=s.valid.length
 fair:∀ f∈s.fair,f.length=s.valid.length
 behind:∀ i,∀ k∈nx s i,0≤k∧k<s.valid.length
theorem Fit.of{s:Sp}(hs:s.small){l:List (List Bool)}(h:fits s l=true){p:List Bool}(hp:p∈l):Fit s p:=by
 simp only[fits,Ai5,decide_eq_true_eq,AiD]at h
 obtain⟨⟨⟨h1,h2⟩,h3⟩,h4⟩:=h
 refine⟨hs,h1,h3 p hp,h2,fun i k hk=>?_⟩
 unfold nx at hk
 rw[Ai2]at hk
 cases hq:s.next[i]? with
 |none=>rw[hq]at hk;simp at hk
 |some x =>
  rw[hq]at hk
  exact h4 x (AjB hq) k hk
theorem jT{s:Sp}{p:List Bool}(hf:Fit s p):BH Pg 168 [s.av,aL aB p] (aL aB (NC s p)):=by
 refine Ad.G8 (f:=fun b=>.bool b) (e:=4) fun S=>dA ?_
 obtain⟨⟨hs1,hs2,hs3,hs4⟩,hn,hl,_,hb⟩:=hf
 dsimp only[AdC,Lf];unfold Sp.av
 refine Ai rfl fun S1 k1 n1 o1=>?_
 refine BM rfl fun S2 k2 n2 o2=>?_
 rw[Af o2 rfl rfl,Ay]
 refine Ll (by omega) (by omega) fun S3 k3 n3 o3=>?_
 have p1:=(k3.2 S.n (by omega)).trans ((k2.2 S.n (by omega)).trans o1)
 have p2:=(k3.2 S1.n (by omega)).trans o2
 rw[Ac,Af p1 rfl rfl,Ay]
 refine WE (fun y S'=>Am S S'∧S'.obj S.n=some (.cells 45 [s.cells] true)∧S'.obj S1.n=some (.cells 41 [[aL aB p]] true)∧S3.n≤S'.n∧
     ∃ i:Nat,y=aI i∧i≤s.next.length∧S'.obj S2.n=some (.cells 4 (CI p.length fun k=>[aB (if k<i then bit s.valid k && (nx s k).any fun k=>bit p k.toNat else false)]) true))
  (fun y _=>s.next.length - ((Aw y).getD 0).toNat) ⟨(k1.trans k2).trans k3,p1,p2,Ai4 _,0,rfl,Ai9 _,by rw[o3,OJ];simp[aB]⟩ ?_
 dsimp only[BS]
 rintro _ S4 ⟨k4,q1,q2,n4,i,rfl,hi,q3⟩ KE hKE
 dsimp only[gI,Fi,Lf];unfold aI
 rw[As,Ag]
 refine Al (fun h=>?_) (fun h=>?_)
 ·have hlt:i<s.next.length:=by simpa using h
  have hv:i<s.valid.length:=by omega
  rw[AM hlt,A3,Ac,Af q1 rfl rfl,AM hv,A3]
  have step:∀(b:Bool) (S5:Aa),b=(bit s.valid i && (nx s i).any fun k=>bit p k.toNat)→S5.n=S4.n→S5.obj S2.n=some (.cells 4 ((CI p.length fun k=>[aB (if k<i then bit s.valid k && (nx s k).any fun k=>bit p k.toNat else false)]).set i [aB b]) true)→(∀ x,x≠S2.n→S5.obj x=S4.obj x)→
      KE 34 (Ge (.p S.n 0 0) (.p S1.n 0 0) (.s S2.n 0 p.length) (aL (aL aI) s.next) (.v (.int .i64 s.next.length)) (aI (i+1:Nat))) S5:=by
   intro b S5 hbv n5 o5 f5
   refine hKE _ _ ⟨k4.st (by omega) n5 f5,(f5 _ (by omega)).trans q1,(f5 _ (by omega)).trans q2,by omega,i+1,rfl,hlt,?_⟩ ?_
   ·rw[o5,Ft,hbv]
    congr 2
    refine BX fun k hk=>?_
    by_cases e:k=i
    ·subst e;simp
    ·have:k<i+1↔k<i:=by omega
     simp[e,this]
   ·simp[Aw,aI];omega
  have hi2:i<p.length:=by omega
  have hadd:∀ K:AV→Aa→Prop,∀ S,bin .add 0 (.v (.int .i64 (i:Int))) (.v (.int .i64 1)) S K=K (aI (i+1:Nat)) S:=fun K S=>Ar (by omega) (by omega) 0
  unfold aB
  rw[Ag]
  refine Al (fun hvi=>?_) (fun hvi=>?_)
  ·refine Au (VJ (g:=fun k=>bit p k.toNat) (by have:=hs4 _ (Ai6 hlt);omega) (fun k hk=>AfN ?_ ?_ q2)) ?_
   ·exact(hb i k (by rw[ES hlt];exact hk)).1
   ·have:=(hb i k (by rw[ES hlt];exact hk)).2
    omega
   rw[Cl hi2 q3]
   refine Cc q3 (by rw[AiG];exact BR hi2) rfl fun S5 n5 o5 f5=>?_
   rw[hadd]
   refine step _ S5 ?_ n5 (by rw[o5];congr 3;simp[aB]) f5
   rw[Bc hv,hvi,ES hlt];simp
  ·rw[Cl hi2 q3]
   refine Cc q3 (by rw[AiG];exact BR hi2) rfl fun S5 n5 o5 f5=>?_
   rw[hadd]
   refine step false S5 ?_ n5 (by rw[o5];congr 3;simp[aB]) f5
   rw[Bc hv,hvi];simp
 ·have hge:i=s.next.length:=by simp at h;omega
  subst hge
  refine⟨_,rfl,k4,.inr ⟨S2.n,by simp[NC],by omega,by omega,?_⟩⟩
  rw[q3,NC,ED]
  congr 2
  refine BX fun k hk=>?_
  have:k<s.next.length:=by omega
  simp[this,aB]
def Nw(f:FuncId)(args:List AV)(l:List Bool):Prop:=
 ∀ S,Ad Pg f args S (fun r S'=>∃ x,r = .ret x∧Am S S'∧A4 S.n S' x 4 (l.map fun b=>[aB b]))
theorem Nw.NF{f:FuncId}{args:List AV}{l:List Bool}(h:Nw f args l):BH Pg f args (aL aB l):=Ad.G8 (f:=fun b=>.bool b) (e:=4) h
theorem Nw.call{f:FuncId}{args:List AV}{l:List Bool}(h:Nw f args l){S:Aa}{Q:Bg→Aa→Prop}{K:AV→Aa→Prop}(k:∀ x S',Am S S'→A4 S.n S' x 4 (l.map fun b=>[aB b])→K x S'):Ah Pg f args S Q K:=
 .inl ((h S).mono fun e S' ⟨x,h1,h2,h3⟩=>by subst h1;exact k x S' h2 h3)
theorem Yw(l:List Bool)(hl:l.length<140737488355328):Nw 140 [aL aB l] l:=by
 intro S
 refine eC ?_
 dsimp only[Ae1,Fi]
 have main:AU 4 1 0 [.v (.bool false)] [] S fun v3 S_1=>Bo 4 1 1 v3 (aL aB l) S_1 fun v4 S_2=>∃ x,Bg.ret v4=Bg.ret x∧Am S S_2∧A4 S.n S_2 x 4 (l.map fun b=>[aB b]):=by
  refine⟨[],rfl,.inl ⟨rfl,l.map (fun b=>[aB b]),rfl,by simp;rintro c (⟨_,rfl⟩|⟨_,rfl⟩)<;>rfl,?_⟩⟩
  cases l with
  |nil=>exact⟨_,rfl,(Am.refl S).new _,.inr ⟨S.n,rfl,Ai4 _,AjL _,by simp[chunks]⟩⟩
  |cons b l =>
   simp only[List.map_cons,Ql,B0]
   refine⟨⟨trivial,Ai9 _,by simp at hl ⊢;omega⟩,_,rfl,(((Am.refl S).new _).kill (Ai4 _)).new _,.inr ⟨S.n+1,?_,Nat.le_succ _,AjL _,?_⟩⟩
   ·simp
   ·have:=B0 (S:=(S.new (.cells 4 (chunks 1 0 []) true)).kill S.n) (.cells 4 (chunks 1 0 [] ++ [aB b] :: l.map fun b=>[aB b]) true)
    simpa[chunks]using this
 cases l with
 |nil=>exact⟨⟨_,rfl,Am.refl S,.nl _ _ _⟩,main⟩
 |cons b l=>exact main
def Bm(a b:List Bool):List Bool:=CI a.length fun i=>bit a i && bit b i
theorem Mz(a b:List Bool)(ha:a.length<140737488355328)(hab:b.length=a.length):Nw 167 [aL aB a,aL aB b] (Bm a b):=by
 intro S
 refine dB ?_
 unfold AdD
 refine Nw.call (Yw a ha) fun x S1 k1 o1=>?_
 rw[Ay]
 refine WG (fun y S'=>Am S S'∧∃ i:Nat,y=aI i∧i≤b.length∧A4 S.n S' x 4 (CI a.length fun k=>[aB (if k<i then bit a k && bit b k else bit a k)]))
  (fun y _=>b.length - ((Aw y).getD 0).toNat) ⟨k1,0,rfl,Ai9 _,by
   rw[LI a,ED]at o1;simpa using o1⟩ ?_
 dsimp only[BS]
 rintro _ S2 ⟨k2,i,rfl,hi,o2⟩ KE hKE
 dsimp only[gJ,Fi];unfold aI
 rw[As,Ag]
 refine Al (fun h=>?_) (fun h=>?_)
 ·have hlt:i<b.length:=by simpa using h
  have hia:i<a.length:=by omega
  obtain⟨id,rfl,hid,hid2,q2⟩:=A4.ix o2 (i:=i) (by simpa using hia)
  have hg:=BR (f:=fun k=>[aB (if k<i then bit a k && bit b k else bit a k)]) hia
  have hg':(CI a.length fun k=>[aB (if k<i then bit a k && bit b k else bit a k)])[0+i]? = some [aB (bit a i)]:=by rw[AiG,hg];simp
  have hi':i<(CI a.length fun k=>[aB (if k<i then bit a k && bit b k else bit a k)]).length:=by simpa using hia
  rw[AM hlt,A3,Cl hi' q2,Af q2 hg' rfl,Ag]
  have hadd:∀ K:AV→Aa→Prop,∀ S,bin .add 0 (.v (.int .i64 (i:Int))) (.v (.int .i64 1)) S K=K (aI (i+1:Nat)) S:=fun K S=>Ar (by omega) (by omega) 0
  have step:∀(c:Bool) (S5:Aa),c=(bit a i && bit b i)→S5.n=S2.n→S5.obj id=some (.cells 4 ((CI a.length fun k=>[aB (if k<i then bit a k && bit b k else bit a k)]).set (0+i) [.v (.bool c)]) true)→(∀ x,x≠id→S5.obj x=S2.obj x)→
      KE 29 (Gf (.s id 0 (CI a.length fun k=>[aB (if k<i then bit a k && bit b k else bit a k)]).length) (aL aB b) (.v (.int .i64 b.length)) (aI (i+1:Nat))) S5:=by
   intro c S5 hc n5 o5 f5
   refine hKE _ _ ⟨k2.st hid n5 f5,i+1,rfl,hlt,.inr ⟨id,by simp,hid,by omega,?_⟩⟩ ?_
   ·rw[o5,AiG,Ft,hc]
    congr 2
    refine BX fun k hk=>?_
    by_cases e:k=i
    ·subst e;simp[aB]
    ·have:k<i+1↔k<i:=by omega
     simp[e,this]
   ·simp[Aw,aI];omega
  refine Al (fun hb=>?_) (fun hb=>?_)
  ·rw[Cl hi' q2]
   refine Cc q2 hg' rfl fun S5 n5 o5 f5=>?_
   rw[hadd]
   exact step b[i] S5 (by rw[hb,Bc hlt];rfl) n5 o5 f5
  ·rw[Cl hi' q2]
   refine Cc q2 hg' rfl fun S5 n5 o5 f5=>?_
   rw[hadd]
   exact step false S5 (by rw[hb];rfl) n5 o5 f5
 ·have hge:i=b.length:=by simp at h;omega
  subst hge
  refine⟨_,rfl,k2,?_⟩
  have e:((Bm a b).map fun b=>[aB b])=CI a.length fun k=>[aB (if k<b.length then bit a k && bit b k else bit a k)]:=by
   rw[Bm,ED]
   refine BX fun k hk=>?_
   have:k<b.length:=by omega
   simp[this]
  rw[e]
  exact o2
def IK(s:Sp)(i:Nat):List (Nat × Nat):=if bit s.valid i then(nx s i).map fun k=>(k.toNat,i)else[]
def Fy(s:Sp):Nat→List (Nat × Nat)
 |0=>[]
 |i+1=>Fy s i++IK s i
def UO(P:List (Nat × Nat))(k:Nat):List Int:=(P.filter (·.1 == k)).map fun p=>(p.2:Int)
def No(s:Sp):List (List Int):=CI s.next.length (UO (Fy s s.next.length))
theorem UN(P:List (Nat × Nat))(k:Nat):(UO P k).length≤P.length:=by
 simp only[UO,Ai8]
 exact List.length_filter_le _ _
theorem lD(P:List (Nat × Nat))(k i k':Nat):UO (P ++ [(k,i)]) k'=if k=k' then UO P k' ++ [(i:Int)]else UO P k':=by
 by_cases h:k=k'<;>simp[UO,AjE,h]
theorem Mn(s:Sp)(i:Nat):(IK s i).length≤(nx s i).length:=by
 unfold IK
 split<;>simp
theorem YF{s:Sp}(hs:s.small)(i:Nat):(nx s i).length<1048576:=by
 by_cases h:i<s.next.length
 ·rw[ES h];exact hs.2.2.2 _ (Ai6 h)
 ·simp[nx,Ai2,AiZ (Nat.le_of_not_lt h)]
theorem KH{s:Sp}(hs:s.small):∀ i,(Fy s i).length≤i*1048576
 |0=>by simp[Fy]
 |i+1=>by
  have h1:=KH hs i
  have h2:=Mn s i
  have h3:=YF hs i
  simp only[Fy,AiK]
  omega
structure Nu (S:Aa) (id n:Nat) (P:List (Nat × Nat)) (xs:Nat→AV):Prop where
 lt:id<S.n
 obj:S.obj id=some (.cells 26 (CI n fun k=>[xs k]) true)
 own:∀ k,k<n→A4 (id+1) S (xs k) 3 ((UO P k).map fun i=>[aI i])
 apart:∀ k k',k<n→k'<n→k≠k'→DS (xs k) (xs k')
theorem Nu.add{S:Aa}{id n:Nat}{P:List (Nat × Nat)}{xs:Nat→AV}(h:Nu S id n P xs){k i:Nat}(hk:k<n){S1 S2:Aa}{x:AV}(ho:A4 (id+1) S1 x 3 ((UO P k).map (fun i=>[aI i]) ++ [[aI i]]))(hb:But S S1 (xs k))(hx:∃ m,x = .s S.n 0 m)
    (n2:S2.n=S1.n) (o2:S2.obj id=some (.cells 26 ((CI n fun k=>[xs k]).set (0+k) [x]) true)) (f2:∀ y,y≠id→S2.obj y=S1.obj y):Nu S2 id n (P ++ [(k,i)]) (fun j=>if j=k then x else xs j) where
 lt:=by have:=h.lt;have:=hb.1;omega
 obj:=by
  rw[o2,AiG,Ft]
  congr 2
  refine BX fun j hj=>?_
  split<;>rfl
 own j hj:=by
  have hsame:∀{y:AV} {es:List (List AV)},A4 (id+1) S1 y 3 es→A4 (id+1) S2 y 3 es:=fun h=>h.same (by omega) (fun q h1 h2=>f2 q (by omega))
  rw[lD]
  by_cases e:j=k
  ·subst e
   rw[if_pos rfl,if_pos rfl,AiB]
   exact hsame ho
  ·rw[if_neg e,if_neg (Ne.symm e)]
   exact hsame ((h.own j hj).P7 hb (h.apart k j hk hj (Ne.symm e)))
 apart j j' hj hj' hne:=by
  obtain⟨m,rfl⟩:=hx
  have hlt:∀ q,q<n→∀ i b m,xs q = .s i b m→i<S.n:=by
   intro q hq i b m e
   rcases h.own q hq with⟨h1,_⟩|⟨id',h1,h2,h3,h4⟩
   ·rw[h1]at e;cases e
   ·rw[h1]at e;cases e;exact h3
  intro i b m1 b' m' e1 e2
  by_cases ej:j=k
  ·by_cases ej':j'=k
   ·omega
   ·simp only[ej,if_pos,if_neg ej']at e1 e2
    cases e1
    have:=hlt j' hj' _ _ _ e2
    omega
  ·by_cases ej':j'=k
   ·simp only[ej',if_pos,if_neg ej]at e1 e2
    cases e2
    have:=hlt j hj _ _ _ e1
    omega
   ·simp only[if_neg ej,if_neg ej']at e1 e2
    exact h.apart j j' hj hj' hne _ _ _ _ _ e1 e2
theorem Nu.cv{S:Aa}{id n:Nat}{P:List (Nat × Nat)}{xs:Nat→AV}(h:Nu S id n P xs){m:Nat}(hm:m≤id):Cv (S.Bx (AK m)) m (.s id 0 n) (aL (aL aI) (CI n (UO P))):=by
 have ho:A4 m S (.s id 0 (CI n fun k=>[xs k]).length) 26 (CI n fun k=>[xs k]):=.inr ⟨id,rfl,hm,h.lt,h.obj⟩
 rw[OK]at ho
 refine ho.cv rfl (by simp) fun i c c2 hc hc2=>?_
 have hi:i<n:=by
  have:=(List.getElem?_eq_some_iff.1 hc).1
  simpa using this
 rw[BR hi]at hc
 rw[ED,BR hi]at hc2
 cases hc
 cases hc2
 refine⟨rfl,fun k u u2 hk hk2=>?_⟩
 cases k with
 |zero =>
  cases hk
  cases hk2
  exact A4.oC (f:=fun i:Int=>.int .i64 i) ((h.own i hi).low (by omega))
 |succ k=>simp at hk
theorem zQ{s:Sp}{p:List Bool}(hf:Fit s p):BH Pg 184 [s.av] (aL (aL aI) (No s)):=by
 intro S
 refine Ad.tree (cL ?_)
 have hs:=hf.small
 obtain⟨⟨hs1,hs2,hs3,hs4⟩,hn,hl,_,hb⟩:=hf
 dsimp only[AcX,Lf];unfold Sp.av
 refine Ai rfl fun S1 k1 n1 o1=>?_
 rw[Ac,Af o1 rfl rfl,Ay]
 refine Ll (by omega) (by omega) fun S2 k2 n2 o2=>?_
 have p1:=(k2.2 S.n (by omega)).trans o1
 rw[Ac,Af p1 rfl rfl,Ay]
 refine WA (fun y S'=>Am S S'∧S'.obj S.n=some (.cells 45 [s.cells] true)∧∃ i:Nat,y=aI i∧i≤s.next.length∧∃ xs,Nu S' S1.n s.next.length (Fy s i) xs)
  (fun y _=>s.next.length - ((Aw y).getD 0).toNat) ⟨k1.trans k2,p1,0,rfl,Ai9 _,fun _=>.nl,⟨by omega,by rw[o2,OJ],fun k hk=>.nl _ _ _,fun k k' _ _ _ i b m b' m' e=>by cases e⟩⟩ ?_
 dsimp only[BS]
 rintro _ S3 ⟨k3,q3,i,rfl,hi,xs,hR⟩ KE hKE
 dsimp only[gE,Fi]
 rw[As,Ag]
 refine Al (fun h=>?_) (fun h=>?_)
 ·have hlt:i<s.next.length:=by simpa using h
  have hv:i<s.valid.length:=by omega
  have hrow:(nx s i).length<1048576:=YF hs i
  rw[AM hlt,A3,Ay,←ES hlt]
  refine Wz (fun y S'=>Am S S'∧S'.obj S.n=some (.cells 45 [s.cells] true)∧∃ j:Nat,y=aI j∧j≤(nx s i).length∧∃ xs,Nu S' S1.n s.next.length (Fy s i++(IK s i).take j) xs)
   (fun y _=>(nx s i).length - ((Aw y).getD 0).toNat) ⟨k3,q3,0,rfl,Ai9 _,xs,by simpa using hR⟩ ?_
  dsimp only[BS]
  rintro _ S4 ⟨k4,q4,j,rfl,hj,ys,hR4⟩ KE1 hKE1
  dsimp only[gD,Fi,Lf]
  rw[As,Ag]
  refine Al (fun h=>?_) (fun h=>?_)
  ·have hjl:j<(nx s i).length:=by simpa using h
   rw[AM hjl,A3,Ac,Af q4 rfl rfl,AM hv,A3,Ag]
   have hadd:∀ K:AV→Aa→Prop,∀ S,bin .add 0 (.v (.int .i64 (j:Int))) (.v (.int .i64 1)) S K=K (aI (j+1:Nat)) S:=fun K S=>Ar (by omega) (by omega) 0
   have hμ:(nx s i).length - ((Aw (aI (j+1:Nat))).getD 0).toNat<(nx s i).length - ((Aw (aI j)).getD 0).toNat:=by simp[Aw];omega
   refine Al (fun hvi=>?_) (fun hvi=>?_)
   ·have hkb:=hb i _ (Ai6 hjl)
    obtain⟨k,hk⟩:=AiE hkb.1
    have hkn:k<s.next.length:=by rw[hk]at hkb;omega
    have hrp:(IK s i).take (j+1)=(IK s i).take j ++ [(k,i)]:=by
     have hlen:j<(IK s i).length:=by simp[IK,Bc hv,hvi,hjl]
     rw[AiR,Ai3 hlen]
     have:(IK s i)[j]=(k,i):=by
      have:(IK s i)=(nx s i).map fun k=>(k.toNat,i):=by simp[IK,Bc hv,hvi]
      simp[this,hk]
     rw[this];rfl
    rw[hk,Cl hkn hR4.obj,Af hR4.obj (by rw[AiG];exact BR hkn) rfl]
    refine BQ rfl (fun _ h=>by cases h) ?_
    have hsl:=UN (Fy s i++(IK s i).take j) k
    have hpl:=KH hs i
    have hrl:=Mn s i
    refine(hR4.own k hkn).app (b:=8) (c:=[aI i]) (y:=.l [[aI i]]) (by have:=hR4.lt;omega) rfl (by simp at hsl ⊢;omega) (fun x S5 ho5 hb5 hx5=>?_) rfl
    have o5:S5.obj S1.n=some (.cells 26 (CI s.next.length fun k=>[ys k]) true):=by
     rw[hb5.2 S1.n hR4.lt (fun b m e=>?_)]
     ·exact hR4.obj
     ·rcases hR4.own k hkn with⟨h1,_⟩|⟨id',h1,h2,h3,h4⟩
      ·rw[h1]at e;cases e
      ·rw[h1]at e;cases e;omega
    have q5:S5.obj S.n=some (.cells 45 [s.cells] true):=by
     rw[hb5.2 S.n (by have:=hR4.lt;omega) (fun b m e=>?_)]
     ·exact q4
     ·rcases hR4.own k hkn with⟨h1,_⟩|⟨id',h1,h2,h3,h4⟩
      ·rw[h1]at e;cases e
      ·rw[h1]at e;cases e;omega
    have k5:Am S S5:=(hR4.own k hkn).AS (S0:=S) (by omega) hb5 k4
    rw[Cl hkn o5]
    obtain⟨m5,hm5⟩:=hx5
    refine Cc o5 (by rw[AiG];exact BR hkn) (by rw[hm5];rfl) fun S6 n6 o6 f6=>?_
    rw[hadd]
    refine hKE1 _ _ ⟨k5.st (by omega) n6 f6,(f6 _ (by omega)).trans q5,j+1,rfl,hjl,fun q=>if q=k then x else ys q,?_⟩ hμ
    rw[hrp,←List.append_assoc]
    exact hR4.add hkn ho5 hb5 ⟨m5,hm5⟩ n6 o6 f6
   ·rw[hadd]
    refine hKE1 _ _ ⟨k4,q4,j+1,rfl,hjl,ys,?_⟩ hμ
    have:IK s i = []:=by simp[IK,Bc hv,hvi]
    rw[this]at hR4 ⊢
    simpa using hR4
  ·have hge:j=(nx s i).length:=by simp at h;omega
   subst hge
   rw[Ar (by omega) (by omega)]
   refine hKE _ _ ⟨k4,q4,i+1,rfl,hlt,ys,?_⟩ (by simp[Aw];omega)
   rw[AiV (Mn s i)]at hR4
   exact hR4
 ·have hge:i=s.next.length:=by simp at h;omega
  subst hge
  refine⟨_,rfl,k3,hR.cv (by omega)⟩
inductive Reach (s:Sp) (p q:List Bool):Nat→Prop
 |base (i:Nat) (h1:bit q i=true) (h2:bit s.valid i=true):Reach s p q i
 |step (i k:Nat) (h1:bit p i=true) (h2:bit s.valid i=true) (h3:(k:Int)∈nx s i) (h:Reach s p q k):Reach s p q i
open Classical in
def IZ (s:Sp) (p q:List Bool):List Bool:=CI q.length fun i=>decide (Reach s p q i)
theorem MD:∀(n:Nat) (l:List Nat),l.Nodup→(∀ x∈l,x<n)→l.length≤n
 |0,l,_,h=>by
  cases l with
  |nil=>simp
  |cons x l=>exact absurd (h x (by simp)) (AiF _)
 |n+1,l,hd,h=>by
  have h1:=MD n (l.erase n) (hd.erase n) (fun x hx=>by
   have:=(hd.mem_erase_iff).1 hx
   have:=h x this.2
   omega)
  by_cases hm:n∈l
  ·have:=List.length_erase_of_mem hm
   omega
  ·rw[List.erase_of_not_mem hm]at h1
   omega
theorem Zd{s:Sp}{i c j:Nat}:(c,j)∈IK s i↔j=i∧bit s.valid i=true∧∃ k∈nx s i,k.toNat=c:=by
 unfold IK
 split
 ·rename_i h
  simp only[AiL,Prod.mk.injEq,h,true_and]
  constructor
  ·rintro⟨k,h1,h2,h3⟩;exact⟨h3.symm,k,h1,h2⟩
  ·rintro⟨h3,k,h1,h2⟩;exact⟨k,h1,h2,h3.symm⟩
 ·rename_i h
  simp[h]
theorem KR{s:Sp}{c j:Nat}:∀{i:Nat},(c,j)∈Fy s i↔j<i∧bit s.valid j=true∧∃ k∈nx s j,k.toNat=c
 |0=>by simp[Fy]
 |i+1=>by
  rw[Fy,AiQ,KR,Zd]
  constructor
  ·rintro(⟨h1,h2⟩|⟨rfl,h2⟩)
   ·exact⟨by omega,h2⟩
   ·exact⟨by omega,h2⟩
  ·rintro⟨h1,h2⟩
   by_cases e:j=i
   ·subst e;exact .inr ⟨rfl,h2⟩
   ·exact .inl ⟨by omega,h2⟩
theorem U2{P:List (Nat × Nat)}{c:Nat}{x:Int}:x∈UO P c↔∃ j:Nat,x=j∧(c,j)∈P:=by
 simp only[UO,AiL,List.mem_filter,beq_iff_eq]
 constructor
 ·rintro⟨⟨a,b⟩,⟨h1,rfl⟩,h3⟩;exact⟨b,h3.symm,h1⟩
 ·rintro⟨j,rfl,h⟩;exact⟨(c,j),⟨h,rfl⟩,rfl⟩
structure Found (s:Sp) (p q:List Bool) (n:Nat) (out:Nat→Bool) (come:List Nat):Prop where
 nodup:come.Nodup
 lt:∀ x∈come,x<n
 out:∀ i,i<n→(out i=true↔i∈come)
 reach:∀ x∈come,Reach s p q x
 base:∀ i,i<n→bit q i=true→bit s.valid i=true→i∈come
def XO(s:Sp)(p:List Bool)(come:List Nat)(c:Nat):Prop:=∀ i,i<s.next.length→bit s.valid i=true→(c:Int)∈nx s i→bit p i=true→i∈come
theorem Found.len{s:Sp}{p q:List Bool}{n:Nat}{out:Nat→Bool}{come:List Nat}(h:Found s p q n out come):come.length≤n:=MD n come h.nodup h.lt
theorem Found.add{s:Sp}{p q:List Bool}{n:Nat}{out:Nat→Bool}{come:List Nat}(h:Found s p q n out come){i:Nat}(hi:i<n)(ho:out i=false)(hr:Reach s p q i):Found s p q n (fun k=>if k=i then true else out k) (come ++ [i]) where
 nodup:=by
  rw[AjI]
  refine⟨h.nodup,by simp,fun a ha b hb=>?_⟩
  simp only[AiA]at hb
  subst hb
  rintro rfl
  rw[(h.out _ hi).2 ha]at ho
  cases ho
 lt x hx:=by
  rcases AiQ.1 hx with hx|hx
  ·exact h.lt x hx
  ·simp only[AiA]at hx;omega
 out k hk:=by
  by_cases e:k=i
  ·subst e;simp
  ·simp[e,h.out k hk]
 reach x hx:=by
  rcases AiQ.1 hx with hx|hx
  ·exact h.reach x hx
  ·simp only[AiA]at hx;subst hx;exact hr
 base k hk h1 h2:=Aj6 _ (h.base k hk h1 h2)
theorem XO.more{s:Sp}{p:List Bool}{come:List Nat}{c:Nat}(h:XO s p come c)(x:Nat):XO s p (come ++ [x]) c:=fun i h1 h2 h3 h4=>Aj6 _ (h i h1 h2 h3 h4)
theorem Found.done{s:Sp}{p q:List Bool}{n:Nat}{out:Nat→Bool}{come:List Nat}(h:Found s p q n out come)(hn:s.valid.length=n)(hn':s.next.length=n)(hs:∀ c∈come,XO s p come c){i:Nat}(hi:i<n):out i=true↔Reach s p q i:=by
 rw[h.out i hi]
 refine⟨h.reach i,fun hr=>?_⟩
 clear hi
 have hlt:∀ i,bit s.valid i=true→i<n:=by
  intro i hb
  rcases AiS i n with h|h
  ·exact h
  ·rw[bit,Ai2,AiZ (by omega)]at hb
   cases hb
 induction hr with
 |base i h1 h2=>exact h.base i (hlt i h2) h1 h2
 |step i k h1 h2 h3 hr ih=>exact hs k ih i (by have:=hlt i h2;omega) h2 h3 h1
theorem Yv{s:Sp}{p q:List Bool}(hfp:Fit s p)(hfq:Fit s q):Nw 162 [s.av,aL aB p,aL aB q] (IZ s p q):=by
 intro S
 refine dG ?_
 obtain⟨⟨hs1,hs2,hs3,hs4⟩,hn,hl,_,hb⟩:=hfq
 have hlp:=hfp.len
 dsimp only[AdH,Lf];unfold Sp.av
 refine Ai rfl fun S1 k1 n1 o1=>?_
 rw[Ac,Af o1 rfl rfl]
 refine Nw.call (Mz q s.valid (by omega) (by omega)) fun x S2 k2 w2=>?_
 have hlen:∀ f:Nat→Bool,((CI q.length f).map fun b=>[aB b])=CI q.length fun i=>[aB (f i)]:=fun f=>ED
 rw[Bm,hlen]at w2
 rw[w2.len,OK]
 have p2:=(k2.2 S.n (by omega)).trans o1
 replace w2:A4 S1.n S2 x 4 (CI q.length fun k=>[aB ((fun i=>bit q i && bit s.valid i) k)]):=w2
 generalize ho0:(fun i=>bit q i && bit s.valid i)=o0 at *
 refine WK (fun y z S'=>Am S S'∧S'.obj S.n=some (.cells 45 [s.cells] true)∧∃ i:Nat,z=aI i∧i≤q.length∧A4 S1.n S' x 4 (CI q.length fun k=>[aB (o0 k)])∧
     A4 S1.n S' y 3 (((List.range i).filter o0).map fun i:Nat=>[aI i])∧DS y x)
  (fun _ y _=>q.length - ((Aw y).getD 0).toNat) ⟨k1.trans k2,p2,0,rfl,Ai9 _,w2,.nl _ _ _,fun i b m b' m' e=>by cases e⟩ ?_
 dsimp only[DE]
 rintro y _ S3 ⟨k3,q3,i,rfl,hi,wx,wy,hap⟩ KE hKE
 dsimp only[gM,Fi]
 rw[As,Ag]
 refine Al (fun h=>?_) (fun h=>?_)
 ·have hlt:i<q.length:=by simpa using h
  obtain⟨id,rfl,hid,hid2,qx⟩:=A4.ix wx (i:=i) (by simpa using hlt)
  rw[Cl (by simpa using hlt) qx,Af qx (by rw[AiG];exact BR hlt) rfl,Ag]
  have hadd:∀ K:AV→Aa→Prop,∀ S,bin .add 0 (.v (.int .i64 (i:Int))) (.v (.int .i64 1)) S K=K (aI (i+1:Nat)) S:=fun K S=>Ar (by omega) (by omega) 0
  have hμ:q.length - ((Aw (aI (i+1:Nat))).getD 0).toNat<q.length - ((Aw (aI i)).getD 0).toNat:=by simp[Aw];omega
  refine Al (fun hoi=>?_) (fun hoi=>?_)
  ·refine BQ rfl (fun _ h=>by cases h) ?_
   have hfl:=List.length_filter_le o0 (List.range i)
   refine wy.app (b:=8) (c:=[aI i]) (y:=.l [[aI i]]) (by omega) rfl (by simp at hfl ⊢;omega) (fun x' S5 ho5 hb5 hx5=>?_) rfl
   rw[hadd]
   obtain⟨m5,rfl⟩:=hx5
   refine hKE _ _ _ ⟨wy.AS (by omega) hb5 k3,?_,i+1,rfl,hlt,wx.P7 hb5 hap,?_,?_⟩ hμ
   ·rw[hb5.2 S.n (by have:=k3.1;omega) (fun b m e=>by have:=wy.lt e;omega)]
    exact q3
   ·rw[AiP,AjE]
    simpa[hoi]using ho5
   ·intro a b m b' m' e1 e2
    cases e1
    cases e2
    omega
  ·rw[hadd]
   refine hKE _ _ _ ⟨k3,q3,i+1,rfl,hlt,wx,?_,hap⟩ hμ
   rw[AiP,AjE]
   simpa[hoi]using wy
 ·have hge:i=q.length:=by simp at h;omega
  subst hge
  rw[An (n:=5) q3 rfl]
  refine Ae (zQ hfp) ?_
  have hF0:Found s p q q.length o0 ((List.range q.length).filter o0):=by
   refine⟨List.nodup_range.filter _,fun x hx=>?_,fun i hi=>by simp[hi],fun x hx=>?_,fun i hi h1 h2=>?_⟩
   ·simpa using(List.mem_filter.1 hx).1
   ·have:=(List.mem_filter.1 hx).2
    rw[←ho0]at this
    simp only[Ai5]at this
    exact .base x this.1 this.2
   ·rw[List.mem_filter,←ho0]
    simp[hi,h1,h2]
  refine WI (fun y z S'=>Am S S'∧∃(m:Nat) (out:Nat→Bool) (come:List Nat),z=aI m∧m≤come.length∧A4 S1.n S' x 4 (CI q.length fun k=>[aB (out k)])∧
      A4 S1.n S' y 3 (come.map fun i:Nat=>[aI i])∧DS y x∧Found s p q q.length out come∧∀ m' c,m'<m→come[m']? = some c→XO s p come c)
   (fun _ z _=>q.length - ((Aw z).getD 0).toNat) ⟨k3,0,o0,_,rfl,Ai9 _,wx,wy,hap,hF0,fun m' c h=>absurd h (AiF _)⟩ ?_
  clear KE hKE hF0 hap wy wx hi q3 k3 h y S3
  rintro y _ S3 ⟨k3,m,out,come,rfl,hm,wx,wy,hap,hF,hsh⟩ KE hKE
  dsimp only[gL,Fi]
  rw[wy.len,As,Ag]
  have hcl:=hF.len
  refine Al (fun h=>?_) (fun h=>?_)
  ·have hlt:m<come.length:=by simpa using h
   obtain⟨id,rfl,hid,hid2,qy⟩:=A4.ix wy (i:=m) (by simpa using hlt)
   obtain⟨c,hc⟩:∃ c,come[m]? = some c:=⟨_,Ai3 hlt⟩
   have hcn:=hF.lt c (AjB hc)
   have hcA:c<(No s).length:=by simp[No];omega
   rw[Cl (by simpa using hlt) qy,Af qy (c:=[aI c]) (u:=aI c) (by simp[hc]) rfl,AM hcA,A3,Ay]
   generalize hL:(No s)[c]=L
   have hLc:L=UO (Fy s s.next.length) c:=by rw[←hL];simp[No,CI]
   have hLl:L.length≤9223372036854775807:=by
    have h1:=UN (Fy s s.next.length) c
    have h2:=KH hfp.small s.next.length
    rw[hLc]
    omega
   refine WH (fun y z S'=>Am S S'∧∃(j:Nat) (out:Nat→Bool) (come:List Nat),z=aI j∧j≤L.length∧m<come.length∧come[m]? = some c∧A4 S1.n S' x 4 (CI q.length fun k=>[aB (out k)])∧
       A4 S1.n S' y 3 (come.map fun i:Nat=>[aI i])∧DS y x∧Found s p q q.length out come∧(∀ m' c,m'<m→come[m']? = some c→XO s p come c)∧∀(j' i:Nat),j'<j→L[j']? = some (i:Int)→bit p i=true→i∈come)
    (fun _ z _=>L.length - ((Aw z).getD 0).toNat) ⟨k3,0,out,come,rfl,Ai9 _,hlt,hc,wx,wy,hap,hF,hsh,fun j' i h=>absurd h (AiF _)⟩ ?_
   clear hsh hF hap wy wx hm k3 h hcl qy hid hid2 hlt hc
   rintro y _ S4 ⟨k4,j,out,come,rfl,hj,hlt,hc,wx,wy,hap,hF,hsh,hjs⟩ KE2 hKE2
   dsimp only[gK,Fi]
   rw[As,Ag]
   have hcl:=hF.len
   refine Al (fun h=>?_) (fun h=>?_)
   ·have hjl:j<L.length:=by simpa using h
    have hmem:L[j]∈UO (Fy s s.next.length) c:=by rw[←hLc];exact Ai6 hjl
    obtain⟨i,hi,hpr⟩:=U2.1 hmem
    obtain⟨hin,hiv,k,hk,hkc⟩:=KR.1 hpr
    have hin':i<q.length:=by omega
    have hip:i<p.length:=by omega
    have hck:(c:Int)∈nx s i:=by
     have:=(hb i k hk).1
     rw[←hkc,Int.toNat_of_nonneg this];exact hk
    have hadd:∀ K:AV→Aa→Prop,∀ S,bin .add 0 (.v (.int .i64 (j:Int))) (.v (.int .i64 1)) S K=K (aI (j+1:Nat)) S:=fun K S=>Ar (by omega) (by omega) 0
    have hμ:L.length - ((Aw (aI (j+1:Nat))).getD 0).toNat<L.length - ((Aw (aI j)).getD 0).toNat:=by simp[Aw];omega
    obtain⟨id,rfl,hid,hid2,qx⟩:=A4.ix wx (i:=i) (by simpa using hin')
    have hjs':(bit p i=true→i∈come)→∀(j' i:Nat),j'<j+1→L[j']? = some (i:Int)→bit p i=true→i∈come:=by
     intro hh j' i' h1 h2 h3
     by_cases e:j'=j
     ·subst e
      rw[Ai3 hjl,hi]at h2
      have:i=i':=by simpa[Int.ofNat_inj]using h2
      subst this
      exact hh h3
     ·exact hjs j' i' (by omega) h2 h3
    rw[AM hjl,A3,hi,Cl (by simpa using hin') qx,Af qx (by rw[AiG];exact BR hin') rfl,AI,Ag]
    refine Al (fun hoi=>?_) (fun hoi=>?_)
    ·have hoi:out i=false:=by simpa using hoi
     rw[AM hip,A3,Ag]
     refine Al (fun hpi=>?_) (fun hpi=>?_)
     ·rw[←Bc hip]at hpi
      rw[Cl (by simpa using hin') qx]
      refine Cc qx (by rw[AiG];exact BR hin') rfl fun S5 n5 o5 f5=>?_
      refine BQ rfl (fun _ h=>by cases h) ?_
      have wy5:=wy.st (S':=S5) (id:=id) (fun b m e=>hap _ _ _ _ _ e rfl) n5 f5
      refine wy5.app (b:=8) (c:=[aI i]) (y:=.l [[aI i]]) (by omega) rfl (by simp;omega) (fun x' S6 ho6 hb6 hx6=>?_) rfl
      rw[hadd]
      obtain⟨m6,rfl⟩:=hx6
      have wx5:A4 S1.n S5 (.s id 0 (CI q.length fun k=>[aB (out k)]).length) 4 (CI q.length fun k=>[aB (if k=i then true else out k)]):=by
       refine .inr ⟨id,by simp,hid,by omega,?_⟩
       rw[o5,AiG,Ft]
       congr 2
       refine BX fun k hk=>?_
       split<;>rfl
      have hr:Reach s p q i:=.step i c hpi hiv hck (hF.reach c (AjB hc))
      have hget:∀{m' c':Nat},m'<come.length→(come ++ [i])[m']? = some c'→come[m']? = some c':=fun h1 h2=>by rwa [List.getElem?_append_left h1]at h2
      refine hKE2 _ _ _ ⟨wy5.AS (by omega) hb6 (k4.st (by omega) n5 f5),j+1,_,come ++ [i],rfl,hjl,by simp;omega,by rw[List.getElem?_append_left hlt];exact hc,wx5.P7 hb6 hap,by simpa using ho6,?_,hF.add hin' hoi hr,?_,?_⟩ hμ
      ·intro a b m b' m' e1 e2
       cases e1
       cases e2
       omega
      ·intro m' c' h1 h2
       exact(hsh m' c' h1 (hget (by omega) h2)).more i
      ·intro j' i' h1 h2 h3
       by_cases e:j'=j
       ·subst e
        rw[Ai3 hjl,hi]at h2
        have:i=i':=by simpa[Int.ofNat_inj]using h2
        subst this
        simp
       ·exact Aj6 _ (hjs j' i' (by omega) h2 h3)
     ·rw[←Bc hip]at hpi
      rw[hadd]
      exact hKE2 _ _ _ ⟨k4,j+1,out,come,rfl,hjl,hlt,hc,wx,wy,hap,hF,hsh,hjs' (fun h=>by rw[hpi]at h;cases h)⟩ hμ
    ·have hoi:out i=true:=by simpa using hoi
     rw[hadd]
     exact hKE2 _ _ _ ⟨k4,j+1,out,come,rfl,hjl,hlt,hc,wx,wy,hap,hF,hsh,hjs' (fun h=>(hF.out i hin').1 hoi)⟩ hμ
   ·have hge:j=L.length:=by simp at h;omega
    subst hge
    rw[Ar (by omega) (by omega)]
    refine hKE _ _ _ ⟨k4,m+1,out,come,rfl,hlt,wx,wy,hap,hF,?_⟩ (by simp[Aw];omega)
    intro m' c' h1 h2
    by_cases e:m'=m
    ·subst e
     rw[hc]at h2
     cases h2
     intro i h3 h4 h5 h6
     have:(i:Int)∈L:=by
      rw[hLc]
      exact U2.2 ⟨i,rfl,KR.2 ⟨h3,h4,c,h5,by simp⟩⟩
     obtain⟨j',hj',e⟩:=List.mem_iff_getElem.1 this
     exact hjs j' i hj' (by rw[Ai3 hj',e]) h6
    ·exact hsh m' c' (by omega) h2
  ·have hge:m=come.length:=by simp at h;omega
   subst hge
   refine⟨_,rfl,k3,?_⟩
   have e:((IZ s p q).map fun b=>[aB b])=CI q.length fun k=>[aB (out k)]:=by
    rw[IZ,ED]
    refine BX fun i hi=>?_
    have hd:=hF.done (by omega) (by omega) (fun c hc=>by
     obtain⟨m',hm',rfl⟩:=List.mem_iff_getElem.1 hc
     exact hsh m' _ hm' (Ai3 hm')) hi
    congr 2
    cases ho:out i with
    |true=>simpa using hd.1 ho
    |false=>simpa using fun hr=>by rw[hd.2 hr]at ho;cases ho
   rw[e]
   exact wx.low (by omega)
theorem zP(b:Bool){l:List Bool}(hl:l.length≤9223372036854775807):BH Pg 188 [aL aB l,aB b] (aI (idxOf (l.findIdx? (b == ·)))):=by
 intro S
 refine cI ?_
 unfold AcU
 rw[Ay]
 refine Ww (fun y S'=>S'=S∧∃ i:Nat,y=aI i∧i≤l.length∧∀ k (hk:k<l.length),k<i→(b == l[k])=false) (fun y _=>l.length - ((Aw y).getD 0).toNat) ⟨rfl,0,rfl,Ai9 _,fun k _ h=>absurd h (AiF _)⟩ ?_
 dsimp only[BS]
 rintro _ _ ⟨rfl,i,rfl,hi,hk⟩ KE hKE
 dsimp only[gB,Fi]
 rw[As,Ag]
 refine Al (fun h=>?_) (fun h=>?_)
 ·have hlt:i<l.length:=by simpa using h
  rw[AM hlt,A3,HZ,Ag]
  refine Al (fun hg=>⟨?_,rfl⟩) (fun hg=>?_)
  ·rw[JS (g:=(b == ·)) hlt hg (fun k hk'=>hk k _ hk')];rfl
  ·rw[Ar (by omega) (by omega)]
   refine hKE _ _ ⟨rfl,i+1,rfl,hlt,fun k hk1 hk2=>?_⟩ ?_
   ·by_cases e:k=i
    ·subst e;exact hg
    ·exact hk k hk1 (by omega)
   ·simp[Aw];omega
 ·have hge:i=l.length:=by simp at h;omega
  subst hge
  rw[Gc (g:=(b == ·)) (fun k hk'=>hk k hk' hk')]
  exact⟨rfl,rfl⟩
theorem zW(b:Bool){l:List Bool}(hl:l.length≤9223372036854775807):BH Pg 169 [aL aB l,aB b] (aB (l.any (b == ·))):=by
 intro S
 refine cZ ?_
 unfold AdB
 refine Ae (zP b hl) ?_
 rw[BA,JP]
 exact⟨rfl,rfl⟩
theorem zV{a b:List Bool}(hl:a.length≤9223372036854775807):BH Pg 170 [aL aB a,aL aB b] (aB (decide (a=b))):=by
 intro S
 refine cY ?_
 dsimp only[AdA,Fi]
 rw[Ay,Ay,Bi,Ag]
 refine Al (fun h=>⟨?_,rfl⟩) (fun h=>?_)
 ·have:¬ a=b:=fun e=>by subst e;simp at h
  simp[this]
 have hab:a.length=b.length:=by simp at h;omega
 rw[Ay]
 refine WD (fun y S'=>S'=S∧∃ i:Nat,y=aI i∧i≤a.length∧∀ k,k<i→a[k]? = b[k]?) (fun y _=>a.length - ((Aw y).getD 0).toNat) ⟨rfl,0,rfl,Ai9 _,fun k h=>absurd h (AiF _)⟩ ?_
 dsimp only[BS]
 rintro _ _ ⟨rfl,i,rfl,hi,hk⟩ KE hKE
 dsimp only[gH,Fi,Lq]
 rw[As,Ag]
 refine Al (fun h=>?_) (fun h=>?_)
 ·have hlt:i<a.length:=by simpa using h
  have hlt':i<b.length:=by omega
  refine⟨_,by rw[AM hlt];exact⟨rfl,rfl⟩,_,by rw[A3];exact⟨rfl,rfl⟩,_,by rw[AM hlt'];exact⟨rfl,rfl⟩,_,by rw[A3];exact⟨rfl,rfl⟩,_,by rw[CV];exact⟨rfl,rfl⟩,?_⟩
  rw[Ag]
  refine Al (fun hg=>⟨?_,rfl⟩) (fun hg=>?_)
  ·have:¬ a=b:=fun e=>by subst e;simp at hg
   simp[this]
  ·rw[Ar (by omega) (by omega)]
   refine hKE _ _ ⟨rfl,i+1,rfl,hlt,fun k hk2=>?_⟩ ?_
   ·by_cases e:k=i
    ·subst e
     rw[Ai3 hlt,Ai3 hlt']
     simpa using hg
    ·exact hk k (by omega)
   ·simp[Aw];omega
 ·have hge:i=a.length:=by simp at h;omega
  subst hge
  have:a=b:=by
   apply List.ext_getElem?
   intro k
   by_cases hk':k<a.length
   ·exact hk k hk'
   ·rw[AiZ (by omega),AiZ (by omega)]
  exact⟨by simp[this],rfl⟩
theorem FU{p:List Bool}{i:Nat}(h:p.length≤i):bit p i=false:=by simp[bit,Ai2,h]
theorem Cj{p:List Bool}{i:Nat}(h:bit p i=true):i<p.length:=by
 rcases AiS i p.length with h'|h'
 ·exact h'
 ·rw[FU h']at h;cases h
theorem C2{n:Nat}{f:Nat→Bool}{i:Nat}(h:i<n):bit (CI n f) i=f i:=by rw[bit,Ai2,BR h];rfl
theorem Bj(a b:List Bool)(i:Nat):bit (Bm a b) i=(bit a i && bit b i):=by
 rcases AiS i a.length with h|h
 ·rw[Bm,C2 h]
 ·rw[FU (by simpa[Bm]using h),FU h];rfl
@[simp] theorem DP(a b:List Bool):(Bm a b).length=a.length:=by simp[Bm]
@[simp] theorem Ah6(s:Sp)(p:List Bool):(NC s p).length=p.length:=by simp[NC]
@[simp] theorem P0(s:Sp)(p q:List Bool):(IZ s p q).length=q.length:=by simp[IZ]
theorem K3{s:Sp}{p:List Bool}{i:Nat}:bit (NC s p) i=true↔i<p.length∧bit s.valid i=true∧∃ k∈nx s i,bit p k.toNat=true:=by
 constructor
 ·intro h
  have hi:i<p.length:=by simpa using Cj h
  rw[NC,C2 hi]at h
  simpa[hi]using h
 ·rintro⟨hi,h⟩
  rw[NC,C2 hi]
  simpa using h
theorem D7{s:Sp}{p q:List Bool}{i:Nat}:bit (IZ s p q) i=true↔i<q.length∧Reach s p q i:=by
 constructor
 ·intro h
  have hi:i<q.length:=by simpa using Cj h
  rw[IZ,C2 hi]at h
  exact⟨hi,by simpa using h⟩
 ·rintro⟨hi,h⟩
  rw[IZ,C2 hi]
  simpa using h
def Sub(a b:List Bool):Prop:=∀ i,bit a i=true→bit b i=true
theorem Sub.refl(a:List Bool):Sub a a:=fun _ h=>h
theorem Sub.trans{a b c:List Bool}(h:Sub a b)(k:Sub b c):Sub a c:=fun i hi=>k i (h i hi)
theorem Reach.mono{s:Sp}{p q p' q':List Bool}(hp:Sub p p')(hq:Sub q q'){i:Nat}(h:Reach s p q i):Reach s p' q' i:=by
 induction h with
 |base i h1 h2=>exact .base i (hq i h1) h2
 |step i k h1 h2 h3 h ih=>exact .step i k (hp i h1) h2 h3 ih
theorem bP{s:Sp}{p p':List Bool}(h:Sub p p')(hl:p.length≤p'.length):Sub (NC s p) (NC s p'):=by
 intro i hi
 rw[K3]at hi ⊢
 obtain⟨h1,h2,k,h3,h4⟩:=hi
 exact⟨by omega,h2,k,h3,h _ h4⟩
theorem bR{s:Sp}{p q p' q':List Bool}(hp:Sub p p')(hq:Sub q q')(hl:q.length≤q'.length):Sub (IZ s p q) (IZ s p' q'):=by
 intro i hi
 rw[D7]at hi ⊢
 exact⟨by omega,hi.2.mono hp hq⟩
theorem OE{a b a' b':List Bool}(ha:Sub a a')(hb:Sub b b'):Sub (Bm a b) (Bm a' b'):=by
 intro i hi
 rw[Bj,Ai5]at hi ⊢
 exact⟨ha i hi.1,hb i hi.2⟩
theorem PZ{a b:List Bool}(hl:a.length=b.length)(h:∀ i,bit a i=bit b i):a=b:=by
 rw[LI a,LI b,hl]
 exact BX fun i _=>h i
theorem Sub.zN{a b:List Bool}(hl:a.length=b.length)(h:Sub a b)(k:Sub b a):a=b:=
 PZ hl fun i=>by
  cases ha:bit a i with
  |true=>exact(h i ha).symm
  |false=>cases hb:bit b i with
   |true=>rw[k i hb]at ha;cases ha
   |false=>rfl
def Ee (s:Sp) (z f:List Bool):List Bool:=Bm z (NC s (IZ s z (Bm z f)))
@[simp] theorem AaJ(s:Sp)(z f:List Bool):(Ee s z f).length=z.length:=by simp[Ee]
theorem NR(s:Sp)(z f:List Bool):Sub (Ee s z f) z:=fun i h=>by
 rw[Ee,Bj,Ai5]at h
 exact h.1
theorem Gy{s:Sp}{z z' f:List Bool}(h:Sub z z')(hl:z.length≤z'.length):Sub (Ee s z f) (Ee s z' f):=
 OE h (bP (bR h (OE h (Sub.refl f)) (by simpa using hl)) (by simpa using hl))
def s6(s:Sp)(fs:List (List Bool))(z:List Bool):Prop:=∀ f∈fs,Sub z (Ee s z f)
def Bs(s:Sp):List (List Bool):=if s.fair.isEmpty then[s.valid]else s.fair
def Ah3(s:Sp)(p:List Bool)(i:Nat):Prop:=∃ z:List Bool,z.length=p.length∧Sub z (Bm p s.valid)∧s6 s (Bs s) z∧bit z i=true
open Classical in
def DW (s:Sp) (p:List Bool):List Bool:=CI p.length fun i=>decide (Ah3 s p i)
@[simp] theorem P2(s:Sp)(p:List Bool):(DW s p).length=p.length:=by simp[DW]
theorem K4{s:Sp}{p:List Bool}{i:Nat}:bit (DW s p) i=true↔Ah3 s p i:=by
 constructor
 ·intro h
  have hi:i<p.length:=by simpa using Cj h
  rw[DW,C2 hi]at h
  simpa using h
 ·intro h
  have hi:i<p.length:=by
   obtain⟨z,hl,hs,_,hz⟩:=h
   rw[←hl];exact Cj hz
  rw[DW,C2 hi]
  simpa using h
def H5(s:Sp)(p z:List Bool):Prop:=∀ y:List Bool,y.length=p.length→Sub y (Bm p s.valid)→s6 s (Bs s) y→Sub y z
theorem Vv{s:Sp}{p z:List Bool}(hl:z.length=p.length)(hs:Sub z (Bm p s.valid))(ha:H5 s p z)(hst:s6 s (Bs s) z):z=DW s p:=by
 refine Sub.zN (by simpa using hl) (fun i hi=>K4.2 ⟨z,hl,hs,hst,hi⟩) (fun i hi=>?_)
 obtain⟨y,h1,h2,h3,h4⟩:=K4.1 hi
 exact ha y h1 h2 h3 i h4
theorem H5.step{s:Sp}{p z f:List Bool}(h:H5 s p z)(hl:z.length=p.length)(hf:f∈Bs s):H5 s p (Ee s z f):=fun y h1 h2 h3 =>
 (h3 f hf).trans (Gy (h y h1 h2 h3) (by omega))
theorem nV{s:Sp}{p z:List Bool}(hl:z.length=p.length)(ha:H5 s p z)(hz:∀ i,bit z i=false):z=DW s p:=
 Vv hl (fun i h=>by rw[hz]at h;cases h) ha (fun f _ i h=>by rw[hz]at h;cases h)
theorem sQ{l:List Bool}(h:l.any (true == ·)=false)(i:Nat):bit l i=false:=by
 cases hb:bit l i with
 |false=>rfl
 |true =>
  have hi:=Cj hb
  rw[Bc hi]at hb
  have:l.any (true == ·)=true:=List.any_eq_true.2 ⟨_,Ai6 hi,by simp[hb]⟩
  rw[this]at h;cases h
def ND(l:List Bool):Nat:=(l.filter id).length
theorem Km:∀{a b:List Bool},a.length=b.length→Sub a b→ND a≤ND b∧(ND a=ND b→a=b)
 |[],[],_,_=>⟨Ai4 _,fun _=>rfl⟩
 |x :: a,y :: b,hl,h=>by
  have ih:=Km (a:=a) (b:=b) (by simpa using hl) (fun i hi=>by have:=h (i+1) (by simpa[bit]using hi);simpa[bit]using this)
  have h0:=h 0
  simp only[bit,List.getD_cons_zero]at h0
  have h1:=ih.1
  cases x<;>cases y<;>simp only[ND,List.filter_cons,id,if_true,if_false,Bool.false_eq_true,List.length_cons]at h1 ih ⊢
  ·exact⟨h1,fun e=>by rw[ih.2 e]⟩
  ·exact⟨by omega,fun e=>by omega⟩
  ·exact absurd (h0 rfl) (by simp)
  ·exact⟨by omega,fun e=>by rw[ih.2 (by omega)]⟩
theorem Fit.with{s:Sp}{p q:List Bool}(h:Fit s p)(hl:q.length=s.valid.length):Fit s q:=⟨h.small,h.next,hl,h.fair,h.behind⟩
theorem N2{s:Sp}{p:List Bool}(h:Fit s p){f:List Bool}(hf:f∈Bs s):f.length=s.valid.length:=by
 unfold Bs at hf
 split at hf
 ·simp only[AiA]at hf;subst hf;rfl
 ·exact h.fair f hf
theorem Oq{s:Sp}(h:s.small):(Bs s).length<1048576:=by
 unfold Bs
 split
 ·simp
 ·exact h.2.2.1
theorem mQ{s:Sp}{p:List Bool}(hf:Fit s p){S S1:Aa}(k1:Am S S1)(o1:S1.obj S.n=some (.cells 45 [s.cells] true)):
    Ap Ii (vc Pg (LB.at_ [1,0,1,1,1,1,0,0,0]) (F2.drop 1)) 47 (HR (.p S.n 0 0) (aL (aL aB) (Bs s)) (aL aB (Bm p s.valid))) S1 (Ak 0 (Av (vc Pg (LB.at_ [1,0,1,1,1,1,1]) (F2.drop 2)) (KF (Ao Pg Ym fun e S'=>e = .ret (aL aB (DW s p))∧Am S S')))):=by
 have hs:=hf.small
 have hfl:=hf.len
 have hsl:=hs.1
 have hfll:=Oq hs
 refine WO (fun y S'=>S'=S1∧∃ z,y=aL aB z∧z.length=p.length∧Sub z (Bm p s.valid)∧H5 s p z) (fun y _=>ND (avB y)) ⟨rfl,_,rfl,by simp,Sub.refl _,fun y _ h _=>h⟩ ?_
 dsimp only[BS]
 rintro _ S1 ⟨rfl,was,rfl,hwl,hws,hwa⟩ KE hKE
 unfold gR
 rw[Ay]
 refine WN (fun y x S'=>S'=S1∧∃(z:List Bool) (i:Nat),y=aL aB z∧x=aI i∧i≤(Bs s).length∧z.length=p.length∧Sub z was∧H5 s p z∧∀ f∈(Bs s).take i,Sub z (Ee s was f))
  (fun _ x _=>(Bs s).length - ((Aw x).getD 0).toNat) ⟨rfl,was,0,rfl,rfl,Ai9 _,hwl,Sub.refl _,hwa,fun f h=>by simp at h⟩ ?_
 dsimp only[DE]
 rintro _ _ S1 ⟨rfl,z,i,rfl,rfl,hi,hzl,hzw,hza,hst⟩ KE1 hKE1
 dsimp only[gQ,Fi,Lq,Ld]
 rw[As,Ag]
 refine Al (fun h=>?_) (fun h=>?_)
 ·have hlt:i<(Bs s).length:=by simpa using h
  rw[AM hlt,A3]
  have hfm:=Ai6 hlt
  generalize hfi:(Bs s)[i]=f at *
  have hfle:=N2 hf hfm
  have hzf:Fit s z:=hf.with (by omega)
  have haf:Fit s (Bm z f):=hf.with (by simp;omega)
  have huf:Fit s (IZ s z (Bm z f)):=hf.with (by simp;omega)
  refine⟨s.av,by rw[An (n:=5) o1 rfl];exact⟨rfl,rfl⟩,s.av,by rw[An (n:=5) o1 rfl];exact⟨rfl,rfl⟩,_,Ae (Mz z f (by omega) (by omega)).NF ⟨rfl,rfl⟩,_,Ae (Yv hzf haf).NF ⟨rfl,rfl⟩,_,
   Ae (jT huf) ⟨rfl,rfl⟩,_,Ae (Mz z _ (by omega) (by simp)).NF ⟨rfl,rfl⟩,?_⟩
  have hz':H5 s p (Ee s z f):=hza.step hzl hfm
  refine Ae (zW true (by simp;omega)) ?_
  rw[AI,Ag]
  refine Al (fun h=>⟨?_,k1⟩) (fun h=>?_)
  ·have:=sQ (l:=Ee s z f) (by rw[AiN]at h;exact h)
   rw[←nV (by simpa using hzl) hz' this]
   rfl
  ·rw[Ar (by omega) (by omega)]
   refine hKE1 _ _ _ ⟨rfl,Ee s z f,i+1,rfl,rfl,hlt,by simpa using hzl,(NR s z f).trans hzw,hz',fun g hg=>?_⟩ (by simp[Aw];omega)
   rw[AiR,Ai3 hlt,hfi]at hg
   rcases AiQ.1 hg with hg|hg
   ·exact(NR s z f).trans (hst g hg)
   ·have:g=f:=by simpa using hg
    subst this
    exact Gy hzw (by omega)
 ·have hge:i=(Bs s).length:=by simp at h;omega
  subst hge
  rw[Aj3]at hst
  refine Ae (zV (by omega)) ?_
  rw[Ag]
  refine Al (fun h=>⟨?_,k1⟩) (fun h=>?_)
  ·have:was=z:=by simpa using h
   subst this
   rw[←Vv hzl hws hza hst]
  ·have hne:¬ was=z:=by simpa using h
   refine hKE _ _ ⟨rfl,z,rfl,hzl,hzw.trans hws,hza⟩ ?_
   have:=Km (a:=z) (b:=was) (by omega) hzw
   rw[iY,iY]
   have h2:ND z≠ND was:=fun e=>hne (this.2 e).symm
   omega
theorem Aa0{s:Sp}{p:List Bool}(hf:Fit s p):BH Pg 150 [s.av,aL aB p] (aL aB (DW s p)):=by
 intro S
 refine Ad.B6 (f:=fun b=>.bool b) (dU ?_)
 have hs:=hf.small
 have hfl:=hf.len
 have hsl:=hs.1
 dsimp only[AdT,Tb,Fi,Lf];unfold Sp.av
 refine Ai rfl fun S1 k1 n1 o1=>?_
 rw[Ac,Af o1 rfl rfl,Ay,AD,Ag]
 have hl:=mQ hf k1 o1
 refine Al (fun h=>?_) (fun h=>?_)
 ·have he:s.fair = []:=List.eq_nil_of_length_eq_zero (by simpa using h)
  rw[Ac,Af o1 rfl rfl]
  refine BQ rfl (fun _ h=>by cases h) ?_
  rw[Ac,Af o1 rfl rfl]
  refine Ae (Mz p s.valid (by omega) (by omega)).NF ?_
  have:Bs s = [s.valid]:=by simp[Bs,he]
  rw[this]at hl
  exact hl
 ·have he:s.fair.isEmpty=false:=by
    cases hq:s.fair with
    |nil=>rw[hq]at h;simp at h
    |cons x l=>rfl
  rw[Ac,Af o1 rfl rfl]
  refine Ae (Mz p s.valid (by omega) (by omega)).NF ?_
  have:Bs s=s.fair:=by simp[Bs,he]
  rw[this]at hl
  exact hl
def X1 (s:Sp) (p:List Bool):List Bool:=if fits s [p]then NC s p else[]
def kL (s:Sp) (p q:List Bool):List Bool:=if fits s [p,q]then IZ s p q else[]
def xF (s:Sp) (p:List Bool):List Bool:=if fits s [p]then DW s p else[]
theorem Ad.Jo{P:Program}{fn:FuncId}{args:List AV}{S:Aa}(h:Ad P fn args S (fun r S'=>r = .ret .nl∧Am S S')):AW P fn args S (.l []):=
 Ad.tree (Ad.mono h fun r S' ⟨h1,h2⟩=>⟨_,h1,h2,.nl⟩)
theorem zO{s:Sp}(hs:s.small)(p:List Bool):BH Pg 189 [s.av,aL aB p] (aL aB (X1 s p)):=by
 intro S
 cases hfit:fits s [p]with
 |false =>
  rw[X1,hfit]
  refine Ad.Jo (RX ?_)
  dsimp only[yH,Fi]
  refine Ai rfl fun S1 k1 n1 o1=>?_
  rw[An (n:=5) o1 rfl]
  refine BQ rfl (fun _ h=>by cases h) ?_
  refine Ae (K6 s hs [p] (by simp)) ?_
  rw[hfit,AI,Ag]
  exact⟨rfl,k1⟩
 |true =>
  rw[X1,hfit]
  refine Ad.B6 (f:=fun b=>.bool b) (RX ?_)
  dsimp only[yH,Fi]
  refine Ai rfl fun S1 k1 n1 o1=>?_
  rw[An (n:=5) o1 rfl]
  refine BQ rfl (fun _ h=>by cases h) ?_
  refine Ae (K6 s hs [p] (by simp)) ?_
  rw[hfit,AI,Ag]
  rw[show(!true)=false from rfl,AZ,An (n:=5) o1 rfl]
  exact Ae (jT (Fit.of hs hfit (by simp))) ⟨rfl,k1⟩
theorem j0{s:Sp}(hs:s.small)(p:List Bool):BH Pg 131 [s.av,aL aB p] (aL aB (xF s p)):=by
 intro S
 cases hfit:fits s [p]with
 |false =>
  rw[xF,hfit]
  refine Ad.Jo (RZ ?_)
  dsimp only[yJ,Fi]
  refine Ai rfl fun S1 k1 n1 o1=>?_
  rw[An (n:=5) o1 rfl]
  refine BQ rfl (fun _ h=>by cases h) ?_
  refine Ae (K6 s hs [p] (by simp)) ?_
  rw[hfit,AI,Ag]
  exact⟨rfl,k1⟩
 |true =>
  rw[xF,hfit]
  refine Ad.B6 (f:=fun b=>.bool b) (RZ ?_)
  dsimp only[yJ,Fi]
  refine Ai rfl fun S1 k1 n1 o1=>?_
  rw[An (n:=5) o1 rfl]
  refine BQ rfl (fun _ h=>by cases h) ?_
  refine Ae (K6 s hs [p] (by simp)) ?_
  rw[hfit,AI,Ag]
  rw[show(!true)=false from rfl,AZ,An (n:=5) o1 rfl]
  exact Ae (Aa0 (Fit.of hs hfit (by simp))) ⟨rfl,k1⟩
theorem jX{s:Sp}(hs:s.small)(p q:List Bool):BH Pg 143 [s.av,aL aB p,aL aB q] (aL aB (kL s p q)):=by
 intro S
 cases hfit:fits s [p,q]with
 |false =>
  rw[kL,hfit]
  refine Ad.Jo (RY ?_)
  dsimp only[yI,Fi]
  refine Ai rfl fun S1 k1 n1 o1=>?_
  rw[An (n:=5) o1 rfl]
  refine fV rfl rfl ?_
  refine Ae (K6 s hs [p,q] (by simp)) ?_
  rw[hfit,AI,Ag]
  exact⟨rfl,k1⟩
 |true =>
  rw[kL,hfit]
  refine Ad.B6 (f:=fun b=>.bool b) (RY ?_)
  dsimp only[yI,Fi]
  refine Ai rfl fun S1 k1 n1 o1=>?_
  rw[An (n:=5) o1 rfl]
  refine fV rfl rfl ?_
  refine Ae (K6 s hs [p,q] (by simp)) ?_
  rw[hfit,AI,Ag]
  rw[show(!true)=false from rfl,AZ,An (n:=5) o1 rfl]
  exact Ae (Yv (Fit.of hs hfit (by simp)) (Fit.of hs hfit (by simp))).NF ⟨rfl,k1⟩
section
set_option maxRecDepth 100000
def sH:Code:=(Tryz.f122.body).getD .skip
def AbQ:List ResultVar:=Tryz.f122.results.toList
def HT(y1 y3 y7 y8:AV):List AV:=[y1,y3,y7,y8]
def PE:List Nat:=[1,3,7,8]
def Rk:List (List Nat):=[PE,[]]
def Zz(x0 x1 x2:AV)(S:Aa)(Q:Aq):Prop:=
 Az 45 5 x0 S fun a S=>AA 5 a S fun c S=>Ah Pg 118 [c,x1] S Q fun d S=>un .not d S fun e S=>Fi e (Q (.ret .nl) S) (AA 5 a S fun f S=>Ah Pg 118 [f,x2] S Q fun g S=>un .not g S fun h S=>Fi h (Q (.ret .nl) S) (Lf a 1 S fun i S=>Ah Pg 119 [x2,i] S Q fun k S=>Ap PE (vc Pg (sH.at_ [1,1,1,0,1,0,0]) (Rk.drop 1)) 46 (HT x1 a k (aI 0)) S (Ak 0 (Av (vc Pg (sH.at_ [1,1,1,1]) (Rk.drop 1)) (Ao Pg AbQ Q)))))
theorem Nf{x0 x1 x2:AV}{S:Aa}{Q:Aq}(h:Zz x0 x1 x2 S Q):Ad Pg 122 [x0,x1,x2] S Q:=
 Bl (n:=46) Rk Tryz.func122 (by kernel_rfl) (Eq.mpr (by kernel_rfl) h)
def iE(y1 y3 y7 y8:AV)(S:Aa)(KE0:BB)(Q:Aq):Prop:=
 AG y1 S fun a S=>bin .lss 0 y8 a S fun c S=>Fi c ((fun S0:Aa=>Lq S0 (shift y3 1) fun d=>Lq S0 (Ax d) fun e=>Ld S0 119 [y1,e] fun f=>Lq S0 (AA 5 y3) fun g=>Ld S0 121 [g,y7] fun h=>Ld S0 119 [f,h] fun i=>Ld S0 146 [y7,i] fun k=>Ah Pg 123 [k,y7] S Q fun l S=>Fi l (Q (.ret y7) S) (bin .add 0 y8 (aI 1) S fun m S=>KE0 46 (HT y1 y3 k m) S)) S) (Q (.ret y7) S)
theorem W2{y1 y3:AV}{y70 y80:AV}{S:Aa}{Q:Aq}(I:AV→AV→Aa→Prop)(μ:AV→AV→Aa→Nat)(h0:I y70 y80 S)(hr:DE (fun y7 y8=>HT y1 y3 y7 y8) 46 I μ fun y7 y8 S KE0=>iE y1 y3 y7 y8 S KE0 Q):
 Ap PE (vc Pg (sH.at_ [1,1,1,0,1,0,0]) (Rk.drop 1)) 46 (HT y1 y3 y70 y80) S (Ak 0 (Av (vc Pg (sH.at_ [1,1,1,1]) (Rk.drop 1)) (Ao Pg AbQ Q))):=IN (E:=fun y7 y8=>HT y1 y3 y7 y8) 2 3 (fun _ _=>⟨rfl,rfl⟩) (fun _ _ _ _=>by kernel_rfl) h0 hr
def XW:Code:=(Tryz.f85.body).getD .skip
def r85:List ResultVar:=Tryz.f85.results.toList
def JU(y1 y2 y5 y6:AV):List AV:=[y1,y2,y5,y6]
def MO:List Nat:=[1,2,5,6]
def JT(y1 y2 y5 y6 y7 y8 y9:AV):List AV:=[y1,y2,y5,y6,y7,y8,y9]
def Tj:List Nat:=[1,2,5,6,7,8,9]
def KM:List (List Nat):=[MO,Tj,[]]
def m85(x0 x1:AV)(S:Aa)(Q:Aq):Prop:=
 Az 45 5 x0 S fun a S=>AA 5 a S fun c S=>Ah Pg 118 [c,x1] S Q fun d S=>un .not d S fun e S=>Fi e (Q (.ret .nl) S) (Lf a 1 S fun f S=>Ah Pg 119 [x1,f] S Q fun g S=>Ap MO (vc Pg (XW.at_ [1,1,1,0,1,0,0]) (KM.drop 1)) 52 (JU x1 a g (aI 0)) S (Ak 0 (Av (vc Pg (XW.at_ [1,1,1,1]) (KM.drop 2)) (Ao Pg r85 Q))))
theorem VB{x0 x1:AV}{S:Aa}{Q:Aq}(h:m85 x0 x1 S Q):Ad Pg 85 [x0,x1] S Q:=
 Bl (n:=52) KM Tryz.func85 (by kernel_rfl) (Eq.mpr (by kernel_rfl) h)
def uQ(y1 y2 y5 y6:AV)(S:Aa)(KE0:BB)(Q:Aq):Prop:=
 AG y1 S fun a S=>bin .leq 0 y6 a S fun c S=>Fi c (AA 5 y2 S fun d S=>Ah Pg 120 [d] S Q fun e S=>Ap Tj (vc Pg (XW.at_ [1,1,1,0,1,0,0,1,0,0,1,1,0,1,0,0]) (KM.drop 2)) 52 (JT y1 y2 y5 y6 e y5 (aI 0)) S (Ak 2 (Av (vc Pg (XW.at_ [1,1,1,0,1,0,0,1,0,0,1,1,1]) (KM.drop 2)) (Ak 1 (Av (vc Pg (XW.at_ [1,1,1,0,1,0,0,1,1]) (KM.drop 2)) (BY (Hn MO KE0) (Ak 0 (Av (vc Pg (XW.at_ [1,1,1,1]) (KM.drop 2)) (Ao Pg r85 Q))))))))) (Q (.ret y5) S)
theorem ZF{y1 y2:AV}{y50 y60:AV}{S:Aa}{Q:Aq}(I:AV→AV→Aa→Prop)(μ:AV→AV→Aa→Nat)(h0:I y50 y60 S)(hr:DE (fun y5 y6=>JU y1 y2 y5 y6) 52 I μ fun y5 y6 S KE0=>uQ y1 y2 y5 y6 S KE0 Q):
 Ap MO (vc Pg (XW.at_ [1,1,1,0,1,0,0]) (KM.drop 1)) 52 (JU y1 y2 y50 y60) S (Ak 0 (Av (vc Pg (XW.at_ [1,1,1,1]) (KM.drop 2)) (Ao Pg r85 Q))):=IN (E:=fun y5 y6=>JU y1 y2 y5 y6) 2 3 (fun _ _=>⟨rfl,rfl⟩) (fun _ _ _ _=>by kernel_rfl) h0 hr
def uP(y1 y2 y5 y6 y7 y8 y9:AV)(S:Aa)(KE1:BB)(KE0:BB)(Q:Aq):Prop:=
 AG y7 S fun a S=>bin .lss 0 y9 a S fun c S=>Fi c ((fun S0:Aa=>Lq S0 (AA 5 y2) fun d=>Lq S0 (AA 5 y2) fun e=>Lq S0 (AR 41 1 y7 y9) fun f=>Lq S0 (Ax f) fun g=>Ld S0 119 [y5,g] fun h=>Ld S0 122 [e,y5,h] fun i=>Ld S0 121 [d,i] fun k=>Ld S0 119 [y8,k] fun l=>bin .add 0 y9 (aI 1) S fun m S=>KE1 52 (JT y1 y2 y5 y6 y7 l m) S) S) (Ah Pg 123 [y8,y5] S Q fun n S=>Fi n (Q (.ret y5) S) (bin .add 0 y6 (aI 1) S fun o S=>KE0 52 (JU y1 y2 y8 o) S))
theorem ZE{y1 y2 y5 y6 y7:AV}{y80 y90:AV}{S:Aa}{KE0:BB}{Q:Aq}(I:AV→AV→Aa→Prop)(μ:AV→AV→Aa→Nat)(h0:I y80 y90 S)(hr:DE (fun y8 y9=>JT y1 y2 y5 y6 y7 y8 y9) 52 I μ fun y8 y9 S KE1=>uP y1 y2 y5 y6 y7 y8 y9 S KE1 KE0 Q):
 Ap Tj (vc Pg (XW.at_ [1,1,1,0,1,0,0,1,0,0,1,1,0,1,0,0]) (KM.drop 2)) 52 (JT y1 y2 y5 y6 y7 y80 y90) S (Ak 2 (Av (vc Pg (XW.at_ [1,1,1,0,1,0,0,1,0,0,1,1,1]) (KM.drop 2)) (Ak 1 (Av (vc Pg (XW.at_ [1,1,1,0,1,0,0,1,1]) (KM.drop 2)) (BY (Hn MO KE0) (Ak 0 (Av (vc Pg (XW.at_ [1,1,1,1]) (KM.drop 2)) (Ao Pg r85 Q)))))))):=IN (E:=fun y8 y9=>JT y1 y2 y5 y6 y7 y8 y9) 5 6 (fun _ _=>⟨rfl,rfl⟩) (fun _ _ _ _=>by kernel_rfl) h0 hr
def AeI(x0:AV)(S:Aa)(Q:Aq):Prop:=
 Az 45 5 x0 S fun a S=>Lf a 4 S fun c S=>AG c S fun d S=>bin .eql 0 d (aI 0) S fun e S=>Fi e (Lf a 1 S fun f S=>AU 41 1 1 [.nl] [(0,f)] S fun g S=>Q (.ret g) S) (Lf a 4 S fun h S=>Q (.ret h) S)
theorem eT{x0:AV}{S:Aa}{Q:Aq}(h:AeI x0 S Q):Ad Pg 120 [x0] S Q:=
 Bl (n:=12) [[]] Tryz.func120 (by kernel_rfl) (Eq.mpr (by kernel_rfl) h)
def LC:Code:=(Tryz.f121.body).getD .skip
def lP:List ResultVar:=Tryz.f121.results.toList
def E8(y1 y2 y5 y6:AV):List AV:=[y1,y2,y5,y6]
def JG:List Nat:=[1,2,5,6]
def Gk(y1 y2 y5 y6 y7 y8:AV):List AV:=[y1,y2,y5,y6,y7,y8]
def PF:List Nat:=[1,2,5,6,7,8]
def F3:List (List Nat):=[JG,PF,[]]
def yK(x0 x1:AV)(S:Aa)(Q:Aq):Prop:=
 Az 45 5 x0 S fun a S=>AA 5 a S fun c S=>Ah Pg 118 [c,x1] S Q fun d S=>un .not d S fun e S=>Fi e (Q (.ret .nl) S) (Ap JG (vc Pg (LC.at_ [1,1,1,0,1,0,0]) (F3.drop 1)) 55 (E8 x1 a .nl (aI 0)) S (Ak 0 (Av (vc Pg (LC.at_ [1,1,1,1]) (F3.drop 2)) (Ao Pg lP Q))))
theorem R0{x0 x1:AV}{S:Aa}{Q:Aq}(h:yK x0 x1 S Q):Ad Pg 121 [x0,x1] S Q:=
 Bl (n:=55) F3 Tryz.func121 (by kernel_rfl) (Eq.mpr (by kernel_rfl) h)
def iH(y1 y2 y5 y6:AV)(S:Aa)(KE0:BB)(Q:Aq):Prop:=
 AG y1 S fun a S=>bin .lss 0 y6 a S fun c S=>Fi c (Ap PF (vc Pg (LC.at_ [1,1,1,0,1,0,0,1,0,0,1,0,1,0,0]) (F3.drop 2)) 55 (Gk y1 y2 y5 y6 (.v (.bool false)) (aI 0)) S (Ak 2 (Av (vc Pg (LC.at_ [1,1,1,0,1,0,0,1,0,0,1,1]) (F3.drop 2)) (Ak 1 (Av (vc Pg (LC.at_ [1,1,1,0,1,0,0,1,1]) (F3.drop 2)) (BY (Hn JG KE0) (Ak 0 (Av (vc Pg (LC.at_ [1,1,1,1]) (F3.drop 2)) (Ao Pg lP Q))))))))) (Q (.ret y5) S)
theorem W4{y1 y2:AV}{y50 y60:AV}{S:Aa}{Q:Aq}(I:AV→AV→Aa→Prop)(μ:AV→AV→Aa→Nat)(h0:I y50 y60 S)(hr:DE (fun y5 y6=>E8 y1 y2 y5 y6) 55 I μ fun y5 y6 S KE0=>iH y1 y2 y5 y6 S KE0 Q):
 Ap JG (vc Pg (LC.at_ [1,1,1,0,1,0,0]) (F3.drop 1)) 55 (E8 y1 y2 y50 y60) S (Ak 0 (Av (vc Pg (LC.at_ [1,1,1,1]) (F3.drop 2)) (Ao Pg lP Q))):=IN (E:=fun y5 y6=>E8 y1 y2 y5 y6) 2 3 (fun _ _=>⟨rfl,rfl⟩) (fun _ _ _ _=>by kernel_rfl) h0 hr
def iF(y1 y2 y5 y6 y7 y8:AV)(S:Aa)(KE1:BB)(KE0:BB)(Q:Aq):Prop:=
 Lf y2 3 S fun a S=>AR 26 1 a y6 S fun c S=>Ax c S fun d S=>AG d S fun e S=>bin .lss 0 y8 e S fun f S=>Fi f (Fi y7 (bin .add 0 y8 (aI 1) S fun g S=>KE1 55 (Gk y1 y2 y5 y6 (.v (.bool true)) g) S) (Lf y2 3 S fun h S=>AR 26 1 h y6 S fun i S=>Ax i S fun k S=>AR 3 1 k y8 S fun l S=>Ax l S fun m S=>AR 4 1 y1 m S fun n S=>Ax n S fun o S=>bin .add 0 y8 (aI 1) S fun p S=>KE1 55 (Gk y1 y2 y5 y6 o p) S)) (Fi y7 (Lf y2 1 S fun q S=>AR 4 1 q y6 S fun r S=>Ax r S fun s S=>AU 4 1 1 [.v (.bool false)] [(0,s)] S fun t S=>Bo 4 1 1 y5 t S fun u S=>bin .add 0 y6 (aI 1) S fun w S=>KE0 55 (E8 y1 y2 u w) S) (AU 4 1 1 [.v (.bool false)] [(0,(.v (.bool false)))] S fun x S=>Bo 4 1 1 y5 x S fun y S=>bin .add 0 y6 (aI 1) S fun z S=>KE0 55 (E8 y1 y2 y z) S))
theorem W3{y1 y2 y5 y6:AV}{y70 y80:AV}{S:Aa}{KE0:BB}{Q:Aq}(I:AV→AV→Aa→Prop)(μ:AV→AV→Aa→Nat)(h0:I y70 y80 S)(hr:DE (fun y7 y8=>Gk y1 y2 y5 y6 y7 y8) 55 I μ fun y7 y8 S KE1=>iF y1 y2 y5 y6 y7 y8 S KE1 KE0 Q):
 Ap PF (vc Pg (LC.at_ [1,1,1,0,1,0,0,1,0,0,1,0,1,0,0]) (F3.drop 2)) 55 (Gk y1 y2 y5 y6 y70 y80) S (Ak 2 (Av (vc Pg (LC.at_ [1,1,1,0,1,0,0,1,0,0,1,1]) (F3.drop 2)) (Ak 1 (Av (vc Pg (LC.at_ [1,1,1,0,1,0,0,1,1]) (F3.drop 2)) (BY (Hn JG KE0) (Ak 0 (Av (vc Pg (LC.at_ [1,1,1,1]) (F3.drop 2)) (Ao Pg lP Q)))))))):=IN (E:=fun y7 y8=>Gk y1 y2 y5 y6 y7 y8) 4 5 (fun _ _=>⟨rfl,rfl⟩) (fun _ _ _ _=>by kernel_rfl) h0 hr
def sJ:Code:=(Tryz.f119.body).getD .skip
def AbR:List ResultVar:=Tryz.f119.results.toList
def E9(y0 y1 y5 y6:AV):List AV:=[y0,y1,y5,y6]
def PG:List Nat:=[0,1,5,6]
def Rl:List (List Nat):=[PG,[]]
def AeJ(x0 x1:AV)(S:Aa)(Q:Aq):Prop:=
 Ap PG (vc Pg (sJ.at_ [1,1,0,1,0,0]) (Rl.drop 1)) 27 (E9 x0 x1 .nl (aI 0)) S (Ak 0 (Av (vc Pg (sJ.at_ [1,1,1]) (Rl.drop 1)) (Ao Pg AbR Q)))
theorem eU{x0 x1:AV}{S:Aa}{Q:Aq}(h:AeJ x0 x1 S Q):Ad Pg 119 [x0,x1] S Q:=
 Bl (n:=27) Rl Tryz.func119 (by kernel_rfl) (Eq.mpr (by kernel_rfl) h)
def iM(y0 y1 y5 y6:AV)(S:Aa)(KE0:BB)(Q:Aq):Prop:=
 AG y0 S fun a S=>bin .lss 0 y6 a S fun c S=>Fi c (AR 4 1 y0 y6 S fun d S=>Ax d S fun e S=>Fi e (AR 4 1 y1 y6 S fun f S=>Ax f S fun g S=>AU 4 1 1 [.v (.bool false)] [(0,g)] S fun h S=>Bo 4 1 1 y5 h S fun i S=>bin .add 0 y6 (aI 1) S fun k S=>KE0 27 (E9 y0 y1 i k) S) (AU 4 1 1 [.v (.bool false)] [(0,(.v (.bool false)))] S fun l S=>Bo 4 1 1 y5 l S fun m S=>bin .add 0 y6 (aI 1) S fun n S=>KE0 27 (E9 y0 y1 m n) S)) (Q (.ret y5) S)
theorem W5{y0 y1:AV}{y50 y60:AV}{S:Aa}{Q:Aq}(I:AV→AV→Aa→Prop)(μ:AV→AV→Aa→Nat)(h0:I y50 y60 S)(hr:DE (fun y5 y6=>E9 y0 y1 y5 y6) 27 I μ fun y5 y6 S KE0=>iM y0 y1 y5 y6 S KE0 Q):
 Ap PG (vc Pg (sJ.at_ [1,1,0,1,0,0]) (Rl.drop 1)) 27 (E9 y0 y1 y50 y60) S (Ak 0 (Av (vc Pg (sJ.at_ [1,1,1]) (Rl.drop 1)) (Ao Pg AbR Q))):=IN (E:=fun y5 y6=>E9 y0 y1 y5 y6) 2 3 (fun _ _=>⟨rfl,rfl⟩) (fun _ _ _ _=>by kernel_rfl) h0 hr
def rZ:Code:=(Tryz.f146.body).getD .skip
def AbH:List ResultVar:=Tryz.f146.results.toList
def E7(y0 y1 y5 y6:AV):List AV:=[y0,y1,y5,y6]
def Pv:List Nat:=[0,1,5,6]
def Ra:List (List Nat):=[Pv,[]]
def AdX(x0 x1:AV)(S:Aa)(Q:Aq):Prop:=
 Ap Pv (vc Pg (rZ.at_ [1,1,0,1,0,0]) (Ra.drop 1)) 27 (E7 x0 x1 .nl (aI 0)) S (Ak 0 (Av (vc Pg (rZ.at_ [1,1,1]) (Ra.drop 1)) (Ao Pg AbH Q)))
theorem dY{x0 x1:AV}{S:Aa}{Q:Aq}(h:AdX x0 x1 S Q):Ad Pg 146 [x0,x1] S Q:=
 Bl (n:=27) Ra Tryz.func146 (by kernel_rfl) (Eq.mpr (by kernel_rfl) h)
def gY(y0 y1 y5 y6:AV)(S:Aa)(KE0:BB)(Q:Aq):Prop:=
 AG y0 S fun a S=>bin .lss 0 y6 a S fun c S=>Fi c (AR 4 1 y0 y6 S fun d S=>Ax d S fun e S=>Fi e (AU 4 1 1 [.v (.bool false)] [(0,(.v (.bool true)))] S fun f S=>Bo 4 1 1 y5 f S fun g S=>bin .add 0 y6 (aI 1) S fun h S=>KE0 27 (E7 y0 y1 g h) S) (AR 4 1 y1 y6 S fun i S=>Ax i S fun k S=>AU 4 1 1 [.v (.bool false)] [(0,k)] S fun l S=>Bo 4 1 1 y5 l S fun m S=>bin .add 0 y6 (aI 1) S fun n S=>KE0 27 (E7 y0 y1 m n) S)) (Q (.ret y5) S)
theorem WS{y0 y1:AV}{y50 y60:AV}{S:Aa}{Q:Aq}(I:AV→AV→Aa→Prop)(μ:AV→AV→Aa→Nat)(h0:I y50 y60 S)(hr:DE (fun y5 y6=>E7 y0 y1 y5 y6) 27 I μ fun y5 y6 S KE0=>gY y0 y1 y5 y6 S KE0 Q):
 Ap Pv (vc Pg (rZ.at_ [1,1,0,1,0,0]) (Ra.drop 1)) 27 (E7 y0 y1 y50 y60) S (Ak 0 (Av (vc Pg (rZ.at_ [1,1,1]) (Ra.drop 1)) (Ao Pg AbH Q))):=IN (E:=fun y5 y6=>E7 y0 y1 y5 y6) 2 3 (fun _ _=>⟨rfl,rfl⟩) (fun _ _ _ _=>by kernel_rfl) h0 hr
def sG:Code:=(Tryz.f123.body).getD .skip
def AbP:List ResultVar:=Tryz.f123.results.toList
def Kd(y0 y1 y5:AV):List AV:=[y0,y1,y5]
def PD:List Nat:=[0,1,5]
def Rj:List (List Nat):=[PD,[]]
def AeH(x0 x1:AV)(S:Aa)(Q:Aq):Prop:=
 AG x0 S fun a S=>AG x1 S fun c S=>bin .neq 0 a c S fun d S=>Fi d (Q (.ret (.v (.bool false))) S) (Ap PD (vc Pg (sG.at_ [1,1,0,1,0,0]) (Rj.drop 1)) 26 (Kd x0 x1 (aI 0)) S (Ak 0 (Av (vc Pg (sG.at_ [1,1,1]) (Rj.drop 1)) (Ao Pg AbP Q))))
theorem eS{x0 x1:AV}{S:Aa}{Q:Aq}(h:AeH x0 x1 S Q):Ad Pg 123 [x0,x1] S Q:=
 Bl (n:=26) Rj Tryz.func123 (by kernel_rfl) (Eq.mpr (by kernel_rfl) h)
def iD(y0 y1 y5:AV)(S:Aa)(KE0:BB)(Q:Aq):Prop:=
 AG y0 S fun a S=>bin .lss 0 y5 a S fun c S=>Fi c ((fun S0:Aa=>Lq S0 (AR 4 1 y0 y5) fun d=>Lq S0 (Ax d) fun e=>Lq S0 (AR 4 1 y1 y5) fun f=>Lq S0 (Ax f) fun g=>Lq S0 (bin .neq 1 e g) fun h=>Fi h (Q (.ret (.v (.bool false))) S) (bin .add 0 y5 (aI 1) S fun i S=>KE0 26 (Kd y0 y1 i) S)) S) (Q (.ret (.v (.bool true))) S)
theorem W1{y0 y1:AV}{y50:AV}{S:Aa}{Q:Aq}(I:AV→Aa→Prop)(μ:AV→Aa→Nat)(h0:I y50 S)(hr:BS (fun y5=>Kd y0 y1 y5) 26 I μ fun y5 S KE0=>iD y0 y1 y5 S KE0 Q):
 Ap PD (vc Pg (sG.at_ [1,1,0,1,0,0]) (Rj.drop 1)) 26 (Kd y0 y1 y50) S (Ak 0 (Av (vc Pg (sG.at_ [1,1,1]) (Rj.drop 1)) (Ao Pg AbP Q))):=DY 2 (fun _=>rfl) (fun _ _ _=>by kernel_rfl) h0 hr
def Ko:Code:=(Tryz.f118.body).getD .skip
def Wj:List ResultVar:=Tryz.f118.results.toList
def Ki(y2 y5 y6:AV):List AV:=[y2,y5,y6]
def PI:List Nat:=[2,5,6]
def Kh(y2 y5 y7:AV):List AV:=[y2,y5,y7]
def JH:List Nat:=[2,5,7]
def Ke(y2 y5 y7 y8:AV):List AV:=[y2,y5,y7,y8]
def PH:List Nat:=[2,5,7,8]
def EU:List (List Nat):=[PI,JH,PH,[]]
def AeK(x0 x1:AV)(S:Aa)(Q:Aq):Prop:=
 Az 45 5 x0 S fun a S=>Lf a 1 S fun c S=>AG c S fun d S=>AG x1 S fun e S=>bin .neq 0 e d S fun f S=>Fi f (Q (.ret (.v (.bool false))) S) (Lf a 3 S fun g S=>AG g S fun h S=>bin .neq 0 h d S fun i S=>Fi i (Q (.ret (.v (.bool false))) S) (Ap PI (vc Pg (Ko.at_ [1,1,1,0,1,0,0]) (EU.drop 1)) 74 (Ki a d (aI 0)) S (Ak 0 (Av (vc Pg (Ko.at_ [1,1,1,1]) (EU.drop 1)) (Ao Pg Wj Q)))))
theorem eV{x0 x1:AV}{S:Aa}{Q:Aq}(h:AeK x0 x1 S Q):Ad Pg 118 [x0,x1] S Q:=
 Bl (n:=74) EU Tryz.func118 (by kernel_rfl) (Eq.mpr (by kernel_rfl) h)
def iP(y2 y5 y6:AV)(S:Aa)(KE0:BB)(Q:Aq):Prop:=
 Lf y2 4 S fun a S=>AG a S fun c S=>bin .lss 0 y6 c S fun d S=>Fi d (Lf y2 4 S fun e S=>AR 41 1 e y6 S fun f S=>Ax f S fun g S=>AG g S fun h S=>bin .neq 0 h y5 S fun i S=>Fi i (Q (.ret (.v (.bool false))) S) (bin .add 0 y6 (aI 1) S fun k S=>KE0 74 (Ki y2 y5 k) S)) (Ap JH (vc Pg (Ko.at_ [1,1,1,1,0,1,0,0]) (EU.drop 2)) 74 (Kh y2 y5 (aI 0)) S (Ak 2 (Av (vc Pg (Ko.at_ [1,1,1,1,1]) (EU.drop 3)) (Ao Pg Wj Q))))
theorem W8{y2 y5:AV}{y60:AV}{S:Aa}{Q:Aq}(I:AV→Aa→Prop)(μ:AV→Aa→Nat)(h0:I y60 S)(hr:BS (fun y6=>Ki y2 y5 y6) 74 I μ fun y6 S KE0=>iP y2 y5 y6 S KE0 Q):
 Ap PI (vc Pg (Ko.at_ [1,1,1,0,1,0,0]) (EU.drop 1)) 74 (Ki y2 y5 y60) S (Ak 0 (Av (vc Pg (Ko.at_ [1,1,1,1]) (EU.drop 1)) (Ao Pg Wj Q))):=DY 2 (fun _=>rfl) (fun _ _ _=>by kernel_rfl) h0 hr
def iO(y2 y5 y7:AV)(S:Aa)(KE1:BB)(Q:Aq):Prop:=
 bin .lss 0 y7 y5 S fun a S=>Fi a (Ap PH (vc Pg (Ko.at_ [1,1,1,1,0,1,0,0,1,0,0,1,0,0]) (EU.drop 3)) 74 (Ke y2 y5 y7 (aI 0)) S (Ak 4 (Ak 3 (Av (vc Pg (Ko.at_ [1,1,1,1,0,1,0,0,1,1]) (EU.drop 3)) (BY (Hn JH KE1) (Ak 2 (Av (vc Pg (Ko.at_ [1,1,1,1,1]) (EU.drop 3)) (Ao Pg Wj Q)))))))) (Q (.ret (.v (.bool true))) S)
theorem W7{y2 y5:AV}{y70:AV}{S:Aa}{Q:Aq}(I:AV→Aa→Prop)(μ:AV→Aa→Nat)(h0:I y70 S)(hr:BS (fun y7=>Kh y2 y5 y7) 74 I μ fun y7 S KE1=>iO y2 y5 y7 S KE1 Q):
 Ap JH (vc Pg (Ko.at_ [1,1,1,1,0,1,0,0]) (EU.drop 2)) 74 (Kh y2 y5 y70) S (Ak 2 (Av (vc Pg (Ko.at_ [1,1,1,1,1]) (EU.drop 3)) (Ao Pg Wj Q))):=DY 2 (fun _=>rfl) (fun _ _ _=>by kernel_rfl) h0 hr
def iN(y2 y5 y7 y8:AV)(S:Aa)(KE2:BB)(KE1:BB)(Q:Aq):Prop:=
 Lf y2 3 S fun a S=>AR 26 1 a y7 S fun c S=>Ax c S fun d S=>AG d S fun e S=>bin .lss 0 y8 e S fun f S=>Fi f (Lf y2 3 S fun g S=>AR 26 1 g y7 S fun h S=>Ax h S fun i S=>AR 3 1 i y8 S fun k S=>Ax k S fun l S=>bin .lss 0 l (aI 0) S fun m S=>Fi m (Q (.ret (.v (.bool false))) S) (Lf y2 3 S fun n S=>AR 26 1 n y7 S fun o S=>Ax o S fun p S=>AR 3 1 p y8 S fun q S=>Ax q S fun r S=>bin .geq 0 r y5 S fun s S=>Fi s (Q (.ret (.v (.bool false))) S) (bin .add 0 y8 (aI 1) S fun t S=>KE2 74 (Ke y2 y5 y7 t) S))) (bin .add 0 y7 (aI 1) S fun u S=>KE1 74 (Kh y2 y5 u) S)
theorem W6{y2 y5 y7:AV}{y80:AV}{S:Aa}{KE1:BB}{Q:Aq}(I:AV→Aa→Prop)(μ:AV→Aa→Nat)(h0:I y80 S)(hr:BS (fun y8=>Ke y2 y5 y7 y8) 74 I μ fun y8 S KE2=>iN y2 y5 y7 y8 S KE2 KE1 Q):
 Ap PH (vc Pg (Ko.at_ [1,1,1,1,0,1,0,0,1,0,0,1,0,0]) (EU.drop 3)) 74 (Ke y2 y5 y7 y80) S (Ak 4 (Ak 3 (Av (vc Pg (Ko.at_ [1,1,1,1,0,1,0,0,1,1]) (EU.drop 3)) (BY (Hn JH KE1) (Ak 2 (Av (vc Pg (Ko.at_ [1,1,1,1,1]) (EU.drop 3)) (Ao Pg Wj Q))))))):=DY 3 (fun _=>rfl) (fun _ _ _=>by kernel_rfl) h0 hr
end
theorem Ht{α:Type}(n:Nat)(f:Nat→α):CI (n+1) f=CI n f ++ [f n]:=by simp[CI,AiP]
def EJ(a b:List Bool):List Bool:=CI a.length fun i=>bit a i || bit b i
@[simp] theorem Ah5(a b:List Bool):(EJ a b).length=a.length:=by simp[EJ]
theorem CU{a b:List Bool}(h:a.length=b.length)(i:Nat):bit (EJ a b) i=(bit a i || bit b i):=by
 rcases AiS i a.length with h'|h'
 ·rw[EJ,C2 h']
 ·rw[FU (by simpa[EJ]using h'),FU h',FU (by omega)];rfl
theorem Fh{a b:List Bool}(ha:a.length<1048576)(hab:a.length=b.length):BH Pg 119 [aL aB a,aL aB b] (aL aB (Bm a b)):=by
 refine Ad.G8 (f:=fun b=>.bool b) (e:=4) fun S=>eU ?_
 unfold AeJ
 refine W5 (fun y x S'=>Am S S'∧∃ i:Nat,x=aI i∧i≤a.length∧A4 S.n S' y 4 ((CI i fun i=>bit a i && bit b i).map fun b=>[aB b]))
  (fun _ x _=>a.length - ((Aw x).getD 0).toNat) ⟨Am.refl S,0,rfl,Ai9 _,.nl _ _ _⟩ ?_
 dsimp only[DE]
 rintro y _ S1 ⟨k1,i,rfl,hi,w1⟩ KE hKE
 dsimp only[iM,Fi]
 rw[Ay,As,Ag]
 refine Al (fun h=>?_) (fun h=>?_)
 ·have hlt:i<a.length:=by simpa using h
  have hadd:∀ K:AV→Aa→Prop,∀ S,bin .add 0 (.v (.int .i64 (i:Int))) (.v (.int .i64 1)) S K=K (aI (i+1:Nat)) S:=fun K S=>Ar (by omega) (by omega) 0
  have hμ:a.length - ((Aw (aI (i+1:Nat))).getD 0).toNat<a.length - ((Aw (aI i)).getD 0).toNat:=by simp[Aw];omega
  have step:∀ c:Bool,c=(bit a i && bit b i)→Bo 4 1 1 y (.l [[aB c]]) S1 fun v10 S=>bin .add 0 (.v (.int .i64 (i:Int))) (.v (.int .i64 1)) S fun v11 S=>KE 27 (E9 (aL aB a) (aL aB b) v10 v11) S:=by
   intro c hc
   refine w1.app (b:=1) (c:=[aB c]) (y:=.l [[aB c]]) (by have:=k1.1;omega) rfl (by simp;omega) (fun x' S5 ho5 hb5 hx5=>?_) rfl
   rw[hadd]
   refine hKE _ _ _ ⟨w1.AS (Ai4 _) hb5 k1,i+1,rfl,hlt,?_⟩ hμ
   rw[Ht,AiB,←hc]
   exact ho5
  rw[AM hlt,A3,Ag]
  refine Al (fun h=>?_) (fun h=>?_)
  ·rw[AM (by omega:i<b.length),A3]
   refine BQ rfl (fun _ h=>by cases h) (step _ ?_)
   rw[Bc hlt,Bc (by omega),h];rfl
  ·refine BQ rfl (fun _ h=>by cases h) (step false ?_)
   rw[Bc hlt,h];rfl
 ·have hge:i=a.length:=by simp at h;omega
  subst hge
  exact⟨_,rfl,k1,w1⟩
theorem jV{a b:List Bool}(ha:a.length<1048576)(hab:a.length=b.length):BH Pg 146 [aL aB a,aL aB b] (aL aB (EJ a b)):=by
 refine Ad.G8 (f:=fun b=>.bool b) (e:=4) fun S=>dY ?_
 unfold AdX
 refine WS (fun y x S'=>Am S S'∧∃ i:Nat,x=aI i∧i≤a.length∧A4 S.n S' y 4 ((CI i fun i=>bit a i || bit b i).map fun b=>[aB b]))
  (fun _ x _=>a.length - ((Aw x).getD 0).toNat) ⟨Am.refl S,0,rfl,Ai9 _,.nl _ _ _⟩ ?_
 dsimp only[DE]
 rintro y _ S1 ⟨k1,i,rfl,hi,w1⟩ KE hKE
 dsimp only[gY,Fi]
 rw[Ay,As,Ag]
 refine Al (fun h=>?_) (fun h=>?_)
 ·have hlt:i<a.length:=by simpa using h
  have hadd:∀ K:AV→Aa→Prop,∀ S,bin .add 0 (.v (.int .i64 (i:Int))) (.v (.int .i64 1)) S K=K (aI (i+1:Nat)) S:=fun K S=>Ar (by omega) (by omega) 0
  have hμ:a.length - ((Aw (aI (i+1:Nat))).getD 0).toNat<a.length - ((Aw (aI i)).getD 0).toNat:=by simp[Aw];omega
  have step:∀ c:Bool,c=(bit a i || bit b i)→Bo 4 1 1 y (.l [[aB c]]) S1 fun v10 S=>bin .add 0 (.v (.int .i64 (i:Int))) (.v (.int .i64 1)) S fun v11 S=>KE 27 (E7 (aL aB a) (aL aB b) v10 v11) S:=by
   intro c hc
   refine w1.app (b:=1) (c:=[aB c]) (y:=.l [[aB c]]) (by have:=k1.1;omega) rfl (by simp;omega) (fun x' S5 ho5 hb5 hx5=>?_) rfl
   rw[hadd]
   refine hKE _ _ _ ⟨w1.AS (Ai4 _) hb5 k1,i+1,rfl,hlt,?_⟩ hμ
   rw[Ht,AiB,←hc]
   exact ho5
  rw[AM hlt,A3,Ag]
  refine Al (fun h=>?_) (fun h=>?_)
  ·refine BQ rfl (fun _ h=>by cases h) (step true ?_)
   rw[Bc hlt,h];rfl
  ·rw[AM (by omega:i<b.length),A3]
   refine BQ rfl (fun _ h=>by cases h) (step _ ?_)
   rw[Bc hlt,Bc (by omega),h];rfl
 ·have hge:i=a.length:=by simp at h;omega
  subst hge
  exact⟨_,rfl,k1,w1⟩
theorem j1{a b:List Bool}(hl:a.length≤9223372036854775807):BH Pg 123 [aL aB a,aL aB b] (aB (decide (a=b))):=by
 intro S
 refine eS ?_
 dsimp only[AeH,Fi]
 rw[Ay,Ay,Bi,Ag]
 refine Al (fun h=>⟨?_,rfl⟩) (fun h=>?_)
 ·have:¬ a=b:=fun e=>by subst e;simp at h
  simp[this]
 have hab:a.length=b.length:=by simp at h;omega
 refine W1 (fun y S'=>S'=S∧∃ i:Nat,y=aI i∧i≤a.length∧∀ k,k<i→a[k]? = b[k]?) (fun y _=>a.length - ((Aw y).getD 0).toNat) ⟨rfl,0,rfl,Ai9 _,fun k h=>absurd h (AiF _)⟩ ?_
 dsimp only[BS]
 rintro _ _ ⟨rfl,i,rfl,hi,hk⟩ KE hKE
 dsimp only[iD,Fi,Lq]
 rw[Ay,As,Ag]
 refine Al (fun h=>?_) (fun h=>?_)
 ·have hlt:i<a.length:=by simpa using h
  have hlt':i<b.length:=by omega
  refine⟨_,by rw[AM hlt];exact⟨rfl,rfl⟩,_,by rw[A3];exact⟨rfl,rfl⟩,_,by rw[AM hlt'];exact⟨rfl,rfl⟩,_,by rw[A3];exact⟨rfl,rfl⟩,_,by rw[CV];exact⟨rfl,rfl⟩,?_⟩
  rw[Ag]
  refine Al (fun hg=>⟨?_,rfl⟩) (fun hg=>?_)
  ·have:¬ a=b:=fun e=>by subst e;simp at hg
   simp[this]
  ·rw[Ar (by omega) (by omega)]
   refine hKE _ _ ⟨rfl,i+1,rfl,hlt,fun k hk2=>?_⟩ ?_
   ·by_cases e:k=i
    ·subst e
     rw[Ai3 hlt,Ai3 hlt']
     simpa using hg
    ·exact hk k (by omega)
   ·simp[Aw];omega
 ·have hge:i=a.length:=by simp at h;omega
  subst hge
  have:a=b:=by
   apply List.ext_getElem?
   intro k
   by_cases hk':k<a.length
   ·exact hk k hk'
   ·rw[AiZ (by omega),AiZ (by omega)]
  exact⟨by simp[this],rfl⟩
theorem Hz{α:Type}{l:List α}{g:α→Bool}{i:Nat}(hi:i<l.length)(h:g l[i]=false):l.all g=false:=
 Aj4.2 ⟨_,Ai6 hi,by simp[h]⟩
theorem Qo{α:Type}{l:List α}{g:α→Bool}(h:∀ k (hk:k<l.length),g l[k]=true):l.all g=true:=
 AiD.2 fun x hx=>by
  obtain⟨k,hk,rfl⟩:=List.mem_iff_getElem.1 hx
  exact h k hk
theorem E2(s:Sp)(p:List Bool):fits s [p]=(decide (p.length=s.valid.length) && decide (s.next.length=s.valid.length) && s.fair.all (fun p=>decide (p.length=s.valid.length)) && s.next.all (fun x=>x.all fun i=>decide (0≤i) && decide (i<s.valid.length))):=by
 simp only[fits,AjA,List.all_nil,AjF]
 cases decide (p.length=s.valid.length)<;>cases decide (s.next.length=s.valid.length)<;>cases s.fair.all (fun p=>decide (p.length=s.valid.length))<;>simp
theorem Kr{s:Sp}(hs:s.small)(p:List Bool):BH Pg 118 [s.av,aL aB p] (aB (fits s [p])):=by
 intro S
 obtain⟨hs1,hs2,hs3,hs4⟩:=hs
 refine Ad.Bt (eV ?_)
 rw[E2]
 dsimp only[AeK,Fi,Lf]
 refine Ai rfl fun S1 k1 n1 o1=>?_
 rw[Ac,Af o1 rfl rfl,Ay,Ay,Bi,Ag]
 refine Al (fun h=>⟨?_,k1⟩) (fun h=>?_)
 ·have:¬ p.length=s.valid.length:=by simp at h;omega
  simp[this]
 have e1:p.length=s.valid.length:=by simp at h;omega
 rw[Ac,Af o1 rfl rfl,Ay,Bi,Ag]
 refine Al (fun h=>⟨?_,k1⟩) (fun h=>?_)
 ·have:¬ s.next.length=s.valid.length:=by simp at h;omega
  simp[this]
 have e2:s.next.length=s.valid.length:=by simp at h;omega
 rw[show decide (p.length=s.valid.length)=true by simp[e1],show decide (s.next.length=s.valid.length)=true by simp[e2]]
 refine W8 (fun y S'=>S'=S1∧∃ i:Nat,y=aI i∧i≤s.fair.length∧∀ k (hk:k<s.fair.length),k<i→decide (s.fair[k].length=s.valid.length)=true) (fun y _=>s.fair.length - ((Aw y).getD 0).toNat) ⟨rfl,0,rfl,Ai9 _,fun k _ h=>absurd h (AiF _)⟩ ?_
 dsimp only[BS]
 rintro _ S1 ⟨rfl,i,rfl,hi,hk⟩ KE hKE
 dsimp only[iP,Fi,Lf]
 rw[Ac,Af o1 rfl rfl,Ay,As,Ag]
 refine Al (fun h=>?_) (fun h=>?_)
 ·have hlt:i<s.fair.length:=by simpa using h
  rw[Ac,Af o1 rfl rfl,AM hlt,A3,Ay,Bi,Ag]
  refine Al (fun h=>⟨?_,k1⟩) (fun h=>?_)
  ·have h1:¬ s.fair[i].length=s.valid.length:=by simp at h;omega
   rw[Hz (l:=s.fair) (g:=fun p=>decide (p.length=s.valid.length)) hlt (by simpa using h1)]
   simp
  ·have h1:s.fair[i].length=s.valid.length:=by simp at h;omega
   rw[Ar (by omega) (by omega)]
   refine hKE _ _ ⟨rfl,i+1,rfl,hlt,fun k hk1 hk2=>?_⟩ (by simp[Aw];omega)
   by_cases e:k=i
   ·subst e;simpa using h1
   ·exact hk k hk1 (by omega)
 ·have hge:i=s.fair.length:=by simp at h;omega
  subst hge
  rw[Qo (l:=s.fair) (g:=fun p=>decide (p.length=s.valid.length)) fun k hk1=>hk k hk1 hk1]
  clear hKE hk hi h
  refine W7 (fun y S'=>S'=S1∧∃ i:Nat,y=aI i∧i≤s.valid.length∧∀ k (hk:k<s.next.length),k<i→(s.next[k].all fun i=>decide (0≤i) && decide (i<s.valid.length))=true) (fun y _=>s.valid.length - ((Aw y).getD 0).toNat) ⟨rfl,0,rfl,Ai9 _,fun k _ h=>absurd h (AiF _)⟩ ?_
  dsimp only[BS]
  rintro _ S1 ⟨rfl,i,rfl,hi,hk⟩ KE hKE
  dsimp only[iO,Fi]
  rw[As,Ag]
  refine Al (fun h=>?_) (fun h=>?_)
  ·have hlt:i<s.valid.length:=by simpa using h
   have hln:i<s.next.length:=by omega
   have hrl:=hs4 _ (Ai6 hln)
   refine W6 (fun y S'=>S'=S1∧∃ j:Nat,y=aI j∧j≤s.next[i].length∧∀ k (hk:k<s.next[i].length),k<j→(decide (0≤s.next[i][k]) && decide (s.next[i][k]<s.valid.length))=true) (fun y _=>s.next[i].length - ((Aw y).getD 0).toNat) ⟨rfl,0,rfl,Ai9 _,fun k _ h=>absurd h (AiF _)⟩ ?_
   dsimp only[BS]
   rintro _ S1 ⟨rfl,j,rfl,hj,hjk⟩ KE2 hKE2
   dsimp only[iN,Fi,Lf]
   rw[Ac,Af o1 rfl rfl,AM hln,A3,Ay,As,Ag]
   refine Al (fun h=>?_) (fun h=>?_)
   ·have hjl:j<s.next[i].length:=by simpa using h
    rw[Ac,Af o1 rfl rfl,AM hln,A3,AM hjl,A3,As,Ag]
    have bad:¬ (0≤s.next[i][j]∧s.next[i][j]<s.valid.length)→(true && true && true && s.next.all fun x=>x.all fun i=>decide (0≤i) && decide (i<s.valid.length))=false:=by
     intro hn
     rw[Hz (l:=s.next) hln (Hz (l:=s.next[i]) (g:=fun i:Int=>decide (0≤i) && decide (i<s.valid.length)) hjl (by
      rw[Bool.and_eq_false_iff]
      by_cases h0:0≤s.next[i][j]
      ·exact .inr (decide_eq_false fun hh=>hn ⟨h0,hh⟩)
      ·exact .inl (decide_eq_false h0)))]
     rfl
    refine Al (fun h=>⟨?_,k1⟩) (fun h=>?_)
    ·rw[bad (fun hn=>by have:s.next[i][j]<0:=by simpa using h
                        omega)]
    have h0:0≤s.next[i][j]:=by simpa using h
    rw[Ac,Af o1 rfl rfl,AM hln,A3,AM hjl,A3,BA,Ag]
    refine Al (fun h=>⟨?_,k1⟩) (fun h=>?_)
    ·rw[bad (fun hn=>by have:(s.valid.length:Int)≤s.next[i][j]:=by simpa using h
                        omega)]
    have h1:s.next[i][j]<s.valid.length:=by simpa using h
    rw[Ar (by omega) (by omega)]
    refine hKE2 _ _ ⟨rfl,j+1,rfl,hjl,fun k hk1 hk2=>?_⟩ (by simp[Aw];omega)
    by_cases e:k=j
    ·subst e;simp[h0,h1]
    ·exact hjk k hk1 (by omega)
   ·have hge:j=s.next[i].length:=by simp at h;omega
    subst hge
    rw[Ar (by omega) (by omega)]
    refine hKE _ _ ⟨rfl,i+1,rfl,hlt,fun k hk1 hk2=>?_⟩ (by simp[Aw];omega)
    by_cases e:k=i
    ·subst e;exact Qo fun k hk1=>hjk k hk1 hk1
    ·exact hk k hk1 (by omega)
  ·have hge:i=s.valid.length:=by simp at h;omega
   subst hge
   refine⟨?_,k1⟩
   rw[Qo (l:=s.next) fun k hk1=>hk k hk1 (by omega)]
   rfl
theorem bI{s:Sp}{p q:List Bool}(h:p.length=q.length):fits s [p]=fits s [q]:=by rw[E2,E2,h]
theorem HL(s:Sp)(p q:List Bool):fits s [p,q]=(fits s [p] && fits s [q]):=by
 rw[E2,E2]
 simp only[fits,AjA,List.all_nil,AjF]
 cases decide (p.length=s.valid.length)<;>cases decide (q.length=s.valid.length)<;>cases decide (s.next.length=s.valid.length)<;>cases s.fair.all (fun p=>decide (p.length=s.valid.length))<;>simp
theorem Fit.one{s:Sp}(hs:s.small){p:List Bool}(h:fits s [p]=true):Fit s p:=Fit.of hs h (by simp)
theorem Fit.fits{s:Sp}{p:List Bool}(hf:Fit s p):fits s [p]=true:=by
 rw[E2]
 have h1:s.fair.all (fun p=>decide (p.length=s.valid.length))=true:=AiD.2 fun f hm=>by simpa using hf.fair f hm
 have h2:s.next.all (fun x=>x.all fun i=>decide (0≤i) && decide (i<s.valid.length))=true:=Qo fun k hk=>AiD.2 fun x hx=>by
  have:=hf.behind k x (by rw[ES hk];exact hx)
  simp[this.1,this.2]
 rw[h1,h2]
 simp[hf.len,hf.next]
theorem Aa4(s:Sp):∀ S,Ad Pg 120 [s.av] S (fun r S'=>r = .ret (aL (aL aB) (Bs s))∧Am S S'):=by
 intro S
 refine eT ?_
 dsimp only[AeI,Fi,Lf]
 refine Ai rfl fun S1 k1 n1 o1=>?_
 rw[Ac,Af o1 rfl rfl,Ay,AD,Ag]
 refine Al (fun h=>?_) (fun h=>?_)
 ·have he:s.fair = []:=List.eq_nil_of_length_eq_zero (by simpa using h)
  rw[Ac,Af o1 rfl rfl]
  refine BQ rfl (fun _ h=>by cases h) ⟨?_,k1⟩
  simp[Bs,he,aL]
 ·have he:s.fair.isEmpty=false:=by
    cases hq:s.fair with
    |nil=>rw[hq]at h;simp at h
    |cons x l=>rfl
  rw[Ac,Af o1 rfl rfl]
  exact⟨by simp[Bs,he],k1⟩
theorem Uq{s:Sp}(hs:s.small)(p:List Bool):BH Pg 121 [s.av,aL aB p] (aL aB (X1 s p)):=by
 intro S
 cases hfit:fits s [p]with
 |false =>
  rw[X1,hfit]
  refine Ad.Jo (R0 ?_)
  dsimp only[yK,Fi]
  refine Ai rfl fun S1 k1 n1 o1=>?_
  rw[An (n:=5) o1 rfl]
  refine Ae (Kr hs p) ?_
  rw[hfit,AI,Ag]
  exact⟨rfl,k1⟩
 |true =>
  rw[X1,hfit]
  have hf:=Fit.one hs hfit
  have hpl:=hf.len
  have hnl:=hf.next
  have hvl:=hs.1
  refine Ad.G8 (f:=fun b=>.bool b) (e:=4) (fun S'=>R0 ?_) S
  dsimp only[yK,Fi]
  refine Ai rfl fun S1 k1 n1 o1=>?_
  rw[An (n:=5) o1 rfl]
  refine Ae (Kr hs p) ?_
  rw[hfit,AI,Ag,show(!true)=false from rfl,AZ]
  refine W4 (fun y x T=>Am S' T∧S1.n≤T.n∧T.obj S'.n=some (.cells 45 [s.cells] true)∧∃ i:Nat,x=aI i∧i≤p.length∧A4 S1.n T y 4 ((CI i fun i=>bit s.valid i && (nx s i).any fun k=>bit p k.toNat).map fun b=>[aB b]))
   (fun _ x _=>p.length - ((Aw x).getD 0).toNat) ⟨k1,Ai4 _,o1,0,rfl,Ai9 _,.nl _ _ _⟩ ?_
  dsimp only[DE]
  rintro y _ S2 ⟨k2,hS2,q2,i,rfl,hi,w2⟩ KE hKE
  dsimp only[iH,Fi]
  rw[Ay,As,Ag]
  refine Al (fun h=>?_) (fun h=>?_)
  ·have hlt:i<p.length:=by simpa using h
   have hin:i<s.next.length:=by omega
   have hiv:i<s.valid.length:=by omega
   have hrl:=hs.2.2.2 _ (Ai6 hin)
   refine W3 (fun y x T=>T=S2∧∃(b:Bool) (j:Nat),y=aB b∧x=aI j∧j≤s.next[i].length∧b=(s.next[i].take j).any fun k=>bit p k.toNat) (fun _ x _=>s.next[i].length - ((Aw x).getD 0).toNat) ⟨rfl,false,0,rfl,rfl,Ai9 _,rfl⟩ ?_
   dsimp only[DE]
   rintro _ _ S2 ⟨rfl,b,j,rfl,rfl,hj,hb⟩ KE1 hKE1
   dsimp only[iF,Fi,Lf]
   rw[Ac,Af q2 rfl rfl,AM hin,A3,Ay,As,Ag]
   refine Al (fun h=>?_) (fun h=>?_)
   ·have hjl:j<s.next[i].length:=by simpa using h
    have hadd:∀ K:AV→Aa→Prop,∀ S,bin .add 0 (.v (.int .i64 (j:Int))) (.v (.int .i64 1)) S K=K (aI (j+1:Nat)) S:=fun K S=>Ar (by omega) (by omega) 0
    have hμ:s.next[i].length - ((Aw (aI (j+1:Nat))).getD 0).toNat<s.next[i].length - ((Aw (aI j)).getD 0).toNat:=by simp[Aw];omega
    have htk:(s.next[i].take (j+1)).any (fun k=>bit p k.toNat)=(b || bit p (s.next[i][j]).toNat):=by
     rw[AiR,Ai3 hjl,List.any_append,←hb]
     simp
    rw[Ag]
    refine Al (fun hb1=>?_) (fun hb1=>?_)
    ·rw[hadd]
     exact hKE1 _ _ _ ⟨rfl,true,j+1,rfl,rfl,hjl,by rw[htk,hb1];rfl⟩ hμ
    ·have hk:=hf.behind i s.next[i][j] (by rw[ES hin];exact Ai6 hjl)
     obtain⟨k,hk'⟩:=AiE hk.1
     have hkp:k<p.length:=by rw[hk']at hk;omega
     rw[Ac,Af q2 rfl rfl,AM hin,A3,AM hjl,A3]
     simp only[hk']
     rw[AM hkp,A3,hadd]
     exact hKE1 _ _ _ ⟨rfl,p[k],j+1,rfl,rfl,hjl,by rw[htk,hb1,hk',AiJ,Bc hkp];rfl⟩ hμ
   ·have hge:j=s.next[i].length:=by simp at h;omega
    subst hge
    rw[Aj3]at hb
    have step:∀ c:Bool,c=(bit s.valid i && (nx s i).any fun k=>bit p k.toNat)→Bo 4 1 1 y (.l [[aB c]]) S2 fun v10 S=>bin .add 0 (.v (.int .i64 (i:Int))) (.v (.int .i64 1)) S fun v11 S=>KE 55 (E8 (aL aB p) (.p S'.n 0 0) v10 v11) S:=by
     intro c hc
     refine w2.app (b:=1) (c:=[aB c]) (y:=.l [[aB c]]) hS2 rfl (by simp;omega) (fun x' S5 ho5 hb5 hx5=>?_) rfl
     rw[Ar (by omega) (by omega)]
     refine hKE _ _ _ ⟨w2.AS (by omega) hb5 k2,Nat.le_trans hS2 hb5.1,?_,i+1,rfl,hlt,?_⟩ (by simp[Aw];omega)
     ·rw[hb5.2 S'.n (by omega) (fun b m e=>by have:=w2.lt e;omega)]
      exact q2
     ·rw[Ht,AiB,←hc]
      exact ho5
    rw[Ag]
    refine Al (fun hb1=>?_) (fun hb1=>?_)
    ·rw[Ac,Af q2 rfl rfl,AM hiv,A3]
     refine BQ rfl (fun _ h=>by cases h) (step _ ?_)
     rw[Bc hiv,ES hin,←hb,hb1];simp
    ·refine BQ rfl (fun _ h=>by cases h) (step false ?_)
     rw[ES hin,←hb,hb1];simp
  ·have hge:i=p.length:=by simp at h;omega
   subst hge
   exact⟨_,rfl,k2,w2.low (by omega)⟩
theorem Uc:∀ l:List Bool,ND l≤l.length:=fun l=>List.length_filter_le _ _
theorem RT:∀ l:List Bool,ND l=l.length→∀ i,i<l.length→bit l i=true
 |[],_,i,h=>absurd h (AiF _)
 |x :: l,hc,i,h=>by
  have h1:=Uc l
  cases x with
  |false =>
   have:ND (false :: l)=ND l:=rfl
   rw[this]at hc
   simp at hc
   omega
  |true =>
   have e:ND (true :: l)=ND l+1:=rfl
   rw[e]at hc
   have hc':ND l=l.length:=by simpa using hc
   cases i with
   |zero=>rfl
   |succ i =>
    have:=RT l hc' i (by simpa using h)
    simpa[bit]using this
def UR(s:Sp)(p out:List Bool):List Bool:=EJ out (Bm (Bm p s.valid) (NC s out))
theorem lK(s:Sp)(p out:List Bool):(UR s p out).length=out.length:=by simp[UR]
theorem Yj{s:Sp}{p out:List Bool}(hl:out.length=p.length):Sub out (UR s p out):=fun i h=>by
 rw[UR,CU (by simp[hl]),h];rfl
theorem xT{s:Sp}{p q out:List Bool}(hf:Fit s p)(hl:out.length=p.length)(hq:q.length=p.length)(h:Sub out (IZ s p q)):Sub (UR s p out) (IZ s p q):=fun i hi=>by
 rw[UR,CU (by simp[hl]),Bool.or_eq_true]at hi
 rcases hi with hi|hi
 ·exact h i hi
 ·rw[Bj,Bj,Ai5,Ai5,K3]at hi
  obtain⟨⟨h1,h2⟩,h3,_,k,hk,hbk⟩:=hi
  have hkn:=hf.behind i k hk
  obtain⟨c,rfl⟩:=AiE hkn.1
  have hr:=(D7.1 (h _ hbk)).2
  exact D7.2 ⟨by omega,.step i c h1 h2 hk hr⟩
theorem lL{s:Sp}{p q out:List Bool}(hl:out.length=p.length)(hq:q.length=p.length)(hv:s.valid.length=p.length)(h0:Sub (Bm q s.valid) out)(h:Sub (UR s p out) out):Sub (IZ s p q) out:=fun i hi=>by
 have hr:=(D7.1 hi).2
 clear hi
 induction hr with
 |base i h1 h2=>exact h0 i (by rw[Bj,h1,h2];rfl)
 |step i k h1 h2 h3 hr ih =>
  refine h i ?_
  rw[UR,CU (by simp[hl]),Bj,Bj,h1,h2,Bool.or_eq_true]
  refine .inr ?_
  have:=Cj h1
  rw[Ai7,Ai7,K3]
  exact⟨by omega,h2,k,h3,by simpa using ih⟩
theorem j2{s:Sp}(hs:s.small)(p q:List Bool):BH Pg 122 [s.av,aL aB p,aL aB q] (aL aB (kL s p q)):=by
 intro S
 cases hfit:fits s [p]with
 |false =>
  rw[kL,HL,hfit]
  refine Ad.Jo (Nf ?_)
  dsimp only[Zz,Fi,Lf]
  refine Ai rfl fun S1 k1 n1 o1=>?_
  rw[An (n:=5) o1 rfl]
  refine Ae (Kr hs p) ?_
  rw[hfit,AI,Ag]
  exact⟨rfl,k1⟩
 |true =>
 cases hfiq:fits s [q]with
 |false =>
  rw[kL,HL,hfit,hfiq]
  refine Ad.Jo (Nf ?_)
  dsimp only[Zz,Fi,Lf]
  refine Ai rfl fun S1 k1 n1 o1=>?_
  rw[An (n:=5) o1 rfl]
  refine Ae (Kr hs p) ?_
  rw[hfit,AI,Ag,show(!true)=false from rfl,AZ,An (n:=5) o1 rfl]
  refine Ae (Kr hs q) ?_
  rw[hfiq,AI,Ag]
  exact⟨rfl,k1⟩
 |true =>
  rw[kL,HL,hfit,hfiq]
  have hfp:=Fit.one hs hfit
  have hfq:=Fit.one hs hfiq
  have hpl:=hfp.len
  have hql:=hfq.len
  have hvl:=hs.1
  refine Ad.B6 (f:=fun b=>.bool b) (Nf ?_)
  show Zz _ _ _ S (fun r S'=>r = .ret (aL aB (IZ s p q))∧Am S S')
  dsimp only[Zz,Fi,Lf]
  refine Ai rfl fun S1 k1 n1 o1=>?_
  rw[An (n:=5) o1 rfl]
  refine Ae (Kr hs p) ?_
  rw[hfit,AI,Ag,show(!true)=false from rfl,AZ,An (n:=5) o1 rfl]
  refine Ae (Kr hs q) ?_
  rw[hfiq,AI,Ag,show(!true)=false from rfl,AZ,Ac,Af o1 rfl rfl]
  refine Ae (Fh (by omega) (by omega)) ?_
  refine W2 (fun y x T=>T=S1∧∃(out:List Bool) (i:Nat),y=aL aB out∧x=aI i∧i≤p.length∧out.length=p.length∧Sub (Bm q s.valid) out∧Sub out (IZ s p q)∧i≤ND out)
   (fun _ x _=>p.length - ((Aw x).getD 0).toNat) ⟨rfl,_,0,rfl,rfl,Ai9 _,by simp;omega,Sub.refl _,fun i h=>?_,Ai9 _⟩ ?_
  ·rw[Bj,Ai5]at h
   exact D7.2 ⟨Cj h.1,.base i h.1 h.2⟩
  rintro _ _ S1 ⟨rfl,out,i,rfl,rfl,hi,hol,h0,hin,hc⟩ KE hKE
  dsimp only[iE,Fi,Lq,Ld]
  rw[Ay,As,Ag]
  refine Al (fun h=>?_) (fun h=>?_)
  ·have hlt:i<p.length:=by simpa using h
   have hfo:fits s [out]=true:=by rw[bI hol];exact hfit
   have e26:X1 s out=NC s out:=by rw[X1,hfo];rfl
   refine⟨_,by rw[Ac];exact⟨rfl,rfl⟩,_,by rw[Af o1 rfl rfl];exact⟨rfl,rfl⟩,_,Ae (Fh (by omega) (by omega)) ⟨rfl,rfl⟩,s.av,by rw[An (n:=5) o1 rfl];exact⟨rfl,rfl⟩,_,Ae (Uq hs out) ⟨rfl,rfl⟩,_,
    by rw[e26];exact Ae (Fh (by simp;omega) (by simp;omega)) ⟨rfl,rfl⟩,_,Ae (jV (by omega) (by simp;omega)) ⟨rfl,rfl⟩,?_⟩
   show Ah _ _ [aL aB (UR s p out),aL aB out] _ _ _
   have hrl:=lK s p out
   refine Ae (j1 (by omega)) ?_
   rw[Ag]
   refine Al (fun h=>⟨?_,k1⟩) (fun h=>?_)
   ·have he:UR s p out=out:=by simpa using h
    rw[Sub.zN (by simp;omega) hin (lL (q:=q) hol (by omega) (by omega) h0 (by rw[he];exact Sub.refl _))]
   ·have he:¬ UR s p out=out:=by simpa using h
    rw[Ar (by omega) (by omega)]
    have hcs:=Km (a:=out) (b:=UR s p out) (by omega) (Yj hol)
    refine hKE _ _ _ ⟨rfl,UR s p out,i+1,rfl,rfl,hlt,by omega,h0.trans (Yj hol),xT hfp hol (by omega) hin,?_⟩ (by simp[Aw];omega)
    have:ND out≠ND (UR s p out):=fun e=>he (hcs.2 e).symm
    omega
  ·have hge:i=p.length:=by simp at h;omega
   subst hge
   refine⟨?_,k1⟩
   have hcl:=Uc out
   rw[Sub.zN (by simp;omega) hin (fun i hi=>RT out (by omega) i (by have:=Cj hi;simp at this;omega))]
def Jc (s:Sp) (z:List Bool):Nat→List Bool
 |0=>z
 |k+1=>Bm (Jc s z k) (NC s (IZ s z (Bm z ((Bs s).getD k []))))
theorem Mp(s:Sp)(z:List Bool):∀ k,(Jc s z k).length=z.length
 |0=>rfl
 |k+1=>by simp[Jc,Mp s z k]
theorem Jz(s:Sp)(z:List Bool):∀ k,Sub (Jc s z k) z
 |0=>Sub.refl z
 |k+1=>fun i h=>by
  rw[Jc,Bj,Ai5]at h
  exact Jz s z k i h.1
theorem NW(s:Sp)(z:List Bool):∀ k,∀ j,j<k→Sub (Jc s z k) (Ee s z ((Bs s).getD j []))
 |0,j,h=>absurd h (AiF _)
 |k+1,j,h=>fun i hi=>by
  have hz:=Jz s z (k+1) i hi
  rw[Jc,Bj,Ai5]at hi
  by_cases e:j=k
  ·subst e
   rw[Ee,Bj,hz,hi.2];rfl
  ·exact NW s z k j (by omega) i hi.1
theorem Mq{s:Sp}{p z:List Bool}(h:H5 s p z)(hl:z.length=p.length):∀ k,k≤(Bs s).length→H5 s p (Jc s z k)
 |0,_=>h
 |k+1,hk=>fun y h1 h2 h3 i hi=>by
  have h4:=Mq h hl k (by omega) y h1 h2 h3 i hi
  have hm:(Bs s).getD k []∈Bs s:=by
   rw[Ai2,Ai3 (by omega)]
   exact Ai6 _
  have h5:=Gy (f:=(Bs s).getD k []) (h y h1 h2 h3) (by omega:y.length≤z.length) i (h3 _ hm i hi)
  rw[Ee,Bj,Ai5]at h5
  rw[Jc,Bj,h4,h5.2];rfl
theorem wL{s:Sp}(hs:s.small)(p:List Bool):BH Pg 85 [s.av,aL aB p] (aL aB (xF s p)):=by
 intro S
 cases hfit:fits s [p]with
 |false =>
  rw[xF,hfit]
  refine Ad.Jo (VB ?_)
  dsimp only[m85,Fi,Lf]
  refine Ai rfl fun S1 k1 n1 o1=>?_
  rw[An (n:=5) o1 rfl]
  refine Ae (Kr hs p) ?_
  rw[hfit,AI,Ag]
  exact⟨rfl,k1⟩
 |true =>
  rw[xF,hfit]
  have hf:=Fit.one hs hfit
  have hpl:=hf.len
  have hvl:=hs.1
  have hfll:=Oq hs
  refine Ad.B6 (f:=fun b=>.bool b) (VB ?_)
  show m85 _ _ S (fun r S'=>r = .ret (aL aB (DW s p))∧Am S S')
  dsimp only[m85,Fi,Lf]
  refine Ai rfl fun S1 k1 n1 o1=>?_
  rw[An (n:=5) o1 rfl]
  refine Ae (Kr hs p) ?_
  rw[hfit,AI,Ag,show(!true)=false from rfl,AZ,Ac,Af o1 rfl rfl]
  refine Ae (Fh (by omega) (by omega)) ?_
  refine ZF (fun y x T=>Am S1 T∧∃(z:List Bool) (r:Nat),y=aL aB z∧x=aI r∧r≤p.length+1∧z.length=p.length∧Sub z (Bm p s.valid)∧H5 s p z∧ND z+r≤p.length)
   (fun _ x _=>p.length+1 - ((Aw x).getD 0).toNat) ⟨Am.refl _,_,0,rfl,rfl,Ai9 _,by simp,Sub.refl _,fun y _ h _=>h,by have:=Uc (Bm p s.valid);simp at this;omega⟩ ?_
  dsimp only[DE]
  rintro _ _ S2 ⟨k2,z,r,rfl,rfl,hr,hzl,hzs,hza,hc⟩ KE hKE
  have q2:=(k2.2 S.n (by omega)).trans o1
  dsimp only[uQ,Fi]
  rw[Ay,C4,Ag]
  refine Al (fun h=>?_) (fun h=>?_)
  ·have hlt:r<p.length+1:=by simp at h;omega
   rw[An (n:=5) q2 rfl]
   refine .inl (Ad.mono (Aa4 s S2) ?_)
   rintro _ S3 ⟨rfl,k3⟩
   have q3:=(k3.2 S.n (by have:=k2.1;omega)).trans q2
   show Ap _ _ _ _ _ _
   refine ZE (fun y x T=>T=S3∧∃ k:Nat,y=aL aB (Jc s z k)∧x=aI k∧k≤(Bs s).length) (fun _ x _=>(Bs s).length - ((Aw x).getD 0).toNat) ⟨rfl,0,rfl,rfl,Ai9 _⟩ ?_
   dsimp only[DE]
   rintro _ _ S3 ⟨rfl,k,rfl,rfl,hk⟩ KE1 hKE1
   dsimp only[uP,Fi,Lq,Ld]
   rw[Ay,As,Ag]
   refine Al (fun h=>?_) (fun h=>?_)
   ·have hkl:k<(Bs s).length:=by simpa using h
    have hfe:(Bs s).getD k []=(Bs s)[k]:=by simp[Ai2,hkl]
    have hfle:=N2 hf (Ai6 hkl)
    have hrl:=Mp s z k
    have e1:kL s z (Bm z (Bs s)[k])=IZ s z (Bm z (Bs s)[k]):=by
     rw[kL,HL,(hf.with (by omega):Fit s z).fits,(hf.with (by simp;omega):Fit s (Bm z (Bs s)[k])).fits];rfl
    have e2:X1 s (IZ s z (Bm z (Bs s)[k]))=NC s (IZ s z (Bm z (Bs s)[k])):=by
     rw[X1,(hf.with (by simp;omega):Fit s (IZ s z (Bm z (Bs s)[k]))).fits];rfl
    refine⟨s.av,by rw[An (n:=5) q3 rfl];exact⟨rfl,rfl⟩,s.av,by rw[An (n:=5) q3 rfl];exact⟨rfl,rfl⟩,_,by rw[AM hkl];exact⟨rfl,rfl⟩,_,by rw[A3];exact⟨rfl,rfl⟩,_,Ae (Fh (by omega) (by omega)) ⟨rfl,rfl⟩,_,
     Ae (j2 hs z _) ⟨rfl,rfl⟩,_,Ae (Uq hs _) ⟨rfl,rfl⟩,_,by rw[e1,e2];exact Ae (Fh (by omega) (by simp;omega)) ⟨rfl,rfl⟩,?_⟩
    rw[Ar (by omega) (by omega)]
    exact hKE1 _ _ _ ⟨rfl,k+1,by rw[Jc,hfe],rfl,hkl⟩ (by simp[Aw];omega)
   ·have hge:k=(Bs s).length:=by simp at h;omega
    subst hge
    have hrl:=Mp s z (Bs s).length
    refine Ae (j1 (by omega)) ?_
    rw[Ag]
    refine Al (fun h=>⟨?_,(k1.trans k2).trans k3⟩) (fun h=>?_)
    ·have he:Jc s z (Bs s).length=z:=by simpa using h
     rw[←Vv hzl hzs hza (fun f hfm=>?_)]
     obtain⟨j,hj,rfl⟩:=List.mem_iff_getElem.1 hfm
     have:=NW s z (Bs s).length j hj
     rw[he]at this
     simpa[Ai2,hj]using this
    ·have he:¬ Jc s z (Bs s).length=z:=by simpa using h
     rw[Ar (by omega) (by omega)]
     have hcs:=Km (a:=Jc s z (Bs s).length) (b:=z) (by omega) (Jz s z _)
     have hne:ND (Jc s z (Bs s).length)≠ND z:=fun e=>he (hcs.2 e)
     refine hKE _ _ _ ⟨k2.trans k3,_,r+1,rfl,rfl,hlt,by omega,(Jz s z _).trans hzs,Mq hza hzl _ (Ai4 _),by omega⟩ (by simp[Aw];omega)
  ·have hge:p.length<r:=by simp at h;omega
   omega
structure In (s:Sp) (p:List Bool):Prop where
 len:p.length=s.valid.length
 sub:Sub p s.valid
def FI(s:Sp)(g:Nat→Bool):List Bool:=CI s.valid.length fun i=>bit s.valid i && g i
theorem Fe{s:Sp}{g:Nat→Bool}{i:Nat}:bit (FI s g) i=(bit s.valid i && g i):=by
 rcases AiS i s.valid.length with h|h
 ·rw[FI,C2 h]
 ·rw[FU (by simpa[FI]using h),FU h];rfl
theorem Ea(s:Sp)(g:Nat→Bool):In s (FI s g):=⟨by simp[FI],fun i h=>by
 rw[Fe,Ai5]at h;exact h.1⟩
theorem M6(s:Sp):In s s.valid:=⟨rfl,Sub.refl _⟩
def A5(s:Sp)(p:List Bool):List Bool:=FI s fun i=>!bit p i
theorem Bq(s:Sp)(p:List Bool):In s (A5 s p):=Ea _ _
theorem B5{s:Sp}{p:List Bool}{i:Nat}:bit (A5 s p) i=(bit s.valid i && !bit p i):=Fe
theorem In.and{s:Sp}{p q:List Bool}(h:In s p):In s (Bm p q):=⟨by simp[h.len],fun i hi=>by
 rw[Bj,Ai5]at hi;exact h.sub i hi.1⟩
theorem In.or{s:Sp}{p q:List Bool}(h:In s p)(k:In s q):In s (EJ p q):=⟨by simp[h.len],fun i hi=>by
 rw[CU (by rw[h.len,k.len]),Bool.or_eq_true]at hi
 rcases hi with hi|hi
 ·exact h.sub i hi
 ·exact k.sub i hi⟩
theorem In.ex{s:Sp}{p:List Bool}(h:p.length=s.valid.length):In s (NC s p):=⟨by simp[h],fun i hi=>(K3.1 hi).2.1⟩
theorem QO{s:Sp}{p q:List Bool}{i:Nat}(h:Reach s p q i):bit s.valid i=true:=by
 cases h<;>assumption
theorem In.eu{s:Sp}{p q:List Bool}(h:q.length=s.valid.length):In s (IZ s p q):=⟨by simp[h],fun i hi=>QO (D7.1 hi).2⟩
theorem In.eg{s:Sp}{p:List Bool}(h:p.length=s.valid.length):In s (DW s p):=⟨by simp[h],fun i hi=>by
 obtain⟨z,h1,h2,_,h4⟩:=K4.1 hi
 have:=h2 i h4
 rw[Bj,Ai5]at this
 exact this.2⟩
theorem In.eq{s:Sp}{p q:List Bool}(h:In s p)(k:In s q)(e:∀ i,bit s.valid i=true→bit p i=bit q i):p=q:=
 PZ (by rw[h.len,k.len]) fun i=>by
  cases hv:bit s.valid i with
  |true=>exact e i hv
  |false =>
   cases hp:bit p i with
   |true=>rw[h.sub i hp]at hv;cases hv
   |false=>cases hq:bit q i with
    |true=>rw[k.sub i hq]at hv;cases hv
    |false=>rfl
theorem bS{s:Sp}{p q:List Bool}(h:In s p):FI s (fun i=>bit p i && bit q i)=Bm p q:=
 (Ea _ _).eq h.and fun i hi=>by rw[Fe,Bj,hi,Ai7]
theorem nW{s:Sp}{p q:List Bool}(h:In s p)(k:In s q):FI s (fun i=>bit p i || bit q i)=EJ p q:=
 (Ea _ _).eq (h.or k) fun i hi=>by rw[Fe,CU (by rw[h.len,k.len]),hi,Ai7]
theorem Xv{s:Sp}{p q:List Bool}(h:In s p)(k:In s q):FI s (fun i=>bit p i == bit q i)=EJ (Bm p q) (A5 s (EJ p q)):=
 (Ea _ _).eq (h.and.or (Bq _ _)) fun i hi=>by
  rw[Fe,CU (by rw[h.and.len,(Bq _ _).len]),Bj,B5,CU (by rw[h.len,k.len]),hi]
  cases bit p i<;>cases bit q i<;>rfl
theorem not_or{s:Sp}{p q:List Bool}(h:In s p)(k:In s q):Bm (A5 s p) (A5 s q)=A5 s (EJ p q):=
 (Bq _ _).and.eq (Bq _ _) fun i hi=>by
  rw[Bj,B5,B5,B5,CU (by rw[h.len,k.len]),hi]
  cases bit p i<;>cases bit q i<;>rfl
def DH (s:Sp) (fr p:List Bool):List Bool:=NC s (Bm p fr)
def Bn (s:Sp) (fr p q:List Bool):List Bool:=IZ s p (Bm q fr)
def QY (s:Sp) (fr:List Bool) (k:Int) (p:List Bool):List Bool:=
 if k=9 then DH s fr p else if k=10 then A5 s (DH s fr (A5 s p))else if k=11 then Bn s fr s.valid p else if k=12 then A5 s (DW s (A5 s p))
 else if k=13 then DW s p else if k=14 then A5 s (Bn s fr s.valid (A5 s p))else A5 s p
def QD (s:Sp) (fr:List Bool) (k:Int) (p q:List Bool):List Bool:=
 if k=5 then Bm p q else if k=6 then EJ p q else if k=7 then EJ (A5 s p) q else if k=8 then EJ (Bm p q) (A5 s (EJ p q))
 else if k=15 then Bn s fr p q else if k=16 then A5 s (EJ (Bn s fr (A5 s q) (A5 s (EJ p q))) (DW s (A5 s q)))
 else if k=17 then EJ (DW s q) (Bn s fr q (Bm p q))else A5 s (Bn s fr (A5 s p) (A5 s q))
theorem TY{s:Sp}{fr p:List Bool}(hp:In s p)(k:Int):In s (QY s fr k p):=by
 have h1:∀ q:List Bool,In s q→In s (DH s fr q):=fun q hq=>In.ex (by simp[hq.len])
 have h2:∀ p q:List Bool,In s q→In s (Bn s fr p q):=fun p q hq=>In.eu (by simp[hq.len])
 unfold QY
 repeat' split
 all_goals first|exact Bq _ _|exact h1 _ hp|exact h2 _ _ hp|exact In.eg hp.len
theorem bD{s:Sp}{fr p q:List Bool}(hp:In s p)(hq:In s q)(k:Int):In s (QD s fr k p q):=by
 have h2:∀ p q:List Bool,In s q→In s (Bn s fr p q):=fun p q hq=>In.eu (by simp[hq.len])
 unfold QD
 repeat' split
 all_goals first|exact Bq _ _|exact hp.and|exact hp.or hq|exact(Bq _ _).or hq|exact hp.and.or (Bq _ _)|exact h2 _ _ hq|exact(In.eg hq.len).or (h2 _ _ hp.and)
inductive Rc (s:Sp) (p q:List Bool):Nat→Prop
 |base (i:Nat) (h1:bit q i=true):Rc s p q i
 |step (i k:Nat) (h1:bit p i=true) (h3:(k:Int)∈nx s i) (h:Rc s p q k):Rc s p q i
def CR(n t:Nat):List Bool:=CI n fun i=>decide (i=t)
@[simp] theorem NY(n t:Nat):(CR n t).length=n:=OK _ _
theorem Fc{n t i:Nat}:bit (CR n t) i=true↔i=t∧i<n:=by
 constructor
 ·intro h
  have hi:i<n:=by simpa using Cj h
  rw[CR,C2 hi]at h
  exact⟨dT h,hi⟩
 ·rintro⟨rfl,hi⟩
  rw[CR,C2 hi]
  exact decide_eq_true rfl
theorem Reach.rc{s:Sp}{p q:List Bool}{i:Nat}(h:Reach s p q i):Rc s p q i:=by
 induction h with
 |base i h1 h2=>exact .base i h1
 |step i k h1 h2 h3 h ih=>exact .step i k h1 h3 ih
theorem Rc.reach{s:Sp}{p q:List Bool}(hp:Sub p s.valid)(hq:Sub q s.valid){i:Nat}(h:Rc s p q i):Reach s p q i:=by
 induction h with
 |base i h1=>exact .base i h1 (hq i h1)
 |step i k h1 h3 h ih=>exact .step i k h1 (hp i h1) h3 ih
theorem Rc.AaS{s:Sp}{p q:List Bool}{n v u:Nat}(h:Rc s p (CR n v) u)(k:Rc s p q v):Rc s p q u:=by
 induction h with
 |base i h1=>obtain⟨rfl,_⟩:=Fc.1 h1;exact k
 |step i j h1 h3 h ih=>exact .step i j h1 h3 ih
theorem Rc.end_{s:Sp}{p q:List Bool}{n:Nat}(hn:q.length≤n){u:Nat}(h:Rc s p q u):∃ v,bit q v=true∧Rc s p (CR n v) u:=by
 induction h with
 |base i h1=>exact⟨i,h1,.base i (Fc.2 ⟨rfl,by have:=Cj h1;omega⟩)⟩
 |step i j h1 h3 h ih =>
  obtain⟨v,h4,h5⟩:=ih
  exact⟨v,h4,.step i j h1 h3 h5⟩
theorem Rc.first{s:Sp}{p q z:List Bool}(hz:∀ i,bit p i=true→bit z i=true)(hq:∀ i,bit q i=true→bit z i=true){u:Nat}(h:Rc s p q u):bit z u=true:=by
 cases h with
 |base _ h1=>exact hq _ h1
 |step _ k h1 _ _=>exact hz _ h1
theorem lA{s:Sp}{p:List Bool}:s6 s (Bs s) (DW s p):=fun f hf i hi=>by
 obtain⟨z,h1,h2,h3,h4⟩:=K4.1 hi
 have hz:Sub z (DW s p):=fun j hj=>K4.2 ⟨z,h1,h2,h3,hj⟩
 exact Gy hz (by rw[h1,P2];exact Ai4 _) i (h3 f hf i h4)
theorem uA{s:Sp}{p:List Bool}:Sub (DW s p) (Bm p s.valid):=fun i hi=>by
 obtain⟨z,h1,h2,h3,h4⟩:=K4.1 hi
 exact h2 i h4
structure Home (s:Sp) (z:List Bool) (t:Nat):Prop where
 in_:bit z t=true
 mS:∀ f∈s.fair,Rc s z (Bm (Bm z f) (IZ s z (CR s.valid.length t))) t
 round:∃ k:Nat,(k:Int)∈nx s t∧Rc s z (CR s.valid.length t) k
open Classical in
theorem nB{s:Sp}(hs:∀ i,∀ k∈nx s i,0≤k){p:List Bool}(hp:p.length=s.valid.length){a:Nat}(ha:bit (DW s p) a=true):∃ t,Rc s (DW s p) (CR s.valid.length t) a∧Home s (DW s p) t:=by
 let z:=DW s p
 let n:=s.valid.length
 have zl:z.length=n:=by show(DW s p).length=_;rw[P2,hp]
 have zin:∀ i,bit z i=true→bit s.valid i=true:=fun i hi=>by
  have:=uA i hi
  rw[Bj,Ai5]at this
  exact this.2
 have zlt:∀ i,bit z i=true→i<n:=fun i hi=>Cj (zin i hi)
 let R:Nat→Nat→Prop:=fun u v=>Rc s z (CR n v) u
 have Rr:∀ u,bit z u=true→R u u:=fun u hu=>.base u (Fc.2 ⟨rfl,zlt u hu⟩)
 have Rt:∀{u v w},R u v→R v w→R u w:=fun h k=>Rc.AaS h k
 let N:Nat→List Bool:=fun u=>CI n fun w=>decide (bit z w=true∧R u w)
 have bN:∀{u w},bit (N u) w=true↔bit z w=true∧R u w:=fun{u w}=>by
  constructor
  ·intro h
   have hw:w<n:=by have:=Cj h;simpa[N]using this
   have h:bit (CI n fun w=>decide (bit z w=true∧R u w)) w=true:=h
   rw[C2 hw]at h
   exact dT h
  ·intro h
   show bit (CI n fun w=>decide (bit z w=true∧R u w)) w=true
   rw[C2 (zlt w h.1)]
   exact decide_eq_true h
 obtain⟨m,⟨t,h1,h2,rfl⟩,hmin⟩:=GX (p:=fun m=>∃ t,bit z t=true∧R a t∧ND (N t)=m) ⟨_,a,ha,Rr a ha,rfl⟩
 have back:∀ u,bit z u=true→R t u→R u t:=fun u hu hr=>by
  have hsub:Sub (N u) (N t):=fun w hw=>bN.2 ⟨(bN.1 hw).1,Rt hr (bN.1 hw).2⟩
  obtain⟨c1,c2⟩:=Km (by simp[N]) hsub
  have c3:=hmin _ ⟨u,hu,Rt h2 hr,rfl⟩
  have e:=c2 (by omega)
  exact(bN.1 (e ▸ bN.2 ⟨h1,Rr t h1⟩)).2
 have out:∀ f∈Bs s,∃ k u:Nat,(k:Int)∈nx s t∧bit z k=true∧R k u∧bit (Bm z f) u=true:=fun f hf=>by
  have h:=lA (p:=p) f hf t h1
  rw[Ee,Bj,Ai5,K3]at h
  obtain⟨_,_,_,k,h5,h6⟩:=h
  have hk:=hs t k h5
  rw[D7]at h6
  obtain⟨u,h7,h8⟩:=h6.2.rc.end_ (n:=n) (by rw[DP];exact Nat.le_of_eq zl)
  exact⟨k.toNat,u,by rw[Int.toNat_of_nonneg hk];exact h5,Rc.first (z:=z) (fun _ h=>h) (fun i hi=>by
   rw[Bj,Ai5]at hi;exact hi.1) h6.2.rc,h8,h7⟩
 have tl:(CR n t).length=n:=by simp
 have tin:Sub (CR n t) s.valid:=fun i hi=>by obtain⟨rfl,_⟩:=Fc.1 hi;exact zin _ h1
 refine⟨t,h2,h1,fun f hf=>?_,?_⟩
 ·have hf2:f∈Bs s:=by
    unfold Bs
    rw[if_neg]
    ·exact hf
    ·intro e
     rw[List.isEmpty_iff.1 e]at hf
     cases hf
  obtain⟨k,u,h3,h4,h5,h6⟩:=out f hf2
  rw[Bj,Ai5]at h6
  have tu:R t u:=.step t k h1 h3 h5
  refine Rc.AaS tu (.base u ?_)
  rw[Bj,Bj,h6.1,h6.2,Ai7,Ai7,D7]
  exact⟨by rw[tl];exact zlt u h6.1,Rc.reach zin tin (back u h6.1 tu)⟩
 ·have hne:∃ f,f∈Bs s:=by
    unfold Bs
    split
    ·exact⟨_,AiA.2 rfl⟩
    ·rename_i e
     cases hf:s.fair with
     |nil=>rw[hf]at e;simp at e
     |cons f l=>exact⟨f,by simp⟩
  obtain⟨f,hf⟩:=hne
  obtain⟨k,u,h3,h4,h5,h6⟩:=out f hf
  exact⟨k,h3,back k h4 (.step t k h1 h3 (Rr k h4))⟩
def gN(r:List Nat)(i:Nat):Nat:=r.getD i 0
structure C9 (s:Sp) (p:List Bool) (a:Nat) (r:List Nat):Prop where
 pos:r≠[]
 fst:gN r 0=a
 by_:∀ i,i+1<r.length→bit p (gN r i)=true
 nxt:∀ i,i+1<r.length→(gN r (i+1):Int)∈nx s (gN r i)
def Br(r:List Nat):Nat:=gN r (r.length - 1)
theorem DL{r r2:List Nat}{i:Nat}:gN (r++r2) i=if i<r.length then gN r i else gN r2 (i - r.length):=by
 unfold gN
 rw[Ai2,Ai2,Ai2]
 split
 ·rw[List.getElem?_append_left (by assumption)]
 ·rw[List.getElem?_append_right (by omega)]
theorem nD{r:List Nat}{i:Nat}:gN r.tail i=gN r (i+1):=by cases r<;>rfl
theorem KV{r r2:List Nat}(h:r2≠[]):Br (r++r2)=Br r2:=by
 have:=AiM.2 h
 unfold Br
 rw[AiK,DL,if_neg (by omega)]
 congr 1;omega
theorem C9.one(s:Sp)(p:List Bool)(a:Nat):C9 s p a [a]:=⟨by simp,rfl,fun i h=>by simp at h,fun i h=>by simp at h⟩
theorem C9.app{s:Sp}{p:List Bool}{a:Nat}{r r2:List Nat}(h:C9 s p a r)(k:C9 s p (Br r) r2):C9 s p a (r++r2.tail)∧Br (r++r2.tail)=Br r2∧(∀ i,i<r.length→gN (r++r2.tail) i=gN r i)∧∀ i,0<i→i<r2.length→gN (r++r2.tail) (r.length - 1+i)=gN r2 i:=by
 have h0:=AiM.2 h.pos
 have k0:=AiM.2 k.pos
 have g1:∀ i,i<r.length→gN (r++r2.tail) i=gN r i:=fun i hi=>by rw[DL,if_pos hi]
 have g2:∀ i,0<i→i<r2.length→gN (r++r2.tail) (r.length - 1+i)=gN r2 i:=fun i hi hi2=>by
  rw[DL,if_neg (by omega),nD];congr 1;omega
 have g3:∀ i,i<r2.length→gN (r++r2.tail) (r.length - 1+i)=gN r2 i:=fun i hi=>by
  by_cases e:i=0
  ·subst e
   rw[Nat.add_zero,g1 _ (by omega),k.fst];rfl
  ·exact g2 i (by omega) hi
 have hl:(r++r2.tail).length=r.length+(r2.length - 1):=by simp
 have split:∀ i,i+1<(r++r2.tail).length→i+1<r.length∨∃ j,i=r.length - 1+j∧j+1<r2.length:=fun i hi=>by
  by_cases e:i+1<r.length
  ·exact .inl e
  ·exact .inr ⟨i - (r.length - 1),by omega,by omega⟩
 refine⟨⟨by simp[h.pos],by rw[g1 0 h0];exact h.fst,fun i hi=>?_,fun i hi=>?_⟩,?_,g1,g2⟩
 ·rcases split i hi with h1|⟨j,rfl,h1⟩
  ·rw[g1 i (by omega)];exact h.by_ i h1
  ·rw[g3 j (by omega)];exact k.by_ j h1
 ·rcases split i hi with h1|⟨j,rfl,h1⟩
  ·rw[g1 i (by omega),g1 _ h1];exact h.nxt i h1
  ·rw[g3 j (by omega),Nat.add_assoc,g3 _ h1];exact k.nxt j h1
 ·show gN _ ((r++r2.tail).length - 1)=gN r2 (r2.length - 1)
  rw[hl,show r.length+(r2.length - 1) - 1=r.length - 1+(r2.length - 1)by omega,g3 _ (by omega)]
theorem C9.snoc{s:Sp}{p:List Bool}{a t:Nat}{r:List Nat}(h:C9 s p a r)(hb:bit p (Br r)=true)(ht:(t:Int)∈nx s (Br r)):C9 s p a (r ++ [t]):=by
 have h0:=AiM.2 h.pos
 have hl:(r ++ [t]).length=r.length+1:=by simp
 refine⟨by simp,by rw[DL,if_pos h0];exact h.fst,fun i hi=>?_,fun i hi=>?_⟩
 ·rw[hl]at hi
  rw[DL,if_pos (by omega)]
  by_cases e:i+1=r.length
  ·have:gN r i=Br r:=by unfold Br;congr 1;omega
   rw[this];exact hb
  ·exact h.by_ i (by omega)
 ·rw[hl]at hi
  rw[DL,DL,if_pos (show i<r.length by omega)]
  by_cases e:i+1=r.length
  ·have:gN r i=Br r:=by unfold Br;congr 1;omega
   rw[if_neg (by omega),this,e,Nat.sub_self];exact ht
  ·rw[if_pos (by omega)];exact h.nxt i (by omega)
structure Wy (s:Sp) (p q:List Bool) (a least:Nat) (r:List Nat):Prop where
 ch:C9 s p a r
 to:bit q (Br r)=true
 len:least<r.length
 small:r.length≤p.length+1
structure kC (s:Sp) (p:List Bool) (t:Nat) (r:List Nat):Prop where
 pos:r≠[]
 fst:gN r 0=t
 by_:∀ i,i<r.length→bit p (gN r i)=true
 nxt:∀ i,i+1<r.length→(gN r (i+1):Int)∈nx s (gN r i)
 back:(t:Int)∈nx s (Br r)
 met:∀ f∈s.fair,∃ i,i<r.length∧bit f (gN r i)=true
structure Lp (s:Sp) (p:List Bool) (a:Nat) (r:List Nat) (at_:Nat):Prop where
 pos:r≠[]
 fst:gN r 0=a
 by_:∀ i,i<r.length→bit p (gN r i)=true
 nxt:∀ i,i+1<r.length→(gN r (i+1):Int)∈nx s (gN r i)
 lt:at_<r.length
 back:(gN r at_:Int)∈nx s (Br r)
 met:∀ f∈s.fair,∃ i,at_≤i∧i<r.length∧bit f (gN r i)=true
theorem PX{r:List Nat}{n i:Nat}(h:i<n):gN (r.take n) i=gN r i:=by
 unfold gN
 rw[Ai2,Ai2,List.getElem?_take,if_pos h]
theorem kC.loop{s:Sp}{p:List Bool}{a t:Nat}{w r:List Nat}(h:C9 s p a w)(ht:Br w=t)(k:kC s p t r):Lp s p a (w.take (w.length - 1)++r) (w.length - 1):=by
 have h0:=AiM.2 h.pos
 have k0:=AiM.2 k.pos
 have hl:(w.take (w.length - 1)).length=w.length - 1:=by rw[AiW];omega
 have hL:(w.take (w.length - 1)++r).length=w.length - 1+r.length:=by rw[AiK,hl]
 have g1:∀ i,i<w.length - 1→gN (w.take (w.length - 1)++r) i=gN w i:=fun i hi=>by rw[DL,hl,if_pos hi,PX hi]
 have g2:∀ i,gN (w.take (w.length - 1)++r) (w.length - 1+i)=gN r i:=fun i=>by rw[DL,hl,if_neg (by omega)];congr 1;omega
 have gw:gN (w.take (w.length - 1)++r) (w.length - 1)=t:=by have:=g2 0;rw[Nat.add_zero]at this;rw[this];exact k.fst
 have split:∀ i,i<w.length - 1+r.length→i<w.length - 1∨∃ j,i=w.length - 1+j∧j<r.length:=fun i hi=>by
  by_cases e:i<w.length - 1
  ·exact .inl e
  ·exact .inr ⟨i - (w.length - 1),by omega,by omega⟩
 have glast:Br (w.take (w.length - 1)++r)=Br r:=KV k.pos
 refine⟨by simp[k.pos],?_,fun i hi=>?_,fun i hi=>?_,by omega,?_,fun f hf=>?_⟩
 ·by_cases e:w.length=1
  ·have h2:=g2 0
   rw[e]at h2
   have:gN (w.take (w.length - 1)++r) 0=t:=by
    rw[e];have:=h2;simp only[Nat.sub_self,AiG]at this ⊢;rw[this];exact k.fst
   rw[this,←ht,←h.fst]
   unfold Br;rw[e]
  ·rw[g1 0 (by omega)];exact h.fst
 ·rw[hL]at hi
  rcases split i hi with h1|⟨j,rfl,h1⟩
  ·rw[g1 i h1];exact h.by_ i (by omega)
  ·rw[g2];exact k.by_ j h1
 ·rw[hL]at hi
  rcases split i (by omega)with h1|⟨j,rfl,h1⟩
  ·rw[g1 i h1]
   by_cases e:i+1<w.length - 1
   ·rw[g1 _ e];exact h.nxt i (by omega)
   ·have e2:i+1=w.length - 1:=by omega
    rw[e2,gw,←ht]
    have:=h.nxt i (by omega)
    rw[e2]at this
    exact this
  ·rw[g2,Nat.add_assoc,g2];exact k.nxt j (by omega)
 ·rw[gw,glast];exact k.back
 ·obtain⟨i,h1,h2⟩:=k.met f hf
  exact⟨w.length - 1+i,by omega,by omega,by rw[g2];exact h2⟩
section
set_option maxRecDepth 100000
def Su:Code:=(Tryz.f80.body).getD .skip
def r80:List ResultVar:=Tryz.f80.results.toList
def Io(y3 y4 y5 y8 y9 y10:AV):List AV:=[y3,y4,y5,y8,y9,y10]
def Tm:List Nat:=[3,4,5,8,9,10]
def LY(y3 y5 y8 y9 y11:AV):List AV:=[y3,y5,y8,y9,y11]
def MP:List Nat:=[3,5,8,9,11]
def Im(y3 y5 y8 y9 y11 y12 y13:AV):List AV:=[y3,y5,y8,y9,y11,y12,y13]
def Tl:List Nat:=[3,5,8,9,11,12,13]
def HB:List (List Nat):=[Tm,MP,Tl,[]]
def m80(x0 x1 x2:AV)(S:Aa)(Q:Aq):Prop:=
 Az 29 8 x0 S fun a S=>Az 32 4 x1 S fun c S=>Az 51 5 x2 S fun d S=>Lf d 3 S fun e S=>AG e S fun f S=>(fun S0:Aa=>∃ g:AV,(bin .lss 0 f (aI 1) S0 fun h S=>h=g∧S=S0)∧∃ t9:Bool,BD g false=some t9∧∃ i:AV,gd t9 (shift d 3 S0 fun k S=>k=i∧S=S0) (i = .v undef)∧∃ t12:Bool,BD g false=some t12∧∃ l:AV,gd t12 (Ax i S0 fun m S=>m=l∧S=S0) (l = .v undef)∧∃ t15:Bool,BD g false=some t15∧∃ n:AV,gd t15 (AR 3 1 l (aI 0) S0 fun o S=>o=n∧S=S0) (n = .v undef)∧∃ t18:Bool,BD g false=some t18∧∃ p:AV,gd t18 (Ax n S0 fun q S=>q=p∧S=S0) (p = .v undef)∧∃ t21:Bool,BD g false=some t21∧∃ r:AV,gd t21 (shift d 1 S0 fun s S=>s=r∧S=S0) (r = .v undef)∧∃ t24:Bool,BD g false=some t24∧∃ u:AV,gd t24 (Ax r S0 fun w S=>w=u∧S=S0) (u = .v undef)∧∃ t27:Bool,BD g false=some t27∧∃ x:AV,gd t27 (bin .neq 0 p u S0 fun y S=>y=x∧S=S0) (x = .v undef)∧∃ z:AV,(pick g (.v (.bool true)) x S0 fun A S=>A=z∧S=S0)∧∃ t32:Bool,BD z false=some t32∧∃ B:AV,gd t32 (shift d 2 S0 fun C S=>C=B∧S=S0) (B = .v undef)∧∃ t35:Bool,BD z false=some t35∧∃ D:AV,gd t35 (Ax B S0 fun E S=>E=D∧S=S0) (D = .v undef)∧∃ t38:Bool,BD z false=some t38∧∃ F:AV,gd t38 (bin .lss 0 D (aI 0) S0 fun G S=>G=F∧S=S0) (F = .v undef)∧∃ H:AV,(pick z (.v (.bool true)) F S0 fun I S=>I=H∧S=S0)∧∃ t43:Bool,BD H false=some t43∧∃ J:AV,gd t43 (shift d 2 S0 fun K S=>K=J∧S=S0) (J = .v undef)∧∃ t46:Bool,BD H false=some t46∧∃ L:AV,gd t46 (Ax J S0 fun M S=>M=L∧S=S0) (L = .v undef)∧∃ t49:Bool,BD H false=some t49∧∃ N:AV,gd t49 (N=f) (N = .v undef)∧∃ t51:Bool,BD H false=some t51∧∃ O:AV,gd t51 (bin .geq 0 L N S0 fun P S=>P=O∧S=S0) (O = .v undef)∧∃ R:AV,(pick H (.v (.bool true)) O S0 fun T S=>T=R∧S=S0)∧∃ t56:Bool,BD R false=some t56∧∃ U:AV,gd t56 (shift d 0 S0 fun V S=>V=U∧S=S0) (U = .v undef)∧∃ t59:Bool,BD R false=some t59∧∃ W:AV,gd t59 (Ax U S0 fun X S=>X=W∧S=S0) (W = .v undef)∧∃ t62:Bool,BD R false=some t62∧∃ Y:AV,gd t62 (bin .neq 0 W (aI 6) S0 fun Z S=>Z=Y∧S=S0) (Y = .v undef)∧∃ a0:AV,(pick R (.v (.bool true)) Y S0 fun a1 S=>a1=a0∧S=S0)∧∃ t67:Bool,BD a0 false=some t67∧∃ a2:AV,gd t67 (AA 8 a S0 fun a3 S=>a3=a2∧S=S0) (a2 = .v undef)∧∃ t70:Bool,BD a0 false=some t70∧∃ a4:AV,gd t70 (shift d 3 S0 fun a5 S=>a5=a4∧S=S0) (a4 = .v undef)∧∃ t73:Bool,BD a0 false=some t73∧∃ a6:AV,gd t73 (Ax a4 S0 fun a7 S=>a7=a6∧S=S0) (a6 = .v undef)∧∃ t76:Bool,BD a0 false=some t76∧∃ a8:AV,gd t76 (a8=f) (a8 = .v undef)∧∃ t78:Bool,BD a0 false=some t78∧∃ a9:AV,gd t78 (bin .sub 0 a8 (aI 1) S0 fun b0 S=>b0=a9∧S=S0) (a9 = .v undef)∧∃ t81:Bool,BD a0 false=some t81∧∃ b1:AV,gd t81 (AR 3 1 a6 a9 S0 fun b2 S=>b2=b1∧S=S0) (b1 = .v undef)∧∃ t84:Bool,BD a0 false=some t84∧∃ b3:AV,gd t84 (Ax b1 S0 fun b4 S=>b4=b3∧S=S0) (b3 = .v undef)∧∃ t87:Bool,BD a0 false=some t87∧∃ b5:AV,gd t87 (shift d 3 S0 fun b6 S=>b6=b5∧S=S0) (b5 = .v undef)∧∃ t90:Bool,BD a0 false=some t90∧∃ b7:AV,gd t90 (Ax b5 S0 fun b8 S=>b8=b7∧S=S0) (b7 = .v undef)∧∃ t93:Bool,BD a0 false=some t93∧∃ b9:AV,gd t93 (shift d 2 S0 fun c0 S=>c0=b9∧S=S0) (b9 = .v undef)∧∃ t96:Bool,BD a0 false=some t96∧∃ c1:AV,gd t96 (Ax b9 S0 fun c2 S=>c2=c1∧S=S0) (c1 = .v undef)∧∃ t99:Bool,BD a0 false=some t99∧∃ c3:AV,gd t99 (AR 3 1 b7 c1 S0 fun c4 S=>c4=c3∧S=S0) (c3 = .v undef)∧∃ t102:Bool,BD a0 false=some t102∧∃ c5:AV,gd t102 (Ax c3 S0 fun c6 S=>c6=c5∧S=S0) (c5 = .v undef)∧∃ t105:Bool,BD a0 false=some t105∧∃ c7:AV,gd t105 (Ah Pg 75 [a2,b3,c5] S0 (fun _ _=>False) fun c8 S=>c8=c7∧S=S0) (c7 = .v undef)∧∃ t108:Bool,BD a0 false=some t108∧∃ c9:AV,gd t108 (un .not c7 S0 fun d0 S=>d0=c9∧S=S0) (c9 = .v undef)∧∃ d1:AV,(pick a0 (.v (.bool true)) c9 S0 fun d2 S=>d2=d1∧S=S0)∧(fun S:Aa=>Fi d1 (Q (.ret (.t Jt)) S) (Ap Tm (vc Pg (Su.at_ [1,1,1,1,0,1,0,0]) (HB.drop 1)) 131 (Io a c d f .nl (aI 0)) S (Ak 0 (Av (vc Pg (Su.at_ [1,1,1,1,1]) (HB.drop 1)) (Ao Pg r80 Q))))) S0) S
theorem oZ{x0 x1 x2:AV}{S:Aa}{Q:Aq}(h:m80 x0 x1 x2 S Q):Ad Pg 80 [x0,x1,x2] S Q:=
 Bl (n:=131) HB Tryz.func80 (by kernel_rfl) (Eq.mpr (by kernel_rfl) h)
abbrev Qc(y4:AV)(S:Aa)(y9 y10:AV)(KE0:BB)(y3 y5 y8:AV):Prop:=Lf y4 3 S fun a S=>AR 32 4 a (aI 0) S fun c S=>AA 4 c S fun d S=>AU 32 4 1 CK [(0,d)] S fun e S=>Bo 32 4 56 y9 e S fun f S=>bin .add 0 y10 (aI 1) S fun g S=>KE0 131 (Io y3 y4 y5 y8 f g) S
def uU(y3 y4 y5 y8 y9 y10:AV)(S:Aa)(KE0:BB)(Q:Aq):Prop:=
 bin .lss 0 y10 y8 S fun a S=>Fi a ((fun S0:Aa=>Lq S0 (bin .gtr 0 y10 (aI 0)) fun c=>Fi c (Lq S0 (AA 8 y3) fun d=>Lq S0 (shift y5 3) fun e=>Lq S0 (Ax e) fun f=>Lq S0 (bin .sub 0 y10 (aI 1)) fun g=>Lq S0 (AR 3 1 f g) fun h=>Lq S0 (Ax h) fun i=>Lq S0 (shift y5 3) fun k=>Lq S0 (Ax k) fun l=>Lq S0 (AR 3 1 l y10) fun m=>Lq S0 (Ax m) fun n=>Ld S0 75 [d,i,n] fun o=>Lq S0 (un .not o) fun p=>∃ q:AV,(p=q∧S=S0)∧Fi q (Q (.ret (.t Jt)) S) (Qc y4 S y9 y10 KE0 y3 y5 y8)) (∃ r:AV,((.v (.bool false))=r∧S=S0)∧Fi r (Q (.ret (.t Jt)) S) (Qc y4 S y9 y10 KE0 y3 y5 y8))) S) (Ap MP (vc Pg (Su.at_ [1,1,1,1,1,0,1,0,0]) (HB.drop 2)) 131 (LY y3 y5 y8 y9 (aI 0)) S (Ak 2 (Av (vc Pg (Su.at_ [1,1,1,1,1,1]) (HB.drop 3)) (Ao Pg r80 Q))))
theorem ZJ{y3 y4 y5 y8:AV}{y90 y100:AV}{S:Aa}{Q:Aq}(I:AV→AV→Aa→Prop)(μ:AV→AV→Aa→Nat)(h0:I y90 y100 S)(hr:DE (fun y9 y10=>Io y3 y4 y5 y8 y9 y10) 131 I μ fun y9 y10 S KE0=>uU y3 y4 y5 y8 y9 y10 S KE0 Q):
 Ap Tm (vc Pg (Su.at_ [1,1,1,1,0,1,0,0]) (HB.drop 1)) 131 (Io y3 y4 y5 y8 y90 y100) S (Ak 0 (Av (vc Pg (Su.at_ [1,1,1,1,1]) (HB.drop 1)) (Ao Pg r80 Q))):=IN (E:=fun y9 y10=>Io y3 y4 y5 y8 y9 y10) 4 5 (fun _ _=>⟨rfl,rfl⟩) (fun _ _ _ _=>by kernel_rfl) h0 hr
def uT(y3 y5 y8 y9 y11:AV)(S:Aa)(KE1:BB)(Q:Aq):Prop:=
 Lf y3 6 S fun a S=>AG a S fun c S=>bin .lss 0 y11 c S fun d S=>Fi d (Lf y5 2 S fun e S=>Ap Tl (vc Pg (Su.at_ [1,1,1,1,1,0,1,0,0,1,0,0,1,0,1,0,0]) (HB.drop 3)) 131 (Im y3 y5 y8 y9 y11 (.v (.bool false)) e) S (Ak 4 (Av (vc Pg (Su.at_ [1,1,1,1,1,0,1,0,0,1,0,0,1,1]) (HB.drop 3)) (Ak 3 (Av (vc Pg (Su.at_ [1,1,1,1,1,0,1,0,0,1,1]) (HB.drop 3)) (BY (Hn MP KE1) (Ak 2 (Av (vc Pg (Su.at_ [1,1,1,1,1,1]) (HB.drop 3)) (Ao Pg r80 Q))))))))) (AA 8 y3 S fun f S=>Lf y5 3 S fun g S=>Lf y5 4 S fun h S=>Ah Pg 74 [f,y9,g,h] S Q fun i S=>A0 i 0 S fun k S=>A0 i 1 S fun l S=>Q (.ret (.t [k,l])) S)
theorem ZI{y3 y5 y8 y9:AV}{y110:AV}{S:Aa}{Q:Aq}(I:AV→Aa→Prop)(μ:AV→Aa→Nat)(h0:I y110 S)(hr:BS (fun y11=>LY y3 y5 y8 y9 y11) 131 I μ fun y11 S KE1=>uT y3 y5 y8 y9 y11 S KE1 Q):
 Ap MP (vc Pg (Su.at_ [1,1,1,1,1,0,1,0,0]) (HB.drop 2)) 131 (LY y3 y5 y8 y9 y110) S (Ak 2 (Av (vc Pg (Su.at_ [1,1,1,1,1,1]) (HB.drop 3)) (Ao Pg r80 Q))):=DY 4 (fun _=>rfl) (fun _ _ _=>by kernel_rfl) h0 hr
def uS(y3 y5 y8 y9 y11 y12 y13:AV)(S:Aa)(KE2:BB)(KE1:BB)(Q:Aq):Prop:=
 bin .lss 0 y13 y8 S fun a S=>Fi a ((fun S0:Aa=>Fi y12 (∃ c:AV,((.v (.bool true))=c∧S=S0)∧bin .add 0 y13 (aI 1) S fun d S=>KE2 131 (Im y3 y5 y8 y9 y11 c d) S) (Lq S0 (AA 8 y3) fun e=>Lq S0 (shift y5 3) fun f=>Lq S0 (Ax f) fun g=>Lq S0 (AR 3 1 g y13) fun h=>Lq S0 (Ax h) fun i=>Lq S0 (shift y3 6) fun k=>Lq S0 (Ax k) fun l=>Lq S0 (AR 3 1 l y11) fun m=>Lq S0 (Ax m) fun n=>Ld S0 27 [e,i,n] fun o=>∃ p:AV,(o=p∧S=S0)∧bin .add 0 y13 (aI 1) S fun q S=>KE2 131 (Im y3 y5 y8 y9 y11 p q) S)) S) (un .not y12 S fun r S=>Fi r (Q (.ret (.t Jt)) S) (bin .add 0 y11 (aI 1) S fun s S=>KE1 131 (LY y3 y5 y8 y9 s) S))
theorem ZH{y3 y5 y8 y9 y11:AV}{y120 y130:AV}{S:Aa}{KE1:BB}{Q:Aq}(I:AV→AV→Aa→Prop)(μ:AV→AV→Aa→Nat)(h0:I y120 y130 S)(hr:DE (fun y12 y13=>Im y3 y5 y8 y9 y11 y12 y13) 131 I μ fun y12 y13 S KE2=>uS y3 y5 y8 y9 y11 y12 y13 S KE2 KE1 Q):
 Ap Tl (vc Pg (Su.at_ [1,1,1,1,1,0,1,0,0,1,0,0,1,0,1,0,0]) (HB.drop 3)) 131 (Im y3 y5 y8 y9 y11 y120 y130) S (Ak 4 (Av (vc Pg (Su.at_ [1,1,1,1,1,0,1,0,0,1,0,0,1,1]) (HB.drop 3)) (Ak 3 (Av (vc Pg (Su.at_ [1,1,1,1,1,0,1,0,0,1,1]) (HB.drop 3)) (BY (Hn MP KE1) (Ak 2 (Av (vc Pg (Su.at_ [1,1,1,1,1,1]) (HB.drop 3)) (Ao Pg r80 Q)))))))):=IN (E:=fun y12 y13=>Im y3 y5 y8 y9 y11 y12 y13) 5 6 (fun _ _=>⟨rfl,rfl⟩) (fun _ _ _ _=>by kernel_rfl) h0 hr
def c78:Code:=(Tryz.f78.body).getD .skip
def r78:List ResultVar:=Tryz.f78.results.toList
def JV(y3 y4 y5 y8 y9 y10:AV):List AV:=[y3,y4,y5,y8,y9,y10]
def To:List Nat:=[3,4,5,8,9,10]
def YR:List (List Nat):=[To,[]]
abbrev Zl(v1 v2 v3 v6:AV)(S:Aa)(Q:Aq):Prop:=Ap To (vc Pg (c78.at_ [1,1,1,1,0,1,0,0]) (YR.drop 1)) 91 (JV v1 v2 v3 v6 .nl (aI 0)) S (Ak 0 (Av (vc Pg (c78.at_ [1,1,1,1,1]) (YR.drop 1)) (Ao Pg r78 Q)))
abbrev Vb(S0:Aa)(v3:AV)(S:Aa)(Q:Aq)(v1 v2 v6:AV):Prop:=Lq S0 (shift v3 0) fun q16=>Lq S0 (Ax q16) fun q18=>Lq S0 (bin .neq 0 q18 (aI 5)) fun q20=>∃ q22:AV,(q20=q22∧S=S0)∧Fi q22 (Q (.ret (.t [aI 0,.v (.bool false)])) S) (Zl v1 v2 v3 v6 S Q)
abbrev Va(S:Aa)(S0:Aa)(Q:Aq)(v1 v2 v3 v6:AV):Prop:=∃ q14:AV,((.v (.bool true))=q14∧S=S0)∧Fi q14 (Q (.ret (.t [aI 0,.v (.bool false)])) S) (Zl v1 v2 v3 v6 S Q)
abbrev Zk(S0:Aa)(v3:AV)(S:Aa)(Q:Aq)(v1 v2 v6:AV):Prop:=Lq S0 (shift v3 2) fun q24=>Lq S0 (Ax q24) fun q26=>Lq S0 (bin .neq 0 q26 (aI 0)) fun q28=>∃ q30:AV,(q28=q30∧S=S0)∧Fi q30 (Va S S0 Q v1 v2 v3 v6) (Vb S0 v3 S Q v1 v2 v6)
def m78(x0 x1 x2:AV)(S:Aa)(Q:Aq):Prop:=
 Az 29 8 x0 S fun a S=>Az 32 4 x1 S fun c S=>Az 51 5 x2 S fun d S=>Lf d 3 S fun e S=>AG e S fun f S=>(fun S0:Aa=>Lq S0 (bin .lss 0 f (aI 1)) fun g=>Fi g (∃ h:AV,((.v (.bool true))=h∧S=S0)∧Fi h (∃ i:AV,((.v (.bool true))=i∧S=S0)∧Fi i (Va S S0 Q a c d f) (Vb S0 d S Q a c f)) (Zk S0 d S Q a c f)) (Lq S0 (shift d 3) fun k=>Lq S0 (Ax k) fun l=>Lq S0 (AR 3 1 l (aI 0)) fun m=>Lq S0 (Ax m) fun n=>Lq S0 (shift d 1) fun o=>Lq S0 (Ax o) fun p=>Lq S0 (bin .neq 0 n p) fun q=>∃ r:AV,(q=r∧S=S0)∧Fi r (∃ s:AV,((.v (.bool true))=s∧S=S0)∧Fi s (Va S S0 Q a c d f) (Vb S0 d S Q a c f)) (Zk S0 d S Q a c f))) S
theorem pB{x0 x1 x2:AV}{S:Aa}{Q:Aq}(h:m78 x0 x1 x2 S Q):Ad Pg 78 [x0,x1,x2] S Q:=
 Bl (n:=91) YR Tryz.func78 (by kernel_rfl) (Eq.mpr (by kernel_rfl) h)
def uV(y3 y4 y5 y8 y9 y10:AV)(S:Aa)(KE0:BB)(Q:Aq):Prop:=
 bin .add 0 y10 (aI 1) S fun a S=>bin .lss 0 a y8 S fun c S=>Fi c ((fun S0:Aa=>Lq S0 (AA 8 y3) fun d=>Lq S0 (shift y5 3) fun e=>Lq S0 (Ax e) fun f=>Lq S0 (AR 3 1 f y10) fun g=>Lq S0 (Ax g) fun h=>Lq S0 (shift y5 3) fun i=>Lq S0 (Ax i) fun k=>Lq S0 (bin .add 0 y10 (aI 1)) fun l=>Lq S0 (AR 3 1 k l) fun m=>Lq S0 (Ax m) fun n=>Ld S0 75 [d,h,n] fun o=>Lq S0 (un .not o) fun p=>Fi p (Q (.ret (.t Jt)) S) (Lf y4 3 S fun q S=>AR 32 4 q (aI 0) S fun r S=>AA 4 r S fun s S=>AU 32 4 1 CK [(0,s)] S fun u S=>Bo 32 4 56 y9 u S fun v S=>bin .add 0 y10 (aI 1) S fun w S=>KE0 91 (JV y3 y4 y5 y8 v w) S)) S) (Lt S (shift y4 3) fun x=>Lt S (Ax x) fun y=>Lt S (AR 32 4 y (aI 1)) fun z=>Lt S (AA 4 z) fun A=>Lc S 77 [] fun B=>Lc S 76 [B] fun C=>Lt S (AU 32 4 2 CK [(0,A),(1,C)]) fun D=>Bo 32 4 56 y9 D S fun E S=>Lt S (shift y5 3) fun F=>Lt S (Ax F) fun G=>Lt S (shift y5 3) fun H=>Lt S (Ax H) fun I=>Lt S (bin .sub 0 y8 (aI 1)) fun J=>Lt S (AR 3 1 I J) fun K=>Lt S (Ax K) fun L=>Lt S (AU 3 1 1 [aI 0] [(0,L)]) fun M=>Bo 3 1 8 .nl G S fun N S=>(∀ T:Aa,Am S T→AU 3 1 1 [aI 0] [(0,L)] T fun O S=>O=M∧S=T)∧(∀ T:Aa,Am S T→Ax K T fun P S=>P=L∧S=T)∧(∀ T:Aa,Am S T→AR 3 1 I J T fun R S=>R=K∧S=T)∧(∀ T:Aa,Am S T→bin .sub 0 y8 (aI 1) T fun U S=>U=J∧S=T)∧(∀ T:Aa,Am S T→Ax H T fun V S=>V=I∧S=T)∧(∀ T:Aa,Am S T→shift y5 3 T fun W S=>W=H∧S=T)∧Bo 3 1 8 N M S fun X S=>AA 8 y3 S fun Y S=>Lf y5 4 S fun Z S=>Ah Pg 74 [Y,E,X,Z] S Q fun a0 S=>A0 a0 0 S fun a1 S=>A0 a0 1 S fun a2 S=>Q (.ret (.t [a1,a2])) S)
theorem ZK{y3 y4 y5 y8:AV}{y90 y100:AV}{S:Aa}{Q:Aq}(I:AV→AV→Aa→Prop)(μ:AV→AV→Aa→Nat)(h0:I y90 y100 S)(hr:DE (fun y9 y10=>JV y3 y4 y5 y8 y9 y10) 91 I μ fun y9 y10 S KE0=>uV y3 y4 y5 y8 y9 y10 S KE0 Q):
 Ap To (vc Pg (c78.at_ [1,1,1,1,0,1,0,0]) (YR.drop 1)) 91 (JV y3 y4 y5 y8 y90 y100) S (Ak 0 (Av (vc Pg (c78.at_ [1,1,1,1,1]) (YR.drop 1)) (Ao Pg r78 Q))):=IN (E:=fun y9 y10=>JV y3 y4 y5 y8 y9 y10) 4 5 (fun _ _=>⟨rfl,rfl⟩) (fun _ _ _ _=>by kernel_rfl) h0 hr
def c74:Code:=(Tryz.f74.body).getD .skip
def r74:List ResultVar:=Tryz.f74.results.toList
def Ip(y1 y2 y3 y4 y10 y11:AV):List AV:=[y1,y2,y3,y4,y10,y11]
def Tp:List Nat:=[1,2,3,4,10,11]
def YS:List (List Nat):=[Tp,[]]
def m74(x0 x1 x2 x3:AV)(S:Aa)(Q:Aq):Prop:=
 Az 29 8 x0 S fun a S=>AG x1 S fun c S=>AG x3 S fun d S=>bin .neq 0 c d S fun e S=>Fi e (Q (.ret (.t Jt)) S) (AG x2 S fun f S=>AG x3 S fun g S=>bin .neq 0 f g S fun h S=>Fi h (Q (.ret (.t Jt)) S) (Ap Tp (vc Pg (c74.at_ [1,1,1,0,1,0,0]) (YS.drop 1)) 63 (Ip x1 x2 x3 a (aI 0) (aI 0)) S (Ak 0 (Av (vc Pg (c74.at_ [1,1,1,1]) (YS.drop 1)) (Ao Pg r74 Q)))))
theorem pF{x0 x1 x2 x3:AV}{S:Aa}{Q:Aq}(h:m74 x0 x1 x2 x3 S Q):Ad Pg 74 [x0,x1,x2,x3] S Q:=
 Bl (n:=63) YS Tryz.func74 (by kernel_rfl) (Eq.mpr (by kernel_rfl) h)
def uW(y1 y2 y3 y4 y10 y11:AV)(S:Aa)(KE0:BB)(Q:Aq):Prop:=
 AG y3 S fun a S=>bin .lss 0 y11 a S fun c S=>Fi c ((fun S0:Aa=>Lq S0 (AA 8 y4) fun d=>Lq S0 (AR 32 4 y1 y11) fun e=>Lq S0 (AA 4 e) fun f=>Lq S0 (AR 51 5 y3 y11) fun g=>Lq S0 (AA 5 g) fun h=>Ld S0 34 [d,f,h] fun i=>Lq S0 (A0 i 0) fun k=>Lq S0 (A0 i 1) fun l=>(fun S0:Aa=>Lq S0 (un .not l) fun m=>Fi m (∃ n:AV,((.v (.bool true))=n∧S=S0)∧Fi n (Q (.ret (.t Jt)) S) (bin .add 0 y10 k S fun o S=>bin .add 0 y11 (aI 1) S fun p S=>KE0 63 (Ip y1 y2 y3 y4 o p) S)) (Lq S0 (AR 51 5 y3 y11) fun q=>Lq S0 (shift q 1) fun r=>Lq S0 (Ax r) fun s=>Lq S0 (AR 3 1 y2 y11) fun u=>Lq S0 (Ax u) fun w=>Lq S0 (bin .neq 0 s w) fun x=>∃ y:AV,(x=y∧S=S0)∧Fi y (Q (.ret (.t Jt)) S) (bin .add 0 y10 k S fun z S=>bin .add 0 y11 (aI 1) S fun A S=>KE0 63 (Ip y1 y2 y3 y4 z A) S))) S) S) (Q (.ret (.t [y10,.v (.bool true)])) S)
theorem ZL{y1 y2 y3 y4:AV}{y100 y110:AV}{S:Aa}{Q:Aq}(I:AV→AV→Aa→Prop)(μ:AV→AV→Aa→Nat)(h0:I y100 y110 S)(hr:DE (fun y10 y11=>Ip y1 y2 y3 y4 y10 y11) 63 I μ fun y10 y11 S KE0=>uW y1 y2 y3 y4 y10 y11 S KE0 Q):
 Ap Tp (vc Pg (c74.at_ [1,1,1,0,1,0,0]) (YS.drop 1)) 63 (Ip y1 y2 y3 y4 y100 y110) S (Ak 0 (Av (vc Pg (c74.at_ [1,1,1,1]) (YS.drop 1)) (Ao Pg r74 Q))):=IN (E:=fun y10 y11=>Ip y1 y2 y3 y4 y10 y11) 4 5 (fun _ _=>⟨rfl,rfl⟩) (fun _ _ _ _=>by kernel_rfl) h0 hr
def c72:Code:=(Tryz.f72.body).getD .skip
def r72:List ResultVar:=Tryz.f72.results.toList
def LZ(y1 y2 y6:AV):List AV:=[y1,y2,y6]
def Tq:List Nat:=[1,2,6]
def YT:List (List Nat):=[Tq,[]]
def m72(x0 x1:AV)(S:Aa)(Q:Aq):Prop:=
 Az 29 8 x0 S fun a S=>Lf a 0 S fun c S=>Lf a 1 S fun d S=>AG d S fun e S=>bin .add 0 c e S fun f S=>bin .lss 0 x1 (aI 0) S fun g S=>Fi g (Q (.ret (.v (.bool false))) S) (bin .shl 0 (aI 1) f S fun h S=>bin .geq 0 x1 h S fun i S=>Fi i (Q (.ret (.v (.bool false))) S) (Ap Tq (vc Pg (c72.at_ [1,1,1,0,1,0,0]) (YT.drop 1)) 37 (LZ x1 a (aI 0)) S (Ak 0 (Av (vc Pg (c72.at_ [1,1,1,1]) (YT.drop 1)) (Ao Pg r72 Q)))))
theorem pH{x0 x1:AV}{S:Aa}{Q:Aq}(h:m72 x0 x1 S Q):Ad Pg 72 [x0,x1] S Q:=
 Bl (n:=37) YT Tryz.func72 (by kernel_rfl) (Eq.mpr (by kernel_rfl) h)
def uX(y1 y2 y6:AV)(S:Aa)(KE0:BB)(Q:Aq):Prop:=
 Lf y2 5 S fun a S=>AG a S fun c S=>bin .lss 0 y6 c S fun d S=>Fi d ((fun S0:Aa=>Lq S0 (AA 8 y2) fun e=>Lq S0 (shift y2 5) fun f=>Lq S0 (Ax f) fun g=>Lq S0 (AR 3 1 g y6) fun h=>Lq S0 (Ax h) fun i=>Ld S0 27 [e,y1,i] fun k=>Lq S0 (un .not k) fun l=>Fi l (Q (.ret (.v (.bool false))) S) (bin .add 0 y6 (aI 1) S fun m S=>KE0 37 (LZ y1 y2 m) S)) S) (Q (.ret (.v (.bool true))) S)
theorem ZM{y1 y2:AV}{y60:AV}{S:Aa}{Q:Aq}(I:AV→Aa→Prop)(μ:AV→Aa→Nat)(h0:I y60 S)(hr:BS (fun y6=>LZ y1 y2 y6) 37 I μ fun y6 S KE0=>uX y1 y2 y6 S KE0 Q):
 Ap Tq (vc Pg (c72.at_ [1,1,1,0,1,0,0]) (YT.drop 1)) 37 (LZ y1 y2 y60) S (Ak 0 (Av (vc Pg (c72.at_ [1,1,1,1]) (YT.drop 1)) (Ao Pg r72 Q))):=DY 2 (fun _=>rfl) (fun _ _ _=>by kernel_rfl) h0 hr
abbrev Zm(S0:Aa)(v1 x1 x2:AV)(S:Aa)(Q:Aq):Prop:=Lq S0 (AA 8 v1) fun q13=>Ld S0 28 [q13,x1] fun q15=>Lq S0 (shift v1 0) fun q17=>Lq S0 (Ax q17) fun q19=>Lq S0 (bin .shr 0 q15 q19) fun q21=>Lq S0 (shift v1 0) fun q23=>Lq S0 (Ax q23) fun q25=>Lq S0 (bin .shr 0 x2 q25) fun q27=>Lq S0 (bin .eql 0 q21 q27) fun q29=>∃ q31:AV,(q29=q31∧S=S0)∧Q (.ret q31) S
def m75(x0 x1 x2:AV)(S:Aa)(Q:Aq):Prop:=
 Az 29 8 x0 S fun a S=>(fun S0:Aa=>Lq S0 (AA 8 a) fun c=>Ld S0 72 [c,x1] fun d=>Fi d (Lq S0 (AA 8 a) fun e=>Ld S0 72 [e,x2] fun f=>∃ g:AV,(f=g∧S=S0)∧Fi g (Zm S0 a x1 x2 S Q) (∃ h:AV,((.v (.bool false))=h∧S=S0)∧Q (.ret h) S)) (∃ i:AV,((.v (.bool false))=i∧S=S0)∧Fi i (Zm S0 a x1 x2 S Q) (∃ k:AV,((.v (.bool false))=k∧S=S0)∧Q (.ret k) S))) S
theorem pE{x0 x1 x2:AV}{S:Aa}{Q:Aq}(h:m75 x0 x1 x2 S Q):Ad Pg 75 [x0,x1,x2] S Q:=
 Bl (n:=28) [[]] Tryz.func75 (by kernel_rfl) (Eq.mpr (by kernel_rfl) h)
def m77(S:Aa)(Q:Aq):Prop:=
 Az 32 4 (.a CK) S fun c S=>CH Qq CK [(0,(aI 2))] S fun d S=>A8 4 c d S fun e S=>AA 4 c S fun f _=>Q (.ret f) S
theorem pC{S:Aa}{Q:Aq}(h:m77  S Q):Ad Pg 77 [] S Q:=
 Bl (n:=2) [[]] Tryz.func77 (by kernel_rfl) (Eq.mpr (by kernel_rfl) h)
def m79(x0 x1:AV)(S:Aa)(Q:Aq):Prop:=
 Az 32 4 x0 S fun c S=>Az 32 4 x1 S fun d S=>Az 32 4 (.a CK) S fun e S=>AA 4 c S fun f S=>AA 4 d S fun g S=>Ah Pg 81 [aI 15,f,g] S Q fun h S=>A8 4 e h S fun i S=>AA 4 e S fun k _=>Q (.ret k) S
theorem pA{x0 x1:AV}{S:Aa}{Q:Aq}(h:m79 x0 x1 S Q):Ad Pg 79 [x0,x1] S Q:=
 Bl (n:=8) [[]] Tryz.func79 (by kernel_rfl) (Eq.mpr (by kernel_rfl) h)
def m76(x0:AV)(S:Aa)(Q:Aq):Prop:=
 Az 32 4 x0 S fun c S=>Az 32 4 (.a CK) S fun d S=>AA 4 c S fun e S=>Ah Pg 82 [aI 13,e] S Q fun f S=>A8 4 d f S fun g S=>AA 4 d S fun h _=>Q (.ret h) S
theorem pD{x0:AV}{S:Aa}{Q:Aq}(h:m76 x0 S Q):Ad Pg 76 [x0] S Q:=
 Bl (n:=5) [[]] Tryz.func76 (by kernel_rfl) (Eq.mpr (by kernel_rfl) h)
def m73(x0:AV)(S:Aa)(Q:Aq):Prop:=
 Az 51 5 x0 S fun a S=>Lf a 2 S fun c S=>bin .eql 0 c (aI 0) S fun d S=>Fi d (Lf a 3 S fun e S=>AG e S fun f S=>bin .eql 0 f (aI 0) S fun g S=>Fi g (Lf a 4 S fun h S=>AG h S fun i S=>bin .eql 0 i (aI 0) S fun k S=>Q (.ret k) S) (Q (.ret (.v (.bool false))) S)) (Q (.ret (.v (.bool false))) S)
theorem pG{x0:AV}{S:Aa}{Q:Aq}(h:m73 x0 S Q):Ad Pg 73 [x0] S Q:=
 Bl (n:=18) [[]] Tryz.func73 (by kernel_rfl) (Eq.mpr (by kernel_rfl) h)
def m32(x0:AV)(S:Aa)(Q:Aq):Prop:=
 Az 32 4 x0 S fun c S=>Az 32 4 (.a CK) S fun d S=>AA 4 c S fun e S=>Ah Pg 67 [e,aI 60] S Q fun f S=>un .not f S fun g S=>Fi g (CH Qq CK [] S fun h S=>A8 4 d h S fun i S=>AA 4 d S fun k _=>Q (.ret k) S) (Lt S (AA 4 c) fun l=>Lc S 69 [] fun m=>Lc S 68 [l,.v (.bool false),m] fun n=>A8 4 d n S fun o S=>AA 4 d S fun p _=>Q (.ret p) S)
theorem qV{x0:AV}{S:Aa}{Q:Aq}(h:m32 x0 S Q):Ad Pg 32 [x0] S Q:=
 Bl (n:=10) [[]] Tryz.func32 (by kernel_rfl) (Eq.mpr (by kernel_rfl) h)
def m41(x0:AV)(S:Aa)(Q:Aq):Prop:=
 Az 32 4 x0 S fun c S=>Az 32 4 (.a CK) S fun d S=>AA 4 c S fun e S=>Ah Pg 70 [e,aI 60] S Q fun f S=>un .not f S fun g S=>Fi g (CH Qq CK [] S fun h S=>A8 4 d h S fun i S=>AA 4 d S fun k _=>Q (.ret k) S) (AA 4 c S fun l S=>Ah Pg 35 [l,.v (.bool false)] S Q fun m S=>A8 4 d m S fun n S=>AA 4 d S fun o _=>Q (.ret o) S)
theorem qN{x0:AV}{S:Aa}{Q:Aq}(h:m41 x0 S Q):Ad Pg 41 [x0] S Q:=
 Bl (n:=9) [[]] Tryz.func41 (by kernel_rfl) (Eq.mpr (by kernel_rfl) h)
def XX:Code:=(Tryz.f68.body).getD .skip
def r68:List ResultVar:=Tryz.f68.results.toList
def FE(y1 y6 y7 y8 y71 y72:AV):List AV:=[y1,y6,y7,y8,y71,y72]
def Jf:List Nat:=[1,6,7,8,71,72]
def KN:List (List Nat):=[Jf,[]]
abbrev Zr(a:AV)(S:Aa)(x1 c d e:AV)(Q:Aq):Prop:=Lf a 3 S fun g S=>AG g S fun h S=>Ap Jf (vc Pg (XX.at_ [1,1,1,1,1,0,1,0,0]) (KN.drop 1)) 86 (FE x1 c (.f (.func 116) [] [a,d]) e h (aI 0)) S (Ak 1 (Av (vc Pg (XX.at_ [1,1,1,1,1,1]) (KN.drop 1)) (Ao Pg r68 Q)))
def m68(x0 x1 x2:AV)(S:Aa)(Q:Aq):Prop:=
 Az 32 4 x0 S fun c S=>Az 118 1 x2 S fun d S=>Az 32 4 (.a CK) S fun e S=>Lf c 0 S fun g S=>bin .eql 0 g (aI 3) S fun h S=>Fi h (Fi x1 (AA 4 c S fun k S=>AU 32 4 1 CK [(0,k)] S fun l S=>Ah Pg 117 [aI 4,l] S Q fun m S=>A8 4 e m S fun n S=>AA 4 e S fun o _=>Q (.ret o) S) (AA 4 c S fun p S=>A8 4 e p S fun q S=>AA 4 e S fun r _=>Q (.ret r) S)) (bin .eql 0 g (aI 4) S fun s S=>Fi s (un .not x1 S fun t S=>Bh Pg (.f (.func 116) [] [c,d]) [aI 0,t] S (fun w S=>A8 4 e w S fun x S=>AA 4 e S fun y _=>Q (.ret y) S) (fun u S=>Q (.pan u) S)) (bin .eql 0 g (aI 7) S fun z S=>Fi z (Fi x1 (Bh Pg (.f (.func 116) [] [c,d]) Jt S (fun A S=>Bh Pg (.f (.func 116) [] [c,d]) [aI 1,.v (.bool true)] S (fun B S=>AU 32 4 2 CK [(0,A),(1,B)] S fun C S=>Ah Pg 117 [aI 5,C] S Q fun D S=>A8 4 e D S fun E S=>AA 4 e S fun F _=>Q (.ret F) S) (fun u S=>Q (.pan u) S)) (fun u S=>Q (.pan u) S)) (Bh Pg (.f (.func 116) [] [c,d]) [aI 0,.v (.bool true)] S (fun G S=>Bh Pg (.f (.func 116) [] [c,d]) [aI 1,.v (.bool false)] S (fun H S=>AU 32 4 2 CK [(0,G),(1,H)] S fun I S=>Ah Pg 117 [aI 6,I] S Q fun J S=>A8 4 e J S fun K S=>AA 4 e S fun L _=>Q (.ret L) S) (fun u S=>Q (.pan u) S)) (fun u S=>Q (.pan u) S))) (bin .eql 0 g (aI 8) S fun M S=>Fi M (Bh Pg (.f (.func 116) [] [c,d]) Jt S (fun N S=>Bh Pg (.f (.func 116) [] [c,d]) [aI 1,x1] S (fun O S=>AU 32 4 2 CK [(0,N),(1,O)] S fun P S=>Ah Pg 117 [aI 5,P] S Q fun R S=>Bh Pg (.f (.func 116) [] [c,d]) [aI 0,.v (.bool true)] S (fun T S=>un .not x1 S fun U S=>Bh Pg (.f (.func 116) [] [c,d]) [aI 1,U] S (fun V S=>AU 32 4 2 CK [(0,T),(1,V)] S fun W S=>Ah Pg 117 [aI 5,W] S Q fun X S=>AU 32 4 2 CK [(0,R),(1,X)] S fun Y S=>Ah Pg 117 [aI 6,Y] S Q fun Z S=>A8 4 e Z S fun a0 S=>AA 4 e S fun a1 _=>Q (.ret a1) S) (fun u S=>Q (.pan u) S)) (fun u S=>Q (.pan u) S)) (fun u S=>Q (.pan u) S)) (fun u S=>Q (.pan u) S)) (Lf c 0 S fun a2 S=>CH Qq CK [(0,a2)] S fun a3 S=>Az 32 4 (.a CK) S fun a4 S=>A8 4 a4 a3 S fun a5 S=>Fi x1 (Ax d S fun a6 S=>Lf c 0 S fun a7 S=>Vk (.i .i64) (aI 0) false a6 a7 S fun a8 S=>shift a4 0 S fun a9 S=>A8 1 a9 a8 S fun b0 S=>Zr c S x1 e d a4 Q) (Zr c S x1 e d a4 Q)))))
theorem pM{x0 x1 x2:AV}{S:Aa}{Q:Aq}(h:m68 x0 x1 x2 S Q):Ad Pg 68 [x0,x1,x2] S Q:=
 Bl (n:=86) KN Tryz.func68 (by kernel_rfl) (Eq.mpr (by kernel_rfl) h)
def u3(y1 y6 y7 y8 y71 y72:AV)(S:Aa)(KE0:BB)(Q:Aq):Prop:=
 bin .lss 0 y72 y71 S fun a S=>Fi a (Lt S (shift y8 3) fun c=>Lt S (Ax c) fun d=>∃ e:AV,(∀ T:Aa,Am S T→Bh Pg y7 [y72,y1] T (fun f S=>f=e∧S=T) (fun u S=>False))∧Lt S (AU 32 4 1 CK [(0,e)]) fun g=>Bo 32 4 56 d g S fun h S=>Lt S (shift y8 3) fun i=>A8 1 i h S fun k S=>bin .add 0 y72 (aI 1) S fun l S=>KE0 86 (FE y1 y6 y7 y8 y71 l) S) (AA 4 y8 S fun m S=>A8 4 y6 m S fun n S=>AA 4 y6 S fun o _=>Q (.ret o) S)
theorem ZQ{y1 y6 y7 y8 y71:AV}{y720:AV}{S:Aa}{Q:Aq}(I:AV→Aa→Prop)(μ:AV→Aa→Nat)(h0:I y720 S)(hr:BS (fun y72=>FE y1 y6 y7 y8 y71 y72) 86 I μ fun y72 S KE0=>u3 y1 y6 y7 y8 y71 y72 S KE0 Q):
 Ap Jf (vc Pg (XX.at_ [1,1,1,1,1,0,1,0,0]) (KN.drop 1)) 86 (FE y1 y6 y7 y8 y71 y720) S (Ak 1 (Av (vc Pg (XX.at_ [1,1,1,1,1,1]) (KN.drop 1)) (Ao Pg r68 Q))):=DY 5 (fun _=>rfl) (fun _ _ _=>by kernel_rfl) h0 hr
def AeL(x0 x1:AV)(S:Aa)(Q:Aq):Prop:=
 Az 32 4 (.a CK) S fun c S=>CH Qq CK [(0,x0),(3,x1)] S fun d S=>A8 4 c d S fun e S=>AA 4 c S fun f _=>Q (.ret f) S
theorem eW{x0 x1:AV}{S:Aa}{Q:Aq}(h:AeL x0 x1 S Q):Ad Pg 117 [x0,x1] S Q:=
 Bl (n:=8) [[]] Tryz.func117 (by kernel_rfl) (Eq.mpr (by kernel_rfl) h)
def c69:Code:=(Tryz.f69.body).getD .skip
def r69:List ResultVar:=Tryz.f69.results.toList
def L0(y1 y12 y13:AV):List AV:=[y1,y12,y13]
def Ts:List Nat:=[1,12,13]
def YU:List (List Nat):=[Ts,[]]
def m69(S:Aa)(Q:Aq):Prop:=
 Zb (.i .i64) S fun a S=>CH [(0,1),(1,1)] [aI 0,aI 0] [(0,(aI 1)),(1,(aI 2))] S fun c S=>CH [(0,1),(1,1)] [aI 0,aI 0] [(0,(aI 5)),(1,(aI 6))] S fun d S=>CH [(0,1),(1,1)] [aI 0,aI 0] [(0,(aI 9)),(1,(aI 10))] S fun e S=>CH [(0,1),(1,1)] [aI 0,aI 0] [(0,(aI 11)),(1,(aI 14))] S fun f S=>CH [(0,1),(1,1)] [aI 0,aI 0] [(0,(aI 13)),(1,(aI 12))] S fun g S=>CH [(0,1),(1,1)] [aI 0,aI 0] [(0,(aI 15)),(1,(aI 18))] S fun h S=>CH [(0,1),(1,1)] [aI 0,aI 0] [(0,(aI 17)),(1,(aI 16))] S fun k S=>CH [(0,2),(2,2),(4,2),(6,2),(8,2),(10,2),(12,2)] [aI 0,aI 0,aI 0,aI 0,aI 0,aI 0,aI 0,aI 0,aI 0,aI 0,aI 0,aI 0,aI 0,aI 0] [(0,c),(1,d),(2,e),(3,f),(4,g),(5,h),(6,k)] S fun l S=>Ap Ts (vc Pg (c69.at_ [1,1,0,1,0,0]) (YU.drop 1)) 28 (L0 a l (aI 0)) S (Ak 0 (Av (vc Pg (c69.at_ [1,1,1]) (YU.drop 1)) (Ao Pg r69 Q)))
theorem pK{S:Aa}{Q:Aq}(h:m69  S Q):Ad Pg 69 [] S Q:=
 Bl (n:=28) YU Tryz.func69 (by kernel_rfl) (Eq.mpr (by kernel_rfl) h)
def u1(y1 y12 y13:AV)(S:Aa)(KE0:BB)(Q:Aq):Prop:=
 bin .lss 0 y13 (aI 7) S fun c S=>Fi c (BK (Aw y13) fun z12=>(0≤z12∧z12<((7:Nat):Int))∧QU y12 2 (z12.toNat*2) S fun d S=>Az 130 2 (.a [aI 0,aI 0]) S fun e S=>A8 2 e d S fun f S=>Lt S (IL 2 1 e (aI 0)) fun g=>Lt S (Ax g) fun h=>Lt S (IL 2 1 e (aI 1)) fun k=>Lt S (Ax k) fun l=>Lt S (IL 2 1 e (aI 1)) fun m=>Lt S (Ax m) fun n=>Lt S (IL 2 1 e (aI 0)) fun o=>Lt S (Ax o) fun p=>Hr (.i .i64) y1 h n S fun q S=>(∀ T:Aa,Am S T→Ax o T fun r S=>r=p∧S=T)∧(∀ T:Aa,Am S T→IL 2 1 e (aI 0) T fun s S=>s=o∧S=T)∧(∀ T:Aa,Am S T→Ax k T fun t S=>t=l∧S=T)∧(∀ T:Aa,Am S T→IL 2 1 e (aI 1) T fun u S=>u=k∧S=T)∧Hr (.i .i64) y1 l p S fun v S=>bin .add 0 y13 (aI 1) S fun w S=>KE0 28 (L0 y1 y12 w) S) (Q (.ret y1) S)
theorem ZP{y1 y12:AV}{y130:AV}{S:Aa}{Q:Aq}(I:AV→Aa→Prop)(μ:AV→Aa→Nat)(h0:I y130 S)(hr:BS (fun y13=>L0 y1 y12 y13) 28 I μ fun y13 S KE0=>u1 y1 y12 y13 S KE0 Q):
 Ap Ts (vc Pg (c69.at_ [1,1,0,1,0,0]) (YU.drop 1)) 28 (L0 y1 y12 y130) S (Ak 0 (Av (vc Pg (c69.at_ [1,1,1]) (YU.drop 1)) (Ao Pg r69 Q))):=DY 2 (fun _=>rfl) (fun _ _ _=>by kernel_rfl) h0 hr
def AeM(x0 x1 x2 x3:AV)(S:Aa)(Q:Aq):Prop:=
 Az 32 4 (.a CK) S fun c S=>Lt S (shift x2 3) fun d=>Lt S (Ax d) fun e=>Lt S (AR 32 4 e x0) fun f=>Lt S (AA 4 f) fun g=>Lt S (Ax x3) fun h=>Lc S 68 [g,x1,h] fun i=>A8 4 c i S fun k S=>AA 4 c S fun l _=>Q (.ret l) S
theorem eX{x0 x1 x2 x3:AV}{S:Aa}{Q:Aq}(h:AeM x0 x1 x2 x3 S Q):Ad Pg 116 [x0,x1,x2,x3] S Q:=
 Bl (n:=15) [[]] Tryz.func116 (by kernel_rfl) (Eq.mpr (by kernel_rfl) h)
def XZ:Code:=(Tryz.f35.body).getD .skip
def r35:List ResultVar:=Tryz.f35.results.toList
def FG(y1 y2 y4 y7 y8:AV):List AV:=[y1,y2,y4,y7,y8]
def Jg:List Nat:=[1,2,4,7,8]
def KP:List (List Nat):=[Jg,[]]
abbrev Zu(x1 v1 v2 v136:AV)(S:Aa)(Q:Aq):Prop:=Ap Jg (vc Pg (XZ.at_ [1,1,1,1,0,1,0,0]) (KP.drop 1)) 109 (FG x1 v1 v2 v136 (aI 0)) S (Ak 1 (Av (vc Pg (XZ.at_ [1,1,1,1,1]) (KP.drop 1)) (Ao Pg r35 Q)))
def m35(x0 x1:AV)(S:Aa)(Q:Aq):Prop:=
 Az 32 4 x0 S fun c S=>Az 32 4 (.a CK) S fun d S=>Lf c 0 S fun e S=>bin .eql 0 e (aI 3) S fun f S=>Fi f (Fi x1 (AA 4 c S fun g S=>Ah Pg 82 [aI 4,g] S Q fun h S=>A8 4 d h S fun i S=>AA 4 d S fun k _=>Q (.ret k) S) (AA 4 c S fun l S=>A8 4 d l S fun m S=>AA 4 d S fun n _=>Q (.ret n) S)) (bin .eql 0 e (aI 4) S fun o S=>Fi o (Lf c 3 S fun p S=>AR 32 4 p (aI 0) S fun q S=>AA 4 q S fun r S=>un .not x1 S fun s S=>Ah Pg 35 [r,s] S Q fun t S=>A8 4 d t S fun u S=>AA 4 d S fun w _=>Q (.ret w) S) (bin .eql 0 e (aI 7) S fun x S=>Fi x (Fi x1 (Lt S (shift c 3) fun y=>Lt S (Ax y) fun z=>Lt S (AR 32 4 z (aI 0)) fun A=>Lt S (AA 4 A) fun B=>Lc S 35 [B,.v (.bool false)] fun C=>Lt S (shift c 3) fun D=>Lt S (Ax D) fun E=>Lt S (AR 32 4 E (aI 1)) fun F=>Lt S (AA 4 F) fun G=>Lc S 35 [G,.v (.bool true)] fun H=>Lc S 81 [aI 5,C,H] fun I=>A8 4 d I S fun J S=>AA 4 d S fun K _=>Q (.ret K) S) (Lt S (shift c 3) fun L=>Lt S (Ax L) fun M=>Lt S (AR 32 4 M (aI 0)) fun N=>Lt S (AA 4 N) fun O=>Lc S 35 [O,.v (.bool true)] fun P=>Lt S (shift c 3) fun R=>Lt S (Ax R) fun T=>Lt S (AR 32 4 T (aI 1)) fun U=>Lt S (AA 4 U) fun V=>Lc S 35 [V,.v (.bool false)] fun W=>Lc S 81 [aI 6,P,W] fun X=>A8 4 d X S fun Y S=>AA 4 d S fun Z _=>Q (.ret Z) S)) (bin .eql 0 e (aI 8) S fun a0 S=>Fi a0 (Lt S (shift c 3) fun a1=>Lt S (Ax a1) fun a2=>Lt S (AR 32 4 a2 (aI 0)) fun a3=>Lt S (AA 4 a3) fun a4=>Lc S 35 [a4,.v (.bool false)] fun a5=>Lt S (shift c 3) fun a6=>Lt S (Ax a6) fun a7=>Lt S (AR 32 4 a7 (aI 1)) fun a8=>Lt S (AA 4 a8) fun a9=>Lc S 35 [a9,x1] fun b0=>Lc S 81 [aI 5,a5,b0] fun b1=>Az 32 4 (.a CK) S fun b2 S=>A8 4 b2 b1 S fun b3 S=>Lt S (shift c 3) fun b4=>Lt S (Ax b4) fun b5=>Lt S (AR 32 4 b5 (aI 0)) fun b6=>Lt S (AA 4 b6) fun b7=>Lc S 35 [b7,.v (.bool true)] fun b8=>Lt S (shift c 3) fun b9=>Lt S (Ax b9) fun c0=>Lt S (AR 32 4 c0 (aI 1)) fun c1=>Lt S (AA 4 c1) fun c2=>Lt S (un .not x1) fun c3=>Lc S 35 [c2,c3] fun c4=>Lc S 81 [aI 5,b8,c4] fun c5=>Az 32 4 (.a CK) S fun c6 S=>A8 4 c6 c5 S fun c7 S=>AA 4 b2 S fun c8 S=>AA 4 c6 S fun c9 S=>Ah Pg 81 [aI 6,c8,c9] S Q fun d0 S=>A8 4 d d0 S fun d1 S=>AA 4 d S fun d2 _=>Q (.ret d2) S) (Lf c 0 S fun d3 S=>CH Qq CK [(0,d3)] S fun d4 S=>Az 32 4 (.a CK) S fun d5 S=>A8 4 d5 d4 S fun d6 S=>Fi x1 (Lf c 0 S fun d7 S=>Ah Pg 83 [d7] S Q fun d8 S=>shift d5 0 S fun d9 S=>A8 1 d9 d8 S fun e0 S=>Zu x1 c d d5 S Q) (Zu x1 c d d5 S Q)))))
theorem qT{x0 x1:AV}{S:Aa}{Q:Aq}(h:m35 x0 x1 S Q):Ad Pg 35 [x0,x1] S Q:=
 Bl (n:=109) KP Tryz.func35 (by kernel_rfl) (Eq.mpr (by kernel_rfl) h)
def vL(y1 y2 y4 y7 y8:AV)(S:Aa)(KE0:BB)(Q:Aq):Prop:=
 Lf y2 3 S fun a S=>AG a S fun c S=>bin .lss 0 y8 c S fun d S=>Fi d (Lt S (shift y7 3) fun e=>Lt S (Ax e) fun f=>Lt S (shift y2 3) fun g=>Lt S (Ax g) fun h=>Lt S (AR 32 4 h y8) fun i=>Lt S (AA 4 i) fun k=>Lc S 35 [k,y1] fun l=>Lt S (AU 32 4 1 CK [(0,l)]) fun m=>Bo 32 4 56 f m S fun n S=>Lt S (shift y7 3) fun o=>A8 1 o n S fun p S=>bin .add 0 y8 (aI 1) S fun q S=>KE0 109 (FG y1 y2 y4 y7 q) S) (AA 4 y7 S fun r S=>A8 4 y4 r S fun s S=>AA 4 y4 S fun t _=>Q (.ret t) S)
theorem Z8{y1 y2 y4 y7:AV}{y80:AV}{S:Aa}{Q:Aq}(I:AV→Aa→Prop)(μ:AV→Aa→Nat)(h0:I y80 S)(hr:BS (fun y8=>FG y1 y2 y4 y7 y8) 109 I μ fun y8 S KE0=>vL y1 y2 y4 y7 y8 S KE0 Q):
 Ap Jg (vc Pg (XZ.at_ [1,1,1,1,0,1,0,0]) (KP.drop 1)) 109 (FG y1 y2 y4 y7 y80) S (Ak 1 (Av (vc Pg (XZ.at_ [1,1,1,1,1]) (KP.drop 1)) (Ao Pg r35 Q))):=DY 4 (fun _=>rfl) (fun _ _ _=>by kernel_rfl) h0 hr
def m15(x0 x1:AV)(S:Aa)(Q:Aq):Prop:=
 Az 32 4 (.a CK) S fun c S=>Ah Pg 8 [x0] S Q fun d S=>Ah Pg 38 [d,x1] S Q fun e S=>A8 4 c e S fun f S=>AA 4 c S fun g _=>Q (.ret g) S
theorem rK{x0 x1:AV}{S:Aa}{Q:Aq}(h:m15 x0 x1 S Q):Ad Pg 15 [x0,x1] S Q:=
 Bl (n:=9) [[]] Tryz.func15 (by kernel_rfl) (Eq.mpr (by kernel_rfl) h)
def c6:Code:=(Tryz.f6.body).getD .skip
def r6:List ResultVar:=Tryz.f6.results.toList
def m6(x0 x1:AV)(S:Aa)(Q:Aq):Prop:=
 Az 29 8 (.a wW) S fun c S=>Az 32 4 (.a CK) S fun d S=>Ah Pg 14 [x0] S Q fun e S=>Az 29 8 (.a wW) S fun f S=>A8 8 f e S fun g S=>Lt S (AA 8 f) fun h=>Lt S (AA 8 f) fun i=>Lc S 17 [i] fun k=>Lc S 16 [k] fun l=>Lt S (bin .mul 0 (aI 2) l) fun m=>Ah Pg 15 [x1,m] S Q fun n S=>(∀ T:Aa,Am S T→AA 8 f T fun o S=>o=h∧S=T)∧A8 8 c h S fun p S=>A8 4 d n S fun q S=>AA 8 c S fun r _=>AA 4 d S fun s _=>Q (.ret (.t [r,s])) S
theorem zB{x0 x1:AV}{S:Aa}{Q:Aq}(h:m6 x0 x1 S Q):Ad Pg 6 [x0,x1] S Q:=
 Bl (n:=16) [[15]] Tryz.func6 (by kernel_rfl) (Eq.mpr (by kernel_rfl) h)
def m82(x0 x1:AV)(S:Aa)(Q:Aq):Prop:=
 Az 32 4 x1 S fun c S=>Az 32 4 (.a CK) S fun d S=>AA 4 c S fun e S=>AU 32 4 1 CK [(0,e)] S fun f S=>CH Qq CK [(0,x0),(3,f)] S fun g S=>A8 4 d g S fun h S=>AA 4 d S fun i _=>Q (.ret i) S
theorem oX{x0 x1:AV}{S:Aa}{Q:Aq}(h:m82 x0 x1 S Q):Ad Pg 82 [x0,x1] S Q:=
 Bl (n:=9) [[]] Tryz.func82 (by kernel_rfl) (Eq.mpr (by kernel_rfl) h)
def m81(x0 x1 x2:AV)(S:Aa)(Q:Aq):Prop:=
 Az 32 4 x1 S fun c S=>Az 32 4 x2 S fun d S=>Az 32 4 (.a CK) S fun e S=>AA 4 c S fun f S=>AA 4 d S fun g S=>AU 32 4 2 CK [(0,f),(1,g)] S fun h S=>CH Qq CK [(0,x0),(3,h)] S fun i S=>A8 4 e i S fun k S=>AA 4 e S fun l _=>Q (.ret l) S
theorem oY{x0 x1 x2:AV}{S:Aa}{Q:Aq}(h:m81 x0 x1 x2 S Q):Ad Pg 81 [x0,x1,x2] S Q:=
 Bl (n:=12) [[]] Tryz.func81 (by kernel_rfl) (Eq.mpr (by kernel_rfl) h)
def m83(x0:AV)(S:Aa)(Q:Aq):Prop:=
 bin .eql 0 x0 (aI 1) S fun a S=>Fi a (Q (.ret (aI 2)) S) (bin .eql 0 x0 (aI 2) S fun c S=>Fi c (Q (.ret (aI 1)) S) (bin .eql 0 x0 (aI 5) S fun d S=>Fi d (Q (.ret (aI 6)) S) (bin .eql 0 x0 (aI 6) S fun e S=>Fi e (Q (.ret (aI 5)) S) (bin .eql 0 x0 (aI 9) S fun f S=>Fi f (Q (.ret (aI 10)) S) (bin .eql 0 x0 (aI 10) S fun g S=>Fi g (Q (.ret (aI 9)) S) (bin .eql 0 x0 (aI 11) S fun h S=>Fi h (Q (.ret (aI 14)) S) (bin .eql 0 x0 (aI 14) S fun i S=>Fi i (Q (.ret (aI 11)) S) (bin .eql 0 x0 (aI 13) S fun k S=>Fi k (Q (.ret (aI 12)) S) (bin .eql 0 x0 (aI 12) S fun l S=>Fi l (Q (.ret (aI 13)) S) (bin .eql 0 x0 (aI 15) S fun m S=>Fi m (Q (.ret (aI 18)) S) (bin .eql 0 x0 (aI 18) S fun n S=>Fi n (Q (.ret (aI 15)) S) (bin .eql 0 x0 (aI 17) S fun o S=>Fi o (Q (.ret (aI 16)) S) (Q (.ret (aI 17)) S)))))))))))))
theorem oW{x0:AV}{S:Aa}{Q:Aq}(h:m83 x0 S Q):Ad Pg 83 [x0] S Q:=
 Bl (n:=30) [[]] Tryz.func83 (by kernel_rfl) (Eq.mpr (by kernel_rfl) h)
def Ky:Code:=(Tryz.f14.body).getD .skip
def US:List ResultVar:=Tryz.f14.results.toList
def Iy(y2 y4 y5 y6 y7 y8:AV):List AV:=[y2,y4,y5,y6,y7,y8]
def TO:List Nat:=[2,4,5,6,7,8]
def G3(y2 y4 y5 y6 y10 y11 y12:AV):List AV:=[y2,y4,y5,y6,y10,y11,y12]
def TN:List Nat:=[2,4,5,6,10,11,12]
def Dr(y2 y4 y5 y11 y14:AV):List AV:=[y2,y4,y5,y11,y14]
def MV:List Nat:=[2,4,5,11,14]
def Cz(y2 y4 y5 y11 y15:AV):List AV:=[y2,y4,y5,y11,y15]
def GN:List Nat:=[2,4,5,11,15]
def DK:List (List Nat):=[TO,TN,MV,GN,[0]]
def m14(x0:AV)(S:Aa)(Q:Aq):Prop:=
 Az 22 1 x0 S fun c S=>Az 29 8 (.a wW) S fun d S=>Az 3 1 (aI 0) S fun e S=>A8 1 e (aI 0) S fun g S=>Az 29 8 (.a wW) S fun h S=>Bh Pg (.f (.func 36) [] [e,c]) [aI 4] S (fun i S=>shift h 0 S fun k S=>A8 1 k i S fun l S=>Bh Pg (.f (.func 36) [] [e,c]) [aI 3] S (fun m S=>bin .add 0 (aI 1) m S fun n S=>Bh Pg (.f (.func 36) [] [e,c]) [aI 9] S (fun o S=>Ap TO (vc Pg (Ky.at_ [1,1,1,1,1,1,1,0,1,0,0]) (DK.drop 1)) 156 (Iy d (.f (.func 36) [] [e,c]) h n .nl o) S (Ak 0 (Av (vc Pg (Ky.at_ [1,1,1,1,1,1,1,1]) (DK.drop 1)) (Ao Pg US Q)))) (fun u S=>Q (.pan u) S)) (fun u S=>Q (.pan u) S)) (fun u S=>Q (.pan u) S)
theorem rL{x0:AV}{S:Aa}{Q:Aq}(h:m14 x0 S Q):Ad Pg 14 [x0] S Q:=
 Bl (n:=156) DK Tryz.func14 (by kernel_rfl) (Eq.mpr (by kernel_rfl) h)
def vW(y2 y4 y5 y6 y7 y8:AV)(S:Aa)(KE0:BB)(Q:Aq):Prop:=
 bin .gtr 0 y8 (aI 0) S fun c S=>Fi c (Bh Pg y4 [aI 65536] S (fun d S=>Cf .u16 d S fun e S=>AU 87 1 1 [.v (.int .u16 0)] [(0,e)] S fun f S=>Bo 87 1 2 y7 f S fun g S=>bin .sub 0 y8 (aI 1) S fun h S=>KE0 156 (Iy y2 y4 y5 y6 g h) S) (fun u S=>Q (.pan u) S)) (Lf y5 0 S fun i S=>bin .add 0 i y6 S fun k S=>Ah Pg 37 [k,y7] S Q fun l S=>A0 l 0 S fun m S=>A0 l 1 S fun n S=>Az 61 2 (.a [aI 0,.nl]) S fun o S=>A8 2 o m S fun p S=>Lf o 1 S fun q S=>shift y5 2 S fun r S=>A8 1 r q S fun s S=>AA 2 o S fun t S=>Ah Pg 16 [t] S Q fun w S=>bin .mul 0 (aI 2) w S fun x S=>Ap TN (vc Pg (Ky.at_ [1,1,1,1,1,1,1,1,1,1,1,0,1,0,0]) (DK.drop 2)) 156 (G3 y2 y4 y5 y6 n x (aI 0)) S (Ak 2 (Av (vc Pg (Ky.at_ [1,1,1,1,1,1,1,1,1,1,1,1]) (DK.drop 2)) (Ao Pg US Q))))
theorem aM{y2 y4 y5 y6:AV}{y70 y80:AV}{S:Aa}{Q:Aq}(I:AV→AV→Aa→Prop)(μ:AV→AV→Aa→Nat)(h0:I y70 y80 S)(hr:DE (fun y7 y8=>Iy y2 y4 y5 y6 y7 y8) 156 I μ fun y7 y8 S KE0=>vW y2 y4 y5 y6 y7 y8 S KE0 Q):
 Ap TO (vc Pg (Ky.at_ [1,1,1,1,1,1,1,0,1,0,0]) (DK.drop 1)) 156 (Iy y2 y4 y5 y6 y70 y80) S (Ak 0 (Av (vc Pg (Ky.at_ [1,1,1,1,1,1,1,1]) (DK.drop 1)) (Ao Pg US Q))):=IN (E:=fun y7 y8=>Iy y2 y4 y5 y6 y7 y8) 4 5 (fun _ _=>⟨rfl,rfl⟩) (fun _ _ _ _=>by kernel_rfl) h0 hr
def vV(y2 y4 y5 y6 y10 y11 y12:AV)(S:Aa)(KE1:BB)(Q:Aq):Prop:=
 bin .lss 0 y12 y6 S fun a S=>Fi a (Bh Pg y4 [y11] S (fun c S=>bin .eql 0 y12 (aI 0) S fun d S=>Fi d (Lt S (shift y5 1) fun e=>Lt S (Ax e) fun f=>Bh Pg y4 [aI 5] S (fun g S=>(∀ T:Aa,Am S T→Ax e T fun h S=>h=f∧S=T)∧(∀ T:Aa,Am S T→shift y5 1 T fun i S=>i=e∧S=T)∧Lt S (bin .quo 0 g (aI 2)) fun k=>Lt S (CH [(0,1),(1,1)] [aI 0,aI 0] [(0,y10),(1,k)]) fun l=>Lt S (AU 67 2 1 [aI 0,aI 0] [(0,l)]) fun m=>Bo 67 2 16 f m S fun n S=>Lt S (shift y5 1) fun o=>A8 1 o n S fun p S=>bin .add 0 y12 (aI 1) S fun q S=>KE1 156 (G3 y2 y4 y5 y6 y10 y11 q) S) (fun u S=>Q (.pan u) S)) (Lt S (shift y5 1) fun r=>Lt S (Ax r) fun s=>Bh Pg y4 [aI 5] S (fun t S=>(∀ T:Aa,Am S T→Ax r T fun v S=>v=s∧S=T)∧(∀ T:Aa,Am S T→shift y5 1 T fun w S=>w=r∧S=T)∧Lt S (bin .quo 0 t (aI 2)) fun x=>Lt S (CH [(0,1),(1,1)] [aI 0,aI 0] [(0,c),(1,x)]) fun y=>Lt S (AU 67 2 1 [aI 0,aI 0] [(0,y)]) fun z=>Bo 67 2 16 s z S fun A S=>Lt S (shift y5 1) fun B=>A8 1 B A S fun C S=>bin .add 0 y12 (aI 1) S fun D S=>KE1 156 (G3 y2 y4 y5 y6 y10 y11 D) S) (fun u S=>Q (.pan u) S))) (fun u S=>Q (.pan u) S)) (Bh Pg y4 [aI 3] S (fun E S=>Ap MV (vc Pg (Ky.at_ [1,1,1,1,1,1,1,1,1,1,1,1,0,1,0,0]) (DK.drop 3)) 156 (Dr y2 y4 y5 y11 E) S (Ak 4 (Av (vc Pg (Ky.at_ [1,1,1,1,1,1,1,1,1,1,1,1,1]) (DK.drop 3)) (Ao Pg US Q)))) (fun u S=>Q (.pan u) S))
theorem aK{y2 y4 y5 y6 y10 y11:AV}{y120:AV}{S:Aa}{Q:Aq}(I:AV→Aa→Prop)(μ:AV→Aa→Nat)(h0:I y120 S)(hr:BS (fun y12=>G3 y2 y4 y5 y6 y10 y11 y12) 156 I μ fun y12 S KE1=>vV y2 y4 y5 y6 y10 y11 y12 S KE1 Q):
 Ap TN (vc Pg (Ky.at_ [1,1,1,1,1,1,1,1,1,1,1,0,1,0,0]) (DK.drop 2)) 156 (G3 y2 y4 y5 y6 y10 y11 y120) S (Ak 2 (Av (vc Pg (Ky.at_ [1,1,1,1,1,1,1,1,1,1,1,1]) (DK.drop 2)) (Ao Pg US Q))):=DY 6 (fun _=>rfl) (fun _ _ _=>by kernel_rfl) h0 hr
abbrev K5(y4:AV)(S:Aa)(y2 y5 y11:AV)(Q:Aq):Prop:=Bh Pg y4 [aI 4] S (fun a S=>bin .quo 0 a (aI 2) S fun c S=>Ap GN (vc Pg (Ky.at_ [1,1,1,1,1,1,1,1,1,1,1,1,1,1,1,0,1,0,0]) (DK.drop 4)) 156 (Cz y2 y4 y5 y11 c) S (Ak 6 (Av (vc Pg (Ky.at_ [1,1,1,1,1,1,1,1,1,1,1,1,1,1,1,1]) (DK.drop 4)) (Ao Pg US Q)))) (fun u S=>Q (.pan u) S)
abbrev Qg(y4:AV)(S:Aa)(y5 y11 y2:AV)(Q:Aq):Prop:=Bh Pg y4 [aI 3] S (fun a S=>bin .eql 0 a (aI 0) S fun c S=>Fi c (Lt S (shift y5 5) fun d=>Lt S (Ax d) fun e=>Bh Pg y4 [y11] S (fun f S=>(∀ T:Aa,Am S T→Ax d T fun g S=>g=e∧S=T)∧(∀ T:Aa,Am S T→shift y5 5 T fun h S=>h=d∧S=T)∧Lt S (AU 3 1 1 [aI 0] [(0,f)]) fun i=>Bo 3 1 8 e i S fun k S=>Lt S (shift y5 5) fun l=>A8 1 l k S fun m S=>K5 y4 S y2 y5 y11 Q) (fun u S=>Q (.pan u) S)) (K5 y4 S y2 y5 y11 Q)) (fun u S=>Q (.pan u) S)
def gV(y2 y4 y5 y11 y14:AV)(S:Aa)(KE2:BB)(Q:Aq):Prop:=
 bin .gtr 0 y14 (aI 0) S fun a S=>Fi a (Lt S (shift y5 3) fun c=>Lt S (Ax c) fun d=>Bh Pg y4 [y11] S (fun e S=>(∀ T:Aa,Am S T→Ax c T fun f S=>f=d∧S=T)∧(∀ T:Aa,Am S T→shift y5 3 T fun g S=>g=c∧S=T)∧Lt S (AU 3 1 1 [aI 0] [(0,e)]) fun h=>Bo 3 1 8 d h S fun i S=>Lt S (shift y5 3) fun k=>A8 1 k i S fun l S=>bin .sub 0 y14 (aI 1) S fun m S=>KE2 156 (Dr y2 y4 y5 y11 m) S) (fun u S=>Q (.pan u) S)) (Bh Pg y4 [aI 4] S (fun n S=>bin .eql 0 n (aI 0) S fun o S=>Fi o (Lt S (shift y5 4) fun p=>Lt S (Ax p) fun q=>Bh Pg y4 [y11] S (fun r S=>(∀ T:Aa,Am S T→Ax p T fun s S=>s=q∧S=T)∧(∀ T:Aa,Am S T→shift y5 4 T fun t S=>t=p∧S=T)∧Lt S (AU 3 1 1 [aI 0] [(0,r)]) fun v=>Bo 3 1 8 q v S fun w S=>Lt S (shift y5 4) fun x=>A8 1 x w S fun y S=>Qg y4 S y5 y11 y2 Q) (fun u S=>Q (.pan u) S)) (Qg y4 S y5 y11 y2 Q)) (fun u S=>Q (.pan u) S))
theorem gU(y2 y4 y5 y11 y14:AV)(S:Aa)(KE2:BB)(Q:Aq):vc Pg (Ky.at_ [1,1,1,1,1,1,1,1,1,1,1,1,0,1,0,0]) (DK.drop 3) (Ly 156 MV (Dr y2 y4 y5 y11 y14)) S (BY (Hn MV KE2) (Ak 4 (Av (vc Pg (Ky.at_ [1,1,1,1,1,1,1,1,1,1,1,1,1]) (DK.drop 3)) (Ao Pg US Q))))=gV y2 y4 y5 y11 y14 S KE2 Q:=by kernel_rfl
theorem Wt{y2 y4 y5 y11 y14:AV}{S:Aa}{Q:Aq}(I:AV→AV→AV→AV→AV→Aa→Prop)(μ:AV→AV→AV→AV→AV→Aa→Nat)(h0:∃(y2' y4' y5' y11' y14':AV) (S':Aa),Wk S (Dr y2 y4 y5 y11 y14) S' (Dr y2' y4' y5' y11' y14')∧I y2' y4' y5' y11' y14' S')
    (hr:∀(y2 y4 y5 y11 y14:AV) (S:Aa),I y2 y4 y5 y11 y14 S→∀ KE2:BB,(∀(y2' y4' y5' y11' y14':AV) (S':Aa) (y2'' y4'' y5'' y11'' y14'':AV) (S'':Aa),Wk S' (Dr y2' y4' y5' y11' y14') S'' (Dr y2'' y4'' y5'' y11'' y14'')→I y2'' y4'' y5'' y11'' y14'' S''→μ y2'' y4'' y5'' y11'' y14'' S''<μ y2 y4 y5 y11 y14 S→KE2 156 (Dr y2' y4' y5' y11' y14') S')→gV y2 y4 y5 y11 y14 S KE2 Q):
    Ap MV (vc Pg (Ky.at_ [1,1,1,1,1,1,1,1,1,1,1,1,0,1,0,0]) (DK.drop 3)) 156 (Dr y2 y4 y5 y11 y14) S (Ak 4 (Av (vc Pg (Ky.at_ [1,1,1,1,1,1,1,1,1,1,1,1,1]) (DK.drop 3)) (Ao Pg US Q))):=by
 obtain⟨y2',y4',y5',y11',y14',S0,hw0,h0⟩:=h0
 refine⟨fun n e S=>n=156∧∃ y2 y4 y5 y11 y14:AV,e=(Dr y2 y4 y5 y11 y14)∧I y2 y4 y5 y11 y14 S,fun _ e S=>μ (e.getD 0 .j) (e.getD 1 .j) (e.getD 2 .j) (e.getD 3 .j) (e.getD 4 .j) S,?_,?_⟩
 ·exact⟨_,_,hw0,rfl,_,_,_,_,_,rfl,h0⟩
 ·rintro _ e S ⟨rfl,y2,y4,y5,y11,y14,rfl,hI⟩
  exact(gU _ _ _ _ _ _ _ _).mpr (hr y2 y4 y5 y11 y14 S hI _ (fun y2' y4' y5' y11' y14' S' y2'' y4'' y5'' y11'' y14'' S'' hw hI' hm=>⟨_,_,hw,⟨rfl,_,_,_,_,_,rfl,hI'⟩,hm⟩))
abbrev Qf(y5:AV)(S:Aa)(y4 y2:AV)(Q:Aq):Prop:=Lf y5 3 S fun a S=>AG a S fun c S=>bin .gtr 0 c (aI 0) S fun d S=>Fi d (Bh Pg y4 [aI 2] S (fun e S=>bin .gtr 0 e (aI 0) S fun f S=>Fi f (Lt S (shift y5 7) fun g=>Lt S (Ax g) fun h=>Lt S (shift y5 3) fun i=>Lt S (Ax i) fun k=>Lt S (AG k) fun l=>Lt S (bin .sub 0 l (aI 1)) fun m=>Lt S (AU 9 1 3 [.v (.string ByteArray.empty)] [(0,(.v (.string { data:=#[111,117,116] }))),(1,(.v (.string { data:=#[108,49] }))),(2,(.v (.string { data:=#[97,45,98] })))]) fun n=>Bh Pg y4 [aI 3] S (fun o S=>(∀ T:Aa,Am S T→AU 9 1 3 [.v (.string ByteArray.empty)] [(0,(.v (.string { data:=#[111,117,116] }))),(1,(.v (.string { data:=#[108,49] }))),(2,(.v (.string { data:=#[97,45,98] })))] T fun p S=>p=n∧S=T)∧(∀ T:Aa,Am S T→bin .sub 0 l (aI 1) T fun q S=>q=m∧S=T)∧(∀ T:Aa,Am S T→AG k T fun r S=>r=l∧S=T)∧(∀ T:Aa,Am S T→Ax i T fun s S=>s=k∧S=T)∧(∀ T:Aa,Am S T→shift y5 3 T fun t S=>t=i∧S=T)∧(∀ T:Aa,Am S T→Ax g T fun w S=>w=h∧S=T)∧(∀ T:Aa,Am S T→shift y5 7 T fun x S=>x=g∧S=T)∧Lt S (AR 9 1 n o) fun y=>Lt S (Ax y) fun z=>Lt S (CH [(0,1),(1,1),(2,1)] Zz7 [(0,(.v (.int .u8 111))),(1,m),(2,z)]) fun A=>Lt S (AU 91 3 1 Zz7 [(0,A)]) fun B=>Bo 91 3 32 h B S fun C S=>Lt S (shift y5 7) fun D=>A8 1 D C S fun E S=>AA 8 y5 S fun F S=>A8 8 y2 F S fun G S=>AA 8 y2 S fun H _=>Q (.ret H) S) (fun u S=>Q (.pan u) S)) (AA 8 y5 S fun I S=>A8 8 y2 I S fun J S=>AA 8 y2 S fun K _=>Q (.ret K) S)) (fun u S=>Q (.pan u) S)) (AA 8 y5 S fun L S=>A8 8 y2 L S fun M S=>AA 8 y2 S fun N _=>Q (.ret N) S)
def gT(y2 y4 y5 y11 y15:AV)(S:Aa)(KE3:BB)(Q:Aq):Prop:=
 bin .gtr 0 y15 (aI 0) S fun a S=>Fi a (Lt S (shift y5 6) fun c=>Lt S (Ax c) fun d=>Bh Pg y4 [y11] S (fun e S=>(∀ T:Aa,Am S T→Ax c T fun f S=>f=d∧S=T)∧(∀ T:Aa,Am S T→shift y5 6 T fun g S=>g=c∧S=T)∧Lt S (AU 3 1 1 [aI 0] [(0,e)]) fun h=>Bo 3 1 8 d h S fun i S=>Lt S (shift y5 6) fun k=>A8 1 k i S fun l S=>bin .sub 0 y15 (aI 1) S fun m S=>KE3 156 (Cz y2 y4 y5 y11 m) S) (fun u S=>Q (.pan u) S)) (Bh Pg y4 [aI 3] S (fun n S=>bin .gtr 0 n (aI 0) S fun o S=>Fi o (Lf y5 7 S fun p S=>CH [(0,1),(1,1),(2,1)] Zz7 [(0,(.v (.int .u8 108))),(2,(.v (.string { data:=#[113] })))] S fun q S=>AU 91 3 1 Zz7 [(0,q)] S fun r S=>Bo 91 3 32 p r S fun s S=>shift y5 7 S fun t S=>A8 1 t s S fun w S=>Qf y5 S y4 y2 Q) (Qf y5 S y4 y2 Q)) (fun u S=>Q (.pan u) S))
theorem gS(y2 y4 y5 y11 y15:AV)(S:Aa)(KE3:BB)(Q:Aq):vc Pg (Ky.at_ [1,1,1,1,1,1,1,1,1,1,1,1,1,1,1,0,1,0,0]) (DK.drop 4) (Ly 156 GN (Cz y2 y4 y5 y11 y15)) S (BY (Hn GN KE3) (Ak 6 (Av (vc Pg (Ky.at_ [1,1,1,1,1,1,1,1,1,1,1,1,1,1,1,1]) (DK.drop 4)) (Ao Pg US Q))))=gT y2 y4 y5 y11 y15 S KE3 Q:=by kernel_rfl
theorem Ws{y2 y4 y5 y11 y15:AV}{S:Aa}{Q:Aq}(I:AV→AV→AV→AV→AV→Aa→Prop)(μ:AV→AV→AV→AV→AV→Aa→Nat)(h0:∃(y2' y4' y5' y11' y15':AV) (S':Aa),Wk S (Cz y2 y4 y5 y11 y15) S' (Cz y2' y4' y5' y11' y15')∧I y2' y4' y5' y11' y15' S')
    (hr:∀(y2 y4 y5 y11 y15:AV) (S:Aa),I y2 y4 y5 y11 y15 S→∀ KE3:BB,(∀(y2' y4' y5' y11' y15':AV) (S':Aa) (y2'' y4'' y5'' y11'' y15'':AV) (S'':Aa),Wk S' (Cz y2' y4' y5' y11' y15') S'' (Cz y2'' y4'' y5'' y11'' y15'')→I y2'' y4'' y5'' y11'' y15'' S''→μ y2'' y4'' y5'' y11'' y15'' S''<μ y2 y4 y5 y11 y15 S→KE3 156 (Cz y2' y4' y5' y11' y15') S')→gT y2 y4 y5 y11 y15 S KE3 Q):
    Ap GN (vc Pg (Ky.at_ [1,1,1,1,1,1,1,1,1,1,1,1,1,1,1,0,1,0,0]) (DK.drop 4)) 156 (Cz y2 y4 y5 y11 y15) S (Ak 6 (Av (vc Pg (Ky.at_ [1,1,1,1,1,1,1,1,1,1,1,1,1,1,1,1]) (DK.drop 4)) (Ao Pg US Q))):=by
 obtain⟨y2',y4',y5',y11',y15',S0,hw0,h0⟩:=h0
 refine⟨fun n e S=>n=156∧∃ y2 y4 y5 y11 y15:AV,e=(Cz y2 y4 y5 y11 y15)∧I y2 y4 y5 y11 y15 S,fun _ e S=>μ (e.getD 0 .j) (e.getD 1 .j) (e.getD 2 .j) (e.getD 3 .j) (e.getD 4 .j) S,?_,?_⟩
 ·exact⟨_,_,hw0,rfl,_,_,_,_,_,rfl,h0⟩
 ·rintro _ e S ⟨rfl,y2,y4,y5,y11,y15,rfl,hI⟩
  exact(gS _ _ _ _ _ _ _ _).mpr (hr y2 y4 y5 y11 y15 S hI _ (fun y2' y4' y5' y11' y15' S' y2'' y4'' y5'' y11'' y15'' S'' hw hI' hm=>⟨_,_,hw,⟨rfl,_,_,_,_,_,rfl,hI'⟩,hm⟩))
def m36(x0 x1 x2:AV)(S:Aa)(Q:Aq):Prop:=
 Ax x1 S fun a S=>bin .add 0 a (aI 1) S fun c S=>A8 1 x1 c S fun d S=>Ax x1 S fun e S=>Ax x2 S fun f S=>AG f S fun g S=>bin .gtr 0 e g S fun h S=>Fi h (Q (.ret (aI 0)) S) (Ax x2 S fun i S=>Ax x1 S fun k S=>bin .sub 0 k (aI 1) S fun l S=>AR 87 1 i l S fun m S=>Ax m S fun n S=>Cf .i64 n S fun o S=>bin .rem 0 o x0 S fun p S=>Q (.ret p) S)
theorem qS{x0 x1 x2:AV}{S:Aa}{Q:Aq}(h:m36 x0 x1 x2 S Q):Ad Pg 36 [x0,x1,x2] S Q:=
 Bl (n:=19) [[]] Tryz.func36 (by kernel_rfl) (Eq.mpr (by kernel_rfl) h)
def c25:Code:=(Tryz.f25.body).getD .skip
def r25:List ResultVar:=Tryz.f25.results.toList
def Mb(y1 y2 y3 y7:AV):List AV:=[y1,y2,y3,y7]
def TL:List Nat:=[1,2,3,7]
def Y7:List (List Nat):=[TL,[]]
def m25(x0 x1 x2:AV)(S:Aa)(Q:Aq):Prop:=
 Az 29 8 x0 S fun a S=>Ap TL (vc Pg (c25.at_ [1,0,1,0,0]) (Y7.drop 1)) 22 (Mb x1 x2 a (aI 0)) S (Ak 0 (Av (vc Pg (c25.at_ [1,1]) (Y7.drop 1)) (Ao Pg r25 Q)))
theorem rB{x0 x1 x2:AV}{S:Aa}{Q:Aq}(h:m25 x0 x1 x2 S Q):Ad Pg 25 [x0,x1,x2] S Q:=
 Bl (n:=22) Y7 Tryz.func25 (by kernel_rfl) (Eq.mpr (by kernel_rfl) h)
def vS(y1 y2 y3 y7:AV)(S:Aa)(KE0:BB)(Q:Aq):Prop:=
 AG y2 S fun a S=>bin .lss 0 y7 a S fun c S=>Fi c ((fun S0:Aa=>Lq S0 (AA 8 y3) fun d=>Lq S0 (AR 3 1 y2 y7) fun e=>Lq S0 (Ax e) fun f=>Ld S0 27 [d,y1,f] fun g=>Lq S0 (un .not g) fun h=>Fi h (Q (.ret (.v (.bool false))) S) (bin .add 0 y7 (aI 1) S fun i S=>KE0 22 (Mb y1 y2 y3 i) S)) S) (Q (.ret (.v (.bool true))) S)
theorem aG{y1 y2 y3:AV}{y70:AV}{S:Aa}{Q:Aq}(I:AV→Aa→Prop)(μ:AV→Aa→Nat)(h0:I y70 S)(hr:BS (fun y7=>Mb y1 y2 y3 y7) 22 I μ fun y7 S KE0=>vS y1 y2 y3 y7 S KE0 Q):
 Ap TL (vc Pg (c25.at_ [1,0,1,0,0]) (Y7.drop 1)) 22 (Mb y1 y2 y3 y70) S (Ak 0 (Av (vc Pg (c25.at_ [1,1]) (Y7.drop 1)) (Ao Pg r25 Q))):=DY 3 (fun _=>rfl) (fun _ _ _=>by kernel_rfl) h0 hr
def c26:Code:=(Tryz.f26.body).getD .skip
def r26:List ResultVar:=Tryz.f26.results.toList
def Ix(y1 y2 y5:AV):List AV:=[y1,y2,y5]
def TK:List Nat:=[1,2,5]
def Y6:List (List Nat):=[TK,[]]
def m26(x0 x1:AV)(S:Aa)(Q:Aq):Prop:=
 Az 29 8 x0 S fun a S=>Ap TK (vc Pg (c26.at_ [1,0,1,0,0]) (Y6.drop 1)) 33 (Ix x1 a (aI 0)) S (Ak 0 (Av (vc Pg (c26.at_ [1,1]) (Y6.drop 1)) (Ao Pg r26 Q)))
theorem rA{x0 x1:AV}{S:Aa}{Q:Aq}(h:m26 x0 x1 S Q):Ad Pg 26 [x0,x1] S Q:=
 Bl (n:=33) Y6 Tryz.func26 (by kernel_rfl) (Eq.mpr (by kernel_rfl) h)
def vR(y1 y2 y5:AV)(S:Aa)(KE0:BB)(Q:Aq):Prop:=
 Lf y2 1 S fun a S=>AG a S fun c S=>bin .lss 0 y5 c S fun d S=>Fi d (Lf y2 1 S fun e S=>AR 67 2 e y5 S fun f S=>Lf f 1 S fun g S=>bin .neq 0 g (aI 2) S fun h S=>Fi h (Lf y2 0 S fun i S=>bin .add 0 i y5 S fun k S=>bin .shr 0 y1 k S fun l S=>bin .rem 0 l (aI 2) S fun m S=>bin .neq 0 m g S fun n S=>Fi n (Q (.ret (.v (.bool false))) S) (bin .add 0 y5 (aI 1) S fun o S=>KE0 33 (Ix y1 y2 o) S)) (bin .add 0 y5 (aI 1) S fun p S=>KE0 33 (Ix y1 y2 p) S)) (Q (.ret (.v (.bool true))) S)
theorem aF{y1 y2:AV}{y50:AV}{S:Aa}{Q:Aq}(I:AV→Aa→Prop)(μ:AV→Aa→Nat)(h0:I y50 S)(hr:BS (fun y5=>Ix y1 y2 y5) 33 I μ fun y5 S KE0=>vR y1 y2 y5 S KE0 Q):
 Ap TK (vc Pg (c26.at_ [1,0,1,0,0]) (Y6.drop 1)) 33 (Ix y1 y2 y50) S (Ak 0 (Av (vc Pg (c26.at_ [1,1]) (Y6.drop 1)) (Ao Pg r26 Q))):=DY 2 (fun _=>rfl) (fun _ _ _=>by kernel_rfl) h0 hr
def Oz:Code:=(Tryz.f30.body).getD .skip
def tQ:List ResultVar:=Tryz.f30.results.toList
def J0(y1 y2 y4 y32 y33:AV):List AV:=[y1,y2,y4,y32,y33]
def MU:List Nat:=[1,2,4,32,33]
def Ma(y1 y2 y4 y5 y6 y32 y33 y43 y44:AV):List AV:=[y1,y2,y4,y5,y6,y32,y33,y43,y44]
def TI:List Nat:=[1,2,4,5,6,32,33,43,44]
def L9(y2 y4 y88 y89 y90:AV):List AV:=[y2,y4,y88,y89,y90]
def TH:List Nat:=[2,4,88,89,90]
def L8(y2 y4 y107 y108:AV):List AV:=[y2,y4,y107,y108]
def TG:List Nat:=[2,4,107,108]
def FQ:List (List Nat):=[MU,TI,TH,TG,[]]
def m30(x0:AV)(S:Aa)(Q:Aq):Prop:=
 Az 29 8 x0 S fun c S=>Az 45 5 (.a XN) S fun d S=>AA 8 c S fun e S=>Ah Pg 49 [e] S Q fun f S=>un .not f S fun g S=>Fi g (AA 5 d S fun h S=>A8 5 d h S fun i S=>AA 5 d S fun k _=>Q (.ret (.t [k,aI 1])) S) (Lt S (AA 8 c) fun l=>Lt S (AA 8 c) fun m=>Lc S 50 [m] fun n=>Lt S (CH [(0,8),(8,2),(10,1)] [aI 0,.nl,.nl,.nl,.nl,.nl,.nl,.nl,aI 0,.nl,.nl] [(0,l),(1,n)]) fun o=>BK (cellsOf o) fun cs18=>cs18.length=11∧UZ [(.cells 102 [cs18] true),(.cells 100 [[.v (.pointer none)]] true)] S fun ids19 S=>A8 1 (.p (ids19.tail.headD 0) 0 0) (.p (ids19.headD 0) 0 0) S fun q S=>Ax (.p (ids19.tail.headD 0) 0 0) S fun r S=>AJ r S fun s S=>shift s 8 S fun u S=>Lf u 0 S fun w S=>bin .gtr 0 w (aI 10) S fun x S=>Fi x (AA 5 d S fun y S=>A8 5 d y S fun z S=>AA 5 d S fun A _=>Q (.ret (.t [A,aI 2])) S) (Ax (.p (ids19.tail.headD 0) 0 0) S fun B S=>AJ B S fun C S=>shift C 8 S fun D S=>Lf D 0 S fun E S=>bin .shl 0 (aI 1) E S fun F S=>Ap MU (vc Pg (Oz.at_ [1,1,1,1,0,1,0,0]) (FQ.drop 1)) 123 (J0 c d (.p (ids19.tail.headD 0) 0 0) F (aI 0)) S (Ak 0 (Av (vc Pg (Oz.at_ [1,1,1,1,1]) (FQ.drop 2)) (Ao Pg tQ Q)))))
theorem qW{x0:AV}{S:Aa}{Q:Aq}(h:m30 x0 S Q):Ad Pg 30 [x0] S Q:=
 Bl (n:=123) FQ Tryz.func30 (by kernel_rfl) (Eq.mpr (by kernel_rfl) h)
def vP(y1 y2 y4 y32 y33:AV)(S:Aa)(KE0:BB)(Q:Aq):Prop:=
 bin .lss 0 y33 y32 S fun a S=>Fi a (Ax y4 S fun c S=>AJ c S fun d S=>shift d 8 S fun e S=>Lf e 0 S fun g S=>Qt 4 1 [.v (.bool false)] g g S fun h S=>AG h S fun i S=>Ap TI (vc Pg (Oz.at_ [1,1,1,1,0,1,0,0,1,1,0,0,1,1,0,1,0,0]) (FQ.drop 2)) 123 (Ma y1 y2 y4 y33 h y32 y33 i (aI 0)) S (Ak 2 (Av (vc Pg (Oz.at_ [1,1,1,1,0,1,0,0,1,1,0,0,1,1,1]) (FQ.drop 2)) (Ak 1 (Av (vc Pg (Oz.at_ [1,1,1,1,0,1,0,0,1,1,1]) (FQ.drop 2)) (BY (Hn MU KE0) (Ak 0 (Av (vc Pg (Oz.at_ [1,1,1,1,1]) (FQ.drop 2)) (Ao Pg tQ Q))))))))) (Ax y4 S fun k S=>AJ k S fun l S=>shift l 8 S fun m S=>Lf m 0 S fun n S=>shift y2 0 S fun o S=>A8 1 o n S fun p S=>Ax y4 S fun q S=>Ax y4 S fun r S=>Ah Pg 52 [q,(.f (.func 53) [r] [])] S Q fun s S=>shift y2 1 S fun t S=>A8 1 t s S fun u S=>Ax y4 S fun w S=>Ah Pg 52 [w,(.f (.func 54) [] [y2,y4])] S Q fun x S=>shift y2 2 S fun y S=>A8 1 y x S fun z S=>Lf y1 6 S fun A S=>AG A S fun B S=>Ap TH (vc Pg (Oz.at_ [1,1,1,1,1,1,1,1,0,1,0,0]) (FQ.drop 3)) 123 (L9 y2 y4 A B (aI 0)) S (Ak 4 (Av (vc Pg (Oz.at_ [1,1,1,1,1,1,1,1,1]) (FQ.drop 3)) (Ao Pg tQ Q))))
theorem aD{y1 y2 y4 y32:AV}{y330:AV}{S:Aa}{Q:Aq}(I:AV→Aa→Prop)(μ:AV→Aa→Nat)(h0:I y330 S)(hr:BS (fun y33=>J0 y1 y2 y4 y32 y33) 123 I μ fun y33 S KE0=>vP y1 y2 y4 y32 y33 S KE0 Q):
 Ap MU (vc Pg (Oz.at_ [1,1,1,1,0,1,0,0]) (FQ.drop 1)) 123 (J0 y1 y2 y4 y32 y330) S (Ak 0 (Av (vc Pg (Oz.at_ [1,1,1,1,1]) (FQ.drop 2)) (Ao Pg tQ Q))):=DY 4 (fun _=>rfl) (fun _ _ _=>by kernel_rfl) h0 hr
def vO(y1 y2 y4 y5 y6 y32 y33 y43 y44:AV)(S:Aa)(KE1:BB)(KE0:BB)(Q:Aq):Prop:=
 bin .lss 0 y44 y43 S fun a S=>Fi a (bin .shr 0 y5 y44 S fun c S=>bin .and 0 c (aI 1) S fun d S=>bin .eql 0 d (aI 1) S fun e S=>AR 4 1 y6 y44 S fun f S=>A8 1 f e S fun g S=>bin .add 0 y44 (aI 1) S fun h S=>KE1 123 (Ma y1 y2 y4 y5 y6 y32 y33 y43 h) S) (Lt S (Ax y4) fun i=>Lt S (Ax y4) fun k=>Lt S (AJ k) fun l=>Lt S (shift l 10) fun m=>Lt S (Ax m) fun n=>Lt S (Ax y4) fun o=>Lt S (AJ o) fun p=>Lt S (shift p 8) fun q=>Lt S (AA 2 q) fun r=>Lc S 51 [r,y6] fun s=>Lt S (AU 41 1 1 [.nl] [(0,s)]) fun t=>Bo 41 1 24 n t S fun u S=>(∀ T:Aa,Am S T→Ax y4 T fun v S=>v=i∧S=T)∧Lt S (AJ i) fun w=>Lt S (shift w 10) fun x=>A8 1 x u S fun y S=>bin .add 0 y33 (aI 1) S fun z S=>KE0 123 (J0 y1 y2 y4 y32 z) S)
theorem aC{y1 y2 y4 y5 y6 y32 y33 y43:AV}{y440:AV}{S:Aa}{KE0:BB}{Q:Aq}(I:AV→Aa→Prop)(μ:AV→Aa→Nat)(h0:I y440 S)(hr:BS (fun y44=>Ma y1 y2 y4 y5 y6 y32 y33 y43 y44) 123 I μ fun y44 S KE1=>vO y1 y2 y4 y5 y6 y32 y33 y43 y44 S KE1 KE0 Q):
 Ap TI (vc Pg (Oz.at_ [1,1,1,1,0,1,0,0,1,1,0,0,1,1,0,1,0,0]) (FQ.drop 2)) 123 (Ma y1 y2 y4 y5 y6 y32 y33 y43 y440) S (Ak 2 (Av (vc Pg (Oz.at_ [1,1,1,1,0,1,0,0,1,1,0,0,1,1,1]) (FQ.drop 2)) (Ak 1 (Av (vc Pg (Oz.at_ [1,1,1,1,0,1,0,0,1,1,1]) (FQ.drop 2)) (BY (Hn MU KE0) (Ak 0 (Av (vc Pg (Oz.at_ [1,1,1,1,1]) (FQ.drop 2)) (Ao Pg tQ Q)))))))):=DY 8 (fun _=>rfl) (fun _ _ _=>by kernel_rfl) h0 hr
def vN(y2 y4 y88 y89 y90:AV)(S:Aa)(KE2:BB)(Q:Aq):Prop:=
 bin .lss 0 y90 y89 S fun a S=>Fi a (AR 3 1 y88 y90 S fun c S=>Ax c S fun d S=>Az 3 1 (aI 0) S fun e S=>A8 1 e d S fun g S=>Lt S (shift y2 4) fun h=>Lt S (Ax h) fun i=>Lt S (Ax y4) fun k=>∃ l:AV,(∀ T:Aa,Am S T→(.f (.func 56) [] [y2,y4,e])=l∧T=T)∧Lc S 52 [k,l] fun m=>Lt S (AU 41 1 1 [.nl] [(0,m)]) fun n=>Bo 41 1 24 i n S fun o S=>Lt S (shift y2 4) fun p=>A8 1 p o S fun q S=>bin .add 0 y90 (aI 1) S fun r S=>KE2 123 (L9 y2 y4 y88 y89 r) S) (Ax y4 S fun s S=>AJ s S fun t S=>Lf t 10 S fun u S=>AG u S fun v S=>Ap TG (vc Pg (Oz.at_ [1,1,1,1,1,1,1,1,1,0,1,0,0]) (FQ.drop 4)) 123 (L8 y2 y4 v (aI 0)) S (Ak 6 (Av (vc Pg (Oz.at_ [1,1,1,1,1,1,1,1,1,1]) (FQ.drop 4)) (Ao Pg tQ Q))))
theorem aA{y2 y4 y88 y89:AV}{y900:AV}{S:Aa}{Q:Aq}(I:AV→Aa→Prop)(μ:AV→Aa→Nat)(h0:I y900 S)(hr:BS (fun y90=>L9 y2 y4 y88 y89 y90) 123 I μ fun y90 S KE2=>vN y2 y4 y88 y89 y90 S KE2 Q):
 Ap TH (vc Pg (Oz.at_ [1,1,1,1,1,1,1,1,0,1,0,0]) (FQ.drop 3)) 123 (L9 y2 y4 y88 y89 y900) S (Ak 4 (Av (vc Pg (Oz.at_ [1,1,1,1,1,1,1,1,1]) (FQ.drop 3)) (Ao Pg tQ Q))):=DY 4 (fun _=>rfl) (fun _ _ _=>by kernel_rfl) h0 hr
def vM(y2 y4 y107 y108:AV)(S:Aa)(KE3:BB)(Q:Aq):Prop:=
 bin .lss 0 y108 y107 S fun a S=>Fi a (Lt S (shift y2 3) fun c=>Lt S (Ax c) fun d=>Lt S (Ax y4) fun e=>Lt S (shift y2 1) fun f=>Lt S (Ax f) fun g=>Lc S 58 [e,y108,g] fun h=>Lt S (AU 26 1 1 [.nl] [(0,h)]) fun i=>Bo 26 1 24 d i S fun k S=>Lt S (shift y2 3) fun l=>A8 1 l k S fun m S=>bin .add 0 y108 (aI 1) S fun n S=>KE3 123 (L8 y2 y4 y107 n) S) (AA 5 y2 S fun o S=>A8 5 y2 o S fun p S=>AA 5 y2 S fun q _=>Q (.ret (.t [q,aI 0])) S)
theorem Z9{y2 y4 y107:AV}{y1080:AV}{S:Aa}{Q:Aq}(I:AV→Aa→Prop)(μ:AV→Aa→Nat)(h0:I y1080 S)(hr:BS (fun y108=>L8 y2 y4 y107 y108) 123 I μ fun y108 S KE3=>vM y2 y4 y107 y108 S KE3 Q):
 Ap TG (vc Pg (Oz.at_ [1,1,1,1,1,1,1,1,1,0,1,0,0]) (FQ.drop 4)) 123 (L8 y2 y4 y107 y1080) S (Ak 6 (Av (vc Pg (Oz.at_ [1,1,1,1,1,1,1,1,1,1]) (FQ.drop 4)) (Ao Pg tQ Q))):=DY 3 (fun _=>rfl) (fun _ _ _=>by kernel_rfl) h0 hr
def m54(x0 x1 x2:AV)(S:Aa)(Q:Aq):Prop:=
 Lf x1 1 S fun a S=>AR 4 1 a x0 S fun c S=>Ax c S fun d S=>Fi d (Ax x2 S fun e S=>Ah Pg 55 [e,x0] S Q fun f S=>Q (.ret f) S) (Q (.ret (.v (.bool false))) S)
theorem qA{x0 x1 x2:AV}{S:Aa}{Q:Aq}(h:m54 x0 x1 x2 S Q):Ad Pg 54 [x0,x1,x2] S Q:=
 Bl (n:=15) [[]] Tryz.func54 (by kernel_rfl) (Eq.mpr (by kernel_rfl) h)
def m56(x0 x1 x2 x3:AV)(S:Aa)(Q:Aq):Prop:=
 Lf x1 1 S fun a S=>AR 4 1 a x0 S fun c S=>Ax c S fun d S=>Fi d (Ax x2 S fun e S=>Ax x3 S fun f S=>Ah Pg 57 [e,x0,f] S Q fun g S=>Q (.ret g) S) (Q (.ret (.v (.bool false))) S)
theorem pZ{x0 x1 x2 x3:AV}{S:Aa}{Q:Aq}(h:m56 x0 x1 x2 x3 S Q):Ad Pg 56 [x0,x1,x2,x3] S Q:=
 Bl (n:=17) [[]] Tryz.func56 (by kernel_rfl) (Eq.mpr (by kernel_rfl) h)
def c52:Code:=(Tryz.f52.body).getD .skip
def r52:List ResultVar:=Tryz.f52.results.toList
def L1(y1 y5 y14 y15:AV):List AV:=[y1,y5,y14,y15]
def Tx:List Nat:=[1,5,14,15]
def YZ:List (List Nat):=[Tx,[]]
def m52(x0 x1:AV)(S:Aa)(Q:Aq):Prop:=
 AJ x0 S fun a S=>Lf a 10 S fun c S=>AG c S fun d S=>Qt 4 1 [.v (.bool false)] d d S fun e S=>AG e S fun f S=>Ap Tx (vc Pg (c52.at_ [1,1,0,1,0,0]) (YZ.drop 1)) 26 (L1 x1 e f (aI 0)) S (Ak 0 (Av (vc Pg (c52.at_ [1,1,1]) (YZ.drop 1)) (Ao Pg r52 Q)))
theorem qC{x0 x1:AV}{S:Aa}{Q:Aq}(h:m52 x0 x1 S Q):Ad Pg 52 [x0,x1] S Q:=
 Bl (n:=26) YZ Tryz.func52 (by kernel_rfl) (Eq.mpr (by kernel_rfl) h)
def u9(y1 y5 y14 y15:AV)(S:Aa)(KE0:BB)(Q:Aq):Prop:=
 bin .lss 0 y15 y14 S fun a S=>Fi a (Bh Pg y1 [y15] S (fun c S=>AR 4 1 y5 y15 S fun d S=>A8 1 d c S fun e S=>bin .add 0 y15 (aI 1) S fun f S=>KE0 26 (L1 y1 y5 y14 f) S) (fun u S=>Q (.pan u) S)) (Q (.ret y5) S)
theorem ZV{y1 y5 y14:AV}{y150:AV}{S:Aa}{Q:Aq}(I:AV→Aa→Prop)(μ:AV→Aa→Nat)(h0:I y150 S)(hr:BS (fun y15=>L1 y1 y5 y14 y15) 26 I μ fun y15 S KE0=>u9 y1 y5 y14 y15 S KE0 Q):
 Ap Tx (vc Pg (c52.at_ [1,1,0,1,0,0]) (YZ.drop 1)) 26 (L1 y1 y5 y14 y150) S (Ak 0 (Av (vc Pg (c52.at_ [1,1,1]) (YZ.drop 1)) (Ao Pg r52 Q))):=DY 3 (fun _=>rfl) (fun _ _ _=>by kernel_rfl) h0 hr
def c58:Code:=(Tryz.f58.body).getD .skip
def r58:List ResultVar:=Tryz.f58.results.toList
def Ir(y2 y6 y7 y22 y23:AV):List AV:=[y2,y6,y7,y22,y23]
def Tv:List Nat:=[2,6,7,22,23]
def YX:List (List Nat):=[Tv,[]]
def m58(x0 x1 x2:AV)(S:Aa)(Q:Aq):Prop:=
 AR 4 1 x2 x1 S fun a S=>Ax a S fun c S=>un .not c S fun d S=>Fi d (Q (.ret .nl) S) (Ah Pg 104 [x0,x1] S Q fun e S=>AJ x0 S fun f S=>shift f 0 S fun g S=>Lf g 0 S fun h S=>bin .shl 0 (aI 1) h S fun i S=>Ap Tv (vc Pg (c58.at_ [1,1,1,0,1,0,0]) (YX.drop 1)) 40 (Ir x2 .nl e i (aI 0)) S (Ak 0 (Av (vc Pg (c58.at_ [1,1,1,1]) (YX.drop 1)) (Ao Pg r58 Q))))
theorem pX{x0 x1 x2:AV}{S:Aa}{Q:Aq}(h:m58 x0 x1 x2 S Q):Ad Pg 58 [x0,x1,x2] S Q:=
 Bl (n:=40) YX Tryz.func58 (by kernel_rfl) (Eq.mpr (by kernel_rfl) h)
def u6(y2 y6 y7 y22 y23:AV)(S:Aa)(KE0:BB)(Q:Aq):Prop:=
 bin .lss 0 y23 y22 S fun a S=>Fi a (bin .or 0 y7 y23 S fun c S=>AR 4 1 y2 c S fun d S=>Ax d S fun e S=>Fi e (bin .or 0 y7 y23 S fun f S=>AU 3 1 1 [aI 0] [(0,f)] S fun g S=>Bo 3 1 8 y6 g S fun h S=>bin .add 0 y23 (aI 1) S fun i S=>KE0 40 (Ir y2 h y7 y22 i) S) (bin .add 0 y23 (aI 1) S fun k S=>KE0 40 (Ir y2 y6 y7 y22 k) S)) (Q (.ret y6) S)
theorem ZT{y2 y7 y22:AV}{y60 y230:AV}{S:Aa}{Q:Aq}(I:AV→AV→Aa→Prop)(μ:AV→AV→Aa→Nat)(h0:I y60 y230 S)(hr:DE (fun y6 y23=>Ir y2 y6 y7 y22 y23) 40 I μ fun y6 y23 S KE0=>u6 y2 y6 y7 y22 y23 S KE0 Q):
 Ap Tv (vc Pg (c58.at_ [1,1,1,0,1,0,0]) (YX.drop 1)) 40 (Ir y2 y60 y7 y22 y230) S (Ak 0 (Av (vc Pg (c58.at_ [1,1,1,1]) (YX.drop 1)) (Ao Pg r58 Q))):=IN (E:=fun y6 y23=>Ir y2 y6 y7 y22 y23) 1 4 (fun _ _=>⟨rfl,rfl⟩) (fun _ _ _ _=>by kernel_rfl) h0 hr
def m57(x0 x1 x2:AV)(S:Aa)(Q:Aq):Prop:=
 AJ x0 S fun a S=>Lf a 10 S fun c S=>AR 41 1 c x1 S fun d S=>Ax d S fun e S=>bin .quo 0 x2 (aI 2) S fun f S=>AR 4 1 e f S fun g S=>Ax g S fun h S=>bin .and 0 x2 (aI 1) S fun i S=>bin .eql 0 i (aI 1) S fun k S=>bin .neq 1 h k S fun l S=>Q (.ret l) S
theorem pY{x0 x1 x2:AV}{S:Aa}{Q:Aq}(h:m57 x0 x1 x2 S Q):Ad Pg 57 [x0,x1,x2] S Q:=
 Bl (n:=22) [[]] Tryz.func57 (by kernel_rfl) (Eq.mpr (by kernel_rfl) h)
def AeZ(x0 x1 x2:AV)(S:Aa)(Q:Aq):Prop:=
 Ax x1 S fun a S=>Ax x2 S fun c S=>Ah Pg 57 [a,c,x0] S Q fun d S=>un .not d S fun e S=>Q (.ret e) S
theorem fM{x0 x1 x2:AV}{S:Aa}{Q:Aq}(h:AeZ x0 x1 x2 S Q):Ad Pg 103 [x0,x1,x2] S Q:=
 Bl (n:=10) [[]] Tryz.func103 (by kernel_rfl) (Eq.mpr (by kernel_rfl) h)
def m53(x0 x1:AV)(S:Aa)(Q:Aq):Prop:=
 Az 100 1 x0 S fun a S=>Az 3 1 x1 S fun c S=>Ax a S fun d S=>AJ d S fun e S=>shift e 0 S fun g S=>Lf g 5 S fun h S=>Ah Pg 100 [h,(.f (.func 103) [] [a,c])] S Q fun i S=>un .not i S fun k S=>Q (.ret k) S
theorem qB{x0 x1:AV}{S:Aa}{Q:Aq}(h:m53 x0 x1 S Q):Ad Pg 53 [x0,x1] S Q:=
 Bl (n:=13) [[]] Tryz.func53 (by kernel_rfl) (Eq.mpr (by kernel_rfl) h)
def sO:Code:=(Tryz.f104.body).getD .skip
def AbW:List ResultVar:=Tryz.f104.results.toList
def Gp(y0 y1 y4 y11 y12 y13:AV):List AV:=[y0,y1,y4,y11,y12,y13]
def PO:List Nat:=[0,1,4,11,12,13]
def Rq:List (List Nat):=[PO,[]]
def AeY(x0 x1:AV)(S:Aa)(Q:Aq):Prop:=
 AJ x0 S fun a S=>shift a 0 S fun c S=>Lf c 1 S fun d S=>AG d S fun e S=>Ap PO (vc Pg (sO.at_ [1,0,1,0,0]) (Rq.drop 1)) 35 (Gp x0 x1 (aI 0) d e (aI 0)) S (Ak 0 (Av (vc Pg (sO.at_ [1,1]) (Rq.drop 1)) (Ao Pg AbW Q)))
theorem fL{x0 x1:AV}{S:Aa}{Q:Aq}(h:AeY x0 x1 S Q):Ad Pg 104 [x0,x1] S Q:=
 Bl (n:=35) Rq Tryz.func104 (by kernel_rfl) (Eq.mpr (by kernel_rfl) h)
def iW(y0 y1 y4 y11 y12 y13:AV)(S:Aa)(KE0:BB)(Q:Aq):Prop:=
 bin .lss 0 y13 y12 S fun c S=>Fi c (AR 67 2 y11 y13 S fun d S=>AA 2 d S fun e S=>Az 67 2 (.a [aI 0,aI 0]) S fun f S=>A8 2 f e S fun g S=>Lf f 0 S fun h S=>Ah Pg 57 [y0,y1,h] S Q fun i S=>Fi i (AJ y0 S fun k S=>shift k 0 S fun l S=>Lf l 0 S fun m S=>bin .add 0 m y13 S fun n S=>bin .shl 0 (aI 1) n S fun o S=>bin .or 0 y4 o S fun p S=>bin .add 0 y13 (aI 1) S fun q S=>KE0 35 (Gp y0 y1 p y11 y12 q) S) (bin .add 0 y13 (aI 1) S fun r S=>KE0 35 (Gp y0 y1 y4 y11 y12 r) S)) (Q (.ret y4) S)
theorem Xf{y0 y1 y11 y12:AV}{y40 y130:AV}{S:Aa}{Q:Aq}(I:AV→AV→Aa→Prop)(μ:AV→AV→Aa→Nat)(h0:I y40 y130 S)(hr:DE (fun y4 y13=>Gp y0 y1 y4 y11 y12 y13) 35 I μ fun y4 y13 S KE0=>iW y0 y1 y4 y11 y12 y13 S KE0 Q):
 Ap PO (vc Pg (sO.at_ [1,0,1,0,0]) (Rq.drop 1)) 35 (Gp y0 y1 y40 y11 y12 y130) S (Ak 0 (Av (vc Pg (sO.at_ [1,1]) (Rq.drop 1)) (Ao Pg AbW Q))):=IN (E:=fun y4 y13=>Gp y0 y1 y4 y11 y12 y13) 2 5 (fun _ _=>⟨rfl,rfl⟩) (fun _ _ _ _=>by kernel_rfl) h0 hr
def c55:Code:=(Tryz.f55.body).getD .skip
def r55:List ResultVar:=Tryz.f55.results.toList
def Is(y0 y1 y11 y12 y13:AV):List AV:=[y0,y1,y11,y12,y13]
def Tw:List Nat:=[0,1,11,12,13]
def YY:List (List Nat):=[Tw,[]]
def m55(x0 x1:AV)(S:Aa)(Q:Aq):Prop:=
 AJ x0 S fun a S=>shift a 0 S fun c S=>Lf c 1 S fun d S=>AG d S fun e S=>Ap Tw (vc Pg (c55.at_ [1,0,1,0,0]) (YY.drop 1)) 37 (Is x0 x1 d e (aI 0)) S (Ak 0 (Av (vc Pg (c55.at_ [1,1]) (YY.drop 1)) (Ao Pg r55 Q)))
theorem p9{x0 x1:AV}{S:Aa}{Q:Aq}(h:m55 x0 x1 S Q):Ad Pg 55 [x0,x1] S Q:=
 Bl (n:=37) YY Tryz.func55 (by kernel_rfl) (Eq.mpr (by kernel_rfl) h)
def u7(y0 y1 y11 y12 y13:AV)(S:Aa)(KE0:BB)(Q:Aq):Prop:=
 bin .lss 0 y13 y12 S fun c S=>Fi c (AR 67 2 y11 y13 S fun d S=>AA 2 d S fun e S=>Az 67 2 (.a [aI 0,aI 0]) S fun f S=>A8 2 f e S fun g S=>(fun S0:Aa=>Lq S0 (shift f 1) fun h=>Lq S0 (Ax h) fun i=>Lq S0 (bin .neq 0 i (aI 2)) fun k=>Fi k (Lq S0 (AJ y0) fun l=>Lq S0 (shift l 0) fun m=>Lq S0 (shift m 0) fun n=>Lq S0 (Ax n) fun o=>Lq S0 (bin .add 0 o y13) fun p=>Lq S0 (bin .shr 0 y1 p) fun q=>Lq S0 (bin .and 0 q (aI 1)) fun r=>Lq S0 (shift f 1) fun s=>Lq S0 (Ax s) fun t=>Lq S0 (bin .neq 0 r t) fun u=>∃ w:AV,(u=w∧S=S0)∧Fi w (Q (.ret (.v (.bool false))) S) (bin .add 0 y13 (aI 1) S fun x S=>KE0 37 (Is y0 y1 y11 y12 x) S)) (∃ y:AV,((.v (.bool false))=y∧S=S0)∧Fi y (Q (.ret (.v (.bool false))) S) (bin .add 0 y13 (aI 1) S fun z S=>KE0 37 (Is y0 y1 y11 y12 z) S))) S) (Q (.ret (.v (.bool true))) S)
theorem ZU{y0 y1 y11 y12:AV}{y130:AV}{S:Aa}{Q:Aq}(I:AV→Aa→Prop)(μ:AV→Aa→Nat)(h0:I y130 S)(hr:BS (fun y13=>Is y0 y1 y11 y12 y13) 37 I μ fun y13 S KE0=>u7 y0 y1 y11 y12 y13 S KE0 Q):
 Ap Tw (vc Pg (c55.at_ [1,0,1,0,0]) (YY.drop 1)) 37 (Is y0 y1 y11 y12 y130) S (Ak 0 (Av (vc Pg (c55.at_ [1,1]) (YY.drop 1)) (Ao Pg r55 Q))):=DY 4 (fun _=>rfl) (fun _ _ _=>by kernel_rfl) h0 hr
def c47:Code:=(Tryz.f47.body).getD .skip
def r47:List ResultVar:=Tryz.f47.results.toList
def JY(y0 y1 y5 y6:AV):List AV:=[y0,y1,y5,y6]
def TA:List Nat:=[0,1,5,6]
def Y1:List (List Nat):=[TA,[]]
def m47(x0 x1:AV)(S:Aa)(Q:Aq):Prop:=
 Ap TA (vc Pg (c47.at_ [1,1,0,1,0,0]) (Y1.drop 1)) 21 (JY x0 x1 .nl (aI 0)) S (Ak 0 (Av (vc Pg (c47.at_ [1,1,1]) (Y1.drop 1)) (Ao Pg r47 Q)))
theorem qH{x0 x1:AV}{S:Aa}{Q:Aq}(h:m47 x0 x1 S Q):Ad Pg 47 [x0,x1] S Q:=
 Bl (n:=21) Y1 Tryz.func47 (by kernel_rfl) (Eq.mpr (by kernel_rfl) h)
def vC(y0 y1 y5 y6:AV)(S:Aa)(KE0:BB)(Q:Aq):Prop:=
 bin .lss 0 y6 y1 S fun a S=>Fi a (bin .shr 0 y0 y6 S fun c S=>bin .and 0 c (aI 1) S fun d S=>bin .eql 0 d (aI 1) S fun e S=>AU 4 1 1 [.v (.bool false)] [(0,e)] S fun f S=>Bo 4 1 1 y5 f S fun g S=>bin .add 0 y6 (aI 1) S fun h S=>KE0 21 (JY y0 y1 g h) S) (Q (.ret y5) S)
theorem ZZ{y0 y1:AV}{y50 y60:AV}{S:Aa}{Q:Aq}(I:AV→AV→Aa→Prop)(μ:AV→AV→Aa→Nat)(h0:I y50 y60 S)(hr:DE (fun y5 y6=>JY y0 y1 y5 y6) 21 I μ fun y5 y6 S KE0=>vC y0 y1 y5 y6 S KE0 Q):
 Ap TA (vc Pg (c47.at_ [1,1,0,1,0,0]) (Y1.drop 1)) 21 (JY y0 y1 y50 y60) S (Ak 0 (Av (vc Pg (c47.at_ [1,1,1]) (Y1.drop 1)) (Ao Pg r47 Q))):=IN (E:=fun y5 y6=>JY y0 y1 y5 y6) 2 3 (fun _ _=>⟨rfl,rfl⟩) (fun _ _ _ _=>by kernel_rfl) h0 hr
def m27(x0 x1 x2:AV)(S:Aa)(Q:Aq):Prop:=
 Az 29 8 x0 S fun a S=>AA 8 a S fun c S=>Ah Pg 24 [c] S Q fun d S=>un .not d S fun e S=>Fi e (Q (.ret (.v (.bool false))) S) (AA 8 a S fun f S=>Ah Pg 17 [f] S Q fun g S=>IT g 0 S fun h S=>bin .gtr 0 h (aI 60) S fun i S=>Fi i (Q (.ret (.v (.bool false))) S) ((fun S0:Aa=>Lq S0 (AA 8 a) fun k=>Ld S0 17 [k] fun l=>Lq S0 (AA 8 a) fun m=>Ld S0 17 [m] fun n=>Lq S0 (IT n 0) fun o=>Ld S0 47 [x1,o] fun p=>Ld S0 46 [l,x2,p] fun q=>Q (.ret q) S) S))
theorem qZ{x0 x1 x2:AV}{S:Aa}{Q:Aq}(h:m27 x0 x1 x2 S Q):Ad Pg 27 [x0,x1,x2] S Q:=
 Bl (n:=25) [[]] Tryz.func27 (by kernel_rfl) (Eq.mpr (by kernel_rfl) h)
def c28:Code:=(Tryz.f28.body).getD .skip
def r28:List ResultVar:=Tryz.f28.results.toList
def Iw(y1 y2 y5 y6:AV):List AV:=[y1,y2,y5,y6]
def TJ:List Nat:=[1,2,5,6]
def Y5:List (List Nat):=[TJ,[]]
def m28(x0 x1:AV)(S:Aa)(Q:Aq):Prop:=
 Az 29 8 x0 S fun a S=>AA 8 a S fun c S=>Ah Pg 24 [c] S Q fun d S=>un .not d S fun e S=>Fi e (Q (.ret (aI 0)) S) (AA 8 a S fun f S=>Ah Pg 17 [f] S Q fun g S=>IT g 0 S fun h S=>bin .gtr 0 h (aI 60) S fun i S=>Fi i (Q (.ret (aI 0)) S) (Ap TJ (vc Pg (c28.at_ [1,1,1,0,1,0,0]) (Y5.drop 1)) 40 (Iw x1 a (aI 0) (aI 0)) S (Ak 0 (Av (vc Pg (c28.at_ [1,1,1,1]) (Y5.drop 1)) (Ao Pg r28 Q)))))
theorem qY{x0 x1:AV}{S:Aa}{Q:Aq}(h:m28 x0 x1 S Q):Ad Pg 28 [x0,x1] S Q:=
 Bl (n:=40) Y5 Tryz.func28 (by kernel_rfl) (Eq.mpr (by kernel_rfl) h)
def vQ(y1 y2 y5 y6:AV)(S:Aa)(KE0:BB)(Q:Aq):Prop:=
 Lf y2 1 S fun a S=>AG a S fun c S=>bin .lss 0 y6 c S fun d S=>Fi d ((fun S0:Aa=>Lq S0 (AA 8 y2) fun e=>Lq S0 (shift y2 1) fun f=>Lq S0 (Ax f) fun g=>Lq S0 (AR 67 2 g y6) fun h=>Lq S0 (shift h 0) fun i=>Lq S0 (Ax i) fun k=>Ld S0 27 [e,y1,k] fun l=>Fi l (Lf y2 0 S fun m S=>bin .add 0 m y6 S fun n S=>bin .shl 0 (aI 1) n S fun o S=>bin .add 0 y5 o S fun p S=>bin .add 0 y6 (aI 1) S fun q S=>KE0 40 (Iw y1 y2 p q) S) (bin .add 0 y6 (aI 1) S fun r S=>KE0 40 (Iw y1 y2 y5 r) S)) S) (Q (.ret y5) S)
theorem aE{y1 y2:AV}{y50 y60:AV}{S:Aa}{Q:Aq}(I:AV→AV→Aa→Prop)(μ:AV→AV→Aa→Nat)(h0:I y50 y60 S)(hr:DE (fun y5 y6=>Iw y1 y2 y5 y6) 40 I μ fun y5 y6 S KE0=>vQ y1 y2 y5 y6 S KE0 Q):
 Ap TJ (vc Pg (c28.at_ [1,1,1,0,1,0,0]) (Y5.drop 1)) 40 (Iw y1 y2 y50 y60) S (Ak 0 (Av (vc Pg (c28.at_ [1,1,1,1]) (Y5.drop 1)) (Ao Pg r28 Q))):=IN (E:=fun y5 y6=>Iw y1 y2 y5 y6) 2 3 (fun _ _=>⟨rfl,rfl⟩) (fun _ _ _ _=>by kernel_rfl) h0 hr
def Af0(x0 x1:AV)(S:Aa)(Q:Aq):Prop:=
 Ax x1 S fun a S=>bin .shr 0 x0 (.v (.int .u64 1)) S fun c S=>AR 4 1 a c S fun d S=>Ax d S fun e S=>bin .and 0 x0 (aI 1) S fun f S=>bin .eql 0 f (aI 1) S fun g S=>bin .neq 1 e g S fun h S=>Q (.ret h) S
theorem fN{x0 x1:AV}{S:Aa}{Q:Aq}(h:Af0 x0 x1 S Q):Ad Pg 102 [x0,x1] S Q:=
 Bl (n:=13) [[]] Tryz.func102 (by kernel_rfl) (Eq.mpr (by kernel_rfl) h)
def c51:Code:=(Tryz.f51.body).getD .skip
def r51:List ResultVar:=Tryz.f51.results.toList
def It(y5 y6 y32 y33 y34:AV):List AV:=[y5,y6,y32,y33,y34]
def Ty:List Nat:=[5,6,32,33,34]
def Y0:List (List Nat):=[Ty,[]]
def m51(x0 x1:AV)(S:Aa)(Q:Aq):Prop:=
 Az 61 2 x0 S fun a S=>AA 2 a S fun c S=>Ah Pg 98 [c] S Q fun d S=>un .not d S fun e S=>Fi e (Q (.ret .nl) S) (AG x1 S fun g S=>Lf a 0 S fun h S=>bin .neq 0 g h S fun i S=>Fi i (Q (.ret .nl) S) (Lf a 0 S fun k S=>bin .add 0 k (aI 1) S fun l S=>Lf a 1 S fun m S=>AG m S fun n S=>bin .add 0 l n S fun o S=>Qt 4 1 [.v (.bool false)] (aI 1) o S fun p S=>Az 41 1 .nl S fun q S=>A8 1 q p S fun r S=>Ax q S fun s S=>Bo 4 1 1 s x1 S fun t S=>A8 1 q t S fun u S=>Lf a 1 S fun w S=>AG w S fun x S=>Ap Ty (vc Pg (c51.at_ [1,1,1,1,1,0,1,0,0]) (Y0.drop 1)) 53 (It q (.f (.func 102) [] [q]) w x (aI 0)) S (Ak 0 (Av (vc Pg (c51.at_ [1,1,1,1,1,1]) (Y0.drop 1)) (Ao Pg r51 Q)))))
theorem qD{x0 x1:AV}{S:Aa}{Q:Aq}(h:m51 x0 x1 S Q):Ad Pg 51 [x0,x1] S Q:=
 Bl (n:=53) Y0 Tryz.func51 (by kernel_rfl) (Eq.mpr (by kernel_rfl) h)
def vA(y5 y6 y32 y33 y34:AV)(S:Aa)(KE0:BB)(Q:Aq):Prop:=
 bin .lss 0 y34 y33 S fun c S=>Fi c (AR 130 2 y32 y34 S fun d S=>AA 2 d S fun e S=>Az 130 2 (.a [aI 0,aI 0]) S fun f S=>A8 2 f e S fun g S=>Lt S (Ax y5) fun h=>Lt S (IL 2 1 f (aI 0)) fun i=>Lt S (Ax i) fun k=>∃ l:AV,(∀ T:Aa,Am S T→Bh Pg y6 [k] T (fun m S=>m=l∧S=T) (fun u S=>False))∧Fi l (Lt S (IL 2 1 f (aI 1)) fun n=>Lt S (Ax n) fun o=>∃ p:AV,(∀ T:Aa,Am S T→Bh Pg y6 [o] T (fun q S=>q=p∧S=T) (fun u S=>False))∧∃ r:AV,(∀ T:Aa,Am S T→p=r∧T=T)∧Lt S (AU 4 1 1 [.v (.bool false)] [(0,r)]) fun s=>Bo 4 1 1 h s S fun t S=>A8 1 y5 t S fun w S=>bin .add 0 y34 (aI 1) S fun x S=>KE0 53 (It y5 y6 y32 y33 x) S) (∃ y:AV,(∀ T:Aa,Am S T→(.v (.bool false))=y∧T=T)∧Lt S (AU 4 1 1 [.v (.bool false)] [(0,y)]) fun z=>Bo 4 1 1 h z S fun A S=>A8 1 y5 A S fun B S=>bin .add 0 y34 (aI 1) S fun C S=>KE0 53 (It y5 y6 y32 y33 C) S)) (Ax y5 S fun D S=>Q (.ret D) S)
theorem ZW{y5 y6 y32 y33:AV}{y340:AV}{S:Aa}{Q:Aq}(I:AV→Aa→Prop)(μ:AV→Aa→Nat)(h0:I y340 S)(hr:BS (fun y34=>It y5 y6 y32 y33 y34) 53 I μ fun y34 S KE0=>vA y5 y6 y32 y33 y34 S KE0 Q):
 Ap Ty (vc Pg (c51.at_ [1,1,1,1,1,0,1,0,0]) (Y0.drop 1)) 53 (It y5 y6 y32 y33 y340) S (Ak 0 (Av (vc Pg (c51.at_ [1,1,1,1,1,1]) (Y0.drop 1)) (Ao Pg r51 Q))):=DY 4 (fun _=>rfl) (fun _ _ _=>by kernel_rfl) h0 hr
def m91(x0 x1:AV)(S:Aa)(Q:Aq):Prop:=
 bin .quo 0 x1 (aI 2) S fun a S=>AR 4 1 x0 a S fun c S=>Ax c S fun d S=>bin .rem 0 x1 (aI 2) S fun e S=>bin .eql 0 e (aI 1) S fun f S=>bin .neq 1 d f S fun g S=>Q (.ret g) S
theorem oO{x0 x1:AV}{S:Aa}{Q:Aq}(h:m91 x0 x1 S Q):Ad Pg 91 [x0,x1] S Q:=
 Bl (n:=14) [[]] Tryz.func91 (by kernel_rfl) (Eq.mpr (by kernel_rfl) h)
def c90:Code:=(Tryz.f90.body).getD .skip
def r90:List ResultVar:=Tryz.f90.results.toList
def GY(y2 y5 y6:AV):List AV:=[y2,y5,y6]
def Tf:List Nat:=[2,5,6]
def YM:List (List Nat):=[Tf,[]]
def m90(x0 x1:AV)(S:Aa)(Q:Aq):Prop:=
 Az 61 2 x0 S fun a S=>AA 2 a S fun c S=>Ah Pg 42 [c] S Q fun d S=>un .not d S fun e S=>Fi e (Q (.ret .nl) S) (AG x1 S fun f S=>Lf a 0 S fun g S=>bin .neq 0 f g S fun h S=>Fi h (Q (.ret .nl) S) (AU 4 1 1 [.v (.bool false)] [(0,(.v (.bool false)))] S fun i S=>Bo 4 1 1 i x1 S fun k S=>Ap Tf (vc Pg (c90.at_ [1,1,1,0,1,0,0]) (YM.drop 1)) 49 (GY a k (aI 0)) S (Ak 0 (Av (vc Pg (c90.at_ [1,1,1,1]) (YM.drop 1)) (Ao Pg r90 Q)))))
theorem oP{x0 x1:AV}{S:Aa}{Q:Aq}(h:m90 x0 x1 S Q):Ad Pg 90 [x0,x1] S Q:=
 Bl (n:=49) YM Tryz.func90 (by kernel_rfl) (Eq.mpr (by kernel_rfl) h)
def uL(y2 y5 y6:AV)(S:Aa)(KE0:BB)(Q:Aq):Prop:=
 Lf y2 1 S fun a S=>AG a S fun c S=>bin .lss 0 y6 c S fun d S=>Fi d (Lf y2 1 S fun e S=>AR 130 2 e y6 S fun f S=>IL 2 1 f (aI 0) S fun g S=>Ax g S fun h S=>Ah Pg 91 [y5,h] S Q fun i S=>Fi i (Lf y2 1 S fun k S=>AR 130 2 k y6 S fun l S=>IL 2 1 l (aI 1) S fun m S=>Ax m S fun n S=>Ah Pg 91 [y5,n] S Q fun o S=>AU 4 1 1 [.v (.bool false)] [(0,o)] S fun p S=>Bo 4 1 1 y5 p S fun q S=>bin .add 0 y6 (aI 1) S fun r S=>KE0 49 (GY y2 q r) S) (AU 4 1 1 [.v (.bool false)] [(0,(.v (.bool false)))] S fun s S=>Bo 4 1 1 y5 s S fun t S=>bin .add 0 y6 (aI 1) S fun u S=>KE0 49 (GY y2 t u) S)) (Q (.ret y5) S)
theorem ZA{y2:AV}{y50 y60:AV}{S:Aa}{Q:Aq}(I:AV→AV→Aa→Prop)(μ:AV→AV→Aa→Nat)(h0:I y50 y60 S)(hr:DE (fun y5 y6=>GY y2 y5 y6) 49 I μ fun y5 y6 S KE0=>uL y2 y5 y6 S KE0 Q):
 Ap Tf (vc Pg (c90.at_ [1,1,1,0,1,0,0]) (YM.drop 1)) 49 (GY y2 y50 y60) S (Ak 0 (Av (vc Pg (c90.at_ [1,1,1,1]) (YM.drop 1)) (Ao Pg r90 Q))):=IN (E:=fun y5 y6=>GY y2 y5 y6) 1 2 (fun _ _=>⟨rfl,rfl⟩) (fun _ _ _ _=>by kernel_rfl) h0 hr
def m46(x0 x1 x2:AV)(S:Aa)(Q:Aq):Prop:=
 Az 61 2 x0 S fun a S=>AA 2 a S fun c S=>Ah Pg 90 [c,x2] S Q fun d S=>AG d S fun e S=>bin .gtr 0 e (aI 0) S fun f S=>Fi f (AA 2 a S fun g S=>Ah Pg 43 [g,x1] S Q fun h S=>Fi h (Ah Pg 91 [d,x1] S Q fun i S=>Q (.ret i) S) (Q (.ret (.v (.bool false))) S)) (Q (.ret (.v (.bool false))) S)
theorem qI{x0 x1 x2:AV}{S:Aa}{Q:Aq}(h:m46 x0 x1 x2 S Q):Ad Pg 46 [x0,x1,x2] S Q:=
 Bl (n:=24) [[]] Tryz.func46 (by kernel_rfl) (Eq.mpr (by kernel_rfl) h)
def c24:Code:=(Tryz.f24.body).getD .skip
def r24:List ResultVar:=Tryz.f24.results.toList
def G1(y1 y3 y4:AV):List AV:=[y1,y3,y4]
def TM:List Nat:=[1,3,4]
def Y8:List (List Nat):=[TM,[]]
def m24(x0:AV)(S:Aa)(Q:Aq):Prop:=
 Az 29 8 x0 S fun c S=>AA 8 c S fun d S=>Ah Pg 17 [d] S Q fun e S=>Az 61 2 (.a [aI 0,.nl]) S fun f S=>A8 2 f e S fun g S=>Lf c 0 S fun h S=>bin .lss 0 h (aI 0) S fun i S=>Fi i (Q (.ret (.v (.bool false))) S) (Lf c 0 S fun k S=>bin .gtr 0 k (aI 2000) S fun l S=>Fi l (Q (.ret (.v (.bool false))) S) (Lf c 1 S fun m S=>AG m S fun n S=>bin .gtr 0 n (aI 2000) S fun o S=>Fi o (Q (.ret (.v (.bool false))) S) (AA 2 f S fun p S=>Ah Pg 42 [p] S Q fun q S=>un .not q S fun r S=>Fi r (Q (.ret (.v (.bool false))) S) (Ap TM (vc Pg (c24.at_ [1,1,1,0,1,0,0]) (Y8.drop 1)) 86 (G1 c f (aI 0)) S (Ak 0 (Av (vc Pg (c24.at_ [1,1,1,1]) (Y8.drop 1)) (Ao Pg r24 Q)))))))
theorem rC{x0:AV}{S:Aa}{Q:Aq}(h:m24 x0 S Q):Ad Pg 24 [x0] S Q:=
 Bl (n:=86) Y8 Tryz.func24 (by kernel_rfl) (Eq.mpr (by kernel_rfl) h)
abbrev Qe(S0:Aa)(y1 y4:AV)(S:Aa)(Q:Aq)(KE0:BB)(y3:AV):Prop:=Lq S0 (shift y1 1) fun a=>Lq S0 (Ax a) fun c=>Lq S0 (AR 67 2 c y4) fun d=>Lq S0 (shift d 1) fun e=>Lq S0 (Ax e) fun f=>Lq S0 (bin .gtr 0 f (aI 2)) fun g=>∃ h:AV,(g=h∧S=S0)∧Fi h (Q (.ret (.v (.bool false))) S) (bin .add 0 y4 (aI 1) S fun i S=>KE0 86 (G1 y1 y3 i) S)
def vT(y1 y3 y4:AV)(S:Aa)(KE0:BB)(Q:Aq):Prop:=
 Lf y1 1 S fun a S=>AG a S fun c S=>bin .lss 0 y4 c S fun d S=>Fi d ((fun S0:Aa=>Lq S0 (AA 2 y3) fun e=>Lq S0 (shift y1 1) fun f=>Lq S0 (Ax f) fun g=>Lq S0 (AR 67 2 g y4) fun h=>Lq S0 (shift h 0) fun i=>Lq S0 (Ax i) fun k=>Ld S0 43 [e,k] fun l=>Lq S0 (un .not l) fun m=>Fi m (∃ n:AV,((.v (.bool true))=n∧S=S0)∧Fi n (∃ o:AV,((.v (.bool true))=o∧S=S0)∧Fi o (Q (.ret (.v (.bool false))) S) (bin .add 0 y4 (aI 1) S fun p S=>KE0 86 (G1 y1 y3 p) S)) (Qe S0 y1 y4 S Q KE0 y3)) (Lq S0 (shift y1 1) fun q=>Lq S0 (Ax q) fun r=>Lq S0 (AR 67 2 r y4) fun s=>Lq S0 (shift s 1) fun t=>Lq S0 (Ax t) fun u=>Lq S0 (bin .lss 0 u (aI 0)) fun w=>∃ x:AV,(w=x∧S=S0)∧Fi x (∃ y:AV,((.v (.bool true))=y∧S=S0)∧Fi y (Q (.ret (.v (.bool false))) S) (bin .add 0 y4 (aI 1) S fun z S=>KE0 86 (G1 y1 y3 z) S)) (Qe S0 y1 y4 S Q KE0 y3))) S) (AA 2 y3 S fun A S=>Lf y1 3 S fun B S=>Ah Pg 44 [A,B] S Q fun C S=>Fi C (AA 2 y3 S fun D S=>Lf y1 4 S fun E S=>Ah Pg 44 [D,E] S Q fun F S=>Fi F (AA 2 y3 S fun G S=>Lf y1 5 S fun H S=>Ah Pg 44 [G,H] S Q fun I S=>Fi I (AA 2 y3 S fun J S=>Lf y1 6 S fun K S=>Ah Pg 44 [J,K] S Q fun L S=>Fi L (AA 8 y1 S fun M S=>Ah Pg 45 [M] S Q fun N S=>Q (.ret N) S) (Q (.ret (.v (.bool false))) S)) (Q (.ret (.v (.bool false))) S)) (Q (.ret (.v (.bool false))) S)) (Q (.ret (.v (.bool false))) S))
theorem aH{y1 y3:AV}{y40:AV}{S:Aa}{Q:Aq}(I:AV→Aa→Prop)(μ:AV→Aa→Nat)(h0:I y40 S)(hr:BS (fun y4=>G1 y1 y3 y4) 86 I μ fun y4 S KE0=>vT y1 y3 y4 S KE0 Q):
 Ap TM (vc Pg (c24.at_ [1,1,1,0,1,0,0]) (Y8.drop 1)) 86 (G1 y1 y3 y40) S (Ak 0 (Av (vc Pg (c24.at_ [1,1,1,1]) (Y8.drop 1)) (Ao Pg r24 Q))):=DY 2 (fun _=>rfl) (fun _ _ _=>by kernel_rfl) h0 hr
def m95(x0 x1:AV)(S:Aa)(Q:Aq):Prop:=
 AA 2 x1 S fun a S=>Ah Pg 96 [a,x0] S Q fun c S=>un .not c S fun d S=>Q (.ret d) S
theorem oK{x0 x1:AV}{S:Aa}{Q:Aq}(h:m95 x0 x1 S Q):Ad Pg 95 [x0,x1] S Q:=
 Bl (n:=8) [[]] Tryz.func95 (by kernel_rfl) (Eq.mpr (by kernel_rfl) h)
def m97(x0 x1:AV)(S:Aa)(Q:Aq):Prop:=
 Az 67 2 x0 S fun a S=>Ax x1 S fun c S=>Lf a 0 S fun d S=>Bh Pg c [d] S (fun e S=>Fi e (Q (.ret (.v (.bool true))) S) (Lf a 1 S fun f S=>bin .lss 0 f (aI 0) S fun g S=>Fi g (Q (.ret (.v (.bool true))) S) (Lf a 1 S fun h S=>bin .gtr 0 h (aI 2) S fun i S=>Q (.ret i) S))) (fun u S=>Q (.pan u) S)
theorem oI{x0 x1:AV}{S:Aa}{Q:Aq}(h:m97 x0 x1 S Q):Ad Pg 97 [x0,x1] S Q:=
 Bl (n:=18) [[]] Tryz.func97 (by kernel_rfl) (Eq.mpr (by kernel_rfl) h)
def sE:Code:=(Tryz.f135.body).getD .skip
def AbN:List ResultVar:=Tryz.f135.results.toList
def Kb(y0 y1 y7 y8:AV):List AV:=[y0,y1,y7,y8]
def PB:List Nat:=[0,1,7,8]
def Rh:List (List Nat):=[PB,[]]
def Ae6(x0 x1:AV)(S:Aa)(Q:Aq):Prop:=
 AG x0 S fun a S=>Ap PB (vc Pg (sE.at_ [1,0,1,0,0]) (Rh.drop 1)) 19 (Kb x0 x1 a (aI 0)) S (Ak 0 (Av (vc Pg (sE.at_ [1,1]) (Rh.drop 1)) (Ao Pg AbN Q)))
theorem eH{x0 x1:AV}{S:Aa}{Q:Aq}(h:Ae6 x0 x1 S Q):Ad Pg 135 [x0,x1] S Q:=
 Bl (n:=19) Rh Tryz.func135 (by kernel_rfl) (Eq.mpr (by kernel_rfl) h)
def iB(y0 y1 y7 y8:AV)(S:Aa)(KE0:BB)(Q:Aq):Prop:=
 bin .lss 0 y8 y7 S fun a S=>Fi a (AR 67 2 y0 y8 S fun c S=>AA 2 c S fun d S=>Bh Pg y1 [d] S (fun e S=>Fi e (Q (.ret y8) S) (bin .add 0 y8 (aI 1) S fun f S=>KE0 19 (Kb y0 y1 y7 f) S)) (fun u S=>Q (.pan u) S)) (Q (.ret (.v (.int .i64 (-1)))) S)
theorem WZ{y0 y1 y7:AV}{y80:AV}{S:Aa}{Q:Aq}(I:AV→Aa→Prop)(μ:AV→Aa→Nat)(h0:I y80 S)(hr:BS (fun y8=>Kb y0 y1 y7 y8) 19 I μ fun y8 S KE0=>iB y0 y1 y7 y8 S KE0 Q):
 Ap PB (vc Pg (sE.at_ [1,0,1,0,0]) (Rh.drop 1)) 19 (Kb y0 y1 y7 y80) S (Ak 0 (Av (vc Pg (sE.at_ [1,1]) (Rh.drop 1)) (Ao Pg AbN Q))):=DY 3 (fun _=>rfl) (fun _ _ _=>by kernel_rfl) h0 hr
def m99(x0 x1:AV)(S:Aa)(Q:Aq):Prop:=
 Ah Pg 135 [x0,x1] S Q fun a S=>bin .geq 0 a (aI 0) S fun c S=>Q (.ret c) S
theorem oG{x0 x1:AV}{S:Aa}{Q:Aq}(h:m99 x0 x1 S Q):Ad Pg 99 [x0,x1] S Q:=
 Bl (n:=9) [[]] Tryz.func99 (by kernel_rfl) (Eq.mpr (by kernel_rfl) h)
def kO:Code:=(Tryz.f49.body).getD .skip
def r49:List ResultVar:=Tryz.f49.results.toList
def Iu(y1 y3 y14:AV):List AV:=[y1,y3,y14]
def MR:List Nat:=[1,3,14]
def L2(y1 y6 y44 y45:AV):List AV:=[y1,y6,y44,y45]
def Tz:List Nat:=[1,6,44,45]
def MI:List (List Nat):=[MR,Tz,[]]
def m49(x0:AV)(S:Aa)(Q:Aq):Prop:=
 Az 29 8 x0 S fun c S=>AA 8 c S fun d S=>Ah Pg 50 [d] S Q fun e S=>Az 61 2 (.a [aI 0,.nl]) S fun f S=>A8 2 f e S fun g S=>AA 8 c S fun h S=>Ah Pg 94 [h] S Q fun i S=>xS i S fun k S=>Ap MR (vc Pg (kO.at_ [1,1,0,1,0,0]) (MI.drop 1)) 54 (Iu c f k) S (Ak 0 (Av (vc Pg (kO.at_ [1,1,1]) (MI.drop 1)) (Ao Pg r49 Q)))
theorem qF{x0:AV}{S:Aa}{Q:Aq}(h:m49 x0 S Q):Ad Pg 49 [x0] S Q:=
 Bl (n:=54) MI Tryz.func49 (by kernel_rfl) (Eq.mpr (by kernel_rfl) h)
def fZ(y1 y3 y14:AV)(S:Aa)(KE0:BB)(Q:Aq):Prop:=
 ME false y14 S fun a S=>A0 a 0 S fun c S=>Fi c (Nb y14 S fun d S=>A0 d 1 S fun e S=>bin .lss 0 e (aI 0) S fun g S=>Fi g (Q (.ret (.v (.bool false))) S) (bin .gtr 0 e (aI 2000) S fun h S=>Fi h (Q (.ret (.v (.bool false))) S) (KE0 54 (Iu y1 y3 y14) S))) (Az 105 1 (.v .nilFunc) S fun i S=>A8 1 i (.f (.func 95) [] [y3]) S fun k S=>AA 2 y3 S fun l S=>Ah Pg 98 [l] S Q fun m S=>un .not m S fun n S=>Fi n (Q (.ret (.v (.bool false))) S) (Lf y1 1 S fun o S=>Ah Pg 99 [o,(.f (.func 97) [] [i])] S Q fun p S=>Fi p (Q (.ret (.v (.bool false))) S) (Lf y1 3 S fun q S=>Lf y1 4 S fun r S=>Lf y1 5 S fun s S=>Lf y1 6 S fun t S=>CH Qq [.nl,.nl,.nl,.nl] [(0,q),(1,r),(2,s),(3,t)] S fun u S=>Ap Tz (vc Pg (kO.at_ [1,1,1,1,1,1,0,1,0,0]) (MI.drop 2)) 54 (L2 y1 i u (aI 0)) S (Ak 2 (Av (vc Pg (kO.at_ [1,1,1,1,1,1,1]) (MI.drop 2)) (Ao Pg r49 Q))))))
theorem fY(y1 y3 y14:AV)(S:Aa)(KE0:BB)(Q:Aq):vc Pg (kO.at_ [1,1,0,1,0,0]) (MI.drop 1) (Ly 54 MR (Iu y1 y3 y14)) S (BY (Hn MR KE0) (Ak 0 (Av (vc Pg (kO.at_ [1,1,1]) (MI.drop 1)) (Ao Pg r49 Q))))=fZ y1 y3 y14 S KE0 Q:=by kernel_rfl
theorem ZY{y1 y3 y14:AV}{S:Aa}{Q:Aq}(I:Aa→Prop)(μ:Aa→Nat)(h0:I  S)
    (hr:∀(S:Aa),I  S→∀ KE0:BB,(∀(S':Aa),I  S'→μ  S'<μ  S→KE0 54 (Iu y1 y3 y14) S')→fZ y1 y3 y14 S KE0 Q):
    Ap MR (vc Pg (kO.at_ [1,1,0,1,0,0]) (MI.drop 1)) 54 (Iu y1 y3 y14) S (Ak 0 (Av (vc Pg (kO.at_ [1,1,1]) (MI.drop 1)) (Ao Pg r49 Q))):=by
 refine⟨fun n e S=>n=54∧e=(Iu y1 y3 y14)∧I  S,fun _ e S=>μ  S,?_,?_⟩
 ·exact⟨_,_,Wk.refl _ _,rfl,rfl,h0⟩
 ·rintro _ e S ⟨rfl,rfl,hI⟩
  exact(fY _ _ _ _ _ _).mpr (hr  S hI _ (fun  S' hI' hm=>⟨_,_,Wk.refl _ _,⟨rfl,rfl,hI'⟩,hm⟩))
def vB(y1 y6 y44 y45:AV)(S:Aa)(KE1:BB)(Q:Aq):Prop:=
 bin .lss 0 y45 (aI 4) S fun a S=>Fi a (BK (Aw y45) fun z39=>(0≤z39∧z39<((4:Nat):Int))∧IT y44 (z39.toNat*1) S fun c S=>Ax y6 S fun d S=>Ah Pg 100 [c,d] S Q fun e S=>Fi e (Q (.ret (.v (.bool false))) S) (bin .add 0 y45 (aI 1) S fun f S=>KE1 54 (L2 y1 y6 y44 f) S)) (AA 8 y1 S fun g S=>Ah Pg 101 [g] S Q fun h S=>Q (.ret h) S)
theorem ZX{y1 y6 y44:AV}{y450:AV}{S:Aa}{Q:Aq}(I:AV→Aa→Prop)(μ:AV→Aa→Nat)(h0:I y450 S)(hr:BS (fun y45=>L2 y1 y6 y44 y45) 54 I μ fun y45 S KE1=>vB y1 y6 y44 y45 S KE1 Q):
 Ap Tz (vc Pg (kO.at_ [1,1,1,1,1,1,0,1,0,0]) (MI.drop 2)) 54 (L2 y1 y6 y44 y450) S (Ak 2 (Av (vc Pg (kO.at_ [1,1,1,1,1,1,1]) (MI.drop 2)) (Ao Pg r49 Q))):=DY 3 (fun _=>rfl) (fun _ _ _=>by kernel_rfl) h0 hr
def XY:Code:=(Tryz.f45.body).getD .skip
def r45:List ResultVar:=Tryz.f45.results.toList
def FF(y1 y3:AV):List AV:=[y1,y3]
def MS:List Nat:=[1,3]
def L3(y1 y3 y4 y5:AV):List AV:=[y1,y3,y4,y5]
def TB:List Nat:=[1,3,4,5]
def KO:List (List Nat):=[MS,TB,[]]
def m45(x0:AV)(S:Aa)(Q:Aq):Prop:=
 Az 29 8 x0 S fun a S=>Ap MS (vc Pg (XY.at_ [1,0,1,0,0]) (KO.drop 1)) 85 (FF a (aI 0)) S (Ak 0 (Av (vc Pg (XY.at_ [1,1]) (KO.drop 2)) (Ao Pg r45 Q)))
theorem qJ{x0:AV}{S:Aa}{Q:Aq}(h:m45 x0 S Q):Ad Pg 45 [x0] S Q:=
 Bl (n:=85) KO Tryz.func45 (by kernel_rfl) (Eq.mpr (by kernel_rfl) h)
abbrev Mf(y1 y3 v11:AV)(S:Aa)(KE0:BB)(Q:Aq):Prop:=Ap TB (vc Pg (XY.at_ [1,0,1,0,0,1,0,0,1,1,0,1,0,0]) (KO.drop 2)) 85 (L3 y1 y3 v11 (aI 0)) S (Ak 2 (Av (vc Pg (XY.at_ [1,0,1,0,0,1,0,0,1,1,1]) (KO.drop 2)) (Ak 1 (Av (vc Pg (XY.at_ [1,0,1,0,0,1,1]) (KO.drop 2)) (BY (Hn MS KE0) (Ak 0 (Av (vc Pg (XY.at_ [1,1]) (KO.drop 2)) (Ao Pg r45 Q))))))))
abbrev Qd(S0:Aa)(v11 y1:AV)(S:Aa)(Q:Aq)(y3:AV)(KE0:BB):Prop:=Lq S0 (shift v11 1) fun q26=>Lq S0 (Ax q26) fun q28=>Lq S0 (AA 8 y1) fun q30=>Lq S0 (shift v11 0) fun q32=>Lq S0 (Ax q32) fun q34=>Ld S0 88 [q30,q34] fun q36=>Lq S0 (bin .geq 0 q28 q36) fun q38=>∃ q40:AV,(q38=q40∧S=S0)∧Fi q40 (Q (.ret (.v (.bool false))) S) (Mf y1 y3 v11 S KE0 Q)
def vE(y1 y3:AV)(S:Aa)(KE0:BB)(Q:Aq):Prop:=
 Lf y1 7 S fun c S=>AG c S fun d S=>bin .lss 0 y3 d S fun e S=>Fi e (Lf y1 7 S fun f S=>AR 91 3 f y3 S fun g S=>AA 3 g S fun h S=>Az 91 3 (.a Zz7) S fun i S=>A8 3 i h S fun k S=>(fun S0:Aa=>Lq S0 (shift i 2) fun l=>Lq S0 (Ax l) fun m=>Ld S0 87 [m] fun n=>Lq S0 (un .not n) fun o=>Fi o (∃ p:AV,((.v (.bool true))=p∧S=S0)∧Fi p (∃ q:AV,((.v (.bool true))=q∧S=S0)∧Fi q (Q (.ret (.v (.bool false))) S) (Mf y1 y3 i S KE0 Q)) (Qd S0 i y1 S Q y3 KE0)) (Lq S0 (shift i 1) fun r=>Lq S0 (Ax r) fun s=>Lq S0 (bin .lss 0 s (aI 0)) fun t=>∃ u:AV,(t=u∧S=S0)∧Fi u (∃ w:AV,((.v (.bool true))=w∧S=S0)∧Fi w (Q (.ret (.v (.bool false))) S) (Mf y1 y3 i S KE0 Q)) (Qd S0 i y1 S Q y3 KE0))) S) (Q (.ret (.v (.bool true))) S)
theorem Z1{y1:AV}{y30:AV}{S:Aa}{Q:Aq}(I:AV→Aa→Prop)(μ:AV→Aa→Nat)(h0:I y30 S)(hr:BS (fun y3=>FF y1 y3) 85 I μ fun y3 S KE0=>vE y1 y3 S KE0 Q):
 Ap MS (vc Pg (XY.at_ [1,0,1,0,0]) (KO.drop 1)) 85 (FF y1 y30) S (Ak 0 (Av (vc Pg (XY.at_ [1,1]) (KO.drop 2)) (Ao Pg r45 Q))):=DY 1 (fun _=>rfl) (fun _ _ _=>by kernel_rfl) h0 hr
def vD(y1 y3 y4 y5:AV)(S:Aa)(KE1:BB)(KE0:BB)(Q:Aq):Prop:=
 bin .lss 0 y5 y3 S fun a S=>Fi a ((fun S0:Aa=>Lq S0 (shift y1 7) fun c=>Lq S0 (Ax c) fun d=>Lq S0 (AR 91 3 d y5) fun e=>Lq S0 (shift e 2) fun f=>Lq S0 (Ax f) fun g=>Lq S0 (shift y4 2) fun h=>Lq S0 (Ax h) fun i=>Lq S0 (bin .eql 0 g i) fun k=>Fi k (Q (.ret (.v (.bool false))) S) (bin .add 0 y5 (aI 1) S fun l S=>KE1 85 (L3 y1 y3 y4 l) S)) S) (bin .gtr 0 y3 (aI 0) S fun m S=>Fi m ((fun S0:Aa=>Lq S0 (shift y1 7) fun n=>Lq S0 (Ax n) fun o=>Lq S0 (bin .sub 0 y3 (aI 1)) fun p=>Lq S0 (AR 91 3 o p) fun q=>Lq S0 (shift q 0) fun r=>Lq S0 (Ax r) fun s=>Ld S0 89 [s] fun t=>Lq S0 (shift y4 0) fun u=>Lq S0 (Ax u) fun w=>Ld S0 89 [w] fun x=>(fun S0:Aa=>Lq S0 (bin .gtr 0 t x) fun y=>Fi y (∃ z:AV,((.v (.bool true))=z∧S=S0)∧Fi z (Q (.ret (.v (.bool false))) S) (bin .add 0 y3 (aI 1) S fun A S=>KE0 85 (FF y1 A) S)) (Lq S0 (bin .eql 0 t x) fun B=>Fi B (Lq S0 (shift y1 7) fun C=>Lq S0 (Ax C) fun D=>Lq S0 (bin .sub 0 y3 (aI 1)) fun E=>Lq S0 (AR 91 3 D E) fun F=>Lq S0 (shift F 1) fun G=>Lq S0 (Ax G) fun H=>Lq S0 (shift y4 1) fun I=>Lq S0 (Ax I) fun J=>Lq S0 (bin .geq 0 H J) fun K=>∃ L:AV,(K=L∧S=S0)∧∃ M:AV,(L=M∧S=S0)∧Fi M (Q (.ret (.v (.bool false))) S) (bin .add 0 y3 (aI 1) S fun N S=>KE0 85 (FF y1 N) S)) (∃ O:AV,((.v (.bool false))=O∧S=S0)∧∃ P:AV,(O=P∧S=S0)∧Fi P (Q (.ret (.v (.bool false))) S) (bin .add 0 y3 (aI 1) S fun R S=>KE0 85 (FF y1 R) S)))) S) S) (bin .add 0 y3 (aI 1) S fun T S=>KE0 85 (FF y1 T) S))
theorem Z0{y1 y3 y4:AV}{y50:AV}{S:Aa}{KE0:BB}{Q:Aq}(I:AV→Aa→Prop)(μ:AV→Aa→Nat)(h0:I y50 S)(hr:BS (fun y5=>L3 y1 y3 y4 y5) 85 I μ fun y5 S KE1=>vD y1 y3 y4 y5 S KE1 KE0 Q):
 Ap TB (vc Pg (XY.at_ [1,0,1,0,0,1,0,0,1,1,0,1,0,0]) (KO.drop 2)) 85 (L3 y1 y3 y4 y50) S (Ak 2 (Av (vc Pg (XY.at_ [1,0,1,0,0,1,0,0,1,1,1]) (KO.drop 2)) (Ak 1 (Av (vc Pg (XY.at_ [1,0,1,0,0,1,1]) (KO.drop 2)) (BY (Hn MS KE0) (Ak 0 (Av (vc Pg (XY.at_ [1,1]) (KO.drop 2)) (Ao Pg r45 Q)))))))):=DY 3 (fun _=>rfl) (fun _ _ _=>by kernel_rfl) h0 hr
def c44:Code:=(Tryz.f44.body).getD .skip
def r44:List ResultVar:=Tryz.f44.results.toList
def L4(y1 y2 y5:AV):List AV:=[y1,y2,y5]
def TC:List Nat:=[1,2,5]
def Y2:List (List Nat):=[TC,[]]
def m44(x0 x1:AV)(S:Aa)(Q:Aq):Prop:=
 Az 61 2 x0 S fun a S=>Ap TC (vc Pg (c44.at_ [1,0,1,0,0]) (Y2.drop 1)) 22 (L4 x1 a (aI 0)) S (Ak 0 (Av (vc Pg (c44.at_ [1,1]) (Y2.drop 1)) (Ao Pg r44 Q)))
theorem qK{x0 x1:AV}{S:Aa}{Q:Aq}(h:m44 x0 x1 S Q):Ad Pg 44 [x0,x1] S Q:=
 Bl (n:=22) Y2 Tryz.func44 (by kernel_rfl) (Eq.mpr (by kernel_rfl) h)
def vF(y1 y2 y5:AV)(S:Aa)(KE0:BB)(Q:Aq):Prop:=
 AG y1 S fun a S=>bin .lss 0 y5 a S fun c S=>Fi c ((fun S0:Aa=>Lq S0 (AA 2 y2) fun d=>Lq S0 (AR 3 1 y1 y5) fun e=>Lq S0 (Ax e) fun f=>Ld S0 43 [d,f] fun g=>Lq S0 (un .not g) fun h=>Fi h (Q (.ret (.v (.bool false))) S) (bin .add 0 y5 (aI 1) S fun i S=>KE0 22 (L4 y1 y2 i) S)) S) (AG y1 S fun k S=>bin .leq 0 k (aI 2000) S fun l S=>Q (.ret l) S)
theorem Z2{y1 y2:AV}{y50:AV}{S:Aa}{Q:Aq}(I:AV→Aa→Prop)(μ:AV→Aa→Nat)(h0:I y50 S)(hr:BS (fun y5=>L4 y1 y2 y5) 22 I μ fun y5 S KE0=>vF y1 y2 y5 S KE0 Q):
 Ap TC (vc Pg (c44.at_ [1,0,1,0,0]) (Y2.drop 1)) 22 (L4 y1 y2 y50) S (Ak 0 (Av (vc Pg (c44.at_ [1,1]) (Y2.drop 1)) (Ao Pg r44 Q))):=DY 2 (fun _=>rfl) (fun _ _ _=>by kernel_rfl) h0 hr
def sP:Code:=(Tryz.f101.body).getD .skip
def AbX:List ResultVar:=Tryz.f101.results.toList
def HW(y1 y3 y4 y12 y13 y14:AV):List AV:=[y1,y3,y4,y12,y13,y14]
def PQ:List Nat:=[1,3,4,12,13,14]
def Rs:List (List Nat):=[PQ,[]]
def Af1(x0:AV)(S:Aa)(Q:Aq):Prop:=
 Az 29 8 x0 S fun a S=>AA 8 a S fun c S=>Ah Pg 94 [c] S Q fun d S=>Zb .s S fun e S=>Lf a 7 S fun f S=>AG f S fun g S=>Ap PQ (vc Pg (sP.at_ [1,1,1,0,1,0,0]) (Rs.drop 1)) 78 (HW a d e f g (aI 0)) S (Ak 0 (Av (vc Pg (sP.at_ [1,1,1,1]) (Rs.drop 1)) (Ao Pg AbX Q)))
theorem fO{x0:AV}{S:Aa}{Q:Aq}(h:Af1 x0 S Q):Ad Pg 101 [x0] S Q:=
 Bl (n:=78) Rs Tryz.func101 (by kernel_rfl) (Eq.mpr (by kernel_rfl) h)
def iX(y1 y3 y4 y12 y13 y14:AV)(S:Aa)(KE0:BB)(Q:Aq):Prop:=
 bin .lss 0 y14 y13 S fun c S=>Fi c (AR 91 3 y12 y14 S fun d S=>AA 3 d S fun e S=>Az 91 3 (.a Zz7) S fun f S=>A8 3 f e S fun g S=>Lf f 2 S fun h S=>Ah Pg 136 [h] S Q fun k S=>un .not k S fun l S=>Fi l (Q (.ret (.v (.bool false))) S) (Lf f 0 S fun m S=>Ah Pg 137 [m] S Q fun n S=>bin .lss 0 n (aI 0) S fun o S=>Fi o (Q (.ret (.v (.bool false))) S) (Lf f 1 S fun p S=>bin .lss 0 p (aI 0) S fun q S=>Fi q (Q (.ret (.v (.bool false))) S) (Lf f 1 S fun r S=>Lf f 0 S fun t S=>Cf .i32 t S fun u S=>Vk (.i .i32) (aI 0) false y3 u S fun w S=>bin .geq 0 r w S fun x S=>Fi x (Q (.ret (.v (.bool false))) S) (Lf f 2 S fun y S=>CH [] [] [] S fun z S=>Hr .s y4 y z S fun A S=>bin .eql 0 y14 (aI 0) S fun B S=>Fi B (bin .add 0 y14 (aI 1) S fun C S=>KE0 78 (HW y1 y3 y4 y12 y13 C) S) (Lf y1 7 S fun D S=>bin .sub 0 y14 (aI 1) S fun E S=>AR 91 3 D E S fun F S=>AA 3 F S fun G S=>Az 91 3 (.a Zz7) S fun H S=>A8 3 H G S fun I S=>(fun S0:Aa=>Lq S0 (shift H 0) fun J=>Lq S0 (Ax J) fun K=>Ld S0 137 [K] fun L=>Lq S0 (shift f 0) fun M=>Lq S0 (Ax M) fun N=>Ld S0 137 [N] fun O=>Ld S0 139 [L,O] fun P=>Lq S0 (shift H 1) fun R=>Lq S0 (Ax R) fun T=>Lq S0 (shift f 1) fun U=>Lq S0 (Ax U) fun V=>Ld S0 139 [T,V] fun W=>Lq S0 (AU 3 1 2 [aI 0] [(0,P),(1,W)]) fun X=>Ld S0 138 [X] fun Y=>Lq S0 (bin .geq 0 Y (aI 0)) fun Z=>Fi Z (Q (.ret (.v (.bool false))) S) (bin .add 0 y14 (aI 1) S fun a0 S=>KE0 78 (HW y1 y3 y4 y12 y13 a0) S)) S)))))) (TT y4 S fun a1 S=>Lf y1 7 S fun a2 S=>AG a2 S fun a3 S=>bin .eql 0 a1 a3 S fun a4 S=>Q (.ret a4) S)
theorem Xg{y1 y3 y4 y12 y13:AV}{y140:AV}{S:Aa}{Q:Aq}(I:AV→Aa→Prop)(μ:AV→Aa→Nat)(h0:I y140 S)(hr:BS (fun y14=>HW y1 y3 y4 y12 y13 y14) 78 I μ fun y14 S KE0=>iX y1 y3 y4 y12 y13 y14 S KE0 Q):
 Ap PQ (vc Pg (sP.at_ [1,1,1,0,1,0,0]) (Rs.drop 1)) 78 (HW y1 y3 y4 y12 y13 y140) S (Ak 0 (Av (vc Pg (sP.at_ [1,1,1,1]) (Rs.drop 1)) (Ao Pg AbX Q))):=DY 5 (fun _=>rfl) (fun _ _ _=>by kernel_rfl) h0 hr
def AdK(x0:AV)(S:Aa)(Q:Aq):Prop:=
 bin .neq 0 x0 x0 S fun a S=>Q (.ret a) S
theorem dK{x0:AV}{S:Aa}{Q:Aq}(h:AdK x0 S Q):Ad Pg 159 [x0] S Q:=
 Bl (n:=6) [[]] Tryz.func159 (by kernel_rfl) (Eq.mpr (by kernel_rfl) h)
def Ae2(x0 x1:AV)(S:Aa)(Q:Aq):Prop:=
 Ah Pg 159 [x0] S Q fun a S=>Ah Pg 159 [x1] S Q fun c S=>Fi a (Fi c (Q (.ret (aI 0)) S) (Q (.ret (.v (.int .i64 (-1)))) S)) (Fi c (Q (.ret (aI 1)) S) (bin .lss 0 x0 x1 S fun d S=>Fi d (Q (.ret (.v (.int .i64 (-1)))) S) (bin .gtr 0 x0 x1 S fun e S=>Fi e (Q (.ret (aI 1)) S) (Q (.ret (aI 0)) S))))
theorem eD{x0 x1:AV}{S:Aa}{Q:Aq}(h:Ae2 x0 x1 S Q):Ad Pg 139 [x0,x1] S Q:=
 Bl (n:=20) [[]] Tryz.func139 (by kernel_rfl) (Eq.mpr (by kernel_rfl) h)
def sC:Code:=(Tryz.f138.body).getD .skip
def AbL:List ResultVar:=Tryz.f138.results.toList
def J9(y3 y6 y7 y8:AV):List AV:=[y3,y6,y7,y8]
def Pz:List Nat:=[3,6,7,8]
def Rf:List (List Nat):=[Pz,[]]
def Ae3(x0:AV)(S:Aa)(Q:Aq):Prop:=
 AG x0 S fun a S=>Ap Pz (vc Pg (sC.at_ [1,1,0,1,0,0]) (Rf.drop 1)) 18 (J9 (aI 0) x0 a (aI 0)) S (Ak 0 (Av (vc Pg (sC.at_ [1,1,1]) (Rf.drop 1)) (Ao Pg AbL Q)))
theorem eE{x0:AV}{S:Aa}{Q:Aq}(h:Ae3 x0 S Q):Ad Pg 138 [x0] S Q:=
 Bl (n:=18) Rf Tryz.func138 (by kernel_rfl) (Eq.mpr (by kernel_rfl) h)
def hZ(y3 y6 y7 y8:AV)(S:Aa)(KE0:BB)(Q:Aq):Prop:=
 bin .lss 0 y8 y7 S fun a S=>Fi a (AR 3 1 y6 y8 S fun c S=>Ax c S fun d S=>bin .neq 0 d y3 S fun e S=>Fi e (Q (.ret d) S) (bin .add 0 y8 (aI 1) S fun f S=>KE0 18 (J9 y3 y6 y7 f) S)) (Q (.ret y3) S)
theorem WW{y3 y6 y7:AV}{y80:AV}{S:Aa}{Q:Aq}(I:AV→Aa→Prop)(μ:AV→Aa→Nat)(h0:I y80 S)(hr:BS (fun y8=>J9 y3 y6 y7 y8) 18 I μ fun y8 S KE0=>hZ y3 y6 y7 y8 S KE0 Q):
 Ap Pz (vc Pg (sC.at_ [1,1,0,1,0,0]) (Rf.drop 1)) 18 (J9 y3 y6 y7 y80) S (Ak 0 (Av (vc Pg (sC.at_ [1,1,1]) (Rf.drop 1)) (Ao Pg AbL Q))):=DY 3 (fun _=>rfl) (fun _ _ _=>by kernel_rfl) h0 hr
def m50(x0:AV)(S:Aa)(Q:Aq):Prop:=
 Az 29 8 x0 S fun c S=>Az 61 2 (.a [aI 0,.nl]) S fun d S=>Lf c 0 S fun e S=>Lf c 1 S fun f S=>AG f S fun g S=>bin .add 0 e g S fun h S=>Lf c 2 S fun i S=>CH [(0,1),(1,1)] [aI 0,.nl] [(0,h),(1,i)] S fun k S=>A8 2 d k S fun l S=>AA 2 d S fun m _=>Q (.ret m) S
theorem qE{x0:AV}{S:Aa}{Q:Aq}(h:m50 x0 S Q):Ad Pg 50 [x0] S Q:=
 Bl (n:=12) [[]] Tryz.func50 (by kernel_rfl) (Eq.mpr (by kernel_rfl) h)
def m17(x0:AV)(S:Aa)(Q:Aq):Prop:=
 Az 29 8 x0 S fun c S=>Az 61 2 (.a [aI 0,.nl]) S fun d S=>Lf c 0 S fun e S=>Lf c 1 S fun f S=>AG f S fun g S=>bin .add 0 e g S fun h S=>Lf c 2 S fun i S=>CH [(0,1),(1,1)] [aI 0,.nl] [(0,h),(1,i)] S fun k S=>A8 2 d k S fun l S=>AA 2 d S fun m _=>Q (.ret m) S
theorem rJ{x0:AV}{S:Aa}{Q:Aq}(h:m17 x0 S Q):Ad Pg 17 [x0] S Q:=
 Bl (n:=12) [[]] Tryz.func17 (by kernel_rfl) (Eq.mpr (by kernel_rfl) h)
def m94(x0:AV)(S:Aa)(Q:Aq):Prop:=
 Az 29 8 x0 S fun a S=>Zb (.i .i32) S fun c S=>Lf a 0 S fun d S=>Hr (.i .i32) c (.v (.int .i32 105)) d S fun e S=>Lf a 1 S fun f S=>AG f S fun g S=>Hr (.i .i32) c (.v (.int .i32 108)) g S fun h S=>Lf a 3 S fun k S=>AG k S fun l S=>Hr (.i .i32) c (.v (.int .i32 111)) l S fun m S=>Lf a 4 S fun n S=>AG n S fun o S=>Hr (.i .i32) c (.v (.int .i32 98)) o S fun p S=>Lf a 5 S fun q S=>AG q S fun r S=>Hr (.i .i32) c (.v (.int .i32 99)) r S fun s S=>Lf a 6 S fun t S=>AG t S fun u S=>Hr (.i .i32) c (.v (.int .i32 102)) u S fun w S=>Q (.ret c) S
theorem oL{x0:AV}{S:Aa}{Q:Aq}(h:m94 x0 S Q):Ad Pg 94 [x0] S Q:=
 Bl (n:=22) [[]] Tryz.func94 (by kernel_rfl) (Eq.mpr (by kernel_rfl) h)
def m88(x0 x1:AV)(S:Aa)(Q:Aq):Prop:=
 Az 29 8 x0 S fun a S=>Ah Pg 89 [x1] S Q fun c S=>bin .lss 0 c (aI 0) S fun d S=>Fi d (Q (.ret (aI 0)) S) (Lf a 0 S fun e S=>Lf a 1 S fun f S=>AG f S fun g S=>Lf a 3 S fun h S=>AG h S fun i S=>Lf a 4 S fun k S=>AG k S fun l S=>Lf a 5 S fun m S=>AG m S fun n S=>Lf a 6 S fun o S=>AG o S fun p S=>AU 3 1 6 [aI 0] [(0,e),(1,g),(2,i),(3,l),(4,n),(5,p)] S fun q S=>AR 3 1 q c S fun r S=>Ax r S fun s S=>Q (.ret s) S)
theorem oR{x0 x1:AV}{S:Aa}{Q:Aq}(h:m88 x0 x1 S Q):Ad Pg 88 [x0,x1] S Q:=
 Bl (n:=31) [[]] Tryz.func88 (by kernel_rfl) (Eq.mpr (by kernel_rfl) h)
def c87:Code:=(Tryz.f87.body).getD .skip
def r87:List ResultVar:=Tryz.f87.results.toList
def LW(y0 y3:AV):List AV:=[y0,y3]
def Th:List Nat:=[0,3]
def YO:List (List Nat):=[Th,[]]
def m87(x0:AV)(S:Aa)(Q:Aq):Prop:=
 Ap Th (vc Pg (c87.at_ [1,0,1,0,0]) (YO.drop 1)) 28 (LW x0 (aI 0)) S (Ak 0 (Av (vc Pg (c87.at_ [1,1]) (YO.drop 1)) (Ao Pg r87 Q)))
theorem oS{x0:AV}{S:Aa}{Q:Aq}(h:m87 x0 S Q):Ad Pg 87 [x0] S Q:=
 Bl (n:=28) YO Tryz.func87 (by kernel_rfl) (Eq.mpr (by kernel_rfl) h)
def uN(y0 y3:AV)(S:Aa)(KE0:BB)(Q:Aq):Prop:=
 FT y0 S fun a S=>bin .lss 0 y3 a S fun c S=>Fi c (HH y0 y3 S fun d S=>bin .lss 0 d (.v (.int .u8 33)) S fun e S=>Fi e (Q (.ret (.v (.bool false))) S) (HH y0 y3 S fun f S=>bin .gtr 0 f (.v (.int .u8 126)) S fun g S=>Fi g (Q (.ret (.v (.bool false))) S) (bin .add 0 y3 (aI 1) S fun h S=>KE0 28 (LW y0 h) S))) (FT y0 S fun i S=>bin .gtr 0 i (aI 0) S fun k S=>Fi k (FT y0 S fun l S=>bin .leq 0 l (aI 20) S fun m S=>Q (.ret m) S) (Q (.ret (.v (.bool false))) S))
theorem ZC{y0:AV}{y30:AV}{S:Aa}{Q:Aq}(I:AV→Aa→Prop)(μ:AV→Aa→Nat)(h0:I y30 S)(hr:BS (fun y3=>LW y0 y3) 28 I μ fun y3 S KE0=>uN y0 y3 S KE0 Q):
 Ap Th (vc Pg (c87.at_ [1,0,1,0,0]) (YO.drop 1)) 28 (LW y0 y30) S (Ak 0 (Av (vc Pg (c87.at_ [1,1]) (YO.drop 1)) (Ao Pg r87 Q))):=DY 1 (fun _=>rfl) (fun _ _ _=>by kernel_rfl) h0 hr
def sD:Code:=(Tryz.f136.body).getD .skip
def AbM:List ResultVar:=Tryz.f136.results.toList
def Ka(y0 y5 y6:AV):List AV:=[y0,y5,y6]
def PA:List Nat:=[0,5,6]
def Rg:List (List Nat):=[PA,[]]
def Ae5(x0:AV)(S:Aa)(Q:Aq):Prop:=
 FT x0 S fun a S=>Ap PA (vc Pg (sD.at_ [1,0,1,0,0]) (Rg.drop 1)) 27 (Ka x0 a (aI 0)) S (Ak 0 (Av (vc Pg (sD.at_ [1,1]) (Rg.drop 1)) (Ao Pg AbM Q)))
theorem eG{x0:AV}{S:Aa}{Q:Aq}(h:Ae5 x0 S Q):Ad Pg 136 [x0] S Q:=
 Bl (n:=27) Rg Tryz.func136 (by kernel_rfl) (Eq.mpr (by kernel_rfl) h)
def iA(y0 y5 y6:AV)(S:Aa)(KE0:BB)(Q:Aq):Prop:=
 bin .lss 0 y6 y5 S fun a S=>Fi a (HH y0 y6 S fun c S=>bin .leq 0 c (.v (.int .u8 32)) S fun d S=>Fi d (Q (.ret (.v (.bool false))) S) (HH y0 y6 S fun e S=>bin .gtr 0 e (.v (.int .u8 126)) S fun f S=>Fi f (Q (.ret (.v (.bool false))) S) (bin .add 0 y6 (aI 1) S fun g S=>KE0 27 (Ka y0 y5 g) S))) (bin .neq 0 y0 (.v (.string { data:=#[] })) S fun h S=>Fi h (FT y0 S fun i S=>bin .leq 0 i (aI 20) S fun k S=>Q (.ret k) S) (Q (.ret (.v (.bool false))) S))
theorem WY{y0 y5:AV}{y60:AV}{S:Aa}{Q:Aq}(I:AV→Aa→Prop)(μ:AV→Aa→Nat)(h0:I y60 S)(hr:BS (fun y6=>Ka y0 y5 y6) 27 I μ fun y6 S KE0=>iA y0 y5 y6 S KE0 Q):
 Ap PA (vc Pg (sD.at_ [1,0,1,0,0]) (Rg.drop 1)) 27 (Ka y0 y5 y60) S (Ak 0 (Av (vc Pg (sD.at_ [1,1]) (Rg.drop 1)) (Ao Pg AbM Q))):=DY 2 (fun _=>rfl) (fun _ _ _=>by kernel_rfl) h0 hr
def c89:Code:=(Tryz.f89.body).getD .skip
def r89:List ResultVar:=Tryz.f89.results.toList
def LV(y0 y3 y4:AV):List AV:=[y0,y3,y4]
def Tg:List Nat:=[0,3,4]
def YN:List (List Nat):=[Tg,[]]
def m89(x0:AV)(S:Aa)(Q:Aq):Prop:=
 Ap Tg (vc Pg (c89.at_ [1,1,0,1,0,0]) (YN.drop 1)) 17 (LV x0 (.v (.string { data:=#[105,108,111,98,99,102] })) (aI 0)) S (Ak 0 (Av (vc Pg (c89.at_ [1,1,1]) (YN.drop 1)) (Ao Pg r89 Q)))
theorem oQ{x0:AV}{S:Aa}{Q:Aq}(h:m89 x0 S Q):Ad Pg 89 [x0] S Q:=
 Bl (n:=17) YN Tryz.func89 (by kernel_rfl) (Eq.mpr (by kernel_rfl) h)
def uM(y0 y3 y4:AV)(S:Aa)(KE0:BB)(Q:Aq):Prop:=
 FT y3 S fun a S=>bin .lss 0 y4 a S fun c S=>Fi c (HH y3 y4 S fun d S=>bin .eql 0 d y0 S fun e S=>Fi e (Q (.ret y4) S) (bin .add 0 y4 (aI 1) S fun f S=>KE0 17 (LV y0 y3 f) S)) (Q (.ret (.v (.int .i64 (-1)))) S)
theorem ZB{y0 y3:AV}{y40:AV}{S:Aa}{Q:Aq}(I:AV→Aa→Prop)(μ:AV→Aa→Nat)(h0:I y40 S)(hr:BS (fun y4=>LV y0 y3 y4) 17 I μ fun y4 S KE0=>uM y0 y3 y4 S KE0 Q):
 Ap Tg (vc Pg (c89.at_ [1,1,0,1,0,0]) (YN.drop 1)) 17 (LV y0 y3 y40) S (Ak 0 (Av (vc Pg (c89.at_ [1,1,1]) (YN.drop 1)) (Ao Pg r89 Q))):=DY 2 (fun _=>rfl) (fun _ _ _=>by kernel_rfl) h0 hr
def XD:Code:=(Tryz.f137.body).getD .skip
def xW:List ResultVar:=Tryz.f137.results.toList
def Gj(y0 y5:AV):List AV:=[y0,y5]
def JF:List Nat:=[0,5]
def ML:List (List Nat):=[JF,[]]
def Ae4(x0:AV)(S:Aa)(Q:Aq):Prop:=
 lJ (.v (.string { data:=#[105,108,111,98,99,102] })) S fun a S=>Ap JF (vc Pg (XD.at_ [1,0,1,0,0]) (ML.drop 1)) 15 (Gj x0 a) S (Ak 0 (Av (vc Pg (XD.at_ [1,1]) (ML.drop 1)) (Ao Pg xW Q)))
theorem eF{x0:AV}{S:Aa}{Q:Aq}(h:Ae4 x0 S Q):Ad Pg 137 [x0] S Q:=
 Bl (n:=15) ML Tryz.func137 (by kernel_rfl) (Eq.mpr (by kernel_rfl) h)
def Ul(y0 y5:AV)(S:Aa)(KE0:BB)(Q:Aq):Prop:=
 ME true y5 S fun a S=>A0 a 0 S fun c S=>Fi c (A0 a 1 S fun d S=>A0 a 2 S fun e S=>Cf .i32 y0 S fun f S=>bin .eql 0 f e S fun g S=>Fi g (Q (.ret d) S) (KE0 15 (Gj y0 y5) S)) (Q (.ret (.v (.int .i64 (-1)))) S)
theorem XI(y0 y5:AV)(S:Aa)(KE0:BB)(Q:Aq):vc Pg (XD.at_ [1,0,1,0,0]) (ML.drop 1) (Ly 15 JF (Gj y0 y5)) S (BY (Hn JF KE0) (Ak 0 (Av (vc Pg (XD.at_ [1,1]) (ML.drop 1)) (Ao Pg xW Q))))=Ul y0 y5 S KE0 Q:=by kernel_rfl
theorem WX{y0 y5:AV}{S:Aa}{Q:Aq}(I:Aa→Prop)(μ:Aa→Nat)(h0:I  S)
    (hr:∀(S:Aa),I  S→∀ KE0:BB,(∀(S':Aa),I  S'→μ  S'<μ  S→KE0 15 (Gj y0 y5) S')→Ul y0 y5 S KE0 Q):
    Ap JF (vc Pg (XD.at_ [1,0,1,0,0]) (ML.drop 1)) 15 (Gj y0 y5) S (Ak 0 (Av (vc Pg (XD.at_ [1,1]) (ML.drop 1)) (Ao Pg xW Q))):=by
 refine⟨fun n e S=>n=15∧e=(Gj y0 y5)∧I  S,fun _ e S=>μ  S,?_,?_⟩
 ·exact⟨_,_,Wk.refl _ _,rfl,rfl,h0⟩
 ·rintro _ e S ⟨rfl,rfl,hI⟩
  exact(XI _ _ _ _ _).mpr (hr  S hI _ (fun  S' hI' hm=>⟨_,_,Wk.refl _ _,⟨rfl,rfl,hI'⟩,hm⟩))
def m16(x0:AV)(S:Aa)(Q:Aq):Prop:=
 Az 61 2 x0 S fun a S=>Lf a 0 S fun c S=>bin .add 0 c (aI 1) S fun d S=>Lf a 1 S fun e S=>AG e S fun f S=>bin .add 0 d f S fun g S=>Q (.ret g) S
theorem VC{x0:AV}{S:Aa}{Q:Aq}(h:m16 x0 S Q):Ad Pg 16 [x0] S Q:=
 Bl (n:=10) [[]] Tryz.func16 (by kernel_rfl) (Eq.mpr (by kernel_rfl) h)
def m43(x0 x1:AV)(S:Aa)(Q:Aq):Prop:=
 Az 61 2 x0 S fun a S=>Lf a 0 S fun c S=>bin .geq 0 c (aI 0) S fun d S=>Fi d (Lf a 0 S fun e S=>bin .leq 0 e (aI 2000) S fun f S=>Fi f (bin .geq 0 x1 (aI 0) S fun g S=>Fi g (bin .quo 0 x1 (aI 2) S fun h S=>AA 2 a S fun i S=>Ah Pg 16 [i] S Q fun k S=>bin .lss 0 h k S fun l S=>Q (.ret l) S) (Q (.ret (.v (.bool false))) S)) (Q (.ret (.v (.bool false))) S)) (Q (.ret (.v (.bool false))) S)
theorem qL{x0 x1:AV}{S:Aa}{Q:Aq}(h:m43 x0 x1 S Q):Ad Pg 43 [x0,x1] S Q:=
 Bl (n:=24) [[]] Tryz.func43 (by kernel_rfl) (Eq.mpr (by kernel_rfl) h)
def kP:Code:=(Tryz.f42.body).getD .skip
def r42:List ResultVar:=Tryz.f42.results.toList
def L6(y1 y3:AV):List AV:=[y1,y3]
def MT:List Nat:=[1,3]
def L5(y1 y3 y6:AV):List AV:=[y1,y3,y6]
def TD:List Nat:=[1,3,6]
def MJ:List (List Nat):=[MT,TD,[]]
def m42(x0:AV)(S:Aa)(Q:Aq):Prop:=
 Az 61 2 x0 S fun a S=>Lf a 0 S fun c S=>bin .lss 0 c (aI 0) S fun d S=>Fi d (Q (.ret (.v (.bool false))) S) (Lf a 0 S fun e S=>bin .gtr 0 e (aI 2000) S fun f S=>Fi f (Q (.ret (.v (.bool false))) S) (Lf a 1 S fun g S=>AG g S fun h S=>bin .gtr 0 h (aI 2000) S fun i S=>Fi i (Q (.ret (.v (.bool false))) S) (AA 2 a S fun k S=>Ah Pg 16 [k] S Q fun l S=>bin .gtr 0 l (aI 2000) S fun m S=>Fi m (Q (.ret (.v (.bool false))) S) (Ap MT (vc Pg (kP.at_ [1,1,0,1,0,0]) (MJ.drop 1)) 80 (L6 a (aI 0)) S (Ak 0 (Av (vc Pg (kP.at_ [1,1,1]) (MJ.drop 2)) (Ao Pg r42 Q)))))))
theorem qM{x0:AV}{S:Aa}{Q:Aq}(h:m42 x0 S Q):Ad Pg 42 [x0] S Q:=
 Bl (n:=80) MJ Tryz.func42 (by kernel_rfl) (Eq.mpr (by kernel_rfl) h)
def vH(y1 y3:AV)(S:Aa)(KE0:BB)(Q:Aq):Prop:=
 Lf y1 1 S fun a S=>AG a S fun c S=>bin .lss 0 y3 c S fun d S=>Fi d ((fun S0:Aa=>Lq S0 (shift y1 1) fun e=>Lq S0 (Ax e) fun f=>Lq S0 (AR 130 2 f y3) fun g=>Lq S0 (IL 2 1 g (aI 0)) fun h=>Lq S0 (Ax h) fun i=>Lq S0 (shift y1 1) fun k=>Lq S0 (Ax k) fun l=>Lq S0 (AR 130 2 l y3) fun m=>Lq S0 (IL 2 1 m (aI 1)) fun n=>Lq S0 (Ax n) fun o=>bin .lss 0 o (aI 2) S fun p S=>Fi p (Q (.ret (.v (.bool false))) S) (bin .quo 0 i (aI 2) S fun q S=>bin .quo 0 o (aI 2) S fun r S=>bin .leq 0 q r S fun s S=>Fi s (Q (.ret (.v (.bool false))) S) (bin .quo 0 i (aI 2) S fun t S=>Lf y1 0 S fun u S=>bin .add 0 u (aI 1) S fun w S=>bin .add 0 w y3 S fun x S=>bin .geq 0 t x S fun y S=>Fi y (Q (.ret (.v (.bool false))) S) (Ap TD (vc Pg (kP.at_ [1,1,0,1,0,0,1,0,0,1,1,1,0,0]) (MJ.drop 2)) 80 (L5 y1 y3 (aI 0)) S (Ak 2 (Ak 1 (Av (vc Pg (kP.at_ [1,1,0,1,0,0,1,1]) (MJ.drop 2)) (BY (Hn MT KE0) (Ak 0 (Av (vc Pg (kP.at_ [1,1,1]) (MJ.drop 2)) (Ao Pg r42 Q))))))))))) S) (Q (.ret (.v (.bool true))) S)
theorem Z4{y1:AV}{y30:AV}{S:Aa}{Q:Aq}(I:AV→Aa→Prop)(μ:AV→Aa→Nat)(h0:I y30 S)(hr:BS (fun y3=>L6 y1 y3) 80 I μ fun y3 S KE0=>vH y1 y3 S KE0 Q):
 Ap MT (vc Pg (kP.at_ [1,1,0,1,0,0]) (MJ.drop 1)) 80 (L6 y1 y30) S (Ak 0 (Av (vc Pg (kP.at_ [1,1,1]) (MJ.drop 2)) (Ao Pg r42 Q))):=DY 1 (fun _=>rfl) (fun _ _ _=>by kernel_rfl) h0 hr
def vG(y1 y3 y6:AV)(S:Aa)(KE1:BB)(KE0:BB)(Q:Aq):Prop:=
 bin .lss 0 y6 y3 S fun a S=>Fi a ((fun S0:Aa=>Lq S0 (shift y1 1) fun c=>Lq S0 (Ax c) fun d=>Lq S0 (AR 130 2 d y6) fun e=>Lq S0 (AA 2 e) fun f=>Lq S0 (shift y1 1) fun g=>Lq S0 (Ax g) fun h=>Lq S0 (AR 130 2 h y3) fun i=>Lq S0 (AA 2 i) fun k=>Lq S0 (XH .i64 .eql f k) fun l=>Fi l (Q (.ret (.v (.bool false))) S) (bin .add 0 y6 (aI 1) S fun m S=>KE1 80 (L5 y1 y3 m) S)) S) (bin .add 0 y3 (aI 1) S fun n S=>KE0 80 (L6 y1 n) S)
theorem Z3{y1 y3:AV}{y60:AV}{S:Aa}{KE0:BB}{Q:Aq}(I:AV→Aa→Prop)(μ:AV→Aa→Nat)(h0:I y60 S)(hr:BS (fun y6=>L5 y1 y3 y6) 80 I μ fun y6 S KE1=>vG y1 y3 y6 S KE1 KE0 Q):
 Ap TD (vc Pg (kP.at_ [1,1,0,1,0,0,1,0,0,1,1,1,0,0]) (MJ.drop 2)) 80 (L5 y1 y3 y60) S (Ak 2 (Ak 1 (Av (vc Pg (kP.at_ [1,1,0,1,0,0,1,1]) (MJ.drop 2)) (BY (Hn MT KE0) (Ak 0 (Av (vc Pg (kP.at_ [1,1,1]) (MJ.drop 2)) (Ao Pg r42 Q))))))):=DY 2 (fun _=>rfl) (fun _ _ _=>by kernel_rfl) h0 hr
end
end
end Go.Proofs.YteooinddnfbglaaGreatDoor.G

/- Witness -/
import Derived.Test.YteooinddnfbglaaGreatDoorProg
import Derived.KernelRfl
import Derived.Test.YteooinddnfbglaaGreatDoorWqT2
set_option linter.unusedVariables false
set_option linter.unusedSimpArgs false
set_option linter.unusedSectionVars false
namespace Go.Proofs.YteooinddnfbglaaGreatDoor.G
open Go Go.Ab
noncomputable section
section
set_option maxRecDepth 100000
abbrev Pg : Program := Tryz.prog
theorem AhL:type_of% @List.getD_eq_getElem?_getD:=@List.getD_eq_getElem?_getD
theorem AhM:type_of% @List.getElem?_eq_getElem:=@List.getElem?_eq_getElem
theorem AhN:type_of% @Nat.le_refl:=@Nat.le_refl
theorem AhO:type_of% @Bool.and_eq_true:=@Bool.and_eq_true
theorem AhP:type_of% @List.getElem_mem:=@List.getElem_mem
theorem AhQ:type_of% @Bool.true_and:=@Bool.true_and
theorem AhR:type_of% @List.length_map:=@List.length_map
theorem AhS:type_of% @Nat.zero_le:=@Nat.zero_le
theorem AhT:type_of% @List.mem_singleton:=@List.mem_singleton
theorem AhU:type_of% @List.map_append:=@List.map_append
theorem AhV:type_of% @Bool.false_and:=@Bool.false_and
theorem AhW:type_of% @List.all_eq_true:=@List.all_eq_true
theorem AhX:type_of% @Int.eq_ofNat_of_zero_le:=@Int.eq_ofNat_of_zero_le
theorem AhY:type_of% @Nat.not_lt_zero:=@Nat.not_lt_zero
theorem AhZ:type_of% @Nat.zero_add:=@Nat.zero_add
theorem Ai0:type_of% @Int.tdiv_eq_ediv_of_nonneg:=@Int.tdiv_eq_ediv_of_nonneg
theorem Ai1:type_of% @Int.toNat_natCast:=@Int.toNat_natCast
theorem Ai2:type_of% @List.length_append:=@List.length_append
theorem Ai3:type_of% @List.length_pos_iff:=@List.length_pos_iff
theorem Ai4:type_of% @List.getElem?_map:=@List.getElem?_map
theorem Ai5:type_of% @List.mem_map:=@List.mem_map
theorem Ai6:type_of% @Bool.not_eq_true':=@Bool.not_eq_true'
theorem Ai7:type_of% @List.range_succ:=@List.range_succ
theorem Ai8:type_of% @List.mem_append:=@List.mem_append
theorem Ai9:type_of% @List.mem_cons:=@List.mem_cons
theorem AiA:type_of% @List.take_add_one:=@List.take_add_one
theorem AiB:type_of% @Nat.lt_or_ge:=@Nat.lt_or_ge
theorem AiC:type_of% @Decidable.not_not:=@Decidable.not_not
theorem AiD:type_of% @List.take_of_length_le:=@List.take_of_length_le
theorem AiE:type_of% @List.not_mem_nil:=@List.not_mem_nil
theorem AiF:type_of% @List.length_take:=@List.length_take
theorem AiG:type_of% @List.length_singleton:=@List.length_singleton
theorem AiH:type_of% @List.getElem?_eq_none:=@List.getElem?_eq_none
theorem AiI:type_of% @List.getElem_of_mem:=@List.getElem_of_mem
theorem AiJ:type_of% @Nat.pow_le_pow_right:=@Nat.pow_le_pow_right
theorem AiK:type_of% @Int.tmod_eq_emod_of_nonneg:=@Int.tmod_eq_emod_of_nonneg
theorem AiL:type_of% @Bool.and_false:=@Bool.and_false
theorem AiM:type_of% @List.take_length:=@List.take_length
theorem AiN:type_of% @List.all_eq_false:=@List.all_eq_false
theorem AiO:type_of% @List.mem_range:=@List.mem_range
theorem AiP:type_of% @List.mem_append_left:=@List.mem_append_left
theorem AiQ:type_of% @Option.map_eq_some_iff:=@Option.map_eq_some_iff
theorem AiR:type_of% @List.map_congr_left:=@List.map_congr_left
theorem AiS:type_of% @List.mem_of_getElem?:=@List.mem_of_getElem?
theorem AiT:type_of% @List.map_eq_nil_iff:=@List.map_eq_nil_iff
theorem AiU:type_of% @List.map_map:=@List.map_map
theorem AiV:type_of% @List.findIdx?_eq_some_iff_getElem:=@List.findIdx?_eq_some_iff_getElem
theorem AiW:type_of% @List.filter_append:=@List.filter_append
theorem AiX:type_of% @List.all_cons:=@List.all_cons
theorem AiY:type_of% @List.findIdx?_eq_none_iff:=@List.findIdx?_eq_none_iff
theorem AiZ:type_of% @List.drop_eq_getElem_cons:=@List.drop_eq_getElem_cons
theorem Aj0:type_of% @List.nodup_append:=@List.nodup_append
theorem Aj1:type_of% @Int.natCast_pow:=@Int.natCast_pow
theorem Aj2:type_of% @List.cons.inj:=@List.cons.inj
theorem Aj3:type_of% @Nat.lt_succ_self:=@Nat.lt_succ_self
abbrev Lt(S:Aa)(o:Aa→(AV→Aa→Prop)→Prop)(P:AV→Prop):Prop:=∃ q,(∀ T,Am S T→o T fun u U=>u=q∧U=T)∧P q
abbrev Lc(S:Aa)(f:Nat)(a:List AV)(P:AV→Prop):Prop:=∃ q,(∀ T,Am S T→Ah Pg f a T (fun _ _=>False) fun u U=>u=q∧U=T)∧P q
abbrev Lq(S:Aa)(o:Aa→(AV→Aa→Prop)→Prop)(P:AV→Prop):Prop:=∃ q,(o S fun u U=>u=q∧U=S)∧P q
abbrev Ld(S:Aa)(f:Nat)(a:List AV)(P:AV→Prop):Prop:=∃ q,(Ah Pg f a S (fun _ _=>False) fun u U=>u=q∧U=S)∧P q
abbrev Fi(v:AV)(A B:Prop):Prop:=KC v fun b=>gd b A B
abbrev Lf(x:AV)(n:Nat)(S:Aa)(K:AV→Aa→Prop):Prop:=shift x n S fun v S=>Ay v S K
theorem Bj{f:Nat}{fn:Func}{args:List AV}{S:Aa}{Q:Bh→Aa→Prop}{n:Nat}(ms:List (List Nat))(hf:Pg.funcs[f]?=some fn)(hb:(fn.body.isSome&&(GW Pg f&&Nat.beq (args.length+(fn.ntmps-args.length)) n))=true)(h:vc Pg (fn.body.getD .skip) ms (Gy n args) S (Ao Pg fn.results.toList Q)):Ad Pg f args S Q:=by
 rw[AhO,AhO] at hb
 obtain⟨c,hc⟩:=Option.isSome_iff_exists.1 hb.1
 rw[hc] at h
 exact RI hf hc hb.2.1 (Nat.eq_of_beq_eq_true hb.2.2) ms h
theorem Kg{S S':Aa}{o:Option Bw}{i:Nat}(h:Am S S')(e:S.obj i=o)(l:i<S.n:=by omega):S'.obj i=o:=(h.2 i l).trans e
abbrev Cy:List AV:=[aI 0,.v (.string ByteArray.empty),aI 0,.nl]
abbrev Jh:List AV:=[aI 0,aI 0,aI 0,.nl,.nl]
abbrev Jg:List AV:=[aI 0,.v (.bool false)]
abbrev NI:List (Nat×Nat):=[(0,1),(1,1),(2,1),(3,1)]
abbrev Ub:List (Nat×Nat):=[(0,1),(1,1),(2,1),(3,1),(4,1)]
abbrev Xl:List AV:=[aI 0,.nl,.nl,.nl,.nl]
abbrev rO:List AV:=[aI 0,.nl,.nl,.nl,.nl,.nl,.nl,.nl]
abbrev yZ:List AV:=[.v (.int .u8 0),aI 0,.v (.string ByteArray.empty)]
abbrev BS(E:AV→List AV)(n:Nat)(I:AV→Aa→Prop)(μ:AV→Aa→Nat)(b:AV→Aa→By→Prop):Prop:=∀(y0:AV)(S:Aa),I y0 S→∀ KE:By,(∀(y0':AV)(S':Aa),I y0' S'→μ y0' S'<μ y0 S→KE n (E y0') S')→b y0 S KE
theorem DQ{lv:List Nat}{B:Env→Aa→(AX→Env→Aa→Prop)→Prop}{n:Nat}{K:AX→Env→Aa→Prop}{E:AV→List AV}{b:AV→Aa→By→Prop}(d0:Nat)(hE:∀ y0,(E y0).getD d0 .j=y0)(eq:∀ y0 S KE,B (Ls n lv (E y0)) S (BV (Hc lv KE) K)=b y0 S KE){I:AV→Aa→Prop}{μ:AV→Aa→Nat}{z0:AV}{S:Aa}(h0:I z0 S)(hr:BS E n I μ b):Ap lv B n (E z0) S K:=by
 refine⟨fun m e S=>m=n∧∃ y0,e=E y0∧I y0 S,fun _ e S=>μ (e.getD d0 .j) S,⟨_,_,Wk.refl _ _,rfl,_,rfl,h0⟩,?_⟩
 rintro _ e S ⟨rfl,y0,rfl,hI⟩
 rw[eq]
 exact hr y0 S hI _ fun y0' S' hI' hm=>⟨_,_,Wk.refl _ _,⟨rfl,_,rfl,hI'⟩,by simp only[hE];exact hm⟩
abbrev Dw(E:AV→AV→List AV)(n:Nat)(I:AV→AV→Aa→Prop)(μ:AV→AV→Aa→Nat)(b:AV→AV→Aa→By→Prop):Prop:=∀(y0 y1:AV)(S:Aa),I y0 y1 S→∀ KE:By,(∀(y0' y1':AV)(S':Aa),I y0' y1' S'→μ y0' y1' S'<μ y0 y1 S→KE n (E y0' y1') S')→b y0 y1 S KE
theorem IB{lv:List Nat}{B:Env→Aa→(AX→Env→Aa→Prop)→Prop}{n:Nat}{K:AX→Env→Aa→Prop}{E:AV→AV→List AV}{b:AV→AV→Aa→By→Prop}(d0 d1:Nat)(hE:∀ y0 y1,(E y0 y1).getD d0 .j=y0∧(E y0 y1).getD d1 .j=y1)(eq:∀ y0 y1 S KE,B (Ls n lv (E y0 y1)) S (BV (Hc lv KE) K)=b y0 y1 S KE){I:AV→AV→Aa→Prop}{μ:AV→AV→Aa→Nat}{z0 z1:AV}{S:Aa}(h0:I z0 z1 S)(hr:Dw E n I μ b):Ap lv B n (E z0 z1) S K:=by
 refine⟨fun m e S=>m=n∧∃ y0 y1,e=E y0 y1∧I y0 y1 S,fun _ e S=>μ (e.getD d0 .j) (e.getD d1 .j) S,⟨_,_,Wk.refl _ _,rfl,_,_,rfl,h0⟩,?_⟩
 rintro _ e S ⟨rfl,y0,y1,rfl,hI⟩
 rw[eq]
 exact hr y0 y1 S hI _ fun y0' y1' S' hI' hm=>⟨_,_,Wk.refl _ _,⟨rfl,_,_,rfl,hI'⟩,by simp only[hE];exact hm⟩
theorem dT{p:Prop}[Decidable p]:decide p=true→p:=of_decide_eq_true
theorem dF{p:Prop}[Decidable p]:decide p=false→¬p:=of_decide_eq_false
theorem gSm{α:Type}{l:List α}{i:Nat}{a:α}:l[i]?=some a↔∃ h:i<l.length,l[i]=a:=List.getElem?_eq_some_iff
def AcX(x0:AV)(S:Aa)(Q:Aq):Prop:=
 bin .neq 0 x0 x0 S fun a S=>Q (.ret a) S
theorem cG{x0:AV}{S:Aa}{Q:Aq}(h:AcX x0 S Q):Ad Pg 159 [x0] S Q:=
 Bj (n:=6) [[]] Tryz.func159 (by kernel_rfl) (Eq.mpr (by kernel_rfl) h)
def AdF(x0 x1:AV)(S:Aa)(Q:Aq):Prop:=
 Ah Pg 159 [x0] S Q fun a S=>Ah Pg 159 [x1] S Q fun c S=>Fi a (Fi c (Q (.ret (aI 0)) S) (Q (.ret (.v (.int .i64 (-1)))) S)) (Fi c (Q (.ret (aI 1)) S) (bin .lss 0 x0 x1 S fun d S=>Fi d (Q (.ret (.v (.int .i64 (-1)))) S) (bin .gtr 0 x0 x1 S fun e S=>Fi e (Q (.ret (aI 1)) S) (Q (.ret (aI 0)) S))))
theorem cY{x0 x1:AV}{S:Aa}{Q:Aq}(h:AdF x0 x1 S Q):Ad Pg 139 [x0,x1] S Q:=
 Bj (n:=20) [[]] Tryz.func139 (by kernel_rfl) (Eq.mpr (by kernel_rfl) h)
def qP:Code:=(Tryz.f138.body).getD .skip
def Ab0:List ResultVar:=Tryz.f138.results.toList
def JY(y3 y6 y7 y8:AV):List AV:=[y3,y6,y7,y8]
def Ps:List Nat:=[3,6,7,8]
def Q4:List (List Nat):=[Ps,[]]
def AdG(x0:AV)(S:Aa)(Q:Aq):Prop:=
 AF x0 S fun a S=>Ap Ps (vc Pg (qP.at_ [1,1,0,1,0,0]) (Q4.drop 1)) 18 (JY (aI 0) x0 a (aI 0)) S (Ak 0 (Av (vc Pg (qP.at_ [1,1,1]) (Q4.drop 1)) (Ao Pg Ab0 Q)))
theorem cZ{x0:AV}{S:Aa}{Q:Aq}(h:AdG x0 S Q):Ad Pg 138 [x0] S Q:=
 Bj (n:=18) Q4 Tryz.func138 (by kernel_rfl) (Eq.mpr (by kernel_rfl) h)
def fW(y3 y6 y7 y8:AV)(S:Aa)(KE0:By)(Q:Aq):Prop:=
 bin .lss 0 y8 y7 S fun a S=>Fi a (AS 3 1 y6 y8 S fun c S=>Ay c S fun d S=>bin .neq 0 d y3 S fun e S=>Fi e (Q (.ret d) S) (bin .add 0 y8 (aI 1) S fun f S=>KE0 18 (JY y3 y6 y7 f) S)) (Q (.ret y3) S)
theorem Wq{y3 y6 y7:AV}{y80:AV}{S:Aa}{Q:Aq}(I:AV→Aa→Prop)(μ:AV→Aa→Nat)(h0:I y80 S)(hr:BS (fun y8=>JY y3 y6 y7 y8) 18 I μ fun y8 S KE0=>fW y3 y6 y7 y8 S KE0 Q):
 Ap Ps (vc Pg (qP.at_ [1,1,0,1,0,0]) (Q4.drop 1)) 18 (JY y3 y6 y7 y80) S (Ak 0 (Av (vc Pg (qP.at_ [1,1,1]) (Q4.drop 1)) (Ao Pg Ab0 Q))):=DQ 3 (fun _=>rfl) (fun _ _ _=>by kernel_rfl) h0 hr
def m50(x0:AV)(S:Aa)(Q:Aq):Prop:=
 Az 29 8 x0 S fun c S=>Az 61 2 (.a [aI 0,.nl]) S fun d S=>Lf c 0 S fun e S=>Lf c 1 S fun f S=>AF f S fun g S=>bin .add 0 e g S fun h S=>Lf c 2 S fun i S=>CD [(0,1),(1,1)] [aI 0,.nl] [(0,h),(1,i)] S fun k S=>A8 2 d k S fun l S=>AB 2 d S fun m _=>Q (.ret m) S
theorem oP{x0:AV}{S:Aa}{Q:Aq}(h:m50 x0 S Q):Ad Pg 50 [x0] S Q:=
 Bj (n:=12) [[]] Tryz.func50 (by kernel_rfl) (Eq.mpr (by kernel_rfl) h)
def m17(x0:AV)(S:Aa)(Q:Aq):Prop:=
 Az 29 8 x0 S fun c S=>Az 61 2 (.a [aI 0,.nl]) S fun d S=>Lf c 0 S fun e S=>Lf c 1 S fun f S=>AF f S fun g S=>bin .add 0 e g S fun h S=>Lf c 2 S fun i S=>CD [(0,1),(1,1)] [aI 0,.nl] [(0,h),(1,i)] S fun k S=>A8 2 d k S fun l S=>AB 2 d S fun m _=>Q (.ret m) S
theorem Ve{x0:AV}{S:Aa}{Q:Aq}(h:m17 x0 S Q):Ad Pg 17 [x0] S Q:=
 Bj (n:=12) [[]] Tryz.func17 (by kernel_rfl) (Eq.mpr (by kernel_rfl) h)
def m94(x0:AV)(S:Aa)(Q:Aq):Prop:=
 Az 29 8 x0 S fun a S=>YG (.i .i32) S fun c S=>Lf a 0 S fun d S=>Hf (.i .i32) c (.v (.int .i32 105)) d S fun e S=>Lf a 1 S fun f S=>AF f S fun g S=>Hf (.i .i32) c (.v (.int .i32 108)) g S fun h S=>Lf a 3 S fun k S=>AF k S fun l S=>Hf (.i .i32) c (.v (.int .i32 111)) l S fun m S=>Lf a 4 S fun n S=>AF n S fun o S=>Hf (.i .i32) c (.v (.int .i32 98)) o S fun p S=>Lf a 5 S fun q S=>AF q S fun r S=>Hf (.i .i32) c (.v (.int .i32 99)) r S fun s S=>Lf a 6 S fun t S=>AF t S fun u S=>Hf (.i .i32) c (.v (.int .i32 102)) u S fun w S=>Q (.ret c) S
theorem mW{x0:AV}{S:Aa}{Q:Aq}(h:m94 x0 S Q):Ad Pg 94 [x0] S Q:=
 Bj (n:=22) [[]] Tryz.func94 (by kernel_rfl) (Eq.mpr (by kernel_rfl) h)
def m88(x0 x1:AV)(S:Aa)(Q:Aq):Prop:=
 Az 29 8 x0 S fun a S=>Ah Pg 89 [x1] S Q fun c S=>bin .lss 0 c (aI 0) S fun d S=>Fi d (Q (.ret (aI 0)) S) (Lf a 0 S fun e S=>Lf a 1 S fun f S=>AF f S fun g S=>Lf a 3 S fun h S=>AF h S fun i S=>Lf a 4 S fun k S=>AF k S fun l S=>Lf a 5 S fun m S=>AF m S fun n S=>Lf a 6 S fun o S=>AF o S fun p S=>AU 3 1 6 [aI 0] [(0,e),(1,g),(2,i),(3,l),(4,n),(5,p)] S fun q S=>AS 3 1 q c S fun r S=>Ay r S fun s S=>Q (.ret s) S)
theorem nC{x0 x1:AV}{S:Aa}{Q:Aq}(h:m88 x0 x1 S Q):Ad Pg 88 [x0,x1] S Q:=
 Bj (n:=31) [[]] Tryz.func88 (by kernel_rfl) (Eq.mpr (by kernel_rfl) h)
def m15(x0 x1:AV)(S:Aa)(Q:Aq):Prop:=
 Az 32 4 (.a Cy) S fun c S=>Ah Pg 8 [x0] S Q fun d S=>Ah Pg 38 [d,x1] S Q fun e S=>A8 4 c e S fun f S=>AB 4 c S fun g _=>Q (.ret g) S
theorem pX{x0 x1:AV}{S:Aa}{Q:Aq}(h:m15 x0 x1 S Q):Ad Pg 15 [x0,x1] S Q:=
 Bj (n:=9) [[]] Tryz.func15 (by kernel_rfl) (Eq.mpr (by kernel_rfl) h)
def c6:Code:=(Tryz.f6.body).getD .skip
def r6:List ResultVar:=Tryz.f6.results.toList
def m6(x0 x1:AV)(S:Aa)(Q:Aq):Prop:=
 Az 29 8 (.a rO) S fun c S=>Az 32 4 (.a Cy) S fun d S=>Ah Pg 14 [x0] S Q fun e S=>Az 29 8 (.a rO) S fun f S=>A8 8 f e S fun g S=>Lt S (AB 8 f) fun h=>Lt S (AB 8 f) fun i=>Lc S 17 [i] fun k=>Lc S 16 [k] fun l=>Lt S (bin .mul 0 (aI 2) l) fun m=>Ah Pg 15 [x1,m] S Q fun n S=>(∀ T:Aa,Am S T→AB 8 f T fun o S=>o=h∧S=T)∧A8 8 c h S fun p S=>A8 4 d n S fun q S=>AB 8 c S fun r _=>AB 4 d S fun s _=>Q (.ret (.t [r,s])) S
theorem xZ{x0 x1:AV}{S:Aa}{Q:Aq}(h:m6 x0 x1 S Q):Ad Pg 6 [x0,x1] S Q:=
 Bj (n:=16) [[15]] Tryz.func6 (by kernel_rfl) (Eq.mpr (by kernel_rfl) h)
def c3:Code:=(Tryz.f3.body).getD .skip
def r3:List ResultVar:=Tryz.f3.results.toList
abbrev Y1(S:Aa)(Q:Aq)(a c:AV):Prop:=Ah Pg 9 [] S Q fun d S=>Fi d (AB 8 a S fun e S=>AB 4 c S fun f S=>Ah Pg 10 [e,f,aI 0] S Q fun g S=>Q (.ret g) S) (Q (.ret (.v (.bool false))) S)
def m3(x0 x1 x2 x3:AV)(S:Aa)(Q:Aq):Prop:=
 AF x1 S fun c S=>VT false c (aI 12) S fun d S=>Hi 5 1 x1 none (some d) none S fun e S=>Ah Pg 6 [x0,e] S Q fun f S=>AZ f 0 S fun g S=>AZ f 1 S fun h S=>Az 29 8 (.a rO) S fun i S=>Az 32 4 (.a Cy) S fun k S=>A8 8 i g S fun l S=>A8 4 k h S fun m S=>bin .rem 0 x2 (.v (.int .u8 5)) S fun n S=>bin .eql 0 n (.v (.int .u8 0)) S fun o S=>Fi o (CD NI Cy [(0,(aI 3)),(2,x3)] S fun p S=>Ah Pg 7 [aI 9,p] S Q fun q S=>A8 4 k q S fun r S=>Y1 S Q i k) (bin .eql 0 n (.v (.int .u8 1)) S fun s S=>Fi s (AF x1 S fun t S=>VT false t (aI 12) S fun u S=>Hi 5 1 x1 none (some u) none S fun w S=>Ah Pg 8 [w] S Q fun x S=>A8 4 k x S fun y S=>Y1 S Q i k) (bin .eql 0 n (.v (.int .u8 2)) S fun z S=>Fi z (Lf i 5 S fun A S=>AU 3 1 1 [aI 0] [(0,x3)] S fun B S=>Bo 3 1 8 A B S fun C S=>shift i 5 S fun D S=>A8 1 D C S fun E S=>Y1 S Q i k) (bin .eql 0 n (.v (.int .u8 3)) S fun F S=>Fi F (Lf k 3 S fun G S=>CD NI Cy [(0,x3),(3,G)] S fun H S=>A8 4 k H S fun I S=>Y1 S Q i k) (Ah Pg 9 [] S Q fun J S=>Fi J (AB 8 i S fun K S=>AB 4 k S fun L S=>Ah Pg 10 [K,L,x3] S Q fun M S=>Q (.ret M) S) (Q (.ret (.v (.bool false))) S)))))
theorem x6{x0 x1 x2 x3:AV}{S:Aa}{Q:Aq}(h:m3 x0 x1 x2 x3 S Q):Ad Pg 3 [x0,x1,x2,x3] S Q:=
 Bj (n:=59) [[]] Tryz.func3 (by kernel_rfl) (Eq.mpr (by kernel_rfl) h)
def c5:Code:=(Tryz.f5.body).getD .skip
def r5:List ResultVar:=Tryz.f5.results.toList
abbrev YZ(a c d:AV)(S:Aa)(e:AV)(Q:Aq)(f:AV):Prop:=Fi a (Fi c (Lf d 1 S fun g S=>AS 4 1 g e S fun h S=>Ay h S fun i S=>bin .eql 1 (.v (.bool true)) i S fun k S=>Q (.ret k) S) (Lf d 1 S fun l S=>AS 4 1 l e S fun m S=>Ay m S fun n S=>bin .eql 1 f n S fun o S=>Q (.ret o) S)) (Q (.ret (.v (.bool false))) S)
abbrev AbX(S:Aa)(a c d e f g:AV)(Q:Aq)(h i k l m n:AV):Prop:=(∀ T:Aa,Am S T→AZ a 2 T fun o S=>o=c∧S=T)∧(∀ T:Aa,Am S T→AZ a 1 T fun p S=>p=d∧S=T)∧AB 8 e S fun q S=>AB 4 f S fun r S=>AB 5 g S fun s S=>Ah Pg 13 [q,r,s] S Q fun t S=>AZ t 0 S fun u S=>AZ t 1 S fun w S=>(fun S0:Aa=>Lq S0 (AB 8 e) fun x=>Lq S0 (AB 4 f) fun y=>Ld S0 7 [aI 4,y] fun z=>Lq S0 (AB 5 h) fun A=>Ld S0 13 [x,z,A] fun B=>Lq S0 (AZ B 0) fun C=>Lq S0 (AZ B 1) fun D=>bin .neq 0 i (aI 0) S fun E S=>Fi E (Q (.ret (.v (.bool false))) S) (bin .neq 0 c (aI 0) S fun F S=>Fi F (Q (.ret (.v (.bool false))) S) (bin .neq 1 k w S fun G S=>Fi G (Q (.ret (.v (.bool false))) S) (bin .neq 1 d D S fun H S=>Fi H (Q (.ret (.v (.bool false))) S) (Fi l (Fi k (un .not d S fun I S=>YZ I k m S n Q d) (un .not (.v (.bool false)) S fun J S=>YZ J k m S n Q d)) (Q (.ret (.v (.bool false))) S)))))) S
def m5(x0 x1 x2:AV)(S:Aa)(Q:Aq):Prop:=
 Ah Pg 9 [] S Q fun c S=>un .not c S fun d S=>Fi d (Q (.ret (.v (.bool false))) S) (AF x1 S fun e S=>VT false e (aI 12) S fun f S=>Hi 5 1 x1 none (some f) none S fun g S=>Ah Pg 6 [x0,g] S Q fun h S=>AZ h 0 S fun i S=>AZ h 1 S fun k S=>Az 29 8 (.a rO) S fun l S=>Az 32 4 (.a Cy) S fun m S=>A8 8 l i S fun n S=>A8 4 m k S fun o S=>AB 8 l S fun p S=>Ah Pg 11 [p] S Q fun q S=>AZ q 0 S fun r S=>AZ q 1 S fun s S=>Az 45 5 (.a Xl) S fun t S=>A8 5 t r S fun u S=>Cq .i64 x2 S fun w S=>Lf t 1 S fun x S=>AF x S fun y S=>bin .rem 0 w y S fun z S=>AB 8 l S fun A S=>AB 4 m S fun B S=>Ah Pg 12 [A,B,z] S Q fun C S=>AZ C 0 S fun D S=>AZ C 1 S fun E S=>AZ C 2 S fun F S=>Az 51 5 (.a Jh) S fun G S=>A8 5 G D S fun H S=>Lt S (AB 8 l) fun I=>Lt S (AB 4 m) fun J=>Lc S 7 [aI 4,J] fun K=>(Ah Pg 12 [I,K,z] S Q fun L S=>Lt S (AZ L 0) fun M=>Lt S (AZ L 1) fun N=>Lt S (AZ L 2) fun O=>Az 51 5 (.a Jh) S fun P S=>(∀ T:Aa,Am S T→AZ L 2 T fun R S=>R=O∧S=T)∧(∀ T:Aa,Am S T→AZ L 1 T fun U S=>U=N∧S=T)∧A8 5 P M S fun V S=>AbX S L O N l m G Q P F E c t z)∧(Az 51 5 (.a Jh) S fun W S=>Ah Pg 12 [I,K,z] S Q fun X S=>Lt S (AZ X 0) fun Y=>Lt S (AZ X 1) fun Z=>Lt S (AZ X 2) fun a0=>A8 5 W Y S fun a1 S=>AbX S X a0 Z l m G Q W F E c t z))
def c4:Code:=(Tryz.f4.body).getD .skip
def r4:List ResultVar:=Tryz.f4.results.toList
abbrev Y0(S:Aa)(Q:Aq)(a c x4:AV):Prop:=Ah Pg 9 [] S Q fun d S=>Fi d (Lt S (AB 8 a) fun e=>Lt S (AB 4 c) fun f=>Lt S (Cq .i64 x4) fun g=>Lt S (shift a 0) fun h=>Lt S (Ay h) fun i=>Lt S (shift a 1) fun k=>Lt S (Ay k) fun l=>Lt S (AF l) fun m=>Lt S (bin .add 0 i m) fun n=>Lt S (bin .shl 0 (aI 1) n) fun o=>Lt S (bin .rem 0 g o) fun p=>Lc S 10 [e,f,p] fun q=>∃ r:AV,(∀ T:Aa,Am S T→q=r∧T=T)∧Q (.ret r) S) (∃ s:AV,(∀ T:Aa,Am S T→(.v (.bool false))=s∧T=T)∧Q (.ret s) S)
abbrev xC(x5 a:AV)(S:Aa)(Q:Aq)(c x4:AV):Prop:=Fi x5 (AB 4 a S fun d S=>Ah Pg 7 [aI 4,d] S Q fun e S=>A8 4 a e S fun f S=>Y0 S Q c a x4) (Y0 S Q c a x4)
abbrev xB(S:Aa)(a x3 c x5:AV)(Q:Aq)(d x4:AV):Prop:=Lt S (shift a 3) fun e=>Lt S (Ay e) fun f=>Lt S (Cq .i64 x3) fun g=>Lt S (bin .rem 0 g c) fun h=>Lt S (CD NI Cy [(0,(aI 3)),(2,h)]) fun i=>Lt S (AU 32 4 1 Cy [(0,i)]) fun k=>Bo 32 4 56 f k S fun l S=>Lt S (shift a 3) fun m=>A8 1 m l S fun n S=>xC x5 a S Q d x4
def m4(x0 x1 x2 x3 x4 x5:AV)(S:Aa)(Q:Aq):Prop:=
 Ah Pg 6 [x0,.nl] S Q fun c S=>AZ c 0 S fun d S=>AZ c 1 S fun e S=>Az 29 8 (.a rO) S fun f S=>Az 32 4 (.a Cy) S fun g S=>A8 8 f d S fun h S=>A8 4 g e S fun i S=>Lf f 0 S fun k S=>Lf f 1 S fun l S=>AF l S fun m S=>bin .add 0 k m S fun n S=>bin .add 0 n (aI 1) S fun o S=>Lf f 2 S fun p S=>AF p S fun q S=>bin .add 0 o q S fun r S=>bin .mul 0 (aI 2) r S fun s S=>Cq .i64 x1 S fun t S=>bin .rem 0 t (aI 15) S fun u S=>bin .add 0 (aI 4) u S fun v S=>Cq .i64 x2 S fun w S=>bin .rem 0 w s S fun x S=>CD NI Cy [(0,(aI 3)),(2,x)] S fun y S=>AU 32 4 1 Cy [(0,y)] S fun z S=>CD NI Cy [(0,v),(3,z)] S fun A S=>Az 32 4 (.a Cy) S fun B S=>A8 4 B A S fun C S=>bin .geq 0 v (aI 5) S fun D S=>Fi D (bin .leq 0 v (aI 8) S fun E S=>Fi E (xB S B x3 s x5 Q f x4) (bin .geq 0 v (aI 15) S fun F S=>Fi F (xB S B x3 s x5 Q f x4) (xC x5 B S Q f x4))) (bin .geq 0 v (aI 15) S fun G S=>Fi G (xB S B x3 s x5 Q f x4) (xC x5 B S Q f x4))
def c9:Code:=(Tryz.f9.body).getD .skip
def r9:List ResultVar:=Tryz.f9.results.toList
def m9(S:Aa)(Q:Aq):Prop:=
 CD [(0,1),(1,1)] [aI 0,aI 0] [(0,(aI 3))] S fun c S=>AU 67 2 1 [aI 0,aI 0] [(0,c)] S fun d S=>CD [(0,1),(1,1),(2,1),(3,1),(4,1),(5,1),(6,1),(7,1)] rO [(1,d)] S fun e S=>Az 29 8 (.a rO) S fun f S=>A8 8 f e S fun g S=>CD NI Cy [(0,(aI 3)),(2,(aI 2))] S fun h S=>Ah Pg 7 [aI 11,h] S Q fun i S=>Az 32 4 (.a Cy) S fun k S=>A8 4 k i S fun l S=>AB 8 f S fun m S=>AB 4 k S fun n S=>Ah Pg 12 [m,n,aI 0] S Q fun o S=>AZ o 0 S fun p S=>AZ o 1 S fun q S=>AZ o 2 S fun r S=>Az 51 5 (.a Jh) S fun s S=>A8 5 s p S fun t S=>AB 8 f S fun u S=>AB 4 k S fun w S=>AB 5 s S fun x S=>Ah Pg 13 [u,w,x] S Q fun y S=>AZ y 0 S fun z S=>AZ y 1 S fun A S=>Lt S (AB 8 f) fun B=>Lt S (CD NI Cy [(0,(aI 3)),(2,(aI 2))]) fun C=>Lc S 7 [aI 9,C] fun D=>Lc S 12 [B,D,aI 1] fun E=>Lt S (AZ E 0) fun F=>Lt S (AZ E 1) fun G=>Lt S (AZ E 2) fun H=>Az 51 5 (.a Jh) S fun I S=>(∀ T:Aa,Am S T→AZ E 2 T fun J S=>J=H∧S=T)∧(∀ T:Aa,Am S T→AZ E 1 T fun K S=>K=G∧S=T)∧A8 5 I F S fun L S=>(∀ T:Aa,Am S T→AZ E 2 T fun M S=>M=H∧S=T)∧(∀ T:Aa,Am S T→AZ E 1 T fun N S=>N=G∧S=T)∧AB 8 f S fun O S=>AB 4 k S fun P S=>Ah Pg 12 [O,P,aI 2] S Q fun R S=>AZ R 0 S fun U S=>AZ R 1 S fun V S=>AZ R 2 S fun W S=>Az 51 5 (.a Jh) S fun X S=>A8 5 X U S fun Y S=>bin .eql 0 r (aI 0) S fun Z S=>Fi Z (Fi q (Fi A (bin .eql 0 z (aI 0) S fun a0 S=>Fi a0 (Lf s 1 S fun a1 S=>bin .eql 0 a1 (aI 0) S fun a2 S=>Fi a2 (bin .eql 0 H (aI 0) S fun a3 S=>Fi a3 (un .not G S fun a4 S=>Fi a4 (bin .eql 0 W (aI 1) S fun a5 S=>Q (.ret a5) S) (Q (.ret (.v (.bool false))) S)) (Q (.ret (.v (.bool false))) S)) (Q (.ret (.v (.bool false))) S)) (Q (.ret (.v (.bool false))) S)) (Q (.ret (.v (.bool false))) S)) (Q (.ret (.v (.bool false))) S)) (Q (.ret (.v (.bool false))) S)
theorem xW{S:Aa}{Q:Aq}(h:m9  S Q):Ad Pg 9 [] S Q:=
 Bj (n:=77) [[]] Tryz.func9 (by kernel_rfl) (Eq.mpr (by kernel_rfl) h)
def m10(x0 x1 x2:AV)(S:Aa)(Q:Aq):Prop:=
 Az 29 8 x0 S fun c S=>Az 32 4 x1 S fun d S=>AB 8 c S fun e S=>AB 4 d S fun f S=>Ah Pg 12 [e,f,x2] S Q fun g S=>AZ g 0 S fun h S=>AZ g 1 S fun i S=>AZ g 2 S fun k S=>Az 51 5 (.a Jh) S fun l S=>A8 5 l h S fun m S=>AB 8 c S fun n S=>AB 4 d S fun o S=>Ah Pg 21 [n,o,x2] S Q fun p S=>AZ p 0 S fun q S=>AZ p 1 S fun r S=>bin .neq 0 k r S fun s S=>Fi s (Q (.ret (.v (.bool false))) S) (bin .neq 1 i q S fun t S=>Fi t (Q (.ret (.v (.bool false))) S) (un .not i S fun u S=>Fi u (AB 5 l S fun w S=>Ah Pg 22 [w] S Q fun x S=>Q (.ret x) S) (AB 8 c S fun y S=>AB 4 d S fun z S=>AB 5 l S fun A S=>Ah Pg 13 [y,z,A] S Q fun B S=>AZ B 0 S fun C S=>AZ B 1 S fun D S=>Fi D (Lf l 1 S fun E S=>bin .eql 0 E x2 S fun F S=>Fi F (bin .eql 0 C (aI 0) S fun G S=>Fi G (Q (.ret (.v (.bool true))) S) (AB 4 d S fun H S=>Ah Pg 23 [H] S Q fun I S=>un .not I S fun J S=>Q (.ret J) S)) (Q (.ret (.v (.bool false))) S)) (Q (.ret (.v (.bool false))) S))))
theorem qB{x0 x1 x2:AV}{S:Aa}{Q:Aq}(h:m10 x0 x1 x2 S Q):Ad Pg 10 [x0,x1,x2] S Q:=
 Bj (n:=64) [[]] Tryz.func10 (by kernel_rfl) (Eq.mpr (by kernel_rfl) h)
abbrev Y7(S:Aa)(a:AV)(Q:Aq):Prop:=CD Ub Jh [] S fun c S=>A8 5 a c S fun d S=>AB 5 a S fun e _=>Q (.ret (.t [e,.v (.bool false),aI 1])) S
abbrev Y6(S:Aa)(a:AV)(Q:Aq)(c:AV):Prop:=CD Ub Jh [] S fun d S=>A8 5 a d S fun e S=>AB 5 a S fun f _=>Q (.ret (.t [f,.v (.bool false),c])) S
def m12(x0 x1 x2:AV)(S:Aa)(Q:Aq):Prop:=
 Az 29 8 x0 S fun c S=>Az 32 4 x1 S fun d S=>Az 51 5 (.a Jh) S fun e S=>AB 8 c S fun f S=>AB 4 d S fun g S=>Ah Pg 29 [f,g] S Q fun h S=>AZ h 0 S fun i S=>AZ h 1 S fun k S=>bin .neq 0 k (aI 0) S fun l S=>Fi l (Y6 S e Q k) (bin .lss 0 x2 (aI 0) S fun m S=>Fi m (Y7 S e Q) (AF i S fun n S=>bin .geq 0 x2 n S fun o S=>Fi o (Y7 S e Q) (AS 4 1 i x2 S fun p S=>Ay p S fun q S=>un .not q S fun r S=>Fi r (CD Ub Jh [] S fun u S=>A8 5 e u S fun w S=>AB 5 e S fun x _=>Q (.ret (.t [x,.v (.bool false),aI 0])) S) (AB 8 c S fun y S=>Ah Pg 30 [y] S Q fun z S=>AZ z 0 S fun A S=>AZ z 1 S fun B S=>Az 45 5 (.a Xl) S fun C S=>A8 5 C A S fun D S=>bin .neq 0 B (aI 0) S fun E S=>Fi E (Y6 S e Q B) (AB 8 c S fun F S=>AB 5 C S fun G S=>YG .s S fun H S=>CD [(0,8),(8,5),(13,1)] [aI 0,.nl,.nl,.nl,.nl,.nl,.nl,.nl,aI 0,.nl,.nl,.nl,.nl,.v (.map none)] [(0,F),(1,G),(2,H)] S fun I S=>Az 82 14 I S fun J S=>AB 4 d S fun K S=>Ah Pg 32 [K] S Q fun L S=>Ah Pg 31 [J,L,x2] S Q fun M S=>A8 5 e M S fun N S=>AB 5 e S fun O _=>Q (.ret (.t [O,.v (.bool true),aI 0])) S)))))
theorem p9{x0 x1 x2:AV}{S:Aa}{Q:Aq}(h:m12 x0 x1 x2 S Q):Ad Pg 12 [x0,x1,x2] S Q:=
 Bj (n:=57) [[31]] Tryz.func12 (by kernel_rfl) (Eq.mpr (by kernel_rfl) h)
def c40:Code:=(Tryz.f40.body).getD .skip
def r40:List ResultVar:=Tryz.f40.results.toList
def L3(y1 y3:AV):List AV:=[y1,y3]
def Ti:List Nat:=[1,3]
def Yy:List (List Nat):=[Ti,[]]
abbrev N7(v4:AV)(Q:Aq)(S:Aa)(v1:AV):Prop:=Fi v4 (Q (.ret (.v (.bool false))) S) (Ap Ti (vc Pg (c40.at_ [1,1,0,1,0,0]) (Yy.drop 1)) 26 (L3 v1 (aI 0)) S (Ak 1 (Av (vc Pg (c40.at_ [1,1,1]) (Yy.drop 1)) (Ao Pg r40 Q))))
def m40(x0:AV)(S:Aa)(Q:Aq):Prop:=
 Az 32 4 x0 S fun a S=>Lf a 0 S fun c S=>bin .eql 0 c (aI 10) S fun d S=>Fi d (N7 d Q S a) (bin .eql 0 c (aI 12) S fun e S=>Fi e (N7 e Q S a) (bin .eql 0 c (aI 14) S fun f S=>Fi f (N7 f Q S a) (bin .eql 0 c (aI 16) S fun g S=>Fi g (N7 g Q S a) (bin .eql 0 c (aI 18) S fun h S=>N7 h Q S a))))
theorem pA{x0:AV}{S:Aa}{Q:Aq}(h:m40 x0 S Q):Ad Pg 40 [x0] S Q:=
 Bj (n:=26) Yy Tryz.func40 (by kernel_rfl) (Eq.mpr (by kernel_rfl) h)
def uF(y1 y3:AV)(S:Aa)(KE0:By)(Q:Aq):Prop:=
 Lf y1 3 S fun a S=>AF a S fun c S=>bin .lss 0 y3 c S fun d S=>Fi d (Lf y1 3 S fun e S=>AS 32 4 e y3 S fun f S=>AB 4 f S fun g S=>Ah Pg 40 [g] S Q fun h S=>un .not h S fun i S=>Fi i (Q (.ret (.v (.bool false))) S) (bin .add 0 y3 (aI 1) S fun k S=>KE0 26 (L3 y1 k) S)) (Q (.ret (.v (.bool true))) S)
theorem ZE{y1:AV}{y30:AV}{S:Aa}{Q:Aq}(I:AV→Aa→Prop)(μ:AV→Aa→Nat)(h0:I y30 S)(hr:BS (fun y3=>L3 y1 y3) 26 I μ fun y3 S KE0=>uF y1 y3 S KE0 Q):
 Ap Ti (vc Pg (c40.at_ [1,1,0,1,0,0]) (Yy.drop 1)) 26 (L3 y1 y30) S (Ak 1 (Av (vc Pg (c40.at_ [1,1,1]) (Yy.drop 1)) (Ao Pg r40 Q))):=DQ 1 (fun _=>rfl) (fun _ _ _=>by kernel_rfl) h0 hr
def m21(x0 x1 x2:AV)(S:Aa)(Q:Aq):Prop:=
 Az 29 8 x0 S fun a S=>Az 32 4 x1 S fun c S=>AB 8 a S fun d S=>AB 4 c S fun e S=>Ah Pg 39 [d,e] S Q fun f S=>AZ f 0 S fun g S=>AZ f 1 S fun h S=>bin .neq 0 h (aI 0) S fun i S=>Fi i (Q (.ret (.t [.v (.bool false),h])) S) (bin .lss 0 x2 (aI 0) S fun k S=>Fi k (Q (.ret (.t [.v (.bool false),aI 1])) S) (AF g S fun l S=>bin .geq 0 x2 l S fun m S=>Fi m (Q (.ret (.t [.v (.bool false),aI 1])) S) (AS 4 1 g x2 S fun n S=>Ay n S fun o S=>Q (.ret (.t [o,aI 0])) S)))
theorem pS{x0 x1 x2:AV}{S:Aa}{Q:Aq}(h:m21 x0 x1 x2 S Q):Ad Pg 21 [x0,x1,x2] S Q:=
 Bj (n:=31) [[]] Tryz.func21 (by kernel_rfl) (Eq.mpr (by kernel_rfl) h)
def c7:Code:=(Tryz.f7.body).getD .skip
def m7(x0 x1:AV)(S:Aa)(Q:Aq):Prop:=
 Az 32 4 x1 S fun c S=>Az 32 4 (.a Cy) S fun d S=>AB 4 c S fun e S=>AU 32 4 1 Cy [(0,e)] S fun f S=>CD NI Cy [(0,x0),(3,f)] S fun g S=>A8 4 d g S fun h S=>AB 4 d S fun i _=>Q (.ret i) S
theorem xY{x0 x1:AV}{S:Aa}{Q:Aq}(h:m7 x0 x1 S Q):Ad Pg 7 [x0,x1] S Q:=
 Bj (n:=9) [[]] Tryz.func7 (by kernel_rfl) (Eq.mpr (by kernel_rfl) h)
def m22(x0:AV)(S:Aa)(Q:Aq):Prop:=
 Az 51 5 x0 S fun a S=>Lf a 0 S fun c S=>bin .eql 0 c (aI 0) S fun d S=>Fi d (Lf a 1 S fun e S=>bin .eql 0 e (aI 0) S fun f S=>Fi f (Lf a 2 S fun g S=>bin .eql 0 g (aI 0) S fun h S=>Fi h (Lf a 3 S fun i S=>AF i S fun k S=>bin .eql 0 k (aI 0) S fun l S=>Fi l (Lf a 4 S fun m S=>AF m S fun n S=>bin .eql 0 n (aI 0) S fun o S=>Q (.ret o) S) (Q (.ret (.v (.bool false))) S)) (Q (.ret (.v (.bool false))) S)) (Q (.ret (.v (.bool false))) S)) (Q (.ret (.v (.bool false))) S)
theorem pR{x0:AV}{S:Aa}{Q:Aq}(h:m22 x0 S Q):Ad Pg 22 [x0] S Q:=
 Bj (n:=28) [[]] Tryz.func22 (by kernel_rfl) (Eq.mpr (by kernel_rfl) h)
def m23(x0:AV)(S:Aa)(Q:Aq):Prop:=
 Az 32 4 x0 S fun a S=>AB 4 a S fun c S=>Ah Pg 41 [c] S Q fun d S=>Ah Pg 40 [d] S Q fun e S=>Q (.ret e) S
theorem pQ{x0:AV}{S:Aa}{Q:Aq}(h:m23 x0 S Q):Ad Pg 23 [x0] S Q:=
 Bj (n:=6) [[]] Tryz.func23 (by kernel_rfl) (Eq.mpr (by kernel_rfl) h)
abbrev Fp(a x2:AV)(S:Aa)(c:AV)(Q:Aq):Prop:=Fi a (CD Ub Jh [(0,(aI 1)),(1,x2)] S fun d S=>A8 5 c d S fun e S=>AB 5 c S fun f _=>Q (.ret f) S) (CD Ub Jh [(0,(aI 7)),(1,x2)] S fun g S=>A8 5 c g S fun h S=>AB 5 c S fun i _=>Q (.ret i) S)
def Xr(x0 x1 x2:AV)(S:Aa)(Q:Aq):Prop:=
 Az 32 4 x1 S fun c S=>Az 51 5 (.a Jh) S fun d S=>Lf c 0 S fun e S=>bin .eql 0 e (aI 5) S fun f S=>Fi f (Lt S (shift c 3) fun g=>Lt S (Ay g) fun h=>Lt S (AS 32 4 h (aI 0)) fun i=>Lt S (AB 4 i) fun k=>Lt S (shift c 3) fun l=>Lt S (Ay l) fun m=>Lt S (AS 32 4 m (aI 1)) fun n=>Lt S (AB 4 n) fun o=>Ah Pg 31 [x0,k,x2] S Q fun q S=>(∀ T:Aa,Am S T→AB 4 n T fun r S=>r=o∧S=T)∧(∀ T:Aa,Am S T→AS 32 4 m (aI 1) T fun s S=>s=n∧S=T)∧(∀ T:Aa,Am S T→Ay l T fun t S=>t=m∧S=T)∧(∀ T:Aa,Am S T→shift c 3 T fun u S=>u=l∧S=T)∧Ah Pg 31 [x0,o,x2] S Q fun w S=>Lt S (AU 51 5 2 Jh [(0,q),(1,w)]) fun x=>Lt S (CD Ub Jh [(0,(aI 2)),(1,x2),(4,x)]) fun y=>A8 5 d y S fun z S=>AB 5 d S fun A _=>Q (.ret A) S) (bin .eql 0 e (aI 6) S fun B S=>Fi B (Lf c 3 S fun C S=>Ah Pg 59 [x0,x2,C] S Q fun D S=>A8 5 d D S fun E S=>AB 5 d S fun F _=>Q (.ret F) S) (bin .eql 0 e (aI 9) S fun G S=>Fi G (Lf c 3 S fun H S=>AS 32 4 H (aI 0) S fun I S=>AB 4 I S fun J S=>Ah Pg 60 [x0,J,x2] S Q fun K S=>A8 5 d K S fun L S=>AB 5 d S fun M _=>Q (.ret M) S) (bin .eql 0 e (aI 11) S fun N S=>Fi N (Lc S 62 [] fun O=>Lt S (shift c 3) fun P=>Lt S (Ay P) fun R=>Lt S (AS 32 4 R (aI 0)) fun U=>Lt S (AB 4 U) fun V=>Ah Pg 61 [x0,O,V,x2] S Q fun W S=>A8 5 d W S fun X S=>AB 5 d S fun Y _=>Q (.ret Y) S) (bin .eql 0 e (aI 15) S fun Z S=>Fi Z (Lt S (shift c 3) fun a0=>Lt S (Ay a0) fun a1=>Lt S (AS 32 4 a1 (aI 0)) fun a2=>Lt S (AB 4 a2) fun a3=>Lt S (shift c 3) fun a4=>Lt S (Ay a4) fun a5=>Lt S (AS 32 4 a5 (aI 1)) fun a6=>Lt S (AB 4 a6) fun a7=>Ah Pg 61 [x0,a3,a7,x2] S Q fun a8 S=>A8 5 d a8 S fun a9 S=>AB 5 d S fun b0 _=>Q (.ret b0) S) (bin .eql 0 e (aI 17) S fun b1 S=>Fi b1 (Lt S (shift c 3) fun b2=>Lt S (Ay b2) fun b3=>Lt S (AS 32 4 b3 (aI 0)) fun b4=>Lt S (AB 4 b4) fun b5=>Lt S (shift c 3) fun b6=>Lt S (Ay b6) fun b7=>Lt S (AS 32 4 b7 (aI 1)) fun b8=>Lt S (AB 4 b8) fun b9=>UA [(.cells 32 [[aI 0,.v (.string ByteArray.empty),aI 0,.nl]] true),(.cells 32 [[aI 0,.v (.string ByteArray.empty),aI 0,.nl]] true)] S fun ids105 S=>A8 4 (.p (ids105.headD 0) 0 0) b5 S fun c0 S=>(∀ T:Aa,Am S T→AB 4 b8 T fun c1 S=>c1=b9∧S=T)∧(∀ T:Aa,Am S T→AS 32 4 b7 (aI 1) T fun c2 S=>c2=b8∧S=T)∧(∀ T:Aa,Am S T→Ay b6 T fun c3 S=>c3=b7∧S=T)∧(∀ T:Aa,Am S T→shift c 3 T fun c4 S=>c4=b6∧S=T)∧A8 4 (.p (ids105.tail.headD 0) 0 0) b9 S fun c5 S=>Lt S (AB 4 (.p (ids105.tail.headD 0) 0 0)) fun c6=>Lt S (AU 32 4 1 Cy [(0,c6)]) fun c7=>Lc S 63 [aI 13,c7] fun c8=>Lt S (AB 4 (.p (ids105.tail.headD 0) 0 0)) fun c9=>Lt S (AB 4 (.p (ids105.headD 0) 0 0)) fun d0=>Lt S (AB 4 (.p (ids105.tail.headD 0) 0 0)) fun d1=>Lt S (AU 32 4 2 Cy [(0,d0),(1,d1)]) fun d2=>Lc S 63 [aI 5,d2] fun d3=>Lt S (AU 32 4 2 Cy [(0,c9),(1,d3)]) fun d4=>Lc S 63 [aI 15,d4] fun d5=>Lt S (AU 32 4 2 Cy [(0,c8),(1,d5)]) fun d6=>Ah Pg 59 [x0,x2,d6] S Q fun d7 S=>A8 5 d d7 S fun d8 S=>AB 5 d S fun d9 _=>Q (.ret d9) S) (bin .eql 0 e (aI 13) S fun e0 S=>Fi e0 (AB 4 c S fun e1 S=>Ah Pg 65 [x0,e1] S Q fun e2 S=>Ah Pg 64 [x0,x2,e2] S Q fun e3 S=>AZ e3 0 S fun e4 S=>AZ e3 1 S fun e5 S=>Lf c 3 S fun e6 S=>AS 32 4 e6 (aI 0) S fun e7 S=>AB 4 e7 S fun e8 S=>Ah Pg 66 [x0,e8,e4] S Q fun e9 S=>CD Ub Jh [(0,(aI 6)),(1,x2),(2,e5),(3,e4),(4,e9)] S fun f0 S=>A8 5 d f0 S fun f1 S=>AB 5 d S fun f2 _=>Q (.ret f2) S) (bin .eql 0 e (aI 2) S fun f3 S=>Fi f3 (Fp f3 x2 S d Q) (bin .eql 0 e (aI 3) S fun f4 S=>Fi f4 (Fp f4 x2 S d Q) (bin .eql 0 e (aI 4) S fun f5 S=>Fp f5 x2 S d Q)))))))))
theorem DG{x0 x1 x2:AV}{S:Aa}{Q:Aq}(h:Xr x0 x1 x2 S Q):Ad Pg 31 [x0,x1,x2] S Q:=
 Bj (n:=125) [[31,59,60,61,66,65]] Tryz.func31 (by kernel_rfl) (Eq.mpr (by kernel_rfl) h)
def Ae8(x0 x1:AV)(S:Aa)(Q:Aq):Prop:=
 Ay x1 S fun a S=>AS 4 1 a x0 S fun c S=>Ay c S fun d S=>Q (.ret d) S
theorem eD{x0 x1:AV}{S:Aa}{Q:Aq}(h:Ae8 x0 x1 S Q):Ad Pg 107 [x0,x1] S Q:=
 Bj (n:=8) [[]] Tryz.func107 (by kernel_rfl) (Eq.mpr (by kernel_rfl) h)
def m60(x0 x1 x2:AV)(S:Aa)(Q:Aq):Prop:=
 Az 32 4 x1 S fun c S=>Az 51 5 (.a Jh) S fun d S=>AB 4 c S fun e S=>Ah Pg 65 [x0,e] S Q fun g S=>Ah Pg 62 [] S Q fun h S=>AU 32 4 1 Cy [(0,h)] S fun i S=>Ah Pg 63 [aI 13,i] S Q fun k S=>Ah Pg 65 [x0,k] S Q fun l S=>Ah Pg 105 [g,l] S Q fun m S=>Az 41 1 .nl S fun n S=>A8 1 n m S fun o S=>AI x0 S fun p S=>shift p 8 S fun q S=>Lf q 3 S fun r S=>AS 26 1 r x2 S fun s S=>Ay s S fun t S=>Ah Pg 106 [t,(.f (.func 107) [] [n])] S Q fun u S=>AI x0 S fun v S=>shift v 8 S fun w S=>Lf w 3 S fun x S=>AS 26 1 x x2 S fun y S=>Ay y S fun z S=>AS 3 1 z u S fun A S=>Ay A S fun B S=>AB 4 c S fun C S=>Ah Pg 31 [x0,C,B] S Q fun D S=>Ah Pg 108 [x0,B] S Q fun E S=>AU 51 5 2 Jh [(0,D),(1,E)] S fun F S=>CD Ub Jh [(0,(aI 4)),(1,x2),(4,F)] S fun G S=>A8 5 d G S fun H S=>AB 5 d S fun I _=>Q (.ret I) S
theorem oF{x0 x1 x2:AV}{S:Aa}{Q:Aq}(h:m60 x0 x1 x2 S Q):Ad Pg 60 [x0,x1,x2] S Q:=
 Bj (n:=50) [[31,108,65]] Tryz.func60 (by kernel_rfl) (Eq.mpr (by kernel_rfl) h)
def m61(x0 x1 x2 x3:AV)(S:Aa)(Q:Aq):Prop:=
 Az 32 4 x1 S fun c S=>Az 32 4 x2 S fun d S=>Az 51 5 (.a Jh) S fun e S=>Lt S (AB 4 c) fun f=>Lt S (AB 4 d) fun g=>Ah Pg 65 [x0,f] S Q fun h S=>(∀ T:Aa,Am S T→AB 4 d T fun i S=>i=g∧S=T)∧Ah Pg 65 [x0,g] S Q fun k S=>Lc S 62 [] fun l=>Lt S (AU 32 4 1 Cy [(0,l)]) fun m=>Lc S 63 [aI 13,m] fun n=>Ah Pg 65 [x0,n] S Q fun o S=>Lc S 105 [k,o] fun p=>Ah Pg 109 [x0,x3,h,p,aI 0] S Q fun q S=>AF q S fun r S=>bin .sub 0 r (aI 1) S fun s S=>AS 3 1 q s S fun t S=>Ay t S fun u S=>Lt S (AB 4 c) fun v=>Lt S (AF q) fun w=>Lt S (bin .sub 0 w (aI 1)) fun x=>Lt S (Hi 3 1 q none (some x) none) fun y=>Ah Pg 66 [x0,v,y] S Q fun z S=>AB 4 d S fun A S=>Ah Pg 31 [x0,A,u] S Q fun B S=>Ah Pg 108 [x0,u] S Q fun C S=>AU 51 5 2 Jh [(0,B),(1,C)] S fun D S=>Bo 51 5 72 z D S fun E S=>CD Ub Jh [(0,(aI 5)),(1,x3),(3,q),(4,E)] S fun F S=>A8 5 e F S fun G S=>AB 5 e S fun H _=>Q (.ret H) S
theorem oE{x0 x1 x2 x3:AV}{S:Aa}{Q:Aq}(h:m61 x0 x1 x2 x3 S Q):Ad Pg 61 [x0,x1,x2,x3] S Q:=
 Bj (n:=54) [[109,31,66,108,65]] Tryz.func61 (by kernel_rfl) (Eq.mpr (by kernel_rfl) h)
def m59(x0 x1 x2:AV)(S:Aa)(Q:Aq):Prop:=
 Az 51 5 (.a Jh) S fun c S=>AS 32 4 x2 (aI 0) S fun d S=>AB 4 d S fun e S=>Ah Pg 65 [x0,e] S Q fun f S=>AS 4 1 f x1 S fun g S=>Ay g S fun h S=>un .not h S fun i S=>Fi i (AS 32 4 x2 (aI 1) S fun k S=>AB 4 k S fun l S=>Ah Pg 31 [x0,l,x1] S Q fun m S=>AU 51 5 1 Jh [(0,m)] S fun n S=>CD Ub Jh [(0,(aI 3)),(1,x1),(2,(aI 1)),(4,n)] S fun o S=>A8 5 c o S fun p S=>AB 5 c S fun q _=>Q (.ret q) S) (AS 32 4 x2 (aI 0) S fun r S=>AB 4 r S fun s S=>Ah Pg 31 [x0,s,x1] S Q fun t S=>AU 51 5 1 Jh [(0,t)] S fun u S=>CD Ub Jh [(0,(aI 3)),(1,x1),(2,(aI 0)),(4,u)] S fun v S=>A8 5 c v S fun w S=>AB 5 c S fun x _=>Q (.ret x) S)
theorem oG{x0 x1 x2:AV}{S:Aa}{Q:Aq}(h:m59 x0 x1 x2 S Q):Ad Pg 59 [x0,x1,x2] S Q:=
 Bj (n:=28) [[31,65]] Tryz.func59 (by kernel_rfl) (Eq.mpr (by kernel_rfl) h)
def c66:Code:=(Tryz.f66.body).getD .skip
def r66:List ResultVar:=Tryz.f66.results.toList
def JM(y0 y4 y6 y9 y10 y11:AV):List AV:=[y0,y4,y6,y9,y10,y11]
def SW:List Nat:=[0,4,6,9,10,11]
def Yq:List (List Nat):=[SW,[31]]
def m66(x0 x1 x2:AV)(S:Aa)(Q:Aq):Prop:=
 Az 32 4 x1 S fun a S=>AF x2 S fun c S=>Ap SW (vc Pg (c66.at_ [1,0,1,0,0]) (Yq.drop 1)) 24 (JM x0 a .nl x2 c (aI 0)) S (Ak 0 (Av (vc Pg (c66.at_ [1,1]) (Yq.drop 1)) (Ao Pg r66 Q)))
theorem nZ{x0 x1 x2:AV}{S:Aa}{Q:Aq}(h:m66 x0 x1 x2 S Q):Ad Pg 66 [x0,x1,x2] S Q:=
 Bj (n:=24) Yq Tryz.func66 (by kernel_rfl) (Eq.mpr (by kernel_rfl) h)
def tS(y0 y4 y6 y9 y10 y11:AV)(S:Aa)(KE0:By)(Q:Aq):Prop:=
 bin .lss 0 y11 y10 S fun a S=>Fi a (AS 3 1 y9 y11 S fun c S=>Ay c S fun d S=>AB 4 y4 S fun e S=>Ah Pg 31 [y0,e,d] S Q fun f S=>AU 51 5 1 Jh [(0,f)] S fun g S=>Bo 51 5 72 y6 g S fun h S=>bin .add 0 y11 (aI 1) S fun i S=>KE0 24 (JM y0 y4 h y9 y10 i) S) (Q (.ret y6) S)
theorem Zq{y0 y4 y9 y10:AV}{y60 y110:AV}{S:Aa}{Q:Aq}(I:AV→AV→Aa→Prop)(μ:AV→AV→Aa→Nat)(h0:I y60 y110 S)(hr:Dw (fun y6 y11=>JM y0 y4 y6 y9 y10 y11) 24 I μ fun y6 y11 S KE0=>tS y0 y4 y6 y9 y10 y11 S KE0 Q):
 Ap SW (vc Pg (c66.at_ [1,0,1,0,0]) (Yq.drop 1)) 24 (JM y0 y4 y60 y9 y10 y110) S (Ak 0 (Av (vc Pg (c66.at_ [1,1]) (Yq.drop 1)) (Ao Pg r66 Q))):=IB (E:=fun y6 y11=>JM y0 y4 y6 y9 y10 y11) 2 5 (fun _ _=>⟨rfl,rfl⟩) (fun _ _ _ _=>by kernel_rfl) h0 hr
def Ae7(x0 x1:AV)(S:Aa)(Q:Aq):Prop:=
 Az 51 5 (.a Jh) S fun c S=>Ah Pg 62 [] S Q fun d S=>AU 32 4 1 Cy [(0,d)] S fun e S=>Ah Pg 63 [aI 13,e] S Q fun f S=>Ah Pg 31 [x0,f,x1] S Q fun g S=>A8 5 c g S fun h S=>AB 5 c S fun i _=>Q (.ret i) S
theorem eC{x0 x1:AV}{S:Aa}{Q:Aq}(h:Ae7 x0 x1 S Q):Ad Pg 108 [x0,x1] S Q:=
 Bj (n:=11) [[31]] Tryz.func108 (by kernel_rfl) (Eq.mpr (by kernel_rfl) h)
def m65(x0 x1:AV)(S:Aa)(Q:Aq):Prop:=
 Az 32 4 x1 S fun a S=>AB 4 a S fun c S=>Ah Pg 112 [c] S Q fun d S=>AI x0 S fun e S=>Lf e 13 S fun f S=>UW .s .nl true f d S fun g S=>AZ g 0 S fun h S=>AZ g 1 S fun i S=>un .not i S fun k S=>Fi k (Lt S (AI x0) fun l=>Lt S (shift l 13) fun m=>Lt S (Ay m) fun n=>Lt S (AI x0) fun o=>Lt S (shift o 0) fun p=>Lt S (AB 8 p) fun q=>Lt S (AI x0) fun r=>Lt S (shift r 8) fun t=>Lt S (AB 5 t) fun u=>Lt S (AB 4 a) fun v=>Lc S 93 [q,u,v] fun w=>Hf .s n d w S fun x S=>AI x0 S fun y S=>Lf y 13 S fun z S=>UW .s .nl false z d S fun A S=>Q (.ret A) S) (AI x0 S fun B S=>Lf B 13 S fun C S=>UW .s .nl false C d S fun D S=>Q (.ret D) S)
theorem oA{x0 x1:AV}{S:Aa}{Q:Aq}(h:m65 x0 x1 S Q):Ad Pg 65 [x0,x1] S Q:=
 Bj (n:=42) [[]] Tryz.func65 (by kernel_rfl) (Eq.mpr (by kernel_rfl) h)
def c64:Code:=(Tryz.f64.body).getD .skip
def r64:List ResultVar:=Tryz.f64.results.toList
def GQ(y0 y1 y2 y13 y14 y15:AV):List AV:=[y0,y1,y2,y13,y14,y15]
def SX:List Nat:=[0,1,2,13,14,15]
def Yr:List (List Nat):=[SX,[109]]
def m64(x0 x1 x2:AV)(S:Aa)(Q:Aq):Prop:=
 AF x2 S fun a S=>Ap SX (vc Pg (c64.at_ [1,0,1,0,0]) (Yr.drop 1)) 54 (GQ x0 x1 x2 x2 a (aI 0)) S (Ak 0 (Av (vc Pg (c64.at_ [1,1]) (Yr.drop 1)) (Ao Pg r64 Q)))
theorem oB{x0 x1 x2:AV}{S:Aa}{Q:Aq}(h:m64 x0 x1 x2 S Q):Ad Pg 64 [x0,x1,x2] S Q:=
 Bj (n:=54) Yr Tryz.func64 (by kernel_rfl) (Eq.mpr (by kernel_rfl) h)
def tT(y0 y1 y2 y13 y14 y15:AV)(S:Aa)(KE0:By)(Q:Aq):Prop:=
 bin .lss 0 y15 y14 S fun a S=>Fi a (AS 4 1 y13 y15 S fun c S=>Ay c S fun d S=>un .not d S fun e S=>Fi e (bin .add 0 y15 (aI 1) S fun f S=>KE0 54 (GQ y0 y1 y2 y13 y14 f) S) (Ah Pg 110 [y0,y15] S Q fun g S=>Ah Pg 109 [y0,y1,y2,g,aI 0] S Q fun h S=>AF h S fun i S=>bin .eql 0 i (aI 0) S fun k S=>Fi k (bin .add 0 y15 (aI 1) S fun l S=>KE0 54 (GQ y0 y1 y2 y13 y14 l) S) (Ah Pg 111 [y0,y15,y2] S Q fun m S=>AZ m 0 S fun n S=>AZ m 1 S fun o S=>Fi o (AF h S fun p S=>bin .sub 0 p (aI 1) S fun q S=>AF h S fun r S=>bin .sub 0 r (aI 1) S fun s S=>Hi 3 1 h none (some q) (some s) S fun u S=>Bo 3 1 8 u n S fun v S=>AF h S fun w S=>bin .sub 0 w (aI 1) S fun x S=>Q (.ret (.t [v,x])) S) (bin .add 0 y15 (aI 1) S fun y S=>KE0 54 (GQ y0 y1 y2 y13 y14 y) S)))) (Q (.ret (.t [.nl,aI 0])) S)
theorem Zr{y0 y1 y2 y13 y14:AV}{y150:AV}{S:Aa}{Q:Aq}(I:AV→Aa→Prop)(μ:AV→Aa→Nat)(h0:I y150 S)(hr:BS (fun y15=>GQ y0 y1 y2 y13 y14 y15) 54 I μ fun y15 S KE0=>tT y0 y1 y2 y13 y14 y15 S KE0 Q):
 Ap SX (vc Pg (c64.at_ [1,0,1,0,0]) (Yr.drop 1)) 54 (GQ y0 y1 y2 y13 y14 y150) S (Ak 0 (Av (vc Pg (c64.at_ [1,1]) (Yr.drop 1)) (Ao Pg r64 Q))):=DQ 5 (fun _=>rfl) (fun _ _ _=>by kernel_rfl) h0 hr
def qX:Code:=(Tryz.f111.body).getD .skip
def Ab8:List ResultVar:=Tryz.f111.results.toList
def HN(y0 y1 y2 y8 y9 y30 y31 y32:AV):List AV:=[y0,y1,y2,y8,y9,y30,y31,y32]
def PE:List Nat:=[0,1,2,8,9,30,31,32]
def Rd:List (List Nat):=[PE,[109]]
def Ae4(x0 x1 x2:AV)(S:Aa)(Q:Aq):Prop:=
 AU 3 1 1 [aI 0] [(0,x1)] S fun a S=>(fun S0:Aa=>Lq S0 (AI x0) fun c=>Lq S0 (shift c 8) fun d=>Lq S0 (AB 5 d) fun e=>Ld S0 110 [x0,x1] fun f=>Ld S0 143 [e,x2,f] fun g=>AI x0 S fun h S=>shift h 8 S fun i S=>Lf i 4 S fun k S=>AF k S fun l S=>Ap PE (vc Pg (qX.at_ [1,1,1,0,1,0,0]) (Rd.drop 1)) 92 (HN x0 x1 x2 a g k l (aI 0)) S (Ak 0 (Av (vc Pg (qX.at_ [1,1,1,1]) (Rd.drop 1)) (Ao Pg Ab8 Q)))) S
theorem dZ{x0 x1 x2:AV}{S:Aa}{Q:Aq}(h:Ae4 x0 x1 x2 S Q):Ad Pg 111 [x0,x1,x2] S Q:=
 Bj (n:=92) Rd Tryz.func111 (by kernel_rfl) (Eq.mpr (by kernel_rfl) h)
def gO(y0 y1 y2 y8 y9 y30 y31 y32:AV)(S:Aa)(KE0:By)(Q:Aq):Prop:=
 bin .lss 0 y32 y31 S fun a S=>Fi a (AS 41 1 y30 y32 S fun c S=>Ay c S fun d S=>Ah Pg 105 [y2,d] S Q fun e S=>Ah Pg 105 [e,y9] S Q fun f S=>Ah Pg 109 [y0,y1,y2,f,aI 0] S Q fun g S=>AF g S fun h S=>bin .eql 0 h (aI 0) S fun i S=>Fi i (Q (.ret (.t [.nl,.v (.bool false)])) S) (Hi 3 1 g (some (aI 1)) none none S fun k S=>Bo 3 1 8 y8 k S fun l S=>Lt S (AF l) fun m=>Lt S (bin .sub 0 m (aI 1)) fun n=>Lt S (AS 3 1 l n) fun o=>Lt S (Ay o) fun p=>Lc S 110 [y0,y1] fun q=>Ah Pg 109 [y0,p,y2,q,aI 0] S Q fun r S=>Hi 3 1 r (some (aI 1)) none none S fun s S=>Bo 3 1 8 l s S fun u S=>bin .add 0 y32 (aI 1) S fun w S=>KE0 92 (HN y0 y1 y2 u y9 y30 y31 w) S)) (AF y8 S fun x S=>bin .gtr 0 x (aI 1) S fun y S=>Fi y (AF y8 S fun z S=>bin .sub 0 z (aI 1) S fun A S=>Hi 3 1 y8 none (some A) none S fun B S=>Q (.ret (.t [B,.v (.bool true)])) S) (Ah Pg 110 [y0,y1] S Q fun C S=>Ah Pg 109 [y0,y1,y2,C,aI 1] S Q fun D S=>AF D S fun E S=>bin .eql 0 E (aI 0) S fun F S=>Fi F (Q (.ret (.t [.nl,.v (.bool false)])) S) (AF D S fun G S=>bin .sub 0 G (aI 1) S fun H S=>Hi 3 1 D none (some H) none S fun I S=>Q (.ret (.t [I,.v (.bool true)])) S)))
theorem WG{y0 y1 y2 y9 y30 y31:AV}{y80 y320:AV}{S:Aa}{Q:Aq}(I:AV→AV→Aa→Prop)(μ:AV→AV→Aa→Nat)(h0:I y80 y320 S)(hr:Dw (fun y8 y32=>HN y0 y1 y2 y8 y9 y30 y31 y32) 92 I μ fun y8 y32 S KE0=>gO y0 y1 y2 y8 y9 y30 y31 y32 S KE0 Q):
 Ap PE (vc Pg (qX.at_ [1,1,1,0,1,0,0]) (Rd.drop 1)) 92 (HN y0 y1 y2 y80 y9 y30 y31 y320) S (Ak 0 (Av (vc Pg (qX.at_ [1,1,1,1]) (Rd.drop 1)) (Ao Pg Ab8 Q))):=IB (E:=fun y8 y32=>HN y0 y1 y2 y8 y9 y30 y31 y32) 3 7 (fun _ _=>⟨rfl,rfl⟩) (fun _ _ _ _=>by kernel_rfl) h0 hr
def NG:Code:=(Tryz.f109.body).getD .skip
def kL:List ResultVar:=Tryz.f109.results.toList
def F8(y0 y1 y2 y3 y11 y12 y13:AV):List AV:=[y0,y1,y2,y3,y11,y12,y13]
def Jw:List Nat:=[0,1,2,3,11,12,13]
def Ed(y0 y1 y2 y3 y11 y12 y13 y14 y55 y56 y57:AV):List AV:=[y0,y1,y2,y3,y11,y12,y13,y14,y55,y56,y57]
def PF:List Nat:=[0,1,2,3,11,12,13,14,55,56,57]
def Hu:List (List Nat):=[Jw,PF,[]]
abbrev SI(S:Aa)(x2:AV)(Q:Aq)(x1 x0 x3:AV):Prop:=AU 3 1 1 [aI 0] [(0,(.v (.int .i64 (-1))))] S fun a S=>AF x2 S fun c S=>Ah Pg 141 [a,c] S Q fun d S=>AU 3 1 1 [aI 0] [(0,x1)] S fun e S=>Ap Jw (vc Pg (NG.at_ [1,1,1,1,0,1,0,0]) (Hu.drop 1)) 91 (F8 x0 x1 x2 x3 d e (aI 0)) S (Ak 0 (Av (vc Pg (NG.at_ [1,1,1,1,1]) (Hu.drop 2)) (Ao Pg kL Q)))
def Ae6(x0 x1 x2 x3 x4:AV)(S:Aa)(Q:Aq):Prop:=
 bin .eql 0 x4 (aI 0) S fun a S=>Fi a (AS 4 1 x3 x1 S fun c S=>Ay c S fun d S=>Fi d (AU 3 1 1 [aI 0] [(0,x1)] S fun e S=>Q (.ret e) S) (SI S x2 Q x1 x0 x3)) (SI S x2 Q x1 x0 x3)
theorem eB{x0 x1 x2 x3 x4:AV}{S:Aa}{Q:Aq}(h:Ae6 x0 x1 x2 x3 x4 S Q):Ad Pg 109 [x0,x1,x2,x3,x4] S Q:=
 Bj (n:=91) Hu Tryz.func109 (by kernel_rfl) (Eq.mpr (by kernel_rfl) h)
def gQ(y0 y1 y2 y3 y11 y12 y13:AV)(S:Aa)(KE0:By)(Q:Aq):Prop:=
 AF y12 S fun a S=>bin .lss 0 y13 a S fun c S=>Fi c (AS 3 1 y12 y13 S fun d S=>Ay d S fun e S=>AS 4 1 y2 e S fun f S=>Ay f S fun g S=>un .not g S fun h S=>Fi h (bin .add 0 y13 (aI 1) S fun i S=>KE0 91 (F8 y0 y1 y2 y3 y11 y12 i) S) (AI y0 S fun k S=>shift k 8 S fun l S=>Lf l 3 S fun m S=>AS 26 1 m e S fun n S=>Ay n S fun o S=>AF o S fun p S=>Ap PF (vc Pg (NG.at_ [1,1,1,1,0,1,0,0,1,0,0,1,1,1,0,0]) (Hu.drop 2)) 91 (Ed y0 y1 y2 y3 y11 y12 y13 e o p (aI 0)) S (Ak 2 (Ak 1 (Av (vc Pg (NG.at_ [1,1,1,1,0,1,0,0,1,1]) (Hu.drop 2)) (BV (Hc Jw KE0) (Ak 0 (Av (vc Pg (NG.at_ [1,1,1,1,1]) (Hu.drop 2)) (Ao Pg kL Q))))))))) (Q (.ret .nl) S)
theorem WI{y0 y1 y2 y3 y11:AV}{y120 y130:AV}{S:Aa}{Q:Aq}(I:AV→AV→Aa→Prop)(μ:AV→AV→Aa→Nat)(h0:I y120 y130 S)(hr:Dw (fun y12 y13=>F8 y0 y1 y2 y3 y11 y12 y13) 91 I μ fun y12 y13 S KE0=>gQ y0 y1 y2 y3 y11 y12 y13 S KE0 Q):
 Ap Jw (vc Pg (NG.at_ [1,1,1,1,0,1,0,0]) (Hu.drop 1)) 91 (F8 y0 y1 y2 y3 y11 y120 y130) S (Ak 0 (Av (vc Pg (NG.at_ [1,1,1,1,1]) (Hu.drop 2)) (Ao Pg kL Q))):=IB (E:=fun y12 y13=>F8 y0 y1 y2 y3 y11 y12 y13) 5 6 (fun _ _=>⟨rfl,rfl⟩) (fun _ _ _ _=>by kernel_rfl) h0 hr
def gP(y0 y1 y2 y3 y11 y12 y13 y14 y55 y56 y57:AV)(S:Aa)(KE1:By)(KE0:By)(Q:Aq):Prop:=
 bin .lss 0 y57 y56 S fun a S=>Fi a (AS 3 1 y55 y57 S fun c S=>Ay c S fun d S=>AS 4 1 y3 d S fun e S=>Ay e S fun f S=>Fi f (Ah Pg 142 [y11,y1,y14] S Q fun g S=>AU 3 1 1 [aI 0] [(0,d)] S fun h S=>Bo 3 1 8 g h S fun i S=>Q (.ret i) S) (AS 3 1 y11 d S fun k S=>Ay k S fun l S=>bin .lss 0 l (aI 0) S fun m S=>Fi m (bin .neq 0 d y1 S fun n S=>Fi n (AS 3 1 y11 d S fun o S=>A8 1 o y14 S fun p S=>AU 3 1 1 [aI 0] [(0,d)] S fun q S=>Bo 3 1 8 y12 q S fun r S=>bin .add 0 y57 (aI 1) S fun s S=>KE1 91 (Ed y0 y1 y2 y3 y11 r y13 y14 y55 y56 s) S) (bin .add 0 y57 (aI 1) S fun t S=>KE1 91 (Ed y0 y1 y2 y3 y11 y12 y13 y14 y55 y56 t) S)) (bin .add 0 y57 (aI 1) S fun u S=>KE1 91 (Ed y0 y1 y2 y3 y11 y12 y13 y14 y55 y56 u) S))) (bin .add 0 y13 (aI 1) S fun v S=>KE0 91 (F8 y0 y1 y2 y3 y11 y12 v) S)
theorem WH{y0 y1 y2 y3 y11 y13 y14 y55 y56:AV}{y120 y570:AV}{S:Aa}{KE0:By}{Q:Aq}(I:AV→AV→Aa→Prop)(μ:AV→AV→Aa→Nat)(h0:I y120 y570 S)(hr:Dw (fun y12 y57=>Ed y0 y1 y2 y3 y11 y12 y13 y14 y55 y56 y57) 91 I μ fun y12 y57 S KE1=>gP y0 y1 y2 y3 y11 y12 y13 y14 y55 y56 y57 S KE1 KE0 Q):
 Ap PF (vc Pg (NG.at_ [1,1,1,1,0,1,0,0,1,0,0,1,1,1,0,0]) (Hu.drop 2)) 91 (Ed y0 y1 y2 y3 y11 y120 y13 y14 y55 y56 y570) S (Ak 2 (Ak 1 (Av (vc Pg (NG.at_ [1,1,1,1,0,1,0,0,1,1]) (Hu.drop 2)) (BV (Hc Jw KE0) (Ak 0 (Av (vc Pg (NG.at_ [1,1,1,1,1]) (Hu.drop 2)) (Ao Pg kL Q))))))):=IB (E:=fun y12 y57=>Ed y0 y1 y2 y3 y11 y12 y13 y14 y55 y56 y57) 5 10 (fun _ _=>⟨rfl,rfl⟩) (fun _ _ _ _=>by kernel_rfl) h0 hr
def AeX:Code:=(Tryz.f161.body).getD .skip
def AaS:List ResultVar:=Tryz.f161.results.toList
def HH(y0 y2 y3:AV):List AV:=[y0,y2,y3]
def Ph:List Nat:=[0,2,3]
def YF:List (List Nat):=[Ph,[]]
def AcV(x0:AV)(S:Aa)(Q:Aq):Prop:=
 AF x0 S fun a S=>bin .sub 0 a (aI 1) S fun c S=>Ap Ph (vc Pg (AeX.at_ [1,0,0]) (YF.drop 1)) 28 (HH x0 (aI 0) c) S (Ak 0 (Ao Pg AaS Q))
theorem cE{x0:AV}{S:Aa}{Q:Aq}(h:AcV x0 S Q):Ad Pg 161 [x0] S Q:=
 Bj (n:=28) YF Tryz.func161 (by kernel_rfl) (Eq.mpr (by kernel_rfl) h)
def fH(y0 y2 y3:AV)(S:Aa)(KE0:By)(Q:Aq):Prop:=
 bin .lss 0 y2 y3 S fun a S=>Fi a (Lt S (AS 3 1 y0 y3) fun c=>Lt S (Ay c) fun d=>Lt S (AS 3 1 y0 y2) fun e=>Lt S (Ay e) fun f=>Lt S (AS 3 1 y0 y2) fun g=>A8 1 g d S fun h S=>Lt S (AS 3 1 y0 y3) fun i=>A8 1 i f S fun k S=>bin .add 0 y2 (aI 1) S fun l S=>bin .sub 0 y3 (aI 1) S fun m S=>KE0 28 (HH y0 l m) S) (Q (.ret (.t [])) S)
theorem Wf{y0:AV}{y20 y30:AV}{S:Aa}{Q:Aq}(I:AV→AV→Aa→Prop)(μ:AV→AV→Aa→Nat)(h0:I y20 y30 S)(hr:Dw (fun y2 y3=>HH y0 y2 y3) 28 I μ fun y2 y3 S KE0=>fH y0 y2 y3 S KE0 Q):
 Ap Ph (vc Pg (AeX.at_ [1,0,0]) (YF.drop 1)) 28 (HH y0 y20 y30) S (Ak 0 (Ao Pg AaS Q)):=IB (E:=fun y2 y3=>HH y0 y2 y3) 1 2 (fun _ _=>⟨rfl,rfl⟩) (fun _ _ _ _=>by kernel_rfl) h0 hr
def qN:Code:=(Tryz.f142.body).getD .skip
def AaY:List ResultVar:=Tryz.f142.results.toList
def HK(y0 y1 y2 y7:AV):List AV:=[y0,y1,y2,y7]
def Pp:List Nat:=[0,1,2,7]
def Q2:List (List Nat):=[Pp,[]]
def AdC(x0 x1 x2:AV)(S:Aa)(Q:Aq):Prop:=
 AU 3 1 1 [aI 0] [(0,x2)] S fun a S=>Ap Pp (vc Pg (qN.at_ [1,1,0,0,0]) (Q2.drop 1)) 24 (HK x0 x1 x2 a) S (Ak 0 (Av (vc Pg (qN.at_ [1,1,1]) (Q2.drop 1)) (Ao Pg AaY Q)))
theorem cV{x0 x1 x2:AV}{S:Aa}{Q:Aq}(h:AdC x0 x1 x2 S Q):Ad Pg 142 [x0,x1,x2] S Q:=
 Bj (n:=24) Q2 Tryz.func142 (by kernel_rfl) (Eq.mpr (by kernel_rfl) h)
def fU(y0 y1 y2 y7:AV)(S:Aa)(KE0:By)(Q:Aq):Prop:=
 bin .neq 0 y2 y1 S fun a S=>Fi a (AS 3 1 y0 y2 S fun c S=>Ay c S fun d S=>AU 3 1 1 [aI 0] [(0,d)] S fun e S=>Bo 3 1 8 y7 e S fun f S=>KE0 24 (HK y0 y1 d f) S) (Ah Pg 161 [y7] S Q fun g S=>Q (.ret y7) S)
theorem Wo{y0 y1:AV}{y20 y70:AV}{S:Aa}{Q:Aq}(I:AV→AV→Aa→Prop)(μ:AV→AV→Aa→Nat)(h0:I y20 y70 S)(hr:Dw (fun y2 y7=>HK y0 y1 y2 y7) 24 I μ fun y2 y7 S KE0=>fU y0 y1 y2 y7 S KE0 Q):
 Ap Pp (vc Pg (qN.at_ [1,1,0,0,0]) (Q2.drop 1)) 24 (HK y0 y1 y20 y70) S (Ak 0 (Av (vc Pg (qN.at_ [1,1,1]) (Q2.drop 1)) (Ao Pg AaY Q))):=IB (E:=fun y2 y7=>HK y0 y1 y2 y7) 2 3 (fun _ _=>⟨rfl,rfl⟩) (fun _ _ _ _=>by kernel_rfl) h0 hr
def qZ:Code:=(Tryz.f105.body).getD .skip
def AbA:List ResultVar:=Tryz.f105.results.toList
def F9(y5 y10 y11 y12:AV):List AV:=[y5,y10,y11,y12]
def PH:List Nat:=[5,10,11,12]
def Rf:List (List Nat):=[PH,[]]
def AeA(x0 x1:AV)(S:Aa)(Q:Aq):Prop:=
 Ah Pg 140 [x0] S Q fun a S=>AF x1 S fun c S=>Ap PH (vc Pg (qZ.at_ [1,1,0,1,0,0]) (Rf.drop 1)) 29 (F9 a x1 c (aI 0)) S (Ak 0 (Av (vc Pg (qZ.at_ [1,1,1]) (Rf.drop 1)) (Ao Pg AbA Q)))
theorem eF{x0 x1:AV}{S:Aa}{Q:Aq}(h:AeA x0 x1 S Q):Ad Pg 105 [x0,x1] S Q:=
 Bj (n:=29) Rf Tryz.func105 (by kernel_rfl) (Eq.mpr (by kernel_rfl) h)
def gS(y5 y10 y11 y12:AV)(S:Aa)(KE0:By)(Q:Aq):Prop:=
 bin .lss 0 y12 y11 S fun a S=>Fi a (AS 4 1 y10 y12 S fun c S=>Ay c S fun d S=>AS 4 1 y5 y12 S fun e S=>Ay e S fun f S=>Fi f (AS 4 1 y5 y12 S fun g S=>A8 1 g d S fun h S=>bin .add 0 y12 (aI 1) S fun i S=>KE0 29 (F9 y5 y10 y11 i) S) (AS 4 1 y5 y12 S fun k S=>A8 1 k (.v (.bool false)) S fun l S=>bin .add 0 y12 (aI 1) S fun m S=>KE0 29 (F9 y5 y10 y11 m) S)) (Q (.ret y5) S)
theorem WL{y5 y10 y11:AV}{y120:AV}{S:Aa}{Q:Aq}(I:AV→Aa→Prop)(μ:AV→Aa→Nat)(h0:I y120 S)(hr:BS (fun y12=>F9 y5 y10 y11 y12) 29 I μ fun y12 S KE0=>gS y5 y10 y11 y12 S KE0 Q):
 Ap PH (vc Pg (qZ.at_ [1,1,0,1,0,0]) (Rf.drop 1)) 29 (F9 y5 y10 y11 y120) S (Ak 0 (Av (vc Pg (qZ.at_ [1,1,1]) (Rf.drop 1)) (Ao Pg AbA Q))):=DQ 3 (fun _=>rfl) (fun _ _ _=>by kernel_rfl) h0 hr
def Ae5(x0 x1:AV)(S:Aa)(Q:Aq):Prop:=
 AI x0 S fun a S=>shift a 8 S fun c S=>Lf c 1 S fun d S=>AF d S fun e S=>Ql 4 1 [.v (.bool false)] e e S fun f S=>AS 4 1 f x1 S fun g S=>A8 1 g (.v (.bool true)) S fun h S=>Q (.ret f) S
theorem eA{x0 x1:AV}{S:Aa}{Q:Aq}(h:Ae5 x0 x1 S Q):Ad Pg 110 [x0,x1] S Q:=
 Bj (n:=17) [[]] Tryz.func110 (by kernel_rfl) (Eq.mpr (by kernel_rfl) h)
def AcB(x0 x1:AV)(S:Aa)(Q:Aq):Prop:=
 bin .and 0 x0 (.v (.int .u64 4294967295)) S fun a S=>bin .shr 0 x0 (.v (.int .u64 32)) S fun c S=>bin .and 0 x1 (.v (.int .u64 4294967295)) S fun d S=>bin .shr 0 x1 (.v (.int .u64 32)) S fun e S=>bin .mul 0 a d S fun f S=>bin .mul 0 c d S fun g S=>bin .shr 0 f (.v (.int .u64 32)) S fun h S=>bin .add 0 g h S fun i S=>bin .and 0 i (.v (.int .u64 4294967295)) S fun k S=>bin .shr 0 i (.v (.int .u64 32)) S fun l S=>bin .mul 0 a e S fun m S=>bin .add 0 k m S fun n S=>bin .mul 0 c e S fun o S=>bin .add 0 o l S fun p S=>bin .shr 0 n (.v (.int .u64 32)) S fun q S=>bin .add 0 p q S fun r S=>bin .mul 0 x0 x1 S fun s S=>Q (.ret (.t [r,s])) S
theorem bK{x0 x1:AV}{S:Aa}{Q:Aq}(h:AcB x0 x1 S Q):Ad Pg 183 [x0,x1] S Q:=
 Bj (n:=51) [[]] Tryz.func183 (by kernel_rfl) (Eq.mpr (by kernel_rfl) h)
def AcW(x0 x1:AV)(S:Aa)(Q:Aq):Prop:=
 Ah Pg 183 [x0,x1] S Q fun a S=>AZ a 0 S fun c S=>AZ a 1 S fun d S=>Q (.ret (.t [c,d])) S
theorem cF{x0 x1:AV}{S:Aa}{Q:Aq}(h:AcW x0 x1 S Q):Ad Pg 160 [x0,x1] S Q:=
 Bj (n:=30) [[]] Tryz.func160 (by kernel_rfl) (Eq.mpr (by kernel_rfl) h)
def qO:Code:=(Tryz.f141.body).getD .skip
def AaZ:List ResultVar:=Tryz.f141.results.toList
def JX(y7 y8:AV):List AV:=[y7,y8]
def Pq:List Nat:=[7,8]
def Q3:List (List Nat):=[Pq,[]]
abbrev SH(S:Aa)(Q:Aq):Prop:=XW (.i 9 (.v (.string { data:=#[116,104,101,32,114,101,115,117,108,116,32,111,102,32,40,108,101,110,40,120,41,32,42,32,99,111,117,110,116,41,32,111,118,101,114,102,108,111,119,115] }))) S (fun u S=>Q (.pan u) S)
def AdD(x0 x1:AV)(S:Aa)(Q:Aq):Prop:=
 bin .lss 0 x1 (aI 0) S fun a S=>Fi a (XW (.i 9 (.v (.string { data:=#[99,97,110,110,111,116,32,98,101,32,110,101,103,97,116,105,118,101] }))) S (fun u S=>Q (.pan u) S)) (AF x0 S fun c S=>Cq .u64 c S fun d S=>Cq .u64 x1 S fun e S=>Ah Pg 160 [d,e] S Q fun f S=>AZ f 0 S fun g S=>AZ f 1 S fun h S=>bin .gtr 0 g (.v (.int .u64 0)) S fun k S=>Fi k (SH S Q) (bin .gtr 0 h (.v (.int .u64 9223372036854775807)) S fun l S=>Fi l (SH S Q) (Cq .i64 h S fun m S=>Ql 3 8 [aI 0] m m S fun n S=>mN 3 n x0 S fun o S=>Ap Pq (vc Pg (qO.at_ [1,1,1,1,1,1,0,0,0]) (Q3.drop 1)) 48 (JX n o) S (Ak 0 (Av (vc Pg (qO.at_ [1,1,1,1,1,1,1]) (Q3.drop 1)) (Ao Pg AaZ Q))))))
theorem cW{x0 x1:AV}{S:Aa}{Q:Aq}(h:AdD x0 x1 S Q):Ad Pg 141 [x0,x1] S Q:=
 Bj (n:=48) Q3 Tryz.func141 (by kernel_rfl) (Eq.mpr (by kernel_rfl) h)
def fV(y7 y8:AV)(S:Aa)(KE0:By)(Q:Aq):Prop:=
 AF y7 S fun a S=>bin .lss 0 y8 a S fun c S=>Fi c (Lt S (Hi 3 1 y7 (some y8) none none) fun d=>Lt S (Hi 3 1 y7 none (some y8) none) fun e=>mN 3 d e S fun f S=>Lt S (bin .add 0 y8 f) fun g=>KE0 48 (JX y7 g) S) (Q (.ret y7) S)
theorem Wp{y7:AV}{y80:AV}{S:Aa}{Q:Aq}(I:AV→Aa→Prop)(μ:AV→Aa→Nat)(h0:I y80 S)(hr:BS (fun y8=>JX y7 y8) 48 I μ fun y8 S KE0=>fV y7 y8 S KE0 Q):
 Ap Pq (vc Pg (qO.at_ [1,1,1,1,1,1,0,0,0]) (Q3.drop 1)) 48 (JX y7 y80) S (Ak 0 (Av (vc Pg (qO.at_ [1,1,1,1,1,1,1]) (Q3.drop 1)) (Ao Pg AaZ Q))):=DQ 1 (fun _=>rfl) (fun _ _ _=>by kernel_rfl) h0 hr
def qW:Code:=(Tryz.f112.body).getD .skip
def Ab7:List ResultVar:=Tryz.f112.results.toList
def HM(y3 y16 y17 y18:AV):List AV:=[y3,y16,y17,y18]
def PD:List Nat:=[3,16,17,18]
def Rb:List (List Nat):=[PD,[]]
def Ae3(x0:AV)(S:Aa)(Q:Aq):Prop:=
 Az 32 4 x0 S fun a S=>(fun S0:Aa=>Lq S0 (shift a 0) fun c=>Lq S0 (Ay c) fun d=>Ld S0 144 [d] fun e=>Lq S0 (bin .add 0 (.v (.string { data:=#[40] })) e) fun f=>Lq S0 (bin .add 0 f (.v (.string { data:=#[32] }))) fun g=>Lq S0 (shift a 2) fun h=>Lq S0 (Ay h) fun i=>Ld S0 144 [i] fun k=>Lq S0 (bin .add 0 g k) fun l=>Lf a 3 S fun m S=>AF m S fun n S=>Ap PD (vc Pg (qW.at_ [1,1,0,1,0,0]) (Rb.drop 1)) 29 (HM l m n (aI 0)) S (Ak 0 (Av (vc Pg (qW.at_ [1,1,1]) (Rb.drop 1)) (Ao Pg Ab7 Q)))) S
theorem dY{x0:AV}{S:Aa}{Q:Aq}(h:Ae3 x0 S Q):Ad Pg 112 [x0] S Q:=
 Bj (n:=29) Rb Tryz.func112 (by kernel_rfl) (Eq.mpr (by kernel_rfl) h)
def gM(y3 y16 y17 y18:AV)(S:Aa)(KE0:By)(Q:Aq):Prop:=
 bin .lss 0 y18 y17 S fun c S=>Fi c (AS 32 4 y16 y18 S fun d S=>AB 4 d S fun e S=>Az 32 4 (.a Cy) S fun f S=>A8 4 f e S fun g S=>AB 4 f S fun h S=>Ah Pg 112 [h] S Q fun i S=>bin .add 0 y3 i S fun k S=>bin .add 0 y18 (aI 1) S fun l S=>KE0 29 (HM k y16 y17 l) S) (bin .add 0 y3 (.v (.string { data:=#[41] })) S fun m S=>Q (.ret m) S)
theorem WE{y16 y17:AV}{y30 y180:AV}{S:Aa}{Q:Aq}(I:AV→AV→Aa→Prop)(μ:AV→AV→Aa→Nat)(h0:I y30 y180 S)(hr:Dw (fun y3 y18=>HM y3 y16 y17 y18) 29 I μ fun y3 y18 S KE0=>gM y3 y16 y17 y18 S KE0 Q):
 Ap PD (vc Pg (qW.at_ [1,1,0,1,0,0]) (Rb.drop 1)) 29 (HM y30 y16 y17 y180) S (Ak 0 (Av (vc Pg (qW.at_ [1,1,1]) (Rb.drop 1)) (Ao Pg Ab7 Q))):=IB (E:=fun y3 y18=>HM y3 y16 y17 y18) 0 3 (fun _ _=>⟨rfl,rfl⟩) (fun _ _ _ _=>by kernel_rfl) h0 hr
def m63(x0 x1:AV)(S:Aa)(Q:Aq):Prop:=
 Az 32 4 (.a Cy) S fun c S=>CD NI Cy [(0,x0),(3,x1)] S fun d S=>A8 4 c d S fun e S=>AB 4 c S fun f _=>Q (.ret f) S
theorem oC{x0 x1:AV}{S:Aa}{Q:Aq}(h:m63 x0 x1 S Q):Ad Pg 63 [x0,x1] S Q:=
 Bj (n:=8) [[]] Tryz.func63 (by kernel_rfl) (Eq.mpr (by kernel_rfl) h)
def m62(S:Aa)(Q:Aq):Prop:=
 Az 32 4 (.a Cy) S fun c S=>CD NI Cy [(0,(aI 2))] S fun d S=>A8 4 c d S fun e S=>AB 4 c S fun f _=>Q (.ret f) S
theorem oD{S:Aa}{Q:Aq}(h:m62  S Q):Ad Pg 62 [] S Q:=
 Bj (n:=2) [[]] Tryz.func62 (by kernel_rfl) (Eq.mpr (by kernel_rfl) h)
def Lw:Code:=(Tryz.f150.body).getD .skip
def XP:List ResultVar:=Tryz.f150.results.toList
def HJ(y2 y5 y6:AV):List AV:=[y2,y5,y6]
def H7:List Nat:=[2,5,6]
def HI(y2 y5 y6 y7 y23 y24 y25:AV):List AV:=[y2,y5,y6,y7,y23,y24,y25]
def Pk:List Nat:=[2,5,6,7,23,24,25]
def FR:List (List Nat):=[H7,Pk,[]]
abbrev SG(a:AV)(S:Aa)(x1:AV)(Q:Aq)(c:AV):Prop:=Lf a 1 S fun d S=>Ah Pg 167 [x1,d] S Q fun e S=>Ap H7 (vc Pg (Lw.at_ [1,0,1,1,1,1,0,0,0]) (FR.drop 1)) 47 (HJ a c e) S (Ak 0 (Av (vc Pg (Lw.at_ [1,0,1,1,1,1,1]) (FR.drop 2)) (Kw (Ao Pg XP Q))))
def Ad6(x0 x1:AV)(S:Aa)(Q:Aq):Prop:=
 Az 45 5 x0 S fun a S=>Lf a 4 S fun c S=>AF c S fun d S=>bin .eql 0 d (aI 0) S fun e S=>Fi e (Lf a 1 S fun f S=>AU 41 1 1 [.nl] [(0,f)] S fun g S=>SG a S x1 Q g) (SG a S x1 Q c)
theorem cP{x0 x1:AV}{S:Aa}{Q:Aq}(h:Ad6 x0 x1 S Q):Ad Pg 150 [x0,x1] S Q:=
 Bj (n:=47) FR Tryz.func150 (by kernel_rfl) (Eq.mpr (by kernel_rfl) h)
def fK(y2 y5 y6:AV)(S:Aa)(KE0:By)(Q:Aq):Prop:=
 AF y5 S fun a S=>Ap Pk (vc Pg (Lw.at_ [1,0,1,1,1,1,0,0,0,0,1,0,1,0,0]) (FR.drop 2)) 47 (HI y2 y5 y6 y6 y5 a (aI 0)) S (Ak 2 (Av (vc Pg (Lw.at_ [1,0,1,1,1,1,0,0,0,0,1,1]) (FR.drop 2)) (Ak 1 (BV (Hc H7 KE0) (Ak 0 (Av (vc Pg (Lw.at_ [1,0,1,1,1,1,1]) (FR.drop 2)) (Kw (Ao Pg XP Q))))))))
theorem Wi{y2 y5:AV}{y60:AV}{S:Aa}{Q:Aq}(I:AV→Aa→Prop)(μ:AV→Aa→Nat)(h0:I y60 S)(hr:BS (fun y6=>HJ y2 y5 y6) 47 I μ fun y6 S KE0=>fK y2 y5 y6 S KE0 Q):
 Ap H7 (vc Pg (Lw.at_ [1,0,1,1,1,1,0,0,0]) (FR.drop 1)) 47 (HJ y2 y5 y60) S (Ak 0 (Av (vc Pg (Lw.at_ [1,0,1,1,1,1,1]) (FR.drop 2)) (Kw (Ao Pg XP Q)))):=DQ 2 (fun _=>rfl) (fun _ _ _=>by kernel_rfl) h0 hr
def fJ(y2 y5 y6 y7 y23 y24 y25:AV)(S:Aa)(KE1:By)(KE0:By)(Q:Aq):Prop:=
 bin .lss 0 y25 y24 S fun a S=>Fi a (AS 41 1 y23 y25 S fun c S=>Ay c S fun d S=>(fun S0:Aa=>Lq S0 (AB 5 y2) fun e=>Lq S0 (AB 5 y2) fun f=>Ld S0 167 [y6,d] fun g=>Ld S0 162 [f,y6,g] fun h=>Ld S0 168 [e,h] fun i=>Ld S0 167 [y6,i] fun k=>Ah Pg 169 [k,.v (.bool true)] S Q fun l S=>un .not l S fun m S=>Fi m (Q (.ret k) S) (bin .add 0 y25 (aI 1) S fun n S=>KE1 47 (HI y2 y5 k y7 y23 y24 n) S)) S) (Ah Pg 170 [y7,y6] S Q fun o S=>Fi o (Q (.ret y6) S) (KE0 47 (HJ y2 y5 y6) S))
theorem Wh{y2 y5 y7 y23 y24:AV}{y60 y250:AV}{S:Aa}{KE0:By}{Q:Aq}(I:AV→AV→Aa→Prop)(μ:AV→AV→Aa→Nat)(h0:I y60 y250 S)(hr:Dw (fun y6 y25=>HI y2 y5 y6 y7 y23 y24 y25) 47 I μ fun y6 y25 S KE1=>fJ y2 y5 y6 y7 y23 y24 y25 S KE1 KE0 Q):
 Ap Pk (vc Pg (Lw.at_ [1,0,1,1,1,1,0,0,0,0,1,0,1,0,0]) (FR.drop 2)) 47 (HI y2 y5 y60 y7 y23 y24 y250) S (Ak 2 (Av (vc Pg (Lw.at_ [1,0,1,1,1,1,0,0,0,0,1,1]) (FR.drop 2)) (Ak 1 (BV (Hc H7 KE0) (Ak 0 (Av (vc Pg (Lw.at_ [1,0,1,1,1,1,1]) (FR.drop 2)) (Kw (Ao Pg XP Q)))))))):=IB (E:=fun y6 y25=>HI y2 y5 y6 y7 y23 y24 y25) 2 6 (fun _ _=>⟨rfl,rfl⟩) (fun _ _ _ _=>by kernel_rfl) h0 hr
def xE(x0 x1:AV)(S:Aa)(Q:Aq):Prop:=
 Az 45 5 x0 S fun a S=>AB 5 a S fun c S=>AU 41 1 1 [.nl] [(0,x1)] S fun d S=>Ah Pg 149 [c,d] S Q fun e S=>un .not e S fun f S=>Fi f (Q (.ret .nl) S) (AB 5 a S fun g S=>Ah Pg 168 [g,x1] S Q fun h S=>Q (.ret h) S)
theorem RJ{x0 x1:AV}{S:Aa}{Q:Aq}(h:xE x0 x1 S Q):Ad Pg 189 [x0,x1] S Q:=
 Bj (n:=13) [[]] Tryz.func189 (by kernel_rfl) (Eq.mpr (by kernel_rfl) h)
def xG(x0 x1:AV)(S:Aa)(Q:Aq):Prop:=
 Az 45 5 x0 S fun a S=>AB 5 a S fun c S=>AU 41 1 1 [.nl] [(0,x1)] S fun d S=>Ah Pg 149 [c,d] S Q fun e S=>un .not e S fun f S=>Fi f (Q (.ret .nl) S) (AB 5 a S fun g S=>Ah Pg 150 [g,x1] S Q fun h S=>Q (.ret h) S)
theorem RL{x0 x1:AV}{S:Aa}{Q:Aq}(h:xG x0 x1 S Q):Ad Pg 131 [x0,x1] S Q:=
 Bj (n:=13) [[]] Tryz.func131 (by kernel_rfl) (Eq.mpr (by kernel_rfl) h)
def xF(x0 x1 x2:AV)(S:Aa)(Q:Aq):Prop:=
 Az 45 5 x0 S fun a S=>AB 5 a S fun c S=>AU 41 1 2 [.nl] [(0,x1),(1,x2)] S fun d S=>Ah Pg 149 [c,d] S Q fun e S=>un .not e S fun f S=>Fi f (Q (.ret .nl) S) (AB 5 a S fun g S=>Ah Pg 162 [g,x1,x2] S Q fun h S=>Q (.ret h) S)
theorem RK{x0 x1 x2:AV}{S:Aa}{Q:Aq}(h:xF x0 x1 x2 S Q):Ad Pg 143 [x0,x1,x2] S Q:=
 Bj (n:=17) [[]] Tryz.func143 (by kernel_rfl) (Eq.mpr (by kernel_rfl) h)
def qC:Code:=(Tryz.f188.body).getD .skip
def AaL:List ResultVar:=Tryz.f188.results.toList
def JQ(y0 y1 y7 y8:AV):List AV:=[y0,y1,y7,y8]
def O6:List Nat:=[0,1,7,8]
def QR:List (List Nat):=[O6,[]]
def Ac7(x0 x1:AV)(S:Aa)(Q:Aq):Prop:=
 AF x0 S fun a S=>Ap O6 (vc Pg (qC.at_ [1,0,1,0,0]) (QR.drop 1)) 19 (JQ x0 x1 a (aI 0)) S (Ak 0 (Av (vc Pg (qC.at_ [1,1]) (QR.drop 1)) (Ao Pg AaL Q)))
theorem bG{x0 x1:AV}{S:Aa}{Q:Aq}(h:Ac7 x0 x1 S Q):Ad Pg 188 [x0,x1] S Q:=
 Bj (n:=19) QR Tryz.func188 (by kernel_rfl) (Eq.mpr (by kernel_rfl) h)
def eU(y0 y1 y7 y8:AV)(S:Aa)(KE0:By)(Q:Aq):Prop:=
 bin .lss 0 y8 y7 S fun a S=>Fi a (AS 4 1 y0 y8 S fun c S=>Ay c S fun d S=>bin .eql 1 y1 d S fun e S=>Fi e (Q (.ret y8) S) (bin .add 0 y8 (aI 1) S fun f S=>KE0 19 (JQ y0 y1 y7 f) S)) (Q (.ret (.v (.int .i64 (-1)))) S)
theorem V2{y0 y1 y7:AV}{y80:AV}{S:Aa}{Q:Aq}(I:AV→Aa→Prop)(μ:AV→Aa→Nat)(h0:I y80 S)(hr:BS (fun y8=>JQ y0 y1 y7 y8) 19 I μ fun y8 S KE0=>eU y0 y1 y7 y8 S KE0 Q):
 Ap O6 (vc Pg (qC.at_ [1,0,1,0,0]) (QR.drop 1)) 19 (JQ y0 y1 y7 y80) S (Ak 0 (Av (vc Pg (qC.at_ [1,1]) (QR.drop 1)) (Ao Pg AaL Q))):=DQ 3 (fun _=>rfl) (fun _ _ _=>by kernel_rfl) h0 hr
def AcO(x0 x1:AV)(S:Aa)(Q:Aq):Prop:=
 Ah Pg 188 [x0,x1] S Q fun a S=>bin .geq 0 a (aI 0) S fun c S=>Q (.ret c) S
theorem bZ{x0 x1:AV}{S:Aa}{Q:Aq}(h:AcO x0 x1 S Q):Ad Pg 169 [x0,x1] S Q:=
 Bj (n:=9) [[]] Tryz.func169 (by kernel_rfl) (Eq.mpr (by kernel_rfl) h)
def qF:Code:=(Tryz.f170.body).getD .skip
def AaP:List ResultVar:=Tryz.f170.results.toList
def JU(y0 y1 y12 y13:AV):List AV:=[y0,y1,y12,y13]
def Pb:List Nat:=[0,1,12,13]
def QU:List (List Nat):=[Pb,[]]
def AcN(x0 x1:AV)(S:Aa)(Q:Aq):Prop:=
 AF x0 S fun a S=>AF x1 S fun c S=>bin .neq 0 a c S fun d S=>Fi d (Q (.ret (.v (.bool false))) S) (AF x0 S fun e S=>Ap Pb (vc Pg (qF.at_ [1,1,0,1,0,0]) (QU.drop 1)) 26 (JU x0 x1 e (aI 0)) S (Ak 0 (Av (vc Pg (qF.at_ [1,1,1]) (QU.drop 1)) (Ao Pg AaP Q))))
theorem bY{x0 x1:AV}{S:Aa}{Q:Aq}(h:AcN x0 x1 S Q):Ad Pg 170 [x0,x1] S Q:=
 Bj (n:=26) QU Tryz.func170 (by kernel_rfl) (Eq.mpr (by kernel_rfl) h)
def fA(y0 y1 y12 y13:AV)(S:Aa)(KE0:By)(Q:Aq):Prop:=
 bin .lss 0 y13 y12 S fun a S=>Fi a ((fun S0:Aa=>Lq S0 (AS 4 1 y0 y13) fun c=>Lq S0 (Ay c) fun d=>Lq S0 (AS 4 1 y1 y13) fun e=>Lq S0 (Ay e) fun f=>Lq S0 (bin .neq 1 d f) fun g=>Fi g (Q (.ret (.v (.bool false))) S) (bin .add 0 y13 (aI 1) S fun h S=>KE0 26 (JU y0 y1 y12 h) S)) S) (Q (.ret (.v (.bool true))) S)
theorem V8{y0 y1 y12:AV}{y130:AV}{S:Aa}{Q:Aq}(I:AV→Aa→Prop)(μ:AV→Aa→Nat)(h0:I y130 S)(hr:BS (fun y13=>JU y0 y1 y12 y13) 26 I μ fun y13 S KE0=>fA y0 y1 y12 y13 S KE0 Q):
 Ap Pb (vc Pg (qF.at_ [1,1,0,1,0,0]) (QU.drop 1)) 26 (JU y0 y1 y12 y130) S (Ak 0 (Av (vc Pg (qF.at_ [1,1,1]) (QU.drop 1)) (Ao Pg AaP Q))):=DQ 3 (fun _=>rfl) (fun _ _ _=>by kernel_rfl) h0 hr
def Ka:Code:=(Tryz.f162.body).getD .skip
def VO:List ResultVar:=Tryz.f162.results.toList
def F4(y1 y3 y7 y8 y19 y20 y21:AV):List AV:=[y1,y3,y7,y8,y19,y20,y21]
def Pf:List Nat:=[1,3,7,8,19,20,21]
def HG(y1 y7 y8 y11 y12:AV):List AV:=[y1,y7,y8,y11,y12]
def Js:List Nat:=[1,7,8,11,12]
def EV(y1 y7 y8 y11 y12 y46 y47 y48:AV):List AV:=[y1,y7,y8,y11,y12,y46,y47,y48]
def Pe:List Nat:=[1,7,8,11,12,46,47,48]
def EJ:List (List Nat):=[Pf,Js,Pe,[]]
def AcU(x0 x1 x2:AV)(S:Aa)(Q:Aq):Prop:=
 Az 45 5 x0 S fun a S=>Lf a 1 S fun c S=>Ah Pg 167 [x2,c] S Q fun d S=>AF d S fun e S=>Ap Pf (vc Pg (Ka.at_ [1,1,1,0,1,0,0]) (EJ.drop 1)) 72 (F4 x1 a d .nl d e (aI 0)) S (Ak 0 (Av (vc Pg (Ka.at_ [1,1,1,1]) (EJ.drop 1)) (Ao Pg VO Q)))
theorem cD{x0 x1 x2:AV}{S:Aa}{Q:Aq}(h:AcU x0 x1 x2 S Q):Ad Pg 162 [x0,x1,x2] S Q:=
 Bj (n:=72) EJ Tryz.func162 (by kernel_rfl) (Eq.mpr (by kernel_rfl) h)
def fG(y1 y3 y7 y8 y19 y20 y21:AV)(S:Aa)(KE0:By)(Q:Aq):Prop:=
 bin .lss 0 y21 y20 S fun a S=>Fi a (AS 4 1 y19 y21 S fun c S=>Ay c S fun d S=>Fi d (AU 3 1 1 [aI 0] [(0,y21)] S fun e S=>Bo 3 1 8 y8 e S fun f S=>bin .add 0 y21 (aI 1) S fun g S=>KE0 72 (F4 y1 y3 y7 f y19 y20 g) S) (bin .add 0 y21 (aI 1) S fun h S=>KE0 72 (F4 y1 y3 y7 y8 y19 y20 h) S)) (AB 5 y3 S fun i S=>Ah Pg 184 [i] S Q fun k S=>Ap Js (vc Pg (Ka.at_ [1,1,1,1,1,0,1,0,0]) (EJ.drop 2)) 72 (HG y1 y7 y8 k (aI 0)) S (Ak 2 (Av (vc Pg (Ka.at_ [1,1,1,1,1,1]) (EJ.drop 3)) (Ao Pg VO Q))))
theorem We{y1 y3 y7 y19 y20:AV}{y80 y210:AV}{S:Aa}{Q:Aq}(I:AV→AV→Aa→Prop)(μ:AV→AV→Aa→Nat)(h0:I y80 y210 S)(hr:Dw (fun y8 y21=>F4 y1 y3 y7 y8 y19 y20 y21) 72 I μ fun y8 y21 S KE0=>fG y1 y3 y7 y8 y19 y20 y21 S KE0 Q):
 Ap Pf (vc Pg (Ka.at_ [1,1,1,0,1,0,0]) (EJ.drop 1)) 72 (F4 y1 y3 y7 y80 y19 y20 y210) S (Ak 0 (Av (vc Pg (Ka.at_ [1,1,1,1]) (EJ.drop 1)) (Ao Pg VO Q))):=IB (E:=fun y8 y21=>F4 y1 y3 y7 y8 y19 y20 y21) 3 6 (fun _ _=>⟨rfl,rfl⟩) (fun _ _ _ _=>by kernel_rfl) h0 hr
def fE(y1 y7 y8 y11 y12:AV)(S:Aa)(KE1:By)(Q:Aq):Prop:=
 AF y8 S fun a S=>bin .lss 0 y12 a S fun c S=>Fi c (AS 3 1 y8 y12 S fun d S=>Ay d S fun e S=>AS 26 1 y11 e S fun f S=>Ay f S fun g S=>AF g S fun h S=>Ap Pe (vc Pg (Ka.at_ [1,1,1,1,1,0,1,0,0,1,0,0,1,0,0]) (EJ.drop 3)) 72 (EV y1 y7 y8 y11 y12 g h (aI 0)) S (Ak 4 (Ak 3 (Av (vc Pg (Ka.at_ [1,1,1,1,1,0,1,0,0,1,1]) (EJ.drop 3)) (BV (Hc Js KE1) (Ak 2 (Av (vc Pg (Ka.at_ [1,1,1,1,1,1]) (EJ.drop 3)) (Ao Pg VO Q)))))))) (Q (.ret y7) S)
theorem Wd{y1 y7 y11:AV}{y80 y120:AV}{S:Aa}{Q:Aq}(I:AV→AV→Aa→Prop)(μ:AV→AV→Aa→Nat)(h0:I y80 y120 S)(hr:Dw (fun y8 y12=>HG y1 y7 y8 y11 y12) 72 I μ fun y8 y12 S KE1=>fE y1 y7 y8 y11 y12 S KE1 Q):
 Ap Js (vc Pg (Ka.at_ [1,1,1,1,1,0,1,0,0]) (EJ.drop 2)) 72 (HG y1 y7 y80 y11 y120) S (Ak 2 (Av (vc Pg (Ka.at_ [1,1,1,1,1,1]) (EJ.drop 3)) (Ao Pg VO Q))):=IB (E:=fun y8 y12=>HG y1 y7 y8 y11 y12) 2 4 (fun _ _=>⟨rfl,rfl⟩) (fun _ _ _ _=>by kernel_rfl) h0 hr
def fD(y1 y7 y8 y11 y12 y46 y47 y48:AV)(S:Aa)(KE2:By)(KE1:By)(Q:Aq):Prop:=
 bin .lss 0 y48 y47 S fun a S=>Fi a (AS 3 1 y46 y48 S fun c S=>Ay c S fun d S=>AS 4 1 y7 d S fun e S=>Ay e S fun f S=>un .not f S fun g S=>Fi g (AS 4 1 y1 d S fun h S=>Ay h S fun i S=>Fi i (AS 4 1 y7 d S fun k S=>A8 1 k (.v (.bool true)) S fun l S=>AU 3 1 1 [aI 0] [(0,d)] S fun m S=>Bo 3 1 8 y8 m S fun n S=>bin .add 0 y48 (aI 1) S fun o S=>KE2 72 (EV y1 y7 n y11 y12 y46 y47 o) S) (bin .add 0 y48 (aI 1) S fun p S=>KE2 72 (EV y1 y7 y8 y11 y12 y46 y47 p) S)) (bin .add 0 y48 (aI 1) S fun q S=>KE2 72 (EV y1 y7 y8 y11 y12 y46 y47 q) S)) (bin .add 0 y12 (aI 1) S fun r S=>KE1 72 (HG y1 y7 y8 y11 r) S)
theorem Wb{y1 y7 y11 y12 y46 y47:AV}{y80 y480:AV}{S:Aa}{KE1:By}{Q:Aq}(I:AV→AV→Aa→Prop)(μ:AV→AV→Aa→Nat)(h0:I y80 y480 S)(hr:Dw (fun y8 y48=>EV y1 y7 y8 y11 y12 y46 y47 y48) 72 I μ fun y8 y48 S KE2=>fD y1 y7 y8 y11 y12 y46 y47 y48 S KE2 KE1 Q):
 Ap Pe (vc Pg (Ka.at_ [1,1,1,1,1,0,1,0,0,1,0,0,1,0,0]) (EJ.drop 3)) 72 (EV y1 y7 y80 y11 y12 y46 y47 y480) S (Ak 4 (Ak 3 (Av (vc Pg (Ka.at_ [1,1,1,1,1,0,1,0,0,1,1]) (EJ.drop 3)) (BV (Hc Js KE1) (Ak 2 (Av (vc Pg (Ka.at_ [1,1,1,1,1,1]) (EJ.drop 3)) (Ao Pg VO Q))))))):=IB (E:=fun y8 y48=>EV y1 y7 y8 y11 y12 y46 y47 y48) 2 7 (fun _ _=>⟨rfl,rfl⟩) (fun _ _ _ _=>by kernel_rfl) h0 hr
def NF:Code:=(Tryz.f184.body).getD .skip
def kJ:List ResultVar:=Tryz.f184.results.toList
def JS(y1 y3 y13 y14 y15:AV):List AV:=[y1,y3,y13,y14,y15]
def Jr:List Nat:=[1,3,13,14,15]
def HE(y1 y3 y4 y13 y14 y15 y20 y21 y22:AV):List AV:=[y1,y3,y4,y13,y14,y15,y20,y21,y22]
def O8:List Nat:=[1,3,4,13,14,15,20,21,22]
def Ht:List (List Nat):=[Jr,O8,[]]
def AcA(x0:AV)(S:Aa)(Q:Aq):Prop:=
 Az 45 5 x0 S fun a S=>Lf a 3 S fun c S=>AF c S fun d S=>Ql 26 24 [.nl] d d S fun e S=>Lf a 3 S fun f S=>AF f S fun g S=>Ap Jr (vc Pg (NF.at_ [1,1,0,1,0,0]) (Ht.drop 1)) 44 (JS a e f g (aI 0)) S (Ak 0 (Av (vc Pg (NF.at_ [1,1,1]) (Ht.drop 2)) (Ao Pg kJ Q)))
theorem bJ{x0:AV}{S:Aa}{Q:Aq}(h:AcA x0 S Q):Ad Pg 184 [x0] S Q:=
 Bj (n:=44) Ht Tryz.func184 (by kernel_rfl) (Eq.mpr (by kernel_rfl) h)
def eX(y1 y3 y13 y14 y15:AV)(S:Aa)(KE0:By)(Q:Aq):Prop:=
 bin .lss 0 y15 y14 S fun a S=>Fi a (AS 26 1 y13 y15 S fun c S=>Ay c S fun d S=>AF d S fun e S=>Ap O8 (vc Pg (NF.at_ [1,1,0,1,0,0,1,1,0,0,1,1,0,0]) (Ht.drop 2)) 44 (HE y1 y3 y15 y13 y14 y15 d e (aI 0)) S (Ak 2 (Ak 1 (Av (vc Pg (NF.at_ [1,1,0,1,0,0,1,1,1]) (Ht.drop 2)) (BV (Hc Jr KE0) (Ak 0 (Av (vc Pg (NF.at_ [1,1,1]) (Ht.drop 2)) (Ao Pg kJ Q)))))))) (Q (.ret y3) S)
theorem V5{y1 y3 y13 y14:AV}{y150:AV}{S:Aa}{Q:Aq}(I:AV→Aa→Prop)(μ:AV→Aa→Nat)(h0:I y150 S)(hr:BS (fun y15=>JS y1 y3 y13 y14 y15) 44 I μ fun y15 S KE0=>eX y1 y3 y13 y14 y15 S KE0 Q):
 Ap Jr (vc Pg (NF.at_ [1,1,0,1,0,0]) (Ht.drop 1)) 44 (JS y1 y3 y13 y14 y150) S (Ak 0 (Av (vc Pg (NF.at_ [1,1,1]) (Ht.drop 2)) (Ao Pg kJ Q))):=DQ 4 (fun _=>rfl) (fun _ _ _=>by kernel_rfl) h0 hr
def eW(y1 y3 y4 y13 y14 y15 y20 y21 y22:AV)(S:Aa)(KE1:By)(KE0:By)(Q:Aq):Prop:=
 bin .lss 0 y22 y21 S fun a S=>Fi a (AS 3 1 y20 y22 S fun c S=>Ay c S fun d S=>Lf y1 1 S fun e S=>AS 4 1 e y4 S fun f S=>Ay f S fun g S=>Fi g (AS 26 1 y3 d S fun h S=>Ay h S fun i S=>AU 3 1 1 [aI 0] [(0,y4)] S fun k S=>Bo 3 1 8 i k S fun l S=>AS 26 1 y3 d S fun m S=>A8 1 m l S fun n S=>bin .add 0 y22 (aI 1) S fun o S=>KE1 44 (HE y1 y3 y4 y13 y14 y15 y20 y21 o) S) (bin .add 0 y22 (aI 1) S fun p S=>KE1 44 (HE y1 y3 y4 y13 y14 y15 y20 y21 p) S)) (bin .add 0 y15 (aI 1) S fun q S=>KE0 44 (JS y1 y3 y13 y14 q) S)
theorem V4{y1 y3 y4 y13 y14 y15 y20 y21:AV}{y220:AV}{S:Aa}{KE0:By}{Q:Aq}(I:AV→Aa→Prop)(μ:AV→Aa→Nat)(h0:I y220 S)(hr:BS (fun y22=>HE y1 y3 y4 y13 y14 y15 y20 y21 y22) 44 I μ fun y22 S KE1=>eW y1 y3 y4 y13 y14 y15 y20 y21 y22 S KE1 KE0 Q):
 Ap O8 (vc Pg (NF.at_ [1,1,0,1,0,0,1,1,0,0,1,1,0,0]) (Ht.drop 2)) 44 (HE y1 y3 y4 y13 y14 y15 y20 y21 y220) S (Ak 2 (Ak 1 (Av (vc Pg (NF.at_ [1,1,0,1,0,0,1,1,1]) (Ht.drop 2)) (BV (Hc Jr KE0) (Ak 0 (Av (vc Pg (NF.at_ [1,1,1]) (Ht.drop 2)) (Ao Pg kJ Q))))))):=DQ 8 (fun _=>rfl) (fun _ _ _=>by kernel_rfl) h0 hr
def AdE(x0:AV)(S:Aa)(Q:Aq):Prop:=
 Yc .eql 2 x0 S fun a S=>Fi a (Q (.ret .nl) S) (AU 4 1 0 [.v (.bool false)] [] S fun c S=>Bo 4 1 1 c x0 S fun d S=>Q (.ret d) S)
theorem cX{x0:AV}{S:Aa}{Q:Aq}(h:AdE x0 S Q):Ad Pg 140 [x0] S Q:=
 Bj (n:=8) [[]] Tryz.func140 (by kernel_rfl) (Eq.mpr (by kernel_rfl) h)
def qH:Code:=(Tryz.f167.body).getD .skip
def AaR:List ResultVar:=Tryz.f167.results.toList
def F3(y5 y10 y11 y12:AV):List AV:=[y5,y10,y11,y12]
def Pd:List Nat:=[5,10,11,12]
def QW:List (List Nat):=[Pd,[]]
def AcQ(x0 x1:AV)(S:Aa)(Q:Aq):Prop:=
 Ah Pg 140 [x0] S Q fun a S=>AF x1 S fun c S=>Ap Pd (vc Pg (qH.at_ [1,1,0,1,0,0]) (QW.drop 1)) 29 (F3 a x1 c (aI 0)) S (Ak 0 (Av (vc Pg (qH.at_ [1,1,1]) (QW.drop 1)) (Ao Pg AaR Q)))
theorem b9{x0 x1:AV}{S:Aa}{Q:Aq}(h:AcQ x0 x1 S Q):Ad Pg 167 [x0,x1] S Q:=
 Bj (n:=29) QW Tryz.func167 (by kernel_rfl) (Eq.mpr (by kernel_rfl) h)
def fC(y5 y10 y11 y12:AV)(S:Aa)(KE0:By)(Q:Aq):Prop:=
 bin .lss 0 y12 y11 S fun a S=>Fi a (AS 4 1 y10 y12 S fun c S=>Ay c S fun d S=>AS 4 1 y5 y12 S fun e S=>Ay e S fun f S=>Fi f (AS 4 1 y5 y12 S fun g S=>A8 1 g d S fun h S=>bin .add 0 y12 (aI 1) S fun i S=>KE0 29 (F3 y5 y10 y11 i) S) (AS 4 1 y5 y12 S fun k S=>A8 1 k (.v (.bool false)) S fun l S=>bin .add 0 y12 (aI 1) S fun m S=>KE0 29 (F3 y5 y10 y11 m) S)) (Q (.ret y5) S)
theorem Wa{y5 y10 y11:AV}{y120:AV}{S:Aa}{Q:Aq}(I:AV→Aa→Prop)(μ:AV→Aa→Nat)(h0:I y120 S)(hr:BS (fun y12=>F3 y5 y10 y11 y12) 29 I μ fun y12 S KE0=>fC y5 y10 y11 y12 S KE0 Q):
 Ap Pd (vc Pg (qH.at_ [1,1,0,1,0,0]) (QW.drop 1)) 29 (F3 y5 y10 y11 y120) S (Ak 0 (Av (vc Pg (qH.at_ [1,1,1]) (QW.drop 1)) (Ao Pg AaR Q))):=DQ 3 (fun _=>rfl) (fun _ _ _=>by kernel_rfl) h0 hr
def Ac8(x0 x1:AV)(S:Aa)(Q:Aq):Prop:=
 Ay x1 S fun a S=>AS 4 1 a x0 S fun c S=>Ay c S fun d S=>Q (.ret d) S
theorem bH{x0 x1:AV}{S:Aa}{Q:Aq}(h:Ac8 x0 x1 S Q):Ad Pg 187 [x0,x1] S Q:=
 Bj (n:=8) [[]] Tryz.func187 (by kernel_rfl) (Eq.mpr (by kernel_rfl) h)
def qG:Code:=(Tryz.f168.body).getD .skip
def AaQ:List ResultVar:=Tryz.f168.results.toList
def F2(y2 y3 y5 y12 y13 y14:AV):List AV:=[y2,y3,y5,y12,y13,y14]
def Pc:List Nat:=[2,3,5,12,13,14]
def QV:List (List Nat):=[Pc,[]]
def AcP(x0 x1:AV)(S:Aa)(Q:Aq):Prop:=
 Az 45 5 x0 S fun a S=>Az 41 1 x1 S fun c S=>Ay c S fun d S=>AF d S fun e S=>Ql 4 1 [.v (.bool false)] e e S fun f S=>Lf a 3 S fun g S=>AF g S fun h S=>Ap Pc (vc Pg (qG.at_ [1,1,0,1,0,0]) (QV.drop 1)) 34 (F2 a c f g h (aI 0)) S (Ak 0 (Av (vc Pg (qG.at_ [1,1,1]) (QV.drop 1)) (Ao Pg AaQ Q)))
theorem b0{x0 x1:AV}{S:Aa}{Q:Aq}(h:AcP x0 x1 S Q):Ad Pg 168 [x0,x1] S Q:=
 Bj (n:=34) QV Tryz.func168 (by kernel_rfl) (Eq.mpr (by kernel_rfl) h)
def fB(y2 y3 y5 y12 y13 y14:AV)(S:Aa)(KE0:By)(Q:Aq):Prop:=
 bin .lss 0 y14 y13 S fun a S=>Fi a (AS 26 1 y12 y14 S fun c S=>Ay c S fun d S=>Lf y2 1 S fun e S=>AS 4 1 e y14 S fun g S=>Ay g S fun h S=>Fi h (Ah Pg 100 [d,(.f (.func 187) [] [y3])] S Q fun i S=>AS 4 1 y5 y14 S fun k S=>A8 1 k i S fun l S=>bin .add 0 y14 (aI 1) S fun m S=>KE0 34 (F2 y2 y3 y5 y12 y13 m) S) (AS 4 1 y5 y14 S fun n S=>A8 1 n (.v (.bool false)) S fun o S=>bin .add 0 y14 (aI 1) S fun p S=>KE0 34 (F2 y2 y3 y5 y12 y13 p) S)) (Q (.ret y5) S)
theorem V9{y2 y3 y5 y12 y13:AV}{y140:AV}{S:Aa}{Q:Aq}(I:AV→Aa→Prop)(μ:AV→Aa→Nat)(h0:I y140 S)(hr:BS (fun y14=>F2 y2 y3 y5 y12 y13 y14) 34 I μ fun y14 S KE0=>fB y2 y3 y5 y12 y13 y14 S KE0 Q):
 Ap Pc (vc Pg (qG.at_ [1,1,0,1,0,0]) (QV.drop 1)) 34 (F2 y2 y3 y5 y12 y13 y140) S (Ak 0 (Av (vc Pg (qG.at_ [1,1,1]) (QV.drop 1)) (Ao Pg AaQ Q))):=DQ 5 (fun _=>rfl) (fun _ _ _=>by kernel_rfl) h0 hr
def qD:Code:=(Tryz.f186.body).getD .skip
def AaM:List ResultVar:=Tryz.f186.results.toList
def JR(y0 y1 y7 y8:AV):List AV:=[y0,y1,y7,y8]
def O7:List Nat:=[0,1,7,8]
def QS:List (List Nat):=[O7,[]]
def Ac9(x0 x1:AV)(S:Aa)(Q:Aq):Prop:=
 AF x0 S fun a S=>Ap O7 (vc Pg (qD.at_ [1,0,1,0,0]) (QS.drop 1)) 19 (JR x0 x1 a (aI 0)) S (Ak 0 (Av (vc Pg (qD.at_ [1,1]) (QS.drop 1)) (Ao Pg AaM Q)))
theorem bI{x0 x1:AV}{S:Aa}{Q:Aq}(h:Ac9 x0 x1 S Q):Ad Pg 186 [x0,x1] S Q:=
 Bj (n:=19) QS Tryz.func186 (by kernel_rfl) (Eq.mpr (by kernel_rfl) h)
def eV(y0 y1 y7 y8:AV)(S:Aa)(KE0:By)(Q:Aq):Prop:=
 bin .lss 0 y8 y7 S fun a S=>Fi a (AS 41 1 y0 y8 S fun c S=>Ay c S fun d S=>Bg Pg y1 [d] S (fun e S=>Fi e (Q (.ret y8) S) (bin .add 0 y8 (aI 1) S fun f S=>KE0 19 (JR y0 y1 y7 f) S)) (fun u S=>Q (.pan u) S)) (Q (.ret (.v (.int .i64 (-1)))) S)
theorem V3{y0 y1 y7:AV}{y80:AV}{S:Aa}{Q:Aq}(I:AV→Aa→Prop)(μ:AV→Aa→Nat)(h0:I y80 S)(hr:BS (fun y8=>JR y0 y1 y7 y8) 19 I μ fun y8 S KE0=>eV y0 y1 y7 y8 S KE0 Q):
 Ap O7 (vc Pg (qD.at_ [1,0,1,0,0]) (QS.drop 1)) 19 (JR y0 y1 y7 y80) S (Ak 0 (Av (vc Pg (qD.at_ [1,1]) (QS.drop 1)) (Ao Pg AaM Q))):=DQ 3 (fun _=>rfl) (fun _ _ _=>by kernel_rfl) h0 hr
def AcS(x0 x1:AV)(S:Aa)(Q:Aq):Prop:=
 Ah Pg 186 [x0,x1] S Q fun a S=>bin .geq 0 a (aI 0) S fun c S=>Q (.ret c) S
theorem cB{x0 x1:AV}{S:Aa}{Q:Aq}(h:AcS x0 x1 S Q):Ad Pg 165 [x0,x1] S Q:=
 Bj (n:=9) [[]] Tryz.func165 (by kernel_rfl) (Eq.mpr (by kernel_rfl) h)
def AcT(x0 x1:AV)(S:Aa)(Q:Aq):Prop:=
 AF x0 S fun a S=>Ay x1 S fun c S=>bin .neq 0 a c S fun d S=>Q (.ret d) S
theorem cC{x0 x1:AV}{S:Aa}{Q:Aq}(h:AcT x0 x1 S Q):Ad Pg 164 [x0,x1] S Q:=
 Bj (n:=8) [[]] Tryz.func164 (by kernel_rfl) (Eq.mpr (by kernel_rfl) h)
def AcR(x0 x1:AV)(S:Aa)(Q:Aq):Prop:=
 bin .lss 0 x0 (aI 0) S fun a S=>Fi a (Q (.ret (.v (.bool true))) S) (Ay x1 S fun c S=>bin .geq 0 x0 c S fun d S=>Q (.ret d) S)
theorem cA{x0 x1:AV}{S:Aa}{Q:Aq}(h:AcR x0 x1 S Q):Ad Pg 166 [x0,x1] S Q:=
 Bj (n:=11) [[]] Tryz.func166 (by kernel_rfl) (Eq.mpr (by kernel_rfl) h)
def qJ:Code:=(Tryz.f149.body).getD .skip
def AaU:List ResultVar:=Tryz.f149.results.toList
def JV(y5 y30 y31 y32:AV):List AV:=[y5,y30,y31,y32]
def Pl:List Nat:=[5,30,31,32]
def QY:List (List Nat):=[Pl,[]]
def Ad7(x0 x1:AV)(S:Aa)(Q:Aq):Prop:=
 Az 45 5 x0 S fun a S=>Lf a 1 S fun c S=>AF c S fun d S=>Az 3 1 (aI 0) S fun e S=>A8 1 e d S fun g S=>Lf a 3 S fun h S=>AF h S fun i S=>Ay e S fun k S=>bin .neq 0 i k S fun l S=>Fi l (Q (.ret (.v (.bool false))) S) (Lf a 4 S fun m S=>Ah Pg 165 [m,(.f (.func 164) [] [e])] S Q fun n S=>Fi n (Q (.ret (.v (.bool false))) S) (Ah Pg 165 [x1,(.f (.func 164) [] [e])] S Q fun o S=>Fi o (Q (.ret (.v (.bool false))) S) (Lf a 3 S fun p S=>AF p S fun q S=>Ap Pl (vc Pg (qJ.at_ [1,1,1,1,0,1,0,0]) (QY.drop 1)) 40 (JV e p q (aI 0)) S (Ak 0 (Av (vc Pg (qJ.at_ [1,1,1,1,1]) (QY.drop 1)) (Ao Pg AaU Q))))))
theorem cQ{x0 x1:AV}{S:Aa}{Q:Aq}(h:Ad7 x0 x1 S Q):Ad Pg 149 [x0,x1] S Q:=
 Bj (n:=40) QY Tryz.func149 (by kernel_rfl) (Eq.mpr (by kernel_rfl) h)
def fP(y5 y30 y31 y32:AV)(S:Aa)(KE0:By)(Q:Aq):Prop:=
 bin .lss 0 y32 y31 S fun a S=>Fi a (AS 26 1 y30 y32 S fun c S=>Ay c S fun d S=>Ah Pg 100 [d,(.f (.func 166) [] [y5])] S Q fun e S=>Fi e (Q (.ret (.v (.bool false))) S) (bin .add 0 y32 (aI 1) S fun g S=>KE0 40 (JV y5 y30 y31 g) S)) (Q (.ret (.v (.bool true))) S)
theorem Wj{y5 y30 y31:AV}{y320:AV}{S:Aa}{Q:Aq}(I:AV→Aa→Prop)(μ:AV→Aa→Nat)(h0:I y320 S)(hr:BS (fun y32=>JV y5 y30 y31 y32) 40 I μ fun y32 S KE0=>fP y5 y30 y31 y32 S KE0 Q):
 Ap Pl (vc Pg (qJ.at_ [1,1,1,1,0,1,0,0]) (QY.drop 1)) 40 (JV y5 y30 y31 y320) S (Ak 0 (Av (vc Pg (qJ.at_ [1,1,1,1,1]) (QY.drop 1)) (Ao Pg AaU Q))):=DQ 3 (fun _=>rfl) (fun _ _ _=>by kernel_rfl) h0 hr
def qY:Code:=(Tryz.f106.body).getD .skip
def Ab9:List ResultVar:=Tryz.f106.results.toList
def J6(y0 y1 y7 y8:AV):List AV:=[y0,y1,y7,y8]
def PG:List Nat:=[0,1,7,8]
def Re:List (List Nat):=[PG,[]]
def Ae9(x0 x1:AV)(S:Aa)(Q:Aq):Prop:=
 AF x0 S fun a S=>Ap PG (vc Pg (qY.at_ [1,0,1,0,0]) (Re.drop 1)) 19 (J6 x0 x1 a (aI 0)) S (Ak 0 (Av (vc Pg (qY.at_ [1,1]) (Re.drop 1)) (Ao Pg Ab9 Q)))
theorem eE{x0 x1:AV}{S:Aa}{Q:Aq}(h:Ae9 x0 x1 S Q):Ad Pg 106 [x0,x1] S Q:=
 Bj (n:=19) Re Tryz.func106 (by kernel_rfl) (Eq.mpr (by kernel_rfl) h)
def gR(y0 y1 y7 y8:AV)(S:Aa)(KE0:By)(Q:Aq):Prop:=
 bin .lss 0 y8 y7 S fun a S=>Fi a (AS 3 1 y0 y8 S fun c S=>Ay c S fun d S=>Bg Pg y1 [d] S (fun e S=>Fi e (Q (.ret y8) S) (bin .add 0 y8 (aI 1) S fun f S=>KE0 19 (J6 y0 y1 y7 f) S)) (fun u S=>Q (.pan u) S)) (Q (.ret (.v (.int .i64 (-1)))) S)
theorem WK{y0 y1 y7:AV}{y80:AV}{S:Aa}{Q:Aq}(I:AV→Aa→Prop)(μ:AV→Aa→Nat)(h0:I y80 S)(hr:BS (fun y8=>J6 y0 y1 y7 y8) 19 I μ fun y8 S KE0=>gR y0 y1 y7 y8 S KE0 Q):
 Ap PG (vc Pg (qY.at_ [1,0,1,0,0]) (Re.drop 1)) 19 (J6 y0 y1 y7 y80) S (Ak 0 (Av (vc Pg (qY.at_ [1,1]) (Re.drop 1)) (Ao Pg Ab9 Q))):=DQ 3 (fun _=>rfl) (fun _ _ _=>by kernel_rfl) h0 hr
def AeF(x0 x1:AV)(S:Aa)(Q:Aq):Prop:=
 Ah Pg 106 [x0,x1] S Q fun a S=>bin .geq 0 a (aI 0) S fun c S=>Q (.ret c) S
theorem eK{x0 x1:AV}{S:Aa}{Q:Aq}(h:AeF x0 x1 S Q):Ad Pg 100 [x0,x1] S Q:=
 Bj (n:=9) [[]] Tryz.func100 (by kernel_rfl) (Eq.mpr (by kernel_rfl) h)
end
def idxOf(o:Option Nat):Int:=match o with|some i=>i|none=>-1
theorem JG{α:Type}{g:α→Bool}{l:List α}{i:Nat}(hi:i<l.length)(hg:g l[i]=true)(h:∀ k (hk:k<i),g (l[k]'(Nat.lt_trans hk hi))=false):l.findIdx? g=some i:=by
 rw[AiV]
 exact⟨hi,hg,fun j hj=>by simp[h j hj]⟩
theorem F1{α:Type}{g:α→Bool}{l:List α}(h:∀ k (hk:k<l.length),g l[k]=false):l.findIdx? g=none:=by
 rw[AiY]
 intro x hx
 obtain⟨k,hk,rfl⟩:=List.mem_iff_getElem.1 hx
 exact h k hk
theorem u3{α:Type}{f:α→AV}{l:List α}(hl:l.length≤9223372036854775807){g:α→Bool}{fn:FuncId}{fs cs:List AV}{S:Aa}
    (hf:∀ x,x∈l→AT Pg fn (fs ++ [f x]++cs) S (aB (g x))):AT Pg 106 [aL f l,.f (.func fn) fs cs] S (aI (idxOf (l.findIdx? g))):=by
 refine eE ?_
 unfold Ae9
 rw[Ax]
 refine WK (fun y S'=>S'=S∧∃ i:Nat,y=aI i∧i≤l.length∧∀ k (hk:k<l.length),k<i→g l[k]=false) (fun y _=>l.length - ((Aw y).getD 0).toNat) ⟨rfl,0,rfl,AhS _,fun k _ h=>absurd h (AhY _)⟩ ?_
 dsimp only[BS]
 rintro _ _ ⟨rfl,i,rfl,hi,hk⟩ KE hKE
 dsimp only[gR,Fi];unfold aI
 rw[As,Ag]
 refine Al (fun h=>?_) (fun h=>?_)
 ·have hlt:i<l.length:=by simpa using h
  rw[AM hlt,A1]
  refine BL (hf _ (AhP hlt)) ?_
  unfold aB
  rw[Ag]
  refine Al (fun hg=>⟨?_,rfl⟩) (fun hg=>?_)
  ·rw[JG hlt hg (fun k hk'=>hk k _ hk')];rfl
  ·rw[Ar (by omega) (by omega)]
   refine hKE _ _ ⟨rfl,i+1,rfl,hlt,fun k hk1 hk2=>?_⟩ ?_
   ·by_cases e:k=i
    ·subst e;exact hg
    ·exact hk k hk1 (by omega)
   ·simp[Aw,aI];omega
 ·have hge:i=l.length:=by simp at h;omega
  subst hge
  rw[F1 (fun k hk'=>hk k hk' hk')]
  exact⟨rfl,rfl⟩
theorem JD{α:Type}(g:α→Bool)(l:List α):decide (0≤idxOf (l.findIdx? g))=l.any g:=by
 cases h:l.findIdx? g with
 |none =>
  rw[AiY]at h
  have:l.any g=false:=by simpa[List.any_eq_false]using h
  rw[this];rfl
 |some i =>
  rw[AiV]at h
  obtain⟨hi,hg,_⟩:=h
  have:l.any g=true:=List.any_eq_true.2 ⟨_,AhP hi,by simpa using hg⟩
  rw[this]
  simp[idxOf]
theorem Vm{α:Type}{f:α→AV}{l:List α}(hl:l.length≤9223372036854775807){g:α→Bool}{fn:FuncId}{fs cs:List AV}{S:Aa}
    (hf:∀ x,x∈l→AT Pg fn (fs ++ [f x]++cs) S (aB (g x))):AT Pg 100 [aL f l,.f (.func fn) fs cs] S (aB (l.any g)):=by
 refine eK ?_
 unfold AeF
 refine At (u3 hl hf) ?_
 unfold aI
 rw[BH,JD]
 exact⟨rfl,rfl⟩
structure Sp where
 bits:Int
 valid:List Bool
 initial:List Bool
 next:List (List Int)
 fair:List (List Bool)
def Sp.cells(s:Sp):List AV:=[aI s.bits,aL aB s.valid,aL aB s.initial,aL (aL aI) s.next,aL (aL aB) s.fair]
def Sp.av(s:Sp):AV:=.a s.cells
def Sp.small(s:Sp):Prop:=s.valid.length<1048576∧s.next.length<1048576∧s.fair.length<1048576∧∀ x∈s.next,x.length<1048576
def fits(s:Sp)(l:List (List Bool)):Bool:=
 decide (s.next.length=s.valid.length) && s.fair.all (fun p=>decide (p.length=s.valid.length)) && l.all (fun p=>decide (p.length=s.valid.length)) && s.next.all (fun x=>x.all fun i=>decide (0≤i) && decide (i<s.valid.length))
theorem OS{α:Type}(l:List α)(g h:α→Bool)(e:∀ x,g x = !h x):l.any g = !l.all h:=by
 induction l with
 |nil=>rfl
 |cons x l ih=>simp[e x,ih,Bool.not_and]
theorem Af2{α:Type}{f:α→AV}{l:List α}(hl:l.length≤9223372036854775807){g:α→Bool}{fn:FuncId}{fs cs:List AV}{S:Aa}
    (hf:∀ x,x∈l→AT Pg fn (fs ++ [f x]++cs) S (aB (g x))):AT Pg 186 [aL f l,.f (.func fn) fs cs] S (aI (idxOf (l.findIdx? g))):=by
 refine bI ?_
 unfold Ac9
 rw[Ax]
 refine V3 (fun y S'=>S'=S∧∃ i:Nat,y=aI i∧i≤l.length∧∀ k (hk:k<l.length),k<i→g l[k]=false) (fun y _=>l.length - ((Aw y).getD 0).toNat) ⟨rfl,0,rfl,AhS _,fun k _ h=>absurd h (AhY _)⟩ ?_
 dsimp only[BS]
 rintro _ _ ⟨rfl,i,rfl,hi,hk⟩ KE hKE
 dsimp only[eV,Fi];unfold aI
 rw[As,Ag]
 refine Al (fun h=>?_) (fun h=>?_)
 ·have hlt:i<l.length:=by simpa using h
  rw[AM hlt,A1]
  refine BL (hf _ (AhP hlt)) ?_
  unfold aB
  rw[Ag]
  refine Al (fun hg=>⟨?_,rfl⟩) (fun hg=>?_)
  ·rw[JG hlt hg (fun k hk'=>hk k _ hk')];rfl
  ·rw[Ar (by omega) (by omega)]
   refine hKE _ _ ⟨rfl,i+1,rfl,hlt,fun k hk1 hk2=>?_⟩ ?_
   ·by_cases e:k=i
    ·subst e;exact hg
    ·exact hk k hk1 (by omega)
   ·simp[Aw,aI];omega
 ·have hge:i=l.length:=by simp at h;omega
  subst hge
  rw[F1 (fun k hk'=>hk k hk' hk')]
  exact⟨rfl,rfl⟩
theorem uX{α:Type}{f:α→AV}{l:List α}(hl:l.length≤9223372036854775807){g:α→Bool}{fn:FuncId}{fs cs:List AV}{S:Aa}
    (hf:∀ x,x∈l→AT Pg fn (fs ++ [f x]++cs) S (aB (g x))):AT Pg 165 [aL f l,.f (.func fn) fs cs] S (aB (l.any g)):=by
 refine cB ?_
 unfold AcS
 refine At (Af2 hl hf) ?_
 unfold aI
 rw[BH,JD]
 exact⟨rfl,rfl⟩
theorem uY{α:Type}{f:α→AV}(p:List α){S:Aa}{id t:Nat}{n:Int}{l:Bool}(h:S.obj id=some (.cells t [[aI n]] l)):AT Pg 164 [aL f p,.p id 0 0] S (aB (!decide ((p.length:Int)=n))):=by
 refine cC ?_
 unfold AcT
 rw[Ax,Ae h rfl rfl]
 unfold aI
 rw[Bl]
 exact⟨rfl,rfl⟩
theorem Af5(i:Int){S:Aa}{id t:Nat}{n:Int}{l:Bool}(h:S.obj id=some (.cells t [[aI n]] l)):AT Pg 166 [aI i,.p id 0 0] S (aB (decide (i<0) || decide (n≤i))):=by
 refine cA ?_
 dsimp only[AcR,Fi];unfold aI
 rw[As,Ag]
 refine Al (fun h0=>⟨by rw[h0];rfl,rfl⟩) (fun h0=>?_)
 rw[Ae h rfl rfl]
 unfold aI
 rw[BH,h0]
 exact⟨rfl,rfl⟩
theorem K3(s:Sp)(hs:s.small)(l:List (List Bool))(hl:l.length≤9223372036854775807):BF Pg 149 [s.av,aL (aL aB) l] (aB (fits s l)):=by
 intro S
 obtain⟨hs1,hs2,hs3,hs4⟩:=hs
 refine Ad.Bu (cQ ?_)
 dsimp only[Ad7,Fi,Lf];unfold Sp.av
 refine Ai rfl fun S1 k1 n1 o1=>?_
 rw[Ac,Ae o1 rfl rfl,Ax]
 refine BN rfl fun S2 k2 n2 o2=>?_
 refine B9 o2 rfl rfl fun S3 n3 o3 f3=>?_
 have p1:=(f3 S.n (by omega)).trans ((k2.2 S.n (by omega)).trans o1)
 have k3:Am S S3:=(k1.trans k2).st (by omega) n3 f3
 rw[Ac,Ae p1 rfl rfl,Ax,Ae o3 rfl rfl,Bl,Ag]
 generalize hid:S1.n=id at *
 refine Al (fun h=>⟨?_,k3⟩) (fun h=>?_)
 ·have:¬ s.next.length=s.valid.length:=by simp at h;omega
  simp[fits,this]
 have e1:s.next.length=s.valid.length:=by simp at h;omega
 have g54:∀ p:List Bool,(!decide ((p.length:Int)=s.valid.length)) = !decide (p.length=s.valid.length):=fun p=>by simp[Int.ofNat_inj]
 rw[Ac,Ae p1 rfl rfl]
 refine At (uX (by omega) (fun x _=>uY x o3)) ?_
 unfold aB
 rw[Ag,OS _ _ _ g54]
 refine Al (fun h=>⟨?_,k3⟩) (fun h=>?_)
 ·simp only[Ai6]at h
  simp[fits,h]
 have e2:s.fair.all (fun p=>decide (p.length=s.valid.length))=true:=by simpa using h
 refine At (uX (f:=aL aB) (by omega) (fun x _=>uY x o3)) ?_
 unfold aB
 rw[Ag,OS _ _ _ g54]
 refine Al (fun h=>⟨?_,k3⟩) (fun h=>?_)
 ·simp only[Ai6]at h
  simp[fits,h]
 have e3:l.all (fun p=>decide (p.length=s.valid.length))=true:=by simpa using h
 rw[Ac,Ae p1 rfl rfl,Ax]
 refine Wj (fun y S'=>S'=S3∧∃ i:Nat,y=aI i∧i≤s.next.length∧∀ k (hk:k<s.next.length),k<i→(s.next[k].all fun i=>decide (0≤i) && decide (i<s.valid.length))=true) (fun y _=>s.next.length - ((Aw y).getD 0).toNat) ⟨rfl,0,rfl,AhS _,fun k _ h=>absurd h (AhY _)⟩ ?_
 dsimp only[BS]
 rintro _ _ ⟨rfl,i,rfl,hi,hk⟩ KE hKE
 dsimp only[fP,Fi];unfold aI
 rw[As,Ag]
 refine Al (fun h=>?_) (fun h=>?_)
 ·have hlt:i<s.next.length:=by simpa using h
  rw[AM hlt,A1]
  refine At (Vm (by have:=hs4 _ (AhP hlt);omega) (fun x _=>Af5 x o3)) ?_
  unfold aB
  have g57:∀ x:Int,(decide (x<0) || decide ((s.valid.length:Int)≤x)) = !(decide (0≤x) && decide (x<s.valid.length)):=fun x=>by
   have a1:decide (x<0) = !decide (0≤x):=by rw[←decide_not];exact decide_eq_decide.2 Int.not_le.symm
   have a2:decide ((s.valid.length:Int)≤x) = !decide (x<s.valid.length):=by rw[←decide_not];exact decide_eq_decide.2 Int.not_lt.symm
   rw[Bool.not_and,a1,a2]
  rw[Ag,OS _ _ _ g57]
  refine Al (fun hg=>⟨?_,k3⟩) (fun hg=>?_)
  ·have:s.next.all (fun x=>x.all fun i=>decide (0≤i) && decide (i<s.valid.length))=false:=by
     rw[AiN]
     exact⟨_,AhP hlt,by simpa using hg⟩
   rw[fits,this,AiL]
  ·rw[Ar (by omega) (by omega)]
   refine hKE _ _ ⟨rfl,i+1,rfl,hlt,fun k hk1 hk2=>?_⟩ ?_
   ·by_cases e:k=i
    ·subst e;simpa using hg
    ·exact hk k hk1 (by omega)
   ·simp[Aw,aI];omega
 ·have hge:i=s.next.length:=by simp at h;omega
  subst hge
  have:s.next.all (fun x=>x.all fun i=>decide (0≤i) && decide (i<s.valid.length))=true:=by
   rw[AhW]
   intro x hx
   obtain⟨k,hk1,rfl⟩:=List.mem_iff_getElem.1 hx
   exact hk k hk1 hk1
  exact⟨by rw[fits,this,e2,e3,e1];simp,k3⟩
def bit(p:List Bool)(i:Nat):Bool:=p.getD i false
def nx(s:Sp)(i:Nat):List Int:=s.next.getD i []
theorem Bc{p:List Bool}{i:Nat}(h:i<p.length):bit p i=p[i]:=by simp[bit,AhL,h]
theorem EI{s:Sp}{i:Nat}(h:i<s.next.length):nx s i=s.next[i]:=by simp[nx,AhL,h]
def CG{α:Type}(n:Nat)(f:Nat→α):List α:=(List.range n).map f
@[simp] theorem OE{α:Type}(n:Nat)(f:Nat→α):(CG n f).length=n:=by simp[CG]
theorem BR{α:Type}{n:Nat}{f:Nat→α}{i:Nat}(h:i<n):(CG n f)[i]? = some (f i):=by simp[CG,h]
theorem Fc{α:Type}{n:Nat}{f:Nat→α}{i:Nat}{x:α}:(CG n f).set i x=CG n (fun k=>if k=i then x else f k):=by
 apply List.ext_getElem?
 intro k
 rw[List.getElem?_set]
 by_cases hk:k<n
 ·by_cases e:i=k
  ·subst e;rw[if_pos rfl,BR hk];simp[hk]
  ·rw[if_neg e,BR hk,BR hk,if_neg (Ne.symm e)]
 ·by_cases e:i=k
  ·subst e;simp[CG,hk]
  ·rw[if_neg e];simp[CG,hk]
theorem BU{α:Type}{n:Nat}{f g:Nat→α}(h:∀ i,i<n→f i=g i):CG n f=CG n g:=
 AiR fun i hi=>h i (by simpa using hi)
theorem LD(p:List Bool):p=CG p.length (bit p):=by
 apply List.ext_getElem?
 intro k
 by_cases hk:k<p.length
 ·rw[BR hk,Bc hk,AhM hk]
 ·simp[CG,hk]
theorem Eu{α β:Type}{n:Nat}{f:Nat→α}{g:α→β}:(CG n f).map g=CG n (fun i=>g (f i)):=by simp[CG]
theorem OD{α:Type}(n:Nat)(x:α):List.replicate n x=CG n (fun _=>x):=by
 apply List.ext_getElem?
 intro k
 by_cases hk:k<n
 ·rw[BR hk];simp[hk]
 ·simp[CG,hk]
def Ny(s:Sp)(p:List Bool):List Bool:=CG p.length fun i=>bit s.valid i && (nx s i).any fun k=>bit p k.toNat
theorem Af1{p:List Bool}{k:Int}(h0:0≤k)(h1:k<p.length){S:Aa}{id t:Nat}{l:Bool}(h:S.obj id=some (.cells t [[aL aB p]] l)):AT Pg 187 [aI k,.p id 0 0] S (aB (bit p k.toNat)):=by
 refine bH ?_
 unfold Ac8
 have hk:k.toNat<p.length:=by omega
 rw[Ae h rfl rfl]
 obtain⟨n,rfl⟩:=AhX h0
 unfold aI
 rw[AM (i:=n) (by simpa using hk),A1,Bc hk]
 exact⟨rfl,rfl⟩
structure Fit (s:Sp) (p:List Bool):Prop where
 small:s.small
 next:s.next.length=s.valid.length
 len:p.length=s.valid.length
 fair:∀ f∈s.fair,f.length=s.valid.length
 behind:∀ i,∀ k∈nx s i,0≤k∧k<s.valid.length
theorem Fit.of{s:Sp}(hs:s.small){l:List (List Bool)}(h:fits s l=true){p:List Bool}(hp:p∈l):Fit s p:=by
 simp only[fits,AhO,decide_eq_true_eq,AhW]at h
 obtain⟨⟨⟨h1,h2⟩,h3⟩,h4⟩:=h
 refine⟨hs,h1,h3 p hp,h2,fun i k hk=>?_⟩
 unfold nx at hk
 rw[AhL]at hk
 cases hq:s.next[i]? with
 |none=>rw[hq]at hk;simp at hk
 |some x =>
  rw[hq]at hk
  exact h4 x (AiS hq) k hk
theorem iO{s:Sp}{p:List Bool}(hf:Fit s p):BF Pg 168 [s.av,aL aB p] (aL aB (Ny s p)):=by
 refine Ad.GY (f:=fun b=>.bool b) (e:=4) fun S=>b0 ?_
 obtain⟨⟨hs1,hs2,hs3,hs4⟩,hn,hl,_,hb⟩:=hf
 dsimp only[AcP,Lf];unfold Sp.av
 refine Ai rfl fun S1 k1 n1 o1=>?_
 refine BN rfl fun S2 k2 n2 o2=>?_
 rw[Ae o2 rfl rfl,Ax]
 refine Lg (by omega) (by omega) fun S3 k3 n3 o3=>?_
 have p1:=(k3.2 S.n (by omega)).trans ((k2.2 S.n (by omega)).trans o1)
 have p2:=(k3.2 S1.n (by omega)).trans o2
 rw[Ac,Ae p1 rfl rfl,Ax]
 refine V9 (fun y S'=>Am S S'∧S'.obj S.n=some (.cells 45 [s.cells] true)∧S'.obj S1.n=some (.cells 41 [[aL aB p]] true)∧S3.n≤S'.n∧
     ∃ i:Nat,y=aI i∧i≤s.next.length∧S'.obj S2.n=some (.cells 4 (CG p.length fun k=>[aB (if k<i then bit s.valid k && (nx s k).any fun k=>bit p k.toNat else false)]) true))
  (fun y _=>s.next.length - ((Aw y).getD 0).toNat) ⟨(k1.trans k2).trans k3,p1,p2,AhN _,0,rfl,AhS _,by rw[o3,OD];simp[aB]⟩ ?_
 dsimp only[BS]
 rintro _ S4 ⟨k4,q1,q2,n4,i,rfl,hi,q3⟩ KE hKE
 dsimp only[fB,Fi,Lf];unfold aI
 rw[As,Ag]
 refine Al (fun h=>?_) (fun h=>?_)
 ·have hlt:i<s.next.length:=by simpa using h
  have hv:i<s.valid.length:=by omega
  rw[AM hlt,A1,Ac,Ae q1 rfl rfl,AM hv,A1]
  have step:∀(b:Bool) (S5:Aa),b=(bit s.valid i && (nx s i).any fun k=>bit p k.toNat)→S5.n=S4.n→S5.obj S2.n=some (.cells 4 ((CG p.length fun k=>[aB (if k<i then bit s.valid k && (nx s k).any fun k=>bit p k.toNat else false)]).set i [aB b]) true)→(∀ x,x≠S2.n→S5.obj x=S4.obj x)→
      KE 34 (F2 (.p S.n 0 0) (.p S1.n 0 0) (.s S2.n 0 p.length) (aL (aL aI) s.next) (.v (.int .i64 s.next.length)) (aI (i+1:Nat))) S5:=by
   intro b S5 hbv n5 o5 f5
   refine hKE _ _ ⟨k4.st (by omega) n5 f5,(f5 _ (by omega)).trans q1,(f5 _ (by omega)).trans q2,by omega,i+1,rfl,hlt,?_⟩ ?_
   ·rw[o5,Fc,hbv]
    congr 2
    refine BU fun k hk=>?_
    by_cases e:k=i
    ·subst e;simp
    ·have:k<i+1↔k<i:=by omega
     simp[e,this]
   ·simp[Aw,aI];omega
  have hi2:i<p.length:=by omega
  have hadd:∀ K:AV→Aa→Prop,∀ S,bin .add 0 (.v (.int .i64 (i:Int))) (.v (.int .i64 1)) S K=K (aI (i+1:Nat)) S:=fun K S=>Ar (by omega) (by omega) 0
  unfold aB
  rw[Ag]
  refine Al (fun hvi=>?_) (fun hvi=>?_)
  ·refine At (Vm (g:=fun k=>bit p k.toNat) (by have:=hs4 _ (AhP hlt);omega) (fun k hk=>Af1 ?_ ?_ q2)) ?_
   ·exact(hb i k (by rw[EI hlt];exact hk)).1
   ·have:=(hb i k (by rw[EI hlt];exact hk)).2
    omega
   rw[Cf hi2 q3]
   refine B9 q3 (by rw[AhZ];exact BR hi2) rfl fun S5 n5 o5 f5=>?_
   rw[hadd]
   refine step _ S5 ?_ n5 (by rw[o5];congr 3;simp[aB]) f5
   rw[Bc hv,hvi,EI hlt];simp
  ·rw[Cf hi2 q3]
   refine B9 q3 (by rw[AhZ];exact BR hi2) rfl fun S5 n5 o5 f5=>?_
   rw[hadd]
   refine step false S5 ?_ n5 (by rw[o5];congr 3;simp[aB]) f5
   rw[Bc hv,hvi];simp
 ·have hge:i=s.next.length:=by simp at h;omega
  subst hge
  refine⟨_,rfl,k4,.inr ⟨S2.n,by simp[Ny],by omega,by omega,?_⟩⟩
  rw[q3,Ny,Eu]
  congr 2
  refine BU fun k hk=>?_
  have:k<s.next.length:=by omega
  simp[this,aB]
def Ns(f:FuncId)(args:List AV)(l:List Bool):Prop:=
 ∀ S,Ad Pg f args S (fun r S'=>∃ x,r = .ret x∧Am S S'∧A4 S.n S' x 4 (l.map fun b=>[aB b]))
theorem Ns.NA{f:FuncId}{args:List AV}{l:List Bool}(h:Ns f args l):BF Pg f args (aL aB l):=Ad.GY (f:=fun b=>.bool b) (e:=4) h
theorem Ns.call{f:FuncId}{args:List AV}{l:List Bool}(h:Ns f args l){S:Aa}{Q:Bh→Aa→Prop}{K:AV→Aa→Prop}(k:∀ x S',Am S S'→A4 S.n S' x 4 (l.map fun b=>[aB b])→K x S'):Ah Pg f args S Q K:=
 .inl ((h S).mono fun e S' ⟨x,h1,h2,h3⟩=>by subst h1;exact k x S' h2 h3)
theorem XZ(l:List Bool)(hl:l.length<140737488355328):Ns 140 [aL aB l] l:=by
 intro S
 refine cX ?_
 dsimp only[AdE,Fi]
 have main:AU 4 1 0 [.v (.bool false)] [] S fun v3 S_1=>Bo 4 1 1 v3 (aL aB l) S_1 fun v4 S_2=>∃ x,Bh.ret v4=Bh.ret x∧Am S S_2∧A4 S.n S_2 x 4 (l.map fun b=>[aB b]):=by
  refine⟨[],rfl,.inl ⟨rfl,l.map (fun b=>[aB b]),rfl,by simp;rintro c (⟨_,rfl⟩|⟨_,rfl⟩)<;>rfl,?_⟩⟩
  cases l with
  |nil=>exact⟨_,rfl,(Am.refl S).new _,.inr ⟨S.n,rfl,AhN _,Aj3 _,by simp[chunks]⟩⟩
  |cons b l =>
   simp only[List.map_cons,Qf,B1]
   refine⟨⟨trivial,AhS _,by simp at hl ⊢;omega⟩,_,rfl,(((Am.refl S).new _).kill (AhN _)).new _,.inr ⟨S.n+1,?_,Nat.le_succ _,Aj3 _,?_⟩⟩
   ·simp
   ·have:=B1 (S:=(S.new (.cells 4 (chunks 1 0 []) true)).kill S.n) (.cells 4 (chunks 1 0 [] ++ [aB b] :: l.map fun b=>[aB b]) true)
    simpa[chunks]using this
 cases l with
 |nil=>exact⟨⟨_,rfl,Am.refl S,.nl _ _ _⟩,main⟩
 |cons b l=>exact main
def Bm(a b:List Bool):List Bool:=CG a.length fun i=>bit a i && bit b i
theorem Mw(a b:List Bool)(ha:a.length<140737488355328)(hab:b.length=a.length):Ns 167 [aL aB a,aL aB b] (Bm a b):=by
 intro S
 refine b9 ?_
 unfold AcQ
 refine Ns.call (XZ a ha) fun x S1 k1 o1=>?_
 rw[Ax]
 refine Wa (fun y S'=>Am S S'∧∃ i:Nat,y=aI i∧i≤b.length∧A4 S.n S' x 4 (CG a.length fun k=>[aB (if k<i then bit a k && bit b k else bit a k)]))
  (fun y _=>b.length - ((Aw y).getD 0).toNat) ⟨k1,0,rfl,AhS _,by
   rw[LD a,Eu]at o1;simpa using o1⟩ ?_
 dsimp only[BS]
 rintro _ S2 ⟨k2,i,rfl,hi,o2⟩ KE hKE
 dsimp only[fC,Fi];unfold aI
 rw[As,Ag]
 refine Al (fun h=>?_) (fun h=>?_)
 ·have hlt:i<b.length:=by simpa using h
  have hia:i<a.length:=by omega
  obtain⟨id,rfl,hid,hid2,q2⟩:=A4.ix o2 (i:=i) (by simpa using hia)
  have hg:=BR (f:=fun k=>[aB (if k<i then bit a k && bit b k else bit a k)]) hia
  have hg':(CG a.length fun k=>[aB (if k<i then bit a k && bit b k else bit a k)])[0+i]? = some [aB (bit a i)]:=by rw[AhZ,hg];simp
  have hi':i<(CG a.length fun k=>[aB (if k<i then bit a k && bit b k else bit a k)]).length:=by simpa using hia
  rw[AM hlt,A1,Cf hi' q2,Ae q2 hg' rfl,Ag]
  have hadd:∀ K:AV→Aa→Prop,∀ S,bin .add 0 (.v (.int .i64 (i:Int))) (.v (.int .i64 1)) S K=K (aI (i+1:Nat)) S:=fun K S=>Ar (by omega) (by omega) 0
  have step:∀(c:Bool) (S5:Aa),c=(bit a i && bit b i)→S5.n=S2.n→S5.obj id=some (.cells 4 ((CG a.length fun k=>[aB (if k<i then bit a k && bit b k else bit a k)]).set (0+i) [.v (.bool c)]) true)→(∀ x,x≠id→S5.obj x=S2.obj x)→
      KE 29 (F3 (.s id 0 (CG a.length fun k=>[aB (if k<i then bit a k && bit b k else bit a k)]).length) (aL aB b) (.v (.int .i64 b.length)) (aI (i+1:Nat))) S5:=by
   intro c S5 hc n5 o5 f5
   refine hKE _ _ ⟨k2.st hid n5 f5,i+1,rfl,hlt,.inr ⟨id,by simp,hid,by omega,?_⟩⟩ ?_
   ·rw[o5,AhZ,Fc,hc]
    congr 2
    refine BU fun k hk=>?_
    by_cases e:k=i
    ·subst e;simp[aB]
    ·have:k<i+1↔k<i:=by omega
     simp[e,this]
   ·simp[Aw,aI];omega
  refine Al (fun hb=>?_) (fun hb=>?_)
  ·rw[Cf hi' q2]
   refine B9 q2 hg' rfl fun S5 n5 o5 f5=>?_
   rw[hadd]
   exact step b[i] S5 (by rw[hb,Bc hlt];rfl) n5 o5 f5
  ·rw[Cf hi' q2]
   refine B9 q2 hg' rfl fun S5 n5 o5 f5=>?_
   rw[hadd]
   exact step false S5 (by rw[hb];rfl) n5 o5 f5
 ·have hge:i=b.length:=by simp at h;omega
  subst hge
  refine⟨_,rfl,k2,?_⟩
  have e:((Bm a b).map fun b=>[aB b])=CG a.length fun k=>[aB (if k<b.length then bit a k && bit b k else bit a k)]:=by
   rw[Bm,Eu]
   refine BU fun k hk=>?_
   have:k<b.length:=by omega
   simp[this]
  rw[e]
  exact o2
def Iy(s:Sp)(i:Nat):List (Nat × Nat):=if bit s.valid i then(nx s i).map fun k=>(k.toNat,i)else[]
def Fh(s:Sp):Nat→List (Nat × Nat)
 |0=>[]
 |i+1=>Fh s i++Iy s i
def Uq(P:List (Nat × Nat))(k:Nat):List Int:=(P.filter (·.1 == k)).map fun p=>(p.2:Int)
def Nj(s:Sp):List (List Int):=CG s.next.length (Uq (Fh s s.next.length))
theorem Up(P:List (Nat × Nat))(k:Nat):(Uq P k).length≤P.length:=by
 simp only[Uq,AhR]
 exact List.length_filter_le _ _
theorem j8(P:List (Nat × Nat))(k i k':Nat):Uq (P ++ [(k,i)]) k'=if k=k' then Uq P k' ++ [(i:Int)]else Uq P k':=by
 by_cases h:k=k'<;>simp[Uq,AiW,h]
theorem Mj(s:Sp)(i:Nat):(Iy s i).length≤(nx s i).length:=by
 unfold Iy
 split<;>simp
theorem Ya{s:Sp}(hs:s.small)(i:Nat):(nx s i).length<1048576:=by
 by_cases h:i<s.next.length
 ·rw[EI h];exact hs.2.2.2 _ (AhP h)
 ·simp[nx,AhL,AiH (Nat.le_of_not_lt h)]
theorem Ky{s:Sp}(hs:s.small):∀ i,(Fh s i).length≤i*1048576
 |0=>by simp[Fh]
 |i+1=>by
  have h1:=Ky hs i
  have h2:=Mj s i
  have h3:=Ya hs i
  simp only[Fh,Ai2]
  omega
structure Nq (S:Aa) (id n:Nat) (P:List (Nat × Nat)) (xs:Nat→AV):Prop where
 lt:id<S.n
 obj:S.obj id=some (.cells 26 (CG n fun k=>[xs k]) true)
 own:∀ k,k<n→A4 (id+1) S (xs k) 3 ((Uq P k).map fun i=>[aI i])
 apart:∀ k k',k<n→k'<n→k≠k'→DL (xs k) (xs k')
theorem Nq.add{S:Aa}{id n:Nat}{P:List (Nat × Nat)}{xs:Nat→AV}(h:Nq S id n P xs){k i:Nat}(hk:k<n){S1 S2:Aa}{x:AV}(ho:A4 (id+1) S1 x 3 ((Uq P k).map (fun i=>[aI i]) ++ [[aI i]]))(hb:zK S S1 (xs k))(hx:∃ m,x = .s S.n 0 m)
    (n2:S2.n=S1.n) (o2:S2.obj id=some (.cells 26 ((CG n fun k=>[xs k]).set (0+k) [x]) true)) (f2:∀ y,y≠id→S2.obj y=S1.obj y):Nq S2 id n (P ++ [(k,i)]) (fun j=>if j=k then x else xs j) where
 lt:=by have:=h.lt;have:=hb.1;omega
 obj:=by
  rw[o2,AhZ,Fc]
  congr 2
  refine BU fun j hj=>?_
  split<;>rfl
 own j hj:=by
  have hsame:∀{y:AV} {es:List (List AV)},A4 (id+1) S1 y 3 es→A4 (id+1) S2 y 3 es:=fun h=>h.same (by omega) (fun q h1 h2=>f2 q (by omega))
  rw[j8]
  by_cases e:j=k
  ·subst e
   rw[if_pos rfl,if_pos rfl,AhU]
   exact hsame ho
  ·rw[if_neg e,if_neg (Ne.symm e)]
   exact hsame ((h.own j hj).P1 hb (h.apart k j hk hj (Ne.symm e)))
 apart j j' hj hj' hne:=by
  obtain⟨m,rfl⟩:=hx
  have hlt:∀ q,q<n→∀ i b m,xs q = .s i b m→i<S.n:=by
   intro q hq i b m e
   rcases h.own q hq with⟨h1,_⟩|⟨id',h1,h2,h3,h4⟩
   ·rw[h1]at e;cases e
   ·rw[h1]at e;cases e;exact h3
  intro i b m1 b' m' e1 e2
  by_cases ej:j=k
  ·by_cases ej':j'=k
   ·omega
   ·simp only[ej,if_pos,if_neg ej']at e1 e2
    cases e1
    have:=hlt j' hj' _ _ _ e2
    omega
  ·by_cases ej':j'=k
   ·simp only[ej',if_pos,if_neg ej]at e1 e2
    cases e2
    have:=hlt j hj _ _ _ e1
    omega
   ·simp only[if_neg ej,if_neg ej']at e1 e2
    exact h.apart j j' hj hj' hne _ _ _ _ _ e1 e2
theorem Nq.cv{S:Aa}{id n:Nat}{P:List (Nat × Nat)}{xs:Nat→AV}(h:Nq S id n P xs){m:Nat}(hm:m≤id):Cv (S.BA (AL m)) m (.s id 0 n) (aL (aL aI) (CG n (Uq P))):=by
 have ho:A4 m S (.s id 0 (CG n fun k=>[xs k]).length) 26 (CG n fun k=>[xs k]):=.inr ⟨id,rfl,hm,h.lt,h.obj⟩
 rw[OE]at ho
 refine ho.cv rfl (by simp) fun i c c2 hc hc2=>?_
 have hi:i<n:=by
  have:=(List.getElem?_eq_some_iff.1 hc).1
  simpa using this
 rw[BR hi]at hc
 rw[Eu,BR hi]at hc2
 cases hc
 cases hc2
 refine⟨rfl,fun k u u2 hk hk2=>?_⟩
 cases k with
 |zero =>
  cases hk
  cases hk2
  exact A4.mM (f:=fun i:Int=>.int .i64 i) ((h.own i hi).low (by omega))
 |succ k=>simp at hk
theorem yH{s:Sp}{p:List Bool}(hf:Fit s p):BF Pg 184 [s.av] (aL (aL aI) (Nj s)):=by
 intro S
 refine Ad.tree (bJ ?_)
 have hs:=hf.small
 obtain⟨⟨hs1,hs2,hs3,hs4⟩,hn,hl,_,hb⟩:=hf
 dsimp only[AcA,Lf];unfold Sp.av
 refine Ai rfl fun S1 k1 n1 o1=>?_
 rw[Ac,Ae o1 rfl rfl,Ax]
 refine Lg (by omega) (by omega) fun S2 k2 n2 o2=>?_
 have p1:=(k2.2 S.n (by omega)).trans o1
 rw[Ac,Ae p1 rfl rfl,Ax]
 refine V5 (fun y S'=>Am S S'∧S'.obj S.n=some (.cells 45 [s.cells] true)∧∃ i:Nat,y=aI i∧i≤s.next.length∧∃ xs,Nq S' S1.n s.next.length (Fh s i) xs)
  (fun y _=>s.next.length - ((Aw y).getD 0).toNat) ⟨k1.trans k2,p1,0,rfl,AhS _,fun _=>.nl,⟨by omega,by rw[o2,OD],fun k hk=>.nl _ _ _,fun k k' _ _ _ i b m b' m' e=>by cases e⟩⟩ ?_
 dsimp only[BS]
 rintro _ S3 ⟨k3,q3,i,rfl,hi,xs,hR⟩ KE hKE
 dsimp only[eX,Fi]
 rw[As,Ag]
 refine Al (fun h=>?_) (fun h=>?_)
 ·have hlt:i<s.next.length:=by simpa using h
  have hv:i<s.valid.length:=by omega
  have hrow:(nx s i).length<1048576:=Ya hs i
  rw[AM hlt,A1,Ax,←EI hlt]
  refine V4 (fun y S'=>Am S S'∧S'.obj S.n=some (.cells 45 [s.cells] true)∧∃ j:Nat,y=aI j∧j≤(nx s i).length∧∃ xs,Nq S' S1.n s.next.length (Fh s i++(Iy s i).take j) xs)
   (fun y _=>(nx s i).length - ((Aw y).getD 0).toNat) ⟨k3,q3,0,rfl,AhS _,xs,by simpa using hR⟩ ?_
  dsimp only[BS]
  rintro _ S4 ⟨k4,q4,j,rfl,hj,ys,hR4⟩ KE1 hKE1
  dsimp only[eW,Fi,Lf]
  rw[As,Ag]
  refine Al (fun h=>?_) (fun h=>?_)
  ·have hjl:j<(nx s i).length:=by simpa using h
   rw[AM hjl,A1,Ac,Ae q4 rfl rfl,AM hv,A1,Ag]
   have hadd:∀ K:AV→Aa→Prop,∀ S,bin .add 0 (.v (.int .i64 (j:Int))) (.v (.int .i64 1)) S K=K (aI (j+1:Nat)) S:=fun K S=>Ar (by omega) (by omega) 0
   have hμ:(nx s i).length - ((Aw (aI (j+1:Nat))).getD 0).toNat<(nx s i).length - ((Aw (aI j)).getD 0).toNat:=by simp[Aw];omega
   refine Al (fun hvi=>?_) (fun hvi=>?_)
   ·have hkb:=hb i _ (AhP hjl)
    obtain⟨k,hk⟩:=AhX hkb.1
    have hkn:k<s.next.length:=by rw[hk]at hkb;omega
    have hrp:(Iy s i).take (j+1)=(Iy s i).take j ++ [(k,i)]:=by
     have hlen:j<(Iy s i).length:=by simp[Iy,Bc hv,hvi,hjl]
     rw[AiA,AhM hlen]
     have:(Iy s i)[j]=(k,i):=by
      have:(Iy s i)=(nx s i).map fun k=>(k.toNat,i):=by simp[Iy,Bc hv,hvi]
      simp[this,hk]
     rw[this];rfl
    rw[hk,Cf hkn hR4.obj,Ae hR4.obj (by rw[AhZ];exact BR hkn) rfl]
    refine BM rfl (fun _ h=>by cases h) ?_
    have hsl:=Up (Fh s i++(Iy s i).take j) k
    have hpl:=Ky hs i
    have hrl:=Mj s i
    refine(hR4.own k hkn).app (b:=8) (c:=[aI i]) (y:=.l [[aI i]]) (by have:=hR4.lt;omega) rfl (by simp at hsl ⊢;omega) (fun x S5 ho5 hb5 hx5=>?_) rfl
    have o5:S5.obj S1.n=some (.cells 26 (CG s.next.length fun k=>[ys k]) true):=by
     rw[hb5.2 S1.n hR4.lt (fun b m e=>?_)]
     ·exact hR4.obj
     ·rcases hR4.own k hkn with⟨h1,_⟩|⟨id',h1,h2,h3,h4⟩
      ·rw[h1]at e;cases e
      ·rw[h1]at e;cases e;omega
    have q5:S5.obj S.n=some (.cells 45 [s.cells] true):=by
     rw[hb5.2 S.n (by have:=hR4.lt;omega) (fun b m e=>?_)]
     ·exact q4
     ·rcases hR4.own k hkn with⟨h1,_⟩|⟨id',h1,h2,h3,h4⟩
      ·rw[h1]at e;cases e
      ·rw[h1]at e;cases e;omega
    have k5:Am S S5:=(hR4.own k hkn).AR (S0:=S) (by omega) hb5 k4
    rw[Cf hkn o5]
    obtain⟨m5,hm5⟩:=hx5
    refine B9 o5 (by rw[AhZ];exact BR hkn) (by rw[hm5];rfl) fun S6 n6 o6 f6=>?_
    rw[hadd]
    refine hKE1 _ _ ⟨k5.st (by omega) n6 f6,(f6 _ (by omega)).trans q5,j+1,rfl,hjl,fun q=>if q=k then x else ys q,?_⟩ hμ
    rw[hrp,←List.append_assoc]
    exact hR4.add hkn ho5 hb5 ⟨m5,hm5⟩ n6 o6 f6
   ·rw[hadd]
    refine hKE1 _ _ ⟨k4,q4,j+1,rfl,hjl,ys,?_⟩ hμ
    have:Iy s i = []:=by simp[Iy,Bc hv,hvi]
    rw[this]at hR4 ⊢
    simpa using hR4
  ·have hge:j=(nx s i).length:=by simp at h;omega
   subst hge
   rw[Ar (by omega) (by omega)]
   refine hKE _ _ ⟨k4,q4,i+1,rfl,hlt,ys,?_⟩ (by simp[Aw];omega)
   rw[AiD (Mj s i)]at hR4
   exact hR4
 ·have hge:i=s.next.length:=by simp at h;omega
  subst hge
  refine⟨_,rfl,k3,hR.cv (by omega)⟩
inductive Reach (s:Sp) (p q:List Bool):Nat→Prop
 |base (i:Nat) (h1:bit q i=true) (h2:bit s.valid i=true):Reach s p q i
 |step (i k:Nat) (h1:bit p i=true) (h2:bit s.valid i=true) (h3:(k:Int)∈nx s i) (h:Reach s p q k):Reach s p q i
open Classical in
def IM (s:Sp) (p q:List Bool):List Bool:=CG q.length fun i=>decide (Reach s p q i)
theorem MA:∀(n:Nat) (l:List Nat),l.Nodup→(∀ x∈l,x<n)→l.length≤n
 |0,l,_,h=>by
  cases l with
  |nil=>simp
  |cons x l=>exact absurd (h x (by simp)) (AhY _)
 |n+1,l,hd,h=>by
  have h1:=MA n (l.erase n) (hd.erase n) (fun x hx=>by
   have:=(hd.mem_erase_iff).1 hx
   have:=h x this.2
   omega)
  by_cases hm:n∈l
  ·have:=List.length_erase_of_mem hm
   omega
  ·rw[List.erase_of_not_mem hm]at h1
   omega
theorem YI{s:Sp}{i c j:Nat}:(c,j)∈Iy s i↔j=i∧bit s.valid i=true∧∃ k∈nx s i,k.toNat=c:=by
 unfold Iy
 split
 ·rename_i h
  simp only[Ai5,Prod.mk.injEq,h,true_and]
  constructor
  ·rintro⟨k,h1,h2,h3⟩;exact⟨h3.symm,k,h1,h2⟩
  ·rintro⟨h3,k,h1,h2⟩;exact⟨k,h1,h2,h3.symm⟩
 ·rename_i h
  simp[h]
theorem KM{s:Sp}{c j:Nat}:∀{i:Nat},(c,j)∈Fh s i↔j<i∧bit s.valid j=true∧∃ k∈nx s j,k.toNat=c
 |0=>by simp[Fh]
 |i+1=>by
  rw[Fh,Ai8,KM,YI]
  constructor
  ·rintro(⟨h1,h2⟩|⟨rfl,h2⟩)
   ·exact⟨by omega,h2⟩
   ·exact⟨by omega,h2⟩
  ·rintro⟨h1,h2⟩
   by_cases e:j=i
   ·subst e;exact .inr ⟨rfl,h2⟩
   ·exact .inl ⟨by omega,h2⟩
theorem UD{P:List (Nat × Nat)}{c:Nat}{x:Int}:x∈Uq P c↔∃ j:Nat,x=j∧(c,j)∈P:=by
 simp only[Uq,Ai5,List.mem_filter,beq_iff_eq]
 constructor
 ·rintro⟨⟨a,b⟩,⟨h1,rfl⟩,h3⟩;exact⟨b,h3.symm,h1⟩
 ·rintro⟨j,rfl,h⟩;exact⟨(c,j),⟨h,rfl⟩,rfl⟩
structure Found (s:Sp) (p q:List Bool) (n:Nat) (out:Nat→Bool) (come:List Nat):Prop where
 nodup:come.Nodup
 lt:∀ x∈come,x<n
 out:∀ i,i<n→(out i=true↔i∈come)
 reach:∀ x∈come,Reach s p q x
 base:∀ i,i<n→bit q i=true→bit s.valid i=true→i∈come
def Xm(s:Sp)(p:List Bool)(come:List Nat)(c:Nat):Prop:=∀ i,i<s.next.length→bit s.valid i=true→(c:Int)∈nx s i→bit p i=true→i∈come
theorem Found.len{s:Sp}{p q:List Bool}{n:Nat}{out:Nat→Bool}{come:List Nat}(h:Found s p q n out come):come.length≤n:=MA n come h.nodup h.lt
theorem Found.add{s:Sp}{p q:List Bool}{n:Nat}{out:Nat→Bool}{come:List Nat}(h:Found s p q n out come){i:Nat}(hi:i<n)(ho:out i=false)(hr:Reach s p q i):Found s p q n (fun k=>if k=i then true else out k) (come ++ [i]) where
 nodup:=by
  rw[Aj0]
  refine⟨h.nodup,by simp,fun a ha b hb=>?_⟩
  simp only[AhT]at hb
  subst hb
  rintro rfl
  rw[(h.out _ hi).2 ha]at ho
  cases ho
 lt x hx:=by
  rcases Ai8.1 hx with hx|hx
  ·exact h.lt x hx
  ·simp only[AhT]at hx;omega
 out k hk:=by
  by_cases e:k=i
  ·subst e;simp
  ·simp[e,h.out k hk]
 reach x hx:=by
  rcases Ai8.1 hx with hx|hx
  ·exact h.reach x hx
  ·simp only[AhT]at hx;subst hx;exact hr
 base k hk h1 h2:=AiP _ (h.base k hk h1 h2)
theorem Xm.more{s:Sp}{p:List Bool}{come:List Nat}{c:Nat}(h:Xm s p come c)(x:Nat):Xm s p (come ++ [x]) c:=fun i h1 h2 h3 h4=>AiP _ (h i h1 h2 h3 h4)
theorem Found.done{s:Sp}{p q:List Bool}{n:Nat}{out:Nat→Bool}{come:List Nat}(h:Found s p q n out come)(hn:s.valid.length=n)(hn':s.next.length=n)(hs:∀ c∈come,Xm s p come c){i:Nat}(hi:i<n):out i=true↔Reach s p q i:=by
 rw[h.out i hi]
 refine⟨h.reach i,fun hr=>?_⟩
 clear hi
 have hlt:∀ i,bit s.valid i=true→i<n:=by
  intro i hb
  rcases AiB i n with h|h
  ·exact h
  ·rw[bit,AhL,AiH (by omega)]at hb
   cases hb
 induction hr with
 |base i h1 h2=>exact h.base i (hlt i h2) h1 h2
 |step i k h1 h2 h3 hr ih=>exact hs k ih i (by have:=hlt i h2;omega) h2 h3 h1
theorem XY{s:Sp}{p q:List Bool}(hfp:Fit s p)(hfq:Fit s q):Ns 162 [s.av,aL aB p,aL aB q] (IM s p q):=by
 intro S
 refine cD ?_
 obtain⟨⟨hs1,hs2,hs3,hs4⟩,hn,hl,_,hb⟩:=hfq
 have hlp:=hfp.len
 dsimp only[AcU,Lf];unfold Sp.av
 refine Ai rfl fun S1 k1 n1 o1=>?_
 rw[Ac,Ae o1 rfl rfl]
 refine Ns.call (Mw q s.valid (by omega) (by omega)) fun x S2 k2 w2=>?_
 have hlen:∀ f:Nat→Bool,((CG q.length f).map fun b=>[aB b])=CG q.length fun i=>[aB (f i)]:=fun f=>Eu
 rw[Bm,hlen]at w2
 rw[w2.len,OE]
 have p2:=(k2.2 S.n (by omega)).trans o1
 replace w2:A4 S1.n S2 x 4 (CG q.length fun k=>[aB ((fun i=>bit q i && bit s.valid i) k)]):=w2
 generalize ho0:(fun i=>bit q i && bit s.valid i)=o0 at *
 refine We (fun y z S'=>Am S S'∧S'.obj S.n=some (.cells 45 [s.cells] true)∧∃ i:Nat,z=aI i∧i≤q.length∧A4 S1.n S' x 4 (CG q.length fun k=>[aB (o0 k)])∧
     A4 S1.n S' y 3 (((List.range i).filter o0).map fun i:Nat=>[aI i])∧DL y x)
  (fun _ y _=>q.length - ((Aw y).getD 0).toNat) ⟨k1.trans k2,p2,0,rfl,AhS _,w2,.nl _ _ _,fun i b m b' m' e=>by cases e⟩ ?_
 dsimp only[Dw]
 rintro y _ S3 ⟨k3,q3,i,rfl,hi,wx,wy,hap⟩ KE hKE
 dsimp only[fG,Fi]
 rw[As,Ag]
 refine Al (fun h=>?_) (fun h=>?_)
 ·have hlt:i<q.length:=by simpa using h
  obtain⟨id,rfl,hid,hid2,qx⟩:=A4.ix wx (i:=i) (by simpa using hlt)
  rw[Cf (by simpa using hlt) qx,Ae qx (by rw[AhZ];exact BR hlt) rfl,Ag]
  have hadd:∀ K:AV→Aa→Prop,∀ S,bin .add 0 (.v (.int .i64 (i:Int))) (.v (.int .i64 1)) S K=K (aI (i+1:Nat)) S:=fun K S=>Ar (by omega) (by omega) 0
  have hμ:q.length - ((Aw (aI (i+1:Nat))).getD 0).toNat<q.length - ((Aw (aI i)).getD 0).toNat:=by simp[Aw];omega
  refine Al (fun hoi=>?_) (fun hoi=>?_)
  ·refine BM rfl (fun _ h=>by cases h) ?_
   have hfl:=List.length_filter_le o0 (List.range i)
   refine wy.app (b:=8) (c:=[aI i]) (y:=.l [[aI i]]) (by omega) rfl (by simp at hfl ⊢;omega) (fun x' S5 ho5 hb5 hx5=>?_) rfl
   rw[hadd]
   obtain⟨m5,rfl⟩:=hx5
   refine hKE _ _ _ ⟨wy.AR (by omega) hb5 k3,?_,i+1,rfl,hlt,wx.P1 hb5 hap,?_,?_⟩ hμ
   ·rw[hb5.2 S.n (by have:=k3.1;omega) (fun b m e=>by have:=wy.lt e;omega)]
    exact q3
   ·rw[Ai7,AiW]
    simpa[hoi]using ho5
   ·intro a b m b' m' e1 e2
    cases e1
    cases e2
    omega
  ·rw[hadd]
   refine hKE _ _ _ ⟨k3,q3,i+1,rfl,hlt,wx,?_,hap⟩ hμ
   rw[Ai7,AiW]
   simpa[hoi]using wy
 ·have hge:i=q.length:=by simp at h;omega
  subst hge
  rw[An (n:=5) q3 rfl]
  refine Af (yH hfp) ?_
  have hF0:Found s p q q.length o0 ((List.range q.length).filter o0):=by
   refine⟨List.nodup_range.filter _,fun x hx=>?_,fun i hi=>by simp[hi],fun x hx=>?_,fun i hi h1 h2=>?_⟩
   ·simpa using(List.mem_filter.1 hx).1
   ·have:=(List.mem_filter.1 hx).2
    rw[←ho0]at this
    simp only[AhO]at this
    exact .base x this.1 this.2
   ·rw[List.mem_filter,←ho0]
    simp[hi,h1,h2]
  refine Wd (fun y z S'=>Am S S'∧∃(m:Nat) (out:Nat→Bool) (come:List Nat),z=aI m∧m≤come.length∧A4 S1.n S' x 4 (CG q.length fun k=>[aB (out k)])∧
      A4 S1.n S' y 3 (come.map fun i:Nat=>[aI i])∧DL y x∧Found s p q q.length out come∧∀ m' c,m'<m→come[m']? = some c→Xm s p come c)
   (fun _ z _=>q.length - ((Aw z).getD 0).toNat) ⟨k3,0,o0,_,rfl,AhS _,wx,wy,hap,hF0,fun m' c h=>absurd h (AhY _)⟩ ?_
  clear KE hKE hF0 hap wy wx hi q3 k3 h y S3
  rintro y _ S3 ⟨k3,m,out,come,rfl,hm,wx,wy,hap,hF,hsh⟩ KE hKE
  dsimp only[fE,Fi]
  rw[wy.len,As,Ag]
  have hcl:=hF.len
  refine Al (fun h=>?_) (fun h=>?_)
  ·have hlt:m<come.length:=by simpa using h
   obtain⟨id,rfl,hid,hid2,qy⟩:=A4.ix wy (i:=m) (by simpa using hlt)
   obtain⟨c,hc⟩:∃ c,come[m]? = some c:=⟨_,AhM hlt⟩
   have hcn:=hF.lt c (AiS hc)
   have hcA:c<(Nj s).length:=by simp[Nj];omega
   rw[Cf (by simpa using hlt) qy,Ae qy (c:=[aI c]) (u:=aI c) (by simp[hc]) rfl,AM hcA,A1,Ax]
   generalize hL:(Nj s)[c]=L
   have hLc:L=Uq (Fh s s.next.length) c:=by rw[←hL];simp[Nj,CG]
   have hLl:L.length≤9223372036854775807:=by
    have h1:=Up (Fh s s.next.length) c
    have h2:=Ky hfp.small s.next.length
    rw[hLc]
    omega
   refine Wb (fun y z S'=>Am S S'∧∃(j:Nat) (out:Nat→Bool) (come:List Nat),z=aI j∧j≤L.length∧m<come.length∧come[m]? = some c∧A4 S1.n S' x 4 (CG q.length fun k=>[aB (out k)])∧
       A4 S1.n S' y 3 (come.map fun i:Nat=>[aI i])∧DL y x∧Found s p q q.length out come∧(∀ m' c,m'<m→come[m']? = some c→Xm s p come c)∧∀(j' i:Nat),j'<j→L[j']? = some (i:Int)→bit p i=true→i∈come)
    (fun _ z _=>L.length - ((Aw z).getD 0).toNat) ⟨k3,0,out,come,rfl,AhS _,hlt,hc,wx,wy,hap,hF,hsh,fun j' i h=>absurd h (AhY _)⟩ ?_
   clear hsh hF hap wy wx hm k3 h hcl qy hid hid2 hlt hc
   rintro y _ S4 ⟨k4,j,out,come,rfl,hj,hlt,hc,wx,wy,hap,hF,hsh,hjs⟩ KE2 hKE2
   dsimp only[fD,Fi]
   rw[As,Ag]
   have hcl:=hF.len
   refine Al (fun h=>?_) (fun h=>?_)
   ·have hjl:j<L.length:=by simpa using h
    have hmem:L[j]∈Uq (Fh s s.next.length) c:=by rw[←hLc];exact AhP hjl
    obtain⟨i,hi,hpr⟩:=UD.1 hmem
    obtain⟨hin,hiv,k,hk,hkc⟩:=KM.1 hpr
    have hin':i<q.length:=by omega
    have hip:i<p.length:=by omega
    have hck:(c:Int)∈nx s i:=by
     have:=(hb i k hk).1
     rw[←hkc,Int.toNat_of_nonneg this];exact hk
    have hadd:∀ K:AV→Aa→Prop,∀ S,bin .add 0 (.v (.int .i64 (j:Int))) (.v (.int .i64 1)) S K=K (aI (j+1:Nat)) S:=fun K S=>Ar (by omega) (by omega) 0
    have hμ:L.length - ((Aw (aI (j+1:Nat))).getD 0).toNat<L.length - ((Aw (aI j)).getD 0).toNat:=by simp[Aw];omega
    obtain⟨id,rfl,hid,hid2,qx⟩:=A4.ix wx (i:=i) (by simpa using hin')
    have hjs':(bit p i=true→i∈come)→∀(j' i:Nat),j'<j+1→L[j']? = some (i:Int)→bit p i=true→i∈come:=by
     intro hh j' i' h1 h2 h3
     by_cases e:j'=j
     ·subst e
      rw[AhM hjl,hi]at h2
      have:i=i':=by simpa[Int.ofNat_inj]using h2
      subst this
      exact hh h3
     ·exact hjs j' i' (by omega) h2 h3
    rw[AM hjl,A1,hi,Cf (by simpa using hin') qx,Ae qx (by rw[AhZ];exact BR hin') rfl,AJ,Ag]
    refine Al (fun hoi=>?_) (fun hoi=>?_)
    ·have hoi:out i=false:=by simpa using hoi
     rw[AM hip,A1,Ag]
     refine Al (fun hpi=>?_) (fun hpi=>?_)
     ·rw[←Bc hip]at hpi
      rw[Cf (by simpa using hin') qx]
      refine B9 qx (by rw[AhZ];exact BR hin') rfl fun S5 n5 o5 f5=>?_
      refine BM rfl (fun _ h=>by cases h) ?_
      have wy5:=wy.st (S':=S5) (id:=id) (fun b m e=>hap _ _ _ _ _ e rfl) n5 f5
      refine wy5.app (b:=8) (c:=[aI i]) (y:=.l [[aI i]]) (by omega) rfl (by simp;omega) (fun x' S6 ho6 hb6 hx6=>?_) rfl
      rw[hadd]
      obtain⟨m6,rfl⟩:=hx6
      have wx5:A4 S1.n S5 (.s id 0 (CG q.length fun k=>[aB (out k)]).length) 4 (CG q.length fun k=>[aB (if k=i then true else out k)]):=by
       refine .inr ⟨id,by simp,hid,by omega,?_⟩
       rw[o5,AhZ,Fc]
       congr 2
       refine BU fun k hk=>?_
       split<;>rfl
      have hr:Reach s p q i:=.step i c hpi hiv hck (hF.reach c (AiS hc))
      have hget:∀{m' c':Nat},m'<come.length→(come ++ [i])[m']? = some c'→come[m']? = some c':=fun h1 h2=>by rwa [List.getElem?_append_left h1]at h2
      refine hKE2 _ _ _ ⟨wy5.AR (by omega) hb6 (k4.st (by omega) n5 f5),j+1,_,come ++ [i],rfl,hjl,by simp;omega,by rw[List.getElem?_append_left hlt];exact hc,wx5.P1 hb6 hap,by simpa using ho6,?_,hF.add hin' hoi hr,?_,?_⟩ hμ
      ·intro a b m b' m' e1 e2
       cases e1
       cases e2
       omega
      ·intro m' c' h1 h2
       exact(hsh m' c' h1 (hget (by omega) h2)).more i
      ·intro j' i' h1 h2 h3
       by_cases e:j'=j
       ·subst e
        rw[AhM hjl,hi]at h2
        have:i=i':=by simpa[Int.ofNat_inj]using h2
        subst this
        simp
       ·exact AiP _ (hjs j' i' (by omega) h2 h3)
     ·rw[←Bc hip]at hpi
      rw[hadd]
      exact hKE2 _ _ _ ⟨k4,j+1,out,come,rfl,hjl,hlt,hc,wx,wy,hap,hF,hsh,hjs' (fun h=>by rw[hpi]at h;cases h)⟩ hμ
    ·have hoi:out i=true:=by simpa using hoi
     rw[hadd]
     exact hKE2 _ _ _ ⟨k4,j+1,out,come,rfl,hjl,hlt,hc,wx,wy,hap,hF,hsh,hjs' (fun h=>(hF.out i hin').1 hoi)⟩ hμ
   ·have hge:j=L.length:=by simp at h;omega
    subst hge
    rw[Ar (by omega) (by omega)]
    refine hKE _ _ _ ⟨k4,m+1,out,come,rfl,hlt,wx,wy,hap,hF,?_⟩ (by simp[Aw];omega)
    intro m' c' h1 h2
    by_cases e:m'=m
    ·subst e
     rw[hc]at h2
     cases h2
     intro i h3 h4 h5 h6
     have:(i:Int)∈L:=by
      rw[hLc]
      exact UD.2 ⟨i,rfl,KM.2 ⟨h3,h4,c,h5,by simp⟩⟩
     obtain⟨j',hj',e⟩:=List.mem_iff_getElem.1 this
     exact hjs j' i hj' (by rw[AhM hj',e]) h6
    ·exact hsh m' c' (by omega) h2
  ·have hge:m=come.length:=by simp at h;omega
   subst hge
   refine⟨_,rfl,k3,?_⟩
   have e:((IM s p q).map fun b=>[aB b])=CG q.length fun k=>[aB (out k)]:=by
    rw[IM,Eu]
    refine BU fun i hi=>?_
    have hd:=hF.done (by omega) (by omega) (fun c hc=>by
     obtain⟨m',hm',rfl⟩:=List.mem_iff_getElem.1 hc
     exact hsh m' _ hm' (AhM hm')) hi
    congr 2
    cases ho:out i with
    |true=>simpa using hd.1 ho
    |false=>simpa using fun hr=>by rw[hd.2 hr]at ho;cases ho
   rw[e]
   exact wx.low (by omega)
theorem yG(b:Bool){l:List Bool}(hl:l.length≤9223372036854775807):BF Pg 188 [aL aB l,aB b] (aI (idxOf (l.findIdx? (b == ·)))):=by
 intro S
 refine bG ?_
 unfold Ac7
 rw[Ax]
 refine V2 (fun y S'=>S'=S∧∃ i:Nat,y=aI i∧i≤l.length∧∀ k (hk:k<l.length),k<i→(b == l[k])=false) (fun y _=>l.length - ((Aw y).getD 0).toNat) ⟨rfl,0,rfl,AhS _,fun k _ h=>absurd h (AhY _)⟩ ?_
 dsimp only[BS]
 rintro _ _ ⟨rfl,i,rfl,hi,hk⟩ KE hKE
 dsimp only[eU,Fi]
 rw[As,Ag]
 refine Al (fun h=>?_) (fun h=>?_)
 ·have hlt:i<l.length:=by simpa using h
  rw[AM hlt,A1,Kd,Ag]
  refine Al (fun hg=>⟨?_,rfl⟩) (fun hg=>?_)
  ·rw[JG (g:=(b == ·)) hlt hg (fun k hk'=>hk k _ hk')];rfl
  ·rw[Ar (by omega) (by omega)]
   refine hKE _ _ ⟨rfl,i+1,rfl,hlt,fun k hk1 hk2=>?_⟩ ?_
   ·by_cases e:k=i
    ·subst e;exact hg
    ·exact hk k hk1 (by omega)
   ·simp[Aw];omega
 ·have hge:i=l.length:=by simp at h;omega
  subst hge
  rw[F1 (g:=(b == ·)) (fun k hk'=>hk k hk' hk')]
  exact⟨rfl,rfl⟩
theorem yM(b:Bool){l:List Bool}(hl:l.length≤9223372036854775807):BF Pg 169 [aL aB l,aB b] (aB (l.any (b == ·))):=by
 intro S
 refine bZ ?_
 unfold AcO
 refine Af (yG b hl) ?_
 rw[BH,JD]
 exact⟨rfl,rfl⟩
theorem yL{a b:List Bool}(hl:a.length≤9223372036854775807):BF Pg 170 [aL aB a,aL aB b] (aB (decide (a=b))):=by
 intro S
 refine bY ?_
 dsimp only[AcN,Fi]
 rw[Ax,Ax,Bl,Ag]
 refine Al (fun h=>⟨?_,rfl⟩) (fun h=>?_)
 ·have:¬ a=b:=fun e=>by subst e;simp at h
  simp[this]
 have hab:a.length=b.length:=by simp at h;omega
 rw[Ax]
 refine V8 (fun y S'=>S'=S∧∃ i:Nat,y=aI i∧i≤a.length∧∀ k,k<i→a[k]? = b[k]?) (fun y _=>a.length - ((Aw y).getD 0).toNat) ⟨rfl,0,rfl,AhS _,fun k h=>absurd h (AhY _)⟩ ?_
 dsimp only[BS]
 rintro _ _ ⟨rfl,i,rfl,hi,hk⟩ KE hKE
 dsimp only[fA,Fi,Lq]
 rw[As,Ag]
 refine Al (fun h=>?_) (fun h=>?_)
 ·have hlt:i<a.length:=by simpa using h
  have hlt':i<b.length:=by omega
  refine⟨_,by rw[AM hlt];exact⟨rfl,rfl⟩,_,by rw[A1];exact⟨rfl,rfl⟩,_,by rw[AM hlt'];exact⟨rfl,rfl⟩,_,by rw[A1];exact⟨rfl,rfl⟩,_,by rw[DI];exact⟨rfl,rfl⟩,?_⟩
  rw[Ag]
  refine Al (fun hg=>⟨?_,rfl⟩) (fun hg=>?_)
  ·have:¬ a=b:=fun e=>by subst e;simp at hg
   simp[this]
  ·rw[Ar (by omega) (by omega)]
   refine hKE _ _ ⟨rfl,i+1,rfl,hlt,fun k hk2=>?_⟩ ?_
   ·by_cases e:k=i
    ·subst e
     rw[AhM hlt,AhM hlt']
     simpa using hg
    ·exact hk k (by omega)
   ·simp[Aw];omega
 ·have hge:i=a.length:=by simp at h;omega
  subst hge
  have:a=b:=by
   apply List.ext_getElem?
   intro k
   by_cases hk':k<a.length
   ·exact hk k hk'
   ·rw[AiH (by omega),AiH (by omega)]
  exact⟨by simp[this],rfl⟩
theorem FJ{p:List Bool}{i:Nat}(h:p.length≤i):bit p i=false:=by simp[bit,AhL,h]
theorem Cd{p:List Bool}{i:Nat}(h:bit p i=true):i<p.length:=by
 rcases AiB i p.length with h'|h'
 ·exact h'
 ·rw[FJ h']at h;cases h
theorem CY{n:Nat}{f:Nat→Bool}{i:Nat}(h:i<n):bit (CG n f) i=f i:=by rw[bit,AhL,BR h];rfl
theorem Bi(a b:List Bool)(i:Nat):bit (Bm a b) i=(bit a i && bit b i):=by
 rcases AiB i a.length with h|h
 ·rw[Bm,CY h]
 ·rw[FJ (by simpa[Bm]using h),FJ h];rfl
@[simp] theorem DJ(a b:List Bool):(Bm a b).length=a.length:=by simp[Bm]
@[simp] theorem AgO(s:Sp)(p:List Bool):(Ny s p).length=p.length:=by simp[Ny]
@[simp] theorem PU(s:Sp)(p q:List Bool):(IM s p q).length=q.length:=by simp[IM]
theorem K0{s:Sp}{p:List Bool}{i:Nat}:bit (Ny s p) i=true↔i<p.length∧bit s.valid i=true∧∃ k∈nx s i,bit p k.toNat=true:=by
 constructor
 ·intro h
  have hi:i<p.length:=by simpa using Cd h
  rw[Ny,CY hi]at h
  simpa[hi]using h
 ·rintro⟨hi,h⟩
  rw[Ny,CY hi]
  simpa using h
theorem D1{s:Sp}{p q:List Bool}{i:Nat}:bit (IM s p q) i=true↔i<q.length∧Reach s p q i:=by
 constructor
 ·intro h
  have hi:i<q.length:=by simpa using Cd h
  rw[IM,CY hi]at h
  exact⟨hi,by simpa using h⟩
 ·rintro⟨hi,h⟩
  rw[IM,CY hi]
  simpa using h
def Sub(a b:List Bool):Prop:=∀ i,bit a i=true→bit b i=true
theorem Sub.refl(a:List Bool):Sub a a:=fun _ h=>h
theorem Sub.trans{a b c:List Bool}(h:Sub a b)(k:Sub b c):Sub a c:=fun i hi=>k i (h i hi)
theorem Reach.mono{s:Sp}{p q p' q':List Bool}(hp:Sub p p')(hq:Sub q q'){i:Nat}(h:Reach s p q i):Reach s p' q' i:=by
 induction h with
 |base i h1 h2=>exact .base i (hq i h1) h2
 |step i k h1 h2 h3 h ih=>exact .step i k (hp i h1) h2 h3 ih
theorem aM{s:Sp}{p p':List Bool}(h:Sub p p')(hl:p.length≤p'.length):Sub (Ny s p) (Ny s p'):=by
 intro i hi
 rw[K0]at hi ⊢
 obtain⟨h1,h2,k,h3,h4⟩:=hi
 exact⟨by omega,h2,k,h3,h _ h4⟩
theorem aO{s:Sp}{p q p' q':List Bool}(hp:Sub p p')(hq:Sub q q')(hl:q.length≤q'.length):Sub (IM s p q) (IM s p' q'):=by
 intro i hi
 rw[D1]at hi ⊢
 exact⟨by omega,hi.2.mono hp hq⟩
theorem Oy{a b a' b':List Bool}(ha:Sub a a')(hb:Sub b b'):Sub (Bm a b) (Bm a' b'):=by
 intro i hi
 rw[Bi,AhO]at hi ⊢
 exact⟨ha i hi.1,hb i hi.2⟩
theorem PT{a b:List Bool}(hl:a.length=b.length)(h:∀ i,bit a i=bit b i):a=b:=by
 rw[LD a,LD b,hl]
 exact BU fun i _=>h i
theorem Sub.yE{a b:List Bool}(hl:a.length=b.length)(h:Sub a b)(k:Sub b a):a=b:=
 PT hl fun i=>by
  cases ha:bit a i with
  |true=>exact(h i ha).symm
  |false=>cases hb:bit b i with
   |true=>rw[k i hb]at ha;cases ha
   |false=>rfl
def D8 (s:Sp) (z f:List Bool):List Bool:=Bm z (Ny s (IM s z (Bm z f)))
@[simp] theorem Aa1(s:Sp)(z f:List Bool):(D8 s z f).length=z.length:=by simp[D8]
theorem NO(s:Sp)(z f:List Bool):Sub (D8 s z f) z:=fun i h=>by
 rw[D8,Bi,AhO]at h
 exact h.1
theorem Gn{s:Sp}{z z' f:List Bool}(h:Sub z z')(hl:z.length≤z'.length):Sub (D8 s z f) (D8 s z' f):=
 Oy h (aM (aO h (Oy h (Sub.refl f)) (by simpa using hl)) (by simpa using hl))
def rP(s:Sp)(fs:List (List Bool))(z:List Bool):Prop:=∀ f∈fs,Sub z (D8 s z f)
def Bs(s:Sp):List (List Bool):=if s.fair.isEmpty then[s.valid]else s.fair
def AgL(s:Sp)(p:List Bool)(i:Nat):Prop:=∃ z:List Bool,z.length=p.length∧Sub z (Bm p s.valid)∧rP s (Bs s) z∧bit z i=true
open Classical in
def DO (s:Sp) (p:List Bool):List Bool:=CG p.length fun i=>decide (AgL s p i)
@[simp] theorem PW(s:Sp)(p:List Bool):(DO s p).length=p.length:=by simp[DO]
theorem K1{s:Sp}{p:List Bool}{i:Nat}:bit (DO s p) i=true↔AgL s p i:=by
 constructor
 ·intro h
  have hi:i<p.length:=by simpa using Cd h
  rw[DO,CY hi]at h
  simpa using h
 ·intro h
  have hi:i<p.length:=by
   obtain⟨z,hl,hs,_,hz⟩:=h
   rw[←hl];exact Cd hz
  rw[DO,CY hi]
  simpa using h
def HV(s:Sp)(p z:List Bool):Prop:=∀ y:List Bool,y.length=p.length→Sub y (Bm p s.valid)→rP s (Bs s) y→Sub y z
theorem U7{s:Sp}{p z:List Bool}(hl:z.length=p.length)(hs:Sub z (Bm p s.valid))(ha:HV s p z)(hst:rP s (Bs s) z):z=DO s p:=by
 refine Sub.yE (by simpa using hl) (fun i hi=>K1.2 ⟨z,hl,hs,hst,hi⟩) (fun i hi=>?_)
 obtain⟨y,h1,h2,h3,h4⟩:=K1.1 hi
 exact ha y h1 h2 h3 i h4
theorem HV.step{s:Sp}{p z f:List Bool}(h:HV s p z)(hl:z.length=p.length)(hf:f∈Bs s):HV s p (D8 s z f):=fun y h1 h2 h3 =>
 (h3 f hf).trans (Gn (h y h1 h2 h3) (by omega))
theorem mG{s:Sp}{p z:List Bool}(hl:z.length=p.length)(ha:HV s p z)(hz:∀ i,bit z i=false):z=DO s p:=
 U7 hl (fun i h=>by rw[hz]at h;cases h) ha (fun f _ i h=>by rw[hz]at h;cases h)
theorem rD{l:List Bool}(h:l.any (true == ·)=false)(i:Nat):bit l i=false:=by
 cases hb:bit l i with
 |false=>rfl
 |true =>
  have hi:=Cd hb
  rw[Bc hi]at hb
  have:l.any (true == ·)=true:=List.any_eq_true.2 ⟨_,AhP hi,by simp[hb]⟩
  rw[this]at h;cases h
def Nz(l:List Bool):Nat:=(l.filter id).length
theorem J9:∀{a b:List Bool},a.length=b.length→Sub a b→Nz a≤Nz b∧(Nz a=Nz b→a=b)
 |[],[],_,_=>⟨AhN _,fun _=>rfl⟩
 |x :: a,y :: b,hl,h=>by
  have ih:=J9 (a:=a) (b:=b) (by simpa using hl) (fun i hi=>by have:=h (i+1) (by simpa[bit]using hi);simpa[bit]using this)
  have h0:=h 0
  simp only[bit,List.getD_cons_zero]at h0
  have h1:=ih.1
  cases x<;>cases y<;>simp only[Nz,List.filter_cons,id,if_true,if_false,Bool.false_eq_true,List.length_cons]at h1 ih ⊢
  ·exact⟨h1,fun e=>by rw[ih.2 e]⟩
  ·exact⟨by omega,fun e=>by omega⟩
  ·exact absurd (h0 rfl) (by simp)
  ·exact⟨by omega,fun e=>by rw[ih.2 (by omega)]⟩
theorem Fit.with{s:Sp}{p q:List Bool}(h:Fit s p)(hl:q.length=s.valid.length):Fit s q:=⟨h.small,h.next,hl,h.fair,h.behind⟩
theorem NX{s:Sp}{p:List Bool}(h:Fit s p){f:List Bool}(hf:f∈Bs s):f.length=s.valid.length:=by
 unfold Bs at hf
 split at hf
 ·simp only[AhT]at hf;subst hf;rfl
 ·exact h.fair f hf
theorem Oi{s:Sp}(h:s.small):(Bs s).length<1048576:=by
 unfold Bs
 split
 ·simp
 ·exact h.2.2.1
theorem lI{s:Sp}{p:List Bool}(hf:Fit s p){S S1:Aa}(k1:Am S S1)(o1:S1.obj S.n=some (.cells 45 [s.cells] true)):
    Ap H7 (vc Pg (Lw.at_ [1,0,1,1,1,1,0,0,0]) (FR.drop 1)) 47 (HJ (.p S.n 0 0) (aL (aL aB) (Bs s)) (aL aB (Bm p s.valid))) S1 (Ak 0 (Av (vc Pg (Lw.at_ [1,0,1,1,1,1,1]) (FR.drop 2)) (Kw (Ao Pg XP fun e S'=>e = .ret (aL aB (DO s p))∧Am S S')))):=by
 have hs:=hf.small
 have hfl:=hf.len
 have hsl:=hs.1
 have hfll:=Oi hs
 refine Wi (fun y S'=>S'=S1∧∃ z,y=aL aB z∧z.length=p.length∧Sub z (Bm p s.valid)∧HV s p z) (fun y _=>Nz (avB y)) ⟨rfl,_,rfl,by simp,Sub.refl _,fun y _ h _=>h⟩ ?_
 dsimp only[BS]
 rintro _ S1 ⟨rfl,was,rfl,hwl,hws,hwa⟩ KE hKE
 unfold fK
 rw[Ax]
 refine Wh (fun y x S'=>S'=S1∧∃(z:List Bool) (i:Nat),y=aL aB z∧x=aI i∧i≤(Bs s).length∧z.length=p.length∧Sub z was∧HV s p z∧∀ f∈(Bs s).take i,Sub z (D8 s was f))
  (fun _ x _=>(Bs s).length - ((Aw x).getD 0).toNat) ⟨rfl,was,0,rfl,rfl,AhS _,hwl,Sub.refl _,hwa,fun f h=>by simp at h⟩ ?_
 dsimp only[Dw]
 rintro _ _ S1 ⟨rfl,z,i,rfl,rfl,hi,hzl,hzw,hza,hst⟩ KE1 hKE1
 dsimp only[fJ,Fi,Lq,Ld]
 rw[As,Ag]
 refine Al (fun h=>?_) (fun h=>?_)
 ·have hlt:i<(Bs s).length:=by simpa using h
  rw[AM hlt,A1]
  have hfm:=AhP hlt
  generalize hfi:(Bs s)[i]=f at *
  have hfle:=NX hf hfm
  have hzf:Fit s z:=hf.with (by omega)
  have haf:Fit s (Bm z f):=hf.with (by simp;omega)
  have huf:Fit s (IM s z (Bm z f)):=hf.with (by simp;omega)
  refine⟨s.av,by rw[An (n:=5) o1 rfl];exact⟨rfl,rfl⟩,s.av,by rw[An (n:=5) o1 rfl];exact⟨rfl,rfl⟩,_,Af (Mw z f (by omega) (by omega)).NA ⟨rfl,rfl⟩,_,Af (XY hzf haf).NA ⟨rfl,rfl⟩,_,
   Af (iO huf) ⟨rfl,rfl⟩,_,Af (Mw z _ (by omega) (by simp)).NA ⟨rfl,rfl⟩,?_⟩
  have hz':HV s p (D8 s z f):=hza.step hzl hfm
  refine Af (yM true (by simp;omega)) ?_
  rw[AJ,Ag]
  refine Al (fun h=>⟨?_,k1⟩) (fun h=>?_)
  ·have:=rD (l:=D8 s z f) (by rw[Ai6]at h;exact h)
   rw[←mG (by simpa using hzl) hz' this]
   rfl
  ·rw[Ar (by omega) (by omega)]
   refine hKE1 _ _ _ ⟨rfl,D8 s z f,i+1,rfl,rfl,hlt,by simpa using hzl,(NO s z f).trans hzw,hz',fun g hg=>?_⟩ (by simp[Aw];omega)
   rw[AiA,AhM hlt,hfi]at hg
   rcases Ai8.1 hg with hg|hg
   ·exact(NO s z f).trans (hst g hg)
   ·have:g=f:=by simpa using hg
    subst this
    exact Gn hzw (by omega)
 ·have hge:i=(Bs s).length:=by simp at h;omega
  subst hge
  rw[AiM]at hst
  refine Af (yL (by omega)) ?_
  rw[Ag]
  refine Al (fun h=>⟨?_,k1⟩) (fun h=>?_)
  ·have:was=z:=by simpa using h
   subst this
   rw[←U7 hzl hws hza hst]
  ·have hne:¬ was=z:=by simpa using h
   refine hKE _ _ ⟨rfl,z,rfl,hzl,hzw.trans hws,hza⟩ ?_
   have:=J9 (a:=z) (b:=was) (by omega) hzw
   rw[gV,gV]
   have h2:Nz z≠Nz was:=fun e=>hne (this.2 e).symm
   omega
theorem yQ{s:Sp}{p:List Bool}(hf:Fit s p):BF Pg 150 [s.av,aL aB p] (aL aB (DO s p)):=by
 intro S
 refine Ad.B2 (f:=fun b=>.bool b) (cP ?_)
 have hs:=hf.small
 have hfl:=hf.len
 have hsl:=hs.1
 dsimp only[Ad6,SG,Fi,Lf];unfold Sp.av
 refine Ai rfl fun S1 k1 n1 o1=>?_
 rw[Ac,Ae o1 rfl rfl,Ax,AA,Ag]
 have hl:=lI hf k1 o1
 refine Al (fun h=>?_) (fun h=>?_)
 ·have he:s.fair = []:=List.eq_nil_of_length_eq_zero (by simpa using h)
  rw[Ac,Ae o1 rfl rfl]
  refine BM rfl (fun _ h=>by cases h) ?_
  rw[Ac,Ae o1 rfl rfl]
  refine Af (Mw p s.valid (by omega) (by omega)).NA ?_
  have:Bs s = [s.valid]:=by simp[Bs,he]
  rw[this]at hl
  exact hl
 ·have he:s.fair.isEmpty=false:=by
    cases hq:s.fair with
    |nil=>rw[hq]at h;simp at h
    |cons x l=>rfl
  rw[Ac,Ae o1 rfl rfl]
  refine Af (Mw p s.valid (by omega) (by omega)).NA ?_
  have:Bs s=s.fair:=by simp[Bs,he]
  rw[this]at hl
  exact hl
def Xw (s:Sp) (p:List Bool):List Bool:=if fits s [p]then Ny s p else[]
def jS (s:Sp) (p q:List Bool):List Bool:=if fits s [p,q]then IM s p q else[]
def vV (s:Sp) (p:List Bool):List Bool:=if fits s [p]then DO s p else[]
theorem Ad.Jc{P:Program}{fn:FuncId}{args:List AV}{S:Aa}(h:Ad P fn args S (fun r S'=>r = .ret .nl∧Am S S')):AT P fn args S (.l []):=
 Ad.tree (Ad.mono h fun r S' ⟨h1,h2⟩=>⟨_,h1,h2,.nl⟩)
theorem yF{s:Sp}(hs:s.small)(p:List Bool):BF Pg 189 [s.av,aL aB p] (aL aB (Xw s p)):=by
 intro S
 cases hfit:fits s [p]with
 |false =>
  rw[Xw,hfit]
  refine Ad.Jc (RJ ?_)
  dsimp only[xE,Fi]
  refine Ai rfl fun S1 k1 n1 o1=>?_
  rw[An (n:=5) o1 rfl]
  refine BM rfl (fun _ h=>by cases h) ?_
  refine Af (K3 s hs [p] (by simp)) ?_
  rw[hfit,AJ,Ag]
  exact⟨rfl,k1⟩
 |true =>
  rw[Xw,hfit]
  refine Ad.B2 (f:=fun b=>.bool b) (RJ ?_)
  dsimp only[xE,Fi]
  refine Ai rfl fun S1 k1 n1 o1=>?_
  rw[An (n:=5) o1 rfl]
  refine BM rfl (fun _ h=>by cases h) ?_
  refine Af (K3 s hs [p] (by simp)) ?_
  rw[hfit,AJ,Ag]
  rw[show(!true)=false from rfl,A2,An (n:=5) o1 rfl]
  exact Af (iO (Fit.of hs hfit (by simp))) ⟨rfl,k1⟩
theorem iV{s:Sp}(hs:s.small)(p:List Bool):BF Pg 131 [s.av,aL aB p] (aL aB (vV s p)):=by
 intro S
 cases hfit:fits s [p]with
 |false =>
  rw[vV,hfit]
  refine Ad.Jc (RL ?_)
  dsimp only[xG,Fi]
  refine Ai rfl fun S1 k1 n1 o1=>?_
  rw[An (n:=5) o1 rfl]
  refine BM rfl (fun _ h=>by cases h) ?_
  refine Af (K3 s hs [p] (by simp)) ?_
  rw[hfit,AJ,Ag]
  exact⟨rfl,k1⟩
 |true =>
  rw[vV,hfit]
  refine Ad.B2 (f:=fun b=>.bool b) (RL ?_)
  dsimp only[xG,Fi]
  refine Ai rfl fun S1 k1 n1 o1=>?_
  rw[An (n:=5) o1 rfl]
  refine BM rfl (fun _ h=>by cases h) ?_
  refine Af (K3 s hs [p] (by simp)) ?_
  rw[hfit,AJ,Ag]
  rw[show(!true)=false from rfl,A2,An (n:=5) o1 rfl]
  exact Af (yQ (Fit.of hs hfit (by simp))) ⟨rfl,k1⟩
theorem iS{s:Sp}(hs:s.small)(p q:List Bool):BF Pg 143 [s.av,aL aB p,aL aB q] (aL aB (jS s p q)):=by
 intro S
 cases hfit:fits s [p,q]with
 |false =>
  rw[jS,hfit]
  refine Ad.Jc (RK ?_)
  dsimp only[xF,Fi]
  refine Ai rfl fun S1 k1 n1 o1=>?_
  rw[An (n:=5) o1 rfl]
  refine eO rfl rfl ?_
  refine Af (K3 s hs [p,q] (by simp)) ?_
  rw[hfit,AJ,Ag]
  exact⟨rfl,k1⟩
 |true =>
  rw[jS,hfit]
  refine Ad.B2 (f:=fun b=>.bool b) (RK ?_)
  dsimp only[xF,Fi]
  refine Ai rfl fun S1 k1 n1 o1=>?_
  rw[An (n:=5) o1 rfl]
  refine eO rfl rfl ?_
  refine Af (K3 s hs [p,q] (by simp)) ?_
  rw[hfit,AJ,Ag]
  rw[show(!true)=false from rfl,A2,An (n:=5) o1 rfl]
  exact Af (XY (Fit.of hs hfit (by simp)) (Fit.of hs hfit (by simp))).NA ⟨rfl,k1⟩
section
set_option maxRecDepth 100000
def qU:Code:=(Tryz.f122.body).getD .skip
def Ab5:List ResultVar:=Tryz.f122.results.toList
def HL(y1 y3 y7 y8:AV):List AV:=[y1,y3,y7,y8]
def Py:List Nat:=[1,3,7,8]
def Q9:List (List Nat):=[Py,[]]
def Y8(x0 x1 x2:AV)(S:Aa)(Q:Aq):Prop:=
 Az 45 5 x0 S fun a S=>AB 5 a S fun c S=>Ah Pg 118 [c,x1] S Q fun d S=>un .not d S fun e S=>Fi e (Q (.ret .nl) S) (AB 5 a S fun f S=>Ah Pg 118 [f,x2] S Q fun g S=>un .not g S fun h S=>Fi h (Q (.ret .nl) S) (Lf a 1 S fun i S=>Ah Pg 119 [x2,i] S Q fun k S=>Ap Py (vc Pg (qU.at_ [1,1,1,0,1,0,0]) (Q9.drop 1)) 46 (HL x1 a k (aI 0)) S (Ak 0 (Av (vc Pg (qU.at_ [1,1,1,1]) (Q9.drop 1)) (Ao Pg Ab5 Q)))))
theorem Nc{x0 x1 x2:AV}{S:Aa}{Q:Aq}(h:Y8 x0 x1 x2 S Q):Ad Pg 122 [x0,x1,x2] S Q:=
 Bj (n:=46) Q9 Tryz.func122 (by kernel_rfl) (Eq.mpr (by kernel_rfl) h)
def gB(y1 y3 y7 y8:AV)(S:Aa)(KE0:By)(Q:Aq):Prop:=
 AF y1 S fun a S=>bin .lss 0 y8 a S fun c S=>Fi c ((fun S0:Aa=>Lq S0 (shift y3 1) fun d=>Lq S0 (Ay d) fun e=>Ld S0 119 [y1,e] fun f=>Lq S0 (AB 5 y3) fun g=>Ld S0 121 [g,y7] fun h=>Ld S0 119 [f,h] fun i=>Ld S0 146 [y7,i] fun k=>Ah Pg 123 [k,y7] S Q fun l S=>Fi l (Q (.ret y7) S) (bin .add 0 y8 (aI 1) S fun m S=>KE0 46 (HL y1 y3 k m) S)) S) (Q (.ret y7) S)
theorem Ww{y1 y3:AV}{y70 y80:AV}{S:Aa}{Q:Aq}(I:AV→AV→Aa→Prop)(μ:AV→AV→Aa→Nat)(h0:I y70 y80 S)(hr:Dw (fun y7 y8=>HL y1 y3 y7 y8) 46 I μ fun y7 y8 S KE0=>gB y1 y3 y7 y8 S KE0 Q):
 Ap Py (vc Pg (qU.at_ [1,1,1,0,1,0,0]) (Q9.drop 1)) 46 (HL y1 y3 y70 y80) S (Ak 0 (Av (vc Pg (qU.at_ [1,1,1,1]) (Q9.drop 1)) (Ao Pg Ab5 Q))):=IB (E:=fun y7 y8=>HL y1 y3 y7 y8) 2 3 (fun _ _=>⟨rfl,rfl⟩) (fun _ _ _ _=>by kernel_rfl) h0 hr
def Xs:Code:=(Tryz.f85.body).getD .skip
def r85:List ResultVar:=Tryz.f85.results.toList
def JJ(y1 y2 y5 y6:AV):List AV:=[y1,y2,y5,y6]
def ML:List Nat:=[1,2,5,6]
def JI(y1 y2 y5 y6 y7 y8 y9:AV):List AV:=[y1,y2,y5,y6,y7,y8,y9]
def SN:List Nat:=[1,2,5,6,7,8,9]
def KG:List (List Nat):=[ML,SN,[]]
def m85(x0 x1:AV)(S:Aa)(Q:Aq):Prop:=
 Az 45 5 x0 S fun a S=>AB 5 a S fun c S=>Ah Pg 118 [c,x1] S Q fun d S=>un .not d S fun e S=>Fi e (Q (.ret .nl) S) (Lf a 1 S fun f S=>Ah Pg 119 [x1,f] S Q fun g S=>Ap ML (vc Pg (Xs.at_ [1,1,1,0,1,0,0]) (KG.drop 1)) 52 (JJ x1 a g (aI 0)) S (Ak 0 (Av (vc Pg (Xs.at_ [1,1,1,1]) (KG.drop 2)) (Ao Pg r85 Q))))
theorem Vd{x0 x1:AV}{S:Aa}{Q:Aq}(h:m85 x0 x1 S Q):Ad Pg 85 [x0,x1] S Q:=
 Bj (n:=52) KG Tryz.func85 (by kernel_rfl) (Eq.mpr (by kernel_rfl) h)
def tG(y1 y2 y5 y6:AV)(S:Aa)(KE0:By)(Q:Aq):Prop:=
 AF y1 S fun a S=>bin .leq 0 y6 a S fun c S=>Fi c (AB 5 y2 S fun d S=>Ah Pg 120 [d] S Q fun e S=>Ap SN (vc Pg (Xs.at_ [1,1,1,0,1,0,0,1,0,0,1,1,0,1,0,0]) (KG.drop 2)) 52 (JI y1 y2 y5 y6 e y5 (aI 0)) S (Ak 2 (Av (vc Pg (Xs.at_ [1,1,1,0,1,0,0,1,0,0,1,1,1]) (KG.drop 2)) (Ak 1 (Av (vc Pg (Xs.at_ [1,1,1,0,1,0,0,1,1]) (KG.drop 2)) (BV (Hc ML KE0) (Ak 0 (Av (vc Pg (Xs.at_ [1,1,1,1]) (KG.drop 2)) (Ao Pg r85 Q))))))))) (Q (.ret y5) S)
theorem Ze{y1 y2:AV}{y50 y60:AV}{S:Aa}{Q:Aq}(I:AV→AV→Aa→Prop)(μ:AV→AV→Aa→Nat)(h0:I y50 y60 S)(hr:Dw (fun y5 y6=>JJ y1 y2 y5 y6) 52 I μ fun y5 y6 S KE0=>tG y1 y2 y5 y6 S KE0 Q):
 Ap ML (vc Pg (Xs.at_ [1,1,1,0,1,0,0]) (KG.drop 1)) 52 (JJ y1 y2 y50 y60) S (Ak 0 (Av (vc Pg (Xs.at_ [1,1,1,1]) (KG.drop 2)) (Ao Pg r85 Q))):=IB (E:=fun y5 y6=>JJ y1 y2 y5 y6) 2 3 (fun _ _=>⟨rfl,rfl⟩) (fun _ _ _ _=>by kernel_rfl) h0 hr
def tF(y1 y2 y5 y6 y7 y8 y9:AV)(S:Aa)(KE1:By)(KE0:By)(Q:Aq):Prop:=
 AF y7 S fun a S=>bin .lss 0 y9 a S fun c S=>Fi c ((fun S0:Aa=>Lq S0 (AB 5 y2) fun d=>Lq S0 (AB 5 y2) fun e=>Lq S0 (AS 41 1 y7 y9) fun f=>Lq S0 (Ay f) fun g=>Ld S0 119 [y5,g] fun h=>Ld S0 122 [e,y5,h] fun i=>Ld S0 121 [d,i] fun k=>Ld S0 119 [y8,k] fun l=>bin .add 0 y9 (aI 1) S fun m S=>KE1 52 (JI y1 y2 y5 y6 y7 l m) S) S) (Ah Pg 123 [y8,y5] S Q fun n S=>Fi n (Q (.ret y5) S) (bin .add 0 y6 (aI 1) S fun o S=>KE0 52 (JJ y1 y2 y8 o) S))
theorem Zd{y1 y2 y5 y6 y7:AV}{y80 y90:AV}{S:Aa}{KE0:By}{Q:Aq}(I:AV→AV→Aa→Prop)(μ:AV→AV→Aa→Nat)(h0:I y80 y90 S)(hr:Dw (fun y8 y9=>JI y1 y2 y5 y6 y7 y8 y9) 52 I μ fun y8 y9 S KE1=>tF y1 y2 y5 y6 y7 y8 y9 S KE1 KE0 Q):
 Ap SN (vc Pg (Xs.at_ [1,1,1,0,1,0,0,1,0,0,1,1,0,1,0,0]) (KG.drop 2)) 52 (JI y1 y2 y5 y6 y7 y80 y90) S (Ak 2 (Av (vc Pg (Xs.at_ [1,1,1,0,1,0,0,1,0,0,1,1,1]) (KG.drop 2)) (Ak 1 (Av (vc Pg (Xs.at_ [1,1,1,0,1,0,0,1,1]) (KG.drop 2)) (BV (Hc ML KE0) (Ak 0 (Av (vc Pg (Xs.at_ [1,1,1,1]) (KG.drop 2)) (Ao Pg r85 Q)))))))):=IB (E:=fun y8 y9=>JI y1 y2 y5 y6 y7 y8 y9) 5 6 (fun _ _=>⟨rfl,rfl⟩) (fun _ _ _ _=>by kernel_rfl) h0 hr
def AdV(x0:AV)(S:Aa)(Q:Aq):Prop:=
 Az 45 5 x0 S fun a S=>Lf a 4 S fun c S=>AF c S fun d S=>bin .eql 0 d (aI 0) S fun e S=>Fi e (Lf a 1 S fun f S=>AU 41 1 1 [.nl] [(0,f)] S fun g S=>Q (.ret g) S) (Lf a 4 S fun h S=>Q (.ret h) S)
theorem dP{x0:AV}{S:Aa}{Q:Aq}(h:AdV x0 S Q):Ad Pg 120 [x0] S Q:=
 Bj (n:=12) [[]] Tryz.func120 (by kernel_rfl) (Eq.mpr (by kernel_rfl) h)
def Lx:Code:=(Tryz.f121.body).getD .skip
def kK:List ResultVar:=Tryz.f121.results.toList
def EY(y1 y2 y5 y6:AV):List AV:=[y1,y2,y5,y6]
def Ju:List Nat:=[1,2,5,6]
def F7(y1 y2 y5 y6 y7 y8:AV):List AV:=[y1,y2,y5,y6,y7,y8]
def Pz:List Nat:=[1,2,5,6,7,8]
def FT:List (List Nat):=[Ju,Pz,[]]
def xH(x0 x1:AV)(S:Aa)(Q:Aq):Prop:=
 Az 45 5 x0 S fun a S=>AB 5 a S fun c S=>Ah Pg 118 [c,x1] S Q fun d S=>un .not d S fun e S=>Fi e (Q (.ret .nl) S) (Ap Ju (vc Pg (Lx.at_ [1,1,1,0,1,0,0]) (FT.drop 1)) 55 (EY x1 a .nl (aI 0)) S (Ak 0 (Av (vc Pg (Lx.at_ [1,1,1,1]) (FT.drop 2)) (Ao Pg kK Q))))
theorem RM{x0 x1:AV}{S:Aa}{Q:Aq}(h:xH x0 x1 S Q):Ad Pg 121 [x0,x1] S Q:=
 Bj (n:=55) FT Tryz.func121 (by kernel_rfl) (Eq.mpr (by kernel_rfl) h)
def gD(y1 y2 y5 y6:AV)(S:Aa)(KE0:By)(Q:Aq):Prop:=
 AF y1 S fun a S=>bin .lss 0 y6 a S fun c S=>Fi c (Ap Pz (vc Pg (Lx.at_ [1,1,1,0,1,0,0,1,0,0,1,0,1,0,0]) (FT.drop 2)) 55 (F7 y1 y2 y5 y6 (.v (.bool false)) (aI 0)) S (Ak 2 (Av (vc Pg (Lx.at_ [1,1,1,0,1,0,0,1,0,0,1,1]) (FT.drop 2)) (Ak 1 (Av (vc Pg (Lx.at_ [1,1,1,0,1,0,0,1,1]) (FT.drop 2)) (BV (Hc Ju KE0) (Ak 0 (Av (vc Pg (Lx.at_ [1,1,1,1]) (FT.drop 2)) (Ao Pg kK Q))))))))) (Q (.ret y5) S)
theorem Wz{y1 y2:AV}{y50 y60:AV}{S:Aa}{Q:Aq}(I:AV→AV→Aa→Prop)(μ:AV→AV→Aa→Nat)(h0:I y50 y60 S)(hr:Dw (fun y5 y6=>EY y1 y2 y5 y6) 55 I μ fun y5 y6 S KE0=>gD y1 y2 y5 y6 S KE0 Q):
 Ap Ju (vc Pg (Lx.at_ [1,1,1,0,1,0,0]) (FT.drop 1)) 55 (EY y1 y2 y50 y60) S (Ak 0 (Av (vc Pg (Lx.at_ [1,1,1,1]) (FT.drop 2)) (Ao Pg kK Q))):=IB (E:=fun y5 y6=>EY y1 y2 y5 y6) 2 3 (fun _ _=>⟨rfl,rfl⟩) (fun _ _ _ _=>by kernel_rfl) h0 hr
def gC(y1 y2 y5 y6 y7 y8:AV)(S:Aa)(KE1:By)(KE0:By)(Q:Aq):Prop:=
 Lf y2 3 S fun a S=>AS 26 1 a y6 S fun c S=>Ay c S fun d S=>AF d S fun e S=>bin .lss 0 y8 e S fun f S=>Fi f (Fi y7 (bin .add 0 y8 (aI 1) S fun g S=>KE1 55 (F7 y1 y2 y5 y6 (.v (.bool true)) g) S) (Lf y2 3 S fun h S=>AS 26 1 h y6 S fun i S=>Ay i S fun k S=>AS 3 1 k y8 S fun l S=>Ay l S fun m S=>AS 4 1 y1 m S fun n S=>Ay n S fun o S=>bin .add 0 y8 (aI 1) S fun p S=>KE1 55 (F7 y1 y2 y5 y6 o p) S)) (Fi y7 (Lf y2 1 S fun q S=>AS 4 1 q y6 S fun r S=>Ay r S fun s S=>AU 4 1 1 [.v (.bool false)] [(0,s)] S fun t S=>Bo 4 1 1 y5 t S fun u S=>bin .add 0 y6 (aI 1) S fun w S=>KE0 55 (EY y1 y2 u w) S) (AU 4 1 1 [.v (.bool false)] [(0,(.v (.bool false)))] S fun x S=>Bo 4 1 1 y5 x S fun y S=>bin .add 0 y6 (aI 1) S fun z S=>KE0 55 (EY y1 y2 y z) S))
theorem Wx{y1 y2 y5 y6:AV}{y70 y80:AV}{S:Aa}{KE0:By}{Q:Aq}(I:AV→AV→Aa→Prop)(μ:AV→AV→Aa→Nat)(h0:I y70 y80 S)(hr:Dw (fun y7 y8=>F7 y1 y2 y5 y6 y7 y8) 55 I μ fun y7 y8 S KE1=>gC y1 y2 y5 y6 y7 y8 S KE1 KE0 Q):
 Ap Pz (vc Pg (Lx.at_ [1,1,1,0,1,0,0,1,0,0,1,0,1,0,0]) (FT.drop 2)) 55 (F7 y1 y2 y5 y6 y70 y80) S (Ak 2 (Av (vc Pg (Lx.at_ [1,1,1,0,1,0,0,1,0,0,1,1]) (FT.drop 2)) (Ak 1 (Av (vc Pg (Lx.at_ [1,1,1,0,1,0,0,1,1]) (FT.drop 2)) (BV (Hc Ju KE0) (Ak 0 (Av (vc Pg (Lx.at_ [1,1,1,1]) (FT.drop 2)) (Ao Pg kK Q)))))))):=IB (E:=fun y7 y8=>F7 y1 y2 y5 y6 y7 y8) 4 5 (fun _ _=>⟨rfl,rfl⟩) (fun _ _ _ _=>by kernel_rfl) h0 hr
def qV:Code:=(Tryz.f119.body).getD .skip
def Ab6:List ResultVar:=Tryz.f119.results.toList
def EZ(y0 y1 y5 y6:AV):List AV:=[y0,y1,y5,y6]
def PA:List Nat:=[0,1,5,6]
def Ra:List (List Nat):=[PA,[]]
def AdW(x0 x1:AV)(S:Aa)(Q:Aq):Prop:=
 Ap PA (vc Pg (qV.at_ [1,1,0,1,0,0]) (Ra.drop 1)) 27 (EZ x0 x1 .nl (aI 0)) S (Ak 0 (Av (vc Pg (qV.at_ [1,1,1]) (Ra.drop 1)) (Ao Pg Ab6 Q)))
theorem dQ{x0 x1:AV}{S:Aa}{Q:Aq}(h:AdW x0 x1 S Q):Ad Pg 119 [x0,x1] S Q:=
 Bj (n:=27) Ra Tryz.func119 (by kernel_rfl) (Eq.mpr (by kernel_rfl) h)
def gI(y0 y1 y5 y6:AV)(S:Aa)(KE0:By)(Q:Aq):Prop:=
 AF y0 S fun a S=>bin .lss 0 y6 a S fun c S=>Fi c (AS 4 1 y0 y6 S fun d S=>Ay d S fun e S=>Fi e (AS 4 1 y1 y6 S fun f S=>Ay f S fun g S=>AU 4 1 1 [.v (.bool false)] [(0,g)] S fun h S=>Bo 4 1 1 y5 h S fun i S=>bin .add 0 y6 (aI 1) S fun k S=>KE0 27 (EZ y0 y1 i k) S) (AU 4 1 1 [.v (.bool false)] [(0,(.v (.bool false)))] S fun l S=>Bo 4 1 1 y5 l S fun m S=>bin .add 0 y6 (aI 1) S fun n S=>KE0 27 (EZ y0 y1 m n) S)) (Q (.ret y5) S)
theorem WA{y0 y1:AV}{y50 y60:AV}{S:Aa}{Q:Aq}(I:AV→AV→Aa→Prop)(μ:AV→AV→Aa→Nat)(h0:I y50 y60 S)(hr:Dw (fun y5 y6=>EZ y0 y1 y5 y6) 27 I μ fun y5 y6 S KE0=>gI y0 y1 y5 y6 S KE0 Q):
 Ap PA (vc Pg (qV.at_ [1,1,0,1,0,0]) (Ra.drop 1)) 27 (EZ y0 y1 y50 y60) S (Ak 0 (Av (vc Pg (qV.at_ [1,1,1]) (Ra.drop 1)) (Ao Pg Ab6 Q))):=IB (E:=fun y5 y6=>EZ y0 y1 y5 y6) 2 3 (fun _ _=>⟨rfl,rfl⟩) (fun _ _ _ _=>by kernel_rfl) h0 hr
def qL:Code:=(Tryz.f146.body).getD .skip
def AaW:List ResultVar:=Tryz.f146.results.toList
def EX(y0 y1 y5 y6:AV):List AV:=[y0,y1,y5,y6]
def Pn:List Nat:=[0,1,5,6]
def Q0:List (List Nat):=[Pn,[]]
def AdA(x0 x1:AV)(S:Aa)(Q:Aq):Prop:=
 Ap Pn (vc Pg (qL.at_ [1,1,0,1,0,0]) (Q0.drop 1)) 27 (EX x0 x1 .nl (aI 0)) S (Ak 0 (Av (vc Pg (qL.at_ [1,1,1]) (Q0.drop 1)) (Ao Pg AaW Q)))
theorem cT{x0 x1:AV}{S:Aa}{Q:Aq}(h:AdA x0 x1 S Q):Ad Pg 146 [x0,x1] S Q:=
 Bj (n:=27) Q0 Tryz.func146 (by kernel_rfl) (Eq.mpr (by kernel_rfl) h)
def fR(y0 y1 y5 y6:AV)(S:Aa)(KE0:By)(Q:Aq):Prop:=
 AF y0 S fun a S=>bin .lss 0 y6 a S fun c S=>Fi c (AS 4 1 y0 y6 S fun d S=>Ay d S fun e S=>Fi e (AU 4 1 1 [.v (.bool false)] [(0,(.v (.bool true)))] S fun f S=>Bo 4 1 1 y5 f S fun g S=>bin .add 0 y6 (aI 1) S fun h S=>KE0 27 (EX y0 y1 g h) S) (AS 4 1 y1 y6 S fun i S=>Ay i S fun k S=>AU 4 1 1 [.v (.bool false)] [(0,k)] S fun l S=>Bo 4 1 1 y5 l S fun m S=>bin .add 0 y6 (aI 1) S fun n S=>KE0 27 (EX y0 y1 m n) S)) (Q (.ret y5) S)
theorem Wm{y0 y1:AV}{y50 y60:AV}{S:Aa}{Q:Aq}(I:AV→AV→Aa→Prop)(μ:AV→AV→Aa→Nat)(h0:I y50 y60 S)(hr:Dw (fun y5 y6=>EX y0 y1 y5 y6) 27 I μ fun y5 y6 S KE0=>fR y0 y1 y5 y6 S KE0 Q):
 Ap Pn (vc Pg (qL.at_ [1,1,0,1,0,0]) (Q0.drop 1)) 27 (EX y0 y1 y50 y60) S (Ak 0 (Av (vc Pg (qL.at_ [1,1,1]) (Q0.drop 1)) (Ao Pg AaW Q))):=IB (E:=fun y5 y6=>EX y0 y1 y5 y6) 2 3 (fun _ _=>⟨rfl,rfl⟩) (fun _ _ _ _=>by kernel_rfl) h0 hr
def qT:Code:=(Tryz.f123.body).getD .skip
def Ab4:List ResultVar:=Tryz.f123.results.toList
def J2(y0 y1 y5:AV):List AV:=[y0,y1,y5]
def Px:List Nat:=[0,1,5]
def Q8:List (List Nat):=[Px,[]]
def AdU(x0 x1:AV)(S:Aa)(Q:Aq):Prop:=
 AF x0 S fun a S=>AF x1 S fun c S=>bin .neq 0 a c S fun d S=>Fi d (Q (.ret (.v (.bool false))) S) (Ap Px (vc Pg (qT.at_ [1,1,0,1,0,0]) (Q8.drop 1)) 26 (J2 x0 x1 (aI 0)) S (Ak 0 (Av (vc Pg (qT.at_ [1,1,1]) (Q8.drop 1)) (Ao Pg Ab4 Q))))
theorem dO{x0 x1:AV}{S:Aa}{Q:Aq}(h:AdU x0 x1 S Q):Ad Pg 123 [x0,x1] S Q:=
 Bj (n:=26) Q8 Tryz.func123 (by kernel_rfl) (Eq.mpr (by kernel_rfl) h)
def gA(y0 y1 y5:AV)(S:Aa)(KE0:By)(Q:Aq):Prop:=
 AF y0 S fun a S=>bin .lss 0 y5 a S fun c S=>Fi c ((fun S0:Aa=>Lq S0 (AS 4 1 y0 y5) fun d=>Lq S0 (Ay d) fun e=>Lq S0 (AS 4 1 y1 y5) fun f=>Lq S0 (Ay f) fun g=>Lq S0 (bin .neq 1 e g) fun h=>Fi h (Q (.ret (.v (.bool false))) S) (bin .add 0 y5 (aI 1) S fun i S=>KE0 26 (J2 y0 y1 i) S)) S) (Q (.ret (.v (.bool true))) S)
theorem Wv{y0 y1:AV}{y50:AV}{S:Aa}{Q:Aq}(I:AV→Aa→Prop)(μ:AV→Aa→Nat)(h0:I y50 S)(hr:BS (fun y5=>J2 y0 y1 y5) 26 I μ fun y5 S KE0=>gA y0 y1 y5 S KE0 Q):
 Ap Px (vc Pg (qT.at_ [1,1,0,1,0,0]) (Q8.drop 1)) 26 (J2 y0 y1 y50) S (Ak 0 (Av (vc Pg (qT.at_ [1,1,1]) (Q8.drop 1)) (Ao Pg Ab4 Q))):=DQ 2 (fun _=>rfl) (fun _ _ _=>by kernel_rfl) h0 hr
def Kb:Code:=(Tryz.f118.body).getD .skip
def VP:List ResultVar:=Tryz.f118.results.toList
def J5(y2 y5 y6:AV):List AV:=[y2,y5,y6]
def PC:List Nat:=[2,5,6]
def J4(y2 y5 y7:AV):List AV:=[y2,y5,y7]
def Jv:List Nat:=[2,5,7]
def J3(y2 y5 y7 y8:AV):List AV:=[y2,y5,y7,y8]
def PB:List Nat:=[2,5,7,8]
def EK:List (List Nat):=[PC,Jv,PB,[]]
def AdX(x0 x1:AV)(S:Aa)(Q:Aq):Prop:=
 Az 45 5 x0 S fun a S=>Lf a 1 S fun c S=>AF c S fun d S=>AF x1 S fun e S=>bin .neq 0 e d S fun f S=>Fi f (Q (.ret (.v (.bool false))) S) (Lf a 3 S fun g S=>AF g S fun h S=>bin .neq 0 h d S fun i S=>Fi i (Q (.ret (.v (.bool false))) S) (Ap PC (vc Pg (Kb.at_ [1,1,1,0,1,0,0]) (EK.drop 1)) 74 (J5 a d (aI 0)) S (Ak 0 (Av (vc Pg (Kb.at_ [1,1,1,1]) (EK.drop 1)) (Ao Pg VP Q)))))
theorem dR{x0 x1:AV}{S:Aa}{Q:Aq}(h:AdX x0 x1 S Q):Ad Pg 118 [x0,x1] S Q:=
 Bj (n:=74) EK Tryz.func118 (by kernel_rfl) (Eq.mpr (by kernel_rfl) h)
def gL(y2 y5 y6:AV)(S:Aa)(KE0:By)(Q:Aq):Prop:=
 Lf y2 4 S fun a S=>AF a S fun c S=>bin .lss 0 y6 c S fun d S=>Fi d (Lf y2 4 S fun e S=>AS 41 1 e y6 S fun f S=>Ay f S fun g S=>AF g S fun h S=>bin .neq 0 h y5 S fun i S=>Fi i (Q (.ret (.v (.bool false))) S) (bin .add 0 y6 (aI 1) S fun k S=>KE0 74 (J5 y2 y5 k) S)) (Ap Jv (vc Pg (Kb.at_ [1,1,1,1,0,1,0,0]) (EK.drop 2)) 74 (J4 y2 y5 (aI 0)) S (Ak 2 (Av (vc Pg (Kb.at_ [1,1,1,1,1]) (EK.drop 3)) (Ao Pg VP Q))))
theorem WD{y2 y5:AV}{y60:AV}{S:Aa}{Q:Aq}(I:AV→Aa→Prop)(μ:AV→Aa→Nat)(h0:I y60 S)(hr:BS (fun y6=>J5 y2 y5 y6) 74 I μ fun y6 S KE0=>gL y2 y5 y6 S KE0 Q):
 Ap PC (vc Pg (Kb.at_ [1,1,1,0,1,0,0]) (EK.drop 1)) 74 (J5 y2 y5 y60) S (Ak 0 (Av (vc Pg (Kb.at_ [1,1,1,1]) (EK.drop 1)) (Ao Pg VP Q))):=DQ 2 (fun _=>rfl) (fun _ _ _=>by kernel_rfl) h0 hr
def gK(y2 y5 y7:AV)(S:Aa)(KE1:By)(Q:Aq):Prop:=
 bin .lss 0 y7 y5 S fun a S=>Fi a (Ap PB (vc Pg (Kb.at_ [1,1,1,1,0,1,0,0,1,0,0,1,0,0]) (EK.drop 3)) 74 (J3 y2 y5 y7 (aI 0)) S (Ak 4 (Ak 3 (Av (vc Pg (Kb.at_ [1,1,1,1,0,1,0,0,1,1]) (EK.drop 3)) (BV (Hc Jv KE1) (Ak 2 (Av (vc Pg (Kb.at_ [1,1,1,1,1]) (EK.drop 3)) (Ao Pg VP Q)))))))) (Q (.ret (.v (.bool true))) S)
theorem WC{y2 y5:AV}{y70:AV}{S:Aa}{Q:Aq}(I:AV→Aa→Prop)(μ:AV→Aa→Nat)(h0:I y70 S)(hr:BS (fun y7=>J4 y2 y5 y7) 74 I μ fun y7 S KE1=>gK y2 y5 y7 S KE1 Q):
 Ap Jv (vc Pg (Kb.at_ [1,1,1,1,0,1,0,0]) (EK.drop 2)) 74 (J4 y2 y5 y70) S (Ak 2 (Av (vc Pg (Kb.at_ [1,1,1,1,1]) (EK.drop 3)) (Ao Pg VP Q))):=DQ 2 (fun _=>rfl) (fun _ _ _=>by kernel_rfl) h0 hr
def gJ(y2 y5 y7 y8:AV)(S:Aa)(KE2:By)(KE1:By)(Q:Aq):Prop:=
 Lf y2 3 S fun a S=>AS 26 1 a y7 S fun c S=>Ay c S fun d S=>AF d S fun e S=>bin .lss 0 y8 e S fun f S=>Fi f (Lf y2 3 S fun g S=>AS 26 1 g y7 S fun h S=>Ay h S fun i S=>AS 3 1 i y8 S fun k S=>Ay k S fun l S=>bin .lss 0 l (aI 0) S fun m S=>Fi m (Q (.ret (.v (.bool false))) S) (Lf y2 3 S fun n S=>AS 26 1 n y7 S fun o S=>Ay o S fun p S=>AS 3 1 p y8 S fun q S=>Ay q S fun r S=>bin .geq 0 r y5 S fun s S=>Fi s (Q (.ret (.v (.bool false))) S) (bin .add 0 y8 (aI 1) S fun t S=>KE2 74 (J3 y2 y5 y7 t) S))) (bin .add 0 y7 (aI 1) S fun u S=>KE1 74 (J4 y2 y5 u) S)
theorem WB{y2 y5 y7:AV}{y80:AV}{S:Aa}{KE1:By}{Q:Aq}(I:AV→Aa→Prop)(μ:AV→Aa→Nat)(h0:I y80 S)(hr:BS (fun y8=>J3 y2 y5 y7 y8) 74 I μ fun y8 S KE2=>gJ y2 y5 y7 y8 S KE2 KE1 Q):
 Ap PB (vc Pg (Kb.at_ [1,1,1,1,0,1,0,0,1,0,0,1,0,0]) (EK.drop 3)) 74 (J3 y2 y5 y7 y80) S (Ak 4 (Ak 3 (Av (vc Pg (Kb.at_ [1,1,1,1,0,1,0,0,1,1]) (EK.drop 3)) (BV (Hc Jv KE1) (Ak 2 (Av (vc Pg (Kb.at_ [1,1,1,1,1]) (EK.drop 3)) (Ao Pg VP Q))))))):=DQ 3 (fun _=>rfl) (fun _ _ _=>by kernel_rfl) h0 hr
end
theorem Hh{α:Type}(n:Nat)(f:Nat→α):CG (n+1) f=CG n f ++ [f n]:=by simp[CG,Ai7]
def EC(a b:List Bool):List Bool:=CG a.length fun i=>bit a i || bit b i
@[simp] theorem AgN(a b:List Bool):(EC a b).length=a.length:=by simp[EC]
theorem CR{a b:List Bool}(h:a.length=b.length)(i:Nat):bit (EC a b) i=(bit a i || bit b i):=by
 rcases AiB i a.length with h'|h'
 ·rw[EC,CY h']
 ·rw[FJ (by simpa[EC]using h'),FJ h',FJ (by omega)];rfl
theorem E5{a b:List Bool}(ha:a.length<1048576)(hab:a.length=b.length):BF Pg 119 [aL aB a,aL aB b] (aL aB (Bm a b)):=by
 refine Ad.GY (f:=fun b=>.bool b) (e:=4) fun S=>dQ ?_
 unfold AdW
 refine WA (fun y x S'=>Am S S'∧∃ i:Nat,x=aI i∧i≤a.length∧A4 S.n S' y 4 ((CG i fun i=>bit a i && bit b i).map fun b=>[aB b]))
  (fun _ x _=>a.length - ((Aw x).getD 0).toNat) ⟨Am.refl S,0,rfl,AhS _,.nl _ _ _⟩ ?_
 dsimp only[Dw]
 rintro y _ S1 ⟨k1,i,rfl,hi,w1⟩ KE hKE
 dsimp only[gI,Fi]
 rw[Ax,As,Ag]
 refine Al (fun h=>?_) (fun h=>?_)
 ·have hlt:i<a.length:=by simpa using h
  have hadd:∀ K:AV→Aa→Prop,∀ S,bin .add 0 (.v (.int .i64 (i:Int))) (.v (.int .i64 1)) S K=K (aI (i+1:Nat)) S:=fun K S=>Ar (by omega) (by omega) 0
  have hμ:a.length - ((Aw (aI (i+1:Nat))).getD 0).toNat<a.length - ((Aw (aI i)).getD 0).toNat:=by simp[Aw];omega
  have step:∀ c:Bool,c=(bit a i && bit b i)→Bo 4 1 1 y (.l [[aB c]]) S1 fun v10 S=>bin .add 0 (.v (.int .i64 (i:Int))) (.v (.int .i64 1)) S fun v11 S=>KE 27 (EZ (aL aB a) (aL aB b) v10 v11) S:=by
   intro c hc
   refine w1.app (b:=1) (c:=[aB c]) (y:=.l [[aB c]]) (by have:=k1.1;omega) rfl (by simp;omega) (fun x' S5 ho5 hb5 hx5=>?_) rfl
   rw[hadd]
   refine hKE _ _ _ ⟨w1.AR (AhN _) hb5 k1,i+1,rfl,hlt,?_⟩ hμ
   rw[Hh,AhU,←hc]
   exact ho5
  rw[AM hlt,A1,Ag]
  refine Al (fun h=>?_) (fun h=>?_)
  ·rw[AM (by omega:i<b.length),A1]
   refine BM rfl (fun _ h=>by cases h) (step _ ?_)
   rw[Bc hlt,Bc (by omega),h];rfl
  ·refine BM rfl (fun _ h=>by cases h) (step false ?_)
   rw[Bc hlt,h];rfl
 ·have hge:i=a.length:=by simp at h;omega
  subst hge
  exact⟨_,rfl,k1,w1⟩
theorem iQ{a b:List Bool}(ha:a.length<1048576)(hab:a.length=b.length):BF Pg 146 [aL aB a,aL aB b] (aL aB (EC a b)):=by
 refine Ad.GY (f:=fun b=>.bool b) (e:=4) fun S=>cT ?_
 unfold AdA
 refine Wm (fun y x S'=>Am S S'∧∃ i:Nat,x=aI i∧i≤a.length∧A4 S.n S' y 4 ((CG i fun i=>bit a i || bit b i).map fun b=>[aB b]))
  (fun _ x _=>a.length - ((Aw x).getD 0).toNat) ⟨Am.refl S,0,rfl,AhS _,.nl _ _ _⟩ ?_
 dsimp only[Dw]
 rintro y _ S1 ⟨k1,i,rfl,hi,w1⟩ KE hKE
 dsimp only[fR,Fi]
 rw[Ax,As,Ag]
 refine Al (fun h=>?_) (fun h=>?_)
 ·have hlt:i<a.length:=by simpa using h
  have hadd:∀ K:AV→Aa→Prop,∀ S,bin .add 0 (.v (.int .i64 (i:Int))) (.v (.int .i64 1)) S K=K (aI (i+1:Nat)) S:=fun K S=>Ar (by omega) (by omega) 0
  have hμ:a.length - ((Aw (aI (i+1:Nat))).getD 0).toNat<a.length - ((Aw (aI i)).getD 0).toNat:=by simp[Aw];omega
  have step:∀ c:Bool,c=(bit a i || bit b i)→Bo 4 1 1 y (.l [[aB c]]) S1 fun v10 S=>bin .add 0 (.v (.int .i64 (i:Int))) (.v (.int .i64 1)) S fun v11 S=>KE 27 (EX (aL aB a) (aL aB b) v10 v11) S:=by
   intro c hc
   refine w1.app (b:=1) (c:=[aB c]) (y:=.l [[aB c]]) (by have:=k1.1;omega) rfl (by simp;omega) (fun x' S5 ho5 hb5 hx5=>?_) rfl
   rw[hadd]
   refine hKE _ _ _ ⟨w1.AR (AhN _) hb5 k1,i+1,rfl,hlt,?_⟩ hμ
   rw[Hh,AhU,←hc]
   exact ho5
  rw[AM hlt,A1,Ag]
  refine Al (fun h=>?_) (fun h=>?_)
  ·refine BM rfl (fun _ h=>by cases h) (step true ?_)
   rw[Bc hlt,h];rfl
  ·rw[AM (by omega:i<b.length),A1]
   refine BM rfl (fun _ h=>by cases h) (step _ ?_)
   rw[Bc hlt,Bc (by omega),h];rfl
 ·have hge:i=a.length:=by simp at h;omega
  subst hge
  exact⟨_,rfl,k1,w1⟩
theorem iW{a b:List Bool}(hl:a.length≤9223372036854775807):BF Pg 123 [aL aB a,aL aB b] (aB (decide (a=b))):=by
 intro S
 refine dO ?_
 dsimp only[AdU,Fi]
 rw[Ax,Ax,Bl,Ag]
 refine Al (fun h=>⟨?_,rfl⟩) (fun h=>?_)
 ·have:¬ a=b:=fun e=>by subst e;simp at h
  simp[this]
 have hab:a.length=b.length:=by simp at h;omega
 refine Wv (fun y S'=>S'=S∧∃ i:Nat,y=aI i∧i≤a.length∧∀ k,k<i→a[k]? = b[k]?) (fun y _=>a.length - ((Aw y).getD 0).toNat) ⟨rfl,0,rfl,AhS _,fun k h=>absurd h (AhY _)⟩ ?_
 dsimp only[BS]
 rintro _ _ ⟨rfl,i,rfl,hi,hk⟩ KE hKE
 dsimp only[gA,Fi,Lq]
 rw[Ax,As,Ag]
 refine Al (fun h=>?_) (fun h=>?_)
 ·have hlt:i<a.length:=by simpa using h
  have hlt':i<b.length:=by omega
  refine⟨_,by rw[AM hlt];exact⟨rfl,rfl⟩,_,by rw[A1];exact⟨rfl,rfl⟩,_,by rw[AM hlt'];exact⟨rfl,rfl⟩,_,by rw[A1];exact⟨rfl,rfl⟩,_,by rw[DI];exact⟨rfl,rfl⟩,?_⟩
  rw[Ag]
  refine Al (fun hg=>⟨?_,rfl⟩) (fun hg=>?_)
  ·have:¬ a=b:=fun e=>by subst e;simp at hg
   simp[this]
  ·rw[Ar (by omega) (by omega)]
   refine hKE _ _ ⟨rfl,i+1,rfl,hlt,fun k hk2=>?_⟩ ?_
   ·by_cases e:k=i
    ·subst e
     rw[AhM hlt,AhM hlt']
     simpa using hg
    ·exact hk k (by omega)
   ·simp[Aw];omega
 ·have hge:i=a.length:=by simp at h;omega
  subst hge
  have:a=b:=by
   apply List.ext_getElem?
   intro k
   by_cases hk':k<a.length
   ·exact hk k hk'
   ·rw[AiH (by omega),AiH (by omega)]
  exact⟨by simp[this],rfl⟩
theorem Hq{α:Type}{l:List α}{g:α→Bool}{i:Nat}(hi:i<l.length)(h:g l[i]=false):l.all g=false:=
 AiN.2 ⟨_,AhP hi,by simp[h]⟩
theorem Qi{α:Type}{l:List α}{g:α→Bool}(h:∀ k (hk:k<l.length),g l[k]=true):l.all g=true:=
 AhW.2 fun x hx=>by
  obtain⟨k,hk,rfl⟩:=List.mem_iff_getElem.1 hx
  exact h k hk
theorem ET(s:Sp)(p:List Bool):fits s [p]=(decide (p.length=s.valid.length) && decide (s.next.length=s.valid.length) && s.fair.all (fun p=>decide (p.length=s.valid.length)) && s.next.all (fun x=>x.all fun i=>decide (0≤i) && decide (i<s.valid.length))):=by
 simp only[fits,AiX,List.all_nil,Bool.and_true]
 cases decide (p.length=s.valid.length)<;>cases decide (s.next.length=s.valid.length)<;>cases s.fair.all (fun p=>decide (p.length=s.valid.length))<;>simp
theorem Ki{s:Sp}(hs:s.small)(p:List Bool):BF Pg 118 [s.av,aL aB p] (aB (fits s [p])):=by
 intro S
 obtain⟨hs1,hs2,hs3,hs4⟩:=hs
 refine Ad.Bu (dR ?_)
 rw[ET]
 dsimp only[AdX,Fi,Lf]
 refine Ai rfl fun S1 k1 n1 o1=>?_
 rw[Ac,Ae o1 rfl rfl,Ax,Ax,Bl,Ag]
 refine Al (fun h=>⟨?_,k1⟩) (fun h=>?_)
 ·have:¬ p.length=s.valid.length:=by simp at h;omega
  simp[this]
 have e1:p.length=s.valid.length:=by simp at h;omega
 rw[Ac,Ae o1 rfl rfl,Ax,Bl,Ag]
 refine Al (fun h=>⟨?_,k1⟩) (fun h=>?_)
 ·have:¬ s.next.length=s.valid.length:=by simp at h;omega
  simp[this]
 have e2:s.next.length=s.valid.length:=by simp at h;omega
 rw[show decide (p.length=s.valid.length)=true by simp[e1],show decide (s.next.length=s.valid.length)=true by simp[e2]]
 refine WD (fun y S'=>S'=S1∧∃ i:Nat,y=aI i∧i≤s.fair.length∧∀ k (hk:k<s.fair.length),k<i→decide (s.fair[k].length=s.valid.length)=true) (fun y _=>s.fair.length - ((Aw y).getD 0).toNat) ⟨rfl,0,rfl,AhS _,fun k _ h=>absurd h (AhY _)⟩ ?_
 dsimp only[BS]
 rintro _ S1 ⟨rfl,i,rfl,hi,hk⟩ KE hKE
 dsimp only[gL,Fi,Lf]
 rw[Ac,Ae o1 rfl rfl,Ax,As,Ag]
 refine Al (fun h=>?_) (fun h=>?_)
 ·have hlt:i<s.fair.length:=by simpa using h
  rw[Ac,Ae o1 rfl rfl,AM hlt,A1,Ax,Bl,Ag]
  refine Al (fun h=>⟨?_,k1⟩) (fun h=>?_)
  ·have h1:¬ s.fair[i].length=s.valid.length:=by simp at h;omega
   rw[Hq (l:=s.fair) (g:=fun p=>decide (p.length=s.valid.length)) hlt (by simpa using h1)]
   simp
  ·have h1:s.fair[i].length=s.valid.length:=by simp at h;omega
   rw[Ar (by omega) (by omega)]
   refine hKE _ _ ⟨rfl,i+1,rfl,hlt,fun k hk1 hk2=>?_⟩ (by simp[Aw];omega)
   by_cases e:k=i
   ·subst e;simpa using h1
   ·exact hk k hk1 (by omega)
 ·have hge:i=s.fair.length:=by simp at h;omega
  subst hge
  rw[Qi (l:=s.fair) (g:=fun p=>decide (p.length=s.valid.length)) fun k hk1=>hk k hk1 hk1]
  clear hKE hk hi h
  refine WC (fun y S'=>S'=S1∧∃ i:Nat,y=aI i∧i≤s.valid.length∧∀ k (hk:k<s.next.length),k<i→(s.next[k].all fun i=>decide (0≤i) && decide (i<s.valid.length))=true) (fun y _=>s.valid.length - ((Aw y).getD 0).toNat) ⟨rfl,0,rfl,AhS _,fun k _ h=>absurd h (AhY _)⟩ ?_
  dsimp only[BS]
  rintro _ S1 ⟨rfl,i,rfl,hi,hk⟩ KE hKE
  dsimp only[gK,Fi]
  rw[As,Ag]
  refine Al (fun h=>?_) (fun h=>?_)
  ·have hlt:i<s.valid.length:=by simpa using h
   have hln:i<s.next.length:=by omega
   have hrl:=hs4 _ (AhP hln)
   refine WB (fun y S'=>S'=S1∧∃ j:Nat,y=aI j∧j≤s.next[i].length∧∀ k (hk:k<s.next[i].length),k<j→(decide (0≤s.next[i][k]) && decide (s.next[i][k]<s.valid.length))=true) (fun y _=>s.next[i].length - ((Aw y).getD 0).toNat) ⟨rfl,0,rfl,AhS _,fun k _ h=>absurd h (AhY _)⟩ ?_
   dsimp only[BS]
   rintro _ S1 ⟨rfl,j,rfl,hj,hjk⟩ KE2 hKE2
   dsimp only[gJ,Fi,Lf]
   rw[Ac,Ae o1 rfl rfl,AM hln,A1,Ax,As,Ag]
   refine Al (fun h=>?_) (fun h=>?_)
   ·have hjl:j<s.next[i].length:=by simpa using h
    rw[Ac,Ae o1 rfl rfl,AM hln,A1,AM hjl,A1,As,Ag]
    have bad:¬ (0≤s.next[i][j]∧s.next[i][j]<s.valid.length)→(true && true && true && s.next.all fun x=>x.all fun i=>decide (0≤i) && decide (i<s.valid.length))=false:=by
     intro hn
     rw[Hq (l:=s.next) hln (Hq (l:=s.next[i]) (g:=fun i:Int=>decide (0≤i) && decide (i<s.valid.length)) hjl (by
      rw[Bool.and_eq_false_iff]
      by_cases h0:0≤s.next[i][j]
      ·exact .inr (decide_eq_false fun hh=>hn ⟨h0,hh⟩)
      ·exact .inl (decide_eq_false h0)))]
     rfl
    refine Al (fun h=>⟨?_,k1⟩) (fun h=>?_)
    ·rw[bad (fun hn=>by have:s.next[i][j]<0:=by simpa using h
                        omega)]
    have h0:0≤s.next[i][j]:=by simpa using h
    rw[Ac,Ae o1 rfl rfl,AM hln,A1,AM hjl,A1,BH,Ag]
    refine Al (fun h=>⟨?_,k1⟩) (fun h=>?_)
    ·rw[bad (fun hn=>by have:(s.valid.length:Int)≤s.next[i][j]:=by simpa using h
                        omega)]
    have h1:s.next[i][j]<s.valid.length:=by simpa using h
    rw[Ar (by omega) (by omega)]
    refine hKE2 _ _ ⟨rfl,j+1,rfl,hjl,fun k hk1 hk2=>?_⟩ (by simp[Aw];omega)
    by_cases e:k=j
    ·subst e;simp[h0,h1]
    ·exact hjk k hk1 (by omega)
   ·have hge:j=s.next[i].length:=by simp at h;omega
    subst hge
    rw[Ar (by omega) (by omega)]
    refine hKE _ _ ⟨rfl,i+1,rfl,hlt,fun k hk1 hk2=>?_⟩ (by simp[Aw];omega)
    by_cases e:k=i
    ·subst e;exact Qi fun k hk1=>hjk k hk1 hk1
    ·exact hk k hk1 (by omega)
  ·have hge:i=s.valid.length:=by simp at h;omega
   subst hge
   refine⟨?_,k1⟩
   rw[Qi (l:=s.next) fun k hk1=>hk k hk1 (by omega)]
   rfl
theorem aE{s:Sp}{p q:List Bool}(h:p.length=q.length):fits s [p]=fits s [q]:=by rw[ET,ET,h]
theorem HD(s:Sp)(p q:List Bool):fits s [p,q]=(fits s [p] && fits s [q]):=by
 rw[ET,ET]
 simp only[fits,AiX,List.all_nil,Bool.and_true]
 cases decide (p.length=s.valid.length)<;>cases decide (q.length=s.valid.length)<;>cases decide (s.next.length=s.valid.length)<;>cases s.fair.all (fun p=>decide (p.length=s.valid.length))<;>simp
theorem Fit.one{s:Sp}(hs:s.small){p:List Bool}(h:fits s [p]=true):Fit s p:=Fit.of hs h (by simp)
theorem Fit.fits{s:Sp}{p:List Bool}(hf:Fit s p):fits s [p]=true:=by
 rw[ET]
 have h1:s.fair.all (fun p=>decide (p.length=s.valid.length))=true:=AhW.2 fun f hm=>by simpa using hf.fair f hm
 have h2:s.next.all (fun x=>x.all fun i=>decide (0≤i) && decide (i<s.valid.length))=true:=Qi fun k hk=>AhW.2 fun x hx=>by
  have:=hf.behind k x (by rw[EI hk];exact hx)
  simp[this.1,this.2]
 rw[h1,h2]
 simp[hf.len,hf.next]
theorem yU(s:Sp):∀ S,Ad Pg 120 [s.av] S (fun r S'=>r = .ret (aL (aL aB) (Bs s))∧Am S S'):=by
 intro S
 refine dP ?_
 dsimp only[AdV,Fi,Lf]
 refine Ai rfl fun S1 k1 n1 o1=>?_
 rw[Ac,Ae o1 rfl rfl,Ax,AA,Ag]
 refine Al (fun h=>?_) (fun h=>?_)
 ·have he:s.fair = []:=List.eq_nil_of_length_eq_zero (by simpa using h)
  rw[Ac,Ae o1 rfl rfl]
  refine BM rfl (fun _ h=>by cases h) ⟨?_,k1⟩
  simp[Bs,he,aL]
 ·have he:s.fair.isEmpty=false:=by
    cases hq:s.fair with
    |nil=>rw[hq]at h;simp at h
    |cons x l=>rfl
  rw[Ac,Ae o1 rfl rfl]
  exact⟨by simp[Bs,he],k1⟩
theorem T6{s:Sp}(hs:s.small)(p:List Bool):BF Pg 121 [s.av,aL aB p] (aL aB (Xw s p)):=by
 intro S
 cases hfit:fits s [p]with
 |false =>
  rw[Xw,hfit]
  refine Ad.Jc (RM ?_)
  dsimp only[xH,Fi]
  refine Ai rfl fun S1 k1 n1 o1=>?_
  rw[An (n:=5) o1 rfl]
  refine Af (Ki hs p) ?_
  rw[hfit,AJ,Ag]
  exact⟨rfl,k1⟩
 |true =>
  rw[Xw,hfit]
  have hf:=Fit.one hs hfit
  have hpl:=hf.len
  have hnl:=hf.next
  have hvl:=hs.1
  refine Ad.GY (f:=fun b=>.bool b) (e:=4) (fun S'=>RM ?_) S
  dsimp only[xH,Fi]
  refine Ai rfl fun S1 k1 n1 o1=>?_
  rw[An (n:=5) o1 rfl]
  refine Af (Ki hs p) ?_
  rw[hfit,AJ,Ag,show(!true)=false from rfl,A2]
  refine Wz (fun y x T=>Am S' T∧S1.n≤T.n∧T.obj S'.n=some (.cells 45 [s.cells] true)∧∃ i:Nat,x=aI i∧i≤p.length∧A4 S1.n T y 4 ((CG i fun i=>bit s.valid i && (nx s i).any fun k=>bit p k.toNat).map fun b=>[aB b]))
   (fun _ x _=>p.length - ((Aw x).getD 0).toNat) ⟨k1,AhN _,o1,0,rfl,AhS _,.nl _ _ _⟩ ?_
  dsimp only[Dw]
  rintro y _ S2 ⟨k2,hS2,q2,i,rfl,hi,w2⟩ KE hKE
  dsimp only[gD,Fi]
  rw[Ax,As,Ag]
  refine Al (fun h=>?_) (fun h=>?_)
  ·have hlt:i<p.length:=by simpa using h
   have hin:i<s.next.length:=by omega
   have hiv:i<s.valid.length:=by omega
   have hrl:=hs.2.2.2 _ (AhP hin)
   refine Wx (fun y x T=>T=S2∧∃(b:Bool) (j:Nat),y=aB b∧x=aI j∧j≤s.next[i].length∧b=(s.next[i].take j).any fun k=>bit p k.toNat) (fun _ x _=>s.next[i].length - ((Aw x).getD 0).toNat) ⟨rfl,false,0,rfl,rfl,AhS _,rfl⟩ ?_
   dsimp only[Dw]
   rintro _ _ S2 ⟨rfl,b,j,rfl,rfl,hj,hb⟩ KE1 hKE1
   dsimp only[gC,Fi,Lf]
   rw[Ac,Ae q2 rfl rfl,AM hin,A1,Ax,As,Ag]
   refine Al (fun h=>?_) (fun h=>?_)
   ·have hjl:j<s.next[i].length:=by simpa using h
    have hadd:∀ K:AV→Aa→Prop,∀ S,bin .add 0 (.v (.int .i64 (j:Int))) (.v (.int .i64 1)) S K=K (aI (j+1:Nat)) S:=fun K S=>Ar (by omega) (by omega) 0
    have hμ:s.next[i].length - ((Aw (aI (j+1:Nat))).getD 0).toNat<s.next[i].length - ((Aw (aI j)).getD 0).toNat:=by simp[Aw];omega
    have htk:(s.next[i].take (j+1)).any (fun k=>bit p k.toNat)=(b || bit p (s.next[i][j]).toNat):=by
     rw[AiA,AhM hjl,List.any_append,←hb]
     simp
    rw[Ag]
    refine Al (fun hb1=>?_) (fun hb1=>?_)
    ·rw[hadd]
     exact hKE1 _ _ _ ⟨rfl,true,j+1,rfl,rfl,hjl,by rw[htk,hb1];rfl⟩ hμ
    ·have hk:=hf.behind i s.next[i][j] (by rw[EI hin];exact AhP hjl)
     obtain⟨k,hk'⟩:=AhX hk.1
     have hkp:k<p.length:=by rw[hk']at hk;omega
     rw[Ac,Ae q2 rfl rfl,AM hin,A1,AM hjl,A1]
     simp only[hk']
     rw[AM hkp,A1,hadd]
     exact hKE1 _ _ _ ⟨rfl,p[k],j+1,rfl,rfl,hjl,by rw[htk,hb1,hk',Ai1,Bc hkp];rfl⟩ hμ
   ·have hge:j=s.next[i].length:=by simp at h;omega
    subst hge
    rw[AiM]at hb
    have step:∀ c:Bool,c=(bit s.valid i && (nx s i).any fun k=>bit p k.toNat)→Bo 4 1 1 y (.l [[aB c]]) S2 fun v10 S=>bin .add 0 (.v (.int .i64 (i:Int))) (.v (.int .i64 1)) S fun v11 S=>KE 55 (EY (aL aB p) (.p S'.n 0 0) v10 v11) S:=by
     intro c hc
     refine w2.app (b:=1) (c:=[aB c]) (y:=.l [[aB c]]) hS2 rfl (by simp;omega) (fun x' S5 ho5 hb5 hx5=>?_) rfl
     rw[Ar (by omega) (by omega)]
     refine hKE _ _ _ ⟨w2.AR (by omega) hb5 k2,Nat.le_trans hS2 hb5.1,?_,i+1,rfl,hlt,?_⟩ (by simp[Aw];omega)
     ·rw[hb5.2 S'.n (by omega) (fun b m e=>by have:=w2.lt e;omega)]
      exact q2
     ·rw[Hh,AhU,←hc]
      exact ho5
    rw[Ag]
    refine Al (fun hb1=>?_) (fun hb1=>?_)
    ·rw[Ac,Ae q2 rfl rfl,AM hiv,A1]
     refine BM rfl (fun _ h=>by cases h) (step _ ?_)
     rw[Bc hiv,EI hin,←hb,hb1];simp
    ·refine BM rfl (fun _ h=>by cases h) (step false ?_)
     rw[EI hin,←hb,hb1];simp
  ·have hge:i=p.length:=by simp at h;omega
   subst hge
   exact⟨_,rfl,k2,w2.low (by omega)⟩
theorem TN:∀ l:List Bool,Nz l≤l.length:=fun l=>List.length_filter_le _ _
theorem RF:∀ l:List Bool,Nz l=l.length→∀ i,i<l.length→bit l i=true
 |[],_,i,h=>absurd h (AhY _)
 |x :: l,hc,i,h=>by
  have h1:=TN l
  cases x with
  |false =>
   have:Nz (false :: l)=Nz l:=rfl
   rw[this]at hc
   simp at hc
   omega
  |true =>
   have e:Nz (true :: l)=Nz l+1:=rfl
   rw[e]at hc
   have hc':Nz l=l.length:=by simpa using hc
   cases i with
   |zero=>rfl
   |succ i =>
    have:=RF l hc' i (by simpa using h)
    simpa[bit]using this
def Ut(s:Sp)(p out:List Bool):List Bool:=EC out (Bm (Bm p s.valid) (Ny s out))
theorem kF(s:Sp)(p out:List Bool):(Ut s p out).length=out.length:=by simp[Ut]
theorem XM{s:Sp}{p out:List Bool}(hl:out.length=p.length):Sub out (Ut s p out):=fun i h=>by
 rw[Ut,CR (by simp[hl]),h];rfl
theorem wK{s:Sp}{p q out:List Bool}(hf:Fit s p)(hl:out.length=p.length)(hq:q.length=p.length)(h:Sub out (IM s p q)):Sub (Ut s p out) (IM s p q):=fun i hi=>by
 rw[Ut,CR (by simp[hl]),Bool.or_eq_true]at hi
 rcases hi with hi|hi
 ·exact h i hi
 ·rw[Bi,Bi,AhO,AhO,K0]at hi
  obtain⟨⟨h1,h2⟩,h3,_,k,hk,hbk⟩:=hi
  have hkn:=hf.behind i k hk
  obtain⟨c,rfl⟩:=AhX hkn.1
  have hr:=(D1.1 (h _ hbk)).2
  exact D1.2 ⟨by omega,.step i c h1 h2 hk hr⟩
theorem kG{s:Sp}{p q out:List Bool}(hl:out.length=p.length)(hq:q.length=p.length)(hv:s.valid.length=p.length)(h0:Sub (Bm q s.valid) out)(h:Sub (Ut s p out) out):Sub (IM s p q) out:=fun i hi=>by
 have hr:=(D1.1 hi).2
 clear hi
 induction hr with
 |base i h1 h2=>exact h0 i (by rw[Bi,h1,h2];rfl)
 |step i k h1 h2 h3 hr ih =>
  refine h i ?_
  rw[Ut,CR (by simp[hl]),Bi,Bi,h1,h2,Bool.or_eq_true]
  refine .inr ?_
  have:=Cd h1
  rw[AhQ,AhQ,K0]
  exact⟨by omega,h2,k,h3,by simpa using ih⟩
theorem iX{s:Sp}(hs:s.small)(p q:List Bool):BF Pg 122 [s.av,aL aB p,aL aB q] (aL aB (jS s p q)):=by
 intro S
 cases hfit:fits s [p]with
 |false =>
  rw[jS,HD,hfit]
  refine Ad.Jc (Nc ?_)
  dsimp only[Y8,Fi,Lf]
  refine Ai rfl fun S1 k1 n1 o1=>?_
  rw[An (n:=5) o1 rfl]
  refine Af (Ki hs p) ?_
  rw[hfit,AJ,Ag]
  exact⟨rfl,k1⟩
 |true =>
 cases hfiq:fits s [q]with
 |false =>
  rw[jS,HD,hfit,hfiq]
  refine Ad.Jc (Nc ?_)
  dsimp only[Y8,Fi,Lf]
  refine Ai rfl fun S1 k1 n1 o1=>?_
  rw[An (n:=5) o1 rfl]
  refine Af (Ki hs p) ?_
  rw[hfit,AJ,Ag,show(!true)=false from rfl,A2,An (n:=5) o1 rfl]
  refine Af (Ki hs q) ?_
  rw[hfiq,AJ,Ag]
  exact⟨rfl,k1⟩
 |true =>
  rw[jS,HD,hfit,hfiq]
  have hfp:=Fit.one hs hfit
  have hfq:=Fit.one hs hfiq
  have hpl:=hfp.len
  have hql:=hfq.len
  have hvl:=hs.1
  refine Ad.B2 (f:=fun b=>.bool b) (Nc ?_)
  show Y8 _ _ _ S (fun r S'=>r = .ret (aL aB (IM s p q))∧Am S S')
  dsimp only[Y8,Fi,Lf]
  refine Ai rfl fun S1 k1 n1 o1=>?_
  rw[An (n:=5) o1 rfl]
  refine Af (Ki hs p) ?_
  rw[hfit,AJ,Ag,show(!true)=false from rfl,A2,An (n:=5) o1 rfl]
  refine Af (Ki hs q) ?_
  rw[hfiq,AJ,Ag,show(!true)=false from rfl,A2,Ac,Ae o1 rfl rfl]
  refine Af (E5 (by omega) (by omega)) ?_
  refine Ww (fun y x T=>T=S1∧∃(out:List Bool) (i:Nat),y=aL aB out∧x=aI i∧i≤p.length∧out.length=p.length∧Sub (Bm q s.valid) out∧Sub out (IM s p q)∧i≤Nz out)
   (fun _ x _=>p.length - ((Aw x).getD 0).toNat) ⟨rfl,_,0,rfl,rfl,AhS _,by simp;omega,Sub.refl _,fun i h=>?_,AhS _⟩ ?_
  ·rw[Bi,AhO]at h
   exact D1.2 ⟨Cd h.1,.base i h.1 h.2⟩
  rintro _ _ S1 ⟨rfl,out,i,rfl,rfl,hi,hol,h0,hin,hc⟩ KE hKE
  dsimp only[gB,Fi,Lq,Ld]
  rw[Ax,As,Ag]
  refine Al (fun h=>?_) (fun h=>?_)
  ·have hlt:i<p.length:=by simpa using h
   have hfo:fits s [out]=true:=by rw[aE hol];exact hfit
   have e26:Xw s out=Ny s out:=by rw[Xw,hfo];rfl
   refine⟨_,by rw[Ac];exact⟨rfl,rfl⟩,_,by rw[Ae o1 rfl rfl];exact⟨rfl,rfl⟩,_,Af (E5 (by omega) (by omega)) ⟨rfl,rfl⟩,s.av,by rw[An (n:=5) o1 rfl];exact⟨rfl,rfl⟩,_,Af (T6 hs out) ⟨rfl,rfl⟩,_,
    by rw[e26];exact Af (E5 (by simp;omega) (by simp;omega)) ⟨rfl,rfl⟩,_,Af (iQ (by omega) (by simp;omega)) ⟨rfl,rfl⟩,?_⟩
   show Ah _ _ [aL aB (Ut s p out),aL aB out] _ _ _
   have hrl:=kF s p out
   refine Af (iW (by omega)) ?_
   rw[Ag]
   refine Al (fun h=>⟨?_,k1⟩) (fun h=>?_)
   ·have he:Ut s p out=out:=by simpa using h
    rw[Sub.yE (by simp;omega) hin (kG (q:=q) hol (by omega) (by omega) h0 (by rw[he];exact Sub.refl _))]
   ·have he:¬ Ut s p out=out:=by simpa using h
    rw[Ar (by omega) (by omega)]
    have hcs:=J9 (a:=out) (b:=Ut s p out) (by omega) (XM hol)
    refine hKE _ _ _ ⟨rfl,Ut s p out,i+1,rfl,rfl,hlt,by omega,h0.trans (XM hol),wK hfp hol (by omega) hin,?_⟩ (by simp[Aw];omega)
    have:Nz out≠Nz (Ut s p out):=fun e=>he (hcs.2 e).symm
    omega
  ·have hge:i=p.length:=by simp at h;omega
   subst hge
   refine⟨?_,k1⟩
   have hcl:=TN out
   rw[Sub.yE (by simp;omega) hin (fun i hi=>RF out (by omega) i (by have:=Cd hi;simp at this;omega))]
def I1 (s:Sp) (z:List Bool):Nat→List Bool
 |0=>z
 |k+1=>Bm (I1 s z k) (Ny s (IM s z (Bm z ((Bs s).getD k []))))
theorem Mm(s:Sp)(z:List Bool):∀ k,(I1 s z k).length=z.length
 |0=>rfl
 |k+1=>by simp[I1,Mm s z k]
theorem Jm(s:Sp)(z:List Bool):∀ k,Sub (I1 s z k) z
 |0=>Sub.refl z
 |k+1=>fun i h=>by
  rw[I1,Bi,AhO]at h
  exact Jm s z k i h.1
theorem NT(s:Sp)(z:List Bool):∀ k,∀ j,j<k→Sub (I1 s z k) (D8 s z ((Bs s).getD j []))
 |0,j,h=>absurd h (AhY _)
 |k+1,j,h=>fun i hi=>by
  have hz:=Jm s z (k+1) i hi
  rw[I1,Bi,AhO]at hi
  by_cases e:j=k
  ·subst e
   rw[D8,Bi,hz,hi.2];rfl
  ·exact NT s z k j (by omega) i hi.1
theorem Mn{s:Sp}{p z:List Bool}(h:HV s p z)(hl:z.length=p.length):∀ k,k≤(Bs s).length→HV s p (I1 s z k)
 |0,_=>h
 |k+1,hk=>fun y h1 h2 h3 i hi=>by
  have h4:=Mn h hl k (by omega) y h1 h2 h3 i hi
  have hm:(Bs s).getD k []∈Bs s:=by
   rw[AhL,AhM (by omega)]
   exact AhP _
  have h5:=Gn (f:=(Bs s).getD k []) (h y h1 h2 h3) (by omega:y.length≤z.length) i (h3 _ hm i hi)
  rw[D8,Bi,AhO]at h5
  rw[I1,Bi,h4,h5.2];rfl
theorem vA{s:Sp}(hs:s.small)(p:List Bool):BF Pg 85 [s.av,aL aB p] (aL aB (vV s p)):=by
 intro S
 cases hfit:fits s [p]with
 |false =>
  rw[vV,hfit]
  refine Ad.Jc (Vd ?_)
  dsimp only[m85,Fi,Lf]
  refine Ai rfl fun S1 k1 n1 o1=>?_
  rw[An (n:=5) o1 rfl]
  refine Af (Ki hs p) ?_
  rw[hfit,AJ,Ag]
  exact⟨rfl,k1⟩
 |true =>
  rw[vV,hfit]
  have hf:=Fit.one hs hfit
  have hpl:=hf.len
  have hvl:=hs.1
  have hfll:=Oi hs
  refine Ad.B2 (f:=fun b=>.bool b) (Vd ?_)
  show m85 _ _ S (fun r S'=>r = .ret (aL aB (DO s p))∧Am S S')
  dsimp only[m85,Fi,Lf]
  refine Ai rfl fun S1 k1 n1 o1=>?_
  rw[An (n:=5) o1 rfl]
  refine Af (Ki hs p) ?_
  rw[hfit,AJ,Ag,show(!true)=false from rfl,A2,Ac,Ae o1 rfl rfl]
  refine Af (E5 (by omega) (by omega)) ?_
  refine Ze (fun y x T=>Am S1 T∧∃(z:List Bool) (r:Nat),y=aL aB z∧x=aI r∧r≤p.length+1∧z.length=p.length∧Sub z (Bm p s.valid)∧HV s p z∧Nz z+r≤p.length)
   (fun _ x _=>p.length+1 - ((Aw x).getD 0).toNat) ⟨Am.refl _,_,0,rfl,rfl,AhS _,by simp,Sub.refl _,fun y _ h _=>h,by have:=TN (Bm p s.valid);simp at this;omega⟩ ?_
  dsimp only[Dw]
  rintro _ _ S2 ⟨k2,z,r,rfl,rfl,hr,hzl,hzs,hza,hc⟩ KE hKE
  have q2:=(k2.2 S.n (by omega)).trans o1
  dsimp only[tG,Fi]
  rw[Ax,Di,Ag]
  refine Al (fun h=>?_) (fun h=>?_)
  ·have hlt:r<p.length+1:=by simp at h;omega
   rw[An (n:=5) q2 rfl]
   refine .inl (Ad.mono (yU s S2) ?_)
   rintro _ S3 ⟨rfl,k3⟩
   have q3:=(k3.2 S.n (by have:=k2.1;omega)).trans q2
   show Ap _ _ _ _ _ _
   refine Zd (fun y x T=>T=S3∧∃ k:Nat,y=aL aB (I1 s z k)∧x=aI k∧k≤(Bs s).length) (fun _ x _=>(Bs s).length - ((Aw x).getD 0).toNat) ⟨rfl,0,rfl,rfl,AhS _⟩ ?_
   dsimp only[Dw]
   rintro _ _ S3 ⟨rfl,k,rfl,rfl,hk⟩ KE1 hKE1
   dsimp only[tF,Fi,Lq,Ld]
   rw[Ax,As,Ag]
   refine Al (fun h=>?_) (fun h=>?_)
   ·have hkl:k<(Bs s).length:=by simpa using h
    have hfe:(Bs s).getD k []=(Bs s)[k]:=by simp[AhL,hkl]
    have hfle:=NX hf (AhP hkl)
    have hrl:=Mm s z k
    have e1:jS s z (Bm z (Bs s)[k])=IM s z (Bm z (Bs s)[k]):=by
     rw[jS,HD,(hf.with (by omega):Fit s z).fits,(hf.with (by simp;omega):Fit s (Bm z (Bs s)[k])).fits];rfl
    have e2:Xw s (IM s z (Bm z (Bs s)[k]))=Ny s (IM s z (Bm z (Bs s)[k])):=by
     rw[Xw,(hf.with (by simp;omega):Fit s (IM s z (Bm z (Bs s)[k]))).fits];rfl
    refine⟨s.av,by rw[An (n:=5) q3 rfl];exact⟨rfl,rfl⟩,s.av,by rw[An (n:=5) q3 rfl];exact⟨rfl,rfl⟩,_,by rw[AM hkl];exact⟨rfl,rfl⟩,_,by rw[A1];exact⟨rfl,rfl⟩,_,Af (E5 (by omega) (by omega)) ⟨rfl,rfl⟩,_,
     Af (iX hs z _) ⟨rfl,rfl⟩,_,Af (T6 hs _) ⟨rfl,rfl⟩,_,by rw[e1,e2];exact Af (E5 (by omega) (by simp;omega)) ⟨rfl,rfl⟩,?_⟩
    rw[Ar (by omega) (by omega)]
    exact hKE1 _ _ _ ⟨rfl,k+1,by rw[I1,hfe],rfl,hkl⟩ (by simp[Aw];omega)
   ·have hge:k=(Bs s).length:=by simp at h;omega
    subst hge
    have hrl:=Mm s z (Bs s).length
    refine Af (iW (by omega)) ?_
    rw[Ag]
    refine Al (fun h=>⟨?_,(k1.trans k2).trans k3⟩) (fun h=>?_)
    ·have he:I1 s z (Bs s).length=z:=by simpa using h
     rw[←U7 hzl hzs hza (fun f hfm=>?_)]
     obtain⟨j,hj,rfl⟩:=List.mem_iff_getElem.1 hfm
     have:=NT s z (Bs s).length j hj
     rw[he]at this
     simpa[AhL,hj]using this
    ·have he:¬ I1 s z (Bs s).length=z:=by simpa using h
     rw[Ar (by omega) (by omega)]
     have hcs:=J9 (a:=I1 s z (Bs s).length) (b:=z) (by omega) (Jm s z _)
     have hne:Nz (I1 s z (Bs s).length)≠Nz z:=fun e=>he (hcs.2 e)
     refine hKE _ _ _ ⟨k2.trans k3,_,r+1,rfl,rfl,hlt,by omega,(Jm s z _).trans hzs,Mn hza hzl _ (AhN _),by omega⟩ (by simp[Aw];omega)
  ·have hge:p.length<r:=by simp at h;omega
   omega
structure In (s:Sp) (p:List Bool):Prop where
 len:p.length=s.valid.length
 sub:Sub p s.valid
def Fw(s:Sp)(g:Nat→Bool):List Bool:=CG s.valid.length fun i=>bit s.valid i && g i
theorem E3{s:Sp}{g:Nat→Bool}{i:Nat}:bit (Fw s g) i=(bit s.valid i && g i):=by
 rcases AiB i s.valid.length with h|h
 ·rw[Fw,CY h]
 ·rw[FJ (by simpa[Fw]using h),FJ h];rfl
theorem Ey(s:Sp)(g:Nat→Bool):In s (Fw s g):=⟨by simp[Fw],fun i h=>by
 rw[E3,AhO]at h;exact h.1⟩
theorem M4(s:Sp):In s s.valid:=⟨rfl,Sub.refl _⟩
def A5(s:Sp)(p:List Bool):List Bool:=Fw s fun i=>!bit p i
theorem Bp(s:Sp)(p:List Bool):In s (A5 s p):=Ey _ _
theorem B8{s:Sp}{p:List Bool}{i:Nat}:bit (A5 s p) i=(bit s.valid i && !bit p i):=E3
theorem In.and{s:Sp}{p q:List Bool}(h:In s p):In s (Bm p q):=⟨by simp[h.len],fun i hi=>by
 rw[Bi,AhO]at hi;exact h.sub i hi.1⟩
theorem In.or{s:Sp}{p q:List Bool}(h:In s p)(k:In s q):In s (EC p q):=⟨by simp[h.len],fun i hi=>by
 rw[CR (by rw[h.len,k.len]),Bool.or_eq_true]at hi
 rcases hi with hi|hi
 ·exact h.sub i hi
 ·exact k.sub i hi⟩
theorem In.ex{s:Sp}{p:List Bool}(h:p.length=s.valid.length):In s (Ny s p):=⟨by simp[h],fun i hi=>(K0.1 hi).2.1⟩
theorem QE{s:Sp}{p q:List Bool}{i:Nat}(h:Reach s p q i):bit s.valid i=true:=by
 cases h<;>assumption
theorem In.eu{s:Sp}{p q:List Bool}(h:q.length=s.valid.length):In s (IM s p q):=⟨by simp[h],fun i hi=>QE (D1.1 hi).2⟩
theorem In.eg{s:Sp}{p:List Bool}(h:p.length=s.valid.length):In s (DO s p):=⟨by simp[h],fun i hi=>by
 obtain⟨z,h1,h2,_,h4⟩:=K1.1 hi
 have:=h2 i h4
 rw[Bi,AhO]at this
 exact this.2⟩
theorem In.eq{s:Sp}{p q:List Bool}(h:In s p)(k:In s q)(e:∀ i,bit s.valid i=true→bit p i=bit q i):p=q:=
 PT (by rw[h.len,k.len]) fun i=>by
  cases hv:bit s.valid i with
  |true=>exact e i hv
  |false =>
   cases hp:bit p i with
   |true=>rw[h.sub i hp]at hv;cases hv
   |false=>cases hq:bit q i with
    |true=>rw[k.sub i hq]at hv;cases hv
    |false=>rfl
theorem aP{s:Sp}{p q:List Bool}(h:In s p):Fw s (fun i=>bit p i && bit q i)=Bm p q:=
 (Ey _ _).eq h.and fun i hi=>by rw[E3,Bi,hi,AhQ]
theorem mH{s:Sp}{p q:List Bool}(h:In s p)(k:In s q):Fw s (fun i=>bit p i || bit q i)=EC p q:=
 (Ey _ _).eq (h.or k) fun i hi=>by rw[E3,CR (by rw[h.len,k.len]),hi,AhQ]
theorem W3{s:Sp}{p q:List Bool}(h:In s p)(k:In s q):Fw s (fun i=>bit p i == bit q i)=EC (Bm p q) (A5 s (EC p q)):=
 (Ey _ _).eq (h.and.or (Bp _ _)) fun i hi=>by
  rw[E3,CR (by rw[h.and.len,(Bp _ _).len]),Bi,B8,CR (by rw[h.len,k.len]),hi]
  cases bit p i<;>cases bit q i<;>rfl
theorem not_or{s:Sp}{p q:List Bool}(h:In s p)(k:In s q):Bm (A5 s p) (A5 s q)=A5 s (EC p q):=
 (Bp _ _).and.eq (Bp _ _) fun i hi=>by
  rw[Bi,B8,B8,B8,CR (by rw[h.len,k.len]),hi]
  cases bit p i<;>cases bit q i<;>rfl
def Dz (s:Sp) (fr p:List Bool):List Bool:=Ny s (Bm p fr)
def Bn (s:Sp) (fr p q:List Bool):List Bool:=IM s p (Bm q fr)
def QO (s:Sp) (fr:List Bool) (k:Int) (p:List Bool):List Bool:=
 if k=9 then Dz s fr p else if k=10 then A5 s (Dz s fr (A5 s p))else if k=11 then Bn s fr s.valid p else if k=12 then A5 s (DO s (A5 s p))
 else if k=13 then DO s p else if k=14 then A5 s (Bn s fr s.valid (A5 s p))else A5 s p
def Qu (s:Sp) (fr:List Bool) (k:Int) (p q:List Bool):List Bool:=
 if k=5 then Bm p q else if k=6 then EC p q else if k=7 then EC (A5 s p) q else if k=8 then EC (Bm p q) (A5 s (EC p q))
 else if k=15 then Bn s fr p q else if k=16 then A5 s (EC (Bn s fr (A5 s q) (A5 s (EC p q))) (DO s (A5 s q)))
 else if k=17 then EC (DO s q) (Bn s fr q (Bm p q))else A5 s (Bn s fr (A5 s p) (A5 s q))
theorem TE{s:Sp}{fr p:List Bool}(hp:In s p)(k:Int):In s (QO s fr k p):=by
 have h1:∀ q:List Bool,In s q→In s (Dz s fr q):=fun q hq=>In.ex (by simp[hq.len])
 have h2:∀ p q:List Bool,In s q→In s (Bn s fr p q):=fun p q hq=>In.eu (by simp[hq.len])
 unfold QO
 repeat' split
 all_goals first|exact Bp _ _|exact h1 _ hp|exact h2 _ _ hp|exact In.eg hp.len
theorem Z8{s:Sp}{fr p q:List Bool}(hp:In s p)(hq:In s q)(k:Int):In s (Qu s fr k p q):=by
 have h2:∀ p q:List Bool,In s q→In s (Bn s fr p q):=fun p q hq=>In.eu (by simp[hq.len])
 unfold Qu
 repeat' split
 all_goals first|exact Bp _ _|exact hp.and|exact hp.or hq|exact(Bp _ _).or hq|exact hp.and.or (Bp _ _)|exact h2 _ _ hq|exact(In.eg hq.len).or (h2 _ _ hp.and)
inductive Rc (s:Sp) (p q:List Bool):Nat→Prop
 |base (i:Nat) (h1:bit q i=true):Rc s p q i
 |step (i k:Nat) (h1:bit p i=true) (h3:(k:Int)∈nx s i) (h:Rc s p q k):Rc s p q i
def CO(n t:Nat):List Bool:=CG n fun i=>decide (i=t)
@[simp] theorem NU(n t:Nat):(CO n t).length=n:=OE _ _
theorem E2{n t i:Nat}:bit (CO n t) i=true↔i=t∧i<n:=by
 constructor
 ·intro h
  have hi:i<n:=by simpa using Cd h
  rw[CO,CY hi]at h
  exact⟨dT h,hi⟩
 ·rintro⟨rfl,hi⟩
  rw[CO,CY hi]
  exact decide_eq_true rfl
theorem Reach.rc{s:Sp}{p q:List Bool}{i:Nat}(h:Reach s p q i):Rc s p q i:=by
 induction h with
 |base i h1 h2=>exact .base i h1
 |step i k h1 h2 h3 h ih=>exact .step i k h1 h3 ih
theorem Rc.reach{s:Sp}{p q:List Bool}(hp:Sub p s.valid)(hq:Sub q s.valid){i:Nat}(h:Rc s p q i):Reach s p q i:=by
 induction h with
 |base i h1=>exact .base i h1 (hq i h1)
 |step i k h1 h3 h ih=>exact .step i k h1 (hp i h1) h3 ih
theorem Rc.Aa6{s:Sp}{p q:List Bool}{n v u:Nat}(h:Rc s p (CO n v) u)(k:Rc s p q v):Rc s p q u:=by
 induction h with
 |base i h1=>obtain⟨rfl,_⟩:=E2.1 h1;exact k
 |step i j h1 h3 h ih=>exact .step i j h1 h3 ih
theorem Rc.end_{s:Sp}{p q:List Bool}{n:Nat}(hn:q.length≤n){u:Nat}(h:Rc s p q u):∃ v,bit q v=true∧Rc s p (CO n v) u:=by
 induction h with
 |base i h1=>exact⟨i,h1,.base i (E2.2 ⟨rfl,by have:=Cd h1;omega⟩)⟩
 |step i j h1 h3 h ih =>
  obtain⟨v,h4,h5⟩:=ih
  exact⟨v,h4,.step i j h1 h3 h5⟩
theorem Rc.first{s:Sp}{p q z:List Bool}(hz:∀ i,bit p i=true→bit z i=true)(hq:∀ i,bit q i=true→bit z i=true){u:Nat}(h:Rc s p q u):bit z u=true:=by
 cases h with
 |base _ h1=>exact hq _ h1
 |step _ k h1 _ _=>exact hz _ h1
theorem j5{s:Sp}{p:List Bool}:rP s (Bs s) (DO s p):=fun f hf i hi=>by
 obtain⟨z,h1,h2,h3,h4⟩:=K1.1 hi
 have hz:Sub z (DO s p):=fun j hj=>K1.2 ⟨z,h1,h2,h3,hj⟩
 exact Gn hz (by rw[h1,PW];exact AhN _) i (h3 f hf i h4)
theorem sV{s:Sp}{p:List Bool}:Sub (DO s p) (Bm p s.valid):=fun i hi=>by
 obtain⟨z,h1,h2,h3,h4⟩:=K1.1 hi
 exact h2 i h4
structure Home (s:Sp) (z:List Bool) (t:Nat):Prop where
 in_:bit z t=true
 lK:∀ f∈s.fair,Rc s z (Bm (Bm z f) (IM s z (CO s.valid.length t))) t
 round:∃ k:Nat,(k:Int)∈nx s t∧Rc s z (CO s.valid.length t) k
open Classical in
theorem lR{s:Sp}(hs:∀ i,∀ k∈nx s i,0≤k){p:List Bool}(hp:p.length=s.valid.length){a:Nat}(ha:bit (DO s p) a=true):∃ t,Rc s (DO s p) (CO s.valid.length t) a∧Home s (DO s p) t:=by
 let z:=DO s p
 let n:=s.valid.length
 have zl:z.length=n:=by show(DO s p).length=_;rw[PW,hp]
 have zin:∀ i,bit z i=true→bit s.valid i=true:=fun i hi=>by
  have:=sV i hi
  rw[Bi,AhO]at this
  exact this.2
 have zlt:∀ i,bit z i=true→i<n:=fun i hi=>Cd (zin i hi)
 let R:Nat→Nat→Prop:=fun u v=>Rc s z (CO n v) u
 have Rr:∀ u,bit z u=true→R u u:=fun u hu=>.base u (E2.2 ⟨rfl,zlt u hu⟩)
 have Rt:∀{u v w},R u v→R v w→R u w:=fun h k=>Rc.Aa6 h k
 let N:Nat→List Bool:=fun u=>CG n fun w=>decide (bit z w=true∧R u w)
 have bN:∀{u w},bit (N u) w=true↔bit z w=true∧R u w:=fun{u w}=>by
  constructor
  ·intro h
   have hw:w<n:=by have:=Cd h;simpa[N]using this
   have h:bit (CG n fun w=>decide (bit z w=true∧R u w)) w=true:=h
   rw[CY hw]at h
   exact dT h
  ·intro h
   show bit (CG n fun w=>decide (bit z w=true∧R u w)) w=true
   rw[CY (zlt w h.1)]
   exact decide_eq_true h
 obtain⟨m,⟨t,h1,h2,rfl⟩,hmin⟩:=GN (p:=fun m=>∃ t,bit z t=true∧R a t∧Nz (N t)=m) ⟨_,a,ha,Rr a ha,rfl⟩
 have back:∀ u,bit z u=true→R t u→R u t:=fun u hu hr=>by
  have hsub:Sub (N u) (N t):=fun w hw=>bN.2 ⟨(bN.1 hw).1,Rt hr (bN.1 hw).2⟩
  obtain⟨c1,c2⟩:=J9 (by simp[N]) hsub
  have c3:=hmin _ ⟨u,hu,Rt h2 hr,rfl⟩
  have e:=c2 (by omega)
  exact(bN.1 (e ▸ bN.2 ⟨h1,Rr t h1⟩)).2
 have out:∀ f∈Bs s,∃ k u:Nat,(k:Int)∈nx s t∧bit z k=true∧R k u∧bit (Bm z f) u=true:=fun f hf=>by
  have h:=j5 (p:=p) f hf t h1
  rw[D8,Bi,AhO,K0]at h
  obtain⟨_,_,_,k,h5,h6⟩:=h
  have hk:=hs t k h5
  rw[D1]at h6
  obtain⟨u,h7,h8⟩:=h6.2.rc.end_ (n:=n) (by rw[DJ];exact Nat.le_of_eq zl)
  exact⟨k.toNat,u,by rw[Int.toNat_of_nonneg hk];exact h5,Rc.first (z:=z) (fun _ h=>h) (fun i hi=>by
   rw[Bi,AhO]at hi;exact hi.1) h6.2.rc,h8,h7⟩
 have tl:(CO n t).length=n:=by simp
 have tin:Sub (CO n t) s.valid:=fun i hi=>by obtain⟨rfl,_⟩:=E2.1 hi;exact zin _ h1
 refine⟨t,h2,h1,fun f hf=>?_,?_⟩
 ·have hf2:f∈Bs s:=by
    unfold Bs
    rw[if_neg]
    ·exact hf
    ·intro e
     rw[List.isEmpty_iff.1 e]at hf
     cases hf
  obtain⟨k,u,h3,h4,h5,h6⟩:=out f hf2
  rw[Bi,AhO]at h6
  have tu:R t u:=.step t k h1 h3 h5
  refine Rc.Aa6 tu (.base u ?_)
  rw[Bi,Bi,h6.1,h6.2,AhQ,AhQ,D1]
  exact⟨by rw[tl];exact zlt u h6.1,Rc.reach zin tin (back u h6.1 tu)⟩
 ·have hne:∃ f,f∈Bs s:=by
    unfold Bs
    split
    ·exact⟨_,AhT.2 rfl⟩
    ·rename_i e
     cases hf:s.fair with
     |nil=>rw[hf]at e;simp at e
     |cons f l=>exact⟨f,by simp⟩
  obtain⟨f,hf⟩:=hne
  obtain⟨k,u,h3,h4,h5,h6⟩:=out f hf
  exact⟨k,h3,back k h4 (.step t k h1 h3 (Rr k h4))⟩
def gN(r:List Nat)(i:Nat):Nat:=r.getD i 0
structure C2 (s:Sp) (p:List Bool) (a:Nat) (r:List Nat):Prop where
 pos:r≠[]
 fst:gN r 0=a
 by_:∀ i,i+1<r.length→bit p (gN r i)=true
 nxt:∀ i,i+1<r.length→(gN r (i+1):Int)∈nx s (gN r i)
def Br(r:List Nat):Nat:=gN r (r.length - 1)
theorem DE{r r2:List Nat}{i:Nat}:gN (r++r2) i=if i<r.length then gN r i else gN r2 (i - r.length):=by
 unfold gN
 rw[AhL,AhL,AhL]
 split
 ·rw[List.getElem?_append_left (by assumption)]
 ·rw[List.getElem?_append_right (by omega)]
theorem lU{r:List Nat}{i:Nat}:gN r.tail i=gN r (i+1):=by cases r<;>rfl
theorem KR{r r2:List Nat}(h:r2≠[]):Br (r++r2)=Br r2:=by
 have:=Ai3.2 h
 unfold Br
 rw[Ai2,DE,if_neg (by omega)]
 congr 1;omega
theorem C2.one(s:Sp)(p:List Bool)(a:Nat):C2 s p a [a]:=⟨by simp,rfl,fun i h=>by simp at h,fun i h=>by simp at h⟩
theorem C2.app{s:Sp}{p:List Bool}{a:Nat}{r r2:List Nat}(h:C2 s p a r)(k:C2 s p (Br r) r2):C2 s p a (r++r2.tail)∧Br (r++r2.tail)=Br r2∧(∀ i,i<r.length→gN (r++r2.tail) i=gN r i)∧∀ i,0<i→i<r2.length→gN (r++r2.tail) (r.length - 1+i)=gN r2 i:=by
 have h0:=Ai3.2 h.pos
 have k0:=Ai3.2 k.pos
 have g1:∀ i,i<r.length→gN (r++r2.tail) i=gN r i:=fun i hi=>by rw[DE,if_pos hi]
 have g2:∀ i,0<i→i<r2.length→gN (r++r2.tail) (r.length - 1+i)=gN r2 i:=fun i hi hi2=>by
  rw[DE,if_neg (by omega),lU];congr 1;omega
 have g3:∀ i,i<r2.length→gN (r++r2.tail) (r.length - 1+i)=gN r2 i:=fun i hi=>by
  by_cases e:i=0
  ·subst e
   rw[Nat.add_zero,g1 _ (by omega),k.fst];rfl
  ·exact g2 i (by omega) hi
 have hl:(r++r2.tail).length=r.length+(r2.length - 1):=by simp
 have split:∀ i,i+1<(r++r2.tail).length→i+1<r.length∨∃ j,i=r.length - 1+j∧j+1<r2.length:=fun i hi=>by
  by_cases e:i+1<r.length
  ·exact .inl e
  ·exact .inr ⟨i - (r.length - 1),by omega,by omega⟩
 refine⟨⟨by simp[h.pos],by rw[g1 0 h0];exact h.fst,fun i hi=>?_,fun i hi=>?_⟩,?_,g1,g2⟩
 ·rcases split i hi with h1|⟨j,rfl,h1⟩
  ·rw[g1 i (by omega)];exact h.by_ i h1
  ·rw[g3 j (by omega)];exact k.by_ j h1
 ·rcases split i hi with h1|⟨j,rfl,h1⟩
  ·rw[g1 i (by omega),g1 _ h1];exact h.nxt i h1
  ·rw[g3 j (by omega),Nat.add_assoc,g3 _ h1];exact k.nxt j h1
 ·show gN _ ((r++r2.tail).length - 1)=gN r2 (r2.length - 1)
  rw[hl,show r.length+(r2.length - 1) - 1=r.length - 1+(r2.length - 1)by omega,g3 _ (by omega)]
theorem C2.snoc{s:Sp}{p:List Bool}{a t:Nat}{r:List Nat}(h:C2 s p a r)(hb:bit p (Br r)=true)(ht:(t:Int)∈nx s (Br r)):C2 s p a (r ++ [t]):=by
 have h0:=Ai3.2 h.pos
 have hl:(r ++ [t]).length=r.length+1:=by simp
 refine⟨by simp,by rw[DE,if_pos h0];exact h.fst,fun i hi=>?_,fun i hi=>?_⟩
 ·rw[hl]at hi
  rw[DE,if_pos (by omega)]
  by_cases e:i+1=r.length
  ·have:gN r i=Br r:=by unfold Br;congr 1;omega
   rw[this];exact hb
  ·exact h.by_ i (by omega)
 ·rw[hl]at hi
  rw[DE,DE,if_pos (show i<r.length by omega)]
  by_cases e:i+1=r.length
  ·have:gN r i=Br r:=by unfold Br;congr 1;omega
   rw[if_neg (by omega),this,e,Nat.sub_self];exact ht
  ·rw[if_pos (by omega)];exact h.nxt i (by omega)
structure Wy (s:Sp) (p q:List Bool) (a least:Nat) (r:List Nat):Prop where
 ch:C2 s p a r
 to:bit q (Br r)=true
 len:least<r.length
 small:r.length≤p.length+1
structure jK (s:Sp) (p:List Bool) (t:Nat) (r:List Nat):Prop where
 pos:r≠[]
 fst:gN r 0=t
 by_:∀ i,i<r.length→bit p (gN r i)=true
 nxt:∀ i,i+1<r.length→(gN r (i+1):Int)∈nx s (gN r i)
 back:(t:Int)∈nx s (Br r)
 met:∀ f∈s.fair,∃ i,i<r.length∧bit f (gN r i)=true
structure Lp (s:Sp) (p:List Bool) (a:Nat) (r:List Nat) (at_:Nat):Prop where
 pos:r≠[]
 fst:gN r 0=a
 by_:∀ i,i<r.length→bit p (gN r i)=true
 nxt:∀ i,i+1<r.length→(gN r (i+1):Int)∈nx s (gN r i)
 lt:at_<r.length
 back:(gN r at_:Int)∈nx s (Br r)
 met:∀ f∈s.fair,∃ i,at_≤i∧i<r.length∧bit f (gN r i)=true
theorem PR{r:List Nat}{n i:Nat}(h:i<n):gN (r.take n) i=gN r i:=by
 unfold gN
 rw[AhL,AhL,List.getElem?_take,if_pos h]
theorem jK.loop{s:Sp}{p:List Bool}{a t:Nat}{w r:List Nat}(h:C2 s p a w)(ht:Br w=t)(k:jK s p t r):Lp s p a (w.take (w.length - 1)++r) (w.length - 1):=by
 have h0:=Ai3.2 h.pos
 have k0:=Ai3.2 k.pos
 have hl:(w.take (w.length - 1)).length=w.length - 1:=by rw[AiF];omega
 have hL:(w.take (w.length - 1)++r).length=w.length - 1+r.length:=by rw[Ai2,hl]
 have g1:∀ i,i<w.length - 1→gN (w.take (w.length - 1)++r) i=gN w i:=fun i hi=>by rw[DE,hl,if_pos hi,PR hi]
 have g2:∀ i,gN (w.take (w.length - 1)++r) (w.length - 1+i)=gN r i:=fun i=>by rw[DE,hl,if_neg (by omega)];congr 1;omega
 have gw:gN (w.take (w.length - 1)++r) (w.length - 1)=t:=by have:=g2 0;rw[Nat.add_zero]at this;rw[this];exact k.fst
 have split:∀ i,i<w.length - 1+r.length→i<w.length - 1∨∃ j,i=w.length - 1+j∧j<r.length:=fun i hi=>by
  by_cases e:i<w.length - 1
  ·exact .inl e
  ·exact .inr ⟨i - (w.length - 1),by omega,by omega⟩
 have glast:Br (w.take (w.length - 1)++r)=Br r:=KR k.pos
 refine⟨by simp[k.pos],?_,fun i hi=>?_,fun i hi=>?_,by omega,?_,fun f hf=>?_⟩
 ·by_cases e:w.length=1
  ·have h2:=g2 0
   rw[e]at h2
   have:gN (w.take (w.length - 1)++r) 0=t:=by
    rw[e];have:=h2;simp only[Nat.sub_self,AhZ]at this ⊢;rw[this];exact k.fst
   rw[this,←ht,←h.fst]
   unfold Br;rw[e]
  ·rw[g1 0 (by omega)];exact h.fst
 ·rw[hL]at hi
  rcases split i hi with h1|⟨j,rfl,h1⟩
  ·rw[g1 i h1];exact h.by_ i (by omega)
  ·rw[g2];exact k.by_ j h1
 ·rw[hL]at hi
  rcases split i (by omega)with h1|⟨j,rfl,h1⟩
  ·rw[g1 i h1]
   by_cases e:i+1<w.length - 1
   ·rw[g1 _ e];exact h.nxt i (by omega)
   ·have e2:i+1=w.length - 1:=by omega
    rw[e2,gw,←ht]
    have:=h.nxt i (by omega)
    rw[e2]at this
    exact this
  ·rw[g2,Nat.add_assoc,g2];exact k.nxt j (by omega)
 ·rw[gw,glast];exact k.back
 ·obtain⟨i,h1,h2⟩:=k.met f hf
  exact⟨w.length - 1+i,by omega,by omega,by rw[g2];exact h2⟩
section
set_option maxRecDepth 100000
def Sc:Code:=(Tryz.f80.body).getD .skip
def zN:List ResultVar:=Tryz.f80.results.toList
def Ic(y3 y4 y5 y8 y9 y10:AV):List AV:=[y3,y4,y5,y8,y9,y10]
def SQ:List Nat:=[3,4,5,8,9,10]
def LU(y3 y5 y8 y9 y11:AV):List AV:=[y3,y5,y8,y9,y11]
def MM:List Nat:=[3,5,8,9,11]
def Ib(y3 y5 y8 y9 y11 y12 y13:AV):List AV:=[y3,y5,y8,y9,y11,y12,y13]
def SP:List Nat:=[3,5,8,9,11,12,13]
def Hs:List (List Nat):=[SQ,MM,SP,[]]
def m80(x0 x1 x2:AV)(S:Aa)(Q:Aq):Prop:=
 Az 29 8 x0 S fun a S=>Az 32 4 x1 S fun c S=>Az 51 5 x2 S fun d S=>Lf d 3 S fun e S=>AF e S fun f S=>(fun S0:Aa=>∃ g:AV,(bin .lss 0 f (aI 1) S0 fun h S=>h=g∧S=S0)∧∃ t9:Bool,BC g false=some t9∧∃ i:AV,gd t9 (shift d 3 S0 fun k S=>k=i∧S=S0) (i = .v undef)∧∃ t12:Bool,BC g false=some t12∧∃ l:AV,gd t12 (Ay i S0 fun m S=>m=l∧S=S0) (l = .v undef)∧∃ t15:Bool,BC g false=some t15∧∃ n:AV,gd t15 (AS 3 1 l (aI 0) S0 fun o S=>o=n∧S=S0) (n = .v undef)∧∃ t18:Bool,BC g false=some t18∧∃ p:AV,gd t18 (Ay n S0 fun q S=>q=p∧S=S0) (p = .v undef)∧∃ t21:Bool,BC g false=some t21∧∃ r:AV,gd t21 (shift d 1 S0 fun s S=>s=r∧S=S0) (r = .v undef)∧∃ t24:Bool,BC g false=some t24∧∃ u:AV,gd t24 (Ay r S0 fun w S=>w=u∧S=S0) (u = .v undef)∧∃ t27:Bool,BC g false=some t27∧∃ x:AV,gd t27 (bin .neq 0 p u S0 fun y S=>y=x∧S=S0) (x = .v undef)∧∃ z:AV,(pick g (.v (.bool true)) x S0 fun A S=>A=z∧S=S0)∧∃ t32:Bool,BC z false=some t32∧∃ B:AV,gd t32 (shift d 2 S0 fun C S=>C=B∧S=S0) (B = .v undef)∧∃ t35:Bool,BC z false=some t35∧∃ D:AV,gd t35 (Ay B S0 fun E S=>E=D∧S=S0) (D = .v undef)∧∃ t38:Bool,BC z false=some t38∧∃ F:AV,gd t38 (bin .lss 0 D (aI 0) S0 fun G S=>G=F∧S=S0) (F = .v undef)∧∃ H:AV,(pick z (.v (.bool true)) F S0 fun I S=>I=H∧S=S0)∧∃ t43:Bool,BC H false=some t43∧∃ J:AV,gd t43 (shift d 2 S0 fun K S=>K=J∧S=S0) (J = .v undef)∧∃ t46:Bool,BC H false=some t46∧∃ L:AV,gd t46 (Ay J S0 fun M S=>M=L∧S=S0) (L = .v undef)∧∃ t49:Bool,BC H false=some t49∧∃ N:AV,gd t49 (N=f) (N = .v undef)∧∃ t51:Bool,BC H false=some t51∧∃ O:AV,gd t51 (bin .geq 0 L N S0 fun P S=>P=O∧S=S0) (O = .v undef)∧∃ R:AV,(pick H (.v (.bool true)) O S0 fun T S=>T=R∧S=S0)∧∃ t56:Bool,BC R false=some t56∧∃ U:AV,gd t56 (shift d 0 S0 fun V S=>V=U∧S=S0) (U = .v undef)∧∃ t59:Bool,BC R false=some t59∧∃ W:AV,gd t59 (Ay U S0 fun X S=>X=W∧S=S0) (W = .v undef)∧∃ t62:Bool,BC R false=some t62∧∃ Y:AV,gd t62 (bin .neq 0 W (aI 6) S0 fun Z S=>Z=Y∧S=S0) (Y = .v undef)∧∃ a0:AV,(pick R (.v (.bool true)) Y S0 fun a1 S=>a1=a0∧S=S0)∧∃ t67:Bool,BC a0 false=some t67∧∃ a2:AV,gd t67 (AB 8 a S0 fun a3 S=>a3=a2∧S=S0) (a2 = .v undef)∧∃ t70:Bool,BC a0 false=some t70∧∃ a4:AV,gd t70 (shift d 3 S0 fun a5 S=>a5=a4∧S=S0) (a4 = .v undef)∧∃ t73:Bool,BC a0 false=some t73∧∃ a6:AV,gd t73 (Ay a4 S0 fun a7 S=>a7=a6∧S=S0) (a6 = .v undef)∧∃ t76:Bool,BC a0 false=some t76∧∃ a8:AV,gd t76 (a8=f) (a8 = .v undef)∧∃ t78:Bool,BC a0 false=some t78∧∃ a9:AV,gd t78 (bin .sub 0 a8 (aI 1) S0 fun b0 S=>b0=a9∧S=S0) (a9 = .v undef)∧∃ t81:Bool,BC a0 false=some t81∧∃ b1:AV,gd t81 (AS 3 1 a6 a9 S0 fun b2 S=>b2=b1∧S=S0) (b1 = .v undef)∧∃ t84:Bool,BC a0 false=some t84∧∃ b3:AV,gd t84 (Ay b1 S0 fun b4 S=>b4=b3∧S=S0) (b3 = .v undef)∧∃ t87:Bool,BC a0 false=some t87∧∃ b5:AV,gd t87 (shift d 3 S0 fun b6 S=>b6=b5∧S=S0) (b5 = .v undef)∧∃ t90:Bool,BC a0 false=some t90∧∃ b7:AV,gd t90 (Ay b5 S0 fun b8 S=>b8=b7∧S=S0) (b7 = .v undef)∧∃ t93:Bool,BC a0 false=some t93∧∃ b9:AV,gd t93 (shift d 2 S0 fun c0 S=>c0=b9∧S=S0) (b9 = .v undef)∧∃ t96:Bool,BC a0 false=some t96∧∃ c1:AV,gd t96 (Ay b9 S0 fun c2 S=>c2=c1∧S=S0) (c1 = .v undef)∧∃ t99:Bool,BC a0 false=some t99∧∃ c3:AV,gd t99 (AS 3 1 b7 c1 S0 fun c4 S=>c4=c3∧S=S0) (c3 = .v undef)∧∃ t102:Bool,BC a0 false=some t102∧∃ c5:AV,gd t102 (Ay c3 S0 fun c6 S=>c6=c5∧S=S0) (c5 = .v undef)∧∃ t105:Bool,BC a0 false=some t105∧∃ c7:AV,gd t105 (Ah Pg 75 [a2,b3,c5] S0 (fun _ _=>False) fun c8 S=>c8=c7∧S=S0) (c7 = .v undef)∧∃ t108:Bool,BC a0 false=some t108∧∃ c9:AV,gd t108 (un .not c7 S0 fun d0 S=>d0=c9∧S=S0) (c9 = .v undef)∧∃ d1:AV,(pick a0 (.v (.bool true)) c9 S0 fun d2 S=>d2=d1∧S=S0)∧(fun S:Aa=>Fi d1 (Q (.ret (.t Jg)) S) (Ap SQ (vc Pg (Sc.at_ [1,1,1,1,0,1,0,0]) (Hs.drop 1)) 131 (Ic a c d f .nl (aI 0)) S (Ak 0 (Av (vc Pg (Sc.at_ [1,1,1,1,1]) (Hs.drop 1)) (Ao Pg zN Q))))) S0) S
theorem nI{x0 x1 x2:AV}{S:Aa}{Q:Aq}(h:m80 x0 x1 x2 S Q):Ad Pg 80 [x0,x1,x2] S Q:=
 Bj (n:=131) Hs Tryz.func80 (by kernel_rfl) (Eq.mpr (by kernel_rfl) h)
abbrev P6(y4:AV)(S:Aa)(y9 y10:AV)(KE0:By)(y3 y5 y8:AV):Prop:=Lf y4 3 S fun a S=>AS 32 4 a (aI 0) S fun c S=>AB 4 c S fun d S=>AU 32 4 1 Cy [(0,d)] S fun e S=>Bo 32 4 56 y9 e S fun f S=>bin .add 0 y10 (aI 1) S fun g S=>KE0 131 (Ic y3 y4 y5 y8 f g) S
def tK(y3 y4 y5 y8 y9 y10:AV)(S:Aa)(KE0:By)(Q:Aq):Prop:=
 bin .lss 0 y10 y8 S fun a S=>Fi a ((fun S0:Aa=>Lq S0 (bin .gtr 0 y10 (aI 0)) fun c=>Fi c (Lq S0 (AB 8 y3) fun d=>Lq S0 (shift y5 3) fun e=>Lq S0 (Ay e) fun f=>Lq S0 (bin .sub 0 y10 (aI 1)) fun g=>Lq S0 (AS 3 1 f g) fun h=>Lq S0 (Ay h) fun i=>Lq S0 (shift y5 3) fun k=>Lq S0 (Ay k) fun l=>Lq S0 (AS 3 1 l y10) fun m=>Lq S0 (Ay m) fun n=>Ld S0 75 [d,i,n] fun o=>Lq S0 (un .not o) fun p=>∃ q:AV,(p=q∧S=S0)∧Fi q (Q (.ret (.t Jg)) S) (P6 y4 S y9 y10 KE0 y3 y5 y8)) (∃ r:AV,((.v (.bool false))=r∧S=S0)∧Fi r (Q (.ret (.t Jg)) S) (P6 y4 S y9 y10 KE0 y3 y5 y8))) S) (Ap MM (vc Pg (Sc.at_ [1,1,1,1,1,0,1,0,0]) (Hs.drop 2)) 131 (LU y3 y5 y8 y9 (aI 0)) S (Ak 2 (Av (vc Pg (Sc.at_ [1,1,1,1,1,1]) (Hs.drop 3)) (Ao Pg zN Q))))
theorem Zi{y3 y4 y5 y8:AV}{y90 y100:AV}{S:Aa}{Q:Aq}(I:AV→AV→Aa→Prop)(μ:AV→AV→Aa→Nat)(h0:I y90 y100 S)(hr:Dw (fun y9 y10=>Ic y3 y4 y5 y8 y9 y10) 131 I μ fun y9 y10 S KE0=>tK y3 y4 y5 y8 y9 y10 S KE0 Q):
 Ap SQ (vc Pg (Sc.at_ [1,1,1,1,0,1,0,0]) (Hs.drop 1)) 131 (Ic y3 y4 y5 y8 y90 y100) S (Ak 0 (Av (vc Pg (Sc.at_ [1,1,1,1,1]) (Hs.drop 1)) (Ao Pg zN Q))):=IB (E:=fun y9 y10=>Ic y3 y4 y5 y8 y9 y10) 4 5 (fun _ _=>⟨rfl,rfl⟩) (fun _ _ _ _=>by kernel_rfl) h0 hr
def tJ(y3 y5 y8 y9 y11:AV)(S:Aa)(KE1:By)(Q:Aq):Prop:=
 Lf y3 6 S fun a S=>AF a S fun c S=>bin .lss 0 y11 c S fun d S=>Fi d (Lf y5 2 S fun e S=>Ap SP (vc Pg (Sc.at_ [1,1,1,1,1,0,1,0,0,1,0,0,1,0,1,0,0]) (Hs.drop 3)) 131 (Ib y3 y5 y8 y9 y11 (.v (.bool false)) e) S (Ak 4 (Av (vc Pg (Sc.at_ [1,1,1,1,1,0,1,0,0,1,0,0,1,1]) (Hs.drop 3)) (Ak 3 (Av (vc Pg (Sc.at_ [1,1,1,1,1,0,1,0,0,1,1]) (Hs.drop 3)) (BV (Hc MM KE1) (Ak 2 (Av (vc Pg (Sc.at_ [1,1,1,1,1,1]) (Hs.drop 3)) (Ao Pg zN Q))))))))) (AB 8 y3 S fun f S=>Lf y5 3 S fun g S=>Lf y5 4 S fun h S=>Ah Pg 74 [f,y9,g,h] S Q fun i S=>AZ i 0 S fun k S=>AZ i 1 S fun l S=>Q (.ret (.t [k,l])) S)
theorem Zh{y3 y5 y8 y9:AV}{y110:AV}{S:Aa}{Q:Aq}(I:AV→Aa→Prop)(μ:AV→Aa→Nat)(h0:I y110 S)(hr:BS (fun y11=>LU y3 y5 y8 y9 y11) 131 I μ fun y11 S KE1=>tJ y3 y5 y8 y9 y11 S KE1 Q):
 Ap MM (vc Pg (Sc.at_ [1,1,1,1,1,0,1,0,0]) (Hs.drop 2)) 131 (LU y3 y5 y8 y9 y110) S (Ak 2 (Av (vc Pg (Sc.at_ [1,1,1,1,1,1]) (Hs.drop 3)) (Ao Pg zN Q))):=DQ 4 (fun _=>rfl) (fun _ _ _=>by kernel_rfl) h0 hr
def tI(y3 y5 y8 y9 y11 y12 y13:AV)(S:Aa)(KE2:By)(KE1:By)(Q:Aq):Prop:=
 bin .lss 0 y13 y8 S fun a S=>Fi a ((fun S0:Aa=>Fi y12 (∃ c:AV,((.v (.bool true))=c∧S=S0)∧bin .add 0 y13 (aI 1) S fun d S=>KE2 131 (Ib y3 y5 y8 y9 y11 c d) S) (Lq S0 (AB 8 y3) fun e=>Lq S0 (shift y5 3) fun f=>Lq S0 (Ay f) fun g=>Lq S0 (AS 3 1 g y13) fun h=>Lq S0 (Ay h) fun i=>Lq S0 (shift y3 6) fun k=>Lq S0 (Ay k) fun l=>Lq S0 (AS 3 1 l y11) fun m=>Lq S0 (Ay m) fun n=>Ld S0 27 [e,i,n] fun o=>∃ p:AV,(o=p∧S=S0)∧bin .add 0 y13 (aI 1) S fun q S=>KE2 131 (Ib y3 y5 y8 y9 y11 p q) S)) S) (un .not y12 S fun r S=>Fi r (Q (.ret (.t Jg)) S) (bin .add 0 y11 (aI 1) S fun s S=>KE1 131 (LU y3 y5 y8 y9 s) S))
theorem Zg{y3 y5 y8 y9 y11:AV}{y120 y130:AV}{S:Aa}{KE1:By}{Q:Aq}(I:AV→AV→Aa→Prop)(μ:AV→AV→Aa→Nat)(h0:I y120 y130 S)(hr:Dw (fun y12 y13=>Ib y3 y5 y8 y9 y11 y12 y13) 131 I μ fun y12 y13 S KE2=>tI y3 y5 y8 y9 y11 y12 y13 S KE2 KE1 Q):
 Ap SP (vc Pg (Sc.at_ [1,1,1,1,1,0,1,0,0,1,0,0,1,0,1,0,0]) (Hs.drop 3)) 131 (Ib y3 y5 y8 y9 y11 y120 y130) S (Ak 4 (Av (vc Pg (Sc.at_ [1,1,1,1,1,0,1,0,0,1,0,0,1,1]) (Hs.drop 3)) (Ak 3 (Av (vc Pg (Sc.at_ [1,1,1,1,1,0,1,0,0,1,1]) (Hs.drop 3)) (BV (Hc MM KE1) (Ak 2 (Av (vc Pg (Sc.at_ [1,1,1,1,1,1]) (Hs.drop 3)) (Ao Pg zN Q)))))))):=IB (E:=fun y12 y13=>Ib y3 y5 y8 y9 y11 y12 y13) 5 6 (fun _ _=>⟨rfl,rfl⟩) (fun _ _ _ _=>by kernel_rfl) h0 hr
def c78:Code:=(Tryz.f78.body).getD .skip
def r78:List ResultVar:=Tryz.f78.results.toList
def JK(y3 y4 y5 y8 y9 y10:AV):List AV:=[y3,y4,y5,y8,y9,y10]
def SR:List Nat:=[3,4,5,8,9,10]
def Ym:List (List Nat):=[SR,[]]
abbrev YR(v1 v2 v3 v6:AV)(S:Aa)(Q:Aq):Prop:=Ap SR (vc Pg (c78.at_ [1,1,1,1,0,1,0,0]) (Ym.drop 1)) 91 (JK v1 v2 v3 v6 .nl (aI 0)) S (Ak 0 (Av (vc Pg (c78.at_ [1,1,1,1,1]) (Ym.drop 1)) (Ao Pg r78 Q)))
abbrev UM(S0:Aa)(v3:AV)(S:Aa)(Q:Aq)(v1 v2 v6:AV):Prop:=Lq S0 (shift v3 0) fun q16=>Lq S0 (Ay q16) fun q18=>Lq S0 (bin .neq 0 q18 (aI 5)) fun q20=>∃ q22:AV,(q20=q22∧S=S0)∧Fi q22 (Q (.ret (.t [aI 0,.v (.bool false)])) S) (YR v1 v2 v3 v6 S Q)
abbrev UL(S:Aa)(S0:Aa)(Q:Aq)(v1 v2 v3 v6:AV):Prop:=∃ q14:AV,((.v (.bool true))=q14∧S=S0)∧Fi q14 (Q (.ret (.t [aI 0,.v (.bool false)])) S) (YR v1 v2 v3 v6 S Q)
abbrev YQ(S0:Aa)(v3:AV)(S:Aa)(Q:Aq)(v1 v2 v6:AV):Prop:=Lq S0 (shift v3 2) fun q24=>Lq S0 (Ay q24) fun q26=>Lq S0 (bin .neq 0 q26 (aI 0)) fun q28=>∃ q30:AV,(q28=q30∧S=S0)∧Fi q30 (UL S S0 Q v1 v2 v3 v6) (UM S0 v3 S Q v1 v2 v6)
def m78(x0 x1 x2:AV)(S:Aa)(Q:Aq):Prop:=
 Az 29 8 x0 S fun a S=>Az 32 4 x1 S fun c S=>Az 51 5 x2 S fun d S=>Lf d 3 S fun e S=>AF e S fun f S=>(fun S0:Aa=>Lq S0 (bin .lss 0 f (aI 1)) fun g=>Fi g (∃ h:AV,((.v (.bool true))=h∧S=S0)∧Fi h (∃ i:AV,((.v (.bool true))=i∧S=S0)∧Fi i (UL S S0 Q a c d f) (UM S0 d S Q a c f)) (YQ S0 d S Q a c f)) (Lq S0 (shift d 3) fun k=>Lq S0 (Ay k) fun l=>Lq S0 (AS 3 1 l (aI 0)) fun m=>Lq S0 (Ay m) fun n=>Lq S0 (shift d 1) fun o=>Lq S0 (Ay o) fun p=>Lq S0 (bin .neq 0 n p) fun q=>∃ r:AV,(q=r∧S=S0)∧Fi r (∃ s:AV,((.v (.bool true))=s∧S=S0)∧Fi s (UL S S0 Q a c d f) (UM S0 d S Q a c f)) (YQ S0 d S Q a c f))) S
theorem nK{x0 x1 x2:AV}{S:Aa}{Q:Aq}(h:m78 x0 x1 x2 S Q):Ad Pg 78 [x0,x1,x2] S Q:=
 Bj (n:=91) Ym Tryz.func78 (by kernel_rfl) (Eq.mpr (by kernel_rfl) h)
def tL(y3 y4 y5 y8 y9 y10:AV)(S:Aa)(KE0:By)(Q:Aq):Prop:=
 bin .add 0 y10 (aI 1) S fun a S=>bin .lss 0 a y8 S fun c S=>Fi c ((fun S0:Aa=>Lq S0 (AB 8 y3) fun d=>Lq S0 (shift y5 3) fun e=>Lq S0 (Ay e) fun f=>Lq S0 (AS 3 1 f y10) fun g=>Lq S0 (Ay g) fun h=>Lq S0 (shift y5 3) fun i=>Lq S0 (Ay i) fun k=>Lq S0 (bin .add 0 y10 (aI 1)) fun l=>Lq S0 (AS 3 1 k l) fun m=>Lq S0 (Ay m) fun n=>Ld S0 75 [d,h,n] fun o=>Lq S0 (un .not o) fun p=>Fi p (Q (.ret (.t Jg)) S) (Lf y4 3 S fun q S=>AS 32 4 q (aI 0) S fun r S=>AB 4 r S fun s S=>AU 32 4 1 Cy [(0,s)] S fun u S=>Bo 32 4 56 y9 u S fun v S=>bin .add 0 y10 (aI 1) S fun w S=>KE0 91 (JK y3 y4 y5 y8 v w) S)) S) (Lt S (shift y4 3) fun x=>Lt S (Ay x) fun y=>Lt S (AS 32 4 y (aI 1)) fun z=>Lt S (AB 4 z) fun A=>Lc S 77 [] fun B=>Lc S 76 [B] fun C=>Lt S (AU 32 4 2 Cy [(0,A),(1,C)]) fun D=>Bo 32 4 56 y9 D S fun E S=>Lt S (shift y5 3) fun F=>Lt S (Ay F) fun G=>Lt S (shift y5 3) fun H=>Lt S (Ay H) fun I=>Lt S (bin .sub 0 y8 (aI 1)) fun J=>Lt S (AS 3 1 I J) fun K=>Lt S (Ay K) fun L=>Lt S (AU 3 1 1 [aI 0] [(0,L)]) fun M=>Bo 3 1 8 .nl G S fun N S=>(∀ T:Aa,Am S T→AU 3 1 1 [aI 0] [(0,L)] T fun O S=>O=M∧S=T)∧(∀ T:Aa,Am S T→Ay K T fun P S=>P=L∧S=T)∧(∀ T:Aa,Am S T→AS 3 1 I J T fun R S=>R=K∧S=T)∧(∀ T:Aa,Am S T→bin .sub 0 y8 (aI 1) T fun U S=>U=J∧S=T)∧(∀ T:Aa,Am S T→Ay H T fun V S=>V=I∧S=T)∧(∀ T:Aa,Am S T→shift y5 3 T fun W S=>W=H∧S=T)∧Bo 3 1 8 N M S fun X S=>AB 8 y3 S fun Y S=>Lf y5 4 S fun Z S=>Ah Pg 74 [Y,E,X,Z] S Q fun a0 S=>AZ a0 0 S fun a1 S=>AZ a0 1 S fun a2 S=>Q (.ret (.t [a1,a2])) S)
theorem Zj{y3 y4 y5 y8:AV}{y90 y100:AV}{S:Aa}{Q:Aq}(I:AV→AV→Aa→Prop)(μ:AV→AV→Aa→Nat)(h0:I y90 y100 S)(hr:Dw (fun y9 y10=>JK y3 y4 y5 y8 y9 y10) 91 I μ fun y9 y10 S KE0=>tL y3 y4 y5 y8 y9 y10 S KE0 Q):
 Ap SR (vc Pg (c78.at_ [1,1,1,1,0,1,0,0]) (Ym.drop 1)) 91 (JK y3 y4 y5 y8 y90 y100) S (Ak 0 (Av (vc Pg (c78.at_ [1,1,1,1,1]) (Ym.drop 1)) (Ao Pg r78 Q))):=IB (E:=fun y9 y10=>JK y3 y4 y5 y8 y9 y10) 4 5 (fun _ _=>⟨rfl,rfl⟩) (fun _ _ _ _=>by kernel_rfl) h0 hr
def c74:Code:=(Tryz.f74.body).getD .skip
def r74:List ResultVar:=Tryz.f74.results.toList
def Ie(y1 y2 y3 y4 y10 y11:AV):List AV:=[y1,y2,y3,y4,y10,y11]
def SS:List Nat:=[1,2,3,4,10,11]
def Yn:List (List Nat):=[SS,[]]
def m74(x0 x1 x2 x3:AV)(S:Aa)(Q:Aq):Prop:=
 Az 29 8 x0 S fun a S=>AF x1 S fun c S=>AF x3 S fun d S=>bin .neq 0 c d S fun e S=>Fi e (Q (.ret (.t Jg)) S) (AF x2 S fun f S=>AF x3 S fun g S=>bin .neq 0 f g S fun h S=>Fi h (Q (.ret (.t Jg)) S) (Ap SS (vc Pg (c74.at_ [1,1,1,0,1,0,0]) (Yn.drop 1)) 63 (Ie x1 x2 x3 a (aI 0) (aI 0)) S (Ak 0 (Av (vc Pg (c74.at_ [1,1,1,1]) (Yn.drop 1)) (Ao Pg r74 Q)))))
theorem nP{x0 x1 x2 x3:AV}{S:Aa}{Q:Aq}(h:m74 x0 x1 x2 x3 S Q):Ad Pg 74 [x0,x1,x2,x3] S Q:=
 Bj (n:=63) Yn Tryz.func74 (by kernel_rfl) (Eq.mpr (by kernel_rfl) h)
def tM(y1 y2 y3 y4 y10 y11:AV)(S:Aa)(KE0:By)(Q:Aq):Prop:=
 AF y3 S fun a S=>bin .lss 0 y11 a S fun c S=>Fi c ((fun S0:Aa=>Lq S0 (AB 8 y4) fun d=>Lq S0 (AS 32 4 y1 y11) fun e=>Lq S0 (AB 4 e) fun f=>Lq S0 (AS 51 5 y3 y11) fun g=>Lq S0 (AB 5 g) fun h=>Ld S0 34 [d,f,h] fun i=>Lq S0 (AZ i 0) fun k=>Lq S0 (AZ i 1) fun l=>(fun S0:Aa=>Lq S0 (un .not l) fun m=>Fi m (∃ n:AV,((.v (.bool true))=n∧S=S0)∧Fi n (Q (.ret (.t Jg)) S) (bin .add 0 y10 k S fun o S=>bin .add 0 y11 (aI 1) S fun p S=>KE0 63 (Ie y1 y2 y3 y4 o p) S)) (Lq S0 (AS 51 5 y3 y11) fun q=>Lq S0 (shift q 1) fun r=>Lq S0 (Ay r) fun s=>Lq S0 (AS 3 1 y2 y11) fun u=>Lq S0 (Ay u) fun w=>Lq S0 (bin .neq 0 s w) fun x=>∃ y:AV,(x=y∧S=S0)∧Fi y (Q (.ret (.t Jg)) S) (bin .add 0 y10 k S fun z S=>bin .add 0 y11 (aI 1) S fun A S=>KE0 63 (Ie y1 y2 y3 y4 z A) S))) S) S) (Q (.ret (.t [y10,.v (.bool true)])) S)
theorem Zk{y1 y2 y3 y4:AV}{y100 y110:AV}{S:Aa}{Q:Aq}(I:AV→AV→Aa→Prop)(μ:AV→AV→Aa→Nat)(h0:I y100 y110 S)(hr:Dw (fun y10 y11=>Ie y1 y2 y3 y4 y10 y11) 63 I μ fun y10 y11 S KE0=>tM y1 y2 y3 y4 y10 y11 S KE0 Q):
 Ap SS (vc Pg (c74.at_ [1,1,1,0,1,0,0]) (Yn.drop 1)) 63 (Ie y1 y2 y3 y4 y100 y110) S (Ak 0 (Av (vc Pg (c74.at_ [1,1,1,1]) (Yn.drop 1)) (Ao Pg r74 Q))):=IB (E:=fun y10 y11=>Ie y1 y2 y3 y4 y10 y11) 4 5 (fun _ _=>⟨rfl,rfl⟩) (fun _ _ _ _=>by kernel_rfl) h0 hr
def c72:Code:=(Tryz.f72.body).getD .skip
def r72:List ResultVar:=Tryz.f72.results.toList
def LV(y1 y2 y6:AV):List AV:=[y1,y2,y6]
def SU:List Nat:=[1,2,6]
def Yo:List (List Nat):=[SU,[]]
def m72(x0 x1:AV)(S:Aa)(Q:Aq):Prop:=
 Az 29 8 x0 S fun a S=>Lf a 0 S fun c S=>Lf a 1 S fun d S=>AF d S fun e S=>bin .add 0 c e S fun f S=>bin .lss 0 x1 (aI 0) S fun g S=>Fi g (Q (.ret (.v (.bool false))) S) (bin .shl 0 (aI 1) f S fun h S=>bin .geq 0 x1 h S fun i S=>Fi i (Q (.ret (.v (.bool false))) S) (Ap SU (vc Pg (c72.at_ [1,1,1,0,1,0,0]) (Yo.drop 1)) 37 (LV x1 a (aI 0)) S (Ak 0 (Av (vc Pg (c72.at_ [1,1,1,1]) (Yo.drop 1)) (Ao Pg r72 Q)))))
theorem nS{x0 x1:AV}{S:Aa}{Q:Aq}(h:m72 x0 x1 S Q):Ad Pg 72 [x0,x1] S Q:=
 Bj (n:=37) Yo Tryz.func72 (by kernel_rfl) (Eq.mpr (by kernel_rfl) h)
def tN(y1 y2 y6:AV)(S:Aa)(KE0:By)(Q:Aq):Prop:=
 Lf y2 5 S fun a S=>AF a S fun c S=>bin .lss 0 y6 c S fun d S=>Fi d ((fun S0:Aa=>Lq S0 (AB 8 y2) fun e=>Lq S0 (shift y2 5) fun f=>Lq S0 (Ay f) fun g=>Lq S0 (AS 3 1 g y6) fun h=>Lq S0 (Ay h) fun i=>Ld S0 27 [e,y1,i] fun k=>Lq S0 (un .not k) fun l=>Fi l (Q (.ret (.v (.bool false))) S) (bin .add 0 y6 (aI 1) S fun m S=>KE0 37 (LV y1 y2 m) S)) S) (Q (.ret (.v (.bool true))) S)
theorem Zl{y1 y2:AV}{y60:AV}{S:Aa}{Q:Aq}(I:AV→Aa→Prop)(μ:AV→Aa→Nat)(h0:I y60 S)(hr:BS (fun y6=>LV y1 y2 y6) 37 I μ fun y6 S KE0=>tN y1 y2 y6 S KE0 Q):
 Ap SU (vc Pg (c72.at_ [1,1,1,0,1,0,0]) (Yo.drop 1)) 37 (LV y1 y2 y60) S (Ak 0 (Av (vc Pg (c72.at_ [1,1,1,1]) (Yo.drop 1)) (Ao Pg r72 Q))):=DQ 2 (fun _=>rfl) (fun _ _ _=>by kernel_rfl) h0 hr
abbrev YS(S0:Aa)(v1 x1 x2:AV)(S:Aa)(Q:Aq):Prop:=Lq S0 (AB 8 v1) fun q13=>Ld S0 28 [q13,x1] fun q15=>Lq S0 (shift v1 0) fun q17=>Lq S0 (Ay q17) fun q19=>Lq S0 (bin .shr 0 q15 q19) fun q21=>Lq S0 (shift v1 0) fun q23=>Lq S0 (Ay q23) fun q25=>Lq S0 (bin .shr 0 x2 q25) fun q27=>Lq S0 (bin .eql 0 q21 q27) fun q29=>∃ q31:AV,(q29=q31∧S=S0)∧Q (.ret q31) S
def m75(x0 x1 x2:AV)(S:Aa)(Q:Aq):Prop:=
 Az 29 8 x0 S fun a S=>(fun S0:Aa=>Lq S0 (AB 8 a) fun c=>Ld S0 72 [c,x1] fun d=>Fi d (Lq S0 (AB 8 a) fun e=>Ld S0 72 [e,x2] fun f=>∃ g:AV,(f=g∧S=S0)∧Fi g (YS S0 a x1 x2 S Q) (∃ h:AV,((.v (.bool false))=h∧S=S0)∧Q (.ret h) S)) (∃ i:AV,((.v (.bool false))=i∧S=S0)∧Fi i (YS S0 a x1 x2 S Q) (∃ k:AV,((.v (.bool false))=k∧S=S0)∧Q (.ret k) S))) S
theorem nO{x0 x1 x2:AV}{S:Aa}{Q:Aq}(h:m75 x0 x1 x2 S Q):Ad Pg 75 [x0,x1,x2] S Q:=
 Bj (n:=28) [[]] Tryz.func75 (by kernel_rfl) (Eq.mpr (by kernel_rfl) h)
def m77(S:Aa)(Q:Aq):Prop:=
 Az 32 4 (.a Cy) S fun c S=>CD NI Cy [(0,(aI 2))] S fun d S=>A8 4 c d S fun e S=>AB 4 c S fun f _=>Q (.ret f) S
theorem nM{S:Aa}{Q:Aq}(h:m77  S Q):Ad Pg 77 [] S Q:=
 Bj (n:=2) [[]] Tryz.func77 (by kernel_rfl) (Eq.mpr (by kernel_rfl) h)
def m79(x0 x1:AV)(S:Aa)(Q:Aq):Prop:=
 Az 32 4 x0 S fun c S=>Az 32 4 x1 S fun d S=>Az 32 4 (.a Cy) S fun e S=>AB 4 c S fun f S=>AB 4 d S fun g S=>Ah Pg 81 [aI 15,f,g] S Q fun h S=>A8 4 e h S fun i S=>AB 4 e S fun k _=>Q (.ret k) S
theorem nJ{x0 x1:AV}{S:Aa}{Q:Aq}(h:m79 x0 x1 S Q):Ad Pg 79 [x0,x1] S Q:=
 Bj (n:=8) [[]] Tryz.func79 (by kernel_rfl) (Eq.mpr (by kernel_rfl) h)
def m76(x0:AV)(S:Aa)(Q:Aq):Prop:=
 Az 32 4 x0 S fun c S=>Az 32 4 (.a Cy) S fun d S=>AB 4 c S fun e S=>Ah Pg 82 [aI 13,e] S Q fun f S=>A8 4 d f S fun g S=>AB 4 d S fun h _=>Q (.ret h) S
theorem nN{x0:AV}{S:Aa}{Q:Aq}(h:m76 x0 S Q):Ad Pg 76 [x0] S Q:=
 Bj (n:=5) [[]] Tryz.func76 (by kernel_rfl) (Eq.mpr (by kernel_rfl) h)
def m73(x0:AV)(S:Aa)(Q:Aq):Prop:=
 Az 51 5 x0 S fun a S=>Lf a 2 S fun c S=>bin .eql 0 c (aI 0) S fun d S=>Fi d (Lf a 3 S fun e S=>AF e S fun f S=>bin .eql 0 f (aI 0) S fun g S=>Fi g (Lf a 4 S fun h S=>AF h S fun i S=>bin .eql 0 i (aI 0) S fun k S=>Q (.ret k) S) (Q (.ret (.v (.bool false))) S)) (Q (.ret (.v (.bool false))) S)
theorem nQ{x0:AV}{S:Aa}{Q:Aq}(h:m73 x0 S Q):Ad Pg 73 [x0] S Q:=
 Bj (n:=18) [[]] Tryz.func73 (by kernel_rfl) (Eq.mpr (by kernel_rfl) h)
def m32(x0:AV)(S:Aa)(Q:Aq):Prop:=
 Az 32 4 x0 S fun c S=>Az 32 4 (.a Cy) S fun d S=>AB 4 c S fun e S=>Ah Pg 67 [e,aI 60] S Q fun f S=>un .not f S fun g S=>Fi g (CD NI Cy [] S fun h S=>A8 4 d h S fun i S=>AB 4 d S fun k _=>Q (.ret k) S) (Lt S (AB 4 c) fun l=>Lc S 69 [] fun m=>Lc S 68 [l,.v (.bool false),m] fun n=>A8 4 d n S fun o S=>AB 4 d S fun p _=>Q (.ret p) S)
theorem pH{x0:AV}{S:Aa}{Q:Aq}(h:m32 x0 S Q):Ad Pg 32 [x0] S Q:=
 Bj (n:=10) [[]] Tryz.func32 (by kernel_rfl) (Eq.mpr (by kernel_rfl) h)
def m41(x0:AV)(S:Aa)(Q:Aq):Prop:=
 Az 32 4 x0 S fun c S=>Az 32 4 (.a Cy) S fun d S=>AB 4 c S fun e S=>Ah Pg 70 [e,aI 60] S Q fun f S=>un .not f S fun g S=>Fi g (CD NI Cy [] S fun h S=>A8 4 d h S fun i S=>AB 4 d S fun k _=>Q (.ret k) S) (AB 4 c S fun l S=>Ah Pg 35 [l,.v (.bool false)] S Q fun m S=>A8 4 d m S fun n S=>AB 4 d S fun o _=>Q (.ret o) S)
theorem oZ{x0:AV}{S:Aa}{Q:Aq}(h:m41 x0 S Q):Ad Pg 41 [x0] S Q:=
 Bj (n:=9) [[]] Tryz.func41 (by kernel_rfl) (Eq.mpr (by kernel_rfl) h)
def Xt:Code:=(Tryz.f68.body).getD .skip
def zO:List ResultVar:=Tryz.f68.results.toList
def Fq(y1 y6 y7 y8 y71 y72:AV):List AV:=[y1,y6,y7,y8,y71,y72]
def I4:List Nat:=[1,6,7,8,71,72]
def KH:List (List Nat):=[I4,[]]
abbrev YX(a:AV)(S:Aa)(x1 c d e:AV)(Q:Aq):Prop:=Lf a 3 S fun g S=>AF g S fun h S=>Ap I4 (vc Pg (Xt.at_ [1,1,1,1,1,0,1,0,0]) (KH.drop 1)) 86 (Fq x1 c (.f (.func 116) [] [a,d]) e h (aI 0)) S (Ak 1 (Av (vc Pg (Xt.at_ [1,1,1,1,1,1]) (KH.drop 1)) (Ao Pg zO Q)))
def m68(x0 x1 x2:AV)(S:Aa)(Q:Aq):Prop:=
 Az 32 4 x0 S fun c S=>Az 118 1 x2 S fun d S=>Az 32 4 (.a Cy) S fun e S=>Lf c 0 S fun g S=>bin .eql 0 g (aI 3) S fun h S=>Fi h (Fi x1 (AB 4 c S fun k S=>AU 32 4 1 Cy [(0,k)] S fun l S=>Ah Pg 117 [aI 4,l] S Q fun m S=>A8 4 e m S fun n S=>AB 4 e S fun o _=>Q (.ret o) S) (AB 4 c S fun p S=>A8 4 e p S fun q S=>AB 4 e S fun r _=>Q (.ret r) S)) (bin .eql 0 g (aI 4) S fun s S=>Fi s (un .not x1 S fun t S=>Bg Pg (.f (.func 116) [] [c,d]) [aI 0,t] S (fun w S=>A8 4 e w S fun x S=>AB 4 e S fun y _=>Q (.ret y) S) (fun u S=>Q (.pan u) S)) (bin .eql 0 g (aI 7) S fun z S=>Fi z (Fi x1 (Bg Pg (.f (.func 116) [] [c,d]) Jg S (fun A S=>Bg Pg (.f (.func 116) [] [c,d]) [aI 1,.v (.bool true)] S (fun B S=>AU 32 4 2 Cy [(0,A),(1,B)] S fun C S=>Ah Pg 117 [aI 5,C] S Q fun D S=>A8 4 e D S fun E S=>AB 4 e S fun F _=>Q (.ret F) S) (fun u S=>Q (.pan u) S)) (fun u S=>Q (.pan u) S)) (Bg Pg (.f (.func 116) [] [c,d]) [aI 0,.v (.bool true)] S (fun G S=>Bg Pg (.f (.func 116) [] [c,d]) [aI 1,.v (.bool false)] S (fun H S=>AU 32 4 2 Cy [(0,G),(1,H)] S fun I S=>Ah Pg 117 [aI 6,I] S Q fun J S=>A8 4 e J S fun K S=>AB 4 e S fun L _=>Q (.ret L) S) (fun u S=>Q (.pan u) S)) (fun u S=>Q (.pan u) S))) (bin .eql 0 g (aI 8) S fun M S=>Fi M (Bg Pg (.f (.func 116) [] [c,d]) Jg S (fun N S=>Bg Pg (.f (.func 116) [] [c,d]) [aI 1,x1] S (fun O S=>AU 32 4 2 Cy [(0,N),(1,O)] S fun P S=>Ah Pg 117 [aI 5,P] S Q fun R S=>Bg Pg (.f (.func 116) [] [c,d]) [aI 0,.v (.bool true)] S (fun T S=>un .not x1 S fun U S=>Bg Pg (.f (.func 116) [] [c,d]) [aI 1,U] S (fun V S=>AU 32 4 2 Cy [(0,T),(1,V)] S fun W S=>Ah Pg 117 [aI 5,W] S Q fun X S=>AU 32 4 2 Cy [(0,R),(1,X)] S fun Y S=>Ah Pg 117 [aI 6,Y] S Q fun Z S=>A8 4 e Z S fun a0 S=>AB 4 e S fun a1 _=>Q (.ret a1) S) (fun u S=>Q (.pan u) S)) (fun u S=>Q (.pan u) S)) (fun u S=>Q (.pan u) S)) (fun u S=>Q (.pan u) S)) (Lf c 0 S fun a2 S=>CD NI Cy [(0,a2)] S fun a3 S=>Az 32 4 (.a Cy) S fun a4 S=>A8 4 a4 a3 S fun a5 S=>Fi x1 (Ay d S fun a6 S=>Lf c 0 S fun a7 S=>UW (.i .i64) (aI 0) false a6 a7 S fun a8 S=>shift a4 0 S fun a9 S=>A8 1 a9 a8 S fun b0 S=>YX c S x1 e d a4 Q) (YX c S x1 e d a4 Q)))))
theorem nX{x0 x1 x2:AV}{S:Aa}{Q:Aq}(h:m68 x0 x1 x2 S Q):Ad Pg 68 [x0,x1,x2] S Q:=
 Bj (n:=86) KH Tryz.func68 (by kernel_rfl) (Eq.mpr (by kernel_rfl) h)
def tR(y1 y6 y7 y8 y71 y72:AV)(S:Aa)(KE0:By)(Q:Aq):Prop:=
 bin .lss 0 y72 y71 S fun a S=>Fi a (Lt S (shift y8 3) fun c=>Lt S (Ay c) fun d=>∃ e:AV,(∀ T:Aa,Am S T→Bg Pg y7 [y72,y1] T (fun f S=>f=e∧S=T) (fun u S=>False))∧Lt S (AU 32 4 1 Cy [(0,e)]) fun g=>Bo 32 4 56 d g S fun h S=>Lt S (shift y8 3) fun i=>A8 1 i h S fun k S=>bin .add 0 y72 (aI 1) S fun l S=>KE0 86 (Fq y1 y6 y7 y8 y71 l) S) (AB 4 y8 S fun m S=>A8 4 y6 m S fun n S=>AB 4 y6 S fun o _=>Q (.ret o) S)
theorem Zp{y1 y6 y7 y8 y71:AV}{y720:AV}{S:Aa}{Q:Aq}(I:AV→Aa→Prop)(μ:AV→Aa→Nat)(h0:I y720 S)(hr:BS (fun y72=>Fq y1 y6 y7 y8 y71 y72) 86 I μ fun y72 S KE0=>tR y1 y6 y7 y8 y71 y72 S KE0 Q):
 Ap I4 (vc Pg (Xt.at_ [1,1,1,1,1,0,1,0,0]) (KH.drop 1)) 86 (Fq y1 y6 y7 y8 y71 y720) S (Ak 1 (Av (vc Pg (Xt.at_ [1,1,1,1,1,1]) (KH.drop 1)) (Ao Pg zO Q))):=DQ 5 (fun _=>rfl) (fun _ _ _=>by kernel_rfl) h0 hr
def AdY(x0 x1:AV)(S:Aa)(Q:Aq):Prop:=
 Az 32 4 (.a Cy) S fun c S=>CD NI Cy [(0,x0),(3,x1)] S fun d S=>A8 4 c d S fun e S=>AB 4 c S fun f _=>Q (.ret f) S
theorem dS{x0 x1:AV}{S:Aa}{Q:Aq}(h:AdY x0 x1 S Q):Ad Pg 117 [x0,x1] S Q:=
 Bj (n:=8) [[]] Tryz.func117 (by kernel_rfl) (Eq.mpr (by kernel_rfl) h)
def c69:Code:=(Tryz.f69.body).getD .skip
def r69:List ResultVar:=Tryz.f69.results.toList
def LW(y1 y12 y13:AV):List AV:=[y1,y12,y13]
def SV:List Nat:=[1,12,13]
def Yp:List (List Nat):=[SV,[]]
def m69(S:Aa)(Q:Aq):Prop:=
 YG (.i .i64) S fun a S=>CD [(0,1),(1,1)] [aI 0,aI 0] [(0,(aI 1)),(1,(aI 2))] S fun c S=>CD [(0,1),(1,1)] [aI 0,aI 0] [(0,(aI 5)),(1,(aI 6))] S fun d S=>CD [(0,1),(1,1)] [aI 0,aI 0] [(0,(aI 9)),(1,(aI 10))] S fun e S=>CD [(0,1),(1,1)] [aI 0,aI 0] [(0,(aI 11)),(1,(aI 14))] S fun f S=>CD [(0,1),(1,1)] [aI 0,aI 0] [(0,(aI 13)),(1,(aI 12))] S fun g S=>CD [(0,1),(1,1)] [aI 0,aI 0] [(0,(aI 15)),(1,(aI 18))] S fun h S=>CD [(0,1),(1,1)] [aI 0,aI 0] [(0,(aI 17)),(1,(aI 16))] S fun k S=>CD [(0,2),(2,2),(4,2),(6,2),(8,2),(10,2),(12,2)] [aI 0,aI 0,aI 0,aI 0,aI 0,aI 0,aI 0,aI 0,aI 0,aI 0,aI 0,aI 0,aI 0,aI 0] [(0,c),(1,d),(2,e),(3,f),(4,g),(5,h),(6,k)] S fun l S=>Ap SV (vc Pg (c69.at_ [1,1,0,1,0,0]) (Yp.drop 1)) 28 (LW a l (aI 0)) S (Ak 0 (Av (vc Pg (c69.at_ [1,1,1]) (Yp.drop 1)) (Ao Pg r69 Q)))
theorem nW{S:Aa}{Q:Aq}(h:m69  S Q):Ad Pg 69 [] S Q:=
 Bj (n:=28) Yp Tryz.func69 (by kernel_rfl) (Eq.mpr (by kernel_rfl) h)
def tQ(y1 y12 y13:AV)(S:Aa)(KE0:By)(Q:Aq):Prop:=
 bin .lss 0 y13 (aI 7) S fun c S=>Fi c (BK (Aw y13) fun z12=>(0≤z12∧z12<((7:Nat):Int))∧QK y12 2 (z12.toNat*2) S fun d S=>Az 130 2 (.a [aI 0,aI 0]) S fun e S=>A8 2 e d S fun f S=>Lt S (Iz 2 1 e (aI 0)) fun g=>Lt S (Ay g) fun h=>Lt S (Iz 2 1 e (aI 1)) fun k=>Lt S (Ay k) fun l=>Lt S (Iz 2 1 e (aI 1)) fun m=>Lt S (Ay m) fun n=>Lt S (Iz 2 1 e (aI 0)) fun o=>Lt S (Ay o) fun p=>Hf (.i .i64) y1 h n S fun q S=>(∀ T:Aa,Am S T→Ay o T fun r S=>r=p∧S=T)∧(∀ T:Aa,Am S T→Iz 2 1 e (aI 0) T fun s S=>s=o∧S=T)∧(∀ T:Aa,Am S T→Ay k T fun t S=>t=l∧S=T)∧(∀ T:Aa,Am S T→Iz 2 1 e (aI 1) T fun u S=>u=k∧S=T)∧Hf (.i .i64) y1 l p S fun v S=>bin .add 0 y13 (aI 1) S fun w S=>KE0 28 (LW y1 y12 w) S) (Q (.ret y1) S)
theorem Zo{y1 y12:AV}{y130:AV}{S:Aa}{Q:Aq}(I:AV→Aa→Prop)(μ:AV→Aa→Nat)(h0:I y130 S)(hr:BS (fun y13=>LW y1 y12 y13) 28 I μ fun y13 S KE0=>tQ y1 y12 y13 S KE0 Q):
 Ap SV (vc Pg (c69.at_ [1,1,0,1,0,0]) (Yp.drop 1)) 28 (LW y1 y12 y130) S (Ak 0 (Av (vc Pg (c69.at_ [1,1,1]) (Yp.drop 1)) (Ao Pg r69 Q))):=DQ 2 (fun _=>rfl) (fun _ _ _=>by kernel_rfl) h0 hr
def AdZ(x0 x1 x2 x3:AV)(S:Aa)(Q:Aq):Prop:=
 Az 32 4 (.a Cy) S fun c S=>Lt S (shift x2 3) fun d=>Lt S (Ay d) fun e=>Lt S (AS 32 4 e x0) fun f=>Lt S (AB 4 f) fun g=>Lt S (Ay x3) fun h=>Lc S 68 [g,x1,h] fun i=>A8 4 c i S fun k S=>AB 4 c S fun l _=>Q (.ret l) S
theorem dU{x0 x1 x2 x3:AV}{S:Aa}{Q:Aq}(h:AdZ x0 x1 x2 x3 S Q):Ad Pg 116 [x0,x1,x2,x3] S Q:=
 Bj (n:=15) [[]] Tryz.func116 (by kernel_rfl) (Eq.mpr (by kernel_rfl) h)
def Xv:Code:=(Tryz.f35.body).getD .skip
def zP:List ResultVar:=Tryz.f35.results.toList
def Ft(y1 y2 y4 y7 y8:AV):List AV:=[y1,y2,y4,y7,y8]
def I5:List Nat:=[1,2,4,7,8]
def KJ:List (List Nat):=[I5,[]]
abbrev Y3(x1 v1 v2 v136:AV)(S:Aa)(Q:Aq):Prop:=Ap I5 (vc Pg (Xv.at_ [1,1,1,1,0,1,0,0]) (KJ.drop 1)) 109 (Ft x1 v1 v2 v136 (aI 0)) S (Ak 1 (Av (vc Pg (Xv.at_ [1,1,1,1,1]) (KJ.drop 1)) (Ao Pg zP Q)))
def m35(x0 x1:AV)(S:Aa)(Q:Aq):Prop:=
 Az 32 4 x0 S fun c S=>Az 32 4 (.a Cy) S fun d S=>Lf c 0 S fun e S=>bin .eql 0 e (aI 3) S fun f S=>Fi f (Fi x1 (AB 4 c S fun g S=>Ah Pg 82 [aI 4,g] S Q fun h S=>A8 4 d h S fun i S=>AB 4 d S fun k _=>Q (.ret k) S) (AB 4 c S fun l S=>A8 4 d l S fun m S=>AB 4 d S fun n _=>Q (.ret n) S)) (bin .eql 0 e (aI 4) S fun o S=>Fi o (Lf c 3 S fun p S=>AS 32 4 p (aI 0) S fun q S=>AB 4 q S fun r S=>un .not x1 S fun s S=>Ah Pg 35 [r,s] S Q fun t S=>A8 4 d t S fun u S=>AB 4 d S fun w _=>Q (.ret w) S) (bin .eql 0 e (aI 7) S fun x S=>Fi x (Fi x1 (Lt S (shift c 3) fun y=>Lt S (Ay y) fun z=>Lt S (AS 32 4 z (aI 0)) fun A=>Lt S (AB 4 A) fun B=>Lc S 35 [B,.v (.bool false)] fun C=>Lt S (shift c 3) fun D=>Lt S (Ay D) fun E=>Lt S (AS 32 4 E (aI 1)) fun F=>Lt S (AB 4 F) fun G=>Lc S 35 [G,.v (.bool true)] fun H=>Lc S 81 [aI 5,C,H] fun I=>A8 4 d I S fun J S=>AB 4 d S fun K _=>Q (.ret K) S) (Lt S (shift c 3) fun L=>Lt S (Ay L) fun M=>Lt S (AS 32 4 M (aI 0)) fun N=>Lt S (AB 4 N) fun O=>Lc S 35 [O,.v (.bool true)] fun P=>Lt S (shift c 3) fun R=>Lt S (Ay R) fun T=>Lt S (AS 32 4 T (aI 1)) fun U=>Lt S (AB 4 U) fun V=>Lc S 35 [V,.v (.bool false)] fun W=>Lc S 81 [aI 6,P,W] fun X=>A8 4 d X S fun Y S=>AB 4 d S fun Z _=>Q (.ret Z) S)) (bin .eql 0 e (aI 8) S fun a0 S=>Fi a0 (Lt S (shift c 3) fun a1=>Lt S (Ay a1) fun a2=>Lt S (AS 32 4 a2 (aI 0)) fun a3=>Lt S (AB 4 a3) fun a4=>Lc S 35 [a4,.v (.bool false)] fun a5=>Lt S (shift c 3) fun a6=>Lt S (Ay a6) fun a7=>Lt S (AS 32 4 a7 (aI 1)) fun a8=>Lt S (AB 4 a8) fun a9=>Lc S 35 [a9,x1] fun b0=>Lc S 81 [aI 5,a5,b0] fun b1=>Az 32 4 (.a Cy) S fun b2 S=>A8 4 b2 b1 S fun b3 S=>Lt S (shift c 3) fun b4=>Lt S (Ay b4) fun b5=>Lt S (AS 32 4 b5 (aI 0)) fun b6=>Lt S (AB 4 b6) fun b7=>Lc S 35 [b7,.v (.bool true)] fun b8=>Lt S (shift c 3) fun b9=>Lt S (Ay b9) fun c0=>Lt S (AS 32 4 c0 (aI 1)) fun c1=>Lt S (AB 4 c1) fun c2=>Lt S (un .not x1) fun c3=>Lc S 35 [c2,c3] fun c4=>Lc S 81 [aI 5,b8,c4] fun c5=>Az 32 4 (.a Cy) S fun c6 S=>A8 4 c6 c5 S fun c7 S=>AB 4 b2 S fun c8 S=>AB 4 c6 S fun c9 S=>Ah Pg 81 [aI 6,c8,c9] S Q fun d0 S=>A8 4 d d0 S fun d1 S=>AB 4 d S fun d2 _=>Q (.ret d2) S) (Lf c 0 S fun d3 S=>CD NI Cy [(0,d3)] S fun d4 S=>Az 32 4 (.a Cy) S fun d5 S=>A8 4 d5 d4 S fun d6 S=>Fi x1 (Lf c 0 S fun d7 S=>Ah Pg 83 [d7] S Q fun d8 S=>shift d5 0 S fun d9 S=>A8 1 d9 d8 S fun e0 S=>Y3 x1 c d d5 S Q) (Y3 x1 c d d5 S Q)))))
theorem pF{x0 x1:AV}{S:Aa}{Q:Aq}(h:m35 x0 x1 S Q):Ad Pg 35 [x0,x1] S Q:=
 Bj (n:=109) KJ Tryz.func35 (by kernel_rfl) (Eq.mpr (by kernel_rfl) h)
def uI(y1 y2 y4 y7 y8:AV)(S:Aa)(KE0:By)(Q:Aq):Prop:=
 Lf y2 3 S fun a S=>AF a S fun c S=>bin .lss 0 y8 c S fun d S=>Fi d (Lt S (shift y7 3) fun e=>Lt S (Ay e) fun f=>Lt S (shift y2 3) fun g=>Lt S (Ay g) fun h=>Lt S (AS 32 4 h y8) fun i=>Lt S (AB 4 i) fun k=>Lc S 35 [k,y1] fun l=>Lt S (AU 32 4 1 Cy [(0,l)]) fun m=>Bo 32 4 56 f m S fun n S=>Lt S (shift y7 3) fun o=>A8 1 o n S fun p S=>bin .add 0 y8 (aI 1) S fun q S=>KE0 109 (Ft y1 y2 y4 y7 q) S) (AB 4 y7 S fun r S=>A8 4 y4 r S fun s S=>AB 4 y4 S fun t _=>Q (.ret t) S)
theorem ZH{y1 y2 y4 y7:AV}{y80:AV}{S:Aa}{Q:Aq}(I:AV→Aa→Prop)(μ:AV→Aa→Nat)(h0:I y80 S)(hr:BS (fun y8=>Ft y1 y2 y4 y7 y8) 109 I μ fun y8 S KE0=>uI y1 y2 y4 y7 y8 S KE0 Q):
 Ap I5 (vc Pg (Xv.at_ [1,1,1,1,0,1,0,0]) (KJ.drop 1)) 109 (Ft y1 y2 y4 y7 y80) S (Ak 1 (Av (vc Pg (Xv.at_ [1,1,1,1,1]) (KJ.drop 1)) (Ao Pg zP Q))):=DQ 4 (fun _=>rfl) (fun _ _ _=>by kernel_rfl) h0 hr
def m82(x0 x1:AV)(S:Aa)(Q:Aq):Prop:=
 Az 32 4 x1 S fun c S=>Az 32 4 (.a Cy) S fun d S=>AB 4 c S fun e S=>AU 32 4 1 Cy [(0,e)] S fun f S=>CD NI Cy [(0,x0),(3,f)] S fun g S=>A8 4 d g S fun h S=>AB 4 d S fun i _=>Q (.ret i) S
theorem nG{x0 x1:AV}{S:Aa}{Q:Aq}(h:m82 x0 x1 S Q):Ad Pg 82 [x0,x1] S Q:=
 Bj (n:=9) [[]] Tryz.func82 (by kernel_rfl) (Eq.mpr (by kernel_rfl) h)
def m81(x0 x1 x2:AV)(S:Aa)(Q:Aq):Prop:=
 Az 32 4 x1 S fun c S=>Az 32 4 x2 S fun d S=>Az 32 4 (.a Cy) S fun e S=>AB 4 c S fun f S=>AB 4 d S fun g S=>AU 32 4 2 Cy [(0,f),(1,g)] S fun h S=>CD NI Cy [(0,x0),(3,h)] S fun i S=>A8 4 e i S fun k S=>AB 4 e S fun l _=>Q (.ret l) S
theorem nH{x0 x1 x2:AV}{S:Aa}{Q:Aq}(h:m81 x0 x1 x2 S Q):Ad Pg 81 [x0,x1,x2] S Q:=
 Bj (n:=12) [[]] Tryz.func81 (by kernel_rfl) (Eq.mpr (by kernel_rfl) h)
def m83(x0:AV)(S:Aa)(Q:Aq):Prop:=
 bin .eql 0 x0 (aI 1) S fun a S=>Fi a (Q (.ret (aI 2)) S) (bin .eql 0 x0 (aI 2) S fun c S=>Fi c (Q (.ret (aI 1)) S) (bin .eql 0 x0 (aI 5) S fun d S=>Fi d (Q (.ret (aI 6)) S) (bin .eql 0 x0 (aI 6) S fun e S=>Fi e (Q (.ret (aI 5)) S) (bin .eql 0 x0 (aI 9) S fun f S=>Fi f (Q (.ret (aI 10)) S) (bin .eql 0 x0 (aI 10) S fun g S=>Fi g (Q (.ret (aI 9)) S) (bin .eql 0 x0 (aI 11) S fun h S=>Fi h (Q (.ret (aI 14)) S) (bin .eql 0 x0 (aI 14) S fun i S=>Fi i (Q (.ret (aI 11)) S) (bin .eql 0 x0 (aI 13) S fun k S=>Fi k (Q (.ret (aI 12)) S) (bin .eql 0 x0 (aI 12) S fun l S=>Fi l (Q (.ret (aI 13)) S) (bin .eql 0 x0 (aI 15) S fun m S=>Fi m (Q (.ret (aI 18)) S) (bin .eql 0 x0 (aI 18) S fun n S=>Fi n (Q (.ret (aI 15)) S) (bin .eql 0 x0 (aI 17) S fun o S=>Fi o (Q (.ret (aI 16)) S) (Q (.ret (aI 17)) S)))))))))))))
theorem nF{x0:AV}{S:Aa}{Q:Aq}(h:m83 x0 S Q):Ad Pg 83 [x0] S Q:=
 Bj (n:=30) [[]] Tryz.func83 (by kernel_rfl) (Eq.mpr (by kernel_rfl) h)
def Kr:Code:=(Tryz.f14.body).getD .skip
def Uu:List ResultVar:=Tryz.f14.results.toList
def Io(y2 y4 y5 y6 y7 y8:AV):List AV:=[y2,y4,y5,y6,y7,y8]
def Tu:List Nat:=[2,4,5,6,7,8]
def GU(y2 y4 y5 y6 y10 y11 y12:AV):List AV:=[y2,y4,y5,y6,y10,y11,y12]
def Tt:List Nat:=[2,4,5,6,10,11,12]
def Dh(y2 y4 y5 y11 y14:AV):List AV:=[y2,y4,y5,y11,y14]
def MS:List Nat:=[2,4,5,11,14]
def Cu(y2 y4 y5 y11 y15:AV):List AV:=[y2,y4,y5,y11,y15]
def GC:List Nat:=[2,4,5,11,15]
def DC:List (List Nat):=[Tu,Tt,MS,GC,[0]]
def m14(x0:AV)(S:Aa)(Q:Aq):Prop:=
 Az 22 1 x0 S fun c S=>Az 29 8 (.a rO) S fun d S=>Az 3 1 (aI 0) S fun e S=>A8 1 e (aI 0) S fun g S=>Az 29 8 (.a rO) S fun h S=>Bg Pg (.f (.func 36) [] [e,c]) [aI 4] S (fun i S=>shift h 0 S fun k S=>A8 1 k i S fun l S=>Bg Pg (.f (.func 36) [] [e,c]) [aI 3] S (fun m S=>bin .add 0 (aI 1) m S fun n S=>Bg Pg (.f (.func 36) [] [e,c]) [aI 9] S (fun o S=>Ap Tu (vc Pg (Kr.at_ [1,1,1,1,1,1,1,0,1,0,0]) (DC.drop 1)) 156 (Io d (.f (.func 36) [] [e,c]) h n .nl o) S (Ak 0 (Av (vc Pg (Kr.at_ [1,1,1,1,1,1,1,1]) (DC.drop 1)) (Ao Pg Uu Q)))) (fun u S=>Q (.pan u) S)) (fun u S=>Q (.pan u) S)) (fun u S=>Q (.pan u) S)
theorem pY{x0:AV}{S:Aa}{Q:Aq}(h:m14 x0 S Q):Ad Pg 14 [x0] S Q:=
 Bj (n:=156) DC Tryz.func14 (by kernel_rfl) (Eq.mpr (by kernel_rfl) h)
def uT(y2 y4 y5 y6 y7 y8:AV)(S:Aa)(KE0:By)(Q:Aq):Prop:=
 bin .gtr 0 y8 (aI 0) S fun c S=>Fi c (Bg Pg y4 [aI 65536] S (fun d S=>Cq .u16 d S fun e S=>AU 87 1 1 [.v (.int .u16 0)] [(0,e)] S fun f S=>Bo 87 1 2 y7 f S fun g S=>bin .sub 0 y8 (aI 1) S fun h S=>KE0 156 (Io y2 y4 y5 y6 g h) S) (fun u S=>Q (.pan u) S)) (Lf y5 0 S fun i S=>bin .add 0 i y6 S fun k S=>Ah Pg 37 [k,y7] S Q fun l S=>AZ l 0 S fun m S=>AZ l 1 S fun n S=>Az 61 2 (.a [aI 0,.nl]) S fun o S=>A8 2 o m S fun p S=>Lf o 1 S fun q S=>shift y5 2 S fun r S=>A8 1 r q S fun s S=>AB 2 o S fun t S=>Ah Pg 16 [t] S Q fun w S=>bin .mul 0 (aI 2) w S fun x S=>Ap Tt (vc Pg (Kr.at_ [1,1,1,1,1,1,1,1,1,1,1,0,1,0,0]) (DC.drop 2)) 156 (GU y2 y4 y5 y6 n x (aI 0)) S (Ak 2 (Av (vc Pg (Kr.at_ [1,1,1,1,1,1,1,1,1,1,1,1]) (DC.drop 2)) (Ao Pg Uu Q))))
theorem ZS{y2 y4 y5 y6:AV}{y70 y80:AV}{S:Aa}{Q:Aq}(I:AV→AV→Aa→Prop)(μ:AV→AV→Aa→Nat)(h0:I y70 y80 S)(hr:Dw (fun y7 y8=>Io y2 y4 y5 y6 y7 y8) 156 I μ fun y7 y8 S KE0=>uT y2 y4 y5 y6 y7 y8 S KE0 Q):
 Ap Tu (vc Pg (Kr.at_ [1,1,1,1,1,1,1,0,1,0,0]) (DC.drop 1)) 156 (Io y2 y4 y5 y6 y70 y80) S (Ak 0 (Av (vc Pg (Kr.at_ [1,1,1,1,1,1,1,1]) (DC.drop 1)) (Ao Pg Uu Q))):=IB (E:=fun y7 y8=>Io y2 y4 y5 y6 y7 y8) 4 5 (fun _ _=>⟨rfl,rfl⟩) (fun _ _ _ _=>by kernel_rfl) h0 hr
def uS(y2 y4 y5 y6 y10 y11 y12:AV)(S:Aa)(KE1:By)(Q:Aq):Prop:=
 bin .lss 0 y12 y6 S fun a S=>Fi a (Bg Pg y4 [y11] S (fun c S=>bin .eql 0 y12 (aI 0) S fun d S=>Fi d (Lt S (shift y5 1) fun e=>Lt S (Ay e) fun f=>Bg Pg y4 [aI 5] S (fun g S=>(∀ T:Aa,Am S T→Ay e T fun h S=>h=f∧S=T)∧(∀ T:Aa,Am S T→shift y5 1 T fun i S=>i=e∧S=T)∧Lt S (bin .quo 0 g (aI 2)) fun k=>Lt S (CD [(0,1),(1,1)] [aI 0,aI 0] [(0,y10),(1,k)]) fun l=>Lt S (AU 67 2 1 [aI 0,aI 0] [(0,l)]) fun m=>Bo 67 2 16 f m S fun n S=>Lt S (shift y5 1) fun o=>A8 1 o n S fun p S=>bin .add 0 y12 (aI 1) S fun q S=>KE1 156 (GU y2 y4 y5 y6 y10 y11 q) S) (fun u S=>Q (.pan u) S)) (Lt S (shift y5 1) fun r=>Lt S (Ay r) fun s=>Bg Pg y4 [aI 5] S (fun t S=>(∀ T:Aa,Am S T→Ay r T fun v S=>v=s∧S=T)∧(∀ T:Aa,Am S T→shift y5 1 T fun w S=>w=r∧S=T)∧Lt S (bin .quo 0 t (aI 2)) fun x=>Lt S (CD [(0,1),(1,1)] [aI 0,aI 0] [(0,c),(1,x)]) fun y=>Lt S (AU 67 2 1 [aI 0,aI 0] [(0,y)]) fun z=>Bo 67 2 16 s z S fun A S=>Lt S (shift y5 1) fun B=>A8 1 B A S fun C S=>bin .add 0 y12 (aI 1) S fun D S=>KE1 156 (GU y2 y4 y5 y6 y10 y11 D) S) (fun u S=>Q (.pan u) S))) (fun u S=>Q (.pan u) S)) (Bg Pg y4 [aI 3] S (fun E S=>Ap MS (vc Pg (Kr.at_ [1,1,1,1,1,1,1,1,1,1,1,1,0,1,0,0]) (DC.drop 3)) 156 (Dh y2 y4 y5 y11 E) S (Ak 4 (Av (vc Pg (Kr.at_ [1,1,1,1,1,1,1,1,1,1,1,1,1]) (DC.drop 3)) (Ao Pg Uu Q)))) (fun u S=>Q (.pan u) S))
theorem ZR{y2 y4 y5 y6 y10 y11:AV}{y120:AV}{S:Aa}{Q:Aq}(I:AV→Aa→Prop)(μ:AV→Aa→Nat)(h0:I y120 S)(hr:BS (fun y12=>GU y2 y4 y5 y6 y10 y11 y12) 156 I μ fun y12 S KE1=>uS y2 y4 y5 y6 y10 y11 y12 S KE1 Q):
 Ap Tt (vc Pg (Kr.at_ [1,1,1,1,1,1,1,1,1,1,1,0,1,0,0]) (DC.drop 2)) 156 (GU y2 y4 y5 y6 y10 y11 y120) S (Ak 2 (Av (vc Pg (Kr.at_ [1,1,1,1,1,1,1,1,1,1,1,1]) (DC.drop 2)) (Ao Pg Uu Q))):=DQ 6 (fun _=>rfl) (fun _ _ _=>by kernel_rfl) h0 hr
abbrev K2(y4:AV)(S:Aa)(y2 y5 y11:AV)(Q:Aq):Prop:=Bg Pg y4 [aI 4] S (fun a S=>bin .quo 0 a (aI 2) S fun c S=>Ap GC (vc Pg (Kr.at_ [1,1,1,1,1,1,1,1,1,1,1,1,1,1,1,0,1,0,0]) (DC.drop 4)) 156 (Cu y2 y4 y5 y11 c) S (Ak 6 (Av (vc Pg (Kr.at_ [1,1,1,1,1,1,1,1,1,1,1,1,1,1,1,1]) (DC.drop 4)) (Ao Pg Uu Q)))) (fun u S=>Q (.pan u) S)
abbrev Qa(y4:AV)(S:Aa)(y5 y11 y2:AV)(Q:Aq):Prop:=Bg Pg y4 [aI 3] S (fun a S=>bin .eql 0 a (aI 0) S fun c S=>Fi c (Lt S (shift y5 5) fun d=>Lt S (Ay d) fun e=>Bg Pg y4 [y11] S (fun f S=>(∀ T:Aa,Am S T→Ay d T fun g S=>g=e∧S=T)∧(∀ T:Aa,Am S T→shift y5 5 T fun h S=>h=d∧S=T)∧Lt S (AU 3 1 1 [aI 0] [(0,f)]) fun i=>Bo 3 1 8 e i S fun k S=>Lt S (shift y5 5) fun l=>A8 1 l k S fun m S=>K2 y4 S y2 y5 y11 Q) (fun u S=>Q (.pan u) S)) (K2 y4 S y2 y5 y11 Q)) (fun u S=>Q (.pan u) S)
def fO(y2 y4 y5 y11 y14:AV)(S:Aa)(KE2:By)(Q:Aq):Prop:=
 bin .gtr 0 y14 (aI 0) S fun a S=>Fi a (Lt S (shift y5 3) fun c=>Lt S (Ay c) fun d=>Bg Pg y4 [y11] S (fun e S=>(∀ T:Aa,Am S T→Ay c T fun f S=>f=d∧S=T)∧(∀ T:Aa,Am S T→shift y5 3 T fun g S=>g=c∧S=T)∧Lt S (AU 3 1 1 [aI 0] [(0,e)]) fun h=>Bo 3 1 8 d h S fun i S=>Lt S (shift y5 3) fun k=>A8 1 k i S fun l S=>bin .sub 0 y14 (aI 1) S fun m S=>KE2 156 (Dh y2 y4 y5 y11 m) S) (fun u S=>Q (.pan u) S)) (Bg Pg y4 [aI 4] S (fun n S=>bin .eql 0 n (aI 0) S fun o S=>Fi o (Lt S (shift y5 4) fun p=>Lt S (Ay p) fun q=>Bg Pg y4 [y11] S (fun r S=>(∀ T:Aa,Am S T→Ay p T fun s S=>s=q∧S=T)∧(∀ T:Aa,Am S T→shift y5 4 T fun t S=>t=p∧S=T)∧Lt S (AU 3 1 1 [aI 0] [(0,r)]) fun v=>Bo 3 1 8 q v S fun w S=>Lt S (shift y5 4) fun x=>A8 1 x w S fun y S=>Qa y4 S y5 y11 y2 Q) (fun u S=>Q (.pan u) S)) (Qa y4 S y5 y11 y2 Q)) (fun u S=>Q (.pan u) S))
theorem fN(y2 y4 y5 y11 y14:AV)(S:Aa)(KE2:By)(Q:Aq):vc Pg (Kr.at_ [1,1,1,1,1,1,1,1,1,1,1,1,0,1,0,0]) (DC.drop 3) (Ls 156 MS (Dh y2 y4 y5 y11 y14)) S (BV (Hc MS KE2) (Ak 4 (Av (vc Pg (Kr.at_ [1,1,1,1,1,1,1,1,1,1,1,1,1]) (DC.drop 3)) (Ao Pg Uu Q))))=fO y2 y4 y5 y11 y14 S KE2 Q:=by kernel_rfl
theorem VZ{y2 y4 y5 y11 y14:AV}{S:Aa}{Q:Aq}(I:AV→AV→AV→AV→AV→Aa→Prop)(μ:AV→AV→AV→AV→AV→Aa→Nat)(h0:∃(y2' y4' y5' y11' y14':AV) (S':Aa),Wk S (Dh y2 y4 y5 y11 y14) S' (Dh y2' y4' y5' y11' y14')∧I y2' y4' y5' y11' y14' S')
    (hr:∀(y2 y4 y5 y11 y14:AV) (S:Aa),I y2 y4 y5 y11 y14 S→∀ KE2:By,(∀(y2' y4' y5' y11' y14':AV) (S':Aa) (y2'' y4'' y5'' y11'' y14'':AV) (S'':Aa),Wk S' (Dh y2' y4' y5' y11' y14') S'' (Dh y2'' y4'' y5'' y11'' y14'')→I y2'' y4'' y5'' y11'' y14'' S''→μ y2'' y4'' y5'' y11'' y14'' S''<μ y2 y4 y5 y11 y14 S→KE2 156 (Dh y2' y4' y5' y11' y14') S')→fO y2 y4 y5 y11 y14 S KE2 Q):
    Ap MS (vc Pg (Kr.at_ [1,1,1,1,1,1,1,1,1,1,1,1,0,1,0,0]) (DC.drop 3)) 156 (Dh y2 y4 y5 y11 y14) S (Ak 4 (Av (vc Pg (Kr.at_ [1,1,1,1,1,1,1,1,1,1,1,1,1]) (DC.drop 3)) (Ao Pg Uu Q))):=by
 obtain⟨y2',y4',y5',y11',y14',S0,hw0,h0⟩:=h0
 refine⟨fun n e S=>n=156∧∃ y2 y4 y5 y11 y14:AV,e=(Dh y2 y4 y5 y11 y14)∧I y2 y4 y5 y11 y14 S,fun _ e S=>μ (e.getD 0 .j) (e.getD 1 .j) (e.getD 2 .j) (e.getD 3 .j) (e.getD 4 .j) S,?_,?_⟩
 ·exact⟨_,_,hw0,rfl,_,_,_,_,_,rfl,h0⟩
 ·rintro _ e S ⟨rfl,y2,y4,y5,y11,y14,rfl,hI⟩
  exact(fN _ _ _ _ _ _ _ _).mpr (hr y2 y4 y5 y11 y14 S hI _ (fun y2' y4' y5' y11' y14' S' y2'' y4'' y5'' y11'' y14'' S'' hw hI' hm=>⟨_,_,hw,⟨rfl,_,_,_,_,_,rfl,hI'⟩,hm⟩))
abbrev P9(y5:AV)(S:Aa)(y4 y2:AV)(Q:Aq):Prop:=Lf y5 3 S fun a S=>AF a S fun c S=>bin .gtr 0 c (aI 0) S fun d S=>Fi d (Bg Pg y4 [aI 2] S (fun e S=>bin .gtr 0 e (aI 0) S fun f S=>Fi f (Lt S (shift y5 7) fun g=>Lt S (Ay g) fun h=>Lt S (shift y5 3) fun i=>Lt S (Ay i) fun k=>Lt S (AF k) fun l=>Lt S (bin .sub 0 l (aI 1)) fun m=>Lt S (AU 9 1 3 [.v (.string ByteArray.empty)] [(0,(.v (.string { data:=#[111,117,116] }))),(1,(.v (.string { data:=#[108,49] }))),(2,(.v (.string { data:=#[97,45,98] })))]) fun n=>Bg Pg y4 [aI 3] S (fun o S=>(∀ T:Aa,Am S T→AU 9 1 3 [.v (.string ByteArray.empty)] [(0,(.v (.string { data:=#[111,117,116] }))),(1,(.v (.string { data:=#[108,49] }))),(2,(.v (.string { data:=#[97,45,98] })))] T fun p S=>p=n∧S=T)∧(∀ T:Aa,Am S T→bin .sub 0 l (aI 1) T fun q S=>q=m∧S=T)∧(∀ T:Aa,Am S T→AF k T fun r S=>r=l∧S=T)∧(∀ T:Aa,Am S T→Ay i T fun s S=>s=k∧S=T)∧(∀ T:Aa,Am S T→shift y5 3 T fun t S=>t=i∧S=T)∧(∀ T:Aa,Am S T→Ay g T fun w S=>w=h∧S=T)∧(∀ T:Aa,Am S T→shift y5 7 T fun x S=>x=g∧S=T)∧Lt S (AS 9 1 n o) fun y=>Lt S (Ay y) fun z=>Lt S (CD [(0,1),(1,1),(2,1)] yZ [(0,(.v (.int .u8 111))),(1,m),(2,z)]) fun A=>Lt S (AU 91 3 1 yZ [(0,A)]) fun B=>Bo 91 3 32 h B S fun C S=>Lt S (shift y5 7) fun D=>A8 1 D C S fun E S=>AB 8 y5 S fun F S=>A8 8 y2 F S fun G S=>AB 8 y2 S fun H _=>Q (.ret H) S) (fun u S=>Q (.pan u) S)) (AB 8 y5 S fun I S=>A8 8 y2 I S fun J S=>AB 8 y2 S fun K _=>Q (.ret K) S)) (fun u S=>Q (.pan u) S)) (AB 8 y5 S fun L S=>A8 8 y2 L S fun M S=>AB 8 y2 S fun N _=>Q (.ret N) S)
def fM(y2 y4 y5 y11 y15:AV)(S:Aa)(KE3:By)(Q:Aq):Prop:=
 bin .gtr 0 y15 (aI 0) S fun a S=>Fi a (Lt S (shift y5 6) fun c=>Lt S (Ay c) fun d=>Bg Pg y4 [y11] S (fun e S=>(∀ T:Aa,Am S T→Ay c T fun f S=>f=d∧S=T)∧(∀ T:Aa,Am S T→shift y5 6 T fun g S=>g=c∧S=T)∧Lt S (AU 3 1 1 [aI 0] [(0,e)]) fun h=>Bo 3 1 8 d h S fun i S=>Lt S (shift y5 6) fun k=>A8 1 k i S fun l S=>bin .sub 0 y15 (aI 1) S fun m S=>KE3 156 (Cu y2 y4 y5 y11 m) S) (fun u S=>Q (.pan u) S)) (Bg Pg y4 [aI 3] S (fun n S=>bin .gtr 0 n (aI 0) S fun o S=>Fi o (Lf y5 7 S fun p S=>CD [(0,1),(1,1),(2,1)] yZ [(0,(.v (.int .u8 108))),(2,(.v (.string { data:=#[113] })))] S fun q S=>AU 91 3 1 yZ [(0,q)] S fun r S=>Bo 91 3 32 p r S fun s S=>shift y5 7 S fun t S=>A8 1 t s S fun w S=>P9 y5 S y4 y2 Q) (P9 y5 S y4 y2 Q)) (fun u S=>Q (.pan u) S))
theorem fL(y2 y4 y5 y11 y15:AV)(S:Aa)(KE3:By)(Q:Aq):vc Pg (Kr.at_ [1,1,1,1,1,1,1,1,1,1,1,1,1,1,1,0,1,0,0]) (DC.drop 4) (Ls 156 GC (Cu y2 y4 y5 y11 y15)) S (BV (Hc GC KE3) (Ak 6 (Av (vc Pg (Kr.at_ [1,1,1,1,1,1,1,1,1,1,1,1,1,1,1,1]) (DC.drop 4)) (Ao Pg Uu Q))))=fM y2 y4 y5 y11 y15 S KE3 Q:=by kernel_rfl
theorem VY{y2 y4 y5 y11 y15:AV}{S:Aa}{Q:Aq}(I:AV→AV→AV→AV→AV→Aa→Prop)(μ:AV→AV→AV→AV→AV→Aa→Nat)(h0:∃(y2' y4' y5' y11' y15':AV) (S':Aa),Wk S (Cu y2 y4 y5 y11 y15) S' (Cu y2' y4' y5' y11' y15')∧I y2' y4' y5' y11' y15' S')
    (hr:∀(y2 y4 y5 y11 y15:AV) (S:Aa),I y2 y4 y5 y11 y15 S→∀ KE3:By,(∀(y2' y4' y5' y11' y15':AV) (S':Aa) (y2'' y4'' y5'' y11'' y15'':AV) (S'':Aa),Wk S' (Cu y2' y4' y5' y11' y15') S'' (Cu y2'' y4'' y5'' y11'' y15'')→I y2'' y4'' y5'' y11'' y15'' S''→μ y2'' y4'' y5'' y11'' y15'' S''<μ y2 y4 y5 y11 y15 S→KE3 156 (Cu y2' y4' y5' y11' y15') S')→fM y2 y4 y5 y11 y15 S KE3 Q):
    Ap GC (vc Pg (Kr.at_ [1,1,1,1,1,1,1,1,1,1,1,1,1,1,1,0,1,0,0]) (DC.drop 4)) 156 (Cu y2 y4 y5 y11 y15) S (Ak 6 (Av (vc Pg (Kr.at_ [1,1,1,1,1,1,1,1,1,1,1,1,1,1,1,1]) (DC.drop 4)) (Ao Pg Uu Q))):=by
 obtain⟨y2',y4',y5',y11',y15',S0,hw0,h0⟩:=h0
 refine⟨fun n e S=>n=156∧∃ y2 y4 y5 y11 y15:AV,e=(Cu y2 y4 y5 y11 y15)∧I y2 y4 y5 y11 y15 S,fun _ e S=>μ (e.getD 0 .j) (e.getD 1 .j) (e.getD 2 .j) (e.getD 3 .j) (e.getD 4 .j) S,?_,?_⟩
 ·exact⟨_,_,hw0,rfl,_,_,_,_,_,rfl,h0⟩
 ·rintro _ e S ⟨rfl,y2,y4,y5,y11,y15,rfl,hI⟩
  exact(fL _ _ _ _ _ _ _ _).mpr (hr y2 y4 y5 y11 y15 S hI _ (fun y2' y4' y5' y11' y15' S' y2'' y4'' y5'' y11'' y15'' S'' hw hI' hm=>⟨_,_,hw,⟨rfl,_,_,_,_,_,rfl,hI'⟩,hm⟩))
def m36(x0 x1 x2:AV)(S:Aa)(Q:Aq):Prop:=
 Ay x1 S fun a S=>bin .add 0 a (aI 1) S fun c S=>A8 1 x1 c S fun d S=>Ay x1 S fun e S=>Ay x2 S fun f S=>AF f S fun g S=>bin .gtr 0 e g S fun h S=>Fi h (Q (.ret (aI 0)) S) (Ay x2 S fun i S=>Ay x1 S fun k S=>bin .sub 0 k (aI 1) S fun l S=>AS 87 1 i l S fun m S=>Ay m S fun n S=>Cq .i64 n S fun o S=>bin .rem 0 o x0 S fun p S=>Q (.ret p) S)
theorem pE{x0 x1 x2:AV}{S:Aa}{Q:Aq}(h:m36 x0 x1 x2 S Q):Ad Pg 36 [x0,x1,x2] S Q:=
 Bj (n:=19) [[]] Tryz.func36 (by kernel_rfl) (Eq.mpr (by kernel_rfl) h)
def c25:Code:=(Tryz.f25.body).getD .skip
def r25:List ResultVar:=Tryz.f25.results.toList
def L7(y1 y2 y3 y7:AV):List AV:=[y1,y2,y3,y7]
def Tq:List Nat:=[1,2,3,7]
def YC:List (List Nat):=[Tq,[]]
def m25(x0 x1 x2:AV)(S:Aa)(Q:Aq):Prop:=
 Az 29 8 x0 S fun a S=>Ap Tq (vc Pg (c25.at_ [1,0,1,0,0]) (YC.drop 1)) 22 (L7 x1 x2 a (aI 0)) S (Ak 0 (Av (vc Pg (c25.at_ [1,1]) (YC.drop 1)) (Ao Pg r25 Q)))
theorem pO{x0 x1 x2:AV}{S:Aa}{Q:Aq}(h:m25 x0 x1 x2 S Q):Ad Pg 25 [x0,x1,x2] S Q:=
 Bj (n:=22) YC Tryz.func25 (by kernel_rfl) (Eq.mpr (by kernel_rfl) h)
def uP(y1 y2 y3 y7:AV)(S:Aa)(KE0:By)(Q:Aq):Prop:=
 AF y2 S fun a S=>bin .lss 0 y7 a S fun c S=>Fi c ((fun S0:Aa=>Lq S0 (AB 8 y3) fun d=>Lq S0 (AS 3 1 y2 y7) fun e=>Lq S0 (Ay e) fun f=>Ld S0 27 [d,y1,f] fun g=>Lq S0 (un .not g) fun h=>Fi h (Q (.ret (.v (.bool false))) S) (bin .add 0 y7 (aI 1) S fun i S=>KE0 22 (L7 y1 y2 y3 i) S)) S) (Q (.ret (.v (.bool true))) S)
theorem ZO{y1 y2 y3:AV}{y70:AV}{S:Aa}{Q:Aq}(I:AV→Aa→Prop)(μ:AV→Aa→Nat)(h0:I y70 S)(hr:BS (fun y7=>L7 y1 y2 y3 y7) 22 I μ fun y7 S KE0=>uP y1 y2 y3 y7 S KE0 Q):
 Ap Tq (vc Pg (c25.at_ [1,0,1,0,0]) (YC.drop 1)) 22 (L7 y1 y2 y3 y70) S (Ak 0 (Av (vc Pg (c25.at_ [1,1]) (YC.drop 1)) (Ao Pg r25 Q))):=DQ 3 (fun _=>rfl) (fun _ _ _=>by kernel_rfl) h0 hr
def c26:Code:=(Tryz.f26.body).getD .skip
def r26:List ResultVar:=Tryz.f26.results.toList
def Im(y1 y2 y5:AV):List AV:=[y1,y2,y5]
def Tp:List Nat:=[1,2,5]
def YB:List (List Nat):=[Tp,[]]
def m26(x0 x1:AV)(S:Aa)(Q:Aq):Prop:=
 Az 29 8 x0 S fun a S=>Ap Tp (vc Pg (c26.at_ [1,0,1,0,0]) (YB.drop 1)) 33 (Im x1 a (aI 0)) S (Ak 0 (Av (vc Pg (c26.at_ [1,1]) (YB.drop 1)) (Ao Pg r26 Q)))
theorem pN{x0 x1:AV}{S:Aa}{Q:Aq}(h:m26 x0 x1 S Q):Ad Pg 26 [x0,x1] S Q:=
 Bj (n:=33) YB Tryz.func26 (by kernel_rfl) (Eq.mpr (by kernel_rfl) h)
def uO(y1 y2 y5:AV)(S:Aa)(KE0:By)(Q:Aq):Prop:=
 Lf y2 1 S fun a S=>AF a S fun c S=>bin .lss 0 y5 c S fun d S=>Fi d (Lf y2 1 S fun e S=>AS 67 2 e y5 S fun f S=>Lf f 1 S fun g S=>bin .neq 0 g (aI 2) S fun h S=>Fi h (Lf y2 0 S fun i S=>bin .add 0 i y5 S fun k S=>bin .shr 0 y1 k S fun l S=>bin .rem 0 l (aI 2) S fun m S=>bin .neq 0 m g S fun n S=>Fi n (Q (.ret (.v (.bool false))) S) (bin .add 0 y5 (aI 1) S fun o S=>KE0 33 (Im y1 y2 o) S)) (bin .add 0 y5 (aI 1) S fun p S=>KE0 33 (Im y1 y2 p) S)) (Q (.ret (.v (.bool true))) S)
theorem ZN{y1 y2:AV}{y50:AV}{S:Aa}{Q:Aq}(I:AV→Aa→Prop)(μ:AV→Aa→Nat)(h0:I y50 S)(hr:BS (fun y5=>Im y1 y2 y5) 33 I μ fun y5 S KE0=>uO y1 y2 y5 S KE0 Q):
 Ap Tp (vc Pg (c26.at_ [1,0,1,0,0]) (YB.drop 1)) 33 (Im y1 y2 y50) S (Ak 0 (Av (vc Pg (c26.at_ [1,1]) (YB.drop 1)) (Ao Pg r26 Q))):=DQ 2 (fun _=>rfl) (fun _ _ _=>by kernel_rfl) h0 hr
def Oq:Code:=(Tryz.f30.body).getD .skip
def sH:List ResultVar:=Tryz.f30.results.toList
def JP(y1 y2 y4 y32 y33:AV):List AV:=[y1,y2,y4,y32,y33]
def MR:List Nat:=[1,2,4,32,33]
def L6(y1 y2 y4 y5 y6 y32 y33 y43 y44:AV):List AV:=[y1,y2,y4,y5,y6,y32,y33,y43,y44]
def Tm:List Nat:=[1,2,4,5,6,32,33,43,44]
def L5(y2 y4 y88 y89 y90:AV):List AV:=[y2,y4,y88,y89,y90]
def Tl:List Nat:=[2,4,88,89,90]
def L4(y2 y4 y107 y108:AV):List AV:=[y2,y4,y107,y108]
def Tk:List Nat:=[2,4,107,108]
def FF:List (List Nat):=[MR,Tm,Tl,Tk,[]]
def m30(x0:AV)(S:Aa)(Q:Aq):Prop:=
 Az 29 8 x0 S fun c S=>Az 45 5 (.a Xl) S fun d S=>AB 8 c S fun e S=>Ah Pg 49 [e] S Q fun f S=>un .not f S fun g S=>Fi g (AB 5 d S fun h S=>A8 5 d h S fun i S=>AB 5 d S fun k _=>Q (.ret (.t [k,aI 1])) S) (Lt S (AB 8 c) fun l=>Lt S (AB 8 c) fun m=>Lc S 50 [m] fun n=>Lt S (CD [(0,8),(8,2),(10,1)] [aI 0,.nl,.nl,.nl,.nl,.nl,.nl,.nl,aI 0,.nl,.nl] [(0,l),(1,n)]) fun o=>BK (cellsOf o) fun cs18=>cs18.length=11∧UA [(.cells 102 [cs18] true),(.cells 100 [[.v (.pointer none)]] true)] S fun ids19 S=>A8 1 (.p (ids19.tail.headD 0) 0 0) (.p (ids19.headD 0) 0 0) S fun q S=>Ay (.p (ids19.tail.headD 0) 0 0) S fun r S=>AI r S fun s S=>shift s 8 S fun u S=>Lf u 0 S fun w S=>bin .gtr 0 w (aI 10) S fun x S=>Fi x (AB 5 d S fun y S=>A8 5 d y S fun z S=>AB 5 d S fun A _=>Q (.ret (.t [A,aI 2])) S) (Ay (.p (ids19.tail.headD 0) 0 0) S fun B S=>AI B S fun C S=>shift C 8 S fun D S=>Lf D 0 S fun E S=>bin .shl 0 (aI 1) E S fun F S=>Ap MR (vc Pg (Oq.at_ [1,1,1,1,0,1,0,0]) (FF.drop 1)) 123 (JP c d (.p (ids19.tail.headD 0) 0 0) F (aI 0)) S (Ak 0 (Av (vc Pg (Oq.at_ [1,1,1,1,1]) (FF.drop 2)) (Ao Pg sH Q)))))
theorem pI{x0:AV}{S:Aa}{Q:Aq}(h:m30 x0 S Q):Ad Pg 30 [x0] S Q:=
 Bj (n:=123) FF Tryz.func30 (by kernel_rfl) (Eq.mpr (by kernel_rfl) h)
def uM(y1 y2 y4 y32 y33:AV)(S:Aa)(KE0:By)(Q:Aq):Prop:=
 bin .lss 0 y33 y32 S fun a S=>Fi a (Ay y4 S fun c S=>AI c S fun d S=>shift d 8 S fun e S=>Lf e 0 S fun g S=>Ql 4 1 [.v (.bool false)] g g S fun h S=>AF h S fun i S=>Ap Tm (vc Pg (Oq.at_ [1,1,1,1,0,1,0,0,1,1,0,0,1,1,0,1,0,0]) (FF.drop 2)) 123 (L6 y1 y2 y4 y33 h y32 y33 i (aI 0)) S (Ak 2 (Av (vc Pg (Oq.at_ [1,1,1,1,0,1,0,0,1,1,0,0,1,1,1]) (FF.drop 2)) (Ak 1 (Av (vc Pg (Oq.at_ [1,1,1,1,0,1,0,0,1,1,1]) (FF.drop 2)) (BV (Hc MR KE0) (Ak 0 (Av (vc Pg (Oq.at_ [1,1,1,1,1]) (FF.drop 2)) (Ao Pg sH Q))))))))) (Ay y4 S fun k S=>AI k S fun l S=>shift l 8 S fun m S=>Lf m 0 S fun n S=>shift y2 0 S fun o S=>A8 1 o n S fun p S=>Ay y4 S fun q S=>Ay y4 S fun r S=>Ah Pg 52 [q,(.f (.func 53) [r] [])] S Q fun s S=>shift y2 1 S fun t S=>A8 1 t s S fun u S=>Ay y4 S fun w S=>Ah Pg 52 [w,(.f (.func 54) [] [y2,y4])] S Q fun x S=>shift y2 2 S fun y S=>A8 1 y x S fun z S=>Lf y1 6 S fun A S=>AF A S fun B S=>Ap Tl (vc Pg (Oq.at_ [1,1,1,1,1,1,1,1,0,1,0,0]) (FF.drop 3)) 123 (L5 y2 y4 A B (aI 0)) S (Ak 4 (Av (vc Pg (Oq.at_ [1,1,1,1,1,1,1,1,1]) (FF.drop 3)) (Ao Pg sH Q))))
theorem ZL{y1 y2 y4 y32:AV}{y330:AV}{S:Aa}{Q:Aq}(I:AV→Aa→Prop)(μ:AV→Aa→Nat)(h0:I y330 S)(hr:BS (fun y33=>JP y1 y2 y4 y32 y33) 123 I μ fun y33 S KE0=>uM y1 y2 y4 y32 y33 S KE0 Q):
 Ap MR (vc Pg (Oq.at_ [1,1,1,1,0,1,0,0]) (FF.drop 1)) 123 (JP y1 y2 y4 y32 y330) S (Ak 0 (Av (vc Pg (Oq.at_ [1,1,1,1,1]) (FF.drop 2)) (Ao Pg sH Q))):=DQ 4 (fun _=>rfl) (fun _ _ _=>by kernel_rfl) h0 hr
def uL(y1 y2 y4 y5 y6 y32 y33 y43 y44:AV)(S:Aa)(KE1:By)(KE0:By)(Q:Aq):Prop:=
 bin .lss 0 y44 y43 S fun a S=>Fi a (bin .shr 0 y5 y44 S fun c S=>bin .and 0 c (aI 1) S fun d S=>bin .eql 0 d (aI 1) S fun e S=>AS 4 1 y6 y44 S fun f S=>A8 1 f e S fun g S=>bin .add 0 y44 (aI 1) S fun h S=>KE1 123 (L6 y1 y2 y4 y5 y6 y32 y33 y43 h) S) (Lt S (Ay y4) fun i=>Lt S (Ay y4) fun k=>Lt S (AI k) fun l=>Lt S (shift l 10) fun m=>Lt S (Ay m) fun n=>Lt S (Ay y4) fun o=>Lt S (AI o) fun p=>Lt S (shift p 8) fun q=>Lt S (AB 2 q) fun r=>Lc S 51 [r,y6] fun s=>Lt S (AU 41 1 1 [.nl] [(0,s)]) fun t=>Bo 41 1 24 n t S fun u S=>(∀ T:Aa,Am S T→Ay y4 T fun v S=>v=i∧S=T)∧Lt S (AI i) fun w=>Lt S (shift w 10) fun x=>A8 1 x u S fun y S=>bin .add 0 y33 (aI 1) S fun z S=>KE0 123 (JP y1 y2 y4 y32 z) S)
theorem ZK{y1 y2 y4 y5 y6 y32 y33 y43:AV}{y440:AV}{S:Aa}{KE0:By}{Q:Aq}(I:AV→Aa→Prop)(μ:AV→Aa→Nat)(h0:I y440 S)(hr:BS (fun y44=>L6 y1 y2 y4 y5 y6 y32 y33 y43 y44) 123 I μ fun y44 S KE1=>uL y1 y2 y4 y5 y6 y32 y33 y43 y44 S KE1 KE0 Q):
 Ap Tm (vc Pg (Oq.at_ [1,1,1,1,0,1,0,0,1,1,0,0,1,1,0,1,0,0]) (FF.drop 2)) 123 (L6 y1 y2 y4 y5 y6 y32 y33 y43 y440) S (Ak 2 (Av (vc Pg (Oq.at_ [1,1,1,1,0,1,0,0,1,1,0,0,1,1,1]) (FF.drop 2)) (Ak 1 (Av (vc Pg (Oq.at_ [1,1,1,1,0,1,0,0,1,1,1]) (FF.drop 2)) (BV (Hc MR KE0) (Ak 0 (Av (vc Pg (Oq.at_ [1,1,1,1,1]) (FF.drop 2)) (Ao Pg sH Q)))))))):=DQ 8 (fun _=>rfl) (fun _ _ _=>by kernel_rfl) h0 hr
def uK(y2 y4 y88 y89 y90:AV)(S:Aa)(KE2:By)(Q:Aq):Prop:=
 bin .lss 0 y90 y89 S fun a S=>Fi a (AS 3 1 y88 y90 S fun c S=>Ay c S fun d S=>Az 3 1 (aI 0) S fun e S=>A8 1 e d S fun g S=>Lt S (shift y2 4) fun h=>Lt S (Ay h) fun i=>Lt S (Ay y4) fun k=>∃ l:AV,(∀ T:Aa,Am S T→(.f (.func 56) [] [y2,y4,e])=l∧T=T)∧Lc S 52 [k,l] fun m=>Lt S (AU 41 1 1 [.nl] [(0,m)]) fun n=>Bo 41 1 24 i n S fun o S=>Lt S (shift y2 4) fun p=>A8 1 p o S fun q S=>bin .add 0 y90 (aI 1) S fun r S=>KE2 123 (L5 y2 y4 y88 y89 r) S) (Ay y4 S fun s S=>AI s S fun t S=>Lf t 10 S fun u S=>AF u S fun v S=>Ap Tk (vc Pg (Oq.at_ [1,1,1,1,1,1,1,1,1,0,1,0,0]) (FF.drop 4)) 123 (L4 y2 y4 v (aI 0)) S (Ak 6 (Av (vc Pg (Oq.at_ [1,1,1,1,1,1,1,1,1,1]) (FF.drop 4)) (Ao Pg sH Q))))
theorem ZJ{y2 y4 y88 y89:AV}{y900:AV}{S:Aa}{Q:Aq}(I:AV→Aa→Prop)(μ:AV→Aa→Nat)(h0:I y900 S)(hr:BS (fun y90=>L5 y2 y4 y88 y89 y90) 123 I μ fun y90 S KE2=>uK y2 y4 y88 y89 y90 S KE2 Q):
 Ap Tl (vc Pg (Oq.at_ [1,1,1,1,1,1,1,1,0,1,0,0]) (FF.drop 3)) 123 (L5 y2 y4 y88 y89 y900) S (Ak 4 (Av (vc Pg (Oq.at_ [1,1,1,1,1,1,1,1,1]) (FF.drop 3)) (Ao Pg sH Q))):=DQ 4 (fun _=>rfl) (fun _ _ _=>by kernel_rfl) h0 hr
def uJ(y2 y4 y107 y108:AV)(S:Aa)(KE3:By)(Q:Aq):Prop:=
 bin .lss 0 y108 y107 S fun a S=>Fi a (Lt S (shift y2 3) fun c=>Lt S (Ay c) fun d=>Lt S (Ay y4) fun e=>Lt S (shift y2 1) fun f=>Lt S (Ay f) fun g=>Lc S 58 [e,y108,g] fun h=>Lt S (AU 26 1 1 [.nl] [(0,h)]) fun i=>Bo 26 1 24 d i S fun k S=>Lt S (shift y2 3) fun l=>A8 1 l k S fun m S=>bin .add 0 y108 (aI 1) S fun n S=>KE3 123 (L4 y2 y4 y107 n) S) (AB 5 y2 S fun o S=>A8 5 y2 o S fun p S=>AB 5 y2 S fun q _=>Q (.ret (.t [q,aI 0])) S)
theorem ZI{y2 y4 y107:AV}{y1080:AV}{S:Aa}{Q:Aq}(I:AV→Aa→Prop)(μ:AV→Aa→Nat)(h0:I y1080 S)(hr:BS (fun y108=>L4 y2 y4 y107 y108) 123 I μ fun y108 S KE3=>uJ y2 y4 y107 y108 S KE3 Q):
 Ap Tk (vc Pg (Oq.at_ [1,1,1,1,1,1,1,1,1,0,1,0,0]) (FF.drop 4)) 123 (L4 y2 y4 y107 y1080) S (Ak 6 (Av (vc Pg (Oq.at_ [1,1,1,1,1,1,1,1,1,1]) (FF.drop 4)) (Ao Pg sH Q))):=DQ 3 (fun _=>rfl) (fun _ _ _=>by kernel_rfl) h0 hr
def m54(x0 x1 x2:AV)(S:Aa)(Q:Aq):Prop:=
 Lf x1 1 S fun a S=>AS 4 1 a x0 S fun c S=>Ay c S fun d S=>Fi d (Ay x2 S fun e S=>Ah Pg 55 [e,x0] S Q fun f S=>Q (.ret f) S) (Q (.ret (.v (.bool false))) S)
theorem oL{x0 x1 x2:AV}{S:Aa}{Q:Aq}(h:m54 x0 x1 x2 S Q):Ad Pg 54 [x0,x1,x2] S Q:=
 Bj (n:=15) [[]] Tryz.func54 (by kernel_rfl) (Eq.mpr (by kernel_rfl) h)
def m56(x0 x1 x2 x3:AV)(S:Aa)(Q:Aq):Prop:=
 Lf x1 1 S fun a S=>AS 4 1 a x0 S fun c S=>Ay c S fun d S=>Fi d (Ay x2 S fun e S=>Ay x3 S fun f S=>Ah Pg 57 [e,x0,f] S Q fun g S=>Q (.ret g) S) (Q (.ret (.v (.bool false))) S)
theorem oJ{x0 x1 x2 x3:AV}{S:Aa}{Q:Aq}(h:m56 x0 x1 x2 x3 S Q):Ad Pg 56 [x0,x1,x2,x3] S Q:=
 Bj (n:=17) [[]] Tryz.func56 (by kernel_rfl) (Eq.mpr (by kernel_rfl) h)
def c52:Code:=(Tryz.f52.body).getD .skip
def r52:List ResultVar:=Tryz.f52.results.toList
def LX(y1 y5 y14 y15:AV):List AV:=[y1,y5,y14,y15]
def Ta:List Nat:=[1,5,14,15]
def Yu:List (List Nat):=[Ta,[]]
def m52(x0 x1:AV)(S:Aa)(Q:Aq):Prop:=
 AI x0 S fun a S=>Lf a 10 S fun c S=>AF c S fun d S=>Ql 4 1 [.v (.bool false)] d d S fun e S=>AF e S fun f S=>Ap Ta (vc Pg (c52.at_ [1,1,0,1,0,0]) (Yu.drop 1)) 26 (LX x1 e f (aI 0)) S (Ak 0 (Av (vc Pg (c52.at_ [1,1,1]) (Yu.drop 1)) (Ao Pg r52 Q)))
theorem oN{x0 x1:AV}{S:Aa}{Q:Aq}(h:m52 x0 x1 S Q):Ad Pg 52 [x0,x1] S Q:=
 Bj (n:=26) Yu Tryz.func52 (by kernel_rfl) (Eq.mpr (by kernel_rfl) h)
def tW(y1 y5 y14 y15:AV)(S:Aa)(KE0:By)(Q:Aq):Prop:=
 bin .lss 0 y15 y14 S fun a S=>Fi a (Bg Pg y1 [y15] S (fun c S=>AS 4 1 y5 y15 S fun d S=>A8 1 d c S fun e S=>bin .add 0 y15 (aI 1) S fun f S=>KE0 26 (LX y1 y5 y14 f) S) (fun u S=>Q (.pan u) S)) (Q (.ret y5) S)
theorem Zu{y1 y5 y14:AV}{y150:AV}{S:Aa}{Q:Aq}(I:AV→Aa→Prop)(μ:AV→Aa→Nat)(h0:I y150 S)(hr:BS (fun y15=>LX y1 y5 y14 y15) 26 I μ fun y15 S KE0=>tW y1 y5 y14 y15 S KE0 Q):
 Ap Ta (vc Pg (c52.at_ [1,1,0,1,0,0]) (Yu.drop 1)) 26 (LX y1 y5 y14 y150) S (Ak 0 (Av (vc Pg (c52.at_ [1,1,1]) (Yu.drop 1)) (Ao Pg r52 Q))):=DQ 3 (fun _=>rfl) (fun _ _ _=>by kernel_rfl) h0 hr
def c58:Code:=(Tryz.f58.body).getD .skip
def r58:List ResultVar:=Tryz.f58.results.toList
def Ig(y2 y6 y7 y22 y23:AV):List AV:=[y2,y6,y7,y22,y23]
def SY:List Nat:=[2,6,7,22,23]
def Ys:List (List Nat):=[SY,[]]
def m58(x0 x1 x2:AV)(S:Aa)(Q:Aq):Prop:=
 AS 4 1 x2 x1 S fun a S=>Ay a S fun c S=>un .not c S fun d S=>Fi d (Q (.ret .nl) S) (Ah Pg 104 [x0,x1] S Q fun e S=>AI x0 S fun f S=>shift f 0 S fun g S=>Lf g 0 S fun h S=>bin .shl 0 (aI 1) h S fun i S=>Ap SY (vc Pg (c58.at_ [1,1,1,0,1,0,0]) (Ys.drop 1)) 40 (Ig x2 .nl e i (aI 0)) S (Ak 0 (Av (vc Pg (c58.at_ [1,1,1,1]) (Ys.drop 1)) (Ao Pg r58 Q))))
theorem oH{x0 x1 x2:AV}{S:Aa}{Q:Aq}(h:m58 x0 x1 x2 S Q):Ad Pg 58 [x0,x1,x2] S Q:=
 Bj (n:=40) Ys Tryz.func58 (by kernel_rfl) (Eq.mpr (by kernel_rfl) h)
def tU(y2 y6 y7 y22 y23:AV)(S:Aa)(KE0:By)(Q:Aq):Prop:=
 bin .lss 0 y23 y22 S fun a S=>Fi a (bin .or 0 y7 y23 S fun c S=>AS 4 1 y2 c S fun d S=>Ay d S fun e S=>Fi e (bin .or 0 y7 y23 S fun f S=>AU 3 1 1 [aI 0] [(0,f)] S fun g S=>Bo 3 1 8 y6 g S fun h S=>bin .add 0 y23 (aI 1) S fun i S=>KE0 40 (Ig y2 h y7 y22 i) S) (bin .add 0 y23 (aI 1) S fun k S=>KE0 40 (Ig y2 y6 y7 y22 k) S)) (Q (.ret y6) S)
theorem Zs{y2 y7 y22:AV}{y60 y230:AV}{S:Aa}{Q:Aq}(I:AV→AV→Aa→Prop)(μ:AV→AV→Aa→Nat)(h0:I y60 y230 S)(hr:Dw (fun y6 y23=>Ig y2 y6 y7 y22 y23) 40 I μ fun y6 y23 S KE0=>tU y2 y6 y7 y22 y23 S KE0 Q):
 Ap SY (vc Pg (c58.at_ [1,1,1,0,1,0,0]) (Ys.drop 1)) 40 (Ig y2 y60 y7 y22 y230) S (Ak 0 (Av (vc Pg (c58.at_ [1,1,1,1]) (Ys.drop 1)) (Ao Pg r58 Q))):=IB (E:=fun y6 y23=>Ig y2 y6 y7 y22 y23) 1 4 (fun _ _=>⟨rfl,rfl⟩) (fun _ _ _ _=>by kernel_rfl) h0 hr
def m57(x0 x1 x2:AV)(S:Aa)(Q:Aq):Prop:=
 AI x0 S fun a S=>Lf a 10 S fun c S=>AS 41 1 c x1 S fun d S=>Ay d S fun e S=>bin .quo 0 x2 (aI 2) S fun f S=>AS 4 1 e f S fun g S=>Ay g S fun h S=>bin .and 0 x2 (aI 1) S fun i S=>bin .eql 0 i (aI 1) S fun k S=>bin .neq 1 h k S fun l S=>Q (.ret l) S
theorem oI{x0 x1 x2:AV}{S:Aa}{Q:Aq}(h:m57 x0 x1 x2 S Q):Ad Pg 57 [x0,x1,x2] S Q:=
 Bj (n:=22) [[]] Tryz.func57 (by kernel_rfl) (Eq.mpr (by kernel_rfl) h)
def AeC(x0 x1 x2:AV)(S:Aa)(Q:Aq):Prop:=
 Ay x1 S fun a S=>Ay x2 S fun c S=>Ah Pg 57 [a,c,x0] S Q fun d S=>un .not d S fun e S=>Q (.ret e) S
theorem eH{x0 x1 x2:AV}{S:Aa}{Q:Aq}(h:AeC x0 x1 x2 S Q):Ad Pg 103 [x0,x1,x2] S Q:=
 Bj (n:=10) [[]] Tryz.func103 (by kernel_rfl) (Eq.mpr (by kernel_rfl) h)
def m53(x0 x1:AV)(S:Aa)(Q:Aq):Prop:=
 Az 100 1 x0 S fun a S=>Az 3 1 x1 S fun c S=>Ay a S fun d S=>AI d S fun e S=>shift e 0 S fun g S=>Lf g 5 S fun h S=>Ah Pg 100 [h,(.f (.func 103) [] [a,c])] S Q fun i S=>un .not i S fun k S=>Q (.ret k) S
theorem oM{x0 x1:AV}{S:Aa}{Q:Aq}(h:m53 x0 x1 S Q):Ad Pg 53 [x0,x1] S Q:=
 Bj (n:=13) [[]] Tryz.func53 (by kernel_rfl) (Eq.mpr (by kernel_rfl) h)
def rA:Code:=(Tryz.f104.body).getD .skip
def AbB:List ResultVar:=Tryz.f104.results.toList
def Ga(y0 y1 y4 y11 y12 y13:AV):List AV:=[y0,y1,y4,y11,y12,y13]
def PI:List Nat:=[0,1,4,11,12,13]
def Rg:List (List Nat):=[PI,[]]
def AeB(x0 x1:AV)(S:Aa)(Q:Aq):Prop:=
 AI x0 S fun a S=>shift a 0 S fun c S=>Lf c 1 S fun d S=>AF d S fun e S=>Ap PI (vc Pg (rA.at_ [1,0,1,0,0]) (Rg.drop 1)) 35 (Ga x0 x1 (aI 0) d e (aI 0)) S (Ak 0 (Av (vc Pg (rA.at_ [1,1]) (Rg.drop 1)) (Ao Pg AbB Q)))
theorem eG{x0 x1:AV}{S:Aa}{Q:Aq}(h:AeB x0 x1 S Q):Ad Pg 104 [x0,x1] S Q:=
 Bj (n:=35) Rg Tryz.func104 (by kernel_rfl) (Eq.mpr (by kernel_rfl) h)
def gT(y0 y1 y4 y11 y12 y13:AV)(S:Aa)(KE0:By)(Q:Aq):Prop:=
 bin .lss 0 y13 y12 S fun c S=>Fi c (AS 67 2 y11 y13 S fun d S=>AB 2 d S fun e S=>Az 67 2 (.a [aI 0,aI 0]) S fun f S=>A8 2 f e S fun g S=>Lf f 0 S fun h S=>Ah Pg 57 [y0,y1,h] S Q fun i S=>Fi i (AI y0 S fun k S=>shift k 0 S fun l S=>Lf l 0 S fun m S=>bin .add 0 m y13 S fun n S=>bin .shl 0 (aI 1) n S fun o S=>bin .or 0 y4 o S fun p S=>bin .add 0 y13 (aI 1) S fun q S=>KE0 35 (Ga y0 y1 p y11 y12 q) S) (bin .add 0 y13 (aI 1) S fun r S=>KE0 35 (Ga y0 y1 y4 y11 y12 r) S)) (Q (.ret y4) S)
theorem WM{y0 y1 y11 y12:AV}{y40 y130:AV}{S:Aa}{Q:Aq}(I:AV→AV→Aa→Prop)(μ:AV→AV→Aa→Nat)(h0:I y40 y130 S)(hr:Dw (fun y4 y13=>Ga y0 y1 y4 y11 y12 y13) 35 I μ fun y4 y13 S KE0=>gT y0 y1 y4 y11 y12 y13 S KE0 Q):
 Ap PI (vc Pg (rA.at_ [1,0,1,0,0]) (Rg.drop 1)) 35 (Ga y0 y1 y40 y11 y12 y130) S (Ak 0 (Av (vc Pg (rA.at_ [1,1]) (Rg.drop 1)) (Ao Pg AbB Q))):=IB (E:=fun y4 y13=>Ga y0 y1 y4 y11 y12 y13) 2 5 (fun _ _=>⟨rfl,rfl⟩) (fun _ _ _ _=>by kernel_rfl) h0 hr
def c55:Code:=(Tryz.f55.body).getD .skip
def r55:List ResultVar:=Tryz.f55.results.toList
def Ih(y0 y1 y11 y12 y13:AV):List AV:=[y0,y1,y11,y12,y13]
def SZ:List Nat:=[0,1,11,12,13]
def Yt:List (List Nat):=[SZ,[]]
def m55(x0 x1:AV)(S:Aa)(Q:Aq):Prop:=
 AI x0 S fun a S=>shift a 0 S fun c S=>Lf c 1 S fun d S=>AF d S fun e S=>Ap SZ (vc Pg (c55.at_ [1,0,1,0,0]) (Yt.drop 1)) 37 (Ih x0 x1 d e (aI 0)) S (Ak 0 (Av (vc Pg (c55.at_ [1,1]) (Yt.drop 1)) (Ao Pg r55 Q)))
theorem oK{x0 x1:AV}{S:Aa}{Q:Aq}(h:m55 x0 x1 S Q):Ad Pg 55 [x0,x1] S Q:=
 Bj (n:=37) Yt Tryz.func55 (by kernel_rfl) (Eq.mpr (by kernel_rfl) h)
def tV(y0 y1 y11 y12 y13:AV)(S:Aa)(KE0:By)(Q:Aq):Prop:=
 bin .lss 0 y13 y12 S fun c S=>Fi c (AS 67 2 y11 y13 S fun d S=>AB 2 d S fun e S=>Az 67 2 (.a [aI 0,aI 0]) S fun f S=>A8 2 f e S fun g S=>(fun S0:Aa=>Lq S0 (shift f 1) fun h=>Lq S0 (Ay h) fun i=>Lq S0 (bin .neq 0 i (aI 2)) fun k=>Fi k (Lq S0 (AI y0) fun l=>Lq S0 (shift l 0) fun m=>Lq S0 (shift m 0) fun n=>Lq S0 (Ay n) fun o=>Lq S0 (bin .add 0 o y13) fun p=>Lq S0 (bin .shr 0 y1 p) fun q=>Lq S0 (bin .and 0 q (aI 1)) fun r=>Lq S0 (shift f 1) fun s=>Lq S0 (Ay s) fun t=>Lq S0 (bin .neq 0 r t) fun u=>∃ w:AV,(u=w∧S=S0)∧Fi w (Q (.ret (.v (.bool false))) S) (bin .add 0 y13 (aI 1) S fun x S=>KE0 37 (Ih y0 y1 y11 y12 x) S)) (∃ y:AV,((.v (.bool false))=y∧S=S0)∧Fi y (Q (.ret (.v (.bool false))) S) (bin .add 0 y13 (aI 1) S fun z S=>KE0 37 (Ih y0 y1 y11 y12 z) S))) S) (Q (.ret (.v (.bool true))) S)
theorem Zt{y0 y1 y11 y12:AV}{y130:AV}{S:Aa}{Q:Aq}(I:AV→Aa→Prop)(μ:AV→Aa→Nat)(h0:I y130 S)(hr:BS (fun y13=>Ih y0 y1 y11 y12 y13) 37 I μ fun y13 S KE0=>tV y0 y1 y11 y12 y13 S KE0 Q):
 Ap SZ (vc Pg (c55.at_ [1,0,1,0,0]) (Yt.drop 1)) 37 (Ih y0 y1 y11 y12 y130) S (Ak 0 (Av (vc Pg (c55.at_ [1,1]) (Yt.drop 1)) (Ao Pg r55 Q))):=DQ 4 (fun _=>rfl) (fun _ _ _=>by kernel_rfl) h0 hr
def c47:Code:=(Tryz.f47.body).getD .skip
def r47:List ResultVar:=Tryz.f47.results.toList
def JN(y0 y1 y5 y6:AV):List AV:=[y0,y1,y5,y6]
def Td:List Nat:=[0,1,5,6]
def Yw:List (List Nat):=[Td,[]]
def m47(x0 x1:AV)(S:Aa)(Q:Aq):Prop:=
 Ap Td (vc Pg (c47.at_ [1,1,0,1,0,0]) (Yw.drop 1)) 21 (JN x0 x1 .nl (aI 0)) S (Ak 0 (Av (vc Pg (c47.at_ [1,1,1]) (Yw.drop 1)) (Ao Pg r47 Q)))
theorem oS{x0 x1:AV}{S:Aa}{Q:Aq}(h:m47 x0 x1 S Q):Ad Pg 47 [x0,x1] S Q:=
 Bj (n:=21) Yw Tryz.func47 (by kernel_rfl) (Eq.mpr (by kernel_rfl) h)
def tZ(y0 y1 y5 y6:AV)(S:Aa)(KE0:By)(Q:Aq):Prop:=
 bin .lss 0 y6 y1 S fun a S=>Fi a (bin .shr 0 y0 y6 S fun c S=>bin .and 0 c (aI 1) S fun d S=>bin .eql 0 d (aI 1) S fun e S=>AU 4 1 1 [.v (.bool false)] [(0,e)] S fun f S=>Bo 4 1 1 y5 f S fun g S=>bin .add 0 y6 (aI 1) S fun h S=>KE0 21 (JN y0 y1 g h) S) (Q (.ret y5) S)
theorem Zy{y0 y1:AV}{y50 y60:AV}{S:Aa}{Q:Aq}(I:AV→AV→Aa→Prop)(μ:AV→AV→Aa→Nat)(h0:I y50 y60 S)(hr:Dw (fun y5 y6=>JN y0 y1 y5 y6) 21 I μ fun y5 y6 S KE0=>tZ y0 y1 y5 y6 S KE0 Q):
 Ap Td (vc Pg (c47.at_ [1,1,0,1,0,0]) (Yw.drop 1)) 21 (JN y0 y1 y50 y60) S (Ak 0 (Av (vc Pg (c47.at_ [1,1,1]) (Yw.drop 1)) (Ao Pg r47 Q))):=IB (E:=fun y5 y6=>JN y0 y1 y5 y6) 2 3 (fun _ _=>⟨rfl,rfl⟩) (fun _ _ _ _=>by kernel_rfl) h0 hr
def m27(x0 x1 x2:AV)(S:Aa)(Q:Aq):Prop:=
 Az 29 8 x0 S fun a S=>AB 8 a S fun c S=>Ah Pg 24 [c] S Q fun d S=>un .not d S fun e S=>Fi e (Q (.ret (.v (.bool false))) S) (AB 8 a S fun f S=>Ah Pg 17 [f] S Q fun g S=>IG g 0 S fun h S=>bin .gtr 0 h (aI 60) S fun i S=>Fi i (Q (.ret (.v (.bool false))) S) ((fun S0:Aa=>Lq S0 (AB 8 a) fun k=>Ld S0 17 [k] fun l=>Lq S0 (AB 8 a) fun m=>Ld S0 17 [m] fun n=>Lq S0 (IG n 0) fun o=>Ld S0 47 [x1,o] fun p=>Ld S0 46 [l,x2,p] fun q=>Q (.ret q) S) S))
theorem pM{x0 x1 x2:AV}{S:Aa}{Q:Aq}(h:m27 x0 x1 x2 S Q):Ad Pg 27 [x0,x1,x2] S Q:=
 Bj (n:=25) [[]] Tryz.func27 (by kernel_rfl) (Eq.mpr (by kernel_rfl) h)
def c28:Code:=(Tryz.f28.body).getD .skip
def r28:List ResultVar:=Tryz.f28.results.toList
def Il(y1 y2 y5 y6:AV):List AV:=[y1,y2,y5,y6]
def To:List Nat:=[1,2,5,6]
def YA:List (List Nat):=[To,[]]
def m28(x0 x1:AV)(S:Aa)(Q:Aq):Prop:=
 Az 29 8 x0 S fun a S=>AB 8 a S fun c S=>Ah Pg 24 [c] S Q fun d S=>un .not d S fun e S=>Fi e (Q (.ret (aI 0)) S) (AB 8 a S fun f S=>Ah Pg 17 [f] S Q fun g S=>IG g 0 S fun h S=>bin .gtr 0 h (aI 60) S fun i S=>Fi i (Q (.ret (aI 0)) S) (Ap To (vc Pg (c28.at_ [1,1,1,0,1,0,0]) (YA.drop 1)) 40 (Il x1 a (aI 0) (aI 0)) S (Ak 0 (Av (vc Pg (c28.at_ [1,1,1,1]) (YA.drop 1)) (Ao Pg r28 Q)))))
theorem pK{x0 x1:AV}{S:Aa}{Q:Aq}(h:m28 x0 x1 S Q):Ad Pg 28 [x0,x1] S Q:=
 Bj (n:=40) YA Tryz.func28 (by kernel_rfl) (Eq.mpr (by kernel_rfl) h)
def uN(y1 y2 y5 y6:AV)(S:Aa)(KE0:By)(Q:Aq):Prop:=
 Lf y2 1 S fun a S=>AF a S fun c S=>bin .lss 0 y6 c S fun d S=>Fi d ((fun S0:Aa=>Lq S0 (AB 8 y2) fun e=>Lq S0 (shift y2 1) fun f=>Lq S0 (Ay f) fun g=>Lq S0 (AS 67 2 g y6) fun h=>Lq S0 (shift h 0) fun i=>Lq S0 (Ay i) fun k=>Ld S0 27 [e,y1,k] fun l=>Fi l (Lf y2 0 S fun m S=>bin .add 0 m y6 S fun n S=>bin .shl 0 (aI 1) n S fun o S=>bin .add 0 y5 o S fun p S=>bin .add 0 y6 (aI 1) S fun q S=>KE0 40 (Il y1 y2 p q) S) (bin .add 0 y6 (aI 1) S fun r S=>KE0 40 (Il y1 y2 y5 r) S)) S) (Q (.ret y5) S)
theorem ZM{y1 y2:AV}{y50 y60:AV}{S:Aa}{Q:Aq}(I:AV→AV→Aa→Prop)(μ:AV→AV→Aa→Nat)(h0:I y50 y60 S)(hr:Dw (fun y5 y6=>Il y1 y2 y5 y6) 40 I μ fun y5 y6 S KE0=>uN y1 y2 y5 y6 S KE0 Q):
 Ap To (vc Pg (c28.at_ [1,1,1,0,1,0,0]) (YA.drop 1)) 40 (Il y1 y2 y50 y60) S (Ak 0 (Av (vc Pg (c28.at_ [1,1,1,1]) (YA.drop 1)) (Ao Pg r28 Q))):=IB (E:=fun y5 y6=>Il y1 y2 y5 y6) 2 3 (fun _ _=>⟨rfl,rfl⟩) (fun _ _ _ _=>by kernel_rfl) h0 hr
def AeD(x0 x1:AV)(S:Aa)(Q:Aq):Prop:=
 Ay x1 S fun a S=>bin .shr 0 x0 (.v (.int .u64 1)) S fun c S=>AS 4 1 a c S fun d S=>Ay d S fun e S=>bin .and 0 x0 (aI 1) S fun f S=>bin .eql 0 f (aI 1) S fun g S=>bin .neq 1 e g S fun h S=>Q (.ret h) S
theorem eI{x0 x1:AV}{S:Aa}{Q:Aq}(h:AeD x0 x1 S Q):Ad Pg 102 [x0,x1] S Q:=
 Bj (n:=13) [[]] Tryz.func102 (by kernel_rfl) (Eq.mpr (by kernel_rfl) h)
def c51:Code:=(Tryz.f51.body).getD .skip
def r51:List ResultVar:=Tryz.f51.results.toList
def Ii(y5 y6 y32 y33 y34:AV):List AV:=[y5,y6,y32,y33,y34]
def Tb:List Nat:=[5,6,32,33,34]
def Yv:List (List Nat):=[Tb,[]]
def m51(x0 x1:AV)(S:Aa)(Q:Aq):Prop:=
 Az 61 2 x0 S fun a S=>AB 2 a S fun c S=>Ah Pg 98 [c] S Q fun d S=>un .not d S fun e S=>Fi e (Q (.ret .nl) S) (AF x1 S fun g S=>Lf a 0 S fun h S=>bin .neq 0 g h S fun i S=>Fi i (Q (.ret .nl) S) (Lf a 0 S fun k S=>bin .add 0 k (aI 1) S fun l S=>Lf a 1 S fun m S=>AF m S fun n S=>bin .add 0 l n S fun o S=>Ql 4 1 [.v (.bool false)] (aI 1) o S fun p S=>Az 41 1 .nl S fun q S=>A8 1 q p S fun r S=>Ay q S fun s S=>Bo 4 1 1 s x1 S fun t S=>A8 1 q t S fun u S=>Lf a 1 S fun w S=>AF w S fun x S=>Ap Tb (vc Pg (c51.at_ [1,1,1,1,1,0,1,0,0]) (Yv.drop 1)) 53 (Ii q (.f (.func 102) [] [q]) w x (aI 0)) S (Ak 0 (Av (vc Pg (c51.at_ [1,1,1,1,1,1]) (Yv.drop 1)) (Ao Pg r51 Q)))))
theorem oO{x0 x1:AV}{S:Aa}{Q:Aq}(h:m51 x0 x1 S Q):Ad Pg 51 [x0,x1] S Q:=
 Bj (n:=53) Yv Tryz.func51 (by kernel_rfl) (Eq.mpr (by kernel_rfl) h)
def tX(y5 y6 y32 y33 y34:AV)(S:Aa)(KE0:By)(Q:Aq):Prop:=
 bin .lss 0 y34 y33 S fun c S=>Fi c (AS 130 2 y32 y34 S fun d S=>AB 2 d S fun e S=>Az 130 2 (.a [aI 0,aI 0]) S fun f S=>A8 2 f e S fun g S=>Lt S (Ay y5) fun h=>Lt S (Iz 2 1 f (aI 0)) fun i=>Lt S (Ay i) fun k=>∃ l:AV,(∀ T:Aa,Am S T→Bg Pg y6 [k] T (fun m S=>m=l∧S=T) (fun u S=>False))∧Fi l (Lt S (Iz 2 1 f (aI 1)) fun n=>Lt S (Ay n) fun o=>∃ p:AV,(∀ T:Aa,Am S T→Bg Pg y6 [o] T (fun q S=>q=p∧S=T) (fun u S=>False))∧∃ r:AV,(∀ T:Aa,Am S T→p=r∧T=T)∧Lt S (AU 4 1 1 [.v (.bool false)] [(0,r)]) fun s=>Bo 4 1 1 h s S fun t S=>A8 1 y5 t S fun w S=>bin .add 0 y34 (aI 1) S fun x S=>KE0 53 (Ii y5 y6 y32 y33 x) S) (∃ y:AV,(∀ T:Aa,Am S T→(.v (.bool false))=y∧T=T)∧Lt S (AU 4 1 1 [.v (.bool false)] [(0,y)]) fun z=>Bo 4 1 1 h z S fun A S=>A8 1 y5 A S fun B S=>bin .add 0 y34 (aI 1) S fun C S=>KE0 53 (Ii y5 y6 y32 y33 C) S)) (Ay y5 S fun D S=>Q (.ret D) S)
theorem Zv{y5 y6 y32 y33:AV}{y340:AV}{S:Aa}{Q:Aq}(I:AV→Aa→Prop)(μ:AV→Aa→Nat)(h0:I y340 S)(hr:BS (fun y34=>Ii y5 y6 y32 y33 y34) 53 I μ fun y34 S KE0=>tX y5 y6 y32 y33 y34 S KE0 Q):
 Ap Tb (vc Pg (c51.at_ [1,1,1,1,1,0,1,0,0]) (Yv.drop 1)) 53 (Ii y5 y6 y32 y33 y340) S (Ak 0 (Av (vc Pg (c51.at_ [1,1,1,1,1,1]) (Yv.drop 1)) (Ao Pg r51 Q))):=DQ 4 (fun _=>rfl) (fun _ _ _=>by kernel_rfl) h0 hr
def m91(x0 x1:AV)(S:Aa)(Q:Aq):Prop:=
 bin .quo 0 x1 (aI 2) S fun a S=>AS 4 1 x0 a S fun c S=>Ay c S fun d S=>bin .rem 0 x1 (aI 2) S fun e S=>bin .eql 0 e (aI 1) S fun f S=>bin .neq 1 d f S fun g S=>Q (.ret g) S
theorem mZ{x0 x1:AV}{S:Aa}{Q:Aq}(h:m91 x0 x1 S Q):Ad Pg 91 [x0,x1] S Q:=
 Bj (n:=14) [[]] Tryz.func91 (by kernel_rfl) (Eq.mpr (by kernel_rfl) h)
def c90:Code:=(Tryz.f90.body).getD .skip
def r90:List ResultVar:=Tryz.f90.results.toList
def GO(y2 y5 y6:AV):List AV:=[y2,y5,y6]
def SJ:List Nat:=[2,5,6]
def Yh:List (List Nat):=[SJ,[]]
def m90(x0 x1:AV)(S:Aa)(Q:Aq):Prop:=
 Az 61 2 x0 S fun a S=>AB 2 a S fun c S=>Ah Pg 42 [c] S Q fun d S=>un .not d S fun e S=>Fi e (Q (.ret .nl) S) (AF x1 S fun f S=>Lf a 0 S fun g S=>bin .neq 0 f g S fun h S=>Fi h (Q (.ret .nl) S) (AU 4 1 1 [.v (.bool false)] [(0,(.v (.bool false)))] S fun i S=>Bo 4 1 1 i x1 S fun k S=>Ap SJ (vc Pg (c90.at_ [1,1,1,0,1,0,0]) (Yh.drop 1)) 49 (GO a k (aI 0)) S (Ak 0 (Av (vc Pg (c90.at_ [1,1,1,1]) (Yh.drop 1)) (Ao Pg r90 Q)))))
theorem nA{x0 x1:AV}{S:Aa}{Q:Aq}(h:m90 x0 x1 S Q):Ad Pg 90 [x0,x1] S Q:=
 Bj (n:=49) Yh Tryz.func90 (by kernel_rfl) (Eq.mpr (by kernel_rfl) h)
def tB(y2 y5 y6:AV)(S:Aa)(KE0:By)(Q:Aq):Prop:=
 Lf y2 1 S fun a S=>AF a S fun c S=>bin .lss 0 y6 c S fun d S=>Fi d (Lf y2 1 S fun e S=>AS 130 2 e y6 S fun f S=>Iz 2 1 f (aI 0) S fun g S=>Ay g S fun h S=>Ah Pg 91 [y5,h] S Q fun i S=>Fi i (Lf y2 1 S fun k S=>AS 130 2 k y6 S fun l S=>Iz 2 1 l (aI 1) S fun m S=>Ay m S fun n S=>Ah Pg 91 [y5,n] S Q fun o S=>AU 4 1 1 [.v (.bool false)] [(0,o)] S fun p S=>Bo 4 1 1 y5 p S fun q S=>bin .add 0 y6 (aI 1) S fun r S=>KE0 49 (GO y2 q r) S) (AU 4 1 1 [.v (.bool false)] [(0,(.v (.bool false)))] S fun s S=>Bo 4 1 1 y5 s S fun t S=>bin .add 0 y6 (aI 1) S fun u S=>KE0 49 (GO y2 t u) S)) (Q (.ret y5) S)
theorem Y9{y2:AV}{y50 y60:AV}{S:Aa}{Q:Aq}(I:AV→AV→Aa→Prop)(μ:AV→AV→Aa→Nat)(h0:I y50 y60 S)(hr:Dw (fun y5 y6=>GO y2 y5 y6) 49 I μ fun y5 y6 S KE0=>tB y2 y5 y6 S KE0 Q):
 Ap SJ (vc Pg (c90.at_ [1,1,1,0,1,0,0]) (Yh.drop 1)) 49 (GO y2 y50 y60) S (Ak 0 (Av (vc Pg (c90.at_ [1,1,1,1]) (Yh.drop 1)) (Ao Pg r90 Q))):=IB (E:=fun y5 y6=>GO y2 y5 y6) 1 2 (fun _ _=>⟨rfl,rfl⟩) (fun _ _ _ _=>by kernel_rfl) h0 hr
def m46(x0 x1 x2:AV)(S:Aa)(Q:Aq):Prop:=
 Az 61 2 x0 S fun a S=>AB 2 a S fun c S=>Ah Pg 90 [c,x2] S Q fun d S=>AF d S fun e S=>bin .gtr 0 e (aI 0) S fun f S=>Fi f (AB 2 a S fun g S=>Ah Pg 43 [g,x1] S Q fun h S=>Fi h (Ah Pg 91 [d,x1] S Q fun i S=>Q (.ret i) S) (Q (.ret (.v (.bool false))) S)) (Q (.ret (.v (.bool false))) S)
theorem oU{x0 x1 x2:AV}{S:Aa}{Q:Aq}(h:m46 x0 x1 x2 S Q):Ad Pg 46 [x0,x1,x2] S Q:=
 Bj (n:=24) [[]] Tryz.func46 (by kernel_rfl) (Eq.mpr (by kernel_rfl) h)
def c24:Code:=(Tryz.f24.body).getD .skip
def r24:List ResultVar:=Tryz.f24.results.toList
def GR(y1 y3 y4:AV):List AV:=[y1,y3,y4]
def Ts:List Nat:=[1,3,4]
def YD:List (List Nat):=[Ts,[]]
def m24(x0:AV)(S:Aa)(Q:Aq):Prop:=
 Az 29 8 x0 S fun c S=>AB 8 c S fun d S=>Ah Pg 17 [d] S Q fun e S=>Az 61 2 (.a [aI 0,.nl]) S fun f S=>A8 2 f e S fun g S=>Lf c 0 S fun h S=>bin .lss 0 h (aI 0) S fun i S=>Fi i (Q (.ret (.v (.bool false))) S) (Lf c 0 S fun k S=>bin .gtr 0 k (aI 2000) S fun l S=>Fi l (Q (.ret (.v (.bool false))) S) (Lf c 1 S fun m S=>AF m S fun n S=>bin .gtr 0 n (aI 2000) S fun o S=>Fi o (Q (.ret (.v (.bool false))) S) (AB 2 f S fun p S=>Ah Pg 42 [p] S Q fun q S=>un .not q S fun r S=>Fi r (Q (.ret (.v (.bool false))) S) (Ap Ts (vc Pg (c24.at_ [1,1,1,0,1,0,0]) (YD.drop 1)) 86 (GR c f (aI 0)) S (Ak 0 (Av (vc Pg (c24.at_ [1,1,1,1]) (YD.drop 1)) (Ao Pg r24 Q)))))))
theorem pP{x0:AV}{S:Aa}{Q:Aq}(h:m24 x0 S Q):Ad Pg 24 [x0] S Q:=
 Bj (n:=86) YD Tryz.func24 (by kernel_rfl) (Eq.mpr (by kernel_rfl) h)
abbrev P8(S0:Aa)(y1 y4:AV)(S:Aa)(Q:Aq)(KE0:By)(y3:AV):Prop:=Lq S0 (shift y1 1) fun a=>Lq S0 (Ay a) fun c=>Lq S0 (AS 67 2 c y4) fun d=>Lq S0 (shift d 1) fun e=>Lq S0 (Ay e) fun f=>Lq S0 (bin .gtr 0 f (aI 2)) fun g=>∃ h:AV,(g=h∧S=S0)∧Fi h (Q (.ret (.v (.bool false))) S) (bin .add 0 y4 (aI 1) S fun i S=>KE0 86 (GR y1 y3 i) S)
def uQ(y1 y3 y4:AV)(S:Aa)(KE0:By)(Q:Aq):Prop:=
 Lf y1 1 S fun a S=>AF a S fun c S=>bin .lss 0 y4 c S fun d S=>Fi d ((fun S0:Aa=>Lq S0 (AB 2 y3) fun e=>Lq S0 (shift y1 1) fun f=>Lq S0 (Ay f) fun g=>Lq S0 (AS 67 2 g y4) fun h=>Lq S0 (shift h 0) fun i=>Lq S0 (Ay i) fun k=>Ld S0 43 [e,k] fun l=>Lq S0 (un .not l) fun m=>Fi m (∃ n:AV,((.v (.bool true))=n∧S=S0)∧Fi n (∃ o:AV,((.v (.bool true))=o∧S=S0)∧Fi o (Q (.ret (.v (.bool false))) S) (bin .add 0 y4 (aI 1) S fun p S=>KE0 86 (GR y1 y3 p) S)) (P8 S0 y1 y4 S Q KE0 y3)) (Lq S0 (shift y1 1) fun q=>Lq S0 (Ay q) fun r=>Lq S0 (AS 67 2 r y4) fun s=>Lq S0 (shift s 1) fun t=>Lq S0 (Ay t) fun u=>Lq S0 (bin .lss 0 u (aI 0)) fun w=>∃ x:AV,(w=x∧S=S0)∧Fi x (∃ y:AV,((.v (.bool true))=y∧S=S0)∧Fi y (Q (.ret (.v (.bool false))) S) (bin .add 0 y4 (aI 1) S fun z S=>KE0 86 (GR y1 y3 z) S)) (P8 S0 y1 y4 S Q KE0 y3))) S) (AB 2 y3 S fun A S=>Lf y1 3 S fun B S=>Ah Pg 44 [A,B] S Q fun C S=>Fi C (AB 2 y3 S fun D S=>Lf y1 4 S fun E S=>Ah Pg 44 [D,E] S Q fun F S=>Fi F (AB 2 y3 S fun G S=>Lf y1 5 S fun H S=>Ah Pg 44 [G,H] S Q fun I S=>Fi I (AB 2 y3 S fun J S=>Lf y1 6 S fun K S=>Ah Pg 44 [J,K] S Q fun L S=>Fi L (AB 8 y1 S fun M S=>Ah Pg 45 [M] S Q fun N S=>Q (.ret N) S) (Q (.ret (.v (.bool false))) S)) (Q (.ret (.v (.bool false))) S)) (Q (.ret (.v (.bool false))) S)) (Q (.ret (.v (.bool false))) S))
theorem ZP{y1 y3:AV}{y40:AV}{S:Aa}{Q:Aq}(I:AV→Aa→Prop)(μ:AV→Aa→Nat)(h0:I y40 S)(hr:BS (fun y4=>GR y1 y3 y4) 86 I μ fun y4 S KE0=>uQ y1 y3 y4 S KE0 Q):
 Ap Ts (vc Pg (c24.at_ [1,1,1,0,1,0,0]) (YD.drop 1)) 86 (GR y1 y3 y40) S (Ak 0 (Av (vc Pg (c24.at_ [1,1,1,1]) (YD.drop 1)) (Ao Pg r24 Q))):=DQ 2 (fun _=>rfl) (fun _ _ _=>by kernel_rfl) h0 hr
def m95(x0 x1:AV)(S:Aa)(Q:Aq):Prop:=
 AB 2 x1 S fun a S=>Ah Pg 96 [a,x0] S Q fun c S=>un .not c S fun d S=>Q (.ret d) S
theorem mV{x0 x1:AV}{S:Aa}{Q:Aq}(h:m95 x0 x1 S Q):Ad Pg 95 [x0,x1] S Q:=
 Bj (n:=8) [[]] Tryz.func95 (by kernel_rfl) (Eq.mpr (by kernel_rfl) h)
def m97(x0 x1:AV)(S:Aa)(Q:Aq):Prop:=
 Az 67 2 x0 S fun a S=>Ay x1 S fun c S=>Lf a 0 S fun d S=>Bg Pg c [d] S (fun e S=>Fi e (Q (.ret (.v (.bool true))) S) (Lf a 1 S fun f S=>bin .lss 0 f (aI 0) S fun g S=>Fi g (Q (.ret (.v (.bool true))) S) (Lf a 1 S fun h S=>bin .gtr 0 h (aI 2) S fun i S=>Q (.ret i) S))) (fun u S=>Q (.pan u) S)
theorem mS{x0 x1:AV}{S:Aa}{Q:Aq}(h:m97 x0 x1 S Q):Ad Pg 97 [x0,x1] S Q:=
 Bj (n:=18) [[]] Tryz.func97 (by kernel_rfl) (Eq.mpr (by kernel_rfl) h)
def qR:Code:=(Tryz.f135.body).getD .skip
def Ab2:List ResultVar:=Tryz.f135.results.toList
def J0(y0 y1 y7 y8:AV):List AV:=[y0,y1,y7,y8]
def Pv:List Nat:=[0,1,7,8]
def Q6:List (List Nat):=[Pv,[]]
def AdJ(x0 x1:AV)(S:Aa)(Q:Aq):Prop:=
 AF x0 S fun a S=>Ap Pv (vc Pg (qR.at_ [1,0,1,0,0]) (Q6.drop 1)) 19 (J0 x0 x1 a (aI 0)) S (Ak 0 (Av (vc Pg (qR.at_ [1,1]) (Q6.drop 1)) (Ao Pg Ab2 Q)))
theorem dB{x0 x1:AV}{S:Aa}{Q:Aq}(h:AdJ x0 x1 S Q):Ad Pg 135 [x0,x1] S Q:=
 Bj (n:=19) Q6 Tryz.func135 (by kernel_rfl) (Eq.mpr (by kernel_rfl) h)
def fY(y0 y1 y7 y8:AV)(S:Aa)(KE0:By)(Q:Aq):Prop:=
 bin .lss 0 y8 y7 S fun a S=>Fi a (AS 67 2 y0 y8 S fun c S=>AB 2 c S fun d S=>Bg Pg y1 [d] S (fun e S=>Fi e (Q (.ret y8) S) (bin .add 0 y8 (aI 1) S fun f S=>KE0 19 (J0 y0 y1 y7 f) S)) (fun u S=>Q (.pan u) S)) (Q (.ret (.v (.int .i64 (-1)))) S)
theorem Wt{y0 y1 y7:AV}{y80:AV}{S:Aa}{Q:Aq}(I:AV→Aa→Prop)(μ:AV→Aa→Nat)(h0:I y80 S)(hr:BS (fun y8=>J0 y0 y1 y7 y8) 19 I μ fun y8 S KE0=>fY y0 y1 y7 y8 S KE0 Q):
 Ap Pv (vc Pg (qR.at_ [1,0,1,0,0]) (Q6.drop 1)) 19 (J0 y0 y1 y7 y80) S (Ak 0 (Av (vc Pg (qR.at_ [1,1]) (Q6.drop 1)) (Ao Pg Ab2 Q))):=DQ 3 (fun _=>rfl) (fun _ _ _=>by kernel_rfl) h0 hr
def m99(x0 x1:AV)(S:Aa)(Q:Aq):Prop:=
 Ah Pg 135 [x0,x1] S Q fun a S=>bin .geq 0 a (aI 0) S fun c S=>Q (.ret c) S
theorem mQ{x0 x1:AV}{S:Aa}{Q:Aq}(h:m99 x0 x1 S Q):Ad Pg 99 [x0,x1] S Q:=
 Bj (n:=9) [[]] Tryz.func99 (by kernel_rfl) (Eq.mpr (by kernel_rfl) h)
def jV:Code:=(Tryz.f49.body).getD .skip
def r49:List ResultVar:=Tryz.f49.results.toList
def Ij(y1 y3 y14:AV):List AV:=[y1,y3,y14]
def MO:List Nat:=[1,3,14]
def LY(y1 y6 y44 y45:AV):List AV:=[y1,y6,y44,y45]
def Tc:List Nat:=[1,6,44,45]
def MF:List (List Nat):=[MO,Tc,[]]
def m49(x0:AV)(S:Aa)(Q:Aq):Prop:=
 Az 29 8 x0 S fun c S=>AB 8 c S fun d S=>Ah Pg 50 [d] S Q fun e S=>Az 61 2 (.a [aI 0,.nl]) S fun f S=>A8 2 f e S fun g S=>AB 8 c S fun h S=>Ah Pg 94 [h] S Q fun i S=>wJ i S fun k S=>Ap MO (vc Pg (jV.at_ [1,1,0,1,0,0]) (MF.drop 1)) 54 (Ij c f k) S (Ak 0 (Av (vc Pg (jV.at_ [1,1,1]) (MF.drop 1)) (Ao Pg r49 Q)))
theorem oQ{x0:AV}{S:Aa}{Q:Aq}(h:m49 x0 S Q):Ad Pg 49 [x0] S Q:=
 Bj (n:=54) MF Tryz.func49 (by kernel_rfl) (Eq.mpr (by kernel_rfl) h)
def eS(y1 y3 y14:AV)(S:Aa)(KE0:By)(Q:Aq):Prop:=
 MB false y14 S fun a S=>AZ a 0 S fun c S=>Fi c (M8 y14 S fun d S=>AZ d 1 S fun e S=>bin .lss 0 e (aI 0) S fun g S=>Fi g (Q (.ret (.v (.bool false))) S) (bin .gtr 0 e (aI 2000) S fun h S=>Fi h (Q (.ret (.v (.bool false))) S) (KE0 54 (Ij y1 y3 y14) S))) (Az 105 1 (.v .nilFunc) S fun i S=>A8 1 i (.f (.func 95) [] [y3]) S fun k S=>AB 2 y3 S fun l S=>Ah Pg 98 [l] S Q fun m S=>un .not m S fun n S=>Fi n (Q (.ret (.v (.bool false))) S) (Lf y1 1 S fun o S=>Ah Pg 99 [o,(.f (.func 97) [] [i])] S Q fun p S=>Fi p (Q (.ret (.v (.bool false))) S) (Lf y1 3 S fun q S=>Lf y1 4 S fun r S=>Lf y1 5 S fun s S=>Lf y1 6 S fun t S=>CD NI [.nl,.nl,.nl,.nl] [(0,q),(1,r),(2,s),(3,t)] S fun u S=>Ap Tc (vc Pg (jV.at_ [1,1,1,1,1,1,0,1,0,0]) (MF.drop 2)) 54 (LY y1 i u (aI 0)) S (Ak 2 (Av (vc Pg (jV.at_ [1,1,1,1,1,1,1]) (MF.drop 2)) (Ao Pg r49 Q))))))
theorem eR(y1 y3 y14:AV)(S:Aa)(KE0:By)(Q:Aq):vc Pg (jV.at_ [1,1,0,1,0,0]) (MF.drop 1) (Ls 54 MO (Ij y1 y3 y14)) S (BV (Hc MO KE0) (Ak 0 (Av (vc Pg (jV.at_ [1,1,1]) (MF.drop 1)) (Ao Pg r49 Q))))=eS y1 y3 y14 S KE0 Q:=by kernel_rfl
theorem Zx{y1 y3 y14:AV}{S:Aa}{Q:Aq}(I:Aa→Prop)(μ:Aa→Nat)(h0:I  S)
    (hr:∀(S:Aa),I  S→∀ KE0:By,(∀(S':Aa),I  S'→μ  S'<μ  S→KE0 54 (Ij y1 y3 y14) S')→eS y1 y3 y14 S KE0 Q):
    Ap MO (vc Pg (jV.at_ [1,1,0,1,0,0]) (MF.drop 1)) 54 (Ij y1 y3 y14) S (Ak 0 (Av (vc Pg (jV.at_ [1,1,1]) (MF.drop 1)) (Ao Pg r49 Q))):=by
 refine⟨fun n e S=>n=54∧e=(Ij y1 y3 y14)∧I  S,fun _ e S=>μ  S,?_,?_⟩
 ·exact⟨_,_,Wk.refl _ _,rfl,rfl,h0⟩
 ·rintro _ e S ⟨rfl,rfl,hI⟩
  exact(eR _ _ _ _ _ _).mpr (hr  S hI _ (fun  S' hI' hm=>⟨_,_,Wk.refl _ _,⟨rfl,rfl,hI'⟩,hm⟩))
def tY(y1 y6 y44 y45:AV)(S:Aa)(KE1:By)(Q:Aq):Prop:=
 bin .lss 0 y45 (aI 4) S fun a S=>Fi a (BK (Aw y45) fun z39=>(0≤z39∧z39<((4:Nat):Int))∧IG y44 (z39.toNat*1) S fun c S=>Ay y6 S fun d S=>Ah Pg 100 [c,d] S Q fun e S=>Fi e (Q (.ret (.v (.bool false))) S) (bin .add 0 y45 (aI 1) S fun f S=>KE1 54 (LY y1 y6 y44 f) S)) (AB 8 y1 S fun g S=>Ah Pg 101 [g] S Q fun h S=>Q (.ret h) S)
theorem Zw{y1 y6 y44:AV}{y450:AV}{S:Aa}{Q:Aq}(I:AV→Aa→Prop)(μ:AV→Aa→Nat)(h0:I y450 S)(hr:BS (fun y45=>LY y1 y6 y44 y45) 54 I μ fun y45 S KE1=>tY y1 y6 y44 y45 S KE1 Q):
 Ap Tc (vc Pg (jV.at_ [1,1,1,1,1,1,0,1,0,0]) (MF.drop 2)) 54 (LY y1 y6 y44 y450) S (Ak 2 (Av (vc Pg (jV.at_ [1,1,1,1,1,1,1]) (MF.drop 2)) (Ao Pg r49 Q))):=DQ 3 (fun _=>rfl) (fun _ _ _=>by kernel_rfl) h0 hr
def Xu:Code:=(Tryz.f45.body).getD .skip
def r45:List ResultVar:=Tryz.f45.results.toList
def Fs(y1 y3:AV):List AV:=[y1,y3]
def MP:List Nat:=[1,3]
def LZ(y1 y3 y4 y5:AV):List AV:=[y1,y3,y4,y5]
def Tf:List Nat:=[1,3,4,5]
def KI:List (List Nat):=[MP,Tf,[]]
def m45(x0:AV)(S:Aa)(Q:Aq):Prop:=
 Az 29 8 x0 S fun a S=>Ap MP (vc Pg (Xu.at_ [1,0,1,0,0]) (KI.drop 1)) 85 (Fs a (aI 0)) S (Ak 0 (Av (vc Pg (Xu.at_ [1,1]) (KI.drop 2)) (Ao Pg r45 Q)))
theorem oV{x0:AV}{S:Aa}{Q:Aq}(h:m45 x0 S Q):Ad Pg 45 [x0] S Q:=
 Bj (n:=85) KI Tryz.func45 (by kernel_rfl) (Eq.mpr (by kernel_rfl) h)
abbrev Mb(y1 y3 v11:AV)(S:Aa)(KE0:By)(Q:Aq):Prop:=Ap Tf (vc Pg (Xu.at_ [1,0,1,0,0,1,0,0,1,1,0,1,0,0]) (KI.drop 2)) 85 (LZ y1 y3 v11 (aI 0)) S (Ak 2 (Av (vc Pg (Xu.at_ [1,0,1,0,0,1,0,0,1,1,1]) (KI.drop 2)) (Ak 1 (Av (vc Pg (Xu.at_ [1,0,1,0,0,1,1]) (KI.drop 2)) (BV (Hc MP KE0) (Ak 0 (Av (vc Pg (Xu.at_ [1,1]) (KI.drop 2)) (Ao Pg r45 Q))))))))
abbrev P7(S0:Aa)(v11 y1:AV)(S:Aa)(Q:Aq)(y3:AV)(KE0:By):Prop:=Lq S0 (shift v11 1) fun q26=>Lq S0 (Ay q26) fun q28=>Lq S0 (AB 8 y1) fun q30=>Lq S0 (shift v11 0) fun q32=>Lq S0 (Ay q32) fun q34=>Ld S0 88 [q30,q34] fun q36=>Lq S0 (bin .geq 0 q28 q36) fun q38=>∃ q40:AV,(q38=q40∧S=S0)∧Fi q40 (Q (.ret (.v (.bool false))) S) (Mb y1 y3 v11 S KE0 Q)
def uB(y1 y3:AV)(S:Aa)(KE0:By)(Q:Aq):Prop:=
 Lf y1 7 S fun c S=>AF c S fun d S=>bin .lss 0 y3 d S fun e S=>Fi e (Lf y1 7 S fun f S=>AS 91 3 f y3 S fun g S=>AB 3 g S fun h S=>Az 91 3 (.a yZ) S fun i S=>A8 3 i h S fun k S=>(fun S0:Aa=>Lq S0 (shift i 2) fun l=>Lq S0 (Ay l) fun m=>Ld S0 87 [m] fun n=>Lq S0 (un .not n) fun o=>Fi o (∃ p:AV,((.v (.bool true))=p∧S=S0)∧Fi p (∃ q:AV,((.v (.bool true))=q∧S=S0)∧Fi q (Q (.ret (.v (.bool false))) S) (Mb y1 y3 i S KE0 Q)) (P7 S0 i y1 S Q y3 KE0)) (Lq S0 (shift i 1) fun r=>Lq S0 (Ay r) fun s=>Lq S0 (bin .lss 0 s (aI 0)) fun t=>∃ u:AV,(t=u∧S=S0)∧Fi u (∃ w:AV,((.v (.bool true))=w∧S=S0)∧Fi w (Q (.ret (.v (.bool false))) S) (Mb y1 y3 i S KE0 Q)) (P7 S0 i y1 S Q y3 KE0))) S) (Q (.ret (.v (.bool true))) S)
theorem ZA{y1:AV}{y30:AV}{S:Aa}{Q:Aq}(I:AV→Aa→Prop)(μ:AV→Aa→Nat)(h0:I y30 S)(hr:BS (fun y3=>Fs y1 y3) 85 I μ fun y3 S KE0=>uB y1 y3 S KE0 Q):
 Ap MP (vc Pg (Xu.at_ [1,0,1,0,0]) (KI.drop 1)) 85 (Fs y1 y30) S (Ak 0 (Av (vc Pg (Xu.at_ [1,1]) (KI.drop 2)) (Ao Pg r45 Q))):=DQ 1 (fun _=>rfl) (fun _ _ _=>by kernel_rfl) h0 hr
def uA(y1 y3 y4 y5:AV)(S:Aa)(KE1:By)(KE0:By)(Q:Aq):Prop:=
 bin .lss 0 y5 y3 S fun a S=>Fi a ((fun S0:Aa=>Lq S0 (shift y1 7) fun c=>Lq S0 (Ay c) fun d=>Lq S0 (AS 91 3 d y5) fun e=>Lq S0 (shift e 2) fun f=>Lq S0 (Ay f) fun g=>Lq S0 (shift y4 2) fun h=>Lq S0 (Ay h) fun i=>Lq S0 (bin .eql 0 g i) fun k=>Fi k (Q (.ret (.v (.bool false))) S) (bin .add 0 y5 (aI 1) S fun l S=>KE1 85 (LZ y1 y3 y4 l) S)) S) (bin .gtr 0 y3 (aI 0) S fun m S=>Fi m ((fun S0:Aa=>Lq S0 (shift y1 7) fun n=>Lq S0 (Ay n) fun o=>Lq S0 (bin .sub 0 y3 (aI 1)) fun p=>Lq S0 (AS 91 3 o p) fun q=>Lq S0 (shift q 0) fun r=>Lq S0 (Ay r) fun s=>Ld S0 89 [s] fun t=>Lq S0 (shift y4 0) fun u=>Lq S0 (Ay u) fun w=>Ld S0 89 [w] fun x=>(fun S0:Aa=>Lq S0 (bin .gtr 0 t x) fun y=>Fi y (∃ z:AV,((.v (.bool true))=z∧S=S0)∧Fi z (Q (.ret (.v (.bool false))) S) (bin .add 0 y3 (aI 1) S fun A S=>KE0 85 (Fs y1 A) S)) (Lq S0 (bin .eql 0 t x) fun B=>Fi B (Lq S0 (shift y1 7) fun C=>Lq S0 (Ay C) fun D=>Lq S0 (bin .sub 0 y3 (aI 1)) fun E=>Lq S0 (AS 91 3 D E) fun F=>Lq S0 (shift F 1) fun G=>Lq S0 (Ay G) fun H=>Lq S0 (shift y4 1) fun I=>Lq S0 (Ay I) fun J=>Lq S0 (bin .geq 0 H J) fun K=>∃ L:AV,(K=L∧S=S0)∧∃ M:AV,(L=M∧S=S0)∧Fi M (Q (.ret (.v (.bool false))) S) (bin .add 0 y3 (aI 1) S fun N S=>KE0 85 (Fs y1 N) S)) (∃ O:AV,((.v (.bool false))=O∧S=S0)∧∃ P:AV,(O=P∧S=S0)∧Fi P (Q (.ret (.v (.bool false))) S) (bin .add 0 y3 (aI 1) S fun R S=>KE0 85 (Fs y1 R) S)))) S) S) (bin .add 0 y3 (aI 1) S fun T S=>KE0 85 (Fs y1 T) S))
theorem Zz{y1 y3 y4:AV}{y50:AV}{S:Aa}{KE0:By}{Q:Aq}(I:AV→Aa→Prop)(μ:AV→Aa→Nat)(h0:I y50 S)(hr:BS (fun y5=>LZ y1 y3 y4 y5) 85 I μ fun y5 S KE1=>uA y1 y3 y4 y5 S KE1 KE0 Q):
 Ap Tf (vc Pg (Xu.at_ [1,0,1,0,0,1,0,0,1,1,0,1,0,0]) (KI.drop 2)) 85 (LZ y1 y3 y4 y50) S (Ak 2 (Av (vc Pg (Xu.at_ [1,0,1,0,0,1,0,0,1,1,1]) (KI.drop 2)) (Ak 1 (Av (vc Pg (Xu.at_ [1,0,1,0,0,1,1]) (KI.drop 2)) (BV (Hc MP KE0) (Ak 0 (Av (vc Pg (Xu.at_ [1,1]) (KI.drop 2)) (Ao Pg r45 Q)))))))):=DQ 3 (fun _=>rfl) (fun _ _ _=>by kernel_rfl) h0 hr
def c44:Code:=(Tryz.f44.body).getD .skip
def r44:List ResultVar:=Tryz.f44.results.toList
def L0(y1 y2 y5:AV):List AV:=[y1,y2,y5]
def Tg:List Nat:=[1,2,5]
def Yx:List (List Nat):=[Tg,[]]
def m44(x0 x1:AV)(S:Aa)(Q:Aq):Prop:=
 Az 61 2 x0 S fun a S=>Ap Tg (vc Pg (c44.at_ [1,0,1,0,0]) (Yx.drop 1)) 22 (L0 x1 a (aI 0)) S (Ak 0 (Av (vc Pg (c44.at_ [1,1]) (Yx.drop 1)) (Ao Pg r44 Q)))
theorem oW{x0 x1:AV}{S:Aa}{Q:Aq}(h:m44 x0 x1 S Q):Ad Pg 44 [x0,x1] S Q:=
 Bj (n:=22) Yx Tryz.func44 (by kernel_rfl) (Eq.mpr (by kernel_rfl) h)
def uC(y1 y2 y5:AV)(S:Aa)(KE0:By)(Q:Aq):Prop:=
 AF y1 S fun a S=>bin .lss 0 y5 a S fun c S=>Fi c ((fun S0:Aa=>Lq S0 (AB 2 y2) fun d=>Lq S0 (AS 3 1 y1 y5) fun e=>Lq S0 (Ay e) fun f=>Ld S0 43 [d,f] fun g=>Lq S0 (un .not g) fun h=>Fi h (Q (.ret (.v (.bool false))) S) (bin .add 0 y5 (aI 1) S fun i S=>KE0 22 (L0 y1 y2 i) S)) S) (AF y1 S fun k S=>bin .leq 0 k (aI 2000) S fun l S=>Q (.ret l) S)
theorem ZB{y1 y2:AV}{y50:AV}{S:Aa}{Q:Aq}(I:AV→Aa→Prop)(μ:AV→Aa→Nat)(h0:I y50 S)(hr:BS (fun y5=>L0 y1 y2 y5) 22 I μ fun y5 S KE0=>uC y1 y2 y5 S KE0 Q):
 Ap Tg (vc Pg (c44.at_ [1,0,1,0,0]) (Yx.drop 1)) 22 (L0 y1 y2 y50) S (Ak 0 (Av (vc Pg (c44.at_ [1,1]) (Yx.drop 1)) (Ao Pg r44 Q))):=DQ 2 (fun _=>rfl) (fun _ _ _=>by kernel_rfl) h0 hr
def rB:Code:=(Tryz.f101.body).getD .skip
def AbC:List ResultVar:=Tryz.f101.results.toList
def HO(y1 y3 y4 y12 y13 y14:AV):List AV:=[y1,y3,y4,y12,y13,y14]
def PJ:List Nat:=[1,3,4,12,13,14]
def Rh:List (List Nat):=[PJ,[]]
def AeE(x0:AV)(S:Aa)(Q:Aq):Prop:=
 Az 29 8 x0 S fun a S=>AB 8 a S fun c S=>Ah Pg 94 [c] S Q fun d S=>YG .s S fun e S=>Lf a 7 S fun f S=>AF f S fun g S=>Ap PJ (vc Pg (rB.at_ [1,1,1,0,1,0,0]) (Rh.drop 1)) 78 (HO a d e f g (aI 0)) S (Ak 0 (Av (vc Pg (rB.at_ [1,1,1,1]) (Rh.drop 1)) (Ao Pg AbC Q)))
theorem eJ{x0:AV}{S:Aa}{Q:Aq}(h:AeE x0 S Q):Ad Pg 101 [x0] S Q:=
 Bj (n:=78) Rh Tryz.func101 (by kernel_rfl) (Eq.mpr (by kernel_rfl) h)
def gU(y1 y3 y4 y12 y13 y14:AV)(S:Aa)(KE0:By)(Q:Aq):Prop:=
 bin .lss 0 y14 y13 S fun c S=>Fi c (AS 91 3 y12 y14 S fun d S=>AB 3 d S fun e S=>Az 91 3 (.a yZ) S fun f S=>A8 3 f e S fun g S=>Lf f 2 S fun h S=>Ah Pg 136 [h] S Q fun k S=>un .not k S fun l S=>Fi l (Q (.ret (.v (.bool false))) S) (Lf f 0 S fun m S=>Ah Pg 137 [m] S Q fun n S=>bin .lss 0 n (aI 0) S fun o S=>Fi o (Q (.ret (.v (.bool false))) S) (Lf f 1 S fun p S=>bin .lss 0 p (aI 0) S fun q S=>Fi q (Q (.ret (.v (.bool false))) S) (Lf f 1 S fun r S=>Lf f 0 S fun t S=>Cq .i32 t S fun u S=>UW (.i .i32) (aI 0) false y3 u S fun w S=>bin .geq 0 r w S fun x S=>Fi x (Q (.ret (.v (.bool false))) S) (Lf f 2 S fun y S=>CD [] [] [] S fun z S=>Hf .s y4 y z S fun A S=>bin .eql 0 y14 (aI 0) S fun B S=>Fi B (bin .add 0 y14 (aI 1) S fun C S=>KE0 78 (HO y1 y3 y4 y12 y13 C) S) (Lf y1 7 S fun D S=>bin .sub 0 y14 (aI 1) S fun E S=>AS 91 3 D E S fun F S=>AB 3 F S fun G S=>Az 91 3 (.a yZ) S fun H S=>A8 3 H G S fun I S=>(fun S0:Aa=>Lq S0 (shift H 0) fun J=>Lq S0 (Ay J) fun K=>Ld S0 137 [K] fun L=>Lq S0 (shift f 0) fun M=>Lq S0 (Ay M) fun N=>Ld S0 137 [N] fun O=>Ld S0 139 [L,O] fun P=>Lq S0 (shift H 1) fun R=>Lq S0 (Ay R) fun T=>Lq S0 (shift f 1) fun U=>Lq S0 (Ay U) fun V=>Ld S0 139 [T,V] fun W=>Lq S0 (AU 3 1 2 [aI 0] [(0,P),(1,W)]) fun X=>Ld S0 138 [X] fun Y=>Lq S0 (bin .geq 0 Y (aI 0)) fun Z=>Fi Z (Q (.ret (.v (.bool false))) S) (bin .add 0 y14 (aI 1) S fun a0 S=>KE0 78 (HO y1 y3 y4 y12 y13 a0) S)) S)))))) (Tz y4 S fun a1 S=>Lf y1 7 S fun a2 S=>AF a2 S fun a3 S=>bin .eql 0 a1 a3 S fun a4 S=>Q (.ret a4) S)
theorem WN{y1 y3 y4 y12 y13:AV}{y140:AV}{S:Aa}{Q:Aq}(I:AV→Aa→Prop)(μ:AV→Aa→Nat)(h0:I y140 S)(hr:BS (fun y14=>HO y1 y3 y4 y12 y13 y14) 78 I μ fun y14 S KE0=>gU y1 y3 y4 y12 y13 y14 S KE0 Q):
 Ap PJ (vc Pg (rB.at_ [1,1,1,0,1,0,0]) (Rh.drop 1)) 78 (HO y1 y3 y4 y12 y13 y140) S (Ak 0 (Av (vc Pg (rB.at_ [1,1,1,1]) (Rh.drop 1)) (Ao Pg AbC Q))):=DQ 5 (fun _=>rfl) (fun _ _ _=>by kernel_rfl) h0 hr
def c87:Code:=(Tryz.f87.body).getD .skip
def r87:List ResultVar:=Tryz.f87.results.toList
def LR(y0 y3:AV):List AV:=[y0,y3]
def SL:List Nat:=[0,3]
def Yj:List (List Nat):=[SL,[]]
def m87(x0:AV)(S:Aa)(Q:Aq):Prop:=
 Ap SL (vc Pg (c87.at_ [1,0,1,0,0]) (Yj.drop 1)) 28 (LR x0 (aI 0)) S (Ak 0 (Av (vc Pg (c87.at_ [1,1]) (Yj.drop 1)) (Ao Pg r87 Q)))
theorem nD{x0:AV}{S:Aa}{Q:Aq}(h:m87 x0 S Q):Ad Pg 87 [x0] S Q:=
 Bj (n:=28) Yj Tryz.func87 (by kernel_rfl) (Eq.mpr (by kernel_rfl) h)
def tD(y0 y3:AV)(S:Aa)(KE0:By)(Q:Aq):Prop:=
 FH y0 S fun a S=>bin .lss 0 y3 a S fun c S=>Fi c (Hy y0 y3 S fun d S=>bin .lss 0 d (.v (.int .u8 33)) S fun e S=>Fi e (Q (.ret (.v (.bool false))) S) (Hy y0 y3 S fun f S=>bin .gtr 0 f (.v (.int .u8 126)) S fun g S=>Fi g (Q (.ret (.v (.bool false))) S) (bin .add 0 y3 (aI 1) S fun h S=>KE0 28 (LR y0 h) S))) (FH y0 S fun i S=>bin .gtr 0 i (aI 0) S fun k S=>Fi k (FH y0 S fun l S=>bin .leq 0 l (aI 20) S fun m S=>Q (.ret m) S) (Q (.ret (.v (.bool false))) S))
theorem Zb{y0:AV}{y30:AV}{S:Aa}{Q:Aq}(I:AV→Aa→Prop)(μ:AV→Aa→Nat)(h0:I y30 S)(hr:BS (fun y3=>LR y0 y3) 28 I μ fun y3 S KE0=>tD y0 y3 S KE0 Q):
 Ap SL (vc Pg (c87.at_ [1,0,1,0,0]) (Yj.drop 1)) 28 (LR y0 y30) S (Ak 0 (Av (vc Pg (c87.at_ [1,1]) (Yj.drop 1)) (Ao Pg r87 Q))):=DQ 1 (fun _=>rfl) (fun _ _ _=>by kernel_rfl) h0 hr
def qQ:Code:=(Tryz.f136.body).getD .skip
def Ab1:List ResultVar:=Tryz.f136.results.toList
def JZ(y0 y5 y6:AV):List AV:=[y0,y5,y6]
def Pt:List Nat:=[0,5,6]
def Q5:List (List Nat):=[Pt,[]]
def AdI(x0:AV)(S:Aa)(Q:Aq):Prop:=
 FH x0 S fun a S=>Ap Pt (vc Pg (qQ.at_ [1,0,1,0,0]) (Q5.drop 1)) 27 (JZ x0 a (aI 0)) S (Ak 0 (Av (vc Pg (qQ.at_ [1,1]) (Q5.drop 1)) (Ao Pg Ab1 Q)))
theorem dA{x0:AV}{S:Aa}{Q:Aq}(h:AdI x0 S Q):Ad Pg 136 [x0] S Q:=
 Bj (n:=27) Q5 Tryz.func136 (by kernel_rfl) (Eq.mpr (by kernel_rfl) h)
def fX(y0 y5 y6:AV)(S:Aa)(KE0:By)(Q:Aq):Prop:=
 bin .lss 0 y6 y5 S fun a S=>Fi a (Hy y0 y6 S fun c S=>bin .leq 0 c (.v (.int .u8 32)) S fun d S=>Fi d (Q (.ret (.v (.bool false))) S) (Hy y0 y6 S fun e S=>bin .gtr 0 e (.v (.int .u8 126)) S fun f S=>Fi f (Q (.ret (.v (.bool false))) S) (bin .add 0 y6 (aI 1) S fun g S=>KE0 27 (JZ y0 y5 g) S))) (bin .neq 0 y0 (.v (.string { data:=#[] })) S fun h S=>Fi h (FH y0 S fun i S=>bin .leq 0 i (aI 20) S fun k S=>Q (.ret k) S) (Q (.ret (.v (.bool false))) S))
theorem Ws{y0 y5:AV}{y60:AV}{S:Aa}{Q:Aq}(I:AV→Aa→Prop)(μ:AV→Aa→Nat)(h0:I y60 S)(hr:BS (fun y6=>JZ y0 y5 y6) 27 I μ fun y6 S KE0=>fX y0 y5 y6 S KE0 Q):
 Ap Pt (vc Pg (qQ.at_ [1,0,1,0,0]) (Q5.drop 1)) 27 (JZ y0 y5 y60) S (Ak 0 (Av (vc Pg (qQ.at_ [1,1]) (Q5.drop 1)) (Ao Pg Ab1 Q))):=DQ 2 (fun _=>rfl) (fun _ _ _=>by kernel_rfl) h0 hr
def c89:Code:=(Tryz.f89.body).getD .skip
def r89:List ResultVar:=Tryz.f89.results.toList
def LQ(y0 y3 y4:AV):List AV:=[y0,y3,y4]
def SK:List Nat:=[0,3,4]
def Yi:List (List Nat):=[SK,[]]
def m89(x0:AV)(S:Aa)(Q:Aq):Prop:=
 Ap SK (vc Pg (c89.at_ [1,1,0,1,0,0]) (Yi.drop 1)) 17 (LQ x0 (.v (.string { data:=#[105,108,111,98,99,102] })) (aI 0)) S (Ak 0 (Av (vc Pg (c89.at_ [1,1,1]) (Yi.drop 1)) (Ao Pg r89 Q)))
theorem nB{x0:AV}{S:Aa}{Q:Aq}(h:m89 x0 S Q):Ad Pg 89 [x0] S Q:=
 Bj (n:=17) Yi Tryz.func89 (by kernel_rfl) (Eq.mpr (by kernel_rfl) h)
def tC(y0 y3 y4:AV)(S:Aa)(KE0:By)(Q:Aq):Prop:=
 FH y3 S fun a S=>bin .lss 0 y4 a S fun c S=>Fi c (Hy y3 y4 S fun d S=>bin .eql 0 d y0 S fun e S=>Fi e (Q (.ret y4) S) (bin .add 0 y4 (aI 1) S fun f S=>KE0 17 (LQ y0 y3 f) S)) (Q (.ret (.v (.int .i64 (-1)))) S)
theorem Za{y0 y3:AV}{y40:AV}{S:Aa}{Q:Aq}(I:AV→Aa→Prop)(μ:AV→Aa→Nat)(h0:I y40 S)(hr:BS (fun y4=>LQ y0 y3 y4) 17 I μ fun y4 S KE0=>tC y0 y3 y4 S KE0 Q):
 Ap SK (vc Pg (c89.at_ [1,1,0,1,0,0]) (Yi.drop 1)) 17 (LQ y0 y3 y40) S (Ak 0 (Av (vc Pg (c89.at_ [1,1,1]) (Yi.drop 1)) (Ao Pg r89 Q))):=DQ 2 (fun _=>rfl) (fun _ _ _=>by kernel_rfl) h0 hr
def Xb:Code:=(Tryz.f137.body).getD .skip
def wN:List ResultVar:=Tryz.f137.results.toList
def F6(y0 y5:AV):List AV:=[y0,y5]
def Jt:List Nat:=[0,5]
def MI:List (List Nat):=[Jt,[]]
def AdH(x0:AV)(S:Aa)(Q:Aq):Prop:=
 kE (.v (.string { data:=#[105,108,111,98,99,102] })) S fun a S=>Ap Jt (vc Pg (Xb.at_ [1,0,1,0,0]) (MI.drop 1)) 15 (F6 x0 a) S (Ak 0 (Av (vc Pg (Xb.at_ [1,1]) (MI.drop 1)) (Ao Pg wN Q)))
theorem c8{x0:AV}{S:Aa}{Q:Aq}(h:AdH x0 S Q):Ad Pg 137 [x0] S Q:=
 Bj (n:=15) MI Tryz.func137 (by kernel_rfl) (Eq.mpr (by kernel_rfl) h)
def TW(y0 y5:AV)(S:Aa)(KE0:By)(Q:Aq):Prop:=
 MB true y5 S fun a S=>AZ a 0 S fun c S=>Fi c (AZ a 1 S fun d S=>AZ a 2 S fun e S=>Cq .i32 y0 S fun f S=>bin .eql 0 f e S fun g S=>Fi g (Q (.ret d) S) (KE0 15 (F6 y0 y5) S)) (Q (.ret (.v (.int .i64 (-1)))) S)
theorem Xg(y0 y5:AV)(S:Aa)(KE0:By)(Q:Aq):vc Pg (Xb.at_ [1,0,1,0,0]) (MI.drop 1) (Ls 15 Jt (F6 y0 y5)) S (BV (Hc Jt KE0) (Ak 0 (Av (vc Pg (Xb.at_ [1,1]) (MI.drop 1)) (Ao Pg wN Q))))=TW y0 y5 S KE0 Q:=by kernel_rfl
theorem Wr{y0 y5:AV}{S:Aa}{Q:Aq}(I:Aa→Prop)(μ:Aa→Nat)(h0:I  S)
    (hr:∀(S:Aa),I  S→∀ KE0:By,(∀(S':Aa),I  S'→μ  S'<μ  S→KE0 15 (F6 y0 y5) S')→TW y0 y5 S KE0 Q):
    Ap Jt (vc Pg (Xb.at_ [1,0,1,0,0]) (MI.drop 1)) 15 (F6 y0 y5) S (Ak 0 (Av (vc Pg (Xb.at_ [1,1]) (MI.drop 1)) (Ao Pg wN Q))):=by
 refine⟨fun n e S=>n=15∧e=(F6 y0 y5)∧I  S,fun _ e S=>μ  S,?_,?_⟩
 ·exact⟨_,_,Wk.refl _ _,rfl,rfl,h0⟩
 ·rintro _ e S ⟨rfl,rfl,hI⟩
  exact(Xg _ _ _ _ _).mpr (hr  S hI _ (fun  S' hI' hm=>⟨_,_,Wk.refl _ _,⟨rfl,rfl,hI'⟩,hm⟩))
end
end
end Go.Proofs.YteooinddnfbglaaGreatDoor.G

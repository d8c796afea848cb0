/- Binary -/
import Derived.Test.YtodfhmmjemlmeaaGreatDoorProg
import Derived.KernelRfl
import Derived.Room.Shelf.Join48
import Derived.Shelf.Strings.SplitShaped
import Derived.Shelf.Strings.Cut
import Derived.Shelf.Strconv.ErrVarAll
import Derived.Shelf.Strconv.Itoa3
import Derived.Shelf.Strings.Search3
import Derived.Lib.AppendIntMem
import Derived.Lib.AtoiTie
import Derived.Lib.ItoaMem
import Derived.Test.YtodfhmmjemlmeaaGreatDoorBqT2
set_option linter.unusedVariables false
set_option linter.unusedSimpArgs false
namespace Go.Proofs.YtodfhmmjemlmeaaGreatDoor.G
open Go Go.Ab
noncomputable section
section
set_option maxRecDepth 100000
abbrev Pg : Program := Tryz.prog
theorem dT{p:Prop}[Decidable p]:decide p=true→p:=of_decide_eq_true
theorem dF{p:Prop}[Decidable p]:decide p=false→¬p:=of_decide_eq_false
theorem gSm{α:Type}{l:List α}{i:Nat}{a:α}:l[i]?=some a↔∃ h:i<l.length,l[i]=a:=List.getElem?_eq_some_iff
def c28:Code:=(Tryz.f28.body).getD .skip
def ms28:List (List Nat):=[[]]
def m28(x0:AV)(S:Store)(Q:PoT):Prop:=
 callF Pg 31 [x0] S Q fun c S=>extr c 0 S fun d S=>extr c 1 S fun e S=>boxN 29 8 (.a [.v (.int .i64 0),.nl,.nl,.nl,.nl,.nl,.nl,.nl]) S fun f S=>stN 8 f d S fun g S=>callF Pg 63 [x0] S Q fun h S=>extr h 0 S fun i S=>extr h 1 S fun k S=>boxN 29 8 (.a [.v (.int .i64 0),.nl,.nl,.nl,.nl,.nl,.nl,.nl]) S fun l S=>stN 8 l i S fun m S=>ldN 8 f S fun n S=>ldN 8 l S fun o S=>callF Pg 25 [n,o] S Q fun p S=>onB p fun b=>gd b (bin .eql 0 e k S fun q S=>Q (.ret q) S) (Q (.ret (.v (.bool false))) S)
theorem calls28{x0:AV}{S:Store}{Q:PoT}(h:m28 x0 S Q):ACalls Pg 28 [x0] S Q:=
 calls_of_vc (fn:=Tryz.f28) (c:=c28) (n:=25) Tryz.func28 (by kernel_rfl) (by kernel_rfl) (by kernel_rfl) ms28 (Eq.mpr (by kernel_rfl) h)
def c27:Code:=(Tryz.f27.body).getD .skip
def ms27:List (List Nat):=[[]]
def m27(S:Store)(Q:PoT):Prop:=
 callF Pg 31 [(.v (.string { data:=#[97,105,103,32,51,32,50,32,48,32,48,32,49,10,2,2] }))] S Q fun c S=>extr c 0 S fun d S=>extr c 1 S fun e S=>boxN 29 8 (.a [.v (.int .i64 0),.nl,.nl,.nl,.nl,.nl,.nl,.nl]) S fun f S=>stN 8 f d S fun g S=>ldN 8 f S fun h S=>callF Pg 29 [h] S Q fun i S=>extr i 0 S fun k S=>extr i 1 S fun l S=>callF Pg 31 [(.v (.string { data:=#[97,105,103,32,51,32,50,32,48,32,48,32,49,10,2] }))] S Q fun m S=>extr m 0 S fun n S=>extr m 1 S fun o S=>boxN 29 8 (.a [.v (.int .i64 0),.nl,.nl,.nl,.nl,.nl,.nl,.nl]) S fun p S=>stN 8 p n S fun q S=>callF Pg 31 [(.v (.string { data:=#[97,97,103,32,51,32,50,32,48,32,48,32,49,10,2,2] }))] S Q fun r S=>extr r 0 S fun s S=>extr r 1 S fun t S=>boxN 29 8 (.a [.v (.int .i64 0),.nl,.nl,.nl,.nl,.nl,.nl,.nl]) S fun u S=>stN 8 u s S fun w S=>callF Pg 31 [(.v (.string { data:=#[97,105,103,32,51,32,50,32,48,32,48,32,49,10,7,2] }))] S Q fun x S=>extr x 0 S fun y S=>extr x 1 S fun z S=>boxN 29 8 (.a [.v (.int .i64 0),.nl,.nl,.nl,.nl,.nl,.nl,.nl]) S fun A S=>stN 8 A y S fun B S=>bin .eql 0 e (.v (.int .i64 0)) S fun C S=>onB C fun b=>gd b (shift f 2 S fun D S=>ld1 D S fun E S=>lenS E S fun F S=>bin .eql 0 F (.v (.int .i64 1)) S fun G S=>onB G fun b=>gd b (shift f 2 S fun H S=>ld1 H S fun I S=>ixS 48 2 I (.v (.int .i64 0)) S fun J S=>ldN 2 J S fun K S=>bld [(0,1),(1,1)] [.v (.int .i64 0),.v (.int .i64 0)] [(0,(.v (.int .i64 4))),(1,(.v (.int .i64 2)))] S fun L S=>binP .i64 .eql K L S fun M S=>onB M fun b=>gd b (bin .eql 0 l (.v (.int .i64 0)) S fun N S=>onB N fun b=>gd b (bin .eql 0 k (.v (.string { data:=#[97,105,103,32,51,32,50,32,48,32,48,32,49,32,48,32,48,32,48,32,48,10,2,2] })) S fun O S=>onB O fun b=>gd b (bin .eql 0 o (.v (.int .i64 21)) S fun P S=>onB P fun b=>gd b (bin .eql 0 t (.v (.int .i64 20)) S fun R S=>onB R fun b=>gd b (bin .eql 0 z (.v (.int .i64 22)) S fun T S=>Q (.ret T) S) (Q (.ret (.v (.bool false))) S)) (Q (.ret (.v (.bool false))) S)) (Q (.ret (.v (.bool false))) S)) (Q (.ret (.v (.bool false))) S)) (Q (.ret (.v (.bool false))) S)) (Q (.ret (.v (.bool false))) S)) (Q (.ret (.v (.bool false))) S)
theorem calls27{S:Store}{Q:PoT}(h:m27  S Q):ACalls Pg 27 [] S Q:=
 calls_of_vc (fn:=Tryz.f27) (c:=c27) (n:=68) Tryz.func27 (by kernel_rfl) (by kernel_rfl) (by kernel_rfl) ms27 (Eq.mpr (by kernel_rfl) h)
def c11:Code:=(Tryz.f11.body).getD .skip
def ms11:List (List Nat):=[[]]
def m11(x0:AV)(S:Store)(Q:PoT):Prop:=
 callF Pg 27 [] S Q fun a S=>onB a fun b=>gd b (lenStr x0 S fun c S=>bin .gtr 0 c (.v (.int .i64 600)) S fun d S=>onB d fun b=>gd b (lenStr x0 S fun e S=>bin .leq 0 e (.v (.int .i64 20000)) S fun f S=>onB f fun b=>gd b (Q (.ret (.v (.bool true))) S) (callF Pg 28 [x0] S Q fun g S=>Q (.ret g) S)) (callF Pg 28 [x0] S Q fun h S=>Q (.ret h) S)) (Q (.ret (.v (.bool false))) S)
theorem calls11{x0:AV}{S:Store}{Q:PoT}(h:m11 x0 S Q):ACalls Pg 11 [x0] S Q:=
 calls_of_vc (fn:=Tryz.f11) (c:=c11) (n:=18) Tryz.func11 (by kernel_rfl) (by kernel_rfl) (by kernel_rfl) ms11 (Eq.mpr (by kernel_rfl) h)
def c13:Code:=(Tryz.f13.body).getD .skip
def ms13:List (List Nat):=[[]]
def m13(x0:AV)(S:Store)(Q:PoT):Prop:=
 boxN 29 8 x0 S fun a S=>shift a 2 S fun c S=>ld1 c S fun d S=>lenS d S fun e S=>bin .gtr 0 e (.v (.int .i64 60)) S fun f S=>onB f fun b=>gd b (callF Pg 27 [] S Q fun g S=>Q (.ret g) S) (shift a 1 S fun h S=>ld1 h S fun i S=>lenS i S fun k S=>bin .gtr 0 k (.v (.int .i64 60)) S fun l S=>onB l fun b=>gd b (callF Pg 27 [] S Q fun m S=>Q (.ret m) S) (shift a 7 S fun n S=>ld1 n S fun o S=>lenS o S fun p S=>bin .gtr 0 p (.v (.int .i64 60)) S fun q S=>onB q fun b=>gd b (callF Pg 27 [] S Q fun r S=>Q (.ret r) S) (ldN 8 a S fun s S=>callF Pg 29 [s] S Q fun t S=>extr t 0 S fun u S=>extr t 1 S fun w S=>ldN 8 a S fun x S=>callF Pg 30 [x] S Q fun y S=>extr y 0 S fun z S=>extr y 1 S fun A S=>callF Pg 27 [] S Q fun B S=>onB B fun b=>gd b (bin .eql 0 u z S fun C S=>onB C fun b=>gd b (bin .eql 0 w A S fun D S=>Q (.ret D) S) (Q (.ret (.v (.bool false))) S)) (Q (.ret (.v (.bool false))) S))))
theorem calls13{x0:AV}{S:Store}{Q:PoT}(h:m13 x0 S Q):ACalls Pg 13 [x0] S Q:=
 calls_of_vc (fn:=Tryz.f13) (c:=c13) (n:=45) Tryz.func13 (by kernel_rfl) (by kernel_rfl) (by kernel_rfl) ms13 (Eq.mpr (by kernel_rfl) h)
def c12:Code:=(Tryz.f12.body).getD .skip
def ms12:List (List Nat):=[[]]
def m12(x0:AV)(S:Store)(Q:PoT):Prop:=
 callF Pg 22 [x0] S Q fun c S=>boxN 29 8 (.a [.v (.int .i64 0),.nl,.nl,.nl,.nl,.nl,.nl,.nl]) S fun d S=>stN 8 d c S fun e S=>ldN 8 d S fun f S=>callF Pg 29 [f] S Q fun g S=>extr g 0 S fun h S=>extr g 1 S fun i S=>ldN 8 d S fun k S=>callF Pg 30 [k] S Q fun l S=>extr l 0 S fun m S=>extr l 1 S fun n S=>callF Pg 27 [] S Q fun o S=>onB o fun b=>gd b (bin .eql 0 h m S fun p S=>onB p fun b=>gd b (bin .eql 0 i n S fun q S=>onB q fun b=>gd b (callF Pg 28 [h] S Q fun r S=>Q (.ret r) S) (Q (.ret (.v (.bool false))) S)) (Q (.ret (.v (.bool false))) S)) (Q (.ret (.v (.bool false))) S)
theorem calls12{x0:AV}{S:Store}{Q:PoT}(h:m12 x0 S Q):ACalls Pg 12 [x0] S Q:=
 calls_of_vc (fn:=Tryz.f12) (c:=c12) (n:=35) Tryz.func12 (by kernel_rfl) (by kernel_rfl) (by kernel_rfl) ms12 (Eq.mpr (by kernel_rfl) h)
def c65:Code:=(Tryz.f65.body).getD .skip
def ms65:List (List Nat):=[[]]
def m65(x0:AV)(S:Store)(Q:PoT):Prop:=
 bin .lss 0 x0 (.v (.int .i64 128)) S fun a S=>onB a fun b=>gd b (convI .u8 x0 S fun c S=>bslN 5 1 1 [.v (.int .u8 0)] [(0,c)] S fun d S=>convBS d S fun e S=>Q (.ret e) S) ((fun S0:Store=>∃ f:AV,(bin .rem 0 x0 (.v (.int .i64 128)) S fun g S=>g=f∧S=S0)∧∃ h:AV,(bin .add 0 (.v (.int .i64 128)) f S fun i S=>i=h∧S=S0)∧∃ k:AV,(convI .u8 h S fun l S=>l=k∧S=S0)∧∃ m:AV,(bslN 5 1 1 [.v (.int .u8 0)] [(0,k)] S fun n S=>n=m∧S=S0)∧∃ o:AV,(convBS m S fun p S=>p=o∧S=S0)∧∃ q:AV,(bin .quo 0 x0 (.v (.int .i64 128)) S fun r S=>r=q∧S=S0)∧∃ s:AV,(callF Pg 65 [q] S (fun _ _=>False) fun t S=>t=s∧S=S0)∧∃ u:AV,(bin .add 0 o s S fun w S=>w=u∧S=S0)∧Q (.ret u) S) S)
theorem calls65{x0:AV}{S:Store}{Q:PoT}(h:m65 x0 S Q):ACalls Pg 65 [x0] S Q:=
 calls_of_vc (fn:=Tryz.f65) (c:=c65) (n:=19) Tryz.func65 (by kernel_rfl) (by kernel_rfl) (by kernel_rfl) ms65 (Eq.mpr (by kernel_rfl) h)
def c30:Code:=(Tryz.f30.body).getD .skip
def r30:List ResultVar:=Tryz.f30.results.toList
def env30_0(y1 y4 y5:AV):List AV:=[y1,y4,y5]
def lv30_0:List Nat:=[1,4,5]
def env30_1(y1 y4 y6:AV):List AV:=[y1,y4,y6]
def lv30_1:List Nat:=[1,4,6]
def ms30:List (List Nat):=[lv30_0,lv30_1,[]]
def m30(x0:AV)(S:Store)(Q:PoT):Prop:=
 boxN 29 8 x0 S fun a S=>ldN 8 a S fun c S=>callF Pg 42 [c] S Q fun d S=>un .not d S fun e S=>onB e fun b=>gd b (Q (.ret (.t [(.v (.string { data:=#[] })),.v (.int .i64 1)])) S) (ldN 8 a S fun f S=>callF Pg 43 [f] S Q fun g S=>bin .add 0 (.v (.string { data:=#[97,105,103] })) g S fun h S=>loopV lv30_0 (vc Pg (c30.at_ [1,1,1,0,1,0,0]) (ms30.drop 1)) 90 (env30_0 a h (.v (.int .i64 0))) S (blockK 0 (seqK (vc Pg (c30.at_ [1,1,1,1]) (ms30.drop 1)) (bodyK Pg r30 Q))))
theorem calls30{x0:AV}{S:Store}{Q:PoT}(h:m30 x0 S Q):ACalls Pg 30 [x0] S Q:=
 calls_of_vc (fn:=Tryz.f30) (c:=c30) (n:=90) Tryz.func30 (by kernel_rfl) (by kernel_rfl) (by kernel_rfl) ms30 (Eq.mpr (by kernel_rfl) h)
def b30_0(y1 y4 y5:AV)(S:Store)(KE0:KeT)(Q:PoT):Prop:=
 shift y1 1 S fun a S=>ld1 a S fun c S=>lenS c S fun d S=>bin .lss 0 y5 d S fun e S=>onB e fun b=>gd b (ldN 8 y1 S fun f S=>callF Pg 44 [f,y5] S Q fun g S=>bin .add 0 y4 g S fun h S=>bin .add 0 y5 (.v (.int .i64 1)) S fun i S=>KE0 90 (env30_0 y1 h i) S) ((fun S0:Store=>∃ k:AV,(shift y1 3 S fun l S=>l=k∧S=S0)∧∃ m:AV,(ld1 k S fun n S=>n=m∧S=S0)∧∃ o:AV,(callF Pg 45 [m] S (fun _ _=>False) fun p S=>p=o∧S=S0)∧∃ q:AV,(bin .add 0 y4 o S fun r S=>r=q∧S=S0)∧∃ s:AV,(shift y1 4 S fun t S=>t=s∧S=S0)∧∃ u:AV,(ld1 s S fun w S=>w=u∧S=S0)∧∃ x:AV,(callF Pg 45 [u] S (fun _ _=>False) fun y S=>y=x∧S=S0)∧∃ z:AV,(bin .add 0 q x S fun A S=>A=z∧S=S0)∧∃ B:AV,(shift y1 5 S fun C S=>C=B∧S=S0)∧∃ D:AV,(ld1 B S fun E S=>E=D∧S=S0)∧∃ F:AV,(callF Pg 45 [D] S (fun _ _=>False) fun G S=>G=F∧S=S0)∧∃ H:AV,(bin .add 0 z F S fun I S=>I=H∧S=S0)∧∃ J:AV,(shift y1 6 S fun K S=>K=J∧S=S0)∧∃ L:AV,(ld1 J S fun M S=>M=L∧S=S0)∧∃ N:AV,(callF Pg 45 [L] S (fun _ _=>False) fun O S=>O=N∧S=S0)∧∃ P:AV,(bin .add 0 H N S fun R S=>R=P∧S=S0)∧loopV lv30_1 (vc Pg (c30.at_ [1,1,1,1,1,0,1,0,0]) (ms30.drop 2)) 90 (env30_1 y1 P (.v (.int .i64 0))) S (blockK 2 (seqK (vc Pg (c30.at_ [1,1,1,1,1,1]) (ms30.drop 2)) (bodyK Pg r30 Q)))) S)
theorem b30_0_eq(y1 y4 y5:AV)(S:Store)(KE0:KeT)(Q:PoT):vc Pg (c30.at_ [1,1,1,0,1,0,0]) (ms30.drop 1) (mkE 90 lv30_0 (env30_0 y1 y4 y5)) S (thenK (fgK lv30_0 KE0) (blockK 0 (seqK (vc Pg (c30.at_ [1,1,1,1]) (ms30.drop 1)) (bodyK Pg r30 Q))))=b30_0 y1 y4 y5 S KE0 Q:=by kernel_rfl
theorem loop30_0{y1:AV}{y40 y50:AV}{S:Store}{Q:PoT}(I:AV→AV→Store→Prop)(μ:AV→AV→Store→Nat)(h0:I y40 y50 S)
    (hr:∀(y4 y5:AV) (S:Store),I y4 y5 S→∀ KE0:KeT,(∀(y4' y5':AV) (S':Store),I y4' y5' S'→μ y4' y5' S'<μ y4 y5 S→KE0 90 (env30_0 y1 y4' y5') S')→b30_0 y1 y4 y5 S KE0 Q):
    loopV lv30_0 (vc Pg (c30.at_ [1,1,1,0,1,0,0]) (ms30.drop 1)) 90 (env30_0 y1 y40 y50) S (blockK 0 (seqK (vc Pg (c30.at_ [1,1,1,1]) (ms30.drop 1)) (bodyK Pg r30 Q))):=by
 refine⟨fun n e S=>n=90∧∃ y4 y5:AV,e=(env30_0 y1 y4 y5)∧I y4 y5 S,fun _ e S=>μ (e.getD 1 .j) (e.getD 2 .j) S,?_,?_⟩
 ·exact⟨_,_,Wk.refl _ _,rfl,_,_,rfl,h0⟩
 ·rintro _ e S ⟨rfl,y4,y5,rfl,hI⟩
  exact(b30_0_eq _ _ _ _ _ _).mpr (hr y4 y5 S hI _ (fun y4' y5' S' hI' hm=>⟨_,_,Wk.refl _ _,⟨rfl,_,_,rfl,hI'⟩,hm⟩))
def b30_1(y1 y4 y6:AV)(S:Store)(KE1:KeT)(Q:PoT):Prop:=
 shift y1 2 S fun a S=>ld1 a S fun c S=>lenS c S fun d S=>bin .lss 0 y6 d S fun e S=>onB e fun b=>gd b (shift y1 0 S fun f S=>ld1 f S fun g S=>shift y1 1 S fun h S=>ld1 h S fun i S=>lenS i S fun k S=>bin .add 0 g k S fun l S=>bin .add 0 l (.v (.int .i64 1)) S fun m S=>bin .add 0 m y6 S fun n S=>bin .mul 0 (.v (.int .i64 2)) n S fun o S=>(fun S0:Store=>∃ p:AV,(shift y1 2 S fun q S=>q=p∧S=S0)∧∃ r:AV,(ld1 p S fun s S=>s=r∧S=S0)∧∃ u:AV,(ixS 48 2 r y6 S fun w S=>w=u∧S=S0)∧∃ x:AV,(ixA 2 1 u (.v (.int .i64 0)) S fun y S=>y=x∧S=S0)∧∃ z:AV,(ld1 x S fun A S=>A=z∧S=S0)∧∃ B:AV,(bin .sub 0 o z S fun C S=>C=B∧S=S0)∧∃ D:AV,(callF Pg 65 [B] S (fun _ _=>False) fun E S=>E=D∧S=S0)∧∃ F:AV,(bin .add 0 y4 D S fun G S=>G=F∧S=S0)∧∃ H:AV,(shift y1 2 S fun I S=>I=H∧S=S0)∧∃ J:AV,(ld1 H S fun K S=>K=J∧S=S0)∧∃ L:AV,(ixS 48 2 J y6 S fun M S=>M=L∧S=S0)∧∃ N:AV,(ixA 2 1 L (.v (.int .i64 0)) S fun O S=>O=N∧S=S0)∧∃ P:AV,(ld1 N S fun R S=>R=P∧S=S0)∧∃ T:AV,(shift y1 2 S fun U S=>U=T∧S=S0)∧∃ V:AV,(ld1 T S fun W S=>W=V∧S=S0)∧∃ X:AV,(ixS 48 2 V y6 S fun Y S=>Y=X∧S=S0)∧∃ Z:AV,(ixA 2 1 X (.v (.int .i64 1)) S fun a0 S=>a0=Z∧S=S0)∧∃ a1:AV,(ld1 Z S fun a2 S=>a2=a1∧S=S0)∧∃ a3:AV,(bin .sub 0 P a1 S fun a4 S=>a4=a3∧S=S0)∧∃ a5:AV,(callF Pg 65 [a3] S (fun _ _=>False) fun a6 S=>a6=a5∧S=S0)∧∃ a7:AV,(bin .add 0 F a5 S fun a8 S=>a8=a7∧S=S0)∧bin .add 0 y6 (.v (.int .i64 1)) S fun a9 S=>KE1 90 (env30_1 y1 a7 a9) S) S) (ldN 8 y1 S fun b0 S=>callF Pg 46 [b0] S Q fun b1 S=>bin .add 0 y4 b1 S fun b2 S=>Q (.ret (.t [b2,.v (.int .i64 0)])) S)
theorem b30_1_eq(y1 y4 y6:AV)(S:Store)(KE1:KeT)(Q:PoT):vc Pg (c30.at_ [1,1,1,1,1,0,1,0,0]) (ms30.drop 2) (mkE 90 lv30_1 (env30_1 y1 y4 y6)) S (thenK (fgK lv30_1 KE1) (blockK 2 (seqK (vc Pg (c30.at_ [1,1,1,1,1,1]) (ms30.drop 2)) (bodyK Pg r30 Q))))=b30_1 y1 y4 y6 S KE1 Q:=by kernel_rfl
theorem loop30_1{y1:AV}{y40 y60:AV}{S:Store}{Q:PoT}(I:AV→AV→Store→Prop)(μ:AV→AV→Store→Nat)(h0:I y40 y60 S)
    (hr:∀(y4 y6:AV) (S:Store),I y4 y6 S→∀ KE1:KeT,(∀(y4' y6':AV) (S':Store),I y4' y6' S'→μ y4' y6' S'<μ y4 y6 S→KE1 90 (env30_1 y1 y4' y6') S')→b30_1 y1 y4 y6 S KE1 Q):
    loopV lv30_1 (vc Pg (c30.at_ [1,1,1,1,1,0,1,0,0]) (ms30.drop 2)) 90 (env30_1 y1 y40 y60) S (blockK 2 (seqK (vc Pg (c30.at_ [1,1,1,1,1,1]) (ms30.drop 2)) (bodyK Pg r30 Q))):=by
 refine⟨fun n e S=>n=90∧∃ y4 y6:AV,e=(env30_1 y1 y4 y6)∧I y4 y6 S,fun _ e S=>μ (e.getD 1 .j) (e.getD 2 .j) S,?_,?_⟩
 ·exact⟨_,_,Wk.refl _ _,rfl,_,_,rfl,h0⟩
 ·rintro _ e S ⟨rfl,y4,y6,rfl,hI⟩
  exact(b30_1_eq _ _ _ _ _ _).mpr (hr y4 y6 S hI _ (fun y4' y6' S' hI' hm=>⟨_,_,Wk.refl _ _,⟨rfl,_,_,rfl,hI'⟩,hm⟩))
def c99:Code:=(Tryz.f99.body).getD .skip
def ms99:List (List Nat):=[[112]]
def m99(x0 x1:AV)(S:Store)(Q:PoT):Prop:=
 callF Pg 112 [x0] S Q fun a S=>nilChk x0 S fun c S=>shift c 1 S fun d S=>ld1 d S fun e S=>bslN 5 1 1 [.v (.int .u8 0)] [(0,x1)] S fun f S=>appS 5 1 1 e f S fun g S=>nilChk x0 S fun h S=>shift h 1 S fun i S=>stN 1 i g S fun k S=>Q (.ret (.v .nilIface)) S
theorem calls99{x0 x1:AV}{S:Store}{Q:PoT}(h:m99 x0 x1 S Q):ACalls Pg 99 [x0,x1] S Q:=
 calls_of_vc (fn:=Tryz.f99) (c:=c99) (n:=17) Tryz.func99 (by kernel_rfl) (by kernel_rfl) (by kernel_rfl) ms99 (Eq.mpr (by kernel_rfl) h)
def c64:Code:=(Tryz.f64.body).getD .skip
def r64:List ResultVar:=Tryz.f64.results.toList
def env64_0(y0 y1:AV):List AV:=[y0,y1]
def lv64_0:List Nat:=[0,1]
def ms64:List (List Nat):=[lv64_0,[99]]
def m64(x0 x1:AV)(S:Store)(Q:PoT):Prop:=
 loopV lv64_0 (vc Pg (c64.at_ [0,0,0]) (ms64.drop 1)) 23 (env64_0 x0 x1) S (blockK 0 (seqK (vc Pg (c64.at_ [1]) (ms64.drop 1)) (bodyK Pg r64 Q)))
theorem calls64{x0 x1:AV}{S:Store}{Q:PoT}(h:m64 x0 x1 S Q):ACalls Pg 64 [x0,x1] S Q:=
 calls_of_vc (fn:=Tryz.f64) (c:=c64) (n:=23) Tryz.func64 (by kernel_rfl) (by kernel_rfl) (by kernel_rfl) ms64 (Eq.mpr (by kernel_rfl) h)
def b64_0(y0 y1:AV)(S:Store)(KE0:KeT)(Q:PoT):Prop:=
 bin .geq 0 y1 (.v (.int .i64 128)) S fun a S=>onB a fun b=>gd b (nilChk y0 S fun c S=>shift c 0 S fun d S=>shift d 0 S fun e S=>convI .u8 y1 S fun f S=>bin .or 0 f (.v (.int .u8 128)) S fun g S=>callF Pg 99 [e,g] S Q fun h S=>bin .shr 0 y1 (.v (.int .u64 7)) S fun i S=>KE0 23 (env64_0 y0 i) S) (nilChk y0 S fun k S=>shift k 0 S fun l S=>shift l 0 S fun m S=>convI .u8 y1 S fun n S=>callF Pg 99 [m,n] S Q fun o S=>Q (.ret (.t [])) S)
theorem b64_0_eq(y0 y1:AV)(S:Store)(KE0:KeT)(Q:PoT):vc Pg (c64.at_ [0,0,0]) (ms64.drop 1) (mkE 23 lv64_0 (env64_0 y0 y1)) S (thenK (fgK lv64_0 KE0) (blockK 0 (seqK (vc Pg (c64.at_ [1]) (ms64.drop 1)) (bodyK Pg r64 Q))))=b64_0 y0 y1 S KE0 Q:=by kernel_rfl
theorem loop64_0{y0:AV}{y10:AV}{S:Store}{Q:PoT}(I:AV→Store→Prop)(μ:AV→Store→Nat)(h0:I y10 S)
    (hr:∀(y1:AV) (S:Store),I y1 S→∀ KE0:KeT,(∀(y1':AV) (S':Store),I y1' S'→μ y1' S'<μ y1 S→KE0 23 (env64_0 y0 y1') S')→b64_0 y0 y1 S KE0 Q):
    loopV lv64_0 (vc Pg (c64.at_ [0,0,0]) (ms64.drop 1)) 23 (env64_0 y0 y10) S (blockK 0 (seqK (vc Pg (c64.at_ [1]) (ms64.drop 1)) (bodyK Pg r64 Q))):=by
 refine⟨fun n e S=>n=23∧∃ y1:AV,e=(env64_0 y0 y1)∧I y1 S,fun _ e S=>μ (e.getD 1 .j) S,?_,?_⟩
 ·exact⟨_,_,Wk.refl _ _,rfl,_,rfl,h0⟩
 ·rintro _ e S ⟨rfl,y1,rfl,hI⟩
  exact(b64_0_eq _ _ _ _ _).mpr (hr y1 S hI _ (fun y1' S' hI' hm=>⟨_,_,Wk.refl _ _,⟨rfl,_,rfl,hI'⟩,hm⟩))
def c29:Code:=(Tryz.f29.body).getD .skip
def r29:List ResultVar:=Tryz.f29.results.toList
def env29_0(y1 y4 y21 y22:AV):List AV:=[y1,y4,y21,y22]
def lv29_0:List Nat:=[1,4,21,22]
def env29_1(y1 y4 y6 y45 y46 y47:AV):List AV:=[y1,y4,y6,y45,y46,y47]
def lv29_1:List Nat:=[1,4,6,45,46,47]
def ms29:List (List Nat):=[lv29_0,lv29_1,[34,37,39,40,41,64]]
def m29(x0:AV)(S:Store)(Q:PoT):Prop:=
 boxN 29 8 x0 S fun a S=>ldN 8 a S fun c S=>callF Pg 33 [c] S Q fun d S=>un .not d S fun e S=>onB e fun b=>gd b (Q (.ret (.t [(.v (.string { data:=#[] })),.v (.int .i64 1)])) S) (bld [(0,2)] [.v (.pointer none),.nl] [] S fun f S=>boxN 93 2 f S fun g S=>∃ h:AV,(∀ T:Store,Keep S T→nilChk g T fun i S=>i=h∧S=T)∧∃ k:AV,(∀ T:Store,Keep S T→shift h 0 T fun l S=>l=k∧S=T)∧∃ m:AV,(∀ T:Store,Keep S T→ldN 8 a T fun n S=>n=m∧S=T)∧callF Pg 34 [k,(.v (.string { data:=#[97,105,103] })),m] S Q fun o S=>shift a 1 S fun p S=>ld1 p S fun q S=>lenS q S fun r S=>loopV lv29_0 (vc Pg (c29.at_ [1,1,1,1,0,1,0,0]) (ms29.drop 1)) 77 (env29_0 a g r (.v (.int .i64 0))) S (blockK 0 (seqK (vc Pg (c29.at_ [1,1,1,1,1]) (ms29.drop 1)) (bodyK Pg r29 Q))))
theorem calls29{x0:AV}{S:Store}{Q:PoT}(h:m29 x0 S Q):ACalls Pg 29 [x0] S Q:=
 calls_of_vc (fn:=Tryz.f29) (c:=c29) (n:=77) Tryz.func29 (by kernel_rfl) (by kernel_rfl) (by kernel_rfl) ms29 (Eq.mpr (by kernel_rfl) h)
def b29_0(y1 y4 y21 y22:AV)(S:Store)(KE0:KeT)(Q:PoT):Prop:=
 bin .lss 0 y22 y21 S fun a S=>onB a fun b=>gd b (∃ c:AV,(∀ T:Store,Keep S T→nilChk y4 T fun d S=>d=c∧S=T)∧∃ e:AV,(∀ T:Store,Keep S T→shift c 0 T fun f S=>f=e∧S=T)∧∃ g:AV,(∀ T:Store,Keep S T→ldN 8 y1 T fun h S=>h=g∧S=T)∧callF Pg 37 [e,g,y22,.nl] S Q fun i S=>bin .add 0 y22 (.v (.int .i64 1)) S fun k S=>KE0 77 (env29_0 y1 y4 y21 k) S) (∃ l:AV,(∀ T:Store,Keep S T→nilChk y4 T fun m S=>m=l∧S=T)∧∃ n:AV,(∀ T:Store,Keep S T→shift l 0 T fun o S=>o=n∧S=T)∧∃ p:AV,(∀ T:Store,Keep S T→ldN 8 y1 T fun q S=>q=p∧S=T)∧callF Pg 39 [n,p] S Q fun r S=>shift y1 0 S fun s S=>ld1 s S fun t S=>shift y1 1 S fun u S=>ld1 u S fun w S=>lenS w S fun x S=>bin .add 0 t x S fun y S=>bin .mul 0 (.v (.int .i64 2)) y S fun z S=>shift y1 2 S fun A S=>ld1 A S fun B S=>lenS B S fun C S=>loopV lv29_1 (vc Pg (c29.at_ [1,1,1,1,1,1,1,0,1,0,0]) (ms29.drop 2)) 77 (env29_1 y1 y4 z B C (.v (.int .i64 0))) S (blockK 2 (seqK (vc Pg (c29.at_ [1,1,1,1,1,1,1,1]) (ms29.drop 2)) (bodyK Pg r29 Q))))
theorem b29_0_eq(y1 y4 y21 y22:AV)(S:Store)(KE0:KeT)(Q:PoT):vc Pg (c29.at_ [1,1,1,1,0,1,0,0]) (ms29.drop 1) (mkE 77 lv29_0 (env29_0 y1 y4 y21 y22)) S (thenK (fgK lv29_0 KE0) (blockK 0 (seqK (vc Pg (c29.at_ [1,1,1,1,1]) (ms29.drop 1)) (bodyK Pg r29 Q))))=b29_0 y1 y4 y21 y22 S KE0 Q:=by kernel_rfl
theorem loop29_0{y1 y4 y21:AV}{y220:AV}{S:Store}{Q:PoT}(I:AV→Store→Prop)(μ:AV→Store→Nat)(h0:I y220 S)
    (hr:∀(y22:AV) (S:Store),I y22 S→∀ KE0:KeT,(∀(y22':AV) (S':Store),I y22' S'→μ y22' S'<μ y22 S→KE0 77 (env29_0 y1 y4 y21 y22') S')→b29_0 y1 y4 y21 y22 S KE0 Q):
    loopV lv29_0 (vc Pg (c29.at_ [1,1,1,1,0,1,0,0]) (ms29.drop 1)) 77 (env29_0 y1 y4 y21 y220) S (blockK 0 (seqK (vc Pg (c29.at_ [1,1,1,1,1]) (ms29.drop 1)) (bodyK Pg r29 Q))):=by
 refine⟨fun n e S=>n=77∧∃ y22:AV,e=(env29_0 y1 y4 y21 y22)∧I y22 S,fun _ e S=>μ (e.getD 3 .j) S,?_,?_⟩
 ·exact⟨_,_,Wk.refl _ _,rfl,_,rfl,h0⟩
 ·rintro _ e S ⟨rfl,y22,rfl,hI⟩
  exact(b29_0_eq _ _ _ _ _ _ _).mpr (hr y22 S hI _ (fun y22' S' hI' hm=>⟨_,_,Wk.refl _ _,⟨rfl,_,rfl,hI'⟩,hm⟩))
def b29_1(y1 y4 y6 y45 y46 y47:AV)(S:Store)(KE1:KeT)(Q:PoT):Prop:=
 bin .lss 0 y47 y46 S fun c S=>onB c fun b=>gd b (ixS 48 2 y45 y47 S fun d S=>ldN 2 d S fun e S=>boxN 48 2 (.a [.v (.int .i64 0),.v (.int .i64 0)]) S fun f S=>stN 2 f e S fun g S=>bin .add 0 y6 (.v (.int .i64 2)) S fun h S=>ixA 2 1 f (.v (.int .i64 0)) S fun i S=>ld1 i S fun k S=>bin .sub 0 h k S fun l S=>callF Pg 64 [y4,l] S Q fun m S=>ixA 2 1 f (.v (.int .i64 0)) S fun n S=>ld1 n S fun o S=>ixA 2 1 f (.v (.int .i64 1)) S fun p S=>ld1 p S fun q S=>bin .sub 0 o q S fun r S=>callF Pg 64 [y4,r] S Q fun s S=>bin .add 0 y47 (.v (.int .i64 1)) S fun u S=>KE1 77 (env29_1 y1 y4 h y45 y46 u) S) (∃ w:AV,(∀ T:Store,Keep S T→nilChk y4 T fun x S=>x=w∧S=T)∧∃ y:AV,(∀ T:Store,Keep S T→shift w 0 T fun z S=>z=y∧S=T)∧∃ A:AV,(∀ T:Store,Keep S T→ldN 8 y1 T fun B S=>B=A∧S=T)∧callF Pg 40 [y,A] S Q fun C S=>nilChk y4 S fun D S=>shift D 0 S fun E S=>shift E 0 S fun F S=>callF Pg 41 [F] S Q fun G S=>Q (.ret (.t [G,.v (.int .i64 0)])) S)
theorem b29_1_eq(y1 y4 y6 y45 y46 y47:AV)(S:Store)(KE1:KeT)(Q:PoT):vc Pg (c29.at_ [1,1,1,1,1,1,1,0,1,0,0]) (ms29.drop 2) (mkE 77 lv29_1 (env29_1 y1 y4 y6 y45 y46 y47)) S (thenK (fgK lv29_1 KE1) (blockK 2 (seqK (vc Pg (c29.at_ [1,1,1,1,1,1,1,1]) (ms29.drop 2)) (bodyK Pg r29 Q))))=b29_1 y1 y4 y6 y45 y46 y47 S KE1 Q:=by kernel_rfl
theorem loop29_1{y1 y4 y45 y46:AV}{y60 y470:AV}{S:Store}{Q:PoT}(I:AV→AV→Store→Prop)(μ:AV→AV→Store→Nat)(h0:I y60 y470 S)
    (hr:∀(y6 y47:AV) (S:Store),I y6 y47 S→∀ KE1:KeT,(∀(y6' y47':AV) (S':Store),I y6' y47' S'→μ y6' y47' S'<μ y6 y47 S→KE1 77 (env29_1 y1 y4 y6' y45 y46 y47') S')→b29_1 y1 y4 y6 y45 y46 y47 S KE1 Q):
    loopV lv29_1 (vc Pg (c29.at_ [1,1,1,1,1,1,1,0,1,0,0]) (ms29.drop 2)) 77 (env29_1 y1 y4 y60 y45 y46 y470) S (blockK 2 (seqK (vc Pg (c29.at_ [1,1,1,1,1,1,1,1]) (ms29.drop 2)) (bodyK Pg r29 Q))):=by
 refine⟨fun n e S=>n=77∧∃ y6 y47:AV,e=(env29_1 y1 y4 y6 y45 y46 y47)∧I y6 y47 S,fun _ e S=>μ (e.getD 2 .j) (e.getD 5 .j) S,?_,?_⟩
 ·exact⟨_,_,Wk.refl _ _,rfl,_,_,rfl,h0⟩
 ·rintro _ e S ⟨rfl,y6,y47,rfl,hI⟩
  exact(b29_1_eq _ _ _ _ _ _ _ _ _).mpr (hr y6 y47 S hI _ (fun y6' y47' S' hI' hm=>⟨_,_,Wk.refl _ _,⟨rfl,_,_,rfl,hI'⟩,hm⟩))
def c24:Code:=(Tryz.f24.body).getD .skip
def ms24:List (List Nat):=[[]]
def m24(x0:AV)(S:Store)(Q:PoT):Prop:=
 boxN 29 8 (.a [.v (.int .i64 0),.nl,.nl,.nl,.nl,.nl,.nl,.nl]) S fun c S=>callF Pg 50 [x0,(.f (.func 51) [] [])] S Q fun d S=>extr d 0 S fun e S=>extr d 1 S fun g S=>stN 8 c e S fun h S=>ldN 8 c S fun i _=>Q (.ret (.t [i,g])) S
theorem calls24{x0:AV}{S:Store}{Q:PoT}(h:m24 x0 S Q):ACalls Pg 24 [x0] S Q:=
 calls_of_vc (fn:=Tryz.f24) (c:=c24) (n:=8) Tryz.func24 (by kernel_rfl) (by kernel_rfl) (by kernel_rfl) ms24 (Eq.mpr (by kernel_rfl) h)
def c59:Code:=(Tryz.f59.body).getD .skip
def r59:List ResultVar:=Tryz.f59.results.toList
def env59_0(y0:AV):List AV:=[y0]
def lv59_0:List Nat:=[0]
def ms59:List (List Nat):=[lv59_0,[53,94]]
def m59(x0:AV)(S:Store)(Q:PoT):Prop:=
 loopV lv59_0 (vc Pg (c59.at_ [0,0]) (ms59.drop 1)) 58 (env59_0 x0) S (blockK 0 (bodyK Pg r59 Q))
theorem calls59{x0:AV}{S:Store}{Q:PoT}(h:m59 x0 S Q):ACalls Pg 59 [x0] S Q:=
 calls_of_vc (fn:=Tryz.f59) (c:=c59) (n:=58) Tryz.func59 (by kernel_rfl) (by kernel_rfl) (by kernel_rfl) ms59 (Eq.mpr (by kernel_rfl) h)
def b59_0(y0:AV)(S:Store)(KE0:KeT)(Q:PoT):Prop:=
 nilChk y0 S fun a S=>shift a 0 S fun c S=>ld1 c S fun d S=>bin .neq 0 d (.v (.string { data:=#[] })) S fun e S=>onB e fun b=>gd b (callF Pg 94 [y0,.v (.int .i64 21)] S Q fun f S=>bin .eql 0 f (.v (.string { data:=#[99] })) S fun g S=>onB g fun b=>gd b (Q (.ret (.t [])) S) (callF Pg 96 [f,(.v (.string { data:=#[32] }))] S Q fun h S=>extr h 0 S fun i S=>extr h 1 S fun k S=>extr h 2 S fun l S=>onB l fun b=>gd b (lenStr i S fun m S=>bin .gtr 0 m (.v (.int .i64 1)) S fun n S=>onB n fun b=>gd b (callF Pg 97 [k,(.v (.string { data:=#[32] }))] S Q fun o S=>un .not o S fun p S=>callF Pg 53 [y0,p] S Q fun q S=>(none:Option AV)=none∧slcStr i (some (.v (.int .i64 1))) none S fun r S=>callF Pg 95 [r] S Q fun s S=>bin .geq 0 s (.v (.int .i64 0)) S fun u S=>callF Pg 53 [y0,u] S Q fun w S=>∃ x:AV,(∀ T:Store,Keep S T→nilChk y0 T fun y S=>y=x∧S=T)∧∃ z:AV,(∀ T:Store,Keep S T→shift x 10 T fun A S=>A=z∧S=T)∧∃ B:AV,(∀ T:Store,Keep S T→shift z 7 T fun C S=>C=B∧S=T)∧∃ D:AV,(∀ T:Store,Keep S T→ld1 B T fun E S=>E=D∧S=T)∧∃ F:AV,(∀ T:Store,Keep S T→ixStr i (.v (.int .i64 0)) T fun G S=>G=F∧S=T)∧∃ H:AV,(∀ T:Store,Keep S T→bld [(0,1),(1,1),(2,1)] [.v (.int .u8 0),.v (.int .i64 0),.v (.string ByteArray.empty)] [(0,F),(1,s),(2,k)] T fun I S=>I=H∧S=T)∧∃ J:AV,(∀ T:Store,Keep S T→bslN 75 3 1 [.v (.int .u8 0),.v (.int .i64 0),.v (.string ByteArray.empty)] [(0,H)] T fun K S=>K=J∧S=T)∧appS 75 3 32 D J S fun L S=>∃ M:AV,(∀ T:Store,Keep S T→nilChk y0 T fun N S=>N=M∧S=T)∧∃ O:AV,(∀ T:Store,Keep S T→shift M 10 T fun P S=>P=O∧S=T)∧∃ R:AV,(∀ T:Store,Keep S T→shift O 7 T fun U S=>U=R∧S=T)∧stN 1 R L S fun V S=>KE0 58 (env59_0 y0) S) (callF Pg 53 [y0,.v (.bool false)] S Q fun W S=>(none:Option AV)=none∧slcStr i (some (.v (.int .i64 1))) none S fun X S=>callF Pg 95 [X] S Q fun Y S=>bin .geq 0 Y (.v (.int .i64 0)) S fun Z S=>callF Pg 53 [y0,Z] S Q fun a0 S=>∃ a1:AV,(∀ T:Store,Keep S T→nilChk y0 T fun a2 S=>a2=a1∧S=T)∧∃ a3:AV,(∀ T:Store,Keep S T→shift a1 10 T fun a4 S=>a4=a3∧S=T)∧∃ a5:AV,(∀ T:Store,Keep S T→shift a3 7 T fun a6 S=>a6=a5∧S=T)∧∃ a7:AV,(∀ T:Store,Keep S T→ld1 a5 T fun a8 S=>a8=a7∧S=T)∧∃ a9:AV,(∀ T:Store,Keep S T→ixStr i (.v (.int .i64 0)) T fun b0 S=>b0=a9∧S=T)∧∃ b1:AV,(∀ T:Store,Keep S T→bld [(0,1),(1,1),(2,1)] [.v (.int .u8 0),.v (.int .i64 0),.v (.string ByteArray.empty)] [(0,a9),(1,Y),(2,k)] T fun b2 S=>b2=b1∧S=T)∧∃ b3:AV,(∀ T:Store,Keep S T→bslN 75 3 1 [.v (.int .u8 0),.v (.int .i64 0),.v (.string ByteArray.empty)] [(0,b1)] T fun b4 S=>b4=b3∧S=T)∧appS 75 3 32 a7 b3 S fun b6 S=>∃ b7:AV,(∀ T:Store,Keep S T→nilChk y0 T fun b9 S=>b9=b7∧S=T)∧∃ c0:AV,(∀ T:Store,Keep S T→shift b7 10 T fun c1 S=>c1=c0∧S=T)∧∃ c2:AV,(∀ T:Store,Keep S T→shift c0 7 T fun c3 S=>c3=c2∧S=T)∧stN 1 c2 b6 S fun c4 S=>KE0 58 (env59_0 y0) S)) (callF Pg 53 [y0,.v (.bool false)] S Q fun c5 S=>(none:Option AV)=none∧slcStr i (some (.v (.int .i64 1))) none S fun c6 S=>callF Pg 95 [c6] S Q fun c7 S=>bin .geq 0 c7 (.v (.int .i64 0)) S fun c8 S=>callF Pg 53 [y0,c8] S Q fun c9 S=>∃ d0:AV,(∀ T:Store,Keep S T→nilChk y0 T fun d1 S=>d1=d0∧S=T)∧∃ d2:AV,(∀ T:Store,Keep S T→shift d0 10 T fun d3 S=>d3=d2∧S=T)∧∃ d4:AV,(∀ T:Store,Keep S T→shift d2 7 T fun d5 S=>d5=d4∧S=T)∧∃ d6:AV,(∀ T:Store,Keep S T→ld1 d4 T fun d7 S=>d7=d6∧S=T)∧∃ d8:AV,(∀ T:Store,Keep S T→ixStr i (.v (.int .i64 0)) T fun d9 S=>d9=d8∧S=T)∧∃ e0:AV,(∀ T:Store,Keep S T→bld [(0,1),(1,1),(2,1)] [.v (.int .u8 0),.v (.int .i64 0),.v (.string ByteArray.empty)] [(0,d8),(1,c7),(2,k)] T fun e1 S=>e1=e0∧S=T)∧∃ e2:AV,(∀ T:Store,Keep S T→bslN 75 3 1 [.v (.int .u8 0),.v (.int .i64 0),.v (.string ByteArray.empty)] [(0,e0)] T fun e3 S=>e3=e2∧S=T)∧appS 75 3 32 d6 e2 S fun e4 S=>∃ e5:AV,(∀ T:Store,Keep S T→nilChk y0 T fun e6 S=>e6=e5∧S=T)∧∃ e7:AV,(∀ T:Store,Keep S T→shift e5 10 T fun e8 S=>e8=e7∧S=T)∧∃ e9:AV,(∀ T:Store,Keep S T→shift e7 7 T fun f0 S=>f0=e9∧S=T)∧stN 1 e9 e4 S fun f1 S=>KE0 58 (env59_0 y0) S))) (Q (.ret (.t [])) S)
theorem b59_0_eq(y0:AV)(S:Store)(KE0:KeT)(Q:PoT):vc Pg (c59.at_ [0,0]) (ms59.drop 1) (mkE 58 lv59_0 (env59_0 y0)) S (thenK (fgK lv59_0 KE0) (blockK 0 (bodyK Pg r59 Q)))=b59_0 y0 S KE0 Q:=by kernel_rfl
theorem loop59_0{y0:AV}{S:Store}{Q:PoT}(I:Store→Prop)(μ:Store→Nat)(h0:I  S)
    (hr:∀(S:Store),I  S→∀ KE0:KeT,(∀(S':Store),I  S'→μ  S'<μ  S→KE0 58 (env59_0 y0) S')→b59_0 y0 S KE0 Q):
    loopV lv59_0 (vc Pg (c59.at_ [0,0]) (ms59.drop 1)) 58 (env59_0 y0) S (blockK 0 (bodyK Pg r59 Q)):=by
 refine⟨fun n e S=>n=58∧e=(env59_0 y0)∧I  S,fun _ e S=>μ  S,?_,?_⟩
 ·exact⟨_,_,Wk.refl _ _,rfl,rfl,h0⟩
 ·rintro _ e S ⟨rfl,rfl,hI⟩
  exact(b59_0_eq _ _ _ _).mpr (hr  S hI _ (fun  S' hI' hm=>⟨_,_,Wk.refl _ _,⟨rfl,rfl,hI'⟩,hm⟩))
def c51:Code:=(Tryz.f51.body).getD .skip
def r51:List ResultVar:=Tryz.f51.results.toList
def env51_0(y0 y15 y16:AV):List AV:=[y0,y15,y16]
def lv51_0:List Nat:=[0,15,16]
def env51_1(y0 y4 y35 y36:AV):List AV:=[y0,y4,y35,y36]
def lv51_1:List Nat:=[0,4,35,36]
def env51_2(y0 y4 y70 y71:AV):List AV:=[y0,y4,y70,y71]
def lv51_2:List Nat:=[0,4,70,71]
def ms51:List (List Nat):=[lv51_0,lv51_1,lv51_2,[53,54,52,56,57,59]]
def m51(x0:AV)(S:Store)(Q:PoT):Prop:=
 callF Pg 52 [x0,(.v (.string { data:=#[97,97,103] }))] S Q fun a S=>nilChk x0 S fun c S=>shift c 1 S fun d S=>ixA 9 1 d (.v (.int .i64 1)) S fun e S=>ld1 e S fun f S=>loopV lv51_0 (vc Pg (c51.at_ [1,0,1,0,0]) (ms51.drop 1)) 107 (env51_0 x0 f (.v (.int .i64 0))) S (blockK 0 (seqK (vc Pg (c51.at_ [1,1]) (ms51.drop 1)) (bodyK Pg r51 Q)))
theorem calls51{x0:AV}{S:Store}{Q:PoT}(h:m51 x0 S Q):ACalls Pg 51 [x0] S Q:=
 calls_of_vc (fn:=Tryz.f51) (c:=c51) (n:=107) Tryz.func51 (by kernel_rfl) (by kernel_rfl) (by kernel_rfl) ms51 (Eq.mpr (by kernel_rfl) h)
def b51_0(y0 y15 y16:AV)(S:Store)(KE0:KeT)(Q:PoT):Prop:=
 bin .lss 0 y16 y15 S fun a S=>onB a fun b=>gd b (callF Pg 54 [y0,.v (.int .i64 1),.v (.int .i64 1)] S Q fun c S=>ixS 3 1 c (.v (.int .i64 0)) S fun d S=>ld1 d S fun e S=>bin .add 0 y16 (.v (.int .i64 1)) S fun f S=>bin .mul 0 (.v (.int .i64 2)) f S fun g S=>bin .eql 0 e g S fun h S=>callF Pg 53 [y0,h] S Q fun i S=>bin .add 0 y16 (.v (.int .i64 1)) S fun k S=>KE0 107 (env51_0 y0 y15 k) S) (callF Pg 55 [y0] S Q fun l S=>extr l 0 S fun m S=>extr l 1 S fun n S=>loopV lv51_1 (vc Pg (c51.at_ [1,1,1,0,1,0,0]) (ms51.drop 2)) 107 (env51_1 y0 n m (.v (.int .i64 0))) S (blockK 2 (seqK (vc Pg (c51.at_ [1,1,1,1]) (ms51.drop 2)) (bodyK Pg r51 Q))))
theorem b51_0_eq(y0 y15 y16:AV)(S:Store)(KE0:KeT)(Q:PoT):vc Pg (c51.at_ [1,0,1,0,0]) (ms51.drop 1) (mkE 107 lv51_0 (env51_0 y0 y15 y16)) S (thenK (fgK lv51_0 KE0) (blockK 0 (seqK (vc Pg (c51.at_ [1,1]) (ms51.drop 1)) (bodyK Pg r51 Q))))=b51_0 y0 y15 y16 S KE0 Q:=by kernel_rfl
theorem loop51_0{y0 y15:AV}{y160:AV}{S:Store}{Q:PoT}(I:AV→Store→Prop)(μ:AV→Store→Nat)(h0:I y160 S)
    (hr:∀(y16:AV) (S:Store),I y16 S→∀ KE0:KeT,(∀(y16':AV) (S':Store),I y16' S'→μ y16' S'<μ y16 S→KE0 107 (env51_0 y0 y15 y16') S')→b51_0 y0 y15 y16 S KE0 Q):
    loopV lv51_0 (vc Pg (c51.at_ [1,0,1,0,0]) (ms51.drop 1)) 107 (env51_0 y0 y15 y160) S (blockK 0 (seqK (vc Pg (c51.at_ [1,1]) (ms51.drop 1)) (bodyK Pg r51 Q))):=by
 refine⟨fun n e S=>n=107∧∃ y16:AV,e=(env51_0 y0 y15 y16)∧I y16 S,fun _ e S=>μ (e.getD 2 .j) S,?_,?_⟩
 ·exact⟨_,_,Wk.refl _ _,rfl,_,rfl,h0⟩
 ·rintro _ e S ⟨rfl,y16,rfl,hI⟩
  exact(b51_0_eq _ _ _ _ _ _).mpr (hr y16 S hI _ (fun y16' S' hI' hm=>⟨_,_,Wk.refl _ _,⟨rfl,_,rfl,hI'⟩,hm⟩))
def b51_1(y0 y4 y35 y36:AV)(S:Store)(KE1:KeT)(Q:PoT):Prop:=
 bin .lss 0 y36 y35 S fun a S=>onB a fun b=>gd b (callF Pg 54 [y0,.v (.int .i64 2),.v (.int .i64 3)] S Q fun c S=>ixS 3 1 c (.v (.int .i64 0)) S fun d S=>ld1 d S fun e S=>bin .mul 0 (.v (.int .i64 2)) y36 S fun f S=>bin .add 0 y4 f S fun g S=>bin .eql 0 e g S fun h S=>callF Pg 53 [y0,h] S Q fun i S=>∃ k:AV,(∀ T:Store,Keep S T→ixS 3 1 c (.v (.int .i64 0)) T fun l S=>l=k∧S=T)∧∃ m:AV,(∀ T:Store,Keep S T→ld1 k T fun n S=>n=m∧S=T)∧∃ o:AV,(∀ T:Store,Keep S T→ixS 3 1 c (.v (.int .i64 1)) T fun p S=>p=o∧S=T)∧∃ q:AV,(∀ T:Store,Keep S T→ld1 o T fun r S=>r=q∧S=T)∧∃ s:AV,(∀ T:Store,Keep S T→ixS 3 1 c (.v (.int .i64 2)) T fun t S=>t=s∧S=T)∧∃ u:AV,(∀ T:Store,Keep S T→ld1 s T fun w S=>w=u∧S=T)∧callF Pg 56 [y0,m,q,u] S Q fun x S=>bin .add 0 y36 (.v (.int .i64 1)) S fun y S=>KE1 107 (env51_1 y0 y4 y35 y) S) (callF Pg 57 [y0] S Q fun z S=>callF Pg 58 [y0] S Q fun A S=>extr A 0 S fun B S=>extr A 1 S fun C S=>loopV lv51_2 (vc Pg (c51.at_ [1,1,1,1,1,1,0,1,0,0]) (ms51.drop 3)) 107 (env51_2 y0 C B (.v (.int .i64 0))) S (blockK 4 (seqK (vc Pg (c51.at_ [1,1,1,1,1,1,1]) (ms51.drop 3)) (bodyK Pg r51 Q))))
theorem b51_1_eq(y0 y4 y35 y36:AV)(S:Store)(KE1:KeT)(Q:PoT):vc Pg (c51.at_ [1,1,1,0,1,0,0]) (ms51.drop 2) (mkE 107 lv51_1 (env51_1 y0 y4 y35 y36)) S (thenK (fgK lv51_1 KE1) (blockK 2 (seqK (vc Pg (c51.at_ [1,1,1,1]) (ms51.drop 2)) (bodyK Pg r51 Q))))=b51_1 y0 y4 y35 y36 S KE1 Q:=by kernel_rfl
theorem loop51_1{y0 y4 y35:AV}{y360:AV}{S:Store}{Q:PoT}(I:AV→Store→Prop)(μ:AV→Store→Nat)(h0:I y360 S)
    (hr:∀(y36:AV) (S:Store),I y36 S→∀ KE1:KeT,(∀(y36':AV) (S':Store),I y36' S'→μ y36' S'<μ y36 S→KE1 107 (env51_1 y0 y4 y35 y36') S')→b51_1 y0 y4 y35 y36 S KE1 Q):
    loopV lv51_1 (vc Pg (c51.at_ [1,1,1,0,1,0,0]) (ms51.drop 2)) 107 (env51_1 y0 y4 y35 y360) S (blockK 2 (seqK (vc Pg (c51.at_ [1,1,1,1]) (ms51.drop 2)) (bodyK Pg r51 Q))):=by
 refine⟨fun n e S=>n=107∧∃ y36:AV,e=(env51_1 y0 y4 y35 y36)∧I y36 S,fun _ e S=>μ (e.getD 3 .j) S,?_,?_⟩
 ·exact⟨_,_,Wk.refl _ _,rfl,_,rfl,h0⟩
 ·rintro _ e S ⟨rfl,y36,rfl,hI⟩
  exact(b51_1_eq _ _ _ _ _ _ _).mpr (hr y36 S hI _ (fun y36' S' hI' hm=>⟨_,_,Wk.refl _ _,⟨rfl,_,rfl,hI'⟩,hm⟩))
def b51_2(y0 y4 y70 y71:AV)(S:Store)(KE2:KeT)(Q:PoT):Prop:=
 bin .lss 0 y71 y70 S fun a S=>onB a fun b=>gd b (callF Pg 54 [y0,.v (.int .i64 3),.v (.int .i64 3)] S Q fun c S=>ixS 3 1 c (.v (.int .i64 0)) S fun d S=>ld1 d S fun e S=>bin .mul 0 (.v (.int .i64 2)) y71 S fun f S=>bin .add 0 y4 f S fun g S=>bin .eql 0 e g S fun h S=>callF Pg 53 [y0,h] S Q fun i S=>∃ k:AV,(∀ T:Store,Keep S T→nilChk y0 T fun l S=>l=k∧S=T)∧∃ m:AV,(∀ T:Store,Keep S T→shift k 10 T fun n S=>n=m∧S=T)∧∃ o:AV,(∀ T:Store,Keep S T→shift m 2 T fun p S=>p=o∧S=T)∧∃ q:AV,(∀ T:Store,Keep S T→ld1 o T fun r S=>r=q∧S=T)∧∃ s:AV,(∀ T:Store,Keep S T→ixS 3 1 c (.v (.int .i64 1)) T fun u S=>u=s∧S=T)∧∃ w:AV,(∀ T:Store,Keep S T→ld1 s T fun x S=>x=w∧S=T)∧∃ y:AV,(∀ T:Store,Keep S T→ixS 3 1 c (.v (.int .i64 2)) T fun z S=>z=y∧S=T)∧∃ A:AV,(∀ T:Store,Keep S T→ld1 y T fun B S=>B=A∧S=T)∧∃ C:AV,(∀ T:Store,Keep S T→bld [(0,1),(1,1)] [.v (.int .i64 0),.v (.int .i64 0)] [(0,w),(1,A)] T fun D S=>D=C∧S=T)∧∃ E:AV,(∀ T:Store,Keep S T→bslN 48 2 1 [.v (.int .i64 0),.v (.int .i64 0)] [(0,C)] T fun F S=>F=E∧S=T)∧appS 48 2 16 q E S fun G S=>∃ H:AV,(∀ T:Store,Keep S T→nilChk y0 T fun I S=>I=H∧S=T)∧∃ J:AV,(∀ T:Store,Keep S T→shift H 10 T fun K S=>K=J∧S=T)∧∃ L:AV,(∀ T:Store,Keep S T→shift J 2 T fun M S=>M=L∧S=T)∧stN 1 L G S fun N S=>bin .add 0 y71 (.v (.int .i64 1)) S fun O S=>KE2 107 (env51_2 y0 y4 y70 O) S) (callF Pg 59 [y0] S Q fun P S=>Q (.ret (.t [])) S)
theorem b51_2_eq(y0 y4 y70 y71:AV)(S:Store)(KE2:KeT)(Q:PoT):vc Pg (c51.at_ [1,1,1,1,1,1,0,1,0,0]) (ms51.drop 3) (mkE 107 lv51_2 (env51_2 y0 y4 y70 y71)) S (thenK (fgK lv51_2 KE2) (blockK 4 (seqK (vc Pg (c51.at_ [1,1,1,1,1,1,1]) (ms51.drop 3)) (bodyK Pg r51 Q))))=b51_2 y0 y4 y70 y71 S KE2 Q:=by kernel_rfl
theorem loop51_2{y0 y4 y70:AV}{y710:AV}{S:Store}{Q:PoT}(I:AV→Store→Prop)(μ:AV→Store→Nat)(h0:I y710 S)
    (hr:∀(y71:AV) (S:Store),I y71 S→∀ KE2:KeT,(∀(y71':AV) (S':Store),I y71' S'→μ y71' S'<μ y71 S→KE2 107 (env51_2 y0 y4 y70 y71') S')→b51_2 y0 y4 y70 y71 S KE2 Q):
    loopV lv51_2 (vc Pg (c51.at_ [1,1,1,1,1,1,0,1,0,0]) (ms51.drop 3)) 107 (env51_2 y0 y4 y70 y710) S (blockK 4 (seqK (vc Pg (c51.at_ [1,1,1,1,1,1,1]) (ms51.drop 3)) (bodyK Pg r51 Q))):=by
 refine⟨fun n e S=>n=107∧∃ y71:AV,e=(env51_2 y0 y4 y70 y71)∧I y71 S,fun _ e S=>μ (e.getD 3 .j) S,?_,?_⟩
 ·exact⟨_,_,Wk.refl _ _,rfl,_,rfl,h0⟩
 ·rintro _ e S ⟨rfl,y71,rfl,hI⟩
  exact(b51_2_eq _ _ _ _ _ _ _).mpr (hr y71 S hI _ (fun y71' S' hI' hm=>⟨_,_,Wk.refl _ _,⟨rfl,_,rfl,hI'⟩,hm⟩))
def c55:Code:=(Tryz.f55.body).getD .skip
def ms55:List (List Nat):=[[]]
def m55(x0:AV)(S:Store)(Q:PoT):Prop:=
 (fun S0:Store=>∃ a:AV,(nilChk x0 S fun c S=>c=a∧S=S0)∧∃ d:AV,(shift a 1 S fun e S=>e=d∧S=S0)∧∃ f:AV,(ixA 9 1 d (.v (.int .i64 2)) S fun g S=>g=f∧S=S0)∧∃ h:AV,(ld1 f S fun i S=>i=h∧S=S0)∧∃ k:AV,(nilChk x0 S fun l S=>l=k∧S=S0)∧∃ m:AV,(shift k 1 S fun n S=>n=m∧S=S0)∧∃ o:AV,(ixA 9 1 m (.v (.int .i64 1)) S fun p S=>p=o∧S=S0)∧∃ q:AV,(ld1 o S fun r S=>r=q∧S=S0)∧∃ s:AV,(bin .add 0 q (.v (.int .i64 1)) S fun u S=>u=s∧S=S0)∧∃ w:AV,(bin .mul 0 (.v (.int .i64 2)) s S fun x S=>x=w∧S=S0)∧Q (.ret (.t [h,w])) S) S
theorem calls55{x0:AV}{S:Store}{Q:PoT}(h:m55 x0 S Q):ACalls Pg 55 [x0] S Q:=
 calls_of_vc (fn:=Tryz.f55) (c:=c55) (n:=16) Tryz.func55 (by kernel_rfl) (by kernel_rfl) (by kernel_rfl) ms55 (Eq.mpr (by kernel_rfl) h)
def c58:Code:=(Tryz.f58.body).getD .skip
def ms58:List (List Nat):=[[]]
def m58(x0:AV)(S:Store)(Q:PoT):Prop:=
 (fun S0:Store=>∃ a:AV,(nilChk x0 S fun c S=>c=a∧S=S0)∧∃ d:AV,(shift a 1 S fun e S=>e=d∧S=S0)∧∃ f:AV,(ixA 9 1 d (.v (.int .i64 4)) S fun g S=>g=f∧S=S0)∧∃ h:AV,(ld1 f S fun i S=>i=h∧S=S0)∧∃ k:AV,(nilChk x0 S fun l S=>l=k∧S=S0)∧∃ m:AV,(shift k 1 S fun n S=>n=m∧S=S0)∧∃ o:AV,(ixA 9 1 m (.v (.int .i64 1)) S fun p S=>p=o∧S=S0)∧∃ q:AV,(ld1 o S fun r S=>r=q∧S=S0)∧∃ s:AV,(nilChk x0 S fun u S=>u=s∧S=S0)∧∃ w:AV,(shift s 1 S fun x S=>x=w∧S=S0)∧∃ y:AV,(ixA 9 1 w (.v (.int .i64 2)) S fun z S=>z=y∧S=S0)∧∃ A:AV,(ld1 y S fun B S=>B=A∧S=S0)∧∃ C:AV,(bin .add 0 q A S fun D S=>D=C∧S=S0)∧∃ E:AV,(bin .add 0 C (.v (.int .i64 1)) S fun F S=>F=E∧S=S0)∧∃ G:AV,(bin .mul 0 (.v (.int .i64 2)) E S fun H S=>H=G∧S=S0)∧Q (.ret (.t [h,G])) S) S
theorem calls58{x0:AV}{S:Store}{Q:PoT}(h:m58 x0 S Q):ACalls Pg 58 [x0] S Q:=
 calls_of_vc (fn:=Tryz.f58) (c:=c58) (n:=22) Tryz.func58 (by kernel_rfl) (by kernel_rfl) (by kernel_rfl) ms58 (Eq.mpr (by kernel_rfl) h)
def c56:Code:=(Tryz.f56.body).getD .skip
def ms56:List (List Nat):=[[53]]
def m56(x0 x1 x2 x3:AV)(S:Store)(Q:PoT):Prop:=
 bin .eql 0 x3 x1 S fun a S=>onB a fun b=>gd b (nilChk x0 S fun c S=>shift c 10 S fun d S=>shift d 1 S fun e S=>ld1 e S fun f S=>bld [(0,1),(1,1)] [.v (.int .i64 0),.v (.int .i64 0)] [(0,x2),(1,(.v (.int .i64 2)))] S fun g S=>bslN 51 2 1 [.v (.int .i64 0),.v (.int .i64 0)] [(0,g)] S fun h S=>appS 51 2 16 f h S fun i S=>nilChk x0 S fun k S=>shift k 10 S fun l S=>shift l 1 S fun m S=>stN 1 m i S fun n S=>Q (.ret (.t [])) S) (bin .eql 0 x3 (.v (.int .i64 0)) S fun o S=>onB o fun b=>gd b (onB o fun b=>gd b (nilChk x0 S fun p S=>shift p 10 S fun q S=>shift q 1 S fun r S=>ld1 r S fun s S=>bld [(0,1),(1,1)] [.v (.int .i64 0),.v (.int .i64 0)] [(0,x2),(1,x3)] S fun u S=>bslN 51 2 1 [.v (.int .i64 0),.v (.int .i64 0)] [(0,u)] S fun w S=>appS 51 2 16 s w S fun x S=>nilChk x0 S fun y S=>shift y 10 S fun z S=>shift z 1 S fun A S=>stN 1 A x S fun B S=>Q (.ret (.t [])) S) (callF Pg 53 [x0,.v (.bool false)] S Q fun C S=>nilChk x0 S fun D S=>shift D 10 S fun E S=>shift E 1 S fun F S=>ld1 F S fun G S=>bld [(0,1),(1,1)] [.v (.int .i64 0),.v (.int .i64 0)] [(0,x2),(1,x3)] S fun H S=>bslN 51 2 1 [.v (.int .i64 0),.v (.int .i64 0)] [(0,H)] S fun I S=>appS 51 2 16 G I S fun J S=>nilChk x0 S fun K S=>shift K 10 S fun L S=>shift L 1 S fun M S=>stN 1 M J S fun N S=>Q (.ret (.t [])) S)) (bin .eql 0 x3 (.v (.int .i64 1)) S fun O S=>onB O fun b=>gd b (nilChk x0 S fun P S=>shift P 10 S fun R S=>shift R 1 S fun T S=>ld1 T S fun U S=>bld [(0,1),(1,1)] [.v (.int .i64 0),.v (.int .i64 0)] [(0,x2),(1,x3)] S fun V S=>bslN 51 2 1 [.v (.int .i64 0),.v (.int .i64 0)] [(0,V)] S fun W S=>appS 51 2 16 U W S fun X S=>nilChk x0 S fun Y S=>shift Y 10 S fun Z S=>shift Z 1 S fun a0 S=>stN 1 a0 X S fun a1 S=>Q (.ret (.t [])) S) (callF Pg 53 [x0,.v (.bool false)] S Q fun a2 S=>nilChk x0 S fun a3 S=>shift a3 10 S fun a4 S=>shift a4 1 S fun a5 S=>ld1 a5 S fun a6 S=>bld [(0,1),(1,1)] [.v (.int .i64 0),.v (.int .i64 0)] [(0,x2),(1,x3)] S fun a7 S=>bslN 51 2 1 [.v (.int .i64 0),.v (.int .i64 0)] [(0,a7)] S fun a8 S=>appS 51 2 16 a6 a8 S fun a9 S=>nilChk x0 S fun b0 S=>shift b0 10 S fun b1 S=>shift b1 1 S fun b3 S=>stN 1 b3 a9 S fun b4 S=>Q (.ret (.t [])) S)))
theorem calls56{x0 x1 x2 x3:AV}{S:Store}{Q:PoT}(h:m56 x0 x1 x2 x3 S Q):ACalls Pg 56 [x0,x1,x2,x3] S Q:=
 calls_of_vc (fn:=Tryz.f56) (c:=c56) (n:=31) Tryz.func56 (by kernel_rfl) (by kernel_rfl) (by kernel_rfl) ms56 (Eq.mpr (by kernel_rfl) h)
def c57:Code:=(Tryz.f57.body).getD .skip
def r57:List ResultVar:=Tryz.f57.results.toList
def env57_0(y0 y24 y25:AV):List AV:=[y0,y24,y25]
def lv57_0:List Nat:=[0,24,25]
def env57_1(y0 y4 y24 y25 y34 y35:AV):List AV:=[y0,y4,y24,y25,y34,y35]
def lv57_1:List Nat:=[0,4,24,25,34,35]
def ms57:List (List Nat):=[lv57_0,lv57_1,[54]]
def m57(x0:AV)(S:Store)(Q:PoT):Prop:=
 nilChk x0 S fun a S=>shift a 10 S fun c S=>(fun S0:Store=>∃ d:AV,(nilChk c S fun e S=>e=d∧S=S0)∧∃ f:AV,(shift d 3 S fun g S=>g=f∧S=S0)∧∃ h:AV,(bld [(0,1),(1,1)] [.v (.pointer none),.v (.int .i64 0)] [(0,f),(1,(.v (.int .i64 3)))] S fun i S=>i=h∧S=S0)∧∃ k:AV,(nilChk c S fun l S=>l=k∧S=S0)∧∃ m:AV,(shift k 4 S fun n S=>n=m∧S=S0)∧∃ o:AV,(bld [(0,1),(1,1)] [.v (.pointer none),.v (.int .i64 0)] [(0,m),(1,(.v (.int .i64 5)))] S fun p S=>p=o∧S=S0)∧∃ q:AV,(nilChk c S fun r S=>r=q∧S=S0)∧∃ s:AV,(shift q 5 S fun t S=>t=s∧S=S0)∧∃ u:AV,(bld [(0,1),(1,1)] [.v (.pointer none),.v (.int .i64 0)] [(0,s),(1,(.v (.int .i64 6)))] S fun w S=>w=u∧S=S0)∧∃ x:AV,(nilChk c S fun y S=>y=x∧S=S0)∧∃ z:AV,(shift x 6 S fun A S=>A=z∧S=S0)∧∃ B:AV,(bld [(0,1),(1,1)] [.v (.pointer none),.v (.int .i64 0)] [(0,z),(1,(.v (.int .i64 8)))] S fun C S=>C=B∧S=S0)∧∃ D:AV,(bld [(0,2),(2,2),(4,2),(6,2)] [.v (.pointer none),.v (.int .i64 0),.v (.pointer none),.v (.int .i64 0),.v (.pointer none),.v (.int .i64 0),.v (.pointer none),.v (.int .i64 0)] [(0,h),(1,o),(2,u),(3,B)] S fun E S=>E=D∧S=S0)∧loopV lv57_0 (vc Pg (c57.at_ [1,1,0,0]) (ms57.drop 1)) 52 (env57_0 x0 D (.v (.int .i64 0))) S (blockK 0 (bodyK Pg r57 Q))) S
theorem calls57{x0:AV}{S:Store}{Q:PoT}(h:m57 x0 S Q):ACalls Pg 57 [x0] S Q:=
 calls_of_vc (fn:=Tryz.f57) (c:=c57) (n:=52) Tryz.func57 (by kernel_rfl) (by kernel_rfl) (by kernel_rfl) ms57 (Eq.mpr (by kernel_rfl) h)
def b57_0(y0 y24 y25:AV)(S:Store)(KE0:KeT)(Q:PoT):Prop:=
 bin .lss 0 y25 (.v (.int .i64 4)) S fun c S=>onB c fun b=>gd b (optP (intA y25) fun z31=>(0≤z31∧z31<((4:Nat):Int))∧partN y24 2 (z31.toNat*2) S fun d S=>boxN 129 2 (.a [.v (.pointer none),.v (.int .i64 0)]) S fun e S=>stN 2 e d S fun f S=>(fun S0:Store=>∃ g:AV,(shift e 1 S fun h S=>h=g∧S=S0)∧∃ i:AV,(ld1 g S fun k S=>k=i∧S=S0)∧∃ l:AV,(nilChk y0 S fun m S=>m=l∧S=S0)∧∃ n:AV,(shift l 1 S fun o S=>o=n∧S=S0)∧∃ p:AV,(ixA 9 1 n i S fun q S=>q=p∧S=S0)∧∃ r:AV,(ld1 p S fun s S=>s=r∧S=S0)∧loopV lv57_1 (vc Pg (c57.at_ [1,1,0,0,1,1,0,0,1,1,0,0]) (ms57.drop 2)) 52 (env57_1 y0 e y24 y25 r (.v (.int .i64 0))) S (blockK 2 (blockK 1 (seqK (vc Pg (c57.at_ [1,1,0,0,1,1,1]) (ms57.drop 2)) (thenK (fgK lv57_0 KE0) (blockK 0 (bodyK Pg r57 Q))))))) S) (Q (.ret (.t [])) S)
theorem b57_0_eq(y0 y24 y25:AV)(S:Store)(KE0:KeT)(Q:PoT):vc Pg (c57.at_ [1,1,0,0]) (ms57.drop 1) (mkE 52 lv57_0 (env57_0 y0 y24 y25)) S (thenK (fgK lv57_0 KE0) (blockK 0 (bodyK Pg r57 Q)))=b57_0 y0 y24 y25 S KE0 Q:=by kernel_rfl
theorem loop57_0{y0 y24:AV}{y250:AV}{S:Store}{Q:PoT}(I:AV→Store→Prop)(μ:AV→Store→Nat)(h0:I y250 S)
    (hr:∀(y25:AV) (S:Store),I y25 S→∀ KE0:KeT,(∀(y25':AV) (S':Store),I y25' S'→μ y25' S'<μ y25 S→KE0 52 (env57_0 y0 y24 y25') S')→b57_0 y0 y24 y25 S KE0 Q):
    loopV lv57_0 (vc Pg (c57.at_ [1,1,0,0]) (ms57.drop 1)) 52 (env57_0 y0 y24 y250) S (blockK 0 (bodyK Pg r57 Q)):=by
 refine⟨fun n e S=>n=52∧∃ y25:AV,e=(env57_0 y0 y24 y25)∧I y25 S,fun _ e S=>μ (e.getD 2 .j) S,?_,?_⟩
 ·exact⟨_,_,Wk.refl _ _,rfl,_,rfl,h0⟩
 ·rintro _ e S ⟨rfl,y25,rfl,hI⟩
  exact(b57_0_eq _ _ _ _ _ _).mpr (hr y25 S hI _ (fun y25' S' hI' hm=>⟨_,_,Wk.refl _ _,⟨rfl,_,rfl,hI'⟩,hm⟩))
def b57_1(y0 y4 y24 y25 y34 y35:AV)(S:Store)(KE1:KeT)(KE0:KeT)(Q:PoT):Prop:=
 bin .lss 0 y35 y34 S fun a S=>onB a fun b=>gd b (∃ c:AV,(∀ T:Store,Keep S T→shift y4 0 T fun d S=>d=c∧S=T)∧∃ e:AV,(∀ T:Store,Keep S T→ld1 c T fun f S=>f=e∧S=T)∧∃ g:AV,(∀ T:Store,Keep S T→shift y4 0 T fun h S=>h=g∧S=T)∧∃ i:AV,(∀ T:Store,Keep S T→ld1 g T fun k S=>k=i∧S=T)∧∃ l:AV,(∀ T:Store,Keep S T→nilChk i T fun m S=>m=l∧S=T)∧∃ n:AV,(∀ T:Store,Keep S T→ld1 l T fun o S=>o=n∧S=T)∧callF Pg 54 [y0,.v (.int .i64 1),.v (.int .i64 1)] S Q fun p S=>(∀ T:Store,Keep S T→ld1 l T fun q S=>q=n∧S=T)∧(∀ T:Store,Keep S T→nilChk i T fun r S=>r=l∧S=T)∧(∀ T:Store,Keep S T→ld1 g T fun s S=>s=i∧S=T)∧(∀ T:Store,Keep S T→shift y4 0 T fun t S=>t=g∧S=T)∧(∀ T:Store,Keep S T→ld1 c T fun u S=>u=e∧S=T)∧(∀ T:Store,Keep S T→shift y4 0 T fun w S=>w=c∧S=T)∧∃ x:AV,(∀ T:Store,Keep S T→ixS 3 1 p (.v (.int .i64 0)) T fun y S=>y=x∧S=T)∧∃ z:AV,(∀ T:Store,Keep S T→ld1 x T fun A S=>A=z∧S=T)∧∃ B:AV,(∀ T:Store,Keep S T→bslN 3 1 1 [.v (.int .i64 0)] [(0,z)] T fun C S=>C=B∧S=T)∧appS 3 1 8 n B S fun D S=>(∀ T:Store,Keep S T→ld1 c T fun E S=>E=e∧S=T)∧(∀ T:Store,Keep S T→shift y4 0 T fun F S=>F=c∧S=T)∧∃ G:AV,(∀ T:Store,Keep S T→nilChk e T fun H S=>H=G∧S=T)∧stN 1 G D S fun I S=>bin .add 0 y35 (.v (.int .i64 1)) S fun J S=>KE1 52 (env57_1 y0 y4 y24 y25 y34 J) S) (bin .add 0 y25 (.v (.int .i64 1)) S fun K S=>KE0 52 (env57_0 y0 y24 K) S)
theorem b57_1_eq(y0 y4 y24 y25 y34 y35:AV)(S:Store)(KE1:KeT)(KE0:KeT)(Q:PoT):vc Pg (c57.at_ [1,1,0,0,1,1,0,0,1,1,0,0]) (ms57.drop 2) (mkE 52 lv57_1 (env57_1 y0 y4 y24 y25 y34 y35)) S (thenK (fgK lv57_1 KE1) (blockK 2 (blockK 1 (seqK (vc Pg (c57.at_ [1,1,0,0,1,1,1]) (ms57.drop 2)) (thenK (fgK lv57_0 KE0) (blockK 0 (bodyK Pg r57 Q)))))))=b57_1 y0 y4 y24 y25 y34 y35 S KE1 KE0 Q:=by kernel_rfl
theorem loop57_1{y0 y4 y24 y25 y34:AV}{y350:AV}{S:Store}{KE0:KeT}{Q:PoT}(I:AV→Store→Prop)(μ:AV→Store→Nat)(h0:I y350 S)
    (hr:∀(y35:AV) (S:Store),I y35 S→∀ KE1:KeT,(∀(y35':AV) (S':Store),I y35' S'→μ y35' S'<μ y35 S→KE1 52 (env57_1 y0 y4 y24 y25 y34 y35') S')→b57_1 y0 y4 y24 y25 y34 y35 S KE1 KE0 Q):
    loopV lv57_1 (vc Pg (c57.at_ [1,1,0,0,1,1,0,0,1,1,0,0]) (ms57.drop 2)) 52 (env57_1 y0 y4 y24 y25 y34 y350) S (blockK 2 (blockK 1 (seqK (vc Pg (c57.at_ [1,1,0,0,1,1,1]) (ms57.drop 2)) (thenK (fgK lv57_0 KE0) (blockK 0 (bodyK Pg r57 Q)))))):=by
 refine⟨fun n e S=>n=52∧∃ y35:AV,e=(env57_1 y0 y4 y24 y25 y34 y35)∧I y35 S,fun _ e S=>μ (e.getD 5 .j) S,?_,?_⟩
 ·exact⟨_,_,Wk.refl _ _,rfl,_,rfl,h0⟩
 ·rintro _ e S ⟨rfl,y35,rfl,hI⟩
  exact(b57_1_eq _ _ _ _ _ _ _ _ _ _).mpr (hr y35 S hI _ (fun y35' S' hI' hm=>⟨_,_,Wk.refl _ _,⟨rfl,_,rfl,hI'⟩,hm⟩))
def c54:Code:=(Tryz.f54.body).getD .skip
def r54:List ResultVar:=Tryz.f54.results.toList
def env54_0(y0 y8 y28 y29 y30:AV):List AV:=[y0,y8,y28,y29,y30]
def lv54_0:List Nat:=[0,8,28,29,30]
def ms54:List (List Nat):=[lv54_0,[53,94]]
def m54(x0 x1 x2:AV)(S:Store)(Q:PoT):Prop:=
 callF Pg 94 [x0,.v (.int .i64 21)] S Q fun a S=>callF Pg 93 [a,(.v (.string { data:=#[32] }))] S Q fun c S=>lenS c S fun d S=>bin .geq 0 d x1 S fun e S=>onB e fun b=>gd b (lenS c S fun f S=>bin .leq 0 f x2 S fun g S=>callF Pg 53 [x0,g] S Q fun h S=>mkN 3 8 [.v (.int .i64 0)] x2 x2 S fun i S=>lenS c S fun k S=>loopV lv54_0 (vc Pg (c54.at_ [1,1,1,1,0,1,0,0]) (ms54.drop 1)) 49 (env54_0 x0 i c k (.v (.int .i64 0))) S (blockK 0 (seqK (vc Pg (c54.at_ [1,1,1,1,1]) (ms54.drop 1)) (bodyK Pg r54 Q)))) (callF Pg 53 [x0,.v (.bool false)] S Q fun l S=>mkN 3 8 [.v (.int .i64 0)] x2 x2 S fun m S=>lenS c S fun n S=>loopV lv54_0 (vc Pg (c54.at_ [1,1,1,1,0,1,0,0]) (ms54.drop 1)) 49 (env54_0 x0 m c n (.v (.int .i64 0))) S (blockK 0 (seqK (vc Pg (c54.at_ [1,1,1,1,1]) (ms54.drop 1)) (bodyK Pg r54 Q))))
theorem calls54{x0 x1 x2:AV}{S:Store}{Q:PoT}(h:m54 x0 x1 x2 S Q):ACalls Pg 54 [x0,x1,x2] S Q:=
 calls_of_vc (fn:=Tryz.f54) (c:=c54) (n:=49) Tryz.func54 (by kernel_rfl) (by kernel_rfl) (by kernel_rfl) ms54 (Eq.mpr (by kernel_rfl) h)
def b54_0(y0 y8 y28 y29 y30:AV)(S:Store)(KE0:KeT)(Q:PoT):Prop:=
 bin .lss 0 y30 y29 S fun a S=>onB a fun b=>gd b (ixS 9 1 y28 y30 S fun c S=>ld1 c S fun d S=>callF Pg 95 [d] S Q fun e S=>ixS 3 1 y8 y30 S fun f S=>stN 1 f e S fun g S=>ixS 3 1 y8 y30 S fun h S=>ld1 h S fun i S=>bin .geq 0 i (.v (.int .i64 0)) S fun k S=>callF Pg 53 [y0,k] S Q fun l S=>bin .add 0 y30 (.v (.int .i64 1)) S fun m S=>KE0 49 (env54_0 y0 y8 y28 y29 m) S) (Q (.ret y8) S)
theorem b54_0_eq(y0 y8 y28 y29 y30:AV)(S:Store)(KE0:KeT)(Q:PoT):vc Pg (c54.at_ [1,1,1,1,0,1,0,0]) (ms54.drop 1) (mkE 49 lv54_0 (env54_0 y0 y8 y28 y29 y30)) S (thenK (fgK lv54_0 KE0) (blockK 0 (seqK (vc Pg (c54.at_ [1,1,1,1,1]) (ms54.drop 1)) (bodyK Pg r54 Q))))=b54_0 y0 y8 y28 y29 y30 S KE0 Q:=by kernel_rfl
theorem loop54_0{y0 y8 y28 y29:AV}{y300:AV}{S:Store}{Q:PoT}(I:AV→Store→Prop)(μ:AV→Store→Nat)(h0:I y300 S)
    (hr:∀(y30:AV) (S:Store),I y30 S→∀ KE0:KeT,(∀(y30':AV) (S':Store),I y30' S'→μ y30' S'<μ y30 S→KE0 49 (env54_0 y0 y8 y28 y29 y30') S')→b54_0 y0 y8 y28 y29 y30 S KE0 Q):
    loopV lv54_0 (vc Pg (c54.at_ [1,1,1,1,0,1,0,0]) (ms54.drop 1)) 49 (env54_0 y0 y8 y28 y29 y300) S (blockK 0 (seqK (vc Pg (c54.at_ [1,1,1,1,1]) (ms54.drop 1)) (bodyK Pg r54 Q))):=by
 refine⟨fun n e S=>n=49∧∃ y30:AV,e=(env54_0 y0 y8 y28 y29 y30)∧I y30 S,fun _ e S=>μ (e.getD 4 .j) S,?_,?_⟩
 ·exact⟨_,_,Wk.refl _ _,rfl,_,rfl,h0⟩
 ·rintro _ e S ⟨rfl,y30,rfl,hI⟩
  exact(b54_0_eq _ _ _ _ _ _ _ _).mpr (hr y30 S hI _ (fun y30' S' hI' hm=>⟨_,_,Wk.refl _ _,⟨rfl,_,rfl,hI'⟩,hm⟩))
def c52:Code:=(Tryz.f52.body).getD .skip
def r52:List ResultVar:=Tryz.f52.results.toList
def env52_0(y0 y27 y28 y29:AV):List AV:=[y0,y27,y28,y29]
def lv52_0:List Nat:=[0,27,28,29]
def ms52:List (List Nat):=[lv52_0,[92,94]]
def m52(x0 x1:AV)(S:Store)(Q:PoT):Prop:=
 callF Pg 94 [x0,.v (.int .i64 20)] S Q fun a S=>callF Pg 93 [a,(.v (.string { data:=#[32] }))] S Q fun c S=>ixS 9 1 c (.v (.int .i64 0)) S fun d S=>ld1 d S fun e S=>bin .eql 0 e x1 S fun f S=>onB f fun b=>gd b (lenS c S fun g S=>bin .gtr 0 g (.v (.int .i64 5)) S fun h S=>onB h fun b=>gd b (lenS c S fun i S=>bin .leq 0 i (.v (.int .i64 10)) S fun k S=>callF Pg 92 [k,.v (.int .i64 20)] S Q fun l S=>slc 9 1 c (some (.v (.int .i64 1))) none none S fun m S=>lenS m S fun n S=>loopV lv52_0 (vc Pg (c52.at_ [1,1,0,1,0,0]) (ms52.drop 1)) 100 (env52_0 x0 m n (.v (.int .i64 0))) S (blockK 0 (seqK (vc Pg (c52.at_ [1,1,1]) (ms52.drop 1)) (bodyK Pg r52 Q)))) (callF Pg 92 [.v (.bool false),.v (.int .i64 20)] S Q fun o S=>slc 9 1 c (some (.v (.int .i64 1))) none none S fun p S=>lenS p S fun q S=>loopV lv52_0 (vc Pg (c52.at_ [1,1,0,1,0,0]) (ms52.drop 1)) 100 (env52_0 x0 p q (.v (.int .i64 0))) S (blockK 0 (seqK (vc Pg (c52.at_ [1,1,1]) (ms52.drop 1)) (bodyK Pg r52 Q))))) (callF Pg 92 [.v (.bool false),.v (.int .i64 20)] S Q fun r S=>slc 9 1 c (some (.v (.int .i64 1))) none none S fun s S=>lenS s S fun t S=>loopV lv52_0 (vc Pg (c52.at_ [1,1,0,1,0,0]) (ms52.drop 1)) 100 (env52_0 x0 s t (.v (.int .i64 0))) S (blockK 0 (seqK (vc Pg (c52.at_ [1,1,1]) (ms52.drop 1)) (bodyK Pg r52 Q))))
theorem calls52{x0 x1:AV}{S:Store}{Q:PoT}(h:m52 x0 x1 S Q):ACalls Pg 52 [x0,x1] S Q:=
 calls_of_vc (fn:=Tryz.f52) (c:=c52) (n:=100) Tryz.func52 (by kernel_rfl) (by kernel_rfl) (by kernel_rfl) ms52 (Eq.mpr (by kernel_rfl) h)
def b52_0(y0 y27 y28 y29:AV)(S:Store)(KE0:KeT)(Q:PoT):Prop:=
 bin .lss 0 y29 y28 S fun a S=>onB a fun b=>gd b (ixS 9 1 y27 y29 S fun c S=>ld1 c S fun d S=>∃ e:AV,(∀ T:Store,Keep S T→callF Pg 95 [d] T (fun _ _=>False) fun f S=>f=e∧S=T)∧∃ g:AV,(∀ T:Store,Keep S T→nilChk y0 T fun h S=>h=g∧S=T)∧∃ i:AV,(∀ T:Store,Keep S T→shift g 1 T fun k S=>k=i∧S=T)∧∃ l:AV,(∀ T:Store,Keep S T→ixA 9 1 i y29 T fun m S=>m=l∧S=T)∧stN 1 l e S fun n S=>nilChk y0 S fun o S=>shift o 1 S fun p S=>ixA 9 1 p y29 S fun q S=>ld1 q S fun r S=>bin .geq 0 r (.v (.int .i64 0)) S fun s S=>onB s fun b=>gd b (nilChk y0 S fun u S=>shift u 1 S fun w S=>ixA 9 1 w y29 S fun x S=>ld1 x S fun y S=>bin .leq 0 y (.v (.int .i64 2000)) S fun z S=>callF Pg 92 [z,.v (.int .i64 20)] S Q fun A S=>bin .add 0 y29 (.v (.int .i64 1)) S fun B S=>KE0 100 (env52_0 y0 y27 y28 B) S) (callF Pg 92 [.v (.bool false),.v (.int .i64 20)] S Q fun C S=>bin .add 0 y29 (.v (.int .i64 1)) S fun D S=>KE0 100 (env52_0 y0 y27 y28 D) S)) (∃ E:AV,(∀ T:Store,Keep S T→nilChk y0 T fun F S=>F=E∧S=T)∧∃ G:AV,(∀ T:Store,Keep S T→shift E 1 T fun H S=>H=G∧S=T)∧∃ I:AV,(∀ T:Store,Keep S T→ixA 9 1 G (.v (.int .i64 0)) T fun J S=>J=I∧S=T)∧∃ K:AV,(∀ T:Store,Keep S T→ld1 I T fun L S=>L=K∧S=T)∧∃ M:AV,(∀ T:Store,Keep S T→nilChk y0 T fun N S=>N=M∧S=T)∧∃ O:AV,(∀ T:Store,Keep S T→shift M 1 T fun P S=>P=O∧S=T)∧∃ R:AV,(∀ T:Store,Keep S T→ixA 9 1 O (.v (.int .i64 1)) T fun U S=>U=R∧S=T)∧∃ V:AV,(∀ T:Store,Keep S T→ld1 R T fun W S=>W=V∧S=T)∧∃ X:AV,(∀ T:Store,Keep S T→nilChk y0 T fun Y S=>Y=X∧S=T)∧∃ Z:AV,(∀ T:Store,Keep S T→shift X 1 T fun a0 S=>a0=Z∧S=T)∧∃ a1:AV,(∀ T:Store,Keep S T→ixA 9 1 Z (.v (.int .i64 2)) T fun a2 S=>a2=a1∧S=T)∧∃ a3:AV,(∀ T:Store,Keep S T→ld1 a1 T fun a4 S=>a4=a3∧S=T)∧∃ a5:AV,(∀ T:Store,Keep S T→bin .add 0 V a3 T fun a6 S=>a6=a5∧S=T)∧∃ a7:AV,(∀ T:Store,Keep S T→nilChk y0 T fun a8 S=>a8=a7∧S=T)∧∃ a9:AV,(∀ T:Store,Keep S T→shift a7 1 T fun b0 S=>b0=a9∧S=T)∧∃ b1:AV,(∀ T:Store,Keep S T→ixA 9 1 a9 (.v (.int .i64 4)) T fun b2 S=>b2=b1∧S=T)∧∃ b3:AV,(∀ T:Store,Keep S T→ld1 b1 T fun b4 S=>b4=b3∧S=T)∧∃ b5:AV,(∀ T:Store,Keep S T→bin .add 0 a5 b3 T fun b6 S=>b6=b5∧S=T)∧∃ b7:AV,(∀ T:Store,Keep S T→bin .eql 0 K b5 T fun b8 S=>b8=b7∧S=T)∧onB b7 fun b=>gd b (∃ b9:AV,(∀ T:Store,Keep S T→nilChk y0 T fun c0 S=>c0=b9∧S=T)∧∃ c1:AV,(∀ T:Store,Keep S T→shift b9 1 T fun c2 S=>c2=c1∧S=T)∧∃ c3:AV,(∀ T:Store,Keep S T→ixA 9 1 c1 (.v (.int .i64 7)) T fun c4 S=>c4=c3∧S=T)∧∃ c5:AV,(∀ T:Store,Keep S T→ld1 c3 T fun c6 S=>c6=c5∧S=T)∧∃ c7:AV,(∀ T:Store,Keep S T→bin .eql 0 c5 (.v (.int .i64 0)) T fun c8 S=>c8=c7∧S=T)∧∃ c9:AV,(∀ T:Store,Keep S T→c7=c9∧T=T)∧callF Pg 92 [c9,.v (.int .i64 20)] S Q fun d0 S=>nilChk y0 S fun d1 S=>shift d1 1 S fun d2 S=>ixA 9 1 d2 (.v (.int .i64 1)) S fun d3 S=>ld1 d3 S fun d4 S=>nilChk y0 S fun d5 S=>shift d5 10 S fun d6 S=>shift d6 0 S fun d7 S=>stN 1 d7 d4 S fun d8 S=>Q (.ret (.t [])) S) (∃ d9:AV,(∀ T:Store,Keep S T→(.v (.bool false))=d9∧T=T)∧callF Pg 92 [d9,.v (.int .i64 20)] S Q fun e0 S=>nilChk y0 S fun e1 S=>shift e1 1 S fun e2 S=>ixA 9 1 e2 (.v (.int .i64 1)) S fun e3 S=>ld1 e3 S fun e4 S=>nilChk y0 S fun e5 S=>shift e5 10 S fun e6 S=>shift e6 0 S fun e7 S=>stN 1 e7 e4 S fun e8 S=>Q (.ret (.t [])) S))
theorem b52_0_eq(y0 y27 y28 y29:AV)(S:Store)(KE0:KeT)(Q:PoT):vc Pg (c52.at_ [1,1,0,1,0,0]) (ms52.drop 1) (mkE 100 lv52_0 (env52_0 y0 y27 y28 y29)) S (thenK (fgK lv52_0 KE0) (blockK 0 (seqK (vc Pg (c52.at_ [1,1,1]) (ms52.drop 1)) (bodyK Pg r52 Q))))=b52_0 y0 y27 y28 y29 S KE0 Q:=by kernel_rfl
theorem loop52_0{y0 y27 y28:AV}{y290:AV}{S:Store}{Q:PoT}(I:AV→Store→Prop)(μ:AV→Store→Nat)(h0:I y290 S)
    (hr:∀(y29:AV) (S:Store),I y29 S→∀ KE0:KeT,(∀(y29':AV) (S':Store),I y29' S'→μ y29' S'<μ y29 S→KE0 100 (env52_0 y0 y27 y28 y29') S')→b52_0 y0 y27 y28 y29 S KE0 Q):
    loopV lv52_0 (vc Pg (c52.at_ [1,1,0,1,0,0]) (ms52.drop 1)) 100 (env52_0 y0 y27 y28 y290) S (blockK 0 (seqK (vc Pg (c52.at_ [1,1,1]) (ms52.drop 1)) (bodyK Pg r52 Q))):=by
 refine⟨fun n e S=>n=100∧∃ y29:AV,e=(env52_0 y0 y27 y28 y29)∧I y29 S,fun _ e S=>μ (e.getD 3 .j) S,?_,?_⟩
 ·exact⟨_,_,Wk.refl _ _,rfl,_,rfl,h0⟩
 ·rintro _ e S ⟨rfl,y29,rfl,hI⟩
  exact(b52_0_eq _ _ _ _ _ _ _).mpr (hr y29 S hI _ (fun y29' S' hI' hm=>⟨_,_,Wk.refl _ _,⟨rfl,_,rfl,hI'⟩,hm⟩))
def c95:Code:=(Tryz.f95.body).getD .skip
def ms95:List (List Nat):=[[]]
def m95(x0:AV)(S:Store)(Q:PoT):Prop:=
 callF Pg 119 [x0] S Q fun a S=>extr a 0 S fun c S=>extr a 1 S fun d S=>nilV .neq 4 d S fun e S=>onB e fun b=>gd b (Q (.ret (.v (.int .i64 (-1)))) S) (bin .lss 0 c (.v (.int .i64 0)) S fun f S=>onB f fun b=>gd b (Q (.ret (.v (.int .i64 (-1)))) S) (lenStr x0 S fun g S=>bin .gtr 0 g (.v (.int .i64 6)) S fun h S=>onB h fun b=>gd b (Q (.ret (.v (.int .i64 (-1)))) S) (callF Pg 84 [c] S Q fun i S=>bin .neq 0 i x0 S fun k S=>onB k fun b=>gd b (Q (.ret (.v (.int .i64 (-1)))) S) (Q (.ret c) S))))
theorem calls95{x0:AV}{S:Store}{Q:PoT}(h:m95 x0 S Q):ACalls Pg 95 [x0] S Q:=
 calls_of_vc (fn:=Tryz.f95) (c:=c95) (n:=28) Tryz.func95 (by kernel_rfl) (by kernel_rfl) (by kernel_rfl) ms95 (Eq.mpr (by kernel_rfl) h)
def c92:Code:=(Tryz.f92.body).getD .skip
def ms92:List (List Nat):=[[]]
def m92(x0 x1:AV)(S:Store)(Q:PoT):Prop:=
 un .not x0 S fun a S=>onB a fun b=>gd b (bld [(0,1)] [.v (.int .i64 0)] [(0,x1)] S fun c S=>panV (.i 121 c) S (fun u S=>Q (.pan u) S)) (Q (.ret (.t [])) S)
theorem calls92{x0 x1:AV}{S:Store}{Q:PoT}(h:m92 x0 x1 S Q):ACalls Pg 92 [x0,x1] S Q:=
 calls_of_vc (fn:=Tryz.f92) (c:=c92) (n:=9) Tryz.func92 (by kernel_rfl) (by kernel_rfl) (by kernel_rfl) ms92 (Eq.mpr (by kernel_rfl) h)
def c53:Code:=(Tryz.f53.body).getD .skip
def ms53:List (List Nat):=[[92]]
def m53(x0 x1:AV)(S:Store)(Q:PoT):Prop:=
 callF Pg 92 [x1,.v (.int .i64 21)] S Q fun a S=>Q (.ret (.t [])) S
theorem calls53{x0 x1:AV}{S:Store}{Q:PoT}(h:m53 x0 x1 S Q):ACalls Pg 53 [x0,x1] S Q:=
 calls_of_vc (fn:=Tryz.f53) (c:=c53) (n:=6) Tryz.func53 (by kernel_rfl) (by kernel_rfl) (by kernel_rfl) ms53 (Eq.mpr (by kernel_rfl) h)
def c94:Code:=(Tryz.f94.body).getD .skip
def ms94:List (List Nat):=[[92]]
def m94(x0 x1:AV)(S:Store)(Q:PoT):Prop:=
 nilChk x0 S fun a S=>shift a 0 S fun c S=>ld1 c S fun d S=>callF Pg 96 [d,(.v (.string { data:=#[10] }))] S Q fun e S=>extr e 0 S fun f S=>extr e 1 S fun g S=>extr e 2 S fun h S=>callF Pg 92 [h,x1] S Q fun i S=>nilChk x0 S fun k S=>shift k 0 S fun l S=>stN 1 l g S fun m S=>Q (.ret f) S
theorem calls94{x0 x1:AV}{S:Store}{Q:PoT}(h:m94 x0 x1 S Q):ACalls Pg 94 [x0,x1] S Q:=
 calls_of_vc (fn:=Tryz.f94) (c:=c94) (n:=25) Tryz.func94 (by kernel_rfl) (by kernel_rfl) (by kernel_rfl) ms94 (Eq.mpr (by kernel_rfl) h)
def c26:Code:=(Tryz.f26.body).getD .skip
def ms26:List (List Nat):=[[]]
def m26(x0:AV)(S:Store)(Q:PoT):Prop:=
 bin .rem 0 x0 (.v (.int .i64 10)) S fun a S=>bin .add 0 (.v (.int .i64 48)) a S fun c S=>convI .u8 c S fun d S=>bslN 5 1 1 [.v (.int .u8 0)] [(0,d)] S fun e S=>convBS e S fun f S=>bin .lss 0 x0 (.v (.int .i64 10)) S fun g S=>onB g fun b=>gd b (Q (.ret f) S) (bin .quo 0 x0 (.v (.int .i64 10)) S fun h S=>callF Pg 26 [h] S Q fun i S=>bin .add 0 i f S fun k S=>Q (.ret k) S)
theorem calls26{x0:AV}{S:Store}{Q:PoT}(h:m26 x0 S Q):ACalls Pg 26 [x0] S Q:=
 calls_of_vc (fn:=Tryz.f26) (c:=c26) (n:=18) Tryz.func26 (by kernel_rfl) (by kernel_rfl) (by kernel_rfl) ms26 (Eq.mpr (by kernel_rfl) h)
def c43:Code:=(Tryz.f43.body).getD .skip
def r43:List ResultVar:=Tryz.f43.results.toList
def env43_0(y4 y5 y6:AV):List AV:=[y4,y5,y6]
def lv43_0:List Nat:=[4,5,6]
def ms43:List (List Nat):=[lv43_0,[]]
def m43(x0:AV)(S:Store)(Q:PoT):Prop:=
 boxN 29 8 x0 S fun a S=>shift a 0 S fun c S=>ld1 c S fun d S=>shift a 1 S fun e S=>ld1 e S fun f S=>lenS f S fun g S=>bin .add 0 d g S fun h S=>shift a 2 S fun i S=>ld1 i S fun k S=>lenS k S fun l S=>bin .add 0 h l S fun m S=>shift a 0 S fun n S=>ld1 n S fun o S=>shift a 1 S fun p S=>ld1 p S fun q S=>lenS q S fun r S=>shift a 3 S fun s S=>ld1 s S fun t S=>lenS t S fun u S=>shift a 2 S fun w S=>ld1 w S fun x S=>lenS x S fun y S=>shift a 4 S fun z S=>ld1 z S fun A S=>lenS A S fun B S=>shift a 5 S fun C S=>ld1 C S fun D S=>lenS D S fun E S=>shift a 6 S fun F S=>ld1 F S fun G S=>lenS G S fun H S=>bslN 3 1 9 [.v (.int .i64 0)] [(0,m),(1,o),(2,r),(3,u),(4,y),(5,B),(6,E),(7,(.v (.int .i64 0))),(8,H)] S fun I S=>loopV lv43_0 (vc Pg (c43.at_ [1,1,1,1,0,1,0,0]) (ms43.drop 1)) 55 (env43_0 I (.v (.string { data:=#[] })) (.v (.int .i64 0))) S (blockK 0 (seqK (vc Pg (c43.at_ [1,1,1,1,1]) (ms43.drop 1)) (bodyK Pg r43 Q)))
theorem calls43{x0:AV}{S:Store}{Q:PoT}(h:m43 x0 S Q):ACalls Pg 43 [x0] S Q:=
 calls_of_vc (fn:=Tryz.f43) (c:=c43) (n:=55) Tryz.func43 (by kernel_rfl) (by kernel_rfl) (by kernel_rfl) ms43 (Eq.mpr (by kernel_rfl) h)
def b43_0(y4 y5 y6:AV)(S:Store)(KE0:KeT)(Q:PoT):Prop:=
 lenS y4 S fun a S=>bin .lss 0 y6 a S fun c S=>onB c fun b=>gd b (bin .add 0 y5 (.v (.string { data:=#[32] })) S fun d S=>ixS 3 1 y4 y6 S fun e S=>ld1 e S fun f S=>callF Pg 26 [f] S Q fun g S=>bin .add 0 d g S fun h S=>bin .add 0 y6 (.v (.int .i64 1)) S fun i S=>KE0 55 (env43_0 y4 h i) S) (bin .add 0 y5 (.v (.string { data:=#[10] })) S fun k S=>Q (.ret k) S)
theorem b43_0_eq(y4 y5 y6:AV)(S:Store)(KE0:KeT)(Q:PoT):vc Pg (c43.at_ [1,1,1,1,0,1,0,0]) (ms43.drop 1) (mkE 55 lv43_0 (env43_0 y4 y5 y6)) S (thenK (fgK lv43_0 KE0) (blockK 0 (seqK (vc Pg (c43.at_ [1,1,1,1,1]) (ms43.drop 1)) (bodyK Pg r43 Q))))=b43_0 y4 y5 y6 S KE0 Q:=by kernel_rfl
theorem loop43_0{y4:AV}{y50 y60:AV}{S:Store}{Q:PoT}(I:AV→AV→Store→Prop)(μ:AV→AV→Store→Nat)(h0:I y50 y60 S)
    (hr:∀(y5 y6:AV) (S:Store),I y5 y6 S→∀ KE0:KeT,(∀(y5' y6':AV) (S':Store),I y5' y6' S'→μ y5' y6' S'<μ y5 y6 S→KE0 55 (env43_0 y4 y5' y6') S')→b43_0 y4 y5 y6 S KE0 Q):
    loopV lv43_0 (vc Pg (c43.at_ [1,1,1,1,0,1,0,0]) (ms43.drop 1)) 55 (env43_0 y4 y50 y60) S (blockK 0 (seqK (vc Pg (c43.at_ [1,1,1,1,1]) (ms43.drop 1)) (bodyK Pg r43 Q))):=by
 refine⟨fun n e S=>n=55∧∃ y5 y6:AV,e=(env43_0 y4 y5 y6)∧I y5 y6 S,fun _ e S=>μ (e.getD 1 .j) (e.getD 2 .j) S,?_,?_⟩
 ·exact⟨_,_,Wk.refl _ _,rfl,_,_,rfl,h0⟩
 ·rintro _ e S ⟨rfl,y5,y6,rfl,hI⟩
  exact(b43_0_eq _ _ _ _ _ _).mpr (hr y5 y6 S hI _ (fun y5' y6' S' hI' hm=>⟨_,_,Wk.refl _ _,⟨rfl,_,_,rfl,hI'⟩,hm⟩))
def c45:Code:=(Tryz.f45.body).getD .skip
def r45:List ResultVar:=Tryz.f45.results.toList
def env45_0(y0 y3 y4:AV):List AV:=[y0,y3,y4]
def lv45_0:List Nat:=[0,3,4]
def ms45:List (List Nat):=[lv45_0,[]]
def m45(x0:AV)(S:Store)(Q:PoT):Prop:=
 loopV lv45_0 (vc Pg (c45.at_ [1,1,0,1,0,0]) (ms45.drop 1)) 20 (env45_0 x0 (.v (.string { data:=#[] })) (.v (.int .i64 0))) S (blockK 0 (seqK (vc Pg (c45.at_ [1,1,1]) (ms45.drop 1)) (bodyK Pg r45 Q)))
theorem calls45{x0:AV}{S:Store}{Q:PoT}(h:m45 x0 S Q):ACalls Pg 45 [x0] S Q:=
 calls_of_vc (fn:=Tryz.f45) (c:=c45) (n:=20) Tryz.func45 (by kernel_rfl) (by kernel_rfl) (by kernel_rfl) ms45 (Eq.mpr (by kernel_rfl) h)
def b45_0(y0 y3 y4:AV)(S:Store)(KE0:KeT)(Q:PoT):Prop:=
 lenS y0 S fun a S=>bin .lss 0 y4 a S fun c S=>onB c fun b=>gd b (ixS 3 1 y0 y4 S fun d S=>ld1 d S fun e S=>callF Pg 26 [e] S Q fun f S=>bin .add 0 y3 f S fun g S=>bin .add 0 g (.v (.string { data:=#[10] })) S fun h S=>bin .add 0 y4 (.v (.int .i64 1)) S fun i S=>KE0 20 (env45_0 y0 h i) S) (Q (.ret y3) S)
theorem b45_0_eq(y0 y3 y4:AV)(S:Store)(KE0:KeT)(Q:PoT):vc Pg (c45.at_ [1,1,0,1,0,0]) (ms45.drop 1) (mkE 20 lv45_0 (env45_0 y0 y3 y4)) S (thenK (fgK lv45_0 KE0) (blockK 0 (seqK (vc Pg (c45.at_ [1,1,1]) (ms45.drop 1)) (bodyK Pg r45 Q))))=b45_0 y0 y3 y4 S KE0 Q:=by kernel_rfl
theorem loop45_0{y0:AV}{y30 y40:AV}{S:Store}{Q:PoT}(I:AV→AV→Store→Prop)(μ:AV→AV→Store→Nat)(h0:I y30 y40 S)
    (hr:∀(y3 y4:AV) (S:Store),I y3 y4 S→∀ KE0:KeT,(∀(y3' y4':AV) (S':Store),I y3' y4' S'→μ y3' y4' S'<μ y3 y4 S→KE0 20 (env45_0 y0 y3' y4') S')→b45_0 y0 y3 y4 S KE0 Q):
    loopV lv45_0 (vc Pg (c45.at_ [1,1,0,1,0,0]) (ms45.drop 1)) 20 (env45_0 y0 y30 y40) S (blockK 0 (seqK (vc Pg (c45.at_ [1,1,1]) (ms45.drop 1)) (bodyK Pg r45 Q))):=by
 refine⟨fun n e S=>n=20∧∃ y3 y4:AV,e=(env45_0 y0 y3 y4)∧I y3 y4 S,fun _ e S=>μ (e.getD 1 .j) (e.getD 2 .j) S,?_,?_⟩
 ·exact⟨_,_,Wk.refl _ _,rfl,_,_,rfl,h0⟩
 ·rintro _ e S ⟨rfl,y3,y4,rfl,hI⟩
  exact(b45_0_eq _ _ _ _ _ _).mpr (hr y3 y4 S hI _ (fun y3' y4' S' hI' hm=>⟨_,_,Wk.refl _ _,⟨rfl,_,_,rfl,hI'⟩,hm⟩))
def c44:Code:=(Tryz.f44.body).getD .skip
def ms44:List (List Nat):=[[]]
def m44(x0 x1:AV)(S:Store)(Q:PoT):Prop:=
 boxN 29 8 x0 S fun a S=>shift a 1 S fun c S=>ld1 c S fun d S=>ixS 51 2 d x1 S fun e S=>shift e 0 S fun f S=>ld1 f S fun g S=>callF Pg 26 [g] S Q fun h S=>shift a 1 S fun i S=>ld1 i S fun k S=>ixS 51 2 k x1 S fun l S=>shift l 1 S fun m S=>ld1 m S fun n S=>bin .eql 0 n (.v (.int .i64 1)) S fun o S=>onB o fun b=>gd b (bin .add 0 h (.v (.string { data:=#[32,49] })) S fun p S=>bin .add 0 p (.v (.string { data:=#[10] })) S fun q S=>Q (.ret q) S) (bin .eql 0 n (.v (.int .i64 2)) S fun r S=>onB r fun b=>gd b (bin .add 0 h (.v (.string { data:=#[32] })) S fun s S=>shift a 0 S fun t S=>ld1 t S fun u S=>bin .add 0 u x1 S fun w S=>bin .add 0 w (.v (.int .i64 1)) S fun x S=>bin .mul 0 (.v (.int .i64 2)) x S fun y S=>callF Pg 26 [y] S Q fun z S=>bin .add 0 s z S fun A S=>bin .add 0 A (.v (.string { data:=#[10] })) S fun B S=>Q (.ret B) S) (bin .add 0 h (.v (.string { data:=#[10] })) S fun C S=>Q (.ret C) S))
theorem calls44{x0 x1:AV}{S:Store}{Q:PoT}(h:m44 x0 x1 S Q):ACalls Pg 44 [x0,x1] S Q:=
 calls_of_vc (fn:=Tryz.f44) (c:=c44) (n:=37) Tryz.func44 (by kernel_rfl) (by kernel_rfl) (by kernel_rfl) ms44 (Eq.mpr (by kernel_rfl) h)
def c46:Code:=(Tryz.f46.body).getD .skip
def r46:List ResultVar:=Tryz.f46.results.toList
def env46_0(y1 y3 y4:AV):List AV:=[y1,y3,y4]
def lv46_0:List Nat:=[1,3,4]
def ms46:List (List Nat):=[lv46_0,[]]
def m46(x0:AV)(S:Store)(Q:PoT):Prop:=
 boxN 29 8 x0 S fun a S=>loopV lv46_0 (vc Pg (c46.at_ [1,1,0,1,0,0]) (ms46.drop 1)) 40 (env46_0 a (.v (.string { data:=#[] })) (.v (.int .i64 0))) S (blockK 0 (seqK (vc Pg (c46.at_ [1,1,1]) (ms46.drop 1)) (bodyK Pg r46 Q)))
theorem calls46{x0:AV}{S:Store}{Q:PoT}(h:m46 x0 S Q):ACalls Pg 46 [x0] S Q:=
 calls_of_vc (fn:=Tryz.f46) (c:=c46) (n:=40) Tryz.func46 (by kernel_rfl) (by kernel_rfl) (by kernel_rfl) ms46 (Eq.mpr (by kernel_rfl) h)
def b46_0(y1 y3 y4:AV)(S:Store)(KE0:KeT)(Q:PoT):Prop:=
 shift y1 7 S fun a S=>ld1 a S fun c S=>lenS c S fun d S=>bin .lss 0 y4 d S fun e S=>onB e fun b=>gd b ((fun S0:Store=>∃ f:AV,(shift y1 7 S fun g S=>g=f∧S=S0)∧∃ h:AV,(ld1 f S fun i S=>i=h∧S=S0)∧∃ k:AV,(ixS 75 3 h y4 S fun l S=>l=k∧S=S0)∧∃ m:AV,(shift k 0 S fun n S=>n=m∧S=S0)∧∃ o:AV,(ld1 m S fun p S=>p=o∧S=S0)∧∃ q:AV,(bslN 5 1 1 [.v (.int .u8 0)] [(0,o)] S fun r S=>r=q∧S=S0)∧∃ s:AV,(convBS q S fun t S=>t=s∧S=S0)∧∃ u:AV,(bin .add 0 y3 s S fun w S=>w=u∧S=S0)∧∃ x:AV,(shift y1 7 S fun y S=>y=x∧S=S0)∧∃ z:AV,(ld1 x S fun A S=>A=z∧S=S0)∧∃ B:AV,(ixS 75 3 z y4 S fun C S=>C=B∧S=S0)∧∃ D:AV,(shift B 1 S fun E S=>E=D∧S=S0)∧∃ F:AV,(ld1 D S fun G S=>G=F∧S=S0)∧∃ H:AV,(callF Pg 26 [F] S (fun _ _=>False) fun I S=>I=H∧S=S0)∧∃ J:AV,(bin .add 0 u H S fun K S=>K=J∧S=S0)∧∃ L:AV,(bin .add 0 J (.v (.string { data:=#[32] })) S fun M S=>M=L∧S=S0)∧∃ N:AV,(shift y1 7 S fun O S=>O=N∧S=S0)∧∃ P:AV,(ld1 N S fun R S=>R=P∧S=S0)∧∃ T:AV,(ixS 75 3 P y4 S fun U S=>U=T∧S=S0)∧∃ V:AV,(shift T 2 S fun W S=>W=V∧S=S0)∧∃ X:AV,(ld1 V S fun Y S=>Y=X∧S=S0)∧∃ Z:AV,(bin .add 0 L X S fun a0 S=>a0=Z∧S=S0)∧∃ a1:AV,(bin .add 0 Z (.v (.string { data:=#[10] })) S fun a2 S=>a2=a1∧S=S0)∧bin .add 0 y4 (.v (.int .i64 1)) S fun a3 S=>KE0 40 (env46_0 y1 a1 a3) S) S) (Q (.ret y3) S)
theorem b46_0_eq(y1 y3 y4:AV)(S:Store)(KE0:KeT)(Q:PoT):vc Pg (c46.at_ [1,1,0,1,0,0]) (ms46.drop 1) (mkE 40 lv46_0 (env46_0 y1 y3 y4)) S (thenK (fgK lv46_0 KE0) (blockK 0 (seqK (vc Pg (c46.at_ [1,1,1]) (ms46.drop 1)) (bodyK Pg r46 Q))))=b46_0 y1 y3 y4 S KE0 Q:=by kernel_rfl
theorem loop46_0{y1:AV}{y30 y40:AV}{S:Store}{Q:PoT}(I:AV→AV→Store→Prop)(μ:AV→AV→Store→Nat)(h0:I y30 y40 S)
    (hr:∀(y3 y4:AV) (S:Store),I y3 y4 S→∀ KE0:KeT,(∀(y3' y4':AV) (S':Store),I y3' y4' S'→μ y3' y4' S'<μ y3 y4 S→KE0 40 (env46_0 y1 y3' y4') S')→b46_0 y1 y3 y4 S KE0 Q):
    loopV lv46_0 (vc Pg (c46.at_ [1,1,0,1,0,0]) (ms46.drop 1)) 40 (env46_0 y1 y30 y40) S (blockK 0 (seqK (vc Pg (c46.at_ [1,1,1]) (ms46.drop 1)) (bodyK Pg r46 Q))):=by
 refine⟨fun n e S=>n=40∧∃ y3 y4:AV,e=(env46_0 y1 y3 y4)∧I y3 y4 S,fun _ e S=>μ (e.getD 1 .j) (e.getD 2 .j) S,?_,?_⟩
 ·exact⟨_,_,Wk.refl _ _,rfl,_,_,rfl,h0⟩
 ·rintro _ e S ⟨rfl,y3,y4,rfl,hI⟩
  exact(b46_0_eq _ _ _ _ _ _).mpr (hr y3 y4 S hI _ (fun y3' y4' S' hI' hm=>⟨_,_,Wk.refl _ _,⟨rfl,_,_,rfl,hI'⟩,hm⟩))
def c21:Code:=(Tryz.f21.body).getD .skip
def c41:Code:=(Tryz.f41.body).getD .skip
def ms41:List (List Nat):=[[]]
def m41(x0:AV)(S:Store)(Q:PoT):Prop:=
 ∃ a:AV,(∀ T:Store,Keep S T→nilChk x0 T fun c S=>c=a∧S=T)∧∃ d:AV,(∀ T:Store,Keep S T→shift a 1 T fun e S=>e=d∧S=T)∧∃ f:AV,(∀ T:Store,Keep S T→ld1 d T fun g S=>g=f∧S=T)∧∃ h:AV,(∀ T:Store,Keep S T→usd f T fun i S=>i=h∧S=T)∧∃ k:AV,(∀ T:Store,Keep S T→nilChk x0 T fun l S=>l=k∧S=T)∧∃ m:AV,(∀ T:Store,Keep S T→shift k 1 T fun n S=>n=m∧S=T)∧∃ o:AV,(∀ T:Store,Keep S T→ld1 m T fun p S=>p=o∧S=T)∧∃ q:AV,(∀ T:Store,Keep S T→lenS o T fun r S=>r=q∧S=T)∧ustN 5 h q S fun s S=>Q (.ret s) S
theorem calls41{x0:AV}{S:Store}{Q:PoT}(h:m41 x0 S Q):ACalls Pg 41 [x0] S Q:=
 calls_of_vc (fn:=Tryz.f41) (c:=c41) (n:=14) Tryz.func41 (by kernel_rfl) (by kernel_rfl) (by kernel_rfl) ms41 (Eq.mpr (by kernel_rfl) h)
def c20:Code:=(Tryz.f20.body).getD .skip
def r20:List ResultVar:=Tryz.f20.results.toList
def env20_0(y1 y4 y18 y19:AV):List AV:=[y1,y4,y18,y19]
def lv20_0:List Nat:=[1,4,18,19]
def env20_1(y1 y4 y32 y33:AV):List AV:=[y1,y4,y32,y33]
def lv20_1:List Nat:=[1,4,32,33]
def env20_2(y1 y4 y49 y50 y51:AV):List AV:=[y1,y4,y49,y50,y51]
def lv20_2:List Nat:=[1,4,49,50,51]
def ms20:List (List Nat):=[lv20_0,lv20_1,lv20_2,[1,35,34,37,39,40,41]]
def m20(x0:AV)(S:Store)(Q:PoT):Prop:=
 boxN 29 8 x0 S fun a S=>ldN 8 a S fun c S=>callF Pg 33 [c] S Q fun d S=>un .not d S fun e S=>onB e fun b=>gd b (Q (.ret (.t [(.v (.string { data:=#[] })),.v (.int .i64 1)])) S) (bld [(0,2)] [.v (.pointer none),.nl] [] S fun f S=>boxN 57 2 f S fun g S=>ldN 8 a S fun h S=>callF Pg 34 [g,(.v (.string { data:=#[97,97,103] })),h] S Q fun i S=>shift a 0 S fun k S=>ld1 k S fun l S=>loopV lv20_0 (vc Pg (c20.at_ [1,1,1,1,0,1,0,0]) (ms20.drop 1)) 82 (env20_0 a g l (.v (.int .i64 0))) S (blockK 0 (seqK (vc Pg (c20.at_ [1,1,1,1,1]) (ms20.drop 1)) (bodyK Pg r20 Q))))
theorem calls20{x0:AV}{S:Store}{Q:PoT}(h:m20 x0 S Q):ACalls Pg 20 [x0] S Q:=
 calls_of_vc (fn:=Tryz.f20) (c:=c20) (n:=82) Tryz.func20 (by kernel_rfl) (by kernel_rfl) (by kernel_rfl) ms20 (Eq.mpr (by kernel_rfl) h)
def b20_0(y1 y4 y18 y19:AV)(S:Store)(KE0:KeT)(Q:PoT):Prop:=
 bin .lss 0 y19 y18 S fun a S=>onB a fun b=>gd b (bin .add 0 y19 (.v (.int .i64 1)) S fun c S=>bin .mul 0 (.v (.int .i64 2)) c S fun d S=>bslN 3 1 1 [.v (.int .i64 0)] [(0,d)] S fun e S=>callF Pg 36 [e] S Q fun f S=>callF Pg 35 [y4,f] S Q fun g S=>bin .add 0 y19 (.v (.int .i64 1)) S fun h S=>KE0 82 (env20_0 y1 y4 y18 h) S) (shift y1 1 S fun i S=>ld1 i S fun k S=>lenS k S fun l S=>loopV lv20_1 (vc Pg (c20.at_ [1,1,1,1,1,0,1,0,0]) (ms20.drop 2)) 82 (env20_1 y1 y4 l (.v (.int .i64 0))) S (blockK 2 (seqK (vc Pg (c20.at_ [1,1,1,1,1,1]) (ms20.drop 2)) (bodyK Pg r20 Q))))
theorem b20_0_eq(y1 y4 y18 y19:AV)(S:Store)(KE0:KeT)(Q:PoT):vc Pg (c20.at_ [1,1,1,1,0,1,0,0]) (ms20.drop 1) (mkE 82 lv20_0 (env20_0 y1 y4 y18 y19)) S (thenK (fgK lv20_0 KE0) (blockK 0 (seqK (vc Pg (c20.at_ [1,1,1,1,1]) (ms20.drop 1)) (bodyK Pg r20 Q))))=b20_0 y1 y4 y18 y19 S KE0 Q:=by kernel_rfl
theorem loop20_0{y1 y4 y18:AV}{y190:AV}{S:Store}{Q:PoT}(I:AV→Store→Prop)(μ:AV→Store→Nat)(h0:I y190 S)
    (hr:∀(y19:AV) (S:Store),I y19 S→∀ KE0:KeT,(∀(y19':AV) (S':Store),I y19' S'→μ y19' S'<μ y19 S→KE0 82 (env20_0 y1 y4 y18 y19') S')→b20_0 y1 y4 y18 y19 S KE0 Q):
    loopV lv20_0 (vc Pg (c20.at_ [1,1,1,1,0,1,0,0]) (ms20.drop 1)) 82 (env20_0 y1 y4 y18 y190) S (blockK 0 (seqK (vc Pg (c20.at_ [1,1,1,1,1]) (ms20.drop 1)) (bodyK Pg r20 Q))):=by
 refine⟨fun n e S=>n=82∧∃ y19:AV,e=(env20_0 y1 y4 y18 y19)∧I y19 S,fun _ e S=>μ (e.getD 3 .j) S,?_,?_⟩
 ·exact⟨_,_,Wk.refl _ _,rfl,_,rfl,h0⟩
 ·rintro _ e S ⟨rfl,y19,rfl,hI⟩
  exact(b20_0_eq _ _ _ _ _ _ _).mpr (hr y19 S hI _ (fun y19' S' hI' hm=>⟨_,_,Wk.refl _ _,⟨rfl,_,rfl,hI'⟩,hm⟩))
def b20_1(y1 y4 y32 y33:AV)(S:Store)(KE1:KeT)(Q:PoT):Prop:=
 bin .lss 0 y33 y32 S fun a S=>onB a fun b=>gd b (∃ c:AV,(∀ T:Store,Keep S T→ldN 8 y1 T fun d S=>d=c∧S=T)∧∃ e:AV,(∀ T:Store,Keep S T→ldN 8 y1 T fun f S=>f=e∧S=T)∧∃ g:AV,(∀ T:Store,Keep S T→callF Pg 38 [e,y33] T (fun _ _=>False) fun h S=>h=g∧S=T)∧bslN 3 1 1 [.v (.int .i64 0)] [(0,g)] S fun i S=>(∀ T:Store,Keep S T→ldN 8 y1 T fun k S=>k=c∧S=T)∧callF Pg 37 [y4,c,y33,i] S Q fun l S=>bin .add 0 y33 (.v (.int .i64 1)) S fun m S=>KE1 82 (env20_1 y1 y4 y32 m) S) (ldN 8 y1 S fun n S=>callF Pg 39 [y4,n] S Q fun o S=>shift y1 2 S fun p S=>ld1 p S fun q S=>lenS q S fun r S=>loopV lv20_2 (vc Pg (c20.at_ [1,1,1,1,1,1,1,0,1,0,0]) (ms20.drop 3)) 82 (env20_2 y1 y4 q r (.v (.int .i64 0))) S (blockK 4 (seqK (vc Pg (c20.at_ [1,1,1,1,1,1,1,1]) (ms20.drop 3)) (bodyK Pg r20 Q))))
theorem b20_1_eq(y1 y4 y32 y33:AV)(S:Store)(KE1:KeT)(Q:PoT):vc Pg (c20.at_ [1,1,1,1,1,0,1,0,0]) (ms20.drop 2) (mkE 82 lv20_1 (env20_1 y1 y4 y32 y33)) S (thenK (fgK lv20_1 KE1) (blockK 2 (seqK (vc Pg (c20.at_ [1,1,1,1,1,1]) (ms20.drop 2)) (bodyK Pg r20 Q))))=b20_1 y1 y4 y32 y33 S KE1 Q:=by kernel_rfl
theorem loop20_1{y1 y4 y32:AV}{y330:AV}{S:Store}{Q:PoT}(I:AV→Store→Prop)(μ:AV→Store→Nat)(h0:I y330 S)
    (hr:∀(y33:AV) (S:Store),I y33 S→∀ KE1:KeT,(∀(y33':AV) (S':Store),I y33' S'→μ y33' S'<μ y33 S→KE1 82 (env20_1 y1 y4 y32 y33') S')→b20_1 y1 y4 y32 y33 S KE1 Q):
    loopV lv20_1 (vc Pg (c20.at_ [1,1,1,1,1,0,1,0,0]) (ms20.drop 2)) 82 (env20_1 y1 y4 y32 y330) S (blockK 2 (seqK (vc Pg (c20.at_ [1,1,1,1,1,1]) (ms20.drop 2)) (bodyK Pg r20 Q))):=by
 refine⟨fun n e S=>n=82∧∃ y33:AV,e=(env20_1 y1 y4 y32 y33)∧I y33 S,fun _ e S=>μ (e.getD 3 .j) S,?_,?_⟩
 ·exact⟨_,_,Wk.refl _ _,rfl,_,rfl,h0⟩
 ·rintro _ e S ⟨rfl,y33,rfl,hI⟩
  exact(b20_1_eq _ _ _ _ _ _ _).mpr (hr y33 S hI _ (fun y33' S' hI' hm=>⟨_,_,Wk.refl _ _,⟨rfl,_,rfl,hI'⟩,hm⟩))
def b20_2(y1 y4 y49 y50 y51:AV)(S:Store)(KE2:KeT)(Q:PoT):Prop:=
 bin .lss 0 y51 y50 S fun c S=>onB c fun b=>gd b (ixS 48 2 y49 y51 S fun d S=>ldN 2 d S fun e S=>boxN 48 2 (.a [.v (.int .i64 0),.v (.int .i64 0)]) S fun f S=>stN 2 f e S fun g S=>shift y1 0 S fun h S=>ld1 h S fun i S=>shift y1 1 S fun k S=>ld1 k S fun l S=>lenS l S fun m S=>bin .add 0 i m S fun n S=>bin .add 0 n (.v (.int .i64 1)) S fun o S=>bin .add 0 o y51 S fun p S=>bin .mul 0 (.v (.int .i64 2)) p S fun q S=>ixA 2 1 f (.v (.int .i64 0)) S fun r S=>ld1 r S fun s S=>ixA 2 1 f (.v (.int .i64 1)) S fun u S=>ld1 u S fun w S=>bslN 3 1 3 [.v (.int .i64 0)] [(0,q),(1,s),(2,w)] S fun x S=>callF Pg 36 [x] S Q fun y S=>callF Pg 35 [y4,y] S Q fun z S=>bin .add 0 y51 (.v (.int .i64 1)) S fun A S=>KE2 82 (env20_2 y1 y4 y49 y50 A) S) (ldN 8 y1 S fun B S=>callF Pg 40 [y4,B] S Q fun C S=>nilChk y4 S fun D S=>shift D 0 S fun E S=>callF Pg 41 [E] S Q fun F S=>Q (.ret (.t [F,.v (.int .i64 0)])) S)
theorem b20_2_eq(y1 y4 y49 y50 y51:AV)(S:Store)(KE2:KeT)(Q:PoT):vc Pg (c20.at_ [1,1,1,1,1,1,1,0,1,0,0]) (ms20.drop 3) (mkE 82 lv20_2 (env20_2 y1 y4 y49 y50 y51)) S (thenK (fgK lv20_2 KE2) (blockK 4 (seqK (vc Pg (c20.at_ [1,1,1,1,1,1,1,1]) (ms20.drop 3)) (bodyK Pg r20 Q))))=b20_2 y1 y4 y49 y50 y51 S KE2 Q:=by kernel_rfl
theorem loop20_2{y1 y4 y49 y50:AV}{y510:AV}{S:Store}{Q:PoT}(I:AV→Store→Prop)(μ:AV→Store→Nat)(h0:I y510 S)
    (hr:∀(y51:AV) (S:Store),I y51 S→∀ KE2:KeT,(∀(y51':AV) (S':Store),I y51' S'→μ y51' S'<μ y51 S→KE2 82 (env20_2 y1 y4 y49 y50 y51') S')→b20_2 y1 y4 y49 y50 y51 S KE2 Q):
    loopV lv20_2 (vc Pg (c20.at_ [1,1,1,1,1,1,1,0,1,0,0]) (ms20.drop 3)) 82 (env20_2 y1 y4 y49 y50 y510) S (blockK 4 (seqK (vc Pg (c20.at_ [1,1,1,1,1,1,1,1]) (ms20.drop 3)) (bodyK Pg r20 Q))):=by
 refine⟨fun n e S=>n=82∧∃ y51:AV,e=(env20_2 y1 y4 y49 y50 y51)∧I y51 S,fun _ e S=>μ (e.getD 4 .j) S,?_,?_⟩
 ·exact⟨_,_,Wk.refl _ _,rfl,_,rfl,h0⟩
 ·rintro _ e S ⟨rfl,y51,rfl,hI⟩
  exact(b20_2_eq _ _ _ _ _ _ _ _).mpr (hr y51 S hI _ (fun y51' S' hI' hm=>⟨_,_,Wk.refl _ _,⟨rfl,_,rfl,hI'⟩,hm⟩))
def c40:Code:=(Tryz.f40.body).getD .skip
def r40:List ResultVar:=Tryz.f40.results.toList
def env40_0(y0 y7 y8 y9:AV):List AV:=[y0,y7,y8,y9]
def lv40_0:List Nat:=[0,7,8,9]
def ms40:List (List Nat):=[lv40_0,[35]]
def m40(x0 x1:AV)(S:Store)(Q:PoT):Prop:=
 boxN 29 8 x1 S fun a S=>shift a 7 S fun c S=>ld1 c S fun d S=>lenS d S fun e S=>loopV lv40_0 (vc Pg (c40.at_ [1,1,0,0]) (ms40.drop 1)) 28 (env40_0 x0 d e (.v (.int .i64 0))) S (blockK 0 (bodyK Pg r40 Q))
theorem calls40{x0 x1:AV}{S:Store}{Q:PoT}(h:m40 x0 x1 S Q):ACalls Pg 40 [x0,x1] S Q:=
 calls_of_vc (fn:=Tryz.f40) (c:=c40) (n:=28) Tryz.func40 (by kernel_rfl) (by kernel_rfl) (by kernel_rfl) ms40 (Eq.mpr (by kernel_rfl) h)
def b40_0(y0 y7 y8 y9:AV)(S:Store)(KE0:KeT)(Q:PoT):Prop:=
 bin .lss 0 y9 y8 S fun c S=>onB c fun b=>gd b (ixS 75 3 y7 y9 S fun d S=>ldN 3 d S fun e S=>boxN 75 3 (.a [.v (.int .u8 0),.v (.int .i64 0),.v (.string ByteArray.empty)]) S fun f S=>stN 3 f e S fun g S=>∃ h:AV,(∀ T:Store,Keep S T→shift f 0 T fun i S=>i=h∧S=T)∧∃ k:AV,(∀ T:Store,Keep S T→ld1 h T fun l S=>l=k∧S=T)∧∃ m:AV,(∀ T:Store,Keep S T→bslN 5 1 1 [.v (.int .u8 0)] [(0,k)] T fun n S=>n=m∧S=T)∧∃ o:AV,(∀ T:Store,Keep S T→convBS m T fun p S=>p=o∧S=T)∧∃ q:AV,(∀ T:Store,Keep S T→shift f 1 T fun r S=>r=q∧S=T)∧∃ s:AV,(∀ T:Store,Keep S T→ld1 q T fun u S=>u=s∧S=T)∧∃ w:AV,(∀ T:Store,Keep S T→callF Pg 84 [s] T (fun _ _=>False) fun x S=>x=w∧S=T)∧∃ y:AV,(∀ T:Store,Keep S T→bin .add 0 o w T fun z S=>z=y∧S=T)∧∃ A:AV,(∀ T:Store,Keep S T→bin .add 0 y (.v (.string { data:=#[32] })) T fun B S=>B=A∧S=T)∧∃ C:AV,(∀ T:Store,Keep S T→shift f 2 T fun D S=>D=C∧S=T)∧∃ E:AV,(∀ T:Store,Keep S T→ld1 C T fun F S=>F=E∧S=T)∧∃ G:AV,(∀ T:Store,Keep S T→bin .add 0 A E T fun H S=>H=G∧S=T)∧callF Pg 35 [y0,G] S Q fun I S=>bin .add 0 y9 (.v (.int .i64 1)) S fun J S=>KE0 28 (env40_0 y0 y7 y8 J) S) (Q (.ret (.t [])) S)
theorem b40_0_eq(y0 y7 y8 y9:AV)(S:Store)(KE0:KeT)(Q:PoT):vc Pg (c40.at_ [1,1,0,0]) (ms40.drop 1) (mkE 28 lv40_0 (env40_0 y0 y7 y8 y9)) S (thenK (fgK lv40_0 KE0) (blockK 0 (bodyK Pg r40 Q)))=b40_0 y0 y7 y8 y9 S KE0 Q:=by kernel_rfl
theorem loop40_0{y0 y7 y8:AV}{y90:AV}{S:Store}{Q:PoT}(I:AV→Store→Prop)(μ:AV→Store→Nat)(h0:I y90 S)
    (hr:∀(y9:AV) (S:Store),I y9 S→∀ KE0:KeT,(∀(y9':AV) (S':Store),I y9' S'→μ y9' S'<μ y9 S→KE0 28 (env40_0 y0 y7 y8 y9') S')→b40_0 y0 y7 y8 y9 S KE0 Q):
    loopV lv40_0 (vc Pg (c40.at_ [1,1,0,0]) (ms40.drop 1)) 28 (env40_0 y0 y7 y8 y90) S (blockK 0 (bodyK Pg r40 Q)):=by
 refine⟨fun n e S=>n=28∧∃ y9:AV,e=(env40_0 y0 y7 y8 y9)∧I y9 S,fun _ e S=>μ (e.getD 3 .j) S,?_,?_⟩
 ·exact⟨_,_,Wk.refl _ _,rfl,_,rfl,h0⟩
 ·rintro _ e S ⟨rfl,y9,rfl,hI⟩
  exact(b40_0_eq _ _ _ _ _ _ _).mpr (hr y9 S hI _ (fun y9' S' hI' hm=>⟨_,_,Wk.refl _ _,⟨rfl,_,rfl,hI'⟩,hm⟩))
def c38:Code:=(Tryz.f38.body).getD .skip
def ms38:List (List Nat):=[[]]
def m38(x0 x1:AV)(S:Store)(Q:PoT):Prop:=
 boxN 29 8 x0 S fun a S=>shift a 0 S fun c S=>ld1 c S fun d S=>bin .add 0 d x1 S fun e S=>bin .add 0 e (.v (.int .i64 1)) S fun f S=>bin .mul 0 (.v (.int .i64 2)) f S fun g S=>Q (.ret g) S
theorem calls38{x0 x1:AV}{S:Store}{Q:PoT}(h:m38 x0 x1 S Q):ACalls Pg 38 [x0,x1] S Q:=
 calls_of_vc (fn:=Tryz.f38) (c:=c38) (n:=11) Tryz.func38 (by kernel_rfl) (by kernel_rfl) (by kernel_rfl) ms38 (Eq.mpr (by kernel_rfl) h)
def c37:Code:=(Tryz.f37.body).getD .skip
def ms37:List (List Nat):=[[35]]
def m37(x0 x1 x2 x3:AV)(S:Store)(Q:PoT):Prop:=
 boxN 29 8 x1 S fun c S=>shift c 1 S fun d S=>ld1 d S fun e S=>ixS 51 2 e x2 S fun f S=>ldN 2 f S fun g S=>boxN 51 2 (.a [.v (.int .i64 0),.v (.int .i64 0)]) S fun h S=>stN 2 h g S fun i S=>shift h 0 S fun k S=>ld1 k S fun l S=>bslN 3 1 1 [.v (.int .i64 0)] [(0,l)] S fun m S=>appS 3 1 8 x3 m S fun n S=>shift h 1 S fun o S=>ld1 o S fun p S=>bin .eql 0 p (.v (.int .i64 1)) S fun q S=>onB q fun b=>gd b (bslN 3 1 1 [.v (.int .i64 0)] [(0,(.v (.int .i64 1)))] S fun r S=>appS 3 1 8 n r S fun s S=>callF Pg 36 [s] S Q fun u S=>callF Pg 35 [x0,u] S Q fun w S=>Q (.ret (.t [])) S) (bin .eql 0 p (.v (.int .i64 2)) S fun x S=>onB x fun b=>gd b (ldN 8 c S fun y S=>callF Pg 38 [y,x2] S Q fun z S=>bslN 3 1 1 [.v (.int .i64 0)] [(0,z)] S fun A S=>appS 3 1 8 n A S fun B S=>callF Pg 36 [B] S Q fun C S=>callF Pg 35 [x0,C] S Q fun D S=>Q (.ret (.t [])) S) (callF Pg 36 [n] S Q fun E S=>callF Pg 35 [x0,E] S Q fun F S=>Q (.ret (.t [])) S))
theorem calls37{x0 x1 x2 x3:AV}{S:Store}{Q:PoT}(h:m37 x0 x1 x2 x3 S Q):ACalls Pg 37 [x0,x1,x2,x3] S Q:=
 calls_of_vc (fn:=Tryz.f37) (c:=c37) (n:=39) Tryz.func37 (by kernel_rfl) (by kernel_rfl) (by kernel_rfl) ms37 (Eq.mpr (by kernel_rfl) h)
def c34:Code:=(Tryz.f34.body).getD .skip
def ms34:List (List Nat):=[[35]]
def m34(x0 x1 x2:AV)(S:Store)(Q:PoT):Prop:=
 boxN 29 8 x2 S fun a S=>shift a 0 S fun c S=>ld1 c S fun d S=>shift a 1 S fun e S=>ld1 e S fun f S=>lenS f S fun g S=>bin .add 0 d g S fun h S=>shift a 2 S fun i S=>ld1 i S fun k S=>lenS k S fun l S=>bin .add 0 h l S fun m S=>bin .add 0 x1 (.v (.string { data:=#[32] })) S fun n S=>shift a 0 S fun o S=>ld1 o S fun p S=>shift a 1 S fun q S=>ld1 q S fun r S=>lenS r S fun s S=>shift a 3 S fun u S=>ld1 u S fun w S=>lenS w S fun x S=>shift a 2 S fun y S=>ld1 y S fun z S=>lenS z S fun A S=>shift a 4 S fun B S=>ld1 B S fun C S=>lenS C S fun D S=>shift a 5 S fun E S=>ld1 E S fun F S=>lenS F S fun G S=>shift a 6 S fun H S=>ld1 H S fun I S=>lenS I S fun J S=>bslN 3 1 9 [.v (.int .i64 0)] [(0,m),(1,p),(2,s),(3,x),(4,A),(5,D),(6,G),(7,(.v (.int .i64 0))),(8,J)] S fun K S=>callF Pg 36 [K] S Q fun L S=>bin .add 0 n L S fun M S=>callF Pg 35 [x0,M] S Q fun N S=>Q (.ret (.t [])) S
theorem calls34{x0 x1 x2:AV}{S:Store}{Q:PoT}(h:m34 x0 x1 x2 S Q):ACalls Pg 34 [x0,x1,x2] S Q:=
 calls_of_vc (fn:=Tryz.f34) (c:=c34) (n:=45) Tryz.func34 (by kernel_rfl) (by kernel_rfl) (by kernel_rfl) ms34 (Eq.mpr (by kernel_rfl) h)
def c39:Code:=(Tryz.f39.body).getD .skip
def r39:List ResultVar:=Tryz.f39.results.toList
def env39_0(y0 y16 y17:AV):List AV:=[y0,y16,y17]
def lv39_0:List Nat:=[0,16,17]
def env39_1(y0 y16 y17 y20 y21 y22:AV):List AV:=[y0,y16,y17,y20,y21,y22]
def lv39_1:List Nat:=[0,16,17,20,21,22]
def ms39:List (List Nat):=[lv39_0,lv39_1,[35]]
def m39(x0 x1:AV)(S:Store)(Q:PoT):Prop:=
 boxN 29 8 x1 S fun a S=>shift a 3 S fun c S=>ld1 c S fun d S=>shift a 4 S fun e S=>ld1 e S fun f S=>shift a 5 S fun g S=>ld1 g S fun h S=>shift a 6 S fun i S=>ld1 i S fun k S=>bld [(0,1),(1,1),(2,1),(3,1)] [.nl,.nl,.nl,.nl] [(0,d),(1,f),(2,h),(3,k)] S fun l S=>loopV lv39_0 (vc Pg (c39.at_ [1,1,0,0]) (ms39.drop 1)) 33 (env39_0 x0 l (.v (.int .i64 0))) S (blockK 0 (bodyK Pg r39 Q))
theorem calls39{x0 x1:AV}{S:Store}{Q:PoT}(h:m39 x0 x1 S Q):ACalls Pg 39 [x0,x1] S Q:=
 calls_of_vc (fn:=Tryz.f39) (c:=c39) (n:=33) Tryz.func39 (by kernel_rfl) (by kernel_rfl) (by kernel_rfl) ms39 (Eq.mpr (by kernel_rfl) h)
def b39_0(y0 y16 y17:AV)(S:Store)(KE0:KeT)(Q:PoT):Prop:=
 bin .lss 0 y17 (.v (.int .i64 4)) S fun a S=>onB a fun b=>gd b (optP (intA y17) fun z13=>(0≤z13∧z13<((4:Nat):Int))∧part1 y16 (z13.toNat*1) S fun c S=>lenS c S fun d S=>loopV lv39_1 (vc Pg (c39.at_ [1,1,0,0,1,1,0,0,1,1,0,0]) (ms39.drop 2)) 33 (env39_1 y0 y16 y17 c d (.v (.int .i64 0))) S (blockK 2 (blockK 1 (seqK (vc Pg (c39.at_ [1,1,0,0,1,1,1]) (ms39.drop 2)) (thenK (fgK lv39_0 KE0) (blockK 0 (bodyK Pg r39 Q))))))) (Q (.ret (.t [])) S)
theorem b39_0_eq(y0 y16 y17:AV)(S:Store)(KE0:KeT)(Q:PoT):vc Pg (c39.at_ [1,1,0,0]) (ms39.drop 1) (mkE 33 lv39_0 (env39_0 y0 y16 y17)) S (thenK (fgK lv39_0 KE0) (blockK 0 (bodyK Pg r39 Q)))=b39_0 y0 y16 y17 S KE0 Q:=by kernel_rfl
theorem loop39_0{y0 y16:AV}{y170:AV}{S:Store}{Q:PoT}(I:AV→Store→Prop)(μ:AV→Store→Nat)(h0:I y170 S)
    (hr:∀(y17:AV) (S:Store),I y17 S→∀ KE0:KeT,(∀(y17':AV) (S':Store),I y17' S'→μ y17' S'<μ y17 S→KE0 33 (env39_0 y0 y16 y17') S')→b39_0 y0 y16 y17 S KE0 Q):
    loopV lv39_0 (vc Pg (c39.at_ [1,1,0,0]) (ms39.drop 1)) 33 (env39_0 y0 y16 y170) S (blockK 0 (bodyK Pg r39 Q)):=by
 refine⟨fun n e S=>n=33∧∃ y17:AV,e=(env39_0 y0 y16 y17)∧I y17 S,fun _ e S=>μ (e.getD 2 .j) S,?_,?_⟩
 ·exact⟨_,_,Wk.refl _ _,rfl,_,rfl,h0⟩
 ·rintro _ e S ⟨rfl,y17,rfl,hI⟩
  exact(b39_0_eq _ _ _ _ _ _).mpr (hr y17 S hI _ (fun y17' S' hI' hm=>⟨_,_,Wk.refl _ _,⟨rfl,_,rfl,hI'⟩,hm⟩))
def b39_1(y0 y16 y17 y20 y21 y22:AV)(S:Store)(KE1:KeT)(KE0:KeT)(Q:PoT):Prop:=
 bin .lss 0 y22 y21 S fun a S=>onB a fun b=>gd b (ixS 3 1 y20 y22 S fun c S=>ld1 c S fun d S=>bslN 3 1 1 [.v (.int .i64 0)] [(0,d)] S fun e S=>callF Pg 36 [e] S Q fun f S=>callF Pg 35 [y0,f] S Q fun g S=>bin .add 0 y22 (.v (.int .i64 1)) S fun h S=>KE1 33 (env39_1 y0 y16 y17 y20 y21 h) S) (bin .add 0 y17 (.v (.int .i64 1)) S fun i S=>KE0 33 (env39_0 y0 y16 i) S)
theorem b39_1_eq(y0 y16 y17 y20 y21 y22:AV)(S:Store)(KE1:KeT)(KE0:KeT)(Q:PoT):vc Pg (c39.at_ [1,1,0,0,1,1,0,0,1,1,0,0]) (ms39.drop 2) (mkE 33 lv39_1 (env39_1 y0 y16 y17 y20 y21 y22)) S (thenK (fgK lv39_1 KE1) (blockK 2 (blockK 1 (seqK (vc Pg (c39.at_ [1,1,0,0,1,1,1]) (ms39.drop 2)) (thenK (fgK lv39_0 KE0) (blockK 0 (bodyK Pg r39 Q)))))))=b39_1 y0 y16 y17 y20 y21 y22 S KE1 KE0 Q:=by kernel_rfl
theorem loop39_1{y0 y16 y17 y20 y21:AV}{y220:AV}{S:Store}{KE0:KeT}{Q:PoT}(I:AV→Store→Prop)(μ:AV→Store→Nat)(h0:I y220 S)
    (hr:∀(y22:AV) (S:Store),I y22 S→∀ KE1:KeT,(∀(y22':AV) (S':Store),I y22' S'→μ y22' S'<μ y22 S→KE1 33 (env39_1 y0 y16 y17 y20 y21 y22') S')→b39_1 y0 y16 y17 y20 y21 y22 S KE1 KE0 Q):
    loopV lv39_1 (vc Pg (c39.at_ [1,1,0,0,1,1,0,0,1,1,0,0]) (ms39.drop 2)) 33 (env39_1 y0 y16 y17 y20 y21 y220) S (blockK 2 (blockK 1 (seqK (vc Pg (c39.at_ [1,1,0,0,1,1,1]) (ms39.drop 2)) (thenK (fgK lv39_0 KE0) (blockK 0 (bodyK Pg r39 Q)))))):=by
 refine⟨fun n e S=>n=33∧∃ y22:AV,e=(env39_1 y0 y16 y17 y20 y21 y22)∧I y22 S,fun _ e S=>μ (e.getD 5 .j) S,?_,?_⟩
 ·exact⟨_,_,Wk.refl _ _,rfl,_,rfl,h0⟩
 ·rintro _ e S ⟨rfl,y22,rfl,hI⟩
  exact(b39_1_eq _ _ _ _ _ _ _ _ _ _).mpr (hr y22 S hI _ (fun y22' S' hI' hm=>⟨_,_,Wk.refl _ _,⟨rfl,_,rfl,hI'⟩,hm⟩))
def c35:Code:=(Tryz.f35.body).getD .skip
def ms35:List (List Nat):=[[83]]
def m35(x0 x1:AV)(S:Store)(Q:PoT):Prop:=
 nilChk x0 S fun a S=>shift a 0 S fun c S=>bin .add 0 x1 (.v (.string { data:=#[10] })) S fun d S=>callF Pg 83 [c,d] S Q fun e S=>Q (.ret (.t [])) S
theorem calls35{x0 x1:AV}{S:Store}{Q:PoT}(h:m35 x0 x1 S Q):ACalls Pg 35 [x0,x1] S Q:=
 calls_of_vc (fn:=Tryz.f35) (c:=c35) (n:=10) Tryz.func35 (by kernel_rfl) (by kernel_rfl) (by kernel_rfl) ms35 (Eq.mpr (by kernel_rfl) h)
def c36:Code:=(Tryz.f36.body).getD .skip
def r36:List ResultVar:=Tryz.f36.results.toList
def env36_0(y3 y9 y10 y11:AV):List AV:=[y3,y9,y10,y11]
def lv36_0:List Nat:=[3,9,10,11]
def ms36:List (List Nat):=[lv36_0,[]]
def m36(x0:AV)(S:Store)(Q:PoT):Prop:=
 lenS x0 S fun a S=>mkN 9 16 [.v (.string ByteArray.empty)] a a S fun c S=>lenS x0 S fun d S=>loopV lv36_0 (vc Pg (c36.at_ [1,1,0,1,0,0]) (ms36.drop 1)) 24 (env36_0 c x0 d (.v (.int .i64 0))) S (blockK 0 (seqK (vc Pg (c36.at_ [1,1,1]) (ms36.drop 1)) (bodyK Pg r36 Q)))
theorem calls36{x0:AV}{S:Store}{Q:PoT}(h:m36 x0 S Q):ACalls Pg 36 [x0] S Q:=
 calls_of_vc (fn:=Tryz.f36) (c:=c36) (n:=24) Tryz.func36 (by kernel_rfl) (by kernel_rfl) (by kernel_rfl) ms36 (Eq.mpr (by kernel_rfl) h)
def b36_0(y3 y9 y10 y11:AV)(S:Store)(KE0:KeT)(Q:PoT):Prop:=
 bin .lss 0 y11 y10 S fun a S=>onB a fun b=>gd b (ixS 3 1 y9 y11 S fun c S=>ld1 c S fun d S=>callF Pg 84 [d] S Q fun e S=>ixS 9 1 y3 y11 S fun f S=>stN 1 f e S fun g S=>bin .add 0 y11 (.v (.int .i64 1)) S fun h S=>KE0 24 (env36_0 y3 y9 y10 h) S) (callF Pg 85 [y3,(.v (.string { data:=#[32] }))] S Q fun i S=>Q (.ret i) S)
theorem b36_0_eq(y3 y9 y10 y11:AV)(S:Store)(KE0:KeT)(Q:PoT):vc Pg (c36.at_ [1,1,0,1,0,0]) (ms36.drop 1) (mkE 24 lv36_0 (env36_0 y3 y9 y10 y11)) S (thenK (fgK lv36_0 KE0) (blockK 0 (seqK (vc Pg (c36.at_ [1,1,1]) (ms36.drop 1)) (bodyK Pg r36 Q))))=b36_0 y3 y9 y10 y11 S KE0 Q:=by kernel_rfl
theorem loop36_0{y3 y9 y10:AV}{y110:AV}{S:Store}{Q:PoT}(I:AV→Store→Prop)(μ:AV→Store→Nat)(h0:I y110 S)
    (hr:∀(y11:AV) (S:Store),I y11 S→∀ KE0:KeT,(∀(y11':AV) (S':Store),I y11' S'→μ y11' S'<μ y11 S→KE0 24 (env36_0 y3 y9 y10 y11') S')→b36_0 y3 y9 y10 y11 S KE0 Q):
    loopV lv36_0 (vc Pg (c36.at_ [1,1,0,1,0,0]) (ms36.drop 1)) 24 (env36_0 y3 y9 y10 y110) S (blockK 0 (seqK (vc Pg (c36.at_ [1,1,1]) (ms36.drop 1)) (bodyK Pg r36 Q))):=by
 refine⟨fun n e S=>n=24∧∃ y11:AV,e=(env36_0 y3 y9 y10 y11)∧I y11 S,fun _ e S=>μ (e.getD 3 .j) S,?_,?_⟩
 ·exact⟨_,_,Wk.refl _ _,rfl,_,rfl,h0⟩
 ·rintro _ e S ⟨rfl,y11,rfl,hI⟩
  exact(b36_0_eq _ _ _ _ _ _ _).mpr (hr y11 S hI _ (fun y11' S' hI' hm=>⟨_,_,Wk.refl _ _,⟨rfl,_,rfl,hI'⟩,hm⟩))
def c112:Code:=(Tryz.f112.body).getD .skip
def ms112:List (List Nat):=[[]]
def m112(x0:AV)(S:Store)(Q:PoT):Prop:=
 nilChk x0 S fun a S=>shift a 0 S fun c S=>ld1 c S fun d S=>nilV .eql 3 d S fun e S=>onB e fun b=>gd b (convU x0 S fun f S=>callF Pg 125 [f] S Q fun g S=>convQ Pg 55 g S fun h S=>nilChk x0 S fun i S=>shift i 0 S fun k S=>stN 1 k h S fun l S=>Q (.ret (.t [])) S) (nilChk x0 S fun m S=>shift m 0 S fun n S=>ld1 n S fun o S=>binQ .neq o x0 S fun p S=>onB p fun b=>gd b (False) (Q (.ret (.t [])) S))
theorem calls112{x0:AV}{S:Store}{Q:PoT}(h:m112 x0 S Q):ACalls Pg 112 [x0] S Q:=
 calls_of_vc (fn:=Tryz.f112) (c:=c112) (n:=20) Tryz.func112 (by kernel_rfl) (by kernel_rfl) (by kernel_rfl) ms112 (Eq.mpr (by kernel_rfl) h)
def c83:Code:=(Tryz.f83.body).getD .skip
def ms83:List (List Nat):=[[112]]
def m83(x0 x1:AV)(S:Store)(Q:PoT):Prop:=
 callF Pg 112 [x0] S Q fun a S=>nilChk x0 S fun c S=>shift c 1 S fun d S=>ld1 d S fun e S=>appT 5 e x1 S fun f S=>nilChk x0 S fun g S=>shift g 1 S fun h S=>stN 1 h f S fun i S=>lenStr x1 S fun k S=>Q (.ret (.t [k,(.v .nilIface)])) S
theorem calls83{x0 x1:AV}{S:Store}{Q:PoT}(h:m83 x0 x1 S Q):ACalls Pg 83 [x0,x1] S Q:=
 calls_of_vc (fn:=Tryz.f83) (c:=c83) (n:=19) Tryz.func83 (by kernel_rfl) (by kernel_rfl) (by kernel_rfl) ms83 (Eq.mpr (by kernel_rfl) h)
end
open Go Go.Shelf Go.Proofs
def laysItoa_ren:Go.Shelf.Ren:=⟨fun|171=>84|243=>113|246=>126|283=>135|284=>136|285=>137|286=>138|129=>155|317=>154|318=>156|319=>157|320=>158|337=>169|338=>170|n=>n,fun|3=>3|9=>9|2=>2|4=>4|171=>172|0=>0|53=>173|37=>37|5=>5|173=>176|212=>191|51=>144|20=>20|213=>192|46=>135|232=>217|233=>218|n=>n,fun|17=>1|18=>6|19=>7|n=>n⟩
theorem laysItoa:Go.Proofs.LaysM.n171 Pg laysItoa_ren where
 mixed:=by kernel_rfl
 f129:=Tryz.func155.trans (congrArg some (by kernel_rfl))
 f171:=Tryz.func84.trans (congrArg some (by kernel_rfl))
 f243:=Tryz.func113.trans (congrArg some (by kernel_rfl))
 f246:=Tryz.func126.trans (congrArg some (by kernel_rfl))
 f283:=Tryz.func135.trans (congrArg some (by kernel_rfl))
 f284:=Tryz.func136.trans (congrArg some (by kernel_rfl))
 f285:=Tryz.func137.trans (congrArg some (by kernel_rfl))
 f286:=Tryz.func138.trans (congrArg some (by kernel_rfl))
 f317:=Tryz.func154.trans (congrArg some (by kernel_rfl))
 f318:=Tryz.func156.trans (congrArg some (by kernel_rfl))
 f319:=Tryz.func157.trans (congrArg some (by kernel_rfl))
 f320:=Tryz.func158.trans (congrArg some (by kernel_rfl))
 f337:=Tryz.func169.trans (congrArg some (by kernel_rfl))
 f338:=Tryz.func170.trans (congrArg some (by kernel_rfl))
 t0:=Tryz.underlying0
 a0:=Tryz.isAgg0
 z0:=Tryz.sizeOf0
 v0:=Tryz.zeroValue0
 t2:=Tryz.underlying2
 a2:=Tryz.isAgg2
 z2:=Tryz.sizeOf2
 v2:=Tryz.zeroValue2
 t3:=Tryz.underlying3
 a3:=Tryz.isAgg3
 z3:=Tryz.sizeOf3
 v3:=Tryz.zeroValue3
 t4:=Tryz.underlying4
 a4:=Tryz.isAgg4
 z4:=Tryz.sizeOf4
 v4:=Tryz.zeroValue4
 t5:=Tryz.underlying5
 a5:=Tryz.isAgg5
 z5:=Tryz.sizeOf5
 v5:=Tryz.zeroValue5
 t9:=Tryz.underlying9
 a9:=Tryz.isAgg9
 z9:=Tryz.sizeOf9
 v9:=Tryz.zeroValue9
 t20:=Tryz.underlying20
 a20:=Tryz.isAgg20
 z20:=Tryz.sizeOf20
 v20:=Tryz.zeroValue20
 t37:=Tryz.underlying37
 a37:=Tryz.isAgg37
 z37:=Tryz.sizeOf37
 v37:=Tryz.zeroValue37
 t46:=Tryz.underlying135
 a46:=Tryz.isAgg135
 z46:=Tryz.sizeOf135
 v46:=Tryz.zeroValue135
 t51:=Tryz.underlying144
 a51:=Tryz.isAgg144
 z51:=Tryz.sizeOf144
 v51:=Tryz.zeroValue144
 t53:=Tryz.underlying173
 a53:=Tryz.isAgg173
 z53:=Tryz.sizeOf173
 v53:=Tryz.zeroValue173
 t171:=Tryz.underlying172
 a171:=Tryz.isAgg172
 z171:=Tryz.sizeOf172
 v171:=Tryz.zeroValue172
 t173:=Tryz.underlying176
 a173:=Tryz.isAgg176
 z173:=Tryz.sizeOf176
 v173:=Tryz.zeroValue176
 t212:=Tryz.underlying191
 a212:=Tryz.isAgg191
 z212:=Tryz.sizeOf191
 v212:=Tryz.zeroValue191
 t213:=Tryz.underlying192
 a213:=Tryz.isAgg192
 z213:=Tryz.sizeOf192
 t232:=Tryz.underlying217
 a232:=Tryz.isAgg217
 z232:=Tryz.sizeOf217
 v232:=Tryz.zeroValue217
 t233:=Tryz.underlying218
 a233:=Tryz.isAgg218
 z233:=Tryz.sizeOf218
 v233:=Tryz.zeroValue218
 g17:=by kernel_rfl
 g18:=by kernel_rfl
 g19:=by kernel_rfl
 i0:=by kernel_rfl
 i2:=by kernel_rfl
 i3:=by kernel_rfl
 i4:=by kernel_rfl
 i5:=by kernel_rfl
 i9:=by kernel_rfl
 i20:=by kernel_rfl
 i37:=by kernel_rfl
 i46:=by kernel_rfl
 i51:=by kernel_rfl
 i53:=by kernel_rfl
 i171:=by kernel_rfl
 i173:=by kernel_rfl
 i212:=by kernel_rfl
 i232:=by kernel_rfl
 i233:=by kernel_rfl
 m17:=by kernel_rfl
 m18:=by kernel_rfl
 m19:=by kernel_rfl
def laysAtoi_ren:Go.Shelf.Ren:=⟨fun|172=>119|244=>130|245=>131|247=>143|279=>144|280=>145|281=>146|282=>147|287=>160|316=>161|171=>84|205=>162|321=>171|322=>172|243=>113|246=>126|283=>135|284=>136|285=>137|286=>138|129=>155|317=>154|318=>156|319=>157|320=>158|337=>169|338=>170|n=>n,fun|9=>9|3=>3|75=>112|76=>113|4=>4|5=>5|167=>182|37=>37|0=>0|85=>183|2=>2|168=>185|53=>173|175=>194|46=>135|210=>198|127=>116|145=>213|143=>211|21=>21|171=>172|173=>176|212=>191|51=>144|20=>20|213=>192|232=>217|233=>218|80=>64|n=>n,fun|15=>2|16=>3|17=>1|18=>6|19=>7|n=>n⟩
theorem laysAtoi:Go.Proofs.LaysC.n172 Pg laysAtoi_ren where
 mixed:=by kernel_rfl
 f129:=Tryz.func155.trans (congrArg some (by kernel_rfl))
 f171:=Tryz.func84.trans (congrArg some (by kernel_rfl))
 f172:=Tryz.func119.trans (congrArg some (by kernel_rfl))
 f205:=Tryz.func162.trans (congrArg some (by kernel_rfl))
 f243:=Tryz.func113.trans (congrArg some (by kernel_rfl))
 f244:=Tryz.func130.trans (congrArg some (by kernel_rfl))
 f245:=Tryz.func131.trans (congrArg some (by kernel_rfl))
 f246:=Tryz.func126.trans (congrArg some (by kernel_rfl))
 f247:=Tryz.func143.trans (congrArg some (by kernel_rfl))
 f279:=Tryz.func144.trans (congrArg some (by kernel_rfl))
 f280:=Tryz.func145.trans (congrArg some (by kernel_rfl))
 f281:=Tryz.func146.trans (congrArg some (by kernel_rfl))
 f282:=Tryz.func147.trans (congrArg some (by kernel_rfl))
 f283:=Tryz.func135.trans (congrArg some (by kernel_rfl))
 f284:=Tryz.func136.trans (congrArg some (by kernel_rfl))
 f285:=Tryz.func137.trans (congrArg some (by kernel_rfl))
 f286:=Tryz.func138.trans (congrArg some (by kernel_rfl))
 f287:=Tryz.func160.trans (congrArg some (by kernel_rfl))
 f316:=Tryz.func161.trans (congrArg some (by kernel_rfl))
 f317:=Tryz.func154.trans (congrArg some (by kernel_rfl))
 f318:=Tryz.func156.trans (congrArg some (by kernel_rfl))
 f319:=Tryz.func157.trans (congrArg some (by kernel_rfl))
 f320:=Tryz.func158.trans (congrArg some (by kernel_rfl))
 f321:=Tryz.func171.trans (congrArg some (by kernel_rfl))
 f322:=Tryz.func172.trans (congrArg some (by kernel_rfl))
 f337:=Tryz.func169.trans (congrArg some (by kernel_rfl))
 f338:=Tryz.func170.trans (congrArg some (by kernel_rfl))
 t0:=Tryz.underlying0
 a0:=Tryz.isAgg0
 z0:=Tryz.sizeOf0
 v0:=Tryz.zeroValue0
 t2:=Tryz.underlying2
 a2:=Tryz.isAgg2
 z2:=Tryz.sizeOf2
 v2:=Tryz.zeroValue2
 t3:=Tryz.underlying3
 a3:=Tryz.isAgg3
 z3:=Tryz.sizeOf3
 v3:=Tryz.zeroValue3
 t4:=Tryz.underlying4
 a4:=Tryz.isAgg4
 z4:=Tryz.sizeOf4
 v4:=Tryz.zeroValue4
 t5:=Tryz.underlying5
 a5:=Tryz.isAgg5
 z5:=Tryz.sizeOf5
 v5:=Tryz.zeroValue5
 t9:=Tryz.underlying9
 a9:=Tryz.isAgg9
 z9:=Tryz.sizeOf9
 v9:=Tryz.zeroValue9
 t20:=Tryz.underlying20
 a20:=Tryz.isAgg20
 z20:=Tryz.sizeOf20
 v20:=Tryz.zeroValue20
 t21:=Tryz.underlying21
 a21:=Tryz.isAgg21
 z21:=Tryz.sizeOf21
 v21:=Tryz.zeroValue21
 t37:=Tryz.underlying37
 a37:=Tryz.isAgg37
 z37:=Tryz.sizeOf37
 v37:=Tryz.zeroValue37
 t46:=Tryz.underlying135
 a46:=Tryz.isAgg135
 z46:=Tryz.sizeOf135
 v46:=Tryz.zeroValue135
 t51:=Tryz.underlying144
 a51:=Tryz.isAgg144
 z51:=Tryz.sizeOf144
 v51:=Tryz.zeroValue144
 t53:=Tryz.underlying173
 a53:=Tryz.isAgg173
 z53:=Tryz.sizeOf173
 v53:=Tryz.zeroValue173
 t75:=Tryz.underlying112
 a75:=Tryz.isAgg112
 z75:=Tryz.sizeOf112
 v75:=Tryz.zeroValue112
 t76:=Tryz.underlying113
 a76:=Tryz.isAgg113
 z76:=Tryz.sizeOf113
 v76:=Tryz.zeroValue113
 t85:=Tryz.underlying183
 a85:=Tryz.isAgg183
 z85:=Tryz.sizeOf183
 v85:=Tryz.zeroValue183
 t127:=Tryz.underlying116
 a127:=Tryz.isAgg116
 z127:=Tryz.sizeOf116
 v127:=Tryz.zeroValue116
 t143:=Tryz.underlying211
 a143:=Tryz.isAgg211
 z143:=Tryz.sizeOf211
 v143:=Tryz.zeroValue211
 t145:=Tryz.underlying213
 a145:=Tryz.isAgg213
 z145:=Tryz.sizeOf213
 v145:=Tryz.zeroValue213
 t167:=Tryz.underlying182
 a167:=Tryz.isAgg182
 z167:=Tryz.sizeOf182
 v167:=Tryz.zeroValue182
 t168:=Tryz.underlying185
 a168:=Tryz.isAgg185
 z168:=Tryz.sizeOf185
 v168:=Tryz.zeroValue185
 t171:=Tryz.underlying172
 a171:=Tryz.isAgg172
 z171:=Tryz.sizeOf172
 v171:=Tryz.zeroValue172
 t173:=Tryz.underlying176
 a173:=Tryz.isAgg176
 z173:=Tryz.sizeOf176
 v173:=Tryz.zeroValue176
 t175:=Tryz.underlying194
 a175:=Tryz.isAgg194
 z175:=Tryz.sizeOf194
 v175:=Tryz.zeroValue194
 t210:=Tryz.underlying198
 a210:=Tryz.isAgg198
 z210:=Tryz.sizeOf198
 v210:=Tryz.zeroValue198
 t212:=Tryz.underlying191
 a212:=Tryz.isAgg191
 z212:=Tryz.sizeOf191
 v212:=Tryz.zeroValue191
 t213:=Tryz.underlying192
 a213:=Tryz.isAgg192
 z213:=Tryz.sizeOf192
 t232:=Tryz.underlying217
 a232:=Tryz.isAgg217
 z232:=Tryz.sizeOf217
 v232:=Tryz.zeroValue217
 t233:=Tryz.underlying218
 a233:=Tryz.isAgg218
 z233:=Tryz.sizeOf218
 v233:=Tryz.zeroValue218
 g15:=by kernel_rfl
 g16:=by kernel_rfl
 g17:=by kernel_rfl
 g18:=by kernel_rfl
 g19:=by kernel_rfl
 t80:=Tryz.underlying64
 a80:=Tryz.isAgg64
 z80:=Tryz.sizeOf64
 v80:=Tryz.zeroValue64
 i0:=by kernel_rfl
 i2:=by kernel_rfl
 i3:=by kernel_rfl
 i4:=by kernel_rfl
 i5:=by kernel_rfl
 i9:=by kernel_rfl
 i20:=by kernel_rfl
 i21:=by kernel_rfl
 i37:=by kernel_rfl
 i46:=by kernel_rfl
 i51:=by kernel_rfl
 i53:=by kernel_rfl
 i75:=by kernel_rfl
 i76:=by kernel_rfl
 i80:=by kernel_rfl
 i85:=by kernel_rfl
 i127:=by kernel_rfl
 i143:=by kernel_rfl
 i145:=by kernel_rfl
 i167:=by kernel_rfl
 i168:=by kernel_rfl
 i171:=by kernel_rfl
 i173:=by kernel_rfl
 i175:=by kernel_rfl
 i210:=by kernel_rfl
 i212:=by kernel_rfl
 i232:=by kernel_rfl
 i233:=by kernel_rfl
 m15:=by kernel_rfl
 m16:=by kernel_rfl
 m17:=by kernel_rfl
 m18:=by kernel_rfl
 m19:=by kernel_rfl
 c0:=by kernel_rfl
 c2:=by kernel_rfl
 c3:=by kernel_rfl
 c4:=by kernel_rfl
 c5:=by kernel_rfl
 c9:=by kernel_rfl
 c20:=by kernel_rfl
 c21:=by kernel_rfl
 c37:=by kernel_rfl
 c46:=by kernel_rfl
 c51:=by kernel_rfl
 c53:=by kernel_rfl
 c75:=by kernel_rfl
 c76:=by kernel_rfl
 c80:=by kernel_rfl
 c85:=by kernel_rfl
 c127:=by kernel_rfl
 c143:=by kernel_rfl
 c145:=by kernel_rfl
 c167:=by kernel_rfl
 c168:=by kernel_rfl
 c171:=by kernel_rfl
 c173:=by kernel_rfl
 c175:=by kernel_rfl
 c210:=by kernel_rfl
 c212:=by kernel_rfl
 c213:=by kernel_rfl
 c232:=by kernel_rfl
 c233:=by kernel_rfl
def laysContains_ren:Go.Shelf.Ren:=⟨fun|144=>97|143=>121|219=>132|217=>148|225=>149|224=>150|267=>151|266=>163|314=>164|n=>n,fun|9=>9|4=>4|3=>3|5=>5|46=>135|146=>200|51=>144|n=>n,fun|1=>0|n=>n⟩
theorem laysContains:Go.Proofs.Lays.n144 Pg laysContains_ren where
 mixed:=by kernel_rfl
 f143:=Tryz.func121.trans (congrArg some (by kernel_rfl))
 f144:=Tryz.func97.trans (congrArg some (by kernel_rfl))
 f217:=Tryz.func148.trans (congrArg some (by kernel_rfl))
 f219:=Tryz.func132.trans (congrArg some (by kernel_rfl))
 f224:=Tryz.func150.trans (congrArg some (by kernel_rfl))
 f225:=Tryz.func149.trans (congrArg some (by kernel_rfl))
 f266:=Tryz.func163.trans (congrArg some (by kernel_rfl))
 f267:=Tryz.func151.trans (congrArg some (by kernel_rfl))
 f314:=Tryz.func164.trans (congrArg some (by kernel_rfl))
 t3:=Tryz.underlying3
 a3:=Tryz.isAgg3
 z3:=Tryz.sizeOf3
 v3:=Tryz.zeroValue3
 t4:=Tryz.underlying4
 a4:=Tryz.isAgg4
 z4:=Tryz.sizeOf4
 v4:=Tryz.zeroValue4
 t5:=Tryz.underlying5
 a5:=Tryz.isAgg5
 z5:=Tryz.sizeOf5
 v5:=Tryz.zeroValue5
 t9:=Tryz.underlying9
 a9:=Tryz.isAgg9
 z9:=Tryz.sizeOf9
 v9:=Tryz.zeroValue9
 t46:=Tryz.underlying135
 a46:=Tryz.isAgg135
 z46:=Tryz.sizeOf135
 v46:=Tryz.zeroValue135
 t51:=Tryz.underlying144
 a51:=Tryz.isAgg144
 z51:=Tryz.sizeOf144
 v51:=Tryz.zeroValue144
 t146:=Tryz.underlying200
 a146:=Tryz.isAgg200
 z146:=Tryz.sizeOf200
 v146:=Tryz.zeroValue200
 g1:=by kernel_rfl
def laysCut_ren:Go.Shelf.Ren:=⟨fun|145=>96|220=>120|219=>132|217=>148|225=>149|224=>150|267=>151|266=>163|314=>164|n=>n,fun|9=>9|4=>4|59=>131|3=>3|5=>5|46=>135|146=>200|51=>144|n=>n,fun|1=>0|n=>n⟩
theorem laysCut:Go.Proofs.LaysM.n145 Pg laysCut_ren where
 mixed:=by kernel_rfl
 f145:=Tryz.func96.trans (congrArg some (by kernel_rfl))
 f217:=Tryz.func148.trans (congrArg some (by kernel_rfl))
 f219:=Tryz.func132.trans (congrArg some (by kernel_rfl))
 f220:=Tryz.func120.trans (congrArg some (by kernel_rfl))
 f224:=Tryz.func150.trans (congrArg some (by kernel_rfl))
 f225:=Tryz.func149.trans (congrArg some (by kernel_rfl))
 f266:=Tryz.func163.trans (congrArg some (by kernel_rfl))
 f267:=Tryz.func151.trans (congrArg some (by kernel_rfl))
 f314:=Tryz.func164.trans (congrArg some (by kernel_rfl))
 t3:=Tryz.underlying3
 a3:=Tryz.isAgg3
 z3:=Tryz.sizeOf3
 v3:=Tryz.zeroValue3
 t4:=Tryz.underlying4
 a4:=Tryz.isAgg4
 z4:=Tryz.sizeOf4
 v4:=Tryz.zeroValue4
 t5:=Tryz.underlying5
 a5:=Tryz.isAgg5
 z5:=Tryz.sizeOf5
 v5:=Tryz.zeroValue5
 t9:=Tryz.underlying9
 a9:=Tryz.isAgg9
 z9:=Tryz.sizeOf9
 v9:=Tryz.zeroValue9
 t46:=Tryz.underlying135
 a46:=Tryz.isAgg135
 z46:=Tryz.sizeOf135
 v46:=Tryz.zeroValue135
 t51:=Tryz.underlying144
 a51:=Tryz.isAgg144
 z51:=Tryz.sizeOf144
 v51:=Tryz.zeroValue144
 t59:=Tryz.underlying131
 a59:=Tryz.isAgg131
 z59:=Tryz.sizeOf131
 v59:=Tryz.zeroValue131
 t146:=Tryz.underlying200
 a146:=Tryz.isAgg200
 z146:=Tryz.sizeOf200
 v146:=Tryz.zeroValue200
 g1:=by kernel_rfl
 i3:=by kernel_rfl
 i4:=by kernel_rfl
 i5:=by kernel_rfl
 i9:=by kernel_rfl
 i46:=by kernel_rfl
 i51:=by kernel_rfl
 i59:=by kernel_rfl
 i146:=by kernel_rfl
 m1:=by kernel_rfl
 s1_3:=fun w h=>Go.Proofs.cell_of_shapedOpen_int (zero:=#[.int .i64 0]) (t:=3) h (dT (by kernel_rfl)) (by kernel_rfl) rfl (by kernel_rfl) (by kernel_rfl) Tryz.underlying3
def laysSplit_ren:Go.Shelf.Ren:=⟨fun|146=>93|221=>118|268=>128|138=>129|143=>121|195=>140|197=>141|218=>142|219=>132|260=>159|217=>148|225=>149|224=>150|267=>151|266=>163|314=>164|n=>n,fun|9=>9|31=>76|3=>3|4=>4|0=>0|105=>179|21=>21|5=>5|46=>135|119=>206|139=>209|138=>208|146=>200|51=>144|n=>n,fun|1=>0|3=>4|4=>5|n=>n⟩
theorem laysSplit:Go.Proofs.LaysM.n146 Pg laysSplit_ren where
 mixed:=by kernel_rfl
 f138:=Tryz.func129.trans (congrArg some (by kernel_rfl))
 f143:=Tryz.func121.trans (congrArg some (by kernel_rfl))
 f146:=Tryz.func93.trans (congrArg some (by kernel_rfl))
 f195:=Tryz.func140.trans (congrArg some (by kernel_rfl))
 f197:=Tryz.func141.trans (congrArg some (by kernel_rfl))
 f217:=Tryz.func148.trans (congrArg some (by kernel_rfl))
 f218:=Tryz.func142.trans (congrArg some (by kernel_rfl))
 f219:=Tryz.func132.trans (congrArg some (by kernel_rfl))
 f221:=Tryz.func118.trans (congrArg some (by kernel_rfl))
 f224:=Tryz.func150.trans (congrArg some (by kernel_rfl))
 f225:=Tryz.func149.trans (congrArg some (by kernel_rfl))
 f260:=Tryz.func159.trans (congrArg some (by kernel_rfl))
 f266:=Tryz.func163.trans (congrArg some (by kernel_rfl))
 f267:=Tryz.func151.trans (congrArg some (by kernel_rfl))
 f268:=Tryz.func128.trans (congrArg some (by kernel_rfl))
 f314:=Tryz.func164.trans (congrArg some (by kernel_rfl))
 t0:=Tryz.underlying0
 a0:=Tryz.isAgg0
 z0:=Tryz.sizeOf0
 v0:=Tryz.zeroValue0
 t3:=Tryz.underlying3
 a3:=Tryz.isAgg3
 z3:=Tryz.sizeOf3
 v3:=Tryz.zeroValue3
 t4:=Tryz.underlying4
 a4:=Tryz.isAgg4
 z4:=Tryz.sizeOf4
 v4:=Tryz.zeroValue4
 t5:=Tryz.underlying5
 a5:=Tryz.isAgg5
 z5:=Tryz.sizeOf5
 v5:=Tryz.zeroValue5
 t9:=Tryz.underlying9
 a9:=Tryz.isAgg9
 z9:=Tryz.sizeOf9
 v9:=Tryz.zeroValue9
 t21:=Tryz.underlying21
 a21:=Tryz.isAgg21
 z21:=Tryz.sizeOf21
 v21:=Tryz.zeroValue21
 t31:=Tryz.underlying76
 a31:=Tryz.isAgg76
 z31:=Tryz.sizeOf76
 v31:=Tryz.zeroValue76
 t46:=Tryz.underlying135
 a46:=Tryz.isAgg135
 z46:=Tryz.sizeOf135
 v46:=Tryz.zeroValue135
 t51:=Tryz.underlying144
 a51:=Tryz.isAgg144
 z51:=Tryz.sizeOf144
 v51:=Tryz.zeroValue144
 t105:=Tryz.underlying179
 a105:=Tryz.isAgg179
 z105:=Tryz.sizeOf179
 v105:=Tryz.zeroValue179
 t119:=Tryz.underlying206
 a119:=Tryz.isAgg206
 z119:=Tryz.sizeOf206
 t138:=Tryz.underlying208
 a138:=Tryz.isAgg208
 z138:=Tryz.sizeOf208
 v138:=Tryz.zeroValue208
 t139:=Tryz.underlying209
 a139:=Tryz.isAgg209
 z139:=Tryz.sizeOf209
 v139:=Tryz.zeroValue209
 t146:=Tryz.underlying200
 a146:=Tryz.isAgg200
 z146:=Tryz.sizeOf200
 v146:=Tryz.zeroValue200
 g1:=by kernel_rfl
 g3:=by kernel_rfl
 g4:=by kernel_rfl
 i0:=by kernel_rfl
 i3:=by kernel_rfl
 i4:=by kernel_rfl
 i5:=by kernel_rfl
 i9:=by kernel_rfl
 i21:=by kernel_rfl
 i31:=by kernel_rfl
 i46:=by kernel_rfl
 i51:=by kernel_rfl
 i105:=by kernel_rfl
 i138:=by kernel_rfl
 i139:=by kernel_rfl
 i146:=by kernel_rfl
 m1:=by kernel_rfl
 s1_3:=fun w h=>Go.Proofs.cell_of_shapedOpen_int (zero:=#[.int .i64 0]) (t:=3) h (dT (by kernel_rfl)) (by kernel_rfl) rfl (by kernel_rfl) (by kernel_rfl) Tryz.underlying3
 m3:=by kernel_rfl
 m4:=by kernel_rfl
def laysJoin_ren:Go.Shelf.Ren:=⟨fun|156=>85|165=>114|166=>83|169=>41|240=>112|241=>127|276=>125|277=>139|n=>n,fun|31=>76|9=>9|3=>3|4=>4|0=>0|20=>20|72=>55|76=>113|70=>53|37=>37|75=>112|127=>116|164=>166|5=>5|80=>64|n=>n,fun|n=>n⟩
theorem laysJoin:Go.Proofs.Lays.n156 Pg laysJoin_ren where
 mixed:=by kernel_rfl
 f156:=Tryz.func85.trans (congrArg some (by kernel_rfl))
 f165:=Tryz.func114.trans (congrArg some (by kernel_rfl))
 f166:=Tryz.func83.trans (congrArg some (by kernel_rfl))
 f169:=Tryz.func41.trans (congrArg some (by kernel_rfl))
 f240:=Tryz.func112.trans (congrArg some (by kernel_rfl))
 f241:=Tryz.func127.trans (congrArg some (by kernel_rfl))
 f276:=Tryz.func125.trans (congrArg some (by kernel_rfl))
 f277:=Tryz.func139.trans (congrArg some (by kernel_rfl))
 t0:=Tryz.underlying0
 a0:=Tryz.isAgg0
 z0:=Tryz.sizeOf0
 v0:=Tryz.zeroValue0
 t3:=Tryz.underlying3
 a3:=Tryz.isAgg3
 z3:=Tryz.sizeOf3
 v3:=Tryz.zeroValue3
 t4:=Tryz.underlying4
 a4:=Tryz.isAgg4
 z4:=Tryz.sizeOf4
 v4:=Tryz.zeroValue4
 t9:=Tryz.underlying9
 a9:=Tryz.isAgg9
 z9:=Tryz.sizeOf9
 v9:=Tryz.zeroValue9
 t20:=Tryz.underlying20
 a20:=Tryz.isAgg20
 z20:=Tryz.sizeOf20
 v20:=Tryz.zeroValue20
 t31:=Tryz.underlying76
 a31:=Tryz.isAgg76
 z31:=Tryz.sizeOf76
 v31:=Tryz.zeroValue76
 t37:=Tryz.underlying37
 a37:=Tryz.isAgg37
 z37:=Tryz.sizeOf37
 v37:=Tryz.zeroValue37
 t70:=Tryz.underlying53
 a70:=Tryz.isAgg53
 z70:=Tryz.sizeOf53
 v70:=Tryz.zeroValue53
 t72:=Tryz.underlying55
 a72:=Tryz.isAgg55
 z72:=Tryz.sizeOf55
 v72:=Tryz.zeroValue55
 t75:=Tryz.underlying112
 a75:=Tryz.isAgg112
 z75:=Tryz.sizeOf112
 v75:=Tryz.zeroValue112
 t76:=Tryz.underlying113
 a76:=Tryz.isAgg113
 z76:=Tryz.sizeOf113
 v76:=Tryz.zeroValue113
 t127:=Tryz.underlying116
 a127:=Tryz.isAgg116
 z127:=Tryz.sizeOf116
 v127:=Tryz.zeroValue116
 t164:=Tryz.underlying166
 a164:=Tryz.isAgg166
 z164:=Tryz.sizeOf166
 v164:=Tryz.zeroValue166
section
set_option maxRecDepth 100000
def c124:Code:=(Tryz.f124.body).getD .skip
def ms124:List (List Nat):=[[]]
def m124(x0:AV)(S:Store)(Q:PoT):Prop:=
 bin .neq 0 x0 x0 S fun a S=>Q (.ret a) S
theorem calls124{x0:AV}{S:Store}{Q:PoT}(h:m124 x0 S Q):ACalls Pg 124 [x0] S Q:=
 calls_of_vc (fn:=Tryz.f124) (c:=c124) (n:=6) Tryz.func124 (by kernel_rfl) (by kernel_rfl) (by kernel_rfl) ms124 (Eq.mpr (by kernel_rfl) h)
def c111:Code:=(Tryz.f111.body).getD .skip
def ms111:List (List Nat):=[[]]
def m111(x0 x1:AV)(S:Store)(Q:PoT):Prop:=
 callF Pg 124 [x0] S Q fun a S=>callF Pg 124 [x1] S Q fun c S=>onB a fun b=>gd b (onB c fun b=>gd b (Q (.ret (.v (.int .i64 0))) S) (Q (.ret (.v (.int .i64 (-1)))) S)) (onB c fun b=>gd b (Q (.ret (.v (.int .i64 1))) S) (bin .lss 0 x0 x1 S fun d S=>onB d fun b=>gd b (Q (.ret (.v (.int .i64 (-1)))) S) (bin .gtr 0 x0 x1 S fun e S=>onB e fun b=>gd b (Q (.ret (.v (.int .i64 1))) S) (Q (.ret (.v (.int .i64 0))) S))))
theorem calls111{x0 x1:AV}{S:Store}{Q:PoT}(h:m111 x0 x1 S Q):ACalls Pg 111 [x0,x1] S Q:=
 calls_of_vc (fn:=Tryz.f111) (c:=c111) (n:=20) Tryz.func111 (by kernel_rfl) (by kernel_rfl) (by kernel_rfl) ms111 (Eq.mpr (by kernel_rfl) h)
def c110:Code:=(Tryz.f110.body).getD .skip
def r110:List ResultVar:=Tryz.f110.results.toList
def env110_0(y3 y6 y7 y8:AV):List AV:=[y3,y6,y7,y8]
def lv110_0:List Nat:=[3,6,7,8]
def ms110:List (List Nat):=[lv110_0,[]]
def m110(x0:AV)(S:Store)(Q:PoT):Prop:=
 lenS x0 S fun a S=>loopV lv110_0 (vc Pg (c110.at_ [1,1,0,1,0,0]) (ms110.drop 1)) 18 (env110_0 (.v (.int .i64 0)) x0 a (.v (.int .i64 0))) S (blockK 0 (seqK (vc Pg (c110.at_ [1,1,1]) (ms110.drop 1)) (bodyK Pg r110 Q)))
theorem calls110{x0:AV}{S:Store}{Q:PoT}(h:m110 x0 S Q):ACalls Pg 110 [x0] S Q:=
 calls_of_vc (fn:=Tryz.f110) (c:=c110) (n:=18) Tryz.func110 (by kernel_rfl) (by kernel_rfl) (by kernel_rfl) ms110 (Eq.mpr (by kernel_rfl) h)
def b110_0(y3 y6 y7 y8:AV)(S:Store)(KE0:KeT)(Q:PoT):Prop:=
 bin .lss 0 y8 y7 S fun a S=>onB a fun b=>gd b (ixS 3 1 y6 y8 S fun c S=>ld1 c S fun d S=>bin .neq 0 d y3 S fun e S=>onB e fun b=>gd b (Q (.ret d) S) (bin .add 0 y8 (.v (.int .i64 1)) S fun f S=>KE0 18 (env110_0 y3 y6 y7 f) S)) (Q (.ret y3) S)
theorem b110_0_eq(y3 y6 y7 y8:AV)(S:Store)(KE0:KeT)(Q:PoT):vc Pg (c110.at_ [1,1,0,1,0,0]) (ms110.drop 1) (mkE 18 lv110_0 (env110_0 y3 y6 y7 y8)) S (thenK (fgK lv110_0 KE0) (blockK 0 (seqK (vc Pg (c110.at_ [1,1,1]) (ms110.drop 1)) (bodyK Pg r110 Q))))=b110_0 y3 y6 y7 y8 S KE0 Q:=by kernel_rfl
theorem loop110_0{y3 y6 y7:AV}{y80:AV}{S:Store}{Q:PoT}(I:AV→Store→Prop)(μ:AV→Store→Nat)(h0:I y80 S)
    (hr:∀(y8:AV) (S:Store),I y8 S→∀ KE0:KeT,(∀(y8':AV) (S':Store),I y8' S'→μ y8' S'<μ y8 S→KE0 18 (env110_0 y3 y6 y7 y8') S')→b110_0 y3 y6 y7 y8 S KE0 Q):
    loopV lv110_0 (vc Pg (c110.at_ [1,1,0,1,0,0]) (ms110.drop 1)) 18 (env110_0 y3 y6 y7 y80) S (blockK 0 (seqK (vc Pg (c110.at_ [1,1,1]) (ms110.drop 1)) (bodyK Pg r110 Q))):=by
 refine⟨fun n e S=>n=18∧∃ y8:AV,e=(env110_0 y3 y6 y7 y8)∧I y8 S,fun _ e S=>μ (e.getD 3 .j) S,?_,?_⟩
 ·exact⟨_,_,Wk.refl _ _,rfl,_,rfl,h0⟩
 ·rintro _ e S ⟨rfl,y8,rfl,hI⟩
  exact(b110_0_eq _ _ _ _ _ _ _).mpr (hr y8 S hI _ (fun y8' S' hI' hm=>⟨_,_,Wk.refl _ _,⟨rfl,_,rfl,hI'⟩,hm⟩))
def c74:Code:=(Tryz.f74.body).getD .skip
def ms74:List (List Nat):=[[]]
def m74(x0:AV)(S:Store)(Q:PoT):Prop:=
 boxN 29 8 x0 S fun c S=>boxN 70 2 (.a [.v (.int .i64 0),.nl]) S fun d S=>shift c 0 S fun e S=>ld1 e S fun f S=>shift c 1 S fun g S=>ld1 g S fun h S=>lenS h S fun i S=>bin .add 0 f i S fun k S=>shift c 2 S fun l S=>ld1 l S fun m S=>bld [(0,1),(1,1)] [.v (.int .i64 0),.nl] [(0,k),(1,m)] S fun n S=>stN 2 d n S fun o S=>ldN 2 d S fun p _=>Q (.ret p) S
theorem calls74{x0:AV}{S:Store}{Q:PoT}(h:m74 x0 S Q):ACalls Pg 74 [x0] S Q:=
 calls_of_vc (fn:=Tryz.f74) (c:=c74) (n:=12) Tryz.func74 (by kernel_rfl) (by kernel_rfl) (by kernel_rfl) ms74 (Eq.mpr (by kernel_rfl) h)
def c61:Code:=(Tryz.f61.body).getD .skip
def ms61:List (List Nat):=[[]]
def m61(x0:AV)(S:Store)(Q:PoT):Prop:=
 boxN 29 8 x0 S fun c S=>boxN 70 2 (.a [.v (.int .i64 0),.nl]) S fun d S=>shift c 0 S fun e S=>ld1 e S fun f S=>shift c 1 S fun g S=>ld1 g S fun h S=>lenS h S fun i S=>bin .add 0 f i S fun k S=>shift c 2 S fun l S=>ld1 l S fun m S=>bld [(0,1),(1,1)] [.v (.int .i64 0),.nl] [(0,k),(1,m)] S fun n S=>stN 2 d n S fun o S=>ldN 2 d S fun p _=>Q (.ret p) S
theorem calls61{x0:AV}{S:Store}{Q:PoT}(h:m61 x0 S Q):ACalls Pg 61 [x0] S Q:=
 calls_of_vc (fn:=Tryz.f61) (c:=c61) (n:=12) Tryz.func61 (by kernel_rfl) (by kernel_rfl) (by kernel_rfl) ms61 (Eq.mpr (by kernel_rfl) h)
def c75:Code:=(Tryz.f75.body).getD .skip
def ms75:List (List Nat):=[[]]
def m75(x0:AV)(S:Store)(Q:PoT):Prop:=
 boxN 29 8 x0 S fun a S=>mkM (.i .i32) S fun c S=>shift a 0 S fun d S=>ld1 d S fun e S=>updM (.i .i32) c (.v (.int .i32 105)) e S fun f S=>shift a 1 S fun g S=>ld1 g S fun h S=>lenS h S fun k S=>updM (.i .i32) c (.v (.int .i32 108)) k S fun l S=>shift a 3 S fun m S=>ld1 m S fun n S=>lenS n S fun o S=>updM (.i .i32) c (.v (.int .i32 111)) o S fun p S=>shift a 4 S fun q S=>ld1 q S fun r S=>lenS r S fun s S=>updM (.i .i32) c (.v (.int .i32 98)) s S fun t S=>shift a 5 S fun u S=>ld1 u S fun w S=>lenS w S fun x S=>updM (.i .i32) c (.v (.int .i32 99)) x S fun y S=>shift a 6 S fun z S=>ld1 z S fun A S=>lenS A S fun B S=>updM (.i .i32) c (.v (.int .i32 102)) B S fun C S=>Q (.ret c) S
theorem calls75{x0:AV}{S:Store}{Q:PoT}(h:m75 x0 S Q):ACalls Pg 75 [x0] S Q:=
 calls_of_vc (fn:=Tryz.f75) (c:=c75) (n:=22) Tryz.func75 (by kernel_rfl) (by kernel_rfl) (by kernel_rfl) ms75 (Eq.mpr (by kernel_rfl) h)
def c116:Code:=(Tryz.f116.body).getD .skip
def ms116:List (List Nat):=[[]]
def m116(x0 x1:AV)(S:Store)(Q:PoT):Prop:=
 boxN 29 8 x0 S fun a S=>callF Pg 117 [x1] S Q fun c S=>bin .lss 0 c (.v (.int .i64 0)) S fun d S=>onB d fun b=>gd b (Q (.ret (.v (.int .i64 0))) S) (shift a 0 S fun e S=>ld1 e S fun f S=>shift a 1 S fun g S=>ld1 g S fun h S=>lenS h S fun i S=>shift a 3 S fun k S=>ld1 k S fun l S=>lenS l S fun m S=>shift a 4 S fun n S=>ld1 n S fun o S=>lenS o S fun p S=>shift a 5 S fun q S=>ld1 q S fun r S=>lenS r S fun s S=>shift a 6 S fun t S=>ld1 t S fun u S=>lenS u S fun w S=>bslN 3 1 6 [.v (.int .i64 0)] [(0,f),(1,i),(2,m),(3,p),(4,s),(5,w)] S fun x S=>ixS 3 1 x c S fun y S=>ld1 y S fun z S=>Q (.ret z) S)
theorem calls116{x0 x1:AV}{S:Store}{Q:PoT}(h:m116 x0 x1 S Q):ACalls Pg 116 [x0,x1] S Q:=
 calls_of_vc (fn:=Tryz.f116) (c:=c116) (n:=31) Tryz.func116 (by kernel_rfl) (by kernel_rfl) (by kernel_rfl) ms116 (Eq.mpr (by kernel_rfl) h)
def c115:Code:=(Tryz.f115.body).getD .skip
def r115:List ResultVar:=Tryz.f115.results.toList
def env115_0(y0 y3:AV):List AV:=[y0,y3]
def lv115_0:List Nat:=[0,3]
def ms115:List (List Nat):=[lv115_0,[]]
def m115(x0:AV)(S:Store)(Q:PoT):Prop:=
 loopV lv115_0 (vc Pg (c115.at_ [1,0,1,0,0]) (ms115.drop 1)) 28 (env115_0 x0 (.v (.int .i64 0))) S (blockK 0 (seqK (vc Pg (c115.at_ [1,1]) (ms115.drop 1)) (bodyK Pg r115 Q)))
theorem calls115{x0:AV}{S:Store}{Q:PoT}(h:m115 x0 S Q):ACalls Pg 115 [x0] S Q:=
 calls_of_vc (fn:=Tryz.f115) (c:=c115) (n:=28) Tryz.func115 (by kernel_rfl) (by kernel_rfl) (by kernel_rfl) ms115 (Eq.mpr (by kernel_rfl) h)
def b115_0(y0 y3:AV)(S:Store)(KE0:KeT)(Q:PoT):Prop:=
 lenStr y0 S fun a S=>bin .lss 0 y3 a S fun c S=>onB c fun b=>gd b (ixStr y0 y3 S fun d S=>bin .lss 0 d (.v (.int .u8 33)) S fun e S=>onB e fun b=>gd b (Q (.ret (.v (.bool false))) S) (ixStr y0 y3 S fun f S=>bin .gtr 0 f (.v (.int .u8 126)) S fun g S=>onB g fun b=>gd b (Q (.ret (.v (.bool false))) S) (bin .add 0 y3 (.v (.int .i64 1)) S fun h S=>KE0 28 (env115_0 y0 h) S))) (lenStr y0 S fun i S=>bin .gtr 0 i (.v (.int .i64 0)) S fun k S=>onB k fun b=>gd b (lenStr y0 S fun l S=>bin .leq 0 l (.v (.int .i64 20)) S fun m S=>Q (.ret m) S) (Q (.ret (.v (.bool false))) S))
theorem b115_0_eq(y0 y3:AV)(S:Store)(KE0:KeT)(Q:PoT):vc Pg (c115.at_ [1,0,1,0,0]) (ms115.drop 1) (mkE 28 lv115_0 (env115_0 y0 y3)) S (thenK (fgK lv115_0 KE0) (blockK 0 (seqK (vc Pg (c115.at_ [1,1]) (ms115.drop 1)) (bodyK Pg r115 Q))))=b115_0 y0 y3 S KE0 Q:=by kernel_rfl
theorem loop115_0{y0:AV}{y30:AV}{S:Store}{Q:PoT}(I:AV→Store→Prop)(μ:AV→Store→Nat)(h0:I y30 S)
    (hr:∀(y3:AV) (S:Store),I y3 S→∀ KE0:KeT,(∀(y3':AV) (S':Store),I y3' S'→μ y3' S'<μ y3 S→KE0 28 (env115_0 y0 y3') S')→b115_0 y0 y3 S KE0 Q):
    loopV lv115_0 (vc Pg (c115.at_ [1,0,1,0,0]) (ms115.drop 1)) 28 (env115_0 y0 y30) S (blockK 0 (seqK (vc Pg (c115.at_ [1,1]) (ms115.drop 1)) (bodyK Pg r115 Q))):=by
 refine⟨fun n e S=>n=28∧∃ y3:AV,e=(env115_0 y0 y3)∧I y3 S,fun _ e S=>μ (e.getD 1 .j) S,?_,?_⟩
 ·exact⟨_,_,Wk.refl _ _,rfl,_,rfl,h0⟩
 ·rintro _ e S ⟨rfl,y3,rfl,hI⟩
  exact(b115_0_eq _ _ _ _ _).mpr (hr y3 S hI _ (fun y3' S' hI' hm=>⟨_,_,Wk.refl _ _,⟨rfl,_,rfl,hI'⟩,hm⟩))
def c108:Code:=(Tryz.f108.body).getD .skip
def r108:List ResultVar:=Tryz.f108.results.toList
def env108_0(y0 y5 y6:AV):List AV:=[y0,y5,y6]
def lv108_0:List Nat:=[0,5,6]
def ms108:List (List Nat):=[lv108_0,[]]
def m108(x0:AV)(S:Store)(Q:PoT):Prop:=
 lenStr x0 S fun a S=>loopV lv108_0 (vc Pg (c108.at_ [1,0,1,0,0]) (ms108.drop 1)) 27 (env108_0 x0 a (.v (.int .i64 0))) S (blockK 0 (seqK (vc Pg (c108.at_ [1,1]) (ms108.drop 1)) (bodyK Pg r108 Q)))
theorem calls108{x0:AV}{S:Store}{Q:PoT}(h:m108 x0 S Q):ACalls Pg 108 [x0] S Q:=
 calls_of_vc (fn:=Tryz.f108) (c:=c108) (n:=27) Tryz.func108 (by kernel_rfl) (by kernel_rfl) (by kernel_rfl) ms108 (Eq.mpr (by kernel_rfl) h)
def b108_0(y0 y5 y6:AV)(S:Store)(KE0:KeT)(Q:PoT):Prop:=
 bin .lss 0 y6 y5 S fun a S=>onB a fun b=>gd b (ixStr y0 y6 S fun c S=>bin .leq 0 c (.v (.int .u8 32)) S fun d S=>onB d fun b=>gd b (Q (.ret (.v (.bool false))) S) (ixStr y0 y6 S fun e S=>bin .gtr 0 e (.v (.int .u8 126)) S fun f S=>onB f fun b=>gd b (Q (.ret (.v (.bool false))) S) (bin .add 0 y6 (.v (.int .i64 1)) S fun g S=>KE0 27 (env108_0 y0 y5 g) S))) (bin .neq 0 y0 (.v (.string { data:=#[] })) S fun h S=>onB h fun b=>gd b (lenStr y0 S fun i S=>bin .leq 0 i (.v (.int .i64 20)) S fun k S=>Q (.ret k) S) (Q (.ret (.v (.bool false))) S))
theorem b108_0_eq(y0 y5 y6:AV)(S:Store)(KE0:KeT)(Q:PoT):vc Pg (c108.at_ [1,0,1,0,0]) (ms108.drop 1) (mkE 27 lv108_0 (env108_0 y0 y5 y6)) S (thenK (fgK lv108_0 KE0) (blockK 0 (seqK (vc Pg (c108.at_ [1,1]) (ms108.drop 1)) (bodyK Pg r108 Q))))=b108_0 y0 y5 y6 S KE0 Q:=by kernel_rfl
theorem loop108_0{y0 y5:AV}{y60:AV}{S:Store}{Q:PoT}(I:AV→Store→Prop)(μ:AV→Store→Nat)(h0:I y60 S)
    (hr:∀(y6:AV) (S:Store),I y6 S→∀ KE0:KeT,(∀(y6':AV) (S':Store),I y6' S'→μ y6' S'<μ y6 S→KE0 27 (env108_0 y0 y5 y6') S')→b108_0 y0 y5 y6 S KE0 Q):
    loopV lv108_0 (vc Pg (c108.at_ [1,0,1,0,0]) (ms108.drop 1)) 27 (env108_0 y0 y5 y60) S (blockK 0 (seqK (vc Pg (c108.at_ [1,1]) (ms108.drop 1)) (bodyK Pg r108 Q))):=by
 refine⟨fun n e S=>n=27∧∃ y6:AV,e=(env108_0 y0 y5 y6)∧I y6 S,fun _ e S=>μ (e.getD 2 .j) S,?_,?_⟩
 ·exact⟨_,_,Wk.refl _ _,rfl,_,rfl,h0⟩
 ·rintro _ e S ⟨rfl,y6,rfl,hI⟩
  exact(b108_0_eq _ _ _ _ _ _).mpr (hr y6 S hI _ (fun y6' S' hI' hm=>⟨_,_,Wk.refl _ _,⟨rfl,_,rfl,hI'⟩,hm⟩))
def c117:Code:=(Tryz.f117.body).getD .skip
def r117:List ResultVar:=Tryz.f117.results.toList
def env117_0(y0 y3 y4:AV):List AV:=[y0,y3,y4]
def lv117_0:List Nat:=[0,3,4]
def ms117:List (List Nat):=[lv117_0,[]]
def m117(x0:AV)(S:Store)(Q:PoT):Prop:=
 loopV lv117_0 (vc Pg (c117.at_ [1,1,0,1,0,0]) (ms117.drop 1)) 17 (env117_0 x0 (.v (.string { data:=#[105,108,111,98,99,102] })) (.v (.int .i64 0))) S (blockK 0 (seqK (vc Pg (c117.at_ [1,1,1]) (ms117.drop 1)) (bodyK Pg r117 Q)))
theorem calls117{x0:AV}{S:Store}{Q:PoT}(h:m117 x0 S Q):ACalls Pg 117 [x0] S Q:=
 calls_of_vc (fn:=Tryz.f117) (c:=c117) (n:=17) Tryz.func117 (by kernel_rfl) (by kernel_rfl) (by kernel_rfl) ms117 (Eq.mpr (by kernel_rfl) h)
def b117_0(y0 y3 y4:AV)(S:Store)(KE0:KeT)(Q:PoT):Prop:=
 lenStr y3 S fun a S=>bin .lss 0 y4 a S fun c S=>onB c fun b=>gd b (ixStr y3 y4 S fun d S=>bin .eql 0 d y0 S fun e S=>onB e fun b=>gd b (Q (.ret y4) S) (bin .add 0 y4 (.v (.int .i64 1)) S fun f S=>KE0 17 (env117_0 y0 y3 f) S)) (Q (.ret (.v (.int .i64 (-1)))) S)
theorem b117_0_eq(y0 y3 y4:AV)(S:Store)(KE0:KeT)(Q:PoT):vc Pg (c117.at_ [1,1,0,1,0,0]) (ms117.drop 1) (mkE 17 lv117_0 (env117_0 y0 y3 y4)) S (thenK (fgK lv117_0 KE0) (blockK 0 (seqK (vc Pg (c117.at_ [1,1,1]) (ms117.drop 1)) (bodyK Pg r117 Q))))=b117_0 y0 y3 y4 S KE0 Q:=by kernel_rfl
theorem loop117_0{y0 y3:AV}{y40:AV}{S:Store}{Q:PoT}(I:AV→Store→Prop)(μ:AV→Store→Nat)(h0:I y40 S)
    (hr:∀(y4:AV) (S:Store),I y4 S→∀ KE0:KeT,(∀(y4':AV) (S':Store),I y4' S'→μ y4' S'<μ y4 S→KE0 17 (env117_0 y0 y3 y4') S')→b117_0 y0 y3 y4 S KE0 Q):
    loopV lv117_0 (vc Pg (c117.at_ [1,1,0,1,0,0]) (ms117.drop 1)) 17 (env117_0 y0 y3 y40) S (blockK 0 (seqK (vc Pg (c117.at_ [1,1,1]) (ms117.drop 1)) (bodyK Pg r117 Q))):=by
 refine⟨fun n e S=>n=17∧∃ y4:AV,e=(env117_0 y0 y3 y4)∧I y4 S,fun _ e S=>μ (e.getD 2 .j) S,?_,?_⟩
 ·exact⟨_,_,Wk.refl _ _,rfl,_,rfl,h0⟩
 ·rintro _ e S ⟨rfl,y4,rfl,hI⟩
  exact(b117_0_eq _ _ _ _ _ _).mpr (hr y4 S hI _ (fun y4' S' hI' hm=>⟨_,_,Wk.refl _ _,⟨rfl,_,rfl,hI'⟩,hm⟩))
def c109:Code:=(Tryz.f109.body).getD .skip
def r109:List ResultVar:=Tryz.f109.results.toList
def env109_0(y0 y5:AV):List AV:=[y0,y5]
def lv109_0:List Nat:=[0,5]
def ms109:List (List Nat):=[lv109_0,[]]
def m109(x0:AV)(S:Store)(Q:PoT):Prop:=
 rngS (.v (.string { data:=#[105,108,111,98,99,102] })) S fun a S=>loopV lv109_0 (vc Pg (c109.at_ [1,0,1,0,0]) (ms109.drop 1)) 15 (env109_0 x0 a) S (blockK 0 (seqK (vc Pg (c109.at_ [1,1]) (ms109.drop 1)) (bodyK Pg r109 Q)))
theorem calls109{x0:AV}{S:Store}{Q:PoT}(h:m109 x0 S Q):ACalls Pg 109 [x0] S Q:=
 calls_of_vc (fn:=Tryz.f109) (c:=c109) (n:=15) Tryz.func109 (by kernel_rfl) (by kernel_rfl) (by kernel_rfl) ms109 (Eq.mpr (by kernel_rfl) h)
def b109_0(y0 y5:AV)(S:Store)(KE0:KeT)(Q:PoT):Prop:=
 nextM true y5 S fun a S=>extr a 0 S fun c S=>onB c fun b=>gd b (extr a 1 S fun d S=>extr a 2 S fun e S=>convI .i32 y0 S fun f S=>bin .eql 0 f e S fun g S=>onB g fun b=>gd b (Q (.ret d) S) (KE0 15 (env109_0 y0 y5) S)) (Q (.ret (.v (.int .i64 (-1)))) S)
theorem b109_0_eq(y0 y5:AV)(S:Store)(KE0:KeT)(Q:PoT):vc Pg (c109.at_ [1,0,1,0,0]) (ms109.drop 1) (mkE 15 lv109_0 (env109_0 y0 y5)) S (thenK (fgK lv109_0 KE0) (blockK 0 (seqK (vc Pg (c109.at_ [1,1]) (ms109.drop 1)) (bodyK Pg r109 Q))))=b109_0 y0 y5 S KE0 Q:=by kernel_rfl
theorem loop109_0{y0 y5:AV}{S:Store}{Q:PoT}(I:Store→Prop)(μ:Store→Nat)(h0:I  S)
    (hr:∀(S:Store),I  S→∀ KE0:KeT,(∀(S':Store),I  S'→μ  S'<μ  S→KE0 15 (env109_0 y0 y5) S')→b109_0 y0 y5 S KE0 Q):
    loopV lv109_0 (vc Pg (c109.at_ [1,0,1,0,0]) (ms109.drop 1)) 15 (env109_0 y0 y5) S (blockK 0 (seqK (vc Pg (c109.at_ [1,1]) (ms109.drop 1)) (bodyK Pg r109 Q))):=by
 refine⟨fun n e S=>n=15∧e=(env109_0 y0 y5)∧I  S,fun _ e S=>μ  S,?_,?_⟩
 ·exact⟨_,_,Wk.refl _ _,rfl,rfl,h0⟩
 ·rintro _ e S ⟨rfl,rfl,hI⟩
  exact(b109_0_eq _ _ _ _ _).mpr (hr  S hI _ (fun  S' hI' hm=>⟨_,_,Wk.refl _ _,⟨rfl,rfl,hI'⟩,hm⟩))
def c49:Code:=(Tryz.f49.body).getD .skip
def ms49:List (List Nat):=[[]]
def m49(x0:AV)(S:Store)(Q:PoT):Prop:=
 boxN 70 2 x0 S fun a S=>shift a 0 S fun c S=>ld1 c S fun d S=>bin .add 0 d (.v (.int .i64 1)) S fun e S=>shift a 1 S fun f S=>ld1 f S fun g S=>lenS g S fun h S=>bin .add 0 e h S fun i S=>Q (.ret i) S
theorem calls49{x0:AV}{S:Store}{Q:PoT}(h:m49 x0 S Q):ACalls Pg 49 [x0] S Q:=
 calls_of_vc (fn:=Tryz.f49) (c:=c49) (n:=10) Tryz.func49 (by kernel_rfl) (by kernel_rfl) (by kernel_rfl) ms49 (Eq.mpr (by kernel_rfl) h)
def c87:Code:=(Tryz.f87.body).getD .skip
def ms87:List (List Nat):=[[]]
def m87(x0 x1:AV)(S:Store)(Q:PoT):Prop:=
 boxN 70 2 x0 S fun a S=>shift a 0 S fun c S=>ld1 c S fun d S=>bin .geq 0 d (.v (.int .i64 0)) S fun e S=>onB e fun b=>gd b (shift a 0 S fun f S=>ld1 f S fun g S=>bin .leq 0 g (.v (.int .i64 2000)) S fun h S=>onB h fun b=>gd b (bin .geq 0 x1 (.v (.int .i64 0)) S fun i S=>onB i fun b=>gd b (bin .quo 0 x1 (.v (.int .i64 2)) S fun k S=>ldN 2 a S fun l S=>callF Pg 49 [l] S Q fun m S=>bin .lss 0 k m S fun n S=>Q (.ret n) S) (Q (.ret (.v (.bool false))) S)) (Q (.ret (.v (.bool false))) S)) (Q (.ret (.v (.bool false))) S)
theorem calls87{x0 x1:AV}{S:Store}{Q:PoT}(h:m87 x0 x1 S Q):ACalls Pg 87 [x0,x1] S Q:=
 calls_of_vc (fn:=Tryz.f87) (c:=c87) (n:=24) Tryz.func87 (by kernel_rfl) (by kernel_rfl) (by kernel_rfl) ms87 (Eq.mpr (by kernel_rfl) h)
def c86:Code:=(Tryz.f86.body).getD .skip
def r86:List ResultVar:=Tryz.f86.results.toList
def env86_0(y1 y3:AV):List AV:=[y1,y3]
def lv86_0:List Nat:=[1,3]
def env86_1(y1 y3 y6:AV):List AV:=[y1,y3,y6]
def lv86_1:List Nat:=[1,3,6]
def ms86:List (List Nat):=[lv86_0,lv86_1,[]]
def m86(x0:AV)(S:Store)(Q:PoT):Prop:=
 boxN 70 2 x0 S fun a S=>shift a 0 S fun c S=>ld1 c S fun d S=>bin .lss 0 d (.v (.int .i64 0)) S fun e S=>onB e fun b=>gd b (Q (.ret (.v (.bool false))) S) (shift a 0 S fun f S=>ld1 f S fun g S=>bin .gtr 0 g (.v (.int .i64 2000)) S fun h S=>onB h fun b=>gd b (Q (.ret (.v (.bool false))) S) (shift a 1 S fun i S=>ld1 i S fun k S=>lenS k S fun l S=>bin .gtr 0 l (.v (.int .i64 2000)) S fun m S=>onB m fun b=>gd b (Q (.ret (.v (.bool false))) S) (ldN 2 a S fun n S=>callF Pg 49 [n] S Q fun o S=>bin .gtr 0 o (.v (.int .i64 2000)) S fun p S=>onB p fun b=>gd b (Q (.ret (.v (.bool false))) S) (loopV lv86_0 (vc Pg (c86.at_ [1,1,0,1,0,0]) (ms86.drop 1)) 80 (env86_0 a (.v (.int .i64 0))) S (blockK 0 (seqK (vc Pg (c86.at_ [1,1,1]) (ms86.drop 2)) (bodyK Pg r86 Q)))))))
theorem calls86{x0:AV}{S:Store}{Q:PoT}(h:m86 x0 S Q):ACalls Pg 86 [x0] S Q:=
 calls_of_vc (fn:=Tryz.f86) (c:=c86) (n:=80) Tryz.func86 (by kernel_rfl) (by kernel_rfl) (by kernel_rfl) ms86 (Eq.mpr (by kernel_rfl) h)
def b86_0(y1 y3:AV)(S:Store)(KE0:KeT)(Q:PoT):Prop:=
 shift y1 1 S fun a S=>ld1 a S fun c S=>lenS c S fun d S=>bin .lss 0 y3 d S fun e S=>onB e fun b=>gd b ((fun S0:Store=>∃ f:AV,(shift y1 1 S fun g S=>g=f∧S=S0)∧∃ h:AV,(ld1 f S fun i S=>i=h∧S=S0)∧∃ k:AV,(ixS 48 2 h y3 S fun l S=>l=k∧S=S0)∧∃ m:AV,(ixA 2 1 k (.v (.int .i64 0)) S fun n S=>n=m∧S=S0)∧∃ o:AV,(ld1 m S fun p S=>p=o∧S=S0)∧∃ q:AV,(shift y1 1 S fun r S=>r=q∧S=S0)∧∃ s:AV,(ld1 q S fun t S=>t=s∧S=S0)∧∃ u:AV,(ixS 48 2 s y3 S fun w S=>w=u∧S=S0)∧∃ x:AV,(ixA 2 1 u (.v (.int .i64 1)) S fun y S=>y=x∧S=S0)∧∃ z:AV,(ld1 x S fun A S=>A=z∧S=S0)∧bin .lss 0 z (.v (.int .i64 2)) S fun B S=>onB B fun b=>gd b (Q (.ret (.v (.bool false))) S) (bin .quo 0 o (.v (.int .i64 2)) S fun C S=>bin .quo 0 z (.v (.int .i64 2)) S fun D S=>bin .leq 0 C D S fun E S=>onB E fun b=>gd b (Q (.ret (.v (.bool false))) S) (bin .quo 0 o (.v (.int .i64 2)) S fun F S=>shift y1 0 S fun G S=>ld1 G S fun H S=>bin .add 0 H (.v (.int .i64 1)) S fun I S=>bin .add 0 I y3 S fun J S=>bin .geq 0 F J S fun K S=>onB K fun b=>gd b (Q (.ret (.v (.bool false))) S) (loopV lv86_1 (vc Pg (c86.at_ [1,1,0,1,0,0,1,0,0,1,1,1,0,0]) (ms86.drop 2)) 80 (env86_1 y1 y3 (.v (.int .i64 0))) S (blockK 2 (blockK 1 (seqK (vc Pg (c86.at_ [1,1,0,1,0,0,1,1]) (ms86.drop 2)) (thenK (fgK lv86_0 KE0) (blockK 0 (seqK (vc Pg (c86.at_ [1,1,1]) (ms86.drop 2)) (bodyK Pg r86 Q))))))))))) S) (Q (.ret (.v (.bool true))) S)
theorem b86_0_eq(y1 y3:AV)(S:Store)(KE0:KeT)(Q:PoT):vc Pg (c86.at_ [1,1,0,1,0,0]) (ms86.drop 1) (mkE 80 lv86_0 (env86_0 y1 y3)) S (thenK (fgK lv86_0 KE0) (blockK 0 (seqK (vc Pg (c86.at_ [1,1,1]) (ms86.drop 2)) (bodyK Pg r86 Q))))=b86_0 y1 y3 S KE0 Q:=by kernel_rfl
theorem loop86_0{y1:AV}{y30:AV}{S:Store}{Q:PoT}(I:AV→Store→Prop)(μ:AV→Store→Nat)(h0:I y30 S)
    (hr:∀(y3:AV) (S:Store),I y3 S→∀ KE0:KeT,(∀(y3':AV) (S':Store),I y3' S'→μ y3' S'<μ y3 S→KE0 80 (env86_0 y1 y3') S')→b86_0 y1 y3 S KE0 Q):
    loopV lv86_0 (vc Pg (c86.at_ [1,1,0,1,0,0]) (ms86.drop 1)) 80 (env86_0 y1 y30) S (blockK 0 (seqK (vc Pg (c86.at_ [1,1,1]) (ms86.drop 2)) (bodyK Pg r86 Q))):=by
 refine⟨fun n e S=>n=80∧∃ y3:AV,e=(env86_0 y1 y3)∧I y3 S,fun _ e S=>μ (e.getD 1 .j) S,?_,?_⟩
 ·exact⟨_,_,Wk.refl _ _,rfl,_,rfl,h0⟩
 ·rintro _ e S ⟨rfl,y3,rfl,hI⟩
  exact(b86_0_eq _ _ _ _ _).mpr (hr y3 S hI _ (fun y3' S' hI' hm=>⟨_,_,Wk.refl _ _,⟨rfl,_,rfl,hI'⟩,hm⟩))
def b86_1(y1 y3 y6:AV)(S:Store)(KE1:KeT)(KE0:KeT)(Q:PoT):Prop:=
 bin .lss 0 y6 y3 S fun a S=>onB a fun b=>gd b ((fun S0:Store=>∃ c:AV,(shift y1 1 S fun d S=>d=c∧S=S0)∧∃ e:AV,(ld1 c S fun f S=>f=e∧S=S0)∧∃ g:AV,(ixS 48 2 e y6 S fun h S=>h=g∧S=S0)∧∃ i:AV,(ldN 2 g S fun k S=>k=i∧S=S0)∧∃ l:AV,(shift y1 1 S fun m S=>m=l∧S=S0)∧∃ n:AV,(ld1 l S fun o S=>o=n∧S=S0)∧∃ p:AV,(ixS 48 2 n y3 S fun q S=>q=p∧S=S0)∧∃ r:AV,(ldN 2 p S fun s S=>s=r∧S=S0)∧∃ t:AV,(binP .i64 .eql i r S fun u S=>u=t∧S=S0)∧onB t fun b=>gd b (Q (.ret (.v (.bool false))) S) (bin .add 0 y6 (.v (.int .i64 1)) S fun w S=>KE1 80 (env86_1 y1 y3 w) S)) S) (bin .add 0 y3 (.v (.int .i64 1)) S fun x S=>KE0 80 (env86_0 y1 x) S)
theorem b86_1_eq(y1 y3 y6:AV)(S:Store)(KE1:KeT)(KE0:KeT)(Q:PoT):vc Pg (c86.at_ [1,1,0,1,0,0,1,0,0,1,1,1,0,0]) (ms86.drop 2) (mkE 80 lv86_1 (env86_1 y1 y3 y6)) S (thenK (fgK lv86_1 KE1) (blockK 2 (blockK 1 (seqK (vc Pg (c86.at_ [1,1,0,1,0,0,1,1]) (ms86.drop 2)) (thenK (fgK lv86_0 KE0) (blockK 0 (seqK (vc Pg (c86.at_ [1,1,1]) (ms86.drop 2)) (bodyK Pg r86 Q))))))))=b86_1 y1 y3 y6 S KE1 KE0 Q:=by kernel_rfl
theorem loop86_1{y1 y3:AV}{y60:AV}{S:Store}{KE0:KeT}{Q:PoT}(I:AV→Store→Prop)(μ:AV→Store→Nat)(h0:I y60 S)
    (hr:∀(y6:AV) (S:Store),I y6 S→∀ KE1:KeT,(∀(y6':AV) (S':Store),I y6' S'→μ y6' S'<μ y6 S→KE1 80 (env86_1 y1 y3 y6') S')→b86_1 y1 y3 y6 S KE1 KE0 Q):
    loopV lv86_1 (vc Pg (c86.at_ [1,1,0,1,0,0,1,0,0,1,1,1,0,0]) (ms86.drop 2)) 80 (env86_1 y1 y3 y60) S (blockK 2 (blockK 1 (seqK (vc Pg (c86.at_ [1,1,0,1,0,0,1,1]) (ms86.drop 2)) (thenK (fgK lv86_0 KE0) (blockK 0 (seqK (vc Pg (c86.at_ [1,1,1]) (ms86.drop 2)) (bodyK Pg r86 Q))))))):=by
 refine⟨fun n e S=>n=80∧∃ y6:AV,e=(env86_1 y1 y3 y6)∧I y6 S,fun _ e S=>μ (e.getD 2 .j) S,?_,?_⟩
 ·exact⟨_,_,Wk.refl _ _,rfl,_,rfl,h0⟩
 ·rintro _ e S ⟨rfl,y6,rfl,hI⟩
  exact(b86_1_eq _ _ _ _ _ _ _).mpr (hr y6 S hI _ (fun y6' S' hI' hm=>⟨_,_,Wk.refl _ _,⟨rfl,_,rfl,hI'⟩,hm⟩))
def c90:Code:=(Tryz.f90.body).getD .skip
def r90:List ResultVar:=Tryz.f90.results.toList
def env90_0(y1 y2 y3 y6 y9:AV):List AV:=[y1,y2,y3,y6,y9]
def lv90_0:List Nat:=[1,2,3,6,9]
def ms90:List (List Nat):=[lv90_0,[]]
def m90(x0 x1 x2:AV)(S:Store)(Q:PoT):Prop:=
 boxN 70 2 x0 S fun c S=>boxN 70 2 (.a [.v (.int .i64 0),.nl]) S fun d S=>ldN 2 c S fun e S=>callF Pg 86 [e] S Q fun f S=>un .not f S fun g S=>onB g fun b=>gd b (bld [(0,1),(1,1)] [.v (.int .i64 0),.nl] [] S fun h S=>stN 2 d h S fun i S=>ldN 2 d S fun k _=>Q (.ret (.t [k,.v (.int .i64 0),.v (.int .i64 1)])) S) (ldN 2 c S fun l S=>callF Pg 87 [l,x1] S Q fun m S=>un .not m S fun n S=>onB n fun b=>gd b (bld [(0,1),(1,1)] [.v (.int .i64 0),.nl] [] S fun o S=>stN 2 d o S fun p S=>ldN 2 d S fun q _=>Q (.ret (.t [q,.v (.int .i64 0),.v (.int .i64 1)])) S) (ldN 2 c S fun r S=>callF Pg 87 [r,x2] S Q fun s S=>un .not s S fun u S=>onB u fun b=>gd b (bld [(0,1),(1,1)] [.v (.int .i64 0),.nl] [] S fun w S=>stN 2 d w S fun x S=>ldN 2 d S fun y _=>Q (.ret (.t [y,.v (.int .i64 0),.v (.int .i64 1)])) S) (mxI true x1 x2 S fun z S=>mxI false x1 x2 S fun A S=>bin .eql 0 A (.v (.int .i64 0)) S fun B S=>onB B fun b=>gd b (ldN 2 c S fun C S=>stN 2 d C S fun D S=>ldN 2 d S fun E _=>Q (.ret (.t [E,.v (.int .i64 0),.v (.int .i64 0)])) S) (bin .quo 0 z (.v (.int .i64 2)) S fun F S=>bin .quo 0 A (.v (.int .i64 2)) S fun G S=>bin .eql 0 F G S fun H S=>onB H fun b=>gd b (bin .neq 0 z A S fun I S=>onB I fun b=>gd b (ldN 2 c S fun J S=>stN 2 d J S fun K S=>ldN 2 d S fun L _=>Q (.ret (.t [L,.v (.int .i64 0),.v (.int .i64 0)])) S) (bin .eql 0 A (.v (.int .i64 1)) S fun M S=>onB M fun b=>gd b (ldN 2 c S fun N S=>stN 2 d N S fun O S=>ldN 2 d S fun P _=>Q (.ret (.t [P,z,.v (.int .i64 0)])) S) (bin .eql 0 z A S fun R S=>onB R fun b=>gd b (ldN 2 c S fun T S=>stN 2 d T S fun U S=>ldN 2 d S fun V _=>Q (.ret (.t [V,z,.v (.int .i64 0)])) S) (loopV lv90_0 (vc Pg (c90.at_ [1,1,1,1,0,1,0,0]) (ms90.drop 1)) 105 (env90_0 z A c d (.v (.int .i64 0))) S (blockK 1 (seqK (vc Pg (c90.at_ [1,1,1,1,1]) (ms90.drop 1)) (bodyK Pg r90 Q))))))) (bin .eql 0 A (.v (.int .i64 1)) S fun W S=>onB W fun b=>gd b (ldN 2 c S fun X S=>stN 2 d X S fun Y S=>ldN 2 d S fun Z _=>Q (.ret (.t [Z,z,.v (.int .i64 0)])) S) (bin .eql 0 z A S fun a0 S=>onB a0 fun b=>gd b (ldN 2 c S fun a1 S=>stN 2 d a1 S fun a2 S=>ldN 2 d S fun a3 _=>Q (.ret (.t [a3,z,.v (.int .i64 0)])) S) (loopV lv90_0 (vc Pg (c90.at_ [1,1,1,1,0,1,0,0]) (ms90.drop 1)) 105 (env90_0 z A c d (.v (.int .i64 0))) S (blockK 1 (seqK (vc Pg (c90.at_ [1,1,1,1,1]) (ms90.drop 1)) (bodyK Pg r90 Q))))))))))
theorem calls90{x0 x1 x2:AV}{S:Store}{Q:PoT}(h:m90 x0 x1 x2 S Q):ACalls Pg 90 [x0,x1,x2] S Q:=
 calls_of_vc (fn:=Tryz.f90) (c:=c90) (n:=105) Tryz.func90 (by kernel_rfl) (by kernel_rfl) (by kernel_rfl) ms90 (Eq.mpr (by kernel_rfl) h)
def b90_0(y1 y2 y3 y6 y9:AV)(S:Store)(KE0:KeT)(Q:PoT):Prop:=
 shift y3 1 S fun c S=>ld1 c S fun d S=>lenS d S fun e S=>bin .lss 0 y9 e S fun f S=>onB f fun b=>gd b (shift y3 1 S fun g S=>ld1 g S fun h S=>ixS 48 2 h y9 S fun i S=>ldN 2 i S fun k S=>bld [(0,1),(1,1)] [.v (.int .i64 0),.v (.int .i64 0)] [(0,y1),(1,y2)] S fun l S=>binP .i64 .eql k l S fun m S=>onB m fun b=>gd b (∃ n:AV,(∀ T:Store,Keep S T→ldN 2 y3 T fun o S=>o=n∧S=T)∧∃ p:AV,(∀ T:Store,Keep S T→shift y3 0 T fun q S=>q=p∧S=T)∧∃ r:AV,(∀ T:Store,Keep S T→ld1 p T fun s S=>s=r∧S=T)∧∃ u:AV,(∀ T:Store,Keep S T→bin .add 0 r (.v (.int .i64 1)) T fun w S=>w=u∧S=T)∧∃ x:AV,(∀ T:Store,Keep S T→bin .add 0 u y9 T fun y S=>y=x∧S=T)∧∃ z:AV,(∀ T:Store,Keep S T→bin .mul 0 (.v (.int .i64 2)) x T fun A S=>A=z∧S=T)∧stN 2 y6 n S fun B S=>(∀ T:Store,Keep S T→bin .mul 0 (.v (.int .i64 2)) x T fun C S=>C=z∧S=T)∧(∀ T:Store,Keep S T→bin .add 0 u y9 T fun D S=>D=x∧S=T)∧(∀ T:Store,Keep S T→bin .add 0 r (.v (.int .i64 1)) T fun E S=>E=u∧S=T)∧(∀ T:Store,Keep S T→ld1 p T fun F S=>F=r∧S=T)∧(∀ T:Store,Keep S T→shift y3 0 T fun G S=>G=p∧S=T)∧ldN 2 y6 S fun H _=>Q (.ret (.t [H,z,.v (.int .i64 0)])) S) (bin .add 0 y9 (.v (.int .i64 1)) S fun I S=>KE0 105 (env90_0 y1 y2 y3 y6 I) S)) (ldN 2 y3 S fun J S=>callF Pg 49 [J] S Q fun K S=>bin .geq 0 K (.v (.int .i64 2000)) S fun L S=>onB L fun b=>gd b (bld [(0,1),(1,1)] [.v (.int .i64 0),.nl] [] S fun M S=>stN 2 y6 M S fun N S=>ldN 2 y6 S fun O _=>Q (.ret (.t [O,.v (.int .i64 0),.v (.int .i64 2)])) S) (boxN 70 2 (.a [.v (.int .i64 0),.nl]) S fun P S=>shift y3 0 S fun R S=>ld1 R S fun U S=>shift P 0 S fun V S=>stN 1 V U S fun W S=>shift P 1 S fun X S=>ld1 X S fun Y S=>shift y3 1 S fun Z S=>ld1 Z S fun a0 S=>appS 48 2 16 Y a0 S fun a1 S=>bld [(0,1),(1,1)] [.v (.int .i64 0),.v (.int .i64 0)] [(0,y1),(1,y2)] S fun a2 S=>bslN 48 2 1 [.v (.int .i64 0),.v (.int .i64 0)] [(0,a2)] S fun a3 S=>appS 48 2 16 a1 a3 S fun a4 S=>shift P 1 S fun a5 S=>stN 1 a5 a4 S fun a6 S=>∃ a7:AV,(∀ T:Store,Keep S T→ldN 2 P T fun a8 S=>a8=a7∧S=T)∧∃ a9:AV,(∀ T:Store,Keep S T→ldN 2 P T fun b0 S=>b0=a9∧S=T)∧∃ b1:AV,(∀ T:Store,Keep S T→callF Pg 49 [a9] T (fun _ _=>False) fun b2 S=>b2=b1∧S=T)∧∃ b3:AV,(∀ T:Store,Keep S T→bin .mul 0 (.v (.int .i64 2)) b1 T fun b4 S=>b4=b3∧S=T)∧∃ b5:AV,(∀ T:Store,Keep S T→bin .sub 0 b3 (.v (.int .i64 2)) T fun b6 S=>b6=b5∧S=T)∧stN 2 y6 a7 S fun b7 S=>(∀ T:Store,Keep S T→bin .sub 0 b3 (.v (.int .i64 2)) T fun b8 S=>b8=b5∧S=T)∧(∀ T:Store,Keep S T→bin .mul 0 (.v (.int .i64 2)) b1 T fun b9 S=>b9=b3∧S=T)∧ldN 2 y6 S fun c0 _=>Q (.ret (.t [c0,b5,.v (.int .i64 0)])) S))
theorem b90_0_eq(y1 y2 y3 y6 y9:AV)(S:Store)(KE0:KeT)(Q:PoT):vc Pg (c90.at_ [1,1,1,1,0,1,0,0]) (ms90.drop 1) (mkE 105 lv90_0 (env90_0 y1 y2 y3 y6 y9)) S (thenK (fgK lv90_0 KE0) (blockK 1 (seqK (vc Pg (c90.at_ [1,1,1,1,1]) (ms90.drop 1)) (bodyK Pg r90 Q))))=b90_0 y1 y2 y3 y6 y9 S KE0 Q:=by kernel_rfl
theorem loop90_0{y1 y2 y3 y6:AV}{y90:AV}{S:Store}{Q:PoT}(I:AV→Store→Prop)(μ:AV→Store→Nat)(h0:I y90 S)
    (hr:∀(y9:AV) (S:Store),I y9 S→∀ KE0:KeT,(∀(y9':AV) (S':Store),I y9' S'→μ y9' S'<μ y9 S→KE0 105 (env90_0 y1 y2 y3 y6 y9') S')→b90_0 y1 y2 y3 y6 y9 S KE0 Q):
    loopV lv90_0 (vc Pg (c90.at_ [1,1,1,1,0,1,0,0]) (ms90.drop 1)) 105 (env90_0 y1 y2 y3 y6 y90) S (blockK 1 (seqK (vc Pg (c90.at_ [1,1,1,1,1]) (ms90.drop 1)) (bodyK Pg r90 Q))):=by
 refine⟨fun n e S=>n=105∧∃ y9:AV,e=(env90_0 y1 y2 y3 y6 y9)∧I y9 S,fun _ e S=>μ (e.getD 4 .j) S,?_,?_⟩
 ·exact⟨_,_,Wk.refl _ _,rfl,_,rfl,h0⟩
 ·rintro _ e S ⟨rfl,y9,rfl,hI⟩
  exact(b90_0_eq _ _ _ _ _ _ _ _).mpr (hr y9 S hI _ (fun y9' S' hI' hm=>⟨_,_,Wk.refl _ _,⟨rfl,_,rfl,hI'⟩,hm⟩))
def c134:Code:=(Tryz.f134.body).getD .skip
def r134:List ResultVar:=Tryz.f134.results.toList
def env134_0(y0 y13 y14 y15:AV):List AV:=[y0,y13,y14,y15]
def lv134_0:List Nat:=[0,13,14,15]
def ms134:List (List Nat):=[lv134_0,[]]
def m134(x0:AV)(S:Store)(Q:PoT):Prop:=
 mkM (.p .i64) S fun a S=>nilChk x0 S fun c S=>shift c 4 S fun d S=>stN 1 d a S fun e S=>nilChk x0 S fun f S=>shift f 3 S fun g S=>ld1 g S fun h S=>lenS h S fun i S=>loopV lv134_0 (vc Pg (c134.at_ [1,1,0,0]) (ms134.drop 1)) 38 (env134_0 x0 h i (.v (.int .i64 0))) S (blockK 0 (bodyK Pg r134 Q))
theorem calls134{x0:AV}{S:Store}{Q:PoT}(h:m134 x0 S Q):ACalls Pg 134 [x0] S Q:=
 calls_of_vc (fn:=Tryz.f134) (c:=c134) (n:=38) Tryz.func134 (by kernel_rfl) (by kernel_rfl) (by kernel_rfl) ms134 (Eq.mpr (by kernel_rfl) h)
def b134_0(y0 y13 y14 y15:AV)(S:Store)(KE0:KeT)(Q:PoT):Prop:=
 bin .lss 0 y15 y14 S fun c S=>onB c fun b=>gd b (ixS 48 2 y13 y15 S fun d S=>ldN 2 d S fun e S=>boxN 48 2 (.a [.v (.int .i64 0),.v (.int .i64 0)]) S fun f S=>stN 2 f e S fun g S=>(fun S0:Store=>∃ h:AV,(nilChk y0 S fun i S=>i=h∧S=S0)∧∃ k:AV,(shift h 4 S fun l S=>l=k∧S=S0)∧∃ m:AV,(ld1 k S fun n S=>n=m∧S=S0)∧∃ o:AV,(ldN 2 f S fun q S=>q=o∧S=S0)∧∃ r:AV,(lkM (.p .i64) (.v (.int .i64 0)) true m o S fun s S=>s=r∧S=S0)∧∃ u:AV,(extr r 0 S fun w S=>w=u∧S=S0)∧∃ x:AV,(extr r 1 S fun y S=>y=x∧S=S0)∧un .not x S fun z S=>onB z fun b=>gd b (∃ A:AV,(∀ T:Store,Keep S T→nilChk y0 T fun B S=>B=A∧S=T)∧∃ C:AV,(∀ T:Store,Keep S T→shift A 4 T fun D S=>D=C∧S=T)∧∃ E:AV,(∀ T:Store,Keep S T→ld1 C T fun F S=>F=E∧S=T)∧∃ G:AV,(∀ T:Store,Keep S T→ldN 2 f T fun H S=>H=G∧S=T)∧updM (.p .i64) E G y15 S fun I S=>bin .add 0 y15 (.v (.int .i64 1)) S fun J S=>KE0 38 (env134_0 y0 y13 y14 J) S) (bin .add 0 y15 (.v (.int .i64 1)) S fun K S=>KE0 38 (env134_0 y0 y13 y14 K) S)) S) (Q (.ret (.t [])) S)
theorem b134_0_eq(y0 y13 y14 y15:AV)(S:Store)(KE0:KeT)(Q:PoT):vc Pg (c134.at_ [1,1,0,0]) (ms134.drop 1) (mkE 38 lv134_0 (env134_0 y0 y13 y14 y15)) S (thenK (fgK lv134_0 KE0) (blockK 0 (bodyK Pg r134 Q)))=b134_0 y0 y13 y14 y15 S KE0 Q:=by kernel_rfl
theorem loop134_0{y0 y13 y14:AV}{y150:AV}{S:Store}{Q:PoT}(I:AV→Store→Prop)(μ:AV→Store→Nat)(h0:I y150 S)
    (hr:∀(y15:AV) (S:Store),I y15 S→∀ KE0:KeT,(∀(y15':AV) (S':Store),I y15' S'→μ y15' S'<μ y15 S→KE0 38 (env134_0 y0 y13 y14 y15') S')→b134_0 y0 y13 y14 y15 S KE0 Q):
    loopV lv134_0 (vc Pg (c134.at_ [1,1,0,0]) (ms134.drop 1)) 38 (env134_0 y0 y13 y14 y150) S (blockK 0 (bodyK Pg r134 Q)):=by
 refine⟨fun n e S=>n=38∧∃ y15:AV,e=(env134_0 y0 y13 y14 y15)∧I y15 S,fun _ e S=>μ (e.getD 3 .j) S,?_,?_⟩
 ·exact⟨_,_,Wk.refl _ _,rfl,_,rfl,h0⟩
 ·rintro _ e S ⟨rfl,y15,rfl,hI⟩
  exact(b134_0_eq _ _ _ _ _ _ _).mpr (hr y15 S hI _ (fun y15' S' hI' hm=>⟨_,_,Wk.refl _ _,⟨rfl,_,rfl,hI'⟩,hm⟩))
def c123:Code:=(Tryz.f123.body).getD .skip
def ms123:List (List Nat):=[[134,133]]
def m123(x0:AV)(S:Store)(Q:PoT):Prop:=
 nilChk x0 S fun a S=>shift a 0 S fun c S=>callF Pg 133 [c,(.f (.func 134) [x0] [])] S Q fun d S=>nilChk x0 S fun e S=>shift e 4 S fun g S=>ld1 g S fun h S=>lenM h S fun i S=>Q (.ret i) S
theorem calls123{x0:AV}{S:Store}{Q:PoT}(h:m123 x0 S Q):ACalls Pg 123 [x0] S Q:=
 calls_of_vc (fn:=Tryz.f123) (c:=c123) (n:=14) Tryz.func123 (by kernel_rfl) (by kernel_rfl) (by kernel_rfl) ms123 (Eq.mpr (by kernel_rfl) h)
def c105:Code:=(Tryz.f105.body).getD .skip
def r105:List ResultVar:=Tryz.f105.results.toList
def env105_0(y1 y2 y27 y28 y29:AV):List AV:=[y1,y2,y27,y28,y29]
def lv105_0:List Nat:=[1,2,27,28,29]
def ms105:List (List Nat):=[lv105_0,[123]]
def m105(x0 x1:AV)(S:Store)(Q:PoT):Prop:=
 boxN 70 2 x0 S fun a S=>shift a 0 S fun c S=>ld1 c S fun d S=>bin .lss 0 d (.v (.int .i64 0)) S fun e S=>onB e fun b=>gd b (Q (.ret (.v (.bool false))) S) (shift a 0 S fun f S=>ld1 f S fun g S=>bin .gtr 0 g (.v (.int .i64 2000)) S fun h S=>onB h fun b=>gd b (Q (.ret (.v (.bool false))) S) (shift a 1 S fun i S=>ld1 i S fun k S=>lenS k S fun l S=>bin .gtr 0 l (.v (.int .i64 2000)) S fun m S=>onB m fun b=>gd b (Q (.ret (.v (.bool false))) S) (ldN 2 a S fun n S=>callF Pg 104 [n] S Q fun o S=>bin .gtr 0 o (.v (.int .i64 2000)) S fun p S=>onB p fun b=>gd b (Q (.ret (.v (.bool false))) S) (shift a 1 S fun q S=>ld1 q S fun r S=>lenS r S fun s S=>loopV lv105_0 (vc Pg (c105.at_ [1,1,0,1,0,0]) (ms105.drop 1)) 49 (env105_0 x1 a r s (.v (.int .i64 0))) S (blockK 0 (seqK (vc Pg (c105.at_ [1,1,1]) (ms105.drop 1)) (bodyK Pg r105 Q)))))))
theorem calls105{x0 x1:AV}{S:Store}{Q:PoT}(h:m105 x0 x1 S Q):ACalls Pg 105 [x0,x1] S Q:=
 calls_of_vc (fn:=Tryz.f105) (c:=c105) (n:=49) Tryz.func105 (by kernel_rfl) (by kernel_rfl) (by kernel_rfl) ms105 (Eq.mpr (by kernel_rfl) h)
def b105_0(y1 y2 y27 y28 y29:AV)(S:Store)(KE0:KeT)(Q:PoT):Prop:=
 bin .lss 0 y29 y28 S fun c S=>onB c fun b=>gd b (ixS 48 2 y27 y29 S fun d S=>ldN 2 d S fun e S=>boxN 48 2 (.a [.v (.int .i64 0),.v (.int .i64 0)]) S fun f S=>stN 2 f e S fun g S=>ldN 2 f S fun h S=>shift y2 0 S fun i S=>ld1 i S fun k S=>bin .add 0 k (.v (.int .i64 1)) S fun l S=>bin .add 0 l y29 S fun m S=>callF Pg 122 [h,m] S Q fun n S=>un .not n S fun o S=>onB o fun b=>gd b (Q (.ret (.v (.bool false))) S) (bin .add 0 y29 (.v (.int .i64 1)) S fun p S=>KE0 49 (env105_0 y1 y2 y27 y28 p) S)) (∃ q:AV,(∀ T:Store,Keep S T→shift y2 1 T fun r S=>r=q∧S=T)∧∃ s:AV,(∀ T:Store,Keep S T→ld1 q T fun t S=>t=s∧S=T)∧∃ u:AV,(∀ T:Store,Keep S T→lenS s T fun w S=>w=u∧S=T)∧callF Pg 123 [y1] S Q fun x S=>(∀ T:Store,Keep S T→lenS s T fun y S=>y=u∧S=T)∧(∀ T:Store,Keep S T→ld1 q T fun z S=>z=s∧S=T)∧(∀ T:Store,Keep S T→shift y2 1 T fun A S=>A=q∧S=T)∧∃ B:AV,(∀ T:Store,Keep S T→bin .eql 0 x u T fun C S=>C=B∧S=T)∧Q (.ret B) S)
theorem b105_0_eq(y1 y2 y27 y28 y29:AV)(S:Store)(KE0:KeT)(Q:PoT):vc Pg (c105.at_ [1,1,0,1,0,0]) (ms105.drop 1) (mkE 49 lv105_0 (env105_0 y1 y2 y27 y28 y29)) S (thenK (fgK lv105_0 KE0) (blockK 0 (seqK (vc Pg (c105.at_ [1,1,1]) (ms105.drop 1)) (bodyK Pg r105 Q))))=b105_0 y1 y2 y27 y28 y29 S KE0 Q:=by kernel_rfl
theorem loop105_0{y1 y2 y27 y28:AV}{y290:AV}{S:Store}{Q:PoT}(I:AV→Store→Prop)(μ:AV→Store→Nat)(h0:I y290 S)
    (hr:∀(y29:AV) (S:Store),I y29 S→∀ KE0:KeT,(∀(y29':AV) (S':Store),I y29' S'→μ y29' S'<μ y29 S→KE0 49 (env105_0 y1 y2 y27 y28 y29') S')→b105_0 y1 y2 y27 y28 y29 S KE0 Q):
    loopV lv105_0 (vc Pg (c105.at_ [1,1,0,1,0,0]) (ms105.drop 1)) 49 (env105_0 y1 y2 y27 y28 y290) S (blockK 0 (seqK (vc Pg (c105.at_ [1,1,1]) (ms105.drop 1)) (bodyK Pg r105 Q))):=by
 refine⟨fun n e S=>n=49∧∃ y29:AV,e=(env105_0 y1 y2 y27 y28 y29)∧I y29 S,fun _ e S=>μ (e.getD 4 .j) S,?_,?_⟩
 ·exact⟨_,_,Wk.refl _ _,rfl,_,rfl,h0⟩
 ·rintro _ e S ⟨rfl,y29,rfl,hI⟩
  exact(b105_0_eq _ _ _ _ _ _ _ _).mpr (hr y29 S hI _ (fun y29' S' hI' hm=>⟨_,_,Wk.refl _ _,⟨rfl,_,rfl,hI'⟩,hm⟩))
def c79:Code:=(Tryz.f79.body).getD .skip
def ms79:List (List Nat):=[[105]]
def m79(x0:AV)(S:Store)(Q:PoT):Prop:=
 boxN 70 2 x0 S fun a S=>ldN 2 a S fun c S=>shift a 1 S fun d S=>ld1 d S fun e S=>bld [(0,3),(3,1),(4,1)] [.v (.int .u32 0),.v (.int .i32 0),.v (.int .u32 0),.nl,.v (.map none)] [(1,e)] S fun f S=>boxN 155 5 f S fun g S=>callF Pg 105 [c,g] S Q fun h S=>Q (.ret h) S
theorem calls79{x0:AV}{S:Store}{Q:PoT}(h:m79 x0 S Q):ACalls Pg 79 [x0] S Q:=
 calls_of_vc (fn:=Tryz.f79) (c:=c79) (n:=9) Tryz.func79 (by kernel_rfl) (by kernel_rfl) (by kernel_rfl) ms79 (Eq.mpr (by kernel_rfl) h)
def c104:Code:=(Tryz.f104.body).getD .skip
def ms104:List (List Nat):=[[]]
def m104(x0:AV)(S:Store)(Q:PoT):Prop:=
 boxN 70 2 x0 S fun a S=>shift a 0 S fun c S=>ld1 c S fun d S=>bin .add 0 d (.v (.int .i64 1)) S fun e S=>shift a 1 S fun f S=>ld1 f S fun g S=>lenS g S fun h S=>bin .add 0 e h S fun i S=>Q (.ret i) S
theorem calls104{x0:AV}{S:Store}{Q:PoT}(h:m104 x0 S Q):ACalls Pg 104 [x0] S Q:=
 calls_of_vc (fn:=Tryz.f104) (c:=c104) (n:=10) Tryz.func104 (by kernel_rfl) (by kernel_rfl) (by kernel_rfl) ms104 (Eq.mpr (by kernel_rfl) h)
def c122:Code:=(Tryz.f122.body).getD .skip
def ms122:List (List Nat):=[[]]
def m122(x0 x1:AV)(S:Store)(Q:PoT):Prop:=
 boxN 48 2 x0 S fun a S=>ixA 2 1 a (.v (.int .i64 1)) S fun c S=>ld1 c S fun d S=>bin .geq 0 d (.v (.int .i64 2)) S fun e S=>onB e fun b=>gd b (ixA 2 1 a (.v (.int .i64 0)) S fun f S=>ld1 f S fun g S=>bin .quo 0 g (.v (.int .i64 2)) S fun h S=>ixA 2 1 a (.v (.int .i64 1)) S fun i S=>ld1 i S fun k S=>bin .quo 0 k (.v (.int .i64 2)) S fun l S=>bin .gtr 0 h l S fun m S=>onB m fun b=>gd b (ixA 2 1 a (.v (.int .i64 0)) S fun n S=>ld1 n S fun o S=>bin .quo 0 o (.v (.int .i64 2)) S fun p S=>bin .lss 0 p x1 S fun q S=>Q (.ret q) S) (Q (.ret (.v (.bool false))) S)) (Q (.ret (.v (.bool false))) S)
theorem calls122{x0 x1:AV}{S:Store}{Q:PoT}(h:m122 x0 x1 S Q):ACalls Pg 122 [x0,x1] S Q:=
 calls_of_vc (fn:=Tryz.f122) (c:=c122) (n:=24) Tryz.func122 (by kernel_rfl) (by kernel_rfl) (by kernel_rfl) ms122 (Eq.mpr (by kernel_rfl) h)
def c77:Code:=(Tryz.f77.body).getD .skip
def ms77:List (List Nat):=[[]]
def m77(x0 x1:AV)(S:Store)(Q:PoT):Prop:=
 boxN 70 2 x0 S fun a S=>shift a 0 S fun c S=>ld1 c S fun d S=>bin .geq 0 d (.v (.int .i64 0)) S fun e S=>onB e fun b=>gd b (shift a 0 S fun f S=>ld1 f S fun g S=>bin .leq 0 g (.v (.int .i64 2000)) S fun h S=>onB h fun b=>gd b (bin .geq 0 x1 (.v (.int .i64 0)) S fun i S=>onB i fun b=>gd b (bin .quo 0 x1 (.v (.int .i64 2)) S fun k S=>ldN 2 a S fun l S=>callF Pg 104 [l] S Q fun m S=>bin .lss 0 k m S fun n S=>Q (.ret n) S) (Q (.ret (.v (.bool false))) S)) (Q (.ret (.v (.bool false))) S)) (Q (.ret (.v (.bool false))) S)
theorem calls77{x0 x1:AV}{S:Store}{Q:PoT}(h:m77 x0 x1 S Q):ACalls Pg 77 [x0,x1] S Q:=
 calls_of_vc (fn:=Tryz.f77) (c:=c77) (n:=24) Tryz.func77 (by kernel_rfl) (by kernel_rfl) (by kernel_rfl) ms77 (Eq.mpr (by kernel_rfl) h)
def c167:Code:=(Tryz.f167.body).getD .skip
def ms167:List (List Nat):=[[174]]
def m167(x0:AV)(S:Store)(Q:PoT):Prop:=
 nilChk x0 S fun a S=>shift a 0 S fun c S=>callF Pg 174 [c] S Q fun d S=>Q (.ret (.t [])) S
def c168:Code:=(Tryz.f168.body).getD .skip
def ms168:List (List Nat):=[[175]]
def m168(x0 x1:AV)(S:Store)(Q:PoT):Prop:=
 ∃ a:AV,(∀ T:Store,Keep S T→nilChk x0 T fun c S=>c=a∧S=T)∧∃ d:AV,(∀ T:Store,Keep S T→shift a 0 T fun e S=>e=d∧S=T)∧∃ f:AV,(∀ T:Store,Keep S T→callF Pg 176 [x1] T (fun _ _=>False) fun g S=>g=f∧S=T)∧callF Pg 175 [d,f] S Q fun h S=>Q (.ret (.t [])) S
def c152:Code:=(Tryz.f152.body).getD .skip
def ms152:List (List Nat):=[[]]
def m152(x0:AV)(S:Store)(Q:PoT):Prop:=
 nilChk x0 S fun a S=>shift a 0 S fun c S=>callF Pg 165 [c] S Q fun d S=>bin .neq 0 d (.v (.int .u32 0)) S fun e S=>Q (.ret e) S
theorem calls152{x0:AV}{S:Store}{Q:PoT}(h:m152 x0 S Q):ACalls Pg 152 [x0] S Q:=
 calls_of_vc (fn:=Tryz.f152) (c:=c152) (n:=8) Tryz.func152 (by kernel_rfl) (by kernel_rfl) (by kernel_rfl) ms152 (Eq.mpr (by kernel_rfl) h)
def c166:Code:=(Tryz.f166.body).getD .skip
def ms166:List (List Nat):=[[173]]
def m166(x0:AV)(S:Store)(Q:PoT):Prop:=
 nilChk x0 S fun a S=>shift a 0 S fun c S=>callF Pg 173 [c] S Q fun d S=>Q (.ret (.t [])) S
theorem calls166{x0:AV}{S:Store}{Q:PoT}(h:m166 x0 S Q):ACalls Pg 166 [x0] S Q:=
 calls_of_vc (fn:=Tryz.f166) (c:=c166) (n:=6) Tryz.func166 (by kernel_rfl) (by kernel_rfl) (by kernel_rfl) ms166 (Eq.mpr (by kernel_rfl) h)
def c173:Code:=(Tryz.f173.body).getD .skip
def ms173:List (List Nat):=[[178]]
def m173(x0:AV)(S:Store)(Q:PoT):Prop:=
 callF Pg 177 [] S Q fun a S=>nilChk x0 S fun c S=>shift c 0 S fun d S=>callF Pg 178 [d,.v (.int .i32 0),.v (.int .i32 1)] S Q fun e S=>onB e fun b=>gd b (callF Pg 179 [] S Q fun f S=>convU x0 S fun g S=>callF Pg 180 [g] S Q fun h S=>Q (.ret (.t [])) S) (callF Pg 181 [x0] S Q fun i S=>Q (.ret (.t [])) S)
theorem calls173{x0:AV}{S:Store}{Q:PoT}(h:m173 x0 S Q):ACalls Pg 173 [x0] S Q:=
 calls_of_vc (fn:=Tryz.f173) (c:=c173) (n:=13) Tryz.func173 (by kernel_rfl) (by kernel_rfl) (by kernel_rfl) ms173 (Eq.mpr (by kernel_rfl) h)
def c174:Code:=(Tryz.f174.body).getD .skip
def ms174:List (List Nat):=[[183]]
def m174(x0:AV)(S:Store)(Q:PoT):Prop:=
 nilChk x0 S fun a S=>shift a 0 S fun c S=>ld1 c S fun d S=>convU x0 S fun e S=>callF Pg 182 [e] S Q fun f S=>callF Pg 177 [] S Q fun g S=>nilChk x0 S fun h S=>shift h 0 S fun i S=>callF Pg 183 [i,.v (.int .i32 (-1))] S Q fun k S=>bin .neq 0 k (.v (.int .i32 0)) S fun l S=>onB l fun b=>gd b (callF Pg 184 [x0,k] S Q fun m S=>callF Pg 179 [] S Q fun n S=>Q (.ret (.t [])) S) (callF Pg 179 [] S Q fun o S=>Q (.ret (.t [])) S)
theorem calls174{x0:AV}{S:Store}{Q:PoT}(h:m174 x0 S Q):ACalls Pg 174 [x0] S Q:=
 calls_of_vc (fn:=Tryz.f174) (c:=c174) (n:=21) Tryz.func174 (by kernel_rfl) (by kernel_rfl) (by kernel_rfl) ms174 (Eq.mpr (by kernel_rfl) h)
def c176:Code:=(Tryz.f176.body).getD .skip
def ms176:List (List Nat):=[[]]
def m176(x0:AV)(S:Store)(Q:PoT):Prop:=
 onB x0 fun b1=>gd b1 (Q (.ret (.v (.int .u32 1))) S) (Q (.ret (.v (.int .u32 0))) S)
theorem calls176{x0:AV}{S:Store}{Q:PoT}(h:m176 x0 S Q):ACalls Pg 176 [x0] S Q:=
 calls_of_vc (fn:=Tryz.f176) (c:=c176) (n:=4) Tryz.func176 (by kernel_rfl) (by kernel_rfl) (by kernel_rfl) ms176 (Eq.mpr (by kernel_rfl) h)
def c133:Code:=(Tryz.f133.body).getD .skip
def ms133:List (List Nat):=[[153]]
def m133(x0 x1:AV)(S:Store)(Q:PoT):Prop:=
 nilChk x0 S fun a S=>shift a 0 S fun c S=>callF Pg 152 [c] S Q fun d S=>un .not d S fun e S=>onB e fun b=>gd b (callF Pg 153 [x0,x1] S Q fun f S=>Q (.ret (.t [])) S) (Q (.ret (.t [])) S)
theorem calls133{x0 x1:AV}{S:Store}{Q:PoT}(h:m133 x0 x1 S Q):ACalls Pg 133 [x0,x1] S Q:=
 calls_of_vc (fn:=Tryz.f133) (c:=c133) (n:=12) Tryz.func133 (by kernel_rfl) (by kernel_rfl) (by kernel_rfl) ms133 (Eq.mpr (by kernel_rfl) h)
end
def c153:Code:=(Tryz.f153.body).getD .skip
def r153:List ResultVar:=Tryz.f153.results.toList
def m153(x0 x1:AV)(S:Store)(Q:AEnd→Store→Prop):Prop:=
 nilChk x0 S fun v1 S=>shift v1 1 S fun v2 S=>callF Pg 166 [v2] S (fun _ _=>False) fun v3 S=>nilChk x0 S fun v4 S=>shift v4 1 S fun v5 S=>nilChk x0 S fun v6 S=>shift v6 0 S fun v7 S=>callF Pg 152 [v7] S (fun _ _=>False) fun v8 S=>un .not v8 S fun v9 S=>onB v9 fun b10 =>
  gd b10 (nilChk x0 S fun v11 S=>shift v11 0 S fun v12 S=>callV Pg x1 [] S (fun v13 S=>ADCalls Pg 168 [v12,.v (.bool true)] S fun e S=>match e with
      |.ret _=>ADCalls Pg 167 [v5] S fun e S=>match e with|.ret _=>Q (.ret (.t [])) S|.pan _=>False
      |.pan _=>False) (fun _ _=>False))
   (ADCalls Pg 167 [v5] S fun e S=>match e with|.ret _=>Q (.ret (.t [])) S|.pan _=>False)
set_option maxRecDepth 100000 in
theorem m153_eq:(fun(x0 x1:AV) (S:Store) (Q:AEnd→Store→Prop)=>vcT Pg c153 [] (ofArgs 21 [x0,x1]) S [] (bodyT Pg r153 Q))=(fun(x0 x1:AV) (S:Store) (Q:AEnd→Store→Prop)=>m153 x0 x1 S Q):=by kernel_rfl
theorem calls153{x0 x1:AV}{S:Store}{Q:AEnd→Store→Prop}(h:m153 x0 x1 S Q):ACalls Pg 153 [x0,x1] S Q:=
 calls_of_vcT (fn:=Tryz.f153) (c:=c153) (n:=21) Tryz.func153 (by kernel_rfl) (by kernel_rfl) (by kernel_rfl) [] ((congrFun (congrFun (congrFun (congrFun m153_eq x0) x1) S) Q).mpr h)
theorem dcalls167{x0:AV}{S:Store}{Q:AEnd→Store→Prop}(h:m167 x0 S Q):ADCalls Pg 167 [x0] S Q:=
 dcalls_of_vc (fn:=Tryz.f167) (c:=c167) (n:=6) Tryz.func167 (by kernel_rfl) (by kernel_rfl) (by kernel_rfl) ms167 (Eq.mpr (by kernel_rfl) h)
theorem dcalls168{x0 x1:AV}{S:Store}{Q:AEnd→Store→Prop}(h:m168 x0 x1 S Q):ADCalls Pg 168 [x0,x1] S Q:=
 dcalls_of_vc (fn:=Tryz.f168) (c:=c168) (n:=10) Tryz.func168 (by kernel_rfl) (by kernel_rfl) (by kernel_rfl) ms168 (Eq.mpr (by kernel_rfl) h)
theorem nt177:NoText Pg 177 Tryz.f177:=⟨Tryz.func177,by kernel_rfl,by kernel_rfl,by kernel_rfl⟩
theorem nt179:NoText Pg 179 Tryz.f179:=⟨Tryz.func179,by kernel_rfl,by kernel_rfl,by kernel_rfl⟩
theorem nt180:NoText Pg 180 Tryz.f180:=⟨Tryz.func180,by kernel_rfl,by kernel_rfl,by kernel_rfl⟩
theorem nt182:NoText Pg 182 Tryz.f182:=⟨Tryz.func182,by kernel_rfl,by kernel_rfl,by kernel_rfl⟩
theorem nt165:NoText Pg 165 Tryz.f165:=⟨Tryz.func165,by kernel_rfl,by kernel_rfl,by kernel_rfl⟩
theorem nt175:NoText Pg 175 Tryz.f175:=⟨Tryz.func175,by kernel_rfl,by kernel_rfl,by kernel_rfl⟩
theorem nt178:NoText Pg 178 Tryz.f178:=⟨Tryz.func178,by kernel_rfl,by kernel_rfl,by kernel_rfl⟩
theorem nt183:NoText Pg 183 Tryz.f183:=⟨Tryz.func183,by kernel_rfl,by kernel_rfl,by kernel_rfl⟩
abbrev aW32(n:Int):AV:=.v (.int .u32 n)
abbrev aS32(n:Int):AV:=.v (.int .i32 n)
section
variable {S:Store} {Q:AEnd→Store→Prop}
theorem mark177{Q:AEnd→Store→Prop}{K:AV→Store→Prop}(k:K (.t []) S):callF Pg 177 [] S Q K:=.inr (ext_mark0 nt177 .disable (by kernel_rfl) k)
theorem mark179{K:AV→Store→Prop}(k:K (.t []) S):callF Pg 179 [] S Q K:=.inr (ext_mark0 nt179 .enable (by kernel_rfl) k)
theorem mark180{K:AV→Store→Prop}{id i j:Nat}(k:K (.t []) S):callF Pg 180 [.p id i j] S Q K:=.inr (ext_mark1 nt180 .acquire (by kernel_rfl) k)
theorem mark182{K:AV→Store→Prop}{id i j:Nat}(k:K (.t []) S):callF Pg 182 [.p id i j] S Q K:=.inr (ext_mark1 nt182 .releaseMerge (by kernel_rfl) k)
end
@[simp] theorem nilChk_p(id i j:Nat)(S:Store)(K:AV→Store→Prop):nilChk (.p id i j) S K=K (.p id i j) S:=rfl
theorem upd_upd(S:Store)(id:Nat)(o o':AObj):(S.upd id o).upd id o'=S.upd id o':=by
 unfold Store.upd
 congr 1
 funext i
 by_cases h:i=id<;>simp[h]
def onceO(t:TypeId)(done st:Int)(z:AV)(c:List AV):AObj:=.cells t [aW32 done :: aS32 st :: z :: c] true
section
variable {S:Store} {Q:AEnd→Store→Prop} {id t:Nat} {done st:Int} {z:AV} {c:List AV}
theorem load_once(h:S.obj id=some (onceO t done st z c))(k:Q (.ret (aB (!decide (done=0)))) S):ACalls Pg 152 [.p id 0 0] S Q:=by
 refine calls152 ?_
 unfold m152
 rw[nilChk_p,shift_p]
 refine .inr (ext_load nt165 .u32 (by kernel_rfl) h rfl rfl ?_)
 show bin .neq 0 (aW32 done) (aW32 0) S _
 rw[bin_neq]
 exact k
theorem lock_once(h:S.obj id=some (onceO t done 0 z c))(k:Q (.ret (.t [])) (S.upd id (onceO t done 1 z c))):ACalls Pg 166 [.p id 0 1] S Q:=by
 refine calls166 ?_
 unfold m166
 rw[nilChk_p,shift_p]
 refine .inl (calls173 ?_)
 unfold m173
 refine mark177 ?_
 rw[nilChk_p,shift_p]
 refine .inr (ext_cas nt178 .i32 (by kernel_rfl) h rfl rfl ?_)
 show onB _ _
 rw[onB_v,gd_true]
 refine mark179 ⟨aS32 1,?_,mark180 k⟩
 simp[rd1,place,Store.get]
theorem unlock_once(h:S.obj id=some (onceO t done 1 z c))(k:Q (.ret (.t [])) (S.upd id (onceO t done 0 z c))):ADCalls Pg 167 [.p id 0 1] S Q:=by
 refine dcalls167 ?_
 unfold m167
 rw[nilChk_p,shift_p]
 refine .inl (calls174 ?_)
 unfold m174
 rw[nilChk_p,shift_p,ld1_p h rfl rfl]
 refine⟨aS32 1,by simp[rd1,place,Store.get,h,onceO],mark182 (mark177 ?_)⟩
 rw[nilChk_p,shift_p]
 refine .inr (ext_add nt183 .i32 (by kernel_rfl) h rfl rfl ?_)
 show bin .neq 0 (aS32 (IntKind.i32.wrap (1 + -1))) (aS32 0) _ _
 have:IntKind.i32.wrap (1 + -1)=0:=by decide
 rw[this,bin_neq,onB_v]
 simp only[decide_true,Bool.not_true,gd_false]
 exact mark179 k
theorem store_once(h:S.obj id=some (onceO t done st z c))(k:Q (.ret (.t [])) (S.upd id (onceO t 1 st z c))):ADCalls Pg 168 [.p id 0 0,aB true] S Q:=by
 refine dcalls168 ?_
 unfold m168
 have hb:∀ T,ACalls Pg 176 [aB true] T (fun e S'=>e = .ret (aW32 1)∧S'=T):=fun T=>by
  refine calls176 ?_
  unfold m176
  rw[onB_v,gd_true]
  exact⟨rfl,rfl⟩
 refine⟨.p id 0 0,fun T _=>⟨rfl,rfl⟩,.p id 0 0,fun T _=>⟨rfl,rfl⟩,aW32 1,fun T _=>callF_at (hb T) ⟨rfl,rfl⟩,?_⟩
 exact .inr (ext_store nt175 (by kernel_rfl) h rfl rfl k)
theorem do_once(h:S.obj id=some (onceO t 0 0 z c)){f:AV}(hf:callV Pg f [] (S.upd id (onceO t 0 1 z c)) (fun _ S2=>∃ c',S2.obj id=some (onceO t 0 1 z c')∧Q (.ret (.t [])) (S2.upd id (onceO t 1 0 z c'))) (fun _ _=>False)):ACalls Pg 133 [.p id 0 0,f] S Q:=by
 refine calls133 ?_
 unfold m133
 rw[nilChk_p,shift_p]
 refine .inl (load_once h ?_)
 show un .not (aB (!decide ((0:Int)=0))) S _
 rw[un_not,onB_v]
 refine .inl (calls153 ?_)
 unfold m153
 rw[nilChk_p,shift_p]
 refine .inl (lock_once h ?_)
 show nilChk _ _ _
 rw[nilChk_p,shift_p,nilChk_p,shift_p]
 refine .inl (load_once (upd_self _ _) ?_)
 show un .not (aB (!decide ((0:Int)=0))) _ _
 rw[un_not,onB_v]
 show gd true _ _
 rw[gd_true,nilChk_p,shift_p]
 refine callV_mono hf (fun v S2 h2=>?_) (fun _ _ h=>h)
 obtain⟨c',h3,h4⟩:=h2
 refine store_once h3 (unlock_once (upd_self _ _) ?_)
 show Q (.ret (.t [])) _
 rw[upd_upd]
 exact h4
end
def pL(l:List (Int × Int)):AV:=.l (l.map fun p=>[aI p.1,aI p.2])
structure Gr where
 inputs:Int
 ands:List (Int × Int)
 deriving DecidableEq
def Gr.cells(g:Gr):List AV:=[aI g.inputs,pL g.ands]
def Gr.av(g:Gr):AV:=.a g.cells
def Gr.vars(g:Gr):Int:=g.inputs+1+g.ands.length
def i64R(a:Int):Prop:=-9223372036854775808≤a∧a≤9223372036854775807
structure Gr.ok (g:Gr):Prop where
 inp:i64R g.inputs
 len:g.ands.length≤1000000
 pairs:∀ p∈g.ands,i64R p.1∧i64R p.2
def may(p:Int × Int)(v:Int):Bool:=decide (2≤p.2) && (decide (p.2.tdiv 2<p.1.tdiv 2) && decide (p.1.tdiv 2<v))
def Gr.right(g:Gr):Bool:=decide (0≤g.inputs) && (decide (g.inputs≤2000) && (decide ((g.ands.length:Int)≤2000) && (decide (g.vars≤2000) &&
 ((List.range g.ands.length).all (fun i=>may (g.ands.getD i (0,0)) (g.inputs+1+i)) && decide g.ands.Nodup))))
def Gr.lit(g:Gr)(l:Int):Bool:=decide (0≤g.inputs) && (decide (g.inputs≤2000) && (decide (0≤l) && decide (l.tdiv 2<g.vars)))
@[simp] theorem lenS_pL(l:List (Int × Int)){S:Store}{K:AV→Store→Prop}:lenS (pL l) S K=K (aI l.length) S:=by simp[pL]
theorem ixS_pL{l:List (Int × Int)}{e i:Nat}{S:Store}{K:AV→Store→Prop}(h:i<l.length):ixS e 2 (pL l) (aI i) S K=K (.q [aI l[i].1,aI l[i].2] 0) S:=by
 unfold pL
 rw[ixS_l (by simpa using h) (by simp)]
 simp
@[simp] theorem ldN_q2{u v:AV}{S:Store}{K:AV→Store→Prop}:ldN 2 (.q [u,v] 0) S K=K (.a [u,v]) S:=by simp[ldN,rdN,place]
theorem tdiv2{a:Int}(h:i64R a):-9223372036854775808≤a.tdiv 2∧a.tdiv 2≤9223372036854775807:=by
 obtain⟨h1,h2⟩:=h
 rcases Int.le_total 0 a with h|h
 ·rw[Int.tdiv_eq_ediv_of_nonneg h];omega
 ·have:a.tdiv 2 = -((-a).tdiv 2):=by rw[Int.neg_tdiv,Int.neg_neg]
  rw[this,Int.tdiv_eq_ediv_of_nonneg (by omega)];omega
theorem bin_half{a:Int}(h:i64R a){S:Store}{K:AV→Store→Prop}:bin .quo 0 (aI a) (.v (.int .i64 2)) S K=K (aI (a.tdiv 2)) S:=bin_quo (by decide) (tdiv2 h).1 (tdiv2 h).2 0
theorem ixA_p{n sz id:Nat}{z:Nat}{S:Store}{K:AV→Store→Prop}(hz:z<n):ixA n sz (.p id 0 0) (aI z) S K=K (.p id 0 (z*sz)) S:=by
 unfold ixA
 simp only[intA,optP_some,Int.toNat_natCast,shift_p,Nat.zero_add]
 exact propext ⟨fun h=>h.2,fun h=>⟨⟨by omega,by omega⟩,h⟩⟩
theorem ans104{g:Gr}(hg:g.ok)(hi:g.inputs≤1000000)(h0:0≤g.inputs):Ans Pg 104 [g.av] (aI g.vars):=by
 intro S
 have hl:=hg.len
 refine ACalls.ans_v (calls104 ?_)
 unfold m104 Gr.av
 refine boxA_of rfl fun S1 k1 n1 o1=>?_
 rw[shift_p,ld1_p o1 rfl rfl,bin_add (by omega) (by omega),shift_p,ld1_p o1 rfl rfl,lenS_pL,bin_add (by omega) (by omega)]
 exact⟨rfl,k1⟩
theorem ans122{p:Int × Int}{v:Int}(h:i64R p.1∧i64R p.2):Ans Pg 122 [.a [aI p.1,aI p.2],aI v] (aB (may p v)):=by
 intro S
 refine ACalls.ans_v (calls122 ?_)
 unfold m122 may
 refine boxA_of rfl fun S1 k1 n1 o1=>?_
 have e1:∀ K:AV→Store→Prop,ixA 2 1 (.p S.n 0 0) (.v (.int .i64 1)) S1 K=K (.p S.n 0 1) S1:=fun K=>ixA_p (z:=1) (by decide)
 have e0:∀ K:AV→Store→Prop,ixA 2 1 (.p S.n 0 0) (.v (.int .i64 0)) S1 K=K (.p S.n 0 0) S1:=fun K=>ixA_p (z:=0) (by decide)
 rw[e1,ld1_p o1 rfl rfl,bin_geq,onB_v]
 refine gd_of (fun h1=>?_) (fun h1=>⟨by simp only[h1,Bool.false_and],k1⟩)
 rw[e0,ld1_p o1 rfl rfl,bin_half h.1,e1,ld1_p o1 rfl rfl,bin_half h.2,bin_gtr,onB_v]
 refine gd_of (fun h2=>?_) (fun h2=>⟨by simp only[h1,h2,Bool.false_and,Bool.true_and],k1⟩)
 rw[e0,ld1_p o1 rfl rfl,bin_half h.1,bin_lss]
 exact⟨by simp only[h1,h2,Bool.true_and],k1⟩
theorem ans77{g:Gr}{l:Int}(hg:g.ok)(hl:i64R l):Ans Pg 77 [g.av,aI l] (aB (g.lit l)):=by
 intro S
 refine ACalls.ans_v (calls77 ?_)
 unfold m77 Gr.av Gr.lit
 refine boxA_of rfl fun S1 k1 n1 o1=>?_
 rw[shift_p,ld1_p o1 rfl rfl,bin_geq,onB_v]
 refine gd_of (fun h1=>?_) (fun h1=>⟨by simp only[h1,Bool.false_and],k1⟩)
 rw[shift_p,ld1_p o1 rfl rfl,bin_leq,onB_v]
 refine gd_of (fun h2=>?_) (fun h2=>⟨by simp only[h1,h2,Bool.false_and,Bool.true_and],k1⟩)
 rw[bin_geq,onB_v]
 refine gd_of (fun h3=>?_) (fun h3=>⟨by simp only[h1,h2,h3,Bool.false_and,Bool.true_and],k1⟩)
 rw[bin_half hl,ldN_p (n:=2) o1 rfl]
 refine callF_ans (ans104 hg (by have:=dT h2;omega) (dT h1)) ?_
 rw[bin_lss]
 exact⟨by simp only[h1,h2,h3,Bool.true_and],k1⟩
def gat(l:List (Int × Int)):Nat→List (Key × AV)
 |0=>[]
 |i+1=>match kix (gat l i) (.p (l.getD i (0,0)).1 (l.getD i (0,0)).2)with
  |some _=>gat l i
  |none=>gat l i ++ [(.p (l.getD i (0,0)).1 (l.getD i (0,0)).2,aI i)]
theorem kix_none{es:List (Key × AV)}{k:Key}:kix es k=none↔k∉es.map (·.1):=by
 unfold kix
 rw[List.findIdx?_eq_none_iff]
 simp only[List.mem_map,not_exists,not_and]
 constructor
 ·intro h x hx e
  have:=h x hx
  simp[e]at this
 ·intro h x hx
  simpa using h x hx
theorem gat_keys{l:List (Int × Int)}:∀{i:Nat},i≤l.length→∀ k,k∈(gat l i).map (·.1)↔∃ p∈l.take i,k = .p p.1 p.2
 |0,_,k=>by simp[gat]
 |i+1,h,k=>by
  have ih:=gat_keys (l:=l) (i:=i) (by omega)
  have hi:i<l.length:=by omega
  have hg:l.getD i (0,0)=l[i]:=by simp[List.getD_eq_getElem?_getD,hi]
  rw[List.take_add_one,List.getElem?_eq_getElem hi]
  unfold gat
  rw[hg]
  split
  ·rename_i j hj
   rw[ih]
   have hm:Key.p l[i].1 l[i].2∈(gat l i).map (·.1):=by
    by_cases c:Key.p l[i].1 l[i].2∈(gat l i).map (·.1)
    ·exact c
    ·rw[kix_none.2 c]at hj;cases hj
   constructor
   ·rintro⟨p,hp,e⟩
    exact⟨p,List.mem_append_left _ hp,e⟩
   ·rintro⟨p,hp,e⟩
    rcases List.mem_append.1 hp with hp|hp
    ·exact⟨p,hp,e⟩
    ·have:p=l[i]:=by simpa using hp
     subst this
     rw[e];exact(ih _).1 hm
  ·rw[List.map_append,List.mem_append,ih]
   constructor
   ·rintro(⟨p,hp,e⟩|hk)
    ·exact⟨p,List.mem_append_left _ hp,e⟩
    ·exact⟨l[i],List.mem_append_right _ (by simp),by simpa using hk⟩
   ·rintro⟨p,hp,e⟩
    rcases List.mem_append.1 hp with hp|hp
    ·exact .inl ⟨p,hp,e⟩
    ·have:p=l[i]:=by simpa using hp
     subst this
     exact .inr (by simp[e])
theorem gat_le(l:List (Int × Int)):∀ i:Nat,(gat l i).length≤i
 |0=>Nat.le_refl _
 |i+1=>by
  have:=gat_le l i
  unfold gat
  split
  ·omega
  ·simp;omega
theorem gat_all{l:List (Int × Int)}:∀{i:Nat},i≤l.length→((gat l i).length=i↔(l.take i).Nodup)
 |0,_=>by simp[gat]
 |i+1,h=>by
  have ih:=gat_all (l:=l) (i:=i) (by omega)
  have hi:i<l.length:=by omega
  have hk:=gat_keys (l:=l) (i:=i) (by omega) (.p l[i].1 l[i].2)
  have hle:=gat_le l i
  have hg:l.getD i (0,0)=l[i]:=by simp[List.getD_eq_getElem?_getD,hi]
  rw[List.take_add_one,List.getElem?_eq_getElem hi,List.nodup_append]
  unfold gat
  rw[hg]
  split
  ·rename_i j hj
   have hm:Key.p l[i].1 l[i].2∈(gat l i).map (·.1):=by
    by_cases c:Key.p l[i].1 l[i].2∈(gat l i).map (·.1)
    ·exact c
    ·rw[kix_none.2 c]at hj;cases hj
   obtain⟨p,hp,e⟩:=hk.1 hm
   constructor
   ·intro h;omega
   ·rintro⟨_,_,h3⟩
    refine absurd ?_ (h3 p hp l[i] (by simp))
    simp only[Key.p.injEq]at e
    exact Prod.ext e.1.symm e.2.symm
  ·rename_i hn
   rw[kix_none,hk]at hn
   rw[List.length_append,List.length_singleton,Nat.add_right_cancel_iff,ih]
   constructor
   ·intro h
    refine⟨h,by simp,fun a ha b hb=>?_⟩
    have:b=l[i]:=by simpa using hb
    subst this
    rintro rfl
    exact hn ⟨_,ha,rfl⟩
   ·exact fun h=>h.1
@[simp] theorem extr0{x:AV}{l:List AV}{S:Store}{K:AV→Store→Prop}:extr (.t (x :: l)) 0 S K=K x S:=by simp[extr]
@[simp] theorem extr1{x y:AV}{l:List AV}{S:Store}{K:AV→Store→Prop}:extr (.t (x :: y :: l)) 1 S K=K y S:=by simp[extr]
@[simp] theorem extr2{x y z:AV}{l:List AV}{S:Store}{K:AV→Store→Prop}:extr (.t (x :: y :: z :: l)) 2 S K=K z S:=by simp[extr]
theorem lkM_m{S:Store}{kk:KK}{z:AV}{c:Bool}{id:Nat}{k:AV}{key:Key}{es:List (Key × AV)}{lv:Bool}{K:AV→Store→Prop}(h:S.obj id=some (.map kk es lv))(hk:keyA kk k=some key):lkM kk z c (.m id) k S K=K (lkV z c (lkp es key)) S:=by
 simp[lkM,entsA,h,hk]
theorem updM_m{S:Store}{kk:KK}{id:Nat}{k v:AV}{key:Key}{es:List (Key × AV)}{K:AV→Store→Prop}(h:S.obj id=some (.map kk es true))(hk:keyA kk k=some key):updM kk (.m id) k v S K=K .j (S.upd id (.map kk (insM es key v) true)):=by
 simp[updM,h,hk]
theorem lenM_m{S:Store}{kk:KK}{id:Nat}{es:List (Key × AV)}{lv:Bool}{K:AV→Store→Prop}(h:S.obj id=some (.map kk es lv)):lenM (.m id) S K=K (aI es.length) S:=by
 simp[lenM,h]
theorem keyP(a b:Int):keyA (.p .i64) (.a [aI a,aI b])=some (.p a b):=by simp[keyA]
theorem lkp_isSome(es:List (Key × AV))(k:Key):(lkp es k).isSome=(kix es k).isSome:=by
 cases h:kix es k with
 |none=>simp[lkp,h]
 |some i =>
  obtain⟨e,h1,h2⟩:=lkp_row (kk:=.s) h
  simp[h2]
theorem make_once{S:Store}{id:Nat}{z g0:AV}{d st:Int}{l:List (Int × Int)}{Q:AEnd→Store→Prop}(hl:l.length≤1000000)(hid:id<S.n)(h:S.obj id=some (onceO 155 d st z [pL l,g0]))
    (k:∀ S2 m,S.n≤S2.n→(∀ x,x<S.n→x≠id→S2.obj x=S.obj x)→m≠id→S2.obj id=some (onceO 155 d st z [pL l,.m m])→S2.obj m=some (.map (.p .i64) (gat l l.length) true)→Q (.ret (.t [])) S2):
    ACalls Pg 134 [.p id 0 0] S Q:=by
 refine calls134 ?_
 unfold m134 mkM
 have h':=(new_lt (o:=.map (.p .i64) [] true) hid).trans h
 show nilChk _ _ _
 rw[nilChk_p,shift_p]
 refine stF_of h' (by simp) rfl fun S1 n1 o1 f1=>?_
 rw[nilChk_p,shift_p,ld1_p o1 rfl rfl,lenS_pL]
 have hm:S.n≠id:=by omega
 refine loop134_0 (fun y S'=>S.n<S'.n∧(∀ x,x<S.n→x≠id→S'.obj x=S.obj x)∧S'.obj id=some (onceO 155 d st z [pL l,.m S.n])∧∃ i:Nat,y=aI i∧i≤l.length∧S'.obj S.n=some (.map (.p .i64) (gat l i) true))
  (fun y _=>l.length - ((intA y).getD 0).toNat) ⟨by rw[n1,new_n];omega,fun x hx hne=>by rw[f1 x hne,new_lt hx],o1,0,rfl,Nat.zero_le _,by rw[f1 _ hm,new_self];rfl⟩ ?_
 rintro _ S2 ⟨n2,f2,o2,i,rfl,hi,m2⟩ KE hKE
 unfold b134_0
 rw[bin_lss,onB_v]
 refine gd_of (fun hlt=>?_) (fun hge=>?_)
 ·have hlt:i<l.length:=by simpa using hlt
  have hg:l.getD i (0,0)=l[i]:=by simp[List.getD_eq_getElem?_getD,hlt]
  rw[ixS_pL hlt,ldN_q2]
  refine boxA_of rfl fun S3 k3 n3 o3=>?_
  refine stA_of o3 rfl rfl fun S4 n4 o4 f4=>?_
  have p4:S4.obj id=_:=(f4 id (by omega)).trans ((k3.2 id (by omega)).trans o2)
  have q4:S4.obj S.n=_:=(f4 S.n (by omega)).trans ((k3.2 S.n n2).trans m2)
  have r4:∀ x,x<S.n→x≠id→S4.obj x=S.obj x:=fun x hx hne=>(f4 x (by omega)).trans ((k3.2 x (by omega)).trans (f2 x hx hne))
  show ∃ q15:AV,_
  refine⟨_,by rw[nilChk_p];exact⟨rfl,rfl⟩,_,by rw[shift_p];exact⟨rfl,rfl⟩,_,by rw[ld1_p p4 rfl rfl];exact⟨rfl,rfl⟩,_,by rw[ldN_p (n:=2) o4 rfl];exact⟨rfl,rfl⟩,_,by rw[lkM_m q4 (keyP _ _)];exact⟨rfl,rfl⟩,_,by rw[lkV,extr0];exact⟨rfl,rfl⟩,_,by rw[lkV,extr1];exact⟨rfl,rfl⟩,?_⟩
  rw[lkp_isSome,un_not,onB_v]
  have hadd:∀ K:AV→Store→Prop,∀ S,bin .add 0 (.v (.int .i64 (i:Int))) (.v (.int .i64 1)) S K=K (aI (i+1:Nat)) S:=fun K S=>bin_add (by omega) (by omega) 0
  have hμ:l.length - ((intA (aI (i+1:Nat))).getD 0).toNat<l.length - ((intA (aI i)).getD 0).toNat:=by simp[intA];omega
  refine gd_of (fun hn=>?_) (fun hn=>?_)
  ·have hn:kix (gat l i) (.p l[i].1 l[i].2)=none:=by simpa using hn
   refine⟨_,fun T hT=>by rw[nilChk_p];exact⟨rfl,rfl⟩,_,fun T hT=>by rw[shift_p];exact⟨rfl,rfl⟩,_,fun T hT=>by rw[ld1_p ((hT.2 id (by omega)).trans p4) rfl rfl];exact⟨rfl,rfl⟩,_,fun T hT=>by rw[ldN_p (n:=2) ((hT.2 _ (by omega)).trans o4) rfl];exact⟨rfl,rfl⟩,?_⟩
   rw[updM_m q4 (keyP _ _),hadd]
   refine hKE _ _ ⟨by simp;omega,fun x hx hne=>by rw[upd_ne (by omega)];exact r4 x hx hne,by rw[upd_ne (by omega)];exact p4,i+1,rfl,hlt,?_⟩ hμ
   rw[upd_self]
   simp only[gat,hg,hn,insM_none hn]
  ·obtain⟨j,hj⟩:∃ j,kix (gat l i) (.p l[i].1 l[i].2)=some j:=by
     cases e:kix (gat l i) (.p l[i].1 l[i].2)with
     |none=>simp[e]at hn
     |some j=>exact⟨j,rfl⟩
   rw[hadd]
   refine hKE _ _ ⟨by omega,r4,p4,i+1,rfl,hlt,?_⟩ hμ
   rw[q4]
   simp only[gat,hg,hj]
 ·have hge:i=l.length:=by simp at hge;omega
  subst hge
  exact k S2 S.n (by omega) f2 hm o2 m2
theorem many_once{S:Store}{id:Nat}{z g0:AV}{l:List (Int × Int)}{Q:AEnd→Store→Prop}(hl:l.length≤1000000)(hid:id<S.n)(h:S.obj id=some (onceO 155 0 0 z [pL l,g0]))
    (k:∀ S2,S.n≤S2.n→(∀ x,x<S.n→x≠id→S2.obj x=S.obj x)→Q (.ret (aI (gat l l.length).length)) S2):
    ACalls Pg 123 [.p id 0 0] S Q:=by
 refine calls123 ?_
 unfold m123
 rw[nilChk_p,shift_p]
 refine .inl (do_once h (.inl (make_once hl (by simpa using hid) (upd_self _ _) fun S2 m n2 f2 hm o2 m2=>⟨_,o2,?_⟩)))
 show nilChk _ _ _
 rw[nilChk_p,shift_p,ld1_p (show(S2.upd id (onceO 155 1 0 z [pL l,.m m])).obj id=some (.cells 155 [[aW32 1,aS32 0,z,pL l,.m m]] true)from upd_self _ _) rfl rfl]
 rw[lenM_m (by rw[upd_ne hm];exact m2)]
 refine k _ (by simpa using n2) fun x hx hne=>?_
 rw[upd_ne hne,f2 x (by simpa using hx) hne,upd_ne hne]
theorem bld_of{pl:List (Nat × Nat)}{zc:List AV}{parts:List (Nat × AV)}{S:Store}{K:AV→Store→Prop}{cs:List AV}(h:fillA (fun i=>pl[i]?) zc parts=some cs):bld pl zc parts S K=K (.a cs) S:=by
 simp[bld,h]
theorem right_of{g:Gr}(hg:g.ok){S:Store}{id:Nat}(hid:id<S.n){z g0:AV}(h:S.obj id=some (onceO 155 0 0 z [pL g.ands,g0])){Q:AEnd→Store→Prop}
    (k:∀ S2,S.n≤S2.n→(∀ x,x<S.n→x≠id→S2.obj x=S.obj x)→Q (.ret (aB g.right)) S2):ACalls Pg 105 [g.av,.p id 0 0] S Q:=by
 have hlen:=hg.len
 refine calls105 ?_
 unfold m105 Gr.av
 refine boxA_of rfl fun S1 k1 n1 o1=>?_
 have kk:∀ b:Bool,g.right=b→Q (.ret (aB b)) S1:=fun b e=>e ▸ k S1 (by omega) fun x hx _=>k1.2 x hx
 rw[shift_p,ld1_p o1 rfl rfl,bin_lss,onB_v]
 refine gd_of (fun h1=>kk _ ?_) (fun h1=>?_)
 ·have h1:=dT h1
  simp[Gr.right,show ¬ 0≤g.inputs by omega]
 have h1:0≤g.inputs:=by simpa using h1
 rw[shift_p,ld1_p o1 rfl rfl,bin_gtr,onB_v]
 refine gd_of (fun h2=>kk _ ?_) (fun h2=>?_)
 ·have h2:=dT h2
  simp[Gr.right,show ¬ g.inputs≤2000 by omega]
 have h2:g.inputs≤2000:=by simpa using h2
 rw[shift_p,ld1_p o1 rfl rfl,lenS_pL,bin_gtr,onB_v]
 refine gd_of (fun h3=>kk _ ?_) (fun h3=>?_)
 ·have h3:=dT h3
  have:¬ (g.ands.length:Int)≤2000:=by omega
  simp only[Gr.right,this,decide_false,Bool.false_and,Bool.and_false]
 have h3:g.ands.length≤2000:=by have:=dF h3;omega
 rw[ldN_p (n:=2) o1 rfl]
 refine callF_ans (ans104 hg (by omega) h1) ?_
 rw[bin_gtr,onB_v]
 refine gd_of (fun h4=>kk _ ?_) (fun h4=>?_)
 ·have h4:=dT h4
  simp[Gr.right,show ¬ g.vars≤2000 by omega]
 have h4:g.vars≤2000:=by simpa using h4
 rw[shift_p,ld1_p o1 rfl rfl,lenS_pL]
 refine loop105_0 (fun y S'=>Keep S1 S'∧∃ i:Nat,y=aI i∧i≤g.ands.length∧∀ j,j<i→may (g.ands.getD j (0,0)) (g.inputs+1+j)=true)
  (fun y _=>g.ands.length - ((intA y).getD 0).toNat) ⟨Keep.refl _,0,rfl,Nat.zero_le _,fun j hj=>(Nat.not_lt_zero _ hj).elim⟩ ?_
 rintro _ S2 ⟨k2,i,rfl,hi,hmay⟩ KE hKE
 have o2:=(k2.2 S.n (by omega)).trans o1
 have b2:=(k2.2 id (by omega)).trans ((k1.2 id hid).trans h)
 unfold b105_0
 rw[bin_lss,onB_v]
 refine gd_of (fun hlt=>?_) (fun hge=>?_)
 ·have hlt:i<g.ands.length:=by simpa using hlt
  have hg':g.ands.getD i (0,0)=g.ands[i]:=by simp[List.getD_eq_getElem?_getD,hlt]
  rw[ixS_pL hlt,ldN_q2]
  refine boxA_of rfl fun S3 k3 n3 o3=>?_
  refine stA_of o3 rfl rfl fun S4 n4 o4 f4=>?_
  have k4:Keep S1 S4:=(k2.trans k3).st (by have:=k2.1;omega) n4 f4
  have p4:=(k4.2 S.n (by omega)).trans o1
  rw[ldN_p (n:=2) o4 rfl,shift_p,ld1_p p4 rfl rfl,bin_add (by omega) (by omega),bin_add (by omega) (by omega)]
  refine callF_ans (ans122 (p:=g.ands[i]) (hg.pairs _ (List.getElem_mem hlt))) ?_
  rw[un_not,onB_v]
  refine gd_of (fun h5=>?_) (fun h5=>?_)
  ·have:g.right=false:=by
     have hr:(List.range g.ands.length).all (fun i=>may (g.ands.getD i (0,0)) (g.inputs+1+i))=false:=by
      rw[List.all_eq_false]
      exact⟨i,by simpa using hlt,by rw[hg'];simpa using h5⟩
     simp only[Gr.right,hr,Bool.false_and,Bool.and_false]
   rw[←this]
   exact k S4 (by have:=k4.1;omega) fun x hx _=>(k4.2 x (by omega)).trans (k1.2 x hx)
  ·have hadd:∀ K:AV→Store→Prop,∀ S,bin .add 0 (.v (.int .i64 (i:Int))) (.v (.int .i64 1)) S K=K (aI (i+1:Nat)) S:=fun K S=>bin_add (by omega) (by omega) 0
   rw[hadd]
   refine hKE _ _ ⟨k4,i+1,rfl,hlt,fun j hj=>?_⟩ (by simp[intA];omega)
   rcases Nat.lt_or_ge j i with hj'|hj'
   ·exact hmay j hj'
   ·have:j=i:=by omega
    subst this
    rw[hg']
    simpa using h5
 ·have hge:i=g.ands.length:=by simp at hge;omega
  subst hge
  have hn2:=k2.1
  refine⟨_,fun T hT=>by rw[shift_p];exact⟨rfl,rfl⟩,_,fun T hT=>by rw[ld1_p ((hT.2 _ (by omega)).trans o2) rfl rfl];exact⟨rfl,rfl⟩,_,fun T hT=>by rw[lenS_pL];exact⟨rfl,rfl⟩,.inl (many_once hlen (by omega) b2 fun S3 n3 f3=>?_)⟩
  have o3:=(f3 S.n (by omega) (by omega)).trans o2
  refine⟨fun T hT=>by rw[lenS_pL];exact⟨rfl,rfl⟩,fun T hT=>by rw[ld1_p ((hT.2 _ (by omega)).trans o3) rfl rfl];exact⟨rfl,rfl⟩,fun T hT=>by rw[shift_p];exact⟨rfl,rfl⟩,_,fun T hT=>by rw[bin_eql];exact⟨rfl,rfl⟩,?_⟩
  have:g.right=decide (((gat g.ands g.ands.length).length:Int)=g.ands.length):=by
   have hr:(List.range g.ands.length).all (fun i=>may (g.ands.getD i (0,0)) (g.inputs+1+i))=true:=by
    rw[List.all_eq_true]
    exact fun j hj=>hmay j (by simpa using hj)
   have hall:=gat_all (l:=g.ands) (i:=g.ands.length) (Nat.le_refl _)
   rw[List.take_length]at hall
   simp only[Gr.right,hr,Bool.true_and,h1,h2,h4,show(g.ands.length:Int)≤2000 by omega,decide_true,Int.natCast_inj,hall]
  rw[←this]
  exact k S3 (by omega) fun x hx hne=>(f3 x (by omega) hne).trans ((k2.2 x (by omega)).trans (k1.2 x hx))
theorem ans79{g:Gr}(hg:g.ok):Ans Pg 79 [g.av] (aB g.right):=by
 intro S
 refine ACalls.ans_v (calls79 ?_)
 unfold m79 Gr.av
 refine boxA_of rfl fun S1 k1 n1 o1=>?_
 rw[ldN_p (n:=2) o1 rfl,shift_p,ld1_p o1 rfl rfl]
 rw[bld_of (cs:=[aW32 0,aS32 0,.v (.int .u32 0),pL g.ands,.v (.map none)]) rfl]
 refine boxA_of rfl fun S2 k2 n2 o2=>?_
 refine .inl (right_of hg (by omega) o2 fun S3 n3 f3=>⟨rfl,k1.trans ⟨by omega,fun x hx=>?_⟩⟩)
 rw[f3 x (by omega) (by omega),k2.2 x hx]
theorem ans49{g:Gr}(hg:g.ok)(hi:g.inputs≤1000000)(h0:0≤g.inputs):Ans Pg 49 [g.av] (aI g.vars):=by
 intro S
 have hl:=hg.len
 refine ACalls.ans_v (calls49 ?_)
 unfold m49 Gr.av
 refine boxA_of rfl fun S1 k1 n1 o1=>?_
 rw[shift_p,ld1_p o1 rfl rfl,bin_add (by omega) (by omega),shift_p,ld1_p o1 rfl rfl,lenS_pL,bin_add (by omega) (by omega)]
 exact⟨rfl,k1⟩
theorem ans87{g:Gr}{l:Int}(hg:g.ok)(hl:i64R l):Ans Pg 87 [g.av,aI l] (aB (g.lit l)):=by
 intro S
 refine ACalls.ans_v (calls87 ?_)
 unfold m87 Gr.av Gr.lit
 refine boxA_of rfl fun S1 k1 n1 o1=>?_
 rw[shift_p,ld1_p o1 rfl rfl,bin_geq,onB_v]
 refine gd_of (fun h1=>?_) (fun h1=>⟨by simp only[h1,Bool.false_and],k1⟩)
 rw[shift_p,ld1_p o1 rfl rfl,bin_leq,onB_v]
 refine gd_of (fun h2=>?_) (fun h2=>⟨by simp only[h1,h2,Bool.false_and,Bool.true_and],k1⟩)
 rw[bin_geq,onB_v]
 refine gd_of (fun h3=>?_) (fun h3=>⟨by simp only[h1,h2,h3,Bool.false_and,Bool.true_and],k1⟩)
 rw[bin_half hl,ldN_p (n:=2) o1 rfl]
 refine callF_ans (ans49 hg (by have:=dT h2;omega) (dT h1)) ?_
 rw[bin_lss]
 exact⟨by simp only[h1,h2,h3,Bool.true_and],k1⟩
theorem binP_eq{a b c d:Int}{S:Store}{K:AV→Store→Prop}:binP .i64 .eql (.a [aI a,aI b]) (.a [aI c,aI d]) S K=K (aB (decide ((a,b)=(c,d)))) S:=by
 simp[binP,keyA]
theorem ixA_q{n sz:Nat}{c:List AV}{z:Nat}{S:Store}{K:AV→Store→Prop}(hz:z<n):ixA n sz (.q c 0) (aI z) S K=K (.q c (z*sz)) S:=by
 unfold ixA
 simp only[intA,optP_some,Int.toNat_natCast,shift,Nat.zero_add]
 exact propext ⟨fun h=>h.2,fun h=>⟨⟨by omega,by omega⟩,h⟩⟩
theorem ld1_q1{u v:AV}{S:Store}{K:AV→Store→Prop}:ld1 (.q [u,v] 1) S K=K v S:=by simp[ld1,rd1,place]
theorem ld1_q0{u:AV}{l:List AV}{S:Store}{K:AV→Store→Prop}:ld1 (.q (u :: l) 0) S K=K u S:=by simp[ld1,rd1,place]
theorem right_iff{g:Gr}:g.right=true↔0≤g.inputs∧g.inputs≤2000∧(g.ands.length:Int)≤2000∧g.vars≤2000∧(∀ j,j<g.ands.length→may (g.ands.getD j (0,0)) (g.inputs+1+j)=true)∧g.ands.Nodup:=by
 simp[Gr.right]
theorem nodup_take{α:Type}[DecidableEq α]{l:List α}{i:Nat}(h:i<l.length):(l.take (i+1)).Nodup↔(l.take i).Nodup∧∀ k (hk:k<i),l[k]≠l[i]:=by
 rw[List.take_add_one,List.getElem?_eq_getElem h,List.nodup_append]
 constructor
 ·rintro⟨h1,_,h3⟩
  refine⟨h1,fun k hk=>h3 _ ?_ _ (by simp)⟩
  rw[List.mem_take_iff_getElem]
  exact⟨k,by omega,rfl⟩
 ·rintro⟨h1,h2⟩
  refine⟨h1,by simp,fun a ha b hb=>?_⟩
  have:b=l[i]:=by simpa using hb
  subst this
  rw[List.mem_take_iff_getElem]at ha
  obtain⟨k,hk,rfl⟩:=ha
  exact h2 k (by omega)
theorem may_false1{p:Int × Int}{v:Int}(h:p.2<2):may p v=false:=by simp[may,show ¬ 2≤p.2 by omega]
theorem may_false2{p:Int × Int}{v:Int}(h:p.1.tdiv 2≤p.2.tdiv 2):may p v=false:=by simp[may,show ¬ p.2.tdiv 2<p.1.tdiv 2 by omega]
theorem may_false3{p:Int × Int}{v:Int}(h:v≤p.1.tdiv 2):may p v=false:=by simp[may,show ¬ p.1.tdiv 2<v by omega]
theorem right_may{g:Gr}{i:Nat}(h:i<g.ands.length)(hm:may (g.ands.getD i (0,0)) (g.inputs+1+i)=false):g.right=false:=by
 cases e:g.right with
 |false=>rfl
 |true=>rw[(right_iff.1 e).2.2.2.2.1 i h]at hm;cases hm
theorem ans86{g:Gr}(hg:g.ok):Ans Pg 86 [g.av] (aB g.right):=by
 intro S
 refine ACalls.ans_v (calls86 ?_)
 have hlen:=hg.len
 unfold m86 Gr.av
 refine boxA_of rfl fun S1 k1 n1 o1=>?_
 rw[shift_p,ld1_p o1 rfl rfl,bin_lss,onB_v]
 refine gd_of (fun h1=>⟨?_,k1⟩) (fun h1=>?_)
 ·have h1:=dT h1
  simp[Gr.right,show ¬ 0≤g.inputs by omega]
 have h1:0≤g.inputs:=by simpa using h1
 rw[shift_p,ld1_p o1 rfl rfl,bin_gtr,onB_v]
 refine gd_of (fun h2=>⟨?_,k1⟩) (fun h2=>?_)
 ·have h2:=dT h2
  simp[Gr.right,show ¬ g.inputs≤2000 by omega]
 have h2:g.inputs≤2000:=by simpa using h2
 rw[shift_p,ld1_p o1 rfl rfl,lenS_pL,bin_gtr,onB_v]
 refine gd_of (fun h3=>⟨?_,k1⟩) (fun h3=>?_)
 ·have h3:=dT h3
  have:¬ (g.ands.length:Int)≤2000:=by omega
  simp only[Gr.right,this,decide_false,Bool.false_and,Bool.and_false]
 have h3:g.ands.length≤2000:=by have:=dF h3;omega
 rw[ldN_p (n:=2) o1 rfl]
 refine callF_ans (ans49 hg (by omega) h1) ?_
 rw[bin_gtr,onB_v]
 refine gd_of (fun h4=>⟨?_,k1⟩) (fun h4=>?_)
 ·have h4:=dT h4
  simp[Gr.right,show ¬ g.vars≤2000 by omega]
 have h4:g.vars≤2000:=by simpa using h4
 refine loop86_0 (fun y S'=>S'=S1∧∃ i:Nat,y=aI i∧i≤g.ands.length∧(∀ j,j<i→may (g.ands.getD j (0,0)) (g.inputs+1+j)=true)∧(g.ands.take i).Nodup)
  (fun y _=>g.ands.length - ((intA y).getD 0).toNat) ⟨rfl,0,rfl,Nat.zero_le _,fun j hj=>(Nat.not_lt_zero _ hj).elim,by simp⟩ ?_
 rintro _ S1 ⟨rfl,i,rfl,hi,hmay,hnd⟩ KE hKE
 unfold b86_0
 rw[shift_p,ld1_p o1 rfl rfl,lenS_pL,bin_lss,onB_v]
 refine gd_of (fun hlt=>?_) (fun hge=>?_)
 ·have hlt:i<g.ands.length:=by simpa using hlt
  have hg':g.ands.getD i (0,0)=g.ands[i]:=by simp[List.getD_eq_getElem?_getD,hlt]
  have hp:=hg.pairs _ (List.getElem_mem hlt)
  have e1:∀(c:List AV) (K:AV→Store→Prop),ixA 2 1 (.q c 0) (.v (.int .i64 1)) S1 K=K (.q c 1) S1:=fun c K=>ixA_q (z:=1) (by decide)
  have e0:∀(c:List AV) (K:AV→Store→Prop),ixA 2 1 (.q c 0) (.v (.int .i64 0)) S1 K=K (.q c 0) S1:=fun c K=>ixA_q (z:=0) (by decide)
  show ∃ q24:AV,_
  refine⟨_,by rw[shift_p];exact⟨rfl,rfl⟩,_,by rw[ld1_p o1 rfl rfl];exact⟨rfl,rfl⟩,_,by rw[ixS_pL hlt];exact⟨rfl,rfl⟩,_,by rw[e0];exact⟨rfl,rfl⟩,_,by rw[ld1_q0];exact⟨rfl,rfl⟩,
   _,by rw[shift_p];exact⟨rfl,rfl⟩,_,by rw[ld1_p o1 rfl rfl];exact⟨rfl,rfl⟩,_,by rw[ixS_pL hlt];exact⟨rfl,rfl⟩,_,by rw[e1];exact⟨rfl,rfl⟩,_,by rw[ld1_q1];exact⟨rfl,rfl⟩,?_⟩
  rw[bin_lss,onB_v]
  refine gd_of (fun h5=>⟨?_,k1⟩) (fun h5=>?_)
  ·rw[right_may hlt (by rw[hg'];exact may_false1 (dT h5))]
  rw[bin_half hp.1,bin_half hp.2,bin_leq,onB_v]
  refine gd_of (fun h6=>⟨?_,k1⟩) (fun h6=>?_)
  ·rw[right_may hlt (by rw[hg'];exact may_false2 (dT h6))]
  rw[bin_half hp.1,shift_p,ld1_p o1 rfl rfl,bin_add (by omega) (by omega),bin_add (by omega) (by omega),bin_geq,onB_v]
  refine gd_of (fun h7=>⟨?_,k1⟩) (fun h7=>?_)
  ·rw[right_may hlt (by rw[hg'];exact may_false3 (dT h7))]
  have h5:=dF h5
  have h6:=dF h6
  have h7:=dF h7
  refine loop86_1 (fun y S'=>S'=S1∧∃ k:Nat,y=aI k∧k≤i∧∀ j (hj:j<k) (hk:k≤i),g.ands[j]'(by omega)≠g.ands[i])
   (fun y _=>g.ands.length - ((intA y).getD 0).toNat) ⟨rfl,0,rfl,Nat.zero_le _,fun j hj=>(Nat.not_lt_zero _ hj).elim⟩ ?_
  rintro _ S1 ⟨rfl,k,rfl,hk,hne⟩ KE1 hKE1
  unfold b86_1
  rw[bin_lss,onB_v]
  refine gd_of (fun hlk=>?_) (fun hgk=>?_)
  ·have hlk:k<i:=by simpa using hlk
   have hkl:k<g.ands.length:=by omega
   show ∃ q24:AV,_
   refine⟨_,by rw[shift_p];exact⟨rfl,rfl⟩,_,by rw[ld1_p o1 rfl rfl];exact⟨rfl,rfl⟩,_,by rw[ixS_pL hkl];exact⟨rfl,rfl⟩,_,by rw[ldN_q2];exact⟨rfl,rfl⟩,
    _,by rw[shift_p];exact⟨rfl,rfl⟩,_,by rw[ld1_p o1 rfl rfl];exact⟨rfl,rfl⟩,_,by rw[ixS_pL hlt];exact⟨rfl,rfl⟩,_,by rw[ldN_q2];exact⟨rfl,rfl⟩,_,by rw[binP_eq];exact⟨rfl,rfl⟩,?_⟩
   rw[onB_v]
   refine gd_of (fun h8=>⟨?_,k1⟩) (fun h8=>?_)
   ·have h8:g.ands[k]=g.ands[i]:=dT h8
    have:g.right=false:=by
     cases e:g.right with
     |false=>rfl
     |true =>
      have hnd:=(right_iff.1 e).2.2.2.2.2
      exact absurd h8 (List.pairwise_iff_getElem.1 hnd k i hkl hlt hlk)
    rw[this]
   ·have h8:¬ g.ands[k]=g.ands[i]:=dF h8
    have hadd:∀ K:AV→Store→Prop,∀ S,bin .add 0 (.v (.int .i64 (k:Int))) (.v (.int .i64 1)) S K=K (aI (k+1:Nat)) S:=fun K S=>bin_add (by omega) (by omega) 0
    rw[hadd]
    refine hKE1 _ _ ⟨rfl,k+1,rfl,hlk,fun j hj _=>?_⟩ (by simp[intA];omega)
    rcases Nat.lt_or_ge j k with hj'|hj'
    ·exact hne j hj' (by omega)
    ·have:j=k:=by omega
     subst this
     exact h8
  ·have hge:k=i:=by simp at hgk;omega
   subst hge
   have hadd:∀ K:AV→Store→Prop,∀ S,bin .add 0 (.v (.int .i64 (k:Int))) (.v (.int .i64 1)) S K=K (aI (k+1:Nat)) S:=fun K S=>bin_add (by omega) (by omega) 0
   rw[hadd]
   refine hKE _ _ ⟨rfl,k+1,rfl,hlt,fun j hj=>?_,(nodup_take hlt).2 ⟨hnd,fun j hj=>hne j hj (Nat.le_refl _)⟩⟩ (by simp[intA];omega)
   rcases Nat.lt_or_ge j k with hj'|hj'
   ·exact hmay j hj'
   ·have:j=k:=by omega
    subst this
    rw[hg']
    simp[may,show 2≤(g.ands[j]).2 by omega,show(g.ands[j]).2.tdiv 2<(g.ands[j]).1.tdiv 2 by omega,show(g.ands[j]).1.tdiv 2<g.inputs+1+j by omega]
 ·have hge:i=g.ands.length:=by simp at hge;omega
  subst hge
  rw[List.take_length]at hnd
  rw[right_iff.2 ⟨h1,h2,by omega,h4,hmay,hnd⟩]
  exact⟨rfl,k1⟩
theorem Own.appL{n:Nat}{S:Store}{x:AV}{e sz b:Nat}{es ys:List (List AV)}(h:Own n S x e es)(hn:n≤S.n){K:AV→Store→Prop}(hc:∀ c∈ys,c.length=sz)(hb:(es.length+ys.length)*b≤140737488355328)
    (k:∀ x' S',Own n S' x' e (es++ys)→But S S' x→(x'=x∨∃ m,x' = .s S.n 0 m)→K x' S') {y:AV} (hy:srcE S y=some ys):appS e sz b x y S K:=by
 refine⟨h.isSl,ys,hy,hc,?_⟩
 cases ys with
 |nil=>exact k x S (by simpa using h) ⟨Nat.le_refl _,fun _ _ _=>rfl⟩ (.inl rfl)
 |cons c ys =>
  rcases h with⟨rfl,rfl⟩|⟨id,rfl,h1,h2,h3⟩
  ·refine⟨by simpa using hb,k _ _ (.inr ⟨S.n,rfl,hn,Nat.lt_succ_self _,by simp[Store.new]⟩) ⟨Nat.le_succ _,fun i hi _=>?_⟩ (.inr ⟨_,rfl⟩)⟩
   simp only[Store.new];rw[if_neg (by omega)]
  ·simp only[appE,h3]
   refine⟨⟨trivial,trivial,by simpa using hb⟩,k _ _ (.inr ⟨S.n,by simp,hn,Nat.lt_succ_self _,by simp[Store.new,Store.kill]⟩) ⟨Nat.le_succ _,fun i hi hne=>?_⟩ (.inr ⟨_,rfl⟩)⟩
   have e1:i≠S.n:=by omega
   have e2:i≠id:=fun hq=>hne 0 es.length (by rw[hq])
   simp[Store.new,Store.kill,e1,e2]
theorem bslP{e:Nat}{z1 z2 u v:AV}{S:Store}{K:AV→Store→Prop}(k:K (.l [[u,v]]) S):bslN e 2 1 [z1,z2] [(0,.a [u,v])] S K:=by
 refine⟨[u,v],?_,.inr ?_⟩
 ·simp[fillA,cellsOf,spl,List.range_succ]
 ·simpa[chunks,List.range_succ]using k
@[simp] theorem mx_true(a b:Int){S:Store}{K:AV→Store→Prop}:mxI true (aI a) (aI b) S K=K (aI (if b > a then b else a)) S:=rfl
@[simp] theorem mx_false(a b:Int){S:Store}{K:AV→Store→Prop}:mxI false (aI a) (aI b) S K=K (aI (if b<a then b else a)) S:=rfl
theorem treeP(l:List (Int × Int)):Tree (pL l):=Tree.l fun c hc u hu=>by
 obtain⟨p,_,rfl⟩:=List.mem_map.1 hc
 rcases List.mem_cons.1 hu with rfl|hu
 ·exact Tree.v _
 ·rcases List.mem_cons.1 hu with rfl|hu
  ·exact Tree.v _
  ·simp at hu
theorem Gr.tree(g:Gr):Tree g.av:=Tree.a fun u hu=>by
 rcases List.mem_cons.1 hu with rfl|hu
 ·exact Tree.v _
 ·rcases List.mem_cons.1 hu with rfl|hu
  ·exact treeP _
  ·simp at hu
theorem cv_t3{S:Store}{n:Nat}{x y z x' y' z':AV}(h1:Cv S n x x')(h2:Cv S n y y')(h3:Cv S n z z'):Cv S n (.t [x,y,z]) (.t [x',y',z']):=
 .t _ _ rfl fun k u u2 hk hk2=>by
  match k with
  |0=>cases hk;cases hk2;exact h1
  |1=>cases hk;cases hk2;exact h2
  |2=>cases hk;cases hk2;exact h3
  |k+3=>simp at hk
theorem cv_t2{S:Store}{n:Nat}{x y x' y':AV}(h1:Cv S n x x')(h2:Cv S n y y'):Cv S n (.t [x,y]) (.t [x',y']):=
 .t _ _ rfl fun k u u2 hk hk2=>by
  match k with
  |0=>cases hk;cases hk2;exact h1
  |1=>cases hk;cases hk2;exact h2
  |k+2=>simp at hk
theorem cv_a2{S:Store}{n:Nat}{x y x' y':AV}(h1:Cv S n x x')(h2:Cv S n y y'):Cv S n (.a [x,y]) (.a [x',y']):=
 .a _ _ rfl fun k u u2 hk hk2=>by
  match k with
  |0=>cases hk;cases hk2;exact h1
  |1=>cases hk;cases hk2;exact h2
  |k+2=>simp at hk
theorem gd_two{b c:Bool}{R T:Prop}(h1:b=true→c=true→R)(h2:¬ (b=true∧c=true)→T):gd b (gd c R T) T:=by
 cases b<;>cases c<;>simp_all [gd]
def andT(g:Gr)(x y:Int):Gr × Int × Int:=
 if y=0 then(g,0,0)
 else if x.tdiv 2=y.tdiv 2∧x≠y then(g,0,0)
 else if y=1 then(g,x,0)
 else if x=y then(g,x,0)
 else match g.ands.findIdx? (fun p=>decide (p=(x,y)))with
  |some i=>(g,2*(g.inputs+1+i),0)
  |none=>if 2000≤g.vars then(⟨0,[]⟩,0,2)else(⟨g.inputs,g.ands ++ [(x,y)]⟩,2*(g.vars+1) - 2,0)
def Gr.and(g:Gr)(a b:Int):Gr × Int × Int:=
 if(g.right && (g.lit a && g.lit b))=false then(⟨0,[]⟩,0,1)else andT g (if b > a then b else a) (if b<a then b else a)
def andAV(r:Gr × Int × Int):AV:=.t [r.1.av,aI r.2.1,aI r.2.2]
theorem vars49{i:Int}{x:AV}{n:Nat}(hx:∀(S:Store) (K:AV→Store→Prop),lenS x S K=K (aI n) S)(h0:0≤i)(h1:i≤1000000)(hn:n≤2000000):Ans Pg 49 [.a [aI i,x]] (aI (i+1+n)):=by
 intro S
 refine ACalls.ans_v (calls49 ?_)
 unfold m49
 refine boxA_of rfl fun S1 k1 n1 o1=>?_
 rw[shift_p,ld1_p o1 rfl rfl,bin_add (by omega) (by omega),shift_p,ld1_p o1 rfl rfl,hx,bin_add (by omega) (by omega)]
 exact⟨rfl,k1⟩
theorem ans90{g:Gr}{a b:Int}(hg:g.ok)(ha:i64R a)(hb:i64R b):Ans Pg 90 [g.av,aI a,aI b] (andAV (g.and a b)):=by
 intro S
 refine ACalls.tree (calls90 ?_)
 have hlen:=hg.len
 unfold m90
 have bd:∀{a b:Int} {S:Store} {K:AV→Store→Prop},bld [(0,1),(1,1)] [.v (.int .i64 0),.v (.int .i64 0)] [(0,aI a),(1,aI b)] S K=K (.a [aI a,aI b]) S:=bld_of rfl
 have bz:∀{S:Store} {K:AV→Store→Prop},bld [(0,1),(1,1)] [.v (.int .i64 0),.nl] [] S K=K (.a [aI 0,.nl]) S:=bld_of rfl
 refine boxA_of rfl fun S1 k1 n1 o1=>?_
 refine boxA_of rfl fun S2 k2 n2 o2=>?_
 have k2:=k1.trans k2
 have p1:S2.obj S.n=_:=(‹Keep S1 S2›.2 S.n (by omega)).trans o1
 have fin:∀{S':Store} {v:AV} (r:Gr × Int × Int),Keep S S'→Cv (S'.frz (newer S.n)) S.n v r.1.av→g.and a b=r→∃ q,AEnd.ret (.t [v,aI r.2.1,aI r.2.2]) = .ret q∧Keep S S'∧Cv (S'.frz (newer S.n)) S.n q (andAV (g.and a b)):=
  fun r hk hc e=>⟨_,rfl,hk,by rw[e];exact cv_t3 hc (.v _) (.v _)⟩
 have err:∀ S',Cv (Store.frz S' (newer S.n)) S.n (.a [aI 0,.nl]) (Gr.av ⟨0,[]⟩):=fun _=>cv_a2 (.v _) .nl
 have bad:∀{e:Int},(g.right && (g.lit a && g.lit b))=false→g.and a b=(⟨0,[]⟩,0,1):=fun h=>by simp only[Gr.and];rw[if_pos h]
 rw[ldN_p (n:=2) p1 rfl]
 refine callF_ans (ans86 hg) ?_
 rw[un_not,onB_v]
 refine gd_of (fun h1=>?_) (fun h1=>?_)
 ·rw[bz]
  refine stA_of o2 rfl rfl fun S3 n3 o3 f3=>?_
  rw[ldN_p (n:=2) o3 rfl]
  exact fin (⟨0,[]⟩,0,1) (k2.st (by omega) n3 f3) (err _) (bad (e:=0) (by rw[Bool.not_eq_true']at h1;rw[h1];rfl))
 have h1:g.right=true:=by simpa using h1
 rw[ldN_p (n:=2) p1 rfl]
 refine callF_ans (ans87 hg ha) ?_
 rw[un_not,onB_v]
 refine gd_of (fun h2=>?_) (fun h2=>?_)
 ·rw[bz]
  refine stA_of o2 rfl rfl fun S3 n3 o3 f3=>?_
  rw[ldN_p (n:=2) o3 rfl]
  exact fin (⟨0,[]⟩,0,1) (k2.st (by omega) n3 f3) (err _) (bad (e:=0) (by rw[Bool.not_eq_true']at h2;rw[h1,h2];rfl))
 have h2:g.lit a=true:=by simpa using h2
 rw[ldN_p (n:=2) p1 rfl]
 refine callF_ans (ans87 hg hb) ?_
 rw[un_not,onB_v]
 refine gd_of (fun h3=>?_) (fun h3=>?_)
 ·rw[bz]
  refine stA_of o2 rfl rfl fun S3 n3 o3 f3=>?_
  rw[ldN_p (n:=2) o3 rfl]
  exact fin (⟨0,[]⟩,0,1) (k2.st (by omega) n3 f3) (err _) (bad (e:=0) (by rw[Bool.not_eq_true']at h3;rw[h1,h2,h3];rfl))
 have h3:g.lit b=true:=by simpa using h3
 obtain⟨r1,r2,r3,r4,r5,r6⟩:=right_iff.1 h1
 rw[mx_true,mx_false]
 have hx:i64R (if b > a then b else a):=by split<;>assumption
 have hy:i64R (if b<a then b else a):=by split<;>assumption
 have hand:g.and a b=andT g (if b > a then b else a) (if b<a then b else a):=by
  simp only[Gr.and]
  rw[if_neg (by rw[h1,h2,h3];decide)]
 generalize hex:(if b > a then b else a)=x at *
 generalize hey:(if b<a then b else a)=y at *
 have ok:∀{S':Store},Cv (S'.frz (newer S.n)) S.n (.a g.cells) g.av:=fun{S'}=>g.tree _ _
 rw[bin_eql,onB_v]
 refine gd_of (fun h4=>?_) (fun h4=>?_)
 ·rw[ldN_p (n:=2) p1 rfl]
  refine stA_of o2 rfl rfl fun S3 n3 o3 f3=>?_
  rw[ldN_p (n:=2) o3 rfl]
  exact fin (g,0,0) (k2.st (by omega) n3 f3) ok (hand.trans (by rw[andT,if_pos (dT h4)]))
 have h4:=dF h4
 rw[bin_half hx,bin_half hy,bin_eql,onB_v]
 rw[bin_neq,onB_v]
 refine gd_two (fun h5 h6=>?_) (fun h7=>?_)
 ·rw[ldN_p (n:=2) p1 rfl]
  refine stA_of o2 rfl rfl fun S3 n3 o3 f3=>?_
  rw[ldN_p (n:=2) o3 rfl]
  exact fin (g,0,0) (k2.st (by omega) n3 f3) ok (hand.trans (by rw[andT,if_neg h4,if_pos ⟨dT h5,by simpa using h6⟩]))
 ·have h7:¬ (x.tdiv 2=y.tdiv 2∧x≠y):=fun h=>h7 ⟨by simpa using h.1,by simpa using h.2⟩
  have hand:g.and a b=(if y=1 then(g,x,(0:Int))
   else if x=y then(g,x,0)
   else match g.ands.findIdx? (fun p=>decide (p=(x,y)))with
    |some i=>(g,2*(g.inputs+1+i),0)
    |none=>if 2000≤g.vars then(⟨0,[]⟩,0,2)else(⟨g.inputs,g.ands ++ [(x,y)]⟩,2*(g.vars+1) - 2,0):Gr × Int × Int):=hand.trans (by rw[andT,if_neg h4,if_neg h7])
  rw[bin_eql,onB_v]
  refine gd_of (fun h8=>?_) (fun h8=>?_)
  ·rw[ldN_p (n:=2) p1 rfl]
   refine stA_of o2 rfl rfl fun S3 n3 o3 f3=>?_
   rw[ldN_p (n:=2) o3 rfl]
   exact fin (g,x,0) (k2.st (by omega) n3 f3) ok (hand.trans (by rw[if_pos (dT h8)]))
  have h8:=dF h8
  rw[bin_eql,onB_v]
  refine gd_of (fun h9=>?_) (fun h9=>?_)
  ·rw[ldN_p (n:=2) p1 rfl]
   refine stA_of o2 rfl rfl fun S3 n3 o3 f3=>?_
   rw[ldN_p (n:=2) o3 rfl]
   exact fin (g,x,0) (k2.st (by omega) n3 f3) ok (hand.trans (by rw[if_neg h8,if_pos (dT h9)]))
  have h9:=dF h9
  have hand:=hand.trans (by rw[if_neg h8,if_neg h9])
  refine loop90_0 (fun z S'=>S'=S2∧∃ i:Nat,z=aI i∧i≤g.ands.length∧∀ j (hj:j<g.ands.length),j<i→g.ands[j]≠(x,y))
   (fun z _=>g.ands.length - ((intA z).getD 0).toNat) ⟨rfl,0,rfl,Nat.zero_le _,fun j _ hj=>(Nat.not_lt_zero _ hj).elim⟩ ?_
  rintro _ S2 ⟨rfl,i,rfl,hi,hno⟩ KE hKE
  unfold b90_0
  have hl3:=r3
  have hv:=r4
  unfold Gr.vars at hv
  rw[shift_p,ld1_p p1 rfl rfl,lenS_pL,bin_lss,onB_v]
  refine gd_of (fun hlt=>?_) (fun hge=>?_)
  ·have hlt:i<g.ands.length:=by simpa using hlt
   rw[shift_p,ld1_p p1 rfl rfl,ixS_pL hlt,ldN_q2,bd,binP_eq,onB_v]
   refine gd_of (fun h10=>?_) (fun h10=>?_)
   ·have h10:g.ands[i]=(x,y):=dT h10
    have hf:g.ands.findIdx? (fun p=>decide (p=(x,y)))=some i:=by
     rw[List.findIdx?_eq_some_iff_getElem]
     exact⟨hlt,by simpa using h10,fun j hj=>by simpa using hno j (by omega) hj⟩
    have q:∀ T:Store,Keep S2 T→T.obj S.n=some (.cells 70 [g.cells] true):=fun T hT=>(hT.2 _ (by omega)).trans p1
    have e1:∀{S:Store} {K:AV→Store→Prop},bin .add 0 (aI g.inputs) (aI 1) S K=K (aI (g.inputs+1)) S:=bin_add (by omega) (by omega) 0
    have e2:∀{S:Store} {K:AV→Store→Prop},bin .add 0 (aI (g.inputs+1)) (aI i) S K=K (aI (g.inputs+1+i)) S:=bin_add (by omega) (by omega) 0
    have e3:∀{S:Store} {K:AV→Store→Prop},bin .mul 0 (aI 2) (aI (g.inputs+1+i)) S K=K (aI (2*(g.inputs+1+i))) S:=bin_mul (by omega) (by omega) 0
    refine⟨_,fun T hT=>by rw[ldN_p (n:=2) (q T hT) rfl];exact⟨rfl,rfl⟩,_,fun T hT=>by rw[shift_p];exact⟨rfl,rfl⟩,_,fun T hT=>by rw[ld1_p (q T hT) rfl rfl];exact⟨rfl,rfl⟩,_,fun T hT=>by rw[e1];exact⟨rfl,rfl⟩,_,fun T hT=>by rw[e2];exact⟨rfl,rfl⟩,_,fun T hT=>by rw[e3];exact⟨rfl,rfl⟩,?_⟩
    refine stA_of o2 rfl rfl fun S3 n3 o3 f3=>?_
    have q3:∀ T:Store,Keep S3 T→T.obj S.n=some (.cells 70 [g.cells] true):=fun T hT=>(hT.2 _ (by omega)).trans ((f3 _ (by omega)).trans p1)
    refine⟨fun T hT=>by rw[e3];exact⟨rfl,rfl⟩,fun T hT=>by rw[e2];exact⟨rfl,rfl⟩,fun T hT=>by rw[e1];exact⟨rfl,rfl⟩,fun T hT=>by rw[ld1_p (q3 T hT) rfl rfl];exact⟨rfl,rfl⟩,fun T hT=>by rw[shift_p];exact⟨rfl,rfl⟩,?_⟩
    rw[ldN_p (n:=2) o3 rfl]
    exact fin (g,2*(g.inputs+1+i),0) (k2.st (by omega) n3 f3) ok (hand.trans (by rw[hf]))
   ·have h10:¬ g.ands[i]=(x,y):=dF h10
    have hadd:∀ K:AV→Store→Prop,∀ S,bin .add 0 (.v (.int .i64 (i:Int))) (.v (.int .i64 1)) S K=K (aI (i+1:Nat)) S:=fun K S=>bin_add (by omega) (by omega) 0
    rw[hadd]
    refine hKE _ _ ⟨rfl,i+1,rfl,hlt,fun j hj hj'=>?_⟩ (by simp[intA];omega)
    rcases Nat.lt_or_ge j i with h|h
    ·exact hno j hj h
    ·have:j=i:=by omega
     subst this
     exact h10
  ·have hge:i=g.ands.length:=by simp at hge;omega
   subst hge
   have hf:g.ands.findIdx? (fun p=>decide (p=(x,y)))=none:=by
    rw[List.findIdx?_eq_none_iff]
    intro q hq
    obtain⟨j,hj,rfl⟩:=List.getElem_of_mem hq
    simpa using hno j hj hj
   rw[hf]at hand
   rw[ldN_p (n:=2) p1 rfl]
   refine callF_ans (ans49 hg (by omega) r1) ?_
   rw[bin_geq,onB_v]
   refine gd_of (fun h11=>?_) (fun h11=>?_)
   ·rw[bz]
    refine stA_of o2 rfl rfl fun S3 n3 o3 f3=>?_
    rw[ldN_p (n:=2) o3 rfl]
    exact fin (⟨0,[]⟩,0,2) (k2.st (by omega) n3 f3) (err _) (hand.trans (by simp only[if_pos (dT h11)]))
   have h11:=dF h11
   have hand:g.and a b=(⟨g.inputs,g.ands ++ [(x,y)]⟩,2*(g.vars+1) - 2,0):=hand.trans (by simp only[if_neg h11])
   refine boxA_of rfl fun S3 k3 n3 o3=>?_
   have p3:=(k3.2 S.n (by omega)).trans p1
   rw[shift_p,ld1_p p3 rfl rfl,shift_p]
   refine stF_of o3 (by simp) rfl fun S4 n4 o4 f4=>?_
   have p4:=(f4 S.n (by omega)).trans p3
   rw[shift_p,ld1_p o4 rfl rfl,shift_p,ld1_p p4 rfl rfl]
   have m2:=k2.1
   have m3:=k3.1
   have k4:Keep S S4:=(k2.trans k3).st (by omega) n4 f4
   have v4:S4.obj S1.n=_:=(f4 S1.n (by omega)).trans ((k3.2 S1.n (by omega)).trans o2)
   refine Own.appL (Own.nl S.n S4 48) (by omega) (ys:=g.ands.map fun p=>[aI p.1,aI p.2]) (fun c hc=>by obtain⟨p,_,rfl⟩:=List.mem_map.1 hc;rfl) (by simp;omega) (fun z1 S5 w5 b5 hz5=>?_) rfl
   rw[bd]
   refine bslP ?_
   have k5:Keep S S5:=w5.keep (S0:=S) (Nat.le_refl _) ⟨Nat.le_refl _,fun _ _ _=>rfl⟩ ⟨Nat.le_trans k4.1 b5.1,fun i hi=>(b5.2 i (by have:=k4.1;omega) (fun _ _ h=>by cases h)).trans (k4.2 i hi)⟩
   have e5:∀ i,i<S4.n→S5.obj i=S4.obj i:=fun i hi=>b5.2 i hi (fun _ _ h=>by cases h)
   have z5:∀ i b m,z1 = .s i b m→i=S4.n:=fun i b m e=>by
    rcases hz5 with h|⟨m',h⟩
    ·rw[h]at e;cases e
    ·rw[h]at e;cases e;rfl
   have n5:=b5.1
   refine w5.app (by have:=k5.1;omega) (c:=[aI x,aI y]) rfl (by simp;omega) (fun z2 S6 w6 b6 hz6=>?_) rfl
   have e6:∀ i,i<S4.n→S6.obj i=S4.obj i:=fun i hi=>(b6.2 i (by omega) (fun b m e=>by have:=z5 i b m e;omega)).trans (e5 i hi)
   have n6:=b6.1
   have k6:Keep S S6:=w5.keep (Nat.le_refl _) b6 k5
   obtain⟨m6,hz6⟩:=hz6
   rw[shift_p]
   refine stF_of ((e6 S2.n (by omega)).trans o4) (by simp) (by rw[hz6];rfl) fun S7 n7 o7 f7=>?_
   have p7:S7.obj S.n=_:=(f7 S.n (by omega)).trans ((e6 S.n (by omega)).trans p4)
   have v7:S7.obj S1.n=_:=(f7 S1.n (by omega)).trans ((e6 S1.n (by omega)).trans v4)
   have k7:Keep S S7:=k6.st (by omega) n7 f7
   have w7:Own S.n S7 z2 48 _:=w6.st (id:=S2.n) (fun b m e=>by rw[hz6]at e;injection e;omega) n7 f7
   have hlen2:(((g.ands.map fun p=>[aI p.1,aI p.2]) ++ [[aI x,aI y]]).length:Nat)=g.ands.length+1:=by simp
   have hz:∀(S:Store) (K:AV→Store→Prop),lenS z2 S K=K (aI (g.ands.length+1:Nat)) S:=fun S K=>by
    rcases w7 with⟨h,h'⟩|⟨id,h,_,_,_⟩
    ·rw[h]at hz6;cases hz6
    ·rw[h,lenS_s,List.nil_append,hlen2]
   have q:∀ T:Store,Keep S7 T→T.obj S2.n=some (.cells 70 [[aI g.inputs,z2]] true):=fun T hT=>(hT.2 _ (by omega)).trans o7
   have e1:∀{S:Store} {K:AV→Store→Prop},bin .mul 0 (aI 2) (aI (g.inputs+1+(g.ands.length+1:Nat))) S K=K (aI (2*(g.inputs+1+(g.ands.length+1:Nat)))) S:=bin_mul (by omega) (by omega) 0
   have e2:∀{S:Store} {K:AV→Store→Prop},bin .sub 0 (aI (2*(g.inputs+1+(g.ands.length+1:Nat)))) (aI 2) S K=K (aI (2*(g.inputs+1+(g.ands.length+1:Nat)) - 2)) S:=bin_sub (by omega) (by omega) 0
   refine⟨_,fun T hT=>by rw[ldN_p (n:=2) (q T hT) rfl];exact⟨rfl,rfl⟩,_,fun T hT=>by rw[ldN_p (n:=2) (q T hT) rfl];exact⟨rfl,rfl⟩,_,fun T hT=>callF_ans (vars49 hz r1 (by omega) (by omega)) ⟨rfl,rfl⟩,_,fun T hT=>by rw[e1];exact⟨rfl,rfl⟩,_,fun T hT=>by rw[e2];exact⟨rfl,rfl⟩,?_⟩
   refine stA_of v7 rfl rfl fun S8 n8 o8 f8=>?_
   refine⟨fun T hT=>by rw[e2];exact⟨rfl,rfl⟩,fun T hT=>by rw[e1];exact⟨rfl,rfl⟩,?_⟩
   rw[ldN_p (n:=2) o8 rfl]
   have w8:Own S.n S8 z2 48 _:=w7.st (id:=S1.n) (fun b m e=>by rw[hz6]at e;injection e;omega) n8 f8
   have hv2:g.vars=g.inputs+1+g.ands.length:=rfl
   have:=fin (S':=S8) (v:=.a [aI g.inputs,z2]) (⟨g.inputs,g.ands ++ [(x,y)]⟩,2*(g.vars+1) - 2,0) (k7.st (by omega) n8 f8) (cv_a2 (.v _) (w8.cv rfl (by simp) (fun i c c2 hc hc2=>?_))) hand
   ·rw[hv2,show g.inputs+1+(g.ands.length:Int)+1=g.inputs+1+(g.ands.length+1:Nat)by omega]at this
    exact this
   ·have:c=c2:=by
      rw[List.nil_append]at hc
      rw[List.map_append]at hc2
      exact Option.some.inj (hc.symm.trans hc2)
    subst this
    refine⟨rfl,fun k u u2 hu hu2=>?_⟩
    rw[hu]at hu2;cases hu2
    have hm:=List.mem_of_getElem? hc2
    rw[List.mem_map]at hm
    obtain⟨p,_,rfl⟩:=hm
    match k with
    |0=>cases hu;exact .v _
    |1=>cases hu;exact .v _
    |k+2=>simp at hu
section
variable {S:Store} {K:AV→Store→Prop}
theorem ixStr_b{b:ByteArray}{i:Nat}(h:i<b.size):ixStr (.v (.string b)) (aI i) S K=K (.v (.int .u8 (b[i]).toNat)) S:=by
 simp[ixStr,intA,h]
@[simp] theorem lenStr_b(b:ByteArray):lenStr (.v (.string b)) S K=K (aI b.size) S:=rfl
theorem bytesEq(a b:ByteArray):(a.toList == b.toList)=decide (a=b):=by
 rw[Bool.eq_iff_iff,beq_iff_eq,ByteArray.toList_eq,ByteArray.toList_eq,decide_eq_true_eq]
 exact⟨fun h=>ByteArray.ext (Array.toList_inj.mp h),fun h=>by rw[h]⟩
theorem bin_eqlS(a b:ByteArray)(kd:Nat):bin .eql kd (.v (.string a)) (.v (.string b)) S K=K (aB (decide (a=b))) S:=by simp[bin,b2,strB,bytesEq]
theorem bin_neqS(a b:ByteArray)(kd:Nat):bin .neq kd (.v (.string a)) (.v (.string b)) S K=K (aB (!decide (a=b))) S:=by simp[bin,b2,strB,bytesEq]
theorem ld1_qj{c:List AV}{j:Nat}{u:AV}(h:c[j]? = some u):ld1 (.q c j) S K=K u S:=by simp[ld1,rd1,place,h]
@[simp] theorem shift_q(c:List AV)(j n:Nat):shift (.q c j) n S K=K (.q c (j+n)) S:=rfl
end
def wordB(b:ByteArray):Bool:=decide (∀ i (h:i<b.size),33≤(b[i]).toNat∧(b[i]).toNat≤126) && (decide (0<b.size) && decide (b.size≤20))
theorem ans115(b:ByteArray)(hb:b.size≤9223372036854775807):Ans Pg 115 [.v (.string b)] (aB (wordB b)):=by
 intro S
 refine ACalls.ans_v (calls115 ?_)
 unfold m115
 refine loop115_0 (fun y S'=>S'=S∧∃ i:Nat,y=aI i∧i≤b.size∧∀ j (h:j<b.size),j<i→33≤(b[j]).toNat∧(b[j]).toNat≤126)
  (fun y _=>b.size - ((intA y).getD 0).toNat) ⟨rfl,0,rfl,Nat.zero_le _,fun j _ hj=>(Nat.not_lt_zero _ hj).elim⟩ ?_
 rintro _ S ⟨rfl,i,rfl,hi,hok⟩ KE hKE
 unfold b115_0
 rw[lenStr_b,bin_lss,onB_v]
 refine gd_of (fun hlt=>?_) (fun hge=>?_)
 ·have hlt:i<b.size:=by simpa using hlt
  have bad:¬ (33≤(b[i]).toNat∧(b[i]).toNat≤126)→wordB b=false:=fun h=>by
   simp only[wordB,Bool.and_eq_false_iff,decide_eq_false_iff_not]
   exact .inl fun h'=>h (h' i hlt)
  rw[ixStr_b hlt,bin_lss,onB_v]
  refine gd_of (fun h1=>⟨by rw[bad (fun h=>by have:=dT h1;omega)],Keep.refl _⟩) (fun h1=>?_)
  rw[ixStr_b hlt,bin_gtr,onB_v]
  refine gd_of (fun h2=>⟨by rw[bad (fun h=>by have:=dT h2;omega)],Keep.refl _⟩) (fun h2=>?_)
  have hadd:∀ K:AV→Store→Prop,∀ S,bin .add 0 (.v (.int .i64 (i:Int))) (.v (.int .i64 1)) S K=K (aI (i+1:Nat)) S:=fun K S=>bin_add (by omega) (by omega) 0
  rw[hadd]
  refine hKE _ _ ⟨rfl,i+1,rfl,hlt,fun j hj hj'=>?_⟩ (by simp[intA];omega)
  rcases Nat.lt_or_ge j i with h|h
  ·exact hok j hj h
  ·have:j=i:=by omega
   subst this
   have h1:=dF h1
   have h2:=dF h2
   omega
 ·have hge:i=b.size:=by simp at hge;omega
  subst hge
  have hall:decide (∀ i (h:i<b.size),33≤(b[i]).toNat∧(b[i]).toNat≤126)=true:=decide_eq_true fun j hj=>hok j hj hj
  rw[lenStr_b,bin_gtr,onB_v]
  refine gd_of (fun h1=>?_) (fun h1=>⟨?_,Keep.refl _⟩)
  ·rw[lenStr_b,bin_leq]
   refine⟨?_,Keep.refl _⟩
   simp only[wordB,hall,Bool.true_and,show 0<b.size by simpa using h1,decide_true]
   rw[show decide ((b.size:Int)≤20)=decide (b.size≤20)from decide_eq_decide.2 (by omega)]
  ·simp[wordB,show ¬ 0<b.size by simpa using h1]
theorem ans108(b:ByteArray)(hb:b.size≤9223372036854775807):Ans Pg 108 [.v (.string b)] (aB (wordB b)):=by
 intro S
 refine ACalls.ans_v (calls108 ?_)
 unfold m108
 rw[lenStr_b]
 refine loop108_0 (fun y S'=>S'=S∧∃ i:Nat,y=aI i∧i≤b.size∧∀ j (h:j<b.size),j<i→33≤(b[j]).toNat∧(b[j]).toNat≤126)
  (fun y _=>b.size - ((intA y).getD 0).toNat) ⟨rfl,0,rfl,Nat.zero_le _,fun j _ hj=>(Nat.not_lt_zero _ hj).elim⟩ ?_
 rintro _ S ⟨rfl,i,rfl,hi,hok⟩ KE hKE
 unfold b108_0
 rw[bin_lss,onB_v]
 refine gd_of (fun hlt=>?_) (fun hge=>?_)
 ·have hlt:i<b.size:=by simpa using hlt
  have bad:¬ (33≤(b[i]).toNat∧(b[i]).toNat≤126)→wordB b=false:=fun h=>by
   simp only[wordB,Bool.and_eq_false_iff,decide_eq_false_iff_not]
   exact .inl fun h'=>h (h' i hlt)
  rw[ixStr_b hlt,bin_leq,onB_v]
  refine gd_of (fun h1=>⟨by rw[bad (fun h=>by have:=dT h1;omega)],Keep.refl _⟩) (fun h1=>?_)
  rw[ixStr_b hlt,bin_gtr,onB_v]
  refine gd_of (fun h2=>⟨by rw[bad (fun h=>by have:=dT h2;omega)],Keep.refl _⟩) (fun h2=>?_)
  have hadd:∀ K:AV→Store→Prop,∀ S,bin .add 0 (.v (.int .i64 (i:Int))) (.v (.int .i64 1)) S K=K (aI (i+1:Nat)) S:=fun K S=>bin_add (by omega) (by omega) 0
  rw[hadd]
  refine hKE _ _ ⟨rfl,i+1,rfl,hlt,fun j hj hj'=>?_⟩ (by simp[intA];omega)
  rcases Nat.lt_or_ge j i with h|h
  ·exact hok j hj h
  ·have:j=i:=by omega
   subst this
   have h1:=dF h1
   have h2:=dF h2
   omega
 ·have hge:i=b.size:=by simp at hge;omega
  subst hge
  have hall:decide (∀ i (h:i<b.size),33≤(b[i]).toNat∧(b[i]).toNat≤126)=true:=decide_eq_true fun j hj=>hok j hj hj
  have he:decide (b={ data:=#[] })=decide (b.size=0):=by
   by_cases h:b.size=0
   ·have:b={ data:=#[] }:=byteArray_ext (Array.eq_empty_of_size_eq_zero h)
    subst this
    rfl
   ·have:¬ b={ data:=#[] }:=fun e=>h (by rw[e];rfl)
    simp[this,h]
  rw[bin_neqS,he,onB_v]
  refine gd_of (fun h1=>?_) (fun h1=>⟨?_,Keep.refl _⟩)
  ·have h1:b.size≠0:=by simpa using h1
   rw[lenStr_b,bin_leq]
   refine⟨?_,Keep.refl _⟩
   simp only[wordB,hall,Bool.true_and,show 0<b.size by omega,decide_true]
   rw[show decide ((b.size:Int)≤20)=decide (b.size≤20)from decide_eq_decide.2 (by omega)]
  ·have h1:b.size=0:=by simpa using h1
   simp[wordB,h1]
def rankI(k:Int):Int:=if k=105 then 0 else if k=108 then 1 else if k=111 then 2 else if k=98 then 3 else if k=99 then 4 else if k=102 then 5 else -1
def kindS:ByteArray:={ data:=#[105,108,111,98,99,102] }
def kindAt(i:Nat):Int:=[105,108,111,98,99,102].getD i 0
theorem kindS_get{i:Nat}(h:i<6):∃ h':i<kindS.size,((kindS[i]'h').toNat:Int)=kindAt i:=by
 match i,h with
 |0,_|1,_|2,_|3,_|4,_|5,_=>exact⟨by decide,by decide⟩
theorem rankI_at{k:Int}{i:Nat}(h:i<6)(hk:kindAt i=k):rankI k=i:=by
 subst hk
 match i,h with
 |0,_|1,_|2,_|3,_|4,_|5,_=>decide
theorem rankI_no{k:Int}(h:∀ i,i<6→kindAt i≠k):rankI k = -1:=by
 have h0:(105:Int)≠k:=h 0 (by decide)
 have h1:(108:Int)≠k:=h 1 (by decide)
 have h2:(111:Int)≠k:=h 2 (by decide)
 have h3:(98:Int)≠k:=h 3 (by decide)
 have h4:(99:Int)≠k:=h 4 (by decide)
 have h5:(102:Int)≠k:=h 5 (by decide)
 simp only[rankI]
 rw[if_neg (Ne.symm h0),if_neg (Ne.symm h1),if_neg (Ne.symm h2),if_neg (Ne.symm h3),if_neg (Ne.symm h4),if_neg (Ne.symm h5)]
theorem ans117(k:Int):Ans Pg 117 [.v (.int .u8 k)] (aI (rankI k)):=by
 intro S
 refine ACalls.ans_v (calls117 ?_)
 unfold m117
 refine loop117_0 (fun y S'=>S'=S∧∃ i:Nat,y=aI i∧i≤6∧∀ j,j<i→kindAt j≠k)
  (fun y _=>6 - ((intA y).getD 0).toNat) ⟨rfl,0,rfl,Nat.zero_le _,fun j hj=>(Nat.not_lt_zero _ hj).elim⟩ ?_
 rintro _ S ⟨rfl,i,rfl,hi,hno⟩ KE hKE
 unfold b117_0
 rw[lenStr_b,bin_lss,onB_v]
 refine gd_of (fun hlt=>?_) (fun hge=>?_)
 ·have hlt:i<6:=by have:=dT hlt;exact Int.ofNat_lt.1 this
  obtain⟨h',he⟩:=kindS_get hlt
  show ixStr (.v (.string kindS)) _ _ _
  rw[ixStr_b h',he,bin_eql,onB_v]
  refine gd_of (fun h1=>⟨?_,Keep.refl _⟩) (fun h1=>?_)
  ·rw[rankI_at hlt (dT h1)]
  ·have hadd:∀ K:AV→Store→Prop,∀ S,bin .add 0 (.v (.int .i64 (i:Int))) (.v (.int .i64 1)) S K=K (aI (i+1:Nat)) S:=fun K S=>bin_add (by omega) (by omega) 0
   rw[hadd]
   refine hKE _ _ ⟨rfl,i+1,rfl,hlt,fun j hj=>?_⟩ (by simp[intA];omega)
   rcases Nat.lt_or_ge j i with h|h
   ·exact hno j h
   ·have:j=i:=by omega
    subst this
    exact dF h1
 ·have hge:i=6:=by
    have:¬ ((i:Int)<6):=dF hge
    omega
  subst hge
  rw[rankI_no hno]
  exact⟨rfl,Keep.refl _⟩
theorem ans109(k:Int)(h0:0≤k)(h1:k<256):Ans Pg 109 [.v (.int .u8 k)] (aI (rankI k)):=by
 intro S
 refine ACalls.ans_v (calls109 ?_)
 unfold m109 rngS
 refine loop109_0 (fun S'=>Keep S S'∧∃ i:Nat,S'.obj S.n=some (.sit kindS i)∧i≤6∧∀ j,j<i→kindAt j≠k)
  (fun S'=>match S'.obj S.n with|some (.sit _ i)=>6 - i|_=>0) ⟨(Keep.refl S).new _,0,by rw[new_self];rfl,Nat.zero_le _,fun j hj=>(Nat.not_lt_zero _ hj).elim⟩ ?_
 rintro S1 ⟨k1,i,o1,hi,hno⟩ KE hKE
 unfold b109_0 nextM
 simp only[o1]
 refine⟨fun hlt=>?_,fun hge=>?_⟩
 ·have hlt:i<6:=hlt
  have hdec:(((Utf8.decode kindS i).1:Nat):Int)=kindAt i∧(Utf8.decode kindS i).2=1:=by
   match i,hlt with
   |0,_|1,_|2,_|3,_|4,_|5,_=>exact⟨by decide,by decide⟩
  rw[hdec.1,hdec.2]
  show extr _ _ _ _
  rw[extr0]
  show onB _ _
  rw[onB_v,gd_true,extr1,extr2,convI_v]
  have hw:IntKind.i32.wrap k=k:=by
   rw[IntKind.wrap_i32];omega
  rw[hw,bin_eql,onB_v]
  refine gd_of (fun h2=>⟨?_,k1.upd (Nat.le_refl _) _⟩) (fun h2=>?_)
  ·rw[rankI_at hlt (dT h2).symm]
  ·refine hKE _ ⟨k1.upd (Nat.le_refl _) _,i+1,upd_self _ _,hlt,fun j hj=>?_⟩ (by simp only[upd_self,o1];omega)
   rcases Nat.lt_or_ge j i with h|h
   ·exact hno j h
   ·have:j=i:=by omega
    subst this
    exact Ne.symm (dF h2)
 ·have hge:i=6:=by
    have:¬ (i<6):=hge
    omega
  subst hge
  show extr _ _ _ _
  rw[over,extr0,onB_v,gd_false,rankI_no hno]
  exact⟨rfl,k1⟩
theorem ans124(a:Int):Ans Pg 124 [aI a] (aB false):=by
 intro S
 refine ACalls.ans_v (calls124 ?_)
 unfold m124
 rw[bin_neq]
 exact⟨by simp,Keep.refl _⟩
def cmpZ(a b:Int):Int:=if a<b then -1 else if b<a then 1 else 0
theorem ans111(a b:Int):Ans Pg 111 [aI a,aI b] (aI (cmpZ a b)):=by
 intro S
 refine ACalls.ans_v (calls111 ?_)
 unfold m111
 refine callF_ans (ans124 a) (callF_ans (ans124 b) ?_)
 rw[onB_v,gd_false,onB_v,gd_false,bin_lss,onB_v]
 refine gd_of (fun h=>⟨?_,Keep.refl _⟩) (fun h=>?_)
 ·rw[cmpZ,if_pos (dT h)]
 rw[bin_gtr,onB_v]
 have h:=dF h
 refine gd_of (fun h2=>⟨?_,Keep.refl _⟩) (fun h2=>⟨?_,Keep.refl _⟩)
 ·rw[cmpZ,if_neg h,if_pos (dT h2)]
 ·rw[cmpZ,if_neg h,if_neg (dF h2)]
theorem ans110(a b:Int):Ans Pg 110 [.l [[aI a],[aI b]]] (aI (if a≠0 then a else b)):=by
 intro S
 refine ACalls.ans_v (calls110 ?_)
 unfold m110
 rw[lenS_l]
 refine loop110_0 (fun y S'=>S'=S∧∃ i:Nat,y=aI i∧i≤2∧(1≤i→a=0)∧(2≤i→b=0))
  (fun y _=>2 - ((intA y).getD 0).toNat) ⟨rfl,0,rfl,Nat.zero_le _,fun h=>by omega,fun h=>by omega⟩ ?_
 rintro _ S ⟨rfl,i,rfl,hi,h1,h2⟩ KE hKE
 unfold b110_0
 rw[bin_lss,onB_v]
 refine gd_of (fun hlt=>?_) (fun hge=>?_)
 ·have hlt:i<2:=by have:=dT hlt;exact Int.ofNat_lt.1 this
  have hadd:∀ K:AV→Store→Prop,∀ S,bin .add 0 (.v (.int .i64 (i:Int))) (.v (.int .i64 1)) S K=K (aI (i+1:Nat)) S:=fun K S=>bin_add (by omega) (by omega) 0
  match i,hlt with
  |0,_ =>
   rw[show ∀ K:AV→Store→Prop,ixS 3 1 (.l [[aI a],[aI b]]) (aI ((0:Nat):Int)) S K=K (.q [aI a] 0) S from fun K=>ixS_l (es:=[[aI a],[aI b]]) (i:=0) (by simp) rfl,ld1_qj rfl,bin_neq,onB_v]
   refine gd_of (fun h=>⟨?_,Keep.refl _⟩) (fun h=>?_)
   ·rw[if_pos (by simpa using h)]
   ·rw[hadd]
    exact hKE _ _ ⟨rfl,1,rfl,by decide,fun _=>by simpa using h,fun h=>by omega⟩ (by simp[intA])
  |1,_ =>
   have ha:=h1 (Nat.le_refl _)
   rw[show ∀ K:AV→Store→Prop,ixS 3 1 (.l [[aI a],[aI b]]) (aI ((1:Nat):Int)) S K=K (.q [aI b] 0) S from fun K=>ixS_l (es:=[[aI a],[aI b]]) (i:=1) (by simp) rfl,ld1_qj rfl,bin_neq,onB_v]
   refine gd_of (fun h=>⟨?_,Keep.refl _⟩) (fun h=>?_)
   ·rw[if_neg (by simp[ha])]
   ·rw[hadd]
    exact hKE _ _ ⟨rfl,2,rfl,by decide,fun _=>ha,fun _=>by simpa using h⟩ (by simp[intA])
 ·have hge:i=2:=by
    have:¬ ((i:Int)<2):=dF hge
    omega
  subst hge
  refine⟨?_,Keep.refl _⟩
  rw[h1 (by decide),h2 (by decide)]
  rfl
structure Na where
 kind:Int
 pos:Int
 text:ByteArray
 deriving DecidableEq
structure Ci where
 inputs:Int
 latches:List (Int × Int)
 ands:List (Int × Int)
 outs:List Int
 bads:List Int
 cons:List Int
 fair:List Int
 names:List Na
def Na.row(x:Na):List AV:=[.v (.int .u8 x.kind),aI x.pos,.v (.string x.text)]
def nL(l:List Na):AV:=.l (l.map Na.row)
def Ci.cells(c:Ci):List AV:=[aI c.inputs,pL c.latches,pL c.ands,aL aI c.outs,aL aI c.bads,aL aI c.cons,aL aI c.fair,nL c.names]
def Ci.av(c:Ci):AV:=.a c.cells
def Ci.gr(c:Ci):Gr:=⟨IntKind.i64.wrap (c.inputs+c.latches.length),c.ands⟩
structure Ci.ok (c:Ci):Prop where
 inp:i64R c.inputs
 llen:c.latches.length≤1000000
 alen:c.ands.length≤1000000
 lats:∀ p∈c.latches,i64R p.1∧i64R p.2
 pairs:∀ p∈c.ands,i64R p.1∧i64R p.2
 outs:(∀ x∈c.outs,i64R x)∧c.outs.length≤9223372036854775807
 bads:(∀ x∈c.bads,i64R x)∧c.bads.length≤9223372036854775807
 cons:(∀ x∈c.cons,i64R x)∧c.cons.length≤9223372036854775807
 fair:(∀ x∈c.fair,i64R x)∧c.fair.length≤9223372036854775807
 names:∀ x∈c.names,0≤x.kind∧x.kind<256∧i64R x.pos∧x.text.size≤9223372036854775807
 nlen:c.names.length≤1000000
theorem wrapR(n:Int):i64R (IntKind.i64.wrap n):=by
 unfold i64R
 rw[IntKind.wrap_i64];omega
theorem Ci.ok.gr{c:Ci}(h:c.ok):c.gr.ok:=⟨wrapR _,h.alen,h.pairs⟩
theorem bin_addW{a b:Int}(kd:Nat){S:Store}{K:AV→Store→Prop}:bin .add kd (aI a) (aI b) S K=K (aI (IntKind.i64.wrap (a+b))) S:=by
 simp[bin,b2,isSh,cmpI,ariI]
theorem ans74(c:Ci):Ans Pg 74 [c.av] c.gr.av:=by
 intro S
 refine ACalls.tree (calls74 ?_)
 unfold m74
 refine boxA_of rfl fun S1 k1 n1 o1=>?_
 refine boxA_of rfl fun S2 k2 n2 o2=>?_
 have p1:S2.obj S.n=_:=(k2.2 S.n (by omega)).trans o1
 rw[shift_p,ld1_p p1 rfl rfl,shift_p,ld1_p p1 rfl rfl,lenS_pL,bin_addW,shift_p,ld1_p p1 rfl rfl,bld_of (cs:=c.gr.cells) rfl]
 refine stA_of o2 rfl rfl fun S3 n3 o3 f3=>?_
 rw[ldN_p (n:=2) o3 rfl]
 exact⟨_,rfl,(k1.trans k2).st (by omega) n3 f3,c.gr.tree _ _⟩
theorem ans61(c:Ci):Ans Pg 61 [c.av] c.gr.av:=by
 intro S
 refine ACalls.tree (calls61 ?_)
 unfold m61
 refine boxA_of rfl fun S1 k1 n1 o1=>?_
 refine boxA_of rfl fun S2 k2 n2 o2=>?_
 have p1:S2.obj S.n=_:=(k2.2 S.n (by omega)).trans o1
 rw[shift_p,ld1_p p1 rfl rfl,shift_p,ld1_p p1 rfl rfl,lenS_pL,bin_addW,shift_p,ld1_p p1 rfl rfl,bld_of (cs:=c.gr.cells) rfl]
 refine stA_of o2 rfl rfl fun S3 n3 o3 f3=>?_
 rw[ldN_p (n:=2) o3 rfl]
 exact⟨_,rfl,(k1.trans k2).st (by omega) n3 f3,c.gr.tree _ _⟩
def Ci.many(c:Ci)(k:Int):Int:=if k=105 then c.inputs else if k=108 then c.latches.length else if k=111 then c.outs.length else if k=98 then c.bads.length else if k=99 then c.cons.length else if k=102 then c.fair.length else 0
def Ci.manyE(c:Ci):List (Key × AV):=[(.i 105,aI c.inputs),(.i 108,aI c.latches.length),(.i 111,aI c.outs.length),(.i 98,aI c.bads.length),(.i 99,aI c.cons.length),(.i 102,aI c.fair.length)]
theorem keyI(k:IntKind)(a:Int):keyA (.i k) (.v (.int k a))=some (.i a):=by simp[keyA]
theorem ans75(c:Ci):Ans Pg 75 [c.av] (.mt (.i .i32) c.manyE):=by
 intro S
 refine ACalls.tree (calls75 ?_)
 unfold m75
 refine boxA_of rfl fun S1 k1 n1 o1=>?_
 unfold mkM
 show shift _ _ _ _
 have p1:(S1.new (.map (.i .i32) [] true)).obj S.n=_:=(new_lt (by omega)).trans o1
 have u:∀{es:List (Key × AV)},(Store.upd (S1.new (.map (.i .i32) [] true)) S1.n (.map (.i .i32) es true)).obj S.n=_:=fun{es}=>(upd_ne (by omega)).trans p1
 rw[shift_p,ld1_p p1 rfl rfl,updM_m (new_self _) (keyI _ _)]
 rw[shift_p,ld1_p u rfl rfl,lenS_pL,updM_m (upd_self _ _) (keyI _ _),upd_upd]
 rw[shift_p,ld1_p u rfl rfl,lenS_aL,updM_m (upd_self _ _) (keyI _ _),upd_upd]
 rw[shift_p,ld1_p u rfl rfl,lenS_aL,updM_m (upd_self _ _) (keyI _ _),upd_upd]
 rw[shift_p,ld1_p u rfl rfl,lenS_aL,updM_m (upd_self _ _) (keyI _ _),upd_upd]
 rw[shift_p,ld1_p u rfl rfl,lenS_aL,updM_m (upd_self _ _) (keyI _ _),upd_upd]
 refine⟨_,rfl,(k1.new _).upd (by omega) _,.m' S1.n (.i .i32) c.manyE c.manyE ?_ rfl (fun i e e2 h h2=>by rw[h]at h2;cases h2;rfl) (fun i e e2 h h2=>?_)⟩
 ·rw[frz_ofM (upd_self _ _)]
  have:newer S.n S1.n=true:=by simp[newer];omega
  rw[this]
  rfl
 ·rw[h]at h2;cases h2
  match i with
  |0|1|2|3|4|5=>cases h;exact .v _
  |i+6=>simp[Ci.manyE]at h
theorem lkp_many(c:Ci)(k:Int):((lkp c.manyE (.i k)).getD (aI 0))=aI (c.many k):=by
 by_cases h0:k=105
 ·subst h0;rfl
 by_cases h1:k=108
 ·subst h1;rfl
 by_cases h2:k=111
 ·subst h2;rfl
 by_cases h3:k=98
 ·subst h3;rfl
 by_cases h4:k=99
 ·subst h4;rfl
 by_cases h5:k=102
 ·subst h5;rfl
 have:kix c.manyE (.i k)=none:=by
  rw[kix_none]
  simp[Ci.manyE,h0,h1,h2,h3,h4,h5]
 simp[lkp,this,Ci.many,h0,h1,h2,h3,h4,h5]
theorem rank_many{c:Ci}{k:Int}(h:¬ rankI k<0):c.many k = [c.inputs,c.latches.length,c.outs.length,c.bads.length,c.cons.length,c.fair.length].getD (rankI k).toNat 0:=by
 unfold rankI at h ⊢
 unfold Ci.many
 repeat' split
 all_goals first|rfl|(exfalso;apply h;simp[*])
theorem many_no{c:Ci}{k:Int}(h:rankI k<0):c.many k=0:=by
 unfold rankI at h
 unfold Ci.many
 repeat' split
 all_goals first|rfl|(simp[*]at h)
theorem rank_lt(k:Int):rankI k<6:=by
 unfold rankI
 repeat' split
 all_goals decide
theorem bsl6{e:Nat}{z a b c d f g:Int}{S:Store}{K:AV→Store→Prop}(k:K (.l [[aI a],[aI b],[aI c],[aI d],[aI f],[aI g]]) S):bslN e 1 6 [aI z] [(0,aI a),(1,aI b),(2,aI c),(3,aI d),(4,aI f),(5,aI g)] S K:=by
 refine⟨[aI a,aI b,aI c,aI d,aI f,aI g],?_,.inr ?_⟩
 ·simp[fillA,cells_of_one,spl,List.range_succ,cellsOf,AV.one,Value.oneCell']
 ·simpa[chunks,List.range_succ]using k
theorem ans116(c:Ci)(k:Int):Ans Pg 116 [c.av,.v (.int .u8 k)] (aI (c.many k)):=by
 intro S
 refine ACalls.ans_v (calls116 ?_)
 unfold m116
 refine boxA_of rfl fun S1 k1 n1 o1=>?_
 refine callF_ans (ans117 k) ?_
 rw[bin_lss,onB_v]
 refine gd_of (fun h=>⟨?_,k1⟩) (fun h=>?_)
 ·rw[many_no (dT h)]
 have h:¬ rankI k<0:=dF h
 rw[shift_p,ld1_p o1 rfl rfl,shift_p,ld1_p o1 rfl rfl,lenS_pL,shift_p,ld1_p o1 rfl rfl,lenS_aL,shift_p,ld1_p o1 rfl rfl,lenS_aL,shift_p,ld1_p o1 rfl rfl,lenS_aL,shift_p,ld1_p o1 rfl rfl,lenS_aL]
 refine bsl6 ?_
 obtain⟨r,hr⟩:=Int.eq_ofNat_of_zero_le (show 0≤rankI k by omega)
 have hr6:r<6:=by have:=rank_lt k;omega
 rw[rank_many h,hr]
 match r,hr6 with
 |0,_|1,_|2,_|3,_|4,_|5,_ =>
  rw[ixS_l (by simp) (by rfl),ld1_qj rfl]
  exact⟨rfl,k1⟩
open Go Go.Ab Go.RowKit
def atoiR(s:ByteArray):AV:=
 match Lib.atoiAll s.data.toList with
 |.ok v=>.t [aI v,.v .nilIface]
 |.syntax=>.t [aI 0,.i 185 .j]
 |.range=>.t [aI (Lib.atoiSat s.data.toList),.i 185 .j]
theorem ans119{s:ByteArray}(hs:s.size≤281474976710656):Ans Pg 119 [.v (.string s)] (atoiR s):=fun S =>
 ACalls.below (by kernel_rfl) fun w g vs hh ha=>by
  obtain rfl:=ha.one
  unfold atoiR
  match h:Lib.atoiAll s.data.toList with
  |.ok v =>
   refine(Any.strconv_Atoi_ok laysAtoi s (by omega) v h w).mono fun e w' ⟨he,hw⟩=>⟨?_,_,he,R.t2 (.v _) (.v _)⟩
   rcases hw with rfl|⟨t,rfl⟩
   ·exact Below.refl _ _
   ·exact Lib.bytesWorld_below _ _ _
  |.syntax =>
   obtain⟨_,cs,hv,hok⟩:=hh.gl _ _ laysAtoi.m15 (by decide)
   obtain⟨te,pe,rfl⟩:=hok.1 (.inl rfl)
   exact(Any.strconv_Atoi_syntax_var laysAtoi s hs h te pe w hv).mono fun e w' ⟨n,he,_,_,hb⟩=>⟨hb,_,he,R.t2 (.v _) (.i _ _ _ (.j _))⟩
  |.range =>
   obtain⟨_,cs,hv,hok⟩:=hh.gl _ _ laysAtoi.m16 (by decide)
   obtain⟨te,pe,rfl⟩:=hok.1 (.inr rfl)
   exact(Any.strconv_Atoi_range_var laysAtoi s hs h te pe w hv).mono fun e w' ⟨n,he,_,_,hb⟩=>⟨hb,_,he,R.t2 (.v _) (.i _ _ _ (.j _))⟩
theorem ans84{n:Int}(hn:i64R n):Ans Pg 84 [aI n] (.v (.string ⟨(Lib.itoa n).toArray⟩)):=fun S =>
 ACalls.below (by kernel_rfl) fun w g vs hh ha=>by
  obtain rfl:=ha.one
  obtain⟨_,cs,hv,hok⟩:=hh.gl _ _ laysItoa.m17 (by decide)
  have ht : Lib.TabIs Pg w "internal/strconv.uint64pow10" .u64 Lib.pow10Tab := by
   unfold Lib.TabIs
   rw[hv,hok.2.1 rfl,Lib.pow10Tab,List.map_map]
   rfl
  refine(Any.strconv_Itoa laysItoa n (by have:=hn.1;omega) (by have:=hn.2;omega) w ht).mono fun e w' ⟨he,k,os,hw⟩=>⟨?_,_,he,.v _⟩
  rw[hw]
  exact Lib.below_grow _ _ (Nat.le_refl _) _ _
section
set_option maxRecDepth 100000
def c102:Code:=(Tryz.f102.body).getD .skip
def r102:List ResultVar:=Tryz.f102.results.toList
def env102_0(y0 y3 y4:AV):List AV:=[y0,y3,y4]
def lv102_0:List Nat:=[0,3,4]
def ms102:List (List Nat):=[lv102_0,[]]
def m102(x0:AV)(S:Store)(Q:PoT):Prop:=
 loopV lv102_0 (vc Pg (c102.at_ [1,1,0,1,0,0]) (ms102.drop 1)) 48 (env102_0 x0 (.v (.int .i64 0)) (.v (.int .i64 0))) S (blockK 0 (seqK (vc Pg (c102.at_ [1,1,1]) (ms102.drop 1)) (bodyK Pg r102 Q)))
theorem calls102{x0:AV}{S:Store}{Q:PoT}(h:m102 x0 S Q):ACalls Pg 102 [x0] S Q:=
 calls_of_vc (fn:=Tryz.f102) (c:=c102) (n:=48) Tryz.func102 (by kernel_rfl) (by kernel_rfl) (by kernel_rfl) ms102 (Eq.mpr (by kernel_rfl) h)
def b102_0(y0 y3 y4:AV)(S:Store)(KE0:KeT)(Q:PoT):Prop:=
 lenStr y0 S fun a S=>bin .lss 0 y4 a S fun c S=>onB c fun b=>gd b (ixStr y0 y4 S fun d S=>bin .lss 0 d (.v (.int .u8 48)) S fun e S=>onB e fun b=>gd b (Q (.ret (.v (.int .i64 (-1)))) S) (ixStr y0 y4 S fun f S=>bin .gtr 0 f (.v (.int .u8 57)) S fun g S=>onB g fun b=>gd b (Q (.ret (.v (.int .i64 (-1)))) S) (bin .mul 0 (.v (.int .i64 10)) y3 S fun h S=>ixStr y0 y4 S fun i S=>convI .i64 i S fun k S=>bin .add 0 h k S fun l S=>bin .sub 0 l (.v (.int .i64 48)) S fun m S=>bin .add 0 y4 (.v (.int .i64 1)) S fun n S=>KE0 48 (env102_0 y0 m n) S))) (lenStr y0 S fun o S=>bin .lss 0 o (.v (.int .i64 1)) S fun p S=>onB p fun b=>gd b (Q (.ret (.v (.int .i64 (-1)))) S) (lenStr y0 S fun q S=>bin .gtr 0 q (.v (.int .i64 6)) S fun r S=>onB r fun b=>gd b (Q (.ret (.v (.int .i64 (-1)))) S) (lenStr y0 S fun s S=>bin .gtr 0 s (.v (.int .i64 1)) S fun t S=>onB t fun b=>gd b (ixStr y0 (.v (.int .i64 0)) S fun u S=>bin .eql 0 u (.v (.int .u8 48)) S fun w S=>onB w fun b=>gd b (Q (.ret (.v (.int .i64 (-1)))) S) (Q (.ret y3) S)) (Q (.ret y3) S))))
theorem b102_0_eq(y0 y3 y4:AV)(S:Store)(KE0:KeT)(Q:PoT):vc Pg (c102.at_ [1,1,0,1,0,0]) (ms102.drop 1) (mkE 48 lv102_0 (env102_0 y0 y3 y4)) S (thenK (fgK lv102_0 KE0) (blockK 0 (seqK (vc Pg (c102.at_ [1,1,1]) (ms102.drop 1)) (bodyK Pg r102 Q))))=b102_0 y0 y3 y4 S KE0 Q:=by kernel_rfl
theorem loop102_0{y0:AV}{y30 y40:AV}{S:Store}{Q:PoT}(I:AV→AV→Store→Prop)(μ:AV→AV→Store→Nat)(h0:I y30 y40 S)
    (hr:∀(y3 y4:AV) (S:Store),I y3 y4 S→∀ KE0:KeT,(∀(y3' y4':AV) (S':Store),I y3' y4' S'→μ y3' y4' S'<μ y3 y4 S→KE0 48 (env102_0 y0 y3' y4') S')→b102_0 y0 y3 y4 S KE0 Q):
    loopV lv102_0 (vc Pg (c102.at_ [1,1,0,1,0,0]) (ms102.drop 1)) 48 (env102_0 y0 y30 y40) S (blockK 0 (seqK (vc Pg (c102.at_ [1,1,1]) (ms102.drop 1)) (bodyK Pg r102 Q))):=by
 refine⟨fun n e S=>n=48∧∃ y3 y4:AV,e=(env102_0 y0 y3 y4)∧I y3 y4 S,fun _ e S=>μ (e.getD 1 .j) (e.getD 2 .j) S,?_,?_⟩
 ·exact⟨_,_,Wk.refl _ _,rfl,_,_,rfl,h0⟩
 ·rintro _ e S ⟨rfl,y3,y4,rfl,hI⟩
  exact(b102_0_eq _ _ _ _ _ _).mpr (hr y3 y4 S hI _ (fun y3' y4' S' hI' hm=>⟨_,_,Wk.refl _ _,⟨rfl,_,_,rfl,hI'⟩,hm⟩))
end
open Go
def numA(l:List UInt8):Int:=
 match Lib.atoiAll l with
 |.ok v=>if v<0 then -1 else if 6<l.length then -1 else if Lib.itoa v≠l then -1 else v
 |_=>-1
def numR(l:List UInt8):Int:=
 match Lib.decNat l with
 |some m=>if l.length≤6∧(l.length=1∨l.head?≠some 48)then m else -1
 |none=>-1
theorem digit_byte{b:UInt8}{d:Nat}(h:Lib.digitVal b=some d):d<10∧b=UInt8.ofNat (48+d)∧b.toNat=48+d:=by
 unfold Lib.digitVal at h
 split at h
 ·rename_i hb
  cases h
  have e:b.toNat=48+(b.toNat - 48):=by omega
  refine⟨by omega,?_,e⟩
  rw[←e]
  exact(UInt8.ofNat_toNat).symm
 ·cases h
theorem decFrom_ge:∀(l:List UInt8) (a m:Nat),Lib.decFrom a l=some m→a≤m
 |[],a,m,h=>by simp only[Lib.decFrom,Option.some.injEq]at h;omega
 |b :: r,a,m,h=>by
  simp only[Lib.decFrom]at h
  cases hd:Lib.digitVal b with
  |none=>rw[hd]at h;cases h
  |some d=>rw[hd]at h;have:=decFrom_ge r _ _ h;omega
theorem decFrom_app:∀(l r:List UInt8) (a:Nat),Lib.decFrom a (l++r)=(Lib.decFrom a l).bind fun m=>Lib.decFrom m r
 |[],r,a=>rfl
 |b :: l,r,a=>by
  simp only[List.cons_append,Lib.decFrom]
  cases hd:Lib.digitVal b with
  |none=>rfl
  |some d=>exact decFrom_app l r _
theorem digits_back:∀(n:Nat) (l:List UInt8),l.length=n→∀ m,Lib.decNat l=some m→(l.length=1∨l.head?≠some 48)→Lib.decDigits m=l:=by
 intro n
 induction n with
 |zero =>
  intro l hl m h
  rw[List.length_eq_zero_iff.1 hl]at h
  cases h
 |succ n ih =>
  intro l hl m h hz
  obtain⟨r,b,rfl⟩:∃ r b,l=r ++ [b]:=⟨l.dropLast,l.getLast (by intro e;rw[e]at hl;cases hl),(List.dropLast_concat_getLast _).symm⟩
  have h0:Lib.decFrom 0 (r ++ [b])=some m:=by
   unfold Lib.decNat at h
   rwa [if_neg (by simp)]at h
  rw[decFrom_app]at h0
  obtain⟨k,hk,hb⟩:=Option.bind_eq_some_iff.1 h0
  simp only[Lib.decFrom]at hb
  cases hd:Lib.digitVal b with
  |none=>rw[hd]at hb;cases hb
  |some d =>
   rw[hd]at hb
   obtain⟨h1,h2,h3⟩:=digit_byte hd
   cases hb
   cases r with
   |nil =>
    cases hk
    rw[Lib.decDigits,dif_pos (by omega),h2]
    simp
   |cons c r =>
    have hc:c≠48:=by
     rcases hz with hz|hz
     ·simp at hz
     ·intro e;subst e;exact hz rfl
    have hk1:1≤k:=by
     simp only[Lib.decFrom]at hk
     cases hdc:Lib.digitVal c with
     |none=>rw[hdc]at hk;cases hk
     |some dc =>
      rw[hdc]at hk
      obtain⟨_,h5,_⟩:=digit_byte hdc
      have:=decFrom_ge _ _ _ hk
      have:dc≠0:=by rintro rfl;exact hc h5
      omega
    have ihk:=ih (c :: r) (by simp at hl;simpa using hl) k (by unfold Lib.decNat;rw[if_neg (by simp)];exact hk) (.inr (by simpa using hc))
    rw[Lib.decDigits,dif_neg (by omega),show(k*10+d) / 10=k by omega,show(k*10+d) % 10=d by omega,ihk,h2]
theorem digits_mem:∀(n m:Nat),m<n→∀ b∈Lib.decDigits m,48≤b.toNat∧b.toNat≤57:=by
 intro n
 induction n with
 |zero=>intro m h;omega
 |succ n ih =>
  intro m h b hb
  have one:∀ k,k<10→48≤(UInt8.ofNat (48+k)).toNat∧(UInt8.ofNat (48+k)).toNat≤57:=fun k hk=>by
   rw[UInt8.toNat_ofNat']
   omega
  rw[Lib.decDigits]at hb
  split at hb
  ·rename_i h10
   rw[List.mem_singleton.1 hb]
   exact one _ h10
  ·rcases List.mem_append.1 hb with hb|hb
   ·exact ih _ (by omega) b hb
   ·rw[List.mem_singleton.1 hb]
    exact one _ (by omega)
theorem digits_ne(m:Nat):Lib.decDigits m≠[]:=by
 rw[Lib.decDigits]
 split<;>simp
theorem digits_head:∀(n m:Nat),m<n→1≤m→(Lib.decDigits m).head?≠some 48:=by
 intro n
 induction n with
 |zero=>intro m h;omega
 |succ n ih =>
  intro m h h1
  rw[Lib.decDigits]
  split
  ·rename_i h10
   intro e
   have e:UInt8.ofNat (48+m)=48:=by simpa using e
   have:=congrArg UInt8.toNat e
   rw[UInt8.toNat_ofNat']at this
   have:(48+m) % 2 ^ 8=48:=this
   omega
  ·have:=ih (m / 10) (by omega) (by omega)
   cases hd:Lib.decDigits (m / 10)with
   |nil=>exact absurd hd (digits_ne _)
   |cons c r=>rw[hd]at this;simpa using this
theorem digits_iff{l:List UInt8}{m:Nat}(h:Lib.decNat l=some m):Lib.decDigits m=l↔(l.length=1∨l.head?≠some 48):=by
 refine⟨fun e=>?_,digits_back _ l rfl m h⟩
 by_cases h1:1≤m
 ·right
  rw[←e]
  exact digits_head _ m (Nat.lt_succ_self _) h1
 ·have:m=0:=by omega
  subst this
  left
  rw[←e,Lib.decDigits,dif_pos (by decide)]
  rfl
theorem num_eq(l:List UInt8):numA l=numR l:=by
 unfold numA numR
 by_cases hl:6<l.length
 ·have e1:(match Lib.decNat l with|some m=>if l.length≤6∧(l.length=1∨l.head?≠some 48)then(m:Int)else -1|none=>-1) = -1:=by
    split
    ·rw[if_neg (by omega)]
    ·rfl
  rw[e1]
  split
  ·split
   ·rfl
   ·first
    |rfl
    |rw[if_pos hl]
  ·rfl
 rw[Lib.atoiAll_short l (by omega)]
 cases l with
 |nil=>rfl
 |cons b r =>
  have hneg:∀(x:UInt8) (hx:x.toNat<48),Lib.decNat (x :: r)=none:=fun x hx=>by
   unfold Lib.decNat
   rw[if_neg (by simp)]
   simp only[Lib.decFrom]
   have:Lib.digitVal x=none:=by unfold Lib.digitVal;rw[if_neg (by omega)]
   rw[this]
  have hno:∀(x:UInt8) (hx:x.toNat<48) (m:Nat),Lib.decDigits m≠x :: r:=fun x hx m e=>by
   have:=digits_mem _ m (Nat.lt_succ_self _) x (by rw[e];exact List.mem_cons_self)
   omega
  by_cases h45:b=45
  ·subst h45
   rw[hneg 45 (by decide)]
   have e:Lib.atoi (45 :: r)=(Lib.decNat r).map fun(m:Nat)=>-(m:Int):=by simp[Lib.atoi]
   rw[e]
   cases hr:Lib.decNat r with
   |none=>rfl
   |some m =>
    show(if(-(m:Int))<0 then(-1:Int)else if 6<(45 :: r).length then -1 else if Lib.itoa (-(m:Int))≠45 :: r then -1 else -(m:Int)) = -1
    by_cases hm:m=0
    ·subst hm
     rw[if_neg (by decide),if_neg hl,if_pos]
     intro e
     have:Lib.itoa (-((0:Nat):Int))=Lib.decDigits 0:=by simp[Lib.itoa]
     rw[this]at e
     exact hno 45 (by decide) 0 e
    ·rw[if_pos (by omega)]
  ·by_cases h43:b=43
   ·subst h43
    rw[hneg 43 (by decide)]
    have e:Lib.atoi (43 :: r)=(Lib.decNat r).map fun(m:Nat)=>(m:Int):=by simp[Lib.atoi]
    rw[e]
    cases hr:Lib.decNat r with
    |none=>rfl
    |some m =>
     show(if(m:Int)<0 then(-1:Int)else if 6<(43 :: r).length then -1 else if Lib.itoa (m:Int)≠43 :: r then -1 else(m:Int)) = -1
     rw[if_neg (by omega),if_neg hl,if_pos]
     rw[Lib.itoa_nonneg]
     exact hno 43 (by decide) m
   ·have e:Lib.atoi (b :: r)=(Lib.decNat (b :: r)).map fun(m:Nat)=>(m:Int):=by simp[Lib.atoi,h45,h43]
    rw[e]
    cases hr:Lib.decNat (b :: r)with
    |none=>rfl
    |some m =>
     show(if(m:Int)<0 then(-1:Int)else if 6<(b :: r).length then -1 else if Lib.itoa (m:Int)≠b :: r then -1 else(m:Int))=if(b :: r).length≤6∧((b :: r).length=1∨(b :: r).head?≠some 48)then(m:Int)else -1
     rw[if_neg (by omega),if_neg hl,Lib.itoa_nonneg]
     by_cases hd:Lib.decDigits m=b :: r
     ·rw[if_neg (by simpa using hd),if_pos ⟨by omega,(digits_iff hr).1 hd⟩]
     ·rw[if_pos hd,if_neg (fun h=>hd ((digits_iff hr).2 h.2))]
section
set_option maxRecDepth 100000
def c42:Code:=(Tryz.f42.body).getD .skip
def r42:List ResultVar:=Tryz.f42.results.toList
def env42_0(y1 y3 y4:AV):List AV:=[y1,y3,y4]
def lv42_0:List Nat:=[1,3,4]
def ms42:List (List Nat):=[lv42_0,[]]
def m42(x0:AV)(S:Store)(Q:PoT):Prop:=
 boxN 29 8 x0 S fun c S=>ldN 8 c S fun d S=>callF Pg 61 [d] S Q fun e S=>boxN 70 2 (.a [.v (.int .i64 0),.nl]) S fun f S=>stN 2 f e S fun g S=>shift c 0 S fun h S=>ld1 h S fun i S=>bin .lss 0 i (.v (.int .i64 0)) S fun k S=>onB k fun b=>gd b (Q (.ret (.v (.bool false))) S) (shift c 0 S fun l S=>ld1 l S fun m S=>bin .gtr 0 m (.v (.int .i64 2000)) S fun n S=>onB n fun b=>gd b (Q (.ret (.v (.bool false))) S) (shift c 1 S fun o S=>ld1 o S fun p S=>lenS p S fun q S=>bin .gtr 0 q (.v (.int .i64 2000)) S fun r S=>onB r fun b=>gd b (Q (.ret (.v (.bool false))) S) (ldN 2 f S fun s S=>callF Pg 86 [s] S Q fun t S=>un .not t S fun u S=>onB u fun b=>gd b (Q (.ret (.v (.bool false))) S) (loopV lv42_0 (vc Pg (c42.at_ [1,1,1,0,1,0,0]) (ms42.drop 1)) 86 (env42_0 c f (.v (.int .i64 0))) S (blockK 0 (seqK (vc Pg (c42.at_ [1,1,1,1]) (ms42.drop 1)) (bodyK Pg r42 Q)))))))
theorem calls42{x0:AV}{S:Store}{Q:PoT}(h:m42 x0 S Q):ACalls Pg 42 [x0] S Q:=
 calls_of_vc (fn:=Tryz.f42) (c:=c42) (n:=86) Tryz.func42 (by kernel_rfl) (by kernel_rfl) (by kernel_rfl) ms42 (Eq.mpr (by kernel_rfl) h)
def b42_0(y1 y3 y4:AV)(S:Store)(KE0:KeT)(Q:PoT):Prop:=
 shift y1 1 S fun a S=>ld1 a S fun c S=>lenS c S fun d S=>bin .lss 0 y4 d S fun e S=>onB e fun b=>gd b ((fun S0:Store=>∃ f:AV,(ldN 2 y3 S fun g S=>g=f∧S=S0)∧∃ h:AV,(shift y1 1 S fun i S=>i=h∧S=S0)∧∃ k:AV,(ld1 h S fun l S=>l=k∧S=S0)∧∃ m:AV,(ixS 51 2 k y4 S fun n S=>n=m∧S=S0)∧∃ o:AV,(shift m 0 S fun p S=>p=o∧S=S0)∧∃ q:AV,(ld1 o S fun r S=>r=q∧S=S0)∧∃ s:AV,(callF Pg 87 [f,q] S (fun _ _=>False) fun t S=>t=s∧S=S0)∧∃ u:AV,(un .not s S fun w S=>w=u∧S=S0)∧onB u fun b=>gd b (∃ x:AV,((.v (.bool true))=x∧S=S0)∧onB x fun b=>gd b (∃ y:AV,((.v (.bool true))=y∧S=S0)∧onB y fun b=>gd b (Q (.ret (.v (.bool false))) S) (bin .add 0 y4 (.v (.int .i64 1)) S fun z S=>KE0 86 (env42_0 y1 y3 z) S)) (∃ A:AV,(shift y1 1 S fun B S=>B=A∧S=S0)∧∃ C:AV,(ld1 A S fun D S=>D=C∧S=S0)∧∃ E:AV,(ixS 51 2 C y4 S fun F S=>F=E∧S=S0)∧∃ G:AV,(shift E 1 S fun H S=>H=G∧S=S0)∧∃ I:AV,(ld1 G S fun J S=>J=I∧S=S0)∧∃ K:AV,(bin .gtr 0 I (.v (.int .i64 2)) S fun L S=>L=K∧S=S0)∧∃ M:AV,(K=M∧S=S0)∧onB M fun b=>gd b (Q (.ret (.v (.bool false))) S) (bin .add 0 y4 (.v (.int .i64 1)) S fun N S=>KE0 86 (env42_0 y1 y3 N) S))) (∃ O:AV,(shift y1 1 S fun P S=>P=O∧S=S0)∧∃ R:AV,(ld1 O S fun T S=>T=R∧S=S0)∧∃ U:AV,(ixS 51 2 R y4 S fun V S=>V=U∧S=S0)∧∃ W:AV,(shift U 1 S fun X S=>X=W∧S=S0)∧∃ Y:AV,(ld1 W S fun Z S=>Z=Y∧S=S0)∧∃ a0:AV,(bin .lss 0 Y (.v (.int .i64 0)) S fun a1 S=>a1=a0∧S=S0)∧∃ a2:AV,(a0=a2∧S=S0)∧onB a2 fun b=>gd b (∃ a3:AV,((.v (.bool true))=a3∧S=S0)∧onB a3 fun b=>gd b (Q (.ret (.v (.bool false))) S) (bin .add 0 y4 (.v (.int .i64 1)) S fun a4 S=>KE0 86 (env42_0 y1 y3 a4) S)) (∃ a5:AV,(shift y1 1 S fun a6 S=>a6=a5∧S=S0)∧∃ a7:AV,(ld1 a5 S fun a8 S=>a8=a7∧S=S0)∧∃ a9:AV,(ixS 51 2 a7 y4 S fun b0 S=>b0=a9∧S=S0)∧∃ b1:AV,(shift a9 1 S fun b2 S=>b2=b1∧S=S0)∧∃ b3:AV,(ld1 b1 S fun b4 S=>b4=b3∧S=S0)∧∃ b5:AV,(bin .gtr 0 b3 (.v (.int .i64 2)) S fun b6 S=>b6=b5∧S=S0)∧∃ b7:AV,(b5=b7∧S=S0)∧onB b7 fun b=>gd b (Q (.ret (.v (.bool false))) S) (bin .add 0 y4 (.v (.int .i64 1)) S fun b8 S=>KE0 86 (env42_0 y1 y3 b8) S)))) S) (ldN 2 y3 S fun b9 S=>shift y1 3 S fun c0 S=>ld1 c0 S fun c1 S=>callF Pg 88 [b9,c1] S Q fun c2 S=>onB c2 fun b=>gd b (ldN 2 y3 S fun c3 S=>shift y1 4 S fun c4 S=>ld1 c4 S fun c5 S=>callF Pg 88 [c3,c5] S Q fun c6 S=>onB c6 fun b=>gd b (ldN 2 y3 S fun c7 S=>shift y1 5 S fun c8 S=>ld1 c8 S fun c9 S=>callF Pg 88 [c7,c9] S Q fun d0 S=>onB d0 fun b=>gd b (ldN 2 y3 S fun d1 S=>shift y1 6 S fun d2 S=>ld1 d2 S fun d3 S=>callF Pg 88 [d1,d3] S Q fun d4 S=>onB d4 fun b=>gd b (ldN 8 y1 S fun d5 S=>callF Pg 89 [d5] S Q fun d6 S=>Q (.ret d6) S) (Q (.ret (.v (.bool false))) S)) (Q (.ret (.v (.bool false))) S)) (Q (.ret (.v (.bool false))) S)) (Q (.ret (.v (.bool false))) S))
theorem b42_0_eq(y1 y3 y4:AV)(S:Store)(KE0:KeT)(Q:PoT):vc Pg (c42.at_ [1,1,1,0,1,0,0]) (ms42.drop 1) (mkE 86 lv42_0 (env42_0 y1 y3 y4)) S (thenK (fgK lv42_0 KE0) (blockK 0 (seqK (vc Pg (c42.at_ [1,1,1,1]) (ms42.drop 1)) (bodyK Pg r42 Q))))=b42_0 y1 y3 y4 S KE0 Q:=by kernel_rfl
theorem loop42_0{y1 y3:AV}{y40:AV}{S:Store}{Q:PoT}(I:AV→Store→Prop)(μ:AV→Store→Nat)(h0:I y40 S)
    (hr:∀(y4:AV) (S:Store),I y4 S→∀ KE0:KeT,(∀(y4':AV) (S':Store),I y4' S'→μ y4' S'<μ y4 S→KE0 86 (env42_0 y1 y3 y4') S')→b42_0 y1 y3 y4 S KE0 Q):
    loopV lv42_0 (vc Pg (c42.at_ [1,1,1,0,1,0,0]) (ms42.drop 1)) 86 (env42_0 y1 y3 y40) S (blockK 0 (seqK (vc Pg (c42.at_ [1,1,1,1]) (ms42.drop 1)) (bodyK Pg r42 Q))):=by
 refine⟨fun n e S=>n=86∧∃ y4:AV,e=(env42_0 y1 y3 y4)∧I y4 S,fun _ e S=>μ (e.getD 2 .j) S,?_,?_⟩
 ·exact⟨_,_,Wk.refl _ _,rfl,_,rfl,h0⟩
 ·rintro _ e S ⟨rfl,y4,rfl,hI⟩
  exact(b42_0_eq _ _ _ _ _ _).mpr (hr y4 S hI _ (fun y4' S' hI' hm=>⟨_,_,Wk.refl _ _,⟨rfl,_,rfl,hI'⟩,hm⟩))
def c76:Code:=(Tryz.f76.body).getD .skip
def ms76:List (List Nat):=[[]]
def m76(x0 x1:AV)(S:Store)(Q:PoT):Prop:=
 ldN 2 x1 S fun a S=>callF Pg 77 [a,x0] S Q fun c S=>un .not c S fun d S=>Q (.ret d) S
theorem calls76{x0 x1:AV}{S:Store}{Q:PoT}(h:m76 x0 x1 S Q):ACalls Pg 76 [x0,x1] S Q:=
 calls_of_vc (fn:=Tryz.f76) (c:=c76) (n:=8) Tryz.func76 (by kernel_rfl) (by kernel_rfl) (by kernel_rfl) ms76 (Eq.mpr (by kernel_rfl) h)
def c78:Code:=(Tryz.f78.body).getD .skip
def ms78:List (List Nat):=[[]]
def m78(x0 x1:AV)(S:Store)(Q:PoT):Prop:=
 boxN 51 2 x0 S fun a S=>ld1 x1 S fun c S=>shift a 0 S fun d S=>ld1 d S fun e S=>callV Pg c [e] S (fun f S=>onB f fun b=>gd b (Q (.ret (.v (.bool true))) S) (shift a 1 S fun g S=>ld1 g S fun h S=>bin .lss 0 h (.v (.int .i64 0)) S fun i S=>onB i fun b=>gd b (Q (.ret (.v (.bool true))) S) (shift a 1 S fun k S=>ld1 k S fun l S=>bin .gtr 0 l (.v (.int .i64 2)) S fun m S=>Q (.ret m) S))) (fun u S=>Q (.pan u) S)
theorem calls78{x0 x1:AV}{S:Store}{Q:PoT}(h:m78 x0 x1 S Q):ACalls Pg 78 [x0,x1] S Q:=
 calls_of_vc (fn:=Tryz.f78) (c:=c78) (n:=18) Tryz.func78 (by kernel_rfl) (by kernel_rfl) (by kernel_rfl) ms78 (Eq.mpr (by kernel_rfl) h)
def c106:Code:=(Tryz.f106.body).getD .skip
def r106:List ResultVar:=Tryz.f106.results.toList
def env106_0(y0 y1 y7 y8:AV):List AV:=[y0,y1,y7,y8]
def lv106_0:List Nat:=[0,1,7,8]
def ms106:List (List Nat):=[lv106_0,[]]
def m106(x0 x1:AV)(S:Store)(Q:PoT):Prop:=
 lenS x0 S fun a S=>loopV lv106_0 (vc Pg (c106.at_ [1,0,1,0,0]) (ms106.drop 1)) 19 (env106_0 x0 x1 a (.v (.int .i64 0))) S (blockK 0 (seqK (vc Pg (c106.at_ [1,1]) (ms106.drop 1)) (bodyK Pg r106 Q)))
theorem calls106{x0 x1:AV}{S:Store}{Q:PoT}(h:m106 x0 x1 S Q):ACalls Pg 106 [x0,x1] S Q:=
 calls_of_vc (fn:=Tryz.f106) (c:=c106) (n:=19) Tryz.func106 (by kernel_rfl) (by kernel_rfl) (by kernel_rfl) ms106 (Eq.mpr (by kernel_rfl) h)
def b106_0(y0 y1 y7 y8:AV)(S:Store)(KE0:KeT)(Q:PoT):Prop:=
 bin .lss 0 y8 y7 S fun a S=>onB a fun b=>gd b (ixS 51 2 y0 y8 S fun c S=>ldN 2 c S fun d S=>callV Pg y1 [d] S (fun e S=>onB e fun b=>gd b (Q (.ret y8) S) (bin .add 0 y8 (.v (.int .i64 1)) S fun f S=>KE0 19 (env106_0 y0 y1 y7 f) S)) (fun u S=>Q (.pan u) S)) (Q (.ret (.v (.int .i64 (-1)))) S)
theorem b106_0_eq(y0 y1 y7 y8:AV)(S:Store)(KE0:KeT)(Q:PoT):vc Pg (c106.at_ [1,0,1,0,0]) (ms106.drop 1) (mkE 19 lv106_0 (env106_0 y0 y1 y7 y8)) S (thenK (fgK lv106_0 KE0) (blockK 0 (seqK (vc Pg (c106.at_ [1,1]) (ms106.drop 1)) (bodyK Pg r106 Q))))=b106_0 y0 y1 y7 y8 S KE0 Q:=by kernel_rfl
theorem loop106_0{y0 y1 y7:AV}{y80:AV}{S:Store}{Q:PoT}(I:AV→Store→Prop)(μ:AV→Store→Nat)(h0:I y80 S)
    (hr:∀(y8:AV) (S:Store),I y8 S→∀ KE0:KeT,(∀(y8':AV) (S':Store),I y8' S'→μ y8' S'<μ y8 S→KE0 19 (env106_0 y0 y1 y7 y8') S')→b106_0 y0 y1 y7 y8 S KE0 Q):
    loopV lv106_0 (vc Pg (c106.at_ [1,0,1,0,0]) (ms106.drop 1)) 19 (env106_0 y0 y1 y7 y80) S (blockK 0 (seqK (vc Pg (c106.at_ [1,1]) (ms106.drop 1)) (bodyK Pg r106 Q))):=by
 refine⟨fun n e S=>n=19∧∃ y8:AV,e=(env106_0 y0 y1 y7 y8)∧I y8 S,fun _ e S=>μ (e.getD 3 .j) S,?_,?_⟩
 ·exact⟨_,_,Wk.refl _ _,rfl,_,rfl,h0⟩
 ·rintro _ e S ⟨rfl,y8,rfl,hI⟩
  exact(b106_0_eq _ _ _ _ _ _ _).mpr (hr y8 S hI _ (fun y8' S' hI' hm=>⟨_,_,Wk.refl _ _,⟨rfl,_,rfl,hI'⟩,hm⟩))
def c80:Code:=(Tryz.f80.body).getD .skip
def ms80:List (List Nat):=[[]]
def m80(x0 x1:AV)(S:Store)(Q:PoT):Prop:=
 callF Pg 106 [x0,x1] S Q fun a S=>bin .geq 0 a (.v (.int .i64 0)) S fun c S=>Q (.ret c) S
theorem calls80{x0 x1:AV}{S:Store}{Q:PoT}(h:m80 x0 x1 S Q):ACalls Pg 80 [x0,x1] S Q:=
 calls_of_vc (fn:=Tryz.f80) (c:=c80) (n:=9) Tryz.func80 (by kernel_rfl) (by kernel_rfl) (by kernel_rfl) ms80 (Eq.mpr (by kernel_rfl) h)
def c33:Code:=(Tryz.f33.body).getD .skip
def r33:List ResultVar:=Tryz.f33.results.toList
def env33_0(y1 y3 y14:AV):List AV:=[y1,y3,y14]
def lv33_0:List Nat:=[1,3,14]
def env33_1(y1 y6 y44 y45:AV):List AV:=[y1,y6,y44,y45]
def lv33_1:List Nat:=[1,6,44,45]
def ms33:List (List Nat):=[lv33_0,lv33_1,[]]
def m33(x0:AV)(S:Store)(Q:PoT):Prop:=
 boxN 29 8 x0 S fun c S=>ldN 8 c S fun d S=>callF Pg 74 [d] S Q fun e S=>boxN 70 2 (.a [.v (.int .i64 0),.nl]) S fun f S=>stN 2 f e S fun g S=>ldN 8 c S fun h S=>callF Pg 75 [h] S Q fun i S=>rngM i S fun k S=>loopV lv33_0 (vc Pg (c33.at_ [1,1,0,1,0,0]) (ms33.drop 1)) 54 (env33_0 c f k) S (blockK 0 (seqK (vc Pg (c33.at_ [1,1,1]) (ms33.drop 1)) (bodyK Pg r33 Q)))
theorem calls33{x0:AV}{S:Store}{Q:PoT}(h:m33 x0 S Q):ACalls Pg 33 [x0] S Q:=
 calls_of_vc (fn:=Tryz.f33) (c:=c33) (n:=54) Tryz.func33 (by kernel_rfl) (by kernel_rfl) (by kernel_rfl) ms33 (Eq.mpr (by kernel_rfl) h)
def b33_0(y1 y3 y14:AV)(S:Store)(KE0:KeT)(Q:PoT):Prop:=
 nextM false y14 S fun a S=>extr a 0 S fun c S=>onB c fun b=>gd b (entryM y14 S fun d S=>extr d 1 S fun e S=>bin .lss 0 e (.v (.int .i64 0)) S fun g S=>onB g fun b=>gd b (Q (.ret (.v (.bool false))) S) (bin .gtr 0 e (.v (.int .i64 2000)) S fun h S=>onB h fun b=>gd b (Q (.ret (.v (.bool false))) S) (KE0 54 (env33_0 y1 y3 y14) S))) (boxN 105 1 (.v .nilFunc) S fun i S=>stN 1 i (.f (.func 76) [] [y3]) S fun k S=>ldN 2 y3 S fun l S=>callF Pg 79 [l] S Q fun m S=>un .not m S fun n S=>onB n fun b=>gd b (Q (.ret (.v (.bool false))) S) (shift y1 1 S fun o S=>ld1 o S fun p S=>callF Pg 80 [p,(.f (.func 78) [] [i])] S Q fun q S=>onB q fun b=>gd b (Q (.ret (.v (.bool false))) S) (shift y1 3 S fun r S=>ld1 r S fun s S=>shift y1 4 S fun t S=>ld1 t S fun u S=>shift y1 5 S fun w S=>ld1 w S fun x S=>shift y1 6 S fun y S=>ld1 y S fun z S=>bld [(0,1),(1,1),(2,1),(3,1)] [.nl,.nl,.nl,.nl] [(0,s),(1,u),(2,x),(3,z)] S fun A S=>loopV lv33_1 (vc Pg (c33.at_ [1,1,1,1,1,1,0,1,0,0]) (ms33.drop 2)) 54 (env33_1 y1 i A (.v (.int .i64 0))) S (blockK 2 (seqK (vc Pg (c33.at_ [1,1,1,1,1,1,1]) (ms33.drop 2)) (bodyK Pg r33 Q))))))
theorem b33_0_eq(y1 y3 y14:AV)(S:Store)(KE0:KeT)(Q:PoT):vc Pg (c33.at_ [1,1,0,1,0,0]) (ms33.drop 1) (mkE 54 lv33_0 (env33_0 y1 y3 y14)) S (thenK (fgK lv33_0 KE0) (blockK 0 (seqK (vc Pg (c33.at_ [1,1,1]) (ms33.drop 1)) (bodyK Pg r33 Q))))=b33_0 y1 y3 y14 S KE0 Q:=by kernel_rfl
theorem loop33_0{y1 y3 y14:AV}{S:Store}{Q:PoT}(I:Store→Prop)(μ:Store→Nat)(h0:I  S)
    (hr:∀(S:Store),I  S→∀ KE0:KeT,(∀(S':Store),I  S'→μ  S'<μ  S→KE0 54 (env33_0 y1 y3 y14) S')→b33_0 y1 y3 y14 S KE0 Q):
    loopV lv33_0 (vc Pg (c33.at_ [1,1,0,1,0,0]) (ms33.drop 1)) 54 (env33_0 y1 y3 y14) S (blockK 0 (seqK (vc Pg (c33.at_ [1,1,1]) (ms33.drop 1)) (bodyK Pg r33 Q))):=by
 refine⟨fun n e S=>n=54∧e=(env33_0 y1 y3 y14)∧I  S,fun _ e S=>μ  S,?_,?_⟩
 ·exact⟨_,_,Wk.refl _ _,rfl,rfl,h0⟩
 ·rintro _ e S ⟨rfl,rfl,hI⟩
  exact(b33_0_eq _ _ _ _ _ _).mpr (hr  S hI _ (fun  S' hI' hm=>⟨_,_,Wk.refl _ _,⟨rfl,rfl,hI'⟩,hm⟩))
def b33_1(y1 y6 y44 y45:AV)(S:Store)(KE1:KeT)(Q:PoT):Prop:=
 bin .lss 0 y45 (.v (.int .i64 4)) S fun a S=>onB a fun b=>gd b (optP (intA y45) fun z39=>(0≤z39∧z39<((4:Nat):Int))∧part1 y44 (z39.toNat*1) S fun c S=>ld1 y6 S fun d S=>callF Pg 81 [c,d] S Q fun e S=>onB e fun b=>gd b (Q (.ret (.v (.bool false))) S) (bin .add 0 y45 (.v (.int .i64 1)) S fun f S=>KE1 54 (env33_1 y1 y6 y44 f) S)) (ldN 8 y1 S fun g S=>callF Pg 82 [g] S Q fun h S=>Q (.ret h) S)
theorem b33_1_eq(y1 y6 y44 y45:AV)(S:Store)(KE1:KeT)(Q:PoT):vc Pg (c33.at_ [1,1,1,1,1,1,0,1,0,0]) (ms33.drop 2) (mkE 54 lv33_1 (env33_1 y1 y6 y44 y45)) S (thenK (fgK lv33_1 KE1) (blockK 2 (seqK (vc Pg (c33.at_ [1,1,1,1,1,1,1]) (ms33.drop 2)) (bodyK Pg r33 Q))))=b33_1 y1 y6 y44 y45 S KE1 Q:=by kernel_rfl
theorem loop33_1{y1 y6 y44:AV}{y450:AV}{S:Store}{Q:PoT}(I:AV→Store→Prop)(μ:AV→Store→Nat)(h0:I y450 S)
    (hr:∀(y45:AV) (S:Store),I y45 S→∀ KE1:KeT,(∀(y45':AV) (S':Store),I y45' S'→μ y45' S'<μ y45 S→KE1 54 (env33_1 y1 y6 y44 y45') S')→b33_1 y1 y6 y44 y45 S KE1 Q):
    loopV lv33_1 (vc Pg (c33.at_ [1,1,1,1,1,1,0,1,0,0]) (ms33.drop 2)) 54 (env33_1 y1 y6 y44 y450) S (blockK 2 (seqK (vc Pg (c33.at_ [1,1,1,1,1,1,1]) (ms33.drop 2)) (bodyK Pg r33 Q))):=by
 refine⟨fun n e S=>n=54∧∃ y45:AV,e=(env33_1 y1 y6 y44 y45)∧I y45 S,fun _ e S=>μ (e.getD 3 .j) S,?_,?_⟩
 ·exact⟨_,_,Wk.refl _ _,rfl,_,rfl,h0⟩
 ·rintro _ e S ⟨rfl,y45,rfl,hI⟩
  exact(b33_1_eq _ _ _ _ _ _ _).mpr (hr y45 S hI _ (fun y45' S' hI' hm=>⟨_,_,Wk.refl _ _,⟨rfl,_,rfl,hI'⟩,hm⟩))
def c89:Code:=(Tryz.f89.body).getD .skip
def r89:List ResultVar:=Tryz.f89.results.toList
def env89_0(y1 y3:AV):List AV:=[y1,y3]
def lv89_0:List Nat:=[1,3]
def env89_1(y1 y3 y4 y5:AV):List AV:=[y1,y3,y4,y5]
def lv89_1:List Nat:=[1,3,4,5]
def ms89:List (List Nat):=[lv89_0,lv89_1,[]]
def m89(x0:AV)(S:Store)(Q:PoT):Prop:=
 boxN 29 8 x0 S fun a S=>loopV lv89_0 (vc Pg (c89.at_ [1,0,1,0,0]) (ms89.drop 1)) 85 (env89_0 a (.v (.int .i64 0))) S (blockK 0 (seqK (vc Pg (c89.at_ [1,1]) (ms89.drop 2)) (bodyK Pg r89 Q)))
theorem calls89{x0:AV}{S:Store}{Q:PoT}(h:m89 x0 S Q):ACalls Pg 89 [x0] S Q:=
 calls_of_vc (fn:=Tryz.f89) (c:=c89) (n:=85) Tryz.func89 (by kernel_rfl) (by kernel_rfl) (by kernel_rfl) ms89 (Eq.mpr (by kernel_rfl) h)
def b89_0(y1 y3:AV)(S:Store)(KE0:KeT)(Q:PoT):Prop:=
 shift y1 7 S fun c S=>ld1 c S fun d S=>lenS d S fun e S=>bin .lss 0 y3 e S fun f S=>onB f fun b=>gd b (shift y1 7 S fun g S=>ld1 g S fun h S=>ixS 75 3 h y3 S fun i S=>ldN 3 i S fun k S=>boxN 75 3 (.a [.v (.int .u8 0),.v (.int .i64 0),.v (.string ByteArray.empty)]) S fun l S=>stN 3 l k S fun m S=>(fun S0:Store=>∃ n:AV,(shift l 2 S fun o S=>o=n∧S=S0)∧∃ p:AV,(ld1 n S fun q S=>q=p∧S=S0)∧∃ r:AV,(callF Pg 115 [p] S (fun _ _=>False) fun s S=>s=r∧S=S0)∧∃ t:AV,(un .not r S fun u S=>u=t∧S=S0)∧onB t fun b=>gd b (∃ w:AV,((.v (.bool true))=w∧S=S0)∧onB w fun b=>gd b (∃ x:AV,((.v (.bool true))=x∧S=S0)∧onB x fun b=>gd b (Q (.ret (.v (.bool false))) S) (loopV lv89_1 (vc Pg (c89.at_ [1,0,1,0,0,1,0,0,1,1,0,1,0,0]) (ms89.drop 2)) 85 (env89_1 y1 y3 l (.v (.int .i64 0))) S (blockK 2 (seqK (vc Pg (c89.at_ [1,0,1,0,0,1,0,0,1,1,1]) (ms89.drop 2)) (blockK 1 (seqK (vc Pg (c89.at_ [1,0,1,0,0,1,1]) (ms89.drop 2)) (thenK (fgK lv89_0 KE0) (blockK 0 (seqK (vc Pg (c89.at_ [1,1]) (ms89.drop 2)) (bodyK Pg r89 Q)))))))))) (∃ y:AV,(shift l 1 S fun z S=>z=y∧S=S0)∧∃ A:AV,(ld1 y S fun B S=>B=A∧S=S0)∧∃ C:AV,(ldN 8 y1 S fun D S=>D=C∧S=S0)∧∃ E:AV,(shift l 0 S fun F S=>F=E∧S=S0)∧∃ G:AV,(ld1 E S fun H S=>H=G∧S=S0)∧∃ I:AV,(callF Pg 116 [C,G] S (fun _ _=>False) fun J S=>J=I∧S=S0)∧∃ K:AV,(bin .geq 0 A I S fun L S=>L=K∧S=S0)∧∃ M:AV,(K=M∧S=S0)∧onB M fun b=>gd b (Q (.ret (.v (.bool false))) S) (loopV lv89_1 (vc Pg (c89.at_ [1,0,1,0,0,1,0,0,1,1,0,1,0,0]) (ms89.drop 2)) 85 (env89_1 y1 y3 l (.v (.int .i64 0))) S (blockK 2 (seqK (vc Pg (c89.at_ [1,0,1,0,0,1,0,0,1,1,1]) (ms89.drop 2)) (blockK 1 (seqK (vc Pg (c89.at_ [1,0,1,0,0,1,1]) (ms89.drop 2)) (thenK (fgK lv89_0 KE0) (blockK 0 (seqK (vc Pg (c89.at_ [1,1]) (ms89.drop 2)) (bodyK Pg r89 Q))))))))))) (∃ N:AV,(shift l 1 S fun O S=>O=N∧S=S0)∧∃ P:AV,(ld1 N S fun R S=>R=P∧S=S0)∧∃ T:AV,(bin .lss 0 P (.v (.int .i64 0)) S fun U S=>U=T∧S=S0)∧∃ V:AV,(T=V∧S=S0)∧onB V fun b=>gd b (∃ W:AV,((.v (.bool true))=W∧S=S0)∧onB W fun b=>gd b (Q (.ret (.v (.bool false))) S) (loopV lv89_1 (vc Pg (c89.at_ [1,0,1,0,0,1,0,0,1,1,0,1,0,0]) (ms89.drop 2)) 85 (env89_1 y1 y3 l (.v (.int .i64 0))) S (blockK 2 (seqK (vc Pg (c89.at_ [1,0,1,0,0,1,0,0,1,1,1]) (ms89.drop 2)) (blockK 1 (seqK (vc Pg (c89.at_ [1,0,1,0,0,1,1]) (ms89.drop 2)) (thenK (fgK lv89_0 KE0) (blockK 0 (seqK (vc Pg (c89.at_ [1,1]) (ms89.drop 2)) (bodyK Pg r89 Q)))))))))) (∃ X:AV,(shift l 1 S fun Y S=>Y=X∧S=S0)∧∃ Z:AV,(ld1 X S fun a0 S=>a0=Z∧S=S0)∧∃ a1:AV,(ldN 8 y1 S fun a2 S=>a2=a1∧S=S0)∧∃ a3:AV,(shift l 0 S fun a4 S=>a4=a3∧S=S0)∧∃ a5:AV,(ld1 a3 S fun a6 S=>a6=a5∧S=S0)∧∃ a7:AV,(callF Pg 116 [a1,a5] S (fun _ _=>False) fun a8 S=>a8=a7∧S=S0)∧∃ a9:AV,(bin .geq 0 Z a7 S fun b0 S=>b0=a9∧S=S0)∧∃ b1:AV,(a9=b1∧S=S0)∧onB b1 fun b=>gd b (Q (.ret (.v (.bool false))) S) (loopV lv89_1 (vc Pg (c89.at_ [1,0,1,0,0,1,0,0,1,1,0,1,0,0]) (ms89.drop 2)) 85 (env89_1 y1 y3 l (.v (.int .i64 0))) S (blockK 2 (seqK (vc Pg (c89.at_ [1,0,1,0,0,1,0,0,1,1,1]) (ms89.drop 2)) (blockK 1 (seqK (vc Pg (c89.at_ [1,0,1,0,0,1,1]) (ms89.drop 2)) (thenK (fgK lv89_0 KE0) (blockK 0 (seqK (vc Pg (c89.at_ [1,1]) (ms89.drop 2)) (bodyK Pg r89 Q)))))))))))) S) (Q (.ret (.v (.bool true))) S)
theorem b89_0_eq(y1 y3:AV)(S:Store)(KE0:KeT)(Q:PoT):vc Pg (c89.at_ [1,0,1,0,0]) (ms89.drop 1) (mkE 85 lv89_0 (env89_0 y1 y3)) S (thenK (fgK lv89_0 KE0) (blockK 0 (seqK (vc Pg (c89.at_ [1,1]) (ms89.drop 2)) (bodyK Pg r89 Q))))=b89_0 y1 y3 S KE0 Q:=by kernel_rfl
theorem loop89_0{y1:AV}{y30:AV}{S:Store}{Q:PoT}(I:AV→Store→Prop)(μ:AV→Store→Nat)(h0:I y30 S)
    (hr:∀(y3:AV) (S:Store),I y3 S→∀ KE0:KeT,(∀(y3':AV) (S':Store),I y3' S'→μ y3' S'<μ y3 S→KE0 85 (env89_0 y1 y3') S')→b89_0 y1 y3 S KE0 Q):
    loopV lv89_0 (vc Pg (c89.at_ [1,0,1,0,0]) (ms89.drop 1)) 85 (env89_0 y1 y30) S (blockK 0 (seqK (vc Pg (c89.at_ [1,1]) (ms89.drop 2)) (bodyK Pg r89 Q))):=by
 refine⟨fun n e S=>n=85∧∃ y3:AV,e=(env89_0 y1 y3)∧I y3 S,fun _ e S=>μ (e.getD 1 .j) S,?_,?_⟩
 ·exact⟨_,_,Wk.refl _ _,rfl,_,rfl,h0⟩
 ·rintro _ e S ⟨rfl,y3,rfl,hI⟩
  exact(b89_0_eq _ _ _ _ _).mpr (hr y3 S hI _ (fun y3' S' hI' hm=>⟨_,_,Wk.refl _ _,⟨rfl,_,rfl,hI'⟩,hm⟩))
def b89_1(y1 y3 y4 y5:AV)(S:Store)(KE1:KeT)(KE0:KeT)(Q:PoT):Prop:=
 bin .lss 0 y5 y3 S fun a S=>onB a fun b=>gd b ((fun S0:Store=>∃ c:AV,(shift y1 7 S fun d S=>d=c∧S=S0)∧∃ e:AV,(ld1 c S fun f S=>f=e∧S=S0)∧∃ g:AV,(ixS 75 3 e y5 S fun h S=>h=g∧S=S0)∧∃ i:AV,(shift g 2 S fun k S=>k=i∧S=S0)∧∃ l:AV,(ld1 i S fun m S=>m=l∧S=S0)∧∃ n:AV,(shift y4 2 S fun o S=>o=n∧S=S0)∧∃ p:AV,(ld1 n S fun q S=>q=p∧S=S0)∧∃ r:AV,(bin .eql 0 l p S fun s S=>s=r∧S=S0)∧onB r fun b=>gd b (Q (.ret (.v (.bool false))) S) (bin .add 0 y5 (.v (.int .i64 1)) S fun t S=>KE1 85 (env89_1 y1 y3 y4 t) S)) S) (bin .gtr 0 y3 (.v (.int .i64 0)) S fun u S=>onB u fun b=>gd b ((fun S0:Store=>∃ w:AV,(shift y1 7 S fun x S=>x=w∧S=S0)∧∃ y:AV,(ld1 w S fun z S=>z=y∧S=S0)∧∃ A:AV,(bin .sub 0 y3 (.v (.int .i64 1)) S fun B S=>B=A∧S=S0)∧∃ C:AV,(ixS 75 3 y A S fun D S=>D=C∧S=S0)∧∃ E:AV,(shift C 0 S fun F S=>F=E∧S=S0)∧∃ G:AV,(ld1 E S fun H S=>H=G∧S=S0)∧∃ I:AV,(callF Pg 117 [G] S (fun _ _=>False) fun J S=>J=I∧S=S0)∧∃ K:AV,(shift y4 0 S fun L S=>L=K∧S=S0)∧∃ M:AV,(ld1 K S fun N S=>N=M∧S=S0)∧∃ O:AV,(callF Pg 117 [M] S (fun _ _=>False) fun P S=>P=O∧S=S0)∧(fun S0:Store=>∃ R:AV,(bin .gtr 0 I O S fun T S=>T=R∧S=S0)∧onB R fun b=>gd b (∃ U:AV,((.v (.bool true))=U∧S=S0)∧onB U fun b=>gd b (Q (.ret (.v (.bool false))) S) (bin .add 0 y3 (.v (.int .i64 1)) S fun V S=>KE0 85 (env89_0 y1 V) S)) (∃ W:AV,(bin .eql 0 I O S fun X S=>X=W∧S=S0)∧onB W fun b=>gd b (∃ Y:AV,(shift y1 7 S fun Z S=>Z=Y∧S=S0)∧∃ a0:AV,(ld1 Y S fun a1 S=>a1=a0∧S=S0)∧∃ a2:AV,(bin .sub 0 y3 (.v (.int .i64 1)) S fun a3 S=>a3=a2∧S=S0)∧∃ a4:AV,(ixS 75 3 a0 a2 S fun a5 S=>a5=a4∧S=S0)∧∃ a6:AV,(shift a4 1 S fun a7 S=>a7=a6∧S=S0)∧∃ a8:AV,(ld1 a6 S fun a9 S=>a9=a8∧S=S0)∧∃ b0:AV,(shift y4 1 S fun b1 S=>b1=b0∧S=S0)∧∃ b2:AV,(ld1 b0 S fun b3 S=>b3=b2∧S=S0)∧∃ b4:AV,(bin .geq 0 a8 b2 S fun b5 S=>b5=b4∧S=S0)∧∃ b6:AV,(b4=b6∧S=S0)∧∃ b7:AV,(b6=b7∧S=S0)∧onB b7 fun b=>gd b (Q (.ret (.v (.bool false))) S) (bin .add 0 y3 (.v (.int .i64 1)) S fun b8 S=>KE0 85 (env89_0 y1 b8) S)) (∃ b9:AV,((.v (.bool false))=b9∧S=S0)∧∃ c0:AV,(b9=c0∧S=S0)∧onB c0 fun b=>gd b (Q (.ret (.v (.bool false))) S) (bin .add 0 y3 (.v (.int .i64 1)) S fun c1 S=>KE0 85 (env89_0 y1 c1) S)))) S) S) (bin .add 0 y3 (.v (.int .i64 1)) S fun c2 S=>KE0 85 (env89_0 y1 c2) S))
theorem b89_1_eq(y1 y3 y4 y5:AV)(S:Store)(KE1:KeT)(KE0:KeT)(Q:PoT):vc Pg (c89.at_ [1,0,1,0,0,1,0,0,1,1,0,1,0,0]) (ms89.drop 2) (mkE 85 lv89_1 (env89_1 y1 y3 y4 y5)) S (thenK (fgK lv89_1 KE1) (blockK 2 (seqK (vc Pg (c89.at_ [1,0,1,0,0,1,0,0,1,1,1]) (ms89.drop 2)) (blockK 1 (seqK (vc Pg (c89.at_ [1,0,1,0,0,1,1]) (ms89.drop 2)) (thenK (fgK lv89_0 KE0) (blockK 0 (seqK (vc Pg (c89.at_ [1,1]) (ms89.drop 2)) (bodyK Pg r89 Q)))))))))=b89_1 y1 y3 y4 y5 S KE1 KE0 Q:=by kernel_rfl
theorem loop89_1{y1 y3 y4:AV}{y50:AV}{S:Store}{KE0:KeT}{Q:PoT}(I:AV→Store→Prop)(μ:AV→Store→Nat)(h0:I y50 S)
    (hr:∀(y5:AV) (S:Store),I y5 S→∀ KE1:KeT,(∀(y5':AV) (S':Store),I y5' S'→μ y5' S'<μ y5 S→KE1 85 (env89_1 y1 y3 y4 y5') S')→b89_1 y1 y3 y4 y5 S KE1 KE0 Q):
    loopV lv89_1 (vc Pg (c89.at_ [1,0,1,0,0,1,0,0,1,1,0,1,0,0]) (ms89.drop 2)) 85 (env89_1 y1 y3 y4 y50) S (blockK 2 (seqK (vc Pg (c89.at_ [1,0,1,0,0,1,0,0,1,1,1]) (ms89.drop 2)) (blockK 1 (seqK (vc Pg (c89.at_ [1,0,1,0,0,1,1]) (ms89.drop 2)) (thenK (fgK lv89_0 KE0) (blockK 0 (seqK (vc Pg (c89.at_ [1,1]) (ms89.drop 2)) (bodyK Pg r89 Q)))))))):=by
 refine⟨fun n e S=>n=85∧∃ y5:AV,e=(env89_1 y1 y3 y4 y5)∧I y5 S,fun _ e S=>μ (e.getD 3 .j) S,?_,?_⟩
 ·exact⟨_,_,Wk.refl _ _,rfl,_,rfl,h0⟩
 ·rintro _ e S ⟨rfl,y5,rfl,hI⟩
  exact(b89_1_eq _ _ _ _ _ _ _ _).mpr (hr y5 S hI _ (fun y5' S' hI' hm=>⟨_,_,Wk.refl _ _,⟨rfl,_,rfl,hI'⟩,hm⟩))
def c88:Code:=(Tryz.f88.body).getD .skip
def r88:List ResultVar:=Tryz.f88.results.toList
def env88_0(y1 y2 y5:AV):List AV:=[y1,y2,y5]
def lv88_0:List Nat:=[1,2,5]
def ms88:List (List Nat):=[lv88_0,[]]
def m88(x0 x1:AV)(S:Store)(Q:PoT):Prop:=
 boxN 70 2 x0 S fun a S=>loopV lv88_0 (vc Pg (c88.at_ [1,0,1,0,0]) (ms88.drop 1)) 22 (env88_0 x1 a (.v (.int .i64 0))) S (blockK 0 (seqK (vc Pg (c88.at_ [1,1]) (ms88.drop 1)) (bodyK Pg r88 Q)))
theorem calls88{x0 x1:AV}{S:Store}{Q:PoT}(h:m88 x0 x1 S Q):ACalls Pg 88 [x0,x1] S Q:=
 calls_of_vc (fn:=Tryz.f88) (c:=c88) (n:=22) Tryz.func88 (by kernel_rfl) (by kernel_rfl) (by kernel_rfl) ms88 (Eq.mpr (by kernel_rfl) h)
def b88_0(y1 y2 y5:AV)(S:Store)(KE0:KeT)(Q:PoT):Prop:=
 lenS y1 S fun a S=>bin .lss 0 y5 a S fun c S=>onB c fun b=>gd b ((fun S0:Store=>∃ d:AV,(ldN 2 y2 S fun e S=>e=d∧S=S0)∧∃ f:AV,(ixS 3 1 y1 y5 S fun g S=>g=f∧S=S0)∧∃ h:AV,(ld1 f S fun i S=>i=h∧S=S0)∧∃ k:AV,(callF Pg 87 [d,h] S (fun _ _=>False) fun l S=>l=k∧S=S0)∧∃ m:AV,(un .not k S fun n S=>n=m∧S=S0)∧onB m fun b=>gd b (Q (.ret (.v (.bool false))) S) (bin .add 0 y5 (.v (.int .i64 1)) S fun o S=>KE0 22 (env88_0 y1 y2 o) S)) S) (lenS y1 S fun p S=>bin .leq 0 p (.v (.int .i64 2000)) S fun q S=>Q (.ret q) S)
theorem b88_0_eq(y1 y2 y5:AV)(S:Store)(KE0:KeT)(Q:PoT):vc Pg (c88.at_ [1,0,1,0,0]) (ms88.drop 1) (mkE 22 lv88_0 (env88_0 y1 y2 y5)) S (thenK (fgK lv88_0 KE0) (blockK 0 (seqK (vc Pg (c88.at_ [1,1]) (ms88.drop 1)) (bodyK Pg r88 Q))))=b88_0 y1 y2 y5 S KE0 Q:=by kernel_rfl
theorem loop88_0{y1 y2:AV}{y50:AV}{S:Store}{Q:PoT}(I:AV→Store→Prop)(μ:AV→Store→Nat)(h0:I y50 S)
    (hr:∀(y5:AV) (S:Store),I y5 S→∀ KE0:KeT,(∀(y5':AV) (S':Store),I y5' S'→μ y5' S'<μ y5 S→KE0 22 (env88_0 y1 y2 y5') S')→b88_0 y1 y2 y5 S KE0 Q):
    loopV lv88_0 (vc Pg (c88.at_ [1,0,1,0,0]) (ms88.drop 1)) 22 (env88_0 y1 y2 y50) S (blockK 0 (seqK (vc Pg (c88.at_ [1,1]) (ms88.drop 1)) (bodyK Pg r88 Q))):=by
 refine⟨fun n e S=>n=22∧∃ y5:AV,e=(env88_0 y1 y2 y5)∧I y5 S,fun _ e S=>μ (e.getD 2 .j) S,?_,?_⟩
 ·exact⟨_,_,Wk.refl _ _,rfl,_,rfl,h0⟩
 ·rintro _ e S ⟨rfl,y5,rfl,hI⟩
  exact(b88_0_eq _ _ _ _ _ _).mpr (hr y5 S hI _ (fun y5' S' hI' hm=>⟨_,_,Wk.refl _ _,⟨rfl,_,rfl,hI'⟩,hm⟩))
def c82:Code:=(Tryz.f82.body).getD .skip
def r82:List ResultVar:=Tryz.f82.results.toList
def env82_0(y1 y3 y4 y12 y13 y14:AV):List AV:=[y1,y3,y4,y12,y13,y14]
def lv82_0:List Nat:=[1,3,4,12,13,14]
def ms82:List (List Nat):=[lv82_0,[]]
def m82(x0:AV)(S:Store)(Q:PoT):Prop:=
 boxN 29 8 x0 S fun a S=>ldN 8 a S fun c S=>callF Pg 75 [c] S Q fun d S=>mkM .s S fun e S=>shift a 7 S fun f S=>ld1 f S fun g S=>lenS g S fun h S=>loopV lv82_0 (vc Pg (c82.at_ [1,1,1,0,1,0,0]) (ms82.drop 1)) 78 (env82_0 a d e g h (.v (.int .i64 0))) S (blockK 0 (seqK (vc Pg (c82.at_ [1,1,1,1]) (ms82.drop 1)) (bodyK Pg r82 Q)))
theorem calls82{x0:AV}{S:Store}{Q:PoT}(h:m82 x0 S Q):ACalls Pg 82 [x0] S Q:=
 calls_of_vc (fn:=Tryz.f82) (c:=c82) (n:=78) Tryz.func82 (by kernel_rfl) (by kernel_rfl) (by kernel_rfl) ms82 (Eq.mpr (by kernel_rfl) h)
def b82_0(y1 y3 y4 y12 y13 y14:AV)(S:Store)(KE0:KeT)(Q:PoT):Prop:=
 bin .lss 0 y14 y13 S fun c S=>onB c fun b=>gd b (ixS 75 3 y12 y14 S fun d S=>ldN 3 d S fun e S=>boxN 75 3 (.a [.v (.int .u8 0),.v (.int .i64 0),.v (.string ByteArray.empty)]) S fun f S=>stN 3 f e S fun g S=>shift f 2 S fun h S=>ld1 h S fun k S=>callF Pg 108 [k] S Q fun l S=>un .not l S fun m S=>onB m fun b=>gd b (Q (.ret (.v (.bool false))) S) (shift f 0 S fun n S=>ld1 n S fun o S=>callF Pg 109 [o] S Q fun p S=>bin .lss 0 p (.v (.int .i64 0)) S fun q S=>onB q fun b=>gd b (Q (.ret (.v (.bool false))) S) (shift f 1 S fun r S=>ld1 r S fun t S=>bin .lss 0 t (.v (.int .i64 0)) S fun u S=>onB u fun b=>gd b (Q (.ret (.v (.bool false))) S) (shift f 1 S fun w S=>ld1 w S fun x S=>shift f 0 S fun y S=>ld1 y S fun z S=>convI .i32 z S fun A S=>lkM (.i .i32) (.v (.int .i64 0)) false y3 A S fun B S=>bin .geq 0 x B S fun C S=>onB C fun b=>gd b (Q (.ret (.v (.bool false))) S) (shift f 2 S fun D S=>ld1 D S fun E S=>bld [] [] [] S fun F S=>updM .s y4 E F S fun G S=>bin .eql 0 y14 (.v (.int .i64 0)) S fun H S=>onB H fun b=>gd b (bin .add 0 y14 (.v (.int .i64 1)) S fun I S=>KE0 78 (env82_0 y1 y3 y4 y12 y13 I) S) (shift y1 7 S fun J S=>ld1 J S fun K S=>bin .sub 0 y14 (.v (.int .i64 1)) S fun L S=>ixS 75 3 K L S fun M S=>ldN 3 M S fun N S=>boxN 75 3 (.a [.v (.int .u8 0),.v (.int .i64 0),.v (.string ByteArray.empty)]) S fun O S=>stN 3 O N S fun P S=>(fun S0:Store=>∃ R:AV,(shift O 0 S fun T S=>T=R∧S=S0)∧∃ U:AV,(ld1 R S fun V S=>V=U∧S=S0)∧∃ W:AV,(callF Pg 109 [U] S (fun _ _=>False) fun X S=>X=W∧S=S0)∧∃ Y:AV,(shift f 0 S fun Z S=>Z=Y∧S=S0)∧∃ a0:AV,(ld1 Y S fun a1 S=>a1=a0∧S=S0)∧∃ a2:AV,(callF Pg 109 [a0] S (fun _ _=>False) fun a3 S=>a3=a2∧S=S0)∧∃ a4:AV,(callF Pg 111 [W,a2] S (fun _ _=>False) fun a5 S=>a5=a4∧S=S0)∧∃ a6:AV,(shift O 1 S fun a7 S=>a7=a6∧S=S0)∧∃ a8:AV,(ld1 a6 S fun a9 S=>a9=a8∧S=S0)∧∃ b0:AV,(shift f 1 S fun b1 S=>b1=b0∧S=S0)∧∃ b2:AV,(ld1 b0 S fun b3 S=>b3=b2∧S=S0)∧∃ b4:AV,(callF Pg 111 [a8,b2] S (fun _ _=>False) fun b5 S=>b5=b4∧S=S0)∧∃ b6:AV,(bslN 3 1 2 [.v (.int .i64 0)] [(0,a4),(1,b4)] S fun b7 S=>b7=b6∧S=S0)∧∃ b8:AV,(callF Pg 110 [b6] S (fun _ _=>False) fun c0 S=>c0=b8∧S=S0)∧∃ c1:AV,(bin .geq 0 b8 (.v (.int .i64 0)) S fun c2 S=>c2=c1∧S=S0)∧onB c1 fun b=>gd b (Q (.ret (.v (.bool false))) S) (bin .add 0 y14 (.v (.int .i64 1)) S fun c3 S=>KE0 78 (env82_0 y1 y3 y4 y12 y13 c3) S)) S)))))) (lenM y4 S fun c4 S=>shift y1 7 S fun c5 S=>ld1 c5 S fun c6 S=>lenS c6 S fun c7 S=>bin .eql 0 c4 c7 S fun c8 S=>Q (.ret c8) S)
theorem b82_0_eq(y1 y3 y4 y12 y13 y14:AV)(S:Store)(KE0:KeT)(Q:PoT):vc Pg (c82.at_ [1,1,1,0,1,0,0]) (ms82.drop 1) (mkE 78 lv82_0 (env82_0 y1 y3 y4 y12 y13 y14)) S (thenK (fgK lv82_0 KE0) (blockK 0 (seqK (vc Pg (c82.at_ [1,1,1,1]) (ms82.drop 1)) (bodyK Pg r82 Q))))=b82_0 y1 y3 y4 y12 y13 y14 S KE0 Q:=by kernel_rfl
theorem loop82_0{y1 y3 y4 y12 y13:AV}{y140:AV}{S:Store}{Q:PoT}(I:AV→Store→Prop)(μ:AV→Store→Nat)(h0:I y140 S)
    (hr:∀(y14:AV) (S:Store),I y14 S→∀ KE0:KeT,(∀(y14':AV) (S':Store),I y14' S'→μ y14' S'<μ y14 S→KE0 78 (env82_0 y1 y3 y4 y12 y13 y14') S')→b82_0 y1 y3 y4 y12 y13 y14 S KE0 Q):
    loopV lv82_0 (vc Pg (c82.at_ [1,1,1,0,1,0,0]) (ms82.drop 1)) 78 (env82_0 y1 y3 y4 y12 y13 y140) S (blockK 0 (seqK (vc Pg (c82.at_ [1,1,1,1]) (ms82.drop 1)) (bodyK Pg r82 Q))):=by
 refine⟨fun n e S=>n=78∧∃ y14:AV,e=(env82_0 y1 y3 y4 y12 y13 y14)∧I y14 S,fun _ e S=>μ (e.getD 5 .j) S,?_,?_⟩
 ·exact⟨_,_,Wk.refl _ _,rfl,_,rfl,h0⟩
 ·rintro _ e S ⟨rfl,y14,rfl,hI⟩
  exact(b82_0_eq _ _ _ _ _ _ _ _ _).mpr (hr y14 S hI _ (fun y14' S' hI' hm=>⟨_,_,Wk.refl _ _,⟨rfl,_,rfl,hI'⟩,hm⟩))
def c107:Code:=(Tryz.f107.body).getD .skip
def r107:List ResultVar:=Tryz.f107.results.toList
def env107_0(y0 y1 y7 y8:AV):List AV:=[y0,y1,y7,y8]
def lv107_0:List Nat:=[0,1,7,8]
def ms107:List (List Nat):=[lv107_0,[]]
def m107(x0 x1:AV)(S:Store)(Q:PoT):Prop:=
 lenS x0 S fun a S=>loopV lv107_0 (vc Pg (c107.at_ [1,0,1,0,0]) (ms107.drop 1)) 19 (env107_0 x0 x1 a (.v (.int .i64 0))) S (blockK 0 (seqK (vc Pg (c107.at_ [1,1]) (ms107.drop 1)) (bodyK Pg r107 Q)))
theorem calls107{x0 x1:AV}{S:Store}{Q:PoT}(h:m107 x0 x1 S Q):ACalls Pg 107 [x0,x1] S Q:=
 calls_of_vc (fn:=Tryz.f107) (c:=c107) (n:=19) Tryz.func107 (by kernel_rfl) (by kernel_rfl) (by kernel_rfl) ms107 (Eq.mpr (by kernel_rfl) h)
def b107_0(y0 y1 y7 y8:AV)(S:Store)(KE0:KeT)(Q:PoT):Prop:=
 bin .lss 0 y8 y7 S fun a S=>onB a fun b=>gd b (ixS 3 1 y0 y8 S fun c S=>ld1 c S fun d S=>callV Pg y1 [d] S (fun e S=>onB e fun b=>gd b (Q (.ret y8) S) (bin .add 0 y8 (.v (.int .i64 1)) S fun f S=>KE0 19 (env107_0 y0 y1 y7 f) S)) (fun u S=>Q (.pan u) S)) (Q (.ret (.v (.int .i64 (-1)))) S)
theorem b107_0_eq(y0 y1 y7 y8:AV)(S:Store)(KE0:KeT)(Q:PoT):vc Pg (c107.at_ [1,0,1,0,0]) (ms107.drop 1) (mkE 19 lv107_0 (env107_0 y0 y1 y7 y8)) S (thenK (fgK lv107_0 KE0) (blockK 0 (seqK (vc Pg (c107.at_ [1,1]) (ms107.drop 1)) (bodyK Pg r107 Q))))=b107_0 y0 y1 y7 y8 S KE0 Q:=by kernel_rfl
theorem loop107_0{y0 y1 y7:AV}{y80:AV}{S:Store}{Q:PoT}(I:AV→Store→Prop)(μ:AV→Store→Nat)(h0:I y80 S)
    (hr:∀(y8:AV) (S:Store),I y8 S→∀ KE0:KeT,(∀(y8':AV) (S':Store),I y8' S'→μ y8' S'<μ y8 S→KE0 19 (env107_0 y0 y1 y7 y8') S')→b107_0 y0 y1 y7 y8 S KE0 Q):
    loopV lv107_0 (vc Pg (c107.at_ [1,0,1,0,0]) (ms107.drop 1)) 19 (env107_0 y0 y1 y7 y80) S (blockK 0 (seqK (vc Pg (c107.at_ [1,1]) (ms107.drop 1)) (bodyK Pg r107 Q))):=by
 refine⟨fun n e S=>n=19∧∃ y8:AV,e=(env107_0 y0 y1 y7 y8)∧I y8 S,fun _ e S=>μ (e.getD 3 .j) S,?_,?_⟩
 ·exact⟨_,_,Wk.refl _ _,rfl,_,rfl,h0⟩
 ·rintro _ e S ⟨rfl,y8,rfl,hI⟩
  exact(b107_0_eq _ _ _ _ _ _ _).mpr (hr y8 S hI _ (fun y8' S' hI' hm=>⟨_,_,Wk.refl _ _,⟨rfl,_,rfl,hI'⟩,hm⟩))
def c81:Code:=(Tryz.f81.body).getD .skip
def ms81:List (List Nat):=[[]]
def m81(x0 x1:AV)(S:Store)(Q:PoT):Prop:=
 callF Pg 107 [x0,x1] S Q fun a S=>bin .geq 0 a (.v (.int .i64 0)) S fun c S=>Q (.ret c) S
theorem calls81{x0 x1:AV}{S:Store}{Q:PoT}(h:m81 x0 x1 S Q):ACalls Pg 81 [x0,x1] S Q:=
 calls_of_vc (fn:=Tryz.f81) (c:=c81) (n:=9) Tryz.func81 (by kernel_rfl) (by kernel_rfl) (by kernel_rfl) ms81 (Eq.mpr (by kernel_rfl) h)
end
def idxOf(o:Option Nat):Int:=match o with|some i=>i|none=>-1
theorem find_at{α:Type}{g:α→Bool}{l:List α}{i:Nat}(hi:i<l.length)(hg:g l[i]=true)(h:∀ k (hk:k<i),g (l[k]'(Nat.lt_trans hk hi))=false):l.findIdx? g=some i:=by
 rw[List.findIdx?_eq_some_iff_getElem]
 exact⟨hi,hg,fun j hj=>by simp[h j hj]⟩
theorem find_none{α:Type}{g:α→Bool}{l:List α}(h:∀ k (hk:k<l.length),g l[k]=false):l.findIdx? g=none:=by
 rw[List.findIdx?_eq_none_iff]
 intro x hx
 obtain⟨k,hk,rfl⟩:=List.mem_iff_getElem.1 hx
 exact h k hk
theorem at107{α:Type}{f:α→AV}{l:List α}(hl:l.length≤9223372036854775807){g:α→Bool}{fn:FuncId}{fs cs:List AV}{S:Store}
    (hf:∀ x,x∈l→AnsAt Pg fn (fs ++ [f x]++cs) S (aB (g x))):AnsAt Pg 107 [aL f l,.f (.func fn) fs cs] S (aI (idxOf (l.findIdx? g))):=by
 refine calls107 ?_
 unfold m107
 rw[lenS_aL]
 refine loop107_0 (fun y S'=>S'=S∧∃ i:Nat,y=aI i∧i≤l.length∧∀ k (hk:k<l.length),k<i→g l[k]=false) (fun y _=>l.length - ((intA y).getD 0).toNat) ⟨rfl,0,rfl,Nat.zero_le _,fun k _ h=>absurd h (Nat.not_lt_zero _)⟩ ?_
 rintro _ _ ⟨rfl,i,rfl,hi,hk⟩ KE hKE
 unfold b107_0 aI
 rw[bin_lss,onB_v]
 refine gd_of (fun h=>?_) (fun h=>?_)
 ·have hlt:i<l.length:=by simpa using h
  rw[ixS_aL hlt,ld1_q]
  refine callV_at (hf _ (List.getElem_mem hlt)) ?_
  unfold aB
  rw[onB_v]
  refine gd_of (fun hg=>⟨?_,rfl⟩) (fun hg=>?_)
  ·rw[find_at hlt hg (fun k hk'=>hk k _ hk')];rfl
  ·rw[bin_add (by omega) (by omega)]
   refine hKE _ _ ⟨rfl,i+1,rfl,hlt,fun k hk1 hk2=>?_⟩ ?_
   ·by_cases e:k=i
    ·subst e;exact hg
    ·exact hk k hk1 (by omega)
   ·simp[intA,aI];omega
 ·have hge:i=l.length:=by simp at h;omega
  subst hge
  rw[find_none (fun k hk'=>hk k hk' hk')]
  exact⟨rfl,rfl⟩
theorem idx_any{α:Type}(g:α→Bool)(l:List α):decide (0≤idxOf (l.findIdx? g))=l.any g:=by
 cases h:l.findIdx? g with
 |none =>
  rw[List.findIdx?_eq_none_iff]at h
  have:l.any g=false:=by simpa[List.any_eq_false]using h
  rw[this];rfl
 |some i =>
  rw[List.findIdx?_eq_some_iff_getElem]at h
  obtain⟨hi,hg,_⟩:=h
  have:l.any g=true:=List.any_eq_true.2 ⟨_,List.getElem_mem hi,by simpa using hg⟩
  rw[this]
  simp[idxOf]
theorem at81{α:Type}{f:α→AV}{l:List α}(hl:l.length≤9223372036854775807){g:α→Bool}{fn:FuncId}{fs cs:List AV}{S:Store}
    (hf:∀ x,x∈l→AnsAt Pg fn (fs ++ [f x]++cs) S (aB (g x))):AnsAt Pg 81 [aL f l,.f (.func fn) fs cs] S (aB (l.any g)):=by
 refine calls81 ?_
 unfold m81
 refine callF_at (at107 hl hf) ?_
 unfold aI
 rw[bin_geq,idx_any]
 exact⟨rfl,rfl⟩
structure Sp where
 bits:Int
 valid:List Bool
 initial:List Bool
 next:List (List Int)
 fair:List (List Bool)
def fits(s:Sp)(l:List (List Bool)):Bool:=
 decide (s.next.length=s.valid.length) && s.fair.all (fun p=>decide (p.length=s.valid.length)) && l.all (fun p=>decide (p.length=s.valid.length)) && s.next.all (fun x=>x.all fun i=>decide (0≤i) && decide (i<s.valid.length))
def keyOf(b:ByteArray):Key:=.s b.data.toList
theorem keyOf_inj{a b:ByteArray}(h:keyOf a=keyOf b):a=b:=by
 simp only[keyOf,Key.s.injEq]at h
 exact byteArray_ext (Array.toList_inj.1 h)
theorem ins_keys{es:List (Key × AV)}{x k:Key}{v:AV}:k∈(insM es x v).map (·.1)↔k∈es.map (·.1)∨k=x:=by
 induction es with
 |nil=>simp[insM]
 |cons e es ih =>
  simp only[insM]
  split
  ·rename_i h
   subst h
   simp only[List.map_cons,List.mem_cons]
   constructor
   ·rintro(h|h)
    ·exact .inr h
    ·exact .inl (.inr h)
   ·rintro((h|h)|h)
    ·exact .inl h
    ·exact .inr h
    ·exact .inl h
  ·simp only[List.map_cons,List.mem_cons,ih,or_assoc]
theorem ins_len_in{es:List (Key × AV)}{x:Key}{v:AV}(h:x∈es.map (·.1)):(insM es x v).length=es.length:=by
 induction es with
 |nil=>simp at h
 |cons e es ih =>
  simp only[insM]
  split
  ·rfl
  ·rename_i hne
   have:x∈es.map (·.1):=by
    rcases List.mem_cons.1 h with h|h
    ·exact absurd h.symm hne
    ·exact h
   simp[ih this]
structure Tells (es:List (Key × AV)) (l:List Key):Prop where
 mem:∀ k,k∈es.map (·.1)↔k∈l
 le:es.length≤l.length
 eq:es.length=l.length↔l.Nodup
theorem Tells.nil:Tells [] []:=⟨fun k=>by simp,Nat.le_refl _,by simp⟩
theorem Tells.add{es:List (Key × AV)}{l:List Key}(h:Tells es l)(x:Key)(v:AV):Tells (insM es x v) (l ++ [x]) where
 mem k:=by rw[ins_keys,h.mem,List.mem_append,List.mem_singleton]
 le:=by
  have:=h.le
  by_cases c:x∈es.map (·.1)
  ·rw[ins_len_in c];simp;omega
  ·rw[insM_none (kix_none.2 c)];simp;omega
 eq:=by
  have hle:=h.le
  rw[List.nodup_append]
  by_cases c:x∈es.map (·.1)
  ·rw[ins_len_in c]
   constructor
   ·intro e;simp at e;omega
   ·rintro⟨_,_,h3⟩
    exact absurd rfl (h3 x ((h.mem x).1 c) x (by simp))
  ·rw[insM_none (kix_none.2 c)]
   simp only[List.length_append,List.length_singleton,Nat.add_right_cancel_iff,h.eq]
   constructor
   ·intro e
    refine⟨e,by simp,fun a ha b hb=>?_⟩
    have:b=x:=by simpa using hb
    subst this
    rintro rfl
    exact c ((h.mem _).2 ha)
   ·exact fun e=>e.1
def nameOk(c:Ci)(x:Na):Prop:=wordB x.text=true∧0≤x.pos∧x.pos<c.many x.kind
def nameLt(y x:Na):Prop:=rankI y.kind<rankI x.kind∨rankI y.kind=rankI x.kind∧y.pos<x.pos
structure NamesR (c:Ci) (n:Nat):Prop where
 ok:∀ i (h:i<c.names.length),i<n→nameOk c c.names[i]
 lt:∀ i (h:i+1<c.names.length),i+1<n→nameLt c.names[i] c.names[i+1]
 nodup:((c.names.take n).map fun x=>keyOf x.text).Nodup
open Classical in
def namesB (c:Ci):Bool:=decide (NamesR c c.names.length)
theorem NamesR.zero(c:Ci):NamesR c 0:=⟨fun _ _ h=>by omega,fun _ _ h=>by omega,by simp⟩
theorem NamesR.no_ok{c:Ci}{i:Nat}(h:i<c.names.length)(hn:¬ nameOk c c.names[i]):namesB c=false:=by
 simp only[namesB,decide_eq_false_iff_not]
 exact fun h'=>hn (h'.ok i h h)
theorem NamesR.no_lt{c:Ci}{i:Nat}(h:i+1<c.names.length)(hn:¬ nameLt c.names[i] c.names[i+1]):namesB c=false:=by
 simp only[namesB,decide_eq_false_iff_not]
 exact fun h'=>hn (h'.lt i h h)
@[simp] theorem lenS_nL(l:List Na){S:Store}{K:AV→Store→Prop}:lenS (nL l) S K=K (aI l.length) S:=by simp[nL]
theorem ixS_nL{l:List Na}{e i:Nat}{S:Store}{K:AV→Store→Prop}(h:i<l.length):ixS e 3 (nL l) (aI i) S K=K (.q l[i].row 0) S:=by
 unfold nL
 rw[ixS_l (by simpa using h) (by simp[Na.row])]
 simp
theorem ldN_q3{u v z:AV}{S:Store}{K:AV→Store→Prop}:ldN 3 (.q [u,v,z] 0) S K=K (.a [u,v,z]) S:=by simp[ldN,rdN,place]
theorem keyS(b:ByteArray):keyA .s (.v (.string b))=some (keyOf b):=rfl
theorem lkM_mt{S:Store}{kk:KK}{z:AV}{c:Bool}{k:AV}{key:Key}{es:List (Key × AV)}{K:AV→Store→Prop}(hk:keyA kk k=some key):lkM kk z c (.mt kk es) k S K=K (lkV z c (lkp es key)) S:=by
 simp[lkM,entsA,hk]
theorem lkV_many(c:Ci)(k:Int):lkV (aI 0) false (lkp c.manyE (.i k))=aI (c.many k):=lkp_many c k
theorem wrap32{k:Int}(h0:0≤k)(h1:k<256):IntKind.i32.wrap k=k:=by rw[IntKind.wrap_i32];omega
theorem ans82{c:Ci}(hc:c.ok):Ans Pg 82 [c.av] (aB (namesB c)):=by
 intro S
 refine ACalls.ans_v (calls82 ?_)
 have hlen:=hc.nlen
 unfold m82
 refine boxA_of rfl fun S1 k1 n1 o1=>?_
 rw[ldN_p (n:=8) o1 rfl]
 refine callF_ans (ans75 c) ?_
 unfold mkM
 show shift _ _ _ _
 have k2:=k1.new (.map .s [] true)
 have p2:(S1.new (.map .s [] true)).obj S.n=_:=(new_lt (by omega)).trans o1
 rw[shift_p,ld1_p p2 rfl rfl,lenS_nL]
 refine loop82_0 (fun y S'=>Keep S S'∧S1.n<S'.n∧S'.obj S.n=some (.cells 29 [c.cells] true)∧∃ i:Nat,y=aI i∧i≤c.names.length∧
     (∀ j (h:j<c.names.length),j<i→nameOk c c.names[j])∧(∀ j (h:j+1<c.names.length),j+1<i→nameLt c.names[j] c.names[j+1])∧∃ es,S'.obj S1.n=some (.map .s es true)∧Tells es ((c.names.take i).map fun x=>keyOf x.text))
  (fun y _=>c.names.length - ((intA y).getD 0).toNat) ⟨k2,by simp,p2,0,rfl,Nat.zero_le _,fun j _ h=>by omega,fun j _ h=>by omega,[],new_self _,by simpa using Tells.nil⟩ ?_
 rintro _ S3 ⟨k3,n3,p3,i,rfl,hi,hok,hltn,es,m3,ht⟩ KE hKE
 unfold b82_0
 rw[bin_lss,onB_v]
 refine gd_of (fun hlt=>?_) (fun hge=>?_)
 ·have hlt:i<c.names.length:=by simpa using hlt
  have hx:=hc.names _ (List.getElem_mem hlt)
  rw[ixS_nL hlt]
  generalize hxe:c.names[i]=x at *
  have hno:=fun h=>NamesR.no_ok hlt (hxe ▸ h)
  unfold Na.row
  rw[ldN_q3]
  refine boxA_of rfl fun S4 k4 n4 o4=>?_
  refine stA_of o4 rfl rfl fun S5 n5 o5 f5=>?_
  have k5:Keep S S5:=(k3.trans k4).st (by have:=k3.1;omega) n5 f5
  have p5:S5.obj S.n=_:=(f5 _ (by omega)).trans ((k4.2 _ (by omega)).trans p3)
  have m5:S5.obj S1.n=_:=(f5 _ (by omega)).trans ((k4.2 _ (by omega)).trans m3)
  rw[shift_p,ld1_p o5 rfl rfl]
  refine callF_ans (ans108 x.text hx.2.2.2) ?_
  rw[un_not,onB_v]
  refine gd_of (fun h1=>⟨?_,k5⟩) (fun h1=>?_)
  ·rw[hno (fun h=>by rw[h.1]at h1;cases h1)]
  rw[shift_p,ld1_p o5 rfl rfl]
  refine callF_ans (ans109 x.kind hx.1 hx.2.1) ?_
  rw[bin_lss,onB_v]
  refine gd_of (fun h2=>⟨?_,k5⟩) (fun h2=>?_)
  ·rw[hno (fun h=>by have:=h.2;rw[many_no (dT h2)]at this;omega)]
  rw[shift_p,ld1_p o5 rfl rfl,bin_lss,onB_v]
  refine gd_of (fun h3=>⟨?_,k5⟩) (fun h3=>?_)
  ·rw[hno (fun h=>by have:=h.2;have:=dT h3;omega)]
  rw[shift_p,ld1_p o5 rfl rfl,shift_p,ld1_p o5 rfl rfl,convI_v,wrap32 hx.1 hx.2.1,lkM_mt (keyI _ _)]
  rw[lkV_many]
  rw[bin_geq,onB_v]
  refine gd_of (fun h4=>⟨?_,k5⟩) (fun h4=>?_)
  ·rw[hno (fun h=>by have:=h.2;have:=dT h4;omega)]
  have hgood:nameOk c x:=⟨by simpa using h1,by have:=dF h3;omega,by have:=dF h4;omega⟩
  rw[shift_p,ld1_p o5 rfl rfl,bld_of (cs:=[]) rfl,updM_m m5 (keyS _)]
  have k6:=k5.upd (id:=S1.n) (by omega) (.map .s (insM es (keyOf x.text) (.a [])) true)
  have p6:(Store.upd S5 S1.n (.map .s (insM es (keyOf x.text) (.a [])) true)).obj S.n=_:=(upd_ne (by omega)).trans p5
  have o6:(Store.upd S5 S1.n (.map .s (insM es (keyOf x.text) (.a [])) true)).obj S3.n=_:=(upd_ne (by omega)).trans o5
  have m6:(Store.upd S5 S1.n (.map .s (insM es (keyOf x.text) (.a [])) true)).obj S1.n=_:=upd_self _ _
  have n6:S4.n=(Store.upd S5 S1.n (.map .s (insM es (keyOf x.text) (.a [])) true)).n:=n5.symm
  have n6':S3.n+1=(Store.upd S5 S1.n (.map .s (insM es (keyOf x.text) (.a [])) true)).n:=by rw[←n6,n4]
  generalize Store.upd S5 S1.n (.map .s (insM es (keyOf x.text) (.a [])) true)=S6 at *
  have ht':Tells (insM es (keyOf x.text) (.a [])) ((c.names.take (i+1)).map fun x=>keyOf x.text):=by
   rw[List.take_add_one,List.getElem?_eq_getElem hlt,hxe,List.map_append]
   exact ht.add _ _
  have hok':∀ j (h:j<c.names.length),j<i+1→nameOk c c.names[j]:=fun j hj hj'=>by
   rcases Nat.lt_or_ge j i with h|h
   ·exact hok j hj h
   ·have:j=i:=by omega
    subst this
    rw[hxe];exact hgood
  have hadd:∀ K:AV→Store→Prop,∀ S,bin .add 0 (.v (.int .i64 (i:Int))) (.v (.int .i64 1)) S K=K (aI (i+1:Nat)) S:=fun K S=>bin_add (by omega) (by omega) 0
  have hμ:c.names.length - ((intA (aI (i+1:Nat))).getD 0).toNat<c.names.length - ((intA (aI i)).getD 0).toNat:=by simp[intA];omega
  rw[bin_eql,onB_v]
  refine gd_of (fun h5=>?_) (fun h5=>?_)
  ·have h5:i=0:=by have:=dT h5;omega
   rw[hadd]
   exact hKE _ _ ⟨k6,by omega,p6,i+1,rfl,hlt,hok',fun j hj hj'=>by omega,_,m6,ht'⟩ hμ
  ·have h5:i≠0:=by have:=dF h5;omega
   obtain⟨j,rfl⟩:∃ j,i=j+1:=⟨i - 1,by omega⟩
   have hj:j<c.names.length:=by omega
   have hy:=hc.names _ (List.getElem_mem hj)
   have hsub:∀ K:AV→Store→Prop,∀ S,bin .sub 0 (.v (.int .i64 ((j+1:Nat):Int))) (.v (.int .i64 1)) S K=K (aI j) S:=fun K S=>(bin_sub (by omega) (by omega) 0).trans (by rw[show((j+1:Nat):Int) - 1=j by omega])
   rw[shift_p,ld1_p p6 rfl rfl,hsub,ixS_nL hj]
   have hnl:¬ nameLt c.names[j] x→namesB c=false:=fun h=>NamesR.no_lt hlt (by rw[hxe];exact h)
   generalize hye:c.names[j]=y at *
   unfold Na.row
   rw[ldN_q3]
   refine boxA_of rfl fun S7 k7 n7 o7=>?_
   refine stA_of o7 rfl rfl fun S8 n8 o8 f8=>?_
   have k8:Keep S S8:=(k6.trans k7).st (by have:=k6.1;omega) n8 f8
   have p8:S8.obj S.n=_:=(f8 _ (by omega)).trans ((k7.2 _ (by omega)).trans p6)
   have m8:S8.obj S1.n=_:=(f8 _ (by omega)).trans ((k7.2 _ (by omega)).trans m6)
   have q8:S8.obj S3.n=_:=(f8 _ (by omega)).trans ((k7.2 _ (by omega)).trans o6)
   show ∃ q50:AV,_
   refine⟨_,by rw[shift_p];exact⟨rfl,rfl⟩,?_⟩
   refine⟨_,by rw[ld1_p o8 rfl rfl];exact⟨rfl,rfl⟩,?_⟩
   refine⟨_,callF_ans (ans109 y.kind hy.1 hy.2.1) ⟨rfl,rfl⟩,?_⟩
   refine⟨_,by rw[shift_p];exact⟨rfl,rfl⟩,?_⟩
   refine⟨_,by rw[ld1_p q8 rfl rfl];exact⟨rfl,rfl⟩,?_⟩
   refine⟨_,callF_ans (ans109 x.kind hx.1 hx.2.1) ⟨rfl,rfl⟩,?_⟩
   refine⟨_,callF_ans (ans111 _ _) ⟨rfl,rfl⟩,?_⟩
   refine⟨_,by rw[shift_p];exact⟨rfl,rfl⟩,?_⟩
   refine⟨_,by rw[ld1_p o8 rfl rfl];exact⟨rfl,rfl⟩,?_⟩
   refine⟨_,by rw[shift_p];exact⟨rfl,rfl⟩,?_⟩
   refine⟨_,by rw[ld1_p q8 rfl rfl];exact⟨rfl,rfl⟩,?_⟩
   refine⟨_,callF_ans (ans111 _ _) ⟨rfl,rfl⟩,?_⟩
   refine⟨_,bsl2 rfl rfl ⟨rfl,rfl⟩,?_⟩
   refine⟨_,callF_ans (ans110 _ _) ⟨rfl,rfl⟩,?_⟩
   refine⟨_,by rw[bin_geq];exact⟨rfl,rfl⟩,?_⟩
   rw[onB_v]
   have hcmp:(0≤if cmpZ (rankI y.kind) (rankI x.kind)≠0 then cmpZ (rankI y.kind) (rankI x.kind)else cmpZ y.pos x.pos)↔¬ nameLt y x:=by
    unfold cmpZ nameLt
    repeat' split
    all_goals omega
   refine gd_of (fun h6=>⟨?_,k8⟩) (fun h6=>?_)
   ·rw[hnl (hcmp.1 (dT h6))]
   ·rw[hadd]
    refine hKE _ _ ⟨k8,by omega,p8,j+1+1,rfl,hlt,hok',fun k hk hk'=>?_,_,m8,ht'⟩ hμ
    rcases Nat.lt_or_ge (k+1) (j+1)with h|h
    ·exact hltn k hk h
    ·have:k=j:=by omega
     subst this
     rw[hxe,hye]
     have:=dF h6
     exact Classical.not_not.1 fun hh=>this (hcmp.2 hh)
 ·have hge:i=c.names.length:=by simp at hge;omega
  subst hge
  rw[lenM_m m3,shift_p,ld1_p p3 rfl rfl,lenS_nL,bin_eql]
  refine⟨?_,k3⟩
  congr 3
  simp only[namesB,decide_eq_decide]
  have:=ht.eq
  rw[List.length_map,List.length_take,Nat.min_self]at this
  rw[Int.natCast_inj,this]
  exact⟨fun h=>⟨hok,hltn,h⟩,fun h=>h.nodup⟩
end
end Go.Proofs.YtodfhmmjemlmeaaGreatDoor.G

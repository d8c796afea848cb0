/- Circuit -/
import Derived.Test.YtmpjhihpcaephaaDoorProg
import Derived.KernelRfl
import Derived.Shelf.Strconv.ErrVarAll
import Derived.Shelf.Strconv.Itoa3
import Derived.Shelf.Strings.Search3
import Derived.Lib.AppendIntMem
import Derived.Lib.AtoiTie
import Derived.Lib.ItoaMem
import Derived.Test.YtmpjhihpcaephaaDoorCxT2
set_option linter.unusedVariables false
set_option linter.unusedSimpArgs false
namespace Go.Proofs.YtmpjhihpcaephaaDoor.G
open Go Go.Ab
noncomputable section
section
set_option maxRecDepth 100000
abbrev Pg : Program := Tryd.prog
theorem dT{p:Prop}[Decidable p]:decide p=true→p:=of_decide_eq_true
theorem dF{p:Prop}[Decidable p]:decide p=false→¬p:=of_decide_eq_false
theorem gSm{α:Type}{l:List α}{i:Nat}{a:α}:l[i]?=some a↔∃ h:i<l.length,l[i]=a:=List.getElem?_eq_some_iff
def c3:Code:=(Tryd.f3.body).getD .skip
def r3:List ResultVar:=Tryd.f3.results.toList
def env3_0(y3 y4 y5:AV):List AV:=[y3,y4,y5]
def lv3_0:List Nat:=[3,4,5]
def env3_1(y3 y4 y8 y9:AV):List AV:=[y3,y4,y8,y9]
def lv3_1:List Nat:=[3,4,8,9]
def ms3:List (List Nat):=[lv3_0,lv3_1,[]]
def m3(x0:AV)(S:Store)(Q:PoT):Prop:=
 callF Pg 5 [] S Q fun c S=>un .not c S fun d S=>onB d fun b=>gd b (Q (.ret (.v (.bool false))) S) (callF Pg 6 [x0] S Q fun e S=>boxN 29 8 (.a [.v (.int .i64 0),.nl,.nl,.nl,.nl,.nl,.nl,.nl]) S fun f S=>stN 8 f e S fun g S=>loopV lv3_0 (vc Pg (c3.at_ [1,1,1,1,0,1,0,0]) (ms3.drop 1)) 88 (env3_0 c f (.v (.int .i64 0))) S (blockK 0 (seqK (vc Pg (c3.at_ [1,1,1,1,1]) (ms3.drop 1)) (bodyK Pg r3 Q))))
theorem calls3{x0:AV}{S:Store}{Q:PoT}(h:m3 x0 S Q):ACalls Pg 3 [x0] S Q:=
 calls_of_vc (fn:=Tryd.f3) (c:=c3) (n:=88) Tryd.func3 (by kernel_rfl) (by kernel_rfl) (by kernel_rfl) ms3 (Eq.mpr (by kernel_rfl) h)
def b3_0(y3 y4 y5:AV)(S:Store)(KE0:KeT)(Q:PoT):Prop:=
 shift y4 7 S fun c S=>ld1 c S fun d S=>lenS d S fun e S=>bin .lss 0 y5 e S fun f S=>onB f fun b=>gd b (shift y4 7 S fun g S=>ld1 g S fun h S=>ixS 32 3 h y5 S fun i S=>ldN 3 i S fun k S=>boxN 32 3 (.a [.v (.int .u8 0),.v (.int .i64 0),.v (.string ByteArray.empty)]) S fun l S=>stN 3 l k S fun m S=>ldN 8 y4 S fun n S=>shift l 0 S fun o S=>ld1 o S fun p S=>shift l 1 S fun q S=>ld1 q S fun r S=>callF Pg 7 [n,p,r] S Q fun s S=>bin .lss 0 s (.v (.int .i64 0)) S fun t S=>onB t fun b=>gd b (Q (.ret (.v (.bool false))) S) (ldN 8 y4 S fun u S=>shift l 2 S fun w S=>ld1 w S fun x S=>callF Pg 8 [u,x] S Q fun y S=>bin .neq 0 y s S fun z S=>onB z fun b=>gd b (Q (.ret (.v (.bool false))) S) (bin .add 0 y5 (.v (.int .i64 1)) S fun A S=>KE0 88 (env3_0 y3 y4 A) S))) (loopV lv3_1 (vc Pg (c3.at_ [1,1,1,1,1,1,0,1,0,0]) (ms3.drop 2)) 88 (env3_1 y3 y4 (.v (.bool false)) (.v (.int .i64 0))) S (blockK 2 (seqK (vc Pg (c3.at_ [1,1,1,1,1,1,1]) (ms3.drop 2)) (bodyK Pg r3 Q))))
theorem b3_0_eq(y3 y4 y5:AV)(S:Store)(KE0:KeT)(Q:PoT):vc Pg (c3.at_ [1,1,1,1,0,1,0,0]) (ms3.drop 1) (mkE 88 lv3_0 (env3_0 y3 y4 y5)) S (thenK (fgK lv3_0 KE0) (blockK 0 (seqK (vc Pg (c3.at_ [1,1,1,1,1]) (ms3.drop 1)) (bodyK Pg r3 Q))))=b3_0 y3 y4 y5 S KE0 Q:=by kernel_rfl
theorem loop3_0{y3 y4:AV}{y50:AV}{S:Store}{Q:PoT}(I:AV→Store→Prop)(μ:AV→Store→Nat)(h0:I y50 S)
    (hr:∀(y5:AV) (S:Store),I y5 S→∀ KE0:KeT,(∀(y5':AV) (S':Store),I y5' S'→μ y5' S'<μ y5 S→KE0 88 (env3_0 y3 y4 y5') S')→b3_0 y3 y4 y5 S KE0 Q):
    loopV lv3_0 (vc Pg (c3.at_ [1,1,1,1,0,1,0,0]) (ms3.drop 1)) 88 (env3_0 y3 y4 y50) S (blockK 0 (seqK (vc Pg (c3.at_ [1,1,1,1,1]) (ms3.drop 1)) (bodyK Pg r3 Q))):=by
 refine⟨fun n e S=>n=88∧∃ y5:AV,e=(env3_0 y3 y4 y5)∧I y5 S,fun _ e S=>μ (e.getD 2 .j) S,?_,?_⟩
 ·exact⟨_,_,Wk.refl _ _,rfl,_,rfl,h0⟩
 ·rintro _ e S ⟨rfl,y5,rfl,hI⟩
  exact(b3_0_eq _ _ _ _ _ _).mpr (hr y5 S hI _ (fun y5' S' hI' hm=>⟨_,_,Wk.refl _ _,⟨rfl,_,rfl,hI'⟩,hm⟩))
def b3_1(y3 y4 y8 y9:AV)(S:Store)(KE1:KeT)(Q:PoT):Prop:=
 shift y4 7 S fun a S=>ld1 a S fun c S=>lenS c S fun d S=>bin .lss 0 y9 d S fun e S=>onB e fun b=>gd b (onB y8 fun b=>gd b (bin .add 0 y9 (.v (.int .i64 1)) S fun f S=>KE1 88 (env3_1 y3 y4 (.v (.bool true)) f) S) (shift y4 7 S fun g S=>ld1 g S fun h S=>ixS 32 3 h y9 S fun i S=>shift i 2 S fun k S=>ld1 k S fun l S=>bin .eql 0 l (.v (.string { data:=#[108,49] })) S fun m S=>bin .add 0 y9 (.v (.int .i64 1)) S fun n S=>KE1 88 (env3_1 y3 y4 m n) S)) ((fun S0:Store=>onB y3 fun b=>gd b (∃ o:AV,(ldN 8 y4 S fun p S=>p=o∧S=S0)∧∃ q:AV,(callF Pg 8 [o,(.v (.string { data:=#[108,48] }))] S (fun _ _=>False) fun r S=>r=q∧S=S0)∧∃ s:AV,(shift y4 0 S fun t S=>t=s∧S=S0)∧∃ u:AV,(ld1 s S fun w S=>w=u∧S=S0)∧∃ x:AV,(bin .add 0 u (.v (.int .i64 1)) S fun y S=>y=x∧S=S0)∧∃ z:AV,(bin .mul 0 (.v (.int .i64 2)) x S fun A S=>A=z∧S=S0)∧∃ B:AV,(bin .eql 0 q z S fun C S=>C=B∧S=S0)∧∃ D:AV,(B=D∧S=S0)∧onB D fun b=>gd b (onB y8 fun b=>gd b (∃ E:AV,((.v (.bool true))=E∧S=S0)∧onB E fun b=>gd b (∃ F:AV,((.v (.bool true))=F∧S=S0)∧∃ G:AV,(F=G∧S=S0)∧Q (.ret G) S) (∃ H:AV,(ldN 8 y4 S fun I S=>I=H∧S=S0)∧∃ J:AV,(callF Pg 8 [H,(.v (.string { data:=#[108,49] }))] S (fun _ _=>False) fun K S=>K=J∧S=S0)∧∃ L:AV,(shift y4 0 S fun M S=>M=L∧S=S0)∧∃ N:AV,(ld1 L S fun O S=>O=N∧S=S0)∧∃ P:AV,(bin .add 0 N (.v (.int .i64 2)) S fun R S=>R=P∧S=S0)∧∃ T:AV,(bin .mul 0 (.v (.int .i64 2)) P S fun U S=>U=T∧S=S0)∧∃ V:AV,(bin .eql 0 J T S fun W S=>W=V∧S=S0)∧∃ X:AV,(V=X∧S=S0)∧∃ Y:AV,(X=Y∧S=S0)∧Q (.ret Y) S)) (∃ Z:AV,(shift y4 1 S fun a0 S=>a0=Z∧S=S0)∧∃ a1:AV,(ld1 Z S fun a2 S=>a2=a1∧S=S0)∧∃ a3:AV,(lenS a1 S fun a4 S=>a4=a3∧S=S0)∧∃ a5:AV,(bin .lss 0 a3 (.v (.int .i64 2)) S fun a6 S=>a6=a5∧S=S0)∧∃ a7:AV,(a5=a7∧S=S0)∧onB a7 fun b=>gd b (∃ a8:AV,((.v (.bool true))=a8∧S=S0)∧∃ a9:AV,(a8=a9∧S=S0)∧Q (.ret a9) S) (∃ b0:AV,(ldN 8 y4 S fun b1 S=>b1=b0∧S=S0)∧∃ b2:AV,(callF Pg 8 [b0,(.v (.string { data:=#[108,49] }))] S (fun _ _=>False) fun b3 S=>b3=b2∧S=S0)∧∃ b4:AV,(shift y4 0 S fun b5 S=>b5=b4∧S=S0)∧∃ b6:AV,(ld1 b4 S fun b7 S=>b7=b6∧S=S0)∧∃ b8:AV,(bin .add 0 b6 (.v (.int .i64 2)) S fun b9 S=>b9=b8∧S=S0)∧∃ c0:AV,(bin .mul 0 (.v (.int .i64 2)) b8 S fun c1 S=>c1=c0∧S=S0)∧∃ c2:AV,(bin .eql 0 b2 c0 S fun c3 S=>c3=c2∧S=S0)∧∃ c4:AV,(c2=c4∧S=S0)∧∃ c5:AV,(c4=c5∧S=S0)∧Q (.ret c5) S))) (∃ c6:AV,((.v (.bool false))=c6∧S=S0)∧Q (.ret c6) S)) (∃ c7:AV,((.v (.bool false))=c7∧S=S0)∧onB c7 fun b=>gd b (onB y8 fun b=>gd b (∃ c8:AV,((.v (.bool true))=c8∧S=S0)∧onB c8 fun b=>gd b (∃ c9:AV,((.v (.bool true))=c9∧S=S0)∧∃ d0:AV,(c9=d0∧S=S0)∧Q (.ret d0) S) (∃ d1:AV,(ldN 8 y4 S fun d2 S=>d2=d1∧S=S0)∧∃ d3:AV,(callF Pg 8 [d1,(.v (.string { data:=#[108,49] }))] S (fun _ _=>False) fun d4 S=>d4=d3∧S=S0)∧∃ d5:AV,(shift y4 0 S fun d6 S=>d6=d5∧S=S0)∧∃ d7:AV,(ld1 d5 S fun d8 S=>d8=d7∧S=S0)∧∃ d9:AV,(bin .add 0 d7 (.v (.int .i64 2)) S fun e0 S=>e0=d9∧S=S0)∧∃ e1:AV,(bin .mul 0 (.v (.int .i64 2)) d9 S fun e2 S=>e2=e1∧S=S0)∧∃ e3:AV,(bin .eql 0 d3 e1 S fun e4 S=>e4=e3∧S=S0)∧∃ e5:AV,(e3=e5∧S=S0)∧∃ e6:AV,(e5=e6∧S=S0)∧Q (.ret e6) S)) (∃ e7:AV,(shift y4 1 S fun e8 S=>e8=e7∧S=S0)∧∃ e9:AV,(ld1 e7 S fun f0 S=>f0=e9∧S=S0)∧∃ f1:AV,(lenS e9 S fun f2 S=>f2=f1∧S=S0)∧∃ f3:AV,(bin .lss 0 f1 (.v (.int .i64 2)) S fun f4 S=>f4=f3∧S=S0)∧∃ f5:AV,(f3=f5∧S=S0)∧onB f5 fun b=>gd b (∃ f6:AV,((.v (.bool true))=f6∧S=S0)∧∃ f7:AV,(f6=f7∧S=S0)∧Q (.ret f7) S) (∃ f8:AV,(ldN 8 y4 S fun f9 S=>f9=f8∧S=S0)∧∃ g0:AV,(callF Pg 8 [f8,(.v (.string { data:=#[108,49] }))] S (fun _ _=>False) fun g1 S=>g1=g0∧S=S0)∧∃ g2:AV,(shift y4 0 S fun g3 S=>g3=g2∧S=S0)∧∃ g4:AV,(ld1 g2 S fun g5 S=>g5=g4∧S=S0)∧∃ g6:AV,(bin .add 0 g4 (.v (.int .i64 2)) S fun g7 S=>g7=g6∧S=S0)∧∃ g8:AV,(bin .mul 0 (.v (.int .i64 2)) g6 S fun g9 S=>g9=g8∧S=S0)∧∃ h0:AV,(bin .eql 0 g0 g8 S fun h1 S=>h1=h0∧S=S0)∧∃ h2:AV,(h0=h2∧S=S0)∧∃ h3:AV,(h2=h3∧S=S0)∧Q (.ret h3) S))) (∃ h4:AV,((.v (.bool false))=h4∧S=S0)∧Q (.ret h4) S))) S)
theorem b3_1_eq(y3 y4 y8 y9:AV)(S:Store)(KE1:KeT)(Q:PoT):vc Pg (c3.at_ [1,1,1,1,1,1,0,1,0,0]) (ms3.drop 2) (mkE 88 lv3_1 (env3_1 y3 y4 y8 y9)) S (thenK (fgK lv3_1 KE1) (blockK 2 (seqK (vc Pg (c3.at_ [1,1,1,1,1,1,1]) (ms3.drop 2)) (bodyK Pg r3 Q))))=b3_1 y3 y4 y8 y9 S KE1 Q:=by kernel_rfl
theorem loop3_1{y3 y4:AV}{y80 y90:AV}{S:Store}{Q:PoT}(I:AV→AV→Store→Prop)(μ:AV→AV→Store→Nat)(h0:I y80 y90 S)
    (hr:∀(y8 y9:AV) (S:Store),I y8 y9 S→∀ KE1:KeT,(∀(y8' y9':AV) (S':Store),I y8' y9' S'→μ y8' y9' S'<μ y8 y9 S→KE1 88 (env3_1 y3 y4 y8' y9') S')→b3_1 y3 y4 y8 y9 S KE1 Q):
    loopV lv3_1 (vc Pg (c3.at_ [1,1,1,1,1,1,0,1,0,0]) (ms3.drop 2)) 88 (env3_1 y3 y4 y80 y90) S (blockK 2 (seqK (vc Pg (c3.at_ [1,1,1,1,1,1,1]) (ms3.drop 2)) (bodyK Pg r3 Q))):=by
 refine⟨fun n e S=>n=88∧∃ y8 y9:AV,e=(env3_1 y3 y4 y8 y9)∧I y8 y9 S,fun _ e S=>μ (e.getD 2 .j) (e.getD 3 .j) S,?_,?_⟩
 ·exact⟨_,_,Wk.refl _ _,rfl,_,_,rfl,h0⟩
 ·rintro _ e S ⟨rfl,y8,y9,rfl,hI⟩
  exact(b3_1_eq _ _ _ _ _ _ _).mpr (hr y8 y9 S hI _ (fun y8' y9' S' hI' hm=>⟨_,_,Wk.refl _ _,⟨rfl,_,_,rfl,hI'⟩,hm⟩))
def c5:Code:=(Tryd.f5.body).getD .skip
def r5:List ResultVar:=Tryd.f5.results.toList
def ms5:List (List Nat):=[[]]
def m5(S:Store)(Q:PoT):Prop:=
 bld [(0,1),(1,1)] [.v (.int .i64 0),.v (.int .i64 0)] [(0,(.v (.int .i64 5)))] S fun c S=>bslN 39 2 1 [.v (.int .i64 0),.v (.int .i64 0)] [(0,c)] S fun d S=>bslN 3 1 1 [.v (.int .i64 0)] [(0,(.v (.int .i64 3)))] S fun e S=>bld [(0,1),(1,1),(2,1)] [.v (.int .u8 0),.v (.int .i64 0),.v (.string ByteArray.empty)] [(0,(.v (.int .u8 108))),(2,(.v (.string { data:=#[113] })))] S fun f S=>bslN 32 3 1 [.v (.int .u8 0),.v (.int .i64 0),.v (.string ByteArray.empty)] [(0,f)] S fun g S=>bld [(0,1),(1,1),(2,1),(3,1),(4,1),(5,1),(6,1),(7,1)] [.v (.int .i64 0),.nl,.nl,.nl,.nl,.nl,.nl,.nl] [(0,(.v (.int .i64 1))),(1,d),(3,e),(7,g)] S fun h S=>boxN 29 8 (.a [.v (.int .i64 0),.nl,.nl,.nl,.nl,.nl,.nl,.nl]) S fun i S=>stN 8 i h S fun k S=>(fun S0:Store=>∃ l:AV,(ldN 8 i S0 fun m S=>m=l∧S=S0)∧∃ n:AV,(callF Pg 11 [l] S0 (fun _ _=>False) fun o S=>o=n∧S=S0)∧∃ t13:Bool,wantT n true=some t13∧∃ p:AV,gd t13 (ldN 8 i S0 fun q S=>q=p∧S=S0) (p = .v undef)∧∃ t16:Bool,wantT n true=some t16∧∃ r:AV,gd t16 (callF Pg 12 [p] S0 (fun _ _=>False) fun s S=>s=r∧S=S0) (r = .v undef)∧∃ t19:Bool,wantT n true=some t19∧∃ t:AV,gd t19 (part1 r 0 S0 fun u S=>u=t∧S=S0) (t = .v undef)∧∃ t22:Bool,wantT n true=some t22∧∃ w:AV,gd t22 (bin .eql 0 t (.v (.int .i64 2)) S0 fun x S=>x=w∧S=S0) (w = .v undef)∧∃ y:AV,(pick n w (.v (.bool false)) S0 fun z S=>z=y∧S=S0)∧∃ t27:Bool,wantT y true=some t27∧∃ A:AV,gd t27 (ldN 8 i S0 fun B S=>B=A∧S=S0) (A = .v undef)∧∃ t30:Bool,wantT y true=some t30∧∃ C:AV,gd t30 (callF Pg 7 [A,.v (.int .u8 111),.v (.int .i64 0)] S0 (fun _ _=>False) fun D S=>D=C∧S=S0) (C = .v undef)∧∃ t33:Bool,wantT y true=some t33∧∃ E:AV,gd t33 (bin .eql 0 C (.v (.int .i64 3)) S0 fun F S=>F=E∧S=S0) (E = .v undef)∧∃ G:AV,(pick y E (.v (.bool false)) S0 fun H S=>H=G∧S=S0)∧∃ t38:Bool,wantT G true=some t38∧∃ I:AV,gd t38 (ldN 8 i S0 fun J S=>J=I∧S=S0) (I = .v undef)∧∃ t41:Bool,wantT G true=some t41∧∃ K:AV,gd t41 (callF Pg 7 [I,.v (.int .u8 111),.v (.int .i64 1)] S0 (fun _ _=>False) fun L S=>L=K∧S=S0) (K = .v undef)∧∃ t44:Bool,wantT G true=some t44∧∃ M:AV,gd t44 (bin .eql 0 K (.v (.int .i64 (-1))) S0 fun N S=>N=M∧S=S0) (M = .v undef)∧∃ O:AV,(pick G M (.v (.bool false)) S0 fun P S=>P=O∧S=S0)∧∃ t49:Bool,wantT O true=some t49∧∃ R:AV,gd t49 (ldN 8 i S0 fun T S=>T=R∧S=S0) (R = .v undef)∧∃ t52:Bool,wantT O true=some t52∧∃ U:AV,gd t52 (callF Pg 8 [R,(.v (.string { data:=#[113] }))] S0 (fun _ _=>False) fun V S=>V=U∧S=S0) (U = .v undef)∧∃ t55:Bool,wantT O true=some t55∧∃ W:AV,gd t55 (bin .eql 0 U (.v (.int .i64 4)) S0 fun X S=>X=W∧S=S0) (W = .v undef)∧∃ Y:AV,(pick O W (.v (.bool false)) S0 fun Z S=>Z=Y∧S=S0)∧∃ t60:Bool,wantT Y true=some t60∧∃ a0:AV,gd t60 (ldN 8 i S0 fun a1 S=>a1=a0∧S=S0) (a0 = .v undef)∧∃ t63:Bool,wantT Y true=some t63∧∃ a2:AV,gd t63 (callF Pg 8 [a0,(.v (.string { data:=#[108,48] }))] S0 (fun _ _=>False) fun a3 S=>a3=a2∧S=S0) (a2 = .v undef)∧∃ t66:Bool,wantT Y true=some t66∧∃ a4:AV,gd t66 (bin .eql 0 a2 (.v (.int .i64 4)) S0 fun a5 S=>a5=a4∧S=S0) (a4 = .v undef)∧∃ a6:AV,(pick Y a4 (.v (.bool false)) S0 fun a7 S=>a7=a6∧S=S0)∧∃ t71:Bool,wantT a6 true=some t71∧∃ a8:AV,gd t71 (ldN 8 i S0 fun a9 S=>a9=a8∧S=S0) (a8 = .v undef)∧∃ t74:Bool,wantT a6 true=some t74∧∃ b0:AV,gd t74 (callF Pg 8 [a8,(.v (.string { data:=#[120] }))] S0 (fun _ _=>False) fun b1 S=>b1=b0∧S=S0) (b0 = .v undef)∧∃ t77:Bool,wantT a6 true=some t77∧∃ b2:AV,gd t77 (bin .eql 0 b0 (.v (.int .i64 (-1))) S0 fun b3 S=>b3=b2∧S=S0) (b2 = .v undef)∧∃ b4:AV,(pick a6 b2 (.v (.bool false)) S0 fun b5 S=>b5=b4∧S=S0)∧∃ t82:Bool,wantT b4 true=some t82∧∃ b6:AV,gd t82 (ldN 8 i S0 fun b7 S=>b7=b6∧S=S0) (b6 = .v undef)∧∃ t85:Bool,wantT b4 true=some t85∧∃ b8:AV,gd t85 (callF Pg 10 [b6,.v (.int .i64 1),.v (.int .i64 2)] S0 (fun _ _=>False) fun b9 S=>b9=b8∧S=S0) (b8 = .v undef)∧∃ c0:AV,(pick b4 b8 (.v (.bool false)) S0 fun c1 S=>c1=c0∧S=S0)∧∃ t90:Bool,wantT c0 true=some t90∧∃ c2:AV,gd t90 (ldN 8 i S0 fun c3 S=>c3=c2∧S=S0) (c2 = .v undef)∧∃ t93:Bool,wantT c0 true=some t93∧∃ c4:AV,gd t93 (callF Pg 9 [c2,.v (.int .i64 1)] S0 (fun _ _=>False) fun c5 S=>c5=c4∧S=S0) (c4 = .v undef)∧∃ t96:Bool,wantT c0 true=some t96∧∃ c6:AV,gd t96 (bin .eql 0 c4 (.v (.int .i64 2)) S0 fun c7 S=>c7=c6∧S=S0) (c6 = .v undef)∧∃ c8:AV,(pick c0 c6 (.v (.bool false)) S0 fun c9 S=>c9=c8∧S=S0)∧∃ t101:Bool,wantT c8 true=some t101∧∃ d0:AV,gd t101 (ldN 8 i S0 fun d1 S=>d1=d0∧S=S0) (d0 = .v undef)∧∃ t104:Bool,wantT c8 true=some t104∧∃ d2:AV,gd t104 (callF Pg 9 [d0,.v (.int .i64 2)] S0 (fun _ _=>False) fun d3 S=>d3=d2∧S=S0) (d2 = .v undef)∧∃ t107:Bool,wantT c8 true=some t107∧∃ d4:AV,gd t107 (bin .eql 0 d2 (.v (.int .i64 0)) S0 fun d5 S=>d5=d4∧S=S0) (d4 = .v undef)∧∃ d6:AV,(pick c8 d4 (.v (.bool false)) S0 fun d7 S=>d7=d6∧S=S0)∧(fun S:Store=>Q (.ret d6) S) S0) S
theorem calls5{S:Store}{Q:PoT}(h:m5  S Q):ACalls Pg 5 [] S Q:=
 calls_of_vc (fn:=Tryd.f5) (c:=c5) (n:=55) Tryd.func5 (by kernel_rfl) (by kernel_rfl) (by kernel_rfl) ms5 (Eq.mpr (by kernel_rfl) h)
def c17:Code:=(Tryd.f17.body).getD .skip
def r17:List ResultVar:=Tryd.f17.results.toList
def env17_0(y0 y1 y7 y8:AV):List AV:=[y0,y1,y7,y8]
def lv17_0:List Nat:=[0,1,7,8]
def ms17:List (List Nat):=[lv17_0,[]]
def m17(x0 x1:AV)(S:Store)(Q:PoT):Prop:=
 lenS x0 S fun a S=>loopV lv17_0 (vc Pg (c17.at_ [1,0,1,0,0]) (ms17.drop 1)) 19 (env17_0 x0 x1 a (.v (.int .i64 0))) S (blockK 0 (seqK (vc Pg (c17.at_ [1,1]) (ms17.drop 1)) (bodyK Pg r17 Q)))
theorem calls17{x0 x1:AV}{S:Store}{Q:PoT}(h:m17 x0 x1 S Q):ACalls Pg 17 [x0,x1] S Q:=
 calls_of_vc (fn:=Tryd.f17) (c:=c17) (n:=19) Tryd.func17 (by kernel_rfl) (by kernel_rfl) (by kernel_rfl) ms17 (Eq.mpr (by kernel_rfl) h)
def b17_0(y0 y1 y7 y8:AV)(S:Store)(KE0:KeT)(Q:PoT):Prop:=
 bin .lss 0 y8 y7 S fun a S=>onB a fun b=>gd b (ixS 32 3 y0 y8 S fun c S=>ldN 3 c S fun d S=>callV Pg y1 [d] S (fun e S=>onB e fun b=>gd b (Q (.ret y8) S) (bin .add 0 y8 (.v (.int .i64 1)) S fun f S=>KE0 19 (env17_0 y0 y1 y7 f) S)) (fun u S=>Q (.pan u) S)) (Q (.ret (.v (.int .i64 (-1)))) S)
theorem b17_0_eq(y0 y1 y7 y8:AV)(S:Store)(KE0:KeT)(Q:PoT):vc Pg (c17.at_ [1,0,1,0,0]) (ms17.drop 1) (mkE 19 lv17_0 (env17_0 y0 y1 y7 y8)) S (thenK (fgK lv17_0 KE0) (blockK 0 (seqK (vc Pg (c17.at_ [1,1]) (ms17.drop 1)) (bodyK Pg r17 Q))))=b17_0 y0 y1 y7 y8 S KE0 Q:=by kernel_rfl
theorem loop17_0{y0 y1 y7:AV}{y80:AV}{S:Store}{Q:PoT}(I:AV→Store→Prop)(μ:AV→Store→Nat)(h0:I y80 S)
    (hr:∀(y8:AV) (S:Store),I y8 S→∀ KE0:KeT,(∀(y8':AV) (S':Store),I y8' S'→μ y8' S'<μ y8 S→KE0 19 (env17_0 y0 y1 y7 y8') S')→b17_0 y0 y1 y7 y8 S KE0 Q):
    loopV lv17_0 (vc Pg (c17.at_ [1,0,1,0,0]) (ms17.drop 1)) 19 (env17_0 y0 y1 y7 y80) S (blockK 0 (seqK (vc Pg (c17.at_ [1,1]) (ms17.drop 1)) (bodyK Pg r17 Q))):=by
 refine⟨fun n e S=>n=19∧∃ y8:AV,e=(env17_0 y0 y1 y7 y8)∧I y8 S,fun _ e S=>μ (e.getD 3 .j) S,?_,?_⟩
 ·exact⟨_,_,Wk.refl _ _,rfl,_,rfl,h0⟩
 ·rintro _ e S ⟨rfl,y8,rfl,hI⟩
  exact(b17_0_eq _ _ _ _ _ _ _).mpr (hr y8 S hI _ (fun y8' S' hI' hm=>⟨_,_,Wk.refl _ _,⟨rfl,_,rfl,hI'⟩,hm⟩))
def c18:Code:=(Tryd.f18.body).getD .skip
def ms18:List (List Nat):=[[]]
def m18(x0 x1:AV)(S:Store)(Q:PoT):Prop:=
 boxN 32 3 x0 S fun a S=>shift a 2 S fun c S=>ld1 c S fun d S=>ld1 x1 S fun e S=>bin .eql 0 d e S fun f S=>Q (.ret f) S
theorem calls18{x0 x1:AV}{S:Store}{Q:PoT}(h:m18 x0 x1 S Q):ACalls Pg 18 [x0,x1] S Q:=
 calls_of_vc (fn:=Tryd.f18) (c:=c18) (n:=8) Tryd.func18 (by kernel_rfl) (by kernel_rfl) (by kernel_rfl) ms18 (Eq.mpr (by kernel_rfl) h)
def c8:Code:=(Tryd.f8.body).getD .skip
def ms8:List (List Nat):=[[]]
def m8(x0 x1:AV)(S:Store)(Q:PoT):Prop:=
 boxN 29 8 x0 S fun a S=>boxN 9 1 x1 S fun c S=>ldN 8 a S fun d S=>callF Pg 11 [d] S Q fun e S=>un .not e S fun g S=>onB g fun b=>gd b (Q (.ret (.v (.int .i64 (-1)))) S) (ld1 c S fun h S=>bin .eql 0 h (.v (.string { data:=#[] })) S fun i S=>onB i fun b=>gd b (Q (.ret (.v (.int .i64 (-1)))) S) (shift a 7 S fun k S=>ld1 k S fun l S=>callF Pg 17 [l,(.f (.func 18) [] [c])] S Q fun m S=>bin .geq 0 m (.v (.int .i64 0)) S fun n S=>onB n fun b=>gd b ((fun S0:Store=>∃ o:AV,(ldN 8 a S fun p S=>p=o∧S=S0)∧∃ q:AV,(shift a 7 S fun r S=>r=q∧S=S0)∧∃ s:AV,(ld1 q S fun t S=>t=s∧S=S0)∧∃ u:AV,(ixS 32 3 s m S fun w S=>w=u∧S=S0)∧∃ x:AV,(shift u 0 S fun y S=>y=x∧S=S0)∧∃ z:AV,(ld1 x S fun A S=>A=z∧S=S0)∧∃ B:AV,(shift a 7 S fun C S=>C=B∧S=S0)∧∃ D:AV,(ld1 B S fun E S=>E=D∧S=S0)∧∃ F:AV,(ixS 32 3 D m S fun G S=>G=F∧S=S0)∧∃ H:AV,(shift F 1 S fun I S=>I=H∧S=S0)∧∃ J:AV,(ld1 H S fun K S=>K=J∧S=S0)∧∃ L:AV,(callF Pg 16 [o,z,J] S (fun _ _=>False) fun M S=>M=L∧S=S0)∧Q (.ret L) S) S) ((fun S0:Store=>∃ N:AV,(ldN 8 a S fun O S=>O=N∧S=S0)∧∃ P:AV,(ld1 c S fun R S=>R=P∧S=S0)∧∃ T:AV,(ixStr P (.v (.int .i64 0)) S fun U S=>U=T∧S=S0)∧∃ V:AV,(ld1 c S fun W S=>W=V∧S=S0)∧∃ X:AV,((none:Option AV)=none∧slcStr V (some (.v (.int .i64 1))) none S fun Y S=>Y=X∧S=S0)∧∃ Z:AV,(callF Pg 19 [X] S (fun _ _=>False) fun a0 S=>a0=Z∧S=S0)∧∃ a1:AV,(callF Pg 16 [N,T,Z] S (fun _ _=>False) fun a2 S=>a2=a1∧S=S0)∧Q (.ret a1) S) S)))
theorem calls8{x0 x1:AV}{S:Store}{Q:PoT}(h:m8 x0 x1 S Q):ACalls Pg 8 [x0,x1] S Q:=
 calls_of_vc (fn:=Tryd.f8) (c:=c8) (n:=40) Tryd.func8 (by kernel_rfl) (by kernel_rfl) (by kernel_rfl) ms8 (Eq.mpr (by kernel_rfl) h)
def c19:Code:=(Tryd.f19.body).getD .skip
def ms19:List (List Nat):=[[]]
def m19(x0:AV)(S:Store)(Q:PoT):Prop:=
 callF Pg 31 [x0] S Q fun a S=>extr a 0 S fun c S=>extr a 1 S fun d S=>nilV .neq 4 d S fun e S=>onB e fun b=>gd b (Q (.ret (.v (.int .i64 (-1)))) S) (bin .lss 0 c (.v (.int .i64 0)) S fun f S=>onB f fun b=>gd b (Q (.ret (.v (.int .i64 (-1)))) S) (lenStr x0 S fun g S=>bin .gtr 0 g (.v (.int .i64 6)) S fun h S=>onB h fun b=>gd b (Q (.ret (.v (.int .i64 (-1)))) S) (callF Pg 32 [c] S Q fun i S=>bin .neq 0 i x0 S fun k S=>onB k fun b=>gd b (Q (.ret (.v (.int .i64 (-1)))) S) (Q (.ret c) S))))
theorem calls19{x0:AV}{S:Store}{Q:PoT}(h:m19 x0 S Q):ACalls Pg 19 [x0] S Q:=
 calls_of_vc (fn:=Tryd.f19) (c:=c19) (n:=28) Tryd.func19 (by kernel_rfl) (by kernel_rfl) (by kernel_rfl) ms19 (Eq.mpr (by kernel_rfl) h)
def c16:Code:=(Tryd.f16.body).getD .skip
def ms16:List (List Nat):=[[]]
def m16(x0 x1 x2:AV)(S:Store)(Q:PoT):Prop:=
 boxN 29 8 x0 S fun a S=>bin .lss 0 x2 (.v (.int .i64 0)) S fun c S=>onB c fun b=>gd b (Q (.ret (.v (.int .i64 (-1)))) S) (ldN 8 a S fun d S=>callF Pg 22 [d] S Q fun e S=>convI .i32 x1 S fun f S=>lkM (.i .i32) (.v (.int .i64 0)) false e f S fun g S=>bin .geq 0 x2 g S fun h S=>onB h fun b=>gd b (Q (.ret (.v (.int .i64 (-1)))) S) (bin .eql 0 x1 (.v (.int .u8 105)) S fun k S=>onB k fun b=>gd b (bin .add 0 x2 (.v (.int .i64 1)) S fun l S=>bin .mul 0 (.v (.int .i64 2)) l S fun m S=>Q (.ret m) S) (bin .eql 0 x1 (.v (.int .u8 108)) S fun n S=>onB n fun b=>gd b (shift a 0 S fun o S=>ld1 o S fun p S=>bin .add 0 p x2 S fun q S=>bin .add 0 q (.v (.int .i64 1)) S fun r S=>bin .mul 0 (.v (.int .i64 2)) r S fun s S=>Q (.ret s) S) (bin .eql 0 x1 (.v (.int .u8 111)) S fun t S=>onB t fun b=>gd b (shift a 3 S fun u S=>ld1 u S fun w S=>ixS 3 1 w x2 S fun x S=>ld1 x S fun y S=>Q (.ret y) S) (bin .eql 0 x1 (.v (.int .u8 98)) S fun z S=>onB z fun b=>gd b (shift a 4 S fun A S=>ld1 A S fun B S=>ixS 3 1 B x2 S fun C S=>ld1 C S fun D S=>Q (.ret D) S) (bin .eql 0 x1 (.v (.int .u8 99)) S fun E S=>onB E fun b=>gd b (shift a 5 S fun F S=>ld1 F S fun G S=>ixS 3 1 G x2 S fun H S=>ld1 H S fun I S=>Q (.ret I) S) (shift a 6 S fun J S=>ld1 J S fun K S=>ixS 3 1 K x2 S fun L S=>ld1 L S fun M S=>Q (.ret M) S)))))))
theorem calls16{x0 x1 x2:AV}{S:Store}{Q:PoT}(h:m16 x0 x1 x2 S Q):ACalls Pg 16 [x0,x1,x2] S Q:=
 calls_of_vc (fn:=Tryd.f16) (c:=c16) (n:=58) Tryd.func16 (by kernel_rfl) (by kernel_rfl) (by kernel_rfl) ms16 (Eq.mpr (by kernel_rfl) h)
def c7:Code:=(Tryd.f7.body).getD .skip
def ms7:List (List Nat):=[[]]
def m7(x0 x1 x2:AV)(S:Store)(Q:PoT):Prop:=
 boxN 29 8 x0 S fun a S=>ldN 8 a S fun c S=>callF Pg 11 [c] S Q fun d S=>un .not d S fun e S=>onB e fun b=>gd b (Q (.ret (.v (.int .i64 (-1)))) S) (ldN 8 a S fun f S=>callF Pg 16 [f,x1,x2] S Q fun g S=>Q (.ret g) S)
theorem calls7{x0 x1 x2:AV}{S:Store}{Q:PoT}(h:m7 x0 x1 x2 S Q):ACalls Pg 7 [x0,x1,x2] S Q:=
 calls_of_vc (fn:=Tryd.f7) (c:=c7) (n:=14) Tryd.func7 (by kernel_rfl) (by kernel_rfl) (by kernel_rfl) ms7 (Eq.mpr (by kernel_rfl) h)
end
open Go Go.Shelf Go.Proofs
def laysItoa_ren:Go.Shelf.Ren:=⟨fun|171=>32|243=>46|246=>56|283=>62|284=>63|285=>64|286=>65|129=>71|317=>70|318=>72|319=>73|320=>74|337=>79|338=>80|n=>n,fun|3=>3|9=>9|2=>2|4=>4|171=>120|0=>0|53=>113|37=>105|5=>5|173=>123|212=>133|51=>80|20=>20|213=>134|46=>101|232=>144|233=>145|n=>n,fun|17=>2|18=>3|19=>4|n=>n⟩
theorem laysItoa:Go.Proofs.LaysM.n171 Pg laysItoa_ren where
 mixed:=by kernel_rfl
 f129:=Tryd.func71.trans (congrArg some (by kernel_rfl))
 f171:=Tryd.func32.trans (congrArg some (by kernel_rfl))
 f243:=Tryd.func46.trans (congrArg some (by kernel_rfl))
 f246:=Tryd.func56.trans (congrArg some (by kernel_rfl))
 f283:=Tryd.func62.trans (congrArg some (by kernel_rfl))
 f284:=Tryd.func63.trans (congrArg some (by kernel_rfl))
 f285:=Tryd.func64.trans (congrArg some (by kernel_rfl))
 f286:=Tryd.func65.trans (congrArg some (by kernel_rfl))
 f317:=Tryd.func70.trans (congrArg some (by kernel_rfl))
 f318:=Tryd.func72.trans (congrArg some (by kernel_rfl))
 f319:=Tryd.func73.trans (congrArg some (by kernel_rfl))
 f320:=Tryd.func74.trans (congrArg some (by kernel_rfl))
 f337:=Tryd.func79.trans (congrArg some (by kernel_rfl))
 f338:=Tryd.func80.trans (congrArg some (by kernel_rfl))
 t0:=Tryd.underlying0
 a0:=Tryd.isAgg0
 z0:=Tryd.sizeOf0
 v0:=Tryd.zeroValue0
 t2:=Tryd.underlying2
 a2:=Tryd.isAgg2
 z2:=Tryd.sizeOf2
 v2:=Tryd.zeroValue2
 t3:=Tryd.underlying3
 a3:=Tryd.isAgg3
 z3:=Tryd.sizeOf3
 v3:=Tryd.zeroValue3
 t4:=Tryd.underlying4
 a4:=Tryd.isAgg4
 z4:=Tryd.sizeOf4
 v4:=Tryd.zeroValue4
 t5:=Tryd.underlying5
 a5:=Tryd.isAgg5
 z5:=Tryd.sizeOf5
 v5:=Tryd.zeroValue5
 t9:=Tryd.underlying9
 a9:=Tryd.isAgg9
 z9:=Tryd.sizeOf9
 v9:=Tryd.zeroValue9
 t20:=Tryd.underlying20
 a20:=Tryd.isAgg20
 z20:=Tryd.sizeOf20
 v20:=Tryd.zeroValue20
 t37:=Tryd.underlying105
 a37:=Tryd.isAgg105
 z37:=Tryd.sizeOf105
 v37:=Tryd.zeroValue105
 t46:=Tryd.underlying101
 a46:=Tryd.isAgg101
 z46:=Tryd.sizeOf101
 v46:=Tryd.zeroValue101
 t51:=Tryd.underlying80
 a51:=Tryd.isAgg80
 z51:=Tryd.sizeOf80
 v51:=Tryd.zeroValue80
 t53:=Tryd.underlying113
 a53:=Tryd.isAgg113
 z53:=Tryd.sizeOf113
 v53:=Tryd.zeroValue113
 t171:=Tryd.underlying120
 a171:=Tryd.isAgg120
 z171:=Tryd.sizeOf120
 v171:=Tryd.zeroValue120
 t173:=Tryd.underlying123
 a173:=Tryd.isAgg123
 z173:=Tryd.sizeOf123
 v173:=Tryd.zeroValue123
 t212:=Tryd.underlying133
 a212:=Tryd.isAgg133
 z212:=Tryd.sizeOf133
 v212:=Tryd.zeroValue133
 t213:=Tryd.underlying134
 a213:=Tryd.isAgg134
 z213:=Tryd.sizeOf134
 t232:=Tryd.underlying144
 a232:=Tryd.isAgg144
 z232:=Tryd.sizeOf144
 v232:=Tryd.zeroValue144
 t233:=Tryd.underlying145
 a233:=Tryd.isAgg145
 z233:=Tryd.sizeOf145
 v233:=Tryd.zeroValue145
 g17:=by kernel_rfl
 g18:=by kernel_rfl
 g19:=by kernel_rfl
 i0:=by kernel_rfl
 i2:=by kernel_rfl
 i3:=by kernel_rfl
 i4:=by kernel_rfl
 i5:=by kernel_rfl
 i9:=by kernel_rfl
 i20:=by kernel_rfl
 i37:=by kernel_rfl
 i46:=by kernel_rfl
 i51:=by kernel_rfl
 i53:=by kernel_rfl
 i171:=by kernel_rfl
 i173:=by kernel_rfl
 i212:=by kernel_rfl
 i232:=by kernel_rfl
 i233:=by kernel_rfl
 m17:=by kernel_rfl
 m18:=by kernel_rfl
 m19:=by kernel_rfl
def laysAtoi_ren:Go.Shelf.Ren:=⟨fun|172=>31|244=>44|245=>45|247=>51|279=>52|280=>53|281=>54|282=>55|287=>59|316=>60|171=>32|205=>61|321=>68|322=>69|243=>46|246=>56|283=>62|284=>63|285=>64|286=>65|129=>71|317=>70|318=>72|319=>73|320=>74|337=>79|338=>80|n=>n,fun|9=>9|3=>3|75=>70|76=>71|4=>4|5=>5|167=>104|37=>105|0=>0|85=>106|2=>2|168=>108|53=>113|175=>114|46=>101|210=>118|127=>128|145=>131|143=>129|21=>21|171=>120|173=>123|212=>133|51=>80|20=>20|213=>134|232=>144|233=>145|80=>156|n=>n,fun|15=>0|16=>1|17=>2|18=>3|19=>4|n=>n⟩
theorem laysAtoi:Go.Proofs.LaysC.n172 Pg laysAtoi_ren where
 mixed:=by kernel_rfl
 f129:=Tryd.func71.trans (congrArg some (by kernel_rfl))
 f171:=Tryd.func32.trans (congrArg some (by kernel_rfl))
 f172:=Tryd.func31.trans (congrArg some (by kernel_rfl))
 f205:=Tryd.func61.trans (congrArg some (by kernel_rfl))
 f243:=Tryd.func46.trans (congrArg some (by kernel_rfl))
 f244:=Tryd.func44.trans (congrArg some (by kernel_rfl))
 f245:=Tryd.func45.trans (congrArg some (by kernel_rfl))
 f246:=Tryd.func56.trans (congrArg some (by kernel_rfl))
 f247:=Tryd.func51.trans (congrArg some (by kernel_rfl))
 f279:=Tryd.func52.trans (congrArg some (by kernel_rfl))
 f280:=Tryd.func53.trans (congrArg some (by kernel_rfl))
 f281:=Tryd.func54.trans (congrArg some (by kernel_rfl))
 f282:=Tryd.func55.trans (congrArg some (by kernel_rfl))
 f283:=Tryd.func62.trans (congrArg some (by kernel_rfl))
 f284:=Tryd.func63.trans (congrArg some (by kernel_rfl))
 f285:=Tryd.func64.trans (congrArg some (by kernel_rfl))
 f286:=Tryd.func65.trans (congrArg some (by kernel_rfl))
 f287:=Tryd.func59.trans (congrArg some (by kernel_rfl))
 f316:=Tryd.func60.trans (congrArg some (by kernel_rfl))
 f317:=Tryd.func70.trans (congrArg some (by kernel_rfl))
 f318:=Tryd.func72.trans (congrArg some (by kernel_rfl))
 f319:=Tryd.func73.trans (congrArg some (by kernel_rfl))
 f320:=Tryd.func74.trans (congrArg some (by kernel_rfl))
 f321:=Tryd.func68.trans (congrArg some (by kernel_rfl))
 f322:=Tryd.func69.trans (congrArg some (by kernel_rfl))
 f337:=Tryd.func79.trans (congrArg some (by kernel_rfl))
 f338:=Tryd.func80.trans (congrArg some (by kernel_rfl))
 t0:=Tryd.underlying0
 a0:=Tryd.isAgg0
 z0:=Tryd.sizeOf0
 v0:=Tryd.zeroValue0
 t2:=Tryd.underlying2
 a2:=Tryd.isAgg2
 z2:=Tryd.sizeOf2
 v2:=Tryd.zeroValue2
 t3:=Tryd.underlying3
 a3:=Tryd.isAgg3
 z3:=Tryd.sizeOf3
 v3:=Tryd.zeroValue3
 t4:=Tryd.underlying4
 a4:=Tryd.isAgg4
 z4:=Tryd.sizeOf4
 v4:=Tryd.zeroValue4
 t5:=Tryd.underlying5
 a5:=Tryd.isAgg5
 z5:=Tryd.sizeOf5
 v5:=Tryd.zeroValue5
 t9:=Tryd.underlying9
 a9:=Tryd.isAgg9
 z9:=Tryd.sizeOf9
 v9:=Tryd.zeroValue9
 t20:=Tryd.underlying20
 a20:=Tryd.isAgg20
 z20:=Tryd.sizeOf20
 v20:=Tryd.zeroValue20
 t21:=Tryd.underlying21
 a21:=Tryd.isAgg21
 z21:=Tryd.sizeOf21
 v21:=Tryd.zeroValue21
 t37:=Tryd.underlying105
 a37:=Tryd.isAgg105
 z37:=Tryd.sizeOf105
 v37:=Tryd.zeroValue105
 t46:=Tryd.underlying101
 a46:=Tryd.isAgg101
 z46:=Tryd.sizeOf101
 v46:=Tryd.zeroValue101
 t51:=Tryd.underlying80
 a51:=Tryd.isAgg80
 z51:=Tryd.sizeOf80
 v51:=Tryd.zeroValue80
 t53:=Tryd.underlying113
 a53:=Tryd.isAgg113
 z53:=Tryd.sizeOf113
 v53:=Tryd.zeroValue113
 t75:=Tryd.underlying70
 a75:=Tryd.isAgg70
 z75:=Tryd.sizeOf70
 v75:=Tryd.zeroValue70
 t76:=Tryd.underlying71
 a76:=Tryd.isAgg71
 z76:=Tryd.sizeOf71
 v76:=Tryd.zeroValue71
 t85:=Tryd.underlying106
 a85:=Tryd.isAgg106
 z85:=Tryd.sizeOf106
 v85:=Tryd.zeroValue106
 t127:=Tryd.underlying128
 a127:=Tryd.isAgg128
 z127:=Tryd.sizeOf128
 v127:=Tryd.zeroValue128
 t143:=Tryd.underlying129
 a143:=Tryd.isAgg129
 z143:=Tryd.sizeOf129
 v143:=Tryd.zeroValue129
 t145:=Tryd.underlying131
 a145:=Tryd.isAgg131
 z145:=Tryd.sizeOf131
 v145:=Tryd.zeroValue131
 t167:=Tryd.underlying104
 a167:=Tryd.isAgg104
 z167:=Tryd.sizeOf104
 v167:=Tryd.zeroValue104
 t168:=Tryd.underlying108
 a168:=Tryd.isAgg108
 z168:=Tryd.sizeOf108
 v168:=Tryd.zeroValue108
 t171:=Tryd.underlying120
 a171:=Tryd.isAgg120
 z171:=Tryd.sizeOf120
 v171:=Tryd.zeroValue120
 t173:=Tryd.underlying123
 a173:=Tryd.isAgg123
 z173:=Tryd.sizeOf123
 v173:=Tryd.zeroValue123
 t175:=Tryd.underlying114
 a175:=Tryd.isAgg114
 z175:=Tryd.sizeOf114
 v175:=Tryd.zeroValue114
 t210:=Tryd.underlying118
 a210:=Tryd.isAgg118
 z210:=Tryd.sizeOf118
 v210:=Tryd.zeroValue118
 t212:=Tryd.underlying133
 a212:=Tryd.isAgg133
 z212:=Tryd.sizeOf133
 v212:=Tryd.zeroValue133
 t213:=Tryd.underlying134
 a213:=Tryd.isAgg134
 z213:=Tryd.sizeOf134
 t232:=Tryd.underlying144
 a232:=Tryd.isAgg144
 z232:=Tryd.sizeOf144
 v232:=Tryd.zeroValue144
 t233:=Tryd.underlying145
 a233:=Tryd.isAgg145
 z233:=Tryd.sizeOf145
 v233:=Tryd.zeroValue145
 g15:=by kernel_rfl
 g16:=by kernel_rfl
 g17:=by kernel_rfl
 g18:=by kernel_rfl
 g19:=by kernel_rfl
 t80:=Tryd.underlying156
 a80:=Tryd.isAgg156
 z80:=Tryd.sizeOf156
 v80:=Tryd.zeroValue156
 i0:=by kernel_rfl
 i2:=by kernel_rfl
 i3:=by kernel_rfl
 i4:=by kernel_rfl
 i5:=by kernel_rfl
 i9:=by kernel_rfl
 i20:=by kernel_rfl
 i21:=by kernel_rfl
 i37:=by kernel_rfl
 i46:=by kernel_rfl
 i51:=by kernel_rfl
 i53:=by kernel_rfl
 i75:=by kernel_rfl
 i76:=by kernel_rfl
 i80:=by kernel_rfl
 i85:=by kernel_rfl
 i127:=by kernel_rfl
 i143:=by kernel_rfl
 i145:=by kernel_rfl
 i167:=by kernel_rfl
 i168:=by kernel_rfl
 i171:=by kernel_rfl
 i173:=by kernel_rfl
 i175:=by kernel_rfl
 i210:=by kernel_rfl
 i212:=by kernel_rfl
 i232:=by kernel_rfl
 i233:=by kernel_rfl
 m15:=by kernel_rfl
 m16:=by kernel_rfl
 m17:=by kernel_rfl
 m18:=by kernel_rfl
 m19:=by kernel_rfl
 c0:=by kernel_rfl
 c2:=by kernel_rfl
 c3:=by kernel_rfl
 c4:=by kernel_rfl
 c5:=by kernel_rfl
 c9:=by kernel_rfl
 c20:=by kernel_rfl
 c21:=by kernel_rfl
 c37:=by kernel_rfl
 c46:=by kernel_rfl
 c51:=by kernel_rfl
 c53:=by kernel_rfl
 c75:=by kernel_rfl
 c76:=by kernel_rfl
 c80:=by kernel_rfl
 c85:=by kernel_rfl
 c127:=by kernel_rfl
 c143:=by kernel_rfl
 c145:=by kernel_rfl
 c167:=by kernel_rfl
 c168:=by kernel_rfl
 c171:=by kernel_rfl
 c173:=by kernel_rfl
 c175:=by kernel_rfl
 c210:=by kernel_rfl
 c212:=by kernel_rfl
 c213:=by kernel_rfl
 c232:=by kernel_rfl
 c233:=by kernel_rfl
section
set_option maxRecDepth 100000
def c50:Code:=(Tryd.f50.body).getD .skip
def ms50:List (List Nat):=[[]]
def m50(x0:AV)(S:Store)(Q:PoT):Prop:=
 bin .neq 0 x0 x0 S fun a S=>Q (.ret a) S
theorem calls50{x0:AV}{S:Store}{Q:PoT}(h:m50 x0 S Q):ACalls Pg 50 [x0] S Q:=
 calls_of_vc (fn:=Tryd.f50) (c:=c50) (n:=6) Tryd.func50 (by kernel_rfl) (by kernel_rfl) (by kernel_rfl) ms50 (Eq.mpr (by kernel_rfl) h)
def c41:Code:=(Tryd.f41.body).getD .skip
def ms41:List (List Nat):=[[]]
def m41(x0 x1:AV)(S:Store)(Q:PoT):Prop:=
 callF Pg 50 [x0] S Q fun a S=>callF Pg 50 [x1] S Q fun c S=>onB a fun b=>gd b (onB c fun b=>gd b (Q (.ret (.v (.int .i64 0))) S) (Q (.ret (.v (.int .i64 (-1)))) S)) (onB c fun b=>gd b (Q (.ret (.v (.int .i64 1))) S) (bin .lss 0 x0 x1 S fun d S=>onB d fun b=>gd b (Q (.ret (.v (.int .i64 (-1)))) S) (bin .gtr 0 x0 x1 S fun e S=>onB e fun b=>gd b (Q (.ret (.v (.int .i64 1))) S) (Q (.ret (.v (.int .i64 0))) S))))
theorem calls41{x0 x1:AV}{S:Store}{Q:PoT}(h:m41 x0 x1 S Q):ACalls Pg 41 [x0,x1] S Q:=
 calls_of_vc (fn:=Tryd.f41) (c:=c41) (n:=20) Tryd.func41 (by kernel_rfl) (by kernel_rfl) (by kernel_rfl) ms41 (Eq.mpr (by kernel_rfl) h)
def c40:Code:=(Tryd.f40.body).getD .skip
def r40:List ResultVar:=Tryd.f40.results.toList
def env40_0(y3 y6 y7 y8:AV):List AV:=[y3,y6,y7,y8]
def lv40_0:List Nat:=[3,6,7,8]
def ms40:List (List Nat):=[lv40_0,[]]
def m40(x0:AV)(S:Store)(Q:PoT):Prop:=
 lenS x0 S fun a S=>loopV lv40_0 (vc Pg (c40.at_ [1,1,0,1,0,0]) (ms40.drop 1)) 18 (env40_0 (.v (.int .i64 0)) x0 a (.v (.int .i64 0))) S (blockK 0 (seqK (vc Pg (c40.at_ [1,1,1]) (ms40.drop 1)) (bodyK Pg r40 Q)))
theorem calls40{x0:AV}{S:Store}{Q:PoT}(h:m40 x0 S Q):ACalls Pg 40 [x0] S Q:=
 calls_of_vc (fn:=Tryd.f40) (c:=c40) (n:=18) Tryd.func40 (by kernel_rfl) (by kernel_rfl) (by kernel_rfl) ms40 (Eq.mpr (by kernel_rfl) h)
def b40_0(y3 y6 y7 y8:AV)(S:Store)(KE0:KeT)(Q:PoT):Prop:=
 bin .lss 0 y8 y7 S fun a S=>onB a fun b=>gd b (ixS 3 1 y6 y8 S fun c S=>ld1 c S fun d S=>bin .neq 0 d y3 S fun e S=>onB e fun b=>gd b (Q (.ret d) S) (bin .add 0 y8 (.v (.int .i64 1)) S fun f S=>KE0 18 (env40_0 y3 y6 y7 f) S)) (Q (.ret y3) S)
theorem b40_0_eq(y3 y6 y7 y8:AV)(S:Store)(KE0:KeT)(Q:PoT):vc Pg (c40.at_ [1,1,0,1,0,0]) (ms40.drop 1) (mkE 18 lv40_0 (env40_0 y3 y6 y7 y8)) S (thenK (fgK lv40_0 KE0) (blockK 0 (seqK (vc Pg (c40.at_ [1,1,1]) (ms40.drop 1)) (bodyK Pg r40 Q))))=b40_0 y3 y6 y7 y8 S KE0 Q:=by kernel_rfl
theorem loop40_0{y3 y6 y7:AV}{y80:AV}{S:Store}{Q:PoT}(I:AV→Store→Prop)(μ:AV→Store→Nat)(h0:I y80 S)
    (hr:∀(y8:AV) (S:Store),I y8 S→∀ KE0:KeT,(∀(y8':AV) (S':Store),I y8' S'→μ y8' S'<μ y8 S→KE0 18 (env40_0 y3 y6 y7 y8') S')→b40_0 y3 y6 y7 y8 S KE0 Q):
    loopV lv40_0 (vc Pg (c40.at_ [1,1,0,1,0,0]) (ms40.drop 1)) 18 (env40_0 y3 y6 y7 y80) S (blockK 0 (seqK (vc Pg (c40.at_ [1,1,1]) (ms40.drop 1)) (bodyK Pg r40 Q))):=by
 refine⟨fun n e S=>n=18∧∃ y8:AV,e=(env40_0 y3 y6 y7 y8)∧I y8 S,fun _ e S=>μ (e.getD 3 .j) S,?_,?_⟩
 ·exact⟨_,_,Wk.refl _ _,rfl,_,rfl,h0⟩
 ·rintro _ e S ⟨rfl,y8,rfl,hI⟩
  exact(b40_0_eq _ _ _ _ _ _ _).mpr (hr y8 S hI _ (fun y8' S' hI' hm=>⟨_,_,Wk.refl _ _,⟨rfl,_,rfl,hI'⟩,hm⟩))
def c12:Code:=(Tryd.f12.body).getD .skip
def ms12:List (List Nat):=[[]]
def m12(x0:AV)(S:Store)(Q:PoT):Prop:=
 boxN 29 8 x0 S fun c S=>boxN 43 2 (.a [.v (.int .i64 0),.nl]) S fun d S=>shift c 0 S fun e S=>ld1 e S fun f S=>shift c 1 S fun g S=>ld1 g S fun h S=>lenS h S fun i S=>bin .add 0 f i S fun k S=>shift c 2 S fun l S=>ld1 l S fun m S=>bld [(0,1),(1,1)] [.v (.int .i64 0),.nl] [(0,k),(1,m)] S fun n S=>stN 2 d n S fun o S=>ldN 2 d S fun p _=>Q (.ret p) S
theorem calls12{x0:AV}{S:Store}{Q:PoT}(h:m12 x0 S Q):ACalls Pg 12 [x0] S Q:=
 calls_of_vc (fn:=Tryd.f12) (c:=c12) (n:=12) Tryd.func12 (by kernel_rfl) (by kernel_rfl) (by kernel_rfl) ms12 (Eq.mpr (by kernel_rfl) h)
def c22:Code:=(Tryd.f22.body).getD .skip
def ms22:List (List Nat):=[[]]
def m22(x0:AV)(S:Store)(Q:PoT):Prop:=
 boxN 29 8 x0 S fun a S=>mkM (.i .i32) S fun c S=>shift a 0 S fun d S=>ld1 d S fun e S=>updM (.i .i32) c (.v (.int .i32 105)) e S fun f S=>shift a 1 S fun g S=>ld1 g S fun h S=>lenS h S fun k S=>updM (.i .i32) c (.v (.int .i32 108)) k S fun l S=>shift a 3 S fun m S=>ld1 m S fun n S=>lenS n S fun o S=>updM (.i .i32) c (.v (.int .i32 111)) o S fun p S=>shift a 4 S fun q S=>ld1 q S fun r S=>lenS r S fun s S=>updM (.i .i32) c (.v (.int .i32 98)) s S fun t S=>shift a 5 S fun u S=>ld1 u S fun w S=>lenS w S fun x S=>updM (.i .i32) c (.v (.int .i32 99)) x S fun y S=>shift a 6 S fun z S=>ld1 z S fun A S=>lenS A S fun B S=>updM (.i .i32) c (.v (.int .i32 102)) B S fun C S=>Q (.ret c) S
theorem calls22{x0:AV}{S:Store}{Q:PoT}(h:m22 x0 S Q):ACalls Pg 22 [x0] S Q:=
 calls_of_vc (fn:=Tryd.f22) (c:=c22) (n:=22) Tryd.func22 (by kernel_rfl) (by kernel_rfl) (by kernel_rfl) ms22 (Eq.mpr (by kernel_rfl) h)
def c38:Code:=(Tryd.f38.body).getD .skip
def r38:List ResultVar:=Tryd.f38.results.toList
def env38_0(y0 y5 y6:AV):List AV:=[y0,y5,y6]
def lv38_0:List Nat:=[0,5,6]
def ms38:List (List Nat):=[lv38_0,[]]
def m38(x0:AV)(S:Store)(Q:PoT):Prop:=
 lenStr x0 S fun a S=>loopV lv38_0 (vc Pg (c38.at_ [1,0,1,0,0]) (ms38.drop 1)) 27 (env38_0 x0 a (.v (.int .i64 0))) S (blockK 0 (seqK (vc Pg (c38.at_ [1,1]) (ms38.drop 1)) (bodyK Pg r38 Q)))
theorem calls38{x0:AV}{S:Store}{Q:PoT}(h:m38 x0 S Q):ACalls Pg 38 [x0] S Q:=
 calls_of_vc (fn:=Tryd.f38) (c:=c38) (n:=27) Tryd.func38 (by kernel_rfl) (by kernel_rfl) (by kernel_rfl) ms38 (Eq.mpr (by kernel_rfl) h)
def b38_0(y0 y5 y6:AV)(S:Store)(KE0:KeT)(Q:PoT):Prop:=
 bin .lss 0 y6 y5 S fun a S=>onB a fun b=>gd b (ixStr y0 y6 S fun c S=>bin .leq 0 c (.v (.int .u8 32)) S fun d S=>onB d fun b=>gd b (Q (.ret (.v (.bool false))) S) (ixStr y0 y6 S fun e S=>bin .gtr 0 e (.v (.int .u8 126)) S fun f S=>onB f fun b=>gd b (Q (.ret (.v (.bool false))) S) (bin .add 0 y6 (.v (.int .i64 1)) S fun g S=>KE0 27 (env38_0 y0 y5 g) S))) (bin .neq 0 y0 (.v (.string { data:=#[] })) S fun h S=>onB h fun b=>gd b (lenStr y0 S fun i S=>bin .leq 0 i (.v (.int .i64 20)) S fun k S=>Q (.ret k) S) (Q (.ret (.v (.bool false))) S))
theorem b38_0_eq(y0 y5 y6:AV)(S:Store)(KE0:KeT)(Q:PoT):vc Pg (c38.at_ [1,0,1,0,0]) (ms38.drop 1) (mkE 27 lv38_0 (env38_0 y0 y5 y6)) S (thenK (fgK lv38_0 KE0) (blockK 0 (seqK (vc Pg (c38.at_ [1,1]) (ms38.drop 1)) (bodyK Pg r38 Q))))=b38_0 y0 y5 y6 S KE0 Q:=by kernel_rfl
theorem loop38_0{y0 y5:AV}{y60:AV}{S:Store}{Q:PoT}(I:AV→Store→Prop)(μ:AV→Store→Nat)(h0:I y60 S)
    (hr:∀(y6:AV) (S:Store),I y6 S→∀ KE0:KeT,(∀(y6':AV) (S':Store),I y6' S'→μ y6' S'<μ y6 S→KE0 27 (env38_0 y0 y5 y6') S')→b38_0 y0 y5 y6 S KE0 Q):
    loopV lv38_0 (vc Pg (c38.at_ [1,0,1,0,0]) (ms38.drop 1)) 27 (env38_0 y0 y5 y60) S (blockK 0 (seqK (vc Pg (c38.at_ [1,1]) (ms38.drop 1)) (bodyK Pg r38 Q))):=by
 refine⟨fun n e S=>n=27∧∃ y6:AV,e=(env38_0 y0 y5 y6)∧I y6 S,fun _ e S=>μ (e.getD 2 .j) S,?_,?_⟩
 ·exact⟨_,_,Wk.refl _ _,rfl,_,rfl,h0⟩
 ·rintro _ e S ⟨rfl,y6,rfl,hI⟩
  exact(b38_0_eq _ _ _ _ _ _).mpr (hr y6 S hI _ (fun y6' S' hI' hm=>⟨_,_,Wk.refl _ _,⟨rfl,_,rfl,hI'⟩,hm⟩))
def c39:Code:=(Tryd.f39.body).getD .skip
def r39:List ResultVar:=Tryd.f39.results.toList
def env39_0(y0 y5:AV):List AV:=[y0,y5]
def lv39_0:List Nat:=[0,5]
def ms39:List (List Nat):=[lv39_0,[]]
def m39(x0:AV)(S:Store)(Q:PoT):Prop:=
 rngS (.v (.string { data:=#[105,108,111,98,99,102] })) S fun a S=>loopV lv39_0 (vc Pg (c39.at_ [1,0,1,0,0]) (ms39.drop 1)) 15 (env39_0 x0 a) S (blockK 0 (seqK (vc Pg (c39.at_ [1,1]) (ms39.drop 1)) (bodyK Pg r39 Q)))
theorem calls39{x0:AV}{S:Store}{Q:PoT}(h:m39 x0 S Q):ACalls Pg 39 [x0] S Q:=
 calls_of_vc (fn:=Tryd.f39) (c:=c39) (n:=15) Tryd.func39 (by kernel_rfl) (by kernel_rfl) (by kernel_rfl) ms39 (Eq.mpr (by kernel_rfl) h)
def b39_0(y0 y5:AV)(S:Store)(KE0:KeT)(Q:PoT):Prop:=
 nextM true y5 S fun a S=>extr a 0 S fun c S=>onB c fun b=>gd b (extr a 1 S fun d S=>extr a 2 S fun e S=>convI .i32 y0 S fun f S=>bin .eql 0 f e S fun g S=>onB g fun b=>gd b (Q (.ret d) S) (KE0 15 (env39_0 y0 y5) S)) (Q (.ret (.v (.int .i64 (-1)))) S)
theorem b39_0_eq(y0 y5:AV)(S:Store)(KE0:KeT)(Q:PoT):vc Pg (c39.at_ [1,0,1,0,0]) (ms39.drop 1) (mkE 15 lv39_0 (env39_0 y0 y5)) S (thenK (fgK lv39_0 KE0) (blockK 0 (seqK (vc Pg (c39.at_ [1,1]) (ms39.drop 1)) (bodyK Pg r39 Q))))=b39_0 y0 y5 S KE0 Q:=by kernel_rfl
theorem loop39_0{y0 y5:AV}{S:Store}{Q:PoT}(I:Store→Prop)(μ:Store→Nat)(h0:I  S)
    (hr:∀(S:Store),I  S→∀ KE0:KeT,(∀(S':Store),I  S'→μ  S'<μ  S→KE0 15 (env39_0 y0 y5) S')→b39_0 y0 y5 S KE0 Q):
    loopV lv39_0 (vc Pg (c39.at_ [1,0,1,0,0]) (ms39.drop 1)) 15 (env39_0 y0 y5) S (blockK 0 (seqK (vc Pg (c39.at_ [1,1]) (ms39.drop 1)) (bodyK Pg r39 Q))):=by
 refine⟨fun n e S=>n=15∧e=(env39_0 y0 y5)∧I  S,fun _ e S=>μ  S,?_,?_⟩
 ·exact⟨_,_,Wk.refl _ _,rfl,rfl,h0⟩
 ·rintro _ e S ⟨rfl,rfl,hI⟩
  exact(b39_0_eq _ _ _ _ _).mpr (hr  S hI _ (fun  S' hI' hm=>⟨_,_,Wk.refl _ _,⟨rfl,rfl,hI'⟩,hm⟩))
def c15:Code:=(Tryd.f15.body).getD .skip
def ms15:List (List Nat):=[[]]
def m15(x0:AV)(S:Store)(Q:PoT):Prop:=
 boxN 43 2 x0 S fun a S=>shift a 0 S fun c S=>ld1 c S fun d S=>bin .add 0 d (.v (.int .i64 1)) S fun e S=>shift a 1 S fun f S=>ld1 f S fun g S=>lenS g S fun h S=>bin .add 0 e h S fun i S=>Q (.ret i) S
theorem calls15{x0:AV}{S:Store}{Q:PoT}(h:m15 x0 S Q):ACalls Pg 15 [x0] S Q:=
 calls_of_vc (fn:=Tryd.f15) (c:=c15) (n:=10) Tryd.func15 (by kernel_rfl) (by kernel_rfl) (by kernel_rfl) ms15 (Eq.mpr (by kernel_rfl) h)
def c43:Code:=(Tryd.f43.body).getD .skip
def ms43:List (List Nat):=[[]]
def m43(x0 x1:AV)(S:Store)(Q:PoT):Prop:=
 boxN 43 2 x0 S fun a S=>shift a 0 S fun c S=>ld1 c S fun d S=>bin .geq 0 d (.v (.int .i64 0)) S fun e S=>onB e fun b=>gd b (shift a 0 S fun f S=>ld1 f S fun g S=>bin .leq 0 g (.v (.int .i64 2000)) S fun h S=>onB h fun b=>gd b (bin .geq 0 x1 (.v (.int .i64 0)) S fun i S=>onB i fun b=>gd b (bin .quo 0 x1 (.v (.int .i64 2)) S fun k S=>ldN 2 a S fun l S=>callF Pg 15 [l] S Q fun m S=>bin .lss 0 k m S fun n S=>Q (.ret n) S) (Q (.ret (.v (.bool false))) S)) (Q (.ret (.v (.bool false))) S)) (Q (.ret (.v (.bool false))) S)
theorem calls43{x0 x1:AV}{S:Store}{Q:PoT}(h:m43 x0 x1 S Q):ACalls Pg 43 [x0,x1] S Q:=
 calls_of_vc (fn:=Tryd.f43) (c:=c43) (n:=24) Tryd.func43 (by kernel_rfl) (by kernel_rfl) (by kernel_rfl) ms43 (Eq.mpr (by kernel_rfl) h)
def c42:Code:=(Tryd.f42.body).getD .skip
def r42:List ResultVar:=Tryd.f42.results.toList
def env42_0(y1 y3:AV):List AV:=[y1,y3]
def lv42_0:List Nat:=[1,3]
def env42_1(y1 y3 y6:AV):List AV:=[y1,y3,y6]
def lv42_1:List Nat:=[1,3,6]
def ms42:List (List Nat):=[lv42_0,lv42_1,[]]
def m42(x0:AV)(S:Store)(Q:PoT):Prop:=
 boxN 43 2 x0 S fun a S=>shift a 0 S fun c S=>ld1 c S fun d S=>bin .lss 0 d (.v (.int .i64 0)) S fun e S=>onB e fun b=>gd b (Q (.ret (.v (.bool false))) S) (shift a 0 S fun f S=>ld1 f S fun g S=>bin .gtr 0 g (.v (.int .i64 2000)) S fun h S=>onB h fun b=>gd b (Q (.ret (.v (.bool false))) S) (shift a 1 S fun i S=>ld1 i S fun k S=>lenS k S fun l S=>bin .gtr 0 l (.v (.int .i64 2000)) S fun m S=>onB m fun b=>gd b (Q (.ret (.v (.bool false))) S) (ldN 2 a S fun n S=>callF Pg 15 [n] S Q fun o S=>bin .gtr 0 o (.v (.int .i64 2000)) S fun p S=>onB p fun b=>gd b (Q (.ret (.v (.bool false))) S) (loopV lv42_0 (vc Pg (c42.at_ [1,1,0,1,0,0]) (ms42.drop 1)) 80 (env42_0 a (.v (.int .i64 0))) S (blockK 0 (seqK (vc Pg (c42.at_ [1,1,1]) (ms42.drop 2)) (bodyK Pg r42 Q)))))))
theorem calls42{x0:AV}{S:Store}{Q:PoT}(h:m42 x0 S Q):ACalls Pg 42 [x0] S Q:=
 calls_of_vc (fn:=Tryd.f42) (c:=c42) (n:=80) Tryd.func42 (by kernel_rfl) (by kernel_rfl) (by kernel_rfl) ms42 (Eq.mpr (by kernel_rfl) h)
def b42_0(y1 y3:AV)(S:Store)(KE0:KeT)(Q:PoT):Prop:=
 shift y1 1 S fun a S=>ld1 a S fun c S=>lenS c S fun d S=>bin .lss 0 y3 d S fun e S=>onB e fun b=>gd b ((fun S0:Store=>∃ f:AV,(shift y1 1 S fun g S=>g=f∧S=S0)∧∃ h:AV,(ld1 f S fun i S=>i=h∧S=S0)∧∃ k:AV,(ixS 99 2 h y3 S fun l S=>l=k∧S=S0)∧∃ m:AV,(ixA 2 1 k (.v (.int .i64 0)) S fun n S=>n=m∧S=S0)∧∃ o:AV,(ld1 m S fun p S=>p=o∧S=S0)∧∃ q:AV,(shift y1 1 S fun r S=>r=q∧S=S0)∧∃ s:AV,(ld1 q S fun t S=>t=s∧S=S0)∧∃ u:AV,(ixS 99 2 s y3 S fun w S=>w=u∧S=S0)∧∃ x:AV,(ixA 2 1 u (.v (.int .i64 1)) S fun y S=>y=x∧S=S0)∧∃ z:AV,(ld1 x S fun A S=>A=z∧S=S0)∧bin .lss 0 z (.v (.int .i64 2)) S fun B S=>onB B fun b=>gd b (Q (.ret (.v (.bool false))) S) (bin .quo 0 o (.v (.int .i64 2)) S fun C S=>bin .quo 0 z (.v (.int .i64 2)) S fun D S=>bin .leq 0 C D S fun E S=>onB E fun b=>gd b (Q (.ret (.v (.bool false))) S) (bin .quo 0 o (.v (.int .i64 2)) S fun F S=>shift y1 0 S fun G S=>ld1 G S fun H S=>bin .add 0 H (.v (.int .i64 1)) S fun I S=>bin .add 0 I y3 S fun J S=>bin .geq 0 F J S fun K S=>onB K fun b=>gd b (Q (.ret (.v (.bool false))) S) (loopV lv42_1 (vc Pg (c42.at_ [1,1,0,1,0,0,1,0,0,1,1,1,0,0]) (ms42.drop 2)) 80 (env42_1 y1 y3 (.v (.int .i64 0))) S (blockK 2 (blockK 1 (seqK (vc Pg (c42.at_ [1,1,0,1,0,0,1,1]) (ms42.drop 2)) (thenK (fgK lv42_0 KE0) (blockK 0 (seqK (vc Pg (c42.at_ [1,1,1]) (ms42.drop 2)) (bodyK Pg r42 Q))))))))))) S) (Q (.ret (.v (.bool true))) S)
theorem b42_0_eq(y1 y3:AV)(S:Store)(KE0:KeT)(Q:PoT):vc Pg (c42.at_ [1,1,0,1,0,0]) (ms42.drop 1) (mkE 80 lv42_0 (env42_0 y1 y3)) S (thenK (fgK lv42_0 KE0) (blockK 0 (seqK (vc Pg (c42.at_ [1,1,1]) (ms42.drop 2)) (bodyK Pg r42 Q))))=b42_0 y1 y3 S KE0 Q:=by kernel_rfl
theorem loop42_0{y1:AV}{y30:AV}{S:Store}{Q:PoT}(I:AV→Store→Prop)(μ:AV→Store→Nat)(h0:I y30 S)
    (hr:∀(y3:AV) (S:Store),I y3 S→∀ KE0:KeT,(∀(y3':AV) (S':Store),I y3' S'→μ y3' S'<μ y3 S→KE0 80 (env42_0 y1 y3') S')→b42_0 y1 y3 S KE0 Q):
    loopV lv42_0 (vc Pg (c42.at_ [1,1,0,1,0,0]) (ms42.drop 1)) 80 (env42_0 y1 y30) S (blockK 0 (seqK (vc Pg (c42.at_ [1,1,1]) (ms42.drop 2)) (bodyK Pg r42 Q))):=by
 refine⟨fun n e S=>n=80∧∃ y3:AV,e=(env42_0 y1 y3)∧I y3 S,fun _ e S=>μ (e.getD 1 .j) S,?_,?_⟩
 ·exact⟨_,_,Wk.refl _ _,rfl,_,rfl,h0⟩
 ·rintro _ e S ⟨rfl,y3,rfl,hI⟩
  exact(b42_0_eq _ _ _ _ _).mpr (hr y3 S hI _ (fun y3' S' hI' hm=>⟨_,_,Wk.refl _ _,⟨rfl,_,rfl,hI'⟩,hm⟩))
def b42_1(y1 y3 y6:AV)(S:Store)(KE1:KeT)(KE0:KeT)(Q:PoT):Prop:=
 bin .lss 0 y6 y3 S fun a S=>onB a fun b=>gd b ((fun S0:Store=>∃ c:AV,(shift y1 1 S fun d S=>d=c∧S=S0)∧∃ e:AV,(ld1 c S fun f S=>f=e∧S=S0)∧∃ g:AV,(ixS 99 2 e y6 S fun h S=>h=g∧S=S0)∧∃ i:AV,(ldN 2 g S fun k S=>k=i∧S=S0)∧∃ l:AV,(shift y1 1 S fun m S=>m=l∧S=S0)∧∃ n:AV,(ld1 l S fun o S=>o=n∧S=S0)∧∃ p:AV,(ixS 99 2 n y3 S fun q S=>q=p∧S=S0)∧∃ r:AV,(ldN 2 p S fun s S=>s=r∧S=S0)∧∃ t:AV,(binP .i64 .eql i r S fun u S=>u=t∧S=S0)∧onB t fun b=>gd b (Q (.ret (.v (.bool false))) S) (bin .add 0 y6 (.v (.int .i64 1)) S fun w S=>KE1 80 (env42_1 y1 y3 w) S)) S) (bin .add 0 y3 (.v (.int .i64 1)) S fun x S=>KE0 80 (env42_0 y1 x) S)
theorem b42_1_eq(y1 y3 y6:AV)(S:Store)(KE1:KeT)(KE0:KeT)(Q:PoT):vc Pg (c42.at_ [1,1,0,1,0,0,1,0,0,1,1,1,0,0]) (ms42.drop 2) (mkE 80 lv42_1 (env42_1 y1 y3 y6)) S (thenK (fgK lv42_1 KE1) (blockK 2 (blockK 1 (seqK (vc Pg (c42.at_ [1,1,0,1,0,0,1,1]) (ms42.drop 2)) (thenK (fgK lv42_0 KE0) (blockK 0 (seqK (vc Pg (c42.at_ [1,1,1]) (ms42.drop 2)) (bodyK Pg r42 Q))))))))=b42_1 y1 y3 y6 S KE1 KE0 Q:=by kernel_rfl
theorem loop42_1{y1 y3:AV}{y60:AV}{S:Store}{KE0:KeT}{Q:PoT}(I:AV→Store→Prop)(μ:AV→Store→Nat)(h0:I y60 S)
    (hr:∀(y6:AV) (S:Store),I y6 S→∀ KE1:KeT,(∀(y6':AV) (S':Store),I y6' S'→μ y6' S'<μ y6 S→KE1 80 (env42_1 y1 y3 y6') S')→b42_1 y1 y3 y6 S KE1 KE0 Q):
    loopV lv42_1 (vc Pg (c42.at_ [1,1,0,1,0,0,1,0,0,1,1,1,0,0]) (ms42.drop 2)) 80 (env42_1 y1 y3 y60) S (blockK 2 (blockK 1 (seqK (vc Pg (c42.at_ [1,1,0,1,0,0,1,1]) (ms42.drop 2)) (thenK (fgK lv42_0 KE0) (blockK 0 (seqK (vc Pg (c42.at_ [1,1,1]) (ms42.drop 2)) (bodyK Pg r42 Q))))))):=by
 refine⟨fun n e S=>n=80∧∃ y6:AV,e=(env42_1 y1 y3 y6)∧I y6 S,fun _ e S=>μ (e.getD 2 .j) S,?_,?_⟩
 ·exact⟨_,_,Wk.refl _ _,rfl,_,rfl,h0⟩
 ·rintro _ e S ⟨rfl,y6,rfl,hI⟩
  exact(b42_1_eq _ _ _ _ _ _ _).mpr (hr y6 S hI _ (fun y6' S' hI' hm=>⟨_,_,Wk.refl _ _,⟨rfl,_,rfl,hI'⟩,hm⟩))
def c30:Code:=(Tryd.f30.body).getD .skip
def r30:List ResultVar:=Tryd.f30.results.toList
def env30_0(y1 y2 y3 y6 y9:AV):List AV:=[y1,y2,y3,y6,y9]
def lv30_0:List Nat:=[1,2,3,6,9]
def ms30:List (List Nat):=[lv30_0,[]]
def m30(x0 x1 x2:AV)(S:Store)(Q:PoT):Prop:=
 boxN 43 2 x0 S fun c S=>boxN 43 2 (.a [.v (.int .i64 0),.nl]) S fun d S=>ldN 2 c S fun e S=>callF Pg 42 [e] S Q fun f S=>un .not f S fun g S=>onB g fun b=>gd b (bld [(0,1),(1,1)] [.v (.int .i64 0),.nl] [] S fun h S=>stN 2 d h S fun i S=>ldN 2 d S fun k _=>Q (.ret (.t [k,.v (.int .i64 0),.v (.int .i64 1)])) S) (ldN 2 c S fun l S=>callF Pg 43 [l,x1] S Q fun m S=>un .not m S fun n S=>onB n fun b=>gd b (bld [(0,1),(1,1)] [.v (.int .i64 0),.nl] [] S fun o S=>stN 2 d o S fun p S=>ldN 2 d S fun q _=>Q (.ret (.t [q,.v (.int .i64 0),.v (.int .i64 1)])) S) (ldN 2 c S fun r S=>callF Pg 43 [r,x2] S Q fun s S=>un .not s S fun u S=>onB u fun b=>gd b (bld [(0,1),(1,1)] [.v (.int .i64 0),.nl] [] S fun w S=>stN 2 d w S fun x S=>ldN 2 d S fun y _=>Q (.ret (.t [y,.v (.int .i64 0),.v (.int .i64 1)])) S) (mxI true x1 x2 S fun z S=>mxI false x1 x2 S fun A S=>bin .eql 0 A (.v (.int .i64 0)) S fun B S=>onB B fun b=>gd b (ldN 2 c S fun C S=>stN 2 d C S fun D S=>ldN 2 d S fun E _=>Q (.ret (.t [E,.v (.int .i64 0),.v (.int .i64 0)])) S) (bin .quo 0 z (.v (.int .i64 2)) S fun F S=>bin .quo 0 A (.v (.int .i64 2)) S fun G S=>bin .eql 0 F G S fun H S=>onB H fun b=>gd b (bin .neq 0 z A S fun I S=>onB I fun b=>gd b (ldN 2 c S fun J S=>stN 2 d J S fun K S=>ldN 2 d S fun L _=>Q (.ret (.t [L,.v (.int .i64 0),.v (.int .i64 0)])) S) (bin .eql 0 A (.v (.int .i64 1)) S fun M S=>onB M fun b=>gd b (ldN 2 c S fun N S=>stN 2 d N S fun O S=>ldN 2 d S fun P _=>Q (.ret (.t [P,z,.v (.int .i64 0)])) S) (bin .eql 0 z A S fun R S=>onB R fun b=>gd b (ldN 2 c S fun T S=>stN 2 d T S fun U S=>ldN 2 d S fun V _=>Q (.ret (.t [V,z,.v (.int .i64 0)])) S) (loopV lv30_0 (vc Pg (c30.at_ [1,1,1,1,0,1,0,0]) (ms30.drop 1)) 105 (env30_0 z A c d (.v (.int .i64 0))) S (blockK 1 (seqK (vc Pg (c30.at_ [1,1,1,1,1]) (ms30.drop 1)) (bodyK Pg r30 Q))))))) (bin .eql 0 A (.v (.int .i64 1)) S fun W S=>onB W fun b=>gd b (ldN 2 c S fun X S=>stN 2 d X S fun Y S=>ldN 2 d S fun Z _=>Q (.ret (.t [Z,z,.v (.int .i64 0)])) S) (bin .eql 0 z A S fun a0 S=>onB a0 fun b=>gd b (ldN 2 c S fun a1 S=>stN 2 d a1 S fun a2 S=>ldN 2 d S fun a3 _=>Q (.ret (.t [a3,z,.v (.int .i64 0)])) S) (loopV lv30_0 (vc Pg (c30.at_ [1,1,1,1,0,1,0,0]) (ms30.drop 1)) 105 (env30_0 z A c d (.v (.int .i64 0))) S (blockK 1 (seqK (vc Pg (c30.at_ [1,1,1,1,1]) (ms30.drop 1)) (bodyK Pg r30 Q))))))))))
theorem calls30{x0 x1 x2:AV}{S:Store}{Q:PoT}(h:m30 x0 x1 x2 S Q):ACalls Pg 30 [x0,x1,x2] S Q:=
 calls_of_vc (fn:=Tryd.f30) (c:=c30) (n:=105) Tryd.func30 (by kernel_rfl) (by kernel_rfl) (by kernel_rfl) ms30 (Eq.mpr (by kernel_rfl) h)
def b30_0(y1 y2 y3 y6 y9:AV)(S:Store)(KE0:KeT)(Q:PoT):Prop:=
 shift y3 1 S fun c S=>ld1 c S fun d S=>lenS d S fun e S=>bin .lss 0 y9 e S fun f S=>onB f fun b=>gd b (shift y3 1 S fun g S=>ld1 g S fun h S=>ixS 99 2 h y9 S fun i S=>ldN 2 i S fun k S=>bld [(0,1),(1,1)] [.v (.int .i64 0),.v (.int .i64 0)] [(0,y1),(1,y2)] S fun l S=>binP .i64 .eql k l S fun m S=>onB m fun b=>gd b (∃ n:AV,(∀ T:Store,Keep S T→ldN 2 y3 T fun o S=>o=n∧S=T)∧∃ p:AV,(∀ T:Store,Keep S T→shift y3 0 T fun q S=>q=p∧S=T)∧∃ r:AV,(∀ T:Store,Keep S T→ld1 p T fun s S=>s=r∧S=T)∧∃ u:AV,(∀ T:Store,Keep S T→bin .add 0 r (.v (.int .i64 1)) T fun w S=>w=u∧S=T)∧∃ x:AV,(∀ T:Store,Keep S T→bin .add 0 u y9 T fun y S=>y=x∧S=T)∧∃ z:AV,(∀ T:Store,Keep S T→bin .mul 0 (.v (.int .i64 2)) x T fun A S=>A=z∧S=T)∧stN 2 y6 n S fun B S=>(∀ T:Store,Keep S T→bin .mul 0 (.v (.int .i64 2)) x T fun C S=>C=z∧S=T)∧(∀ T:Store,Keep S T→bin .add 0 u y9 T fun D S=>D=x∧S=T)∧(∀ T:Store,Keep S T→bin .add 0 r (.v (.int .i64 1)) T fun E S=>E=u∧S=T)∧(∀ T:Store,Keep S T→ld1 p T fun F S=>F=r∧S=T)∧(∀ T:Store,Keep S T→shift y3 0 T fun G S=>G=p∧S=T)∧ldN 2 y6 S fun H _=>Q (.ret (.t [H,z,.v (.int .i64 0)])) S) (bin .add 0 y9 (.v (.int .i64 1)) S fun I S=>KE0 105 (env30_0 y1 y2 y3 y6 I) S)) (ldN 2 y3 S fun J S=>callF Pg 15 [J] S Q fun K S=>bin .geq 0 K (.v (.int .i64 2000)) S fun L S=>onB L fun b=>gd b (bld [(0,1),(1,1)] [.v (.int .i64 0),.nl] [] S fun M S=>stN 2 y6 M S fun N S=>ldN 2 y6 S fun O _=>Q (.ret (.t [O,.v (.int .i64 0),.v (.int .i64 2)])) S) (boxN 43 2 (.a [.v (.int .i64 0),.nl]) S fun P S=>shift y3 0 S fun R S=>ld1 R S fun U S=>shift P 0 S fun V S=>stN 1 V U S fun W S=>shift P 1 S fun X S=>ld1 X S fun Y S=>shift y3 1 S fun Z S=>ld1 Z S fun a0 S=>appS 99 2 16 Y a0 S fun a1 S=>bld [(0,1),(1,1)] [.v (.int .i64 0),.v (.int .i64 0)] [(0,y1),(1,y2)] S fun a2 S=>bslN 99 2 1 [.v (.int .i64 0),.v (.int .i64 0)] [(0,a2)] S fun a3 S=>appS 99 2 16 a1 a3 S fun a4 S=>shift P 1 S fun a5 S=>stN 1 a5 a4 S fun a6 S=>∃ a7:AV,(∀ T:Store,Keep S T→ldN 2 P T fun a8 S=>a8=a7∧S=T)∧∃ a9:AV,(∀ T:Store,Keep S T→ldN 2 P T fun b0 S=>b0=a9∧S=T)∧∃ b1:AV,(∀ T:Store,Keep S T→callF Pg 15 [a9] T (fun _ _=>False) fun b2 S=>b2=b1∧S=T)∧∃ b3:AV,(∀ T:Store,Keep S T→bin .mul 0 (.v (.int .i64 2)) b1 T fun b4 S=>b4=b3∧S=T)∧∃ b5:AV,(∀ T:Store,Keep S T→bin .sub 0 b3 (.v (.int .i64 2)) T fun b6 S=>b6=b5∧S=T)∧stN 2 y6 a7 S fun b7 S=>(∀ T:Store,Keep S T→bin .sub 0 b3 (.v (.int .i64 2)) T fun b8 S=>b8=b5∧S=T)∧(∀ T:Store,Keep S T→bin .mul 0 (.v (.int .i64 2)) b1 T fun b9 S=>b9=b3∧S=T)∧ldN 2 y6 S fun c0 _=>Q (.ret (.t [c0,b5,.v (.int .i64 0)])) S))
theorem b30_0_eq(y1 y2 y3 y6 y9:AV)(S:Store)(KE0:KeT)(Q:PoT):vc Pg (c30.at_ [1,1,1,1,0,1,0,0]) (ms30.drop 1) (mkE 105 lv30_0 (env30_0 y1 y2 y3 y6 y9)) S (thenK (fgK lv30_0 KE0) (blockK 1 (seqK (vc Pg (c30.at_ [1,1,1,1,1]) (ms30.drop 1)) (bodyK Pg r30 Q))))=b30_0 y1 y2 y3 y6 y9 S KE0 Q:=by kernel_rfl
theorem loop30_0{y1 y2 y3 y6:AV}{y90:AV}{S:Store}{Q:PoT}(I:AV→Store→Prop)(μ:AV→Store→Nat)(h0:I y90 S)
    (hr:∀(y9:AV) (S:Store),I y9 S→∀ KE0:KeT,(∀(y9':AV) (S':Store),I y9' S'→μ y9' S'<μ y9 S→KE0 105 (env30_0 y1 y2 y3 y6 y9') S')→b30_0 y1 y2 y3 y6 y9 S KE0 Q):
    loopV lv30_0 (vc Pg (c30.at_ [1,1,1,1,0,1,0,0]) (ms30.drop 1)) 105 (env30_0 y1 y2 y3 y6 y90) S (blockK 1 (seqK (vc Pg (c30.at_ [1,1,1,1,1]) (ms30.drop 1)) (bodyK Pg r30 Q))):=by
 refine⟨fun n e S=>n=105∧∃ y9:AV,e=(env30_0 y1 y2 y3 y6 y9)∧I y9 S,fun _ e S=>μ (e.getD 4 .j) S,?_,?_⟩
 ·exact⟨_,_,Wk.refl _ _,rfl,_,rfl,h0⟩
 ·rintro _ e S ⟨rfl,y9,rfl,hI⟩
  exact(b30_0_eq _ _ _ _ _ _ _ _).mpr (hr y9 S hI _ (fun y9' S' hI' hm=>⟨_,_,Wk.refl _ _,⟨rfl,_,rfl,hI'⟩,hm⟩))
def c58:Code:=(Tryd.f58.body).getD .skip
def r58:List ResultVar:=Tryd.f58.results.toList
def env58_0(y0 y13 y14 y15:AV):List AV:=[y0,y13,y14,y15]
def lv58_0:List Nat:=[0,13,14,15]
def ms58:List (List Nat):=[lv58_0,[]]
def m58(x0:AV)(S:Store)(Q:PoT):Prop:=
 mkM (.p .i64) S fun a S=>nilChk x0 S fun c S=>shift c 4 S fun d S=>stN 1 d a S fun e S=>nilChk x0 S fun f S=>shift f 3 S fun g S=>ld1 g S fun h S=>lenS h S fun i S=>loopV lv58_0 (vc Pg (c58.at_ [1,1,0,0]) (ms58.drop 1)) 38 (env58_0 x0 h i (.v (.int .i64 0))) S (blockK 0 (bodyK Pg r58 Q))
theorem calls58{x0:AV}{S:Store}{Q:PoT}(h:m58 x0 S Q):ACalls Pg 58 [x0] S Q:=
 calls_of_vc (fn:=Tryd.f58) (c:=c58) (n:=38) Tryd.func58 (by kernel_rfl) (by kernel_rfl) (by kernel_rfl) ms58 (Eq.mpr (by kernel_rfl) h)
def b58_0(y0 y13 y14 y15:AV)(S:Store)(KE0:KeT)(Q:PoT):Prop:=
 bin .lss 0 y15 y14 S fun c S=>onB c fun b=>gd b (ixS 99 2 y13 y15 S fun d S=>ldN 2 d S fun e S=>boxN 99 2 (.a [.v (.int .i64 0),.v (.int .i64 0)]) S fun f S=>stN 2 f e S fun g S=>(fun S0:Store=>∃ h:AV,(nilChk y0 S fun i S=>i=h∧S=S0)∧∃ k:AV,(shift h 4 S fun l S=>l=k∧S=S0)∧∃ m:AV,(ld1 k S fun n S=>n=m∧S=S0)∧∃ o:AV,(ldN 2 f S fun q S=>q=o∧S=S0)∧∃ r:AV,(lkM (.p .i64) (.v (.int .i64 0)) true m o S fun s S=>s=r∧S=S0)∧∃ u:AV,(extr r 0 S fun w S=>w=u∧S=S0)∧∃ x:AV,(extr r 1 S fun y S=>y=x∧S=S0)∧un .not x S fun z S=>onB z fun b=>gd b (∃ A:AV,(∀ T:Store,Keep S T→nilChk y0 T fun B S=>B=A∧S=T)∧∃ C:AV,(∀ T:Store,Keep S T→shift A 4 T fun D S=>D=C∧S=T)∧∃ E:AV,(∀ T:Store,Keep S T→ld1 C T fun F S=>F=E∧S=T)∧∃ G:AV,(∀ T:Store,Keep S T→ldN 2 f T fun H S=>H=G∧S=T)∧updM (.p .i64) E G y15 S fun I S=>bin .add 0 y15 (.v (.int .i64 1)) S fun J S=>KE0 38 (env58_0 y0 y13 y14 J) S) (bin .add 0 y15 (.v (.int .i64 1)) S fun K S=>KE0 38 (env58_0 y0 y13 y14 K) S)) S) (Q (.ret (.t [])) S)
theorem b58_0_eq(y0 y13 y14 y15:AV)(S:Store)(KE0:KeT)(Q:PoT):vc Pg (c58.at_ [1,1,0,0]) (ms58.drop 1) (mkE 38 lv58_0 (env58_0 y0 y13 y14 y15)) S (thenK (fgK lv58_0 KE0) (blockK 0 (bodyK Pg r58 Q)))=b58_0 y0 y13 y14 y15 S KE0 Q:=by kernel_rfl
theorem loop58_0{y0 y13 y14:AV}{y150:AV}{S:Store}{Q:PoT}(I:AV→Store→Prop)(μ:AV→Store→Nat)(h0:I y150 S)
    (hr:∀(y15:AV) (S:Store),I y15 S→∀ KE0:KeT,(∀(y15':AV) (S':Store),I y15' S'→μ y15' S'<μ y15 S→KE0 38 (env58_0 y0 y13 y14 y15') S')→b58_0 y0 y13 y14 y15 S KE0 Q):
    loopV lv58_0 (vc Pg (c58.at_ [1,1,0,0]) (ms58.drop 1)) 38 (env58_0 y0 y13 y14 y150) S (blockK 0 (bodyK Pg r58 Q)):=by
 refine⟨fun n e S=>n=38∧∃ y15:AV,e=(env58_0 y0 y13 y14 y15)∧I y15 S,fun _ e S=>μ (e.getD 3 .j) S,?_,?_⟩
 ·exact⟨_,_,Wk.refl _ _,rfl,_,rfl,h0⟩
 ·rintro _ e S ⟨rfl,y15,rfl,hI⟩
  exact(b58_0_eq _ _ _ _ _ _ _).mpr (hr y15 S hI _ (fun y15' S' hI' hm=>⟨_,_,Wk.refl _ _,⟨rfl,_,rfl,hI'⟩,hm⟩))
def c49:Code:=(Tryd.f49.body).getD .skip
def ms49:List (List Nat):=[[58,57]]
def m49(x0:AV)(S:Store)(Q:PoT):Prop:=
 nilChk x0 S fun a S=>shift a 0 S fun c S=>callF Pg 57 [c,(.f (.func 58) [x0] [])] S Q fun d S=>nilChk x0 S fun e S=>shift e 4 S fun g S=>ld1 g S fun h S=>lenM h S fun i S=>Q (.ret i) S
theorem calls49{x0:AV}{S:Store}{Q:PoT}(h:m49 x0 S Q):ACalls Pg 49 [x0] S Q:=
 calls_of_vc (fn:=Tryd.f49) (c:=c49) (n:=14) Tryd.func49 (by kernel_rfl) (by kernel_rfl) (by kernel_rfl) ms49 (Eq.mpr (by kernel_rfl) h)
def c35:Code:=(Tryd.f35.body).getD .skip
def r35:List ResultVar:=Tryd.f35.results.toList
def env35_0(y1 y2 y27 y28 y29:AV):List AV:=[y1,y2,y27,y28,y29]
def lv35_0:List Nat:=[1,2,27,28,29]
def ms35:List (List Nat):=[lv35_0,[49]]
def m35(x0 x1:AV)(S:Store)(Q:PoT):Prop:=
 boxN 43 2 x0 S fun a S=>shift a 0 S fun c S=>ld1 c S fun d S=>bin .lss 0 d (.v (.int .i64 0)) S fun e S=>onB e fun b=>gd b (Q (.ret (.v (.bool false))) S) (shift a 0 S fun f S=>ld1 f S fun g S=>bin .gtr 0 g (.v (.int .i64 2000)) S fun h S=>onB h fun b=>gd b (Q (.ret (.v (.bool false))) S) (shift a 1 S fun i S=>ld1 i S fun k S=>lenS k S fun l S=>bin .gtr 0 l (.v (.int .i64 2000)) S fun m S=>onB m fun b=>gd b (Q (.ret (.v (.bool false))) S) (ldN 2 a S fun n S=>callF Pg 34 [n] S Q fun o S=>bin .gtr 0 o (.v (.int .i64 2000)) S fun p S=>onB p fun b=>gd b (Q (.ret (.v (.bool false))) S) (shift a 1 S fun q S=>ld1 q S fun r S=>lenS r S fun s S=>loopV lv35_0 (vc Pg (c35.at_ [1,1,0,1,0,0]) (ms35.drop 1)) 49 (env35_0 x1 a r s (.v (.int .i64 0))) S (blockK 0 (seqK (vc Pg (c35.at_ [1,1,1]) (ms35.drop 1)) (bodyK Pg r35 Q)))))))
theorem calls35{x0 x1:AV}{S:Store}{Q:PoT}(h:m35 x0 x1 S Q):ACalls Pg 35 [x0,x1] S Q:=
 calls_of_vc (fn:=Tryd.f35) (c:=c35) (n:=49) Tryd.func35 (by kernel_rfl) (by kernel_rfl) (by kernel_rfl) ms35 (Eq.mpr (by kernel_rfl) h)
def b35_0(y1 y2 y27 y28 y29:AV)(S:Store)(KE0:KeT)(Q:PoT):Prop:=
 bin .lss 0 y29 y28 S fun c S=>onB c fun b=>gd b (ixS 99 2 y27 y29 S fun d S=>ldN 2 d S fun e S=>boxN 99 2 (.a [.v (.int .i64 0),.v (.int .i64 0)]) S fun f S=>stN 2 f e S fun g S=>ldN 2 f S fun h S=>shift y2 0 S fun i S=>ld1 i S fun k S=>bin .add 0 k (.v (.int .i64 1)) S fun l S=>bin .add 0 l y29 S fun m S=>callF Pg 48 [h,m] S Q fun n S=>un .not n S fun o S=>onB o fun b=>gd b (Q (.ret (.v (.bool false))) S) (bin .add 0 y29 (.v (.int .i64 1)) S fun p S=>KE0 49 (env35_0 y1 y2 y27 y28 p) S)) (∃ q:AV,(∀ T:Store,Keep S T→shift y2 1 T fun r S=>r=q∧S=T)∧∃ s:AV,(∀ T:Store,Keep S T→ld1 q T fun t S=>t=s∧S=T)∧∃ u:AV,(∀ T:Store,Keep S T→lenS s T fun w S=>w=u∧S=T)∧callF Pg 49 [y1] S (fun _ _=>False) fun x S=>(∀ T:Store,Keep S T→lenS s T fun y S=>y=u∧S=T)∧(∀ T:Store,Keep S T→ld1 q T fun z S=>z=s∧S=T)∧(∀ T:Store,Keep S T→shift y2 1 T fun A S=>A=q∧S=T)∧∃ B:AV,(∀ T:Store,Keep S T→bin .eql 0 x u T fun C S=>C=B∧S=T)∧Q (.ret B) S)
theorem b35_0_eq(y1 y2 y27 y28 y29:AV)(S:Store)(KE0:KeT)(Q:PoT):vc Pg (c35.at_ [1,1,0,1,0,0]) (ms35.drop 1) (mkE 49 lv35_0 (env35_0 y1 y2 y27 y28 y29)) S (thenK (fgK lv35_0 KE0) (blockK 0 (seqK (vc Pg (c35.at_ [1,1,1]) (ms35.drop 1)) (bodyK Pg r35 Q))))=b35_0 y1 y2 y27 y28 y29 S KE0 Q:=by kernel_rfl
theorem loop35_0{y1 y2 y27 y28:AV}{y290:AV}{S:Store}{Q:PoT}(I:AV→Store→Prop)(μ:AV→Store→Nat)(h0:I y290 S)
    (hr:∀(y29:AV) (S:Store),I y29 S→∀ KE0:KeT,(∀(y29':AV) (S':Store),I y29' S'→μ y29' S'<μ y29 S→KE0 49 (env35_0 y1 y2 y27 y28 y29') S')→b35_0 y1 y2 y27 y28 y29 S KE0 Q):
    loopV lv35_0 (vc Pg (c35.at_ [1,1,0,1,0,0]) (ms35.drop 1)) 49 (env35_0 y1 y2 y27 y28 y290) S (blockK 0 (seqK (vc Pg (c35.at_ [1,1,1]) (ms35.drop 1)) (bodyK Pg r35 Q))):=by
 refine⟨fun n e S=>n=49∧∃ y29:AV,e=(env35_0 y1 y2 y27 y28 y29)∧I y29 S,fun _ e S=>μ (e.getD 4 .j) S,?_,?_⟩
 ·exact⟨_,_,Wk.refl _ _,rfl,_,rfl,h0⟩
 ·rintro _ e S ⟨rfl,y29,rfl,hI⟩
  exact(b35_0_eq _ _ _ _ _ _ _ _).mpr (hr y29 S hI _ (fun y29' S' hI' hm=>⟨_,_,Wk.refl _ _,⟨rfl,_,rfl,hI'⟩,hm⟩))
def c26:Code:=(Tryd.f26.body).getD .skip
def ms26:List (List Nat):=[[35]]
def m26(x0:AV)(S:Store)(Q:PoT):Prop:=
 boxN 43 2 x0 S fun a S=>ldN 2 a S fun c S=>shift a 1 S fun d S=>ld1 d S fun e S=>bld [(0,3),(3,1),(4,1)] [.v (.int .u32 0),.v (.int .i32 0),.v (.int .u32 0),.nl,.v (.map none)] [(1,e)] S fun f S=>boxN 91 5 f S fun g S=>callF Pg 35 [c,g] S Q fun h S=>Q (.ret h) S
theorem calls26{x0:AV}{S:Store}{Q:PoT}(h:m26 x0 S Q):ACalls Pg 26 [x0] S Q:=
 calls_of_vc (fn:=Tryd.f26) (c:=c26) (n:=9) Tryd.func26 (by kernel_rfl) (by kernel_rfl) (by kernel_rfl) ms26 (Eq.mpr (by kernel_rfl) h)
def c34:Code:=(Tryd.f34.body).getD .skip
def ms34:List (List Nat):=[[]]
def m34(x0:AV)(S:Store)(Q:PoT):Prop:=
 boxN 43 2 x0 S fun a S=>shift a 0 S fun c S=>ld1 c S fun d S=>bin .add 0 d (.v (.int .i64 1)) S fun e S=>shift a 1 S fun f S=>ld1 f S fun g S=>lenS g S fun h S=>bin .add 0 e h S fun i S=>Q (.ret i) S
theorem calls34{x0:AV}{S:Store}{Q:PoT}(h:m34 x0 S Q):ACalls Pg 34 [x0] S Q:=
 calls_of_vc (fn:=Tryd.f34) (c:=c34) (n:=10) Tryd.func34 (by kernel_rfl) (by kernel_rfl) (by kernel_rfl) ms34 (Eq.mpr (by kernel_rfl) h)
def c48:Code:=(Tryd.f48.body).getD .skip
def ms48:List (List Nat):=[[]]
def m48(x0 x1:AV)(S:Store)(Q:PoT):Prop:=
 boxN 99 2 x0 S fun a S=>ixA 2 1 a (.v (.int .i64 1)) S fun c S=>ld1 c S fun d S=>bin .geq 0 d (.v (.int .i64 2)) S fun e S=>onB e fun b=>gd b (ixA 2 1 a (.v (.int .i64 0)) S fun f S=>ld1 f S fun g S=>bin .quo 0 g (.v (.int .i64 2)) S fun h S=>ixA 2 1 a (.v (.int .i64 1)) S fun i S=>ld1 i S fun k S=>bin .quo 0 k (.v (.int .i64 2)) S fun l S=>bin .gtr 0 h l S fun m S=>onB m fun b=>gd b (ixA 2 1 a (.v (.int .i64 0)) S fun n S=>ld1 n S fun o S=>bin .quo 0 o (.v (.int .i64 2)) S fun p S=>bin .lss 0 p x1 S fun q S=>Q (.ret q) S) (Q (.ret (.v (.bool false))) S)) (Q (.ret (.v (.bool false))) S)
theorem calls48{x0 x1:AV}{S:Store}{Q:PoT}(h:m48 x0 x1 S Q):ACalls Pg 48 [x0,x1] S Q:=
 calls_of_vc (fn:=Tryd.f48) (c:=c48) (n:=24) Tryd.func48 (by kernel_rfl) (by kernel_rfl) (by kernel_rfl) ms48 (Eq.mpr (by kernel_rfl) h)
def c24:Code:=(Tryd.f24.body).getD .skip
def ms24:List (List Nat):=[[]]
def m24(x0 x1:AV)(S:Store)(Q:PoT):Prop:=
 boxN 43 2 x0 S fun a S=>shift a 0 S fun c S=>ld1 c S fun d S=>bin .geq 0 d (.v (.int .i64 0)) S fun e S=>onB e fun b=>gd b (shift a 0 S fun f S=>ld1 f S fun g S=>bin .leq 0 g (.v (.int .i64 2000)) S fun h S=>onB h fun b=>gd b (bin .geq 0 x1 (.v (.int .i64 0)) S fun i S=>onB i fun b=>gd b (bin .quo 0 x1 (.v (.int .i64 2)) S fun k S=>ldN 2 a S fun l S=>callF Pg 34 [l] S Q fun m S=>bin .lss 0 k m S fun n S=>Q (.ret n) S) (Q (.ret (.v (.bool false))) S)) (Q (.ret (.v (.bool false))) S)) (Q (.ret (.v (.bool false))) S)
theorem calls24{x0 x1:AV}{S:Store}{Q:PoT}(h:m24 x0 x1 S Q):ACalls Pg 24 [x0,x1] S Q:=
 calls_of_vc (fn:=Tryd.f24) (c:=c24) (n:=24) Tryd.func24 (by kernel_rfl) (by kernel_rfl) (by kernel_rfl) ms24 (Eq.mpr (by kernel_rfl) h)
def c77:Code:=(Tryd.f77.body).getD .skip
def ms77:List (List Nat):=[[82]]
def m77(x0:AV)(S:Store)(Q:PoT):Prop:=
 nilChk x0 S fun a S=>shift a 0 S fun c S=>callF Pg 82 [c] S Q fun d S=>Q (.ret (.t [])) S
def c78:Code:=(Tryd.f78.body).getD .skip
def ms78:List (List Nat):=[[83]]
def m78(x0 x1:AV)(S:Store)(Q:PoT):Prop:=
 ∃ a:AV,(∀ T:Store,Keep S T→nilChk x0 T fun c S=>c=a∧S=T)∧∃ d:AV,(∀ T:Store,Keep S T→shift a 0 T fun e S=>e=d∧S=T)∧∃ f:AV,(∀ T:Store,Keep S T→callF Pg 84 [x1] T (fun _ _=>False) fun g S=>g=f∧S=T)∧callF Pg 83 [d,f] S (fun _ _=>False) fun h S=>Q (.ret (.t [])) S
def c66:Code:=(Tryd.f66.body).getD .skip
def ms66:List (List Nat):=[[]]
def m66(x0:AV)(S:Store)(Q:PoT):Prop:=
 nilChk x0 S fun a S=>shift a 0 S fun c S=>callF Pg 75 [c] S Q fun d S=>bin .neq 0 d (.v (.int .u32 0)) S fun e S=>Q (.ret e) S
theorem calls66{x0:AV}{S:Store}{Q:PoT}(h:m66 x0 S Q):ACalls Pg 66 [x0] S Q:=
 calls_of_vc (fn:=Tryd.f66) (c:=c66) (n:=8) Tryd.func66 (by kernel_rfl) (by kernel_rfl) (by kernel_rfl) ms66 (Eq.mpr (by kernel_rfl) h)
def c76:Code:=(Tryd.f76.body).getD .skip
def ms76:List (List Nat):=[[81]]
def m76(x0:AV)(S:Store)(Q:PoT):Prop:=
 nilChk x0 S fun a S=>shift a 0 S fun c S=>callF Pg 81 [c] S Q fun d S=>Q (.ret (.t [])) S
theorem calls76{x0:AV}{S:Store}{Q:PoT}(h:m76 x0 S Q):ACalls Pg 76 [x0] S Q:=
 calls_of_vc (fn:=Tryd.f76) (c:=c76) (n:=6) Tryd.func76 (by kernel_rfl) (by kernel_rfl) (by kernel_rfl) ms76 (Eq.mpr (by kernel_rfl) h)
def c81:Code:=(Tryd.f81.body).getD .skip
def ms81:List (List Nat):=[[86]]
def m81(x0:AV)(S:Store)(Q:PoT):Prop:=
 callF Pg 85 [] S Q fun a S=>nilChk x0 S fun c S=>shift c 0 S fun d S=>callF Pg 86 [d,.v (.int .i32 0),.v (.int .i32 1)] S Q fun e S=>onB e fun b=>gd b (callF Pg 87 [] S Q fun f S=>convU x0 S fun g S=>callF Pg 88 [g] S Q fun h S=>Q (.ret (.t [])) S) (callF Pg 89 [x0] S Q fun i S=>Q (.ret (.t [])) S)
theorem calls81{x0:AV}{S:Store}{Q:PoT}(h:m81 x0 S Q):ACalls Pg 81 [x0] S Q:=
 calls_of_vc (fn:=Tryd.f81) (c:=c81) (n:=13) Tryd.func81 (by kernel_rfl) (by kernel_rfl) (by kernel_rfl) ms81 (Eq.mpr (by kernel_rfl) h)
def c82:Code:=(Tryd.f82.body).getD .skip
def ms82:List (List Nat):=[[91]]
def m82(x0:AV)(S:Store)(Q:PoT):Prop:=
 nilChk x0 S fun a S=>shift a 0 S fun c S=>ld1 c S fun d S=>convU x0 S fun e S=>callF Pg 90 [e] S Q fun f S=>callF Pg 85 [] S Q fun g S=>nilChk x0 S fun h S=>shift h 0 S fun i S=>callF Pg 91 [i,.v (.int .i32 (-1))] S Q fun k S=>bin .neq 0 k (.v (.int .i32 0)) S fun l S=>onB l fun b=>gd b (callF Pg 92 [x0,k] S Q fun m S=>callF Pg 87 [] S Q fun n S=>Q (.ret (.t [])) S) (callF Pg 87 [] S Q fun o S=>Q (.ret (.t [])) S)
theorem calls82{x0:AV}{S:Store}{Q:PoT}(h:m82 x0 S Q):ACalls Pg 82 [x0] S Q:=
 calls_of_vc (fn:=Tryd.f82) (c:=c82) (n:=21) Tryd.func82 (by kernel_rfl) (by kernel_rfl) (by kernel_rfl) ms82 (Eq.mpr (by kernel_rfl) h)
def c84:Code:=(Tryd.f84.body).getD .skip
def ms84:List (List Nat):=[[]]
def m84(x0:AV)(S:Store)(Q:PoT):Prop:=
 onB x0 fun b1=>gd b1 (Q (.ret (.v (.int .u32 1))) S) (Q (.ret (.v (.int .u32 0))) S)
theorem calls84{x0:AV}{S:Store}{Q:PoT}(h:m84 x0 S Q):ACalls Pg 84 [x0] S Q:=
 calls_of_vc (fn:=Tryd.f84) (c:=c84) (n:=4) Tryd.func84 (by kernel_rfl) (by kernel_rfl) (by kernel_rfl) ms84 (Eq.mpr (by kernel_rfl) h)
def c57:Code:=(Tryd.f57.body).getD .skip
def ms57:List (List Nat):=[[67]]
def m57(x0 x1:AV)(S:Store)(Q:PoT):Prop:=
 nilChk x0 S fun a S=>shift a 0 S fun c S=>callF Pg 66 [c] S Q fun d S=>un .not d S fun e S=>onB e fun b=>gd b (callF Pg 67 [x0,x1] S Q fun f S=>Q (.ret (.t [])) S) (Q (.ret (.t [])) S)
theorem calls57{x0 x1:AV}{S:Store}{Q:PoT}(h:m57 x0 x1 S Q):ACalls Pg 57 [x0,x1] S Q:=
 calls_of_vc (fn:=Tryd.f57) (c:=c57) (n:=12) Tryd.func57 (by kernel_rfl) (by kernel_rfl) (by kernel_rfl) ms57 (Eq.mpr (by kernel_rfl) h)
end
def c67:Code:=(Tryd.f67.body).getD .skip
def r67:List ResultVar:=Tryd.f67.results.toList
def m67(x0 x1:AV)(S:Store)(Q:AEnd→Store→Prop):Prop:=
 nilChk x0 S fun v1 S=>shift v1 1 S fun v2 S=>callF Pg 76 [v2] S (fun _ _=>False) fun v3 S=>nilChk x0 S fun v4 S=>shift v4 1 S fun v5 S=>nilChk x0 S fun v6 S=>shift v6 0 S fun v7 S=>callF Pg 66 [v7] S (fun _ _=>False) fun v8 S=>un .not v8 S fun v9 S=>onB v9 fun b10 =>
  gd b10 (nilChk x0 S fun v11 S=>shift v11 0 S fun v12 S=>callV Pg x1 [] S (fun v13 S=>ADCalls Pg 78 [v12,.v (.bool true)] S fun e S=>match e with
      |.ret _=>ADCalls Pg 77 [v5] S fun e S=>match e with|.ret _=>Q (.ret (.t [])) S|.pan _=>False
      |.pan _=>False) (fun _ _=>False))
   (ADCalls Pg 77 [v5] S fun e S=>match e with|.ret _=>Q (.ret (.t [])) S|.pan _=>False)
set_option maxRecDepth 100000 in
theorem m67_eq:(fun(x0 x1:AV) (S:Store) (Q:AEnd→Store→Prop)=>vcT Pg c67 [] (ofArgs 21 [x0,x1]) S [] (bodyT Pg r67 Q))=(fun(x0 x1:AV) (S:Store) (Q:AEnd→Store→Prop)=>m67 x0 x1 S Q):=by kernel_rfl
theorem calls67{x0 x1:AV}{S:Store}{Q:AEnd→Store→Prop}(h:m67 x0 x1 S Q):ACalls Pg 67 [x0,x1] S Q:=
 calls_of_vcT (fn:=Tryd.f67) (c:=c67) (n:=21) Tryd.func67 (by kernel_rfl) (by kernel_rfl) (by kernel_rfl) [] ((congrFun (congrFun (congrFun (congrFun m67_eq x0) x1) S) Q).mpr h)
theorem dcalls77{x0:AV}{S:Store}{Q:AEnd→Store→Prop}(h:m77 x0 S Q):ADCalls Pg 77 [x0] S Q:=
 dcalls_of_vc (fn:=Tryd.f77) (c:=c77) (n:=6) Tryd.func77 (by kernel_rfl) (by kernel_rfl) (by kernel_rfl) ms77 (Eq.mpr (by kernel_rfl) h)
theorem dcalls78{x0 x1:AV}{S:Store}{Q:AEnd→Store→Prop}(h:m78 x0 x1 S Q):ADCalls Pg 78 [x0,x1] S Q:=
 dcalls_of_vc (fn:=Tryd.f78) (c:=c78) (n:=10) Tryd.func78 (by kernel_rfl) (by kernel_rfl) (by kernel_rfl) ms78 (Eq.mpr (by kernel_rfl) h)
theorem nt85:NoText Pg 85 Tryd.f85:=⟨Tryd.func85,by kernel_rfl,by kernel_rfl,by kernel_rfl⟩
theorem nt87:NoText Pg 87 Tryd.f87:=⟨Tryd.func87,by kernel_rfl,by kernel_rfl,by kernel_rfl⟩
theorem nt88:NoText Pg 88 Tryd.f88:=⟨Tryd.func88,by kernel_rfl,by kernel_rfl,by kernel_rfl⟩
theorem nt90:NoText Pg 90 Tryd.f90:=⟨Tryd.func90,by kernel_rfl,by kernel_rfl,by kernel_rfl⟩
theorem nt75:NoText Pg 75 Tryd.f75:=⟨Tryd.func75,by kernel_rfl,by kernel_rfl,by kernel_rfl⟩
theorem nt83:NoText Pg 83 Tryd.f83:=⟨Tryd.func83,by kernel_rfl,by kernel_rfl,by kernel_rfl⟩
theorem nt86:NoText Pg 86 Tryd.f86:=⟨Tryd.func86,by kernel_rfl,by kernel_rfl,by kernel_rfl⟩
theorem nt91:NoText Pg 91 Tryd.f91:=⟨Tryd.func91,by kernel_rfl,by kernel_rfl,by kernel_rfl⟩
abbrev aW32(n:Int):AV:=.v (.int .u32 n)
abbrev aS32(n:Int):AV:=.v (.int .i32 n)
section
variable {S:Store} {Q:AEnd→Store→Prop}
theorem mark85{Q:AEnd→Store→Prop}{K:AV→Store→Prop}(k:K (.t []) S):callF Pg 85 [] S Q K:=.inr (ext_mark0 nt85 .disable (by kernel_rfl) k)
theorem mark87{K:AV→Store→Prop}(k:K (.t []) S):callF Pg 87 [] S Q K:=.inr (ext_mark0 nt87 .enable (by kernel_rfl) k)
theorem mark88{K:AV→Store→Prop}{id i j:Nat}(k:K (.t []) S):callF Pg 88 [.p id i j] S Q K:=.inr (ext_mark1 nt88 .acquire (by kernel_rfl) k)
theorem mark90{K:AV→Store→Prop}{id i j:Nat}(k:K (.t []) S):callF Pg 90 [.p id i j] S Q K:=.inr (ext_mark1 nt90 .releaseMerge (by kernel_rfl) k)
end
@[simp] theorem nilChk_p(id i j:Nat)(S:Store)(K:AV→Store→Prop):nilChk (.p id i j) S K=K (.p id i j) S:=rfl
theorem upd_upd(S:Store)(id:Nat)(o o':AObj):(S.upd id o).upd id o'=S.upd id o':=by
 unfold Store.upd
 congr 1
 funext i
 by_cases h:i=id<;>simp[h]
def onceO(t:TypeId)(done st:Int)(z:AV)(c:List AV):AObj:=.cells t [aW32 done :: aS32 st :: z :: c] true
section
variable {S:Store} {Q:AEnd→Store→Prop} {id t:Nat} {done st:Int} {z:AV} {c:List AV}
theorem load_once(h:S.obj id=some (onceO t done st z c))(k:Q (.ret (aB (!decide (done=0)))) S):ACalls Pg 66 [.p id 0 0] S Q:=by
 refine calls66 ?_
 unfold m66
 rw[nilChk_p,shift_p]
 refine .inr (ext_load nt75 .u32 (by kernel_rfl) h rfl rfl ?_)
 show bin .neq 0 (aW32 done) (aW32 0) S _
 rw[bin_neq]
 exact k
theorem lock_once(h:S.obj id=some (onceO t done 0 z c))(k:Q (.ret (.t [])) (S.upd id (onceO t done 1 z c))):ACalls Pg 76 [.p id 0 1] S Q:=by
 refine calls76 ?_
 unfold m76
 rw[nilChk_p,shift_p]
 refine .inl (calls81 ?_)
 unfold m81
 refine mark85 ?_
 rw[nilChk_p,shift_p]
 refine .inr (ext_cas nt86 .i32 (by kernel_rfl) h rfl rfl ?_)
 show onB _ _
 rw[onB_v,gd_true]
 refine mark87 ⟨aS32 1,?_,mark88 k⟩
 simp[rd1,place,Store.get]
theorem unlock_once(h:S.obj id=some (onceO t done 1 z c))(k:Q (.ret (.t [])) (S.upd id (onceO t done 0 z c))):ADCalls Pg 77 [.p id 0 1] S Q:=by
 refine dcalls77 ?_
 unfold m77
 rw[nilChk_p,shift_p]
 refine .inl (calls82 ?_)
 unfold m82
 rw[nilChk_p,shift_p,ld1_p h rfl rfl]
 refine⟨aS32 1,by simp[rd1,place,Store.get,h,onceO],mark90 (mark85 ?_)⟩
 rw[nilChk_p,shift_p]
 refine .inr (ext_add nt91 .i32 (by kernel_rfl) h rfl rfl ?_)
 show bin .neq 0 (aS32 (IntKind.i32.wrap (1 + -1))) (aS32 0) _ _
 have:IntKind.i32.wrap (1 + -1)=0:=by decide
 rw[this,bin_neq,onB_v]
 simp only[decide_true,Bool.not_true,gd_false]
 exact mark87 k
theorem store_once(h:S.obj id=some (onceO t done st z c))(k:Q (.ret (.t [])) (S.upd id (onceO t 1 st z c))):ADCalls Pg 78 [.p id 0 0,aB true] S Q:=by
 refine dcalls78 ?_
 unfold m78
 have hb:∀ T,ACalls Pg 84 [aB true] T (fun e S'=>e = .ret (aW32 1)∧S'=T):=fun T=>by
  refine calls84 ?_
  unfold m84
  rw[onB_v,gd_true]
  exact⟨rfl,rfl⟩
 refine⟨.p id 0 0,fun T _=>⟨rfl,rfl⟩,.p id 0 0,fun T _=>⟨rfl,rfl⟩,aW32 1,fun T _=>callF_at (hb T) ⟨rfl,rfl⟩,?_⟩
 exact .inr (ext_store nt83 (by kernel_rfl) h rfl rfl k)
theorem do_once(h:S.obj id=some (onceO t 0 0 z c)){f:AV}(hf:callV Pg f [] (S.upd id (onceO t 0 1 z c)) (fun _ S2=>∃ c',S2.obj id=some (onceO t 0 1 z c')∧Q (.ret (.t [])) (S2.upd id (onceO t 1 0 z c'))) (fun _ _=>False)):ACalls Pg 57 [.p id 0 0,f] S Q:=by
 refine calls57 ?_
 unfold m57
 rw[nilChk_p,shift_p]
 refine .inl (load_once h ?_)
 show un .not (aB (!decide ((0:Int)=0))) S _
 rw[un_not,onB_v]
 refine .inl (calls67 ?_)
 unfold m67
 rw[nilChk_p,shift_p]
 refine .inl (lock_once h ?_)
 show nilChk _ _ _
 rw[nilChk_p,shift_p,nilChk_p,shift_p]
 refine .inl (load_once (upd_self _ _) ?_)
 show un .not (aB (!decide ((0:Int)=0))) _ _
 rw[un_not,onB_v]
 show gd true _ _
 rw[gd_true,nilChk_p,shift_p]
 refine callV_mono hf (fun v S2 h2=>?_) (fun _ _ h=>h)
 obtain⟨c',h3,h4⟩:=h2
 refine store_once h3 (unlock_once (upd_self _ _) ?_)
 show Q (.ret (.t [])) _
 rw[upd_upd]
 exact h4
end
def pL(l:List (Int × Int)):AV:=.l (l.map fun p=>[aI p.1,aI p.2])
structure Gr where
 inputs:Int
 ands:List (Int × Int)
 deriving DecidableEq
def Gr.cells(g:Gr):List AV:=[aI g.inputs,pL g.ands]
def Gr.av(g:Gr):AV:=.a g.cells
def Gr.vars(g:Gr):Int:=g.inputs+1+g.ands.length
def i64R(a:Int):Prop:=-9223372036854775808≤a∧a≤9223372036854775807
structure Gr.ok (g:Gr):Prop where
 inp:i64R g.inputs
 len:g.ands.length≤1000000
 pairs:∀ p∈g.ands,i64R p.1∧i64R p.2
def may(p:Int × Int)(v:Int):Bool:=decide (2≤p.2) && (decide (p.2.tdiv 2<p.1.tdiv 2) && decide (p.1.tdiv 2<v))
def Gr.right(g:Gr):Bool:=decide (0≤g.inputs) && (decide (g.inputs≤2000) && (decide ((g.ands.length:Int)≤2000) && (decide (g.vars≤2000) &&
 ((List.range g.ands.length).all (fun i=>may (g.ands.getD i (0,0)) (g.inputs+1+i)) && decide g.ands.Nodup))))
def Gr.lit(g:Gr)(l:Int):Bool:=decide (0≤g.inputs) && (decide (g.inputs≤2000) && (decide (0≤l) && decide (l.tdiv 2<g.vars)))
@[simp] theorem lenS_pL(l:List (Int × Int)){S:Store}{K:AV→Store→Prop}:lenS (pL l) S K=K (aI l.length) S:=by simp[pL]
theorem ixS_pL{l:List (Int × Int)}{e i:Nat}{S:Store}{K:AV→Store→Prop}(h:i<l.length):ixS e 2 (pL l) (aI i) S K=K (.q [aI l[i].1,aI l[i].2] 0) S:=by
 unfold pL
 rw[ixS_l (by simpa using h) (by simp)]
 simp
@[simp] theorem ldN_q2{u v:AV}{S:Store}{K:AV→Store→Prop}:ldN 2 (.q [u,v] 0) S K=K (.a [u,v]) S:=by simp[ldN,rdN,place]
theorem tdiv2{a:Int}(h:i64R a):-9223372036854775808≤a.tdiv 2∧a.tdiv 2≤9223372036854775807:=by
 obtain⟨h1,h2⟩:=h
 rcases Int.le_total 0 a with h|h
 ·rw[Int.tdiv_eq_ediv_of_nonneg h];omega
 ·have:a.tdiv 2 = -((-a).tdiv 2):=by rw[Int.neg_tdiv,Int.neg_neg]
  rw[this,Int.tdiv_eq_ediv_of_nonneg (by omega)];omega
theorem bin_half{a:Int}(h:i64R a){S:Store}{K:AV→Store→Prop}:bin .quo 0 (aI a) (.v (.int .i64 2)) S K=K (aI (a.tdiv 2)) S:=bin_quo (by decide) (tdiv2 h).1 (tdiv2 h).2 0
theorem ixA_p{n sz id:Nat}{z:Nat}{S:Store}{K:AV→Store→Prop}(hz:z<n):ixA n sz (.p id 0 0) (aI z) S K=K (.p id 0 (z*sz)) S:=by
 unfold ixA
 simp only[intA,optP_some,Int.toNat_natCast,shift_p,Nat.zero_add]
 exact propext ⟨fun h=>h.2,fun h=>⟨⟨by omega,by omega⟩,h⟩⟩
theorem ans34{g:Gr}(hg:g.ok)(hi:g.inputs≤1000000)(h0:0≤g.inputs):Ans Pg 34 [g.av] (aI g.vars):=by
 intro S
 have hl:=hg.len
 refine ACalls.ans_v (calls34 ?_)
 unfold m34 Gr.av
 refine boxA_of rfl fun S1 k1 n1 o1=>?_
 rw[shift_p,ld1_p o1 rfl rfl,bin_add (by omega) (by omega),shift_p,ld1_p o1 rfl rfl,lenS_pL,bin_add (by omega) (by omega)]
 exact⟨rfl,k1⟩
theorem ans48{p:Int × Int}{v:Int}(h:i64R p.1∧i64R p.2):Ans Pg 48 [.a [aI p.1,aI p.2],aI v] (aB (may p v)):=by
 intro S
 refine ACalls.ans_v (calls48 ?_)
 unfold m48 may
 refine boxA_of rfl fun S1 k1 n1 o1=>?_
 have e1:∀ K:AV→Store→Prop,ixA 2 1 (.p S.n 0 0) (.v (.int .i64 1)) S1 K=K (.p S.n 0 1) S1:=fun K=>ixA_p (z:=1) (by decide)
 have e0:∀ K:AV→Store→Prop,ixA 2 1 (.p S.n 0 0) (.v (.int .i64 0)) S1 K=K (.p S.n 0 0) S1:=fun K=>ixA_p (z:=0) (by decide)
 rw[e1,ld1_p o1 rfl rfl,bin_geq,onB_v]
 refine gd_of (fun h1=>?_) (fun h1=>⟨by simp only[h1,Bool.false_and],k1⟩)
 rw[e0,ld1_p o1 rfl rfl,bin_half h.1,e1,ld1_p o1 rfl rfl,bin_half h.2,bin_gtr,onB_v]
 refine gd_of (fun h2=>?_) (fun h2=>⟨by simp only[h1,h2,Bool.false_and,Bool.true_and],k1⟩)
 rw[e0,ld1_p o1 rfl rfl,bin_half h.1,bin_lss]
 exact⟨by simp only[h1,h2,Bool.true_and],k1⟩
theorem ans24{g:Gr}{l:Int}(hg:g.ok)(hl:i64R l):Ans Pg 24 [g.av,aI l] (aB (g.lit l)):=by
 intro S
 refine ACalls.ans_v (calls24 ?_)
 unfold m24 Gr.av Gr.lit
 refine boxA_of rfl fun S1 k1 n1 o1=>?_
 rw[shift_p,ld1_p o1 rfl rfl,bin_geq,onB_v]
 refine gd_of (fun h1=>?_) (fun h1=>⟨by simp only[h1,Bool.false_and],k1⟩)
 rw[shift_p,ld1_p o1 rfl rfl,bin_leq,onB_v]
 refine gd_of (fun h2=>?_) (fun h2=>⟨by simp only[h1,h2,Bool.false_and,Bool.true_and],k1⟩)
 rw[bin_geq,onB_v]
 refine gd_of (fun h3=>?_) (fun h3=>⟨by simp only[h1,h2,h3,Bool.false_and,Bool.true_and],k1⟩)
 rw[bin_half hl,ldN_p (n:=2) o1 rfl]
 refine callF_ans (ans34 hg (by have:=dT h2;omega) (dT h1)) ?_
 rw[bin_lss]
 exact⟨by simp only[h1,h2,h3,Bool.true_and],k1⟩
def gat(l:List (Int × Int)):Nat→List (Key × AV)
 |0=>[]
 |i+1=>match kix (gat l i) (.p (l.getD i (0,0)).1 (l.getD i (0,0)).2)with
  |some _=>gat l i
  |none=>gat l i ++ [(.p (l.getD i (0,0)).1 (l.getD i (0,0)).2,aI i)]
theorem kix_none{es:List (Key × AV)}{k:Key}:kix es k=none↔k∉es.map (·.1):=by
 unfold kix
 rw[List.findIdx?_eq_none_iff]
 simp only[List.mem_map,not_exists,not_and]
 constructor
 ·intro h x hx e
  have:=h x hx
  simp[e]at this
 ·intro h x hx
  simpa using h x hx
theorem gat_keys{l:List (Int × Int)}:∀{i:Nat},i≤l.length→∀ k,k∈(gat l i).map (·.1)↔∃ p∈l.take i,k = .p p.1 p.2
 |0,_,k=>by simp[gat]
 |i+1,h,k=>by
  have ih:=gat_keys (l:=l) (i:=i) (by omega)
  have hi:i<l.length:=by omega
  have hg:l.getD i (0,0)=l[i]:=by simp[List.getD_eq_getElem?_getD,hi]
  rw[List.take_add_one,List.getElem?_eq_getElem hi]
  unfold gat
  rw[hg]
  split
  ·rename_i j hj
   rw[ih]
   have hm:Key.p l[i].1 l[i].2∈(gat l i).map (·.1):=by
    by_cases c:Key.p l[i].1 l[i].2∈(gat l i).map (·.1)
    ·exact c
    ·rw[kix_none.2 c]at hj;cases hj
   constructor
   ·rintro⟨p,hp,e⟩
    exact⟨p,List.mem_append_left _ hp,e⟩
   ·rintro⟨p,hp,e⟩
    rcases List.mem_append.1 hp with hp|hp
    ·exact⟨p,hp,e⟩
    ·have:p=l[i]:=by simpa using hp
     subst this
     rw[e];exact(ih _).1 hm
  ·rw[List.map_append,List.mem_append,ih]
   constructor
   ·rintro(⟨p,hp,e⟩|hk)
    ·exact⟨p,List.mem_append_left _ hp,e⟩
    ·exact⟨l[i],List.mem_append_right _ (by simp),by simpa using hk⟩
   ·rintro⟨p,hp,e⟩
    rcases List.mem_append.1 hp with hp|hp
    ·exact .inl ⟨p,hp,e⟩
    ·have:p=l[i]:=by simpa using hp
     subst this
     exact .inr (by simp[e])
theorem gat_le(l:List (Int × Int)):∀ i:Nat,(gat l i).length≤i
 |0=>Nat.le_refl _
 |i+1=>by
  have:=gat_le l i
  unfold gat
  split
  ·omega
  ·simp;omega
theorem gat_all{l:List (Int × Int)}:∀{i:Nat},i≤l.length→((gat l i).length=i↔(l.take i).Nodup)
 |0,_=>by simp[gat]
 |i+1,h=>by
  have ih:=gat_all (l:=l) (i:=i) (by omega)
  have hi:i<l.length:=by omega
  have hk:=gat_keys (l:=l) (i:=i) (by omega) (.p l[i].1 l[i].2)
  have hle:=gat_le l i
  have hg:l.getD i (0,0)=l[i]:=by simp[List.getD_eq_getElem?_getD,hi]
  rw[List.take_add_one,List.getElem?_eq_getElem hi,List.nodup_append]
  unfold gat
  rw[hg]
  split
  ·rename_i j hj
   have hm:Key.p l[i].1 l[i].2∈(gat l i).map (·.1):=by
    by_cases c:Key.p l[i].1 l[i].2∈(gat l i).map (·.1)
    ·exact c
    ·rw[kix_none.2 c]at hj;cases hj
   obtain⟨p,hp,e⟩:=hk.1 hm
   constructor
   ·intro h;omega
   ·rintro⟨_,_,h3⟩
    refine absurd ?_ (h3 p hp l[i] (by simp))
    simp only[Key.p.injEq]at e
    exact Prod.ext e.1.symm e.2.symm
  ·rename_i hn
   rw[kix_none,hk]at hn
   rw[List.length_append,List.length_singleton,Nat.add_right_cancel_iff,ih]
   constructor
   ·intro h
    refine⟨h,by simp,fun a ha b hb=>?_⟩
    have:b=l[i]:=by simpa using hb
    subst this
    rintro rfl
    exact hn ⟨_,ha,rfl⟩
   ·exact fun h=>h.1
@[simp] theorem extr0{x:AV}{l:List AV}{S:Store}{K:AV→Store→Prop}:extr (.t (x :: l)) 0 S K=K x S:=by simp[extr]
@[simp] theorem extr1{x y:AV}{l:List AV}{S:Store}{K:AV→Store→Prop}:extr (.t (x :: y :: l)) 1 S K=K y S:=by simp[extr]
@[simp] theorem extr2{x y z:AV}{l:List AV}{S:Store}{K:AV→Store→Prop}:extr (.t (x :: y :: z :: l)) 2 S K=K z S:=by simp[extr]
theorem lkM_m{S:Store}{kk:KK}{z:AV}{c:Bool}{id:Nat}{k:AV}{key:Key}{es:List (Key × AV)}{lv:Bool}{K:AV→Store→Prop}(h:S.obj id=some (.map kk es lv))(hk:keyA kk k=some key):lkM kk z c (.m id) k S K=K (lkV z c (lkp es key)) S:=by
 simp[lkM,entsA,h,hk]
theorem updM_m{S:Store}{kk:KK}{id:Nat}{k v:AV}{key:Key}{es:List (Key × AV)}{K:AV→Store→Prop}(h:S.obj id=some (.map kk es true))(hk:keyA kk k=some key):updM kk (.m id) k v S K=K .j (S.upd id (.map kk (insM es key v) true)):=by
 simp[updM,h,hk]
theorem lenM_m{S:Store}{kk:KK}{id:Nat}{es:List (Key × AV)}{lv:Bool}{K:AV→Store→Prop}(h:S.obj id=some (.map kk es lv)):lenM (.m id) S K=K (aI es.length) S:=by
 simp[lenM,h]
theorem keyP(a b:Int):keyA (.p .i64) (.a [aI a,aI b])=some (.p a b):=by simp[keyA]
theorem lkp_isSome(es:List (Key × AV))(k:Key):(lkp es k).isSome=(kix es k).isSome:=by
 cases h:kix es k with
 |none=>simp[lkp,h]
 |some i =>
  obtain⟨e,h1,h2⟩:=lkp_row (kk:=.s) h
  simp[h2]
theorem make_once{S:Store}{id:Nat}{z g0:AV}{d st:Int}{l:List (Int × Int)}{Q:AEnd→Store→Prop}(hl:l.length≤1000000)(hid:id<S.n)(h:S.obj id=some (onceO 91 d st z [pL l,g0]))
    (k:∀ S2 m,S.n≤S2.n→(∀ x,x<S.n→x≠id→S2.obj x=S.obj x)→m≠id→S2.obj id=some (onceO 91 d st z [pL l,.m m])→S2.obj m=some (.map (.p .i64) (gat l l.length) true)→Q (.ret (.t [])) S2):
    ACalls Pg 58 [.p id 0 0] S Q:=by
 refine calls58 ?_
 unfold m58 mkM
 have h':=(new_lt (o:=.map (.p .i64) [] true) hid).trans h
 show nilChk _ _ _
 rw[nilChk_p,shift_p]
 refine stF_of h' (by simp) rfl fun S1 n1 o1 f1=>?_
 rw[nilChk_p,shift_p,ld1_p o1 rfl rfl,lenS_pL]
 have hm:S.n≠id:=by omega
 refine loop58_0 (fun y S'=>S.n<S'.n∧(∀ x,x<S.n→x≠id→S'.obj x=S.obj x)∧S'.obj id=some (onceO 91 d st z [pL l,.m S.n])∧∃ i:Nat,y=aI i∧i≤l.length∧S'.obj S.n=some (.map (.p .i64) (gat l i) true))
  (fun y _=>l.length - ((intA y).getD 0).toNat) ⟨by rw[n1,new_n];omega,fun x hx hne=>by rw[f1 x hne,new_lt hx],o1,0,rfl,Nat.zero_le _,by rw[f1 _ hm,new_self];rfl⟩ ?_
 rintro _ S2 ⟨n2,f2,o2,i,rfl,hi,m2⟩ KE hKE
 unfold b58_0
 rw[bin_lss,onB_v]
 refine gd_of (fun hlt=>?_) (fun hge=>?_)
 ·have hlt:i<l.length:=by simpa using hlt
  have hg:l.getD i (0,0)=l[i]:=by simp[List.getD_eq_getElem?_getD,hlt]
  rw[ixS_pL hlt,ldN_q2]
  refine boxA_of rfl fun S3 k3 n3 o3=>?_
  refine stA_of o3 rfl rfl fun S4 n4 o4 f4=>?_
  have p4:S4.obj id=_:=(f4 id (by omega)).trans ((k3.2 id (by omega)).trans o2)
  have q4:S4.obj S.n=_:=(f4 S.n (by omega)).trans ((k3.2 S.n n2).trans m2)
  have r4:∀ x,x<S.n→x≠id→S4.obj x=S.obj x:=fun x hx hne=>(f4 x (by omega)).trans ((k3.2 x (by omega)).trans (f2 x hx hne))
  show ∃ q15:AV,_
  refine⟨_,by rw[nilChk_p];exact⟨rfl,rfl⟩,_,by rw[shift_p];exact⟨rfl,rfl⟩,_,by rw[ld1_p p4 rfl rfl];exact⟨rfl,rfl⟩,_,by rw[ldN_p (n:=2) o4 rfl];exact⟨rfl,rfl⟩,_,by rw[lkM_m q4 (keyP _ _)];exact⟨rfl,rfl⟩,_,by rw[lkV,extr0];exact⟨rfl,rfl⟩,_,by rw[lkV,extr1];exact⟨rfl,rfl⟩,?_⟩
  rw[lkp_isSome,un_not,onB_v]
  have hadd:∀ K:AV→Store→Prop,∀ S,bin .add 0 (.v (.int .i64 (i:Int))) (.v (.int .i64 1)) S K=K (aI (i+1:Nat)) S:=fun K S=>bin_add (by omega) (by omega) 0
  have hμ:l.length - ((intA (aI (i+1:Nat))).getD 0).toNat<l.length - ((intA (aI i)).getD 0).toNat:=by simp[intA];omega
  refine gd_of (fun hn=>?_) (fun hn=>?_)
  ·have hn:kix (gat l i) (.p l[i].1 l[i].2)=none:=by simpa using hn
   refine⟨_,fun T hT=>by rw[nilChk_p];exact⟨rfl,rfl⟩,_,fun T hT=>by rw[shift_p];exact⟨rfl,rfl⟩,_,fun T hT=>by rw[ld1_p ((hT.2 id (by omega)).trans p4) rfl rfl];exact⟨rfl,rfl⟩,_,fun T hT=>by rw[ldN_p (n:=2) ((hT.2 _ (by omega)).trans o4) rfl];exact⟨rfl,rfl⟩,?_⟩
   rw[updM_m q4 (keyP _ _),hadd]
   refine hKE _ _ ⟨by simp;omega,fun x hx hne=>by rw[upd_ne (by omega)];exact r4 x hx hne,by rw[upd_ne (by omega)];exact p4,i+1,rfl,hlt,?_⟩ hμ
   rw[upd_self]
   simp only[gat,hg,hn,insM_none hn]
  ·obtain⟨j,hj⟩:∃ j,kix (gat l i) (.p l[i].1 l[i].2)=some j:=by
     cases e:kix (gat l i) (.p l[i].1 l[i].2)with
     |none=>simp[e]at hn
     |some j=>exact⟨j,rfl⟩
   rw[hadd]
   refine hKE _ _ ⟨by omega,r4,p4,i+1,rfl,hlt,?_⟩ hμ
   rw[q4]
   simp only[gat,hg,hj]
 ·have hge:i=l.length:=by simp at hge;omega
  subst hge
  exact k S2 S.n (by omega) f2 hm o2 m2
theorem many_once{S:Store}{id:Nat}{z g0:AV}{l:List (Int × Int)}{Q:AEnd→Store→Prop}(hl:l.length≤1000000)(hid:id<S.n)(h:S.obj id=some (onceO 91 0 0 z [pL l,g0]))
    (k:∀ S2,S.n≤S2.n→(∀ x,x<S.n→x≠id→S2.obj x=S.obj x)→Q (.ret (aI (gat l l.length).length)) S2):
    ACalls Pg 49 [.p id 0 0] S Q:=by
 refine calls49 ?_
 unfold m49
 rw[nilChk_p,shift_p]
 refine .inl (do_once h (.inl (make_once hl (by simpa using hid) (upd_self _ _) fun S2 m n2 f2 hm o2 m2=>⟨_,o2,?_⟩)))
 show nilChk _ _ _
 rw[nilChk_p,shift_p,ld1_p (show(S2.upd id (onceO 91 1 0 z [pL l,.m m])).obj id=some (.cells 91 [[aW32 1,aS32 0,z,pL l,.m m]] true)from upd_self _ _) rfl rfl]
 rw[lenM_m (by rw[upd_ne hm];exact m2)]
 refine k _ (by simpa using n2) fun x hx hne=>?_
 rw[upd_ne hne,f2 x (by simpa using hx) hne,upd_ne hne]
theorem bld_of{pl:List (Nat × Nat)}{zc:List AV}{parts:List (Nat × AV)}{S:Store}{K:AV→Store→Prop}{cs:List AV}(h:fillA (fun i=>pl[i]?) zc parts=some cs):bld pl zc parts S K=K (.a cs) S:=by
 simp[bld,h]
theorem right_of{g:Gr}(hg:g.ok){S:Store}{id:Nat}(hid:id<S.n){z g0:AV}(h:S.obj id=some (onceO 91 0 0 z [pL g.ands,g0])){Q:AEnd→Store→Prop}
    (k:∀ S2,S.n≤S2.n→(∀ x,x<S.n→x≠id→S2.obj x=S.obj x)→Q (.ret (aB g.right)) S2):ACalls Pg 35 [g.av,.p id 0 0] S Q:=by
 have hlen:=hg.len
 refine calls35 ?_
 unfold m35 Gr.av
 refine boxA_of rfl fun S1 k1 n1 o1=>?_
 have kk:∀ b:Bool,g.right=b→Q (.ret (aB b)) S1:=fun b e=>e ▸ k S1 (by omega) fun x hx _=>k1.2 x hx
 rw[shift_p,ld1_p o1 rfl rfl,bin_lss,onB_v]
 refine gd_of (fun h1=>kk _ ?_) (fun h1=>?_)
 ·have h1:=dT h1
  simp[Gr.right,show ¬ 0≤g.inputs by omega]
 have h1:0≤g.inputs:=by simpa using h1
 rw[shift_p,ld1_p o1 rfl rfl,bin_gtr,onB_v]
 refine gd_of (fun h2=>kk _ ?_) (fun h2=>?_)
 ·have h2:=dT h2
  simp[Gr.right,show ¬ g.inputs≤2000 by omega]
 have h2:g.inputs≤2000:=by simpa using h2
 rw[shift_p,ld1_p o1 rfl rfl,lenS_pL,bin_gtr,onB_v]
 refine gd_of (fun h3=>kk _ ?_) (fun h3=>?_)
 ·have h3:=dT h3
  have:¬ (g.ands.length:Int)≤2000:=by omega
  simp only[Gr.right,this,decide_false,Bool.false_and,Bool.and_false]
 have h3:g.ands.length≤2000:=by have:=dF h3;omega
 rw[ldN_p (n:=2) o1 rfl]
 refine callF_ans (ans34 hg (by omega) h1) ?_
 rw[bin_gtr,onB_v]
 refine gd_of (fun h4=>kk _ ?_) (fun h4=>?_)
 ·have h4:=dT h4
  simp[Gr.right,show ¬ g.vars≤2000 by omega]
 have h4:g.vars≤2000:=by simpa using h4
 rw[shift_p,ld1_p o1 rfl rfl,lenS_pL]
 refine loop35_0 (fun y S'=>Keep S1 S'∧∃ i:Nat,y=aI i∧i≤g.ands.length∧∀ j,j<i→may (g.ands.getD j (0,0)) (g.inputs+1+j)=true)
  (fun y _=>g.ands.length - ((intA y).getD 0).toNat) ⟨Keep.refl _,0,rfl,Nat.zero_le _,fun j hj=>(Nat.not_lt_zero _ hj).elim⟩ ?_
 rintro _ S2 ⟨k2,i,rfl,hi,hmay⟩ KE hKE
 have o2:=(k2.2 S.n (by omega)).trans o1
 have b2:=(k2.2 id (by omega)).trans ((k1.2 id hid).trans h)
 unfold b35_0
 rw[bin_lss,onB_v]
 refine gd_of (fun hlt=>?_) (fun hge=>?_)
 ·have hlt:i<g.ands.length:=by simpa using hlt
  have hg':g.ands.getD i (0,0)=g.ands[i]:=by simp[List.getD_eq_getElem?_getD,hlt]
  rw[ixS_pL hlt,ldN_q2]
  refine boxA_of rfl fun S3 k3 n3 o3=>?_
  refine stA_of o3 rfl rfl fun S4 n4 o4 f4=>?_
  have k4:Keep S1 S4:=(k2.trans k3).st (by have:=k2.1;omega) n4 f4
  have p4:=(k4.2 S.n (by omega)).trans o1
  rw[ldN_p (n:=2) o4 rfl,shift_p,ld1_p p4 rfl rfl,bin_add (by omega) (by omega),bin_add (by omega) (by omega)]
  refine callF_ans (ans48 (p:=g.ands[i]) (hg.pairs _ (List.getElem_mem hlt))) ?_
  rw[un_not,onB_v]
  refine gd_of (fun h5=>?_) (fun h5=>?_)
  ·have:g.right=false:=by
     have hr:(List.range g.ands.length).all (fun i=>may (g.ands.getD i (0,0)) (g.inputs+1+i))=false:=by
      rw[List.all_eq_false]
      exact⟨i,by simpa using hlt,by rw[hg'];simpa using h5⟩
     simp only[Gr.right,hr,Bool.false_and,Bool.and_false]
   rw[←this]
   exact k S4 (by have:=k4.1;omega) fun x hx _=>(k4.2 x (by omega)).trans (k1.2 x hx)
  ·have hadd:∀ K:AV→Store→Prop,∀ S,bin .add 0 (.v (.int .i64 (i:Int))) (.v (.int .i64 1)) S K=K (aI (i+1:Nat)) S:=fun K S=>bin_add (by omega) (by omega) 0
   rw[hadd]
   refine hKE _ _ ⟨k4,i+1,rfl,hlt,fun j hj=>?_⟩ (by simp[intA];omega)
   rcases Nat.lt_or_ge j i with hj'|hj'
   ·exact hmay j hj'
   ·have:j=i:=by omega
    subst this
    rw[hg']
    simpa using h5
 ·have hge:i=g.ands.length:=by simp at hge;omega
  subst hge
  have hn2:=k2.1
  refine⟨_,fun T hT=>by rw[shift_p];exact⟨rfl,rfl⟩,_,fun T hT=>by rw[ld1_p ((hT.2 _ (by omega)).trans o2) rfl rfl];exact⟨rfl,rfl⟩,_,fun T hT=>by rw[lenS_pL];exact⟨rfl,rfl⟩,.inl (many_once hlen (by omega) b2 fun S3 n3 f3=>?_)⟩
  have o3:=(f3 S.n (by omega) (by omega)).trans o2
  refine⟨fun T hT=>by rw[lenS_pL];exact⟨rfl,rfl⟩,fun T hT=>by rw[ld1_p ((hT.2 _ (by omega)).trans o3) rfl rfl];exact⟨rfl,rfl⟩,fun T hT=>by rw[shift_p];exact⟨rfl,rfl⟩,_,fun T hT=>by rw[bin_eql];exact⟨rfl,rfl⟩,?_⟩
  have:g.right=decide (((gat g.ands g.ands.length).length:Int)=g.ands.length):=by
   have hr:(List.range g.ands.length).all (fun i=>may (g.ands.getD i (0,0)) (g.inputs+1+i))=true:=by
    rw[List.all_eq_true]
    exact fun j hj=>hmay j (by simpa using hj)
   have hall:=gat_all (l:=g.ands) (i:=g.ands.length) (Nat.le_refl _)
   rw[List.take_length]at hall
   simp only[Gr.right,hr,Bool.true_and,h1,h2,h4,show(g.ands.length:Int)≤2000 by omega,decide_true,Int.natCast_inj,hall]
  rw[←this]
  exact k S3 (by omega) fun x hx hne=>(f3 x (by omega) hne).trans ((k2.2 x (by omega)).trans (k1.2 x hx))
theorem ans26{g:Gr}(hg:g.ok):Ans Pg 26 [g.av] (aB g.right):=by
 intro S
 refine ACalls.ans_v (calls26 ?_)
 unfold m26 Gr.av
 refine boxA_of rfl fun S1 k1 n1 o1=>?_
 rw[ldN_p (n:=2) o1 rfl,shift_p,ld1_p o1 rfl rfl]
 rw[bld_of (cs:=[aW32 0,aS32 0,.v (.int .u32 0),pL g.ands,.v (.map none)]) rfl]
 refine boxA_of rfl fun S2 k2 n2 o2=>?_
 refine .inl (right_of hg (by omega) o2 fun S3 n3 f3=>⟨rfl,k1.trans ⟨by omega,fun x hx=>?_⟩⟩)
 rw[f3 x (by omega) (by omega),k2.2 x hx]
theorem ans15{g:Gr}(hg:g.ok)(hi:g.inputs≤1000000)(h0:0≤g.inputs):Ans Pg 15 [g.av] (aI g.vars):=by
 intro S
 have hl:=hg.len
 refine ACalls.ans_v (calls15 ?_)
 unfold m15 Gr.av
 refine boxA_of rfl fun S1 k1 n1 o1=>?_
 rw[shift_p,ld1_p o1 rfl rfl,bin_add (by omega) (by omega),shift_p,ld1_p o1 rfl rfl,lenS_pL,bin_add (by omega) (by omega)]
 exact⟨rfl,k1⟩
theorem ans43{g:Gr}{l:Int}(hg:g.ok)(hl:i64R l):Ans Pg 43 [g.av,aI l] (aB (g.lit l)):=by
 intro S
 refine ACalls.ans_v (calls43 ?_)
 unfold m43 Gr.av Gr.lit
 refine boxA_of rfl fun S1 k1 n1 o1=>?_
 rw[shift_p,ld1_p o1 rfl rfl,bin_geq,onB_v]
 refine gd_of (fun h1=>?_) (fun h1=>⟨by simp only[h1,Bool.false_and],k1⟩)
 rw[shift_p,ld1_p o1 rfl rfl,bin_leq,onB_v]
 refine gd_of (fun h2=>?_) (fun h2=>⟨by simp only[h1,h2,Bool.false_and,Bool.true_and],k1⟩)
 rw[bin_geq,onB_v]
 refine gd_of (fun h3=>?_) (fun h3=>⟨by simp only[h1,h2,h3,Bool.false_and,Bool.true_and],k1⟩)
 rw[bin_half hl,ldN_p (n:=2) o1 rfl]
 refine callF_ans (ans15 hg (by have:=dT h2;omega) (dT h1)) ?_
 rw[bin_lss]
 exact⟨by simp only[h1,h2,h3,Bool.true_and],k1⟩
theorem binP_eq{a b c d:Int}{S:Store}{K:AV→Store→Prop}:binP .i64 .eql (.a [aI a,aI b]) (.a [aI c,aI d]) S K=K (aB (decide ((a,b)=(c,d)))) S:=by
 simp[binP,keyA]
theorem ixA_q{n sz:Nat}{c:List AV}{z:Nat}{S:Store}{K:AV→Store→Prop}(hz:z<n):ixA n sz (.q c 0) (aI z) S K=K (.q c (z*sz)) S:=by
 unfold ixA
 simp only[intA,optP_some,Int.toNat_natCast,shift,Nat.zero_add]
 exact propext ⟨fun h=>h.2,fun h=>⟨⟨by omega,by omega⟩,h⟩⟩
theorem ld1_q1{u v:AV}{S:Store}{K:AV→Store→Prop}:ld1 (.q [u,v] 1) S K=K v S:=by simp[ld1,rd1,place]
theorem ld1_q0{u:AV}{l:List AV}{S:Store}{K:AV→Store→Prop}:ld1 (.q (u :: l) 0) S K=K u S:=by simp[ld1,rd1,place]
theorem right_iff{g:Gr}:g.right=true↔0≤g.inputs∧g.inputs≤2000∧(g.ands.length:Int)≤2000∧g.vars≤2000∧(∀ j,j<g.ands.length→may (g.ands.getD j (0,0)) (g.inputs+1+j)=true)∧g.ands.Nodup:=by
 simp[Gr.right]
theorem nodup_take{α:Type}[DecidableEq α]{l:List α}{i:Nat}(h:i<l.length):(l.take (i+1)).Nodup↔(l.take i).Nodup∧∀ k (hk:k<i),l[k]≠l[i]:=by
 rw[List.take_add_one,List.getElem?_eq_getElem h,List.nodup_append]
 constructor
 ·rintro⟨h1,_,h3⟩
  refine⟨h1,fun k hk=>h3 _ ?_ _ (by simp)⟩
  rw[List.mem_take_iff_getElem]
  exact⟨k,by omega,rfl⟩
 ·rintro⟨h1,h2⟩
  refine⟨h1,by simp,fun a ha b hb=>?_⟩
  have:b=l[i]:=by simpa using hb
  subst this
  rw[List.mem_take_iff_getElem]at ha
  obtain⟨k,hk,rfl⟩:=ha
  exact h2 k (by omega)
theorem may_false1{p:Int × Int}{v:Int}(h:p.2<2):may p v=false:=by simp[may,show ¬ 2≤p.2 by omega]
theorem may_false2{p:Int × Int}{v:Int}(h:p.1.tdiv 2≤p.2.tdiv 2):may p v=false:=by simp[may,show ¬ p.2.tdiv 2<p.1.tdiv 2 by omega]
theorem may_false3{p:Int × Int}{v:Int}(h:v≤p.1.tdiv 2):may p v=false:=by simp[may,show ¬ p.1.tdiv 2<v by omega]
theorem right_may{g:Gr}{i:Nat}(h:i<g.ands.length)(hm:may (g.ands.getD i (0,0)) (g.inputs+1+i)=false):g.right=false:=by
 cases e:g.right with
 |false=>rfl
 |true=>rw[(right_iff.1 e).2.2.2.2.1 i h]at hm;cases hm
theorem ans42{g:Gr}(hg:g.ok):Ans Pg 42 [g.av] (aB g.right):=by
 intro S
 refine ACalls.ans_v (calls42 ?_)
 have hlen:=hg.len
 unfold m42 Gr.av
 refine boxA_of rfl fun S1 k1 n1 o1=>?_
 rw[shift_p,ld1_p o1 rfl rfl,bin_lss,onB_v]
 refine gd_of (fun h1=>⟨?_,k1⟩) (fun h1=>?_)
 ·have h1:=dT h1
  simp[Gr.right,show ¬ 0≤g.inputs by omega]
 have h1:0≤g.inputs:=by simpa using h1
 rw[shift_p,ld1_p o1 rfl rfl,bin_gtr,onB_v]
 refine gd_of (fun h2=>⟨?_,k1⟩) (fun h2=>?_)
 ·have h2:=dT h2
  simp[Gr.right,show ¬ g.inputs≤2000 by omega]
 have h2:g.inputs≤2000:=by simpa using h2
 rw[shift_p,ld1_p o1 rfl rfl,lenS_pL,bin_gtr,onB_v]
 refine gd_of (fun h3=>⟨?_,k1⟩) (fun h3=>?_)
 ·have h3:=dT h3
  have:¬ (g.ands.length:Int)≤2000:=by omega
  simp only[Gr.right,this,decide_false,Bool.false_and,Bool.and_false]
 have h3:g.ands.length≤2000:=by have:=dF h3;omega
 rw[ldN_p (n:=2) o1 rfl]
 refine callF_ans (ans15 hg (by omega) h1) ?_
 rw[bin_gtr,onB_v]
 refine gd_of (fun h4=>⟨?_,k1⟩) (fun h4=>?_)
 ·have h4:=dT h4
  simp[Gr.right,show ¬ g.vars≤2000 by omega]
 have h4:g.vars≤2000:=by simpa using h4
 refine loop42_0 (fun y S'=>S'=S1∧∃ i:Nat,y=aI i∧i≤g.ands.length∧(∀ j,j<i→may (g.ands.getD j (0,0)) (g.inputs+1+j)=true)∧(g.ands.take i).Nodup)
  (fun y _=>g.ands.length - ((intA y).getD 0).toNat) ⟨rfl,0,rfl,Nat.zero_le _,fun j hj=>(Nat.not_lt_zero _ hj).elim,by simp⟩ ?_
 rintro _ S1 ⟨rfl,i,rfl,hi,hmay,hnd⟩ KE hKE
 unfold b42_0
 rw[shift_p,ld1_p o1 rfl rfl,lenS_pL,bin_lss,onB_v]
 refine gd_of (fun hlt=>?_) (fun hge=>?_)
 ·have hlt:i<g.ands.length:=by simpa using hlt
  have hg':g.ands.getD i (0,0)=g.ands[i]:=by simp[List.getD_eq_getElem?_getD,hlt]
  have hp:=hg.pairs _ (List.getElem_mem hlt)
  have e1:∀(c:List AV) (K:AV→Store→Prop),ixA 2 1 (.q c 0) (.v (.int .i64 1)) S1 K=K (.q c 1) S1:=fun c K=>ixA_q (z:=1) (by decide)
  have e0:∀(c:List AV) (K:AV→Store→Prop),ixA 2 1 (.q c 0) (.v (.int .i64 0)) S1 K=K (.q c 0) S1:=fun c K=>ixA_q (z:=0) (by decide)
  show ∃ q24:AV,_
  refine⟨_,by rw[shift_p];exact⟨rfl,rfl⟩,_,by rw[ld1_p o1 rfl rfl];exact⟨rfl,rfl⟩,_,by rw[ixS_pL hlt];exact⟨rfl,rfl⟩,_,by rw[e0];exact⟨rfl,rfl⟩,_,by rw[ld1_q0];exact⟨rfl,rfl⟩,
   _,by rw[shift_p];exact⟨rfl,rfl⟩,_,by rw[ld1_p o1 rfl rfl];exact⟨rfl,rfl⟩,_,by rw[ixS_pL hlt];exact⟨rfl,rfl⟩,_,by rw[e1];exact⟨rfl,rfl⟩,_,by rw[ld1_q1];exact⟨rfl,rfl⟩,?_⟩
  rw[bin_lss,onB_v]
  refine gd_of (fun h5=>⟨?_,k1⟩) (fun h5=>?_)
  ·rw[right_may hlt (by rw[hg'];exact may_false1 (dT h5))]
  rw[bin_half hp.1,bin_half hp.2,bin_leq,onB_v]
  refine gd_of (fun h6=>⟨?_,k1⟩) (fun h6=>?_)
  ·rw[right_may hlt (by rw[hg'];exact may_false2 (dT h6))]
  rw[bin_half hp.1,shift_p,ld1_p o1 rfl rfl,bin_add (by omega) (by omega),bin_add (by omega) (by omega),bin_geq,onB_v]
  refine gd_of (fun h7=>⟨?_,k1⟩) (fun h7=>?_)
  ·rw[right_may hlt (by rw[hg'];exact may_false3 (dT h7))]
  have h5:=dF h5
  have h6:=dF h6
  have h7:=dF h7
  refine loop42_1 (fun y S'=>S'=S1∧∃ k:Nat,y=aI k∧k≤i∧∀ j (hj:j<k) (hk:k≤i),g.ands[j]'(by omega)≠g.ands[i])
   (fun y _=>g.ands.length - ((intA y).getD 0).toNat) ⟨rfl,0,rfl,Nat.zero_le _,fun j hj=>(Nat.not_lt_zero _ hj).elim⟩ ?_
  rintro _ S1 ⟨rfl,k,rfl,hk,hne⟩ KE1 hKE1
  unfold b42_1
  rw[bin_lss,onB_v]
  refine gd_of (fun hlk=>?_) (fun hgk=>?_)
  ·have hlk:k<i:=by simpa using hlk
   have hkl:k<g.ands.length:=by omega
   show ∃ q24:AV,_
   refine⟨_,by rw[shift_p];exact⟨rfl,rfl⟩,_,by rw[ld1_p o1 rfl rfl];exact⟨rfl,rfl⟩,_,by rw[ixS_pL hkl];exact⟨rfl,rfl⟩,_,by rw[ldN_q2];exact⟨rfl,rfl⟩,
    _,by rw[shift_p];exact⟨rfl,rfl⟩,_,by rw[ld1_p o1 rfl rfl];exact⟨rfl,rfl⟩,_,by rw[ixS_pL hlt];exact⟨rfl,rfl⟩,_,by rw[ldN_q2];exact⟨rfl,rfl⟩,_,by rw[binP_eq];exact⟨rfl,rfl⟩,?_⟩
   rw[onB_v]
   refine gd_of (fun h8=>⟨?_,k1⟩) (fun h8=>?_)
   ·have h8:g.ands[k]=g.ands[i]:=dT h8
    have:g.right=false:=by
     cases e:g.right with
     |false=>rfl
     |true =>
      have hnd:=(right_iff.1 e).2.2.2.2.2
      exact absurd h8 (List.pairwise_iff_getElem.1 hnd k i hkl hlt hlk)
    rw[this]
   ·have h8:¬ g.ands[k]=g.ands[i]:=dF h8
    have hadd:∀ K:AV→Store→Prop,∀ S,bin .add 0 (.v (.int .i64 (k:Int))) (.v (.int .i64 1)) S K=K (aI (k+1:Nat)) S:=fun K S=>bin_add (by omega) (by omega) 0
    rw[hadd]
    refine hKE1 _ _ ⟨rfl,k+1,rfl,hlk,fun j hj _=>?_⟩ (by simp[intA];omega)
    rcases Nat.lt_or_ge j k with hj'|hj'
    ·exact hne j hj' (by omega)
    ·have:j=k:=by omega
     subst this
     exact h8
  ·have hge:k=i:=by simp at hgk;omega
   subst hge
   have hadd:∀ K:AV→Store→Prop,∀ S,bin .add 0 (.v (.int .i64 (k:Int))) (.v (.int .i64 1)) S K=K (aI (k+1:Nat)) S:=fun K S=>bin_add (by omega) (by omega) 0
   rw[hadd]
   refine hKE _ _ ⟨rfl,k+1,rfl,hlt,fun j hj=>?_,(nodup_take hlt).2 ⟨hnd,fun j hj=>hne j hj (Nat.le_refl _)⟩⟩ (by simp[intA];omega)
   rcases Nat.lt_or_ge j k with hj'|hj'
   ·exact hmay j hj'
   ·have:j=k:=by omega
    subst this
    rw[hg']
    simp[may,show 2≤(g.ands[j]).2 by omega,show(g.ands[j]).2.tdiv 2<(g.ands[j]).1.tdiv 2 by omega,show(g.ands[j]).1.tdiv 2<g.inputs+1+j by omega]
 ·have hge:i=g.ands.length:=by simp at hge;omega
  subst hge
  rw[List.take_length]at hnd
  rw[right_iff.2 ⟨h1,h2,by omega,h4,hmay,hnd⟩]
  exact⟨rfl,k1⟩
theorem Own.appL{n:Nat}{S:Store}{x:AV}{e sz b:Nat}{es ys:List (List AV)}(h:Own n S x e es)(hn:n≤S.n){K:AV→Store→Prop}(hc:∀ c∈ys,c.length=sz)(hb:(es.length+ys.length)*b≤140737488355328)
    (k:∀ x' S',Own n S' x' e (es++ys)→But S S' x→(x'=x∨∃ m,x' = .s S.n 0 m)→K x' S') {y:AV} (hy:srcE S y=some ys):appS e sz b x y S K:=by
 refine⟨h.isSl,ys,hy,hc,?_⟩
 cases ys with
 |nil=>exact k x S (by simpa using h) ⟨Nat.le_refl _,fun _ _ _=>rfl⟩ (.inl rfl)
 |cons c ys =>
  rcases h with⟨rfl,rfl⟩|⟨id,rfl,h1,h2,h3⟩
  ·refine⟨by simpa using hb,k _ _ (.inr ⟨S.n,rfl,hn,Nat.lt_succ_self _,by simp[Store.new]⟩) ⟨Nat.le_succ _,fun i hi _=>?_⟩ (.inr ⟨_,rfl⟩)⟩
   simp only[Store.new];rw[if_neg (by omega)]
  ·simp only[appE,h3]
   refine⟨⟨trivial,trivial,by simpa using hb⟩,k _ _ (.inr ⟨S.n,by simp,hn,Nat.lt_succ_self _,by simp[Store.new,Store.kill]⟩) ⟨Nat.le_succ _,fun i hi hne=>?_⟩ (.inr ⟨_,rfl⟩)⟩
   have e1:i≠S.n:=by omega
   have e2:i≠id:=fun hq=>hne 0 es.length (by rw[hq])
   simp[Store.new,Store.kill,e1,e2]
theorem bslP{e:Nat}{z1 z2 u v:AV}{S:Store}{K:AV→Store→Prop}(k:K (.l [[u,v]]) S):bslN e 2 1 [z1,z2] [(0,.a [u,v])] S K:=by
 refine⟨[u,v],?_,.inr ?_⟩
 ·simp[fillA,cellsOf,spl,List.range_succ]
 ·simpa[chunks,List.range_succ]using k
@[simp] theorem mx_true(a b:Int){S:Store}{K:AV→Store→Prop}:mxI true (aI a) (aI b) S K=K (aI (if b > a then b else a)) S:=rfl
@[simp] theorem mx_false(a b:Int){S:Store}{K:AV→Store→Prop}:mxI false (aI a) (aI b) S K=K (aI (if b<a then b else a)) S:=rfl
theorem treeP(l:List (Int × Int)):Tree (pL l):=Tree.l fun c hc u hu=>by
 obtain⟨p,_,rfl⟩:=List.mem_map.1 hc
 rcases List.mem_cons.1 hu with rfl|hu
 ·exact Tree.v _
 ·rcases List.mem_cons.1 hu with rfl|hu
  ·exact Tree.v _
  ·simp at hu
theorem Gr.tree(g:Gr):Tree g.av:=Tree.a fun u hu=>by
 rcases List.mem_cons.1 hu with rfl|hu
 ·exact Tree.v _
 ·rcases List.mem_cons.1 hu with rfl|hu
  ·exact treeP _
  ·simp at hu
theorem cv_t3{S:Store}{n:Nat}{x y z x' y' z':AV}(h1:Cv S n x x')(h2:Cv S n y y')(h3:Cv S n z z'):Cv S n (.t [x,y,z]) (.t [x',y',z']):=
 .t _ _ rfl fun k u u2 hk hk2=>by
  match k with
  |0=>cases hk;cases hk2;exact h1
  |1=>cases hk;cases hk2;exact h2
  |2=>cases hk;cases hk2;exact h3
  |k+3=>simp at hk
theorem cv_t2{S:Store}{n:Nat}{x y x' y':AV}(h1:Cv S n x x')(h2:Cv S n y y'):Cv S n (.t [x,y]) (.t [x',y']):=
 .t _ _ rfl fun k u u2 hk hk2=>by
  match k with
  |0=>cases hk;cases hk2;exact h1
  |1=>cases hk;cases hk2;exact h2
  |k+2=>simp at hk
theorem cv_a2{S:Store}{n:Nat}{x y x' y':AV}(h1:Cv S n x x')(h2:Cv S n y y'):Cv S n (.a [x,y]) (.a [x',y']):=
 .a _ _ rfl fun k u u2 hk hk2=>by
  match k with
  |0=>cases hk;cases hk2;exact h1
  |1=>cases hk;cases hk2;exact h2
  |k+2=>simp at hk
theorem gd_two{b c:Bool}{R T:Prop}(h1:b=true→c=true→R)(h2:¬ (b=true∧c=true)→T):gd b (gd c R T) T:=by
 cases b<;>cases c<;>simp_all [gd]
def andT(g:Gr)(x y:Int):Gr × Int × Int:=
 if y=0 then(g,0,0)
 else if x.tdiv 2=y.tdiv 2∧x≠y then(g,0,0)
 else if y=1 then(g,x,0)
 else if x=y then(g,x,0)
 else match g.ands.findIdx? (fun p=>decide (p=(x,y)))with
  |some i=>(g,2*(g.inputs+1+i),0)
  |none=>if 2000≤g.vars then(⟨0,[]⟩,0,2)else(⟨g.inputs,g.ands ++ [(x,y)]⟩,2*(g.vars+1) - 2,0)
def Gr.and(g:Gr)(a b:Int):Gr × Int × Int:=
 if(g.right && (g.lit a && g.lit b))=false then(⟨0,[]⟩,0,1)else andT g (if b > a then b else a) (if b<a then b else a)
def andAV(r:Gr × Int × Int):AV:=.t [r.1.av,aI r.2.1,aI r.2.2]
theorem vars15{i:Int}{x:AV}{n:Nat}(hx:∀(S:Store) (K:AV→Store→Prop),lenS x S K=K (aI n) S)(h0:0≤i)(h1:i≤1000000)(hn:n≤2000000):Ans Pg 15 [.a [aI i,x]] (aI (i+1+n)):=by
 intro S
 refine ACalls.ans_v (calls15 ?_)
 unfold m15
 refine boxA_of rfl fun S1 k1 n1 o1=>?_
 rw[shift_p,ld1_p o1 rfl rfl,bin_add (by omega) (by omega),shift_p,ld1_p o1 rfl rfl,hx,bin_add (by omega) (by omega)]
 exact⟨rfl,k1⟩
theorem ans30{g:Gr}{a b:Int}(hg:g.ok)(ha:i64R a)(hb:i64R b):Ans Pg 30 [g.av,aI a,aI b] (andAV (g.and a b)):=by
 intro S
 refine ACalls.tree (calls30 ?_)
 have hlen:=hg.len
 unfold m30
 have bd:∀{a b:Int} {S:Store} {K:AV→Store→Prop},bld [(0,1),(1,1)] [.v (.int .i64 0),.v (.int .i64 0)] [(0,aI a),(1,aI b)] S K=K (.a [aI a,aI b]) S:=bld_of rfl
 have bz:∀{S:Store} {K:AV→Store→Prop},bld [(0,1),(1,1)] [.v (.int .i64 0),.nl] [] S K=K (.a [aI 0,.nl]) S:=bld_of rfl
 refine boxA_of rfl fun S1 k1 n1 o1=>?_
 refine boxA_of rfl fun S2 k2 n2 o2=>?_
 have k2:=k1.trans k2
 have p1:S2.obj S.n=_:=(‹Keep S1 S2›.2 S.n (by omega)).trans o1
 have fin:∀{S':Store} {v:AV} (r:Gr × Int × Int),Keep S S'→Cv (S'.frz (newer S.n)) S.n v r.1.av→g.and a b=r→∃ q,AEnd.ret (.t [v,aI r.2.1,aI r.2.2]) = .ret q∧Keep S S'∧Cv (S'.frz (newer S.n)) S.n q (andAV (g.and a b)):=
  fun r hk hc e=>⟨_,rfl,hk,by rw[e];exact cv_t3 hc (.v _) (.v _)⟩
 have err:∀ S',Cv (Store.frz S' (newer S.n)) S.n (.a [aI 0,.nl]) (Gr.av ⟨0,[]⟩):=fun _=>cv_a2 (.v _) .nl
 have bad:∀{e:Int},(g.right && (g.lit a && g.lit b))=false→g.and a b=(⟨0,[]⟩,0,1):=fun h=>by simp only[Gr.and];rw[if_pos h]
 rw[ldN_p (n:=2) p1 rfl]
 refine callF_ans (ans42 hg) ?_
 rw[un_not,onB_v]
 refine gd_of (fun h1=>?_) (fun h1=>?_)
 ·rw[bz]
  refine stA_of o2 rfl rfl fun S3 n3 o3 f3=>?_
  rw[ldN_p (n:=2) o3 rfl]
  exact fin (⟨0,[]⟩,0,1) (k2.st (by omega) n3 f3) (err _) (bad (e:=0) (by rw[Bool.not_eq_true']at h1;rw[h1];rfl))
 have h1:g.right=true:=by simpa using h1
 rw[ldN_p (n:=2) p1 rfl]
 refine callF_ans (ans43 hg ha) ?_
 rw[un_not,onB_v]
 refine gd_of (fun h2=>?_) (fun h2=>?_)
 ·rw[bz]
  refine stA_of o2 rfl rfl fun S3 n3 o3 f3=>?_
  rw[ldN_p (n:=2) o3 rfl]
  exact fin (⟨0,[]⟩,0,1) (k2.st (by omega) n3 f3) (err _) (bad (e:=0) (by rw[Bool.not_eq_true']at h2;rw[h1,h2];rfl))
 have h2:g.lit a=true:=by simpa using h2
 rw[ldN_p (n:=2) p1 rfl]
 refine callF_ans (ans43 hg hb) ?_
 rw[un_not,onB_v]
 refine gd_of (fun h3=>?_) (fun h3=>?_)
 ·rw[bz]
  refine stA_of o2 rfl rfl fun S3 n3 o3 f3=>?_
  rw[ldN_p (n:=2) o3 rfl]
  exact fin (⟨0,[]⟩,0,1) (k2.st (by omega) n3 f3) (err _) (bad (e:=0) (by rw[Bool.not_eq_true']at h3;rw[h1,h2,h3];rfl))
 have h3:g.lit b=true:=by simpa using h3
 obtain⟨r1,r2,r3,r4,r5,r6⟩:=right_iff.1 h1
 rw[mx_true,mx_false]
 have hx:i64R (if b > a then b else a):=by split<;>assumption
 have hy:i64R (if b<a then b else a):=by split<;>assumption
 have hand:g.and a b=andT g (if b > a then b else a) (if b<a then b else a):=by
  simp only[Gr.and]
  rw[if_neg (by rw[h1,h2,h3];decide)]
 generalize hex:(if b > a then b else a)=x at *
 generalize hey:(if b<a then b else a)=y at *
 have ok:∀{S':Store},Cv (S'.frz (newer S.n)) S.n (.a g.cells) g.av:=fun{S'}=>g.tree _ _
 rw[bin_eql,onB_v]
 refine gd_of (fun h4=>?_) (fun h4=>?_)
 ·rw[ldN_p (n:=2) p1 rfl]
  refine stA_of o2 rfl rfl fun S3 n3 o3 f3=>?_
  rw[ldN_p (n:=2) o3 rfl]
  exact fin (g,0,0) (k2.st (by omega) n3 f3) ok (hand.trans (by rw[andT,if_pos (dT h4)]))
 have h4:=dF h4
 rw[bin_half hx,bin_half hy,bin_eql,onB_v]
 rw[bin_neq,onB_v]
 refine gd_two (fun h5 h6=>?_) (fun h7=>?_)
 ·rw[ldN_p (n:=2) p1 rfl]
  refine stA_of o2 rfl rfl fun S3 n3 o3 f3=>?_
  rw[ldN_p (n:=2) o3 rfl]
  exact fin (g,0,0) (k2.st (by omega) n3 f3) ok (hand.trans (by rw[andT,if_neg h4,if_pos ⟨dT h5,by simpa using h6⟩]))
 ·have h7:¬ (x.tdiv 2=y.tdiv 2∧x≠y):=fun h=>h7 ⟨by simpa using h.1,by simpa using h.2⟩
  have hand:g.and a b=(if y=1 then(g,x,(0:Int))
   else if x=y then(g,x,0)
   else match g.ands.findIdx? (fun p=>decide (p=(x,y)))with
    |some i=>(g,2*(g.inputs+1+i),0)
    |none=>if 2000≤g.vars then(⟨0,[]⟩,0,2)else(⟨g.inputs,g.ands ++ [(x,y)]⟩,2*(g.vars+1) - 2,0):Gr × Int × Int):=hand.trans (by rw[andT,if_neg h4,if_neg h7])
  rw[bin_eql,onB_v]
  refine gd_of (fun h8=>?_) (fun h8=>?_)
  ·rw[ldN_p (n:=2) p1 rfl]
   refine stA_of o2 rfl rfl fun S3 n3 o3 f3=>?_
   rw[ldN_p (n:=2) o3 rfl]
   exact fin (g,x,0) (k2.st (by omega) n3 f3) ok (hand.trans (by rw[if_pos (dT h8)]))
  have h8:=dF h8
  rw[bin_eql,onB_v]
  refine gd_of (fun h9=>?_) (fun h9=>?_)
  ·rw[ldN_p (n:=2) p1 rfl]
   refine stA_of o2 rfl rfl fun S3 n3 o3 f3=>?_
   rw[ldN_p (n:=2) o3 rfl]
   exact fin (g,x,0) (k2.st (by omega) n3 f3) ok (hand.trans (by rw[if_neg h8,if_pos (dT h9)]))
  have h9:=dF h9
  have hand:=hand.trans (by rw[if_neg h8,if_neg h9])
  refine loop30_0 (fun z S'=>S'=S2∧∃ i:Nat,z=aI i∧i≤g.ands.length∧∀ j (hj:j<g.ands.length),j<i→g.ands[j]≠(x,y))
   (fun z _=>g.ands.length - ((intA z).getD 0).toNat) ⟨rfl,0,rfl,Nat.zero_le _,fun j _ hj=>(Nat.not_lt_zero _ hj).elim⟩ ?_
  rintro _ S2 ⟨rfl,i,rfl,hi,hno⟩ KE hKE
  unfold b30_0
  have hl3:=r3
  have hv:=r4
  unfold Gr.vars at hv
  rw[shift_p,ld1_p p1 rfl rfl,lenS_pL,bin_lss,onB_v]
  refine gd_of (fun hlt=>?_) (fun hge=>?_)
  ·have hlt:i<g.ands.length:=by simpa using hlt
   rw[shift_p,ld1_p p1 rfl rfl,ixS_pL hlt,ldN_q2,bd,binP_eq,onB_v]
   refine gd_of (fun h10=>?_) (fun h10=>?_)
   ·have h10:g.ands[i]=(x,y):=dT h10
    have hf:g.ands.findIdx? (fun p=>decide (p=(x,y)))=some i:=by
     rw[List.findIdx?_eq_some_iff_getElem]
     exact⟨hlt,by simpa using h10,fun j hj=>by simpa using hno j (by omega) hj⟩
    have q:∀ T:Store,Keep S2 T→T.obj S.n=some (.cells 43 [g.cells] true):=fun T hT=>(hT.2 _ (by omega)).trans p1
    have e1:∀{S:Store} {K:AV→Store→Prop},bin .add 0 (aI g.inputs) (aI 1) S K=K (aI (g.inputs+1)) S:=bin_add (by omega) (by omega) 0
    have e2:∀{S:Store} {K:AV→Store→Prop},bin .add 0 (aI (g.inputs+1)) (aI i) S K=K (aI (g.inputs+1+i)) S:=bin_add (by omega) (by omega) 0
    have e3:∀{S:Store} {K:AV→Store→Prop},bin .mul 0 (aI 2) (aI (g.inputs+1+i)) S K=K (aI (2*(g.inputs+1+i))) S:=bin_mul (by omega) (by omega) 0
    refine⟨_,fun T hT=>by rw[ldN_p (n:=2) (q T hT) rfl];exact⟨rfl,rfl⟩,_,fun T hT=>by rw[shift_p];exact⟨rfl,rfl⟩,_,fun T hT=>by rw[ld1_p (q T hT) rfl rfl];exact⟨rfl,rfl⟩,_,fun T hT=>by rw[e1];exact⟨rfl,rfl⟩,_,fun T hT=>by rw[e2];exact⟨rfl,rfl⟩,_,fun T hT=>by rw[e3];exact⟨rfl,rfl⟩,?_⟩
    refine stA_of o2 rfl rfl fun S3 n3 o3 f3=>?_
    have q3:∀ T:Store,Keep S3 T→T.obj S.n=some (.cells 43 [g.cells] true):=fun T hT=>(hT.2 _ (by omega)).trans ((f3 _ (by omega)).trans p1)
    refine⟨fun T hT=>by rw[e3];exact⟨rfl,rfl⟩,fun T hT=>by rw[e2];exact⟨rfl,rfl⟩,fun T hT=>by rw[e1];exact⟨rfl,rfl⟩,fun T hT=>by rw[ld1_p (q3 T hT) rfl rfl];exact⟨rfl,rfl⟩,fun T hT=>by rw[shift_p];exact⟨rfl,rfl⟩,?_⟩
    rw[ldN_p (n:=2) o3 rfl]
    exact fin (g,2*(g.inputs+1+i),0) (k2.st (by omega) n3 f3) ok (hand.trans (by rw[hf]))
   ·have h10:¬ g.ands[i]=(x,y):=dF h10
    have hadd:∀ K:AV→Store→Prop,∀ S,bin .add 0 (.v (.int .i64 (i:Int))) (.v (.int .i64 1)) S K=K (aI (i+1:Nat)) S:=fun K S=>bin_add (by omega) (by omega) 0
    rw[hadd]
    refine hKE _ _ ⟨rfl,i+1,rfl,hlt,fun j hj hj'=>?_⟩ (by simp[intA];omega)
    rcases Nat.lt_or_ge j i with h|h
    ·exact hno j hj h
    ·have:j=i:=by omega
     subst this
     exact h10
  ·have hge:i=g.ands.length:=by simp at hge;omega
   subst hge
   have hf:g.ands.findIdx? (fun p=>decide (p=(x,y)))=none:=by
    rw[List.findIdx?_eq_none_iff]
    intro q hq
    obtain⟨j,hj,rfl⟩:=List.getElem_of_mem hq
    simpa using hno j hj hj
   rw[hf]at hand
   rw[ldN_p (n:=2) p1 rfl]
   refine callF_ans (ans15 hg (by omega) r1) ?_
   rw[bin_geq,onB_v]
   refine gd_of (fun h11=>?_) (fun h11=>?_)
   ·rw[bz]
    refine stA_of o2 rfl rfl fun S3 n3 o3 f3=>?_
    rw[ldN_p (n:=2) o3 rfl]
    exact fin (⟨0,[]⟩,0,2) (k2.st (by omega) n3 f3) (err _) (hand.trans (by simp only[if_pos (dT h11)]))
   have h11:=dF h11
   have hand:g.and a b=(⟨g.inputs,g.ands ++ [(x,y)]⟩,2*(g.vars+1) - 2,0):=hand.trans (by simp only[if_neg h11])
   refine boxA_of rfl fun S3 k3 n3 o3=>?_
   have p3:=(k3.2 S.n (by omega)).trans p1
   rw[shift_p,ld1_p p3 rfl rfl,shift_p]
   refine stF_of o3 (by simp) rfl fun S4 n4 o4 f4=>?_
   have p4:=(f4 S.n (by omega)).trans p3
   rw[shift_p,ld1_p o4 rfl rfl,shift_p,ld1_p p4 rfl rfl]
   have m2:=k2.1
   have m3:=k3.1
   have k4:Keep S S4:=(k2.trans k3).st (by omega) n4 f4
   have v4:S4.obj S1.n=_:=(f4 S1.n (by omega)).trans ((k3.2 S1.n (by omega)).trans o2)
   refine Own.appL (Own.nl S.n S4 99) (by omega) (ys:=g.ands.map fun p=>[aI p.1,aI p.2]) (fun c hc=>by obtain⟨p,_,rfl⟩:=List.mem_map.1 hc;rfl) (by simp;omega) (fun z1 S5 w5 b5 hz5=>?_) rfl
   rw[bd]
   refine bslP ?_
   have k5:Keep S S5:=w5.keep (S0:=S) (Nat.le_refl _) ⟨Nat.le_refl _,fun _ _ _=>rfl⟩ ⟨Nat.le_trans k4.1 b5.1,fun i hi=>(b5.2 i (by have:=k4.1;omega) (fun _ _ h=>by cases h)).trans (k4.2 i hi)⟩
   have e5:∀ i,i<S4.n→S5.obj i=S4.obj i:=fun i hi=>b5.2 i hi (fun _ _ h=>by cases h)
   have z5:∀ i b m,z1 = .s i b m→i=S4.n:=fun i b m e=>by
    rcases hz5 with h|⟨m',h⟩
    ·rw[h]at e;cases e
    ·rw[h]at e;cases e;rfl
   have n5:=b5.1
   refine w5.app (by have:=k5.1;omega) (c:=[aI x,aI y]) rfl (by simp;omega) (fun z2 S6 w6 b6 hz6=>?_) rfl
   have e6:∀ i,i<S4.n→S6.obj i=S4.obj i:=fun i hi=>(b6.2 i (by omega) (fun b m e=>by have:=z5 i b m e;omega)).trans (e5 i hi)
   have n6:=b6.1
   have k6:Keep S S6:=w5.keep (Nat.le_refl _) b6 k5
   obtain⟨m6,hz6⟩:=hz6
   rw[shift_p]
   refine stF_of ((e6 S2.n (by omega)).trans o4) (by simp) (by rw[hz6];rfl) fun S7 n7 o7 f7=>?_
   have p7:S7.obj S.n=_:=(f7 S.n (by omega)).trans ((e6 S.n (by omega)).trans p4)
   have v7:S7.obj S1.n=_:=(f7 S1.n (by omega)).trans ((e6 S1.n (by omega)).trans v4)
   have k7:Keep S S7:=k6.st (by omega) n7 f7
   have w7:Own S.n S7 z2 99 _:=w6.st (id:=S2.n) (fun b m e=>by rw[hz6]at e;injection e;omega) n7 f7
   have hlen2:(((g.ands.map fun p=>[aI p.1,aI p.2]) ++ [[aI x,aI y]]).length:Nat)=g.ands.length+1:=by simp
   have hz:∀(S:Store) (K:AV→Store→Prop),lenS z2 S K=K (aI (g.ands.length+1:Nat)) S:=fun S K=>by
    rcases w7 with⟨h,h'⟩|⟨id,h,_,_,_⟩
    ·rw[h]at hz6;cases hz6
    ·rw[h,lenS_s,List.nil_append,hlen2]
   have q:∀ T:Store,Keep S7 T→T.obj S2.n=some (.cells 43 [[aI g.inputs,z2]] true):=fun T hT=>(hT.2 _ (by omega)).trans o7
   have e1:∀{S:Store} {K:AV→Store→Prop},bin .mul 0 (aI 2) (aI (g.inputs+1+(g.ands.length+1:Nat))) S K=K (aI (2*(g.inputs+1+(g.ands.length+1:Nat)))) S:=bin_mul (by omega) (by omega) 0
   have e2:∀{S:Store} {K:AV→Store→Prop},bin .sub 0 (aI (2*(g.inputs+1+(g.ands.length+1:Nat)))) (aI 2) S K=K (aI (2*(g.inputs+1+(g.ands.length+1:Nat)) - 2)) S:=bin_sub (by omega) (by omega) 0
   refine⟨_,fun T hT=>by rw[ldN_p (n:=2) (q T hT) rfl];exact⟨rfl,rfl⟩,_,fun T hT=>by rw[ldN_p (n:=2) (q T hT) rfl];exact⟨rfl,rfl⟩,_,fun T hT=>callF_ans (vars15 hz r1 (by omega) (by omega)) ⟨rfl,rfl⟩,_,fun T hT=>by rw[e1];exact⟨rfl,rfl⟩,_,fun T hT=>by rw[e2];exact⟨rfl,rfl⟩,?_⟩
   refine stA_of v7 rfl rfl fun S8 n8 o8 f8=>?_
   refine⟨fun T hT=>by rw[e2];exact⟨rfl,rfl⟩,fun T hT=>by rw[e1];exact⟨rfl,rfl⟩,?_⟩
   rw[ldN_p (n:=2) o8 rfl]
   have w8:Own S.n S8 z2 99 _:=w7.st (id:=S1.n) (fun b m e=>by rw[hz6]at e;injection e;omega) n8 f8
   have hv2:g.vars=g.inputs+1+g.ands.length:=rfl
   have:=fin (S':=S8) (v:=.a [aI g.inputs,z2]) (⟨g.inputs,g.ands ++ [(x,y)]⟩,2*(g.vars+1) - 2,0) (k7.st (by omega) n8 f8) (cv_a2 (.v _) (w8.cv rfl (by simp) (fun i c c2 hc hc2=>?_))) hand
   ·rw[hv2,show g.inputs+1+(g.ands.length:Int)+1=g.inputs+1+(g.ands.length+1:Nat)by omega]at this
    exact this
   ·have:c=c2:=by
      rw[List.nil_append]at hc
      rw[List.map_append]at hc2
      exact Option.some.inj (hc.symm.trans hc2)
    subst this
    refine⟨rfl,fun k u u2 hu hu2=>?_⟩
    rw[hu]at hu2;cases hu2
    have hm:=List.mem_of_getElem? hc2
    rw[List.mem_map]at hm
    obtain⟨p,_,rfl⟩:=hm
    match k with
    |0=>cases hu;exact .v _
    |1=>cases hu;exact .v _
    |k+2=>simp at hu
section
variable {S:Store} {K:AV→Store→Prop}
theorem ixStr_b{b:ByteArray}{i:Nat}(h:i<b.size):ixStr (.v (.string b)) (aI i) S K=K (.v (.int .u8 (b[i]).toNat)) S:=by
 simp[ixStr,intA,h]
@[simp] theorem lenStr_b(b:ByteArray):lenStr (.v (.string b)) S K=K (aI b.size) S:=rfl
theorem bytesEq(a b:ByteArray):(a.toList == b.toList)=decide (a=b):=by
 rw[Bool.eq_iff_iff,beq_iff_eq,ByteArray.toList_eq,ByteArray.toList_eq,decide_eq_true_eq]
 exact⟨fun h=>ByteArray.ext (Array.toList_inj.mp h),fun h=>by rw[h]⟩
theorem bin_eqlS(a b:ByteArray)(kd:Nat):bin .eql kd (.v (.string a)) (.v (.string b)) S K=K (aB (decide (a=b))) S:=by simp[bin,b2,strB,bytesEq]
theorem bin_neqS(a b:ByteArray)(kd:Nat):bin .neq kd (.v (.string a)) (.v (.string b)) S K=K (aB (!decide (a=b))) S:=by simp[bin,b2,strB,bytesEq]
theorem ld1_qj{c:List AV}{j:Nat}{u:AV}(h:c[j]? = some u):ld1 (.q c j) S K=K u S:=by simp[ld1,rd1,place,h]
@[simp] theorem shift_q(c:List AV)(j n:Nat):shift (.q c j) n S K=K (.q c (j+n)) S:=rfl
end
def wordB(b:ByteArray):Bool:=decide (∀ i (h:i<b.size),33≤(b[i]).toNat∧(b[i]).toNat≤126) && (decide (0<b.size) && decide (b.size≤20))
theorem ans38(b:ByteArray)(hb:b.size≤9223372036854775807):Ans Pg 38 [.v (.string b)] (aB (wordB b)):=by
 intro S
 refine ACalls.ans_v (calls38 ?_)
 unfold m38
 rw[lenStr_b]
 refine loop38_0 (fun y S'=>S'=S∧∃ i:Nat,y=aI i∧i≤b.size∧∀ j (h:j<b.size),j<i→33≤(b[j]).toNat∧(b[j]).toNat≤126)
  (fun y _=>b.size - ((intA y).getD 0).toNat) ⟨rfl,0,rfl,Nat.zero_le _,fun j _ hj=>(Nat.not_lt_zero _ hj).elim⟩ ?_
 rintro _ S ⟨rfl,i,rfl,hi,hok⟩ KE hKE
 unfold b38_0
 rw[bin_lss,onB_v]
 refine gd_of (fun hlt=>?_) (fun hge=>?_)
 ·have hlt:i<b.size:=by simpa using hlt
  have bad:¬ (33≤(b[i]).toNat∧(b[i]).toNat≤126)→wordB b=false:=fun h=>by
   simp only[wordB,Bool.and_eq_false_iff,decide_eq_false_iff_not]
   exact .inl fun h'=>h (h' i hlt)
  rw[ixStr_b hlt,bin_leq,onB_v]
  refine gd_of (fun h1=>⟨by rw[bad (fun h=>by have:=dT h1;omega)],Keep.refl _⟩) (fun h1=>?_)
  rw[ixStr_b hlt,bin_gtr,onB_v]
  refine gd_of (fun h2=>⟨by rw[bad (fun h=>by have:=dT h2;omega)],Keep.refl _⟩) (fun h2=>?_)
  have hadd:∀ K:AV→Store→Prop,∀ S,bin .add 0 (.v (.int .i64 (i:Int))) (.v (.int .i64 1)) S K=K (aI (i+1:Nat)) S:=fun K S=>bin_add (by omega) (by omega) 0
  rw[hadd]
  refine hKE _ _ ⟨rfl,i+1,rfl,hlt,fun j hj hj'=>?_⟩ (by simp[intA];omega)
  rcases Nat.lt_or_ge j i with h|h
  ·exact hok j hj h
  ·have:j=i:=by omega
   subst this
   have h1:=dF h1
   have h2:=dF h2
   omega
 ·have hge:i=b.size:=by simp at hge;omega
  subst hge
  have hall:decide (∀ i (h:i<b.size),33≤(b[i]).toNat∧(b[i]).toNat≤126)=true:=decide_eq_true fun j hj=>hok j hj hj
  have he:decide (b={ data:=#[] })=decide (b.size=0):=by
   by_cases h:b.size=0
   ·have:b={ data:=#[] }:=byteArray_ext (Array.eq_empty_of_size_eq_zero h)
    subst this
    rfl
   ·have:¬ b={ data:=#[] }:=fun e=>h (by rw[e];rfl)
    simp[this,h]
  rw[bin_neqS,he,onB_v]
  refine gd_of (fun h1=>?_) (fun h1=>⟨?_,Keep.refl _⟩)
  ·have h1:b.size≠0:=by simpa using h1
   rw[lenStr_b,bin_leq]
   refine⟨?_,Keep.refl _⟩
   simp only[wordB,hall,Bool.true_and,show 0<b.size by omega,decide_true]
   rw[show decide ((b.size:Int)≤20)=decide (b.size≤20)from decide_eq_decide.2 (by omega)]
  ·have h1:b.size=0:=by simpa using h1
   simp[wordB,h1]
def rankI(k:Int):Int:=if k=105 then 0 else if k=108 then 1 else if k=111 then 2 else if k=98 then 3 else if k=99 then 4 else if k=102 then 5 else -1
def kindS:ByteArray:={ data:=#[105,108,111,98,99,102] }
def kindAt(i:Nat):Int:=[105,108,111,98,99,102].getD i 0
theorem rankI_at{k:Int}{i:Nat}(h:i<6)(hk:kindAt i=k):rankI k=i:=by
 subst hk
 match i,h with
 |0,_|1,_|2,_|3,_|4,_|5,_=>decide
theorem rankI_no{k:Int}(h:∀ i,i<6→kindAt i≠k):rankI k = -1:=by
 have h0:(105:Int)≠k:=h 0 (by decide)
 have h1:(108:Int)≠k:=h 1 (by decide)
 have h2:(111:Int)≠k:=h 2 (by decide)
 have h3:(98:Int)≠k:=h 3 (by decide)
 have h4:(99:Int)≠k:=h 4 (by decide)
 have h5:(102:Int)≠k:=h 5 (by decide)
 simp only[rankI]
 rw[if_neg (Ne.symm h0),if_neg (Ne.symm h1),if_neg (Ne.symm h2),if_neg (Ne.symm h3),if_neg (Ne.symm h4),if_neg (Ne.symm h5)]
theorem ans39(k:Int)(h0:0≤k)(h1:k<256):Ans Pg 39 [.v (.int .u8 k)] (aI (rankI k)):=by
 intro S
 refine ACalls.ans_v (calls39 ?_)
 unfold m39 rngS
 refine loop39_0 (fun S'=>Keep S S'∧∃ i:Nat,S'.obj S.n=some (.sit kindS i)∧i≤6∧∀ j,j<i→kindAt j≠k)
  (fun S'=>match S'.obj S.n with|some (.sit _ i)=>6 - i|_=>0) ⟨(Keep.refl S).new _,0,by rw[new_self];rfl,Nat.zero_le _,fun j hj=>(Nat.not_lt_zero _ hj).elim⟩ ?_
 rintro S1 ⟨k1,i,o1,hi,hno⟩ KE hKE
 unfold b39_0 nextM
 simp only[o1]
 refine⟨fun hlt=>?_,fun hge=>?_⟩
 ·have hlt:i<6:=hlt
  have hdec:(((Utf8.decode kindS i).1:Nat):Int)=kindAt i∧(Utf8.decode kindS i).2=1:=by
   match i,hlt with
   |0,_|1,_|2,_|3,_|4,_|5,_=>exact⟨by decide,by decide⟩
  rw[hdec.1,hdec.2]
  show extr _ _ _ _
  rw[extr0]
  show onB _ _
  rw[onB_v,gd_true,extr1,extr2,convI_v]
  have hw:IntKind.i32.wrap k=k:=by
   rw[IntKind.wrap_i32];omega
  rw[hw,bin_eql,onB_v]
  refine gd_of (fun h2=>⟨?_,k1.upd (Nat.le_refl _) _⟩) (fun h2=>?_)
  ·rw[rankI_at hlt (dT h2).symm]
  ·refine hKE _ ⟨k1.upd (Nat.le_refl _) _,i+1,upd_self _ _,hlt,fun j hj=>?_⟩ (by simp only[upd_self,o1];omega)
   rcases Nat.lt_or_ge j i with h|h
   ·exact hno j h
   ·have:j=i:=by omega
    subst this
    exact Ne.symm (dF h2)
 ·have hge:i=6:=by
    have:¬ (i<6):=hge
    omega
  subst hge
  show extr _ _ _ _
  rw[over,extr0,onB_v,gd_false,rankI_no hno]
  exact⟨rfl,k1⟩
theorem ans50(a:Int):Ans Pg 50 [aI a] (aB false):=by
 intro S
 refine ACalls.ans_v (calls50 ?_)
 unfold m50
 rw[bin_neq]
 exact⟨by simp,Keep.refl _⟩
def cmpZ(a b:Int):Int:=if a<b then -1 else if b<a then 1 else 0
theorem ans41(a b:Int):Ans Pg 41 [aI a,aI b] (aI (cmpZ a b)):=by
 intro S
 refine ACalls.ans_v (calls41 ?_)
 unfold m41
 refine callF_ans (ans50 a) (callF_ans (ans50 b) ?_)
 rw[onB_v,gd_false,onB_v,gd_false,bin_lss,onB_v]
 refine gd_of (fun h=>⟨?_,Keep.refl _⟩) (fun h=>?_)
 ·rw[cmpZ,if_pos (dT h)]
 rw[bin_gtr,onB_v]
 have h:=dF h
 refine gd_of (fun h2=>⟨?_,Keep.refl _⟩) (fun h2=>⟨?_,Keep.refl _⟩)
 ·rw[cmpZ,if_neg h,if_pos (dT h2)]
 ·rw[cmpZ,if_neg h,if_neg (dF h2)]
theorem ans40(a b:Int):Ans Pg 40 [.l [[aI a],[aI b]]] (aI (if a≠0 then a else b)):=by
 intro S
 refine ACalls.ans_v (calls40 ?_)
 unfold m40
 rw[lenS_l]
 refine loop40_0 (fun y S'=>S'=S∧∃ i:Nat,y=aI i∧i≤2∧(1≤i→a=0)∧(2≤i→b=0))
  (fun y _=>2 - ((intA y).getD 0).toNat) ⟨rfl,0,rfl,Nat.zero_le _,fun h=>by omega,fun h=>by omega⟩ ?_
 rintro _ S ⟨rfl,i,rfl,hi,h1,h2⟩ KE hKE
 unfold b40_0
 rw[bin_lss,onB_v]
 refine gd_of (fun hlt=>?_) (fun hge=>?_)
 ·have hlt:i<2:=by have:=dT hlt;exact Int.ofNat_lt.1 this
  have hadd:∀ K:AV→Store→Prop,∀ S,bin .add 0 (.v (.int .i64 (i:Int))) (.v (.int .i64 1)) S K=K (aI (i+1:Nat)) S:=fun K S=>bin_add (by omega) (by omega) 0
  match i,hlt with
  |0,_ =>
   rw[show ∀ K:AV→Store→Prop,ixS 3 1 (.l [[aI a],[aI b]]) (aI ((0:Nat):Int)) S K=K (.q [aI a] 0) S from fun K=>ixS_l (es:=[[aI a],[aI b]]) (i:=0) (by simp) rfl,ld1_qj rfl,bin_neq,onB_v]
   refine gd_of (fun h=>⟨?_,Keep.refl _⟩) (fun h=>?_)
   ·rw[if_pos (by simpa using h)]
   ·rw[hadd]
    exact hKE _ _ ⟨rfl,1,rfl,by decide,fun _=>by simpa using h,fun h=>by omega⟩ (by simp[intA])
  |1,_ =>
   have ha:=h1 (Nat.le_refl _)
   rw[show ∀ K:AV→Store→Prop,ixS 3 1 (.l [[aI a],[aI b]]) (aI ((1:Nat):Int)) S K=K (.q [aI b] 0) S from fun K=>ixS_l (es:=[[aI a],[aI b]]) (i:=1) (by simp) rfl,ld1_qj rfl,bin_neq,onB_v]
   refine gd_of (fun h=>⟨?_,Keep.refl _⟩) (fun h=>?_)
   ·rw[if_neg (by simp[ha])]
   ·rw[hadd]
    exact hKE _ _ ⟨rfl,2,rfl,by decide,fun _=>ha,fun _=>by simpa using h⟩ (by simp[intA])
 ·have hge:i=2:=by
    have:¬ ((i:Int)<2):=dF hge
    omega
  subst hge
  refine⟨?_,Keep.refl _⟩
  rw[h1 (by decide),h2 (by decide)]
  rfl
structure Na where
 kind:Int
 pos:Int
 text:ByteArray
 deriving DecidableEq
structure Ci where
 inputs:Int
 latches:List (Int × Int)
 ands:List (Int × Int)
 outs:List Int
 bads:List Int
 cons:List Int
 fair:List Int
 names:List Na
def Na.row(x:Na):List AV:=[.v (.int .u8 x.kind),aI x.pos,.v (.string x.text)]
def nL(l:List Na):AV:=.l (l.map Na.row)
def Ci.cells(c:Ci):List AV:=[aI c.inputs,pL c.latches,pL c.ands,aL aI c.outs,aL aI c.bads,aL aI c.cons,aL aI c.fair,nL c.names]
def Ci.av(c:Ci):AV:=.a c.cells
def Ci.gr(c:Ci):Gr:=⟨IntKind.i64.wrap (c.inputs+c.latches.length),c.ands⟩
structure Ci.ok (c:Ci):Prop where
 inp:i64R c.inputs
 llen:c.latches.length≤1000000
 alen:c.ands.length≤1000000
 lats:∀ p∈c.latches,i64R p.1∧i64R p.2
 pairs:∀ p∈c.ands,i64R p.1∧i64R p.2
 outs:(∀ x∈c.outs,i64R x)∧c.outs.length≤9223372036854775807
 bads:(∀ x∈c.bads,i64R x)∧c.bads.length≤9223372036854775807
 cons:(∀ x∈c.cons,i64R x)∧c.cons.length≤9223372036854775807
 fair:(∀ x∈c.fair,i64R x)∧c.fair.length≤9223372036854775807
 names:∀ x∈c.names,0≤x.kind∧x.kind<256∧i64R x.pos∧x.text.size≤9223372036854775807
 nlen:c.names.length≤1000000
theorem wrapR(n:Int):i64R (IntKind.i64.wrap n):=by
 unfold i64R
 rw[IntKind.wrap_i64];omega
theorem Ci.ok.gr{c:Ci}(h:c.ok):c.gr.ok:=⟨wrapR _,h.alen,h.pairs⟩
theorem bin_addW{a b:Int}(kd:Nat){S:Store}{K:AV→Store→Prop}:bin .add kd (aI a) (aI b) S K=K (aI (IntKind.i64.wrap (a+b))) S:=by
 simp[bin,b2,isSh,cmpI,ariI]
theorem ans12(c:Ci):Ans Pg 12 [c.av] c.gr.av:=by
 intro S
 refine ACalls.tree (calls12 ?_)
 unfold m12
 refine boxA_of rfl fun S1 k1 n1 o1=>?_
 refine boxA_of rfl fun S2 k2 n2 o2=>?_
 have p1:S2.obj S.n=_:=(k2.2 S.n (by omega)).trans o1
 rw[shift_p,ld1_p p1 rfl rfl,shift_p,ld1_p p1 rfl rfl,lenS_pL,bin_addW,shift_p,ld1_p p1 rfl rfl,bld_of (cs:=c.gr.cells) rfl]
 refine stA_of o2 rfl rfl fun S3 n3 o3 f3=>?_
 rw[ldN_p (n:=2) o3 rfl]
 exact⟨_,rfl,(k1.trans k2).st (by omega) n3 f3,c.gr.tree _ _⟩
def Ci.many(c:Ci)(k:Int):Int:=if k=105 then c.inputs else if k=108 then c.latches.length else if k=111 then c.outs.length else if k=98 then c.bads.length else if k=99 then c.cons.length else if k=102 then c.fair.length else 0
def Ci.manyE(c:Ci):List (Key × AV):=[(.i 105,aI c.inputs),(.i 108,aI c.latches.length),(.i 111,aI c.outs.length),(.i 98,aI c.bads.length),(.i 99,aI c.cons.length),(.i 102,aI c.fair.length)]
theorem keyI(k:IntKind)(a:Int):keyA (.i k) (.v (.int k a))=some (.i a):=by simp[keyA]
theorem ans22(c:Ci):Ans Pg 22 [c.av] (.mt (.i .i32) c.manyE):=by
 intro S
 refine ACalls.tree (calls22 ?_)
 unfold m22
 refine boxA_of rfl fun S1 k1 n1 o1=>?_
 unfold mkM
 show shift _ _ _ _
 have p1:(S1.new (.map (.i .i32) [] true)).obj S.n=_:=(new_lt (by omega)).trans o1
 have u:∀{es:List (Key × AV)},(Store.upd (S1.new (.map (.i .i32) [] true)) S1.n (.map (.i .i32) es true)).obj S.n=_:=fun{es}=>(upd_ne (by omega)).trans p1
 rw[shift_p,ld1_p p1 rfl rfl,updM_m (new_self _) (keyI _ _)]
 rw[shift_p,ld1_p u rfl rfl,lenS_pL,updM_m (upd_self _ _) (keyI _ _),upd_upd]
 rw[shift_p,ld1_p u rfl rfl,lenS_aL,updM_m (upd_self _ _) (keyI _ _),upd_upd]
 rw[shift_p,ld1_p u rfl rfl,lenS_aL,updM_m (upd_self _ _) (keyI _ _),upd_upd]
 rw[shift_p,ld1_p u rfl rfl,lenS_aL,updM_m (upd_self _ _) (keyI _ _),upd_upd]
 rw[shift_p,ld1_p u rfl rfl,lenS_aL,updM_m (upd_self _ _) (keyI _ _),upd_upd]
 refine⟨_,rfl,(k1.new _).upd (by omega) _,.m' S1.n (.i .i32) c.manyE c.manyE ?_ rfl (fun i e e2 h h2=>by rw[h]at h2;cases h2;rfl) (fun i e e2 h h2=>?_)⟩
 ·rw[frz_ofM (upd_self _ _)]
  have:newer S.n S1.n=true:=by simp[newer];omega
  rw[this]
  rfl
 ·rw[h]at h2;cases h2
  match i with
  |0|1|2|3|4|5=>cases h;exact .v _
  |i+6=>simp[Ci.manyE]at h
theorem lkp_many(c:Ci)(k:Int):((lkp c.manyE (.i k)).getD (aI 0))=aI (c.many k):=by
 by_cases h0:k=105
 ·subst h0;rfl
 by_cases h1:k=108
 ·subst h1;rfl
 by_cases h2:k=111
 ·subst h2;rfl
 by_cases h3:k=98
 ·subst h3;rfl
 by_cases h4:k=99
 ·subst h4;rfl
 by_cases h5:k=102
 ·subst h5;rfl
 have:kix c.manyE (.i k)=none:=by
  rw[kix_none]
  simp[Ci.manyE,h0,h1,h2,h3,h4,h5]
 simp[lkp,this,Ci.many,h0,h1,h2,h3,h4,h5]
theorem many_no{c:Ci}{k:Int}(h:rankI k<0):c.many k=0:=by
 unfold rankI at h
 unfold Ci.many
 repeat' split
 all_goals first|rfl|(simp[*]at h)
open Go Go.Ab Go.RowKit
def atoiR(s:ByteArray):AV:=
 match Lib.atoiAll s.data.toList with
 |.ok v=>.t [aI v,.v .nilIface]
 |.syntax=>.t [aI 0,.i 108 .j]
 |.range=>.t [aI (Lib.atoiSat s.data.toList),.i 108 .j]
theorem ans31{s:ByteArray}(hs:s.size≤281474976710656):Ans Pg 31 [.v (.string s)] (atoiR s):=fun S =>
 ACalls.below (by kernel_rfl) fun w g vs hh ha=>by
  obtain rfl:=ha.one
  unfold atoiR
  match h:Lib.atoiAll s.data.toList with
  |.ok v =>
   refine(Any.strconv_Atoi_ok laysAtoi s (by omega) v h w).mono fun e w' ⟨he,hw⟩=>⟨?_,_,he,R.t2 (.v _) (.v _)⟩
   rcases hw with rfl|⟨t,rfl⟩
   ·exact Below.refl _ _
   ·exact Lib.bytesWorld_below _ _ _
  |.syntax =>
   obtain⟨_,cs,hv,hok⟩:=hh.gl _ _ laysAtoi.m15 (by decide)
   obtain⟨te,pe,rfl⟩:=hok.1 (.inl rfl)
   exact(Any.strconv_Atoi_syntax_var laysAtoi s hs h te pe w hv).mono fun e w' ⟨n,he,_,_,hb⟩=>⟨hb,_,he,R.t2 (.v _) (.i _ _ _ (.j _))⟩
  |.range =>
   obtain⟨_,cs,hv,hok⟩:=hh.gl _ _ laysAtoi.m16 (by decide)
   obtain⟨te,pe,rfl⟩:=hok.1 (.inr rfl)
   exact(Any.strconv_Atoi_range_var laysAtoi s hs h te pe w hv).mono fun e w' ⟨n,he,_,_,hb⟩=>⟨hb,_,he,R.t2 (.v _) (.i _ _ _ (.j _))⟩
theorem ans32{n:Int}(hn:i64R n):Ans Pg 32 [aI n] (.v (.string ⟨(Lib.itoa n).toArray⟩)):=fun S =>
 ACalls.below (by kernel_rfl) fun w g vs hh ha=>by
  obtain rfl:=ha.one
  obtain⟨_,cs,hv,hok⟩:=hh.gl _ _ laysItoa.m17 (by decide)
  have ht : Lib.TabIs Pg w "internal/strconv.uint64pow10" .u64 Lib.pow10Tab := by
   unfold Lib.TabIs
   rw[hv,hok.2 rfl,Lib.pow10Tab,List.map_map]
   rfl
  refine(Any.strconv_Itoa laysItoa n (by have:=hn.1;omega) (by have:=hn.2;omega) w ht).mono fun e w' ⟨he,k,os,hw⟩=>⟨?_,_,he,.v _⟩
  rw[hw]
  exact Lib.below_grow _ _ (Nat.le_refl _) _ _
open Go
def numA(l:List UInt8):Int:=
 match Lib.atoiAll l with
 |.ok v=>if v<0 then -1 else if 6<l.length then -1 else if Lib.itoa v≠l then -1 else v
 |_=>-1
def numR(l:List UInt8):Int:=
 match Lib.decNat l with
 |some m=>if l.length≤6∧(l.length=1∨l.head?≠some 48)then m else -1
 |none=>-1
theorem digit_byte{b:UInt8}{d:Nat}(h:Lib.digitVal b=some d):d<10∧b=UInt8.ofNat (48+d)∧b.toNat=48+d:=by
 unfold Lib.digitVal at h
 split at h
 ·rename_i hb
  cases h
  have e:b.toNat=48+(b.toNat - 48):=by omega
  refine⟨by omega,?_,e⟩
  rw[←e]
  exact(UInt8.ofNat_toNat).symm
 ·cases h
theorem decFrom_ge:∀(l:List UInt8) (a m:Nat),Lib.decFrom a l=some m→a≤m
 |[],a,m,h=>by simp only[Lib.decFrom,Option.some.injEq]at h;omega
 |b :: r,a,m,h=>by
  simp only[Lib.decFrom]at h
  cases hd:Lib.digitVal b with
  |none=>rw[hd]at h;cases h
  |some d=>rw[hd]at h;have:=decFrom_ge r _ _ h;omega
theorem decFrom_app:∀(l r:List UInt8) (a:Nat),Lib.decFrom a (l++r)=(Lib.decFrom a l).bind fun m=>Lib.decFrom m r
 |[],r,a=>rfl
 |b :: l,r,a=>by
  simp only[List.cons_append,Lib.decFrom]
  cases hd:Lib.digitVal b with
  |none=>rfl
  |some d=>exact decFrom_app l r _
theorem digits_back:∀(n:Nat) (l:List UInt8),l.length=n→∀ m,Lib.decNat l=some m→(l.length=1∨l.head?≠some 48)→Lib.decDigits m=l:=by
 intro n
 induction n with
 |zero =>
  intro l hl m h
  rw[List.length_eq_zero_iff.1 hl]at h
  cases h
 |succ n ih =>
  intro l hl m h hz
  obtain⟨r,b,rfl⟩:∃ r b,l=r ++ [b]:=⟨l.dropLast,l.getLast (by intro e;rw[e]at hl;cases hl),(List.dropLast_concat_getLast _).symm⟩
  have h0:Lib.decFrom 0 (r ++ [b])=some m:=by
   unfold Lib.decNat at h
   rwa [if_neg (by simp)]at h
  rw[decFrom_app]at h0
  obtain⟨k,hk,hb⟩:=Option.bind_eq_some_iff.1 h0
  simp only[Lib.decFrom]at hb
  cases hd:Lib.digitVal b with
  |none=>rw[hd]at hb;cases hb
  |some d =>
   rw[hd]at hb
   obtain⟨h1,h2,h3⟩:=digit_byte hd
   cases hb
   cases r with
   |nil =>
    cases hk
    rw[Lib.decDigits,dif_pos (by omega),h2]
    simp
   |cons c r =>
    have hc:c≠48:=by
     rcases hz with hz|hz
     ·simp at hz
     ·intro e;subst e;exact hz rfl
    have hk1:1≤k:=by
     simp only[Lib.decFrom]at hk
     cases hdc:Lib.digitVal c with
     |none=>rw[hdc]at hk;cases hk
     |some dc =>
      rw[hdc]at hk
      obtain⟨_,h5,_⟩:=digit_byte hdc
      have:=decFrom_ge _ _ _ hk
      have:dc≠0:=by rintro rfl;exact hc h5
      omega
    have ihk:=ih (c :: r) (by simp at hl;simpa using hl) k (by unfold Lib.decNat;rw[if_neg (by simp)];exact hk) (.inr (by simpa using hc))
    rw[Lib.decDigits,dif_neg (by omega),show(k*10+d) / 10=k by omega,show(k*10+d) % 10=d by omega,ihk,h2]
theorem digits_mem:∀(n m:Nat),m<n→∀ b∈Lib.decDigits m,48≤b.toNat∧b.toNat≤57:=by
 intro n
 induction n with
 |zero=>intro m h;omega
 |succ n ih =>
  intro m h b hb
  have one:∀ k,k<10→48≤(UInt8.ofNat (48+k)).toNat∧(UInt8.ofNat (48+k)).toNat≤57:=fun k hk=>by
   rw[UInt8.toNat_ofNat']
   omega
  rw[Lib.decDigits]at hb
  split at hb
  ·rename_i h10
   rw[List.mem_singleton.1 hb]
   exact one _ h10
  ·rcases List.mem_append.1 hb with hb|hb
   ·exact ih _ (by omega) b hb
   ·rw[List.mem_singleton.1 hb]
    exact one _ (by omega)
theorem digits_ne(m:Nat):Lib.decDigits m≠[]:=by
 rw[Lib.decDigits]
 split<;>simp
theorem digits_head:∀(n m:Nat),m<n→1≤m→(Lib.decDigits m).head?≠some 48:=by
 intro n
 induction n with
 |zero=>intro m h;omega
 |succ n ih =>
  intro m h h1
  rw[Lib.decDigits]
  split
  ·rename_i h10
   intro e
   have e:UInt8.ofNat (48+m)=48:=by simpa using e
   have:=congrArg UInt8.toNat e
   rw[UInt8.toNat_ofNat']at this
   have:(48+m) % 2 ^ 8=48:=this
   omega
  ·have:=ih (m / 10) (by omega) (by omega)
   cases hd:Lib.decDigits (m / 10)with
   |nil=>exact absurd hd (digits_ne _)
   |cons c r=>rw[hd]at this;simpa using this
theorem digits_iff{l:List UInt8}{m:Nat}(h:Lib.decNat l=some m):Lib.decDigits m=l↔(l.length=1∨l.head?≠some 48):=by
 refine⟨fun e=>?_,digits_back _ l rfl m h⟩
 by_cases h1:1≤m
 ·right
  rw[←e]
  exact digits_head _ m (Nat.lt_succ_self _) h1
 ·have:m=0:=by omega
  subst this
  left
  rw[←e,Lib.decDigits,dif_pos (by decide)]
  rfl
theorem num_eq(l:List UInt8):numA l=numR l:=by
 unfold numA numR
 by_cases hl:6<l.length
 ·have e1:(match Lib.decNat l with|some m=>if l.length≤6∧(l.length=1∨l.head?≠some 48)then(m:Int)else -1|none=>-1) = -1:=by
    split
    ·rw[if_neg (by omega)]
    ·rfl
  rw[e1]
  split
  ·split
   ·rfl
   ·first
    |rfl
    |rw[if_pos hl]
  ·rfl
 rw[Lib.atoiAll_short l (by omega)]
 cases l with
 |nil=>rfl
 |cons b r =>
  have hneg:∀(x:UInt8) (hx:x.toNat<48),Lib.decNat (x :: r)=none:=fun x hx=>by
   unfold Lib.decNat
   rw[if_neg (by simp)]
   simp only[Lib.decFrom]
   have:Lib.digitVal x=none:=by unfold Lib.digitVal;rw[if_neg (by omega)]
   rw[this]
  have hno:∀(x:UInt8) (hx:x.toNat<48) (m:Nat),Lib.decDigits m≠x :: r:=fun x hx m e=>by
   have:=digits_mem _ m (Nat.lt_succ_self _) x (by rw[e];exact List.mem_cons_self)
   omega
  by_cases h45:b=45
  ·subst h45
   rw[hneg 45 (by decide)]
   have e:Lib.atoi (45 :: r)=(Lib.decNat r).map fun(m:Nat)=>-(m:Int):=by simp[Lib.atoi]
   rw[e]
   cases hr:Lib.decNat r with
   |none=>rfl
   |some m =>
    show(if(-(m:Int))<0 then(-1:Int)else if 6<(45 :: r).length then -1 else if Lib.itoa (-(m:Int))≠45 :: r then -1 else -(m:Int)) = -1
    by_cases hm:m=0
    ·subst hm
     rw[if_neg (by decide),if_neg hl,if_pos]
     intro e
     have:Lib.itoa (-((0:Nat):Int))=Lib.decDigits 0:=by simp[Lib.itoa]
     rw[this]at e
     exact hno 45 (by decide) 0 e
    ·rw[if_pos (by omega)]
  ·by_cases h43:b=43
   ·subst h43
    rw[hneg 43 (by decide)]
    have e:Lib.atoi (43 :: r)=(Lib.decNat r).map fun(m:Nat)=>(m:Int):=by simp[Lib.atoi]
    rw[e]
    cases hr:Lib.decNat r with
    |none=>rfl
    |some m =>
     show(if(m:Int)<0 then(-1:Int)else if 6<(43 :: r).length then -1 else if Lib.itoa (m:Int)≠43 :: r then -1 else(m:Int)) = -1
     rw[if_neg (by omega),if_neg hl,if_pos]
     rw[Lib.itoa_nonneg]
     exact hno 43 (by decide) m
   ·have e:Lib.atoi (b :: r)=(Lib.decNat (b :: r)).map fun(m:Nat)=>(m:Int):=by simp[Lib.atoi,h45,h43]
    rw[e]
    cases hr:Lib.decNat (b :: r)with
    |none=>rfl
    |some m =>
     show(if(m:Int)<0 then(-1:Int)else if 6<(b :: r).length then -1 else if Lib.itoa (m:Int)≠b :: r then -1 else(m:Int))=if(b :: r).length≤6∧((b :: r).length=1∨(b :: r).head?≠some 48)then(m:Int)else -1
     rw[if_neg (by omega),if_neg hl,Lib.itoa_nonneg]
     by_cases hd:Lib.decDigits m=b :: r
     ·rw[if_neg (by simpa using hd),if_pos ⟨by omega,(digits_iff hr).1 hd⟩]
     ·rw[if_pos hd,if_neg (fun h=>hd ((digits_iff hr).2 h.2))]
section
set_option maxRecDepth 100000
def c47:Code:=(Tryd.f47.body).getD .skip
def ms47:List (List Nat):=[[]]
def m47(x0 x1:AV)(S:Store)(Q:PoT):Prop:=
 ld1 x1 S fun a S=>bin .shr 0 x0 (.v (.int .u64 1)) S fun c S=>ixS 4 1 a c S fun d S=>ld1 d S fun e S=>bin .and 0 x0 (.v (.int .i64 1)) S fun f S=>bin .eql 0 f (.v (.int .i64 1)) S fun g S=>bin .neq 1 e g S fun h S=>Q (.ret h) S
theorem calls47{x0 x1:AV}{S:Store}{Q:PoT}(h:m47 x0 x1 S Q):ACalls Pg 47 [x0,x1] S Q:=
 calls_of_vc (fn:=Tryd.f47) (c:=c47) (n:=13) Tryd.func47 (by kernel_rfl) (by kernel_rfl) (by kernel_rfl) ms47 (Eq.mpr (by kernel_rfl) h)
def c33:Code:=(Tryd.f33.body).getD .skip
def r33:List ResultVar:=Tryd.f33.results.toList
def env33_0(y5 y6 y32 y33 y34:AV):List AV:=[y5,y6,y32,y33,y34]
def lv33_0:List Nat:=[5,6,32,33,34]
def ms33:List (List Nat):=[lv33_0,[]]
def m33(x0 x1:AV)(S:Store)(Q:PoT):Prop:=
 boxN 43 2 x0 S fun a S=>ldN 2 a S fun c S=>callF Pg 26 [c] S Q fun d S=>un .not d S fun e S=>onB e fun b=>gd b (Q (.ret .nl) S) (lenS x1 S fun g S=>shift a 0 S fun h S=>ld1 h S fun i S=>bin .neq 0 g i S fun k S=>onB k fun b=>gd b (Q (.ret .nl) S) (shift a 0 S fun l S=>ld1 l S fun m S=>bin .add 0 m (.v (.int .i64 1)) S fun n S=>shift a 1 S fun o S=>ld1 o S fun p S=>lenS p S fun q S=>bin .add 0 n q S fun r S=>mkN 4 1 [.v (.bool false)] (.v (.int .i64 1)) r S fun s S=>boxN 54 1 .nl S fun t S=>stN 1 t s S fun u S=>ld1 t S fun w S=>appS 4 1 1 w x1 S fun x S=>stN 1 t x S fun y S=>shift a 1 S fun z S=>ld1 z S fun A S=>lenS A S fun B S=>loopV lv33_0 (vc Pg (c33.at_ [1,1,1,1,1,0,1,0,0]) (ms33.drop 1)) 53 (env33_0 t (.f (.func 47) [] [t]) A B (.v (.int .i64 0))) S (blockK 0 (seqK (vc Pg (c33.at_ [1,1,1,1,1,1]) (ms33.drop 1)) (bodyK Pg r33 Q)))))
theorem calls33{x0 x1:AV}{S:Store}{Q:PoT}(h:m33 x0 x1 S Q):ACalls Pg 33 [x0,x1] S Q:=
 calls_of_vc (fn:=Tryd.f33) (c:=c33) (n:=53) Tryd.func33 (by kernel_rfl) (by kernel_rfl) (by kernel_rfl) ms33 (Eq.mpr (by kernel_rfl) h)
def b33_0(y5 y6 y32 y33 y34:AV)(S:Store)(KE0:KeT)(Q:PoT):Prop:=
 bin .lss 0 y34 y33 S fun c S=>onB c fun b=>gd b (ixS 99 2 y32 y34 S fun d S=>ldN 2 d S fun e S=>boxN 99 2 (.a [.v (.int .i64 0),.v (.int .i64 0)]) S fun f S=>stN 2 f e S fun g S=>∃ h:AV,(∀ T:Store,Keep S T→ld1 y5 T fun i S=>i=h∧S=T)∧∃ k:AV,(∀ T:Store,Keep S T→ixA 2 1 f (.v (.int .i64 0)) T fun l S=>l=k∧S=T)∧∃ m:AV,(∀ T:Store,Keep S T→ld1 k T fun n S=>n=m∧S=T)∧∃ o:AV,(∀ T:Store,Keep S T→callV Pg y6 [m] T (fun p S=>p=o∧S=T) (fun u S=>False))∧onB o fun b=>gd b (∃ q:AV,(∀ T:Store,Keep S T→ixA 2 1 f (.v (.int .i64 1)) T fun r S=>r=q∧S=T)∧∃ s:AV,(∀ T:Store,Keep S T→ld1 q T fun t S=>t=s∧S=T)∧∃ w:AV,(∀ T:Store,Keep S T→callV Pg y6 [s] T (fun x S=>x=w∧S=T) (fun u S=>False))∧∃ y:AV,(∀ T:Store,Keep S T→w=y∧T=T)∧∃ z:AV,(∀ T:Store,Keep S T→bslN 4 1 1 [.v (.bool false)] [(0,y)] T fun A S=>A=z∧S=T)∧appS 4 1 1 h z S fun B S=>stN 1 y5 B S fun C S=>bin .add 0 y34 (.v (.int .i64 1)) S fun D S=>KE0 53 (env33_0 y5 y6 y32 y33 D) S) (∃ E:AV,(∀ T:Store,Keep S T→(.v (.bool false))=E∧T=T)∧∃ F:AV,(∀ T:Store,Keep S T→bslN 4 1 1 [.v (.bool false)] [(0,E)] T fun G S=>G=F∧S=T)∧appS 4 1 1 h F S fun H S=>stN 1 y5 H S fun I S=>bin .add 0 y34 (.v (.int .i64 1)) S fun J S=>KE0 53 (env33_0 y5 y6 y32 y33 J) S)) (ld1 y5 S fun K S=>Q (.ret K) S)
theorem b33_0_eq(y5 y6 y32 y33 y34:AV)(S:Store)(KE0:KeT)(Q:PoT):vc Pg (c33.at_ [1,1,1,1,1,0,1,0,0]) (ms33.drop 1) (mkE 53 lv33_0 (env33_0 y5 y6 y32 y33 y34)) S (thenK (fgK lv33_0 KE0) (blockK 0 (seqK (vc Pg (c33.at_ [1,1,1,1,1,1]) (ms33.drop 1)) (bodyK Pg r33 Q))))=b33_0 y5 y6 y32 y33 y34 S KE0 Q:=by kernel_rfl
theorem loop33_0{y5 y6 y32 y33:AV}{y340:AV}{S:Store}{Q:PoT}(I:AV→Store→Prop)(μ:AV→Store→Nat)(h0:I y340 S)
    (hr:∀(y34:AV) (S:Store),I y34 S→∀ KE0:KeT,(∀(y34':AV) (S':Store),I y34' S'→μ y34' S'<μ y34 S→KE0 53 (env33_0 y5 y6 y32 y33 y34') S')→b33_0 y5 y6 y32 y33 y34 S KE0 Q):
    loopV lv33_0 (vc Pg (c33.at_ [1,1,1,1,1,0,1,0,0]) (ms33.drop 1)) 53 (env33_0 y5 y6 y32 y33 y340) S (blockK 0 (seqK (vc Pg (c33.at_ [1,1,1,1,1,1]) (ms33.drop 1)) (bodyK Pg r33 Q))):=by
 refine⟨fun n e S=>n=53∧∃ y34:AV,e=(env33_0 y5 y6 y32 y33 y34)∧I y34 S,fun _ e S=>μ (e.getD 4 .j) S,?_,?_⟩
 ·exact⟨_,_,Wk.refl _ _,rfl,_,rfl,h0⟩
 ·rintro _ e S ⟨rfl,y34,rfl,hI⟩
  exact(b33_0_eq _ _ _ _ _ _ _ _).mpr (hr y34 S hI _ (fun y34' S' hI' hm=>⟨_,_,Wk.refl _ _,⟨rfl,_,rfl,hI'⟩,hm⟩))
def c23:Code:=(Tryd.f23.body).getD .skip
def ms23:List (List Nat):=[[]]
def m23(x0 x1:AV)(S:Store)(Q:PoT):Prop:=
 ldN 2 x1 S fun a S=>callF Pg 24 [a,x0] S Q fun c S=>un .not c S fun d S=>Q (.ret d) S
theorem calls23{x0 x1:AV}{S:Store}{Q:PoT}(h:m23 x0 x1 S Q):ACalls Pg 23 [x0,x1] S Q:=
 calls_of_vc (fn:=Tryd.f23) (c:=c23) (n:=8) Tryd.func23 (by kernel_rfl) (by kernel_rfl) (by kernel_rfl) ms23 (Eq.mpr (by kernel_rfl) h)
def c25:Code:=(Tryd.f25.body).getD .skip
def ms25:List (List Nat):=[[]]
def m25(x0 x1:AV)(S:Store)(Q:PoT):Prop:=
 boxN 39 2 x0 S fun a S=>ld1 x1 S fun c S=>shift a 0 S fun d S=>ld1 d S fun e S=>callV Pg c [e] S (fun f S=>onB f fun b=>gd b (Q (.ret (.v (.bool true))) S) (shift a 1 S fun g S=>ld1 g S fun h S=>bin .lss 0 h (.v (.int .i64 0)) S fun i S=>onB i fun b=>gd b (Q (.ret (.v (.bool true))) S) (shift a 1 S fun k S=>ld1 k S fun l S=>bin .gtr 0 l (.v (.int .i64 2)) S fun m S=>Q (.ret m) S))) (fun u S=>Q (.pan u) S)
theorem calls25{x0 x1:AV}{S:Store}{Q:PoT}(h:m25 x0 x1 S Q):ACalls Pg 25 [x0,x1] S Q:=
 calls_of_vc (fn:=Tryd.f25) (c:=c25) (n:=18) Tryd.func25 (by kernel_rfl) (by kernel_rfl) (by kernel_rfl) ms25 (Eq.mpr (by kernel_rfl) h)
def c36:Code:=(Tryd.f36.body).getD .skip
def r36:List ResultVar:=Tryd.f36.results.toList
def env36_0(y0 y1 y7 y8:AV):List AV:=[y0,y1,y7,y8]
def lv36_0:List Nat:=[0,1,7,8]
def ms36:List (List Nat):=[lv36_0,[]]
def m36(x0 x1:AV)(S:Store)(Q:PoT):Prop:=
 lenS x0 S fun a S=>loopV lv36_0 (vc Pg (c36.at_ [1,0,1,0,0]) (ms36.drop 1)) 19 (env36_0 x0 x1 a (.v (.int .i64 0))) S (blockK 0 (seqK (vc Pg (c36.at_ [1,1]) (ms36.drop 1)) (bodyK Pg r36 Q)))
theorem calls36{x0 x1:AV}{S:Store}{Q:PoT}(h:m36 x0 x1 S Q):ACalls Pg 36 [x0,x1] S Q:=
 calls_of_vc (fn:=Tryd.f36) (c:=c36) (n:=19) Tryd.func36 (by kernel_rfl) (by kernel_rfl) (by kernel_rfl) ms36 (Eq.mpr (by kernel_rfl) h)
def b36_0(y0 y1 y7 y8:AV)(S:Store)(KE0:KeT)(Q:PoT):Prop:=
 bin .lss 0 y8 y7 S fun a S=>onB a fun b=>gd b (ixS 39 2 y0 y8 S fun c S=>ldN 2 c S fun d S=>callV Pg y1 [d] S (fun e S=>onB e fun b=>gd b (Q (.ret y8) S) (bin .add 0 y8 (.v (.int .i64 1)) S fun f S=>KE0 19 (env36_0 y0 y1 y7 f) S)) (fun u S=>Q (.pan u) S)) (Q (.ret (.v (.int .i64 (-1)))) S)
theorem b36_0_eq(y0 y1 y7 y8:AV)(S:Store)(KE0:KeT)(Q:PoT):vc Pg (c36.at_ [1,0,1,0,0]) (ms36.drop 1) (mkE 19 lv36_0 (env36_0 y0 y1 y7 y8)) S (thenK (fgK lv36_0 KE0) (blockK 0 (seqK (vc Pg (c36.at_ [1,1]) (ms36.drop 1)) (bodyK Pg r36 Q))))=b36_0 y0 y1 y7 y8 S KE0 Q:=by kernel_rfl
theorem loop36_0{y0 y1 y7:AV}{y80:AV}{S:Store}{Q:PoT}(I:AV→Store→Prop)(μ:AV→Store→Nat)(h0:I y80 S)
    (hr:∀(y8:AV) (S:Store),I y8 S→∀ KE0:KeT,(∀(y8':AV) (S':Store),I y8' S'→μ y8' S'<μ y8 S→KE0 19 (env36_0 y0 y1 y7 y8') S')→b36_0 y0 y1 y7 y8 S KE0 Q):
    loopV lv36_0 (vc Pg (c36.at_ [1,0,1,0,0]) (ms36.drop 1)) 19 (env36_0 y0 y1 y7 y80) S (blockK 0 (seqK (vc Pg (c36.at_ [1,1]) (ms36.drop 1)) (bodyK Pg r36 Q))):=by
 refine⟨fun n e S=>n=19∧∃ y8:AV,e=(env36_0 y0 y1 y7 y8)∧I y8 S,fun _ e S=>μ (e.getD 3 .j) S,?_,?_⟩
 ·exact⟨_,_,Wk.refl _ _,rfl,_,rfl,h0⟩
 ·rintro _ e S ⟨rfl,y8,rfl,hI⟩
  exact(b36_0_eq _ _ _ _ _ _ _).mpr (hr y8 S hI _ (fun y8' S' hI' hm=>⟨_,_,Wk.refl _ _,⟨rfl,_,rfl,hI'⟩,hm⟩))
def c27:Code:=(Tryd.f27.body).getD .skip
def ms27:List (List Nat):=[[]]
def m27(x0 x1:AV)(S:Store)(Q:PoT):Prop:=
 callF Pg 36 [x0,x1] S Q fun a S=>bin .geq 0 a (.v (.int .i64 0)) S fun c S=>Q (.ret c) S
theorem calls27{x0 x1:AV}{S:Store}{Q:PoT}(h:m27 x0 x1 S Q):ACalls Pg 27 [x0,x1] S Q:=
 calls_of_vc (fn:=Tryd.f27) (c:=c27) (n:=9) Tryd.func27 (by kernel_rfl) (by kernel_rfl) (by kernel_rfl) ms27 (Eq.mpr (by kernel_rfl) h)
def c11:Code:=(Tryd.f11.body).getD .skip
def r11:List ResultVar:=Tryd.f11.results.toList
def env11_0(y1 y3 y14:AV):List AV:=[y1,y3,y14]
def lv11_0:List Nat:=[1,3,14]
def env11_1(y1 y6 y44 y45:AV):List AV:=[y1,y6,y44,y45]
def lv11_1:List Nat:=[1,6,44,45]
def ms11:List (List Nat):=[lv11_0,lv11_1,[]]
def m11(x0:AV)(S:Store)(Q:PoT):Prop:=
 boxN 29 8 x0 S fun c S=>ldN 8 c S fun d S=>callF Pg 12 [d] S Q fun e S=>boxN 43 2 (.a [.v (.int .i64 0),.nl]) S fun f S=>stN 2 f e S fun g S=>ldN 8 c S fun h S=>callF Pg 22 [h] S Q fun i S=>rngM i S fun k S=>loopV lv11_0 (vc Pg (c11.at_ [1,1,0,1,0,0]) (ms11.drop 1)) 54 (env11_0 c f k) S (blockK 0 (seqK (vc Pg (c11.at_ [1,1,1]) (ms11.drop 1)) (bodyK Pg r11 Q)))
theorem calls11{x0:AV}{S:Store}{Q:PoT}(h:m11 x0 S Q):ACalls Pg 11 [x0] S Q:=
 calls_of_vc (fn:=Tryd.f11) (c:=c11) (n:=54) Tryd.func11 (by kernel_rfl) (by kernel_rfl) (by kernel_rfl) ms11 (Eq.mpr (by kernel_rfl) h)
def b11_0(y1 y3 y14:AV)(S:Store)(KE0:KeT)(Q:PoT):Prop:=
 nextM false y14 S fun a S=>extr a 0 S fun c S=>onB c fun b=>gd b (entryM y14 S fun d S=>extr d 1 S fun e S=>bin .lss 0 e (.v (.int .i64 0)) S fun g S=>onB g fun b=>gd b (Q (.ret (.v (.bool false))) S) (bin .gtr 0 e (.v (.int .i64 2000)) S fun h S=>onB h fun b=>gd b (Q (.ret (.v (.bool false))) S) (KE0 54 (env11_0 y1 y3 y14) S))) (boxN 60 1 (.v .nilFunc) S fun i S=>stN 1 i (.f (.func 23) [] [y3]) S fun k S=>ldN 2 y3 S fun l S=>callF Pg 26 [l] S Q fun m S=>un .not m S fun n S=>onB n fun b=>gd b (Q (.ret (.v (.bool false))) S) (shift y1 1 S fun o S=>ld1 o S fun p S=>callF Pg 27 [p,(.f (.func 25) [] [i])] S Q fun q S=>onB q fun b=>gd b (Q (.ret (.v (.bool false))) S) (shift y1 3 S fun r S=>ld1 r S fun s S=>shift y1 4 S fun t S=>ld1 t S fun u S=>shift y1 5 S fun w S=>ld1 w S fun x S=>shift y1 6 S fun y S=>ld1 y S fun z S=>bld [(0,1),(1,1),(2,1),(3,1)] [.nl,.nl,.nl,.nl] [(0,s),(1,u),(2,x),(3,z)] S fun A S=>loopV lv11_1 (vc Pg (c11.at_ [1,1,1,1,1,1,0,1,0,0]) (ms11.drop 2)) 54 (env11_1 y1 i A (.v (.int .i64 0))) S (blockK 2 (seqK (vc Pg (c11.at_ [1,1,1,1,1,1,1]) (ms11.drop 2)) (bodyK Pg r11 Q))))))
theorem b11_0_eq(y1 y3 y14:AV)(S:Store)(KE0:KeT)(Q:PoT):vc Pg (c11.at_ [1,1,0,1,0,0]) (ms11.drop 1) (mkE 54 lv11_0 (env11_0 y1 y3 y14)) S (thenK (fgK lv11_0 KE0) (blockK 0 (seqK (vc Pg (c11.at_ [1,1,1]) (ms11.drop 1)) (bodyK Pg r11 Q))))=b11_0 y1 y3 y14 S KE0 Q:=by kernel_rfl
theorem loop11_0{y1 y3 y14:AV}{S:Store}{Q:PoT}(I:Store→Prop)(μ:Store→Nat)(h0:I  S)
    (hr:∀(S:Store),I  S→∀ KE0:KeT,(∀(S':Store),I  S'→μ  S'<μ  S→KE0 54 (env11_0 y1 y3 y14) S')→b11_0 y1 y3 y14 S KE0 Q):
    loopV lv11_0 (vc Pg (c11.at_ [1,1,0,1,0,0]) (ms11.drop 1)) 54 (env11_0 y1 y3 y14) S (blockK 0 (seqK (vc Pg (c11.at_ [1,1,1]) (ms11.drop 1)) (bodyK Pg r11 Q))):=by
 refine⟨fun n e S=>n=54∧e=(env11_0 y1 y3 y14)∧I  S,fun _ e S=>μ  S,?_,?_⟩
 ·exact⟨_,_,Wk.refl _ _,rfl,rfl,h0⟩
 ·rintro _ e S ⟨rfl,rfl,hI⟩
  exact(b11_0_eq _ _ _ _ _ _).mpr (hr  S hI _ (fun  S' hI' hm=>⟨_,_,Wk.refl _ _,⟨rfl,rfl,hI'⟩,hm⟩))
def b11_1(y1 y6 y44 y45:AV)(S:Store)(KE1:KeT)(Q:PoT):Prop:=
 bin .lss 0 y45 (.v (.int .i64 4)) S fun a S=>onB a fun b=>gd b (optP (intA y45) fun z39=>(0≤z39∧z39<((4:Nat):Int))∧part1 y44 (z39.toNat*1) S fun c S=>ld1 y6 S fun d S=>callF Pg 28 [c,d] S Q fun e S=>onB e fun b=>gd b (Q (.ret (.v (.bool false))) S) (bin .add 0 y45 (.v (.int .i64 1)) S fun f S=>KE1 54 (env11_1 y1 y6 y44 f) S)) (ldN 8 y1 S fun g S=>callF Pg 29 [g] S Q fun h S=>Q (.ret h) S)
theorem b11_1_eq(y1 y6 y44 y45:AV)(S:Store)(KE1:KeT)(Q:PoT):vc Pg (c11.at_ [1,1,1,1,1,1,0,1,0,0]) (ms11.drop 2) (mkE 54 lv11_1 (env11_1 y1 y6 y44 y45)) S (thenK (fgK lv11_1 KE1) (blockK 2 (seqK (vc Pg (c11.at_ [1,1,1,1,1,1,1]) (ms11.drop 2)) (bodyK Pg r11 Q))))=b11_1 y1 y6 y44 y45 S KE1 Q:=by kernel_rfl
theorem loop11_1{y1 y6 y44:AV}{y450:AV}{S:Store}{Q:PoT}(I:AV→Store→Prop)(μ:AV→Store→Nat)(h0:I y450 S)
    (hr:∀(y45:AV) (S:Store),I y45 S→∀ KE1:KeT,(∀(y45':AV) (S':Store),I y45' S'→μ y45' S'<μ y45 S→KE1 54 (env11_1 y1 y6 y44 y45') S')→b11_1 y1 y6 y44 y45 S KE1 Q):
    loopV lv11_1 (vc Pg (c11.at_ [1,1,1,1,1,1,0,1,0,0]) (ms11.drop 2)) 54 (env11_1 y1 y6 y44 y450) S (blockK 2 (seqK (vc Pg (c11.at_ [1,1,1,1,1,1,1]) (ms11.drop 2)) (bodyK Pg r11 Q))):=by
 refine⟨fun n e S=>n=54∧∃ y45:AV,e=(env11_1 y1 y6 y44 y45)∧I y45 S,fun _ e S=>μ (e.getD 3 .j) S,?_,?_⟩
 ·exact⟨_,_,Wk.refl _ _,rfl,_,rfl,h0⟩
 ·rintro _ e S ⟨rfl,y45,rfl,hI⟩
  exact(b11_1_eq _ _ _ _ _ _ _).mpr (hr y45 S hI _ (fun y45' S' hI' hm=>⟨_,_,Wk.refl _ _,⟨rfl,_,rfl,hI'⟩,hm⟩))
def c29:Code:=(Tryd.f29.body).getD .skip
def r29:List ResultVar:=Tryd.f29.results.toList
def env29_0(y1 y3 y4 y12 y13 y14:AV):List AV:=[y1,y3,y4,y12,y13,y14]
def lv29_0:List Nat:=[1,3,4,12,13,14]
def ms29:List (List Nat):=[lv29_0,[]]
def m29(x0:AV)(S:Store)(Q:PoT):Prop:=
 boxN 29 8 x0 S fun a S=>ldN 8 a S fun c S=>callF Pg 22 [c] S Q fun d S=>mkM .s S fun e S=>shift a 7 S fun f S=>ld1 f S fun g S=>lenS g S fun h S=>loopV lv29_0 (vc Pg (c29.at_ [1,1,1,0,1,0,0]) (ms29.drop 1)) 78 (env29_0 a d e g h (.v (.int .i64 0))) S (blockK 0 (seqK (vc Pg (c29.at_ [1,1,1,1]) (ms29.drop 1)) (bodyK Pg r29 Q)))
theorem calls29{x0:AV}{S:Store}{Q:PoT}(h:m29 x0 S Q):ACalls Pg 29 [x0] S Q:=
 calls_of_vc (fn:=Tryd.f29) (c:=c29) (n:=78) Tryd.func29 (by kernel_rfl) (by kernel_rfl) (by kernel_rfl) ms29 (Eq.mpr (by kernel_rfl) h)
def b29_0(y1 y3 y4 y12 y13 y14:AV)(S:Store)(KE0:KeT)(Q:PoT):Prop:=
 bin .lss 0 y14 y13 S fun c S=>onB c fun b=>gd b (ixS 32 3 y12 y14 S fun d S=>ldN 3 d S fun e S=>boxN 32 3 (.a [.v (.int .u8 0),.v (.int .i64 0),.v (.string ByteArray.empty)]) S fun f S=>stN 3 f e S fun g S=>shift f 2 S fun h S=>ld1 h S fun k S=>callF Pg 38 [k] S Q fun l S=>un .not l S fun m S=>onB m fun b=>gd b (Q (.ret (.v (.bool false))) S) (shift f 0 S fun n S=>ld1 n S fun o S=>callF Pg 39 [o] S Q fun p S=>bin .lss 0 p (.v (.int .i64 0)) S fun q S=>onB q fun b=>gd b (Q (.ret (.v (.bool false))) S) (shift f 1 S fun r S=>ld1 r S fun t S=>bin .lss 0 t (.v (.int .i64 0)) S fun u S=>onB u fun b=>gd b (Q (.ret (.v (.bool false))) S) (shift f 1 S fun w S=>ld1 w S fun x S=>shift f 0 S fun y S=>ld1 y S fun z S=>convI .i32 z S fun A S=>lkM (.i .i32) (.v (.int .i64 0)) false y3 A S fun B S=>bin .geq 0 x B S fun C S=>onB C fun b=>gd b (Q (.ret (.v (.bool false))) S) (shift f 2 S fun D S=>ld1 D S fun E S=>bld [] [] [] S fun F S=>updM .s y4 E F S fun G S=>bin .eql 0 y14 (.v (.int .i64 0)) S fun H S=>onB H fun b=>gd b (bin .add 0 y14 (.v (.int .i64 1)) S fun I S=>KE0 78 (env29_0 y1 y3 y4 y12 y13 I) S) (shift y1 7 S fun J S=>ld1 J S fun K S=>bin .sub 0 y14 (.v (.int .i64 1)) S fun L S=>ixS 32 3 K L S fun M S=>ldN 3 M S fun N S=>boxN 32 3 (.a [.v (.int .u8 0),.v (.int .i64 0),.v (.string ByteArray.empty)]) S fun O S=>stN 3 O N S fun P S=>(fun S0:Store=>∃ R:AV,(shift O 0 S fun T S=>T=R∧S=S0)∧∃ U:AV,(ld1 R S fun V S=>V=U∧S=S0)∧∃ W:AV,(callF Pg 39 [U] S (fun _ _=>False) fun X S=>X=W∧S=S0)∧∃ Y:AV,(shift f 0 S fun Z S=>Z=Y∧S=S0)∧∃ a0:AV,(ld1 Y S fun a1 S=>a1=a0∧S=S0)∧∃ a2:AV,(callF Pg 39 [a0] S (fun _ _=>False) fun a3 S=>a3=a2∧S=S0)∧∃ a4:AV,(callF Pg 41 [W,a2] S (fun _ _=>False) fun a5 S=>a5=a4∧S=S0)∧∃ a6:AV,(shift O 1 S fun a7 S=>a7=a6∧S=S0)∧∃ a8:AV,(ld1 a6 S fun a9 S=>a9=a8∧S=S0)∧∃ b0:AV,(shift f 1 S fun b1 S=>b1=b0∧S=S0)∧∃ b2:AV,(ld1 b0 S fun b3 S=>b3=b2∧S=S0)∧∃ b4:AV,(callF Pg 41 [a8,b2] S (fun _ _=>False) fun b5 S=>b5=b4∧S=S0)∧∃ b6:AV,(bslN 3 1 2 [.v (.int .i64 0)] [(0,a4),(1,b4)] S fun b7 S=>b7=b6∧S=S0)∧∃ b8:AV,(callF Pg 40 [b6] S (fun _ _=>False) fun c0 S=>c0=b8∧S=S0)∧∃ c1:AV,(bin .geq 0 b8 (.v (.int .i64 0)) S fun c2 S=>c2=c1∧S=S0)∧onB c1 fun b=>gd b (Q (.ret (.v (.bool false))) S) (bin .add 0 y14 (.v (.int .i64 1)) S fun c3 S=>KE0 78 (env29_0 y1 y3 y4 y12 y13 c3) S)) S)))))) (lenM y4 S fun c4 S=>shift y1 7 S fun c5 S=>ld1 c5 S fun c6 S=>lenS c6 S fun c7 S=>bin .eql 0 c4 c7 S fun c8 S=>Q (.ret c8) S)
theorem b29_0_eq(y1 y3 y4 y12 y13 y14:AV)(S:Store)(KE0:KeT)(Q:PoT):vc Pg (c29.at_ [1,1,1,0,1,0,0]) (ms29.drop 1) (mkE 78 lv29_0 (env29_0 y1 y3 y4 y12 y13 y14)) S (thenK (fgK lv29_0 KE0) (blockK 0 (seqK (vc Pg (c29.at_ [1,1,1,1]) (ms29.drop 1)) (bodyK Pg r29 Q))))=b29_0 y1 y3 y4 y12 y13 y14 S KE0 Q:=by kernel_rfl
theorem loop29_0{y1 y3 y4 y12 y13:AV}{y140:AV}{S:Store}{Q:PoT}(I:AV→Store→Prop)(μ:AV→Store→Nat)(h0:I y140 S)
    (hr:∀(y14:AV) (S:Store),I y14 S→∀ KE0:KeT,(∀(y14':AV) (S':Store),I y14' S'→μ y14' S'<μ y14 S→KE0 78 (env29_0 y1 y3 y4 y12 y13 y14') S')→b29_0 y1 y3 y4 y12 y13 y14 S KE0 Q):
    loopV lv29_0 (vc Pg (c29.at_ [1,1,1,0,1,0,0]) (ms29.drop 1)) 78 (env29_0 y1 y3 y4 y12 y13 y140) S (blockK 0 (seqK (vc Pg (c29.at_ [1,1,1,1]) (ms29.drop 1)) (bodyK Pg r29 Q))):=by
 refine⟨fun n e S=>n=78∧∃ y14:AV,e=(env29_0 y1 y3 y4 y12 y13 y14)∧I y14 S,fun _ e S=>μ (e.getD 5 .j) S,?_,?_⟩
 ·exact⟨_,_,Wk.refl _ _,rfl,_,rfl,h0⟩
 ·rintro _ e S ⟨rfl,y14,rfl,hI⟩
  exact(b29_0_eq _ _ _ _ _ _ _ _ _).mpr (hr y14 S hI _ (fun y14' S' hI' hm=>⟨_,_,Wk.refl _ _,⟨rfl,_,rfl,hI'⟩,hm⟩))
def c37:Code:=(Tryd.f37.body).getD .skip
def r37:List ResultVar:=Tryd.f37.results.toList
def env37_0(y0 y1 y7 y8:AV):List AV:=[y0,y1,y7,y8]
def lv37_0:List Nat:=[0,1,7,8]
def ms37:List (List Nat):=[lv37_0,[]]
def m37(x0 x1:AV)(S:Store)(Q:PoT):Prop:=
 lenS x0 S fun a S=>loopV lv37_0 (vc Pg (c37.at_ [1,0,1,0,0]) (ms37.drop 1)) 19 (env37_0 x0 x1 a (.v (.int .i64 0))) S (blockK 0 (seqK (vc Pg (c37.at_ [1,1]) (ms37.drop 1)) (bodyK Pg r37 Q)))
theorem calls37{x0 x1:AV}{S:Store}{Q:PoT}(h:m37 x0 x1 S Q):ACalls Pg 37 [x0,x1] S Q:=
 calls_of_vc (fn:=Tryd.f37) (c:=c37) (n:=19) Tryd.func37 (by kernel_rfl) (by kernel_rfl) (by kernel_rfl) ms37 (Eq.mpr (by kernel_rfl) h)
def b37_0(y0 y1 y7 y8:AV)(S:Store)(KE0:KeT)(Q:PoT):Prop:=
 bin .lss 0 y8 y7 S fun a S=>onB a fun b=>gd b (ixS 3 1 y0 y8 S fun c S=>ld1 c S fun d S=>callV Pg y1 [d] S (fun e S=>onB e fun b=>gd b (Q (.ret y8) S) (bin .add 0 y8 (.v (.int .i64 1)) S fun f S=>KE0 19 (env37_0 y0 y1 y7 f) S)) (fun u S=>Q (.pan u) S)) (Q (.ret (.v (.int .i64 (-1)))) S)
theorem b37_0_eq(y0 y1 y7 y8:AV)(S:Store)(KE0:KeT)(Q:PoT):vc Pg (c37.at_ [1,0,1,0,0]) (ms37.drop 1) (mkE 19 lv37_0 (env37_0 y0 y1 y7 y8)) S (thenK (fgK lv37_0 KE0) (blockK 0 (seqK (vc Pg (c37.at_ [1,1]) (ms37.drop 1)) (bodyK Pg r37 Q))))=b37_0 y0 y1 y7 y8 S KE0 Q:=by kernel_rfl
theorem loop37_0{y0 y1 y7:AV}{y80:AV}{S:Store}{Q:PoT}(I:AV→Store→Prop)(μ:AV→Store→Nat)(h0:I y80 S)
    (hr:∀(y8:AV) (S:Store),I y8 S→∀ KE0:KeT,(∀(y8':AV) (S':Store),I y8' S'→μ y8' S'<μ y8 S→KE0 19 (env37_0 y0 y1 y7 y8') S')→b37_0 y0 y1 y7 y8 S KE0 Q):
    loopV lv37_0 (vc Pg (c37.at_ [1,0,1,0,0]) (ms37.drop 1)) 19 (env37_0 y0 y1 y7 y80) S (blockK 0 (seqK (vc Pg (c37.at_ [1,1]) (ms37.drop 1)) (bodyK Pg r37 Q))):=by
 refine⟨fun n e S=>n=19∧∃ y8:AV,e=(env37_0 y0 y1 y7 y8)∧I y8 S,fun _ e S=>μ (e.getD 3 .j) S,?_,?_⟩
 ·exact⟨_,_,Wk.refl _ _,rfl,_,rfl,h0⟩
 ·rintro _ e S ⟨rfl,y8,rfl,hI⟩
  exact(b37_0_eq _ _ _ _ _ _ _).mpr (hr y8 S hI _ (fun y8' S' hI' hm=>⟨_,_,Wk.refl _ _,⟨rfl,_,rfl,hI'⟩,hm⟩))
def c28:Code:=(Tryd.f28.body).getD .skip
def ms28:List (List Nat):=[[]]
def m28(x0 x1:AV)(S:Store)(Q:PoT):Prop:=
 callF Pg 37 [x0,x1] S Q fun a S=>bin .geq 0 a (.v (.int .i64 0)) S fun c S=>Q (.ret c) S
theorem calls28{x0 x1:AV}{S:Store}{Q:PoT}(h:m28 x0 x1 S Q):ACalls Pg 28 [x0,x1] S Q:=
 calls_of_vc (fn:=Tryd.f28) (c:=c28) (n:=9) Tryd.func28 (by kernel_rfl) (by kernel_rfl) (by kernel_rfl) ms28 (Eq.mpr (by kernel_rfl) h)
end
def idxOf(o:Option Nat):Int:=match o with|some i=>i|none=>-1
theorem find_at{α:Type}{g:α→Bool}{l:List α}{i:Nat}(hi:i<l.length)(hg:g l[i]=true)(h:∀ k (hk:k<i),g (l[k]'(Nat.lt_trans hk hi))=false):l.findIdx? g=some i:=by
 rw[List.findIdx?_eq_some_iff_getElem]
 exact⟨hi,hg,fun j hj=>by simp[h j hj]⟩
theorem find_none{α:Type}{g:α→Bool}{l:List α}(h:∀ k (hk:k<l.length),g l[k]=false):l.findIdx? g=none:=by
 rw[List.findIdx?_eq_none_iff]
 intro x hx
 obtain⟨k,hk,rfl⟩:=List.mem_iff_getElem.1 hx
 exact h k hk
theorem at37{α:Type}{f:α→AV}{l:List α}(hl:l.length≤9223372036854775807){g:α→Bool}{fn:FuncId}{fs cs:List AV}{S:Store}
    (hf:∀ x,x∈l→AnsAt Pg fn (fs ++ [f x]++cs) S (aB (g x))):AnsAt Pg 37 [aL f l,.f (.func fn) fs cs] S (aI (idxOf (l.findIdx? g))):=by
 refine calls37 ?_
 unfold m37
 rw[lenS_aL]
 refine loop37_0 (fun y S'=>S'=S∧∃ i:Nat,y=aI i∧i≤l.length∧∀ k (hk:k<l.length),k<i→g l[k]=false) (fun y _=>l.length - ((intA y).getD 0).toNat) ⟨rfl,0,rfl,Nat.zero_le _,fun k _ h=>absurd h (Nat.not_lt_zero _)⟩ ?_
 rintro _ _ ⟨rfl,i,rfl,hi,hk⟩ KE hKE
 unfold b37_0 aI
 rw[bin_lss,onB_v]
 refine gd_of (fun h=>?_) (fun h=>?_)
 ·have hlt:i<l.length:=by simpa using h
  rw[ixS_aL hlt,ld1_q]
  refine callV_at (hf _ (List.getElem_mem hlt)) ?_
  unfold aB
  rw[onB_v]
  refine gd_of (fun hg=>⟨?_,rfl⟩) (fun hg=>?_)
  ·rw[find_at hlt hg (fun k hk'=>hk k _ hk')];rfl
  ·rw[bin_add (by omega) (by omega)]
   refine hKE _ _ ⟨rfl,i+1,rfl,hlt,fun k hk1 hk2=>?_⟩ ?_
   ·by_cases e:k=i
    ·subst e;exact hg
    ·exact hk k hk1 (by omega)
   ·simp[intA,aI];omega
 ·have hge:i=l.length:=by simp at h;omega
  subst hge
  rw[find_none (fun k hk'=>hk k hk' hk')]
  exact⟨rfl,rfl⟩
theorem idx_any{α:Type}(g:α→Bool)(l:List α):decide (0≤idxOf (l.findIdx? g))=l.any g:=by
 cases h:l.findIdx? g with
 |none =>
  rw[List.findIdx?_eq_none_iff]at h
  have:l.any g=false:=by simpa[List.any_eq_false]using h
  rw[this];rfl
 |some i =>
  rw[List.findIdx?_eq_some_iff_getElem]at h
  obtain⟨hi,hg,_⟩:=h
  have:l.any g=true:=List.any_eq_true.2 ⟨_,List.getElem_mem hi,by simpa using hg⟩
  rw[this]
  simp[idxOf]
theorem at28{α:Type}{f:α→AV}{l:List α}(hl:l.length≤9223372036854775807){g:α→Bool}{fn:FuncId}{fs cs:List AV}{S:Store}
    (hf:∀ x,x∈l→AnsAt Pg fn (fs ++ [f x]++cs) S (aB (g x))):AnsAt Pg 28 [aL f l,.f (.func fn) fs cs] S (aB (l.any g)):=by
 refine calls28 ?_
 unfold m28
 refine callF_at (at37 hl hf) ?_
 unfold aI
 rw[bin_geq,idx_any]
 exact⟨rfl,rfl⟩
structure Sp where
 bits:Int
 valid:List Bool
 initial:List Bool
 next:List (List Int)
 fair:List (List Bool)
def fits(s:Sp)(l:List (List Bool)):Bool:=
 decide (s.next.length=s.valid.length) && s.fair.all (fun p=>decide (p.length=s.valid.length)) && l.all (fun p=>decide (p.length=s.valid.length)) && s.next.all (fun x=>x.all fun i=>decide (0≤i) && decide (i<s.valid.length))
def keyOf(b:ByteArray):Key:=.s b.data.toList
theorem keyOf_inj{a b:ByteArray}(h:keyOf a=keyOf b):a=b:=by
 simp only[keyOf,Key.s.injEq]at h
 exact byteArray_ext (Array.toList_inj.1 h)
theorem ins_keys{es:List (Key × AV)}{x k:Key}{v:AV}:k∈(insM es x v).map (·.1)↔k∈es.map (·.1)∨k=x:=by
 induction es with
 |nil=>simp[insM]
 |cons e es ih =>
  simp only[insM]
  split
  ·rename_i h
   subst h
   simp only[List.map_cons,List.mem_cons]
   constructor
   ·rintro(h|h)
    ·exact .inr h
    ·exact .inl (.inr h)
   ·rintro((h|h)|h)
    ·exact .inl h
    ·exact .inr h
    ·exact .inl h
  ·simp only[List.map_cons,List.mem_cons,ih,or_assoc]
theorem ins_len_in{es:List (Key × AV)}{x:Key}{v:AV}(h:x∈es.map (·.1)):(insM es x v).length=es.length:=by
 induction es with
 |nil=>simp at h
 |cons e es ih =>
  simp only[insM]
  split
  ·rfl
  ·rename_i hne
   have:x∈es.map (·.1):=by
    rcases List.mem_cons.1 h with h|h
    ·exact absurd h.symm hne
    ·exact h
   simp[ih this]
structure Tells (es:List (Key × AV)) (l:List Key):Prop where
 mem:∀ k,k∈es.map (·.1)↔k∈l
 le:es.length≤l.length
 eq:es.length=l.length↔l.Nodup
theorem Tells.nil:Tells [] []:=⟨fun k=>by simp,Nat.le_refl _,by simp⟩
theorem Tells.add{es:List (Key × AV)}{l:List Key}(h:Tells es l)(x:Key)(v:AV):Tells (insM es x v) (l ++ [x]) where
 mem k:=by rw[ins_keys,h.mem,List.mem_append,List.mem_singleton]
 le:=by
  have:=h.le
  by_cases c:x∈es.map (·.1)
  ·rw[ins_len_in c];simp;omega
  ·rw[insM_none (kix_none.2 c)];simp;omega
 eq:=by
  have hle:=h.le
  rw[List.nodup_append]
  by_cases c:x∈es.map (·.1)
  ·rw[ins_len_in c]
   constructor
   ·intro e;simp at e;omega
   ·rintro⟨_,_,h3⟩
    exact absurd rfl (h3 x ((h.mem x).1 c) x (by simp))
  ·rw[insM_none (kix_none.2 c)]
   simp only[List.length_append,List.length_singleton,Nat.add_right_cancel_iff,h.eq]
   constructor
   ·intro e
    refine⟨e,by simp,fun a ha b hb=>?_⟩
    have:b=x:=by simpa using hb
    subst this
    rintro rfl
    exact c ((h.mem _).2 ha)
   ·exact fun e=>e.1
def nameOk(c:Ci)(x:Na):Prop:=wordB x.text=true∧0≤x.pos∧x.pos<c.many x.kind
def nameLt(y x:Na):Prop:=rankI y.kind<rankI x.kind∨rankI y.kind=rankI x.kind∧y.pos<x.pos
structure NamesR (c:Ci) (n:Nat):Prop where
 ok:∀ i (h:i<c.names.length),i<n→nameOk c c.names[i]
 lt:∀ i (h:i+1<c.names.length),i+1<n→nameLt c.names[i] c.names[i+1]
 nodup:((c.names.take n).map fun x=>keyOf x.text).Nodup
open Classical in
def namesB (c:Ci):Bool:=decide (NamesR c c.names.length)
theorem NamesR.no_ok{c:Ci}{i:Nat}(h:i<c.names.length)(hn:¬ nameOk c c.names[i]):namesB c=false:=by
 simp only[namesB,decide_eq_false_iff_not]
 exact fun h'=>hn (h'.ok i h h)
theorem NamesR.no_lt{c:Ci}{i:Nat}(h:i+1<c.names.length)(hn:¬ nameLt c.names[i] c.names[i+1]):namesB c=false:=by
 simp only[namesB,decide_eq_false_iff_not]
 exact fun h'=>hn (h'.lt i h h)
@[simp] theorem lenS_nL(l:List Na){S:Store}{K:AV→Store→Prop}:lenS (nL l) S K=K (aI l.length) S:=by simp[nL]
theorem ixS_nL{l:List Na}{e i:Nat}{S:Store}{K:AV→Store→Prop}(h:i<l.length):ixS e 3 (nL l) (aI i) S K=K (.q l[i].row 0) S:=by
 unfold nL
 rw[ixS_l (by simpa using h) (by simp[Na.row])]
 simp
theorem ldN_q3{u v z:AV}{S:Store}{K:AV→Store→Prop}:ldN 3 (.q [u,v,z] 0) S K=K (.a [u,v,z]) S:=by simp[ldN,rdN,place]
theorem keyS(b:ByteArray):keyA .s (.v (.string b))=some (keyOf b):=rfl
theorem lkM_mt{S:Store}{kk:KK}{z:AV}{c:Bool}{k:AV}{key:Key}{es:List (Key × AV)}{K:AV→Store→Prop}(hk:keyA kk k=some key):lkM kk z c (.mt kk es) k S K=K (lkV z c (lkp es key)) S:=by
 simp[lkM,entsA,hk]
theorem lkV_many(c:Ci)(k:Int):lkV (aI 0) false (lkp c.manyE (.i k))=aI (c.many k):=lkp_many c k
theorem wrap32{k:Int}(h0:0≤k)(h1:k<256):IntKind.i32.wrap k=k:=by rw[IntKind.wrap_i32];omega
theorem ans29{c:Ci}(hc:c.ok):Ans Pg 29 [c.av] (aB (namesB c)):=by
 intro S
 refine ACalls.ans_v (calls29 ?_)
 have hlen:=hc.nlen
 unfold m29
 refine boxA_of rfl fun S1 k1 n1 o1=>?_
 rw[ldN_p (n:=8) o1 rfl]
 refine callF_ans (ans22 c) ?_
 unfold mkM
 show shift _ _ _ _
 have k2:=k1.new (.map .s [] true)
 have p2:(S1.new (.map .s [] true)).obj S.n=_:=(new_lt (by omega)).trans o1
 rw[shift_p,ld1_p p2 rfl rfl,lenS_nL]
 refine loop29_0 (fun y S'=>Keep S S'∧S1.n<S'.n∧S'.obj S.n=some (.cells 29 [c.cells] true)∧∃ i:Nat,y=aI i∧i≤c.names.length∧
     (∀ j (h:j<c.names.length),j<i→nameOk c c.names[j])∧(∀ j (h:j+1<c.names.length),j+1<i→nameLt c.names[j] c.names[j+1])∧∃ es,S'.obj S1.n=some (.map .s es true)∧Tells es ((c.names.take i).map fun x=>keyOf x.text))
  (fun y _=>c.names.length - ((intA y).getD 0).toNat) ⟨k2,by simp,p2,0,rfl,Nat.zero_le _,fun j _ h=>by omega,fun j _ h=>by omega,[],new_self _,by simpa using Tells.nil⟩ ?_
 rintro _ S3 ⟨k3,n3,p3,i,rfl,hi,hok,hltn,es,m3,ht⟩ KE hKE
 unfold b29_0
 rw[bin_lss,onB_v]
 refine gd_of (fun hlt=>?_) (fun hge=>?_)
 ·have hlt:i<c.names.length:=by simpa using hlt
  have hx:=hc.names _ (List.getElem_mem hlt)
  rw[ixS_nL hlt]
  generalize hxe:c.names[i]=x at *
  have hno:=fun h=>NamesR.no_ok hlt (hxe ▸ h)
  unfold Na.row
  rw[ldN_q3]
  refine boxA_of rfl fun S4 k4 n4 o4=>?_
  refine stA_of o4 rfl rfl fun S5 n5 o5 f5=>?_
  have k5:Keep S S5:=(k3.trans k4).st (by have:=k3.1;omega) n5 f5
  have p5:S5.obj S.n=_:=(f5 _ (by omega)).trans ((k4.2 _ (by omega)).trans p3)
  have m5:S5.obj S1.n=_:=(f5 _ (by omega)).trans ((k4.2 _ (by omega)).trans m3)
  rw[shift_p,ld1_p o5 rfl rfl]
  refine callF_ans (ans38 x.text hx.2.2.2) ?_
  rw[un_not,onB_v]
  refine gd_of (fun h1=>⟨?_,k5⟩) (fun h1=>?_)
  ·rw[hno (fun h=>by rw[h.1]at h1;cases h1)]
  rw[shift_p,ld1_p o5 rfl rfl]
  refine callF_ans (ans39 x.kind hx.1 hx.2.1) ?_
  rw[bin_lss,onB_v]
  refine gd_of (fun h2=>⟨?_,k5⟩) (fun h2=>?_)
  ·rw[hno (fun h=>by have:=h.2;rw[many_no (dT h2)]at this;omega)]
  rw[shift_p,ld1_p o5 rfl rfl,bin_lss,onB_v]
  refine gd_of (fun h3=>⟨?_,k5⟩) (fun h3=>?_)
  ·rw[hno (fun h=>by have:=h.2;have:=dT h3;omega)]
  rw[shift_p,ld1_p o5 rfl rfl,shift_p,ld1_p o5 rfl rfl,convI_v,wrap32 hx.1 hx.2.1,lkM_mt (keyI _ _)]
  rw[lkV_many]
  rw[bin_geq,onB_v]
  refine gd_of (fun h4=>⟨?_,k5⟩) (fun h4=>?_)
  ·rw[hno (fun h=>by have:=h.2;have:=dT h4;omega)]
  have hgood:nameOk c x:=⟨by simpa using h1,by have:=dF h3;omega,by have:=dF h4;omega⟩
  rw[shift_p,ld1_p o5 rfl rfl,bld_of (cs:=[]) rfl,updM_m m5 (keyS _)]
  have k6:=k5.upd (id:=S1.n) (by omega) (.map .s (insM es (keyOf x.text) (.a [])) true)
  have p6:(Store.upd S5 S1.n (.map .s (insM es (keyOf x.text) (.a [])) true)).obj S.n=_:=(upd_ne (by omega)).trans p5
  have o6:(Store.upd S5 S1.n (.map .s (insM es (keyOf x.text) (.a [])) true)).obj S3.n=_:=(upd_ne (by omega)).trans o5
  have m6:(Store.upd S5 S1.n (.map .s (insM es (keyOf x.text) (.a [])) true)).obj S1.n=_:=upd_self _ _
  have n6:S4.n=(Store.upd S5 S1.n (.map .s (insM es (keyOf x.text) (.a [])) true)).n:=n5.symm
  have n6':S3.n+1=(Store.upd S5 S1.n (.map .s (insM es (keyOf x.text) (.a [])) true)).n:=by rw[←n6,n4]
  generalize Store.upd S5 S1.n (.map .s (insM es (keyOf x.text) (.a [])) true)=S6 at *
  have ht':Tells (insM es (keyOf x.text) (.a [])) ((c.names.take (i+1)).map fun x=>keyOf x.text):=by
   rw[List.take_add_one,List.getElem?_eq_getElem hlt,hxe,List.map_append]
   exact ht.add _ _
  have hok':∀ j (h:j<c.names.length),j<i+1→nameOk c c.names[j]:=fun j hj hj'=>by
   rcases Nat.lt_or_ge j i with h|h
   ·exact hok j hj h
   ·have:j=i:=by omega
    subst this
    rw[hxe];exact hgood
  have hadd:∀ K:AV→Store→Prop,∀ S,bin .add 0 (.v (.int .i64 (i:Int))) (.v (.int .i64 1)) S K=K (aI (i+1:Nat)) S:=fun K S=>bin_add (by omega) (by omega) 0
  have hμ:c.names.length - ((intA (aI (i+1:Nat))).getD 0).toNat<c.names.length - ((intA (aI i)).getD 0).toNat:=by simp[intA];omega
  rw[bin_eql,onB_v]
  refine gd_of (fun h5=>?_) (fun h5=>?_)
  ·have h5:i=0:=by have:=dT h5;omega
   rw[hadd]
   exact hKE _ _ ⟨k6,by omega,p6,i+1,rfl,hlt,hok',fun j hj hj'=>by omega,_,m6,ht'⟩ hμ
  ·have h5:i≠0:=by have:=dF h5;omega
   obtain⟨j,rfl⟩:∃ j,i=j+1:=⟨i - 1,by omega⟩
   have hj:j<c.names.length:=by omega
   have hy:=hc.names _ (List.getElem_mem hj)
   have hsub:∀ K:AV→Store→Prop,∀ S,bin .sub 0 (.v (.int .i64 ((j+1:Nat):Int))) (.v (.int .i64 1)) S K=K (aI j) S:=fun K S=>(bin_sub (by omega) (by omega) 0).trans (by rw[show((j+1:Nat):Int) - 1=j by omega])
   rw[shift_p,ld1_p p6 rfl rfl,hsub,ixS_nL hj]
   have hnl:¬ nameLt c.names[j] x→namesB c=false:=fun h=>NamesR.no_lt hlt (by rw[hxe];exact h)
   generalize hye:c.names[j]=y at *
   unfold Na.row
   rw[ldN_q3]
   refine boxA_of rfl fun S7 k7 n7 o7=>?_
   refine stA_of o7 rfl rfl fun S8 n8 o8 f8=>?_
   have k8:Keep S S8:=(k6.trans k7).st (by have:=k6.1;omega) n8 f8
   have p8:S8.obj S.n=_:=(f8 _ (by omega)).trans ((k7.2 _ (by omega)).trans p6)
   have m8:S8.obj S1.n=_:=(f8 _ (by omega)).trans ((k7.2 _ (by omega)).trans m6)
   have q8:S8.obj S3.n=_:=(f8 _ (by omega)).trans ((k7.2 _ (by omega)).trans o6)
   show ∃ q50:AV,_
   refine⟨_,by rw[shift_p];exact⟨rfl,rfl⟩,?_⟩
   refine⟨_,by rw[ld1_p o8 rfl rfl];exact⟨rfl,rfl⟩,?_⟩
   refine⟨_,callF_ans (ans39 y.kind hy.1 hy.2.1) ⟨rfl,rfl⟩,?_⟩
   refine⟨_,by rw[shift_p];exact⟨rfl,rfl⟩,?_⟩
   refine⟨_,by rw[ld1_p q8 rfl rfl];exact⟨rfl,rfl⟩,?_⟩
   refine⟨_,callF_ans (ans39 x.kind hx.1 hx.2.1) ⟨rfl,rfl⟩,?_⟩
   refine⟨_,callF_ans (ans41 _ _) ⟨rfl,rfl⟩,?_⟩
   refine⟨_,by rw[shift_p];exact⟨rfl,rfl⟩,?_⟩
   refine⟨_,by rw[ld1_p o8 rfl rfl];exact⟨rfl,rfl⟩,?_⟩
   refine⟨_,by rw[shift_p];exact⟨rfl,rfl⟩,?_⟩
   refine⟨_,by rw[ld1_p q8 rfl rfl];exact⟨rfl,rfl⟩,?_⟩
   refine⟨_,callF_ans (ans41 _ _) ⟨rfl,rfl⟩,?_⟩
   refine⟨_,bsl2 rfl rfl ⟨rfl,rfl⟩,?_⟩
   refine⟨_,callF_ans (ans40 _ _) ⟨rfl,rfl⟩,?_⟩
   refine⟨_,by rw[bin_geq];exact⟨rfl,rfl⟩,?_⟩
   rw[onB_v]
   have hcmp:(0≤if cmpZ (rankI y.kind) (rankI x.kind)≠0 then cmpZ (rankI y.kind) (rankI x.kind)else cmpZ y.pos x.pos)↔¬ nameLt y x:=by
    unfold cmpZ nameLt
    repeat' split
    all_goals omega
   refine gd_of (fun h6=>⟨?_,k8⟩) (fun h6=>?_)
   ·rw[hnl (hcmp.1 (dT h6))]
   ·rw[hadd]
    refine hKE _ _ ⟨k8,by omega,p8,j+1+1,rfl,hlt,hok',fun k hk hk'=>?_,_,m8,ht'⟩ hμ
    rcases Nat.lt_or_ge (k+1) (j+1)with h|h
    ·exact hltn k hk h
    ·have:k=j:=by omega
     subst this
     rw[hxe,hye]
     have:=dF h6
     exact Classical.not_not.1 fun hh=>this (hcmp.2 hh)
 ·have hge:i=c.names.length:=by simp at hge;omega
  subst hge
  rw[lenM_m m3,shift_p,ld1_p p3 rfl rfl,lenS_nL,bin_eql]
  refine⟨?_,k3⟩
  congr 3
  simp only[namesB,decide_eq_decide]
  have:=ht.eq
  rw[List.length_map,List.length_take,Nat.min_self]at this
  rw[Int.natCast_inj,this]
  exact⟨fun h=>⟨hok,hltn,h⟩,fun h=>h.nodup⟩
def latOk(g:Gr)(p:Int × Int):Bool:=g.lit p.1 && (decide (0≤p.2) && decide (p.2≤2))
def Ci.manyL(c:Ci):List Int:=[c.inputs,c.latches.length,c.outs.length,c.bads.length,c.cons.length,c.fair.length]
def Ci.right (c:Ci):Bool:=
 c.manyL.all (fun n=>decide (0≤n) && decide (n≤2000)) && (c.gr.right && (c.latches.all (latOk c.gr) && (c.outs.all c.gr.lit && (c.bads.all c.gr.lit && (c.cons.all c.gr.lit && (c.fair.all c.gr.lit && namesB c))))))
theorem at23{S:Store}{g:Gr}{id:Nat}{l:Int}(hg:g.ok)(hl:i64R l)(h:S.obj id=some (.cells 43 [g.cells] true)):AnsAt Pg 23 [aI l,.p id 0 0] S (aB (!g.lit l)):=by
 refine calls23 ?_
 unfold m23
 rw[ldN_p (n:=2) h rfl]
 refine callF_ans (ans24 hg hl) ?_
 rw[un_not]
 exact⟨rfl,rfl⟩
theorem at25{S:Store}{g:Gr}{id fid t:Nat}{p:Int × Int}(hg:g.ok)(hl:i64R p.1)(hid:id<S.n)(hf:fid<S.n)(h:S.obj id=some (.cells 43 [g.cells] true))
    (h2:S.obj fid=some (.cells t [[.f (.func 23) [] [.p id 0 0]]] true)):AnsAt Pg 25 [.a [aI p.1,aI p.2],.p fid 0 0] S (aB (!latOk g p)):=by
 refine ACalls.ans_v (calls25 ?_)
 unfold m25
 refine boxA_of rfl fun S1 k1 n1 o1=>?_
 have h':=(k1.2 _ hid).trans h
 have h2':=(k1.2 _ hf).trans h2
 rw[ld1_p h2' rfl rfl,shift_p,ld1_p o1 rfl rfl]
 refine callV_at (at23 hg hl h') ?_
 rw[onB_v]
 refine gd_of (fun h3=>⟨?_,k1⟩) (fun h3=>?_)
 ·rw[Bool.not_eq_true']at h3
  simp[latOk,h3]
 have h3:g.lit p.1=true:=by simpa using h3
 rw[shift_p,ld1_p o1 rfl rfl,bin_lss,onB_v]
 refine gd_of (fun h4=>⟨?_,k1⟩) (fun h4=>?_)
 ·have h4:=dT h4
  simp[latOk,show ¬ 0≤p.2 by omega]
 rw[shift_p,ld1_p o1 rfl rfl,bin_gtr]
 refine⟨?_,k1⟩
 have h4:=dF h4
 simp only[latOk,h3,Bool.true_and,show 0≤p.2 by omega,decide_true]
 congr 4
 rw[←decide_not]
 exact decide_eq_decide.2 (by omega)
theorem at36{l:List (Int × Int)}(hl:l.length≤9223372036854775807){g:Int × Int→Bool}{fn:FuncId}{fs cs:List AV}{S:Store}
    (hf:∀ x,x∈l→AnsAt Pg fn (fs ++ [.a [aI x.1,aI x.2]]++cs) S (aB (g x))):AnsAt Pg 36 [pL l,.f (.func fn) fs cs] S (aI (idxOf (l.findIdx? g))):=by
 refine calls36 ?_
 unfold m36
 rw[lenS_pL]
 refine loop36_0 (fun y S'=>S'=S∧∃ i:Nat,y=aI i∧i≤l.length∧∀ k (hk:k<l.length),k<i→g l[k]=false) (fun y _=>l.length - ((intA y).getD 0).toNat) ⟨rfl,0,rfl,Nat.zero_le _,fun k _ h=>absurd h (Nat.not_lt_zero _)⟩ ?_
 rintro _ _ ⟨rfl,i,rfl,hi,hk⟩ KE hKE
 unfold b36_0
 rw[bin_lss,onB_v]
 refine gd_of (fun h=>?_) (fun h=>?_)
 ·have hlt:i<l.length:=by simpa using h
  rw[ixS_pL hlt,ldN_q2]
  refine callV_at (hf _ (List.getElem_mem hlt)) ?_
  rw[onB_v]
  refine gd_of (fun hg=>⟨?_,rfl⟩) (fun hg=>?_)
  ·rw[find_at hlt hg (fun k hk'=>hk k _ hk')];rfl
  ·rw[bin_add (by omega) (by omega)]
   refine hKE _ _ ⟨rfl,i+1,rfl,hlt,fun k hk1 hk2=>?_⟩ ?_
   ·by_cases e:k=i
    ·subst e;exact hg
    ·exact hk k hk1 (by omega)
   ·simp[intA,aI];omega
 ·have hge:i=l.length:=by simp at h;omega
  subst hge
  rw[find_none (fun k hk'=>hk k hk' hk')]
  exact⟨rfl,rfl⟩
theorem at27{l:List (Int × Int)}(hl:l.length≤9223372036854775807){g:Int × Int→Bool}{fn:FuncId}{fs cs:List AV}{S:Store}
    (hf:∀ x,x∈l→AnsAt Pg fn (fs ++ [.a [aI x.1,aI x.2]]++cs) S (aB (g x))):AnsAt Pg 27 [pL l,.f (.func fn) fs cs] S (aB (l.any g)):=by
 refine calls27 ?_
 unfold m27
 refine callF_at (at36 hl hf) ?_
 unfold aI
 rw[bin_geq,idx_any]
 exact⟨rfl,rfl⟩
theorem manyE_at{c:Ci}{i:Nat}{e:Key × AV}(h:c.manyE[i]? = some e):∃ h':i<6,e.2=aI (c.manyL[i]'h'):=by
 match i with
 |0|1|2|3|4|5=>cases h;exact⟨by decide,rfl⟩
 |i+6=>simp[Ci.manyE]at h
theorem any_not{l:List Int}{g:Int→Bool}:l.any (fun x=>!g x) = !l.all g:=by
 induction l with
 |nil=>rfl
 |cons a l ih=>simp[ih]
theorem any_notP{l:List (Int × Int)}{g:Int × Int→Bool}:l.any (fun x=>!g x) = !l.all g:=by
 induction l with
 |nil=>rfl
 |cons a l ih=>simp[ih]
theorem nodup_lt6:∀{n:Nat} {l:List Nat},l.Nodup→(∀ x∈l,x<n)→l.length≤n
 |0,l,_,h=>by
  cases l with
  |nil=>simp
  |cons x l=>exact absurd (h x (by simp)) (Nat.not_lt_zero _)
 |n+1,l,hd,h=>by
  have h1:=nodup_lt6 (n:=n) (l:=l.erase n) (hd.erase n) (fun x hx=>by
   have:=(hd.mem_erase_iff).1 hx
   have:=h x this.2
   omega)
  by_cases hm:n∈l
  ·have:=List.length_erase_of_mem hm
   omega
  ·rw[List.erase_of_not_mem hm]at h1
   omega
theorem ans11{c:Ci}(hc:c.ok):Ans Pg 11 [c.av] (aB c.right):=by
 intro S
 refine ACalls.ans_v (calls11 ?_)
 have hg:=hc.gr
 unfold m11
 refine boxA_of rfl fun S1 k1 n1 o1=>?_
 rw[ldN_p (n:=8) o1 rfl]
 refine callF_ans (ans12 c) ?_
 refine boxA_of rfl fun S2 k2 n2 o2=>?_
 refine stA_of o2 rfl rfl fun S3 n3 o3 f3=>?_
 have k3:Keep S S3:=(k1.trans k2).st (by omega) n3 f3
 have p3:S3.obj S.n=_:=(f3 _ (by omega)).trans ((k2.2 _ (by omega)).trans o1)
 rw[ldN_p (n:=8) p3 rfl]
 refine callF_ans (ans22 c) ?_
 show loopV _ _ _ _ _ _
 have hmany:∀(i:Nat) (h:i<6),¬ (0≤c.manyL[i]'h∧c.manyL[i]'h≤2000)→c.right=false:=fun i h hn=>by
  have:c.manyL.all (fun n=>decide (0≤n) && decide (n≤2000))=false:=by
   rw[List.all_eq_false]
   exact⟨_,List.getElem_mem (l:=c.manyL) h,by simpa using hn⟩
  simp only[Ci.right,this,Bool.false_and]
 refine loop11_0 (fun S'=>Keep S S'∧S3.n<S'.n∧S'.obj S.n=some (.cells 29 [c.cells] true)∧S'.obj S1.n=some (.cells 43 [c.gr.cells] true)∧
     ∃ seen,S'.obj S3.n=some (.mit (.mt (.i .i32) c.manyE) 6 seen)∧seen.Nodup∧(∀ i∈seen,∃ h:i<6,0≤c.manyL[i]'h∧c.manyL[i]'h≤2000))
  (fun S'=>match S'.obj S3.n with|some (.mit _ _ seen)=>6 - seen.length|_=>0)
  ⟨k3.new _,by simp,(new_lt (by omega)).trans p3,(new_lt (by omega)).trans o3,[],new_self _,by simp,fun i h=>by simp at h⟩ ?_
 rintro S4 ⟨k4,n4,p4,g4,seen,m4,hnd,hse⟩ KE hKE
 unfold b11_0 nextM
 simp only[m4,mapKK,optP_some]
 refine⟨rfl,fun i e he hi=>?_,fun hall=>?_⟩
 ·obtain⟨hi6,hev⟩:=manyE_at he
  have k5:Keep S (Store.upd S4 S3.n (.mit (.mt (.i .i32) c.manyE) 6 (seen ++ [i]))):=k4.upd (by have:=k3.1;omega) _
  have m5:(Store.upd S4 S3.n (.mit (.mt (.i .i32) c.manyE) 6 (seen ++ [i]))).obj S3.n=_:=upd_self _ _
  have p5:(Store.upd S4 S3.n (.mit (.mt (.i .i32) c.manyE) 6 (seen ++ [i]))).obj S.n=_:=(upd_ne (by omega)).trans p4
  have g5:(Store.upd S4 S3.n (.mit (.mt (.i .i32) c.manyE) 6 (seen ++ [i]))).obj S1.n=_:=(upd_ne (by omega)).trans g4
  have n5:(Store.upd S4 S3.n (.mit (.mt (.i .i32) c.manyE) 6 (seen ++ [i]))).n=S4.n:=rfl
  generalize Store.upd S4 S3.n (.mit (.mt (.i .i32) c.manyE) 6 (seen ++ [i]))=S5 at *
  rw[extr0,onB_v,gd_true]
  unfold entryM
  simp only[m5,mapKK,optP_some]
  refine⟨rfl,i,by simp,e,he,?_⟩
  show extr _ _ _ _
  rw[extr1,hev,bin_lss,onB_v]
  refine gd_of (fun h1=>⟨?_,k5⟩) (fun h1=>?_)
  ·rw[hmany i hi6 (fun h=>by have:=dT h1;omega)]
  rw[bin_gtr,onB_v]
  refine gd_of (fun h2=>⟨?_,k5⟩) (fun h2=>?_)
  ·rw[hmany i hi6 (fun h=>by have:=dT h2;omega)]
  have h1:=dF h1
  have h2:=dF h2
  have hnd':(seen ++ [i]).Nodup:=by
   rw[List.nodup_append]
   refine⟨hnd,by simp,fun a ha b hb=>?_⟩
   have:b=i:=by simpa using hb
   subst this
   rintro rfl
   exact hi ha
  have hse':∀ j∈seen ++ [i],∃ h:j<6,0≤c.manyL[j]'h∧c.manyL[j]'h≤2000:=fun j hj=>by
   rcases List.mem_append.1 hj with hj|hj
   ·exact hse j hj
   ·have:j=i:=by simpa using hj
    subst this
    exact⟨hi6,by omega,by omega⟩
  have hlen:(seen ++ [i]).length≤6:=by
   exact nodup_lt6 hnd' (fun x hx=>(hse' x hx).1)
  refine hKE _ ⟨k5,by omega,p5,g5,_,m5,hnd',hse'⟩ ?_
  simp only[m5,m4]
  simp at hlen ⊢
  omega
 ·unfold over
  rw[extr0,onB_v,gd_false]
  have hm:c.manyL.all (fun n=>decide (0≤n) && decide (n≤2000))=true:=by
   rw[List.all_eq_true]
   intro x hx
   obtain⟨i,hi,rfl⟩:=List.getElem_of_mem hx
   obtain⟨h6,h0,h1⟩:=hse i (hall i hi)
   simp only[Bool.and_eq_true,decide_eq_true_eq]
   exact⟨h0,h1⟩
  have hright:c.right=(c.gr.right && (c.latches.all (latOk c.gr) && (c.outs.all c.gr.lit && (c.bads.all c.gr.lit && (c.cons.all c.gr.lit && (c.fair.all c.gr.lit && namesB c)))))):=by
   simp only[Ci.right,hm,Bool.true_and]
  clear hm hall hse hmany
  refine box1_of rfl fun S5 k5 n5 o5=>?_
  refine st_of o5 rfl rfl fun S6 n6 o6 f6=>?_
  have k6:Keep S S6:=(k4.trans k5).st (by have:=k4.1;omega) n6 f6
  have p6:S6.obj S.n=_:=(f6 _ (by omega)).trans ((k5.2 _ (by omega)).trans p4)
  have g6:S6.obj S1.n=_:=(f6 _ (by omega)).trans ((k5.2 _ (by omega)).trans g4)
  rw[ldN_p (n:=2) g6 rfl]
  refine callF_ans (ans26 hg) ?_
  rw[un_not,onB_v]
  refine gd_of (fun h1=>⟨?_,k6⟩) (fun h1=>?_)
  ·rw[Bool.not_eq_true']at h1
   rw[hright,h1];rfl
  have h1:c.gr.right=true:=by simpa using h1
  rw[shift_p,ld1_p p6 rfl rfl]
  have hlat:=hc.llen
  refine callF_at (at27 (by omega) (g:=fun p=>!latOk c.gr p) (fun p hp=>at25 hg (hc.lats p hp).1 (by omega) (by omega) g6 o6)) ?_
  rw[any_notP,onB_v]
  refine gd_of (fun h2=>⟨?_,k6⟩) (fun h2=>?_)
  ·rw[Bool.not_eq_true']at h2
   rw[hright,h1,h2];rfl
  have h2:c.latches.all (latOk c.gr)=true:=by simpa using h2
  rw[shift_p,ld1_p p6 rfl rfl,shift_p,ld1_p p6 rfl rfl,shift_p,ld1_p p6 rfl rfl,shift_p,ld1_p p6 rfl rfl,bld_of (cs:=[aL aI c.outs,aL aI c.bads,aL aI c.cons,aL aI c.fair]) rfl]
  rw[h1,h2,Bool.true_and,Bool.true_and]at hright
  have call:∀(l:List Int),((∀ x∈l,i64R x)∧l.length≤9223372036854775807)→∀{Q:AEnd→Store→Prop} {K:AV→Store→Prop},K (aB (!l.all c.gr.lit)) S6→callF Pg 28 [aL aI l,.f (.func 23) [] [.p S1.n 0 0]] S6 Q K:=fun l hl Q K k =>
   callF_at (at28 hl.2 (g:=fun x=>!c.gr.lit x) (fun x hx=>at23 hg (hl.1 x hx) g6)) (show K (aB (l.any fun x=>!c.gr.lit x)) S6 by rw[any_not];exact k)
  refine loop11_1 (fun y S'=>S'=S6∧∃ i:Nat,y=aI i∧i≤4∧(1≤i→c.outs.all c.gr.lit=true)∧(2≤i→c.bads.all c.gr.lit=true)∧(3≤i→c.cons.all c.gr.lit=true)∧(4≤i→c.fair.all c.gr.lit=true))
   (fun y _=>4 - ((intA y).getD 0).toNat) ⟨rfl,0,rfl,Nat.zero_le _,fun h=>by omega,fun h=>by omega,fun h=>by omega,fun h=>by omega⟩ ?_
  rintro _ S6 ⟨rfl,i,rfl,hi,a1,a2,a3,a4⟩ KE1 hKE1
  unfold b11_1
  rw[bin_lss,onB_v]
  refine gd_of (fun hlt=>?_) (fun hge=>?_)
  ·have hlt:i<4:=by have:=dT hlt;exact Int.ofNat_lt.1 this
   have hadd:∀ K:AV→Store→Prop,∀ S,bin .add 0 (.v (.int .i64 (i:Int))) (.v (.int .i64 1)) S K=K (aI (i+1:Nat)) S:=fun K S=>bin_add (by omega) (by omega) 0
   match i,hlt with
   |0,_ =>
    refine⟨0,rfl,⟨by decide,by decide⟩,_,rfl,?_⟩
    show ld1 _ _ _
    rw[ld1_p o6 rfl rfl]
    refine call _ hc.outs ?_
    rw[onB_v]
    refine gd_of (fun h=>⟨?_,k6⟩) (fun h=>?_)
    ·rw[Bool.not_eq_true']at h
     rw[hright,h];rfl
    ·rw[hadd]
     exact hKE1 _ _ ⟨rfl,1,rfl,by decide,fun _=>by simpa using h,fun h=>by omega,fun h=>by omega,fun h=>by omega⟩ (by simp[intA])
   |1,_ =>
    have a1:=a1 (by decide)
    refine⟨1,rfl,⟨by decide,by decide⟩,_,rfl,?_⟩
    show ld1 _ _ _
    rw[ld1_p o6 rfl rfl]
    refine call _ hc.bads ?_
    rw[onB_v]
    refine gd_of (fun h=>⟨?_,k6⟩) (fun h=>?_)
    ·rw[Bool.not_eq_true']at h
     rw[hright,a1,h];rfl
    ·rw[hadd]
     exact hKE1 _ _ ⟨rfl,2,rfl,by decide,fun _=>a1,fun _=>by simpa using h,fun h=>by omega,fun h=>by omega⟩ (by simp[intA])
   |2,_ =>
    have a1:=a1 (by decide)
    have a2:=a2 (by decide)
    refine⟨2,rfl,⟨by decide,by decide⟩,_,rfl,?_⟩
    show ld1 _ _ _
    rw[ld1_p o6 rfl rfl]
    refine call _ hc.cons ?_
    rw[onB_v]
    refine gd_of (fun h=>⟨?_,k6⟩) (fun h=>?_)
    ·rw[Bool.not_eq_true']at h
     rw[hright,a1,a2,h];rfl
    ·rw[hadd]
     exact hKE1 _ _ ⟨rfl,3,rfl,by decide,fun _=>a1,fun _=>a2,fun _=>by simpa using h,fun h=>by omega⟩ (by simp[intA])
   |3,_ =>
    have a1:=a1 (by decide)
    have a2:=a2 (by decide)
    have a3:=a3 (by decide)
    refine⟨3,rfl,⟨by decide,by decide⟩,_,rfl,?_⟩
    show ld1 _ _ _
    rw[ld1_p o6 rfl rfl]
    refine call _ hc.fair ?_
    rw[onB_v]
    refine gd_of (fun h=>⟨?_,k6⟩) (fun h=>?_)
    ·rw[Bool.not_eq_true']at h
     rw[hright,a1,a2,a3,h];rfl
    ·rw[hadd]
     exact hKE1 _ _ ⟨rfl,4,rfl,by decide,fun _=>a1,fun _=>a2,fun _=>a3,fun _=>by simpa using h⟩ (by simp[intA])
  ·have hge:i=4:=by
     have:¬ ((i:Int)<4):=dF hge
     omega
   subst hge
   rw[ldN_p (n:=8) p6 rfl]
   refine callF_ans (ans29 hc) ⟨?_,k6⟩
   rw[hright,a1 (by decide),a2 (by decide),a3 (by decide),a4 (by decide)];rfl
theorem right_c{c:Ci}:c.right=true↔(0≤c.inputs∧c.inputs≤2000)∧c.latches.length≤2000∧c.outs.length≤2000∧c.bads.length≤2000∧c.cons.length≤2000∧c.fair.length≤2000∧
    c.gr.right=true∧c.latches.all (latOk c.gr)=true∧c.outs.all c.gr.lit=true∧c.bads.all c.gr.lit=true∧c.cons.all c.gr.lit=true∧c.fair.all c.gr.lit=true∧namesB c=true:=by
 have e:∀ n:Nat,(decide (0≤(n:Int)) && decide ((n:Int)≤2000))=decide (n≤2000):=fun n=>by
  rw[decide_eq_true (by omega:0≤(n:Int)),Bool.true_and]
  exact decide_eq_decide.2 (by omega)
 simp only[Ci.right,Ci.manyL,List.all_cons,List.all_nil,e,Bool.and_eq_true,decide_eq_true_eq,Bool.and_true]
 constructor
 ·rintro⟨⟨a,b1,b2,b3,b4,b5⟩,c1,c2,c3,c4,c5,c6,c7⟩
  exact⟨a,b1,b2,b3,b4,b5,c1,c2,c3,c4,c5,c6,c7⟩
 ·rintro⟨a,b1,b2,b3,b4,b5,c1,c2,c3,c4,c5,c6,c7⟩
  exact⟨⟨a,b1,b2,b3,b4,b5⟩,c1,c2,c3,c4,c5,c6,c7⟩
def litB(v:List Bool)(l:Int):Bool:=v.getD (l.tdiv 2).toNat false != decide (l.tmod 2=1)
def allTo(g:Gr)(ins:List Bool):Nat→List Bool
 |0=>false :: ins
 |i+1=>allTo g ins i ++ [litB (allTo g ins i) (g.ands.getD i (0,0)).1 && litB (allTo g ins i) (g.ands.getD i (0,0)).2]
@[simp] theorem allTo_len(g:Gr)(ins:List Bool):∀ i,(allTo g ins i).length=ins.length+1+i
 |0=>rfl
 |i+1=>by simp[allTo,allTo_len g ins i];omega
def allB(g:Gr)(ins:List Bool):List Bool:=if(g.right && decide ((ins.length:Int)=g.inputs))=true then allTo g ins g.ands.length else[]
theorem may_at{g:Gr}(h:g.right=true){i:Nat}(hi:i<g.ands.length):2≤g.ands[i].2∧g.ands[i].2.tdiv 2<g.ands[i].1.tdiv 2∧g.ands[i].1.tdiv 2<g.inputs+1+i∧0≤g.ands[i].2.tdiv 2:=by
 have:=(right_iff.1 h).2.2.2.2.1 i hi
 rw[show g.ands.getD i (0,0)=g.ands[i]by simp[List.getD_eq_getElem?_getD,hi]]at this
 simp only[may,Bool.and_eq_true,decide_eq_true_eq]at this
 exact⟨this.1,this.2.1,this.2.2,Int.tdiv_nonneg (by omega) (by decide)⟩
theorem ix_own{n:Nat}{S:Store}{x:AV}{v:List Bool}(h:Own n S x 4 (v.map fun b=>[aB b])){z:Int}(h0:0≤z)(h1:z<v.length)(K:AV→Store→Prop)(k:K (aB (v.getD z.toNat false)) S):ixS 4 1 x (aI z) S fun v S=>ld1 v S K:=by
 obtain⟨i,rfl⟩:=Int.eq_ofNat_of_zero_le h0
 have hi:i<v.length:=by omega
 obtain⟨id,rfl,h2,h3,h4⟩:=h.ix (i:=i) (by simpa using hi)
 rw[ixS_s (by simpa using hi) h4,ld1_p h4 (by rw[Nat.zero_add,List.getElem?_map,List.getElem?_eq_getElem hi];rfl) rfl]
 rw[show(v.getD (Int.toNat i) false)=v[i]by simp[List.getD_eq_getElem?_getD,hi]]at k
 exact k
theorem ix_tree{S:Store}{v:List Bool}{z:Int}(h0:0≤z)(h1:z<v.length)(K:AV→Store→Prop)(k:K (aB (v.getD z.toNat false)) S):ixS 4 1 (aL aB v) (aI z) S fun v S=>ld1 v S K:=by
 obtain⟨i,rfl⟩:=Int.eq_ofNat_of_zero_le h0
 have hi:i<v.length:=by omega
 rw[ixS_aL hi,ld1_q]
 rw[show(v.getD (Int.toNat i) false)=v[i]by simp[List.getD_eq_getElem?_getD,hi]]at k
 exact k
theorem allB_len{g:Gr}{ins:List Bool}:(allB g ins).length=if(g.right && decide ((ins.length:Int)=g.inputs))=true then(g.vars).toNat else 0:=by
 unfold allB
 split
 ·rename_i h
  simp only[Bool.and_eq_true,decide_eq_true_eq]at h
  rw[allTo_len]
  simp only[Gr.vars,←h.2]
  omega
 ·rfl
def Gr.eval(g:Gr)(l:Int)(ins:List Bool):Bool:=decide (0<(allB g ins).length) && (g.lit l && litB (allB g ins) l)
theorem and1(a:Int):IntKind.i64.wrap ((BitVec.ofInt 64 a &&& BitVec.ofInt 64 1).toNat:Nat)=a % 2:=by
 have h1:(BitVec.ofInt 64 1).toNat=1:=by decide
 rw[BitVec.toNat_and,h1,Nat.and_one_is_mod,BitVec.toNat_ofInt,wrap64 (by omega) (by omega)]
 omega
theorem bin_and1{a:Int}{S:Store}{K:AV→Store→Prop}:bin .and 0 (aI a) (.v (.int .i64 1)) S K=K (aI (a % 2)) S:=by
 show bin .and 0 (.v (.int .i64 a)) (.v (.int .i64 1)) S K=_
 have:b2 .and 0 (.int .i64 a) (.int .i64 1)=some (.int .i64 (a % 2)):=by
  rw[←and1 a];rfl
 show optP (b2 .and 0 (.int .i64 a) (.int .i64 1)) _=_
 rw[this,optP_some]
theorem bin_shr1{a:Int}(h:0≤a){S:Store}{K:AV→Store→Prop}:bin .shr 0 (aI a) (.v (.int .u64 1)) S K=K (aI (a.tdiv 2)) S:=by
 rw[bin_shr (by decide)]
 have:a.fdiv (2 ^ min (Int.toNat 1) IntKind.i64.bits)=a.tdiv 2:=by
  show a.fdiv 2=_
  rw[Int.fdiv_eq_ediv_of_nonneg _ (by decide),Int.tdiv_eq_ediv_of_nonneg h]
 rw[this]
theorem at47{S:Store}{fid t n:Nat}{x:AV}{v:List Bool}{l:Int}(h0:0≤l)(h1:l.tdiv 2<v.length)(hf:S.obj fid=some (.cells t [[x]] true))(hx:Own n S x 4 (v.map fun b=>[aB b])):
    AnsAt Pg 47 [aI l,.p fid 0 0] S (aB (litB v l)):=by
 refine calls47 ?_
 unfold m47
 rw[ld1_p hf rfl rfl,bin_shr1 h0]
 refine ix_own hx (Int.tdiv_nonneg h0 (by decide)) h1 _ ?_
 rw[bin_and1,bin_eql,bin_neqB]
 refine⟨?_,rfl⟩
 rw[litB,show l.tmod 2=l % 2 from Int.tmod_eq_emod_of_nonneg h0]
theorem mkN_lc{e b l c:Nat}{zc:List AV}(hl:l≤c)(hb:b*c≤281474976710656)(hn:c≤9223372036854775807){S:Store}{K:AV→Store→Prop}:mkN e b zc (aI l) (aI c) S K=K (.s S.n 0 l) (S.new (.cells e (List.replicate l zc) true)):=by
 have h1:(b:Int)*c≤281474976710656:=by
  have h:=Int.ofNat_le.2 hb
  rw[Int.natCast_mul]at h
  omega
 have h2:(c:Int)≤9223372036854775807:=by omega
 have h0:(0:Int)≤l:=by omega
 have h3:(l:Int)≤c:=by omega
 simp only[mkN,intA,optP_some,h0,h1,h2,h3,Int.toNat_natCast,and_self,true_and]
theorem own_keep{n:Nat}{S T:Store}{x:AV}{e:Nat}{es:List (List AV)}(h:Own n S x e es)(k:Keep S T):Own n T x e es:=by
 rcases h with h|⟨id,h1,h2,h3,h4⟩
 ·exact .inl h
 ·exact .inr ⟨id,h1,h2,Nat.lt_of_lt_of_le h3 k.1,(k.2 _ h3).trans h4⟩
theorem own_at33{g:Gr}(hg:g.ok){ins:List Bool}(hin:ins.length≤1000000){S:Store}{xi:AV}(hlx:∀(T:Store) (K:AV→Store→Prop),lenS xi T K=K (aI ins.length) T)(hsx:∀ T,Keep S T→srcE T xi=some (ins.map fun b=>[aB b])):
    ACalls Pg 33 [g.av,xi] S (fun r S'=>∃ x,r = .ret x∧Keep S S'∧Own S.n S' x 4 ((allB g ins).map fun b=>[aB b])):=by
 refine calls33 ?_
 have hlen:=hg.len
 unfold m33
 refine boxA_of rfl fun S1 k1 n1 o1=>?_
 rw[ldN_p (n:=2) o1 rfl]
 refine callF_ans (ans26 hg) ?_
 rw[un_not,onB_v]
 refine gd_of (fun h1=>⟨_,rfl,k1,?_⟩) (fun h1=>?_)
 ·rw[Bool.not_eq_true']at h1
  rw[allB,h1]
  exact Own.nl _ _ _
 have h1:g.right=true:=by simpa using h1
 rw[hlx,shift_p,ld1_p o1 rfl rfl,bin_neq,onB_v]
 refine gd_of (fun h2=>⟨_,rfl,k1,?_⟩) (fun h2=>?_)
 ·rw[Bool.not_eq_true']at h2
  rw[allB,h2,Bool.and_false]
  exact Own.nl _ _ _
 have h2:decide ((ins.length:Int)=g.inputs)=true:=by simpa using h2
 have h2':=dT h2
 have hres:allB g ins=allTo g ins g.ands.length:=by rw[allB,h1,h2];rfl
 rw[shift_p,ld1_p o1 rfl rfl,bin_add (by omega) (by omega),shift_p,ld1_p o1 rfl rfl,lenS_pL,bin_add (by omega) (by omega)]
 have hcap:g.inputs+1+(g.ands.length:Int)=((ins.length+1+g.ands.length:Nat):Int):=by omega
 rw[hcap]
 have hmk:∀{K:AV→Store→Prop},mkN 4 1 [.v (.bool false)] (.v (.int .i64 1)) (aI ((ins.length+1+g.ands.length:Nat):Int)) S1 K=K (.s S1.n 0 1) (S1.new (.cells 4 (List.replicate 1 [.v (.bool false)]) true)):=mkN_lc (l:=1) (by omega) (by omega) (by omega)
 rw[hmk]
 have w2:Own S1.n (S1.new (.cells 4 (List.replicate 1 [.v (.bool false)]) true)) (.s S1.n 0 1) 4 [[aB false]]:=.inr ⟨S1.n,rfl,Nat.le_refl _,by simp,by rw[new_self];rfl⟩
 have k2:Keep S1 (S1.new (.cells 4 (List.replicate 1 [.v (.bool false)]) true)):=(Keep.refl _).new _
 have n2:(S1.new (.cells 4 (List.replicate 1 [.v (.bool false)]) true)).n=S1.n+1:=rfl
 generalize S1.new (.cells 4 (List.replicate 1 [.v (.bool false)]) true)=S2 at *
 refine box1_of rfl fun S3 k3 n3 o3=>?_
 refine st_of o3 rfl rfl fun S4 n4 o4 f4=>?_
 have k4:Keep S1 S4:=(k2.trans k3).st (by omega) n4 f4
 have w4:Own S1.n S4 (.s S1.n 0 1) 4 [[aB false]]:=(own_keep w2 k3).st (id:=S2.n) (fun b m e=>by injection e;omega) n4 f4
 rw[ld1_p o4 rfl rfl]
 refine Own.appL w4 k4.1 (ys:=ins.map fun b=>[aB b]) (fun c hc=>by obtain⟨p,_,rfl⟩:=List.mem_map.1 hc;rfl) (by simp;omega) (fun z1 S5 w5 b5 hz5=>?_) (hsx _ (k1.trans k4))
 have k5:Keep S1 S5:=w4.keep (Nat.le_refl _) b5 k4
 have o5:=(b5.2 S2.n (by omega) (fun b m e=>by injection e;omega)).trans o4
 have m5:=b5.1
 have z5:∀ b m,z1≠.s S2.n b m:=fun b m e=>by
  rcases hz5 with h|⟨m',h⟩
  ·rw[h]at e;injection e;omega
  ·rw[h]at e;injection e;omega
 refine st_of o5 rfl (by rcases w5 with⟨h,_⟩|⟨_,h,_⟩<;>rw[h]<;>rfl) fun S6 n6 o6 f6=>?_
 have k6:Keep S1 S6:=k5.st (by omega) n6 f6
 have w6:=w5.st (id:=S2.n) z5 n6 f6
 have p6:=(k6.2 S.n (by omega)).trans o1
 rw[shift_p,ld1_p p6 rfl rfl,lenS_pL]
 refine loop33_0 (fun y S'=>Keep S1 S'∧S2.n<S'.n∧∃ i:Nat,y=aI i∧i≤g.ands.length∧∃ z,S'.obj S2.n=some (.cells 54 [[z]] true)∧(∀ b m,z≠.s S2.n b m)∧Own S1.n S' z 4 ((allTo g ins i).map fun b=>[aB b]))
  (fun y _=>g.ands.length - ((intA y).getD 0).toNat) ⟨k6,by omega,0,rfl,Nat.zero_le _,z1,o6,z5,w6⟩ ?_
 rintro _ S7 ⟨k7,n7,i,rfl,hi,z,o7,hz,w7⟩ KE hKE
 unfold b33_0
 rw[bin_lss,onB_v]
 refine gd_of (fun hlt=>?_) (fun hge=>?_)
 ·have hlt:i<g.ands.length:=by simpa using hlt
  obtain⟨q1,q2,q3,q4⟩:=may_at h1 hlt
  have hp:=hg.pairs _ (List.getElem_mem hlt)
  have hget:g.ands.getD i (0,0)=g.ands[i]:=by simp[List.getD_eq_getElem?_getD,hlt]
  have hl4:(allTo g ins i).length=ins.length+1+i:=allTo_len g ins i
  rw[ixS_pL hlt,ldN_q2]
  generalize g.ands[i]=p at *
  refine boxA_of rfl fun S8 k8 n8 o8=>?_
  refine stA_of o8 rfl rfl fun S9 n9 o9 f9=>?_
  have k9:Keep S7 S9:=k8.st (Nat.le_refl _) n9 f9
  have w9:Own S1.n S9 z 4 _:=own_keep w7 k9
  have v9:=(k9.2 S2.n n7).trans o7
  have e1:∀(T:Store) (K:AV→Store→Prop),ixA 2 1 (.p S7.n 0 0) (.v (.int .i64 1)) T K=K (.p S7.n 0 1) T:=fun T K=>ixA_p (z:=1) (by decide)
  have e0:∀(T:Store) (K:AV→Store→Prop),ixA 2 1 (.p S7.n 0 0) (.v (.int .i64 0)) T K=K (.p S7.n 0 0) T:=fun T K=>ixA_p (z:=0) (by decide)
  have hadd:∀ K:AV→Store→Prop,∀ S,bin .add 0 (.v (.int .i64 (i:Int))) (.v (.int .i64 1)) S K=K (aI (i+1:Nat)) S:=fun K S=>bin_add (by omega) (by omega) 0
  have hp1:0≤p.1:=by
   rcases Int.le_total 0 p.1 with h|h
   ·exact h
   ·have:p.1.tdiv 2≤0:=by
      rw[show p.1.tdiv 2 = -((-p.1).tdiv 2)by rw[Int.neg_tdiv,Int.neg_neg],Int.tdiv_eq_ediv_of_nonneg (by omega)]
      omega
    omega
  have m9:S9.n=S7.n+1:=by omega
  have step:∀ b,allTo g ins (i+1)=allTo g ins i ++ [b]→appS 4 1 1 z (.l [[aB b]]) S9 fun v T=>stN 1 (.p S2.n 0 0) v T fun _ T=>bin .add 0 (aI i) (.v (.int .i64 1)) T fun v' T=>KE 53 (env33_0 (.p S2.n 0 0) (.f (.func 47) [] [.p S2.n 0 0]) (pL g.ands) (aI g.ands.length) v') T:=fun b hb=>by
   refine w9.app (by have:=k7.1;omega) (c:=[aB b]) rfl (by simp;omega) (fun zz T1 wT bT hzT=>?_) rfl
   have kT:Keep S1 T1:=w9.keep (Nat.le_refl _) bT (k7.trans k9)
   have oT:=(bT.2 S2.n (by omega) (fun b m=>hz b m)).trans v9
   have mT:=bT.1
   have hzz:∀ b m,zz≠.s S2.n b m:=fun b m e=>by
    obtain⟨m',h⟩:=hzT
    rw[h]at e;injection e;omega
   refine st_of oT rfl (by rcases wT with⟨h,_⟩|⟨_,h,_⟩<;>rw[h]<;>rfl) fun T2 nT o2 f2=>?_
   rw[hadd]
   refine hKE _ _ ⟨kT.st (by omega) nT f2,by omega,i+1,rfl,hlt,zz,o2,hzz,?_⟩ (by simp[intA];omega)
   rw[hb,List.map_append]
   exact wT.st (id:=S2.n) hzz nT f2
  refine⟨_,fun T hT=>by rw[ld1_p ((hT.2 _ (by omega)).trans v9) rfl rfl];exact⟨rfl,rfl⟩,_,fun T hT=>by rw[e0];exact⟨rfl,rfl⟩,_,fun T hT=>by rw[ld1_p ((hT.2 _ (by omega)).trans o9) rfl rfl];exact⟨rfl,rfl⟩,
   _,fun T hT=>callV_at (at47 hp1 (by rw[hl4];omega) ((hT.2 _ (by omega)).trans v9) (own_keep w9 hT)) ⟨rfl,rfl⟩,?_⟩
  rw[onB_v]
  refine gd_of (fun h3=>?_) (fun h3=>?_)
  ·refine⟨_,fun T hT=>by rw[e1];exact⟨rfl,rfl⟩,_,fun T hT=>by rw[ld1_p ((hT.2 _ (by omega)).trans o9) rfl rfl];exact⟨rfl,rfl⟩,
     _,fun T hT=>callV_at (at47 (by omega) (by rw[hl4];omega) ((hT.2 _ (by omega)).trans v9) (own_keep w9 hT)) ⟨rfl,rfl⟩,_,fun T hT=>⟨rfl,rfl⟩,_,fun T hT=>bsl1 rfl (fun _ h=>by cases h) ⟨rfl,rfl⟩,?_⟩
   refine step _ ?_
   simp only[allTo,hget]
   rw[h3,Bool.true_and]
  ·refine⟨_,fun T hT=>⟨rfl,rfl⟩,_,fun T hT=>bsl1 rfl (fun _ h=>by cases h) ⟨rfl,rfl⟩,?_⟩
   refine step _ ?_
   simp only[allTo,hget]
   rw[h3,Bool.false_and]
 ·have hge:i=g.ands.length:=by simp at hge;omega
  subst hge
  rw[hres,ld1_p o7 rfl rfl]
  exact⟨_,rfl,k1.trans k7,w7.low (by omega)⟩
theorem ans_own_at{α:Type}{f:α→Value}{P:Program}{fn:FuncId}{args:List AV}{S:Store}{e:Nat}{l:List α}(h:ACalls P fn args S (fun r S'=>∃ x,r = .ret x∧Keep S S'∧Own S.n S' x e (l.map fun a=>[.v (f a)]))):AnsAt P fn args S (aL (fun a=>.v (f a)) l):=
 ACalls.tree (h.mono fun r S' ⟨x,h1,h2,h3⟩=>⟨x,h1,h2,h3.cv_v⟩)
def bitN(n:Int)(i:Nat):Bool:=decide (n.fdiv (2 ^ i) % 2=1)
def bitsL(n:Int)(many:Nat):List Bool:=(List.range many).map (bitN n)
@[simp] theorem bitsL_len(n:Int)(m:Nat):(bitsL n m).length=m:=by simp[bitsL]
theorem bin_shrN{a:Int}{i:Nat}(h:i≤64){S:Store}{K:AV→Store→Prop}:bin .shr 0 (aI a) (aI i) S K=K (aI (a.fdiv (2 ^ i))) S:=by
 rw[bin_shr (by omega),show min (Int.toNat i) IntKind.i64.bits=i by rw[Int.toNat_natCast];exact Nat.min_eq_left h]
def isB (c:Ci) (s l:Int):Bool:=c.right && (decide (c.gr.inputs≤60) && c.gr.eval l (bitsL s c.gr.inputs.toNat))
theorem part10{x:AV}{l:List AV}{S:Store}{K:AV→Store→Prop}:part1 (.a (x :: l)) 0 S K=K x S:=by simp[part1,partA]
theorem gr_inp{c:Ci}(h:c.right=true):c.gr.inputs=c.inputs+c.latches.length∧0≤c.gr.inputs∧c.gr.inputs≤2000:=by
 obtain⟨⟨h1,h2⟩,h3,_,_,_,_,h4,_⟩:=right_c.1 h
 have h5:=right_iff.1 h4
 refine⟨?_,h5.1,h5.2.1⟩
 show IntKind.i64.wrap (c.inputs+c.latches.length)=_
 exact wrap64 (by omega) (by omega)
def afterTo (c:Ci) (s:Int):Nat→Int
 |0=>0
 |i+1=>if isB c s (c.latches.getD i (0,0)).1=true then afterTo c s i+2 ^ (c.inputs.toNat+i)else afterTo c s i
def afterB (c:Ci) (s:Int):Int:=if(c.right && decide (c.gr.inputs≤60))=true then afterTo c s c.latches.length else 0
theorem afterTo_le(c:Ci)(s:Int):∀ i,0≤afterTo c s i∧afterTo c s i<2 ^ (c.inputs.toNat+i)
 |0=>⟨Int.le_refl _,Int.pow_pos (by decide)⟩
 |i+1=>by
  have⟨h1,h2⟩:=afterTo_le c s i
  have h3:(2:Int) ^ (c.inputs.toNat+(i+1))=2*2 ^ (c.inputs.toNat+i):=by rw[←Nat.add_assoc,Int.pow_succ];omega
  have h4:(0:Int)<2 ^ (c.inputs.toNat+i):=Int.pow_pos (by decide)
  unfold afterTo
  split<;>constructor<;>omega
theorem pow_le60{n:Nat}(h:n≤60):(2:Int) ^ n≤1152921504606846976:=by
 have h1:2 ^ n≤2 ^ 60:=Nat.pow_le_pow_right (by decide) h
 have h2:((2 ^ n:Nat):Int)≤((2 ^ 60:Nat):Int):=Int.ofNat_le.2 h1
 rw[Int.natCast_pow]at h2
 exact h2
theorem bin_shl1{i:Nat}(h:i≤60){S:Store}{K:AV→Store→Prop}:bin .shl 0 (.v (.int .i64 1)) (aI i) S K=K (aI (2 ^ i)) S:=by
 have h2:¬ ((i:Int)<0):=by omega
 have h3:min (Int.toNat i) IntKind.i64.bits=i:=by rw[Int.toNat_natCast];exact Nat.min_eq_left (by show i≤64;omega)
 have h4:=pow_le60 h
 have h5:(0:Int)<2 ^ i:=Int.pow_pos (by decide)
 show optP (b2 .shl 0 (.int .i64 1) (.int .i64 i)) _=_
 have:b2 .shl 0 (.int .i64 1) (.int .i64 i)=some (.int .i64 (2 ^ i)):=by
  simp only[b2,isSh,shI,if_neg h2,h3,Int.one_mul]
  rw[wrap64 (by omega) (by omega)]
  rfl
 rw[this,optP_some]
theorem orN{a b:Nat}(ha:a<4611686018427387904)(hb:b<4611686018427387904)(h:a ||| b<4611686018427387904){S:Store}{K:AV→Store→Prop}:bin .or 0 (aI a) (aI b) S K=K (aI (a ||| b:Nat)) S:=by
 show optP (b2 .or 0 (.int .i64 a) (.int .i64 b)) _=_
 have:b2 .or 0 (.int .i64 a) (.int .i64 b)=some (.int .i64 (a ||| b:Nat)):=by
  show(some (Int.ofNat 0)).bind (fun _=>some (Value.int .i64 (IntKind.i64.wrap (BitVec.ofInt 64 a ||| BitVec.ofInt 64 b).toNat)))=_
  have h1:(BitVec.ofInt 64 (a:Int)).toNat=a:=by rw[BitVec.toNat_ofInt];omega
  have h2:(BitVec.ofInt 64 (b:Int)).toNat=b:=by rw[BitVec.toNat_ofInt];omega
  rw[BitVec.toNat_or,h1,h2,wrap64 (by omega) (by omega)]
  rfl
 rw[this,optP_some]
theorem or_add{k q b:Nat}(h:b<2 ^ k):2 ^ k*q ||| b=2 ^ k*q+b:=(Nat.two_pow_add_eq_or_of_lt h q).symm
theorem two_le60{n:Nat}(h:n≤60):2 ^ n≤1152921504606846976:=Nat.pow_le_pow_right (by decide) h
theorem bin_or_pow{a:Int}{k:Nat}(h0:0≤a)(h1:a<2 ^ k)(hk:k≤60){S:Store}{K:AV→Store→Prop}:bin .or 0 (aI a) (aI (2 ^ k)) S K=K (aI (a+2 ^ k)) S:=by
 obtain⟨n,rfl⟩:=Int.eq_ofNat_of_zero_le h0
 have hp:=two_le60 hk
 have e:((2:Int) ^ k)=((2 ^ k:Nat):Int):=by rw[Int.natCast_pow];rfl
 rw[e]at h1 ⊢
 have hn:n<2 ^ k:=by omega
 have ho:n ||| 2 ^ k=n+2 ^ k:=by
  rw[Nat.or_comm]
  have:=or_add (k:=k) (q:=1) hn
  rw[Nat.mul_one]at this
  rw[this];omega
 rw[orN (by omega) (by omega) (by rw[ho];omega),ho,Int.natCast_add]
section
variable {c:Ci} {vals:List (List Bool)} {n mid t:Nat} {S:Store}
end
theorem set_range{α:Type}{n i:Nat}{f f':Nat→α}(hi:i<n)(h:∀ k,k≠i→f' k=f k):((List.range n).map f).set i (f' i)=(List.range n).map f':=by
 apply List.ext_getElem
 ·simp
 ·intro k h1 h2
  rw[List.getElem_set]
  split
  ·rename_i e
   subst e
   simp
  ·rename_i e
   simp[h k (fun h=>e h.symm)]
section
variable {c:Ci} {vals:List (List Bool)} {n mid t:Nat} {S:Store}
end
section
variable {c:Ci} {vals:List (List Bool)} {n mid t:Nat} {S:Store}
end
inductive Fo where
 |mk (kind:Int) (name:ByteArray) (lit:Int) (kids:List Fo)
mutual
def Fo.row:Fo→List AV
 |.mk k n l ks=>[aI k,.v (.string n),aI l,.l (Fo.rows ks)]
def Fo.rows:List Fo→List (List AV)
 |[]=>[]
 |f :: fs=>Fo.row f :: Fo.rows fs
end
def foL(l:List Fo):AV:=.l (l.map Fo.row)
@[simp] theorem lenS_foL(l:List Fo){S:Store}{K:AV→Store→Prop}:lenS (foL l) S K=K (aI l.length) S:=by simp[foL]
theorem ldN_q{c:List AV}{n:Nat}{S:Store}{K:AV→Store→Prop}(h:c.length=n):ldN n (.q c 0) S K=K (.a c) S:=by
 subst h
 simp[ldN,rdN,place]
def bit(p:List Bool)(i:Nat):Bool:=p.getD i false
def nx(s:Sp)(i:Nat):List Int:=s.next.getD i []
def tab{α:Type}(n:Nat)(f:Nat→α):List α:=(List.range n).map f
@[simp] theorem tab_len{α:Type}(n:Nat)(f:Nat→α):(tab n f).length=n:=by simp[tab]
def exP(s:Sp)(p:List Bool):List Bool:=tab p.length fun i=>bit s.valid i && (nx s i).any fun k=>bit p k.toNat
def andP(a b:List Bool):List Bool:=tab a.length fun i=>bit a i && bit b i
inductive Reach (s:Sp) (p q:List Bool):Nat→Prop
 |base (i:Nat) (h1:bit q i=true) (h2:bit s.valid i=true):Reach s p q i
 |step (i k:Nat) (h1:bit p i=true) (h2:bit s.valid i=true) (h3:(k:Int)∈nx s i) (h:Reach s p q k):Reach s p q i
open Classical in
def euP (s:Sp) (p q:List Bool):List Bool:=tab q.length fun i=>decide (Reach s p q i)
@[simp] theorem andP_len(a b:List Bool):(andP a b).length=a.length:=by simp[andP]
@[simp] theorem exP_len(s:Sp)(p:List Bool):(exP s p).length=p.length:=by simp[exP]
@[simp] theorem euP_len(s:Sp)(p q:List Bool):(euP s p q).length=q.length:=by simp[euP]
def Sub(a b:List Bool):Prop:=∀ i,bit a i=true→bit b i=true
def stepP (s:Sp) (z f:List Bool):List Bool:=andP z (exP s (euP s z (andP z f)))
@[simp] theorem stepP_len(s:Sp)(z f:List Bool):(stepP s z f).length=z.length:=by simp[stepP]
def Stay(s:Sp)(fs:List (List Bool))(z:List Bool):Prop:=∀ f∈fs,Sub z (stepP s z f)
def fairL(s:Sp):List (List Bool):=if s.fair.isEmpty then[s.valid]else s.fair
def InEG(s:Sp)(p:List Bool)(i:Nat):Prop:=∃ z:List Bool,z.length=p.length∧Sub z (andP p s.valid)∧Stay s (fairL s) z∧bit z i=true
open Classical in
def egP (s:Sp) (p:List Bool):List Bool:=tab p.length fun i=>decide (InEG s p i)
@[simp] theorem egP_len(s:Sp)(p:List Bool):(egP s p).length=p.length:=by simp[egP]
def orP(a b:List Bool):List Bool:=tab a.length fun i=>bit a i || bit b i
@[simp] theorem orP_len(a b:List Bool):(orP a b).length=a.length:=by simp[orP]
section
set_option maxRecDepth 100000
def c6:Code:=(Tryd.f6.body).getD .skip
def r6:List ResultVar:=Tryd.f6.results.toList
def env6_0(y2 y4 y5 y6 y7 y8:AV):List AV:=[y2,y4,y5,y6,y7,y8]
def lv6_0:List Nat:=[2,4,5,6,7,8]
def env6_1(y2 y4 y5 y6 y10 y11 y12:AV):List AV:=[y2,y4,y5,y6,y10,y11,y12]
def lv6_1:List Nat:=[2,4,5,6,10,11,12]
def env6_2(y2 y4 y5 y11 y14:AV):List AV:=[y2,y4,y5,y11,y14]
def lv6_2:List Nat:=[2,4,5,11,14]
def env6_3(y2 y4 y5 y11 y15:AV):List AV:=[y2,y4,y5,y11,y15]
def lv6_3:List Nat:=[2,4,5,11,15]
def ms6:List (List Nat):=[lv6_0,lv6_1,lv6_2,lv6_3,[0]]
def m6(x0:AV)(S:Store)(Q:PoT):Prop:=
 boxN 22 1 x0 S fun c S=>boxN 29 8 (.a [.v (.int .i64 0),.nl,.nl,.nl,.nl,.nl,.nl,.nl]) S fun d S=>boxN 3 1 (.v (.int .i64 0)) S fun e S=>stN 1 e (.v (.int .i64 0)) S fun g S=>boxN 29 8 (.a [.v (.int .i64 0),.nl,.nl,.nl,.nl,.nl,.nl,.nl]) S fun h S=>callV Pg (.f (.func 13) [] [e,c]) [.v (.int .i64 4)] S (fun i S=>shift h 0 S fun k S=>stN 1 k i S fun l S=>callV Pg (.f (.func 13) [] [e,c]) [.v (.int .i64 3)] S (fun m S=>bin .add 0 (.v (.int .i64 1)) m S fun n S=>callV Pg (.f (.func 13) [] [e,c]) [.v (.int .i64 9)] S (fun o S=>loopV lv6_0 (vc Pg (c6.at_ [1,1,1,1,1,1,1,0,1,0,0]) (ms6.drop 1)) 156 (env6_0 d (.f (.func 13) [] [e,c]) h n .nl o) S (blockK 0 (seqK (vc Pg (c6.at_ [1,1,1,1,1,1,1,1]) (ms6.drop 1)) (bodyK Pg r6 Q)))) (fun u S=>Q (.pan u) S)) (fun u S=>Q (.pan u) S)) (fun u S=>Q (.pan u) S)
theorem calls6{x0:AV}{S:Store}{Q:PoT}(h:m6 x0 S Q):ACalls Pg 6 [x0] S Q:=
 calls_of_vc (fn:=Tryd.f6) (c:=c6) (n:=156) Tryd.func6 (by kernel_rfl) (by kernel_rfl) (by kernel_rfl) ms6 (Eq.mpr (by kernel_rfl) h)
def b6_0(y2 y4 y5 y6 y7 y8:AV)(S:Store)(KE0:KeT)(Q:PoT):Prop:=
 bin .gtr 0 y8 (.v (.int .i64 0)) S fun c S=>onB c fun b=>gd b (callV Pg y4 [.v (.int .i64 65536)] S (fun d S=>convI .u16 d S fun e S=>bslN 45 1 1 [.v (.int .u16 0)] [(0,e)] S fun f S=>appS 45 1 2 y7 f S fun g S=>bin .sub 0 y8 (.v (.int .i64 1)) S fun h S=>KE0 156 (env6_0 y2 y4 y5 y6 g h) S) (fun u S=>Q (.pan u) S)) (shift y5 0 S fun i S=>ld1 i S fun k S=>bin .add 0 k y6 S fun l S=>callF Pg 14 [l,y7] S Q fun m S=>extr m 0 S fun n S=>extr m 1 S fun o S=>boxN 43 2 (.a [.v (.int .i64 0),.nl]) S fun p S=>stN 2 p n S fun q S=>shift p 1 S fun r S=>ld1 r S fun s S=>shift y5 2 S fun t S=>stN 1 t s S fun w S=>ldN 2 p S fun x S=>callF Pg 15 [x] S Q fun y S=>bin .mul 0 (.v (.int .i64 2)) y S fun z S=>loopV lv6_1 (vc Pg (c6.at_ [1,1,1,1,1,1,1,1,1,1,1,0,1,0,0]) (ms6.drop 2)) 156 (env6_1 y2 y4 y5 y6 o z (.v (.int .i64 0))) S (blockK 2 (seqK (vc Pg (c6.at_ [1,1,1,1,1,1,1,1,1,1,1,1]) (ms6.drop 2)) (bodyK Pg r6 Q))))
theorem b6_0_eq(y2 y4 y5 y6 y7 y8:AV)(S:Store)(KE0:KeT)(Q:PoT):vc Pg (c6.at_ [1,1,1,1,1,1,1,0,1,0,0]) (ms6.drop 1) (mkE 156 lv6_0 (env6_0 y2 y4 y5 y6 y7 y8)) S (thenK (fgK lv6_0 KE0) (blockK 0 (seqK (vc Pg (c6.at_ [1,1,1,1,1,1,1,1]) (ms6.drop 1)) (bodyK Pg r6 Q))))=b6_0 y2 y4 y5 y6 y7 y8 S KE0 Q:=by kernel_rfl
theorem loop6_0{y2 y4 y5 y6:AV}{y70 y80:AV}{S:Store}{Q:PoT}(I:AV→AV→Store→Prop)(μ:AV→AV→Store→Nat)(h0:I y70 y80 S)
    (hr:∀(y7 y8:AV) (S:Store),I y7 y8 S→∀ KE0:KeT,(∀(y7' y8':AV) (S':Store),I y7' y8' S'→μ y7' y8' S'<μ y7 y8 S→KE0 156 (env6_0 y2 y4 y5 y6 y7' y8') S')→b6_0 y2 y4 y5 y6 y7 y8 S KE0 Q):
    loopV lv6_0 (vc Pg (c6.at_ [1,1,1,1,1,1,1,0,1,0,0]) (ms6.drop 1)) 156 (env6_0 y2 y4 y5 y6 y70 y80) S (blockK 0 (seqK (vc Pg (c6.at_ [1,1,1,1,1,1,1,1]) (ms6.drop 1)) (bodyK Pg r6 Q))):=by
 refine⟨fun n e S=>n=156∧∃ y7 y8:AV,e=(env6_0 y2 y4 y5 y6 y7 y8)∧I y7 y8 S,fun _ e S=>μ (e.getD 4 .j) (e.getD 5 .j) S,?_,?_⟩
 ·exact⟨_,_,Wk.refl _ _,rfl,_,_,rfl,h0⟩
 ·rintro _ e S ⟨rfl,y7,y8,rfl,hI⟩
  exact(b6_0_eq _ _ _ _ _ _ _ _ _).mpr (hr y7 y8 S hI _ (fun y7' y8' S' hI' hm=>⟨_,_,Wk.refl _ _,⟨rfl,_,_,rfl,hI'⟩,hm⟩))
def b6_1(y2 y4 y5 y6 y10 y11 y12:AV)(S:Store)(KE1:KeT)(Q:PoT):Prop:=
 bin .lss 0 y12 y6 S fun a S=>onB a fun b=>gd b (callV Pg y4 [y11] S (fun c S=>bin .eql 0 y12 (.v (.int .i64 0)) S fun d S=>onB d fun b=>gd b (∃ e:AV,(∀ T:Store,Keep S T→shift y5 1 T fun f S=>f=e∧S=T)∧∃ g:AV,(∀ T:Store,Keep S T→ld1 e T fun h S=>h=g∧S=T)∧callV Pg y4 [.v (.int .i64 5)] S (fun i S=>(∀ T:Store,Keep S T→ld1 e T fun k S=>k=g∧S=T)∧(∀ T:Store,Keep S T→shift y5 1 T fun l S=>l=e∧S=T)∧∃ m:AV,(∀ T:Store,Keep S T→bin .quo 0 i (.v (.int .i64 2)) T fun n S=>n=m∧S=T)∧∃ o:AV,(∀ T:Store,Keep S T→bld [(0,1),(1,1)] [.v (.int .i64 0),.v (.int .i64 0)] [(0,y10),(1,m)] T fun p S=>p=o∧S=T)∧∃ q:AV,(∀ T:Store,Keep S T→bslN 39 2 1 [.v (.int .i64 0),.v (.int .i64 0)] [(0,o)] T fun r S=>r=q∧S=T)∧appS 39 2 16 g q S fun s S=>∃ t:AV,(∀ T:Store,Keep S T→shift y5 1 T fun w S=>w=t∧S=T)∧stN 1 t s S fun x S=>bin .add 0 y12 (.v (.int .i64 1)) S fun y S=>KE1 156 (env6_1 y2 y4 y5 y6 y10 y11 y) S) (fun u S=>False)) (∃ z:AV,(∀ T:Store,Keep S T→shift y5 1 T fun A S=>A=z∧S=T)∧∃ B:AV,(∀ T:Store,Keep S T→ld1 z T fun C S=>C=B∧S=T)∧callV Pg y4 [.v (.int .i64 5)] S (fun D S=>(∀ T:Store,Keep S T→ld1 z T fun E S=>E=B∧S=T)∧(∀ T:Store,Keep S T→shift y5 1 T fun F S=>F=z∧S=T)∧∃ G:AV,(∀ T:Store,Keep S T→bin .quo 0 D (.v (.int .i64 2)) T fun H S=>H=G∧S=T)∧∃ I:AV,(∀ T:Store,Keep S T→bld [(0,1),(1,1)] [.v (.int .i64 0),.v (.int .i64 0)] [(0,c),(1,G)] T fun J S=>J=I∧S=T)∧∃ K:AV,(∀ T:Store,Keep S T→bslN 39 2 1 [.v (.int .i64 0),.v (.int .i64 0)] [(0,I)] T fun L S=>L=K∧S=T)∧appS 39 2 16 B K S fun M S=>∃ N:AV,(∀ T:Store,Keep S T→shift y5 1 T fun O S=>O=N∧S=T)∧stN 1 N M S fun P S=>bin .add 0 y12 (.v (.int .i64 1)) S fun R S=>KE1 156 (env6_1 y2 y4 y5 y6 y10 y11 R) S) (fun u S=>False))) (fun u S=>Q (.pan u) S)) (callV Pg y4 [.v (.int .i64 3)] S (fun U S=>loopV lv6_2 (vc Pg (c6.at_ [1,1,1,1,1,1,1,1,1,1,1,1,0,1,0,0]) (ms6.drop 3)) 156 (env6_2 y2 y4 y5 y11 U) S (blockK 4 (seqK (vc Pg (c6.at_ [1,1,1,1,1,1,1,1,1,1,1,1,1]) (ms6.drop 3)) (bodyK Pg r6 Q)))) (fun u S=>Q (.pan u) S))
theorem b6_1_eq(y2 y4 y5 y6 y10 y11 y12:AV)(S:Store)(KE1:KeT)(Q:PoT):vc Pg (c6.at_ [1,1,1,1,1,1,1,1,1,1,1,0,1,0,0]) (ms6.drop 2) (mkE 156 lv6_1 (env6_1 y2 y4 y5 y6 y10 y11 y12)) S (thenK (fgK lv6_1 KE1) (blockK 2 (seqK (vc Pg (c6.at_ [1,1,1,1,1,1,1,1,1,1,1,1]) (ms6.drop 2)) (bodyK Pg r6 Q))))=b6_1 y2 y4 y5 y6 y10 y11 y12 S KE1 Q:=by kernel_rfl
theorem loop6_1{y2 y4 y5 y6 y10 y11:AV}{y120:AV}{S:Store}{Q:PoT}(I:AV→Store→Prop)(μ:AV→Store→Nat)(h0:I y120 S)
    (hr:∀(y12:AV) (S:Store),I y12 S→∀ KE1:KeT,(∀(y12':AV) (S':Store),I y12' S'→μ y12' S'<μ y12 S→KE1 156 (env6_1 y2 y4 y5 y6 y10 y11 y12') S')→b6_1 y2 y4 y5 y6 y10 y11 y12 S KE1 Q):
    loopV lv6_1 (vc Pg (c6.at_ [1,1,1,1,1,1,1,1,1,1,1,0,1,0,0]) (ms6.drop 2)) 156 (env6_1 y2 y4 y5 y6 y10 y11 y120) S (blockK 2 (seqK (vc Pg (c6.at_ [1,1,1,1,1,1,1,1,1,1,1,1]) (ms6.drop 2)) (bodyK Pg r6 Q))):=by
 refine⟨fun n e S=>n=156∧∃ y12:AV,e=(env6_1 y2 y4 y5 y6 y10 y11 y12)∧I y12 S,fun _ e S=>μ (e.getD 6 .j) S,?_,?_⟩
 ·exact⟨_,_,Wk.refl _ _,rfl,_,rfl,h0⟩
 ·rintro _ e S ⟨rfl,y12,rfl,hI⟩
  exact(b6_1_eq _ _ _ _ _ _ _ _ _ _).mpr (hr y12 S hI _ (fun y12' S' hI' hm=>⟨_,_,Wk.refl _ _,⟨rfl,_,rfl,hI'⟩,hm⟩))
def b6_2(y2 y4 y5 y11 y14:AV)(S:Store)(KE2:KeT)(Q:PoT):Prop:=
 bin .gtr 0 y14 (.v (.int .i64 0)) S fun a S=>onB a fun b=>gd b (∃ c:AV,(∀ T:Store,Keep S T→shift y5 3 T fun d S=>d=c∧S=T)∧∃ e:AV,(∀ T:Store,Keep S T→ld1 c T fun f S=>f=e∧S=T)∧callV Pg y4 [y11] S (fun g S=>(∀ T:Store,Keep S T→ld1 c T fun h S=>h=e∧S=T)∧(∀ T:Store,Keep S T→shift y5 3 T fun i S=>i=c∧S=T)∧∃ k:AV,(∀ T:Store,Keep S T→bslN 3 1 1 [.v (.int .i64 0)] [(0,g)] T fun l S=>l=k∧S=T)∧appS 3 1 8 e k S fun m S=>∃ n:AV,(∀ T:Store,Keep S T→shift y5 3 T fun o S=>o=n∧S=T)∧stN 1 n m S fun p S=>bin .sub 0 y14 (.v (.int .i64 1)) S fun q S=>KE2 156 (env6_2 y2 y4 y5 y11 q) S) (fun u S=>False)) (callV Pg y4 [.v (.int .i64 4)] S (fun r S=>bin .eql 0 r (.v (.int .i64 0)) S fun s S=>onB s fun b=>gd b (∃ t:AV,(∀ T:Store,Keep S T→shift y5 4 T fun w S=>w=t∧S=T)∧∃ x:AV,(∀ T:Store,Keep S T→ld1 t T fun y S=>y=x∧S=T)∧callV Pg y4 [y11] S (fun z S=>(∀ T:Store,Keep S T→ld1 t T fun A S=>A=x∧S=T)∧(∀ T:Store,Keep S T→shift y5 4 T fun B S=>B=t∧S=T)∧∃ C:AV,(∀ T:Store,Keep S T→bslN 3 1 1 [.v (.int .i64 0)] [(0,z)] T fun D S=>D=C∧S=T)∧appS 3 1 8 x C S fun E S=>∃ F:AV,(∀ T:Store,Keep S T→shift y5 4 T fun G S=>G=F∧S=T)∧stN 1 F E S fun H S=>callV Pg y4 [.v (.int .i64 3)] S (fun I S=>bin .eql 0 I (.v (.int .i64 0)) S fun J S=>onB J fun b=>gd b (∃ K:AV,(∀ T:Store,Keep S T→shift y5 5 T fun L S=>L=K∧S=T)∧∃ M:AV,(∀ T:Store,Keep S T→ld1 K T fun N S=>N=M∧S=T)∧callV Pg y4 [y11] S (fun O S=>(∀ T:Store,Keep S T→ld1 K T fun P S=>P=M∧S=T)∧(∀ T:Store,Keep S T→shift y5 5 T fun R S=>R=K∧S=T)∧∃ U:AV,(∀ T:Store,Keep S T→bslN 3 1 1 [.v (.int .i64 0)] [(0,O)] T fun V S=>V=U∧S=T)∧appS 3 1 8 M U S fun W S=>∃ X:AV,(∀ T:Store,Keep S T→shift y5 5 T fun Y S=>Y=X∧S=T)∧stN 1 X W S fun Z S=>callV Pg y4 [.v (.int .i64 4)] S (fun a0 S=>bin .quo 0 a0 (.v (.int .i64 2)) S fun a1 S=>loopV lv6_3 (vc Pg (c6.at_ [1,1,1,1,1,1,1,1,1,1,1,1,1,1,1,0,1,0,0]) (ms6.drop 4)) 156 (env6_3 y2 y4 y5 y11 a1) S (blockK 6 (seqK (vc Pg (c6.at_ [1,1,1,1,1,1,1,1,1,1,1,1,1,1,1,1]) (ms6.drop 4)) (bodyK Pg r6 Q)))) (fun u S=>Q (.pan u) S)) (fun u S=>False)) (callV Pg y4 [.v (.int .i64 4)] S (fun a2 S=>bin .quo 0 a2 (.v (.int .i64 2)) S fun a3 S=>loopV lv6_3 (vc Pg (c6.at_ [1,1,1,1,1,1,1,1,1,1,1,1,1,1,1,0,1,0,0]) (ms6.drop 4)) 156 (env6_3 y2 y4 y5 y11 a3) S (blockK 6 (seqK (vc Pg (c6.at_ [1,1,1,1,1,1,1,1,1,1,1,1,1,1,1,1]) (ms6.drop 4)) (bodyK Pg r6 Q)))) (fun u S=>Q (.pan u) S))) (fun u S=>Q (.pan u) S)) (fun u S=>False)) (callV Pg y4 [.v (.int .i64 3)] S (fun a4 S=>bin .eql 0 a4 (.v (.int .i64 0)) S fun a5 S=>onB a5 fun b=>gd b (∃ a6:AV,(∀ T:Store,Keep S T→shift y5 5 T fun a7 S=>a7=a6∧S=T)∧∃ a8:AV,(∀ T:Store,Keep S T→ld1 a6 T fun a9 S=>a9=a8∧S=T)∧callV Pg y4 [y11] S (fun b0 S=>(∀ T:Store,Keep S T→ld1 a6 T fun b1 S=>b1=a8∧S=T)∧(∀ T:Store,Keep S T→shift y5 5 T fun b2 S=>b2=a6∧S=T)∧∃ b3:AV,(∀ T:Store,Keep S T→bslN 3 1 1 [.v (.int .i64 0)] [(0,b0)] T fun b4 S=>b4=b3∧S=T)∧appS 3 1 8 a8 b3 S fun b5 S=>∃ b6:AV,(∀ T:Store,Keep S T→shift y5 5 T fun b7 S=>b7=b6∧S=T)∧stN 1 b6 b5 S fun b8 S=>callV Pg y4 [.v (.int .i64 4)] S (fun b9 S=>bin .quo 0 b9 (.v (.int .i64 2)) S fun c0 S=>loopV lv6_3 (vc Pg (c6.at_ [1,1,1,1,1,1,1,1,1,1,1,1,1,1,1,0,1,0,0]) (ms6.drop 4)) 156 (env6_3 y2 y4 y5 y11 c0) S (blockK 6 (seqK (vc Pg (c6.at_ [1,1,1,1,1,1,1,1,1,1,1,1,1,1,1,1]) (ms6.drop 4)) (bodyK Pg r6 Q)))) (fun u S=>Q (.pan u) S)) (fun u S=>False)) (callV Pg y4 [.v (.int .i64 4)] S (fun c1 S=>bin .quo 0 c1 (.v (.int .i64 2)) S fun c2 S=>loopV lv6_3 (vc Pg (c6.at_ [1,1,1,1,1,1,1,1,1,1,1,1,1,1,1,0,1,0,0]) (ms6.drop 4)) 156 (env6_3 y2 y4 y5 y11 c2) S (blockK 6 (seqK (vc Pg (c6.at_ [1,1,1,1,1,1,1,1,1,1,1,1,1,1,1,1]) (ms6.drop 4)) (bodyK Pg r6 Q)))) (fun u S=>Q (.pan u) S))) (fun u S=>Q (.pan u) S))) (fun u S=>Q (.pan u) S))
theorem b6_2_eq(y2 y4 y5 y11 y14:AV)(S:Store)(KE2:KeT)(Q:PoT):vc Pg (c6.at_ [1,1,1,1,1,1,1,1,1,1,1,1,0,1,0,0]) (ms6.drop 3) (mkE 156 lv6_2 (env6_2 y2 y4 y5 y11 y14)) S (thenK (fgK lv6_2 KE2) (blockK 4 (seqK (vc Pg (c6.at_ [1,1,1,1,1,1,1,1,1,1,1,1,1]) (ms6.drop 3)) (bodyK Pg r6 Q))))=b6_2 y2 y4 y5 y11 y14 S KE2 Q:=by kernel_rfl
theorem loopw6_2{y2 y4 y5 y11 y14:AV}{S:Store}{Q:PoT}(I:AV→AV→AV→AV→AV→Store→Prop)(μ:AV→AV→AV→AV→AV→Store→Nat)(h0:∃(y2' y4' y5' y11' y14':AV) (S':Store),Wk S (env6_2 y2 y4 y5 y11 y14) S' (env6_2 y2' y4' y5' y11' y14')∧I y2' y4' y5' y11' y14' S')
    (hr:∀(y2 y4 y5 y11 y14:AV) (S:Store),I y2 y4 y5 y11 y14 S→∀ KE2:KeT,(∀(y2' y4' y5' y11' y14':AV) (S':Store) (y2'' y4'' y5'' y11'' y14'':AV) (S'':Store),Wk S' (env6_2 y2' y4' y5' y11' y14') S'' (env6_2 y2'' y4'' y5'' y11'' y14'')→I y2'' y4'' y5'' y11'' y14'' S''→μ y2'' y4'' y5'' y11'' y14'' S''<μ y2 y4 y5 y11 y14 S→KE2 156 (env6_2 y2' y4' y5' y11' y14') S')→b6_2 y2 y4 y5 y11 y14 S KE2 Q):
    loopV lv6_2 (vc Pg (c6.at_ [1,1,1,1,1,1,1,1,1,1,1,1,0,1,0,0]) (ms6.drop 3)) 156 (env6_2 y2 y4 y5 y11 y14) S (blockK 4 (seqK (vc Pg (c6.at_ [1,1,1,1,1,1,1,1,1,1,1,1,1]) (ms6.drop 3)) (bodyK Pg r6 Q))):=by
 obtain⟨y2',y4',y5',y11',y14',S0,hw0,h0⟩:=h0
 refine⟨fun n e S=>n=156∧∃ y2 y4 y5 y11 y14:AV,e=(env6_2 y2 y4 y5 y11 y14)∧I y2 y4 y5 y11 y14 S,fun _ e S=>μ (e.getD 0 .j) (e.getD 1 .j) (e.getD 2 .j) (e.getD 3 .j) (e.getD 4 .j) S,?_,?_⟩
 ·exact⟨_,_,hw0,rfl,_,_,_,_,_,rfl,h0⟩
 ·rintro _ e S ⟨rfl,y2,y4,y5,y11,y14,rfl,hI⟩
  exact(b6_2_eq _ _ _ _ _ _ _ _).mpr (hr y2 y4 y5 y11 y14 S hI _ (fun y2' y4' y5' y11' y14' S' y2'' y4'' y5'' y11'' y14'' S'' hw hI' hm=>⟨_,_,hw,⟨rfl,_,_,_,_,_,rfl,hI'⟩,hm⟩))
def b6_3(y2 y4 y5 y11 y15:AV)(S:Store)(KE3:KeT)(Q:PoT):Prop:=
 bin .gtr 0 y15 (.v (.int .i64 0)) S fun a S=>onB a fun b=>gd b (∃ c:AV,(∀ T:Store,Keep S T→shift y5 6 T fun d S=>d=c∧S=T)∧∃ e:AV,(∀ T:Store,Keep S T→ld1 c T fun f S=>f=e∧S=T)∧callV Pg y4 [y11] S (fun g S=>(∀ T:Store,Keep S T→ld1 c T fun h S=>h=e∧S=T)∧(∀ T:Store,Keep S T→shift y5 6 T fun i S=>i=c∧S=T)∧∃ k:AV,(∀ T:Store,Keep S T→bslN 3 1 1 [.v (.int .i64 0)] [(0,g)] T fun l S=>l=k∧S=T)∧appS 3 1 8 e k S fun m S=>∃ n:AV,(∀ T:Store,Keep S T→shift y5 6 T fun o S=>o=n∧S=T)∧stN 1 n m S fun p S=>bin .sub 0 y15 (.v (.int .i64 1)) S fun q S=>KE3 156 (env6_3 y2 y4 y5 y11 q) S) (fun u S=>False)) (callV Pg y4 [.v (.int .i64 3)] S (fun r S=>bin .gtr 0 r (.v (.int .i64 0)) S fun s S=>onB s fun b=>gd b (shift y5 7 S fun t S=>ld1 t S fun w S=>bld [(0,1),(1,1),(2,1)] [.v (.int .u8 0),.v (.int .i64 0),.v (.string ByteArray.empty)] [(0,(.v (.int .u8 108))),(2,(.v (.string { data:=#[113] })))] S fun x S=>bslN 32 3 1 [.v (.int .u8 0),.v (.int .i64 0),.v (.string ByteArray.empty)] [(0,x)] S fun y S=>appS 32 3 32 w y S fun z S=>shift y5 7 S fun A S=>stN 1 A z S fun B S=>shift y5 3 S fun C S=>ld1 C S fun D S=>lenS D S fun E S=>bin .gtr 0 E (.v (.int .i64 0)) S fun F S=>onB F fun b=>gd b (callV Pg y4 [.v (.int .i64 2)] S (fun G S=>bin .gtr 0 G (.v (.int .i64 0)) S fun H S=>onB H fun b=>gd b (∃ I:AV,(∀ T:Store,Keep S T→shift y5 7 T fun J S=>J=I∧S=T)∧∃ K:AV,(∀ T:Store,Keep S T→ld1 I T fun L S=>L=K∧S=T)∧∃ M:AV,(∀ T:Store,Keep S T→shift y5 3 T fun N S=>N=M∧S=T)∧∃ O:AV,(∀ T:Store,Keep S T→ld1 M T fun P S=>P=O∧S=T)∧∃ R:AV,(∀ T:Store,Keep S T→lenS O T fun U S=>U=R∧S=T)∧∃ V:AV,(∀ T:Store,Keep S T→bin .sub 0 R (.v (.int .i64 1)) T fun W S=>W=V∧S=T)∧∃ X:AV,(∀ T:Store,Keep S T→bslN 9 1 3 [.v (.string ByteArray.empty)] [(0,(.v (.string { data:=#[111,117,116] }))),(1,(.v (.string { data:=#[108,49] }))),(2,(.v (.string { data:=#[97,45,98] })))] T fun Y S=>Y=X∧S=T)∧callV Pg y4 [.v (.int .i64 3)] S (fun Z S=>(∀ T:Store,Keep S T→bslN 9 1 3 [.v (.string ByteArray.empty)] [(0,(.v (.string { data:=#[111,117,116] }))),(1,(.v (.string { data:=#[108,49] }))),(2,(.v (.string { data:=#[97,45,98] })))] T fun a0 S=>a0=X∧S=T)∧(∀ T:Store,Keep S T→bin .sub 0 R (.v (.int .i64 1)) T fun a1 S=>a1=V∧S=T)∧(∀ T:Store,Keep S T→lenS O T fun a2 S=>a2=R∧S=T)∧(∀ T:Store,Keep S T→ld1 M T fun a3 S=>a3=O∧S=T)∧(∀ T:Store,Keep S T→shift y5 3 T fun a4 S=>a4=M∧S=T)∧(∀ T:Store,Keep S T→ld1 I T fun a5 S=>a5=K∧S=T)∧(∀ T:Store,Keep S T→shift y5 7 T fun a6 S=>a6=I∧S=T)∧∃ a7:AV,(∀ T:Store,Keep S T→ixS 9 1 X Z T fun a8 S=>a8=a7∧S=T)∧∃ a9:AV,(∀ T:Store,Keep S T→ld1 a7 T fun b0 S=>b0=a9∧S=T)∧∃ b1:AV,(∀ T:Store,Keep S T→bld [(0,1),(1,1),(2,1)] [.v (.int .u8 0),.v (.int .i64 0),.v (.string ByteArray.empty)] [(0,(.v (.int .u8 111))),(1,V),(2,a9)] T fun b2 S=>b2=b1∧S=T)∧∃ b3:AV,(∀ T:Store,Keep S T→bslN 32 3 1 [.v (.int .u8 0),.v (.int .i64 0),.v (.string ByteArray.empty)] [(0,b1)] T fun b4 S=>b4=b3∧S=T)∧appS 32 3 32 K b3 S fun b5 S=>∃ b6:AV,(∀ T:Store,Keep S T→shift y5 7 T fun b7 S=>b7=b6∧S=T)∧stN 1 b6 b5 S fun b8 S=>ldN 8 y5 S fun b9 S=>stN 8 y2 b9 S fun c0 S=>ldN 8 y2 S fun c1 _=>Q (.ret c1) S) (fun u S=>False)) (ldN 8 y5 S fun c2 S=>stN 8 y2 c2 S fun c3 S=>ldN 8 y2 S fun c4 _=>Q (.ret c4) S)) (fun u S=>Q (.pan u) S)) (ldN 8 y5 S fun c5 S=>stN 8 y2 c5 S fun c6 S=>ldN 8 y2 S fun c7 _=>Q (.ret c7) S)) (shift y5 3 S fun c8 S=>ld1 c8 S fun c9 S=>lenS c9 S fun d0 S=>bin .gtr 0 d0 (.v (.int .i64 0)) S fun d1 S=>onB d1 fun b=>gd b (callV Pg y4 [.v (.int .i64 2)] S (fun d2 S=>bin .gtr 0 d2 (.v (.int .i64 0)) S fun d3 S=>onB d3 fun b=>gd b (∃ d4:AV,(∀ T:Store,Keep S T→shift y5 7 T fun d5 S=>d5=d4∧S=T)∧∃ d6:AV,(∀ T:Store,Keep S T→ld1 d4 T fun d7 S=>d7=d6∧S=T)∧∃ d8:AV,(∀ T:Store,Keep S T→shift y5 3 T fun d9 S=>d9=d8∧S=T)∧∃ e0:AV,(∀ T:Store,Keep S T→ld1 d8 T fun e1 S=>e1=e0∧S=T)∧∃ e2:AV,(∀ T:Store,Keep S T→lenS e0 T fun e3 S=>e3=e2∧S=T)∧∃ e4:AV,(∀ T:Store,Keep S T→bin .sub 0 e2 (.v (.int .i64 1)) T fun e5 S=>e5=e4∧S=T)∧∃ e6:AV,(∀ T:Store,Keep S T→bslN 9 1 3 [.v (.string ByteArray.empty)] [(0,(.v (.string { data:=#[111,117,116] }))),(1,(.v (.string { data:=#[108,49] }))),(2,(.v (.string { data:=#[97,45,98] })))] T fun e7 S=>e7=e6∧S=T)∧callV Pg y4 [.v (.int .i64 3)] S (fun e8 S=>(∀ T:Store,Keep S T→bslN 9 1 3 [.v (.string ByteArray.empty)] [(0,(.v (.string { data:=#[111,117,116] }))),(1,(.v (.string { data:=#[108,49] }))),(2,(.v (.string { data:=#[97,45,98] })))] T fun e9 S=>e9=e6∧S=T)∧(∀ T:Store,Keep S T→bin .sub 0 e2 (.v (.int .i64 1)) T fun f0 S=>f0=e4∧S=T)∧(∀ T:Store,Keep S T→lenS e0 T fun f1 S=>f1=e2∧S=T)∧(∀ T:Store,Keep S T→ld1 d8 T fun f2 S=>f2=e0∧S=T)∧(∀ T:Store,Keep S T→shift y5 3 T fun f3 S=>f3=d8∧S=T)∧(∀ T:Store,Keep S T→ld1 d4 T fun f4 S=>f4=d6∧S=T)∧(∀ T:Store,Keep S T→shift y5 7 T fun f5 S=>f5=d4∧S=T)∧∃ f6:AV,(∀ T:Store,Keep S T→ixS 9 1 e6 e8 T fun f7 S=>f7=f6∧S=T)∧∃ f8:AV,(∀ T:Store,Keep S T→ld1 f6 T fun f9 S=>f9=f8∧S=T)∧∃ g0:AV,(∀ T:Store,Keep S T→bld [(0,1),(1,1),(2,1)] [.v (.int .u8 0),.v (.int .i64 0),.v (.string ByteArray.empty)] [(0,(.v (.int .u8 111))),(1,e4),(2,f8)] T fun g1 S=>g1=g0∧S=T)∧∃ g2:AV,(∀ T:Store,Keep S T→bslN 32 3 1 [.v (.int .u8 0),.v (.int .i64 0),.v (.string ByteArray.empty)] [(0,g0)] T fun g3 S=>g3=g2∧S=T)∧appS 32 3 32 d6 g2 S fun g4 S=>∃ g5:AV,(∀ T:Store,Keep S T→shift y5 7 T fun g6 S=>g6=g5∧S=T)∧stN 1 g5 g4 S fun g7 S=>ldN 8 y5 S fun g8 S=>stN 8 y2 g8 S fun g9 S=>ldN 8 y2 S fun h0 _=>Q (.ret h0) S) (fun u S=>False)) (ldN 8 y5 S fun h1 S=>stN 8 y2 h1 S fun h2 S=>ldN 8 y2 S fun h3 _=>Q (.ret h3) S)) (fun u S=>Q (.pan u) S)) (ldN 8 y5 S fun h4 S=>stN 8 y2 h4 S fun h5 S=>ldN 8 y2 S fun h6 _=>Q (.ret h6) S))) (fun u S=>Q (.pan u) S))
theorem b6_3_eq(y2 y4 y5 y11 y15:AV)(S:Store)(KE3:KeT)(Q:PoT):vc Pg (c6.at_ [1,1,1,1,1,1,1,1,1,1,1,1,1,1,1,0,1,0,0]) (ms6.drop 4) (mkE 156 lv6_3 (env6_3 y2 y4 y5 y11 y15)) S (thenK (fgK lv6_3 KE3) (blockK 6 (seqK (vc Pg (c6.at_ [1,1,1,1,1,1,1,1,1,1,1,1,1,1,1,1]) (ms6.drop 4)) (bodyK Pg r6 Q))))=b6_3 y2 y4 y5 y11 y15 S KE3 Q:=by kernel_rfl
theorem loopw6_3{y2 y4 y5 y11 y15:AV}{S:Store}{Q:PoT}(I:AV→AV→AV→AV→AV→Store→Prop)(μ:AV→AV→AV→AV→AV→Store→Nat)(h0:∃(y2' y4' y5' y11' y15':AV) (S':Store),Wk S (env6_3 y2 y4 y5 y11 y15) S' (env6_3 y2' y4' y5' y11' y15')∧I y2' y4' y5' y11' y15' S')
    (hr:∀(y2 y4 y5 y11 y15:AV) (S:Store),I y2 y4 y5 y11 y15 S→∀ KE3:KeT,(∀(y2' y4' y5' y11' y15':AV) (S':Store) (y2'' y4'' y5'' y11'' y15'':AV) (S'':Store),Wk S' (env6_3 y2' y4' y5' y11' y15') S'' (env6_3 y2'' y4'' y5'' y11'' y15'')→I y2'' y4'' y5'' y11'' y15'' S''→μ y2'' y4'' y5'' y11'' y15'' S''<μ y2 y4 y5 y11 y15 S→KE3 156 (env6_3 y2' y4' y5' y11' y15') S')→b6_3 y2 y4 y5 y11 y15 S KE3 Q):
    loopV lv6_3 (vc Pg (c6.at_ [1,1,1,1,1,1,1,1,1,1,1,1,1,1,1,0,1,0,0]) (ms6.drop 4)) 156 (env6_3 y2 y4 y5 y11 y15) S (blockK 6 (seqK (vc Pg (c6.at_ [1,1,1,1,1,1,1,1,1,1,1,1,1,1,1,1]) (ms6.drop 4)) (bodyK Pg r6 Q))):=by
 obtain⟨y2',y4',y5',y11',y15',S0,hw0,h0⟩:=h0
 refine⟨fun n e S=>n=156∧∃ y2 y4 y5 y11 y15:AV,e=(env6_3 y2 y4 y5 y11 y15)∧I y2 y4 y5 y11 y15 S,fun _ e S=>μ (e.getD 0 .j) (e.getD 1 .j) (e.getD 2 .j) (e.getD 3 .j) (e.getD 4 .j) S,?_,?_⟩
 ·exact⟨_,_,hw0,rfl,_,_,_,_,_,rfl,h0⟩
 ·rintro _ e S ⟨rfl,y2,y4,y5,y11,y15,rfl,hI⟩
  exact(b6_3_eq _ _ _ _ _ _ _ _).mpr (hr y2 y4 y5 y11 y15 S hI _ (fun y2' y4' y5' y11' y15' S' y2'' y4'' y5'' y11'' y15'' S'' hw hI' hm=>⟨_,_,hw,⟨rfl,_,_,_,_,_,rfl,hI'⟩,hm⟩))
def c13:Code:=(Tryd.f13.body).getD .skip
def ms13:List (List Nat):=[[]]
def m13(x0 x1 x2:AV)(S:Store)(Q:PoT):Prop:=
 ld1 x1 S fun a S=>bin .add 0 a (.v (.int .i64 1)) S fun c S=>stN 1 x1 c S fun d S=>ld1 x1 S fun e S=>ld1 x2 S fun f S=>lenS f S fun g S=>bin .gtr 0 e g S fun h S=>onB h fun b=>gd b (Q (.ret (.v (.int .i64 0))) S) (ld1 x2 S fun i S=>ld1 x1 S fun k S=>bin .sub 0 k (.v (.int .i64 1)) S fun l S=>ixS 45 1 i l S fun m S=>ld1 m S fun n S=>convI .i64 n S fun o S=>bin .rem 0 o x0 S fun p S=>Q (.ret p) S)
theorem calls13{x0 x1 x2:AV}{S:Store}{Q:PoT}(h:m13 x0 x1 x2 S Q):ACalls Pg 13 [x0,x1,x2] S Q:=
 calls_of_vc (fn:=Tryd.f13) (c:=c13) (n:=19) Tryd.func13 (by kernel_rfl) (by kernel_rfl) (by kernel_rfl) ms13 (Eq.mpr (by kernel_rfl) h)
end
abbrev aW16(i:Int):AV:=.v (.int .u16 i)
def pickV(l:List Int)(k:Nat)(n:Int):Int:=if l.length<k+1 then 0 else(l.getD k 0).tmod n
theorem pick_of{S:Store}{aid lid ta tl k:Nat}{l:List Int}{n:Int}{Q:AEnd→Store→Prop}(h1:S.obj aid=some (.cells ta [[aI k]] true))(h2:S.obj lid=some (.cells tl [[aL aW16 l]] true))(hne:lid≠aid)
    (hl:∀ x∈l,0≤x∧x<65536) (hn:0<n) (hk:k≤1000000)
    (K:∀ S',S'.n=S.n→S'.obj aid=some (.cells ta [[aI (k+1:Nat)]] true)→(∀ x,x≠aid→S'.obj x=S.obj x)→Q (.ret (aI (pickV l k n))) S'):ACalls Pg 13 [aI n,.p aid 0 0,.p lid 0 0] S Q:=by
 refine calls13 ?_
 unfold m13
 have hadd:∀ K:AV→Store→Prop,∀ S,bin .add 0 (.v (.int .i64 (k:Int))) (.v (.int .i64 1)) S K=K (aI (k+1:Nat)) S:=fun K S=>bin_add (by omega) (by omega) 0
 rw[ld1_p h1 rfl rfl,hadd]
 refine st_of h1 rfl rfl fun S1 n1 o1 f1=>?_
 have p1:=(f1 lid hne).trans h2
 rw[ld1_p o1 rfl rfl,ld1_p p1 rfl rfl,lenS_aL,bin_gtr,onB_v]
 refine gd_of (fun h=>?_) (fun h=>?_)
 ·have h:=dT h
  have:=K S1 n1 o1 f1
  rw[pickV,if_pos (by omega)]at this
  exact this
 ·have h:=dF h
  have hlt:k<l.length:=by omega
  have hx:=hl _ (List.getElem_mem hlt)
  have hsub:∀ K:AV→Store→Prop,∀ S,bin .sub 0 (.v (.int .i64 ((k+1:Nat):Int))) (.v (.int .i64 1)) S K=K (aI k) S:=fun K S=>(bin_sub (by omega) (by omega) 0).trans (by rw[show((k+1:Nat):Int) - 1=k by omega])
  rw[ld1_p p1 rfl rfl,ld1_p o1 rfl rfl,hsub,ixS_aL hlt,ld1_q,convI_64 _ (by omega) (by omega),bin_rem (by omega)]
  have:=K S1 n1 o1 f1
  rw[pickV,if_neg (by omega),show l.getD k 0=l[k]by simp[List.getD_eq_getElem?_getD,hlt]]at this
  exact this
def xr(x y:Int):Int:=IntKind.i64.wrap (BitVec.ofInt 64 x ^^^ BitVec.ofInt 64 y).toNat
theorem bin_xor{a b:Int}{S:Store}{K:AV→Store→Prop}:bin .xor 0 (aI a) (aI b) S K=K (aI (xr a b)) S:=by
 show optP (b2 .xor 0 (.int .i64 a) (.int .i64 b)) _=_
 have:b2 .xor 0 (.int .i64 a) (.int .i64 b)=some (.int .i64 (xr a b)):=rfl
 rw[this,optP_some]
theorem small_and{g:Gr}(hg:g.ok){a b:Int}(ha:i64R a)(hb:i64R b):(g.and a b).1.ok:=by
 have h0:(⟨0,[]⟩:Gr).ok:=⟨⟨by decide,by decide⟩,by simp,fun p hp=>by simp at hp⟩
 unfold Gr.and
 split
 ·exact h0
 ·rename_i h1
  have hr:g.right=true:=by
   cases e:g.right with
   |true=>rfl
   |false=>exact absurd (by rw[e];rfl) h1
  unfold andT
  have hx:i64R (if b > a then b else a):=by split<;>assumption
  have hy:i64R (if b<a then b else a):=by split<;>assumption
  generalize(if b > a then b else a)=x at *
  generalize(if b<a then b else a)=y at *
  repeat' split
  all_goals first|exact hg|exact h0|skip
  obtain⟨_,_,r3,_⟩:=right_iff.1 hr
  refine⟨hg.inp,by simp;omega,fun p hp=>?_⟩
  rcases List.mem_append.1 hp with hp|hp
  ·exact hg.pairs p hp
  ·have:p=(x,y):=by simpa using hp
   subst this
   exact⟨hx,hy⟩
def madeS(g:Gr)(last:Int)(s:Int):Gr × Int:=
 let many:=2*g.vars
 let r:=g.and (s.tmod many) ((s.tdiv many).tmod many)
 if r.2.2=0 then(r.1,xr r.2.1 ((s.tdiv 7).tmod 2))else(g,last)
def madeTo(n:Int)(l:List Int):Nat→Gr × Int
 |0=>(⟨n,[]⟩,1)
 |i+1=>madeS (madeTo n l i).1 (madeTo n l i).2 (l.getD i 0)
theorem and_inp{g:Gr}{a b:Int}(h:(g.and a b).2.2=0):(g.and a b).1.inputs=g.inputs:=by
 revert h
 unfold Gr.and
 split
 ·intro h;cases h
 ·unfold andT
  generalize(if b > a then b else a)=x
  generalize(if b<a then b else a)=y
  repeat' split
  all_goals first|(intro _;rfl)|(intro h;cases h)
theorem madeTo_inp(n:Int)(l:List Int):∀ i,(madeTo n l i).1.inputs=n
 |0=>rfl
 |i+1=>by
  have ih:=madeTo_inp n l i
  simp only[madeTo,madeS]
  split
  ·rename_i h
   rw[and_inp h,ih]
  ·exact ih
theorem rem_small{a b:Int}(h0:0≤a)(h1:a≤65536)(hb:0<b):0≤a.tmod b∧a.tmod b≤65536:=by
 rw[Int.tmod_eq_emod_of_nonneg h0]
 have h2:=Int.emod_nonneg a (show b≠0 by omega)
 have h3:a % b≤a:=by
  have h4:=Int.mul_ediv_add_emod a b
  have h5:0≤b*(a / b):=Int.mul_nonneg (by omega) (Int.ediv_nonneg h0 (by omega))
  omega
 omega
theorem madeTo_ok{n:Int}(hn:i64R n){l:List Int}(hl:∀ x∈l,0≤x∧x<65536)(h0:0≤n):∀ i,(madeTo n l i).1.ok
 |0=>⟨hn,by simp[madeTo],fun p hp=>by simp[madeTo]at hp⟩
 |i+1=>by
  have ih:=madeTo_ok hn hl h0 i
  have hv:0<2*(madeTo n l i).1.vars:=by
   have:=madeTo_inp n l i
   unfold Gr.vars
   omega
  have hx:0≤l.getD i 0∧l.getD i 0≤65536:=by
   rw[List.getD_eq_getElem?_getD]
   rcases Nat.lt_or_ge i l.length with h|h
   ·rw[List.getElem?_eq_getElem h]
    have:=hl _ (List.getElem_mem h)
    exact⟨this.1,by show l[i]≤65536;omega⟩
   ·rw[List.getElem?_eq_none h]
    exact⟨by decide,by decide⟩
  have hd:0≤(l.getD i 0).tdiv (2*(madeTo n l i).1.vars)∧(l.getD i 0).tdiv (2*(madeTo n l i).1.vars)≤65536:=by
   rw[Int.tdiv_eq_ediv_of_nonneg hx.1]
   have h1:=Int.ediv_nonneg hx.1 (show 0≤2*(madeTo n l i).1.vars by omega)
   have h2:=Int.ediv_le_self (2*(madeTo n l i).1.vars) hx.1
   omega
  have ha:=rem_small hx.1 hx.2 hv
  have hb:=rem_small hd.1 hd.2 hv
  simp only[madeTo,madeS]
  split
  ·exact small_and ih ⟨by omega,by omega⟩ ⟨by omega,by omega⟩
  ·exact ih
theorem lit_iff{g:Gr}{l:Int}:g.lit l=true↔0≤g.inputs∧g.inputs≤2000∧0≤l∧l / 2<g.vars:=by
 simp only[Gr.lit,Bool.and_eq_true,decide_eq_true_eq]
 constructor
 ·rintro⟨h1,h2,h3,h4⟩
  rw[Int.tdiv_eq_ediv_of_nonneg h3]at h4
  exact⟨h1,h2,h3,h4⟩
 ·rintro⟨h1,h2,h3,h4⟩
  rw[Int.tdiv_eq_ediv_of_nonneg h3]
  exact⟨h1,h2,h3,h4⟩
theorem and_right{g:Gr}(h:g.right=true){a b:Int}(e:(g.and a b).2.2=0):
    (g.and a b).1.right=true∧(g.and a b).1.lit (g.and a b).2.1=true∧(g.and a b).1.vars≤g.vars+1∧g.vars≤(g.and a b).1.vars∧(g.and a b).1.inputs=g.inputs:=by
 have hin:=and_inp e
 obtain⟨r1,r2,r3,r4,r5,r6⟩:=right_iff.1 h
 have hv:g.vars=g.inputs+1+g.ands.length:=rfl
 revert e
 unfold Gr.and
 split
 ·intro e;cases e
 ·rename_i hl
  have hl:(g.right && (g.lit a && g.lit b))=true:=by simpa using hl
  simp only[Bool.and_eq_true]at hl
  obtain⟨_,la,lb⟩:=hl
  have lx:g.lit (if b > a then b else a)=true:=by split<;>assumption
  have ly:g.lit (if b<a then b else a)=true:=by split<;>assumption
  have hxy:(if b<a then b else a)≤(if b > a then b else a):=by split<;>split<;>omega
  generalize(if b > a then b else a)=x at *
  generalize(if b<a then b else a)=y at *
  obtain⟨_,_,x0,x1⟩:=lit_iff.1 lx
  obtain⟨_,_,y0,y1⟩:=lit_iff.1 ly
  unfold andT
  split
  ·intro _;exact⟨h,lit_iff.2 ⟨r1,r2,Int.le_refl _,by show(0:Int) / 2<g.vars;omega⟩,by show g.vars≤_;omega,Int.le_refl _,rfl⟩
  rename_i hy0
  split
  ·intro _;exact⟨h,lit_iff.2 ⟨r1,r2,Int.le_refl _,by show(0:Int) / 2<g.vars;omega⟩,by show g.vars≤_;omega,Int.le_refl _,rfl⟩
  rename_i hd
  split
  ·intro _;exact⟨h,lx,by show g.vars≤_;omega,Int.le_refl _,rfl⟩
  rename_i hy1
  split
  ·intro _;exact⟨h,lx,by show g.vars≤_;omega,Int.le_refl _,rfl⟩
  rename_i hne
  rw[Int.tdiv_eq_ediv_of_nonneg x0,Int.tdiv_eq_ediv_of_nonneg y0]at hd
  split
  ·rename_i i hi
   obtain⟨hi,_,_⟩:=List.findIdx?_eq_some_iff_getElem.1 hi
   intro _
   exact⟨h,lit_iff.2 ⟨r1,r2,by show 0≤2*(g.inputs+1+(i:Int));omega,by show 2*(g.inputs+1+(i:Int)) / 2<g.vars;omega⟩,by show g.vars≤_;omega,Int.le_refl _,rfl⟩
  ·rename_i hi
   split
   ·intro e;cases e
   ·rename_i hbig
    intro _
    have hv':(⟨g.inputs,g.ands ++ [(x,y)]⟩:Gr).vars=g.vars+1:=by simp[Gr.vars];omega
    refine⟨right_iff.2 ⟨r1,r2,by simp;omega,by rw[hv'];omega,fun j hj=>?_,?_⟩,lit_iff.2 ⟨r1,r2,by show 0≤2*(g.vars+1) - 2;omega,by rw[hv'];show(2*(g.vars+1) - 2) / 2<_;omega⟩,by rw[hv'];omega,by rw[hv'];omega,rfl⟩
    ·rcases Nat.lt_or_ge j g.ands.length with hj'|hj'
     ·have:=r5 j hj'
      simpa[List.getD_eq_getElem?_getD,List.getElem?_append_left hj']using this
     ·have hj2:j=g.ands.length:=by simp at hj;omega
      subst hj2
      have:(g.ands ++ [(x,y)]).getD g.ands.length (0,0)=(x,y):=by simp[List.getD_eq_getElem?_getD]
      show may ((g.ands ++ [(x,y)]).getD g.ands.length (0,0)) _=true
      rw[this]
      simp only[may,Bool.and_eq_true,decide_eq_true_eq]
      rw[Int.tdiv_eq_ediv_of_nonneg x0,Int.tdiv_eq_ediv_of_nonneg y0]
      refine⟨by omega,?_,?_⟩
      ·have:x / 2≠y / 2:=fun q=>hd ⟨q,hne⟩
       omega
      ·show x / 2<g.inputs+1+(g.ands.length:Int);omega
    ·show(g.ands ++ [(x,y)]).Nodup
     rw[List.nodup_append]
     refine⟨r6,by simp,fun p hp q hq=>?_⟩
     have:q=(x,y):=by simpa using hq
     subst this
     rintro rfl
     have:=List.findIdx?_eq_none_iff.1 hi _ hp
     simp at this
theorem xr_nat(a b:Nat)(ha:a<2 ^ 62)(hb:b<2 ^ 62):xr (a:Int) (b:Int)=((a ^^^ b:Nat):Int):=by
 have h1:a ^^^ b<2 ^ 62:=Nat.xor_lt_two_pow ha hb
 have hp:(2:Nat) ^ 62=4611686018427387904:=by decide
 unfold xr
 have e:(BitVec.ofInt 64 (a:Int) ^^^ BitVec.ofInt 64 (b:Int)).toNat=a ^^^ b:=by
  rw[BitVec.toNat_xor,BitVec.ofInt_natCast,BitVec.ofInt_natCast,BitVec.toNat_ofNat,BitVec.toNat_ofNat,Nat.mod_eq_of_lt (by omega),Nat.mod_eq_of_lt (by omega)]
 rw[e,wrap64 (by omega) (by omega)]
theorem xr_half{a b:Int}(h0:0≤a)(h1:a≤1000000)(hb:b=0∨b=1):0≤xr a b∧xr a b / 2=a / 2∧xr a b≤1000001:=by
 obtain⟨n,rfl⟩:=Int.eq_ofNat_of_zero_le h0
 obtain⟨m,rfl,hm⟩:∃ m:Nat,b=(m:Int)∧m<2:=by rcases hb with rfl|rfl;exact⟨0,rfl,by decide⟩;exact⟨1,rfl,by decide⟩
 have hp:(2:Nat) ^ 62=4611686018427387904:=by decide
 rw[xr_nat n m (by omega) (by omega)]
 have:(n ^^^ m) / 2=n / 2:=by
  rw[Nat.xor_div_two,show m / 2=0 by omega,Nat.xor_zero]
 omega
theorem madeTo_right{n:Int}(h0:0≤n)(hn:n≤100){l:List Int}(hl:∀ x∈l,0≤x∧x<65536):∀ i,i≤40→(madeTo n l i).1.right=true∧(madeTo n l i).1.lit (madeTo n l i).2=true∧n+1≤(madeTo n l i).1.vars∧(madeTo n l i).1.vars≤n+1+i
 |0,_=>by
  refine⟨right_iff.2 ⟨h0,by show n≤2000;omega,by show((0:Nat):Int)≤2000;decide,by show n+1+0≤2000;omega,fun j hj=>by simp[madeTo]at hj,by simp[madeTo]⟩,lit_iff.2 ⟨h0,by show n≤2000;omega,by show(0:Int)≤1;decide,by show(1:Int) / 2<n+1+0;omega⟩,by show _≤n+1+0;omega,by show n+1+0≤_;omega⟩
 |i+1,hi=>by
  obtain⟨h1,h2,h3,h4⟩:=madeTo_right h0 hn hl i (by omega)
  have hx:0≤l.getD i 0:=by
   rw[List.getD_eq_getElem?_getD]
   rcases Nat.lt_or_ge i l.length with h|h
   ·rw[List.getElem?_eq_getElem h]
    exact(hl _ (List.getElem_mem h)).1
   ·rw[List.getElem?_eq_none h]
    exact Int.le_refl 0
  simp only[madeTo,madeS]
  split
  ·rename_i he
   obtain⟨k1,k2,k3,k4,k5⟩:=and_right h1 he
   generalize(madeTo n l i).1.and ((l.getD i 0).tmod (2*(madeTo n l i).1.vars)) (((l.getD i 0).tdiv (2*(madeTo n l i).1.vars)).tmod (2*(madeTo n l i).1.vars))=r at *
   obtain⟨l1,l2,l3,l4⟩:=lit_iff.1 k2
   have hb:((l.getD i 0).tdiv 7).tmod 2=0∨((l.getD i 0).tdiv 7).tmod 2=1:=by
    rw[Int.tdiv_eq_ediv_of_nonneg hx,Int.tmod_eq_emod_of_nonneg (by omega)]
    omega
   obtain⟨q1,q2,_⟩:=xr_half (a:=r.2.1) l3 (by omega) hb
   exact⟨k1,lit_iff.2 ⟨l1,l2,q1,by rw[q2];exact l4⟩,by show _≤r.1.vars;omega,by show r.1.vars≤_;omega⟩
  ·exact⟨h1,h2,h3,by show(madeTo n l i).1.vars≤_;omega⟩
structure MadeC (c:Ci):Prop where
 ok:c.ok
 right:c.right=true
 inp:0≤c.inputs∧c.inputs≤3
 lats:1≤c.latches.length∧c.latches.length≤3
 ands:c.ands.length≤8
 outs:c.outs.length≤2
 bads:c.bads.length≤1
 cons:c.cons.length≤1
 fair:c.fair.length≤1
 names:∃(b1 b2:Bool) (t:ByteArray),c.names=(if b1 then[⟨108,0,⟨#[113]⟩⟩]else[])++(if b2 then[⟨111,c.outs.length - 1,t⟩]else[])∧(b2=true→0<c.outs.length∧(t=⟨#[111,117,116]⟩∨t=⟨#[108,49]⟩∨t=⟨#[97,45,98]⟩))
section
set_option maxRecDepth 100000
def c14:Code:=(Tryd.f14.body).getD .skip
def r14:List ResultVar:=Tryd.f14.results.toList
def env14_0(y1 y4 y6 y7 y8:AV):List AV:=[y1,y4,y6,y7,y8]
def lv14_0:List Nat:=[1,4,6,7,8]
def ms14:List (List Nat):=[lv14_0,[]]
def m14(x0 x1:AV)(S:Store)(Q:PoT):Prop:=
 boxN 43 2 (.a [.v (.int .i64 0),.nl]) S fun c S=>bld [(0,1),(1,1)] [.v (.int .i64 0),.nl] [(0,x0)] S fun d S=>boxN 43 2 (.a [.v (.int .i64 0),.nl]) S fun e S=>stN 2 e d S fun f S=>loopV lv14_0 (vc Pg (c14.at_ [1,1,1,0,1,0,0]) (ms14.drop 1)) 68 (env14_0 x1 c e (.v (.int .i64 1)) (.v (.int .i64 0))) S (blockK 0 (seqK (vc Pg (c14.at_ [1,1,1,1]) (ms14.drop 1)) (bodyK Pg r14 Q)))
theorem calls14{x0 x1:AV}{S:Store}{Q:PoT}(h:m14 x0 x1 S Q):ACalls Pg 14 [x0,x1] S Q:=
 calls_of_vc (fn:=Tryd.f14) (c:=c14) (n:=68) Tryd.func14 (by kernel_rfl) (by kernel_rfl) (by kernel_rfl) ms14 (Eq.mpr (by kernel_rfl) h)
def b14_0(y1 y4 y6 y7 y8:AV)(S:Store)(KE0:KeT)(Q:PoT):Prop:=
 lenS y1 S fun c S=>bin .lss 0 y8 c S fun d S=>onB d fun b=>gd b (bin .lss 0 y8 (.v (.int .i64 40)) S fun e S=>onB e fun b=>gd b (ldN 2 y6 S fun f S=>callF Pg 15 [f] S Q fun g S=>bin .mul 0 (.v (.int .i64 2)) g S fun h S=>(fun S0:Store=>∃ i:AV,(ixS 45 1 y1 y8 S fun k S=>k=i∧S=S0)∧∃ l:AV,(ld1 i S fun m S=>m=l∧S=S0)∧∃ n:AV,(convI .i64 l S fun o S=>o=n∧S=S0)∧∃ p:AV,(bin .rem 0 n h S fun q S=>q=p∧S=S0)∧∃ r:AV,(ixS 45 1 y1 y8 S fun s S=>s=r∧S=S0)∧∃ u:AV,(ld1 r S fun w S=>w=u∧S=S0)∧∃ x:AV,(convI .i64 u S fun y S=>y=x∧S=S0)∧∃ z:AV,(bin .quo 0 x h S fun A S=>A=z∧S=S0)∧∃ B:AV,(bin .rem 0 z h S fun C S=>C=B∧S=S0)∧ldN 2 y6 S fun D S=>callF Pg 30 [D,p,B] S Q fun E S=>extr E 0 S fun F S=>extr E 1 S fun G S=>extr E 2 S fun H S=>boxN 43 2 (.a [.v (.int .i64 0),.nl]) S fun I S=>stN 2 I F S fun J S=>bin .eql 0 H (.v (.int .i64 0)) S fun K S=>onB K fun b=>gd b (∃ L:AV,(∀ T:Store,Keep S T→ldN 2 I T fun M S=>M=L∧S=T)∧∃ N:AV,(∀ T:Store,Keep S T→ixS 45 1 y1 y8 T fun O S=>O=N∧S=T)∧∃ P:AV,(∀ T:Store,Keep S T→ld1 N T fun R S=>R=P∧S=T)∧∃ U:AV,(∀ T:Store,Keep S T→convI .i64 P T fun V S=>V=U∧S=T)∧∃ W:AV,(∀ T:Store,Keep S T→bin .quo 0 U (.v (.int .i64 7)) T fun X S=>X=W∧S=T)∧∃ Y:AV,(∀ T:Store,Keep S T→bin .rem 0 W (.v (.int .i64 2)) T fun Z S=>Z=Y∧S=T)∧∃ a0:AV,(∀ T:Store,Keep S T→bin .xor 0 G Y T fun a1 S=>a1=a0∧S=T)∧stN 2 y6 L S fun a2 S=>(∀ T:Store,Keep S T→bin .xor 0 G Y T fun a3 S=>a3=a0∧S=T)∧(∀ T:Store,Keep S T→bin .rem 0 W (.v (.int .i64 2)) T fun a4 S=>a4=Y∧S=T)∧(∀ T:Store,Keep S T→bin .quo 0 U (.v (.int .i64 7)) T fun a5 S=>a5=W∧S=T)∧(∀ T:Store,Keep S T→convI .i64 P T fun a6 S=>a6=U∧S=T)∧(∀ T:Store,Keep S T→ld1 N T fun a7 S=>a7=P∧S=T)∧(∀ T:Store,Keep S T→ixS 45 1 y1 y8 T fun a8 S=>a8=N∧S=T)∧bin .add 0 y8 (.v (.int .i64 1)) S fun a9 S=>KE0 68 (env14_0 y1 y4 y6 a0 a9) S) (bin .add 0 y8 (.v (.int .i64 1)) S fun b0 S=>KE0 68 (env14_0 y1 y4 y6 y7 b0) S)) S) (ldN 2 y6 S fun b1 S=>stN 2 y4 b1 S fun b2 S=>ldN 2 y4 S fun b3 _=>Q (.ret (.t [b3,y7])) S)) (ldN 2 y6 S fun b4 S=>stN 2 y4 b4 S fun b5 S=>ldN 2 y4 S fun b6 _=>Q (.ret (.t [b6,y7])) S)
theorem b14_0_eq(y1 y4 y6 y7 y8:AV)(S:Store)(KE0:KeT)(Q:PoT):vc Pg (c14.at_ [1,1,1,0,1,0,0]) (ms14.drop 1) (mkE 68 lv14_0 (env14_0 y1 y4 y6 y7 y8)) S (thenK (fgK lv14_0 KE0) (blockK 0 (seqK (vc Pg (c14.at_ [1,1,1,1]) (ms14.drop 1)) (bodyK Pg r14 Q))))=b14_0 y1 y4 y6 y7 y8 S KE0 Q:=by kernel_rfl
theorem loop14_0{y1 y4 y6:AV}{y70 y80:AV}{S:Store}{Q:PoT}(I:AV→AV→Store→Prop)(μ:AV→AV→Store→Nat)(h0:I y70 y80 S)
    (hr:∀(y7 y8:AV) (S:Store),I y7 y8 S→∀ KE0:KeT,(∀(y7' y8':AV) (S':Store),I y7' y8' S'→μ y7' y8' S'<μ y7 y8 S→KE0 68 (env14_0 y1 y4 y6 y7' y8') S')→b14_0 y1 y4 y6 y7 y8 S KE0 Q):
    loopV lv14_0 (vc Pg (c14.at_ [1,1,1,0,1,0,0]) (ms14.drop 1)) 68 (env14_0 y1 y4 y6 y70 y80) S (blockK 0 (seqK (vc Pg (c14.at_ [1,1,1,1]) (ms14.drop 1)) (bodyK Pg r14 Q))):=by
 refine⟨fun n e S=>n=68∧∃ y7 y8:AV,e=(env14_0 y1 y4 y6 y7 y8)∧I y7 y8 S,fun _ e S=>μ (e.getD 3 .j) (e.getD 4 .j) S,?_,?_⟩
 ·exact⟨_,_,Wk.refl _ _,rfl,_,_,rfl,h0⟩
 ·rintro _ e S ⟨rfl,y7,y8,rfl,hI⟩
  exact(b14_0_eq _ _ _ _ _ _ _ _).mpr (hr y7 y8 S hI _ (fun y7' y8' S' hI' hm=>⟨_,_,Wk.refl _ _,⟨rfl,_,_,rfl,hI'⟩,hm⟩))
end
theorem frz_none(S:Store):S.frz (fun _=>false)=S:=by
 cases S with
 |mk n obj =>
  unfold Store.frz
  congr 1
  funext i
  cases h:obj i with
  |none=>simp[h]
  |some o=>simp[h,frz_id]
theorem ansAt_cv{P:Program}{f:FuncId}{args args2:List AV}{S:Store}{r:AV}(hl:args.length=args2.length)(hcv:∀(k:Nat) (u u2:AV),args[k]? = some u→args2[k]? = some u2→Cv S S.n u u2)(h:AnsAt P f args2 S r):AnsAt P f args S r:=by
 refine ACalls.frz (fun _=>false) hl ?_ ?_
 ·rw[frz_none];exact hcv
 ·rw[frz_none];exact h
theorem at14{n:Int}(h0:0≤n)(hn:n≤1000){l:List Int}(hl:∀ x∈l,0≤x∧x<65536)(hlen:l.length≤1000000){S:Store}{x1:AV}(hx1:∀(T:Store) (K:AV→Store→Prop),lenS x1 T K=K (aI l.length) T)
    {P:Nat→AV} (hP:∀ T,Keep S T→∀ i (h:i<l.length),(∀ K:AV→Store→Prop,ixS 45 1 x1 (aI i) T K=K (P i) T)∧∀ K:AV→Store→Prop,ld1 (P i) T K=K (aW16 l[i]) T):
    AnsAt Pg 14 [aI n,x1] S (.t [(madeTo n l (min l.length 40)).1.av,aI (madeTo n l (min l.length 40)).2]):=by
 refine ACalls.tree (calls14 ?_)
 unfold m14
 have hok:=madeTo_ok (n:=n) ⟨by omega,by omega⟩ hl h0
 have hin:=madeTo_inp n l
 refine boxA_of rfl fun S1 k1 n1 o1=>?_
 rw[bld_of (cs:=[aI n,.nl]) rfl]
 refine boxA_of rfl fun S2 k2 n2 o2=>?_
 refine stA_of o2 rfl rfl fun S3 n3 o3 f3=>?_
 have k3:Keep S S3:=(k1.trans k2).st (by omega) n3 f3
 refine loop14_0 (fun y w S'=>Keep S S'∧S3.n≤S'.n∧S'.obj S.n=some (.cells 43 [[aI 0,.nl]] true)∧∃ i:Nat,w=aI i∧i≤min l.length 40∧y=aI (madeTo n l i).2∧
     (((madeTo n l i).1=⟨n,[]⟩∧S'.obj S1.n=some (.cells 43 [[aI n,.nl]] true))∨S'.obj S1.n=some (.cells 43 [(madeTo n l i).1.cells] true)))
  (fun _ w _=>40 - ((intA w).getD 0).toNat) ⟨k3,Nat.le_refl _,(f3 _ (by omega)).trans ((k2.2 _ (by omega)).trans o1),0,rfl,Nat.zero_le _,rfl,.inl ⟨rfl,o3⟩⟩ ?_
 rintro _ _ S4 ⟨k4,n4,p4,i,rfl,hi,rfl,hg⟩ KE hKE
 have hk3:=k3.1
 obtain⟨cs,hcs,hcl,hcv⟩:∃ cs,S4.obj S1.n=some (.cells 43 [cs] true)∧cs.length=2∧∀(T:Store) (m:Nat),Cv T m (.a cs) (madeTo n l i).1.av:=by
  rcases hg with⟨e,h⟩|h
  ·exact⟨_,h,rfl,fun T m=>by rw[e];exact cv_a2 (.v _) .nl⟩
  ·exact⟨_,h,rfl,fun T m=>Gr.tree _ _ _⟩
 have hgi:=hin i
 have hgo:=hok i
 have hlen2:=hgo.len
 have fin:i=min l.length 40→ldN 2 (.p S1.n 0 0) S4 fun v S5=>stN 2 (.p S.n 0 0) v S5 fun _ S5=>ldN 2 (.p S.n 0 0) S5 fun v S6=>∃ r,AEnd.ret (.t [v,aI (madeTo n l i).2]) = .ret r∧Keep S S6∧Cv (S6.frz (newer S.n)) S.n r (.t [(madeTo n l (min l.length 40)).1.av,aI (madeTo n l (min l.length 40)).2]):=fun e=>by
  rw[ldN_p (n:=2) hcs hcl]
  refine stA_of p4 hcl rfl fun S5 n5 o5 f5=>?_
  rw[ldN_p (n:=2) o5 hcl]
  exact⟨_,rfl,k4.st (Nat.le_refl _) n5 f5,by rw[←e];exact cv_t2 (hcv _ _) (.v _)⟩
 unfold b14_0
 rw[hx1,bin_lss,onB_v]
 refine gd_of (fun hlt=>?_) (fun hge=>fin (by have:=dF hge;omega))
 rw[bin_lss,onB_v]
 refine gd_of (fun h40=>?_) (fun hge=>fin (by have:¬ ((i:Int)<40):=dF hge;omega))
 have hlt:i<l.length:=by have:=dT hlt;omega
 have h40:i<40:=by have:((i:Int)<40):=dT h40;omega
 obtain⟨hP1,hP2⟩:=hP S4 k4 i hlt
 have hx:=hl _ (List.getElem_mem hlt)
 have hgd:l.getD i 0=l[i]:=by simp[List.getD_eq_getElem?_getD,hlt]
 have hv:0<2*(madeTo n l i).1.vars:=by unfold Gr.vars;omega
 have hv2:(madeTo n l i).1.vars≤1002000:=by unfold Gr.vars;omega
 have hd:0≤l[i].tdiv (2*(madeTo n l i).1.vars)∧l[i].tdiv (2*(madeTo n l i).1.vars)≤65536:=by
  rw[Int.tdiv_eq_ediv_of_nonneg hx.1]
  have h1:=Int.ediv_nonneg hx.1 (show 0≤2*(madeTo n l i).1.vars by omega)
  have h2:=Int.ediv_le_self (2*(madeTo n l i).1.vars) hx.1
  omega
 have ha:=rem_small hx.1 (by omega) hv
 have hb:=rem_small hd.1 hd.2 hv
 have cv1:∀(T:Store) (k:Nat) (u u2:AV),[AV.a cs][k]? = some u→[(madeTo n l i).1.av][k]? = some u2→Cv T T.n u u2:=fun T k u u2 hu hu2=>by
  match k with
  |0=>cases hu;cases hu2;exact hcv _ _
  |k+1=>simp at hu
 rw[ldN_p (n:=2) hcs hcl]
 have hva:AnsAt Pg 15 [.a cs] S4 (aI (madeTo n l i).1.vars):=ansAt_cv (args2:=[(madeTo n l i).1.av]) rfl (cv1 S4) (ans15 hgo (by omega) (by omega) S4)
 refine callF_at hva ?_
 rw[bin_mul (by omega) (by omega)]
 show ∃ q13:AV,_
 refine⟨_,by rw[hP1];exact⟨rfl,rfl⟩,?_⟩
 refine⟨_,by rw[hP2];exact⟨rfl,rfl⟩,?_⟩
 refine⟨aI l[i],by rw[convI_64 _ (by omega) (by omega)];exact⟨rfl,rfl⟩,?_⟩
 refine⟨aI (l[i].tmod (2*(madeTo n l i).1.vars)),by rw[bin_rem (by omega)];exact⟨rfl,rfl⟩,?_⟩
 refine⟨_,by rw[hP1];exact⟨rfl,rfl⟩,?_⟩
 refine⟨_,by rw[hP2];exact⟨rfl,rfl⟩,?_⟩
 refine⟨aI l[i],by rw[convI_64 _ (by omega) (by omega)];exact⟨rfl,rfl⟩,?_⟩
 refine⟨aI (l[i].tdiv (2*(madeTo n l i).1.vars)),by rw[bin_quo (by omega) (by omega) (by omega)];exact⟨rfl,rfl⟩,?_⟩
 refine⟨aI ((l[i].tdiv (2*(madeTo n l i).1.vars)).tmod (2*(madeTo n l i).1.vars)),by rw[bin_rem (by omega)];exact⟨rfl,rfl⟩,?_⟩
 have hand:AnsAt Pg 30 [.a cs,aI (l[i].tmod (2*(madeTo n l i).1.vars)),aI ((l[i].tdiv (2*(madeTo n l i).1.vars)).tmod (2*(madeTo n l i).1.vars))] S4 (andAV ((madeTo n l i).1.and (l[i].tmod (2*(madeTo n l i).1.vars)) ((l[i].tdiv (2*(madeTo n l i).1.vars)).tmod (2*(madeTo n l i).1.vars)))):=
  ansAt_cv (args2:=[(madeTo n l i).1.av,aI (l[i].tmod (2*(madeTo n l i).1.vars)),aI ((l[i].tdiv (2*(madeTo n l i).1.vars)).tmod (2*(madeTo n l i).1.vars))]) rfl (fun k u u2 hu hu2=>by
   match k with
   |0=>cases hu;cases hu2;exact hcv _ _
   |1|2=>cases hu;cases hu2;exact .v _
   |k+3=>simp at hu) (ans30 hgo ⟨by omega,by omega⟩ ⟨by omega,by omega⟩ S4)
 rw[ldN_p (n:=2) hcs hcl]
 refine callF_at hand ?_
 have hs:madeTo n l (i+1)=madeS (madeTo n l i).1 (madeTo n l i).2 l[i]:=by rw[madeTo,hgd]
 simp only[madeS]at hs
 generalize(madeTo n l i).1.and (l[i].tmod (2*(madeTo n l i).1.vars)) ((l[i].tdiv (2*(madeTo n l i).1.vars)).tmod (2*(madeTo n l i).1.vars))=r at *
 unfold andAV
 rw[extr0,extr1,extr2]
 refine boxA_of rfl fun S5 k5 n5 o5=>?_
 refine stA_of o5 rfl rfl fun S6 n6 o6 f6=>?_
 have k6:Keep S4 S6:=k5.st (Nat.le_refl _) n6 f6
 have p6:=(k6.2 _ (by omega)).trans p4
 have c6:=(k6.2 S1.n (by omega)).trans hcs
 have hadd:∀ K:AV→Store→Prop,∀ S,bin .add 0 (.v (.int .i64 (i:Int))) (.v (.int .i64 1)) S K=K (aI (i+1:Nat)) S:=fun K S=>bin_add (by omega) (by omega) 0
 have hμ:40 - ((intA (aI (i+1:Nat))).getD 0).toNat<40 - ((intA (aI i)).getD 0).toNat:=by simp[intA];omega
 rw[bin_eql,onB_v]
 refine gd_of (fun h=>?_) (fun h=>?_)
 ·have h:r.2.2=0:=dT h
  simp only[h,if_true]at hs
  have qq:0≤l[i].tdiv 7∧l[i].tdiv 7≤65536:=by
   rw[Int.tdiv_eq_ediv_of_nonneg hx.1];omega
  have e1:∀(T:Store) (K:AV→Store→Prop),convI .i64 (aW16 l[i]) T K=K (aI l[i]) T:=fun T K=>convI_64 _ (by omega) (by omega)
  have e2:∀(T:Store) (K:AV→Store→Prop),bin .quo 0 (aI l[i]) (.v (.int .i64 7)) T K=K (aI (l[i].tdiv 7)) T:=fun T K=>bin_quo (by decide) (by omega) (by omega) 0
  have e3:∀(T:Store) (K:AV→Store→Prop),bin .rem 0 (aI (l[i].tdiv 7)) (.v (.int .i64 2)) T K=K (aI ((l[i].tdiv 7).tmod 2)) T:=fun T K=>bin_rem (by decide) _ 0
  have pT:∀{T:Store},Keep S T→_:=fun{T} hT=>hP T hT i hlt
  refine⟨.a r.1.cells,fun T hT=>by rw[ldN_p (n:=2) ((hT.2 _ (by omega)).trans o6) rfl];exact⟨rfl,rfl⟩,P i,fun T hT=>by rw[(pT ((k4.trans k6).trans hT)).1];exact⟨rfl,rfl⟩,_,fun T hT=>by rw[(pT ((k4.trans k6).trans hT)).2];exact⟨rfl,rfl⟩,_,fun T hT=>by rw[e1];exact⟨rfl,rfl⟩,_,fun T hT=>by rw[e2];exact⟨rfl,rfl⟩,_,fun T hT=>by rw[e3];exact⟨rfl,rfl⟩,_,fun T hT=>by rw[bin_xor];exact⟨rfl,rfl⟩,?_⟩
  refine stA_of c6 rfl hcl fun S7 n7 o7 f7=>?_
  have k7:Keep S S7:=(k4.trans k6).st (by omega) n7 f7
  refine⟨fun T hT=>by rw[bin_xor];exact⟨rfl,rfl⟩,fun T hT=>by rw[e3];exact⟨rfl,rfl⟩,fun T hT=>by rw[e2];exact⟨rfl,rfl⟩,fun T hT=>by rw[e1];exact⟨rfl,rfl⟩,fun T hT=>by rw[(pT (k7.trans hT)).2];exact⟨rfl,rfl⟩,fun T hT=>by rw[(pT (k7.trans hT)).1];exact⟨rfl,rfl⟩,?_⟩
  rw[hadd]
  exact hKE _ _ _ ⟨k7,by have:=k6.1;omega,(f7 _ (by omega)).trans p6,i+1,rfl,by omega,by rw[hs],.inr (by rw[hs];exact o7)⟩ hμ
 ·have h:¬ r.2.2=0:=dF h
  simp only[h,if_false]at hs
  rw[hadd]
  refine hKE _ _ _ ⟨k4.trans k6,by have:=k6.1;omega,p6,i+1,rfl,by omega,by rw[hs],?_⟩ hμ
  rcases hg with⟨e,h'⟩|h'
  ·exact .inl ⟨by rw[hs];exact e,(k6.2 S1.n (by omega)).trans h'⟩
  ·exact .inr (by rw[hs];exact(k6.2 S1.n (by omega)).trans h')
theorem pickV_rng{l:List Int}(hl:∀ x∈l,0≤x∧x<65536){k:Nat}{n:Int}(hn:0<n):0≤pickV l k n∧pickV l k n<n:=by
 unfold pickV
 split
 ·omega
 ·rename_i h
  have hlt:k<l.length:=by omega
  have hx:=hl _ (List.getElem_mem hlt)
  rw[show l.getD k 0=l[k]by simp[List.getD_eq_getElem?_getD,hlt],Int.tmod_eq_emod_of_nonneg hx.1]
  exact⟨Int.emod_nonneg _ (by omega),Int.emod_lt_of_pos _ hn⟩
structure Fm (S:Store) (l:List Int) (S':Store) (k:Nat) (cs:List AV):Prop where
 keep:Keep S S'
 n:S.n+4≤S'.n
 lo:S'.obj S.n=some (.cells 22 [[aL aW16 l]] true)
 ro:S'.obj (S.n+1)=some (.cells 29 [[aI 0,.nl,.nl,.nl,.nl,.nl,.nl,.nl]] true)
 ao:S'.obj (S.n+2)=some (.cells 3 [[aI k]] true)
 co:S'.obj (S.n+3)=some (.cells 29 [cs] true)
abbrev pickF(S:Store):AV:=.f (.func 13) [] [.p (S.n+2) 0 0,.p S.n 0 0]
theorem Fm.old{S S' S'':Store}{l:List Int}{k:Nat}{cs:List AV}(h:Fm S l S' k cs)(hn:S'.n≤S''.n)(ho:∀ x,x<S.n+4→S''.obj x=S'.obj x):Fm S l S'' k cs:=
 ⟨⟨by have:=h.keep.1;omega,fun x hx=>(ho x (by omega)).trans (h.keep.2 x hx)⟩,by have:=h.n;omega,(ho _ (by omega)).trans h.lo,(ho _ (by omega)).trans h.ro,(ho _ (by omega)).trans h.ao,(ho _ (by omega)).trans h.co⟩
theorem Fm.pick{S S':Store}{l:List Int}{k:Nat}{cs:List AV}(h:Fm S l S' k cs)(hl:∀ x∈l,0≤x∧x<65536){n:Int}(hn:0<n)(hk:k≤1000){K X:AV→Store→Prop}
    (kk:∀ S'',Fm S l S'' (k+1) cs→S''.n=S'.n→(∀ x,x≠S.n+2→S''.obj x=S'.obj x)→K (aI (pickV l k n)) S''):callV Pg (pickF S) [aI n] S' K X:=by
 refine .inl (pick_of h.ao h.lo (by omega) hl hn (by omega) fun S'' n2 o2 f2=>kk S'' ⟨⟨by have:=h.keep.1;omega,fun x hx=>(f2 x (by omega)).trans (h.keep.2 x hx)⟩,by have:=h.n;omega,(f2 _ (by omega)).trans h.lo,(f2 _ (by omega)).trans h.ro,o2,(f2 _ (by omega)).trans h.co⟩ n2 f2)
theorem Fm.st{S S':Store}{l:List Int}{k j:Nat}{cs:List AV}{u:AV}(h:Fm S l S' k cs)(hj:j<cs.length)(hu:u.one=true){K:AV→Store→Prop}
    (kk:∀ S'',Fm S l S'' k (cs.set j u)→S''.n=S'.n→(∀ x,x≠S.n+3→S''.obj x=S'.obj x)→K .j S''):stN 1 (.p (S.n+3) 0 j) u S' K:=
 stF_of h.co hj hu fun S'' n2 o2 f2=>kk S'' ⟨⟨by have:=h.keep.1;omega,fun x hx=>(f2 x (by omega)).trans (h.keep.2 x hx)⟩,by have:=h.n;omega,(f2 _ (by omega)).trans h.lo,(f2 _ (by omega)).trans h.ro,(f2 _ (by omega)).trans h.ao,o2⟩ n2 f2
theorem Fm.kT{S S' T:Store}{l:List Int}{k:Nat}{cs:List AV}(h:Fm S l S' k cs)(hT:Keep S' T):T.obj (S.n+3)=some (.cells 29 [cs] true):=(hT.2 _ (by have:=h.n;omega)).trans h.co
theorem Fm.wk{S S':Store}{l:List Int}{k:Nat}{cs cs2:List AV}(h:Fm S l S' k cs)(hl:cs.length=cs2.length)(hc:∀(k:Nat) (u u2:AV),cs[k]? = some u→cs2[k]? = some u2→Cv (S'.frz (newer (S.n+4))) S'.n u u2)(ls:List AV):
    ∃ S'',Wk S' ls S'' ls∧Fm S l S'' k cs2∧S''.n=S'.n:=by
 refine⟨_,Wk.row (newer (S.n+4)) h.co (by simp[newer]) (es2:=[cs2]) ⟨rfl,fun i c1 c2 e1 e2=>?_⟩,?_,rfl⟩
 ·match i with
  |0=>cases e1;cases e2;exact⟨hl,hc⟩
  |i+1=>simp at e1
 ·have hlow:∀ x,x<S.n+4→x≠S.n+3→(S'.tell (newer (S.n+4)) (S.n+3) (.cells 29 [cs2] true)).obj x=S'.obj x:=fun x hx hne=>tell_ne hne (by simp[newer];omega)
  exact⟨⟨h.keep.1,fun x hx=>(hlow x (by omega) (by omega)).trans (h.keep.2 x hx)⟩,h.n,(hlow _ (by omega) (by omega)).trans h.lo,(hlow _ (by omega) (by omega)).trans h.ro,(hlow _ (by omega) (by omega)).trans h.ao,tell_id⟩
theorem bsl3{e:Nat}{z u v w:AV}{S:Store}{K:AV→Store→Prop}(hu:u.one=true)(hv:v.one=true)(hw:w.one=true)(k:K (.l [[u],[v],[w]]) S):bslN e 1 3 [z] [(0,u),(1,v),(2,w)] S K:=by
 refine⟨[u,v,w],?_,.inr ?_⟩
 ·simp[fillA,cells_of_one hu,cells_of_one hv,cells_of_one hw,spl,List.range_succ]
 ·simpa[chunks,List.range_succ]using k
theorem bslA3{e:Nat}{z1 z2 z3 u v w:AV}{S:Store}{K:AV→Store→Prop}(k:K (.l [[u,v,w]]) S):bslN e 3 1 [z1,z2,z3] [(0,.a [u,v,w])] S K:=by
 refine⟨[u,v,w],?_,.inr ?_⟩
 ·simp[fillA,cellsOf,spl]
 ·simpa[chunks]using k
theorem own_one{n:Nat}{S:Store}{x:AV}{e:Nat}{es:List (List AV)}(h:Own n S x e es):x.one=true:=by rcases h with⟨rfl,_⟩|⟨id,rfl,_⟩<;>rfl
theorem wrap16{x:Int}(h0:0≤x)(h1:x<65536):IntKind.u16.wrap x=x:=by rw[IntKind.wrap_u16];omega
theorem _root_.Go.Ab.Own.fm{S S' S'':Store}{x:AV}{e:Nat}{es:List (List AV)}{id:Nat}(h:Own (S.n+4) S' x e es)(hid:id<S.n+4)(hn:S''.n=S'.n)(ho:∀ y,y≠id→S''.obj y=S'.obj y):Own (S.n+4) S'' x e es:=
 h.st (id:=id) (fun b m e=>by have:=h.lt e;omega) hn ho
theorem own_cvP{n:Nat}{S:Store}{x:AV}{e:Nat}{l:List (Int × Int)}{F:Nat→Bool}{k:Nat}(h:Own n S x e (l.map fun p=>[aI p.1,aI p.2]))(hF:∀ i b m,x = .s i b m→F i=true):Cv (S.frz F) k x (pL l):=by
 rcases h with⟨rfl,h⟩|⟨id,rfl,h1,h2,h3⟩
 ·have:l = []:=List.map_eq_nil_iff.1 h
  subst this
  exact .nl
 ·refine .s id 0 _ e _ _ (by rw[frz_of h3,hF id _ _ rfl];rfl) (by simp) (by simp) (fun i c c2 hi hi2=>?_) (fun i c c2 k u u2 hi hi2 hk hk2=>?_)
  ·rw[Nat.zero_add]at hi;rw[hi]at hi2;cases hi2;rfl
  ·rw[Nat.zero_add]at hi;rw[hi]at hi2;cases hi2
   rw[hk]at hk2;cases hk2
   rw[List.getElem?_map]at hi
   obtain⟨a,_,rfl⟩:=Option.map_eq_some_iff.1 hi
   match k with
   |0=>cases hk;exact .v _
   |1=>cases hk;exact .v _
   |k+2=>simp at hk
theorem own_cvI{n:Nat}{S:Store}{x:AV}{e:Nat}{l:List Int}{F:Nat→Bool}{k:Nat}(h:Own n S x e (l.map fun p=>[aI p]))(hF:∀ i b m,x = .s i b m→F i=true):Cv (S.frz F) k x (aL aI l):=by
 rcases h with⟨rfl,h⟩|⟨id,rfl,h1,h2,h3⟩
 ·have:l = []:=List.map_eq_nil_iff.1 h
  subst this
  exact .nl
 ·refine .s id 0 _ e _ _ (by rw[frz_of h3,hF id _ _ rfl];rfl) (by simp) (by simp) (fun i c c2 hi hi2=>?_) (fun i c c2 k u u2 hi hi2 hk hk2=>?_)
  ·rw[Nat.zero_add]at hi;rw[hi]at hi2;cases hi2;rfl
  ·rw[Nat.zero_add]at hi;rw[hi]at hi2;cases hi2
   rw[hk]at hk2;cases hk2
   rw[List.getElem?_map]at hi
   obtain⟨a,_,rfl⟩:=Option.map_eq_some_iff.1 hi
   match k with
   |0=>cases hk;exact .v _
   |k+1=>simp at hk
theorem own_cvN{n:Nat}{S:Store}{x:AV}{e:Nat}{l:List Na}{F:Nat→Bool}{k:Nat}(h:Own n S x e (l.map Na.row))(hF:∀ i b m,x = .s i b m→F i=true):Cv (S.frz F) k x (nL l):=by
 rcases h with⟨rfl,h⟩|⟨id,rfl,h1,h2,h3⟩
 ·have:l = []:=List.map_eq_nil_iff.1 h
  subst this
  exact .nl
 ·refine .s id 0 _ e _ _ (by rw[frz_of h3,hF id _ _ rfl];rfl) (by simp) (by simp) (fun i c c2 hi hi2=>?_) (fun i c c2 k u u2 hi hi2 hk hk2=>?_)
  ·rw[Nat.zero_add]at hi;rw[hi]at hi2;cases hi2;rfl
  ·rw[Nat.zero_add]at hi;rw[hi]at hi2;cases hi2
   rw[hk]at hk2;cases hk2
   rw[List.getElem?_map]at hi
   obtain⟨a,_,rfl⟩:=Option.map_eq_some_iff.1 hi
   unfold Na.row at hk
   match k with
   |0=>cases hk;exact .v _
   |1=>cases hk;exact .v _
   |2=>cases hk;exact .v _
   |k+3=>simp at hk
theorem _root_.Go.Ab.Own.fF{n:Nat}{S:Store}{x:AV}{e:Nat}{es:List (List AV)}(h:Own n S x e es){m:Nat}(hm:m≤n):∀ i b k,x = .s i b k→newer m i=true:=fun i b k e=>by
 have:=h.lt e
 simp[newer];omega
end
end Go.Proofs.YtmpjhihpcaephaaDoor.G

/- Circuit -/
import Derived.Test.YtmpjhihpcaephaaGreatDoorProg
import Derived.KernelRfl
import Derived.Shelf.Strconv.ErrVarAll
import Derived.Shelf.Strconv.Itoa3
import Derived.Shelf.Strings.Search3
import Derived.Lib.AppendIntMem
import Derived.Lib.AtoiTie
import Derived.Lib.ItoaMem
import Derived.Test.YtmpjhihpcaephaaGreatDoorCwT2
set_option linter.unusedVariables false
set_option linter.unusedSimpArgs false
namespace Go.Proofs.YtmpjhihpcaephaaGreatDoor.G
open Go Go.Ab
noncomputable section
section
set_option maxRecDepth 100000
abbrev Pg : Program := Tryz.prog
theorem dT{p:Prop}[Decidable p]:decide p=true→p:=of_decide_eq_true
theorem dF{p:Prop}[Decidable p]:decide p=false→¬p:=of_decide_eq_false
theorem gSm{α:Type}{l:List α}{i:Nat}{a:α}:l[i]?=some a↔∃ h:i<l.length,l[i]=a:=List.getElem?_eq_some_iff
def c29:Code:=(Tryz.f29.body).getD .skip
def r29:List ResultVar:=Tryz.f29.results.toList
def env29_0(y2 y3 y5:AV):List AV:=[y2,y3,y5]
def lv29_0:List Nat:=[2,3,5]
def ms29:List (List Nat):=[lv29_0,[]]
def m29(x0 x1:AV)(S:Store)(Q:PoT):Prop:=
 boxN 56 2 x0 S fun a S=>boxN 56 2 x1 S fun c S=>shift a 0 S fun d S=>ld1 d S fun e S=>shift c 0 S fun f S=>ld1 f S fun g S=>bin .neq 0 e g S fun h S=>onB h fun b=>gd b (Q (.ret (.v (.bool false))) S) (shift a 1 S fun i S=>ld1 i S fun k S=>lenS k S fun l S=>shift c 1 S fun m S=>ld1 m S fun n S=>lenS n S fun o S=>bin .neq 0 l o S fun p S=>onB p fun b=>gd b (Q (.ret (.v (.bool false))) S) (loopV lv29_0 (vc Pg (c29.at_ [1,1,0,1,0,0]) (ms29.drop 1)) 38 (env29_0 a c (.v (.int .i64 0))) S (blockK 0 (seqK (vc Pg (c29.at_ [1,1,1]) (ms29.drop 1)) (bodyK Pg r29 Q)))))
theorem calls29{x0 x1:AV}{S:Store}{Q:PoT}(h:m29 x0 x1 S Q):ACalls Pg 29 [x0,x1] S Q:=
 calls_of_vc (fn:=Tryz.f29) (c:=c29) (n:=38) Tryz.func29 (by kernel_rfl) (by kernel_rfl) (by kernel_rfl) ms29 (Eq.mpr (by kernel_rfl) h)
def b29_0(y2 y3 y5:AV)(S:Store)(KE0:KeT)(Q:PoT):Prop:=
 shift y2 1 S fun a S=>ld1 a S fun c S=>lenS c S fun d S=>bin .lss 0 y5 d S fun e S=>onB e fun b=>gd b ((fun S0:Store=>∃ f:AV,(shift y2 1 S fun g S=>g=f∧S=S0)∧∃ h:AV,(ld1 f S fun i S=>i=h∧S=S0)∧∃ k:AV,(ixS 90 2 h y5 S fun l S=>l=k∧S=S0)∧∃ m:AV,(ldN 2 k S fun n S=>n=m∧S=S0)∧∃ o:AV,(shift y3 1 S fun p S=>p=o∧S=S0)∧∃ q:AV,(ld1 o S fun r S=>r=q∧S=S0)∧∃ s:AV,(ixS 90 2 q y5 S fun t S=>t=s∧S=S0)∧∃ u:AV,(ldN 2 s S fun w S=>w=u∧S=S0)∧∃ x:AV,(binP .i64 .neq m u S fun y S=>y=x∧S=S0)∧onB x fun b=>gd b (Q (.ret (.v (.bool false))) S) (bin .add 0 y5 (.v (.int .i64 1)) S fun z S=>KE0 38 (env29_0 y2 y3 z) S)) S) (Q (.ret (.v (.bool true))) S)
theorem b29_0_eq(y2 y3 y5:AV)(S:Store)(KE0:KeT)(Q:PoT):vc Pg (c29.at_ [1,1,0,1,0,0]) (ms29.drop 1) (mkE 38 lv29_0 (env29_0 y2 y3 y5)) S (thenK (fgK lv29_0 KE0) (blockK 0 (seqK (vc Pg (c29.at_ [1,1,1]) (ms29.drop 1)) (bodyK Pg r29 Q))))=b29_0 y2 y3 y5 S KE0 Q:=by kernel_rfl
theorem loop29_0{y2 y3:AV}{y50:AV}{S:Store}{Q:PoT}(I:AV→Store→Prop)(μ:AV→Store→Nat)(h0:I y50 S)
    (hr:∀(y5:AV) (S:Store),I y5 S→∀ KE0:KeT,(∀(y5':AV) (S':Store),I y5' S'→μ y5' S'<μ y5 S→KE0 38 (env29_0 y2 y3 y5') S')→b29_0 y2 y3 y5 S KE0 Q):
    loopV lv29_0 (vc Pg (c29.at_ [1,1,0,1,0,0]) (ms29.drop 1)) 38 (env29_0 y2 y3 y50) S (blockK 0 (seqK (vc Pg (c29.at_ [1,1,1]) (ms29.drop 1)) (bodyK Pg r29 Q))):=by
 refine⟨fun n e S=>n=38∧∃ y5:AV,e=(env29_0 y2 y3 y5)∧I y5 S,fun _ e S=>μ (e.getD 2 .j) S,?_,?_⟩
 ·exact⟨_,_,Wk.refl _ _,rfl,_,rfl,h0⟩
 ·rintro _ e S ⟨rfl,y5,rfl,hI⟩
  exact(b29_0_eq _ _ _ _ _ _).mpr (hr y5 S hI _ (fun y5' S' hI' hm=>⟨_,_,Wk.refl _ _,⟨rfl,_,rfl,hI'⟩,hm⟩))
def c9:Code:=(Tryz.f9.body).getD .skip
def ms9:List (List Nat):=[[]]
def m9(x0 x1 x2 x3 x4 x5:AV)(S:Store)(Q:PoT):Prop:=
 boxN 29 8 x0 S fun a S=>(fun S0:Store=>∃ c:AV,(ldN 8 a S0 fun d S=>d=c∧S=S0)∧∃ e:AV,(callF Pg 22 [c] S0 (fun _ _=>False) fun f S=>f=e∧S=S0)∧∃ g:AV,(ldN 8 a S0 fun h S=>h=g∧S=S0)∧∃ i:AV,(callF Pg 28 [g] S0 (fun _ _=>False) fun k S=>k=i∧S=S0)∧∃ l:AV,(bin .eql 1 e i S0 fun m S=>m=l∧S=S0)∧∃ t12:Bool,wantT l true=some t12∧∃ n:AV,gd t12 (ldN 8 a S0 fun o S=>o=n∧S=S0) (n = .v undef)∧∃ t15:Bool,wantT l true=some t15∧∃ p:AV,gd t15 (callF Pg 23 [n] S0 (fun _ _=>False) fun q S=>q=p∧S=S0) (p = .v undef)∧∃ t18:Bool,wantT l true=some t18∧∃ r:AV,gd t18 (ldN 8 a S0 fun s S=>s=r∧S=S0) (r = .v undef)∧∃ t21:Bool,wantT l true=some t21∧∃ t:AV,gd t21 (callF Pg 30 [r] S0 (fun _ _=>False) fun u S=>u=t∧S=S0) (t = .v undef)∧∃ t24:Bool,wantT l true=some t24∧∃ w:AV,gd t24 (callF Pg 29 [p,t] S0 (fun _ _=>False) fun x S=>x=w∧S=S0) (w = .v undef)∧∃ y:AV,(pick l w (.v (.bool false)) S0 fun z S=>z=y∧S=S0)∧∃ t29:Bool,wantT y true=some t29∧∃ A:AV,gd t29 (ldN 8 a S0 fun B S=>B=A∧S=S0) (A = .v undef)∧∃ t32:Bool,wantT y true=some t32∧∃ C:AV,gd t32 (C=x1) (C = .v undef)∧∃ t34:Bool,wantT y true=some t34∧∃ D:AV,gd t34 (D=x2) (D = .v undef)∧∃ t36:Bool,wantT y true=some t36∧∃ E:AV,gd t36 (callF Pg 24 [A,C,D] S0 (fun _ _=>False) fun F S=>F=E∧S=S0) (E = .v undef)∧∃ t39:Bool,wantT y true=some t39∧∃ G:AV,gd t39 (ldN 8 a S0 fun H S=>H=G∧S=S0) (G = .v undef)∧∃ t42:Bool,wantT y true=some t42∧∃ I:AV,gd t42 (I=x1) (I = .v undef)∧∃ t44:Bool,wantT y true=some t44∧∃ J:AV,gd t44 (J=x2) (J = .v undef)∧∃ t46:Bool,wantT y true=some t46∧∃ K:AV,gd t46 (callF Pg 31 [G,I,J] S0 (fun _ _=>False) fun L S=>L=K∧S=S0) (K = .v undef)∧∃ t49:Bool,wantT y true=some t49∧∃ M:AV,gd t49 (bin .eql 0 E K S0 fun N S=>N=M∧S=S0) (M = .v undef)∧∃ O:AV,(pick y M (.v (.bool false)) S0 fun P S=>P=O∧S=S0)∧∃ t54:Bool,wantT O true=some t54∧∃ R:AV,gd t54 (ldN 8 a S0 fun T S=>T=R∧S=S0) (R = .v undef)∧∃ t57:Bool,wantT O true=some t57∧∃ U:AV,gd t57 (U=x3) (U = .v undef)∧∃ t59:Bool,wantT O true=some t59∧∃ V:AV,gd t59 (callF Pg 25 [R,U] S0 (fun _ _=>False) fun W S=>W=V∧S=S0) (V = .v undef)∧∃ t62:Bool,wantT O true=some t62∧∃ X:AV,gd t62 (ldN 8 a S0 fun Y S=>Y=X∧S=S0) (X = .v undef)∧∃ t65:Bool,wantT O true=some t65∧∃ Z:AV,gd t65 (Z=x3) (Z = .v undef)∧∃ t67:Bool,wantT O true=some t67∧∃ a0:AV,gd t67 (callF Pg 32 [X,Z] S0 (fun _ _=>False) fun a1 S=>a1=a0∧S=S0) (a0 = .v undef)∧∃ t70:Bool,wantT O true=some t70∧∃ a2:AV,gd t70 (bin .eql 0 V a0 S0 fun a3 S=>a3=a2∧S=S0) (a2 = .v undef)∧∃ a4:AV,(pick O a2 (.v (.bool false)) S0 fun a5 S=>a5=a4∧S=S0)∧∃ t75:Bool,wantT a4 true=some t75∧∃ a6:AV,gd t75 (ldN 8 a S0 fun a7 S=>a7=a6∧S=S0) (a6 = .v undef)∧∃ t78:Bool,wantT a4 true=some t78∧∃ a8:AV,gd t78 (a8=x4) (a8 = .v undef)∧∃ t80:Bool,wantT a4 true=some t80∧∃ a9:AV,gd t80 (a9=x5) (a9 = .v undef)∧∃ t82:Bool,wantT a4 true=some t82∧∃ b0:AV,gd t82 (callF Pg 26 [a6,a8,a9] S0 (fun _ _=>False) fun b1 S=>b1=b0∧S=S0) (b0 = .v undef)∧∃ t85:Bool,wantT a4 true=some t85∧∃ b2:AV,gd t85 (ldN 8 a S0 fun b3 S=>b3=b2∧S=S0) (b2 = .v undef)∧∃ t88:Bool,wantT a4 true=some t88∧∃ b4:AV,gd t88 (b4=x4) (b4 = .v undef)∧∃ t90:Bool,wantT a4 true=some t90∧∃ b5:AV,gd t90 (b5=x5) (b5 = .v undef)∧∃ t92:Bool,wantT a4 true=some t92∧∃ b6:AV,gd t92 (callF Pg 33 [b2,b4,b5] S0 (fun _ _=>False) fun b7 S=>b7=b6∧S=S0) (b6 = .v undef)∧∃ t95:Bool,wantT a4 true=some t95∧∃ b8:AV,gd t95 (bin .eql 1 b0 b6 S0 fun b9 S=>b9=b8∧S=S0) (b8 = .v undef)∧∃ c0:AV,(pick a4 b8 (.v (.bool false)) S0 fun c1 S=>c1=c0∧S=S0)∧∃ t100:Bool,wantT c0 true=some t100∧∃ c2:AV,gd t100 (ldN 8 a S0 fun c3 S=>c3=c2∧S=S0) (c2 = .v undef)∧∃ t103:Bool,wantT c0 true=some t103∧∃ c4:AV,gd t103 (c4=x4) (c4 = .v undef)∧∃ t105:Bool,wantT c0 true=some t105∧∃ c5:AV,gd t105 (callF Pg 27 [c2,c4] S0 (fun _ _=>False) fun c6 S=>c6=c5∧S=S0) (c5 = .v undef)∧∃ t108:Bool,wantT c0 true=some t108∧∃ c7:AV,gd t108 (ldN 8 a S0 fun c8 S=>c8=c7∧S=S0) (c7 = .v undef)∧∃ t111:Bool,wantT c0 true=some t111∧∃ c9:AV,gd t111 (c9=x4) (c9 = .v undef)∧∃ t113:Bool,wantT c0 true=some t113∧∃ d0:AV,gd t113 (callF Pg 34 [c7,c9] S0 (fun _ _=>False) fun d1 S=>d1=d0∧S=S0) (d0 = .v undef)∧∃ t116:Bool,wantT c0 true=some t116∧∃ d2:AV,gd t116 (bin .eql 0 c5 d0 S0 fun d3 S=>d3=d2∧S=S0) (d2 = .v undef)∧∃ d4:AV,(pick c0 d2 (.v (.bool false)) S0 fun d5 S=>d5=d4∧S=S0)∧(fun S:Store=>Q (.ret d4) S) S0) S
theorem calls9{x0 x1 x2 x3 x4 x5:AV}{S:Store}{Q:PoT}(h:m9 x0 x1 x2 x3 x4 x5 S Q):ACalls Pg 9 [x0,x1,x2,x3,x4,x5] S Q:=
 calls_of_vc (fn:=Tryz.f9) (c:=c9) (n:=65) Tryz.func9 (by kernel_rfl) (by kernel_rfl) (by kernel_rfl) ms9 (Eq.mpr (by kernel_rfl) h)
def c3:Code:=(Tryz.f3.body).getD .skip
def ms3:List (List Nat):=[[]]
def m3(x0 x1 x2:AV)(S:Store)(Q:PoT):Prop:=
 convI .i64 x0 S fun c S=>bin .rem 0 c (.v (.int .i64 20)) S fun d S=>bin .add 0 (.v (.int .i64 50)) d S fun e S=>bld [(0,1),(1,1)] [.v (.int .i64 0),.v (.int .i64 0)] [(0,(.v (.int .i64 3)))] S fun f S=>bld [(0,1),(1,1)] [.v (.int .i64 0),.v (.int .i64 0)] [(0,(.v (.int .i64 4)))] S fun g S=>bslN 23 2 2 [.v (.int .i64 0),.v (.int .i64 0)] [(0,f),(1,g)] S fun h S=>bld [(0,1),(1,1),(2,1),(3,1),(4,1),(5,1),(6,1),(7,1)] [.v (.int .i64 0),.nl,.nl,.nl,.nl,.nl,.nl,.nl] [(0,e),(1,h)] S fun i S=>boxN 29 8 (.a [.v (.int .i64 0),.nl,.nl,.nl,.nl,.nl,.nl,.nl]) S fun k S=>stN 8 k i S fun l S=>callF Pg 8 [] S Q fun m S=>onB m fun b=>gd b (ldN 8 k S fun n S=>convI .i64 x2 S fun o S=>callF Pg 9 [n,.v (.int .u8 108),.v (.int .i64 1),(.v (.string { data:=#[105,52,57] })),x1,o] S Q fun p S=>Q (.ret p) S) (Q (.ret (.v (.bool false))) S)
theorem calls3{x0 x1 x2:AV}{S:Store}{Q:PoT}(h:m3 x0 x1 x2 S Q):ACalls Pg 3 [x0,x1,x2] S Q:=
 calls_of_vc (fn:=Tryz.f3) (c:=c3) (n:=24) Tryz.func3 (by kernel_rfl) (by kernel_rfl) (by kernel_rfl) ms3 (Eq.mpr (by kernel_rfl) h)
def c8:Code:=(Tryz.f8.body).getD .skip
def ms8:List (List Nat):=[[]]
def m8(S:Store)(Q:PoT):Prop:=
 bld [(0,1),(1,1)] [.v (.int .i64 0),.v (.int .i64 0)] [(0,(.v (.int .i64 5)))] S fun c S=>bslN 23 2 1 [.v (.int .i64 0),.v (.int .i64 0)] [(0,c)] S fun d S=>bslN 3 1 1 [.v (.int .i64 0)] [(0,(.v (.int .i64 3)))] S fun e S=>bld [(0,1),(1,1),(2,1)] [.v (.int .u8 0),.v (.int .i64 0),.v (.string ByteArray.empty)] [(0,(.v (.int .u8 108))),(2,(.v (.string { data:=#[113] })))] S fun f S=>bslN 53 3 1 [.v (.int .u8 0),.v (.int .i64 0),.v (.string ByteArray.empty)] [(0,f)] S fun g S=>bld [(0,1),(1,1),(2,1),(3,1),(4,1),(5,1),(6,1),(7,1)] [.v (.int .i64 0),.nl,.nl,.nl,.nl,.nl,.nl,.nl] [(0,(.v (.int .i64 1))),(1,d),(3,e),(7,g)] S fun h S=>boxN 29 8 (.a [.v (.int .i64 0),.nl,.nl,.nl,.nl,.nl,.nl,.nl]) S fun i S=>stN 8 i h S fun k S=>(fun S0:Store=>∃ l:AV,(ldN 8 i S0 fun m S=>m=l∧S=S0)∧∃ n:AV,(callF Pg 22 [l] S0 (fun _ _=>False) fun o S=>o=n∧S=S0)∧∃ t13:Bool,wantT n true=some t13∧∃ p:AV,gd t13 (ldN 8 i S0 fun q S=>q=p∧S=S0) (p = .v undef)∧∃ t16:Bool,wantT n true=some t16∧∃ r:AV,gd t16 (callF Pg 23 [p] S0 (fun _ _=>False) fun s S=>s=r∧S=S0) (r = .v undef)∧∃ t19:Bool,wantT n true=some t19∧∃ t:AV,gd t19 (part1 r 0 S0 fun u S=>u=t∧S=S0) (t = .v undef)∧∃ t22:Bool,wantT n true=some t22∧∃ w:AV,gd t22 (bin .eql 0 t (.v (.int .i64 2)) S0 fun x S=>x=w∧S=S0) (w = .v undef)∧∃ y:AV,(pick n w (.v (.bool false)) S0 fun z S=>z=y∧S=S0)∧∃ t27:Bool,wantT y true=some t27∧∃ A:AV,gd t27 (ldN 8 i S0 fun B S=>B=A∧S=S0) (A = .v undef)∧∃ t30:Bool,wantT y true=some t30∧∃ C:AV,gd t30 (callF Pg 24 [A,.v (.int .u8 111),.v (.int .i64 0)] S0 (fun _ _=>False) fun D S=>D=C∧S=S0) (C = .v undef)∧∃ t33:Bool,wantT y true=some t33∧∃ E:AV,gd t33 (bin .eql 0 C (.v (.int .i64 3)) S0 fun F S=>F=E∧S=S0) (E = .v undef)∧∃ G:AV,(pick y E (.v (.bool false)) S0 fun H S=>H=G∧S=S0)∧∃ t38:Bool,wantT G true=some t38∧∃ I:AV,gd t38 (ldN 8 i S0 fun J S=>J=I∧S=S0) (I = .v undef)∧∃ t41:Bool,wantT G true=some t41∧∃ K:AV,gd t41 (callF Pg 24 [I,.v (.int .u8 111),.v (.int .i64 1)] S0 (fun _ _=>False) fun L S=>L=K∧S=S0) (K = .v undef)∧∃ t44:Bool,wantT G true=some t44∧∃ M:AV,gd t44 (bin .eql 0 K (.v (.int .i64 (-1))) S0 fun N S=>N=M∧S=S0) (M = .v undef)∧∃ O:AV,(pick G M (.v (.bool false)) S0 fun P S=>P=O∧S=S0)∧∃ t49:Bool,wantT O true=some t49∧∃ R:AV,gd t49 (ldN 8 i S0 fun T S=>T=R∧S=S0) (R = .v undef)∧∃ t52:Bool,wantT O true=some t52∧∃ U:AV,gd t52 (callF Pg 25 [R,(.v (.string { data:=#[113] }))] S0 (fun _ _=>False) fun V S=>V=U∧S=S0) (U = .v undef)∧∃ t55:Bool,wantT O true=some t55∧∃ W:AV,gd t55 (bin .eql 0 U (.v (.int .i64 4)) S0 fun X S=>X=W∧S=S0) (W = .v undef)∧∃ Y:AV,(pick O W (.v (.bool false)) S0 fun Z S=>Z=Y∧S=S0)∧∃ t60:Bool,wantT Y true=some t60∧∃ a0:AV,gd t60 (ldN 8 i S0 fun a1 S=>a1=a0∧S=S0) (a0 = .v undef)∧∃ t63:Bool,wantT Y true=some t63∧∃ a2:AV,gd t63 (callF Pg 25 [a0,(.v (.string { data:=#[108,48] }))] S0 (fun _ _=>False) fun a3 S=>a3=a2∧S=S0) (a2 = .v undef)∧∃ t66:Bool,wantT Y true=some t66∧∃ a4:AV,gd t66 (bin .eql 0 a2 (.v (.int .i64 4)) S0 fun a5 S=>a5=a4∧S=S0) (a4 = .v undef)∧∃ a6:AV,(pick Y a4 (.v (.bool false)) S0 fun a7 S=>a7=a6∧S=S0)∧∃ t71:Bool,wantT a6 true=some t71∧∃ a8:AV,gd t71 (ldN 8 i S0 fun a9 S=>a9=a8∧S=S0) (a8 = .v undef)∧∃ t74:Bool,wantT a6 true=some t74∧∃ b0:AV,gd t74 (callF Pg 25 [a8,(.v (.string { data:=#[120] }))] S0 (fun _ _=>False) fun b1 S=>b1=b0∧S=S0) (b0 = .v undef)∧∃ t77:Bool,wantT a6 true=some t77∧∃ b2:AV,gd t77 (bin .eql 0 b0 (.v (.int .i64 (-1))) S0 fun b3 S=>b3=b2∧S=S0) (b2 = .v undef)∧∃ b4:AV,(pick a6 b2 (.v (.bool false)) S0 fun b5 S=>b5=b4∧S=S0)∧∃ t82:Bool,wantT b4 true=some t82∧∃ b6:AV,gd t82 (ldN 8 i S0 fun b7 S=>b7=b6∧S=S0) (b6 = .v undef)∧∃ t85:Bool,wantT b4 true=some t85∧∃ b8:AV,gd t85 (callF Pg 26 [b6,.v (.int .i64 1),.v (.int .i64 2)] S0 (fun _ _=>False) fun b9 S=>b9=b8∧S=S0) (b8 = .v undef)∧∃ c0:AV,(pick b4 b8 (.v (.bool false)) S0 fun c1 S=>c1=c0∧S=S0)∧∃ t90:Bool,wantT c0 true=some t90∧∃ c2:AV,gd t90 (ldN 8 i S0 fun c3 S=>c3=c2∧S=S0) (c2 = .v undef)∧∃ t93:Bool,wantT c0 true=some t93∧∃ c4:AV,gd t93 (callF Pg 27 [c2,.v (.int .i64 1)] S0 (fun _ _=>False) fun c5 S=>c5=c4∧S=S0) (c4 = .v undef)∧∃ t96:Bool,wantT c0 true=some t96∧∃ c6:AV,gd t96 (bin .eql 0 c4 (.v (.int .i64 2)) S0 fun c7 S=>c7=c6∧S=S0) (c6 = .v undef)∧∃ c8:AV,(pick c0 c6 (.v (.bool false)) S0 fun c9 S=>c9=c8∧S=S0)∧∃ t101:Bool,wantT c8 true=some t101∧∃ d0:AV,gd t101 (ldN 8 i S0 fun d1 S=>d1=d0∧S=S0) (d0 = .v undef)∧∃ t104:Bool,wantT c8 true=some t104∧∃ d2:AV,gd t104 (callF Pg 27 [d0,.v (.int .i64 2)] S0 (fun _ _=>False) fun d3 S=>d3=d2∧S=S0) (d2 = .v undef)∧∃ t107:Bool,wantT c8 true=some t107∧∃ d4:AV,gd t107 (bin .eql 0 d2 (.v (.int .i64 0)) S0 fun d5 S=>d5=d4∧S=S0) (d4 = .v undef)∧∃ d6:AV,(pick c8 d4 (.v (.bool false)) S0 fun d7 S=>d7=d6∧S=S0)∧(fun S:Store=>Q (.ret d6) S) S0) S
theorem calls8{S:Store}{Q:PoT}(h:m8  S Q):ACalls Pg 8 [] S Q:=
 calls_of_vc (fn:=Tryz.f8) (c:=c8) (n:=55) Tryz.func8 (by kernel_rfl) (by kernel_rfl) (by kernel_rfl) ms8 (Eq.mpr (by kernel_rfl) h)
def c60:Code:=(Tryz.f60.body).getD .skip
def r60:List ResultVar:=Tryz.f60.results.toList
def env60_0(y0 y1 y7 y8:AV):List AV:=[y0,y1,y7,y8]
def lv60_0:List Nat:=[0,1,7,8]
def ms60:List (List Nat):=[lv60_0,[]]
def m60(x0 x1:AV)(S:Store)(Q:PoT):Prop:=
 lenS x0 S fun a S=>loopV lv60_0 (vc Pg (c60.at_ [1,0,1,0,0]) (ms60.drop 1)) 19 (env60_0 x0 x1 a (.v (.int .i64 0))) S (blockK 0 (seqK (vc Pg (c60.at_ [1,1]) (ms60.drop 1)) (bodyK Pg r60 Q)))
theorem calls60{x0 x1:AV}{S:Store}{Q:PoT}(h:m60 x0 x1 S Q):ACalls Pg 60 [x0,x1] S Q:=
 calls_of_vc (fn:=Tryz.f60) (c:=c60) (n:=19) Tryz.func60 (by kernel_rfl) (by kernel_rfl) (by kernel_rfl) ms60 (Eq.mpr (by kernel_rfl) h)
def b60_0(y0 y1 y7 y8:AV)(S:Store)(KE0:KeT)(Q:PoT):Prop:=
 bin .lss 0 y8 y7 S fun a S=>onB a fun b=>gd b (ixS 53 3 y0 y8 S fun c S=>ldN 3 c S fun d S=>callV Pg y1 [d] S (fun e S=>onB e fun b=>gd b (Q (.ret y8) S) (bin .add 0 y8 (.v (.int .i64 1)) S fun f S=>KE0 19 (env60_0 y0 y1 y7 f) S)) (fun u S=>Q (.pan u) S)) (Q (.ret (.v (.int .i64 (-1)))) S)
theorem b60_0_eq(y0 y1 y7 y8:AV)(S:Store)(KE0:KeT)(Q:PoT):vc Pg (c60.at_ [1,0,1,0,0]) (ms60.drop 1) (mkE 19 lv60_0 (env60_0 y0 y1 y7 y8)) S (thenK (fgK lv60_0 KE0) (blockK 0 (seqK (vc Pg (c60.at_ [1,1]) (ms60.drop 1)) (bodyK Pg r60 Q))))=b60_0 y0 y1 y7 y8 S KE0 Q:=by kernel_rfl
theorem loop60_0{y0 y1 y7:AV}{y80:AV}{S:Store}{Q:PoT}(I:AV→Store→Prop)(μ:AV→Store→Nat)(h0:I y80 S)
    (hr:∀(y8:AV) (S:Store),I y8 S→∀ KE0:KeT,(∀(y8':AV) (S':Store),I y8' S'→μ y8' S'<μ y8 S→KE0 19 (env60_0 y0 y1 y7 y8') S')→b60_0 y0 y1 y7 y8 S KE0 Q):
    loopV lv60_0 (vc Pg (c60.at_ [1,0,1,0,0]) (ms60.drop 1)) 19 (env60_0 y0 y1 y7 y80) S (blockK 0 (seqK (vc Pg (c60.at_ [1,1]) (ms60.drop 1)) (bodyK Pg r60 Q))):=by
 refine⟨fun n e S=>n=19∧∃ y8:AV,e=(env60_0 y0 y1 y7 y8)∧I y8 S,fun _ e S=>μ (e.getD 3 .j) S,?_,?_⟩
 ·exact⟨_,_,Wk.refl _ _,rfl,_,rfl,h0⟩
 ·rintro _ e S ⟨rfl,y8,rfl,hI⟩
  exact(b60_0_eq _ _ _ _ _ _ _).mpr (hr y8 S hI _ (fun y8' S' hI' hm=>⟨_,_,Wk.refl _ _,⟨rfl,_,rfl,hI'⟩,hm⟩))
def c61:Code:=(Tryz.f61.body).getD .skip
def ms61:List (List Nat):=[[]]
def m61(x0 x1:AV)(S:Store)(Q:PoT):Prop:=
 boxN 53 3 x0 S fun a S=>shift a 2 S fun c S=>ld1 c S fun d S=>ld1 x1 S fun e S=>bin .eql 0 d e S fun f S=>Q (.ret f) S
theorem calls61{x0 x1:AV}{S:Store}{Q:PoT}(h:m61 x0 x1 S Q):ACalls Pg 61 [x0,x1] S Q:=
 calls_of_vc (fn:=Tryz.f61) (c:=c61) (n:=8) Tryz.func61 (by kernel_rfl) (by kernel_rfl) (by kernel_rfl) ms61 (Eq.mpr (by kernel_rfl) h)
def c25:Code:=(Tryz.f25.body).getD .skip
def ms25:List (List Nat):=[[]]
def m25(x0 x1:AV)(S:Store)(Q:PoT):Prop:=
 boxN 29 8 x0 S fun a S=>boxN 9 1 x1 S fun c S=>ldN 8 a S fun d S=>callF Pg 22 [d] S Q fun e S=>un .not e S fun g S=>onB g fun b=>gd b (Q (.ret (.v (.int .i64 (-1)))) S) (ld1 c S fun h S=>bin .eql 0 h (.v (.string { data:=#[] })) S fun i S=>onB i fun b=>gd b (Q (.ret (.v (.int .i64 (-1)))) S) (shift a 7 S fun k S=>ld1 k S fun l S=>callF Pg 60 [l,(.f (.func 61) [] [c])] S Q fun m S=>bin .geq 0 m (.v (.int .i64 0)) S fun n S=>onB n fun b=>gd b ((fun S0:Store=>∃ o:AV,(ldN 8 a S fun p S=>p=o∧S=S0)∧∃ q:AV,(shift a 7 S fun r S=>r=q∧S=S0)∧∃ s:AV,(ld1 q S fun t S=>t=s∧S=S0)∧∃ u:AV,(ixS 53 3 s m S fun w S=>w=u∧S=S0)∧∃ x:AV,(shift u 0 S fun y S=>y=x∧S=S0)∧∃ z:AV,(ld1 x S fun A S=>A=z∧S=S0)∧∃ B:AV,(shift a 7 S fun C S=>C=B∧S=S0)∧∃ D:AV,(ld1 B S fun E S=>E=D∧S=S0)∧∃ F:AV,(ixS 53 3 D m S fun G S=>G=F∧S=S0)∧∃ H:AV,(shift F 1 S fun I S=>I=H∧S=S0)∧∃ J:AV,(ld1 H S fun K S=>K=J∧S=S0)∧∃ L:AV,(callF Pg 59 [o,z,J] S (fun _ _=>False) fun M S=>M=L∧S=S0)∧Q (.ret L) S) S) ((fun S0:Store=>∃ N:AV,(ldN 8 a S fun O S=>O=N∧S=S0)∧∃ P:AV,(ld1 c S fun R S=>R=P∧S=S0)∧∃ T:AV,(ixStr P (.v (.int .i64 0)) S fun U S=>U=T∧S=S0)∧∃ V:AV,(ld1 c S fun W S=>W=V∧S=S0)∧∃ X:AV,((none:Option AV)=none∧slcStr V (some (.v (.int .i64 1))) none S fun Y S=>Y=X∧S=S0)∧∃ Z:AV,(callF Pg 62 [X] S (fun _ _=>False) fun a0 S=>a0=Z∧S=S0)∧∃ a1:AV,(callF Pg 59 [N,T,Z] S (fun _ _=>False) fun a2 S=>a2=a1∧S=S0)∧Q (.ret a1) S) S)))
theorem calls25{x0 x1:AV}{S:Store}{Q:PoT}(h:m25 x0 x1 S Q):ACalls Pg 25 [x0,x1] S Q:=
 calls_of_vc (fn:=Tryz.f25) (c:=c25) (n:=40) Tryz.func25 (by kernel_rfl) (by kernel_rfl) (by kernel_rfl) ms25 (Eq.mpr (by kernel_rfl) h)
def c32:Code:=(Tryz.f32.body).getD .skip
def r32:List ResultVar:=Tryz.f32.results.toList
def env32_0(y1 y2 y5:AV):List AV:=[y1,y2,y5]
def lv32_0:List Nat:=[1,2,5]
def ms32:List (List Nat):=[lv32_0,[]]
def m32(x0 x1:AV)(S:Store)(Q:PoT):Prop:=
 boxN 29 8 x0 S fun a S=>ldN 8 a S fun c S=>callF Pg 28 [c] S Q fun d S=>un .not d S fun e S=>onB e fun b=>gd b (Q (.ret (.v (.int .i64 (-1)))) S) (loopV lv32_0 (vc Pg (c32.at_ [1,1,0,1,0,0]) (ms32.drop 1)) 48 (env32_0 x1 a (.v (.int .i64 0))) S (blockK 0 (seqK (vc Pg (c32.at_ [1,1,1]) (ms32.drop 1)) (bodyK Pg r32 Q))))
theorem calls32{x0 x1:AV}{S:Store}{Q:PoT}(h:m32 x0 x1 S Q):ACalls Pg 32 [x0,x1] S Q:=
 calls_of_vc (fn:=Tryz.f32) (c:=c32) (n:=48) Tryz.func32 (by kernel_rfl) (by kernel_rfl) (by kernel_rfl) ms32 (Eq.mpr (by kernel_rfl) h)
def b32_0(y1 y2 y5:AV)(S:Store)(KE0:KeT)(Q:PoT):Prop:=
 shift y2 7 S fun a S=>ld1 a S fun c S=>lenS c S fun d S=>bin .lss 0 y5 d S fun e S=>onB e fun b=>gd b (shift y2 7 S fun f S=>ld1 f S fun g S=>ixS 53 3 g y5 S fun h S=>shift h 2 S fun i S=>ld1 i S fun k S=>bin .eql 0 k y1 S fun l S=>onB l fun b=>gd b ((fun S0:Store=>∃ m:AV,(ldN 8 y2 S fun n S=>n=m∧S=S0)∧∃ o:AV,(shift y2 7 S fun p S=>p=o∧S=S0)∧∃ q:AV,(ld1 o S fun r S=>r=q∧S=S0)∧∃ s:AV,(ixS 53 3 q y5 S fun t S=>t=s∧S=S0)∧∃ u:AV,(shift s 0 S fun w S=>w=u∧S=S0)∧∃ x:AV,(ld1 u S fun y S=>y=x∧S=S0)∧∃ z:AV,(shift y2 7 S fun A S=>A=z∧S=S0)∧∃ B:AV,(ld1 z S fun C S=>C=B∧S=S0)∧∃ D:AV,(ixS 53 3 B y5 S fun E S=>E=D∧S=S0)∧∃ F:AV,(shift D 1 S fun G S=>G=F∧S=S0)∧∃ H:AV,(ld1 F S fun I S=>I=H∧S=S0)∧∃ J:AV,(callF Pg 31 [m,x,H] S (fun _ _=>False) fun K S=>K=J∧S=S0)∧Q (.ret J) S) S) (bin .add 0 y5 (.v (.int .i64 1)) S fun L S=>KE0 48 (env32_0 y1 y2 L) S)) (lenStr y1 S fun M S=>bin .lss 0 M (.v (.int .i64 2)) S fun N S=>onB N fun b=>gd b (Q (.ret (.v (.int .i64 (-1)))) S) ((fun S0:Store=>∃ O:AV,(ldN 8 y2 S fun P S=>P=O∧S=S0)∧∃ R:AV,(ixStr y1 (.v (.int .i64 0)) S fun T S=>T=R∧S=S0)∧∃ U:AV,((none:Option AV)=none∧slcStr y1 (some (.v (.int .i64 1))) none S fun V S=>V=U∧S=S0)∧∃ W:AV,(callF Pg 70 [U] S (fun _ _=>False) fun X S=>X=W∧S=S0)∧∃ Y:AV,(callF Pg 31 [O,R,W] S (fun _ _=>False) fun Z S=>Z=Y∧S=S0)∧Q (.ret Y) S) S))
theorem b32_0_eq(y1 y2 y5:AV)(S:Store)(KE0:KeT)(Q:PoT):vc Pg (c32.at_ [1,1,0,1,0,0]) (ms32.drop 1) (mkE 48 lv32_0 (env32_0 y1 y2 y5)) S (thenK (fgK lv32_0 KE0) (blockK 0 (seqK (vc Pg (c32.at_ [1,1,1]) (ms32.drop 1)) (bodyK Pg r32 Q))))=b32_0 y1 y2 y5 S KE0 Q:=by kernel_rfl
theorem loop32_0{y1 y2:AV}{y50:AV}{S:Store}{Q:PoT}(I:AV→Store→Prop)(μ:AV→Store→Nat)(h0:I y50 S)
    (hr:∀(y5:AV) (S:Store),I y5 S→∀ KE0:KeT,(∀(y5':AV) (S':Store),I y5' S'→μ y5' S'<μ y5 S→KE0 48 (env32_0 y1 y2 y5') S')→b32_0 y1 y2 y5 S KE0 Q):
    loopV lv32_0 (vc Pg (c32.at_ [1,1,0,1,0,0]) (ms32.drop 1)) 48 (env32_0 y1 y2 y50) S (blockK 0 (seqK (vc Pg (c32.at_ [1,1,1]) (ms32.drop 1)) (bodyK Pg r32 Q))):=by
 refine⟨fun n e S=>n=48∧∃ y5:AV,e=(env32_0 y1 y2 y5)∧I y5 S,fun _ e S=>μ (e.getD 2 .j) S,?_,?_⟩
 ·exact⟨_,_,Wk.refl _ _,rfl,_,rfl,h0⟩
 ·rintro _ e S ⟨rfl,y5,rfl,hI⟩
  exact(b32_0_eq _ _ _ _ _ _).mpr (hr y5 S hI _ (fun y5' S' hI' hm=>⟨_,_,Wk.refl _ _,⟨rfl,_,rfl,hI'⟩,hm⟩))
def c62:Code:=(Tryz.f62.body).getD .skip
def ms62:List (List Nat):=[[]]
def m62(x0:AV)(S:Store)(Q:PoT):Prop:=
 callF Pg 106 [x0] S Q fun a S=>extr a 0 S fun c S=>extr a 1 S fun d S=>nilV .neq 4 d S fun e S=>onB e fun b=>gd b (Q (.ret (.v (.int .i64 (-1)))) S) (bin .lss 0 c (.v (.int .i64 0)) S fun f S=>onB f fun b=>gd b (Q (.ret (.v (.int .i64 (-1)))) S) (lenStr x0 S fun g S=>bin .gtr 0 g (.v (.int .i64 6)) S fun h S=>onB h fun b=>gd b (Q (.ret (.v (.int .i64 (-1)))) S) (callF Pg 107 [c] S Q fun i S=>bin .neq 0 i x0 S fun k S=>onB k fun b=>gd b (Q (.ret (.v (.int .i64 (-1)))) S) (Q (.ret c) S))))
theorem calls62{x0:AV}{S:Store}{Q:PoT}(h:m62 x0 S Q):ACalls Pg 62 [x0] S Q:=
 calls_of_vc (fn:=Tryz.f62) (c:=c62) (n:=28) Tryz.func62 (by kernel_rfl) (by kernel_rfl) (by kernel_rfl) ms62 (Eq.mpr (by kernel_rfl) h)
def c70:Code:=(Tryz.f70.body).getD .skip
def r70:List ResultVar:=Tryz.f70.results.toList
def env70_0(y0 y3 y4:AV):List AV:=[y0,y3,y4]
def lv70_0:List Nat:=[0,3,4]
def ms70:List (List Nat):=[lv70_0,[]]
def m70(x0:AV)(S:Store)(Q:PoT):Prop:=
 loopV lv70_0 (vc Pg (c70.at_ [1,1,0,1,0,0]) (ms70.drop 1)) 48 (env70_0 x0 (.v (.int .i64 0)) (.v (.int .i64 0))) S (blockK 0 (seqK (vc Pg (c70.at_ [1,1,1]) (ms70.drop 1)) (bodyK Pg r70 Q)))
theorem calls70{x0:AV}{S:Store}{Q:PoT}(h:m70 x0 S Q):ACalls Pg 70 [x0] S Q:=
 calls_of_vc (fn:=Tryz.f70) (c:=c70) (n:=48) Tryz.func70 (by kernel_rfl) (by kernel_rfl) (by kernel_rfl) ms70 (Eq.mpr (by kernel_rfl) h)
def b70_0(y0 y3 y4:AV)(S:Store)(KE0:KeT)(Q:PoT):Prop:=
 lenStr y0 S fun a S=>bin .lss 0 y4 a S fun c S=>onB c fun b=>gd b (ixStr y0 y4 S fun d S=>bin .lss 0 d (.v (.int .u8 48)) S fun e S=>onB e fun b=>gd b (Q (.ret (.v (.int .i64 (-1)))) S) (ixStr y0 y4 S fun f S=>bin .gtr 0 f (.v (.int .u8 57)) S fun g S=>onB g fun b=>gd b (Q (.ret (.v (.int .i64 (-1)))) S) (bin .mul 0 (.v (.int .i64 10)) y3 S fun h S=>ixStr y0 y4 S fun i S=>convI .i64 i S fun k S=>bin .add 0 h k S fun l S=>bin .sub 0 l (.v (.int .i64 48)) S fun m S=>bin .add 0 y4 (.v (.int .i64 1)) S fun n S=>KE0 48 (env70_0 y0 m n) S))) (lenStr y0 S fun o S=>bin .lss 0 o (.v (.int .i64 1)) S fun p S=>onB p fun b=>gd b (Q (.ret (.v (.int .i64 (-1)))) S) (lenStr y0 S fun q S=>bin .gtr 0 q (.v (.int .i64 6)) S fun r S=>onB r fun b=>gd b (Q (.ret (.v (.int .i64 (-1)))) S) (lenStr y0 S fun s S=>bin .gtr 0 s (.v (.int .i64 1)) S fun t S=>onB t fun b=>gd b (ixStr y0 (.v (.int .i64 0)) S fun u S=>bin .eql 0 u (.v (.int .u8 48)) S fun w S=>onB w fun b=>gd b (Q (.ret (.v (.int .i64 (-1)))) S) (Q (.ret y3) S)) (Q (.ret y3) S))))
theorem b70_0_eq(y0 y3 y4:AV)(S:Store)(KE0:KeT)(Q:PoT):vc Pg (c70.at_ [1,1,0,1,0,0]) (ms70.drop 1) (mkE 48 lv70_0 (env70_0 y0 y3 y4)) S (thenK (fgK lv70_0 KE0) (blockK 0 (seqK (vc Pg (c70.at_ [1,1,1]) (ms70.drop 1)) (bodyK Pg r70 Q))))=b70_0 y0 y3 y4 S KE0 Q:=by kernel_rfl
theorem loop70_0{y0:AV}{y30 y40:AV}{S:Store}{Q:PoT}(I:AV→AV→Store→Prop)(μ:AV→AV→Store→Nat)(h0:I y30 y40 S)
    (hr:∀(y3 y4:AV) (S:Store),I y3 y4 S→∀ KE0:KeT,(∀(y3' y4':AV) (S':Store),I y3' y4' S'→μ y3' y4' S'<μ y3 y4 S→KE0 48 (env70_0 y0 y3' y4') S')→b70_0 y0 y3 y4 S KE0 Q):
    loopV lv70_0 (vc Pg (c70.at_ [1,1,0,1,0,0]) (ms70.drop 1)) 48 (env70_0 y0 y30 y40) S (blockK 0 (seqK (vc Pg (c70.at_ [1,1,1]) (ms70.drop 1)) (bodyK Pg r70 Q))):=by
 refine⟨fun n e S=>n=48∧∃ y3 y4:AV,e=(env70_0 y0 y3 y4)∧I y3 y4 S,fun _ e S=>μ (e.getD 1 .j) (e.getD 2 .j) S,?_,?_⟩
 ·exact⟨_,_,Wk.refl _ _,rfl,_,_,rfl,h0⟩
 ·rintro _ e S ⟨rfl,y3,y4,rfl,hI⟩
  exact(b70_0_eq _ _ _ _ _ _).mpr (hr y3 y4 S hI _ (fun y3' y4' S' hI' hm=>⟨_,_,Wk.refl _ _,⟨rfl,_,_,rfl,hI'⟩,hm⟩))
def c59:Code:=(Tryz.f59.body).getD .skip
def ms59:List (List Nat):=[[]]
def m59(x0 x1 x2:AV)(S:Store)(Q:PoT):Prop:=
 boxN 29 8 x0 S fun a S=>bin .lss 0 x2 (.v (.int .i64 0)) S fun c S=>onB c fun b=>gd b (Q (.ret (.v (.int .i64 (-1)))) S) (ldN 8 a S fun d S=>callF Pg 51 [d] S Q fun e S=>convI .i32 x1 S fun f S=>lkM (.i .i32) (.v (.int .i64 0)) false e f S fun g S=>bin .geq 0 x2 g S fun h S=>onB h fun b=>gd b (Q (.ret (.v (.int .i64 (-1)))) S) (bin .eql 0 x1 (.v (.int .u8 105)) S fun k S=>onB k fun b=>gd b (bin .add 0 x2 (.v (.int .i64 1)) S fun l S=>bin .mul 0 (.v (.int .i64 2)) l S fun m S=>Q (.ret m) S) (bin .eql 0 x1 (.v (.int .u8 108)) S fun n S=>onB n fun b=>gd b (shift a 0 S fun o S=>ld1 o S fun p S=>bin .add 0 p x2 S fun q S=>bin .add 0 q (.v (.int .i64 1)) S fun r S=>bin .mul 0 (.v (.int .i64 2)) r S fun s S=>Q (.ret s) S) (bin .eql 0 x1 (.v (.int .u8 111)) S fun t S=>onB t fun b=>gd b (shift a 3 S fun u S=>ld1 u S fun w S=>ixS 3 1 w x2 S fun x S=>ld1 x S fun y S=>Q (.ret y) S) (bin .eql 0 x1 (.v (.int .u8 98)) S fun z S=>onB z fun b=>gd b (shift a 4 S fun A S=>ld1 A S fun B S=>ixS 3 1 B x2 S fun C S=>ld1 C S fun D S=>Q (.ret D) S) (bin .eql 0 x1 (.v (.int .u8 99)) S fun E S=>onB E fun b=>gd b (shift a 5 S fun F S=>ld1 F S fun G S=>ixS 3 1 G x2 S fun H S=>ld1 H S fun I S=>Q (.ret I) S) (shift a 6 S fun J S=>ld1 J S fun K S=>ixS 3 1 K x2 S fun L S=>ld1 L S fun M S=>Q (.ret M) S)))))))
theorem calls59{x0 x1 x2:AV}{S:Store}{Q:PoT}(h:m59 x0 x1 x2 S Q):ACalls Pg 59 [x0,x1,x2] S Q:=
 calls_of_vc (fn:=Tryz.f59) (c:=c59) (n:=58) Tryz.func59 (by kernel_rfl) (by kernel_rfl) (by kernel_rfl) ms59 (Eq.mpr (by kernel_rfl) h)
def c24:Code:=(Tryz.f24.body).getD .skip
def ms24:List (List Nat):=[[]]
def m24(x0 x1 x2:AV)(S:Store)(Q:PoT):Prop:=
 boxN 29 8 x0 S fun a S=>ldN 8 a S fun c S=>callF Pg 22 [c] S Q fun d S=>un .not d S fun e S=>onB e fun b=>gd b (Q (.ret (.v (.int .i64 (-1)))) S) (ldN 8 a S fun f S=>callF Pg 59 [f,x1,x2] S Q fun g S=>Q (.ret g) S)
theorem calls24{x0 x1 x2:AV}{S:Store}{Q:PoT}(h:m24 x0 x1 x2 S Q):ACalls Pg 24 [x0,x1,x2] S Q:=
 calls_of_vc (fn:=Tryz.f24) (c:=c24) (n:=14) Tryz.func24 (by kernel_rfl) (by kernel_rfl) (by kernel_rfl) ms24 (Eq.mpr (by kernel_rfl) h)
def c31:Code:=(Tryz.f31.body).getD .skip
def ms31:List (List Nat):=[[]]
def m31(x0 x1 x2:AV)(S:Store)(Q:PoT):Prop:=
 boxN 29 8 x0 S fun a S=>ldN 8 a S fun c S=>callF Pg 28 [c] S Q fun d S=>un .not d S fun e S=>onB e fun b=>gd b (Q (.ret (.v (.int .i64 (-1)))) S) (bin .lss 0 x2 (.v (.int .i64 0)) S fun f S=>onB f fun b=>gd b (Q (.ret (.v (.int .i64 (-1)))) S) (ldN 8 a S fun g S=>callF Pg 69 [g,x1] S Q fun h S=>bin .geq 0 x2 h S fun i S=>onB i fun b=>gd b (Q (.ret (.v (.int .i64 (-1)))) S) (bin .eql 0 x1 (.v (.int .u8 105)) S fun k S=>onB k fun b=>gd b (bin .add 0 x2 (.v (.int .i64 1)) S fun l S=>bin .mul 0 (.v (.int .i64 2)) l S fun m S=>Q (.ret m) S) (bin .eql 0 x1 (.v (.int .u8 108)) S fun n S=>onB n fun b=>gd b (shift a 0 S fun o S=>ld1 o S fun p S=>bin .add 0 p x2 S fun q S=>bin .add 0 q (.v (.int .i64 1)) S fun r S=>bin .mul 0 (.v (.int .i64 2)) r S fun s S=>Q (.ret s) S) (bin .eql 0 x1 (.v (.int .u8 111)) S fun t S=>onB t fun b=>gd b (shift a 3 S fun u S=>ld1 u S fun w S=>ixS 3 1 w x2 S fun x S=>ld1 x S fun y S=>Q (.ret y) S) (bin .eql 0 x1 (.v (.int .u8 98)) S fun z S=>onB z fun b=>gd b (shift a 4 S fun A S=>ld1 A S fun B S=>ixS 3 1 B x2 S fun C S=>ld1 C S fun D S=>Q (.ret D) S) (bin .eql 0 x1 (.v (.int .u8 99)) S fun E S=>onB E fun b=>gd b (shift a 5 S fun F S=>ld1 F S fun G S=>ixS 3 1 G x2 S fun H S=>ld1 H S fun I S=>Q (.ret I) S) (shift a 6 S fun J S=>ld1 J S fun K S=>ixS 3 1 K x2 S fun L S=>ld1 L S fun M S=>Q (.ret M) S))))))))
theorem calls31{x0 x1 x2:AV}{S:Store}{Q:PoT}(h:m31 x0 x1 x2 S Q):ACalls Pg 31 [x0,x1,x2] S Q:=
 calls_of_vc (fn:=Tryz.f31) (c:=c31) (n:=61) Tryz.func31 (by kernel_rfl) (by kernel_rfl) (by kernel_rfl) ms31 (Eq.mpr (by kernel_rfl) h)
end
open Go Go.Shelf Go.Proofs
def laysItoa_ren:Go.Shelf.Ren:=⟨fun|171=>107|243=>122|246=>132|283=>139|284=>140|285=>141|286=>142|129=>151|317=>150|318=>152|319=>153|320=>154|337=>160|338=>161|n=>n,fun|3=>3|9=>9|2=>2|4=>4|171=>166|0=>0|53=>159|37=>41|5=>5|173=>169|212=>182|51=>111|20=>20|213=>183|46=>145|232=>197|233=>198|n=>n,fun|17=>2|18=>4|19=>5|n=>n⟩
theorem laysItoa:Go.Proofs.LaysM.n171 Pg laysItoa_ren where
 mixed:=by kernel_rfl
 f129:=Tryz.func151.trans (congrArg some (by kernel_rfl))
 f171:=Tryz.func107.trans (congrArg some (by kernel_rfl))
 f243:=Tryz.func122.trans (congrArg some (by kernel_rfl))
 f246:=Tryz.func132.trans (congrArg some (by kernel_rfl))
 f283:=Tryz.func139.trans (congrArg some (by kernel_rfl))
 f284:=Tryz.func140.trans (congrArg some (by kernel_rfl))
 f285:=Tryz.func141.trans (congrArg some (by kernel_rfl))
 f286:=Tryz.func142.trans (congrArg some (by kernel_rfl))
 f317:=Tryz.func150.trans (congrArg some (by kernel_rfl))
 f318:=Tryz.func152.trans (congrArg some (by kernel_rfl))
 f319:=Tryz.func153.trans (congrArg some (by kernel_rfl))
 f320:=Tryz.func154.trans (congrArg some (by kernel_rfl))
 f337:=Tryz.func160.trans (congrArg some (by kernel_rfl))
 f338:=Tryz.func161.trans (congrArg some (by kernel_rfl))
 t0:=Tryz.underlying0
 a0:=Tryz.isAgg0
 z0:=Tryz.sizeOf0
 v0:=Tryz.zeroValue0
 t2:=Tryz.underlying2
 a2:=Tryz.isAgg2
 z2:=Tryz.sizeOf2
 v2:=Tryz.zeroValue2
 t3:=Tryz.underlying3
 a3:=Tryz.isAgg3
 z3:=Tryz.sizeOf3
 v3:=Tryz.zeroValue3
 t4:=Tryz.underlying4
 a4:=Tryz.isAgg4
 z4:=Tryz.sizeOf4
 v4:=Tryz.zeroValue4
 t5:=Tryz.underlying5
 a5:=Tryz.isAgg5
 z5:=Tryz.sizeOf5
 v5:=Tryz.zeroValue5
 t9:=Tryz.underlying9
 a9:=Tryz.isAgg9
 z9:=Tryz.sizeOf9
 v9:=Tryz.zeroValue9
 t20:=Tryz.underlying20
 a20:=Tryz.isAgg20
 z20:=Tryz.sizeOf20
 v20:=Tryz.zeroValue20
 t37:=Tryz.underlying41
 a37:=Tryz.isAgg41
 z37:=Tryz.sizeOf41
 v37:=Tryz.zeroValue41
 t46:=Tryz.underlying145
 a46:=Tryz.isAgg145
 z46:=Tryz.sizeOf145
 v46:=Tryz.zeroValue145
 t51:=Tryz.underlying111
 a51:=Tryz.isAgg111
 z51:=Tryz.sizeOf111
 v51:=Tryz.zeroValue111
 t53:=Tryz.underlying159
 a53:=Tryz.isAgg159
 z53:=Tryz.sizeOf159
 v53:=Tryz.zeroValue159
 t171:=Tryz.underlying166
 a171:=Tryz.isAgg166
 z171:=Tryz.sizeOf166
 v171:=Tryz.zeroValue166
 t173:=Tryz.underlying169
 a173:=Tryz.isAgg169
 z173:=Tryz.sizeOf169
 v173:=Tryz.zeroValue169
 t212:=Tryz.underlying182
 a212:=Tryz.isAgg182
 z212:=Tryz.sizeOf182
 v212:=Tryz.zeroValue182
 t213:=Tryz.underlying183
 a213:=Tryz.isAgg183
 z213:=Tryz.sizeOf183
 t232:=Tryz.underlying197
 a232:=Tryz.isAgg197
 z232:=Tryz.sizeOf197
 v232:=Tryz.zeroValue197
 t233:=Tryz.underlying198
 a233:=Tryz.isAgg198
 z233:=Tryz.sizeOf198
 v233:=Tryz.zeroValue198
 g17:=by kernel_rfl
 g18:=by kernel_rfl
 g19:=by kernel_rfl
 i0:=by kernel_rfl
 i2:=by kernel_rfl
 i3:=by kernel_rfl
 i4:=by kernel_rfl
 i5:=by kernel_rfl
 i9:=by kernel_rfl
 i20:=by kernel_rfl
 i37:=by kernel_rfl
 i46:=by kernel_rfl
 i51:=by kernel_rfl
 i53:=by kernel_rfl
 i171:=by kernel_rfl
 i173:=by kernel_rfl
 i212:=by kernel_rfl
 i232:=by kernel_rfl
 i233:=by kernel_rfl
 m17:=by kernel_rfl
 m18:=by kernel_rfl
 m19:=by kernel_rfl
def laysAtoi_ren:Go.Shelf.Ren:=⟨fun|172=>106|244=>120|245=>121|247=>127|279=>128|280=>129|281=>130|282=>131|287=>136|316=>137|171=>107|205=>138|321=>148|322=>149|243=>122|246=>132|283=>139|284=>140|285=>141|286=>142|129=>151|317=>150|318=>152|319=>153|320=>154|337=>160|338=>161|n=>n,fun|9=>9|3=>3|75=>131|76=>132|4=>4|5=>5|167=>150|37=>41|0=>0|85=>151|2=>2|168=>153|53=>159|175=>160|46=>145|210=>164|127=>177|145=>180|143=>178|21=>21|171=>166|173=>169|212=>182|51=>111|20=>20|213=>183|232=>197|233=>198|80=>204|n=>n,fun|15=>0|16=>1|17=>2|18=>4|19=>5|n=>n⟩
theorem laysAtoi:Go.Proofs.LaysC.n172 Pg laysAtoi_ren where
 mixed:=by kernel_rfl
 f129:=Tryz.func151.trans (congrArg some (by kernel_rfl))
 f171:=Tryz.func107.trans (congrArg some (by kernel_rfl))
 f172:=Tryz.func106.trans (congrArg some (by kernel_rfl))
 f205:=Tryz.func138.trans (congrArg some (by kernel_rfl))
 f243:=Tryz.func122.trans (congrArg some (by kernel_rfl))
 f244:=Tryz.func120.trans (congrArg some (by kernel_rfl))
 f245:=Tryz.func121.trans (congrArg some (by kernel_rfl))
 f246:=Tryz.func132.trans (congrArg some (by kernel_rfl))
 f247:=Tryz.func127.trans (congrArg some (by kernel_rfl))
 f279:=Tryz.func128.trans (congrArg some (by kernel_rfl))
 f280:=Tryz.func129.trans (congrArg some (by kernel_rfl))
 f281:=Tryz.func130.trans (congrArg some (by kernel_rfl))
 f282:=Tryz.func131.trans (congrArg some (by kernel_rfl))
 f283:=Tryz.func139.trans (congrArg some (by kernel_rfl))
 f284:=Tryz.func140.trans (congrArg some (by kernel_rfl))
 f285:=Tryz.func141.trans (congrArg some (by kernel_rfl))
 f286:=Tryz.func142.trans (congrArg some (by kernel_rfl))
 f287:=Tryz.func136.trans (congrArg some (by kernel_rfl))
 f316:=Tryz.func137.trans (congrArg some (by kernel_rfl))
 f317:=Tryz.func150.trans (congrArg some (by kernel_rfl))
 f318:=Tryz.func152.trans (congrArg some (by kernel_rfl))
 f319:=Tryz.func153.trans (congrArg some (by kernel_rfl))
 f320:=Tryz.func154.trans (congrArg some (by kernel_rfl))
 f321:=Tryz.func148.trans (congrArg some (by kernel_rfl))
 f322:=Tryz.func149.trans (congrArg some (by kernel_rfl))
 f337:=Tryz.func160.trans (congrArg some (by kernel_rfl))
 f338:=Tryz.func161.trans (congrArg some (by kernel_rfl))
 t0:=Tryz.underlying0
 a0:=Tryz.isAgg0
 z0:=Tryz.sizeOf0
 v0:=Tryz.zeroValue0
 t2:=Tryz.underlying2
 a2:=Tryz.isAgg2
 z2:=Tryz.sizeOf2
 v2:=Tryz.zeroValue2
 t3:=Tryz.underlying3
 a3:=Tryz.isAgg3
 z3:=Tryz.sizeOf3
 v3:=Tryz.zeroValue3
 t4:=Tryz.underlying4
 a4:=Tryz.isAgg4
 z4:=Tryz.sizeOf4
 v4:=Tryz.zeroValue4
 t5:=Tryz.underlying5
 a5:=Tryz.isAgg5
 z5:=Tryz.sizeOf5
 v5:=Tryz.zeroValue5
 t9:=Tryz.underlying9
 a9:=Tryz.isAgg9
 z9:=Tryz.sizeOf9
 v9:=Tryz.zeroValue9
 t20:=Tryz.underlying20
 a20:=Tryz.isAgg20
 z20:=Tryz.sizeOf20
 v20:=Tryz.zeroValue20
 t21:=Tryz.underlying21
 a21:=Tryz.isAgg21
 z21:=Tryz.sizeOf21
 v21:=Tryz.zeroValue21
 t37:=Tryz.underlying41
 a37:=Tryz.isAgg41
 z37:=Tryz.sizeOf41
 v37:=Tryz.zeroValue41
 t46:=Tryz.underlying145
 a46:=Tryz.isAgg145
 z46:=Tryz.sizeOf145
 v46:=Tryz.zeroValue145
 t51:=Tryz.underlying111
 a51:=Tryz.isAgg111
 z51:=Tryz.sizeOf111
 v51:=Tryz.zeroValue111
 t53:=Tryz.underlying159
 a53:=Tryz.isAgg159
 z53:=Tryz.sizeOf159
 v53:=Tryz.zeroValue159
 t75:=Tryz.underlying131
 a75:=Tryz.isAgg131
 z75:=Tryz.sizeOf131
 v75:=Tryz.zeroValue131
 t76:=Tryz.underlying132
 a76:=Tryz.isAgg132
 z76:=Tryz.sizeOf132
 v76:=Tryz.zeroValue132
 t85:=Tryz.underlying151
 a85:=Tryz.isAgg151
 z85:=Tryz.sizeOf151
 v85:=Tryz.zeroValue151
 t127:=Tryz.underlying177
 a127:=Tryz.isAgg177
 z127:=Tryz.sizeOf177
 v127:=Tryz.zeroValue177
 t143:=Tryz.underlying178
 a143:=Tryz.isAgg178
 z143:=Tryz.sizeOf178
 v143:=Tryz.zeroValue178
 t145:=Tryz.underlying180
 a145:=Tryz.isAgg180
 z145:=Tryz.sizeOf180
 v145:=Tryz.zeroValue180
 t167:=Tryz.underlying150
 a167:=Tryz.isAgg150
 z167:=Tryz.sizeOf150
 v167:=Tryz.zeroValue150
 t168:=Tryz.underlying153
 a168:=Tryz.isAgg153
 z168:=Tryz.sizeOf153
 v168:=Tryz.zeroValue153
 t171:=Tryz.underlying166
 a171:=Tryz.isAgg166
 z171:=Tryz.sizeOf166
 v171:=Tryz.zeroValue166
 t173:=Tryz.underlying169
 a173:=Tryz.isAgg169
 z173:=Tryz.sizeOf169
 v173:=Tryz.zeroValue169
 t175:=Tryz.underlying160
 a175:=Tryz.isAgg160
 z175:=Tryz.sizeOf160
 v175:=Tryz.zeroValue160
 t210:=Tryz.underlying164
 a210:=Tryz.isAgg164
 z210:=Tryz.sizeOf164
 v210:=Tryz.zeroValue164
 t212:=Tryz.underlying182
 a212:=Tryz.isAgg182
 z212:=Tryz.sizeOf182
 v212:=Tryz.zeroValue182
 t213:=Tryz.underlying183
 a213:=Tryz.isAgg183
 z213:=Tryz.sizeOf183
 t232:=Tryz.underlying197
 a232:=Tryz.isAgg197
 z232:=Tryz.sizeOf197
 v232:=Tryz.zeroValue197
 t233:=Tryz.underlying198
 a233:=Tryz.isAgg198
 z233:=Tryz.sizeOf198
 v233:=Tryz.zeroValue198
 g15:=by kernel_rfl
 g16:=by kernel_rfl
 g17:=by kernel_rfl
 g18:=by kernel_rfl
 g19:=by kernel_rfl
 t80:=Tryz.underlying204
 a80:=Tryz.isAgg204
 z80:=Tryz.sizeOf204
 v80:=Tryz.zeroValue204
 i0:=by kernel_rfl
 i2:=by kernel_rfl
 i3:=by kernel_rfl
 i4:=by kernel_rfl
 i5:=by kernel_rfl
 i9:=by kernel_rfl
 i20:=by kernel_rfl
 i21:=by kernel_rfl
 i37:=by kernel_rfl
 i46:=by kernel_rfl
 i51:=by kernel_rfl
 i53:=by kernel_rfl
 i75:=by kernel_rfl
 i76:=by kernel_rfl
 i80:=by kernel_rfl
 i85:=by kernel_rfl
 i127:=by kernel_rfl
 i143:=by kernel_rfl
 i145:=by kernel_rfl
 i167:=by kernel_rfl
 i168:=by kernel_rfl
 i171:=by kernel_rfl
 i173:=by kernel_rfl
 i175:=by kernel_rfl
 i210:=by kernel_rfl
 i212:=by kernel_rfl
 i232:=by kernel_rfl
 i233:=by kernel_rfl
 m15:=by kernel_rfl
 m16:=by kernel_rfl
 m17:=by kernel_rfl
 m18:=by kernel_rfl
 m19:=by kernel_rfl
 c0:=by kernel_rfl
 c2:=by kernel_rfl
 c3:=by kernel_rfl
 c4:=by kernel_rfl
 c5:=by kernel_rfl
 c9:=by kernel_rfl
 c20:=by kernel_rfl
 c21:=by kernel_rfl
 c37:=by kernel_rfl
 c46:=by kernel_rfl
 c51:=by kernel_rfl
 c53:=by kernel_rfl
 c75:=by kernel_rfl
 c76:=by kernel_rfl
 c80:=by kernel_rfl
 c85:=by kernel_rfl
 c127:=by kernel_rfl
 c143:=by kernel_rfl
 c145:=by kernel_rfl
 c167:=by kernel_rfl
 c168:=by kernel_rfl
 c171:=by kernel_rfl
 c173:=by kernel_rfl
 c175:=by kernel_rfl
 c210:=by kernel_rfl
 c212:=by kernel_rfl
 c213:=by kernel_rfl
 c232:=by kernel_rfl
 c233:=by kernel_rfl
section
set_option maxRecDepth 100000
def c119:Code:=(Tryz.f119.body).getD .skip
def ms119:List (List Nat):=[[]]
def m119(x0:AV)(S:Store)(Q:PoT):Prop:=
 bin .neq 0 x0 x0 S fun a S=>Q (.ret a) S
theorem calls119{x0:AV}{S:Store}{Q:PoT}(h:m119 x0 S Q):ACalls Pg 119 [x0] S Q:=
 calls_of_vc (fn:=Tryz.f119) (c:=c119) (n:=6) Tryz.func119 (by kernel_rfl) (by kernel_rfl) (by kernel_rfl) ms119 (Eq.mpr (by kernel_rfl) h)
def c105:Code:=(Tryz.f105.body).getD .skip
def ms105:List (List Nat):=[[]]
def m105(x0 x1:AV)(S:Store)(Q:PoT):Prop:=
 callF Pg 119 [x0] S Q fun a S=>callF Pg 119 [x1] S Q fun c S=>onB a fun b=>gd b (onB c fun b=>gd b (Q (.ret (.v (.int .i64 0))) S) (Q (.ret (.v (.int .i64 (-1)))) S)) (onB c fun b=>gd b (Q (.ret (.v (.int .i64 1))) S) (bin .lss 0 x0 x1 S fun d S=>onB d fun b=>gd b (Q (.ret (.v (.int .i64 (-1)))) S) (bin .gtr 0 x0 x1 S fun e S=>onB e fun b=>gd b (Q (.ret (.v (.int .i64 1))) S) (Q (.ret (.v (.int .i64 0))) S))))
theorem calls105{x0 x1:AV}{S:Store}{Q:PoT}(h:m105 x0 x1 S Q):ACalls Pg 105 [x0,x1] S Q:=
 calls_of_vc (fn:=Tryz.f105) (c:=c105) (n:=20) Tryz.func105 (by kernel_rfl) (by kernel_rfl) (by kernel_rfl) ms105 (Eq.mpr (by kernel_rfl) h)
def c104:Code:=(Tryz.f104.body).getD .skip
def r104:List ResultVar:=Tryz.f104.results.toList
def env104_0(y3 y6 y7 y8:AV):List AV:=[y3,y6,y7,y8]
def lv104_0:List Nat:=[3,6,7,8]
def ms104:List (List Nat):=[lv104_0,[]]
def m104(x0:AV)(S:Store)(Q:PoT):Prop:=
 lenS x0 S fun a S=>loopV lv104_0 (vc Pg (c104.at_ [1,1,0,1,0,0]) (ms104.drop 1)) 18 (env104_0 (.v (.int .i64 0)) x0 a (.v (.int .i64 0))) S (blockK 0 (seqK (vc Pg (c104.at_ [1,1,1]) (ms104.drop 1)) (bodyK Pg r104 Q)))
theorem calls104{x0:AV}{S:Store}{Q:PoT}(h:m104 x0 S Q):ACalls Pg 104 [x0] S Q:=
 calls_of_vc (fn:=Tryz.f104) (c:=c104) (n:=18) Tryz.func104 (by kernel_rfl) (by kernel_rfl) (by kernel_rfl) ms104 (Eq.mpr (by kernel_rfl) h)
def b104_0(y3 y6 y7 y8:AV)(S:Store)(KE0:KeT)(Q:PoT):Prop:=
 bin .lss 0 y8 y7 S fun a S=>onB a fun b=>gd b (ixS 3 1 y6 y8 S fun c S=>ld1 c S fun d S=>bin .neq 0 d y3 S fun e S=>onB e fun b=>gd b (Q (.ret d) S) (bin .add 0 y8 (.v (.int .i64 1)) S fun f S=>KE0 18 (env104_0 y3 y6 y7 f) S)) (Q (.ret y3) S)
theorem b104_0_eq(y3 y6 y7 y8:AV)(S:Store)(KE0:KeT)(Q:PoT):vc Pg (c104.at_ [1,1,0,1,0,0]) (ms104.drop 1) (mkE 18 lv104_0 (env104_0 y3 y6 y7 y8)) S (thenK (fgK lv104_0 KE0) (blockK 0 (seqK (vc Pg (c104.at_ [1,1,1]) (ms104.drop 1)) (bodyK Pg r104 Q))))=b104_0 y3 y6 y7 y8 S KE0 Q:=by kernel_rfl
theorem loop104_0{y3 y6 y7:AV}{y80:AV}{S:Store}{Q:PoT}(I:AV→Store→Prop)(μ:AV→Store→Nat)(h0:I y80 S)
    (hr:∀(y8:AV) (S:Store),I y8 S→∀ KE0:KeT,(∀(y8':AV) (S':Store),I y8' S'→μ y8' S'<μ y8 S→KE0 18 (env104_0 y3 y6 y7 y8') S')→b104_0 y3 y6 y7 y8 S KE0 Q):
    loopV lv104_0 (vc Pg (c104.at_ [1,1,0,1,0,0]) (ms104.drop 1)) 18 (env104_0 y3 y6 y7 y80) S (blockK 0 (seqK (vc Pg (c104.at_ [1,1,1]) (ms104.drop 1)) (bodyK Pg r104 Q))):=by
 refine⟨fun n e S=>n=18∧∃ y8:AV,e=(env104_0 y3 y6 y7 y8)∧I y8 S,fun _ e S=>μ (e.getD 3 .j) S,?_,?_⟩
 ·exact⟨_,_,Wk.refl _ _,rfl,_,rfl,h0⟩
 ·rintro _ e S ⟨rfl,y8,rfl,hI⟩
  exact(b104_0_eq _ _ _ _ _ _ _).mpr (hr y8 S hI _ (fun y8' S' hI' hm=>⟨_,_,Wk.refl _ _,⟨rfl,_,rfl,hI'⟩,hm⟩))
def c23:Code:=(Tryz.f23.body).getD .skip
def ms23:List (List Nat):=[[]]
def m23(x0:AV)(S:Store)(Q:PoT):Prop:=
 boxN 29 8 x0 S fun c S=>boxN 56 2 (.a [.v (.int .i64 0),.nl]) S fun d S=>shift c 0 S fun e S=>ld1 e S fun f S=>shift c 1 S fun g S=>ld1 g S fun h S=>lenS h S fun i S=>bin .add 0 f i S fun k S=>shift c 2 S fun l S=>ld1 l S fun m S=>bld [(0,1),(1,1)] [.v (.int .i64 0),.nl] [(0,k),(1,m)] S fun n S=>stN 2 d n S fun o S=>ldN 2 d S fun p _=>Q (.ret p) S
theorem calls23{x0:AV}{S:Store}{Q:PoT}(h:m23 x0 S Q):ACalls Pg 23 [x0] S Q:=
 calls_of_vc (fn:=Tryz.f23) (c:=c23) (n:=12) Tryz.func23 (by kernel_rfl) (by kernel_rfl) (by kernel_rfl) ms23 (Eq.mpr (by kernel_rfl) h)
def c30:Code:=(Tryz.f30.body).getD .skip
def ms30:List (List Nat):=[[]]
def m30(x0:AV)(S:Store)(Q:PoT):Prop:=
 boxN 29 8 x0 S fun c S=>boxN 56 2 (.a [.v (.int .i64 0),.nl]) S fun d S=>shift c 0 S fun e S=>ld1 e S fun f S=>shift c 1 S fun g S=>ld1 g S fun h S=>lenS h S fun i S=>bin .add 0 f i S fun k S=>shift c 2 S fun l S=>ld1 l S fun m S=>bld [(0,1),(1,1)] [.v (.int .i64 0),.nl] [(0,k),(1,m)] S fun n S=>stN 2 d n S fun o S=>ldN 2 d S fun p _=>Q (.ret p) S
theorem calls30{x0:AV}{S:Store}{Q:PoT}(h:m30 x0 S Q):ACalls Pg 30 [x0] S Q:=
 calls_of_vc (fn:=Tryz.f30) (c:=c30) (n:=12) Tryz.func30 (by kernel_rfl) (by kernel_rfl) (by kernel_rfl) ms30 (Eq.mpr (by kernel_rfl) h)
def c51:Code:=(Tryz.f51.body).getD .skip
def ms51:List (List Nat):=[[]]
def m51(x0:AV)(S:Store)(Q:PoT):Prop:=
 boxN 29 8 x0 S fun a S=>mkM (.i .i32) S fun c S=>shift a 0 S fun d S=>ld1 d S fun e S=>updM (.i .i32) c (.v (.int .i32 105)) e S fun f S=>shift a 1 S fun g S=>ld1 g S fun h S=>lenS h S fun k S=>updM (.i .i32) c (.v (.int .i32 108)) k S fun l S=>shift a 3 S fun m S=>ld1 m S fun n S=>lenS n S fun o S=>updM (.i .i32) c (.v (.int .i32 111)) o S fun p S=>shift a 4 S fun q S=>ld1 q S fun r S=>lenS r S fun s S=>updM (.i .i32) c (.v (.int .i32 98)) s S fun t S=>shift a 5 S fun u S=>ld1 u S fun w S=>lenS w S fun x S=>updM (.i .i32) c (.v (.int .i32 99)) x S fun y S=>shift a 6 S fun z S=>ld1 z S fun A S=>lenS A S fun B S=>updM (.i .i32) c (.v (.int .i32 102)) B S fun C S=>Q (.ret c) S
theorem calls51{x0:AV}{S:Store}{Q:PoT}(h:m51 x0 S Q):ACalls Pg 51 [x0] S Q:=
 calls_of_vc (fn:=Tryz.f51) (c:=c51) (n:=22) Tryz.func51 (by kernel_rfl) (by kernel_rfl) (by kernel_rfl) ms51 (Eq.mpr (by kernel_rfl) h)
def c69:Code:=(Tryz.f69.body).getD .skip
def ms69:List (List Nat):=[[]]
def m69(x0 x1:AV)(S:Store)(Q:PoT):Prop:=
 boxN 29 8 x0 S fun a S=>callF Pg 110 [x1] S Q fun c S=>bin .lss 0 c (.v (.int .i64 0)) S fun d S=>onB d fun b=>gd b (Q (.ret (.v (.int .i64 0))) S) (shift a 0 S fun e S=>ld1 e S fun f S=>shift a 1 S fun g S=>ld1 g S fun h S=>lenS h S fun i S=>shift a 3 S fun k S=>ld1 k S fun l S=>lenS l S fun m S=>shift a 4 S fun n S=>ld1 n S fun o S=>lenS o S fun p S=>shift a 5 S fun q S=>ld1 q S fun r S=>lenS r S fun s S=>shift a 6 S fun t S=>ld1 t S fun u S=>lenS u S fun w S=>bslN 3 1 6 [.v (.int .i64 0)] [(0,f),(1,i),(2,m),(3,p),(4,s),(5,w)] S fun x S=>ixS 3 1 x c S fun y S=>ld1 y S fun z S=>Q (.ret z) S)
theorem calls69{x0 x1:AV}{S:Store}{Q:PoT}(h:m69 x0 x1 S Q):ACalls Pg 69 [x0,x1] S Q:=
 calls_of_vc (fn:=Tryz.f69) (c:=c69) (n:=31) Tryz.func69 (by kernel_rfl) (by kernel_rfl) (by kernel_rfl) ms69 (Eq.mpr (by kernel_rfl) h)
def c109:Code:=(Tryz.f109.body).getD .skip
def r109:List ResultVar:=Tryz.f109.results.toList
def env109_0(y0 y3:AV):List AV:=[y0,y3]
def lv109_0:List Nat:=[0,3]
def ms109:List (List Nat):=[lv109_0,[]]
def m109(x0:AV)(S:Store)(Q:PoT):Prop:=
 loopV lv109_0 (vc Pg (c109.at_ [1,0,1,0,0]) (ms109.drop 1)) 28 (env109_0 x0 (.v (.int .i64 0))) S (blockK 0 (seqK (vc Pg (c109.at_ [1,1]) (ms109.drop 1)) (bodyK Pg r109 Q)))
theorem calls109{x0:AV}{S:Store}{Q:PoT}(h:m109 x0 S Q):ACalls Pg 109 [x0] S Q:=
 calls_of_vc (fn:=Tryz.f109) (c:=c109) (n:=28) Tryz.func109 (by kernel_rfl) (by kernel_rfl) (by kernel_rfl) ms109 (Eq.mpr (by kernel_rfl) h)
def b109_0(y0 y3:AV)(S:Store)(KE0:KeT)(Q:PoT):Prop:=
 lenStr y0 S fun a S=>bin .lss 0 y3 a S fun c S=>onB c fun b=>gd b (ixStr y0 y3 S fun d S=>bin .lss 0 d (.v (.int .u8 33)) S fun e S=>onB e fun b=>gd b (Q (.ret (.v (.bool false))) S) (ixStr y0 y3 S fun f S=>bin .gtr 0 f (.v (.int .u8 126)) S fun g S=>onB g fun b=>gd b (Q (.ret (.v (.bool false))) S) (bin .add 0 y3 (.v (.int .i64 1)) S fun h S=>KE0 28 (env109_0 y0 h) S))) (lenStr y0 S fun i S=>bin .gtr 0 i (.v (.int .i64 0)) S fun k S=>onB k fun b=>gd b (lenStr y0 S fun l S=>bin .leq 0 l (.v (.int .i64 20)) S fun m S=>Q (.ret m) S) (Q (.ret (.v (.bool false))) S))
theorem b109_0_eq(y0 y3:AV)(S:Store)(KE0:KeT)(Q:PoT):vc Pg (c109.at_ [1,0,1,0,0]) (ms109.drop 1) (mkE 28 lv109_0 (env109_0 y0 y3)) S (thenK (fgK lv109_0 KE0) (blockK 0 (seqK (vc Pg (c109.at_ [1,1]) (ms109.drop 1)) (bodyK Pg r109 Q))))=b109_0 y0 y3 S KE0 Q:=by kernel_rfl
theorem loop109_0{y0:AV}{y30:AV}{S:Store}{Q:PoT}(I:AV→Store→Prop)(μ:AV→Store→Nat)(h0:I y30 S)
    (hr:∀(y3:AV) (S:Store),I y3 S→∀ KE0:KeT,(∀(y3':AV) (S':Store),I y3' S'→μ y3' S'<μ y3 S→KE0 28 (env109_0 y0 y3') S')→b109_0 y0 y3 S KE0 Q):
    loopV lv109_0 (vc Pg (c109.at_ [1,0,1,0,0]) (ms109.drop 1)) 28 (env109_0 y0 y30) S (blockK 0 (seqK (vc Pg (c109.at_ [1,1]) (ms109.drop 1)) (bodyK Pg r109 Q))):=by
 refine⟨fun n e S=>n=28∧∃ y3:AV,e=(env109_0 y0 y3)∧I y3 S,fun _ e S=>μ (e.getD 1 .j) S,?_,?_⟩
 ·exact⟨_,_,Wk.refl _ _,rfl,_,rfl,h0⟩
 ·rintro _ e S ⟨rfl,y3,rfl,hI⟩
  exact(b109_0_eq _ _ _ _ _).mpr (hr y3 S hI _ (fun y3' S' hI' hm=>⟨_,_,Wk.refl _ _,⟨rfl,_,rfl,hI'⟩,hm⟩))
def c102:Code:=(Tryz.f102.body).getD .skip
def r102:List ResultVar:=Tryz.f102.results.toList
def env102_0(y0 y5 y6:AV):List AV:=[y0,y5,y6]
def lv102_0:List Nat:=[0,5,6]
def ms102:List (List Nat):=[lv102_0,[]]
def m102(x0:AV)(S:Store)(Q:PoT):Prop:=
 lenStr x0 S fun a S=>loopV lv102_0 (vc Pg (c102.at_ [1,0,1,0,0]) (ms102.drop 1)) 27 (env102_0 x0 a (.v (.int .i64 0))) S (blockK 0 (seqK (vc Pg (c102.at_ [1,1]) (ms102.drop 1)) (bodyK Pg r102 Q)))
theorem calls102{x0:AV}{S:Store}{Q:PoT}(h:m102 x0 S Q):ACalls Pg 102 [x0] S Q:=
 calls_of_vc (fn:=Tryz.f102) (c:=c102) (n:=27) Tryz.func102 (by kernel_rfl) (by kernel_rfl) (by kernel_rfl) ms102 (Eq.mpr (by kernel_rfl) h)
def b102_0(y0 y5 y6:AV)(S:Store)(KE0:KeT)(Q:PoT):Prop:=
 bin .lss 0 y6 y5 S fun a S=>onB a fun b=>gd b (ixStr y0 y6 S fun c S=>bin .leq 0 c (.v (.int .u8 32)) S fun d S=>onB d fun b=>gd b (Q (.ret (.v (.bool false))) S) (ixStr y0 y6 S fun e S=>bin .gtr 0 e (.v (.int .u8 126)) S fun f S=>onB f fun b=>gd b (Q (.ret (.v (.bool false))) S) (bin .add 0 y6 (.v (.int .i64 1)) S fun g S=>KE0 27 (env102_0 y0 y5 g) S))) (bin .neq 0 y0 (.v (.string { data:=#[] })) S fun h S=>onB h fun b=>gd b (lenStr y0 S fun i S=>bin .leq 0 i (.v (.int .i64 20)) S fun k S=>Q (.ret k) S) (Q (.ret (.v (.bool false))) S))
theorem b102_0_eq(y0 y5 y6:AV)(S:Store)(KE0:KeT)(Q:PoT):vc Pg (c102.at_ [1,0,1,0,0]) (ms102.drop 1) (mkE 27 lv102_0 (env102_0 y0 y5 y6)) S (thenK (fgK lv102_0 KE0) (blockK 0 (seqK (vc Pg (c102.at_ [1,1]) (ms102.drop 1)) (bodyK Pg r102 Q))))=b102_0 y0 y5 y6 S KE0 Q:=by kernel_rfl
theorem loop102_0{y0 y5:AV}{y60:AV}{S:Store}{Q:PoT}(I:AV→Store→Prop)(μ:AV→Store→Nat)(h0:I y60 S)
    (hr:∀(y6:AV) (S:Store),I y6 S→∀ KE0:KeT,(∀(y6':AV) (S':Store),I y6' S'→μ y6' S'<μ y6 S→KE0 27 (env102_0 y0 y5 y6') S')→b102_0 y0 y5 y6 S KE0 Q):
    loopV lv102_0 (vc Pg (c102.at_ [1,0,1,0,0]) (ms102.drop 1)) 27 (env102_0 y0 y5 y60) S (blockK 0 (seqK (vc Pg (c102.at_ [1,1]) (ms102.drop 1)) (bodyK Pg r102 Q))):=by
 refine⟨fun n e S=>n=27∧∃ y6:AV,e=(env102_0 y0 y5 y6)∧I y6 S,fun _ e S=>μ (e.getD 2 .j) S,?_,?_⟩
 ·exact⟨_,_,Wk.refl _ _,rfl,_,rfl,h0⟩
 ·rintro _ e S ⟨rfl,y6,rfl,hI⟩
  exact(b102_0_eq _ _ _ _ _ _).mpr (hr y6 S hI _ (fun y6' S' hI' hm=>⟨_,_,Wk.refl _ _,⟨rfl,_,rfl,hI'⟩,hm⟩))
def c110:Code:=(Tryz.f110.body).getD .skip
def r110:List ResultVar:=Tryz.f110.results.toList
def env110_0(y0 y3 y4:AV):List AV:=[y0,y3,y4]
def lv110_0:List Nat:=[0,3,4]
def ms110:List (List Nat):=[lv110_0,[]]
def m110(x0:AV)(S:Store)(Q:PoT):Prop:=
 loopV lv110_0 (vc Pg (c110.at_ [1,1,0,1,0,0]) (ms110.drop 1)) 17 (env110_0 x0 (.v (.string { data:=#[105,108,111,98,99,102] })) (.v (.int .i64 0))) S (blockK 0 (seqK (vc Pg (c110.at_ [1,1,1]) (ms110.drop 1)) (bodyK Pg r110 Q)))
theorem calls110{x0:AV}{S:Store}{Q:PoT}(h:m110 x0 S Q):ACalls Pg 110 [x0] S Q:=
 calls_of_vc (fn:=Tryz.f110) (c:=c110) (n:=17) Tryz.func110 (by kernel_rfl) (by kernel_rfl) (by kernel_rfl) ms110 (Eq.mpr (by kernel_rfl) h)
def b110_0(y0 y3 y4:AV)(S:Store)(KE0:KeT)(Q:PoT):Prop:=
 lenStr y3 S fun a S=>bin .lss 0 y4 a S fun c S=>onB c fun b=>gd b (ixStr y3 y4 S fun d S=>bin .eql 0 d y0 S fun e S=>onB e fun b=>gd b (Q (.ret y4) S) (bin .add 0 y4 (.v (.int .i64 1)) S fun f S=>KE0 17 (env110_0 y0 y3 f) S)) (Q (.ret (.v (.int .i64 (-1)))) S)
theorem b110_0_eq(y0 y3 y4:AV)(S:Store)(KE0:KeT)(Q:PoT):vc Pg (c110.at_ [1,1,0,1,0,0]) (ms110.drop 1) (mkE 17 lv110_0 (env110_0 y0 y3 y4)) S (thenK (fgK lv110_0 KE0) (blockK 0 (seqK (vc Pg (c110.at_ [1,1,1]) (ms110.drop 1)) (bodyK Pg r110 Q))))=b110_0 y0 y3 y4 S KE0 Q:=by kernel_rfl
theorem loop110_0{y0 y3:AV}{y40:AV}{S:Store}{Q:PoT}(I:AV→Store→Prop)(μ:AV→Store→Nat)(h0:I y40 S)
    (hr:∀(y4:AV) (S:Store),I y4 S→∀ KE0:KeT,(∀(y4':AV) (S':Store),I y4' S'→μ y4' S'<μ y4 S→KE0 17 (env110_0 y0 y3 y4') S')→b110_0 y0 y3 y4 S KE0 Q):
    loopV lv110_0 (vc Pg (c110.at_ [1,1,0,1,0,0]) (ms110.drop 1)) 17 (env110_0 y0 y3 y40) S (blockK 0 (seqK (vc Pg (c110.at_ [1,1,1]) (ms110.drop 1)) (bodyK Pg r110 Q))):=by
 refine⟨fun n e S=>n=17∧∃ y4:AV,e=(env110_0 y0 y3 y4)∧I y4 S,fun _ e S=>μ (e.getD 2 .j) S,?_,?_⟩
 ·exact⟨_,_,Wk.refl _ _,rfl,_,rfl,h0⟩
 ·rintro _ e S ⟨rfl,y4,rfl,hI⟩
  exact(b110_0_eq _ _ _ _ _ _).mpr (hr y4 S hI _ (fun y4' S' hI' hm=>⟨_,_,Wk.refl _ _,⟨rfl,_,rfl,hI'⟩,hm⟩))
def c103:Code:=(Tryz.f103.body).getD .skip
def r103:List ResultVar:=Tryz.f103.results.toList
def env103_0(y0 y5:AV):List AV:=[y0,y5]
def lv103_0:List Nat:=[0,5]
def ms103:List (List Nat):=[lv103_0,[]]
def m103(x0:AV)(S:Store)(Q:PoT):Prop:=
 rngS (.v (.string { data:=#[105,108,111,98,99,102] })) S fun a S=>loopV lv103_0 (vc Pg (c103.at_ [1,0,1,0,0]) (ms103.drop 1)) 15 (env103_0 x0 a) S (blockK 0 (seqK (vc Pg (c103.at_ [1,1]) (ms103.drop 1)) (bodyK Pg r103 Q)))
theorem calls103{x0:AV}{S:Store}{Q:PoT}(h:m103 x0 S Q):ACalls Pg 103 [x0] S Q:=
 calls_of_vc (fn:=Tryz.f103) (c:=c103) (n:=15) Tryz.func103 (by kernel_rfl) (by kernel_rfl) (by kernel_rfl) ms103 (Eq.mpr (by kernel_rfl) h)
def b103_0(y0 y5:AV)(S:Store)(KE0:KeT)(Q:PoT):Prop:=
 nextM true y5 S fun a S=>extr a 0 S fun c S=>onB c fun b=>gd b (extr a 1 S fun d S=>extr a 2 S fun e S=>convI .i32 y0 S fun f S=>bin .eql 0 f e S fun g S=>onB g fun b=>gd b (Q (.ret d) S) (KE0 15 (env103_0 y0 y5) S)) (Q (.ret (.v (.int .i64 (-1)))) S)
theorem b103_0_eq(y0 y5:AV)(S:Store)(KE0:KeT)(Q:PoT):vc Pg (c103.at_ [1,0,1,0,0]) (ms103.drop 1) (mkE 15 lv103_0 (env103_0 y0 y5)) S (thenK (fgK lv103_0 KE0) (blockK 0 (seqK (vc Pg (c103.at_ [1,1]) (ms103.drop 1)) (bodyK Pg r103 Q))))=b103_0 y0 y5 S KE0 Q:=by kernel_rfl
theorem loop103_0{y0 y5:AV}{S:Store}{Q:PoT}(I:Store→Prop)(μ:Store→Nat)(h0:I  S)
    (hr:∀(S:Store),I  S→∀ KE0:KeT,(∀(S':Store),I  S'→μ  S'<μ  S→KE0 15 (env103_0 y0 y5) S')→b103_0 y0 y5 S KE0 Q):
    loopV lv103_0 (vc Pg (c103.at_ [1,0,1,0,0]) (ms103.drop 1)) 15 (env103_0 y0 y5) S (blockK 0 (seqK (vc Pg (c103.at_ [1,1]) (ms103.drop 1)) (bodyK Pg r103 Q))):=by
 refine⟨fun n e S=>n=15∧e=(env103_0 y0 y5)∧I  S,fun _ e S=>μ  S,?_,?_⟩
 ·exact⟨_,_,Wk.refl _ _,rfl,rfl,h0⟩
 ·rintro _ e S ⟨rfl,rfl,hI⟩
  exact(b103_0_eq _ _ _ _ _).mpr (hr  S hI _ (fun  S' hI' hm=>⟨_,_,Wk.refl _ _,⟨rfl,rfl,hI'⟩,hm⟩))
def c45:Code:=(Tryz.f45.body).getD .skip
def ms45:List (List Nat):=[[]]
def m45(x0:AV)(S:Store)(Q:PoT):Prop:=
 boxN 56 2 x0 S fun a S=>shift a 0 S fun c S=>ld1 c S fun d S=>bin .add 0 d (.v (.int .i64 1)) S fun e S=>shift a 1 S fun f S=>ld1 f S fun g S=>lenS g S fun h S=>bin .add 0 e h S fun i S=>Q (.ret i) S
theorem calls45{x0:AV}{S:Store}{Q:PoT}(h:m45 x0 S Q):ACalls Pg 45 [x0] S Q:=
 calls_of_vc (fn:=Tryz.f45) (c:=c45) (n:=10) Tryz.func45 (by kernel_rfl) (by kernel_rfl) (by kernel_rfl) ms45 (Eq.mpr (by kernel_rfl) h)
def c66:Code:=(Tryz.f66.body).getD .skip
def ms66:List (List Nat):=[[]]
def m66(x0 x1:AV)(S:Store)(Q:PoT):Prop:=
 boxN 56 2 x0 S fun a S=>shift a 0 S fun c S=>ld1 c S fun d S=>bin .geq 0 d (.v (.int .i64 0)) S fun e S=>onB e fun b=>gd b (shift a 0 S fun f S=>ld1 f S fun g S=>bin .leq 0 g (.v (.int .i64 2000)) S fun h S=>onB h fun b=>gd b (bin .geq 0 x1 (.v (.int .i64 0)) S fun i S=>onB i fun b=>gd b (bin .quo 0 x1 (.v (.int .i64 2)) S fun k S=>ldN 2 a S fun l S=>callF Pg 45 [l] S Q fun m S=>bin .lss 0 k m S fun n S=>Q (.ret n) S) (Q (.ret (.v (.bool false))) S)) (Q (.ret (.v (.bool false))) S)) (Q (.ret (.v (.bool false))) S)
theorem calls66{x0 x1:AV}{S:Store}{Q:PoT}(h:m66 x0 x1 S Q):ACalls Pg 66 [x0,x1] S Q:=
 calls_of_vc (fn:=Tryz.f66) (c:=c66) (n:=24) Tryz.func66 (by kernel_rfl) (by kernel_rfl) (by kernel_rfl) ms66 (Eq.mpr (by kernel_rfl) h)
def c65:Code:=(Tryz.f65.body).getD .skip
def r65:List ResultVar:=Tryz.f65.results.toList
def env65_0(y1 y3:AV):List AV:=[y1,y3]
def lv65_0:List Nat:=[1,3]
def env65_1(y1 y3 y6:AV):List AV:=[y1,y3,y6]
def lv65_1:List Nat:=[1,3,6]
def ms65:List (List Nat):=[lv65_0,lv65_1,[]]
def m65(x0:AV)(S:Store)(Q:PoT):Prop:=
 boxN 56 2 x0 S fun a S=>shift a 0 S fun c S=>ld1 c S fun d S=>bin .lss 0 d (.v (.int .i64 0)) S fun e S=>onB e fun b=>gd b (Q (.ret (.v (.bool false))) S) (shift a 0 S fun f S=>ld1 f S fun g S=>bin .gtr 0 g (.v (.int .i64 2000)) S fun h S=>onB h fun b=>gd b (Q (.ret (.v (.bool false))) S) (shift a 1 S fun i S=>ld1 i S fun k S=>lenS k S fun l S=>bin .gtr 0 l (.v (.int .i64 2000)) S fun m S=>onB m fun b=>gd b (Q (.ret (.v (.bool false))) S) (ldN 2 a S fun n S=>callF Pg 45 [n] S Q fun o S=>bin .gtr 0 o (.v (.int .i64 2000)) S fun p S=>onB p fun b=>gd b (Q (.ret (.v (.bool false))) S) (loopV lv65_0 (vc Pg (c65.at_ [1,1,0,1,0,0]) (ms65.drop 1)) 80 (env65_0 a (.v (.int .i64 0))) S (blockK 0 (seqK (vc Pg (c65.at_ [1,1,1]) (ms65.drop 2)) (bodyK Pg r65 Q)))))))
theorem calls65{x0:AV}{S:Store}{Q:PoT}(h:m65 x0 S Q):ACalls Pg 65 [x0] S Q:=
 calls_of_vc (fn:=Tryz.f65) (c:=c65) (n:=80) Tryz.func65 (by kernel_rfl) (by kernel_rfl) (by kernel_rfl) ms65 (Eq.mpr (by kernel_rfl) h)
def b65_0(y1 y3:AV)(S:Store)(KE0:KeT)(Q:PoT):Prop:=
 shift y1 1 S fun a S=>ld1 a S fun c S=>lenS c S fun d S=>bin .lss 0 y3 d S fun e S=>onB e fun b=>gd b ((fun S0:Store=>∃ f:AV,(shift y1 1 S fun g S=>g=f∧S=S0)∧∃ h:AV,(ld1 f S fun i S=>i=h∧S=S0)∧∃ k:AV,(ixS 90 2 h y3 S fun l S=>l=k∧S=S0)∧∃ m:AV,(ixA 2 1 k (.v (.int .i64 0)) S fun n S=>n=m∧S=S0)∧∃ o:AV,(ld1 m S fun p S=>p=o∧S=S0)∧∃ q:AV,(shift y1 1 S fun r S=>r=q∧S=S0)∧∃ s:AV,(ld1 q S fun t S=>t=s∧S=S0)∧∃ u:AV,(ixS 90 2 s y3 S fun w S=>w=u∧S=S0)∧∃ x:AV,(ixA 2 1 u (.v (.int .i64 1)) S fun y S=>y=x∧S=S0)∧∃ z:AV,(ld1 x S fun A S=>A=z∧S=S0)∧bin .lss 0 z (.v (.int .i64 2)) S fun B S=>onB B fun b=>gd b (Q (.ret (.v (.bool false))) S) (bin .quo 0 o (.v (.int .i64 2)) S fun C S=>bin .quo 0 z (.v (.int .i64 2)) S fun D S=>bin .leq 0 C D S fun E S=>onB E fun b=>gd b (Q (.ret (.v (.bool false))) S) (bin .quo 0 o (.v (.int .i64 2)) S fun F S=>shift y1 0 S fun G S=>ld1 G S fun H S=>bin .add 0 H (.v (.int .i64 1)) S fun I S=>bin .add 0 I y3 S fun J S=>bin .geq 0 F J S fun K S=>onB K fun b=>gd b (Q (.ret (.v (.bool false))) S) (loopV lv65_1 (vc Pg (c65.at_ [1,1,0,1,0,0,1,0,0,1,1,1,0,0]) (ms65.drop 2)) 80 (env65_1 y1 y3 (.v (.int .i64 0))) S (blockK 2 (blockK 1 (seqK (vc Pg (c65.at_ [1,1,0,1,0,0,1,1]) (ms65.drop 2)) (thenK (fgK lv65_0 KE0) (blockK 0 (seqK (vc Pg (c65.at_ [1,1,1]) (ms65.drop 2)) (bodyK Pg r65 Q))))))))))) S) (Q (.ret (.v (.bool true))) S)
theorem b65_0_eq(y1 y3:AV)(S:Store)(KE0:KeT)(Q:PoT):vc Pg (c65.at_ [1,1,0,1,0,0]) (ms65.drop 1) (mkE 80 lv65_0 (env65_0 y1 y3)) S (thenK (fgK lv65_0 KE0) (blockK 0 (seqK (vc Pg (c65.at_ [1,1,1]) (ms65.drop 2)) (bodyK Pg r65 Q))))=b65_0 y1 y3 S KE0 Q:=by kernel_rfl
theorem loop65_0{y1:AV}{y30:AV}{S:Store}{Q:PoT}(I:AV→Store→Prop)(μ:AV→Store→Nat)(h0:I y30 S)
    (hr:∀(y3:AV) (S:Store),I y3 S→∀ KE0:KeT,(∀(y3':AV) (S':Store),I y3' S'→μ y3' S'<μ y3 S→KE0 80 (env65_0 y1 y3') S')→b65_0 y1 y3 S KE0 Q):
    loopV lv65_0 (vc Pg (c65.at_ [1,1,0,1,0,0]) (ms65.drop 1)) 80 (env65_0 y1 y30) S (blockK 0 (seqK (vc Pg (c65.at_ [1,1,1]) (ms65.drop 2)) (bodyK Pg r65 Q))):=by
 refine⟨fun n e S=>n=80∧∃ y3:AV,e=(env65_0 y1 y3)∧I y3 S,fun _ e S=>μ (e.getD 1 .j) S,?_,?_⟩
 ·exact⟨_,_,Wk.refl _ _,rfl,_,rfl,h0⟩
 ·rintro _ e S ⟨rfl,y3,rfl,hI⟩
  exact(b65_0_eq _ _ _ _ _).mpr (hr y3 S hI _ (fun y3' S' hI' hm=>⟨_,_,Wk.refl _ _,⟨rfl,_,rfl,hI'⟩,hm⟩))
def b65_1(y1 y3 y6:AV)(S:Store)(KE1:KeT)(KE0:KeT)(Q:PoT):Prop:=
 bin .lss 0 y6 y3 S fun a S=>onB a fun b=>gd b ((fun S0:Store=>∃ c:AV,(shift y1 1 S fun d S=>d=c∧S=S0)∧∃ e:AV,(ld1 c S fun f S=>f=e∧S=S0)∧∃ g:AV,(ixS 90 2 e y6 S fun h S=>h=g∧S=S0)∧∃ i:AV,(ldN 2 g S fun k S=>k=i∧S=S0)∧∃ l:AV,(shift y1 1 S fun m S=>m=l∧S=S0)∧∃ n:AV,(ld1 l S fun o S=>o=n∧S=S0)∧∃ p:AV,(ixS 90 2 n y3 S fun q S=>q=p∧S=S0)∧∃ r:AV,(ldN 2 p S fun s S=>s=r∧S=S0)∧∃ t:AV,(binP .i64 .eql i r S fun u S=>u=t∧S=S0)∧onB t fun b=>gd b (Q (.ret (.v (.bool false))) S) (bin .add 0 y6 (.v (.int .i64 1)) S fun w S=>KE1 80 (env65_1 y1 y3 w) S)) S) (bin .add 0 y3 (.v (.int .i64 1)) S fun x S=>KE0 80 (env65_0 y1 x) S)
theorem b65_1_eq(y1 y3 y6:AV)(S:Store)(KE1:KeT)(KE0:KeT)(Q:PoT):vc Pg (c65.at_ [1,1,0,1,0,0,1,0,0,1,1,1,0,0]) (ms65.drop 2) (mkE 80 lv65_1 (env65_1 y1 y3 y6)) S (thenK (fgK lv65_1 KE1) (blockK 2 (blockK 1 (seqK (vc Pg (c65.at_ [1,1,0,1,0,0,1,1]) (ms65.drop 2)) (thenK (fgK lv65_0 KE0) (blockK 0 (seqK (vc Pg (c65.at_ [1,1,1]) (ms65.drop 2)) (bodyK Pg r65 Q))))))))=b65_1 y1 y3 y6 S KE1 KE0 Q:=by kernel_rfl
theorem loop65_1{y1 y3:AV}{y60:AV}{S:Store}{KE0:KeT}{Q:PoT}(I:AV→Store→Prop)(μ:AV→Store→Nat)(h0:I y60 S)
    (hr:∀(y6:AV) (S:Store),I y6 S→∀ KE1:KeT,(∀(y6':AV) (S':Store),I y6' S'→μ y6' S'<μ y6 S→KE1 80 (env65_1 y1 y3 y6') S')→b65_1 y1 y3 y6 S KE1 KE0 Q):
    loopV lv65_1 (vc Pg (c65.at_ [1,1,0,1,0,0,1,0,0,1,1,1,0,0]) (ms65.drop 2)) 80 (env65_1 y1 y3 y60) S (blockK 2 (blockK 1 (seqK (vc Pg (c65.at_ [1,1,0,1,0,0,1,1]) (ms65.drop 2)) (thenK (fgK lv65_0 KE0) (blockK 0 (seqK (vc Pg (c65.at_ [1,1,1]) (ms65.drop 2)) (bodyK Pg r65 Q))))))):=by
 refine⟨fun n e S=>n=80∧∃ y6:AV,e=(env65_1 y1 y3 y6)∧I y6 S,fun _ e S=>μ (e.getD 2 .j) S,?_,?_⟩
 ·exact⟨_,_,Wk.refl _ _,rfl,_,rfl,h0⟩
 ·rintro _ e S ⟨rfl,y6,rfl,hI⟩
  exact(b65_1_eq _ _ _ _ _ _ _).mpr (hr y6 S hI _ (fun y6' S' hI' hm=>⟨_,_,Wk.refl _ _,⟨rfl,_,rfl,hI'⟩,hm⟩))
def c126:Code:=(Tryz.f126.body).getD .skip
def r126:List ResultVar:=Tryz.f126.results.toList
def env126_0(y0 y13 y14 y15:AV):List AV:=[y0,y13,y14,y15]
def lv126_0:List Nat:=[0,13,14,15]
def ms126:List (List Nat):=[lv126_0,[]]
def m126(x0:AV)(S:Store)(Q:PoT):Prop:=
 mkM (.p .i64) S fun a S=>nilChk x0 S fun c S=>shift c 4 S fun d S=>stN 1 d a S fun e S=>nilChk x0 S fun f S=>shift f 3 S fun g S=>ld1 g S fun h S=>lenS h S fun i S=>loopV lv126_0 (vc Pg (c126.at_ [1,1,0,0]) (ms126.drop 1)) 38 (env126_0 x0 h i (.v (.int .i64 0))) S (blockK 0 (bodyK Pg r126 Q))
theorem calls126{x0:AV}{S:Store}{Q:PoT}(h:m126 x0 S Q):ACalls Pg 126 [x0] S Q:=
 calls_of_vc (fn:=Tryz.f126) (c:=c126) (n:=38) Tryz.func126 (by kernel_rfl) (by kernel_rfl) (by kernel_rfl) ms126 (Eq.mpr (by kernel_rfl) h)
def b126_0(y0 y13 y14 y15:AV)(S:Store)(KE0:KeT)(Q:PoT):Prop:=
 bin .lss 0 y15 y14 S fun c S=>onB c fun b=>gd b (ixS 90 2 y13 y15 S fun d S=>ldN 2 d S fun e S=>boxN 90 2 (.a [.v (.int .i64 0),.v (.int .i64 0)]) S fun f S=>stN 2 f e S fun g S=>(fun S0:Store=>∃ h:AV,(nilChk y0 S fun i S=>i=h∧S=S0)∧∃ k:AV,(shift h 4 S fun l S=>l=k∧S=S0)∧∃ m:AV,(ld1 k S fun n S=>n=m∧S=S0)∧∃ o:AV,(ldN 2 f S fun q S=>q=o∧S=S0)∧∃ r:AV,(lkM (.p .i64) (.v (.int .i64 0)) true m o S fun s S=>s=r∧S=S0)∧∃ u:AV,(extr r 0 S fun w S=>w=u∧S=S0)∧∃ x:AV,(extr r 1 S fun y S=>y=x∧S=S0)∧un .not x S fun z S=>onB z fun b=>gd b (∃ A:AV,(∀ T:Store,Keep S T→nilChk y0 T fun B S=>B=A∧S=T)∧∃ C:AV,(∀ T:Store,Keep S T→shift A 4 T fun D S=>D=C∧S=T)∧∃ E:AV,(∀ T:Store,Keep S T→ld1 C T fun F S=>F=E∧S=T)∧∃ G:AV,(∀ T:Store,Keep S T→ldN 2 f T fun H S=>H=G∧S=T)∧updM (.p .i64) E G y15 S fun I S=>bin .add 0 y15 (.v (.int .i64 1)) S fun J S=>KE0 38 (env126_0 y0 y13 y14 J) S) (bin .add 0 y15 (.v (.int .i64 1)) S fun K S=>KE0 38 (env126_0 y0 y13 y14 K) S)) S) (Q (.ret (.t [])) S)
theorem b126_0_eq(y0 y13 y14 y15:AV)(S:Store)(KE0:KeT)(Q:PoT):vc Pg (c126.at_ [1,1,0,0]) (ms126.drop 1) (mkE 38 lv126_0 (env126_0 y0 y13 y14 y15)) S (thenK (fgK lv126_0 KE0) (blockK 0 (bodyK Pg r126 Q)))=b126_0 y0 y13 y14 y15 S KE0 Q:=by kernel_rfl
theorem loop126_0{y0 y13 y14:AV}{y150:AV}{S:Store}{Q:PoT}(I:AV→Store→Prop)(μ:AV→Store→Nat)(h0:I y150 S)
    (hr:∀(y15:AV) (S:Store),I y15 S→∀ KE0:KeT,(∀(y15':AV) (S':Store),I y15' S'→μ y15' S'<μ y15 S→KE0 38 (env126_0 y0 y13 y14 y15') S')→b126_0 y0 y13 y14 y15 S KE0 Q):
    loopV lv126_0 (vc Pg (c126.at_ [1,1,0,0]) (ms126.drop 1)) 38 (env126_0 y0 y13 y14 y150) S (blockK 0 (bodyK Pg r126 Q)):=by
 refine⟨fun n e S=>n=38∧∃ y15:AV,e=(env126_0 y0 y13 y14 y15)∧I y15 S,fun _ e S=>μ (e.getD 3 .j) S,?_,?_⟩
 ·exact⟨_,_,Wk.refl _ _,rfl,_,rfl,h0⟩
 ·rintro _ e S ⟨rfl,y15,rfl,hI⟩
  exact(b126_0_eq _ _ _ _ _ _ _).mpr (hr y15 S hI _ (fun y15' S' hI' hm=>⟨_,_,Wk.refl _ _,⟨rfl,_,rfl,hI'⟩,hm⟩))
def c118:Code:=(Tryz.f118.body).getD .skip
def ms118:List (List Nat):=[[126,125]]
def m118(x0:AV)(S:Store)(Q:PoT):Prop:=
 nilChk x0 S fun a S=>shift a 0 S fun c S=>callF Pg 125 [c,(.f (.func 126) [x0] [])] S Q fun d S=>nilChk x0 S fun e S=>shift e 4 S fun g S=>ld1 g S fun h S=>lenM h S fun i S=>Q (.ret i) S
theorem calls118{x0:AV}{S:Store}{Q:PoT}(h:m118 x0 S Q):ACalls Pg 118 [x0] S Q:=
 calls_of_vc (fn:=Tryz.f118) (c:=c118) (n:=14) Tryz.func118 (by kernel_rfl) (by kernel_rfl) (by kernel_rfl) ms118 (Eq.mpr (by kernel_rfl) h)
def c99:Code:=(Tryz.f99.body).getD .skip
def r99:List ResultVar:=Tryz.f99.results.toList
def env99_0(y1 y2 y27 y28 y29:AV):List AV:=[y1,y2,y27,y28,y29]
def lv99_0:List Nat:=[1,2,27,28,29]
def ms99:List (List Nat):=[lv99_0,[118]]
def m99(x0 x1:AV)(S:Store)(Q:PoT):Prop:=
 boxN 56 2 x0 S fun a S=>shift a 0 S fun c S=>ld1 c S fun d S=>bin .lss 0 d (.v (.int .i64 0)) S fun e S=>onB e fun b=>gd b (Q (.ret (.v (.bool false))) S) (shift a 0 S fun f S=>ld1 f S fun g S=>bin .gtr 0 g (.v (.int .i64 2000)) S fun h S=>onB h fun b=>gd b (Q (.ret (.v (.bool false))) S) (shift a 1 S fun i S=>ld1 i S fun k S=>lenS k S fun l S=>bin .gtr 0 l (.v (.int .i64 2000)) S fun m S=>onB m fun b=>gd b (Q (.ret (.v (.bool false))) S) (ldN 2 a S fun n S=>callF Pg 98 [n] S Q fun o S=>bin .gtr 0 o (.v (.int .i64 2000)) S fun p S=>onB p fun b=>gd b (Q (.ret (.v (.bool false))) S) (shift a 1 S fun q S=>ld1 q S fun r S=>lenS r S fun s S=>loopV lv99_0 (vc Pg (c99.at_ [1,1,0,1,0,0]) (ms99.drop 1)) 49 (env99_0 x1 a r s (.v (.int .i64 0))) S (blockK 0 (seqK (vc Pg (c99.at_ [1,1,1]) (ms99.drop 1)) (bodyK Pg r99 Q)))))))
theorem calls99{x0 x1:AV}{S:Store}{Q:PoT}(h:m99 x0 x1 S Q):ACalls Pg 99 [x0,x1] S Q:=
 calls_of_vc (fn:=Tryz.f99) (c:=c99) (n:=49) Tryz.func99 (by kernel_rfl) (by kernel_rfl) (by kernel_rfl) ms99 (Eq.mpr (by kernel_rfl) h)
def b99_0(y1 y2 y27 y28 y29:AV)(S:Store)(KE0:KeT)(Q:PoT):Prop:=
 bin .lss 0 y29 y28 S fun c S=>onB c fun b=>gd b (ixS 90 2 y27 y29 S fun d S=>ldN 2 d S fun e S=>boxN 90 2 (.a [.v (.int .i64 0),.v (.int .i64 0)]) S fun f S=>stN 2 f e S fun g S=>ldN 2 f S fun h S=>shift y2 0 S fun i S=>ld1 i S fun k S=>bin .add 0 k (.v (.int .i64 1)) S fun l S=>bin .add 0 l y29 S fun m S=>callF Pg 117 [h,m] S Q fun n S=>un .not n S fun o S=>onB o fun b=>gd b (Q (.ret (.v (.bool false))) S) (bin .add 0 y29 (.v (.int .i64 1)) S fun p S=>KE0 49 (env99_0 y1 y2 y27 y28 p) S)) (∃ q:AV,(∀ T:Store,Keep S T→shift y2 1 T fun r S=>r=q∧S=T)∧∃ s:AV,(∀ T:Store,Keep S T→ld1 q T fun t S=>t=s∧S=T)∧∃ u:AV,(∀ T:Store,Keep S T→lenS s T fun w S=>w=u∧S=T)∧callF Pg 118 [y1] S (fun _ _=>False) fun x S=>(∀ T:Store,Keep S T→lenS s T fun y S=>y=u∧S=T)∧(∀ T:Store,Keep S T→ld1 q T fun z S=>z=s∧S=T)∧(∀ T:Store,Keep S T→shift y2 1 T fun A S=>A=q∧S=T)∧∃ B:AV,(∀ T:Store,Keep S T→bin .eql 0 x u T fun C S=>C=B∧S=T)∧Q (.ret B) S)
theorem b99_0_eq(y1 y2 y27 y28 y29:AV)(S:Store)(KE0:KeT)(Q:PoT):vc Pg (c99.at_ [1,1,0,1,0,0]) (ms99.drop 1) (mkE 49 lv99_0 (env99_0 y1 y2 y27 y28 y29)) S (thenK (fgK lv99_0 KE0) (blockK 0 (seqK (vc Pg (c99.at_ [1,1,1]) (ms99.drop 1)) (bodyK Pg r99 Q))))=b99_0 y1 y2 y27 y28 y29 S KE0 Q:=by kernel_rfl
theorem loop99_0{y1 y2 y27 y28:AV}{y290:AV}{S:Store}{Q:PoT}(I:AV→Store→Prop)(μ:AV→Store→Nat)(h0:I y290 S)
    (hr:∀(y29:AV) (S:Store),I y29 S→∀ KE0:KeT,(∀(y29':AV) (S':Store),I y29' S'→μ y29' S'<μ y29 S→KE0 49 (env99_0 y1 y2 y27 y28 y29') S')→b99_0 y1 y2 y27 y28 y29 S KE0 Q):
    loopV lv99_0 (vc Pg (c99.at_ [1,1,0,1,0,0]) (ms99.drop 1)) 49 (env99_0 y1 y2 y27 y28 y290) S (blockK 0 (seqK (vc Pg (c99.at_ [1,1,1]) (ms99.drop 1)) (bodyK Pg r99 Q))):=by
 refine⟨fun n e S=>n=49∧∃ y29:AV,e=(env99_0 y1 y2 y27 y28 y29)∧I y29 S,fun _ e S=>μ (e.getD 4 .j) S,?_,?_⟩
 ·exact⟨_,_,Wk.refl _ _,rfl,_,rfl,h0⟩
 ·rintro _ e S ⟨rfl,y29,rfl,hI⟩
  exact(b99_0_eq _ _ _ _ _ _ _ _).mpr (hr y29 S hI _ (fun y29' S' hI' hm=>⟨_,_,Wk.refl _ _,⟨rfl,_,rfl,hI'⟩,hm⟩))
def c55:Code:=(Tryz.f55.body).getD .skip
def ms55:List (List Nat):=[[99]]
def m55(x0:AV)(S:Store)(Q:PoT):Prop:=
 boxN 56 2 x0 S fun a S=>ldN 2 a S fun c S=>shift a 1 S fun d S=>ld1 d S fun e S=>bld [(0,3),(3,1),(4,1)] [.v (.int .u32 0),.v (.int .i32 0),.v (.int .u32 0),.nl,.v (.map none)] [(1,e)] S fun f S=>boxN 122 5 f S fun g S=>callF Pg 99 [c,g] S Q fun h S=>Q (.ret h) S
theorem calls55{x0:AV}{S:Store}{Q:PoT}(h:m55 x0 S Q):ACalls Pg 55 [x0] S Q:=
 calls_of_vc (fn:=Tryz.f55) (c:=c55) (n:=9) Tryz.func55 (by kernel_rfl) (by kernel_rfl) (by kernel_rfl) ms55 (Eq.mpr (by kernel_rfl) h)
def c98:Code:=(Tryz.f98.body).getD .skip
def ms98:List (List Nat):=[[]]
def m98(x0:AV)(S:Store)(Q:PoT):Prop:=
 boxN 56 2 x0 S fun a S=>shift a 0 S fun c S=>ld1 c S fun d S=>bin .add 0 d (.v (.int .i64 1)) S fun e S=>shift a 1 S fun f S=>ld1 f S fun g S=>lenS g S fun h S=>bin .add 0 e h S fun i S=>Q (.ret i) S
theorem calls98{x0:AV}{S:Store}{Q:PoT}(h:m98 x0 S Q):ACalls Pg 98 [x0] S Q:=
 calls_of_vc (fn:=Tryz.f98) (c:=c98) (n:=10) Tryz.func98 (by kernel_rfl) (by kernel_rfl) (by kernel_rfl) ms98 (Eq.mpr (by kernel_rfl) h)
def c117:Code:=(Tryz.f117.body).getD .skip
def ms117:List (List Nat):=[[]]
def m117(x0 x1:AV)(S:Store)(Q:PoT):Prop:=
 boxN 90 2 x0 S fun a S=>ixA 2 1 a (.v (.int .i64 1)) S fun c S=>ld1 c S fun d S=>bin .geq 0 d (.v (.int .i64 2)) S fun e S=>onB e fun b=>gd b (ixA 2 1 a (.v (.int .i64 0)) S fun f S=>ld1 f S fun g S=>bin .quo 0 g (.v (.int .i64 2)) S fun h S=>ixA 2 1 a (.v (.int .i64 1)) S fun i S=>ld1 i S fun k S=>bin .quo 0 k (.v (.int .i64 2)) S fun l S=>bin .gtr 0 h l S fun m S=>onB m fun b=>gd b (ixA 2 1 a (.v (.int .i64 0)) S fun n S=>ld1 n S fun o S=>bin .quo 0 o (.v (.int .i64 2)) S fun p S=>bin .lss 0 p x1 S fun q S=>Q (.ret q) S) (Q (.ret (.v (.bool false))) S)) (Q (.ret (.v (.bool false))) S)
theorem calls117{x0 x1:AV}{S:Store}{Q:PoT}(h:m117 x0 x1 S Q):ACalls Pg 117 [x0,x1] S Q:=
 calls_of_vc (fn:=Tryz.f117) (c:=c117) (n:=24) Tryz.func117 (by kernel_rfl) (by kernel_rfl) (by kernel_rfl) ms117 (Eq.mpr (by kernel_rfl) h)
def c53:Code:=(Tryz.f53.body).getD .skip
def ms53:List (List Nat):=[[]]
def m53(x0 x1:AV)(S:Store)(Q:PoT):Prop:=
 boxN 56 2 x0 S fun a S=>shift a 0 S fun c S=>ld1 c S fun d S=>bin .geq 0 d (.v (.int .i64 0)) S fun e S=>onB e fun b=>gd b (shift a 0 S fun f S=>ld1 f S fun g S=>bin .leq 0 g (.v (.int .i64 2000)) S fun h S=>onB h fun b=>gd b (bin .geq 0 x1 (.v (.int .i64 0)) S fun i S=>onB i fun b=>gd b (bin .quo 0 x1 (.v (.int .i64 2)) S fun k S=>ldN 2 a S fun l S=>callF Pg 98 [l] S Q fun m S=>bin .lss 0 k m S fun n S=>Q (.ret n) S) (Q (.ret (.v (.bool false))) S)) (Q (.ret (.v (.bool false))) S)) (Q (.ret (.v (.bool false))) S)
theorem calls53{x0 x1:AV}{S:Store}{Q:PoT}(h:m53 x0 x1 S Q):ACalls Pg 53 [x0,x1] S Q:=
 calls_of_vc (fn:=Tryz.f53) (c:=c53) (n:=24) Tryz.func53 (by kernel_rfl) (by kernel_rfl) (by kernel_rfl) ms53 (Eq.mpr (by kernel_rfl) h)
def c146:Code:=(Tryz.f146.body).getD .skip
def ms146:List (List Nat):=[[157]]
def m146(x0:AV)(S:Store)(Q:PoT):Prop:=
 nilChk x0 S fun a S=>shift a 0 S fun c S=>callF Pg 157 [c] S Q fun d S=>Q (.ret (.t [])) S
def c147:Code:=(Tryz.f147.body).getD .skip
def ms147:List (List Nat):=[[158]]
def m147(x0 x1:AV)(S:Store)(Q:PoT):Prop:=
 ∃ a:AV,(∀ T:Store,Keep S T→nilChk x0 T fun c S=>c=a∧S=T)∧∃ d:AV,(∀ T:Store,Keep S T→shift a 0 T fun e S=>e=d∧S=T)∧∃ f:AV,(∀ T:Store,Keep S T→callF Pg 159 [x1] T (fun _ _=>False) fun g S=>g=f∧S=T)∧callF Pg 158 [d,f] S (fun _ _=>False) fun h S=>Q (.ret (.t [])) S
def c134:Code:=(Tryz.f134.body).getD .skip
def ms134:List (List Nat):=[[]]
def m134(x0:AV)(S:Store)(Q:PoT):Prop:=
 nilChk x0 S fun a S=>shift a 0 S fun c S=>callF Pg 144 [c] S Q fun d S=>bin .neq 0 d (.v (.int .u32 0)) S fun e S=>Q (.ret e) S
theorem calls134{x0:AV}{S:Store}{Q:PoT}(h:m134 x0 S Q):ACalls Pg 134 [x0] S Q:=
 calls_of_vc (fn:=Tryz.f134) (c:=c134) (n:=8) Tryz.func134 (by kernel_rfl) (by kernel_rfl) (by kernel_rfl) ms134 (Eq.mpr (by kernel_rfl) h)
def c145:Code:=(Tryz.f145.body).getD .skip
def ms145:List (List Nat):=[[156]]
def m145(x0:AV)(S:Store)(Q:PoT):Prop:=
 nilChk x0 S fun a S=>shift a 0 S fun c S=>callF Pg 156 [c] S Q fun d S=>Q (.ret (.t [])) S
theorem calls145{x0:AV}{S:Store}{Q:PoT}(h:m145 x0 S Q):ACalls Pg 145 [x0] S Q:=
 calls_of_vc (fn:=Tryz.f145) (c:=c145) (n:=6) Tryz.func145 (by kernel_rfl) (by kernel_rfl) (by kernel_rfl) ms145 (Eq.mpr (by kernel_rfl) h)
def c156:Code:=(Tryz.f156.body).getD .skip
def ms156:List (List Nat):=[[167]]
def m156(x0:AV)(S:Store)(Q:PoT):Prop:=
 callF Pg 166 [] S Q fun a S=>nilChk x0 S fun c S=>shift c 0 S fun d S=>callF Pg 167 [d,.v (.int .i32 0),.v (.int .i32 1)] S Q fun e S=>onB e fun b=>gd b (callF Pg 168 [] S Q fun f S=>convU x0 S fun g S=>callF Pg 169 [g] S Q fun h S=>Q (.ret (.t [])) S) (callF Pg 170 [x0] S Q fun i S=>Q (.ret (.t [])) S)
theorem calls156{x0:AV}{S:Store}{Q:PoT}(h:m156 x0 S Q):ACalls Pg 156 [x0] S Q:=
 calls_of_vc (fn:=Tryz.f156) (c:=c156) (n:=13) Tryz.func156 (by kernel_rfl) (by kernel_rfl) (by kernel_rfl) ms156 (Eq.mpr (by kernel_rfl) h)
def c157:Code:=(Tryz.f157.body).getD .skip
def ms157:List (List Nat):=[[172]]
def m157(x0:AV)(S:Store)(Q:PoT):Prop:=
 nilChk x0 S fun a S=>shift a 0 S fun c S=>ld1 c S fun d S=>convU x0 S fun e S=>callF Pg 171 [e] S Q fun f S=>callF Pg 166 [] S Q fun g S=>nilChk x0 S fun h S=>shift h 0 S fun i S=>callF Pg 172 [i,.v (.int .i32 (-1))] S Q fun k S=>bin .neq 0 k (.v (.int .i32 0)) S fun l S=>onB l fun b=>gd b (callF Pg 173 [x0,k] S Q fun m S=>callF Pg 168 [] S Q fun n S=>Q (.ret (.t [])) S) (callF Pg 168 [] S Q fun o S=>Q (.ret (.t [])) S)
theorem calls157{x0:AV}{S:Store}{Q:PoT}(h:m157 x0 S Q):ACalls Pg 157 [x0] S Q:=
 calls_of_vc (fn:=Tryz.f157) (c:=c157) (n:=21) Tryz.func157 (by kernel_rfl) (by kernel_rfl) (by kernel_rfl) ms157 (Eq.mpr (by kernel_rfl) h)
def c159:Code:=(Tryz.f159.body).getD .skip
def ms159:List (List Nat):=[[]]
def m159(x0:AV)(S:Store)(Q:PoT):Prop:=
 onB x0 fun b1=>gd b1 (Q (.ret (.v (.int .u32 1))) S) (Q (.ret (.v (.int .u32 0))) S)
theorem calls159{x0:AV}{S:Store}{Q:PoT}(h:m159 x0 S Q):ACalls Pg 159 [x0] S Q:=
 calls_of_vc (fn:=Tryz.f159) (c:=c159) (n:=4) Tryz.func159 (by kernel_rfl) (by kernel_rfl) (by kernel_rfl) ms159 (Eq.mpr (by kernel_rfl) h)
def c125:Code:=(Tryz.f125.body).getD .skip
def ms125:List (List Nat):=[[135]]
def m125(x0 x1:AV)(S:Store)(Q:PoT):Prop:=
 nilChk x0 S fun a S=>shift a 0 S fun c S=>callF Pg 134 [c] S Q fun d S=>un .not d S fun e S=>onB e fun b=>gd b (callF Pg 135 [x0,x1] S Q fun f S=>Q (.ret (.t [])) S) (Q (.ret (.t [])) S)
theorem calls125{x0 x1:AV}{S:Store}{Q:PoT}(h:m125 x0 x1 S Q):ACalls Pg 125 [x0,x1] S Q:=
 calls_of_vc (fn:=Tryz.f125) (c:=c125) (n:=12) Tryz.func125 (by kernel_rfl) (by kernel_rfl) (by kernel_rfl) ms125 (Eq.mpr (by kernel_rfl) h)
end
def c135:Code:=(Tryz.f135.body).getD .skip
def r135:List ResultVar:=Tryz.f135.results.toList
def m135(x0 x1:AV)(S:Store)(Q:AEnd→Store→Prop):Prop:=
 nilChk x0 S fun v1 S=>shift v1 1 S fun v2 S=>callF Pg 145 [v2] S (fun _ _=>False) fun v3 S=>nilChk x0 S fun v4 S=>shift v4 1 S fun v5 S=>nilChk x0 S fun v6 S=>shift v6 0 S fun v7 S=>callF Pg 134 [v7] S (fun _ _=>False) fun v8 S=>un .not v8 S fun v9 S=>onB v9 fun b10 =>
  gd b10 (nilChk x0 S fun v11 S=>shift v11 0 S fun v12 S=>callV Pg x1 [] S (fun v13 S=>ADCalls Pg 147 [v12,.v (.bool true)] S fun e S=>match e with
      |.ret _=>ADCalls Pg 146 [v5] S fun e S=>match e with|.ret _=>Q (.ret (.t [])) S|.pan _=>False
      |.pan _=>False) (fun _ _=>False))
   (ADCalls Pg 146 [v5] S fun e S=>match e with|.ret _=>Q (.ret (.t [])) S|.pan _=>False)
set_option maxRecDepth 100000 in
theorem m135_eq:(fun(x0 x1:AV) (S:Store) (Q:AEnd→Store→Prop)=>vcT Pg c135 [] (ofArgs 21 [x0,x1]) S [] (bodyT Pg r135 Q))=(fun(x0 x1:AV) (S:Store) (Q:AEnd→Store→Prop)=>m135 x0 x1 S Q):=by kernel_rfl
theorem calls135{x0 x1:AV}{S:Store}{Q:AEnd→Store→Prop}(h:m135 x0 x1 S Q):ACalls Pg 135 [x0,x1] S Q:=
 calls_of_vcT (fn:=Tryz.f135) (c:=c135) (n:=21) Tryz.func135 (by kernel_rfl) (by kernel_rfl) (by kernel_rfl) [] ((congrFun (congrFun (congrFun (congrFun m135_eq x0) x1) S) Q).mpr h)
theorem dcalls146{x0:AV}{S:Store}{Q:AEnd→Store→Prop}(h:m146 x0 S Q):ADCalls Pg 146 [x0] S Q:=
 dcalls_of_vc (fn:=Tryz.f146) (c:=c146) (n:=6) Tryz.func146 (by kernel_rfl) (by kernel_rfl) (by kernel_rfl) ms146 (Eq.mpr (by kernel_rfl) h)
theorem dcalls147{x0 x1:AV}{S:Store}{Q:AEnd→Store→Prop}(h:m147 x0 x1 S Q):ADCalls Pg 147 [x0,x1] S Q:=
 dcalls_of_vc (fn:=Tryz.f147) (c:=c147) (n:=10) Tryz.func147 (by kernel_rfl) (by kernel_rfl) (by kernel_rfl) ms147 (Eq.mpr (by kernel_rfl) h)
theorem nt166:NoText Pg 166 Tryz.f166:=⟨Tryz.func166,by kernel_rfl,by kernel_rfl,by kernel_rfl⟩
theorem nt168:NoText Pg 168 Tryz.f168:=⟨Tryz.func168,by kernel_rfl,by kernel_rfl,by kernel_rfl⟩
theorem nt169:NoText Pg 169 Tryz.f169:=⟨Tryz.func169,by kernel_rfl,by kernel_rfl,by kernel_rfl⟩
theorem nt171:NoText Pg 171 Tryz.f171:=⟨Tryz.func171,by kernel_rfl,by kernel_rfl,by kernel_rfl⟩
theorem nt144:NoText Pg 144 Tryz.f144:=⟨Tryz.func144,by kernel_rfl,by kernel_rfl,by kernel_rfl⟩
theorem nt158:NoText Pg 158 Tryz.f158:=⟨Tryz.func158,by kernel_rfl,by kernel_rfl,by kernel_rfl⟩
theorem nt167:NoText Pg 167 Tryz.f167:=⟨Tryz.func167,by kernel_rfl,by kernel_rfl,by kernel_rfl⟩
theorem nt172:NoText Pg 172 Tryz.f172:=⟨Tryz.func172,by kernel_rfl,by kernel_rfl,by kernel_rfl⟩
abbrev aW32(n:Int):AV:=.v (.int .u32 n)
abbrev aS32(n:Int):AV:=.v (.int .i32 n)
section
variable {S:Store} {Q:AEnd→Store→Prop}
theorem mark166{Q:AEnd→Store→Prop}{K:AV→Store→Prop}(k:K (.t []) S):callF Pg 166 [] S Q K:=.inr (ext_mark0 nt166 .disable (by kernel_rfl) k)
theorem mark168{K:AV→Store→Prop}(k:K (.t []) S):callF Pg 168 [] S Q K:=.inr (ext_mark0 nt168 .enable (by kernel_rfl) k)
theorem mark169{K:AV→Store→Prop}{id i j:Nat}(k:K (.t []) S):callF Pg 169 [.p id i j] S Q K:=.inr (ext_mark1 nt169 .acquire (by kernel_rfl) k)
theorem mark171{K:AV→Store→Prop}{id i j:Nat}(k:K (.t []) S):callF Pg 171 [.p id i j] S Q K:=.inr (ext_mark1 nt171 .releaseMerge (by kernel_rfl) k)
end
@[simp] theorem nilChk_p(id i j:Nat)(S:Store)(K:AV→Store→Prop):nilChk (.p id i j) S K=K (.p id i j) S:=rfl
theorem upd_upd(S:Store)(id:Nat)(o o':AObj):(S.upd id o).upd id o'=S.upd id o':=by
 unfold Store.upd
 congr 1
 funext i
 by_cases h:i=id<;>simp[h]
def onceO(t:TypeId)(done st:Int)(z:AV)(c:List AV):AObj:=.cells t [aW32 done :: aS32 st :: z :: c] true
section
variable {S:Store} {Q:AEnd→Store→Prop} {id t:Nat} {done st:Int} {z:AV} {c:List AV}
theorem load_once(h:S.obj id=some (onceO t done st z c))(k:Q (.ret (aB (!decide (done=0)))) S):ACalls Pg 134 [.p id 0 0] S Q:=by
 refine calls134 ?_
 unfold m134
 rw[nilChk_p,shift_p]
 refine .inr (ext_load nt144 .u32 (by kernel_rfl) h rfl rfl ?_)
 show bin .neq 0 (aW32 done) (aW32 0) S _
 rw[bin_neq]
 exact k
theorem lock_once(h:S.obj id=some (onceO t done 0 z c))(k:Q (.ret (.t [])) (S.upd id (onceO t done 1 z c))):ACalls Pg 145 [.p id 0 1] S Q:=by
 refine calls145 ?_
 unfold m145
 rw[nilChk_p,shift_p]
 refine .inl (calls156 ?_)
 unfold m156
 refine mark166 ?_
 rw[nilChk_p,shift_p]
 refine .inr (ext_cas nt167 .i32 (by kernel_rfl) h rfl rfl ?_)
 show onB _ _
 rw[onB_v,gd_true]
 refine mark168 ⟨aS32 1,?_,mark169 k⟩
 simp[rd1,place,Store.get]
theorem unlock_once(h:S.obj id=some (onceO t done 1 z c))(k:Q (.ret (.t [])) (S.upd id (onceO t done 0 z c))):ADCalls Pg 146 [.p id 0 1] S Q:=by
 refine dcalls146 ?_
 unfold m146
 rw[nilChk_p,shift_p]
 refine .inl (calls157 ?_)
 unfold m157
 rw[nilChk_p,shift_p,ld1_p h rfl rfl]
 refine⟨aS32 1,by simp[rd1,place,Store.get,h,onceO],mark171 (mark166 ?_)⟩
 rw[nilChk_p,shift_p]
 refine .inr (ext_add nt172 .i32 (by kernel_rfl) h rfl rfl ?_)
 show bin .neq 0 (aS32 (IntKind.i32.wrap (1 + -1))) (aS32 0) _ _
 have:IntKind.i32.wrap (1 + -1)=0:=by decide
 rw[this,bin_neq,onB_v]
 simp only[decide_true,Bool.not_true,gd_false]
 exact mark168 k
theorem store_once(h:S.obj id=some (onceO t done st z c))(k:Q (.ret (.t [])) (S.upd id (onceO t 1 st z c))):ADCalls Pg 147 [.p id 0 0,aB true] S Q:=by
 refine dcalls147 ?_
 unfold m147
 have hb:∀ T,ACalls Pg 159 [aB true] T (fun e S'=>e = .ret (aW32 1)∧S'=T):=fun T=>by
  refine calls159 ?_
  unfold m159
  rw[onB_v,gd_true]
  exact⟨rfl,rfl⟩
 refine⟨.p id 0 0,fun T _=>⟨rfl,rfl⟩,.p id 0 0,fun T _=>⟨rfl,rfl⟩,aW32 1,fun T _=>callF_at (hb T) ⟨rfl,rfl⟩,?_⟩
 exact .inr (ext_store nt158 (by kernel_rfl) h rfl rfl k)
theorem do_once(h:S.obj id=some (onceO t 0 0 z c)){f:AV}(hf:callV Pg f [] (S.upd id (onceO t 0 1 z c)) (fun _ S2=>∃ c',S2.obj id=some (onceO t 0 1 z c')∧Q (.ret (.t [])) (S2.upd id (onceO t 1 0 z c'))) (fun _ _=>False)):ACalls Pg 125 [.p id 0 0,f] S Q:=by
 refine calls125 ?_
 unfold m125
 rw[nilChk_p,shift_p]
 refine .inl (load_once h ?_)
 show un .not (aB (!decide ((0:Int)=0))) S _
 rw[un_not,onB_v]
 refine .inl (calls135 ?_)
 unfold m135
 rw[nilChk_p,shift_p]
 refine .inl (lock_once h ?_)
 show nilChk _ _ _
 rw[nilChk_p,shift_p,nilChk_p,shift_p]
 refine .inl (load_once (upd_self _ _) ?_)
 show un .not (aB (!decide ((0:Int)=0))) _ _
 rw[un_not,onB_v]
 show gd true _ _
 rw[gd_true,nilChk_p,shift_p]
 refine callV_mono hf (fun v S2 h2=>?_) (fun _ _ h=>h)
 obtain⟨c',h3,h4⟩:=h2
 refine store_once h3 (unlock_once (upd_self _ _) ?_)
 show Q (.ret (.t [])) _
 rw[upd_upd]
 exact h4
end
def pL(l:List (Int × Int)):AV:=.l (l.map fun p=>[aI p.1,aI p.2])
structure Gr where
 inputs:Int
 ands:List (Int × Int)
 deriving DecidableEq
def Gr.cells(g:Gr):List AV:=[aI g.inputs,pL g.ands]
def Gr.av(g:Gr):AV:=.a g.cells
def Gr.vars(g:Gr):Int:=g.inputs+1+g.ands.length
def i64R(a:Int):Prop:=-9223372036854775808≤a∧a≤9223372036854775807
structure Gr.ok (g:Gr):Prop where
 inp:i64R g.inputs
 len:g.ands.length≤1000000
 pairs:∀ p∈g.ands,i64R p.1∧i64R p.2
def may(p:Int × Int)(v:Int):Bool:=decide (2≤p.2) && (decide (p.2.tdiv 2<p.1.tdiv 2) && decide (p.1.tdiv 2<v))
def Gr.right(g:Gr):Bool:=decide (0≤g.inputs) && (decide (g.inputs≤2000) && (decide ((g.ands.length:Int)≤2000) && (decide (g.vars≤2000) &&
 ((List.range g.ands.length).all (fun i=>may (g.ands.getD i (0,0)) (g.inputs+1+i)) && decide g.ands.Nodup))))
def Gr.lit(g:Gr)(l:Int):Bool:=decide (0≤g.inputs) && (decide (g.inputs≤2000) && (decide (0≤l) && decide (l.tdiv 2<g.vars)))
@[simp] theorem lenS_pL(l:List (Int × Int)){S:Store}{K:AV→Store→Prop}:lenS (pL l) S K=K (aI l.length) S:=by simp[pL]
theorem ixS_pL{l:List (Int × Int)}{e i:Nat}{S:Store}{K:AV→Store→Prop}(h:i<l.length):ixS e 2 (pL l) (aI i) S K=K (.q [aI l[i].1,aI l[i].2] 0) S:=by
 unfold pL
 rw[ixS_l (by simpa using h) (by simp)]
 simp
@[simp] theorem ldN_q2{u v:AV}{S:Store}{K:AV→Store→Prop}:ldN 2 (.q [u,v] 0) S K=K (.a [u,v]) S:=by simp[ldN,rdN,place]
theorem tdiv2{a:Int}(h:i64R a):-9223372036854775808≤a.tdiv 2∧a.tdiv 2≤9223372036854775807:=by
 obtain⟨h1,h2⟩:=h
 rcases Int.le_total 0 a with h|h
 ·rw[Int.tdiv_eq_ediv_of_nonneg h];omega
 ·have:a.tdiv 2 = -((-a).tdiv 2):=by rw[Int.neg_tdiv,Int.neg_neg]
  rw[this,Int.tdiv_eq_ediv_of_nonneg (by omega)];omega
theorem bin_half{a:Int}(h:i64R a){S:Store}{K:AV→Store→Prop}:bin .quo 0 (aI a) (.v (.int .i64 2)) S K=K (aI (a.tdiv 2)) S:=bin_quo (by decide) (tdiv2 h).1 (tdiv2 h).2 0
theorem ixA_p{n sz id:Nat}{z:Nat}{S:Store}{K:AV→Store→Prop}(hz:z<n):ixA n sz (.p id 0 0) (aI z) S K=K (.p id 0 (z*sz)) S:=by
 unfold ixA
 simp only[intA,optP_some,Int.toNat_natCast,shift_p,Nat.zero_add]
 exact propext ⟨fun h=>h.2,fun h=>⟨⟨by omega,by omega⟩,h⟩⟩
theorem ans98{g:Gr}(hg:g.ok)(hi:g.inputs≤1000000)(h0:0≤g.inputs):Ans Pg 98 [g.av] (aI g.vars):=by
 intro S
 have hl:=hg.len
 refine ACalls.ans_v (calls98 ?_)
 unfold m98 Gr.av
 refine boxA_of rfl fun S1 k1 n1 o1=>?_
 rw[shift_p,ld1_p o1 rfl rfl,bin_add (by omega) (by omega),shift_p,ld1_p o1 rfl rfl,lenS_pL,bin_add (by omega) (by omega)]
 exact⟨rfl,k1⟩
theorem ans117{p:Int × Int}{v:Int}(h:i64R p.1∧i64R p.2):Ans Pg 117 [.a [aI p.1,aI p.2],aI v] (aB (may p v)):=by
 intro S
 refine ACalls.ans_v (calls117 ?_)
 unfold m117 may
 refine boxA_of rfl fun S1 k1 n1 o1=>?_
 have e1:∀ K:AV→Store→Prop,ixA 2 1 (.p S.n 0 0) (.v (.int .i64 1)) S1 K=K (.p S.n 0 1) S1:=fun K=>ixA_p (z:=1) (by decide)
 have e0:∀ K:AV→Store→Prop,ixA 2 1 (.p S.n 0 0) (.v (.int .i64 0)) S1 K=K (.p S.n 0 0) S1:=fun K=>ixA_p (z:=0) (by decide)
 rw[e1,ld1_p o1 rfl rfl,bin_geq,onB_v]
 refine gd_of (fun h1=>?_) (fun h1=>⟨by simp only[h1,Bool.false_and],k1⟩)
 rw[e0,ld1_p o1 rfl rfl,bin_half h.1,e1,ld1_p o1 rfl rfl,bin_half h.2,bin_gtr,onB_v]
 refine gd_of (fun h2=>?_) (fun h2=>⟨by simp only[h1,h2,Bool.false_and,Bool.true_and],k1⟩)
 rw[e0,ld1_p o1 rfl rfl,bin_half h.1,bin_lss]
 exact⟨by simp only[h1,h2,Bool.true_and],k1⟩
theorem ans53{g:Gr}{l:Int}(hg:g.ok)(hl:i64R l):Ans Pg 53 [g.av,aI l] (aB (g.lit l)):=by
 intro S
 refine ACalls.ans_v (calls53 ?_)
 unfold m53 Gr.av Gr.lit
 refine boxA_of rfl fun S1 k1 n1 o1=>?_
 rw[shift_p,ld1_p o1 rfl rfl,bin_geq,onB_v]
 refine gd_of (fun h1=>?_) (fun h1=>⟨by simp only[h1,Bool.false_and],k1⟩)
 rw[shift_p,ld1_p o1 rfl rfl,bin_leq,onB_v]
 refine gd_of (fun h2=>?_) (fun h2=>⟨by simp only[h1,h2,Bool.false_and,Bool.true_and],k1⟩)
 rw[bin_geq,onB_v]
 refine gd_of (fun h3=>?_) (fun h3=>⟨by simp only[h1,h2,h3,Bool.false_and,Bool.true_and],k1⟩)
 rw[bin_half hl,ldN_p (n:=2) o1 rfl]
 refine callF_ans (ans98 hg (by have:=dT h2;omega) (dT h1)) ?_
 rw[bin_lss]
 exact⟨by simp only[h1,h2,h3,Bool.true_and],k1⟩
def gat(l:List (Int × Int)):Nat→List (Key × AV)
 |0=>[]
 |i+1=>match kix (gat l i) (.p (l.getD i (0,0)).1 (l.getD i (0,0)).2)with
  |some _=>gat l i
  |none=>gat l i ++ [(.p (l.getD i (0,0)).1 (l.getD i (0,0)).2,aI i)]
theorem kix_none{es:List (Key × AV)}{k:Key}:kix es k=none↔k∉es.map (·.1):=by
 unfold kix
 rw[List.findIdx?_eq_none_iff]
 simp only[List.mem_map,not_exists,not_and]
 constructor
 ·intro h x hx e
  have:=h x hx
  simp[e]at this
 ·intro h x hx
  simpa using h x hx
theorem gat_keys{l:List (Int × Int)}:∀{i:Nat},i≤l.length→∀ k,k∈(gat l i).map (·.1)↔∃ p∈l.take i,k = .p p.1 p.2
 |0,_,k=>by simp[gat]
 |i+1,h,k=>by
  have ih:=gat_keys (l:=l) (i:=i) (by omega)
  have hi:i<l.length:=by omega
  have hg:l.getD i (0,0)=l[i]:=by simp[List.getD_eq_getElem?_getD,hi]
  rw[List.take_add_one,List.getElem?_eq_getElem hi]
  unfold gat
  rw[hg]
  split
  ·rename_i j hj
   rw[ih]
   have hm:Key.p l[i].1 l[i].2∈(gat l i).map (·.1):=by
    by_cases c:Key.p l[i].1 l[i].2∈(gat l i).map (·.1)
    ·exact c
    ·rw[kix_none.2 c]at hj;cases hj
   constructor
   ·rintro⟨p,hp,e⟩
    exact⟨p,List.mem_append_left _ hp,e⟩
   ·rintro⟨p,hp,e⟩
    rcases List.mem_append.1 hp with hp|hp
    ·exact⟨p,hp,e⟩
    ·have:p=l[i]:=by simpa using hp
     subst this
     rw[e];exact(ih _).1 hm
  ·rw[List.map_append,List.mem_append,ih]
   constructor
   ·rintro(⟨p,hp,e⟩|hk)
    ·exact⟨p,List.mem_append_left _ hp,e⟩
    ·exact⟨l[i],List.mem_append_right _ (by simp),by simpa using hk⟩
   ·rintro⟨p,hp,e⟩
    rcases List.mem_append.1 hp with hp|hp
    ·exact .inl ⟨p,hp,e⟩
    ·have:p=l[i]:=by simpa using hp
     subst this
     exact .inr (by simp[e])
theorem gat_le(l:List (Int × Int)):∀ i:Nat,(gat l i).length≤i
 |0=>Nat.le_refl _
 |i+1=>by
  have:=gat_le l i
  unfold gat
  split
  ·omega
  ·simp;omega
theorem gat_all{l:List (Int × Int)}:∀{i:Nat},i≤l.length→((gat l i).length=i↔(l.take i).Nodup)
 |0,_=>by simp[gat]
 |i+1,h=>by
  have ih:=gat_all (l:=l) (i:=i) (by omega)
  have hi:i<l.length:=by omega
  have hk:=gat_keys (l:=l) (i:=i) (by omega) (.p l[i].1 l[i].2)
  have hle:=gat_le l i
  have hg:l.getD i (0,0)=l[i]:=by simp[List.getD_eq_getElem?_getD,hi]
  rw[List.take_add_one,List.getElem?_eq_getElem hi,List.nodup_append]
  unfold gat
  rw[hg]
  split
  ·rename_i j hj
   have hm:Key.p l[i].1 l[i].2∈(gat l i).map (·.1):=by
    by_cases c:Key.p l[i].1 l[i].2∈(gat l i).map (·.1)
    ·exact c
    ·rw[kix_none.2 c]at hj;cases hj
   obtain⟨p,hp,e⟩:=hk.1 hm
   constructor
   ·intro h;omega
   ·rintro⟨_,_,h3⟩
    refine absurd ?_ (h3 p hp l[i] (by simp))
    simp only[Key.p.injEq]at e
    exact Prod.ext e.1.symm e.2.symm
  ·rename_i hn
   rw[kix_none,hk]at hn
   rw[List.length_append,List.length_singleton,Nat.add_right_cancel_iff,ih]
   constructor
   ·intro h
    refine⟨h,by simp,fun a ha b hb=>?_⟩
    have:b=l[i]:=by simpa using hb
    subst this
    rintro rfl
    exact hn ⟨_,ha,rfl⟩
   ·exact fun h=>h.1
@[simp] theorem extr0{x:AV}{l:List AV}{S:Store}{K:AV→Store→Prop}:extr (.t (x :: l)) 0 S K=K x S:=by simp[extr]
@[simp] theorem extr1{x y:AV}{l:List AV}{S:Store}{K:AV→Store→Prop}:extr (.t (x :: y :: l)) 1 S K=K y S:=by simp[extr]
@[simp] theorem extr2{x y z:AV}{l:List AV}{S:Store}{K:AV→Store→Prop}:extr (.t (x :: y :: z :: l)) 2 S K=K z S:=by simp[extr]
theorem lkM_m{S:Store}{kk:KK}{z:AV}{c:Bool}{id:Nat}{k:AV}{key:Key}{es:List (Key × AV)}{lv:Bool}{K:AV→Store→Prop}(h:S.obj id=some (.map kk es lv))(hk:keyA kk k=some key):lkM kk z c (.m id) k S K=K (lkV z c (lkp es key)) S:=by
 simp[lkM,entsA,h,hk]
theorem updM_m{S:Store}{kk:KK}{id:Nat}{k v:AV}{key:Key}{es:List (Key × AV)}{K:AV→Store→Prop}(h:S.obj id=some (.map kk es true))(hk:keyA kk k=some key):updM kk (.m id) k v S K=K .j (S.upd id (.map kk (insM es key v) true)):=by
 simp[updM,h,hk]
theorem lenM_m{S:Store}{kk:KK}{id:Nat}{es:List (Key × AV)}{lv:Bool}{K:AV→Store→Prop}(h:S.obj id=some (.map kk es lv)):lenM (.m id) S K=K (aI es.length) S:=by
 simp[lenM,h]
theorem keyP(a b:Int):keyA (.p .i64) (.a [aI a,aI b])=some (.p a b):=by simp[keyA]
theorem lkp_isSome(es:List (Key × AV))(k:Key):(lkp es k).isSome=(kix es k).isSome:=by
 cases h:kix es k with
 |none=>simp[lkp,h]
 |some i =>
  obtain⟨e,h1,h2⟩:=lkp_row (kk:=.s) h
  simp[h2]
theorem make_once{S:Store}{id:Nat}{z g0:AV}{d st:Int}{l:List (Int × Int)}{Q:AEnd→Store→Prop}(hl:l.length≤1000000)(hid:id<S.n)(h:S.obj id=some (onceO 122 d st z [pL l,g0]))
    (k:∀ S2 m,S.n≤S2.n→(∀ x,x<S.n→x≠id→S2.obj x=S.obj x)→m≠id→S2.obj id=some (onceO 122 d st z [pL l,.m m])→S2.obj m=some (.map (.p .i64) (gat l l.length) true)→Q (.ret (.t [])) S2):
    ACalls Pg 126 [.p id 0 0] S Q:=by
 refine calls126 ?_
 unfold m126 mkM
 have h':=(new_lt (o:=.map (.p .i64) [] true) hid).trans h
 show nilChk _ _ _
 rw[nilChk_p,shift_p]
 refine stF_of h' (by simp) rfl fun S1 n1 o1 f1=>?_
 rw[nilChk_p,shift_p,ld1_p o1 rfl rfl,lenS_pL]
 have hm:S.n≠id:=by omega
 refine loop126_0 (fun y S'=>S.n<S'.n∧(∀ x,x<S.n→x≠id→S'.obj x=S.obj x)∧S'.obj id=some (onceO 122 d st z [pL l,.m S.n])∧∃ i:Nat,y=aI i∧i≤l.length∧S'.obj S.n=some (.map (.p .i64) (gat l i) true))
  (fun y _=>l.length - ((intA y).getD 0).toNat) ⟨by rw[n1,new_n];omega,fun x hx hne=>by rw[f1 x hne,new_lt hx],o1,0,rfl,Nat.zero_le _,by rw[f1 _ hm,new_self];rfl⟩ ?_
 rintro _ S2 ⟨n2,f2,o2,i,rfl,hi,m2⟩ KE hKE
 unfold b126_0
 rw[bin_lss,onB_v]
 refine gd_of (fun hlt=>?_) (fun hge=>?_)
 ·have hlt:i<l.length:=by simpa using hlt
  have hg:l.getD i (0,0)=l[i]:=by simp[List.getD_eq_getElem?_getD,hlt]
  rw[ixS_pL hlt,ldN_q2]
  refine boxA_of rfl fun S3 k3 n3 o3=>?_
  refine stA_of o3 rfl rfl fun S4 n4 o4 f4=>?_
  have p4:S4.obj id=_:=(f4 id (by omega)).trans ((k3.2 id (by omega)).trans o2)
  have q4:S4.obj S.n=_:=(f4 S.n (by omega)).trans ((k3.2 S.n n2).trans m2)
  have r4:∀ x,x<S.n→x≠id→S4.obj x=S.obj x:=fun x hx hne=>(f4 x (by omega)).trans ((k3.2 x (by omega)).trans (f2 x hx hne))
  show ∃ q15:AV,_
  refine⟨_,by rw[nilChk_p];exact⟨rfl,rfl⟩,_,by rw[shift_p];exact⟨rfl,rfl⟩,_,by rw[ld1_p p4 rfl rfl];exact⟨rfl,rfl⟩,_,by rw[ldN_p (n:=2) o4 rfl];exact⟨rfl,rfl⟩,_,by rw[lkM_m q4 (keyP _ _)];exact⟨rfl,rfl⟩,_,by rw[lkV,extr0];exact⟨rfl,rfl⟩,_,by rw[lkV,extr1];exact⟨rfl,rfl⟩,?_⟩
  rw[lkp_isSome,un_not,onB_v]
  have hadd:∀ K:AV→Store→Prop,∀ S,bin .add 0 (.v (.int .i64 (i:Int))) (.v (.int .i64 1)) S K=K (aI (i+1:Nat)) S:=fun K S=>bin_add (by omega) (by omega) 0
  have hμ:l.length - ((intA (aI (i+1:Nat))).getD 0).toNat<l.length - ((intA (aI i)).getD 0).toNat:=by simp[intA];omega
  refine gd_of (fun hn=>?_) (fun hn=>?_)
  ·have hn:kix (gat l i) (.p l[i].1 l[i].2)=none:=by simpa using hn
   refine⟨_,fun T hT=>by rw[nilChk_p];exact⟨rfl,rfl⟩,_,fun T hT=>by rw[shift_p];exact⟨rfl,rfl⟩,_,fun T hT=>by rw[ld1_p ((hT.2 id (by omega)).trans p4) rfl rfl];exact⟨rfl,rfl⟩,_,fun T hT=>by rw[ldN_p (n:=2) ((hT.2 _ (by omega)).trans o4) rfl];exact⟨rfl,rfl⟩,?_⟩
   rw[updM_m q4 (keyP _ _),hadd]
   refine hKE _ _ ⟨by simp;omega,fun x hx hne=>by rw[upd_ne (by omega)];exact r4 x hx hne,by rw[upd_ne (by omega)];exact p4,i+1,rfl,hlt,?_⟩ hμ
   rw[upd_self]
   simp only[gat,hg,hn,insM_none hn]
  ·obtain⟨j,hj⟩:∃ j,kix (gat l i) (.p l[i].1 l[i].2)=some j:=by
     cases e:kix (gat l i) (.p l[i].1 l[i].2)with
     |none=>simp[e]at hn
     |some j=>exact⟨j,rfl⟩
   rw[hadd]
   refine hKE _ _ ⟨by omega,r4,p4,i+1,rfl,hlt,?_⟩ hμ
   rw[q4]
   simp only[gat,hg,hj]
 ·have hge:i=l.length:=by simp at hge;omega
  subst hge
  exact k S2 S.n (by omega) f2 hm o2 m2
theorem many_once{S:Store}{id:Nat}{z g0:AV}{l:List (Int × Int)}{Q:AEnd→Store→Prop}(hl:l.length≤1000000)(hid:id<S.n)(h:S.obj id=some (onceO 122 0 0 z [pL l,g0]))
    (k:∀ S2,S.n≤S2.n→(∀ x,x<S.n→x≠id→S2.obj x=S.obj x)→Q (.ret (aI (gat l l.length).length)) S2):
    ACalls Pg 118 [.p id 0 0] S Q:=by
 refine calls118 ?_
 unfold m118
 rw[nilChk_p,shift_p]
 refine .inl (do_once h (.inl (make_once hl (by simpa using hid) (upd_self _ _) fun S2 m n2 f2 hm o2 m2=>⟨_,o2,?_⟩)))
 show nilChk _ _ _
 rw[nilChk_p,shift_p,ld1_p (show(S2.upd id (onceO 122 1 0 z [pL l,.m m])).obj id=some (.cells 122 [[aW32 1,aS32 0,z,pL l,.m m]] true)from upd_self _ _) rfl rfl]
 rw[lenM_m (by rw[upd_ne hm];exact m2)]
 refine k _ (by simpa using n2) fun x hx hne=>?_
 rw[upd_ne hne,f2 x (by simpa using hx) hne,upd_ne hne]
theorem bld_of{pl:List (Nat × Nat)}{zc:List AV}{parts:List (Nat × AV)}{S:Store}{K:AV→Store→Prop}{cs:List AV}(h:fillA (fun i=>pl[i]?) zc parts=some cs):bld pl zc parts S K=K (.a cs) S:=by
 simp[bld,h]
theorem right_of{g:Gr}(hg:g.ok){S:Store}{id:Nat}(hid:id<S.n){z g0:AV}(h:S.obj id=some (onceO 122 0 0 z [pL g.ands,g0])){Q:AEnd→Store→Prop}
    (k:∀ S2,S.n≤S2.n→(∀ x,x<S.n→x≠id→S2.obj x=S.obj x)→Q (.ret (aB g.right)) S2):ACalls Pg 99 [g.av,.p id 0 0] S Q:=by
 have hlen:=hg.len
 refine calls99 ?_
 unfold m99 Gr.av
 refine boxA_of rfl fun S1 k1 n1 o1=>?_
 have kk:∀ b:Bool,g.right=b→Q (.ret (aB b)) S1:=fun b e=>e ▸ k S1 (by omega) fun x hx _=>k1.2 x hx
 rw[shift_p,ld1_p o1 rfl rfl,bin_lss,onB_v]
 refine gd_of (fun h1=>kk _ ?_) (fun h1=>?_)
 ·have h1:=dT h1
  simp[Gr.right,show ¬ 0≤g.inputs by omega]
 have h1:0≤g.inputs:=by simpa using h1
 rw[shift_p,ld1_p o1 rfl rfl,bin_gtr,onB_v]
 refine gd_of (fun h2=>kk _ ?_) (fun h2=>?_)
 ·have h2:=dT h2
  simp[Gr.right,show ¬ g.inputs≤2000 by omega]
 have h2:g.inputs≤2000:=by simpa using h2
 rw[shift_p,ld1_p o1 rfl rfl,lenS_pL,bin_gtr,onB_v]
 refine gd_of (fun h3=>kk _ ?_) (fun h3=>?_)
 ·have h3:=dT h3
  have:¬ (g.ands.length:Int)≤2000:=by omega
  simp only[Gr.right,this,decide_false,Bool.false_and,Bool.and_false]
 have h3:g.ands.length≤2000:=by have:=dF h3;omega
 rw[ldN_p (n:=2) o1 rfl]
 refine callF_ans (ans98 hg (by omega) h1) ?_
 rw[bin_gtr,onB_v]
 refine gd_of (fun h4=>kk _ ?_) (fun h4=>?_)
 ·have h4:=dT h4
  simp[Gr.right,show ¬ g.vars≤2000 by omega]
 have h4:g.vars≤2000:=by simpa using h4
 rw[shift_p,ld1_p o1 rfl rfl,lenS_pL]
 refine loop99_0 (fun y S'=>Keep S1 S'∧∃ i:Nat,y=aI i∧i≤g.ands.length∧∀ j,j<i→may (g.ands.getD j (0,0)) (g.inputs+1+j)=true)
  (fun y _=>g.ands.length - ((intA y).getD 0).toNat) ⟨Keep.refl _,0,rfl,Nat.zero_le _,fun j hj=>(Nat.not_lt_zero _ hj).elim⟩ ?_
 rintro _ S2 ⟨k2,i,rfl,hi,hmay⟩ KE hKE
 have o2:=(k2.2 S.n (by omega)).trans o1
 have b2:=(k2.2 id (by omega)).trans ((k1.2 id hid).trans h)
 unfold b99_0
 rw[bin_lss,onB_v]
 refine gd_of (fun hlt=>?_) (fun hge=>?_)
 ·have hlt:i<g.ands.length:=by simpa using hlt
  have hg':g.ands.getD i (0,0)=g.ands[i]:=by simp[List.getD_eq_getElem?_getD,hlt]
  rw[ixS_pL hlt,ldN_q2]
  refine boxA_of rfl fun S3 k3 n3 o3=>?_
  refine stA_of o3 rfl rfl fun S4 n4 o4 f4=>?_
  have k4:Keep S1 S4:=(k2.trans k3).st (by have:=k2.1;omega) n4 f4
  have p4:=(k4.2 S.n (by omega)).trans o1
  rw[ldN_p (n:=2) o4 rfl,shift_p,ld1_p p4 rfl rfl,bin_add (by omega) (by omega),bin_add (by omega) (by omega)]
  refine callF_ans (ans117 (p:=g.ands[i]) (hg.pairs _ (List.getElem_mem hlt))) ?_
  rw[un_not,onB_v]
  refine gd_of (fun h5=>?_) (fun h5=>?_)
  ·have:g.right=false:=by
     have hr:(List.range g.ands.length).all (fun i=>may (g.ands.getD i (0,0)) (g.inputs+1+i))=false:=by
      rw[List.all_eq_false]
      exact⟨i,by simpa using hlt,by rw[hg'];simpa using h5⟩
     simp only[Gr.right,hr,Bool.false_and,Bool.and_false]
   rw[←this]
   exact k S4 (by have:=k4.1;omega) fun x hx _=>(k4.2 x (by omega)).trans (k1.2 x hx)
  ·have hadd:∀ K:AV→Store→Prop,∀ S,bin .add 0 (.v (.int .i64 (i:Int))) (.v (.int .i64 1)) S K=K (aI (i+1:Nat)) S:=fun K S=>bin_add (by omega) (by omega) 0
   rw[hadd]
   refine hKE _ _ ⟨k4,i+1,rfl,hlt,fun j hj=>?_⟩ (by simp[intA];omega)
   rcases Nat.lt_or_ge j i with hj'|hj'
   ·exact hmay j hj'
   ·have:j=i:=by omega
    subst this
    rw[hg']
    simpa using h5
 ·have hge:i=g.ands.length:=by simp at hge;omega
  subst hge
  have hn2:=k2.1
  refine⟨_,fun T hT=>by rw[shift_p];exact⟨rfl,rfl⟩,_,fun T hT=>by rw[ld1_p ((hT.2 _ (by omega)).trans o2) rfl rfl];exact⟨rfl,rfl⟩,_,fun T hT=>by rw[lenS_pL];exact⟨rfl,rfl⟩,.inl (many_once hlen (by omega) b2 fun S3 n3 f3=>?_)⟩
  have o3:=(f3 S.n (by omega) (by omega)).trans o2
  refine⟨fun T hT=>by rw[lenS_pL];exact⟨rfl,rfl⟩,fun T hT=>by rw[ld1_p ((hT.2 _ (by omega)).trans o3) rfl rfl];exact⟨rfl,rfl⟩,fun T hT=>by rw[shift_p];exact⟨rfl,rfl⟩,_,fun T hT=>by rw[bin_eql];exact⟨rfl,rfl⟩,?_⟩
  have:g.right=decide (((gat g.ands g.ands.length).length:Int)=g.ands.length):=by
   have hr:(List.range g.ands.length).all (fun i=>may (g.ands.getD i (0,0)) (g.inputs+1+i))=true:=by
    rw[List.all_eq_true]
    exact fun j hj=>hmay j (by simpa using hj)
   have hall:=gat_all (l:=g.ands) (i:=g.ands.length) (Nat.le_refl _)
   rw[List.take_length]at hall
   simp only[Gr.right,hr,Bool.true_and,h1,h2,h4,show(g.ands.length:Int)≤2000 by omega,decide_true,Int.natCast_inj,hall]
  rw[←this]
  exact k S3 (by omega) fun x hx hne=>(f3 x (by omega) hne).trans ((k2.2 x (by omega)).trans (k1.2 x hx))
theorem ans55{g:Gr}(hg:g.ok):Ans Pg 55 [g.av] (aB g.right):=by
 intro S
 refine ACalls.ans_v (calls55 ?_)
 unfold m55 Gr.av
 refine boxA_of rfl fun S1 k1 n1 o1=>?_
 rw[ldN_p (n:=2) o1 rfl,shift_p,ld1_p o1 rfl rfl]
 rw[bld_of (cs:=[aW32 0,aS32 0,.v (.int .u32 0),pL g.ands,.v (.map none)]) rfl]
 refine boxA_of rfl fun S2 k2 n2 o2=>?_
 refine .inl (right_of hg (by omega) o2 fun S3 n3 f3=>⟨rfl,k1.trans ⟨by omega,fun x hx=>?_⟩⟩)
 rw[f3 x (by omega) (by omega),k2.2 x hx]
theorem ans45{g:Gr}(hg:g.ok)(hi:g.inputs≤1000000)(h0:0≤g.inputs):Ans Pg 45 [g.av] (aI g.vars):=by
 intro S
 have hl:=hg.len
 refine ACalls.ans_v (calls45 ?_)
 unfold m45 Gr.av
 refine boxA_of rfl fun S1 k1 n1 o1=>?_
 rw[shift_p,ld1_p o1 rfl rfl,bin_add (by omega) (by omega),shift_p,ld1_p o1 rfl rfl,lenS_pL,bin_add (by omega) (by omega)]
 exact⟨rfl,k1⟩
theorem ans66{g:Gr}{l:Int}(hg:g.ok)(hl:i64R l):Ans Pg 66 [g.av,aI l] (aB (g.lit l)):=by
 intro S
 refine ACalls.ans_v (calls66 ?_)
 unfold m66 Gr.av Gr.lit
 refine boxA_of rfl fun S1 k1 n1 o1=>?_
 rw[shift_p,ld1_p o1 rfl rfl,bin_geq,onB_v]
 refine gd_of (fun h1=>?_) (fun h1=>⟨by simp only[h1,Bool.false_and],k1⟩)
 rw[shift_p,ld1_p o1 rfl rfl,bin_leq,onB_v]
 refine gd_of (fun h2=>?_) (fun h2=>⟨by simp only[h1,h2,Bool.false_and,Bool.true_and],k1⟩)
 rw[bin_geq,onB_v]
 refine gd_of (fun h3=>?_) (fun h3=>⟨by simp only[h1,h2,h3,Bool.false_and,Bool.true_and],k1⟩)
 rw[bin_half hl,ldN_p (n:=2) o1 rfl]
 refine callF_ans (ans45 hg (by have:=dT h2;omega) (dT h1)) ?_
 rw[bin_lss]
 exact⟨by simp only[h1,h2,h3,Bool.true_and],k1⟩
theorem binP_eq{a b c d:Int}{S:Store}{K:AV→Store→Prop}:binP .i64 .eql (.a [aI a,aI b]) (.a [aI c,aI d]) S K=K (aB (decide ((a,b)=(c,d)))) S:=by
 simp[binP,keyA]
theorem ixA_q{n sz:Nat}{c:List AV}{z:Nat}{S:Store}{K:AV→Store→Prop}(hz:z<n):ixA n sz (.q c 0) (aI z) S K=K (.q c (z*sz)) S:=by
 unfold ixA
 simp only[intA,optP_some,Int.toNat_natCast,shift,Nat.zero_add]
 exact propext ⟨fun h=>h.2,fun h=>⟨⟨by omega,by omega⟩,h⟩⟩
theorem ld1_q1{u v:AV}{S:Store}{K:AV→Store→Prop}:ld1 (.q [u,v] 1) S K=K v S:=by simp[ld1,rd1,place]
theorem ld1_q0{u:AV}{l:List AV}{S:Store}{K:AV→Store→Prop}:ld1 (.q (u :: l) 0) S K=K u S:=by simp[ld1,rd1,place]
theorem right_iff{g:Gr}:g.right=true↔0≤g.inputs∧g.inputs≤2000∧(g.ands.length:Int)≤2000∧g.vars≤2000∧(∀ j,j<g.ands.length→may (g.ands.getD j (0,0)) (g.inputs+1+j)=true)∧g.ands.Nodup:=by
 simp[Gr.right]
theorem nodup_take{α:Type}[DecidableEq α]{l:List α}{i:Nat}(h:i<l.length):(l.take (i+1)).Nodup↔(l.take i).Nodup∧∀ k (hk:k<i),l[k]≠l[i]:=by
 rw[List.take_add_one,List.getElem?_eq_getElem h,List.nodup_append]
 constructor
 ·rintro⟨h1,_,h3⟩
  refine⟨h1,fun k hk=>h3 _ ?_ _ (by simp)⟩
  rw[List.mem_take_iff_getElem]
  exact⟨k,by omega,rfl⟩
 ·rintro⟨h1,h2⟩
  refine⟨h1,by simp,fun a ha b hb=>?_⟩
  have:b=l[i]:=by simpa using hb
  subst this
  rw[List.mem_take_iff_getElem]at ha
  obtain⟨k,hk,rfl⟩:=ha
  exact h2 k (by omega)
theorem may_false1{p:Int × Int}{v:Int}(h:p.2<2):may p v=false:=by simp[may,show ¬ 2≤p.2 by omega]
theorem may_false2{p:Int × Int}{v:Int}(h:p.1.tdiv 2≤p.2.tdiv 2):may p v=false:=by simp[may,show ¬ p.2.tdiv 2<p.1.tdiv 2 by omega]
theorem may_false3{p:Int × Int}{v:Int}(h:v≤p.1.tdiv 2):may p v=false:=by simp[may,show ¬ p.1.tdiv 2<v by omega]
theorem right_may{g:Gr}{i:Nat}(h:i<g.ands.length)(hm:may (g.ands.getD i (0,0)) (g.inputs+1+i)=false):g.right=false:=by
 cases e:g.right with
 |false=>rfl
 |true=>rw[(right_iff.1 e).2.2.2.2.1 i h]at hm;cases hm
theorem ans65{g:Gr}(hg:g.ok):Ans Pg 65 [g.av] (aB g.right):=by
 intro S
 refine ACalls.ans_v (calls65 ?_)
 have hlen:=hg.len
 unfold m65 Gr.av
 refine boxA_of rfl fun S1 k1 n1 o1=>?_
 rw[shift_p,ld1_p o1 rfl rfl,bin_lss,onB_v]
 refine gd_of (fun h1=>⟨?_,k1⟩) (fun h1=>?_)
 ·have h1:=dT h1
  simp[Gr.right,show ¬ 0≤g.inputs by omega]
 have h1:0≤g.inputs:=by simpa using h1
 rw[shift_p,ld1_p o1 rfl rfl,bin_gtr,onB_v]
 refine gd_of (fun h2=>⟨?_,k1⟩) (fun h2=>?_)
 ·have h2:=dT h2
  simp[Gr.right,show ¬ g.inputs≤2000 by omega]
 have h2:g.inputs≤2000:=by simpa using h2
 rw[shift_p,ld1_p o1 rfl rfl,lenS_pL,bin_gtr,onB_v]
 refine gd_of (fun h3=>⟨?_,k1⟩) (fun h3=>?_)
 ·have h3:=dT h3
  have:¬ (g.ands.length:Int)≤2000:=by omega
  simp only[Gr.right,this,decide_false,Bool.false_and,Bool.and_false]
 have h3:g.ands.length≤2000:=by have:=dF h3;omega
 rw[ldN_p (n:=2) o1 rfl]
 refine callF_ans (ans45 hg (by omega) h1) ?_
 rw[bin_gtr,onB_v]
 refine gd_of (fun h4=>⟨?_,k1⟩) (fun h4=>?_)
 ·have h4:=dT h4
  simp[Gr.right,show ¬ g.vars≤2000 by omega]
 have h4:g.vars≤2000:=by simpa using h4
 refine loop65_0 (fun y S'=>S'=S1∧∃ i:Nat,y=aI i∧i≤g.ands.length∧(∀ j,j<i→may (g.ands.getD j (0,0)) (g.inputs+1+j)=true)∧(g.ands.take i).Nodup)
  (fun y _=>g.ands.length - ((intA y).getD 0).toNat) ⟨rfl,0,rfl,Nat.zero_le _,fun j hj=>(Nat.not_lt_zero _ hj).elim,by simp⟩ ?_
 rintro _ S1 ⟨rfl,i,rfl,hi,hmay,hnd⟩ KE hKE
 unfold b65_0
 rw[shift_p,ld1_p o1 rfl rfl,lenS_pL,bin_lss,onB_v]
 refine gd_of (fun hlt=>?_) (fun hge=>?_)
 ·have hlt:i<g.ands.length:=by simpa using hlt
  have hg':g.ands.getD i (0,0)=g.ands[i]:=by simp[List.getD_eq_getElem?_getD,hlt]
  have hp:=hg.pairs _ (List.getElem_mem hlt)
  have e1:∀(c:List AV) (K:AV→Store→Prop),ixA 2 1 (.q c 0) (.v (.int .i64 1)) S1 K=K (.q c 1) S1:=fun c K=>ixA_q (z:=1) (by decide)
  have e0:∀(c:List AV) (K:AV→Store→Prop),ixA 2 1 (.q c 0) (.v (.int .i64 0)) S1 K=K (.q c 0) S1:=fun c K=>ixA_q (z:=0) (by decide)
  show ∃ q24:AV,_
  refine⟨_,by rw[shift_p];exact⟨rfl,rfl⟩,_,by rw[ld1_p o1 rfl rfl];exact⟨rfl,rfl⟩,_,by rw[ixS_pL hlt];exact⟨rfl,rfl⟩,_,by rw[e0];exact⟨rfl,rfl⟩,_,by rw[ld1_q0];exact⟨rfl,rfl⟩,
   _,by rw[shift_p];exact⟨rfl,rfl⟩,_,by rw[ld1_p o1 rfl rfl];exact⟨rfl,rfl⟩,_,by rw[ixS_pL hlt];exact⟨rfl,rfl⟩,_,by rw[e1];exact⟨rfl,rfl⟩,_,by rw[ld1_q1];exact⟨rfl,rfl⟩,?_⟩
  rw[bin_lss,onB_v]
  refine gd_of (fun h5=>⟨?_,k1⟩) (fun h5=>?_)
  ·rw[right_may hlt (by rw[hg'];exact may_false1 (dT h5))]
  rw[bin_half hp.1,bin_half hp.2,bin_leq,onB_v]
  refine gd_of (fun h6=>⟨?_,k1⟩) (fun h6=>?_)
  ·rw[right_may hlt (by rw[hg'];exact may_false2 (dT h6))]
  rw[bin_half hp.1,shift_p,ld1_p o1 rfl rfl,bin_add (by omega) (by omega),bin_add (by omega) (by omega),bin_geq,onB_v]
  refine gd_of (fun h7=>⟨?_,k1⟩) (fun h7=>?_)
  ·rw[right_may hlt (by rw[hg'];exact may_false3 (dT h7))]
  have h5:=dF h5
  have h6:=dF h6
  have h7:=dF h7
  refine loop65_1 (fun y S'=>S'=S1∧∃ k:Nat,y=aI k∧k≤i∧∀ j (hj:j<k) (hk:k≤i),g.ands[j]'(by omega)≠g.ands[i])
   (fun y _=>g.ands.length - ((intA y).getD 0).toNat) ⟨rfl,0,rfl,Nat.zero_le _,fun j hj=>(Nat.not_lt_zero _ hj).elim⟩ ?_
  rintro _ S1 ⟨rfl,k,rfl,hk,hne⟩ KE1 hKE1
  unfold b65_1
  rw[bin_lss,onB_v]
  refine gd_of (fun hlk=>?_) (fun hgk=>?_)
  ·have hlk:k<i:=by simpa using hlk
   have hkl:k<g.ands.length:=by omega
   show ∃ q24:AV,_
   refine⟨_,by rw[shift_p];exact⟨rfl,rfl⟩,_,by rw[ld1_p o1 rfl rfl];exact⟨rfl,rfl⟩,_,by rw[ixS_pL hkl];exact⟨rfl,rfl⟩,_,by rw[ldN_q2];exact⟨rfl,rfl⟩,
    _,by rw[shift_p];exact⟨rfl,rfl⟩,_,by rw[ld1_p o1 rfl rfl];exact⟨rfl,rfl⟩,_,by rw[ixS_pL hlt];exact⟨rfl,rfl⟩,_,by rw[ldN_q2];exact⟨rfl,rfl⟩,_,by rw[binP_eq];exact⟨rfl,rfl⟩,?_⟩
   rw[onB_v]
   refine gd_of (fun h8=>⟨?_,k1⟩) (fun h8=>?_)
   ·have h8:g.ands[k]=g.ands[i]:=dT h8
    have:g.right=false:=by
     cases e:g.right with
     |false=>rfl
     |true =>
      have hnd:=(right_iff.1 e).2.2.2.2.2
      exact absurd h8 (List.pairwise_iff_getElem.1 hnd k i hkl hlt hlk)
    rw[this]
   ·have h8:¬ g.ands[k]=g.ands[i]:=dF h8
    have hadd:∀ K:AV→Store→Prop,∀ S,bin .add 0 (.v (.int .i64 (k:Int))) (.v (.int .i64 1)) S K=K (aI (k+1:Nat)) S:=fun K S=>bin_add (by omega) (by omega) 0
    rw[hadd]
    refine hKE1 _ _ ⟨rfl,k+1,rfl,hlk,fun j hj _=>?_⟩ (by simp[intA];omega)
    rcases Nat.lt_or_ge j k with hj'|hj'
    ·exact hne j hj' (by omega)
    ·have:j=k:=by omega
     subst this
     exact h8
  ·have hge:k=i:=by simp at hgk;omega
   subst hge
   have hadd:∀ K:AV→Store→Prop,∀ S,bin .add 0 (.v (.int .i64 (k:Int))) (.v (.int .i64 1)) S K=K (aI (k+1:Nat)) S:=fun K S=>bin_add (by omega) (by omega) 0
   rw[hadd]
   refine hKE _ _ ⟨rfl,k+1,rfl,hlt,fun j hj=>?_,(nodup_take hlt).2 ⟨hnd,fun j hj=>hne j hj (Nat.le_refl _)⟩⟩ (by simp[intA];omega)
   rcases Nat.lt_or_ge j k with hj'|hj'
   ·exact hmay j hj'
   ·have:j=k:=by omega
    subst this
    rw[hg']
    simp[may,show 2≤(g.ands[j]).2 by omega,show(g.ands[j]).2.tdiv 2<(g.ands[j]).1.tdiv 2 by omega,show(g.ands[j]).1.tdiv 2<g.inputs+1+j by omega]
 ·have hge:i=g.ands.length:=by simp at hge;omega
  subst hge
  rw[List.take_length]at hnd
  rw[right_iff.2 ⟨h1,h2,by omega,h4,hmay,hnd⟩]
  exact⟨rfl,k1⟩
theorem Own.appL{n:Nat}{S:Store}{x:AV}{e sz b:Nat}{es ys:List (List AV)}(h:Own n S x e es)(hn:n≤S.n){K:AV→Store→Prop}(hc:∀ c∈ys,c.length=sz)(hb:(es.length+ys.length)*b≤140737488355328)
    (k:∀ x' S',Own n S' x' e (es++ys)→But S S' x→(x'=x∨∃ m,x' = .s S.n 0 m)→K x' S') {y:AV} (hy:srcE S y=some ys):appS e sz b x y S K:=by
 refine⟨h.isSl,ys,hy,hc,?_⟩
 cases ys with
 |nil=>exact k x S (by simpa using h) ⟨Nat.le_refl _,fun _ _ _=>rfl⟩ (.inl rfl)
 |cons c ys =>
  rcases h with⟨rfl,rfl⟩|⟨id,rfl,h1,h2,h3⟩
  ·refine⟨by simpa using hb,k _ _ (.inr ⟨S.n,rfl,hn,Nat.lt_succ_self _,by simp[Store.new]⟩) ⟨Nat.le_succ _,fun i hi _=>?_⟩ (.inr ⟨_,rfl⟩)⟩
   simp only[Store.new];rw[if_neg (by omega)]
  ·simp only[appE,h3]
   refine⟨⟨trivial,trivial,by simpa using hb⟩,k _ _ (.inr ⟨S.n,by simp,hn,Nat.lt_succ_self _,by simp[Store.new,Store.kill]⟩) ⟨Nat.le_succ _,fun i hi hne=>?_⟩ (.inr ⟨_,rfl⟩)⟩
   have e1:i≠S.n:=by omega
   have e2:i≠id:=fun hq=>hne 0 es.length (by rw[hq])
   simp[Store.new,Store.kill,e1,e2]
theorem bslP{e:Nat}{z1 z2 u v:AV}{S:Store}{K:AV→Store→Prop}(k:K (.l [[u,v]]) S):bslN e 2 1 [z1,z2] [(0,.a [u,v])] S K:=by
 refine⟨[u,v],?_,.inr ?_⟩
 ·simp[fillA,cellsOf,spl,List.range_succ]
 ·simpa[chunks,List.range_succ]using k
@[simp] theorem mx_true(a b:Int){S:Store}{K:AV→Store→Prop}:mxI true (aI a) (aI b) S K=K (aI (if b > a then b else a)) S:=rfl
@[simp] theorem mx_false(a b:Int){S:Store}{K:AV→Store→Prop}:mxI false (aI a) (aI b) S K=K (aI (if b<a then b else a)) S:=rfl
theorem treeP(l:List (Int × Int)):Tree (pL l):=Tree.l fun c hc u hu=>by
 obtain⟨p,_,rfl⟩:=List.mem_map.1 hc
 rcases List.mem_cons.1 hu with rfl|hu
 ·exact Tree.v _
 ·rcases List.mem_cons.1 hu with rfl|hu
  ·exact Tree.v _
  ·simp at hu
theorem Gr.tree(g:Gr):Tree g.av:=Tree.a fun u hu=>by
 rcases List.mem_cons.1 hu with rfl|hu
 ·exact Tree.v _
 ·rcases List.mem_cons.1 hu with rfl|hu
  ·exact treeP _
  ·simp at hu
section
variable {S:Store} {K:AV→Store→Prop}
theorem ixStr_b{b:ByteArray}{i:Nat}(h:i<b.size):ixStr (.v (.string b)) (aI i) S K=K (.v (.int .u8 (b[i]).toNat)) S:=by
 simp[ixStr,intA,h]
@[simp] theorem lenStr_b(b:ByteArray):lenStr (.v (.string b)) S K=K (aI b.size) S:=rfl
theorem bytesEq(a b:ByteArray):(a.toList == b.toList)=decide (a=b):=by
 rw[Bool.eq_iff_iff,beq_iff_eq,ByteArray.toList_eq,ByteArray.toList_eq,decide_eq_true_eq]
 exact⟨fun h=>ByteArray.ext (Array.toList_inj.mp h),fun h=>by rw[h]⟩
theorem bin_eqlS(a b:ByteArray)(kd:Nat):bin .eql kd (.v (.string a)) (.v (.string b)) S K=K (aB (decide (a=b))) S:=by simp[bin,b2,strB,bytesEq]
theorem bin_neqS(a b:ByteArray)(kd:Nat):bin .neq kd (.v (.string a)) (.v (.string b)) S K=K (aB (!decide (a=b))) S:=by simp[bin,b2,strB,bytesEq]
theorem ld1_qj{c:List AV}{j:Nat}{u:AV}(h:c[j]? = some u):ld1 (.q c j) S K=K u S:=by simp[ld1,rd1,place,h]
@[simp] theorem shift_q(c:List AV)(j n:Nat):shift (.q c j) n S K=K (.q c (j+n)) S:=rfl
end
def wordB(b:ByteArray):Bool:=decide (∀ i (h:i<b.size),33≤(b[i]).toNat∧(b[i]).toNat≤126) && (decide (0<b.size) && decide (b.size≤20))
theorem ans109(b:ByteArray)(hb:b.size≤9223372036854775807):Ans Pg 109 [.v (.string b)] (aB (wordB b)):=by
 intro S
 refine ACalls.ans_v (calls109 ?_)
 unfold m109
 refine loop109_0 (fun y S'=>S'=S∧∃ i:Nat,y=aI i∧i≤b.size∧∀ j (h:j<b.size),j<i→33≤(b[j]).toNat∧(b[j]).toNat≤126)
  (fun y _=>b.size - ((intA y).getD 0).toNat) ⟨rfl,0,rfl,Nat.zero_le _,fun j _ hj=>(Nat.not_lt_zero _ hj).elim⟩ ?_
 rintro _ S ⟨rfl,i,rfl,hi,hok⟩ KE hKE
 unfold b109_0
 rw[lenStr_b,bin_lss,onB_v]
 refine gd_of (fun hlt=>?_) (fun hge=>?_)
 ·have hlt:i<b.size:=by simpa using hlt
  have bad:¬ (33≤(b[i]).toNat∧(b[i]).toNat≤126)→wordB b=false:=fun h=>by
   simp only[wordB,Bool.and_eq_false_iff,decide_eq_false_iff_not]
   exact .inl fun h'=>h (h' i hlt)
  rw[ixStr_b hlt,bin_lss,onB_v]
  refine gd_of (fun h1=>⟨by rw[bad (fun h=>by have:=dT h1;omega)],Keep.refl _⟩) (fun h1=>?_)
  rw[ixStr_b hlt,bin_gtr,onB_v]
  refine gd_of (fun h2=>⟨by rw[bad (fun h=>by have:=dT h2;omega)],Keep.refl _⟩) (fun h2=>?_)
  have hadd:∀ K:AV→Store→Prop,∀ S,bin .add 0 (.v (.int .i64 (i:Int))) (.v (.int .i64 1)) S K=K (aI (i+1:Nat)) S:=fun K S=>bin_add (by omega) (by omega) 0
  rw[hadd]
  refine hKE _ _ ⟨rfl,i+1,rfl,hlt,fun j hj hj'=>?_⟩ (by simp[intA];omega)
  rcases Nat.lt_or_ge j i with h|h
  ·exact hok j hj h
  ·have:j=i:=by omega
   subst this
   have h1:=dF h1
   have h2:=dF h2
   omega
 ·have hge:i=b.size:=by simp at hge;omega
  subst hge
  have hall:decide (∀ i (h:i<b.size),33≤(b[i]).toNat∧(b[i]).toNat≤126)=true:=decide_eq_true fun j hj=>hok j hj hj
  rw[lenStr_b,bin_gtr,onB_v]
  refine gd_of (fun h1=>?_) (fun h1=>⟨?_,Keep.refl _⟩)
  ·rw[lenStr_b,bin_leq]
   refine⟨?_,Keep.refl _⟩
   simp only[wordB,hall,Bool.true_and,show 0<b.size by simpa using h1,decide_true]
   rw[show decide ((b.size:Int)≤20)=decide (b.size≤20)from decide_eq_decide.2 (by omega)]
  ·simp[wordB,show ¬ 0<b.size by simpa using h1]
theorem ans102(b:ByteArray)(hb:b.size≤9223372036854775807):Ans Pg 102 [.v (.string b)] (aB (wordB b)):=by
 intro S
 refine ACalls.ans_v (calls102 ?_)
 unfold m102
 rw[lenStr_b]
 refine loop102_0 (fun y S'=>S'=S∧∃ i:Nat,y=aI i∧i≤b.size∧∀ j (h:j<b.size),j<i→33≤(b[j]).toNat∧(b[j]).toNat≤126)
  (fun y _=>b.size - ((intA y).getD 0).toNat) ⟨rfl,0,rfl,Nat.zero_le _,fun j _ hj=>(Nat.not_lt_zero _ hj).elim⟩ ?_
 rintro _ S ⟨rfl,i,rfl,hi,hok⟩ KE hKE
 unfold b102_0
 rw[bin_lss,onB_v]
 refine gd_of (fun hlt=>?_) (fun hge=>?_)
 ·have hlt:i<b.size:=by simpa using hlt
  have bad:¬ (33≤(b[i]).toNat∧(b[i]).toNat≤126)→wordB b=false:=fun h=>by
   simp only[wordB,Bool.and_eq_false_iff,decide_eq_false_iff_not]
   exact .inl fun h'=>h (h' i hlt)
  rw[ixStr_b hlt,bin_leq,onB_v]
  refine gd_of (fun h1=>⟨by rw[bad (fun h=>by have:=dT h1;omega)],Keep.refl _⟩) (fun h1=>?_)
  rw[ixStr_b hlt,bin_gtr,onB_v]
  refine gd_of (fun h2=>⟨by rw[bad (fun h=>by have:=dT h2;omega)],Keep.refl _⟩) (fun h2=>?_)
  have hadd:∀ K:AV→Store→Prop,∀ S,bin .add 0 (.v (.int .i64 (i:Int))) (.v (.int .i64 1)) S K=K (aI (i+1:Nat)) S:=fun K S=>bin_add (by omega) (by omega) 0
  rw[hadd]
  refine hKE _ _ ⟨rfl,i+1,rfl,hlt,fun j hj hj'=>?_⟩ (by simp[intA];omega)
  rcases Nat.lt_or_ge j i with h|h
  ·exact hok j hj h
  ·have:j=i:=by omega
   subst this
   have h1:=dF h1
   have h2:=dF h2
   omega
 ·have hge:i=b.size:=by simp at hge;omega
  subst hge
  have hall:decide (∀ i (h:i<b.size),33≤(b[i]).toNat∧(b[i]).toNat≤126)=true:=decide_eq_true fun j hj=>hok j hj hj
  have he:decide (b={ data:=#[] })=decide (b.size=0):=by
   by_cases h:b.size=0
   ·have:b={ data:=#[] }:=byteArray_ext (Array.eq_empty_of_size_eq_zero h)
    subst this
    rfl
   ·have:¬ b={ data:=#[] }:=fun e=>h (by rw[e];rfl)
    simp[this,h]
  rw[bin_neqS,he,onB_v]
  refine gd_of (fun h1=>?_) (fun h1=>⟨?_,Keep.refl _⟩)
  ·have h1:b.size≠0:=by simpa using h1
   rw[lenStr_b,bin_leq]
   refine⟨?_,Keep.refl _⟩
   simp only[wordB,hall,Bool.true_and,show 0<b.size by omega,decide_true]
   rw[show decide ((b.size:Int)≤20)=decide (b.size≤20)from decide_eq_decide.2 (by omega)]
  ·have h1:b.size=0:=by simpa using h1
   simp[wordB,h1]
def rankI(k:Int):Int:=if k=105 then 0 else if k=108 then 1 else if k=111 then 2 else if k=98 then 3 else if k=99 then 4 else if k=102 then 5 else -1
def kindS:ByteArray:={ data:=#[105,108,111,98,99,102] }
def kindAt(i:Nat):Int:=[105,108,111,98,99,102].getD i 0
theorem kindS_get{i:Nat}(h:i<6):∃ h':i<kindS.size,((kindS[i]'h').toNat:Int)=kindAt i:=by
 match i,h with
 |0,_|1,_|2,_|3,_|4,_|5,_=>exact⟨by decide,by decide⟩
theorem rankI_at{k:Int}{i:Nat}(h:i<6)(hk:kindAt i=k):rankI k=i:=by
 subst hk
 match i,h with
 |0,_|1,_|2,_|3,_|4,_|5,_=>decide
theorem rankI_no{k:Int}(h:∀ i,i<6→kindAt i≠k):rankI k = -1:=by
 have h0:(105:Int)≠k:=h 0 (by decide)
 have h1:(108:Int)≠k:=h 1 (by decide)
 have h2:(111:Int)≠k:=h 2 (by decide)
 have h3:(98:Int)≠k:=h 3 (by decide)
 have h4:(99:Int)≠k:=h 4 (by decide)
 have h5:(102:Int)≠k:=h 5 (by decide)
 simp only[rankI]
 rw[if_neg (Ne.symm h0),if_neg (Ne.symm h1),if_neg (Ne.symm h2),if_neg (Ne.symm h3),if_neg (Ne.symm h4),if_neg (Ne.symm h5)]
theorem ans110(k:Int):Ans Pg 110 [.v (.int .u8 k)] (aI (rankI k)):=by
 intro S
 refine ACalls.ans_v (calls110 ?_)
 unfold m110
 refine loop110_0 (fun y S'=>S'=S∧∃ i:Nat,y=aI i∧i≤6∧∀ j,j<i→kindAt j≠k)
  (fun y _=>6 - ((intA y).getD 0).toNat) ⟨rfl,0,rfl,Nat.zero_le _,fun j hj=>(Nat.not_lt_zero _ hj).elim⟩ ?_
 rintro _ S ⟨rfl,i,rfl,hi,hno⟩ KE hKE
 unfold b110_0
 rw[lenStr_b,bin_lss,onB_v]
 refine gd_of (fun hlt=>?_) (fun hge=>?_)
 ·have hlt:i<6:=by have:=dT hlt;exact Int.ofNat_lt.1 this
  obtain⟨h',he⟩:=kindS_get hlt
  show ixStr (.v (.string kindS)) _ _ _
  rw[ixStr_b h',he,bin_eql,onB_v]
  refine gd_of (fun h1=>⟨?_,Keep.refl _⟩) (fun h1=>?_)
  ·rw[rankI_at hlt (dT h1)]
  ·have hadd:∀ K:AV→Store→Prop,∀ S,bin .add 0 (.v (.int .i64 (i:Int))) (.v (.int .i64 1)) S K=K (aI (i+1:Nat)) S:=fun K S=>bin_add (by omega) (by omega) 0
   rw[hadd]
   refine hKE _ _ ⟨rfl,i+1,rfl,hlt,fun j hj=>?_⟩ (by simp[intA];omega)
   rcases Nat.lt_or_ge j i with h|h
   ·exact hno j h
   ·have:j=i:=by omega
    subst this
    exact dF h1
 ·have hge:i=6:=by
    have:¬ ((i:Int)<6):=dF hge
    omega
  subst hge
  rw[rankI_no hno]
  exact⟨rfl,Keep.refl _⟩
theorem ans103(k:Int)(h0:0≤k)(h1:k<256):Ans Pg 103 [.v (.int .u8 k)] (aI (rankI k)):=by
 intro S
 refine ACalls.ans_v (calls103 ?_)
 unfold m103 rngS
 refine loop103_0 (fun S'=>Keep S S'∧∃ i:Nat,S'.obj S.n=some (.sit kindS i)∧i≤6∧∀ j,j<i→kindAt j≠k)
  (fun S'=>match S'.obj S.n with|some (.sit _ i)=>6 - i|_=>0) ⟨(Keep.refl S).new _,0,by rw[new_self];rfl,Nat.zero_le _,fun j hj=>(Nat.not_lt_zero _ hj).elim⟩ ?_
 rintro S1 ⟨k1,i,o1,hi,hno⟩ KE hKE
 unfold b103_0 nextM
 simp only[o1]
 refine⟨fun hlt=>?_,fun hge=>?_⟩
 ·have hlt:i<6:=hlt
  have hdec:(((Utf8.decode kindS i).1:Nat):Int)=kindAt i∧(Utf8.decode kindS i).2=1:=by
   match i,hlt with
   |0,_|1,_|2,_|3,_|4,_|5,_=>exact⟨by decide,by decide⟩
  rw[hdec.1,hdec.2]
  show extr _ _ _ _
  rw[extr0]
  show onB _ _
  rw[onB_v,gd_true,extr1,extr2,convI_v]
  have hw:IntKind.i32.wrap k=k:=by
   rw[IntKind.wrap_i32];omega
  rw[hw,bin_eql,onB_v]
  refine gd_of (fun h2=>⟨?_,k1.upd (Nat.le_refl _) _⟩) (fun h2=>?_)
  ·rw[rankI_at hlt (dT h2).symm]
  ·refine hKE _ ⟨k1.upd (Nat.le_refl _) _,i+1,upd_self _ _,hlt,fun j hj=>?_⟩ (by simp only[upd_self,o1];omega)
   rcases Nat.lt_or_ge j i with h|h
   ·exact hno j h
   ·have:j=i:=by omega
    subst this
    exact Ne.symm (dF h2)
 ·have hge:i=6:=by
    have:¬ (i<6):=hge
    omega
  subst hge
  show extr _ _ _ _
  rw[over,extr0,onB_v,gd_false,rankI_no hno]
  exact⟨rfl,k1⟩
theorem ans119(a:Int):Ans Pg 119 [aI a] (aB false):=by
 intro S
 refine ACalls.ans_v (calls119 ?_)
 unfold m119
 rw[bin_neq]
 exact⟨by simp,Keep.refl _⟩
def cmpZ(a b:Int):Int:=if a<b then -1 else if b<a then 1 else 0
theorem ans105(a b:Int):Ans Pg 105 [aI a,aI b] (aI (cmpZ a b)):=by
 intro S
 refine ACalls.ans_v (calls105 ?_)
 unfold m105
 refine callF_ans (ans119 a) (callF_ans (ans119 b) ?_)
 rw[onB_v,gd_false,onB_v,gd_false,bin_lss,onB_v]
 refine gd_of (fun h=>⟨?_,Keep.refl _⟩) (fun h=>?_)
 ·rw[cmpZ,if_pos (dT h)]
 rw[bin_gtr,onB_v]
 have h:=dF h
 refine gd_of (fun h2=>⟨?_,Keep.refl _⟩) (fun h2=>⟨?_,Keep.refl _⟩)
 ·rw[cmpZ,if_neg h,if_pos (dT h2)]
 ·rw[cmpZ,if_neg h,if_neg (dF h2)]
theorem ans104(a b:Int):Ans Pg 104 [.l [[aI a],[aI b]]] (aI (if a≠0 then a else b)):=by
 intro S
 refine ACalls.ans_v (calls104 ?_)
 unfold m104
 rw[lenS_l]
 refine loop104_0 (fun y S'=>S'=S∧∃ i:Nat,y=aI i∧i≤2∧(1≤i→a=0)∧(2≤i→b=0))
  (fun y _=>2 - ((intA y).getD 0).toNat) ⟨rfl,0,rfl,Nat.zero_le _,fun h=>by omega,fun h=>by omega⟩ ?_
 rintro _ S ⟨rfl,i,rfl,hi,h1,h2⟩ KE hKE
 unfold b104_0
 rw[bin_lss,onB_v]
 refine gd_of (fun hlt=>?_) (fun hge=>?_)
 ·have hlt:i<2:=by have:=dT hlt;exact Int.ofNat_lt.1 this
  have hadd:∀ K:AV→Store→Prop,∀ S,bin .add 0 (.v (.int .i64 (i:Int))) (.v (.int .i64 1)) S K=K (aI (i+1:Nat)) S:=fun K S=>bin_add (by omega) (by omega) 0
  match i,hlt with
  |0,_ =>
   rw[show ∀ K:AV→Store→Prop,ixS 3 1 (.l [[aI a],[aI b]]) (aI ((0:Nat):Int)) S K=K (.q [aI a] 0) S from fun K=>ixS_l (es:=[[aI a],[aI b]]) (i:=0) (by simp) rfl,ld1_qj rfl,bin_neq,onB_v]
   refine gd_of (fun h=>⟨?_,Keep.refl _⟩) (fun h=>?_)
   ·rw[if_pos (by simpa using h)]
   ·rw[hadd]
    exact hKE _ _ ⟨rfl,1,rfl,by decide,fun _=>by simpa using h,fun h=>by omega⟩ (by simp[intA])
  |1,_ =>
   have ha:=h1 (Nat.le_refl _)
   rw[show ∀ K:AV→Store→Prop,ixS 3 1 (.l [[aI a],[aI b]]) (aI ((1:Nat):Int)) S K=K (.q [aI b] 0) S from fun K=>ixS_l (es:=[[aI a],[aI b]]) (i:=1) (by simp) rfl,ld1_qj rfl,bin_neq,onB_v]
   refine gd_of (fun h=>⟨?_,Keep.refl _⟩) (fun h=>?_)
   ·rw[if_neg (by simp[ha])]
   ·rw[hadd]
    exact hKE _ _ ⟨rfl,2,rfl,by decide,fun _=>ha,fun _=>by simpa using h⟩ (by simp[intA])
 ·have hge:i=2:=by
    have:¬ ((i:Int)<2):=dF hge
    omega
  subst hge
  refine⟨?_,Keep.refl _⟩
  rw[h1 (by decide),h2 (by decide)]
  rfl
structure Na where
 kind:Int
 pos:Int
 text:ByteArray
 deriving DecidableEq
structure Ci where
 inputs:Int
 latches:List (Int × Int)
 ands:List (Int × Int)
 outs:List Int
 bads:List Int
 cons:List Int
 fair:List Int
 names:List Na
def Na.row(x:Na):List AV:=[.v (.int .u8 x.kind),aI x.pos,.v (.string x.text)]
def nL(l:List Na):AV:=.l (l.map Na.row)
def Ci.cells(c:Ci):List AV:=[aI c.inputs,pL c.latches,pL c.ands,aL aI c.outs,aL aI c.bads,aL aI c.cons,aL aI c.fair,nL c.names]
def Ci.av(c:Ci):AV:=.a c.cells
def Ci.gr(c:Ci):Gr:=⟨IntKind.i64.wrap (c.inputs+c.latches.length),c.ands⟩
structure Ci.ok (c:Ci):Prop where
 inp:i64R c.inputs
 llen:c.latches.length≤1000000
 alen:c.ands.length≤1000000
 lats:∀ p∈c.latches,i64R p.1∧i64R p.2
 pairs:∀ p∈c.ands,i64R p.1∧i64R p.2
 outs:(∀ x∈c.outs,i64R x)∧c.outs.length≤9223372036854775807
 bads:(∀ x∈c.bads,i64R x)∧c.bads.length≤9223372036854775807
 cons:(∀ x∈c.cons,i64R x)∧c.cons.length≤9223372036854775807
 fair:(∀ x∈c.fair,i64R x)∧c.fair.length≤9223372036854775807
 names:∀ x∈c.names,0≤x.kind∧x.kind<256∧i64R x.pos∧x.text.size≤9223372036854775807
 nlen:c.names.length≤1000000
theorem wrapR(n:Int):i64R (IntKind.i64.wrap n):=by
 unfold i64R
 rw[IntKind.wrap_i64];omega
theorem Ci.ok.gr{c:Ci}(h:c.ok):c.gr.ok:=⟨wrapR _,h.alen,h.pairs⟩
theorem bin_addW{a b:Int}(kd:Nat){S:Store}{K:AV→Store→Prop}:bin .add kd (aI a) (aI b) S K=K (aI (IntKind.i64.wrap (a+b))) S:=by
 simp[bin,b2,isSh,cmpI,ariI]
theorem ans23(c:Ci):Ans Pg 23 [c.av] c.gr.av:=by
 intro S
 refine ACalls.tree (calls23 ?_)
 unfold m23
 refine boxA_of rfl fun S1 k1 n1 o1=>?_
 refine boxA_of rfl fun S2 k2 n2 o2=>?_
 have p1:S2.obj S.n=_:=(k2.2 S.n (by omega)).trans o1
 rw[shift_p,ld1_p p1 rfl rfl,shift_p,ld1_p p1 rfl rfl,lenS_pL,bin_addW,shift_p,ld1_p p1 rfl rfl,bld_of (cs:=c.gr.cells) rfl]
 refine stA_of o2 rfl rfl fun S3 n3 o3 f3=>?_
 rw[ldN_p (n:=2) o3 rfl]
 exact⟨_,rfl,(k1.trans k2).st (by omega) n3 f3,c.gr.tree _ _⟩
theorem ans30(c:Ci):Ans Pg 30 [c.av] c.gr.av:=by
 intro S
 refine ACalls.tree (calls30 ?_)
 unfold m30
 refine boxA_of rfl fun S1 k1 n1 o1=>?_
 refine boxA_of rfl fun S2 k2 n2 o2=>?_
 have p1:S2.obj S.n=_:=(k2.2 S.n (by omega)).trans o1
 rw[shift_p,ld1_p p1 rfl rfl,shift_p,ld1_p p1 rfl rfl,lenS_pL,bin_addW,shift_p,ld1_p p1 rfl rfl,bld_of (cs:=c.gr.cells) rfl]
 refine stA_of o2 rfl rfl fun S3 n3 o3 f3=>?_
 rw[ldN_p (n:=2) o3 rfl]
 exact⟨_,rfl,(k1.trans k2).st (by omega) n3 f3,c.gr.tree _ _⟩
def Ci.many(c:Ci)(k:Int):Int:=if k=105 then c.inputs else if k=108 then c.latches.length else if k=111 then c.outs.length else if k=98 then c.bads.length else if k=99 then c.cons.length else if k=102 then c.fair.length else 0
def Ci.manyE(c:Ci):List (Key × AV):=[(.i 105,aI c.inputs),(.i 108,aI c.latches.length),(.i 111,aI c.outs.length),(.i 98,aI c.bads.length),(.i 99,aI c.cons.length),(.i 102,aI c.fair.length)]
theorem keyI(k:IntKind)(a:Int):keyA (.i k) (.v (.int k a))=some (.i a):=by simp[keyA]
theorem ans51(c:Ci):Ans Pg 51 [c.av] (.mt (.i .i32) c.manyE):=by
 intro S
 refine ACalls.tree (calls51 ?_)
 unfold m51
 refine boxA_of rfl fun S1 k1 n1 o1=>?_
 unfold mkM
 show shift _ _ _ _
 have p1:(S1.new (.map (.i .i32) [] true)).obj S.n=_:=(new_lt (by omega)).trans o1
 have u:∀{es:List (Key × AV)},(Store.upd (S1.new (.map (.i .i32) [] true)) S1.n (.map (.i .i32) es true)).obj S.n=_:=fun{es}=>(upd_ne (by omega)).trans p1
 rw[shift_p,ld1_p p1 rfl rfl,updM_m (new_self _) (keyI _ _)]
 rw[shift_p,ld1_p u rfl rfl,lenS_pL,updM_m (upd_self _ _) (keyI _ _),upd_upd]
 rw[shift_p,ld1_p u rfl rfl,lenS_aL,updM_m (upd_self _ _) (keyI _ _),upd_upd]
 rw[shift_p,ld1_p u rfl rfl,lenS_aL,updM_m (upd_self _ _) (keyI _ _),upd_upd]
 rw[shift_p,ld1_p u rfl rfl,lenS_aL,updM_m (upd_self _ _) (keyI _ _),upd_upd]
 rw[shift_p,ld1_p u rfl rfl,lenS_aL,updM_m (upd_self _ _) (keyI _ _),upd_upd]
 refine⟨_,rfl,(k1.new _).upd (by omega) _,.m' S1.n (.i .i32) c.manyE c.manyE ?_ rfl (fun i e e2 h h2=>by rw[h]at h2;cases h2;rfl) (fun i e e2 h h2=>?_)⟩
 ·rw[frz_ofM (upd_self _ _)]
  have:newer S.n S1.n=true:=by simp[newer];omega
  rw[this]
  rfl
 ·rw[h]at h2;cases h2
  match i with
  |0|1|2|3|4|5=>cases h;exact .v _
  |i+6=>simp[Ci.manyE]at h
theorem lkp_many(c:Ci)(k:Int):((lkp c.manyE (.i k)).getD (aI 0))=aI (c.many k):=by
 by_cases h0:k=105
 ·subst h0;rfl
 by_cases h1:k=108
 ·subst h1;rfl
 by_cases h2:k=111
 ·subst h2;rfl
 by_cases h3:k=98
 ·subst h3;rfl
 by_cases h4:k=99
 ·subst h4;rfl
 by_cases h5:k=102
 ·subst h5;rfl
 have:kix c.manyE (.i k)=none:=by
  rw[kix_none]
  simp[Ci.manyE,h0,h1,h2,h3,h4,h5]
 simp[lkp,this,Ci.many,h0,h1,h2,h3,h4,h5]
theorem rank_many{c:Ci}{k:Int}(h:¬ rankI k<0):c.many k = [c.inputs,c.latches.length,c.outs.length,c.bads.length,c.cons.length,c.fair.length].getD (rankI k).toNat 0:=by
 unfold rankI at h ⊢
 unfold Ci.many
 repeat' split
 all_goals first|rfl|(exfalso;apply h;simp[*])
theorem many_no{c:Ci}{k:Int}(h:rankI k<0):c.many k=0:=by
 unfold rankI at h
 unfold Ci.many
 repeat' split
 all_goals first|rfl|(simp[*]at h)
theorem rank_lt(k:Int):rankI k<6:=by
 unfold rankI
 repeat' split
 all_goals decide
theorem bsl6{e:Nat}{z a b c d f g:Int}{S:Store}{K:AV→Store→Prop}(k:K (.l [[aI a],[aI b],[aI c],[aI d],[aI f],[aI g]]) S):bslN e 1 6 [aI z] [(0,aI a),(1,aI b),(2,aI c),(3,aI d),(4,aI f),(5,aI g)] S K:=by
 refine⟨[aI a,aI b,aI c,aI d,aI f,aI g],?_,.inr ?_⟩
 ·simp[fillA,cells_of_one,spl,List.range_succ,cellsOf,AV.one,Value.oneCell']
 ·simpa[chunks,List.range_succ]using k
theorem ans69(c:Ci)(k:Int):Ans Pg 69 [c.av,.v (.int .u8 k)] (aI (c.many k)):=by
 intro S
 refine ACalls.ans_v (calls69 ?_)
 unfold m69
 refine boxA_of rfl fun S1 k1 n1 o1=>?_
 refine callF_ans (ans110 k) ?_
 rw[bin_lss,onB_v]
 refine gd_of (fun h=>⟨?_,k1⟩) (fun h=>?_)
 ·rw[many_no (dT h)]
 have h:¬ rankI k<0:=dF h
 rw[shift_p,ld1_p o1 rfl rfl,shift_p,ld1_p o1 rfl rfl,lenS_pL,shift_p,ld1_p o1 rfl rfl,lenS_aL,shift_p,ld1_p o1 rfl rfl,lenS_aL,shift_p,ld1_p o1 rfl rfl,lenS_aL,shift_p,ld1_p o1 rfl rfl,lenS_aL]
 refine bsl6 ?_
 obtain⟨r,hr⟩:=Int.eq_ofNat_of_zero_le (show 0≤rankI k by omega)
 have hr6:r<6:=by have:=rank_lt k;omega
 rw[rank_many h,hr]
 match r,hr6 with
 |0,_|1,_|2,_|3,_|4,_|5,_ =>
  rw[ixS_l (by simp) (by rfl),ld1_qj rfl]
  exact⟨rfl,k1⟩
open Go Go.Ab Go.RowKit
def atoiR(s:ByteArray):AV:=
 match Lib.atoiAll s.data.toList with
 |.ok v=>.t [aI v,.v .nilIface]
 |.syntax=>.t [aI 0,.i 153 .j]
 |.range=>.t [aI (Lib.atoiSat s.data.toList),.i 153 .j]
theorem ans106{s:ByteArray}(hs:s.size≤281474976710656):Ans Pg 106 [.v (.string s)] (atoiR s):=fun S =>
 ACalls.below (by kernel_rfl) fun w g vs hh ha=>by
  obtain rfl:=ha.one
  unfold atoiR
  match h:Lib.atoiAll s.data.toList with
  |.ok v =>
   refine(Any.strconv_Atoi_ok laysAtoi s (by omega) v h w).mono fun e w' ⟨he,hw⟩=>⟨?_,_,he,R.t2 (.v _) (.v _)⟩
   rcases hw with rfl|⟨t,rfl⟩
   ·exact Below.refl _ _
   ·exact Lib.bytesWorld_below _ _ _
  |.syntax =>
   obtain⟨_,cs,hv,hok⟩:=hh.gl _ _ laysAtoi.m15 (by decide)
   obtain⟨te,pe,rfl⟩:=hok.1 (.inl rfl)
   exact(Any.strconv_Atoi_syntax_var laysAtoi s hs h te pe w hv).mono fun e w' ⟨n,he,_,_,hb⟩=>⟨hb,_,he,R.t2 (.v _) (.i _ _ _ (.j _))⟩
  |.range =>
   obtain⟨_,cs,hv,hok⟩:=hh.gl _ _ laysAtoi.m16 (by decide)
   obtain⟨te,pe,rfl⟩:=hok.1 (.inr rfl)
   exact(Any.strconv_Atoi_range_var laysAtoi s hs h te pe w hv).mono fun e w' ⟨n,he,_,_,hb⟩=>⟨hb,_,he,R.t2 (.v _) (.i _ _ _ (.j _))⟩
theorem ans107{n:Int}(hn:i64R n):Ans Pg 107 [aI n] (.v (.string ⟨(Lib.itoa n).toArray⟩)):=fun S =>
 ACalls.below (by kernel_rfl) fun w g vs hh ha=>by
  obtain rfl:=ha.one
  obtain⟨_,cs,hv,hok⟩:=hh.gl _ _ laysItoa.m17 (by decide)
  have ht : Lib.TabIs Pg w "internal/strconv.uint64pow10" .u64 Lib.pow10Tab := by
   unfold Lib.TabIs
   rw[hv,hok.2 rfl,Lib.pow10Tab,List.map_map]
   rfl
  refine(Any.strconv_Itoa laysItoa n (by have:=hn.1;omega) (by have:=hn.2;omega) w ht).mono fun e w' ⟨he,k,os,hw⟩=>⟨?_,_,he,.v _⟩
  rw[hw]
  exact Lib.below_grow _ _ (Nat.le_refl _) _ _
open Go
def numA(l:List UInt8):Int:=
 match Lib.atoiAll l with
 |.ok v=>if v<0 then -1 else if 6<l.length then -1 else if Lib.itoa v≠l then -1 else v
 |_=>-1
def numR(l:List UInt8):Int:=
 match Lib.decNat l with
 |some m=>if l.length≤6∧(l.length=1∨l.head?≠some 48)then m else -1
 |none=>-1
theorem digit_byte{b:UInt8}{d:Nat}(h:Lib.digitVal b=some d):d<10∧b=UInt8.ofNat (48+d)∧b.toNat=48+d:=by
 unfold Lib.digitVal at h
 split at h
 ·rename_i hb
  cases h
  have e:b.toNat=48+(b.toNat - 48):=by omega
  refine⟨by omega,?_,e⟩
  rw[←e]
  exact(UInt8.ofNat_toNat).symm
 ·cases h
theorem decFrom_ge:∀(l:List UInt8) (a m:Nat),Lib.decFrom a l=some m→a≤m
 |[],a,m,h=>by simp only[Lib.decFrom,Option.some.injEq]at h;omega
 |b :: r,a,m,h=>by
  simp only[Lib.decFrom]at h
  cases hd:Lib.digitVal b with
  |none=>rw[hd]at h;cases h
  |some d=>rw[hd]at h;have:=decFrom_ge r _ _ h;omega
theorem decFrom_app:∀(l r:List UInt8) (a:Nat),Lib.decFrom a (l++r)=(Lib.decFrom a l).bind fun m=>Lib.decFrom m r
 |[],r,a=>rfl
 |b :: l,r,a=>by
  simp only[List.cons_append,Lib.decFrom]
  cases hd:Lib.digitVal b with
  |none=>rfl
  |some d=>exact decFrom_app l r _
theorem digits_back:∀(n:Nat) (l:List UInt8),l.length=n→∀ m,Lib.decNat l=some m→(l.length=1∨l.head?≠some 48)→Lib.decDigits m=l:=by
 intro n
 induction n with
 |zero =>
  intro l hl m h
  rw[List.length_eq_zero_iff.1 hl]at h
  cases h
 |succ n ih =>
  intro l hl m h hz
  obtain⟨r,b,rfl⟩:∃ r b,l=r ++ [b]:=⟨l.dropLast,l.getLast (by intro e;rw[e]at hl;cases hl),(List.dropLast_concat_getLast _).symm⟩
  have h0:Lib.decFrom 0 (r ++ [b])=some m:=by
   unfold Lib.decNat at h
   rwa [if_neg (by simp)]at h
  rw[decFrom_app]at h0
  obtain⟨k,hk,hb⟩:=Option.bind_eq_some_iff.1 h0
  simp only[Lib.decFrom]at hb
  cases hd:Lib.digitVal b with
  |none=>rw[hd]at hb;cases hb
  |some d =>
   rw[hd]at hb
   obtain⟨h1,h2,h3⟩:=digit_byte hd
   cases hb
   cases r with
   |nil =>
    cases hk
    rw[Lib.decDigits,dif_pos (by omega),h2]
    simp
   |cons c r =>
    have hc:c≠48:=by
     rcases hz with hz|hz
     ·simp at hz
     ·intro e;subst e;exact hz rfl
    have hk1:1≤k:=by
     simp only[Lib.decFrom]at hk
     cases hdc:Lib.digitVal c with
     |none=>rw[hdc]at hk;cases hk
     |some dc =>
      rw[hdc]at hk
      obtain⟨_,h5,_⟩:=digit_byte hdc
      have:=decFrom_ge _ _ _ hk
      have:dc≠0:=by rintro rfl;exact hc h5
      omega
    have ihk:=ih (c :: r) (by simp at hl;simpa using hl) k (by unfold Lib.decNat;rw[if_neg (by simp)];exact hk) (.inr (by simpa using hc))
    rw[Lib.decDigits,dif_neg (by omega),show(k*10+d) / 10=k by omega,show(k*10+d) % 10=d by omega,ihk,h2]
theorem digits_mem:∀(n m:Nat),m<n→∀ b∈Lib.decDigits m,48≤b.toNat∧b.toNat≤57:=by
 intro n
 induction n with
 |zero=>intro m h;omega
 |succ n ih =>
  intro m h b hb
  have one:∀ k,k<10→48≤(UInt8.ofNat (48+k)).toNat∧(UInt8.ofNat (48+k)).toNat≤57:=fun k hk=>by
   rw[UInt8.toNat_ofNat']
   omega
  rw[Lib.decDigits]at hb
  split at hb
  ·rename_i h10
   rw[List.mem_singleton.1 hb]
   exact one _ h10
  ·rcases List.mem_append.1 hb with hb|hb
   ·exact ih _ (by omega) b hb
   ·rw[List.mem_singleton.1 hb]
    exact one _ (by omega)
theorem digits_ne(m:Nat):Lib.decDigits m≠[]:=by
 rw[Lib.decDigits]
 split<;>simp
theorem digits_head:∀(n m:Nat),m<n→1≤m→(Lib.decDigits m).head?≠some 48:=by
 intro n
 induction n with
 |zero=>intro m h;omega
 |succ n ih =>
  intro m h h1
  rw[Lib.decDigits]
  split
  ·rename_i h10
   intro e
   have e:UInt8.ofNat (48+m)=48:=by simpa using e
   have:=congrArg UInt8.toNat e
   rw[UInt8.toNat_ofNat']at this
   have:(48+m) % 2 ^ 8=48:=this
   omega
  ·have:=ih (m / 10) (by omega) (by omega)
   cases hd:Lib.decDigits (m / 10)with
   |nil=>exact absurd hd (digits_ne _)
   |cons c r=>rw[hd]at this;simpa using this
theorem digits_iff{l:List UInt8}{m:Nat}(h:Lib.decNat l=some m):Lib.decDigits m=l↔(l.length=1∨l.head?≠some 48):=by
 refine⟨fun e=>?_,digits_back _ l rfl m h⟩
 by_cases h1:1≤m
 ·right
  rw[←e]
  exact digits_head _ m (Nat.lt_succ_self _) h1
 ·have:m=0:=by omega
  subst this
  left
  rw[←e,Lib.decDigits,dif_pos (by decide)]
  rfl
theorem num_eq(l:List UInt8):numA l=numR l:=by
 unfold numA numR
 by_cases hl:6<l.length
 ·have e1:(match Lib.decNat l with|some m=>if l.length≤6∧(l.length=1∨l.head?≠some 48)then(m:Int)else -1|none=>-1) = -1:=by
    split
    ·rw[if_neg (by omega)]
    ·rfl
  rw[e1]
  split
  ·split
   ·rfl
   ·first
    |rfl
    |rw[if_pos hl]
  ·rfl
 rw[Lib.atoiAll_short l (by omega)]
 cases l with
 |nil=>rfl
 |cons b r =>
  have hneg:∀(x:UInt8) (hx:x.toNat<48),Lib.decNat (x :: r)=none:=fun x hx=>by
   unfold Lib.decNat
   rw[if_neg (by simp)]
   simp only[Lib.decFrom]
   have:Lib.digitVal x=none:=by unfold Lib.digitVal;rw[if_neg (by omega)]
   rw[this]
  have hno:∀(x:UInt8) (hx:x.toNat<48) (m:Nat),Lib.decDigits m≠x :: r:=fun x hx m e=>by
   have:=digits_mem _ m (Nat.lt_succ_self _) x (by rw[e];exact List.mem_cons_self)
   omega
  by_cases h45:b=45
  ·subst h45
   rw[hneg 45 (by decide)]
   have e:Lib.atoi (45 :: r)=(Lib.decNat r).map fun(m:Nat)=>-(m:Int):=by simp[Lib.atoi]
   rw[e]
   cases hr:Lib.decNat r with
   |none=>rfl
   |some m =>
    show(if(-(m:Int))<0 then(-1:Int)else if 6<(45 :: r).length then -1 else if Lib.itoa (-(m:Int))≠45 :: r then -1 else -(m:Int)) = -1
    by_cases hm:m=0
    ·subst hm
     rw[if_neg (by decide),if_neg hl,if_pos]
     intro e
     have:Lib.itoa (-((0:Nat):Int))=Lib.decDigits 0:=by simp[Lib.itoa]
     rw[this]at e
     exact hno 45 (by decide) 0 e
    ·rw[if_pos (by omega)]
  ·by_cases h43:b=43
   ·subst h43
    rw[hneg 43 (by decide)]
    have e:Lib.atoi (43 :: r)=(Lib.decNat r).map fun(m:Nat)=>(m:Int):=by simp[Lib.atoi]
    rw[e]
    cases hr:Lib.decNat r with
    |none=>rfl
    |some m =>
     show(if(m:Int)<0 then(-1:Int)else if 6<(43 :: r).length then -1 else if Lib.itoa (m:Int)≠43 :: r then -1 else(m:Int)) = -1
     rw[if_neg (by omega),if_neg hl,if_pos]
     rw[Lib.itoa_nonneg]
     exact hno 43 (by decide) m
   ·have e:Lib.atoi (b :: r)=(Lib.decNat (b :: r)).map fun(m:Nat)=>(m:Int):=by simp[Lib.atoi,h45,h43]
    rw[e]
    cases hr:Lib.decNat (b :: r)with
    |none=>rfl
    |some m =>
     show(if(m:Int)<0 then(-1:Int)else if 6<(b :: r).length then -1 else if Lib.itoa (m:Int)≠b :: r then -1 else(m:Int))=if(b :: r).length≤6∧((b :: r).length=1∨(b :: r).head?≠some 48)then(m:Int)else -1
     rw[if_neg (by omega),if_neg hl,Lib.itoa_nonneg]
     by_cases hd:Lib.decDigits m=b :: r
     ·rw[if_neg (by simpa using hd),if_pos ⟨by omega,(digits_iff hr).1 hd⟩]
     ·rw[if_pos hd,if_neg (fun h=>hd ((digits_iff hr).2 h.2))]
section
set_option maxRecDepth 100000
def c75:Code:=(Tryz.f75.body).getD .skip
def c72:Code:=(Tryz.f72.body).getD .skip
def r72:List ResultVar:=Tryz.f72.results.toList
def env72_0(y0 y1 y5 y6:AV):List AV:=[y0,y1,y5,y6]
def lv72_0:List Nat:=[0,1,5,6]
def ms72:List (List Nat):=[lv72_0,[]]
def m72(x0 x1:AV)(S:Store)(Q:PoT):Prop:=
 loopV lv72_0 (vc Pg (c72.at_ [1,1,0,1,0,0]) (ms72.drop 1)) 21 (env72_0 x0 x1 .nl (.v (.int .i64 0))) S (blockK 0 (seqK (vc Pg (c72.at_ [1,1,1]) (ms72.drop 1)) (bodyK Pg r72 Q)))
theorem calls72{x0 x1:AV}{S:Store}{Q:PoT}(h:m72 x0 x1 S Q):ACalls Pg 72 [x0,x1] S Q:=
 calls_of_vc (fn:=Tryz.f72) (c:=c72) (n:=21) Tryz.func72 (by kernel_rfl) (by kernel_rfl) (by kernel_rfl) ms72 (Eq.mpr (by kernel_rfl) h)
def b72_0(y0 y1 y5 y6:AV)(S:Store)(KE0:KeT)(Q:PoT):Prop:=
 bin .lss 0 y6 y1 S fun a S=>onB a fun b=>gd b (bin .shr 0 y0 y6 S fun c S=>bin .and 0 c (.v (.int .i64 1)) S fun d S=>bin .eql 0 d (.v (.int .i64 1)) S fun e S=>bslN 4 1 1 [.v (.bool false)] [(0,e)] S fun f S=>appS 4 1 1 y5 f S fun g S=>bin .add 0 y6 (.v (.int .i64 1)) S fun h S=>KE0 21 (env72_0 y0 y1 g h) S) (Q (.ret y5) S)
theorem b72_0_eq(y0 y1 y5 y6:AV)(S:Store)(KE0:KeT)(Q:PoT):vc Pg (c72.at_ [1,1,0,1,0,0]) (ms72.drop 1) (mkE 21 lv72_0 (env72_0 y0 y1 y5 y6)) S (thenK (fgK lv72_0 KE0) (blockK 0 (seqK (vc Pg (c72.at_ [1,1,1]) (ms72.drop 1)) (bodyK Pg r72 Q))))=b72_0 y0 y1 y5 y6 S KE0 Q:=by kernel_rfl
theorem loop72_0{y0 y1:AV}{y50 y60:AV}{S:Store}{Q:PoT}(I:AV→AV→Store→Prop)(μ:AV→AV→Store→Nat)(h0:I y50 y60 S)
    (hr:∀(y5 y6:AV) (S:Store),I y5 y6 S→∀ KE0:KeT,(∀(y5' y6':AV) (S':Store),I y5' y6' S'→μ y5' y6' S'<μ y5 y6 S→KE0 21 (env72_0 y0 y1 y5' y6') S')→b72_0 y0 y1 y5 y6 S KE0 Q):
    loopV lv72_0 (vc Pg (c72.at_ [1,1,0,1,0,0]) (ms72.drop 1)) 21 (env72_0 y0 y1 y50 y60) S (blockK 0 (seqK (vc Pg (c72.at_ [1,1,1]) (ms72.drop 1)) (bodyK Pg r72 Q))):=by
 refine⟨fun n e S=>n=21∧∃ y5 y6:AV,e=(env72_0 y0 y1 y5 y6)∧I y5 y6 S,fun _ e S=>μ (e.getD 2 .j) (e.getD 3 .j) S,?_,?_⟩
 ·exact⟨_,_,Wk.refl _ _,rfl,_,_,rfl,h0⟩
 ·rintro _ e S ⟨rfl,y5,y6,rfl,hI⟩
  exact(b72_0_eq _ _ _ _ _ _ _).mpr (hr y5 y6 S hI _ (fun y5' y6' S' hI' hm=>⟨_,_,Wk.refl _ _,⟨rfl,_,_,rfl,hI'⟩,hm⟩))
def c33:Code:=(Tryz.f33.body).getD .skip
def ms33:List (List Nat):=[[]]
def m33(x0 x1 x2:AV)(S:Store)(Q:PoT):Prop:=
 boxN 29 8 x0 S fun a S=>ldN 8 a S fun c S=>callF Pg 28 [c] S Q fun d S=>un .not d S fun e S=>onB e fun b=>gd b (Q (.ret (.v (.bool false))) S) (ldN 8 a S fun f S=>callF Pg 30 [f] S Q fun g S=>part1 g 0 S fun h S=>bin .gtr 0 h (.v (.int .i64 60)) S fun i S=>onB i fun b=>gd b (Q (.ret (.v (.bool false))) S) ((fun S0:Store=>∃ k:AV,(ldN 8 a S fun l S=>l=k∧S=S0)∧∃ m:AV,(callF Pg 30 [k] S (fun _ _=>False) fun n S=>n=m∧S=S0)∧∃ o:AV,(ldN 8 a S fun p S=>p=o∧S=S0)∧∃ q:AV,(callF Pg 30 [o] S (fun _ _=>False) fun r S=>r=q∧S=S0)∧∃ s:AV,(part1 q 0 S fun t S=>t=s∧S=S0)∧∃ u:AV,(callF Pg 72 [x1,s] S (fun _ _=>False) fun w S=>w=u∧S=S0)∧∃ x:AV,(callF Pg 71 [m,x2,u] S (fun _ _=>False) fun y S=>y=x∧S=S0)∧Q (.ret x) S) S))
theorem calls33{x0 x1 x2:AV}{S:Store}{Q:PoT}(h:m33 x0 x1 x2 S Q):ACalls Pg 33 [x0,x1,x2] S Q:=
 calls_of_vc (fn:=Tryz.f33) (c:=c33) (n:=25) Tryz.func33 (by kernel_rfl) (by kernel_rfl) (by kernel_rfl) ms33 (Eq.mpr (by kernel_rfl) h)
def c34:Code:=(Tryz.f34.body).getD .skip
def r34:List ResultVar:=Tryz.f34.results.toList
def env34_0(y1 y2 y5 y6:AV):List AV:=[y1,y2,y5,y6]
def lv34_0:List Nat:=[1,2,5,6]
def ms34:List (List Nat):=[lv34_0,[]]
def m34(x0 x1:AV)(S:Store)(Q:PoT):Prop:=
 boxN 29 8 x0 S fun a S=>ldN 8 a S fun c S=>callF Pg 28 [c] S Q fun d S=>un .not d S fun e S=>onB e fun b=>gd b (Q (.ret (.v (.int .i64 0))) S) (ldN 8 a S fun f S=>callF Pg 30 [f] S Q fun g S=>part1 g 0 S fun h S=>bin .gtr 0 h (.v (.int .i64 60)) S fun i S=>onB i fun b=>gd b (Q (.ret (.v (.int .i64 0))) S) (loopV lv34_0 (vc Pg (c34.at_ [1,1,1,0,1,0,0]) (ms34.drop 1)) 40 (env34_0 x1 a (.v (.int .i64 0)) (.v (.int .i64 0))) S (blockK 0 (seqK (vc Pg (c34.at_ [1,1,1,1]) (ms34.drop 1)) (bodyK Pg r34 Q)))))
theorem calls34{x0 x1:AV}{S:Store}{Q:PoT}(h:m34 x0 x1 S Q):ACalls Pg 34 [x0,x1] S Q:=
 calls_of_vc (fn:=Tryz.f34) (c:=c34) (n:=40) Tryz.func34 (by kernel_rfl) (by kernel_rfl) (by kernel_rfl) ms34 (Eq.mpr (by kernel_rfl) h)
def b34_0(y1 y2 y5 y6:AV)(S:Store)(KE0:KeT)(Q:PoT):Prop:=
 shift y2 1 S fun a S=>ld1 a S fun c S=>lenS c S fun d S=>bin .lss 0 y6 d S fun e S=>onB e fun b=>gd b ((fun S0:Store=>∃ f:AV,(ldN 8 y2 S fun g S=>g=f∧S=S0)∧∃ h:AV,(shift y2 1 S fun i S=>i=h∧S=S0)∧∃ k:AV,(ld1 h S fun l S=>l=k∧S=S0)∧∃ m:AV,(ixS 23 2 k y6 S fun n S=>n=m∧S=S0)∧∃ o:AV,(shift m 0 S fun p S=>p=o∧S=S0)∧∃ q:AV,(ld1 o S fun r S=>r=q∧S=S0)∧∃ s:AV,(callF Pg 33 [f,y1,q] S (fun _ _=>False) fun t S=>t=s∧S=S0)∧onB s fun b=>gd b (shift y2 0 S fun u S=>ld1 u S fun w S=>bin .add 0 w y6 S fun x S=>bin .shl 0 (.v (.int .i64 1)) x S fun y S=>bin .add 0 y5 y S fun z S=>bin .add 0 y6 (.v (.int .i64 1)) S fun A S=>KE0 40 (env34_0 y1 y2 z A) S) (bin .add 0 y6 (.v (.int .i64 1)) S fun B S=>KE0 40 (env34_0 y1 y2 y5 B) S)) S) (Q (.ret y5) S)
theorem b34_0_eq(y1 y2 y5 y6:AV)(S:Store)(KE0:KeT)(Q:PoT):vc Pg (c34.at_ [1,1,1,0,1,0,0]) (ms34.drop 1) (mkE 40 lv34_0 (env34_0 y1 y2 y5 y6)) S (thenK (fgK lv34_0 KE0) (blockK 0 (seqK (vc Pg (c34.at_ [1,1,1,1]) (ms34.drop 1)) (bodyK Pg r34 Q))))=b34_0 y1 y2 y5 y6 S KE0 Q:=by kernel_rfl
theorem loop34_0{y1 y2:AV}{y50 y60:AV}{S:Store}{Q:PoT}(I:AV→AV→Store→Prop)(μ:AV→AV→Store→Nat)(h0:I y50 y60 S)
    (hr:∀(y5 y6:AV) (S:Store),I y5 y6 S→∀ KE0:KeT,(∀(y5' y6':AV) (S':Store),I y5' y6' S'→μ y5' y6' S'<μ y5 y6 S→KE0 40 (env34_0 y1 y2 y5' y6') S')→b34_0 y1 y2 y5 y6 S KE0 Q):
    loopV lv34_0 (vc Pg (c34.at_ [1,1,1,0,1,0,0]) (ms34.drop 1)) 40 (env34_0 y1 y2 y50 y60) S (blockK 0 (seqK (vc Pg (c34.at_ [1,1,1,1]) (ms34.drop 1)) (bodyK Pg r34 Q))):=by
 refine⟨fun n e S=>n=40∧∃ y5 y6:AV,e=(env34_0 y1 y2 y5 y6)∧I y5 y6 S,fun _ e S=>μ (e.getD 2 .j) (e.getD 3 .j) S,?_,?_⟩
 ·exact⟨_,_,Wk.refl _ _,rfl,_,_,rfl,h0⟩
 ·rintro _ e S ⟨rfl,y5,y6,rfl,hI⟩
  exact(b34_0_eq _ _ _ _ _ _ _).mpr (hr y5 y6 S hI _ (fun y5' y6' S' hI' hm=>⟨_,_,Wk.refl _ _,⟨rfl,_,_,rfl,hI'⟩,hm⟩))
def c123:Code:=(Tryz.f123.body).getD .skip
def ms123:List (List Nat):=[[]]
def m123(x0 x1:AV)(S:Store)(Q:PoT):Prop:=
 ld1 x1 S fun a S=>bin .shr 0 x0 (.v (.int .u64 1)) S fun c S=>ixS 4 1 a c S fun d S=>ld1 d S fun e S=>bin .and 0 x0 (.v (.int .i64 1)) S fun f S=>bin .eql 0 f (.v (.int .i64 1)) S fun g S=>bin .neq 1 e g S fun h S=>Q (.ret h) S
theorem calls123{x0 x1:AV}{S:Store}{Q:PoT}(h:m123 x0 x1 S Q):ACalls Pg 123 [x0,x1] S Q:=
 calls_of_vc (fn:=Tryz.f123) (c:=c123) (n:=13) Tryz.func123 (by kernel_rfl) (by kernel_rfl) (by kernel_rfl) ms123 (Eq.mpr (by kernel_rfl) h)
def c108:Code:=(Tryz.f108.body).getD .skip
def r108:List ResultVar:=Tryz.f108.results.toList
def env108_0(y5 y6 y32 y33 y34:AV):List AV:=[y5,y6,y32,y33,y34]
def lv108_0:List Nat:=[5,6,32,33,34]
def ms108:List (List Nat):=[lv108_0,[]]
def m108(x0 x1:AV)(S:Store)(Q:PoT):Prop:=
 boxN 56 2 x0 S fun a S=>ldN 2 a S fun c S=>callF Pg 55 [c] S Q fun d S=>un .not d S fun e S=>onB e fun b=>gd b (Q (.ret .nl) S) (lenS x1 S fun g S=>shift a 0 S fun h S=>ld1 h S fun i S=>bin .neq 0 g i S fun k S=>onB k fun b=>gd b (Q (.ret .nl) S) (shift a 0 S fun l S=>ld1 l S fun m S=>bin .add 0 m (.v (.int .i64 1)) S fun n S=>shift a 1 S fun o S=>ld1 o S fun p S=>lenS p S fun q S=>bin .add 0 n q S fun r S=>mkN 4 1 [.v (.bool false)] (.v (.int .i64 1)) r S fun s S=>boxN 87 1 .nl S fun t S=>stN 1 t s S fun u S=>ld1 t S fun w S=>appS 4 1 1 w x1 S fun x S=>stN 1 t x S fun y S=>shift a 1 S fun z S=>ld1 z S fun A S=>lenS A S fun B S=>loopV lv108_0 (vc Pg (c108.at_ [1,1,1,1,1,0,1,0,0]) (ms108.drop 1)) 53 (env108_0 t (.f (.func 123) [] [t]) A B (.v (.int .i64 0))) S (blockK 0 (seqK (vc Pg (c108.at_ [1,1,1,1,1,1]) (ms108.drop 1)) (bodyK Pg r108 Q)))))
theorem calls108{x0 x1:AV}{S:Store}{Q:PoT}(h:m108 x0 x1 S Q):ACalls Pg 108 [x0,x1] S Q:=
 calls_of_vc (fn:=Tryz.f108) (c:=c108) (n:=53) Tryz.func108 (by kernel_rfl) (by kernel_rfl) (by kernel_rfl) ms108 (Eq.mpr (by kernel_rfl) h)
def b108_0(y5 y6 y32 y33 y34:AV)(S:Store)(KE0:KeT)(Q:PoT):Prop:=
 bin .lss 0 y34 y33 S fun c S=>onB c fun b=>gd b (ixS 90 2 y32 y34 S fun d S=>ldN 2 d S fun e S=>boxN 90 2 (.a [.v (.int .i64 0),.v (.int .i64 0)]) S fun f S=>stN 2 f e S fun g S=>∃ h:AV,(∀ T:Store,Keep S T→ld1 y5 T fun i S=>i=h∧S=T)∧∃ k:AV,(∀ T:Store,Keep S T→ixA 2 1 f (.v (.int .i64 0)) T fun l S=>l=k∧S=T)∧∃ m:AV,(∀ T:Store,Keep S T→ld1 k T fun n S=>n=m∧S=T)∧∃ o:AV,(∀ T:Store,Keep S T→callV Pg y6 [m] T (fun p S=>p=o∧S=T) (fun u S=>False))∧onB o fun b=>gd b (∃ q:AV,(∀ T:Store,Keep S T→ixA 2 1 f (.v (.int .i64 1)) T fun r S=>r=q∧S=T)∧∃ s:AV,(∀ T:Store,Keep S T→ld1 q T fun t S=>t=s∧S=T)∧∃ w:AV,(∀ T:Store,Keep S T→callV Pg y6 [s] T (fun x S=>x=w∧S=T) (fun u S=>False))∧∃ y:AV,(∀ T:Store,Keep S T→w=y∧T=T)∧∃ z:AV,(∀ T:Store,Keep S T→bslN 4 1 1 [.v (.bool false)] [(0,y)] T fun A S=>A=z∧S=T)∧appS 4 1 1 h z S fun B S=>stN 1 y5 B S fun C S=>bin .add 0 y34 (.v (.int .i64 1)) S fun D S=>KE0 53 (env108_0 y5 y6 y32 y33 D) S) (∃ E:AV,(∀ T:Store,Keep S T→(.v (.bool false))=E∧T=T)∧∃ F:AV,(∀ T:Store,Keep S T→bslN 4 1 1 [.v (.bool false)] [(0,E)] T fun G S=>G=F∧S=T)∧appS 4 1 1 h F S fun H S=>stN 1 y5 H S fun I S=>bin .add 0 y34 (.v (.int .i64 1)) S fun J S=>KE0 53 (env108_0 y5 y6 y32 y33 J) S)) (ld1 y5 S fun K S=>Q (.ret K) S)
theorem b108_0_eq(y5 y6 y32 y33 y34:AV)(S:Store)(KE0:KeT)(Q:PoT):vc Pg (c108.at_ [1,1,1,1,1,0,1,0,0]) (ms108.drop 1) (mkE 53 lv108_0 (env108_0 y5 y6 y32 y33 y34)) S (thenK (fgK lv108_0 KE0) (blockK 0 (seqK (vc Pg (c108.at_ [1,1,1,1,1,1]) (ms108.drop 1)) (bodyK Pg r108 Q))))=b108_0 y5 y6 y32 y33 y34 S KE0 Q:=by kernel_rfl
theorem loop108_0{y5 y6 y32 y33:AV}{y340:AV}{S:Store}{Q:PoT}(I:AV→Store→Prop)(μ:AV→Store→Nat)(h0:I y340 S)
    (hr:∀(y34:AV) (S:Store),I y34 S→∀ KE0:KeT,(∀(y34':AV) (S':Store),I y34' S'→μ y34' S'<μ y34 S→KE0 53 (env108_0 y5 y6 y32 y33 y34') S')→b108_0 y5 y6 y32 y33 y34 S KE0 Q):
    loopV lv108_0 (vc Pg (c108.at_ [1,1,1,1,1,0,1,0,0]) (ms108.drop 1)) 53 (env108_0 y5 y6 y32 y33 y340) S (blockK 0 (seqK (vc Pg (c108.at_ [1,1,1,1,1,1]) (ms108.drop 1)) (bodyK Pg r108 Q))):=by
 refine⟨fun n e S=>n=53∧∃ y34:AV,e=(env108_0 y5 y6 y32 y33 y34)∧I y34 S,fun _ e S=>μ (e.getD 4 .j) S,?_,?_⟩
 ·exact⟨_,_,Wk.refl _ _,rfl,_,rfl,h0⟩
 ·rintro _ e S ⟨rfl,y34,rfl,hI⟩
  exact(b108_0_eq _ _ _ _ _ _ _ _).mpr (hr y34 S hI _ (fun y34' S' hI' hm=>⟨_,_,Wk.refl _ _,⟨rfl,_,rfl,hI'⟩,hm⟩))
def c112:Code:=(Tryz.f112.body).getD .skip
def ms112:List (List Nat):=[[]]
def m112(x0 x1:AV)(S:Store)(Q:PoT):Prop:=
 bin .quo 0 x1 (.v (.int .i64 2)) S fun a S=>ixS 4 1 x0 a S fun c S=>ld1 c S fun d S=>bin .rem 0 x1 (.v (.int .i64 2)) S fun e S=>bin .eql 0 e (.v (.int .i64 1)) S fun f S=>bin .neq 1 d f S fun g S=>Q (.ret g) S
theorem calls112{x0 x1:AV}{S:Store}{Q:PoT}(h:m112 x0 x1 S Q):ACalls Pg 112 [x0,x1] S Q:=
 calls_of_vc (fn:=Tryz.f112) (c:=c112) (n:=14) Tryz.func112 (by kernel_rfl) (by kernel_rfl) (by kernel_rfl) ms112 (Eq.mpr (by kernel_rfl) h)
def c111:Code:=(Tryz.f111.body).getD .skip
def r111:List ResultVar:=Tryz.f111.results.toList
def env111_0(y2 y5 y6:AV):List AV:=[y2,y5,y6]
def lv111_0:List Nat:=[2,5,6]
def ms111:List (List Nat):=[lv111_0,[]]
def m111(x0 x1:AV)(S:Store)(Q:PoT):Prop:=
 boxN 56 2 x0 S fun a S=>ldN 2 a S fun c S=>callF Pg 65 [c] S Q fun d S=>un .not d S fun e S=>onB e fun b=>gd b (Q (.ret .nl) S) (lenS x1 S fun f S=>shift a 0 S fun g S=>ld1 g S fun h S=>bin .neq 0 f h S fun i S=>onB i fun b=>gd b (Q (.ret .nl) S) (bslN 4 1 1 [.v (.bool false)] [(0,(.v (.bool false)))] S fun k S=>appS 4 1 1 k x1 S fun l S=>loopV lv111_0 (vc Pg (c111.at_ [1,1,1,0,1,0,0]) (ms111.drop 1)) 49 (env111_0 a l (.v (.int .i64 0))) S (blockK 0 (seqK (vc Pg (c111.at_ [1,1,1,1]) (ms111.drop 1)) (bodyK Pg r111 Q)))))
theorem calls111{x0 x1:AV}{S:Store}{Q:PoT}(h:m111 x0 x1 S Q):ACalls Pg 111 [x0,x1] S Q:=
 calls_of_vc (fn:=Tryz.f111) (c:=c111) (n:=49) Tryz.func111 (by kernel_rfl) (by kernel_rfl) (by kernel_rfl) ms111 (Eq.mpr (by kernel_rfl) h)
def b111_0(y2 y5 y6:AV)(S:Store)(KE0:KeT)(Q:PoT):Prop:=
 shift y2 1 S fun a S=>ld1 a S fun c S=>lenS c S fun d S=>bin .lss 0 y6 d S fun e S=>onB e fun b=>gd b (shift y2 1 S fun f S=>ld1 f S fun g S=>ixS 90 2 g y6 S fun h S=>ixA 2 1 h (.v (.int .i64 0)) S fun i S=>ld1 i S fun k S=>callF Pg 112 [y5,k] S Q fun l S=>onB l fun b=>gd b (shift y2 1 S fun m S=>ld1 m S fun n S=>ixS 90 2 n y6 S fun o S=>ixA 2 1 o (.v (.int .i64 1)) S fun p S=>ld1 p S fun q S=>callF Pg 112 [y5,q] S Q fun r S=>bslN 4 1 1 [.v (.bool false)] [(0,r)] S fun s S=>appS 4 1 1 y5 s S fun t S=>bin .add 0 y6 (.v (.int .i64 1)) S fun u S=>KE0 49 (env111_0 y2 t u) S) (bslN 4 1 1 [.v (.bool false)] [(0,(.v (.bool false)))] S fun w S=>appS 4 1 1 y5 w S fun x S=>bin .add 0 y6 (.v (.int .i64 1)) S fun y S=>KE0 49 (env111_0 y2 x y) S)) (Q (.ret y5) S)
theorem b111_0_eq(y2 y5 y6:AV)(S:Store)(KE0:KeT)(Q:PoT):vc Pg (c111.at_ [1,1,1,0,1,0,0]) (ms111.drop 1) (mkE 49 lv111_0 (env111_0 y2 y5 y6)) S (thenK (fgK lv111_0 KE0) (blockK 0 (seqK (vc Pg (c111.at_ [1,1,1,1]) (ms111.drop 1)) (bodyK Pg r111 Q))))=b111_0 y2 y5 y6 S KE0 Q:=by kernel_rfl
theorem loop111_0{y2:AV}{y50 y60:AV}{S:Store}{Q:PoT}(I:AV→AV→Store→Prop)(μ:AV→AV→Store→Nat)(h0:I y50 y60 S)
    (hr:∀(y5 y6:AV) (S:Store),I y5 y6 S→∀ KE0:KeT,(∀(y5' y6':AV) (S':Store),I y5' y6' S'→μ y5' y6' S'<μ y5 y6 S→KE0 49 (env111_0 y2 y5' y6') S')→b111_0 y2 y5 y6 S KE0 Q):
    loopV lv111_0 (vc Pg (c111.at_ [1,1,1,0,1,0,0]) (ms111.drop 1)) 49 (env111_0 y2 y50 y60) S (blockK 0 (seqK (vc Pg (c111.at_ [1,1,1,1]) (ms111.drop 1)) (bodyK Pg r111 Q))):=by
 refine⟨fun n e S=>n=49∧∃ y5 y6:AV,e=(env111_0 y2 y5 y6)∧I y5 y6 S,fun _ e S=>μ (e.getD 1 .j) (e.getD 2 .j) S,?_,?_⟩
 ·exact⟨_,_,Wk.refl _ _,rfl,_,_,rfl,h0⟩
 ·rintro _ e S ⟨rfl,y5,y6,rfl,hI⟩
  exact(b111_0_eq _ _ _ _ _ _).mpr (hr y5 y6 S hI _ (fun y5' y6' S' hI' hm=>⟨_,_,Wk.refl _ _,⟨rfl,_,_,rfl,hI'⟩,hm⟩))
def c71:Code:=(Tryz.f71.body).getD .skip
def ms71:List (List Nat):=[[]]
def m71(x0 x1 x2:AV)(S:Store)(Q:PoT):Prop:=
 boxN 56 2 x0 S fun a S=>ldN 2 a S fun c S=>callF Pg 111 [c,x2] S Q fun d S=>lenS d S fun e S=>bin .gtr 0 e (.v (.int .i64 0)) S fun f S=>onB f fun b=>gd b (ldN 2 a S fun g S=>callF Pg 66 [g,x1] S Q fun h S=>onB h fun b=>gd b (callF Pg 112 [d,x1] S Q fun i S=>Q (.ret i) S) (Q (.ret (.v (.bool false))) S)) (Q (.ret (.v (.bool false))) S)
theorem calls71{x0 x1 x2:AV}{S:Store}{Q:PoT}(h:m71 x0 x1 x2 S Q):ACalls Pg 71 [x0,x1,x2] S Q:=
 calls_of_vc (fn:=Tryz.f71) (c:=c71) (n:=24) Tryz.func71 (by kernel_rfl) (by kernel_rfl) (by kernel_rfl) ms71 (Eq.mpr (by kernel_rfl) h)
def c28:Code:=(Tryz.f28.body).getD .skip
def r28:List ResultVar:=Tryz.f28.results.toList
def env28_0(y1 y3 y4:AV):List AV:=[y1,y3,y4]
def lv28_0:List Nat:=[1,3,4]
def ms28:List (List Nat):=[lv28_0,[]]
def m28(x0:AV)(S:Store)(Q:PoT):Prop:=
 boxN 29 8 x0 S fun c S=>ldN 8 c S fun d S=>callF Pg 30 [d] S Q fun e S=>boxN 56 2 (.a [.v (.int .i64 0),.nl]) S fun f S=>stN 2 f e S fun g S=>shift c 0 S fun h S=>ld1 h S fun i S=>bin .lss 0 i (.v (.int .i64 0)) S fun k S=>onB k fun b=>gd b (Q (.ret (.v (.bool false))) S) (shift c 0 S fun l S=>ld1 l S fun m S=>bin .gtr 0 m (.v (.int .i64 2000)) S fun n S=>onB n fun b=>gd b (Q (.ret (.v (.bool false))) S) (shift c 1 S fun o S=>ld1 o S fun p S=>lenS p S fun q S=>bin .gtr 0 q (.v (.int .i64 2000)) S fun r S=>onB r fun b=>gd b (Q (.ret (.v (.bool false))) S) (ldN 2 f S fun s S=>callF Pg 65 [s] S Q fun t S=>un .not t S fun u S=>onB u fun b=>gd b (Q (.ret (.v (.bool false))) S) (loopV lv28_0 (vc Pg (c28.at_ [1,1,1,0,1,0,0]) (ms28.drop 1)) 86 (env28_0 c f (.v (.int .i64 0))) S (blockK 0 (seqK (vc Pg (c28.at_ [1,1,1,1]) (ms28.drop 1)) (bodyK Pg r28 Q)))))))
theorem calls28{x0:AV}{S:Store}{Q:PoT}(h:m28 x0 S Q):ACalls Pg 28 [x0] S Q:=
 calls_of_vc (fn:=Tryz.f28) (c:=c28) (n:=86) Tryz.func28 (by kernel_rfl) (by kernel_rfl) (by kernel_rfl) ms28 (Eq.mpr (by kernel_rfl) h)
def b28_0(y1 y3 y4:AV)(S:Store)(KE0:KeT)(Q:PoT):Prop:=
 shift y1 1 S fun a S=>ld1 a S fun c S=>lenS c S fun d S=>bin .lss 0 y4 d S fun e S=>onB e fun b=>gd b ((fun S0:Store=>∃ f:AV,(ldN 2 y3 S fun g S=>g=f∧S=S0)∧∃ h:AV,(shift y1 1 S fun i S=>i=h∧S=S0)∧∃ k:AV,(ld1 h S fun l S=>l=k∧S=S0)∧∃ m:AV,(ixS 23 2 k y4 S fun n S=>n=m∧S=S0)∧∃ o:AV,(shift m 0 S fun p S=>p=o∧S=S0)∧∃ q:AV,(ld1 o S fun r S=>r=q∧S=S0)∧∃ s:AV,(callF Pg 66 [f,q] S (fun _ _=>False) fun t S=>t=s∧S=S0)∧∃ u:AV,(un .not s S fun w S=>w=u∧S=S0)∧onB u fun b=>gd b (∃ x:AV,((.v (.bool true))=x∧S=S0)∧onB x fun b=>gd b (∃ y:AV,((.v (.bool true))=y∧S=S0)∧onB y fun b=>gd b (Q (.ret (.v (.bool false))) S) (bin .add 0 y4 (.v (.int .i64 1)) S fun z S=>KE0 86 (env28_0 y1 y3 z) S)) (∃ A:AV,(shift y1 1 S fun B S=>B=A∧S=S0)∧∃ C:AV,(ld1 A S fun D S=>D=C∧S=S0)∧∃ E:AV,(ixS 23 2 C y4 S fun F S=>F=E∧S=S0)∧∃ G:AV,(shift E 1 S fun H S=>H=G∧S=S0)∧∃ I:AV,(ld1 G S fun J S=>J=I∧S=S0)∧∃ K:AV,(bin .gtr 0 I (.v (.int .i64 2)) S fun L S=>L=K∧S=S0)∧∃ M:AV,(K=M∧S=S0)∧onB M fun b=>gd b (Q (.ret (.v (.bool false))) S) (bin .add 0 y4 (.v (.int .i64 1)) S fun N S=>KE0 86 (env28_0 y1 y3 N) S))) (∃ O:AV,(shift y1 1 S fun P S=>P=O∧S=S0)∧∃ R:AV,(ld1 O S fun T S=>T=R∧S=S0)∧∃ U:AV,(ixS 23 2 R y4 S fun V S=>V=U∧S=S0)∧∃ W:AV,(shift U 1 S fun X S=>X=W∧S=S0)∧∃ Y:AV,(ld1 W S fun Z S=>Z=Y∧S=S0)∧∃ a0:AV,(bin .lss 0 Y (.v (.int .i64 0)) S fun a1 S=>a1=a0∧S=S0)∧∃ a2:AV,(a0=a2∧S=S0)∧onB a2 fun b=>gd b (∃ a3:AV,((.v (.bool true))=a3∧S=S0)∧onB a3 fun b=>gd b (Q (.ret (.v (.bool false))) S) (bin .add 0 y4 (.v (.int .i64 1)) S fun a4 S=>KE0 86 (env28_0 y1 y3 a4) S)) (∃ a5:AV,(shift y1 1 S fun a6 S=>a6=a5∧S=S0)∧∃ a7:AV,(ld1 a5 S fun a8 S=>a8=a7∧S=S0)∧∃ a9:AV,(ixS 23 2 a7 y4 S fun b0 S=>b0=a9∧S=S0)∧∃ b1:AV,(shift a9 1 S fun b2 S=>b2=b1∧S=S0)∧∃ b3:AV,(ld1 b1 S fun b4 S=>b4=b3∧S=S0)∧∃ b5:AV,(bin .gtr 0 b3 (.v (.int .i64 2)) S fun b6 S=>b6=b5∧S=S0)∧∃ b7:AV,(b5=b7∧S=S0)∧onB b7 fun b=>gd b (Q (.ret (.v (.bool false))) S) (bin .add 0 y4 (.v (.int .i64 1)) S fun b8 S=>KE0 86 (env28_0 y1 y3 b8) S)))) S) (ldN 2 y3 S fun b9 S=>shift y1 3 S fun c0 S=>ld1 c0 S fun c1 S=>callF Pg 67 [b9,c1] S Q fun c2 S=>onB c2 fun b=>gd b (ldN 2 y3 S fun c3 S=>shift y1 4 S fun c4 S=>ld1 c4 S fun c5 S=>callF Pg 67 [c3,c5] S Q fun c6 S=>onB c6 fun b=>gd b (ldN 2 y3 S fun c7 S=>shift y1 5 S fun c8 S=>ld1 c8 S fun c9 S=>callF Pg 67 [c7,c9] S Q fun d0 S=>onB d0 fun b=>gd b (ldN 2 y3 S fun d1 S=>shift y1 6 S fun d2 S=>ld1 d2 S fun d3 S=>callF Pg 67 [d1,d3] S Q fun d4 S=>onB d4 fun b=>gd b (ldN 8 y1 S fun d5 S=>callF Pg 68 [d5] S Q fun d6 S=>Q (.ret d6) S) (Q (.ret (.v (.bool false))) S)) (Q (.ret (.v (.bool false))) S)) (Q (.ret (.v (.bool false))) S)) (Q (.ret (.v (.bool false))) S))
theorem b28_0_eq(y1 y3 y4:AV)(S:Store)(KE0:KeT)(Q:PoT):vc Pg (c28.at_ [1,1,1,0,1,0,0]) (ms28.drop 1) (mkE 86 lv28_0 (env28_0 y1 y3 y4)) S (thenK (fgK lv28_0 KE0) (blockK 0 (seqK (vc Pg (c28.at_ [1,1,1,1]) (ms28.drop 1)) (bodyK Pg r28 Q))))=b28_0 y1 y3 y4 S KE0 Q:=by kernel_rfl
theorem loop28_0{y1 y3:AV}{y40:AV}{S:Store}{Q:PoT}(I:AV→Store→Prop)(μ:AV→Store→Nat)(h0:I y40 S)
    (hr:∀(y4:AV) (S:Store),I y4 S→∀ KE0:KeT,(∀(y4':AV) (S':Store),I y4' S'→μ y4' S'<μ y4 S→KE0 86 (env28_0 y1 y3 y4') S')→b28_0 y1 y3 y4 S KE0 Q):
    loopV lv28_0 (vc Pg (c28.at_ [1,1,1,0,1,0,0]) (ms28.drop 1)) 86 (env28_0 y1 y3 y40) S (blockK 0 (seqK (vc Pg (c28.at_ [1,1,1,1]) (ms28.drop 1)) (bodyK Pg r28 Q))):=by
 refine⟨fun n e S=>n=86∧∃ y4:AV,e=(env28_0 y1 y3 y4)∧I y4 S,fun _ e S=>μ (e.getD 2 .j) S,?_,?_⟩
 ·exact⟨_,_,Wk.refl _ _,rfl,_,rfl,h0⟩
 ·rintro _ e S ⟨rfl,y4,rfl,hI⟩
  exact(b28_0_eq _ _ _ _ _ _).mpr (hr y4 S hI _ (fun y4' S' hI' hm=>⟨_,_,Wk.refl _ _,⟨rfl,_,rfl,hI'⟩,hm⟩))
def c52:Code:=(Tryz.f52.body).getD .skip
def ms52:List (List Nat):=[[]]
def m52(x0 x1:AV)(S:Store)(Q:PoT):Prop:=
 ldN 2 x1 S fun a S=>callF Pg 53 [a,x0] S Q fun c S=>un .not c S fun d S=>Q (.ret d) S
theorem calls52{x0 x1:AV}{S:Store}{Q:PoT}(h:m52 x0 x1 S Q):ACalls Pg 52 [x0,x1] S Q:=
 calls_of_vc (fn:=Tryz.f52) (c:=c52) (n:=8) Tryz.func52 (by kernel_rfl) (by kernel_rfl) (by kernel_rfl) ms52 (Eq.mpr (by kernel_rfl) h)
def c54:Code:=(Tryz.f54.body).getD .skip
def ms54:List (List Nat):=[[]]
def m54(x0 x1:AV)(S:Store)(Q:PoT):Prop:=
 boxN 23 2 x0 S fun a S=>ld1 x1 S fun c S=>shift a 0 S fun d S=>ld1 d S fun e S=>callV Pg c [e] S (fun f S=>onB f fun b=>gd b (Q (.ret (.v (.bool true))) S) (shift a 1 S fun g S=>ld1 g S fun h S=>bin .lss 0 h (.v (.int .i64 0)) S fun i S=>onB i fun b=>gd b (Q (.ret (.v (.bool true))) S) (shift a 1 S fun k S=>ld1 k S fun l S=>bin .gtr 0 l (.v (.int .i64 2)) S fun m S=>Q (.ret m) S))) (fun u S=>Q (.pan u) S)
theorem calls54{x0 x1:AV}{S:Store}{Q:PoT}(h:m54 x0 x1 S Q):ACalls Pg 54 [x0,x1] S Q:=
 calls_of_vc (fn:=Tryz.f54) (c:=c54) (n:=18) Tryz.func54 (by kernel_rfl) (by kernel_rfl) (by kernel_rfl) ms54 (Eq.mpr (by kernel_rfl) h)
def c100:Code:=(Tryz.f100.body).getD .skip
def r100:List ResultVar:=Tryz.f100.results.toList
def env100_0(y0 y1 y7 y8:AV):List AV:=[y0,y1,y7,y8]
def lv100_0:List Nat:=[0,1,7,8]
def ms100:List (List Nat):=[lv100_0,[]]
def m100(x0 x1:AV)(S:Store)(Q:PoT):Prop:=
 lenS x0 S fun a S=>loopV lv100_0 (vc Pg (c100.at_ [1,0,1,0,0]) (ms100.drop 1)) 19 (env100_0 x0 x1 a (.v (.int .i64 0))) S (blockK 0 (seqK (vc Pg (c100.at_ [1,1]) (ms100.drop 1)) (bodyK Pg r100 Q)))
theorem calls100{x0 x1:AV}{S:Store}{Q:PoT}(h:m100 x0 x1 S Q):ACalls Pg 100 [x0,x1] S Q:=
 calls_of_vc (fn:=Tryz.f100) (c:=c100) (n:=19) Tryz.func100 (by kernel_rfl) (by kernel_rfl) (by kernel_rfl) ms100 (Eq.mpr (by kernel_rfl) h)
def b100_0(y0 y1 y7 y8:AV)(S:Store)(KE0:KeT)(Q:PoT):Prop:=
 bin .lss 0 y8 y7 S fun a S=>onB a fun b=>gd b (ixS 23 2 y0 y8 S fun c S=>ldN 2 c S fun d S=>callV Pg y1 [d] S (fun e S=>onB e fun b=>gd b (Q (.ret y8) S) (bin .add 0 y8 (.v (.int .i64 1)) S fun f S=>KE0 19 (env100_0 y0 y1 y7 f) S)) (fun u S=>Q (.pan u) S)) (Q (.ret (.v (.int .i64 (-1)))) S)
theorem b100_0_eq(y0 y1 y7 y8:AV)(S:Store)(KE0:KeT)(Q:PoT):vc Pg (c100.at_ [1,0,1,0,0]) (ms100.drop 1) (mkE 19 lv100_0 (env100_0 y0 y1 y7 y8)) S (thenK (fgK lv100_0 KE0) (blockK 0 (seqK (vc Pg (c100.at_ [1,1]) (ms100.drop 1)) (bodyK Pg r100 Q))))=b100_0 y0 y1 y7 y8 S KE0 Q:=by kernel_rfl
theorem loop100_0{y0 y1 y7:AV}{y80:AV}{S:Store}{Q:PoT}(I:AV→Store→Prop)(μ:AV→Store→Nat)(h0:I y80 S)
    (hr:∀(y8:AV) (S:Store),I y8 S→∀ KE0:KeT,(∀(y8':AV) (S':Store),I y8' S'→μ y8' S'<μ y8 S→KE0 19 (env100_0 y0 y1 y7 y8') S')→b100_0 y0 y1 y7 y8 S KE0 Q):
    loopV lv100_0 (vc Pg (c100.at_ [1,0,1,0,0]) (ms100.drop 1)) 19 (env100_0 y0 y1 y7 y80) S (blockK 0 (seqK (vc Pg (c100.at_ [1,1]) (ms100.drop 1)) (bodyK Pg r100 Q))):=by
 refine⟨fun n e S=>n=19∧∃ y8:AV,e=(env100_0 y0 y1 y7 y8)∧I y8 S,fun _ e S=>μ (e.getD 3 .j) S,?_,?_⟩
 ·exact⟨_,_,Wk.refl _ _,rfl,_,rfl,h0⟩
 ·rintro _ e S ⟨rfl,y8,rfl,hI⟩
  exact(b100_0_eq _ _ _ _ _ _ _).mpr (hr y8 S hI _ (fun y8' S' hI' hm=>⟨_,_,Wk.refl _ _,⟨rfl,_,rfl,hI'⟩,hm⟩))
def c56:Code:=(Tryz.f56.body).getD .skip
def ms56:List (List Nat):=[[]]
def m56(x0 x1:AV)(S:Store)(Q:PoT):Prop:=
 callF Pg 100 [x0,x1] S Q fun a S=>bin .geq 0 a (.v (.int .i64 0)) S fun c S=>Q (.ret c) S
theorem calls56{x0 x1:AV}{S:Store}{Q:PoT}(h:m56 x0 x1 S Q):ACalls Pg 56 [x0,x1] S Q:=
 calls_of_vc (fn:=Tryz.f56) (c:=c56) (n:=9) Tryz.func56 (by kernel_rfl) (by kernel_rfl) (by kernel_rfl) ms56 (Eq.mpr (by kernel_rfl) h)
def c22:Code:=(Tryz.f22.body).getD .skip
def r22:List ResultVar:=Tryz.f22.results.toList
def env22_0(y1 y3 y14:AV):List AV:=[y1,y3,y14]
def lv22_0:List Nat:=[1,3,14]
def env22_1(y1 y6 y44 y45:AV):List AV:=[y1,y6,y44,y45]
def lv22_1:List Nat:=[1,6,44,45]
def ms22:List (List Nat):=[lv22_0,lv22_1,[]]
def m22(x0:AV)(S:Store)(Q:PoT):Prop:=
 boxN 29 8 x0 S fun c S=>ldN 8 c S fun d S=>callF Pg 23 [d] S Q fun e S=>boxN 56 2 (.a [.v (.int .i64 0),.nl]) S fun f S=>stN 2 f e S fun g S=>ldN 8 c S fun h S=>callF Pg 51 [h] S Q fun i S=>rngM i S fun k S=>loopV lv22_0 (vc Pg (c22.at_ [1,1,0,1,0,0]) (ms22.drop 1)) 54 (env22_0 c f k) S (blockK 0 (seqK (vc Pg (c22.at_ [1,1,1]) (ms22.drop 1)) (bodyK Pg r22 Q)))
theorem calls22{x0:AV}{S:Store}{Q:PoT}(h:m22 x0 S Q):ACalls Pg 22 [x0] S Q:=
 calls_of_vc (fn:=Tryz.f22) (c:=c22) (n:=54) Tryz.func22 (by kernel_rfl) (by kernel_rfl) (by kernel_rfl) ms22 (Eq.mpr (by kernel_rfl) h)
def b22_0(y1 y3 y14:AV)(S:Store)(KE0:KeT)(Q:PoT):Prop:=
 nextM false y14 S fun a S=>extr a 0 S fun c S=>onB c fun b=>gd b (entryM y14 S fun d S=>extr d 1 S fun e S=>bin .lss 0 e (.v (.int .i64 0)) S fun g S=>onB g fun b=>gd b (Q (.ret (.v (.bool false))) S) (bin .gtr 0 e (.v (.int .i64 2000)) S fun h S=>onB h fun b=>gd b (Q (.ret (.v (.bool false))) S) (KE0 54 (env22_0 y1 y3 y14) S))) (boxN 77 1 (.v .nilFunc) S fun i S=>stN 1 i (.f (.func 52) [] [y3]) S fun k S=>ldN 2 y3 S fun l S=>callF Pg 55 [l] S Q fun m S=>un .not m S fun n S=>onB n fun b=>gd b (Q (.ret (.v (.bool false))) S) (shift y1 1 S fun o S=>ld1 o S fun p S=>callF Pg 56 [p,(.f (.func 54) [] [i])] S Q fun q S=>onB q fun b=>gd b (Q (.ret (.v (.bool false))) S) (shift y1 3 S fun r S=>ld1 r S fun s S=>shift y1 4 S fun t S=>ld1 t S fun u S=>shift y1 5 S fun w S=>ld1 w S fun x S=>shift y1 6 S fun y S=>ld1 y S fun z S=>bld [(0,1),(1,1),(2,1),(3,1)] [.nl,.nl,.nl,.nl] [(0,s),(1,u),(2,x),(3,z)] S fun A S=>loopV lv22_1 (vc Pg (c22.at_ [1,1,1,1,1,1,0,1,0,0]) (ms22.drop 2)) 54 (env22_1 y1 i A (.v (.int .i64 0))) S (blockK 2 (seqK (vc Pg (c22.at_ [1,1,1,1,1,1,1]) (ms22.drop 2)) (bodyK Pg r22 Q))))))
theorem b22_0_eq(y1 y3 y14:AV)(S:Store)(KE0:KeT)(Q:PoT):vc Pg (c22.at_ [1,1,0,1,0,0]) (ms22.drop 1) (mkE 54 lv22_0 (env22_0 y1 y3 y14)) S (thenK (fgK lv22_0 KE0) (blockK 0 (seqK (vc Pg (c22.at_ [1,1,1]) (ms22.drop 1)) (bodyK Pg r22 Q))))=b22_0 y1 y3 y14 S KE0 Q:=by kernel_rfl
theorem loop22_0{y1 y3 y14:AV}{S:Store}{Q:PoT}(I:Store→Prop)(μ:Store→Nat)(h0:I  S)
    (hr:∀(S:Store),I  S→∀ KE0:KeT,(∀(S':Store),I  S'→μ  S'<μ  S→KE0 54 (env22_0 y1 y3 y14) S')→b22_0 y1 y3 y14 S KE0 Q):
    loopV lv22_0 (vc Pg (c22.at_ [1,1,0,1,0,0]) (ms22.drop 1)) 54 (env22_0 y1 y3 y14) S (blockK 0 (seqK (vc Pg (c22.at_ [1,1,1]) (ms22.drop 1)) (bodyK Pg r22 Q))):=by
 refine⟨fun n e S=>n=54∧e=(env22_0 y1 y3 y14)∧I  S,fun _ e S=>μ  S,?_,?_⟩
 ·exact⟨_,_,Wk.refl _ _,rfl,rfl,h0⟩
 ·rintro _ e S ⟨rfl,rfl,hI⟩
  exact(b22_0_eq _ _ _ _ _ _).mpr (hr  S hI _ (fun  S' hI' hm=>⟨_,_,Wk.refl _ _,⟨rfl,rfl,hI'⟩,hm⟩))
def b22_1(y1 y6 y44 y45:AV)(S:Store)(KE1:KeT)(Q:PoT):Prop:=
 bin .lss 0 y45 (.v (.int .i64 4)) S fun a S=>onB a fun b=>gd b (optP (intA y45) fun z39=>(0≤z39∧z39<((4:Nat):Int))∧part1 y44 (z39.toNat*1) S fun c S=>ld1 y6 S fun d S=>callF Pg 57 [c,d] S Q fun e S=>onB e fun b=>gd b (Q (.ret (.v (.bool false))) S) (bin .add 0 y45 (.v (.int .i64 1)) S fun f S=>KE1 54 (env22_1 y1 y6 y44 f) S)) (ldN 8 y1 S fun g S=>callF Pg 58 [g] S Q fun h S=>Q (.ret h) S)
theorem b22_1_eq(y1 y6 y44 y45:AV)(S:Store)(KE1:KeT)(Q:PoT):vc Pg (c22.at_ [1,1,1,1,1,1,0,1,0,0]) (ms22.drop 2) (mkE 54 lv22_1 (env22_1 y1 y6 y44 y45)) S (thenK (fgK lv22_1 KE1) (blockK 2 (seqK (vc Pg (c22.at_ [1,1,1,1,1,1,1]) (ms22.drop 2)) (bodyK Pg r22 Q))))=b22_1 y1 y6 y44 y45 S KE1 Q:=by kernel_rfl
theorem loop22_1{y1 y6 y44:AV}{y450:AV}{S:Store}{Q:PoT}(I:AV→Store→Prop)(μ:AV→Store→Nat)(h0:I y450 S)
    (hr:∀(y45:AV) (S:Store),I y45 S→∀ KE1:KeT,(∀(y45':AV) (S':Store),I y45' S'→μ y45' S'<μ y45 S→KE1 54 (env22_1 y1 y6 y44 y45') S')→b22_1 y1 y6 y44 y45 S KE1 Q):
    loopV lv22_1 (vc Pg (c22.at_ [1,1,1,1,1,1,0,1,0,0]) (ms22.drop 2)) 54 (env22_1 y1 y6 y44 y450) S (blockK 2 (seqK (vc Pg (c22.at_ [1,1,1,1,1,1,1]) (ms22.drop 2)) (bodyK Pg r22 Q))):=by
 refine⟨fun n e S=>n=54∧∃ y45:AV,e=(env22_1 y1 y6 y44 y45)∧I y45 S,fun _ e S=>μ (e.getD 3 .j) S,?_,?_⟩
 ·exact⟨_,_,Wk.refl _ _,rfl,_,rfl,h0⟩
 ·rintro _ e S ⟨rfl,y45,rfl,hI⟩
  exact(b22_1_eq _ _ _ _ _ _ _).mpr (hr y45 S hI _ (fun y45' S' hI' hm=>⟨_,_,Wk.refl _ _,⟨rfl,_,rfl,hI'⟩,hm⟩))
def c68:Code:=(Tryz.f68.body).getD .skip
def r68:List ResultVar:=Tryz.f68.results.toList
def env68_0(y1 y3:AV):List AV:=[y1,y3]
def lv68_0:List Nat:=[1,3]
def env68_1(y1 y3 y4 y5:AV):List AV:=[y1,y3,y4,y5]
def lv68_1:List Nat:=[1,3,4,5]
def ms68:List (List Nat):=[lv68_0,lv68_1,[]]
def m68(x0:AV)(S:Store)(Q:PoT):Prop:=
 boxN 29 8 x0 S fun a S=>loopV lv68_0 (vc Pg (c68.at_ [1,0,1,0,0]) (ms68.drop 1)) 85 (env68_0 a (.v (.int .i64 0))) S (blockK 0 (seqK (vc Pg (c68.at_ [1,1]) (ms68.drop 2)) (bodyK Pg r68 Q)))
theorem calls68{x0:AV}{S:Store}{Q:PoT}(h:m68 x0 S Q):ACalls Pg 68 [x0] S Q:=
 calls_of_vc (fn:=Tryz.f68) (c:=c68) (n:=85) Tryz.func68 (by kernel_rfl) (by kernel_rfl) (by kernel_rfl) ms68 (Eq.mpr (by kernel_rfl) h)
def b68_0(y1 y3:AV)(S:Store)(KE0:KeT)(Q:PoT):Prop:=
 shift y1 7 S fun c S=>ld1 c S fun d S=>lenS d S fun e S=>bin .lss 0 y3 e S fun f S=>onB f fun b=>gd b (shift y1 7 S fun g S=>ld1 g S fun h S=>ixS 53 3 h y3 S fun i S=>ldN 3 i S fun k S=>boxN 53 3 (.a [.v (.int .u8 0),.v (.int .i64 0),.v (.string ByteArray.empty)]) S fun l S=>stN 3 l k S fun m S=>(fun S0:Store=>∃ n:AV,(shift l 2 S fun o S=>o=n∧S=S0)∧∃ p:AV,(ld1 n S fun q S=>q=p∧S=S0)∧∃ r:AV,(callF Pg 109 [p] S (fun _ _=>False) fun s S=>s=r∧S=S0)∧∃ t:AV,(un .not r S fun u S=>u=t∧S=S0)∧onB t fun b=>gd b (∃ w:AV,((.v (.bool true))=w∧S=S0)∧onB w fun b=>gd b (∃ x:AV,((.v (.bool true))=x∧S=S0)∧onB x fun b=>gd b (Q (.ret (.v (.bool false))) S) (loopV lv68_1 (vc Pg (c68.at_ [1,0,1,0,0,1,0,0,1,1,0,1,0,0]) (ms68.drop 2)) 85 (env68_1 y1 y3 l (.v (.int .i64 0))) S (blockK 2 (seqK (vc Pg (c68.at_ [1,0,1,0,0,1,0,0,1,1,1]) (ms68.drop 2)) (blockK 1 (seqK (vc Pg (c68.at_ [1,0,1,0,0,1,1]) (ms68.drop 2)) (thenK (fgK lv68_0 KE0) (blockK 0 (seqK (vc Pg (c68.at_ [1,1]) (ms68.drop 2)) (bodyK Pg r68 Q)))))))))) (∃ y:AV,(shift l 1 S fun z S=>z=y∧S=S0)∧∃ A:AV,(ld1 y S fun B S=>B=A∧S=S0)∧∃ C:AV,(ldN 8 y1 S fun D S=>D=C∧S=S0)∧∃ E:AV,(shift l 0 S fun F S=>F=E∧S=S0)∧∃ G:AV,(ld1 E S fun H S=>H=G∧S=S0)∧∃ I:AV,(callF Pg 69 [C,G] S (fun _ _=>False) fun J S=>J=I∧S=S0)∧∃ K:AV,(bin .geq 0 A I S fun L S=>L=K∧S=S0)∧∃ M:AV,(K=M∧S=S0)∧onB M fun b=>gd b (Q (.ret (.v (.bool false))) S) (loopV lv68_1 (vc Pg (c68.at_ [1,0,1,0,0,1,0,0,1,1,0,1,0,0]) (ms68.drop 2)) 85 (env68_1 y1 y3 l (.v (.int .i64 0))) S (blockK 2 (seqK (vc Pg (c68.at_ [1,0,1,0,0,1,0,0,1,1,1]) (ms68.drop 2)) (blockK 1 (seqK (vc Pg (c68.at_ [1,0,1,0,0,1,1]) (ms68.drop 2)) (thenK (fgK lv68_0 KE0) (blockK 0 (seqK (vc Pg (c68.at_ [1,1]) (ms68.drop 2)) (bodyK Pg r68 Q))))))))))) (∃ N:AV,(shift l 1 S fun O S=>O=N∧S=S0)∧∃ P:AV,(ld1 N S fun R S=>R=P∧S=S0)∧∃ T:AV,(bin .lss 0 P (.v (.int .i64 0)) S fun U S=>U=T∧S=S0)∧∃ V:AV,(T=V∧S=S0)∧onB V fun b=>gd b (∃ W:AV,((.v (.bool true))=W∧S=S0)∧onB W fun b=>gd b (Q (.ret (.v (.bool false))) S) (loopV lv68_1 (vc Pg (c68.at_ [1,0,1,0,0,1,0,0,1,1,0,1,0,0]) (ms68.drop 2)) 85 (env68_1 y1 y3 l (.v (.int .i64 0))) S (blockK 2 (seqK (vc Pg (c68.at_ [1,0,1,0,0,1,0,0,1,1,1]) (ms68.drop 2)) (blockK 1 (seqK (vc Pg (c68.at_ [1,0,1,0,0,1,1]) (ms68.drop 2)) (thenK (fgK lv68_0 KE0) (blockK 0 (seqK (vc Pg (c68.at_ [1,1]) (ms68.drop 2)) (bodyK Pg r68 Q)))))))))) (∃ X:AV,(shift l 1 S fun Y S=>Y=X∧S=S0)∧∃ Z:AV,(ld1 X S fun a0 S=>a0=Z∧S=S0)∧∃ a1:AV,(ldN 8 y1 S fun a2 S=>a2=a1∧S=S0)∧∃ a3:AV,(shift l 0 S fun a4 S=>a4=a3∧S=S0)∧∃ a5:AV,(ld1 a3 S fun a6 S=>a6=a5∧S=S0)∧∃ a7:AV,(callF Pg 69 [a1,a5] S (fun _ _=>False) fun a8 S=>a8=a7∧S=S0)∧∃ a9:AV,(bin .geq 0 Z a7 S fun b0 S=>b0=a9∧S=S0)∧∃ b1:AV,(a9=b1∧S=S0)∧onB b1 fun b=>gd b (Q (.ret (.v (.bool false))) S) (loopV lv68_1 (vc Pg (c68.at_ [1,0,1,0,0,1,0,0,1,1,0,1,0,0]) (ms68.drop 2)) 85 (env68_1 y1 y3 l (.v (.int .i64 0))) S (blockK 2 (seqK (vc Pg (c68.at_ [1,0,1,0,0,1,0,0,1,1,1]) (ms68.drop 2)) (blockK 1 (seqK (vc Pg (c68.at_ [1,0,1,0,0,1,1]) (ms68.drop 2)) (thenK (fgK lv68_0 KE0) (blockK 0 (seqK (vc Pg (c68.at_ [1,1]) (ms68.drop 2)) (bodyK Pg r68 Q)))))))))))) S) (Q (.ret (.v (.bool true))) S)
theorem b68_0_eq(y1 y3:AV)(S:Store)(KE0:KeT)(Q:PoT):vc Pg (c68.at_ [1,0,1,0,0]) (ms68.drop 1) (mkE 85 lv68_0 (env68_0 y1 y3)) S (thenK (fgK lv68_0 KE0) (blockK 0 (seqK (vc Pg (c68.at_ [1,1]) (ms68.drop 2)) (bodyK Pg r68 Q))))=b68_0 y1 y3 S KE0 Q:=by kernel_rfl
theorem loop68_0{y1:AV}{y30:AV}{S:Store}{Q:PoT}(I:AV→Store→Prop)(μ:AV→Store→Nat)(h0:I y30 S)
    (hr:∀(y3:AV) (S:Store),I y3 S→∀ KE0:KeT,(∀(y3':AV) (S':Store),I y3' S'→μ y3' S'<μ y3 S→KE0 85 (env68_0 y1 y3') S')→b68_0 y1 y3 S KE0 Q):
    loopV lv68_0 (vc Pg (c68.at_ [1,0,1,0,0]) (ms68.drop 1)) 85 (env68_0 y1 y30) S (blockK 0 (seqK (vc Pg (c68.at_ [1,1]) (ms68.drop 2)) (bodyK Pg r68 Q))):=by
 refine⟨fun n e S=>n=85∧∃ y3:AV,e=(env68_0 y1 y3)∧I y3 S,fun _ e S=>μ (e.getD 1 .j) S,?_,?_⟩
 ·exact⟨_,_,Wk.refl _ _,rfl,_,rfl,h0⟩
 ·rintro _ e S ⟨rfl,y3,rfl,hI⟩
  exact(b68_0_eq _ _ _ _ _).mpr (hr y3 S hI _ (fun y3' S' hI' hm=>⟨_,_,Wk.refl _ _,⟨rfl,_,rfl,hI'⟩,hm⟩))
def b68_1(y1 y3 y4 y5:AV)(S:Store)(KE1:KeT)(KE0:KeT)(Q:PoT):Prop:=
 bin .lss 0 y5 y3 S fun a S=>onB a fun b=>gd b ((fun S0:Store=>∃ c:AV,(shift y1 7 S fun d S=>d=c∧S=S0)∧∃ e:AV,(ld1 c S fun f S=>f=e∧S=S0)∧∃ g:AV,(ixS 53 3 e y5 S fun h S=>h=g∧S=S0)∧∃ i:AV,(shift g 2 S fun k S=>k=i∧S=S0)∧∃ l:AV,(ld1 i S fun m S=>m=l∧S=S0)∧∃ n:AV,(shift y4 2 S fun o S=>o=n∧S=S0)∧∃ p:AV,(ld1 n S fun q S=>q=p∧S=S0)∧∃ r:AV,(bin .eql 0 l p S fun s S=>s=r∧S=S0)∧onB r fun b=>gd b (Q (.ret (.v (.bool false))) S) (bin .add 0 y5 (.v (.int .i64 1)) S fun t S=>KE1 85 (env68_1 y1 y3 y4 t) S)) S) (bin .gtr 0 y3 (.v (.int .i64 0)) S fun u S=>onB u fun b=>gd b ((fun S0:Store=>∃ w:AV,(shift y1 7 S fun x S=>x=w∧S=S0)∧∃ y:AV,(ld1 w S fun z S=>z=y∧S=S0)∧∃ A:AV,(bin .sub 0 y3 (.v (.int .i64 1)) S fun B S=>B=A∧S=S0)∧∃ C:AV,(ixS 53 3 y A S fun D S=>D=C∧S=S0)∧∃ E:AV,(shift C 0 S fun F S=>F=E∧S=S0)∧∃ G:AV,(ld1 E S fun H S=>H=G∧S=S0)∧∃ I:AV,(callF Pg 110 [G] S (fun _ _=>False) fun J S=>J=I∧S=S0)∧∃ K:AV,(shift y4 0 S fun L S=>L=K∧S=S0)∧∃ M:AV,(ld1 K S fun N S=>N=M∧S=S0)∧∃ O:AV,(callF Pg 110 [M] S (fun _ _=>False) fun P S=>P=O∧S=S0)∧(fun S0:Store=>∃ R:AV,(bin .gtr 0 I O S fun T S=>T=R∧S=S0)∧onB R fun b=>gd b (∃ U:AV,((.v (.bool true))=U∧S=S0)∧onB U fun b=>gd b (Q (.ret (.v (.bool false))) S) (bin .add 0 y3 (.v (.int .i64 1)) S fun V S=>KE0 85 (env68_0 y1 V) S)) (∃ W:AV,(bin .eql 0 I O S fun X S=>X=W∧S=S0)∧onB W fun b=>gd b (∃ Y:AV,(shift y1 7 S fun Z S=>Z=Y∧S=S0)∧∃ a0:AV,(ld1 Y S fun a1 S=>a1=a0∧S=S0)∧∃ a2:AV,(bin .sub 0 y3 (.v (.int .i64 1)) S fun a3 S=>a3=a2∧S=S0)∧∃ a4:AV,(ixS 53 3 a0 a2 S fun a5 S=>a5=a4∧S=S0)∧∃ a6:AV,(shift a4 1 S fun a7 S=>a7=a6∧S=S0)∧∃ a8:AV,(ld1 a6 S fun a9 S=>a9=a8∧S=S0)∧∃ b0:AV,(shift y4 1 S fun b1 S=>b1=b0∧S=S0)∧∃ b2:AV,(ld1 b0 S fun b3 S=>b3=b2∧S=S0)∧∃ b4:AV,(bin .geq 0 a8 b2 S fun b5 S=>b5=b4∧S=S0)∧∃ b6:AV,(b4=b6∧S=S0)∧∃ b7:AV,(b6=b7∧S=S0)∧onB b7 fun b=>gd b (Q (.ret (.v (.bool false))) S) (bin .add 0 y3 (.v (.int .i64 1)) S fun b8 S=>KE0 85 (env68_0 y1 b8) S)) (∃ b9:AV,((.v (.bool false))=b9∧S=S0)∧∃ c0:AV,(b9=c0∧S=S0)∧onB c0 fun b=>gd b (Q (.ret (.v (.bool false))) S) (bin .add 0 y3 (.v (.int .i64 1)) S fun c1 S=>KE0 85 (env68_0 y1 c1) S)))) S) S) (bin .add 0 y3 (.v (.int .i64 1)) S fun c2 S=>KE0 85 (env68_0 y1 c2) S))
theorem b68_1_eq(y1 y3 y4 y5:AV)(S:Store)(KE1:KeT)(KE0:KeT)(Q:PoT):vc Pg (c68.at_ [1,0,1,0,0,1,0,0,1,1,0,1,0,0]) (ms68.drop 2) (mkE 85 lv68_1 (env68_1 y1 y3 y4 y5)) S (thenK (fgK lv68_1 KE1) (blockK 2 (seqK (vc Pg (c68.at_ [1,0,1,0,0,1,0,0,1,1,1]) (ms68.drop 2)) (blockK 1 (seqK (vc Pg (c68.at_ [1,0,1,0,0,1,1]) (ms68.drop 2)) (thenK (fgK lv68_0 KE0) (blockK 0 (seqK (vc Pg (c68.at_ [1,1]) (ms68.drop 2)) (bodyK Pg r68 Q)))))))))=b68_1 y1 y3 y4 y5 S KE1 KE0 Q:=by kernel_rfl
theorem loop68_1{y1 y3 y4:AV}{y50:AV}{S:Store}{KE0:KeT}{Q:PoT}(I:AV→Store→Prop)(μ:AV→Store→Nat)(h0:I y50 S)
    (hr:∀(y5:AV) (S:Store),I y5 S→∀ KE1:KeT,(∀(y5':AV) (S':Store),I y5' S'→μ y5' S'<μ y5 S→KE1 85 (env68_1 y1 y3 y4 y5') S')→b68_1 y1 y3 y4 y5 S KE1 KE0 Q):
    loopV lv68_1 (vc Pg (c68.at_ [1,0,1,0,0,1,0,0,1,1,0,1,0,0]) (ms68.drop 2)) 85 (env68_1 y1 y3 y4 y50) S (blockK 2 (seqK (vc Pg (c68.at_ [1,0,1,0,0,1,0,0,1,1,1]) (ms68.drop 2)) (blockK 1 (seqK (vc Pg (c68.at_ [1,0,1,0,0,1,1]) (ms68.drop 2)) (thenK (fgK lv68_0 KE0) (blockK 0 (seqK (vc Pg (c68.at_ [1,1]) (ms68.drop 2)) (bodyK Pg r68 Q)))))))):=by
 refine⟨fun n e S=>n=85∧∃ y5:AV,e=(env68_1 y1 y3 y4 y5)∧I y5 S,fun _ e S=>μ (e.getD 3 .j) S,?_,?_⟩
 ·exact⟨_,_,Wk.refl _ _,rfl,_,rfl,h0⟩
 ·rintro _ e S ⟨rfl,y5,rfl,hI⟩
  exact(b68_1_eq _ _ _ _ _ _ _ _).mpr (hr y5 S hI _ (fun y5' S' hI' hm=>⟨_,_,Wk.refl _ _,⟨rfl,_,rfl,hI'⟩,hm⟩))
def c67:Code:=(Tryz.f67.body).getD .skip
def r67:List ResultVar:=Tryz.f67.results.toList
def env67_0(y1 y2 y5:AV):List AV:=[y1,y2,y5]
def lv67_0:List Nat:=[1,2,5]
def ms67:List (List Nat):=[lv67_0,[]]
def m67(x0 x1:AV)(S:Store)(Q:PoT):Prop:=
 boxN 56 2 x0 S fun a S=>loopV lv67_0 (vc Pg (c67.at_ [1,0,1,0,0]) (ms67.drop 1)) 22 (env67_0 x1 a (.v (.int .i64 0))) S (blockK 0 (seqK (vc Pg (c67.at_ [1,1]) (ms67.drop 1)) (bodyK Pg r67 Q)))
theorem calls67{x0 x1:AV}{S:Store}{Q:PoT}(h:m67 x0 x1 S Q):ACalls Pg 67 [x0,x1] S Q:=
 calls_of_vc (fn:=Tryz.f67) (c:=c67) (n:=22) Tryz.func67 (by kernel_rfl) (by kernel_rfl) (by kernel_rfl) ms67 (Eq.mpr (by kernel_rfl) h)
def b67_0(y1 y2 y5:AV)(S:Store)(KE0:KeT)(Q:PoT):Prop:=
 lenS y1 S fun a S=>bin .lss 0 y5 a S fun c S=>onB c fun b=>gd b ((fun S0:Store=>∃ d:AV,(ldN 2 y2 S fun e S=>e=d∧S=S0)∧∃ f:AV,(ixS 3 1 y1 y5 S fun g S=>g=f∧S=S0)∧∃ h:AV,(ld1 f S fun i S=>i=h∧S=S0)∧∃ k:AV,(callF Pg 66 [d,h] S (fun _ _=>False) fun l S=>l=k∧S=S0)∧∃ m:AV,(un .not k S fun n S=>n=m∧S=S0)∧onB m fun b=>gd b (Q (.ret (.v (.bool false))) S) (bin .add 0 y5 (.v (.int .i64 1)) S fun o S=>KE0 22 (env67_0 y1 y2 o) S)) S) (lenS y1 S fun p S=>bin .leq 0 p (.v (.int .i64 2000)) S fun q S=>Q (.ret q) S)
theorem b67_0_eq(y1 y2 y5:AV)(S:Store)(KE0:KeT)(Q:PoT):vc Pg (c67.at_ [1,0,1,0,0]) (ms67.drop 1) (mkE 22 lv67_0 (env67_0 y1 y2 y5)) S (thenK (fgK lv67_0 KE0) (blockK 0 (seqK (vc Pg (c67.at_ [1,1]) (ms67.drop 1)) (bodyK Pg r67 Q))))=b67_0 y1 y2 y5 S KE0 Q:=by kernel_rfl
theorem loop67_0{y1 y2:AV}{y50:AV}{S:Store}{Q:PoT}(I:AV→Store→Prop)(μ:AV→Store→Nat)(h0:I y50 S)
    (hr:∀(y5:AV) (S:Store),I y5 S→∀ KE0:KeT,(∀(y5':AV) (S':Store),I y5' S'→μ y5' S'<μ y5 S→KE0 22 (env67_0 y1 y2 y5') S')→b67_0 y1 y2 y5 S KE0 Q):
    loopV lv67_0 (vc Pg (c67.at_ [1,0,1,0,0]) (ms67.drop 1)) 22 (env67_0 y1 y2 y50) S (blockK 0 (seqK (vc Pg (c67.at_ [1,1]) (ms67.drop 1)) (bodyK Pg r67 Q))):=by
 refine⟨fun n e S=>n=22∧∃ y5:AV,e=(env67_0 y1 y2 y5)∧I y5 S,fun _ e S=>μ (e.getD 2 .j) S,?_,?_⟩
 ·exact⟨_,_,Wk.refl _ _,rfl,_,rfl,h0⟩
 ·rintro _ e S ⟨rfl,y5,rfl,hI⟩
  exact(b67_0_eq _ _ _ _ _ _).mpr (hr y5 S hI _ (fun y5' S' hI' hm=>⟨_,_,Wk.refl _ _,⟨rfl,_,rfl,hI'⟩,hm⟩))
def c58:Code:=(Tryz.f58.body).getD .skip
def r58:List ResultVar:=Tryz.f58.results.toList
def env58_0(y1 y3 y4 y12 y13 y14:AV):List AV:=[y1,y3,y4,y12,y13,y14]
def lv58_0:List Nat:=[1,3,4,12,13,14]
def ms58:List (List Nat):=[lv58_0,[]]
def m58(x0:AV)(S:Store)(Q:PoT):Prop:=
 boxN 29 8 x0 S fun a S=>ldN 8 a S fun c S=>callF Pg 51 [c] S Q fun d S=>mkM .s S fun e S=>shift a 7 S fun f S=>ld1 f S fun g S=>lenS g S fun h S=>loopV lv58_0 (vc Pg (c58.at_ [1,1,1,0,1,0,0]) (ms58.drop 1)) 78 (env58_0 a d e g h (.v (.int .i64 0))) S (blockK 0 (seqK (vc Pg (c58.at_ [1,1,1,1]) (ms58.drop 1)) (bodyK Pg r58 Q)))
theorem calls58{x0:AV}{S:Store}{Q:PoT}(h:m58 x0 S Q):ACalls Pg 58 [x0] S Q:=
 calls_of_vc (fn:=Tryz.f58) (c:=c58) (n:=78) Tryz.func58 (by kernel_rfl) (by kernel_rfl) (by kernel_rfl) ms58 (Eq.mpr (by kernel_rfl) h)
def b58_0(y1 y3 y4 y12 y13 y14:AV)(S:Store)(KE0:KeT)(Q:PoT):Prop:=
 bin .lss 0 y14 y13 S fun c S=>onB c fun b=>gd b (ixS 53 3 y12 y14 S fun d S=>ldN 3 d S fun e S=>boxN 53 3 (.a [.v (.int .u8 0),.v (.int .i64 0),.v (.string ByteArray.empty)]) S fun f S=>stN 3 f e S fun g S=>shift f 2 S fun h S=>ld1 h S fun k S=>callF Pg 102 [k] S Q fun l S=>un .not l S fun m S=>onB m fun b=>gd b (Q (.ret (.v (.bool false))) S) (shift f 0 S fun n S=>ld1 n S fun o S=>callF Pg 103 [o] S Q fun p S=>bin .lss 0 p (.v (.int .i64 0)) S fun q S=>onB q fun b=>gd b (Q (.ret (.v (.bool false))) S) (shift f 1 S fun r S=>ld1 r S fun t S=>bin .lss 0 t (.v (.int .i64 0)) S fun u S=>onB u fun b=>gd b (Q (.ret (.v (.bool false))) S) (shift f 1 S fun w S=>ld1 w S fun x S=>shift f 0 S fun y S=>ld1 y S fun z S=>convI .i32 z S fun A S=>lkM (.i .i32) (.v (.int .i64 0)) false y3 A S fun B S=>bin .geq 0 x B S fun C S=>onB C fun b=>gd b (Q (.ret (.v (.bool false))) S) (shift f 2 S fun D S=>ld1 D S fun E S=>bld [] [] [] S fun F S=>updM .s y4 E F S fun G S=>bin .eql 0 y14 (.v (.int .i64 0)) S fun H S=>onB H fun b=>gd b (bin .add 0 y14 (.v (.int .i64 1)) S fun I S=>KE0 78 (env58_0 y1 y3 y4 y12 y13 I) S) (shift y1 7 S fun J S=>ld1 J S fun K S=>bin .sub 0 y14 (.v (.int .i64 1)) S fun L S=>ixS 53 3 K L S fun M S=>ldN 3 M S fun N S=>boxN 53 3 (.a [.v (.int .u8 0),.v (.int .i64 0),.v (.string ByteArray.empty)]) S fun O S=>stN 3 O N S fun P S=>(fun S0:Store=>∃ R:AV,(shift O 0 S fun T S=>T=R∧S=S0)∧∃ U:AV,(ld1 R S fun V S=>V=U∧S=S0)∧∃ W:AV,(callF Pg 103 [U] S (fun _ _=>False) fun X S=>X=W∧S=S0)∧∃ Y:AV,(shift f 0 S fun Z S=>Z=Y∧S=S0)∧∃ a0:AV,(ld1 Y S fun a1 S=>a1=a0∧S=S0)∧∃ a2:AV,(callF Pg 103 [a0] S (fun _ _=>False) fun a3 S=>a3=a2∧S=S0)∧∃ a4:AV,(callF Pg 105 [W,a2] S (fun _ _=>False) fun a5 S=>a5=a4∧S=S0)∧∃ a6:AV,(shift O 1 S fun a7 S=>a7=a6∧S=S0)∧∃ a8:AV,(ld1 a6 S fun a9 S=>a9=a8∧S=S0)∧∃ b0:AV,(shift f 1 S fun b1 S=>b1=b0∧S=S0)∧∃ b2:AV,(ld1 b0 S fun b3 S=>b3=b2∧S=S0)∧∃ b4:AV,(callF Pg 105 [a8,b2] S (fun _ _=>False) fun b5 S=>b5=b4∧S=S0)∧∃ b6:AV,(bslN 3 1 2 [.v (.int .i64 0)] [(0,a4),(1,b4)] S fun b7 S=>b7=b6∧S=S0)∧∃ b8:AV,(callF Pg 104 [b6] S (fun _ _=>False) fun c0 S=>c0=b8∧S=S0)∧∃ c1:AV,(bin .geq 0 b8 (.v (.int .i64 0)) S fun c2 S=>c2=c1∧S=S0)∧onB c1 fun b=>gd b (Q (.ret (.v (.bool false))) S) (bin .add 0 y14 (.v (.int .i64 1)) S fun c3 S=>KE0 78 (env58_0 y1 y3 y4 y12 y13 c3) S)) S)))))) (lenM y4 S fun c4 S=>shift y1 7 S fun c5 S=>ld1 c5 S fun c6 S=>lenS c6 S fun c7 S=>bin .eql 0 c4 c7 S fun c8 S=>Q (.ret c8) S)
theorem b58_0_eq(y1 y3 y4 y12 y13 y14:AV)(S:Store)(KE0:KeT)(Q:PoT):vc Pg (c58.at_ [1,1,1,0,1,0,0]) (ms58.drop 1) (mkE 78 lv58_0 (env58_0 y1 y3 y4 y12 y13 y14)) S (thenK (fgK lv58_0 KE0) (blockK 0 (seqK (vc Pg (c58.at_ [1,1,1,1]) (ms58.drop 1)) (bodyK Pg r58 Q))))=b58_0 y1 y3 y4 y12 y13 y14 S KE0 Q:=by kernel_rfl
theorem loop58_0{y1 y3 y4 y12 y13:AV}{y140:AV}{S:Store}{Q:PoT}(I:AV→Store→Prop)(μ:AV→Store→Nat)(h0:I y140 S)
    (hr:∀(y14:AV) (S:Store),I y14 S→∀ KE0:KeT,(∀(y14':AV) (S':Store),I y14' S'→μ y14' S'<μ y14 S→KE0 78 (env58_0 y1 y3 y4 y12 y13 y14') S')→b58_0 y1 y3 y4 y12 y13 y14 S KE0 Q):
    loopV lv58_0 (vc Pg (c58.at_ [1,1,1,0,1,0,0]) (ms58.drop 1)) 78 (env58_0 y1 y3 y4 y12 y13 y140) S (blockK 0 (seqK (vc Pg (c58.at_ [1,1,1,1]) (ms58.drop 1)) (bodyK Pg r58 Q))):=by
 refine⟨fun n e S=>n=78∧∃ y14:AV,e=(env58_0 y1 y3 y4 y12 y13 y14)∧I y14 S,fun _ e S=>μ (e.getD 5 .j) S,?_,?_⟩
 ·exact⟨_,_,Wk.refl _ _,rfl,_,rfl,h0⟩
 ·rintro _ e S ⟨rfl,y14,rfl,hI⟩
  exact(b58_0_eq _ _ _ _ _ _ _ _ _).mpr (hr y14 S hI _ (fun y14' S' hI' hm=>⟨_,_,Wk.refl _ _,⟨rfl,_,rfl,hI'⟩,hm⟩))
def c101:Code:=(Tryz.f101.body).getD .skip
def r101:List ResultVar:=Tryz.f101.results.toList
def env101_0(y0 y1 y7 y8:AV):List AV:=[y0,y1,y7,y8]
def lv101_0:List Nat:=[0,1,7,8]
def ms101:List (List Nat):=[lv101_0,[]]
def m101(x0 x1:AV)(S:Store)(Q:PoT):Prop:=
 lenS x0 S fun a S=>loopV lv101_0 (vc Pg (c101.at_ [1,0,1,0,0]) (ms101.drop 1)) 19 (env101_0 x0 x1 a (.v (.int .i64 0))) S (blockK 0 (seqK (vc Pg (c101.at_ [1,1]) (ms101.drop 1)) (bodyK Pg r101 Q)))
theorem calls101{x0 x1:AV}{S:Store}{Q:PoT}(h:m101 x0 x1 S Q):ACalls Pg 101 [x0,x1] S Q:=
 calls_of_vc (fn:=Tryz.f101) (c:=c101) (n:=19) Tryz.func101 (by kernel_rfl) (by kernel_rfl) (by kernel_rfl) ms101 (Eq.mpr (by kernel_rfl) h)
def b101_0(y0 y1 y7 y8:AV)(S:Store)(KE0:KeT)(Q:PoT):Prop:=
 bin .lss 0 y8 y7 S fun a S=>onB a fun b=>gd b (ixS 3 1 y0 y8 S fun c S=>ld1 c S fun d S=>callV Pg y1 [d] S (fun e S=>onB e fun b=>gd b (Q (.ret y8) S) (bin .add 0 y8 (.v (.int .i64 1)) S fun f S=>KE0 19 (env101_0 y0 y1 y7 f) S)) (fun u S=>Q (.pan u) S)) (Q (.ret (.v (.int .i64 (-1)))) S)
theorem b101_0_eq(y0 y1 y7 y8:AV)(S:Store)(KE0:KeT)(Q:PoT):vc Pg (c101.at_ [1,0,1,0,0]) (ms101.drop 1) (mkE 19 lv101_0 (env101_0 y0 y1 y7 y8)) S (thenK (fgK lv101_0 KE0) (blockK 0 (seqK (vc Pg (c101.at_ [1,1]) (ms101.drop 1)) (bodyK Pg r101 Q))))=b101_0 y0 y1 y7 y8 S KE0 Q:=by kernel_rfl
theorem loop101_0{y0 y1 y7:AV}{y80:AV}{S:Store}{Q:PoT}(I:AV→Store→Prop)(μ:AV→Store→Nat)(h0:I y80 S)
    (hr:∀(y8:AV) (S:Store),I y8 S→∀ KE0:KeT,(∀(y8':AV) (S':Store),I y8' S'→μ y8' S'<μ y8 S→KE0 19 (env101_0 y0 y1 y7 y8') S')→b101_0 y0 y1 y7 y8 S KE0 Q):
    loopV lv101_0 (vc Pg (c101.at_ [1,0,1,0,0]) (ms101.drop 1)) 19 (env101_0 y0 y1 y7 y80) S (blockK 0 (seqK (vc Pg (c101.at_ [1,1]) (ms101.drop 1)) (bodyK Pg r101 Q))):=by
 refine⟨fun n e S=>n=19∧∃ y8:AV,e=(env101_0 y0 y1 y7 y8)∧I y8 S,fun _ e S=>μ (e.getD 3 .j) S,?_,?_⟩
 ·exact⟨_,_,Wk.refl _ _,rfl,_,rfl,h0⟩
 ·rintro _ e S ⟨rfl,y8,rfl,hI⟩
  exact(b101_0_eq _ _ _ _ _ _ _).mpr (hr y8 S hI _ (fun y8' S' hI' hm=>⟨_,_,Wk.refl _ _,⟨rfl,_,rfl,hI'⟩,hm⟩))
def c57:Code:=(Tryz.f57.body).getD .skip
def ms57:List (List Nat):=[[]]
def m57(x0 x1:AV)(S:Store)(Q:PoT):Prop:=
 callF Pg 101 [x0,x1] S Q fun a S=>bin .geq 0 a (.v (.int .i64 0)) S fun c S=>Q (.ret c) S
theorem calls57{x0 x1:AV}{S:Store}{Q:PoT}(h:m57 x0 x1 S Q):ACalls Pg 57 [x0,x1] S Q:=
 calls_of_vc (fn:=Tryz.f57) (c:=c57) (n:=9) Tryz.func57 (by kernel_rfl) (by kernel_rfl) (by kernel_rfl) ms57 (Eq.mpr (by kernel_rfl) h)
end
def idxOf(o:Option Nat):Int:=match o with|some i=>i|none=>-1
theorem find_at{α:Type}{g:α→Bool}{l:List α}{i:Nat}(hi:i<l.length)(hg:g l[i]=true)(h:∀ k (hk:k<i),g (l[k]'(Nat.lt_trans hk hi))=false):l.findIdx? g=some i:=by
 rw[List.findIdx?_eq_some_iff_getElem]
 exact⟨hi,hg,fun j hj=>by simp[h j hj]⟩
theorem find_none{α:Type}{g:α→Bool}{l:List α}(h:∀ k (hk:k<l.length),g l[k]=false):l.findIdx? g=none:=by
 rw[List.findIdx?_eq_none_iff]
 intro x hx
 obtain⟨k,hk,rfl⟩:=List.mem_iff_getElem.1 hx
 exact h k hk
theorem at101{α:Type}{f:α→AV}{l:List α}(hl:l.length≤9223372036854775807){g:α→Bool}{fn:FuncId}{fs cs:List AV}{S:Store}
    (hf:∀ x,x∈l→AnsAt Pg fn (fs ++ [f x]++cs) S (aB (g x))):AnsAt Pg 101 [aL f l,.f (.func fn) fs cs] S (aI (idxOf (l.findIdx? g))):=by
 refine calls101 ?_
 unfold m101
 rw[lenS_aL]
 refine loop101_0 (fun y S'=>S'=S∧∃ i:Nat,y=aI i∧i≤l.length∧∀ k (hk:k<l.length),k<i→g l[k]=false) (fun y _=>l.length - ((intA y).getD 0).toNat) ⟨rfl,0,rfl,Nat.zero_le _,fun k _ h=>absurd h (Nat.not_lt_zero _)⟩ ?_
 rintro _ _ ⟨rfl,i,rfl,hi,hk⟩ KE hKE
 unfold b101_0 aI
 rw[bin_lss,onB_v]
 refine gd_of (fun h=>?_) (fun h=>?_)
 ·have hlt:i<l.length:=by simpa using h
  rw[ixS_aL hlt,ld1_q]
  refine callV_at (hf _ (List.getElem_mem hlt)) ?_
  unfold aB
  rw[onB_v]
  refine gd_of (fun hg=>⟨?_,rfl⟩) (fun hg=>?_)
  ·rw[find_at hlt hg (fun k hk'=>hk k _ hk')];rfl
  ·rw[bin_add (by omega) (by omega)]
   refine hKE _ _ ⟨rfl,i+1,rfl,hlt,fun k hk1 hk2=>?_⟩ ?_
   ·by_cases e:k=i
    ·subst e;exact hg
    ·exact hk k hk1 (by omega)
   ·simp[intA,aI];omega
 ·have hge:i=l.length:=by simp at h;omega
  subst hge
  rw[find_none (fun k hk'=>hk k hk' hk')]
  exact⟨rfl,rfl⟩
theorem idx_any{α:Type}(g:α→Bool)(l:List α):decide (0≤idxOf (l.findIdx? g))=l.any g:=by
 cases h:l.findIdx? g with
 |none =>
  rw[List.findIdx?_eq_none_iff]at h
  have:l.any g=false:=by simpa[List.any_eq_false]using h
  rw[this];rfl
 |some i =>
  rw[List.findIdx?_eq_some_iff_getElem]at h
  obtain⟨hi,hg,_⟩:=h
  have:l.any g=true:=List.any_eq_true.2 ⟨_,List.getElem_mem hi,by simpa using hg⟩
  rw[this]
  simp[idxOf]
theorem at57{α:Type}{f:α→AV}{l:List α}(hl:l.length≤9223372036854775807){g:α→Bool}{fn:FuncId}{fs cs:List AV}{S:Store}
    (hf:∀ x,x∈l→AnsAt Pg fn (fs ++ [f x]++cs) S (aB (g x))):AnsAt Pg 57 [aL f l,.f (.func fn) fs cs] S (aB (l.any g)):=by
 refine calls57 ?_
 unfold m57
 refine callF_at (at101 hl hf) ?_
 unfold aI
 rw[bin_geq,idx_any]
 exact⟨rfl,rfl⟩
structure Sp where
 bits:Int
 valid:List Bool
 initial:List Bool
 next:List (List Int)
 fair:List (List Bool)
def fits(s:Sp)(l:List (List Bool)):Bool:=
 decide (s.next.length=s.valid.length) && s.fair.all (fun p=>decide (p.length=s.valid.length)) && l.all (fun p=>decide (p.length=s.valid.length)) && s.next.all (fun x=>x.all fun i=>decide (0≤i) && decide (i<s.valid.length))
def keyOf(b:ByteArray):Key:=.s b.data.toList
theorem keyOf_inj{a b:ByteArray}(h:keyOf a=keyOf b):a=b:=by
 simp only[keyOf,Key.s.injEq]at h
 exact byteArray_ext (Array.toList_inj.1 h)
theorem ins_keys{es:List (Key × AV)}{x k:Key}{v:AV}:k∈(insM es x v).map (·.1)↔k∈es.map (·.1)∨k=x:=by
 induction es with
 |nil=>simp[insM]
 |cons e es ih =>
  simp only[insM]
  split
  ·rename_i h
   subst h
   simp only[List.map_cons,List.mem_cons]
   constructor
   ·rintro(h|h)
    ·exact .inr h
    ·exact .inl (.inr h)
   ·rintro((h|h)|h)
    ·exact .inl h
    ·exact .inr h
    ·exact .inl h
  ·simp only[List.map_cons,List.mem_cons,ih,or_assoc]
theorem ins_len_in{es:List (Key × AV)}{x:Key}{v:AV}(h:x∈es.map (·.1)):(insM es x v).length=es.length:=by
 induction es with
 |nil=>simp at h
 |cons e es ih =>
  simp only[insM]
  split
  ·rfl
  ·rename_i hne
   have:x∈es.map (·.1):=by
    rcases List.mem_cons.1 h with h|h
    ·exact absurd h.symm hne
    ·exact h
   simp[ih this]
structure Tells (es:List (Key × AV)) (l:List Key):Prop where
 mem:∀ k,k∈es.map (·.1)↔k∈l
 le:es.length≤l.length
 eq:es.length=l.length↔l.Nodup
theorem Tells.nil:Tells [] []:=⟨fun k=>by simp,Nat.le_refl _,by simp⟩
theorem Tells.add{es:List (Key × AV)}{l:List Key}(h:Tells es l)(x:Key)(v:AV):Tells (insM es x v) (l ++ [x]) where
 mem k:=by rw[ins_keys,h.mem,List.mem_append,List.mem_singleton]
 le:=by
  have:=h.le
  by_cases c:x∈es.map (·.1)
  ·rw[ins_len_in c];simp;omega
  ·rw[insM_none (kix_none.2 c)];simp;omega
 eq:=by
  have hle:=h.le
  rw[List.nodup_append]
  by_cases c:x∈es.map (·.1)
  ·rw[ins_len_in c]
   constructor
   ·intro e;simp at e;omega
   ·rintro⟨_,_,h3⟩
    exact absurd rfl (h3 x ((h.mem x).1 c) x (by simp))
  ·rw[insM_none (kix_none.2 c)]
   simp only[List.length_append,List.length_singleton,Nat.add_right_cancel_iff,h.eq]
   constructor
   ·intro e
    refine⟨e,by simp,fun a ha b hb=>?_⟩
    have:b=x:=by simpa using hb
    subst this
    rintro rfl
    exact c ((h.mem _).2 ha)
   ·exact fun e=>e.1
def nameOk(c:Ci)(x:Na):Prop:=wordB x.text=true∧0≤x.pos∧x.pos<c.many x.kind
def nameLt(y x:Na):Prop:=rankI y.kind<rankI x.kind∨rankI y.kind=rankI x.kind∧y.pos<x.pos
structure NamesR (c:Ci) (n:Nat):Prop where
 ok:∀ i (h:i<c.names.length),i<n→nameOk c c.names[i]
 lt:∀ i (h:i+1<c.names.length),i+1<n→nameLt c.names[i] c.names[i+1]
 nodup:((c.names.take n).map fun x=>keyOf x.text).Nodup
open Classical in
def namesB (c:Ci):Bool:=decide (NamesR c c.names.length)
theorem NamesR.zero(c:Ci):NamesR c 0:=⟨fun _ _ h=>by omega,fun _ _ h=>by omega,by simp⟩
theorem NamesR.no_ok{c:Ci}{i:Nat}(h:i<c.names.length)(hn:¬ nameOk c c.names[i]):namesB c=false:=by
 simp only[namesB,decide_eq_false_iff_not]
 exact fun h'=>hn (h'.ok i h h)
theorem NamesR.no_lt{c:Ci}{i:Nat}(h:i+1<c.names.length)(hn:¬ nameLt c.names[i] c.names[i+1]):namesB c=false:=by
 simp only[namesB,decide_eq_false_iff_not]
 exact fun h'=>hn (h'.lt i h h)
@[simp] theorem lenS_nL(l:List Na){S:Store}{K:AV→Store→Prop}:lenS (nL l) S K=K (aI l.length) S:=by simp[nL]
theorem ixS_nL{l:List Na}{e i:Nat}{S:Store}{K:AV→Store→Prop}(h:i<l.length):ixS e 3 (nL l) (aI i) S K=K (.q l[i].row 0) S:=by
 unfold nL
 rw[ixS_l (by simpa using h) (by simp[Na.row])]
 simp
theorem ldN_q3{u v z:AV}{S:Store}{K:AV→Store→Prop}:ldN 3 (.q [u,v,z] 0) S K=K (.a [u,v,z]) S:=by simp[ldN,rdN,place]
theorem keyS(b:ByteArray):keyA .s (.v (.string b))=some (keyOf b):=rfl
theorem lkM_mt{S:Store}{kk:KK}{z:AV}{c:Bool}{k:AV}{key:Key}{es:List (Key × AV)}{K:AV→Store→Prop}(hk:keyA kk k=some key):lkM kk z c (.mt kk es) k S K=K (lkV z c (lkp es key)) S:=by
 simp[lkM,entsA,hk]
theorem lkV_many(c:Ci)(k:Int):lkV (aI 0) false (lkp c.manyE (.i k))=aI (c.many k):=lkp_many c k
theorem wrap32{k:Int}(h0:0≤k)(h1:k<256):IntKind.i32.wrap k=k:=by rw[IntKind.wrap_i32];omega
theorem ans58{c:Ci}(hc:c.ok):Ans Pg 58 [c.av] (aB (namesB c)):=by
 intro S
 refine ACalls.ans_v (calls58 ?_)
 have hlen:=hc.nlen
 unfold m58
 refine boxA_of rfl fun S1 k1 n1 o1=>?_
 rw[ldN_p (n:=8) o1 rfl]
 refine callF_ans (ans51 c) ?_
 unfold mkM
 show shift _ _ _ _
 have k2:=k1.new (.map .s [] true)
 have p2:(S1.new (.map .s [] true)).obj S.n=_:=(new_lt (by omega)).trans o1
 rw[shift_p,ld1_p p2 rfl rfl,lenS_nL]
 refine loop58_0 (fun y S'=>Keep S S'∧S1.n<S'.n∧S'.obj S.n=some (.cells 29 [c.cells] true)∧∃ i:Nat,y=aI i∧i≤c.names.length∧
     (∀ j (h:j<c.names.length),j<i→nameOk c c.names[j])∧(∀ j (h:j+1<c.names.length),j+1<i→nameLt c.names[j] c.names[j+1])∧∃ es,S'.obj S1.n=some (.map .s es true)∧Tells es ((c.names.take i).map fun x=>keyOf x.text))
  (fun y _=>c.names.length - ((intA y).getD 0).toNat) ⟨k2,by simp,p2,0,rfl,Nat.zero_le _,fun j _ h=>by omega,fun j _ h=>by omega,[],new_self _,by simpa using Tells.nil⟩ ?_
 rintro _ S3 ⟨k3,n3,p3,i,rfl,hi,hok,hltn,es,m3,ht⟩ KE hKE
 unfold b58_0
 rw[bin_lss,onB_v]
 refine gd_of (fun hlt=>?_) (fun hge=>?_)
 ·have hlt:i<c.names.length:=by simpa using hlt
  have hx:=hc.names _ (List.getElem_mem hlt)
  rw[ixS_nL hlt]
  generalize hxe:c.names[i]=x at *
  have hno:=fun h=>NamesR.no_ok hlt (hxe ▸ h)
  unfold Na.row
  rw[ldN_q3]
  refine boxA_of rfl fun S4 k4 n4 o4=>?_
  refine stA_of o4 rfl rfl fun S5 n5 o5 f5=>?_
  have k5:Keep S S5:=(k3.trans k4).st (by have:=k3.1;omega) n5 f5
  have p5:S5.obj S.n=_:=(f5 _ (by omega)).trans ((k4.2 _ (by omega)).trans p3)
  have m5:S5.obj S1.n=_:=(f5 _ (by omega)).trans ((k4.2 _ (by omega)).trans m3)
  rw[shift_p,ld1_p o5 rfl rfl]
  refine callF_ans (ans102 x.text hx.2.2.2) ?_
  rw[un_not,onB_v]
  refine gd_of (fun h1=>⟨?_,k5⟩) (fun h1=>?_)
  ·rw[hno (fun h=>by rw[h.1]at h1;cases h1)]
  rw[shift_p,ld1_p o5 rfl rfl]
  refine callF_ans (ans103 x.kind hx.1 hx.2.1) ?_
  rw[bin_lss,onB_v]
  refine gd_of (fun h2=>⟨?_,k5⟩) (fun h2=>?_)
  ·rw[hno (fun h=>by have:=h.2;rw[many_no (dT h2)]at this;omega)]
  rw[shift_p,ld1_p o5 rfl rfl,bin_lss,onB_v]
  refine gd_of (fun h3=>⟨?_,k5⟩) (fun h3=>?_)
  ·rw[hno (fun h=>by have:=h.2;have:=dT h3;omega)]
  rw[shift_p,ld1_p o5 rfl rfl,shift_p,ld1_p o5 rfl rfl,convI_v,wrap32 hx.1 hx.2.1,lkM_mt (keyI _ _)]
  rw[lkV_many]
  rw[bin_geq,onB_v]
  refine gd_of (fun h4=>⟨?_,k5⟩) (fun h4=>?_)
  ·rw[hno (fun h=>by have:=h.2;have:=dT h4;omega)]
  have hgood:nameOk c x:=⟨by simpa using h1,by have:=dF h3;omega,by have:=dF h4;omega⟩
  rw[shift_p,ld1_p o5 rfl rfl,bld_of (cs:=[]) rfl,updM_m m5 (keyS _)]
  have k6:=k5.upd (id:=S1.n) (by omega) (.map .s (insM es (keyOf x.text) (.a [])) true)
  have p6:(Store.upd S5 S1.n (.map .s (insM es (keyOf x.text) (.a [])) true)).obj S.n=_:=(upd_ne (by omega)).trans p5
  have o6:(Store.upd S5 S1.n (.map .s (insM es (keyOf x.text) (.a [])) true)).obj S3.n=_:=(upd_ne (by omega)).trans o5
  have m6:(Store.upd S5 S1.n (.map .s (insM es (keyOf x.text) (.a [])) true)).obj S1.n=_:=upd_self _ _
  have n6:S4.n=(Store.upd S5 S1.n (.map .s (insM es (keyOf x.text) (.a [])) true)).n:=n5.symm
  have n6':S3.n+1=(Store.upd S5 S1.n (.map .s (insM es (keyOf x.text) (.a [])) true)).n:=by rw[←n6,n4]
  generalize Store.upd S5 S1.n (.map .s (insM es (keyOf x.text) (.a [])) true)=S6 at *
  have ht':Tells (insM es (keyOf x.text) (.a [])) ((c.names.take (i+1)).map fun x=>keyOf x.text):=by
   rw[List.take_add_one,List.getElem?_eq_getElem hlt,hxe,List.map_append]
   exact ht.add _ _
  have hok':∀ j (h:j<c.names.length),j<i+1→nameOk c c.names[j]:=fun j hj hj'=>by
   rcases Nat.lt_or_ge j i with h|h
   ·exact hok j hj h
   ·have:j=i:=by omega
    subst this
    rw[hxe];exact hgood
  have hadd:∀ K:AV→Store→Prop,∀ S,bin .add 0 (.v (.int .i64 (i:Int))) (.v (.int .i64 1)) S K=K (aI (i+1:Nat)) S:=fun K S=>bin_add (by omega) (by omega) 0
  have hμ:c.names.length - ((intA (aI (i+1:Nat))).getD 0).toNat<c.names.length - ((intA (aI i)).getD 0).toNat:=by simp[intA];omega
  rw[bin_eql,onB_v]
  refine gd_of (fun h5=>?_) (fun h5=>?_)
  ·have h5:i=0:=by have:=dT h5;omega
   rw[hadd]
   exact hKE _ _ ⟨k6,by omega,p6,i+1,rfl,hlt,hok',fun j hj hj'=>by omega,_,m6,ht'⟩ hμ
  ·have h5:i≠0:=by have:=dF h5;omega
   obtain⟨j,rfl⟩:∃ j,i=j+1:=⟨i - 1,by omega⟩
   have hj:j<c.names.length:=by omega
   have hy:=hc.names _ (List.getElem_mem hj)
   have hsub:∀ K:AV→Store→Prop,∀ S,bin .sub 0 (.v (.int .i64 ((j+1:Nat):Int))) (.v (.int .i64 1)) S K=K (aI j) S:=fun K S=>(bin_sub (by omega) (by omega) 0).trans (by rw[show((j+1:Nat):Int) - 1=j by omega])
   rw[shift_p,ld1_p p6 rfl rfl,hsub,ixS_nL hj]
   have hnl:¬ nameLt c.names[j] x→namesB c=false:=fun h=>NamesR.no_lt hlt (by rw[hxe];exact h)
   generalize hye:c.names[j]=y at *
   unfold Na.row
   rw[ldN_q3]
   refine boxA_of rfl fun S7 k7 n7 o7=>?_
   refine stA_of o7 rfl rfl fun S8 n8 o8 f8=>?_
   have k8:Keep S S8:=(k6.trans k7).st (by have:=k6.1;omega) n8 f8
   have p8:S8.obj S.n=_:=(f8 _ (by omega)).trans ((k7.2 _ (by omega)).trans p6)
   have m8:S8.obj S1.n=_:=(f8 _ (by omega)).trans ((k7.2 _ (by omega)).trans m6)
   have q8:S8.obj S3.n=_:=(f8 _ (by omega)).trans ((k7.2 _ (by omega)).trans o6)
   show ∃ q50:AV,_
   refine⟨_,by rw[shift_p];exact⟨rfl,rfl⟩,?_⟩
   refine⟨_,by rw[ld1_p o8 rfl rfl];exact⟨rfl,rfl⟩,?_⟩
   refine⟨_,callF_ans (ans103 y.kind hy.1 hy.2.1) ⟨rfl,rfl⟩,?_⟩
   refine⟨_,by rw[shift_p];exact⟨rfl,rfl⟩,?_⟩
   refine⟨_,by rw[ld1_p q8 rfl rfl];exact⟨rfl,rfl⟩,?_⟩
   refine⟨_,callF_ans (ans103 x.kind hx.1 hx.2.1) ⟨rfl,rfl⟩,?_⟩
   refine⟨_,callF_ans (ans105 _ _) ⟨rfl,rfl⟩,?_⟩
   refine⟨_,by rw[shift_p];exact⟨rfl,rfl⟩,?_⟩
   refine⟨_,by rw[ld1_p o8 rfl rfl];exact⟨rfl,rfl⟩,?_⟩
   refine⟨_,by rw[shift_p];exact⟨rfl,rfl⟩,?_⟩
   refine⟨_,by rw[ld1_p q8 rfl rfl];exact⟨rfl,rfl⟩,?_⟩
   refine⟨_,callF_ans (ans105 _ _) ⟨rfl,rfl⟩,?_⟩
   refine⟨_,bsl2 rfl rfl ⟨rfl,rfl⟩,?_⟩
   refine⟨_,callF_ans (ans104 _ _) ⟨rfl,rfl⟩,?_⟩
   refine⟨_,by rw[bin_geq];exact⟨rfl,rfl⟩,?_⟩
   rw[onB_v]
   have hcmp:(0≤if cmpZ (rankI y.kind) (rankI x.kind)≠0 then cmpZ (rankI y.kind) (rankI x.kind)else cmpZ y.pos x.pos)↔¬ nameLt y x:=by
    unfold cmpZ nameLt
    repeat' split
    all_goals omega
   refine gd_of (fun h6=>⟨?_,k8⟩) (fun h6=>?_)
   ·rw[hnl (hcmp.1 (dT h6))]
   ·rw[hadd]
    refine hKE _ _ ⟨k8,by omega,p8,j+1+1,rfl,hlt,hok',fun k hk hk'=>?_,_,m8,ht'⟩ hμ
    rcases Nat.lt_or_ge (k+1) (j+1)with h|h
    ·exact hltn k hk h
    ·have:k=j:=by omega
     subst this
     rw[hxe,hye]
     have:=dF h6
     exact Classical.not_not.1 fun hh=>this (hcmp.2 hh)
 ·have hge:i=c.names.length:=by simp at hge;omega
  subst hge
  rw[lenM_m m3,shift_p,ld1_p p3 rfl rfl,lenS_nL,bin_eql]
  refine⟨?_,k3⟩
  congr 3
  simp only[namesB,decide_eq_decide]
  have:=ht.eq
  rw[List.length_map,List.length_take,Nat.min_self]at this
  rw[Int.natCast_inj,this]
  exact⟨fun h=>⟨hok,hltn,h⟩,fun h=>h.nodup⟩
theorem ans68{c:Ci}(hc:c.ok):Ans Pg 68 [c.av] (aB (namesB c)):=by
 intro S
 refine ACalls.ans_v (calls68 ?_)
 have hlen:=hc.nlen
 unfold m68
 refine boxA_of rfl fun S1 k1 n1 o1=>?_
 refine loop68_0 (fun y S'=>Keep S S'∧S.n<S'.n∧S'.obj S.n=some (.cells 29 [c.cells] true)∧∃ i:Nat,y=aI i∧i≤c.names.length∧NamesR c i)
  (fun y _=>c.names.length - ((intA y).getD 0).toNat) ⟨k1,by omega,o1,0,rfl,Nat.zero_le _,NamesR.zero c⟩ ?_
 rintro _ S3 ⟨k3,n3,p3,i,rfl,hi,hR⟩ KE hKE
 unfold b68_0
 rw[shift_p,ld1_p p3 rfl rfl,lenS_nL,bin_lss,onB_v]
 refine gd_of (fun hlt=>?_) (fun hge=>?_)
 ·have hlt:i<c.names.length:=by simpa using hlt
  have hx:=hc.names _ (List.getElem_mem hlt)
  rw[shift_p,ld1_p p3 rfl rfl,ixS_nL hlt]
  generalize hxe:c.names[i]=x at *
  have hno:=fun h=>NamesR.no_ok hlt (hxe ▸ h)
  have hrow:x.row = [.v (.int .u8 x.kind),aI x.pos,.v (.string x.text)]:=rfl
  rw[hrow,ldN_q3]
  refine boxA_of rfl fun S4 k4 n4 o4=>?_
  refine stA_of o4 rfl rfl fun S5 n5 o5 f5=>?_
  have k5:Keep S S5:=(k3.trans k4).st (by have:=k3.1;omega) n5 f5
  have p5:S5.obj S.n=_:=(f5 _ (by omega)).trans ((k4.2 _ (by omega)).trans p3)
  show ∃ q13:AV,_
  refine⟨_,by rw[shift_p];exact⟨rfl,rfl⟩,?_⟩
  refine⟨_,by rw[ld1_p o5 rfl rfl];exact⟨rfl,rfl⟩,?_⟩
  refine⟨_,callF_ans (ans109 x.text hx.2.2.2) ⟨rfl,rfl⟩,?_⟩
  refine⟨_,by rw[un_not];exact⟨rfl,rfl⟩,?_⟩
  rw[onB_v]
  refine gd_of (fun h1=>?_) (fun h1=>?_)
  ·refine⟨_,⟨rfl,rfl⟩,?_⟩
   rw[onB_v,gd_true]
   refine⟨_,⟨rfl,rfl⟩,?_⟩
   rw[onB_v,gd_true]
   exact⟨by rw[hno (fun h=>by rw[h.1]at h1;cases h1)],k5⟩
  refine⟨_,by rw[shift_p];exact⟨rfl,rfl⟩,?_⟩
  refine⟨_,by rw[ld1_p o5 rfl rfl];exact⟨rfl,rfl⟩,?_⟩
  refine⟨_,by rw[bin_lss];exact⟨rfl,rfl⟩,?_⟩
  refine⟨_,⟨rfl,rfl⟩,?_⟩
  rw[onB_v]
  refine gd_of (fun h3=>?_) (fun h3=>?_)
  ·refine⟨_,⟨rfl,rfl⟩,?_⟩
   rw[onB_v,gd_true]
   exact⟨by rw[hno (fun h=>by have:=h.2;have:=dT h3;omega)],k5⟩
  refine⟨_,by rw[shift_p];exact⟨rfl,rfl⟩,?_⟩
  refine⟨_,by rw[ld1_p o5 rfl rfl];exact⟨rfl,rfl⟩,?_⟩
  refine⟨_,by rw[ldN_p (n:=8) p5 rfl];exact⟨rfl,rfl⟩,?_⟩
  refine⟨_,by rw[shift_p];exact⟨rfl,rfl⟩,?_⟩
  refine⟨_,by rw[ld1_p o5 rfl rfl];exact⟨rfl,rfl⟩,?_⟩
  refine⟨_,callF_ans (ans69 c x.kind) ⟨rfl,rfl⟩,?_⟩
  refine⟨_,by rw[bin_geq];exact⟨rfl,rfl⟩,?_⟩
  refine⟨_,⟨rfl,rfl⟩,?_⟩
  rw[onB_v]
  refine gd_of (fun h4=>⟨?_,k5⟩) (fun h4=>?_)
  ·rw[hno (fun h=>by have:=h.2;have:=dT h4;omega)]
  have hgood:nameOk c x:=⟨by simpa using h1,by have:=dF h3;omega,by have:=dF h4;omega⟩
  have hok':∀ j (h:j<c.names.length),j<i+1→nameOk c c.names[j]:=fun j hj hj'=>by
   rcases Nat.lt_or_ge j i with h|h
   ·exact hR.ok j hj h
   ·have:j=i:=by omega
    subst this
    rw[hxe];exact hgood
  refine loop68_1 (fun y S'=>S'=S5∧∃ k:Nat,y=aI k∧k≤i∧∀ j (hj:j<k) (hk:k≤i),(c.names[j]'(by omega)).text≠x.text)
   (fun y _=>i - ((intA y).getD 0).toNat) ⟨rfl,0,rfl,Nat.zero_le _,fun j hj=>(Nat.not_lt_zero _ hj).elim⟩ ?_
  rintro _ S5 ⟨rfl,k,rfl,hk,hne⟩ KE1 hKE1
  unfold b68_1
  rw[bin_lss,onB_v]
  refine gd_of (fun hlk=>?_) (fun hgk=>?_)
  ·have hlk:k<i:=by simpa using hlk
   have hkl:k<c.names.length:=by omega
   show ∃ q70:AV,_
   refine⟨_,by rw[shift_p];exact⟨rfl,rfl⟩,?_⟩
   refine⟨_,by rw[ld1_p p5 rfl rfl];exact⟨rfl,rfl⟩,?_⟩
   refine⟨_,by rw[ixS_nL hkl];exact⟨rfl,rfl⟩,?_⟩
   refine⟨_,by rw[shift_q];exact⟨rfl,rfl⟩,?_⟩
   refine⟨_,by rw[ld1_qj (u:=.v (.string c.names[k].text)) rfl];exact⟨rfl,rfl⟩,?_⟩
   refine⟨_,by rw[shift_p];exact⟨rfl,rfl⟩,?_⟩
   refine⟨_,by rw[ld1_p o5 rfl rfl];exact⟨rfl,rfl⟩,?_⟩
   refine⟨_,by rw[bin_eqlS];exact⟨rfl,rfl⟩,?_⟩
   rw[onB_v]
   refine gd_of (fun h6=>⟨?_,k5⟩) (fun h6=>?_)
   ·have h6:c.names[k].text=x.text:=dT h6
    have:namesB c=false:=by
     simp only[namesB,decide_eq_false_iff_not]
     intro h'
     have hnd:=h'.nodup
     rw[List.take_length]at hnd
     have:=List.pairwise_iff_getElem.1 hnd k i (by simpa using hkl) (by simpa using hlt) hlk
     simp only[List.getElem_map,hxe,h6]at this
     exact this rfl
    rw[this]
   ·have hadd:∀ K:AV→Store→Prop,∀ S,bin .add 0 (.v (.int .i64 (k:Int))) (.v (.int .i64 1)) S K=K (aI (k+1:Nat)) S:=fun K S=>bin_add (by omega) (by omega) 0
    rw[hadd]
    refine hKE1 _ _ ⟨rfl,k+1,rfl,hlk,fun j hj _=>?_⟩ (by simp[intA];omega)
    rcases Nat.lt_or_ge j k with hj'|hj'
    ·exact hne j hj' (by omega)
    ·have:j=k:=by omega
     subst this
     exact dF h6
  ·have hge:k=i:=by simp at hgk;omega
   subst hge
   have hnd':((c.names.take (k+1)).map fun x=>keyOf x.text).Nodup:=by
    have h:=hR.nodup
    rw[List.take_add_one,List.getElem?_eq_getElem hlt,List.map_append,List.nodup_append]
    refine⟨h,by simp,fun a ha b hb=>?_⟩
    rw[List.mem_map]at ha hb
    obtain⟨y,hy,rfl⟩:=ha
    obtain⟨z,hz,rfl⟩:=hb
    have:z=x:=by simpa[hxe]using hz
    subst this
    rw[List.mem_take_iff_getElem]at hy
    obtain⟨j,hj,rfl⟩:=hy
    exact fun e=>hne j (by omega) (Nat.le_refl _) (keyOf_inj e)
   have hadd:∀ K:AV→Store→Prop,∀ S,bin .add 0 (.v (.int .i64 (k:Int))) (.v (.int .i64 1)) S K=K (aI (k+1:Nat)) S:=fun K S=>bin_add (by omega) (by omega) 0
   have hμ:c.names.length - ((intA (aI (k+1:Nat))).getD 0).toNat<c.names.length - ((intA (aI k)).getD 0).toNat:=by simp[intA];omega
   have next:(∀ j (h:j+1<c.names.length),j+1=k→nameLt c.names[j] x)→KE _ (env68_0 (.p S.n 0 0) (aI (k+1:Nat))) S5:=fun hl=>hKE _ _ ⟨k5,by omega,p5,k+1,rfl,hlt,hok',fun j hj hj'=>by
    rcases Nat.lt_or_ge (j+1) k with h|h
    ·exact hR.lt j hj h
    ·have e:j+1=k:=by omega
     have:=hl j hj e
     subst e
     rw[hxe];exact this,hnd'⟩ hμ
   rw[bin_gtr,onB_v]
   refine gd_of (fun h7=>?_) (fun h7=>?_)
   ·obtain⟨j,rfl⟩:∃ j,k=j+1:=⟨k - 1,by have:=dT h7;omega⟩
    have hj:j<c.names.length:=by omega
    have hnl:¬ nameLt c.names[j] x→namesB c=false:=fun h=>NamesR.no_lt hlt (by rw[hxe];exact h)
    have next:=fun(h:nameLt c.names[j] x)=>next (fun j' hj' e=>by
     have:j'=j:=by omega
     subst this
     exact h)
    have hsub:∀ K:AV→Store→Prop,∀ S,bin .sub 0 (.v (.int .i64 ((j+1:Nat):Int))) (.v (.int .i64 1)) S K=K (aI j) S:=fun K S=>(bin_sub (by omega) (by omega) 0).trans (by rw[show((j+1:Nat):Int) - 1=j by omega])
    have hix:∀ K:AV→Store→Prop,ixS 53 3 (nL c.names) (aI j) S5 K=K (.q c.names[j].row 0) S5:=fun K=>ixS_nL hj
    generalize hye:c.names[j]=y at *
    have hrow':y.row = [.v (.int .u8 y.kind),aI y.pos,.v (.string y.text)]:=rfl
    show ∃ q90:AV,_
    refine⟨_,by rw[shift_p];exact⟨rfl,rfl⟩,?_⟩
    refine⟨_,by rw[ld1_p p5 rfl rfl];exact⟨rfl,rfl⟩,?_⟩
    refine⟨_,by rw[hsub];exact⟨rfl,rfl⟩,?_⟩
    refine⟨_,by rw[hix];exact⟨rfl,rfl⟩,?_⟩
    refine⟨_,by rw[shift_q];exact⟨rfl,rfl⟩,?_⟩
    refine⟨_,by rw[ld1_qj (u:=.v (.int .u8 y.kind)) rfl];exact⟨rfl,rfl⟩,?_⟩
    refine⟨_,callF_ans (ans110 y.kind) ⟨rfl,rfl⟩,?_⟩
    refine⟨_,by rw[shift_p];exact⟨rfl,rfl⟩,?_⟩
    refine⟨_,by rw[ld1_p o5 rfl rfl];exact⟨rfl,rfl⟩,?_⟩
    refine⟨_,callF_ans (ans110 x.kind) ⟨rfl,rfl⟩,?_⟩
    show ∃ q110:AV,_
    refine⟨_,by rw[bin_gtr];exact⟨rfl,rfl⟩,?_⟩
    rw[onB_v]
    refine gd_of (fun h8=>?_) (fun h8=>?_)
    ·refine⟨_,⟨rfl,rfl⟩,?_⟩
     rw[onB_v,gd_true]
     refine⟨?_,k5⟩
     have h8:=dT h8
     rw[hnl (by unfold nameLt;omega)]
    have h8:=dF h8
    refine⟨_,by rw[bin_eql];exact⟨rfl,rfl⟩,?_⟩
    rw[onB_v]
    refine gd_of (fun h9=>?_) (fun h9=>?_)
    ·have h9:rankI y.kind=rankI x.kind:=dT h9
     refine⟨_,by rw[shift_p];exact⟨rfl,rfl⟩,?_⟩
     refine⟨_,by rw[ld1_p p5 rfl rfl];exact⟨rfl,rfl⟩,?_⟩
     refine⟨_,by rw[hsub];exact⟨rfl,rfl⟩,?_⟩
     refine⟨_,by rw[hix];exact⟨rfl,rfl⟩,?_⟩
     refine⟨_,by rw[shift_q];exact⟨rfl,rfl⟩,?_⟩
     refine⟨_,by rw[ld1_qj (u:=aI y.pos) rfl];exact⟨rfl,rfl⟩,?_⟩
     refine⟨_,by rw[shift_p];exact⟨rfl,rfl⟩,?_⟩
     refine⟨_,by rw[ld1_p o5 rfl rfl];exact⟨rfl,rfl⟩,?_⟩
     refine⟨_,by rw[bin_geq];exact⟨rfl,rfl⟩,?_⟩
     refine⟨_,⟨rfl,rfl⟩,?_⟩
     refine⟨_,⟨rfl,rfl⟩,?_⟩
     rw[onB_v]
     refine gd_of (fun h10=>⟨?_,k5⟩) (fun h10=>?_)
     ·have h10:=dT h10
      rw[hnl (by unfold nameLt;omega)]
     ·have h10:=dF h10
      rw[hadd]
      exact next (by unfold nameLt;omega)
    ·have h9:¬ rankI y.kind=rankI x.kind:=dF h9
     refine⟨_,⟨rfl,rfl⟩,?_⟩
     refine⟨_,⟨rfl,rfl⟩,?_⟩
     rw[onB_v,gd_false,hadd]
     exact next (by unfold nameLt;omega)
   ·rw[hadd]
    exact next (fun j hj e=>by have:=dF h7;omega)
 ·have hge:i=c.names.length:=by simp at hge;omega
  subst hge
  refine⟨?_,k3⟩
  have:namesB c=true:=by simp only[namesB,decide_eq_true_eq];exact hR
  rw[this]
theorem ans67{g:Gr}{l:List Int}(hg:g.ok)(hl:∀ x∈l,i64R x)(hn:l.length≤9223372036854775807):Ans Pg 67 [g.av,aL aI l] (aB (l.all g.lit && decide (l.length≤2000))):=by
 intro S
 refine ACalls.ans_v (calls67 ?_)
 unfold m67
 refine boxA_of rfl fun S1 k1 n1 o1=>?_
 refine loop67_0 (fun y S'=>S'=S1∧∃ i:Nat,y=aI i∧i≤l.length∧∀ j (h:j<l.length),j<i→g.lit l[j]=true)
  (fun y _=>l.length - ((intA y).getD 0).toNat) ⟨rfl,0,rfl,Nat.zero_le _,fun j _ hj=>(Nat.not_lt_zero _ hj).elim⟩ ?_
 rintro _ S1 ⟨rfl,i,rfl,hi,hok⟩ KE hKE
 unfold b67_0
 rw[lenS_aL,bin_lss,onB_v]
 refine gd_of (fun hlt=>?_) (fun hge=>?_)
 ·have hlt:i<l.length:=by simpa using hlt
  have hm:=List.getElem_mem hlt
  show ∃ q5:AV,_
  refine⟨_,by rw[ldN_p (n:=2) o1 rfl];exact⟨rfl,rfl⟩,?_⟩
  refine⟨_,by rw[ixS_aL hlt];exact⟨rfl,rfl⟩,?_⟩
  refine⟨_,by rw[ld1_q];exact⟨rfl,rfl⟩,?_⟩
  refine⟨_,callF_ans (ans66 hg (hl _ hm)) ⟨rfl,rfl⟩,?_⟩
  refine⟨_,by rw[un_not];exact⟨rfl,rfl⟩,?_⟩
  rw[onB_v]
  refine gd_of (fun h=>⟨?_,k1⟩) (fun h=>?_)
  ·have:l.all g.lit=false:=by
     rw[List.all_eq_false]
     exact⟨_,hm,by simpa using h⟩
   rw[this];rfl
  ·have hadd:∀ K:AV→Store→Prop,∀ S,bin .add 0 (.v (.int .i64 (i:Int))) (.v (.int .i64 1)) S K=K (aI (i+1:Nat)) S:=fun K S=>bin_add (by omega) (by omega) 0
   rw[hadd]
   refine hKE _ _ ⟨rfl,i+1,rfl,hlt,fun j hj hj'=>?_⟩ (by simp[intA];omega)
   rcases Nat.lt_or_ge j i with h'|h'
   ·exact hok j hj h'
   ·have:j=i:=by omega
    subst this
    simpa using h
 ·have hge:i=l.length:=by simp at hge;omega
  subst hge
  rw[lenS_aL,bin_leq]
  refine⟨?_,k1⟩
  have:l.all g.lit=true:=by
   rw[List.all_eq_true]
   intro x hx
   obtain⟨j,hj,rfl⟩:=List.getElem_of_mem hx
   exact hok j hj hj
  rw[this,Bool.true_and,show decide ((l.length:Int)≤2000)=decide (l.length≤2000)from decide_eq_decide.2 (by omega)]
def latOk(g:Gr)(p:Int × Int):Bool:=g.lit p.1 && (decide (0≤p.2) && decide (p.2≤2))
def Ci.manyL(c:Ci):List Int:=[c.inputs,c.latches.length,c.outs.length,c.bads.length,c.cons.length,c.fair.length]
def Ci.right (c:Ci):Bool:=
 c.manyL.all (fun n=>decide (0≤n) && decide (n≤2000)) && (c.gr.right && (c.latches.all (latOk c.gr) && (c.outs.all c.gr.lit && (c.bads.all c.gr.lit && (c.cons.all c.gr.lit && (c.fair.all c.gr.lit && namesB c))))))
theorem at52{S:Store}{g:Gr}{id:Nat}{l:Int}(hg:g.ok)(hl:i64R l)(h:S.obj id=some (.cells 56 [g.cells] true)):AnsAt Pg 52 [aI l,.p id 0 0] S (aB (!g.lit l)):=by
 refine calls52 ?_
 unfold m52
 rw[ldN_p (n:=2) h rfl]
 refine callF_ans (ans53 hg hl) ?_
 rw[un_not]
 exact⟨rfl,rfl⟩
theorem at54{S:Store}{g:Gr}{id fid t:Nat}{p:Int × Int}(hg:g.ok)(hl:i64R p.1)(hid:id<S.n)(hf:fid<S.n)(h:S.obj id=some (.cells 56 [g.cells] true))
    (h2:S.obj fid=some (.cells t [[.f (.func 52) [] [.p id 0 0]]] true)):AnsAt Pg 54 [.a [aI p.1,aI p.2],.p fid 0 0] S (aB (!latOk g p)):=by
 refine ACalls.ans_v (calls54 ?_)
 unfold m54
 refine boxA_of rfl fun S1 k1 n1 o1=>?_
 have h':=(k1.2 _ hid).trans h
 have h2':=(k1.2 _ hf).trans h2
 rw[ld1_p h2' rfl rfl,shift_p,ld1_p o1 rfl rfl]
 refine callV_at (at52 hg hl h') ?_
 rw[onB_v]
 refine gd_of (fun h3=>⟨?_,k1⟩) (fun h3=>?_)
 ·rw[Bool.not_eq_true']at h3
  simp[latOk,h3]
 have h3:g.lit p.1=true:=by simpa using h3
 rw[shift_p,ld1_p o1 rfl rfl,bin_lss,onB_v]
 refine gd_of (fun h4=>⟨?_,k1⟩) (fun h4=>?_)
 ·have h4:=dT h4
  simp[latOk,show ¬ 0≤p.2 by omega]
 rw[shift_p,ld1_p o1 rfl rfl,bin_gtr]
 refine⟨?_,k1⟩
 have h4:=dF h4
 simp only[latOk,h3,Bool.true_and,show 0≤p.2 by omega,decide_true]
 congr 4
 rw[←decide_not]
 exact decide_eq_decide.2 (by omega)
theorem at100{l:List (Int × Int)}(hl:l.length≤9223372036854775807){g:Int × Int→Bool}{fn:FuncId}{fs cs:List AV}{S:Store}
    (hf:∀ x,x∈l→AnsAt Pg fn (fs ++ [.a [aI x.1,aI x.2]]++cs) S (aB (g x))):AnsAt Pg 100 [pL l,.f (.func fn) fs cs] S (aI (idxOf (l.findIdx? g))):=by
 refine calls100 ?_
 unfold m100
 rw[lenS_pL]
 refine loop100_0 (fun y S'=>S'=S∧∃ i:Nat,y=aI i∧i≤l.length∧∀ k (hk:k<l.length),k<i→g l[k]=false) (fun y _=>l.length - ((intA y).getD 0).toNat) ⟨rfl,0,rfl,Nat.zero_le _,fun k _ h=>absurd h (Nat.not_lt_zero _)⟩ ?_
 rintro _ _ ⟨rfl,i,rfl,hi,hk⟩ KE hKE
 unfold b100_0
 rw[bin_lss,onB_v]
 refine gd_of (fun h=>?_) (fun h=>?_)
 ·have hlt:i<l.length:=by simpa using h
  rw[ixS_pL hlt,ldN_q2]
  refine callV_at (hf _ (List.getElem_mem hlt)) ?_
  rw[onB_v]
  refine gd_of (fun hg=>⟨?_,rfl⟩) (fun hg=>?_)
  ·rw[find_at hlt hg (fun k hk'=>hk k _ hk')];rfl
  ·rw[bin_add (by omega) (by omega)]
   refine hKE _ _ ⟨rfl,i+1,rfl,hlt,fun k hk1 hk2=>?_⟩ ?_
   ·by_cases e:k=i
    ·subst e;exact hg
    ·exact hk k hk1 (by omega)
   ·simp[intA,aI];omega
 ·have hge:i=l.length:=by simp at h;omega
  subst hge
  rw[find_none (fun k hk'=>hk k hk' hk')]
  exact⟨rfl,rfl⟩
theorem at56{l:List (Int × Int)}(hl:l.length≤9223372036854775807){g:Int × Int→Bool}{fn:FuncId}{fs cs:List AV}{S:Store}
    (hf:∀ x,x∈l→AnsAt Pg fn (fs ++ [.a [aI x.1,aI x.2]]++cs) S (aB (g x))):AnsAt Pg 56 [pL l,.f (.func fn) fs cs] S (aB (l.any g)):=by
 refine calls56 ?_
 unfold m56
 refine callF_at (at100 hl hf) ?_
 unfold aI
 rw[bin_geq,idx_any]
 exact⟨rfl,rfl⟩
theorem manyE_at{c:Ci}{i:Nat}{e:Key × AV}(h:c.manyE[i]? = some e):∃ h':i<6,e.2=aI (c.manyL[i]'h'):=by
 match i with
 |0|1|2|3|4|5=>cases h;exact⟨by decide,rfl⟩
 |i+6=>simp[Ci.manyE]at h
theorem any_not{l:List Int}{g:Int→Bool}:l.any (fun x=>!g x) = !l.all g:=by
 induction l with
 |nil=>rfl
 |cons a l ih=>simp[ih]
theorem any_notP{l:List (Int × Int)}{g:Int × Int→Bool}:l.any (fun x=>!g x) = !l.all g:=by
 induction l with
 |nil=>rfl
 |cons a l ih=>simp[ih]
theorem nodup_lt6:∀{n:Nat} {l:List Nat},l.Nodup→(∀ x∈l,x<n)→l.length≤n
 |0,l,_,h=>by
  cases l with
  |nil=>simp
  |cons x l=>exact absurd (h x (by simp)) (Nat.not_lt_zero _)
 |n+1,l,hd,h=>by
  have h1:=nodup_lt6 (n:=n) (l:=l.erase n) (hd.erase n) (fun x hx=>by
   have:=(hd.mem_erase_iff).1 hx
   have:=h x this.2
   omega)
  by_cases hm:n∈l
  ·have:=List.length_erase_of_mem hm
   omega
  ·rw[List.erase_of_not_mem hm]at h1
   omega
theorem ans22{c:Ci}(hc:c.ok):Ans Pg 22 [c.av] (aB c.right):=by
 intro S
 refine ACalls.ans_v (calls22 ?_)
 have hg:=hc.gr
 unfold m22
 refine boxA_of rfl fun S1 k1 n1 o1=>?_
 rw[ldN_p (n:=8) o1 rfl]
 refine callF_ans (ans23 c) ?_
 refine boxA_of rfl fun S2 k2 n2 o2=>?_
 refine stA_of o2 rfl rfl fun S3 n3 o3 f3=>?_
 have k3:Keep S S3:=(k1.trans k2).st (by omega) n3 f3
 have p3:S3.obj S.n=_:=(f3 _ (by omega)).trans ((k2.2 _ (by omega)).trans o1)
 rw[ldN_p (n:=8) p3 rfl]
 refine callF_ans (ans51 c) ?_
 show loopV _ _ _ _ _ _
 have hmany:∀(i:Nat) (h:i<6),¬ (0≤c.manyL[i]'h∧c.manyL[i]'h≤2000)→c.right=false:=fun i h hn=>by
  have:c.manyL.all (fun n=>decide (0≤n) && decide (n≤2000))=false:=by
   rw[List.all_eq_false]
   exact⟨_,List.getElem_mem (l:=c.manyL) h,by simpa using hn⟩
  simp only[Ci.right,this,Bool.false_and]
 refine loop22_0 (fun S'=>Keep S S'∧S3.n<S'.n∧S'.obj S.n=some (.cells 29 [c.cells] true)∧S'.obj S1.n=some (.cells 56 [c.gr.cells] true)∧
     ∃ seen,S'.obj S3.n=some (.mit (.mt (.i .i32) c.manyE) 6 seen)∧seen.Nodup∧(∀ i∈seen,∃ h:i<6,0≤c.manyL[i]'h∧c.manyL[i]'h≤2000))
  (fun S'=>match S'.obj S3.n with|some (.mit _ _ seen)=>6 - seen.length|_=>0)
  ⟨k3.new _,by simp,(new_lt (by omega)).trans p3,(new_lt (by omega)).trans o3,[],new_self _,by simp,fun i h=>by simp at h⟩ ?_
 rintro S4 ⟨k4,n4,p4,g4,seen,m4,hnd,hse⟩ KE hKE
 unfold b22_0 nextM
 simp only[m4,mapKK,optP_some]
 refine⟨rfl,fun i e he hi=>?_,fun hall=>?_⟩
 ·obtain⟨hi6,hev⟩:=manyE_at he
  have k5:Keep S (Store.upd S4 S3.n (.mit (.mt (.i .i32) c.manyE) 6 (seen ++ [i]))):=k4.upd (by have:=k3.1;omega) _
  have m5:(Store.upd S4 S3.n (.mit (.mt (.i .i32) c.manyE) 6 (seen ++ [i]))).obj S3.n=_:=upd_self _ _
  have p5:(Store.upd S4 S3.n (.mit (.mt (.i .i32) c.manyE) 6 (seen ++ [i]))).obj S.n=_:=(upd_ne (by omega)).trans p4
  have g5:(Store.upd S4 S3.n (.mit (.mt (.i .i32) c.manyE) 6 (seen ++ [i]))).obj S1.n=_:=(upd_ne (by omega)).trans g4
  have n5:(Store.upd S4 S3.n (.mit (.mt (.i .i32) c.manyE) 6 (seen ++ [i]))).n=S4.n:=rfl
  generalize Store.upd S4 S3.n (.mit (.mt (.i .i32) c.manyE) 6 (seen ++ [i]))=S5 at *
  rw[extr0,onB_v,gd_true]
  unfold entryM
  simp only[m5,mapKK,optP_some]
  refine⟨rfl,i,by simp,e,he,?_⟩
  show extr _ _ _ _
  rw[extr1,hev,bin_lss,onB_v]
  refine gd_of (fun h1=>⟨?_,k5⟩) (fun h1=>?_)
  ·rw[hmany i hi6 (fun h=>by have:=dT h1;omega)]
  rw[bin_gtr,onB_v]
  refine gd_of (fun h2=>⟨?_,k5⟩) (fun h2=>?_)
  ·rw[hmany i hi6 (fun h=>by have:=dT h2;omega)]
  have h1:=dF h1
  have h2:=dF h2
  have hnd':(seen ++ [i]).Nodup:=by
   rw[List.nodup_append]
   refine⟨hnd,by simp,fun a ha b hb=>?_⟩
   have:b=i:=by simpa using hb
   subst this
   rintro rfl
   exact hi ha
  have hse':∀ j∈seen ++ [i],∃ h:j<6,0≤c.manyL[j]'h∧c.manyL[j]'h≤2000:=fun j hj=>by
   rcases List.mem_append.1 hj with hj|hj
   ·exact hse j hj
   ·have:j=i:=by simpa using hj
    subst this
    exact⟨hi6,by omega,by omega⟩
  have hlen:(seen ++ [i]).length≤6:=by
   exact nodup_lt6 hnd' (fun x hx=>(hse' x hx).1)
  refine hKE _ ⟨k5,by omega,p5,g5,_,m5,hnd',hse'⟩ ?_
  simp only[m5,m4]
  simp at hlen ⊢
  omega
 ·unfold over
  rw[extr0,onB_v,gd_false]
  have hm:c.manyL.all (fun n=>decide (0≤n) && decide (n≤2000))=true:=by
   rw[List.all_eq_true]
   intro x hx
   obtain⟨i,hi,rfl⟩:=List.getElem_of_mem hx
   obtain⟨h6,h0,h1⟩:=hse i (hall i hi)
   simp only[Bool.and_eq_true,decide_eq_true_eq]
   exact⟨h0,h1⟩
  have hright:c.right=(c.gr.right && (c.latches.all (latOk c.gr) && (c.outs.all c.gr.lit && (c.bads.all c.gr.lit && (c.cons.all c.gr.lit && (c.fair.all c.gr.lit && namesB c)))))):=by
   simp only[Ci.right,hm,Bool.true_and]
  clear hm hall hse hmany
  refine box1_of rfl fun S5 k5 n5 o5=>?_
  refine st_of o5 rfl rfl fun S6 n6 o6 f6=>?_
  have k6:Keep S S6:=(k4.trans k5).st (by have:=k4.1;omega) n6 f6
  have p6:S6.obj S.n=_:=(f6 _ (by omega)).trans ((k5.2 _ (by omega)).trans p4)
  have g6:S6.obj S1.n=_:=(f6 _ (by omega)).trans ((k5.2 _ (by omega)).trans g4)
  rw[ldN_p (n:=2) g6 rfl]
  refine callF_ans (ans55 hg) ?_
  rw[un_not,onB_v]
  refine gd_of (fun h1=>⟨?_,k6⟩) (fun h1=>?_)
  ·rw[Bool.not_eq_true']at h1
   rw[hright,h1];rfl
  have h1:c.gr.right=true:=by simpa using h1
  rw[shift_p,ld1_p p6 rfl rfl]
  have hlat:=hc.llen
  refine callF_at (at56 (by omega) (g:=fun p=>!latOk c.gr p) (fun p hp=>at54 hg (hc.lats p hp).1 (by omega) (by omega) g6 o6)) ?_
  rw[any_notP,onB_v]
  refine gd_of (fun h2=>⟨?_,k6⟩) (fun h2=>?_)
  ·rw[Bool.not_eq_true']at h2
   rw[hright,h1,h2];rfl
  have h2:c.latches.all (latOk c.gr)=true:=by simpa using h2
  rw[shift_p,ld1_p p6 rfl rfl,shift_p,ld1_p p6 rfl rfl,shift_p,ld1_p p6 rfl rfl,shift_p,ld1_p p6 rfl rfl,bld_of (cs:=[aL aI c.outs,aL aI c.bads,aL aI c.cons,aL aI c.fair]) rfl]
  rw[h1,h2,Bool.true_and,Bool.true_and]at hright
  have call:∀(l:List Int),((∀ x∈l,i64R x)∧l.length≤9223372036854775807)→∀{Q:AEnd→Store→Prop} {K:AV→Store→Prop},K (aB (!l.all c.gr.lit)) S6→callF Pg 57 [aL aI l,.f (.func 52) [] [.p S1.n 0 0]] S6 Q K:=fun l hl Q K k =>
   callF_at (at57 hl.2 (g:=fun x=>!c.gr.lit x) (fun x hx=>at52 hg (hl.1 x hx) g6)) (show K (aB (l.any fun x=>!c.gr.lit x)) S6 by rw[any_not];exact k)
  refine loop22_1 (fun y S'=>S'=S6∧∃ i:Nat,y=aI i∧i≤4∧(1≤i→c.outs.all c.gr.lit=true)∧(2≤i→c.bads.all c.gr.lit=true)∧(3≤i→c.cons.all c.gr.lit=true)∧(4≤i→c.fair.all c.gr.lit=true))
   (fun y _=>4 - ((intA y).getD 0).toNat) ⟨rfl,0,rfl,Nat.zero_le _,fun h=>by omega,fun h=>by omega,fun h=>by omega,fun h=>by omega⟩ ?_
  rintro _ S6 ⟨rfl,i,rfl,hi,a1,a2,a3,a4⟩ KE1 hKE1
  unfold b22_1
  rw[bin_lss,onB_v]
  refine gd_of (fun hlt=>?_) (fun hge=>?_)
  ·have hlt:i<4:=by have:=dT hlt;exact Int.ofNat_lt.1 this
   have hadd:∀ K:AV→Store→Prop,∀ S,bin .add 0 (.v (.int .i64 (i:Int))) (.v (.int .i64 1)) S K=K (aI (i+1:Nat)) S:=fun K S=>bin_add (by omega) (by omega) 0
   match i,hlt with
   |0,_ =>
    refine⟨0,rfl,⟨by decide,by decide⟩,_,rfl,?_⟩
    show ld1 _ _ _
    rw[ld1_p o6 rfl rfl]
    refine call _ hc.outs ?_
    rw[onB_v]
    refine gd_of (fun h=>⟨?_,k6⟩) (fun h=>?_)
    ·rw[Bool.not_eq_true']at h
     rw[hright,h];rfl
    ·rw[hadd]
     exact hKE1 _ _ ⟨rfl,1,rfl,by decide,fun _=>by simpa using h,fun h=>by omega,fun h=>by omega,fun h=>by omega⟩ (by simp[intA])
   |1,_ =>
    have a1:=a1 (by decide)
    refine⟨1,rfl,⟨by decide,by decide⟩,_,rfl,?_⟩
    show ld1 _ _ _
    rw[ld1_p o6 rfl rfl]
    refine call _ hc.bads ?_
    rw[onB_v]
    refine gd_of (fun h=>⟨?_,k6⟩) (fun h=>?_)
    ·rw[Bool.not_eq_true']at h
     rw[hright,a1,h];rfl
    ·rw[hadd]
     exact hKE1 _ _ ⟨rfl,2,rfl,by decide,fun _=>a1,fun _=>by simpa using h,fun h=>by omega,fun h=>by omega⟩ (by simp[intA])
   |2,_ =>
    have a1:=a1 (by decide)
    have a2:=a2 (by decide)
    refine⟨2,rfl,⟨by decide,by decide⟩,_,rfl,?_⟩
    show ld1 _ _ _
    rw[ld1_p o6 rfl rfl]
    refine call _ hc.cons ?_
    rw[onB_v]
    refine gd_of (fun h=>⟨?_,k6⟩) (fun h=>?_)
    ·rw[Bool.not_eq_true']at h
     rw[hright,a1,a2,h];rfl
    ·rw[hadd]
     exact hKE1 _ _ ⟨rfl,3,rfl,by decide,fun _=>a1,fun _=>a2,fun _=>by simpa using h,fun h=>by omega⟩ (by simp[intA])
   |3,_ =>
    have a1:=a1 (by decide)
    have a2:=a2 (by decide)
    have a3:=a3 (by decide)
    refine⟨3,rfl,⟨by decide,by decide⟩,_,rfl,?_⟩
    show ld1 _ _ _
    rw[ld1_p o6 rfl rfl]
    refine call _ hc.fair ?_
    rw[onB_v]
    refine gd_of (fun h=>⟨?_,k6⟩) (fun h=>?_)
    ·rw[Bool.not_eq_true']at h
     rw[hright,a1,a2,a3,h];rfl
    ·rw[hadd]
     exact hKE1 _ _ ⟨rfl,4,rfl,by decide,fun _=>a1,fun _=>a2,fun _=>a3,fun _=>by simpa using h⟩ (by simp[intA])
  ·have hge:i=4:=by
     have:¬ ((i:Int)<4):=dF hge
     omega
   subst hge
   rw[ldN_p (n:=8) p6 rfl]
   refine callF_ans (ans58 hc) ⟨?_,k6⟩
   rw[hright,a1 (by decide),a2 (by decide),a3 (by decide),a4 (by decide)];rfl
theorem right_c{c:Ci}:c.right=true↔(0≤c.inputs∧c.inputs≤2000)∧c.latches.length≤2000∧c.outs.length≤2000∧c.bads.length≤2000∧c.cons.length≤2000∧c.fair.length≤2000∧
    c.gr.right=true∧c.latches.all (latOk c.gr)=true∧c.outs.all c.gr.lit=true∧c.bads.all c.gr.lit=true∧c.cons.all c.gr.lit=true∧c.fair.all c.gr.lit=true∧namesB c=true:=by
 have e:∀ n:Nat,(decide (0≤(n:Int)) && decide ((n:Int)≤2000))=decide (n≤2000):=fun n=>by
  rw[decide_eq_true (by omega:0≤(n:Int)),Bool.true_and]
  exact decide_eq_decide.2 (by omega)
 simp only[Ci.right,Ci.manyL,List.all_cons,List.all_nil,e,Bool.and_eq_true,decide_eq_true_eq,Bool.and_true]
 constructor
 ·rintro⟨⟨a,b1,b2,b3,b4,b5⟩,c1,c2,c3,c4,c5,c6,c7⟩
  exact⟨a,b1,b2,b3,b4,b5,c1,c2,c3,c4,c5,c6,c7⟩
 ·rintro⟨a,b1,b2,b3,b4,b5,c1,c2,c3,c4,c5,c6,c7⟩
  exact⟨⟨a,b1,b2,b3,b4,b5⟩,c1,c2,c3,c4,c5,c6,c7⟩
theorem gd_fo{b:Bool}{A B:Prop}(h2:b=false→B)(h1:b=true→A):gd b A B:=gd_of h1 h2
theorem right_no{c:Ci}(h:¬ c.right=true):c.right=false:=by simpa using h
theorem ans28{c:Ci}(hc:c.ok):Ans Pg 28 [c.av] (aB c.right):=by
 intro S
 refine ACalls.ans_v (calls28 ?_)
 have hg:=hc.gr
 have hll:=hc.llen
 unfold m28
 refine boxA_of rfl fun S1 k1 n1 o1=>?_
 rw[ldN_p (n:=8) o1 rfl]
 refine callF_ans (ans30 c) ?_
 refine boxA_of rfl fun S2 k2 n2 o2=>?_
 refine stA_of o2 rfl rfl fun S3 n3 o3 f3=>?_
 have k3:Keep S S3:=(k1.trans k2).st (by omega) n3 f3
 have p3:S3.obj S.n=_:=(f3 _ (by omega)).trans ((k2.2 _ (by omega)).trans o1)
 rw[shift_p,ld1_p p3 rfl rfl,bin_lss,onB_v]
 refine gd_of (fun h1=>⟨?_,k3⟩) (fun h1=>?_)
 ·rw[right_no fun h=>by have:=(right_c.1 h).1;have:=dT h1;omega]
 rw[shift_p,ld1_p p3 rfl rfl,bin_gtr,onB_v]
 refine gd_of (fun h2=>⟨?_,k3⟩) (fun h2=>?_)
 ·rw[right_no fun h=>by have:=(right_c.1 h).1;have:=dT h2;omega]
 rw[shift_p,ld1_p p3 rfl rfl,lenS_pL,bin_gtr,onB_v]
 refine gd_of (fun h3=>⟨?_,k3⟩) (fun h3=>?_)
 ·rw[right_no fun h=>by have:=(right_c.1 h).2.1;have:=dT h3;omega]
 have h1:=dF h1
 have h2:=dF h2
 have h3:=dF h3
 rw[ldN_p (n:=2) o3 rfl]
 refine callF_ans (ans65 hg) ?_
 rw[un_not,onB_v]
 refine gd_of (fun h4=>⟨?_,k3⟩) (fun h4=>?_)
 ·rw[right_no fun h=>by rw[(right_c.1 h).2.2.2.2.2.2.1]at h4;cases h4]
 have h4:c.gr.right=true:=by simpa using h4
 refine loop28_0 (fun y S'=>S'=S3∧∃ i:Nat,y=aI i∧i≤c.latches.length∧∀ j (h:j<c.latches.length),j<i→latOk c.gr c.latches[j]=true)
  (fun y _=>c.latches.length - ((intA y).getD 0).toNat) ⟨rfl,0,rfl,Nat.zero_le _,fun j _ hj=>(Nat.not_lt_zero _ hj).elim⟩ ?_
 rintro _ S3 ⟨rfl,i,rfl,hi,hok⟩ KE hKE
 unfold b28_0
 rw[shift_p,ld1_p p3 rfl rfl,lenS_pL,bin_lss,onB_v]
 refine gd_of (fun hlt=>?_) (fun hge=>?_)
 ·have hlt:i<c.latches.length:=by simpa using hlt
  have hm:=List.getElem_mem hlt
  have hno:latOk c.gr c.latches[i]=false→c.right=false:=fun h=>right_no fun h'=>by
   have:=List.all_eq_true.1 (right_c.1 h').2.2.2.2.2.2.2.1 _ hm
   rw[h]at this;cases this
  have hix:∀ K:AV→Store→Prop,ixS 23 2 (pL c.latches) (aI i) S3 K=K (.q [aI c.latches[i].1,aI c.latches[i].2] 0) S3:=fun K=>ixS_pL hlt
  have hl:=(hc.lats _ hm).1
  have hnext:latOk c.gr c.latches[i]=true→KE _ (env28_0 (.p S.n 0 0) (.p S1.n 0 0) (aI (i+1:Nat))) S3:=fun h=>hKE _ _ ⟨rfl,i+1,rfl,hlt,fun j hj hj'=>by
   rcases Nat.lt_or_ge j i with h'|h'
   ·exact hok j hj h'
   ·have:j=i:=by omega
    subst this
    exact h⟩ (by simp[intA];omega)
  generalize c.latches[i]=x at *
  show ∃ q28:AV,_
  refine⟨_,by rw[ldN_p (n:=2) o3 rfl];exact⟨rfl,rfl⟩,?_⟩
  refine⟨_,by rw[shift_p];exact⟨rfl,rfl⟩,?_⟩
  refine⟨_,by rw[ld1_p p3 rfl rfl];exact⟨rfl,rfl⟩,?_⟩
  refine⟨_,by rw[hix];exact⟨rfl,rfl⟩,?_⟩
  refine⟨_,by rw[shift_q];exact⟨rfl,rfl⟩,?_⟩
  refine⟨_,by rw[ld1_qj (u:=aI x.1) rfl];exact⟨rfl,rfl⟩,?_⟩
  refine⟨_,callF_ans (ans66 hg hl) ⟨rfl,rfl⟩,?_⟩
  refine⟨_,by rw[un_not];exact⟨rfl,rfl⟩,?_⟩
  rw[onB_v]
  refine gd_of (fun h5=>?_) (fun h5=>?_)
  ·refine⟨_,⟨rfl,rfl⟩,?_⟩
   rw[onB_v,gd_true]
   refine⟨_,⟨rfl,rfl⟩,?_⟩
   rw[onB_v,gd_true]
   refine⟨?_,k3⟩
   rw[Bool.not_eq_true']at h5
   rw[hno (by simp[latOk,h5])]
  have h5:c.gr.lit x.1=true:=by simpa using h5
  refine⟨_,by rw[shift_p];exact⟨rfl,rfl⟩,?_⟩
  refine⟨_,by rw[ld1_p p3 rfl rfl];exact⟨rfl,rfl⟩,?_⟩
  refine⟨_,by rw[hix];exact⟨rfl,rfl⟩,?_⟩
  refine⟨_,by rw[shift_q];exact⟨rfl,rfl⟩,?_⟩
  refine⟨_,by rw[ld1_qj (u:=aI x.2) rfl];exact⟨rfl,rfl⟩,?_⟩
  refine⟨_,by rw[bin_lss];exact⟨rfl,rfl⟩,?_⟩
  refine⟨_,⟨rfl,rfl⟩,?_⟩
  rw[onB_v]
  refine gd_of (fun h6=>?_) (fun h6=>?_)
  ·refine⟨_,⟨rfl,rfl⟩,?_⟩
   rw[onB_v,gd_true]
   refine⟨?_,k3⟩
   have h6:=dT h6
   rw[hno (by simp[latOk,show ¬ 0≤x.2 by omega])]
  refine⟨_,by rw[shift_p];exact⟨rfl,rfl⟩,?_⟩
  refine⟨_,by rw[ld1_p p3 rfl rfl];exact⟨rfl,rfl⟩,?_⟩
  refine⟨_,by rw[hix];exact⟨rfl,rfl⟩,?_⟩
  refine⟨_,by rw[shift_q];exact⟨rfl,rfl⟩,?_⟩
  refine⟨_,by rw[ld1_qj (u:=aI x.2) rfl];exact⟨rfl,rfl⟩,?_⟩
  refine⟨_,by rw[bin_gtr];exact⟨rfl,rfl⟩,?_⟩
  refine⟨_,⟨rfl,rfl⟩,?_⟩
  rw[onB_v]
  refine gd_of (fun h7=>⟨?_,k3⟩) (fun h7=>?_)
  ·have h7:=dT h7
   rw[hno (by simp[latOk,show ¬ x.2≤2 by omega])]
  ·have hadd:∀ K:AV→Store→Prop,∀ S,bin .add 0 (.v (.int .i64 (i:Int))) (.v (.int .i64 1)) S K=K (aI (i+1:Nat)) S:=fun K S=>bin_add (by omega) (by omega) 0
   rw[hadd]
   have h6:=dF h6
   have h7:=dF h7
   exact hnext (by simp[latOk,h5,show 0≤x.2 by omega,show x.2≤2 by omega])
 ·have hge:i=c.latches.length:=by simp at hge;omega
  subst hge
  have h5:c.latches.all (latOk c.gr)=true:=by
   rw[List.all_eq_true]
   intro x hx
   obtain⟨j,hj,rfl⟩:=List.getElem_of_mem hx
   exact hok j hj hj
  rw[ldN_p (n:=2) o3 rfl,shift_p,ld1_p p3 rfl rfl]
  refine callF_ans (ans67 hg hc.outs.1 hc.outs.2) ?_
  rw[onB_v]
  refine gd_fo (fun a1=>⟨?_,k3⟩) (fun a1=>?_)
  ·rw[right_no fun h=>by simp[(right_c.1 h).2.2.2.2.2.2.2.2.1,(right_c.1 h).2.2.1]at a1]
  rw[ldN_p (n:=2) o3 rfl,shift_p,ld1_p p3 rfl rfl]
  refine callF_ans (ans67 hg hc.bads.1 hc.bads.2) ?_
  rw[onB_v]
  refine gd_fo (fun a2=>⟨?_,k3⟩) (fun a2=>?_)
  ·rw[right_no fun h=>by simp[(right_c.1 h).2.2.2.2.2.2.2.2.2.1,(right_c.1 h).2.2.2.1]at a2]
  rw[ldN_p (n:=2) o3 rfl,shift_p,ld1_p p3 rfl rfl]
  refine callF_ans (ans67 hg hc.cons.1 hc.cons.2) ?_
  rw[onB_v]
  refine gd_fo (fun a3=>⟨?_,k3⟩) (fun a3=>?_)
  ·rw[right_no fun h=>by simp[(right_c.1 h).2.2.2.2.2.2.2.2.2.2.1,(right_c.1 h).2.2.2.2.1]at a3]
  rw[ldN_p (n:=2) o3 rfl,shift_p,ld1_p p3 rfl rfl]
  refine callF_ans (ans67 hg hc.fair.1 hc.fair.2) ?_
  rw[onB_v]
  refine gd_fo (fun a4=>⟨?_,k3⟩) (fun a4=>?_)
  ·rw[right_no fun h=>by simp[(right_c.1 h).2.2.2.2.2.2.2.2.2.2.2.1,(right_c.1 h).2.2.2.2.2.1]at a4]
  rw[ldN_p (n:=8) p3 rfl]
  refine callF_ans (ans68 hc) ⟨?_,k3⟩
  rw[Bool.and_eq_true,decide_eq_true_eq]at a1 a2 a3 a4
  congr 3
  rw[Bool.eq_iff_iff]
  exact⟨fun h=>right_c.2 ⟨⟨by omega,by omega⟩,by omega,a1.2,a2.2,a3.2,a4.2,h4,h5,a1.1,a2.1,a3.1,a4.1,h⟩,fun h=>(right_c.1 h).2.2.2.2.2.2.2.2.2.2.2.2⟩
def litB(v:List Bool)(l:Int):Bool:=v.getD (l.tdiv 2).toNat false != decide (l.tmod 2=1)
def allTo(g:Gr)(ins:List Bool):Nat→List Bool
 |0=>false :: ins
 |i+1=>allTo g ins i ++ [litB (allTo g ins i) (g.ands.getD i (0,0)).1 && litB (allTo g ins i) (g.ands.getD i (0,0)).2]
@[simp] theorem allTo_len(g:Gr)(ins:List Bool):∀ i,(allTo g ins i).length=ins.length+1+i
 |0=>rfl
 |i+1=>by simp[allTo,allTo_len g ins i];omega
def allB(g:Gr)(ins:List Bool):List Bool:=if(g.right && decide ((ins.length:Int)=g.inputs))=true then allTo g ins g.ands.length else[]
theorem bitL_at{S:Store}{x:AV}{l:Int}{b:Bool}(hl:i64R l)(hx:∀ K:AV→Store→Prop,K (aB b) S→ixS 4 1 x (aI (l.tdiv 2)) S fun v S=>ld1 v S K):AnsAt Pg 112 [x,aI l] S (aB (b != decide (l.tmod 2=1))):=by
 refine calls112 ?_
 unfold m112
 rw[bin_half hl]
 refine hx _ ?_
 rw[bin_rem (by decide),bin_eql,bin_neqB]
 exact⟨rfl,rfl⟩
theorem may_at{g:Gr}(h:g.right=true){i:Nat}(hi:i<g.ands.length):2≤g.ands[i].2∧g.ands[i].2.tdiv 2<g.ands[i].1.tdiv 2∧g.ands[i].1.tdiv 2<g.inputs+1+i∧0≤g.ands[i].2.tdiv 2:=by
 have:=(right_iff.1 h).2.2.2.2.1 i hi
 rw[show g.ands.getD i (0,0)=g.ands[i]by simp[List.getD_eq_getElem?_getD,hi]]at this
 simp only[may,Bool.and_eq_true,decide_eq_true_eq]at this
 exact⟨this.1,this.2.1,this.2.2,Int.tdiv_nonneg (by omega) (by decide)⟩
theorem ix_own{n:Nat}{S:Store}{x:AV}{v:List Bool}(h:Own n S x 4 (v.map fun b=>[aB b])){z:Int}(h0:0≤z)(h1:z<v.length)(K:AV→Store→Prop)(k:K (aB (v.getD z.toNat false)) S):ixS 4 1 x (aI z) S fun v S=>ld1 v S K:=by
 obtain⟨i,rfl⟩:=Int.eq_ofNat_of_zero_le h0
 have hi:i<v.length:=by omega
 obtain⟨id,rfl,h2,h3,h4⟩:=h.ix (i:=i) (by simpa using hi)
 rw[ixS_s (by simpa using hi) h4,ld1_p h4 (by rw[Nat.zero_add,List.getElem?_map,List.getElem?_eq_getElem hi];rfl) rfl]
 rw[show(v.getD (Int.toNat i) false)=v[i]by simp[List.getD_eq_getElem?_getD,hi]]at k
 exact k
theorem ix_tree{S:Store}{v:List Bool}{z:Int}(h0:0≤z)(h1:z<v.length)(K:AV→Store→Prop)(k:K (aB (v.getD z.toNat false)) S):ixS 4 1 (aL aB v) (aI z) S fun v S=>ld1 v S K:=by
 obtain⟨i,rfl⟩:=Int.eq_ofNat_of_zero_le h0
 have hi:i<v.length:=by omega
 rw[ixS_aL hi,ld1_q]
 rw[show(v.getD (Int.toNat i) false)=v[i]by simp[List.getD_eq_getElem?_getD,hi]]at k
 exact k
def OwnL(f:FuncId)(args:List AV)(l:List Bool):Prop:=
 ∀ S,ACalls Pg f args S (fun r S'=>∃ x,r = .ret x∧Keep S S'∧Own S.n S' x 4 (l.map fun b=>[aB b]))
theorem OwnL.ans{f:FuncId}{args:List AV}{l:List Bool}(h:OwnL f args l):Ans Pg f args (aL aB l):=ACalls.ans_own (f:=fun b=>.bool b) (e:=4) h
theorem src_aL(S:Store)(l:List Bool):srcE S (aL aB l)=some (l.map fun b=>[aB b]):=rfl
theorem own111{g:Gr}(hg:g.ok){ins:List Bool}(hin:ins.length≤1000000):OwnL 111 [g.av,aL aB ins] (allB g ins):=by
 intro S
 refine calls111 ?_
 have hlen:=hg.len
 unfold m111
 refine boxA_of rfl fun S1 k1 n1 o1=>?_
 rw[ldN_p (n:=2) o1 rfl]
 refine callF_ans (ans65 hg) ?_
 rw[un_not,onB_v]
 refine gd_of (fun h1=>⟨_,rfl,k1,?_⟩) (fun h1=>?_)
 ·rw[Bool.not_eq_true']at h1
  rw[allB,h1]
  exact Own.nl _ _ _
 have h1:g.right=true:=by simpa using h1
 rw[lenS_aL,shift_p,ld1_p o1 rfl rfl,bin_neq,onB_v]
 refine gd_of (fun h2=>⟨_,rfl,k1,?_⟩) (fun h2=>?_)
 ·rw[Bool.not_eq_true']at h2
  rw[allB,h2,Bool.and_false]
  exact Own.nl _ _ _
 have h2:decide ((ins.length:Int)=g.inputs)=true:=by simpa using h2
 have h2':=dT h2
 have hres:allB g ins=allTo g ins g.ands.length:=by rw[allB,h1,h2];rfl
 have hb:∀(b:Bool) {S:Store} {K:AV→Store→Prop},K (.l [[aB b]]) S→bslN 4 1 1 [.v (.bool false)] [(0,aB b)] S K:=fun b S K k=>bsl1 rfl (fun _ h=>by cases h) k
 refine⟨[aB false],by simp[fillA,cellsOf,AV.one,Value.oneCell',spl],.inl ?_⟩
 have w2:Own S1.n (S1.new (.cells 4 (chunks 1 1 [aB false]) true)) (.s S1.n 0 1) 4 [[aB false]]:=.inr ⟨S1.n,rfl,Nat.le_refl _,by simp,by rw[new_self];rfl⟩
 have k2:Keep S1 (S1.new (.cells 4 (chunks 1 1 [aB false]) true)):=(Keep.refl _).new _
 generalize S1.new (.cells 4 (chunks 1 1 [aB false]) true)=S2 at *
 refine Own.appL w2 k2.1 (ys:=ins.map fun b=>[aB b]) (fun c hc=>by obtain⟨p,_,rfl⟩:=List.mem_map.1 hc;rfl) (by simp;omega) (fun z1 S3 w3 b3 hz3=>?_) (src_aL _ _)
 have k3:Keep S1 S3:=w2.keep (Nat.le_refl _) b3 k2
 have k3':=k1.trans k3
 refine loop111_0 (fun y z S'=>Keep S1 S'∧∃ i:Nat,z=aI i∧i≤g.ands.length∧Own S1.n S' y 4 ((allTo g ins i).map fun b=>[aB b]))
  (fun _ z _=>g.ands.length - ((intA z).getD 0).toNat) ⟨k3,0,rfl,Nat.zero_le _,w3⟩ ?_
 rintro y _ S4 ⟨k4,i,rfl,hi,w4⟩ KE hKE
 have o4:=(k4.2 S.n (by omega)).trans o1
 unfold b111_0
 rw[shift_p,ld1_p o4 rfl rfl,lenS_pL,bin_lss,onB_v]
 refine gd_of (fun hlt=>?_) (fun hge=>?_)
 ·have hlt:i<g.ands.length:=by simpa using hlt
  obtain⟨q1,q2,q3,q4⟩:=may_at h1 hlt
  have hp:=hg.pairs _ (List.getElem_mem hlt)
  have hget:g.ands.getD i (0,0)=g.ands[i]:=by simp[List.getD_eq_getElem?_getD,hlt]
  have e1:∀(c:List AV) (K:AV→Store→Prop),ixA 2 1 (.q c 0) (.v (.int .i64 1)) S4 K=K (.q c 1) S4:=fun c K=>ixA_q (z:=1) (by decide)
  have e0:∀(c:List AV) (K:AV→Store→Prop),ixA 2 1 (.q c 0) (.v (.int .i64 0)) S4 K=K (.q c 0) S4:=fun c K=>ixA_q (z:=0) (by decide)
  have hadd:∀ K:AV→Store→Prop,∀ S,bin .add 0 (.v (.int .i64 (i:Int))) (.v (.int .i64 1)) S K=K (aI (i+1:Nat)) S:=fun K S=>bin_add (by omega) (by omega) 0
  have hl4:(allTo g ins i).length=ins.length+1+i:=allTo_len g ins i
  have step:∀ b,allTo g ins (i+1)=allTo g ins i ++ [b]→appS 4 1 1 y (.l [[aB b]]) S4 fun v T=>bin .add 0 (aI i) (.v (.int .i64 1)) T fun v' T=>KE 49 (env111_0 (.p S.n 0 0) v v') T:=fun b hb=>by
   refine w4.app k4.1 (c:=[aB b]) rfl (by simp;omega) (fun z5 S5 w5 b5 hz5=>?_) rfl
   rw[hadd]
   refine hKE _ _ _ ⟨w4.keep (Nat.le_refl _) b5 k4,i+1,rfl,hlt,?_⟩ (by simp[intA];omega)
   rw[hb,List.map_append]
   exact w5
  rw[shift_p,ld1_p o4 rfl rfl,ixS_pL hlt,e0,ld1_q0]
  refine callF_at (bitL_at hp.1 (fun K k=>ix_own w4 (by omega) (by rw[hl4];omega) K k)) ?_
  rw[onB_v]
  refine gd_of (fun h3=>?_) (fun h3=>?_)
  ·rw[shift_p,ld1_p o4 rfl rfl,ixS_pL hlt,e1,ld1_q1]
   refine callF_at (bitL_at hp.2 (fun K k=>ix_own w4 (by omega) (by rw[hl4];omega) K k)) ?_
   refine hb _ (step _ ?_)
   simp only[allTo,hget,litB]
   rw[h3,Bool.true_and]
  ·refine hb _ (step _ ?_)
   simp only[allTo,hget,litB]
   rw[h3,Bool.false_and]
 ·have hge:i=g.ands.length:=by simp at hge;omega
  subst hge
  rw[hres]
  exact⟨_,rfl,k1.trans k4,w4.low (by omega)⟩
theorem allB_len{g:Gr}{ins:List Bool}:(allB g ins).length=if(g.right && decide ((ins.length:Int)=g.inputs))=true then(g.vars).toNat else 0:=by
 unfold allB
 split
 ·rename_i h
  simp only[Bool.and_eq_true,decide_eq_true_eq]at h
  rw[allTo_len]
  simp only[Gr.vars,←h.2]
  omega
 ·rfl
def Gr.eval(g:Gr)(l:Int)(ins:List Bool):Bool:=decide (0<(allB g ins).length) && (g.lit l && litB (allB g ins) l)
theorem ans71{g:Gr}(hg:g.ok){l:Int}(hl:i64R l){ins:List Bool}(hin:ins.length≤1000000):Ans Pg 71 [g.av,aI l,aL aB ins] (aB (g.eval l ins)):=by
 intro S
 refine ACalls.ans_v (calls71 ?_)
 unfold m71
 refine boxA_of rfl fun S1 k1 n1 o1=>?_
 rw[ldN_p (n:=2) o1 rfl]
 refine callF_ans (own111 hg hin).ans ?_
 rw[lenS_aL,bin_gtr,onB_v]
 refine gd_fo (fun h1=>⟨?_,k1⟩) (fun h1=>?_)
 ·have h1:=dF h1
  simp[Gr.eval,show ¬ 0<(allB g ins).length by omega]
 have h1:0<(allB g ins).length:=by have:=dT h1;omega
 rw[ldN_p (n:=2) o1 rfl]
 refine callF_ans (ans66 hg hl) ?_
 rw[onB_v]
 refine gd_fo (fun h2=>⟨?_,k1⟩) (fun h2=>?_)
 ·simp[Gr.eval,h2]
 have h3:0≤l.tdiv 2∧l.tdiv 2<(allB g ins).length:=by
  have h4:=h2
  simp only[Gr.lit,Bool.and_eq_true,decide_eq_true_eq]at h4
  have:=allB_len (g:=g) (ins:=ins)
  split at this
  ·exact⟨Int.tdiv_nonneg (by omega) (by decide),by omega⟩
  ·omega
 refine callF_at (bitL_at hl (fun K k=>ix_tree h3.1 h3.2 K k)) ⟨?_,k1⟩
 simp only[Gr.eval,h1,h2,decide_true,Bool.true_and]
 rfl
theorem and1(a:Int):IntKind.i64.wrap ((BitVec.ofInt 64 a &&& BitVec.ofInt 64 1).toNat:Nat)=a % 2:=by
 have h1:(BitVec.ofInt 64 1).toNat=1:=by decide
 rw[BitVec.toNat_and,h1,Nat.and_one_is_mod,BitVec.toNat_ofInt,wrap64 (by omega) (by omega)]
 omega
theorem bin_and1{a:Int}{S:Store}{K:AV→Store→Prop}:bin .and 0 (aI a) (.v (.int .i64 1)) S K=K (aI (a % 2)) S:=by
 show bin .and 0 (.v (.int .i64 a)) (.v (.int .i64 1)) S K=_
 have:b2 .and 0 (.int .i64 a) (.int .i64 1)=some (.int .i64 (a % 2)):=by
  rw[←and1 a];rfl
 show optP (b2 .and 0 (.int .i64 a) (.int .i64 1)) _=_
 rw[this,optP_some]
theorem bin_shr1{a:Int}(h:0≤a){S:Store}{K:AV→Store→Prop}:bin .shr 0 (aI a) (.v (.int .u64 1)) S K=K (aI (a.tdiv 2)) S:=by
 rw[bin_shr (by decide)]
 have:a.fdiv (2 ^ min (Int.toNat 1) IntKind.i64.bits)=a.tdiv 2:=by
  show a.fdiv 2=_
  rw[Int.fdiv_eq_ediv_of_nonneg _ (by decide),Int.tdiv_eq_ediv_of_nonneg h]
 rw[this]
theorem at123{S:Store}{fid t n:Nat}{x:AV}{v:List Bool}{l:Int}(h0:0≤l)(h1:l.tdiv 2<v.length)(hf:S.obj fid=some (.cells t [[x]] true))(hx:Own n S x 4 (v.map fun b=>[aB b])):
    AnsAt Pg 123 [aI l,.p fid 0 0] S (aB (litB v l)):=by
 refine calls123 ?_
 unfold m123
 rw[ld1_p hf rfl rfl,bin_shr1 h0]
 refine ix_own hx (Int.tdiv_nonneg h0 (by decide)) h1 _ ?_
 rw[bin_and1,bin_eql,bin_neqB]
 refine⟨?_,rfl⟩
 rw[litB,show l.tmod 2=l % 2 from Int.tmod_eq_emod_of_nonneg h0]
theorem mkN_lc{e b l c:Nat}{zc:List AV}(hl:l≤c)(hb:b*c≤281474976710656)(hn:c≤9223372036854775807){S:Store}{K:AV→Store→Prop}:mkN e b zc (aI l) (aI c) S K=K (.s S.n 0 l) (S.new (.cells e (List.replicate l zc) true)):=by
 have h1:(b:Int)*c≤281474976710656:=by
  have h:=Int.ofNat_le.2 hb
  rw[Int.natCast_mul]at h
  omega
 have h2:(c:Int)≤9223372036854775807:=by omega
 have h0:(0:Int)≤l:=by omega
 have h3:(l:Int)≤c:=by omega
 simp only[mkN,intA,optP_some,h0,h1,h2,h3,Int.toNat_natCast,and_self,true_and]
theorem own_keep{n:Nat}{S T:Store}{x:AV}{e:Nat}{es:List (List AV)}(h:Own n S x e es)(k:Keep S T):Own n T x e es:=by
 rcases h with h|⟨id,h1,h2,h3,h4⟩
 ·exact .inl h
 ·exact .inr ⟨id,h1,h2,Nat.lt_of_lt_of_le h3 k.1,(k.2 _ h3).trans h4⟩
theorem own_at108{g:Gr}(hg:g.ok){ins:List Bool}(hin:ins.length≤1000000){S:Store}{xi:AV}(hlx:∀(T:Store) (K:AV→Store→Prop),lenS xi T K=K (aI ins.length) T)(hsx:∀ T,Keep S T→srcE T xi=some (ins.map fun b=>[aB b])):
    ACalls Pg 108 [g.av,xi] S (fun r S'=>∃ x,r = .ret x∧Keep S S'∧Own S.n S' x 4 ((allB g ins).map fun b=>[aB b])):=by
 refine calls108 ?_
 have hlen:=hg.len
 unfold m108
 refine boxA_of rfl fun S1 k1 n1 o1=>?_
 rw[ldN_p (n:=2) o1 rfl]
 refine callF_ans (ans55 hg) ?_
 rw[un_not,onB_v]
 refine gd_of (fun h1=>⟨_,rfl,k1,?_⟩) (fun h1=>?_)
 ·rw[Bool.not_eq_true']at h1
  rw[allB,h1]
  exact Own.nl _ _ _
 have h1:g.right=true:=by simpa using h1
 rw[hlx,shift_p,ld1_p o1 rfl rfl,bin_neq,onB_v]
 refine gd_of (fun h2=>⟨_,rfl,k1,?_⟩) (fun h2=>?_)
 ·rw[Bool.not_eq_true']at h2
  rw[allB,h2,Bool.and_false]
  exact Own.nl _ _ _
 have h2:decide ((ins.length:Int)=g.inputs)=true:=by simpa using h2
 have h2':=dT h2
 have hres:allB g ins=allTo g ins g.ands.length:=by rw[allB,h1,h2];rfl
 rw[shift_p,ld1_p o1 rfl rfl,bin_add (by omega) (by omega),shift_p,ld1_p o1 rfl rfl,lenS_pL,bin_add (by omega) (by omega)]
 have hcap:g.inputs+1+(g.ands.length:Int)=((ins.length+1+g.ands.length:Nat):Int):=by omega
 rw[hcap]
 have hmk:∀{K:AV→Store→Prop},mkN 4 1 [.v (.bool false)] (.v (.int .i64 1)) (aI ((ins.length+1+g.ands.length:Nat):Int)) S1 K=K (.s S1.n 0 1) (S1.new (.cells 4 (List.replicate 1 [.v (.bool false)]) true)):=mkN_lc (l:=1) (by omega) (by omega) (by omega)
 rw[hmk]
 have w2:Own S1.n (S1.new (.cells 4 (List.replicate 1 [.v (.bool false)]) true)) (.s S1.n 0 1) 4 [[aB false]]:=.inr ⟨S1.n,rfl,Nat.le_refl _,by simp,by rw[new_self];rfl⟩
 have k2:Keep S1 (S1.new (.cells 4 (List.replicate 1 [.v (.bool false)]) true)):=(Keep.refl _).new _
 have n2:(S1.new (.cells 4 (List.replicate 1 [.v (.bool false)]) true)).n=S1.n+1:=rfl
 generalize S1.new (.cells 4 (List.replicate 1 [.v (.bool false)]) true)=S2 at *
 refine box1_of rfl fun S3 k3 n3 o3=>?_
 refine st_of o3 rfl rfl fun S4 n4 o4 f4=>?_
 have k4:Keep S1 S4:=(k2.trans k3).st (by omega) n4 f4
 have w4:Own S1.n S4 (.s S1.n 0 1) 4 [[aB false]]:=(own_keep w2 k3).st (id:=S2.n) (fun b m e=>by injection e;omega) n4 f4
 rw[ld1_p o4 rfl rfl]
 refine Own.appL w4 k4.1 (ys:=ins.map fun b=>[aB b]) (fun c hc=>by obtain⟨p,_,rfl⟩:=List.mem_map.1 hc;rfl) (by simp;omega) (fun z1 S5 w5 b5 hz5=>?_) (hsx _ (k1.trans k4))
 have k5:Keep S1 S5:=w4.keep (Nat.le_refl _) b5 k4
 have o5:=(b5.2 S2.n (by omega) (fun b m e=>by injection e;omega)).trans o4
 have m5:=b5.1
 have z5:∀ b m,z1≠.s S2.n b m:=fun b m e=>by
  rcases hz5 with h|⟨m',h⟩
  ·rw[h]at e;injection e;omega
  ·rw[h]at e;injection e;omega
 refine st_of o5 rfl (by rcases w5 with⟨h,_⟩|⟨_,h,_⟩<;>rw[h]<;>rfl) fun S6 n6 o6 f6=>?_
 have k6:Keep S1 S6:=k5.st (by omega) n6 f6
 have w6:=w5.st (id:=S2.n) z5 n6 f6
 have p6:=(k6.2 S.n (by omega)).trans o1
 rw[shift_p,ld1_p p6 rfl rfl,lenS_pL]
 refine loop108_0 (fun y S'=>Keep S1 S'∧S2.n<S'.n∧∃ i:Nat,y=aI i∧i≤g.ands.length∧∃ z,S'.obj S2.n=some (.cells 87 [[z]] true)∧(∀ b m,z≠.s S2.n b m)∧Own S1.n S' z 4 ((allTo g ins i).map fun b=>[aB b]))
  (fun y _=>g.ands.length - ((intA y).getD 0).toNat) ⟨k6,by omega,0,rfl,Nat.zero_le _,z1,o6,z5,w6⟩ ?_
 rintro _ S7 ⟨k7,n7,i,rfl,hi,z,o7,hz,w7⟩ KE hKE
 unfold b108_0
 rw[bin_lss,onB_v]
 refine gd_of (fun hlt=>?_) (fun hge=>?_)
 ·have hlt:i<g.ands.length:=by simpa using hlt
  obtain⟨q1,q2,q3,q4⟩:=may_at h1 hlt
  have hp:=hg.pairs _ (List.getElem_mem hlt)
  have hget:g.ands.getD i (0,0)=g.ands[i]:=by simp[List.getD_eq_getElem?_getD,hlt]
  have hl4:(allTo g ins i).length=ins.length+1+i:=allTo_len g ins i
  rw[ixS_pL hlt,ldN_q2]
  generalize g.ands[i]=p at *
  refine boxA_of rfl fun S8 k8 n8 o8=>?_
  refine stA_of o8 rfl rfl fun S9 n9 o9 f9=>?_
  have k9:Keep S7 S9:=k8.st (Nat.le_refl _) n9 f9
  have w9:Own S1.n S9 z 4 _:=own_keep w7 k9
  have v9:=(k9.2 S2.n n7).trans o7
  have e1:∀(T:Store) (K:AV→Store→Prop),ixA 2 1 (.p S7.n 0 0) (.v (.int .i64 1)) T K=K (.p S7.n 0 1) T:=fun T K=>ixA_p (z:=1) (by decide)
  have e0:∀(T:Store) (K:AV→Store→Prop),ixA 2 1 (.p S7.n 0 0) (.v (.int .i64 0)) T K=K (.p S7.n 0 0) T:=fun T K=>ixA_p (z:=0) (by decide)
  have hadd:∀ K:AV→Store→Prop,∀ S,bin .add 0 (.v (.int .i64 (i:Int))) (.v (.int .i64 1)) S K=K (aI (i+1:Nat)) S:=fun K S=>bin_add (by omega) (by omega) 0
  have hp1:0≤p.1:=by
   rcases Int.le_total 0 p.1 with h|h
   ·exact h
   ·have:p.1.tdiv 2≤0:=by
      rw[show p.1.tdiv 2 = -((-p.1).tdiv 2)by rw[Int.neg_tdiv,Int.neg_neg],Int.tdiv_eq_ediv_of_nonneg (by omega)]
      omega
    omega
  have m9:S9.n=S7.n+1:=by omega
  have step:∀ b,allTo g ins (i+1)=allTo g ins i ++ [b]→appS 4 1 1 z (.l [[aB b]]) S9 fun v T=>stN 1 (.p S2.n 0 0) v T fun _ T=>bin .add 0 (aI i) (.v (.int .i64 1)) T fun v' T=>KE 53 (env108_0 (.p S2.n 0 0) (.f (.func 123) [] [.p S2.n 0 0]) (pL g.ands) (aI g.ands.length) v') T:=fun b hb=>by
   refine w9.app (by have:=k7.1;omega) (c:=[aB b]) rfl (by simp;omega) (fun zz T1 wT bT hzT=>?_) rfl
   have kT:Keep S1 T1:=w9.keep (Nat.le_refl _) bT (k7.trans k9)
   have oT:=(bT.2 S2.n (by omega) (fun b m=>hz b m)).trans v9
   have mT:=bT.1
   have hzz:∀ b m,zz≠.s S2.n b m:=fun b m e=>by
    obtain⟨m',h⟩:=hzT
    rw[h]at e;injection e;omega
   refine st_of oT rfl (by rcases wT with⟨h,_⟩|⟨_,h,_⟩<;>rw[h]<;>rfl) fun T2 nT o2 f2=>?_
   rw[hadd]
   refine hKE _ _ ⟨kT.st (by omega) nT f2,by omega,i+1,rfl,hlt,zz,o2,hzz,?_⟩ (by simp[intA];omega)
   rw[hb,List.map_append]
   exact wT.st (id:=S2.n) hzz nT f2
  refine⟨_,fun T hT=>by rw[ld1_p ((hT.2 _ (by omega)).trans v9) rfl rfl];exact⟨rfl,rfl⟩,_,fun T hT=>by rw[e0];exact⟨rfl,rfl⟩,_,fun T hT=>by rw[ld1_p ((hT.2 _ (by omega)).trans o9) rfl rfl];exact⟨rfl,rfl⟩,
   _,fun T hT=>callV_at (at123 hp1 (by rw[hl4];omega) ((hT.2 _ (by omega)).trans v9) (own_keep w9 hT)) ⟨rfl,rfl⟩,?_⟩
  rw[onB_v]
  refine gd_of (fun h3=>?_) (fun h3=>?_)
  ·refine⟨_,fun T hT=>by rw[e1];exact⟨rfl,rfl⟩,_,fun T hT=>by rw[ld1_p ((hT.2 _ (by omega)).trans o9) rfl rfl];exact⟨rfl,rfl⟩,
     _,fun T hT=>callV_at (at123 (by omega) (by rw[hl4];omega) ((hT.2 _ (by omega)).trans v9) (own_keep w9 hT)) ⟨rfl,rfl⟩,_,fun T hT=>⟨rfl,rfl⟩,_,fun T hT=>bsl1 rfl (fun _ h=>by cases h) ⟨rfl,rfl⟩,?_⟩
   refine step _ ?_
   simp only[allTo,hget]
   rw[h3,Bool.true_and]
  ·refine⟨_,fun T hT=>⟨rfl,rfl⟩,_,fun T hT=>bsl1 rfl (fun _ h=>by cases h) ⟨rfl,rfl⟩,?_⟩
   refine step _ ?_
   simp only[allTo,hget]
   rw[h3,Bool.false_and]
 ·have hge:i=g.ands.length:=by simp at hge;omega
  subst hge
  rw[hres,ld1_p o7 rfl rfl]
  exact⟨_,rfl,k1.trans k7,w7.low (by omega)⟩
theorem ans_own_at{α:Type}{f:α→Value}{P:Program}{fn:FuncId}{args:List AV}{S:Store}{e:Nat}{l:List α}(h:ACalls P fn args S (fun r S'=>∃ x,r = .ret x∧Keep S S'∧Own S.n S' x e (l.map fun a=>[.v (f a)]))):AnsAt P fn args S (aL (fun a=>.v (f a)) l):=
 ACalls.tree (h.mono fun r S' ⟨x,h1,h2,h3⟩=>⟨x,h1,h2,h3.cv_v⟩)
def bitN(n:Int)(i:Nat):Bool:=decide (n.fdiv (2 ^ i) % 2=1)
def bitsL(n:Int)(many:Nat):List Bool:=(List.range many).map (bitN n)
@[simp] theorem bitsL_len(n:Int)(m:Nat):(bitsL n m).length=m:=by simp[bitsL]
theorem bitsL_succ(n:Int)(m:Nat):bitsL n (m+1)=bitsL n m ++ [bitN n m]:=by simp[bitsL,List.range_succ]
theorem bin_shrN{a:Int}{i:Nat}(h:i≤64){S:Store}{K:AV→Store→Prop}:bin .shr 0 (aI a) (aI i) S K=K (aI (a.fdiv (2 ^ i))) S:=by
 rw[bin_shr (by omega),show min (Int.toNat i) IntKind.i64.bits=i by rw[Int.toNat_natCast];exact Nat.min_eq_left h]
theorem own72(s:Int){m:Nat}(hm:m≤64):OwnL 72 [aI s,aI m] (bitsL s m):=by
 intro S
 refine calls72 ?_
 unfold m72
 refine loop72_0 (fun y z S'=>Keep S S'∧∃ i:Nat,z=aI i∧i≤m∧Own S.n S' y 4 ((bitsL s i).map fun b=>[aB b]))
  (fun _ z _=>m - ((intA z).getD 0).toNat) ⟨Keep.refl _,0,rfl,Nat.zero_le _,Own.nl _ _ _⟩ ?_
 rintro y _ S1 ⟨k1,i,rfl,hi,w1⟩ KE hKE
 unfold b72_0
 rw[bin_lss,onB_v]
 refine gd_of (fun hlt=>?_) (fun hge=>?_)
 ·have hlt:i<m:=by simpa using hlt
  rw[bin_shrN (by omega),bin_and1,bin_eql]
  refine bsl1 rfl (fun _ h=>by cases h) ?_
  refine w1.app k1.1 (c:=[aB (bitN s i)]) rfl (by simp;omega) (fun z5 S5 w5 b5 hz5=>?_) rfl
  have hadd:∀ K:AV→Store→Prop,∀ S,bin .add 0 (.v (.int .i64 (i:Int))) (.v (.int .i64 1)) S K=K (aI (i+1:Nat)) S:=fun K S=>bin_add (by omega) (by omega) 0
  rw[hadd]
  refine hKE _ _ _ ⟨w1.keep (Nat.le_refl _) b5 k1,i+1,rfl,hlt,?_⟩ (by simp[intA];omega)
  rw[bitsL_succ,List.map_append]
  exact w5
 ·have hge:i=m:=by simp at hge;omega
  subst hge
  exact⟨_,rfl,k1,w1⟩
def isB (c:Ci) (s l:Int):Bool:=c.right && (decide (c.gr.inputs≤60) && c.gr.eval l (bitsL s c.gr.inputs.toNat))
theorem part10{x:AV}{l:List AV}{S:Store}{K:AV→Store→Prop}:part1 (.a (x :: l)) 0 S K=K x S:=by simp[part1,partA]
theorem gr_inp{c:Ci}(h:c.right=true):c.gr.inputs=c.inputs+c.latches.length∧0≤c.gr.inputs∧c.gr.inputs≤2000:=by
 obtain⟨⟨h1,h2⟩,h3,_,_,_,_,h4,_⟩:=right_c.1 h
 have h5:=right_iff.1 h4
 refine⟨?_,h5.1,h5.2.1⟩
 show IntKind.i64.wrap (c.inputs+c.latches.length)=_
 exact wrap64 (by omega) (by omega)
theorem ans33{c:Ci}(hc:c.ok){s l:Int}(hl:i64R l):Ans Pg 33 [c.av,aI s,aI l] (aB (isB c s l)):=by
 intro S
 refine ACalls.ans_v (calls33 ?_)
 unfold m33
 refine boxA_of rfl fun S1 k1 n1 o1=>?_
 rw[ldN_p (n:=8) o1 rfl]
 refine callF_ans (ans28 hc) ?_
 rw[un_not,onB_v]
 refine gd_of (fun h1=>⟨?_,k1⟩) (fun h1=>?_)
 ·rw[Bool.not_eq_true']at h1
  simp[isB,h1]
 have h1:c.right=true:=by simpa using h1
 obtain⟨g1,g2,g3⟩:=gr_inp h1
 rw[ldN_p (n:=8) o1 rfl]
 refine callF_ans (ans30 c) ?_
 unfold Gr.av Gr.cells
 rw[part10,bin_gtr,onB_v]
 refine gd_of (fun h2=>⟨?_,k1⟩) (fun h2=>?_)
 ·have h2:=dT h2
  simp[isB,show ¬ c.gr.inputs≤60 by omega]
 have h2:=dF h2
 obtain⟨m,hm⟩:=Int.eq_ofNat_of_zero_le g2
 show ∃ q11:AV,_
 refine⟨_,by rw[ldN_p (n:=8) o1 rfl];exact⟨rfl,rfl⟩,?_⟩
 refine⟨_,callF_ans (ans30 c) ⟨rfl,rfl⟩,?_⟩
 refine⟨_,by rw[ldN_p (n:=8) o1 rfl];exact⟨rfl,rfl⟩,?_⟩
 refine⟨_,callF_ans (ans30 c) ⟨rfl,rfl⟩,?_⟩
 refine⟨aI m,by unfold Gr.av Gr.cells;rw[part10,hm];exact⟨rfl,rfl⟩,?_⟩
 refine⟨_,callF_ans (own72 s (by omega)).ans ⟨rfl,rfl⟩,?_⟩
 refine⟨_,callF_ans (ans71 hc.gr hl (ins:=bitsL s m) (by simp;omega)) ⟨rfl,rfl⟩,?_⟩
 refine⟨?_,k1⟩
 simp only[isB,h1,Bool.true_and,show c.gr.inputs≤60 by omega,decide_true]
 rw[hm,Int.toNat_natCast]
def afterTo (c:Ci) (s:Int):Nat→Int
 |0=>0
 |i+1=>if isB c s (c.latches.getD i (0,0)).1=true then afterTo c s i+2 ^ (c.inputs.toNat+i)else afterTo c s i
def afterB (c:Ci) (s:Int):Int:=if(c.right && decide (c.gr.inputs≤60))=true then afterTo c s c.latches.length else 0
theorem afterTo_le(c:Ci)(s:Int):∀ i,0≤afterTo c s i∧afterTo c s i<2 ^ (c.inputs.toNat+i)
 |0=>⟨Int.le_refl _,Int.pow_pos (by decide)⟩
 |i+1=>by
  have⟨h1,h2⟩:=afterTo_le c s i
  have h3:(2:Int) ^ (c.inputs.toNat+(i+1))=2*2 ^ (c.inputs.toNat+i):=by rw[←Nat.add_assoc,Int.pow_succ];omega
  have h4:(0:Int)<2 ^ (c.inputs.toNat+i):=Int.pow_pos (by decide)
  unfold afterTo
  split<;>constructor<;>omega
theorem pow_le60{n:Nat}(h:n≤60):(2:Int) ^ n≤1152921504606846976:=by
 have h1:2 ^ n≤2 ^ 60:=Nat.pow_le_pow_right (by decide) h
 have h2:((2 ^ n:Nat):Int)≤((2 ^ 60:Nat):Int):=Int.ofNat_le.2 h1
 rw[Int.natCast_pow]at h2
 exact h2
theorem bin_shl1{i:Nat}(h:i≤60){S:Store}{K:AV→Store→Prop}:bin .shl 0 (.v (.int .i64 1)) (aI i) S K=K (aI (2 ^ i)) S:=by
 have h2:¬ ((i:Int)<0):=by omega
 have h3:min (Int.toNat i) IntKind.i64.bits=i:=by rw[Int.toNat_natCast];exact Nat.min_eq_left (by show i≤64;omega)
 have h4:=pow_le60 h
 have h5:(0:Int)<2 ^ i:=Int.pow_pos (by decide)
 show optP (b2 .shl 0 (.int .i64 1) (.int .i64 i)) _=_
 have:b2 .shl 0 (.int .i64 1) (.int .i64 i)=some (.int .i64 (2 ^ i)):=by
  simp only[b2,isSh,shI,if_neg h2,h3,Int.one_mul]
  rw[wrap64 (by omega) (by omega)]
  rfl
 rw[this,optP_some]
theorem ans34{c:Ci}(hc:c.ok)(s:Int):Ans Pg 34 [c.av,aI s] (aI (afterB c s)):=by
 intro S
 refine ACalls.ans_v (calls34 ?_)
 have hll:=hc.llen
 unfold m34
 refine boxA_of rfl fun S1 k1 n1 o1=>?_
 rw[ldN_p (n:=8) o1 rfl]
 refine callF_ans (ans28 hc) ?_
 rw[un_not,onB_v]
 refine gd_of (fun h1=>⟨?_,k1⟩) (fun h1=>?_)
 ·rw[Bool.not_eq_true']at h1
  simp[afterB,h1]
 have h1:c.right=true:=by simpa using h1
 obtain⟨g1,g2,g3⟩:=gr_inp h1
 have hin:=(right_c.1 h1).1
 rw[ldN_p (n:=8) o1 rfl]
 refine callF_ans (ans30 c) ?_
 unfold Gr.av Gr.cells
 rw[part10,bin_gtr,onB_v]
 refine gd_of (fun h2=>⟨?_,k1⟩) (fun h2=>?_)
 ·have h2:=dT h2
  simp[afterB,show ¬ c.gr.inputs≤60 by omega]
 have h2:=dF h2
 have hres:afterB c s=afterTo c s c.latches.length:=by
  simp only[afterB,h1,Bool.true_and,show c.gr.inputs≤60 by omega,decide_true,if_true]
 obtain⟨m,hm⟩:=Int.eq_ofNat_of_zero_le hin.1
 refine loop34_0 (fun y z S'=>S'=S1∧∃ i:Nat,z=aI i∧i≤c.latches.length∧y=aI (afterTo c s i))
  (fun _ z _=>c.latches.length - ((intA z).getD 0).toNat) ⟨rfl,0,rfl,Nat.zero_le _,rfl⟩ ?_
 rintro _ _ S1 ⟨rfl,i,rfl,hi,rfl⟩ KE hKE
 unfold b34_0
 rw[shift_p,ld1_p o1 rfl rfl,lenS_pL,bin_lss,onB_v]
 refine gd_of (fun hlt=>?_) (fun hge=>?_)
 ·have hlt:i<c.latches.length:=by simpa using hlt
  have hget:c.latches.getD i (0,0)=c.latches[i]:=by simp[List.getD_eq_getElem?_getD,hlt]
  have hadd:∀ K:AV→Store→Prop,∀ S,bin .add 0 (.v (.int .i64 (i:Int))) (.v (.int .i64 1)) S K=K (aI (i+1:Nat)) S:=fun K S=>bin_add (by omega) (by omega) 0
  have hμ:c.latches.length - ((intA (aI (i+1:Nat))).getD 0).toNat<c.latches.length - ((intA (aI i)).getD 0).toNat:=by simp[intA];omega
  show ∃ q16:AV,_
  refine⟨_,by rw[ldN_p (n:=8) o1 rfl];exact⟨rfl,rfl⟩,?_⟩
  refine⟨_,by rw[shift_p];exact⟨rfl,rfl⟩,?_⟩
  refine⟨_,by rw[ld1_p o1 rfl rfl];exact⟨rfl,rfl⟩,?_⟩
  refine⟨_,by rw[ixS_pL hlt];exact⟨rfl,rfl⟩,?_⟩
  refine⟨_,by rw[shift_q];exact⟨rfl,rfl⟩,?_⟩
  refine⟨_,by rw[ld1_qj (u:=aI c.latches[i].1) rfl];exact⟨rfl,rfl⟩,?_⟩
  refine⟨_,callF_ans (ans33 hc (hc.lats _ (List.getElem_mem hlt)).1) ⟨rfl,rfl⟩,?_⟩
  rw[onB_v]
  refine gd_of (fun h3=>?_) (fun h3=>?_)
  ·have hb:=afterTo_le c s i
   have hp:=pow_le60 (n:=c.inputs.toNat+i) (by omega)
   rw[shift_p,ld1_p o1 rfl rfl,bin_add (by omega) (by omega)]
   have e:c.inputs+(i:Int)=((c.inputs.toNat+i:Nat):Int):=by omega
   rw[e,bin_shl1 (by omega),bin_add (by omega) (by omega),hadd]
   exact hKE _ _ _ ⟨rfl,i+1,rfl,hlt,by rw[afterTo,hget,if_pos h3]⟩ hμ
  ·rw[hadd]
   exact hKE _ _ _ ⟨rfl,i+1,rfl,hlt,by rw[afterTo,hget,h3];rfl⟩ hμ
 ·have hge:i=c.latches.length:=by simp at hge;omega
  subst hge
  rw[hres]
  exact⟨rfl,k1⟩
theorem orN{a b:Nat}(ha:a<4611686018427387904)(hb:b<4611686018427387904)(h:a ||| b<4611686018427387904){S:Store}{K:AV→Store→Prop}:bin .or 0 (aI a) (aI b) S K=K (aI (a ||| b:Nat)) S:=by
 show optP (b2 .or 0 (.int .i64 a) (.int .i64 b)) _=_
 have:b2 .or 0 (.int .i64 a) (.int .i64 b)=some (.int .i64 (a ||| b:Nat)):=by
  show(some (Int.ofNat 0)).bind (fun _=>some (Value.int .i64 (IntKind.i64.wrap (BitVec.ofInt 64 a ||| BitVec.ofInt 64 b).toNat)))=_
  have h1:(BitVec.ofInt 64 (a:Int)).toNat=a:=by rw[BitVec.toNat_ofInt];omega
  have h2:(BitVec.ofInt 64 (b:Int)).toNat=b:=by rw[BitVec.toNat_ofInt];omega
  rw[BitVec.toNat_or,h1,h2,wrap64 (by omega) (by omega)]
  rfl
 rw[this,optP_some]
theorem or_add{k q b:Nat}(h:b<2 ^ k):2 ^ k*q ||| b=2 ^ k*q+b:=(Nat.two_pow_add_eq_or_of_lt h q).symm
theorem two_le60{n:Nat}(h:n≤60):2 ^ n≤1152921504606846976:=Nat.pow_le_pow_right (by decide) h
theorem bin_or_pow{a:Int}{k:Nat}(h0:0≤a)(h1:a<2 ^ k)(hk:k≤60){S:Store}{K:AV→Store→Prop}:bin .or 0 (aI a) (aI (2 ^ k)) S K=K (aI (a+2 ^ k)) S:=by
 obtain⟨n,rfl⟩:=Int.eq_ofNat_of_zero_le h0
 have hp:=two_le60 hk
 have e:((2:Int) ^ k)=((2 ^ k:Nat):Int):=by rw[Int.natCast_pow];rfl
 rw[e]at h1 ⊢
 have hn:n<2 ^ k:=by omega
 have ho:n ||| 2 ^ k=n+2 ^ k:=by
  rw[Nat.or_comm]
  have:=or_add (k:=k) (q:=1) hn
  rw[Nat.mul_one]at this
  rw[this];omega
 rw[orN (by omega) (by omega) (by rw[ho];omega),ho,Int.natCast_add]
section
variable {c:Ci} {vals:List (List Bool)} {n mid t:Nat} {S:Store}
end
theorem set_range{α:Type}{n i:Nat}{f f':Nat→α}(hi:i<n)(h:∀ k,k≠i→f' k=f k):((List.range n).map f).set i (f' i)=(List.range n).map f':=by
 apply List.ext_getElem
 ·simp
 ·intro k h1 h2
  rw[List.getElem_set]
  split
  ·rename_i e
   subst e
   simp
  ·rename_i e
   simp[h k (fun h=>e h.symm)]
section
variable {c:Ci} {vals:List (List Bool)} {n mid t:Nat} {S:Store}
end
section
variable {c:Ci} {vals:List (List Bool)} {n mid t:Nat} {S:Store}
end
inductive Fo where
 |mk (kind:Int) (name:ByteArray) (lit:Int) (kids:List Fo)
mutual
def Fo.row:Fo→List AV
 |.mk k n l ks=>[aI k,.v (.string n),aI l,.l (Fo.rows ks)]
def Fo.rows:List Fo→List (List AV)
 |[]=>[]
 |f :: fs=>Fo.row f :: Fo.rows fs
end
def foL(l:List Fo):AV:=.l (l.map Fo.row)
@[simp] theorem lenS_foL(l:List Fo){S:Store}{K:AV→Store→Prop}:lenS (foL l) S K=K (aI l.length) S:=by simp[foL]
theorem ldN_q{c:List AV}{n:Nat}{S:Store}{K:AV→Store→Prop}(h:c.length=n):ldN n (.q c 0) S K=K (.a c) S:=by
 subst h
 simp[ldN,rdN,place]
def bit(p:List Bool)(i:Nat):Bool:=p.getD i false
def nx(s:Sp)(i:Nat):List Int:=s.next.getD i []
def tab{α:Type}(n:Nat)(f:Nat→α):List α:=(List.range n).map f
@[simp] theorem tab_len{α:Type}(n:Nat)(f:Nat→α):(tab n f).length=n:=by simp[tab]
def exP(s:Sp)(p:List Bool):List Bool:=tab p.length fun i=>bit s.valid i && (nx s i).any fun k=>bit p k.toNat
def andP(a b:List Bool):List Bool:=tab a.length fun i=>bit a i && bit b i
inductive Reach (s:Sp) (p q:List Bool):Nat→Prop
 |base (i:Nat) (h1:bit q i=true) (h2:bit s.valid i=true):Reach s p q i
 |step (i k:Nat) (h1:bit p i=true) (h2:bit s.valid i=true) (h3:(k:Int)∈nx s i) (h:Reach s p q k):Reach s p q i
open Classical in
def euP (s:Sp) (p q:List Bool):List Bool:=tab q.length fun i=>decide (Reach s p q i)
@[simp] theorem andP_len(a b:List Bool):(andP a b).length=a.length:=by simp[andP]
@[simp] theorem exP_len(s:Sp)(p:List Bool):(exP s p).length=p.length:=by simp[exP]
@[simp] theorem euP_len(s:Sp)(p q:List Bool):(euP s p q).length=q.length:=by simp[euP]
def Sub(a b:List Bool):Prop:=∀ i,bit a i=true→bit b i=true
def stepP (s:Sp) (z f:List Bool):List Bool:=andP z (exP s (euP s z (andP z f)))
@[simp] theorem stepP_len(s:Sp)(z f:List Bool):(stepP s z f).length=z.length:=by simp[stepP]
def Stay(s:Sp)(fs:List (List Bool))(z:List Bool):Prop:=∀ f∈fs,Sub z (stepP s z f)
def fairL(s:Sp):List (List Bool):=if s.fair.isEmpty then[s.valid]else s.fair
def InEG(s:Sp)(p:List Bool)(i:Nat):Prop:=∃ z:List Bool,z.length=p.length∧Sub z (andP p s.valid)∧Stay s (fairL s) z∧bit z i=true
open Classical in
def egP (s:Sp) (p:List Bool):List Bool:=tab p.length fun i=>decide (InEG s p i)
@[simp] theorem egP_len(s:Sp)(p:List Bool):(egP s p).length=p.length:=by simp[egP]
def orP(a b:List Bool):List Bool:=tab a.length fun i=>bit a i || bit b i
@[simp] theorem orP_len(a b:List Bool):(orP a b).length=a.length:=by simp[orP]
section
set_option maxRecDepth 100000
def c17:Code:=(Tryz.f17.body).getD .skip
def r17:List ResultVar:=Tryz.f17.results.toList
def env17_0(y2 y4 y5 y6 y7 y8:AV):List AV:=[y2,y4,y5,y6,y7,y8]
def lv17_0:List Nat:=[2,4,5,6,7,8]
def lv17_1:List Nat:=[2,4,5,6,10,11,12]
def lv17_2:List Nat:=[2,4,5,11,14]
def lv17_3:List Nat:=[2,4,5,11,15]
def ms17:List (List Nat):=[lv17_0,lv17_1,lv17_2,lv17_3,[0]]
def m17(x0:AV)(S:Store)(Q:PoT):Prop:=
 boxN 42 1 x0 S fun c S=>boxN 29 8 (.a [.v (.int .i64 0),.nl,.nl,.nl,.nl,.nl,.nl,.nl]) S fun d S=>boxN 3 1 (.v (.int .i64 0)) S fun e S=>stN 1 e (.v (.int .i64 0)) S fun g S=>boxN 29 8 (.a [.v (.int .i64 0),.nl,.nl,.nl,.nl,.nl,.nl,.nl]) S fun h S=>callV Pg (.f (.func 43) [] [e,c]) [.v (.int .i64 4)] S (fun i S=>shift h 0 S fun k S=>stN 1 k i S fun l S=>callV Pg (.f (.func 43) [] [e,c]) [.v (.int .i64 3)] S (fun m S=>bin .add 0 (.v (.int .i64 1)) m S fun n S=>callV Pg (.f (.func 43) [] [e,c]) [.v (.int .i64 9)] S (fun o S=>loopV lv17_0 (vc Pg (c17.at_ [1,1,1,1,1,1,1,0,1,0,0]) (ms17.drop 1)) 156 (env17_0 d (.f (.func 43) [] [e,c]) h n .nl o) S (blockK 0 (seqK (vc Pg (c17.at_ [1,1,1,1,1,1,1,1]) (ms17.drop 1)) (bodyK Pg r17 Q)))) (fun u S=>Q (.pan u) S)) (fun u S=>Q (.pan u) S)) (fun u S=>Q (.pan u) S)
end
section
set_option maxRecDepth 100000
end
theorem frz_none(S:Store):S.frz (fun _=>false)=S:=by
 cases S with
 |mk n obj =>
  unfold Store.frz
  congr 1
  funext i
  cases h:obj i with
  |none=>simp[h]
  |some o=>simp[h,frz_id]
theorem ansAt_cv{P:Program}{f:FuncId}{args args2:List AV}{S:Store}{r:AV}(hl:args.length=args2.length)(hcv:∀(k:Nat) (u u2:AV),args[k]? = some u→args2[k]? = some u2→Cv S S.n u u2)(h:AnsAt P f args2 S r):AnsAt P f args S r:=by
 refine ACalls.frz (fun _=>false) hl ?_ ?_
 ·rw[frz_none];exact hcv
 ·rw[frz_none];exact h
theorem bslA3{e:Nat}{z1 z2 z3 u v w:AV}{S:Store}{K:AV→Store→Prop}(k:K (.l [[u,v,w]]) S):bslN e 3 1 [z1,z2,z3] [(0,.a [u,v,w])] S K:=by
 refine⟨[u,v,w],?_,.inr ?_⟩
 ·simp[fillA,cellsOf,spl]
 ·simpa[chunks]using k
theorem callF_cv'{P:Program}{f:FuncId}{args args2:List AV}{r:AV}(h:Ans P f args2 r){S:Store}(hl:args.length=args2.length)(hcv:∀(k:Nat) (u u2:AV),args[k]? = some u→args2[k]? = some u2→Cv S S.n u u2){Q:AEnd→Store→Prop}{K:AV→Store→Prop}(k:K r S):callF P f args S Q K:=
 .inl (ACalls.conv hl hcv (ACalls.mono (h S) fun e S' h=>by obtain⟨rfl,rfl⟩:=h;exact k))
theorem cv_ci{S:Store}{n:Nat}{i l l':AV}(hi:Cv S n i i)(h:Cv S n l l'):Cv S n (.a [i,l,.nl,.nl,.nl,.nl,.nl,.nl]) (.a [i,l',.l [],.l [],.l [],.l [],.l [],.l []]):=
 .a _ _ rfl fun k u u2 hk hk2=>by
  match k with
  |0=>cases hk;cases hk2;exact hi
  |1=>cases hk;cases hk2;exact h
  |2|3|4|5|6|7=>cases hk;cases hk2;exact .nl
  |k+8=>simp at hk
theorem treeN(l:List Na):Tree (nL l):=Tree.l fun c hc u hu=>by
 obtain⟨a,ha,rfl⟩:=List.mem_map.1 hc
 unfold Na.row at hu
 simp only[List.mem_cons,List.not_mem_nil,or_false]at hu
 rcases hu with rfl|rfl|rfl<;>exact Tree.v _
section
variable {H:Type} {enc:TypeId × Value→H} {w:World} {sp:Nat→Bool} {held:Bool}
theorem u8_wf{n:Int}(h:(Lit.int .u8 n).wf=true):0≤n∧n<256:=by
 simp[Lit.wf,IntKind.min,IntKind.max,IntKind.bits,IntKind.signed]at h
 omega
theorem opI:Opens enc Pg w sp held 3 1 (fun n:Int=>[aI n]) (fun n=>(Lit.int .i64 n).wf=true):=opens_int Tryz.underlying3
theorem opU:Opens enc Pg w sp held 5 1 (fun n:Int=>[AV.v (.int .u8 n)]) (fun n=>(Lit.int .u8 n).wf=true):=opens_int Tryz.underlying5
end
theorem nil4{S:Store}{K:AV→Store→Prop}:nilV .neq 4 (.v .nilIface) S K=K (aB false) S:=rfl
theorem nilE{t:Nat}{x:AV}{S:Store}{K:AV→Store→Prop}:nilV .neq 4 (.i t x) S K=K (aB true) S:=rfl
theorem ans62{s:ByteArray}(hs:s.size≤281474976710656):Ans Pg 62 [.v (.string s)] (aI (numR s.data.toList)):=by
 intro S
 rw[←num_eq]
 refine calls62 ?_
 unfold m62
 refine callF_ans (ans106 hs) ?_
 unfold atoiR numA
 have hsz:s.data.toList.length=s.size:=Array.length_toList
 match h:Lib.atoiAll s.data.toList with
 |.syntax =>
  show extr _ _ _ _
  rw[extr0,extr1,nilE,onB_v,gd_T rfl]
  exact⟨rfl,rfl⟩
 |.range =>
  show extr _ _ _ _
  rw[extr0,extr1,nilE,onB_v,gd_T rfl]
  exact⟨rfl,rfl⟩
 |.ok v =>
  show extr _ _ _ _
  obtain⟨v1,v2⟩:=Lib.atoiAll_bounds h
  rw[extr0,extr1,nil4,onB_v,gd_F rfl,bin_lss,onB_v,hsz]
  refine gd_of (fun hv=>⟨by show AEnd.ret _=AEnd.ret (aI (if v<0 then -1 else _));rw[if_pos (dT hv)],rfl⟩) (fun hv=>?_)
  have hv:=dF hv
  rw[lenStr_b,bin_gtr,onB_v]
  refine gd_of (fun h6=>⟨by show AEnd.ret _=AEnd.ret (aI (if v<0 then -1 else if 6<s.size then -1 else _));rw[if_neg hv,if_pos (by have:=dT h6;omega)],rfl⟩) (fun h6=>?_)
  have h6:=dF h6
  refine callF_ans (ans107 (n:=v) ⟨by omega,by omega⟩) ?_
  rw[bin_neqS,onB_v]
  have he:((⟨(Lib.itoa v).toArray⟩:ByteArray)=s)↔Lib.itoa v=s.data.toList:=by
   constructor
   ·intro e;rw[←e]
   ·intro e;rw[e]
  refine gd_of (fun hn=>⟨?_,rfl⟩) (fun hn=>⟨?_,rfl⟩)
  ·show AEnd.ret _=AEnd.ret (aI (if v<0 then -1 else if 6<s.size then -1 else if Lib.itoa v≠s.data.toList then -1 else v))
   rw[if_neg hv,if_neg (by omega),if_pos (fun e=>by rw[he.2 e]at hn;simp at hn)]
  ·show AEnd.ret _=AEnd.ret (aI (if v<0 then -1 else if 6<s.size then -1 else if Lib.itoa v≠s.data.toList then -1 else v))
   rw[if_neg hv,if_neg (by omega),if_neg (fun e=>e (he.1 (by simpa using hn)))]
theorem decFrom_no:∀(l:List UInt8) (a i:Nat) (b:UInt8),l[i]? = some b→Lib.digitVal b=none→Lib.decFrom a l=none
 |[],a,i,b,h,_=>by simp at h
 |c :: l,a,i,b,h,hd=>by
  simp only[Lib.decFrom]
  cases hc:Lib.digitVal c with
  |none=>rfl
  |some d =>
   cases i with
   |zero=>cases h;rw[hc]at hd;cases hd
   |succ i=>exact decFrom_no l _ i b (by simpa using h) hd
theorem sl_get{s:ByteArray}{i:Nat}(h:i<s.size):s.data.toList[i]? = some s[i]:=by
 rw[List.getElem?_eq_getElem (by rw[Array.length_toList];exact h),Array.getElem_toList]
 rfl
theorem ans70{s:ByteArray}(hs:s.size≤18):Ans Pg 70 [.v (.string s)] (aI (numR s.data.toList)):=by
 intro S
 refine calls70 ?_
 unfold m70
 have hsz:s.data.toList.length=s.size:=Array.length_toList
 refine loop70_0 (fun y3 y4 S'=>S'=S∧∃ i k:Nat,y3=aI k∧y4=aI i∧i≤s.size∧Lib.decFrom 0 (s.data.toList.take i)=some k∧k<10 ^ i)
  (fun _ y _=>s.size - ((intA y).getD 0).toNat) ⟨rfl,0,0,rfl,rfl,Nat.zero_le _,rfl,by decide⟩ ?_
 rintro _ _ _ ⟨rfl,i,k,rfl,rfl,hi,hk,hlt⟩ KE hKE
 unfold b70_0
 rw[lenStr_b,bin_lss,onB_v]
 refine gd_of (fun h=>?_) (fun h=>?_)
 ·have h:i<s.size:=by simpa using h
  have bad:¬ (48≤(s[i]).toNat∧(s[i]).toNat≤57)→numR s.data.toList = -1:=fun hb=>by
   have hd:Lib.digitVal s[i]=none:=by unfold Lib.digitVal;rw[if_neg hb]
   have:Lib.decNat s.data.toList=none:=by
    unfold Lib.decNat
    split
    ·rfl
    ·exact decFrom_no _ 0 i _ (sl_get h) hd
   unfold numR
   rw[this]
  rw[ixStr_b h,bin_lss,onB_v]
  refine gd_of (fun h1=>⟨by rw[bad (fun q=>by have:=dT h1;omega)],rfl⟩) (fun h1=>?_)
  have h1:=dF h1
  rw[ixStr_b h,bin_gtr,onB_v]
  refine gd_of (fun h2=>⟨by rw[bad (fun q=>by have:=dT h2;omega)],rfl⟩) (fun h2=>?_)
  have h2:=dF h2
  have hp:10 ^ i≤10 ^ 17:=Nat.pow_le_pow_right (by decide) (by omega)
  have e17:(10:Nat) ^ 17=100000000000000000:=by decide
  have h57:(s[i]).toNat≤57:=by omega
  have h48:48≤(s[i]).toNat:=by omega
  rw[bin_mul (by omega) (by omega),ixStr_b h,convI_64 _ (by omega) (by omega),bin_add (by omega) (by omega),bin_sub (by omega) (by omega),bin_add (by omega) (by omega)]
  have hd:Lib.digitVal s[i]=some ((s[i]).toNat - 48):=by unfold Lib.digitVal;rw[if_pos ⟨h48,h57⟩]
  refine hKE _ _ _ ⟨rfl,i+1,k*10+((s[i]).toNat - 48),?_,rfl,h,Lib.decFrom_take _ i 0 k _ _ hk (sl_get h) hd,by rw[Nat.pow_succ];omega⟩ (by simp[intA];omega)
  congr 2
  omega
 ·have hge:i=s.size:=by have:=dF h;omega
  subst hge
  rw[←hsz,List.take_length]at hk
  rw[lenStr_b,bin_lss,onB_v]
  refine gd_of (fun h1=>⟨?_,rfl⟩) (fun h1=>?_)
  ·have h1:=dT h1
   have:s.data.toList = []:=List.length_eq_zero_iff.1 (by omega)
   rw[this];rfl
  have h1:=dF h1
  have hn:Lib.decNat s.data.toList=some k:=by
   unfold Lib.decNat
   rw[if_neg (fun e=>by rw[List.isEmpty_iff]at e;rw[e]at hsz;simp at hsz;omega)]
   exact hk
  have hv:numR s.data.toList=if s.size≤6∧(s.size=1∨s.data.toList.head?≠some 48)then(k:Int)else -1:=by unfold numR;rw[hn,hsz]
  rw[hv,lenStr_b,bin_gtr,onB_v]
  refine gd_of (fun h6=>⟨by rw[if_neg (by have:=dT h6;omega)],rfl⟩) (fun h6=>?_)
  have h6:=dF h6
  rw[lenStr_b,bin_gtr,onB_v]
  refine gd_of (fun h7=>?_) (fun h7=>⟨by rw[if_pos ⟨by omega,.inl (by have:=dF h7;omega)⟩],rfl⟩)
  have h7:=dT h7
  have h0:0<s.size:=by omega
  have hix:∀(S:Store) (K:AV→Store→Prop),ixStr (.v (.string s)) (.v (.int .i64 0)) S K=K (.v (.int .u8 (s[0]).toNat)) S:=fun S K=>ixStr_b (i:=0) h0
  rw[hix,bin_eql,onB_v]
  have hh:s.data.toList.head? = some s[0]:=by rw[List.head?_eq_getElem?,sl_get h0]
  refine gd_of (fun h8=>⟨?_,rfl⟩) (fun h8=>⟨?_,rfl⟩)
  ·have h8:=dT h8
   rw[if_neg]
   rintro⟨_,h|h⟩
   ·omega
   ·apply h
    rw[hh]
    congr 1
    apply UInt8.toNat_inj.1
    show(s[0]).toNat=48
    omega
  ·have h8:=dF h8
   rw[if_pos]
   refine⟨by omega,.inr fun e=>h8 ?_⟩
   rw[hh]at e
   have e:=Option.some.inj e
   rw[e]
   rfl
def Ci.sig(c:Ci)(k x:Int):Int:=
 if x<0 then -1 else if c.many k≤x then -1 else if k=105 then 2*(x+1)else if k=108 then 2*(c.inputs+x+1)else if k=111 then c.outs.getD x.toNat 0 else if k=98 then c.bads.getD x.toNat 0 else if k=99 then c.cons.getD x.toNat 0 else c.fair.getD x.toNat 0
theorem sig_tail{S1:Store}{id t:Nat}{c:Ci}{k x:Int}(hc:c.ok)(hr:c.right=true)(o1:S1.obj id=some (.cells t [c.cells] true))(h0:¬ x<0)(h1:¬ c.many k≤x){Q:AEnd→Store→Prop}(hQ:Q (.ret (aI (c.sig k x))) S1):
    bin .eql 0 (.v (.int .u8 k)) (.v (.int .u8 105)) S1 fun v S=>onB v fun b=>gd b (bin .add 0 (aI x) (.v (.int .i64 1)) S fun v S=>bin .mul 0 (.v (.int .i64 2)) v S fun v S=>Q (.ret v) S)
     (bin .eql 0 (.v (.int .u8 k)) (.v (.int .u8 108)) S fun v S=>onB v fun b=>gd b (shift (.p id 0 0) 0 S fun v S=>ld1 v S fun v S=>bin .add 0 v (aI x) S fun v S=>bin .add 0 v (.v (.int .i64 1)) S fun v S=>bin .mul 0 (.v (.int .i64 2)) v S fun v S=>Q (.ret v) S)
     (bin .eql 0 (.v (.int .u8 k)) (.v (.int .u8 111)) S fun v S=>onB v fun b=>gd b (shift (.p id 0 0) 3 S fun v S=>ld1 v S fun v S=>ixS 3 1 v (aI x) S fun v S=>ld1 v S fun v S=>Q (.ret v) S)
     (bin .eql 0 (.v (.int .u8 k)) (.v (.int .u8 98)) S fun v S=>onB v fun b=>gd b (shift (.p id 0 0) 4 S fun v S=>ld1 v S fun v S=>ixS 3 1 v (aI x) S fun v S=>ld1 v S fun v S=>Q (.ret v) S)
     (bin .eql 0 (.v (.int .u8 k)) (.v (.int .u8 99)) S fun v S=>onB v fun b=>gd b (shift (.p id 0 0) 5 S fun v S=>ld1 v S fun v S=>ixS 3 1 v (aI x) S fun v S=>ld1 v S fun v S=>Q (.ret v) S)
     (shift (.p id 0 0) 6 S fun v S=>ld1 v S fun v S=>ixS 3 1 v (aI x) S fun v S=>ld1 v S fun v S=>Q (.ret v) S))))):=by
 obtain⟨hin,hla,ho,hb,hcn,hf,_⟩:=right_c.1 hr
 obtain⟨n,rfl⟩:=Int.eq_ofNat_of_zero_le (show 0≤x by omega)
 have hs:c.sig k n=if k=105 then 2*((n:Int)+1)else if k=108 then 2*(c.inputs+n+1)else if k=111 then c.outs.getD n 0 else if k=98 then c.bads.getD n 0 else if k=99 then c.cons.getD n 0 else c.fair.getD n 0:=by
  unfold Ci.sig
  rw[if_neg h0,if_neg h1]
  rfl
 rw[hs]at hQ
 have hm:(n:Int)<c.many k:=by omega
 unfold Ci.many at hm
 have getL:∀{l:List Int} (h:n<l.length),l.getD n 0=l[n]:=fun h=>by rw[List.getD_eq_getElem?_getD,List.getElem?_eq_getElem h];rfl
 rw[bin_eql,onB_v]
 refine gd_of (fun h=>?_) (fun h=>?_)
 ·have h:=dT h
  rw[if_pos h]at hQ hm
  rwa [bin_add (by omega) (by omega),bin_mul (by omega) (by omega)]
 have h:=dF h
 rw[if_neg h]at hQ hm
 rw[bin_eql,onB_v]
 refine gd_of (fun h=>?_) (fun h=>?_)
 ·have h:=dT h
  rw[if_pos h]at hQ hm
  rwa [shift_p,ld1_p (u:=aI c.inputs) o1 rfl rfl,bin_add (by omega) (by omega),bin_add (by omega) (by omega),bin_mul (by omega) (by omega)]
 have h:=dF h
 rw[if_neg h]at hQ hm
 rw[bin_eql,onB_v]
 refine gd_of (fun h=>?_) (fun h=>?_)
 ·have h:=dT h
  rw[if_pos h]at hQ hm
  have hl:n<c.outs.length:=by omega
  rw[getL hl]at hQ
  rwa [shift_p,ld1_p (u:=aL aI c.outs) o1 rfl rfl,ixS_aL hl,ld1_q]
 have h:=dF h
 rw[if_neg h]at hQ hm
 rw[bin_eql,onB_v]
 refine gd_of (fun h=>?_) (fun h=>?_)
 ·have h:=dT h
  rw[if_pos h]at hQ hm
  have hl:n<c.bads.length:=by omega
  rw[getL hl]at hQ
  rwa [shift_p,ld1_p (u:=aL aI c.bads) o1 rfl rfl,ixS_aL hl,ld1_q]
 have h:=dF h
 rw[if_neg h]at hQ hm
 rw[bin_eql,onB_v]
 refine gd_of (fun h=>?_) (fun h=>?_)
 ·have h:=dT h
  rw[if_pos h]at hQ hm
  have hl:n<c.cons.length:=by omega
  rw[getL hl]at hQ
  rwa [shift_p,ld1_p (u:=aL aI c.cons) o1 rfl rfl,ixS_aL hl,ld1_q]
 have h:=dF h
 rw[if_neg h]at hQ hm
 have hl:n<c.fair.length:=by
  split at hm<;>omega
 rw[getL hl]at hQ
 rwa [shift_p,ld1_p (u:=aL aI c.fair) o1 rfl rfl,ixS_aL hl,ld1_q]
theorem ans59{c:Ci}(hc:c.ok)(hr:c.right=true){k x:Int}(hk0:0≤k)(hk1:k<256):Ans Pg 59 [c.av,.v (.int .u8 k),aI x] (aI (c.sig k x)):=by
 intro S
 refine ACalls.ans_v (calls59 ?_)
 unfold m59
 refine boxA_of rfl fun S1 k1 n1 o1=>?_
 rw[bin_lss,onB_v]
 refine gd_of (fun h=>⟨by unfold Ci.sig;rw[if_pos (dT h)],k1⟩) (fun h=>?_)
 have h:=dF h
 rw[ldN_p (n:=8) o1 rfl]
 refine callF_ans (ans51 c) ?_
 rw[convI_v,wrap32 hk0 hk1,lkM_mt (keyI _ _)]
 show bin .geq 0 (aI x) ((lkp c.manyE (.i k)).getD (aI 0)) S1 _
 rw[lkp_many,bin_geq,onB_v]
 refine gd_of (fun h2=>⟨by unfold Ci.sig;rw[if_neg h,if_pos (dT h2)],k1⟩) (fun h2=>?_)
 refine sig_tail hc hr o1 h (dF h2) (Q:=fun e S'=>e = .ret (aI (c.sig k x))∧Keep S S') ?_
 exact⟨rfl,k1⟩
def sigB (c:Ci) (k x:Int):Int:=if c.right=true then c.sig k x else -1
theorem ans24{c:Ci}(hc:c.ok){k x:Int}(hk0:0≤k)(hk1:k<256):Ans Pg 24 [c.av,.v (.int .u8 k),aI x] (aI (sigB c k x)):=by
 intro S
 refine ACalls.ans_v (calls24 ?_)
 unfold m24
 refine boxA_of rfl fun S1 k1 n1 o1=>?_
 rw[ldN_p (n:=8) o1 rfl]
 refine callF_ans (ans22 hc) ?_
 rw[un_not,onB_v]
 refine gd_of (fun h=>⟨by unfold sigB;rw[if_neg (by simpa using h)],k1⟩) (fun h=>?_)
 have hr:c.right=true:=by simpa using h
 rw[ldN_p (n:=8) o1 rfl]
 refine callF_ans (ans59 hc hr hk0 hk1) ?_
 exact⟨by unfold sigB;rw[if_pos hr],k1⟩
theorem ans31{c:Ci}(hc:c.ok){k x:Int}:Ans Pg 31 [c.av,.v (.int .u8 k),aI x] (aI (sigB c k x)):=by
 intro S
 refine ACalls.ans_v (calls31 ?_)
 unfold m31
 refine boxA_of rfl fun S1 k1 n1 o1=>?_
 rw[ldN_p (n:=8) o1 rfl]
 refine callF_ans (ans28 hc) ?_
 rw[un_not,onB_v]
 refine gd_of (fun h=>⟨by unfold sigB;rw[if_neg (by simpa using h)],k1⟩) (fun h=>?_)
 have hr:c.right=true:=by simpa using h
 have hs:sigB c k x=c.sig k x:=by unfold sigB;rw[if_pos hr]
 rw[hs,bin_lss,onB_v]
 refine gd_of (fun h=>⟨by unfold Ci.sig;rw[if_pos (dT h)],k1⟩) (fun h=>?_)
 have h:=dF h
 rw[ldN_p (n:=8) o1 rfl]
 refine callF_ans (ans69 c k) ?_
 rw[bin_geq,onB_v]
 refine gd_of (fun h2=>⟨by unfold Ci.sig;rw[if_neg h,if_pos (dT h2)],k1⟩) (fun h2=>?_)
 refine sig_tail hc hr o1 h (dF h2) (Q:=fun e S'=>e = .ret (aI (c.sig k x))∧Keep S S') ?_
 exact⟨rfl,k1⟩
end
end Go.Proofs.YtmpjhihpcaephaaGreatDoor.G

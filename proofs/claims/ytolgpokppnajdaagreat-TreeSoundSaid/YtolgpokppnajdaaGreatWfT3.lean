/- Tree -/
import Derived.Test.YtolgpokppnajdaaGreatProg
import Derived.KernelRfl
import Derived.Test.YtolgpokppnajdaaGreatWfT2
set_option linter.unusedVariables false
set_option linter.unusedSimpArgs false
namespace Go.Proofs.YtolgpokppnajdaaGreat.G
open Go Go.Ab
noncomputable section
section
set_option maxRecDepth 100000
abbrev Pg : Program := Tryz.prog
theorem dT{p:Prop}[Decidable p]:decide p=true→p:=of_decide_eq_true
theorem dF{p:Prop}[Decidable p]:decide p=false→¬p:=of_decide_eq_false
theorem gSm{α:Type}{l:List α}{i:Nat}{a:α}:l[i]?=some a↔∃ h:i<l.length,l[i]=a:=List.getElem?_eq_some_iff
def c6:Code:=(Tryz.f6.body).getD .skip
def r6:List ResultVar:=Tryz.f6.results.toList
def ms6:List (List Nat):=[[]]
def m6(x0 x1 x2 x3 x4:AV)(S:Store)(Q:PoT):Prop:=
 boxN 37 5 x3 S fun c S=>callF Pg 19 [] S Q fun d S=>un .not d S fun e S=>onB e fun b=>gd b (Q (.ret (.v (.bool false))) S) (callF Pg 23 [x0,x1] S Q fun f S=>extr f 0 S fun g S=>extr f 1 S fun h S=>boxN 42 8 (.a [.v (.int .i64 0),.nl,.nl,.nl,.nl,.nl,.nl,.nl]) S fun i S=>boxN 24 4 (.a [.v (.int .i64 0),.v (.string ByteArray.empty),.v (.int .i64 0),.nl]) S fun k S=>stN 8 i g S fun l S=>stN 4 k h S fun m S=>onB x4 fun b=>gd b (ldN 8 i S fun n S=>ldN 4 k S fun o S=>callF Pg 26 [n,o,x2] S Q fun p S=>stN 5 c p S fun q S=>ldN 8 i S fun r S=>ldN 4 k S fun s S=>ldN 5 c S fun t S=>callF Pg 27 [r,s,t] S Q fun u S=>extr u 0 S fun w S=>extr u 1 S fun x S=>un .not x S fun y S=>onB y fun b=>gd b (Q (.ret d) S) (bin .gtr 0 w (.v (.int .i64 0)) S fun z S=>onB z fun b=>gd b (Q (.ret d) S) (ldN 8 i S fun A S=>ldN 4 k S fun B S=>callF Pg 28 [A,B] S Q fun C S=>extr C 0 S fun D S=>extr C 1 S fun E S=>onB d fun b=>gd b (bin .eql 0 E (.v (.int .i64 0)) S fun F S=>onB F fun b=>gd b (shift c 1 S fun G S=>ld1 G S fun H S=>bin .geq 0 H (.v (.int .i64 0)) S fun I S=>onB I fun b=>gd b (shift c 1 S fun J S=>ld1 J S fun K S=>lenS D S fun L S=>bin .lss 0 K L S fun M S=>onB M fun b=>gd b (shift c 1 S fun N S=>ld1 N S fun O S=>ixS 4 1 D O S fun P S=>ld1 P S fun R S=>Q (.ret R) S) (Q (.ret (.v (.bool false))) S)) (Q (.ret (.v (.bool false))) S)) (Q (.ret (.v (.bool false))) S)) (Q (.ret (.v (.bool false))) S)))) (ldN 5 c S fun T S=>callF Pg 24 [T,.v (.int .i64 300)] S Q fun U S=>bin .lss 0 U (.v (.int .i64 0)) S fun V S=>onB V fun b=>gd b (ldN 8 i S fun W S=>ldN 4 k S fun X S=>callF Pg 26 [W,X,x2] S Q fun Y S=>stN 5 c Y S fun Z S=>ldN 8 i S fun a0 S=>ldN 4 k S fun a1 S=>ldN 5 c S fun a2 S=>callF Pg 27 [a0,a1,a2] S Q fun a3 S=>extr a3 0 S fun a4 S=>extr a3 1 S fun a5 S=>un .not a5 S fun a6 S=>onB a6 fun b=>gd b (Q (.ret d) S) (bin .gtr 0 a4 (.v (.int .i64 0)) S fun a7 S=>onB a7 fun b=>gd b (Q (.ret d) S) (ldN 8 i S fun a8 S=>ldN 4 k S fun a9 S=>callF Pg 28 [a8,a9] S Q fun b0 S=>extr b0 0 S fun b1 S=>extr b0 1 S fun b2 S=>onB d fun b=>gd b (bin .eql 0 b2 (.v (.int .i64 0)) S fun b3 S=>onB b3 fun b=>gd b (shift c 1 S fun b5 S=>ld1 b5 S fun b6 S=>bin .geq 0 b6 (.v (.int .i64 0)) S fun b7 S=>onB b7 fun b=>gd b (shift c 1 S fun b8 S=>ld1 b8 S fun b9 S=>lenS b1 S fun c0 S=>bin .lss 0 b9 c0 S fun c1 S=>onB c1 fun b=>gd b (shift c 1 S fun c2 S=>ld1 c2 S fun c3 S=>ixS 4 1 b1 c3 S fun c4 S=>ld1 c4 S fun c5 S=>Q (.ret c5) S) (Q (.ret (.v (.bool false))) S)) (Q (.ret (.v (.bool false))) S)) (Q (.ret (.v (.bool false))) S)) (Q (.ret (.v (.bool false))) S)))) (ldN 8 i S fun c6 S=>ldN 4 k S fun c7 S=>ldN 5 c S fun c8 S=>callF Pg 27 [c6,c7,c8] S Q fun c9 S=>extr c9 0 S fun d0 S=>extr c9 1 S fun d1 S=>un .not d1 S fun d2 S=>onB d2 fun b=>gd b (Q (.ret d) S) (bin .gtr 0 d0 (.v (.int .i64 0)) S fun d3 S=>onB d3 fun b=>gd b (Q (.ret d) S) (ldN 8 i S fun d4 S=>ldN 4 k S fun d5 S=>callF Pg 28 [d4,d5] S Q fun d6 S=>extr d6 0 S fun d7 S=>extr d6 1 S fun d8 S=>onB d fun b=>gd b (bin .eql 0 d8 (.v (.int .i64 0)) S fun d9 S=>onB d9 fun b=>gd b (shift c 1 S fun e0 S=>ld1 e0 S fun e1 S=>bin .geq 0 e1 (.v (.int .i64 0)) S fun e2 S=>onB e2 fun b=>gd b (shift c 1 S fun e3 S=>ld1 e3 S fun e4 S=>lenS d7 S fun e5 S=>bin .lss 0 e4 e5 S fun e6 S=>onB e6 fun b=>gd b (shift c 1 S fun e7 S=>ld1 e7 S fun e8 S=>ixS 4 1 d7 e8 S fun e9 S=>ld1 e9 S fun f0 S=>Q (.ret f0) S) (Q (.ret (.v (.bool false))) S)) (Q (.ret (.v (.bool false))) S)) (Q (.ret (.v (.bool false))) S)) (Q (.ret (.v (.bool false))) S))))))
theorem calls6{x0 x1 x2 x3 x4:AV}{S:Store}{Q:PoT}(h:m6 x0 x1 x2 x3 x4 S Q):ACalls Pg 6 [x0,x1,x2,x3,x4] S Q:=
 calls_of_vc (fn:=Tryz.f6) (c:=c6) (n:=81) Tryz.func6 (by kernel_rfl) (by kernel_rfl) (by kernel_rfl) ms6 (Eq.mpr (by kernel_rfl) h)
def c50:Code:=(Tryz.f50.body).getD .skip
def r50:List ResultVar:=Tryz.f50.results.toList
def env50_0(y0 y3 y5 y8 y9 y10 y13:AV):List AV:=[y0,y3,y5,y8,y9,y10,y13]
def lv50_0:List Nat:=[0,3,5,8,9,10,13]
def env50_1(y0 y3 y5 y8 y9 y18:AV):List AV:=[y0,y3,y5,y8,y9,y18]
def lv50_1:List Nat:=[0,3,5,8,9,18]
def env50_2(y0 y3 y8 y9 y10 y14 y15 y16 y17:AV):List AV:=[y0,y3,y8,y9,y10,y14,y15,y16,y17]
def lv50_2:List Nat:=[0,3,8,9,10,14,15,16,17]
def env50_3(y0 y3 y5 y8 y9 y18 y19 y20 y21:AV):List AV:=[y0,y3,y5,y8,y9,y18,y19,y20,y21]
def lv50_3:List Nat:=[0,3,5,8,9,18,19,20,21]
def env50_4(y0 y3 y5 y8 y9 y22:AV):List AV:=[y0,y3,y5,y8,y9,y22]
def lv50_4:List Nat:=[0,3,5,8,9,22]
def ms50:List (List Nat):=[lv50_0,lv50_2,lv50_1,lv50_3,lv50_4,[51,83,50]]
def m50(x0 x1 x2 x3:AV)(S:Store)(Q:PoT):Prop:=
 boxN 24 4 x1 S fun c S=>boxN 37 5 (.a [.v (.int .i64 0),.v (.int .i64 0),.v (.int .i64 0),.nl,.nl]) S fun d S=>bld [(0,1),(1,1),(2,1),(3,1),(4,1)] [.v (.int .i64 0),.v (.int .i64 0),.v (.int .i64 0),.nl,.nl] [(0,(.v (.int .i64 1))),(1,x2)] S fun e S=>boxN 37 5 (.a [.v (.int .i64 0),.v (.int .i64 0),.v (.int .i64 0),.nl,.nl]) S fun f S=>stN 5 f e S fun g S=>bld [(0,1),(1,1),(2,1),(3,1)] [.v (.int .i64 0),.v (.string ByteArray.empty),.v (.int .i64 0),.nl] [(0,(.v (.int .i64 2)))] S fun h S=>boxN 24 4 (.a [.v (.int .i64 0),.v (.string ByteArray.empty),.v (.int .i64 0),.nl]) S fun i S=>stN 4 i h S fun k S=>bin .lss 0 x3 (.v (.int .i64 1)) S fun l S=>onB l fun b=>gd b (ldN 5 f S fun m S=>stN 5 d m S fun n S=>ldN 5 d S fun o _=>Q (.ret o) S) (shift c 0 S fun p S=>ld1 p S fun q S=>bin .eql 0 q (.v (.int .i64 5)) S fun r S=>onB r fun b=>gd b (shift f 0 S fun s S=>stN 1 s (.v (.int .i64 2)) S fun t S=>∃ u:AV,(∀ T:Store,Keep S T→shift c 3 T fun w S=>w=u∧S=T)∧∃ x:AV,(∀ T:Store,Keep S T→ld1 u T fun y S=>y=x∧S=T)∧∃ z:AV,(∀ T:Store,Keep S T→ixS 24 4 x (.v (.int .i64 0)) T fun A S=>A=z∧S=T)∧∃ B:AV,(∀ T:Store,Keep S T→ldN 4 z T fun C S=>C=B∧S=T)∧∃ D:AV,(∀ T:Store,Keep S T→bin .sub 0 x3 (.v (.int .i64 1)) T fun E S=>E=D∧S=T)∧∃ F:AV,(∀ T:Store,Keep S T→shift c 3 T fun G S=>G=F∧S=T)∧∃ H:AV,(∀ T:Store,Keep S T→ld1 F T fun I S=>I=H∧S=T)∧∃ J:AV,(∀ T:Store,Keep S T→ixS 24 4 H (.v (.int .i64 1)) T fun K S=>K=J∧S=T)∧∃ L:AV,(∀ T:Store,Keep S T→ldN 4 J T fun M S=>M=L∧S=T)∧∃ N:AV,(∀ T:Store,Keep S T→bin .sub 0 x3 (.v (.int .i64 1)) T fun O S=>O=N∧S=T)∧callF Pg 50 [x0,B,x2,D] S (fun _ _=>False) fun P S=>(∀ T:Store,Keep S T→bin .sub 0 x3 (.v (.int .i64 1)) T fun R S=>R=N∧S=T)∧(∀ T:Store,Keep S T→ldN 4 J T fun U S=>U=L∧S=T)∧(∀ T:Store,Keep S T→ixS 24 4 H (.v (.int .i64 1)) T fun V S=>V=J∧S=T)∧(∀ T:Store,Keep S T→ld1 F T fun W S=>W=H∧S=T)∧(∀ T:Store,Keep S T→shift c 3 T fun X S=>X=F∧S=T)∧callF Pg 50 [x0,L,x2,N] S (fun _ _=>False) fun Y S=>∃ Z:AV,(∀ T:Store,Keep S T→bslN 37 5 2 [.v (.int .i64 0),.v (.int .i64 0),.v (.int .i64 0),.nl,.nl] [(0,P),(1,Y)] T fun a0 S=>a0=Z∧S=T)∧∃ a1:AV,(∀ T:Store,Keep S T→shift f 4 T fun a2 S=>a2=a1∧S=T)∧stN 1 a1 Z S fun a3 S=>ldN 5 f S fun a4 S=>stN 5 d a4 S fun a5 S=>ldN 5 d S fun a6 _=>Q (.ret a6) S) (bin .eql 0 q (.v (.int .i64 6)) S fun a7 S=>onB a7 fun b=>gd b (callF Pg 51 [x0,.v (.int .i64 2)] S Q fun a8 S=>shift f 0 S fun a9 S=>stN 1 a9 (.v (.int .i64 3)) S fun b0 S=>shift f 2 S fun b1 S=>stN 1 b1 a8 S fun b2 S=>shift c 3 S fun b3 S=>ld1 b3 S fun b4 S=>shift f 2 S fun b5 S=>ld1 b5 S fun b6 S=>ixS 24 4 b4 b6 S fun b7 S=>ldN 4 b7 S fun b8 S=>bin .sub 0 x3 (.v (.int .i64 1)) S fun b9 S=>callF Pg 50 [x0,b8,x2,b9] S Q fun c0 S=>bslN 37 5 1 [.v (.int .i64 0),.v (.int .i64 0),.v (.int .i64 0),.nl,.nl] [(0,c0)] S fun c1 S=>shift f 4 S fun c2 S=>stN 1 c2 c1 S fun c3 S=>ldN 5 f S fun c4 S=>stN 5 d c4 S fun c5 S=>ldN 5 d S fun c6 _=>Q (.ret c6) S) (bin .eql 0 q (.v (.int .i64 17)) S fun c7 S=>onB c7 fun b=>gd b (callF Pg 51 [x0,.v (.int .i64 2)] S Q fun c8 S=>shift f 0 S fun c9 S=>stN 1 c9 (.v (.int .i64 3)) S fun d0 S=>shift f 2 S fun d1 S=>stN 1 d1 c8 S fun d2 S=>shift c 3 S fun d3 S=>ld1 d3 S fun d4 S=>ixS 24 4 d4 (.v (.int .i64 1)) S fun d5 S=>ldN 4 d5 S fun d6 S=>callF Pg 81 [d6] S Q fun d7 S=>boxN 24 4 (.a [.v (.int .i64 0),.v (.string ByteArray.empty),.v (.int .i64 0),.nl]) S fun d8 S=>stN 4 d8 d7 S fun d9 S=>shift f 2 S fun e0 S=>ld1 e0 S fun e1 S=>bin .eql 0 e1 (.v (.int .i64 1)) S fun e2 S=>onB e2 fun b=>gd b (∃ e3:AV,(∀ T:Store,Keep S T→shift c 3 T fun e4 S=>e4=e3∧S=T)∧∃ e5:AV,(∀ T:Store,Keep S T→ld1 e3 T fun e6 S=>e6=e5∧S=T)∧∃ e7:AV,(∀ T:Store,Keep S T→ixS 24 4 e5 (.v (.int .i64 1)) T fun e8 S=>e8=e7∧S=T)∧∃ e9:AV,(∀ T:Store,Keep S T→ldN 4 e7 T fun f0 S=>f0=e9∧S=T)∧∃ f1:AV,(∀ T:Store,Keep S T→shift c 3 T fun f2 S=>f2=f1∧S=T)∧∃ f3:AV,(∀ T:Store,Keep S T→ld1 f1 T fun f4 S=>f4=f3∧S=T)∧∃ f5:AV,(∀ T:Store,Keep S T→bld [(0,1),(1,1),(2,1),(3,1)] [.v (.int .i64 0),.v (.string ByteArray.empty),.v (.int .i64 0),.nl] [(0,(.v (.int .i64 5))),(3,f3)] T fun f6 S=>f6=f5∧S=T)∧∃ f7:AV,(∀ T:Store,Keep S T→callF Pg 82 [e9,f5] T (fun _ _=>False) fun f8 S=>f8=f7∧S=T)∧stN 4 d8 f7 S fun f9 S=>ldN 4 d8 S fun g0 S=>bin .sub 0 x3 (.v (.int .i64 1)) S fun g1 S=>callF Pg 50 [x0,g0,x2,g1] S Q fun g2 S=>bslN 37 5 1 [.v (.int .i64 0),.v (.int .i64 0),.v (.int .i64 0),.nl,.nl] [(0,g2)] S fun g3 S=>shift f 4 S fun g4 S=>stN 1 g4 g3 S fun g5 S=>ldN 5 f S fun g6 S=>stN 5 d g6 S fun g7 S=>ldN 5 d S fun g8 _=>Q (.ret g8) S) (ldN 4 d8 S fun g9 S=>bin .sub 0 x3 (.v (.int .i64 1)) S fun h0 S=>callF Pg 50 [x0,g9,x2,h0] S Q fun h1 S=>bslN 37 5 1 [.v (.int .i64 0),.v (.int .i64 0),.v (.int .i64 0),.nl,.nl] [(0,h1)] S fun h2 S=>shift f 4 S fun h3 S=>stN 1 h3 h2 S fun h4 S=>ldN 5 f S fun h5 S=>stN 5 d h5 S fun h6 S=>ldN 5 d S fun h7 _=>Q (.ret h7) S)) (bin .eql 0 q (.v (.int .i64 9)) S fun h8 S=>onB h8 fun b=>gd b (shift f 0 S fun h9 S=>stN 1 h9 (.v (.int .i64 4)) S fun i0 S=>callF Pg 83 [x0,x2] S Q fun i1 S=>∃ i2:AV,(∀ T:Store,Keep S T→shift c 3 T fun i3 S=>i3=i2∧S=T)∧∃ i4:AV,(∀ T:Store,Keep S T→ld1 i2 T fun i5 S=>i5=i4∧S=T)∧∃ i6:AV,(∀ T:Store,Keep S T→ixS 24 4 i4 (.v (.int .i64 0)) T fun i7 S=>i7=i6∧S=T)∧∃ i8:AV,(∀ T:Store,Keep S T→ldN 4 i6 T fun i9 S=>i9=i8∧S=T)∧∃ k0:AV,(∀ T:Store,Keep S T→bin .sub 0 x3 (.v (.int .i64 1)) T fun k1 S=>k1=k0∧S=T)∧∃ k2:AV,(∀ T:Store,Keep S T→ldN 4 i T fun k3 S=>k3=k2∧S=T)∧∃ k4:AV,(∀ T:Store,Keep S T→bin .sub 0 x3 (.v (.int .i64 1)) T fun k5 S=>k5=k4∧S=T)∧callF Pg 50 [x0,i8,i1,k0] S (fun _ _=>False) fun k6 S=>(∀ T:Store,Keep S T→bin .sub 0 x3 (.v (.int .i64 1)) T fun k7 S=>k7=k4∧S=T)∧(∀ T:Store,Keep S T→ldN 4 i T fun k8 S=>k8=k2∧S=T)∧∃ k9:AV,(∀ T:Store,Keep S T→callF Pg 81 [k2] T (fun _ _=>False) fun l0 S=>l0=k9∧S=T)∧callF Pg 50 [x0,k9,i1,k4] S (fun _ _=>False) fun l1 S=>∃ l2:AV,(∀ T:Store,Keep S T→bslN 37 5 2 [.v (.int .i64 0),.v (.int .i64 0),.v (.int .i64 0),.nl,.nl] [(0,k6),(1,l1)] T fun l3 S=>l3=l2∧S=T)∧∃ l4:AV,(∀ T:Store,Keep S T→shift f 4 T fun l5 S=>l5=l4∧S=T)∧stN 1 l4 l2 S fun l6 S=>ldN 5 f S fun l7 S=>stN 5 d l7 S fun l8 S=>ldN 5 d S fun l9 _=>Q (.ret l9) S) (bin .eql 0 q (.v (.int .i64 11)) S fun aA S=>onB aA fun b=>gd b (onB aA fun b=>gd b (bslN 3 1 1 [.v (.int .i64 0)] [(0,x2)] S fun aB S=>shift f 0 S fun aC S=>stN 1 aC (.v (.int .i64 5)) S fun aD S=>shift f 3 S fun aE S=>stN 1 aE aB S fun aF S=>callF Pg 51 [x0,.v (.int .i64 3)] S Q fun aG S=>loopV lv50_0 (vc Pg (c50.at_ [1,1,1,1,0,1,0,1,1,1,1,1,1,1,1,1,0,1,0,1,0,0]) (ms50.drop 1)) 306 (env50_0 x0 x3 c d f i aG) S (blockK 1 (seqK (vc Pg (c50.at_ [1,1,1,1,0,1,0,1,1,1,1,1,1,1,1,1,0,1,1]) (ms50.drop 1)) (blockK 0 (seqK (vc Pg (c50.at_ [1,1,1,1,1]) (ms50.drop 5)) (bodyK Pg r50 Q)))))) (bin .eql 0 q (.v (.int .i64 13)) S fun aH S=>onB aH fun b=>gd b (bslN 3 1 1 [.v (.int .i64 0)] [(0,x2)] S fun aI S=>shift f 0 S fun aJ S=>stN 1 aJ (.v (.int .i64 6)) S fun aK S=>shift f 3 S fun aL S=>stN 1 aL aI S fun aM S=>callF Pg 51 [x0,.v (.int .i64 8)] S Q fun aN S=>bin .add 0 (.v (.int .i64 1)) aN S fun aO S=>loopV lv50_1 (vc Pg (c50.at_ [1,1,1,1,0,1,0,1,1,1,1,1,1,1,1,1,1,1,0,1,0,1,0,0]) (ms50.drop 3)) 306 (env50_1 x0 x3 c d f aO) S (blockK 5 (seqK (vc Pg (c50.at_ [1,1,1,1,0,1,0,1,1,1,1,1,1,1,1,1,1,1,0,1,1]) (ms50.drop 4)) (blockK 0 (seqK (vc Pg (c50.at_ [1,1,1,1,1]) (ms50.drop 5)) (bodyK Pg r50 Q)))))) (bin .eql 0 q (.v (.int .i64 10)) S fun aP S=>onB aP fun b=>gd b (onB aP fun b=>gd b (shift f 0 S fun aQ S=>stN 1 aQ (.v (.int .i64 7)) S fun aR S=>ldN 5 f S fun aS S=>stN 5 d aS S fun aT S=>ldN 5 d S fun aU _=>Q (.ret aU) S) (ldN 5 f S fun aV S=>stN 5 d aV S fun aW S=>ldN 5 d S fun aX _=>Q (.ret aX) S)) (bin .eql 0 q (.v (.int .i64 12)) S fun aY S=>onB aY fun b=>gd b (onB aY fun b=>gd b (shift f 0 S fun aZ S=>stN 1 aZ (.v (.int .i64 7)) S fun bA S=>ldN 5 f S fun bB S=>stN 5 d bB S fun bC S=>ldN 5 d S fun bD _=>Q (.ret bD) S) (ldN 5 f S fun bE S=>stN 5 d bE S fun bF S=>ldN 5 d S fun bG _=>Q (.ret bG) S)) (bin .eql 0 q (.v (.int .i64 14)) S fun bH S=>onB bH fun b=>gd b (onB bH fun b=>gd b (shift f 0 S fun bI S=>stN 1 bI (.v (.int .i64 7)) S fun bJ S=>ldN 5 f S fun bK S=>stN 5 d bK S fun bL S=>ldN 5 d S fun bM _=>Q (.ret bM) S) (ldN 5 f S fun bN S=>stN 5 d bN S fun bO S=>ldN 5 d S fun bP _=>Q (.ret bP) S)) (bin .eql 0 q (.v (.int .i64 16)) S fun bQ S=>onB bQ fun b=>gd b (onB bQ fun b=>gd b (shift f 0 S fun bR S=>stN 1 bR (.v (.int .i64 7)) S fun bS S=>ldN 5 f S fun bT S=>stN 5 d bT S fun bU S=>ldN 5 d S fun bV _=>Q (.ret bV) S) (ldN 5 f S fun bW S=>stN 5 d bW S fun bX S=>ldN 5 d S fun bY _=>Q (.ret bY) S)) (bin .eql 0 q (.v (.int .i64 18)) S fun bZ S=>onB bZ fun b=>gd b (shift f 0 S fun cA S=>stN 1 cA (.v (.int .i64 7)) S fun cB S=>ldN 5 f S fun cC S=>stN 5 d cC S fun cD S=>ldN 5 d S fun cE _=>Q (.ret cE) S) (ldN 5 f S fun cF S=>stN 5 d cF S fun cG S=>ldN 5 d S fun cH _=>Q (.ret cH) S)))))))) (bin .eql 0 q (.v (.int .i64 15)) S fun cI S=>onB cI fun b=>gd b (bslN 3 1 1 [.v (.int .i64 0)] [(0,x2)] S fun cJ S=>shift f 0 S fun cK S=>stN 1 cK (.v (.int .i64 5)) S fun cL S=>shift f 3 S fun cM S=>stN 1 cM cJ S fun cN S=>callF Pg 51 [x0,.v (.int .i64 3)] S Q fun cO S=>loopV lv50_0 (vc Pg (c50.at_ [1,1,1,1,0,1,0,1,1,1,1,1,1,1,1,1,0,1,0,1,0,0]) (ms50.drop 1)) 306 (env50_0 x0 x3 c d f i cO) S (blockK 1 (seqK (vc Pg (c50.at_ [1,1,1,1,0,1,0,1,1,1,1,1,1,1,1,1,0,1,1]) (ms50.drop 1)) (blockK 0 (seqK (vc Pg (c50.at_ [1,1,1,1,1]) (ms50.drop 5)) (bodyK Pg r50 Q)))))) (bin .eql 0 q (.v (.int .i64 13)) S fun cP S=>onB cP fun b=>gd b (bslN 3 1 1 [.v (.int .i64 0)] [(0,x2)] S fun cQ S=>shift f 0 S fun cR S=>stN 1 cR (.v (.int .i64 6)) S fun cS S=>shift f 3 S fun cT S=>stN 1 cT cQ S fun cU S=>callF Pg 51 [x0,.v (.int .i64 8)] S Q fun cV S=>bin .add 0 (.v (.int .i64 1)) cV S fun cW S=>loopV lv50_1 (vc Pg (c50.at_ [1,1,1,1,0,1,0,1,1,1,1,1,1,1,1,1,1,1,0,1,0,1,0,0]) (ms50.drop 3)) 306 (env50_1 x0 x3 c d f cW) S (blockK 5 (seqK (vc Pg (c50.at_ [1,1,1,1,0,1,0,1,1,1,1,1,1,1,1,1,1,1,0,1,1]) (ms50.drop 4)) (blockK 0 (seqK (vc Pg (c50.at_ [1,1,1,1,1]) (ms50.drop 5)) (bodyK Pg r50 Q)))))) (bin .eql 0 q (.v (.int .i64 10)) S fun cX S=>onB cX fun b=>gd b (onB cX fun b=>gd b (shift f 0 S fun cY S=>stN 1 cY (.v (.int .i64 7)) S fun cZ S=>ldN 5 f S fun dA S=>stN 5 d dA S fun dB S=>ldN 5 d S fun dC _=>Q (.ret dC) S) (ldN 5 f S fun dD S=>stN 5 d dD S fun dE S=>ldN 5 d S fun dF _=>Q (.ret dF) S)) (bin .eql 0 q (.v (.int .i64 12)) S fun dG S=>onB dG fun b=>gd b (onB dG fun b=>gd b (shift f 0 S fun dH S=>stN 1 dH (.v (.int .i64 7)) S fun dI S=>ldN 5 f S fun dJ S=>stN 5 d dJ S fun dK S=>ldN 5 d S fun dL _=>Q (.ret dL) S) (ldN 5 f S fun dM S=>stN 5 d dM S fun dN S=>ldN 5 d S fun dO _=>Q (.ret dO) S)) (bin .eql 0 q (.v (.int .i64 14)) S fun dP S=>onB dP fun b=>gd b (onB dP fun b=>gd b (shift f 0 S fun dQ S=>stN 1 dQ (.v (.int .i64 7)) S fun dR S=>ldN 5 f S fun dS S=>stN 5 d dS S fun dT S=>ldN 5 d S fun dU _=>Q (.ret dU) S) (ldN 5 f S fun dV S=>stN 5 d dV S fun dW S=>ldN 5 d S fun dX _=>Q (.ret dX) S)) (bin .eql 0 q (.v (.int .i64 16)) S fun dY S=>onB dY fun b=>gd b (onB dY fun b=>gd b (shift f 0 S fun dZ S=>stN 1 dZ (.v (.int .i64 7)) S fun eA S=>ldN 5 f S fun eB S=>stN 5 d eB S fun eC S=>ldN 5 d S fun eD _=>Q (.ret eD) S) (ldN 5 f S fun eE S=>stN 5 d eE S fun eF S=>ldN 5 d S fun eG _=>Q (.ret eG) S)) (bin .eql 0 q (.v (.int .i64 18)) S fun eH S=>onB eH fun b=>gd b (shift f 0 S fun eI S=>stN 1 eI (.v (.int .i64 7)) S fun eJ S=>ldN 5 f S fun eK S=>stN 5 d eK S fun eL S=>ldN 5 d S fun eM _=>Q (.ret eM) S) (ldN 5 f S fun eN S=>stN 5 d eN S fun eO S=>ldN 5 d S fun eP _=>Q (.ret eP) S)))))))))))))
theorem calls50{x0 x1 x2 x3:AV}{S:Store}{Q:PoT}(h:m50 x0 x1 x2 x3 S Q):ACalls Pg 50 [x0,x1,x2,x3] S Q:=
 calls_of_vc (fn:=Tryz.f50) (c:=c50) (n:=306) Tryz.func50 (by kernel_rfl) (by kernel_rfl) (by kernel_rfl) ms50 (Eq.mpr (by kernel_rfl) h)
def b50_0(y0 y3 y5 y8 y9 y10 y13:AV)(S:Store)(KE0:KeT)(Q:PoT):Prop:=
 bin .gtr 0 y13 (.v (.int .i64 0)) S fun a S=>onB a fun b=>gd b (∃ c:AV,(∀ T:Store,Keep S T→shift y9 3 T fun d S=>d=c∧S=T)∧∃ e:AV,(∀ T:Store,Keep S T→ld1 c T fun f S=>f=e∧S=T)∧∃ g:AV,(∀ T:Store,Keep S T→shift y9 3 T fun h S=>h=g∧S=T)∧∃ i:AV,(∀ T:Store,Keep S T→ld1 g T fun k S=>k=i∧S=T)∧∃ l:AV,(∀ T:Store,Keep S T→shift y9 3 T fun m S=>m=l∧S=T)∧∃ n:AV,(∀ T:Store,Keep S T→ld1 l T fun o S=>o=n∧S=T)∧∃ q:AV,(∀ T:Store,Keep S T→lenS n T fun r S=>r=q∧S=T)∧∃ s:AV,(∀ T:Store,Keep S T→bin .sub 0 q (.v (.int .i64 1)) T fun t S=>t=s∧S=T)∧∃ u:AV,(∀ T:Store,Keep S T→ixS 3 1 i s T fun w S=>w=u∧S=T)∧∃ x:AV,(∀ T:Store,Keep S T→ld1 u T fun y S=>y=x∧S=T)∧callF Pg 83 [y0,x] S (fun _ _=>False) fun z S=>(∀ T:Store,Keep S T→ld1 c T fun A S=>A=e∧S=T)∧(∀ T:Store,Keep S T→shift y9 3 T fun B S=>B=c∧S=T)∧∃ C:AV,(∀ T:Store,Keep S T→bslN 3 1 1 [.v (.int .i64 0)] [(0,z)] T fun D S=>D=C∧S=T)∧appS 3 1 8 e C S fun E S=>∃ F:AV,(∀ T:Store,Keep S T→shift y9 3 T fun G S=>G=F∧S=T)∧stN 1 F E S fun H S=>bin .sub 0 y13 (.v (.int .i64 1)) S fun I S=>KE0 306 (env50_0 y0 y3 y5 y8 y9 y10 I) S) (∃ J:AV,(∀ T:Store,Keep S T→ldN 4 y10 T fun K S=>K=J∧S=T)∧∃ L:AV,(∀ T:Store,Keep S T→shift y5 3 T fun M S=>M=L∧S=T)∧∃ N:AV,(∀ T:Store,Keep S T→ld1 L T fun O S=>O=N∧S=T)∧∃ P:AV,(∀ T:Store,Keep S T→shift y5 3 T fun R S=>R=P∧S=T)∧∃ U:AV,(∀ T:Store,Keep S T→ld1 P T fun V S=>V=U∧S=T)∧∃ W:AV,(∀ T:Store,Keep S T→lenS U T fun X S=>X=W∧S=T)∧∃ Y:AV,(∀ T:Store,Keep S T→bin .sub 0 W (.v (.int .i64 1)) T fun Z S=>Z=Y∧S=T)∧∃ a0:AV,(∀ T:Store,Keep S T→ixS 24 4 N Y T fun a1 S=>a1=a0∧S=T)∧∃ a2:AV,(∀ T:Store,Keep S T→ldN 4 a0 T fun a3 S=>a3=a2∧S=T)∧newsV [(.cells 24 [[.v (.int .i64 0),.v (.string ByteArray.empty),.v (.int .i64 0),.nl]] true),(.cells 24 [[.v (.int .i64 0),.v (.string ByteArray.empty),.v (.int .i64 0),.nl]] true)] S fun ids355 S=>stN 4 (.p (ids355.headD 0) 0 0) J S fun a4 S=>(∀ T:Store,Keep S T→ldN 4 a0 T fun a5 S=>a5=a2∧S=T)∧(∀ T:Store,Keep S T→ixS 24 4 N Y T fun a6 S=>a6=a0∧S=T)∧(∀ T:Store,Keep S T→bin .sub 0 W (.v (.int .i64 1)) T fun a7 S=>a7=Y∧S=T)∧(∀ T:Store,Keep S T→lenS U T fun a8 S=>a8=W∧S=T)∧(∀ T:Store,Keep S T→ld1 P T fun a9 S=>a9=U∧S=T)∧(∀ T:Store,Keep S T→shift y5 3 T fun b0 S=>b0=P∧S=T)∧(∀ T:Store,Keep S T→ld1 L T fun b1 S=>b1=N∧S=T)∧(∀ T:Store,Keep S T→shift y5 3 T fun b2 S=>b2=L∧S=T)∧stN 4 (.p (ids355.tail.headD 0) 0 0) a2 S fun b3 S=>shift y5 0 S fun b4 S=>ld1 b4 S fun b5 S=>bin .eql 0 b5 (.v (.int .i64 15)) S fun b6 S=>onB b6 fun b=>gd b (shift y5 3 S fun b7 S=>ld1 b7 S fun b8 S=>ixS 24 4 b8 (.v (.int .i64 0)) S fun b9 S=>ldN 4 b9 S fun c0 S=>stN 4 (.p (ids355.headD 0) 0 0) c0 S fun c1 S=>shift y9 3 S fun c2 S=>ld1 c2 S fun c3 S=>lenS c3 S fun c4 S=>bin .sub 0 c4 (.v (.int .i64 1)) S fun c5 S=>loopV lv50_2 (vc Pg (c50.at_ [1,1,1,1,0,1,0,1,1,1,1,1,1,1,1,1,0,1,1,1,1,1,0,1,0,0]) (ms50.drop 2)) 306 (env50_2 y0 y3 y8 y9 y10 (.p (ids355.headD 0) 0 0) (.p (ids355.tail.headD 0) 0 0) c5 (.v (.int .i64 0))) S (blockK 3 (seqK (vc Pg (c50.at_ [1,1,1,1,0,1,0,1,1,1,1,1,1,1,1,1,0,1,1,1,1,1,1]) (ms50.drop 2)) (blockK 0 (seqK (vc Pg (c50.at_ [1,1,1,1,1]) (ms50.drop 5)) (bodyK Pg r50 Q)))))) (shift y9 3 S fun c6 S=>ld1 c6 S fun c7 S=>lenS c7 S fun c8 S=>bin .sub 0 c8 (.v (.int .i64 1)) S fun c9 S=>loopV lv50_2 (vc Pg (c50.at_ [1,1,1,1,0,1,0,1,1,1,1,1,1,1,1,1,0,1,1,1,1,1,0,1,0,0]) (ms50.drop 2)) 306 (env50_2 y0 y3 y8 y9 y10 (.p (ids355.headD 0) 0 0) (.p (ids355.tail.headD 0) 0 0) c9 (.v (.int .i64 0))) S (blockK 3 (seqK (vc Pg (c50.at_ [1,1,1,1,0,1,0,1,1,1,1,1,1,1,1,1,0,1,1,1,1,1,1]) (ms50.drop 2)) (blockK 0 (seqK (vc Pg (c50.at_ [1,1,1,1,1]) (ms50.drop 5)) (bodyK Pg r50 Q)))))))
theorem b50_0_eq(y0 y3 y5 y8 y9 y10 y13:AV)(S:Store)(KE0:KeT)(Q:PoT):vc Pg (c50.at_ [1,1,1,1,0,1,0,1,1,1,1,1,1,1,1,1,0,1,0,1,0,0]) (ms50.drop 1) (mkE 306 lv50_0 (env50_0 y0 y3 y5 y8 y9 y10 y13)) S (thenK (fgK lv50_0 KE0) (blockK 1 (seqK (vc Pg (c50.at_ [1,1,1,1,0,1,0,1,1,1,1,1,1,1,1,1,0,1,1]) (ms50.drop 1)) (blockK 0 (seqK (vc Pg (c50.at_ [1,1,1,1,1]) (ms50.drop 5)) (bodyK Pg r50 Q))))))=b50_0 y0 y3 y5 y8 y9 y10 y13 S KE0 Q:=by kernel_rfl
theorem loop50_0{y0 y3 y5 y8 y9 y10:AV}{y130:AV}{S:Store}{Q:PoT}(I:AV→Store→Prop)(μ:AV→Store→Nat)(h0:I y130 S)
    (hr:∀(y13:AV) (S:Store),I y13 S→∀ KE0:KeT,(∀(y13':AV) (S':Store),I y13' S'→μ y13' S'<μ y13 S→KE0 306 (env50_0 y0 y3 y5 y8 y9 y10 y13') S')→b50_0 y0 y3 y5 y8 y9 y10 y13 S KE0 Q):
    loopV lv50_0 (vc Pg (c50.at_ [1,1,1,1,0,1,0,1,1,1,1,1,1,1,1,1,0,1,0,1,0,0]) (ms50.drop 1)) 306 (env50_0 y0 y3 y5 y8 y9 y10 y130) S (blockK 1 (seqK (vc Pg (c50.at_ [1,1,1,1,0,1,0,1,1,1,1,1,1,1,1,1,0,1,1]) (ms50.drop 1)) (blockK 0 (seqK (vc Pg (c50.at_ [1,1,1,1,1]) (ms50.drop 5)) (bodyK Pg r50 Q))))):=by
 refine⟨fun n e S=>n=306∧∃ y13:AV,e=(env50_0 y0 y3 y5 y8 y9 y10 y13)∧I y13 S,fun _ e S=>μ (e.getD 6 .j) S,?_,?_⟩
 ·exact⟨_,_,Wk.refl _ _,rfl,_,rfl,h0⟩
 ·rintro _ e S ⟨rfl,y13,rfl,hI⟩
  exact(b50_0_eq _ _ _ _ _ _ _ _ _ _).mpr (hr y13 S hI _ (fun y13' S' hI' hm=>⟨_,_,Wk.refl _ _,⟨rfl,_,rfl,hI'⟩,hm⟩))
def b50_1(y0 y3 y5 y8 y9 y18:AV)(S:Store)(KE1:KeT)(Q:PoT):Prop:=
 bin .gtr 0 y18 (.v (.int .i64 0)) S fun a S=>onB a fun b=>gd b (shift y9 3 S fun c S=>ld1 c S fun d S=>shift y9 3 S fun e S=>ld1 e S fun f S=>lenS f S fun g S=>bin .sub 0 g (.v (.int .i64 1)) S fun h S=>ixS 3 1 d h S fun i S=>ld1 i S fun k S=>callF Pg 83 [y0,k] S Q fun l S=>loopV lv50_3 (vc Pg (c50.at_ [1,1,1,1,0,1,0,1,1,1,1,1,1,1,1,1,1,1,0,1,0,1,0,0,1,0,0,1,1,0,1,0,0]) (ms50.drop 4)) 306 (env50_3 y0 y3 y5 y8 y9 y18 l (.v (.int .i64 (-1))) (.v (.int .i64 0))) S (blockK 7 (seqK (vc Pg (c50.at_ [1,1,1,1,0,1,0,1,1,1,1,1,1,1,1,1,1,1,0,1,0,1,0,0,1,0,0,1,1,1]) (ms50.drop 4)) (blockK 6 (seqK (vc Pg (c50.at_ [1,1,1,1,0,1,0,1,1,1,1,1,1,1,1,1,1,1,0,1,0,1,0,0,1,1]) (ms50.drop 4)) (thenK (fgK lv50_1 KE1) (blockK 5 (seqK (vc Pg (c50.at_ [1,1,1,1,0,1,0,1,1,1,1,1,1,1,1,1,1,1,0,1,1]) (ms50.drop 4)) (blockK 0 (seqK (vc Pg (c50.at_ [1,1,1,1,1]) (ms50.drop 5)) (bodyK Pg r50 Q))))))))))) (loopV lv50_4 (vc Pg (c50.at_ [1,1,1,1,0,1,0,1,1,1,1,1,1,1,1,1,1,1,0,1,1,1,0,0]) (ms50.drop 5)) 306 (env50_4 y0 y3 y5 y8 y9 (.v (.int .i64 0))) S (blockK 9 (blockK 0 (seqK (vc Pg (c50.at_ [1,1,1,1,1]) (ms50.drop 5)) (bodyK Pg r50 Q)))))
theorem b50_1_eq(y0 y3 y5 y8 y9 y18:AV)(S:Store)(KE1:KeT)(Q:PoT):vc Pg (c50.at_ [1,1,1,1,0,1,0,1,1,1,1,1,1,1,1,1,1,1,0,1,0,1,0,0]) (ms50.drop 3) (mkE 306 lv50_1 (env50_1 y0 y3 y5 y8 y9 y18)) S (thenK (fgK lv50_1 KE1) (blockK 5 (seqK (vc Pg (c50.at_ [1,1,1,1,0,1,0,1,1,1,1,1,1,1,1,1,1,1,0,1,1]) (ms50.drop 4)) (blockK 0 (seqK (vc Pg (c50.at_ [1,1,1,1,1]) (ms50.drop 5)) (bodyK Pg r50 Q))))))=b50_1 y0 y3 y5 y8 y9 y18 S KE1 Q:=by kernel_rfl
theorem loop50_1{y0 y3 y5 y8 y9:AV}{y180:AV}{S:Store}{Q:PoT}(I:AV→Store→Prop)(μ:AV→Store→Nat)(h0:I y180 S)
    (hr:∀(y18:AV) (S:Store),I y18 S→∀ KE1:KeT,(∀(y18':AV) (S':Store),I y18' S'→μ y18' S'<μ y18 S→KE1 306 (env50_1 y0 y3 y5 y8 y9 y18') S')→b50_1 y0 y3 y5 y8 y9 y18 S KE1 Q):
    loopV lv50_1 (vc Pg (c50.at_ [1,1,1,1,0,1,0,1,1,1,1,1,1,1,1,1,1,1,0,1,0,1,0,0]) (ms50.drop 3)) 306 (env50_1 y0 y3 y5 y8 y9 y180) S (blockK 5 (seqK (vc Pg (c50.at_ [1,1,1,1,0,1,0,1,1,1,1,1,1,1,1,1,1,1,0,1,1]) (ms50.drop 4)) (blockK 0 (seqK (vc Pg (c50.at_ [1,1,1,1,1]) (ms50.drop 5)) (bodyK Pg r50 Q))))):=by
 refine⟨fun n e S=>n=306∧∃ y18:AV,e=(env50_1 y0 y3 y5 y8 y9 y18)∧I y18 S,fun _ e S=>μ (e.getD 5 .j) S,?_,?_⟩
 ·exact⟨_,_,Wk.refl _ _,rfl,_,rfl,h0⟩
 ·rintro _ e S ⟨rfl,y18,rfl,hI⟩
  exact(b50_1_eq _ _ _ _ _ _ _ _ _).mpr (hr y18 S hI _ (fun y18' S' hI' hm=>⟨_,_,Wk.refl _ _,⟨rfl,_,rfl,hI'⟩,hm⟩))
def b50_2(y0 y3 y8 y9 y10 y14 y15 y16 y17:AV)(S:Store)(KE2:KeT)(Q:PoT):Prop:=
 bin .lss 0 y17 y16 S fun a S=>onB a fun b=>gd b (∃ c:AV,(∀ T:Store,Keep S T→shift y9 4 T fun d S=>d=c∧S=T)∧∃ e:AV,(∀ T:Store,Keep S T→ld1 c T fun f S=>f=e∧S=T)∧∃ g:AV,(∀ T:Store,Keep S T→ldN 4 y14 T fun h S=>h=g∧S=T)∧∃ i:AV,(∀ T:Store,Keep S T→shift y9 3 T fun k S=>k=i∧S=T)∧∃ l:AV,(∀ T:Store,Keep S T→ld1 i T fun m S=>m=l∧S=T)∧∃ n:AV,(∀ T:Store,Keep S T→ixS 3 1 l y17 T fun o S=>o=n∧S=T)∧∃ p:AV,(∀ T:Store,Keep S T→ld1 n T fun q S=>q=p∧S=T)∧∃ r:AV,(∀ T:Store,Keep S T→bin .sub 0 y3 (.v (.int .i64 1)) T fun s S=>s=r∧S=T)∧callF Pg 50 [y0,g,p,r] S (fun _ _=>False) fun t S=>(∀ T:Store,Keep S T→ld1 c T fun u S=>u=e∧S=T)∧(∀ T:Store,Keep S T→shift y9 4 T fun w S=>w=c∧S=T)∧∃ x:AV,(∀ T:Store,Keep S T→bslN 37 5 1 [.v (.int .i64 0),.v (.int .i64 0),.v (.int .i64 0),.nl,.nl] [(0,t)] T fun y S=>y=x∧S=T)∧appS 37 5 72 e x S fun z S=>∃ A:AV,(∀ T:Store,Keep S T→shift y9 4 T fun B S=>B=A∧S=T)∧stN 1 A z S fun C S=>bin .add 0 y17 (.v (.int .i64 1)) S fun D S=>KE2 306 (env50_2 y0 y3 y8 y9 y10 y14 y15 y16 D) S) (∃ E:AV,(∀ T:Store,Keep S T→shift y9 4 T fun F S=>F=E∧S=T)∧∃ G:AV,(∀ T:Store,Keep S T→ld1 E T fun H S=>H=G∧S=T)∧∃ I:AV,(∀ T:Store,Keep S T→ldN 4 y15 T fun J S=>J=I∧S=T)∧∃ K:AV,(∀ T:Store,Keep S T→shift y9 3 T fun L S=>L=K∧S=T)∧∃ M:AV,(∀ T:Store,Keep S T→ld1 K T fun N S=>N=M∧S=T)∧∃ O:AV,(∀ T:Store,Keep S T→ixS 3 1 M y16 T fun P S=>P=O∧S=T)∧∃ R:AV,(∀ T:Store,Keep S T→ld1 O T fun U S=>U=R∧S=T)∧∃ V:AV,(∀ T:Store,Keep S T→bin .sub 0 y3 (.v (.int .i64 1)) T fun W S=>W=V∧S=T)∧∃ X:AV,(∀ T:Store,Keep S T→ldN 4 y10 T fun Y S=>Y=X∧S=T)∧∃ Z:AV,(∀ T:Store,Keep S T→shift y9 3 T fun a0 S=>a0=Z∧S=T)∧∃ a1:AV,(∀ T:Store,Keep S T→ld1 Z T fun a2 S=>a2=a1∧S=T)∧∃ a3:AV,(∀ T:Store,Keep S T→ixS 3 1 a1 y16 T fun a4 S=>a4=a3∧S=T)∧∃ a5:AV,(∀ T:Store,Keep S T→ld1 a3 T fun a6 S=>a6=a5∧S=T)∧∃ a7:AV,(∀ T:Store,Keep S T→bin .sub 0 y3 (.v (.int .i64 1)) T fun a8 S=>a8=a7∧S=T)∧callF Pg 50 [y0,I,R,V] S (fun _ _=>False) fun a9 S=>(∀ T:Store,Keep S T→bin .sub 0 y3 (.v (.int .i64 1)) T fun b0 S=>b0=a7∧S=T)∧(∀ T:Store,Keep S T→ld1 a3 T fun b1 S=>b1=a5∧S=T)∧(∀ T:Store,Keep S T→ixS 3 1 a1 y16 T fun b2 S=>b2=a3∧S=T)∧(∀ T:Store,Keep S T→ld1 Z T fun b3 S=>b3=a1∧S=T)∧(∀ T:Store,Keep S T→shift y9 3 T fun b4 S=>b4=Z∧S=T)∧(∀ T:Store,Keep S T→ldN 4 y10 T fun b5 S=>b5=X∧S=T)∧(∀ T:Store,Keep S T→ld1 E T fun b6 S=>b6=G∧S=T)∧(∀ T:Store,Keep S T→shift y9 4 T fun b7 S=>b7=E∧S=T)∧∃ b8:AV,(∀ T:Store,Keep S T→callF Pg 81 [X] T (fun _ _=>False) fun b9 S=>b9=b8∧S=T)∧callF Pg 50 [y0,b8,a5,a7] S (fun _ _=>False) fun c0 S=>(∀ T:Store,Keep S T→ld1 E T fun c1 S=>c1=G∧S=T)∧(∀ T:Store,Keep S T→shift y9 4 T fun c2 S=>c2=E∧S=T)∧∃ c3:AV,(∀ T:Store,Keep S T→bslN 37 5 2 [.v (.int .i64 0),.v (.int .i64 0),.v (.int .i64 0),.nl,.nl] [(0,a9),(1,c0)] T fun c4 S=>c4=c3∧S=T)∧appS 37 5 72 G c3 S fun c5 S=>∃ c6:AV,(∀ T:Store,Keep S T→shift y9 4 T fun c7 S=>c7=c6∧S=T)∧stN 1 c6 c5 S fun c8 S=>ldN 5 y9 S fun c9 S=>stN 5 y8 c9 S fun d0 S=>ldN 5 y8 S fun d1 _=>Q (.ret d1) S)
theorem b50_2_eq(y0 y3 y8 y9 y10 y14 y15 y16 y17:AV)(S:Store)(KE2:KeT)(Q:PoT):vc Pg (c50.at_ [1,1,1,1,0,1,0,1,1,1,1,1,1,1,1,1,0,1,1,1,1,1,0,1,0,0]) (ms50.drop 2) (mkE 306 lv50_2 (env50_2 y0 y3 y8 y9 y10 y14 y15 y16 y17)) S (thenK (fgK lv50_2 KE2) (blockK 3 (seqK (vc Pg (c50.at_ [1,1,1,1,0,1,0,1,1,1,1,1,1,1,1,1,0,1,1,1,1,1,1]) (ms50.drop 2)) (blockK 0 (seqK (vc Pg (c50.at_ [1,1,1,1,1]) (ms50.drop 5)) (bodyK Pg r50 Q))))))=b50_2 y0 y3 y8 y9 y10 y14 y15 y16 y17 S KE2 Q:=by kernel_rfl
theorem loop50_2{y0 y3 y8 y9 y10 y14 y15 y16:AV}{y170:AV}{S:Store}{Q:PoT}(I:AV→Store→Prop)(μ:AV→Store→Nat)(h0:I y170 S)
    (hr:∀(y17:AV) (S:Store),I y17 S→∀ KE2:KeT,(∀(y17':AV) (S':Store),I y17' S'→μ y17' S'<μ y17 S→KE2 306 (env50_2 y0 y3 y8 y9 y10 y14 y15 y16 y17') S')→b50_2 y0 y3 y8 y9 y10 y14 y15 y16 y17 S KE2 Q):
    loopV lv50_2 (vc Pg (c50.at_ [1,1,1,1,0,1,0,1,1,1,1,1,1,1,1,1,0,1,1,1,1,1,0,1,0,0]) (ms50.drop 2)) 306 (env50_2 y0 y3 y8 y9 y10 y14 y15 y16 y170) S (blockK 3 (seqK (vc Pg (c50.at_ [1,1,1,1,0,1,0,1,1,1,1,1,1,1,1,1,0,1,1,1,1,1,1]) (ms50.drop 2)) (blockK 0 (seqK (vc Pg (c50.at_ [1,1,1,1,1]) (ms50.drop 5)) (bodyK Pg r50 Q))))):=by
 refine⟨fun n e S=>n=306∧∃ y17:AV,e=(env50_2 y0 y3 y8 y9 y10 y14 y15 y16 y17)∧I y17 S,fun _ e S=>μ (e.getD 8 .j) S,?_,?_⟩
 ·exact⟨_,_,Wk.refl _ _,rfl,_,rfl,h0⟩
 ·rintro _ e S ⟨rfl,y17,rfl,hI⟩
  exact(b50_2_eq _ _ _ _ _ _ _ _ _ _ _ _).mpr (hr y17 S hI _ (fun y17' S' hI' hm=>⟨_,_,Wk.refl _ _,⟨rfl,_,rfl,hI'⟩,hm⟩))
def b50_3(y0 y3 y5 y8 y9 y18 y19 y20 y21:AV)(S:Store)(KE3:KeT)(KE1:KeT)(Q:PoT):Prop:=
 shift y9 3 S fun a S=>ld1 a S fun c S=>lenS c S fun d S=>bin .lss 0 y21 d S fun e S=>onB e fun b=>gd b (shift y9 3 S fun f S=>ld1 f S fun g S=>ixS 3 1 g y21 S fun h S=>ld1 h S fun i S=>bin .eql 0 i y19 S fun k S=>onB k fun b=>gd b (bin .add 0 y21 (.v (.int .i64 1)) S fun l S=>KE3 306 (env50_3 y0 y3 y5 y8 y9 y18 y19 y21 l) S) (bin .add 0 y21 (.v (.int .i64 1)) S fun m S=>KE3 306 (env50_3 y0 y3 y5 y8 y9 y18 y19 y20 m) S)) (bin .geq 0 y20 (.v (.int .i64 0)) S fun n S=>onB n fun b=>gd b (bin .lss 0 y18 (.v (.int .i64 4)) S fun o S=>onB o fun b=>gd b (shift y9 2 S fun p S=>stN 1 p y20 S fun q S=>loopV lv50_4 (vc Pg (c50.at_ [1,1,1,1,0,1,0,1,1,1,1,1,1,1,1,1,1,1,0,1,1,1,0,0]) (ms50.drop 5)) 306 (env50_4 y0 y3 y5 y8 y9 (.v (.int .i64 0))) S (blockK 9 (blockK 0 (seqK (vc Pg (c50.at_ [1,1,1,1,1]) (ms50.drop 5)) (bodyK Pg r50 Q))))) (shift y9 3 S fun r S=>ld1 r S fun s S=>bslN 3 1 1 [.v (.int .i64 0)] [(0,y19)] S fun t S=>appS 3 1 8 s t S fun u S=>shift y9 3 S fun w S=>stN 1 w u S fun x S=>bin .sub 0 y18 (.v (.int .i64 1)) S fun y S=>KE1 306 (env50_1 y0 y3 y5 y8 y9 y) S)) (shift y9 3 S fun z S=>ld1 z S fun A S=>bslN 3 1 1 [.v (.int .i64 0)] [(0,y19)] S fun B S=>appS 3 1 8 A B S fun C S=>shift y9 3 S fun D S=>stN 1 D C S fun E S=>bin .sub 0 y18 (.v (.int .i64 1)) S fun F S=>KE1 306 (env50_1 y0 y3 y5 y8 y9 F) S))
theorem b50_3_eq(y0 y3 y5 y8 y9 y18 y19 y20 y21:AV)(S:Store)(KE3:KeT)(KE1:KeT)(Q:PoT):vc Pg (c50.at_ [1,1,1,1,0,1,0,1,1,1,1,1,1,1,1,1,1,1,0,1,0,1,0,0,1,0,0,1,1,0,1,0,0]) (ms50.drop 4) (mkE 306 lv50_3 (env50_3 y0 y3 y5 y8 y9 y18 y19 y20 y21)) S (thenK (fgK lv50_3 KE3) (blockK 7 (seqK (vc Pg (c50.at_ [1,1,1,1,0,1,0,1,1,1,1,1,1,1,1,1,1,1,0,1,0,1,0,0,1,0,0,1,1,1]) (ms50.drop 4)) (blockK 6 (seqK (vc Pg (c50.at_ [1,1,1,1,0,1,0,1,1,1,1,1,1,1,1,1,1,1,0,1,0,1,0,0,1,1]) (ms50.drop 4)) (thenK (fgK lv50_1 KE1) (blockK 5 (seqK (vc Pg (c50.at_ [1,1,1,1,0,1,0,1,1,1,1,1,1,1,1,1,1,1,0,1,1]) (ms50.drop 4)) (blockK 0 (seqK (vc Pg (c50.at_ [1,1,1,1,1]) (ms50.drop 5)) (bodyK Pg r50 Q)))))))))))=b50_3 y0 y3 y5 y8 y9 y18 y19 y20 y21 S KE3 KE1 Q:=by kernel_rfl
theorem loop50_3{y0 y3 y5 y8 y9 y18 y19:AV}{y200 y210:AV}{S:Store}{KE1:KeT}{Q:PoT}(I:AV→AV→Store→Prop)(μ:AV→AV→Store→Nat)(h0:I y200 y210 S)
    (hr:∀(y20 y21:AV) (S:Store),I y20 y21 S→∀ KE3:KeT,(∀(y20' y21':AV) (S':Store),I y20' y21' S'→μ y20' y21' S'<μ y20 y21 S→KE3 306 (env50_3 y0 y3 y5 y8 y9 y18 y19 y20' y21') S')→b50_3 y0 y3 y5 y8 y9 y18 y19 y20 y21 S KE3 KE1 Q):
    loopV lv50_3 (vc Pg (c50.at_ [1,1,1,1,0,1,0,1,1,1,1,1,1,1,1,1,1,1,0,1,0,1,0,0,1,0,0,1,1,0,1,0,0]) (ms50.drop 4)) 306 (env50_3 y0 y3 y5 y8 y9 y18 y19 y200 y210) S (blockK 7 (seqK (vc Pg (c50.at_ [1,1,1,1,0,1,0,1,1,1,1,1,1,1,1,1,1,1,0,1,0,1,0,0,1,0,0,1,1,1]) (ms50.drop 4)) (blockK 6 (seqK (vc Pg (c50.at_ [1,1,1,1,0,1,0,1,1,1,1,1,1,1,1,1,1,1,0,1,0,1,0,0,1,1]) (ms50.drop 4)) (thenK (fgK lv50_1 KE1) (blockK 5 (seqK (vc Pg (c50.at_ [1,1,1,1,0,1,0,1,1,1,1,1,1,1,1,1,1,1,0,1,1]) (ms50.drop 4)) (blockK 0 (seqK (vc Pg (c50.at_ [1,1,1,1,1]) (ms50.drop 5)) (bodyK Pg r50 Q)))))))))):=by
 refine⟨fun n e S=>n=306∧∃ y20 y21:AV,e=(env50_3 y0 y3 y5 y8 y9 y18 y19 y20 y21)∧I y20 y21 S,fun _ e S=>μ (e.getD 7 .j) (e.getD 8 .j) S,?_,?_⟩
 ·exact⟨_,_,Wk.refl _ _,rfl,_,_,rfl,h0⟩
 ·rintro _ e S ⟨rfl,y20,y21,rfl,hI⟩
  exact(b50_3_eq _ _ _ _ _ _ _ _ _ _ _ _ _).mpr (hr y20 y21 S hI _ (fun y20' y21' S' hI' hm=>⟨_,_,Wk.refl _ _,⟨rfl,_,_,rfl,hI'⟩,hm⟩))
def b50_4(y0 y3 y5 y8 y9 y22:AV)(S:Store)(KE4:KeT)(Q:PoT):Prop:=
 shift y9 3 S fun a S=>ld1 a S fun c S=>lenS c S fun d S=>bin .lss 0 y22 d S fun e S=>onB e fun b=>gd b (∃ f:AV,(∀ T:Store,Keep S T→shift y9 4 T fun g S=>g=f∧S=T)∧∃ h:AV,(∀ T:Store,Keep S T→ld1 f T fun i S=>i=h∧S=T)∧∃ k:AV,(∀ T:Store,Keep S T→shift y5 3 T fun l S=>l=k∧S=T)∧∃ m:AV,(∀ T:Store,Keep S T→ld1 k T fun n S=>n=m∧S=T)∧∃ o:AV,(∀ T:Store,Keep S T→ixS 24 4 m (.v (.int .i64 0)) T fun p S=>p=o∧S=T)∧∃ q:AV,(∀ T:Store,Keep S T→ldN 4 o T fun r S=>r=q∧S=T)∧∃ s:AV,(∀ T:Store,Keep S T→shift y9 3 T fun t S=>t=s∧S=T)∧∃ u:AV,(∀ T:Store,Keep S T→ld1 s T fun w S=>w=u∧S=T)∧∃ x:AV,(∀ T:Store,Keep S T→ixS 3 1 u y22 T fun y S=>y=x∧S=T)∧∃ z:AV,(∀ T:Store,Keep S T→ld1 x T fun A S=>A=z∧S=T)∧∃ B:AV,(∀ T:Store,Keep S T→bin .sub 0 y3 (.v (.int .i64 1)) T fun C S=>C=B∧S=T)∧callF Pg 50 [y0,q,z,B] S (fun _ _=>False) fun D S=>(∀ T:Store,Keep S T→ld1 f T fun E S=>E=h∧S=T)∧(∀ T:Store,Keep S T→shift y9 4 T fun F S=>F=f∧S=T)∧∃ G:AV,(∀ T:Store,Keep S T→bslN 37 5 1 [.v (.int .i64 0),.v (.int .i64 0),.v (.int .i64 0),.nl,.nl] [(0,D)] T fun H S=>H=G∧S=T)∧appS 37 5 72 h G S fun I S=>∃ J:AV,(∀ T:Store,Keep S T→shift y9 4 T fun K S=>K=J∧S=T)∧stN 1 J I S fun L S=>bin .add 0 y22 (.v (.int .i64 1)) S fun M S=>KE4 306 (env50_4 y0 y3 y5 y8 y9 M) S) (ldN 5 y9 S fun N S=>stN 5 y8 N S fun O S=>ldN 5 y8 S fun P _=>Q (.ret P) S)
theorem b50_4_eq(y0 y3 y5 y8 y9 y22:AV)(S:Store)(KE4:KeT)(Q:PoT):vc Pg (c50.at_ [1,1,1,1,0,1,0,1,1,1,1,1,1,1,1,1,1,1,0,1,1,1,0,0]) (ms50.drop 5) (mkE 306 lv50_4 (env50_4 y0 y3 y5 y8 y9 y22)) S (thenK (fgK lv50_4 KE4) (blockK 9 (blockK 0 (seqK (vc Pg (c50.at_ [1,1,1,1,1]) (ms50.drop 5)) (bodyK Pg r50 Q)))))=b50_4 y0 y3 y5 y8 y9 y22 S KE4 Q:=by kernel_rfl
theorem loop50_4{y0 y3 y5 y8 y9:AV}{y220:AV}{S:Store}{Q:PoT}(I:AV→Store→Prop)(μ:AV→Store→Nat)(h0:I y220 S)
    (hr:∀(y22:AV) (S:Store),I y22 S→∀ KE4:KeT,(∀(y22':AV) (S':Store),I y22' S'→μ y22' S'<μ y22 S→KE4 306 (env50_4 y0 y3 y5 y8 y9 y22') S')→b50_4 y0 y3 y5 y8 y9 y22 S KE4 Q):
    loopV lv50_4 (vc Pg (c50.at_ [1,1,1,1,0,1,0,1,1,1,1,1,1,1,1,1,1,1,0,1,1,1,0,0]) (ms50.drop 5)) 306 (env50_4 y0 y3 y5 y8 y9 y220) S (blockK 9 (blockK 0 (seqK (vc Pg (c50.at_ [1,1,1,1,1]) (ms50.drop 5)) (bodyK Pg r50 Q)))):=by
 refine⟨fun n e S=>n=306∧∃ y22:AV,e=(env50_4 y0 y3 y5 y8 y9 y22)∧I y22 S,fun _ e S=>μ (e.getD 5 .j) S,?_,?_⟩
 ·exact⟨_,_,Wk.refl _ _,rfl,_,rfl,h0⟩
 ·rintro _ e S ⟨rfl,y22,rfl,hI⟩
  exact(b50_4_eq _ _ _ _ _ _ _ _ _).mpr (hr y22 S hI _ (fun y22' S' hI' hm=>⟨_,_,Wk.refl _ _,⟨rfl,_,rfl,hI'⟩,hm⟩))
def c26:Code:=(Tryz.f26.body).getD .skip
def ms26:List (List Nat):=[[51,50]]
def m26(x0 x1 x2:AV)(S:Store)(Q:PoT):Prop:=
 boxN 42 8 x0 S fun c S=>boxN 24 4 x1 S fun d S=>boxN 37 5 (.a [.v (.int .i64 0),.v (.int .i64 0),.v (.int .i64 0),.nl,.nl]) S fun e S=>ldN 8 c S fun f S=>bld [(0,8),(8,1),(9,1)] [.v (.int .i64 0),.nl,.nl,.nl,.nl,.nl,.nl,.nl,.nl,.v (.int .i64 0)] [(0,f),(1,x2)] S fun g S=>boxN 93 10 g S fun h S=>∃ i:AV,(∀ T:Store,Keep S T→ldN 4 d T fun k S=>k=i∧S=T)∧∃ l:AV,(∀ T:Store,Keep S T→callF Pg 22 [i] T (fun _ _=>False) fun m S=>m=l∧S=T)∧∃ n:AV,(∀ T:Store,Keep S T→shift c 0 T fun o S=>o=n∧S=T)∧∃ p:AV,(∀ T:Store,Keep S T→ld1 n T fun q S=>q=p∧S=T)∧∃ r:AV,(∀ T:Store,Keep S T→shift c 1 T fun s S=>s=r∧S=T)∧∃ t:AV,(∀ T:Store,Keep S T→ld1 r T fun u S=>u=t∧S=T)∧∃ w:AV,(∀ T:Store,Keep S T→lenS t T fun x S=>x=w∧S=T)∧∃ y:AV,(∀ T:Store,Keep S T→bin .add 0 p w T fun z S=>z=y∧S=T)∧∃ A:AV,(∀ T:Store,Keep S T→bin .shl 0 (.v (.int .i64 1)) y T fun B S=>B=A∧S=T)∧callF Pg 51 [h,A] S (fun _ _=>False) fun C S=>callF Pg 50 [h,l,C,.v (.int .i64 8)] S (fun _ _=>False) fun D S=>stN 5 e D S fun E S=>ldN 5 e S fun F _=>Q (.ret F) S
theorem calls26{x0 x1 x2:AV}{S:Store}{Q:PoT}(h:m26 x0 x1 x2 S Q):ACalls Pg 26 [x0,x1,x2] S Q:=
 calls_of_vc (fn:=Tryz.f26) (c:=c26) (n:=25) Tryz.func26 (by kernel_rfl) (by kernel_rfl) (by kernel_rfl) ms26 (Eq.mpr (by kernel_rfl) h)
def c51:Code:=(Tryz.f51.body).getD .skip
def ms51:List (List Nat):=[[]]
def m51(x0 x1:AV)(S:Store)(Q:PoT):Prop:=
 nilChk x0 S fun a S=>shift a 9 S fun c S=>ld1 c S fun d S=>bin .add 0 d (.v (.int .i64 1)) S fun e S=>nilChk x0 S fun f S=>shift f 9 S fun g S=>stN 1 g e S fun h S=>(fun S0:Store=>∃ i:AV,(nilChk x0 S fun k S=>k=i∧S=S0)∧∃ l:AV,(shift i 9 S fun m S=>m=l∧S=S0)∧∃ n:AV,(ld1 l S fun o S=>o=n∧S=S0)∧∃ p:AV,(nilChk x0 S fun q S=>q=p∧S=S0)∧∃ r:AV,(shift p 8 S fun s S=>s=r∧S=S0)∧∃ t:AV,(ld1 r S fun u S=>u=t∧S=S0)∧∃ w:AV,(lenS t S fun x S=>x=w∧S=S0)∧∃ y:AV,(bin .gtr 0 n w S fun z S=>z=y∧S=S0)∧onB y fun b=>gd b (Q (.ret (.v (.int .i64 0))) S) ((fun S0:Store=>∃ A:AV,(nilChk x0 S fun B S=>B=A∧S=S0)∧∃ C:AV,(shift A 8 S fun D S=>D=C∧S=S0)∧∃ E:AV,(ld1 C S fun F S=>F=E∧S=S0)∧∃ G:AV,(nilChk x0 S fun H S=>H=G∧S=S0)∧∃ I:AV,(shift G 9 S fun J S=>J=I∧S=S0)∧∃ K:AV,(ld1 I S fun L S=>L=K∧S=S0)∧∃ M:AV,(bin .sub 0 K (.v (.int .i64 1)) S fun N S=>N=M∧S=S0)∧∃ O:AV,(ixS 5 1 E M S fun P S=>P=O∧S=S0)∧∃ R:AV,(ld1 O S fun T S=>T=R∧S=S0)∧∃ U:AV,(convI .i64 R S fun V S=>V=U∧S=S0)∧∃ W:AV,(bin .rem 0 U x1 S fun X S=>X=W∧S=S0)∧Q (.ret W) S) S)) S
theorem calls51{x0 x1:AV}{S:Store}{Q:PoT}(h:m51 x0 x1 S Q):ACalls Pg 51 [x0,x1] S Q:=
 calls_of_vc (fn:=Tryz.f51) (c:=c51) (n:=36) Tryz.func51 (by kernel_rfl) (by kernel_rfl) (by kernel_rfl) ms51 (Eq.mpr (by kernel_rfl) h)
def c83:Code:=(Tryz.f83.body).getD .skip
def ms83:List (List Nat):=[[51]]
def m83(x0 x1:AV)(S:Store)(Q:PoT):Prop:=
 nilChk x0 S fun a S=>shift a 0 S fun c S=>ldN 8 c S fun d S=>callF Pg 30 [d,x1] S Q fun e S=>lenS e S fun f S=>bin .eql 0 f (.v (.int .i64 0)) S fun g S=>onB g fun b=>gd b (Q (.ret x1) S) (lenS e S fun h S=>callF Pg 51 [x0,h] S Q fun i S=>ixS 3 1 e i S fun k S=>ld1 k S fun l S=>Q (.ret l) S)
theorem calls83{x0 x1:AV}{S:Store}{Q:PoT}(h:m83 x0 x1 S Q):ACalls Pg 83 [x0,x1] S Q:=
 calls_of_vc (fn:=Tryz.f83) (c:=c83) (n:=23) Tryz.func83 (by kernel_rfl) (by kernel_rfl) (by kernel_rfl) ms83 (Eq.mpr (by kernel_rfl) h)
def c8:Code:=(Tryz.f8.body).getD .skip
def r8:List ResultVar:=Tryz.f8.results.toList
def env8_0(y2 y9 y11 y12 y13 y14 y15:AV):List AV:=[y2,y9,y11,y12,y13,y14,y15]
def lv8_0:List Nat:=[2,9,11,12,13,14,15]
def ms8:List (List Nat):=[lv8_0,[]]
def m8(x0 x1 x2 x3:AV)(S:Store)(Q:PoT):Prop:=
 callF Pg 23 [x0,.nl] S Q fun c S=>extr c 0 S fun d S=>extr c 1 S fun e S=>boxN 42 8 (.a [.v (.int .i64 0),.nl,.nl,.nl,.nl,.nl,.nl,.nl]) S fun f S=>boxN 24 4 (.a [.v (.int .i64 0),.v (.string ByteArray.empty),.v (.int .i64 0),.nl]) S fun g S=>stN 8 f d S fun h S=>stN 4 g e S fun i S=>shift f 0 S fun k S=>ld1 k S fun l S=>shift f 1 S fun m S=>ld1 m S fun n S=>lenS n S fun o S=>bin .add 0 l o S fun p S=>convI .i64 x1 S fun q S=>bin .add 0 p (.v (.int .i64 1)) S fun r S=>shift f 2 S fun s S=>ld1 s S fun t S=>lenS t S fun u S=>bin .add 0 r u S fun w S=>bin .mul 0 (.v (.int .i64 2)) w S fun x S=>bin .rem 0 q x S fun y S=>bld [(0,1),(1,1),(2,1),(3,1)] [.v (.int .i64 0),.v (.string ByteArray.empty),.v (.int .i64 0),.nl] [(0,(.v (.int .i64 3))),(2,y)] S fun z S=>bslN 24 4 1 [.v (.int .i64 0),.v (.string ByteArray.empty),.v (.int .i64 0),.nl] [(0,z)] S fun A S=>bld [(0,1),(1,1),(2,1),(3,1)] [.v (.int .i64 0),.v (.string ByteArray.empty),.v (.int .i64 0),.nl] [(0,(.v (.int .i64 13))),(3,A)] S fun B S=>boxN 24 4 (.a [.v (.int .i64 0),.v (.string ByteArray.empty),.v (.int .i64 0),.nl]) S fun C S=>stN 4 C B S fun D S=>convI .i64 x3 S fun E S=>bin .rem 0 E (.v (.int .i64 8)) S fun F S=>bld [(0,1),(1,1),(2,1),(3,1),(4,1)] [.v (.int .i64 0),.v (.int .i64 0),.v (.int .i64 0),.nl,.nl] [(0,(.v (.int .i64 6))),(2,F)] S fun G S=>boxN 37 5 (.a [.v (.int .i64 0),.v (.int .i64 0),.v (.int .i64 0),.nl,.nl]) S fun H S=>stN 5 H G S fun I S=>loopV lv8_0 (vc Pg (c8.at_ [1,1,1,1,1,1,0,1,0,0]) (ms8.drop 1)) 111 (env8_0 x2 f p C H (.v (.int .i64 0)) (.v (.int .i64 0))) S (blockK 0 (seqK (vc Pg (c8.at_ [1,1,1,1,1,1,1]) (ms8.drop 1)) (bodyK Pg r8 Q)))
def c30:Code:=(Tryz.f30.body).getD .skip
def r30:List ResultVar:=Tryz.f30.results.toList
def env30_0(y1 y2 y5 y6:AV):List AV:=[y1,y2,y5,y6]
def lv30_0:List Nat:=[1,2,5,6]
def ms30:List (List Nat):=[lv30_0,[]]
def m30(x0 x1:AV)(S:Store)(Q:PoT):Prop:=
 boxN 42 8 x0 S fun a S=>loopV lv30_0 (vc Pg (c30.at_ [1,1,0,1,0,0]) (ms30.drop 1)) 33 (env30_0 x1 a .nl (.v (.int .i64 0))) S (blockK 0 (seqK (vc Pg (c30.at_ [1,1,1]) (ms30.drop 1)) (bodyK Pg r30 Q)))
theorem calls30{x0 x1:AV}{S:Store}{Q:PoT}(h:m30 x0 x1 S Q):ACalls Pg 30 [x0,x1] S Q:=
 calls_of_vc (fn:=Tryz.f30) (c:=c30) (n:=33) Tryz.func30 (by kernel_rfl) (by kernel_rfl) (by kernel_rfl) ms30 (Eq.mpr (by kernel_rfl) h)
def b30_0(y1 y2 y5 y6:AV)(S:Store)(KE0:KeT)(Q:PoT):Prop:=
 shift y2 0 S fun a S=>ld1 a S fun c S=>bin .shl 0 (.v (.int .i64 1)) c S fun d S=>bin .lss 0 y6 d S fun e S=>onB e fun b=>gd b (ldN 8 y2 S fun f S=>callF Pg 58 [f,y1] S Q fun g S=>onB g fun b=>gd b (ldN 8 y2 S fun h S=>callF Pg 59 [h,y1] S Q fun i S=>bin .add 0 i y6 S fun k S=>ldN 8 y2 S fun l S=>callF Pg 58 [l,k] S Q fun m S=>onB m fun b=>gd b (bslN 3 1 1 [.v (.int .i64 0)] [(0,k)] S fun n S=>appS 3 1 8 y5 n S fun o S=>bin .add 0 y6 (.v (.int .i64 1)) S fun p S=>KE0 33 (env30_0 y1 y2 o p) S) (bin .add 0 y6 (.v (.int .i64 1)) S fun q S=>KE0 33 (env30_0 y1 y2 y5 q) S)) (Q (.ret y5) S)) (Q (.ret y5) S)
theorem b30_0_eq(y1 y2 y5 y6:AV)(S:Store)(KE0:KeT)(Q:PoT):vc Pg (c30.at_ [1,1,0,1,0,0]) (ms30.drop 1) (mkE 33 lv30_0 (env30_0 y1 y2 y5 y6)) S (thenK (fgK lv30_0 KE0) (blockK 0 (seqK (vc Pg (c30.at_ [1,1,1]) (ms30.drop 1)) (bodyK Pg r30 Q))))=b30_0 y1 y2 y5 y6 S KE0 Q:=by kernel_rfl
theorem loop30_0{y1 y2:AV}{y50 y60:AV}{S:Store}{Q:PoT}(I:AV→AV→Store→Prop)(μ:AV→AV→Store→Nat)(h0:I y50 y60 S)
    (hr:∀(y5 y6:AV) (S:Store),I y5 y6 S→∀ KE0:KeT,(∀(y5' y6':AV) (S':Store),I y5' y6' S'→μ y5' y6' S'<μ y5 y6 S→KE0 33 (env30_0 y1 y2 y5' y6') S')→b30_0 y1 y2 y5 y6 S KE0 Q):
    loopV lv30_0 (vc Pg (c30.at_ [1,1,0,1,0,0]) (ms30.drop 1)) 33 (env30_0 y1 y2 y50 y60) S (blockK 0 (seqK (vc Pg (c30.at_ [1,1,1]) (ms30.drop 1)) (bodyK Pg r30 Q))):=by
 refine⟨fun n e S=>n=33∧∃ y5 y6:AV,e=(env30_0 y1 y2 y5 y6)∧I y5 y6 S,fun _ e S=>μ (e.getD 2 .j) (e.getD 3 .j) S,?_,?_⟩
 ·exact⟨_,_,Wk.refl _ _,rfl,_,_,rfl,h0⟩
 ·rintro _ e S ⟨rfl,y5,y6,rfl,hI⟩
  exact(b30_0_eq _ _ _ _ _ _ _).mpr (hr y5 y6 S hI _ (fun y5' y6' S' hI' hm=>⟨_,_,Wk.refl _ _,⟨rfl,_,_,rfl,hI'⟩,hm⟩))
def c3:Code:=(Tryz.f3.body).getD .skip
def r3:List ResultVar:=Tryz.f3.results.toList
def m3(x0 x1 x2:AV)(S:Store)(Q:PoT):Prop:=
 boxN 24 4 x0 S fun c S=>convI .i64 x2 S fun d S=>callF Pg 16 [x1,d] S Q fun e S=>boxN 24 4 (.a [.v (.int .i64 0),.v (.string ByteArray.empty),.v (.int .i64 0),.nl]) S fun f S=>stN 4 f e S fun g S=>ldN 4 c S fun h S=>callF Pg 17 [h,.v (.int .i64 200)] S Q fun i S=>bin .lss 0 i (.v (.int .i64 0)) S fun k S=>onB k fun b=>gd b (ldN 4 f S fun l S=>stN 4 c l S fun m S=>(fun S0:Store=>∃ n:AV,(callF Pg 19 [] S (fun _ _=>False) fun o S=>o=n∧S=S0)∧onB n fun b=>gd b (∃ p:AV,(ldN 4 c S fun q S=>q=p∧S=S0)∧∃ r:AV,(callF Pg 21 [p] S (fun _ _=>False) fun s S=>s=r∧S=S0)∧∃ t:AV,(ldN 4 c S fun u S=>u=t∧S=S0)∧∃ w:AV,(callF Pg 22 [t] S (fun _ _=>False) fun x S=>x=w∧S=S0)∧∃ y:AV,(callF Pg 20 [r,w] S (fun _ _=>False) fun z S=>z=y∧S=S0)∧∃ A:AV,(y=A∧S=S0)∧onB A fun b=>gd b (∃ B:AV,(ldN 4 f S fun C S=>C=B∧S=S0)∧∃ D:AV,(callF Pg 21 [B] S (fun _ _=>False) fun E S=>E=D∧S=S0)∧∃ F:AV,(ldN 4 f S fun G S=>G=F∧S=S0)∧∃ H:AV,(callF Pg 22 [F] S (fun _ _=>False) fun I S=>I=H∧S=S0)∧∃ J:AV,(callF Pg 20 [D,H] S (fun _ _=>False) fun K S=>K=J∧S=S0)∧∃ L:AV,(J=L∧S=S0)∧Q (.ret L) S) (∃ M:AV,((.v (.bool false))=M∧S=S0)∧Q (.ret M) S)) (∃ N:AV,((.v (.bool false))=N∧S=S0)∧onB N fun b=>gd b (∃ O:AV,(ldN 4 f S fun P S=>P=O∧S=S0)∧∃ R:AV,(callF Pg 21 [O] S (fun _ _=>False) fun T S=>T=R∧S=S0)∧∃ U:AV,(ldN 4 f S fun V S=>V=U∧S=S0)∧∃ W:AV,(callF Pg 22 [U] S (fun _ _=>False) fun X S=>X=W∧S=S0)∧∃ Y:AV,(callF Pg 20 [R,W] S (fun _ _=>False) fun Z S=>Z=Y∧S=S0)∧∃ a0:AV,(Y=a0∧S=S0)∧Q (.ret a0) S) (∃ a1:AV,((.v (.bool false))=a1∧S=S0)∧Q (.ret a1) S))) S) (ldN 4 c S fun a2 S=>callF Pg 18 [a2,.v (.int .i64 8)] S Q fun a3 S=>un .not a3 S fun a4 S=>onB a4 fun b=>gd b (ldN 4 f S fun a5 S=>stN 4 c a5 S fun a6 S=>(fun S0:Store=>∃ a7:AV,(callF Pg 19 [] S (fun _ _=>False) fun a8 S=>a8=a7∧S=S0)∧onB a7 fun b=>gd b (∃ a9:AV,(ldN 4 c S fun b0 S=>b0=a9∧S=S0)∧∃ b1:AV,(callF Pg 21 [a9] S (fun _ _=>False) fun b2 S=>b2=b1∧S=S0)∧∃ b3:AV,(ldN 4 c S fun b4 S=>b4=b3∧S=S0)∧∃ b5:AV,(callF Pg 22 [b3] S (fun _ _=>False) fun b6 S=>b6=b5∧S=S0)∧∃ b7:AV,(callF Pg 20 [b1,b5] S (fun _ _=>False) fun b8 S=>b8=b7∧S=S0)∧∃ c0:AV,(b7=c0∧S=S0)∧onB c0 fun b=>gd b (∃ c1:AV,(ldN 4 f S fun c2 S=>c2=c1∧S=S0)∧∃ c3:AV,(callF Pg 21 [c1] S (fun _ _=>False) fun c4 S=>c4=c3∧S=S0)∧∃ c5:AV,(ldN 4 f S fun c6 S=>c6=c5∧S=S0)∧∃ c7:AV,(callF Pg 22 [c5] S (fun _ _=>False) fun c8 S=>c8=c7∧S=S0)∧∃ c9:AV,(callF Pg 20 [c3,c7] S (fun _ _=>False) fun d0 S=>d0=c9∧S=S0)∧∃ d1:AV,(c9=d1∧S=S0)∧Q (.ret d1) S) (∃ d2:AV,((.v (.bool false))=d2∧S=S0)∧Q (.ret d2) S)) (∃ d3:AV,((.v (.bool false))=d3∧S=S0)∧onB d3 fun b=>gd b (∃ d4:AV,(ldN 4 f S fun d5 S=>d5=d4∧S=S0)∧∃ d6:AV,(callF Pg 21 [d4] S (fun _ _=>False) fun d7 S=>d7=d6∧S=S0)∧∃ d8:AV,(ldN 4 f S fun d9 S=>d9=d8∧S=S0)∧∃ e0:AV,(callF Pg 22 [d8] S (fun _ _=>False) fun e1 S=>e1=e0∧S=S0)∧∃ e2:AV,(callF Pg 20 [d6,e0] S (fun _ _=>False) fun e3 S=>e3=e2∧S=S0)∧∃ e4:AV,(e2=e4∧S=S0)∧Q (.ret e4) S) (∃ e5:AV,((.v (.bool false))=e5∧S=S0)∧Q (.ret e5) S))) S) ((fun S0:Store=>∃ e6:AV,(callF Pg 19 [] S (fun _ _=>False) fun e7 S=>e7=e6∧S=S0)∧onB e6 fun b=>gd b (∃ e8:AV,(ldN 4 c S fun e9 S=>e9=e8∧S=S0)∧∃ f0:AV,(callF Pg 21 [e8] S (fun _ _=>False) fun f1 S=>f1=f0∧S=S0)∧∃ f2:AV,(ldN 4 c S fun f3 S=>f3=f2∧S=S0)∧∃ f4:AV,(callF Pg 22 [f2] S (fun _ _=>False) fun f5 S=>f5=f4∧S=S0)∧∃ f6:AV,(callF Pg 20 [f0,f4] S (fun _ _=>False) fun f7 S=>f7=f6∧S=S0)∧∃ f8:AV,(f6=f8∧S=S0)∧onB f8 fun b=>gd b (∃ f9:AV,(ldN 4 f S fun g0 S=>g0=f9∧S=S0)∧∃ g1:AV,(callF Pg 21 [f9] S (fun _ _=>False) fun g2 S=>g2=g1∧S=S0)∧∃ g3:AV,(ldN 4 f S fun g4 S=>g4=g3∧S=S0)∧∃ g5:AV,(callF Pg 22 [g3] S (fun _ _=>False) fun g6 S=>g6=g5∧S=S0)∧∃ g7:AV,(callF Pg 20 [g1,g5] S (fun _ _=>False) fun g8 S=>g8=g7∧S=S0)∧∃ g9:AV,(g7=g9∧S=S0)∧Q (.ret g9) S) (∃ h0:AV,((.v (.bool false))=h0∧S=S0)∧Q (.ret h0) S)) (∃ h1:AV,((.v (.bool false))=h1∧S=S0)∧onB h1 fun b=>gd b (∃ h2:AV,(ldN 4 f S fun h3 S=>h3=h2∧S=S0)∧∃ h4:AV,(callF Pg 21 [h2] S (fun _ _=>False) fun h5 S=>h5=h4∧S=S0)∧∃ h6:AV,(ldN 4 f S fun h7 S=>h7=h6∧S=S0)∧∃ h8:AV,(callF Pg 22 [h6] S (fun _ _=>False) fun h9 S=>h9=h8∧S=S0)∧∃ i0:AV,(callF Pg 20 [h4,h8] S (fun _ _=>False) fun i1 S=>i1=i0∧S=S0)∧∃ i2:AV,(i0=i2∧S=S0)∧Q (.ret i2) S) (∃ i3:AV,((.v (.bool false))=i3∧S=S0)∧Q (.ret i3) S))) S))
def c4:Code:=(Tryz.f4.body).getD .skip
def r4:List ResultVar:=Tryz.f4.results.toList
def m4(x0 x1 x2:AV)(S:Store)(Q:PoT):Prop:=
 boxN 37 5 x2 S fun c S=>callF Pg 23 [x0,x1] S Q fun d S=>extr d 0 S fun e S=>extr d 1 S fun f S=>boxN 42 8 (.a [.v (.int .i64 0),.nl,.nl,.nl,.nl,.nl,.nl,.nl]) S fun g S=>boxN 24 4 (.a [.v (.int .i64 0),.v (.string ByteArray.empty),.v (.int .i64 0),.nl]) S fun h S=>stN 8 g e S fun i S=>stN 4 h f S fun k S=>callF Pg 19 [] S Q fun l S=>onB l fun b=>gd b (ldN 5 c S fun m S=>callF Pg 24 [m,.v (.int .i64 300)] S Q fun n S=>bin .lss 0 n (.v (.int .i64 0)) S fun o S=>onB o fun b=>gd b (Q (.ret (.v (.bool true))) S) (ldN 8 g S fun p S=>ldN 4 h S fun q S=>ldN 5 c S fun r S=>callF Pg 25 [p,q,r] S Q fun s S=>Q (.ret s) S)) (Q (.ret (.v (.bool false))) S)
def c19:Code:=(Tryz.f19.body).getD .skip
def ms19:List (List Nat):=[[]]
def m19(S:Store)(Q:PoT):Prop:=
 bld [(0,1),(1,1)] [.v (.int .i64 0),.v (.int .i64 0)] [(0,(.v (.int .i64 3)))] S fun c S=>bslN 66 2 1 [.v (.int .i64 0),.v (.int .i64 0)] [(0,c)] S fun d S=>bld [(0,1),(1,1),(2,1),(3,1),(4,1),(5,1),(6,1),(7,1)] [.v (.int .i64 0),.nl,.nl,.nl,.nl,.nl,.nl,.nl] [(1,d)] S fun e S=>boxN 42 8 (.a [.v (.int .i64 0),.nl,.nl,.nl,.nl,.nl,.nl,.nl]) S fun f S=>stN 8 f e S fun g S=>bld [(0,1),(1,1),(2,1),(3,1)] [.v (.int .i64 0),.v (.string ByteArray.empty),.v (.int .i64 0),.nl] [(0,(.v (.int .i64 2)))] S fun h S=>bslN 24 4 1 [.v (.int .i64 0),.v (.string ByteArray.empty),.v (.int .i64 0),.nl] [(0,h)] S fun i S=>bld [(0,1),(1,1),(2,1),(3,1)] [.v (.int .i64 0),.v (.string ByteArray.empty),.v (.int .i64 0),.nl] [(0,(.v (.int .i64 13))),(3,i)] S fun k S=>boxN 24 4 (.a [.v (.int .i64 0),.v (.string ByteArray.empty),.v (.int .i64 0),.nl]) S fun l S=>stN 4 l k S fun m S=>bslN 3 1 2 [.v (.int .i64 0)] [(0,(.v (.int .i64 0))),(1,(.v (.int .i64 1)))] S fun n S=>bld [(0,1),(1,1),(2,1),(3,1),(4,1)] [.v (.int .i64 0),.v (.int .i64 0),.v (.int .i64 0),.nl,.nl] [(0,(.v (.int .i64 1)))] S fun o S=>bld [(0,1),(1,1),(2,1),(3,1),(4,1)] [.v (.int .i64 0),.v (.int .i64 0),.v (.int .i64 0),.nl,.nl] [(0,(.v (.int .i64 1))),(1,(.v (.int .i64 1)))] S fun p S=>bslN 37 5 2 [.v (.int .i64 0),.v (.int .i64 0),.v (.int .i64 0),.nl,.nl] [(0,o),(1,p)] S fun q S=>bld [(0,1),(1,1),(2,1),(3,1),(4,1)] [.v (.int .i64 0),.v (.int .i64 0),.v (.int .i64 0),.nl,.nl] [(0,(.v (.int .i64 6))),(3,n),(4,q)] S fun r S=>boxN 37 5 (.a [.v (.int .i64 0),.v (.int .i64 0),.v (.int .i64 0),.nl,.nl]) S fun s S=>stN 5 s r S fun t S=>ldN 8 f S fun u S=>ldN 4 l S fun w S=>ldN 5 s S fun x S=>callF Pg 27 [u,w,x] S Q fun y S=>extr y 0 S fun z S=>extr y 1 S fun A S=>shift s 2 S fun B S=>stN 1 B (.v (.int .i64 1)) S fun C S=>ldN 8 f S fun D S=>ldN 4 l S fun E S=>ldN 5 s S fun F S=>callF Pg 27 [D,E,F] S Q fun G S=>extr G 0 S fun H S=>extr G 1 S fun I S=>ldN 8 f S fun J S=>bld [(0,1),(1,1),(2,1),(3,1)] [.v (.int .i64 0),.v (.string ByteArray.empty),.v (.int .i64 0),.nl] [(0,(.v (.int .i64 1)))] S fun K S=>bslN 24 4 1 [.v (.int .i64 0),.v (.string ByteArray.empty),.v (.int .i64 0),.nl] [(0,K)] S fun L S=>bld [(0,1),(1,1),(2,1),(3,1)] [.v (.int .i64 0),.v (.string ByteArray.empty),.v (.int .i64 0),.nl] [(0,(.v (.int .i64 14))),(3,L)] S fun M S=>bld [(0,1),(1,1),(2,1),(3,1),(4,1)] [.v (.int .i64 0),.v (.int .i64 0),.v (.int .i64 0),.nl,.nl] [(0,(.v (.int .i64 7)))] S fun N S=>callF Pg 27 [J,M,N] S Q fun O S=>extr O 0 S fun P S=>extr O 1 S fun R S=>ldN 4 l S fun T S=>bslN 24 4 1 [.v (.int .i64 0),.v (.string ByteArray.empty),.v (.int .i64 0),.nl] [(0,T)] S fun U S=>bld [(0,1),(1,1),(2,1),(3,1)] [.v (.int .i64 0),.v (.string ByteArray.empty),.v (.int .i64 0),.nl] [(0,(.v (.int .i64 4))),(3,U)] S fun V S=>callF Pg 21 [V] S Q fun W S=>boxN 24 4 (.a [.v (.int .i64 0),.v (.string ByteArray.empty),.v (.int .i64 0),.nl]) S fun X S=>stN 4 X W S fun Y S=>onB A fun b=>gd b (bin .eql 0 z (.v (.int .i64 0)) S fun Z S=>onB Z fun b=>gd b (un .not I S fun a0 S=>onB a0 fun b=>gd b (onB R fun b=>gd b (bin .eql 0 P (.v (.int .i64 1)) S fun a1 S=>onB a1 fun b=>gd b (shift X 0 S fun a2 S=>ld1 a2 S fun a3 S=>bin .eql 0 a3 (.v (.int .i64 12)) S fun a4 S=>onB a4 fun b=>gd b (shift X 3 S fun a5 S=>ld1 a5 S fun a6 S=>lenS a6 S fun a7 S=>bin .eql 0 a7 (.v (.int .i64 1)) S fun a8 S=>onB a8 fun b=>gd b (shift X 3 S fun a9 S=>ld1 a9 S fun b0 S=>ixS 24 4 b0 (.v (.int .i64 0)) S fun b1 S=>shift b1 0 S fun b2 S=>ld1 b2 S fun b3 S=>bin .eql 0 b3 (.v (.int .i64 1)) S fun b4 S=>Q (.ret b4) S) (Q (.ret (.v (.bool false))) S)) (Q (.ret (.v (.bool false))) S)) (Q (.ret (.v (.bool false))) S)) (Q (.ret (.v (.bool false))) S)) (Q (.ret (.v (.bool false))) S)) (Q (.ret (.v (.bool false))) S)) (Q (.ret (.v (.bool false))) S)
theorem calls19{S:Store}{Q:PoT}(h:m19  S Q):ACalls Pg 19 [] S Q:=
 calls_of_vc (fn:=Tryz.f19) (c:=c19) (n:=85) Tryz.func19 (by kernel_rfl) (by kernel_rfl) (by kernel_rfl) ms19 (Eq.mpr (by kernel_rfl) h)
def c24:Code:=(Tryz.f24.body).getD .skip
def r24:List ResultVar:=Tryz.f24.results.toList
def env24_0(y1 y2 y5:AV):List AV:=[y1,y2,y5]
def lv24_0:List Nat:=[1,2,5]
def ms24:List (List Nat):=[lv24_0,[]]
def m24(x0 x1:AV)(S:Store)(Q:PoT):Prop:=
 boxN 37 5 x0 S fun a S=>shift a 3 S fun c S=>ld1 c S fun d S=>lenS d S fun e S=>bin .gtr 0 e (.v (.int .i64 40)) S fun f S=>onB f fun b=>gd b (Q (.ret (.v (.int .i64 (-1)))) S) (loopV lv24_0 (vc Pg (c24.at_ [1,1,0,1,0,0]) (ms24.drop 1)) 30 (env24_0 x1 a (.v (.int .i64 0))) S (blockK 0 (seqK (vc Pg (c24.at_ [1,1,1]) (ms24.drop 1)) (bodyK Pg r24 Q))))
theorem calls24{x0 x1:AV}{S:Store}{Q:PoT}(h:m24 x0 x1 S Q):ACalls Pg 24 [x0,x1] S Q:=
 calls_of_vc (fn:=Tryz.f24) (c:=c24) (n:=30) Tryz.func24 (by kernel_rfl) (by kernel_rfl) (by kernel_rfl) ms24 (Eq.mpr (by kernel_rfl) h)
def b24_0(y1 y2 y5:AV)(S:Store)(KE0:KeT)(Q:PoT):Prop:=
 shift y2 4 S fun a S=>ld1 a S fun c S=>lenS c S fun d S=>bin .lss 0 y5 d S fun e S=>onB e fun b=>gd b (bin .geq 0 y1 (.v (.int .i64 0)) S fun f S=>onB f fun b=>gd b (shift y2 4 S fun g S=>ld1 g S fun h S=>ixS 37 5 h y5 S fun i S=>ldN 5 i S fun k S=>bin .sub 0 y1 (.v (.int .i64 1)) S fun l S=>callF Pg 24 [k,l] S Q fun m S=>bin .add 0 y5 (.v (.int .i64 1)) S fun n S=>KE0 30 (env24_0 m y2 n) S) (Q (.ret y1) S)) (Q (.ret y1) S)
theorem b24_0_eq(y1 y2 y5:AV)(S:Store)(KE0:KeT)(Q:PoT):vc Pg (c24.at_ [1,1,0,1,0,0]) (ms24.drop 1) (mkE 30 lv24_0 (env24_0 y1 y2 y5)) S (thenK (fgK lv24_0 KE0) (blockK 0 (seqK (vc Pg (c24.at_ [1,1,1]) (ms24.drop 1)) (bodyK Pg r24 Q))))=b24_0 y1 y2 y5 S KE0 Q:=by kernel_rfl
theorem loop24_0{y2:AV}{y10 y50:AV}{S:Store}{Q:PoT}(I:AV→AV→Store→Prop)(μ:AV→AV→Store→Nat)(h0:I y10 y50 S)
    (hr:∀(y1 y5:AV) (S:Store),I y1 y5 S→∀ KE0:KeT,(∀(y1' y5':AV) (S':Store),I y1' y5' S'→μ y1' y5' S'<μ y1 y5 S→KE0 30 (env24_0 y1' y2 y5') S')→b24_0 y1 y2 y5 S KE0 Q):
    loopV lv24_0 (vc Pg (c24.at_ [1,1,0,1,0,0]) (ms24.drop 1)) 30 (env24_0 y10 y2 y50) S (blockK 0 (seqK (vc Pg (c24.at_ [1,1,1]) (ms24.drop 1)) (bodyK Pg r24 Q))):=by
 refine⟨fun n e S=>n=30∧∃ y1 y5:AV,e=(env24_0 y1 y2 y5)∧I y1 y5 S,fun _ e S=>μ (e.getD 0 .j) (e.getD 2 .j) S,?_,?_⟩
 ·exact⟨_,_,Wk.refl _ _,rfl,_,_,rfl,h0⟩
 ·rintro _ e S ⟨rfl,y1,y5,rfl,hI⟩
  exact(b24_0_eq _ _ _ _ _ _).mpr (hr y1 y5 S hI _ (fun y1' y5' S' hI' hm=>⟨_,_,Wk.refl _ _,⟨rfl,_,_,rfl,hI'⟩,hm⟩))
def c27:Code:=(Tryz.f27.body).getD .skip
def ms27:List (List Nat):=[[54]]
def m27(x0 x1 x2:AV)(S:Store)(Q:PoT):Prop:=
 boxN 42 8 x0 S fun a S=>boxN 24 4 x1 S fun c S=>boxN 37 5 x2 S fun d S=>ldN 8 a S fun e S=>ldN 4 c S fun f S=>callF Pg 52 [e,f] S Q fun g S=>un .not g S fun h S=>onB h fun b=>gd b (Q (.ret (.t [.v (.int .i64 0),.v (.bool false)])) S) (shift a 0 S fun i S=>ld1 i S fun k S=>shift a 1 S fun l S=>ld1 l S fun m S=>lenS m S fun n S=>bin .add 0 k n S fun o S=>bin .gtr 0 o (.v (.int .i64 60)) S fun p S=>onB p fun b=>gd b (Q (.ret (.t [.v (.int .i64 0),.v (.bool false)])) S) (∃ q:AV,(∀ T:Store,Keep S T→ldN 8 a T fun r S=>r=q∧S=T)∧∃ s:AV,(∀ T:Store,Keep S T→callF Pg 53 [] T (fun _ _=>False) fun u S=>u=s∧S=T)∧∃ w:AV,(∀ T:Store,Keep S T→bld [(0,8),(8,1),(9,1)] [.v (.int .i64 0),.nl,.nl,.nl,.nl,.nl,.nl,.nl,.v (.int .i64 0),.v (.map none)] [(0,q),(2,s)] T fun x S=>x=w∧S=T)∧boxN 100 10 w S fun y S=>∃ z:AV,(∀ T:Store,Keep S T→ldN 4 c T fun A S=>A=z∧S=T)∧∃ B:AV,(∀ T:Store,Keep S T→callF Pg 45 [] T (fun _ _=>False) fun C S=>C=B∧S=T)∧∃ D:AV,(∀ T:Store,Keep S T→callF Pg 44 [z,.v (.bool false),B] T (fun _ _=>False) fun E S=>E=D∧S=T)∧∃ F:AV,(∀ T:Store,Keep S T→ldN 5 d T fun G S=>G=F∧S=T)∧callF Pg 54 [y,D,F] S (fun _ _=>False) fun H S=>∃ I:AV,(∀ T:Store,Keep S T→un .not H T fun J S=>J=I∧S=T)∧onB I fun b=>gd b (Q (.ret (.t [.v (.int .i64 0),.v (.bool false)])) S) (nilChk y S fun K S=>shift K 8 S fun L S=>ld1 L S fun M S=>Q (.ret (.t [M,.v (.bool true)])) S)))
theorem calls27{x0 x1 x2:AV}{S:Store}{Q:PoT}(h:m27 x0 x1 x2 S Q):ACalls Pg 27 [x0,x1,x2] S Q:=
 calls_of_vc (fn:=Tryz.f27) (c:=c27) (n:=37) Tryz.func27 (by kernel_rfl) (by kernel_rfl) (by kernel_rfl) ms27 (Eq.mpr (by kernel_rfl) h)
def c54:Code:=(Tryz.f54.body).getD .skip
def ms54:List (List Nat):=[[]]
def m54(x0 x1 x2:AV)(S:Store)(Q:PoT):Prop:=
 boxN 24 4 x1 S fun a S=>boxN 37 5 x2 S fun c S=>(fun S0:Store=>∃ d:AV,(nilChk x0 S fun e S=>e=d∧S=S0)∧∃ f:AV,(shift d 9 S fun g S=>g=f∧S=S0)∧∃ h:AV,(ld1 f S fun k S=>k=h∧S=S0)∧∃ l:AV,(shift a 0 S fun m S=>m=l∧S=S0)∧∃ n:AV,(ld1 l S fun o S=>o=n∧S=S0)∧∃ p:AV,(lkM (.i .i64) (.v .nilFunc) true h n S fun q S=>q=p∧S=S0)∧∃ r:AV,(extr p 0 S fun s S=>s=r∧S=S0)∧∃ t:AV,(extr p 1 S fun w S=>w=t∧S=S0)∧onB t fun b=>gd b (shift c 1 S fun x S=>ld1 x S fun y S=>callF Pg 100 [x0,y] S Q fun z S=>onB z fun b=>gd b (ldN 4 a S fun A S=>ldN 5 c S fun B S=>callV Pg r [x0,A,B] S (fun C S=>Q (.ret C) S) (fun u S=>Q (.pan u) S)) (Q (.ret (.v (.bool false))) S)) (Q (.ret (.v (.bool false))) S)) S
theorem calls54{x0 x1 x2:AV}{S:Store}{Q:PoT}(h:m54 x0 x1 x2 S Q):ACalls Pg 54 [x0,x1,x2] S Q:=
 calls_of_vc (fn:=Tryz.f54) (c:=c54) (n:=33) Tryz.func54 (by kernel_rfl) (by kernel_rfl) (by kernel_rfl) ms54 (Eq.mpr (by kernel_rfl) h)
def c53:Code:=(Tryz.f53.body).getD .skip
def ms53:List (List Nat):=[[97]]
def m53(S:Store)(Q:PoT):Prop:=
 mkM (.i .i64) S fun a S=>updM (.i .i64) a (.v (.int .i64 2)) (.f (.func 89) [] []) S fun c S=>updM (.i .i64) a (.v (.int .i64 3)) (.f (.func 90) [] []) S fun d S=>updM (.i .i64) a (.v (.int .i64 4)) (.f (.func 91) [] []) S fun e S=>updM (.i .i64) a (.v (.int .i64 5)) (.f (.func 92) [] []) S fun g S=>updM (.i .i64) a (.v (.int .i64 6)) (.f (.func 93) [] []) S fun h S=>updM (.i .i64) a (.v (.int .i64 9)) (.f (.func 94) [] []) S fun k S=>updM (.i .i64) a (.v (.int .i64 11)) (.f (.func 95) [] []) S fun l S=>updM (.i .i64) a (.v (.int .i64 13)) (.f (.func 96) [] []) S fun m S=>updM (.i .i64) a (.v (.int .i64 15)) (.f (.func 97) [] []) S fun n S=>updM (.i .i64) a (.v (.int .i64 17)) (.f (.func 98) [] []) S fun o S=>updM (.i .i64) a (.v (.int .i64 10)) (.f (.func 99) [] []) S fun p S=>updM (.i .i64) a (.v (.int .i64 12)) (.f (.func 99) [] []) S fun q S=>updM (.i .i64) a (.v (.int .i64 14)) (.f (.func 99) [] []) S fun r S=>updM (.i .i64) a (.v (.int .i64 16)) (.f (.func 99) [] []) S fun s S=>updM (.i .i64) a (.v (.int .i64 18)) (.f (.func 99) [] []) S fun t S=>Q (.ret a) S
theorem calls53{S:Store}{Q:PoT}(h:m53  S Q):ACalls Pg 53 [] S Q:=
 calls_of_vc (fn:=Tryz.f53) (c:=c53) (n:=3) Tryz.func53 (by kernel_rfl) (by kernel_rfl) (by kernel_rfl) ms53 (Eq.mpr (by kernel_rfl) h)
def c144:Code:=(Tryz.f144.body).getD .skip
def ms144:List (List Nat):=[[]]
def m144(x0 x1 x2:AV)(S:Store)(Q:PoT):Prop:=
 ld1 x1 S fun a S=>ld1 x2 S fun c S=>callF Pg 137 [a,x0,c] S Q fun d S=>Q (.ret d) S
theorem calls144{x0 x1 x2:AV}{S:Store}{Q:PoT}(h:m144 x0 x1 x2 S Q):ACalls Pg 144 [x0,x1,x2] S Q:=
 calls_of_vc (fn:=Tryz.f144) (c:=c144) (n:=9) Tryz.func144 (by kernel_rfl) (by kernel_rfl) (by kernel_rfl) ms144 (Eq.mpr (by kernel_rfl) h)
def c96:Code:=(Tryz.f96.body).getD .skip
def r96:List ResultVar:=Tryz.f96.results.toList
def env96_0(y3 y4 y5 y61 y62 y63:AV):List AV:=[y3,y4,y5,y61,y62,y63]
def lv96_0:List Nat:=[3,4,5,61,62,63]
def ms96:List (List Nat):=[lv96_0,[145]]
def m96(x0 x1 x2:AV)(S:Store)(Q:PoT):Prop:=
 boxN 96 1 x0 S fun a S=>boxN 24 4 x1 S fun c S=>boxN 37 5 x2 S fun d S=>shift d 3 S fun e S=>ld1 e S fun f S=>lenS f S fun g S=>(fun S0:Store=>∃ h:AV,(shift d 0 S0 fun i S=>i=h∧S=S0)∧∃ k:AV,(ld1 h S0 fun l S=>l=k∧S=S0)∧∃ m:AV,(bin .neq 0 k (.v (.int .i64 6)) S0 fun n S=>n=m∧S=S0)∧∃ t13:Bool,wantT m false=some t13∧∃ o:AV,gd t13 (ld1 a S0 fun p S=>p=o∧S=S0) (o = .v undef)∧∃ t16:Bool,wantT m false=some t16∧∃ q:AV,gd t16 (ldN 5 d S0 fun r S=>r=q∧S=S0) (q = .v undef)∧∃ t19:Bool,wantT m false=some t19∧∃ s:AV,gd t19 (callF Pg 143 [o,q] S0 (fun _ _=>False) fun t S=>t=s∧S=S0) (s = .v undef)∧∃ t22:Bool,wantT m false=some t22∧∃ u:AV,gd t22 (un .not s S0 fun w S=>w=u∧S=S0) (u = .v undef)∧∃ x:AV,(pick m (.v (.bool true)) u S0 fun y S=>y=x∧S=S0)∧∃ t27:Bool,wantT x false=some t27∧∃ z:AV,gd t27 (shift d 2 S0 fun A S=>A=z∧S=S0) (z = .v undef)∧∃ t30:Bool,wantT x false=some t30∧∃ B:AV,gd t30 (ld1 z S0 fun C S=>C=B∧S=S0) (B = .v undef)∧∃ t33:Bool,wantT x false=some t33∧∃ D:AV,gd t33 (bin .lss 0 B (.v (.int .i64 0)) S0 fun E S=>E=D∧S=S0) (D = .v undef)∧∃ F:AV,(pick x (.v (.bool true)) D S0 fun G S=>G=F∧S=S0)∧∃ t38:Bool,wantT F false=some t38∧∃ H:AV,gd t38 (shift d 2 S0 fun I S=>I=H∧S=S0) (H = .v undef)∧∃ t41:Bool,wantT F false=some t41∧∃ J:AV,gd t41 (ld1 H S0 fun K S=>K=J∧S=S0) (J = .v undef)∧∃ t44:Bool,wantT F false=some t44∧∃ L:AV,gd t44 (L=g) (L = .v undef)∧∃ t46:Bool,wantT F false=some t46∧∃ M:AV,gd t46 (bin .geq 0 J L S0 fun N S=>N=M∧S=S0) (M = .v undef)∧∃ O:AV,(pick F (.v (.bool true)) M S0 fun P S=>P=O∧S=S0)∧∃ t51:Bool,wantT O false=some t51∧∃ R:AV,gd t51 (shift d 4 S0 fun T S=>T=R∧S=S0) (R = .v undef)∧∃ t54:Bool,wantT O false=some t54∧∃ U:AV,gd t54 (ld1 R S0 fun V S=>V=U∧S=S0) (U = .v undef)∧∃ t57:Bool,wantT O false=some t57∧∃ W:AV,gd t57 (lenS U S0 fun X S=>X=W∧S=S0) (W = .v undef)∧∃ t60:Bool,wantT O false=some t60∧∃ Y:AV,gd t60 (Y=g) (Y = .v undef)∧∃ t62:Bool,wantT O false=some t62∧∃ Z:AV,gd t62 (bin .neq 0 W Y S0 fun a0 S=>a0=Z∧S=S0) (Z = .v undef)∧∃ a1:AV,(pick O (.v (.bool true)) Z S0 fun a2 S=>a2=a1∧S=S0)∧∃ t67:Bool,wantT a1 false=some t67∧∃ a3:AV,gd t67 (ld1 a S0 fun a4 S=>a4=a3∧S=S0) (a3 = .v undef)∧∃ t70:Bool,wantT a1 false=some t70∧∃ a5:AV,gd t70 (shift d 3 S0 fun a6 S=>a6=a5∧S=S0) (a5 = .v undef)∧∃ t73:Bool,wantT a1 false=some t73∧∃ a7:AV,gd t73 (ld1 a5 S0 fun a8 S=>a8=a7∧S=S0) (a7 = .v undef)∧∃ t76:Bool,wantT a1 false=some t76∧∃ a9:AV,gd t76 (a9=g) (a9 = .v undef)∧∃ t78:Bool,wantT a1 false=some t78∧∃ b0:AV,gd t78 (bin .sub 0 a9 (.v (.int .i64 1)) S0 fun b1 S=>b1=b0∧S=S0) (b0 = .v undef)∧∃ t81:Bool,wantT a1 false=some t81∧∃ b2:AV,gd t81 (ixS 3 1 a7 b0 S0 fun b3 S=>b3=b2∧S=S0) (b2 = .v undef)∧∃ t84:Bool,wantT a1 false=some t84∧∃ b4:AV,gd t84 (ld1 b2 S0 fun b5 S=>b5=b4∧S=S0) (b4 = .v undef)∧∃ t87:Bool,wantT a1 false=some t87∧∃ b6:AV,gd t87 (shift d 3 S0 fun b7 S=>b7=b6∧S=S0) (b6 = .v undef)∧∃ t90:Bool,wantT a1 false=some t90∧∃ b8:AV,gd t90 (ld1 b6 S0 fun b9 S=>b9=b8∧S=S0) (b8 = .v undef)∧∃ t93:Bool,wantT a1 false=some t93∧∃ c0:AV,gd t93 (shift d 2 S0 fun c1 S=>c1=c0∧S=S0) (c0 = .v undef)∧∃ t96:Bool,wantT a1 false=some t96∧∃ c2:AV,gd t96 (ld1 c0 S0 fun c3 S=>c3=c2∧S=S0) (c2 = .v undef)∧∃ t99:Bool,wantT a1 false=some t99∧∃ c4:AV,gd t99 (ixS 3 1 b8 c2 S0 fun c5 S=>c5=c4∧S=S0) (c4 = .v undef)∧∃ t102:Bool,wantT a1 false=some t102∧∃ c6:AV,gd t102 (ld1 c4 S0 fun c7 S=>c7=c6∧S=S0) (c6 = .v undef)∧∃ t105:Bool,wantT a1 false=some t105∧∃ c8:AV,gd t105 (callF Pg 141 [a3,b4,c6] S0 (fun _ _=>False) fun c9 S=>c9=c8∧S=S0) (c8 = .v undef)∧∃ t108:Bool,wantT a1 false=some t108∧∃ d0:AV,gd t108 (un .not c8 S0 fun d1 S=>d1=d0∧S=S0) (d0 = .v undef)∧∃ d2:AV,(pick a1 (.v (.bool true)) d0 S0 fun d3 S=>d3=d2∧S=S0)∧(fun S:Store=>onB d2 fun b=>gd b (Q (.ret (.v (.bool false))) S) (ld1 a S fun d4 S=>nilChk d4 S fun d5 S=>shift d5 0 S fun d6 S=>shift d6 6 S fun d7 S=>ld1 d7 S fun d8 S=>lenS d8 S fun d9 S=>loopV lv96_0 (vc Pg (c96.at_ [1,1,1,0,1,0,0]) (ms96.drop 1)) 86 (env96_0 a c d d8 d9 (.v (.int .i64 0))) S (blockK 0 (seqK (vc Pg (c96.at_ [1,1,1,1]) (ms96.drop 1)) (bodyK Pg r96 Q))))) S0) S
theorem calls96{x0 x1 x2:AV}{S:Store}{Q:PoT}(h:m96 x0 x1 x2 S Q):ACalls Pg 96 [x0,x1,x2] S Q:=
 calls_of_vc (fn:=Tryz.f96) (c:=c96) (n:=86) Tryz.func96 (by kernel_rfl) (by kernel_rfl) (by kernel_rfl) ms96 (Eq.mpr (by kernel_rfl) h)
def b96_0(y3 y4 y5 y61 y62 y63:AV)(S:Store)(KE0:KeT)(Q:PoT):Prop:=
 bin .lss 0 y63 y62 S fun a S=>onB a fun b=>gd b (ixS 3 1 y61 y63 S fun c S=>ld1 c S fun d S=>boxN 3 1 (.v (.int .i64 0)) S fun e S=>stN 1 e d S fun g S=>shift y5 3 S fun h S=>ld1 h S fun i S=>shift y5 2 S fun k S=>ld1 k S fun l S=>slc 3 1 i (some l) none none S fun m S=>callF Pg 132 [m,(.f (.func 144) [] [y3,e])] S Q fun n S=>un .not n S fun o S=>onB o fun b=>gd b (Q (.ret (.v (.bool false))) S) (bin .add 0 y63 (.v (.int .i64 1)) S fun p S=>KE0 86 (env96_0 y3 y4 y5 y61 y62 p) S)) (∃ q:AV,(∀ T:Store,Keep S T→ld1 y3 T fun r S=>r=q∧S=T)∧∃ s:AV,(∀ T:Store,Keep S T→shift y5 3 T fun t S=>t=s∧S=T)∧∃ u:AV,(∀ T:Store,Keep S T→ld1 s T fun w S=>w=u∧S=T)∧∃ x:AV,(∀ T:Store,Keep S T→shift y4 3 T fun y S=>y=x∧S=T)∧∃ z:AV,(∀ T:Store,Keep S T→ld1 x T fun A S=>A=z∧S=T)∧∃ B:AV,(∀ T:Store,Keep S T→ixS 24 4 z (.v (.int .i64 0)) T fun C S=>C=B∧S=T)∧∃ D:AV,(∀ T:Store,Keep S T→ldN 4 B T fun E S=>E=D∧S=T)∧∃ F:AV,(∀ T:Store,Keep S T→shift y5 4 T fun G S=>G=F∧S=T)∧∃ H:AV,(∀ T:Store,Keep S T→ld1 F T fun I S=>I=H∧S=T)∧callF Pg 145 [q,u,D,H] S (fun _ _=>False) fun J S=>Q (.ret J) S)
theorem b96_0_eq(y3 y4 y5 y61 y62 y63:AV)(S:Store)(KE0:KeT)(Q:PoT):vc Pg (c96.at_ [1,1,1,0,1,0,0]) (ms96.drop 1) (mkE 86 lv96_0 (env96_0 y3 y4 y5 y61 y62 y63)) S (thenK (fgK lv96_0 KE0) (blockK 0 (seqK (vc Pg (c96.at_ [1,1,1,1]) (ms96.drop 1)) (bodyK Pg r96 Q))))=b96_0 y3 y4 y5 y61 y62 y63 S KE0 Q:=by kernel_rfl
theorem loop96_0{y3 y4 y5 y61 y62:AV}{y630:AV}{S:Store}{Q:PoT}(I:AV→Store→Prop)(μ:AV→Store→Nat)(h0:I y630 S)
    (hr:∀(y63:AV) (S:Store),I y63 S→∀ KE0:KeT,(∀(y63':AV) (S':Store),I y63' S'→μ y63' S'<μ y63 S→KE0 86 (env96_0 y3 y4 y5 y61 y62 y63') S')→b96_0 y3 y4 y5 y61 y62 y63 S KE0 Q):
    loopV lv96_0 (vc Pg (c96.at_ [1,1,1,0,1,0,0]) (ms96.drop 1)) 86 (env96_0 y3 y4 y5 y61 y62 y630) S (blockK 0 (seqK (vc Pg (c96.at_ [1,1,1,1]) (ms96.drop 1)) (bodyK Pg r96 Q))):=by
 refine⟨fun n e S=>n=86∧∃ y63:AV,e=(env96_0 y3 y4 y5 y61 y62 y63)∧I y63 S,fun _ e S=>μ (e.getD 5 .j) S,?_,?_⟩
 ·exact⟨_,_,Wk.refl _ _,rfl,_,rfl,h0⟩
 ·rintro _ e S ⟨rfl,y63,rfl,hI⟩
  exact(b96_0_eq _ _ _ _ _ _ _ _ _).mpr (hr y63 S hI _ (fun y63' S' hI' hm=>⟨_,_,Wk.refl _ _,⟨rfl,_,rfl,hI'⟩,hm⟩))
def c95:Code:=(Tryz.f95.body).getD .skip
def ms95:List (List Nat):=[[97]]
def m95(x0 x1 x2:AV)(S:Store)(Q:PoT):Prop:=
 boxN 24 4 x1 S fun a S=>boxN 37 5 x2 S fun c S=>∃ d:AV,(∀ T:Store,Keep S T→bld [(0,1),(1,1),(2,1),(3,1)] [.v (.int .i64 0),.v (.string ByteArray.empty),.v (.int .i64 0),.nl] [(0,(.v (.int .i64 2)))] T fun e S=>e=d∧S=T)∧∃ f:AV,(∀ T:Store,Keep S T→shift a 3 T fun g S=>g=f∧S=T)∧∃ h:AV,(∀ T:Store,Keep S T→ld1 f T fun i S=>i=h∧S=T)∧∃ k:AV,(∀ T:Store,Keep S T→ixS 24 4 h (.v (.int .i64 0)) T fun l S=>l=k∧S=T)∧∃ m:AV,(∀ T:Store,Keep S T→ldN 4 k T fun n S=>n=m∧S=T)∧∃ o:AV,(∀ T:Store,Keep S T→bslN 24 4 2 [.v (.int .i64 0),.v (.string ByteArray.empty),.v (.int .i64 0),.nl] [(0,d),(1,m)] T fun p S=>p=o∧S=T)∧∃ q:AV,(∀ T:Store,Keep S T→callF Pg 74 [.v (.int .i64 15),o] T (fun _ _=>False) fun r S=>r=q∧S=T)∧∃ s:AV,(∀ T:Store,Keep S T→ldN 5 c T fun t S=>t=s∧S=T)∧callF Pg 97 [x0,q,s] S (fun _ _=>False) fun u S=>Q (.ret u) S
theorem calls95{x0 x1 x2:AV}{S:Store}{Q:PoT}(h:m95 x0 x1 x2 S Q):ACalls Pg 95 [x0,x1,x2] S Q:=
 calls_of_vc (fn:=Tryz.f95) (c:=c95) (n:=17) Tryz.func95 (by kernel_rfl) (by kernel_rfl) (by kernel_rfl) ms95 (Eq.mpr (by kernel_rfl) h)
def c99:Code:=(Tryz.f99.body).getD .skip
def ms99:List (List Nat):=[[]]
def m99(x0 x1 x2:AV)(S:Store)(Q:PoT):Prop:=
 boxN 24 4 x1 S fun a S=>boxN 37 5 x2 S fun c S=>nilChk x0 S fun d S=>shift d 8 S fun e S=>ld1 e S fun f S=>bin .add 0 f (.v (.int .i64 1)) S fun g S=>nilChk x0 S fun h S=>shift h 8 S fun i S=>stN 1 i g S fun k S=>ldN 5 c S fun l S=>callF Pg 136 [l,.v (.int .i64 7)] S Q fun m S=>Q (.ret m) S
theorem calls99{x0 x1 x2:AV}{S:Store}{Q:PoT}(h:m99 x0 x1 x2 S Q):ACalls Pg 99 [x0,x1,x2] S Q:=
 calls_of_vc (fn:=Tryz.f99) (c:=c99) (n:=16) Tryz.func99 (by kernel_rfl) (by kernel_rfl) (by kernel_rfl) ms99 (Eq.mpr (by kernel_rfl) h)
def c94:Code:=(Tryz.f94.body).getD .skip
def ms94:List (List Nat):=[[139]]
def m94(x0 x1 x2:AV)(S:Store)(Q:PoT):Prop:=
 boxN 24 4 x1 S fun a S=>boxN 37 5 x2 S fun c S=>ldN 5 c S fun d S=>callF Pg 138 [d,.v (.int .i64 4)] S Q fun e S=>un .not e S fun f S=>onB f fun b=>gd b (Q (.ret (.v (.bool false))) S) (shift c 4 S fun g S=>ld1 g S fun h S=>lenS h S fun i S=>bin .neq 0 i (.v (.int .i64 2)) S fun k S=>onB k fun b=>gd b (Q (.ret (.v (.bool false))) S) (shift c 4 S fun l S=>ld1 l S fun m S=>ixS 37 5 m (.v (.int .i64 0)) S fun n S=>shift n 1 S fun o S=>ld1 o S fun p S=>∃ q:AV,(∀ T:Store,Keep S T→shift c 1 T fun r S=>r=q∧S=T)∧∃ s:AV,(∀ T:Store,Keep S T→ld1 q T fun t S=>t=s∧S=T)∧∃ u:AV,(∀ T:Store,Keep S T→callF Pg 141 [x0,s,p] T (fun _ _=>False) fun w S=>w=u∧S=T)∧onB u fun b=>gd b (∃ x:AV,(∀ T:Store,Keep S T→shift a 3 T fun y S=>y=x∧S=T)∧∃ z:AV,(∀ T:Store,Keep S T→ld1 x T fun A S=>A=z∧S=T)∧∃ B:AV,(∀ T:Store,Keep S T→ixS 24 4 z (.v (.int .i64 0)) T fun C S=>C=B∧S=T)∧∃ D:AV,(∀ T:Store,Keep S T→ldN 4 B T fun E S=>E=D∧S=T)∧∃ F:AV,(∀ T:Store,Keep S T→shift c 4 T fun G S=>G=F∧S=T)∧∃ H:AV,(∀ T:Store,Keep S T→ld1 F T fun I S=>I=H∧S=T)∧∃ J:AV,(∀ T:Store,Keep S T→ixS 37 5 H (.v (.int .i64 0)) T fun K S=>K=J∧S=T)∧∃ L:AV,(∀ T:Store,Keep S T→ldN 5 J T fun M S=>M=L∧S=T)∧callF Pg 139 [x0,p,D,L] S (fun _ _=>False) fun N S=>∃ O:AV,(∀ T:Store,Keep S T→N=O∧T=T)∧onB O fun b=>gd b (∃ P:AV,(∀ T:Store,Keep S T→callF Pg 142 [] T (fun _ _=>False) fun R S=>R=P∧S=T)∧∃ U:AV,(∀ T:Store,Keep S T→shift c 4 T fun V S=>V=U∧S=T)∧∃ W:AV,(∀ T:Store,Keep S T→ld1 U T fun X S=>X=W∧S=T)∧∃ Y:AV,(∀ T:Store,Keep S T→ixS 37 5 W (.v (.int .i64 1)) T fun Z S=>Z=Y∧S=T)∧∃ a0:AV,(∀ T:Store,Keep S T→ldN 5 Y T fun a1 S=>a1=a0∧S=T)∧callF Pg 139 [x0,p,P,a0] S (fun _ _=>False) fun a2 S=>∃ a3:AV,(∀ T:Store,Keep S T→a2=a3∧T=T)∧Q (.ret a3) S) (∃ a4:AV,(∀ T:Store,Keep S T→(.v (.bool false))=a4∧T=T)∧Q (.ret a4) S)) (∃ a5:AV,(∀ T:Store,Keep S T→(.v (.bool false))=a5∧T=T)∧onB a5 fun b=>gd b (∃ a6:AV,(∀ T:Store,Keep S T→callF Pg 142 [] T (fun _ _=>False) fun a7 S=>a7=a6∧S=T)∧∃ a8:AV,(∀ T:Store,Keep S T→shift c 4 T fun a9 S=>a9=a8∧S=T)∧∃ b0:AV,(∀ T:Store,Keep S T→ld1 a8 T fun b1 S=>b1=b0∧S=T)∧∃ b2:AV,(∀ T:Store,Keep S T→ixS 37 5 b0 (.v (.int .i64 1)) T fun b3 S=>b3=b2∧S=T)∧∃ b4:AV,(∀ T:Store,Keep S T→ldN 5 b2 T fun b5 S=>b5=b4∧S=T)∧callF Pg 139 [x0,p,a6,b4] S (fun _ _=>False) fun b7 S=>∃ b8:AV,(∀ T:Store,Keep S T→b7=b8∧T=T)∧Q (.ret b8) S) (∃ b9:AV,(∀ T:Store,Keep S T→(.v (.bool false))=b9∧T=T)∧Q (.ret b9) S))))
theorem calls94{x0 x1 x2:AV}{S:Store}{Q:PoT}(h:m94 x0 x1 x2 S Q):ACalls Pg 94 [x0,x1,x2] S Q:=
 calls_of_vc (fn:=Tryz.f94) (c:=c94) (n:=50) Tryz.func94 (by kernel_rfl) (by kernel_rfl) (by kernel_rfl) ms94 (Eq.mpr (by kernel_rfl) h)
def c98:Code:=(Tryz.f98.body).getD .skip
def ms98:List (List Nat):=[[140]]
def m98(x0 x1 x2:AV)(S:Store)(Q:PoT):Prop:=
 boxN 24 4 x1 S fun a S=>boxN 37 5 x2 S fun c S=>∃ d:AV,(∀ T:Store,Keep S T→shift a 3 T fun e S=>e=d∧S=T)∧∃ f:AV,(∀ T:Store,Keep S T→ld1 d T fun g S=>g=f∧S=T)∧∃ h:AV,(∀ T:Store,Keep S T→ixS 24 4 f (.v (.int .i64 0)) T fun i S=>i=h∧S=T)∧∃ k:AV,(∀ T:Store,Keep S T→ldN 4 h T fun l S=>l=k∧S=T)∧∃ m:AV,(∀ T:Store,Keep S T→shift a 3 T fun n S=>n=m∧S=T)∧∃ o:AV,(∀ T:Store,Keep S T→ld1 m T fun q S=>q=o∧S=T)∧∃ r:AV,(∀ T:Store,Keep S T→ixS 24 4 o (.v (.int .i64 1)) T fun s S=>s=r∧S=T)∧∃ t:AV,(∀ T:Store,Keep S T→ldN 4 r T fun u S=>u=t∧S=T)∧newsV [(.cells 24 [[.v (.int .i64 0),.v (.string ByteArray.empty),.v (.int .i64 0),.nl]] true),(.cells 24 [[.v (.int .i64 0),.v (.string ByteArray.empty),.v (.int .i64 0),.nl]] true)] S fun ids19 S=>stN 4 (.p (ids19.headD 0) 0 0) k S fun w S=>(∀ T:Store,Keep S T→ldN 4 r T fun x S=>x=t∧S=T)∧(∀ T:Store,Keep S T→ixS 24 4 o (.v (.int .i64 1)) T fun y S=>y=r∧S=T)∧(∀ T:Store,Keep S T→ld1 m T fun z S=>z=o∧S=T)∧(∀ T:Store,Keep S T→shift a 3 T fun A S=>A=m∧S=T)∧stN 4 (.p (ids19.tail.headD 0) 0 0) t S fun B S=>∃ C:AV,(∀ T:Store,Keep S T→ldN 5 c T fun D S=>D=C∧S=T)∧∃ E:AV,(∀ T:Store,Keep S T→ldN 4 (.p (ids19.tail.headD 0) 0 0) T fun F S=>F=E∧S=T)∧∃ G:AV,(∀ T:Store,Keep S T→bslN 24 4 1 [.v (.int .i64 0),.v (.string ByteArray.empty),.v (.int .i64 0),.nl] [(0,E)] T fun H S=>H=G∧S=T)∧∃ I:AV,(∀ T:Store,Keep S T→callF Pg 74 [.v (.int .i64 13),G] T (fun _ _=>False) fun J S=>J=I∧S=T)∧∃ K:AV,(∀ T:Store,Keep S T→ldN 4 (.p (ids19.tail.headD 0) 0 0) T fun L S=>L=K∧S=T)∧∃ M:AV,(∀ T:Store,Keep S T→ldN 4 (.p (ids19.headD 0) 0 0) T fun N S=>N=M∧S=T)∧∃ O:AV,(∀ T:Store,Keep S T→ldN 4 (.p (ids19.tail.headD 0) 0 0) T fun P S=>P=O∧S=T)∧∃ R:AV,(∀ T:Store,Keep S T→bslN 24 4 2 [.v (.int .i64 0),.v (.string ByteArray.empty),.v (.int .i64 0),.nl] [(0,M),(1,O)] T fun U S=>U=R∧S=T)∧∃ V:AV,(∀ T:Store,Keep S T→callF Pg 74 [.v (.int .i64 5),R] T (fun _ _=>False) fun W S=>W=V∧S=T)∧∃ X:AV,(∀ T:Store,Keep S T→bslN 24 4 2 [.v (.int .i64 0),.v (.string ByteArray.empty),.v (.int .i64 0),.nl] [(0,K),(1,V)] T fun Y S=>Y=X∧S=T)∧∃ Z:AV,(∀ T:Store,Keep S T→callF Pg 74 [.v (.int .i64 15),X] T (fun _ _=>False) fun a0 S=>a0=Z∧S=T)∧∃ a1:AV,(∀ T:Store,Keep S T→bslN 24 4 2 [.v (.int .i64 0),.v (.string ByteArray.empty),.v (.int .i64 0),.nl] [(0,I),(1,Z)] T fun a2 S=>a2=a1∧S=T)∧callF Pg 140 [x0,C,a1] S (fun _ _=>False) fun a3 S=>Q (.ret a3) S
theorem calls98{x0 x1 x2:AV}{S:Store}{Q:PoT}(h:m98 x0 x1 x2 S Q):ACalls Pg 98 [x0,x1,x2] S Q:=
 calls_of_vc (fn:=Tryz.f98) (c:=c98) (n:=31) Tryz.func98 (by kernel_rfl) (by kernel_rfl) (by kernel_rfl) ms98 (Eq.mpr (by kernel_rfl) h)
def c97:Code:=(Tryz.f97.body).getD .skip
def ms97:List (List Nat):=[[139,145]]
def m97(x0 x1 x2:AV)(S:Store)(Q:PoT):Prop:=
 boxN 24 4 x1 S fun a S=>boxN 37 5 x2 S fun c S=>shift c 3 S fun d S=>ld1 d S fun e S=>lenS e S fun f S=>bin .sub 0 f (.v (.int .i64 1)) S fun g S=>shift c 0 S fun h S=>ld1 h S fun i S=>bin .neq 0 i (.v (.int .i64 5)) S fun k S=>onB k fun b=>gd b (Q (.ret (.v (.bool false))) S) (shift c 2 S fun l S=>ld1 l S fun m S=>bin .neq 0 m (.v (.int .i64 0)) S fun n S=>onB n fun b=>gd b (Q (.ret (.v (.bool false))) S) (ldN 5 c S fun o S=>callF Pg 143 [x0,o] S Q fun p S=>un .not p S fun q S=>onB q fun b=>gd b (Q (.ret (.v (.bool false))) S) (shift c 4 S fun r S=>ld1 r S fun s S=>lenS s S fun t S=>bin .add 0 g (.v (.int .i64 2)) S fun u S=>bin .neq 0 t u S fun w S=>onB w fun b=>gd b (Q (.ret (.v (.bool false))) S) (shift c 3 S fun x S=>ld1 x S fun y S=>ixS 3 1 y g S fun z S=>ld1 z S fun A S=>∃ B:AV,(∀ T:Store,Keep S T→shift c 3 T fun C S=>C=B∧S=T)∧∃ D:AV,(∀ T:Store,Keep S T→ld1 B T fun E S=>E=D∧S=T)∧∃ F:AV,(∀ T:Store,Keep S T→slc 3 1 D none (some g) none T fun G S=>G=F∧S=T)∧∃ H:AV,(∀ T:Store,Keep S T→shift a 3 T fun I S=>I=H∧S=T)∧∃ J:AV,(∀ T:Store,Keep S T→ld1 H T fun K S=>K=J∧S=T)∧∃ L:AV,(∀ T:Store,Keep S T→ixS 24 4 J (.v (.int .i64 0)) T fun M S=>M=L∧S=T)∧∃ N:AV,(∀ T:Store,Keep S T→ldN 4 L T fun O S=>O=N∧S=T)∧∃ P:AV,(∀ T:Store,Keep S T→shift c 4 T fun R S=>R=P∧S=T)∧∃ U:AV,(∀ T:Store,Keep S T→ld1 P T fun V S=>V=U∧S=T)∧callF Pg 145 [x0,F,N,U] S (fun _ _=>False) fun W S=>onB W fun b=>gd b (∃ X:AV,(∀ T:Store,Keep S T→shift a 3 T fun Y S=>Y=X∧S=T)∧∃ Z:AV,(∀ T:Store,Keep S T→ld1 X T fun a0 S=>a0=Z∧S=T)∧∃ a1:AV,(∀ T:Store,Keep S T→ixS 24 4 Z (.v (.int .i64 1)) T fun a2 S=>a2=a1∧S=T)∧∃ a3:AV,(∀ T:Store,Keep S T→ldN 4 a1 T fun a4 S=>a4=a3∧S=T)∧∃ a5:AV,(∀ T:Store,Keep S T→shift c 4 T fun a6 S=>a6=a5∧S=T)∧∃ a7:AV,(∀ T:Store,Keep S T→ld1 a5 T fun a8 S=>a8=a7∧S=T)∧∃ a9:AV,(∀ T:Store,Keep S T→ixS 37 5 a7 g T fun b0 S=>b0=a9∧S=T)∧∃ b1:AV,(∀ T:Store,Keep S T→ldN 5 a9 T fun b2 S=>b2=b1∧S=T)∧callF Pg 139 [x0,A,a3,b1] S (fun _ _=>False) fun b3 S=>∃ b4:AV,(∀ T:Store,Keep S T→b3=b4∧T=T)∧onB b4 fun b=>gd b (∃ b5:AV,(∀ T:Store,Keep S T→callF Pg 142 [] T (fun _ _=>False) fun b6 S=>b6=b5∧S=T)∧∃ b7:AV,(∀ T:Store,Keep S T→shift c 4 T fun b8 S=>b8=b7∧S=T)∧∃ b9:AV,(∀ T:Store,Keep S T→ld1 b7 T fun c0 S=>c0=b9∧S=T)∧∃ c1:AV,(∀ T:Store,Keep S T→bin .add 0 g (.v (.int .i64 1)) T fun c2 S=>c2=c1∧S=T)∧∃ c3:AV,(∀ T:Store,Keep S T→ixS 37 5 b9 c1 T fun c4 S=>c4=c3∧S=T)∧∃ c5:AV,(∀ T:Store,Keep S T→ldN 5 c3 T fun c6 S=>c6=c5∧S=T)∧callF Pg 139 [x0,A,b5,c5] S (fun _ _=>False) fun c7 S=>∃ c8:AV,(∀ T:Store,Keep S T→c7=c8∧T=T)∧Q (.ret c8) S) (∃ c9:AV,(∀ T:Store,Keep S T→(.v (.bool false))=c9∧T=T)∧Q (.ret c9) S)) (∃ d0:AV,(∀ T:Store,Keep S T→(.v (.bool false))=d0∧T=T)∧onB d0 fun b=>gd b (∃ d1:AV,(∀ T:Store,Keep S T→callF Pg 142 [] T (fun _ _=>False) fun d2 S=>d2=d1∧S=T)∧∃ d3:AV,(∀ T:Store,Keep S T→shift c 4 T fun d4 S=>d4=d3∧S=T)∧∃ d5:AV,(∀ T:Store,Keep S T→ld1 d3 T fun d6 S=>d6=d5∧S=T)∧∃ d7:AV,(∀ T:Store,Keep S T→bin .add 0 g (.v (.int .i64 1)) T fun d8 S=>d8=d7∧S=T)∧∃ d9:AV,(∀ T:Store,Keep S T→ixS 37 5 d5 d7 T fun e0 S=>e0=d9∧S=T)∧∃ e1:AV,(∀ T:Store,Keep S T→ldN 5 d9 T fun e2 S=>e2=e1∧S=T)∧callF Pg 139 [x0,A,d1,e1] S (fun _ _=>False) fun e3 S=>∃ e4:AV,(∀ T:Store,Keep S T→e3=e4∧T=T)∧Q (.ret e4) S) (∃ e5:AV,(∀ T:Store,Keep S T→(.v (.bool false))=e5∧T=T)∧Q (.ret e5) S))))))
theorem calls97{x0 x1 x2:AV}{S:Store}{Q:PoT}(h:m97 x0 x1 x2 S Q):ACalls Pg 97 [x0,x1,x2] S Q:=
 calls_of_vc (fn:=Tryz.f97) (c:=c97) (n:=78) Tryz.func97 (by kernel_rfl) (by kernel_rfl) (by kernel_rfl) ms97 (Eq.mpr (by kernel_rfl) h)
def c143:Code:=(Tryz.f143.body).getD .skip
def r143:List ResultVar:=Tryz.f143.results.toList
def env143_0(y0 y3 y8 y9 y10:AV):List AV:=[y0,y3,y8,y9,y10]
def lv143_0:List Nat:=[0,3,8,9,10]
def ms143:List (List Nat):=[lv143_0,[]]
def m143(x0 x1:AV)(S:Store)(Q:PoT):Prop:=
 boxN 37 5 x1 S fun a S=>shift a 3 S fun c S=>ld1 c S fun d S=>lenS d S fun e S=>loopV lv143_0 (vc Pg (c143.at_ [1,0,1,0,0]) (ms143.drop 1)) 43 (env143_0 x0 a d e (.v (.int .i64 0))) S (blockK 0 (seqK (vc Pg (c143.at_ [1,1]) (ms143.drop 1)) (bodyK Pg r143 Q)))
theorem calls143{x0 x1:AV}{S:Store}{Q:PoT}(h:m143 x0 x1 S Q):ACalls Pg 143 [x0,x1] S Q:=
 calls_of_vc (fn:=Tryz.f143) (c:=c143) (n:=43) Tryz.func143 (by kernel_rfl) (by kernel_rfl) (by kernel_rfl) ms143 (Eq.mpr (by kernel_rfl) h)
def b143_0(y0 y3 y8 y9 y10:AV)(S:Store)(KE0:KeT)(Q:PoT):Prop:=
 bin .lss 0 y10 y9 S fun a S=>onB a fun b=>gd b (ixS 3 1 y8 y10 S fun c S=>ld1 c S fun d S=>bin .gtr 0 y10 (.v (.int .i64 0)) S fun e S=>onB e fun b=>gd b (shift y3 3 S fun f S=>ld1 f S fun g S=>bin .sub 0 y10 (.v (.int .i64 1)) S fun h S=>ixS 3 1 g h S fun i S=>ld1 i S fun k S=>callF Pg 141 [y0,k,d] S Q fun l S=>un .not l S fun m S=>onB m fun b=>gd b (Q (.ret (.v (.bool false))) S) (bin .add 0 y10 (.v (.int .i64 1)) S fun n S=>KE0 43 (env143_0 y0 y3 y8 y9 n) S)) (bin .add 0 y10 (.v (.int .i64 1)) S fun o S=>KE0 43 (env143_0 y0 y3 y8 y9 o) S)) ((fun S0:Store=>∃ p:AV,(shift y3 3 S fun q S=>q=p∧S=S0)∧∃ r:AV,(ld1 p S fun s S=>s=r∧S=S0)∧∃ t:AV,(lenS r S fun u S=>u=t∧S=S0)∧∃ w:AV,(bin .gtr 0 t (.v (.int .i64 0)) S fun x S=>x=w∧S=S0)∧onB w fun b=>gd b (∃ y:AV,(shift y3 3 S fun z S=>z=y∧S=S0)∧∃ A:AV,(ld1 y S fun B S=>B=A∧S=S0)∧∃ C:AV,(ixS 3 1 A (.v (.int .i64 0)) S fun D S=>D=C∧S=S0)∧∃ E:AV,(ld1 C S fun F S=>F=E∧S=S0)∧∃ G:AV,(shift y3 1 S fun H S=>H=G∧S=S0)∧∃ I:AV,(ld1 G S fun J S=>J=I∧S=S0)∧∃ K:AV,(bin .eql 0 E I S fun L S=>L=K∧S=S0)∧∃ M:AV,(K=M∧S=S0)∧Q (.ret M) S) (∃ N:AV,((.v (.bool false))=N∧S=S0)∧Q (.ret N) S)) S)
theorem b143_0_eq(y0 y3 y8 y9 y10:AV)(S:Store)(KE0:KeT)(Q:PoT):vc Pg (c143.at_ [1,0,1,0,0]) (ms143.drop 1) (mkE 43 lv143_0 (env143_0 y0 y3 y8 y9 y10)) S (thenK (fgK lv143_0 KE0) (blockK 0 (seqK (vc Pg (c143.at_ [1,1]) (ms143.drop 1)) (bodyK Pg r143 Q))))=b143_0 y0 y3 y8 y9 y10 S KE0 Q:=by kernel_rfl
theorem loop143_0{y0 y3 y8 y9:AV}{y100:AV}{S:Store}{Q:PoT}(I:AV→Store→Prop)(μ:AV→Store→Nat)(h0:I y100 S)
    (hr:∀(y10:AV) (S:Store),I y10 S→∀ KE0:KeT,(∀(y10':AV) (S':Store),I y10' S'→μ y10' S'<μ y10 S→KE0 43 (env143_0 y0 y3 y8 y9 y10') S')→b143_0 y0 y3 y8 y9 y10 S KE0 Q):
    loopV lv143_0 (vc Pg (c143.at_ [1,0,1,0,0]) (ms143.drop 1)) 43 (env143_0 y0 y3 y8 y9 y100) S (blockK 0 (seqK (vc Pg (c143.at_ [1,1]) (ms143.drop 1)) (bodyK Pg r143 Q))):=by
 refine⟨fun n e S=>n=43∧∃ y10:AV,e=(env143_0 y0 y3 y8 y9 y10)∧I y10 S,fun _ e S=>μ (e.getD 4 .j) S,?_,?_⟩
 ·exact⟨_,_,Wk.refl _ _,rfl,_,rfl,h0⟩
 ·rintro _ e S ⟨rfl,y10,rfl,hI⟩
  exact(b143_0_eq _ _ _ _ _ _ _ _).mpr (hr y10 S hI _ (fun y10' S' hI' hm=>⟨_,_,Wk.refl _ _,⟨rfl,_,rfl,hI'⟩,hm⟩))
def c145:Code:=(Tryz.f145.body).getD .skip
def r145:List ResultVar:=Tryz.f145.results.toList
def env145_0(y0 y3 y6 y11 y12 y13:AV):List AV:=[y0,y3,y6,y11,y12,y13]
def lv145_0:List Nat:=[0,3,6,11,12,13]
def ms145:List (List Nat):=[lv145_0,[139]]
def m145(x0 x1 x2 x3:AV)(S:Store)(Q:PoT):Prop:=
 boxN 24 4 x2 S fun a S=>lenS x1 S fun c S=>loopV lv145_0 (vc Pg (c145.at_ [1,0,1,0,0]) (ms145.drop 1)) 28 (env145_0 x0 x3 a x1 c (.v (.int .i64 0))) S (blockK 0 (seqK (vc Pg (c145.at_ [1,1]) (ms145.drop 1)) (bodyK Pg r145 Q)))
theorem calls145{x0 x1 x2 x3:AV}{S:Store}{Q:PoT}(h:m145 x0 x1 x2 x3 S Q):ACalls Pg 145 [x0,x1,x2,x3] S Q:=
 calls_of_vc (fn:=Tryz.f145) (c:=c145) (n:=28) Tryz.func145 (by kernel_rfl) (by kernel_rfl) (by kernel_rfl) ms145 (Eq.mpr (by kernel_rfl) h)
def b145_0(y0 y3 y6 y11 y12 y13:AV)(S:Store)(KE0:KeT)(Q:PoT):Prop:=
 bin .lss 0 y13 y12 S fun a S=>onB a fun b=>gd b (ixS 3 1 y11 y13 S fun c S=>ld1 c S fun d S=>∃ e:AV,(∀ T:Store,Keep S T→ldN 4 y6 T fun f S=>f=e∧S=T)∧∃ g:AV,(∀ T:Store,Keep S T→ixS 37 5 y3 y13 T fun h S=>h=g∧S=T)∧∃ i:AV,(∀ T:Store,Keep S T→ldN 5 g T fun k S=>k=i∧S=T)∧callF Pg 139 [y0,d,e,i] S (fun _ _=>False) fun l S=>∃ m:AV,(∀ T:Store,Keep S T→un .not l T fun n S=>n=m∧S=T)∧onB m fun b=>gd b (Q (.ret (.v (.bool false))) S) (bin .add 0 y13 (.v (.int .i64 1)) S fun o S=>KE0 28 (env145_0 y0 y3 y6 y11 y12 o) S)) (Q (.ret (.v (.bool true))) S)
theorem b145_0_eq(y0 y3 y6 y11 y12 y13:AV)(S:Store)(KE0:KeT)(Q:PoT):vc Pg (c145.at_ [1,0,1,0,0]) (ms145.drop 1) (mkE 28 lv145_0 (env145_0 y0 y3 y6 y11 y12 y13)) S (thenK (fgK lv145_0 KE0) (blockK 0 (seqK (vc Pg (c145.at_ [1,1]) (ms145.drop 1)) (bodyK Pg r145 Q))))=b145_0 y0 y3 y6 y11 y12 y13 S KE0 Q:=by kernel_rfl
theorem loop145_0{y0 y3 y6 y11 y12:AV}{y130:AV}{S:Store}{Q:PoT}(I:AV→Store→Prop)(μ:AV→Store→Nat)(h0:I y130 S)
    (hr:∀(y13:AV) (S:Store),I y13 S→∀ KE0:KeT,(∀(y13':AV) (S':Store),I y13' S'→μ y13' S'<μ y13 S→KE0 28 (env145_0 y0 y3 y6 y11 y12 y13') S')→b145_0 y0 y3 y6 y11 y12 y13 S KE0 Q):
    loopV lv145_0 (vc Pg (c145.at_ [1,0,1,0,0]) (ms145.drop 1)) 28 (env145_0 y0 y3 y6 y11 y12 y130) S (blockK 0 (seqK (vc Pg (c145.at_ [1,1]) (ms145.drop 1)) (bodyK Pg r145 Q))):=by
 refine⟨fun n e S=>n=28∧∃ y13:AV,e=(env145_0 y0 y3 y6 y11 y12 y13)∧I y13 S,fun _ e S=>μ (e.getD 5 .j) S,?_,?_⟩
 ·exact⟨_,_,Wk.refl _ _,rfl,_,rfl,h0⟩
 ·rintro _ e S ⟨rfl,y13,rfl,hI⟩
  exact(b145_0_eq _ _ _ _ _ _ _ _ _).mpr (hr y13 S hI _ (fun y13' S' hI' hm=>⟨_,_,Wk.refl _ _,⟨rfl,_,rfl,hI'⟩,hm⟩))
def c89:Code:=(Tryz.f89.body).getD .skip
def ms89:List (List Nat):=[[]]
def m89(x0 x1 x2:AV)(S:Store)(Q:PoT):Prop:=
 boxN 24 4 x1 S fun a S=>boxN 37 5 x2 S fun c S=>ldN 5 c S fun d S=>callF Pg 136 [d,.v (.int .i64 1)] S Q fun e S=>Q (.ret e) S
theorem calls89{x0 x1 x2:AV}{S:Store}{Q:PoT}(h:m89 x0 x1 x2 S Q):ACalls Pg 89 [x0,x1,x2] S Q:=
 calls_of_vc (fn:=Tryz.f89) (c:=c89) (n:=9) Tryz.func89 (by kernel_rfl) (by kernel_rfl) (by kernel_rfl) ms89 (Eq.mpr (by kernel_rfl) h)
def c90:Code:=(Tryz.f90.body).getD .skip
def ms90:List (List Nat):=[[]]
def m90(x0 x1 x2:AV)(S:Store)(Q:PoT):Prop:=
 boxN 24 4 x1 S fun a S=>boxN 37 5 x2 S fun c S=>ldN 5 c S fun d S=>callF Pg 136 [d,.v (.int .i64 1)] S Q fun e S=>onB e fun b=>gd b (shift c 1 S fun f S=>ld1 f S fun g S=>shift a 2 S fun h S=>ld1 h S fun i S=>callF Pg 137 [x0,g,i] S Q fun k S=>Q (.ret k) S) (Q (.ret (.v (.bool false))) S)
theorem calls90{x0 x1 x2:AV}{S:Store}{Q:PoT}(h:m90 x0 x1 x2 S Q):ACalls Pg 90 [x0,x1,x2] S Q:=
 calls_of_vc (fn:=Tryz.f90) (c:=c90) (n:=17) Tryz.func90 (by kernel_rfl) (by kernel_rfl) (by kernel_rfl) ms90 (Eq.mpr (by kernel_rfl) h)
def c91:Code:=(Tryz.f91.body).getD .skip
def ms91:List (List Nat):=[[]]
def m91(x0 x1 x2:AV)(S:Store)(Q:PoT):Prop:=
 boxN 24 4 x1 S fun a S=>boxN 37 5 x2 S fun c S=>(fun S0:Store=>∃ d:AV,(ldN 5 c S fun e S=>e=d∧S=S0)∧∃ f:AV,(callF Pg 136 [d,.v (.int .i64 1)] S (fun _ _=>False) fun g S=>g=f∧S=S0)∧onB f fun b=>gd b (∃ h:AV,(shift c 1 S fun i S=>i=h∧S=S0)∧∃ k:AV,(ld1 h S fun l S=>l=k∧S=S0)∧∃ m:AV,(shift a 3 S fun n S=>n=m∧S=S0)∧∃ o:AV,(ld1 m S fun p S=>p=o∧S=S0)∧∃ q:AV,(ixS 24 4 o (.v (.int .i64 0)) S fun r S=>r=q∧S=S0)∧∃ s:AV,(shift q 2 S fun t S=>t=s∧S=S0)∧∃ u:AV,(ld1 s S fun w S=>w=u∧S=S0)∧∃ x:AV,(callF Pg 137 [x0,k,u] S (fun _ _=>False) fun y S=>y=x∧S=S0)∧∃ z:AV,(un .not x S fun A S=>A=z∧S=S0)∧∃ B:AV,(z=B∧S=S0)∧Q (.ret B) S) (∃ C:AV,((.v (.bool false))=C∧S=S0)∧Q (.ret C) S)) S
theorem calls91{x0 x1 x2:AV}{S:Store}{Q:PoT}(h:m91 x0 x1 x2 S Q):ACalls Pg 91 [x0,x1,x2] S Q:=
 calls_of_vc (fn:=Tryz.f91) (c:=c91) (n:=21) Tryz.func91 (by kernel_rfl) (by kernel_rfl) (by kernel_rfl) ms91 (Eq.mpr (by kernel_rfl) h)
def c92:Code:=(Tryz.f92.body).getD .skip
def ms92:List (List Nat):=[[139]]
def m92(x0 x1 x2:AV)(S:Store)(Q:PoT):Prop:=
 boxN 24 4 x1 S fun a S=>boxN 37 5 x2 S fun c S=>∃ d:AV,(∀ T:Store,Keep S T→ldN 5 c T fun e S=>e=d∧S=T)∧∃ f:AV,(∀ T:Store,Keep S T→callF Pg 138 [d,.v (.int .i64 2)] T (fun _ _=>False) fun g S=>g=f∧S=T)∧onB f fun b=>gd b (∃ h:AV,(∀ T:Store,Keep S T→shift c 4 T fun i S=>i=h∧S=T)∧∃ k:AV,(∀ T:Store,Keep S T→ld1 h T fun l S=>l=k∧S=T)∧∃ m:AV,(∀ T:Store,Keep S T→lenS k T fun n S=>n=m∧S=T)∧∃ o:AV,(∀ T:Store,Keep S T→bin .eql 0 m (.v (.int .i64 2)) T fun p S=>p=o∧S=T)∧∃ q:AV,(∀ T:Store,Keep S T→o=q∧T=T)∧onB q fun b=>gd b (∃ r:AV,(∀ T:Store,Keep S T→shift c 1 T fun s S=>s=r∧S=T)∧∃ t:AV,(∀ T:Store,Keep S T→ld1 r T fun u S=>u=t∧S=T)∧∃ w:AV,(∀ T:Store,Keep S T→shift a 3 T fun x S=>x=w∧S=T)∧∃ y:AV,(∀ T:Store,Keep S T→ld1 w T fun z S=>z=y∧S=T)∧∃ A:AV,(∀ T:Store,Keep S T→ixS 24 4 y (.v (.int .i64 0)) T fun B S=>B=A∧S=T)∧∃ C:AV,(∀ T:Store,Keep S T→ldN 4 A T fun D S=>D=C∧S=T)∧∃ E:AV,(∀ T:Store,Keep S T→shift c 4 T fun F S=>F=E∧S=T)∧∃ G:AV,(∀ T:Store,Keep S T→ld1 E T fun H S=>H=G∧S=T)∧∃ I:AV,(∀ T:Store,Keep S T→ixS 37 5 G (.v (.int .i64 0)) T fun J S=>J=I∧S=T)∧∃ K:AV,(∀ T:Store,Keep S T→ldN 5 I T fun L S=>L=K∧S=T)∧callF Pg 139 [x0,t,C,K] S (fun _ _=>False) fun M S=>∃ N:AV,(∀ T:Store,Keep S T→M=N∧T=T)∧onB N fun b=>gd b (∃ O:AV,(∀ T:Store,Keep S T→shift c 1 T fun P S=>P=O∧S=T)∧∃ R:AV,(∀ T:Store,Keep S T→ld1 O T fun U S=>U=R∧S=T)∧∃ V:AV,(∀ T:Store,Keep S T→shift a 3 T fun W S=>W=V∧S=T)∧∃ X:AV,(∀ T:Store,Keep S T→ld1 V T fun Y S=>Y=X∧S=T)∧∃ Z:AV,(∀ T:Store,Keep S T→ixS 24 4 X (.v (.int .i64 1)) T fun a0 S=>a0=Z∧S=T)∧∃ a1:AV,(∀ T:Store,Keep S T→ldN 4 Z T fun a2 S=>a2=a1∧S=T)∧∃ a3:AV,(∀ T:Store,Keep S T→shift c 4 T fun a4 S=>a4=a3∧S=T)∧∃ a5:AV,(∀ T:Store,Keep S T→ld1 a3 T fun a6 S=>a6=a5∧S=T)∧∃ a7:AV,(∀ T:Store,Keep S T→ixS 37 5 a5 (.v (.int .i64 1)) T fun a8 S=>a8=a7∧S=T)∧∃ a9:AV,(∀ T:Store,Keep S T→ldN 5 a7 T fun b0 S=>b0=a9∧S=T)∧callF Pg 139 [x0,R,a1,a9] S (fun _ _=>False) fun b1 S=>∃ b2:AV,(∀ T:Store,Keep S T→b1=b2∧T=T)∧Q (.ret b2) S) (∃ b3:AV,(∀ T:Store,Keep S T→(.v (.bool false))=b3∧T=T)∧Q (.ret b3) S)) (∃ b4:AV,(∀ T:Store,Keep S T→(.v (.bool false))=b4∧T=T)∧onB b4 fun b=>gd b (∃ b5:AV,(∀ T:Store,Keep S T→shift c 1 T fun b6 S=>b6=b5∧S=T)∧∃ b8:AV,(∀ T:Store,Keep S T→ld1 b5 T fun b9 S=>b9=b8∧S=T)∧∃ c0:AV,(∀ T:Store,Keep S T→shift a 3 T fun c1 S=>c1=c0∧S=T)∧∃ c2:AV,(∀ T:Store,Keep S T→ld1 c0 T fun c3 S=>c3=c2∧S=T)∧∃ c4:AV,(∀ T:Store,Keep S T→ixS 24 4 c2 (.v (.int .i64 1)) T fun c5 S=>c5=c4∧S=T)∧∃ c6:AV,(∀ T:Store,Keep S T→ldN 4 c4 T fun c7 S=>c7=c6∧S=T)∧∃ c8:AV,(∀ T:Store,Keep S T→shift c 4 T fun c9 S=>c9=c8∧S=T)∧∃ d0:AV,(∀ T:Store,Keep S T→ld1 c8 T fun d1 S=>d1=d0∧S=T)∧∃ d2:AV,(∀ T:Store,Keep S T→ixS 37 5 d0 (.v (.int .i64 1)) T fun d3 S=>d3=d2∧S=T)∧∃ d4:AV,(∀ T:Store,Keep S T→ldN 5 d2 T fun d5 S=>d5=d4∧S=T)∧callF Pg 139 [x0,b8,c6,d4] S (fun _ _=>False) fun d6 S=>∃ d7:AV,(∀ T:Store,Keep S T→d6=d7∧T=T)∧Q (.ret d7) S) (∃ d8:AV,(∀ T:Store,Keep S T→(.v (.bool false))=d8∧T=T)∧Q (.ret d8) S))) (∃ d9:AV,(∀ T:Store,Keep S T→(.v (.bool false))=d9∧T=T)∧onB d9 fun b=>gd b (∃ e0:AV,(∀ T:Store,Keep S T→shift c 1 T fun e1 S=>e1=e0∧S=T)∧∃ e2:AV,(∀ T:Store,Keep S T→ld1 e0 T fun e3 S=>e3=e2∧S=T)∧∃ e4:AV,(∀ T:Store,Keep S T→shift a 3 T fun e5 S=>e5=e4∧S=T)∧∃ e6:AV,(∀ T:Store,Keep S T→ld1 e4 T fun e7 S=>e7=e6∧S=T)∧∃ e8:AV,(∀ T:Store,Keep S T→ixS 24 4 e6 (.v (.int .i64 0)) T fun e9 S=>e9=e8∧S=T)∧∃ f0:AV,(∀ T:Store,Keep S T→ldN 4 e8 T fun f1 S=>f1=f0∧S=T)∧∃ f2:AV,(∀ T:Store,Keep S T→shift c 4 T fun f3 S=>f3=f2∧S=T)∧∃ f4:AV,(∀ T:Store,Keep S T→ld1 f2 T fun f5 S=>f5=f4∧S=T)∧∃ f6:AV,(∀ T:Store,Keep S T→ixS 37 5 f4 (.v (.int .i64 0)) T fun f7 S=>f7=f6∧S=T)∧∃ f8:AV,(∀ T:Store,Keep S T→ldN 5 f6 T fun f9 S=>f9=f8∧S=T)∧callF Pg 139 [x0,e2,f0,f8] S (fun _ _=>False) fun g0 S=>∃ g1:AV,(∀ T:Store,Keep S T→g0=g1∧T=T)∧onB g1 fun b=>gd b (∃ g2:AV,(∀ T:Store,Keep S T→shift c 1 T fun g3 S=>g3=g2∧S=T)∧∃ g4:AV,(∀ T:Store,Keep S T→ld1 g2 T fun g5 S=>g5=g4∧S=T)∧∃ g6:AV,(∀ T:Store,Keep S T→shift a 3 T fun g7 S=>g7=g6∧S=T)∧∃ g8:AV,(∀ T:Store,Keep S T→ld1 g6 T fun g9 S=>g9=g8∧S=T)∧∃ h0:AV,(∀ T:Store,Keep S T→ixS 24 4 g8 (.v (.int .i64 1)) T fun h1 S=>h1=h0∧S=T)∧∃ h2:AV,(∀ T:Store,Keep S T→ldN 4 h0 T fun h3 S=>h3=h2∧S=T)∧∃ h4:AV,(∀ T:Store,Keep S T→shift c 4 T fun h5 S=>h5=h4∧S=T)∧∃ h6:AV,(∀ T:Store,Keep S T→ld1 h4 T fun h7 S=>h7=h6∧S=T)∧∃ h8:AV,(∀ T:Store,Keep S T→ixS 37 5 h6 (.v (.int .i64 1)) T fun h9 S=>h9=h8∧S=T)∧∃ i0:AV,(∀ T:Store,Keep S T→ldN 5 h8 T fun i1 S=>i1=i0∧S=T)∧callF Pg 139 [x0,g4,h2,i0] S (fun _ _=>False) fun i2 S=>∃ i3:AV,(∀ T:Store,Keep S T→i2=i3∧T=T)∧Q (.ret i3) S) (∃ i4:AV,(∀ T:Store,Keep S T→(.v (.bool false))=i4∧T=T)∧Q (.ret i4) S)) (∃ i5:AV,(∀ T:Store,Keep S T→(.v (.bool false))=i5∧T=T)∧onB i5 fun b=>gd b (∃ i6:AV,(∀ T:Store,Keep S T→shift c 1 T fun i7 S=>i7=i6∧S=T)∧∃ i8:AV,(∀ T:Store,Keep S T→ld1 i6 T fun i9 S=>i9=i8∧S=T)∧∃ k0:AV,(∀ T:Store,Keep S T→shift a 3 T fun k1 S=>k1=k0∧S=T)∧∃ k2:AV,(∀ T:Store,Keep S T→ld1 k0 T fun k3 S=>k3=k2∧S=T)∧∃ k4:AV,(∀ T:Store,Keep S T→ixS 24 4 k2 (.v (.int .i64 1)) T fun k5 S=>k5=k4∧S=T)∧∃ k6:AV,(∀ T:Store,Keep S T→ldN 4 k4 T fun k7 S=>k7=k6∧S=T)∧∃ k8:AV,(∀ T:Store,Keep S T→shift c 4 T fun k9 S=>k9=k8∧S=T)∧∃ l0:AV,(∀ T:Store,Keep S T→ld1 k8 T fun l1 S=>l1=l0∧S=T)∧∃ l2:AV,(∀ T:Store,Keep S T→ixS 37 5 l0 (.v (.int .i64 1)) T fun l3 S=>l3=l2∧S=T)∧∃ l4:AV,(∀ T:Store,Keep S T→ldN 5 l2 T fun l5 S=>l5=l4∧S=T)∧callF Pg 139 [x0,i8,k6,l4] S (fun _ _=>False) fun l6 S=>∃ l7:AV,(∀ T:Store,Keep S T→l6=l7∧T=T)∧Q (.ret l7) S) (∃ l8:AV,(∀ T:Store,Keep S T→(.v (.bool false))=l8∧T=T)∧Q (.ret l8) S)))
theorem calls92{x0 x1 x2:AV}{S:Store}{Q:PoT}(h:m92 x0 x1 x2 S Q):ACalls Pg 92 [x0,x1,x2] S Q:=
 calls_of_vc (fn:=Tryz.f92) (c:=c92) (n:=43) Tryz.func92 (by kernel_rfl) (by kernel_rfl) (by kernel_rfl) ms92 (Eq.mpr (by kernel_rfl) h)
def c140:Code:=(Tryz.f140.body).getD .skip
def ms140:List (List Nat):=[[139]]
def m140(x0 x1 x2:AV)(S:Store)(Q:PoT):Prop:=
 boxN 37 5 x1 S fun a S=>shift a 0 S fun c S=>ld1 c S fun d S=>bin .neq 0 d (.v (.int .i64 3)) S fun e S=>onB e fun b=>gd b (Q (.ret (.v (.bool false))) S) (shift a 2 S fun f S=>ld1 f S fun g S=>bin .lss 0 g (.v (.int .i64 0)) S fun h S=>onB h fun b=>gd b (Q (.ret (.v (.bool false))) S) (shift a 2 S fun i S=>ld1 i S fun k S=>bin .gtr 0 k (.v (.int .i64 1)) S fun l S=>onB l fun b=>gd b (Q (.ret (.v (.bool false))) S) (shift a 3 S fun m S=>ld1 m S fun n S=>lenS n S fun o S=>bin .gtr 0 o (.v (.int .i64 0)) S fun p S=>onB p fun b=>gd b (Q (.ret (.v (.bool false))) S) (shift a 4 S fun q S=>ld1 q S fun r S=>lenS r S fun s S=>bin .neq 0 s (.v (.int .i64 1)) S fun t S=>onB t fun b=>gd b (Q (.ret (.v (.bool false))) S) (∃ u:AV,(∀ T:Store,Keep S T→shift a 1 T fun w S=>w=u∧S=T)∧∃ x:AV,(∀ T:Store,Keep S T→ld1 u T fun y S=>y=x∧S=T)∧∃ z:AV,(∀ T:Store,Keep S T→shift a 2 T fun A S=>A=z∧S=T)∧∃ B:AV,(∀ T:Store,Keep S T→ld1 z T fun C S=>C=B∧S=T)∧∃ D:AV,(∀ T:Store,Keep S T→ixS 24 4 x2 B T fun E S=>E=D∧S=T)∧∃ F:AV,(∀ T:Store,Keep S T→ldN 4 D T fun G S=>G=F∧S=T)∧∃ H:AV,(∀ T:Store,Keep S T→shift a 4 T fun I S=>I=H∧S=T)∧∃ J:AV,(∀ T:Store,Keep S T→ld1 H T fun K S=>K=J∧S=T)∧∃ L:AV,(∀ T:Store,Keep S T→ixS 37 5 J (.v (.int .i64 0)) T fun M S=>M=L∧S=T)∧∃ N:AV,(∀ T:Store,Keep S T→ldN 5 L T fun O S=>O=N∧S=T)∧callF Pg 139 [x0,x,F,N] S (fun _ _=>False) fun P S=>Q (.ret P) S)))))
theorem calls140{x0 x1 x2:AV}{S:Store}{Q:PoT}(h:m140 x0 x1 x2 S Q):ACalls Pg 140 [x0,x1,x2] S Q:=
 calls_of_vc (fn:=Tryz.f140) (c:=c140) (n:=45) Tryz.func140 (by kernel_rfl) (by kernel_rfl) (by kernel_rfl) ms140 (Eq.mpr (by kernel_rfl) h)
def c93:Code:=(Tryz.f93.body).getD .skip
def ms93:List (List Nat):=[[140]]
def m93(x0 x1 x2:AV)(S:Store)(Q:PoT):Prop:=
 boxN 24 4 x1 S fun a S=>boxN 37 5 x2 S fun c S=>ldN 5 c S fun d S=>shift a 3 S fun e S=>ld1 e S fun f S=>callF Pg 140 [x0,d,f] S Q fun g S=>Q (.ret g) S
theorem calls93{x0 x1 x2:AV}{S:Store}{Q:PoT}(h:m93 x0 x1 x2 S Q):ACalls Pg 93 [x0,x1,x2] S Q:=
 calls_of_vc (fn:=Tryz.f93) (c:=c93) (n:=12) Tryz.func93 (by kernel_rfl) (by kernel_rfl) (by kernel_rfl) ms93 (Eq.mpr (by kernel_rfl) h)
def c139:Code:=(Tryz.f139.body).getD .skip
def ms139:List (List Nat):=[[54]]
def m139(x0 x1 x2 x3:AV)(S:Store)(Q:PoT):Prop:=
 boxN 24 4 x2 S fun a S=>boxN 37 5 x3 S fun c S=>shift c 1 S fun d S=>ld1 d S fun e S=>bin .eql 0 e x1 S fun f S=>onB f fun b=>gd b (ldN 4 a S fun g S=>ldN 5 c S fun h S=>callF Pg 54 [x0,g,h] S Q fun i S=>Q (.ret i) S) (Q (.ret (.v (.bool false))) S)
theorem calls139{x0 x1 x2 x3:AV}{S:Store}{Q:PoT}(h:m139 x0 x1 x2 x3 S Q):ACalls Pg 139 [x0,x1,x2,x3] S Q:=
 calls_of_vc (fn:=Tryz.f139) (c:=c139) (n:=19) Tryz.func139 (by kernel_rfl) (by kernel_rfl) (by kernel_rfl) ms139 (Eq.mpr (by kernel_rfl) h)
def c137:Code:=(Tryz.f137.body).getD .skip
def ms137:List (List Nat):=[[]]
def m137(x0 x1 x2:AV)(S:Store)(Q:PoT):Prop:=
 nilChk x0 S fun a S=>shift a 0 S fun c S=>ldN 8 c S fun d S=>callF Pg 171 [d,x1,x2] S Q fun e S=>Q (.ret e) S
theorem calls137{x0 x1 x2:AV}{S:Store}{Q:PoT}(h:m137 x0 x1 x2 S Q):ACalls Pg 137 [x0,x1,x2] S Q:=
 calls_of_vc (fn:=Tryz.f137) (c:=c137) (n:=14) Tryz.func137 (by kernel_rfl) (by kernel_rfl) (by kernel_rfl) ms137 (Eq.mpr (by kernel_rfl) h)
def c146:Code:=(Tryz.f146.body).getD .skip
def ms146:List (List Nat):=[[]]
def m146(x0 x1 x2:AV)(S:Store)(Q:PoT):Prop:=
 ld1 x1 S fun a S=>ld1 x2 S fun c S=>callF Pg 137 [a,c,x0] S Q fun d S=>un .not d S fun e S=>Q (.ret e) S
theorem calls146{x0 x1 x2:AV}{S:Store}{Q:PoT}(h:m146 x0 x1 x2 S Q):ACalls Pg 146 [x0,x1,x2] S Q:=
 calls_of_vc (fn:=Tryz.f146) (c:=c146) (n:=10) Tryz.func146 (by kernel_rfl) (by kernel_rfl) (by kernel_rfl) ms146 (Eq.mpr (by kernel_rfl) h)
def c100:Code:=(Tryz.f100.body).getD .skip
def ms100:List (List Nat):=[[]]
def m100(x0 x1:AV)(S:Store)(Q:PoT):Prop:=
 boxN 96 1 x0 S fun a S=>boxN 3 1 x1 S fun c S=>(fun S0:Store=>∃ d:AV,(ld1 a S fun e S=>e=d∧S=S0)∧∃ g:AV,(nilChk d S fun h S=>h=g∧S=S0)∧∃ i:AV,(shift g 0 S fun k S=>k=i∧S=S0)∧∃ l:AV,(shift i 0 S fun m S=>m=l∧S=S0)∧∃ n:AV,(ld1 l S fun o S=>o=n∧S=S0)∧∃ p:AV,(ld1 a S fun q S=>q=p∧S=S0)∧∃ r:AV,(nilChk p S fun s S=>s=r∧S=S0)∧∃ t:AV,(shift r 0 S fun u S=>u=t∧S=S0)∧∃ w:AV,(shift t 1 S fun x S=>x=w∧S=S0)∧∃ y:AV,(ld1 w S fun z S=>z=y∧S=S0)∧∃ A:AV,(lenS y S fun B S=>B=A∧S=S0)∧∃ C:AV,(bin .add 0 n A S fun D S=>D=C∧S=S0)∧(fun S0:Store=>∃ E:AV,(ld1 c S fun F S=>F=E∧S=S0)∧∃ G:AV,(bin .geq 0 E (.v (.int .i64 0)) S fun H S=>H=G∧S=S0)∧onB G fun b=>gd b (∃ I:AV,(ld1 c S fun J S=>J=I∧S=S0)∧∃ K:AV,(bin .shl 0 (.v (.int .i64 1)) C S fun L S=>L=K∧S=S0)∧∃ M:AV,(bin .lss 0 I K S fun N S=>N=M∧S=S0)∧∃ O:AV,(M=O∧S=S0)∧onB O fun b=>gd b (∃ P:AV,(ld1 a S fun R S=>R=P∧S=S0)∧∃ T:AV,(nilChk P S fun U S=>U=T∧S=S0)∧∃ V:AV,(shift T 0 S fun W S=>W=V∧S=S0)∧∃ X:AV,(shift V 5 S fun Y S=>Y=X∧S=S0)∧∃ Z:AV,(ld1 X S fun a0 S=>a0=Z∧S=S0)∧∃ a1:AV,((.f (.func 146) [] [a,c])=a1∧S=S0)∧∃ a2:AV,(callF Pg 132 [Z,a1] S (fun _ _=>False) fun a3 S=>a3=a2∧S=S0)∧∃ a4:AV,(un .not a2 S fun a5 S=>a5=a4∧S=S0)∧∃ a6:AV,(a4=a6∧S=S0)∧Q (.ret a6) S) (∃ a7:AV,((.v (.bool false))=a7∧S=S0)∧Q (.ret a7) S)) (∃ a8:AV,((.v (.bool false))=a8∧S=S0)∧onB a8 fun b=>gd b (∃ a9:AV,(ld1 a S fun b0 S=>b0=a9∧S=S0)∧∃ b1:AV,(nilChk a9 S fun b2 S=>b2=b1∧S=S0)∧∃ b3:AV,(shift b1 0 S fun b4 S=>b4=b3∧S=S0)∧∃ b5:AV,(shift b3 5 S fun b6 S=>b6=b5∧S=S0)∧∃ b7:AV,(ld1 b5 S fun b8 S=>b8=b7∧S=S0)∧∃ b9:AV,((.f (.func 146) [] [a,c])=b9∧S=S0)∧∃ c0:AV,(callF Pg 132 [b7,b9] S (fun _ _=>False) fun c1 S=>c1=c0∧S=S0)∧∃ c2:AV,(un .not c0 S fun c3 S=>c3=c2∧S=S0)∧∃ c4:AV,(c2=c4∧S=S0)∧Q (.ret c4) S) (∃ c5:AV,((.v (.bool false))=c5∧S=S0)∧Q (.ret c5) S))) S) S
theorem calls100{x0 x1:AV}{S:Store}{Q:PoT}(h:m100 x0 x1 S Q):ACalls Pg 100 [x0,x1] S Q:=
 calls_of_vc (fn:=Tryz.f100) (c:=c100) (n:=36) Tryz.func100 (by kernel_rfl) (by kernel_rfl) (by kernel_rfl) ms100 (Eq.mpr (by kernel_rfl) h)
def c141:Code:=(Tryz.f141.body).getD .skip
def ms141:List (List Nat):=[[]]
def m141(x0 x1 x2:AV)(S:Store)(Q:PoT):Prop:=
 (fun S0:Store=>∃ a:AV,(callF Pg 100 [x0,x1] S (fun _ _=>False) fun c S=>c=a∧S=S0)∧onB a fun b=>gd b (∃ d:AV,(callF Pg 100 [x0,x2] S (fun _ _=>False) fun e S=>e=d∧S=S0)∧∃ f:AV,(d=f∧S=S0)∧onB f fun b=>gd b (∃ g:AV,(nilChk x0 S fun h S=>h=g∧S=S0)∧∃ i:AV,(shift g 0 S fun k S=>k=i∧S=S0)∧∃ l:AV,(ldN 8 i S fun m S=>m=l∧S=S0)∧∃ n:AV,(callF Pg 172 [l,x1] S (fun _ _=>False) fun o S=>o=n∧S=S0)∧∃ p:AV,(nilChk x0 S fun q S=>q=p∧S=S0)∧∃ r:AV,(shift p 0 S fun s S=>s=r∧S=S0)∧∃ t:AV,(shift r 0 S fun u S=>u=t∧S=S0)∧∃ w:AV,(ld1 t S fun x S=>x=w∧S=S0)∧∃ y:AV,(bin .shr 0 n w S fun z S=>z=y∧S=S0)∧∃ A:AV,(nilChk x0 S fun B S=>B=A∧S=S0)∧∃ C:AV,(shift A 0 S fun D S=>D=C∧S=S0)∧∃ E:AV,(shift C 0 S fun F S=>F=E∧S=S0)∧∃ G:AV,(ld1 E S fun H S=>H=G∧S=S0)∧∃ I:AV,(bin .shr 0 x2 G S fun J S=>J=I∧S=S0)∧∃ K:AV,(bin .eql 0 y I S fun L S=>L=K∧S=S0)∧∃ M:AV,(K=M∧S=S0)∧Q (.ret M) S) (∃ N:AV,((.v (.bool false))=N∧S=S0)∧Q (.ret N) S)) (∃ O:AV,((.v (.bool false))=O∧S=S0)∧onB O fun b=>gd b (∃ P:AV,(nilChk x0 S fun R S=>R=P∧S=S0)∧∃ T:AV,(shift P 0 S fun U S=>U=T∧S=S0)∧∃ V:AV,(ldN 8 T S fun W S=>W=V∧S=S0)∧∃ X:AV,(callF Pg 172 [V,x1] S (fun _ _=>False) fun Y S=>Y=X∧S=S0)∧∃ Z:AV,(nilChk x0 S fun a0 S=>a0=Z∧S=S0)∧∃ a1:AV,(shift Z 0 S fun a2 S=>a2=a1∧S=S0)∧∃ a3:AV,(shift a1 0 S fun a4 S=>a4=a3∧S=S0)∧∃ a5:AV,(ld1 a3 S fun a6 S=>a6=a5∧S=S0)∧∃ a7:AV,(bin .shr 0 X a5 S fun a8 S=>a8=a7∧S=S0)∧∃ a9:AV,(nilChk x0 S fun b0 S=>b0=a9∧S=S0)∧∃ b1:AV,(shift a9 0 S fun b2 S=>b2=b1∧S=S0)∧∃ b4:AV,(shift b1 0 S fun b5 S=>b5=b4∧S=S0)∧∃ b6:AV,(ld1 b4 S fun b8 S=>b8=b6∧S=S0)∧∃ b9:AV,(bin .shr 0 x2 b6 S fun c0 S=>c0=b9∧S=S0)∧∃ c1:AV,(bin .eql 0 a7 b9 S fun c2 S=>c2=c1∧S=S0)∧∃ c3:AV,(c1=c3∧S=S0)∧Q (.ret c3) S) (∃ c4:AV,((.v (.bool false))=c4∧S=S0)∧Q (.ret c4) S))) S
theorem calls141{x0 x1 x2:AV}{S:Store}{Q:PoT}(h:m141 x0 x1 x2 S Q):ACalls Pg 141 [x0,x1,x2] S Q:=
 calls_of_vc (fn:=Tryz.f141) (c:=c141) (n:=37) Tryz.func141 (by kernel_rfl) (by kernel_rfl) (by kernel_rfl) ms141 (Eq.mpr (by kernel_rfl) h)
def c138:Code:=(Tryz.f138.body).getD .skip
def ms138:List (List Nat):=[[]]
def m138(x0 x1:AV)(S:Store)(Q:PoT):Prop:=
 boxN 37 5 x0 S fun a S=>shift a 0 S fun c S=>ld1 c S fun d S=>bin .eql 0 d x1 S fun e S=>onB e fun b=>gd b (shift a 2 S fun f S=>ld1 f S fun g S=>bin .eql 0 g (.v (.int .i64 0)) S fun h S=>onB h fun b=>gd b (shift a 3 S fun i S=>ld1 i S fun k S=>lenS k S fun l S=>bin .eql 0 l (.v (.int .i64 0)) S fun m S=>Q (.ret m) S) (Q (.ret (.v (.bool false))) S)) (Q (.ret (.v (.bool false))) S)
theorem calls138{x0 x1:AV}{S:Store}{Q:PoT}(h:m138 x0 x1 S Q):ACalls Pg 138 [x0,x1] S Q:=
 calls_of_vc (fn:=Tryz.f138) (c:=c138) (n:=20) Tryz.func138 (by kernel_rfl) (by kernel_rfl) (by kernel_rfl) ms138 (Eq.mpr (by kernel_rfl) h)
def c136:Code:=(Tryz.f136.body).getD .skip
def ms136:List (List Nat):=[[]]
def m136(x0 x1:AV)(S:Store)(Q:PoT):Prop:=
 boxN 37 5 x0 S fun a S=>ldN 5 a S fun c S=>callF Pg 138 [c,x1] S Q fun d S=>onB d fun b=>gd b (shift a 4 S fun e S=>ld1 e S fun f S=>lenS f S fun g S=>bin .eql 0 g (.v (.int .i64 0)) S fun h S=>Q (.ret h) S) (Q (.ret (.v (.bool false))) S)
theorem calls136{x0 x1:AV}{S:Store}{Q:PoT}(h:m136 x0 x1 S Q):ACalls Pg 136 [x0,x1] S Q:=
 calls_of_vc (fn:=Tryz.f136) (c:=c136) (n:=14) Tryz.func136 (by kernel_rfl) (by kernel_rfl) (by kernel_rfl) ms136 (Eq.mpr (by kernel_rfl) h)
def c142:Code:=(Tryz.f142.body).getD .skip
def ms142:List (List Nat):=[[]]
def m142(S:Store)(Q:PoT):Prop:=
 boxN 24 4 (.a [.v (.int .i64 0),.v (.string ByteArray.empty),.v (.int .i64 0),.nl]) S fun c S=>bld [(0,1),(1,1),(2,1),(3,1)] [.v (.int .i64 0),.v (.string ByteArray.empty),.v (.int .i64 0),.nl] [(0,(.v (.int .i64 2)))] S fun d S=>bslN 24 4 1 [.v (.int .i64 0),.v (.string ByteArray.empty),.v (.int .i64 0),.nl] [(0,d)] S fun e S=>callF Pg 74 [.v (.int .i64 13),e] S Q fun f S=>stN 4 c f S fun g S=>ldN 4 c S fun h _=>Q (.ret h) S
theorem calls142{S:Store}{Q:PoT}(h:m142  S Q):ACalls Pg 142 [] S Q:=
 calls_of_vc (fn:=Tryz.f142) (c:=c142) (n:=4) Tryz.func142 (by kernel_rfl) (by kernel_rfl) (by kernel_rfl) ms142 (Eq.mpr (by kernel_rfl) h)
def c58:Code:=(Tryz.f58.body).getD .skip
def r58:List ResultVar:=Tryz.f58.results.toList
def env58_0(y1 y2 y6:AV):List AV:=[y1,y2,y6]
def lv58_0:List Nat:=[1,2,6]
def ms58:List (List Nat):=[lv58_0,[]]
def m58(x0 x1:AV)(S:Store)(Q:PoT):Prop:=
 boxN 42 8 x0 S fun a S=>shift a 0 S fun c S=>ld1 c S fun d S=>shift a 1 S fun e S=>ld1 e S fun f S=>lenS f S fun g S=>bin .add 0 d g S fun h S=>bin .lss 0 x1 (.v (.int .i64 0)) S fun i S=>onB i fun b=>gd b (Q (.ret (.v (.bool false))) S) (bin .shl 0 (.v (.int .i64 1)) h S fun k S=>bin .geq 0 x1 k S fun l S=>onB l fun b=>gd b (Q (.ret (.v (.bool false))) S) (loopV lv58_0 (vc Pg (c58.at_ [1,1,1,0,1,0,0]) (ms58.drop 1)) 37 (env58_0 x1 a (.v (.int .i64 0))) S (blockK 0 (seqK (vc Pg (c58.at_ [1,1,1,1]) (ms58.drop 1)) (bodyK Pg r58 Q)))))
theorem calls58{x0 x1:AV}{S:Store}{Q:PoT}(h:m58 x0 x1 S Q):ACalls Pg 58 [x0,x1] S Q:=
 calls_of_vc (fn:=Tryz.f58) (c:=c58) (n:=37) Tryz.func58 (by kernel_rfl) (by kernel_rfl) (by kernel_rfl) ms58 (Eq.mpr (by kernel_rfl) h)
def b58_0(y1 y2 y6:AV)(S:Store)(KE0:KeT)(Q:PoT):Prop:=
 shift y2 5 S fun a S=>ld1 a S fun c S=>lenS c S fun d S=>bin .lss 0 y6 d S fun e S=>onB e fun b=>gd b ((fun S0:Store=>∃ f:AV,(ldN 8 y2 S fun g S=>g=f∧S=S0)∧∃ h:AV,(shift y2 5 S fun i S=>i=h∧S=S0)∧∃ k:AV,(ld1 h S fun l S=>l=k∧S=S0)∧∃ m:AV,(ixS 3 1 k y6 S fun n S=>n=m∧S=S0)∧∃ o:AV,(ld1 m S fun p S=>p=o∧S=S0)∧∃ q:AV,(callF Pg 68 [f,y1,o] S (fun _ _=>False) fun r S=>r=q∧S=S0)∧∃ s:AV,(un .not q S fun t S=>t=s∧S=S0)∧onB s fun b=>gd b (Q (.ret (.v (.bool false))) S) (bin .add 0 y6 (.v (.int .i64 1)) S fun u S=>KE0 37 (env58_0 y1 y2 u) S)) S) (Q (.ret (.v (.bool true))) S)
theorem b58_0_eq(y1 y2 y6:AV)(S:Store)(KE0:KeT)(Q:PoT):vc Pg (c58.at_ [1,1,1,0,1,0,0]) (ms58.drop 1) (mkE 37 lv58_0 (env58_0 y1 y2 y6)) S (thenK (fgK lv58_0 KE0) (blockK 0 (seqK (vc Pg (c58.at_ [1,1,1,1]) (ms58.drop 1)) (bodyK Pg r58 Q))))=b58_0 y1 y2 y6 S KE0 Q:=by kernel_rfl
theorem loop58_0{y1 y2:AV}{y60:AV}{S:Store}{Q:PoT}(I:AV→Store→Prop)(μ:AV→Store→Nat)(h0:I y60 S)
    (hr:∀(y6:AV) (S:Store),I y6 S→∀ KE0:KeT,(∀(y6':AV) (S':Store),I y6' S'→μ y6' S'<μ y6 S→KE0 37 (env58_0 y1 y2 y6') S')→b58_0 y1 y2 y6 S KE0 Q):
    loopV lv58_0 (vc Pg (c58.at_ [1,1,1,0,1,0,0]) (ms58.drop 1)) 37 (env58_0 y1 y2 y60) S (blockK 0 (seqK (vc Pg (c58.at_ [1,1,1,1]) (ms58.drop 1)) (bodyK Pg r58 Q))):=by
 refine⟨fun n e S=>n=37∧∃ y6:AV,e=(env58_0 y1 y2 y6)∧I y6 S,fun _ e S=>μ (e.getD 2 .j) S,?_,?_⟩
 ·exact⟨_,_,Wk.refl _ _,rfl,_,rfl,h0⟩
 ·rintro _ e S ⟨rfl,y6,rfl,hI⟩
  exact(b58_0_eq _ _ _ _ _ _).mpr (hr y6 S hI _ (fun y6' S' hI' hm=>⟨_,_,Wk.refl _ _,⟨rfl,_,rfl,hI'⟩,hm⟩))
def c82:Code:=(Tryz.f82.body).getD .skip
def ms82:List (List Nat):=[[]]
def m82(x0 x1:AV)(S:Store)(Q:PoT):Prop:=
 boxN 24 4 x0 S fun c S=>boxN 24 4 x1 S fun d S=>boxN 24 4 (.a [.v (.int .i64 0),.v (.string ByteArray.empty),.v (.int .i64 0),.nl]) S fun e S=>ldN 4 c S fun f S=>ldN 4 d S fun g S=>callF Pg 76 [.v (.int .i64 15),f,g] S Q fun h S=>stN 4 e h S fun i S=>ldN 4 e S fun k _=>Q (.ret k) S
theorem calls82{x0 x1:AV}{S:Store}{Q:PoT}(h:m82 x0 x1 S Q):ACalls Pg 82 [x0,x1] S Q:=
 calls_of_vc (fn:=Tryz.f82) (c:=c82) (n:=8) Tryz.func82 (by kernel_rfl) (by kernel_rfl) (by kernel_rfl) ms82 (Eq.mpr (by kernel_rfl) h)
def c81:Code:=(Tryz.f81.body).getD .skip
def ms81:List (List Nat):=[[]]
def m81(x0:AV)(S:Store)(Q:PoT):Prop:=
 boxN 24 4 x0 S fun c S=>boxN 24 4 (.a [.v (.int .i64 0),.v (.string ByteArray.empty),.v (.int .i64 0),.nl]) S fun d S=>ldN 4 c S fun e S=>callF Pg 75 [.v (.int .i64 13),e] S Q fun f S=>stN 4 d f S fun g S=>ldN 4 d S fun h _=>Q (.ret h) S
theorem calls81{x0:AV}{S:Store}{Q:PoT}(h:m81 x0 S Q):ACalls Pg 81 [x0] S Q:=
 calls_of_vc (fn:=Tryz.f81) (c:=c81) (n:=5) Tryz.func81 (by kernel_rfl) (by kernel_rfl) (by kernel_rfl) ms81 (Eq.mpr (by kernel_rfl) h)
def c21:Code:=(Tryz.f21.body).getD .skip
def ms21:List (List Nat):=[[]]
def m21(x0:AV)(S:Store)(Q:PoT):Prop:=
 boxN 24 4 x0 S fun c S=>boxN 24 4 (.a [.v (.int .i64 0),.v (.string ByteArray.empty),.v (.int .i64 0),.nl]) S fun d S=>ldN 4 c S fun e S=>callF Pg 43 [e,.v (.int .i64 60)] S Q fun f S=>un .not f S fun g S=>onB g fun b=>gd b (bld [(0,1),(1,1),(2,1),(3,1)] [.v (.int .i64 0),.v (.string ByteArray.empty),.v (.int .i64 0),.nl] [] S fun h S=>stN 4 d h S fun i S=>ldN 4 d S fun k _=>Q (.ret k) S) (∃ l:AV,(∀ T:Store,Keep S T→ldN 4 c T fun m S=>m=l∧S=T)∧∃ n:AV,(∀ T:Store,Keep S T→callF Pg 45 [] T (fun _ _=>False) fun o S=>o=n∧S=T)∧∃ p:AV,(∀ T:Store,Keep S T→callF Pg 44 [l,.v (.bool false),n] T (fun _ _=>False) fun q S=>q=p∧S=T)∧stN 4 d p S fun r S=>ldN 4 d S fun s _=>Q (.ret s) S)
theorem calls21{x0:AV}{S:Store}{Q:PoT}(h:m21 x0 S Q):ACalls Pg 21 [x0] S Q:=
 calls_of_vc (fn:=Tryz.f21) (c:=c21) (n:=10) Tryz.func21 (by kernel_rfl) (by kernel_rfl) (by kernel_rfl) ms21 (Eq.mpr (by kernel_rfl) h)
def c22:Code:=(Tryz.f22.body).getD .skip
def ms22:List (List Nat):=[[]]
def m22(x0:AV)(S:Store)(Q:PoT):Prop:=
 boxN 24 4 x0 S fun c S=>boxN 24 4 (.a [.v (.int .i64 0),.v (.string ByteArray.empty),.v (.int .i64 0),.nl]) S fun d S=>ldN 4 c S fun e S=>callF Pg 46 [e,.v (.int .i64 60)] S Q fun f S=>un .not f S fun g S=>onB g fun b=>gd b (bld [(0,1),(1,1),(2,1),(3,1)] [.v (.int .i64 0),.v (.string ByteArray.empty),.v (.int .i64 0),.nl] [] S fun h S=>stN 4 d h S fun i S=>ldN 4 d S fun k _=>Q (.ret k) S) (ldN 4 c S fun l S=>callF Pg 47 [l,.v (.bool false)] S Q fun m S=>stN 4 d m S fun n S=>ldN 4 d S fun o _=>Q (.ret o) S)
theorem calls22{x0:AV}{S:Store}{Q:PoT}(h:m22 x0 S Q):ACalls Pg 22 [x0] S Q:=
 calls_of_vc (fn:=Tryz.f22) (c:=c22) (n:=9) Tryz.func22 (by kernel_rfl) (by kernel_rfl) (by kernel_rfl) ms22 (Eq.mpr (by kernel_rfl) h)
def c44:Code:=(Tryz.f44.body).getD .skip
def r44:List ResultVar:=Tryz.f44.results.toList
def env44_0(y1 y6 y7 y8 y71 y72:AV):List AV:=[y1,y6,y7,y8,y71,y72]
def lv44_0:List Nat:=[1,6,7,8,71,72]
def ms44:List (List Nat):=[lv44_0,[]]
def m44(x0 x1 x2:AV)(S:Store)(Q:PoT):Prop:=
 boxN 24 4 x0 S fun c S=>boxN 87 1 x2 S fun d S=>boxN 24 4 (.a [.v (.int .i64 0),.v (.string ByteArray.empty),.v (.int .i64 0),.nl]) S fun e S=>shift c 0 S fun g S=>ld1 g S fun h S=>bin .eql 0 h (.v (.int .i64 3)) S fun k S=>onB k fun b=>gd b (onB x1 fun b=>gd b (ldN 4 c S fun l S=>bslN 24 4 1 [.v (.int .i64 0),.v (.string ByteArray.empty),.v (.int .i64 0),.nl] [(0,l)] S fun m S=>callF Pg 74 [.v (.int .i64 4),m] S Q fun n S=>stN 4 e n S fun o S=>ldN 4 e S fun p _=>Q (.ret p) S) (ldN 4 c S fun q S=>stN 4 e q S fun r S=>ldN 4 e S fun s _=>Q (.ret s) S)) (bin .eql 0 h (.v (.int .i64 4)) S fun t S=>onB t fun b=>gd b (un .not x1 S fun w S=>callV Pg (.f (.func 73) [] [c,d]) [.v (.int .i64 0),w] S (fun x S=>stN 4 e x S fun y S=>ldN 4 e S fun z _=>Q (.ret z) S) (fun u S=>Q (.pan u) S)) (bin .eql 0 h (.v (.int .i64 7)) S fun A S=>onB A fun b=>gd b (onB x1 fun b=>gd b (callV Pg (.f (.func 73) [] [c,d]) [.v (.int .i64 0),.v (.bool false)] S (fun B S=>callV Pg (.f (.func 73) [] [c,d]) [.v (.int .i64 1),.v (.bool true)] S (fun C S=>bslN 24 4 2 [.v (.int .i64 0),.v (.string ByteArray.empty),.v (.int .i64 0),.nl] [(0,B),(1,C)] S fun D S=>callF Pg 74 [.v (.int .i64 5),D] S Q fun E S=>stN 4 e E S fun F S=>ldN 4 e S fun G _=>Q (.ret G) S) (fun u S=>Q (.pan u) S)) (fun u S=>Q (.pan u) S)) (callV Pg (.f (.func 73) [] [c,d]) [.v (.int .i64 0),.v (.bool true)] S (fun H S=>callV Pg (.f (.func 73) [] [c,d]) [.v (.int .i64 1),.v (.bool false)] S (fun I S=>bslN 24 4 2 [.v (.int .i64 0),.v (.string ByteArray.empty),.v (.int .i64 0),.nl] [(0,H),(1,I)] S fun J S=>callF Pg 74 [.v (.int .i64 6),J] S Q fun K S=>stN 4 e K S fun L S=>ldN 4 e S fun M _=>Q (.ret M) S) (fun u S=>Q (.pan u) S)) (fun u S=>Q (.pan u) S))) (bin .eql 0 h (.v (.int .i64 8)) S fun N S=>onB N fun b=>gd b (callV Pg (.f (.func 73) [] [c,d]) [.v (.int .i64 0),.v (.bool false)] S (fun O S=>callV Pg (.f (.func 73) [] [c,d]) [.v (.int .i64 1),x1] S (fun P S=>bslN 24 4 2 [.v (.int .i64 0),.v (.string ByteArray.empty),.v (.int .i64 0),.nl] [(0,O),(1,P)] S fun R S=>callF Pg 74 [.v (.int .i64 5),R] S Q fun T S=>callV Pg (.f (.func 73) [] [c,d]) [.v (.int .i64 0),.v (.bool true)] S (fun U S=>un .not x1 S fun V S=>callV Pg (.f (.func 73) [] [c,d]) [.v (.int .i64 1),V] S (fun W S=>bslN 24 4 2 [.v (.int .i64 0),.v (.string ByteArray.empty),.v (.int .i64 0),.nl] [(0,U),(1,W)] S fun X S=>callF Pg 74 [.v (.int .i64 5),X] S Q fun Y S=>bslN 24 4 2 [.v (.int .i64 0),.v (.string ByteArray.empty),.v (.int .i64 0),.nl] [(0,T),(1,Y)] S fun Z S=>callF Pg 74 [.v (.int .i64 6),Z] S Q fun a0 S=>stN 4 e a0 S fun a1 S=>ldN 4 e S fun a2 _=>Q (.ret a2) S) (fun u S=>Q (.pan u) S)) (fun u S=>Q (.pan u) S)) (fun u S=>Q (.pan u) S)) (fun u S=>Q (.pan u) S)) (shift c 0 S fun a3 S=>ld1 a3 S fun a4 S=>bld [(0,1),(1,1),(2,1),(3,1)] [.v (.int .i64 0),.v (.string ByteArray.empty),.v (.int .i64 0),.nl] [(0,a4)] S fun a5 S=>boxN 24 4 (.a [.v (.int .i64 0),.v (.string ByteArray.empty),.v (.int .i64 0),.nl]) S fun a6 S=>stN 4 a6 a5 S fun a7 S=>onB x1 fun b=>gd b (ld1 d S fun a8 S=>shift c 0 S fun a9 S=>ld1 a9 S fun b0 S=>lkM (.i .i64) (.v (.int .i64 0)) false a8 b0 S fun b1 S=>shift a6 0 S fun b2 S=>stN 1 b2 b1 S fun b3 S=>shift c 3 S fun b4 S=>ld1 b4 S fun b5 S=>lenS b5 S fun b6 S=>loopV lv44_0 (vc Pg (c44.at_ [1,1,1,1,1,0,1,0,0]) (ms44.drop 1)) 86 (env44_0 x1 e (.f (.func 73) [] [c,d]) a6 b6 (.v (.int .i64 0))) S (blockK 1 (seqK (vc Pg (c44.at_ [1,1,1,1,1,1]) (ms44.drop 1)) (bodyK Pg r44 Q)))) (shift c 3 S fun b9 S=>ld1 b9 S fun c0 S=>lenS c0 S fun c1 S=>loopV lv44_0 (vc Pg (c44.at_ [1,1,1,1,1,0,1,0,0]) (ms44.drop 1)) 86 (env44_0 x1 e (.f (.func 73) [] [c,d]) a6 c1 (.v (.int .i64 0))) S (blockK 1 (seqK (vc Pg (c44.at_ [1,1,1,1,1,1]) (ms44.drop 1)) (bodyK Pg r44 Q))))))))
theorem calls44{x0 x1 x2:AV}{S:Store}{Q:PoT}(h:m44 x0 x1 x2 S Q):ACalls Pg 44 [x0,x1,x2] S Q:=
 calls_of_vc (fn:=Tryz.f44) (c:=c44) (n:=86) Tryz.func44 (by kernel_rfl) (by kernel_rfl) (by kernel_rfl) ms44 (Eq.mpr (by kernel_rfl) h)
def b44_0(y1 y6 y7 y8 y71 y72:AV)(S:Store)(KE0:KeT)(Q:PoT):Prop:=
 bin .lss 0 y72 y71 S fun a S=>onB a fun b=>gd b (∃ c:AV,(∀ T:Store,Keep S T→shift y8 3 T fun d S=>d=c∧S=T)∧∃ e:AV,(∀ T:Store,Keep S T→ld1 c T fun f S=>f=e∧S=T)∧∃ g:AV,(∀ T:Store,Keep S T→callV Pg y7 [y72,y1] T (fun h S=>h=g∧S=T) (fun u S=>False))∧∃ i:AV,(∀ T:Store,Keep S T→bslN 24 4 1 [.v (.int .i64 0),.v (.string ByteArray.empty),.v (.int .i64 0),.nl] [(0,g)] T fun k S=>k=i∧S=T)∧appS 24 4 56 e i S fun l S=>∃ m:AV,(∀ T:Store,Keep S T→shift y8 3 T fun n S=>n=m∧S=T)∧stN 1 m l S fun o S=>bin .add 0 y72 (.v (.int .i64 1)) S fun p S=>KE0 86 (env44_0 y1 y6 y7 y8 y71 p) S) (ldN 4 y8 S fun q S=>stN 4 y6 q S fun r S=>ldN 4 y6 S fun s _=>Q (.ret s) S)
theorem b44_0_eq(y1 y6 y7 y8 y71 y72:AV)(S:Store)(KE0:KeT)(Q:PoT):vc Pg (c44.at_ [1,1,1,1,1,0,1,0,0]) (ms44.drop 1) (mkE 86 lv44_0 (env44_0 y1 y6 y7 y8 y71 y72)) S (thenK (fgK lv44_0 KE0) (blockK 1 (seqK (vc Pg (c44.at_ [1,1,1,1,1,1]) (ms44.drop 1)) (bodyK Pg r44 Q))))=b44_0 y1 y6 y7 y8 y71 y72 S KE0 Q:=by kernel_rfl
theorem loop44_0{y1 y6 y7 y8 y71:AV}{y720:AV}{S:Store}{Q:PoT}(I:AV→Store→Prop)(μ:AV→Store→Nat)(h0:I y720 S)
    (hr:∀(y72:AV) (S:Store),I y72 S→∀ KE0:KeT,(∀(y72':AV) (S':Store),I y72' S'→μ y72' S'<μ y72 S→KE0 86 (env44_0 y1 y6 y7 y8 y71 y72') S')→b44_0 y1 y6 y7 y8 y71 y72 S KE0 Q):
    loopV lv44_0 (vc Pg (c44.at_ [1,1,1,1,1,0,1,0,0]) (ms44.drop 1)) 86 (env44_0 y1 y6 y7 y8 y71 y720) S (blockK 1 (seqK (vc Pg (c44.at_ [1,1,1,1,1,1]) (ms44.drop 1)) (bodyK Pg r44 Q))):=by
 refine⟨fun n e S=>n=86∧∃ y72:AV,e=(env44_0 y1 y6 y7 y8 y71 y72)∧I y72 S,fun _ e S=>μ (e.getD 5 .j) S,?_,?_⟩
 ·exact⟨_,_,Wk.refl _ _,rfl,_,rfl,h0⟩
 ·rintro _ e S ⟨rfl,y72,rfl,hI⟩
  exact(b44_0_eq _ _ _ _ _ _ _ _ _).mpr (hr y72 S hI _ (fun y72' S' hI' hm=>⟨_,_,Wk.refl _ _,⟨rfl,_,rfl,hI'⟩,hm⟩))
def c74:Code:=(Tryz.f74.body).getD .skip
def ms74:List (List Nat):=[[]]
def m74(x0 x1:AV)(S:Store)(Q:PoT):Prop:=
 boxN 24 4 (.a [.v (.int .i64 0),.v (.string ByteArray.empty),.v (.int .i64 0),.nl]) S fun c S=>bld [(0,1),(1,1),(2,1),(3,1)] [.v (.int .i64 0),.v (.string ByteArray.empty),.v (.int .i64 0),.nl] [(0,x0),(3,x1)] S fun d S=>stN 4 c d S fun e S=>ldN 4 c S fun f _=>Q (.ret f) S
theorem calls74{x0 x1:AV}{S:Store}{Q:PoT}(h:m74 x0 x1 S Q):ACalls Pg 74 [x0,x1] S Q:=
 calls_of_vc (fn:=Tryz.f74) (c:=c74) (n:=8) Tryz.func74 (by kernel_rfl) (by kernel_rfl) (by kernel_rfl) ms74 (Eq.mpr (by kernel_rfl) h)
def c45:Code:=(Tryz.f45.body).getD .skip
def r45:List ResultVar:=Tryz.f45.results.toList
def env45_0(y1 y12 y13:AV):List AV:=[y1,y12,y13]
def lv45_0:List Nat:=[1,12,13]
def ms45:List (List Nat):=[lv45_0,[]]
def m45(S:Store)(Q:PoT):Prop:=
 mkM (.i .i64) S fun a S=>bld [(0,1),(1,1)] [.v (.int .i64 0),.v (.int .i64 0)] [(0,(.v (.int .i64 1))),(1,(.v (.int .i64 2)))] S fun c S=>bld [(0,1),(1,1)] [.v (.int .i64 0),.v (.int .i64 0)] [(0,(.v (.int .i64 5))),(1,(.v (.int .i64 6)))] S fun d S=>bld [(0,1),(1,1)] [.v (.int .i64 0),.v (.int .i64 0)] [(0,(.v (.int .i64 9))),(1,(.v (.int .i64 10)))] S fun e S=>bld [(0,1),(1,1)] [.v (.int .i64 0),.v (.int .i64 0)] [(0,(.v (.int .i64 11))),(1,(.v (.int .i64 14)))] S fun f S=>bld [(0,1),(1,1)] [.v (.int .i64 0),.v (.int .i64 0)] [(0,(.v (.int .i64 13))),(1,(.v (.int .i64 12)))] S fun g S=>bld [(0,1),(1,1)] [.v (.int .i64 0),.v (.int .i64 0)] [(0,(.v (.int .i64 15))),(1,(.v (.int .i64 18)))] S fun h S=>bld [(0,1),(1,1)] [.v (.int .i64 0),.v (.int .i64 0)] [(0,(.v (.int .i64 17))),(1,(.v (.int .i64 16)))] S fun k S=>bld [(0,2),(2,2),(4,2),(6,2),(8,2),(10,2),(12,2)] [.v (.int .i64 0),.v (.int .i64 0),.v (.int .i64 0),.v (.int .i64 0),.v (.int .i64 0),.v (.int .i64 0),.v (.int .i64 0),.v (.int .i64 0),.v (.int .i64 0),.v (.int .i64 0),.v (.int .i64 0),.v (.int .i64 0),.v (.int .i64 0),.v (.int .i64 0)] [(0,c),(1,d),(2,e),(3,f),(4,g),(5,h),(6,k)] S fun l S=>loopV lv45_0 (vc Pg (c45.at_ [1,1,0,1,0,0]) (ms45.drop 1)) 28 (env45_0 a l (.v (.int .i64 0))) S (blockK 0 (seqK (vc Pg (c45.at_ [1,1,1]) (ms45.drop 1)) (bodyK Pg r45 Q)))
theorem calls45{S:Store}{Q:PoT}(h:m45  S Q):ACalls Pg 45 [] S Q:=
 calls_of_vc (fn:=Tryz.f45) (c:=c45) (n:=28) Tryz.func45 (by kernel_rfl) (by kernel_rfl) (by kernel_rfl) ms45 (Eq.mpr (by kernel_rfl) h)
def b45_0(y1 y12 y13:AV)(S:Store)(KE0:KeT)(Q:PoT):Prop:=
 bin .lss 0 y13 (.v (.int .i64 7)) S fun c S=>onB c fun b=>gd b (optP (intA y13) fun z12=>(0≤z12∧z12<((7:Nat):Int))∧partN y12 2 (z12.toNat*2) S fun d S=>boxN 124 2 (.a [.v (.int .i64 0),.v (.int .i64 0)]) S fun e S=>stN 2 e d S fun f S=>∃ g:AV,(∀ T:Store,Keep S T→ixA 2 1 e (.v (.int .i64 0)) T fun h S=>h=g∧S=T)∧∃ k:AV,(∀ T:Store,Keep S T→ld1 g T fun l S=>l=k∧S=T)∧∃ m:AV,(∀ T:Store,Keep S T→ixA 2 1 e (.v (.int .i64 1)) T fun n S=>n=m∧S=T)∧∃ o:AV,(∀ T:Store,Keep S T→ld1 m T fun p S=>p=o∧S=T)∧∃ q:AV,(∀ T:Store,Keep S T→ixA 2 1 e (.v (.int .i64 1)) T fun r S=>r=q∧S=T)∧∃ s:AV,(∀ T:Store,Keep S T→ld1 q T fun t S=>t=s∧S=T)∧∃ u:AV,(∀ T:Store,Keep S T→ixA 2 1 e (.v (.int .i64 0)) T fun w S=>w=u∧S=T)∧∃ x:AV,(∀ T:Store,Keep S T→ld1 u T fun y S=>y=x∧S=T)∧updM (.i .i64) y1 k s S fun z S=>(∀ T:Store,Keep S T→ld1 u T fun A S=>A=x∧S=T)∧(∀ T:Store,Keep S T→ixA 2 1 e (.v (.int .i64 0)) T fun B S=>B=u∧S=T)∧(∀ T:Store,Keep S T→ld1 m T fun C S=>C=o∧S=T)∧(∀ T:Store,Keep S T→ixA 2 1 e (.v (.int .i64 1)) T fun D S=>D=m∧S=T)∧updM (.i .i64) y1 o x S fun E S=>bin .add 0 y13 (.v (.int .i64 1)) S fun F S=>KE0 28 (env45_0 y1 y12 F) S) (Q (.ret y1) S)
theorem b45_0_eq(y1 y12 y13:AV)(S:Store)(KE0:KeT)(Q:PoT):vc Pg (c45.at_ [1,1,0,1,0,0]) (ms45.drop 1) (mkE 28 lv45_0 (env45_0 y1 y12 y13)) S (thenK (fgK lv45_0 KE0) (blockK 0 (seqK (vc Pg (c45.at_ [1,1,1]) (ms45.drop 1)) (bodyK Pg r45 Q))))=b45_0 y1 y12 y13 S KE0 Q:=by kernel_rfl
theorem loop45_0{y1 y12:AV}{y130:AV}{S:Store}{Q:PoT}(I:AV→Store→Prop)(μ:AV→Store→Nat)(h0:I y130 S)
    (hr:∀(y13:AV) (S:Store),I y13 S→∀ KE0:KeT,(∀(y13':AV) (S':Store),I y13' S'→μ y13' S'<μ y13 S→KE0 28 (env45_0 y1 y12 y13') S')→b45_0 y1 y12 y13 S KE0 Q):
    loopV lv45_0 (vc Pg (c45.at_ [1,1,0,1,0,0]) (ms45.drop 1)) 28 (env45_0 y1 y12 y130) S (blockK 0 (seqK (vc Pg (c45.at_ [1,1,1]) (ms45.drop 1)) (bodyK Pg r45 Q))):=by
 refine⟨fun n e S=>n=28∧∃ y13:AV,e=(env45_0 y1 y12 y13)∧I y13 S,fun _ e S=>μ (e.getD 2 .j) S,?_,?_⟩
 ·exact⟨_,_,Wk.refl _ _,rfl,_,rfl,h0⟩
 ·rintro _ e S ⟨rfl,y13,rfl,hI⟩
  exact(b45_0_eq _ _ _ _ _ _).mpr (hr y13 S hI _ (fun y13' S' hI' hm=>⟨_,_,Wk.refl _ _,⟨rfl,_,rfl,hI'⟩,hm⟩))
def c73:Code:=(Tryz.f73.body).getD .skip
def ms73:List (List Nat):=[[]]
def m73(x0 x1 x2 x3:AV)(S:Store)(Q:PoT):Prop:=
 boxN 24 4 (.a [.v (.int .i64 0),.v (.string ByteArray.empty),.v (.int .i64 0),.nl]) S fun c S=>∃ d:AV,(∀ T:Store,Keep S T→shift x2 3 T fun e S=>e=d∧S=T)∧∃ f:AV,(∀ T:Store,Keep S T→ld1 d T fun g S=>g=f∧S=T)∧∃ h:AV,(∀ T:Store,Keep S T→ixS 24 4 f x0 T fun i S=>i=h∧S=T)∧∃ k:AV,(∀ T:Store,Keep S T→ldN 4 h T fun l S=>l=k∧S=T)∧∃ m:AV,(∀ T:Store,Keep S T→ld1 x3 T fun n S=>n=m∧S=T)∧∃ o:AV,(∀ T:Store,Keep S T→callF Pg 44 [k,x1,m] T (fun _ _=>False) fun p S=>p=o∧S=T)∧stN 4 c o S fun q S=>ldN 4 c S fun r _=>Q (.ret r) S
theorem calls73{x0 x1 x2 x3:AV}{S:Store}{Q:PoT}(h:m73 x0 x1 x2 x3 S Q):ACalls Pg 73 [x0,x1,x2,x3] S Q:=
 calls_of_vc (fn:=Tryz.f73) (c:=c73) (n:=15) Tryz.func73 (by kernel_rfl) (by kernel_rfl) (by kernel_rfl) ms73 (Eq.mpr (by kernel_rfl) h)
def c47:Code:=(Tryz.f47.body).getD .skip
def r47:List ResultVar:=Tryz.f47.results.toList
def env47_0(y1 y2 y4 y7 y8:AV):List AV:=[y1,y2,y4,y7,y8]
def lv47_0:List Nat:=[1,2,4,7,8]
def ms47:List (List Nat):=[lv47_0,[]]
def m47(x0 x1:AV)(S:Store)(Q:PoT):Prop:=
 boxN 24 4 x0 S fun c S=>boxN 24 4 (.a [.v (.int .i64 0),.v (.string ByteArray.empty),.v (.int .i64 0),.nl]) S fun d S=>shift c 0 S fun e S=>ld1 e S fun f S=>bin .eql 0 f (.v (.int .i64 3)) S fun g S=>onB g fun b=>gd b (onB x1 fun b=>gd b (ldN 4 c S fun h S=>callF Pg 75 [.v (.int .i64 4),h] S Q fun i S=>stN 4 d i S fun k S=>ldN 4 d S fun l _=>Q (.ret l) S) (ldN 4 c S fun m S=>stN 4 d m S fun n S=>ldN 4 d S fun o _=>Q (.ret o) S)) (bin .eql 0 f (.v (.int .i64 4)) S fun p S=>onB p fun b=>gd b (shift c 3 S fun q S=>ld1 q S fun r S=>ixS 24 4 r (.v (.int .i64 0)) S fun s S=>ldN 4 s S fun t S=>un .not x1 S fun u S=>callF Pg 47 [t,u] S Q fun w S=>stN 4 d w S fun x S=>ldN 4 d S fun y _=>Q (.ret y) S) (bin .eql 0 f (.v (.int .i64 7)) S fun z S=>onB z fun b=>gd b (onB x1 fun b=>gd b (∃ A:AV,(∀ T:Store,Keep S T→shift c 3 T fun B S=>B=A∧S=T)∧∃ C:AV,(∀ T:Store,Keep S T→ld1 A T fun D S=>D=C∧S=T)∧∃ E:AV,(∀ T:Store,Keep S T→ixS 24 4 C (.v (.int .i64 0)) T fun F S=>F=E∧S=T)∧∃ G:AV,(∀ T:Store,Keep S T→ldN 4 E T fun H S=>H=G∧S=T)∧∃ I:AV,(∀ T:Store,Keep S T→callF Pg 47 [G,.v (.bool false)] T (fun _ _=>False) fun J S=>J=I∧S=T)∧∃ K:AV,(∀ T:Store,Keep S T→shift c 3 T fun L S=>L=K∧S=T)∧∃ M:AV,(∀ T:Store,Keep S T→ld1 K T fun N S=>N=M∧S=T)∧∃ O:AV,(∀ T:Store,Keep S T→ixS 24 4 M (.v (.int .i64 1)) T fun P S=>P=O∧S=T)∧∃ R:AV,(∀ T:Store,Keep S T→ldN 4 O T fun U S=>U=R∧S=T)∧∃ V:AV,(∀ T:Store,Keep S T→callF Pg 47 [R,.v (.bool true)] T (fun _ _=>False) fun W S=>W=V∧S=T)∧∃ X:AV,(∀ T:Store,Keep S T→callF Pg 76 [.v (.int .i64 5),I,V] T (fun _ _=>False) fun Y S=>Y=X∧S=T)∧stN 4 d X S fun Z S=>ldN 4 d S fun a0 _=>Q (.ret a0) S) (∃ a1:AV,(∀ T:Store,Keep S T→shift c 3 T fun a2 S=>a2=a1∧S=T)∧∃ a3:AV,(∀ T:Store,Keep S T→ld1 a1 T fun a4 S=>a4=a3∧S=T)∧∃ a5:AV,(∀ T:Store,Keep S T→ixS 24 4 a3 (.v (.int .i64 0)) T fun a6 S=>a6=a5∧S=T)∧∃ a7:AV,(∀ T:Store,Keep S T→ldN 4 a5 T fun a8 S=>a8=a7∧S=T)∧∃ a9:AV,(∀ T:Store,Keep S T→callF Pg 47 [a7,.v (.bool true)] T (fun _ _=>False) fun b0 S=>b0=a9∧S=T)∧∃ b1:AV,(∀ T:Store,Keep S T→shift c 3 T fun b2 S=>b2=b1∧S=T)∧∃ b3:AV,(∀ T:Store,Keep S T→ld1 b1 T fun b4 S=>b4=b3∧S=T)∧∃ b5:AV,(∀ T:Store,Keep S T→ixS 24 4 b3 (.v (.int .i64 1)) T fun b8 S=>b8=b5∧S=T)∧∃ b9:AV,(∀ T:Store,Keep S T→ldN 4 b5 T fun c0 S=>c0=b9∧S=T)∧∃ c1:AV,(∀ T:Store,Keep S T→callF Pg 47 [b9,.v (.bool false)] T (fun _ _=>False) fun c2 S=>c2=c1∧S=T)∧∃ c3:AV,(∀ T:Store,Keep S T→callF Pg 76 [.v (.int .i64 6),a9,c1] T (fun _ _=>False) fun c4 S=>c4=c3∧S=T)∧stN 4 d c3 S fun c5 S=>ldN 4 d S fun c6 _=>Q (.ret c6) S)) (bin .eql 0 f (.v (.int .i64 8)) S fun c7 S=>onB c7 fun b=>gd b (∃ c8:AV,(∀ T:Store,Keep S T→shift c 3 T fun c9 S=>c9=c8∧S=T)∧∃ d0:AV,(∀ T:Store,Keep S T→ld1 c8 T fun d1 S=>d1=d0∧S=T)∧∃ d2:AV,(∀ T:Store,Keep S T→ixS 24 4 d0 (.v (.int .i64 0)) T fun d3 S=>d3=d2∧S=T)∧∃ d4:AV,(∀ T:Store,Keep S T→ldN 4 d2 T fun d5 S=>d5=d4∧S=T)∧∃ d6:AV,(∀ T:Store,Keep S T→callF Pg 47 [d4,.v (.bool false)] T (fun _ _=>False) fun d7 S=>d7=d6∧S=T)∧∃ d8:AV,(∀ T:Store,Keep S T→shift c 3 T fun d9 S=>d9=d8∧S=T)∧∃ e0:AV,(∀ T:Store,Keep S T→ld1 d8 T fun e1 S=>e1=e0∧S=T)∧∃ e2:AV,(∀ T:Store,Keep S T→ixS 24 4 e0 (.v (.int .i64 1)) T fun e3 S=>e3=e2∧S=T)∧∃ e4:AV,(∀ T:Store,Keep S T→ldN 4 e2 T fun e5 S=>e5=e4∧S=T)∧∃ e6:AV,(∀ T:Store,Keep S T→callF Pg 47 [e4,x1] T (fun _ _=>False) fun e7 S=>e7=e6∧S=T)∧∃ e8:AV,(∀ T:Store,Keep S T→callF Pg 76 [.v (.int .i64 5),d6,e6] T (fun _ _=>False) fun e9 S=>e9=e8∧S=T)∧boxN 24 4 (.a [.v (.int .i64 0),.v (.string ByteArray.empty),.v (.int .i64 0),.nl]) S fun f0 S=>stN 4 f0 e8 S fun f1 S=>∃ f2:AV,(∀ T:Store,Keep S T→shift c 3 T fun f3 S=>f3=f2∧S=T)∧∃ f4:AV,(∀ T:Store,Keep S T→ld1 f2 T fun f5 S=>f5=f4∧S=T)∧∃ f6:AV,(∀ T:Store,Keep S T→ixS 24 4 f4 (.v (.int .i64 0)) T fun f7 S=>f7=f6∧S=T)∧∃ f8:AV,(∀ T:Store,Keep S T→ldN 4 f6 T fun f9 S=>f9=f8∧S=T)∧∃ g0:AV,(∀ T:Store,Keep S T→callF Pg 47 [f8,.v (.bool true)] T (fun _ _=>False) fun g1 S=>g1=g0∧S=T)∧∃ g2:AV,(∀ T:Store,Keep S T→shift c 3 T fun g3 S=>g3=g2∧S=T)∧∃ g4:AV,(∀ T:Store,Keep S T→ld1 g2 T fun g5 S=>g5=g4∧S=T)∧∃ g6:AV,(∀ T:Store,Keep S T→ixS 24 4 g4 (.v (.int .i64 1)) T fun g7 S=>g7=g6∧S=T)∧∃ g8:AV,(∀ T:Store,Keep S T→ldN 4 g6 T fun g9 S=>g9=g8∧S=T)∧∃ h0:AV,(∀ T:Store,Keep S T→un .not x1 T fun h1 S=>h1=h0∧S=T)∧∃ h2:AV,(∀ T:Store,Keep S T→callF Pg 47 [g8,h0] T (fun _ _=>False) fun h3 S=>h3=h2∧S=T)∧∃ h4:AV,(∀ T:Store,Keep S T→callF Pg 76 [.v (.int .i64 5),g0,h2] T (fun _ _=>False) fun h5 S=>h5=h4∧S=T)∧boxN 24 4 (.a [.v (.int .i64 0),.v (.string ByteArray.empty),.v (.int .i64 0),.nl]) S fun h6 S=>stN 4 h6 h4 S fun h7 S=>ldN 4 f0 S fun h8 S=>ldN 4 h6 S fun h9 S=>callF Pg 76 [.v (.int .i64 6),h8,h9] S Q fun i0 S=>stN 4 d i0 S fun i1 S=>ldN 4 d S fun i2 _=>Q (.ret i2) S) (shift c 0 S fun i3 S=>ld1 i3 S fun i4 S=>bld [(0,1),(1,1),(2,1),(3,1)] [.v (.int .i64 0),.v (.string ByteArray.empty),.v (.int .i64 0),.nl] [(0,i4)] S fun i5 S=>boxN 24 4 (.a [.v (.int .i64 0),.v (.string ByteArray.empty),.v (.int .i64 0),.nl]) S fun i6 S=>stN 4 i6 i5 S fun i7 S=>onB x1 fun b=>gd b (shift c 0 S fun i8 S=>ld1 i8 S fun i9 S=>callF Pg 77 [i9] S Q fun k0 S=>shift i6 0 S fun k1 S=>stN 1 k1 k0 S fun k2 S=>loopV lv47_0 (vc Pg (c47.at_ [1,1,1,1,0,1,0,0]) (ms47.drop 1)) 109 (env47_0 x1 c d i6 (.v (.int .i64 0))) S (blockK 1 (seqK (vc Pg (c47.at_ [1,1,1,1,1]) (ms47.drop 1)) (bodyK Pg r47 Q)))) (loopV lv47_0 (vc Pg (c47.at_ [1,1,1,1,0,1,0,0]) (ms47.drop 1)) 109 (env47_0 x1 c d i6 (.v (.int .i64 0))) S (blockK 1 (seqK (vc Pg (c47.at_ [1,1,1,1,1]) (ms47.drop 1)) (bodyK Pg r47 Q))))))))
theorem calls47{x0 x1:AV}{S:Store}{Q:PoT}(h:m47 x0 x1 S Q):ACalls Pg 47 [x0,x1] S Q:=
 calls_of_vc (fn:=Tryz.f47) (c:=c47) (n:=109) Tryz.func47 (by kernel_rfl) (by kernel_rfl) (by kernel_rfl) ms47 (Eq.mpr (by kernel_rfl) h)
def b47_0(y1 y2 y4 y7 y8:AV)(S:Store)(KE0:KeT)(Q:PoT):Prop:=
 shift y2 3 S fun a S=>ld1 a S fun c S=>lenS c S fun d S=>bin .lss 0 y8 d S fun e S=>onB e fun b=>gd b (∃ f:AV,(∀ T:Store,Keep S T→shift y7 3 T fun g S=>g=f∧S=T)∧∃ h:AV,(∀ T:Store,Keep S T→ld1 f T fun i S=>i=h∧S=T)∧∃ k:AV,(∀ T:Store,Keep S T→shift y2 3 T fun l S=>l=k∧S=T)∧∃ m:AV,(∀ T:Store,Keep S T→ld1 k T fun n S=>n=m∧S=T)∧∃ o:AV,(∀ T:Store,Keep S T→ixS 24 4 m y8 T fun p S=>p=o∧S=T)∧∃ q:AV,(∀ T:Store,Keep S T→ldN 4 o T fun r S=>r=q∧S=T)∧∃ s:AV,(∀ T:Store,Keep S T→callF Pg 47 [q,y1] T (fun _ _=>False) fun t S=>t=s∧S=T)∧∃ u:AV,(∀ T:Store,Keep S T→bslN 24 4 1 [.v (.int .i64 0),.v (.string ByteArray.empty),.v (.int .i64 0),.nl] [(0,s)] T fun w S=>w=u∧S=T)∧appS 24 4 56 h u S fun x S=>∃ y:AV,(∀ T:Store,Keep S T→shift y7 3 T fun z S=>z=y∧S=T)∧stN 1 y x S fun A S=>bin .add 0 y8 (.v (.int .i64 1)) S fun B S=>KE0 109 (env47_0 y1 y2 y4 y7 B) S) (ldN 4 y7 S fun C S=>stN 4 y4 C S fun D S=>ldN 4 y4 S fun E _=>Q (.ret E) S)
theorem b47_0_eq(y1 y2 y4 y7 y8:AV)(S:Store)(KE0:KeT)(Q:PoT):vc Pg (c47.at_ [1,1,1,1,0,1,0,0]) (ms47.drop 1) (mkE 109 lv47_0 (env47_0 y1 y2 y4 y7 y8)) S (thenK (fgK lv47_0 KE0) (blockK 1 (seqK (vc Pg (c47.at_ [1,1,1,1,1]) (ms47.drop 1)) (bodyK Pg r47 Q))))=b47_0 y1 y2 y4 y7 y8 S KE0 Q:=by kernel_rfl
theorem loop47_0{y1 y2 y4 y7:AV}{y80:AV}{S:Store}{Q:PoT}(I:AV→Store→Prop)(μ:AV→Store→Nat)(h0:I y80 S)
    (hr:∀(y8:AV) (S:Store),I y8 S→∀ KE0:KeT,(∀(y8':AV) (S':Store),I y8' S'→μ y8' S'<μ y8 S→KE0 109 (env47_0 y1 y2 y4 y7 y8') S')→b47_0 y1 y2 y4 y7 y8 S KE0 Q):
    loopV lv47_0 (vc Pg (c47.at_ [1,1,1,1,0,1,0,0]) (ms47.drop 1)) 109 (env47_0 y1 y2 y4 y7 y80) S (blockK 1 (seqK (vc Pg (c47.at_ [1,1,1,1,1]) (ms47.drop 1)) (bodyK Pg r47 Q))):=by
 refine⟨fun n e S=>n=109∧∃ y8:AV,e=(env47_0 y1 y2 y4 y7 y8)∧I y8 S,fun _ e S=>μ (e.getD 4 .j) S,?_,?_⟩
 ·exact⟨_,_,Wk.refl _ _,rfl,_,rfl,h0⟩
 ·rintro _ e S ⟨rfl,y8,rfl,hI⟩
  exact(b47_0_eq _ _ _ _ _ _ _ _).mpr (hr y8 S hI _ (fun y8' S' hI' hm=>⟨_,_,Wk.refl _ _,⟨rfl,_,rfl,hI'⟩,hm⟩))
def c16:Code:=(Tryz.f16.body).getD .skip
def ms16:List (List Nat):=[[]]
def m16(x0 x1:AV)(S:Store)(Q:PoT):Prop:=
 boxN 24 4 (.a [.v (.int .i64 0),.v (.string ByteArray.empty),.v (.int .i64 0),.nl]) S fun c S=>callF Pg 34 [x0] S Q fun d S=>callF Pg 42 [d,x1] S Q fun e S=>stN 4 c e S fun f S=>ldN 4 c S fun g _=>Q (.ret g) S
theorem calls16{x0 x1:AV}{S:Store}{Q:PoT}(h:m16 x0 x1 S Q):ACalls Pg 16 [x0,x1] S Q:=
 calls_of_vc (fn:=Tryz.f16) (c:=c16) (n:=9) Tryz.func16 (by kernel_rfl) (by kernel_rfl) (by kernel_rfl) ms16 (Eq.mpr (by kernel_rfl) h)
def c23:Code:=(Tryz.f23.body).getD .skip
def ms23:List (List Nat):=[[16]]
def m23(x0 x1:AV)(S:Store)(Q:PoT):Prop:=
 boxN 42 8 (.a [.v (.int .i64 0),.nl,.nl,.nl,.nl,.nl,.nl,.nl]) S fun c S=>boxN 24 4 (.a [.v (.int .i64 0),.v (.string ByteArray.empty),.v (.int .i64 0),.nl]) S fun d S=>callF Pg 48 [x0] S Q fun e S=>boxN 42 8 (.a [.v (.int .i64 0),.nl,.nl,.nl,.nl,.nl,.nl,.nl]) S fun f S=>stN 8 f e S fun g S=>∃ h:AV,(∀ T:Store,Keep S T→ldN 8 f T fun i S=>i=h∧S=T)∧∃ k:AV,(∀ T:Store,Keep S T→ldN 8 f T fun l S=>l=k∧S=T)∧∃ m:AV,(∀ T:Store,Keep S T→callF Pg 41 [k] T (fun _ _=>False) fun n S=>n=m∧S=T)∧∃ o:AV,(∀ T:Store,Keep S T→callF Pg 40 [m] T (fun _ _=>False) fun p S=>p=o∧S=T)∧∃ q:AV,(∀ T:Store,Keep S T→bin .mul 0 (.v (.int .i64 2)) o T fun r S=>r=q∧S=T)∧callF Pg 16 [x1,q] S (fun _ _=>False) fun s S=>(∀ T:Store,Keep S T→ldN 8 f T fun u S=>u=h∧S=T)∧stN 8 c h S fun w S=>stN 4 d s S fun x S=>ldN 8 c S fun y _=>ldN 4 d S fun z _=>Q (.ret (.t [y,z])) S
theorem calls23{x0 x1:AV}{S:Store}{Q:PoT}(h:m23 x0 x1 S Q):ACalls Pg 23 [x0,x1] S Q:=
 calls_of_vc (fn:=Tryz.f23) (c:=c23) (n:=16) Tryz.func23 (by kernel_rfl) (by kernel_rfl) (by kernel_rfl) ms23 (Eq.mpr (by kernel_rfl) h)
def c75:Code:=(Tryz.f75.body).getD .skip
def ms75:List (List Nat):=[[]]
def m75(x0 x1:AV)(S:Store)(Q:PoT):Prop:=
 boxN 24 4 x1 S fun c S=>boxN 24 4 (.a [.v (.int .i64 0),.v (.string ByteArray.empty),.v (.int .i64 0),.nl]) S fun d S=>ldN 4 c S fun e S=>bslN 24 4 1 [.v (.int .i64 0),.v (.string ByteArray.empty),.v (.int .i64 0),.nl] [(0,e)] S fun f S=>bld [(0,1),(1,1),(2,1),(3,1)] [.v (.int .i64 0),.v (.string ByteArray.empty),.v (.int .i64 0),.nl] [(0,x0),(3,f)] S fun g S=>stN 4 d g S fun h S=>ldN 4 d S fun i _=>Q (.ret i) S
theorem calls75{x0 x1:AV}{S:Store}{Q:PoT}(h:m75 x0 x1 S Q):ACalls Pg 75 [x0,x1] S Q:=
 calls_of_vc (fn:=Tryz.f75) (c:=c75) (n:=9) Tryz.func75 (by kernel_rfl) (by kernel_rfl) (by kernel_rfl) ms75 (Eq.mpr (by kernel_rfl) h)
def c76:Code:=(Tryz.f76.body).getD .skip
def ms76:List (List Nat):=[[]]
def m76(x0 x1 x2:AV)(S:Store)(Q:PoT):Prop:=
 boxN 24 4 x1 S fun c S=>boxN 24 4 x2 S fun d S=>boxN 24 4 (.a [.v (.int .i64 0),.v (.string ByteArray.empty),.v (.int .i64 0),.nl]) S fun e S=>ldN 4 c S fun f S=>ldN 4 d S fun g S=>bslN 24 4 2 [.v (.int .i64 0),.v (.string ByteArray.empty),.v (.int .i64 0),.nl] [(0,f),(1,g)] S fun h S=>bld [(0,1),(1,1),(2,1),(3,1)] [.v (.int .i64 0),.v (.string ByteArray.empty),.v (.int .i64 0),.nl] [(0,x0),(3,h)] S fun i S=>stN 4 e i S fun k S=>ldN 4 e S fun l _=>Q (.ret l) S
theorem calls76{x0 x1 x2:AV}{S:Store}{Q:PoT}(h:m76 x0 x1 x2 S Q):ACalls Pg 76 [x0,x1,x2] S Q:=
 calls_of_vc (fn:=Tryz.f76) (c:=c76) (n:=12) Tryz.func76 (by kernel_rfl) (by kernel_rfl) (by kernel_rfl) ms76 (Eq.mpr (by kernel_rfl) h)
def c77:Code:=(Tryz.f77.body).getD .skip
def ms77:List (List Nat):=[[]]
def m77(x0:AV)(S:Store)(Q:PoT):Prop:=
 bin .eql 0 x0 (.v (.int .i64 1)) S fun a S=>onB a fun b=>gd b (Q (.ret (.v (.int .i64 2))) S) (bin .eql 0 x0 (.v (.int .i64 2)) S fun c S=>onB c fun b=>gd b (Q (.ret (.v (.int .i64 1))) S) (bin .eql 0 x0 (.v (.int .i64 5)) S fun d S=>onB d fun b=>gd b (Q (.ret (.v (.int .i64 6))) S) (bin .eql 0 x0 (.v (.int .i64 6)) S fun e S=>onB e fun b=>gd b (Q (.ret (.v (.int .i64 5))) S) (bin .eql 0 x0 (.v (.int .i64 9)) S fun f S=>onB f fun b=>gd b (Q (.ret (.v (.int .i64 10))) S) (bin .eql 0 x0 (.v (.int .i64 10)) S fun g S=>onB g fun b=>gd b (Q (.ret (.v (.int .i64 9))) S) (bin .eql 0 x0 (.v (.int .i64 11)) S fun h S=>onB h fun b=>gd b (Q (.ret (.v (.int .i64 14))) S) (bin .eql 0 x0 (.v (.int .i64 14)) S fun i S=>onB i fun b=>gd b (Q (.ret (.v (.int .i64 11))) S) (bin .eql 0 x0 (.v (.int .i64 13)) S fun k S=>onB k fun b=>gd b (Q (.ret (.v (.int .i64 12))) S) (bin .eql 0 x0 (.v (.int .i64 12)) S fun l S=>onB l fun b=>gd b (Q (.ret (.v (.int .i64 13))) S) (bin .eql 0 x0 (.v (.int .i64 15)) S fun m S=>onB m fun b=>gd b (Q (.ret (.v (.int .i64 18))) S) (bin .eql 0 x0 (.v (.int .i64 18)) S fun n S=>onB n fun b=>gd b (Q (.ret (.v (.int .i64 15))) S) (bin .eql 0 x0 (.v (.int .i64 17)) S fun o S=>onB o fun b=>gd b (Q (.ret (.v (.int .i64 16))) S) (Q (.ret (.v (.int .i64 17))) S)))))))))))))
theorem calls77{x0:AV}{S:Store}{Q:PoT}(h:m77 x0 S Q):ACalls Pg 77 [x0] S Q:=
 calls_of_vc (fn:=Tryz.f77) (c:=c77) (n:=30) Tryz.func77 (by kernel_rfl) (by kernel_rfl) (by kernel_rfl) ms77 (Eq.mpr (by kernel_rfl) h)
def c48:Code:=(Tryz.f48.body).getD .skip
def r48:List ResultVar:=Tryz.f48.results.toList
def env48_0(y2 y4 y5 y6 y7 y8:AV):List AV:=[y2,y4,y5,y6,y7,y8]
def lv48_0:List Nat:=[2,4,5,6,7,8]
def env48_1(y2 y4 y5 y6 y10 y11 y12:AV):List AV:=[y2,y4,y5,y6,y10,y11,y12]
def lv48_1:List Nat:=[2,4,5,6,10,11,12]
def env48_2(y2 y4 y5 y11 y14:AV):List AV:=[y2,y4,y5,y11,y14]
def lv48_2:List Nat:=[2,4,5,11,14]
def env48_3(y2 y4 y5 y11 y15:AV):List AV:=[y2,y4,y5,y11,y15]
def lv48_3:List Nat:=[2,4,5,11,15]
def ms48:List (List Nat):=[lv48_0,lv48_1,lv48_2,lv48_3,[0]]
def m48(x0:AV)(S:Store)(Q:PoT):Prop:=
 boxN 33 1 x0 S fun c S=>boxN 42 8 (.a [.v (.int .i64 0),.nl,.nl,.nl,.nl,.nl,.nl,.nl]) S fun d S=>boxN 3 1 (.v (.int .i64 0)) S fun e S=>stN 1 e (.v (.int .i64 0)) S fun g S=>boxN 42 8 (.a [.v (.int .i64 0),.nl,.nl,.nl,.nl,.nl,.nl,.nl]) S fun h S=>callV Pg (.f (.func 78) [] [e,c]) [.v (.int .i64 4)] S (fun i S=>shift h 0 S fun k S=>stN 1 k i S fun l S=>callV Pg (.f (.func 78) [] [e,c]) [.v (.int .i64 3)] S (fun m S=>bin .add 0 (.v (.int .i64 1)) m S fun n S=>callV Pg (.f (.func 78) [] [e,c]) [.v (.int .i64 9)] S (fun o S=>loopV lv48_0 (vc Pg (c48.at_ [1,1,1,1,1,1,1,0,1,0,0]) (ms48.drop 1)) 156 (env48_0 d (.f (.func 78) [] [e,c]) h n .nl o) S (blockK 0 (seqK (vc Pg (c48.at_ [1,1,1,1,1,1,1,1]) (ms48.drop 1)) (bodyK Pg r48 Q)))) (fun u S=>Q (.pan u) S)) (fun u S=>Q (.pan u) S)) (fun u S=>Q (.pan u) S)
theorem calls48{x0:AV}{S:Store}{Q:PoT}(h:m48 x0 S Q):ACalls Pg 48 [x0] S Q:=
 calls_of_vc (fn:=Tryz.f48) (c:=c48) (n:=156) Tryz.func48 (by kernel_rfl) (by kernel_rfl) (by kernel_rfl) ms48 (Eq.mpr (by kernel_rfl) h)
def b48_0(y2 y4 y5 y6 y7 y8:AV)(S:Store)(KE0:KeT)(Q:PoT):Prop:=
 bin .gtr 0 y8 (.v (.int .i64 0)) S fun c S=>onB c fun b=>gd b (callV Pg y4 [.v (.int .i64 65536)] S (fun d S=>convI .u16 d S fun e S=>bslN 126 1 1 [.v (.int .u16 0)] [(0,e)] S fun f S=>appS 126 1 2 y7 f S fun g S=>bin .sub 0 y8 (.v (.int .i64 1)) S fun h S=>KE0 156 (env48_0 y2 y4 y5 y6 g h) S) (fun u S=>Q (.pan u) S)) (shift y5 0 S fun i S=>ld1 i S fun k S=>bin .add 0 k y6 S fun l S=>callF Pg 79 [l,y7] S Q fun m S=>extr m 0 S fun n S=>extr m 1 S fun o S=>boxN 82 2 (.a [.v (.int .i64 0),.nl]) S fun p S=>stN 2 p n S fun q S=>shift p 1 S fun r S=>ld1 r S fun s S=>shift y5 2 S fun t S=>stN 1 t s S fun w S=>ldN 2 p S fun x S=>callF Pg 40 [x] S Q fun y S=>bin .mul 0 (.v (.int .i64 2)) y S fun z S=>loopV lv48_1 (vc Pg (c48.at_ [1,1,1,1,1,1,1,1,1,1,1,0,1,0,0]) (ms48.drop 2)) 156 (env48_1 y2 y4 y5 y6 o z (.v (.int .i64 0))) S (blockK 2 (seqK (vc Pg (c48.at_ [1,1,1,1,1,1,1,1,1,1,1,1]) (ms48.drop 2)) (bodyK Pg r48 Q))))
theorem b48_0_eq(y2 y4 y5 y6 y7 y8:AV)(S:Store)(KE0:KeT)(Q:PoT):vc Pg (c48.at_ [1,1,1,1,1,1,1,0,1,0,0]) (ms48.drop 1) (mkE 156 lv48_0 (env48_0 y2 y4 y5 y6 y7 y8)) S (thenK (fgK lv48_0 KE0) (blockK 0 (seqK (vc Pg (c48.at_ [1,1,1,1,1,1,1,1]) (ms48.drop 1)) (bodyK Pg r48 Q))))=b48_0 y2 y4 y5 y6 y7 y8 S KE0 Q:=by kernel_rfl
theorem loop48_0{y2 y4 y5 y6:AV}{y70 y80:AV}{S:Store}{Q:PoT}(I:AV→AV→Store→Prop)(μ:AV→AV→Store→Nat)(h0:I y70 y80 S)
    (hr:∀(y7 y8:AV) (S:Store),I y7 y8 S→∀ KE0:KeT,(∀(y7' y8':AV) (S':Store),I y7' y8' S'→μ y7' y8' S'<μ y7 y8 S→KE0 156 (env48_0 y2 y4 y5 y6 y7' y8') S')→b48_0 y2 y4 y5 y6 y7 y8 S KE0 Q):
    loopV lv48_0 (vc Pg (c48.at_ [1,1,1,1,1,1,1,0,1,0,0]) (ms48.drop 1)) 156 (env48_0 y2 y4 y5 y6 y70 y80) S (blockK 0 (seqK (vc Pg (c48.at_ [1,1,1,1,1,1,1,1]) (ms48.drop 1)) (bodyK Pg r48 Q))):=by
 refine⟨fun n e S=>n=156∧∃ y7 y8:AV,e=(env48_0 y2 y4 y5 y6 y7 y8)∧I y7 y8 S,fun _ e S=>μ (e.getD 4 .j) (e.getD 5 .j) S,?_,?_⟩
 ·exact⟨_,_,Wk.refl _ _,rfl,_,_,rfl,h0⟩
 ·rintro _ e S ⟨rfl,y7,y8,rfl,hI⟩
  exact(b48_0_eq _ _ _ _ _ _ _ _ _).mpr (hr y7 y8 S hI _ (fun y7' y8' S' hI' hm=>⟨_,_,Wk.refl _ _,⟨rfl,_,_,rfl,hI'⟩,hm⟩))
def b48_1(y2 y4 y5 y6 y10 y11 y12:AV)(S:Store)(KE1:KeT)(Q:PoT):Prop:=
 bin .lss 0 y12 y6 S fun a S=>onB a fun b=>gd b (callV Pg y4 [y11] S (fun c S=>bin .eql 0 y12 (.v (.int .i64 0)) S fun d S=>onB d fun b=>gd b (∃ e:AV,(∀ T:Store,Keep S T→shift y5 1 T fun f S=>f=e∧S=T)∧∃ g:AV,(∀ T:Store,Keep S T→ld1 e T fun h S=>h=g∧S=T)∧callV Pg y4 [.v (.int .i64 5)] S (fun i S=>(∀ T:Store,Keep S T→ld1 e T fun k S=>k=g∧S=T)∧(∀ T:Store,Keep S T→shift y5 1 T fun l S=>l=e∧S=T)∧∃ m:AV,(∀ T:Store,Keep S T→bin .quo 0 i (.v (.int .i64 2)) T fun n S=>n=m∧S=T)∧∃ o:AV,(∀ T:Store,Keep S T→bld [(0,1),(1,1)] [.v (.int .i64 0),.v (.int .i64 0)] [(0,y10),(1,m)] T fun p S=>p=o∧S=T)∧∃ q:AV,(∀ T:Store,Keep S T→bslN 66 2 1 [.v (.int .i64 0),.v (.int .i64 0)] [(0,o)] T fun r S=>r=q∧S=T)∧appS 66 2 16 g q S fun s S=>∃ t:AV,(∀ T:Store,Keep S T→shift y5 1 T fun w S=>w=t∧S=T)∧stN 1 t s S fun x S=>bin .add 0 y12 (.v (.int .i64 1)) S fun y S=>KE1 156 (env48_1 y2 y4 y5 y6 y10 y11 y) S) (fun u S=>False)) (∃ z:AV,(∀ T:Store,Keep S T→shift y5 1 T fun A S=>A=z∧S=T)∧∃ B:AV,(∀ T:Store,Keep S T→ld1 z T fun C S=>C=B∧S=T)∧callV Pg y4 [.v (.int .i64 5)] S (fun D S=>(∀ T:Store,Keep S T→ld1 z T fun E S=>E=B∧S=T)∧(∀ T:Store,Keep S T→shift y5 1 T fun F S=>F=z∧S=T)∧∃ G:AV,(∀ T:Store,Keep S T→bin .quo 0 D (.v (.int .i64 2)) T fun H S=>H=G∧S=T)∧∃ I:AV,(∀ T:Store,Keep S T→bld [(0,1),(1,1)] [.v (.int .i64 0),.v (.int .i64 0)] [(0,c),(1,G)] T fun J S=>J=I∧S=T)∧∃ K:AV,(∀ T:Store,Keep S T→bslN 66 2 1 [.v (.int .i64 0),.v (.int .i64 0)] [(0,I)] T fun L S=>L=K∧S=T)∧appS 66 2 16 B K S fun M S=>∃ N:AV,(∀ T:Store,Keep S T→shift y5 1 T fun O S=>O=N∧S=T)∧stN 1 N M S fun P S=>bin .add 0 y12 (.v (.int .i64 1)) S fun R S=>KE1 156 (env48_1 y2 y4 y5 y6 y10 y11 R) S) (fun u S=>False))) (fun u S=>Q (.pan u) S)) (callV Pg y4 [.v (.int .i64 3)] S (fun U S=>loopV lv48_2 (vc Pg (c48.at_ [1,1,1,1,1,1,1,1,1,1,1,1,0,1,0,0]) (ms48.drop 3)) 156 (env48_2 y2 y4 y5 y11 U) S (blockK 4 (seqK (vc Pg (c48.at_ [1,1,1,1,1,1,1,1,1,1,1,1,1]) (ms48.drop 3)) (bodyK Pg r48 Q)))) (fun u S=>Q (.pan u) S))
theorem b48_1_eq(y2 y4 y5 y6 y10 y11 y12:AV)(S:Store)(KE1:KeT)(Q:PoT):vc Pg (c48.at_ [1,1,1,1,1,1,1,1,1,1,1,0,1,0,0]) (ms48.drop 2) (mkE 156 lv48_1 (env48_1 y2 y4 y5 y6 y10 y11 y12)) S (thenK (fgK lv48_1 KE1) (blockK 2 (seqK (vc Pg (c48.at_ [1,1,1,1,1,1,1,1,1,1,1,1]) (ms48.drop 2)) (bodyK Pg r48 Q))))=b48_1 y2 y4 y5 y6 y10 y11 y12 S KE1 Q:=by kernel_rfl
theorem loop48_1{y2 y4 y5 y6 y10 y11:AV}{y120:AV}{S:Store}{Q:PoT}(I:AV→Store→Prop)(μ:AV→Store→Nat)(h0:I y120 S)
    (hr:∀(y12:AV) (S:Store),I y12 S→∀ KE1:KeT,(∀(y12':AV) (S':Store),I y12' S'→μ y12' S'<μ y12 S→KE1 156 (env48_1 y2 y4 y5 y6 y10 y11 y12') S')→b48_1 y2 y4 y5 y6 y10 y11 y12 S KE1 Q):
    loopV lv48_1 (vc Pg (c48.at_ [1,1,1,1,1,1,1,1,1,1,1,0,1,0,0]) (ms48.drop 2)) 156 (env48_1 y2 y4 y5 y6 y10 y11 y120) S (blockK 2 (seqK (vc Pg (c48.at_ [1,1,1,1,1,1,1,1,1,1,1,1]) (ms48.drop 2)) (bodyK Pg r48 Q))):=by
 refine⟨fun n e S=>n=156∧∃ y12:AV,e=(env48_1 y2 y4 y5 y6 y10 y11 y12)∧I y12 S,fun _ e S=>μ (e.getD 6 .j) S,?_,?_⟩
 ·exact⟨_,_,Wk.refl _ _,rfl,_,rfl,h0⟩
 ·rintro _ e S ⟨rfl,y12,rfl,hI⟩
  exact(b48_1_eq _ _ _ _ _ _ _ _ _ _).mpr (hr y12 S hI _ (fun y12' S' hI' hm=>⟨_,_,Wk.refl _ _,⟨rfl,_,rfl,hI'⟩,hm⟩))
def b48_2(y2 y4 y5 y11 y14:AV)(S:Store)(KE2:KeT)(Q:PoT):Prop:=
 bin .gtr 0 y14 (.v (.int .i64 0)) S fun a S=>onB a fun b=>gd b (∃ c:AV,(∀ T:Store,Keep S T→shift y5 3 T fun d S=>d=c∧S=T)∧∃ e:AV,(∀ T:Store,Keep S T→ld1 c T fun f S=>f=e∧S=T)∧callV Pg y4 [y11] S (fun g S=>(∀ T:Store,Keep S T→ld1 c T fun h S=>h=e∧S=T)∧(∀ T:Store,Keep S T→shift y5 3 T fun i S=>i=c∧S=T)∧∃ k:AV,(∀ T:Store,Keep S T→bslN 3 1 1 [.v (.int .i64 0)] [(0,g)] T fun l S=>l=k∧S=T)∧appS 3 1 8 e k S fun m S=>∃ n:AV,(∀ T:Store,Keep S T→shift y5 3 T fun o S=>o=n∧S=T)∧stN 1 n m S fun p S=>bin .sub 0 y14 (.v (.int .i64 1)) S fun q S=>KE2 156 (env48_2 y2 y4 y5 y11 q) S) (fun u S=>False)) (callV Pg y4 [.v (.int .i64 4)] S (fun r S=>bin .eql 0 r (.v (.int .i64 0)) S fun s S=>onB s fun b=>gd b (∃ t:AV,(∀ T:Store,Keep S T→shift y5 4 T fun w S=>w=t∧S=T)∧∃ x:AV,(∀ T:Store,Keep S T→ld1 t T fun y S=>y=x∧S=T)∧callV Pg y4 [y11] S (fun z S=>(∀ T:Store,Keep S T→ld1 t T fun A S=>A=x∧S=T)∧(∀ T:Store,Keep S T→shift y5 4 T fun B S=>B=t∧S=T)∧∃ C:AV,(∀ T:Store,Keep S T→bslN 3 1 1 [.v (.int .i64 0)] [(0,z)] T fun D S=>D=C∧S=T)∧appS 3 1 8 x C S fun E S=>∃ F:AV,(∀ T:Store,Keep S T→shift y5 4 T fun G S=>G=F∧S=T)∧stN 1 F E S fun H S=>callV Pg y4 [.v (.int .i64 3)] S (fun I S=>bin .eql 0 I (.v (.int .i64 0)) S fun J S=>onB J fun b=>gd b (∃ K:AV,(∀ T:Store,Keep S T→shift y5 5 T fun L S=>L=K∧S=T)∧∃ M:AV,(∀ T:Store,Keep S T→ld1 K T fun N S=>N=M∧S=T)∧callV Pg y4 [y11] S (fun O S=>(∀ T:Store,Keep S T→ld1 K T fun P S=>P=M∧S=T)∧(∀ T:Store,Keep S T→shift y5 5 T fun R S=>R=K∧S=T)∧∃ U:AV,(∀ T:Store,Keep S T→bslN 3 1 1 [.v (.int .i64 0)] [(0,O)] T fun V S=>V=U∧S=T)∧appS 3 1 8 M U S fun W S=>∃ X:AV,(∀ T:Store,Keep S T→shift y5 5 T fun Y S=>Y=X∧S=T)∧stN 1 X W S fun Z S=>callV Pg y4 [.v (.int .i64 4)] S (fun a0 S=>bin .quo 0 a0 (.v (.int .i64 2)) S fun a1 S=>loopV lv48_3 (vc Pg (c48.at_ [1,1,1,1,1,1,1,1,1,1,1,1,1,1,1,0,1,0,0]) (ms48.drop 4)) 156 (env48_3 y2 y4 y5 y11 a1) S (blockK 6 (seqK (vc Pg (c48.at_ [1,1,1,1,1,1,1,1,1,1,1,1,1,1,1,1]) (ms48.drop 4)) (bodyK Pg r48 Q)))) (fun u S=>Q (.pan u) S)) (fun u S=>False)) (callV Pg y4 [.v (.int .i64 4)] S (fun a2 S=>bin .quo 0 a2 (.v (.int .i64 2)) S fun a3 S=>loopV lv48_3 (vc Pg (c48.at_ [1,1,1,1,1,1,1,1,1,1,1,1,1,1,1,0,1,0,0]) (ms48.drop 4)) 156 (env48_3 y2 y4 y5 y11 a3) S (blockK 6 (seqK (vc Pg (c48.at_ [1,1,1,1,1,1,1,1,1,1,1,1,1,1,1,1]) (ms48.drop 4)) (bodyK Pg r48 Q)))) (fun u S=>Q (.pan u) S))) (fun u S=>Q (.pan u) S)) (fun u S=>False)) (callV Pg y4 [.v (.int .i64 3)] S (fun a4 S=>bin .eql 0 a4 (.v (.int .i64 0)) S fun a5 S=>onB a5 fun b=>gd b (∃ a6:AV,(∀ T:Store,Keep S T→shift y5 5 T fun a7 S=>a7=a6∧S=T)∧∃ a8:AV,(∀ T:Store,Keep S T→ld1 a6 T fun a9 S=>a9=a8∧S=T)∧callV Pg y4 [y11] S (fun b0 S=>(∀ T:Store,Keep S T→ld1 a6 T fun b1 S=>b1=a8∧S=T)∧(∀ T:Store,Keep S T→shift y5 5 T fun b2 S=>b2=a6∧S=T)∧∃ b3:AV,(∀ T:Store,Keep S T→bslN 3 1 1 [.v (.int .i64 0)] [(0,b0)] T fun b4 S=>b4=b3∧S=T)∧appS 3 1 8 a8 b3 S fun b5 S=>∃ b6:AV,(∀ T:Store,Keep S T→shift y5 5 T fun b7 S=>b7=b6∧S=T)∧stN 1 b6 b5 S fun b8 S=>callV Pg y4 [.v (.int .i64 4)] S (fun b9 S=>bin .quo 0 b9 (.v (.int .i64 2)) S fun c0 S=>loopV lv48_3 (vc Pg (c48.at_ [1,1,1,1,1,1,1,1,1,1,1,1,1,1,1,0,1,0,0]) (ms48.drop 4)) 156 (env48_3 y2 y4 y5 y11 c0) S (blockK 6 (seqK (vc Pg (c48.at_ [1,1,1,1,1,1,1,1,1,1,1,1,1,1,1,1]) (ms48.drop 4)) (bodyK Pg r48 Q)))) (fun u S=>Q (.pan u) S)) (fun u S=>False)) (callV Pg y4 [.v (.int .i64 4)] S (fun c1 S=>bin .quo 0 c1 (.v (.int .i64 2)) S fun c2 S=>loopV lv48_3 (vc Pg (c48.at_ [1,1,1,1,1,1,1,1,1,1,1,1,1,1,1,0,1,0,0]) (ms48.drop 4)) 156 (env48_3 y2 y4 y5 y11 c2) S (blockK 6 (seqK (vc Pg (c48.at_ [1,1,1,1,1,1,1,1,1,1,1,1,1,1,1,1]) (ms48.drop 4)) (bodyK Pg r48 Q)))) (fun u S=>Q (.pan u) S))) (fun u S=>Q (.pan u) S))) (fun u S=>Q (.pan u) S))
theorem b48_2_eq(y2 y4 y5 y11 y14:AV)(S:Store)(KE2:KeT)(Q:PoT):vc Pg (c48.at_ [1,1,1,1,1,1,1,1,1,1,1,1,0,1,0,0]) (ms48.drop 3) (mkE 156 lv48_2 (env48_2 y2 y4 y5 y11 y14)) S (thenK (fgK lv48_2 KE2) (blockK 4 (seqK (vc Pg (c48.at_ [1,1,1,1,1,1,1,1,1,1,1,1,1]) (ms48.drop 3)) (bodyK Pg r48 Q))))=b48_2 y2 y4 y5 y11 y14 S KE2 Q:=by kernel_rfl
theorem loopw48_2{y2 y4 y5 y11 y14:AV}{S:Store}{Q:PoT}(I:AV→AV→AV→AV→AV→Store→Prop)(μ:AV→AV→AV→AV→AV→Store→Nat)(h0:∃(y2' y4' y5' y11' y14':AV) (S':Store),Wk S (env48_2 y2 y4 y5 y11 y14) S' (env48_2 y2' y4' y5' y11' y14')∧I y2' y4' y5' y11' y14' S')
    (hr:∀(y2 y4 y5 y11 y14:AV) (S:Store),I y2 y4 y5 y11 y14 S→∀ KE2:KeT,(∀(y2' y4' y5' y11' y14':AV) (S':Store) (y2'' y4'' y5'' y11'' y14'':AV) (S'':Store),Wk S' (env48_2 y2' y4' y5' y11' y14') S'' (env48_2 y2'' y4'' y5'' y11'' y14'')→I y2'' y4'' y5'' y11'' y14'' S''→μ y2'' y4'' y5'' y11'' y14'' S''<μ y2 y4 y5 y11 y14 S→KE2 156 (env48_2 y2' y4' y5' y11' y14') S')→b48_2 y2 y4 y5 y11 y14 S KE2 Q):
    loopV lv48_2 (vc Pg (c48.at_ [1,1,1,1,1,1,1,1,1,1,1,1,0,1,0,0]) (ms48.drop 3)) 156 (env48_2 y2 y4 y5 y11 y14) S (blockK 4 (seqK (vc Pg (c48.at_ [1,1,1,1,1,1,1,1,1,1,1,1,1]) (ms48.drop 3)) (bodyK Pg r48 Q))):=by
 obtain⟨y2',y4',y5',y11',y14',S0,hw0,h0⟩:=h0
 refine⟨fun n e S=>n=156∧∃ y2 y4 y5 y11 y14:AV,e=(env48_2 y2 y4 y5 y11 y14)∧I y2 y4 y5 y11 y14 S,fun _ e S=>μ (e.getD 0 .j) (e.getD 1 .j) (e.getD 2 .j) (e.getD 3 .j) (e.getD 4 .j) S,?_,?_⟩
 ·exact⟨_,_,hw0,rfl,_,_,_,_,_,rfl,h0⟩
 ·rintro _ e S ⟨rfl,y2,y4,y5,y11,y14,rfl,hI⟩
  exact(b48_2_eq _ _ _ _ _ _ _ _).mpr (hr y2 y4 y5 y11 y14 S hI _ (fun y2' y4' y5' y11' y14' S' y2'' y4'' y5'' y11'' y14'' S'' hw hI' hm=>⟨_,_,hw,⟨rfl,_,_,_,_,_,rfl,hI'⟩,hm⟩))
def b48_3(y2 y4 y5 y11 y15:AV)(S:Store)(KE3:KeT)(Q:PoT):Prop:=
 bin .gtr 0 y15 (.v (.int .i64 0)) S fun a S=>onB a fun b=>gd b (∃ c:AV,(∀ T:Store,Keep S T→shift y5 6 T fun d S=>d=c∧S=T)∧∃ e:AV,(∀ T:Store,Keep S T→ld1 c T fun f S=>f=e∧S=T)∧callV Pg y4 [y11] S (fun g S=>(∀ T:Store,Keep S T→ld1 c T fun h S=>h=e∧S=T)∧(∀ T:Store,Keep S T→shift y5 6 T fun i S=>i=c∧S=T)∧∃ k:AV,(∀ T:Store,Keep S T→bslN 3 1 1 [.v (.int .i64 0)] [(0,g)] T fun l S=>l=k∧S=T)∧appS 3 1 8 e k S fun m S=>∃ n:AV,(∀ T:Store,Keep S T→shift y5 6 T fun o S=>o=n∧S=T)∧stN 1 n m S fun p S=>bin .sub 0 y15 (.v (.int .i64 1)) S fun q S=>KE3 156 (env48_3 y2 y4 y5 y11 q) S) (fun u S=>False)) (callV Pg y4 [.v (.int .i64 3)] S (fun r S=>bin .gtr 0 r (.v (.int .i64 0)) S fun s S=>onB s fun b=>gd b (shift y5 7 S fun t S=>ld1 t S fun w S=>bld [(0,1),(1,1),(2,1)] [.v (.int .u8 0),.v (.int .i64 0),.v (.string ByteArray.empty)] [(0,(.v (.int .u8 108))),(2,(.v (.string { data:=#[113] })))] S fun x S=>bslN 130 3 1 [.v (.int .u8 0),.v (.int .i64 0),.v (.string ByteArray.empty)] [(0,x)] S fun y S=>appS 130 3 32 w y S fun z S=>shift y5 7 S fun A S=>stN 1 A z S fun B S=>shift y5 3 S fun C S=>ld1 C S fun D S=>lenS D S fun E S=>bin .gtr 0 E (.v (.int .i64 0)) S fun F S=>onB F fun b=>gd b (callV Pg y4 [.v (.int .i64 2)] S (fun G S=>bin .gtr 0 G (.v (.int .i64 0)) S fun H S=>onB H fun b=>gd b (∃ I:AV,(∀ T:Store,Keep S T→shift y5 7 T fun J S=>J=I∧S=T)∧∃ K:AV,(∀ T:Store,Keep S T→ld1 I T fun L S=>L=K∧S=T)∧∃ M:AV,(∀ T:Store,Keep S T→shift y5 3 T fun N S=>N=M∧S=T)∧∃ O:AV,(∀ T:Store,Keep S T→ld1 M T fun P S=>P=O∧S=T)∧∃ R:AV,(∀ T:Store,Keep S T→lenS O T fun U S=>U=R∧S=T)∧∃ V:AV,(∀ T:Store,Keep S T→bin .sub 0 R (.v (.int .i64 1)) T fun W S=>W=V∧S=T)∧∃ X:AV,(∀ T:Store,Keep S T→bslN 9 1 3 [.v (.string ByteArray.empty)] [(0,(.v (.string { data:=#[111,117,116] }))),(1,(.v (.string { data:=#[108,49] }))),(2,(.v (.string { data:=#[97,45,98] })))] T fun Y S=>Y=X∧S=T)∧callV Pg y4 [.v (.int .i64 3)] S (fun Z S=>(∀ T:Store,Keep S T→bslN 9 1 3 [.v (.string ByteArray.empty)] [(0,(.v (.string { data:=#[111,117,116] }))),(1,(.v (.string { data:=#[108,49] }))),(2,(.v (.string { data:=#[97,45,98] })))] T fun a0 S=>a0=X∧S=T)∧(∀ T:Store,Keep S T→bin .sub 0 R (.v (.int .i64 1)) T fun a1 S=>a1=V∧S=T)∧(∀ T:Store,Keep S T→lenS O T fun a2 S=>a2=R∧S=T)∧(∀ T:Store,Keep S T→ld1 M T fun a3 S=>a3=O∧S=T)∧(∀ T:Store,Keep S T→shift y5 3 T fun a4 S=>a4=M∧S=T)∧(∀ T:Store,Keep S T→ld1 I T fun a5 S=>a5=K∧S=T)∧(∀ T:Store,Keep S T→shift y5 7 T fun a6 S=>a6=I∧S=T)∧∃ a7:AV,(∀ T:Store,Keep S T→ixS 9 1 X Z T fun a8 S=>a8=a7∧S=T)∧∃ a9:AV,(∀ T:Store,Keep S T→ld1 a7 T fun b0 S=>b0=a9∧S=T)∧∃ b1:AV,(∀ T:Store,Keep S T→bld [(0,1),(1,1),(2,1)] [.v (.int .u8 0),.v (.int .i64 0),.v (.string ByteArray.empty)] [(0,(.v (.int .u8 111))),(1,V),(2,a9)] T fun b2 S=>b2=b1∧S=T)∧∃ b3:AV,(∀ T:Store,Keep S T→bslN 130 3 1 [.v (.int .u8 0),.v (.int .i64 0),.v (.string ByteArray.empty)] [(0,b1)] T fun b4 S=>b4=b3∧S=T)∧appS 130 3 32 K b3 S fun b5 S=>∃ b6:AV,(∀ T:Store,Keep S T→shift y5 7 T fun b7 S=>b7=b6∧S=T)∧stN 1 b6 b5 S fun b8 S=>ldN 8 y5 S fun b9 S=>stN 8 y2 b9 S fun c0 S=>ldN 8 y2 S fun c1 _=>Q (.ret c1) S) (fun u S=>False)) (ldN 8 y5 S fun c2 S=>stN 8 y2 c2 S fun c3 S=>ldN 8 y2 S fun c4 _=>Q (.ret c4) S)) (fun u S=>Q (.pan u) S)) (ldN 8 y5 S fun c5 S=>stN 8 y2 c5 S fun c6 S=>ldN 8 y2 S fun c7 _=>Q (.ret c7) S)) (shift y5 3 S fun c8 S=>ld1 c8 S fun c9 S=>lenS c9 S fun d0 S=>bin .gtr 0 d0 (.v (.int .i64 0)) S fun d1 S=>onB d1 fun b=>gd b (callV Pg y4 [.v (.int .i64 2)] S (fun d2 S=>bin .gtr 0 d2 (.v (.int .i64 0)) S fun d3 S=>onB d3 fun b=>gd b (∃ d4:AV,(∀ T:Store,Keep S T→shift y5 7 T fun d5 S=>d5=d4∧S=T)∧∃ d6:AV,(∀ T:Store,Keep S T→ld1 d4 T fun d7 S=>d7=d6∧S=T)∧∃ d8:AV,(∀ T:Store,Keep S T→shift y5 3 T fun d9 S=>d9=d8∧S=T)∧∃ e0:AV,(∀ T:Store,Keep S T→ld1 d8 T fun e1 S=>e1=e0∧S=T)∧∃ e2:AV,(∀ T:Store,Keep S T→lenS e0 T fun e3 S=>e3=e2∧S=T)∧∃ e4:AV,(∀ T:Store,Keep S T→bin .sub 0 e2 (.v (.int .i64 1)) T fun e5 S=>e5=e4∧S=T)∧∃ e6:AV,(∀ T:Store,Keep S T→bslN 9 1 3 [.v (.string ByteArray.empty)] [(0,(.v (.string { data:=#[111,117,116] }))),(1,(.v (.string { data:=#[108,49] }))),(2,(.v (.string { data:=#[97,45,98] })))] T fun e7 S=>e7=e6∧S=T)∧callV Pg y4 [.v (.int .i64 3)] S (fun e8 S=>(∀ T:Store,Keep S T→bslN 9 1 3 [.v (.string ByteArray.empty)] [(0,(.v (.string { data:=#[111,117,116] }))),(1,(.v (.string { data:=#[108,49] }))),(2,(.v (.string { data:=#[97,45,98] })))] T fun e9 S=>e9=e6∧S=T)∧(∀ T:Store,Keep S T→bin .sub 0 e2 (.v (.int .i64 1)) T fun f0 S=>f0=e4∧S=T)∧(∀ T:Store,Keep S T→lenS e0 T fun f1 S=>f1=e2∧S=T)∧(∀ T:Store,Keep S T→ld1 d8 T fun f2 S=>f2=e0∧S=T)∧(∀ T:Store,Keep S T→shift y5 3 T fun f3 S=>f3=d8∧S=T)∧(∀ T:Store,Keep S T→ld1 d4 T fun f4 S=>f4=d6∧S=T)∧(∀ T:Store,Keep S T→shift y5 7 T fun f5 S=>f5=d4∧S=T)∧∃ f6:AV,(∀ T:Store,Keep S T→ixS 9 1 e6 e8 T fun f7 S=>f7=f6∧S=T)∧∃ f8:AV,(∀ T:Store,Keep S T→ld1 f6 T fun f9 S=>f9=f8∧S=T)∧∃ g0:AV,(∀ T:Store,Keep S T→bld [(0,1),(1,1),(2,1)] [.v (.int .u8 0),.v (.int .i64 0),.v (.string ByteArray.empty)] [(0,(.v (.int .u8 111))),(1,e4),(2,f8)] T fun g1 S=>g1=g0∧S=T)∧∃ g2:AV,(∀ T:Store,Keep S T→bslN 130 3 1 [.v (.int .u8 0),.v (.int .i64 0),.v (.string ByteArray.empty)] [(0,g0)] T fun g3 S=>g3=g2∧S=T)∧appS 130 3 32 d6 g2 S fun g4 S=>∃ g5:AV,(∀ T:Store,Keep S T→shift y5 7 T fun g6 S=>g6=g5∧S=T)∧stN 1 g5 g4 S fun g7 S=>ldN 8 y5 S fun g8 S=>stN 8 y2 g8 S fun g9 S=>ldN 8 y2 S fun h0 _=>Q (.ret h0) S) (fun u S=>False)) (ldN 8 y5 S fun h1 S=>stN 8 y2 h1 S fun h2 S=>ldN 8 y2 S fun h3 _=>Q (.ret h3) S)) (fun u S=>Q (.pan u) S)) (ldN 8 y5 S fun h4 S=>stN 8 y2 h4 S fun h5 S=>ldN 8 y2 S fun h6 _=>Q (.ret h6) S))) (fun u S=>Q (.pan u) S))
theorem b48_3_eq(y2 y4 y5 y11 y15:AV)(S:Store)(KE3:KeT)(Q:PoT):vc Pg (c48.at_ [1,1,1,1,1,1,1,1,1,1,1,1,1,1,1,0,1,0,0]) (ms48.drop 4) (mkE 156 lv48_3 (env48_3 y2 y4 y5 y11 y15)) S (thenK (fgK lv48_3 KE3) (blockK 6 (seqK (vc Pg (c48.at_ [1,1,1,1,1,1,1,1,1,1,1,1,1,1,1,1]) (ms48.drop 4)) (bodyK Pg r48 Q))))=b48_3 y2 y4 y5 y11 y15 S KE3 Q:=by kernel_rfl
theorem loopw48_3{y2 y4 y5 y11 y15:AV}{S:Store}{Q:PoT}(I:AV→AV→AV→AV→AV→Store→Prop)(μ:AV→AV→AV→AV→AV→Store→Nat)(h0:∃(y2' y4' y5' y11' y15':AV) (S':Store),Wk S (env48_3 y2 y4 y5 y11 y15) S' (env48_3 y2' y4' y5' y11' y15')∧I y2' y4' y5' y11' y15' S')
    (hr:∀(y2 y4 y5 y11 y15:AV) (S:Store),I y2 y4 y5 y11 y15 S→∀ KE3:KeT,(∀(y2' y4' y5' y11' y15':AV) (S':Store) (y2'' y4'' y5'' y11'' y15'':AV) (S'':Store),Wk S' (env48_3 y2' y4' y5' y11' y15') S'' (env48_3 y2'' y4'' y5'' y11'' y15'')→I y2'' y4'' y5'' y11'' y15'' S''→μ y2'' y4'' y5'' y11'' y15'' S''<μ y2 y4 y5 y11 y15 S→KE3 156 (env48_3 y2' y4' y5' y11' y15') S')→b48_3 y2 y4 y5 y11 y15 S KE3 Q):
    loopV lv48_3 (vc Pg (c48.at_ [1,1,1,1,1,1,1,1,1,1,1,1,1,1,1,0,1,0,0]) (ms48.drop 4)) 156 (env48_3 y2 y4 y5 y11 y15) S (blockK 6 (seqK (vc Pg (c48.at_ [1,1,1,1,1,1,1,1,1,1,1,1,1,1,1,1]) (ms48.drop 4)) (bodyK Pg r48 Q))):=by
 obtain⟨y2',y4',y5',y11',y15',S0,hw0,h0⟩:=h0
 refine⟨fun n e S=>n=156∧∃ y2 y4 y5 y11 y15:AV,e=(env48_3 y2 y4 y5 y11 y15)∧I y2 y4 y5 y11 y15 S,fun _ e S=>μ (e.getD 0 .j) (e.getD 1 .j) (e.getD 2 .j) (e.getD 3 .j) (e.getD 4 .j) S,?_,?_⟩
 ·exact⟨_,_,hw0,rfl,_,_,_,_,_,rfl,h0⟩
 ·rintro _ e S ⟨rfl,y2,y4,y5,y11,y15,rfl,hI⟩
  exact(b48_3_eq _ _ _ _ _ _ _ _).mpr (hr y2 y4 y5 y11 y15 S hI _ (fun y2' y4' y5' y11' y15' S' y2'' y4'' y5'' y11'' y15'' S'' hw hI' hm=>⟨_,_,hw,⟨rfl,_,_,_,_,_,rfl,hI'⟩,hm⟩))
def c78:Code:=(Tryz.f78.body).getD .skip
def ms78:List (List Nat):=[[]]
def m78(x0 x1 x2:AV)(S:Store)(Q:PoT):Prop:=
 ld1 x1 S fun a S=>bin .add 0 a (.v (.int .i64 1)) S fun c S=>stN 1 x1 c S fun d S=>ld1 x1 S fun e S=>ld1 x2 S fun f S=>lenS f S fun g S=>bin .gtr 0 e g S fun h S=>onB h fun b=>gd b (Q (.ret (.v (.int .i64 0))) S) (ld1 x2 S fun i S=>ld1 x1 S fun k S=>bin .sub 0 k (.v (.int .i64 1)) S fun l S=>ixS 126 1 i l S fun m S=>ld1 m S fun n S=>convI .i64 n S fun o S=>bin .rem 0 o x0 S fun p S=>Q (.ret p) S)
theorem calls78{x0 x1 x2:AV}{S:Store}{Q:PoT}(h:m78 x0 x1 x2 S Q):ACalls Pg 78 [x0,x1,x2] S Q:=
 calls_of_vc (fn:=Tryz.f78) (c:=c78) (n:=19) Tryz.func78 (by kernel_rfl) (by kernel_rfl) (by kernel_rfl) ms78 (Eq.mpr (by kernel_rfl) h)
def c66:Code:=(Tryz.f66.body).getD .skip
def r66:List ResultVar:=Tryz.f66.results.toList
def env66_0(y1 y2 y3 y7:AV):List AV:=[y1,y2,y3,y7]
def lv66_0:List Nat:=[1,2,3,7]
def ms66:List (List Nat):=[lv66_0,[]]
def m66(x0 x1 x2:AV)(S:Store)(Q:PoT):Prop:=
 boxN 42 8 x0 S fun a S=>loopV lv66_0 (vc Pg (c66.at_ [1,0,1,0,0]) (ms66.drop 1)) 22 (env66_0 x1 x2 a (.v (.int .i64 0))) S (blockK 0 (seqK (vc Pg (c66.at_ [1,1]) (ms66.drop 1)) (bodyK Pg r66 Q)))
theorem calls66{x0 x1 x2:AV}{S:Store}{Q:PoT}(h:m66 x0 x1 x2 S Q):ACalls Pg 66 [x0,x1,x2] S Q:=
 calls_of_vc (fn:=Tryz.f66) (c:=c66) (n:=22) Tryz.func66 (by kernel_rfl) (by kernel_rfl) (by kernel_rfl) ms66 (Eq.mpr (by kernel_rfl) h)
def b66_0(y1 y2 y3 y7:AV)(S:Store)(KE0:KeT)(Q:PoT):Prop:=
 lenS y2 S fun a S=>bin .lss 0 y7 a S fun c S=>onB c fun b=>gd b ((fun S0:Store=>∃ d:AV,(ldN 8 y3 S fun e S=>e=d∧S=S0)∧∃ f:AV,(ixS 3 1 y2 y7 S fun g S=>g=f∧S=S0)∧∃ h:AV,(ld1 f S fun i S=>i=h∧S=S0)∧∃ k:AV,(callF Pg 68 [d,y1,h] S (fun _ _=>False) fun l S=>l=k∧S=S0)∧∃ m:AV,(un .not k S fun n S=>n=m∧S=S0)∧onB m fun b=>gd b (Q (.ret (.v (.bool false))) S) (bin .add 0 y7 (.v (.int .i64 1)) S fun o S=>KE0 22 (env66_0 y1 y2 y3 o) S)) S) (Q (.ret (.v (.bool true))) S)
theorem b66_0_eq(y1 y2 y3 y7:AV)(S:Store)(KE0:KeT)(Q:PoT):vc Pg (c66.at_ [1,0,1,0,0]) (ms66.drop 1) (mkE 22 lv66_0 (env66_0 y1 y2 y3 y7)) S (thenK (fgK lv66_0 KE0) (blockK 0 (seqK (vc Pg (c66.at_ [1,1]) (ms66.drop 1)) (bodyK Pg r66 Q))))=b66_0 y1 y2 y3 y7 S KE0 Q:=by kernel_rfl
theorem loop66_0{y1 y2 y3:AV}{y70:AV}{S:Store}{Q:PoT}(I:AV→Store→Prop)(μ:AV→Store→Nat)(h0:I y70 S)
    (hr:∀(y7:AV) (S:Store),I y7 S→∀ KE0:KeT,(∀(y7':AV) (S':Store),I y7' S'→μ y7' S'<μ y7 S→KE0 22 (env66_0 y1 y2 y3 y7') S')→b66_0 y1 y2 y3 y7 S KE0 Q):
    loopV lv66_0 (vc Pg (c66.at_ [1,0,1,0,0]) (ms66.drop 1)) 22 (env66_0 y1 y2 y3 y70) S (blockK 0 (seqK (vc Pg (c66.at_ [1,1]) (ms66.drop 1)) (bodyK Pg r66 Q))):=by
 refine⟨fun n e S=>n=22∧∃ y7:AV,e=(env66_0 y1 y2 y3 y7)∧I y7 S,fun _ e S=>μ (e.getD 3 .j) S,?_,?_⟩
 ·exact⟨_,_,Wk.refl _ _,rfl,_,rfl,h0⟩
 ·rintro _ e S ⟨rfl,y7,rfl,hI⟩
  exact(b66_0_eq _ _ _ _ _ _ _).mpr (hr y7 S hI _ (fun y7' S' hI' hm=>⟨_,_,Wk.refl _ _,⟨rfl,_,rfl,hI'⟩,hm⟩))
def c67:Code:=(Tryz.f67.body).getD .skip
def r67:List ResultVar:=Tryz.f67.results.toList
def env67_0(y1 y2 y5:AV):List AV:=[y1,y2,y5]
def lv67_0:List Nat:=[1,2,5]
def ms67:List (List Nat):=[lv67_0,[]]
def m67(x0 x1:AV)(S:Store)(Q:PoT):Prop:=
 boxN 42 8 x0 S fun a S=>loopV lv67_0 (vc Pg (c67.at_ [1,0,1,0,0]) (ms67.drop 1)) 33 (env67_0 x1 a (.v (.int .i64 0))) S (blockK 0 (seqK (vc Pg (c67.at_ [1,1]) (ms67.drop 1)) (bodyK Pg r67 Q)))
theorem calls67{x0 x1:AV}{S:Store}{Q:PoT}(h:m67 x0 x1 S Q):ACalls Pg 67 [x0,x1] S Q:=
 calls_of_vc (fn:=Tryz.f67) (c:=c67) (n:=33) Tryz.func67 (by kernel_rfl) (by kernel_rfl) (by kernel_rfl) ms67 (Eq.mpr (by kernel_rfl) h)
def b67_0(y1 y2 y5:AV)(S:Store)(KE0:KeT)(Q:PoT):Prop:=
 shift y2 1 S fun a S=>ld1 a S fun c S=>lenS c S fun d S=>bin .lss 0 y5 d S fun e S=>onB e fun b=>gd b (shift y2 1 S fun f S=>ld1 f S fun g S=>ixS 66 2 g y5 S fun h S=>shift h 1 S fun i S=>ld1 i S fun k S=>bin .neq 0 k (.v (.int .i64 2)) S fun l S=>onB l fun b=>gd b (shift y2 0 S fun m S=>ld1 m S fun n S=>bin .add 0 n y5 S fun o S=>bin .shr 0 y1 o S fun p S=>bin .rem 0 p (.v (.int .i64 2)) S fun q S=>bin .neq 0 q k S fun r S=>onB r fun b=>gd b (Q (.ret (.v (.bool false))) S) (bin .add 0 y5 (.v (.int .i64 1)) S fun s S=>KE0 33 (env67_0 y1 y2 s) S)) (bin .add 0 y5 (.v (.int .i64 1)) S fun t S=>KE0 33 (env67_0 y1 y2 t) S)) (Q (.ret (.v (.bool true))) S)
theorem b67_0_eq(y1 y2 y5:AV)(S:Store)(KE0:KeT)(Q:PoT):vc Pg (c67.at_ [1,0,1,0,0]) (ms67.drop 1) (mkE 33 lv67_0 (env67_0 y1 y2 y5)) S (thenK (fgK lv67_0 KE0) (blockK 0 (seqK (vc Pg (c67.at_ [1,1]) (ms67.drop 1)) (bodyK Pg r67 Q))))=b67_0 y1 y2 y5 S KE0 Q:=by kernel_rfl
theorem loop67_0{y1 y2:AV}{y50:AV}{S:Store}{Q:PoT}(I:AV→Store→Prop)(μ:AV→Store→Nat)(h0:I y50 S)
    (hr:∀(y5:AV) (S:Store),I y5 S→∀ KE0:KeT,(∀(y5':AV) (S':Store),I y5' S'→μ y5' S'<μ y5 S→KE0 33 (env67_0 y1 y2 y5') S')→b67_0 y1 y2 y5 S KE0 Q):
    loopV lv67_0 (vc Pg (c67.at_ [1,0,1,0,0]) (ms67.drop 1)) 33 (env67_0 y1 y2 y50) S (blockK 0 (seqK (vc Pg (c67.at_ [1,1]) (ms67.drop 1)) (bodyK Pg r67 Q))):=by
 refine⟨fun n e S=>n=33∧∃ y5:AV,e=(env67_0 y1 y2 y5)∧I y5 S,fun _ e S=>μ (e.getD 2 .j) S,?_,?_⟩
 ·exact⟨_,_,Wk.refl _ _,rfl,_,rfl,h0⟩
 ·rintro _ e S ⟨rfl,y5,rfl,hI⟩
  exact(b67_0_eq _ _ _ _ _ _).mpr (hr y5 S hI _ (fun y5' S' hI' hm=>⟨_,_,Wk.refl _ _,⟨rfl,_,rfl,hI'⟩,hm⟩))
def c116:Code:=(Tryz.f116.body).getD .skip
def r116:List ResultVar:=Tryz.f116.results.toList
def env116_0(y0 y1 y5 y6:AV):List AV:=[y0,y1,y5,y6]
def lv116_0:List Nat:=[0,1,5,6]
def ms116:List (List Nat):=[lv116_0,[]]
def m116(x0 x1:AV)(S:Store)(Q:PoT):Prop:=
 loopV lv116_0 (vc Pg (c116.at_ [1,1,0,1,0,0]) (ms116.drop 1)) 21 (env116_0 x0 x1 .nl (.v (.int .i64 0))) S (blockK 0 (seqK (vc Pg (c116.at_ [1,1,1]) (ms116.drop 1)) (bodyK Pg r116 Q)))
theorem calls116{x0 x1:AV}{S:Store}{Q:PoT}(h:m116 x0 x1 S Q):ACalls Pg 116 [x0,x1] S Q:=
 calls_of_vc (fn:=Tryz.f116) (c:=c116) (n:=21) Tryz.func116 (by kernel_rfl) (by kernel_rfl) (by kernel_rfl) ms116 (Eq.mpr (by kernel_rfl) h)
def b116_0(y0 y1 y5 y6:AV)(S:Store)(KE0:KeT)(Q:PoT):Prop:=
 bin .lss 0 y6 y1 S fun a S=>onB a fun b=>gd b (bin .shr 0 y0 y6 S fun c S=>bin .and 0 c (.v (.int .i64 1)) S fun d S=>bin .eql 0 d (.v (.int .i64 1)) S fun e S=>bslN 4 1 1 [.v (.bool false)] [(0,e)] S fun f S=>appS 4 1 1 y5 f S fun g S=>bin .add 0 y6 (.v (.int .i64 1)) S fun h S=>KE0 21 (env116_0 y0 y1 g h) S) (Q (.ret y5) S)
theorem b116_0_eq(y0 y1 y5 y6:AV)(S:Store)(KE0:KeT)(Q:PoT):vc Pg (c116.at_ [1,1,0,1,0,0]) (ms116.drop 1) (mkE 21 lv116_0 (env116_0 y0 y1 y5 y6)) S (thenK (fgK lv116_0 KE0) (blockK 0 (seqK (vc Pg (c116.at_ [1,1,1]) (ms116.drop 1)) (bodyK Pg r116 Q))))=b116_0 y0 y1 y5 y6 S KE0 Q:=by kernel_rfl
theorem loop116_0{y0 y1:AV}{y50 y60:AV}{S:Store}{Q:PoT}(I:AV→AV→Store→Prop)(μ:AV→AV→Store→Nat)(h0:I y50 y60 S)
    (hr:∀(y5 y6:AV) (S:Store),I y5 y6 S→∀ KE0:KeT,(∀(y5' y6':AV) (S':Store),I y5' y6' S'→μ y5' y6' S'<μ y5 y6 S→KE0 21 (env116_0 y0 y1 y5' y6') S')→b116_0 y0 y1 y5 y6 S KE0 Q):
    loopV lv116_0 (vc Pg (c116.at_ [1,1,0,1,0,0]) (ms116.drop 1)) 21 (env116_0 y0 y1 y50 y60) S (blockK 0 (seqK (vc Pg (c116.at_ [1,1,1]) (ms116.drop 1)) (bodyK Pg r116 Q))):=by
 refine⟨fun n e S=>n=21∧∃ y5 y6:AV,e=(env116_0 y0 y1 y5 y6)∧I y5 y6 S,fun _ e S=>μ (e.getD 2 .j) (e.getD 3 .j) S,?_,?_⟩
 ·exact⟨_,_,Wk.refl _ _,rfl,_,_,rfl,h0⟩
 ·rintro _ e S ⟨rfl,y5,y6,rfl,hI⟩
  exact(b116_0_eq _ _ _ _ _ _ _).mpr (hr y5 y6 S hI _ (fun y5' y6' S' hI' hm=>⟨_,_,Wk.refl _ _,⟨rfl,_,_,rfl,hI'⟩,hm⟩))
def c68:Code:=(Tryz.f68.body).getD .skip
def ms68:List (List Nat):=[[]]
def m68(x0 x1 x2:AV)(S:Store)(Q:PoT):Prop:=
 boxN 42 8 x0 S fun a S=>ldN 8 a S fun c S=>callF Pg 65 [c] S Q fun d S=>un .not d S fun e S=>onB e fun b=>gd b (Q (.ret (.v (.bool false))) S) (ldN 8 a S fun f S=>callF Pg 41 [f] S Q fun g S=>part1 g 0 S fun h S=>bin .gtr 0 h (.v (.int .i64 60)) S fun i S=>onB i fun b=>gd b (Q (.ret (.v (.bool false))) S) ((fun S0:Store=>∃ k:AV,(ldN 8 a S fun l S=>l=k∧S=S0)∧∃ m:AV,(callF Pg 41 [k] S (fun _ _=>False) fun n S=>n=m∧S=S0)∧∃ o:AV,(ldN 8 a S fun p S=>p=o∧S=S0)∧∃ q:AV,(callF Pg 41 [o] S (fun _ _=>False) fun r S=>r=q∧S=S0)∧∃ s:AV,(part1 q 0 S fun t S=>t=s∧S=S0)∧∃ u:AV,(callF Pg 116 [x1,s] S (fun _ _=>False) fun w S=>w=u∧S=S0)∧∃ x:AV,(callF Pg 115 [m,x2,u] S (fun _ _=>False) fun y S=>y=x∧S=S0)∧Q (.ret x) S) S))
theorem calls68{x0 x1 x2:AV}{S:Store}{Q:PoT}(h:m68 x0 x1 x2 S Q):ACalls Pg 68 [x0,x1,x2] S Q:=
 calls_of_vc (fn:=Tryz.f68) (c:=c68) (n:=25) Tryz.func68 (by kernel_rfl) (by kernel_rfl) (by kernel_rfl) ms68 (Eq.mpr (by kernel_rfl) h)
def c59:Code:=(Tryz.f59.body).getD .skip
def r59:List ResultVar:=Tryz.f59.results.toList
def env59_0(y1 y2 y5 y6:AV):List AV:=[y1,y2,y5,y6]
def lv59_0:List Nat:=[1,2,5,6]
def ms59:List (List Nat):=[lv59_0,[]]
def m59(x0 x1:AV)(S:Store)(Q:PoT):Prop:=
 boxN 42 8 x0 S fun a S=>ldN 8 a S fun c S=>callF Pg 65 [c] S Q fun d S=>un .not d S fun e S=>onB e fun b=>gd b (Q (.ret (.v (.int .i64 0))) S) (ldN 8 a S fun f S=>callF Pg 41 [f] S Q fun g S=>part1 g 0 S fun h S=>bin .gtr 0 h (.v (.int .i64 60)) S fun i S=>onB i fun b=>gd b (Q (.ret (.v (.int .i64 0))) S) (loopV lv59_0 (vc Pg (c59.at_ [1,1,1,0,1,0,0]) (ms59.drop 1)) 40 (env59_0 x1 a (.v (.int .i64 0)) (.v (.int .i64 0))) S (blockK 0 (seqK (vc Pg (c59.at_ [1,1,1,1]) (ms59.drop 1)) (bodyK Pg r59 Q)))))
theorem calls59{x0 x1:AV}{S:Store}{Q:PoT}(h:m59 x0 x1 S Q):ACalls Pg 59 [x0,x1] S Q:=
 calls_of_vc (fn:=Tryz.f59) (c:=c59) (n:=40) Tryz.func59 (by kernel_rfl) (by kernel_rfl) (by kernel_rfl) ms59 (Eq.mpr (by kernel_rfl) h)
def b59_0(y1 y2 y5 y6:AV)(S:Store)(KE0:KeT)(Q:PoT):Prop:=
 shift y2 1 S fun a S=>ld1 a S fun c S=>lenS c S fun d S=>bin .lss 0 y6 d S fun e S=>onB e fun b=>gd b ((fun S0:Store=>∃ f:AV,(ldN 8 y2 S fun g S=>g=f∧S=S0)∧∃ h:AV,(shift y2 1 S fun i S=>i=h∧S=S0)∧∃ k:AV,(ld1 h S fun l S=>l=k∧S=S0)∧∃ m:AV,(ixS 66 2 k y6 S fun n S=>n=m∧S=S0)∧∃ o:AV,(shift m 0 S fun p S=>p=o∧S=S0)∧∃ q:AV,(ld1 o S fun r S=>r=q∧S=S0)∧∃ s:AV,(callF Pg 68 [f,y1,q] S (fun _ _=>False) fun t S=>t=s∧S=S0)∧onB s fun b=>gd b (shift y2 0 S fun u S=>ld1 u S fun w S=>bin .add 0 w y6 S fun x S=>bin .shl 0 (.v (.int .i64 1)) x S fun y S=>bin .add 0 y5 y S fun z S=>bin .add 0 y6 (.v (.int .i64 1)) S fun A S=>KE0 40 (env59_0 y1 y2 z A) S) (bin .add 0 y6 (.v (.int .i64 1)) S fun B S=>KE0 40 (env59_0 y1 y2 y5 B) S)) S) (Q (.ret y5) S)
theorem b59_0_eq(y1 y2 y5 y6:AV)(S:Store)(KE0:KeT)(Q:PoT):vc Pg (c59.at_ [1,1,1,0,1,0,0]) (ms59.drop 1) (mkE 40 lv59_0 (env59_0 y1 y2 y5 y6)) S (thenK (fgK lv59_0 KE0) (blockK 0 (seqK (vc Pg (c59.at_ [1,1,1,1]) (ms59.drop 1)) (bodyK Pg r59 Q))))=b59_0 y1 y2 y5 y6 S KE0 Q:=by kernel_rfl
theorem loop59_0{y1 y2:AV}{y50 y60:AV}{S:Store}{Q:PoT}(I:AV→AV→Store→Prop)(μ:AV→AV→Store→Nat)(h0:I y50 y60 S)
    (hr:∀(y5 y6:AV) (S:Store),I y5 y6 S→∀ KE0:KeT,(∀(y5' y6':AV) (S':Store),I y5' y6' S'→μ y5' y6' S'<μ y5 y6 S→KE0 40 (env59_0 y1 y2 y5' y6') S')→b59_0 y1 y2 y5 y6 S KE0 Q):
    loopV lv59_0 (vc Pg (c59.at_ [1,1,1,0,1,0,0]) (ms59.drop 1)) 40 (env59_0 y1 y2 y50 y60) S (blockK 0 (seqK (vc Pg (c59.at_ [1,1,1,1]) (ms59.drop 1)) (bodyK Pg r59 Q))):=by
 refine⟨fun n e S=>n=40∧∃ y5 y6:AV,e=(env59_0 y1 y2 y5 y6)∧I y5 y6 S,fun _ e S=>μ (e.getD 2 .j) (e.getD 3 .j) S,?_,?_⟩
 ·exact⟨_,_,Wk.refl _ _,rfl,_,_,rfl,h0⟩
 ·rintro _ e S ⟨rfl,y5,y6,rfl,hI⟩
  exact(b59_0_eq _ _ _ _ _ _ _).mpr (hr y5 y6 S hI _ (fun y5' y6' S' hI' hm=>⟨_,_,Wk.refl _ _,⟨rfl,_,_,rfl,hI'⟩,hm⟩))
def c173:Code:=(Tryz.f173.body).getD .skip
def ms173:List (List Nat):=[[]]
def m173(x0 x1:AV)(S:Store)(Q:PoT):Prop:=
 ld1 x1 S fun a S=>bin .shr 0 x0 (.v (.int .u64 1)) S fun c S=>ixS 4 1 a c S fun d S=>ld1 d S fun e S=>bin .and 0 x0 (.v (.int .i64 1)) S fun f S=>bin .eql 0 f (.v (.int .i64 1)) S fun g S=>bin .neq 1 e g S fun h S=>Q (.ret h) S
theorem calls173{x0 x1:AV}{S:Store}{Q:PoT}(h:m173 x0 x1 S Q):ACalls Pg 173 [x0,x1] S Q:=
 calls_of_vc (fn:=Tryz.f173) (c:=c173) (n:=13) Tryz.func173 (by kernel_rfl) (by kernel_rfl) (by kernel_rfl) ms173 (Eq.mpr (by kernel_rfl) h)
def c154:Code:=(Tryz.f154.body).getD .skip
def r154:List ResultVar:=Tryz.f154.results.toList
def env154_0(y5 y6 y32 y33 y34:AV):List AV:=[y5,y6,y32,y33,y34]
def lv154_0:List Nat:=[5,6,32,33,34]
def ms154:List (List Nat):=[lv154_0,[]]
def m154(x0 x1:AV)(S:Store)(Q:PoT):Prop:=
 boxN 82 2 x0 S fun a S=>ldN 2 a S fun c S=>callF Pg 130 [c] S Q fun d S=>un .not d S fun e S=>onB e fun b=>gd b (Q (.ret .nl) S) (lenS x1 S fun g S=>shift a 0 S fun h S=>ld1 h S fun i S=>bin .neq 0 g i S fun k S=>onB k fun b=>gd b (Q (.ret .nl) S) (shift a 0 S fun l S=>ld1 l S fun m S=>bin .add 0 m (.v (.int .i64 1)) S fun n S=>shift a 1 S fun o S=>ld1 o S fun p S=>lenS p S fun q S=>bin .add 0 n q S fun r S=>mkN 4 1 [.v (.bool false)] (.v (.int .i64 1)) r S fun s S=>boxN 53 1 .nl S fun t S=>stN 1 t s S fun u S=>ld1 t S fun w S=>appS 4 1 1 w x1 S fun x S=>stN 1 t x S fun y S=>shift a 1 S fun z S=>ld1 z S fun A S=>lenS A S fun B S=>loopV lv154_0 (vc Pg (c154.at_ [1,1,1,1,1,0,1,0,0]) (ms154.drop 1)) 53 (env154_0 t (.f (.func 173) [] [t]) A B (.v (.int .i64 0))) S (blockK 0 (seqK (vc Pg (c154.at_ [1,1,1,1,1,1]) (ms154.drop 1)) (bodyK Pg r154 Q)))))
theorem calls154{x0 x1:AV}{S:Store}{Q:PoT}(h:m154 x0 x1 S Q):ACalls Pg 154 [x0,x1] S Q:=
 calls_of_vc (fn:=Tryz.f154) (c:=c154) (n:=53) Tryz.func154 (by kernel_rfl) (by kernel_rfl) (by kernel_rfl) ms154 (Eq.mpr (by kernel_rfl) h)
def b154_0(y5 y6 y32 y33 y34:AV)(S:Store)(KE0:KeT)(Q:PoT):Prop:=
 bin .lss 0 y34 y33 S fun c S=>onB c fun b=>gd b (ixS 124 2 y32 y34 S fun d S=>ldN 2 d S fun e S=>boxN 124 2 (.a [.v (.int .i64 0),.v (.int .i64 0)]) S fun f S=>stN 2 f e S fun g S=>∃ h:AV,(∀ T:Store,Keep S T→ld1 y5 T fun i S=>i=h∧S=T)∧∃ k:AV,(∀ T:Store,Keep S T→ixA 2 1 f (.v (.int .i64 0)) T fun l S=>l=k∧S=T)∧∃ m:AV,(∀ T:Store,Keep S T→ld1 k T fun n S=>n=m∧S=T)∧∃ o:AV,(∀ T:Store,Keep S T→callV Pg y6 [m] T (fun p S=>p=o∧S=T) (fun u S=>False))∧onB o fun b=>gd b (∃ q:AV,(∀ T:Store,Keep S T→ixA 2 1 f (.v (.int .i64 1)) T fun r S=>r=q∧S=T)∧∃ s:AV,(∀ T:Store,Keep S T→ld1 q T fun t S=>t=s∧S=T)∧∃ w:AV,(∀ T:Store,Keep S T→callV Pg y6 [s] T (fun x S=>x=w∧S=T) (fun u S=>False))∧∃ y:AV,(∀ T:Store,Keep S T→w=y∧T=T)∧∃ z:AV,(∀ T:Store,Keep S T→bslN 4 1 1 [.v (.bool false)] [(0,y)] T fun A S=>A=z∧S=T)∧appS 4 1 1 h z S fun B S=>stN 1 y5 B S fun C S=>bin .add 0 y34 (.v (.int .i64 1)) S fun D S=>KE0 53 (env154_0 y5 y6 y32 y33 D) S) (∃ E:AV,(∀ T:Store,Keep S T→(.v (.bool false))=E∧T=T)∧∃ F:AV,(∀ T:Store,Keep S T→bslN 4 1 1 [.v (.bool false)] [(0,E)] T fun G S=>G=F∧S=T)∧appS 4 1 1 h F S fun H S=>stN 1 y5 H S fun I S=>bin .add 0 y34 (.v (.int .i64 1)) S fun J S=>KE0 53 (env154_0 y5 y6 y32 y33 J) S)) (ld1 y5 S fun K S=>Q (.ret K) S)
theorem b154_0_eq(y5 y6 y32 y33 y34:AV)(S:Store)(KE0:KeT)(Q:PoT):vc Pg (c154.at_ [1,1,1,1,1,0,1,0,0]) (ms154.drop 1) (mkE 53 lv154_0 (env154_0 y5 y6 y32 y33 y34)) S (thenK (fgK lv154_0 KE0) (blockK 0 (seqK (vc Pg (c154.at_ [1,1,1,1,1,1]) (ms154.drop 1)) (bodyK Pg r154 Q))))=b154_0 y5 y6 y32 y33 y34 S KE0 Q:=by kernel_rfl
theorem loop154_0{y5 y6 y32 y33:AV}{y340:AV}{S:Store}{Q:PoT}(I:AV→Store→Prop)(μ:AV→Store→Nat)(h0:I y340 S)
    (hr:∀(y34:AV) (S:Store),I y34 S→∀ KE0:KeT,(∀(y34':AV) (S':Store),I y34' S'→μ y34' S'<μ y34 S→KE0 53 (env154_0 y5 y6 y32 y33 y34') S')→b154_0 y5 y6 y32 y33 y34 S KE0 Q):
    loopV lv154_0 (vc Pg (c154.at_ [1,1,1,1,1,0,1,0,0]) (ms154.drop 1)) 53 (env154_0 y5 y6 y32 y33 y340) S (blockK 0 (seqK (vc Pg (c154.at_ [1,1,1,1,1,1]) (ms154.drop 1)) (bodyK Pg r154 Q))):=by
 refine⟨fun n e S=>n=53∧∃ y34:AV,e=(env154_0 y5 y6 y32 y33 y34)∧I y34 S,fun _ e S=>μ (e.getD 4 .j) S,?_,?_⟩
 ·exact⟨_,_,Wk.refl _ _,rfl,_,rfl,h0⟩
 ·rintro _ e S ⟨rfl,y34,rfl,hI⟩
  exact(b154_0_eq _ _ _ _ _ _ _ _).mpr (hr y34 S hI _ (fun y34' S' hI' hm=>⟨_,_,Wk.refl _ _,⟨rfl,_,rfl,hI'⟩,hm⟩))
def c153:Code:=(Tryz.f153.body).getD .skip
def ms153:List (List Nat):=[[]]
def m153(x0 x1:AV)(S:Store)(Q:PoT):Prop:=
 bin .quo 0 x1 (.v (.int .i64 2)) S fun a S=>ixS 4 1 x0 a S fun c S=>ld1 c S fun d S=>bin .rem 0 x1 (.v (.int .i64 2)) S fun e S=>bin .eql 0 e (.v (.int .i64 1)) S fun f S=>bin .neq 1 d f S fun g S=>Q (.ret g) S
theorem calls153{x0 x1:AV}{S:Store}{Q:PoT}(h:m153 x0 x1 S Q):ACalls Pg 153 [x0,x1] S Q:=
 calls_of_vc (fn:=Tryz.f153) (c:=c153) (n:=14) Tryz.func153 (by kernel_rfl) (by kernel_rfl) (by kernel_rfl) ms153 (Eq.mpr (by kernel_rfl) h)
def c152:Code:=(Tryz.f152.body).getD .skip
def r152:List ResultVar:=Tryz.f152.results.toList
def env152_0(y2 y5 y6:AV):List AV:=[y2,y5,y6]
def lv152_0:List Nat:=[2,5,6]
def ms152:List (List Nat):=[lv152_0,[]]
def m152(x0 x1:AV)(S:Store)(Q:PoT):Prop:=
 boxN 82 2 x0 S fun a S=>ldN 2 a S fun c S=>callF Pg 111 [c] S Q fun d S=>un .not d S fun e S=>onB e fun b=>gd b (Q (.ret .nl) S) (lenS x1 S fun f S=>shift a 0 S fun g S=>ld1 g S fun h S=>bin .neq 0 f h S fun i S=>onB i fun b=>gd b (Q (.ret .nl) S) (bslN 4 1 1 [.v (.bool false)] [(0,(.v (.bool false)))] S fun k S=>appS 4 1 1 k x1 S fun l S=>loopV lv152_0 (vc Pg (c152.at_ [1,1,1,0,1,0,0]) (ms152.drop 1)) 49 (env152_0 a l (.v (.int .i64 0))) S (blockK 0 (seqK (vc Pg (c152.at_ [1,1,1,1]) (ms152.drop 1)) (bodyK Pg r152 Q)))))
theorem calls152{x0 x1:AV}{S:Store}{Q:PoT}(h:m152 x0 x1 S Q):ACalls Pg 152 [x0,x1] S Q:=
 calls_of_vc (fn:=Tryz.f152) (c:=c152) (n:=49) Tryz.func152 (by kernel_rfl) (by kernel_rfl) (by kernel_rfl) ms152 (Eq.mpr (by kernel_rfl) h)
def b152_0(y2 y5 y6:AV)(S:Store)(KE0:KeT)(Q:PoT):Prop:=
 shift y2 1 S fun a S=>ld1 a S fun c S=>lenS c S fun d S=>bin .lss 0 y6 d S fun e S=>onB e fun b=>gd b (shift y2 1 S fun f S=>ld1 f S fun g S=>ixS 124 2 g y6 S fun h S=>ixA 2 1 h (.v (.int .i64 0)) S fun i S=>ld1 i S fun k S=>callF Pg 153 [y5,k] S Q fun l S=>onB l fun b=>gd b (shift y2 1 S fun m S=>ld1 m S fun n S=>ixS 124 2 n y6 S fun o S=>ixA 2 1 o (.v (.int .i64 1)) S fun p S=>ld1 p S fun q S=>callF Pg 153 [y5,q] S Q fun r S=>bslN 4 1 1 [.v (.bool false)] [(0,r)] S fun s S=>appS 4 1 1 y5 s S fun t S=>bin .add 0 y6 (.v (.int .i64 1)) S fun u S=>KE0 49 (env152_0 y2 t u) S) (bslN 4 1 1 [.v (.bool false)] [(0,(.v (.bool false)))] S fun w S=>appS 4 1 1 y5 w S fun x S=>bin .add 0 y6 (.v (.int .i64 1)) S fun y S=>KE0 49 (env152_0 y2 x y) S)) (Q (.ret y5) S)
theorem b152_0_eq(y2 y5 y6:AV)(S:Store)(KE0:KeT)(Q:PoT):vc Pg (c152.at_ [1,1,1,0,1,0,0]) (ms152.drop 1) (mkE 49 lv152_0 (env152_0 y2 y5 y6)) S (thenK (fgK lv152_0 KE0) (blockK 0 (seqK (vc Pg (c152.at_ [1,1,1,1]) (ms152.drop 1)) (bodyK Pg r152 Q))))=b152_0 y2 y5 y6 S KE0 Q:=by kernel_rfl
theorem loop152_0{y2:AV}{y50 y60:AV}{S:Store}{Q:PoT}(I:AV→AV→Store→Prop)(μ:AV→AV→Store→Nat)(h0:I y50 y60 S)
    (hr:∀(y5 y6:AV) (S:Store),I y5 y6 S→∀ KE0:KeT,(∀(y5' y6':AV) (S':Store),I y5' y6' S'→μ y5' y6' S'<μ y5 y6 S→KE0 49 (env152_0 y2 y5' y6') S')→b152_0 y2 y5 y6 S KE0 Q):
    loopV lv152_0 (vc Pg (c152.at_ [1,1,1,0,1,0,0]) (ms152.drop 1)) 49 (env152_0 y2 y50 y60) S (blockK 0 (seqK (vc Pg (c152.at_ [1,1,1,1]) (ms152.drop 1)) (bodyK Pg r152 Q))):=by
 refine⟨fun n e S=>n=49∧∃ y5 y6:AV,e=(env152_0 y2 y5 y6)∧I y5 y6 S,fun _ e S=>μ (e.getD 1 .j) (e.getD 2 .j) S,?_,?_⟩
 ·exact⟨_,_,Wk.refl _ _,rfl,_,_,rfl,h0⟩
 ·rintro _ e S ⟨rfl,y5,y6,rfl,hI⟩
  exact(b152_0_eq _ _ _ _ _ _).mpr (hr y5 y6 S hI _ (fun y5' y6' S' hI' hm=>⟨_,_,Wk.refl _ _,⟨rfl,_,_,rfl,hI'⟩,hm⟩))
def c115:Code:=(Tryz.f115.body).getD .skip
def ms115:List (List Nat):=[[]]
def m115(x0 x1 x2:AV)(S:Store)(Q:PoT):Prop:=
 boxN 82 2 x0 S fun a S=>ldN 2 a S fun c S=>callF Pg 152 [c,x2] S Q fun d S=>lenS d S fun e S=>bin .gtr 0 e (.v (.int .i64 0)) S fun f S=>onB f fun b=>gd b (ldN 2 a S fun g S=>callF Pg 112 [g,x1] S Q fun h S=>onB h fun b=>gd b (callF Pg 153 [d,x1] S Q fun i S=>Q (.ret i) S) (Q (.ret (.v (.bool false))) S)) (Q (.ret (.v (.bool false))) S)
theorem calls115{x0 x1 x2:AV}{S:Store}{Q:PoT}(h:m115 x0 x1 x2 S Q):ACalls Pg 115 [x0,x1,x2] S Q:=
 calls_of_vc (fn:=Tryz.f115) (c:=c115) (n:=24) Tryz.func115 (by kernel_rfl) (by kernel_rfl) (by kernel_rfl) ms115 (Eq.mpr (by kernel_rfl) h)
def c65:Code:=(Tryz.f65.body).getD .skip
def r65:List ResultVar:=Tryz.f65.results.toList
def env65_0(y1 y3 y4:AV):List AV:=[y1,y3,y4]
def lv65_0:List Nat:=[1,3,4]
def ms65:List (List Nat):=[lv65_0,[]]
def m65(x0:AV)(S:Store)(Q:PoT):Prop:=
 boxN 42 8 x0 S fun c S=>ldN 8 c S fun d S=>callF Pg 41 [d] S Q fun e S=>boxN 82 2 (.a [.v (.int .i64 0),.nl]) S fun f S=>stN 2 f e S fun g S=>shift c 0 S fun h S=>ld1 h S fun i S=>bin .lss 0 i (.v (.int .i64 0)) S fun k S=>onB k fun b=>gd b (Q (.ret (.v (.bool false))) S) (shift c 0 S fun l S=>ld1 l S fun m S=>bin .gtr 0 m (.v (.int .i64 2000)) S fun n S=>onB n fun b=>gd b (Q (.ret (.v (.bool false))) S) (shift c 1 S fun o S=>ld1 o S fun p S=>lenS p S fun q S=>bin .gtr 0 q (.v (.int .i64 2000)) S fun r S=>onB r fun b=>gd b (Q (.ret (.v (.bool false))) S) (ldN 2 f S fun s S=>callF Pg 111 [s] S Q fun t S=>un .not t S fun u S=>onB u fun b=>gd b (Q (.ret (.v (.bool false))) S) (loopV lv65_0 (vc Pg (c65.at_ [1,1,1,0,1,0,0]) (ms65.drop 1)) 86 (env65_0 c f (.v (.int .i64 0))) S (blockK 0 (seqK (vc Pg (c65.at_ [1,1,1,1]) (ms65.drop 1)) (bodyK Pg r65 Q)))))))
theorem calls65{x0:AV}{S:Store}{Q:PoT}(h:m65 x0 S Q):ACalls Pg 65 [x0] S Q:=
 calls_of_vc (fn:=Tryz.f65) (c:=c65) (n:=86) Tryz.func65 (by kernel_rfl) (by kernel_rfl) (by kernel_rfl) ms65 (Eq.mpr (by kernel_rfl) h)
def b65_0(y1 y3 y4:AV)(S:Store)(KE0:KeT)(Q:PoT):Prop:=
 shift y1 1 S fun a S=>ld1 a S fun c S=>lenS c S fun d S=>bin .lss 0 y4 d S fun e S=>onB e fun b=>gd b ((fun S0:Store=>∃ f:AV,(ldN 2 y3 S fun g S=>g=f∧S=S0)∧∃ h:AV,(shift y1 1 S fun i S=>i=h∧S=S0)∧∃ k:AV,(ld1 h S fun l S=>l=k∧S=S0)∧∃ m:AV,(ixS 66 2 k y4 S fun n S=>n=m∧S=S0)∧∃ o:AV,(shift m 0 S fun p S=>p=o∧S=S0)∧∃ q:AV,(ld1 o S fun r S=>r=q∧S=S0)∧∃ s:AV,(callF Pg 112 [f,q] S (fun _ _=>False) fun t S=>t=s∧S=S0)∧∃ u:AV,(un .not s S fun w S=>w=u∧S=S0)∧onB u fun b=>gd b (∃ x:AV,((.v (.bool true))=x∧S=S0)∧onB x fun b=>gd b (∃ y:AV,((.v (.bool true))=y∧S=S0)∧onB y fun b=>gd b (Q (.ret (.v (.bool false))) S) (bin .add 0 y4 (.v (.int .i64 1)) S fun z S=>KE0 86 (env65_0 y1 y3 z) S)) (∃ A:AV,(shift y1 1 S fun B S=>B=A∧S=S0)∧∃ C:AV,(ld1 A S fun D S=>D=C∧S=S0)∧∃ E:AV,(ixS 66 2 C y4 S fun F S=>F=E∧S=S0)∧∃ G:AV,(shift E 1 S fun H S=>H=G∧S=S0)∧∃ I:AV,(ld1 G S fun J S=>J=I∧S=S0)∧∃ K:AV,(bin .gtr 0 I (.v (.int .i64 2)) S fun L S=>L=K∧S=S0)∧∃ M:AV,(K=M∧S=S0)∧onB M fun b=>gd b (Q (.ret (.v (.bool false))) S) (bin .add 0 y4 (.v (.int .i64 1)) S fun N S=>KE0 86 (env65_0 y1 y3 N) S))) (∃ O:AV,(shift y1 1 S fun P S=>P=O∧S=S0)∧∃ R:AV,(ld1 O S fun T S=>T=R∧S=S0)∧∃ U:AV,(ixS 66 2 R y4 S fun V S=>V=U∧S=S0)∧∃ W:AV,(shift U 1 S fun X S=>X=W∧S=S0)∧∃ Y:AV,(ld1 W S fun Z S=>Z=Y∧S=S0)∧∃ a0:AV,(bin .lss 0 Y (.v (.int .i64 0)) S fun a1 S=>a1=a0∧S=S0)∧∃ a2:AV,(a0=a2∧S=S0)∧onB a2 fun b=>gd b (∃ a3:AV,((.v (.bool true))=a3∧S=S0)∧onB a3 fun b=>gd b (Q (.ret (.v (.bool false))) S) (bin .add 0 y4 (.v (.int .i64 1)) S fun a4 S=>KE0 86 (env65_0 y1 y3 a4) S)) (∃ a5:AV,(shift y1 1 S fun a6 S=>a6=a5∧S=S0)∧∃ a7:AV,(ld1 a5 S fun a8 S=>a8=a7∧S=S0)∧∃ a9:AV,(ixS 66 2 a7 y4 S fun b0 S=>b0=a9∧S=S0)∧∃ b1:AV,(shift a9 1 S fun b2 S=>b2=b1∧S=S0)∧∃ b3:AV,(ld1 b1 S fun b4 S=>b4=b3∧S=S0)∧∃ b5:AV,(bin .gtr 0 b3 (.v (.int .i64 2)) S fun b6 S=>b6=b5∧S=S0)∧∃ b7:AV,(b5=b7∧S=S0)∧onB b7 fun b=>gd b (Q (.ret (.v (.bool false))) S) (bin .add 0 y4 (.v (.int .i64 1)) S fun b8 S=>KE0 86 (env65_0 y1 y3 b8) S)))) S) (ldN 2 y3 S fun b9 S=>shift y1 3 S fun c0 S=>ld1 c0 S fun c1 S=>callF Pg 113 [b9,c1] S Q fun c2 S=>onB c2 fun b=>gd b (ldN 2 y3 S fun c3 S=>shift y1 4 S fun c4 S=>ld1 c4 S fun c5 S=>callF Pg 113 [c3,c5] S Q fun c6 S=>onB c6 fun b=>gd b (ldN 2 y3 S fun c7 S=>shift y1 5 S fun c8 S=>ld1 c8 S fun c9 S=>callF Pg 113 [c7,c9] S Q fun d0 S=>onB d0 fun b=>gd b (ldN 2 y3 S fun d1 S=>shift y1 6 S fun d2 S=>ld1 d2 S fun d3 S=>callF Pg 113 [d1,d3] S Q fun d4 S=>onB d4 fun b=>gd b (ldN 8 y1 S fun d5 S=>callF Pg 114 [d5] S Q fun d6 S=>Q (.ret d6) S) (Q (.ret (.v (.bool false))) S)) (Q (.ret (.v (.bool false))) S)) (Q (.ret (.v (.bool false))) S)) (Q (.ret (.v (.bool false))) S))
theorem b65_0_eq(y1 y3 y4:AV)(S:Store)(KE0:KeT)(Q:PoT):vc Pg (c65.at_ [1,1,1,0,1,0,0]) (ms65.drop 1) (mkE 86 lv65_0 (env65_0 y1 y3 y4)) S (thenK (fgK lv65_0 KE0) (blockK 0 (seqK (vc Pg (c65.at_ [1,1,1,1]) (ms65.drop 1)) (bodyK Pg r65 Q))))=b65_0 y1 y3 y4 S KE0 Q:=by kernel_rfl
theorem loop65_0{y1 y3:AV}{y40:AV}{S:Store}{Q:PoT}(I:AV→Store→Prop)(μ:AV→Store→Nat)(h0:I y40 S)
    (hr:∀(y4:AV) (S:Store),I y4 S→∀ KE0:KeT,(∀(y4':AV) (S':Store),I y4' S'→μ y4' S'<μ y4 S→KE0 86 (env65_0 y1 y3 y4') S')→b65_0 y1 y3 y4 S KE0 Q):
    loopV lv65_0 (vc Pg (c65.at_ [1,1,1,0,1,0,0]) (ms65.drop 1)) 86 (env65_0 y1 y3 y40) S (blockK 0 (seqK (vc Pg (c65.at_ [1,1,1,1]) (ms65.drop 1)) (bodyK Pg r65 Q))):=by
 refine⟨fun n e S=>n=86∧∃ y4:AV,e=(env65_0 y1 y3 y4)∧I y4 S,fun _ e S=>μ (e.getD 2 .j) S,?_,?_⟩
 ·exact⟨_,_,Wk.refl _ _,rfl,_,rfl,h0⟩
 ·rintro _ e S ⟨rfl,y4,rfl,hI⟩
  exact(b65_0_eq _ _ _ _ _ _).mpr (hr y4 S hI _ (fun y4' S' hI' hm=>⟨_,_,Wk.refl _ _,⟨rfl,_,rfl,hI'⟩,hm⟩))
def c128:Code:=(Tryz.f128.body).getD .skip
def ms128:List (List Nat):=[[]]
def m128(x0 x1:AV)(S:Store)(Q:PoT):Prop:=
 ldN 2 x1 S fun a S=>callF Pg 88 [a,x0] S Q fun c S=>un .not c S fun d S=>Q (.ret d) S
theorem calls128{x0 x1:AV}{S:Store}{Q:PoT}(h:m128 x0 x1 S Q):ACalls Pg 128 [x0,x1] S Q:=
 calls_of_vc (fn:=Tryz.f128) (c:=c128) (n:=8) Tryz.func128 (by kernel_rfl) (by kernel_rfl) (by kernel_rfl) ms128 (Eq.mpr (by kernel_rfl) h)
def c129:Code:=(Tryz.f129.body).getD .skip
def ms129:List (List Nat):=[[]]
def m129(x0 x1:AV)(S:Store)(Q:PoT):Prop:=
 boxN 66 2 x0 S fun a S=>ld1 x1 S fun c S=>shift a 0 S fun d S=>ld1 d S fun e S=>callV Pg c [e] S (fun f S=>onB f fun b=>gd b (Q (.ret (.v (.bool true))) S) (shift a 1 S fun g S=>ld1 g S fun h S=>bin .lss 0 h (.v (.int .i64 0)) S fun i S=>onB i fun b=>gd b (Q (.ret (.v (.bool true))) S) (shift a 1 S fun k S=>ld1 k S fun l S=>bin .gtr 0 l (.v (.int .i64 2)) S fun m S=>Q (.ret m) S))) (fun u S=>Q (.pan u) S)
theorem calls129{x0 x1:AV}{S:Store}{Q:PoT}(h:m129 x0 x1 S Q):ACalls Pg 129 [x0,x1] S Q:=
 calls_of_vc (fn:=Tryz.f129) (c:=c129) (n:=18) Tryz.func129 (by kernel_rfl) (by kernel_rfl) (by kernel_rfl) ms129 (Eq.mpr (by kernel_rfl) h)
def c165:Code:=(Tryz.f165.body).getD .skip
def r165:List ResultVar:=Tryz.f165.results.toList
def env165_0(y0 y1 y7 y8:AV):List AV:=[y0,y1,y7,y8]
def lv165_0:List Nat:=[0,1,7,8]
def ms165:List (List Nat):=[lv165_0,[]]
def m165(x0 x1:AV)(S:Store)(Q:PoT):Prop:=
 lenS x0 S fun a S=>loopV lv165_0 (vc Pg (c165.at_ [1,0,1,0,0]) (ms165.drop 1)) 19 (env165_0 x0 x1 a (.v (.int .i64 0))) S (blockK 0 (seqK (vc Pg (c165.at_ [1,1]) (ms165.drop 1)) (bodyK Pg r165 Q)))
theorem calls165{x0 x1:AV}{S:Store}{Q:PoT}(h:m165 x0 x1 S Q):ACalls Pg 165 [x0,x1] S Q:=
 calls_of_vc (fn:=Tryz.f165) (c:=c165) (n:=19) Tryz.func165 (by kernel_rfl) (by kernel_rfl) (by kernel_rfl) ms165 (Eq.mpr (by kernel_rfl) h)
def b165_0(y0 y1 y7 y8:AV)(S:Store)(KE0:KeT)(Q:PoT):Prop:=
 bin .lss 0 y8 y7 S fun a S=>onB a fun b=>gd b (ixS 66 2 y0 y8 S fun c S=>ldN 2 c S fun d S=>callV Pg y1 [d] S (fun e S=>onB e fun b=>gd b (Q (.ret y8) S) (bin .add 0 y8 (.v (.int .i64 1)) S fun f S=>KE0 19 (env165_0 y0 y1 y7 f) S)) (fun u S=>Q (.pan u) S)) (Q (.ret (.v (.int .i64 (-1)))) S)
theorem b165_0_eq(y0 y1 y7 y8:AV)(S:Store)(KE0:KeT)(Q:PoT):vc Pg (c165.at_ [1,0,1,0,0]) (ms165.drop 1) (mkE 19 lv165_0 (env165_0 y0 y1 y7 y8)) S (thenK (fgK lv165_0 KE0) (blockK 0 (seqK (vc Pg (c165.at_ [1,1]) (ms165.drop 1)) (bodyK Pg r165 Q))))=b165_0 y0 y1 y7 y8 S KE0 Q:=by kernel_rfl
theorem loop165_0{y0 y1 y7:AV}{y80:AV}{S:Store}{Q:PoT}(I:AV→Store→Prop)(μ:AV→Store→Nat)(h0:I y80 S)
    (hr:∀(y8:AV) (S:Store),I y8 S→∀ KE0:KeT,(∀(y8':AV) (S':Store),I y8' S'→μ y8' S'<μ y8 S→KE0 19 (env165_0 y0 y1 y7 y8') S')→b165_0 y0 y1 y7 y8 S KE0 Q):
    loopV lv165_0 (vc Pg (c165.at_ [1,0,1,0,0]) (ms165.drop 1)) 19 (env165_0 y0 y1 y7 y80) S (blockK 0 (seqK (vc Pg (c165.at_ [1,1]) (ms165.drop 1)) (bodyK Pg r165 Q))):=by
 refine⟨fun n e S=>n=19∧∃ y8:AV,e=(env165_0 y0 y1 y7 y8)∧I y8 S,fun _ e S=>μ (e.getD 3 .j) S,?_,?_⟩
 ·exact⟨_,_,Wk.refl _ _,rfl,_,rfl,h0⟩
 ·rintro _ e S ⟨rfl,y8,rfl,hI⟩
  exact(b165_0_eq _ _ _ _ _ _ _).mpr (hr y8 S hI _ (fun y8' S' hI' hm=>⟨_,_,Wk.refl _ _,⟨rfl,_,rfl,hI'⟩,hm⟩))
def c131:Code:=(Tryz.f131.body).getD .skip
def ms131:List (List Nat):=[[]]
def m131(x0 x1:AV)(S:Store)(Q:PoT):Prop:=
 callF Pg 165 [x0,x1] S Q fun a S=>bin .geq 0 a (.v (.int .i64 0)) S fun c S=>Q (.ret c) S
theorem calls131{x0 x1:AV}{S:Store}{Q:PoT}(h:m131 x0 x1 S Q):ACalls Pg 131 [x0,x1] S Q:=
 calls_of_vc (fn:=Tryz.f131) (c:=c131) (n:=9) Tryz.func131 (by kernel_rfl) (by kernel_rfl) (by kernel_rfl) ms131 (Eq.mpr (by kernel_rfl) h)
def c85:Code:=(Tryz.f85.body).getD .skip
def r85:List ResultVar:=Tryz.f85.results.toList
def env85_0(y1 y3 y14:AV):List AV:=[y1,y3,y14]
def lv85_0:List Nat:=[1,3,14]
def env85_1(y1 y6 y44 y45:AV):List AV:=[y1,y6,y44,y45]
def lv85_1:List Nat:=[1,6,44,45]
def ms85:List (List Nat):=[lv85_0,lv85_1,[]]
def m85(x0:AV)(S:Store)(Q:PoT):Prop:=
 boxN 42 8 x0 S fun c S=>ldN 8 c S fun d S=>callF Pg 84 [d] S Q fun e S=>boxN 82 2 (.a [.v (.int .i64 0),.nl]) S fun f S=>stN 2 f e S fun g S=>ldN 8 c S fun h S=>callF Pg 127 [h] S Q fun i S=>rngM i S fun k S=>loopV lv85_0 (vc Pg (c85.at_ [1,1,0,1,0,0]) (ms85.drop 1)) 54 (env85_0 c f k) S (blockK 0 (seqK (vc Pg (c85.at_ [1,1,1]) (ms85.drop 1)) (bodyK Pg r85 Q)))
theorem calls85{x0:AV}{S:Store}{Q:PoT}(h:m85 x0 S Q):ACalls Pg 85 [x0] S Q:=
 calls_of_vc (fn:=Tryz.f85) (c:=c85) (n:=54) Tryz.func85 (by kernel_rfl) (by kernel_rfl) (by kernel_rfl) ms85 (Eq.mpr (by kernel_rfl) h)
def b85_0(y1 y3 y14:AV)(S:Store)(KE0:KeT)(Q:PoT):Prop:=
 nextM false y14 S fun a S=>extr a 0 S fun c S=>onB c fun b=>gd b (entryM y14 S fun d S=>extr d 1 S fun e S=>bin .lss 0 e (.v (.int .i64 0)) S fun g S=>onB g fun b=>gd b (Q (.ret (.v (.bool false))) S) (bin .gtr 0 e (.v (.int .i64 2000)) S fun h S=>onB h fun b=>gd b (Q (.ret (.v (.bool false))) S) (KE0 54 (env85_0 y1 y3 y14) S))) (boxN 134 1 (.v .nilFunc) S fun i S=>stN 1 i (.f (.func 128) [] [y3]) S fun k S=>ldN 2 y3 S fun l S=>callF Pg 130 [l] S Q fun m S=>un .not m S fun n S=>onB n fun b=>gd b (Q (.ret (.v (.bool false))) S) (shift y1 1 S fun o S=>ld1 o S fun p S=>callF Pg 131 [p,(.f (.func 129) [] [i])] S Q fun q S=>onB q fun b=>gd b (Q (.ret (.v (.bool false))) S) (shift y1 3 S fun r S=>ld1 r S fun s S=>shift y1 4 S fun t S=>ld1 t S fun u S=>shift y1 5 S fun w S=>ld1 w S fun x S=>shift y1 6 S fun y S=>ld1 y S fun z S=>bld [(0,1),(1,1),(2,1),(3,1)] [.nl,.nl,.nl,.nl] [(0,s),(1,u),(2,x),(3,z)] S fun A S=>loopV lv85_1 (vc Pg (c85.at_ [1,1,1,1,1,1,0,1,0,0]) (ms85.drop 2)) 54 (env85_1 y1 i A (.v (.int .i64 0))) S (blockK 2 (seqK (vc Pg (c85.at_ [1,1,1,1,1,1,1]) (ms85.drop 2)) (bodyK Pg r85 Q))))))
theorem b85_0_eq(y1 y3 y14:AV)(S:Store)(KE0:KeT)(Q:PoT):vc Pg (c85.at_ [1,1,0,1,0,0]) (ms85.drop 1) (mkE 54 lv85_0 (env85_0 y1 y3 y14)) S (thenK (fgK lv85_0 KE0) (blockK 0 (seqK (vc Pg (c85.at_ [1,1,1]) (ms85.drop 1)) (bodyK Pg r85 Q))))=b85_0 y1 y3 y14 S KE0 Q:=by kernel_rfl
theorem loop85_0{y1 y3 y14:AV}{S:Store}{Q:PoT}(I:Store→Prop)(μ:Store→Nat)(h0:I  S)
    (hr:∀(S:Store),I  S→∀ KE0:KeT,(∀(S':Store),I  S'→μ  S'<μ  S→KE0 54 (env85_0 y1 y3 y14) S')→b85_0 y1 y3 y14 S KE0 Q):
    loopV lv85_0 (vc Pg (c85.at_ [1,1,0,1,0,0]) (ms85.drop 1)) 54 (env85_0 y1 y3 y14) S (blockK 0 (seqK (vc Pg (c85.at_ [1,1,1]) (ms85.drop 1)) (bodyK Pg r85 Q))):=by
 refine⟨fun n e S=>n=54∧e=(env85_0 y1 y3 y14)∧I  S,fun _ e S=>μ  S,?_,?_⟩
 ·exact⟨_,_,Wk.refl _ _,rfl,rfl,h0⟩
 ·rintro _ e S ⟨rfl,rfl,hI⟩
  exact(b85_0_eq _ _ _ _ _ _).mpr (hr  S hI _ (fun  S' hI' hm=>⟨_,_,Wk.refl _ _,⟨rfl,rfl,hI'⟩,hm⟩))
def b85_1(y1 y6 y44 y45:AV)(S:Store)(KE1:KeT)(Q:PoT):Prop:=
 bin .lss 0 y45 (.v (.int .i64 4)) S fun a S=>onB a fun b=>gd b (optP (intA y45) fun z39=>(0≤z39∧z39<((4:Nat):Int))∧part1 y44 (z39.toNat*1) S fun c S=>ld1 y6 S fun d S=>callF Pg 132 [c,d] S Q fun e S=>onB e fun b=>gd b (Q (.ret (.v (.bool false))) S) (bin .add 0 y45 (.v (.int .i64 1)) S fun f S=>KE1 54 (env85_1 y1 y6 y44 f) S)) (ldN 8 y1 S fun g S=>callF Pg 133 [g] S Q fun h S=>Q (.ret h) S)
theorem b85_1_eq(y1 y6 y44 y45:AV)(S:Store)(KE1:KeT)(Q:PoT):vc Pg (c85.at_ [1,1,1,1,1,1,0,1,0,0]) (ms85.drop 2) (mkE 54 lv85_1 (env85_1 y1 y6 y44 y45)) S (thenK (fgK lv85_1 KE1) (blockK 2 (seqK (vc Pg (c85.at_ [1,1,1,1,1,1,1]) (ms85.drop 2)) (bodyK Pg r85 Q))))=b85_1 y1 y6 y44 y45 S KE1 Q:=by kernel_rfl
theorem loop85_1{y1 y6 y44:AV}{y450:AV}{S:Store}{Q:PoT}(I:AV→Store→Prop)(μ:AV→Store→Nat)(h0:I y450 S)
    (hr:∀(y45:AV) (S:Store),I y45 S→∀ KE1:KeT,(∀(y45':AV) (S':Store),I y45' S'→μ y45' S'<μ y45 S→KE1 54 (env85_1 y1 y6 y44 y45') S')→b85_1 y1 y6 y44 y45 S KE1 Q):
    loopV lv85_1 (vc Pg (c85.at_ [1,1,1,1,1,1,0,1,0,0]) (ms85.drop 2)) 54 (env85_1 y1 y6 y44 y450) S (blockK 2 (seqK (vc Pg (c85.at_ [1,1,1,1,1,1,1]) (ms85.drop 2)) (bodyK Pg r85 Q))):=by
 refine⟨fun n e S=>n=54∧∃ y45:AV,e=(env85_1 y1 y6 y44 y45)∧I y45 S,fun _ e S=>μ (e.getD 3 .j) S,?_,?_⟩
 ·exact⟨_,_,Wk.refl _ _,rfl,_,rfl,h0⟩
 ·rintro _ e S ⟨rfl,y45,rfl,hI⟩
  exact(b85_1_eq _ _ _ _ _ _ _).mpr (hr y45 S hI _ (fun y45' S' hI' hm=>⟨_,_,Wk.refl _ _,⟨rfl,_,rfl,hI'⟩,hm⟩))
def c114:Code:=(Tryz.f114.body).getD .skip
def r114:List ResultVar:=Tryz.f114.results.toList
def env114_0(y1 y3:AV):List AV:=[y1,y3]
def lv114_0:List Nat:=[1,3]
def env114_1(y1 y3 y4 y5:AV):List AV:=[y1,y3,y4,y5]
def lv114_1:List Nat:=[1,3,4,5]
def ms114:List (List Nat):=[lv114_0,lv114_1,[]]
def m114(x0:AV)(S:Store)(Q:PoT):Prop:=
 boxN 42 8 x0 S fun a S=>loopV lv114_0 (vc Pg (c114.at_ [1,0,1,0,0]) (ms114.drop 1)) 85 (env114_0 a (.v (.int .i64 0))) S (blockK 0 (seqK (vc Pg (c114.at_ [1,1]) (ms114.drop 2)) (bodyK Pg r114 Q)))
theorem calls114{x0:AV}{S:Store}{Q:PoT}(h:m114 x0 S Q):ACalls Pg 114 [x0] S Q:=
 calls_of_vc (fn:=Tryz.f114) (c:=c114) (n:=85) Tryz.func114 (by kernel_rfl) (by kernel_rfl) (by kernel_rfl) ms114 (Eq.mpr (by kernel_rfl) h)
def b114_0(y1 y3:AV)(S:Store)(KE0:KeT)(Q:PoT):Prop:=
 shift y1 7 S fun c S=>ld1 c S fun d S=>lenS d S fun e S=>bin .lss 0 y3 e S fun f S=>onB f fun b=>gd b (shift y1 7 S fun g S=>ld1 g S fun h S=>ixS 130 3 h y3 S fun i S=>ldN 3 i S fun k S=>boxN 130 3 (.a [.v (.int .u8 0),.v (.int .i64 0),.v (.string ByteArray.empty)]) S fun l S=>stN 3 l k S fun m S=>(fun S0:Store=>∃ n:AV,(shift l 2 S fun o S=>o=n∧S=S0)∧∃ p:AV,(ld1 n S fun q S=>q=p∧S=S0)∧∃ r:AV,(callF Pg 149 [p] S (fun _ _=>False) fun s S=>s=r∧S=S0)∧∃ t:AV,(un .not r S fun u S=>u=t∧S=S0)∧onB t fun b=>gd b (∃ w:AV,((.v (.bool true))=w∧S=S0)∧onB w fun b=>gd b (∃ x:AV,((.v (.bool true))=x∧S=S0)∧onB x fun b=>gd b (Q (.ret (.v (.bool false))) S) (loopV lv114_1 (vc Pg (c114.at_ [1,0,1,0,0,1,0,0,1,1,0,1,0,0]) (ms114.drop 2)) 85 (env114_1 y1 y3 l (.v (.int .i64 0))) S (blockK 2 (seqK (vc Pg (c114.at_ [1,0,1,0,0,1,0,0,1,1,1]) (ms114.drop 2)) (blockK 1 (seqK (vc Pg (c114.at_ [1,0,1,0,0,1,1]) (ms114.drop 2)) (thenK (fgK lv114_0 KE0) (blockK 0 (seqK (vc Pg (c114.at_ [1,1]) (ms114.drop 2)) (bodyK Pg r114 Q)))))))))) (∃ y:AV,(shift l 1 S fun z S=>z=y∧S=S0)∧∃ A:AV,(ld1 y S fun B S=>B=A∧S=S0)∧∃ C:AV,(ldN 8 y1 S fun D S=>D=C∧S=S0)∧∃ E:AV,(shift l 0 S fun F S=>F=E∧S=S0)∧∃ G:AV,(ld1 E S fun H S=>H=G∧S=S0)∧∃ I:AV,(callF Pg 150 [C,G] S (fun _ _=>False) fun J S=>J=I∧S=S0)∧∃ K:AV,(bin .geq 0 A I S fun L S=>L=K∧S=S0)∧∃ M:AV,(K=M∧S=S0)∧onB M fun b=>gd b (Q (.ret (.v (.bool false))) S) (loopV lv114_1 (vc Pg (c114.at_ [1,0,1,0,0,1,0,0,1,1,0,1,0,0]) (ms114.drop 2)) 85 (env114_1 y1 y3 l (.v (.int .i64 0))) S (blockK 2 (seqK (vc Pg (c114.at_ [1,0,1,0,0,1,0,0,1,1,1]) (ms114.drop 2)) (blockK 1 (seqK (vc Pg (c114.at_ [1,0,1,0,0,1,1]) (ms114.drop 2)) (thenK (fgK lv114_0 KE0) (blockK 0 (seqK (vc Pg (c114.at_ [1,1]) (ms114.drop 2)) (bodyK Pg r114 Q))))))))))) (∃ N:AV,(shift l 1 S fun O S=>O=N∧S=S0)∧∃ P:AV,(ld1 N S fun R S=>R=P∧S=S0)∧∃ T:AV,(bin .lss 0 P (.v (.int .i64 0)) S fun U S=>U=T∧S=S0)∧∃ V:AV,(T=V∧S=S0)∧onB V fun b=>gd b (∃ W:AV,((.v (.bool true))=W∧S=S0)∧onB W fun b=>gd b (Q (.ret (.v (.bool false))) S) (loopV lv114_1 (vc Pg (c114.at_ [1,0,1,0,0,1,0,0,1,1,0,1,0,0]) (ms114.drop 2)) 85 (env114_1 y1 y3 l (.v (.int .i64 0))) S (blockK 2 (seqK (vc Pg (c114.at_ [1,0,1,0,0,1,0,0,1,1,1]) (ms114.drop 2)) (blockK 1 (seqK (vc Pg (c114.at_ [1,0,1,0,0,1,1]) (ms114.drop 2)) (thenK (fgK lv114_0 KE0) (blockK 0 (seqK (vc Pg (c114.at_ [1,1]) (ms114.drop 2)) (bodyK Pg r114 Q)))))))))) (∃ X:AV,(shift l 1 S fun Y S=>Y=X∧S=S0)∧∃ Z:AV,(ld1 X S fun a0 S=>a0=Z∧S=S0)∧∃ a1:AV,(ldN 8 y1 S fun a2 S=>a2=a1∧S=S0)∧∃ a3:AV,(shift l 0 S fun a4 S=>a4=a3∧S=S0)∧∃ a5:AV,(ld1 a3 S fun a6 S=>a6=a5∧S=S0)∧∃ a7:AV,(callF Pg 150 [a1,a5] S (fun _ _=>False) fun a8 S=>a8=a7∧S=S0)∧∃ a9:AV,(bin .geq 0 Z a7 S fun b0 S=>b0=a9∧S=S0)∧∃ b1:AV,(a9=b1∧S=S0)∧onB b1 fun b=>gd b (Q (.ret (.v (.bool false))) S) (loopV lv114_1 (vc Pg (c114.at_ [1,0,1,0,0,1,0,0,1,1,0,1,0,0]) (ms114.drop 2)) 85 (env114_1 y1 y3 l (.v (.int .i64 0))) S (blockK 2 (seqK (vc Pg (c114.at_ [1,0,1,0,0,1,0,0,1,1,1]) (ms114.drop 2)) (blockK 1 (seqK (vc Pg (c114.at_ [1,0,1,0,0,1,1]) (ms114.drop 2)) (thenK (fgK lv114_0 KE0) (blockK 0 (seqK (vc Pg (c114.at_ [1,1]) (ms114.drop 2)) (bodyK Pg r114 Q)))))))))))) S) (Q (.ret (.v (.bool true))) S)
theorem b114_0_eq(y1 y3:AV)(S:Store)(KE0:KeT)(Q:PoT):vc Pg (c114.at_ [1,0,1,0,0]) (ms114.drop 1) (mkE 85 lv114_0 (env114_0 y1 y3)) S (thenK (fgK lv114_0 KE0) (blockK 0 (seqK (vc Pg (c114.at_ [1,1]) (ms114.drop 2)) (bodyK Pg r114 Q))))=b114_0 y1 y3 S KE0 Q:=by kernel_rfl
theorem loop114_0{y1:AV}{y30:AV}{S:Store}{Q:PoT}(I:AV→Store→Prop)(μ:AV→Store→Nat)(h0:I y30 S)
    (hr:∀(y3:AV) (S:Store),I y3 S→∀ KE0:KeT,(∀(y3':AV) (S':Store),I y3' S'→μ y3' S'<μ y3 S→KE0 85 (env114_0 y1 y3') S')→b114_0 y1 y3 S KE0 Q):
    loopV lv114_0 (vc Pg (c114.at_ [1,0,1,0,0]) (ms114.drop 1)) 85 (env114_0 y1 y30) S (blockK 0 (seqK (vc Pg (c114.at_ [1,1]) (ms114.drop 2)) (bodyK Pg r114 Q))):=by
 refine⟨fun n e S=>n=85∧∃ y3:AV,e=(env114_0 y1 y3)∧I y3 S,fun _ e S=>μ (e.getD 1 .j) S,?_,?_⟩
 ·exact⟨_,_,Wk.refl _ _,rfl,_,rfl,h0⟩
 ·rintro _ e S ⟨rfl,y3,rfl,hI⟩
  exact(b114_0_eq _ _ _ _ _).mpr (hr y3 S hI _ (fun y3' S' hI' hm=>⟨_,_,Wk.refl _ _,⟨rfl,_,rfl,hI'⟩,hm⟩))
def b114_1(y1 y3 y4 y5:AV)(S:Store)(KE1:KeT)(KE0:KeT)(Q:PoT):Prop:=
 bin .lss 0 y5 y3 S fun a S=>onB a fun b=>gd b ((fun S0:Store=>∃ c:AV,(shift y1 7 S fun d S=>d=c∧S=S0)∧∃ e:AV,(ld1 c S fun f S=>f=e∧S=S0)∧∃ g:AV,(ixS 130 3 e y5 S fun h S=>h=g∧S=S0)∧∃ i:AV,(shift g 2 S fun k S=>k=i∧S=S0)∧∃ l:AV,(ld1 i S fun m S=>m=l∧S=S0)∧∃ n:AV,(shift y4 2 S fun o S=>o=n∧S=S0)∧∃ p:AV,(ld1 n S fun q S=>q=p∧S=S0)∧∃ r:AV,(bin .eql 0 l p S fun s S=>s=r∧S=S0)∧onB r fun b=>gd b (Q (.ret (.v (.bool false))) S) (bin .add 0 y5 (.v (.int .i64 1)) S fun t S=>KE1 85 (env114_1 y1 y3 y4 t) S)) S) (bin .gtr 0 y3 (.v (.int .i64 0)) S fun u S=>onB u fun b=>gd b ((fun S0:Store=>∃ w:AV,(shift y1 7 S fun x S=>x=w∧S=S0)∧∃ y:AV,(ld1 w S fun z S=>z=y∧S=S0)∧∃ A:AV,(bin .sub 0 y3 (.v (.int .i64 1)) S fun B S=>B=A∧S=S0)∧∃ C:AV,(ixS 130 3 y A S fun D S=>D=C∧S=S0)∧∃ E:AV,(shift C 0 S fun F S=>F=E∧S=S0)∧∃ G:AV,(ld1 E S fun H S=>H=G∧S=S0)∧∃ I:AV,(callF Pg 151 [G] S (fun _ _=>False) fun J S=>J=I∧S=S0)∧∃ K:AV,(shift y4 0 S fun L S=>L=K∧S=S0)∧∃ M:AV,(ld1 K S fun N S=>N=M∧S=S0)∧∃ O:AV,(callF Pg 151 [M] S (fun _ _=>False) fun P S=>P=O∧S=S0)∧(fun S0:Store=>∃ R:AV,(bin .gtr 0 I O S fun T S=>T=R∧S=S0)∧onB R fun b=>gd b (∃ U:AV,((.v (.bool true))=U∧S=S0)∧onB U fun b=>gd b (Q (.ret (.v (.bool false))) S) (bin .add 0 y3 (.v (.int .i64 1)) S fun V S=>KE0 85 (env114_0 y1 V) S)) (∃ W:AV,(bin .eql 0 I O S fun X S=>X=W∧S=S0)∧onB W fun b=>gd b (∃ Y:AV,(shift y1 7 S fun Z S=>Z=Y∧S=S0)∧∃ a0:AV,(ld1 Y S fun a1 S=>a1=a0∧S=S0)∧∃ a2:AV,(bin .sub 0 y3 (.v (.int .i64 1)) S fun a3 S=>a3=a2∧S=S0)∧∃ a4:AV,(ixS 130 3 a0 a2 S fun a5 S=>a5=a4∧S=S0)∧∃ a6:AV,(shift a4 1 S fun a7 S=>a7=a6∧S=S0)∧∃ a8:AV,(ld1 a6 S fun a9 S=>a9=a8∧S=S0)∧∃ b0:AV,(shift y4 1 S fun b1 S=>b1=b0∧S=S0)∧∃ b2:AV,(ld1 b0 S fun b3 S=>b3=b2∧S=S0)∧∃ b4:AV,(bin .geq 0 a8 b2 S fun b5 S=>b5=b4∧S=S0)∧∃ b6:AV,(b4=b6∧S=S0)∧∃ b7:AV,(b6=b7∧S=S0)∧onB b7 fun b=>gd b (Q (.ret (.v (.bool false))) S) (bin .add 0 y3 (.v (.int .i64 1)) S fun b8 S=>KE0 85 (env114_0 y1 b8) S)) (∃ b9:AV,((.v (.bool false))=b9∧S=S0)∧∃ c0:AV,(b9=c0∧S=S0)∧onB c0 fun b=>gd b (Q (.ret (.v (.bool false))) S) (bin .add 0 y3 (.v (.int .i64 1)) S fun c1 S=>KE0 85 (env114_0 y1 c1) S)))) S) S) (bin .add 0 y3 (.v (.int .i64 1)) S fun c2 S=>KE0 85 (env114_0 y1 c2) S))
theorem b114_1_eq(y1 y3 y4 y5:AV)(S:Store)(KE1:KeT)(KE0:KeT)(Q:PoT):vc Pg (c114.at_ [1,0,1,0,0,1,0,0,1,1,0,1,0,0]) (ms114.drop 2) (mkE 85 lv114_1 (env114_1 y1 y3 y4 y5)) S (thenK (fgK lv114_1 KE1) (blockK 2 (seqK (vc Pg (c114.at_ [1,0,1,0,0,1,0,0,1,1,1]) (ms114.drop 2)) (blockK 1 (seqK (vc Pg (c114.at_ [1,0,1,0,0,1,1]) (ms114.drop 2)) (thenK (fgK lv114_0 KE0) (blockK 0 (seqK (vc Pg (c114.at_ [1,1]) (ms114.drop 2)) (bodyK Pg r114 Q)))))))))=b114_1 y1 y3 y4 y5 S KE1 KE0 Q:=by kernel_rfl
theorem loop114_1{y1 y3 y4:AV}{y50:AV}{S:Store}{KE0:KeT}{Q:PoT}(I:AV→Store→Prop)(μ:AV→Store→Nat)(h0:I y50 S)
    (hr:∀(y5:AV) (S:Store),I y5 S→∀ KE1:KeT,(∀(y5':AV) (S':Store),I y5' S'→μ y5' S'<μ y5 S→KE1 85 (env114_1 y1 y3 y4 y5') S')→b114_1 y1 y3 y4 y5 S KE1 KE0 Q):
    loopV lv114_1 (vc Pg (c114.at_ [1,0,1,0,0,1,0,0,1,1,0,1,0,0]) (ms114.drop 2)) 85 (env114_1 y1 y3 y4 y50) S (blockK 2 (seqK (vc Pg (c114.at_ [1,0,1,0,0,1,0,0,1,1,1]) (ms114.drop 2)) (blockK 1 (seqK (vc Pg (c114.at_ [1,0,1,0,0,1,1]) (ms114.drop 2)) (thenK (fgK lv114_0 KE0) (blockK 0 (seqK (vc Pg (c114.at_ [1,1]) (ms114.drop 2)) (bodyK Pg r114 Q)))))))):=by
 refine⟨fun n e S=>n=85∧∃ y5:AV,e=(env114_1 y1 y3 y4 y5)∧I y5 S,fun _ e S=>μ (e.getD 3 .j) S,?_,?_⟩
 ·exact⟨_,_,Wk.refl _ _,rfl,_,rfl,h0⟩
 ·rintro _ e S ⟨rfl,y5,rfl,hI⟩
  exact(b114_1_eq _ _ _ _ _ _ _ _).mpr (hr y5 S hI _ (fun y5' S' hI' hm=>⟨_,_,Wk.refl _ _,⟨rfl,_,rfl,hI'⟩,hm⟩))
def c113:Code:=(Tryz.f113.body).getD .skip
def r113:List ResultVar:=Tryz.f113.results.toList
def env113_0(y1 y2 y5:AV):List AV:=[y1,y2,y5]
def lv113_0:List Nat:=[1,2,5]
def ms113:List (List Nat):=[lv113_0,[]]
def m113(x0 x1:AV)(S:Store)(Q:PoT):Prop:=
 boxN 82 2 x0 S fun a S=>loopV lv113_0 (vc Pg (c113.at_ [1,0,1,0,0]) (ms113.drop 1)) 22 (env113_0 x1 a (.v (.int .i64 0))) S (blockK 0 (seqK (vc Pg (c113.at_ [1,1]) (ms113.drop 1)) (bodyK Pg r113 Q)))
theorem calls113{x0 x1:AV}{S:Store}{Q:PoT}(h:m113 x0 x1 S Q):ACalls Pg 113 [x0,x1] S Q:=
 calls_of_vc (fn:=Tryz.f113) (c:=c113) (n:=22) Tryz.func113 (by kernel_rfl) (by kernel_rfl) (by kernel_rfl) ms113 (Eq.mpr (by kernel_rfl) h)
def b113_0(y1 y2 y5:AV)(S:Store)(KE0:KeT)(Q:PoT):Prop:=
 lenS y1 S fun a S=>bin .lss 0 y5 a S fun c S=>onB c fun b=>gd b ((fun S0:Store=>∃ d:AV,(ldN 2 y2 S fun e S=>e=d∧S=S0)∧∃ f:AV,(ixS 3 1 y1 y5 S fun g S=>g=f∧S=S0)∧∃ h:AV,(ld1 f S fun i S=>i=h∧S=S0)∧∃ k:AV,(callF Pg 112 [d,h] S (fun _ _=>False) fun l S=>l=k∧S=S0)∧∃ m:AV,(un .not k S fun n S=>n=m∧S=S0)∧onB m fun b=>gd b (Q (.ret (.v (.bool false))) S) (bin .add 0 y5 (.v (.int .i64 1)) S fun o S=>KE0 22 (env113_0 y1 y2 o) S)) S) (lenS y1 S fun p S=>bin .leq 0 p (.v (.int .i64 2000)) S fun q S=>Q (.ret q) S)
theorem b113_0_eq(y1 y2 y5:AV)(S:Store)(KE0:KeT)(Q:PoT):vc Pg (c113.at_ [1,0,1,0,0]) (ms113.drop 1) (mkE 22 lv113_0 (env113_0 y1 y2 y5)) S (thenK (fgK lv113_0 KE0) (blockK 0 (seqK (vc Pg (c113.at_ [1,1]) (ms113.drop 1)) (bodyK Pg r113 Q))))=b113_0 y1 y2 y5 S KE0 Q:=by kernel_rfl
theorem loop113_0{y1 y2:AV}{y50:AV}{S:Store}{Q:PoT}(I:AV→Store→Prop)(μ:AV→Store→Nat)(h0:I y50 S)
    (hr:∀(y5:AV) (S:Store),I y5 S→∀ KE0:KeT,(∀(y5':AV) (S':Store),I y5' S'→μ y5' S'<μ y5 S→KE0 22 (env113_0 y1 y2 y5') S')→b113_0 y1 y2 y5 S KE0 Q):
    loopV lv113_0 (vc Pg (c113.at_ [1,0,1,0,0]) (ms113.drop 1)) 22 (env113_0 y1 y2 y50) S (blockK 0 (seqK (vc Pg (c113.at_ [1,1]) (ms113.drop 1)) (bodyK Pg r113 Q))):=by
 refine⟨fun n e S=>n=22∧∃ y5:AV,e=(env113_0 y1 y2 y5)∧I y5 S,fun _ e S=>μ (e.getD 2 .j) S,?_,?_⟩
 ·exact⟨_,_,Wk.refl _ _,rfl,_,rfl,h0⟩
 ·rintro _ e S ⟨rfl,y5,rfl,hI⟩
  exact(b113_0_eq _ _ _ _ _ _).mpr (hr y5 S hI _ (fun y5' S' hI' hm=>⟨_,_,Wk.refl _ _,⟨rfl,_,rfl,hI'⟩,hm⟩))
def c133:Code:=(Tryz.f133.body).getD .skip
def r133:List ResultVar:=Tryz.f133.results.toList
def env133_0(y1 y3 y4 y12 y13 y14:AV):List AV:=[y1,y3,y4,y12,y13,y14]
def lv133_0:List Nat:=[1,3,4,12,13,14]
def ms133:List (List Nat):=[lv133_0,[]]
def m133(x0:AV)(S:Store)(Q:PoT):Prop:=
 boxN 42 8 x0 S fun a S=>ldN 8 a S fun c S=>callF Pg 127 [c] S Q fun d S=>mkM .s S fun e S=>shift a 7 S fun f S=>ld1 f S fun g S=>lenS g S fun h S=>loopV lv133_0 (vc Pg (c133.at_ [1,1,1,0,1,0,0]) (ms133.drop 1)) 78 (env133_0 a d e g h (.v (.int .i64 0))) S (blockK 0 (seqK (vc Pg (c133.at_ [1,1,1,1]) (ms133.drop 1)) (bodyK Pg r133 Q)))
theorem calls133{x0:AV}{S:Store}{Q:PoT}(h:m133 x0 S Q):ACalls Pg 133 [x0] S Q:=
 calls_of_vc (fn:=Tryz.f133) (c:=c133) (n:=78) Tryz.func133 (by kernel_rfl) (by kernel_rfl) (by kernel_rfl) ms133 (Eq.mpr (by kernel_rfl) h)
def b133_0(y1 y3 y4 y12 y13 y14:AV)(S:Store)(KE0:KeT)(Q:PoT):Prop:=
 bin .lss 0 y14 y13 S fun c S=>onB c fun b=>gd b (ixS 130 3 y12 y14 S fun d S=>ldN 3 d S fun e S=>boxN 130 3 (.a [.v (.int .u8 0),.v (.int .i64 0),.v (.string ByteArray.empty)]) S fun f S=>stN 3 f e S fun g S=>shift f 2 S fun h S=>ld1 h S fun k S=>callF Pg 167 [k] S Q fun l S=>un .not l S fun m S=>onB m fun b=>gd b (Q (.ret (.v (.bool false))) S) (shift f 0 S fun n S=>ld1 n S fun o S=>callF Pg 168 [o] S Q fun p S=>bin .lss 0 p (.v (.int .i64 0)) S fun q S=>onB q fun b=>gd b (Q (.ret (.v (.bool false))) S) (shift f 1 S fun r S=>ld1 r S fun t S=>bin .lss 0 t (.v (.int .i64 0)) S fun u S=>onB u fun b=>gd b (Q (.ret (.v (.bool false))) S) (shift f 1 S fun w S=>ld1 w S fun x S=>shift f 0 S fun y S=>ld1 y S fun z S=>convI .i32 z S fun A S=>lkM (.i .i32) (.v (.int .i64 0)) false y3 A S fun B S=>bin .geq 0 x B S fun C S=>onB C fun b=>gd b (Q (.ret (.v (.bool false))) S) (shift f 2 S fun D S=>ld1 D S fun E S=>bld [] [] [] S fun F S=>updM .s y4 E F S fun G S=>bin .eql 0 y14 (.v (.int .i64 0)) S fun H S=>onB H fun b=>gd b (bin .add 0 y14 (.v (.int .i64 1)) S fun I S=>KE0 78 (env133_0 y1 y3 y4 y12 y13 I) S) (shift y1 7 S fun J S=>ld1 J S fun K S=>bin .sub 0 y14 (.v (.int .i64 1)) S fun L S=>ixS 130 3 K L S fun M S=>ldN 3 M S fun N S=>boxN 130 3 (.a [.v (.int .u8 0),.v (.int .i64 0),.v (.string ByteArray.empty)]) S fun O S=>stN 3 O N S fun P S=>(fun S0:Store=>∃ R:AV,(shift O 0 S fun T S=>T=R∧S=S0)∧∃ U:AV,(ld1 R S fun V S=>V=U∧S=S0)∧∃ W:AV,(callF Pg 168 [U] S (fun _ _=>False) fun X S=>X=W∧S=S0)∧∃ Y:AV,(shift f 0 S fun Z S=>Z=Y∧S=S0)∧∃ a0:AV,(ld1 Y S fun a1 S=>a1=a0∧S=S0)∧∃ a2:AV,(callF Pg 168 [a0] S (fun _ _=>False) fun a3 S=>a3=a2∧S=S0)∧∃ a4:AV,(callF Pg 170 [W,a2] S (fun _ _=>False) fun a5 S=>a5=a4∧S=S0)∧∃ a6:AV,(shift O 1 S fun a7 S=>a7=a6∧S=S0)∧∃ a8:AV,(ld1 a6 S fun a9 S=>a9=a8∧S=S0)∧∃ b0:AV,(shift f 1 S fun b1 S=>b1=b0∧S=S0)∧∃ b2:AV,(ld1 b0 S fun b3 S=>b3=b2∧S=S0)∧∃ b4:AV,(callF Pg 170 [a8,b2] S (fun _ _=>False) fun b5 S=>b5=b4∧S=S0)∧∃ b6:AV,(bslN 3 1 2 [.v (.int .i64 0)] [(0,a4),(1,b4)] S fun b7 S=>b7=b6∧S=S0)∧∃ b8:AV,(callF Pg 169 [b6] S (fun _ _=>False) fun c0 S=>c0=b8∧S=S0)∧∃ c1:AV,(bin .geq 0 b8 (.v (.int .i64 0)) S fun c2 S=>c2=c1∧S=S0)∧onB c1 fun b=>gd b (Q (.ret (.v (.bool false))) S) (bin .add 0 y14 (.v (.int .i64 1)) S fun c3 S=>KE0 78 (env133_0 y1 y3 y4 y12 y13 c3) S)) S)))))) (lenM y4 S fun c4 S=>shift y1 7 S fun c5 S=>ld1 c5 S fun c6 S=>lenS c6 S fun c7 S=>bin .eql 0 c4 c7 S fun c8 S=>Q (.ret c8) S)
theorem b133_0_eq(y1 y3 y4 y12 y13 y14:AV)(S:Store)(KE0:KeT)(Q:PoT):vc Pg (c133.at_ [1,1,1,0,1,0,0]) (ms133.drop 1) (mkE 78 lv133_0 (env133_0 y1 y3 y4 y12 y13 y14)) S (thenK (fgK lv133_0 KE0) (blockK 0 (seqK (vc Pg (c133.at_ [1,1,1,1]) (ms133.drop 1)) (bodyK Pg r133 Q))))=b133_0 y1 y3 y4 y12 y13 y14 S KE0 Q:=by kernel_rfl
theorem loop133_0{y1 y3 y4 y12 y13:AV}{y140:AV}{S:Store}{Q:PoT}(I:AV→Store→Prop)(μ:AV→Store→Nat)(h0:I y140 S)
    (hr:∀(y14:AV) (S:Store),I y14 S→∀ KE0:KeT,(∀(y14':AV) (S':Store),I y14' S'→μ y14' S'<μ y14 S→KE0 78 (env133_0 y1 y3 y4 y12 y13 y14') S')→b133_0 y1 y3 y4 y12 y13 y14 S KE0 Q):
    loopV lv133_0 (vc Pg (c133.at_ [1,1,1,0,1,0,0]) (ms133.drop 1)) 78 (env133_0 y1 y3 y4 y12 y13 y140) S (blockK 0 (seqK (vc Pg (c133.at_ [1,1,1,1]) (ms133.drop 1)) (bodyK Pg r133 Q))):=by
 refine⟨fun n e S=>n=78∧∃ y14:AV,e=(env133_0 y1 y3 y4 y12 y13 y14)∧I y14 S,fun _ e S=>μ (e.getD 5 .j) S,?_,?_⟩
 ·exact⟨_,_,Wk.refl _ _,rfl,_,rfl,h0⟩
 ·rintro _ e S ⟨rfl,y14,rfl,hI⟩
  exact(b133_0_eq _ _ _ _ _ _ _ _ _).mpr (hr y14 S hI _ (fun y14' S' hI' hm=>⟨_,_,Wk.refl _ _,⟨rfl,_,rfl,hI'⟩,hm⟩))
def c185:Code:=(Tryz.f185.body).getD .skip
def ms185:List (List Nat):=[[]]
def m185(x0:AV)(S:Store)(Q:PoT):Prop:=
 bin .neq 0 x0 x0 S fun a S=>Q (.ret a) S
theorem calls185{x0:AV}{S:Store}{Q:PoT}(h:m185 x0 S Q):ACalls Pg 185 [x0] S Q:=
 calls_of_vc (fn:=Tryz.f185) (c:=c185) (n:=6) Tryz.func185 (by kernel_rfl) (by kernel_rfl) (by kernel_rfl) ms185 (Eq.mpr (by kernel_rfl) h)
def c170:Code:=(Tryz.f170.body).getD .skip
def ms170:List (List Nat):=[[]]
def m170(x0 x1:AV)(S:Store)(Q:PoT):Prop:=
 callF Pg 185 [x0] S Q fun a S=>callF Pg 185 [x1] S Q fun c S=>onB a fun b=>gd b (onB c fun b=>gd b (Q (.ret (.v (.int .i64 0))) S) (Q (.ret (.v (.int .i64 (-1)))) S)) (onB c fun b=>gd b (Q (.ret (.v (.int .i64 1))) S) (bin .lss 0 x0 x1 S fun d S=>onB d fun b=>gd b (Q (.ret (.v (.int .i64 (-1)))) S) (bin .gtr 0 x0 x1 S fun e S=>onB e fun b=>gd b (Q (.ret (.v (.int .i64 1))) S) (Q (.ret (.v (.int .i64 0))) S))))
theorem calls170{x0 x1:AV}{S:Store}{Q:PoT}(h:m170 x0 x1 S Q):ACalls Pg 170 [x0,x1] S Q:=
 calls_of_vc (fn:=Tryz.f170) (c:=c170) (n:=20) Tryz.func170 (by kernel_rfl) (by kernel_rfl) (by kernel_rfl) ms170 (Eq.mpr (by kernel_rfl) h)
def c169:Code:=(Tryz.f169.body).getD .skip
def r169:List ResultVar:=Tryz.f169.results.toList
def env169_0(y3 y6 y7 y8:AV):List AV:=[y3,y6,y7,y8]
def lv169_0:List Nat:=[3,6,7,8]
def ms169:List (List Nat):=[lv169_0,[]]
def m169(x0:AV)(S:Store)(Q:PoT):Prop:=
 lenS x0 S fun a S=>loopV lv169_0 (vc Pg (c169.at_ [1,1,0,1,0,0]) (ms169.drop 1)) 18 (env169_0 (.v (.int .i64 0)) x0 a (.v (.int .i64 0))) S (blockK 0 (seqK (vc Pg (c169.at_ [1,1,1]) (ms169.drop 1)) (bodyK Pg r169 Q)))
theorem calls169{x0:AV}{S:Store}{Q:PoT}(h:m169 x0 S Q):ACalls Pg 169 [x0] S Q:=
 calls_of_vc (fn:=Tryz.f169) (c:=c169) (n:=18) Tryz.func169 (by kernel_rfl) (by kernel_rfl) (by kernel_rfl) ms169 (Eq.mpr (by kernel_rfl) h)
def b169_0(y3 y6 y7 y8:AV)(S:Store)(KE0:KeT)(Q:PoT):Prop:=
 bin .lss 0 y8 y7 S fun a S=>onB a fun b=>gd b (ixS 3 1 y6 y8 S fun c S=>ld1 c S fun d S=>bin .neq 0 d y3 S fun e S=>onB e fun b=>gd b (Q (.ret d) S) (bin .add 0 y8 (.v (.int .i64 1)) S fun f S=>KE0 18 (env169_0 y3 y6 y7 f) S)) (Q (.ret y3) S)
theorem b169_0_eq(y3 y6 y7 y8:AV)(S:Store)(KE0:KeT)(Q:PoT):vc Pg (c169.at_ [1,1,0,1,0,0]) (ms169.drop 1) (mkE 18 lv169_0 (env169_0 y3 y6 y7 y8)) S (thenK (fgK lv169_0 KE0) (blockK 0 (seqK (vc Pg (c169.at_ [1,1,1]) (ms169.drop 1)) (bodyK Pg r169 Q))))=b169_0 y3 y6 y7 y8 S KE0 Q:=by kernel_rfl
theorem loop169_0{y3 y6 y7:AV}{y80:AV}{S:Store}{Q:PoT}(I:AV→Store→Prop)(μ:AV→Store→Nat)(h0:I y80 S)
    (hr:∀(y8:AV) (S:Store),I y8 S→∀ KE0:KeT,(∀(y8':AV) (S':Store),I y8' S'→μ y8' S'<μ y8 S→KE0 18 (env169_0 y3 y6 y7 y8') S')→b169_0 y3 y6 y7 y8 S KE0 Q):
    loopV lv169_0 (vc Pg (c169.at_ [1,1,0,1,0,0]) (ms169.drop 1)) 18 (env169_0 y3 y6 y7 y80) S (blockK 0 (seqK (vc Pg (c169.at_ [1,1,1]) (ms169.drop 1)) (bodyK Pg r169 Q))):=by
 refine⟨fun n e S=>n=18∧∃ y8:AV,e=(env169_0 y3 y6 y7 y8)∧I y8 S,fun _ e S=>μ (e.getD 3 .j) S,?_,?_⟩
 ·exact⟨_,_,Wk.refl _ _,rfl,_,rfl,h0⟩
 ·rintro _ e S ⟨rfl,y8,rfl,hI⟩
  exact(b169_0_eq _ _ _ _ _ _ _).mpr (hr y8 S hI _ (fun y8' S' hI' hm=>⟨_,_,Wk.refl _ _,⟨rfl,_,rfl,hI'⟩,hm⟩))
def c84:Code:=(Tryz.f84.body).getD .skip
def ms84:List (List Nat):=[[]]
def m84(x0:AV)(S:Store)(Q:PoT):Prop:=
 boxN 42 8 x0 S fun c S=>boxN 82 2 (.a [.v (.int .i64 0),.nl]) S fun d S=>shift c 0 S fun e S=>ld1 e S fun f S=>shift c 1 S fun g S=>ld1 g S fun h S=>lenS h S fun i S=>bin .add 0 f i S fun k S=>shift c 2 S fun l S=>ld1 l S fun m S=>bld [(0,1),(1,1)] [.v (.int .i64 0),.nl] [(0,k),(1,m)] S fun n S=>stN 2 d n S fun o S=>ldN 2 d S fun p _=>Q (.ret p) S
theorem calls84{x0:AV}{S:Store}{Q:PoT}(h:m84 x0 S Q):ACalls Pg 84 [x0] S Q:=
 calls_of_vc (fn:=Tryz.f84) (c:=c84) (n:=12) Tryz.func84 (by kernel_rfl) (by kernel_rfl) (by kernel_rfl) ms84 (Eq.mpr (by kernel_rfl) h)
def c41:Code:=(Tryz.f41.body).getD .skip
def ms41:List (List Nat):=[[]]
def m41(x0:AV)(S:Store)(Q:PoT):Prop:=
 boxN 42 8 x0 S fun c S=>boxN 82 2 (.a [.v (.int .i64 0),.nl]) S fun d S=>shift c 0 S fun e S=>ld1 e S fun f S=>shift c 1 S fun g S=>ld1 g S fun h S=>lenS h S fun i S=>bin .add 0 f i S fun k S=>shift c 2 S fun l S=>ld1 l S fun m S=>bld [(0,1),(1,1)] [.v (.int .i64 0),.nl] [(0,k),(1,m)] S fun n S=>stN 2 d n S fun o S=>ldN 2 d S fun p _=>Q (.ret p) S
theorem calls41{x0:AV}{S:Store}{Q:PoT}(h:m41 x0 S Q):ACalls Pg 41 [x0] S Q:=
 calls_of_vc (fn:=Tryz.f41) (c:=c41) (n:=12) Tryz.func41 (by kernel_rfl) (by kernel_rfl) (by kernel_rfl) ms41 (Eq.mpr (by kernel_rfl) h)
def c127:Code:=(Tryz.f127.body).getD .skip
def ms127:List (List Nat):=[[]]
def m127(x0:AV)(S:Store)(Q:PoT):Prop:=
 boxN 42 8 x0 S fun a S=>mkM (.i .i32) S fun c S=>shift a 0 S fun d S=>ld1 d S fun e S=>updM (.i .i32) c (.v (.int .i32 105)) e S fun f S=>shift a 1 S fun g S=>ld1 g S fun h S=>lenS h S fun k S=>updM (.i .i32) c (.v (.int .i32 108)) k S fun l S=>shift a 3 S fun m S=>ld1 m S fun n S=>lenS n S fun o S=>updM (.i .i32) c (.v (.int .i32 111)) o S fun p S=>shift a 4 S fun q S=>ld1 q S fun r S=>lenS r S fun s S=>updM (.i .i32) c (.v (.int .i32 98)) s S fun t S=>shift a 5 S fun u S=>ld1 u S fun w S=>lenS w S fun x S=>updM (.i .i32) c (.v (.int .i32 99)) x S fun y S=>shift a 6 S fun z S=>ld1 z S fun A S=>lenS A S fun B S=>updM (.i .i32) c (.v (.int .i32 102)) B S fun C S=>Q (.ret c) S
theorem calls127{x0:AV}{S:Store}{Q:PoT}(h:m127 x0 S Q):ACalls Pg 127 [x0] S Q:=
 calls_of_vc (fn:=Tryz.f127) (c:=c127) (n:=22) Tryz.func127 (by kernel_rfl) (by kernel_rfl) (by kernel_rfl) ms127 (Eq.mpr (by kernel_rfl) h)
def c150:Code:=(Tryz.f150.body).getD .skip
def ms150:List (List Nat):=[[]]
def m150(x0 x1:AV)(S:Store)(Q:PoT):Prop:=
 boxN 42 8 x0 S fun a S=>callF Pg 151 [x1] S Q fun c S=>bin .lss 0 c (.v (.int .i64 0)) S fun d S=>onB d fun b=>gd b (Q (.ret (.v (.int .i64 0))) S) (shift a 0 S fun e S=>ld1 e S fun f S=>shift a 1 S fun g S=>ld1 g S fun h S=>lenS h S fun i S=>shift a 3 S fun k S=>ld1 k S fun l S=>lenS l S fun m S=>shift a 4 S fun n S=>ld1 n S fun o S=>lenS o S fun p S=>shift a 5 S fun q S=>ld1 q S fun r S=>lenS r S fun s S=>shift a 6 S fun t S=>ld1 t S fun u S=>lenS u S fun w S=>bslN 3 1 6 [.v (.int .i64 0)] [(0,f),(1,i),(2,m),(3,p),(4,s),(5,w)] S fun x S=>ixS 3 1 x c S fun y S=>ld1 y S fun z S=>Q (.ret z) S)
theorem calls150{x0 x1:AV}{S:Store}{Q:PoT}(h:m150 x0 x1 S Q):ACalls Pg 150 [x0,x1] S Q:=
 calls_of_vc (fn:=Tryz.f150) (c:=c150) (n:=31) Tryz.func150 (by kernel_rfl) (by kernel_rfl) (by kernel_rfl) ms150 (Eq.mpr (by kernel_rfl) h)
def c149:Code:=(Tryz.f149.body).getD .skip
def r149:List ResultVar:=Tryz.f149.results.toList
def env149_0(y0 y3:AV):List AV:=[y0,y3]
def lv149_0:List Nat:=[0,3]
def ms149:List (List Nat):=[lv149_0,[]]
def m149(x0:AV)(S:Store)(Q:PoT):Prop:=
 loopV lv149_0 (vc Pg (c149.at_ [1,0,1,0,0]) (ms149.drop 1)) 28 (env149_0 x0 (.v (.int .i64 0))) S (blockK 0 (seqK (vc Pg (c149.at_ [1,1]) (ms149.drop 1)) (bodyK Pg r149 Q)))
theorem calls149{x0:AV}{S:Store}{Q:PoT}(h:m149 x0 S Q):ACalls Pg 149 [x0] S Q:=
 calls_of_vc (fn:=Tryz.f149) (c:=c149) (n:=28) Tryz.func149 (by kernel_rfl) (by kernel_rfl) (by kernel_rfl) ms149 (Eq.mpr (by kernel_rfl) h)
def b149_0(y0 y3:AV)(S:Store)(KE0:KeT)(Q:PoT):Prop:=
 lenStr y0 S fun a S=>bin .lss 0 y3 a S fun c S=>onB c fun b=>gd b (ixStr y0 y3 S fun d S=>bin .lss 0 d (.v (.int .u8 33)) S fun e S=>onB e fun b=>gd b (Q (.ret (.v (.bool false))) S) (ixStr y0 y3 S fun f S=>bin .gtr 0 f (.v (.int .u8 126)) S fun g S=>onB g fun b=>gd b (Q (.ret (.v (.bool false))) S) (bin .add 0 y3 (.v (.int .i64 1)) S fun h S=>KE0 28 (env149_0 y0 h) S))) (lenStr y0 S fun i S=>bin .gtr 0 i (.v (.int .i64 0)) S fun k S=>onB k fun b=>gd b (lenStr y0 S fun l S=>bin .leq 0 l (.v (.int .i64 20)) S fun m S=>Q (.ret m) S) (Q (.ret (.v (.bool false))) S))
theorem b149_0_eq(y0 y3:AV)(S:Store)(KE0:KeT)(Q:PoT):vc Pg (c149.at_ [1,0,1,0,0]) (ms149.drop 1) (mkE 28 lv149_0 (env149_0 y0 y3)) S (thenK (fgK lv149_0 KE0) (blockK 0 (seqK (vc Pg (c149.at_ [1,1]) (ms149.drop 1)) (bodyK Pg r149 Q))))=b149_0 y0 y3 S KE0 Q:=by kernel_rfl
theorem loop149_0{y0:AV}{y30:AV}{S:Store}{Q:PoT}(I:AV→Store→Prop)(μ:AV→Store→Nat)(h0:I y30 S)
    (hr:∀(y3:AV) (S:Store),I y3 S→∀ KE0:KeT,(∀(y3':AV) (S':Store),I y3' S'→μ y3' S'<μ y3 S→KE0 28 (env149_0 y0 y3') S')→b149_0 y0 y3 S KE0 Q):
    loopV lv149_0 (vc Pg (c149.at_ [1,0,1,0,0]) (ms149.drop 1)) 28 (env149_0 y0 y30) S (blockK 0 (seqK (vc Pg (c149.at_ [1,1]) (ms149.drop 1)) (bodyK Pg r149 Q))):=by
 refine⟨fun n e S=>n=28∧∃ y3:AV,e=(env149_0 y0 y3)∧I y3 S,fun _ e S=>μ (e.getD 1 .j) S,?_,?_⟩
 ·exact⟨_,_,Wk.refl _ _,rfl,_,rfl,h0⟩
 ·rintro _ e S ⟨rfl,y3,rfl,hI⟩
  exact(b149_0_eq _ _ _ _ _).mpr (hr y3 S hI _ (fun y3' S' hI' hm=>⟨_,_,Wk.refl _ _,⟨rfl,_,rfl,hI'⟩,hm⟩))
def c167:Code:=(Tryz.f167.body).getD .skip
def r167:List ResultVar:=Tryz.f167.results.toList
def env167_0(y0 y5 y6:AV):List AV:=[y0,y5,y6]
def lv167_0:List Nat:=[0,5,6]
def ms167:List (List Nat):=[lv167_0,[]]
def m167(x0:AV)(S:Store)(Q:PoT):Prop:=
 lenStr x0 S fun a S=>loopV lv167_0 (vc Pg (c167.at_ [1,0,1,0,0]) (ms167.drop 1)) 27 (env167_0 x0 a (.v (.int .i64 0))) S (blockK 0 (seqK (vc Pg (c167.at_ [1,1]) (ms167.drop 1)) (bodyK Pg r167 Q)))
theorem calls167{x0:AV}{S:Store}{Q:PoT}(h:m167 x0 S Q):ACalls Pg 167 [x0] S Q:=
 calls_of_vc (fn:=Tryz.f167) (c:=c167) (n:=27) Tryz.func167 (by kernel_rfl) (by kernel_rfl) (by kernel_rfl) ms167 (Eq.mpr (by kernel_rfl) h)
def b167_0(y0 y5 y6:AV)(S:Store)(KE0:KeT)(Q:PoT):Prop:=
 bin .lss 0 y6 y5 S fun a S=>onB a fun b=>gd b (ixStr y0 y6 S fun c S=>bin .leq 0 c (.v (.int .u8 32)) S fun d S=>onB d fun b=>gd b (Q (.ret (.v (.bool false))) S) (ixStr y0 y6 S fun e S=>bin .gtr 0 e (.v (.int .u8 126)) S fun f S=>onB f fun b=>gd b (Q (.ret (.v (.bool false))) S) (bin .add 0 y6 (.v (.int .i64 1)) S fun g S=>KE0 27 (env167_0 y0 y5 g) S))) (bin .neq 0 y0 (.v (.string { data:=#[] })) S fun h S=>onB h fun b=>gd b (lenStr y0 S fun i S=>bin .leq 0 i (.v (.int .i64 20)) S fun k S=>Q (.ret k) S) (Q (.ret (.v (.bool false))) S))
theorem b167_0_eq(y0 y5 y6:AV)(S:Store)(KE0:KeT)(Q:PoT):vc Pg (c167.at_ [1,0,1,0,0]) (ms167.drop 1) (mkE 27 lv167_0 (env167_0 y0 y5 y6)) S (thenK (fgK lv167_0 KE0) (blockK 0 (seqK (vc Pg (c167.at_ [1,1]) (ms167.drop 1)) (bodyK Pg r167 Q))))=b167_0 y0 y5 y6 S KE0 Q:=by kernel_rfl
theorem loop167_0{y0 y5:AV}{y60:AV}{S:Store}{Q:PoT}(I:AV→Store→Prop)(μ:AV→Store→Nat)(h0:I y60 S)
    (hr:∀(y6:AV) (S:Store),I y6 S→∀ KE0:KeT,(∀(y6':AV) (S':Store),I y6' S'→μ y6' S'<μ y6 S→KE0 27 (env167_0 y0 y5 y6') S')→b167_0 y0 y5 y6 S KE0 Q):
    loopV lv167_0 (vc Pg (c167.at_ [1,0,1,0,0]) (ms167.drop 1)) 27 (env167_0 y0 y5 y60) S (blockK 0 (seqK (vc Pg (c167.at_ [1,1]) (ms167.drop 1)) (bodyK Pg r167 Q))):=by
 refine⟨fun n e S=>n=27∧∃ y6:AV,e=(env167_0 y0 y5 y6)∧I y6 S,fun _ e S=>μ (e.getD 2 .j) S,?_,?_⟩
 ·exact⟨_,_,Wk.refl _ _,rfl,_,rfl,h0⟩
 ·rintro _ e S ⟨rfl,y6,rfl,hI⟩
  exact(b167_0_eq _ _ _ _ _ _).mpr (hr y6 S hI _ (fun y6' S' hI' hm=>⟨_,_,Wk.refl _ _,⟨rfl,_,rfl,hI'⟩,hm⟩))
def c151:Code:=(Tryz.f151.body).getD .skip
def r151:List ResultVar:=Tryz.f151.results.toList
def env151_0(y0 y3 y4:AV):List AV:=[y0,y3,y4]
def lv151_0:List Nat:=[0,3,4]
def ms151:List (List Nat):=[lv151_0,[]]
def m151(x0:AV)(S:Store)(Q:PoT):Prop:=
 loopV lv151_0 (vc Pg (c151.at_ [1,1,0,1,0,0]) (ms151.drop 1)) 17 (env151_0 x0 (.v (.string { data:=#[105,108,111,98,99,102] })) (.v (.int .i64 0))) S (blockK 0 (seqK (vc Pg (c151.at_ [1,1,1]) (ms151.drop 1)) (bodyK Pg r151 Q)))
theorem calls151{x0:AV}{S:Store}{Q:PoT}(h:m151 x0 S Q):ACalls Pg 151 [x0] S Q:=
 calls_of_vc (fn:=Tryz.f151) (c:=c151) (n:=17) Tryz.func151 (by kernel_rfl) (by kernel_rfl) (by kernel_rfl) ms151 (Eq.mpr (by kernel_rfl) h)
def b151_0(y0 y3 y4:AV)(S:Store)(KE0:KeT)(Q:PoT):Prop:=
 lenStr y3 S fun a S=>bin .lss 0 y4 a S fun c S=>onB c fun b=>gd b (ixStr y3 y4 S fun d S=>bin .eql 0 d y0 S fun e S=>onB e fun b=>gd b (Q (.ret y4) S) (bin .add 0 y4 (.v (.int .i64 1)) S fun f S=>KE0 17 (env151_0 y0 y3 f) S)) (Q (.ret (.v (.int .i64 (-1)))) S)
theorem b151_0_eq(y0 y3 y4:AV)(S:Store)(KE0:KeT)(Q:PoT):vc Pg (c151.at_ [1,1,0,1,0,0]) (ms151.drop 1) (mkE 17 lv151_0 (env151_0 y0 y3 y4)) S (thenK (fgK lv151_0 KE0) (blockK 0 (seqK (vc Pg (c151.at_ [1,1,1]) (ms151.drop 1)) (bodyK Pg r151 Q))))=b151_0 y0 y3 y4 S KE0 Q:=by kernel_rfl
theorem loop151_0{y0 y3:AV}{y40:AV}{S:Store}{Q:PoT}(I:AV→Store→Prop)(μ:AV→Store→Nat)(h0:I y40 S)
    (hr:∀(y4:AV) (S:Store),I y4 S→∀ KE0:KeT,(∀(y4':AV) (S':Store),I y4' S'→μ y4' S'<μ y4 S→KE0 17 (env151_0 y0 y3 y4') S')→b151_0 y0 y3 y4 S KE0 Q):
    loopV lv151_0 (vc Pg (c151.at_ [1,1,0,1,0,0]) (ms151.drop 1)) 17 (env151_0 y0 y3 y40) S (blockK 0 (seqK (vc Pg (c151.at_ [1,1,1]) (ms151.drop 1)) (bodyK Pg r151 Q))):=by
 refine⟨fun n e S=>n=17∧∃ y4:AV,e=(env151_0 y0 y3 y4)∧I y4 S,fun _ e S=>μ (e.getD 2 .j) S,?_,?_⟩
 ·exact⟨_,_,Wk.refl _ _,rfl,_,rfl,h0⟩
 ·rintro _ e S ⟨rfl,y4,rfl,hI⟩
  exact(b151_0_eq _ _ _ _ _ _).mpr (hr y4 S hI _ (fun y4' S' hI' hm=>⟨_,_,Wk.refl _ _,⟨rfl,_,rfl,hI'⟩,hm⟩))
def c168:Code:=(Tryz.f168.body).getD .skip
def r168:List ResultVar:=Tryz.f168.results.toList
def env168_0(y0 y5:AV):List AV:=[y0,y5]
def lv168_0:List Nat:=[0,5]
def ms168:List (List Nat):=[lv168_0,[]]
def m168(x0:AV)(S:Store)(Q:PoT):Prop:=
 rngS (.v (.string { data:=#[105,108,111,98,99,102] })) S fun a S=>loopV lv168_0 (vc Pg (c168.at_ [1,0,1,0,0]) (ms168.drop 1)) 15 (env168_0 x0 a) S (blockK 0 (seqK (vc Pg (c168.at_ [1,1]) (ms168.drop 1)) (bodyK Pg r168 Q)))
theorem calls168{x0:AV}{S:Store}{Q:PoT}(h:m168 x0 S Q):ACalls Pg 168 [x0] S Q:=
 calls_of_vc (fn:=Tryz.f168) (c:=c168) (n:=15) Tryz.func168 (by kernel_rfl) (by kernel_rfl) (by kernel_rfl) ms168 (Eq.mpr (by kernel_rfl) h)
def b168_0(y0 y5:AV)(S:Store)(KE0:KeT)(Q:PoT):Prop:=
 nextM true y5 S fun a S=>extr a 0 S fun c S=>onB c fun b=>gd b (extr a 1 S fun d S=>extr a 2 S fun e S=>convI .i32 y0 S fun f S=>bin .eql 0 f e S fun g S=>onB g fun b=>gd b (Q (.ret d) S) (KE0 15 (env168_0 y0 y5) S)) (Q (.ret (.v (.int .i64 (-1)))) S)
theorem b168_0_eq(y0 y5:AV)(S:Store)(KE0:KeT)(Q:PoT):vc Pg (c168.at_ [1,0,1,0,0]) (ms168.drop 1) (mkE 15 lv168_0 (env168_0 y0 y5)) S (thenK (fgK lv168_0 KE0) (blockK 0 (seqK (vc Pg (c168.at_ [1,1]) (ms168.drop 1)) (bodyK Pg r168 Q))))=b168_0 y0 y5 S KE0 Q:=by kernel_rfl
theorem loop168_0{y0 y5:AV}{S:Store}{Q:PoT}(I:Store→Prop)(μ:Store→Nat)(h0:I  S)
    (hr:∀(S:Store),I  S→∀ KE0:KeT,(∀(S':Store),I  S'→μ  S'<μ  S→KE0 15 (env168_0 y0 y5) S')→b168_0 y0 y5 S KE0 Q):
    loopV lv168_0 (vc Pg (c168.at_ [1,0,1,0,0]) (ms168.drop 1)) 15 (env168_0 y0 y5) S (blockK 0 (seqK (vc Pg (c168.at_ [1,1]) (ms168.drop 1)) (bodyK Pg r168 Q))):=by
 refine⟨fun n e S=>n=15∧e=(env168_0 y0 y5)∧I  S,fun _ e S=>μ  S,?_,?_⟩
 ·exact⟨_,_,Wk.refl _ _,rfl,rfl,h0⟩
 ·rintro _ e S ⟨rfl,rfl,hI⟩
  exact(b168_0_eq _ _ _ _ _).mpr (hr  S hI _ (fun  S' hI' hm=>⟨_,_,Wk.refl _ _,⟨rfl,rfl,hI'⟩,hm⟩))
def c40:Code:=(Tryz.f40.body).getD .skip
def ms40:List (List Nat):=[[]]
def m40(x0:AV)(S:Store)(Q:PoT):Prop:=
 boxN 82 2 x0 S fun a S=>shift a 0 S fun c S=>ld1 c S fun d S=>bin .add 0 d (.v (.int .i64 1)) S fun e S=>shift a 1 S fun f S=>ld1 f S fun g S=>lenS g S fun h S=>bin .add 0 e h S fun i S=>Q (.ret i) S
theorem calls40{x0:AV}{S:Store}{Q:PoT}(h:m40 x0 S Q):ACalls Pg 40 [x0] S Q:=
 calls_of_vc (fn:=Tryz.f40) (c:=c40) (n:=10) Tryz.func40 (by kernel_rfl) (by kernel_rfl) (by kernel_rfl) ms40 (Eq.mpr (by kernel_rfl) h)
def c112:Code:=(Tryz.f112.body).getD .skip
def ms112:List (List Nat):=[[]]
def m112(x0 x1:AV)(S:Store)(Q:PoT):Prop:=
 boxN 82 2 x0 S fun a S=>shift a 0 S fun c S=>ld1 c S fun d S=>bin .geq 0 d (.v (.int .i64 0)) S fun e S=>onB e fun b=>gd b (shift a 0 S fun f S=>ld1 f S fun g S=>bin .leq 0 g (.v (.int .i64 2000)) S fun h S=>onB h fun b=>gd b (bin .geq 0 x1 (.v (.int .i64 0)) S fun i S=>onB i fun b=>gd b (bin .quo 0 x1 (.v (.int .i64 2)) S fun k S=>ldN 2 a S fun l S=>callF Pg 40 [l] S Q fun m S=>bin .lss 0 k m S fun n S=>Q (.ret n) S) (Q (.ret (.v (.bool false))) S)) (Q (.ret (.v (.bool false))) S)) (Q (.ret (.v (.bool false))) S)
theorem calls112{x0 x1:AV}{S:Store}{Q:PoT}(h:m112 x0 x1 S Q):ACalls Pg 112 [x0,x1] S Q:=
 calls_of_vc (fn:=Tryz.f112) (c:=c112) (n:=24) Tryz.func112 (by kernel_rfl) (by kernel_rfl) (by kernel_rfl) ms112 (Eq.mpr (by kernel_rfl) h)
def c111:Code:=(Tryz.f111.body).getD .skip
def r111:List ResultVar:=Tryz.f111.results.toList
def env111_0(y1 y3:AV):List AV:=[y1,y3]
def lv111_0:List Nat:=[1,3]
def env111_1(y1 y3 y6:AV):List AV:=[y1,y3,y6]
def lv111_1:List Nat:=[1,3,6]
def ms111:List (List Nat):=[lv111_0,lv111_1,[]]
def m111(x0:AV)(S:Store)(Q:PoT):Prop:=
 boxN 82 2 x0 S fun a S=>shift a 0 S fun c S=>ld1 c S fun d S=>bin .lss 0 d (.v (.int .i64 0)) S fun e S=>onB e fun b=>gd b (Q (.ret (.v (.bool false))) S) (shift a 0 S fun f S=>ld1 f S fun g S=>bin .gtr 0 g (.v (.int .i64 2000)) S fun h S=>onB h fun b=>gd b (Q (.ret (.v (.bool false))) S) (shift a 1 S fun i S=>ld1 i S fun k S=>lenS k S fun l S=>bin .gtr 0 l (.v (.int .i64 2000)) S fun m S=>onB m fun b=>gd b (Q (.ret (.v (.bool false))) S) (ldN 2 a S fun n S=>callF Pg 40 [n] S Q fun o S=>bin .gtr 0 o (.v (.int .i64 2000)) S fun p S=>onB p fun b=>gd b (Q (.ret (.v (.bool false))) S) (loopV lv111_0 (vc Pg (c111.at_ [1,1,0,1,0,0]) (ms111.drop 1)) 80 (env111_0 a (.v (.int .i64 0))) S (blockK 0 (seqK (vc Pg (c111.at_ [1,1,1]) (ms111.drop 2)) (bodyK Pg r111 Q)))))))
theorem calls111{x0:AV}{S:Store}{Q:PoT}(h:m111 x0 S Q):ACalls Pg 111 [x0] S Q:=
 calls_of_vc (fn:=Tryz.f111) (c:=c111) (n:=80) Tryz.func111 (by kernel_rfl) (by kernel_rfl) (by kernel_rfl) ms111 (Eq.mpr (by kernel_rfl) h)
def b111_0(y1 y3:AV)(S:Store)(KE0:KeT)(Q:PoT):Prop:=
 shift y1 1 S fun a S=>ld1 a S fun c S=>lenS c S fun d S=>bin .lss 0 y3 d S fun e S=>onB e fun b=>gd b ((fun S0:Store=>∃ f:AV,(shift y1 1 S fun g S=>g=f∧S=S0)∧∃ h:AV,(ld1 f S fun i S=>i=h∧S=S0)∧∃ k:AV,(ixS 124 2 h y3 S fun l S=>l=k∧S=S0)∧∃ m:AV,(ixA 2 1 k (.v (.int .i64 0)) S fun n S=>n=m∧S=S0)∧∃ o:AV,(ld1 m S fun p S=>p=o∧S=S0)∧∃ q:AV,(shift y1 1 S fun r S=>r=q∧S=S0)∧∃ s:AV,(ld1 q S fun t S=>t=s∧S=S0)∧∃ u:AV,(ixS 124 2 s y3 S fun w S=>w=u∧S=S0)∧∃ x:AV,(ixA 2 1 u (.v (.int .i64 1)) S fun y S=>y=x∧S=S0)∧∃ z:AV,(ld1 x S fun A S=>A=z∧S=S0)∧bin .lss 0 z (.v (.int .i64 2)) S fun B S=>onB B fun b=>gd b (Q (.ret (.v (.bool false))) S) (bin .quo 0 o (.v (.int .i64 2)) S fun C S=>bin .quo 0 z (.v (.int .i64 2)) S fun D S=>bin .leq 0 C D S fun E S=>onB E fun b=>gd b (Q (.ret (.v (.bool false))) S) (bin .quo 0 o (.v (.int .i64 2)) S fun F S=>shift y1 0 S fun G S=>ld1 G S fun H S=>bin .add 0 H (.v (.int .i64 1)) S fun I S=>bin .add 0 I y3 S fun J S=>bin .geq 0 F J S fun K S=>onB K fun b=>gd b (Q (.ret (.v (.bool false))) S) (loopV lv111_1 (vc Pg (c111.at_ [1,1,0,1,0,0,1,0,0,1,1,1,0,0]) (ms111.drop 2)) 80 (env111_1 y1 y3 (.v (.int .i64 0))) S (blockK 2 (blockK 1 (seqK (vc Pg (c111.at_ [1,1,0,1,0,0,1,1]) (ms111.drop 2)) (thenK (fgK lv111_0 KE0) (blockK 0 (seqK (vc Pg (c111.at_ [1,1,1]) (ms111.drop 2)) (bodyK Pg r111 Q))))))))))) S) (Q (.ret (.v (.bool true))) S)
theorem b111_0_eq(y1 y3:AV)(S:Store)(KE0:KeT)(Q:PoT):vc Pg (c111.at_ [1,1,0,1,0,0]) (ms111.drop 1) (mkE 80 lv111_0 (env111_0 y1 y3)) S (thenK (fgK lv111_0 KE0) (blockK 0 (seqK (vc Pg (c111.at_ [1,1,1]) (ms111.drop 2)) (bodyK Pg r111 Q))))=b111_0 y1 y3 S KE0 Q:=by kernel_rfl
theorem loop111_0{y1:AV}{y30:AV}{S:Store}{Q:PoT}(I:AV→Store→Prop)(μ:AV→Store→Nat)(h0:I y30 S)
    (hr:∀(y3:AV) (S:Store),I y3 S→∀ KE0:KeT,(∀(y3':AV) (S':Store),I y3' S'→μ y3' S'<μ y3 S→KE0 80 (env111_0 y1 y3') S')→b111_0 y1 y3 S KE0 Q):
    loopV lv111_0 (vc Pg (c111.at_ [1,1,0,1,0,0]) (ms111.drop 1)) 80 (env111_0 y1 y30) S (blockK 0 (seqK (vc Pg (c111.at_ [1,1,1]) (ms111.drop 2)) (bodyK Pg r111 Q))):=by
 refine⟨fun n e S=>n=80∧∃ y3:AV,e=(env111_0 y1 y3)∧I y3 S,fun _ e S=>μ (e.getD 1 .j) S,?_,?_⟩
 ·exact⟨_,_,Wk.refl _ _,rfl,_,rfl,h0⟩
 ·rintro _ e S ⟨rfl,y3,rfl,hI⟩
  exact(b111_0_eq _ _ _ _ _).mpr (hr y3 S hI _ (fun y3' S' hI' hm=>⟨_,_,Wk.refl _ _,⟨rfl,_,rfl,hI'⟩,hm⟩))
def b111_1(y1 y3 y6:AV)(S:Store)(KE1:KeT)(KE0:KeT)(Q:PoT):Prop:=
 bin .lss 0 y6 y3 S fun a S=>onB a fun b=>gd b ((fun S0:Store=>∃ c:AV,(shift y1 1 S fun d S=>d=c∧S=S0)∧∃ e:AV,(ld1 c S fun f S=>f=e∧S=S0)∧∃ g:AV,(ixS 124 2 e y6 S fun h S=>h=g∧S=S0)∧∃ i:AV,(ldN 2 g S fun k S=>k=i∧S=S0)∧∃ l:AV,(shift y1 1 S fun m S=>m=l∧S=S0)∧∃ n:AV,(ld1 l S fun o S=>o=n∧S=S0)∧∃ p:AV,(ixS 124 2 n y3 S fun q S=>q=p∧S=S0)∧∃ r:AV,(ldN 2 p S fun s S=>s=r∧S=S0)∧∃ t:AV,(binP .i64 .eql i r S fun u S=>u=t∧S=S0)∧onB t fun b=>gd b (Q (.ret (.v (.bool false))) S) (bin .add 0 y6 (.v (.int .i64 1)) S fun w S=>KE1 80 (env111_1 y1 y3 w) S)) S) (bin .add 0 y3 (.v (.int .i64 1)) S fun x S=>KE0 80 (env111_0 y1 x) S)
theorem b111_1_eq(y1 y3 y6:AV)(S:Store)(KE1:KeT)(KE0:KeT)(Q:PoT):vc Pg (c111.at_ [1,1,0,1,0,0,1,0,0,1,1,1,0,0]) (ms111.drop 2) (mkE 80 lv111_1 (env111_1 y1 y3 y6)) S (thenK (fgK lv111_1 KE1) (blockK 2 (blockK 1 (seqK (vc Pg (c111.at_ [1,1,0,1,0,0,1,1]) (ms111.drop 2)) (thenK (fgK lv111_0 KE0) (blockK 0 (seqK (vc Pg (c111.at_ [1,1,1]) (ms111.drop 2)) (bodyK Pg r111 Q))))))))=b111_1 y1 y3 y6 S KE1 KE0 Q:=by kernel_rfl
theorem loop111_1{y1 y3:AV}{y60:AV}{S:Store}{KE0:KeT}{Q:PoT}(I:AV→Store→Prop)(μ:AV→Store→Nat)(h0:I y60 S)
    (hr:∀(y6:AV) (S:Store),I y6 S→∀ KE1:KeT,(∀(y6':AV) (S':Store),I y6' S'→μ y6' S'<μ y6 S→KE1 80 (env111_1 y1 y3 y6') S')→b111_1 y1 y3 y6 S KE1 KE0 Q):
    loopV lv111_1 (vc Pg (c111.at_ [1,1,0,1,0,0,1,0,0,1,1,1,0,0]) (ms111.drop 2)) 80 (env111_1 y1 y3 y60) S (blockK 2 (blockK 1 (seqK (vc Pg (c111.at_ [1,1,0,1,0,0,1,1]) (ms111.drop 2)) (thenK (fgK lv111_0 KE0) (blockK 0 (seqK (vc Pg (c111.at_ [1,1,1]) (ms111.drop 2)) (bodyK Pg r111 Q))))))):=by
 refine⟨fun n e S=>n=80∧∃ y6:AV,e=(env111_1 y1 y3 y6)∧I y6 S,fun _ e S=>μ (e.getD 2 .j) S,?_,?_⟩
 ·exact⟨_,_,Wk.refl _ _,rfl,_,rfl,h0⟩
 ·rintro _ e S ⟨rfl,y6,rfl,hI⟩
  exact(b111_1_eq _ _ _ _ _ _ _).mpr (hr y6 S hI _ (fun y6' S' hI' hm=>⟨_,_,Wk.refl _ _,⟨rfl,_,rfl,hI'⟩,hm⟩))
def c120:Code:=(Tryz.f120.body).getD .skip
def r120:List ResultVar:=Tryz.f120.results.toList
def env120_0(y1 y2 y3 y6 y9:AV):List AV:=[y1,y2,y3,y6,y9]
def lv120_0:List Nat:=[1,2,3,6,9]
def ms120:List (List Nat):=[lv120_0,[]]
def m120(x0 x1 x2:AV)(S:Store)(Q:PoT):Prop:=
 boxN 82 2 x0 S fun c S=>boxN 82 2 (.a [.v (.int .i64 0),.nl]) S fun d S=>ldN 2 c S fun e S=>callF Pg 111 [e] S Q fun f S=>un .not f S fun g S=>onB g fun b=>gd b (bld [(0,1),(1,1)] [.v (.int .i64 0),.nl] [] S fun h S=>stN 2 d h S fun i S=>ldN 2 d S fun k _=>Q (.ret (.t [k,.v (.int .i64 0),.v (.int .i64 1)])) S) (ldN 2 c S fun l S=>callF Pg 112 [l,x1] S Q fun m S=>un .not m S fun n S=>onB n fun b=>gd b (bld [(0,1),(1,1)] [.v (.int .i64 0),.nl] [] S fun o S=>stN 2 d o S fun p S=>ldN 2 d S fun q _=>Q (.ret (.t [q,.v (.int .i64 0),.v (.int .i64 1)])) S) (ldN 2 c S fun r S=>callF Pg 112 [r,x2] S Q fun s S=>un .not s S fun u S=>onB u fun b=>gd b (bld [(0,1),(1,1)] [.v (.int .i64 0),.nl] [] S fun w S=>stN 2 d w S fun x S=>ldN 2 d S fun y _=>Q (.ret (.t [y,.v (.int .i64 0),.v (.int .i64 1)])) S) (mxI true x1 x2 S fun z S=>mxI false x1 x2 S fun A S=>bin .eql 0 A (.v (.int .i64 0)) S fun B S=>onB B fun b=>gd b (ldN 2 c S fun C S=>stN 2 d C S fun D S=>ldN 2 d S fun E _=>Q (.ret (.t [E,.v (.int .i64 0),.v (.int .i64 0)])) S) (bin .quo 0 z (.v (.int .i64 2)) S fun F S=>bin .quo 0 A (.v (.int .i64 2)) S fun G S=>bin .eql 0 F G S fun H S=>onB H fun b=>gd b (bin .neq 0 z A S fun I S=>onB I fun b=>gd b (ldN 2 c S fun J S=>stN 2 d J S fun K S=>ldN 2 d S fun L _=>Q (.ret (.t [L,.v (.int .i64 0),.v (.int .i64 0)])) S) (bin .eql 0 A (.v (.int .i64 1)) S fun M S=>onB M fun b=>gd b (ldN 2 c S fun N S=>stN 2 d N S fun O S=>ldN 2 d S fun P _=>Q (.ret (.t [P,z,.v (.int .i64 0)])) S) (bin .eql 0 z A S fun R S=>onB R fun b=>gd b (ldN 2 c S fun T S=>stN 2 d T S fun U S=>ldN 2 d S fun V _=>Q (.ret (.t [V,z,.v (.int .i64 0)])) S) (loopV lv120_0 (vc Pg (c120.at_ [1,1,1,1,0,1,0,0]) (ms120.drop 1)) 105 (env120_0 z A c d (.v (.int .i64 0))) S (blockK 1 (seqK (vc Pg (c120.at_ [1,1,1,1,1]) (ms120.drop 1)) (bodyK Pg r120 Q))))))) (bin .eql 0 A (.v (.int .i64 1)) S fun W S=>onB W fun b=>gd b (ldN 2 c S fun X S=>stN 2 d X S fun Y S=>ldN 2 d S fun Z _=>Q (.ret (.t [Z,z,.v (.int .i64 0)])) S) (bin .eql 0 z A S fun a0 S=>onB a0 fun b=>gd b (ldN 2 c S fun a1 S=>stN 2 d a1 S fun a2 S=>ldN 2 d S fun a3 _=>Q (.ret (.t [a3,z,.v (.int .i64 0)])) S) (loopV lv120_0 (vc Pg (c120.at_ [1,1,1,1,0,1,0,0]) (ms120.drop 1)) 105 (env120_0 z A c d (.v (.int .i64 0))) S (blockK 1 (seqK (vc Pg (c120.at_ [1,1,1,1,1]) (ms120.drop 1)) (bodyK Pg r120 Q))))))))))
theorem calls120{x0 x1 x2:AV}{S:Store}{Q:PoT}(h:m120 x0 x1 x2 S Q):ACalls Pg 120 [x0,x1,x2] S Q:=
 calls_of_vc (fn:=Tryz.f120) (c:=c120) (n:=105) Tryz.func120 (by kernel_rfl) (by kernel_rfl) (by kernel_rfl) ms120 (Eq.mpr (by kernel_rfl) h)
def b120_0(y1 y2 y3 y6 y9:AV)(S:Store)(KE0:KeT)(Q:PoT):Prop:=
 shift y3 1 S fun c S=>ld1 c S fun d S=>lenS d S fun e S=>bin .lss 0 y9 e S fun f S=>onB f fun b=>gd b (shift y3 1 S fun g S=>ld1 g S fun h S=>ixS 124 2 h y9 S fun i S=>ldN 2 i S fun k S=>bld [(0,1),(1,1)] [.v (.int .i64 0),.v (.int .i64 0)] [(0,y1),(1,y2)] S fun l S=>binP .i64 .eql k l S fun m S=>onB m fun b=>gd b (∃ n:AV,(∀ T:Store,Keep S T→ldN 2 y3 T fun o S=>o=n∧S=T)∧∃ p:AV,(∀ T:Store,Keep S T→shift y3 0 T fun q S=>q=p∧S=T)∧∃ r:AV,(∀ T:Store,Keep S T→ld1 p T fun s S=>s=r∧S=T)∧∃ u:AV,(∀ T:Store,Keep S T→bin .add 0 r (.v (.int .i64 1)) T fun w S=>w=u∧S=T)∧∃ x:AV,(∀ T:Store,Keep S T→bin .add 0 u y9 T fun y S=>y=x∧S=T)∧∃ z:AV,(∀ T:Store,Keep S T→bin .mul 0 (.v (.int .i64 2)) x T fun A S=>A=z∧S=T)∧stN 2 y6 n S fun B S=>(∀ T:Store,Keep S T→bin .mul 0 (.v (.int .i64 2)) x T fun C S=>C=z∧S=T)∧(∀ T:Store,Keep S T→bin .add 0 u y9 T fun D S=>D=x∧S=T)∧(∀ T:Store,Keep S T→bin .add 0 r (.v (.int .i64 1)) T fun E S=>E=u∧S=T)∧(∀ T:Store,Keep S T→ld1 p T fun F S=>F=r∧S=T)∧(∀ T:Store,Keep S T→shift y3 0 T fun G S=>G=p∧S=T)∧ldN 2 y6 S fun H _=>Q (.ret (.t [H,z,.v (.int .i64 0)])) S) (bin .add 0 y9 (.v (.int .i64 1)) S fun I S=>KE0 105 (env120_0 y1 y2 y3 y6 I) S)) (ldN 2 y3 S fun J S=>callF Pg 40 [J] S Q fun K S=>bin .geq 0 K (.v (.int .i64 2000)) S fun L S=>onB L fun b=>gd b (bld [(0,1),(1,1)] [.v (.int .i64 0),.nl] [] S fun M S=>stN 2 y6 M S fun N S=>ldN 2 y6 S fun O _=>Q (.ret (.t [O,.v (.int .i64 0),.v (.int .i64 2)])) S) (boxN 82 2 (.a [.v (.int .i64 0),.nl]) S fun P S=>shift y3 0 S fun R S=>ld1 R S fun U S=>shift P 0 S fun V S=>stN 1 V U S fun W S=>shift P 1 S fun X S=>ld1 X S fun Y S=>shift y3 1 S fun Z S=>ld1 Z S fun a0 S=>appS 124 2 16 Y a0 S fun a1 S=>bld [(0,1),(1,1)] [.v (.int .i64 0),.v (.int .i64 0)] [(0,y1),(1,y2)] S fun a2 S=>bslN 124 2 1 [.v (.int .i64 0),.v (.int .i64 0)] [(0,a2)] S fun a3 S=>appS 124 2 16 a1 a3 S fun a4 S=>shift P 1 S fun a5 S=>stN 1 a5 a4 S fun a6 S=>∃ a7:AV,(∀ T:Store,Keep S T→ldN 2 P T fun a8 S=>a8=a7∧S=T)∧∃ a9:AV,(∀ T:Store,Keep S T→ldN 2 P T fun b0 S=>b0=a9∧S=T)∧∃ b1:AV,(∀ T:Store,Keep S T→callF Pg 40 [a9] T (fun _ _=>False) fun b2 S=>b2=b1∧S=T)∧∃ b3:AV,(∀ T:Store,Keep S T→bin .mul 0 (.v (.int .i64 2)) b1 T fun b4 S=>b4=b3∧S=T)∧∃ b5:AV,(∀ T:Store,Keep S T→bin .sub 0 b3 (.v (.int .i64 2)) T fun b6 S=>b6=b5∧S=T)∧stN 2 y6 a7 S fun b7 S=>(∀ T:Store,Keep S T→bin .sub 0 b3 (.v (.int .i64 2)) T fun b8 S=>b8=b5∧S=T)∧(∀ T:Store,Keep S T→bin .mul 0 (.v (.int .i64 2)) b1 T fun b9 S=>b9=b3∧S=T)∧ldN 2 y6 S fun c0 _=>Q (.ret (.t [c0,b5,.v (.int .i64 0)])) S))
theorem b120_0_eq(y1 y2 y3 y6 y9:AV)(S:Store)(KE0:KeT)(Q:PoT):vc Pg (c120.at_ [1,1,1,1,0,1,0,0]) (ms120.drop 1) (mkE 105 lv120_0 (env120_0 y1 y2 y3 y6 y9)) S (thenK (fgK lv120_0 KE0) (blockK 1 (seqK (vc Pg (c120.at_ [1,1,1,1,1]) (ms120.drop 1)) (bodyK Pg r120 Q))))=b120_0 y1 y2 y3 y6 y9 S KE0 Q:=by kernel_rfl
theorem loop120_0{y1 y2 y3 y6:AV}{y90:AV}{S:Store}{Q:PoT}(I:AV→Store→Prop)(μ:AV→Store→Nat)(h0:I y90 S)
    (hr:∀(y9:AV) (S:Store),I y9 S→∀ KE0:KeT,(∀(y9':AV) (S':Store),I y9' S'→μ y9' S'<μ y9 S→KE0 105 (env120_0 y1 y2 y3 y6 y9') S')→b120_0 y1 y2 y3 y6 y9 S KE0 Q):
    loopV lv120_0 (vc Pg (c120.at_ [1,1,1,1,0,1,0,0]) (ms120.drop 1)) 105 (env120_0 y1 y2 y3 y6 y90) S (blockK 1 (seqK (vc Pg (c120.at_ [1,1,1,1,1]) (ms120.drop 1)) (bodyK Pg r120 Q))):=by
 refine⟨fun n e S=>n=105∧∃ y9:AV,e=(env120_0 y1 y2 y3 y6 y9)∧I y9 S,fun _ e S=>μ (e.getD 4 .j) S,?_,?_⟩
 ·exact⟨_,_,Wk.refl _ _,rfl,_,rfl,h0⟩
 ·rintro _ e S ⟨rfl,y9,rfl,hI⟩
  exact(b120_0_eq _ _ _ _ _ _ _ _).mpr (hr y9 S hI _ (fun y9' S' hI' hm=>⟨_,_,Wk.refl _ _,⟨rfl,_,rfl,hI'⟩,hm⟩))
def c204:Code:=(Tryz.f204.body).getD .skip
def r204:List ResultVar:=Tryz.f204.results.toList
def env204_0(y0 y13 y14 y15:AV):List AV:=[y0,y13,y14,y15]
def lv204_0:List Nat:=[0,13,14,15]
def ms204:List (List Nat):=[lv204_0,[]]
def m204(x0:AV)(S:Store)(Q:PoT):Prop:=
 mkM (.p .i64) S fun a S=>nilChk x0 S fun c S=>shift c 4 S fun d S=>stN 1 d a S fun e S=>nilChk x0 S fun f S=>shift f 3 S fun g S=>ld1 g S fun h S=>lenS h S fun i S=>loopV lv204_0 (vc Pg (c204.at_ [1,1,0,0]) (ms204.drop 1)) 38 (env204_0 x0 h i (.v (.int .i64 0))) S (blockK 0 (bodyK Pg r204 Q))
theorem calls204{x0:AV}{S:Store}{Q:PoT}(h:m204 x0 S Q):ACalls Pg 204 [x0] S Q:=
 calls_of_vc (fn:=Tryz.f204) (c:=c204) (n:=38) Tryz.func204 (by kernel_rfl) (by kernel_rfl) (by kernel_rfl) ms204 (Eq.mpr (by kernel_rfl) h)
def b204_0(y0 y13 y14 y15:AV)(S:Store)(KE0:KeT)(Q:PoT):Prop:=
 bin .lss 0 y15 y14 S fun c S=>onB c fun b=>gd b (ixS 124 2 y13 y15 S fun d S=>ldN 2 d S fun e S=>boxN 124 2 (.a [.v (.int .i64 0),.v (.int .i64 0)]) S fun f S=>stN 2 f e S fun g S=>(fun S0:Store=>∃ h:AV,(nilChk y0 S fun i S=>i=h∧S=S0)∧∃ k:AV,(shift h 4 S fun l S=>l=k∧S=S0)∧∃ m:AV,(ld1 k S fun n S=>n=m∧S=S0)∧∃ o:AV,(ldN 2 f S fun q S=>q=o∧S=S0)∧∃ r:AV,(lkM (.p .i64) (.v (.int .i64 0)) true m o S fun s S=>s=r∧S=S0)∧∃ u:AV,(extr r 0 S fun w S=>w=u∧S=S0)∧∃ x:AV,(extr r 1 S fun y S=>y=x∧S=S0)∧un .not x S fun z S=>onB z fun b=>gd b (∃ A:AV,(∀ T:Store,Keep S T→nilChk y0 T fun B S=>B=A∧S=T)∧∃ C:AV,(∀ T:Store,Keep S T→shift A 4 T fun D S=>D=C∧S=T)∧∃ E:AV,(∀ T:Store,Keep S T→ld1 C T fun F S=>F=E∧S=T)∧∃ G:AV,(∀ T:Store,Keep S T→ldN 2 f T fun H S=>H=G∧S=T)∧updM (.p .i64) E G y15 S fun I S=>bin .add 0 y15 (.v (.int .i64 1)) S fun J S=>KE0 38 (env204_0 y0 y13 y14 J) S) (bin .add 0 y15 (.v (.int .i64 1)) S fun K S=>KE0 38 (env204_0 y0 y13 y14 K) S)) S) (Q (.ret (.t [])) S)
theorem b204_0_eq(y0 y13 y14 y15:AV)(S:Store)(KE0:KeT)(Q:PoT):vc Pg (c204.at_ [1,1,0,0]) (ms204.drop 1) (mkE 38 lv204_0 (env204_0 y0 y13 y14 y15)) S (thenK (fgK lv204_0 KE0) (blockK 0 (bodyK Pg r204 Q)))=b204_0 y0 y13 y14 y15 S KE0 Q:=by kernel_rfl
theorem loop204_0{y0 y13 y14:AV}{y150:AV}{S:Store}{Q:PoT}(I:AV→Store→Prop)(μ:AV→Store→Nat)(h0:I y150 S)
    (hr:∀(y15:AV) (S:Store),I y15 S→∀ KE0:KeT,(∀(y15':AV) (S':Store),I y15' S'→μ y15' S'<μ y15 S→KE0 38 (env204_0 y0 y13 y14 y15') S')→b204_0 y0 y13 y14 y15 S KE0 Q):
    loopV lv204_0 (vc Pg (c204.at_ [1,1,0,0]) (ms204.drop 1)) 38 (env204_0 y0 y13 y14 y150) S (blockK 0 (bodyK Pg r204 Q)):=by
 refine⟨fun n e S=>n=38∧∃ y15:AV,e=(env204_0 y0 y13 y14 y15)∧I y15 S,fun _ e S=>μ (e.getD 3 .j) S,?_,?_⟩
 ·exact⟨_,_,Wk.refl _ _,rfl,_,rfl,h0⟩
 ·rintro _ e S ⟨rfl,y15,rfl,hI⟩
  exact(b204_0_eq _ _ _ _ _ _ _).mpr (hr y15 S hI _ (fun y15' S' hI' hm=>⟨_,_,Wk.refl _ _,⟨rfl,_,rfl,hI'⟩,hm⟩))
def c184:Code:=(Tryz.f184.body).getD .skip
def ms184:List (List Nat):=[[204,203]]
def m184(x0:AV)(S:Store)(Q:PoT):Prop:=
 nilChk x0 S fun a S=>shift a 0 S fun c S=>callF Pg 203 [c,(.f (.func 204) [x0] [])] S Q fun d S=>nilChk x0 S fun e S=>shift e 4 S fun g S=>ld1 g S fun h S=>lenM h S fun i S=>Q (.ret i) S
theorem calls184{x0:AV}{S:Store}{Q:PoT}(h:m184 x0 S Q):ACalls Pg 184 [x0] S Q:=
 calls_of_vc (fn:=Tryz.f184) (c:=c184) (n:=14) Tryz.func184 (by kernel_rfl) (by kernel_rfl) (by kernel_rfl) ms184 (Eq.mpr (by kernel_rfl) h)
def c164:Code:=(Tryz.f164.body).getD .skip
def r164:List ResultVar:=Tryz.f164.results.toList
def env164_0(y1 y2 y27 y28 y29:AV):List AV:=[y1,y2,y27,y28,y29]
def lv164_0:List Nat:=[1,2,27,28,29]
def ms164:List (List Nat):=[lv164_0,[184]]
def m164(x0 x1:AV)(S:Store)(Q:PoT):Prop:=
 boxN 82 2 x0 S fun a S=>shift a 0 S fun c S=>ld1 c S fun d S=>bin .lss 0 d (.v (.int .i64 0)) S fun e S=>onB e fun b=>gd b (Q (.ret (.v (.bool false))) S) (shift a 0 S fun f S=>ld1 f S fun g S=>bin .gtr 0 g (.v (.int .i64 2000)) S fun h S=>onB h fun b=>gd b (Q (.ret (.v (.bool false))) S) (shift a 1 S fun i S=>ld1 i S fun k S=>lenS k S fun l S=>bin .gtr 0 l (.v (.int .i64 2000)) S fun m S=>onB m fun b=>gd b (Q (.ret (.v (.bool false))) S) (ldN 2 a S fun n S=>callF Pg 135 [n] S Q fun o S=>bin .gtr 0 o (.v (.int .i64 2000)) S fun p S=>onB p fun b=>gd b (Q (.ret (.v (.bool false))) S) (shift a 1 S fun q S=>ld1 q S fun r S=>lenS r S fun s S=>loopV lv164_0 (vc Pg (c164.at_ [1,1,0,1,0,0]) (ms164.drop 1)) 49 (env164_0 x1 a r s (.v (.int .i64 0))) S (blockK 0 (seqK (vc Pg (c164.at_ [1,1,1]) (ms164.drop 1)) (bodyK Pg r164 Q)))))))
theorem calls164{x0 x1:AV}{S:Store}{Q:PoT}(h:m164 x0 x1 S Q):ACalls Pg 164 [x0,x1] S Q:=
 calls_of_vc (fn:=Tryz.f164) (c:=c164) (n:=49) Tryz.func164 (by kernel_rfl) (by kernel_rfl) (by kernel_rfl) ms164 (Eq.mpr (by kernel_rfl) h)
def b164_0(y1 y2 y27 y28 y29:AV)(S:Store)(KE0:KeT)(Q:PoT):Prop:=
 bin .lss 0 y29 y28 S fun c S=>onB c fun b=>gd b (ixS 124 2 y27 y29 S fun d S=>ldN 2 d S fun e S=>boxN 124 2 (.a [.v (.int .i64 0),.v (.int .i64 0)]) S fun f S=>stN 2 f e S fun g S=>ldN 2 f S fun h S=>shift y2 0 S fun i S=>ld1 i S fun k S=>bin .add 0 k (.v (.int .i64 1)) S fun l S=>bin .add 0 l y29 S fun m S=>callF Pg 183 [h,m] S Q fun n S=>un .not n S fun o S=>onB o fun b=>gd b (Q (.ret (.v (.bool false))) S) (bin .add 0 y29 (.v (.int .i64 1)) S fun p S=>KE0 49 (env164_0 y1 y2 y27 y28 p) S)) (∃ q:AV,(∀ T:Store,Keep S T→shift y2 1 T fun r S=>r=q∧S=T)∧∃ s:AV,(∀ T:Store,Keep S T→ld1 q T fun t S=>t=s∧S=T)∧∃ u:AV,(∀ T:Store,Keep S T→lenS s T fun w S=>w=u∧S=T)∧callF Pg 184 [y1] S (fun _ _=>False) fun x S=>(∀ T:Store,Keep S T→lenS s T fun y S=>y=u∧S=T)∧(∀ T:Store,Keep S T→ld1 q T fun z S=>z=s∧S=T)∧(∀ T:Store,Keep S T→shift y2 1 T fun A S=>A=q∧S=T)∧∃ B:AV,(∀ T:Store,Keep S T→bin .eql 0 x u T fun C S=>C=B∧S=T)∧Q (.ret B) S)
theorem b164_0_eq(y1 y2 y27 y28 y29:AV)(S:Store)(KE0:KeT)(Q:PoT):vc Pg (c164.at_ [1,1,0,1,0,0]) (ms164.drop 1) (mkE 49 lv164_0 (env164_0 y1 y2 y27 y28 y29)) S (thenK (fgK lv164_0 KE0) (blockK 0 (seqK (vc Pg (c164.at_ [1,1,1]) (ms164.drop 1)) (bodyK Pg r164 Q))))=b164_0 y1 y2 y27 y28 y29 S KE0 Q:=by kernel_rfl
theorem loop164_0{y1 y2 y27 y28:AV}{y290:AV}{S:Store}{Q:PoT}(I:AV→Store→Prop)(μ:AV→Store→Nat)(h0:I y290 S)
    (hr:∀(y29:AV) (S:Store),I y29 S→∀ KE0:KeT,(∀(y29':AV) (S':Store),I y29' S'→μ y29' S'<μ y29 S→KE0 49 (env164_0 y1 y2 y27 y28 y29') S')→b164_0 y1 y2 y27 y28 y29 S KE0 Q):
    loopV lv164_0 (vc Pg (c164.at_ [1,1,0,1,0,0]) (ms164.drop 1)) 49 (env164_0 y1 y2 y27 y28 y290) S (blockK 0 (seqK (vc Pg (c164.at_ [1,1,1]) (ms164.drop 1)) (bodyK Pg r164 Q))):=by
 refine⟨fun n e S=>n=49∧∃ y29:AV,e=(env164_0 y1 y2 y27 y28 y29)∧I y29 S,fun _ e S=>μ (e.getD 4 .j) S,?_,?_⟩
 ·exact⟨_,_,Wk.refl _ _,rfl,_,rfl,h0⟩
 ·rintro _ e S ⟨rfl,y29,rfl,hI⟩
  exact(b164_0_eq _ _ _ _ _ _ _ _).mpr (hr y29 S hI _ (fun y29' S' hI' hm=>⟨_,_,Wk.refl _ _,⟨rfl,_,rfl,hI'⟩,hm⟩))
def c130:Code:=(Tryz.f130.body).getD .skip
def ms130:List (List Nat):=[[164]]
def m130(x0:AV)(S:Store)(Q:PoT):Prop:=
 boxN 82 2 x0 S fun a S=>ldN 2 a S fun c S=>shift a 1 S fun d S=>ld1 d S fun e S=>bld [(0,3),(3,1),(4,1)] [.v (.int .u32 0),.v (.int .i32 0),.v (.int .u32 0),.nl,.v (.map none)] [(1,e)] S fun f S=>boxN 195 5 f S fun g S=>callF Pg 164 [c,g] S Q fun h S=>Q (.ret h) S
theorem calls130{x0:AV}{S:Store}{Q:PoT}(h:m130 x0 S Q):ACalls Pg 130 [x0] S Q:=
 calls_of_vc (fn:=Tryz.f130) (c:=c130) (n:=9) Tryz.func130 (by kernel_rfl) (by kernel_rfl) (by kernel_rfl) ms130 (Eq.mpr (by kernel_rfl) h)
def c135:Code:=(Tryz.f135.body).getD .skip
def ms135:List (List Nat):=[[]]
def m135(x0:AV)(S:Store)(Q:PoT):Prop:=
 boxN 82 2 x0 S fun a S=>shift a 0 S fun c S=>ld1 c S fun d S=>bin .add 0 d (.v (.int .i64 1)) S fun e S=>shift a 1 S fun f S=>ld1 f S fun g S=>lenS g S fun h S=>bin .add 0 e h S fun i S=>Q (.ret i) S
theorem calls135{x0:AV}{S:Store}{Q:PoT}(h:m135 x0 S Q):ACalls Pg 135 [x0] S Q:=
 calls_of_vc (fn:=Tryz.f135) (c:=c135) (n:=10) Tryz.func135 (by kernel_rfl) (by kernel_rfl) (by kernel_rfl) ms135 (Eq.mpr (by kernel_rfl) h)
def c183:Code:=(Tryz.f183.body).getD .skip
def ms183:List (List Nat):=[[]]
def m183(x0 x1:AV)(S:Store)(Q:PoT):Prop:=
 boxN 124 2 x0 S fun a S=>ixA 2 1 a (.v (.int .i64 1)) S fun c S=>ld1 c S fun d S=>bin .geq 0 d (.v (.int .i64 2)) S fun e S=>onB e fun b=>gd b (ixA 2 1 a (.v (.int .i64 0)) S fun f S=>ld1 f S fun g S=>bin .quo 0 g (.v (.int .i64 2)) S fun h S=>ixA 2 1 a (.v (.int .i64 1)) S fun i S=>ld1 i S fun k S=>bin .quo 0 k (.v (.int .i64 2)) S fun l S=>bin .gtr 0 h l S fun m S=>onB m fun b=>gd b (ixA 2 1 a (.v (.int .i64 0)) S fun n S=>ld1 n S fun o S=>bin .quo 0 o (.v (.int .i64 2)) S fun p S=>bin .lss 0 p x1 S fun q S=>Q (.ret q) S) (Q (.ret (.v (.bool false))) S)) (Q (.ret (.v (.bool false))) S)
theorem calls183{x0 x1:AV}{S:Store}{Q:PoT}(h:m183 x0 x1 S Q):ACalls Pg 183 [x0,x1] S Q:=
 calls_of_vc (fn:=Tryz.f183) (c:=c183) (n:=24) Tryz.func183 (by kernel_rfl) (by kernel_rfl) (by kernel_rfl) ms183 (Eq.mpr (by kernel_rfl) h)
def c88:Code:=(Tryz.f88.body).getD .skip
def ms88:List (List Nat):=[[]]
def m88(x0 x1:AV)(S:Store)(Q:PoT):Prop:=
 boxN 82 2 x0 S fun a S=>shift a 0 S fun c S=>ld1 c S fun d S=>bin .geq 0 d (.v (.int .i64 0)) S fun e S=>onB e fun b=>gd b (shift a 0 S fun f S=>ld1 f S fun g S=>bin .leq 0 g (.v (.int .i64 2000)) S fun h S=>onB h fun b=>gd b (bin .geq 0 x1 (.v (.int .i64 0)) S fun i S=>onB i fun b=>gd b (bin .quo 0 x1 (.v (.int .i64 2)) S fun k S=>ldN 2 a S fun l S=>callF Pg 135 [l] S Q fun m S=>bin .lss 0 k m S fun n S=>Q (.ret n) S) (Q (.ret (.v (.bool false))) S)) (Q (.ret (.v (.bool false))) S)) (Q (.ret (.v (.bool false))) S)
theorem calls88{x0 x1:AV}{S:Store}{Q:PoT}(h:m88 x0 x1 S Q):ACalls Pg 88 [x0,x1] S Q:=
 calls_of_vc (fn:=Tryz.f88) (c:=c88) (n:=24) Tryz.func88 (by kernel_rfl) (by kernel_rfl) (by kernel_rfl) ms88 (Eq.mpr (by kernel_rfl) h)
def c218:Code:=(Tryz.f218.body).getD .skip
def ms218:List (List Nat):=[[221]]
def m218(x0:AV)(S:Store)(Q:PoT):Prop:=
 nilChk x0 S fun a S=>shift a 0 S fun c S=>callF Pg 221 [c] S Q fun d S=>Q (.ret (.t [])) S
def c219:Code:=(Tryz.f219.body).getD .skip
def ms219:List (List Nat):=[[222]]
def m219(x0 x1:AV)(S:Store)(Q:PoT):Prop:=
 ∃ a:AV,(∀ T:Store,Keep S T→nilChk x0 T fun c S=>c=a∧S=T)∧∃ d:AV,(∀ T:Store,Keep S T→shift a 0 T fun e S=>e=d∧S=T)∧∃ f:AV,(∀ T:Store,Keep S T→callF Pg 223 [x1] T (fun _ _=>False) fun g S=>g=f∧S=T)∧callF Pg 222 [d,f] S (fun _ _=>False) fun h S=>Q (.ret (.t [])) S
def c214:Code:=(Tryz.f214.body).getD .skip
def ms214:List (List Nat):=[[]]
def m214(x0:AV)(S:Store)(Q:PoT):Prop:=
 nilChk x0 S fun a S=>shift a 0 S fun c S=>callF Pg 216 [c] S Q fun d S=>bin .neq 0 d (.v (.int .u32 0)) S fun e S=>Q (.ret e) S
theorem calls214{x0:AV}{S:Store}{Q:PoT}(h:m214 x0 S Q):ACalls Pg 214 [x0] S Q:=
 calls_of_vc (fn:=Tryz.f214) (c:=c214) (n:=8) Tryz.func214 (by kernel_rfl) (by kernel_rfl) (by kernel_rfl) ms214 (Eq.mpr (by kernel_rfl) h)
def c217:Code:=(Tryz.f217.body).getD .skip
def ms217:List (List Nat):=[[220]]
def m217(x0:AV)(S:Store)(Q:PoT):Prop:=
 nilChk x0 S fun a S=>shift a 0 S fun c S=>callF Pg 220 [c] S Q fun d S=>Q (.ret (.t [])) S
theorem calls217{x0:AV}{S:Store}{Q:PoT}(h:m217 x0 S Q):ACalls Pg 217 [x0] S Q:=
 calls_of_vc (fn:=Tryz.f217) (c:=c217) (n:=6) Tryz.func217 (by kernel_rfl) (by kernel_rfl) (by kernel_rfl) ms217 (Eq.mpr (by kernel_rfl) h)
def c220:Code:=(Tryz.f220.body).getD .skip
def ms220:List (List Nat):=[[225]]
def m220(x0:AV)(S:Store)(Q:PoT):Prop:=
 callF Pg 224 [] S Q fun a S=>nilChk x0 S fun c S=>shift c 0 S fun d S=>callF Pg 225 [d,.v (.int .i32 0),.v (.int .i32 1)] S Q fun e S=>onB e fun b=>gd b (callF Pg 226 [] S Q fun f S=>convU x0 S fun g S=>callF Pg 227 [g] S Q fun h S=>Q (.ret (.t [])) S) (callF Pg 228 [x0] S Q fun i S=>Q (.ret (.t [])) S)
theorem calls220{x0:AV}{S:Store}{Q:PoT}(h:m220 x0 S Q):ACalls Pg 220 [x0] S Q:=
 calls_of_vc (fn:=Tryz.f220) (c:=c220) (n:=13) Tryz.func220 (by kernel_rfl) (by kernel_rfl) (by kernel_rfl) ms220 (Eq.mpr (by kernel_rfl) h)
def c221:Code:=(Tryz.f221.body).getD .skip
def ms221:List (List Nat):=[[230]]
def m221(x0:AV)(S:Store)(Q:PoT):Prop:=
 nilChk x0 S fun a S=>shift a 0 S fun c S=>ld1 c S fun d S=>convU x0 S fun e S=>callF Pg 229 [e] S Q fun f S=>callF Pg 224 [] S Q fun g S=>nilChk x0 S fun h S=>shift h 0 S fun i S=>callF Pg 230 [i,.v (.int .i32 (-1))] S Q fun k S=>bin .neq 0 k (.v (.int .i32 0)) S fun l S=>onB l fun b=>gd b (callF Pg 231 [x0,k] S Q fun m S=>callF Pg 226 [] S Q fun n S=>Q (.ret (.t [])) S) (callF Pg 226 [] S Q fun o S=>Q (.ret (.t [])) S)
theorem calls221{x0:AV}{S:Store}{Q:PoT}(h:m221 x0 S Q):ACalls Pg 221 [x0] S Q:=
 calls_of_vc (fn:=Tryz.f221) (c:=c221) (n:=21) Tryz.func221 (by kernel_rfl) (by kernel_rfl) (by kernel_rfl) ms221 (Eq.mpr (by kernel_rfl) h)
def c223:Code:=(Tryz.f223.body).getD .skip
def ms223:List (List Nat):=[[]]
def m223(x0:AV)(S:Store)(Q:PoT):Prop:=
 onB x0 fun b1=>gd b1 (Q (.ret (.v (.int .u32 1))) S) (Q (.ret (.v (.int .u32 0))) S)
theorem calls223{x0:AV}{S:Store}{Q:PoT}(h:m223 x0 S Q):ACalls Pg 223 [x0] S Q:=
 calls_of_vc (fn:=Tryz.f223) (c:=c223) (n:=4) Tryz.func223 (by kernel_rfl) (by kernel_rfl) (by kernel_rfl) ms223 (Eq.mpr (by kernel_rfl) h)
def c203:Code:=(Tryz.f203.body).getD .skip
def ms203:List (List Nat):=[[215]]
def m203(x0 x1:AV)(S:Store)(Q:PoT):Prop:=
 nilChk x0 S fun a S=>shift a 0 S fun c S=>callF Pg 214 [c] S Q fun d S=>un .not d S fun e S=>onB e fun b=>gd b (callF Pg 215 [x0,x1] S Q fun f S=>Q (.ret (.t [])) S) (Q (.ret (.t [])) S)
theorem calls203{x0 x1:AV}{S:Store}{Q:PoT}(h:m203 x0 x1 S Q):ACalls Pg 203 [x0,x1] S Q:=
 calls_of_vc (fn:=Tryz.f203) (c:=c203) (n:=12) Tryz.func203 (by kernel_rfl) (by kernel_rfl) (by kernel_rfl) ms203 (Eq.mpr (by kernel_rfl) h)
end
def c215:Code:=(Tryz.f215.body).getD .skip
def r215:List ResultVar:=Tryz.f215.results.toList
def m215(x0 x1:AV)(S:Store)(Q:AEnd→Store→Prop):Prop:=
 nilChk x0 S fun v1 S=>shift v1 1 S fun v2 S=>callF Pg 217 [v2] S (fun _ _=>False) fun v3 S=>nilChk x0 S fun v4 S=>shift v4 1 S fun v5 S=>nilChk x0 S fun v6 S=>shift v6 0 S fun v7 S=>callF Pg 214 [v7] S (fun _ _=>False) fun v8 S=>un .not v8 S fun v9 S=>onB v9 fun b10 =>
  gd b10 (nilChk x0 S fun v11 S=>shift v11 0 S fun v12 S=>callV Pg x1 [] S (fun v13 S=>ADCalls Pg 219 [v12,.v (.bool true)] S fun e S=>match e with
      |.ret _=>ADCalls Pg 218 [v5] S fun e S=>match e with|.ret _=>Q (.ret (.t [])) S|.pan _=>False
      |.pan _=>False) (fun _ _=>False))
   (ADCalls Pg 218 [v5] S fun e S=>match e with|.ret _=>Q (.ret (.t [])) S|.pan _=>False)
set_option maxRecDepth 100000 in
theorem m215_eq:(fun(x0 x1:AV) (S:Store) (Q:AEnd→Store→Prop)=>vcT Pg c215 [] (ofArgs 21 [x0,x1]) S [] (bodyT Pg r215 Q))=(fun(x0 x1:AV) (S:Store) (Q:AEnd→Store→Prop)=>m215 x0 x1 S Q):=by kernel_rfl
theorem calls215{x0 x1:AV}{S:Store}{Q:AEnd→Store→Prop}(h:m215 x0 x1 S Q):ACalls Pg 215 [x0,x1] S Q:=
 calls_of_vcT (fn:=Tryz.f215) (c:=c215) (n:=21) Tryz.func215 (by kernel_rfl) (by kernel_rfl) (by kernel_rfl) [] ((congrFun (congrFun (congrFun (congrFun m215_eq x0) x1) S) Q).mpr h)
theorem dcalls218{x0:AV}{S:Store}{Q:AEnd→Store→Prop}(h:m218 x0 S Q):ADCalls Pg 218 [x0] S Q:=
 dcalls_of_vc (fn:=Tryz.f218) (c:=c218) (n:=6) Tryz.func218 (by kernel_rfl) (by kernel_rfl) (by kernel_rfl) ms218 (Eq.mpr (by kernel_rfl) h)
theorem dcalls219{x0 x1:AV}{S:Store}{Q:AEnd→Store→Prop}(h:m219 x0 x1 S Q):ADCalls Pg 219 [x0,x1] S Q:=
 dcalls_of_vc (fn:=Tryz.f219) (c:=c219) (n:=10) Tryz.func219 (by kernel_rfl) (by kernel_rfl) (by kernel_rfl) ms219 (Eq.mpr (by kernel_rfl) h)
theorem nt224:NoText Pg 224 Tryz.f224:=⟨Tryz.func224,by kernel_rfl,by kernel_rfl,by kernel_rfl⟩
theorem nt226:NoText Pg 226 Tryz.f226:=⟨Tryz.func226,by kernel_rfl,by kernel_rfl,by kernel_rfl⟩
theorem nt227:NoText Pg 227 Tryz.f227:=⟨Tryz.func227,by kernel_rfl,by kernel_rfl,by kernel_rfl⟩
theorem nt229:NoText Pg 229 Tryz.f229:=⟨Tryz.func229,by kernel_rfl,by kernel_rfl,by kernel_rfl⟩
theorem nt216:NoText Pg 216 Tryz.f216:=⟨Tryz.func216,by kernel_rfl,by kernel_rfl,by kernel_rfl⟩
theorem nt222:NoText Pg 222 Tryz.f222:=⟨Tryz.func222,by kernel_rfl,by kernel_rfl,by kernel_rfl⟩
theorem nt225:NoText Pg 225 Tryz.f225:=⟨Tryz.func225,by kernel_rfl,by kernel_rfl,by kernel_rfl⟩
theorem nt230:NoText Pg 230 Tryz.f230:=⟨Tryz.func230,by kernel_rfl,by kernel_rfl,by kernel_rfl⟩
abbrev aW32(n:Int):AV:=.v (.int .u32 n)
abbrev aS32(n:Int):AV:=.v (.int .i32 n)
section
variable {S:Store} {Q:AEnd→Store→Prop}
theorem mark224{Q:AEnd→Store→Prop}{K:AV→Store→Prop}(k:K (.t []) S):callF Pg 224 [] S Q K:=.inr (ext_mark0 nt224 .disable (by kernel_rfl) k)
theorem mark226{K:AV→Store→Prop}(k:K (.t []) S):callF Pg 226 [] S Q K:=.inr (ext_mark0 nt226 .enable (by kernel_rfl) k)
theorem mark227{K:AV→Store→Prop}{id i j:Nat}(k:K (.t []) S):callF Pg 227 [.p id i j] S Q K:=.inr (ext_mark1 nt227 .acquire (by kernel_rfl) k)
theorem mark229{K:AV→Store→Prop}{id i j:Nat}(k:K (.t []) S):callF Pg 229 [.p id i j] S Q K:=.inr (ext_mark1 nt229 .releaseMerge (by kernel_rfl) k)
end
@[simp] theorem nilChk_p(id i j:Nat)(S:Store)(K:AV→Store→Prop):nilChk (.p id i j) S K=K (.p id i j) S:=rfl
theorem upd_upd(S:Store)(id:Nat)(o o':AObj):(S.upd id o).upd id o'=S.upd id o':=by
 unfold Store.upd
 congr 1
 funext i
 by_cases h:i=id<;>simp[h]
def onceO(t:TypeId)(done st:Int)(z:AV)(c:List AV):AObj:=.cells t [aW32 done :: aS32 st :: z :: c] true
section
variable {S:Store} {Q:AEnd→Store→Prop} {id t:Nat} {done st:Int} {z:AV} {c:List AV}
theorem load_once(h:S.obj id=some (onceO t done st z c))(k:Q (.ret (aB (!decide (done=0)))) S):ACalls Pg 214 [.p id 0 0] S Q:=by
 refine calls214 ?_
 unfold m214
 rw[nilChk_p,shift_p]
 refine .inr (ext_load nt216 .u32 (by kernel_rfl) h rfl rfl ?_)
 show bin .neq 0 (aW32 done) (aW32 0) S _
 rw[bin_neq]
 exact k
theorem lock_once(h:S.obj id=some (onceO t done 0 z c))(k:Q (.ret (.t [])) (S.upd id (onceO t done 1 z c))):ACalls Pg 217 [.p id 0 1] S Q:=by
 refine calls217 ?_
 unfold m217
 rw[nilChk_p,shift_p]
 refine .inl (calls220 ?_)
 unfold m220
 refine mark224 ?_
 rw[nilChk_p,shift_p]
 refine .inr (ext_cas nt225 .i32 (by kernel_rfl) h rfl rfl ?_)
 show onB _ _
 rw[onB_v,gd_true]
 refine mark226 ⟨aS32 1,?_,mark227 k⟩
 simp[rd1,place,Store.get]
theorem unlock_once(h:S.obj id=some (onceO t done 1 z c))(k:Q (.ret (.t [])) (S.upd id (onceO t done 0 z c))):ADCalls Pg 218 [.p id 0 1] S Q:=by
 refine dcalls218 ?_
 unfold m218
 rw[nilChk_p,shift_p]
 refine .inl (calls221 ?_)
 unfold m221
 rw[nilChk_p,shift_p,ld1_p h rfl rfl]
 refine⟨aS32 1,by simp[rd1,place,Store.get,h,onceO],mark229 (mark224 ?_)⟩
 rw[nilChk_p,shift_p]
 refine .inr (ext_add nt230 .i32 (by kernel_rfl) h rfl rfl ?_)
 show bin .neq 0 (aS32 (IntKind.i32.wrap (1 + -1))) (aS32 0) _ _
 have:IntKind.i32.wrap (1 + -1)=0:=by decide
 rw[this,bin_neq,onB_v]
 simp only[decide_true,Bool.not_true,gd_false]
 exact mark226 k
theorem store_once(h:S.obj id=some (onceO t done st z c))(k:Q (.ret (.t [])) (S.upd id (onceO t 1 st z c))):ADCalls Pg 219 [.p id 0 0,aB true] S Q:=by
 refine dcalls219 ?_
 unfold m219
 have hb:∀ T,ACalls Pg 223 [aB true] T (fun e S'=>e = .ret (aW32 1)∧S'=T):=fun T=>by
  refine calls223 ?_
  unfold m223
  rw[onB_v,gd_true]
  exact⟨rfl,rfl⟩
 refine⟨.p id 0 0,fun T _=>⟨rfl,rfl⟩,.p id 0 0,fun T _=>⟨rfl,rfl⟩,aW32 1,fun T _=>callF_at (hb T) ⟨rfl,rfl⟩,?_⟩
 exact .inr (ext_store nt222 (by kernel_rfl) h rfl rfl k)
theorem do_once(h:S.obj id=some (onceO t 0 0 z c)){f:AV}(hf:callV Pg f [] (S.upd id (onceO t 0 1 z c)) (fun _ S2=>∃ c',S2.obj id=some (onceO t 0 1 z c')∧Q (.ret (.t [])) (S2.upd id (onceO t 1 0 z c'))) (fun _ _=>False)):ACalls Pg 203 [.p id 0 0,f] S Q:=by
 refine calls203 ?_
 unfold m203
 rw[nilChk_p,shift_p]
 refine .inl (load_once h ?_)
 show un .not (aB (!decide ((0:Int)=0))) S _
 rw[un_not,onB_v]
 refine .inl (calls215 ?_)
 unfold m215
 rw[nilChk_p,shift_p]
 refine .inl (lock_once h ?_)
 show nilChk _ _ _
 rw[nilChk_p,shift_p,nilChk_p,shift_p]
 refine .inl (load_once (upd_self _ _) ?_)
 show un .not (aB (!decide ((0:Int)=0))) _ _
 rw[un_not,onB_v]
 show gd true _ _
 rw[gd_true,nilChk_p,shift_p]
 refine callV_mono hf (fun v S2 h2=>?_) (fun _ _ h=>h)
 obtain⟨c',h3,h4⟩:=h2
 refine store_once h3 (unlock_once (upd_self _ _) ?_)
 show Q (.ret (.t [])) _
 rw[upd_upd]
 exact h4
end
def pL(l:List (Int × Int)):AV:=.l (l.map fun p=>[aI p.1,aI p.2])
structure Gr where
 inputs:Int
 ands:List (Int × Int)
 deriving DecidableEq
def Gr.cells(g:Gr):List AV:=[aI g.inputs,pL g.ands]
def Gr.av(g:Gr):AV:=.a g.cells
def Gr.vars(g:Gr):Int:=g.inputs+1+g.ands.length
def i64R(a:Int):Prop:=-9223372036854775808≤a∧a≤9223372036854775807
structure Gr.ok (g:Gr):Prop where
 inp:i64R g.inputs
 len:g.ands.length≤1000000
 pairs:∀ p∈g.ands,i64R p.1∧i64R p.2
def may(p:Int × Int)(v:Int):Bool:=decide (2≤p.2) && (decide (p.2.tdiv 2<p.1.tdiv 2) && decide (p.1.tdiv 2<v))
def Gr.right(g:Gr):Bool:=decide (0≤g.inputs) && (decide (g.inputs≤2000) && (decide ((g.ands.length:Int)≤2000) && (decide (g.vars≤2000) &&
 ((List.range g.ands.length).all (fun i=>may (g.ands.getD i (0,0)) (g.inputs+1+i)) && decide g.ands.Nodup))))
def Gr.lit(g:Gr)(l:Int):Bool:=decide (0≤g.inputs) && (decide (g.inputs≤2000) && (decide (0≤l) && decide (l.tdiv 2<g.vars)))
@[simp] theorem lenS_pL(l:List (Int × Int)){S:Store}{K:AV→Store→Prop}:lenS (pL l) S K=K (aI l.length) S:=by simp[pL]
theorem ixS_pL{l:List (Int × Int)}{e i:Nat}{S:Store}{K:AV→Store→Prop}(h:i<l.length):ixS e 2 (pL l) (aI i) S K=K (.q [aI l[i].1,aI l[i].2] 0) S:=by
 unfold pL
 rw[ixS_l (by simpa using h) (by simp)]
 simp
@[simp] theorem ldN_q2{u v:AV}{S:Store}{K:AV→Store→Prop}:ldN 2 (.q [u,v] 0) S K=K (.a [u,v]) S:=by simp[ldN,rdN,place]
theorem tdiv2{a:Int}(h:i64R a):-9223372036854775808≤a.tdiv 2∧a.tdiv 2≤9223372036854775807:=by
 obtain⟨h1,h2⟩:=h
 rcases Int.le_total 0 a with h|h
 ·rw[Int.tdiv_eq_ediv_of_nonneg h];omega
 ·have:a.tdiv 2 = -((-a).tdiv 2):=by rw[Int.neg_tdiv,Int.neg_neg]
  rw[this,Int.tdiv_eq_ediv_of_nonneg (by omega)];omega
theorem bin_half{a:Int}(h:i64R a){S:Store}{K:AV→Store→Prop}:bin .quo 0 (aI a) (.v (.int .i64 2)) S K=K (aI (a.tdiv 2)) S:=bin_quo (by decide) (tdiv2 h).1 (tdiv2 h).2 0
theorem ixA_p{n sz id:Nat}{z:Nat}{S:Store}{K:AV→Store→Prop}(hz:z<n):ixA n sz (.p id 0 0) (aI z) S K=K (.p id 0 (z*sz)) S:=by
 unfold ixA
 simp only[intA,optP_some,Int.toNat_natCast,shift_p,Nat.zero_add]
 exact propext ⟨fun h=>h.2,fun h=>⟨⟨by omega,by omega⟩,h⟩⟩
theorem ans135{g:Gr}(hg:g.ok)(hi:g.inputs≤1000000)(h0:0≤g.inputs):Ans Pg 135 [g.av] (aI g.vars):=by
 intro S
 have hl:=hg.len
 refine ACalls.ans_v (calls135 ?_)
 unfold m135 Gr.av
 refine boxA_of rfl fun S1 k1 n1 o1=>?_
 rw[shift_p,ld1_p o1 rfl rfl,bin_add (by omega) (by omega),shift_p,ld1_p o1 rfl rfl,lenS_pL,bin_add (by omega) (by omega)]
 exact⟨rfl,k1⟩
theorem ans183{p:Int × Int}{v:Int}(h:i64R p.1∧i64R p.2):Ans Pg 183 [.a [aI p.1,aI p.2],aI v] (aB (may p v)):=by
 intro S
 refine ACalls.ans_v (calls183 ?_)
 unfold m183 may
 refine boxA_of rfl fun S1 k1 n1 o1=>?_
 have e1:∀ K:AV→Store→Prop,ixA 2 1 (.p S.n 0 0) (.v (.int .i64 1)) S1 K=K (.p S.n 0 1) S1:=fun K=>ixA_p (z:=1) (by decide)
 have e0:∀ K:AV→Store→Prop,ixA 2 1 (.p S.n 0 0) (.v (.int .i64 0)) S1 K=K (.p S.n 0 0) S1:=fun K=>ixA_p (z:=0) (by decide)
 rw[e1,ld1_p o1 rfl rfl,bin_geq,onB_v]
 refine gd_of (fun h1=>?_) (fun h1=>⟨by simp only[h1,Bool.false_and],k1⟩)
 rw[e0,ld1_p o1 rfl rfl,bin_half h.1,e1,ld1_p o1 rfl rfl,bin_half h.2,bin_gtr,onB_v]
 refine gd_of (fun h2=>?_) (fun h2=>⟨by simp only[h1,h2,Bool.false_and,Bool.true_and],k1⟩)
 rw[e0,ld1_p o1 rfl rfl,bin_half h.1,bin_lss]
 exact⟨by simp only[h1,h2,Bool.true_and],k1⟩
theorem ans88{g:Gr}{l:Int}(hg:g.ok)(hl:i64R l):Ans Pg 88 [g.av,aI l] (aB (g.lit l)):=by
 intro S
 refine ACalls.ans_v (calls88 ?_)
 unfold m88 Gr.av Gr.lit
 refine boxA_of rfl fun S1 k1 n1 o1=>?_
 rw[shift_p,ld1_p o1 rfl rfl,bin_geq,onB_v]
 refine gd_of (fun h1=>?_) (fun h1=>⟨by simp only[h1,Bool.false_and],k1⟩)
 rw[shift_p,ld1_p o1 rfl rfl,bin_leq,onB_v]
 refine gd_of (fun h2=>?_) (fun h2=>⟨by simp only[h1,h2,Bool.false_and,Bool.true_and],k1⟩)
 rw[bin_geq,onB_v]
 refine gd_of (fun h3=>?_) (fun h3=>⟨by simp only[h1,h2,h3,Bool.false_and,Bool.true_and],k1⟩)
 rw[bin_half hl,ldN_p (n:=2) o1 rfl]
 refine callF_ans (ans135 hg (by have:=dT h2;omega) (dT h1)) ?_
 rw[bin_lss]
 exact⟨by simp only[h1,h2,h3,Bool.true_and],k1⟩
def gat(l:List (Int × Int)):Nat→List (Key × AV)
 |0=>[]
 |i+1=>match kix (gat l i) (.p (l.getD i (0,0)).1 (l.getD i (0,0)).2)with
  |some _=>gat l i
  |none=>gat l i ++ [(.p (l.getD i (0,0)).1 (l.getD i (0,0)).2,aI i)]
theorem kix_none{es:List (Key × AV)}{k:Key}:kix es k=none↔k∉es.map (·.1):=by
 unfold kix
 rw[List.findIdx?_eq_none_iff]
 simp only[List.mem_map,not_exists,not_and]
 constructor
 ·intro h x hx e
  have:=h x hx
  simp[e]at this
 ·intro h x hx
  simpa using h x hx
theorem gat_keys{l:List (Int × Int)}:∀{i:Nat},i≤l.length→∀ k,k∈(gat l i).map (·.1)↔∃ p∈l.take i,k = .p p.1 p.2
 |0,_,k=>by simp[gat]
 |i+1,h,k=>by
  have ih:=gat_keys (l:=l) (i:=i) (by omega)
  have hi:i<l.length:=by omega
  have hg:l.getD i (0,0)=l[i]:=by simp[List.getD_eq_getElem?_getD,hi]
  rw[List.take_add_one,List.getElem?_eq_getElem hi]
  unfold gat
  rw[hg]
  split
  ·rename_i j hj
   rw[ih]
   have hm:Key.p l[i].1 l[i].2∈(gat l i).map (·.1):=by
    by_cases c:Key.p l[i].1 l[i].2∈(gat l i).map (·.1)
    ·exact c
    ·rw[kix_none.2 c]at hj;cases hj
   constructor
   ·rintro⟨p,hp,e⟩
    exact⟨p,List.mem_append_left _ hp,e⟩
   ·rintro⟨p,hp,e⟩
    rcases List.mem_append.1 hp with hp|hp
    ·exact⟨p,hp,e⟩
    ·have:p=l[i]:=by simpa using hp
     subst this
     rw[e];exact(ih _).1 hm
  ·rw[List.map_append,List.mem_append,ih]
   constructor
   ·rintro(⟨p,hp,e⟩|hk)
    ·exact⟨p,List.mem_append_left _ hp,e⟩
    ·exact⟨l[i],List.mem_append_right _ (by simp),by simpa using hk⟩
   ·rintro⟨p,hp,e⟩
    rcases List.mem_append.1 hp with hp|hp
    ·exact .inl ⟨p,hp,e⟩
    ·have:p=l[i]:=by simpa using hp
     subst this
     exact .inr (by simp[e])
theorem gat_le(l:List (Int × Int)):∀ i:Nat,(gat l i).length≤i
 |0=>Nat.le_refl _
 |i+1=>by
  have:=gat_le l i
  unfold gat
  split
  ·omega
  ·simp;omega
theorem gat_all{l:List (Int × Int)}:∀{i:Nat},i≤l.length→((gat l i).length=i↔(l.take i).Nodup)
 |0,_=>by simp[gat]
 |i+1,h=>by
  have ih:=gat_all (l:=l) (i:=i) (by omega)
  have hi:i<l.length:=by omega
  have hk:=gat_keys (l:=l) (i:=i) (by omega) (.p l[i].1 l[i].2)
  have hle:=gat_le l i
  have hg:l.getD i (0,0)=l[i]:=by simp[List.getD_eq_getElem?_getD,hi]
  rw[List.take_add_one,List.getElem?_eq_getElem hi,List.nodup_append]
  unfold gat
  rw[hg]
  split
  ·rename_i j hj
   have hm:Key.p l[i].1 l[i].2∈(gat l i).map (·.1):=by
    by_cases c:Key.p l[i].1 l[i].2∈(gat l i).map (·.1)
    ·exact c
    ·rw[kix_none.2 c]at hj;cases hj
   obtain⟨p,hp,e⟩:=hk.1 hm
   constructor
   ·intro h;omega
   ·rintro⟨_,_,h3⟩
    refine absurd ?_ (h3 p hp l[i] (by simp))
    simp only[Key.p.injEq]at e
    exact Prod.ext e.1.symm e.2.symm
  ·rename_i hn
   rw[kix_none,hk]at hn
   rw[List.length_append,List.length_singleton,Nat.add_right_cancel_iff,ih]
   constructor
   ·intro h
    refine⟨h,by simp,fun a ha b hb=>?_⟩
    have:b=l[i]:=by simpa using hb
    subst this
    rintro rfl
    exact hn ⟨_,ha,rfl⟩
   ·exact fun h=>h.1
@[simp] theorem extr0{x:AV}{l:List AV}{S:Store}{K:AV→Store→Prop}:extr (.t (x :: l)) 0 S K=K x S:=by simp[extr]
@[simp] theorem extr1{x y:AV}{l:List AV}{S:Store}{K:AV→Store→Prop}:extr (.t (x :: y :: l)) 1 S K=K y S:=by simp[extr]
@[simp] theorem extr2{x y z:AV}{l:List AV}{S:Store}{K:AV→Store→Prop}:extr (.t (x :: y :: z :: l)) 2 S K=K z S:=by simp[extr]
theorem lkM_m{S:Store}{kk:KK}{z:AV}{c:Bool}{id:Nat}{k:AV}{key:Key}{es:List (Key × AV)}{lv:Bool}{K:AV→Store→Prop}(h:S.obj id=some (.map kk es lv))(hk:keyA kk k=some key):lkM kk z c (.m id) k S K=K (lkV z c (lkp es key)) S:=by
 simp[lkM,entsA,h,hk]
theorem updM_m{S:Store}{kk:KK}{id:Nat}{k v:AV}{key:Key}{es:List (Key × AV)}{K:AV→Store→Prop}(h:S.obj id=some (.map kk es true))(hk:keyA kk k=some key):updM kk (.m id) k v S K=K .j (S.upd id (.map kk (insM es key v) true)):=by
 simp[updM,h,hk]
theorem lenM_m{S:Store}{kk:KK}{id:Nat}{es:List (Key × AV)}{lv:Bool}{K:AV→Store→Prop}(h:S.obj id=some (.map kk es lv)):lenM (.m id) S K=K (aI es.length) S:=by
 simp[lenM,h]
theorem keyP(a b:Int):keyA (.p .i64) (.a [aI a,aI b])=some (.p a b):=by simp[keyA]
theorem lkp_isSome(es:List (Key × AV))(k:Key):(lkp es k).isSome=(kix es k).isSome:=by
 cases h:kix es k with
 |none=>simp[lkp,h]
 |some i =>
  obtain⟨e,h1,h2⟩:=lkp_row (kk:=.s) h
  simp[h2]
theorem make_once{S:Store}{id:Nat}{z g0:AV}{d st:Int}{l:List (Int × Int)}{Q:AEnd→Store→Prop}(hl:l.length≤1000000)(hid:id<S.n)(h:S.obj id=some (onceO 195 d st z [pL l,g0]))
    (k:∀ S2 m,S.n≤S2.n→(∀ x,x<S.n→x≠id→S2.obj x=S.obj x)→m≠id→S2.obj id=some (onceO 195 d st z [pL l,.m m])→S2.obj m=some (.map (.p .i64) (gat l l.length) true)→Q (.ret (.t [])) S2):
    ACalls Pg 204 [.p id 0 0] S Q:=by
 refine calls204 ?_
 unfold m204 mkM
 have h':=(new_lt (o:=.map (.p .i64) [] true) hid).trans h
 show nilChk _ _ _
 rw[nilChk_p,shift_p]
 refine stF_of h' (by simp) rfl fun S1 n1 o1 f1=>?_
 rw[nilChk_p,shift_p,ld1_p o1 rfl rfl,lenS_pL]
 have hm:S.n≠id:=by omega
 refine loop204_0 (fun y S'=>S.n<S'.n∧(∀ x,x<S.n→x≠id→S'.obj x=S.obj x)∧S'.obj id=some (onceO 195 d st z [pL l,.m S.n])∧∃ i:Nat,y=aI i∧i≤l.length∧S'.obj S.n=some (.map (.p .i64) (gat l i) true))
  (fun y _=>l.length - ((intA y).getD 0).toNat) ⟨by rw[n1,new_n];omega,fun x hx hne=>by rw[f1 x hne,new_lt hx],o1,0,rfl,Nat.zero_le _,by rw[f1 _ hm,new_self];rfl⟩ ?_
 rintro _ S2 ⟨n2,f2,o2,i,rfl,hi,m2⟩ KE hKE
 unfold b204_0
 rw[bin_lss,onB_v]
 refine gd_of (fun hlt=>?_) (fun hge=>?_)
 ·have hlt:i<l.length:=by simpa using hlt
  have hg:l.getD i (0,0)=l[i]:=by simp[List.getD_eq_getElem?_getD,hlt]
  rw[ixS_pL hlt,ldN_q2]
  refine boxA_of rfl fun S3 k3 n3 o3=>?_
  refine stA_of o3 rfl rfl fun S4 n4 o4 f4=>?_
  have p4:S4.obj id=_:=(f4 id (by omega)).trans ((k3.2 id (by omega)).trans o2)
  have q4:S4.obj S.n=_:=(f4 S.n (by omega)).trans ((k3.2 S.n n2).trans m2)
  have r4:∀ x,x<S.n→x≠id→S4.obj x=S.obj x:=fun x hx hne=>(f4 x (by omega)).trans ((k3.2 x (by omega)).trans (f2 x hx hne))
  show ∃ q15:AV,_
  refine⟨_,by rw[nilChk_p];exact⟨rfl,rfl⟩,_,by rw[shift_p];exact⟨rfl,rfl⟩,_,by rw[ld1_p p4 rfl rfl];exact⟨rfl,rfl⟩,_,by rw[ldN_p (n:=2) o4 rfl];exact⟨rfl,rfl⟩,_,by rw[lkM_m q4 (keyP _ _)];exact⟨rfl,rfl⟩,_,by rw[lkV,extr0];exact⟨rfl,rfl⟩,_,by rw[lkV,extr1];exact⟨rfl,rfl⟩,?_⟩
  rw[lkp_isSome,un_not,onB_v]
  have hadd:∀ K:AV→Store→Prop,∀ S,bin .add 0 (.v (.int .i64 (i:Int))) (.v (.int .i64 1)) S K=K (aI (i+1:Nat)) S:=fun K S=>bin_add (by omega) (by omega) 0
  have hμ:l.length - ((intA (aI (i+1:Nat))).getD 0).toNat<l.length - ((intA (aI i)).getD 0).toNat:=by simp[intA];omega
  refine gd_of (fun hn=>?_) (fun hn=>?_)
  ·have hn:kix (gat l i) (.p l[i].1 l[i].2)=none:=by simpa using hn
   refine⟨_,fun T hT=>by rw[nilChk_p];exact⟨rfl,rfl⟩,_,fun T hT=>by rw[shift_p];exact⟨rfl,rfl⟩,_,fun T hT=>by rw[ld1_p ((hT.2 id (by omega)).trans p4) rfl rfl];exact⟨rfl,rfl⟩,_,fun T hT=>by rw[ldN_p (n:=2) ((hT.2 _ (by omega)).trans o4) rfl];exact⟨rfl,rfl⟩,?_⟩
   rw[updM_m q4 (keyP _ _),hadd]
   refine hKE _ _ ⟨by simp;omega,fun x hx hne=>by rw[upd_ne (by omega)];exact r4 x hx hne,by rw[upd_ne (by omega)];exact p4,i+1,rfl,hlt,?_⟩ hμ
   rw[upd_self]
   simp only[gat,hg,hn,insM_none hn]
  ·obtain⟨j,hj⟩:∃ j,kix (gat l i) (.p l[i].1 l[i].2)=some j:=by
     cases e:kix (gat l i) (.p l[i].1 l[i].2)with
     |none=>simp[e]at hn
     |some j=>exact⟨j,rfl⟩
   rw[hadd]
   refine hKE _ _ ⟨by omega,r4,p4,i+1,rfl,hlt,?_⟩ hμ
   rw[q4]
   simp only[gat,hg,hj]
 ·have hge:i=l.length:=by simp at hge;omega
  subst hge
  exact k S2 S.n (by omega) f2 hm o2 m2
theorem many_once{S:Store}{id:Nat}{z g0:AV}{l:List (Int × Int)}{Q:AEnd→Store→Prop}(hl:l.length≤1000000)(hid:id<S.n)(h:S.obj id=some (onceO 195 0 0 z [pL l,g0]))
    (k:∀ S2,S.n≤S2.n→(∀ x,x<S.n→x≠id→S2.obj x=S.obj x)→Q (.ret (aI (gat l l.length).length)) S2):
    ACalls Pg 184 [.p id 0 0] S Q:=by
 refine calls184 ?_
 unfold m184
 rw[nilChk_p,shift_p]
 refine .inl (do_once h (.inl (make_once hl (by simpa using hid) (upd_self _ _) fun S2 m n2 f2 hm o2 m2=>⟨_,o2,?_⟩)))
 show nilChk _ _ _
 rw[nilChk_p,shift_p,ld1_p (show(S2.upd id (onceO 195 1 0 z [pL l,.m m])).obj id=some (.cells 195 [[aW32 1,aS32 0,z,pL l,.m m]] true)from upd_self _ _) rfl rfl]
 rw[lenM_m (by rw[upd_ne hm];exact m2)]
 refine k _ (by simpa using n2) fun x hx hne=>?_
 rw[upd_ne hne,f2 x (by simpa using hx) hne,upd_ne hne]
theorem bld_of{pl:List (Nat × Nat)}{zc:List AV}{parts:List (Nat × AV)}{S:Store}{K:AV→Store→Prop}{cs:List AV}(h:fillA (fun i=>pl[i]?) zc parts=some cs):bld pl zc parts S K=K (.a cs) S:=by
 simp[bld,h]
theorem right_of{g:Gr}(hg:g.ok){S:Store}{id:Nat}(hid:id<S.n){z g0:AV}(h:S.obj id=some (onceO 195 0 0 z [pL g.ands,g0])){Q:AEnd→Store→Prop}
    (k:∀ S2,S.n≤S2.n→(∀ x,x<S.n→x≠id→S2.obj x=S.obj x)→Q (.ret (aB g.right)) S2):ACalls Pg 164 [g.av,.p id 0 0] S Q:=by
 have hlen:=hg.len
 refine calls164 ?_
 unfold m164 Gr.av
 refine boxA_of rfl fun S1 k1 n1 o1=>?_
 have kk:∀ b:Bool,g.right=b→Q (.ret (aB b)) S1:=fun b e=>e ▸ k S1 (by omega) fun x hx _=>k1.2 x hx
 rw[shift_p,ld1_p o1 rfl rfl,bin_lss,onB_v]
 refine gd_of (fun h1=>kk _ ?_) (fun h1=>?_)
 ·have h1:=dT h1
  simp[Gr.right,show ¬ 0≤g.inputs by omega]
 have h1:0≤g.inputs:=by simpa using h1
 rw[shift_p,ld1_p o1 rfl rfl,bin_gtr,onB_v]
 refine gd_of (fun h2=>kk _ ?_) (fun h2=>?_)
 ·have h2:=dT h2
  simp[Gr.right,show ¬ g.inputs≤2000 by omega]
 have h2:g.inputs≤2000:=by simpa using h2
 rw[shift_p,ld1_p o1 rfl rfl,lenS_pL,bin_gtr,onB_v]
 refine gd_of (fun h3=>kk _ ?_) (fun h3=>?_)
 ·have h3:=dT h3
  have:¬ (g.ands.length:Int)≤2000:=by omega
  simp only[Gr.right,this,decide_false,Bool.false_and,Bool.and_false]
 have h3:g.ands.length≤2000:=by have:=dF h3;omega
 rw[ldN_p (n:=2) o1 rfl]
 refine callF_ans (ans135 hg (by omega) h1) ?_
 rw[bin_gtr,onB_v]
 refine gd_of (fun h4=>kk _ ?_) (fun h4=>?_)
 ·have h4:=dT h4
  simp[Gr.right,show ¬ g.vars≤2000 by omega]
 have h4:g.vars≤2000:=by simpa using h4
 rw[shift_p,ld1_p o1 rfl rfl,lenS_pL]
 refine loop164_0 (fun y S'=>Keep S1 S'∧∃ i:Nat,y=aI i∧i≤g.ands.length∧∀ j,j<i→may (g.ands.getD j (0,0)) (g.inputs+1+j)=true)
  (fun y _=>g.ands.length - ((intA y).getD 0).toNat) ⟨Keep.refl _,0,rfl,Nat.zero_le _,fun j hj=>(Nat.not_lt_zero _ hj).elim⟩ ?_
 rintro _ S2 ⟨k2,i,rfl,hi,hmay⟩ KE hKE
 have o2:=(k2.2 S.n (by omega)).trans o1
 have b2:=(k2.2 id (by omega)).trans ((k1.2 id hid).trans h)
 unfold b164_0
 rw[bin_lss,onB_v]
 refine gd_of (fun hlt=>?_) (fun hge=>?_)
 ·have hlt:i<g.ands.length:=by simpa using hlt
  have hg':g.ands.getD i (0,0)=g.ands[i]:=by simp[List.getD_eq_getElem?_getD,hlt]
  rw[ixS_pL hlt,ldN_q2]
  refine boxA_of rfl fun S3 k3 n3 o3=>?_
  refine stA_of o3 rfl rfl fun S4 n4 o4 f4=>?_
  have k4:Keep S1 S4:=(k2.trans k3).st (by have:=k2.1;omega) n4 f4
  have p4:=(k4.2 S.n (by omega)).trans o1
  rw[ldN_p (n:=2) o4 rfl,shift_p,ld1_p p4 rfl rfl,bin_add (by omega) (by omega),bin_add (by omega) (by omega)]
  refine callF_ans (ans183 (p:=g.ands[i]) (hg.pairs _ (List.getElem_mem hlt))) ?_
  rw[un_not,onB_v]
  refine gd_of (fun h5=>?_) (fun h5=>?_)
  ·have:g.right=false:=by
     have hr:(List.range g.ands.length).all (fun i=>may (g.ands.getD i (0,0)) (g.inputs+1+i))=false:=by
      rw[List.all_eq_false]
      exact⟨i,by simpa using hlt,by rw[hg'];simpa using h5⟩
     simp only[Gr.right,hr,Bool.false_and,Bool.and_false]
   rw[←this]
   exact k S4 (by have:=k4.1;omega) fun x hx _=>(k4.2 x (by omega)).trans (k1.2 x hx)
  ·have hadd:∀ K:AV→Store→Prop,∀ S,bin .add 0 (.v (.int .i64 (i:Int))) (.v (.int .i64 1)) S K=K (aI (i+1:Nat)) S:=fun K S=>bin_add (by omega) (by omega) 0
   rw[hadd]
   refine hKE _ _ ⟨k4,i+1,rfl,hlt,fun j hj=>?_⟩ (by simp[intA];omega)
   rcases Nat.lt_or_ge j i with hj'|hj'
   ·exact hmay j hj'
   ·have:j=i:=by omega
    subst this
    rw[hg']
    simpa using h5
 ·have hge:i=g.ands.length:=by simp at hge;omega
  subst hge
  have hn2:=k2.1
  refine⟨_,fun T hT=>by rw[shift_p];exact⟨rfl,rfl⟩,_,fun T hT=>by rw[ld1_p ((hT.2 _ (by omega)).trans o2) rfl rfl];exact⟨rfl,rfl⟩,_,fun T hT=>by rw[lenS_pL];exact⟨rfl,rfl⟩,.inl (many_once hlen (by omega) b2 fun S3 n3 f3=>?_)⟩
  have o3:=(f3 S.n (by omega) (by omega)).trans o2
  refine⟨fun T hT=>by rw[lenS_pL];exact⟨rfl,rfl⟩,fun T hT=>by rw[ld1_p ((hT.2 _ (by omega)).trans o3) rfl rfl];exact⟨rfl,rfl⟩,fun T hT=>by rw[shift_p];exact⟨rfl,rfl⟩,_,fun T hT=>by rw[bin_eql];exact⟨rfl,rfl⟩,?_⟩
  have:g.right=decide (((gat g.ands g.ands.length).length:Int)=g.ands.length):=by
   have hr:(List.range g.ands.length).all (fun i=>may (g.ands.getD i (0,0)) (g.inputs+1+i))=true:=by
    rw[List.all_eq_true]
    exact fun j hj=>hmay j (by simpa using hj)
   have hall:=gat_all (l:=g.ands) (i:=g.ands.length) (Nat.le_refl _)
   rw[List.take_length]at hall
   simp only[Gr.right,hr,Bool.true_and,h1,h2,h4,show(g.ands.length:Int)≤2000 by omega,decide_true,Int.natCast_inj,hall]
  rw[←this]
  exact k S3 (by omega) fun x hx hne=>(f3 x (by omega) hne).trans ((k2.2 x (by omega)).trans (k1.2 x hx))
theorem ans130{g:Gr}(hg:g.ok):Ans Pg 130 [g.av] (aB g.right):=by
 intro S
 refine ACalls.ans_v (calls130 ?_)
 unfold m130 Gr.av
 refine boxA_of rfl fun S1 k1 n1 o1=>?_
 rw[ldN_p (n:=2) o1 rfl,shift_p,ld1_p o1 rfl rfl]
 rw[bld_of (cs:=[aW32 0,aS32 0,.v (.int .u32 0),pL g.ands,.v (.map none)]) rfl]
 refine boxA_of rfl fun S2 k2 n2 o2=>?_
 refine .inl (right_of hg (by omega) o2 fun S3 n3 f3=>⟨rfl,k1.trans ⟨by omega,fun x hx=>?_⟩⟩)
 rw[f3 x (by omega) (by omega),k2.2 x hx]
end
end Go.Proofs.YtolgpokppnajdaaGreat.G

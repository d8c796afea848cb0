/- Tree -/
import Derived.Test.YtfhekpnddoihkaaGreatProg
import Derived.KernelRfl
import Derived.Test.YtfhekpnddoihkaaGreatTgT2
set_option linter.unusedVariables false
set_option linter.unusedSimpArgs false
namespace Go.Proofs.YtfhekpnddoihkaaGreat.G
open Go Go.Ab
noncomputable section
section
set_option maxRecDepth 100000
abbrev Pg : Program := Tryz.prog
theorem dT{p:Prop}[Decidable p]:decide p=true→p:=of_decide_eq_true
theorem dF{p:Prop}[Decidable p]:decide p=false→¬p:=of_decide_eq_false
theorem gSm{α:Type}{l:List α}{i:Nat}{a:α}:l[i]?=some a↔∃ h:i<l.length,l[i]=a:=List.getElem?_eq_some_iff
def c3:Code:=(Tryz.f3.body).getD .skip
def r3:List ResultVar:=Tryz.f3.results.toList
def env3_0(y3 y4 y11 y12 y13 y14 y15:AV):List AV:=[y3,y4,y11,y12,y13,y14,y15]
def lv3_0:List Nat:=[3,4,11,12,13,14,15]
def ms3:List (List Nat):=[lv3_0,[]]
def m3(x0 x1 x2 x3 x4:AV)(S:Store)(Q:PoT):Prop:=
 callF Pg 4 [x0,x1] S Q fun c S=>extr c 0 S fun d S=>extr c 1 S fun e S=>boxN 29 8 (.a [.v (.int .i64 0),.nl,.nl,.nl,.nl,.nl,.nl,.nl]) S fun f S=>boxN 32 4 (.a [.v (.int .i64 0),.v (.string ByteArray.empty),.v (.int .i64 0),.nl]) S fun g S=>stN 8 f d S fun h S=>stN 4 g e S fun i S=>ldN 8 f S fun k S=>ldN 4 g S fun l S=>callF Pg 5 [k,l,x2] S Q fun m S=>boxN 37 5 (.a [.v (.int .i64 0),.v (.int .i64 0),.v (.int .i64 0),.nl,.nl]) S fun n S=>stN 5 n m S fun o S=>ldN 5 n S fun p S=>callF Pg 6 [p,.v (.int .i64 3000)] S Q fun q S=>bin .lss 0 q (.v (.int .i64 0)) S fun r S=>onB r fun b=>gd b (ldN 5 n S fun s S=>callF Pg 6 [s,.v (.int .i64 3000)] S Q fun t S=>bin .lss 0 t (.v (.int .i64 0)) S fun u S=>onB u fun b=>gd b (callF Pg 8 [] S Q fun w S=>Q (.ret w) S) (Q (.ret (.v (.bool false))) S)) (ldN 8 f S fun x S=>ldN 4 g S fun y S=>ldN 5 n S fun z S=>callF Pg 7 [x,y,z] S Q fun A S=>un .not A S fun B S=>onB B fun b=>gd b (ldN 5 n S fun C S=>callF Pg 6 [C,.v (.int .i64 3000)] S Q fun D S=>bin .lss 0 D (.v (.int .i64 0)) S fun E S=>onB E fun b=>gd b (callF Pg 8 [] S Q fun F S=>Q (.ret F) S) (Q (.ret (.v (.bool false))) S)) (loopV lv3_0 (vc Pg (c3.at_ [1,1,1,1,1,0,1,0,0]) (ms3.drop 1)) 146 (env3_0 x3 x4 f g n n (.v (.int .i64 0))) S (blockK 0 (seqK (vc Pg (c3.at_ [1,1,1,1,1,1]) (ms3.drop 1)) (bodyK Pg r3 Q)))))
theorem calls3{x0 x1 x2 x3 x4:AV}{S:Store}{Q:PoT}(h:m3 x0 x1 x2 x3 x4 S Q):ACalls Pg 3 [x0,x1,x2,x3,x4] S Q:=
 calls_of_vc (fn:=Tryz.f3) (c:=c3) (n:=146) Tryz.func3 (by kernel_rfl) (by kernel_rfl) (by kernel_rfl) ms3 (Eq.mpr (by kernel_rfl) h)
def b3_0(y3 y4 y11 y12 y13 y14 y15:AV)(S:Store)(KE0:KeT)(Q:PoT):Prop:=
 convI .i64 y3 S fun a S=>bin .quo 0 a (.v (.int .i64 16)) S fun c S=>bin .lss 0 y15 c S fun d S=>onB d fun b=>gd b (nilChk y14 S fun e S=>shift e 4 S fun f S=>ld1 f S fun g S=>lenS g S fun h S=>bin .gtr 0 h (.v (.int .i64 0)) S fun i S=>onB i fun b=>gd b ((fun S0:Store=>∃ k:AV,(nilChk y14 S fun l S=>l=k∧S=S0)∧∃ m:AV,(shift k 4 S fun n S=>n=m∧S=S0)∧∃ o:AV,(ld1 m S fun p S=>p=o∧S=S0)∧∃ q:AV,(nilChk y14 S fun r S=>r=q∧S=S0)∧∃ s:AV,(shift q 4 S fun t S=>t=s∧S=S0)∧∃ u:AV,(ld1 s S fun w S=>w=u∧S=S0)∧∃ x:AV,(lenS u S fun y S=>y=x∧S=S0)∧∃ z:AV,(bin .rem 0 y15 x S fun A S=>A=z∧S=S0)∧∃ B:AV,(ixS 37 5 o z S fun C S=>C=B∧S=S0)∧bin .add 0 y15 (.v (.int .i64 1)) S fun D S=>KE0 146 (env3_0 y3 y4 y11 y12 y13 B D) S) S) (bin .rem 0 y3 (.v (.int .u8 6)) S fun E S=>bin .eql 0 E (.v (.int .u8 0)) S fun F S=>onB F fun b=>gd b (convI .i64 y3 S fun G S=>bin .quo 0 G (.v (.int .i64 6)) S fun H S=>bin .rem 0 H (.v (.int .i64 8)) S fun I S=>bin .add 0 (.v (.int .i64 1)) I S fun J S=>nilChk y14 S fun K S=>shift K 0 S fun L S=>stN 1 L J S fun M S=>callF Pg 8 [] S Q fun N S=>onB N fun b=>gd b (ldN 8 y11 S fun O S=>ldN 4 y12 S fun P S=>ldN 5 y13 S fun R S=>callF Pg 7 [O,P,R] S Q fun U S=>Q (.ret U) S) (Q (.ret (.v (.bool false))) S)) (bin .eql 0 E (.v (.int .u8 1)) S fun V S=>onB V fun b=>gd b (nilChk y14 S fun W S=>shift W 1 S fun X S=>stN 1 X y4 S fun Y S=>callF Pg 8 [] S Q fun Z S=>onB Z fun b=>gd b (ldN 8 y11 S fun a0 S=>ldN 4 y12 S fun a1 S=>ldN 5 y13 S fun a2 S=>callF Pg 7 [a0,a1,a2] S Q fun a3 S=>Q (.ret a3) S) (Q (.ret (.v (.bool false))) S)) (bin .eql 0 E (.v (.int .u8 2)) S fun a4 S=>onB a4 fun b=>gd b (nilChk y14 S fun a5 S=>shift a5 2 S fun a6 S=>stN 1 a6 y4 S fun a7 S=>callF Pg 8 [] S Q fun a8 S=>onB a8 fun b=>gd b (ldN 8 y11 S fun a9 S=>ldN 4 y12 S fun b0 S=>ldN 5 y13 S fun b1 S=>callF Pg 7 [a9,b0,b1] S Q fun b2 S=>Q (.ret b2) S) (Q (.ret (.v (.bool false))) S)) (bin .eql 0 E (.v (.int .u8 3)) S fun b3 S=>onB b3 fun b=>gd b (nilChk y14 S fun b4 S=>shift b4 3 S fun b5 S=>ld1 b5 S fun b6 S=>bslN 3 1 1 [.v (.int .i64 0)] [(0,y4)] S fun b7 S=>appS 3 1 8 b6 b7 S fun b8 S=>nilChk y14 S fun b9 S=>shift b9 3 S fun c0 S=>stN 1 c0 b8 S fun c1 S=>callF Pg 8 [] S Q fun c2 S=>onB c2 fun b=>gd b (ldN 8 y11 S fun c3 S=>ldN 4 y12 S fun c4 S=>ldN 5 y13 S fun c5 S=>callF Pg 7 [c3,c4,c5] S Q fun c6 S=>Q (.ret c6) S) (Q (.ret (.v (.bool false))) S)) (bin .eql 0 E (.v (.int .u8 4)) S fun c7 S=>onB c7 fun b=>gd b (∃ c8:AV,(∀ T:Store,Keep S T→nilChk y14 T fun c9 S=>c9=c8∧S=T)∧∃ d0:AV,(∀ T:Store,Keep S T→shift c8 4 T fun d1 S=>d1=d0∧S=T)∧∃ d2:AV,(∀ T:Store,Keep S T→ld1 d0 T fun d3 S=>d3=d2∧S=T)∧∃ d4:AV,(∀ T:Store,Keep S T→bld [(0,1),(1,1),(2,1),(3,1),(4,1)] [.v (.int .i64 0),.v (.int .i64 0),.v (.int .i64 0),.nl,.nl] [(0,(.v (.int .i64 1))),(1,y4)] T fun d5 S=>d5=d4∧S=T)∧∃ d6:AV,(∀ T:Store,Keep S T→lenS d2 T fun d7 S=>d7=d6∧S=T)∧∃ d8:AV,(∀ T:Store,Keep S T→bslN 37 5 1 [.v (.int .i64 0),.v (.int .i64 0),.v (.int .i64 0),.nl,.nl] [(0,(absC (.agg #[(.int .i64 0),(.int .i64 0),(.int .i64 0),(.slice none 0 0),(.slice none 0 0)])))] T fun d9 S=>d9=d8∧S=T)∧appS 37 5 72 d2 d8 S fun e0 S=>∃ e1:AV,(∀ T:Store,Keep S T→ixS 37 5 e0 d6 T fun e2 S=>e2=e1∧S=T)∧∃ e3:AV,(∀ T:Store,Keep S T→nilChk y14 T fun e4 S=>e4=e3∧S=T)∧∃ e5:AV,(∀ T:Store,Keep S T→shift e3 4 T fun e6 S=>e6=e5∧S=T)∧(stN 5 e1 d4 S fun e7 S=>(∀ T:Store,Keep S T→shift e3 4 T fun e8 S=>e8=e5∧S=T)∧(∀ T:Store,Keep S T→nilChk y14 T fun e9 S=>e9=e3∧S=T)∧stN 1 e5 e0 S fun f0 S=>(∀ T:Store,Keep S T→ixS 37 5 e0 d6 T fun f1 S=>f1=e1∧S=T)∧callF Pg 8 [] S Q fun f2 S=>onB f2 fun b=>gd b (ldN 8 y11 S fun f3 S=>ldN 4 y12 S fun f4 S=>ldN 5 y13 S fun f5 S=>callF Pg 7 [f3,f4,f5] S Q fun f6 S=>Q (.ret f6) S) (Q (.ret (.v (.bool false))) S))∧(stN 1 e5 e0 S fun f7 S=>(∀ T:Store,Keep S T→ixS 37 5 e0 d6 T fun f8 S=>f8=e1∧S=T)∧stN 5 e1 d4 S fun f9 S=>(∀ T:Store,Keep S T→shift e3 4 T fun g0 S=>g0=e5∧S=T)∧(∀ T:Store,Keep S T→nilChk y14 T fun g1 S=>g1=e3∧S=T)∧callF Pg 8 [] S Q fun g2 S=>onB g2 fun b=>gd b (ldN 8 y11 S fun g3 S=>ldN 4 y12 S fun g4 S=>ldN 5 y13 S fun g5 S=>callF Pg 7 [g3,g4,g5] S Q fun g6 S=>Q (.ret g6) S) (Q (.ret (.v (.bool false))) S))) (nilChk y14 S fun g7 S=>shift g7 4 S fun g8 S=>ld1 g8 S fun g9 S=>lenS g9 S fun h0 S=>bin .gtr 0 h0 (.v (.int .i64 0)) S fun h1 S=>onB h1 fun b=>gd b (∃ h2:AV,(∀ T:Store,Keep S T→nilChk y14 T fun h3 S=>h3=h2∧S=T)∧∃ h4:AV,(∀ T:Store,Keep S T→shift h2 4 T fun h5 S=>h5=h4∧S=T)∧∃ h6:AV,(∀ T:Store,Keep S T→ld1 h4 T fun h7 S=>h7=h6∧S=T)∧∃ h8:AV,(∀ T:Store,Keep S T→nilChk y14 T fun h9 S=>h9=h8∧S=T)∧∃ i0:AV,(∀ T:Store,Keep S T→shift h8 4 T fun i1 S=>i1=i0∧S=T)∧∃ i2:AV,(∀ T:Store,Keep S T→ld1 i0 T fun i3 S=>i3=i2∧S=T)∧∃ i4:AV,(∀ T:Store,Keep S T→lenS i2 T fun i5 S=>i5=i4∧S=T)∧∃ i6:AV,(∀ T:Store,Keep S T→bin .sub 0 i4 (.v (.int .i64 1)) T fun i7 S=>i7=i6∧S=T)∧∃ i8:AV,(∀ T:Store,Keep S T→slc 37 5 h6 none (some i6) none T fun i9 S=>i9=i8∧S=T)∧∃ k0:AV,(∀ T:Store,Keep S T→nilChk y14 T fun k1 S=>k1=k0∧S=T)∧∃ k2:AV,(∀ T:Store,Keep S T→shift k0 4 T fun k3 S=>k3=k2∧S=T)∧stN 1 k2 i8 S fun k4 S=>callF Pg 8 [] S Q fun k5 S=>onB k5 fun b=>gd b (ldN 8 y11 S fun k6 S=>ldN 4 y12 S fun k7 S=>ldN 5 y13 S fun k8 S=>callF Pg 7 [k6,k7,k8] S Q fun k9 S=>Q (.ret k9) S) (Q (.ret (.v (.bool false))) S)) (callF Pg 8 [] S Q fun l0 S=>onB l0 fun b=>gd b (ldN 8 y11 S fun l1 S=>ldN 4 y12 S fun l2 S=>ldN 5 y13 S fun l3 S=>callF Pg 7 [l1,l2,l3] S Q fun l4 S=>Q (.ret l4) S) (Q (.ret (.v (.bool false))) S))))))))) (bin .rem 0 y3 (.v (.int .u8 6)) S fun l5 S=>bin .eql 0 l5 (.v (.int .u8 0)) S fun l6 S=>onB l6 fun b=>gd b (convI .i64 y3 S fun l7 S=>bin .quo 0 l7 (.v (.int .i64 6)) S fun l8 S=>bin .rem 0 l8 (.v (.int .i64 8)) S fun l9 S=>bin .add 0 (.v (.int .i64 1)) l9 S fun aA S=>nilChk y14 S fun aB S=>shift aB 0 S fun aC S=>stN 1 aC aA S fun aD S=>callF Pg 8 [] S Q fun aE S=>onB aE fun b=>gd b (ldN 8 y11 S fun aF S=>ldN 4 y12 S fun aG S=>ldN 5 y13 S fun aH S=>callF Pg 7 [aF,aG,aH] S Q fun aI S=>Q (.ret aI) S) (Q (.ret (.v (.bool false))) S)) (bin .eql 0 l5 (.v (.int .u8 1)) S fun aJ S=>onB aJ fun b=>gd b (nilChk y14 S fun aK S=>shift aK 1 S fun aL S=>stN 1 aL y4 S fun aM S=>callF Pg 8 [] S Q fun aN S=>onB aN fun b=>gd b (ldN 8 y11 S fun aO S=>ldN 4 y12 S fun aP S=>ldN 5 y13 S fun aQ S=>callF Pg 7 [aO,aP,aQ] S Q fun aR S=>Q (.ret aR) S) (Q (.ret (.v (.bool false))) S)) (bin .eql 0 l5 (.v (.int .u8 2)) S fun aS S=>onB aS fun b=>gd b (nilChk y14 S fun aT S=>shift aT 2 S fun aU S=>stN 1 aU y4 S fun aV S=>callF Pg 8 [] S Q fun aW S=>onB aW fun b=>gd b (ldN 8 y11 S fun aX S=>ldN 4 y12 S fun aY S=>ldN 5 y13 S fun aZ S=>callF Pg 7 [aX,aY,aZ] S Q fun bA S=>Q (.ret bA) S) (Q (.ret (.v (.bool false))) S)) (bin .eql 0 l5 (.v (.int .u8 3)) S fun bB S=>onB bB fun b=>gd b (nilChk y14 S fun bC S=>shift bC 3 S fun bD S=>ld1 bD S fun bE S=>bslN 3 1 1 [.v (.int .i64 0)] [(0,y4)] S fun bF S=>appS 3 1 8 bE bF S fun bG S=>nilChk y14 S fun bH S=>shift bH 3 S fun bI S=>stN 1 bI bG S fun bJ S=>callF Pg 8 [] S Q fun bK S=>onB bK fun b=>gd b (ldN 8 y11 S fun bL S=>ldN 4 y12 S fun bM S=>ldN 5 y13 S fun bN S=>callF Pg 7 [bL,bM,bN] S Q fun bO S=>Q (.ret bO) S) (Q (.ret (.v (.bool false))) S)) (bin .eql 0 l5 (.v (.int .u8 4)) S fun bP S=>onB bP fun b=>gd b (∃ bQ:AV,(∀ T:Store,Keep S T→nilChk y14 T fun bR S=>bR=bQ∧S=T)∧∃ bS:AV,(∀ T:Store,Keep S T→shift bQ 4 T fun bT S=>bT=bS∧S=T)∧∃ bU:AV,(∀ T:Store,Keep S T→ld1 bS T fun bV S=>bV=bU∧S=T)∧∃ bW:AV,(∀ T:Store,Keep S T→bld [(0,1),(1,1),(2,1),(3,1),(4,1)] [.v (.int .i64 0),.v (.int .i64 0),.v (.int .i64 0),.nl,.nl] [(0,(.v (.int .i64 1))),(1,y4)] T fun bX S=>bX=bW∧S=T)∧∃ bY:AV,(∀ T:Store,Keep S T→lenS bU T fun bZ S=>bZ=bY∧S=T)∧∃ cA:AV,(∀ T:Store,Keep S T→bslN 37 5 1 [.v (.int .i64 0),.v (.int .i64 0),.v (.int .i64 0),.nl,.nl] [(0,(absC (.agg #[(.int .i64 0),(.int .i64 0),(.int .i64 0),(.slice none 0 0),(.slice none 0 0)])))] T fun cB S=>cB=cA∧S=T)∧appS 37 5 72 bU cA S fun cC S=>∃ cD:AV,(∀ T:Store,Keep S T→ixS 37 5 cC bY T fun cE S=>cE=cD∧S=T)∧∃ cF:AV,(∀ T:Store,Keep S T→nilChk y14 T fun cG S=>cG=cF∧S=T)∧∃ cH:AV,(∀ T:Store,Keep S T→shift cF 4 T fun cI S=>cI=cH∧S=T)∧(stN 5 cD bW S fun cJ S=>(∀ T:Store,Keep S T→shift cF 4 T fun cK S=>cK=cH∧S=T)∧(∀ T:Store,Keep S T→nilChk y14 T fun cL S=>cL=cF∧S=T)∧stN 1 cH cC S fun cM S=>(∀ T:Store,Keep S T→ixS 37 5 cC bY T fun cN S=>cN=cD∧S=T)∧callF Pg 8 [] S Q fun cO S=>onB cO fun b=>gd b (ldN 8 y11 S fun cP S=>ldN 4 y12 S fun cQ S=>ldN 5 y13 S fun cR S=>callF Pg 7 [cP,cQ,cR] S Q fun cS S=>Q (.ret cS) S) (Q (.ret (.v (.bool false))) S))∧(stN 1 cH cC S fun cT S=>(∀ T:Store,Keep S T→ixS 37 5 cC bY T fun cU S=>cU=cD∧S=T)∧stN 5 cD bW S fun cV S=>(∀ T:Store,Keep S T→shift cF 4 T fun cW S=>cW=cH∧S=T)∧(∀ T:Store,Keep S T→nilChk y14 T fun cX S=>cX=cF∧S=T)∧callF Pg 8 [] S Q fun cY S=>onB cY fun b=>gd b (ldN 8 y11 S fun cZ S=>ldN 4 y12 S fun dA S=>ldN 5 y13 S fun dB S=>callF Pg 7 [cZ,dA,dB] S Q fun dC S=>Q (.ret dC) S) (Q (.ret (.v (.bool false))) S))) (nilChk y14 S fun dD S=>shift dD 4 S fun dE S=>ld1 dE S fun dF S=>lenS dF S fun dG S=>bin .gtr 0 dG (.v (.int .i64 0)) S fun dH S=>onB dH fun b=>gd b (∃ dI:AV,(∀ T:Store,Keep S T→nilChk y14 T fun dJ S=>dJ=dI∧S=T)∧∃ dK:AV,(∀ T:Store,Keep S T→shift dI 4 T fun dL S=>dL=dK∧S=T)∧∃ dM:AV,(∀ T:Store,Keep S T→ld1 dK T fun dN S=>dN=dM∧S=T)∧∃ dO:AV,(∀ T:Store,Keep S T→nilChk y14 T fun dP S=>dP=dO∧S=T)∧∃ dQ:AV,(∀ T:Store,Keep S T→shift dO 4 T fun dR S=>dR=dQ∧S=T)∧∃ dS:AV,(∀ T:Store,Keep S T→ld1 dQ T fun dT S=>dT=dS∧S=T)∧∃ dU:AV,(∀ T:Store,Keep S T→lenS dS T fun dV S=>dV=dU∧S=T)∧∃ dW:AV,(∀ T:Store,Keep S T→bin .sub 0 dU (.v (.int .i64 1)) T fun dX S=>dX=dW∧S=T)∧∃ dY:AV,(∀ T:Store,Keep S T→slc 37 5 dM none (some dW) none T fun dZ S=>dZ=dY∧S=T)∧∃ eA:AV,(∀ T:Store,Keep S T→nilChk y14 T fun eB S=>eB=eA∧S=T)∧∃ eC:AV,(∀ T:Store,Keep S T→shift eA 4 T fun eD S=>eD=eC∧S=T)∧stN 1 eC dY S fun eE S=>callF Pg 8 [] S Q fun eF S=>onB eF fun b=>gd b (ldN 8 y11 S fun eG S=>ldN 4 y12 S fun eH S=>ldN 5 y13 S fun eI S=>callF Pg 7 [eG,eH,eI] S Q fun eJ S=>Q (.ret eJ) S) (Q (.ret (.v (.bool false))) S)) (callF Pg 8 [] S Q fun eK S=>onB eK fun b=>gd b (ldN 8 y11 S fun eL S=>ldN 4 y12 S fun eM S=>ldN 5 y13 S fun eN S=>callF Pg 7 [eL,eM,eN] S Q fun eO S=>Q (.ret eO) S) (Q (.ret (.v (.bool false))) S))))))))
theorem b3_0_eq(y3 y4 y11 y12 y13 y14 y15:AV)(S:Store)(KE0:KeT)(Q:PoT):vc Pg (c3.at_ [1,1,1,1,1,0,1,0,0]) (ms3.drop 1) (mkE 146 lv3_0 (env3_0 y3 y4 y11 y12 y13 y14 y15)) S (thenK (fgK lv3_0 KE0) (blockK 0 (seqK (vc Pg (c3.at_ [1,1,1,1,1,1]) (ms3.drop 1)) (bodyK Pg r3 Q))))=b3_0 y3 y4 y11 y12 y13 y14 y15 S KE0 Q:=by kernel_rfl
theorem loop3_0{y3 y4 y11 y12 y13:AV}{y140 y150:AV}{S:Store}{Q:PoT}(I:AV→AV→Store→Prop)(μ:AV→AV→Store→Nat)(h0:I y140 y150 S)
    (hr:∀(y14 y15:AV) (S:Store),I y14 y15 S→∀ KE0:KeT,(∀(y14' y15':AV) (S':Store),I y14' y15' S'→μ y14' y15' S'<μ y14 y15 S→KE0 146 (env3_0 y3 y4 y11 y12 y13 y14' y15') S')→b3_0 y3 y4 y11 y12 y13 y14 y15 S KE0 Q):
    loopV lv3_0 (vc Pg (c3.at_ [1,1,1,1,1,0,1,0,0]) (ms3.drop 1)) 146 (env3_0 y3 y4 y11 y12 y13 y140 y150) S (blockK 0 (seqK (vc Pg (c3.at_ [1,1,1,1,1,1]) (ms3.drop 1)) (bodyK Pg r3 Q))):=by
 refine⟨fun n e S=>n=146∧∃ y14 y15:AV,e=(env3_0 y3 y4 y11 y12 y13 y14 y15)∧I y14 y15 S,fun _ e S=>μ (e.getD 5 .j) (e.getD 6 .j) S,?_,?_⟩
 ·exact⟨_,_,Wk.refl _ _,rfl,_,_,rfl,h0⟩
 ·rintro _ e S ⟨rfl,y14,y15,rfl,hI⟩
  exact(b3_0_eq _ _ _ _ _ _ _ _ _ _).mpr (hr y14 y15 S hI _ (fun y14' y15' S' hI' hm=>⟨_,_,Wk.refl _ _,⟨rfl,_,_,rfl,hI'⟩,hm⟩))
def c13:Code:=(Tryz.f13.body).getD .skip
def r13:List ResultVar:=Tryz.f13.results.toList
def env13_0(y0 y3 y5 y8 y9 y10 y13:AV):List AV:=[y0,y3,y5,y8,y9,y10,y13]
def lv13_0:List Nat:=[0,3,5,8,9,10,13]
def env13_1(y0 y3 y5 y8 y9 y18:AV):List AV:=[y0,y3,y5,y8,y9,y18]
def lv13_1:List Nat:=[0,3,5,8,9,18]
def env13_2(y0 y3 y8 y9 y10 y14 y15 y16 y17:AV):List AV:=[y0,y3,y8,y9,y10,y14,y15,y16,y17]
def lv13_2:List Nat:=[0,3,8,9,10,14,15,16,17]
def env13_3(y0 y3 y5 y8 y9 y18 y19 y20 y21:AV):List AV:=[y0,y3,y5,y8,y9,y18,y19,y20,y21]
def lv13_3:List Nat:=[0,3,5,8,9,18,19,20,21]
def env13_4(y0 y3 y5 y8 y9 y22:AV):List AV:=[y0,y3,y5,y8,y9,y22]
def lv13_4:List Nat:=[0,3,5,8,9,22]
def ms13:List (List Nat):=[lv13_0,lv13_2,lv13_1,lv13_3,lv13_4,[1,15,25,13]]
def m13(x0 x1 x2 x3:AV)(S:Store)(Q:PoT):Prop:=
 boxN 32 4 x1 S fun c S=>boxN 37 5 (.a [.v (.int .i64 0),.v (.int .i64 0),.v (.int .i64 0),.nl,.nl]) S fun d S=>bld [(0,1),(1,1),(2,1),(3,1),(4,1)] [.v (.int .i64 0),.v (.int .i64 0),.v (.int .i64 0),.nl,.nl] [(0,(.v (.int .i64 1))),(1,x2)] S fun e S=>boxN 37 5 (.a [.v (.int .i64 0),.v (.int .i64 0),.v (.int .i64 0),.nl,.nl]) S fun f S=>stN 5 f e S fun g S=>bld [(0,1),(1,1),(2,1),(3,1)] [.v (.int .i64 0),.v (.string ByteArray.empty),.v (.int .i64 0),.nl] [(0,(.v (.int .i64 2)))] S fun h S=>boxN 32 4 (.a [.v (.int .i64 0),.v (.string ByteArray.empty),.v (.int .i64 0),.nl]) S fun i S=>stN 4 i h S fun k S=>bin .lss 0 x3 (.v (.int .i64 1)) S fun l S=>onB l fun b=>gd b (ldN 5 f S fun m S=>stN 5 d m S fun n S=>ldN 5 d S fun o _=>Q (.ret o) S) (shift c 0 S fun p S=>ld1 p S fun q S=>bin .eql 0 q (.v (.int .i64 5)) S fun r S=>onB r fun b=>gd b (shift f 0 S fun s S=>stN 1 s (.v (.int .i64 2)) S fun t S=>∃ u:AV,(∀ T:Store,Keep S T→shift c 3 T fun w S=>w=u∧S=T)∧∃ x:AV,(∀ T:Store,Keep S T→ld1 u T fun y S=>y=x∧S=T)∧∃ z:AV,(∀ T:Store,Keep S T→ixS 32 4 x (.v (.int .i64 0)) T fun A S=>A=z∧S=T)∧∃ B:AV,(∀ T:Store,Keep S T→ldN 4 z T fun C S=>C=B∧S=T)∧∃ D:AV,(∀ T:Store,Keep S T→bin .sub 0 x3 (.v (.int .i64 1)) T fun E S=>E=D∧S=T)∧∃ F:AV,(∀ T:Store,Keep S T→shift c 3 T fun G S=>G=F∧S=T)∧∃ H:AV,(∀ T:Store,Keep S T→ld1 F T fun I S=>I=H∧S=T)∧∃ J:AV,(∀ T:Store,Keep S T→ixS 32 4 H (.v (.int .i64 1)) T fun K S=>K=J∧S=T)∧∃ L:AV,(∀ T:Store,Keep S T→ldN 4 J T fun M S=>M=L∧S=T)∧∃ N:AV,(∀ T:Store,Keep S T→bin .sub 0 x3 (.v (.int .i64 1)) T fun O S=>O=N∧S=T)∧callF Pg 13 [x0,B,x2,D] S Q fun P S=>(∀ T:Store,Keep S T→bin .sub 0 x3 (.v (.int .i64 1)) T fun R S=>R=N∧S=T)∧(∀ T:Store,Keep S T→ldN 4 J T fun U S=>U=L∧S=T)∧(∀ T:Store,Keep S T→ixS 32 4 H (.v (.int .i64 1)) T fun V S=>V=J∧S=T)∧(∀ T:Store,Keep S T→ld1 F T fun W S=>W=H∧S=T)∧(∀ T:Store,Keep S T→shift c 3 T fun X S=>X=F∧S=T)∧callF Pg 13 [x0,L,x2,N] S Q fun Y S=>bslN 37 5 2 [.v (.int .i64 0),.v (.int .i64 0),.v (.int .i64 0),.nl,.nl] [(0,P),(1,Y)] S fun Z S=>∃ a0:AV,(∀ T:Store,Keep S T→shift f 4 T fun a1 S=>a1=a0∧S=T)∧stN 1 a0 Z S fun a2 S=>ldN 5 f S fun a3 S=>stN 5 d a3 S fun a4 S=>ldN 5 d S fun a5 _=>Q (.ret a5) S) (bin .eql 0 q (.v (.int .i64 6)) S fun a6 S=>onB a6 fun b=>gd b (callF Pg 15 [x0,.v (.int .i64 2)] S Q fun a7 S=>shift f 0 S fun a8 S=>stN 1 a8 (.v (.int .i64 3)) S fun a9 S=>shift f 2 S fun b0 S=>stN 1 b0 a7 S fun b1 S=>shift c 3 S fun b2 S=>ld1 b2 S fun b3 S=>shift f 2 S fun b4 S=>ld1 b4 S fun b5 S=>ixS 32 4 b3 b5 S fun b6 S=>ldN 4 b6 S fun b7 S=>bin .sub 0 x3 (.v (.int .i64 1)) S fun b8 S=>callF Pg 13 [x0,b7,x2,b8] S Q fun b9 S=>bslN 37 5 1 [.v (.int .i64 0),.v (.int .i64 0),.v (.int .i64 0),.nl,.nl] [(0,b9)] S fun c0 S=>shift f 4 S fun c1 S=>stN 1 c1 c0 S fun c2 S=>ldN 5 f S fun c3 S=>stN 5 d c3 S fun c4 S=>ldN 5 d S fun c5 _=>Q (.ret c5) S) (bin .eql 0 q (.v (.int .i64 17)) S fun c6 S=>onB c6 fun b=>gd b (callF Pg 15 [x0,.v (.int .i64 2)] S Q fun c7 S=>shift f 0 S fun c8 S=>stN 1 c8 (.v (.int .i64 3)) S fun c9 S=>shift f 2 S fun d0 S=>stN 1 d0 c7 S fun d1 S=>shift c 3 S fun d2 S=>ld1 d2 S fun d3 S=>ixS 32 4 d3 (.v (.int .i64 1)) S fun d4 S=>ldN 4 d4 S fun d5 S=>callF Pg 23 [d5] S Q fun d6 S=>boxN 32 4 (.a [.v (.int .i64 0),.v (.string ByteArray.empty),.v (.int .i64 0),.nl]) S fun d7 S=>stN 4 d7 d6 S fun d8 S=>shift f 2 S fun d9 S=>ld1 d9 S fun e0 S=>bin .eql 0 e0 (.v (.int .i64 1)) S fun e1 S=>onB e1 fun b=>gd b (∃ e2:AV,(∀ T:Store,Keep S T→shift c 3 T fun e3 S=>e3=e2∧S=T)∧∃ e4:AV,(∀ T:Store,Keep S T→ld1 e2 T fun e5 S=>e5=e4∧S=T)∧∃ e6:AV,(∀ T:Store,Keep S T→ixS 32 4 e4 (.v (.int .i64 1)) T fun e7 S=>e7=e6∧S=T)∧∃ e8:AV,(∀ T:Store,Keep S T→ldN 4 e6 T fun e9 S=>e9=e8∧S=T)∧∃ f0:AV,(∀ T:Store,Keep S T→shift c 3 T fun f1 S=>f1=f0∧S=T)∧∃ f2:AV,(∀ T:Store,Keep S T→ld1 f0 T fun f3 S=>f3=f2∧S=T)∧∃ f4:AV,(∀ T:Store,Keep S T→bld [(0,1),(1,1),(2,1),(3,1)] [.v (.int .i64 0),.v (.string ByteArray.empty),.v (.int .i64 0),.nl] [(0,(.v (.int .i64 5))),(3,f2)] T fun f5 S=>f5=f4∧S=T)∧∃ f6:AV,(∀ T:Store,Keep S T→callF Pg 24 [e8,f4] T (fun _ _=>False) fun f7 S=>f7=f6∧S=T)∧stN 4 d7 f6 S fun f8 S=>ldN 4 d7 S fun f9 S=>bin .sub 0 x3 (.v (.int .i64 1)) S fun g0 S=>callF Pg 13 [x0,f9,x2,g0] S Q fun g1 S=>bslN 37 5 1 [.v (.int .i64 0),.v (.int .i64 0),.v (.int .i64 0),.nl,.nl] [(0,g1)] S fun g2 S=>shift f 4 S fun g3 S=>stN 1 g3 g2 S fun g4 S=>ldN 5 f S fun g5 S=>stN 5 d g5 S fun g6 S=>ldN 5 d S fun g7 _=>Q (.ret g7) S) (ldN 4 d7 S fun g8 S=>bin .sub 0 x3 (.v (.int .i64 1)) S fun g9 S=>callF Pg 13 [x0,g8,x2,g9] S Q fun h0 S=>bslN 37 5 1 [.v (.int .i64 0),.v (.int .i64 0),.v (.int .i64 0),.nl,.nl] [(0,h0)] S fun h1 S=>shift f 4 S fun h2 S=>stN 1 h2 h1 S fun h3 S=>ldN 5 f S fun h4 S=>stN 5 d h4 S fun h5 S=>ldN 5 d S fun h6 _=>Q (.ret h6) S)) (bin .eql 0 q (.v (.int .i64 9)) S fun h7 S=>onB h7 fun b=>gd b (shift f 0 S fun h8 S=>stN 1 h8 (.v (.int .i64 4)) S fun h9 S=>callF Pg 25 [x0,x2] S Q fun i0 S=>∃ i1:AV,(∀ T:Store,Keep S T→shift c 3 T fun i2 S=>i2=i1∧S=T)∧∃ i3:AV,(∀ T:Store,Keep S T→ld1 i1 T fun i4 S=>i4=i3∧S=T)∧∃ i5:AV,(∀ T:Store,Keep S T→ixS 32 4 i3 (.v (.int .i64 0)) T fun i6 S=>i6=i5∧S=T)∧∃ i7:AV,(∀ T:Store,Keep S T→ldN 4 i5 T fun i8 S=>i8=i7∧S=T)∧∃ i9:AV,(∀ T:Store,Keep S T→bin .sub 0 x3 (.v (.int .i64 1)) T fun k0 S=>k0=i9∧S=T)∧∃ k1:AV,(∀ T:Store,Keep S T→ldN 4 i T fun k2 S=>k2=k1∧S=T)∧∃ k3:AV,(∀ T:Store,Keep S T→bin .sub 0 x3 (.v (.int .i64 1)) T fun k4 S=>k4=k3∧S=T)∧callF Pg 13 [x0,i7,i0,i9] S Q fun k5 S=>(∀ T:Store,Keep S T→bin .sub 0 x3 (.v (.int .i64 1)) T fun k6 S=>k6=k3∧S=T)∧(∀ T:Store,Keep S T→ldN 4 i T fun k7 S=>k7=k1∧S=T)∧∃ k8:AV,(∀ T:Store,Keep S T→callF Pg 23 [k1] T (fun _ _=>False) fun k9 S=>k9=k8∧S=T)∧callF Pg 13 [x0,k8,i0,k3] S Q fun l0 S=>bslN 37 5 2 [.v (.int .i64 0),.v (.int .i64 0),.v (.int .i64 0),.nl,.nl] [(0,k5),(1,l0)] S fun l1 S=>∃ l2:AV,(∀ T:Store,Keep S T→shift f 4 T fun l3 S=>l3=l2∧S=T)∧stN 1 l2 l1 S fun l4 S=>ldN 5 f S fun l5 S=>stN 5 d l5 S fun l6 S=>ldN 5 d S fun l7 _=>Q (.ret l7) S) (bin .eql 0 q (.v (.int .i64 11)) S fun l8 S=>onB l8 fun b=>gd b (onB l8 fun b=>gd b (bslN 3 1 1 [.v (.int .i64 0)] [(0,x2)] S fun l9 S=>shift f 0 S fun aA S=>stN 1 aA (.v (.int .i64 5)) S fun aB S=>shift f 3 S fun aC S=>stN 1 aC l9 S fun aD S=>callF Pg 15 [x0,.v (.int .i64 3)] S Q fun aE S=>loopV lv13_0 (vc Pg (c13.at_ [1,1,1,1,0,1,0,1,1,1,1,1,1,1,1,1,0,1,0,1,0,0]) (ms13.drop 1)) 306 (env13_0 x0 x3 c d f i aE) S (blockK 1 (seqK (vc Pg (c13.at_ [1,1,1,1,0,1,0,1,1,1,1,1,1,1,1,1,0,1,1]) (ms13.drop 1)) (blockK 0 (seqK (vc Pg (c13.at_ [1,1,1,1,1]) (ms13.drop 5)) (bodyK Pg r13 Q)))))) (bin .eql 0 q (.v (.int .i64 13)) S fun aF S=>onB aF fun b=>gd b (bslN 3 1 1 [.v (.int .i64 0)] [(0,x2)] S fun aG S=>shift f 0 S fun aH S=>stN 1 aH (.v (.int .i64 6)) S fun aI S=>shift f 3 S fun aJ S=>stN 1 aJ aG S fun aK S=>callF Pg 15 [x0,.v (.int .i64 8)] S Q fun aL S=>bin .add 0 (.v (.int .i64 1)) aL S fun aM S=>loopV lv13_1 (vc Pg (c13.at_ [1,1,1,1,0,1,0,1,1,1,1,1,1,1,1,1,1,1,0,1,0,1,0,0]) (ms13.drop 3)) 306 (env13_1 x0 x3 c d f aM) S (blockK 5 (seqK (vc Pg (c13.at_ [1,1,1,1,0,1,0,1,1,1,1,1,1,1,1,1,1,1,0,1,1]) (ms13.drop 4)) (blockK 0 (seqK (vc Pg (c13.at_ [1,1,1,1,1]) (ms13.drop 5)) (bodyK Pg r13 Q)))))) (bin .eql 0 q (.v (.int .i64 10)) S fun aN S=>onB aN fun b=>gd b (onB aN fun b=>gd b (shift f 0 S fun aO S=>stN 1 aO (.v (.int .i64 7)) S fun aP S=>ldN 5 f S fun aQ S=>stN 5 d aQ S fun aR S=>ldN 5 d S fun aS _=>Q (.ret aS) S) (ldN 5 f S fun aT S=>stN 5 d aT S fun aU S=>ldN 5 d S fun aV _=>Q (.ret aV) S)) (bin .eql 0 q (.v (.int .i64 12)) S fun aW S=>onB aW fun b=>gd b (onB aW fun b=>gd b (shift f 0 S fun aX S=>stN 1 aX (.v (.int .i64 7)) S fun aY S=>ldN 5 f S fun aZ S=>stN 5 d aZ S fun bA S=>ldN 5 d S fun bB _=>Q (.ret bB) S) (ldN 5 f S fun bC S=>stN 5 d bC S fun bD S=>ldN 5 d S fun bE _=>Q (.ret bE) S)) (bin .eql 0 q (.v (.int .i64 14)) S fun bF S=>onB bF fun b=>gd b (onB bF fun b=>gd b (shift f 0 S fun bG S=>stN 1 bG (.v (.int .i64 7)) S fun bH S=>ldN 5 f S fun bI S=>stN 5 d bI S fun bJ S=>ldN 5 d S fun bK _=>Q (.ret bK) S) (ldN 5 f S fun bL S=>stN 5 d bL S fun bM S=>ldN 5 d S fun bN _=>Q (.ret bN) S)) (bin .eql 0 q (.v (.int .i64 16)) S fun bO S=>onB bO fun b=>gd b (onB bO fun b=>gd b (shift f 0 S fun bP S=>stN 1 bP (.v (.int .i64 7)) S fun bQ S=>ldN 5 f S fun bR S=>stN 5 d bR S fun bS S=>ldN 5 d S fun bT _=>Q (.ret bT) S) (ldN 5 f S fun bU S=>stN 5 d bU S fun bV S=>ldN 5 d S fun bW _=>Q (.ret bW) S)) (bin .eql 0 q (.v (.int .i64 18)) S fun bX S=>onB bX fun b=>gd b (shift f 0 S fun bY S=>stN 1 bY (.v (.int .i64 7)) S fun bZ S=>ldN 5 f S fun cA S=>stN 5 d cA S fun cB S=>ldN 5 d S fun cC _=>Q (.ret cC) S) (ldN 5 f S fun cD S=>stN 5 d cD S fun cE S=>ldN 5 d S fun cF _=>Q (.ret cF) S)))))))) (bin .eql 0 q (.v (.int .i64 15)) S fun cG S=>onB cG fun b=>gd b (bslN 3 1 1 [.v (.int .i64 0)] [(0,x2)] S fun cH S=>shift f 0 S fun cI S=>stN 1 cI (.v (.int .i64 5)) S fun cJ S=>shift f 3 S fun cK S=>stN 1 cK cH S fun cL S=>callF Pg 15 [x0,.v (.int .i64 3)] S Q fun cM S=>loopV lv13_0 (vc Pg (c13.at_ [1,1,1,1,0,1,0,1,1,1,1,1,1,1,1,1,0,1,0,1,0,0]) (ms13.drop 1)) 306 (env13_0 x0 x3 c d f i cM) S (blockK 1 (seqK (vc Pg (c13.at_ [1,1,1,1,0,1,0,1,1,1,1,1,1,1,1,1,0,1,1]) (ms13.drop 1)) (blockK 0 (seqK (vc Pg (c13.at_ [1,1,1,1,1]) (ms13.drop 5)) (bodyK Pg r13 Q)))))) (bin .eql 0 q (.v (.int .i64 13)) S fun cN S=>onB cN fun b=>gd b (bslN 3 1 1 [.v (.int .i64 0)] [(0,x2)] S fun cO S=>shift f 0 S fun cP S=>stN 1 cP (.v (.int .i64 6)) S fun cQ S=>shift f 3 S fun cR S=>stN 1 cR cO S fun cS S=>callF Pg 15 [x0,.v (.int .i64 8)] S Q fun cT S=>bin .add 0 (.v (.int .i64 1)) cT S fun cU S=>loopV lv13_1 (vc Pg (c13.at_ [1,1,1,1,0,1,0,1,1,1,1,1,1,1,1,1,1,1,0,1,0,1,0,0]) (ms13.drop 3)) 306 (env13_1 x0 x3 c d f cU) S (blockK 5 (seqK (vc Pg (c13.at_ [1,1,1,1,0,1,0,1,1,1,1,1,1,1,1,1,1,1,0,1,1]) (ms13.drop 4)) (blockK 0 (seqK (vc Pg (c13.at_ [1,1,1,1,1]) (ms13.drop 5)) (bodyK Pg r13 Q)))))) (bin .eql 0 q (.v (.int .i64 10)) S fun cV S=>onB cV fun b=>gd b (onB cV fun b=>gd b (shift f 0 S fun cW S=>stN 1 cW (.v (.int .i64 7)) S fun cX S=>ldN 5 f S fun cY S=>stN 5 d cY S fun cZ S=>ldN 5 d S fun dA _=>Q (.ret dA) S) (ldN 5 f S fun dB S=>stN 5 d dB S fun dC S=>ldN 5 d S fun dD _=>Q (.ret dD) S)) (bin .eql 0 q (.v (.int .i64 12)) S fun dE S=>onB dE fun b=>gd b (onB dE fun b=>gd b (shift f 0 S fun dF S=>stN 1 dF (.v (.int .i64 7)) S fun dG S=>ldN 5 f S fun dH S=>stN 5 d dH S fun dI S=>ldN 5 d S fun dJ _=>Q (.ret dJ) S) (ldN 5 f S fun dK S=>stN 5 d dK S fun dL S=>ldN 5 d S fun dM _=>Q (.ret dM) S)) (bin .eql 0 q (.v (.int .i64 14)) S fun dN S=>onB dN fun b=>gd b (onB dN fun b=>gd b (shift f 0 S fun dO S=>stN 1 dO (.v (.int .i64 7)) S fun dP S=>ldN 5 f S fun dQ S=>stN 5 d dQ S fun dR S=>ldN 5 d S fun dS _=>Q (.ret dS) S) (ldN 5 f S fun dT S=>stN 5 d dT S fun dU S=>ldN 5 d S fun dV _=>Q (.ret dV) S)) (bin .eql 0 q (.v (.int .i64 16)) S fun dW S=>onB dW fun b=>gd b (onB dW fun b=>gd b (shift f 0 S fun dX S=>stN 1 dX (.v (.int .i64 7)) S fun dY S=>ldN 5 f S fun dZ S=>stN 5 d dZ S fun eA S=>ldN 5 d S fun eB _=>Q (.ret eB) S) (ldN 5 f S fun eC S=>stN 5 d eC S fun eD S=>ldN 5 d S fun eE _=>Q (.ret eE) S)) (bin .eql 0 q (.v (.int .i64 18)) S fun eF S=>onB eF fun b=>gd b (shift f 0 S fun eG S=>stN 1 eG (.v (.int .i64 7)) S fun eH S=>ldN 5 f S fun eI S=>stN 5 d eI S fun eJ S=>ldN 5 d S fun eK _=>Q (.ret eK) S) (ldN 5 f S fun eL S=>stN 5 d eL S fun eM S=>ldN 5 d S fun eN _=>Q (.ret eN) S)))))))))))))
theorem calls13{x0 x1 x2 x3:AV}{S:Store}{Q:PoT}(h:m13 x0 x1 x2 x3 S Q):ACalls Pg 13 [x0,x1,x2,x3] S Q:=
 calls_of_vc (fn:=Tryz.f13) (c:=c13) (n:=306) Tryz.func13 (by kernel_rfl) (by kernel_rfl) (by kernel_rfl) ms13 (Eq.mpr (by kernel_rfl) h)
def b13_0(y0 y3 y5 y8 y9 y10 y13:AV)(S:Store)(KE0:KeT)(Q:PoT):Prop:=
 bin .gtr 0 y13 (.v (.int .i64 0)) S fun a S=>onB a fun b=>gd b (∃ c:AV,(∀ T:Store,Keep S T→shift y9 3 T fun d S=>d=c∧S=T)∧∃ e:AV,(∀ T:Store,Keep S T→ld1 c T fun f S=>f=e∧S=T)∧∃ g:AV,(∀ T:Store,Keep S T→shift y9 3 T fun h S=>h=g∧S=T)∧∃ i:AV,(∀ T:Store,Keep S T→ld1 g T fun k S=>k=i∧S=T)∧∃ l:AV,(∀ T:Store,Keep S T→shift y9 3 T fun m S=>m=l∧S=T)∧∃ n:AV,(∀ T:Store,Keep S T→ld1 l T fun o S=>o=n∧S=T)∧∃ q:AV,(∀ T:Store,Keep S T→lenS n T fun r S=>r=q∧S=T)∧∃ s:AV,(∀ T:Store,Keep S T→bin .sub 0 q (.v (.int .i64 1)) T fun t S=>t=s∧S=T)∧∃ u:AV,(∀ T:Store,Keep S T→ixS 3 1 i s T fun w S=>w=u∧S=T)∧∃ x:AV,(∀ T:Store,Keep S T→ld1 u T fun y S=>y=x∧S=T)∧callF Pg 25 [y0,x] S Q fun z S=>(∀ T:Store,Keep S T→ld1 c T fun A S=>A=e∧S=T)∧(∀ T:Store,Keep S T→shift y9 3 T fun B S=>B=c∧S=T)∧bslN 3 1 1 [.v (.int .i64 0)] [(0,z)] S fun C S=>(∀ T:Store,Keep S T→ld1 c T fun D S=>D=e∧S=T)∧(∀ T:Store,Keep S T→shift y9 3 T fun E S=>E=c∧S=T)∧appS 3 1 8 e C S fun F S=>∃ G:AV,(∀ T:Store,Keep S T→shift y9 3 T fun H S=>H=G∧S=T)∧stN 1 G F S fun I S=>bin .sub 0 y13 (.v (.int .i64 1)) S fun J S=>KE0 306 (env13_0 y0 y3 y5 y8 y9 y10 J) S) (∃ K:AV,(∀ T:Store,Keep S T→ldN 4 y10 T fun L S=>L=K∧S=T)∧∃ M:AV,(∀ T:Store,Keep S T→shift y5 3 T fun N S=>N=M∧S=T)∧∃ O:AV,(∀ T:Store,Keep S T→ld1 M T fun P S=>P=O∧S=T)∧∃ R:AV,(∀ T:Store,Keep S T→shift y5 3 T fun U S=>U=R∧S=T)∧∃ V:AV,(∀ T:Store,Keep S T→ld1 R T fun W S=>W=V∧S=T)∧∃ X:AV,(∀ T:Store,Keep S T→lenS V T fun Y S=>Y=X∧S=T)∧∃ Z:AV,(∀ T:Store,Keep S T→bin .sub 0 X (.v (.int .i64 1)) T fun a0 S=>a0=Z∧S=T)∧∃ a1:AV,(∀ T:Store,Keep S T→ixS 32 4 O Z T fun a2 S=>a2=a1∧S=T)∧∃ a3:AV,(∀ T:Store,Keep S T→ldN 4 a1 T fun a4 S=>a4=a3∧S=T)∧newsV [(.cells 32 [[.v (.int .i64 0),.v (.string ByteArray.empty),.v (.int .i64 0),.nl]] true),(.cells 32 [[.v (.int .i64 0),.v (.string ByteArray.empty),.v (.int .i64 0),.nl]] true)] S fun ids354 S=>stN 4 (.p (ids354.headD 0) 0 0) K S fun a5 S=>(∀ T:Store,Keep S T→ldN 4 a1 T fun a6 S=>a6=a3∧S=T)∧(∀ T:Store,Keep S T→ixS 32 4 O Z T fun a7 S=>a7=a1∧S=T)∧(∀ T:Store,Keep S T→bin .sub 0 X (.v (.int .i64 1)) T fun a8 S=>a8=Z∧S=T)∧(∀ T:Store,Keep S T→lenS V T fun a9 S=>a9=X∧S=T)∧(∀ T:Store,Keep S T→ld1 R T fun b0 S=>b0=V∧S=T)∧(∀ T:Store,Keep S T→shift y5 3 T fun b1 S=>b1=R∧S=T)∧(∀ T:Store,Keep S T→ld1 M T fun b2 S=>b2=O∧S=T)∧(∀ T:Store,Keep S T→shift y5 3 T fun b3 S=>b3=M∧S=T)∧stN 4 (.p (ids354.tail.headD 0) 0 0) a3 S fun b4 S=>shift y5 0 S fun b5 S=>ld1 b5 S fun b6 S=>bin .eql 0 b6 (.v (.int .i64 15)) S fun b7 S=>onB b7 fun b=>gd b (shift y5 3 S fun b8 S=>ld1 b8 S fun b9 S=>ixS 32 4 b9 (.v (.int .i64 0)) S fun c0 S=>ldN 4 c0 S fun c1 S=>stN 4 (.p (ids354.headD 0) 0 0) c1 S fun c2 S=>shift y9 3 S fun c3 S=>ld1 c3 S fun c4 S=>lenS c4 S fun c5 S=>bin .sub 0 c5 (.v (.int .i64 1)) S fun c6 S=>loopV lv13_2 (vc Pg (c13.at_ [1,1,1,1,0,1,0,1,1,1,1,1,1,1,1,1,0,1,1,1,1,1,0,1,0,0]) (ms13.drop 2)) 306 (env13_2 y0 y3 y8 y9 y10 (.p (ids354.headD 0) 0 0) (.p (ids354.tail.headD 0) 0 0) c6 (.v (.int .i64 0))) S (blockK 3 (seqK (vc Pg (c13.at_ [1,1,1,1,0,1,0,1,1,1,1,1,1,1,1,1,0,1,1,1,1,1,1]) (ms13.drop 2)) (blockK 0 (seqK (vc Pg (c13.at_ [1,1,1,1,1]) (ms13.drop 5)) (bodyK Pg r13 Q)))))) (shift y9 3 S fun c7 S=>ld1 c7 S fun c8 S=>lenS c8 S fun c9 S=>bin .sub 0 c9 (.v (.int .i64 1)) S fun d0 S=>loopV lv13_2 (vc Pg (c13.at_ [1,1,1,1,0,1,0,1,1,1,1,1,1,1,1,1,0,1,1,1,1,1,0,1,0,0]) (ms13.drop 2)) 306 (env13_2 y0 y3 y8 y9 y10 (.p (ids354.headD 0) 0 0) (.p (ids354.tail.headD 0) 0 0) d0 (.v (.int .i64 0))) S (blockK 3 (seqK (vc Pg (c13.at_ [1,1,1,1,0,1,0,1,1,1,1,1,1,1,1,1,0,1,1,1,1,1,1]) (ms13.drop 2)) (blockK 0 (seqK (vc Pg (c13.at_ [1,1,1,1,1]) (ms13.drop 5)) (bodyK Pg r13 Q)))))))
theorem b13_0_eq(y0 y3 y5 y8 y9 y10 y13:AV)(S:Store)(KE0:KeT)(Q:PoT):vc Pg (c13.at_ [1,1,1,1,0,1,0,1,1,1,1,1,1,1,1,1,0,1,0,1,0,0]) (ms13.drop 1) (mkE 306 lv13_0 (env13_0 y0 y3 y5 y8 y9 y10 y13)) S (thenK (fgK lv13_0 KE0) (blockK 1 (seqK (vc Pg (c13.at_ [1,1,1,1,0,1,0,1,1,1,1,1,1,1,1,1,0,1,1]) (ms13.drop 1)) (blockK 0 (seqK (vc Pg (c13.at_ [1,1,1,1,1]) (ms13.drop 5)) (bodyK Pg r13 Q))))))=b13_0 y0 y3 y5 y8 y9 y10 y13 S KE0 Q:=by kernel_rfl
theorem loop13_0{y0 y3 y5 y8 y9 y10:AV}{y130:AV}{S:Store}{Q:PoT}(I:AV→Store→Prop)(μ:AV→Store→Nat)(h0:I y130 S)
    (hr:∀(y13:AV) (S:Store),I y13 S→∀ KE0:KeT,(∀(y13':AV) (S':Store),I y13' S'→μ y13' S'<μ y13 S→KE0 306 (env13_0 y0 y3 y5 y8 y9 y10 y13') S')→b13_0 y0 y3 y5 y8 y9 y10 y13 S KE0 Q):
    loopV lv13_0 (vc Pg (c13.at_ [1,1,1,1,0,1,0,1,1,1,1,1,1,1,1,1,0,1,0,1,0,0]) (ms13.drop 1)) 306 (env13_0 y0 y3 y5 y8 y9 y10 y130) S (blockK 1 (seqK (vc Pg (c13.at_ [1,1,1,1,0,1,0,1,1,1,1,1,1,1,1,1,0,1,1]) (ms13.drop 1)) (blockK 0 (seqK (vc Pg (c13.at_ [1,1,1,1,1]) (ms13.drop 5)) (bodyK Pg r13 Q))))):=by
 refine⟨fun n e S=>n=306∧∃ y13:AV,e=(env13_0 y0 y3 y5 y8 y9 y10 y13)∧I y13 S,fun _ e S=>μ (e.getD 6 .j) S,?_,?_⟩
 ·exact⟨_,_,Wk.refl _ _,rfl,_,rfl,h0⟩
 ·rintro _ e S ⟨rfl,y13,rfl,hI⟩
  exact(b13_0_eq _ _ _ _ _ _ _ _ _ _).mpr (hr y13 S hI _ (fun y13' S' hI' hm=>⟨_,_,Wk.refl _ _,⟨rfl,_,rfl,hI'⟩,hm⟩))
def b13_1(y0 y3 y5 y8 y9 y18:AV)(S:Store)(KE1:KeT)(Q:PoT):Prop:=
 bin .gtr 0 y18 (.v (.int .i64 0)) S fun a S=>onB a fun b=>gd b (shift y9 3 S fun c S=>ld1 c S fun d S=>shift y9 3 S fun e S=>ld1 e S fun f S=>lenS f S fun g S=>bin .sub 0 g (.v (.int .i64 1)) S fun h S=>ixS 3 1 d h S fun i S=>ld1 i S fun k S=>callF Pg 25 [y0,k] S Q fun l S=>loopV lv13_3 (vc Pg (c13.at_ [1,1,1,1,0,1,0,1,1,1,1,1,1,1,1,1,1,1,0,1,0,1,0,0,1,0,0,1,1,0,1,0,0]) (ms13.drop 4)) 306 (env13_3 y0 y3 y5 y8 y9 y18 l (.v (.int .i64 (-1))) (.v (.int .i64 0))) S (blockK 7 (seqK (vc Pg (c13.at_ [1,1,1,1,0,1,0,1,1,1,1,1,1,1,1,1,1,1,0,1,0,1,0,0,1,0,0,1,1,1]) (ms13.drop 4)) (blockK 6 (seqK (vc Pg (c13.at_ [1,1,1,1,0,1,0,1,1,1,1,1,1,1,1,1,1,1,0,1,0,1,0,0,1,1]) (ms13.drop 4)) (thenK (fgK lv13_1 KE1) (blockK 5 (seqK (vc Pg (c13.at_ [1,1,1,1,0,1,0,1,1,1,1,1,1,1,1,1,1,1,0,1,1]) (ms13.drop 4)) (blockK 0 (seqK (vc Pg (c13.at_ [1,1,1,1,1]) (ms13.drop 5)) (bodyK Pg r13 Q))))))))))) (loopV lv13_4 (vc Pg (c13.at_ [1,1,1,1,0,1,0,1,1,1,1,1,1,1,1,1,1,1,0,1,1,1,0,0]) (ms13.drop 5)) 306 (env13_4 y0 y3 y5 y8 y9 (.v (.int .i64 0))) S (blockK 9 (blockK 0 (seqK (vc Pg (c13.at_ [1,1,1,1,1]) (ms13.drop 5)) (bodyK Pg r13 Q)))))
theorem b13_1_eq(y0 y3 y5 y8 y9 y18:AV)(S:Store)(KE1:KeT)(Q:PoT):vc Pg (c13.at_ [1,1,1,1,0,1,0,1,1,1,1,1,1,1,1,1,1,1,0,1,0,1,0,0]) (ms13.drop 3) (mkE 306 lv13_1 (env13_1 y0 y3 y5 y8 y9 y18)) S (thenK (fgK lv13_1 KE1) (blockK 5 (seqK (vc Pg (c13.at_ [1,1,1,1,0,1,0,1,1,1,1,1,1,1,1,1,1,1,0,1,1]) (ms13.drop 4)) (blockK 0 (seqK (vc Pg (c13.at_ [1,1,1,1,1]) (ms13.drop 5)) (bodyK Pg r13 Q))))))=b13_1 y0 y3 y5 y8 y9 y18 S KE1 Q:=by kernel_rfl
theorem loop13_1{y0 y3 y5 y8 y9:AV}{y180:AV}{S:Store}{Q:PoT}(I:AV→Store→Prop)(μ:AV→Store→Nat)(h0:I y180 S)
    (hr:∀(y18:AV) (S:Store),I y18 S→∀ KE1:KeT,(∀(y18':AV) (S':Store),I y18' S'→μ y18' S'<μ y18 S→KE1 306 (env13_1 y0 y3 y5 y8 y9 y18') S')→b13_1 y0 y3 y5 y8 y9 y18 S KE1 Q):
    loopV lv13_1 (vc Pg (c13.at_ [1,1,1,1,0,1,0,1,1,1,1,1,1,1,1,1,1,1,0,1,0,1,0,0]) (ms13.drop 3)) 306 (env13_1 y0 y3 y5 y8 y9 y180) S (blockK 5 (seqK (vc Pg (c13.at_ [1,1,1,1,0,1,0,1,1,1,1,1,1,1,1,1,1,1,0,1,1]) (ms13.drop 4)) (blockK 0 (seqK (vc Pg (c13.at_ [1,1,1,1,1]) (ms13.drop 5)) (bodyK Pg r13 Q))))):=by
 refine⟨fun n e S=>n=306∧∃ y18:AV,e=(env13_1 y0 y3 y5 y8 y9 y18)∧I y18 S,fun _ e S=>μ (e.getD 5 .j) S,?_,?_⟩
 ·exact⟨_,_,Wk.refl _ _,rfl,_,rfl,h0⟩
 ·rintro _ e S ⟨rfl,y18,rfl,hI⟩
  exact(b13_1_eq _ _ _ _ _ _ _ _ _).mpr (hr y18 S hI _ (fun y18' S' hI' hm=>⟨_,_,Wk.refl _ _,⟨rfl,_,rfl,hI'⟩,hm⟩))
def b13_2(y0 y3 y8 y9 y10 y14 y15 y16 y17:AV)(S:Store)(KE2:KeT)(Q:PoT):Prop:=
 bin .lss 0 y17 y16 S fun a S=>onB a fun b=>gd b (∃ c:AV,(∀ T:Store,Keep S T→shift y9 4 T fun d S=>d=c∧S=T)∧∃ e:AV,(∀ T:Store,Keep S T→ld1 c T fun f S=>f=e∧S=T)∧∃ g:AV,(∀ T:Store,Keep S T→ldN 4 y14 T fun h S=>h=g∧S=T)∧∃ i:AV,(∀ T:Store,Keep S T→shift y9 3 T fun k S=>k=i∧S=T)∧∃ l:AV,(∀ T:Store,Keep S T→ld1 i T fun m S=>m=l∧S=T)∧∃ n:AV,(∀ T:Store,Keep S T→ixS 3 1 l y17 T fun o S=>o=n∧S=T)∧∃ p:AV,(∀ T:Store,Keep S T→ld1 n T fun q S=>q=p∧S=T)∧∃ r:AV,(∀ T:Store,Keep S T→bin .sub 0 y3 (.v (.int .i64 1)) T fun s S=>s=r∧S=T)∧callF Pg 13 [y0,g,p,r] S Q fun t S=>(∀ T:Store,Keep S T→ld1 c T fun u S=>u=e∧S=T)∧(∀ T:Store,Keep S T→shift y9 4 T fun w S=>w=c∧S=T)∧bslN 37 5 1 [.v (.int .i64 0),.v (.int .i64 0),.v (.int .i64 0),.nl,.nl] [(0,t)] S fun x S=>(∀ T:Store,Keep S T→ld1 c T fun y S=>y=e∧S=T)∧(∀ T:Store,Keep S T→shift y9 4 T fun z S=>z=c∧S=T)∧appS 37 5 72 e x S fun A S=>∃ B:AV,(∀ T:Store,Keep S T→shift y9 4 T fun C S=>C=B∧S=T)∧stN 1 B A S fun D S=>bin .add 0 y17 (.v (.int .i64 1)) S fun E S=>KE2 306 (env13_2 y0 y3 y8 y9 y10 y14 y15 y16 E) S) (∃ F:AV,(∀ T:Store,Keep S T→shift y9 4 T fun G S=>G=F∧S=T)∧∃ H:AV,(∀ T:Store,Keep S T→ld1 F T fun I S=>I=H∧S=T)∧∃ J:AV,(∀ T:Store,Keep S T→ldN 4 y15 T fun K S=>K=J∧S=T)∧∃ L:AV,(∀ T:Store,Keep S T→shift y9 3 T fun M S=>M=L∧S=T)∧∃ N:AV,(∀ T:Store,Keep S T→ld1 L T fun O S=>O=N∧S=T)∧∃ P:AV,(∀ T:Store,Keep S T→ixS 3 1 N y16 T fun R S=>R=P∧S=T)∧∃ U:AV,(∀ T:Store,Keep S T→ld1 P T fun V S=>V=U∧S=T)∧∃ W:AV,(∀ T:Store,Keep S T→bin .sub 0 y3 (.v (.int .i64 1)) T fun X S=>X=W∧S=T)∧∃ Y:AV,(∀ T:Store,Keep S T→ldN 4 y10 T fun Z S=>Z=Y∧S=T)∧∃ a0:AV,(∀ T:Store,Keep S T→shift y9 3 T fun a1 S=>a1=a0∧S=T)∧∃ a2:AV,(∀ T:Store,Keep S T→ld1 a0 T fun a3 S=>a3=a2∧S=T)∧∃ a4:AV,(∀ T:Store,Keep S T→ixS 3 1 a2 y16 T fun a5 S=>a5=a4∧S=T)∧∃ a6:AV,(∀ T:Store,Keep S T→ld1 a4 T fun a7 S=>a7=a6∧S=T)∧∃ a8:AV,(∀ T:Store,Keep S T→bin .sub 0 y3 (.v (.int .i64 1)) T fun a9 S=>a9=a8∧S=T)∧callF Pg 13 [y0,J,U,W] S Q fun b0 S=>(∀ T:Store,Keep S T→bin .sub 0 y3 (.v (.int .i64 1)) T fun b1 S=>b1=a8∧S=T)∧(∀ T:Store,Keep S T→ld1 a4 T fun b2 S=>b2=a6∧S=T)∧(∀ T:Store,Keep S T→ixS 3 1 a2 y16 T fun b3 S=>b3=a4∧S=T)∧(∀ T:Store,Keep S T→ld1 a0 T fun b4 S=>b4=a2∧S=T)∧(∀ T:Store,Keep S T→shift y9 3 T fun b5 S=>b5=a0∧S=T)∧(∀ T:Store,Keep S T→ldN 4 y10 T fun b6 S=>b6=Y∧S=T)∧(∀ T:Store,Keep S T→ld1 F T fun b7 S=>b7=H∧S=T)∧(∀ T:Store,Keep S T→shift y9 4 T fun b8 S=>b8=F∧S=T)∧∃ b9:AV,(∀ T:Store,Keep S T→callF Pg 23 [Y] T (fun _ _=>False) fun c0 S=>c0=b9∧S=T)∧callF Pg 13 [y0,b9,a6,a8] S Q fun c1 S=>(∀ T:Store,Keep S T→ld1 F T fun c2 S=>c2=H∧S=T)∧(∀ T:Store,Keep S T→shift y9 4 T fun c3 S=>c3=F∧S=T)∧bslN 37 5 2 [.v (.int .i64 0),.v (.int .i64 0),.v (.int .i64 0),.nl,.nl] [(0,b0),(1,c1)] S fun c4 S=>(∀ T:Store,Keep S T→ld1 F T fun c5 S=>c5=H∧S=T)∧(∀ T:Store,Keep S T→shift y9 4 T fun c6 S=>c6=F∧S=T)∧appS 37 5 72 H c4 S fun c7 S=>∃ c8:AV,(∀ T:Store,Keep S T→shift y9 4 T fun c9 S=>c9=c8∧S=T)∧stN 1 c8 c7 S fun d0 S=>ldN 5 y9 S fun d1 S=>stN 5 y8 d1 S fun d2 S=>ldN 5 y8 S fun d3 _=>Q (.ret d3) S)
theorem b13_2_eq(y0 y3 y8 y9 y10 y14 y15 y16 y17:AV)(S:Store)(KE2:KeT)(Q:PoT):vc Pg (c13.at_ [1,1,1,1,0,1,0,1,1,1,1,1,1,1,1,1,0,1,1,1,1,1,0,1,0,0]) (ms13.drop 2) (mkE 306 lv13_2 (env13_2 y0 y3 y8 y9 y10 y14 y15 y16 y17)) S (thenK (fgK lv13_2 KE2) (blockK 3 (seqK (vc Pg (c13.at_ [1,1,1,1,0,1,0,1,1,1,1,1,1,1,1,1,0,1,1,1,1,1,1]) (ms13.drop 2)) (blockK 0 (seqK (vc Pg (c13.at_ [1,1,1,1,1]) (ms13.drop 5)) (bodyK Pg r13 Q))))))=b13_2 y0 y3 y8 y9 y10 y14 y15 y16 y17 S KE2 Q:=by kernel_rfl
theorem loop13_2{y0 y3 y8 y9 y10 y14 y15 y16:AV}{y170:AV}{S:Store}{Q:PoT}(I:AV→Store→Prop)(μ:AV→Store→Nat)(h0:I y170 S)
    (hr:∀(y17:AV) (S:Store),I y17 S→∀ KE2:KeT,(∀(y17':AV) (S':Store),I y17' S'→μ y17' S'<μ y17 S→KE2 306 (env13_2 y0 y3 y8 y9 y10 y14 y15 y16 y17') S')→b13_2 y0 y3 y8 y9 y10 y14 y15 y16 y17 S KE2 Q):
    loopV lv13_2 (vc Pg (c13.at_ [1,1,1,1,0,1,0,1,1,1,1,1,1,1,1,1,0,1,1,1,1,1,0,1,0,0]) (ms13.drop 2)) 306 (env13_2 y0 y3 y8 y9 y10 y14 y15 y16 y170) S (blockK 3 (seqK (vc Pg (c13.at_ [1,1,1,1,0,1,0,1,1,1,1,1,1,1,1,1,0,1,1,1,1,1,1]) (ms13.drop 2)) (blockK 0 (seqK (vc Pg (c13.at_ [1,1,1,1,1]) (ms13.drop 5)) (bodyK Pg r13 Q))))):=by
 refine⟨fun n e S=>n=306∧∃ y17:AV,e=(env13_2 y0 y3 y8 y9 y10 y14 y15 y16 y17)∧I y17 S,fun _ e S=>μ (e.getD 8 .j) S,?_,?_⟩
 ·exact⟨_,_,Wk.refl _ _,rfl,_,rfl,h0⟩
 ·rintro _ e S ⟨rfl,y17,rfl,hI⟩
  exact(b13_2_eq _ _ _ _ _ _ _ _ _ _ _ _).mpr (hr y17 S hI _ (fun y17' S' hI' hm=>⟨_,_,Wk.refl _ _,⟨rfl,_,rfl,hI'⟩,hm⟩))
def b13_3(y0 y3 y5 y8 y9 y18 y19 y20 y21:AV)(S:Store)(KE3:KeT)(KE1:KeT)(Q:PoT):Prop:=
 shift y9 3 S fun a S=>ld1 a S fun c S=>lenS c S fun d S=>bin .lss 0 y21 d S fun e S=>onB e fun b=>gd b (shift y9 3 S fun f S=>ld1 f S fun g S=>ixS 3 1 g y21 S fun h S=>ld1 h S fun i S=>bin .eql 0 i y19 S fun k S=>onB k fun b=>gd b (bin .add 0 y21 (.v (.int .i64 1)) S fun l S=>KE3 306 (env13_3 y0 y3 y5 y8 y9 y18 y19 y21 l) S) (bin .add 0 y21 (.v (.int .i64 1)) S fun m S=>KE3 306 (env13_3 y0 y3 y5 y8 y9 y18 y19 y20 m) S)) (bin .geq 0 y20 (.v (.int .i64 0)) S fun n S=>onB n fun b=>gd b (bin .lss 0 y18 (.v (.int .i64 4)) S fun o S=>onB o fun b=>gd b (shift y9 2 S fun p S=>stN 1 p y20 S fun q S=>loopV lv13_4 (vc Pg (c13.at_ [1,1,1,1,0,1,0,1,1,1,1,1,1,1,1,1,1,1,0,1,1,1,0,0]) (ms13.drop 5)) 306 (env13_4 y0 y3 y5 y8 y9 (.v (.int .i64 0))) S (blockK 9 (blockK 0 (seqK (vc Pg (c13.at_ [1,1,1,1,1]) (ms13.drop 5)) (bodyK Pg r13 Q))))) (shift y9 3 S fun r S=>ld1 r S fun s S=>bslN 3 1 1 [.v (.int .i64 0)] [(0,y19)] S fun t S=>appS 3 1 8 s t S fun u S=>shift y9 3 S fun w S=>stN 1 w u S fun x S=>bin .sub 0 y18 (.v (.int .i64 1)) S fun y S=>KE1 306 (env13_1 y0 y3 y5 y8 y9 y) S)) (shift y9 3 S fun z S=>ld1 z S fun A S=>bslN 3 1 1 [.v (.int .i64 0)] [(0,y19)] S fun B S=>appS 3 1 8 A B S fun C S=>shift y9 3 S fun D S=>stN 1 D C S fun E S=>bin .sub 0 y18 (.v (.int .i64 1)) S fun F S=>KE1 306 (env13_1 y0 y3 y5 y8 y9 F) S))
theorem b13_3_eq(y0 y3 y5 y8 y9 y18 y19 y20 y21:AV)(S:Store)(KE3:KeT)(KE1:KeT)(Q:PoT):vc Pg (c13.at_ [1,1,1,1,0,1,0,1,1,1,1,1,1,1,1,1,1,1,0,1,0,1,0,0,1,0,0,1,1,0,1,0,0]) (ms13.drop 4) (mkE 306 lv13_3 (env13_3 y0 y3 y5 y8 y9 y18 y19 y20 y21)) S (thenK (fgK lv13_3 KE3) (blockK 7 (seqK (vc Pg (c13.at_ [1,1,1,1,0,1,0,1,1,1,1,1,1,1,1,1,1,1,0,1,0,1,0,0,1,0,0,1,1,1]) (ms13.drop 4)) (blockK 6 (seqK (vc Pg (c13.at_ [1,1,1,1,0,1,0,1,1,1,1,1,1,1,1,1,1,1,0,1,0,1,0,0,1,1]) (ms13.drop 4)) (thenK (fgK lv13_1 KE1) (blockK 5 (seqK (vc Pg (c13.at_ [1,1,1,1,0,1,0,1,1,1,1,1,1,1,1,1,1,1,0,1,1]) (ms13.drop 4)) (blockK 0 (seqK (vc Pg (c13.at_ [1,1,1,1,1]) (ms13.drop 5)) (bodyK Pg r13 Q)))))))))))=b13_3 y0 y3 y5 y8 y9 y18 y19 y20 y21 S KE3 KE1 Q:=by kernel_rfl
theorem loop13_3{y0 y3 y5 y8 y9 y18 y19:AV}{y200 y210:AV}{S:Store}{KE1:KeT}{Q:PoT}(I:AV→AV→Store→Prop)(μ:AV→AV→Store→Nat)(h0:I y200 y210 S)
    (hr:∀(y20 y21:AV) (S:Store),I y20 y21 S→∀ KE3:KeT,(∀(y20' y21':AV) (S':Store),I y20' y21' S'→μ y20' y21' S'<μ y20 y21 S→KE3 306 (env13_3 y0 y3 y5 y8 y9 y18 y19 y20' y21') S')→b13_3 y0 y3 y5 y8 y9 y18 y19 y20 y21 S KE3 KE1 Q):
    loopV lv13_3 (vc Pg (c13.at_ [1,1,1,1,0,1,0,1,1,1,1,1,1,1,1,1,1,1,0,1,0,1,0,0,1,0,0,1,1,0,1,0,0]) (ms13.drop 4)) 306 (env13_3 y0 y3 y5 y8 y9 y18 y19 y200 y210) S (blockK 7 (seqK (vc Pg (c13.at_ [1,1,1,1,0,1,0,1,1,1,1,1,1,1,1,1,1,1,0,1,0,1,0,0,1,0,0,1,1,1]) (ms13.drop 4)) (blockK 6 (seqK (vc Pg (c13.at_ [1,1,1,1,0,1,0,1,1,1,1,1,1,1,1,1,1,1,0,1,0,1,0,0,1,1]) (ms13.drop 4)) (thenK (fgK lv13_1 KE1) (blockK 5 (seqK (vc Pg (c13.at_ [1,1,1,1,0,1,0,1,1,1,1,1,1,1,1,1,1,1,0,1,1]) (ms13.drop 4)) (blockK 0 (seqK (vc Pg (c13.at_ [1,1,1,1,1]) (ms13.drop 5)) (bodyK Pg r13 Q)))))))))):=by
 refine⟨fun n e S=>n=306∧∃ y20 y21:AV,e=(env13_3 y0 y3 y5 y8 y9 y18 y19 y20 y21)∧I y20 y21 S,fun _ e S=>μ (e.getD 7 .j) (e.getD 8 .j) S,?_,?_⟩
 ·exact⟨_,_,Wk.refl _ _,rfl,_,_,rfl,h0⟩
 ·rintro _ e S ⟨rfl,y20,y21,rfl,hI⟩
  exact(b13_3_eq _ _ _ _ _ _ _ _ _ _ _ _ _).mpr (hr y20 y21 S hI _ (fun y20' y21' S' hI' hm=>⟨_,_,Wk.refl _ _,⟨rfl,_,_,rfl,hI'⟩,hm⟩))
def b13_4(y0 y3 y5 y8 y9 y22:AV)(S:Store)(KE4:KeT)(Q:PoT):Prop:=
 shift y9 3 S fun a S=>ld1 a S fun c S=>lenS c S fun d S=>bin .lss 0 y22 d S fun e S=>onB e fun b=>gd b (∃ f:AV,(∀ T:Store,Keep S T→shift y9 4 T fun g S=>g=f∧S=T)∧∃ h:AV,(∀ T:Store,Keep S T→ld1 f T fun i S=>i=h∧S=T)∧∃ k:AV,(∀ T:Store,Keep S T→shift y5 3 T fun l S=>l=k∧S=T)∧∃ m:AV,(∀ T:Store,Keep S T→ld1 k T fun n S=>n=m∧S=T)∧∃ o:AV,(∀ T:Store,Keep S T→ixS 32 4 m (.v (.int .i64 0)) T fun p S=>p=o∧S=T)∧∃ q:AV,(∀ T:Store,Keep S T→ldN 4 o T fun r S=>r=q∧S=T)∧∃ s:AV,(∀ T:Store,Keep S T→shift y9 3 T fun t S=>t=s∧S=T)∧∃ u:AV,(∀ T:Store,Keep S T→ld1 s T fun w S=>w=u∧S=T)∧∃ x:AV,(∀ T:Store,Keep S T→ixS 3 1 u y22 T fun y S=>y=x∧S=T)∧∃ z:AV,(∀ T:Store,Keep S T→ld1 x T fun A S=>A=z∧S=T)∧∃ B:AV,(∀ T:Store,Keep S T→bin .sub 0 y3 (.v (.int .i64 1)) T fun C S=>C=B∧S=T)∧callF Pg 13 [y0,q,z,B] S Q fun D S=>(∀ T:Store,Keep S T→ld1 f T fun E S=>E=h∧S=T)∧(∀ T:Store,Keep S T→shift y9 4 T fun F S=>F=f∧S=T)∧bslN 37 5 1 [.v (.int .i64 0),.v (.int .i64 0),.v (.int .i64 0),.nl,.nl] [(0,D)] S fun G S=>(∀ T:Store,Keep S T→ld1 f T fun H S=>H=h∧S=T)∧(∀ T:Store,Keep S T→shift y9 4 T fun I S=>I=f∧S=T)∧appS 37 5 72 h G S fun J S=>∃ K:AV,(∀ T:Store,Keep S T→shift y9 4 T fun L S=>L=K∧S=T)∧stN 1 K J S fun M S=>bin .add 0 y22 (.v (.int .i64 1)) S fun N S=>KE4 306 (env13_4 y0 y3 y5 y8 y9 N) S) (ldN 5 y9 S fun O S=>stN 5 y8 O S fun P S=>ldN 5 y8 S fun R _=>Q (.ret R) S)
theorem b13_4_eq(y0 y3 y5 y8 y9 y22:AV)(S:Store)(KE4:KeT)(Q:PoT):vc Pg (c13.at_ [1,1,1,1,0,1,0,1,1,1,1,1,1,1,1,1,1,1,0,1,1,1,0,0]) (ms13.drop 5) (mkE 306 lv13_4 (env13_4 y0 y3 y5 y8 y9 y22)) S (thenK (fgK lv13_4 KE4) (blockK 9 (blockK 0 (seqK (vc Pg (c13.at_ [1,1,1,1,1]) (ms13.drop 5)) (bodyK Pg r13 Q)))))=b13_4 y0 y3 y5 y8 y9 y22 S KE4 Q:=by kernel_rfl
theorem loop13_4{y0 y3 y5 y8 y9:AV}{y220:AV}{S:Store}{Q:PoT}(I:AV→Store→Prop)(μ:AV→Store→Nat)(h0:I y220 S)
    (hr:∀(y22:AV) (S:Store),I y22 S→∀ KE4:KeT,(∀(y22':AV) (S':Store),I y22' S'→μ y22' S'<μ y22 S→KE4 306 (env13_4 y0 y3 y5 y8 y9 y22') S')→b13_4 y0 y3 y5 y8 y9 y22 S KE4 Q):
    loopV lv13_4 (vc Pg (c13.at_ [1,1,1,1,0,1,0,1,1,1,1,1,1,1,1,1,1,1,0,1,1,1,0,0]) (ms13.drop 5)) 306 (env13_4 y0 y3 y5 y8 y9 y220) S (blockK 9 (blockK 0 (seqK (vc Pg (c13.at_ [1,1,1,1,1]) (ms13.drop 5)) (bodyK Pg r13 Q)))):=by
 refine⟨fun n e S=>n=306∧∃ y22:AV,e=(env13_4 y0 y3 y5 y8 y9 y22)∧I y22 S,fun _ e S=>μ (e.getD 5 .j) S,?_,?_⟩
 ·exact⟨_,_,Wk.refl _ _,rfl,_,rfl,h0⟩
 ·rintro _ e S ⟨rfl,y22,rfl,hI⟩
  exact(b13_4_eq _ _ _ _ _ _ _ _ _).mpr (hr y22 S hI _ (fun y22' S' hI' hm=>⟨_,_,Wk.refl _ _,⟨rfl,_,rfl,hI'⟩,hm⟩))
def c5:Code:=(Tryz.f5.body).getD .skip
def r5:List ResultVar:=Tryz.f5.results.toList
def ms5:List (List Nat):=[[15,13]]
def m5(x0 x1 x2:AV)(S:Store)(Q:PoT):Prop:=
 boxN 29 8 x0 S fun c S=>boxN 32 4 x1 S fun d S=>boxN 37 5 (.a [.v (.int .i64 0),.v (.int .i64 0),.v (.int .i64 0),.nl,.nl]) S fun e S=>ldN 8 c S fun f S=>bld [(0,8),(8,1),(9,1)] [.v (.int .i64 0),.nl,.nl,.nl,.nl,.nl,.nl,.nl,.nl,.v (.int .i64 0)] [(0,f),(1,x2)] S fun g S=>boxN 52 10 g S fun h S=>∃ i:AV,(∀ T:Store,Keep S T→ldN 4 d T fun k S=>k=i∧S=T)∧∃ l:AV,(∀ T:Store,Keep S T→callF Pg 14 [i] T (fun _ _=>False) fun m S=>m=l∧S=T)∧∃ n:AV,(∀ T:Store,Keep S T→shift c 0 T fun o S=>o=n∧S=T)∧∃ p:AV,(∀ T:Store,Keep S T→ld1 n T fun q S=>q=p∧S=T)∧∃ r:AV,(∀ T:Store,Keep S T→shift c 1 T fun s S=>s=r∧S=T)∧∃ t:AV,(∀ T:Store,Keep S T→ld1 r T fun u S=>u=t∧S=T)∧∃ w:AV,(∀ T:Store,Keep S T→lenS t T fun x S=>x=w∧S=T)∧∃ y:AV,(∀ T:Store,Keep S T→bin .add 0 p w T fun z S=>z=y∧S=T)∧∃ A:AV,(∀ T:Store,Keep S T→bin .shl 0 (.v (.int .i64 1)) y T fun B S=>B=A∧S=T)∧callF Pg 15 [h,A] S Q fun C S=>callF Pg 13 [h,l,C,.v (.int .i64 8)] S Q fun D S=>stN 5 e D S fun E S=>ldN 5 e S fun F _=>Q (.ret F) S
theorem calls5{x0 x1 x2:AV}{S:Store}{Q:PoT}(h:m5 x0 x1 x2 S Q):ACalls Pg 5 [x0,x1,x2] S Q:=
 calls_of_vc (fn:=Tryz.f5) (c:=c5) (n:=25) Tryz.func5 (by kernel_rfl) (by kernel_rfl) (by kernel_rfl) ms5 (Eq.mpr (by kernel_rfl) h)
def c15:Code:=(Tryz.f15.body).getD .skip
def ms15:List (List Nat):=[[]]
def m15(x0 x1:AV)(S:Store)(Q:PoT):Prop:=
 nilChk x0 S fun a S=>shift a 9 S fun c S=>ld1 c S fun d S=>bin .add 0 d (.v (.int .i64 1)) S fun e S=>nilChk x0 S fun f S=>shift f 9 S fun g S=>stN 1 g e S fun h S=>(fun S0:Store=>∃ i:AV,(nilChk x0 S fun k S=>k=i∧S=S0)∧∃ l:AV,(shift i 9 S fun m S=>m=l∧S=S0)∧∃ n:AV,(ld1 l S fun o S=>o=n∧S=S0)∧∃ p:AV,(nilChk x0 S fun q S=>q=p∧S=S0)∧∃ r:AV,(shift p 8 S fun s S=>s=r∧S=S0)∧∃ t:AV,(ld1 r S fun u S=>u=t∧S=S0)∧∃ w:AV,(lenS t S fun x S=>x=w∧S=S0)∧∃ y:AV,(bin .gtr 0 n w S fun z S=>z=y∧S=S0)∧onB y fun b=>gd b (Q (.ret (.v (.int .i64 0))) S) ((fun S0:Store=>∃ A:AV,(nilChk x0 S fun B S=>B=A∧S=S0)∧∃ C:AV,(shift A 8 S fun D S=>D=C∧S=S0)∧∃ E:AV,(ld1 C S fun F S=>F=E∧S=S0)∧∃ G:AV,(nilChk x0 S fun H S=>H=G∧S=S0)∧∃ I:AV,(shift G 9 S fun J S=>J=I∧S=S0)∧∃ K:AV,(ld1 I S fun L S=>L=K∧S=S0)∧∃ M:AV,(bin .sub 0 K (.v (.int .i64 1)) S fun N S=>N=M∧S=S0)∧∃ O:AV,(ixS 5 1 E M S fun P S=>P=O∧S=S0)∧∃ R:AV,(ld1 O S fun T S=>T=R∧S=S0)∧∃ U:AV,(convI .i64 R S fun V S=>V=U∧S=S0)∧∃ W:AV,(bin .rem 0 U x1 S fun X S=>X=W∧S=S0)∧Q (.ret W) S) S)) S
theorem calls15{x0 x1:AV}{S:Store}{Q:PoT}(h:m15 x0 x1 S Q):ACalls Pg 15 [x0,x1] S Q:=
 calls_of_vc (fn:=Tryz.f15) (c:=c15) (n:=36) Tryz.func15 (by kernel_rfl) (by kernel_rfl) (by kernel_rfl) ms15 (Eq.mpr (by kernel_rfl) h)
def c25:Code:=(Tryz.f25.body).getD .skip
def ms25:List (List Nat):=[[15]]
def m25(x0 x1:AV)(S:Store)(Q:PoT):Prop:=
 nilChk x0 S fun a S=>shift a 0 S fun c S=>ldN 8 c S fun d S=>callF Pg 42 [d,x1] S Q fun e S=>lenS e S fun f S=>bin .eql 0 f (.v (.int .i64 0)) S fun g S=>onB g fun b=>gd b (Q (.ret x1) S) (lenS e S fun h S=>callF Pg 15 [x0,h] S Q fun i S=>ixS 3 1 e i S fun k S=>ld1 k S fun l S=>Q (.ret l) S)
theorem calls25{x0 x1:AV}{S:Store}{Q:PoT}(h:m25 x0 x1 S Q):ACalls Pg 25 [x0,x1] S Q:=
 calls_of_vc (fn:=Tryz.f25) (c:=c25) (n:=23) Tryz.func25 (by kernel_rfl) (by kernel_rfl) (by kernel_rfl) ms25 (Eq.mpr (by kernel_rfl) h)
def c68:Code:=(Tryz.f68.body).getD .skip
def r68:List ResultVar:=Tryz.f68.results.toList
def env68_0(y1 y2 y3 y4 y10 y11:AV):List AV:=[y1,y2,y3,y4,y10,y11]
def lv68_0:List Nat:=[1,2,3,4,10,11]
def ms68:List (List Nat):=[lv68_0,[]]
def m68(x0 x1 x2 x3:AV)(S:Store)(Q:PoT):Prop:=
 boxN 29 8 x0 S fun a S=>lenS x1 S fun c S=>lenS x3 S fun d S=>bin .neq 0 c d S fun e S=>onB e fun b=>gd b (Q (.ret (.t [.v (.int .i64 0),.v (.bool false)])) S) (lenS x2 S fun f S=>lenS x3 S fun g S=>bin .neq 0 f g S fun h S=>onB h fun b=>gd b (Q (.ret (.t [.v (.int .i64 0),.v (.bool false)])) S) (loopV lv68_0 (vc Pg (c68.at_ [1,1,1,0,1,0,0]) (ms68.drop 1)) 63 (env68_0 x1 x2 x3 a (.v (.int .i64 0)) (.v (.int .i64 0))) S (blockK 0 (seqK (vc Pg (c68.at_ [1,1,1,1]) (ms68.drop 1)) (bodyK Pg r68 Q)))))
theorem calls68{x0 x1 x2 x3:AV}{S:Store}{Q:PoT}(h:m68 x0 x1 x2 x3 S Q):ACalls Pg 68 [x0,x1,x2,x3] S Q:=
 calls_of_vc (fn:=Tryz.f68) (c:=c68) (n:=63) Tryz.func68 (by kernel_rfl) (by kernel_rfl) (by kernel_rfl) ms68 (Eq.mpr (by kernel_rfl) h)
def b68_0(y1 y2 y3 y4 y10 y11:AV)(S:Store)(KE0:KeT)(Q:PoT):Prop:=
 lenS y3 S fun a S=>bin .lss 0 y11 a S fun c S=>onB c fun b=>gd b ((fun S0:Store=>∃ d:AV,(ldN 8 y4 S fun e S=>e=d∧S=S0)∧∃ f:AV,(ixS 32 4 y1 y11 S fun g S=>g=f∧S=S0)∧∃ h:AV,(ldN 4 f S fun i S=>i=h∧S=S0)∧∃ k:AV,(ixS 37 5 y3 y11 S fun l S=>l=k∧S=S0)∧∃ m:AV,(ldN 5 k S fun n S=>n=m∧S=S0)∧∃ o:AV,(callF Pg 34 [d,h,m] S (fun _ _=>False) fun p S=>p=o∧S=S0)∧∃ q:AV,(extr o 0 S fun r S=>r=q∧S=S0)∧∃ s:AV,(extr o 1 S fun u S=>u=s∧S=S0)∧(fun S0:Store=>∃ w:AV,(un .not s S fun x S=>x=w∧S=S0)∧onB w fun b=>gd b (∃ y:AV,((.v (.bool true))=y∧S=S0)∧onB y fun b=>gd b (Q (.ret (.t [.v (.int .i64 0),.v (.bool false)])) S) (bin .add 0 y10 q S fun z S=>bin .add 0 y11 (.v (.int .i64 1)) S fun A S=>KE0 63 (env68_0 y1 y2 y3 y4 z A) S)) (∃ B:AV,(ixS 37 5 y3 y11 S fun C S=>C=B∧S=S0)∧∃ D:AV,(shift B 1 S fun E S=>E=D∧S=S0)∧∃ F:AV,(ld1 D S fun G S=>G=F∧S=S0)∧∃ H:AV,(ixS 3 1 y2 y11 S fun I S=>I=H∧S=S0)∧∃ J:AV,(ld1 H S fun K S=>K=J∧S=S0)∧∃ L:AV,(bin .neq 0 F J S fun M S=>M=L∧S=S0)∧∃ N:AV,(L=N∧S=S0)∧onB N fun b=>gd b (Q (.ret (.t [.v (.int .i64 0),.v (.bool false)])) S) (bin .add 0 y10 q S fun O S=>bin .add 0 y11 (.v (.int .i64 1)) S fun P S=>KE0 63 (env68_0 y1 y2 y3 y4 O P) S))) S) S) (Q (.ret (.t [y10,.v (.bool true)])) S)
theorem b68_0_eq(y1 y2 y3 y4 y10 y11:AV)(S:Store)(KE0:KeT)(Q:PoT):vc Pg (c68.at_ [1,1,1,0,1,0,0]) (ms68.drop 1) (mkE 63 lv68_0 (env68_0 y1 y2 y3 y4 y10 y11)) S (thenK (fgK lv68_0 KE0) (blockK 0 (seqK (vc Pg (c68.at_ [1,1,1,1]) (ms68.drop 1)) (bodyK Pg r68 Q))))=b68_0 y1 y2 y3 y4 y10 y11 S KE0 Q:=by kernel_rfl
theorem loop68_0{y1 y2 y3 y4:AV}{y100 y110:AV}{S:Store}{Q:PoT}(I:AV→AV→Store→Prop)(μ:AV→AV→Store→Nat)(h0:I y100 y110 S)
    (hr:∀(y10 y11:AV) (S:Store),I y10 y11 S→∀ KE0:KeT,(∀(y10' y11':AV) (S':Store),I y10' y11' S'→μ y10' y11' S'<μ y10 y11 S→KE0 63 (env68_0 y1 y2 y3 y4 y10' y11') S')→b68_0 y1 y2 y3 y4 y10 y11 S KE0 Q):
    loopV lv68_0 (vc Pg (c68.at_ [1,1,1,0,1,0,0]) (ms68.drop 1)) 63 (env68_0 y1 y2 y3 y4 y100 y110) S (blockK 0 (seqK (vc Pg (c68.at_ [1,1,1,1]) (ms68.drop 1)) (bodyK Pg r68 Q))):=by
 refine⟨fun n e S=>n=63∧∃ y10 y11:AV,e=(env68_0 y1 y2 y3 y4 y10 y11)∧I y10 y11 S,fun _ e S=>μ (e.getD 4 .j) (e.getD 5 .j) S,?_,?_⟩
 ·exact⟨_,_,Wk.refl _ _,rfl,_,_,rfl,h0⟩
 ·rintro _ e S ⟨rfl,y10,y11,rfl,hI⟩
  exact(b68_0_eq _ _ _ _ _ _ _ _ _).mpr (hr y10 y11 S hI _ (fun y10' y11' S' hI' hm=>⟨_,_,Wk.refl _ _,⟨rfl,_,_,rfl,hI'⟩,hm⟩))
def c65:Code:=(Tryz.f65.body).getD .skip
def r65:List ResultVar:=Tryz.f65.results.toList
def env65_0(y1 y2 y6:AV):List AV:=[y1,y2,y6]
def lv65_0:List Nat:=[1,2,6]
def ms65:List (List Nat):=[lv65_0,[]]
def m65(x0 x1:AV)(S:Store)(Q:PoT):Prop:=
 boxN 29 8 x0 S fun a S=>shift a 0 S fun c S=>ld1 c S fun d S=>shift a 1 S fun e S=>ld1 e S fun f S=>lenS f S fun g S=>bin .add 0 d g S fun h S=>bin .lss 0 x1 (.v (.int .i64 0)) S fun i S=>onB i fun b=>gd b (Q (.ret (.v (.bool false))) S) (bin .shl 0 (.v (.int .i64 1)) h S fun k S=>bin .geq 0 x1 k S fun l S=>onB l fun b=>gd b (Q (.ret (.v (.bool false))) S) (loopV lv65_0 (vc Pg (c65.at_ [1,1,1,0,1,0,0]) (ms65.drop 1)) 37 (env65_0 x1 a (.v (.int .i64 0))) S (blockK 0 (seqK (vc Pg (c65.at_ [1,1,1,1]) (ms65.drop 1)) (bodyK Pg r65 Q)))))
theorem calls65{x0 x1:AV}{S:Store}{Q:PoT}(h:m65 x0 x1 S Q):ACalls Pg 65 [x0,x1] S Q:=
 calls_of_vc (fn:=Tryz.f65) (c:=c65) (n:=37) Tryz.func65 (by kernel_rfl) (by kernel_rfl) (by kernel_rfl) ms65 (Eq.mpr (by kernel_rfl) h)
def b65_0(y1 y2 y6:AV)(S:Store)(KE0:KeT)(Q:PoT):Prop:=
 shift y2 5 S fun a S=>ld1 a S fun c S=>lenS c S fun d S=>bin .lss 0 y6 d S fun e S=>onB e fun b=>gd b ((fun S0:Store=>∃ f:AV,(ldN 8 y2 S fun g S=>g=f∧S=S0)∧∃ h:AV,(shift y2 5 S fun i S=>i=h∧S=S0)∧∃ k:AV,(ld1 h S fun l S=>l=k∧S=S0)∧∃ m:AV,(ixS 3 1 k y6 S fun n S=>n=m∧S=S0)∧∃ o:AV,(ld1 m S fun p S=>p=o∧S=S0)∧∃ q:AV,(callF Pg 67 [f,y1,o] S (fun _ _=>False) fun r S=>r=q∧S=S0)∧∃ s:AV,(un .not q S fun t S=>t=s∧S=S0)∧onB s fun b=>gd b (Q (.ret (.v (.bool false))) S) (bin .add 0 y6 (.v (.int .i64 1)) S fun u S=>KE0 37 (env65_0 y1 y2 u) S)) S) (Q (.ret (.v (.bool true))) S)
theorem b65_0_eq(y1 y2 y6:AV)(S:Store)(KE0:KeT)(Q:PoT):vc Pg (c65.at_ [1,1,1,0,1,0,0]) (ms65.drop 1) (mkE 37 lv65_0 (env65_0 y1 y2 y6)) S (thenK (fgK lv65_0 KE0) (blockK 0 (seqK (vc Pg (c65.at_ [1,1,1,1]) (ms65.drop 1)) (bodyK Pg r65 Q))))=b65_0 y1 y2 y6 S KE0 Q:=by kernel_rfl
theorem loop65_0{y1 y2:AV}{y60:AV}{S:Store}{Q:PoT}(I:AV→Store→Prop)(μ:AV→Store→Nat)(h0:I y60 S)
    (hr:∀(y6:AV) (S:Store),I y6 S→∀ KE0:KeT,(∀(y6':AV) (S':Store),I y6' S'→μ y6' S'<μ y6 S→KE0 37 (env65_0 y1 y2 y6') S')→b65_0 y1 y2 y6 S KE0 Q):
    loopV lv65_0 (vc Pg (c65.at_ [1,1,1,0,1,0,0]) (ms65.drop 1)) 37 (env65_0 y1 y2 y60) S (blockK 0 (seqK (vc Pg (c65.at_ [1,1,1,1]) (ms65.drop 1)) (bodyK Pg r65 Q))):=by
 refine⟨fun n e S=>n=37∧∃ y6:AV,e=(env65_0 y1 y2 y6)∧I y6 S,fun _ e S=>μ (e.getD 2 .j) S,?_,?_⟩
 ·exact⟨_,_,Wk.refl _ _,rfl,_,rfl,h0⟩
 ·rintro _ e S ⟨rfl,y6,rfl,hI⟩
  exact(b65_0_eq _ _ _ _ _ _).mpr (hr y6 S hI _ (fun y6' S' hI' hm=>⟨_,_,Wk.refl _ _,⟨rfl,_,rfl,hI'⟩,hm⟩))
def c69:Code:=(Tryz.f69.body).getD .skip
def ms69:List (List Nat):=[[]]
def m69(x0 x1 x2:AV)(S:Store)(Q:PoT):Prop:=
 boxN 29 8 x0 S fun a S=>(fun S0:Store=>∃ c:AV,(ldN 8 a S fun d S=>d=c∧S=S0)∧∃ e:AV,(callF Pg 65 [c,x1] S (fun _ _=>False) fun f S=>f=e∧S=S0)∧onB e fun b=>gd b (∃ g:AV,(ldN 8 a S fun h S=>h=g∧S=S0)∧∃ i:AV,(callF Pg 65 [g,x2] S (fun _ _=>False) fun k S=>k=i∧S=S0)∧∃ l:AV,(i=l∧S=S0)∧onB l fun b=>gd b (∃ m:AV,(ldN 8 a S fun n S=>n=m∧S=S0)∧∃ o:AV,(callF Pg 78 [m,x1] S (fun _ _=>False) fun p S=>p=o∧S=S0)∧∃ q:AV,(shift a 0 S fun r S=>r=q∧S=S0)∧∃ s:AV,(ld1 q S fun t S=>t=s∧S=S0)∧∃ u:AV,(bin .shr 0 o s S fun w S=>w=u∧S=S0)∧∃ x:AV,(shift a 0 S fun y S=>y=x∧S=S0)∧∃ z:AV,(ld1 x S fun A S=>A=z∧S=S0)∧∃ B:AV,(bin .shr 0 x2 z S fun C S=>C=B∧S=S0)∧∃ D:AV,(bin .eql 0 u B S fun E S=>E=D∧S=S0)∧∃ F:AV,(D=F∧S=S0)∧Q (.ret F) S) (∃ G:AV,((.v (.bool false))=G∧S=S0)∧Q (.ret G) S)) (∃ H:AV,((.v (.bool false))=H∧S=S0)∧onB H fun b=>gd b (∃ I:AV,(ldN 8 a S fun J S=>J=I∧S=S0)∧∃ K:AV,(callF Pg 78 [I,x1] S (fun _ _=>False) fun L S=>L=K∧S=S0)∧∃ M:AV,(shift a 0 S fun N S=>N=M∧S=S0)∧∃ O:AV,(ld1 M S fun P S=>P=O∧S=S0)∧∃ R:AV,(bin .shr 0 K O S fun T S=>T=R∧S=S0)∧∃ U:AV,(shift a 0 S fun V S=>V=U∧S=S0)∧∃ W:AV,(ld1 U S fun X S=>X=W∧S=S0)∧∃ Y:AV,(bin .shr 0 x2 W S fun Z S=>Z=Y∧S=S0)∧∃ a0:AV,(bin .eql 0 R Y S fun a1 S=>a1=a0∧S=S0)∧∃ a2:AV,(a0=a2∧S=S0)∧Q (.ret a2) S) (∃ a3:AV,((.v (.bool false))=a3∧S=S0)∧Q (.ret a3) S))) S
theorem calls69{x0 x1 x2:AV}{S:Store}{Q:PoT}(h:m69 x0 x1 x2 S Q):ACalls Pg 69 [x0,x1,x2] S Q:=
 calls_of_vc (fn:=Tryz.f69) (c:=c69) (n:=28) Tryz.func69 (by kernel_rfl) (by kernel_rfl) (by kernel_rfl) ms69 (Eq.mpr (by kernel_rfl) h)
def c70:Code:=(Tryz.f70.body).getD .skip
def ms70:List (List Nat):=[[]]
def m70(S:Store)(Q:PoT):Prop:=
 boxN 32 4 (.a [.v (.int .i64 0),.v (.string ByteArray.empty),.v (.int .i64 0),.nl]) S fun c S=>bld [(0,1),(1,1),(2,1),(3,1)] [.v (.int .i64 0),.v (.string ByteArray.empty),.v (.int .i64 0),.nl] [(0,(.v (.int .i64 2)))] S fun d S=>stN 4 c d S fun e S=>ldN 4 c S fun f _=>Q (.ret f) S
theorem calls70{S:Store}{Q:PoT}(h:m70  S Q):ACalls Pg 70 [] S Q:=
 calls_of_vc (fn:=Tryz.f70) (c:=c70) (n:=2) Tryz.func70 (by kernel_rfl) (by kernel_rfl) (by kernel_rfl) ms70 (Eq.mpr (by kernel_rfl) h)
def c24:Code:=(Tryz.f24.body).getD .skip
def ms24:List (List Nat):=[[]]
def m24(x0 x1:AV)(S:Store)(Q:PoT):Prop:=
 boxN 32 4 x0 S fun c S=>boxN 32 4 x1 S fun d S=>boxN 32 4 (.a [.v (.int .i64 0),.v (.string ByteArray.empty),.v (.int .i64 0),.nl]) S fun e S=>ldN 4 c S fun f S=>ldN 4 d S fun g S=>callF Pg 41 [.v (.int .i64 15),f,g] S Q fun h S=>stN 4 e h S fun i S=>ldN 4 e S fun k _=>Q (.ret k) S
theorem calls24{x0 x1:AV}{S:Store}{Q:PoT}(h:m24 x0 x1 S Q):ACalls Pg 24 [x0,x1] S Q:=
 calls_of_vc (fn:=Tryz.f24) (c:=c24) (n:=8) Tryz.func24 (by kernel_rfl) (by kernel_rfl) (by kernel_rfl) ms24 (Eq.mpr (by kernel_rfl) h)
def c23:Code:=(Tryz.f23.body).getD .skip
def ms23:List (List Nat):=[[]]
def m23(x0:AV)(S:Store)(Q:PoT):Prop:=
 boxN 32 4 x0 S fun c S=>boxN 32 4 (.a [.v (.int .i64 0),.v (.string ByteArray.empty),.v (.int .i64 0),.nl]) S fun d S=>ldN 4 c S fun e S=>callF Pg 40 [.v (.int .i64 13),e] S Q fun f S=>stN 4 d f S fun g S=>ldN 4 d S fun h _=>Q (.ret h) S
theorem calls23{x0:AV}{S:Store}{Q:PoT}(h:m23 x0 S Q):ACalls Pg 23 [x0] S Q:=
 calls_of_vc (fn:=Tryz.f23) (c:=c23) (n:=5) Tryz.func23 (by kernel_rfl) (by kernel_rfl) (by kernel_rfl) ms23 (Eq.mpr (by kernel_rfl) h)
def c66:Code:=(Tryz.f66.body).getD .skip
def ms66:List (List Nat):=[[]]
def m66(x0:AV)(S:Store)(Q:PoT):Prop:=
 boxN 37 5 x0 S fun a S=>shift a 2 S fun c S=>ld1 c S fun d S=>bin .eql 0 d (.v (.int .i64 0)) S fun e S=>onB e fun b=>gd b (shift a 3 S fun f S=>ld1 f S fun g S=>lenS g S fun h S=>bin .eql 0 h (.v (.int .i64 0)) S fun i S=>onB i fun b=>gd b (shift a 4 S fun k S=>ld1 k S fun l S=>lenS l S fun m S=>bin .eql 0 m (.v (.int .i64 0)) S fun n S=>Q (.ret n) S) (Q (.ret (.v (.bool false))) S)) (Q (.ret (.v (.bool false))) S)
theorem calls66{x0:AV}{S:Store}{Q:PoT}(h:m66 x0 S Q):ACalls Pg 66 [x0] S Q:=
 calls_of_vc (fn:=Tryz.f66) (c:=c66) (n:=18) Tryz.func66 (by kernel_rfl) (by kernel_rfl) (by kernel_rfl) ms66 (Eq.mpr (by kernel_rfl) h)
def c18:Code:=(Tryz.f18.body).getD .skip
def ms18:List (List Nat):=[[]]
def m18(x0:AV)(S:Store)(Q:PoT):Prop:=
 boxN 32 4 x0 S fun c S=>boxN 32 4 (.a [.v (.int .i64 0),.v (.string ByteArray.empty),.v (.int .i64 0),.nl]) S fun d S=>ldN 4 c S fun e S=>callF Pg 35 [e,.v (.int .i64 60)] S Q fun f S=>un .not f S fun g S=>onB g fun b=>gd b (bld [(0,1),(1,1),(2,1),(3,1)] [.v (.int .i64 0),.v (.string ByteArray.empty),.v (.int .i64 0),.nl] [] S fun h S=>stN 4 d h S fun i S=>ldN 4 d S fun k _=>Q (.ret k) S) (∃ l:AV,(∀ T:Store,Keep S T→ldN 4 c T fun m S=>m=l∧S=T)∧∃ n:AV,(∀ T:Store,Keep S T→callF Pg 32 [] T (fun _ _=>False) fun o S=>o=n∧S=T)∧∃ p:AV,(∀ T:Store,Keep S T→callF Pg 31 [l,.v (.bool false),n] T (fun _ _=>False) fun q S=>q=p∧S=T)∧stN 4 d p S fun r S=>ldN 4 d S fun s _=>Q (.ret s) S)
theorem calls18{x0:AV}{S:Store}{Q:PoT}(h:m18 x0 S Q):ACalls Pg 18 [x0] S Q:=
 calls_of_vc (fn:=Tryz.f18) (c:=c18) (n:=10) Tryz.func18 (by kernel_rfl) (by kernel_rfl) (by kernel_rfl) ms18 (Eq.mpr (by kernel_rfl) h)
def c14:Code:=(Tryz.f14.body).getD .skip
def ms14:List (List Nat):=[[]]
def m14(x0:AV)(S:Store)(Q:PoT):Prop:=
 boxN 32 4 x0 S fun c S=>boxN 32 4 (.a [.v (.int .i64 0),.v (.string ByteArray.empty),.v (.int .i64 0),.nl]) S fun d S=>ldN 4 c S fun e S=>callF Pg 26 [e,.v (.int .i64 60)] S Q fun f S=>un .not f S fun g S=>onB g fun b=>gd b (bld [(0,1),(1,1),(2,1),(3,1)] [.v (.int .i64 0),.v (.string ByteArray.empty),.v (.int .i64 0),.nl] [] S fun h S=>stN 4 d h S fun i S=>ldN 4 d S fun k _=>Q (.ret k) S) (ldN 4 c S fun l S=>callF Pg 27 [l,.v (.bool false)] S Q fun m S=>stN 4 d m S fun n S=>ldN 4 d S fun o _=>Q (.ret o) S)
theorem calls14{x0:AV}{S:Store}{Q:PoT}(h:m14 x0 S Q):ACalls Pg 14 [x0] S Q:=
 calls_of_vc (fn:=Tryz.f14) (c:=c14) (n:=9) Tryz.func14 (by kernel_rfl) (by kernel_rfl) (by kernel_rfl) ms14 (Eq.mpr (by kernel_rfl) h)
def c31:Code:=(Tryz.f31.body).getD .skip
def r31:List ResultVar:=Tryz.f31.results.toList
def env31_0(y1 y6 y7 y8 y71 y72:AV):List AV:=[y1,y6,y7,y8,y71,y72]
def lv31_0:List Nat:=[1,6,7,8,71,72]
def ms31:List (List Nat):=[lv31_0,[]]
def m31(x0 x1 x2:AV)(S:Store)(Q:PoT):Prop:=
 boxN 32 4 x0 S fun c S=>boxN 79 1 x2 S fun d S=>boxN 32 4 (.a [.v (.int .i64 0),.v (.string ByteArray.empty),.v (.int .i64 0),.nl]) S fun e S=>shift c 0 S fun g S=>ld1 g S fun h S=>bin .eql 0 h (.v (.int .i64 3)) S fun k S=>onB k fun b=>gd b (onB x1 fun b=>gd b (ldN 4 c S fun l S=>bslN 32 4 1 [.v (.int .i64 0),.v (.string ByteArray.empty),.v (.int .i64 0),.nl] [(0,l)] S fun m S=>callF Pg 62 [.v (.int .i64 4),m] S Q fun n S=>stN 4 e n S fun o S=>ldN 4 e S fun p _=>Q (.ret p) S) (ldN 4 c S fun q S=>stN 4 e q S fun r S=>ldN 4 e S fun s _=>Q (.ret s) S)) (bin .eql 0 h (.v (.int .i64 4)) S fun t S=>onB t fun b=>gd b (un .not x1 S fun w S=>callV Pg (.f (.func 61) [] [c,d]) [.v (.int .i64 0),w] S (fun x S=>stN 4 e x S fun y S=>ldN 4 e S fun z _=>Q (.ret z) S) (fun u S=>Q (.pan u) S)) (bin .eql 0 h (.v (.int .i64 7)) S fun A S=>onB A fun b=>gd b (onB x1 fun b=>gd b (callV Pg (.f (.func 61) [] [c,d]) [.v (.int .i64 0),.v (.bool false)] S (fun B S=>callV Pg (.f (.func 61) [] [c,d]) [.v (.int .i64 1),.v (.bool true)] S (fun C S=>bslN 32 4 2 [.v (.int .i64 0),.v (.string ByteArray.empty),.v (.int .i64 0),.nl] [(0,B),(1,C)] S fun D S=>callF Pg 62 [.v (.int .i64 5),D] S Q fun E S=>stN 4 e E S fun F S=>ldN 4 e S fun G _=>Q (.ret G) S) (fun u S=>Q (.pan u) S)) (fun u S=>Q (.pan u) S)) (callV Pg (.f (.func 61) [] [c,d]) [.v (.int .i64 0),.v (.bool true)] S (fun H S=>callV Pg (.f (.func 61) [] [c,d]) [.v (.int .i64 1),.v (.bool false)] S (fun I S=>bslN 32 4 2 [.v (.int .i64 0),.v (.string ByteArray.empty),.v (.int .i64 0),.nl] [(0,H),(1,I)] S fun J S=>callF Pg 62 [.v (.int .i64 6),J] S Q fun K S=>stN 4 e K S fun L S=>ldN 4 e S fun M _=>Q (.ret M) S) (fun u S=>Q (.pan u) S)) (fun u S=>Q (.pan u) S))) (bin .eql 0 h (.v (.int .i64 8)) S fun N S=>onB N fun b=>gd b (callV Pg (.f (.func 61) [] [c,d]) [.v (.int .i64 0),.v (.bool false)] S (fun O S=>callV Pg (.f (.func 61) [] [c,d]) [.v (.int .i64 1),x1] S (fun P S=>bslN 32 4 2 [.v (.int .i64 0),.v (.string ByteArray.empty),.v (.int .i64 0),.nl] [(0,O),(1,P)] S fun R S=>callF Pg 62 [.v (.int .i64 5),R] S Q fun T S=>callV Pg (.f (.func 61) [] [c,d]) [.v (.int .i64 0),.v (.bool true)] S (fun U S=>un .not x1 S fun V S=>callV Pg (.f (.func 61) [] [c,d]) [.v (.int .i64 1),V] S (fun W S=>bslN 32 4 2 [.v (.int .i64 0),.v (.string ByteArray.empty),.v (.int .i64 0),.nl] [(0,U),(1,W)] S fun X S=>callF Pg 62 [.v (.int .i64 5),X] S Q fun Y S=>bslN 32 4 2 [.v (.int .i64 0),.v (.string ByteArray.empty),.v (.int .i64 0),.nl] [(0,T),(1,Y)] S fun Z S=>callF Pg 62 [.v (.int .i64 6),Z] S Q fun a0 S=>stN 4 e a0 S fun a1 S=>ldN 4 e S fun a2 _=>Q (.ret a2) S) (fun u S=>Q (.pan u) S)) (fun u S=>Q (.pan u) S)) (fun u S=>Q (.pan u) S)) (fun u S=>Q (.pan u) S)) (shift c 0 S fun a3 S=>ld1 a3 S fun a4 S=>bld [(0,1),(1,1),(2,1),(3,1)] [.v (.int .i64 0),.v (.string ByteArray.empty),.v (.int .i64 0),.nl] [(0,a4)] S fun a5 S=>boxN 32 4 (.a [.v (.int .i64 0),.v (.string ByteArray.empty),.v (.int .i64 0),.nl]) S fun a6 S=>stN 4 a6 a5 S fun a7 S=>onB x1 fun b=>gd b (ld1 d S fun a8 S=>shift c 0 S fun a9 S=>ld1 a9 S fun b0 S=>lkM (.i .i64) (.v (.int .i64 0)) false a8 b0 S fun b1 S=>shift a6 0 S fun b2 S=>stN 1 b2 b1 S fun b3 S=>shift c 3 S fun b4 S=>ld1 b4 S fun b5 S=>lenS b5 S fun b6 S=>loopV lv31_0 (vc Pg (c31.at_ [1,1,1,1,1,0,1,0,0]) (ms31.drop 1)) 86 (env31_0 x1 e (.f (.func 61) [] [c,d]) a6 b6 (.v (.int .i64 0))) S (blockK 1 (seqK (vc Pg (c31.at_ [1,1,1,1,1,1]) (ms31.drop 1)) (bodyK Pg r31 Q)))) (shift c 3 S fun b9 S=>ld1 b9 S fun c0 S=>lenS c0 S fun c1 S=>loopV lv31_0 (vc Pg (c31.at_ [1,1,1,1,1,0,1,0,0]) (ms31.drop 1)) 86 (env31_0 x1 e (.f (.func 61) [] [c,d]) a6 c1 (.v (.int .i64 0))) S (blockK 1 (seqK (vc Pg (c31.at_ [1,1,1,1,1,1]) (ms31.drop 1)) (bodyK Pg r31 Q))))))))
theorem calls31{x0 x1 x2:AV}{S:Store}{Q:PoT}(h:m31 x0 x1 x2 S Q):ACalls Pg 31 [x0,x1,x2] S Q:=
 calls_of_vc (fn:=Tryz.f31) (c:=c31) (n:=86) Tryz.func31 (by kernel_rfl) (by kernel_rfl) (by kernel_rfl) ms31 (Eq.mpr (by kernel_rfl) h)
def b31_0(y1 y6 y7 y8 y71 y72:AV)(S:Store)(KE0:KeT)(Q:PoT):Prop:=
 bin .lss 0 y72 y71 S fun a S=>onB a fun b=>gd b (∃ c:AV,(∀ T:Store,Keep S T→shift y8 3 T fun d S=>d=c∧S=T)∧∃ e:AV,(∀ T:Store,Keep S T→ld1 c T fun f S=>f=e∧S=T)∧∃ g:AV,(∀ T:Store,Keep S T→callV Pg y7 [y72,y1] T (fun h S=>h=g∧S=T) (fun u S=>False))∧∃ i:AV,(∀ T:Store,Keep S T→bslN 32 4 1 [.v (.int .i64 0),.v (.string ByteArray.empty),.v (.int .i64 0),.nl] [(0,g)] T fun k S=>k=i∧S=T)∧appS 32 4 56 e i S fun l S=>∃ m:AV,(∀ T:Store,Keep S T→shift y8 3 T fun n S=>n=m∧S=T)∧stN 1 m l S fun o S=>bin .add 0 y72 (.v (.int .i64 1)) S fun p S=>KE0 86 (env31_0 y1 y6 y7 y8 y71 p) S) (ldN 4 y8 S fun q S=>stN 4 y6 q S fun r S=>ldN 4 y6 S fun s _=>Q (.ret s) S)
theorem b31_0_eq(y1 y6 y7 y8 y71 y72:AV)(S:Store)(KE0:KeT)(Q:PoT):vc Pg (c31.at_ [1,1,1,1,1,0,1,0,0]) (ms31.drop 1) (mkE 86 lv31_0 (env31_0 y1 y6 y7 y8 y71 y72)) S (thenK (fgK lv31_0 KE0) (blockK 1 (seqK (vc Pg (c31.at_ [1,1,1,1,1,1]) (ms31.drop 1)) (bodyK Pg r31 Q))))=b31_0 y1 y6 y7 y8 y71 y72 S KE0 Q:=by kernel_rfl
theorem loop31_0{y1 y6 y7 y8 y71:AV}{y720:AV}{S:Store}{Q:PoT}(I:AV→Store→Prop)(μ:AV→Store→Nat)(h0:I y720 S)
    (hr:∀(y72:AV) (S:Store),I y72 S→∀ KE0:KeT,(∀(y72':AV) (S':Store),I y72' S'→μ y72' S'<μ y72 S→KE0 86 (env31_0 y1 y6 y7 y8 y71 y72') S')→b31_0 y1 y6 y7 y8 y71 y72 S KE0 Q):
    loopV lv31_0 (vc Pg (c31.at_ [1,1,1,1,1,0,1,0,0]) (ms31.drop 1)) 86 (env31_0 y1 y6 y7 y8 y71 y720) S (blockK 1 (seqK (vc Pg (c31.at_ [1,1,1,1,1,1]) (ms31.drop 1)) (bodyK Pg r31 Q))):=by
 refine⟨fun n e S=>n=86∧∃ y72:AV,e=(env31_0 y1 y6 y7 y8 y71 y72)∧I y72 S,fun _ e S=>μ (e.getD 5 .j) S,?_,?_⟩
 ·exact⟨_,_,Wk.refl _ _,rfl,_,rfl,h0⟩
 ·rintro _ e S ⟨rfl,y72,rfl,hI⟩
  exact(b31_0_eq _ _ _ _ _ _ _ _ _).mpr (hr y72 S hI _ (fun y72' S' hI' hm=>⟨_,_,Wk.refl _ _,⟨rfl,_,rfl,hI'⟩,hm⟩))
def c62:Code:=(Tryz.f62.body).getD .skip
def ms62:List (List Nat):=[[]]
def m62(x0 x1:AV)(S:Store)(Q:PoT):Prop:=
 boxN 32 4 (.a [.v (.int .i64 0),.v (.string ByteArray.empty),.v (.int .i64 0),.nl]) S fun c S=>bld [(0,1),(1,1),(2,1),(3,1)] [.v (.int .i64 0),.v (.string ByteArray.empty),.v (.int .i64 0),.nl] [(0,x0),(3,x1)] S fun d S=>stN 4 c d S fun e S=>ldN 4 c S fun f _=>Q (.ret f) S
theorem calls62{x0 x1:AV}{S:Store}{Q:PoT}(h:m62 x0 x1 S Q):ACalls Pg 62 [x0,x1] S Q:=
 calls_of_vc (fn:=Tryz.f62) (c:=c62) (n:=8) Tryz.func62 (by kernel_rfl) (by kernel_rfl) (by kernel_rfl) ms62 (Eq.mpr (by kernel_rfl) h)
def c32:Code:=(Tryz.f32.body).getD .skip
def r32:List ResultVar:=Tryz.f32.results.toList
def env32_0(y1 y12 y13:AV):List AV:=[y1,y12,y13]
def lv32_0:List Nat:=[1,12,13]
def ms32:List (List Nat):=[lv32_0,[]]
def m32(S:Store)(Q:PoT):Prop:=
 mkM (.i .i64) S fun a S=>bld [(0,1),(1,1)] [.v (.int .i64 0),.v (.int .i64 0)] [(0,(.v (.int .i64 1))),(1,(.v (.int .i64 2)))] S fun c S=>bld [(0,1),(1,1)] [.v (.int .i64 0),.v (.int .i64 0)] [(0,(.v (.int .i64 5))),(1,(.v (.int .i64 6)))] S fun d S=>bld [(0,1),(1,1)] [.v (.int .i64 0),.v (.int .i64 0)] [(0,(.v (.int .i64 9))),(1,(.v (.int .i64 10)))] S fun e S=>bld [(0,1),(1,1)] [.v (.int .i64 0),.v (.int .i64 0)] [(0,(.v (.int .i64 11))),(1,(.v (.int .i64 14)))] S fun f S=>bld [(0,1),(1,1)] [.v (.int .i64 0),.v (.int .i64 0)] [(0,(.v (.int .i64 13))),(1,(.v (.int .i64 12)))] S fun g S=>bld [(0,1),(1,1)] [.v (.int .i64 0),.v (.int .i64 0)] [(0,(.v (.int .i64 15))),(1,(.v (.int .i64 18)))] S fun h S=>bld [(0,1),(1,1)] [.v (.int .i64 0),.v (.int .i64 0)] [(0,(.v (.int .i64 17))),(1,(.v (.int .i64 16)))] S fun k S=>bld [(0,2),(2,2),(4,2),(6,2),(8,2),(10,2),(12,2)] [.v (.int .i64 0),.v (.int .i64 0),.v (.int .i64 0),.v (.int .i64 0),.v (.int .i64 0),.v (.int .i64 0),.v (.int .i64 0),.v (.int .i64 0),.v (.int .i64 0),.v (.int .i64 0),.v (.int .i64 0),.v (.int .i64 0),.v (.int .i64 0),.v (.int .i64 0)] [(0,c),(1,d),(2,e),(3,f),(4,g),(5,h),(6,k)] S fun l S=>loopV lv32_0 (vc Pg (c32.at_ [1,1,0,1,0,0]) (ms32.drop 1)) 28 (env32_0 a l (.v (.int .i64 0))) S (blockK 0 (seqK (vc Pg (c32.at_ [1,1,1]) (ms32.drop 1)) (bodyK Pg r32 Q)))
theorem calls32{S:Store}{Q:PoT}(h:m32  S Q):ACalls Pg 32 [] S Q:=
 calls_of_vc (fn:=Tryz.f32) (c:=c32) (n:=28) Tryz.func32 (by kernel_rfl) (by kernel_rfl) (by kernel_rfl) ms32 (Eq.mpr (by kernel_rfl) h)
def b32_0(y1 y12 y13:AV)(S:Store)(KE0:KeT)(Q:PoT):Prop:=
 bin .lss 0 y13 (.v (.int .i64 7)) S fun c S=>onB c fun b=>gd b (optP (intA y13) fun z12=>(0≤z12∧z12<((7:Nat):Int))∧partN y12 2 (z12.toNat*2) S fun d S=>boxN 96 2 (.a [.v (.int .i64 0),.v (.int .i64 0)]) S fun e S=>stN 2 e d S fun f S=>∃ g:AV,(∀ T:Store,Keep S T→ixA 2 1 e (.v (.int .i64 0)) T fun h S=>h=g∧S=T)∧∃ k:AV,(∀ T:Store,Keep S T→ld1 g T fun l S=>l=k∧S=T)∧∃ m:AV,(∀ T:Store,Keep S T→ixA 2 1 e (.v (.int .i64 1)) T fun n S=>n=m∧S=T)∧∃ o:AV,(∀ T:Store,Keep S T→ld1 m T fun p S=>p=o∧S=T)∧∃ q:AV,(∀ T:Store,Keep S T→ixA 2 1 e (.v (.int .i64 1)) T fun r S=>r=q∧S=T)∧∃ s:AV,(∀ T:Store,Keep S T→ld1 q T fun t S=>t=s∧S=T)∧∃ u:AV,(∀ T:Store,Keep S T→ixA 2 1 e (.v (.int .i64 0)) T fun w S=>w=u∧S=T)∧∃ x:AV,(∀ T:Store,Keep S T→ld1 u T fun y S=>y=x∧S=T)∧updM (.i .i64) y1 k s S fun z S=>(∀ T:Store,Keep S T→ld1 u T fun A S=>A=x∧S=T)∧(∀ T:Store,Keep S T→ixA 2 1 e (.v (.int .i64 0)) T fun B S=>B=u∧S=T)∧(∀ T:Store,Keep S T→ld1 m T fun C S=>C=o∧S=T)∧(∀ T:Store,Keep S T→ixA 2 1 e (.v (.int .i64 1)) T fun D S=>D=m∧S=T)∧updM (.i .i64) y1 o x S fun E S=>bin .add 0 y13 (.v (.int .i64 1)) S fun F S=>KE0 28 (env32_0 y1 y12 F) S) (Q (.ret y1) S)
theorem b32_0_eq(y1 y12 y13:AV)(S:Store)(KE0:KeT)(Q:PoT):vc Pg (c32.at_ [1,1,0,1,0,0]) (ms32.drop 1) (mkE 28 lv32_0 (env32_0 y1 y12 y13)) S (thenK (fgK lv32_0 KE0) (blockK 0 (seqK (vc Pg (c32.at_ [1,1,1]) (ms32.drop 1)) (bodyK Pg r32 Q))))=b32_0 y1 y12 y13 S KE0 Q:=by kernel_rfl
theorem loop32_0{y1 y12:AV}{y130:AV}{S:Store}{Q:PoT}(I:AV→Store→Prop)(μ:AV→Store→Nat)(h0:I y130 S)
    (hr:∀(y13:AV) (S:Store),I y13 S→∀ KE0:KeT,(∀(y13':AV) (S':Store),I y13' S'→μ y13' S'<μ y13 S→KE0 28 (env32_0 y1 y12 y13') S')→b32_0 y1 y12 y13 S KE0 Q):
    loopV lv32_0 (vc Pg (c32.at_ [1,1,0,1,0,0]) (ms32.drop 1)) 28 (env32_0 y1 y12 y130) S (blockK 0 (seqK (vc Pg (c32.at_ [1,1,1]) (ms32.drop 1)) (bodyK Pg r32 Q))):=by
 refine⟨fun n e S=>n=28∧∃ y13:AV,e=(env32_0 y1 y12 y13)∧I y13 S,fun _ e S=>μ (e.getD 2 .j) S,?_,?_⟩
 ·exact⟨_,_,Wk.refl _ _,rfl,_,rfl,h0⟩
 ·rintro _ e S ⟨rfl,y13,rfl,hI⟩
  exact(b32_0_eq _ _ _ _ _ _).mpr (hr y13 S hI _ (fun y13' S' hI' hm=>⟨_,_,Wk.refl _ _,⟨rfl,_,rfl,hI'⟩,hm⟩))
def c61:Code:=(Tryz.f61.body).getD .skip
def ms61:List (List Nat):=[[]]
def m61(x0 x1 x2 x3:AV)(S:Store)(Q:PoT):Prop:=
 boxN 32 4 (.a [.v (.int .i64 0),.v (.string ByteArray.empty),.v (.int .i64 0),.nl]) S fun c S=>∃ d:AV,(∀ T:Store,Keep S T→shift x2 3 T fun e S=>e=d∧S=T)∧∃ f:AV,(∀ T:Store,Keep S T→ld1 d T fun g S=>g=f∧S=T)∧∃ h:AV,(∀ T:Store,Keep S T→ixS 32 4 f x0 T fun i S=>i=h∧S=T)∧∃ k:AV,(∀ T:Store,Keep S T→ldN 4 h T fun l S=>l=k∧S=T)∧∃ m:AV,(∀ T:Store,Keep S T→ld1 x3 T fun n S=>n=m∧S=T)∧∃ o:AV,(∀ T:Store,Keep S T→callF Pg 31 [k,x1,m] T (fun _ _=>False) fun p S=>p=o∧S=T)∧stN 4 c o S fun q S=>ldN 4 c S fun r _=>Q (.ret r) S
theorem calls61{x0 x1 x2 x3:AV}{S:Store}{Q:PoT}(h:m61 x0 x1 x2 x3 S Q):ACalls Pg 61 [x0,x1,x2,x3] S Q:=
 calls_of_vc (fn:=Tryz.f61) (c:=c61) (n:=15) Tryz.func61 (by kernel_rfl) (by kernel_rfl) (by kernel_rfl) ms61 (Eq.mpr (by kernel_rfl) h)
def c27:Code:=(Tryz.f27.body).getD .skip
def r27:List ResultVar:=Tryz.f27.results.toList
def env27_0(y1 y2 y4 y7 y8:AV):List AV:=[y1,y2,y4,y7,y8]
def lv27_0:List Nat:=[1,2,4,7,8]
def ms27:List (List Nat):=[lv27_0,[]]
def m27(x0 x1:AV)(S:Store)(Q:PoT):Prop:=
 boxN 32 4 x0 S fun c S=>boxN 32 4 (.a [.v (.int .i64 0),.v (.string ByteArray.empty),.v (.int .i64 0),.nl]) S fun d S=>shift c 0 S fun e S=>ld1 e S fun f S=>bin .eql 0 f (.v (.int .i64 3)) S fun g S=>onB g fun b=>gd b (onB x1 fun b=>gd b (ldN 4 c S fun h S=>callF Pg 40 [.v (.int .i64 4),h] S Q fun i S=>stN 4 d i S fun k S=>ldN 4 d S fun l _=>Q (.ret l) S) (ldN 4 c S fun m S=>stN 4 d m S fun n S=>ldN 4 d S fun o _=>Q (.ret o) S)) (bin .eql 0 f (.v (.int .i64 4)) S fun p S=>onB p fun b=>gd b (shift c 3 S fun q S=>ld1 q S fun r S=>ixS 32 4 r (.v (.int .i64 0)) S fun s S=>ldN 4 s S fun t S=>un .not x1 S fun u S=>callF Pg 27 [t,u] S Q fun w S=>stN 4 d w S fun x S=>ldN 4 d S fun y _=>Q (.ret y) S) (bin .eql 0 f (.v (.int .i64 7)) S fun z S=>onB z fun b=>gd b (onB x1 fun b=>gd b (∃ A:AV,(∀ T:Store,Keep S T→shift c 3 T fun B S=>B=A∧S=T)∧∃ C:AV,(∀ T:Store,Keep S T→ld1 A T fun D S=>D=C∧S=T)∧∃ E:AV,(∀ T:Store,Keep S T→ixS 32 4 C (.v (.int .i64 0)) T fun F S=>F=E∧S=T)∧∃ G:AV,(∀ T:Store,Keep S T→ldN 4 E T fun H S=>H=G∧S=T)∧∃ I:AV,(∀ T:Store,Keep S T→callF Pg 27 [G,.v (.bool false)] T (fun _ _=>False) fun J S=>J=I∧S=T)∧∃ K:AV,(∀ T:Store,Keep S T→shift c 3 T fun L S=>L=K∧S=T)∧∃ M:AV,(∀ T:Store,Keep S T→ld1 K T fun N S=>N=M∧S=T)∧∃ O:AV,(∀ T:Store,Keep S T→ixS 32 4 M (.v (.int .i64 1)) T fun P S=>P=O∧S=T)∧∃ R:AV,(∀ T:Store,Keep S T→ldN 4 O T fun U S=>U=R∧S=T)∧∃ V:AV,(∀ T:Store,Keep S T→callF Pg 27 [R,.v (.bool true)] T (fun _ _=>False) fun W S=>W=V∧S=T)∧∃ X:AV,(∀ T:Store,Keep S T→callF Pg 41 [.v (.int .i64 5),I,V] T (fun _ _=>False) fun Y S=>Y=X∧S=T)∧stN 4 d X S fun Z S=>ldN 4 d S fun a0 _=>Q (.ret a0) S) (∃ a1:AV,(∀ T:Store,Keep S T→shift c 3 T fun a2 S=>a2=a1∧S=T)∧∃ a3:AV,(∀ T:Store,Keep S T→ld1 a1 T fun a4 S=>a4=a3∧S=T)∧∃ a5:AV,(∀ T:Store,Keep S T→ixS 32 4 a3 (.v (.int .i64 0)) T fun a6 S=>a6=a5∧S=T)∧∃ a7:AV,(∀ T:Store,Keep S T→ldN 4 a5 T fun a8 S=>a8=a7∧S=T)∧∃ a9:AV,(∀ T:Store,Keep S T→callF Pg 27 [a7,.v (.bool true)] T (fun _ _=>False) fun b0 S=>b0=a9∧S=T)∧∃ b1:AV,(∀ T:Store,Keep S T→shift c 3 T fun b2 S=>b2=b1∧S=T)∧∃ b3:AV,(∀ T:Store,Keep S T→ld1 b1 T fun b4 S=>b4=b3∧S=T)∧∃ b5:AV,(∀ T:Store,Keep S T→ixS 32 4 b3 (.v (.int .i64 1)) T fun b8 S=>b8=b5∧S=T)∧∃ b9:AV,(∀ T:Store,Keep S T→ldN 4 b5 T fun c0 S=>c0=b9∧S=T)∧∃ c1:AV,(∀ T:Store,Keep S T→callF Pg 27 [b9,.v (.bool false)] T (fun _ _=>False) fun c2 S=>c2=c1∧S=T)∧∃ c3:AV,(∀ T:Store,Keep S T→callF Pg 41 [.v (.int .i64 6),a9,c1] T (fun _ _=>False) fun c4 S=>c4=c3∧S=T)∧stN 4 d c3 S fun c5 S=>ldN 4 d S fun c6 _=>Q (.ret c6) S)) (bin .eql 0 f (.v (.int .i64 8)) S fun c7 S=>onB c7 fun b=>gd b (∃ c8:AV,(∀ T:Store,Keep S T→shift c 3 T fun c9 S=>c9=c8∧S=T)∧∃ d0:AV,(∀ T:Store,Keep S T→ld1 c8 T fun d1 S=>d1=d0∧S=T)∧∃ d2:AV,(∀ T:Store,Keep S T→ixS 32 4 d0 (.v (.int .i64 0)) T fun d3 S=>d3=d2∧S=T)∧∃ d4:AV,(∀ T:Store,Keep S T→ldN 4 d2 T fun d5 S=>d5=d4∧S=T)∧∃ d6:AV,(∀ T:Store,Keep S T→callF Pg 27 [d4,.v (.bool false)] T (fun _ _=>False) fun d7 S=>d7=d6∧S=T)∧∃ d8:AV,(∀ T:Store,Keep S T→shift c 3 T fun d9 S=>d9=d8∧S=T)∧∃ e0:AV,(∀ T:Store,Keep S T→ld1 d8 T fun e1 S=>e1=e0∧S=T)∧∃ e2:AV,(∀ T:Store,Keep S T→ixS 32 4 e0 (.v (.int .i64 1)) T fun e3 S=>e3=e2∧S=T)∧∃ e4:AV,(∀ T:Store,Keep S T→ldN 4 e2 T fun e5 S=>e5=e4∧S=T)∧∃ e6:AV,(∀ T:Store,Keep S T→callF Pg 27 [e4,x1] T (fun _ _=>False) fun e7 S=>e7=e6∧S=T)∧∃ e8:AV,(∀ T:Store,Keep S T→callF Pg 41 [.v (.int .i64 5),d6,e6] T (fun _ _=>False) fun e9 S=>e9=e8∧S=T)∧boxN 32 4 (.a [.v (.int .i64 0),.v (.string ByteArray.empty),.v (.int .i64 0),.nl]) S fun f0 S=>stN 4 f0 e8 S fun f1 S=>∃ f2:AV,(∀ T:Store,Keep S T→shift c 3 T fun f3 S=>f3=f2∧S=T)∧∃ f4:AV,(∀ T:Store,Keep S T→ld1 f2 T fun f5 S=>f5=f4∧S=T)∧∃ f6:AV,(∀ T:Store,Keep S T→ixS 32 4 f4 (.v (.int .i64 0)) T fun f7 S=>f7=f6∧S=T)∧∃ f8:AV,(∀ T:Store,Keep S T→ldN 4 f6 T fun f9 S=>f9=f8∧S=T)∧∃ g0:AV,(∀ T:Store,Keep S T→callF Pg 27 [f8,.v (.bool true)] T (fun _ _=>False) fun g1 S=>g1=g0∧S=T)∧∃ g2:AV,(∀ T:Store,Keep S T→shift c 3 T fun g3 S=>g3=g2∧S=T)∧∃ g4:AV,(∀ T:Store,Keep S T→ld1 g2 T fun g5 S=>g5=g4∧S=T)∧∃ g6:AV,(∀ T:Store,Keep S T→ixS 32 4 g4 (.v (.int .i64 1)) T fun g7 S=>g7=g6∧S=T)∧∃ g8:AV,(∀ T:Store,Keep S T→ldN 4 g6 T fun g9 S=>g9=g8∧S=T)∧∃ h0:AV,(∀ T:Store,Keep S T→un .not x1 T fun h1 S=>h1=h0∧S=T)∧∃ h2:AV,(∀ T:Store,Keep S T→callF Pg 27 [g8,h0] T (fun _ _=>False) fun h3 S=>h3=h2∧S=T)∧∃ h4:AV,(∀ T:Store,Keep S T→callF Pg 41 [.v (.int .i64 5),g0,h2] T (fun _ _=>False) fun h5 S=>h5=h4∧S=T)∧boxN 32 4 (.a [.v (.int .i64 0),.v (.string ByteArray.empty),.v (.int .i64 0),.nl]) S fun h6 S=>stN 4 h6 h4 S fun h7 S=>ldN 4 f0 S fun h8 S=>ldN 4 h6 S fun h9 S=>callF Pg 41 [.v (.int .i64 6),h8,h9] S Q fun i0 S=>stN 4 d i0 S fun i1 S=>ldN 4 d S fun i2 _=>Q (.ret i2) S) (shift c 0 S fun i3 S=>ld1 i3 S fun i4 S=>bld [(0,1),(1,1),(2,1),(3,1)] [.v (.int .i64 0),.v (.string ByteArray.empty),.v (.int .i64 0),.nl] [(0,i4)] S fun i5 S=>boxN 32 4 (.a [.v (.int .i64 0),.v (.string ByteArray.empty),.v (.int .i64 0),.nl]) S fun i6 S=>stN 4 i6 i5 S fun i7 S=>onB x1 fun b=>gd b (shift c 0 S fun i8 S=>ld1 i8 S fun i9 S=>callF Pg 43 [i9] S Q fun k0 S=>shift i6 0 S fun k1 S=>stN 1 k1 k0 S fun k2 S=>loopV lv27_0 (vc Pg (c27.at_ [1,1,1,1,0,1,0,0]) (ms27.drop 1)) 109 (env27_0 x1 c d i6 (.v (.int .i64 0))) S (blockK 1 (seqK (vc Pg (c27.at_ [1,1,1,1,1]) (ms27.drop 1)) (bodyK Pg r27 Q)))) (loopV lv27_0 (vc Pg (c27.at_ [1,1,1,1,0,1,0,0]) (ms27.drop 1)) 109 (env27_0 x1 c d i6 (.v (.int .i64 0))) S (blockK 1 (seqK (vc Pg (c27.at_ [1,1,1,1,1]) (ms27.drop 1)) (bodyK Pg r27 Q))))))))
theorem calls27{x0 x1:AV}{S:Store}{Q:PoT}(h:m27 x0 x1 S Q):ACalls Pg 27 [x0,x1] S Q:=
 calls_of_vc (fn:=Tryz.f27) (c:=c27) (n:=109) Tryz.func27 (by kernel_rfl) (by kernel_rfl) (by kernel_rfl) ms27 (Eq.mpr (by kernel_rfl) h)
def b27_0(y1 y2 y4 y7 y8:AV)(S:Store)(KE0:KeT)(Q:PoT):Prop:=
 shift y2 3 S fun a S=>ld1 a S fun c S=>lenS c S fun d S=>bin .lss 0 y8 d S fun e S=>onB e fun b=>gd b (∃ f:AV,(∀ T:Store,Keep S T→shift y7 3 T fun g S=>g=f∧S=T)∧∃ h:AV,(∀ T:Store,Keep S T→ld1 f T fun i S=>i=h∧S=T)∧∃ k:AV,(∀ T:Store,Keep S T→shift y2 3 T fun l S=>l=k∧S=T)∧∃ m:AV,(∀ T:Store,Keep S T→ld1 k T fun n S=>n=m∧S=T)∧∃ o:AV,(∀ T:Store,Keep S T→ixS 32 4 m y8 T fun p S=>p=o∧S=T)∧∃ q:AV,(∀ T:Store,Keep S T→ldN 4 o T fun r S=>r=q∧S=T)∧∃ s:AV,(∀ T:Store,Keep S T→callF Pg 27 [q,y1] T (fun _ _=>False) fun t S=>t=s∧S=T)∧∃ u:AV,(∀ T:Store,Keep S T→bslN 32 4 1 [.v (.int .i64 0),.v (.string ByteArray.empty),.v (.int .i64 0),.nl] [(0,s)] T fun w S=>w=u∧S=T)∧appS 32 4 56 h u S fun x S=>∃ y:AV,(∀ T:Store,Keep S T→shift y7 3 T fun z S=>z=y∧S=T)∧stN 1 y x S fun A S=>bin .add 0 y8 (.v (.int .i64 1)) S fun B S=>KE0 109 (env27_0 y1 y2 y4 y7 B) S) (ldN 4 y7 S fun C S=>stN 4 y4 C S fun D S=>ldN 4 y4 S fun E _=>Q (.ret E) S)
theorem b27_0_eq(y1 y2 y4 y7 y8:AV)(S:Store)(KE0:KeT)(Q:PoT):vc Pg (c27.at_ [1,1,1,1,0,1,0,0]) (ms27.drop 1) (mkE 109 lv27_0 (env27_0 y1 y2 y4 y7 y8)) S (thenK (fgK lv27_0 KE0) (blockK 1 (seqK (vc Pg (c27.at_ [1,1,1,1,1]) (ms27.drop 1)) (bodyK Pg r27 Q))))=b27_0 y1 y2 y4 y7 y8 S KE0 Q:=by kernel_rfl
theorem loop27_0{y1 y2 y4 y7:AV}{y80:AV}{S:Store}{Q:PoT}(I:AV→Store→Prop)(μ:AV→Store→Nat)(h0:I y80 S)
    (hr:∀(y8:AV) (S:Store),I y8 S→∀ KE0:KeT,(∀(y8':AV) (S':Store),I y8' S'→μ y8' S'<μ y8 S→KE0 109 (env27_0 y1 y2 y4 y7 y8') S')→b27_0 y1 y2 y4 y7 y8 S KE0 Q):
    loopV lv27_0 (vc Pg (c27.at_ [1,1,1,1,0,1,0,0]) (ms27.drop 1)) 109 (env27_0 y1 y2 y4 y7 y80) S (blockK 1 (seqK (vc Pg (c27.at_ [1,1,1,1,1]) (ms27.drop 1)) (bodyK Pg r27 Q))):=by
 refine⟨fun n e S=>n=109∧∃ y8:AV,e=(env27_0 y1 y2 y4 y7 y8)∧I y8 S,fun _ e S=>μ (e.getD 4 .j) S,?_,?_⟩
 ·exact⟨_,_,Wk.refl _ _,rfl,_,rfl,h0⟩
 ·rintro _ e S ⟨rfl,y8,rfl,hI⟩
  exact(b27_0_eq _ _ _ _ _ _ _ _).mpr (hr y8 S hI _ (fun y8' S' hI' hm=>⟨_,_,Wk.refl _ _,⟨rfl,_,rfl,hI'⟩,hm⟩))
def c10:Code:=(Tryz.f10.body).getD .skip
def ms10:List (List Nat):=[[]]
def m10(x0 x1:AV)(S:Store)(Q:PoT):Prop:=
 boxN 32 4 (.a [.v (.int .i64 0),.v (.string ByteArray.empty),.v (.int .i64 0),.nl]) S fun c S=>callF Pg 22 [x0] S Q fun d S=>callF Pg 21 [d,x1] S Q fun e S=>stN 4 c e S fun f S=>ldN 4 c S fun g _=>Q (.ret g) S
theorem calls10{x0 x1:AV}{S:Store}{Q:PoT}(h:m10 x0 x1 S Q):ACalls Pg 10 [x0,x1] S Q:=
 calls_of_vc (fn:=Tryz.f10) (c:=c10) (n:=9) Tryz.func10 (by kernel_rfl) (by kernel_rfl) (by kernel_rfl) ms10 (Eq.mpr (by kernel_rfl) h)
def c4:Code:=(Tryz.f4.body).getD .skip
def r4:List ResultVar:=Tryz.f4.results.toList
def ms4:List (List Nat):=[[10]]
def m4(x0 x1:AV)(S:Store)(Q:PoT):Prop:=
 boxN 29 8 (.a [.v (.int .i64 0),.nl,.nl,.nl,.nl,.nl,.nl,.nl]) S fun c S=>boxN 32 4 (.a [.v (.int .i64 0),.v (.string ByteArray.empty),.v (.int .i64 0),.nl]) S fun d S=>callF Pg 9 [x0] S Q fun e S=>boxN 29 8 (.a [.v (.int .i64 0),.nl,.nl,.nl,.nl,.nl,.nl,.nl]) S fun f S=>stN 8 f e S fun g S=>∃ h:AV,(∀ T:Store,Keep S T→ldN 8 f T fun i S=>i=h∧S=T)∧∃ k:AV,(∀ T:Store,Keep S T→ldN 8 f T fun l S=>l=k∧S=T)∧∃ m:AV,(∀ T:Store,Keep S T→callF Pg 12 [k] T (fun _ _=>False) fun n S=>n=m∧S=T)∧∃ o:AV,(∀ T:Store,Keep S T→callF Pg 11 [m] T (fun _ _=>False) fun p S=>p=o∧S=T)∧∃ q:AV,(∀ T:Store,Keep S T→bin .mul 0 (.v (.int .i64 2)) o T fun r S=>r=q∧S=T)∧callF Pg 10 [x1,q] S Q fun s S=>(∀ T:Store,Keep S T→ldN 8 f T fun u S=>u=h∧S=T)∧stN 8 c h S fun w S=>stN 4 d s S fun x S=>ldN 8 c S fun y _=>ldN 4 d S fun z _=>Q (.ret (.t [y,z])) S
theorem calls4{x0 x1:AV}{S:Store}{Q:PoT}(h:m4 x0 x1 S Q):ACalls Pg 4 [x0,x1] S Q:=
 calls_of_vc (fn:=Tryz.f4) (c:=c4) (n:=16) Tryz.func4 (by kernel_rfl) (by kernel_rfl) (by kernel_rfl) ms4 (Eq.mpr (by kernel_rfl) h)
def c40:Code:=(Tryz.f40.body).getD .skip
def ms40:List (List Nat):=[[]]
def m40(x0 x1:AV)(S:Store)(Q:PoT):Prop:=
 boxN 32 4 x1 S fun c S=>boxN 32 4 (.a [.v (.int .i64 0),.v (.string ByteArray.empty),.v (.int .i64 0),.nl]) S fun d S=>ldN 4 c S fun e S=>bslN 32 4 1 [.v (.int .i64 0),.v (.string ByteArray.empty),.v (.int .i64 0),.nl] [(0,e)] S fun f S=>bld [(0,1),(1,1),(2,1),(3,1)] [.v (.int .i64 0),.v (.string ByteArray.empty),.v (.int .i64 0),.nl] [(0,x0),(3,f)] S fun g S=>stN 4 d g S fun h S=>ldN 4 d S fun i _=>Q (.ret i) S
theorem calls40{x0 x1:AV}{S:Store}{Q:PoT}(h:m40 x0 x1 S Q):ACalls Pg 40 [x0,x1] S Q:=
 calls_of_vc (fn:=Tryz.f40) (c:=c40) (n:=9) Tryz.func40 (by kernel_rfl) (by kernel_rfl) (by kernel_rfl) ms40 (Eq.mpr (by kernel_rfl) h)
def c41:Code:=(Tryz.f41.body).getD .skip
def ms41:List (List Nat):=[[]]
def m41(x0 x1 x2:AV)(S:Store)(Q:PoT):Prop:=
 boxN 32 4 x1 S fun c S=>boxN 32 4 x2 S fun d S=>boxN 32 4 (.a [.v (.int .i64 0),.v (.string ByteArray.empty),.v (.int .i64 0),.nl]) S fun e S=>ldN 4 c S fun f S=>ldN 4 d S fun g S=>bslN 32 4 2 [.v (.int .i64 0),.v (.string ByteArray.empty),.v (.int .i64 0),.nl] [(0,f),(1,g)] S fun h S=>bld [(0,1),(1,1),(2,1),(3,1)] [.v (.int .i64 0),.v (.string ByteArray.empty),.v (.int .i64 0),.nl] [(0,x0),(3,h)] S fun i S=>stN 4 e i S fun k S=>ldN 4 e S fun l _=>Q (.ret l) S
theorem calls41{x0 x1 x2:AV}{S:Store}{Q:PoT}(h:m41 x0 x1 x2 S Q):ACalls Pg 41 [x0,x1,x2] S Q:=
 calls_of_vc (fn:=Tryz.f41) (c:=c41) (n:=12) Tryz.func41 (by kernel_rfl) (by kernel_rfl) (by kernel_rfl) ms41 (Eq.mpr (by kernel_rfl) h)
def c43:Code:=(Tryz.f43.body).getD .skip
def ms43:List (List Nat):=[[]]
def m43(x0:AV)(S:Store)(Q:PoT):Prop:=
 bin .eql 0 x0 (.v (.int .i64 1)) S fun a S=>onB a fun b=>gd b (Q (.ret (.v (.int .i64 2))) S) (bin .eql 0 x0 (.v (.int .i64 2)) S fun c S=>onB c fun b=>gd b (Q (.ret (.v (.int .i64 1))) S) (bin .eql 0 x0 (.v (.int .i64 5)) S fun d S=>onB d fun b=>gd b (Q (.ret (.v (.int .i64 6))) S) (bin .eql 0 x0 (.v (.int .i64 6)) S fun e S=>onB e fun b=>gd b (Q (.ret (.v (.int .i64 5))) S) (bin .eql 0 x0 (.v (.int .i64 9)) S fun f S=>onB f fun b=>gd b (Q (.ret (.v (.int .i64 10))) S) (bin .eql 0 x0 (.v (.int .i64 10)) S fun g S=>onB g fun b=>gd b (Q (.ret (.v (.int .i64 9))) S) (bin .eql 0 x0 (.v (.int .i64 11)) S fun h S=>onB h fun b=>gd b (Q (.ret (.v (.int .i64 14))) S) (bin .eql 0 x0 (.v (.int .i64 14)) S fun i S=>onB i fun b=>gd b (Q (.ret (.v (.int .i64 11))) S) (bin .eql 0 x0 (.v (.int .i64 13)) S fun k S=>onB k fun b=>gd b (Q (.ret (.v (.int .i64 12))) S) (bin .eql 0 x0 (.v (.int .i64 12)) S fun l S=>onB l fun b=>gd b (Q (.ret (.v (.int .i64 13))) S) (bin .eql 0 x0 (.v (.int .i64 15)) S fun m S=>onB m fun b=>gd b (Q (.ret (.v (.int .i64 18))) S) (bin .eql 0 x0 (.v (.int .i64 18)) S fun n S=>onB n fun b=>gd b (Q (.ret (.v (.int .i64 15))) S) (bin .eql 0 x0 (.v (.int .i64 17)) S fun o S=>onB o fun b=>gd b (Q (.ret (.v (.int .i64 16))) S) (Q (.ret (.v (.int .i64 17))) S)))))))))))))
theorem calls43{x0:AV}{S:Store}{Q:PoT}(h:m43 x0 S Q):ACalls Pg 43 [x0] S Q:=
 calls_of_vc (fn:=Tryz.f43) (c:=c43) (n:=30) Tryz.func43 (by kernel_rfl) (by kernel_rfl) (by kernel_rfl) ms43 (Eq.mpr (by kernel_rfl) h)
def c9:Code:=(Tryz.f9.body).getD .skip
def r9:List ResultVar:=Tryz.f9.results.toList
def env9_0(y2 y4 y5 y6 y7 y8:AV):List AV:=[y2,y4,y5,y6,y7,y8]
def lv9_0:List Nat:=[2,4,5,6,7,8]
def env9_1(y2 y4 y5 y6 y10 y11 y12:AV):List AV:=[y2,y4,y5,y6,y10,y11,y12]
def lv9_1:List Nat:=[2,4,5,6,10,11,12]
def env9_2(y2 y4 y5 y11 y14:AV):List AV:=[y2,y4,y5,y11,y14]
def lv9_2:List Nat:=[2,4,5,11,14]
def env9_3(y2 y4 y5 y11 y15:AV):List AV:=[y2,y4,y5,y11,y15]
def lv9_3:List Nat:=[2,4,5,11,15]
def ms9:List (List Nat):=[lv9_0,lv9_1,lv9_2,lv9_3,[0]]
def m9(x0:AV)(S:Store)(Q:PoT):Prop:=
 boxN 22 1 x0 S fun c S=>boxN 29 8 (.a [.v (.int .i64 0),.nl,.nl,.nl,.nl,.nl,.nl,.nl]) S fun d S=>boxN 3 1 (.v (.int .i64 0)) S fun e S=>stN 1 e (.v (.int .i64 0)) S fun g S=>boxN 29 8 (.a [.v (.int .i64 0),.nl,.nl,.nl,.nl,.nl,.nl,.nl]) S fun h S=>callV Pg (.f (.func 19) [] [e,c]) [.v (.int .i64 4)] S (fun i S=>shift h 0 S fun k S=>stN 1 k i S fun l S=>callV Pg (.f (.func 19) [] [e,c]) [.v (.int .i64 3)] S (fun m S=>bin .add 0 (.v (.int .i64 1)) m S fun n S=>callV Pg (.f (.func 19) [] [e,c]) [.v (.int .i64 9)] S (fun o S=>loopV lv9_0 (vc Pg (c9.at_ [1,1,1,1,1,1,1,0,1,0,0]) (ms9.drop 1)) 156 (env9_0 d (.f (.func 19) [] [e,c]) h n .nl o) S (blockK 0 (seqK (vc Pg (c9.at_ [1,1,1,1,1,1,1,1]) (ms9.drop 1)) (bodyK Pg r9 Q)))) (fun u S=>Q (.pan u) S)) (fun u S=>Q (.pan u) S)) (fun u S=>Q (.pan u) S)
theorem calls9{x0:AV}{S:Store}{Q:PoT}(h:m9 x0 S Q):ACalls Pg 9 [x0] S Q:=
 calls_of_vc (fn:=Tryz.f9) (c:=c9) (n:=156) Tryz.func9 (by kernel_rfl) (by kernel_rfl) (by kernel_rfl) ms9 (Eq.mpr (by kernel_rfl) h)
def b9_0(y2 y4 y5 y6 y7 y8:AV)(S:Store)(KE0:KeT)(Q:PoT):Prop:=
 bin .gtr 0 y8 (.v (.int .i64 0)) S fun c S=>onB c fun b=>gd b (callV Pg y4 [.v (.int .i64 65536)] S (fun d S=>convI .u16 d S fun e S=>bslN 60 1 1 [.v (.int .u16 0)] [(0,e)] S fun f S=>appS 60 1 2 y7 f S fun g S=>bin .sub 0 y8 (.v (.int .i64 1)) S fun h S=>KE0 156 (env9_0 y2 y4 y5 y6 g h) S) (fun u S=>Q (.pan u) S)) (shift y5 0 S fun i S=>ld1 i S fun k S=>bin .add 0 k y6 S fun l S=>callF Pg 20 [l,y7] S Q fun m S=>extr m 0 S fun n S=>extr m 1 S fun o S=>boxN 48 2 (.a [.v (.int .i64 0),.nl]) S fun p S=>stN 2 p n S fun q S=>shift p 1 S fun r S=>ld1 r S fun s S=>shift y5 2 S fun t S=>stN 1 t s S fun w S=>ldN 2 p S fun x S=>callF Pg 11 [x] S Q fun y S=>bin .mul 0 (.v (.int .i64 2)) y S fun z S=>loopV lv9_1 (vc Pg (c9.at_ [1,1,1,1,1,1,1,1,1,1,1,0,1,0,0]) (ms9.drop 2)) 156 (env9_1 y2 y4 y5 y6 o z (.v (.int .i64 0))) S (blockK 2 (seqK (vc Pg (c9.at_ [1,1,1,1,1,1,1,1,1,1,1,1]) (ms9.drop 2)) (bodyK Pg r9 Q))))
theorem b9_0_eq(y2 y4 y5 y6 y7 y8:AV)(S:Store)(KE0:KeT)(Q:PoT):vc Pg (c9.at_ [1,1,1,1,1,1,1,0,1,0,0]) (ms9.drop 1) (mkE 156 lv9_0 (env9_0 y2 y4 y5 y6 y7 y8)) S (thenK (fgK lv9_0 KE0) (blockK 0 (seqK (vc Pg (c9.at_ [1,1,1,1,1,1,1,1]) (ms9.drop 1)) (bodyK Pg r9 Q))))=b9_0 y2 y4 y5 y6 y7 y8 S KE0 Q:=by kernel_rfl
theorem loop9_0{y2 y4 y5 y6:AV}{y70 y80:AV}{S:Store}{Q:PoT}(I:AV→AV→Store→Prop)(μ:AV→AV→Store→Nat)(h0:I y70 y80 S)
    (hr:∀(y7 y8:AV) (S:Store),I y7 y8 S→∀ KE0:KeT,(∀(y7' y8':AV) (S':Store),I y7' y8' S'→μ y7' y8' S'<μ y7 y8 S→KE0 156 (env9_0 y2 y4 y5 y6 y7' y8') S')→b9_0 y2 y4 y5 y6 y7 y8 S KE0 Q):
    loopV lv9_0 (vc Pg (c9.at_ [1,1,1,1,1,1,1,0,1,0,0]) (ms9.drop 1)) 156 (env9_0 y2 y4 y5 y6 y70 y80) S (blockK 0 (seqK (vc Pg (c9.at_ [1,1,1,1,1,1,1,1]) (ms9.drop 1)) (bodyK Pg r9 Q))):=by
 refine⟨fun n e S=>n=156∧∃ y7 y8:AV,e=(env9_0 y2 y4 y5 y6 y7 y8)∧I y7 y8 S,fun _ e S=>μ (e.getD 4 .j) (e.getD 5 .j) S,?_,?_⟩
 ·exact⟨_,_,Wk.refl _ _,rfl,_,_,rfl,h0⟩
 ·rintro _ e S ⟨rfl,y7,y8,rfl,hI⟩
  exact(b9_0_eq _ _ _ _ _ _ _ _ _).mpr (hr y7 y8 S hI _ (fun y7' y8' S' hI' hm=>⟨_,_,Wk.refl _ _,⟨rfl,_,_,rfl,hI'⟩,hm⟩))
def b9_1(y2 y4 y5 y6 y10 y11 y12:AV)(S:Store)(KE1:KeT)(Q:PoT):Prop:=
 bin .lss 0 y12 y6 S fun a S=>onB a fun b=>gd b (callV Pg y4 [y11] S (fun c S=>bin .eql 0 y12 (.v (.int .i64 0)) S fun d S=>onB d fun b=>gd b (∃ e:AV,(∀ T:Store,Keep S T→shift y5 1 T fun f S=>f=e∧S=T)∧∃ g:AV,(∀ T:Store,Keep S T→ld1 e T fun h S=>h=g∧S=T)∧callV Pg y4 [.v (.int .i64 5)] S (fun i S=>(∀ T:Store,Keep S T→ld1 e T fun k S=>k=g∧S=T)∧(∀ T:Store,Keep S T→shift y5 1 T fun l S=>l=e∧S=T)∧∃ m:AV,(∀ T:Store,Keep S T→bin .quo 0 i (.v (.int .i64 2)) T fun n S=>n=m∧S=T)∧∃ o:AV,(∀ T:Store,Keep S T→bld [(0,1),(1,1)] [.v (.int .i64 0),.v (.int .i64 0)] [(0,y10),(1,m)] T fun p S=>p=o∧S=T)∧∃ q:AV,(∀ T:Store,Keep S T→bslN 59 2 1 [.v (.int .i64 0),.v (.int .i64 0)] [(0,o)] T fun r S=>r=q∧S=T)∧appS 59 2 16 g q S fun s S=>∃ t:AV,(∀ T:Store,Keep S T→shift y5 1 T fun w S=>w=t∧S=T)∧stN 1 t s S fun x S=>bin .add 0 y12 (.v (.int .i64 1)) S fun y S=>KE1 156 (env9_1 y2 y4 y5 y6 y10 y11 y) S) (fun u S=>Q (.pan u) S)) (∃ z:AV,(∀ T:Store,Keep S T→shift y5 1 T fun A S=>A=z∧S=T)∧∃ B:AV,(∀ T:Store,Keep S T→ld1 z T fun C S=>C=B∧S=T)∧callV Pg y4 [.v (.int .i64 5)] S (fun D S=>(∀ T:Store,Keep S T→ld1 z T fun E S=>E=B∧S=T)∧(∀ T:Store,Keep S T→shift y5 1 T fun F S=>F=z∧S=T)∧∃ G:AV,(∀ T:Store,Keep S T→bin .quo 0 D (.v (.int .i64 2)) T fun H S=>H=G∧S=T)∧∃ I:AV,(∀ T:Store,Keep S T→bld [(0,1),(1,1)] [.v (.int .i64 0),.v (.int .i64 0)] [(0,c),(1,G)] T fun J S=>J=I∧S=T)∧∃ K:AV,(∀ T:Store,Keep S T→bslN 59 2 1 [.v (.int .i64 0),.v (.int .i64 0)] [(0,I)] T fun L S=>L=K∧S=T)∧appS 59 2 16 B K S fun M S=>∃ N:AV,(∀ T:Store,Keep S T→shift y5 1 T fun O S=>O=N∧S=T)∧stN 1 N M S fun P S=>bin .add 0 y12 (.v (.int .i64 1)) S fun R S=>KE1 156 (env9_1 y2 y4 y5 y6 y10 y11 R) S) (fun u S=>Q (.pan u) S))) (fun u S=>Q (.pan u) S)) (callV Pg y4 [.v (.int .i64 3)] S (fun U S=>loopV lv9_2 (vc Pg (c9.at_ [1,1,1,1,1,1,1,1,1,1,1,1,0,1,0,0]) (ms9.drop 3)) 156 (env9_2 y2 y4 y5 y11 U) S (blockK 4 (seqK (vc Pg (c9.at_ [1,1,1,1,1,1,1,1,1,1,1,1,1]) (ms9.drop 3)) (bodyK Pg r9 Q)))) (fun u S=>Q (.pan u) S))
theorem b9_1_eq(y2 y4 y5 y6 y10 y11 y12:AV)(S:Store)(KE1:KeT)(Q:PoT):vc Pg (c9.at_ [1,1,1,1,1,1,1,1,1,1,1,0,1,0,0]) (ms9.drop 2) (mkE 156 lv9_1 (env9_1 y2 y4 y5 y6 y10 y11 y12)) S (thenK (fgK lv9_1 KE1) (blockK 2 (seqK (vc Pg (c9.at_ [1,1,1,1,1,1,1,1,1,1,1,1]) (ms9.drop 2)) (bodyK Pg r9 Q))))=b9_1 y2 y4 y5 y6 y10 y11 y12 S KE1 Q:=by kernel_rfl
theorem loop9_1{y2 y4 y5 y6 y10 y11:AV}{y120:AV}{S:Store}{Q:PoT}(I:AV→Store→Prop)(μ:AV→Store→Nat)(h0:I y120 S)
    (hr:∀(y12:AV) (S:Store),I y12 S→∀ KE1:KeT,(∀(y12':AV) (S':Store),I y12' S'→μ y12' S'<μ y12 S→KE1 156 (env9_1 y2 y4 y5 y6 y10 y11 y12') S')→b9_1 y2 y4 y5 y6 y10 y11 y12 S KE1 Q):
    loopV lv9_1 (vc Pg (c9.at_ [1,1,1,1,1,1,1,1,1,1,1,0,1,0,0]) (ms9.drop 2)) 156 (env9_1 y2 y4 y5 y6 y10 y11 y120) S (blockK 2 (seqK (vc Pg (c9.at_ [1,1,1,1,1,1,1,1,1,1,1,1]) (ms9.drop 2)) (bodyK Pg r9 Q))):=by
 refine⟨fun n e S=>n=156∧∃ y12:AV,e=(env9_1 y2 y4 y5 y6 y10 y11 y12)∧I y12 S,fun _ e S=>μ (e.getD 6 .j) S,?_,?_⟩
 ·exact⟨_,_,Wk.refl _ _,rfl,_,rfl,h0⟩
 ·rintro _ e S ⟨rfl,y12,rfl,hI⟩
  exact(b9_1_eq _ _ _ _ _ _ _ _ _ _).mpr (hr y12 S hI _ (fun y12' S' hI' hm=>⟨_,_,Wk.refl _ _,⟨rfl,_,rfl,hI'⟩,hm⟩))
def b9_2(y2 y4 y5 y11 y14:AV)(S:Store)(KE2:KeT)(Q:PoT):Prop:=
 bin .gtr 0 y14 (.v (.int .i64 0)) S fun a S=>onB a fun b=>gd b (∃ c:AV,(∀ T:Store,Keep S T→shift y5 3 T fun d S=>d=c∧S=T)∧∃ e:AV,(∀ T:Store,Keep S T→ld1 c T fun f S=>f=e∧S=T)∧callV Pg y4 [y11] S (fun g S=>(∀ T:Store,Keep S T→ld1 c T fun h S=>h=e∧S=T)∧(∀ T:Store,Keep S T→shift y5 3 T fun i S=>i=c∧S=T)∧∃ k:AV,(∀ T:Store,Keep S T→bslN 3 1 1 [.v (.int .i64 0)] [(0,g)] T fun l S=>l=k∧S=T)∧appS 3 1 8 e k S fun m S=>∃ n:AV,(∀ T:Store,Keep S T→shift y5 3 T fun o S=>o=n∧S=T)∧stN 1 n m S fun p S=>bin .sub 0 y14 (.v (.int .i64 1)) S fun q S=>KE2 156 (env9_2 y2 y4 y5 y11 q) S) (fun u S=>Q (.pan u) S)) (callV Pg y4 [.v (.int .i64 4)] S (fun r S=>bin .eql 0 r (.v (.int .i64 0)) S fun s S=>onB s fun b=>gd b (∃ t:AV,(∀ T:Store,Keep S T→shift y5 4 T fun w S=>w=t∧S=T)∧∃ x:AV,(∀ T:Store,Keep S T→ld1 t T fun y S=>y=x∧S=T)∧callV Pg y4 [y11] S (fun z S=>(∀ T:Store,Keep S T→ld1 t T fun A S=>A=x∧S=T)∧(∀ T:Store,Keep S T→shift y5 4 T fun B S=>B=t∧S=T)∧∃ C:AV,(∀ T:Store,Keep S T→bslN 3 1 1 [.v (.int .i64 0)] [(0,z)] T fun D S=>D=C∧S=T)∧appS 3 1 8 x C S fun E S=>∃ F:AV,(∀ T:Store,Keep S T→shift y5 4 T fun G S=>G=F∧S=T)∧stN 1 F E S fun H S=>callV Pg y4 [.v (.int .i64 3)] S (fun I S=>bin .eql 0 I (.v (.int .i64 0)) S fun J S=>onB J fun b=>gd b (∃ K:AV,(∀ T:Store,Keep S T→shift y5 5 T fun L S=>L=K∧S=T)∧∃ M:AV,(∀ T:Store,Keep S T→ld1 K T fun N S=>N=M∧S=T)∧callV Pg y4 [y11] S (fun O S=>(∀ T:Store,Keep S T→ld1 K T fun P S=>P=M∧S=T)∧(∀ T:Store,Keep S T→shift y5 5 T fun R S=>R=K∧S=T)∧∃ U:AV,(∀ T:Store,Keep S T→bslN 3 1 1 [.v (.int .i64 0)] [(0,O)] T fun V S=>V=U∧S=T)∧appS 3 1 8 M U S fun W S=>∃ X:AV,(∀ T:Store,Keep S T→shift y5 5 T fun Y S=>Y=X∧S=T)∧stN 1 X W S fun Z S=>callV Pg y4 [.v (.int .i64 4)] S (fun a0 S=>bin .quo 0 a0 (.v (.int .i64 2)) S fun a1 S=>loopV lv9_3 (vc Pg (c9.at_ [1,1,1,1,1,1,1,1,1,1,1,1,1,1,1,0,1,0,0]) (ms9.drop 4)) 156 (env9_3 y2 y4 y5 y11 a1) S (blockK 6 (seqK (vc Pg (c9.at_ [1,1,1,1,1,1,1,1,1,1,1,1,1,1,1,1]) (ms9.drop 4)) (bodyK Pg r9 Q)))) (fun u S=>Q (.pan u) S)) (fun u S=>Q (.pan u) S)) (callV Pg y4 [.v (.int .i64 4)] S (fun a2 S=>bin .quo 0 a2 (.v (.int .i64 2)) S fun a3 S=>loopV lv9_3 (vc Pg (c9.at_ [1,1,1,1,1,1,1,1,1,1,1,1,1,1,1,0,1,0,0]) (ms9.drop 4)) 156 (env9_3 y2 y4 y5 y11 a3) S (blockK 6 (seqK (vc Pg (c9.at_ [1,1,1,1,1,1,1,1,1,1,1,1,1,1,1,1]) (ms9.drop 4)) (bodyK Pg r9 Q)))) (fun u S=>Q (.pan u) S))) (fun u S=>Q (.pan u) S)) (fun u S=>Q (.pan u) S)) (callV Pg y4 [.v (.int .i64 3)] S (fun a4 S=>bin .eql 0 a4 (.v (.int .i64 0)) S fun a5 S=>onB a5 fun b=>gd b (∃ a6:AV,(∀ T:Store,Keep S T→shift y5 5 T fun a7 S=>a7=a6∧S=T)∧∃ a8:AV,(∀ T:Store,Keep S T→ld1 a6 T fun a9 S=>a9=a8∧S=T)∧callV Pg y4 [y11] S (fun b0 S=>(∀ T:Store,Keep S T→ld1 a6 T fun b1 S=>b1=a8∧S=T)∧(∀ T:Store,Keep S T→shift y5 5 T fun b2 S=>b2=a6∧S=T)∧∃ b3:AV,(∀ T:Store,Keep S T→bslN 3 1 1 [.v (.int .i64 0)] [(0,b0)] T fun b4 S=>b4=b3∧S=T)∧appS 3 1 8 a8 b3 S fun b5 S=>∃ b6:AV,(∀ T:Store,Keep S T→shift y5 5 T fun b7 S=>b7=b6∧S=T)∧stN 1 b6 b5 S fun b8 S=>callV Pg y4 [.v (.int .i64 4)] S (fun b9 S=>bin .quo 0 b9 (.v (.int .i64 2)) S fun c0 S=>loopV lv9_3 (vc Pg (c9.at_ [1,1,1,1,1,1,1,1,1,1,1,1,1,1,1,0,1,0,0]) (ms9.drop 4)) 156 (env9_3 y2 y4 y5 y11 c0) S (blockK 6 (seqK (vc Pg (c9.at_ [1,1,1,1,1,1,1,1,1,1,1,1,1,1,1,1]) (ms9.drop 4)) (bodyK Pg r9 Q)))) (fun u S=>Q (.pan u) S)) (fun u S=>Q (.pan u) S)) (callV Pg y4 [.v (.int .i64 4)] S (fun c1 S=>bin .quo 0 c1 (.v (.int .i64 2)) S fun c2 S=>loopV lv9_3 (vc Pg (c9.at_ [1,1,1,1,1,1,1,1,1,1,1,1,1,1,1,0,1,0,0]) (ms9.drop 4)) 156 (env9_3 y2 y4 y5 y11 c2) S (blockK 6 (seqK (vc Pg (c9.at_ [1,1,1,1,1,1,1,1,1,1,1,1,1,1,1,1]) (ms9.drop 4)) (bodyK Pg r9 Q)))) (fun u S=>Q (.pan u) S))) (fun u S=>Q (.pan u) S))) (fun u S=>Q (.pan u) S))
theorem b9_2_eq(y2 y4 y5 y11 y14:AV)(S:Store)(KE2:KeT)(Q:PoT):vc Pg (c9.at_ [1,1,1,1,1,1,1,1,1,1,1,1,0,1,0,0]) (ms9.drop 3) (mkE 156 lv9_2 (env9_2 y2 y4 y5 y11 y14)) S (thenK (fgK lv9_2 KE2) (blockK 4 (seqK (vc Pg (c9.at_ [1,1,1,1,1,1,1,1,1,1,1,1,1]) (ms9.drop 3)) (bodyK Pg r9 Q))))=b9_2 y2 y4 y5 y11 y14 S KE2 Q:=by kernel_rfl
theorem loopw9_2{y2 y4 y5 y11 y14:AV}{S:Store}{Q:PoT}(I:AV→AV→AV→AV→AV→Store→Prop)(μ:AV→AV→AV→AV→AV→Store→Nat)(h0:∃(y2' y4' y5' y11' y14':AV) (S':Store),Wk S (env9_2 y2 y4 y5 y11 y14) S' (env9_2 y2' y4' y5' y11' y14')∧I y2' y4' y5' y11' y14' S')
    (hr:∀(y2 y4 y5 y11 y14:AV) (S:Store),I y2 y4 y5 y11 y14 S→∀ KE2:KeT,(∀(y2' y4' y5' y11' y14':AV) (S':Store) (y2'' y4'' y5'' y11'' y14'':AV) (S'':Store),Wk S' (env9_2 y2' y4' y5' y11' y14') S'' (env9_2 y2'' y4'' y5'' y11'' y14'')→I y2'' y4'' y5'' y11'' y14'' S''→μ y2'' y4'' y5'' y11'' y14'' S''<μ y2 y4 y5 y11 y14 S→KE2 156 (env9_2 y2' y4' y5' y11' y14') S')→b9_2 y2 y4 y5 y11 y14 S KE2 Q):
    loopV lv9_2 (vc Pg (c9.at_ [1,1,1,1,1,1,1,1,1,1,1,1,0,1,0,0]) (ms9.drop 3)) 156 (env9_2 y2 y4 y5 y11 y14) S (blockK 4 (seqK (vc Pg (c9.at_ [1,1,1,1,1,1,1,1,1,1,1,1,1]) (ms9.drop 3)) (bodyK Pg r9 Q))):=by
 obtain⟨y2',y4',y5',y11',y14',S0,hw0,h0⟩:=h0
 refine⟨fun n e S=>n=156∧∃ y2 y4 y5 y11 y14:AV,e=(env9_2 y2 y4 y5 y11 y14)∧I y2 y4 y5 y11 y14 S,fun _ e S=>μ (e.getD 0 .j) (e.getD 1 .j) (e.getD 2 .j) (e.getD 3 .j) (e.getD 4 .j) S,?_,?_⟩
 ·exact⟨_,_,hw0,rfl,_,_,_,_,_,rfl,h0⟩
 ·rintro _ e S ⟨rfl,y2,y4,y5,y11,y14,rfl,hI⟩
  exact(b9_2_eq _ _ _ _ _ _ _ _).mpr (hr y2 y4 y5 y11 y14 S hI _ (fun y2' y4' y5' y11' y14' S' y2'' y4'' y5'' y11'' y14'' S'' hw hI' hm=>⟨_,_,hw,⟨rfl,_,_,_,_,_,rfl,hI'⟩,hm⟩))
def b9_3(y2 y4 y5 y11 y15:AV)(S:Store)(KE3:KeT)(Q:PoT):Prop:=
 bin .gtr 0 y15 (.v (.int .i64 0)) S fun a S=>onB a fun b=>gd b (∃ c:AV,(∀ T:Store,Keep S T→shift y5 6 T fun d S=>d=c∧S=T)∧∃ e:AV,(∀ T:Store,Keep S T→ld1 c T fun f S=>f=e∧S=T)∧callV Pg y4 [y11] S (fun g S=>(∀ T:Store,Keep S T→ld1 c T fun h S=>h=e∧S=T)∧(∀ T:Store,Keep S T→shift y5 6 T fun i S=>i=c∧S=T)∧∃ k:AV,(∀ T:Store,Keep S T→bslN 3 1 1 [.v (.int .i64 0)] [(0,g)] T fun l S=>l=k∧S=T)∧appS 3 1 8 e k S fun m S=>∃ n:AV,(∀ T:Store,Keep S T→shift y5 6 T fun o S=>o=n∧S=T)∧stN 1 n m S fun p S=>bin .sub 0 y15 (.v (.int .i64 1)) S fun q S=>KE3 156 (env9_3 y2 y4 y5 y11 q) S) (fun u S=>Q (.pan u) S)) (callV Pg y4 [.v (.int .i64 3)] S (fun r S=>bin .gtr 0 r (.v (.int .i64 0)) S fun s S=>onB s fun b=>gd b (shift y5 7 S fun t S=>ld1 t S fun w S=>bld [(0,1),(1,1),(2,1)] [.v (.int .u8 0),.v (.int .i64 0),.v (.string ByteArray.empty)] [(0,(.v (.int .u8 108))),(2,(.v (.string { data:=#[113] })))] S fun x S=>bslN 64 3 1 [.v (.int .u8 0),.v (.int .i64 0),.v (.string ByteArray.empty)] [(0,x)] S fun y S=>appS 64 3 32 w y S fun z S=>shift y5 7 S fun A S=>stN 1 A z S fun B S=>shift y5 3 S fun C S=>ld1 C S fun D S=>lenS D S fun E S=>bin .gtr 0 E (.v (.int .i64 0)) S fun F S=>onB F fun b=>gd b (callV Pg y4 [.v (.int .i64 2)] S (fun G S=>bin .gtr 0 G (.v (.int .i64 0)) S fun H S=>onB H fun b=>gd b (∃ I:AV,(∀ T:Store,Keep S T→shift y5 7 T fun J S=>J=I∧S=T)∧∃ K:AV,(∀ T:Store,Keep S T→ld1 I T fun L S=>L=K∧S=T)∧∃ M:AV,(∀ T:Store,Keep S T→shift y5 3 T fun N S=>N=M∧S=T)∧∃ O:AV,(∀ T:Store,Keep S T→ld1 M T fun P S=>P=O∧S=T)∧∃ R:AV,(∀ T:Store,Keep S T→lenS O T fun U S=>U=R∧S=T)∧∃ V:AV,(∀ T:Store,Keep S T→bin .sub 0 R (.v (.int .i64 1)) T fun W S=>W=V∧S=T)∧∃ X:AV,(∀ T:Store,Keep S T→bslN 9 1 3 [.v (.string ByteArray.empty)] [(0,(.v (.string { data:=#[111,117,116] }))),(1,(.v (.string { data:=#[108,49] }))),(2,(.v (.string { data:=#[97,45,98] })))] T fun Y S=>Y=X∧S=T)∧callV Pg y4 [.v (.int .i64 3)] S (fun Z S=>(∀ T:Store,Keep S T→bslN 9 1 3 [.v (.string ByteArray.empty)] [(0,(.v (.string { data:=#[111,117,116] }))),(1,(.v (.string { data:=#[108,49] }))),(2,(.v (.string { data:=#[97,45,98] })))] T fun a0 S=>a0=X∧S=T)∧(∀ T:Store,Keep S T→bin .sub 0 R (.v (.int .i64 1)) T fun a1 S=>a1=V∧S=T)∧(∀ T:Store,Keep S T→lenS O T fun a2 S=>a2=R∧S=T)∧(∀ T:Store,Keep S T→ld1 M T fun a3 S=>a3=O∧S=T)∧(∀ T:Store,Keep S T→shift y5 3 T fun a4 S=>a4=M∧S=T)∧(∀ T:Store,Keep S T→ld1 I T fun a5 S=>a5=K∧S=T)∧(∀ T:Store,Keep S T→shift y5 7 T fun a6 S=>a6=I∧S=T)∧∃ a7:AV,(∀ T:Store,Keep S T→ixS 9 1 X Z T fun a8 S=>a8=a7∧S=T)∧∃ a9:AV,(∀ T:Store,Keep S T→ld1 a7 T fun b0 S=>b0=a9∧S=T)∧∃ b1:AV,(∀ T:Store,Keep S T→bld [(0,1),(1,1),(2,1)] [.v (.int .u8 0),.v (.int .i64 0),.v (.string ByteArray.empty)] [(0,(.v (.int .u8 111))),(1,V),(2,a9)] T fun b2 S=>b2=b1∧S=T)∧∃ b3:AV,(∀ T:Store,Keep S T→bslN 64 3 1 [.v (.int .u8 0),.v (.int .i64 0),.v (.string ByteArray.empty)] [(0,b1)] T fun b4 S=>b4=b3∧S=T)∧appS 64 3 32 K b3 S fun b5 S=>∃ b6:AV,(∀ T:Store,Keep S T→shift y5 7 T fun b7 S=>b7=b6∧S=T)∧stN 1 b6 b5 S fun b8 S=>ldN 8 y5 S fun b9 S=>stN 8 y2 b9 S fun c0 S=>ldN 8 y2 S fun c1 _=>Q (.ret c1) S) (fun u S=>Q (.pan u) S)) (ldN 8 y5 S fun c2 S=>stN 8 y2 c2 S fun c3 S=>ldN 8 y2 S fun c4 _=>Q (.ret c4) S)) (fun u S=>Q (.pan u) S)) (ldN 8 y5 S fun c5 S=>stN 8 y2 c5 S fun c6 S=>ldN 8 y2 S fun c7 _=>Q (.ret c7) S)) (shift y5 3 S fun c8 S=>ld1 c8 S fun c9 S=>lenS c9 S fun d0 S=>bin .gtr 0 d0 (.v (.int .i64 0)) S fun d1 S=>onB d1 fun b=>gd b (callV Pg y4 [.v (.int .i64 2)] S (fun d2 S=>bin .gtr 0 d2 (.v (.int .i64 0)) S fun d3 S=>onB d3 fun b=>gd b (∃ d4:AV,(∀ T:Store,Keep S T→shift y5 7 T fun d5 S=>d5=d4∧S=T)∧∃ d6:AV,(∀ T:Store,Keep S T→ld1 d4 T fun d7 S=>d7=d6∧S=T)∧∃ d8:AV,(∀ T:Store,Keep S T→shift y5 3 T fun d9 S=>d9=d8∧S=T)∧∃ e0:AV,(∀ T:Store,Keep S T→ld1 d8 T fun e1 S=>e1=e0∧S=T)∧∃ e2:AV,(∀ T:Store,Keep S T→lenS e0 T fun e3 S=>e3=e2∧S=T)∧∃ e4:AV,(∀ T:Store,Keep S T→bin .sub 0 e2 (.v (.int .i64 1)) T fun e5 S=>e5=e4∧S=T)∧∃ e6:AV,(∀ T:Store,Keep S T→bslN 9 1 3 [.v (.string ByteArray.empty)] [(0,(.v (.string { data:=#[111,117,116] }))),(1,(.v (.string { data:=#[108,49] }))),(2,(.v (.string { data:=#[97,45,98] })))] T fun e7 S=>e7=e6∧S=T)∧callV Pg y4 [.v (.int .i64 3)] S (fun e8 S=>(∀ T:Store,Keep S T→bslN 9 1 3 [.v (.string ByteArray.empty)] [(0,(.v (.string { data:=#[111,117,116] }))),(1,(.v (.string { data:=#[108,49] }))),(2,(.v (.string { data:=#[97,45,98] })))] T fun e9 S=>e9=e6∧S=T)∧(∀ T:Store,Keep S T→bin .sub 0 e2 (.v (.int .i64 1)) T fun f0 S=>f0=e4∧S=T)∧(∀ T:Store,Keep S T→lenS e0 T fun f1 S=>f1=e2∧S=T)∧(∀ T:Store,Keep S T→ld1 d8 T fun f2 S=>f2=e0∧S=T)∧(∀ T:Store,Keep S T→shift y5 3 T fun f3 S=>f3=d8∧S=T)∧(∀ T:Store,Keep S T→ld1 d4 T fun f4 S=>f4=d6∧S=T)∧(∀ T:Store,Keep S T→shift y5 7 T fun f5 S=>f5=d4∧S=T)∧∃ f6:AV,(∀ T:Store,Keep S T→ixS 9 1 e6 e8 T fun f7 S=>f7=f6∧S=T)∧∃ f8:AV,(∀ T:Store,Keep S T→ld1 f6 T fun f9 S=>f9=f8∧S=T)∧∃ g0:AV,(∀ T:Store,Keep S T→bld [(0,1),(1,1),(2,1)] [.v (.int .u8 0),.v (.int .i64 0),.v (.string ByteArray.empty)] [(0,(.v (.int .u8 111))),(1,e4),(2,f8)] T fun g1 S=>g1=g0∧S=T)∧∃ g2:AV,(∀ T:Store,Keep S T→bslN 64 3 1 [.v (.int .u8 0),.v (.int .i64 0),.v (.string ByteArray.empty)] [(0,g0)] T fun g3 S=>g3=g2∧S=T)∧appS 64 3 32 d6 g2 S fun g4 S=>∃ g5:AV,(∀ T:Store,Keep S T→shift y5 7 T fun g6 S=>g6=g5∧S=T)∧stN 1 g5 g4 S fun g7 S=>ldN 8 y5 S fun g8 S=>stN 8 y2 g8 S fun g9 S=>ldN 8 y2 S fun h0 _=>Q (.ret h0) S) (fun u S=>Q (.pan u) S)) (ldN 8 y5 S fun h1 S=>stN 8 y2 h1 S fun h2 S=>ldN 8 y2 S fun h3 _=>Q (.ret h3) S)) (fun u S=>Q (.pan u) S)) (ldN 8 y5 S fun h4 S=>stN 8 y2 h4 S fun h5 S=>ldN 8 y2 S fun h6 _=>Q (.ret h6) S))) (fun u S=>Q (.pan u) S))
theorem b9_3_eq(y2 y4 y5 y11 y15:AV)(S:Store)(KE3:KeT)(Q:PoT):vc Pg (c9.at_ [1,1,1,1,1,1,1,1,1,1,1,1,1,1,1,0,1,0,0]) (ms9.drop 4) (mkE 156 lv9_3 (env9_3 y2 y4 y5 y11 y15)) S (thenK (fgK lv9_3 KE3) (blockK 6 (seqK (vc Pg (c9.at_ [1,1,1,1,1,1,1,1,1,1,1,1,1,1,1,1]) (ms9.drop 4)) (bodyK Pg r9 Q))))=b9_3 y2 y4 y5 y11 y15 S KE3 Q:=by kernel_rfl
theorem loopw9_3{y2 y4 y5 y11 y15:AV}{S:Store}{Q:PoT}(I:AV→AV→AV→AV→AV→Store→Prop)(μ:AV→AV→AV→AV→AV→Store→Nat)(h0:∃(y2' y4' y5' y11' y15':AV) (S':Store),Wk S (env9_3 y2 y4 y5 y11 y15) S' (env9_3 y2' y4' y5' y11' y15')∧I y2' y4' y5' y11' y15' S')
    (hr:∀(y2 y4 y5 y11 y15:AV) (S:Store),I y2 y4 y5 y11 y15 S→∀ KE3:KeT,(∀(y2' y4' y5' y11' y15':AV) (S':Store) (y2'' y4'' y5'' y11'' y15'':AV) (S'':Store),Wk S' (env9_3 y2' y4' y5' y11' y15') S'' (env9_3 y2'' y4'' y5'' y11'' y15'')→I y2'' y4'' y5'' y11'' y15'' S''→μ y2'' y4'' y5'' y11'' y15'' S''<μ y2 y4 y5 y11 y15 S→KE3 156 (env9_3 y2' y4' y5' y11' y15') S')→b9_3 y2 y4 y5 y11 y15 S KE3 Q):
    loopV lv9_3 (vc Pg (c9.at_ [1,1,1,1,1,1,1,1,1,1,1,1,1,1,1,0,1,0,0]) (ms9.drop 4)) 156 (env9_3 y2 y4 y5 y11 y15) S (blockK 6 (seqK (vc Pg (c9.at_ [1,1,1,1,1,1,1,1,1,1,1,1,1,1,1,1]) (ms9.drop 4)) (bodyK Pg r9 Q))):=by
 obtain⟨y2',y4',y5',y11',y15',S0,hw0,h0⟩:=h0
 refine⟨fun n e S=>n=156∧∃ y2 y4 y5 y11 y15:AV,e=(env9_3 y2 y4 y5 y11 y15)∧I y2 y4 y5 y11 y15 S,fun _ e S=>μ (e.getD 0 .j) (e.getD 1 .j) (e.getD 2 .j) (e.getD 3 .j) (e.getD 4 .j) S,?_,?_⟩
 ·exact⟨_,_,hw0,rfl,_,_,_,_,_,rfl,h0⟩
 ·rintro _ e S ⟨rfl,y2,y4,y5,y11,y15,rfl,hI⟩
  exact(b9_3_eq _ _ _ _ _ _ _ _).mpr (hr y2 y4 y5 y11 y15 S hI _ (fun y2' y4' y5' y11' y15' S' y2'' y4'' y5'' y11'' y15'' S'' hw hI' hm=>⟨_,_,hw,⟨rfl,_,_,_,_,_,rfl,hI'⟩,hm⟩))
def c19:Code:=(Tryz.f19.body).getD .skip
def ms19:List (List Nat):=[[]]
def m19(x0 x1 x2:AV)(S:Store)(Q:PoT):Prop:=
 ld1 x1 S fun a S=>bin .add 0 a (.v (.int .i64 1)) S fun c S=>stN 1 x1 c S fun d S=>ld1 x1 S fun e S=>ld1 x2 S fun f S=>lenS f S fun g S=>bin .gtr 0 e g S fun h S=>onB h fun b=>gd b (Q (.ret (.v (.int .i64 0))) S) (ld1 x2 S fun i S=>ld1 x1 S fun k S=>bin .sub 0 k (.v (.int .i64 1)) S fun l S=>ixS 60 1 i l S fun m S=>ld1 m S fun n S=>convI .i64 n S fun o S=>bin .rem 0 o x0 S fun p S=>Q (.ret p) S)
theorem calls19{x0 x1 x2:AV}{S:Store}{Q:PoT}(h:m19 x0 x1 x2 S Q):ACalls Pg 19 [x0,x1,x2] S Q:=
 calls_of_vc (fn:=Tryz.f19) (c:=c19) (n:=19) Tryz.func19 (by kernel_rfl) (by kernel_rfl) (by kernel_rfl) ms19 (Eq.mpr (by kernel_rfl) h)
def c102:Code:=(Tryz.f102.body).getD .skip
def r102:List ResultVar:=Tryz.f102.results.toList
def env102_0(y0 y1 y5 y6:AV):List AV:=[y0,y1,y5,y6]
def lv102_0:List Nat:=[0,1,5,6]
def ms102:List (List Nat):=[lv102_0,[]]
def m102(x0 x1:AV)(S:Store)(Q:PoT):Prop:=
 loopV lv102_0 (vc Pg (c102.at_ [1,1,0,1,0,0]) (ms102.drop 1)) 21 (env102_0 x0 x1 .nl (.v (.int .i64 0))) S (blockK 0 (seqK (vc Pg (c102.at_ [1,1,1]) (ms102.drop 1)) (bodyK Pg r102 Q)))
theorem calls102{x0 x1:AV}{S:Store}{Q:PoT}(h:m102 x0 x1 S Q):ACalls Pg 102 [x0,x1] S Q:=
 calls_of_vc (fn:=Tryz.f102) (c:=c102) (n:=21) Tryz.func102 (by kernel_rfl) (by kernel_rfl) (by kernel_rfl) ms102 (Eq.mpr (by kernel_rfl) h)
def b102_0(y0 y1 y5 y6:AV)(S:Store)(KE0:KeT)(Q:PoT):Prop:=
 bin .lss 0 y6 y1 S fun a S=>onB a fun b=>gd b (bin .shr 0 y0 y6 S fun c S=>bin .and 0 c (.v (.int .i64 1)) S fun d S=>bin .eql 0 d (.v (.int .i64 1)) S fun e S=>bslN 4 1 1 [.v (.bool false)] [(0,e)] S fun f S=>appS 4 1 1 y5 f S fun g S=>bin .add 0 y6 (.v (.int .i64 1)) S fun h S=>KE0 21 (env102_0 y0 y1 g h) S) (Q (.ret y5) S)
theorem b102_0_eq(y0 y1 y5 y6:AV)(S:Store)(KE0:KeT)(Q:PoT):vc Pg (c102.at_ [1,1,0,1,0,0]) (ms102.drop 1) (mkE 21 lv102_0 (env102_0 y0 y1 y5 y6)) S (thenK (fgK lv102_0 KE0) (blockK 0 (seqK (vc Pg (c102.at_ [1,1,1]) (ms102.drop 1)) (bodyK Pg r102 Q))))=b102_0 y0 y1 y5 y6 S KE0 Q:=by kernel_rfl
theorem loop102_0{y0 y1:AV}{y50 y60:AV}{S:Store}{Q:PoT}(I:AV→AV→Store→Prop)(μ:AV→AV→Store→Nat)(h0:I y50 y60 S)
    (hr:∀(y5 y6:AV) (S:Store),I y5 y6 S→∀ KE0:KeT,(∀(y5' y6':AV) (S':Store),I y5' y6' S'→μ y5' y6' S'<μ y5 y6 S→KE0 21 (env102_0 y0 y1 y5' y6') S')→b102_0 y0 y1 y5 y6 S KE0 Q):
    loopV lv102_0 (vc Pg (c102.at_ [1,1,0,1,0,0]) (ms102.drop 1)) 21 (env102_0 y0 y1 y50 y60) S (blockK 0 (seqK (vc Pg (c102.at_ [1,1,1]) (ms102.drop 1)) (bodyK Pg r102 Q))):=by
 refine⟨fun n e S=>n=21∧∃ y5 y6:AV,e=(env102_0 y0 y1 y5 y6)∧I y5 y6 S,fun _ e S=>μ (e.getD 2 .j) (e.getD 3 .j) S,?_,?_⟩
 ·exact⟨_,_,Wk.refl _ _,rfl,_,_,rfl,h0⟩
 ·rintro _ e S ⟨rfl,y5,y6,rfl,hI⟩
  exact(b102_0_eq _ _ _ _ _ _ _).mpr (hr y5 y6 S hI _ (fun y5' y6' S' hI' hm=>⟨_,_,Wk.refl _ _,⟨rfl,_,_,rfl,hI'⟩,hm⟩))
def c67:Code:=(Tryz.f67.body).getD .skip
def ms67:List (List Nat):=[[]]
def m67(x0 x1 x2:AV)(S:Store)(Q:PoT):Prop:=
 boxN 29 8 x0 S fun a S=>ldN 8 a S fun c S=>callF Pg 63 [c] S Q fun d S=>un .not d S fun e S=>onB e fun b=>gd b (Q (.ret (.v (.bool false))) S) (ldN 8 a S fun f S=>callF Pg 12 [f] S Q fun g S=>part1 g 0 S fun h S=>bin .gtr 0 h (.v (.int .i64 60)) S fun i S=>onB i fun b=>gd b (Q (.ret (.v (.bool false))) S) ((fun S0:Store=>∃ k:AV,(ldN 8 a S fun l S=>l=k∧S=S0)∧∃ m:AV,(callF Pg 12 [k] S (fun _ _=>False) fun n S=>n=m∧S=S0)∧∃ o:AV,(ldN 8 a S fun p S=>p=o∧S=S0)∧∃ q:AV,(callF Pg 12 [o] S (fun _ _=>False) fun r S=>r=q∧S=S0)∧∃ s:AV,(part1 q 0 S fun t S=>t=s∧S=S0)∧∃ u:AV,(callF Pg 102 [x1,s] S (fun _ _=>False) fun w S=>w=u∧S=S0)∧∃ x:AV,(callF Pg 101 [m,x2,u] S (fun _ _=>False) fun y S=>y=x∧S=S0)∧Q (.ret x) S) S))
theorem calls67{x0 x1 x2:AV}{S:Store}{Q:PoT}(h:m67 x0 x1 x2 S Q):ACalls Pg 67 [x0,x1,x2] S Q:=
 calls_of_vc (fn:=Tryz.f67) (c:=c67) (n:=25) Tryz.func67 (by kernel_rfl) (by kernel_rfl) (by kernel_rfl) ms67 (Eq.mpr (by kernel_rfl) h)
def c78:Code:=(Tryz.f78.body).getD .skip
def r78:List ResultVar:=Tryz.f78.results.toList
def env78_0(y1 y2 y5 y6:AV):List AV:=[y1,y2,y5,y6]
def lv78_0:List Nat:=[1,2,5,6]
def ms78:List (List Nat):=[lv78_0,[]]
def m78(x0 x1:AV)(S:Store)(Q:PoT):Prop:=
 boxN 29 8 x0 S fun a S=>ldN 8 a S fun c S=>callF Pg 63 [c] S Q fun d S=>un .not d S fun e S=>onB e fun b=>gd b (Q (.ret (.v (.int .i64 0))) S) (ldN 8 a S fun f S=>callF Pg 12 [f] S Q fun g S=>part1 g 0 S fun h S=>bin .gtr 0 h (.v (.int .i64 60)) S fun i S=>onB i fun b=>gd b (Q (.ret (.v (.int .i64 0))) S) (loopV lv78_0 (vc Pg (c78.at_ [1,1,1,0,1,0,0]) (ms78.drop 1)) 40 (env78_0 x1 a (.v (.int .i64 0)) (.v (.int .i64 0))) S (blockK 0 (seqK (vc Pg (c78.at_ [1,1,1,1]) (ms78.drop 1)) (bodyK Pg r78 Q)))))
theorem calls78{x0 x1:AV}{S:Store}{Q:PoT}(h:m78 x0 x1 S Q):ACalls Pg 78 [x0,x1] S Q:=
 calls_of_vc (fn:=Tryz.f78) (c:=c78) (n:=40) Tryz.func78 (by kernel_rfl) (by kernel_rfl) (by kernel_rfl) ms78 (Eq.mpr (by kernel_rfl) h)
def b78_0(y1 y2 y5 y6:AV)(S:Store)(KE0:KeT)(Q:PoT):Prop:=
 shift y2 1 S fun a S=>ld1 a S fun c S=>lenS c S fun d S=>bin .lss 0 y6 d S fun e S=>onB e fun b=>gd b ((fun S0:Store=>∃ f:AV,(ldN 8 y2 S fun g S=>g=f∧S=S0)∧∃ h:AV,(shift y2 1 S fun i S=>i=h∧S=S0)∧∃ k:AV,(ld1 h S fun l S=>l=k∧S=S0)∧∃ m:AV,(ixS 59 2 k y6 S fun n S=>n=m∧S=S0)∧∃ o:AV,(shift m 0 S fun p S=>p=o∧S=S0)∧∃ q:AV,(ld1 o S fun r S=>r=q∧S=S0)∧∃ s:AV,(callF Pg 67 [f,y1,q] S (fun _ _=>False) fun t S=>t=s∧S=S0)∧onB s fun b=>gd b (shift y2 0 S fun u S=>ld1 u S fun w S=>bin .add 0 w y6 S fun x S=>bin .shl 0 (.v (.int .i64 1)) x S fun y S=>bin .add 0 y5 y S fun z S=>bin .add 0 y6 (.v (.int .i64 1)) S fun A S=>KE0 40 (env78_0 y1 y2 z A) S) (bin .add 0 y6 (.v (.int .i64 1)) S fun B S=>KE0 40 (env78_0 y1 y2 y5 B) S)) S) (Q (.ret y5) S)
theorem b78_0_eq(y1 y2 y5 y6:AV)(S:Store)(KE0:KeT)(Q:PoT):vc Pg (c78.at_ [1,1,1,0,1,0,0]) (ms78.drop 1) (mkE 40 lv78_0 (env78_0 y1 y2 y5 y6)) S (thenK (fgK lv78_0 KE0) (blockK 0 (seqK (vc Pg (c78.at_ [1,1,1,1]) (ms78.drop 1)) (bodyK Pg r78 Q))))=b78_0 y1 y2 y5 y6 S KE0 Q:=by kernel_rfl
theorem loop78_0{y1 y2:AV}{y50 y60:AV}{S:Store}{Q:PoT}(I:AV→AV→Store→Prop)(μ:AV→AV→Store→Nat)(h0:I y50 y60 S)
    (hr:∀(y5 y6:AV) (S:Store),I y5 y6 S→∀ KE0:KeT,(∀(y5' y6':AV) (S':Store),I y5' y6' S'→μ y5' y6' S'<μ y5 y6 S→KE0 40 (env78_0 y1 y2 y5' y6') S')→b78_0 y1 y2 y5 y6 S KE0 Q):
    loopV lv78_0 (vc Pg (c78.at_ [1,1,1,0,1,0,0]) (ms78.drop 1)) 40 (env78_0 y1 y2 y50 y60) S (blockK 0 (seqK (vc Pg (c78.at_ [1,1,1,1]) (ms78.drop 1)) (bodyK Pg r78 Q))):=by
 refine⟨fun n e S=>n=40∧∃ y5 y6:AV,e=(env78_0 y1 y2 y5 y6)∧I y5 y6 S,fun _ e S=>μ (e.getD 2 .j) (e.getD 3 .j) S,?_,?_⟩
 ·exact⟨_,_,Wk.refl _ _,rfl,_,_,rfl,h0⟩
 ·rintro _ e S ⟨rfl,y5,y6,rfl,hI⟩
  exact(b78_0_eq _ _ _ _ _ _ _).mpr (hr y5 y6 S hI _ (fun y5' y6' S' hI' hm=>⟨_,_,Wk.refl _ _,⟨rfl,_,_,rfl,hI'⟩,hm⟩))
def c128:Code:=(Tryz.f128.body).getD .skip
def ms128:List (List Nat):=[[]]
def m128(x0 x1:AV)(S:Store)(Q:PoT):Prop:=
 ld1 x1 S fun a S=>bin .shr 0 x0 (.v (.int .u64 1)) S fun c S=>ixS 4 1 a c S fun d S=>ld1 d S fun e S=>bin .and 0 x0 (.v (.int .i64 1)) S fun f S=>bin .eql 0 f (.v (.int .i64 1)) S fun g S=>bin .neq 1 e g S fun h S=>Q (.ret h) S
theorem calls128{x0 x1:AV}{S:Store}{Q:PoT}(h:m128 x0 x1 S Q):ACalls Pg 128 [x0,x1] S Q:=
 calls_of_vc (fn:=Tryz.f128) (c:=c128) (n:=13) Tryz.func128 (by kernel_rfl) (by kernel_rfl) (by kernel_rfl) ms128 (Eq.mpr (by kernel_rfl) h)
def c125:Code:=(Tryz.f125.body).getD .skip
def r125:List ResultVar:=Tryz.f125.results.toList
def env125_0(y5 y6 y32 y33 y34:AV):List AV:=[y5,y6,y32,y33,y34]
def lv125_0:List Nat:=[5,6,32,33,34]
def ms125:List (List Nat):=[lv125_0,[]]
def m125(x0 x1:AV)(S:Store)(Q:PoT):Prop:=
 boxN 48 2 x0 S fun a S=>ldN 2 a S fun c S=>callF Pg 82 [c] S Q fun d S=>un .not d S fun e S=>onB e fun b=>gd b (Q (.ret .nl) S) (lenS x1 S fun g S=>shift a 0 S fun h S=>ld1 h S fun i S=>bin .neq 0 g i S fun k S=>onB k fun b=>gd b (Q (.ret .nl) S) (shift a 0 S fun l S=>ld1 l S fun m S=>bin .add 0 m (.v (.int .i64 1)) S fun n S=>shift a 1 S fun o S=>ld1 o S fun p S=>lenS p S fun q S=>bin .add 0 n q S fun r S=>mkN 4 1 [.v (.bool false)] (.v (.int .i64 1)) r S fun s S=>boxN 121 1 .nl S fun t S=>stN 1 t s S fun u S=>ld1 t S fun w S=>appS 4 1 1 w x1 S fun x S=>stN 1 t x S fun y S=>shift a 1 S fun z S=>ld1 z S fun A S=>lenS A S fun B S=>loopV lv125_0 (vc Pg (c125.at_ [1,1,1,1,1,0,1,0,0]) (ms125.drop 1)) 53 (env125_0 t (.f (.func 128) [] [t]) A B (.v (.int .i64 0))) S (blockK 0 (seqK (vc Pg (c125.at_ [1,1,1,1,1,1]) (ms125.drop 1)) (bodyK Pg r125 Q)))))
theorem calls125{x0 x1:AV}{S:Store}{Q:PoT}(h:m125 x0 x1 S Q):ACalls Pg 125 [x0,x1] S Q:=
 calls_of_vc (fn:=Tryz.f125) (c:=c125) (n:=53) Tryz.func125 (by kernel_rfl) (by kernel_rfl) (by kernel_rfl) ms125 (Eq.mpr (by kernel_rfl) h)
def b125_0(y5 y6 y32 y33 y34:AV)(S:Store)(KE0:KeT)(Q:PoT):Prop:=
 bin .lss 0 y34 y33 S fun c S=>onB c fun b=>gd b (ixS 96 2 y32 y34 S fun d S=>ldN 2 d S fun e S=>boxN 96 2 (.a [.v (.int .i64 0),.v (.int .i64 0)]) S fun f S=>stN 2 f e S fun g S=>∃ h:AV,(∀ T:Store,Keep S T→ld1 y5 T fun i S=>i=h∧S=T)∧∃ k:AV,(∀ T:Store,Keep S T→ixA 2 1 f (.v (.int .i64 0)) T fun l S=>l=k∧S=T)∧∃ m:AV,(∀ T:Store,Keep S T→ld1 k T fun n S=>n=m∧S=T)∧∃ o:AV,(∀ T:Store,Keep S T→callV Pg y6 [m] T (fun p S=>p=o∧S=T) (fun u S=>False))∧onB o fun b=>gd b (∃ q:AV,(∀ T:Store,Keep S T→ixA 2 1 f (.v (.int .i64 1)) T fun r S=>r=q∧S=T)∧∃ s:AV,(∀ T:Store,Keep S T→ld1 q T fun t S=>t=s∧S=T)∧∃ w:AV,(∀ T:Store,Keep S T→callV Pg y6 [s] T (fun x S=>x=w∧S=T) (fun u S=>False))∧∃ y:AV,(∀ T:Store,Keep S T→w=y∧T=T)∧∃ z:AV,(∀ T:Store,Keep S T→bslN 4 1 1 [.v (.bool false)] [(0,y)] T fun A S=>A=z∧S=T)∧appS 4 1 1 h z S fun B S=>stN 1 y5 B S fun C S=>bin .add 0 y34 (.v (.int .i64 1)) S fun D S=>KE0 53 (env125_0 y5 y6 y32 y33 D) S) (∃ E:AV,(∀ T:Store,Keep S T→(.v (.bool false))=E∧T=T)∧∃ F:AV,(∀ T:Store,Keep S T→bslN 4 1 1 [.v (.bool false)] [(0,E)] T fun G S=>G=F∧S=T)∧appS 4 1 1 h F S fun H S=>stN 1 y5 H S fun I S=>bin .add 0 y34 (.v (.int .i64 1)) S fun J S=>KE0 53 (env125_0 y5 y6 y32 y33 J) S)) (ld1 y5 S fun K S=>Q (.ret K) S)
theorem b125_0_eq(y5 y6 y32 y33 y34:AV)(S:Store)(KE0:KeT)(Q:PoT):vc Pg (c125.at_ [1,1,1,1,1,0,1,0,0]) (ms125.drop 1) (mkE 53 lv125_0 (env125_0 y5 y6 y32 y33 y34)) S (thenK (fgK lv125_0 KE0) (blockK 0 (seqK (vc Pg (c125.at_ [1,1,1,1,1,1]) (ms125.drop 1)) (bodyK Pg r125 Q))))=b125_0 y5 y6 y32 y33 y34 S KE0 Q:=by kernel_rfl
theorem loop125_0{y5 y6 y32 y33:AV}{y340:AV}{S:Store}{Q:PoT}(I:AV→Store→Prop)(μ:AV→Store→Nat)(h0:I y340 S)
    (hr:∀(y34:AV) (S:Store),I y34 S→∀ KE0:KeT,(∀(y34':AV) (S':Store),I y34' S'→μ y34' S'<μ y34 S→KE0 53 (env125_0 y5 y6 y32 y33 y34') S')→b125_0 y5 y6 y32 y33 y34 S KE0 Q):
    loopV lv125_0 (vc Pg (c125.at_ [1,1,1,1,1,0,1,0,0]) (ms125.drop 1)) 53 (env125_0 y5 y6 y32 y33 y340) S (blockK 0 (seqK (vc Pg (c125.at_ [1,1,1,1,1,1]) (ms125.drop 1)) (bodyK Pg r125 Q))):=by
 refine⟨fun n e S=>n=53∧∃ y34:AV,e=(env125_0 y5 y6 y32 y33 y34)∧I y34 S,fun _ e S=>μ (e.getD 4 .j) S,?_,?_⟩
 ·exact⟨_,_,Wk.refl _ _,rfl,_,rfl,h0⟩
 ·rintro _ e S ⟨rfl,y34,rfl,hI⟩
  exact(b125_0_eq _ _ _ _ _ _ _ _).mpr (hr y34 S hI _ (fun y34' S' hI' hm=>⟨_,_,Wk.refl _ _,⟨rfl,_,rfl,hI'⟩,hm⟩))
def c117:Code:=(Tryz.f117.body).getD .skip
def ms117:List (List Nat):=[[]]
def m117(x0 x1:AV)(S:Store)(Q:PoT):Prop:=
 bin .quo 0 x1 (.v (.int .i64 2)) S fun a S=>ixS 4 1 x0 a S fun c S=>ld1 c S fun d S=>bin .rem 0 x1 (.v (.int .i64 2)) S fun e S=>bin .eql 0 e (.v (.int .i64 1)) S fun f S=>bin .neq 1 d f S fun g S=>Q (.ret g) S
theorem calls117{x0 x1:AV}{S:Store}{Q:PoT}(h:m117 x0 x1 S Q):ACalls Pg 117 [x0,x1] S Q:=
 calls_of_vc (fn:=Tryz.f117) (c:=c117) (n:=14) Tryz.func117 (by kernel_rfl) (by kernel_rfl) (by kernel_rfl) ms117 (Eq.mpr (by kernel_rfl) h)
def c116:Code:=(Tryz.f116.body).getD .skip
def r116:List ResultVar:=Tryz.f116.results.toList
def env116_0(y2 y5 y6:AV):List AV:=[y2,y5,y6]
def lv116_0:List Nat:=[2,5,6]
def ms116:List (List Nat):=[lv116_0,[]]
def m116(x0 x1:AV)(S:Store)(Q:PoT):Prop:=
 boxN 48 2 x0 S fun a S=>ldN 2 a S fun c S=>callF Pg 76 [c] S Q fun d S=>un .not d S fun e S=>onB e fun b=>gd b (Q (.ret .nl) S) (lenS x1 S fun f S=>shift a 0 S fun g S=>ld1 g S fun h S=>bin .neq 0 f h S fun i S=>onB i fun b=>gd b (Q (.ret .nl) S) (bslN 4 1 1 [.v (.bool false)] [(0,(.v (.bool false)))] S fun k S=>appS 4 1 1 k x1 S fun l S=>loopV lv116_0 (vc Pg (c116.at_ [1,1,1,0,1,0,0]) (ms116.drop 1)) 49 (env116_0 a l (.v (.int .i64 0))) S (blockK 0 (seqK (vc Pg (c116.at_ [1,1,1,1]) (ms116.drop 1)) (bodyK Pg r116 Q)))))
theorem calls116{x0 x1:AV}{S:Store}{Q:PoT}(h:m116 x0 x1 S Q):ACalls Pg 116 [x0,x1] S Q:=
 calls_of_vc (fn:=Tryz.f116) (c:=c116) (n:=49) Tryz.func116 (by kernel_rfl) (by kernel_rfl) (by kernel_rfl) ms116 (Eq.mpr (by kernel_rfl) h)
def b116_0(y2 y5 y6:AV)(S:Store)(KE0:KeT)(Q:PoT):Prop:=
 shift y2 1 S fun a S=>ld1 a S fun c S=>lenS c S fun d S=>bin .lss 0 y6 d S fun e S=>onB e fun b=>gd b (shift y2 1 S fun f S=>ld1 f S fun g S=>ixS 96 2 g y6 S fun h S=>ixA 2 1 h (.v (.int .i64 0)) S fun i S=>ld1 i S fun k S=>callF Pg 117 [y5,k] S Q fun l S=>onB l fun b=>gd b (shift y2 1 S fun m S=>ld1 m S fun n S=>ixS 96 2 n y6 S fun o S=>ixA 2 1 o (.v (.int .i64 1)) S fun p S=>ld1 p S fun q S=>callF Pg 117 [y5,q] S Q fun r S=>bslN 4 1 1 [.v (.bool false)] [(0,r)] S fun s S=>appS 4 1 1 y5 s S fun t S=>bin .add 0 y6 (.v (.int .i64 1)) S fun u S=>KE0 49 (env116_0 y2 t u) S) (bslN 4 1 1 [.v (.bool false)] [(0,(.v (.bool false)))] S fun w S=>appS 4 1 1 y5 w S fun x S=>bin .add 0 y6 (.v (.int .i64 1)) S fun y S=>KE0 49 (env116_0 y2 x y) S)) (Q (.ret y5) S)
theorem b116_0_eq(y2 y5 y6:AV)(S:Store)(KE0:KeT)(Q:PoT):vc Pg (c116.at_ [1,1,1,0,1,0,0]) (ms116.drop 1) (mkE 49 lv116_0 (env116_0 y2 y5 y6)) S (thenK (fgK lv116_0 KE0) (blockK 0 (seqK (vc Pg (c116.at_ [1,1,1,1]) (ms116.drop 1)) (bodyK Pg r116 Q))))=b116_0 y2 y5 y6 S KE0 Q:=by kernel_rfl
theorem loop116_0{y2:AV}{y50 y60:AV}{S:Store}{Q:PoT}(I:AV→AV→Store→Prop)(μ:AV→AV→Store→Nat)(h0:I y50 y60 S)
    (hr:∀(y5 y6:AV) (S:Store),I y5 y6 S→∀ KE0:KeT,(∀(y5' y6':AV) (S':Store),I y5' y6' S'→μ y5' y6' S'<μ y5 y6 S→KE0 49 (env116_0 y2 y5' y6') S')→b116_0 y2 y5 y6 S KE0 Q):
    loopV lv116_0 (vc Pg (c116.at_ [1,1,1,0,1,0,0]) (ms116.drop 1)) 49 (env116_0 y2 y50 y60) S (blockK 0 (seqK (vc Pg (c116.at_ [1,1,1,1]) (ms116.drop 1)) (bodyK Pg r116 Q))):=by
 refine⟨fun n e S=>n=49∧∃ y5 y6:AV,e=(env116_0 y2 y5 y6)∧I y5 y6 S,fun _ e S=>μ (e.getD 1 .j) (e.getD 2 .j) S,?_,?_⟩
 ·exact⟨_,_,Wk.refl _ _,rfl,_,_,rfl,h0⟩
 ·rintro _ e S ⟨rfl,y5,y6,rfl,hI⟩
  exact(b116_0_eq _ _ _ _ _ _).mpr (hr y5 y6 S hI _ (fun y5' y6' S' hI' hm=>⟨_,_,Wk.refl _ _,⟨rfl,_,_,rfl,hI'⟩,hm⟩))
def c101:Code:=(Tryz.f101.body).getD .skip
def ms101:List (List Nat):=[[]]
def m101(x0 x1 x2:AV)(S:Store)(Q:PoT):Prop:=
 boxN 48 2 x0 S fun a S=>ldN 2 a S fun c S=>callF Pg 116 [c,x2] S Q fun d S=>lenS d S fun e S=>bin .gtr 0 e (.v (.int .i64 0)) S fun f S=>onB f fun b=>gd b (ldN 2 a S fun g S=>callF Pg 77 [g,x1] S Q fun h S=>onB h fun b=>gd b (callF Pg 117 [d,x1] S Q fun i S=>Q (.ret i) S) (Q (.ret (.v (.bool false))) S)) (Q (.ret (.v (.bool false))) S)
theorem calls101{x0 x1 x2:AV}{S:Store}{Q:PoT}(h:m101 x0 x1 x2 S Q):ACalls Pg 101 [x0,x1,x2] S Q:=
 calls_of_vc (fn:=Tryz.f101) (c:=c101) (n:=24) Tryz.func101 (by kernel_rfl) (by kernel_rfl) (by kernel_rfl) ms101 (Eq.mpr (by kernel_rfl) h)
def c63:Code:=(Tryz.f63.body).getD .skip
def r63:List ResultVar:=Tryz.f63.results.toList
def env63_0(y1 y3 y4:AV):List AV:=[y1,y3,y4]
def lv63_0:List Nat:=[1,3,4]
def ms63:List (List Nat):=[lv63_0,[]]
def m63(x0:AV)(S:Store)(Q:PoT):Prop:=
 boxN 29 8 x0 S fun c S=>ldN 8 c S fun d S=>callF Pg 12 [d] S Q fun e S=>boxN 48 2 (.a [.v (.int .i64 0),.nl]) S fun f S=>stN 2 f e S fun g S=>shift c 0 S fun h S=>ld1 h S fun i S=>bin .lss 0 i (.v (.int .i64 0)) S fun k S=>onB k fun b=>gd b (Q (.ret (.v (.bool false))) S) (shift c 0 S fun l S=>ld1 l S fun m S=>bin .gtr 0 m (.v (.int .i64 2000)) S fun n S=>onB n fun b=>gd b (Q (.ret (.v (.bool false))) S) (shift c 1 S fun o S=>ld1 o S fun p S=>lenS p S fun q S=>bin .gtr 0 q (.v (.int .i64 2000)) S fun r S=>onB r fun b=>gd b (Q (.ret (.v (.bool false))) S) (ldN 2 f S fun s S=>callF Pg 76 [s] S Q fun t S=>un .not t S fun u S=>onB u fun b=>gd b (Q (.ret (.v (.bool false))) S) (loopV lv63_0 (vc Pg (c63.at_ [1,1,1,0,1,0,0]) (ms63.drop 1)) 86 (env63_0 c f (.v (.int .i64 0))) S (blockK 0 (seqK (vc Pg (c63.at_ [1,1,1,1]) (ms63.drop 1)) (bodyK Pg r63 Q)))))))
theorem calls63{x0:AV}{S:Store}{Q:PoT}(h:m63 x0 S Q):ACalls Pg 63 [x0] S Q:=
 calls_of_vc (fn:=Tryz.f63) (c:=c63) (n:=86) Tryz.func63 (by kernel_rfl) (by kernel_rfl) (by kernel_rfl) ms63 (Eq.mpr (by kernel_rfl) h)
def b63_0(y1 y3 y4:AV)(S:Store)(KE0:KeT)(Q:PoT):Prop:=
 shift y1 1 S fun a S=>ld1 a S fun c S=>lenS c S fun d S=>bin .lss 0 y4 d S fun e S=>onB e fun b=>gd b ((fun S0:Store=>∃ f:AV,(ldN 2 y3 S fun g S=>g=f∧S=S0)∧∃ h:AV,(shift y1 1 S fun i S=>i=h∧S=S0)∧∃ k:AV,(ld1 h S fun l S=>l=k∧S=S0)∧∃ m:AV,(ixS 59 2 k y4 S fun n S=>n=m∧S=S0)∧∃ o:AV,(shift m 0 S fun p S=>p=o∧S=S0)∧∃ q:AV,(ld1 o S fun r S=>r=q∧S=S0)∧∃ s:AV,(callF Pg 77 [f,q] S (fun _ _=>False) fun t S=>t=s∧S=S0)∧∃ u:AV,(un .not s S fun w S=>w=u∧S=S0)∧onB u fun b=>gd b (∃ x:AV,((.v (.bool true))=x∧S=S0)∧onB x fun b=>gd b (∃ y:AV,((.v (.bool true))=y∧S=S0)∧onB y fun b=>gd b (Q (.ret (.v (.bool false))) S) (bin .add 0 y4 (.v (.int .i64 1)) S fun z S=>KE0 86 (env63_0 y1 y3 z) S)) (∃ A:AV,(shift y1 1 S fun B S=>B=A∧S=S0)∧∃ C:AV,(ld1 A S fun D S=>D=C∧S=S0)∧∃ E:AV,(ixS 59 2 C y4 S fun F S=>F=E∧S=S0)∧∃ G:AV,(shift E 1 S fun H S=>H=G∧S=S0)∧∃ I:AV,(ld1 G S fun J S=>J=I∧S=S0)∧∃ K:AV,(bin .gtr 0 I (.v (.int .i64 2)) S fun L S=>L=K∧S=S0)∧∃ M:AV,(K=M∧S=S0)∧onB M fun b=>gd b (Q (.ret (.v (.bool false))) S) (bin .add 0 y4 (.v (.int .i64 1)) S fun N S=>KE0 86 (env63_0 y1 y3 N) S))) (∃ O:AV,(shift y1 1 S fun P S=>P=O∧S=S0)∧∃ R:AV,(ld1 O S fun T S=>T=R∧S=S0)∧∃ U:AV,(ixS 59 2 R y4 S fun V S=>V=U∧S=S0)∧∃ W:AV,(shift U 1 S fun X S=>X=W∧S=S0)∧∃ Y:AV,(ld1 W S fun Z S=>Z=Y∧S=S0)∧∃ a0:AV,(bin .lss 0 Y (.v (.int .i64 0)) S fun a1 S=>a1=a0∧S=S0)∧∃ a2:AV,(a0=a2∧S=S0)∧onB a2 fun b=>gd b (∃ a3:AV,((.v (.bool true))=a3∧S=S0)∧onB a3 fun b=>gd b (Q (.ret (.v (.bool false))) S) (bin .add 0 y4 (.v (.int .i64 1)) S fun a4 S=>KE0 86 (env63_0 y1 y3 a4) S)) (∃ a5:AV,(shift y1 1 S fun a6 S=>a6=a5∧S=S0)∧∃ a7:AV,(ld1 a5 S fun a8 S=>a8=a7∧S=S0)∧∃ a9:AV,(ixS 59 2 a7 y4 S fun b0 S=>b0=a9∧S=S0)∧∃ b1:AV,(shift a9 1 S fun b2 S=>b2=b1∧S=S0)∧∃ b3:AV,(ld1 b1 S fun b4 S=>b4=b3∧S=S0)∧∃ b5:AV,(bin .gtr 0 b3 (.v (.int .i64 2)) S fun b6 S=>b6=b5∧S=S0)∧∃ b7:AV,(b5=b7∧S=S0)∧onB b7 fun b=>gd b (Q (.ret (.v (.bool false))) S) (bin .add 0 y4 (.v (.int .i64 1)) S fun b8 S=>KE0 86 (env63_0 y1 y3 b8) S)))) S) (ldN 2 y3 S fun b9 S=>shift y1 3 S fun c0 S=>ld1 c0 S fun c1 S=>callF Pg 99 [b9,c1] S Q fun c2 S=>onB c2 fun b=>gd b (ldN 2 y3 S fun c3 S=>shift y1 4 S fun c4 S=>ld1 c4 S fun c5 S=>callF Pg 99 [c3,c5] S Q fun c6 S=>onB c6 fun b=>gd b (ldN 2 y3 S fun c7 S=>shift y1 5 S fun c8 S=>ld1 c8 S fun c9 S=>callF Pg 99 [c7,c9] S Q fun d0 S=>onB d0 fun b=>gd b (ldN 2 y3 S fun d1 S=>shift y1 6 S fun d2 S=>ld1 d2 S fun d3 S=>callF Pg 99 [d1,d3] S Q fun d4 S=>onB d4 fun b=>gd b (ldN 8 y1 S fun d5 S=>callF Pg 100 [d5] S Q fun d6 S=>Q (.ret d6) S) (Q (.ret (.v (.bool false))) S)) (Q (.ret (.v (.bool false))) S)) (Q (.ret (.v (.bool false))) S)) (Q (.ret (.v (.bool false))) S))
theorem b63_0_eq(y1 y3 y4:AV)(S:Store)(KE0:KeT)(Q:PoT):vc Pg (c63.at_ [1,1,1,0,1,0,0]) (ms63.drop 1) (mkE 86 lv63_0 (env63_0 y1 y3 y4)) S (thenK (fgK lv63_0 KE0) (blockK 0 (seqK (vc Pg (c63.at_ [1,1,1,1]) (ms63.drop 1)) (bodyK Pg r63 Q))))=b63_0 y1 y3 y4 S KE0 Q:=by kernel_rfl
theorem loop63_0{y1 y3:AV}{y40:AV}{S:Store}{Q:PoT}(I:AV→Store→Prop)(μ:AV→Store→Nat)(h0:I y40 S)
    (hr:∀(y4:AV) (S:Store),I y4 S→∀ KE0:KeT,(∀(y4':AV) (S':Store),I y4' S'→μ y4' S'<μ y4 S→KE0 86 (env63_0 y1 y3 y4') S')→b63_0 y1 y3 y4 S KE0 Q):
    loopV lv63_0 (vc Pg (c63.at_ [1,1,1,0,1,0,0]) (ms63.drop 1)) 86 (env63_0 y1 y3 y40) S (blockK 0 (seqK (vc Pg (c63.at_ [1,1,1,1]) (ms63.drop 1)) (bodyK Pg r63 Q))):=by
 refine⟨fun n e S=>n=86∧∃ y4:AV,e=(env63_0 y1 y3 y4)∧I y4 S,fun _ e S=>μ (e.getD 2 .j) S,?_,?_⟩
 ·exact⟨_,_,Wk.refl _ _,rfl,_,rfl,h0⟩
 ·rintro _ e S ⟨rfl,y4,rfl,hI⟩
  exact(b63_0_eq _ _ _ _ _ _).mpr (hr y4 S hI _ (fun y4' S' hI' hm=>⟨_,_,Wk.refl _ _,⟨rfl,_,rfl,hI'⟩,hm⟩))
def c80:Code:=(Tryz.f80.body).getD .skip
def ms80:List (List Nat):=[[]]
def m80(x0 x1:AV)(S:Store)(Q:PoT):Prop:=
 ldN 2 x1 S fun a S=>callF Pg 48 [a,x0] S Q fun c S=>un .not c S fun d S=>Q (.ret d) S
theorem calls80{x0 x1:AV}{S:Store}{Q:PoT}(h:m80 x0 x1 S Q):ACalls Pg 80 [x0,x1] S Q:=
 calls_of_vc (fn:=Tryz.f80) (c:=c80) (n:=8) Tryz.func80 (by kernel_rfl) (by kernel_rfl) (by kernel_rfl) ms80 (Eq.mpr (by kernel_rfl) h)
def c81:Code:=(Tryz.f81.body).getD .skip
def ms81:List (List Nat):=[[]]
def m81(x0 x1:AV)(S:Store)(Q:PoT):Prop:=
 boxN 59 2 x0 S fun a S=>ld1 x1 S fun c S=>shift a 0 S fun d S=>ld1 d S fun e S=>callV Pg c [e] S (fun f S=>onB f fun b=>gd b (Q (.ret (.v (.bool true))) S) (shift a 1 S fun g S=>ld1 g S fun h S=>bin .lss 0 h (.v (.int .i64 0)) S fun i S=>onB i fun b=>gd b (Q (.ret (.v (.bool true))) S) (shift a 1 S fun k S=>ld1 k S fun l S=>bin .gtr 0 l (.v (.int .i64 2)) S fun m S=>Q (.ret m) S))) (fun u S=>Q (.pan u) S)
theorem calls81{x0 x1:AV}{S:Store}{Q:PoT}(h:m81 x0 x1 S Q):ACalls Pg 81 [x0,x1] S Q:=
 calls_of_vc (fn:=Tryz.f81) (c:=c81) (n:=18) Tryz.func81 (by kernel_rfl) (by kernel_rfl) (by kernel_rfl) ms81 (Eq.mpr (by kernel_rfl) h)
def c105:Code:=(Tryz.f105.body).getD .skip
def r105:List ResultVar:=Tryz.f105.results.toList
def env105_0(y0 y1 y7 y8:AV):List AV:=[y0,y1,y7,y8]
def lv105_0:List Nat:=[0,1,7,8]
def ms105:List (List Nat):=[lv105_0,[]]
def m105(x0 x1:AV)(S:Store)(Q:PoT):Prop:=
 lenS x0 S fun a S=>loopV lv105_0 (vc Pg (c105.at_ [1,0,1,0,0]) (ms105.drop 1)) 19 (env105_0 x0 x1 a (.v (.int .i64 0))) S (blockK 0 (seqK (vc Pg (c105.at_ [1,1]) (ms105.drop 1)) (bodyK Pg r105 Q)))
theorem calls105{x0 x1:AV}{S:Store}{Q:PoT}(h:m105 x0 x1 S Q):ACalls Pg 105 [x0,x1] S Q:=
 calls_of_vc (fn:=Tryz.f105) (c:=c105) (n:=19) Tryz.func105 (by kernel_rfl) (by kernel_rfl) (by kernel_rfl) ms105 (Eq.mpr (by kernel_rfl) h)
def b105_0(y0 y1 y7 y8:AV)(S:Store)(KE0:KeT)(Q:PoT):Prop:=
 bin .lss 0 y8 y7 S fun a S=>onB a fun b=>gd b (ixS 59 2 y0 y8 S fun c S=>ldN 2 c S fun d S=>callV Pg y1 [d] S (fun e S=>onB e fun b=>gd b (Q (.ret y8) S) (bin .add 0 y8 (.v (.int .i64 1)) S fun f S=>KE0 19 (env105_0 y0 y1 y7 f) S)) (fun u S=>Q (.pan u) S)) (Q (.ret (.v (.int .i64 (-1)))) S)
theorem b105_0_eq(y0 y1 y7 y8:AV)(S:Store)(KE0:KeT)(Q:PoT):vc Pg (c105.at_ [1,0,1,0,0]) (ms105.drop 1) (mkE 19 lv105_0 (env105_0 y0 y1 y7 y8)) S (thenK (fgK lv105_0 KE0) (blockK 0 (seqK (vc Pg (c105.at_ [1,1]) (ms105.drop 1)) (bodyK Pg r105 Q))))=b105_0 y0 y1 y7 y8 S KE0 Q:=by kernel_rfl
theorem loop105_0{y0 y1 y7:AV}{y80:AV}{S:Store}{Q:PoT}(I:AV→Store→Prop)(μ:AV→Store→Nat)(h0:I y80 S)
    (hr:∀(y8:AV) (S:Store),I y8 S→∀ KE0:KeT,(∀(y8':AV) (S':Store),I y8' S'→μ y8' S'<μ y8 S→KE0 19 (env105_0 y0 y1 y7 y8') S')→b105_0 y0 y1 y7 y8 S KE0 Q):
    loopV lv105_0 (vc Pg (c105.at_ [1,0,1,0,0]) (ms105.drop 1)) 19 (env105_0 y0 y1 y7 y80) S (blockK 0 (seqK (vc Pg (c105.at_ [1,1]) (ms105.drop 1)) (bodyK Pg r105 Q))):=by
 refine⟨fun n e S=>n=19∧∃ y8:AV,e=(env105_0 y0 y1 y7 y8)∧I y8 S,fun _ e S=>μ (e.getD 3 .j) S,?_,?_⟩
 ·exact⟨_,_,Wk.refl _ _,rfl,_,rfl,h0⟩
 ·rintro _ e S ⟨rfl,y8,rfl,hI⟩
  exact(b105_0_eq _ _ _ _ _ _ _).mpr (hr y8 S hI _ (fun y8' S' hI' hm=>⟨_,_,Wk.refl _ _,⟨rfl,_,rfl,hI'⟩,hm⟩))
def c83:Code:=(Tryz.f83.body).getD .skip
def ms83:List (List Nat):=[[]]
def m83(x0 x1:AV)(S:Store)(Q:PoT):Prop:=
 callF Pg 105 [x0,x1] S Q fun a S=>bin .geq 0 a (.v (.int .i64 0)) S fun c S=>Q (.ret c) S
theorem calls83{x0 x1:AV}{S:Store}{Q:PoT}(h:m83 x0 x1 S Q):ACalls Pg 83 [x0,x1] S Q:=
 calls_of_vc (fn:=Tryz.f83) (c:=c83) (n:=9) Tryz.func83 (by kernel_rfl) (by kernel_rfl) (by kernel_rfl) ms83 (Eq.mpr (by kernel_rfl) h)
def c45:Code:=(Tryz.f45.body).getD .skip
def r45:List ResultVar:=Tryz.f45.results.toList
def env45_0(y1 y3 y14:AV):List AV:=[y1,y3,y14]
def lv45_0:List Nat:=[1,3,14]
def env45_1(y1 y6 y44 y45:AV):List AV:=[y1,y6,y44,y45]
def lv45_1:List Nat:=[1,6,44,45]
def ms45:List (List Nat):=[lv45_0,lv45_1,[]]
def m45(x0:AV)(S:Store)(Q:PoT):Prop:=
 boxN 29 8 x0 S fun c S=>ldN 8 c S fun d S=>callF Pg 44 [d] S Q fun e S=>boxN 48 2 (.a [.v (.int .i64 0),.nl]) S fun f S=>stN 2 f e S fun g S=>ldN 8 c S fun h S=>callF Pg 79 [h] S Q fun i S=>rngM i S fun k S=>loopV lv45_0 (vc Pg (c45.at_ [1,1,0,1,0,0]) (ms45.drop 1)) 54 (env45_0 c f k) S (blockK 0 (seqK (vc Pg (c45.at_ [1,1,1]) (ms45.drop 1)) (bodyK Pg r45 Q)))
theorem calls45{x0:AV}{S:Store}{Q:PoT}(h:m45 x0 S Q):ACalls Pg 45 [x0] S Q:=
 calls_of_vc (fn:=Tryz.f45) (c:=c45) (n:=54) Tryz.func45 (by kernel_rfl) (by kernel_rfl) (by kernel_rfl) ms45 (Eq.mpr (by kernel_rfl) h)
def b45_0(y1 y3 y14:AV)(S:Store)(KE0:KeT)(Q:PoT):Prop:=
 nextM false y14 S fun a S=>extr a 0 S fun c S=>onB c fun b=>gd b (entryM y14 S fun d S=>extr d 1 S fun e S=>bin .lss 0 e (.v (.int .i64 0)) S fun g S=>onB g fun b=>gd b (Q (.ret (.v (.bool false))) S) (bin .gtr 0 e (.v (.int .i64 2000)) S fun h S=>onB h fun b=>gd b (Q (.ret (.v (.bool false))) S) (KE0 54 (env45_0 y1 y3 y14) S))) (boxN 91 1 (.v .nilFunc) S fun i S=>stN 1 i (.f (.func 80) [] [y3]) S fun k S=>ldN 2 y3 S fun l S=>callF Pg 82 [l] S Q fun m S=>un .not m S fun n S=>onB n fun b=>gd b (Q (.ret (.v (.bool false))) S) (shift y1 1 S fun o S=>ld1 o S fun p S=>callF Pg 83 [p,(.f (.func 81) [] [i])] S Q fun q S=>onB q fun b=>gd b (Q (.ret (.v (.bool false))) S) (shift y1 3 S fun r S=>ld1 r S fun s S=>shift y1 4 S fun t S=>ld1 t S fun u S=>shift y1 5 S fun w S=>ld1 w S fun x S=>shift y1 6 S fun y S=>ld1 y S fun z S=>bld [(0,1),(1,1),(2,1),(3,1)] [.nl,.nl,.nl,.nl] [(0,s),(1,u),(2,x),(3,z)] S fun A S=>loopV lv45_1 (vc Pg (c45.at_ [1,1,1,1,1,1,0,1,0,0]) (ms45.drop 2)) 54 (env45_1 y1 i A (.v (.int .i64 0))) S (blockK 2 (seqK (vc Pg (c45.at_ [1,1,1,1,1,1,1]) (ms45.drop 2)) (bodyK Pg r45 Q))))))
theorem b45_0_eq(y1 y3 y14:AV)(S:Store)(KE0:KeT)(Q:PoT):vc Pg (c45.at_ [1,1,0,1,0,0]) (ms45.drop 1) (mkE 54 lv45_0 (env45_0 y1 y3 y14)) S (thenK (fgK lv45_0 KE0) (blockK 0 (seqK (vc Pg (c45.at_ [1,1,1]) (ms45.drop 1)) (bodyK Pg r45 Q))))=b45_0 y1 y3 y14 S KE0 Q:=by kernel_rfl
theorem loop45_0{y1 y3 y14:AV}{S:Store}{Q:PoT}(I:Store→Prop)(μ:Store→Nat)(h0:I  S)
    (hr:∀(S:Store),I  S→∀ KE0:KeT,(∀(S':Store),I  S'→μ  S'<μ  S→KE0 54 (env45_0 y1 y3 y14) S')→b45_0 y1 y3 y14 S KE0 Q):
    loopV lv45_0 (vc Pg (c45.at_ [1,1,0,1,0,0]) (ms45.drop 1)) 54 (env45_0 y1 y3 y14) S (blockK 0 (seqK (vc Pg (c45.at_ [1,1,1]) (ms45.drop 1)) (bodyK Pg r45 Q))):=by
 refine⟨fun n e S=>n=54∧e=(env45_0 y1 y3 y14)∧I  S,fun _ e S=>μ  S,?_,?_⟩
 ·exact⟨_,_,Wk.refl _ _,rfl,rfl,h0⟩
 ·rintro _ e S ⟨rfl,rfl,hI⟩
  exact(b45_0_eq _ _ _ _ _ _).mpr (hr  S hI _ (fun  S' hI' hm=>⟨_,_,Wk.refl _ _,⟨rfl,rfl,hI'⟩,hm⟩))
def b45_1(y1 y6 y44 y45:AV)(S:Store)(KE1:KeT)(Q:PoT):Prop:=
 bin .lss 0 y45 (.v (.int .i64 4)) S fun a S=>onB a fun b=>gd b (optP (intA y45) fun z39=>(0≤z39∧z39<((4:Nat):Int))∧part1 y44 (z39.toNat*1) S fun c S=>ld1 y6 S fun d S=>callF Pg 84 [c,d] S Q fun e S=>onB e fun b=>gd b (Q (.ret (.v (.bool false))) S) (bin .add 0 y45 (.v (.int .i64 1)) S fun f S=>KE1 54 (env45_1 y1 y6 y44 f) S)) (ldN 8 y1 S fun g S=>callF Pg 85 [g] S Q fun h S=>Q (.ret h) S)
theorem b45_1_eq(y1 y6 y44 y45:AV)(S:Store)(KE1:KeT)(Q:PoT):vc Pg (c45.at_ [1,1,1,1,1,1,0,1,0,0]) (ms45.drop 2) (mkE 54 lv45_1 (env45_1 y1 y6 y44 y45)) S (thenK (fgK lv45_1 KE1) (blockK 2 (seqK (vc Pg (c45.at_ [1,1,1,1,1,1,1]) (ms45.drop 2)) (bodyK Pg r45 Q))))=b45_1 y1 y6 y44 y45 S KE1 Q:=by kernel_rfl
theorem loop45_1{y1 y6 y44:AV}{y450:AV}{S:Store}{Q:PoT}(I:AV→Store→Prop)(μ:AV→Store→Nat)(h0:I y450 S)
    (hr:∀(y45:AV) (S:Store),I y45 S→∀ KE1:KeT,(∀(y45':AV) (S':Store),I y45' S'→μ y45' S'<μ y45 S→KE1 54 (env45_1 y1 y6 y44 y45') S')→b45_1 y1 y6 y44 y45 S KE1 Q):
    loopV lv45_1 (vc Pg (c45.at_ [1,1,1,1,1,1,0,1,0,0]) (ms45.drop 2)) 54 (env45_1 y1 y6 y44 y450) S (blockK 2 (seqK (vc Pg (c45.at_ [1,1,1,1,1,1,1]) (ms45.drop 2)) (bodyK Pg r45 Q))):=by
 refine⟨fun n e S=>n=54∧∃ y45:AV,e=(env45_1 y1 y6 y44 y45)∧I y45 S,fun _ e S=>μ (e.getD 3 .j) S,?_,?_⟩
 ·exact⟨_,_,Wk.refl _ _,rfl,_,rfl,h0⟩
 ·rintro _ e S ⟨rfl,y45,rfl,hI⟩
  exact(b45_1_eq _ _ _ _ _ _ _).mpr (hr y45 S hI _ (fun y45' S' hI' hm=>⟨_,_,Wk.refl _ _,⟨rfl,_,rfl,hI'⟩,hm⟩))
def c100:Code:=(Tryz.f100.body).getD .skip
def r100:List ResultVar:=Tryz.f100.results.toList
def env100_0(y1 y3:AV):List AV:=[y1,y3]
def lv100_0:List Nat:=[1,3]
def env100_1(y1 y3 y4 y5:AV):List AV:=[y1,y3,y4,y5]
def lv100_1:List Nat:=[1,3,4,5]
def ms100:List (List Nat):=[lv100_0,lv100_1,[]]
def m100(x0:AV)(S:Store)(Q:PoT):Prop:=
 boxN 29 8 x0 S fun a S=>loopV lv100_0 (vc Pg (c100.at_ [1,0,1,0,0]) (ms100.drop 1)) 85 (env100_0 a (.v (.int .i64 0))) S (blockK 0 (seqK (vc Pg (c100.at_ [1,1]) (ms100.drop 2)) (bodyK Pg r100 Q)))
theorem calls100{x0:AV}{S:Store}{Q:PoT}(h:m100 x0 S Q):ACalls Pg 100 [x0] S Q:=
 calls_of_vc (fn:=Tryz.f100) (c:=c100) (n:=85) Tryz.func100 (by kernel_rfl) (by kernel_rfl) (by kernel_rfl) ms100 (Eq.mpr (by kernel_rfl) h)
def b100_0(y1 y3:AV)(S:Store)(KE0:KeT)(Q:PoT):Prop:=
 shift y1 7 S fun c S=>ld1 c S fun d S=>lenS d S fun e S=>bin .lss 0 y3 e S fun f S=>onB f fun b=>gd b (shift y1 7 S fun g S=>ld1 g S fun h S=>ixS 64 3 h y3 S fun i S=>ldN 3 i S fun k S=>boxN 64 3 (.a [.v (.int .u8 0),.v (.int .i64 0),.v (.string ByteArray.empty)]) S fun l S=>stN 3 l k S fun m S=>(fun S0:Store=>∃ n:AV,(shift l 2 S fun o S=>o=n∧S=S0)∧∃ p:AV,(ld1 n S fun q S=>q=p∧S=S0)∧∃ r:AV,(callF Pg 113 [p] S (fun _ _=>False) fun s S=>s=r∧S=S0)∧∃ t:AV,(un .not r S fun u S=>u=t∧S=S0)∧onB t fun b=>gd b (∃ w:AV,((.v (.bool true))=w∧S=S0)∧onB w fun b=>gd b (∃ x:AV,((.v (.bool true))=x∧S=S0)∧onB x fun b=>gd b (Q (.ret (.v (.bool false))) S) (loopV lv100_1 (vc Pg (c100.at_ [1,0,1,0,0,1,0,0,1,1,0,1,0,0]) (ms100.drop 2)) 85 (env100_1 y1 y3 l (.v (.int .i64 0))) S (blockK 2 (seqK (vc Pg (c100.at_ [1,0,1,0,0,1,0,0,1,1,1]) (ms100.drop 2)) (blockK 1 (seqK (vc Pg (c100.at_ [1,0,1,0,0,1,1]) (ms100.drop 2)) (thenK (fgK lv100_0 KE0) (blockK 0 (seqK (vc Pg (c100.at_ [1,1]) (ms100.drop 2)) (bodyK Pg r100 Q)))))))))) (∃ y:AV,(shift l 1 S fun z S=>z=y∧S=S0)∧∃ A:AV,(ld1 y S fun B S=>B=A∧S=S0)∧∃ C:AV,(ldN 8 y1 S fun D S=>D=C∧S=S0)∧∃ E:AV,(shift l 0 S fun F S=>F=E∧S=S0)∧∃ G:AV,(ld1 E S fun H S=>H=G∧S=S0)∧∃ I:AV,(callF Pg 114 [C,G] S (fun _ _=>False) fun J S=>J=I∧S=S0)∧∃ K:AV,(bin .geq 0 A I S fun L S=>L=K∧S=S0)∧∃ M:AV,(K=M∧S=S0)∧onB M fun b=>gd b (Q (.ret (.v (.bool false))) S) (loopV lv100_1 (vc Pg (c100.at_ [1,0,1,0,0,1,0,0,1,1,0,1,0,0]) (ms100.drop 2)) 85 (env100_1 y1 y3 l (.v (.int .i64 0))) S (blockK 2 (seqK (vc Pg (c100.at_ [1,0,1,0,0,1,0,0,1,1,1]) (ms100.drop 2)) (blockK 1 (seqK (vc Pg (c100.at_ [1,0,1,0,0,1,1]) (ms100.drop 2)) (thenK (fgK lv100_0 KE0) (blockK 0 (seqK (vc Pg (c100.at_ [1,1]) (ms100.drop 2)) (bodyK Pg r100 Q))))))))))) (∃ N:AV,(shift l 1 S fun O S=>O=N∧S=S0)∧∃ P:AV,(ld1 N S fun R S=>R=P∧S=S0)∧∃ T:AV,(bin .lss 0 P (.v (.int .i64 0)) S fun U S=>U=T∧S=S0)∧∃ V:AV,(T=V∧S=S0)∧onB V fun b=>gd b (∃ W:AV,((.v (.bool true))=W∧S=S0)∧onB W fun b=>gd b (Q (.ret (.v (.bool false))) S) (loopV lv100_1 (vc Pg (c100.at_ [1,0,1,0,0,1,0,0,1,1,0,1,0,0]) (ms100.drop 2)) 85 (env100_1 y1 y3 l (.v (.int .i64 0))) S (blockK 2 (seqK (vc Pg (c100.at_ [1,0,1,0,0,1,0,0,1,1,1]) (ms100.drop 2)) (blockK 1 (seqK (vc Pg (c100.at_ [1,0,1,0,0,1,1]) (ms100.drop 2)) (thenK (fgK lv100_0 KE0) (blockK 0 (seqK (vc Pg (c100.at_ [1,1]) (ms100.drop 2)) (bodyK Pg r100 Q)))))))))) (∃ X:AV,(shift l 1 S fun Y S=>Y=X∧S=S0)∧∃ Z:AV,(ld1 X S fun a0 S=>a0=Z∧S=S0)∧∃ a1:AV,(ldN 8 y1 S fun a2 S=>a2=a1∧S=S0)∧∃ a3:AV,(shift l 0 S fun a4 S=>a4=a3∧S=S0)∧∃ a5:AV,(ld1 a3 S fun a6 S=>a6=a5∧S=S0)∧∃ a7:AV,(callF Pg 114 [a1,a5] S (fun _ _=>False) fun a8 S=>a8=a7∧S=S0)∧∃ a9:AV,(bin .geq 0 Z a7 S fun b0 S=>b0=a9∧S=S0)∧∃ b1:AV,(a9=b1∧S=S0)∧onB b1 fun b=>gd b (Q (.ret (.v (.bool false))) S) (loopV lv100_1 (vc Pg (c100.at_ [1,0,1,0,0,1,0,0,1,1,0,1,0,0]) (ms100.drop 2)) 85 (env100_1 y1 y3 l (.v (.int .i64 0))) S (blockK 2 (seqK (vc Pg (c100.at_ [1,0,1,0,0,1,0,0,1,1,1]) (ms100.drop 2)) (blockK 1 (seqK (vc Pg (c100.at_ [1,0,1,0,0,1,1]) (ms100.drop 2)) (thenK (fgK lv100_0 KE0) (blockK 0 (seqK (vc Pg (c100.at_ [1,1]) (ms100.drop 2)) (bodyK Pg r100 Q)))))))))))) S) (Q (.ret (.v (.bool true))) S)
theorem b100_0_eq(y1 y3:AV)(S:Store)(KE0:KeT)(Q:PoT):vc Pg (c100.at_ [1,0,1,0,0]) (ms100.drop 1) (mkE 85 lv100_0 (env100_0 y1 y3)) S (thenK (fgK lv100_0 KE0) (blockK 0 (seqK (vc Pg (c100.at_ [1,1]) (ms100.drop 2)) (bodyK Pg r100 Q))))=b100_0 y1 y3 S KE0 Q:=by kernel_rfl
theorem loop100_0{y1:AV}{y30:AV}{S:Store}{Q:PoT}(I:AV→Store→Prop)(μ:AV→Store→Nat)(h0:I y30 S)
    (hr:∀(y3:AV) (S:Store),I y3 S→∀ KE0:KeT,(∀(y3':AV) (S':Store),I y3' S'→μ y3' S'<μ y3 S→KE0 85 (env100_0 y1 y3') S')→b100_0 y1 y3 S KE0 Q):
    loopV lv100_0 (vc Pg (c100.at_ [1,0,1,0,0]) (ms100.drop 1)) 85 (env100_0 y1 y30) S (blockK 0 (seqK (vc Pg (c100.at_ [1,1]) (ms100.drop 2)) (bodyK Pg r100 Q))):=by
 refine⟨fun n e S=>n=85∧∃ y3:AV,e=(env100_0 y1 y3)∧I y3 S,fun _ e S=>μ (e.getD 1 .j) S,?_,?_⟩
 ·exact⟨_,_,Wk.refl _ _,rfl,_,rfl,h0⟩
 ·rintro _ e S ⟨rfl,y3,rfl,hI⟩
  exact(b100_0_eq _ _ _ _ _).mpr (hr y3 S hI _ (fun y3' S' hI' hm=>⟨_,_,Wk.refl _ _,⟨rfl,_,rfl,hI'⟩,hm⟩))
def b100_1(y1 y3 y4 y5:AV)(S:Store)(KE1:KeT)(KE0:KeT)(Q:PoT):Prop:=
 bin .lss 0 y5 y3 S fun a S=>onB a fun b=>gd b ((fun S0:Store=>∃ c:AV,(shift y1 7 S fun d S=>d=c∧S=S0)∧∃ e:AV,(ld1 c S fun f S=>f=e∧S=S0)∧∃ g:AV,(ixS 64 3 e y5 S fun h S=>h=g∧S=S0)∧∃ i:AV,(shift g 2 S fun k S=>k=i∧S=S0)∧∃ l:AV,(ld1 i S fun m S=>m=l∧S=S0)∧∃ n:AV,(shift y4 2 S fun o S=>o=n∧S=S0)∧∃ p:AV,(ld1 n S fun q S=>q=p∧S=S0)∧∃ r:AV,(bin .eql 0 l p S fun s S=>s=r∧S=S0)∧onB r fun b=>gd b (Q (.ret (.v (.bool false))) S) (bin .add 0 y5 (.v (.int .i64 1)) S fun t S=>KE1 85 (env100_1 y1 y3 y4 t) S)) S) (bin .gtr 0 y3 (.v (.int .i64 0)) S fun u S=>onB u fun b=>gd b ((fun S0:Store=>∃ w:AV,(shift y1 7 S fun x S=>x=w∧S=S0)∧∃ y:AV,(ld1 w S fun z S=>z=y∧S=S0)∧∃ A:AV,(bin .sub 0 y3 (.v (.int .i64 1)) S fun B S=>B=A∧S=S0)∧∃ C:AV,(ixS 64 3 y A S fun D S=>D=C∧S=S0)∧∃ E:AV,(shift C 0 S fun F S=>F=E∧S=S0)∧∃ G:AV,(ld1 E S fun H S=>H=G∧S=S0)∧∃ I:AV,(callF Pg 115 [G] S (fun _ _=>False) fun J S=>J=I∧S=S0)∧∃ K:AV,(shift y4 0 S fun L S=>L=K∧S=S0)∧∃ M:AV,(ld1 K S fun N S=>N=M∧S=S0)∧∃ O:AV,(callF Pg 115 [M] S (fun _ _=>False) fun P S=>P=O∧S=S0)∧(fun S0:Store=>∃ R:AV,(bin .gtr 0 I O S fun T S=>T=R∧S=S0)∧onB R fun b=>gd b (∃ U:AV,((.v (.bool true))=U∧S=S0)∧onB U fun b=>gd b (Q (.ret (.v (.bool false))) S) (bin .add 0 y3 (.v (.int .i64 1)) S fun V S=>KE0 85 (env100_0 y1 V) S)) (∃ W:AV,(bin .eql 0 I O S fun X S=>X=W∧S=S0)∧onB W fun b=>gd b (∃ Y:AV,(shift y1 7 S fun Z S=>Z=Y∧S=S0)∧∃ a0:AV,(ld1 Y S fun a1 S=>a1=a0∧S=S0)∧∃ a2:AV,(bin .sub 0 y3 (.v (.int .i64 1)) S fun a3 S=>a3=a2∧S=S0)∧∃ a4:AV,(ixS 64 3 a0 a2 S fun a5 S=>a5=a4∧S=S0)∧∃ a6:AV,(shift a4 1 S fun a7 S=>a7=a6∧S=S0)∧∃ a8:AV,(ld1 a6 S fun a9 S=>a9=a8∧S=S0)∧∃ b0:AV,(shift y4 1 S fun b1 S=>b1=b0∧S=S0)∧∃ b2:AV,(ld1 b0 S fun b3 S=>b3=b2∧S=S0)∧∃ b4:AV,(bin .geq 0 a8 b2 S fun b5 S=>b5=b4∧S=S0)∧∃ b6:AV,(b4=b6∧S=S0)∧∃ b7:AV,(b6=b7∧S=S0)∧onB b7 fun b=>gd b (Q (.ret (.v (.bool false))) S) (bin .add 0 y3 (.v (.int .i64 1)) S fun b8 S=>KE0 85 (env100_0 y1 b8) S)) (∃ b9:AV,((.v (.bool false))=b9∧S=S0)∧∃ c0:AV,(b9=c0∧S=S0)∧onB c0 fun b=>gd b (Q (.ret (.v (.bool false))) S) (bin .add 0 y3 (.v (.int .i64 1)) S fun c1 S=>KE0 85 (env100_0 y1 c1) S)))) S) S) (bin .add 0 y3 (.v (.int .i64 1)) S fun c2 S=>KE0 85 (env100_0 y1 c2) S))
theorem b100_1_eq(y1 y3 y4 y5:AV)(S:Store)(KE1:KeT)(KE0:KeT)(Q:PoT):vc Pg (c100.at_ [1,0,1,0,0,1,0,0,1,1,0,1,0,0]) (ms100.drop 2) (mkE 85 lv100_1 (env100_1 y1 y3 y4 y5)) S (thenK (fgK lv100_1 KE1) (blockK 2 (seqK (vc Pg (c100.at_ [1,0,1,0,0,1,0,0,1,1,1]) (ms100.drop 2)) (blockK 1 (seqK (vc Pg (c100.at_ [1,0,1,0,0,1,1]) (ms100.drop 2)) (thenK (fgK lv100_0 KE0) (blockK 0 (seqK (vc Pg (c100.at_ [1,1]) (ms100.drop 2)) (bodyK Pg r100 Q)))))))))=b100_1 y1 y3 y4 y5 S KE1 KE0 Q:=by kernel_rfl
theorem loop100_1{y1 y3 y4:AV}{y50:AV}{S:Store}{KE0:KeT}{Q:PoT}(I:AV→Store→Prop)(μ:AV→Store→Nat)(h0:I y50 S)
    (hr:∀(y5:AV) (S:Store),I y5 S→∀ KE1:KeT,(∀(y5':AV) (S':Store),I y5' S'→μ y5' S'<μ y5 S→KE1 85 (env100_1 y1 y3 y4 y5') S')→b100_1 y1 y3 y4 y5 S KE1 KE0 Q):
    loopV lv100_1 (vc Pg (c100.at_ [1,0,1,0,0,1,0,0,1,1,0,1,0,0]) (ms100.drop 2)) 85 (env100_1 y1 y3 y4 y50) S (blockK 2 (seqK (vc Pg (c100.at_ [1,0,1,0,0,1,0,0,1,1,1]) (ms100.drop 2)) (blockK 1 (seqK (vc Pg (c100.at_ [1,0,1,0,0,1,1]) (ms100.drop 2)) (thenK (fgK lv100_0 KE0) (blockK 0 (seqK (vc Pg (c100.at_ [1,1]) (ms100.drop 2)) (bodyK Pg r100 Q)))))))):=by
 refine⟨fun n e S=>n=85∧∃ y5:AV,e=(env100_1 y1 y3 y4 y5)∧I y5 S,fun _ e S=>μ (e.getD 3 .j) S,?_,?_⟩
 ·exact⟨_,_,Wk.refl _ _,rfl,_,rfl,h0⟩
 ·rintro _ e S ⟨rfl,y5,rfl,hI⟩
  exact(b100_1_eq _ _ _ _ _ _ _ _).mpr (hr y5 S hI _ (fun y5' S' hI' hm=>⟨_,_,Wk.refl _ _,⟨rfl,_,rfl,hI'⟩,hm⟩))
def c99:Code:=(Tryz.f99.body).getD .skip
def r99:List ResultVar:=Tryz.f99.results.toList
def env99_0(y1 y2 y5:AV):List AV:=[y1,y2,y5]
def lv99_0:List Nat:=[1,2,5]
def ms99:List (List Nat):=[lv99_0,[]]
def m99(x0 x1:AV)(S:Store)(Q:PoT):Prop:=
 boxN 48 2 x0 S fun a S=>loopV lv99_0 (vc Pg (c99.at_ [1,0,1,0,0]) (ms99.drop 1)) 22 (env99_0 x1 a (.v (.int .i64 0))) S (blockK 0 (seqK (vc Pg (c99.at_ [1,1]) (ms99.drop 1)) (bodyK Pg r99 Q)))
theorem calls99{x0 x1:AV}{S:Store}{Q:PoT}(h:m99 x0 x1 S Q):ACalls Pg 99 [x0,x1] S Q:=
 calls_of_vc (fn:=Tryz.f99) (c:=c99) (n:=22) Tryz.func99 (by kernel_rfl) (by kernel_rfl) (by kernel_rfl) ms99 (Eq.mpr (by kernel_rfl) h)
def b99_0(y1 y2 y5:AV)(S:Store)(KE0:KeT)(Q:PoT):Prop:=
 lenS y1 S fun a S=>bin .lss 0 y5 a S fun c S=>onB c fun b=>gd b ((fun S0:Store=>∃ d:AV,(ldN 2 y2 S fun e S=>e=d∧S=S0)∧∃ f:AV,(ixS 3 1 y1 y5 S fun g S=>g=f∧S=S0)∧∃ h:AV,(ld1 f S fun i S=>i=h∧S=S0)∧∃ k:AV,(callF Pg 77 [d,h] S (fun _ _=>False) fun l S=>l=k∧S=S0)∧∃ m:AV,(un .not k S fun n S=>n=m∧S=S0)∧onB m fun b=>gd b (Q (.ret (.v (.bool false))) S) (bin .add 0 y5 (.v (.int .i64 1)) S fun o S=>KE0 22 (env99_0 y1 y2 o) S)) S) (lenS y1 S fun p S=>bin .leq 0 p (.v (.int .i64 2000)) S fun q S=>Q (.ret q) S)
theorem b99_0_eq(y1 y2 y5:AV)(S:Store)(KE0:KeT)(Q:PoT):vc Pg (c99.at_ [1,0,1,0,0]) (ms99.drop 1) (mkE 22 lv99_0 (env99_0 y1 y2 y5)) S (thenK (fgK lv99_0 KE0) (blockK 0 (seqK (vc Pg (c99.at_ [1,1]) (ms99.drop 1)) (bodyK Pg r99 Q))))=b99_0 y1 y2 y5 S KE0 Q:=by kernel_rfl
theorem loop99_0{y1 y2:AV}{y50:AV}{S:Store}{Q:PoT}(I:AV→Store→Prop)(μ:AV→Store→Nat)(h0:I y50 S)
    (hr:∀(y5:AV) (S:Store),I y5 S→∀ KE0:KeT,(∀(y5':AV) (S':Store),I y5' S'→μ y5' S'<μ y5 S→KE0 22 (env99_0 y1 y2 y5') S')→b99_0 y1 y2 y5 S KE0 Q):
    loopV lv99_0 (vc Pg (c99.at_ [1,0,1,0,0]) (ms99.drop 1)) 22 (env99_0 y1 y2 y50) S (blockK 0 (seqK (vc Pg (c99.at_ [1,1]) (ms99.drop 1)) (bodyK Pg r99 Q))):=by
 refine⟨fun n e S=>n=22∧∃ y5:AV,e=(env99_0 y1 y2 y5)∧I y5 S,fun _ e S=>μ (e.getD 2 .j) S,?_,?_⟩
 ·exact⟨_,_,Wk.refl _ _,rfl,_,rfl,h0⟩
 ·rintro _ e S ⟨rfl,y5,rfl,hI⟩
  exact(b99_0_eq _ _ _ _ _ _).mpr (hr y5 S hI _ (fun y5' S' hI' hm=>⟨_,_,Wk.refl _ _,⟨rfl,_,rfl,hI'⟩,hm⟩))
def c85:Code:=(Tryz.f85.body).getD .skip
def r85:List ResultVar:=Tryz.f85.results.toList
def env85_0(y1 y3 y4 y12 y13 y14:AV):List AV:=[y1,y3,y4,y12,y13,y14]
def lv85_0:List Nat:=[1,3,4,12,13,14]
def ms85:List (List Nat):=[lv85_0,[]]
def m85(x0:AV)(S:Store)(Q:PoT):Prop:=
 boxN 29 8 x0 S fun a S=>ldN 8 a S fun c S=>callF Pg 79 [c] S Q fun d S=>mkM .s S fun e S=>shift a 7 S fun f S=>ld1 f S fun g S=>lenS g S fun h S=>loopV lv85_0 (vc Pg (c85.at_ [1,1,1,0,1,0,0]) (ms85.drop 1)) 78 (env85_0 a d e g h (.v (.int .i64 0))) S (blockK 0 (seqK (vc Pg (c85.at_ [1,1,1,1]) (ms85.drop 1)) (bodyK Pg r85 Q)))
theorem calls85{x0:AV}{S:Store}{Q:PoT}(h:m85 x0 S Q):ACalls Pg 85 [x0] S Q:=
 calls_of_vc (fn:=Tryz.f85) (c:=c85) (n:=78) Tryz.func85 (by kernel_rfl) (by kernel_rfl) (by kernel_rfl) ms85 (Eq.mpr (by kernel_rfl) h)
def b85_0(y1 y3 y4 y12 y13 y14:AV)(S:Store)(KE0:KeT)(Q:PoT):Prop:=
 bin .lss 0 y14 y13 S fun c S=>onB c fun b=>gd b (ixS 64 3 y12 y14 S fun d S=>ldN 3 d S fun e S=>boxN 64 3 (.a [.v (.int .u8 0),.v (.int .i64 0),.v (.string ByteArray.empty)]) S fun f S=>stN 3 f e S fun g S=>shift f 2 S fun h S=>ld1 h S fun k S=>callF Pg 107 [k] S Q fun l S=>un .not l S fun m S=>onB m fun b=>gd b (Q (.ret (.v (.bool false))) S) (shift f 0 S fun n S=>ld1 n S fun o S=>callF Pg 108 [o] S Q fun p S=>bin .lss 0 p (.v (.int .i64 0)) S fun q S=>onB q fun b=>gd b (Q (.ret (.v (.bool false))) S) (shift f 1 S fun r S=>ld1 r S fun t S=>bin .lss 0 t (.v (.int .i64 0)) S fun u S=>onB u fun b=>gd b (Q (.ret (.v (.bool false))) S) (shift f 1 S fun w S=>ld1 w S fun x S=>shift f 0 S fun y S=>ld1 y S fun z S=>convI .i32 z S fun A S=>lkM (.i .i32) (.v (.int .i64 0)) false y3 A S fun B S=>bin .geq 0 x B S fun C S=>onB C fun b=>gd b (Q (.ret (.v (.bool false))) S) (shift f 2 S fun D S=>ld1 D S fun E S=>bld [] [] [] S fun F S=>updM .s y4 E F S fun G S=>bin .eql 0 y14 (.v (.int .i64 0)) S fun H S=>onB H fun b=>gd b (bin .add 0 y14 (.v (.int .i64 1)) S fun I S=>KE0 78 (env85_0 y1 y3 y4 y12 y13 I) S) (shift y1 7 S fun J S=>ld1 J S fun K S=>bin .sub 0 y14 (.v (.int .i64 1)) S fun L S=>ixS 64 3 K L S fun M S=>ldN 3 M S fun N S=>boxN 64 3 (.a [.v (.int .u8 0),.v (.int .i64 0),.v (.string ByteArray.empty)]) S fun O S=>stN 3 O N S fun P S=>(fun S0:Store=>∃ R:AV,(shift O 0 S fun T S=>T=R∧S=S0)∧∃ U:AV,(ld1 R S fun V S=>V=U∧S=S0)∧∃ W:AV,(callF Pg 108 [U] S (fun _ _=>False) fun X S=>X=W∧S=S0)∧∃ Y:AV,(shift f 0 S fun Z S=>Z=Y∧S=S0)∧∃ a0:AV,(ld1 Y S fun a1 S=>a1=a0∧S=S0)∧∃ a2:AV,(callF Pg 108 [a0] S (fun _ _=>False) fun a3 S=>a3=a2∧S=S0)∧∃ a4:AV,(callF Pg 110 [W,a2] S (fun _ _=>False) fun a5 S=>a5=a4∧S=S0)∧∃ a6:AV,(shift O 1 S fun a7 S=>a7=a6∧S=S0)∧∃ a8:AV,(ld1 a6 S fun a9 S=>a9=a8∧S=S0)∧∃ b0:AV,(shift f 1 S fun b1 S=>b1=b0∧S=S0)∧∃ b2:AV,(ld1 b0 S fun b3 S=>b3=b2∧S=S0)∧∃ b4:AV,(callF Pg 110 [a8,b2] S (fun _ _=>False) fun b5 S=>b5=b4∧S=S0)∧∃ b6:AV,(bslN 3 1 2 [.v (.int .i64 0)] [(0,a4),(1,b4)] S fun b7 S=>b7=b6∧S=S0)∧∃ b8:AV,(callF Pg 109 [b6] S (fun _ _=>False) fun c0 S=>c0=b8∧S=S0)∧∃ c1:AV,(bin .geq 0 b8 (.v (.int .i64 0)) S fun c2 S=>c2=c1∧S=S0)∧onB c1 fun b=>gd b (Q (.ret (.v (.bool false))) S) (bin .add 0 y14 (.v (.int .i64 1)) S fun c3 S=>KE0 78 (env85_0 y1 y3 y4 y12 y13 c3) S)) S)))))) (lenM y4 S fun c4 S=>shift y1 7 S fun c5 S=>ld1 c5 S fun c6 S=>lenS c6 S fun c7 S=>bin .eql 0 c4 c7 S fun c8 S=>Q (.ret c8) S)
theorem b85_0_eq(y1 y3 y4 y12 y13 y14:AV)(S:Store)(KE0:KeT)(Q:PoT):vc Pg (c85.at_ [1,1,1,0,1,0,0]) (ms85.drop 1) (mkE 78 lv85_0 (env85_0 y1 y3 y4 y12 y13 y14)) S (thenK (fgK lv85_0 KE0) (blockK 0 (seqK (vc Pg (c85.at_ [1,1,1,1]) (ms85.drop 1)) (bodyK Pg r85 Q))))=b85_0 y1 y3 y4 y12 y13 y14 S KE0 Q:=by kernel_rfl
theorem loop85_0{y1 y3 y4 y12 y13:AV}{y140:AV}{S:Store}{Q:PoT}(I:AV→Store→Prop)(μ:AV→Store→Nat)(h0:I y140 S)
    (hr:∀(y14:AV) (S:Store),I y14 S→∀ KE0:KeT,(∀(y14':AV) (S':Store),I y14' S'→μ y14' S'<μ y14 S→KE0 78 (env85_0 y1 y3 y4 y12 y13 y14') S')→b85_0 y1 y3 y4 y12 y13 y14 S KE0 Q):
    loopV lv85_0 (vc Pg (c85.at_ [1,1,1,0,1,0,0]) (ms85.drop 1)) 78 (env85_0 y1 y3 y4 y12 y13 y140) S (blockK 0 (seqK (vc Pg (c85.at_ [1,1,1,1]) (ms85.drop 1)) (bodyK Pg r85 Q))):=by
 refine⟨fun n e S=>n=78∧∃ y14:AV,e=(env85_0 y1 y3 y4 y12 y13 y14)∧I y14 S,fun _ e S=>μ (e.getD 5 .j) S,?_,?_⟩
 ·exact⟨_,_,Wk.refl _ _,rfl,_,rfl,h0⟩
 ·rintro _ e S ⟨rfl,y14,rfl,hI⟩
  exact(b85_0_eq _ _ _ _ _ _ _ _ _).mpr (hr y14 S hI _ (fun y14' S' hI' hm=>⟨_,_,Wk.refl _ _,⟨rfl,_,rfl,hI'⟩,hm⟩))
def c120:Code:=(Tryz.f120.body).getD .skip
def ms120:List (List Nat):=[[]]
def m120(x0:AV)(S:Store)(Q:PoT):Prop:=
 bin .neq 0 x0 x0 S fun a S=>Q (.ret a) S
theorem calls120{x0:AV}{S:Store}{Q:PoT}(h:m120 x0 S Q):ACalls Pg 120 [x0] S Q:=
 calls_of_vc (fn:=Tryz.f120) (c:=c120) (n:=6) Tryz.func120 (by kernel_rfl) (by kernel_rfl) (by kernel_rfl) ms120 (Eq.mpr (by kernel_rfl) h)
def c110:Code:=(Tryz.f110.body).getD .skip
def ms110:List (List Nat):=[[]]
def m110(x0 x1:AV)(S:Store)(Q:PoT):Prop:=
 callF Pg 120 [x0] S Q fun a S=>callF Pg 120 [x1] S Q fun c S=>onB a fun b=>gd b (onB c fun b=>gd b (Q (.ret (.v (.int .i64 0))) S) (Q (.ret (.v (.int .i64 (-1)))) S)) (onB c fun b=>gd b (Q (.ret (.v (.int .i64 1))) S) (bin .lss 0 x0 x1 S fun d S=>onB d fun b=>gd b (Q (.ret (.v (.int .i64 (-1)))) S) (bin .gtr 0 x0 x1 S fun e S=>onB e fun b=>gd b (Q (.ret (.v (.int .i64 1))) S) (Q (.ret (.v (.int .i64 0))) S))))
theorem calls110{x0 x1:AV}{S:Store}{Q:PoT}(h:m110 x0 x1 S Q):ACalls Pg 110 [x0,x1] S Q:=
 calls_of_vc (fn:=Tryz.f110) (c:=c110) (n:=20) Tryz.func110 (by kernel_rfl) (by kernel_rfl) (by kernel_rfl) ms110 (Eq.mpr (by kernel_rfl) h)
def c109:Code:=(Tryz.f109.body).getD .skip
def r109:List ResultVar:=Tryz.f109.results.toList
def env109_0(y3 y6 y7 y8:AV):List AV:=[y3,y6,y7,y8]
def lv109_0:List Nat:=[3,6,7,8]
def ms109:List (List Nat):=[lv109_0,[]]
def m109(x0:AV)(S:Store)(Q:PoT):Prop:=
 lenS x0 S fun a S=>loopV lv109_0 (vc Pg (c109.at_ [1,1,0,1,0,0]) (ms109.drop 1)) 18 (env109_0 (.v (.int .i64 0)) x0 a (.v (.int .i64 0))) S (blockK 0 (seqK (vc Pg (c109.at_ [1,1,1]) (ms109.drop 1)) (bodyK Pg r109 Q)))
theorem calls109{x0:AV}{S:Store}{Q:PoT}(h:m109 x0 S Q):ACalls Pg 109 [x0] S Q:=
 calls_of_vc (fn:=Tryz.f109) (c:=c109) (n:=18) Tryz.func109 (by kernel_rfl) (by kernel_rfl) (by kernel_rfl) ms109 (Eq.mpr (by kernel_rfl) h)
def b109_0(y3 y6 y7 y8:AV)(S:Store)(KE0:KeT)(Q:PoT):Prop:=
 bin .lss 0 y8 y7 S fun a S=>onB a fun b=>gd b (ixS 3 1 y6 y8 S fun c S=>ld1 c S fun d S=>bin .neq 0 d y3 S fun e S=>onB e fun b=>gd b (Q (.ret d) S) (bin .add 0 y8 (.v (.int .i64 1)) S fun f S=>KE0 18 (env109_0 y3 y6 y7 f) S)) (Q (.ret y3) S)
theorem b109_0_eq(y3 y6 y7 y8:AV)(S:Store)(KE0:KeT)(Q:PoT):vc Pg (c109.at_ [1,1,0,1,0,0]) (ms109.drop 1) (mkE 18 lv109_0 (env109_0 y3 y6 y7 y8)) S (thenK (fgK lv109_0 KE0) (blockK 0 (seqK (vc Pg (c109.at_ [1,1,1]) (ms109.drop 1)) (bodyK Pg r109 Q))))=b109_0 y3 y6 y7 y8 S KE0 Q:=by kernel_rfl
theorem loop109_0{y3 y6 y7:AV}{y80:AV}{S:Store}{Q:PoT}(I:AV→Store→Prop)(μ:AV→Store→Nat)(h0:I y80 S)
    (hr:∀(y8:AV) (S:Store),I y8 S→∀ KE0:KeT,(∀(y8':AV) (S':Store),I y8' S'→μ y8' S'<μ y8 S→KE0 18 (env109_0 y3 y6 y7 y8') S')→b109_0 y3 y6 y7 y8 S KE0 Q):
    loopV lv109_0 (vc Pg (c109.at_ [1,1,0,1,0,0]) (ms109.drop 1)) 18 (env109_0 y3 y6 y7 y80) S (blockK 0 (seqK (vc Pg (c109.at_ [1,1,1]) (ms109.drop 1)) (bodyK Pg r109 Q))):=by
 refine⟨fun n e S=>n=18∧∃ y8:AV,e=(env109_0 y3 y6 y7 y8)∧I y8 S,fun _ e S=>μ (e.getD 3 .j) S,?_,?_⟩
 ·exact⟨_,_,Wk.refl _ _,rfl,_,rfl,h0⟩
 ·rintro _ e S ⟨rfl,y8,rfl,hI⟩
  exact(b109_0_eq _ _ _ _ _ _ _).mpr (hr y8 S hI _ (fun y8' S' hI' hm=>⟨_,_,Wk.refl _ _,⟨rfl,_,rfl,hI'⟩,hm⟩))
def c44:Code:=(Tryz.f44.body).getD .skip
def ms44:List (List Nat):=[[]]
def m44(x0:AV)(S:Store)(Q:PoT):Prop:=
 boxN 29 8 x0 S fun c S=>boxN 48 2 (.a [.v (.int .i64 0),.nl]) S fun d S=>shift c 0 S fun e S=>ld1 e S fun f S=>shift c 1 S fun g S=>ld1 g S fun h S=>lenS h S fun i S=>bin .add 0 f i S fun k S=>shift c 2 S fun l S=>ld1 l S fun m S=>bld [(0,1),(1,1)] [.v (.int .i64 0),.nl] [(0,k),(1,m)] S fun n S=>stN 2 d n S fun o S=>ldN 2 d S fun p _=>Q (.ret p) S
theorem calls44{x0:AV}{S:Store}{Q:PoT}(h:m44 x0 S Q):ACalls Pg 44 [x0] S Q:=
 calls_of_vc (fn:=Tryz.f44) (c:=c44) (n:=12) Tryz.func44 (by kernel_rfl) (by kernel_rfl) (by kernel_rfl) ms44 (Eq.mpr (by kernel_rfl) h)
def c12:Code:=(Tryz.f12.body).getD .skip
def ms12:List (List Nat):=[[]]
def m12(x0:AV)(S:Store)(Q:PoT):Prop:=
 boxN 29 8 x0 S fun c S=>boxN 48 2 (.a [.v (.int .i64 0),.nl]) S fun d S=>shift c 0 S fun e S=>ld1 e S fun f S=>shift c 1 S fun g S=>ld1 g S fun h S=>lenS h S fun i S=>bin .add 0 f i S fun k S=>shift c 2 S fun l S=>ld1 l S fun m S=>bld [(0,1),(1,1)] [.v (.int .i64 0),.nl] [(0,k),(1,m)] S fun n S=>stN 2 d n S fun o S=>ldN 2 d S fun p _=>Q (.ret p) S
theorem calls12{x0:AV}{S:Store}{Q:PoT}(h:m12 x0 S Q):ACalls Pg 12 [x0] S Q:=
 calls_of_vc (fn:=Tryz.f12) (c:=c12) (n:=12) Tryz.func12 (by kernel_rfl) (by kernel_rfl) (by kernel_rfl) ms12 (Eq.mpr (by kernel_rfl) h)
def c79:Code:=(Tryz.f79.body).getD .skip
def ms79:List (List Nat):=[[]]
def m79(x0:AV)(S:Store)(Q:PoT):Prop:=
 boxN 29 8 x0 S fun a S=>mkM (.i .i32) S fun c S=>shift a 0 S fun d S=>ld1 d S fun e S=>updM (.i .i32) c (.v (.int .i32 105)) e S fun f S=>shift a 1 S fun g S=>ld1 g S fun h S=>lenS h S fun k S=>updM (.i .i32) c (.v (.int .i32 108)) k S fun l S=>shift a 3 S fun m S=>ld1 m S fun n S=>lenS n S fun o S=>updM (.i .i32) c (.v (.int .i32 111)) o S fun p S=>shift a 4 S fun q S=>ld1 q S fun r S=>lenS r S fun s S=>updM (.i .i32) c (.v (.int .i32 98)) s S fun t S=>shift a 5 S fun u S=>ld1 u S fun w S=>lenS w S fun x S=>updM (.i .i32) c (.v (.int .i32 99)) x S fun y S=>shift a 6 S fun z S=>ld1 z S fun A S=>lenS A S fun B S=>updM (.i .i32) c (.v (.int .i32 102)) B S fun C S=>Q (.ret c) S
theorem calls79{x0:AV}{S:Store}{Q:PoT}(h:m79 x0 S Q):ACalls Pg 79 [x0] S Q:=
 calls_of_vc (fn:=Tryz.f79) (c:=c79) (n:=22) Tryz.func79 (by kernel_rfl) (by kernel_rfl) (by kernel_rfl) ms79 (Eq.mpr (by kernel_rfl) h)
def c114:Code:=(Tryz.f114.body).getD .skip
def ms114:List (List Nat):=[[]]
def m114(x0 x1:AV)(S:Store)(Q:PoT):Prop:=
 boxN 29 8 x0 S fun a S=>callF Pg 115 [x1] S Q fun c S=>bin .lss 0 c (.v (.int .i64 0)) S fun d S=>onB d fun b=>gd b (Q (.ret (.v (.int .i64 0))) S) (shift a 0 S fun e S=>ld1 e S fun f S=>shift a 1 S fun g S=>ld1 g S fun h S=>lenS h S fun i S=>shift a 3 S fun k S=>ld1 k S fun l S=>lenS l S fun m S=>shift a 4 S fun n S=>ld1 n S fun o S=>lenS o S fun p S=>shift a 5 S fun q S=>ld1 q S fun r S=>lenS r S fun s S=>shift a 6 S fun t S=>ld1 t S fun u S=>lenS u S fun w S=>bslN 3 1 6 [.v (.int .i64 0)] [(0,f),(1,i),(2,m),(3,p),(4,s),(5,w)] S fun x S=>ixS 3 1 x c S fun y S=>ld1 y S fun z S=>Q (.ret z) S)
theorem calls114{x0 x1:AV}{S:Store}{Q:PoT}(h:m114 x0 x1 S Q):ACalls Pg 114 [x0,x1] S Q:=
 calls_of_vc (fn:=Tryz.f114) (c:=c114) (n:=31) Tryz.func114 (by kernel_rfl) (by kernel_rfl) (by kernel_rfl) ms114 (Eq.mpr (by kernel_rfl) h)
def c113:Code:=(Tryz.f113.body).getD .skip
def r113:List ResultVar:=Tryz.f113.results.toList
def env113_0(y0 y3:AV):List AV:=[y0,y3]
def lv113_0:List Nat:=[0,3]
def ms113:List (List Nat):=[lv113_0,[]]
def m113(x0:AV)(S:Store)(Q:PoT):Prop:=
 loopV lv113_0 (vc Pg (c113.at_ [1,0,1,0,0]) (ms113.drop 1)) 28 (env113_0 x0 (.v (.int .i64 0))) S (blockK 0 (seqK (vc Pg (c113.at_ [1,1]) (ms113.drop 1)) (bodyK Pg r113 Q)))
theorem calls113{x0:AV}{S:Store}{Q:PoT}(h:m113 x0 S Q):ACalls Pg 113 [x0] S Q:=
 calls_of_vc (fn:=Tryz.f113) (c:=c113) (n:=28) Tryz.func113 (by kernel_rfl) (by kernel_rfl) (by kernel_rfl) ms113 (Eq.mpr (by kernel_rfl) h)
def b113_0(y0 y3:AV)(S:Store)(KE0:KeT)(Q:PoT):Prop:=
 lenStr y0 S fun a S=>bin .lss 0 y3 a S fun c S=>onB c fun b=>gd b (ixStr y0 y3 S fun d S=>bin .lss 0 d (.v (.int .u8 33)) S fun e S=>onB e fun b=>gd b (Q (.ret (.v (.bool false))) S) (ixStr y0 y3 S fun f S=>bin .gtr 0 f (.v (.int .u8 126)) S fun g S=>onB g fun b=>gd b (Q (.ret (.v (.bool false))) S) (bin .add 0 y3 (.v (.int .i64 1)) S fun h S=>KE0 28 (env113_0 y0 h) S))) (lenStr y0 S fun i S=>bin .gtr 0 i (.v (.int .i64 0)) S fun k S=>onB k fun b=>gd b (lenStr y0 S fun l S=>bin .leq 0 l (.v (.int .i64 20)) S fun m S=>Q (.ret m) S) (Q (.ret (.v (.bool false))) S))
theorem b113_0_eq(y0 y3:AV)(S:Store)(KE0:KeT)(Q:PoT):vc Pg (c113.at_ [1,0,1,0,0]) (ms113.drop 1) (mkE 28 lv113_0 (env113_0 y0 y3)) S (thenK (fgK lv113_0 KE0) (blockK 0 (seqK (vc Pg (c113.at_ [1,1]) (ms113.drop 1)) (bodyK Pg r113 Q))))=b113_0 y0 y3 S KE0 Q:=by kernel_rfl
theorem loop113_0{y0:AV}{y30:AV}{S:Store}{Q:PoT}(I:AV→Store→Prop)(μ:AV→Store→Nat)(h0:I y30 S)
    (hr:∀(y3:AV) (S:Store),I y3 S→∀ KE0:KeT,(∀(y3':AV) (S':Store),I y3' S'→μ y3' S'<μ y3 S→KE0 28 (env113_0 y0 y3') S')→b113_0 y0 y3 S KE0 Q):
    loopV lv113_0 (vc Pg (c113.at_ [1,0,1,0,0]) (ms113.drop 1)) 28 (env113_0 y0 y30) S (blockK 0 (seqK (vc Pg (c113.at_ [1,1]) (ms113.drop 1)) (bodyK Pg r113 Q))):=by
 refine⟨fun n e S=>n=28∧∃ y3:AV,e=(env113_0 y0 y3)∧I y3 S,fun _ e S=>μ (e.getD 1 .j) S,?_,?_⟩
 ·exact⟨_,_,Wk.refl _ _,rfl,_,rfl,h0⟩
 ·rintro _ e S ⟨rfl,y3,rfl,hI⟩
  exact(b113_0_eq _ _ _ _ _).mpr (hr y3 S hI _ (fun y3' S' hI' hm=>⟨_,_,Wk.refl _ _,⟨rfl,_,rfl,hI'⟩,hm⟩))
def c107:Code:=(Tryz.f107.body).getD .skip
def r107:List ResultVar:=Tryz.f107.results.toList
def env107_0(y0 y5 y6:AV):List AV:=[y0,y5,y6]
def lv107_0:List Nat:=[0,5,6]
def ms107:List (List Nat):=[lv107_0,[]]
def m107(x0:AV)(S:Store)(Q:PoT):Prop:=
 lenStr x0 S fun a S=>loopV lv107_0 (vc Pg (c107.at_ [1,0,1,0,0]) (ms107.drop 1)) 27 (env107_0 x0 a (.v (.int .i64 0))) S (blockK 0 (seqK (vc Pg (c107.at_ [1,1]) (ms107.drop 1)) (bodyK Pg r107 Q)))
theorem calls107{x0:AV}{S:Store}{Q:PoT}(h:m107 x0 S Q):ACalls Pg 107 [x0] S Q:=
 calls_of_vc (fn:=Tryz.f107) (c:=c107) (n:=27) Tryz.func107 (by kernel_rfl) (by kernel_rfl) (by kernel_rfl) ms107 (Eq.mpr (by kernel_rfl) h)
def b107_0(y0 y5 y6:AV)(S:Store)(KE0:KeT)(Q:PoT):Prop:=
 bin .lss 0 y6 y5 S fun a S=>onB a fun b=>gd b (ixStr y0 y6 S fun c S=>bin .leq 0 c (.v (.int .u8 32)) S fun d S=>onB d fun b=>gd b (Q (.ret (.v (.bool false))) S) (ixStr y0 y6 S fun e S=>bin .gtr 0 e (.v (.int .u8 126)) S fun f S=>onB f fun b=>gd b (Q (.ret (.v (.bool false))) S) (bin .add 0 y6 (.v (.int .i64 1)) S fun g S=>KE0 27 (env107_0 y0 y5 g) S))) (bin .neq 0 y0 (.v (.string { data:=#[] })) S fun h S=>onB h fun b=>gd b (lenStr y0 S fun i S=>bin .leq 0 i (.v (.int .i64 20)) S fun k S=>Q (.ret k) S) (Q (.ret (.v (.bool false))) S))
theorem b107_0_eq(y0 y5 y6:AV)(S:Store)(KE0:KeT)(Q:PoT):vc Pg (c107.at_ [1,0,1,0,0]) (ms107.drop 1) (mkE 27 lv107_0 (env107_0 y0 y5 y6)) S (thenK (fgK lv107_0 KE0) (blockK 0 (seqK (vc Pg (c107.at_ [1,1]) (ms107.drop 1)) (bodyK Pg r107 Q))))=b107_0 y0 y5 y6 S KE0 Q:=by kernel_rfl
theorem loop107_0{y0 y5:AV}{y60:AV}{S:Store}{Q:PoT}(I:AV→Store→Prop)(μ:AV→Store→Nat)(h0:I y60 S)
    (hr:∀(y6:AV) (S:Store),I y6 S→∀ KE0:KeT,(∀(y6':AV) (S':Store),I y6' S'→μ y6' S'<μ y6 S→KE0 27 (env107_0 y0 y5 y6') S')→b107_0 y0 y5 y6 S KE0 Q):
    loopV lv107_0 (vc Pg (c107.at_ [1,0,1,0,0]) (ms107.drop 1)) 27 (env107_0 y0 y5 y60) S (blockK 0 (seqK (vc Pg (c107.at_ [1,1]) (ms107.drop 1)) (bodyK Pg r107 Q))):=by
 refine⟨fun n e S=>n=27∧∃ y6:AV,e=(env107_0 y0 y5 y6)∧I y6 S,fun _ e S=>μ (e.getD 2 .j) S,?_,?_⟩
 ·exact⟨_,_,Wk.refl _ _,rfl,_,rfl,h0⟩
 ·rintro _ e S ⟨rfl,y6,rfl,hI⟩
  exact(b107_0_eq _ _ _ _ _ _).mpr (hr y6 S hI _ (fun y6' S' hI' hm=>⟨_,_,Wk.refl _ _,⟨rfl,_,rfl,hI'⟩,hm⟩))
def c115:Code:=(Tryz.f115.body).getD .skip
def r115:List ResultVar:=Tryz.f115.results.toList
def env115_0(y0 y3 y4:AV):List AV:=[y0,y3,y4]
def lv115_0:List Nat:=[0,3,4]
def ms115:List (List Nat):=[lv115_0,[]]
def m115(x0:AV)(S:Store)(Q:PoT):Prop:=
 loopV lv115_0 (vc Pg (c115.at_ [1,1,0,1,0,0]) (ms115.drop 1)) 17 (env115_0 x0 (.v (.string { data:=#[105,108,111,98,99,102] })) (.v (.int .i64 0))) S (blockK 0 (seqK (vc Pg (c115.at_ [1,1,1]) (ms115.drop 1)) (bodyK Pg r115 Q)))
theorem calls115{x0:AV}{S:Store}{Q:PoT}(h:m115 x0 S Q):ACalls Pg 115 [x0] S Q:=
 calls_of_vc (fn:=Tryz.f115) (c:=c115) (n:=17) Tryz.func115 (by kernel_rfl) (by kernel_rfl) (by kernel_rfl) ms115 (Eq.mpr (by kernel_rfl) h)
def b115_0(y0 y3 y4:AV)(S:Store)(KE0:KeT)(Q:PoT):Prop:=
 lenStr y3 S fun a S=>bin .lss 0 y4 a S fun c S=>onB c fun b=>gd b (ixStr y3 y4 S fun d S=>bin .eql 0 d y0 S fun e S=>onB e fun b=>gd b (Q (.ret y4) S) (bin .add 0 y4 (.v (.int .i64 1)) S fun f S=>KE0 17 (env115_0 y0 y3 f) S)) (Q (.ret (.v (.int .i64 (-1)))) S)
theorem b115_0_eq(y0 y3 y4:AV)(S:Store)(KE0:KeT)(Q:PoT):vc Pg (c115.at_ [1,1,0,1,0,0]) (ms115.drop 1) (mkE 17 lv115_0 (env115_0 y0 y3 y4)) S (thenK (fgK lv115_0 KE0) (blockK 0 (seqK (vc Pg (c115.at_ [1,1,1]) (ms115.drop 1)) (bodyK Pg r115 Q))))=b115_0 y0 y3 y4 S KE0 Q:=by kernel_rfl
theorem loop115_0{y0 y3:AV}{y40:AV}{S:Store}{Q:PoT}(I:AV→Store→Prop)(μ:AV→Store→Nat)(h0:I y40 S)
    (hr:∀(y4:AV) (S:Store),I y4 S→∀ KE0:KeT,(∀(y4':AV) (S':Store),I y4' S'→μ y4' S'<μ y4 S→KE0 17 (env115_0 y0 y3 y4') S')→b115_0 y0 y3 y4 S KE0 Q):
    loopV lv115_0 (vc Pg (c115.at_ [1,1,0,1,0,0]) (ms115.drop 1)) 17 (env115_0 y0 y3 y40) S (blockK 0 (seqK (vc Pg (c115.at_ [1,1,1]) (ms115.drop 1)) (bodyK Pg r115 Q))):=by
 refine⟨fun n e S=>n=17∧∃ y4:AV,e=(env115_0 y0 y3 y4)∧I y4 S,fun _ e S=>μ (e.getD 2 .j) S,?_,?_⟩
 ·exact⟨_,_,Wk.refl _ _,rfl,_,rfl,h0⟩
 ·rintro _ e S ⟨rfl,y4,rfl,hI⟩
  exact(b115_0_eq _ _ _ _ _ _).mpr (hr y4 S hI _ (fun y4' S' hI' hm=>⟨_,_,Wk.refl _ _,⟨rfl,_,rfl,hI'⟩,hm⟩))
def c108:Code:=(Tryz.f108.body).getD .skip
def r108:List ResultVar:=Tryz.f108.results.toList
def env108_0(y0 y5:AV):List AV:=[y0,y5]
def lv108_0:List Nat:=[0,5]
def ms108:List (List Nat):=[lv108_0,[]]
def m108(x0:AV)(S:Store)(Q:PoT):Prop:=
 rngS (.v (.string { data:=#[105,108,111,98,99,102] })) S fun a S=>loopV lv108_0 (vc Pg (c108.at_ [1,0,1,0,0]) (ms108.drop 1)) 15 (env108_0 x0 a) S (blockK 0 (seqK (vc Pg (c108.at_ [1,1]) (ms108.drop 1)) (bodyK Pg r108 Q)))
theorem calls108{x0:AV}{S:Store}{Q:PoT}(h:m108 x0 S Q):ACalls Pg 108 [x0] S Q:=
 calls_of_vc (fn:=Tryz.f108) (c:=c108) (n:=15) Tryz.func108 (by kernel_rfl) (by kernel_rfl) (by kernel_rfl) ms108 (Eq.mpr (by kernel_rfl) h)
def b108_0(y0 y5:AV)(S:Store)(KE0:KeT)(Q:PoT):Prop:=
 nextM true y5 S fun a S=>extr a 0 S fun c S=>onB c fun b=>gd b (extr a 1 S fun d S=>extr a 2 S fun e S=>convI .i32 y0 S fun f S=>bin .eql 0 f e S fun g S=>onB g fun b=>gd b (Q (.ret d) S) (KE0 15 (env108_0 y0 y5) S)) (Q (.ret (.v (.int .i64 (-1)))) S)
theorem b108_0_eq(y0 y5:AV)(S:Store)(KE0:KeT)(Q:PoT):vc Pg (c108.at_ [1,0,1,0,0]) (ms108.drop 1) (mkE 15 lv108_0 (env108_0 y0 y5)) S (thenK (fgK lv108_0 KE0) (blockK 0 (seqK (vc Pg (c108.at_ [1,1]) (ms108.drop 1)) (bodyK Pg r108 Q))))=b108_0 y0 y5 S KE0 Q:=by kernel_rfl
theorem loop108_0{y0 y5:AV}{S:Store}{Q:PoT}(I:Store→Prop)(μ:Store→Nat)(h0:I  S)
    (hr:∀(S:Store),I  S→∀ KE0:KeT,(∀(S':Store),I  S'→μ  S'<μ  S→KE0 15 (env108_0 y0 y5) S')→b108_0 y0 y5 S KE0 Q):
    loopV lv108_0 (vc Pg (c108.at_ [1,0,1,0,0]) (ms108.drop 1)) 15 (env108_0 y0 y5) S (blockK 0 (seqK (vc Pg (c108.at_ [1,1]) (ms108.drop 1)) (bodyK Pg r108 Q))):=by
 refine⟨fun n e S=>n=15∧e=(env108_0 y0 y5)∧I  S,fun _ e S=>μ  S,?_,?_⟩
 ·exact⟨_,_,Wk.refl _ _,rfl,rfl,h0⟩
 ·rintro _ e S ⟨rfl,rfl,hI⟩
  exact(b108_0_eq _ _ _ _ _).mpr (hr  S hI _ (fun  S' hI' hm=>⟨_,_,Wk.refl _ _,⟨rfl,rfl,hI'⟩,hm⟩))
def c11:Code:=(Tryz.f11.body).getD .skip
def ms11:List (List Nat):=[[]]
def m11(x0:AV)(S:Store)(Q:PoT):Prop:=
 boxN 48 2 x0 S fun a S=>shift a 0 S fun c S=>ld1 c S fun d S=>bin .add 0 d (.v (.int .i64 1)) S fun e S=>shift a 1 S fun f S=>ld1 f S fun g S=>lenS g S fun h S=>bin .add 0 e h S fun i S=>Q (.ret i) S
theorem calls11{x0:AV}{S:Store}{Q:PoT}(h:m11 x0 S Q):ACalls Pg 11 [x0] S Q:=
 calls_of_vc (fn:=Tryz.f11) (c:=c11) (n:=10) Tryz.func11 (by kernel_rfl) (by kernel_rfl) (by kernel_rfl) ms11 (Eq.mpr (by kernel_rfl) h)
def c77:Code:=(Tryz.f77.body).getD .skip
def ms77:List (List Nat):=[[]]
def m77(x0 x1:AV)(S:Store)(Q:PoT):Prop:=
 boxN 48 2 x0 S fun a S=>shift a 0 S fun c S=>ld1 c S fun d S=>bin .geq 0 d (.v (.int .i64 0)) S fun e S=>onB e fun b=>gd b (shift a 0 S fun f S=>ld1 f S fun g S=>bin .leq 0 g (.v (.int .i64 2000)) S fun h S=>onB h fun b=>gd b (bin .geq 0 x1 (.v (.int .i64 0)) S fun i S=>onB i fun b=>gd b (bin .quo 0 x1 (.v (.int .i64 2)) S fun k S=>ldN 2 a S fun l S=>callF Pg 11 [l] S Q fun m S=>bin .lss 0 k m S fun n S=>Q (.ret n) S) (Q (.ret (.v (.bool false))) S)) (Q (.ret (.v (.bool false))) S)) (Q (.ret (.v (.bool false))) S)
theorem calls77{x0 x1:AV}{S:Store}{Q:PoT}(h:m77 x0 x1 S Q):ACalls Pg 77 [x0,x1] S Q:=
 calls_of_vc (fn:=Tryz.f77) (c:=c77) (n:=24) Tryz.func77 (by kernel_rfl) (by kernel_rfl) (by kernel_rfl) ms77 (Eq.mpr (by kernel_rfl) h)
def c76:Code:=(Tryz.f76.body).getD .skip
def r76:List ResultVar:=Tryz.f76.results.toList
def env76_0(y1 y3:AV):List AV:=[y1,y3]
def lv76_0:List Nat:=[1,3]
def env76_1(y1 y3 y6:AV):List AV:=[y1,y3,y6]
def lv76_1:List Nat:=[1,3,6]
def ms76:List (List Nat):=[lv76_0,lv76_1,[]]
def m76(x0:AV)(S:Store)(Q:PoT):Prop:=
 boxN 48 2 x0 S fun a S=>shift a 0 S fun c S=>ld1 c S fun d S=>bin .lss 0 d (.v (.int .i64 0)) S fun e S=>onB e fun b=>gd b (Q (.ret (.v (.bool false))) S) (shift a 0 S fun f S=>ld1 f S fun g S=>bin .gtr 0 g (.v (.int .i64 2000)) S fun h S=>onB h fun b=>gd b (Q (.ret (.v (.bool false))) S) (shift a 1 S fun i S=>ld1 i S fun k S=>lenS k S fun l S=>bin .gtr 0 l (.v (.int .i64 2000)) S fun m S=>onB m fun b=>gd b (Q (.ret (.v (.bool false))) S) (ldN 2 a S fun n S=>callF Pg 11 [n] S Q fun o S=>bin .gtr 0 o (.v (.int .i64 2000)) S fun p S=>onB p fun b=>gd b (Q (.ret (.v (.bool false))) S) (loopV lv76_0 (vc Pg (c76.at_ [1,1,0,1,0,0]) (ms76.drop 1)) 80 (env76_0 a (.v (.int .i64 0))) S (blockK 0 (seqK (vc Pg (c76.at_ [1,1,1]) (ms76.drop 2)) (bodyK Pg r76 Q)))))))
theorem calls76{x0:AV}{S:Store}{Q:PoT}(h:m76 x0 S Q):ACalls Pg 76 [x0] S Q:=
 calls_of_vc (fn:=Tryz.f76) (c:=c76) (n:=80) Tryz.func76 (by kernel_rfl) (by kernel_rfl) (by kernel_rfl) ms76 (Eq.mpr (by kernel_rfl) h)
def b76_0(y1 y3:AV)(S:Store)(KE0:KeT)(Q:PoT):Prop:=
 shift y1 1 S fun a S=>ld1 a S fun c S=>lenS c S fun d S=>bin .lss 0 y3 d S fun e S=>onB e fun b=>gd b ((fun S0:Store=>∃ f:AV,(shift y1 1 S fun g S=>g=f∧S=S0)∧∃ h:AV,(ld1 f S fun i S=>i=h∧S=S0)∧∃ k:AV,(ixS 96 2 h y3 S fun l S=>l=k∧S=S0)∧∃ m:AV,(ixA 2 1 k (.v (.int .i64 0)) S fun n S=>n=m∧S=S0)∧∃ o:AV,(ld1 m S fun p S=>p=o∧S=S0)∧∃ q:AV,(shift y1 1 S fun r S=>r=q∧S=S0)∧∃ s:AV,(ld1 q S fun t S=>t=s∧S=S0)∧∃ u:AV,(ixS 96 2 s y3 S fun w S=>w=u∧S=S0)∧∃ x:AV,(ixA 2 1 u (.v (.int .i64 1)) S fun y S=>y=x∧S=S0)∧∃ z:AV,(ld1 x S fun A S=>A=z∧S=S0)∧bin .lss 0 z (.v (.int .i64 2)) S fun B S=>onB B fun b=>gd b (Q (.ret (.v (.bool false))) S) (bin .quo 0 o (.v (.int .i64 2)) S fun C S=>bin .quo 0 z (.v (.int .i64 2)) S fun D S=>bin .leq 0 C D S fun E S=>onB E fun b=>gd b (Q (.ret (.v (.bool false))) S) (bin .quo 0 o (.v (.int .i64 2)) S fun F S=>shift y1 0 S fun G S=>ld1 G S fun H S=>bin .add 0 H (.v (.int .i64 1)) S fun I S=>bin .add 0 I y3 S fun J S=>bin .geq 0 F J S fun K S=>onB K fun b=>gd b (Q (.ret (.v (.bool false))) S) (loopV lv76_1 (vc Pg (c76.at_ [1,1,0,1,0,0,1,0,0,1,1,1,0,0]) (ms76.drop 2)) 80 (env76_1 y1 y3 (.v (.int .i64 0))) S (blockK 2 (blockK 1 (seqK (vc Pg (c76.at_ [1,1,0,1,0,0,1,1]) (ms76.drop 2)) (thenK (fgK lv76_0 KE0) (blockK 0 (seqK (vc Pg (c76.at_ [1,1,1]) (ms76.drop 2)) (bodyK Pg r76 Q))))))))))) S) (Q (.ret (.v (.bool true))) S)
theorem b76_0_eq(y1 y3:AV)(S:Store)(KE0:KeT)(Q:PoT):vc Pg (c76.at_ [1,1,0,1,0,0]) (ms76.drop 1) (mkE 80 lv76_0 (env76_0 y1 y3)) S (thenK (fgK lv76_0 KE0) (blockK 0 (seqK (vc Pg (c76.at_ [1,1,1]) (ms76.drop 2)) (bodyK Pg r76 Q))))=b76_0 y1 y3 S KE0 Q:=by kernel_rfl
theorem loop76_0{y1:AV}{y30:AV}{S:Store}{Q:PoT}(I:AV→Store→Prop)(μ:AV→Store→Nat)(h0:I y30 S)
    (hr:∀(y3:AV) (S:Store),I y3 S→∀ KE0:KeT,(∀(y3':AV) (S':Store),I y3' S'→μ y3' S'<μ y3 S→KE0 80 (env76_0 y1 y3') S')→b76_0 y1 y3 S KE0 Q):
    loopV lv76_0 (vc Pg (c76.at_ [1,1,0,1,0,0]) (ms76.drop 1)) 80 (env76_0 y1 y30) S (blockK 0 (seqK (vc Pg (c76.at_ [1,1,1]) (ms76.drop 2)) (bodyK Pg r76 Q))):=by
 refine⟨fun n e S=>n=80∧∃ y3:AV,e=(env76_0 y1 y3)∧I y3 S,fun _ e S=>μ (e.getD 1 .j) S,?_,?_⟩
 ·exact⟨_,_,Wk.refl _ _,rfl,_,rfl,h0⟩
 ·rintro _ e S ⟨rfl,y3,rfl,hI⟩
  exact(b76_0_eq _ _ _ _ _).mpr (hr y3 S hI _ (fun y3' S' hI' hm=>⟨_,_,Wk.refl _ _,⟨rfl,_,rfl,hI'⟩,hm⟩))
def b76_1(y1 y3 y6:AV)(S:Store)(KE1:KeT)(KE0:KeT)(Q:PoT):Prop:=
 bin .lss 0 y6 y3 S fun a S=>onB a fun b=>gd b ((fun S0:Store=>∃ c:AV,(shift y1 1 S fun d S=>d=c∧S=S0)∧∃ e:AV,(ld1 c S fun f S=>f=e∧S=S0)∧∃ g:AV,(ixS 96 2 e y6 S fun h S=>h=g∧S=S0)∧∃ i:AV,(ldN 2 g S fun k S=>k=i∧S=S0)∧∃ l:AV,(shift y1 1 S fun m S=>m=l∧S=S0)∧∃ n:AV,(ld1 l S fun o S=>o=n∧S=S0)∧∃ p:AV,(ixS 96 2 n y3 S fun q S=>q=p∧S=S0)∧∃ r:AV,(ldN 2 p S fun s S=>s=r∧S=S0)∧∃ t:AV,(binP .i64 .eql i r S fun u S=>u=t∧S=S0)∧onB t fun b=>gd b (Q (.ret (.v (.bool false))) S) (bin .add 0 y6 (.v (.int .i64 1)) S fun w S=>KE1 80 (env76_1 y1 y3 w) S)) S) (bin .add 0 y3 (.v (.int .i64 1)) S fun x S=>KE0 80 (env76_0 y1 x) S)
theorem b76_1_eq(y1 y3 y6:AV)(S:Store)(KE1:KeT)(KE0:KeT)(Q:PoT):vc Pg (c76.at_ [1,1,0,1,0,0,1,0,0,1,1,1,0,0]) (ms76.drop 2) (mkE 80 lv76_1 (env76_1 y1 y3 y6)) S (thenK (fgK lv76_1 KE1) (blockK 2 (blockK 1 (seqK (vc Pg (c76.at_ [1,1,0,1,0,0,1,1]) (ms76.drop 2)) (thenK (fgK lv76_0 KE0) (blockK 0 (seqK (vc Pg (c76.at_ [1,1,1]) (ms76.drop 2)) (bodyK Pg r76 Q))))))))=b76_1 y1 y3 y6 S KE1 KE0 Q:=by kernel_rfl
theorem loop76_1{y1 y3:AV}{y60:AV}{S:Store}{KE0:KeT}{Q:PoT}(I:AV→Store→Prop)(μ:AV→Store→Nat)(h0:I y60 S)
    (hr:∀(y6:AV) (S:Store),I y6 S→∀ KE1:KeT,(∀(y6':AV) (S':Store),I y6' S'→μ y6' S'<μ y6 S→KE1 80 (env76_1 y1 y3 y6') S')→b76_1 y1 y3 y6 S KE1 KE0 Q):
    loopV lv76_1 (vc Pg (c76.at_ [1,1,0,1,0,0,1,0,0,1,1,1,0,0]) (ms76.drop 2)) 80 (env76_1 y1 y3 y60) S (blockK 2 (blockK 1 (seqK (vc Pg (c76.at_ [1,1,0,1,0,0,1,1]) (ms76.drop 2)) (thenK (fgK lv76_0 KE0) (blockK 0 (seqK (vc Pg (c76.at_ [1,1,1]) (ms76.drop 2)) (bodyK Pg r76 Q))))))):=by
 refine⟨fun n e S=>n=80∧∃ y6:AV,e=(env76_1 y1 y3 y6)∧I y6 S,fun _ e S=>μ (e.getD 2 .j) S,?_,?_⟩
 ·exact⟨_,_,Wk.refl _ _,rfl,_,rfl,h0⟩
 ·rintro _ e S ⟨rfl,y6,rfl,hI⟩
  exact(b76_1_eq _ _ _ _ _ _ _).mpr (hr y6 S hI _ (fun y6' S' hI' hm=>⟨_,_,Wk.refl _ _,⟨rfl,_,rfl,hI'⟩,hm⟩))
def c36:Code:=(Tryz.f36.body).getD .skip
def r36:List ResultVar:=Tryz.f36.results.toList
def env36_0(y1 y2 y3 y6 y9:AV):List AV:=[y1,y2,y3,y6,y9]
def lv36_0:List Nat:=[1,2,3,6,9]
def ms36:List (List Nat):=[lv36_0,[]]
def m36(x0 x1 x2:AV)(S:Store)(Q:PoT):Prop:=
 boxN 48 2 x0 S fun c S=>boxN 48 2 (.a [.v (.int .i64 0),.nl]) S fun d S=>ldN 2 c S fun e S=>callF Pg 76 [e] S Q fun f S=>un .not f S fun g S=>onB g fun b=>gd b (bld [(0,1),(1,1)] [.v (.int .i64 0),.nl] [] S fun h S=>stN 2 d h S fun i S=>ldN 2 d S fun k _=>Q (.ret (.t [k,.v (.int .i64 0),.v (.int .i64 1)])) S) (ldN 2 c S fun l S=>callF Pg 77 [l,x1] S Q fun m S=>un .not m S fun n S=>onB n fun b=>gd b (bld [(0,1),(1,1)] [.v (.int .i64 0),.nl] [] S fun o S=>stN 2 d o S fun p S=>ldN 2 d S fun q _=>Q (.ret (.t [q,.v (.int .i64 0),.v (.int .i64 1)])) S) (ldN 2 c S fun r S=>callF Pg 77 [r,x2] S Q fun s S=>un .not s S fun u S=>onB u fun b=>gd b (bld [(0,1),(1,1)] [.v (.int .i64 0),.nl] [] S fun w S=>stN 2 d w S fun x S=>ldN 2 d S fun y _=>Q (.ret (.t [y,.v (.int .i64 0),.v (.int .i64 1)])) S) (mxI true x1 x2 S fun z S=>mxI false x1 x2 S fun A S=>bin .eql 0 A (.v (.int .i64 0)) S fun B S=>onB B fun b=>gd b (ldN 2 c S fun C S=>stN 2 d C S fun D S=>ldN 2 d S fun E _=>Q (.ret (.t [E,.v (.int .i64 0),.v (.int .i64 0)])) S) (bin .quo 0 z (.v (.int .i64 2)) S fun F S=>bin .quo 0 A (.v (.int .i64 2)) S fun G S=>bin .eql 0 F G S fun H S=>onB H fun b=>gd b (bin .neq 0 z A S fun I S=>onB I fun b=>gd b (ldN 2 c S fun J S=>stN 2 d J S fun K S=>ldN 2 d S fun L _=>Q (.ret (.t [L,.v (.int .i64 0),.v (.int .i64 0)])) S) (bin .eql 0 A (.v (.int .i64 1)) S fun M S=>onB M fun b=>gd b (ldN 2 c S fun N S=>stN 2 d N S fun O S=>ldN 2 d S fun P _=>Q (.ret (.t [P,z,.v (.int .i64 0)])) S) (bin .eql 0 z A S fun R S=>onB R fun b=>gd b (ldN 2 c S fun T S=>stN 2 d T S fun U S=>ldN 2 d S fun V _=>Q (.ret (.t [V,z,.v (.int .i64 0)])) S) (loopV lv36_0 (vc Pg (c36.at_ [1,1,1,1,0,1,0,0]) (ms36.drop 1)) 105 (env36_0 z A c d (.v (.int .i64 0))) S (blockK 1 (seqK (vc Pg (c36.at_ [1,1,1,1,1]) (ms36.drop 1)) (bodyK Pg r36 Q))))))) (bin .eql 0 A (.v (.int .i64 1)) S fun W S=>onB W fun b=>gd b (ldN 2 c S fun X S=>stN 2 d X S fun Y S=>ldN 2 d S fun Z _=>Q (.ret (.t [Z,z,.v (.int .i64 0)])) S) (bin .eql 0 z A S fun a0 S=>onB a0 fun b=>gd b (ldN 2 c S fun a1 S=>stN 2 d a1 S fun a2 S=>ldN 2 d S fun a3 _=>Q (.ret (.t [a3,z,.v (.int .i64 0)])) S) (loopV lv36_0 (vc Pg (c36.at_ [1,1,1,1,0,1,0,0]) (ms36.drop 1)) 105 (env36_0 z A c d (.v (.int .i64 0))) S (blockK 1 (seqK (vc Pg (c36.at_ [1,1,1,1,1]) (ms36.drop 1)) (bodyK Pg r36 Q))))))))))
theorem calls36{x0 x1 x2:AV}{S:Store}{Q:PoT}(h:m36 x0 x1 x2 S Q):ACalls Pg 36 [x0,x1,x2] S Q:=
 calls_of_vc (fn:=Tryz.f36) (c:=c36) (n:=105) Tryz.func36 (by kernel_rfl) (by kernel_rfl) (by kernel_rfl) ms36 (Eq.mpr (by kernel_rfl) h)
def b36_0(y1 y2 y3 y6 y9:AV)(S:Store)(KE0:KeT)(Q:PoT):Prop:=
 shift y3 1 S fun c S=>ld1 c S fun d S=>lenS d S fun e S=>bin .lss 0 y9 e S fun f S=>onB f fun b=>gd b (shift y3 1 S fun g S=>ld1 g S fun h S=>ixS 96 2 h y9 S fun i S=>ldN 2 i S fun k S=>bld [(0,1),(1,1)] [.v (.int .i64 0),.v (.int .i64 0)] [(0,y1),(1,y2)] S fun l S=>binP .i64 .eql k l S fun m S=>onB m fun b=>gd b (∃ n:AV,(∀ T:Store,Keep S T→ldN 2 y3 T fun o S=>o=n∧S=T)∧∃ p:AV,(∀ T:Store,Keep S T→shift y3 0 T fun q S=>q=p∧S=T)∧∃ r:AV,(∀ T:Store,Keep S T→ld1 p T fun s S=>s=r∧S=T)∧∃ u:AV,(∀ T:Store,Keep S T→bin .add 0 r (.v (.int .i64 1)) T fun w S=>w=u∧S=T)∧∃ x:AV,(∀ T:Store,Keep S T→bin .add 0 u y9 T fun y S=>y=x∧S=T)∧∃ z:AV,(∀ T:Store,Keep S T→bin .mul 0 (.v (.int .i64 2)) x T fun A S=>A=z∧S=T)∧stN 2 y6 n S fun B S=>(∀ T:Store,Keep S T→bin .mul 0 (.v (.int .i64 2)) x T fun C S=>C=z∧S=T)∧(∀ T:Store,Keep S T→bin .add 0 u y9 T fun D S=>D=x∧S=T)∧(∀ T:Store,Keep S T→bin .add 0 r (.v (.int .i64 1)) T fun E S=>E=u∧S=T)∧(∀ T:Store,Keep S T→ld1 p T fun F S=>F=r∧S=T)∧(∀ T:Store,Keep S T→shift y3 0 T fun G S=>G=p∧S=T)∧ldN 2 y6 S fun H _=>Q (.ret (.t [H,z,.v (.int .i64 0)])) S) (bin .add 0 y9 (.v (.int .i64 1)) S fun I S=>KE0 105 (env36_0 y1 y2 y3 y6 I) S)) (ldN 2 y3 S fun J S=>callF Pg 11 [J] S Q fun K S=>bin .geq 0 K (.v (.int .i64 2000)) S fun L S=>onB L fun b=>gd b (bld [(0,1),(1,1)] [.v (.int .i64 0),.nl] [] S fun M S=>stN 2 y6 M S fun N S=>ldN 2 y6 S fun O _=>Q (.ret (.t [O,.v (.int .i64 0),.v (.int .i64 2)])) S) (boxN 48 2 (.a [.v (.int .i64 0),.nl]) S fun P S=>shift y3 0 S fun R S=>ld1 R S fun U S=>shift P 0 S fun V S=>stN 1 V U S fun W S=>shift P 1 S fun X S=>ld1 X S fun Y S=>shift y3 1 S fun Z S=>ld1 Z S fun a0 S=>appS 96 2 16 Y a0 S fun a1 S=>bld [(0,1),(1,1)] [.v (.int .i64 0),.v (.int .i64 0)] [(0,y1),(1,y2)] S fun a2 S=>bslN 96 2 1 [.v (.int .i64 0),.v (.int .i64 0)] [(0,a2)] S fun a3 S=>appS 96 2 16 a1 a3 S fun a4 S=>shift P 1 S fun a5 S=>stN 1 a5 a4 S fun a6 S=>∃ a7:AV,(∀ T:Store,Keep S T→ldN 2 P T fun a8 S=>a8=a7∧S=T)∧∃ a9:AV,(∀ T:Store,Keep S T→ldN 2 P T fun b0 S=>b0=a9∧S=T)∧∃ b1:AV,(∀ T:Store,Keep S T→callF Pg 11 [a9] T (fun _ _=>False) fun b2 S=>b2=b1∧S=T)∧∃ b3:AV,(∀ T:Store,Keep S T→bin .mul 0 (.v (.int .i64 2)) b1 T fun b4 S=>b4=b3∧S=T)∧∃ b5:AV,(∀ T:Store,Keep S T→bin .sub 0 b3 (.v (.int .i64 2)) T fun b6 S=>b6=b5∧S=T)∧stN 2 y6 a7 S fun b7 S=>(∀ T:Store,Keep S T→bin .sub 0 b3 (.v (.int .i64 2)) T fun b8 S=>b8=b5∧S=T)∧(∀ T:Store,Keep S T→bin .mul 0 (.v (.int .i64 2)) b1 T fun b9 S=>b9=b3∧S=T)∧ldN 2 y6 S fun c0 _=>Q (.ret (.t [c0,b5,.v (.int .i64 0)])) S))
theorem b36_0_eq(y1 y2 y3 y6 y9:AV)(S:Store)(KE0:KeT)(Q:PoT):vc Pg (c36.at_ [1,1,1,1,0,1,0,0]) (ms36.drop 1) (mkE 105 lv36_0 (env36_0 y1 y2 y3 y6 y9)) S (thenK (fgK lv36_0 KE0) (blockK 1 (seqK (vc Pg (c36.at_ [1,1,1,1,1]) (ms36.drop 1)) (bodyK Pg r36 Q))))=b36_0 y1 y2 y3 y6 y9 S KE0 Q:=by kernel_rfl
theorem loop36_0{y1 y2 y3 y6:AV}{y90:AV}{S:Store}{Q:PoT}(I:AV→Store→Prop)(μ:AV→Store→Nat)(h0:I y90 S)
    (hr:∀(y9:AV) (S:Store),I y9 S→∀ KE0:KeT,(∀(y9':AV) (S':Store),I y9' S'→μ y9' S'<μ y9 S→KE0 105 (env36_0 y1 y2 y3 y6 y9') S')→b36_0 y1 y2 y3 y6 y9 S KE0 Q):
    loopV lv36_0 (vc Pg (c36.at_ [1,1,1,1,0,1,0,0]) (ms36.drop 1)) 105 (env36_0 y1 y2 y3 y6 y90) S (blockK 1 (seqK (vc Pg (c36.at_ [1,1,1,1,1]) (ms36.drop 1)) (bodyK Pg r36 Q))):=by
 refine⟨fun n e S=>n=105∧∃ y9:AV,e=(env36_0 y1 y2 y3 y6 y9)∧I y9 S,fun _ e S=>μ (e.getD 4 .j) S,?_,?_⟩
 ·exact⟨_,_,Wk.refl _ _,rfl,_,rfl,h0⟩
 ·rintro _ e S ⟨rfl,y9,rfl,hI⟩
  exact(b36_0_eq _ _ _ _ _ _ _ _).mpr (hr y9 S hI _ (fun y9' S' hI' hm=>⟨_,_,Wk.refl _ _,⟨rfl,_,rfl,hI'⟩,hm⟩))
def c124:Code:=(Tryz.f124.body).getD .skip
def r124:List ResultVar:=Tryz.f124.results.toList
def env124_0(y0 y13 y14 y15:AV):List AV:=[y0,y13,y14,y15]
def lv124_0:List Nat:=[0,13,14,15]
def ms124:List (List Nat):=[lv124_0,[]]
def m124(x0:AV)(S:Store)(Q:PoT):Prop:=
 mkM (.p .i64) S fun a S=>nilChk x0 S fun c S=>shift c 4 S fun d S=>stN 1 d a S fun e S=>nilChk x0 S fun f S=>shift f 3 S fun g S=>ld1 g S fun h S=>lenS h S fun i S=>loopV lv124_0 (vc Pg (c124.at_ [1,1,0,0]) (ms124.drop 1)) 38 (env124_0 x0 h i (.v (.int .i64 0))) S (blockK 0 (bodyK Pg r124 Q))
theorem calls124{x0:AV}{S:Store}{Q:PoT}(h:m124 x0 S Q):ACalls Pg 124 [x0] S Q:=
 calls_of_vc (fn:=Tryz.f124) (c:=c124) (n:=38) Tryz.func124 (by kernel_rfl) (by kernel_rfl) (by kernel_rfl) ms124 (Eq.mpr (by kernel_rfl) h)
def b124_0(y0 y13 y14 y15:AV)(S:Store)(KE0:KeT)(Q:PoT):Prop:=
 bin .lss 0 y15 y14 S fun c S=>onB c fun b=>gd b (ixS 96 2 y13 y15 S fun d S=>ldN 2 d S fun e S=>boxN 96 2 (.a [.v (.int .i64 0),.v (.int .i64 0)]) S fun f S=>stN 2 f e S fun g S=>(fun S0:Store=>∃ h:AV,(nilChk y0 S fun i S=>i=h∧S=S0)∧∃ k:AV,(shift h 4 S fun l S=>l=k∧S=S0)∧∃ m:AV,(ld1 k S fun n S=>n=m∧S=S0)∧∃ o:AV,(ldN 2 f S fun q S=>q=o∧S=S0)∧∃ r:AV,(lkM (.p .i64) (.v (.int .i64 0)) true m o S fun s S=>s=r∧S=S0)∧∃ u:AV,(extr r 0 S fun w S=>w=u∧S=S0)∧∃ x:AV,(extr r 1 S fun y S=>y=x∧S=S0)∧un .not x S fun z S=>onB z fun b=>gd b (∃ A:AV,(∀ T:Store,Keep S T→nilChk y0 T fun B S=>B=A∧S=T)∧∃ C:AV,(∀ T:Store,Keep S T→shift A 4 T fun D S=>D=C∧S=T)∧∃ E:AV,(∀ T:Store,Keep S T→ld1 C T fun F S=>F=E∧S=T)∧∃ G:AV,(∀ T:Store,Keep S T→ldN 2 f T fun H S=>H=G∧S=T)∧updM (.p .i64) E G y15 S fun I S=>bin .add 0 y15 (.v (.int .i64 1)) S fun J S=>KE0 38 (env124_0 y0 y13 y14 J) S) (bin .add 0 y15 (.v (.int .i64 1)) S fun K S=>KE0 38 (env124_0 y0 y13 y14 K) S)) S) (Q (.ret (.t [])) S)
theorem b124_0_eq(y0 y13 y14 y15:AV)(S:Store)(KE0:KeT)(Q:PoT):vc Pg (c124.at_ [1,1,0,0]) (ms124.drop 1) (mkE 38 lv124_0 (env124_0 y0 y13 y14 y15)) S (thenK (fgK lv124_0 KE0) (blockK 0 (bodyK Pg r124 Q)))=b124_0 y0 y13 y14 y15 S KE0 Q:=by kernel_rfl
theorem loop124_0{y0 y13 y14:AV}{y150:AV}{S:Store}{Q:PoT}(I:AV→Store→Prop)(μ:AV→Store→Nat)(h0:I y150 S)
    (hr:∀(y15:AV) (S:Store),I y15 S→∀ KE0:KeT,(∀(y15':AV) (S':Store),I y15' S'→μ y15' S'<μ y15 S→KE0 38 (env124_0 y0 y13 y14 y15') S')→b124_0 y0 y13 y14 y15 S KE0 Q):
    loopV lv124_0 (vc Pg (c124.at_ [1,1,0,0]) (ms124.drop 1)) 38 (env124_0 y0 y13 y14 y150) S (blockK 0 (bodyK Pg r124 Q)):=by
 refine⟨fun n e S=>n=38∧∃ y15:AV,e=(env124_0 y0 y13 y14 y15)∧I y15 S,fun _ e S=>μ (e.getD 3 .j) S,?_,?_⟩
 ·exact⟨_,_,Wk.refl _ _,rfl,_,rfl,h0⟩
 ·rintro _ e S ⟨rfl,y15,rfl,hI⟩
  exact(b124_0_eq _ _ _ _ _ _ _).mpr (hr y15 S hI _ (fun y15' S' hI' hm=>⟨_,_,Wk.refl _ _,⟨rfl,_,rfl,hI'⟩,hm⟩))
def c119:Code:=(Tryz.f119.body).getD .skip
def ms119:List (List Nat):=[[124,123]]
def m119(x0:AV)(S:Store)(Q:PoT):Prop:=
 nilChk x0 S fun a S=>shift a 0 S fun c S=>callF Pg 123 [c,(.f (.func 124) [x0] [])] S Q fun d S=>nilChk x0 S fun e S=>shift e 4 S fun g S=>ld1 g S fun h S=>lenM h S fun i S=>Q (.ret i) S
theorem calls119{x0:AV}{S:Store}{Q:PoT}(h:m119 x0 S Q):ACalls Pg 119 [x0] S Q:=
 calls_of_vc (fn:=Tryz.f119) (c:=c119) (n:=14) Tryz.func119 (by kernel_rfl) (by kernel_rfl) (by kernel_rfl) ms119 (Eq.mpr (by kernel_rfl) h)
def c104:Code:=(Tryz.f104.body).getD .skip
def r104:List ResultVar:=Tryz.f104.results.toList
def env104_0(y1 y2 y27 y28 y29:AV):List AV:=[y1,y2,y27,y28,y29]
def lv104_0:List Nat:=[1,2,27,28,29]
def ms104:List (List Nat):=[lv104_0,[119]]
def m104(x0 x1:AV)(S:Store)(Q:PoT):Prop:=
 boxN 48 2 x0 S fun a S=>shift a 0 S fun c S=>ld1 c S fun d S=>bin .lss 0 d (.v (.int .i64 0)) S fun e S=>onB e fun b=>gd b (Q (.ret (.v (.bool false))) S) (shift a 0 S fun f S=>ld1 f S fun g S=>bin .gtr 0 g (.v (.int .i64 2000)) S fun h S=>onB h fun b=>gd b (Q (.ret (.v (.bool false))) S) (shift a 1 S fun i S=>ld1 i S fun k S=>lenS k S fun l S=>bin .gtr 0 l (.v (.int .i64 2000)) S fun m S=>onB m fun b=>gd b (Q (.ret (.v (.bool false))) S) (ldN 2 a S fun n S=>callF Pg 87 [n] S Q fun o S=>bin .gtr 0 o (.v (.int .i64 2000)) S fun p S=>onB p fun b=>gd b (Q (.ret (.v (.bool false))) S) (shift a 1 S fun q S=>ld1 q S fun r S=>lenS r S fun s S=>loopV lv104_0 (vc Pg (c104.at_ [1,1,0,1,0,0]) (ms104.drop 1)) 49 (env104_0 x1 a r s (.v (.int .i64 0))) S (blockK 0 (seqK (vc Pg (c104.at_ [1,1,1]) (ms104.drop 1)) (bodyK Pg r104 Q)))))))
theorem calls104{x0 x1:AV}{S:Store}{Q:PoT}(h:m104 x0 x1 S Q):ACalls Pg 104 [x0,x1] S Q:=
 calls_of_vc (fn:=Tryz.f104) (c:=c104) (n:=49) Tryz.func104 (by kernel_rfl) (by kernel_rfl) (by kernel_rfl) ms104 (Eq.mpr (by kernel_rfl) h)
def b104_0(y1 y2 y27 y28 y29:AV)(S:Store)(KE0:KeT)(Q:PoT):Prop:=
 bin .lss 0 y29 y28 S fun c S=>onB c fun b=>gd b (ixS 96 2 y27 y29 S fun d S=>ldN 2 d S fun e S=>boxN 96 2 (.a [.v (.int .i64 0),.v (.int .i64 0)]) S fun f S=>stN 2 f e S fun g S=>ldN 2 f S fun h S=>shift y2 0 S fun i S=>ld1 i S fun k S=>bin .add 0 k (.v (.int .i64 1)) S fun l S=>bin .add 0 l y29 S fun m S=>callF Pg 118 [h,m] S Q fun n S=>un .not n S fun o S=>onB o fun b=>gd b (Q (.ret (.v (.bool false))) S) (bin .add 0 y29 (.v (.int .i64 1)) S fun p S=>KE0 49 (env104_0 y1 y2 y27 y28 p) S)) (∃ q:AV,(∀ T:Store,Keep S T→shift y2 1 T fun r S=>r=q∧S=T)∧∃ s:AV,(∀ T:Store,Keep S T→ld1 q T fun t S=>t=s∧S=T)∧∃ u:AV,(∀ T:Store,Keep S T→lenS s T fun w S=>w=u∧S=T)∧callF Pg 119 [y1] S Q fun x S=>(∀ T:Store,Keep S T→lenS s T fun y S=>y=u∧S=T)∧(∀ T:Store,Keep S T→ld1 q T fun z S=>z=s∧S=T)∧(∀ T:Store,Keep S T→shift y2 1 T fun A S=>A=q∧S=T)∧∃ B:AV,(∀ T:Store,Keep S T→bin .eql 0 x u T fun C S=>C=B∧S=T)∧Q (.ret B) S)
theorem b104_0_eq(y1 y2 y27 y28 y29:AV)(S:Store)(KE0:KeT)(Q:PoT):vc Pg (c104.at_ [1,1,0,1,0,0]) (ms104.drop 1) (mkE 49 lv104_0 (env104_0 y1 y2 y27 y28 y29)) S (thenK (fgK lv104_0 KE0) (blockK 0 (seqK (vc Pg (c104.at_ [1,1,1]) (ms104.drop 1)) (bodyK Pg r104 Q))))=b104_0 y1 y2 y27 y28 y29 S KE0 Q:=by kernel_rfl
theorem loop104_0{y1 y2 y27 y28:AV}{y290:AV}{S:Store}{Q:PoT}(I:AV→Store→Prop)(μ:AV→Store→Nat)(h0:I y290 S)
    (hr:∀(y29:AV) (S:Store),I y29 S→∀ KE0:KeT,(∀(y29':AV) (S':Store),I y29' S'→μ y29' S'<μ y29 S→KE0 49 (env104_0 y1 y2 y27 y28 y29') S')→b104_0 y1 y2 y27 y28 y29 S KE0 Q):
    loopV lv104_0 (vc Pg (c104.at_ [1,1,0,1,0,0]) (ms104.drop 1)) 49 (env104_0 y1 y2 y27 y28 y290) S (blockK 0 (seqK (vc Pg (c104.at_ [1,1,1]) (ms104.drop 1)) (bodyK Pg r104 Q))):=by
 refine⟨fun n e S=>n=49∧∃ y29:AV,e=(env104_0 y1 y2 y27 y28 y29)∧I y29 S,fun _ e S=>μ (e.getD 4 .j) S,?_,?_⟩
 ·exact⟨_,_,Wk.refl _ _,rfl,_,rfl,h0⟩
 ·rintro _ e S ⟨rfl,y29,rfl,hI⟩
  exact(b104_0_eq _ _ _ _ _ _ _ _).mpr (hr y29 S hI _ (fun y29' S' hI' hm=>⟨_,_,Wk.refl _ _,⟨rfl,_,rfl,hI'⟩,hm⟩))
def c82:Code:=(Tryz.f82.body).getD .skip
def ms82:List (List Nat):=[[104]]
def m82(x0:AV)(S:Store)(Q:PoT):Prop:=
 boxN 48 2 x0 S fun a S=>ldN 2 a S fun c S=>shift a 1 S fun d S=>ld1 d S fun e S=>bld [(0,3),(3,1),(4,1)] [.v (.int .u32 0),.v (.int .i32 0),.v (.int .u32 0),.nl,.v (.map none)] [(1,e)] S fun f S=>boxN 140 5 f S fun g S=>callF Pg 104 [c,g] S Q fun h S=>Q (.ret h) S
theorem calls82{x0:AV}{S:Store}{Q:PoT}(h:m82 x0 S Q):ACalls Pg 82 [x0] S Q:=
 calls_of_vc (fn:=Tryz.f82) (c:=c82) (n:=9) Tryz.func82 (by kernel_rfl) (by kernel_rfl) (by kernel_rfl) ms82 (Eq.mpr (by kernel_rfl) h)
def c87:Code:=(Tryz.f87.body).getD .skip
def ms87:List (List Nat):=[[]]
def m87(x0:AV)(S:Store)(Q:PoT):Prop:=
 boxN 48 2 x0 S fun a S=>shift a 0 S fun c S=>ld1 c S fun d S=>bin .add 0 d (.v (.int .i64 1)) S fun e S=>shift a 1 S fun f S=>ld1 f S fun g S=>lenS g S fun h S=>bin .add 0 e h S fun i S=>Q (.ret i) S
theorem calls87{x0:AV}{S:Store}{Q:PoT}(h:m87 x0 S Q):ACalls Pg 87 [x0] S Q:=
 calls_of_vc (fn:=Tryz.f87) (c:=c87) (n:=10) Tryz.func87 (by kernel_rfl) (by kernel_rfl) (by kernel_rfl) ms87 (Eq.mpr (by kernel_rfl) h)
def c118:Code:=(Tryz.f118.body).getD .skip
def ms118:List (List Nat):=[[]]
def m118(x0 x1:AV)(S:Store)(Q:PoT):Prop:=
 boxN 96 2 x0 S fun a S=>ixA 2 1 a (.v (.int .i64 1)) S fun c S=>ld1 c S fun d S=>bin .geq 0 d (.v (.int .i64 2)) S fun e S=>onB e fun b=>gd b (ixA 2 1 a (.v (.int .i64 0)) S fun f S=>ld1 f S fun g S=>bin .quo 0 g (.v (.int .i64 2)) S fun h S=>ixA 2 1 a (.v (.int .i64 1)) S fun i S=>ld1 i S fun k S=>bin .quo 0 k (.v (.int .i64 2)) S fun l S=>bin .gtr 0 h l S fun m S=>onB m fun b=>gd b (ixA 2 1 a (.v (.int .i64 0)) S fun n S=>ld1 n S fun o S=>bin .quo 0 o (.v (.int .i64 2)) S fun p S=>bin .lss 0 p x1 S fun q S=>Q (.ret q) S) (Q (.ret (.v (.bool false))) S)) (Q (.ret (.v (.bool false))) S)
theorem calls118{x0 x1:AV}{S:Store}{Q:PoT}(h:m118 x0 x1 S Q):ACalls Pg 118 [x0,x1] S Q:=
 calls_of_vc (fn:=Tryz.f118) (c:=c118) (n:=24) Tryz.func118 (by kernel_rfl) (by kernel_rfl) (by kernel_rfl) ms118 (Eq.mpr (by kernel_rfl) h)
def c48:Code:=(Tryz.f48.body).getD .skip
def ms48:List (List Nat):=[[]]
def m48(x0 x1:AV)(S:Store)(Q:PoT):Prop:=
 boxN 48 2 x0 S fun a S=>shift a 0 S fun c S=>ld1 c S fun d S=>bin .geq 0 d (.v (.int .i64 0)) S fun e S=>onB e fun b=>gd b (shift a 0 S fun f S=>ld1 f S fun g S=>bin .leq 0 g (.v (.int .i64 2000)) S fun h S=>onB h fun b=>gd b (bin .geq 0 x1 (.v (.int .i64 0)) S fun i S=>onB i fun b=>gd b (bin .quo 0 x1 (.v (.int .i64 2)) S fun k S=>ldN 2 a S fun l S=>callF Pg 87 [l] S Q fun m S=>bin .lss 0 k m S fun n S=>Q (.ret n) S) (Q (.ret (.v (.bool false))) S)) (Q (.ret (.v (.bool false))) S)) (Q (.ret (.v (.bool false))) S)
theorem calls48{x0 x1:AV}{S:Store}{Q:PoT}(h:m48 x0 x1 S Q):ACalls Pg 48 [x0,x1] S Q:=
 calls_of_vc (fn:=Tryz.f48) (c:=c48) (n:=24) Tryz.func48 (by kernel_rfl) (by kernel_rfl) (by kernel_rfl) ms48 (Eq.mpr (by kernel_rfl) h)
def c131:Code:=(Tryz.f131.body).getD .skip
def ms131:List (List Nat):=[[134]]
def m131(x0:AV)(S:Store)(Q:PoT):Prop:=
 nilChk x0 S fun a S=>shift a 0 S fun c S=>callF Pg 134 [c] S Q fun d S=>Q (.ret (.t [])) S
def c132:Code:=(Tryz.f132.body).getD .skip
def ms132:List (List Nat):=[[135]]
def m132(x0 x1:AV)(S:Store)(Q:PoT):Prop:=
 ∃ a:AV,(∀ T:Store,Keep S T→nilChk x0 T fun c S=>c=a∧S=T)∧∃ d:AV,(∀ T:Store,Keep S T→shift a 0 T fun e S=>e=d∧S=T)∧∃ f:AV,(∀ T:Store,Keep S T→callF Pg 136 [x1] T (fun _ _=>False) fun g S=>g=f∧S=T)∧callF Pg 135 [d,f] S Q fun h S=>Q (.ret (.t [])) S
def c126:Code:=(Tryz.f126.body).getD .skip
def ms126:List (List Nat):=[[]]
def m126(x0:AV)(S:Store)(Q:PoT):Prop:=
 nilChk x0 S fun a S=>shift a 0 S fun c S=>callF Pg 129 [c] S Q fun d S=>bin .neq 0 d (.v (.int .u32 0)) S fun e S=>Q (.ret e) S
theorem calls126{x0:AV}{S:Store}{Q:PoT}(h:m126 x0 S Q):ACalls Pg 126 [x0] S Q:=
 calls_of_vc (fn:=Tryz.f126) (c:=c126) (n:=8) Tryz.func126 (by kernel_rfl) (by kernel_rfl) (by kernel_rfl) ms126 (Eq.mpr (by kernel_rfl) h)
def c130:Code:=(Tryz.f130.body).getD .skip
def ms130:List (List Nat):=[[133]]
def m130(x0:AV)(S:Store)(Q:PoT):Prop:=
 nilChk x0 S fun a S=>shift a 0 S fun c S=>callF Pg 133 [c] S Q fun d S=>Q (.ret (.t [])) S
theorem calls130{x0:AV}{S:Store}{Q:PoT}(h:m130 x0 S Q):ACalls Pg 130 [x0] S Q:=
 calls_of_vc (fn:=Tryz.f130) (c:=c130) (n:=6) Tryz.func130 (by kernel_rfl) (by kernel_rfl) (by kernel_rfl) ms130 (Eq.mpr (by kernel_rfl) h)
def c133:Code:=(Tryz.f133.body).getD .skip
def ms133:List (List Nat):=[[138]]
def m133(x0:AV)(S:Store)(Q:PoT):Prop:=
 callF Pg 137 [] S Q fun a S=>nilChk x0 S fun c S=>shift c 0 S fun d S=>callF Pg 138 [d,.v (.int .i32 0),.v (.int .i32 1)] S Q fun e S=>onB e fun b=>gd b (callF Pg 139 [] S Q fun f S=>convU x0 S fun g S=>callF Pg 140 [g] S Q fun h S=>Q (.ret (.t [])) S) (callF Pg 141 [x0] S Q fun i S=>Q (.ret (.t [])) S)
theorem calls133{x0:AV}{S:Store}{Q:PoT}(h:m133 x0 S Q):ACalls Pg 133 [x0] S Q:=
 calls_of_vc (fn:=Tryz.f133) (c:=c133) (n:=13) Tryz.func133 (by kernel_rfl) (by kernel_rfl) (by kernel_rfl) ms133 (Eq.mpr (by kernel_rfl) h)
def c134:Code:=(Tryz.f134.body).getD .skip
def ms134:List (List Nat):=[[143]]
def m134(x0:AV)(S:Store)(Q:PoT):Prop:=
 nilChk x0 S fun a S=>shift a 0 S fun c S=>ld1 c S fun d S=>convU x0 S fun e S=>callF Pg 142 [e] S Q fun f S=>callF Pg 137 [] S Q fun g S=>nilChk x0 S fun h S=>shift h 0 S fun i S=>callF Pg 143 [i,.v (.int .i32 (-1))] S Q fun k S=>bin .neq 0 k (.v (.int .i32 0)) S fun l S=>onB l fun b=>gd b (callF Pg 144 [x0,k] S Q fun m S=>callF Pg 139 [] S Q fun n S=>Q (.ret (.t [])) S) (callF Pg 139 [] S Q fun o S=>Q (.ret (.t [])) S)
theorem calls134{x0:AV}{S:Store}{Q:PoT}(h:m134 x0 S Q):ACalls Pg 134 [x0] S Q:=
 calls_of_vc (fn:=Tryz.f134) (c:=c134) (n:=21) Tryz.func134 (by kernel_rfl) (by kernel_rfl) (by kernel_rfl) ms134 (Eq.mpr (by kernel_rfl) h)
def c136:Code:=(Tryz.f136.body).getD .skip
def ms136:List (List Nat):=[[]]
def m136(x0:AV)(S:Store)(Q:PoT):Prop:=
 onB x0 fun b1=>gd b1 (Q (.ret (.v (.int .u32 1))) S) (Q (.ret (.v (.int .u32 0))) S)
theorem calls136{x0:AV}{S:Store}{Q:PoT}(h:m136 x0 S Q):ACalls Pg 136 [x0] S Q:=
 calls_of_vc (fn:=Tryz.f136) (c:=c136) (n:=4) Tryz.func136 (by kernel_rfl) (by kernel_rfl) (by kernel_rfl) ms136 (Eq.mpr (by kernel_rfl) h)
def c123:Code:=(Tryz.f123.body).getD .skip
def ms123:List (List Nat):=[[127]]
def m123(x0 x1:AV)(S:Store)(Q:PoT):Prop:=
 nilChk x0 S fun a S=>shift a 0 S fun c S=>callF Pg 126 [c] S Q fun d S=>un .not d S fun e S=>onB e fun b=>gd b (callF Pg 127 [x0,x1] S Q fun f S=>Q (.ret (.t [])) S) (Q (.ret (.t [])) S)
theorem calls123{x0 x1:AV}{S:Store}{Q:PoT}(h:m123 x0 x1 S Q):ACalls Pg 123 [x0,x1] S Q:=
 calls_of_vc (fn:=Tryz.f123) (c:=c123) (n:=12) Tryz.func123 (by kernel_rfl) (by kernel_rfl) (by kernel_rfl) ms123 (Eq.mpr (by kernel_rfl) h)
end
def c127:Code:=(Tryz.f127.body).getD .skip
def r127:List ResultVar:=Tryz.f127.results.toList
def m127(x0 x1:AV)(S:Store)(Q:AEnd→Store→Prop):Prop:=
 nilChk x0 S fun v1 S=>shift v1 1 S fun v2 S=>callF Pg 130 [v2] S (fun _ _=>False) fun v3 S=>nilChk x0 S fun v4 S=>shift v4 1 S fun v5 S=>nilChk x0 S fun v6 S=>shift v6 0 S fun v7 S=>callF Pg 126 [v7] S (fun _ _=>False) fun v8 S=>un .not v8 S fun v9 S=>onB v9 fun b10 =>
  gd b10 (nilChk x0 S fun v11 S=>shift v11 0 S fun v12 S=>callV Pg x1 [] S (fun v13 S=>ADCalls Pg 132 [v12,.v (.bool true)] S fun e S=>match e with
      |.ret _=>ADCalls Pg 131 [v5] S fun e S=>match e with|.ret _=>Q (.ret (.t [])) S|.pan _=>False
      |.pan _=>False) (fun _ _=>False))
   (ADCalls Pg 131 [v5] S fun e S=>match e with|.ret _=>Q (.ret (.t [])) S|.pan _=>False)
set_option maxRecDepth 100000 in
theorem m127_eq:(fun(x0 x1:AV) (S:Store) (Q:AEnd→Store→Prop)=>vcT Pg c127 [] (ofArgs 21 [x0,x1]) S [] (bodyT Pg r127 Q))=(fun(x0 x1:AV) (S:Store) (Q:AEnd→Store→Prop)=>m127 x0 x1 S Q):=by kernel_rfl
theorem calls127{x0 x1:AV}{S:Store}{Q:AEnd→Store→Prop}(h:m127 x0 x1 S Q):ACalls Pg 127 [x0,x1] S Q:=
 calls_of_vcT (fn:=Tryz.f127) (c:=c127) (n:=21) Tryz.func127 (by kernel_rfl) (by kernel_rfl) (by kernel_rfl) [] ((congrFun (congrFun (congrFun (congrFun m127_eq x0) x1) S) Q).mpr h)
theorem dcalls131{x0:AV}{S:Store}{Q:AEnd→Store→Prop}(h:m131 x0 S Q):ADCalls Pg 131 [x0] S Q:=
 dcalls_of_vc (fn:=Tryz.f131) (c:=c131) (n:=6) Tryz.func131 (by kernel_rfl) (by kernel_rfl) (by kernel_rfl) ms131 (Eq.mpr (by kernel_rfl) h)
theorem dcalls132{x0 x1:AV}{S:Store}{Q:AEnd→Store→Prop}(h:m132 x0 x1 S Q):ADCalls Pg 132 [x0,x1] S Q:=
 dcalls_of_vc (fn:=Tryz.f132) (c:=c132) (n:=10) Tryz.func132 (by kernel_rfl) (by kernel_rfl) (by kernel_rfl) ms132 (Eq.mpr (by kernel_rfl) h)
theorem nt137:NoText Pg 137 Tryz.f137:=⟨Tryz.func137,by kernel_rfl,by kernel_rfl,by kernel_rfl⟩
theorem nt139:NoText Pg 139 Tryz.f139:=⟨Tryz.func139,by kernel_rfl,by kernel_rfl,by kernel_rfl⟩
theorem nt140:NoText Pg 140 Tryz.f140:=⟨Tryz.func140,by kernel_rfl,by kernel_rfl,by kernel_rfl⟩
theorem nt142:NoText Pg 142 Tryz.f142:=⟨Tryz.func142,by kernel_rfl,by kernel_rfl,by kernel_rfl⟩
theorem nt129:NoText Pg 129 Tryz.f129:=⟨Tryz.func129,by kernel_rfl,by kernel_rfl,by kernel_rfl⟩
theorem nt135:NoText Pg 135 Tryz.f135:=⟨Tryz.func135,by kernel_rfl,by kernel_rfl,by kernel_rfl⟩
theorem nt138:NoText Pg 138 Tryz.f138:=⟨Tryz.func138,by kernel_rfl,by kernel_rfl,by kernel_rfl⟩
theorem nt143:NoText Pg 143 Tryz.f143:=⟨Tryz.func143,by kernel_rfl,by kernel_rfl,by kernel_rfl⟩
abbrev aW32(n:Int):AV:=.v (.int .u32 n)
abbrev aS32(n:Int):AV:=.v (.int .i32 n)
section
variable {S:Store} {Q:AEnd→Store→Prop}
theorem mark137{Q:AEnd→Store→Prop}{K:AV→Store→Prop}(k:K (.t []) S):callF Pg 137 [] S Q K:=.inr (ext_mark0 nt137 .disable (by kernel_rfl) k)
theorem mark139{K:AV→Store→Prop}(k:K (.t []) S):callF Pg 139 [] S Q K:=.inr (ext_mark0 nt139 .enable (by kernel_rfl) k)
theorem mark140{K:AV→Store→Prop}{id i j:Nat}(k:K (.t []) S):callF Pg 140 [.p id i j] S Q K:=.inr (ext_mark1 nt140 .acquire (by kernel_rfl) k)
theorem mark142{K:AV→Store→Prop}{id i j:Nat}(k:K (.t []) S):callF Pg 142 [.p id i j] S Q K:=.inr (ext_mark1 nt142 .releaseMerge (by kernel_rfl) k)
end
@[simp] theorem nilChk_p(id i j:Nat)(S:Store)(K:AV→Store→Prop):nilChk (.p id i j) S K=K (.p id i j) S:=rfl
theorem upd_upd(S:Store)(id:Nat)(o o':AObj):(S.upd id o).upd id o'=S.upd id o':=by
 unfold Store.upd
 congr 1
 funext i
 by_cases h:i=id<;>simp[h]
def onceO(t:TypeId)(done st:Int)(z:AV)(c:List AV):AObj:=.cells t [aW32 done :: aS32 st :: z :: c] true
section
variable {S:Store} {Q:AEnd→Store→Prop} {id t:Nat} {done st:Int} {z:AV} {c:List AV}
theorem load_once(h:S.obj id=some (onceO t done st z c))(k:Q (.ret (aB (!decide (done=0)))) S):ACalls Pg 126 [.p id 0 0] S Q:=by
 refine calls126 ?_
 unfold m126
 rw[nilChk_p,shift_p]
 refine .inr (ext_load nt129 .u32 (by kernel_rfl) h rfl rfl ?_)
 show bin .neq 0 (aW32 done) (aW32 0) S _
 rw[bin_neq]
 exact k
theorem lock_once(h:S.obj id=some (onceO t done 0 z c))(k:Q (.ret (.t [])) (S.upd id (onceO t done 1 z c))):ACalls Pg 130 [.p id 0 1] S Q:=by
 refine calls130 ?_
 unfold m130
 rw[nilChk_p,shift_p]
 refine .inl (calls133 ?_)
 unfold m133
 refine mark137 ?_
 rw[nilChk_p,shift_p]
 refine .inr (ext_cas nt138 .i32 (by kernel_rfl) h rfl rfl ?_)
 show onB _ _
 rw[onB_v,gd_true]
 refine mark139 ⟨aS32 1,?_,mark140 k⟩
 simp[rd1,place,Store.get]
theorem unlock_once(h:S.obj id=some (onceO t done 1 z c))(k:Q (.ret (.t [])) (S.upd id (onceO t done 0 z c))):ADCalls Pg 131 [.p id 0 1] S Q:=by
 refine dcalls131 ?_
 unfold m131
 rw[nilChk_p,shift_p]
 refine .inl (calls134 ?_)
 unfold m134
 rw[nilChk_p,shift_p,ld1_p h rfl rfl]
 refine⟨aS32 1,by simp[rd1,place,Store.get,h,onceO],mark142 (mark137 ?_)⟩
 rw[nilChk_p,shift_p]
 refine .inr (ext_add nt143 .i32 (by kernel_rfl) h rfl rfl ?_)
 show bin .neq 0 (aS32 (IntKind.i32.wrap (1 + -1))) (aS32 0) _ _
 have:IntKind.i32.wrap (1 + -1)=0:=by decide
 rw[this,bin_neq,onB_v]
 simp only[decide_true,Bool.not_true,gd_false]
 exact mark139 k
theorem store_once(h:S.obj id=some (onceO t done st z c))(k:Q (.ret (.t [])) (S.upd id (onceO t 1 st z c))):ADCalls Pg 132 [.p id 0 0,aB true] S Q:=by
 refine dcalls132 ?_
 unfold m132
 have hb:∀ T,ACalls Pg 136 [aB true] T (fun e S'=>e = .ret (aW32 1)∧S'=T):=fun T=>by
  refine calls136 ?_
  unfold m136
  rw[onB_v,gd_true]
  exact⟨rfl,rfl⟩
 refine⟨.p id 0 0,fun T _=>⟨rfl,rfl⟩,.p id 0 0,fun T _=>⟨rfl,rfl⟩,aW32 1,fun T _=>callF_at (hb T) ⟨rfl,rfl⟩,?_⟩
 exact .inr (ext_store nt135 (by kernel_rfl) h rfl rfl k)
theorem do_once(h:S.obj id=some (onceO t 0 0 z c)){f:AV}(hf:callV Pg f [] (S.upd id (onceO t 0 1 z c)) (fun _ S2=>∃ c',S2.obj id=some (onceO t 0 1 z c')∧Q (.ret (.t [])) (S2.upd id (onceO t 1 0 z c'))) (fun _ _=>False)):ACalls Pg 123 [.p id 0 0,f] S Q:=by
 refine calls123 ?_
 unfold m123
 rw[nilChk_p,shift_p]
 refine .inl (load_once h ?_)
 show un .not (aB (!decide ((0:Int)=0))) S _
 rw[un_not,onB_v]
 refine .inl (calls127 ?_)
 unfold m127
 rw[nilChk_p,shift_p]
 refine .inl (lock_once h ?_)
 show nilChk _ _ _
 rw[nilChk_p,shift_p,nilChk_p,shift_p]
 refine .inl (load_once (upd_self _ _) ?_)
 show un .not (aB (!decide ((0:Int)=0))) _ _
 rw[un_not,onB_v]
 show gd true _ _
 rw[gd_true,nilChk_p,shift_p]
 refine callV_mono hf (fun v S2 h2=>?_) (fun _ _ h=>h)
 obtain⟨c',h3,h4⟩:=h2
 refine store_once h3 (unlock_once (upd_self _ _) ?_)
 show Q (.ret (.t [])) _
 rw[upd_upd]
 exact h4
end
def pL(l:List (Int × Int)):AV:=.l (l.map fun p=>[aI p.1,aI p.2])
structure Gr where
 inputs:Int
 ands:List (Int × Int)
 deriving DecidableEq
def Gr.cells(g:Gr):List AV:=[aI g.inputs,pL g.ands]
def Gr.av(g:Gr):AV:=.a g.cells
def Gr.vars(g:Gr):Int:=g.inputs+1+g.ands.length
def i64R(a:Int):Prop:=-9223372036854775808≤a∧a≤9223372036854775807
structure Gr.ok (g:Gr):Prop where
 inp:i64R g.inputs
 len:g.ands.length≤1000000
 pairs:∀ p∈g.ands,i64R p.1∧i64R p.2
def may(p:Int × Int)(v:Int):Bool:=decide (2≤p.2) && (decide (p.2.tdiv 2<p.1.tdiv 2) && decide (p.1.tdiv 2<v))
def Gr.right(g:Gr):Bool:=decide (0≤g.inputs) && (decide (g.inputs≤2000) && (decide ((g.ands.length:Int)≤2000) && (decide (g.vars≤2000) &&
 ((List.range g.ands.length).all (fun i=>may (g.ands.getD i (0,0)) (g.inputs+1+i)) && decide g.ands.Nodup))))
def Gr.lit(g:Gr)(l:Int):Bool:=decide (0≤g.inputs) && (decide (g.inputs≤2000) && (decide (0≤l) && decide (l.tdiv 2<g.vars)))
@[simp] theorem lenS_pL(l:List (Int × Int)){S:Store}{K:AV→Store→Prop}:lenS (pL l) S K=K (aI l.length) S:=by simp[pL]
theorem ixS_pL{l:List (Int × Int)}{e i:Nat}{S:Store}{K:AV→Store→Prop}(h:i<l.length):ixS e 2 (pL l) (aI i) S K=K (.q [aI l[i].1,aI l[i].2] 0) S:=by
 unfold pL
 rw[ixS_l (by simpa using h) (by simp)]
 simp
@[simp] theorem ldN_q2{u v:AV}{S:Store}{K:AV→Store→Prop}:ldN 2 (.q [u,v] 0) S K=K (.a [u,v]) S:=by simp[ldN,rdN,place]
theorem tdiv2{a:Int}(h:i64R a):-9223372036854775808≤a.tdiv 2∧a.tdiv 2≤9223372036854775807:=by
 obtain⟨h1,h2⟩:=h
 rcases Int.le_total 0 a with h|h
 ·rw[Int.tdiv_eq_ediv_of_nonneg h];omega
 ·have:a.tdiv 2 = -((-a).tdiv 2):=by rw[Int.neg_tdiv,Int.neg_neg]
  rw[this,Int.tdiv_eq_ediv_of_nonneg (by omega)];omega
theorem bin_half{a:Int}(h:i64R a){S:Store}{K:AV→Store→Prop}:bin .quo 0 (aI a) (.v (.int .i64 2)) S K=K (aI (a.tdiv 2)) S:=bin_quo (by decide) (tdiv2 h).1 (tdiv2 h).2 0
theorem ixA_p{n sz id:Nat}{z:Nat}{S:Store}{K:AV→Store→Prop}(hz:z<n):ixA n sz (.p id 0 0) (aI z) S K=K (.p id 0 (z*sz)) S:=by
 unfold ixA
 simp only[intA,optP_some,Int.toNat_natCast,shift_p,Nat.zero_add]
 exact propext ⟨fun h=>h.2,fun h=>⟨⟨by omega,by omega⟩,h⟩⟩
theorem ans87{g:Gr}(hg:g.ok)(hi:g.inputs≤1000000)(h0:0≤g.inputs):Ans Pg 87 [g.av] (aI g.vars):=by
 intro S
 have hl:=hg.len
 refine ACalls.ans_v (calls87 ?_)
 unfold m87 Gr.av
 refine boxA_of rfl fun S1 k1 n1 o1=>?_
 rw[shift_p,ld1_p o1 rfl rfl,bin_add (by omega) (by omega),shift_p,ld1_p o1 rfl rfl,lenS_pL,bin_add (by omega) (by omega)]
 exact⟨rfl,k1⟩
theorem ans118{p:Int × Int}{v:Int}(h:i64R p.1∧i64R p.2):Ans Pg 118 [.a [aI p.1,aI p.2],aI v] (aB (may p v)):=by
 intro S
 refine ACalls.ans_v (calls118 ?_)
 unfold m118 may
 refine boxA_of rfl fun S1 k1 n1 o1=>?_
 have e1:∀ K:AV→Store→Prop,ixA 2 1 (.p S.n 0 0) (.v (.int .i64 1)) S1 K=K (.p S.n 0 1) S1:=fun K=>ixA_p (z:=1) (by decide)
 have e0:∀ K:AV→Store→Prop,ixA 2 1 (.p S.n 0 0) (.v (.int .i64 0)) S1 K=K (.p S.n 0 0) S1:=fun K=>ixA_p (z:=0) (by decide)
 rw[e1,ld1_p o1 rfl rfl,bin_geq,onB_v]
 refine gd_of (fun h1=>?_) (fun h1=>⟨by simp only[h1,Bool.false_and],k1⟩)
 rw[e0,ld1_p o1 rfl rfl,bin_half h.1,e1,ld1_p o1 rfl rfl,bin_half h.2,bin_gtr,onB_v]
 refine gd_of (fun h2=>?_) (fun h2=>⟨by simp only[h1,h2,Bool.false_and,Bool.true_and],k1⟩)
 rw[e0,ld1_p o1 rfl rfl,bin_half h.1,bin_lss]
 exact⟨by simp only[h1,h2,Bool.true_and],k1⟩
theorem ans48{g:Gr}{l:Int}(hg:g.ok)(hl:i64R l):Ans Pg 48 [g.av,aI l] (aB (g.lit l)):=by
 intro S
 refine ACalls.ans_v (calls48 ?_)
 unfold m48 Gr.av Gr.lit
 refine boxA_of rfl fun S1 k1 n1 o1=>?_
 rw[shift_p,ld1_p o1 rfl rfl,bin_geq,onB_v]
 refine gd_of (fun h1=>?_) (fun h1=>⟨by simp only[h1,Bool.false_and],k1⟩)
 rw[shift_p,ld1_p o1 rfl rfl,bin_leq,onB_v]
 refine gd_of (fun h2=>?_) (fun h2=>⟨by simp only[h1,h2,Bool.false_and,Bool.true_and],k1⟩)
 rw[bin_geq,onB_v]
 refine gd_of (fun h3=>?_) (fun h3=>⟨by simp only[h1,h2,h3,Bool.false_and,Bool.true_and],k1⟩)
 rw[bin_half hl,ldN_p (n:=2) o1 rfl]
 refine callF_ans (ans87 hg (by have:=dT h2;omega) (dT h1)) ?_
 rw[bin_lss]
 exact⟨by simp only[h1,h2,h3,Bool.true_and],k1⟩
def gat(l:List (Int × Int)):Nat→List (Key × AV)
 |0=>[]
 |i+1=>match kix (gat l i) (.p (l.getD i (0,0)).1 (l.getD i (0,0)).2)with
  |some _=>gat l i
  |none=>gat l i ++ [(.p (l.getD i (0,0)).1 (l.getD i (0,0)).2,aI i)]
theorem kix_none{es:List (Key × AV)}{k:Key}:kix es k=none↔k∉es.map (·.1):=by
 unfold kix
 rw[List.findIdx?_eq_none_iff]
 simp only[List.mem_map,not_exists,not_and]
 constructor
 ·intro h x hx e
  have:=h x hx
  simp[e]at this
 ·intro h x hx
  simpa using h x hx
theorem gat_keys{l:List (Int × Int)}:∀{i:Nat},i≤l.length→∀ k,k∈(gat l i).map (·.1)↔∃ p∈l.take i,k = .p p.1 p.2
 |0,_,k=>by simp[gat]
 |i+1,h,k=>by
  have ih:=gat_keys (l:=l) (i:=i) (by omega)
  have hi:i<l.length:=by omega
  have hg:l.getD i (0,0)=l[i]:=by simp[List.getD_eq_getElem?_getD,hi]
  rw[List.take_add_one,List.getElem?_eq_getElem hi]
  unfold gat
  rw[hg]
  split
  ·rename_i j hj
   rw[ih]
   have hm:Key.p l[i].1 l[i].2∈(gat l i).map (·.1):=by
    by_cases c:Key.p l[i].1 l[i].2∈(gat l i).map (·.1)
    ·exact c
    ·rw[kix_none.2 c]at hj;cases hj
   constructor
   ·rintro⟨p,hp,e⟩
    exact⟨p,List.mem_append_left _ hp,e⟩
   ·rintro⟨p,hp,e⟩
    rcases List.mem_append.1 hp with hp|hp
    ·exact⟨p,hp,e⟩
    ·have:p=l[i]:=by simpa using hp
     subst this
     rw[e];exact(ih _).1 hm
  ·rw[List.map_append,List.mem_append,ih]
   constructor
   ·rintro(⟨p,hp,e⟩|hk)
    ·exact⟨p,List.mem_append_left _ hp,e⟩
    ·exact⟨l[i],List.mem_append_right _ (by simp),by simpa using hk⟩
   ·rintro⟨p,hp,e⟩
    rcases List.mem_append.1 hp with hp|hp
    ·exact .inl ⟨p,hp,e⟩
    ·have:p=l[i]:=by simpa using hp
     subst this
     exact .inr (by simp[e])
theorem gat_le(l:List (Int × Int)):∀ i:Nat,(gat l i).length≤i
 |0=>Nat.le_refl _
 |i+1=>by
  have:=gat_le l i
  unfold gat
  split
  ·omega
  ·simp;omega
theorem gat_all{l:List (Int × Int)}:∀{i:Nat},i≤l.length→((gat l i).length=i↔(l.take i).Nodup)
 |0,_=>by simp[gat]
 |i+1,h=>by
  have ih:=gat_all (l:=l) (i:=i) (by omega)
  have hi:i<l.length:=by omega
  have hk:=gat_keys (l:=l) (i:=i) (by omega) (.p l[i].1 l[i].2)
  have hle:=gat_le l i
  have hg:l.getD i (0,0)=l[i]:=by simp[List.getD_eq_getElem?_getD,hi]
  rw[List.take_add_one,List.getElem?_eq_getElem hi,List.nodup_append]
  unfold gat
  rw[hg]
  split
  ·rename_i j hj
   have hm:Key.p l[i].1 l[i].2∈(gat l i).map (·.1):=by
    by_cases c:Key.p l[i].1 l[i].2∈(gat l i).map (·.1)
    ·exact c
    ·rw[kix_none.2 c]at hj;cases hj
   obtain⟨p,hp,e⟩:=hk.1 hm
   constructor
   ·intro h;omega
   ·rintro⟨_,_,h3⟩
    refine absurd ?_ (h3 p hp l[i] (by simp))
    simp only[Key.p.injEq]at e
    exact Prod.ext e.1.symm e.2.symm
  ·rename_i hn
   rw[kix_none,hk]at hn
   rw[List.length_append,List.length_singleton,Nat.add_right_cancel_iff,ih]
   constructor
   ·intro h
    refine⟨h,by simp,fun a ha b hb=>?_⟩
    have:b=l[i]:=by simpa using hb
    subst this
    rintro rfl
    exact hn ⟨_,ha,rfl⟩
   ·exact fun h=>h.1
@[simp] theorem extr0{x:AV}{l:List AV}{S:Store}{K:AV→Store→Prop}:extr (.t (x :: l)) 0 S K=K x S:=by simp[extr]
@[simp] theorem extr1{x y:AV}{l:List AV}{S:Store}{K:AV→Store→Prop}:extr (.t (x :: y :: l)) 1 S K=K y S:=by simp[extr]
@[simp] theorem extr2{x y z:AV}{l:List AV}{S:Store}{K:AV→Store→Prop}:extr (.t (x :: y :: z :: l)) 2 S K=K z S:=by simp[extr]
theorem lkM_m{S:Store}{kk:KK}{z:AV}{c:Bool}{id:Nat}{k:AV}{key:Key}{es:List (Key × AV)}{lv:Bool}{K:AV→Store→Prop}(h:S.obj id=some (.map kk es lv))(hk:keyA kk k=some key):lkM kk z c (.m id) k S K=K (lkV z c (lkp es key)) S:=by
 simp[lkM,entsA,h,hk]
theorem updM_m{S:Store}{kk:KK}{id:Nat}{k v:AV}{key:Key}{es:List (Key × AV)}{K:AV→Store→Prop}(h:S.obj id=some (.map kk es true))(hk:keyA kk k=some key):updM kk (.m id) k v S K=K .j (S.upd id (.map kk (insM es key v) true)):=by
 simp[updM,h,hk]
theorem lenM_m{S:Store}{kk:KK}{id:Nat}{es:List (Key × AV)}{lv:Bool}{K:AV→Store→Prop}(h:S.obj id=some (.map kk es lv)):lenM (.m id) S K=K (aI es.length) S:=by
 simp[lenM,h]
theorem keyP(a b:Int):keyA (.p .i64) (.a [aI a,aI b])=some (.p a b):=by simp[keyA]
theorem lkp_isSome(es:List (Key × AV))(k:Key):(lkp es k).isSome=(kix es k).isSome:=by
 cases h:kix es k with
 |none=>simp[lkp,h]
 |some i =>
  obtain⟨e,h1,h2⟩:=lkp_row (kk:=.s) h
  simp[h2]
theorem make_once{S:Store}{id:Nat}{z g0:AV}{d st:Int}{l:List (Int × Int)}{Q:AEnd→Store→Prop}(hl:l.length≤1000000)(hid:id<S.n)(h:S.obj id=some (onceO 140 d st z [pL l,g0]))
    (k:∀ S2 m,S.n≤S2.n→(∀ x,x<S.n→x≠id→S2.obj x=S.obj x)→m≠id→S2.obj id=some (onceO 140 d st z [pL l,.m m])→S2.obj m=some (.map (.p .i64) (gat l l.length) true)→Q (.ret (.t [])) S2):
    ACalls Pg 124 [.p id 0 0] S Q:=by
 refine calls124 ?_
 unfold m124 mkM
 have h':=(new_lt (o:=.map (.p .i64) [] true) hid).trans h
 show nilChk _ _ _
 rw[nilChk_p,shift_p]
 refine stF_of h' (by simp) rfl fun S1 n1 o1 f1=>?_
 rw[nilChk_p,shift_p,ld1_p o1 rfl rfl,lenS_pL]
 have hm:S.n≠id:=by omega
 refine loop124_0 (fun y S'=>S.n<S'.n∧(∀ x,x<S.n→x≠id→S'.obj x=S.obj x)∧S'.obj id=some (onceO 140 d st z [pL l,.m S.n])∧∃ i:Nat,y=aI i∧i≤l.length∧S'.obj S.n=some (.map (.p .i64) (gat l i) true))
  (fun y _=>l.length - ((intA y).getD 0).toNat) ⟨by rw[n1,new_n];omega,fun x hx hne=>by rw[f1 x hne,new_lt hx],o1,0,rfl,Nat.zero_le _,by rw[f1 _ hm,new_self];rfl⟩ ?_
 rintro _ S2 ⟨n2,f2,o2,i,rfl,hi,m2⟩ KE hKE
 unfold b124_0
 rw[bin_lss,onB_v]
 refine gd_of (fun hlt=>?_) (fun hge=>?_)
 ·have hlt:i<l.length:=by simpa using hlt
  have hg:l.getD i (0,0)=l[i]:=by simp[List.getD_eq_getElem?_getD,hlt]
  rw[ixS_pL hlt,ldN_q2]
  refine boxA_of rfl fun S3 k3 n3 o3=>?_
  refine stA_of o3 rfl rfl fun S4 n4 o4 f4=>?_
  have p4:S4.obj id=_:=(f4 id (by omega)).trans ((k3.2 id (by omega)).trans o2)
  have q4:S4.obj S.n=_:=(f4 S.n (by omega)).trans ((k3.2 S.n n2).trans m2)
  have r4:∀ x,x<S.n→x≠id→S4.obj x=S.obj x:=fun x hx hne=>(f4 x (by omega)).trans ((k3.2 x (by omega)).trans (f2 x hx hne))
  show ∃ q15:AV,_
  refine⟨_,by rw[nilChk_p];exact⟨rfl,rfl⟩,_,by rw[shift_p];exact⟨rfl,rfl⟩,_,by rw[ld1_p p4 rfl rfl];exact⟨rfl,rfl⟩,_,by rw[ldN_p (n:=2) o4 rfl];exact⟨rfl,rfl⟩,_,by rw[lkM_m q4 (keyP _ _)];exact⟨rfl,rfl⟩,_,by rw[lkV,extr0];exact⟨rfl,rfl⟩,_,by rw[lkV,extr1];exact⟨rfl,rfl⟩,?_⟩
  rw[lkp_isSome,un_not,onB_v]
  have hadd:∀ K:AV→Store→Prop,∀ S,bin .add 0 (.v (.int .i64 (i:Int))) (.v (.int .i64 1)) S K=K (aI (i+1:Nat)) S:=fun K S=>bin_add (by omega) (by omega) 0
  have hμ:l.length - ((intA (aI (i+1:Nat))).getD 0).toNat<l.length - ((intA (aI i)).getD 0).toNat:=by simp[intA];omega
  refine gd_of (fun hn=>?_) (fun hn=>?_)
  ·have hn:kix (gat l i) (.p l[i].1 l[i].2)=none:=by simpa using hn
   refine⟨_,fun T hT=>by rw[nilChk_p];exact⟨rfl,rfl⟩,_,fun T hT=>by rw[shift_p];exact⟨rfl,rfl⟩,_,fun T hT=>by rw[ld1_p ((hT.2 id (by omega)).trans p4) rfl rfl];exact⟨rfl,rfl⟩,_,fun T hT=>by rw[ldN_p (n:=2) ((hT.2 _ (by omega)).trans o4) rfl];exact⟨rfl,rfl⟩,?_⟩
   rw[updM_m q4 (keyP _ _),hadd]
   refine hKE _ _ ⟨by simp;omega,fun x hx hne=>by rw[upd_ne (by omega)];exact r4 x hx hne,by rw[upd_ne (by omega)];exact p4,i+1,rfl,hlt,?_⟩ hμ
   rw[upd_self]
   simp only[gat,hg,hn,insM_none hn]
  ·obtain⟨j,hj⟩:∃ j,kix (gat l i) (.p l[i].1 l[i].2)=some j:=by
     cases e:kix (gat l i) (.p l[i].1 l[i].2)with
     |none=>simp[e]at hn
     |some j=>exact⟨j,rfl⟩
   rw[hadd]
   refine hKE _ _ ⟨by omega,r4,p4,i+1,rfl,hlt,?_⟩ hμ
   rw[q4]
   simp only[gat,hg,hj]
 ·have hge:i=l.length:=by simp at hge;omega
  subst hge
  exact k S2 S.n (by omega) f2 hm o2 m2
theorem many_once{S:Store}{id:Nat}{z g0:AV}{l:List (Int × Int)}{Q:AEnd→Store→Prop}(hl:l.length≤1000000)(hid:id<S.n)(h:S.obj id=some (onceO 140 0 0 z [pL l,g0]))
    (k:∀ S2,S.n≤S2.n→(∀ x,x<S.n→x≠id→S2.obj x=S.obj x)→Q (.ret (aI (gat l l.length).length)) S2):
    ACalls Pg 119 [.p id 0 0] S Q:=by
 refine calls119 ?_
 unfold m119
 rw[nilChk_p,shift_p]
 refine .inl (do_once h (.inl (make_once hl (by simpa using hid) (upd_self _ _) fun S2 m n2 f2 hm o2 m2=>⟨_,o2,?_⟩)))
 show nilChk _ _ _
 rw[nilChk_p,shift_p,ld1_p (show(S2.upd id (onceO 140 1 0 z [pL l,.m m])).obj id=some (.cells 140 [[aW32 1,aS32 0,z,pL l,.m m]] true)from upd_self _ _) rfl rfl]
 rw[lenM_m (by rw[upd_ne hm];exact m2)]
 refine k _ (by simpa using n2) fun x hx hne=>?_
 rw[upd_ne hne,f2 x (by simpa using hx) hne,upd_ne hne]
theorem bld_of{pl:List (Nat × Nat)}{zc:List AV}{parts:List (Nat × AV)}{S:Store}{K:AV→Store→Prop}{cs:List AV}(h:fillA (fun i=>pl[i]?) zc parts=some cs):bld pl zc parts S K=K (.a cs) S:=by
 simp[bld,h]
theorem right_of{g:Gr}(hg:g.ok){S:Store}{id:Nat}(hid:id<S.n){z g0:AV}(h:S.obj id=some (onceO 140 0 0 z [pL g.ands,g0])){Q:AEnd→Store→Prop}
    (k:∀ S2,S.n≤S2.n→(∀ x,x<S.n→x≠id→S2.obj x=S.obj x)→Q (.ret (aB g.right)) S2):ACalls Pg 104 [g.av,.p id 0 0] S Q:=by
 have hlen:=hg.len
 refine calls104 ?_
 unfold m104 Gr.av
 refine boxA_of rfl fun S1 k1 n1 o1=>?_
 have kk:∀ b:Bool,g.right=b→Q (.ret (aB b)) S1:=fun b e=>e ▸ k S1 (by omega) fun x hx _=>k1.2 x hx
 rw[shift_p,ld1_p o1 rfl rfl,bin_lss,onB_v]
 refine gd_of (fun h1=>kk _ ?_) (fun h1=>?_)
 ·have h1:=dT h1
  simp[Gr.right,show ¬ 0≤g.inputs by omega]
 have h1:0≤g.inputs:=by simpa using h1
 rw[shift_p,ld1_p o1 rfl rfl,bin_gtr,onB_v]
 refine gd_of (fun h2=>kk _ ?_) (fun h2=>?_)
 ·have h2:=dT h2
  simp[Gr.right,show ¬ g.inputs≤2000 by omega]
 have h2:g.inputs≤2000:=by simpa using h2
 rw[shift_p,ld1_p o1 rfl rfl,lenS_pL,bin_gtr,onB_v]
 refine gd_of (fun h3=>kk _ ?_) (fun h3=>?_)
 ·have h3:=dT h3
  have:¬ (g.ands.length:Int)≤2000:=by omega
  simp only[Gr.right,this,decide_false,Bool.false_and,Bool.and_false]
 have h3:g.ands.length≤2000:=by have:=dF h3;omega
 rw[ldN_p (n:=2) o1 rfl]
 refine callF_ans (ans87 hg (by omega) h1) ?_
 rw[bin_gtr,onB_v]
 refine gd_of (fun h4=>kk _ ?_) (fun h4=>?_)
 ·have h4:=dT h4
  simp[Gr.right,show ¬ g.vars≤2000 by omega]
 have h4:g.vars≤2000:=by simpa using h4
 rw[shift_p,ld1_p o1 rfl rfl,lenS_pL]
 refine loop104_0 (fun y S'=>Keep S1 S'∧∃ i:Nat,y=aI i∧i≤g.ands.length∧∀ j,j<i→may (g.ands.getD j (0,0)) (g.inputs+1+j)=true)
  (fun y _=>g.ands.length - ((intA y).getD 0).toNat) ⟨Keep.refl _,0,rfl,Nat.zero_le _,fun j hj=>(Nat.not_lt_zero _ hj).elim⟩ ?_
 rintro _ S2 ⟨k2,i,rfl,hi,hmay⟩ KE hKE
 have o2:=(k2.2 S.n (by omega)).trans o1
 have b2:=(k2.2 id (by omega)).trans ((k1.2 id hid).trans h)
 unfold b104_0
 rw[bin_lss,onB_v]
 refine gd_of (fun hlt=>?_) (fun hge=>?_)
 ·have hlt:i<g.ands.length:=by simpa using hlt
  have hg':g.ands.getD i (0,0)=g.ands[i]:=by simp[List.getD_eq_getElem?_getD,hlt]
  rw[ixS_pL hlt,ldN_q2]
  refine boxA_of rfl fun S3 k3 n3 o3=>?_
  refine stA_of o3 rfl rfl fun S4 n4 o4 f4=>?_
  have k4:Keep S1 S4:=(k2.trans k3).st (by have:=k2.1;omega) n4 f4
  have p4:=(k4.2 S.n (by omega)).trans o1
  rw[ldN_p (n:=2) o4 rfl,shift_p,ld1_p p4 rfl rfl,bin_add (by omega) (by omega),bin_add (by omega) (by omega)]
  refine callF_ans (ans118 (p:=g.ands[i]) (hg.pairs _ (List.getElem_mem hlt))) ?_
  rw[un_not,onB_v]
  refine gd_of (fun h5=>?_) (fun h5=>?_)
  ·have:g.right=false:=by
     have hr:(List.range g.ands.length).all (fun i=>may (g.ands.getD i (0,0)) (g.inputs+1+i))=false:=by
      rw[List.all_eq_false]
      exact⟨i,by simpa using hlt,by rw[hg'];simpa using h5⟩
     simp only[Gr.right,hr,Bool.false_and,Bool.and_false]
   rw[←this]
   exact k S4 (by have:=k4.1;omega) fun x hx _=>(k4.2 x (by omega)).trans (k1.2 x hx)
  ·have hadd:∀ K:AV→Store→Prop,∀ S,bin .add 0 (.v (.int .i64 (i:Int))) (.v (.int .i64 1)) S K=K (aI (i+1:Nat)) S:=fun K S=>bin_add (by omega) (by omega) 0
   rw[hadd]
   refine hKE _ _ ⟨k4,i+1,rfl,hlt,fun j hj=>?_⟩ (by simp[intA];omega)
   rcases Nat.lt_or_ge j i with hj'|hj'
   ·exact hmay j hj'
   ·have:j=i:=by omega
    subst this
    rw[hg']
    simpa using h5
 ·have hge:i=g.ands.length:=by simp at hge;omega
  subst hge
  have hn2:=k2.1
  refine⟨_,fun T hT=>by rw[shift_p];exact⟨rfl,rfl⟩,_,fun T hT=>by rw[ld1_p ((hT.2 _ (by omega)).trans o2) rfl rfl];exact⟨rfl,rfl⟩,_,fun T hT=>by rw[lenS_pL];exact⟨rfl,rfl⟩,.inl (many_once hlen (by omega) b2 fun S3 n3 f3=>?_)⟩
  have o3:=(f3 S.n (by omega) (by omega)).trans o2
  refine⟨fun T hT=>by rw[lenS_pL];exact⟨rfl,rfl⟩,fun T hT=>by rw[ld1_p ((hT.2 _ (by omega)).trans o3) rfl rfl];exact⟨rfl,rfl⟩,fun T hT=>by rw[shift_p];exact⟨rfl,rfl⟩,_,fun T hT=>by rw[bin_eql];exact⟨rfl,rfl⟩,?_⟩
  have:g.right=decide (((gat g.ands g.ands.length).length:Int)=g.ands.length):=by
   have hr:(List.range g.ands.length).all (fun i=>may (g.ands.getD i (0,0)) (g.inputs+1+i))=true:=by
    rw[List.all_eq_true]
    exact fun j hj=>hmay j (by simpa using hj)
   have hall:=gat_all (l:=g.ands) (i:=g.ands.length) (Nat.le_refl _)
   rw[List.take_length]at hall
   simp only[Gr.right,hr,Bool.true_and,h1,h2,h4,show(g.ands.length:Int)≤2000 by omega,decide_true,Int.natCast_inj,hall]
  rw[←this]
  exact k S3 (by omega) fun x hx hne=>(f3 x (by omega) hne).trans ((k2.2 x (by omega)).trans (k1.2 x hx))
theorem ans82{g:Gr}(hg:g.ok):Ans Pg 82 [g.av] (aB g.right):=by
 intro S
 refine ACalls.ans_v (calls82 ?_)
 unfold m82 Gr.av
 refine boxA_of rfl fun S1 k1 n1 o1=>?_
 rw[ldN_p (n:=2) o1 rfl,shift_p,ld1_p o1 rfl rfl]
 rw[bld_of (cs:=[aW32 0,aS32 0,.v (.int .u32 0),pL g.ands,.v (.map none)]) rfl]
 refine boxA_of rfl fun S2 k2 n2 o2=>?_
 refine .inl (right_of hg (by omega) o2 fun S3 n3 f3=>⟨rfl,k1.trans ⟨by omega,fun x hx=>?_⟩⟩)
 rw[f3 x (by omega) (by omega),k2.2 x hx]
theorem ans11{g:Gr}(hg:g.ok)(hi:g.inputs≤1000000)(h0:0≤g.inputs):Ans Pg 11 [g.av] (aI g.vars):=by
 intro S
 have hl:=hg.len
 refine ACalls.ans_v (calls11 ?_)
 unfold m11 Gr.av
 refine boxA_of rfl fun S1 k1 n1 o1=>?_
 rw[shift_p,ld1_p o1 rfl rfl,bin_add (by omega) (by omega),shift_p,ld1_p o1 rfl rfl,lenS_pL,bin_add (by omega) (by omega)]
 exact⟨rfl,k1⟩
theorem ans77{g:Gr}{l:Int}(hg:g.ok)(hl:i64R l):Ans Pg 77 [g.av,aI l] (aB (g.lit l)):=by
 intro S
 refine ACalls.ans_v (calls77 ?_)
 unfold m77 Gr.av Gr.lit
 refine boxA_of rfl fun S1 k1 n1 o1=>?_
 rw[shift_p,ld1_p o1 rfl rfl,bin_geq,onB_v]
 refine gd_of (fun h1=>?_) (fun h1=>⟨by simp only[h1,Bool.false_and],k1⟩)
 rw[shift_p,ld1_p o1 rfl rfl,bin_leq,onB_v]
 refine gd_of (fun h2=>?_) (fun h2=>⟨by simp only[h1,h2,Bool.false_and,Bool.true_and],k1⟩)
 rw[bin_geq,onB_v]
 refine gd_of (fun h3=>?_) (fun h3=>⟨by simp only[h1,h2,h3,Bool.false_and,Bool.true_and],k1⟩)
 rw[bin_half hl,ldN_p (n:=2) o1 rfl]
 refine callF_ans (ans11 hg (by have:=dT h2;omega) (dT h1)) ?_
 rw[bin_lss]
 exact⟨by simp only[h1,h2,h3,Bool.true_and],k1⟩
theorem binP_eq{a b c d:Int}{S:Store}{K:AV→Store→Prop}:binP .i64 .eql (.a [aI a,aI b]) (.a [aI c,aI d]) S K=K (aB (decide ((a,b)=(c,d)))) S:=by
 simp[binP,keyA]
theorem ixA_q{n sz:Nat}{c:List AV}{z:Nat}{S:Store}{K:AV→Store→Prop}(hz:z<n):ixA n sz (.q c 0) (aI z) S K=K (.q c (z*sz)) S:=by
 unfold ixA
 simp only[intA,optP_some,Int.toNat_natCast,shift,Nat.zero_add]
 exact propext ⟨fun h=>h.2,fun h=>⟨⟨by omega,by omega⟩,h⟩⟩
theorem ld1_q1{u v:AV}{S:Store}{K:AV→Store→Prop}:ld1 (.q [u,v] 1) S K=K v S:=by simp[ld1,rd1,place]
theorem ld1_q0{u:AV}{l:List AV}{S:Store}{K:AV→Store→Prop}:ld1 (.q (u :: l) 0) S K=K u S:=by simp[ld1,rd1,place]
theorem right_iff{g:Gr}:g.right=true↔0≤g.inputs∧g.inputs≤2000∧(g.ands.length:Int)≤2000∧g.vars≤2000∧(∀ j,j<g.ands.length→may (g.ands.getD j (0,0)) (g.inputs+1+j)=true)∧g.ands.Nodup:=by
 simp[Gr.right]
theorem nodup_take{α:Type}[DecidableEq α]{l:List α}{i:Nat}(h:i<l.length):(l.take (i+1)).Nodup↔(l.take i).Nodup∧∀ k (hk:k<i),l[k]≠l[i]:=by
 rw[List.take_add_one,List.getElem?_eq_getElem h,List.nodup_append]
 constructor
 ·rintro⟨h1,_,h3⟩
  refine⟨h1,fun k hk=>h3 _ ?_ _ (by simp)⟩
  rw[List.mem_take_iff_getElem]
  exact⟨k,by omega,rfl⟩
 ·rintro⟨h1,h2⟩
  refine⟨h1,by simp,fun a ha b hb=>?_⟩
  have:b=l[i]:=by simpa using hb
  subst this
  rw[List.mem_take_iff_getElem]at ha
  obtain⟨k,hk,rfl⟩:=ha
  exact h2 k (by omega)
theorem may_false1{p:Int × Int}{v:Int}(h:p.2<2):may p v=false:=by simp[may,show ¬ 2≤p.2 by omega]
theorem may_false2{p:Int × Int}{v:Int}(h:p.1.tdiv 2≤p.2.tdiv 2):may p v=false:=by simp[may,show ¬ p.2.tdiv 2<p.1.tdiv 2 by omega]
theorem may_false3{p:Int × Int}{v:Int}(h:v≤p.1.tdiv 2):may p v=false:=by simp[may,show ¬ p.1.tdiv 2<v by omega]
theorem right_may{g:Gr}{i:Nat}(h:i<g.ands.length)(hm:may (g.ands.getD i (0,0)) (g.inputs+1+i)=false):g.right=false:=by
 cases e:g.right with
 |false=>rfl
 |true=>rw[(right_iff.1 e).2.2.2.2.1 i h]at hm;cases hm
theorem ans76{g:Gr}(hg:g.ok):Ans Pg 76 [g.av] (aB g.right):=by
 intro S
 refine ACalls.ans_v (calls76 ?_)
 have hlen:=hg.len
 unfold m76 Gr.av
 refine boxA_of rfl fun S1 k1 n1 o1=>?_
 rw[shift_p,ld1_p o1 rfl rfl,bin_lss,onB_v]
 refine gd_of (fun h1=>⟨?_,k1⟩) (fun h1=>?_)
 ·have h1:=dT h1
  simp[Gr.right,show ¬ 0≤g.inputs by omega]
 have h1:0≤g.inputs:=by simpa using h1
 rw[shift_p,ld1_p o1 rfl rfl,bin_gtr,onB_v]
 refine gd_of (fun h2=>⟨?_,k1⟩) (fun h2=>?_)
 ·have h2:=dT h2
  simp[Gr.right,show ¬ g.inputs≤2000 by omega]
 have h2:g.inputs≤2000:=by simpa using h2
 rw[shift_p,ld1_p o1 rfl rfl,lenS_pL,bin_gtr,onB_v]
 refine gd_of (fun h3=>⟨?_,k1⟩) (fun h3=>?_)
 ·have h3:=dT h3
  have:¬ (g.ands.length:Int)≤2000:=by omega
  simp only[Gr.right,this,decide_false,Bool.false_and,Bool.and_false]
 have h3:g.ands.length≤2000:=by have:=dF h3;omega
 rw[ldN_p (n:=2) o1 rfl]
 refine callF_ans (ans11 hg (by omega) h1) ?_
 rw[bin_gtr,onB_v]
 refine gd_of (fun h4=>⟨?_,k1⟩) (fun h4=>?_)
 ·have h4:=dT h4
  simp[Gr.right,show ¬ g.vars≤2000 by omega]
 have h4:g.vars≤2000:=by simpa using h4
 refine loop76_0 (fun y S'=>S'=S1∧∃ i:Nat,y=aI i∧i≤g.ands.length∧(∀ j,j<i→may (g.ands.getD j (0,0)) (g.inputs+1+j)=true)∧(g.ands.take i).Nodup)
  (fun y _=>g.ands.length - ((intA y).getD 0).toNat) ⟨rfl,0,rfl,Nat.zero_le _,fun j hj=>(Nat.not_lt_zero _ hj).elim,by simp⟩ ?_
 rintro _ S1 ⟨rfl,i,rfl,hi,hmay,hnd⟩ KE hKE
 unfold b76_0
 rw[shift_p,ld1_p o1 rfl rfl,lenS_pL,bin_lss,onB_v]
 refine gd_of (fun hlt=>?_) (fun hge=>?_)
 ·have hlt:i<g.ands.length:=by simpa using hlt
  have hg':g.ands.getD i (0,0)=g.ands[i]:=by simp[List.getD_eq_getElem?_getD,hlt]
  have hp:=hg.pairs _ (List.getElem_mem hlt)
  have e1:∀(c:List AV) (K:AV→Store→Prop),ixA 2 1 (.q c 0) (.v (.int .i64 1)) S1 K=K (.q c 1) S1:=fun c K=>ixA_q (z:=1) (by decide)
  have e0:∀(c:List AV) (K:AV→Store→Prop),ixA 2 1 (.q c 0) (.v (.int .i64 0)) S1 K=K (.q c 0) S1:=fun c K=>ixA_q (z:=0) (by decide)
  show ∃ q24:AV,_
  refine⟨_,by rw[shift_p];exact⟨rfl,rfl⟩,_,by rw[ld1_p o1 rfl rfl];exact⟨rfl,rfl⟩,_,by rw[ixS_pL hlt];exact⟨rfl,rfl⟩,_,by rw[e0];exact⟨rfl,rfl⟩,_,by rw[ld1_q0];exact⟨rfl,rfl⟩,
   _,by rw[shift_p];exact⟨rfl,rfl⟩,_,by rw[ld1_p o1 rfl rfl];exact⟨rfl,rfl⟩,_,by rw[ixS_pL hlt];exact⟨rfl,rfl⟩,_,by rw[e1];exact⟨rfl,rfl⟩,_,by rw[ld1_q1];exact⟨rfl,rfl⟩,?_⟩
  rw[bin_lss,onB_v]
  refine gd_of (fun h5=>⟨?_,k1⟩) (fun h5=>?_)
  ·rw[right_may hlt (by rw[hg'];exact may_false1 (dT h5))]
  rw[bin_half hp.1,bin_half hp.2,bin_leq,onB_v]
  refine gd_of (fun h6=>⟨?_,k1⟩) (fun h6=>?_)
  ·rw[right_may hlt (by rw[hg'];exact may_false2 (dT h6))]
  rw[bin_half hp.1,shift_p,ld1_p o1 rfl rfl,bin_add (by omega) (by omega),bin_add (by omega) (by omega),bin_geq,onB_v]
  refine gd_of (fun h7=>⟨?_,k1⟩) (fun h7=>?_)
  ·rw[right_may hlt (by rw[hg'];exact may_false3 (dT h7))]
  have h5:=dF h5
  have h6:=dF h6
  have h7:=dF h7
  refine loop76_1 (fun y S'=>S'=S1∧∃ k:Nat,y=aI k∧k≤i∧∀ j (hj:j<k) (hk:k≤i),g.ands[j]'(by omega)≠g.ands[i])
   (fun y _=>g.ands.length - ((intA y).getD 0).toNat) ⟨rfl,0,rfl,Nat.zero_le _,fun j hj=>(Nat.not_lt_zero _ hj).elim⟩ ?_
  rintro _ S1 ⟨rfl,k,rfl,hk,hne⟩ KE1 hKE1
  unfold b76_1
  rw[bin_lss,onB_v]
  refine gd_of (fun hlk=>?_) (fun hgk=>?_)
  ·have hlk:k<i:=by simpa using hlk
   have hkl:k<g.ands.length:=by omega
   show ∃ q24:AV,_
   refine⟨_,by rw[shift_p];exact⟨rfl,rfl⟩,_,by rw[ld1_p o1 rfl rfl];exact⟨rfl,rfl⟩,_,by rw[ixS_pL hkl];exact⟨rfl,rfl⟩,_,by rw[ldN_q2];exact⟨rfl,rfl⟩,
    _,by rw[shift_p];exact⟨rfl,rfl⟩,_,by rw[ld1_p o1 rfl rfl];exact⟨rfl,rfl⟩,_,by rw[ixS_pL hlt];exact⟨rfl,rfl⟩,_,by rw[ldN_q2];exact⟨rfl,rfl⟩,_,by rw[binP_eq];exact⟨rfl,rfl⟩,?_⟩
   rw[onB_v]
   refine gd_of (fun h8=>⟨?_,k1⟩) (fun h8=>?_)
   ·have h8:g.ands[k]=g.ands[i]:=dT h8
    have:g.right=false:=by
     cases e:g.right with
     |false=>rfl
     |true =>
      have hnd:=(right_iff.1 e).2.2.2.2.2
      exact absurd h8 (List.pairwise_iff_getElem.1 hnd k i hkl hlt hlk)
    rw[this]
   ·have h8:¬ g.ands[k]=g.ands[i]:=dF h8
    have hadd:∀ K:AV→Store→Prop,∀ S,bin .add 0 (.v (.int .i64 (k:Int))) (.v (.int .i64 1)) S K=K (aI (k+1:Nat)) S:=fun K S=>bin_add (by omega) (by omega) 0
    rw[hadd]
    refine hKE1 _ _ ⟨rfl,k+1,rfl,hlk,fun j hj _=>?_⟩ (by simp[intA];omega)
    rcases Nat.lt_or_ge j k with hj'|hj'
    ·exact hne j hj' (by omega)
    ·have:j=k:=by omega
     subst this
     exact h8
  ·have hge:k=i:=by simp at hgk;omega
   subst hge
   have hadd:∀ K:AV→Store→Prop,∀ S,bin .add 0 (.v (.int .i64 (k:Int))) (.v (.int .i64 1)) S K=K (aI (k+1:Nat)) S:=fun K S=>bin_add (by omega) (by omega) 0
   rw[hadd]
   refine hKE _ _ ⟨rfl,k+1,rfl,hlt,fun j hj=>?_,(nodup_take hlt).2 ⟨hnd,fun j hj=>hne j hj (Nat.le_refl _)⟩⟩ (by simp[intA];omega)
   rcases Nat.lt_or_ge j k with hj'|hj'
   ·exact hmay j hj'
   ·have:j=k:=by omega
    subst this
    rw[hg']
    simp[may,show 2≤(g.ands[j]).2 by omega,show(g.ands[j]).2.tdiv 2<(g.ands[j]).1.tdiv 2 by omega,show(g.ands[j]).1.tdiv 2<g.inputs+1+j by omega]
 ·have hge:i=g.ands.length:=by simp at hge;omega
  subst hge
  rw[List.take_length]at hnd
  rw[right_iff.2 ⟨h1,h2,by omega,h4,hmay,hnd⟩]
  exact⟨rfl,k1⟩
theorem Own.appL{n:Nat}{S:Store}{x:AV}{e sz b:Nat}{es ys:List (List AV)}(h:Own n S x e es)(hn:n≤S.n){K:AV→Store→Prop}(hc:∀ c∈ys,c.length=sz)(hb:(es.length+ys.length)*b≤140737488355328)
    (k:∀ x' S',Own n S' x' e (es++ys)→But S S' x→(x'=x∨∃ m,x' = .s S.n 0 m)→K x' S') {y:AV} (hy:srcE S y=some ys):appS e sz b x y S K:=by
 refine⟨h.isSl,ys,hy,hc,?_⟩
 cases ys with
 |nil=>exact k x S (by simpa using h) ⟨Nat.le_refl _,fun _ _ _=>rfl⟩ (.inl rfl)
 |cons c ys =>
  rcases h with⟨rfl,rfl⟩|⟨id,rfl,h1,h2,h3⟩
  ·refine⟨by simpa using hb,k _ _ (.inr ⟨S.n,rfl,hn,Nat.lt_succ_self _,by simp[Store.new]⟩) ⟨Nat.le_succ _,fun i hi _=>?_⟩ (.inr ⟨_,rfl⟩)⟩
   simp only[Store.new];rw[if_neg (by omega)]
  ·simp only[appE,h3]
   refine⟨⟨trivial,trivial,by simpa using hb⟩,k _ _ (.inr ⟨S.n,by simp,hn,Nat.lt_succ_self _,by simp[Store.new,Store.kill]⟩) ⟨Nat.le_succ _,fun i hi hne=>?_⟩ (.inr ⟨_,rfl⟩)⟩
   have e1:i≠S.n:=by omega
   have e2:i≠id:=fun hq=>hne 0 es.length (by rw[hq])
   simp[Store.new,Store.kill,e1,e2]
theorem bslP{e:Nat}{z1 z2 u v:AV}{S:Store}{K:AV→Store→Prop}(k:K (.l [[u,v]]) S):bslN e 2 1 [z1,z2] [(0,.a [u,v])] S K:=by
 refine⟨[u,v],?_,.inr ?_⟩
 ·simp[fillA,cellsOf,spl,List.range_succ]
 ·simpa[chunks,List.range_succ]using k
@[simp] theorem mx_true(a b:Int){S:Store}{K:AV→Store→Prop}:mxI true (aI a) (aI b) S K=K (aI (if b > a then b else a)) S:=rfl
@[simp] theorem mx_false(a b:Int){S:Store}{K:AV→Store→Prop}:mxI false (aI a) (aI b) S K=K (aI (if b<a then b else a)) S:=rfl
theorem treeP(l:List (Int × Int)):Tree (pL l):=Tree.l fun c hc u hu=>by
 obtain⟨p,_,rfl⟩:=List.mem_map.1 hc
 rcases List.mem_cons.1 hu with rfl|hu
 ·exact Tree.v _
 ·rcases List.mem_cons.1 hu with rfl|hu
  ·exact Tree.v _
  ·simp at hu
theorem Gr.tree(g:Gr):Tree g.av:=Tree.a fun u hu=>by
 rcases List.mem_cons.1 hu with rfl|hu
 ·exact Tree.v _
 ·rcases List.mem_cons.1 hu with rfl|hu
  ·exact treeP _
  ·simp at hu
theorem cv_t3{S:Store}{n:Nat}{x y z x' y' z':AV}(h1:Cv S n x x')(h2:Cv S n y y')(h3:Cv S n z z'):Cv S n (.t [x,y,z]) (.t [x',y',z']):=
 .t _ _ rfl fun k u u2 hk hk2=>by
  match k with
  |0=>cases hk;cases hk2;exact h1
  |1=>cases hk;cases hk2;exact h2
  |2=>cases hk;cases hk2;exact h3
  |k+3=>simp at hk
theorem cv_t2{S:Store}{n:Nat}{x y x' y':AV}(h1:Cv S n x x')(h2:Cv S n y y'):Cv S n (.t [x,y]) (.t [x',y']):=
 .t _ _ rfl fun k u u2 hk hk2=>by
  match k with
  |0=>cases hk;cases hk2;exact h1
  |1=>cases hk;cases hk2;exact h2
  |k+2=>simp at hk
theorem cv_a2{S:Store}{n:Nat}{x y x' y':AV}(h1:Cv S n x x')(h2:Cv S n y y'):Cv S n (.a [x,y]) (.a [x',y']):=
 .a _ _ rfl fun k u u2 hk hk2=>by
  match k with
  |0=>cases hk;cases hk2;exact h1
  |1=>cases hk;cases hk2;exact h2
  |k+2=>simp at hk
theorem gd_two{b c:Bool}{R T:Prop}(h1:b=true→c=true→R)(h2:¬ (b=true∧c=true)→T):gd b (gd c R T) T:=by
 cases b<;>cases c<;>simp_all [gd]
def andT(g:Gr)(x y:Int):Gr × Int × Int:=
 if y=0 then(g,0,0)
 else if x.tdiv 2=y.tdiv 2∧x≠y then(g,0,0)
 else if y=1 then(g,x,0)
 else if x=y then(g,x,0)
 else match g.ands.findIdx? (fun p=>decide (p=(x,y)))with
  |some i=>(g,2*(g.inputs+1+i),0)
  |none=>if 2000≤g.vars then(⟨0,[]⟩,0,2)else(⟨g.inputs,g.ands ++ [(x,y)]⟩,2*(g.vars+1) - 2,0)
def Gr.and(g:Gr)(a b:Int):Gr × Int × Int:=
 if(g.right && (g.lit a && g.lit b))=false then(⟨0,[]⟩,0,1)else andT g (if b > a then b else a) (if b<a then b else a)
def andAV(r:Gr × Int × Int):AV:=.t [r.1.av,aI r.2.1,aI r.2.2]
theorem vars11{i:Int}{x:AV}{n:Nat}(hx:∀(S:Store) (K:AV→Store→Prop),lenS x S K=K (aI n) S)(h0:0≤i)(h1:i≤1000000)(hn:n≤2000000):Ans Pg 11 [.a [aI i,x]] (aI (i+1+n)):=by
 intro S
 refine ACalls.ans_v (calls11 ?_)
 unfold m11
 refine boxA_of rfl fun S1 k1 n1 o1=>?_
 rw[shift_p,ld1_p o1 rfl rfl,bin_add (by omega) (by omega),shift_p,ld1_p o1 rfl rfl,hx,bin_add (by omega) (by omega)]
 exact⟨rfl,k1⟩
theorem ans36{g:Gr}{a b:Int}(hg:g.ok)(ha:i64R a)(hb:i64R b):Ans Pg 36 [g.av,aI a,aI b] (andAV (g.and a b)):=by
 intro S
 refine ACalls.tree (calls36 ?_)
 have hlen:=hg.len
 unfold m36
 have bd:∀{a b:Int} {S:Store} {K:AV→Store→Prop},bld [(0,1),(1,1)] [.v (.int .i64 0),.v (.int .i64 0)] [(0,aI a),(1,aI b)] S K=K (.a [aI a,aI b]) S:=bld_of rfl
 have bz:∀{S:Store} {K:AV→Store→Prop},bld [(0,1),(1,1)] [.v (.int .i64 0),.nl] [] S K=K (.a [aI 0,.nl]) S:=bld_of rfl
 refine boxA_of rfl fun S1 k1 n1 o1=>?_
 refine boxA_of rfl fun S2 k2 n2 o2=>?_
 have k2:=k1.trans k2
 have p1:S2.obj S.n=_:=(‹Keep S1 S2›.2 S.n (by omega)).trans o1
 have fin:∀{S':Store} {v:AV} (r:Gr × Int × Int),Keep S S'→Cv (S'.frz (newer S.n)) S.n v r.1.av→g.and a b=r→∃ q,AEnd.ret (.t [v,aI r.2.1,aI r.2.2]) = .ret q∧Keep S S'∧Cv (S'.frz (newer S.n)) S.n q (andAV (g.and a b)):=
  fun r hk hc e=>⟨_,rfl,hk,by rw[e];exact cv_t3 hc (.v _) (.v _)⟩
 have err:∀ S',Cv (Store.frz S' (newer S.n)) S.n (.a [aI 0,.nl]) (Gr.av ⟨0,[]⟩):=fun _=>cv_a2 (.v _) .nl
 have bad:∀{e:Int},(g.right && (g.lit a && g.lit b))=false→g.and a b=(⟨0,[]⟩,0,1):=fun h=>by simp only[Gr.and];rw[if_pos h]
 rw[ldN_p (n:=2) p1 rfl]
 refine callF_ans (ans76 hg) ?_
 rw[un_not,onB_v]
 refine gd_of (fun h1=>?_) (fun h1=>?_)
 ·rw[bz]
  refine stA_of o2 rfl rfl fun S3 n3 o3 f3=>?_
  rw[ldN_p (n:=2) o3 rfl]
  exact fin (⟨0,[]⟩,0,1) (k2.st (by omega) n3 f3) (err _) (bad (e:=0) (by rw[Bool.not_eq_true']at h1;rw[h1];rfl))
 have h1:g.right=true:=by simpa using h1
 rw[ldN_p (n:=2) p1 rfl]
 refine callF_ans (ans77 hg ha) ?_
 rw[un_not,onB_v]
 refine gd_of (fun h2=>?_) (fun h2=>?_)
 ·rw[bz]
  refine stA_of o2 rfl rfl fun S3 n3 o3 f3=>?_
  rw[ldN_p (n:=2) o3 rfl]
  exact fin (⟨0,[]⟩,0,1) (k2.st (by omega) n3 f3) (err _) (bad (e:=0) (by rw[Bool.not_eq_true']at h2;rw[h1,h2];rfl))
 have h2:g.lit a=true:=by simpa using h2
 rw[ldN_p (n:=2) p1 rfl]
 refine callF_ans (ans77 hg hb) ?_
 rw[un_not,onB_v]
 refine gd_of (fun h3=>?_) (fun h3=>?_)
 ·rw[bz]
  refine stA_of o2 rfl rfl fun S3 n3 o3 f3=>?_
  rw[ldN_p (n:=2) o3 rfl]
  exact fin (⟨0,[]⟩,0,1) (k2.st (by omega) n3 f3) (err _) (bad (e:=0) (by rw[Bool.not_eq_true']at h3;rw[h1,h2,h3];rfl))
 have h3:g.lit b=true:=by simpa using h3
 obtain⟨r1,r2,r3,r4,r5,r6⟩:=right_iff.1 h1
 rw[mx_true,mx_false]
 have hx:i64R (if b > a then b else a):=by split<;>assumption
 have hy:i64R (if b<a then b else a):=by split<;>assumption
 have hand:g.and a b=andT g (if b > a then b else a) (if b<a then b else a):=by
  simp only[Gr.and]
  rw[if_neg (by rw[h1,h2,h3];decide)]
 generalize hex:(if b > a then b else a)=x at *
 generalize hey:(if b<a then b else a)=y at *
 have ok:∀{S':Store},Cv (S'.frz (newer S.n)) S.n (.a g.cells) g.av:=fun{S'}=>g.tree _ _
 rw[bin_eql,onB_v]
 refine gd_of (fun h4=>?_) (fun h4=>?_)
 ·rw[ldN_p (n:=2) p1 rfl]
  refine stA_of o2 rfl rfl fun S3 n3 o3 f3=>?_
  rw[ldN_p (n:=2) o3 rfl]
  exact fin (g,0,0) (k2.st (by omega) n3 f3) ok (hand.trans (by rw[andT,if_pos (dT h4)]))
 have h4:=dF h4
 rw[bin_half hx,bin_half hy,bin_eql,onB_v]
 rw[bin_neq,onB_v]
 refine gd_two (fun h5 h6=>?_) (fun h7=>?_)
 ·rw[ldN_p (n:=2) p1 rfl]
  refine stA_of o2 rfl rfl fun S3 n3 o3 f3=>?_
  rw[ldN_p (n:=2) o3 rfl]
  exact fin (g,0,0) (k2.st (by omega) n3 f3) ok (hand.trans (by rw[andT,if_neg h4,if_pos ⟨dT h5,by simpa using h6⟩]))
 ·have h7:¬ (x.tdiv 2=y.tdiv 2∧x≠y):=fun h=>h7 ⟨by simpa using h.1,by simpa using h.2⟩
  have hand:g.and a b=(if y=1 then(g,x,(0:Int))
   else if x=y then(g,x,0)
   else match g.ands.findIdx? (fun p=>decide (p=(x,y)))with
    |some i=>(g,2*(g.inputs+1+i),0)
    |none=>if 2000≤g.vars then(⟨0,[]⟩,0,2)else(⟨g.inputs,g.ands ++ [(x,y)]⟩,2*(g.vars+1) - 2,0):Gr × Int × Int):=hand.trans (by rw[andT,if_neg h4,if_neg h7])
  rw[bin_eql,onB_v]
  refine gd_of (fun h8=>?_) (fun h8=>?_)
  ·rw[ldN_p (n:=2) p1 rfl]
   refine stA_of o2 rfl rfl fun S3 n3 o3 f3=>?_
   rw[ldN_p (n:=2) o3 rfl]
   exact fin (g,x,0) (k2.st (by omega) n3 f3) ok (hand.trans (by rw[if_pos (dT h8)]))
  have h8:=dF h8
  rw[bin_eql,onB_v]
  refine gd_of (fun h9=>?_) (fun h9=>?_)
  ·rw[ldN_p (n:=2) p1 rfl]
   refine stA_of o2 rfl rfl fun S3 n3 o3 f3=>?_
   rw[ldN_p (n:=2) o3 rfl]
   exact fin (g,x,0) (k2.st (by omega) n3 f3) ok (hand.trans (by rw[if_neg h8,if_pos (dT h9)]))
  have h9:=dF h9
  have hand:=hand.trans (by rw[if_neg h8,if_neg h9])
  refine loop36_0 (fun z S'=>S'=S2∧∃ i:Nat,z=aI i∧i≤g.ands.length∧∀ j (hj:j<g.ands.length),j<i→g.ands[j]≠(x,y))
   (fun z _=>g.ands.length - ((intA z).getD 0).toNat) ⟨rfl,0,rfl,Nat.zero_le _,fun j _ hj=>(Nat.not_lt_zero _ hj).elim⟩ ?_
  rintro _ S2 ⟨rfl,i,rfl,hi,hno⟩ KE hKE
  unfold b36_0
  have hl3:=r3
  have hv:=r4
  unfold Gr.vars at hv
  rw[shift_p,ld1_p p1 rfl rfl,lenS_pL,bin_lss,onB_v]
  refine gd_of (fun hlt=>?_) (fun hge=>?_)
  ·have hlt:i<g.ands.length:=by simpa using hlt
   rw[shift_p,ld1_p p1 rfl rfl,ixS_pL hlt,ldN_q2,bd,binP_eq,onB_v]
   refine gd_of (fun h10=>?_) (fun h10=>?_)
   ·have h10:g.ands[i]=(x,y):=dT h10
    have hf:g.ands.findIdx? (fun p=>decide (p=(x,y)))=some i:=by
     rw[List.findIdx?_eq_some_iff_getElem]
     exact⟨hlt,by simpa using h10,fun j hj=>by simpa using hno j (by omega) hj⟩
    have q:∀ T:Store,Keep S2 T→T.obj S.n=some (.cells 48 [g.cells] true):=fun T hT=>(hT.2 _ (by omega)).trans p1
    have e1:∀{S:Store} {K:AV→Store→Prop},bin .add 0 (aI g.inputs) (aI 1) S K=K (aI (g.inputs+1)) S:=bin_add (by omega) (by omega) 0
    have e2:∀{S:Store} {K:AV→Store→Prop},bin .add 0 (aI (g.inputs+1)) (aI i) S K=K (aI (g.inputs+1+i)) S:=bin_add (by omega) (by omega) 0
    have e3:∀{S:Store} {K:AV→Store→Prop},bin .mul 0 (aI 2) (aI (g.inputs+1+i)) S K=K (aI (2*(g.inputs+1+i))) S:=bin_mul (by omega) (by omega) 0
    refine⟨_,fun T hT=>by rw[ldN_p (n:=2) (q T hT) rfl];exact⟨rfl,rfl⟩,_,fun T hT=>by rw[shift_p];exact⟨rfl,rfl⟩,_,fun T hT=>by rw[ld1_p (q T hT) rfl rfl];exact⟨rfl,rfl⟩,_,fun T hT=>by rw[e1];exact⟨rfl,rfl⟩,_,fun T hT=>by rw[e2];exact⟨rfl,rfl⟩,_,fun T hT=>by rw[e3];exact⟨rfl,rfl⟩,?_⟩
    refine stA_of o2 rfl rfl fun S3 n3 o3 f3=>?_
    have q3:∀ T:Store,Keep S3 T→T.obj S.n=some (.cells 48 [g.cells] true):=fun T hT=>(hT.2 _ (by omega)).trans ((f3 _ (by omega)).trans p1)
    refine⟨fun T hT=>by rw[e3];exact⟨rfl,rfl⟩,fun T hT=>by rw[e2];exact⟨rfl,rfl⟩,fun T hT=>by rw[e1];exact⟨rfl,rfl⟩,fun T hT=>by rw[ld1_p (q3 T hT) rfl rfl];exact⟨rfl,rfl⟩,fun T hT=>by rw[shift_p];exact⟨rfl,rfl⟩,?_⟩
    rw[ldN_p (n:=2) o3 rfl]
    exact fin (g,2*(g.inputs+1+i),0) (k2.st (by omega) n3 f3) ok (hand.trans (by rw[hf]))
   ·have h10:¬ g.ands[i]=(x,y):=dF h10
    have hadd:∀ K:AV→Store→Prop,∀ S,bin .add 0 (.v (.int .i64 (i:Int))) (.v (.int .i64 1)) S K=K (aI (i+1:Nat)) S:=fun K S=>bin_add (by omega) (by omega) 0
    rw[hadd]
    refine hKE _ _ ⟨rfl,i+1,rfl,hlt,fun j hj hj'=>?_⟩ (by simp[intA];omega)
    rcases Nat.lt_or_ge j i with h|h
    ·exact hno j hj h
    ·have:j=i:=by omega
     subst this
     exact h10
  ·have hge:i=g.ands.length:=by simp at hge;omega
   subst hge
   have hf:g.ands.findIdx? (fun p=>decide (p=(x,y)))=none:=by
    rw[List.findIdx?_eq_none_iff]
    intro q hq
    obtain⟨j,hj,rfl⟩:=List.getElem_of_mem hq
    simpa using hno j hj hj
   rw[hf]at hand
   rw[ldN_p (n:=2) p1 rfl]
   refine callF_ans (ans11 hg (by omega) r1) ?_
   rw[bin_geq,onB_v]
   refine gd_of (fun h11=>?_) (fun h11=>?_)
   ·rw[bz]
    refine stA_of o2 rfl rfl fun S3 n3 o3 f3=>?_
    rw[ldN_p (n:=2) o3 rfl]
    exact fin (⟨0,[]⟩,0,2) (k2.st (by omega) n3 f3) (err _) (hand.trans (by simp only[if_pos (dT h11)]))
   have h11:=dF h11
   have hand:g.and a b=(⟨g.inputs,g.ands ++ [(x,y)]⟩,2*(g.vars+1) - 2,0):=hand.trans (by simp only[if_neg h11])
   refine boxA_of rfl fun S3 k3 n3 o3=>?_
   have p3:=(k3.2 S.n (by omega)).trans p1
   rw[shift_p,ld1_p p3 rfl rfl,shift_p]
   refine stF_of o3 (by simp) rfl fun S4 n4 o4 f4=>?_
   have p4:=(f4 S.n (by omega)).trans p3
   rw[shift_p,ld1_p o4 rfl rfl,shift_p,ld1_p p4 rfl rfl]
   have m2:=k2.1
   have m3:=k3.1
   have k4:Keep S S4:=(k2.trans k3).st (by omega) n4 f4
   have v4:S4.obj S1.n=_:=(f4 S1.n (by omega)).trans ((k3.2 S1.n (by omega)).trans o2)
   refine Own.appL (Own.nl S.n S4 96) (by omega) (ys:=g.ands.map fun p=>[aI p.1,aI p.2]) (fun c hc=>by obtain⟨p,_,rfl⟩:=List.mem_map.1 hc;rfl) (by simp;omega) (fun z1 S5 w5 b5 hz5=>?_) rfl
   rw[bd]
   refine bslP ?_
   have k5:Keep S S5:=w5.keep (S0:=S) (Nat.le_refl _) ⟨Nat.le_refl _,fun _ _ _=>rfl⟩ ⟨Nat.le_trans k4.1 b5.1,fun i hi=>(b5.2 i (by have:=k4.1;omega) (fun _ _ h=>by cases h)).trans (k4.2 i hi)⟩
   have e5:∀ i,i<S4.n→S5.obj i=S4.obj i:=fun i hi=>b5.2 i hi (fun _ _ h=>by cases h)
   have z5:∀ i b m,z1 = .s i b m→i=S4.n:=fun i b m e=>by
    rcases hz5 with h|⟨m',h⟩
    ·rw[h]at e;cases e
    ·rw[h]at e;cases e;rfl
   have n5:=b5.1
   refine w5.app (by have:=k5.1;omega) (c:=[aI x,aI y]) rfl (by simp;omega) (fun z2 S6 w6 b6 hz6=>?_) rfl
   have e6:∀ i,i<S4.n→S6.obj i=S4.obj i:=fun i hi=>(b6.2 i (by omega) (fun b m e=>by have:=z5 i b m e;omega)).trans (e5 i hi)
   have n6:=b6.1
   have k6:Keep S S6:=w5.keep (Nat.le_refl _) b6 k5
   obtain⟨m6,hz6⟩:=hz6
   rw[shift_p]
   refine stF_of ((e6 S2.n (by omega)).trans o4) (by simp) (by rw[hz6];rfl) fun S7 n7 o7 f7=>?_
   have p7:S7.obj S.n=_:=(f7 S.n (by omega)).trans ((e6 S.n (by omega)).trans p4)
   have v7:S7.obj S1.n=_:=(f7 S1.n (by omega)).trans ((e6 S1.n (by omega)).trans v4)
   have k7:Keep S S7:=k6.st (by omega) n7 f7
   have w7:Own S.n S7 z2 96 _:=w6.st (id:=S2.n) (fun b m e=>by rw[hz6]at e;injection e;omega) n7 f7
   have hlen2:(((g.ands.map fun p=>[aI p.1,aI p.2]) ++ [[aI x,aI y]]).length:Nat)=g.ands.length+1:=by simp
   have hz:∀(S:Store) (K:AV→Store→Prop),lenS z2 S K=K (aI (g.ands.length+1:Nat)) S:=fun S K=>by
    rcases w7 with⟨h,h'⟩|⟨id,h,_,_,_⟩
    ·rw[h]at hz6;cases hz6
    ·rw[h,lenS_s,List.nil_append,hlen2]
   have q:∀ T:Store,Keep S7 T→T.obj S2.n=some (.cells 48 [[aI g.inputs,z2]] true):=fun T hT=>(hT.2 _ (by omega)).trans o7
   have e1:∀{S:Store} {K:AV→Store→Prop},bin .mul 0 (aI 2) (aI (g.inputs+1+(g.ands.length+1:Nat))) S K=K (aI (2*(g.inputs+1+(g.ands.length+1:Nat)))) S:=bin_mul (by omega) (by omega) 0
   have e2:∀{S:Store} {K:AV→Store→Prop},bin .sub 0 (aI (2*(g.inputs+1+(g.ands.length+1:Nat)))) (aI 2) S K=K (aI (2*(g.inputs+1+(g.ands.length+1:Nat)) - 2)) S:=bin_sub (by omega) (by omega) 0
   refine⟨_,fun T hT=>by rw[ldN_p (n:=2) (q T hT) rfl];exact⟨rfl,rfl⟩,_,fun T hT=>by rw[ldN_p (n:=2) (q T hT) rfl];exact⟨rfl,rfl⟩,_,fun T hT=>callF_ans (vars11 hz r1 (by omega) (by omega)) ⟨rfl,rfl⟩,_,fun T hT=>by rw[e1];exact⟨rfl,rfl⟩,_,fun T hT=>by rw[e2];exact⟨rfl,rfl⟩,?_⟩
   refine stA_of v7 rfl rfl fun S8 n8 o8 f8=>?_
   refine⟨fun T hT=>by rw[e2];exact⟨rfl,rfl⟩,fun T hT=>by rw[e1];exact⟨rfl,rfl⟩,?_⟩
   rw[ldN_p (n:=2) o8 rfl]
   have w8:Own S.n S8 z2 96 _:=w7.st (id:=S1.n) (fun b m e=>by rw[hz6]at e;injection e;omega) n8 f8
   have hv2:g.vars=g.inputs+1+g.ands.length:=rfl
   have:=fin (S':=S8) (v:=.a [aI g.inputs,z2]) (⟨g.inputs,g.ands ++ [(x,y)]⟩,2*(g.vars+1) - 2,0) (k7.st (by omega) n8 f8) (cv_a2 (.v _) (w8.cv rfl (by simp) (fun i c c2 hc hc2=>?_))) hand
   ·rw[hv2,show g.inputs+1+(g.ands.length:Int)+1=g.inputs+1+(g.ands.length+1:Nat)by omega]at this
    exact this
   ·have:c=c2:=by
      rw[List.nil_append]at hc
      rw[List.map_append]at hc2
      exact Option.some.inj (hc.symm.trans hc2)
    subst this
    refine⟨rfl,fun k u u2 hu hu2=>?_⟩
    rw[hu]at hu2;cases hu2
    have hm:=List.mem_of_getElem? hc2
    rw[List.mem_map]at hm
    obtain⟨p,_,rfl⟩:=hm
    match k with
    |0=>cases hu;exact .v _
    |1=>cases hu;exact .v _
    |k+2=>simp at hu
section
variable {S:Store} {K:AV→Store→Prop}
theorem ixStr_b{b:ByteArray}{i:Nat}(h:i<b.size):ixStr (.v (.string b)) (aI i) S K=K (.v (.int .u8 (b[i]).toNat)) S:=by
 simp[ixStr,intA,h]
@[simp] theorem lenStr_b(b:ByteArray):lenStr (.v (.string b)) S K=K (aI b.size) S:=rfl
theorem bytesEq(a b:ByteArray):(a.toList == b.toList)=decide (a=b):=by
 rw[Bool.eq_iff_iff,beq_iff_eq,ByteArray.toList_eq,ByteArray.toList_eq,decide_eq_true_eq]
 exact⟨fun h=>ByteArray.ext (Array.toList_inj.mp h),fun h=>by rw[h]⟩
theorem bin_eqlS(a b:ByteArray)(kd:Nat):bin .eql kd (.v (.string a)) (.v (.string b)) S K=K (aB (decide (a=b))) S:=by simp[bin,b2,strB,bytesEq]
theorem bin_neqS(a b:ByteArray)(kd:Nat):bin .neq kd (.v (.string a)) (.v (.string b)) S K=K (aB (!decide (a=b))) S:=by simp[bin,b2,strB,bytesEq]
theorem ld1_qj{c:List AV}{j:Nat}{u:AV}(h:c[j]? = some u):ld1 (.q c j) S K=K u S:=by simp[ld1,rd1,place,h]
@[simp] theorem shift_q(c:List AV)(j n:Nat):shift (.q c j) n S K=K (.q c (j+n)) S:=rfl
end
def wordB(b:ByteArray):Bool:=decide (∀ i (h:i<b.size),33≤(b[i]).toNat∧(b[i]).toNat≤126) && (decide (0<b.size) && decide (b.size≤20))
theorem ans113(b:ByteArray)(hb:b.size≤9223372036854775807):Ans Pg 113 [.v (.string b)] (aB (wordB b)):=by
 intro S
 refine ACalls.ans_v (calls113 ?_)
 unfold m113
 refine loop113_0 (fun y S'=>S'=S∧∃ i:Nat,y=aI i∧i≤b.size∧∀ j (h:j<b.size),j<i→33≤(b[j]).toNat∧(b[j]).toNat≤126)
  (fun y _=>b.size - ((intA y).getD 0).toNat) ⟨rfl,0,rfl,Nat.zero_le _,fun j _ hj=>(Nat.not_lt_zero _ hj).elim⟩ ?_
 rintro _ S ⟨rfl,i,rfl,hi,hok⟩ KE hKE
 unfold b113_0
 rw[lenStr_b,bin_lss,onB_v]
 refine gd_of (fun hlt=>?_) (fun hge=>?_)
 ·have hlt:i<b.size:=by simpa using hlt
  have bad:¬ (33≤(b[i]).toNat∧(b[i]).toNat≤126)→wordB b=false:=fun h=>by
   simp only[wordB,Bool.and_eq_false_iff,decide_eq_false_iff_not]
   exact .inl fun h'=>h (h' i hlt)
  rw[ixStr_b hlt,bin_lss,onB_v]
  refine gd_of (fun h1=>⟨by rw[bad (fun h=>by have:=dT h1;omega)],Keep.refl _⟩) (fun h1=>?_)
  rw[ixStr_b hlt,bin_gtr,onB_v]
  refine gd_of (fun h2=>⟨by rw[bad (fun h=>by have:=dT h2;omega)],Keep.refl _⟩) (fun h2=>?_)
  have hadd:∀ K:AV→Store→Prop,∀ S,bin .add 0 (.v (.int .i64 (i:Int))) (.v (.int .i64 1)) S K=K (aI (i+1:Nat)) S:=fun K S=>bin_add (by omega) (by omega) 0
  rw[hadd]
  refine hKE _ _ ⟨rfl,i+1,rfl,hlt,fun j hj hj'=>?_⟩ (by simp[intA];omega)
  rcases Nat.lt_or_ge j i with h|h
  ·exact hok j hj h
  ·have:j=i:=by omega
   subst this
   have h1:=dF h1
   have h2:=dF h2
   omega
 ·have hge:i=b.size:=by simp at hge;omega
  subst hge
  have hall:decide (∀ i (h:i<b.size),33≤(b[i]).toNat∧(b[i]).toNat≤126)=true:=decide_eq_true fun j hj=>hok j hj hj
  rw[lenStr_b,bin_gtr,onB_v]
  refine gd_of (fun h1=>?_) (fun h1=>⟨?_,Keep.refl _⟩)
  ·rw[lenStr_b,bin_leq]
   refine⟨?_,Keep.refl _⟩
   simp only[wordB,hall,Bool.true_and,show 0<b.size by simpa using h1,decide_true]
   rw[show decide ((b.size:Int)≤20)=decide (b.size≤20)from decide_eq_decide.2 (by omega)]
  ·simp[wordB,show ¬ 0<b.size by simpa using h1]
theorem ans107(b:ByteArray)(hb:b.size≤9223372036854775807):Ans Pg 107 [.v (.string b)] (aB (wordB b)):=by
 intro S
 refine ACalls.ans_v (calls107 ?_)
 unfold m107
 rw[lenStr_b]
 refine loop107_0 (fun y S'=>S'=S∧∃ i:Nat,y=aI i∧i≤b.size∧∀ j (h:j<b.size),j<i→33≤(b[j]).toNat∧(b[j]).toNat≤126)
  (fun y _=>b.size - ((intA y).getD 0).toNat) ⟨rfl,0,rfl,Nat.zero_le _,fun j _ hj=>(Nat.not_lt_zero _ hj).elim⟩ ?_
 rintro _ S ⟨rfl,i,rfl,hi,hok⟩ KE hKE
 unfold b107_0
 rw[bin_lss,onB_v]
 refine gd_of (fun hlt=>?_) (fun hge=>?_)
 ·have hlt:i<b.size:=by simpa using hlt
  have bad:¬ (33≤(b[i]).toNat∧(b[i]).toNat≤126)→wordB b=false:=fun h=>by
   simp only[wordB,Bool.and_eq_false_iff,decide_eq_false_iff_not]
   exact .inl fun h'=>h (h' i hlt)
  rw[ixStr_b hlt,bin_leq,onB_v]
  refine gd_of (fun h1=>⟨by rw[bad (fun h=>by have:=dT h1;omega)],Keep.refl _⟩) (fun h1=>?_)
  rw[ixStr_b hlt,bin_gtr,onB_v]
  refine gd_of (fun h2=>⟨by rw[bad (fun h=>by have:=dT h2;omega)],Keep.refl _⟩) (fun h2=>?_)
  have hadd:∀ K:AV→Store→Prop,∀ S,bin .add 0 (.v (.int .i64 (i:Int))) (.v (.int .i64 1)) S K=K (aI (i+1:Nat)) S:=fun K S=>bin_add (by omega) (by omega) 0
  rw[hadd]
  refine hKE _ _ ⟨rfl,i+1,rfl,hlt,fun j hj hj'=>?_⟩ (by simp[intA];omega)
  rcases Nat.lt_or_ge j i with h|h
  ·exact hok j hj h
  ·have:j=i:=by omega
   subst this
   have h1:=dF h1
   have h2:=dF h2
   omega
 ·have hge:i=b.size:=by simp at hge;omega
  subst hge
  have hall:decide (∀ i (h:i<b.size),33≤(b[i]).toNat∧(b[i]).toNat≤126)=true:=decide_eq_true fun j hj=>hok j hj hj
  have he:decide (b={ data:=#[] })=decide (b.size=0):=by
   by_cases h:b.size=0
   ·have:b={ data:=#[] }:=byteArray_ext (Array.eq_empty_of_size_eq_zero h)
    subst this
    rfl
   ·have:¬ b={ data:=#[] }:=fun e=>h (by rw[e];rfl)
    simp[this,h]
  rw[bin_neqS,he,onB_v]
  refine gd_of (fun h1=>?_) (fun h1=>⟨?_,Keep.refl _⟩)
  ·have h1:b.size≠0:=by simpa using h1
   rw[lenStr_b,bin_leq]
   refine⟨?_,Keep.refl _⟩
   simp only[wordB,hall,Bool.true_and,show 0<b.size by omega,decide_true]
   rw[show decide ((b.size:Int)≤20)=decide (b.size≤20)from decide_eq_decide.2 (by omega)]
  ·have h1:b.size=0:=by simpa using h1
   simp[wordB,h1]
def rankI(k:Int):Int:=if k=105 then 0 else if k=108 then 1 else if k=111 then 2 else if k=98 then 3 else if k=99 then 4 else if k=102 then 5 else -1
def kindS:ByteArray:={ data:=#[105,108,111,98,99,102] }
def kindAt(i:Nat):Int:=[105,108,111,98,99,102].getD i 0
theorem kindS_get{i:Nat}(h:i<6):∃ h':i<kindS.size,((kindS[i]'h').toNat:Int)=kindAt i:=by
 match i,h with
 |0,_|1,_|2,_|3,_|4,_|5,_=>exact⟨by decide,by decide⟩
theorem rankI_at{k:Int}{i:Nat}(h:i<6)(hk:kindAt i=k):rankI k=i:=by
 subst hk
 match i,h with
 |0,_|1,_|2,_|3,_|4,_|5,_=>decide
theorem rankI_no{k:Int}(h:∀ i,i<6→kindAt i≠k):rankI k = -1:=by
 have h0:(105:Int)≠k:=h 0 (by decide)
 have h1:(108:Int)≠k:=h 1 (by decide)
 have h2:(111:Int)≠k:=h 2 (by decide)
 have h3:(98:Int)≠k:=h 3 (by decide)
 have h4:(99:Int)≠k:=h 4 (by decide)
 have h5:(102:Int)≠k:=h 5 (by decide)
 simp only[rankI]
 rw[if_neg (Ne.symm h0),if_neg (Ne.symm h1),if_neg (Ne.symm h2),if_neg (Ne.symm h3),if_neg (Ne.symm h4),if_neg (Ne.symm h5)]
theorem ans115(k:Int):Ans Pg 115 [.v (.int .u8 k)] (aI (rankI k)):=by
 intro S
 refine ACalls.ans_v (calls115 ?_)
 unfold m115
 refine loop115_0 (fun y S'=>S'=S∧∃ i:Nat,y=aI i∧i≤6∧∀ j,j<i→kindAt j≠k)
  (fun y _=>6 - ((intA y).getD 0).toNat) ⟨rfl,0,rfl,Nat.zero_le _,fun j hj=>(Nat.not_lt_zero _ hj).elim⟩ ?_
 rintro _ S ⟨rfl,i,rfl,hi,hno⟩ KE hKE
 unfold b115_0
 rw[lenStr_b,bin_lss,onB_v]
 refine gd_of (fun hlt=>?_) (fun hge=>?_)
 ·have hlt:i<6:=by have:=dT hlt;exact Int.ofNat_lt.1 this
  obtain⟨h',he⟩:=kindS_get hlt
  show ixStr (.v (.string kindS)) _ _ _
  rw[ixStr_b h',he,bin_eql,onB_v]
  refine gd_of (fun h1=>⟨?_,Keep.refl _⟩) (fun h1=>?_)
  ·rw[rankI_at hlt (dT h1)]
  ·have hadd:∀ K:AV→Store→Prop,∀ S,bin .add 0 (.v (.int .i64 (i:Int))) (.v (.int .i64 1)) S K=K (aI (i+1:Nat)) S:=fun K S=>bin_add (by omega) (by omega) 0
   rw[hadd]
   refine hKE _ _ ⟨rfl,i+1,rfl,hlt,fun j hj=>?_⟩ (by simp[intA];omega)
   rcases Nat.lt_or_ge j i with h|h
   ·exact hno j h
   ·have:j=i:=by omega
    subst this
    exact dF h1
 ·have hge:i=6:=by
    have:¬ ((i:Int)<6):=dF hge
    omega
  subst hge
  rw[rankI_no hno]
  exact⟨rfl,Keep.refl _⟩
theorem ans108(k:Int)(h0:0≤k)(h1:k<256):Ans Pg 108 [.v (.int .u8 k)] (aI (rankI k)):=by
 intro S
 refine ACalls.ans_v (calls108 ?_)
 unfold m108 rngS
 refine loop108_0 (fun S'=>Keep S S'∧∃ i:Nat,S'.obj S.n=some (.sit kindS i)∧i≤6∧∀ j,j<i→kindAt j≠k)
  (fun S'=>match S'.obj S.n with|some (.sit _ i)=>6 - i|_=>0) ⟨(Keep.refl S).new _,0,by rw[new_self];rfl,Nat.zero_le _,fun j hj=>(Nat.not_lt_zero _ hj).elim⟩ ?_
 rintro S1 ⟨k1,i,o1,hi,hno⟩ KE hKE
 unfold b108_0 nextM
 simp only[o1]
 refine⟨fun hlt=>?_,fun hge=>?_⟩
 ·have hlt:i<6:=hlt
  have hdec:(((Utf8.decode kindS i).1:Nat):Int)=kindAt i∧(Utf8.decode kindS i).2=1:=by
   match i,hlt with
   |0,_|1,_|2,_|3,_|4,_|5,_=>exact⟨by decide,by decide⟩
  rw[hdec.1,hdec.2]
  show extr _ _ _ _
  rw[extr0]
  show onB _ _
  rw[onB_v,gd_true,extr1,extr2,convI_v]
  have hw:IntKind.i32.wrap k=k:=by
   rw[IntKind.wrap_i32];omega
  rw[hw,bin_eql,onB_v]
  refine gd_of (fun h2=>⟨?_,k1.upd (Nat.le_refl _) _⟩) (fun h2=>?_)
  ·rw[rankI_at hlt (dT h2).symm]
  ·refine hKE _ ⟨k1.upd (Nat.le_refl _) _,i+1,upd_self _ _,hlt,fun j hj=>?_⟩ (by simp only[upd_self,o1];omega)
   rcases Nat.lt_or_ge j i with h|h
   ·exact hno j h
   ·have:j=i:=by omega
    subst this
    exact Ne.symm (dF h2)
 ·have hge:i=6:=by
    have:¬ (i<6):=hge
    omega
  subst hge
  show extr _ _ _ _
  rw[over,extr0,onB_v,gd_false,rankI_no hno]
  exact⟨rfl,k1⟩
theorem ans120(a:Int):Ans Pg 120 [aI a] (aB false):=by
 intro S
 refine ACalls.ans_v (calls120 ?_)
 unfold m120
 rw[bin_neq]
 exact⟨by simp,Keep.refl _⟩
def cmpZ(a b:Int):Int:=if a<b then -1 else if b<a then 1 else 0
theorem ans110(a b:Int):Ans Pg 110 [aI a,aI b] (aI (cmpZ a b)):=by
 intro S
 refine ACalls.ans_v (calls110 ?_)
 unfold m110
 refine callF_ans (ans120 a) (callF_ans (ans120 b) ?_)
 rw[onB_v,gd_false,onB_v,gd_false,bin_lss,onB_v]
 refine gd_of (fun h=>⟨?_,Keep.refl _⟩) (fun h=>?_)
 ·rw[cmpZ,if_pos (dT h)]
 rw[bin_gtr,onB_v]
 have h:=dF h
 refine gd_of (fun h2=>⟨?_,Keep.refl _⟩) (fun h2=>⟨?_,Keep.refl _⟩)
 ·rw[cmpZ,if_neg h,if_pos (dT h2)]
 ·rw[cmpZ,if_neg h,if_neg (dF h2)]
theorem ans109(a b:Int):Ans Pg 109 [.l [[aI a],[aI b]]] (aI (if a≠0 then a else b)):=by
 intro S
 refine ACalls.ans_v (calls109 ?_)
 unfold m109
 rw[lenS_l]
 refine loop109_0 (fun y S'=>S'=S∧∃ i:Nat,y=aI i∧i≤2∧(1≤i→a=0)∧(2≤i→b=0))
  (fun y _=>2 - ((intA y).getD 0).toNat) ⟨rfl,0,rfl,Nat.zero_le _,fun h=>by omega,fun h=>by omega⟩ ?_
 rintro _ S ⟨rfl,i,rfl,hi,h1,h2⟩ KE hKE
 unfold b109_0
 rw[bin_lss,onB_v]
 refine gd_of (fun hlt=>?_) (fun hge=>?_)
 ·have hlt:i<2:=by have:=dT hlt;exact Int.ofNat_lt.1 this
  have hadd:∀ K:AV→Store→Prop,∀ S,bin .add 0 (.v (.int .i64 (i:Int))) (.v (.int .i64 1)) S K=K (aI (i+1:Nat)) S:=fun K S=>bin_add (by omega) (by omega) 0
  match i,hlt with
  |0,_ =>
   rw[show ∀ K:AV→Store→Prop,ixS 3 1 (.l [[aI a],[aI b]]) (aI ((0:Nat):Int)) S K=K (.q [aI a] 0) S from fun K=>ixS_l (es:=[[aI a],[aI b]]) (i:=0) (by simp) rfl,ld1_qj rfl,bin_neq,onB_v]
   refine gd_of (fun h=>⟨?_,Keep.refl _⟩) (fun h=>?_)
   ·rw[if_pos (by simpa using h)]
   ·rw[hadd]
    exact hKE _ _ ⟨rfl,1,rfl,by decide,fun _=>by simpa using h,fun h=>by omega⟩ (by simp[intA])
  |1,_ =>
   have ha:=h1 (Nat.le_refl _)
   rw[show ∀ K:AV→Store→Prop,ixS 3 1 (.l [[aI a],[aI b]]) (aI ((1:Nat):Int)) S K=K (.q [aI b] 0) S from fun K=>ixS_l (es:=[[aI a],[aI b]]) (i:=1) (by simp) rfl,ld1_qj rfl,bin_neq,onB_v]
   refine gd_of (fun h=>⟨?_,Keep.refl _⟩) (fun h=>?_)
   ·rw[if_neg (by simp[ha])]
   ·rw[hadd]
    exact hKE _ _ ⟨rfl,2,rfl,by decide,fun _=>ha,fun _=>by simpa using h⟩ (by simp[intA])
 ·have hge:i=2:=by
    have:¬ ((i:Int)<2):=dF hge
    omega
  subst hge
  refine⟨?_,Keep.refl _⟩
  rw[h1 (by decide),h2 (by decide)]
  rfl
structure Na where
 kind:Int
 pos:Int
 text:ByteArray
 deriving DecidableEq
structure Ci where
 inputs:Int
 latches:List (Int × Int)
 ands:List (Int × Int)
 outs:List Int
 bads:List Int
 cons:List Int
 fair:List Int
 names:List Na
def Na.row(x:Na):List AV:=[.v (.int .u8 x.kind),aI x.pos,.v (.string x.text)]
def nL(l:List Na):AV:=.l (l.map Na.row)
def Ci.cells(c:Ci):List AV:=[aI c.inputs,pL c.latches,pL c.ands,aL aI c.outs,aL aI c.bads,aL aI c.cons,aL aI c.fair,nL c.names]
def Ci.av(c:Ci):AV:=.a c.cells
def Ci.gr(c:Ci):Gr:=⟨IntKind.i64.wrap (c.inputs+c.latches.length),c.ands⟩
structure Ci.ok (c:Ci):Prop where
 inp:i64R c.inputs
 llen:c.latches.length≤1000000
 alen:c.ands.length≤1000000
 lats:∀ p∈c.latches,i64R p.1∧i64R p.2
 pairs:∀ p∈c.ands,i64R p.1∧i64R p.2
 outs:(∀ x∈c.outs,i64R x)∧c.outs.length≤9223372036854775807
 bads:(∀ x∈c.bads,i64R x)∧c.bads.length≤9223372036854775807
 cons:(∀ x∈c.cons,i64R x)∧c.cons.length≤9223372036854775807
 fair:(∀ x∈c.fair,i64R x)∧c.fair.length≤9223372036854775807
 names:∀ x∈c.names,0≤x.kind∧x.kind<256∧i64R x.pos∧x.text.size≤9223372036854775807
 nlen:c.names.length≤1000000
theorem wrapR(n:Int):i64R (IntKind.i64.wrap n):=by
 unfold i64R
 rw[IntKind.wrap_i64];omega
theorem Ci.ok.gr{c:Ci}(h:c.ok):c.gr.ok:=⟨wrapR _,h.alen,h.pairs⟩
theorem bin_addW{a b:Int}(kd:Nat){S:Store}{K:AV→Store→Prop}:bin .add kd (aI a) (aI b) S K=K (aI (IntKind.i64.wrap (a+b))) S:=by
 simp[bin,b2,isSh,cmpI,ariI]
theorem ans44(c:Ci):Ans Pg 44 [c.av] c.gr.av:=by
 intro S
 refine ACalls.tree (calls44 ?_)
 unfold m44
 refine boxA_of rfl fun S1 k1 n1 o1=>?_
 refine boxA_of rfl fun S2 k2 n2 o2=>?_
 have p1:S2.obj S.n=_:=(k2.2 S.n (by omega)).trans o1
 rw[shift_p,ld1_p p1 rfl rfl,shift_p,ld1_p p1 rfl rfl,lenS_pL,bin_addW,shift_p,ld1_p p1 rfl rfl,bld_of (cs:=c.gr.cells) rfl]
 refine stA_of o2 rfl rfl fun S3 n3 o3 f3=>?_
 rw[ldN_p (n:=2) o3 rfl]
 exact⟨_,rfl,(k1.trans k2).st (by omega) n3 f3,c.gr.tree _ _⟩
theorem ans12(c:Ci):Ans Pg 12 [c.av] c.gr.av:=by
 intro S
 refine ACalls.tree (calls12 ?_)
 unfold m12
 refine boxA_of rfl fun S1 k1 n1 o1=>?_
 refine boxA_of rfl fun S2 k2 n2 o2=>?_
 have p1:S2.obj S.n=_:=(k2.2 S.n (by omega)).trans o1
 rw[shift_p,ld1_p p1 rfl rfl,shift_p,ld1_p p1 rfl rfl,lenS_pL,bin_addW,shift_p,ld1_p p1 rfl rfl,bld_of (cs:=c.gr.cells) rfl]
 refine stA_of o2 rfl rfl fun S3 n3 o3 f3=>?_
 rw[ldN_p (n:=2) o3 rfl]
 exact⟨_,rfl,(k1.trans k2).st (by omega) n3 f3,c.gr.tree _ _⟩
def Ci.many(c:Ci)(k:Int):Int:=if k=105 then c.inputs else if k=108 then c.latches.length else if k=111 then c.outs.length else if k=98 then c.bads.length else if k=99 then c.cons.length else if k=102 then c.fair.length else 0
def Ci.manyE(c:Ci):List (Key × AV):=[(.i 105,aI c.inputs),(.i 108,aI c.latches.length),(.i 111,aI c.outs.length),(.i 98,aI c.bads.length),(.i 99,aI c.cons.length),(.i 102,aI c.fair.length)]
theorem keyI(k:IntKind)(a:Int):keyA (.i k) (.v (.int k a))=some (.i a):=by simp[keyA]
theorem ans79(c:Ci):Ans Pg 79 [c.av] (.mt (.i .i32) c.manyE):=by
 intro S
 refine ACalls.tree (calls79 ?_)
 unfold m79
 refine boxA_of rfl fun S1 k1 n1 o1=>?_
 unfold mkM
 show shift _ _ _ _
 have p1:(S1.new (.map (.i .i32) [] true)).obj S.n=_:=(new_lt (by omega)).trans o1
 have u:∀{es:List (Key × AV)},(Store.upd (S1.new (.map (.i .i32) [] true)) S1.n (.map (.i .i32) es true)).obj S.n=_:=fun{es}=>(upd_ne (by omega)).trans p1
 rw[shift_p,ld1_p p1 rfl rfl,updM_m (new_self _) (keyI _ _)]
 rw[shift_p,ld1_p u rfl rfl,lenS_pL,updM_m (upd_self _ _) (keyI _ _),upd_upd]
 rw[shift_p,ld1_p u rfl rfl,lenS_aL,updM_m (upd_self _ _) (keyI _ _),upd_upd]
 rw[shift_p,ld1_p u rfl rfl,lenS_aL,updM_m (upd_self _ _) (keyI _ _),upd_upd]
 rw[shift_p,ld1_p u rfl rfl,lenS_aL,updM_m (upd_self _ _) (keyI _ _),upd_upd]
 rw[shift_p,ld1_p u rfl rfl,lenS_aL,updM_m (upd_self _ _) (keyI _ _),upd_upd]
 refine⟨_,rfl,(k1.new _).upd (by omega) _,.m' S1.n (.i .i32) c.manyE c.manyE ?_ rfl (fun i e e2 h h2=>by rw[h]at h2;cases h2;rfl) (fun i e e2 h h2=>?_)⟩
 ·rw[frz_ofM (upd_self _ _)]
  have:newer S.n S1.n=true:=by simp[newer];omega
  rw[this]
  rfl
 ·rw[h]at h2;cases h2
  match i with
  |0|1|2|3|4|5=>cases h;exact .v _
  |i+6=>simp[Ci.manyE]at h
theorem lkp_many(c:Ci)(k:Int):((lkp c.manyE (.i k)).getD (aI 0))=aI (c.many k):=by
 by_cases h0:k=105
 ·subst h0;rfl
 by_cases h1:k=108
 ·subst h1;rfl
 by_cases h2:k=111
 ·subst h2;rfl
 by_cases h3:k=98
 ·subst h3;rfl
 by_cases h4:k=99
 ·subst h4;rfl
 by_cases h5:k=102
 ·subst h5;rfl
 have:kix c.manyE (.i k)=none:=by
  rw[kix_none]
  simp[Ci.manyE,h0,h1,h2,h3,h4,h5]
 simp[lkp,this,Ci.many,h0,h1,h2,h3,h4,h5]
theorem rank_many{c:Ci}{k:Int}(h:¬ rankI k<0):c.many k = [c.inputs,c.latches.length,c.outs.length,c.bads.length,c.cons.length,c.fair.length].getD (rankI k).toNat 0:=by
 unfold rankI at h ⊢
 unfold Ci.many
 repeat' split
 all_goals first|rfl|(exfalso;apply h;simp[*])
theorem many_no{c:Ci}{k:Int}(h:rankI k<0):c.many k=0:=by
 unfold rankI at h
 unfold Ci.many
 repeat' split
 all_goals first|rfl|(simp[*]at h)
theorem rank_lt(k:Int):rankI k<6:=by
 unfold rankI
 repeat' split
 all_goals decide
theorem bsl6{e:Nat}{z a b c d f g:Int}{S:Store}{K:AV→Store→Prop}(k:K (.l [[aI a],[aI b],[aI c],[aI d],[aI f],[aI g]]) S):bslN e 1 6 [aI z] [(0,aI a),(1,aI b),(2,aI c),(3,aI d),(4,aI f),(5,aI g)] S K:=by
 refine⟨[aI a,aI b,aI c,aI d,aI f,aI g],?_,.inr ?_⟩
 ·simp[fillA,cells_of_one,spl,List.range_succ,cellsOf,AV.one,Value.oneCell']
 ·simpa[chunks,List.range_succ]using k
theorem ans114(c:Ci)(k:Int):Ans Pg 114 [c.av,.v (.int .u8 k)] (aI (c.many k)):=by
 intro S
 refine ACalls.ans_v (calls114 ?_)
 unfold m114
 refine boxA_of rfl fun S1 k1 n1 o1=>?_
 refine callF_ans (ans115 k) ?_
 rw[bin_lss,onB_v]
 refine gd_of (fun h=>⟨?_,k1⟩) (fun h=>?_)
 ·rw[many_no (dT h)]
 have h:¬ rankI k<0:=dF h
 rw[shift_p,ld1_p o1 rfl rfl,shift_p,ld1_p o1 rfl rfl,lenS_pL,shift_p,ld1_p o1 rfl rfl,lenS_aL,shift_p,ld1_p o1 rfl rfl,lenS_aL,shift_p,ld1_p o1 rfl rfl,lenS_aL,shift_p,ld1_p o1 rfl rfl,lenS_aL]
 refine bsl6 ?_
 obtain⟨r,hr⟩:=Int.eq_ofNat_of_zero_le (show 0≤rankI k by omega)
 have hr6:r<6:=by have:=rank_lt k;omega
 rw[rank_many h,hr]
 match r,hr6 with
 |0,_|1,_|2,_|3,_|4,_|5,_ =>
  rw[ixS_l (by simp) (by rfl),ld1_qj rfl]
  exact⟨rfl,k1⟩
section
set_option maxRecDepth 100000
def c106:Code:=(Tryz.f106.body).getD .skip
def r106:List ResultVar:=Tryz.f106.results.toList
def env106_0(y0 y1 y7 y8:AV):List AV:=[y0,y1,y7,y8]
def lv106_0:List Nat:=[0,1,7,8]
def ms106:List (List Nat):=[lv106_0,[]]
def m106(x0 x1:AV)(S:Store)(Q:PoT):Prop:=
 lenS x0 S fun a S=>loopV lv106_0 (vc Pg (c106.at_ [1,0,1,0,0]) (ms106.drop 1)) 19 (env106_0 x0 x1 a (.v (.int .i64 0))) S (blockK 0 (seqK (vc Pg (c106.at_ [1,1]) (ms106.drop 1)) (bodyK Pg r106 Q)))
theorem calls106{x0 x1:AV}{S:Store}{Q:PoT}(h:m106 x0 x1 S Q):ACalls Pg 106 [x0,x1] S Q:=
 calls_of_vc (fn:=Tryz.f106) (c:=c106) (n:=19) Tryz.func106 (by kernel_rfl) (by kernel_rfl) (by kernel_rfl) ms106 (Eq.mpr (by kernel_rfl) h)
def b106_0(y0 y1 y7 y8:AV)(S:Store)(KE0:KeT)(Q:PoT):Prop:=
 bin .lss 0 y8 y7 S fun a S=>onB a fun b=>gd b (ixS 3 1 y0 y8 S fun c S=>ld1 c S fun d S=>callV Pg y1 [d] S (fun e S=>onB e fun b=>gd b (Q (.ret y8) S) (bin .add 0 y8 (.v (.int .i64 1)) S fun f S=>KE0 19 (env106_0 y0 y1 y7 f) S)) (fun u S=>Q (.pan u) S)) (Q (.ret (.v (.int .i64 (-1)))) S)
theorem b106_0_eq(y0 y1 y7 y8:AV)(S:Store)(KE0:KeT)(Q:PoT):vc Pg (c106.at_ [1,0,1,0,0]) (ms106.drop 1) (mkE 19 lv106_0 (env106_0 y0 y1 y7 y8)) S (thenK (fgK lv106_0 KE0) (blockK 0 (seqK (vc Pg (c106.at_ [1,1]) (ms106.drop 1)) (bodyK Pg r106 Q))))=b106_0 y0 y1 y7 y8 S KE0 Q:=by kernel_rfl
theorem loop106_0{y0 y1 y7:AV}{y80:AV}{S:Store}{Q:PoT}(I:AV→Store→Prop)(μ:AV→Store→Nat)(h0:I y80 S)
    (hr:∀(y8:AV) (S:Store),I y8 S→∀ KE0:KeT,(∀(y8':AV) (S':Store),I y8' S'→μ y8' S'<μ y8 S→KE0 19 (env106_0 y0 y1 y7 y8') S')→b106_0 y0 y1 y7 y8 S KE0 Q):
    loopV lv106_0 (vc Pg (c106.at_ [1,0,1,0,0]) (ms106.drop 1)) 19 (env106_0 y0 y1 y7 y80) S (blockK 0 (seqK (vc Pg (c106.at_ [1,1]) (ms106.drop 1)) (bodyK Pg r106 Q))):=by
 refine⟨fun n e S=>n=19∧∃ y8:AV,e=(env106_0 y0 y1 y7 y8)∧I y8 S,fun _ e S=>μ (e.getD 3 .j) S,?_,?_⟩
 ·exact⟨_,_,Wk.refl _ _,rfl,_,rfl,h0⟩
 ·rintro _ e S ⟨rfl,y8,rfl,hI⟩
  exact(b106_0_eq _ _ _ _ _ _ _).mpr (hr y8 S hI _ (fun y8' S' hI' hm=>⟨_,_,Wk.refl _ _,⟨rfl,_,rfl,hI'⟩,hm⟩))
def c84:Code:=(Tryz.f84.body).getD .skip
def ms84:List (List Nat):=[[]]
def m84(x0 x1:AV)(S:Store)(Q:PoT):Prop:=
 callF Pg 106 [x0,x1] S Q fun a S=>bin .geq 0 a (.v (.int .i64 0)) S fun c S=>Q (.ret c) S
theorem calls84{x0 x1:AV}{S:Store}{Q:PoT}(h:m84 x0 x1 S Q):ACalls Pg 84 [x0,x1] S Q:=
 calls_of_vc (fn:=Tryz.f84) (c:=c84) (n:=9) Tryz.func84 (by kernel_rfl) (by kernel_rfl) (by kernel_rfl) ms84 (Eq.mpr (by kernel_rfl) h)
end
def idxOf(o:Option Nat):Int:=match o with|some i=>i|none=>-1
theorem find_at{α:Type}{g:α→Bool}{l:List α}{i:Nat}(hi:i<l.length)(hg:g l[i]=true)(h:∀ k (hk:k<i),g (l[k]'(Nat.lt_trans hk hi))=false):l.findIdx? g=some i:=by
 rw[List.findIdx?_eq_some_iff_getElem]
 exact⟨hi,hg,fun j hj=>by simp[h j hj]⟩
theorem find_none{α:Type}{g:α→Bool}{l:List α}(h:∀ k (hk:k<l.length),g l[k]=false):l.findIdx? g=none:=by
 rw[List.findIdx?_eq_none_iff]
 intro x hx
 obtain⟨k,hk,rfl⟩:=List.mem_iff_getElem.1 hx
 exact h k hk
theorem at106{α:Type}{f:α→AV}{l:List α}(hl:l.length≤9223372036854775807){g:α→Bool}{fn:FuncId}{fs cs:List AV}{S:Store}
    (hf:∀ x,x∈l→AnsAt Pg fn (fs ++ [f x]++cs) S (aB (g x))):AnsAt Pg 106 [aL f l,.f (.func fn) fs cs] S (aI (idxOf (l.findIdx? g))):=by
 refine calls106 ?_
 unfold m106
 rw[lenS_aL]
 refine loop106_0 (fun y S'=>S'=S∧∃ i:Nat,y=aI i∧i≤l.length∧∀ k (hk:k<l.length),k<i→g l[k]=false) (fun y _=>l.length - ((intA y).getD 0).toNat) ⟨rfl,0,rfl,Nat.zero_le _,fun k _ h=>absurd h (Nat.not_lt_zero _)⟩ ?_
 rintro _ _ ⟨rfl,i,rfl,hi,hk⟩ KE hKE
 unfold b106_0 aI
 rw[bin_lss,onB_v]
 refine gd_of (fun h=>?_) (fun h=>?_)
 ·have hlt:i<l.length:=by simpa using h
  rw[ixS_aL hlt,ld1_q]
  refine callV_at (hf _ (List.getElem_mem hlt)) ?_
  unfold aB
  rw[onB_v]
  refine gd_of (fun hg=>⟨?_,rfl⟩) (fun hg=>?_)
  ·rw[find_at hlt hg (fun k hk'=>hk k _ hk')];rfl
  ·rw[bin_add (by omega) (by omega)]
   refine hKE _ _ ⟨rfl,i+1,rfl,hlt,fun k hk1 hk2=>?_⟩ ?_
   ·by_cases e:k=i
    ·subst e;exact hg
    ·exact hk k hk1 (by omega)
   ·simp[intA,aI];omega
 ·have hge:i=l.length:=by simp at h;omega
  subst hge
  rw[find_none (fun k hk'=>hk k hk' hk')]
  exact⟨rfl,rfl⟩
theorem idx_any{α:Type}(g:α→Bool)(l:List α):decide (0≤idxOf (l.findIdx? g))=l.any g:=by
 cases h:l.findIdx? g with
 |none =>
  rw[List.findIdx?_eq_none_iff]at h
  have:l.any g=false:=by simpa[List.any_eq_false]using h
  rw[this];rfl
 |some i =>
  rw[List.findIdx?_eq_some_iff_getElem]at h
  obtain⟨hi,hg,_⟩:=h
  have:l.any g=true:=List.any_eq_true.2 ⟨_,List.getElem_mem hi,by simpa using hg⟩
  rw[this]
  simp[idxOf]
theorem at84{α:Type}{f:α→AV}{l:List α}(hl:l.length≤9223372036854775807){g:α→Bool}{fn:FuncId}{fs cs:List AV}{S:Store}
    (hf:∀ x,x∈l→AnsAt Pg fn (fs ++ [f x]++cs) S (aB (g x))):AnsAt Pg 84 [aL f l,.f (.func fn) fs cs] S (aB (l.any g)):=by
 refine calls84 ?_
 unfold m84
 refine callF_at (at106 hl hf) ?_
 unfold aI
 rw[bin_geq,idx_any]
 exact⟨rfl,rfl⟩
structure Sp where
 bits:Int
 valid:List Bool
 initial:List Bool
 next:List (List Int)
 fair:List (List Bool)
def fits(s:Sp)(l:List (List Bool)):Bool:=
 decide (s.next.length=s.valid.length) && s.fair.all (fun p=>decide (p.length=s.valid.length)) && l.all (fun p=>decide (p.length=s.valid.length)) && s.next.all (fun x=>x.all fun i=>decide (0≤i) && decide (i<s.valid.length))
end
end Go.Proofs.YtfhekpnddoihkaaGreat.G

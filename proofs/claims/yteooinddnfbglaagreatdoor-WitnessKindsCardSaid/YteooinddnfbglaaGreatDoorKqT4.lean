/- Witness -/
import Derived.Test.YteooinddnfbglaaGreatDoorProg
import Derived.KernelRfl
import Derived.Test.YteooinddnfbglaaGreatDoorKqT3
set_option linter.unusedVariables false
set_option linter.unusedSimpArgs false
set_option linter.unusedSectionVars false
namespace Go.Proofs.YteooinddnfbglaaGreatDoor.G
open Go Go.Ab
noncomputable section
section
set_option maxRecDepth 100000
def c84:Code:=(Tryz.f84.body).getD .skip
def r84:List ResultVar:=Tryz.f84.results.toList
def LX(y1 y2 y3 y6 y9:AV):List AV:=[y1,y2,y3,y6,y9]
def Tk:List Nat:=[1,2,3,6,9]
def YQ:List (List Nat):=[Tk,[]]
abbrev Zj(a:AV)(S:Aa)(c d:AV)(Q:Aq)(e:AV):Prop:=bin .eql 0 a (aI 1) S fun f S=>Fi f (AA 2 c S fun g S=>A8 2 d g S fun h S=>AA 2 d S fun i _=>Q (.ret (.t [i,e,aI 0])) S) (bin .eql 0 e a S fun k S=>Fi k (AA 2 c S fun l S=>A8 2 d l S fun m S=>AA 2 d S fun n _=>Q (.ret (.t [n,e,aI 0])) S) (Ap Tk (vc Pg (c84.at_ [1,1,1,1,0,1,0,0]) (YQ.drop 1)) 105 (LX e a c d (aI 0)) S (Ak 1 (Av (vc Pg (c84.at_ [1,1,1,1,1]) (YQ.drop 1)) (Ao Pg r84 Q)))))
abbrev U9(S:Aa)(a:AV)(Q:Aq):Prop:=CH [(0,1),(1,1)] [aI 0,.nl] [] S fun c S=>A8 2 a c S fun d S=>AA 2 a S fun e _=>Q (.ret (.t [e,aI 0,aI 1])) S
def m84(x0 x1 x2:AV)(S:Aa)(Q:Aq):Prop:=
 Az 61 2 x0 S fun c S=>Az 61 2 (.a [aI 0,.nl]) S fun d S=>AA 2 c S fun e S=>Ah Pg 42 [e] S Q fun f S=>un .not f S fun g S=>Fi g (U9 S d Q) (AA 2 c S fun h S=>Ah Pg 43 [h,x1] S Q fun i S=>un .not i S fun k S=>Fi k (U9 S d Q) (AA 2 c S fun l S=>Ah Pg 43 [l,x2] S Q fun m S=>un .not m S fun n S=>Fi n (U9 S d Q) (YK true x1 x2 S fun o S=>YK false x1 x2 S fun p S=>bin .eql 0 p (aI 0) S fun q S=>Fi q (AA 2 c S fun r S=>A8 2 d r S fun s S=>AA 2 d S fun u _=>Q (.ret (.t [u,aI 0,aI 0])) S) (bin .quo 0 o (aI 2) S fun v S=>bin .quo 0 p (aI 2) S fun w S=>bin .eql 0 v w S fun x S=>Fi x (bin .neq 0 o p S fun y S=>Fi y (AA 2 c S fun z S=>A8 2 d z S fun A S=>AA 2 d S fun B _=>Q (.ret (.t [B,aI 0,aI 0])) S) (Zj p S c d Q o)) (Zj p S c d Q o)))))
theorem oV{x0 x1 x2:AV}{S:Aa}{Q:Aq}(h:m84 x0 x1 x2 S Q):Ad Pg 84 [x0,x1,x2] S Q:=
 Bl (n:=105) YQ Tryz.func84 (by kernel_rfl) (Eq.mpr (by kernel_rfl) h)
def uR(y1 y2 y3 y6 y9:AV)(S:Aa)(KE0:BB)(Q:Aq):Prop:=
 Lf y3 1 S fun c S=>AG c S fun d S=>bin .lss 0 y9 d S fun e S=>Fi e (Lf y3 1 S fun f S=>AR 130 2 f y9 S fun g S=>AA 2 g S fun h S=>CH [(0,1),(1,1)] [aI 0,aI 0] [(0,y1),(1,y2)] S fun i S=>XH .i64 .eql h i S fun k S=>Fi k (Lt S (AA 2 y3) fun l=>Lt S (shift y3 0) fun m=>Lt S (Ax m) fun n=>Lt S (bin .add 0 n (aI 1)) fun o=>Lt S (bin .add 0 o y9) fun p=>Lt S (bin .mul 0 (aI 2) p) fun q=>A8 2 y6 l S fun r S=>(∀ T:Aa,Am S T→bin .mul 0 (aI 2) p T fun s S=>s=q∧S=T)∧(∀ T:Aa,Am S T→bin .add 0 o y9 T fun u S=>u=p∧S=T)∧(∀ T:Aa,Am S T→bin .add 0 n (aI 1) T fun v S=>v=o∧S=T)∧(∀ T:Aa,Am S T→Ax m T fun w S=>w=n∧S=T)∧(∀ T:Aa,Am S T→shift y3 0 T fun x S=>x=m∧S=T)∧AA 2 y6 S fun y _=>Q (.ret (.t [y,q,aI 0])) S) (bin .add 0 y9 (aI 1) S fun z S=>KE0 105 (LX y1 y2 y3 y6 z) S)) (AA 2 y3 S fun A S=>Ah Pg 16 [A] S Q fun B S=>bin .geq 0 B (aI 2000) S fun C S=>Fi C (CH [(0,1),(1,1)] [aI 0,.nl] [] S fun D S=>A8 2 y6 D S fun E S=>AA 2 y6 S fun F _=>Q (.ret (.t [F,aI 0,aI 2])) S) (Az 61 2 (.a [aI 0,.nl]) S fun G S=>Lf y3 0 S fun H S=>shift G 0 S fun I S=>A8 1 I H S fun J S=>Lf G 1 S fun K S=>Lf y3 1 S fun L S=>Bo 130 2 16 K L S fun M S=>CH [(0,1),(1,1)] [aI 0,aI 0] [(0,y1),(1,y2)] S fun N S=>AU 130 2 1 [aI 0,aI 0] [(0,N)] S fun O S=>Bo 130 2 16 M O S fun P S=>shift G 1 S fun R S=>A8 1 R P S fun U S=>Lt S (AA 2 G) fun V=>Lt S (AA 2 G) fun W=>Lc S 16 [W] fun X=>Lt S (bin .mul 0 (aI 2) X) fun Y=>Lt S (bin .sub 0 Y (aI 2)) fun Z=>A8 2 y6 V S fun a0 S=>(∀ T:Aa,Am S T→bin .sub 0 Y (aI 2) T fun a1 S=>a1=Z∧S=T)∧(∀ T:Aa,Am S T→bin .mul 0 (aI 2) X T fun a2 S=>a2=Y∧S=T)∧AA 2 y6 S fun a3 _=>Q (.ret (.t [a3,Z,aI 0])) S))
theorem ZG{y1 y2 y3 y6:AV}{y90:AV}{S:Aa}{Q:Aq}(I:AV→Aa→Prop)(μ:AV→Aa→Nat)(h0:I y90 S)(hr:BS (fun y9=>LX y1 y2 y3 y6 y9) 105 I μ fun y9 S KE0=>uR y1 y2 y3 y6 y9 S KE0 Q):
 Ap Tk (vc Pg (c84.at_ [1,1,1,1,0,1,0,0]) (YQ.drop 1)) 105 (LX y1 y2 y3 y6 y90) S (Ak 1 (Av (vc Pg (c84.at_ [1,1,1,1,1]) (YQ.drop 1)) (Ao Pg r84 Q))):=DY 4 (fun _=>rfl) (fun _ _ _=>by kernel_rfl) h0 hr
def AfJ:Code:=(Tryz.f181.body).getD .skip
def Ab8:List ResultVar:=Tryz.f181.results.toList
def HN(y0 y13 y14 y15:AV):List AV:=[y0,y13,y14,y15]
def Pf:List Nat:=[0,13,14,15]
def Y9:List (List Nat):=[Pf,[]]
def AcZ(x0:AV)(S:Aa)(Q:Aq):Prop:=
 Zb (.p .i64) S fun a S=>AJ x0 S fun c S=>shift c 4 S fun d S=>A8 1 d a S fun e S=>AJ x0 S fun f S=>Lf f 3 S fun g S=>AG g S fun h S=>Ap Pf (vc Pg (AfJ.at_ [1,1,0,0]) (Y9.drop 1)) 38 (HN x0 g h (aI 0)) S (Ak 0 (Ao Pg Ab8 Q))
theorem cN{x0:AV}{S:Aa}{Q:Aq}(h:AcZ x0 S Q):Ad Pg 181 [x0] S Q:=
 Bl (n:=38) Y9 Tryz.func181 (by kernel_rfl) (Eq.mpr (by kernel_rfl) h)
def gF(y0 y13 y14 y15:AV)(S:Aa)(KE0:BB)(Q:Aq):Prop:=
 bin .lss 0 y15 y14 S fun c S=>Fi c (AR 130 2 y13 y15 S fun d S=>AA 2 d S fun e S=>Az 130 2 (.a [aI 0,aI 0]) S fun f S=>A8 2 f e S fun g S=>(fun S0:Aa=>Lq S0 (AJ y0) fun h=>Lq S0 (shift h 4) fun i=>Lq S0 (Ax i) fun k=>Lq S0 (AA 2 f) fun l=>Lq S0 (Vk (.p .i64) (aI 0) true k l) fun m=>Lq S0 (A0 m 0) fun n=>Lq S0 (A0 m 1) fun o=>un .not o S fun q S=>Fi q (Lt S (AJ y0) fun r=>Lt S (shift r 4) fun s=>Lt S (Ax s) fun u=>Lt S (AA 2 f) fun v=>Hr (.p .i64) u v y15 S fun w S=>bin .add 0 y15 (aI 1) S fun x S=>KE0 38 (HN y0 y13 y14 x) S) (bin .add 0 y15 (aI 1) S fun y S=>KE0 38 (HN y0 y13 y14 y) S)) S) (Q (.ret (.t [])) S)
theorem WB{y0 y13 y14:AV}{y150:AV}{S:Aa}{Q:Aq}(I:AV→Aa→Prop)(μ:AV→Aa→Nat)(h0:I y150 S)(hr:BS (fun y15=>HN y0 y13 y14 y15) 38 I μ fun y15 S KE0=>gF y0 y13 y14 y15 S KE0 Q):
 Ap Pf (vc Pg (AfJ.at_ [1,1,0,0]) (Y9.drop 1)) 38 (HN y0 y13 y14 y150) S (Ak 0 (Ao Pg Ab8 Q)):=DY 3 (fun _=>rfl) (fun _ _ _=>by kernel_rfl) h0 hr
def AdL(x0:AV)(S:Aa)(Q:Aq):Prop:=
 AJ x0 S fun a S=>shift a 0 S fun c S=>Ah Pg 180 [c,(.f (.func 181) [x0] [])] S Q fun d S=>AJ x0 S fun e S=>Lf e 4 S fun g S=>TT g S fun h S=>Q (.ret h) S
theorem dL{x0:AV}{S:Aa}{Q:Aq}(h:AdL x0 S Q):Ad Pg 158 [x0] S Q:=
 Bl (n:=14) [[181,180]] Tryz.func158 (by kernel_rfl) (Eq.mpr (by kernel_rfl) h)
def sF:Code:=(Tryz.f134.body).getD .skip
def AbO:List ResultVar:=Tryz.f134.results.toList
def Kc(y1 y2 y27 y28 y29:AV):List AV:=[y1,y2,y27,y28,y29]
def PC:List Nat:=[1,2,27,28,29]
def Ri:List (List Nat):=[PC,[158]]
def Ae7(x0 x1:AV)(S:Aa)(Q:Aq):Prop:=
 Az 61 2 x0 S fun a S=>Lf a 0 S fun c S=>bin .lss 0 c (aI 0) S fun d S=>Fi d (Q (.ret (.v (.bool false))) S) (Lf a 0 S fun e S=>bin .gtr 0 e (aI 2000) S fun f S=>Fi f (Q (.ret (.v (.bool false))) S) (Lf a 1 S fun g S=>AG g S fun h S=>bin .gtr 0 h (aI 2000) S fun i S=>Fi i (Q (.ret (.v (.bool false))) S) (AA 2 a S fun k S=>Ah Pg 133 [k] S Q fun l S=>bin .gtr 0 l (aI 2000) S fun m S=>Fi m (Q (.ret (.v (.bool false))) S) (Lf a 1 S fun n S=>AG n S fun o S=>Ap PC (vc Pg (sF.at_ [1,1,0,1,0,0]) (Ri.drop 1)) 49 (Kc x1 a n o (aI 0)) S (Ak 0 (Av (vc Pg (sF.at_ [1,1,1]) (Ri.drop 1)) (Ao Pg AbO Q)))))))
theorem eI{x0 x1:AV}{S:Aa}{Q:Aq}(h:Ae7 x0 x1 S Q):Ad Pg 134 [x0,x1] S Q:=
 Bl (n:=49) Ri Tryz.func134 (by kernel_rfl) (Eq.mpr (by kernel_rfl) h)
def iC(y1 y2 y27 y28 y29:AV)(S:Aa)(KE0:BB)(Q:Aq):Prop:=
 bin .lss 0 y29 y28 S fun c S=>Fi c (AR 130 2 y27 y29 S fun d S=>AA 2 d S fun e S=>Az 130 2 (.a [aI 0,aI 0]) S fun f S=>A8 2 f e S fun g S=>AA 2 f S fun h S=>Lf y2 0 S fun i S=>bin .add 0 i (aI 1) S fun k S=>bin .add 0 k y29 S fun l S=>Ah Pg 157 [h,l] S Q fun m S=>un .not m S fun n S=>Fi n (Q (.ret (.v (.bool false))) S) (bin .add 0 y29 (aI 1) S fun o S=>KE0 49 (Kc y1 y2 y27 y28 o) S)) (Lt S (shift y2 1) fun p=>Lt S (Ax p) fun q=>Lt S (AG q) fun r=>Ah Pg 158 [y1] S Q fun s S=>(∀ T:Aa,Am S T→AG q T fun t S=>t=r∧S=T)∧(∀ T:Aa,Am S T→Ax p T fun u S=>u=q∧S=T)∧(∀ T:Aa,Am S T→shift y2 1 T fun w S=>w=p∧S=T)∧Lt S (bin .eql 0 s r) fun x=>Q (.ret x) S)
theorem W0{y1 y2 y27 y28:AV}{y290:AV}{S:Aa}{Q:Aq}(I:AV→Aa→Prop)(μ:AV→Aa→Nat)(h0:I y290 S)(hr:BS (fun y29=>Kc y1 y2 y27 y28 y29) 49 I μ fun y29 S KE0=>iC y1 y2 y27 y28 y29 S KE0 Q):
 Ap PC (vc Pg (sF.at_ [1,1,0,1,0,0]) (Ri.drop 1)) 49 (Kc y1 y2 y27 y28 y290) S (Ak 0 (Av (vc Pg (sF.at_ [1,1,1]) (Ri.drop 1)) (Ao Pg AbO Q))):=DY 4 (fun _=>rfl) (fun _ _ _=>by kernel_rfl) h0 hr
def m98(x0:AV)(S:Aa)(Q:Aq):Prop:=
 Az 61 2 x0 S fun a S=>AA 2 a S fun c S=>Lf a 1 S fun d S=>CH [(0,3),(3,1),(4,1)] [.v (.int .u32 0),.v (.int .i32 0),.v (.int .u32 0),.nl,.v (.map none)] [(1,d)] S fun e S=>Az 182 5 e S fun f S=>Ah Pg 134 [c,f] S Q fun g S=>Q (.ret g) S
theorem oH{x0:AV}{S:Aa}{Q:Aq}(h:m98 x0 S Q):Ad Pg 98 [x0] S Q:=
 Bl (n:=9) [[134]] Tryz.func98 (by kernel_rfl) (Eq.mpr (by kernel_rfl) h)
def Ae8(x0:AV)(S:Aa)(Q:Aq):Prop:=
 Az 61 2 x0 S fun a S=>Lf a 0 S fun c S=>bin .add 0 c (aI 1) S fun d S=>Lf a 1 S fun e S=>AG e S fun f S=>bin .add 0 d f S fun g S=>Q (.ret g) S
theorem eJ{x0:AV}{S:Aa}{Q:Aq}(h:Ae8 x0 S Q):Ad Pg 133 [x0] S Q:=
 Bl (n:=10) [[]] Tryz.func133 (by kernel_rfl) (Eq.mpr (by kernel_rfl) h)
def AdM(x0 x1:AV)(S:Aa)(Q:Aq):Prop:=
 Az 130 2 x0 S fun a S=>IL 2 1 a (aI 1) S fun c S=>Ax c S fun d S=>bin .geq 0 d (aI 2) S fun e S=>Fi e (IL 2 1 a (aI 0) S fun f S=>Ax f S fun g S=>bin .quo 0 g (aI 2) S fun h S=>IL 2 1 a (aI 1) S fun i S=>Ax i S fun k S=>bin .quo 0 k (aI 2) S fun l S=>bin .gtr 0 h l S fun m S=>Fi m (IL 2 1 a (aI 0) S fun n S=>Ax n S fun o S=>bin .quo 0 o (aI 2) S fun p S=>bin .lss 0 p x1 S fun q S=>Q (.ret q) S) (Q (.ret (.v (.bool false))) S)) (Q (.ret (.v (.bool false))) S)
theorem dM{x0 x1:AV}{S:Aa}{Q:Aq}(h:AdM x0 x1 S Q):Ad Pg 157 [x0,x1] S Q:=
 Bl (n:=24) [[]] Tryz.func157 (by kernel_rfl) (Eq.mpr (by kernel_rfl) h)
def m96(x0 x1:AV)(S:Aa)(Q:Aq):Prop:=
 Az 61 2 x0 S fun a S=>Lf a 0 S fun c S=>bin .geq 0 c (aI 0) S fun d S=>Fi d (Lf a 0 S fun e S=>bin .leq 0 e (aI 2000) S fun f S=>Fi f (bin .geq 0 x1 (aI 0) S fun g S=>Fi g (bin .quo 0 x1 (aI 2) S fun h S=>AA 2 a S fun i S=>Ah Pg 133 [i] S Q fun k S=>bin .lss 0 h k S fun l S=>Q (.ret l) S) (Q (.ret (.v (.bool false))) S)) (Q (.ret (.v (.bool false))) S)) (Q (.ret (.v (.bool false))) S)
theorem oJ{x0 x1:AV}{S:Aa}{Q:Aq}(h:m96 x0 x1 S Q):Ad Pg 96 [x0,x1] S Q:=
 Bl (n:=24) [[]] Tryz.func96 (by kernel_rfl) (Eq.mpr (by kernel_rfl) h)
def AhH:Code:=(Tryz.f200.body).getD .skip
def AcH:List (List Nat):=[[208]]
def AcP(x0:AV)(S:Aa)(Q:Aq):Prop:=
 AJ x0 S fun a S=>shift a 0 S fun c S=>Ah Pg 208 [c] S Q fun d S=>Q (.ret (.t [])) S
def AhG:Code:=(Tryz.f201.body).getD .skip
def AcG:List (List Nat):=[[209]]
def AcO(x0 x1:AV)(S:Aa)(Q:Aq):Prop:=
 Lt S (AJ x0) fun a=>Lt S (shift a 0) fun c=>Lc S 210 [x1] fun d=>Ah Pg 209 [c,d] S Q fun e S=>Q (.ret (.t [])) S
def AcR(x0:AV)(S:Aa)(Q:Aq):Prop:=
 AJ x0 S fun a S=>shift a 0 S fun c S=>Ah Pg 198 [c] S Q fun d S=>bin .neq 0 d (.v (.int .u32 0)) S fun e S=>Q (.ret e) S
theorem cF{x0:AV}{S:Aa}{Q:Aq}(h:AcR x0 S Q):Ad Pg 192 [x0] S Q:=
 Bl (n:=8) [[]] Tryz.func192 (by kernel_rfl) (Eq.mpr (by kernel_rfl) h)
def AcQ(x0:AV)(S:Aa)(Q:Aq):Prop:=
 AJ x0 S fun a S=>shift a 0 S fun c S=>Ah Pg 207 [c] S Q fun d S=>Q (.ret (.t [])) S
theorem cD{x0:AV}{S:Aa}{Q:Aq}(h:AcQ x0 S Q):Ad Pg 199 [x0] S Q:=
 Bl (n:=6) [[207]] Tryz.func199 (by kernel_rfl) (Eq.mpr (by kernel_rfl) h)
def AcN(x0:AV)(S:Aa)(Q:Aq):Prop:=
 Ah Pg 213 [] S Q fun a S=>AJ x0 S fun c S=>shift c 0 S fun d S=>Ah Pg 214 [d,.v (.int .i32 0),.v (.int .i32 1)] S Q fun e S=>Fi e (Ah Pg 215 [] S Q fun f S=>bY x0 S fun g S=>Ah Pg 216 [g] S Q fun h S=>Q (.ret (.t [])) S) (Ah Pg 217 [x0] S Q fun i S=>Q (.ret (.t [])) S)
theorem cC{x0:AV}{S:Aa}{Q:Aq}(h:AcN x0 S Q):Ad Pg 207 [x0] S Q:=
 Bl (n:=13) [[214]] Tryz.func207 (by kernel_rfl) (Eq.mpr (by kernel_rfl) h)
def AcM(x0:AV)(S:Aa)(Q:Aq):Prop:=
 AJ x0 S fun a S=>Lf a 0 S fun c S=>bY x0 S fun d S=>Ah Pg 218 [d] S Q fun e S=>Ah Pg 213 [] S Q fun f S=>AJ x0 S fun g S=>shift g 0 S fun h S=>Ah Pg 219 [h,.v (.int .i32 (-1))] S Q fun i S=>bin .neq 0 i (.v (.int .i32 0)) S fun k S=>Fi k (Ah Pg 220 [x0,i] S Q fun l S=>Ah Pg 215 [] S Q fun m S=>Q (.ret (.t [])) S) (Ah Pg 215 [] S Q fun n S=>Q (.ret (.t [])) S)
theorem cB{x0:AV}{S:Aa}{Q:Aq}(h:AcM x0 S Q):Ad Pg 208 [x0] S Q:=
 Bl (n:=21) [[219]] Tryz.func208 (by kernel_rfl) (Eq.mpr (by kernel_rfl) h)
def AcL(x0:AV)(S:Aa)(Q:Aq):Prop:=
 Fi x0 (Q (.ret (.v (.int .u32 1))) S) (Q (.ret (.v (.int .u32 0))) S)
theorem cA{x0:AV}{S:Aa}{Q:Aq}(h:AcL x0 S Q):Ad Pg 210 [x0] S Q:=
 Bl (n:=4) [[]] Tryz.func210 (by kernel_rfl) (Eq.mpr (by kernel_rfl) h)
def Ad0(x0 x1:AV)(S:Aa)(Q:Aq):Prop:=
 AJ x0 S fun a S=>shift a 0 S fun c S=>Ah Pg 192 [c] S Q fun d S=>un .not d S fun e S=>Fi e (Ah Pg 193 [x0,x1] S Q fun f S=>Q (.ret (.t [])) S) (Q (.ret (.t [])) S)
theorem cO{x0 x1:AV}{S:Aa}{Q:Aq}(h:Ad0 x0 x1 S Q):Ad Pg 180 [x0,x1] S Q:=
 Bl (n:=12) [[193]] Tryz.func180 (by kernel_rfl) (Eq.mpr (by kernel_rfl) h)
end
def AfI:Code:=(Tryz.f193.body).getD .skip
def Ah8:List ResultVar:=Tryz.f193.results.toList
def yG(x0 x1:AV)(S:Aa)(Q:Bg→Aa→Prop):Prop:=
 AJ x0 S fun v1 S=>shift v1 1 S fun v2 S=>Ah Pg 199 [v2] S (fun _ _=>False) fun v3 S=>AJ x0 S fun v4 S=>shift v4 1 S fun v5 S=>AJ x0 S fun v6 S=>shift v6 0 S fun v7 S=>Ah Pg 192 [v7] S (fun _ _=>False) fun v8 S=>un .not v8 S fun v9 S=>GI v9 fun b10 =>
  gd b10 (AJ x0 S fun v11 S=>shift v11 0 S fun v12 S=>Bh Pg x1 [] S (fun v13 S=>EH Pg 201 [v12,.v (.bool true)] S fun e S=>match e with
      |.ret _=>EH Pg 200 [v5] S fun e S=>match e with|.ret _=>Q (.ret (.t [])) S|.pan _=>False
      |.pan _=>False) (fun _ _=>False))
   (EH Pg 200 [v5] S fun e S=>match e with|.ret _=>Q (.ret (.t [])) S|.pan _=>False)
set_option maxRecDepth 100000 in
theorem mP:(fun(x0 x1:AV) (S:Aa) (Q:Bg→Aa→Prop)=>kW Pg AfI [] (GJ 21 [x0,x1]) S [] (uK Pg Ah8 Q))=(fun(x0 x1:AV) (S:Aa) (Q:Bg→Aa→Prop)=>yG x0 x1 S Q):=by kernel_rfl
theorem cE{x0 x1:AV}{S:Aa}{Q:Bg→Aa→Prop}(h:yG x0 x1 S Q):Ad Pg 193 [x0,x1] S Q:=
 P5 (fn:=Tryz.f193) (c:=AfI) (n:=21) Tryz.func193 (by kernel_rfl) (by kernel_rfl) (by kernel_rfl) [] ((congrFun (congrFun (congrFun (congrFun mP x0) x1) S) Q).mpr h)
theorem Xz{x0:AV}{S:Aa}{Q:Bg→Aa→Prop}(h:AcP x0 S Q):EH Pg 200 [x0] S Q:=
 Kl (fn:=Tryz.f200) (c:=AhH) (n:=6) Tryz.func200 (by kernel_rfl) (by kernel_rfl) (by kernel_rfl) AcH (Eq.mpr (by kernel_rfl) h)
theorem Xy{x0 x1:AV}{S:Aa}{Q:Bg→Aa→Prop}(h:AcO x0 x1 S Q):EH Pg 201 [x0,x1] S Q:=
 Kl (fn:=Tryz.f201) (c:=AhG) (n:=10) Tryz.func201 (by kernel_rfl) (by kernel_rfl) (by kernel_rfl) AcG (Eq.mpr (by kernel_rfl) h)
theorem Ac8:DQ Pg 213 Tryz.f213:=⟨Tryz.func213,by kernel_rfl,by kernel_rfl,by kernel_rfl⟩
theorem Ac6:DQ Pg 215 Tryz.f215:=⟨Tryz.func215,by kernel_rfl,by kernel_rfl,by kernel_rfl⟩
theorem Ac5:DQ Pg 216 Tryz.f216:=⟨Tryz.func216,by kernel_rfl,by kernel_rfl,by kernel_rfl⟩
theorem Ac4:DQ Pg 218 Tryz.f218:=⟨Tryz.func218,by kernel_rfl,by kernel_rfl,by kernel_rfl⟩
theorem AcA:DQ Pg 198 Tryz.f198:=⟨Tryz.func198,by kernel_rfl,by kernel_rfl,by kernel_rfl⟩
theorem Ac9:DQ Pg 209 Tryz.f209:=⟨Tryz.func209,by kernel_rfl,by kernel_rfl,by kernel_rfl⟩
theorem Ac7:DQ Pg 214 Tryz.f214:=⟨Tryz.func214,by kernel_rfl,by kernel_rfl,by kernel_rfl⟩
theorem Ac3:DQ Pg 219 Tryz.f219:=⟨Tryz.func219,by kernel_rfl,by kernel_rfl,by kernel_rfl⟩
abbrev Uw(n:Int):AV:=.v (.int .u32 n)
abbrev Ux(n:Int):AV:=.v (.int .i32 n)
section
variable {S:Aa} {Q:Bg→Aa→Prop}
theorem U7{Q:Bg→Aa→Prop}{K:AV→Aa→Prop}(k:K (.t []) S):Ah Pg 213 [] S Q K:=.inr (Ou Ac8 .disable (by kernel_rfl) k)
theorem U6{K:AV→Aa→Prop}(k:K (.t []) S):Ah Pg 215 [] S Q K:=.inr (Ou Ac6 .enable (by kernel_rfl) k)
theorem mJ{K:AV→Aa→Prop}{id i j:Nat}(k:K (.t []) S):Ah Pg 216 [.p id i j] S Q K:=.inr (Ot Ac5 .acquire (by kernel_rfl) k)
theorem mI{K:AV→Aa→Prop}{id i j:Nat}(k:K (.t []) S):Ah Pg 218 [.p id i j] S Q K:=.inr (Ot Ac4 .releaseMerge (by kernel_rfl) k)
end
@[simp] theorem AH(id i j:Nat)(S:Aa)(K:AV→Aa→Prop):AJ (.p id i j) S K=K (.p id i j) S:=rfl
theorem Gx(S:Aa)(id:Nat)(o o':Bw):(S.Du id o).Du id o'=S.Du id o':=by
 unfold Aa.Du
 congr 1
 funext i
 by_cases h:i=id<;>simp[h]
theorem QB{S:Aa}{id:Nat}{o:Bw}(h:S.obj id=some o):S.Du id o=S:=by
 cases S with
 |mk n obj =>
  unfold Aa.Du
  congr 1
  funext i
  by_cases e:i=id
  ·subst e;simp only[if_pos rfl];exact h.symm
  ·simp[e]
def DZ(t:TypeId)(done st:Int)(z:AV)(c:List AV):Bw:=.cells t [Uw done :: Ux st :: z :: c] true
section
variable {S:Aa} {Q:Bg→Aa→Prop} {id t:Nat} {done st:Int} {z:AV} {c:List AV}
theorem Od(h:S.obj id=some (DZ t done st z c))(k:Q (.ret (aB (!decide (done=0)))) S):Ad Pg 192 [.p id 0 0] S Q:=by
 refine cF ?_
 unfold AcR
 rw[AH,Ac]
 refine .inr (bO AcA .u32 (by kernel_rfl) h rfl rfl ?_)
 show bin .neq 0 (Uw done) (Uw 0) S _
 rw[Bi]
 exact k
theorem Xh(h:S.obj id=some (DZ t done 0 z c))(k:Q (.ret (.t [])) (S.Du id (DZ t done 1 z c))):Ad Pg 199 [.p id 0 1] S Q:=by
 refine cD ?_
 unfold AcQ
 rw[AH,Ac]
 refine .inl (cC ?_)
 dsimp only[AcN,Fi]
 refine U7 ?_
 rw[AH,Ac]
 refine .inr (nO Ac7 .i32 (by kernel_rfl) h rfl rfl ?_)
 show GI _ _
 rw[Ag,A9]
 refine U6 ⟨Ux 1,?_,mJ k⟩
 simp[SJ,place,Aa.get]
theorem QC(h:S.obj id=some (DZ t done 1 z c))(k:Q (.ret (.t [])) (S.Du id (DZ t done 0 z c))):EH Pg 200 [.p id 0 1] S Q:=by
 refine Xz ?_
 unfold AcP
 rw[AH,Ac]
 refine .inl (cB ?_)
 dsimp only[AcM,Fi,Lf]
 rw[AH,Ac,Af h rfl rfl]
 refine⟨Ux 1,by simp[SJ,place,Aa.get,h,DZ],mI (U7 ?_)⟩
 rw[AH,Ac]
 refine .inr (nP Ac3 .i32 (by kernel_rfl) h rfl rfl ?_)
 show bin .neq 0 (Ux (IntKind.i32.wrap (1 + -1))) (Ux 0) _ _
 have:IntKind.i32.wrap (1 + -1)=0:=by decide
 rw[this,Bi,Ag]
 simp only[decide_true,Bool.not_true,AZ]
 exact U6 k
theorem Sy(h:S.obj id=some (DZ t done st z c))(k:Q (.ret (.t [])) (S.Du id (DZ t 1 st z c))):EH Pg 201 [.p id 0 0,aB true] S Q:=by
 refine Xy ?_
 dsimp only[AcO,Lt,Lc]
 have hb:∀ T,Ad Pg 210 [aB true] T (fun e S'=>e = .ret (Uw 1)∧S'=T):=fun T=>by
  refine cA ?_
  dsimp only[AcL,Fi]
  rw[Ag,A9]
  exact⟨rfl,rfl⟩
 refine⟨.p id 0 0,fun T _=>⟨rfl,rfl⟩,.p id 0 0,fun T _=>⟨rfl,rfl⟩,Uw 1,fun T _=>Au (hb T) ⟨rfl,rfl⟩,?_⟩
 exact .inr (Xt Ac9 (by kernel_rfl) h rfl rfl k)
theorem nZ(h:S.obj id=some (DZ t 0 0 z c)){f:AV}(hf:Bh Pg f [] (S.Du id (DZ t 0 1 z c)) (fun _ S2=>∃ c',S2.obj id=some (DZ t 0 1 z c')∧Q (.ret (.t [])) (S2.Du id (DZ t 1 0 z c'))) (fun _ _=>False)):Ad Pg 180 [.p id 0 0,f] S Q:=by
 refine cO ?_
 dsimp only[Ad0,Fi]
 rw[AH,Ac]
 refine .inl (Od h ?_)
 show un .not (aB (!decide ((0:Int)=0))) S _
 rw[AI,Ag]
 refine .inl (cE ?_)
 unfold yG
 rw[AH,Ac]
 refine .inl (Xh h ?_)
 show AJ _ _ _
 rw[AH,Ac,AH,Ac]
 refine .inl (Od (BI _ _) ?_)
 show un .not (aB (!decide ((0:Int)=0))) _ _
 rw[AI,Ag]
 show gd true _ _
 rw[A9,AH,Ac]
 refine Ue hf (fun v S2 h2=>?_) (fun _ _ h=>h)
 obtain⟨c',h3,h4⟩:=h2
 refine Sy h3 (QC (BI _ _) ?_)
 show Q (.ret (.t [])) _
 rw[Gx]
 exact h4
end
def pL(l:List (Int × Int)):AV:=.l (l.map fun p=>[aI p.1,aI p.2])
structure Gr where
 inputs:Int
 ands:List (Int × Int)
 deriving DecidableEq
def Gr.cells(g:Gr):List AV:=[aI g.inputs,pL g.ands]
def Gr.av(g:Gr):AV:=.a g.cells
def Gr.vars(g:Gr):Int:=g.inputs+1+g.ands.length
def By(a:Int):Prop:=-9223372036854775808≤a∧a≤9223372036854775807
structure Gr.ok (g:Gr):Prop where
 inp:By g.inputs
 len:g.ands.length≤1000000
 pairs:∀ p∈g.ands,By p.1∧By p.2
def may(p:Int × Int)(v:Int):Bool:=decide (2≤p.2) && (decide (p.2.tdiv 2<p.1.tdiv 2) && decide (p.1.tdiv 2<v))
def Gr.right(g:Gr):Bool:=decide (0≤g.inputs) && (decide (g.inputs≤2000) && (decide ((g.ands.length:Int)≤2000) && (decide (g.vars≤2000) &&
 ((List.range g.ands.length).all (fun i=>may (g.ands.getD i (0,0)) (g.inputs+1+i)) && decide g.ands.Nodup))))
def Gr.lit(g:Gr)(l:Int):Bool:=decide (0≤g.inputs) && (decide (g.inputs≤2000) && (decide (0≤l) && decide (l.tdiv 2<g.vars)))
@[simp] theorem Bv(l:List (Int × Int)){S:Aa}{K:AV→Aa→Prop}:AG (pL l) S K=K (aI l.length) S:=by simp[pL]
theorem Dd{l:List (Int × Int)}{e i:Nat}{S:Aa}{K:AV→Aa→Prop}(h:i<l.length):AR e 2 (pL l) (aI i) S K=K (.q [aI l[i].1,aI l[i].2] 0) S:=by
 unfold pL
 rw[IX (by simpa using h) (by simp)]
 simp
@[simp] theorem GO{u v:AV}{S:Aa}{K:AV→Aa→Prop}:AA 2 (.q [u,v] 0) S K=K (.a [u,v]) S:=by simp[AA,XT,place]
theorem tL{a:Int}(h:By a):-9223372036854775808≤a.tdiv 2∧a.tdiv 2≤9223372036854775807:=by
 obtain⟨h1,h2⟩:=h
 rcases Int.le_total 0 a with h|h
 ·rw[AiI h];omega
 ·have:a.tdiv 2 = -((-a).tdiv 2):=by rw[Int.neg_tdiv,Int.neg_neg]
  rw[this,AiI (by omega)];omega
theorem Cg{a:Int}(h:By a){S:Aa}{K:AV→Aa→Prop}:bin .quo 0 (aI a) (.v (.int .i64 2)) S K=K (aI (a.tdiv 2)) S:=FJ (by decide) (tL h).1 (tL h).2 0
theorem M4{n sz id:Nat}{z:Nat}{S:Aa}{K:AV→Aa→Prop}(hz:z<n):IL n sz (.p id 0 0) (aI z) S K=K (.p id 0 (z*sz)) S:=by
 unfold IL
 simp only[Aw,BO,AiJ,Ac,AiG]
 exact propext ⟨fun h=>h.2,fun h=>⟨⟨by omega,by omega⟩,h⟩⟩
theorem jZ{g:Gr}(hg:g.ok)(hi:g.inputs≤1000000)(h0:0≤g.inputs):BH Pg 133 [g.av] (aI g.vars):=by
 intro S
 have hl:=hg.len
 refine Ad.Bt (eJ ?_)
 dsimp only[Ae8,Lf];unfold Gr.av
 refine Ai rfl fun S1 k1 n1 o1=>?_
 rw[Ac,Af o1 rfl rfl,Ar (by omega) (by omega),Ac,Af o1 rfl rfl,Bv,Ar (by omega) (by omega)]
 exact⟨rfl,k1⟩
theorem zY{p:Int × Int}{v:Int}(h:By p.1∧By p.2):BH Pg 157 [.a [aI p.1,aI p.2],aI v] (aB (may p v)):=by
 intro S
 refine Ad.Bt (dM ?_)
 dsimp only[AdM,Fi];unfold may
 refine Ai rfl fun S1 k1 n1 o1=>?_
 have e1:∀ K:AV→Aa→Prop,IL 2 1 (.p S.n 0 0) (.v (.int .i64 1)) S1 K=K (.p S.n 0 1) S1:=fun K=>M4 (z:=1) (by decide)
 have e0:∀ K:AV→Aa→Prop,IL 2 1 (.p S.n 0 0) (.v (.int .i64 0)) S1 K=K (.p S.n 0 0) S1:=fun K=>M4 (z:=0) (by decide)
 rw[e1,Af o1 rfl rfl,BA,Ag]
 refine Al (fun h1=>?_) (fun h1=>⟨by simp only[h1,AiC],k1⟩)
 rw[e0,Af o1 rfl rfl,Cg h.1,e1,Af o1 rfl rfl,Cg h.2,AP,Ag]
 refine Al (fun h2=>?_) (fun h2=>⟨by simp only[h1,h2,AiC,Ai7],k1⟩)
 rw[e0,Af o1 rfl rfl,Cg h.1,As]
 exact⟨by simp only[h1,h2,Ai7],k1⟩
theorem wI{g:Gr}{l:Int}(hg:g.ok)(hl:By l):BH Pg 96 [g.av,aI l] (aB (g.lit l)):=by
 intro S
 refine Ad.Bt (oJ ?_)
 dsimp only[m96,Fi,Lf];unfold Gr.av Gr.lit
 refine Ai rfl fun S1 k1 n1 o1=>?_
 rw[Ac,Af o1 rfl rfl,BA,Ag]
 refine Al (fun h1=>?_) (fun h1=>⟨by simp only[h1,AiC],k1⟩)
 rw[Ac,Af o1 rfl rfl,C4,Ag]
 refine Al (fun h2=>?_) (fun h2=>⟨by simp only[h1,h2,AiC,Ai7],k1⟩)
 rw[BA,Ag]
 refine Al (fun h3=>?_) (fun h3=>⟨by simp only[h1,h2,h3,AiC,Ai7],k1⟩)
 rw[Cg hl,An (n:=2) o1 rfl]
 refine Ae (jZ hg (by have:=dT h2;omega) (dT h1)) ?_
 rw[As]
 exact⟨by simp only[h1,h2,h3,Ai7],k1⟩
def LS(l:List (Int × Int)):Nat→List (Key × AV)
 |0=>[]
 |i+1=>match Ij (LS l i) (.p (l.getD i (0,0)).1 (l.getD i (0,0)).2)with
  |some _=>LS l i
  |none=>LS l i ++ [(.p (l.getD i (0,0)).1 (l.getD i (0,0)).2,aI i)]
theorem F7{es:List (Key × AV)}{k:Key}:Ij es k=none↔k∉es.map (·.1):=by
 unfold Ij
 rw[AjG]
 simp only[AiL,not_exists,not_and]
 constructor
 ·intro h x hx e
  have:=h x hx
  simp[e]at this
 ·intro h x hx
  simpa using h x hx
theorem RM{l:List (Int × Int)}:∀{i:Nat},i≤l.length→∀ k,k∈(LS l i).map (·.1)↔∃ p∈l.take i,k = .p p.1 p.2
 |0,_,k=>by simp[LS]
 |i+1,h,k=>by
  have ih:=RM (l:=l) (i:=i) (by omega)
  have hi:i<l.length:=by omega
  have hg:l.getD i (0,0)=l[i]:=by simp[Ai2,hi]
  rw[AiR,Ai3 hi]
  unfold LS
  rw[hg]
  split
  ·rename_i j hj
   rw[ih]
   have hm:Key.p l[i].1 l[i].2∈(LS l i).map (·.1):=by
    by_cases c:Key.p l[i].1 l[i].2∈(LS l i).map (·.1)
    ·exact c
    ·rw[F7.2 c]at hj;cases hj
   constructor
   ·rintro⟨p,hp,e⟩
    exact⟨p,Aj6 _ hp,e⟩
   ·rintro⟨p,hp,e⟩
    rcases AiQ.1 hp with hp|hp
    ·exact⟨p,hp,e⟩
    ·have:p=l[i]:=by simpa using hp
     subst this
     rw[e];exact(ih _).1 hm
  ·rw[AiB,AiQ,ih]
   constructor
   ·rintro(⟨p,hp,e⟩|hk)
    ·exact⟨p,Aj6 _ hp,e⟩
    ·exact⟨l[i],List.mem_append_right _ (by simp),by simpa using hk⟩
   ·rintro⟨p,hp,e⟩
    rcases AiQ.1 hp with hp|hp
    ·exact .inl ⟨p,hp,e⟩
    ·have:p=l[i]:=by simpa using hp
     subst this
     exact .inr (by simp[e])
theorem bG(l:List (Int × Int)):∀ i:Nat,(LS l i).length≤i
 |0=>Ai4 _
 |i+1=>by
  have:=bG l i
  unfold LS
  split
  ·omega
  ·simp;omega
theorem Vt{l:List (Int × Int)}:∀{i:Nat},i≤l.length→((LS l i).length=i↔(l.take i).Nodup)
 |0,_=>by simp[LS]
 |i+1,h=>by
  have ih:=Vt (l:=l) (i:=i) (by omega)
  have hi:i<l.length:=by omega
  have hk:=RM (l:=l) (i:=i) (by omega) (.p l[i].1 l[i].2)
  have hle:=bG l i
  have hg:l.getD i (0,0)=l[i]:=by simp[Ai2,hi]
  rw[AiR,Ai3 hi,AjI]
  unfold LS
  rw[hg]
  split
  ·rename_i j hj
   have hm:Key.p l[i].1 l[i].2∈(LS l i).map (·.1):=by
    by_cases c:Key.p l[i].1 l[i].2∈(LS l i).map (·.1)
    ·exact c
    ·rw[F7.2 c]at hj;cases hj
   obtain⟨p,hp,e⟩:=hk.1 hm
   constructor
   ·intro h;omega
   ·rintro⟨_,_,h3⟩
    refine absurd ?_ (h3 p hp l[i] (by simp))
    simp only[Key.p.injEq]at e
    exact Prod.ext e.1.symm e.2.symm
  ·rename_i hn
   rw[F7,hk]at hn
   rw[AiK,Aj1,Nat.add_right_cancel_iff,ih]
   constructor
   ·intro h
    refine⟨h,by simp,fun a ha b hb=>?_⟩
    have:b=l[i]:=by simpa using hb
    subst this
    rintro rfl
    exact hn ⟨_,ha,rfl⟩
   ·exact fun h=>h.1
@[simp] theorem B2{x:AV}{l:List AV}{S:Aa}{K:AV→Aa→Prop}:A0 (.t (x :: l)) 0 S K=K x S:=by simp[A0]
@[simp] theorem BV{x y:AV}{l:List AV}{S:Aa}{K:AV→Aa→Prop}:A0 (.t (x :: y :: l)) 1 S K=K y S:=by simp[A0]
@[simp] theorem E4{x y z:AV}{l:List AV}{S:Aa}{K:AV→Aa→Prop}:A0 (.t (x :: y :: z :: l)) 2 S K=K z S:=by simp[A0]
theorem Af4{S:Aa}{kk:KK}{z:AV}{c:Bool}{id:Nat}{k:AV}{key:Key}{es:List (Key × AV)}{lv:Bool}{K:AV→Aa→Prop}(h:S.obj id=some (.map kk es lv))(hk:HG kk k=some key):Vk kk z c (.m id) k S K=K (kN z c (Js es key)) S:=by
 simp[Vk,Ov,h,hk]
theorem FO{S:Aa}{kk:KK}{id:Nat}{k v:AV}{key:Key}{es:List (Key × AV)}{K:AV→Aa→Prop}(h:S.obj id=some (.map kk es true))(hk:HG kk k=some key):Hr kk (.m id) k v S K=K .j (S.Du id (.map kk (C0 es key v) true)):=by
 simp[Hr,h,hk]
theorem aX{S:Aa}{kk:KK}{id:Nat}{es:List (Key × AV)}{lv:Bool}{K:AV→Aa→Prop}(h:S.obj id=some (.map kk es lv)):TT (.m id) S K=K (aI es.length) S:=by
 simp[TT,h]
theorem Af6(a b:Int):HG (.p .i64) (.a [aI a,aI b])=some (.p a b):=by simp[HG]
theorem TS(es:List (Key × AV))(k:Key):(Js es k).isSome=(Ij es k).isSome:=by
 cases h:Ij es k with
 |none=>simp[Js,h]
 |some i =>
  obtain⟨e,h1,h2⟩:=Vi (kk:=.s) h
  simp[h2]
theorem Wr{S:Aa}{id:Nat}{z g0:AV}{d st:Int}{l:List (Int × Int)}{Q:Bg→Aa→Prop}(hl:l.length≤1000000)(hid:id<S.n)(h:S.obj id=some (DZ 182 d st z [pL l,g0]))
    (k:∀ S2 m,S.n≤S2.n→(∀ x,x<S.n→x≠id→S2.obj x=S.obj x)→m≠id→S2.obj id=some (DZ 182 d st z [pL l,.m m])→S2.obj m=some (.map (.p .i64) (LS l l.length) true)→Q (.ret (.t [])) S2):
    Ad Pg 181 [.p id 0 0] S Q:=by
 refine cN ?_
 dsimp only[AcZ,Lf];unfold Zb
 have h':=(Je (o:=.map (.p .i64) [] true) hid).trans h
 show AJ _ _ _
 rw[AH,Ac]
 refine B8 h' (by simp) rfl fun S1 n1 o1 f1=>?_
 rw[AH,Ac,Af o1 rfl rfl,Bv]
 have hm:S.n≠id:=by omega
 refine WB (fun y S'=>S.n<S'.n∧(∀ x,x<S.n→x≠id→S'.obj x=S.obj x)∧S'.obj id=some (DZ 182 d st z [pL l,.m S.n])∧∃ i:Nat,y=aI i∧i≤l.length∧S'.obj S.n=some (.map (.p .i64) (LS l i) true))
  (fun y _=>l.length - ((Aw y).getD 0).toNat) ⟨by rw[n1,AcD];omega,fun x hx hne=>by rw[f1 x hne,Je hx],o1,0,rfl,Ai9 _,by rw[f1 _ hm,B0];rfl⟩ ?_
 dsimp only[BS]
 rintro _ S2 ⟨n2,f2,o2,i,rfl,hi,m2⟩ KE hKE
 dsimp only[gF,Fi,Lt,Lq]
 rw[As,Ag]
 refine Al (fun hlt=>?_) (fun hge=>?_)
 ·have hlt:i<l.length:=by simpa using hlt
  have hg:l.getD i (0,0)=l[i]:=by simp[Ai2,hlt]
  rw[Dd hlt,GO]
  refine Ai rfl fun S3 k3 n3 o3=>?_
  refine AF o3 rfl rfl fun S4 n4 o4 f4=>?_
  have p4:S4.obj id=_:=(f4 id (by omega)).trans ((k3.2 id (by omega)).trans o2)
  have q4:S4.obj S.n=_:=(f4 S.n (by omega)).trans ((k3.2 S.n n2).trans m2)
  have r4:∀ x,x<S.n→x≠id→S4.obj x=S.obj x:=fun x hx hne=>(f4 x (by omega)).trans ((k3.2 x (by omega)).trans (f2 x hx hne))
  show ∃ q15:AV,_
  refine⟨_,by rw[AH];exact⟨rfl,rfl⟩,_,by rw[Ac];exact⟨rfl,rfl⟩,_,by rw[Af p4 rfl rfl];exact⟨rfl,rfl⟩,_,by rw[An (n:=2) o4 rfl];exact⟨rfl,rfl⟩,_,by rw[Af4 q4 (Af6 _ _)];exact⟨rfl,rfl⟩,_,by rw[kN,B2];exact⟨rfl,rfl⟩,_,by rw[kN,BV];exact⟨rfl,rfl⟩,?_⟩
  rw[TS,AI,Ag]
  have hadd:∀ K:AV→Aa→Prop,∀ S,bin .add 0 (.v (.int .i64 (i:Int))) (.v (.int .i64 1)) S K=K (aI (i+1:Nat)) S:=fun K S=>Ar (by omega) (by omega) 0
  have hμ:l.length - ((Aw (aI (i+1:Nat))).getD 0).toNat<l.length - ((Aw (aI i)).getD 0).toNat:=by simp[Aw];omega
  refine Al (fun hn=>?_) (fun hn=>?_)
  ·have hn:Ij (LS l i) (.p l[i].1 l[i].2)=none:=by simpa using hn
   refine⟨_,fun T hT=>by rw[AH];exact⟨rfl,rfl⟩,_,fun T hT=>by rw[Ac];exact⟨rfl,rfl⟩,_,fun T hT=>by rw[Af ((hT.2 id (by omega)).trans p4) rfl rfl];exact⟨rfl,rfl⟩,_,fun T hT=>by rw[An (n:=2) (Kg hT o4) rfl];exact⟨rfl,rfl⟩,?_⟩
   rw[FO q4 (Af6 _ _),hadd]
   refine hKE _ _ ⟨by simp;omega,fun x hx hne=>by rw[Da (by omega)];exact r4 x hx hne,by rw[Da (by omega)];exact p4,i+1,rfl,hlt,?_⟩ hμ
   rw[BI]
   simp only[LS,hg,hn,D6 hn]
  ·obtain⟨j,hj⟩:∃ j,Ij (LS l i) (.p l[i].1 l[i].2)=some j:=by
     cases e:Ij (LS l i) (.p l[i].1 l[i].2)with
     |none=>simp[e]at hn
     |some j=>exact⟨j,rfl⟩
   rw[hadd]
   refine hKE _ _ ⟨by omega,r4,p4,i+1,rfl,hlt,?_⟩ hμ
   rw[q4]
   simp only[LS,hg,hj]
 ·have hge:i=l.length:=by simp at hge;omega
  subst hge
  exact k S2 S.n (by omega) f2 hm o2 m2
theorem Wq{S:Aa}{id:Nat}{z g0:AV}{l:List (Int × Int)}{Q:Bg→Aa→Prop}(hl:l.length≤1000000)(hid:id<S.n)(h:S.obj id=some (DZ 182 0 0 z [pL l,g0]))
    (k:∀ S2,S.n≤S2.n→(∀ x,x<S.n→x≠id→S2.obj x=S.obj x)→Q (.ret (aI (LS l l.length).length)) S2):
    Ad Pg 158 [.p id 0 0] S Q:=by
 refine dL ?_
 dsimp only[AdL,Lf]
 rw[AH,Ac]
 refine .inl (nZ h (.inl (Wr hl (by simpa using hid) (BI _ _) fun S2 m n2 f2 hm o2 m2=>⟨_,o2,?_⟩)))
 show AJ _ _ _
 rw[AH,Ac,Af (show(S2.Du id (DZ 182 1 0 z [pL l,.m m])).obj id=some (.cells 182 [[Uw 1,Ux 0,z,pL l,.m m]] true)from BI _ _) rfl rfl]
 rw[aX (by rw[Da hm];exact m2)]
 refine k _ (by simpa using n2) fun x hx hne=>?_
 rw[Da hne,f2 x (by simpa using hx) hne,Da hne]
theorem A7{pl:List (Nat × Nat)}{zc:List AV}{parts:List (Nat × AV)}{S:Aa}{K:AV→Aa→Prop}{cs:List AV}(h:Cu (fun i=>pl[i]?) zc parts=some cs):CH pl zc parts S K=K (.a cs) S:=by
 simp[CH,h]
theorem Yk{g:Gr}(hg:g.ok){S:Aa}{id:Nat}(hid:id<S.n){z g0:AV}(h:S.obj id=some (DZ 182 0 0 z [pL g.ands,g0])){Q:Bg→Aa→Prop}
    (k:∀ S2,S.n≤S2.n→(∀ x,x<S.n→x≠id→S2.obj x=S.obj x)→Q (.ret (aB g.right)) S2):Ad Pg 134 [g.av,.p id 0 0] S Q:=by
 have hlen:=hg.len
 refine eI ?_
 dsimp only[Ae7,Fi,Lf];unfold Gr.av
 refine Ai rfl fun S1 k1 n1 o1=>?_
 have kk:∀ b:Bool,g.right=b→Q (.ret (aB b)) S1:=fun b e=>e ▸ k S1 (by omega) fun x hx _=>k1.2 x hx
 rw[Ac,Af o1 rfl rfl,As,Ag]
 refine Al (fun h1=>kk _ ?_) (fun h1=>?_)
 ·have h1:=dT h1
  simp[Gr.right,show ¬ 0≤g.inputs by omega]
 have h1:0≤g.inputs:=by simpa using h1
 rw[Ac,Af o1 rfl rfl,AP,Ag]
 refine Al (fun h2=>kk _ ?_) (fun h2=>?_)
 ·have h2:=dT h2
  simp[Gr.right,show ¬ g.inputs≤2000 by omega]
 have h2:g.inputs≤2000:=by simpa using h2
 rw[Ac,Af o1 rfl rfl,Bv,AP,Ag]
 refine Al (fun h3=>kk _ ?_) (fun h3=>?_)
 ·have h3:=dT h3
  have:¬ (g.ands.length:Int)≤2000:=by omega
  simp only[Gr.right,this,decide_false,AiC,Aj2]
 have h3:g.ands.length≤2000:=by have:=dF h3;omega
 rw[An (n:=2) o1 rfl]
 refine Ae (jZ hg (by omega) h1) ?_
 rw[AP,Ag]
 refine Al (fun h4=>kk _ ?_) (fun h4=>?_)
 ·have h4:=dT h4
  simp[Gr.right,show ¬ g.vars≤2000 by omega]
 have h4:g.vars≤2000:=by simpa using h4
 rw[Ac,Af o1 rfl rfl,Bv]
 refine W0 (fun y S'=>Am S1 S'∧∃ i:Nat,y=aI i∧i≤g.ands.length∧∀ j,j<i→may (g.ands.getD j (0,0)) (g.inputs+1+j)=true)
  (fun y _=>g.ands.length - ((Aw y).getD 0).toNat) ⟨Am.refl _,0,rfl,Ai9 _,fun j hj=>(AiF _ hj).elim⟩ ?_
 dsimp only[BS]
 rintro _ S2 ⟨k2,i,rfl,hi,hmay⟩ KE hKE
 have o2:=(k2.2 S.n (by omega)).trans o1
 have b2:=(k2.2 id (by omega)).trans ((k1.2 id hid).trans h)
 dsimp only[iC,Fi,Lf,Lt]
 rw[As,Ag]
 refine Al (fun hlt=>?_) (fun hge=>?_)
 ·have hlt:i<g.ands.length:=by simpa using hlt
  have hg':g.ands.getD i (0,0)=g.ands[i]:=by simp[Ai2,hlt]
  rw[Dd hlt,GO]
  refine Ai rfl fun S3 k3 n3 o3=>?_
  refine AF o3 rfl rfl fun S4 n4 o4 f4=>?_
  have k4:Am S1 S4:=(k2.trans k3).st (by have:=k2.1;omega) n4 f4
  have p4:=(k4.2 S.n (by omega)).trans o1
  rw[An (n:=2) o4 rfl,Ac,Af p4 rfl rfl,Ar (by omega) (by omega),Ar (by omega) (by omega)]
  refine Ae (zY (p:=g.ands[i]) (hg.pairs _ (Ai6 hlt))) ?_
  rw[AI,Ag]
  refine Al (fun h5=>?_) (fun h5=>?_)
  ·have:g.right=false:=by
     have hr:(List.range g.ands.length).all (fun i=>may (g.ands.getD i (0,0)) (g.inputs+1+i))=false:=by
      rw[Aj4]
      exact⟨i,by simpa using hlt,by rw[hg'];simpa using h5⟩
     simp only[Gr.right,hr,AiC,Aj2]
   rw[←this]
   exact k S4 (by have:=k4.1;omega) fun x hx _=>(k4.2 x (by omega)).trans (k1.2 x hx)
  ·have hadd:∀ K:AV→Aa→Prop,∀ S,bin .add 0 (.v (.int .i64 (i:Int))) (.v (.int .i64 1)) S K=K (aI (i+1:Nat)) S:=fun K S=>Ar (by omega) (by omega) 0
   rw[hadd]
   refine hKE _ _ ⟨k4,i+1,rfl,hlt,fun j hj=>?_⟩ (by simp[Aw];omega)
   rcases AiS j i with hj'|hj'
   ·exact hmay j hj'
   ·have:j=i:=by omega
    subst this
    rw[hg']
    simpa using h5
 ·have hge:i=g.ands.length:=by simp at hge;omega
  subst hge
  have hn2:=k2.1
  refine⟨_,fun T hT=>by rw[Ac];exact⟨rfl,rfl⟩,_,fun T hT=>by rw[Af (Kg hT o2) rfl rfl];exact⟨rfl,rfl⟩,_,fun T hT=>by rw[Bv];exact⟨rfl,rfl⟩,.inl (Wq hlen (by omega) b2 fun S3 n3 f3=>?_)⟩
  have o3:=(f3 S.n (by omega) (by omega)).trans o2
  refine⟨fun T hT=>by rw[Bv];exact⟨rfl,rfl⟩,fun T hT=>by rw[Af (Kg hT o3) rfl rfl];exact⟨rfl,rfl⟩,fun T hT=>by rw[Ac];exact⟨rfl,rfl⟩,_,fun T hT=>by rw[AD];exact⟨rfl,rfl⟩,?_⟩
  have:g.right=decide (((LS g.ands g.ands.length).length:Int)=g.ands.length):=by
   have hr:(List.range g.ands.length).all (fun i=>may (g.ands.getD i (0,0)) (g.inputs+1+i))=true:=by
    rw[AiD]
    exact fun j hj=>hmay j (by simpa using hj)
   have hall:=Vt (l:=g.ands) (i:=g.ands.length) (Ai4 _)
   rw[Aj3]at hall
   simp only[Gr.right,hr,Ai7,h1,h2,h4,show(g.ands.length:Int)≤2000 by omega,decide_true,Int.natCast_inj,hall]
  rw[←this]
  exact k S3 (by omega) fun x hx hne=>(f3 x (by omega) hne).trans ((k2.2 x (by omega)).trans (k1.2 x hx))
theorem wH{g:Gr}(hg:g.ok):BH Pg 98 [g.av] (aB g.right):=by
 intro S
 refine Ad.Bt (oH ?_)
 dsimp only[m98,Lf];unfold Gr.av
 refine Ai rfl fun S1 k1 n1 o1=>?_
 rw[An (n:=2) o1 rfl,Ac,Af o1 rfl rfl]
 rw[A7 (cs:=[Uw 0,Ux 0,.v (.int .u32 0),pL g.ands,.v (.map none)]) rfl]
 refine Ai rfl fun S2 k2 n2 o2=>?_
 refine .inl (Yk hg (by omega) o2 fun S3 n3 f3=>⟨rfl,k1.trans ⟨by omega,fun x hx=>?_⟩⟩)
 rw[f3 x (by omega) (by omega),k2.2 x hx]
theorem OD{g:Gr}(hg:g.ok)(hi:g.inputs≤1000000)(h0:0≤g.inputs):BH Pg 16 [g.av] (aI g.vars):=by
 intro S
 have hl:=hg.len
 refine Ad.Bt (VC ?_)
 dsimp only[m16,Lf];unfold Gr.av
 refine Ai rfl fun S1 k1 n1 o1=>?_
 rw[Ac,Af o1 rfl rfl,Ar (by omega) (by omega),Ac,Af o1 rfl rfl,Bv,Ar (by omega) (by omega)]
 exact⟨rfl,k1⟩
theorem OC{g:Gr}{l:Int}(hg:g.ok)(hl:By l):BH Pg 43 [g.av,aI l] (aB (g.lit l)):=by
 intro S
 refine Ad.Bt (qL ?_)
 dsimp only[m43,Fi,Lf];unfold Gr.av Gr.lit
 refine Ai rfl fun S1 k1 n1 o1=>?_
 rw[Ac,Af o1 rfl rfl,BA,Ag]
 refine Al (fun h1=>?_) (fun h1=>⟨by simp only[h1,AiC],k1⟩)
 rw[Ac,Af o1 rfl rfl,C4,Ag]
 refine Al (fun h2=>?_) (fun h2=>⟨by simp only[h1,h2,AiC,Ai7],k1⟩)
 rw[BA,Ag]
 refine Al (fun h3=>?_) (fun h3=>⟨by simp only[h1,h2,h3,AiC,Ai7],k1⟩)
 rw[Cg hl,An (n:=2) o1 rfl]
 refine Ae (OD hg (by have:=dT h2;omega) (dT h1)) ?_
 rw[As]
 exact⟨by simp only[h1,h2,h3,Ai7],k1⟩
theorem VG{a b c d:Int}{S:Aa}{K:AV→Aa→Prop}:XH .i64 .eql (.a [aI a,aI b]) (.a [aI c,aI d]) S K=K (aB (decide ((a,b)=(c,d)))) S:=by
 simp[XH,HG]
theorem Vq{n sz:Nat}{c:List AV}{z:Nat}{S:Aa}{K:AV→Aa→Prop}(hz:z<n):IL n sz (.q c 0) (aI z) S K=K (.q c (z*sz)) S:=by
 unfold IL
 simp only[Aw,BO,AiJ,shift,AiG]
 exact propext ⟨fun h=>h.2,fun h=>⟨⟨by omega,by omega⟩,h⟩⟩
theorem aZ{u v:AV}{S:Aa}{K:AV→Aa→Prop}:Ax (.q [u,v] 1) S K=K v S:=by simp[Ax,SJ,place]
theorem a8{u:AV}{l:List AV}{S:Aa}{K:AV→Aa→Prop}:Ax (.q (u :: l) 0) S K=K u S:=by simp[Ax,SJ,place]
theorem CF{g:Gr}:g.right=true↔0≤g.inputs∧g.inputs≤2000∧(g.ands.length:Int)≤2000∧g.vars≤2000∧(∀ j,j<g.ands.length→may (g.ands.getD j (0,0)) (g.inputs+1+j)=true)∧g.ands.Nodup:=by
 simp[Gr.right]
theorem SQ{α:Type}[DecidableEq α]{l:List α}{i:Nat}(h:i<l.length):(l.take (i+1)).Nodup↔(l.take i).Nodup∧∀ k (hk:k<i),l[k]≠l[i]:=by
 rw[AiR,Ai3 h,AjI]
 constructor
 ·rintro⟨h1,_,h3⟩
  refine⟨h1,fun k hk=>h3 _ ?_ _ (by simp)⟩
  rw[List.mem_take_iff_getElem]
  exact⟨k,by omega,rfl⟩
 ·rintro⟨h1,h2⟩
  refine⟨h1,by simp,fun a ha b hb=>?_⟩
  have:b=l[i]:=by simpa using hb
  subst this
  rw[List.mem_take_iff_getElem]at ha
  obtain⟨k,hk,rfl⟩:=ha
  exact h2 k (by omega)
theorem SY{p:Int × Int}{v:Int}(h:p.2<2):may p v=false:=by simp[may,show ¬ 2≤p.2 by omega]
theorem SX{p:Int × Int}{v:Int}(h:p.1.tdiv 2≤p.2.tdiv 2):may p v=false:=by simp[may,show ¬ p.2.tdiv 2<p.1.tdiv 2 by omega]
theorem SW{p:Int × Int}{v:Int}(h:v≤p.1.tdiv 2):may p v=false:=by simp[may,show ¬ p.1.tdiv 2<v by omega]
theorem KG{g:Gr}{i:Nat}(h:i<g.ands.length)(hm:may (g.ands.getD i (0,0)) (g.inputs+1+i)=false):g.right=false:=by
 cases e:g.right with
 |false=>rfl
 |true=>rw[(CF.1 e).2.2.2.2.1 i h]at hm;cases hm
theorem jP{g:Gr}(hg:g.ok):BH Pg 42 [g.av] (aB g.right):=by
 intro S
 refine Ad.Bt (qM ?_)
 have hlen:=hg.len
 dsimp only[m42,Fi,Lf];unfold Gr.av
 refine Ai rfl fun S1 k1 n1 o1=>?_
 rw[Ac,Af o1 rfl rfl,As,Ag]
 refine Al (fun h1=>⟨?_,k1⟩) (fun h1=>?_)
 ·have h1:=dT h1
  simp[Gr.right,show ¬ 0≤g.inputs by omega]
 have h1:0≤g.inputs:=by simpa using h1
 rw[Ac,Af o1 rfl rfl,AP,Ag]
 refine Al (fun h2=>⟨?_,k1⟩) (fun h2=>?_)
 ·have h2:=dT h2
  simp[Gr.right,show ¬ g.inputs≤2000 by omega]
 have h2:g.inputs≤2000:=by simpa using h2
 rw[Ac,Af o1 rfl rfl,Bv,AP,Ag]
 refine Al (fun h3=>⟨?_,k1⟩) (fun h3=>?_)
 ·have h3:=dT h3
  have:¬ (g.ands.length:Int)≤2000:=by omega
  simp only[Gr.right,this,decide_false,AiC,Aj2]
 have h3:g.ands.length≤2000:=by have:=dF h3;omega
 rw[An (n:=2) o1 rfl]
 refine Ae (OD hg (by omega) h1) ?_
 rw[AP,Ag]
 refine Al (fun h4=>⟨?_,k1⟩) (fun h4=>?_)
 ·have h4:=dT h4
  simp[Gr.right,show ¬ g.vars≤2000 by omega]
 have h4:g.vars≤2000:=by simpa using h4
 refine Z4 (fun y S'=>S'=S1∧∃ i:Nat,y=aI i∧i≤g.ands.length∧(∀ j,j<i→may (g.ands.getD j (0,0)) (g.inputs+1+j)=true)∧(g.ands.take i).Nodup)
  (fun y _=>g.ands.length - ((Aw y).getD 0).toNat) ⟨rfl,0,rfl,Ai9 _,fun j hj=>(AiF _ hj).elim,by simp⟩ ?_
 dsimp only[BS]
 rintro _ S1 ⟨rfl,i,rfl,hi,hmay,hnd⟩ KE hKE
 dsimp only[vH,Fi,Lf,Lq]
 rw[Ac,Af o1 rfl rfl,Bv,As,Ag]
 refine Al (fun hlt=>?_) (fun hge=>?_)
 ·have hlt:i<g.ands.length:=by simpa using hlt
  have hg':g.ands.getD i (0,0)=g.ands[i]:=by simp[Ai2,hlt]
  have hp:=hg.pairs _ (Ai6 hlt)
  have e1:∀(c:List AV) (K:AV→Aa→Prop),IL 2 1 (.q c 0) (.v (.int .i64 1)) S1 K=K (.q c 1) S1:=fun c K=>Vq (z:=1) (by decide)
  have e0:∀(c:List AV) (K:AV→Aa→Prop),IL 2 1 (.q c 0) (.v (.int .i64 0)) S1 K=K (.q c 0) S1:=fun c K=>Vq (z:=0) (by decide)
  show ∃ q24:AV,_
  refine⟨_,by rw[Ac];exact⟨rfl,rfl⟩,_,by rw[Af o1 rfl rfl];exact⟨rfl,rfl⟩,_,by rw[Dd hlt];exact⟨rfl,rfl⟩,_,by rw[e0];exact⟨rfl,rfl⟩,_,by rw[a8];exact⟨rfl,rfl⟩,
   _,by rw[Ac];exact⟨rfl,rfl⟩,_,by rw[Af o1 rfl rfl];exact⟨rfl,rfl⟩,_,by rw[Dd hlt];exact⟨rfl,rfl⟩,_,by rw[e1];exact⟨rfl,rfl⟩,_,by rw[aZ];exact⟨rfl,rfl⟩,?_⟩
  rw[As,Ag]
  refine Al (fun h5=>⟨?_,k1⟩) (fun h5=>?_)
  ·rw[KG hlt (by rw[hg'];exact SY (dT h5))]
  rw[Cg hp.1,Cg hp.2,C4,Ag]
  refine Al (fun h6=>⟨?_,k1⟩) (fun h6=>?_)
  ·rw[KG hlt (by rw[hg'];exact SX (dT h6))]
  rw[Cg hp.1,Ac,Af o1 rfl rfl,Ar (by omega) (by omega),Ar (by omega) (by omega),BA,Ag]
  refine Al (fun h7=>⟨?_,k1⟩) (fun h7=>?_)
  ·rw[KG hlt (by rw[hg'];exact SW (dT h7))]
  have h5:=dF h5
  have h6:=dF h6
  have h7:=dF h7
  refine Z3 (fun y S'=>S'=S1∧∃ k:Nat,y=aI k∧k≤i∧∀ j (hj:j<k) (hk:k≤i),g.ands[j]'(by omega)≠g.ands[i])
   (fun y _=>g.ands.length - ((Aw y).getD 0).toNat) ⟨rfl,0,rfl,Ai9 _,fun j hj=>(AiF _ hj).elim⟩ ?_
  dsimp only[BS]
  rintro _ S1 ⟨rfl,k,rfl,hk,hne⟩ KE1 hKE1
  dsimp only[vG,Fi,Lq]
  rw[As,Ag]
  refine Al (fun hlk=>?_) (fun hgk=>?_)
  ·have hlk:k<i:=by simpa using hlk
   have hkl:k<g.ands.length:=by omega
   show ∃ q24:AV,_
   refine⟨_,by rw[Ac];exact⟨rfl,rfl⟩,_,by rw[Af o1 rfl rfl];exact⟨rfl,rfl⟩,_,by rw[Dd hkl];exact⟨rfl,rfl⟩,_,by rw[GO];exact⟨rfl,rfl⟩,
    _,by rw[Ac];exact⟨rfl,rfl⟩,_,by rw[Af o1 rfl rfl];exact⟨rfl,rfl⟩,_,by rw[Dd hlt];exact⟨rfl,rfl⟩,_,by rw[GO];exact⟨rfl,rfl⟩,_,by rw[VG];exact⟨rfl,rfl⟩,?_⟩
   rw[Ag]
   refine Al (fun h8=>⟨?_,k1⟩) (fun h8=>?_)
   ·have h8:g.ands[k]=g.ands[i]:=dT h8
    have:g.right=false:=by
     cases e:g.right with
     |false=>rfl
     |true =>
      have hnd:=(CF.1 e).2.2.2.2.2
      exact absurd h8 (List.pairwise_iff_getElem.1 hnd k i hkl hlt hlk)
    rw[this]
   ·have h8:¬ g.ands[k]=g.ands[i]:=dF h8
    have hadd:∀ K:AV→Aa→Prop,∀ S,bin .add 0 (.v (.int .i64 (k:Int))) (.v (.int .i64 1)) S K=K (aI (k+1:Nat)) S:=fun K S=>Ar (by omega) (by omega) 0
    rw[hadd]
    refine hKE1 _ _ ⟨rfl,k+1,rfl,hlk,fun j hj _=>?_⟩ (by simp[Aw];omega)
    rcases AiS j k with hj'|hj'
    ·exact hne j hj' (by omega)
    ·have:j=k:=by omega
     subst this
     exact h8
  ·have hge:k=i:=by simp at hgk;omega
   subst hge
   have hadd:∀ K:AV→Aa→Prop,∀ S,bin .add 0 (.v (.int .i64 (k:Int))) (.v (.int .i64 1)) S K=K (aI (k+1:Nat)) S:=fun K S=>Ar (by omega) (by omega) 0
   rw[hadd]
   refine hKE _ _ ⟨rfl,k+1,rfl,hlt,fun j hj=>?_,(SQ hlt).2 ⟨hnd,fun j hj=>hne j hj (Ai4 _)⟩⟩ (by simp[Aw];omega)
   rcases AiS j k with hj'|hj'
   ·exact hmay j hj'
   ·have:j=k:=by omega
    subst this
    rw[hg']
    simp[may,show 2≤(g.ands[j]).2 by omega,show(g.ands[j]).2.tdiv 2<(g.ands[j]).1.tdiv 2 by omega,show(g.ands[j]).1.tdiv 2<g.inputs+1+j by omega]
 ·have hge:i=g.ands.length:=by simp at hge;omega
  subst hge
  rw[Aj3]at hnd
  rw[CF.2 ⟨h1,h2,by omega,h4,hmay,hnd⟩]
  exact⟨rfl,k1⟩
theorem A4.Qk{n:Nat}{S:Aa}{x:AV}{e sz b:Nat}{es ys:List (List AV)}(h:A4 n S x e es)(hn:n≤S.n){K:AV→Aa→Prop}(hc:∀ c∈ys,c.length=sz)(hb:(es.length+ys.length)*b≤140737488355328)
    (k:∀ x' S',A4 n S' x' e (es++ys)→But S S' x→(x'=x∨∃ m,x' = .s S.n 0 m)→K x' S') {y:AV} (hy:Ja S y=some ys):Bo e sz b x y S K:=by
 refine⟨h.Af8,ys,hy,hc,?_⟩
 cases ys with
 |nil=>exact k x S (by simpa using h) ⟨Ai4 _,fun _ _ _=>rfl⟩ (.inl rfl)
 |cons c ys =>
  rcases h with⟨rfl,rfl⟩|⟨id,rfl,h1,h2,h3⟩
  ·refine⟨by simpa using hb,k _ _ (.inr ⟨S.n,rfl,hn,AjL _,by simp[Aa.new]⟩) ⟨Nat.le_succ _,fun i hi _=>?_⟩ (.inr ⟨_,rfl⟩)⟩
   simp only[Aa.new];rw[if_neg (by omega)]
  ·simp only[Ql,h3,Aj3,Ai4]
   refine⟨⟨trivial,trivial,by simpa using hb⟩,k _ _ (.inr ⟨S.n,by simp,hn,AjL _,by simp[Aa.new,Aa.kill]⟩) ⟨Nat.le_succ _,fun i hi hne=>?_⟩ (.inr ⟨_,rfl⟩)⟩
   have e1:i≠S.n:=by omega
   have e2:i≠id:=fun hq=>hne 0 es.length (by rw[hq])
   simp[Aa.new,Aa.kill,e1,e2]
theorem zE{e:Nat}{z1 z2 u v:AV}{S:Aa}{K:AV→Aa→Prop}(k:K (.l [[u,v]]) S):AU e 2 1 [z1,z2] [(0,.a [u,v])] S K:=by
 refine⟨[u,v],?_,.inr ?_⟩
 ·simp[Cu,cellsOf,Jw,AiP]
 ·simpa[chunks,AiP]using k
@[simp] theorem U1(a b:Int){S:Aa}{K:AV→Aa→Prop}:YK true (aI a) (aI b) S K=K (aI (if b > a then b else a)) S:=rfl
@[simp] theorem Q0(a b:Int){S:Aa}{K:AV→Aa→Prop}:YK false (aI a) (aI b) S K=K (aI (if b<a then b else a)) S:=rfl
theorem Hd(l:List (Int × Int)):Tree (pL l):=Tree.l fun c hc u hu=>by
 obtain⟨p,_,rfl⟩:=AiL.1 hc
 rcases AiO.1 hu with rfl|hu
 ·exact Tree.v _
 ·rcases AiO.1 hu with rfl|hu
  ·exact Tree.v _
  ·simp at hu
theorem Gr.tree(g:Gr):Tree g.av:=Tree.a fun u hu=>by
 rcases AiO.1 hu with rfl|hu
 ·exact Tree.v _
 ·rcases AiO.1 hu with rfl|hu
  ·exact Hd _
  ·simp at hu
theorem VA{S:Aa}{n:Nat}{x y z x' y' z':AV}(h1:Cv S n x x')(h2:Cv S n y y')(h3:Cv S n z z'):Cv S n (.t [x,y,z]) (.t [x',y',z']):=
 .t _ _ rfl fun k u u2 hk hk2=>by
  match k with
  |0=>cases hk;cases hk2;exact h1
  |1=>cases hk;cases hk2;exact h2
  |2=>cases hk;cases hk2;exact h3
  |k+3=>simp at hk
theorem DN{S:Aa}{n:Nat}{x y x' y':AV}(h1:Cv S n x x')(h2:Cv S n y y'):Cv S n (.t [x,y]) (.t [x',y']):=
 .t _ _ rfl fun k u u2 hk hk2=>by
  match k with
  |0=>cases hk;cases hk2;exact h1
  |1=>cases hk;cases hk2;exact h2
  |k+2=>simp at hk
theorem bX{S:Aa}{n:Nat}{x y x' y':AV}(h1:Cv S n x x')(h2:Cv S n y y'):Cv S n (.a [x,y]) (.a [x',y']):=
 .a _ _ rfl fun k u u2 hk hk2=>by
  match k with
  |0=>cases hk;cases hk2;exact h1
  |1=>cases hk;cases hk2;exact h2
  |k+2=>simp at hk
theorem yP{b c:Bool}{R T:Prop}(h1:b=true→c=true→R)(h2:¬ (b=true∧c=true)→T):gd b (gd c R T) T:=by
 cases b<;>cases c<;>simp_all [gd]
def Sd(g:Gr)(x y:Int):Gr × Int × Int:=
 if y=0 then(g,0,0)
 else if x.tdiv 2=y.tdiv 2∧x≠y then(g,0,0)
 else if y=1 then(g,x,0)
 else if x=y then(g,x,0)
 else match g.ands.findIdx? (fun p=>decide (p=(x,y)))with
  |some i=>(g,2*(g.inputs+1+i),0)
  |none=>if 2000≤g.vars then(⟨0,[]⟩,0,2)else(⟨g.inputs,g.ands ++ [(x,y)]⟩,2*(g.vars+1) - 2,0)
def Gr.and(g:Gr)(a b:Int):Gr × Int × Int:=
 if(g.right && (g.lit a && g.lit b))=false then(⟨0,[]⟩,0,1)else Sd g (if b > a then b else a) (if b<a then b else a)
def VS(r:Gr × Int × Int):AV:=.t [r.1.av,aI r.2.1,aI r.2.2]
theorem xI{i:Int}{x:AV}{n:Nat}(hx:∀(S:Aa) (K:AV→Aa→Prop),AG x S K=K (aI n) S)(h0:0≤i)(h1:i≤1000000)(hn:n≤2000000):BH Pg 16 [.a [aI i,x]] (aI (i+1+n)):=by
 intro S
 refine Ad.Bt (VC ?_)
 dsimp only[m16,Lf]
 refine Ai rfl fun S1 k1 n1 o1=>?_
 rw[Ac,Af o1 rfl rfl,Ar (by omega) (by omega),Ac,Af o1 rfl rfl,hx,Ar (by omega) (by omega)]
 exact⟨rfl,k1⟩
theorem Ag7{g:Gr}{a b:Int}(hg:g.ok)(ha:By a)(hb:By b):BH Pg 84 [g.av,aI a,aI b] (VS (g.and a b)):=by
 intro S
 refine Ad.tree (oV ?_)
 have hlen:=hg.len
 dsimp only[m84,U9,Zj,Fi]
 have bd:∀{a b:Int} {S:Aa} {K:AV→Aa→Prop},CH [(0,1),(1,1)] [.v (.int .i64 0),.v (.int .i64 0)] [(0,aI a),(1,aI b)] S K=K (.a [aI a,aI b]) S:=A7 rfl
 have bz:∀{S:Aa} {K:AV→Aa→Prop},CH [(0,1),(1,1)] [.v (.int .i64 0),.nl] [] S K=K (.a [aI 0,.nl]) S:=A7 rfl
 refine Ai rfl fun S1 k1 n1 o1=>?_
 refine Ai rfl fun S2 k2 n2 o2=>?_
 have k2:=k1.trans k2
 have p1:S2.obj S.n=_:=(‹Am S1 S2›.2 S.n (by omega)).trans o1
 have fin:∀{S':Aa} {v:AV} (r:Gr × Int × Int),Am S S'→Cv (S'.Bx (AK S.n)) S.n v r.1.av→g.and a b=r→∃ q,Bg.ret (.t [v,aI r.2.1,aI r.2.2]) = .ret q∧Am S S'∧Cv (S'.Bx (AK S.n)) S.n q (VS (g.and a b)):=
  fun r hk hc e=>⟨_,rfl,hk,by rw[e];exact VA hc (.v _) (.v _)⟩
 have err:∀ S',Cv (Aa.Bx S' (AK S.n)) S.n (.a [aI 0,.nl]) (Gr.av ⟨0,[]⟩):=fun _=>bX (.v _) .nl
 have bad:∀{e:Int},(g.right && (g.lit a && g.lit b))=false→g.and a b=(⟨0,[]⟩,0,1):=fun h=>by simp only[Gr.and];rw[if_pos h]
 rw[An (n:=2) p1 rfl]
 refine Ae (jP hg) ?_
 rw[AI,Ag]
 refine Al (fun h1=>?_) (fun h1=>?_)
 ·rw[bz]
  refine AF o2 rfl rfl fun S3 n3 o3 f3=>?_
  rw[An (n:=2) o3 rfl]
  exact fin (⟨0,[]⟩,0,1) (k2.st (by omega) n3 f3) (err _) (bad (e:=0) (by rw[AiN]at h1;rw[h1];rfl))
 have h1:g.right=true:=by simpa using h1
 rw[An (n:=2) p1 rfl]
 refine Ae (OC hg ha) ?_
 rw[AI,Ag]
 refine Al (fun h2=>?_) (fun h2=>?_)
 ·rw[bz]
  refine AF o2 rfl rfl fun S3 n3 o3 f3=>?_
  rw[An (n:=2) o3 rfl]
  exact fin (⟨0,[]⟩,0,1) (k2.st (by omega) n3 f3) (err _) (bad (e:=0) (by rw[AiN]at h2;rw[h1,h2];rfl))
 have h2:g.lit a=true:=by simpa using h2
 rw[An (n:=2) p1 rfl]
 refine Ae (OC hg hb) ?_
 rw[AI,Ag]
 refine Al (fun h3=>?_) (fun h3=>?_)
 ·rw[bz]
  refine AF o2 rfl rfl fun S3 n3 o3 f3=>?_
  rw[An (n:=2) o3 rfl]
  exact fin (⟨0,[]⟩,0,1) (k2.st (by omega) n3 f3) (err _) (bad (e:=0) (by rw[AiN]at h3;rw[h1,h2,h3];rfl))
 have h3:g.lit b=true:=by simpa using h3
 obtain⟨r1,r2,r3,r4,r5,r6⟩:=CF.1 h1
 rw[U1,Q0]
 have hx:By (if b > a then b else a):=by split<;>assumption
 have hy:By (if b<a then b else a):=by split<;>assumption
 have hand:g.and a b=Sd g (if b > a then b else a) (if b<a then b else a):=by
  simp only[Gr.and]
  rw[if_neg (by rw[h1,h2,h3];decide)]
 generalize hex:(if b > a then b else a)=x at *
 generalize hey:(if b<a then b else a)=y at *
 have ok:∀{S':Aa},Cv (S'.Bx (AK S.n)) S.n (.a g.cells) g.av:=fun{S'}=>g.tree _ _
 rw[AD,Ag]
 refine Al (fun h4=>?_) (fun h4=>?_)
 ·rw[An (n:=2) p1 rfl]
  refine AF o2 rfl rfl fun S3 n3 o3 f3=>?_
  rw[An (n:=2) o3 rfl]
  exact fin (g,0,0) (k2.st (by omega) n3 f3) ok (hand.trans (by rw[Sd,if_pos (dT h4)]))
 have h4:=dF h4
 rw[Cg hx,Cg hy,AD,Ag]
 rw[Bi,Ag]
 refine yP (fun h5 h6=>?_) (fun h7=>?_)
 ·rw[An (n:=2) p1 rfl]
  refine AF o2 rfl rfl fun S3 n3 o3 f3=>?_
  rw[An (n:=2) o3 rfl]
  exact fin (g,0,0) (k2.st (by omega) n3 f3) ok (hand.trans (by rw[Sd,if_neg h4,if_pos ⟨dT h5,by simpa using h6⟩]))
 ·have h7:¬ (x.tdiv 2=y.tdiv 2∧x≠y):=fun h=>h7 ⟨by simpa using h.1,by simpa using h.2⟩
  have hand:g.and a b=(if y=1 then(g,x,(0:Int))
   else if x=y then(g,x,0)
   else match g.ands.findIdx? (fun p=>decide (p=(x,y)))with
    |some i=>(g,2*(g.inputs+1+i),0)
    |none=>if 2000≤g.vars then(⟨0,[]⟩,0,2)else(⟨g.inputs,g.ands ++ [(x,y)]⟩,2*(g.vars+1) - 2,0):Gr × Int × Int):=hand.trans (by rw[Sd,if_neg h4,if_neg h7])
  rw[AD,Ag]
  refine Al (fun h8=>?_) (fun h8=>?_)
  ·rw[An (n:=2) p1 rfl]
   refine AF o2 rfl rfl fun S3 n3 o3 f3=>?_
   rw[An (n:=2) o3 rfl]
   exact fin (g,x,0) (k2.st (by omega) n3 f3) ok (hand.trans (by rw[if_pos (dT h8)]))
  have h8:=dF h8
  rw[AD,Ag]
  refine Al (fun h9=>?_) (fun h9=>?_)
  ·rw[An (n:=2) p1 rfl]
   refine AF o2 rfl rfl fun S3 n3 o3 f3=>?_
   rw[An (n:=2) o3 rfl]
   exact fin (g,x,0) (k2.st (by omega) n3 f3) ok (hand.trans (by rw[if_neg h8,if_pos (dT h9)]))
  have h9:=dF h9
  have hand:=hand.trans (by rw[if_neg h8,if_neg h9])
  refine ZG (fun z S'=>S'=S2∧∃ i:Nat,z=aI i∧i≤g.ands.length∧∀ j (hj:j<g.ands.length),j<i→g.ands[j]≠(x,y))
   (fun z _=>g.ands.length - ((Aw z).getD 0).toNat) ⟨rfl,0,rfl,Ai9 _,fun j _ hj=>(AiF _ hj).elim⟩ ?_
  dsimp only[BS]
  rintro _ S2 ⟨rfl,i,rfl,hi,hno⟩ KE hKE
  dsimp only[uR,Fi,Lf,Lt,Lc]
  have hl3:=r3
  have hv:=r4
  unfold Gr.vars at hv
  rw[Ac,Af p1 rfl rfl,Bv,As,Ag]
  refine Al (fun hlt=>?_) (fun hge=>?_)
  ·have hlt:i<g.ands.length:=by simpa using hlt
   rw[Ac,Af p1 rfl rfl,Dd hlt,GO,bd,VG,Ag]
   refine Al (fun h10=>?_) (fun h10=>?_)
   ·have h10:g.ands[i]=(x,y):=dT h10
    have hf:g.ands.findIdx? (fun p=>decide (p=(x,y)))=some i:=by
     rw[AjD]
     exact⟨hlt,by simpa using h10,fun j hj=>by simpa using hno j (by omega) hj⟩
    have q:∀ T:Aa,Am S2 T→T.obj S.n=some (.cells 61 [g.cells] true):=fun T hT=>(Kg hT p1)
    have e1:∀{S:Aa} {K:AV→Aa→Prop},bin .add 0 (aI g.inputs) (aI 1) S K=K (aI (g.inputs+1)) S:=Ar (by omega) (by omega) 0
    have e2:∀{S:Aa} {K:AV→Aa→Prop},bin .add 0 (aI (g.inputs+1)) (aI i) S K=K (aI (g.inputs+1+i)) S:=Ar (by omega) (by omega) 0
    have e3:∀{S:Aa} {K:AV→Aa→Prop},bin .mul 0 (aI 2) (aI (g.inputs+1+i)) S K=K (aI (2*(g.inputs+1+i))) S:=G7 (by omega) (by omega) 0
    refine⟨_,fun T hT=>by rw[An (n:=2) (q T hT) rfl];exact⟨rfl,rfl⟩,_,fun T hT=>by rw[Ac];exact⟨rfl,rfl⟩,_,fun T hT=>by rw[Af (q T hT) rfl rfl];exact⟨rfl,rfl⟩,_,fun T hT=>by rw[e1];exact⟨rfl,rfl⟩,_,fun T hT=>by rw[e2];exact⟨rfl,rfl⟩,_,fun T hT=>by rw[e3];exact⟨rfl,rfl⟩,?_⟩
    refine AF o2 rfl rfl fun S3 n3 o3 f3=>?_
    have q3:∀ T:Aa,Am S3 T→T.obj S.n=some (.cells 61 [g.cells] true):=fun T hT=>(Kg hT ((f3 _ (by omega)).trans p1))
    refine⟨fun T hT=>by rw[e3];exact⟨rfl,rfl⟩,fun T hT=>by rw[e2];exact⟨rfl,rfl⟩,fun T hT=>by rw[e1];exact⟨rfl,rfl⟩,fun T hT=>by rw[Af (q3 T hT) rfl rfl];exact⟨rfl,rfl⟩,fun T hT=>by rw[Ac];exact⟨rfl,rfl⟩,?_⟩
    rw[An (n:=2) o3 rfl]
    exact fin (g,2*(g.inputs+1+i),0) (k2.st (by omega) n3 f3) ok (hand.trans (by rw[hf]))
   ·have h10:¬ g.ands[i]=(x,y):=dF h10
    have hadd:∀ K:AV→Aa→Prop,∀ S,bin .add 0 (.v (.int .i64 (i:Int))) (.v (.int .i64 1)) S K=K (aI (i+1:Nat)) S:=fun K S=>Ar (by omega) (by omega) 0
    rw[hadd]
    refine hKE _ _ ⟨rfl,i+1,rfl,hlt,fun j hj hj'=>?_⟩ (by simp[Aw];omega)
    rcases AiS j i with h|h
    ·exact hno j hj h
    ·have:j=i:=by omega
     subst this
     exact h10
  ·have hge:i=g.ands.length:=by simp at hge;omega
   subst hge
   have hf:g.ands.findIdx? (fun p=>decide (p=(x,y)))=none:=by
    rw[AjG]
    intro q hq
    obtain⟨j,hj,rfl⟩:=Aj0 hq
    simpa using hno j hj hj
   rw[hf]at hand
   rw[An (n:=2) p1 rfl]
   refine Ae (OD hg (by omega) r1) ?_
   rw[BA,Ag]
   refine Al (fun h11=>?_) (fun h11=>?_)
   ·rw[bz]
    refine AF o2 rfl rfl fun S3 n3 o3 f3=>?_
    rw[An (n:=2) o3 rfl]
    exact fin (⟨0,[]⟩,0,2) (k2.st (by omega) n3 f3) (err _) (hand.trans (by simp only[if_pos (dT h11)]))
   have h11:=dF h11
   have hand:g.and a b=(⟨g.inputs,g.ands ++ [(x,y)]⟩,2*(g.vars+1) - 2,0):=hand.trans (by simp only[if_neg h11])
   refine Ai rfl fun S3 k3 n3 o3=>?_
   have p3:=(k3.2 S.n (by omega)).trans p1
   rw[Ac,Af p3 rfl rfl,Ac]
   refine B8 o3 (by simp) rfl fun S4 n4 o4 f4=>?_
   have p4:=(f4 S.n (by omega)).trans p3
   rw[Ac,Af o4 rfl rfl,Ac,Af p4 rfl rfl]
   have m2:=k2.1
   have m3:=k3.1
   have k4:Am S S4:=(k2.trans k3).st (by omega) n4 f4
   have v4:S4.obj S1.n=_:=(f4 S1.n (by omega)).trans ((k3.2 S1.n (by omega)).trans o2)
   refine A4.Qk (A4.nl S.n S4 130) (by omega) (ys:=g.ands.map fun p=>[aI p.1,aI p.2]) (fun c hc=>by obtain⟨p,_,rfl⟩:=AiL.1 hc;rfl) (by simp;omega) (fun z1 S5 w5 b5 hz5=>?_) rfl
   rw[bd]
   refine zE ?_
   have k5:Am S S5:=w5.AS (S0:=S) (Ai4 _) ⟨Ai4 _,fun _ _ _=>rfl⟩ ⟨Nat.le_trans k4.1 b5.1,fun i hi=>(b5.2 i (by have:=k4.1;omega) (fun _ _ h=>by cases h)).trans (k4.2 i hi)⟩
   have e5:∀ i,i<S4.n→S5.obj i=S4.obj i:=fun i hi=>b5.2 i hi (fun _ _ h=>by cases h)
   have z5:∀ i b m,z1 = .s i b m→i=S4.n:=fun i b m e=>by
    rcases hz5 with h|⟨m',h⟩
    ·rw[h]at e;cases e
    ·rw[h]at e;cases e;rfl
   have n5:=b5.1
   refine w5.app (by have:=k5.1;omega) (c:=[aI x,aI y]) rfl (by simp;omega) (fun z2 S6 w6 b6 hz6=>?_) rfl
   have e6:∀ i,i<S4.n→S6.obj i=S4.obj i:=fun i hi=>(b6.2 i (by omega) (fun b m e=>by have:=z5 i b m e;omega)).trans (e5 i hi)
   have n6:=b6.1
   have k6:Am S S6:=w5.AS (Ai4 _) b6 k5
   obtain⟨m6,hz6⟩:=hz6
   rw[Ac]
   refine B8 ((e6 S2.n (by omega)).trans o4) (by simp) (by rw[hz6];rfl) fun S7 n7 o7 f7=>?_
   have p7:S7.obj S.n=_:=(f7 S.n (by omega)).trans ((e6 S.n (by omega)).trans p4)
   have v7:S7.obj S1.n=_:=(f7 S1.n (by omega)).trans ((e6 S1.n (by omega)).trans v4)
   have k7:Am S S7:=k6.st (by omega) n7 f7
   have w7:A4 S.n S7 z2 130 _:=w6.st (id:=S2.n) (fun b m e=>by rw[hz6]at e;injection e;omega) n7 f7
   have hlen2:(((g.ands.map fun p=>[aI p.1,aI p.2]) ++ [[aI x,aI y]]).length:Nat)=g.ands.length+1:=by simp
   have hz:∀(S:Aa) (K:AV→Aa→Prop),AG z2 S K=K (aI (g.ands.length+1:Nat)) S:=fun S K=>by
    rcases w7 with⟨h,h'⟩|⟨id,h,_,_,_⟩
    ·rw[h]at hz6;cases hz6
    ·rw[h,Dv,List.nil_append,hlen2]
   have q:∀ T:Aa,Am S7 T→T.obj S2.n=some (.cells 61 [[aI g.inputs,z2]] true):=fun T hT=>(Kg hT o7)
   have e1:∀{S:Aa} {K:AV→Aa→Prop},bin .mul 0 (aI 2) (aI (g.inputs+1+(g.ands.length+1:Nat))) S K=K (aI (2*(g.inputs+1+(g.ands.length+1:Nat)))) S:=G7 (by omega) (by omega) 0
   have e2:∀{S:Aa} {K:AV→Aa→Prop},bin .sub 0 (aI (2*(g.inputs+1+(g.ands.length+1:Nat)))) (aI 2) S K=K (aI (2*(g.inputs+1+(g.ands.length+1:Nat)) - 2)) S:=Bz (by omega) (by omega) 0
   refine⟨_,fun T hT=>by rw[An (n:=2) (q T hT) rfl];exact⟨rfl,rfl⟩,_,fun T hT=>by rw[An (n:=2) (q T hT) rfl];exact⟨rfl,rfl⟩,_,fun T hT=>Ae (xI hz r1 (by omega) (by omega)) ⟨rfl,rfl⟩,_,fun T hT=>by rw[e1];exact⟨rfl,rfl⟩,_,fun T hT=>by rw[e2];exact⟨rfl,rfl⟩,?_⟩
   refine AF v7 rfl rfl fun S8 n8 o8 f8=>?_
   refine⟨fun T hT=>by rw[e2];exact⟨rfl,rfl⟩,fun T hT=>by rw[e1];exact⟨rfl,rfl⟩,?_⟩
   rw[An (n:=2) o8 rfl]
   have w8:A4 S.n S8 z2 130 _:=w7.st (id:=S1.n) (fun b m e=>by rw[hz6]at e;injection e;omega) n8 f8
   have hv2:g.vars=g.inputs+1+g.ands.length:=rfl
   have:=fin (S':=S8) (v:=.a [aI g.inputs,z2]) (⟨g.inputs,g.ands ++ [(x,y)]⟩,2*(g.vars+1) - 2,0) (k7.st (by omega) n8 f8) (bX (.v _) (w8.cv rfl (by simp) (fun i c c2 hc hc2=>?_))) hand
   ·rw[hv2,show g.inputs+1+(g.ands.length:Int)+1=g.inputs+1+(g.ands.length+1:Nat)by omega]at this
    exact this
   ·have:c=c2:=by
      rw[List.nil_append]at hc
      rw[AiB]at hc2
      exact Option.some.inj (hc.symm.trans hc2)
    subst this
    refine⟨rfl,fun k u u2 hu hu2=>?_⟩
    rw[hu]at hu2;cases hu2
    have hm:=AjB hc2
    rw[AiL]at hm
    obtain⟨p,_,rfl⟩:=hm
    match k with
    |0=>cases hu;exact .v _
    |1=>cases hu;exact .v _
    |k+2=>simp at hu
section
variable {S:Aa} {K:AV→Aa→Prop}
theorem Ik{b:ByteArray}{i:Nat}(h:i<b.size):HH (.v (.string b)) (aI i) S K=K (.v (.int .u8 (b[i]).toNat)) S:=by
 simp[HH,Aw,h]
@[simp] theorem EZ(b:ByteArray):FT (.v (.string b)) S K=K (aI b.size) S:=rfl
theorem VD(a b:ByteArray):(a.toList == b.toList)=decide (a=b):=by
 rw[Bool.eq_iff_iff,beq_iff_eq,ByteArray.toList_eq,ByteArray.toList_eq,decide_eq_true_eq]
 exact⟨fun h=>ByteArray.ext (Array.toList_inj.mp h),fun h=>by rw[h]⟩
theorem Sa(a b:ByteArray)(kd:Nat):bin .eql kd (.v (.string a)) (.v (.string b)) S K=K (aB (decide (a=b))) S:=by simp[bin,b2,Wa,VD]
theorem R9(a b:ByteArray)(kd:Nat):bin .neq kd (.v (.string a)) (.v (.string b)) S K=K (aB (!decide (a=b))) S:=by simp[bin,b2,Wa,VD]
theorem E0{c:List AV}{j:Nat}{u:AV}(h:c[j]? = some u):Ax (.q c j) S K=K u S:=by simp[Ax,SJ,place,h]
@[simp] theorem Fu(c:List AV)(j n:Nat):shift (.q c j) n S K=K (.q c (j+n)) S:=rfl
end
def Hc(b:ByteArray):Bool:=decide (∀ i (h:i<b.size),33≤(b[i]).toNat∧(b[i]).toNat≤126) && (decide (0<b.size) && decide (b.size≤20))
theorem Ag6(b:ByteArray)(hb:b.size≤9223372036854775807):BH Pg 87 [.v (.string b)] (aB (Hc b)):=by
 intro S
 refine Ad.Bt (oS ?_)
 unfold m87
 refine ZC (fun y S'=>S'=S∧∃ i:Nat,y=aI i∧i≤b.size∧∀ j (h:j<b.size),j<i→33≤(b[j]).toNat∧(b[j]).toNat≤126)
  (fun y _=>b.size - ((Aw y).getD 0).toNat) ⟨rfl,0,rfl,Ai9 _,fun j _ hj=>(AiF _ hj).elim⟩ ?_
 dsimp only[BS]
 rintro _ S ⟨rfl,i,rfl,hi,hok⟩ KE hKE
 dsimp only[uN,Fi]
 rw[EZ,As,Ag]
 refine Al (fun hlt=>?_) (fun hge=>?_)
 ·have hlt:i<b.size:=by simpa using hlt
  have bad:¬ (33≤(b[i]).toNat∧(b[i]).toNat≤126)→Hc b=false:=fun h=>by
   simp only[Hc,Bool.and_eq_false_iff,decide_eq_false_iff_not]
   exact .inl fun h'=>h (h' i hlt)
  rw[Ik hlt,As,Ag]
  refine Al (fun h1=>⟨by rw[bad (fun h=>by have:=dT h1;omega)],Am.refl _⟩) (fun h1=>?_)
  rw[Ik hlt,AP,Ag]
  refine Al (fun h2=>⟨by rw[bad (fun h=>by have:=dT h2;omega)],Am.refl _⟩) (fun h2=>?_)
  have hadd:∀ K:AV→Aa→Prop,∀ S,bin .add 0 (.v (.int .i64 (i:Int))) (.v (.int .i64 1)) S K=K (aI (i+1:Nat)) S:=fun K S=>Ar (by omega) (by omega) 0
  rw[hadd]
  refine hKE _ _ ⟨rfl,i+1,rfl,hlt,fun j hj hj'=>?_⟩ (by simp[Aw];omega)
  rcases AiS j i with h|h
  ·exact hok j hj h
  ·have:j=i:=by omega
   subst this
   have h1:=dF h1
   have h2:=dF h2
   omega
 ·have hge:i=b.size:=by simp at hge;omega
  subst hge
  have hall:decide (∀ i (h:i<b.size),33≤(b[i]).toNat∧(b[i]).toNat≤126)=true:=decide_eq_true fun j hj=>hok j hj hj
  rw[EZ,AP,Ag]
  refine Al (fun h1=>?_) (fun h1=>⟨?_,Am.refl _⟩)
  ·rw[EZ,C4]
   refine⟨?_,Am.refl _⟩
   simp only[Hc,hall,Ai7,show 0<b.size by simpa using h1,decide_true]
   rw[show decide ((b.size:Int)≤20)=decide (b.size≤20)from decide_eq_decide.2 (by omega)]
  ·simp[Hc,show ¬ 0<b.size by simpa using h1]
theorem Aa3(b:ByteArray)(hb:b.size≤9223372036854775807):BH Pg 136 [.v (.string b)] (aB (Hc b)):=by
 intro S
 refine Ad.Bt (eG ?_)
 unfold Ae5
 rw[EZ]
 refine WY (fun y S'=>S'=S∧∃ i:Nat,y=aI i∧i≤b.size∧∀ j (h:j<b.size),j<i→33≤(b[j]).toNat∧(b[j]).toNat≤126)
  (fun y _=>b.size - ((Aw y).getD 0).toNat) ⟨rfl,0,rfl,Ai9 _,fun j _ hj=>(AiF _ hj).elim⟩ ?_
 dsimp only[BS]
 rintro _ S ⟨rfl,i,rfl,hi,hok⟩ KE hKE
 dsimp only[iA,Fi]
 rw[As,Ag]
 refine Al (fun hlt=>?_) (fun hge=>?_)
 ·have hlt:i<b.size:=by simpa using hlt
  have bad:¬ (33≤(b[i]).toNat∧(b[i]).toNat≤126)→Hc b=false:=fun h=>by
   simp only[Hc,Bool.and_eq_false_iff,decide_eq_false_iff_not]
   exact .inl fun h'=>h (h' i hlt)
  rw[Ik hlt,C4,Ag]
  refine Al (fun h1=>⟨by rw[bad (fun h=>by have:=dT h1;omega)],Am.refl _⟩) (fun h1=>?_)
  rw[Ik hlt,AP,Ag]
  refine Al (fun h2=>⟨by rw[bad (fun h=>by have:=dT h2;omega)],Am.refl _⟩) (fun h2=>?_)
  have hadd:∀ K:AV→Aa→Prop,∀ S,bin .add 0 (.v (.int .i64 (i:Int))) (.v (.int .i64 1)) S K=K (aI (i+1:Nat)) S:=fun K S=>Ar (by omega) (by omega) 0
  rw[hadd]
  refine hKE _ _ ⟨rfl,i+1,rfl,hlt,fun j hj hj'=>?_⟩ (by simp[Aw];omega)
  rcases AiS j i with h|h
  ·exact hok j hj h
  ·have:j=i:=by omega
   subst this
   have h1:=dF h1
   have h2:=dF h2
   omega
 ·have hge:i=b.size:=by simp at hge;omega
  subst hge
  have hall:decide (∀ i (h:i<b.size),33≤(b[i]).toNat∧(b[i]).toNat≤126)=true:=decide_eq_true fun j hj=>hok j hj hj
  have he:decide (b={ data:=#[] })=decide (b.size=0):=by
   by_cases h:b.size=0
   ·have:b={ data:=#[] }:=I4 (Array.eq_empty_of_size_eq_zero h)
    subst this
    rfl
   ·have:¬ b={ data:=#[] }:=fun e=>h (by rw[e];rfl)
    simp[this,h]
  rw[R9,he,Ag]
  refine Al (fun h1=>?_) (fun h1=>⟨?_,Am.refl _⟩)
  ·have h1:b.size≠0:=by simpa using h1
   rw[EZ,C4]
   refine⟨?_,Am.refl _⟩
   simp only[Hc,hall,Ai7,show 0<b.size by omega,decide_true]
   rw[show decide ((b.size:Int)≤20)=decide (b.size≤20)from decide_eq_decide.2 (by omega)]
  ·have h1:b.size=0:=by simpa using h1
   simp[Hc,h1]
def Ck(k:Int):Int:=if k=105 then 0 else if k=108 then 1 else if k=111 then 2 else if k=98 then 3 else if k=99 then 4 else if k=102 then 5 else -1
def Of:ByteArray:={ data:=#[105,108,111,98,99,102] }
def KW(i:Nat):Int:=[105,108,111,98,99,102].getD i 0
theorem Xk{i:Nat}(h:i<6):∃ h':i<Of.size,((Of[i]'h').toNat:Int)=KW i:=by
 match i,h with
 |0,_|1,_|2,_|3,_|4,_|5,_=>exact⟨by decide,by decide⟩
theorem QQ{k:Int}{i:Nat}(h:i<6)(hk:KW i=k):Ck k=i:=by
 subst hk
 match i,h with
 |0,_|1,_|2,_|3,_|4,_|5,_=>decide
theorem QP{k:Int}(h:∀ i,i<6→KW i≠k):Ck k = -1:=by
 have h0:(105:Int)≠k:=h 0 (by decide)
 have h1:(108:Int)≠k:=h 1 (by decide)
 have h2:(111:Int)≠k:=h 2 (by decide)
 have h3:(98:Int)≠k:=h 3 (by decide)
 have h4:(99:Int)≠k:=h 4 (by decide)
 have h5:(102:Int)≠k:=h 5 (by decide)
 simp only[Ck]
 rw[if_neg (Ne.symm h0),if_neg (Ne.symm h1),if_neg (Ne.symm h2),if_neg (Ne.symm h3),if_neg (Ne.symm h4),if_neg (Ne.symm h5)]
theorem jL(k:Int):BH Pg 89 [.v (.int .u8 k)] (aI (Ck k)):=by
 intro S
 refine Ad.Bt (oQ ?_)
 unfold m89
 refine ZB (fun y S'=>S'=S∧∃ i:Nat,y=aI i∧i≤6∧∀ j,j<i→KW j≠k)
  (fun y _=>6 - ((Aw y).getD 0).toNat) ⟨rfl,0,rfl,Ai9 _,fun j hj=>(AiF _ hj).elim⟩ ?_
 dsimp only[BS]
 rintro _ S ⟨rfl,i,rfl,hi,hno⟩ KE hKE
 dsimp only[uM,Fi]
 rw[EZ,As,Ag]
 refine Al (fun hlt=>?_) (fun hge=>?_)
 ·have hlt:i<6:=by have:=dT hlt;exact Int.ofNat_lt.1 this
  obtain⟨h',he⟩:=Xk hlt
  show HH (.v (.string Of)) _ _ _
  rw[Ik h',he,AD,Ag]
  refine Al (fun h1=>⟨?_,Am.refl _⟩) (fun h1=>?_)
  ·rw[QQ hlt (dT h1)]
  ·have hadd:∀ K:AV→Aa→Prop,∀ S,bin .add 0 (.v (.int .i64 (i:Int))) (.v (.int .i64 1)) S K=K (aI (i+1:Nat)) S:=fun K S=>Ar (by omega) (by omega) 0
   rw[hadd]
   refine hKE _ _ ⟨rfl,i+1,rfl,hlt,fun j hj=>?_⟩ (by simp[Aw];omega)
   rcases AiS j i with h|h
   ·exact hno j h
   ·have:j=i:=by omega
    subst this
    exact dF h1
 ·have hge:i=6:=by
    have:¬ ((i:Int)<6):=dF hge
    omega
  subst hge
  rw[QP hno]
  exact⟨rfl,Am.refl _⟩
theorem Uo(k:Int)(h0:0≤k)(h1:k<256):BH Pg 137 [.v (.int .u8 k)] (aI (Ck k)):=by
 intro S
 refine Ad.Bt (eF ?_)
 unfold Ae4 lJ
 refine WX (fun S'=>Am S S'∧∃ i:Nat,S'.obj S.n=some (.sit Of i)∧i≤6∧∀ j,j<i→KW j≠k)
  (fun S'=>match S'.obj S.n with|some (.sit _ i)=>6 - i|_=>0) ⟨(Am.refl S).new _,0,by rw[B0];rfl,Ai9 _,fun j hj=>(AiF _ hj).elim⟩ ?_
 rintro S1 ⟨k1,i,o1,hi,hno⟩ KE hKE
 dsimp only[Ul,Fi];unfold ME
 simp only[o1]
 refine⟨fun hlt=>?_,fun hge=>?_⟩
 ·have hlt:i<6:=hlt
  have hdec:(((Utf8.decode Of i).1:Nat):Int)=KW i∧(Utf8.decode Of i).2=1:=by
   match i,hlt with
   |0,_|1,_|2,_|3,_|4,_|5,_=>exact⟨by decide,by decide⟩
  rw[hdec.1,hdec.2]
  show A0 _ _ _ _
  rw[B2]
  show GI _ _
  rw[Ag,A9,BV,E4,Mc]
  have hw:IntKind.i32.wrap k=k:=by
   rw[IntKind.wrap_i32];omega
  rw[hw,AD,Ag]
  refine Al (fun h2=>⟨?_,k1.Du (Ai4 _) _⟩) (fun h2=>?_)
  ·rw[QQ hlt (dT h2).symm]
  ·refine hKE _ ⟨k1.Du (Ai4 _) _,i+1,BI _ _,hlt,fun j hj=>?_⟩ (by simp only[BI,o1];omega)
   rcases AiS j i with h|h
   ·exact hno j h
   ·have:j=i:=by omega
    subst this
    exact Ne.symm (dF h2)
 ·have hge:i=6:=by
    have:¬ (i<6):=hge
    omega
  subst hge
  show A0 _ _ _ _
  rw[over,B2,Ag,AZ,QP hno]
  exact⟨rfl,k1⟩
theorem jU(a:Int):BH Pg 159 [aI a] (aB false):=by
 intro S
 refine Ad.Bt (dK ?_)
 unfold AdK
 rw[Bi]
 exact⟨by simp,Am.refl _⟩
def RU(a b:Int):Int:=if a<b then -1 else if b<a then 1 else 0
theorem jY(a b:Int):BH Pg 139 [aI a,aI b] (aI (RU a b)):=by
 intro S
 refine Ad.Bt (eD ?_)
 dsimp only[Ae2,Fi]
 refine Ae (jU a) (Ae (jU b) ?_)
 rw[Ag,AZ,Ag,AZ,As,Ag]
 refine Al (fun h=>⟨?_,Am.refl _⟩) (fun h=>?_)
 ·rw[RU,if_pos (dT h)]
 rw[AP,Ag]
 have h:=dF h
 refine Al (fun h2=>⟨?_,Am.refl _⟩) (fun h2=>⟨?_,Am.refl _⟩)
 ·rw[RU,if_neg h,if_pos (dT h2)]
 ·rw[RU,if_neg h,if_neg (dF h2)]
theorem Aa2(a b:Int):BH Pg 138 [.l [[aI a],[aI b]]] (aI (if a≠0 then a else b)):=by
 intro S
 refine Ad.Bt (eE ?_)
 unfold Ae3
 rw[yL]
 refine WW (fun y S'=>S'=S∧∃ i:Nat,y=aI i∧i≤2∧(1≤i→a=0)∧(2≤i→b=0))
  (fun y _=>2 - ((Aw y).getD 0).toNat) ⟨rfl,0,rfl,Ai9 _,fun h=>by omega,fun h=>by omega⟩ ?_
 dsimp only[BS]
 rintro _ S ⟨rfl,i,rfl,hi,h1,h2⟩ KE hKE
 dsimp only[hZ,Fi]
 rw[As,Ag]
 refine Al (fun hlt=>?_) (fun hge=>?_)
 ·have hlt:i<2:=by have:=dT hlt;exact Int.ofNat_lt.1 this
  have hadd:∀ K:AV→Aa→Prop,∀ S,bin .add 0 (.v (.int .i64 (i:Int))) (.v (.int .i64 1)) S K=K (aI (i+1:Nat)) S:=fun K S=>Ar (by omega) (by omega) 0
  match i,hlt with
  |0,_ =>
   rw[show ∀ K:AV→Aa→Prop,AR 3 1 (.l [[aI a],[aI b]]) (aI ((0:Nat):Int)) S K=K (.q [aI a] 0) S from fun K=>IX (es:=[[aI a],[aI b]]) (i:=0) (by simp) rfl,E0 rfl,Bi,Ag]
   refine Al (fun h=>⟨?_,Am.refl _⟩) (fun h=>?_)
   ·rw[if_pos (by simpa using h)]
   ·rw[hadd]
    exact hKE _ _ ⟨rfl,1,rfl,by decide,fun _=>by simpa using h,fun h=>by omega⟩ (by simp[Aw])
  |1,_ =>
   have ha:=h1 (Ai4 _)
   rw[show ∀ K:AV→Aa→Prop,AR 3 1 (.l [[aI a],[aI b]]) (aI ((1:Nat):Int)) S K=K (.q [aI b] 0) S from fun K=>IX (es:=[[aI a],[aI b]]) (i:=1) (by simp) rfl,E0 rfl,Bi,Ag]
   refine Al (fun h=>⟨?_,Am.refl _⟩) (fun h=>?_)
   ·rw[if_neg (by simp[ha])]
   ·rw[hadd]
    exact hKE _ _ ⟨rfl,2,rfl,by decide,fun _=>ha,fun _=>by simpa using h⟩ (by simp[Aw])
 ·have hge:i=2:=by
    have:¬ ((i:Int)<2):=dF hge
    omega
  subst hge
  refine⟨?_,Am.refl _⟩
  rw[h1 (by decide),h2 (by decide)]
  rfl
structure Na where
 kind:Int
 pos:Int
 text:ByteArray
 deriving DecidableEq
structure Ci where
 inputs:Int
 latches:List (Int × Int)
 ands:List (Int × Int)
 outs:List Int
 bads:List Int
 cons:List Int
 fair:List Int
 names:List Na
def Na.row(x:Na):List AV:=[.v (.int .u8 x.kind),aI x.pos,.v (.string x.text)]
def nL(l:List Na):AV:=.l (l.map Na.row)
def Ci.cells(c:Ci):List AV:=[aI c.inputs,pL c.latches,pL c.ands,aL aI c.outs,aL aI c.bads,aL aI c.cons,aL aI c.fair,nL c.names]
def Ci.av(c:Ci):AV:=.a c.cells
def Ci.gr(c:Ci):Gr:=⟨IntKind.i64.wrap (c.inputs+c.latches.length),c.ands⟩
structure Ci.ok (c:Ci):Prop where
 inp:By c.inputs
 llen:c.latches.length≤1000000
 alen:c.ands.length≤1000000
 lats:∀ p∈c.latches,By p.1∧By p.2
 pairs:∀ p∈c.ands,By p.1∧By p.2
 outs:(∀ x∈c.outs,By x)∧c.outs.length≤9223372036854775807
 bads:(∀ x∈c.bads,By x)∧c.bads.length≤9223372036854775807
 cons:(∀ x∈c.cons,By x)∧c.cons.length≤9223372036854775807
 fair:(∀ x∈c.fair,By x)∧c.fair.length≤9223372036854775807
 names:∀ x∈c.names,0≤x.kind∧x.kind<256∧By x.pos∧x.text.size≤9223372036854775807
 nlen:c.names.length≤1000000
theorem AaN(n:Int):By (IntKind.i64.wrap n):=by
 unfold By
 rw[IntKind.wrap_i64];omega
theorem Ci.ok.gr{c:Ci}(h:c.ok):c.gr.ok:=⟨AaN _,h.alen,h.pairs⟩
theorem Ni{a b:Int}(kd:Nat){S:Aa}{K:AV→Aa→Prop}:bin .add kd (aI a) (aI b) S K=K (aI (IntKind.i64.wrap (a+b))) S:=by
 simp[bin,b2,HI,HX,Qi]
theorem VN(c:Ci):BH Pg 50 [c.av] c.gr.av:=by
 intro S
 refine Ad.tree (qE ?_)
 dsimp only[m50,Lf]
 refine Ai rfl fun S1 k1 n1 o1=>?_
 refine Ai rfl fun S2 k2 n2 o2=>?_
 have p1:S2.obj S.n=_:=(k2.2 S.n (by omega)).trans o1
 rw[Ac,Af p1 rfl rfl,Ac,Af p1 rfl rfl,Bv,Ni,Ac,Af p1 rfl rfl,A7 (cs:=c.gr.cells) rfl]
 refine AF o2 rfl rfl fun S3 n3 o3 f3=>?_
 rw[An (n:=2) o3 rfl]
 exact⟨_,rfl,(k1.trans k2).st (by omega) n3 f3,c.gr.tree _ _⟩
theorem Nl(c:Ci):BH Pg 17 [c.av] c.gr.av:=by
 intro S
 refine Ad.tree (rJ ?_)
 dsimp only[m17,Lf]
 refine Ai rfl fun S1 k1 n1 o1=>?_
 refine Ai rfl fun S2 k2 n2 o2=>?_
 have p1:S2.obj S.n=_:=(k2.2 S.n (by omega)).trans o1
 rw[Ac,Af p1 rfl rfl,Ac,Af p1 rfl rfl,Bv,Ni,Ac,Af p1 rfl rfl,A7 (cs:=c.gr.cells) rfl]
 refine AF o2 rfl rfl fun S3 n3 o3 f3=>?_
 rw[An (n:=2) o3 rfl]
 exact⟨_,rfl,(k1.trans k2).st (by omega) n3 f3,c.gr.tree _ _⟩
def Ci.many(c:Ci)(k:Int):Int:=if k=105 then c.inputs else if k=108 then c.latches.length else if k=111 then c.outs.length else if k=98 then c.bads.length else if k=99 then c.cons.length else if k=102 then c.fair.length else 0
def Ci.Eh(c:Ci):List (Key × AV):=[(.i 105,aI c.inputs),(.i 108,aI c.latches.length),(.i 111,aI c.outs.length),(.i 98,aI c.bads.length),(.i 99,aI c.cons.length),(.i 102,aI c.fair.length)]
theorem NI(k:IntKind)(a:Int):HG (.i k) (.v (.int k a))=some (.i a):=by simp[HG]
theorem wJ(c:Ci):BH Pg 94 [c.av] (.mt (.i .i32) c.Eh):=by
 intro S
 refine Ad.tree (oL ?_)
 dsimp only[m94,Lf]
 refine Ai rfl fun S1 k1 n1 o1=>?_
 unfold Zb
 show shift _ _ _ _
 have p1:(S1.new (.map (.i .i32) [] true)).obj S.n=_:=(Je (by omega)).trans o1
 have u:∀{es:List (Key × AV)},(Aa.Du (S1.new (.map (.i .i32) [] true)) S1.n (.map (.i .i32) es true)).obj S.n=_:=fun{es}=>(Da (by omega)).trans p1
 rw[Ac,Af p1 rfl rfl,FO (B0 _) (NI _ _)]
 rw[Ac,Af u rfl rfl,Bv,FO (BI _ _) (NI _ _),Gx]
 rw[Ac,Af u rfl rfl,Ay,FO (BI _ _) (NI _ _),Gx]
 rw[Ac,Af u rfl rfl,Ay,FO (BI _ _) (NI _ _),Gx]
 rw[Ac,Af u rfl rfl,Ay,FO (BI _ _) (NI _ _),Gx]
 rw[Ac,Af u rfl rfl,Ay,FO (BI _ _) (NI _ _),Gx]
 refine⟨_,rfl,(k1.new _).Du (by omega) _,.m' S1.n (.i .i32) c.Eh c.Eh ?_ rfl (fun i e e2 h h2=>by rw[h]at h2;cases h2;rfl) (fun i e e2 h h2=>?_)⟩
 ·rw[Vu (BI _ _)]
  have:AK S.n S1.n=true:=by simp[AK];omega
  rw[this]
  rfl
 ·rw[h]at h2;cases h2
  match i with
  |0|1|2|3|4|5=>cases h;exact .v _
  |i+6=>simp[Ci.Eh]at h
theorem aQ(c:Ci)(k:Int):((Js c.Eh (.i k)).getD (aI 0))=aI (c.many k):=by
 by_cases h0:k=105
 ·subst h0;rfl
 by_cases h1:k=108
 ·subst h1;rfl
 by_cases h2:k=111
 ·subst h2;rfl
 by_cases h3:k=98
 ·subst h3;rfl
 by_cases h4:k=99
 ·subst h4;rfl
 by_cases h5:k=102
 ·subst h5;rfl
 have:Ij c.Eh (.i k)=none:=by
  rw[F7]
  simp[Ci.Eh,h0,h1,h2,h3,h4,h5]
 simp[Js,this,Ci.many,h0,h1,h2,h3,h4,h5]
theorem Wh{c:Ci}{k:Int}(h:¬ Ck k<0):c.many k = [c.inputs,c.latches.length,c.outs.length,c.bads.length,c.cons.length,c.fair.length].getD (Ck k).toNat 0:=by
 unfold Ck at h ⊢
 unfold Ci.many
 repeat' split
 all_goals first|rfl|(exfalso;apply h;simp[*])
theorem U8{c:Ci}{k:Int}(h:Ck k<0):c.many k=0:=by
 unfold Ck at h
 unfold Ci.many
 repeat' split
 all_goals first|rfl|(simp[*]at h)
theorem lN(k:Int):Ck k<6:=by
 unfold Ck
 repeat' split
 all_goals decide
theorem AhJ{e:Nat}{z a b c d f g:Int}{S:Aa}{K:AV→Aa→Prop}(k:K (.l [[aI a],[aI b],[aI c],[aI d],[aI f],[aI g]]) S):AU e 1 6 [aI z] [(0,aI a),(1,aI b),(2,aI c),(3,aI d),(4,aI f),(5,aI g)] S K:=by
 refine⟨[aI a,aI b,aI c,aI d,aI f,aI g],?_,.inr ?_⟩
 ·simp[Cu,CA,Jw,AiP,cellsOf,AV.one,Value.oneCell']
 ·simpa[chunks,AiP]using k
theorem Ag5(c:Ci)(k:Int):BH Pg 88 [c.av,.v (.int .u8 k)] (aI (c.many k)):=by
 intro S
 refine Ad.Bt (oR ?_)
 dsimp only[m88,Fi,Lf]
 refine Ai rfl fun S1 k1 n1 o1=>?_
 refine Ae (jL k) ?_
 rw[As,Ag]
 refine Al (fun h=>⟨?_,k1⟩) (fun h=>?_)
 ·rw[U8 (dT h)]
 have h:¬ Ck k<0:=dF h
 rw[Ac,Af o1 rfl rfl,Ac,Af o1 rfl rfl,Bv,Ac,Af o1 rfl rfl,Ay,Ac,Af o1 rfl rfl,Ay,Ac,Af o1 rfl rfl,Ay,Ac,Af o1 rfl rfl,Ay]
 refine AhJ ?_
 obtain⟨r,hr⟩:=AiE (show 0≤Ck k by omega)
 have hr6:r<6:=by have:=lN k;omega
 rw[Wh h,hr]
 match r,hr6 with
 |0,_|1,_|2,_|3,_|4,_|5,_ =>
  rw[IX (by simp) (by rfl),E0 rfl]
  exact⟨rfl,k1⟩
def keyOf(b:ByteArray):Key:=.s b.data.toList
theorem Oi{a b:ByteArray}(h:keyOf a=keyOf b):a=b:=by
 simp only[keyOf,Key.s.injEq]at h
 exact I4 (Array.toList_inj.1 h)
theorem bC{es:List (Key × AV)}{x k:Key}{v:AV}:k∈(C0 es x v).map (·.1)↔k∈es.map (·.1)∨k=x:=by
 induction es with
 |nil=>simp[C0]
 |cons e es ih =>
  simp only[C0]
  split
  ·rename_i h
   subst h
   simp only[List.map_cons,AiO]
   constructor
   ·rintro(h|h)
    ·exact .inr h
    ·exact .inl (.inr h)
   ·rintro((h|h)|h)
    ·exact .inl h
    ·exact .inr h
    ·exact .inl h
  ·simp only[List.map_cons,AiO,ih,or_assoc]
theorem M5{es:List (Key × AV)}{x:Key}{v:AV}(h:x∈es.map (·.1)):(C0 es x v).length=es.length:=by
 induction es with
 |nil=>simp at h
 |cons e es ih =>
  simp only[C0]
  split
  ·rfl
  ·rename_i hne
   have:x∈es.map (·.1):=by
    rcases AiO.1 h with h|h
    ·exact absurd h.symm hne
    ·exact h
   simp[ih this]
structure Lv (es:List (Key × AV)) (l:List Key):Prop where
 mem:∀ k,k∈es.map (·.1)↔k∈l
 le:es.length≤l.length
 eq:es.length=l.length↔l.Nodup
theorem Lv.nil:Lv [] []:=⟨fun k=>by simp,Ai4 _,by simp⟩
theorem Lv.add{es:List (Key × AV)}{l:List Key}(h:Lv es l)(x:Key)(v:AV):Lv (C0 es x v) (l ++ [x]) where
 mem k:=by rw[bC,h.mem,AiQ,AiA]
 le:=by
  have:=h.le
  by_cases c:x∈es.map (·.1)
  ·rw[M5 c];simp;omega
  ·rw[D6 (F7.2 c)];simp;omega
 eq:=by
  have hle:=h.le
  rw[AjI]
  by_cases c:x∈es.map (·.1)
  ·rw[M5 c]
   constructor
   ·intro e;simp at e;omega
   ·rintro⟨_,_,h3⟩
    exact absurd rfl (h3 x ((h.mem x).1 c) x (by simp))
  ·rw[D6 (F7.2 c)]
   simp only[AiK,Aj1,Nat.add_right_cancel_iff,h.eq]
   constructor
   ·intro e
    refine⟨e,by simp,fun a ha b hb=>?_⟩
    have:b=x:=by simpa using hb
    subst this
    rintro rfl
    exact c ((h.mem _).2 ha)
   ·exact fun e=>e.1
def GK(c:Ci)(x:Na):Prop:=Hc x.text=true∧0≤x.pos∧x.pos<c.many x.kind
def DJ(y x:Na):Prop:=Ck y.kind<Ck x.kind∨Ck y.kind=Ck x.kind∧y.pos<x.pos
structure Fl (c:Ci) (n:Nat):Prop where
 ok:∀ i (h:i<c.names.length),i<n→GK c c.names[i]
 lt:∀ i (h:i+1<c.names.length),i+1<n→DJ c.names[i] c.names[i+1]
 nodup:((c.names.take n).map fun x=>keyOf x.text).Nodup
open Classical in
def Cp (c:Ci):Bool:=decide (Fl c c.names.length)
theorem Fl.zero(c:Ci):Fl c 0:=⟨fun _ _ h=>by omega,fun _ _ h=>by omega,by simp⟩
theorem Fl.tT{c:Ci}{i:Nat}(h:i<c.names.length)(hn:¬ GK c c.names[i]):Cp c=false:=by
 simp only[Cp,decide_eq_false_iff_not]
 exact fun h'=>hn (h'.ok i h h)
theorem Fl.tU{c:Ci}{i:Nat}(h:i+1<c.names.length)(hn:¬ DJ c.names[i] c.names[i+1]):Cp c=false:=by
 simp only[Cp,decide_eq_false_iff_not]
 exact fun h'=>hn (h'.lt i h h)
@[simp] theorem PU(l:List Na){S:Aa}{K:AV→Aa→Prop}:AG (nL l) S K=K (aI l.length) S:=by simp[nL]
theorem M3{l:List Na}{e i:Nat}{S:Aa}{K:AV→Aa→Prop}(h:i<l.length):AR e 3 (nL l) (aI i) S K=K (.q l[i].row 0) S:=by
 unfold nL
 rw[IX (by simpa using h) (by simp[Na.row])]
 simp
theorem TV{u v z:AV}{S:Aa}{K:AV→Aa→Prop}:AA 3 (.q [u,v,z] 0) S K=K (.a [u,v,z]) S:=by simp[AA,XT,place]
theorem AhD(b:ByteArray):HG .s (.v (.string b))=some (keyOf b):=rfl
theorem aT{S:Aa}{kk:KK}{z:AV}{c:Bool}{k:AV}{key:Key}{es:List (Key × AV)}{K:AV→Aa→Prop}(hk:HG kk k=some key):Vk kk z c (.mt kk es) k S K=K (kN z c (Js es key)) S:=by
 simp[Vk,Ov,hk]
theorem aS(c:Ci)(k:Int):kN (aI 0) false (Js c.Eh (.i k))=aI (c.many k):=aQ c k
theorem wrap32{k:Int}(h0:0≤k)(h1:k<256):IntKind.i32.wrap k=k:=by rw[IntKind.wrap_i32];omega
theorem Aa7{c:Ci}(hc:c.ok):BH Pg 101 [c.av] (aB (Cp c)):=by
 intro S
 refine Ad.Bt (fO ?_)
 have hlen:=hc.nlen
 dsimp only[Af1,Lf]
 refine Ai rfl fun S1 k1 n1 o1=>?_
 rw[An (n:=8) o1 rfl]
 refine Ae (wJ c) ?_
 unfold Zb
 show shift _ _ _ _
 have k2:=k1.new (.map .s [] true)
 have p2:(S1.new (.map .s [] true)).obj S.n=_:=(Je (by omega)).trans o1
 rw[Ac,Af p2 rfl rfl,PU]
 refine Xg (fun y S'=>Am S S'∧S1.n<S'.n∧S'.obj S.n=some (.cells 29 [c.cells] true)∧∃ i:Nat,y=aI i∧i≤c.names.length∧
     (∀ j (h:j<c.names.length),j<i→GK c c.names[j])∧(∀ j (h:j+1<c.names.length),j+1<i→DJ c.names[j] c.names[j+1])∧∃ es,S'.obj S1.n=some (.map .s es true)∧Lv es ((c.names.take i).map fun x=>keyOf x.text))
  (fun y _=>c.names.length - ((Aw y).getD 0).toNat) ⟨k2,by simp,p2,0,rfl,Ai9 _,fun j _ h=>by omega,fun j _ h=>by omega,[],B0 _,by simpa using Lv.nil⟩ ?_
 dsimp only[BS]
 rintro _ S3 ⟨k3,n3,p3,i,rfl,hi,hok,hltn,es,m3,ht⟩ KE hKE
 dsimp only[iX,Fi,Lf,Lq,Ld]
 rw[As,Ag]
 refine Al (fun hlt=>?_) (fun hge=>?_)
 ·have hlt:i<c.names.length:=by simpa using hlt
  have hx:=hc.names _ (Ai6 hlt)
  rw[M3 hlt]
  generalize hxe:c.names[i]=x at *
  have hno:=fun h=>Fl.tT hlt (hxe ▸ h)
  unfold Na.row
  rw[TV]
  refine Ai rfl fun S4 k4 n4 o4=>?_
  refine AF o4 rfl rfl fun S5 n5 o5 f5=>?_
  have k5:Am S S5:=(k3.trans k4).st (by have:=k3.1;omega) n5 f5
  have p5:S5.obj S.n=_:=(f5 _ (by omega)).trans (Kg k4 p3)
  have m5:S5.obj S1.n=_:=(f5 _ (by omega)).trans (Kg k4 m3)
  rw[Ac,Af o5 rfl rfl]
  refine Ae (Aa3 x.text hx.2.2.2) ?_
  rw[AI,Ag]
  refine Al (fun h1=>⟨?_,k5⟩) (fun h1=>?_)
  ·rw[hno (fun h=>by rw[h.1]at h1;cases h1)]
  rw[Ac,Af o5 rfl rfl]
  refine Ae (Uo x.kind hx.1 hx.2.1) ?_
  rw[As,Ag]
  refine Al (fun h2=>⟨?_,k5⟩) (fun h2=>?_)
  ·rw[hno (fun h=>by have:=h.2;rw[U8 (dT h2)]at this;omega)]
  rw[Ac,Af o5 rfl rfl,As,Ag]
  refine Al (fun h3=>⟨?_,k5⟩) (fun h3=>?_)
  ·rw[hno (fun h=>by have:=h.2;have:=dT h3;omega)]
  rw[Ac,Af o5 rfl rfl,Ac,Af o5 rfl rfl,Mc,wrap32 hx.1 hx.2.1,aT (NI _ _)]
  rw[aS]
  rw[BA,Ag]
  refine Al (fun h4=>⟨?_,k5⟩) (fun h4=>?_)
  ·rw[hno (fun h=>by have:=h.2;have:=dT h4;omega)]
  have hgood:GK c x:=⟨by simpa using h1,by have:=dF h3;omega,by have:=dF h4;omega⟩
  rw[Ac,Af o5 rfl rfl,A7 (cs:=[]) rfl,FO m5 (AhD _)]
  have k6:=k5.Du (id:=S1.n) (by omega) (.map .s (C0 es (keyOf x.text) (.a [])) true)
  have p6:(Aa.Du S5 S1.n (.map .s (C0 es (keyOf x.text) (.a [])) true)).obj S.n=_:=(Da (by omega)).trans p5
  have o6:(Aa.Du S5 S1.n (.map .s (C0 es (keyOf x.text) (.a [])) true)).obj S3.n=_:=(Da (by omega)).trans o5
  have m6:(Aa.Du S5 S1.n (.map .s (C0 es (keyOf x.text) (.a [])) true)).obj S1.n=_:=BI _ _
  have n6:S4.n=(Aa.Du S5 S1.n (.map .s (C0 es (keyOf x.text) (.a [])) true)).n:=n5.symm
  have n6':S3.n+1=(Aa.Du S5 S1.n (.map .s (C0 es (keyOf x.text) (.a [])) true)).n:=by rw[←n6,n4]
  generalize Aa.Du S5 S1.n (.map .s (C0 es (keyOf x.text) (.a [])) true)=S6 at *
  have ht':Lv (C0 es (keyOf x.text) (.a [])) ((c.names.take (i+1)).map fun x=>keyOf x.text):=by
   rw[AiR,Ai3 hlt,hxe,AiB]
   exact ht.add _ _
  have hok':∀ j (h:j<c.names.length),j<i+1→GK c c.names[j]:=fun j hj hj'=>by
   rcases AiS j i with h|h
   ·exact hok j hj h
   ·have:j=i:=by omega
    subst this
    rw[hxe];exact hgood
  have hadd:∀ K:AV→Aa→Prop,∀ S,bin .add 0 (.v (.int .i64 (i:Int))) (.v (.int .i64 1)) S K=K (aI (i+1:Nat)) S:=fun K S=>Ar (by omega) (by omega) 0
  have hμ:c.names.length - ((Aw (aI (i+1:Nat))).getD 0).toNat<c.names.length - ((Aw (aI i)).getD 0).toNat:=by simp[Aw];omega
  rw[AD,Ag]
  refine Al (fun h5=>?_) (fun h5=>?_)
  ·have h5:i=0:=by have:=dT h5;omega
   rw[hadd]
   exact hKE _ _ ⟨k6,by omega,p6,i+1,rfl,hlt,hok',fun j hj hj'=>by omega,_,m6,ht'⟩ hμ
  ·have h5:i≠0:=by have:=dF h5;omega
   obtain⟨j,rfl⟩:∃ j,i=j+1:=⟨i - 1,by omega⟩
   have hj:j<c.names.length:=by omega
   have hy:=hc.names _ (Ai6 hj)
   have hsub:∀ K:AV→Aa→Prop,∀ S,bin .sub 0 (.v (.int .i64 ((j+1:Nat):Int))) (.v (.int .i64 1)) S K=K (aI j) S:=fun K S=>(Bz (by omega) (by omega) 0).trans (by rw[show((j+1:Nat):Int) - 1=j by omega])
   rw[Ac,Af p6 rfl rfl,hsub,M3 hj]
   have hnl:¬ DJ c.names[j] x→Cp c=false:=fun h=>Fl.tU hlt (by rw[hxe];exact h)
   generalize hye:c.names[j]=y at *
   unfold Na.row
   rw[TV]
   refine Ai rfl fun S7 k7 n7 o7=>?_
   refine AF o7 rfl rfl fun S8 n8 o8 f8=>?_
   have k8:Am S S8:=(k6.trans k7).st (by have:=k6.1;omega) n8 f8
   have p8:S8.obj S.n=_:=(f8 _ (by omega)).trans (Kg k7 p6)
   have m8:S8.obj S1.n=_:=(f8 _ (by omega)).trans (Kg k7 m6)
   have q8:S8.obj S3.n=_:=(f8 _ (by omega)).trans (Kg k7 o6)
   show ∃ q50:AV,_
   refine⟨_,by rw[Ac];exact⟨rfl,rfl⟩,?_⟩
   refine⟨_,by rw[Af o8 rfl rfl];exact⟨rfl,rfl⟩,?_⟩
   refine⟨_,Ae (Uo y.kind hy.1 hy.2.1) ⟨rfl,rfl⟩,?_⟩
   refine⟨_,by rw[Ac];exact⟨rfl,rfl⟩,?_⟩
   refine⟨_,by rw[Af q8 rfl rfl];exact⟨rfl,rfl⟩,?_⟩
   refine⟨_,Ae (Uo x.kind hx.1 hx.2.1) ⟨rfl,rfl⟩,?_⟩
   refine⟨_,Ae (jY _ _) ⟨rfl,rfl⟩,?_⟩
   refine⟨_,by rw[Ac];exact⟨rfl,rfl⟩,?_⟩
   refine⟨_,by rw[Af o8 rfl rfl];exact⟨rfl,rfl⟩,?_⟩
   refine⟨_,by rw[Ac];exact⟨rfl,rfl⟩,?_⟩
   refine⟨_,by rw[Af q8 rfl rfl];exact⟨rfl,rfl⟩,?_⟩
   refine⟨_,Ae (jY _ _) ⟨rfl,rfl⟩,?_⟩
   refine⟨_,fV rfl rfl ⟨rfl,rfl⟩,?_⟩
   refine⟨_,Ae (Aa2 _ _) ⟨rfl,rfl⟩,?_⟩
   refine⟨_,by rw[BA];exact⟨rfl,rfl⟩,?_⟩
   rw[Ag]
   have hcmp:(0≤if RU (Ck y.kind) (Ck x.kind)≠0 then RU (Ck y.kind) (Ck x.kind)else RU y.pos x.pos)↔¬ DJ y x:=by
    unfold RU DJ
    repeat' split
    all_goals omega
   refine Al (fun h6=>⟨?_,k8⟩) (fun h6=>?_)
   ·rw[hnl (hcmp.1 (dT h6))]
   ·rw[hadd]
    refine hKE _ _ ⟨k8,by omega,p8,j+1+1,rfl,hlt,hok',fun k hk hk'=>?_,_,m8,ht'⟩ hμ
    rcases AiS (k+1) (j+1)with h|h
    ·exact hltn k hk h
    ·have:k=j:=by omega
     subst this
     rw[hxe,hye]
     have:=dF h6
     exact Classical.not_not.1 fun hh=>this (hcmp.2 hh)
 ·have hge:i=c.names.length:=by simp at hge;omega
  subst hge
  rw[aX m3,Ac,Af p3 rfl rfl,PU,AD]
  refine⟨?_,k3⟩
  congr 3
  simp only[Cp,decide_eq_decide]
  have:=ht.eq
  rw[Ai8,AiW,Nat.min_self]at this
  rw[Int.natCast_inj,this]
  exact⟨fun h=>⟨hok,hltn,h⟩,fun h=>h.nodup⟩
theorem AgD{c:Ci}(hc:c.ok):BH Pg 45 [c.av] (aB (Cp c)):=by
 intro S
 refine Ad.Bt (qJ ?_)
 have hlen:=hc.nlen
 unfold m45
 refine Ai rfl fun S1 k1 n1 o1=>?_
 refine Z1 (fun y S'=>Am S S'∧S.n<S'.n∧S'.obj S.n=some (.cells 29 [c.cells] true)∧∃ i:Nat,y=aI i∧i≤c.names.length∧Fl c i)
  (fun y _=>c.names.length - ((Aw y).getD 0).toNat) ⟨k1,by omega,o1,0,rfl,Ai9 _,Fl.zero c⟩ ?_
 dsimp only[BS]
 rintro _ S3 ⟨k3,n3,p3,i,rfl,hi,hR⟩ KE hKE
 dsimp only[vE,Qd,Mf,Fi,Lf,Lq,Ld]
 rw[Ac,Af p3 rfl rfl,PU,As,Ag]
 refine Al (fun hlt=>?_) (fun hge=>?_)
 ·have hlt:i<c.names.length:=by simpa using hlt
  have hx:=hc.names _ (Ai6 hlt)
  rw[Ac,Af p3 rfl rfl,M3 hlt]
  generalize hxe:c.names[i]=x at *
  have hno:=fun h=>Fl.tT hlt (hxe ▸ h)
  have hrow:x.row = [.v (.int .u8 x.kind),aI x.pos,.v (.string x.text)]:=rfl
  rw[hrow,TV]
  refine Ai rfl fun S4 k4 n4 o4=>?_
  refine AF o4 rfl rfl fun S5 n5 o5 f5=>?_
  have k5:Am S S5:=(k3.trans k4).st (by have:=k3.1;omega) n5 f5
  have p5:S5.obj S.n=_:=(f5 _ (by omega)).trans (Kg k4 p3)
  show ∃ q13:AV,_
  refine⟨_,by rw[Ac];exact⟨rfl,rfl⟩,?_⟩
  refine⟨_,by rw[Af o5 rfl rfl];exact⟨rfl,rfl⟩,?_⟩
  refine⟨_,Ae (Ag6 x.text hx.2.2.2) ⟨rfl,rfl⟩,?_⟩
  refine⟨_,by rw[AI];exact⟨rfl,rfl⟩,?_⟩
  rw[Ag]
  refine Al (fun h1=>?_) (fun h1=>?_)
  ·refine⟨_,⟨rfl,rfl⟩,?_⟩
   rw[Ag,A9]
   refine⟨_,⟨rfl,rfl⟩,?_⟩
   rw[Ag,A9]
   exact⟨by rw[hno (fun h=>by rw[h.1]at h1;cases h1)],k5⟩
  refine⟨_,by rw[Ac];exact⟨rfl,rfl⟩,?_⟩
  refine⟨_,by rw[Af o5 rfl rfl];exact⟨rfl,rfl⟩,?_⟩
  refine⟨_,by rw[As];exact⟨rfl,rfl⟩,?_⟩
  refine⟨_,⟨rfl,rfl⟩,?_⟩
  rw[Ag]
  refine Al (fun h3=>?_) (fun h3=>?_)
  ·refine⟨_,⟨rfl,rfl⟩,?_⟩
   rw[Ag,A9]
   exact⟨by rw[hno (fun h=>by have:=h.2;have:=dT h3;omega)],k5⟩
  refine⟨_,by rw[Ac];exact⟨rfl,rfl⟩,?_⟩
  refine⟨_,by rw[Af o5 rfl rfl];exact⟨rfl,rfl⟩,?_⟩
  refine⟨_,by rw[An (n:=8) p5 rfl];exact⟨rfl,rfl⟩,?_⟩
  refine⟨_,by rw[Ac];exact⟨rfl,rfl⟩,?_⟩
  refine⟨_,by rw[Af o5 rfl rfl];exact⟨rfl,rfl⟩,?_⟩
  refine⟨_,Ae (Ag5 c x.kind) ⟨rfl,rfl⟩,?_⟩
  refine⟨_,by rw[BA];exact⟨rfl,rfl⟩,?_⟩
  refine⟨_,⟨rfl,rfl⟩,?_⟩
  rw[Ag]
  refine Al (fun h4=>⟨?_,k5⟩) (fun h4=>?_)
  ·rw[hno (fun h=>by have:=h.2;have:=dT h4;omega)]
  have hgood:GK c x:=⟨by simpa using h1,by have:=dF h3;omega,by have:=dF h4;omega⟩
  have hok':∀ j (h:j<c.names.length),j<i+1→GK c c.names[j]:=fun j hj hj'=>by
   rcases AiS j i with h|h
   ·exact hR.ok j hj h
   ·have:j=i:=by omega
    subst this
    rw[hxe];exact hgood
  refine Z0 (fun y S'=>S'=S5∧∃ k:Nat,y=aI k∧k≤i∧∀ j (hj:j<k) (hk:k≤i),(c.names[j]'(by omega)).text≠x.text)
   (fun y _=>i - ((Aw y).getD 0).toNat) ⟨rfl,0,rfl,Ai9 _,fun j hj=>(AiF _ hj).elim⟩ ?_
  dsimp only[BS]
  rintro _ S5 ⟨rfl,k,rfl,hk,hne⟩ KE1 hKE1
  dsimp only[vD,Fi,Lq,Ld]
  rw[As,Ag]
  refine Al (fun hlk=>?_) (fun hgk=>?_)
  ·have hlk:k<i:=by simpa using hlk
   have hkl:k<c.names.length:=by omega
   show ∃ q70:AV,_
   refine⟨_,by rw[Ac];exact⟨rfl,rfl⟩,?_⟩
   refine⟨_,by rw[Af p5 rfl rfl];exact⟨rfl,rfl⟩,?_⟩
   refine⟨_,by rw[M3 hkl];exact⟨rfl,rfl⟩,?_⟩
   refine⟨_,by rw[Fu];exact⟨rfl,rfl⟩,?_⟩
   refine⟨_,by rw[E0 (u:=.v (.string c.names[k].text)) rfl];exact⟨rfl,rfl⟩,?_⟩
   refine⟨_,by rw[Ac];exact⟨rfl,rfl⟩,?_⟩
   refine⟨_,by rw[Af o5 rfl rfl];exact⟨rfl,rfl⟩,?_⟩
   refine⟨_,by rw[Sa];exact⟨rfl,rfl⟩,?_⟩
   rw[Ag]
   refine Al (fun h6=>⟨?_,k5⟩) (fun h6=>?_)
   ·have h6:c.names[k].text=x.text:=dT h6
    have:Cp c=false:=by
     simp only[Cp,decide_eq_false_iff_not]
     intro h'
     have hnd:=h'.nodup
     rw[Aj3]at hnd
     have:=List.pairwise_iff_getElem.1 hnd k i (by simpa using hkl) (by simpa using hlt) hlk
     simp only[List.getElem_map,hxe,h6]at this
     exact this rfl
    rw[this]
   ·have hadd:∀ K:AV→Aa→Prop,∀ S,bin .add 0 (.v (.int .i64 (k:Int))) (.v (.int .i64 1)) S K=K (aI (k+1:Nat)) S:=fun K S=>Ar (by omega) (by omega) 0
    rw[hadd]
    refine hKE1 _ _ ⟨rfl,k+1,rfl,hlk,fun j hj _=>?_⟩ (by simp[Aw];omega)
    rcases AiS j k with hj'|hj'
    ·exact hne j hj' (by omega)
    ·have:j=k:=by omega
     subst this
     exact dF h6
  ·have hge:k=i:=by simp at hgk;omega
   subst hge
   have hnd':((c.names.take (k+1)).map fun x=>keyOf x.text).Nodup:=by
    have h:=hR.nodup
    rw[AiR,Ai3 hlt,AiB,AjI]
    refine⟨h,by simp,fun a ha b hb=>?_⟩
    rw[AiL]at ha hb
    obtain⟨y,hy,rfl⟩:=ha
    obtain⟨z,hz,rfl⟩:=hb
    have:z=x:=by simpa[hxe]using hz
    subst this
    rw[List.mem_take_iff_getElem]at hy
    obtain⟨j,hj,rfl⟩:=hy
    exact fun e=>hne j (by omega) (Ai4 _) (Oi e)
   have hadd:∀ K:AV→Aa→Prop,∀ S,bin .add 0 (.v (.int .i64 (k:Int))) (.v (.int .i64 1)) S K=K (aI (k+1:Nat)) S:=fun K S=>Ar (by omega) (by omega) 0
   have hμ:c.names.length - ((Aw (aI (k+1:Nat))).getD 0).toNat<c.names.length - ((Aw (aI k)).getD 0).toNat:=by simp[Aw];omega
   have next:(∀ j (h:j+1<c.names.length),j+1=k→DJ c.names[j] x)→KE _ (FF (.p S.n 0 0) (aI (k+1:Nat))) S5:=fun hl=>hKE _ _ ⟨k5,by omega,p5,k+1,rfl,hlt,hok',fun j hj hj'=>by
    rcases AiS (j+1) k with h|h
    ·exact hR.lt j hj h
    ·have e:j+1=k:=by omega
     have:=hl j hj e
     subst e
     rw[hxe];exact this,hnd'⟩ hμ
   rw[AP,Ag]
   refine Al (fun h7=>?_) (fun h7=>?_)
   ·obtain⟨j,rfl⟩:∃ j,k=j+1:=⟨k - 1,by have:=dT h7;omega⟩
    have hj:j<c.names.length:=by omega
    have hnl:¬ DJ c.names[j] x→Cp c=false:=fun h=>Fl.tU hlt (by rw[hxe];exact h)
    have next:=fun(h:DJ c.names[j] x)=>next (fun j' hj' e=>by
     have:j'=j:=by omega
     subst this
     exact h)
    have hsub:∀ K:AV→Aa→Prop,∀ S,bin .sub 0 (.v (.int .i64 ((j+1:Nat):Int))) (.v (.int .i64 1)) S K=K (aI j) S:=fun K S=>(Bz (by omega) (by omega) 0).trans (by rw[show((j+1:Nat):Int) - 1=j by omega])
    have hix:∀ K:AV→Aa→Prop,AR 91 3 (nL c.names) (aI j) S5 K=K (.q c.names[j].row 0) S5:=fun K=>M3 hj
    generalize hye:c.names[j]=y at *
    have hrow':y.row = [.v (.int .u8 y.kind),aI y.pos,.v (.string y.text)]:=rfl
    show ∃ q90:AV,_
    refine⟨_,by rw[Ac];exact⟨rfl,rfl⟩,?_⟩
    refine⟨_,by rw[Af p5 rfl rfl];exact⟨rfl,rfl⟩,?_⟩
    refine⟨_,by rw[hsub];exact⟨rfl,rfl⟩,?_⟩
    refine⟨_,by rw[hix];exact⟨rfl,rfl⟩,?_⟩
    refine⟨_,by rw[Fu];exact⟨rfl,rfl⟩,?_⟩
    refine⟨_,by rw[E0 (u:=.v (.int .u8 y.kind)) rfl];exact⟨rfl,rfl⟩,?_⟩
    refine⟨_,Ae (jL y.kind) ⟨rfl,rfl⟩,?_⟩
    refine⟨_,by rw[Ac];exact⟨rfl,rfl⟩,?_⟩
    refine⟨_,by rw[Af o5 rfl rfl];exact⟨rfl,rfl⟩,?_⟩
    refine⟨_,Ae (jL x.kind) ⟨rfl,rfl⟩,?_⟩
    show ∃ q110:AV,_
    refine⟨_,by rw[AP];exact⟨rfl,rfl⟩,?_⟩
    rw[Ag]
    refine Al (fun h8=>?_) (fun h8=>?_)
    ·refine⟨_,⟨rfl,rfl⟩,?_⟩
     rw[Ag,A9]
     refine⟨?_,k5⟩
     have h8:=dT h8
     rw[hnl (by unfold DJ;omega)]
    have h8:=dF h8
    refine⟨_,by rw[AD];exact⟨rfl,rfl⟩,?_⟩
    rw[Ag]
    refine Al (fun h9=>?_) (fun h9=>?_)
    ·have h9:Ck y.kind=Ck x.kind:=dT h9
     refine⟨_,by rw[Ac];exact⟨rfl,rfl⟩,?_⟩
     refine⟨_,by rw[Af p5 rfl rfl];exact⟨rfl,rfl⟩,?_⟩
     refine⟨_,by rw[hsub];exact⟨rfl,rfl⟩,?_⟩
     refine⟨_,by rw[hix];exact⟨rfl,rfl⟩,?_⟩
     refine⟨_,by rw[Fu];exact⟨rfl,rfl⟩,?_⟩
     refine⟨_,by rw[E0 (u:=aI y.pos) rfl];exact⟨rfl,rfl⟩,?_⟩
     refine⟨_,by rw[Ac];exact⟨rfl,rfl⟩,?_⟩
     refine⟨_,by rw[Af o5 rfl rfl];exact⟨rfl,rfl⟩,?_⟩
     refine⟨_,by rw[BA];exact⟨rfl,rfl⟩,?_⟩
     refine⟨_,⟨rfl,rfl⟩,?_⟩
     refine⟨_,⟨rfl,rfl⟩,?_⟩
     rw[Ag]
     refine Al (fun h10=>⟨?_,k5⟩) (fun h10=>?_)
     ·have h10:=dT h10
      rw[hnl (by unfold DJ;omega)]
     ·have h10:=dF h10
      rw[hadd]
      exact next (by unfold DJ;omega)
    ·have h9:¬ Ck y.kind=Ck x.kind:=dF h9
     refine⟨_,⟨rfl,rfl⟩,?_⟩
     refine⟨_,⟨rfl,rfl⟩,?_⟩
     rw[Ag,AZ,hadd]
     exact next (by unfold DJ;omega)
   ·rw[hadd]
    exact next (fun j hj e=>by have:=dF h7;omega)
 ·have hge:i=c.names.length:=by simp at hge;omega
  subst hge
  refine⟨?_,k3⟩
  have:Cp c=true:=by simp only[Cp,decide_eq_true_eq];exact hR
  rw[this]
theorem VO{g:Gr}{l:List Int}(hg:g.ok)(hl:∀ x∈l,By x)(hn:l.length≤9223372036854775807):BH Pg 44 [g.av,aL aI l] (aB (l.all g.lit && decide (l.length≤2000))):=by
 intro S
 refine Ad.Bt (qK ?_)
 unfold m44
 refine Ai rfl fun S1 k1 n1 o1=>?_
 refine Z2 (fun y S'=>S'=S1∧∃ i:Nat,y=aI i∧i≤l.length∧∀ j (h:j<l.length),j<i→g.lit l[j]=true)
  (fun y _=>l.length - ((Aw y).getD 0).toNat) ⟨rfl,0,rfl,Ai9 _,fun j _ hj=>(AiF _ hj).elim⟩ ?_
 dsimp only[BS]
 rintro _ S1 ⟨rfl,i,rfl,hi,hok⟩ KE hKE
 dsimp only[vF,Fi,Lq,Ld]
 rw[Ay,As,Ag]
 refine Al (fun hlt=>?_) (fun hge=>?_)
 ·have hlt:i<l.length:=by simpa using hlt
  have hm:=Ai6 hlt
  show ∃ q5:AV,_
  refine⟨_,by rw[An (n:=2) o1 rfl];exact⟨rfl,rfl⟩,?_⟩
  refine⟨_,by rw[AM hlt];exact⟨rfl,rfl⟩,?_⟩
  refine⟨_,by rw[A3];exact⟨rfl,rfl⟩,?_⟩
  refine⟨_,Ae (OC hg (hl _ hm)) ⟨rfl,rfl⟩,?_⟩
  refine⟨_,by rw[AI];exact⟨rfl,rfl⟩,?_⟩
  rw[Ag]
  refine Al (fun h=>⟨?_,k1⟩) (fun h=>?_)
  ·have:l.all g.lit=false:=by
     rw[Aj4]
     exact⟨_,hm,by simpa using h⟩
   rw[this];rfl
  ·have hadd:∀ K:AV→Aa→Prop,∀ S,bin .add 0 (.v (.int .i64 (i:Int))) (.v (.int .i64 1)) S K=K (aI (i+1:Nat)) S:=fun K S=>Ar (by omega) (by omega) 0
   rw[hadd]
   refine hKE _ _ ⟨rfl,i+1,rfl,hlt,fun j hj hj'=>?_⟩ (by simp[Aw];omega)
   rcases AiS j i with h'|h'
   ·exact hok j hj h'
   ·have:j=i:=by omega
    subst this
    simpa using h
 ·have hge:i=l.length:=by simp at hge;omega
  subst hge
  rw[Ay,C4]
  refine⟨?_,k1⟩
  have:l.all g.lit=true:=by
   rw[AiD]
   intro x hx
   obtain⟨j,hj,rfl⟩:=Aj0 hx
   exact hok j hj hj
  rw[this,Ai7,show decide ((l.length:Int)≤2000)=decide (l.length≤2000)from decide_eq_decide.2 (by omega)]
def Di(g:Gr)(p:Int × Int):Bool:=g.lit p.1 && (decide (0≤p.2) && decide (p.2≤2))
def Ci.Hf(c:Ci):List Int:=[c.inputs,c.latches.length,c.outs.length,c.bads.length,c.cons.length,c.fair.length]
def Ci.right (c:Ci):Bool:=
 c.Hf.all (fun n=>decide (0≤n) && decide (n≤2000)) && (c.gr.right && (c.latches.all (Di c.gr) && (c.outs.all c.gr.lit && (c.bads.all c.gr.lit && (c.cons.all c.gr.lit && (c.fair.all c.gr.lit && Cp c))))))
theorem AfM{S:Aa}{g:Gr}{id:Nat}{l:Int}(hg:g.ok)(hl:By l)(h:S.obj id=some (.cells 61 [g.cells] true)):AW Pg 95 [aI l,.p id 0 0] S (aB (!g.lit l)):=by
 refine oK ?_
 unfold m95
 rw[An (n:=2) h rfl]
 refine Ae (wI hg hl) ?_
 rw[AI]
 exact⟨rfl,rfl⟩
theorem AhM{S:Aa}{g:Gr}{id fid t:Nat}{p:Int × Int}(hg:g.ok)(hl:By p.1)(hid:id<S.n)(hf:fid<S.n)(h:S.obj id=some (.cells 61 [g.cells] true))
    (h2:S.obj fid=some (.cells t [[.f (.func 95) [] [.p id 0 0]]] true)):AW Pg 97 [.a [aI p.1,aI p.2],.p fid 0 0] S (aB (!Di g p)):=by
 refine Ad.Bt (oI ?_)
 dsimp only[m97,Fi,Lf]
 refine Ai rfl fun S1 k1 n1 o1=>?_
 have h':=(k1.2 _ hid).trans h
 have h2':=(k1.2 _ hf).trans h2
 rw[Af h2' rfl rfl,Ac,Af o1 rfl rfl]
 refine BL (AfM hg hl h') ?_
 rw[Ag]
 refine Al (fun h3=>⟨?_,k1⟩) (fun h3=>?_)
 ·rw[AiN]at h3
  simp[Di,h3]
 have h3:g.lit p.1=true:=by simpa using h3
 rw[Ac,Af o1 rfl rfl,As,Ag]
 refine Al (fun h4=>⟨?_,k1⟩) (fun h4=>?_)
 ·have h4:=dT h4
  simp[Di,show ¬ 0≤p.2 by omega]
 rw[Ac,Af o1 rfl rfl,AP]
 refine⟨?_,k1⟩
 have h4:=dF h4
 simp only[Di,h3,Ai7,show 0≤p.2 by omega,decide_true]
 congr 4
 rw[←decide_not]
 exact decide_eq_decide.2 (by omega)
theorem AfV{l:List (Int × Int)}(hl:l.length≤9223372036854775807){g:Int × Int→Bool}{fn:FuncId}{fs cs:List AV}{S:Aa}
    (hf:∀ x,x∈l→AW Pg fn (fs ++ [.a [aI x.1,aI x.2]]++cs) S (aB (g x))):AW Pg 135 [pL l,.f (.func fn) fs cs] S (aI (idxOf (l.findIdx? g))):=by
 refine eH ?_
 unfold Ae6
 rw[Bv]
 refine WZ (fun y S'=>S'=S∧∃ i:Nat,y=aI i∧i≤l.length∧∀ k (hk:k<l.length),k<i→g l[k]=false) (fun y _=>l.length - ((Aw y).getD 0).toNat) ⟨rfl,0,rfl,Ai9 _,fun k _ h=>absurd h (AiF _)⟩ ?_
 dsimp only[BS]
 rintro _ _ ⟨rfl,i,rfl,hi,hk⟩ KE hKE
 dsimp only[iB,Fi]
 rw[As,Ag]
 refine Al (fun h=>?_) (fun h=>?_)
 ·have hlt:i<l.length:=by simpa using h
  rw[Dd hlt,GO]
  refine BL (hf _ (Ai6 hlt)) ?_
  rw[Ag]
  refine Al (fun hg=>⟨?_,rfl⟩) (fun hg=>?_)
  ·rw[JS hlt hg (fun k hk'=>hk k _ hk')];rfl
  ·rw[Ar (by omega) (by omega)]
   refine hKE _ _ ⟨rfl,i+1,rfl,hlt,fun k hk1 hk2=>?_⟩ ?_
   ·by_cases e:k=i
    ·subst e;exact hg
    ·exact hk k hk1 (by omega)
   ·simp[Aw,aI];omega
 ·have hge:i=l.length:=by simp at h;omega
  subst hge
  rw[Gc (fun k hk'=>hk k hk' hk')]
  exact⟨rfl,rfl⟩
theorem AhL{l:List (Int × Int)}(hl:l.length≤9223372036854775807){g:Int × Int→Bool}{fn:FuncId}{fs cs:List AV}{S:Aa}
    (hf:∀ x,x∈l→AW Pg fn (fs ++ [.a [aI x.1,aI x.2]]++cs) S (aB (g x))):AW Pg 99 [pL l,.f (.func fn) fs cs] S (aB (l.any g)):=by
 refine oG ?_
 unfold m99
 refine Au (AfV hl hf) ?_
 unfold aI
 rw[BA,JP]
 exact⟨rfl,rfl⟩
theorem Zf{c:Ci}{i:Nat}{e:Key × AV}(h:c.Eh[i]? = some e):∃ h':i<6,e.2=aI (c.Hf[i]'h'):=by
 match i with
 |0|1|2|3|4|5=>cases h;exact⟨by decide,rfl⟩
 |i+6=>simp[Ci.Eh]at h
theorem VK{l:List Int}{g:Int→Bool}:l.any (fun x=>!g x) = !l.all g:=by
 induction l with
 |nil=>rfl
 |cons a l ih=>simp[ih]
theorem jK{l:List (Int × Int)}{g:Int × Int→Bool}:l.any (fun x=>!g x) = !l.all g:=by
 induction l with
 |nil=>rfl
 |cons a l ih=>simp[ih]
theorem NZ:∀{n:Nat} {l:List Nat},l.Nodup→(∀ x∈l,x<n)→l.length≤n
 |0,l,_,h=>by
  cases l with
  |nil=>simp
  |cons x l=>exact absurd (h x (by simp)) (AiF _)
 |n+1,l,hd,h=>by
  have h1:=NZ (n:=n) (l:=l.erase n) (hd.erase n) (fun x hx=>by
   have:=(hd.mem_erase_iff).1 hx
   have:=h x this.2
   omega)
  by_cases hm:n∈l
  ·have:=List.length_erase_of_mem hm
   omega
  ·rw[List.erase_of_not_mem hm]at h1
   omega
theorem jO{c:Ci}(hc:c.ok):BH Pg 49 [c.av] (aB c.right):=by
 intro S
 refine Ad.Bt (qF ?_)
 have hg:=hc.gr
 unfold m49
 refine Ai rfl fun S1 k1 n1 o1=>?_
 rw[An (n:=8) o1 rfl]
 refine Ae (VN c) ?_
 refine Ai rfl fun S2 k2 n2 o2=>?_
 refine AF o2 rfl rfl fun S3 n3 o3 f3=>?_
 have k3:Am S S3:=(k1.trans k2).st (by omega) n3 f3
 have p3:S3.obj S.n=_:=(f3 _ (by omega)).trans (Kg k2 o1)
 rw[An (n:=8) p3 rfl]
 refine Ae (wJ c) ?_
 show Ap _ _ _ _ _ _
 have hmany:∀(i:Nat) (h:i<6),¬ (0≤c.Hf[i]'h∧c.Hf[i]'h≤2000)→c.right=false:=fun i h hn=>by
  have:c.Hf.all (fun n=>decide (0≤n) && decide (n≤2000))=false:=by
   rw[Aj4]
   exact⟨_,Ai6 (l:=c.Hf) h,by simpa using hn⟩
  simp only[Ci.right,this,AiC]
 refine ZY (fun S'=>Am S S'∧S3.n<S'.n∧S'.obj S.n=some (.cells 29 [c.cells] true)∧S'.obj S1.n=some (.cells 61 [c.gr.cells] true)∧
     ∃ seen,S'.obj S3.n=some (.mit (.mt (.i .i32) c.Eh) 6 seen)∧seen.Nodup∧(∀ i∈seen,∃ h:i<6,0≤c.Hf[i]'h∧c.Hf[i]'h≤2000))
  (fun S'=>match S'.obj S3.n with|some (.mit _ _ seen)=>6 - seen.length|_=>0)
  ⟨k3.new _,by simp,(Je (by omega)).trans p3,(Je (by omega)).trans o3,[],B0 _,by simp,fun i h=>by simp at h⟩ ?_
 rintro S4 ⟨k4,n4,p4,g4,seen,m4,hnd,hse⟩ KE hKE
 dsimp only[fZ,Fi,Lf];unfold ME
 simp only[m4,N4,BO]
 refine⟨rfl,fun i e he hi=>?_,fun hall=>?_⟩
 ·obtain⟨hi6,hev⟩:=Zf he
  have k5:Am S (Aa.Du S4 S3.n (.mit (.mt (.i .i32) c.Eh) 6 (seen ++ [i]))):=k4.Du (by have:=k3.1;omega) _
  have m5:(Aa.Du S4 S3.n (.mit (.mt (.i .i32) c.Eh) 6 (seen ++ [i]))).obj S3.n=_:=BI _ _
  have p5:(Aa.Du S4 S3.n (.mit (.mt (.i .i32) c.Eh) 6 (seen ++ [i]))).obj S.n=_:=(Da (by omega)).trans p4
  have g5:(Aa.Du S4 S3.n (.mit (.mt (.i .i32) c.Eh) 6 (seen ++ [i]))).obj S1.n=_:=(Da (by omega)).trans g4
  have n5:(Aa.Du S4 S3.n (.mit (.mt (.i .i32) c.Eh) 6 (seen ++ [i]))).n=S4.n:=rfl
  generalize Aa.Du S4 S3.n (.mit (.mt (.i .i32) c.Eh) 6 (seen ++ [i]))=S5 at *
  rw[B2,Ag,A9]
  unfold Nb
  simp only[m5,N4,BO]
  refine⟨rfl,i,by simp,e,he,?_⟩
  show A0 _ _ _ _
  rw[BV,hev,As,Ag]
  refine Al (fun h1=>⟨?_,k5⟩) (fun h1=>?_)
  ·rw[hmany i hi6 (fun h=>by have:=dT h1;omega)]
  rw[AP,Ag]
  refine Al (fun h2=>⟨?_,k5⟩) (fun h2=>?_)
  ·rw[hmany i hi6 (fun h=>by have:=dT h2;omega)]
  have h1:=dF h1
  have h2:=dF h2
  have hnd':(seen ++ [i]).Nodup:=by
   rw[AjI]
   refine⟨hnd,by simp,fun a ha b hb=>?_⟩
   have:b=i:=by simpa using hb
   subst this
   rintro rfl
   exact hi ha
  have hse':∀ j∈seen ++ [i],∃ h:j<6,0≤c.Hf[j]'h∧c.Hf[j]'h≤2000:=fun j hj=>by
   rcases AiQ.1 hj with hj|hj
   ·exact hse j hj
   ·have:j=i:=by simpa using hj
    subst this
    exact⟨hi6,by omega,by omega⟩
  have hlen:(seen ++ [i]).length≤6:=by
   exact NZ hnd' (fun x hx=>(hse' x hx).1)
  refine hKE _ ⟨k5,by omega,p5,g5,_,m5,hnd',hse'⟩ ?_
  simp only[m5,m4]
  simp at hlen ⊢
  omega
 ·unfold over
  rw[B2,Ag,AZ]
  have hm:c.Hf.all (fun n=>decide (0≤n) && decide (n≤2000))=true:=by
   rw[AiD]
   intro x hx
   obtain⟨i,hi,rfl⟩:=Aj0 hx
   obtain⟨h6,h0,h1⟩:=hse i (hall i hi)
   simp only[Ai5,decide_eq_true_eq]
   exact⟨h0,h1⟩
  have hright:c.right=(c.gr.right && (c.latches.all (Di c.gr) && (c.outs.all c.gr.lit && (c.bads.all c.gr.lit && (c.cons.all c.gr.lit && (c.fair.all c.gr.lit && Cp c)))))):=by
   simp only[Ci.right,hm,Ai7]
  clear hm hall hse hmany
  refine BM rfl fun S5 k5 n5 o5=>?_
  refine Cc o5 rfl rfl fun S6 n6 o6 f6=>?_
  have k6:Am S S6:=(k4.trans k5).st (by have:=k4.1;omega) n6 f6
  have p6:S6.obj S.n=_:=(f6 _ (by omega)).trans (Kg k5 p4)
  have g6:S6.obj S1.n=_:=(f6 _ (by omega)).trans (Kg k5 g4)
  rw[An (n:=2) g6 rfl]
  refine Ae (wH hg) ?_
  rw[AI,Ag]
  refine Al (fun h1=>⟨?_,k6⟩) (fun h1=>?_)
  ·rw[AiN]at h1
   rw[hright,h1];rfl
  have h1:c.gr.right=true:=by simpa using h1
  rw[Ac,Af p6 rfl rfl]
  have hlat:=hc.llen
  refine Au (AhL (by omega) (g:=fun p=>!Di c.gr p) (fun p hp=>AhM hg (hc.lats p hp).1 (by omega) (by omega) g6 o6)) ?_
  rw[jK,Ag]
  refine Al (fun h2=>⟨?_,k6⟩) (fun h2=>?_)
  ·rw[AiN]at h2
   rw[hright,h1,h2];rfl
  have h2:c.latches.all (Di c.gr)=true:=by simpa using h2
  rw[Ac,Af p6 rfl rfl,Ac,Af p6 rfl rfl,Ac,Af p6 rfl rfl,Ac,Af p6 rfl rfl,A7 (cs:=[aL aI c.outs,aL aI c.bads,aL aI c.cons,aL aI c.fair]) rfl]
  rw[h1,h2,Ai7,Ai7]at hright
  have call:∀(l:List Int),((∀ x∈l,By x)∧l.length≤9223372036854775807)→∀{Q:Bg→Aa→Prop} {K:AV→Aa→Prop},K (aB (!l.all c.gr.lit)) S6→Ah Pg 100 [aL aI l,.f (.func 95) [] [.p S1.n 0 0]] S6 Q K:=fun l hl Q K k =>
   Au (VJ hl.2 (g:=fun x=>!c.gr.lit x) (fun x hx=>AfM hg (hl.1 x hx) g6)) (show K (aB (l.any fun x=>!c.gr.lit x)) S6 by rw[VK];exact k)
  refine ZX (fun y S'=>S'=S6∧∃ i:Nat,y=aI i∧i≤4∧(1≤i→c.outs.all c.gr.lit=true)∧(2≤i→c.bads.all c.gr.lit=true)∧(3≤i→c.cons.all c.gr.lit=true)∧(4≤i→c.fair.all c.gr.lit=true))
   (fun y _=>4 - ((Aw y).getD 0).toNat) ⟨rfl,0,rfl,Ai9 _,fun h=>by omega,fun h=>by omega,fun h=>by omega,fun h=>by omega⟩ ?_
  dsimp only[BS]
  rintro _ S6 ⟨rfl,i,rfl,hi,a1,a2,a3,a4⟩ KE1 hKE1
  dsimp only[vB,Fi]
  rw[As,Ag]
  refine Al (fun hlt=>?_) (fun hge=>?_)
  ·have hlt:i<4:=by have:=dT hlt;exact Int.ofNat_lt.1 this
   have hadd:∀ K:AV→Aa→Prop,∀ S,bin .add 0 (.v (.int .i64 (i:Int))) (.v (.int .i64 1)) S K=K (aI (i+1:Nat)) S:=fun K S=>Ar (by omega) (by omega) 0
   match i,hlt with
   |0,_ =>
    refine⟨0,rfl,⟨by decide,by decide⟩,_,rfl,?_⟩
    show Ax _ _ _
    rw[Af o6 rfl rfl]
    refine call _ hc.outs ?_
    rw[Ag]
    refine Al (fun h=>⟨?_,k6⟩) (fun h=>?_)
    ·rw[AiN]at h
     rw[hright,h];rfl
    ·rw[hadd]
     exact hKE1 _ _ ⟨rfl,1,rfl,by decide,fun _=>by simpa using h,fun h=>by omega,fun h=>by omega,fun h=>by omega⟩ (by simp[Aw])
   |1,_ =>
    have a1:=a1 (by decide)
    refine⟨1,rfl,⟨by decide,by decide⟩,_,rfl,?_⟩
    show Ax _ _ _
    rw[Af o6 rfl rfl]
    refine call _ hc.bads ?_
    rw[Ag]
    refine Al (fun h=>⟨?_,k6⟩) (fun h=>?_)
    ·rw[AiN]at h
     rw[hright,a1,h];rfl
    ·rw[hadd]
     exact hKE1 _ _ ⟨rfl,2,rfl,by decide,fun _=>a1,fun _=>by simpa using h,fun h=>by omega,fun h=>by omega⟩ (by simp[Aw])
   |2,_ =>
    have a1:=a1 (by decide)
    have a2:=a2 (by decide)
    refine⟨2,rfl,⟨by decide,by decide⟩,_,rfl,?_⟩
    show Ax _ _ _
    rw[Af o6 rfl rfl]
    refine call _ hc.cons ?_
    rw[Ag]
    refine Al (fun h=>⟨?_,k6⟩) (fun h=>?_)
    ·rw[AiN]at h
     rw[hright,a1,a2,h];rfl
    ·rw[hadd]
     exact hKE1 _ _ ⟨rfl,3,rfl,by decide,fun _=>a1,fun _=>a2,fun _=>by simpa using h,fun h=>by omega⟩ (by simp[Aw])
   |3,_ =>
    have a1:=a1 (by decide)
    have a2:=a2 (by decide)
    have a3:=a3 (by decide)
    refine⟨3,rfl,⟨by decide,by decide⟩,_,rfl,?_⟩
    show Ax _ _ _
    rw[Af o6 rfl rfl]
    refine call _ hc.fair ?_
    rw[Ag]
    refine Al (fun h=>⟨?_,k6⟩) (fun h=>?_)
    ·rw[AiN]at h
     rw[hright,a1,a2,a3,h];rfl
    ·rw[hadd]
     exact hKE1 _ _ ⟨rfl,4,rfl,by decide,fun _=>a1,fun _=>a2,fun _=>a3,fun _=>by simpa using h⟩ (by simp[Aw])
  ·have hge:i=4:=by
     have:¬ ((i:Int)<4):=dF hge
     omega
   subst hge
   rw[An (n:=8) p6 rfl]
   refine Ae (Aa7 hc) ⟨?_,k6⟩
   rw[hright,a1 (by decide),a2 (by decide),a3 (by decide),a4 (by decide)];rfl
theorem Bp{c:Ci}:c.right=true↔(0≤c.inputs∧c.inputs≤2000)∧c.latches.length≤2000∧c.outs.length≤2000∧c.bads.length≤2000∧c.cons.length≤2000∧c.fair.length≤2000∧
    c.gr.right=true∧c.latches.all (Di c.gr)=true∧c.outs.all c.gr.lit=true∧c.bads.all c.gr.lit=true∧c.cons.all c.gr.lit=true∧c.fair.all c.gr.lit=true∧Cp c=true:=by
 have e:∀ n:Nat,(decide (0≤(n:Int)) && decide ((n:Int)≤2000))=decide (n≤2000):=fun n=>by
  rw[decide_eq_true (by omega:0≤(n:Int)),Ai7]
  exact decide_eq_decide.2 (by omega)
 simp only[Ci.right,Ci.Hf,AjA,List.all_nil,e,Ai5,decide_eq_true_eq,AjF]
 constructor
 ·rintro⟨⟨a,b1,b2,b3,b4,b5⟩,c1,c2,c3,c4,c5,c6,c7⟩
  exact⟨a,b1,b2,b3,b4,b5,c1,c2,c3,c4,c5,c6,c7⟩
 ·rintro⟨a,b1,b2,b3,b4,b5,c1,c2,c3,c4,c5,c6,c7⟩
  exact⟨⟨a,b1,b2,b3,b4,b5⟩,c1,c2,c3,c4,c5,c6,c7⟩
theorem On{b:Bool}{A B:Prop}(h2:b=false→B)(h1:b=true→A):gd b A B:=Al h1 h2
theorem DG{c:Ci}(h:¬ c.right=true):c.right=false:=by simpa using h
theorem VP{c:Ci}(hc:c.ok):BH Pg 24 [c.av] (aB c.right):=by
 intro S
 refine Ad.Bt (rC ?_)
 have hg:=hc.gr
 have hll:=hc.llen
 dsimp only[m24,Fi,Lf]
 refine Ai rfl fun S1 k1 n1 o1=>?_
 rw[An (n:=8) o1 rfl]
 refine Ae (Nl c) ?_
 refine Ai rfl fun S2 k2 n2 o2=>?_
 refine AF o2 rfl rfl fun S3 n3 o3 f3=>?_
 have k3:Am S S3:=(k1.trans k2).st (by omega) n3 f3
 have p3:S3.obj S.n=_:=(f3 _ (by omega)).trans (Kg k2 o1)
 rw[Ac,Af p3 rfl rfl,As,Ag]
 refine Al (fun h1=>⟨?_,k3⟩) (fun h1=>?_)
 ·rw[DG fun h=>by have:=(Bp.1 h).1;have:=dT h1;omega]
 rw[Ac,Af p3 rfl rfl,AP,Ag]
 refine Al (fun h2=>⟨?_,k3⟩) (fun h2=>?_)
 ·rw[DG fun h=>by have:=(Bp.1 h).1;have:=dT h2;omega]
 rw[Ac,Af p3 rfl rfl,Bv,AP,Ag]
 refine Al (fun h3=>⟨?_,k3⟩) (fun h3=>?_)
 ·rw[DG fun h=>by have:=(Bp.1 h).2.1;have:=dT h3;omega]
 have h1:=dF h1
 have h2:=dF h2
 have h3:=dF h3
 rw[An (n:=2) o3 rfl]
 refine Ae (jP hg) ?_
 rw[AI,Ag]
 refine Al (fun h4=>⟨?_,k3⟩) (fun h4=>?_)
 ·rw[DG fun h=>by rw[(Bp.1 h).2.2.2.2.2.2.1]at h4;cases h4]
 have h4:c.gr.right=true:=by simpa using h4
 refine aH (fun y S'=>S'=S3∧∃ i:Nat,y=aI i∧i≤c.latches.length∧∀ j (h:j<c.latches.length),j<i→Di c.gr c.latches[j]=true)
  (fun y _=>c.latches.length - ((Aw y).getD 0).toNat) ⟨rfl,0,rfl,Ai9 _,fun j _ hj=>(AiF _ hj).elim⟩ ?_
 dsimp only[BS]
 rintro _ S3 ⟨rfl,i,rfl,hi,hok⟩ KE hKE
 dsimp only[vT,Qe,Fi,Lf,Lq,Ld]
 rw[Ac,Af p3 rfl rfl,Bv,As,Ag]
 refine Al (fun hlt=>?_) (fun hge=>?_)
 ·have hlt:i<c.latches.length:=by simpa using hlt
  have hm:=Ai6 hlt
  have hno:Di c.gr c.latches[i]=false→c.right=false:=fun h=>DG fun h'=>by
   have:=AiD.1 (Bp.1 h').2.2.2.2.2.2.2.1 _ hm
   rw[h]at this;cases this
  have hix:∀ K:AV→Aa→Prop,AR 67 2 (pL c.latches) (aI i) S3 K=K (.q [aI c.latches[i].1,aI c.latches[i].2] 0) S3:=fun K=>Dd hlt
  have hl:=(hc.lats _ hm).1
  have hnext:Di c.gr c.latches[i]=true→KE _ (G1 (.p S.n 0 0) (.p S1.n 0 0) (aI (i+1:Nat))) S3:=fun h=>hKE _ _ ⟨rfl,i+1,rfl,hlt,fun j hj hj'=>by
   rcases AiS j i with h'|h'
   ·exact hok j hj h'
   ·have:j=i:=by omega
    subst this
    exact h⟩ (by simp[Aw];omega)
  generalize c.latches[i]=x at *
  show ∃ q28:AV,_
  refine⟨_,by rw[An (n:=2) o3 rfl];exact⟨rfl,rfl⟩,?_⟩
  refine⟨_,by rw[Ac];exact⟨rfl,rfl⟩,?_⟩
  refine⟨_,by rw[Af p3 rfl rfl];exact⟨rfl,rfl⟩,?_⟩
  refine⟨_,by rw[hix];exact⟨rfl,rfl⟩,?_⟩
  refine⟨_,by rw[Fu];exact⟨rfl,rfl⟩,?_⟩
  refine⟨_,by rw[E0 (u:=aI x.1) rfl];exact⟨rfl,rfl⟩,?_⟩
  refine⟨_,Ae (OC hg hl) ⟨rfl,rfl⟩,?_⟩
  refine⟨_,by rw[AI];exact⟨rfl,rfl⟩,?_⟩
  rw[Ag]
  refine Al (fun h5=>?_) (fun h5=>?_)
  ·refine⟨_,⟨rfl,rfl⟩,?_⟩
   rw[Ag,A9]
   refine⟨_,⟨rfl,rfl⟩,?_⟩
   rw[Ag,A9]
   refine⟨?_,k3⟩
   rw[AiN]at h5
   rw[hno (by simp[Di,h5])]
  have h5:c.gr.lit x.1=true:=by simpa using h5
  refine⟨_,by rw[Ac];exact⟨rfl,rfl⟩,?_⟩
  refine⟨_,by rw[Af p3 rfl rfl];exact⟨rfl,rfl⟩,?_⟩
  refine⟨_,by rw[hix];exact⟨rfl,rfl⟩,?_⟩
  refine⟨_,by rw[Fu];exact⟨rfl,rfl⟩,?_⟩
  refine⟨_,by rw[E0 (u:=aI x.2) rfl];exact⟨rfl,rfl⟩,?_⟩
  refine⟨_,by rw[As];exact⟨rfl,rfl⟩,?_⟩
  refine⟨_,⟨rfl,rfl⟩,?_⟩
  rw[Ag]
  refine Al (fun h6=>?_) (fun h6=>?_)
  ·refine⟨_,⟨rfl,rfl⟩,?_⟩
   rw[Ag,A9]
   refine⟨?_,k3⟩
   have h6:=dT h6
   rw[hno (by simp[Di,show ¬ 0≤x.2 by omega])]
  refine⟨_,by rw[Ac];exact⟨rfl,rfl⟩,?_⟩
  refine⟨_,by rw[Af p3 rfl rfl];exact⟨rfl,rfl⟩,?_⟩
  refine⟨_,by rw[hix];exact⟨rfl,rfl⟩,?_⟩
  refine⟨_,by rw[Fu];exact⟨rfl,rfl⟩,?_⟩
  refine⟨_,by rw[E0 (u:=aI x.2) rfl];exact⟨rfl,rfl⟩,?_⟩
  refine⟨_,by rw[AP];exact⟨rfl,rfl⟩,?_⟩
  refine⟨_,⟨rfl,rfl⟩,?_⟩
  rw[Ag]
  refine Al (fun h7=>⟨?_,k3⟩) (fun h7=>?_)
  ·have h7:=dT h7
   rw[hno (by simp[Di,show ¬ x.2≤2 by omega])]
  ·have hadd:∀ K:AV→Aa→Prop,∀ S,bin .add 0 (.v (.int .i64 (i:Int))) (.v (.int .i64 1)) S K=K (aI (i+1:Nat)) S:=fun K S=>Ar (by omega) (by omega) 0
   rw[hadd]
   have h6:=dF h6
   have h7:=dF h7
   exact hnext (by simp[Di,h5,show 0≤x.2 by omega,show x.2≤2 by omega])
 ·have hge:i=c.latches.length:=by simp at hge;omega
  subst hge
  have h5:c.latches.all (Di c.gr)=true:=by
   rw[AiD]
   intro x hx
   obtain⟨j,hj,rfl⟩:=Aj0 hx
   exact hok j hj hj
  rw[An (n:=2) o3 rfl,Ac,Af p3 rfl rfl]
  refine Ae (VO hg hc.outs.1 hc.outs.2) ?_
  rw[Ag]
  refine On (fun a1=>⟨?_,k3⟩) (fun a1=>?_)
  ·rw[DG fun h=>by simp[(Bp.1 h).2.2.2.2.2.2.2.2.1,(Bp.1 h).2.2.1]at a1]
  rw[An (n:=2) o3 rfl,Ac,Af p3 rfl rfl]
  refine Ae (VO hg hc.bads.1 hc.bads.2) ?_
  rw[Ag]
  refine On (fun a2=>⟨?_,k3⟩) (fun a2=>?_)
  ·rw[DG fun h=>by simp[(Bp.1 h).2.2.2.2.2.2.2.2.2.1,(Bp.1 h).2.2.2.1]at a2]
  rw[An (n:=2) o3 rfl,Ac,Af p3 rfl rfl]
  refine Ae (VO hg hc.cons.1 hc.cons.2) ?_
  rw[Ag]
  refine On (fun a3=>⟨?_,k3⟩) (fun a3=>?_)
  ·rw[DG fun h=>by simp[(Bp.1 h).2.2.2.2.2.2.2.2.2.2.1,(Bp.1 h).2.2.2.2.1]at a3]
  rw[An (n:=2) o3 rfl,Ac,Af p3 rfl rfl]
  refine Ae (VO hg hc.fair.1 hc.fair.2) ?_
  rw[Ag]
  refine On (fun a4=>⟨?_,k3⟩) (fun a4=>?_)
  ·rw[DG fun h=>by simp[(Bp.1 h).2.2.2.2.2.2.2.2.2.2.2.1,(Bp.1 h).2.2.2.2.2.1]at a4]
  rw[An (n:=8) p3 rfl]
  refine Ae (AgD hc) ⟨?_,k3⟩
  rw[Ai5,decide_eq_true_eq]at a1 a2 a3 a4
  congr 3
  rw[Bool.eq_iff_iff]
  exact⟨fun h=>Bp.2 ⟨⟨by omega,by omega⟩,by omega,a1.2,a2.2,a3.2,a4.2,h4,h5,a1.1,a2.1,a3.1,a4.1,h⟩,fun h=>(Bp.1 h).2.2.2.2.2.2.2.2.2.2.2.2⟩
def Ei(v:List Bool)(l:Int):Bool:=v.getD (l.tdiv 2).toNat false != decide (l.tmod 2=1)
def DD(g:Gr)(ins:List Bool):Nat→List Bool
 |0=>false :: ins
 |i+1=>DD g ins i ++ [Ei (DD g ins i) (g.ands.getD i (0,0)).1 && Ei (DD g ins i) (g.ands.getD i (0,0)).2]
@[simp] theorem IF(g:Gr)(ins:List Bool):∀ i,(DD g ins i).length=ins.length+1+i
 |0=>rfl
 |i+1=>by simp[DD,IF g ins i];omega
def DX(g:Gr)(ins:List Bool):List Bool:=if(g.right && decide ((ins.length:Int)=g.inputs))=true then DD g ins g.ands.length else[]
theorem P9{S:Aa}{x:AV}{l:Int}{b:Bool}(hl:By l)(hx:∀ K:AV→Aa→Prop,K (aB b) S→AR 4 1 x (aI (l.tdiv 2)) S fun v S=>Ax v S K):AW Pg 91 [x,aI l] S (aB (b != decide (l.tmod 2=1))):=by
 refine oO ?_
 unfold m91
 rw[Cg hl]
 refine hx _ ?_
 rw[C3 (by decide),AD,CV]
 exact⟨rfl,rfl⟩
theorem Ze{g:Gr}(h:g.right=true){i:Nat}(hi:i<g.ands.length):2≤g.ands[i].2∧g.ands[i].2.tdiv 2<g.ands[i].1.tdiv 2∧g.ands[i].1.tdiv 2<g.inputs+1+i∧0≤g.ands[i].2.tdiv 2:=by
 have:=(CF.1 h).2.2.2.2.1 i hi
 rw[show g.ands.getD i (0,0)=g.ands[i]by simp[Ai2,hi]]at this
 simp only[may,Ai5,decide_eq_true_eq]at this
 exact⟨this.1,this.2.1,this.2.2,Int.tdiv_nonneg (by omega) (by decide)⟩
theorem TW{n:Nat}{S:Aa}{x:AV}{v:List Bool}(h:A4 n S x 4 (v.map fun b=>[aB b])){z:Int}(h0:0≤z)(h1:z<v.length)(K:AV→Aa→Prop)(k:K (aB (v.getD z.toNat false)) S):AR 4 1 x (aI z) S fun v S=>Ax v S K:=by
 obtain⟨i,rfl⟩:=AiE h0
 have hi:i<v.length:=by omega
 obtain⟨id,rfl,h2,h3,h4⟩:=h.ix (i:=i) (by simpa using hi)
 rw[Cl (by simpa using hi) h4,Af h4 (by rw[AiG,AiH,Ai3 hi];rfl) rfl]
 rw[show(v.getD (Int.toNat i) false)=v[i]by simp[Ai2,hi]]at k
 exact k
theorem GQ{S:Aa}{v:List Bool}{z:Int}(h0:0≤z)(h1:z<v.length)(K:AV→Aa→Prop)(k:K (aB (v.getD z.toNat false)) S):AR 4 1 (aL aB v) (aI z) S fun v S=>Ax v S K:=by
 obtain⟨i,rfl⟩:=AiE h0
 have hi:i<v.length:=by omega
 rw[AM hi,A3]
 rw[show(v.getD (Int.toNat i) false)=v[i]by simp[Ai2,hi]]at k
 exact k
def s7(f:FuncId)(args:List AV)(l:List Bool):Prop:=
 ∀ S,Ad Pg f args S (fun r S'=>∃ x,r = .ret x∧Am S S'∧A4 S.n S' x 4 (l.map fun b=>[aB b]))
theorem s7.NF{f:FuncId}{args:List AV}{l:List Bool}(h:s7 f args l):BH Pg f args (aL aB l):=Ad.G8 (f:=fun b=>.bool b) (e:=4) h
theorem xM(S:Aa)(l:List Bool):Ja S (aL aB l)=some (l.map fun b=>[aB b]):=rfl
theorem Ac0{g:Gr}(hg:g.ok){ins:List Bool}(hin:ins.length≤1000000):s7 90 [g.av,aL aB ins] (DX g ins):=by
 intro S
 refine oP ?_
 have hlen:=hg.len
 dsimp only[m90,Fi,Lf]
 refine Ai rfl fun S1 k1 n1 o1=>?_
 rw[An (n:=2) o1 rfl]
 refine Ae (jP hg) ?_
 rw[AI,Ag]
 refine Al (fun h1=>⟨_,rfl,k1,?_⟩) (fun h1=>?_)
 ·rw[AiN]at h1
  rw[DX,h1]
  exact A4.nl _ _ _
 have h1:g.right=true:=by simpa using h1
 rw[Ay,Ac,Af o1 rfl rfl,Bi,Ag]
 refine Al (fun h2=>⟨_,rfl,k1,?_⟩) (fun h2=>?_)
 ·rw[AiN]at h2
  rw[DX,h2,Aj2]
  exact A4.nl _ _ _
 have h2:decide ((ins.length:Int)=g.inputs)=true:=by simpa using h2
 have h2':=dT h2
 have hres:DX g ins=DD g ins g.ands.length:=by rw[DX,h1,h2];rfl
 have hb:∀(b:Bool) {S:Aa} {K:AV→Aa→Prop},K (.l [[aB b]]) S→AU 4 1 1 [.v (.bool false)] [(0,aB b)] S K:=fun b S K k=>BQ rfl (fun _ h=>by cases h) k
 refine⟨[aB false],by simp[Cu,cellsOf,AV.one,Value.oneCell',Jw],.inl ?_⟩
 have w2:A4 S1.n (S1.new (.cells 4 (chunks 1 1 [aB false]) true)) (.s S1.n 0 1) 4 [[aB false]]:=.inr ⟨S1.n,rfl,Ai4 _,by simp,by rw[B0];rfl⟩
 have k2:Am S1 (S1.new (.cells 4 (chunks 1 1 [aB false]) true)):=(Am.refl _).new _
 generalize S1.new (.cells 4 (chunks 1 1 [aB false]) true)=S2 at *
 refine A4.Qk w2 k2.1 (ys:=ins.map fun b=>[aB b]) (fun c hc=>by obtain⟨p,_,rfl⟩:=AiL.1 hc;rfl) (by simp;omega) (fun z1 S3 w3 b3 hz3=>?_) (xM _ _)
 have k3:Am S1 S3:=w2.AS (Ai4 _) b3 k2
 have k3':=k1.trans k3
 refine ZA (fun y z S'=>Am S1 S'∧∃ i:Nat,z=aI i∧i≤g.ands.length∧A4 S1.n S' y 4 ((DD g ins i).map fun b=>[aB b]))
  (fun _ z _=>g.ands.length - ((Aw z).getD 0).toNat) ⟨k3,0,rfl,Ai9 _,w3⟩ ?_
 dsimp only[DE]
 rintro y _ S4 ⟨k4,i,rfl,hi,w4⟩ KE hKE
 have o4:=(k4.2 S.n (by omega)).trans o1
 dsimp only[uL,Fi,Lf]
 rw[Ac,Af o4 rfl rfl,Bv,As,Ag]
 refine Al (fun hlt=>?_) (fun hge=>?_)
 ·have hlt:i<g.ands.length:=by simpa using hlt
  obtain⟨q1,q2,q3,q4⟩:=Ze h1 hlt
  have hp:=hg.pairs _ (Ai6 hlt)
  have hget:g.ands.getD i (0,0)=g.ands[i]:=by simp[Ai2,hlt]
  have e1:∀(c:List AV) (K:AV→Aa→Prop),IL 2 1 (.q c 0) (.v (.int .i64 1)) S4 K=K (.q c 1) S4:=fun c K=>Vq (z:=1) (by decide)
  have e0:∀(c:List AV) (K:AV→Aa→Prop),IL 2 1 (.q c 0) (.v (.int .i64 0)) S4 K=K (.q c 0) S4:=fun c K=>Vq (z:=0) (by decide)
  have hadd:∀ K:AV→Aa→Prop,∀ S,bin .add 0 (.v (.int .i64 (i:Int))) (.v (.int .i64 1)) S K=K (aI (i+1:Nat)) S:=fun K S=>Ar (by omega) (by omega) 0
  have hl4:(DD g ins i).length=ins.length+1+i:=IF g ins i
  have step:∀ b,DD g ins (i+1)=DD g ins i ++ [b]→Bo 4 1 1 y (.l [[aB b]]) S4 fun v T=>bin .add 0 (aI i) (.v (.int .i64 1)) T fun v' T=>KE 49 (GY (.p S.n 0 0) v v') T:=fun b hb=>by
   refine w4.app k4.1 (c:=[aB b]) rfl (by simp;omega) (fun z5 S5 w5 b5 hz5=>?_) rfl
   rw[hadd]
   refine hKE _ _ _ ⟨w4.AS (Ai4 _) b5 k4,i+1,rfl,hlt,?_⟩ (by simp[Aw];omega)
   rw[hb,AiB]
   exact w5
  rw[Ac,Af o4 rfl rfl,Dd hlt,e0,a8]
  refine Au (P9 hp.1 (fun K k=>TW w4 (by omega) (by rw[hl4];omega) K k)) ?_
  rw[Ag]
  refine Al (fun h3=>?_) (fun h3=>?_)
  ·rw[Ac,Af o4 rfl rfl,Dd hlt,e1,aZ]
   refine Au (P9 hp.2 (fun K k=>TW w4 (by omega) (by rw[hl4];omega) K k)) ?_
   refine hb _ (step _ ?_)
   simp only[DD,hget,Ei]
   rw[h3,Ai7]
  ·refine hb _ (step _ ?_)
   simp only[DD,hget,Ei]
   rw[h3,AiC]
 ·have hge:i=g.ands.length:=by simp at hge;omega
  subst hge
  rw[hres]
  exact⟨_,rfl,k1.trans k4,w4.low (by omega)⟩
theorem Nn{g:Gr}{ins:List Bool}:(DX g ins).length=if(g.right && decide ((ins.length:Int)=g.inputs))=true then(g.vars).toNat else 0:=by
 unfold DX
 split
 ·rename_i h
  simp only[Ai5,decide_eq_true_eq]at h
  rw[IF]
  simp only[Gr.vars,←h.2]
  omega
 ·rfl
def Gr.eval(g:Gr)(l:Int)(ins:List Bool):Bool:=decide (0<(DX g ins).length) && (g.lit l && Ei (DX g ins) l)
theorem AgC{g:Gr}(hg:g.ok){l:Int}(hl:By l){ins:List Bool}(hin:ins.length≤1000000):BH Pg 46 [g.av,aI l,aL aB ins] (aB (g.eval l ins)):=by
 intro S
 refine Ad.Bt (qI ?_)
 dsimp only[m46,Fi]
 refine Ai rfl fun S1 k1 n1 o1=>?_
 rw[An (n:=2) o1 rfl]
 refine Ae (Ac0 hg hin).NF ?_
 rw[Ay,AP,Ag]
 refine On (fun h1=>⟨?_,k1⟩) (fun h1=>?_)
 ·have h1:=dF h1
  simp[Gr.eval,show ¬ 0<(DX g ins).length by omega]
 have h1:0<(DX g ins).length:=by have:=dT h1;omega
 rw[An (n:=2) o1 rfl]
 refine Ae (OC hg hl) ?_
 rw[Ag]
 refine On (fun h2=>⟨?_,k1⟩) (fun h2=>?_)
 ·simp[Gr.eval,h2]
 have h3:0≤l.tdiv 2∧l.tdiv 2<(DX g ins).length:=by
  have h4:=h2
  simp only[Gr.lit,Ai5,decide_eq_true_eq]at h4
  have:=Nn (g:=g) (ins:=ins)
  split at this
  ·exact⟨Int.tdiv_nonneg (by omega) (by decide),by omega⟩
  ·omega
 refine Au (P9 hl (fun K k=>GQ h3.1 h3.2 K k)) ⟨?_,k1⟩
 simp only[Gr.eval,h1,h2,decide_true,Ai7]
 rfl
theorem AhV(a:Int):IntKind.i64.wrap ((BitVec.ofInt 64 a &&& BitVec.ofInt 64 1).toNat:Nat)=a % 2:=by
 have h1:(BitVec.ofInt 64 1).toNat=1:=by decide
 rw[BitVec.toNat_and,h1,Nat.and_one_is_mod,BitVec.toNat_ofInt,wrap64 (by omega) (by omega)]
 omega
theorem Fg{a:Int}{S:Aa}{K:AV→Aa→Prop}:bin .and 0 (aI a) (.v (.int .i64 1)) S K=K (aI (a % 2)) S:=by
 show bin .and 0 (.v (.int .i64 a)) (.v (.int .i64 1)) S K=_
 have:b2 .and 0 (.int .i64 a) (.int .i64 1)=some (.int .i64 (a % 2)):=by
  rw[←AhV a];rfl
 show BK (b2 .and 0 (.int .i64 a) (.int .i64 1)) _=_
 rw[this,BO]
theorem fW{a:Int}(h:0≤a){S:Aa}{K:AV→Aa→Prop}:bin .shr 0 (aI a) (.v (.int .u64 1)) S K=K (aI (a.tdiv 2)) S:=by
 rw[Qa (by decide)]
 have:a.fdiv (2 ^ min (Int.toNat 1) IntKind.i64.bits)=a.tdiv 2:=by
  show a.fdiv 2=_
  rw[Int.fdiv_eq_ediv_of_nonneg _ (by decide),AiI h]
 rw[this]
theorem wG{S:Aa}{fid t n:Nat}{x:AV}{v:List Bool}{l:Int}(h0:0≤l)(h1:l.tdiv 2<v.length)(hf:S.obj fid=some (.cells t [[x]] true))(hx:A4 n S x 4 (v.map fun b=>[aB b])):
    AW Pg 102 [aI l,.p fid 0 0] S (aB (Ei v l)):=by
 refine fN ?_
 unfold Af0
 rw[Af hf rfl rfl,fW h0]
 refine TW hx (Int.tdiv_nonneg h0 (by decide)) h1 _ ?_
 rw[Fg,AD,CV]
 refine⟨?_,rfl⟩
 rw[Ei,show l.tmod 2=l % 2 from AiX h0]
theorem yD{e b l c:Nat}{zc:List AV}(hl:l≤c)(hb:b*c≤281474976710656)(hn:c≤9223372036854775807){S:Aa}{K:AV→Aa→Prop}:Qt e b zc (aI l) (aI c) S K=K (.s S.n 0 l) (S.new (.cells e (List.replicate l zc) true)):=by
 have h1:(b:Int)*c≤281474976710656:=by
  have h:=Int.ofNat_le.2 hb
  rw[Int.natCast_mul]at h
  omega
 have h2:(c:Int)≤9223372036854775807:=by omega
 have h0:(0:Int)≤l:=by omega
 have h3:(l:Int)≤c:=by omega
 simp only[Qt,Aw,BO,h0,h1,h2,h3,AiJ,and_self,true_and]
theorem Eg{n:Nat}{S T:Aa}{x:AV}{e:Nat}{es:List (List AV)}(h:A4 n S x e es)(k:Am S T):A4 n T x e es:=by
 rcases h with h|⟨id,h1,h2,h3,h4⟩
 ·exact .inl h
 ·exact .inr ⟨id,h1,h2,Nat.lt_of_lt_of_le h3 k.1,(k.2 _ h3).trans h4⟩
theorem QV{g:Gr}(hg:g.ok){ins:List Bool}(hin:ins.length≤1000000){S:Aa}{xi:AV}(hlx:∀(T:Aa) (K:AV→Aa→Prop),AG xi T K=K (aI ins.length) T)(hsx:∀ T,Am S T→Ja T xi=some (ins.map fun b=>[aB b])):
    Ad Pg 51 [g.av,xi] S (fun r S'=>∃ x,r = .ret x∧Am S S'∧A4 S.n S' x 4 ((DX g ins).map fun b=>[aB b])):=by
 refine qD ?_
 have hlen:=hg.len
 dsimp only[m51,Fi,Lf]
 refine Ai rfl fun S1 k1 n1 o1=>?_
 rw[An (n:=2) o1 rfl]
 refine Ae (wH hg) ?_
 rw[AI,Ag]
 refine Al (fun h1=>⟨_,rfl,k1,?_⟩) (fun h1=>?_)
 ·rw[AiN]at h1
  rw[DX,h1]
  exact A4.nl _ _ _
 have h1:g.right=true:=by simpa using h1
 rw[hlx,Ac,Af o1 rfl rfl,Bi,Ag]
 refine Al (fun h2=>⟨_,rfl,k1,?_⟩) (fun h2=>?_)
 ·rw[AiN]at h2
  rw[DX,h2,Aj2]
  exact A4.nl _ _ _
 have h2:decide ((ins.length:Int)=g.inputs)=true:=by simpa using h2
 have h2':=dT h2
 have hres:DX g ins=DD g ins g.ands.length:=by rw[DX,h1,h2];rfl
 rw[Ac,Af o1 rfl rfl,Ar (by omega) (by omega),Ac,Af o1 rfl rfl,Bv,Ar (by omega) (by omega)]
 have hcap:g.inputs+1+(g.ands.length:Int)=((ins.length+1+g.ands.length:Nat):Int):=by omega
 rw[hcap]
 have hmk:∀{K:AV→Aa→Prop},Qt 4 1 [.v (.bool false)] (.v (.int .i64 1)) (aI ((ins.length+1+g.ands.length:Nat):Int)) S1 K=K (.s S1.n 0 1) (S1.new (.cells 4 (List.replicate 1 [.v (.bool false)]) true)):=yD (l:=1) (by omega) (by omega) (by omega)
 rw[hmk]
 have w2:A4 S1.n (S1.new (.cells 4 (List.replicate 1 [.v (.bool false)]) true)) (.s S1.n 0 1) 4 [[aB false]]:=.inr ⟨S1.n,rfl,Ai4 _,by simp,by rw[B0];rfl⟩
 have k2:Am S1 (S1.new (.cells 4 (List.replicate 1 [.v (.bool false)]) true)):=(Am.refl _).new _
 have n2:(S1.new (.cells 4 (List.replicate 1 [.v (.bool false)]) true)).n=S1.n+1:=rfl
 generalize S1.new (.cells 4 (List.replicate 1 [.v (.bool false)]) true)=S2 at *
 refine BM rfl fun S3 k3 n3 o3=>?_
 refine Cc o3 rfl rfl fun S4 n4 o4 f4=>?_
 have k4:Am S1 S4:=(k2.trans k3).st (by omega) n4 f4
 have w4:A4 S1.n S4 (.s S1.n 0 1) 4 [[aB false]]:=(Eg w2 k3).st (id:=S2.n) (fun b m e=>by injection e;omega) n4 f4
 rw[Af o4 rfl rfl]
 refine A4.Qk w4 k4.1 (ys:=ins.map fun b=>[aB b]) (fun c hc=>by obtain⟨p,_,rfl⟩:=AiL.1 hc;rfl) (by simp;omega) (fun z1 S5 w5 b5 hz5=>?_) (hsx _ (k1.trans k4))
 have k5:Am S1 S5:=w4.AS (Ai4 _) b5 k4
 have o5:=(b5.2 S2.n (by omega) (fun b m e=>by injection e;omega)).trans o4
 have m5:=b5.1
 have z5:∀ b m,z1≠.s S2.n b m:=fun b m e=>by
  rcases hz5 with h|⟨m',h⟩
  ·rw[h]at e;injection e;omega
  ·rw[h]at e;injection e;omega
 refine Cc o5 rfl (by rcases w5 with⟨h,_⟩|⟨_,h,_⟩<;>rw[h]<;>rfl) fun S6 n6 o6 f6=>?_
 have k6:Am S1 S6:=k5.st (by omega) n6 f6
 have w6:=w5.st (id:=S2.n) z5 n6 f6
 have p6:=(k6.2 S.n (by omega)).trans o1
 rw[Ac,Af p6 rfl rfl,Bv]
 refine ZW (fun y S'=>Am S1 S'∧S2.n<S'.n∧∃ i:Nat,y=aI i∧i≤g.ands.length∧∃ z,S'.obj S2.n=some (.cells 41 [[z]] true)∧(∀ b m,z≠.s S2.n b m)∧A4 S1.n S' z 4 ((DD g ins i).map fun b=>[aB b]))
  (fun y _=>g.ands.length - ((Aw y).getD 0).toNat) ⟨k6,by omega,0,rfl,Ai9 _,z1,o6,z5,w6⟩ ?_
 dsimp only[BS]
 rintro _ S7 ⟨k7,n7,i,rfl,hi,z,o7,hz,w7⟩ KE hKE
 dsimp only[vA,Fi,Lt]
 rw[As,Ag]
 refine Al (fun hlt=>?_) (fun hge=>?_)
 ·have hlt:i<g.ands.length:=by simpa using hlt
  obtain⟨q1,q2,q3,q4⟩:=Ze h1 hlt
  have hp:=hg.pairs _ (Ai6 hlt)
  have hget:g.ands.getD i (0,0)=g.ands[i]:=by simp[Ai2,hlt]
  have hl4:(DD g ins i).length=ins.length+1+i:=IF g ins i
  rw[Dd hlt,GO]
  generalize g.ands[i]=p at *
  refine Ai rfl fun S8 k8 n8 o8=>?_
  refine AF o8 rfl rfl fun S9 n9 o9 f9=>?_
  have k9:Am S7 S9:=k8.st (Ai4 _) n9 f9
  have w9:A4 S1.n S9 z 4 _:=Eg w7 k9
  have v9:=(k9.2 S2.n n7).trans o7
  have e1:∀(T:Aa) (K:AV→Aa→Prop),IL 2 1 (.p S7.n 0 0) (.v (.int .i64 1)) T K=K (.p S7.n 0 1) T:=fun T K=>M4 (z:=1) (by decide)
  have e0:∀(T:Aa) (K:AV→Aa→Prop),IL 2 1 (.p S7.n 0 0) (.v (.int .i64 0)) T K=K (.p S7.n 0 0) T:=fun T K=>M4 (z:=0) (by decide)
  have hadd:∀ K:AV→Aa→Prop,∀ S,bin .add 0 (.v (.int .i64 (i:Int))) (.v (.int .i64 1)) S K=K (aI (i+1:Nat)) S:=fun K S=>Ar (by omega) (by omega) 0
  have hp1:0≤p.1:=by
   rcases Int.le_total 0 p.1 with h|h
   ·exact h
   ·have:p.1.tdiv 2≤0:=by
      rw[show p.1.tdiv 2 = -((-p.1).tdiv 2)by rw[Int.neg_tdiv,Int.neg_neg],AiI (by omega)]
      omega
    omega
  have m9:S9.n=S7.n+1:=by omega
  have step:∀ b,DD g ins (i+1)=DD g ins i ++ [b]→Bo 4 1 1 z (.l [[aB b]]) S9 fun v T=>A8 1 (.p S2.n 0 0) v T fun _ T=>bin .add 0 (aI i) (.v (.int .i64 1)) T fun v' T=>KE 53 (It (.p S2.n 0 0) (.f (.func 102) [] [.p S2.n 0 0]) (pL g.ands) (aI g.ands.length) v') T:=fun b hb=>by
   refine w9.app (by have:=k7.1;omega) (c:=[aB b]) rfl (by simp;omega) (fun zz T1 wT bT hzT=>?_) rfl
   have kT:Am S1 T1:=w9.AS (Ai4 _) bT (k7.trans k9)
   have oT:=(bT.2 S2.n (by omega) (fun b m=>hz b m)).trans v9
   have mT:=bT.1
   have hzz:∀ b m,zz≠.s S2.n b m:=fun b m e=>by
    obtain⟨m',h⟩:=hzT
    rw[h]at e;injection e;omega
   refine Cc oT rfl (by rcases wT with⟨h,_⟩|⟨_,h,_⟩<;>rw[h]<;>rfl) fun T2 nT o2 f2=>?_
   rw[hadd]
   refine hKE _ _ ⟨kT.st (by omega) nT f2,by omega,i+1,rfl,hlt,zz,o2,hzz,?_⟩ (by simp[Aw];omega)
   rw[hb,AiB]
   exact wT.st (id:=S2.n) hzz nT f2
  refine⟨_,fun T hT=>by rw[Af (Kg hT v9) rfl rfl];exact⟨rfl,rfl⟩,_,fun T hT=>by rw[e0];exact⟨rfl,rfl⟩,_,fun T hT=>by rw[Af (Kg hT o9) rfl rfl];exact⟨rfl,rfl⟩,
   _,fun T hT=>BL (wG hp1 (by rw[hl4];omega) (Kg hT v9) (Eg w9 hT)) ⟨rfl,rfl⟩,?_⟩
  rw[Ag]
  refine Al (fun h3=>?_) (fun h3=>?_)
  ·refine⟨_,fun T hT=>by rw[e1];exact⟨rfl,rfl⟩,_,fun T hT=>by rw[Af (Kg hT o9) rfl rfl];exact⟨rfl,rfl⟩,
     _,fun T hT=>BL (wG (by omega) (by rw[hl4];omega) (Kg hT v9) (Eg w9 hT)) ⟨rfl,rfl⟩,_,fun T hT=>⟨rfl,rfl⟩,_,fun T hT=>BQ rfl (fun _ h=>by cases h) ⟨rfl,rfl⟩,?_⟩
   refine step _ ?_
   simp only[DD,hget]
   rw[h3,Ai7]
  ·refine⟨_,fun T hT=>⟨rfl,rfl⟩,_,fun T hT=>BQ rfl (fun _ h=>by cases h) ⟨rfl,rfl⟩,?_⟩
   refine step _ ?_
   simp only[DD,hget]
   rw[h3,AiC]
 ·have hge:i=g.ands.length:=by simp at hge;omega
  subst hge
  rw[hres,Af o7 rfl rfl]
  exact⟨_,rfl,k1.trans k7,w7.low (by omega)⟩
theorem Dy{α:Type}{f:α→Value}{P:Program}{fn:FuncId}{args:List AV}{S:Aa}{e:Nat}{l:List α}(h:Ad P fn args S (fun r S'=>∃ x,r = .ret x∧Am S S'∧A4 S.n S' x e (l.map fun a=>[.v (f a)]))):AW P fn args S (aL (fun a=>.v (f a)) l):=
 Ad.tree (h.mono fun r S' ⟨x,h1,h2,h3⟩=>⟨x,h1,h2,h3.oC⟩)
def Jm(n:Int)(i:Nat):Bool:=decide (n.fdiv (2 ^ i) % 2=1)
def Cw(n:Int)(many:Nat):List Bool:=(List.range many).map (Jm n)
@[simp] theorem IE(n:Int)(m:Nat):(Cw n m).length=m:=by simp[Cw]
theorem Uh(n:Int)(m:Nat):Cw n (m+1)=Cw n m ++ [Jm n m]:=by simp[Cw,AiP]
theorem HY{a:Int}{i:Nat}(h:i≤64){S:Aa}{K:AV→Aa→Prop}:bin .shr 0 (aI a) (aI i) S K=K (aI (a.fdiv (2 ^ i))) S:=by
 rw[Qa (by omega),show min (Int.toNat i) IntKind.i64.bits=i by rw[AiJ];exact Nat.min_eq_left h]
theorem Ac1(s:Int){m:Nat}(hm:m≤64):s7 47 [aI s,aI m] (Cw s m):=by
 intro S
 refine qH ?_
 unfold m47
 refine ZZ (fun y z S'=>Am S S'∧∃ i:Nat,z=aI i∧i≤m∧A4 S.n S' y 4 ((Cw s i).map fun b=>[aB b]))
  (fun _ z _=>m - ((Aw z).getD 0).toNat) ⟨Am.refl _,0,rfl,Ai9 _,A4.nl _ _ _⟩ ?_
 dsimp only[DE]
 rintro y _ S1 ⟨k1,i,rfl,hi,w1⟩ KE hKE
 dsimp only[vC,Fi]
 rw[As,Ag]
 refine Al (fun hlt=>?_) (fun hge=>?_)
 ·have hlt:i<m:=by simpa using hlt
  rw[HY (by omega),Fg,AD]
  refine BQ rfl (fun _ h=>by cases h) ?_
  refine w1.app k1.1 (c:=[aB (Jm s i)]) rfl (by simp;omega) (fun z5 S5 w5 b5 hz5=>?_) rfl
  have hadd:∀ K:AV→Aa→Prop,∀ S,bin .add 0 (.v (.int .i64 (i:Int))) (.v (.int .i64 1)) S K=K (aI (i+1:Nat)) S:=fun K S=>Ar (by omega) (by omega) 0
  rw[hadd]
  refine hKE _ _ _ ⟨w1.AS (Ai4 _) b5 k1,i+1,rfl,hlt,?_⟩ (by simp[Aw];omega)
  rw[Uh,AiB]
  exact w5
 ·have hge:i=m:=by simp at hge;omega
  subst hge
  exact⟨_,rfl,k1,w1⟩
def DT (c:Ci) (s l:Int):Bool:=c.right && (decide (c.gr.inputs≤60) && c.gr.eval l (Cw s c.gr.inputs.toNat))
theorem SM{x:AV}{l:List AV}{S:Aa}{K:AV→Aa→Prop}:IT (.a (x :: l)) 0 S K=K x S:=by simp[IT,IS]
theorem CJ{c:Ci}(h:c.right=true):c.gr.inputs=c.inputs+c.latches.length∧0≤c.gr.inputs∧c.gr.inputs≤2000:=by
 obtain⟨⟨h1,h2⟩,h3,_,_,_,_,h4,_⟩:=Bp.1 h
 have h5:=CF.1 h4
 refine⟨?_,h5.1,h5.2.1⟩
 show IntKind.i64.wrap (c.inputs+c.latches.length)=_
 exact wrap64 (by omega) (by omega)
theorem I5{c:Ci}(hc:c.ok){s l:Int}(hl:By l):BH Pg 27 [c.av,aI s,aI l] (aB (DT c s l)):=by
 intro S
 refine Ad.Bt (qZ ?_)
 dsimp only[m27,Fi,Lq,Ld]
 refine Ai rfl fun S1 k1 n1 o1=>?_
 rw[An (n:=8) o1 rfl]
 refine Ae (VP hc) ?_
 rw[AI,Ag]
 refine Al (fun h1=>⟨?_,k1⟩) (fun h1=>?_)
 ·rw[AiN]at h1
  simp[DT,h1]
 have h1:c.right=true:=by simpa using h1
 obtain⟨g1,g2,g3⟩:=CJ h1
 rw[An (n:=8) o1 rfl]
 refine Ae (Nl c) ?_
 unfold Gr.av Gr.cells
 rw[SM,AP,Ag]
 refine Al (fun h2=>⟨?_,k1⟩) (fun h2=>?_)
 ·have h2:=dT h2
  simp[DT,show ¬ c.gr.inputs≤60 by omega]
 have h2:=dF h2
 obtain⟨m,hm⟩:=AiE g2
 show ∃ q11:AV,_
 refine⟨_,by rw[An (n:=8) o1 rfl];exact⟨rfl,rfl⟩,?_⟩
 refine⟨_,Ae (Nl c) ⟨rfl,rfl⟩,?_⟩
 refine⟨_,by rw[An (n:=8) o1 rfl];exact⟨rfl,rfl⟩,?_⟩
 refine⟨_,Ae (Nl c) ⟨rfl,rfl⟩,?_⟩
 refine⟨aI m,by unfold Gr.av Gr.cells;rw[SM,hm];exact⟨rfl,rfl⟩,?_⟩
 refine⟨_,Ae (Ac1 s (by omega)).NF ⟨rfl,rfl⟩,?_⟩
 refine⟨_,Ae (AgC hc.gr hl (ins:=Cw s m) (by simp;omega)) ⟨rfl,rfl⟩,?_⟩
 refine⟨?_,k1⟩
 simp only[DT,h1,Ai7,show c.gr.inputs≤60 by omega,decide_true]
 rw[hm,AiJ]
def Ds (c:Ci) (s:Int):Nat→Int
 |0=>0
 |i+1=>if DT c s (c.latches.getD i (0,0)).1=true then Ds c s i+2 ^ (c.inputs.toNat+i)else Ds c s i
def G9 (c:Ci) (s:Int):Int:=if(c.right && decide (c.gr.inputs≤60))=true then Ds c s c.latches.length else 0
theorem Np(c:Ci)(s:Int):∀ i,0≤Ds c s i∧Ds c s i<2 ^ (c.inputs.toNat+i)
 |0=>⟨Int.le_refl _,Int.pow_pos (by decide)⟩
 |i+1=>by
  have⟨h1,h2⟩:=Np c s i
  have h3:(2:Int) ^ (c.inputs.toNat+(i+1))=2*2 ^ (c.inputs.toNat+i):=by rw[←Nat.add_assoc,Int.pow_succ];omega
  have h4:(0:Int)<2 ^ (c.inputs.toNat+i):=Int.pow_pos (by decide)
  unfold Ds
  split<;>constructor<;>omega
theorem QS{n:Nat}(h:n≤60):(2:Int) ^ n≤1152921504606846976:=by
 have h1:2 ^ n≤2 ^ 60:=AiY (by decide) h
 have h2:((2 ^ n:Nat):Int)≤((2 ^ 60:Nat):Int):=Int.ofNat_le.2 h1
 rw[AjJ]at h2
 exact h2
theorem Dl{i:Nat}(h:i≤60){S:Aa}{K:AV→Aa→Prop}:bin .shl 0 (.v (.int .i64 1)) (aI i) S K=K (aI (2 ^ i)) S:=by
 have h2:¬ ((i:Int)<0):=by omega
 have h3:min (Int.toNat i) IntKind.i64.bits=i:=by rw[AiJ];exact Nat.min_eq_left (by show i≤64;omega)
 have h4:=QS h
 have h5:(0:Int)<2 ^ i:=Int.pow_pos (by decide)
 show BK (b2 .shl 0 (.int .i64 1) (.int .i64 i)) _=_
 have:b2 .shl 0 (.int .i64 1) (.int .i64 i)=some (.int .i64 (2 ^ i)):=by
  simp only[b2,HI,shI,if_neg h2,h3,Int.one_mul]
  rw[wrap64 (by omega) (by omega)]
  rfl
 rw[this,BO]
theorem jR{c:Ci}(hc:c.ok)(s:Int):BH Pg 28 [c.av,aI s] (aI (G9 c s)):=by
 intro S
 refine Ad.Bt (qY ?_)
 have hll:=hc.llen
 dsimp only[m28,Fi]
 refine Ai rfl fun S1 k1 n1 o1=>?_
 rw[An (n:=8) o1 rfl]
 refine Ae (VP hc) ?_
 rw[AI,Ag]
 refine Al (fun h1=>⟨?_,k1⟩) (fun h1=>?_)
 ·rw[AiN]at h1
  simp[G9,h1]
 have h1:c.right=true:=by simpa using h1
 obtain⟨g1,g2,g3⟩:=CJ h1
 have hin:=(Bp.1 h1).1
 rw[An (n:=8) o1 rfl]
 refine Ae (Nl c) ?_
 unfold Gr.av Gr.cells
 rw[SM,AP,Ag]
 refine Al (fun h2=>⟨?_,k1⟩) (fun h2=>?_)
 ·have h2:=dT h2
  simp[G9,show ¬ c.gr.inputs≤60 by omega]
 have h2:=dF h2
 have hres:G9 c s=Ds c s c.latches.length:=by
  simp only[G9,h1,Ai7,show c.gr.inputs≤60 by omega,decide_true,if_true]
 obtain⟨m,hm⟩:=AiE hin.1
 refine aE (fun y z S'=>S'=S1∧∃ i:Nat,z=aI i∧i≤c.latches.length∧y=aI (Ds c s i))
  (fun _ z _=>c.latches.length - ((Aw z).getD 0).toNat) ⟨rfl,0,rfl,Ai9 _,rfl⟩ ?_
 dsimp only[DE]
 rintro _ _ S1 ⟨rfl,i,rfl,hi,rfl⟩ KE hKE
 dsimp only[vQ,Fi,Lf,Lq,Ld]
 rw[Ac,Af o1 rfl rfl,Bv,As,Ag]
 refine Al (fun hlt=>?_) (fun hge=>?_)
 ·have hlt:i<c.latches.length:=by simpa using hlt
  have hget:c.latches.getD i (0,0)=c.latches[i]:=by simp[Ai2,hlt]
  have hadd:∀ K:AV→Aa→Prop,∀ S,bin .add 0 (.v (.int .i64 (i:Int))) (.v (.int .i64 1)) S K=K (aI (i+1:Nat)) S:=fun K S=>Ar (by omega) (by omega) 0
  have hμ:c.latches.length - ((Aw (aI (i+1:Nat))).getD 0).toNat<c.latches.length - ((Aw (aI i)).getD 0).toNat:=by simp[Aw];omega
  show ∃ q16:AV,_
  refine⟨_,by rw[An (n:=8) o1 rfl];exact⟨rfl,rfl⟩,?_⟩
  refine⟨_,by rw[Ac];exact⟨rfl,rfl⟩,?_⟩
  refine⟨_,by rw[Af o1 rfl rfl];exact⟨rfl,rfl⟩,?_⟩
  refine⟨_,by rw[Dd hlt];exact⟨rfl,rfl⟩,?_⟩
  refine⟨_,by rw[Fu];exact⟨rfl,rfl⟩,?_⟩
  refine⟨_,by rw[E0 (u:=aI c.latches[i].1) rfl];exact⟨rfl,rfl⟩,?_⟩
  refine⟨_,Ae (I5 hc (hc.lats _ (Ai6 hlt)).1) ⟨rfl,rfl⟩,?_⟩
  rw[Ag]
  refine Al (fun h3=>?_) (fun h3=>?_)
  ·have hb:=Np c s i
   have hp:=QS (n:=c.inputs.toNat+i) (by omega)
   rw[Ac,Af o1 rfl rfl,Ar (by omega) (by omega)]
   have e:c.inputs+(i:Int)=((c.inputs.toNat+i:Nat):Int):=by omega
   rw[e,Dl (by omega),Ar (by omega) (by omega),hadd]
   exact hKE _ _ _ ⟨rfl,i+1,rfl,hlt,by rw[Ds,hget,if_pos h3]⟩ hμ
  ·rw[hadd]
   exact hKE _ _ _ ⟨rfl,i+1,rfl,hlt,by rw[Ds,hget,h3];rfl⟩ hμ
 ·have hge:i=c.latches.length:=by simp at hge;omega
  subst hge
  rw[hres]
  exact⟨rfl,k1⟩
theorem orN{a b:Nat}(ha:a<4611686018427387904)(hb:b<4611686018427387904)(h:a ||| b<4611686018427387904){S:Aa}{K:AV→Aa→Prop}:bin .or 0 (aI a) (aI b) S K=K (aI (a ||| b:Nat)) S:=by
 show BK (b2 .or 0 (.int .i64 a) (.int .i64 b)) _=_
 have:b2 .or 0 (.int .i64 a) (.int .i64 b)=some (.int .i64 (a ||| b:Nat)):=by
  show(some (Int.ofNat 0)).bind (fun _=>some (Value.int .i64 (IntKind.i64.wrap (BitVec.ofInt 64 a ||| BitVec.ofInt 64 b).toNat)))=_
  have h1:(BitVec.ofInt 64 (a:Int)).toNat=a:=by rw[BitVec.toNat_ofInt];omega
  have h2:(BitVec.ofInt 64 (b:Int)).toNat=b:=by rw[BitVec.toNat_ofInt];omega
  rw[BitVec.toNat_or,h1,h2,wrap64 (by omega) (by omega)]
  rfl
 rw[this,BO]
theorem SO{k q b:Nat}(h:b<2 ^ k):2 ^ k*q ||| b=2 ^ k*q+b:=(Nat.two_pow_add_eq_or_of_lt h q).symm
theorem X5{n:Nat}(h:n≤60):2 ^ n≤1152921504606846976:=AiY (by decide) h
theorem Ui{a:Int}{k:Nat}(h0:0≤a)(h1:a<2 ^ k)(hk:k≤60){S:Aa}{K:AV→Aa→Prop}:bin .or 0 (aI a) (aI (2 ^ k)) S K=K (aI (a+2 ^ k)) S:=by
 obtain⟨n,rfl⟩:=AiE h0
 have hp:=X5 hk
 have e:((2:Int) ^ k)=((2 ^ k:Nat):Int):=by rw[AjJ];rfl
 rw[e]at h1 ⊢
 have hn:n<2 ^ k:=by omega
 have ho:n ||| 2 ^ k=n+2 ^ k:=by
  rw[Nat.or_comm]
  have:=SO (k:=k) (q:=1) hn
  rw[Nat.mul_one]at this
  rw[this];omega
 rw[orN (by omega) (by omega) (by rw[ho];omega),ho,Int.natCast_add]
theorem Nh{q x k:Nat}(h1:x<2 ^ k)(h2:2 ^ k*q+x<4611686018427387904){S:Aa}{K:AV→Aa→Prop}:bin .or 0 (aI (2 ^ k*q:Nat)) (aI x) S K=K (aI (2 ^ k*q+x:Nat)) S:=by
 rw[orN (by omega) (by omega) (by rw[SO h1];omega),SO h1]
structure Mk (c:Ci) (vals:List (List Bool)) (n mid t:Nat) (S:Aa):Prop where
 lt:mid<S.n
 z:∃ z,S.obj mid=some (.cells t [c.cells++c.gr.cells ++ [z]] true)∧A4 n S z 41 (vals.map fun v=>[aL aB v])
theorem Mk.AS{c:Ci}{vals:List (List Bool)}{n mid t:Nat}{S T:Aa}(h:Mk c vals n mid t S)(k:Am S T):Mk c vals n mid t T:=by
 obtain⟨z,h1,h2⟩:=h.z
 exact⟨Nat.lt_of_lt_of_le h.lt k.1,z,(k.2 _ h.lt).trans h1,Eg h2 k⟩
section
variable {c:Ci} {vals:List (List Bool)} {n mid t:Nat} {S:Aa}
theorem zK(h:Mk c vals n mid t S){s:Nat}(hs:s<vals.length){l:Int}(hl:By l)(h0:0≤l)(h1:l.tdiv 2<(vals.getD s []).length):AW Pg 57 [.p mid 0 0,aI s,aI l] S (aB (Ei (vals.getD s []) l)):=by
 refine pY ?_
 dsimp only[m57,Lf]
 obtain⟨z,hz,hw⟩:=h.z
 rw[AH,Ac,Af hz rfl rfl]
 obtain⟨id,rfl,h2,h3,h4⟩:=hw.ix (i:=s) (by simpa using hs)
 rw[show vals.getD s []=vals[s]by simp[Ai2,hs]]at h1 ⊢
 rw[Cl (by simpa using hs) h4,Af h4 (by rw[AiG,AiH,Ai3 hs];rfl) rfl,Cg hl]
 refine GQ (Int.tdiv_nonneg h0 (by decide)) h1 _ ?_
 rw[Fg,AD,CV]
 refine⟨?_,rfl⟩
 rw[Ei,show l.tmod 2=l % 2 from AiX h0]
theorem Ag1(h:Mk c vals n mid t S){s:Nat}(hs:s<vals.length){l:Int}(hl:By l)(h0:0≤l)(h1:l.tdiv 2<(vals.getD s []).length){a b ta tb:Nat}(ha:S.obj a=some (.cells ta [[.p mid 0 0]] true))(hb:S.obj b=some (.cells tb [[aI s]] true)):
    AW Pg 103 [aI l,.p a 0 0,.p b 0 0] S (aB (!Ei (vals.getD s []) l)):=by
 refine fM ?_
 unfold AeZ
 rw[Af ha rfl rfl,Af hb rfl rfl]
 refine Au (zK h hs hl h0 h1) ?_
 rw[AI]
 exact⟨rfl,rfl⟩
def Qr(l:List Int)(v:List Bool):Prop:=∀ x∈l,By x∧0≤x∧x.tdiv 2<v.length
theorem AhS(h:Mk c vals n mid t S){s:Nat}(hs:s<vals.length)(hl:Qr c.cons (vals.getD s []))(hn:c.cons.length≤9223372036854775807):AW Pg 53 [.p mid 0 0,aI s] S (aB (c.cons.all (Ei (vals.getD s [])))):=by
 refine Ad.Bt (qB ?_)
 dsimp only[m53,Lf]
 refine BM rfl fun S1 k1 n1 o1=>?_
 refine BM rfl fun S2 k2 n2 o2=>?_
 have o1':=(k2.2 S.n (by omega)).trans o1
 have h2:=h.AS (k1.trans k2)
 obtain⟨z,hz,_⟩:=h2.z
 rw[Af o1' rfl rfl,AH,Ac,Ac,Af hz rfl rfl]
 refine Au (VJ hn (g:=fun x=>!Ei (vals.getD s []) x) (fun x hx=>Ag1 h2 hs (hl x hx).1 (hl x hx).2.1 (hl x hx).2.2 o1' o2)) ?_
 rw[AI,VK,Bool.not_not]
 exact⟨rfl,k1.trans k2⟩
def CB(c:Ci)(v:List Bool):Nat→Int
 |0=>0
 |i+1=>if Ei v (c.latches.getD i (0,0)).1=true then CB c v i+2 ^ (c.inputs.toNat+i)else CB c v i
theorem K8(c:Ci)(v:List Bool):∀ i,0≤CB c v i∧CB c v i<2 ^ (c.inputs.toNat+i)
 |0=>⟨Int.le_refl _,Int.pow_pos (by decide)⟩
 |i+1=>by
  have⟨h1,h2⟩:=K8 c v i
  have h3:(2:Int) ^ (c.inputs.toNat+(i+1))=2*2 ^ (c.inputs.toNat+i):=by rw[←Nat.add_assoc,Int.pow_succ];omega
  have h4:(0:Int)<2 ^ (c.inputs.toNat+i):=Int.pow_pos (by decide)
  unfold CB
  split<;>constructor<;>omega
theorem Ag0(h:Mk c vals n mid t S)(h0:0≤c.inputs)(h60:c.inputs+c.latches.length≤60){s:Nat}(hs:s<vals.length)(hl:Qr (c.latches.map (·.1)) (vals.getD s [])):AW Pg 104 [.p mid 0 0,aI s] S (aI (CB c (vals.getD s []) c.latches.length)):=by
 refine Ad.Bt (fL ?_)
 dsimp only[AeY,Lf]
 obtain⟨z,hz,_⟩:=h.z
 rw[AH,Ac,Ac,Af hz rfl rfl,Bv]
 refine Xf (fun y w S'=>Am S S'∧∃ i:Nat,w=aI i∧i≤c.latches.length∧y=aI (CB c (vals.getD s []) i))
  (fun _ w _=>c.latches.length - ((Aw w).getD 0).toNat) ⟨Am.refl _,0,rfl,Ai9 _,rfl⟩ ?_
 dsimp only[DE]
 rintro _ _ S1 ⟨k1,i,rfl,hi,rfl⟩ KE hKE
 dsimp only[iW,Fi,Lf]
 rw[As,Ag]
 refine Al (fun hlt=>?_) (fun hge=>?_)
 ·have hlt:i<c.latches.length:=by simpa using hlt
  have hget:c.latches.getD i (0,0)=c.latches[i]:=by simp[Ai2,hlt]
  have hadd:∀ K:AV→Aa→Prop,∀ S,bin .add 0 (.v (.int .i64 (i:Int))) (.v (.int .i64 1)) S K=K (aI (i+1:Nat)) S:=fun K S=>Ar (by omega) (by omega) 0
  have hμ:c.latches.length - ((Aw (aI (i+1:Nat))).getD 0).toNat<c.latches.length - ((Aw (aI i)).getD 0).toNat:=by simp[Aw];omega
  have hli:=hl _ (List.mem_map_of_mem (Ai6 hlt))
  rw[Dd hlt,GO]
  refine Ai rfl fun S2 k2 n2 o2=>?_
  refine AF o2 rfl rfl fun S3 n3 o3 f3=>?_
  have k3:Am S S3:=(k1.trans k2).st k1.1 n3 f3
  have h3:=h.AS k3
  obtain⟨z3,hz3,_⟩:=h3.z
  rw[Ac,Af o3 rfl rfl]
  refine Au (zK h3 hs hli.1 hli.2.1 hli.2.2) ?_
  rw[Ag]
  refine Al (fun h4=>?_) (fun h4=>?_)
  ·have hb:=K8 c (vals.getD s []) i
   rw[AH,Ac,Ac,Af hz3 rfl rfl,Ar (by omega) (by omega)]
   have e:c.inputs+(i:Int)=((c.inputs.toNat+i:Nat):Int):=by omega
   rw[e,Dl (by omega),Ui hb.1 hb.2 (by omega),hadd]
   exact hKE _ _ _ ⟨k3,i+1,rfl,hlt,by rw[CB,hget,if_pos h4]⟩ hμ
  ·rw[hadd]
   exact hKE _ _ _ ⟨k3,i+1,rfl,hlt,by rw[CB,hget,h4];rfl⟩ hμ
 ·have hge:i=c.latches.length:=by simp at hge;omega
  subst hge
  exact⟨rfl,k1⟩
def Hl(c:Ci)(s:Int):Bool:=(List.range c.latches.length).all fun i=>decide ((c.latches.getD i (0,0)).2=2) || decide (s.fdiv (2 ^ (c.inputs.toNat+i)) % 2=(c.latches.getD i (0,0)).2)
theorem AhQ(h:Mk c vals n mid t S)(h0:0≤c.inputs)(h60:c.inputs+c.latches.length≤60)(s:Int):AW Pg 55 [.p mid 0 0,aI s] S (aB (Hl c s)):=by
 refine Ad.Bt (p9 ?_)
 dsimp only[m55,Lf]
 obtain⟨z,hz,_⟩:=h.z
 rw[AH,Ac,Ac,Af hz rfl rfl,Bv]
 refine ZU (fun w S'=>Am S S'∧∃ i:Nat,w=aI i∧i≤c.latches.length∧∀ j,j<i→(decide ((c.latches.getD j (0,0)).2=2) || decide (s.fdiv (2 ^ (c.inputs.toNat+j)) % 2=(c.latches.getD j (0,0)).2))=true)
  (fun w _=>c.latches.length - ((Aw w).getD 0).toNat) ⟨Am.refl _,0,rfl,Ai9 _,fun j hj=>(AiF _ hj).elim⟩ ?_
 dsimp only[BS]
 rintro _ S1 ⟨k1,i,rfl,hi,hok⟩ KE hKE
 dsimp only[u7,Fi,Lq]
 rw[As,Ag]
 refine Al (fun hlt=>?_) (fun hge=>?_)
 ·have hlt:i<c.latches.length:=by simpa using hlt
  have hget:c.latches.getD i (0,0)=c.latches[i]:=by simp[Ai2,hlt]
  have hadd:∀ K:AV→Aa→Prop,∀ S,bin .add 0 (.v (.int .i64 (i:Int))) (.v (.int .i64 1)) S K=K (aI (i+1:Nat)) S:=fun K S=>Ar (by omega) (by omega) 0
  have hno:(decide ((c.latches.getD i (0,0)).2=2) || decide (s.fdiv (2 ^ (c.inputs.toNat+i)) % 2=(c.latches.getD i (0,0)).2))=false→Hl c s=false:=fun hh=>by
   rw[Hl,Aj4]
   exact⟨i,by simpa using hlt,by rw[hh];decide⟩
  rw[Dd hlt,GO]
  rw[hget]at hno
  have hnext:∀{T:Aa},Am S T→(decide (c.latches[i].2=2) || decide (s.fdiv (2 ^ (c.inputs.toNat+i)) % 2=c.latches[i].2))=true→KE 37 (Is (.p mid 0 0) (aI s) (pL c.latches) (aI c.latches.length) (aI (i+1:Nat))) T:=fun{T} kT hh=>hKE _ _ ⟨kT,i+1,rfl,hlt,fun j hj=>by
   rcases AiS j i with h'|h'
   ·exact hok j h'
   ·have:j=i:=by omega
    subst this
    rw[hget];exact hh⟩ (by simp[Aw];omega)
  generalize c.latches[i]=x at *
  refine Ai rfl fun S2 k2 n2 o2=>?_
  refine AF o2 rfl rfl fun S3 n3 o3 f3=>?_
  have k3:Am S S3:=(k1.trans k2).st k1.1 n3 f3
  obtain⟨z3,hz3,_⟩:=(h.AS k3).z
  have e:c.inputs+(i:Int)=((c.inputs.toNat+i:Nat):Int):=by omega
  show ∃ q12:AV,_
  refine⟨_,by rw[Ac];exact⟨rfl,rfl⟩,?_⟩
  refine⟨_,by rw[Af o3 rfl rfl];exact⟨rfl,rfl⟩,?_⟩
  refine⟨_,by rw[Bi];exact⟨rfl,rfl⟩,?_⟩
  rw[Ag]
  refine Al (fun h4=>?_) (fun h4=>?_)
  ·have h4:¬ x.2=2:=by simpa using h4
   refine⟨_,by rw[AH];exact⟨rfl,rfl⟩,?_⟩
   refine⟨_,by rw[Ac];exact⟨rfl,rfl⟩,?_⟩
   refine⟨_,by rw[Ac];exact⟨rfl,rfl⟩,?_⟩
   refine⟨_,by rw[Af hz3 rfl rfl];exact⟨rfl,rfl⟩,?_⟩
   refine⟨aI ((c.inputs.toNat+i:Nat):Int),by rw[Ar (by omega) (by omega),e];exact⟨rfl,rfl⟩,?_⟩
   refine⟨_,by rw[HY (by omega)];exact⟨rfl,rfl⟩,?_⟩
   refine⟨_,by rw[Fg];exact⟨rfl,rfl⟩,?_⟩
   refine⟨_,by rw[Ac];exact⟨rfl,rfl⟩,?_⟩
   refine⟨_,by rw[Af o3 rfl rfl];exact⟨rfl,rfl⟩,?_⟩
   refine⟨_,by rw[Bi];exact⟨rfl,rfl⟩,?_⟩
   refine⟨_,⟨rfl,rfl⟩,?_⟩
   rw[Ag]
   refine Al (fun h5=>⟨?_,k3⟩) (fun h5=>?_)
   ·have h5:¬ s.fdiv (2 ^ (c.inputs.toNat+i)) % 2=x.2:=by simpa using h5
    rw[hno (by simp only[h4,h5,decide_false,Bool.or_self])]
   ·have h5:s.fdiv (2 ^ (c.inputs.toNat+i)) % 2=x.2:=by simpa using h5
    rw[hadd]
    exact hnext k3 (by simp only[h5,decide_true,Bool.or_true])
  ·have h4:x.2=2:=by simpa using h4
   refine⟨_,⟨rfl,rfl⟩,?_⟩
   rw[Ag,AZ,hadd]
   exact hnext k3 (by simp only[h4,decide_true,Bool.true_or])
 ·have hge:i=c.latches.length:=by simp at hge;omega
  subst hge
  refine⟨?_,k1⟩
  have:Hl c s=true:=by
   rw[Hl,AiD]
   exact fun j hj=>hok j (by simpa using hj)
  rw[this]
end
theorem H9{α:Type}{n i:Nat}{f f':Nat→α}(hi:i<n)(h:∀ k,k≠i→f' k=f k):((List.range n).map f).set i (f' i)=(List.range n).map f':=by
 apply List.ext_getElem
 ·simp
 ·intro k h1 h2
  rw[List.getElem_set]
  split
  ·rename_i e
   subst e
   simp
  ·rename_i e
   simp[h k (fun h=>e h.symm)]
section
variable {c:Ci} {vals:List (List Bool)} {n mid t:Nat} {S:Aa}
theorem nX(h:Mk c vals n mid t S)(hv:vals.length≤1000000){F:FuncId}{fs cs:List AV}{g:Nat→Bool}(hf:∀ T,Am S T→∀ i,i<vals.length→AW Pg F (fs ++ [aI i]++cs) T (aB (g i))):
    Ad Pg 52 [.p mid 0 0,.f (.func F) fs cs] S (fun r S'=>∃ x,r = .ret x∧Am S S'∧A4 S.n S' x 4 (((List.range vals.length).map g).map fun b=>[aB b])):=by
 refine qC ?_
 dsimp only[m52,Lf]
 obtain⟨z,hz,hw⟩:=h.z
 rw[AH,Ac,Af hz rfl rfl,hw.len,Ai8]
 refine Ll (by omega) (by omega) fun S1 k1 n1 o1=>?_
 rw[Dv]
 have hrep:List.replicate vals.length [AV.v (.bool false)]=(List.range vals.length).map fun k=>[aB (if k<0 then g k else false)]:=by
  apply List.ext_getElem
  ·simp
  ·intro k h1 h2
   simp
 rw[hrep]at o1
 refine ZV (fun w S'=>Am S S'∧S.n<S'.n∧∃ i:Nat,w=aI i∧i≤vals.length∧S'.obj S.n=some (.cells 4 ((List.range vals.length).map fun k=>[aB (if k<i then g k else false)]) true))
  (fun w _=>vals.length - ((Aw w).getD 0).toNat) ⟨k1,by omega,0,rfl,Ai9 _,o1⟩ ?_
 dsimp only[BS]
 rintro _ S2 ⟨k2,n2,i,rfl,hi,o2⟩ KE hKE
 dsimp only[u9,Fi]
 rw[As,Ag]
 refine Al (fun hlt=>?_) (fun hge=>?_)
 ·have hlt:i<vals.length:=by simpa using hlt
  refine BL (hf S2 k2 i hlt) ?_
  rw[Cl hlt o2]
  refine Cc o2 (u0:=aB (if i<i then g i else false)) (by rw[AiG];simp[hlt]) rfl fun S3 n3 o3 f3=>?_
  rw[Ar (by omega) (by omega)]
  refine hKE _ _ ⟨k2.st (Ai4 _) n3 f3,by omega,i+1,rfl,hlt,?_⟩ (by simp[Aw];omega)
  rw[o3,AiG]
  have:=H9 (n:=vals.length) (i:=i) (f:=fun k=>[aB (if k<i then g k else false)]) (f':=fun k=>[aB (if k<i+1 then g k else false)]) hlt (fun k hk=>by
   have:(k<i+1)=(k<i):=by apply propext;omega
   simp only[this])
  rw[←this]
  simp
 ·have hge:i=vals.length:=by simp at hge;omega
  subst hge
  refine⟨_,rfl,k2,.inr ⟨S.n,by simp,Ai4 _,n2,?_⟩⟩
  rw[o2,AjC]
  congr 2
  apply Aj9
  intro k hk
  simp[Aj5.1 hk]
theorem Fj(c:Ci)(v:List Bool):∀ i,∃ q:Nat,q<2 ^ i∧CB c v i=((2 ^ c.inputs.toNat*q:Nat):Int)
 |0=>⟨0,by decide,by simp[CB]⟩
 |i+1=>by
  obtain⟨q,h1,h2⟩:=Fj c v i
  have h3:2 ^ (i+1)=2*2 ^ i:=by rw[Nat.pow_succ];omega
  unfold CB
  split
  ·refine⟨q+2 ^ i,by omega,?_⟩
   rw[h2,Nat.mul_add,←Nat.pow_add,Int.natCast_add,AjJ]
   rfl
  ·exact⟨q,by omega,h2⟩
def DI(c:Ci)(v vs:List Bool):List Int:=((List.range (2 ^ c.inputs.toNat)).filter fun x=>vs.getD ((CB c v c.latches.length).toNat+x) false).map fun x:Nat=>CB c v c.latches.length+(x:Int)
theorem mD(h:Mk c vals n mid t S)(h0:0≤c.inputs)(h60:c.inputs+c.latches.length≤20){s:Nat}(hs:s<vals.length)(hl:Qr (c.latches.map (·.1)) (vals.getD s []))
    {vs:List Bool} (hvl:vs.length=2 ^ (c.inputs.toNat+c.latches.length)) (hsv:s<vs.length):
    Ad Pg 58 [.p mid 0 0,aI s,aL aB vs] S (fun r S'=>∃ x,r = .ret x∧Am S S'∧A4 S.n S' x 3 ((if vs.getD s false=true then DI c (vals.getD s []) vs else[]).map fun i=>[aI i])):=by
 refine pX ?_
 dsimp only[m58,Fi,Lf]
 refine GQ (by omega) (by omega) _ ?_
 rw[AI,Ag,AiJ]
 refine Al (fun h1=>⟨_,rfl,Am.refl _,?_⟩) (fun h1=>?_)
 ·rw[AiN]at h1
  rw[if_neg (by rw[h1];decide)]
  exact A4.nl _ _ _
 have h1:vs.getD s false=true:=by simpa using h1
 rw[if_pos h1]
 refine Au (Ag0 h h0 (by omega) hs hl) ?_
 obtain⟨z,hz,_⟩:=h.z
 obtain⟨m,hm⟩:=AiE h0
 have hmt:c.inputs.toNat=m:=by rw[hm];rfl
 rw[AH,Ac,Ac,Af hz rfl rfl]
 rw[show aI c.inputs=aI (m:Int)by rw[hm]]
 rw[Dl (by omega)]
 obtain⟨q,hq,hA⟩:=Fj c (vals.getD s []) c.latches.length
 rw[hmt]at hA
 have e2:((2:Int) ^ m)=((2 ^ m:Nat):Int):=by rw[AjJ];rfl
 have hpm:2 ^ m≤1048576:=AiY (by decide) (show m≤20 by omega)
 have hpt:2 ^ (m+c.latches.length)≤1048576:=AiY (by decide) (show m+c.latches.length≤20 by omega)
 have hb:∀ x,x<2 ^ m→2 ^ m*q+x<2 ^ (m+c.latches.length):=fun x hx=>by
  have:2 ^ m*(q+1)≤2 ^ m*2 ^ c.latches.length:=Nat.mul_le_mul_left _ hq
  rw[←Nat.pow_add]at this
  rw[Nat.mul_add,Nat.mul_one]at this
  omega
 rw[hmt]at hvl
 rw[e2,hA]
 have hN:DI c (vals.getD s []) vs=((List.range (2 ^ m)).filter fun x=>vs.getD (2 ^ m*q+x) false).map fun x=>((2 ^ m*q+x:Nat):Int):=by
  unfold DI
  rw[hA,hmt,AiJ]
  apply Aj9
  intro x _
  rw[Int.natCast_add]
 rw[hN]
 refine ZT (fun y w S'=>Am S S'∧∃ i:Nat,w=aI i∧i≤2 ^ m∧A4 S.n S' y 3 ((((List.range i).filter fun x=>vs.getD (2 ^ m*q+x) false).map fun x=>((2 ^ m*q+x:Nat):Int)).map fun i=>[aI i]))
  (fun _ w _=>2 ^ m - ((Aw w).getD 0).toNat) ⟨Am.refl _,0,rfl,Ai9 _,A4.nl _ _ _⟩ ?_
 dsimp only[DE]
 rintro y _ S1 ⟨k1,i,rfl,hi,w1⟩ KE hKE
 dsimp only[u6,Fi]
 rw[As,Ag]
 refine Al (fun hlt=>?_) (fun hge=>?_)
 ·have hlt:i<2 ^ m:=by
    have:((i:Int)<((2 ^ m:Nat):Int)):=dT hlt
    omega
  have hbi:=hb i hlt
  have hadd:∀ K:AV→Aa→Prop,∀ S,bin .add 0 (.v (.int .i64 (i:Int))) (.v (.int .i64 1)) S K=K (aI (i+1:Nat)) S:=fun K S=>Ar (by omega) (by omega) 0
  have hμ:2 ^ m - ((Aw (aI (i+1:Nat))).getD 0).toNat<2 ^ m - ((Aw (aI i)).getD 0).toNat:=by simp[Aw];omega
  rw[Nh hlt (by omega)]
  refine GQ (by omega) (by omega) _ ?_
  rw[Ag,AiJ]
  refine Al (fun h2=>?_) (fun h2=>?_)
  ·rw[Nh hlt (by omega)]
   refine BQ rfl (fun _ h=>by cases h) ?_
   have hfl:=List.length_filter_le (fun x=>vs.getD (2 ^ m*q+x) false) (List.range i)
   rw[List.length_range]at hfl
   refine w1.app k1.1 (c:=[aI ((2 ^ m*q+i:Nat):Int)]) rfl (by rw[Ai8,Ai8];omega) (fun z5 S5 w5 b5 hz5=>?_) rfl
   rw[hadd]
   refine hKE _ _ _ ⟨w1.AS (Ai4 _) b5 k1,i+1,rfl,hlt,?_⟩ hμ
   rw[AiP,AjE,AiB,AiB]
   rw[show List.filter (fun x=>vs.getD (2 ^ m*q+x) false) [i] = [i]by simp only[List.filter_cons,h2,if_true,List.filter_nil]]
   exact w5
  ·rw[hadd]
   refine hKE _ _ _ ⟨k1,i+1,rfl,hlt,?_⟩ hμ
   rw[AiP,AjE,AiB,AiB]
   rw[show List.filter (fun x=>vs.getD (2 ^ m*q+x) false) [i] = []by simp only[List.filter_cons,h2,List.filter_nil];rfl]
   simpa using w1
 ·have hge:i=2 ^ m:=by
    have:¬ ((i:Int)<((2 ^ m:Nat):Int)):=dF hge
    omega
  subst hge
  exact⟨_,rfl,k1,w1⟩
end
section
variable {c:Ci} {vals:List (List Bool)} {n mid t:Nat} {S:Aa}
theorem AhR(h:Mk c vals n mid t S)(h0:0≤c.inputs)(h60:c.inputs+c.latches.length≤60){s:Nat}{vs:List Bool}(hs:s<vs.length){sid pid ts tp:Nat}{cs:List AV}
    (ho:S.obj sid=some (.cells ts [cs] true)) (hc:cs[1]? = some (aL aB vs)) (hp:S.obj pid=some (.cells tp [[.p mid 0 0]] true)):
    AW Pg 54 [aI s,.p sid 0 0,.p pid 0 0] S (aB (vs.getD s false && Hl c s)):=by
 refine qA ?_
 dsimp only[m54,Fi,Lf]
 rw[Ac,Af ho rfl hc]
 refine GQ (by omega) (by omega) _ ?_
 rw[Ag,AiJ]
 refine Al (fun h1=>?_) (fun h1=>⟨by rw[h1];rfl,rfl⟩)
 rw[Af hp rfl rfl]
 refine Au (AhQ h h0 h60 s) ⟨by rw[h1];rfl,rfl⟩
theorem AhP(h:Mk c vals n mid t S){s:Nat}{vs:List Bool}(hs:s<vs.length)(hsv:s<vals.length){l:Int}(hl:By l)(h0:0≤l)(h1:l.tdiv 2<(vals.getD s []).length){sid pid lid ts tp tl:Nat}{cs:List AV}
    (ho:S.obj sid=some (.cells ts [cs] true)) (hc:cs[1]? = some (aL aB vs)) (hp:S.obj pid=some (.cells tp [[.p mid 0 0]] true)) (hll:S.obj lid=some (.cells tl [[aI l]] true)):
    AW Pg 56 [aI s,.p sid 0 0,.p pid 0 0,.p lid 0 0] S (aB (vs.getD s false && Ei (vals.getD s []) l)):=by
 refine pZ ?_
 dsimp only[m56,Fi,Lf]
 rw[Ac,Af ho rfl hc]
 refine GQ (by omega) (by omega) _ ?_
 rw[Ag,AiJ]
 refine Al (fun h2=>?_) (fun h2=>⟨by rw[h2];rfl,rfl⟩)
 rw[Af hp rfl rfl,Af hll rfl rfl]
 refine Au (zK h hsv hl h0 h1) ⟨by rw[h2];rfl,rfl⟩
theorem zL(h:Mk c vals n mid t S)(hv:vals.length≤1000000){F:FuncId}{fs cs:List AV}{g:Nat→Bool}(hf:∀ T,Am S T→∀ i,i<vals.length→AW Pg F (fs ++ [aI i]++cs) T (aB (g i))):
    AW Pg 52 [.p mid 0 0,.f (.func F) fs cs] S (aL aB ((List.range vals.length).map g)):=
 Dy (f:=fun b=>.bool b) (nX h hv hf)
theorem AhO(h:Mk c vals n mid t S)(h0:0≤c.inputs)(h60:c.inputs+c.latches.length≤20){s:Nat}(hs:s<vals.length)(hl:Qr (c.latches.map (·.1)) (vals.getD s []))
    {vs:List Bool} (hvl:vs.length=2 ^ (c.inputs.toNat+c.latches.length)) (hsv:s<vs.length):
    AW Pg 58 [.p mid 0 0,aI s,aL aB vs] S (aL aI (if vs.getD s false=true then DI c (vals.getD s []) vs else[])):=
 Dy (f:=fun i=>.int .i64 i) (mD h h0 h60 hs hl hvl hsv)
theorem QW{α:Type}{f:α→AV}(hf:∀ a,∀ cs,f a≠.a cs){S:Aa}{n:Nat}{z:AV}{e:Nat}{rs:List α}{r:α}{K:AV→Aa→Prop}(w:A4 n S z e (rs.map fun v=>[f v]))(hn:n≤S.n)(hl:rs.length≤1000000)
    (k:∀ x' S',A4 n S' x' e ((rs ++ [r]).map fun v=>[f v])→But S S' z→(∃ m,x' = .s S.n 0 m)→K x' S'):Bo e 1 24 z (.l [[f r]]) S K:=by
 refine w.app hn (c:=[f r]) rfl (by simp;omega) (fun x' S' w' b' h'=>k x' S' ?_ b' h') rfl
 rw[AiB]
 exact w'
end
def A2(c:Ci):List (List Bool):=(List.range (2 ^ c.gr.inputs.toNat)).map fun s:Nat=>DX c.gr (Cw s c.gr.inputs.toNat)
def AB(c:Ci):List Bool:=(List.range (2 ^ c.gr.inputs.toNat)).map fun s:Nat=>c.cons.all (Ei ((A2 c).getD s []))
def At(c:Ci):Sp where
 bits:=c.gr.inputs
 valid:=AB c
 initial:=(List.range (2 ^ c.gr.inputs.toNat)).map fun s:Nat=>(AB c).getD s false && Hl c s
 next:=(List.range (2 ^ c.gr.inputs.toNat)).map fun s:Nat=>if(AB c).getD s false=true then DI c ((A2 c).getD s []) (AB c)else[]
 fair:=c.fair.map fun l=>(List.range (2 ^ c.gr.inputs.toNat)).map fun s:Nat=>(AB c).getD s false && Ei ((A2 c).getD s []) l
def sp0:Sp:=⟨0,[],[],[],[]⟩
def BE (c:Ci):Sp × Int:=if c.right=false then(sp0,1)else if 10<c.gr.inputs then(sp0,2)else(At c,0)
theorem Nd{S:Aa}{n:Nat}:Cv S n (.a [aI 0,.nl,.nl,.nl,.nl]) sp0.av:=
 .a _ _ rfl fun k u u2 hk hk2=>by
  match k with
  |0=>cases hk;cases hk2;exact .v _
  |1|2|3|4=>cases hk;cases hk2;exact .nl
  |k+5=>simp at hk
theorem JL{S:Aa}{id t n j:Nat}{cs cs':List AV}{l:Bool}{K:AV→Aa→Prop}(h:S.obj id=some (.cells t [cs] l))(hj:j+n≤cs.length)(hc:(cs.drop j).take n=cs'):AA n (.p id 0 j) S K=K (.a cs') S:=by
 simp[AA,XT,place,Aa.get,h,hj,hc]
structure Fr (c:Ci) (S S1 S4 S':Aa) (a b:Nat) (sp:List AV) (rows:List (List Bool)):Prop where
 AS:Am S S'
 n:S4.n≤S'.n
 cb:S'.obj S.n=some (.cells 29 [c.cells] true)
 sb:S'.obj S1.n=some (.cells 45 [sp] true)
 pb:S'.obj b=some (.cells 100 [[.p a 0 0]] true)
 mb:∃ z,S'.obj a=some (.cells 102 [c.cells++c.gr.cells ++ [z]] true)∧A4 S4.n S' z 41 (rows.map fun v=>[aL aB v])
theorem PT{g:Gr}{l:List Int}(hr:∀ x∈l,By x)(ha:l.all g.lit=true){v:List Bool}(hv:(v.length:Int)=g.vars):Qr l v:=fun x hx=>by
 have:=AiD.1 ha x hx
 simp only[Gr.lit,Ai5,decide_eq_true_eq]at this
 exact⟨hr x hx,this.2.2.1,by omega⟩
theorem Qz{c:Ci}(h:c.right=true){s:Nat}(hs:s<2 ^ c.gr.inputs.toNat):(((A2 c).getD s []).length:Int)=c.gr.vars:=by
 obtain⟨g1,g2,g3⟩:=CJ h
 have hr:=(Bp.1 h).2.2.2.2.2.2.1
 have:(A2 c).getD s []=DX c.gr (Cw s c.gr.inputs.toNat):=by simp[A2,Ai2,hs]
 rw[this,Nn,if_pos]
 ·have:0≤c.gr.vars:=by unfold Gr.vars;omega
  omega
 ·rw[hr,IE]
  simp;omega
theorem bA{g:Gr}{l:List (Int × Int)}(hr:∀ x∈l,By x.1∧By x.2)(ha:l.all (Di g)=true){v:List Bool}(hv:(v.length:Int)=g.vars):Qr (l.map (·.1)) v:=by
 refine PT (g:=g) (fun x hx=>?_) ?_ hv
 ·obtain⟨p,hp,rfl⟩:=AiL.1 hx
  exact(hr p hp).1
 ·rw[AiD]
  intro x hx
  obtain⟨p,hp,rfl⟩:=AiL.1 hx
  have:=AiD.1 ha p hp
  simp only[Di,Ai5]at this
  exact this.1
structure Fr2 (c:Ci) (S S1 S4 S':Aa) (a b:Nat) (sp:List AV) (z4:AV) (e4:Nat) (rows:List AV):Prop where
 AS:Am S S'
 n:S4.n≤S'.n
 cb:S'.obj S.n=some (.cells 29 [c.cells] true)
 sb:S'.obj S1.n=some (.cells 45 [sp] true)
 pb:S'.obj b=some (.cells 100 [[.p a 0 0]] true)
 mb:∃ z,S'.obj a=some (.cells 102 [c.cells++c.gr.cells ++ [z]] true)∧A4 S4.n S' z 41 ((A2 c).map fun v=>[aL aB v])∧DS z4 z
 ow:A4 S4.n S' z4 e4 (rows.map fun v=>[v])
theorem My{α:Type}{f:α→AV}{n:Nat}{S:Aa}{x:AV}{e:Nat}{l:List α}(hf:∀ a∈l,Tree (f a))(h:A4 n S x e (l.map fun a=>[f a])):Cv (S.Bx (AK n)) n x (aL f l):=
 h.cv rfl rfl (fun i c c2 hi hi2=>by
  rw[hi]at hi2
  cases hi2
  refine⟨rfl,fun k u u2 hk hk2=>?_⟩
  rw[hk]at hk2
  cases hk2
  rw[AiH]at hi
  obtain⟨a,ha,rfl⟩:=Aj7.1 hi
  cases k with
  |zero=>cases hk;exact hf a (AjB ha) _ _
  |succ k=>simp at hk)
theorem uF{S:Aa}{n:Nat}{x y z u v x' y' z' u' v':AV}(h1:Cv S n x x')(h2:Cv S n y y')(h3:Cv S n z z')(h4:Cv S n u u')(h5:Cv S n v v'):Cv S n (.a [x,y,z,u,v]) (.a [x',y',z',u',v']):=
 .a _ _ rfl fun k w w2 hk hk2=>by
  match k with
  |0=>cases hk;cases hk2;exact h1
  |1=>cases hk;cases hk2;exact h2
  |2=>cases hk;cases hk2;exact h3
  |3=>cases hk;cases hk2;exact h4
  |4=>cases hk;cases hk2;exact h5
  |k+5=>simp at hk
theorem wS{c:Ci}(hc:c.ok):BH Pg 30 [c.av] (.t [(BE c).1.av,aI (BE c).2]):=by
 intro S
 refine Ad.tree (qW ?_)
 dsimp only[m30,Fi,Lf,Lt,Lc]
 refine Ai rfl fun S1 k1 n1 o1=>?_
 refine Ai rfl fun S2 k2 n2 o2=>?_
 have k2':=k1.trans k2
 have p2:S2.obj S.n=_:=(Kg k2 o1)
 rw[An (n:=8) p2 rfl]
 refine Ae (jO hc) ?_
 rw[AI,Ag]
 refine Al (fun h1=>?_) (fun h1=>?_)
 ·rw[An (n:=5) o2 rfl]
  refine AF o2 rfl rfl fun S3 n3 o3 f3=>?_
  rw[An (n:=5) o3 rfl]
  rw[AiN]at h1
  refine⟨_,rfl,k2'.st (by omega) n3 f3,?_⟩
  rw[BE,if_pos h1]
  exact DN Nd (.v _)
 have h1:c.right=true:=by simpa using h1
 have h1':¬ c.right=false:=by rw[h1];decide
 obtain⟨g1,g2,g3⟩:=CJ h1
 have hin:=(Bp.1 h1).1
 obtain⟨m,hm⟩:=AiE g2
 have q2:∀ T:Aa,Am S2 T→T.obj S.n=some (.cells 29 [c.cells] true):=fun T hT=>(Kg hT p2)
 refine⟨_,fun T hT=>by rw[An (n:=8) (q2 T hT) rfl];exact⟨rfl,rfl⟩,_,fun T hT=>by rw[An (n:=8) (q2 T hT) rfl];exact⟨rfl,rfl⟩,_,fun T hT=>Ae (VN c) ⟨rfl,rfl⟩,_,fun T hT=>by rw[A7 (cs:=c.cells++c.gr.cells ++ [.nl]) rfl];exact⟨rfl,rfl⟩,?_⟩
 refine⟨_,rfl,rfl,fun ids S3 hN=>?_⟩
 obtain⟨a,b,rfl⟩:∃ a b,ids = [a,b]:=by
  have:=hN.len
  match ids,this with
  |[a,b],_=>exact⟨a,b,rfl⟩
 have k3:=hN.AS
 have n3:S3.n=S2.n+2:=hN.n
 have ha:=hN.lo a (by simp)
 have hb:=hN.lo b (by simp)
 have ha':=hN.hi a (by simp)
 have hb':=hN.hi b (by simp)
 have hab:a≠b:=by have:=hN.nodup;simp at this;exact this
 have oa:S3.obj a=some (.cells 102 [c.cells++c.gr.cells ++ [.nl]] true):=hN.new 0 a _ rfl rfl
 have ob:S3.obj b=some (.cells 100 [[.v (.pointer none)]] true):=hN.new 1 b _ rfl rfl
 show A8 1 (.p b 0 0) (.p a 0 0) S3 _
 refine Cc ob rfl rfl fun S4 n4 o4 f4=>?_
 have k4:Am S S4:=(k2'.trans k3).st (by omega) n4 f4
 have fr4:Fr c S S1 S4 S4 a b [aI 0,.nl,.nl,.nl,.nl] []:=⟨k4,Ai4 _,(f4 _ (by omega)).trans (q2 S3 k3),(f4 _ (by omega)).trans (Kg k3 o2),o4,.nl,(f4 _ hab).trans oa,A4.nl _ _ _⟩
 show Ax (.p b 0 0) S4 _
 obtain⟨z4,m4,_⟩:=fr4.mb
 rw[Af fr4.pb rfl rfl,AH,Ac,Ac,Af m4 rfl rfl]
 show bin .gtr 0 (aI c.gr.inputs) _ _ _
 rw[AP,Ag]
 refine Al (fun h2=>?_) (fun h2=>?_)
 ·rw[An (n:=5) fr4.sb rfl]
  refine AF fr4.sb rfl rfl fun S5 n5 o5 f5=>?_
  rw[An (n:=5) o5 rfl]
  refine⟨_,rfl,k4.st (by omega) n5 f5,?_⟩
  rw[BE,if_neg h1',if_pos (dT h2)]
  exact DN Nd (.v _)
 have h2:¬ 10<c.gr.inputs:=dF h2
 have hm10:m≤10:=by omega
 have hres:BE c=(At c,0):=by rw[BE,if_neg h1',if_neg h2]
 rw[hres]
 show Ax (.p b 0 0) S4 _
 rw[Af fr4.pb rfl rfl,AH,Ac,Ac,Af m4 rfl rfl]
 show bin .shl 0 _ (aI c.gr.inputs) _ _
 rw[show aI c.gr.inputs=aI (m:Int)by rw[hm],Dl (by omega),show((2:Int) ^ m)=((2 ^ m:Nat):Int)by rw[AjJ];rfl]
 have hN1:2 ^ m≤1024:=AiY (by decide) (show m≤10 by omega)
 have hgt:c.gr.inputs.toNat=m:=by rw[hm];rfl
 show Ap _ _ _ (J0 (.p S.n 0 0) (.p S1.n 0 0) (.p b 0 0) (aI ((2 ^ m:Nat):Int)) (.v (.int .i64 0))) _ _
 refine aD (fun y S'=>∃ i:Nat,y=aI i∧i≤2 ^ m∧Fr c S S1 S4 S' a b [aI 0,.nl,.nl,.nl,.nl] ((List.range i).map fun s:Nat=>DX c.gr (Cw s m)))
  (fun y _=>2 ^ m - ((Aw y).getD 0).toNat) ⟨0,rfl,Ai9 _,fr4⟩ ?_
 dsimp only[BS]
 rintro _ S5 ⟨i,rfl,hi,fr⟩ KE hKE
 dsimp only[vP,Fi,Lf]
 obtain⟨z,hz,hw⟩:=fr.mb
 rw[As,Ag]
 refine Al (fun hlt=>?_) (fun hge=>?_)
 ·have hlt:i<2 ^ m:=by
    have:((i:Int)<((2 ^ m:Nat):Int)):=dT hlt
    omega
  rw[Af fr.pb rfl rfl,AH,Ac,Ac,Af hz rfl rfl]
  show Qt _ _ _ (aI c.gr.inputs) (aI c.gr.inputs) _ _
  rw[show aI c.gr.inputs=aI (m:Int)by rw[hm]]
  refine Ll (by omega) (by omega) fun S6 k6 n6 o6=>?_
  rw[Dv]
  have hrep:List.replicate m [AV.v (.bool false)]=(List.range m).map fun k=>[aB (if k<0 then Jm i k else false)]:=by
   apply List.ext_getElem
   ·simp
   ·intro k h1 h2
    simp
  rw[hrep]at o6
  have hs5:=fr.n
  refine aC (fun y S'=>S'.n=S6.n∧(∀ x,x<S5.n→S'.obj x=S5.obj x)∧∃ j:Nat,y=aI j∧j≤m∧S'.obj S5.n=some (.cells 4 ((List.range m).map fun k=>[aB (if k<j then Jm i k else false)]) true))
   (fun y _=>m - ((Aw y).getD 0).toNat) ⟨rfl,k6.2,0,rfl,Ai9 _,o6⟩ ?_
  dsimp only[BS]
  rintro _ S7 ⟨n7,f7,j,rfl,hj,o7⟩ KE1 hKE1
  dsimp only[vO,Fi,Lt,Lc]
  rw[As,Ag]
  refine Al (fun hlt1=>?_) (fun hge1=>?_)
  ·have hlt1:j<m:=by simpa using hlt1
   rw[HY (by omega),Fg,AD,Cl hlt1 o7]
   refine Cc o7 (u0:=aB (if j<j then Jm i j else false)) (by rw[AiG];simp[hlt1]) rfl fun S8 n8 o8 f8=>?_
   rw[Ar (by omega) (by omega)]
   refine hKE1 _ _ ⟨by omega,fun x hx=>(f8 x (by omega)).trans (f7 x hx),j+1,rfl,hlt1,?_⟩ (by simp[Aw];omega)
   rw[o8,AiG]
   have:=H9 (n:=m) (i:=j) (f:=fun k=>[aB (if k<j then Jm i k else false)]) (f':=fun k=>[aB (if k<j+1 then Jm i k else false)]) hlt1 (fun k hk=>by
    have:(k<j+1)=(k<j):=by apply propext;omega
    simp only[this])
   rw[←this]
   simp[Jm]
  ·have hgj:j=m:=by
     have:¬ ((j:Int)<(m:Int)):=dF hge1
     omega
   subst hgj
   have o7':S7.obj S5.n=some (.cells 4 ((Cw i j).map fun b=>[aB b]) true):=by
    rw[o7,Cw,AjC]
    congr 2
    apply Aj9
    intro k hk
    simp[Aj5.1 hk]
   have bp:=(f7 b (by omega)).trans fr.pb
   have bz:=(f7 a (by omega)).trans hz
   have kT:∀{T:Aa} {x:Nat} {o:Bw},Am S7 T→x<S5.n→S7.obj x=some o→T.obj x=some o:=fun hT hx ho=>(Kg hT ho)
   have w7:A4 S4.n S7 z 41 (((List.range i).map fun s:Nat=>DX c.gr (Cw s j)).map fun v=>[aL aB v]):=hw.same (by omega) (fun x _ hx=>f7 x hx)
   refine⟨_,fun T hT=>by rw[Af (kT hT (by omega) bp) rfl rfl];exact⟨rfl,rfl⟩,_,fun T hT=>by rw[Af (kT hT (by omega) bp) rfl rfl];exact⟨rfl,rfl⟩,_,fun T hT=>by rw[AH];exact⟨rfl,rfl⟩,_,fun T hT=>by rw[Ac];exact⟨rfl,rfl⟩,
    z,fun T hT=>by rw[Af (kT hT (by omega) bz) rfl rfl];exact⟨rfl,rfl⟩,_,fun T hT=>by rw[Af (kT hT (by omega) bp) rfl rfl];exact⟨rfl,rfl⟩,_,fun T hT=>by rw[AH];exact⟨rfl,rfl⟩,_,fun T hT=>by rw[Ac];exact⟨rfl,rfl⟩,
    c.gr.av,fun T hT=>by rw[JL (n:=2) (cs':=c.gr.cells) (kT hT (by omega) bz) (by simp[Ci.cells,Gr.cells]) rfl];exact⟨rfl,rfl⟩,
    aL aB (DX c.gr (Cw i j)),fun T hT=>Au (Dy (f:=fun b=>.bool b) (QV hc.gr (ins:=Cw i j) (by simp;omega) (fun T K=>by rw[Dv,IE]) (fun T' hT'=>?_))) ⟨rfl,rfl⟩,
    _,fun T hT=>BQ rfl (fun _ h=>by cases h) ⟨rfl,rfl⟩,?_⟩
   ·have:=(hT'.2 S5.n (by have:=hT.1;omega)).trans ((hT.2 S5.n (by omega)).trans o7')
    simp only[Ja,this]
    rw[if_pos (by simp)]
    simp[AiV]
   refine QW (f:=aL aB) (fun _ _ h=>by cases h) w7 (by omega) (by simp;omega) (fun z8 S8 w8 b8 hz8=>?_)
   have k8:∀ x,x<S4.n→S8.obj x=S7.obj x:=fun x hx=>b8.2 x (by omega) (fun b m e=>by
    have:=w7.lt e
    omega)
   have n8:=b8.1
   have b8p:=(k8 b (by omega)).trans bp
   refine⟨fun T hT=>by rw[Af (Kg hT b8p) rfl rfl];exact⟨rfl,rfl⟩,_,fun T hT=>by rw[AH];exact⟨rfl,rfl⟩,_,fun T hT=>by rw[Ac];exact⟨rfl,rfl⟩,?_⟩
   obtain⟨m8,hm8⟩:=hz8
   refine B8 ((k8 a (by omega)).trans bz) (by simp[Ci.cells,Gr.cells]) (by rw[hm8];rfl) fun S9 n9 o9 f9=>?_
   have b9p:=(f9 b (Ne.symm hab)).trans b8p
   rw[Ar (by omega) (by omega)]
   have Eo:∀ x,x<S4.n→x≠a→S9.obj x=S5.obj x:=fun x hx hne=>(f9 x hne).trans ((k8 x hx).trans (f7 x (by omega)))
   have k4n:=k4.1
   refine hKE _ _ ⟨i+1,rfl,hlt,⟨by have:=fr.AS.1;omega,fun x hx=>(Eo x (by omega) (by omega)).trans (fr.AS.2 x hx)⟩,by omega,(Eo _ (by omega) (by omega)).trans fr.cb,(Eo _ (by omega) (by omega)).trans fr.sb,b9p,z8,o9,?_⟩ (by simp[Aw];omega)
   rw[AiP,AiB]
   exact w8.st (id:=a) (fun b m e=>by rw[hm8]at e;injection e;omega) n9 f9
 ·have hge:i=2 ^ m:=by
    have:¬ ((i:Int)<((2 ^ m:Nat):Int)):=dF hge
    omega
  subst hge
  have hvals:(List.range (2 ^ m)).map (fun s:Nat=>DX c.gr (Cw s m))=A2 c:=by unfold A2;rw[hgt]
  rw[hvals]at fr
  clear hw hz z
  have hvl:(A2 c).length=2 ^ m:=by rw[←hvals];simp
  have hvalid:AB c=(List.range (A2 c).length).map fun s:Nat=>c.cons.all (Ei ((A2 c).getD s [])):=by rw[hvl,AB,hgt]
  have hvv:(AB c).length=2 ^ m:=by rw[hvalid];simp[hvl]
  have hR:=Bp.1 h1
  have hlen:∀ s,s<(A2 c).length→(((A2 c).getD s []).length:Int)=c.gr.vars:=fun s hs=>Qz h1 (by rw[hgt,←hvl];exact hs)
  have hcons:∀ s,s<(A2 c).length→Qr c.cons ((A2 c).getD s []):=fun s hs=>PT hc.cons.1 hR.2.2.2.2.2.2.2.2.2.2.1 (hlen s hs)
  have hfair:∀ s,s<(A2 c).length→Qr c.fair ((A2 c).getD s []):=fun s hs=>PT hc.fair.1 hR.2.2.2.2.2.2.2.2.2.2.2.1 (hlen s hs)
  have hlats:∀ s,s<(A2 c).length→Qr (c.latches.map (·.1)) ((A2 c).getD s []):=fun s hs=>bA hc.lats hR.2.2.2.2.2.2.2.1 (hlen s hs)
  have hs5:=fr.n
  obtain⟨z,hz,hw⟩:=fr.mb
  rw[Af fr.pb rfl rfl,AH,Ac,Ac,Af hz rfl rfl,Ac]
  show A8 1 _ (aI c.gr.inputs) _ _
  refine B8 fr.sb (by simp) rfl fun S6 n6 o6 f6=>?_
  have b6:=(f6 b (by omega)).trans fr.pb
  have z6:=(f6 a (by omega)).trans hz
  have w6:A4 S4.n S6 z 41 _:=hw.st (id:=S1.n) (fun b m e=>by have:=hw.lt e;omega) n6 f6
  have mk6:Mk c (A2 c) S4.n a 102 S6:=⟨by omega,z,z6,w6⟩
  rw[Af b6 rfl rfl,Af b6 rfl rfl]
  refine Au (zL mk6 (by omega) (g:=fun s=>c.cons.all (Ei ((A2 c).getD s []))) (fun T hT s hs=>AhS (mk6.AS hT) hs (hcons s hs) hc.cons.2)) ?_
  rw[←hvalid,Ac]
  refine B8 o6 (by simp) rfl fun S7 n7 o7 f7=>?_
  have b7:=(f7 b (by omega)).trans b6
  have z7:=(f7 a (by omega)).trans z6
  have w7:A4 S4.n S7 z 41 _:=w6.st (id:=S1.n) (fun b m e=>by have:=w6.lt e;omega) n7 f7
  have mk7:Mk c (A2 c) S4.n a 102 S7:=⟨by omega,z,z7,w7⟩
  rw[Af b7 rfl rfl]
  refine Au (zL mk7 (by omega) (g:=fun s=>(AB c).getD s false && Hl c s) (fun T hT s hs=>AhR (mk7.AS hT) hin.1 (by omega) (by omega) (Kg hT o7) rfl (Kg hT b7))) ?_
  rw[Ac]
  refine B8 o7 (by simp) rfl fun S8 n8 o8 f8=>?_
  have b8:=(f8 b (by omega)).trans b7
  have z8:=(f8 a (by omega)).trans z7
  have w8:A4 S4.n S8 z 41 _:=w7.st (id:=S1.n) (fun b m e=>by have:=w7.lt e;omega) n8 f8
  have old8:∀ x,x≠S1.n→S8.obj x=S5.obj x:=fun x hx=>(f8 x hx).trans ((f7 x hx).trans (f6 x hx))
  have hinit:(At c).initial=(List.range (A2 c).length).map (fun s:Nat=>(AB c).getD s false && Hl c s):=by rw[hvl];simp only[At,hgt]
  rw[←hinit]at o8
  have fr8:Fr2 c S S1 S4 S8 a b [aI c.gr.inputs,aL aB (AB c),aL aB (At c).initial,.nl,.nl] .nl 41 []:=
   ⟨⟨by have:=fr.AS.1;omega,fun x hx=>(old8 x (by omega)).trans (fr.AS.2 x hx)⟩,by omega,(old8 _ (by omega)).trans fr.cb,o8,b8,⟨z,z8,w8,fun _ _ _ _ _ e=>by cases e⟩,A4.nl _ _ _⟩
  rw[Ac,Af fr8.cb rfl rfl,Ay]
  have hfl:c.fair.length≤2000:=hR.2.2.2.2.2.1
  have hspf:(At c).fair=c.fair.map fun l=>(List.range (A2 c).length).map fun s:Nat=>(AB c).getD s false && Ei ((A2 c).getD s []) l:=by rw[hvl];simp only[At,hgt]
  refine aA (fun y S'=>∃(i:Nat) (z4:AV),y=aI i∧i≤c.fair.length∧Fr2 c S S1 S4 S' a b [aI c.gr.inputs,aL aB (AB c),aL aB (At c).initial,.nl,z4] z4 41 (((At c).fair.take i).map fun v=>aL aB v))
   (fun y _=>c.fair.length - ((Aw y).getD 0).toNat) ⟨0,.nl,rfl,Ai9 _,fr8⟩ ?_
  dsimp only[BS]
  rintro _ S9 ⟨i,z4,rfl,hi,fr9⟩ KE2 hKE2
  dsimp only[vN,Fi,Lf,Lt,Lc]
  have h9n:=fr9.n
  have hk4:=k4.1
  rw[As,Ag]
  refine Al (fun hlt=>?_) (fun hge=>?_)
  ·have hlt:i<c.fair.length:=by simpa using hlt
   have hlf:i<(At c).fair.length:=by rw[hspf,Ai8];exact hlt
   have hli:=Ai6 hlt
   have hrow:(At c).fair[i]=(List.range (A2 c).length).map fun s:Nat=>(AB c).getD s false && Ei ((A2 c).getD s []) c.fair[i]:=by simp only[hspf,List.getElem_map]
   have htk:(At c).fair.take (i+1)=(At c).fair.take i ++ [(At c).fair[i]]:=by rw[AiR,Ai3 hlf];rfl
   rw[AM hlt,A3]
   refine BM rfl fun S10 k10 n10 o10=>?_
   refine Cc o10 rfl rfl fun S11 n11 o11 f11=>?_
   have k11:Am S9 S11:=k10.st (Ai4 _) n11 f11
   obtain⟨zz,hzz,hww,hap⟩:=fr9.mb
   have mk11:Mk c (A2 c) S4.n a 102 S11:=⟨by have:=k11.1;omega,zz,(Kg k11 hzz),Eg hww k11⟩
   have m11:=k11.1
   have s11:=(Kg k11 fr9.sb)
   have b11:=(Kg k11 fr9.pb)
   have kT:∀{T:Aa} {x:Nat} {o:Bw},Am S11 T→x<S11.n→S11.obj x=some o→T.obj x=some o:=fun hT hx ho=>(hT.2 _ hx).trans ho
   refine⟨_,fun T hT=>by rw[Ac];exact⟨rfl,rfl⟩,z4,fun T hT=>by rw[Af (kT hT (by omega) s11) rfl rfl];exact⟨rfl,rfl⟩,_,fun T hT=>by rw[Af (kT hT (by omega) b11) rfl rfl];exact⟨rfl,rfl⟩,_,fun T hT=>⟨rfl,rfl⟩,
    aL aB (At c).fair[i],fun T hT=>Au (show AW _ _ _ T (aL aB (At c).fair[i])from hrow ▸ zL (mk11.AS hT) (by omega) (g:=fun s=>(AB c).getD s false && Ei ((A2 c).getD s []) c.fair[i]) (fun T' hT' s hs =>
     AhP (mk11.AS (hT.trans hT')) (by omega) hs (hfair s hs _ hli).1 (hfair s hs _ hli).2.1 (hfair s hs _ hli).2.2 (kT (hT.trans hT') (by omega) s11) rfl (kT (hT.trans hT') (by omega) b11) (kT (hT.trans hT') (by omega) o11))) ⟨rfl,rfl⟩,
    _,fun T hT=>BQ rfl (fun _ h=>by cases h) ⟨rfl,rfl⟩,?_⟩
   refine(Eg fr9.ow k11).app (by omega) (c:=[aL aB (At c).fair[i]]) rfl (by simp;omega) (fun z5 S12 w12 b12 hz12=>?_) rfl
   obtain⟨m12,hm12⟩:=hz12
   have n12:=b12.1
   have k12:∀ x,x<S4.n→S12.obj x=S11.obj x:=fun x hx=>b12.2 x (by omega) (fun b m e=>by have:=fr9.ow.lt e;omega)
   refine⟨_,fun T hT=>by rw[Ac];exact⟨rfl,rfl⟩,?_⟩
   refine B8 ((k12 S1.n (by omega)).trans s11) (by simp) (by rw[hm12];rfl) fun S13 n13 o13 f13=>?_
   rw[Ar (by omega) (by omega)]
   have Eo:∀ x,x<S4.n→x≠S1.n→S13.obj x=S9.obj x:=fun x hx hne=>(f13 x hne).trans ((k12 x hx).trans (k11.2 x (by omega)))
   have wz:A4 S4.n S13 zz 41 _:=((Eg hww k11).P7 b12 hap).st (id:=S1.n) (fun b m e=>by have:=hww.lt e;omega) n13 f13
   refine hKE2 _ _ ⟨i+1,z5,rfl,hlt,⟨by have:=fr9.AS.1;omega,fun x hx=>(Eo x (by omega) (by omega)).trans (fr9.AS.2 x hx)⟩,by omega,(Eo _ (by omega) (by omega)).trans fr9.cb,o13,(Eo _ (by omega) (by omega)).trans fr9.pb,⟨zz,(Eo _ (by omega) (by omega)).trans hzz,wz,fun x b m b' m' e e'=>?_⟩,?_⟩ (by simp[Aw];omega)
   ·rw[hm12]at e;injection e with e1 e2 e3
    have:=hww.lt e'
    omega
   ·rw[htk,AiB,AiB]
    exact w12.st (id:=S1.n) (fun b m e=>by rw[hm12]at e;injection e;omega) n13 f13
  ·have hge:i=c.fair.length:=by
     have:¬ ((i:Int)<(c.fair.length:Int)):=dF hge
     omega
   subst hge
   rw[AiV (by rw[hspf,Ai8];exact Ai4 _)]at fr9
   obtain⟨zz,hzz,hww,hap⟩:=fr9.mb
   rw[Af fr9.pb rfl rfl,AH,Ac,Af hzz rfl rfl,hww.len,Ai8]
   have hspn:(At c).next=(List.range (A2 c).length).map fun s:Nat=>if(AB c).getD s false=true then DI c ((A2 c).getD s []) (AB c)else[]:=by rw[hvl];simp only[At,hgt]
   have hnl:(At c).next.length=(A2 c).length:=by rw[hspn,Ai8,List.length_range]
   refine Z9 (fun y S'=>∃(i:Nat) (z3:AV),y=aI i∧i≤(A2 c).length∧Fr2 c S S1 S4 S' a b [aI c.gr.inputs,aL aB (AB c),aL aB (At c).initial,z3,z4] z3 26 (((At c).next.take i).map fun v=>aL aI v)∧
       A4 S4.n S' z4 41 (((At c).fair.map fun v=>aL aB v).map fun v=>[v])∧DS z3 z4)
    (fun y _=>(A2 c).length - ((Aw y).getD 0).toNat) ⟨0,.nl,rfl,Ai9 _,⟨fr9.AS,fr9.n,fr9.cb,fr9.sb,fr9.pb,⟨zz,hzz,hww,fun _ _ _ _ _ e=>by cases e⟩,A4.nl _ _ _⟩,fr9.ow,fun _ _ _ _ _ e=>by cases e⟩ ?_
   clear hzz hww hap zz fr9 h9n
   rintro _ S9 ⟨i,z3,rfl,hi,fr9,wf,hap4⟩ KE3 hKE3
   dsimp only[vM,Fi,Lt,Lc]
   have h9n:=fr9.n
   obtain⟨zz,hzz,hww,hap⟩:=fr9.mb
   rw[As,Ag]
   refine Al (fun hlt=>?_) (fun hge=>?_)
   ·have hlt:i<(A2 c).length:=by
      have:((i:Int)<((A2 c).length:Int)):=dT hlt
      omega
    have hlf:i<(At c).next.length:=by omega
    have hrow:(At c).next[i]=if(AB c).getD i false=true then DI c ((A2 c).getD i []) (AB c)else[]:=by simp only[hspn,List.getElem_map,List.getElem_range]
    have htk:(At c).next.take (i+1)=(At c).next.take i ++ [(At c).next[i]]:=by rw[AiR,Ai3 hlf];rfl
    have mk9:Mk c (A2 c) S4.n a 102 S9:=⟨by omega,zz,hzz,hww⟩
    have kT:∀{T:Aa} {x:Nat} {o:Bw},Am S9 T→x<S9.n→S9.obj x=some o→T.obj x=some o:=fun hT hx ho=>(hT.2 _ hx).trans ho
    have hmm:m=c.inputs.toNat+c.latches.length:=by omega
    refine⟨_,fun T hT=>by rw[Ac];exact⟨rfl,rfl⟩,z3,fun T hT=>by rw[Af (kT hT (by omega) fr9.sb) rfl rfl];exact⟨rfl,rfl⟩,_,fun T hT=>by rw[Af (kT hT (by omega) fr9.pb) rfl rfl];exact⟨rfl,rfl⟩,_,fun T hT=>by rw[Ac];exact⟨rfl,rfl⟩,aL aB (AB c),fun T hT=>by rw[Af (kT hT (by omega) fr9.sb) rfl rfl];exact⟨rfl,rfl⟩,
     aL aI (At c).next[i],fun T hT=>Au (show AW _ _ _ T (aL aI (At c).next[i])from hrow ▸ AhO (mk9.AS hT) hin.1 (by omega) hlt (hlats i hlt) (by rw[hvv,hmm]) (by omega)) ⟨rfl,rfl⟩,
     _,fun T hT=>BQ rfl (fun _ h=>by cases h) ⟨rfl,rfl⟩,?_⟩
    refine fr9.ow.app (by omega) (c:=[aL aI (At c).next[i]]) rfl (by simp;omega) (fun z5 S12 w12 b12 hz12=>?_) rfl
    obtain⟨m12,hm12⟩:=hz12
    have n12:=b12.1
    have k12:∀ x,x<S4.n→S12.obj x=S9.obj x:=fun x hx=>b12.2 x (by omega) (fun b m e=>by have:=fr9.ow.lt e;omega)
    refine⟨_,fun T hT=>by rw[Ac];exact⟨rfl,rfl⟩,?_⟩
    refine B8 ((k12 S1.n (by omega)).trans fr9.sb) (by simp) (by rw[hm12];rfl) fun S13 n13 o13 f13=>?_
    rw[Ar (by omega) (by omega)]
    have Eo:∀ x,x<S4.n→x≠S1.n→S13.obj x=S9.obj x:=fun x hx hne=>(f13 x hne).trans (k12 x hx)
    have wz:A4 S4.n S13 zz 41 _:=(hww.P7 b12 hap).st (id:=S1.n) (fun b m e=>by have:=hww.lt e;omega) n13 f13
    have wf':A4 S4.n S13 z4 41 _:=(wf.P7 b12 hap4).st (id:=S1.n) (fun b m e=>by have:=wf.lt e;omega) n13 f13
    refine hKE3 _ _ ⟨i+1,z5,rfl,hlt,⟨⟨by have:=fr9.AS.1;omega,fun x hx=>(Eo x (by omega) (by omega)).trans (fr9.AS.2 x hx)⟩,by omega,(Eo _ (by omega) (by omega)).trans fr9.cb,o13,(Eo _ (by omega) (by omega)).trans fr9.pb,⟨zz,(Eo _ (by omega) (by omega)).trans hzz,wz,fun x b m b' m' e e'=>?_⟩,?_⟩,wf',fun x b m b' m' e e'=>?_⟩ (by simp[Aw];omega)
    ·rw[hm12]at e;injection e with e1 e2 e3
     have:=hww.lt e'
     omega
    ·rw[htk,AiB,AiB]
     exact w12.st (id:=S1.n) (fun b m e=>by rw[hm12]at e;injection e;omega) n13 f13
    ·rw[hm12]at e;injection e with e1 e2 e3
     have:=wf.lt e'
     omega
   ·have hge:i=(A2 c).length:=by
      have:¬ ((i:Int)<((A2 c).length:Int)):=dF hge
      omega
    subst hge
    have hnx:=fr9.ow
    rw[AiV (by omega)]at hnx
    rw[An (n:=5) fr9.sb rfl]
    refine AF fr9.sb rfl rfl fun S10 n10 o10 f10=>?_
    rw[An (n:=5) o10 rfl]
    have w3:A4 S.n S10 z3 26 _:=(hnx.st (id:=S1.n) (fun b m e=>by have:=hnx.lt e;omega) n10 f10).low (by omega)
    have w4:A4 S.n S10 z4 41 _:=(wf.st (id:=S1.n) (fun b m e=>by have:=wf.lt e;omega) n10 f10).low (by omega)
    rw[AjC]at w3 w4
    refine⟨_,rfl,fr9.AS.st (by omega) n10 f10,DN (uF (.v _) (Et _ _ _) (Et _ _ _) (My (fun _ _=>Df _) w3) (My (fun _ _=>Et _) w4)) (.v _)⟩
theorem AgL{c:Ci}(hc:c.ok){s:Int}{l:List Int}(hl:∀ x∈l,By x)(hn:l.length≤9223372036854775807):BH Pg 25 [c.av,aI s,aL aI l] (aB (l.all (DT c s))):=by
 intro S
 refine Ad.Bt (rB ?_)
 unfold m25
 refine Ai rfl fun S1 k1 n1 o1=>?_
 refine aG (fun y S'=>S'=S1∧∃ i:Nat,y=aI i∧i≤l.length∧∀ j (h:j<l.length),j<i→DT c s l[j]=true)
  (fun y _=>l.length - ((Aw y).getD 0).toNat) ⟨rfl,0,rfl,Ai9 _,fun j _ hj=>(AiF _ hj).elim⟩ ?_
 dsimp only[BS]
 rintro _ S1 ⟨rfl,i,rfl,hi,hok⟩ KE hKE
 dsimp only[vS,Fi,Lq,Ld]
 rw[Ay,As,Ag]
 refine Al (fun hlt=>?_) (fun hge=>?_)
 ·have hlt:i<l.length:=by simpa using hlt
  have hm:=Ai6 hlt
  show ∃ q5:AV,_
  refine⟨_,by rw[An (n:=8) o1 rfl];exact⟨rfl,rfl⟩,?_⟩
  refine⟨_,by rw[AM hlt];exact⟨rfl,rfl⟩,?_⟩
  refine⟨_,by rw[A3];exact⟨rfl,rfl⟩,?_⟩
  refine⟨_,Ae (I5 hc (hl _ hm)) ⟨rfl,rfl⟩,?_⟩
  refine⟨_,by rw[AI];exact⟨rfl,rfl⟩,?_⟩
  rw[Ag]
  refine Al (fun h=>⟨?_,k1⟩) (fun h=>?_)
  ·have:l.all (DT c s)=false:=by
     rw[Aj4]
     exact⟨_,hm,by simpa using h⟩
   rw[this]
  ·have hadd:∀ K:AV→Aa→Prop,∀ S,bin .add 0 (.v (.int .i64 (i:Int))) (.v (.int .i64 1)) S K=K (aI (i+1:Nat)) S:=fun K S=>Ar (by omega) (by omega) 0
   rw[hadd]
   refine hKE _ _ ⟨rfl,i+1,rfl,hlt,fun j hj hj'=>?_⟩ (by simp[Aw];omega)
   rcases AiS j i with h'|h'
   ·exact hok j hj h'
   ·have:j=i:=by omega
    subst this
    simpa using h
 ·have hge:i=l.length:=by simp at hge;omega
  subst hge
  refine⟨?_,k1⟩
  have:l.all (DT c s)=true:=by
   rw[AiD]
   intro x hx
   obtain⟨j,hj,rfl⟩:=Aj0 hx
   exact hok j hj hj
  rw[this]
theorem AgK{c:Ci}(hll:c.latches.length≤1000000)(h0:0≤c.inputs)(h60:c.inputs+c.latches.length≤60){s:Int}(hs:0≤s):BH Pg 26 [c.av,aI s] (aB (Hl c s)):=by
 intro S
 refine Ad.Bt (rA ?_)
 unfold m26
 refine Ai rfl fun S1 k1 n1 o1=>?_
 refine aF (fun w S'=>S'=S1∧∃ i:Nat,w=aI i∧i≤c.latches.length∧∀ j,j<i→(decide ((c.latches.getD j (0,0)).2=2) || decide (s.fdiv (2 ^ (c.inputs.toNat+j)) % 2=(c.latches.getD j (0,0)).2))=true)
  (fun w _=>c.latches.length - ((Aw w).getD 0).toNat) ⟨rfl,0,rfl,Ai9 _,fun j hj=>(AiF _ hj).elim⟩ ?_
 dsimp only[BS]
 rintro _ S1 ⟨rfl,i,rfl,hi,hok⟩ KE hKE
 dsimp only[vR,Fi,Lf]
 rw[Ac,Af o1 rfl rfl,Bv,As,Ag]
 refine Al (fun hlt=>?_) (fun hge=>?_)
 ·have hlt:i<c.latches.length:=by simpa using hlt
  have hget:c.latches.getD i (0,0)=c.latches[i]:=by simp[Ai2,hlt]
  have hadd:∀ K:AV→Aa→Prop,∀ S,bin .add 0 (.v (.int .i64 (i:Int))) (.v (.int .i64 1)) S K=K (aI (i+1:Nat)) S:=fun K S=>Ar (by omega) (by omega) 0
  have hno:(decide ((c.latches.getD i (0,0)).2=2) || decide (s.fdiv (2 ^ (c.inputs.toNat+i)) % 2=(c.latches.getD i (0,0)).2))=false→Hl c s=false:=fun hh=>by
   rw[Hl,Aj4]
   exact⟨i,by simpa using hlt,by rw[hh];decide⟩
  rw[hget]at hno
  have hnext:(decide (c.latches[i].2=2) || decide (s.fdiv (2 ^ (c.inputs.toNat+i)) % 2=c.latches[i].2))=true→KE 33 (Ix (aI s) (.p S.n 0 0) (aI (i+1:Nat))) S1:=fun hh=>hKE _ _ ⟨rfl,i+1,rfl,hlt,fun j hj=>by
   rcases AiS j i with h'|h'
   ·exact hok j h'
   ·have:j=i:=by omega
    subst this
    rw[hget];exact hh⟩ (by simp[Aw];omega)
  have e:c.inputs+(i:Int)=((c.inputs.toNat+i:Nat):Int):=by omega
  rw[Ac,Af o1 rfl rfl,Dd hlt,Fu,E0 (u:=aI c.latches[i].2) rfl,Bi,Ag]
  generalize c.latches[i]=x at *
  refine Al (fun h4=>?_) (fun h4=>?_)
  ·have h4:¬ x.2=2:=by simpa using h4
   have hnn:0≤s.fdiv (2 ^ (c.inputs.toNat+i)):=Int.fdiv_nonneg hs (Int.le_of_lt (Int.pow_pos (by decide)))
   rw[Ac,Af o1 rfl rfl,Ar (by omega) (by omega),e,HY (by omega),C3 (by decide),Bi,Ag,show(s.fdiv (2 ^ (c.inputs.toNat+i))).tmod 2=s.fdiv (2 ^ (c.inputs.toNat+i)) % 2 from AiX hnn]
   refine Al (fun h5=>⟨?_,k1⟩) (fun h5=>?_)
   ·have h5:¬ s.fdiv (2 ^ (c.inputs.toNat+i)) % 2=x.2:=by simpa using h5
    rw[hno (by simp only[h4,h5,decide_false,Bool.or_self])]
   ·have h5:s.fdiv (2 ^ (c.inputs.toNat+i)) % 2=x.2:=by simpa using h5
    rw[hadd]
    exact hnext (by simp only[h5,decide_true,Bool.or_true])
  ·have h4:x.2=2:=by simpa using h4
   rw[hadd]
   exact hnext (by simp only[h4,decide_true,Bool.true_or])
 ·have hge:i=c.latches.length:=by simp at hge;omega
  subst hge
  refine⟨?_,k1⟩
  have:Hl c s=true:=by
   rw[Hl,AiD]
   exact fun j hj=>hok j (by simpa using hj)
  rw[this]
theorem X2{c:Ci}{s:Nat}(hs:s<2 ^ c.gr.inputs.toNat):(A2 c).getD s []=DX c.gr (Cw s c.gr.inputs.toNat):=by
 simp[A2,Ai2,hs]
theorem PW{c:Ci}(h:c.right=true)(h10:c.gr.inputs≤60){s:Nat}(hs:s<2 ^ c.gr.inputs.toNat){l:Int}(hl:c.gr.lit l=true):DT c s l=Ei ((A2 c).getD s []) l:=by
 have hv:=Qz h hs
 rw[X2 hs]at hv ⊢
 obtain⟨g1,g2,g3⟩:=CJ h
 have hpos:0<(DX c.gr (Cw s c.gr.inputs.toNat)).length:=by
  have:1≤c.gr.vars:=by unfold Gr.vars;omega
  omega
 simp only[DT,h,Ai7,h10,decide_true,Gr.eval,hpos,hl]
theorem QA{c:Ci}(h:c.right=true)(h10:c.gr.inputs≤60){s:Nat}(hs:s<2 ^ c.gr.inputs.toNat){l:List Int}(hl:l.all c.gr.lit=true):l.all (DT c s)=l.all (Ei ((A2 c).getD s [])):=by
 have:=AiD.1 hl
 clear hl
 induction l with
 |nil=>rfl
 |cons a l ih =>
  rw[AjA,AjA,PW h h10 hs (this a (by simp)),ih fun x hx=>this x (by simp[hx])]
theorem Nq{c:Ci}(h:c.right=true)(h10:c.gr.inputs≤60){s:Nat}(hs:s<2 ^ c.gr.inputs.toNat):∀{i:Nat},i≤c.latches.length→Ds c s i=CB c ((A2 c).getD s []) i
 |0,_=>rfl
 |i+1,hi=>by
  have hlt:i<c.latches.length:=hi
  have hget:c.latches.getD i (0,0)=c.latches[i]:=by simp[Ai2,hlt]
  have hlit:c.gr.lit c.latches[i].1=true:=by
   have:=AiD.1 (Bp.1 h).2.2.2.2.2.2.2.1 _ (Ai6 hlt)
   simp only[Di,Ai5]at this
   exact this.1
  rw[Ds,CB,Nq h h10 hs (by omega),hget,PW h h10 hs hlit]
theorem K9{c:Ci}(h:c.right=true)(h10:c.gr.inputs≤60){s:Nat}(hs:s<2 ^ c.gr.inputs.toNat):G9 c s=CB c ((A2 c).getD s []) c.latches.length:=by
 rw[G9,h,decide_eq_true h10,Ai7,if_pos rfl,Nq h h10 hs (Ai4 _)]
abbrev Jp(i:Int):AV:=.v (.int .u16 i)
def BU(l:List Int)(k:Nat)(n:Int):Int:=if l.length<k+1 then 0 else(l.getD k 0).tmod n
theorem lU{S:Aa}{aid lid ta tl k:Nat}{l:List Int}{n:Int}{Q:Bg→Aa→Prop}(h1:S.obj aid=some (.cells ta [[aI k]] true))(h2:S.obj lid=some (.cells tl [[aL Jp l]] true))(hne:lid≠aid)
    (hl:∀ x∈l,0≤x∧x<65536) (hn:0<n) (hk:k≤1000000)
    (K:∀ S',S'.n=S.n→S'.obj aid=some (.cells ta [[aI (k+1:Nat)]] true)→(∀ x,x≠aid→S'.obj x=S.obj x)→Q (.ret (aI (BU l k n))) S'):Ad Pg 36 [aI n,.p aid 0 0,.p lid 0 0] S Q:=by
 refine qS ?_
 dsimp only[m36,Fi]
 have hadd:∀ K:AV→Aa→Prop,∀ S,bin .add 0 (.v (.int .i64 (k:Int))) (.v (.int .i64 1)) S K=K (aI (k+1:Nat)) S:=fun K S=>Ar (by omega) (by omega) 0
 rw[Af h1 rfl rfl,hadd]
 refine Cc h1 rfl rfl fun S1 n1 o1 f1=>?_
 have p1:=(f1 lid hne).trans h2
 rw[Af o1 rfl rfl,Af p1 rfl rfl,Ay,AP,Ag]
 refine Al (fun h=>?_) (fun h=>?_)
 ·have h:=dT h
  have:=K S1 n1 o1 f1
  rw[BU,if_pos (by omega)]at this
  exact this
 ·have h:=dF h
  have hlt:k<l.length:=by omega
  have hx:=hl _ (Ai6 hlt)
  have hsub:∀ K:AV→Aa→Prop,∀ S,bin .sub 0 (.v (.int .i64 ((k+1:Nat):Int))) (.v (.int .i64 1)) S K=K (aI k) S:=fun K S=>(Bz (by omega) (by omega) 0).trans (by rw[show((k+1:Nat):Int) - 1=k by omega])
  rw[Af p1 rfl rfl,Af o1 rfl rfl,hsub,AM hlt,A3,CT _ (by omega) (by omega),C3 (by omega)]
  have:=K S1 n1 o1 f1
  rw[BU,if_neg (by omega),show l.getD k 0=l[k]by simp[Ai2,hlt]]at this
  exact this
def xr(x y:Int):Int:=IntKind.i64.wrap (BitVec.ofInt 64 x ^^^ BitVec.ofInt 64 y).toNat
theorem VF{a b:Int}{S:Aa}{K:AV→Aa→Prop}:bin .xor 0 (aI a) (aI b) S K=K (aI (xr a b)) S:=by
 show BK (b2 .xor 0 (.int .i64 a) (.int .i64 b)) _=_
 have:b2 .xor 0 (.int .i64 a) (.int .i64 b)=some (.int .i64 (xr a b)):=rfl
 rw[this,BO]
theorem Wb{g:Gr}(hg:g.ok){a b:Int}(ha:By a)(hb:By b):(g.and a b).1.ok:=by
 have h0:(⟨0,[]⟩:Gr).ok:=⟨⟨by decide,by decide⟩,by simp,fun p hp=>by simp at hp⟩
 unfold Gr.and
 split
 ·exact h0
 ·rename_i h1
  have hr:g.right=true:=by
   cases e:g.right with
   |true=>rfl
   |false=>exact absurd (by rw[e];rfl) h1
  unfold Sd
  have hx:By (if b > a then b else a):=by split<;>assumption
  have hy:By (if b<a then b else a):=by split<;>assumption
  generalize(if b > a then b else a)=x at *
  generalize(if b<a then b else a)=y at *
  repeat' split
  all_goals first|exact hg|exact h0|skip
  obtain⟨_,_,r3,_⟩:=CF.1 hr
  refine⟨hg.inp,by simp;omega,fun p hp=>?_⟩
  rcases AiQ.1 hp with hp|hp
  ·exact hg.pairs p hp
  ·have:p=(x,y):=by simpa using hp
   subst this
   exact⟨hx,hy⟩
def N6(g:Gr)(last:Int)(s:Int):Gr × Int:=
 let many:=2*g.vars
 let r:=g.and (s.tmod many) ((s.tdiv many).tmod many)
 if r.2.2=0 then(r.1,xr r.2.1 ((s.tdiv 7).tmod 2))else(g,last)
def AQ(n:Int)(l:List Int):Nat→Gr × Int
 |0=>(⟨n,[]⟩,1)
 |i+1=>N6 (AQ n l i).1 (AQ n l i).2 (l.getD i 0)
theorem VR{g:Gr}{a b:Int}(h:(g.and a b).2.2=0):(g.and a b).1.inputs=g.inputs:=by
 revert h
 unfold Gr.and
 split
 ·intro h;cases h
 ·unfold Sd
  generalize(if b > a then b else a)=x
  generalize(if b<a then b else a)=y
  repeat' split
  all_goals first|(intro _;rfl)|(intro h;cases h)
theorem GM(n:Int)(l:List Int):∀ i,(AQ n l i).1.inputs=n
 |0=>rfl
 |i+1=>by
  have ih:=GM n l i
  simp only[AQ,N6]
  split
  ·rename_i h
   rw[VR h,ih]
  ·exact ih
theorem Ic{a b:Int}(h0:0≤a)(h1:a≤65536)(hb:0<b):0≤a.tmod b∧a.tmod b≤65536:=by
 rw[AiX h0]
 have h2:=Int.emod_nonneg a (show b≠0 by omega)
 have h3:a % b≤a:=by
  have h4:=Int.mul_ediv_add_emod a b
  have h5:0≤b*(a / b):=Int.mul_nonneg (by omega) (Int.ediv_nonneg h0 (by omega))
  omega
 omega
theorem KT{n:Int}(hn:By n){l:List Int}(hl:∀ x∈l,0≤x∧x<65536)(h0:0≤n):∀ i,(AQ n l i).1.ok
 |0=>⟨hn,by simp[AQ],fun p hp=>by simp[AQ]at hp⟩
 |i+1=>by
  have ih:=KT hn hl h0 i
  have hv:0<2*(AQ n l i).1.vars:=by
   have:=GM n l i
   unfold Gr.vars
   omega
  have hx:0≤l.getD i 0∧l.getD i 0≤65536:=by
   rw[Ai2]
   rcases AiS i l.length with h|h
   ·rw[Ai3 h]
    have:=hl _ (Ai6 h)
    exact⟨this.1,by show l[i]≤65536;omega⟩
   ·rw[AiZ h]
    exact⟨by decide,by decide⟩
  have hd:0≤(l.getD i 0).tdiv (2*(AQ n l i).1.vars)∧(l.getD i 0).tdiv (2*(AQ n l i).1.vars)≤65536:=by
   rw[AiI hx.1]
   have h1:=Int.ediv_nonneg hx.1 (show 0≤2*(AQ n l i).1.vars by omega)
   have h2:=Int.ediv_le_self (2*(AQ n l i).1.vars) hx.1
   omega
  have ha:=Ic hx.1 hx.2 hv
  have hb:=Ic hd.1 hd.2 hv
  simp only[AQ,N6]
  split
  ·exact Wb ih ⟨by omega,by omega⟩ ⟨by omega,by omega⟩
  ·exact ih
theorem Dq{g:Gr}{l:Int}:g.lit l=true↔0≤g.inputs∧g.inputs≤2000∧0≤l∧l / 2<g.vars:=by
 simp only[Gr.lit,Ai5,decide_eq_true_eq]
 constructor
 ·rintro⟨h1,h2,h3,h4⟩
  rw[AiI h3]at h4
  exact⟨h1,h2,h3,h4⟩
 ·rintro⟨h1,h2,h3,h4⟩
  rw[AiI h3]
  exact⟨h1,h2,h3,h4⟩
theorem and_right{g:Gr}(h:g.right=true){a b:Int}(e:(g.and a b).2.2=0):
    (g.and a b).1.right=true∧(g.and a b).1.lit (g.and a b).2.1=true∧(g.and a b).1.vars≤g.vars+1∧g.vars≤(g.and a b).1.vars∧(g.and a b).1.inputs=g.inputs:=by
 have hin:=VR e
 obtain⟨r1,r2,r3,r4,r5,r6⟩:=CF.1 h
 have hv:g.vars=g.inputs+1+g.ands.length:=rfl
 revert e
 unfold Gr.and
 split
 ·intro e;cases e
 ·rename_i hl
  have hl:(g.right && (g.lit a && g.lit b))=true:=by simpa using hl
  simp only[Ai5]at hl
  obtain⟨_,la,lb⟩:=hl
  have lx:g.lit (if b > a then b else a)=true:=by split<;>assumption
  have ly:g.lit (if b<a then b else a)=true:=by split<;>assumption
  have hxy:(if b<a then b else a)≤(if b > a then b else a):=by split<;>split<;>omega
  generalize(if b > a then b else a)=x at *
  generalize(if b<a then b else a)=y at *
  obtain⟨_,_,x0,x1⟩:=Dq.1 lx
  obtain⟨_,_,y0,y1⟩:=Dq.1 ly
  unfold Sd
  split
  ·intro _;exact⟨h,Dq.2 ⟨r1,r2,Int.le_refl _,by show(0:Int) / 2<g.vars;omega⟩,by show g.vars≤_;omega,Int.le_refl _,rfl⟩
  rename_i hy0
  split
  ·intro _;exact⟨h,Dq.2 ⟨r1,r2,Int.le_refl _,by show(0:Int) / 2<g.vars;omega⟩,by show g.vars≤_;omega,Int.le_refl _,rfl⟩
  rename_i hd
  split
  ·intro _;exact⟨h,lx,by show g.vars≤_;omega,Int.le_refl _,rfl⟩
  rename_i hy1
  split
  ·intro _;exact⟨h,lx,by show g.vars≤_;omega,Int.le_refl _,rfl⟩
  rename_i hne
  rw[AiI x0,AiI y0]at hd
  split
  ·rename_i i hi
   obtain⟨hi,_,_⟩:=AjD.1 hi
   intro _
   exact⟨h,Dq.2 ⟨r1,r2,by show 0≤2*(g.inputs+1+(i:Int));omega,by show 2*(g.inputs+1+(i:Int)) / 2<g.vars;omega⟩,by show g.vars≤_;omega,Int.le_refl _,rfl⟩
  ·rename_i hi
   split
   ·intro e;cases e
   ·rename_i hbig
    intro _
    have hv':(⟨g.inputs,g.ands ++ [(x,y)]⟩:Gr).vars=g.vars+1:=by simp[Gr.vars];omega
    refine⟨CF.2 ⟨r1,r2,by simp;omega,by rw[hv'];omega,fun j hj=>?_,?_⟩,Dq.2 ⟨r1,r2,by show 0≤2*(g.vars+1) - 2;omega,by rw[hv'];show(2*(g.vars+1) - 2) / 2<_;omega⟩,by rw[hv'];omega,by rw[hv'];omega,rfl⟩
    ·rcases AiS j g.ands.length with hj'|hj'
     ·have:=r5 j hj'
      simpa[Ai2,List.getElem?_append_left hj']using this
     ·have hj2:j=g.ands.length:=by simp at hj;omega
      subst hj2
      have:(g.ands ++ [(x,y)]).getD g.ands.length (0,0)=(x,y):=by simp[Ai2]
      show may ((g.ands ++ [(x,y)]).getD g.ands.length (0,0)) _=true
      rw[this]
      simp only[may,Ai5,decide_eq_true_eq]
      rw[AiI x0,AiI y0]
      refine⟨by omega,?_,?_⟩
      ·have:x / 2≠y / 2:=fun q=>hd ⟨q,hne⟩
       omega
      ·show x / 2<g.inputs+1+(g.ands.length:Int);omega
    ·show(g.ands ++ [(x,y)]).Nodup
     rw[AjI]
     refine⟨r6,by simp,fun p hp q hq=>?_⟩
     have:q=(x,y):=by simpa using hq
     subst this
     rintro rfl
     have:=AjG.1 hi _ hp
     simp at this
theorem xG(a b:Nat)(ha:a<2 ^ 62)(hb:b<2 ^ 62):xr (a:Int) (b:Int)=((a ^^^ b:Nat):Int):=by
 have h1:a ^^^ b<2 ^ 62:=Nat.xor_lt_two_pow ha hb
 have hp:(2:Nat) ^ 62=4611686018427387904:=by decide
 unfold xr
 have e:(BitVec.ofInt 64 (a:Int) ^^^ BitVec.ofInt 64 (b:Int)).toNat=a ^^^ b:=by
  rw[BitVec.toNat_xor,BitVec.ofInt_natCast,BitVec.ofInt_natCast,BitVec.toNat_ofNat,BitVec.toNat_ofNat,Nat.mod_eq_of_lt (by omega),Nat.mod_eq_of_lt (by omega)]
 rw[e,wrap64 (by omega) (by omega)]
theorem kS{a b:Int}(h0:0≤a)(h1:a≤1000000)(hb:b=0∨b=1):0≤xr a b∧xr a b / 2=a / 2∧xr a b≤1000001:=by
 obtain⟨n,rfl⟩:=AiE h0
 obtain⟨m,rfl,hm⟩:∃ m:Nat,b=(m:Int)∧m<2:=by rcases hb with rfl|rfl;exact⟨0,rfl,by decide⟩;exact⟨1,rfl,by decide⟩
 have hp:(2:Nat) ^ 62=4611686018427387904:=by decide
 rw[xG n m (by omega) (by omega)]
 have:(n ^^^ m) / 2=n / 2:=by
  rw[Nat.xor_div_two,show m / 2=0 by omega,Nat.xor_zero]
 omega
theorem JC{n:Int}(h0:0≤n)(hn:n≤100){l:List Int}(hl:∀ x∈l,0≤x∧x<65536):∀ i,i≤40→(AQ n l i).1.right=true∧(AQ n l i).1.lit (AQ n l i).2=true∧n+1≤(AQ n l i).1.vars∧(AQ n l i).1.vars≤n+1+i
 |0,_=>by
  refine⟨CF.2 ⟨h0,by show n≤2000;omega,by show((0:Nat):Int)≤2000;decide,by show n+1+0≤2000;omega,fun j hj=>by simp[AQ]at hj,by simp[AQ]⟩,Dq.2 ⟨h0,by show n≤2000;omega,by show(0:Int)≤1;decide,by show(1:Int) / 2<n+1+0;omega⟩,by show _≤n+1+0;omega,by show n+1+0≤_;omega⟩
 |i+1,hi=>by
  obtain⟨h1,h2,h3,h4⟩:=JC h0 hn hl i (by omega)
  have hx:0≤l.getD i 0:=by
   rw[Ai2]
   rcases AiS i l.length with h|h
   ·rw[Ai3 h]
    exact(hl _ (Ai6 h)).1
   ·rw[AiZ h]
    exact Int.le_refl 0
  simp only[AQ,N6]
  split
  ·rename_i he
   obtain⟨k1,k2,k3,k4,k5⟩:=and_right h1 he
   generalize(AQ n l i).1.and ((l.getD i 0).tmod (2*(AQ n l i).1.vars)) (((l.getD i 0).tdiv (2*(AQ n l i).1.vars)).tmod (2*(AQ n l i).1.vars))=r at *
   obtain⟨l1,l2,l3,l4⟩:=Dq.1 k2
   have hb:((l.getD i 0).tdiv 7).tmod 2=0∨((l.getD i 0).tdiv 7).tmod 2=1:=by
    rw[AiI hx,AiX (by omega)]
    omega
   obtain⟨q1,q2,_⟩:=kS (a:=r.2.1) l3 (by omega) hb
   exact⟨k1,Dq.2 ⟨l1,l2,q1,by rw[q2];exact l4⟩,by show _≤r.1.vars;omega,by show r.1.vars≤_;omega⟩
  ·exact⟨h1,h2,h3,by show(AQ n l i).1.vars≤_;omega⟩
structure D2 (c:Ci):Prop where
 ok:c.ok
 right:c.right=true
 inp:0≤c.inputs∧c.inputs≤3
 lats:1≤c.latches.length∧c.latches.length≤3
 ands:c.ands.length≤8
 outs:c.outs.length≤2
 bads:c.bads.length≤1
 cons:c.cons.length≤1
 fair:c.fair.length≤1
 names:∃(b1 b2:Bool) (t:ByteArray),c.names=(if b1 then[⟨108,0,⟨#[113]⟩⟩]else[])++(if b2 then[⟨111,c.outs.length - 1,t⟩]else[])∧(b2=true→0<c.outs.length∧(t=⟨#[111,117,116]⟩∨t=⟨#[108,49]⟩∨t=⟨#[97,45,98]⟩))
section
set_option maxRecDepth 100000
def c37:Code:=(Tryz.f37.body).getD .skip
def r37:List ResultVar:=Tryz.f37.results.toList
def Iv(y1 y4 y6 y7 y8:AV):List AV:=[y1,y4,y6,y7,y8]
def TF:List Nat:=[1,4,6,7,8]
def Y4:List (List Nat):=[TF,[]]
def m37(x0 x1:AV)(S:Aa)(Q:Aq):Prop:=
 Az 61 2 (.a [aI 0,.nl]) S fun c S=>CH [(0,1),(1,1)] [aI 0,.nl] [(0,x0)] S fun d S=>Az 61 2 (.a [aI 0,.nl]) S fun e S=>A8 2 e d S fun f S=>Ap TF (vc Pg (c37.at_ [1,1,1,0,1,0,0]) (Y4.drop 1)) 68 (Iv x1 c e (aI 1) (aI 0)) S (Ak 0 (Av (vc Pg (c37.at_ [1,1,1,1]) (Y4.drop 1)) (Ao Pg r37 Q)))
theorem qR{x0 x1:AV}{S:Aa}{Q:Aq}(h:m37 x0 x1 S Q):Ad Pg 37 [x0,x1] S Q:=
 Bl (n:=68) Y4 Tryz.func37 (by kernel_rfl) (Eq.mpr (by kernel_rfl) h)
def vK(y1 y4 y6 y7 y8:AV)(S:Aa)(KE0:BB)(Q:Aq):Prop:=
 AG y1 S fun c S=>bin .lss 0 y8 c S fun d S=>Fi d (bin .lss 0 y8 (aI 40) S fun e S=>Fi e (AA 2 y6 S fun f S=>Ah Pg 16 [f] S Q fun g S=>bin .mul 0 (aI 2) g S fun h S=>(fun S0:Aa=>Lq S0 (AR 87 1 y1 y8) fun i=>Lq S0 (Ax i) fun k=>Lq S0 (Cf .i64 k) fun l=>Lq S0 (bin .rem 0 l h) fun m=>Lq S0 (AR 87 1 y1 y8) fun n=>Lq S0 (Ax n) fun o=>Lq S0 (Cf .i64 o) fun p=>Lq S0 (bin .quo 0 p h) fun q=>Lq S0 (bin .rem 0 q h) fun r=>AA 2 y6 S fun s S=>Ah Pg 84 [s,m,r] S Q fun u S=>A0 u 0 S fun v S=>A0 u 1 S fun w S=>A0 u 2 S fun x S=>Az 61 2 (.a [aI 0,.nl]) S fun y S=>A8 2 y v S fun z S=>bin .eql 0 x (aI 0) S fun A S=>Fi A (Lt S (AA 2 y) fun B=>Lt S (AR 87 1 y1 y8) fun C=>Lt S (Ax C) fun D=>Lt S (Cf .i64 D) fun E=>Lt S (bin .quo 0 E (aI 7)) fun F=>Lt S (bin .rem 0 F (aI 2)) fun G=>Lt S (bin .xor 0 w G) fun H=>A8 2 y6 B S fun I S=>(∀ T:Aa,Am S T→bin .xor 0 w G T fun J S=>J=H∧S=T)∧(∀ T:Aa,Am S T→bin .rem 0 F (aI 2) T fun K S=>K=G∧S=T)∧(∀ T:Aa,Am S T→bin .quo 0 E (aI 7) T fun L S=>L=F∧S=T)∧(∀ T:Aa,Am S T→Cf .i64 D T fun M S=>M=E∧S=T)∧(∀ T:Aa,Am S T→Ax C T fun N S=>N=D∧S=T)∧(∀ T:Aa,Am S T→AR 87 1 y1 y8 T fun O S=>O=C∧S=T)∧bin .add 0 y8 (aI 1) S fun P S=>KE0 68 (Iv y1 y4 y6 H P) S) (bin .add 0 y8 (aI 1) S fun R S=>KE0 68 (Iv y1 y4 y6 y7 R) S)) S) (AA 2 y6 S fun U S=>A8 2 y4 U S fun V S=>AA 2 y4 S fun W _=>Q (.ret (.t [W,y7])) S)) (AA 2 y6 S fun X S=>A8 2 y4 X S fun Y S=>AA 2 y4 S fun Z _=>Q (.ret (.t [Z,y7])) S)
theorem Z7{y1 y4 y6:AV}{y70 y80:AV}{S:Aa}{Q:Aq}(I:AV→AV→Aa→Prop)(μ:AV→AV→Aa→Nat)(h0:I y70 y80 S)(hr:DE (fun y7 y8=>Iv y1 y4 y6 y7 y8) 68 I μ fun y7 y8 S KE0=>vK y1 y4 y6 y7 y8 S KE0 Q):
 Ap TF (vc Pg (c37.at_ [1,1,1,0,1,0,0]) (Y4.drop 1)) 68 (Iv y1 y4 y6 y70 y80) S (Ak 0 (Av (vc Pg (c37.at_ [1,1,1,1]) (Y4.drop 1)) (Ao Pg r37 Q))):=IN (E:=fun y7 y8=>Iv y1 y4 y6 y7 y8) 3 4 (fun _ _=>⟨rfl,rfl⟩) (fun _ _ _ _=>by kernel_rfl) h0 hr
end
theorem HJ(S:Aa):S.Bx (fun _=>false)=S:=by
 cases S with
 |mk n obj =>
  unfold Aa.Bx
  congr 1
  funext i
  cases h:obj i with
  |none=>simp[h]
  |some o=>simp[h,T7]
theorem Sc{P:Program}{f:FuncId}{args args2:List AV}{S:Aa}{r:AV}(hl:args.length=args2.length)(hcv:∀(k:Nat) (u u2:AV),args[k]? = some u→args2[k]? = some u2→Cv S S.n u u2)(h:AW P f args2 S r):AW P f args S r:=by
 refine Ad.Bx (fun _=>false) hl ?_ ?_
 ·rw[HJ];exact hcv
 ·rw[HJ];exact h
theorem AhT{n:Int}(h0:0≤n)(hn:n≤1000){l:List Int}(hl:∀ x∈l,0≤x∧x<65536)(hlen:l.length≤1000000){S:Aa}{x1:AV}(hx1:∀(T:Aa) (K:AV→Aa→Prop),AG x1 T K=K (aI l.length) T)
    {P:Nat→AV} (hP:∀ T,Am S T→∀ i (h:i<l.length),(∀ K:AV→Aa→Prop,AR 87 1 x1 (aI i) T K=K (P i) T)∧∀ K:AV→Aa→Prop,Ax (P i) T K=K (Jp l[i]) T):
    AW Pg 37 [aI n,x1] S (.t [(AQ n l (min l.length 40)).1.av,aI (AQ n l (min l.length 40)).2]):=by
 refine Ad.tree (qR ?_)
 unfold m37
 have hok:=KT (n:=n) ⟨by omega,by omega⟩ hl h0
 have hin:=GM n l
 refine Ai rfl fun S1 k1 n1 o1=>?_
 rw[A7 (cs:=[aI n,.nl]) rfl]
 refine Ai rfl fun S2 k2 n2 o2=>?_
 refine AF o2 rfl rfl fun S3 n3 o3 f3=>?_
 have k3:Am S S3:=(k1.trans k2).st (by omega) n3 f3
 refine Z7 (fun y w S'=>Am S S'∧S3.n≤S'.n∧S'.obj S.n=some (.cells 61 [[aI 0,.nl]] true)∧∃ i:Nat,w=aI i∧i≤min l.length 40∧y=aI (AQ n l i).2∧
     (((AQ n l i).1=⟨n,[]⟩∧S'.obj S1.n=some (.cells 61 [[aI n,.nl]] true))∨S'.obj S1.n=some (.cells 61 [(AQ n l i).1.cells] true)))
  (fun _ w _=>40 - ((Aw w).getD 0).toNat) ⟨k3,Ai4 _,(f3 _ (by omega)).trans (Kg k2 o1),0,rfl,Ai9 _,rfl,.inl ⟨rfl,o3⟩⟩ ?_
 dsimp only[DE]
 rintro _ _ S4 ⟨k4,n4,p4,i,rfl,hi,rfl,hg⟩ KE hKE
 have hk3:=k3.1
 obtain⟨cs,hcs,hcl,hcv⟩:∃ cs,S4.obj S1.n=some (.cells 61 [cs] true)∧cs.length=2∧∀(T:Aa) (m:Nat),Cv T m (.a cs) (AQ n l i).1.av:=by
  rcases hg with⟨e,h⟩|h
  ·exact⟨_,h,rfl,fun T m=>by rw[e];exact bX (.v _) .nl⟩
  ·exact⟨_,h,rfl,fun T m=>Gr.tree _ _ _⟩
 have hgi:=hin i
 have hgo:=hok i
 have hlen2:=hgo.len
 have fin:i=min l.length 40→AA 2 (.p S1.n 0 0) S4 fun v S5=>A8 2 (.p S.n 0 0) v S5 fun _ S5=>AA 2 (.p S.n 0 0) S5 fun v S6=>∃ r,Bg.ret (.t [v,aI (AQ n l i).2]) = .ret r∧Am S S6∧Cv (S6.Bx (AK S.n)) S.n r (.t [(AQ n l (min l.length 40)).1.av,aI (AQ n l (min l.length 40)).2]):=fun e=>by
  rw[An (n:=2) hcs hcl]
  refine AF p4 hcl rfl fun S5 n5 o5 f5=>?_
  rw[An (n:=2) o5 hcl]
  exact⟨_,rfl,k4.st (Ai4 _) n5 f5,by rw[←e];exact DN (hcv _ _) (.v _)⟩
 dsimp only[vK,Fi,Lt,Lq]
 rw[hx1,As,Ag]
 refine Al (fun hlt=>?_) (fun hge=>fin (by have:=dF hge;omega))
 rw[As,Ag]
 refine Al (fun h40=>?_) (fun hge=>fin (by have:¬ ((i:Int)<40):=dF hge;omega))
 have hlt:i<l.length:=by have:=dT hlt;omega
 have h40:i<40:=by have:((i:Int)<40):=dT h40;omega
 obtain⟨hP1,hP2⟩:=hP S4 k4 i hlt
 have hx:=hl _ (Ai6 hlt)
 have hgd:l.getD i 0=l[i]:=by simp[Ai2,hlt]
 have hv:0<2*(AQ n l i).1.vars:=by unfold Gr.vars;omega
 have hv2:(AQ n l i).1.vars≤1002000:=by unfold Gr.vars;omega
 have hd:0≤l[i].tdiv (2*(AQ n l i).1.vars)∧l[i].tdiv (2*(AQ n l i).1.vars)≤65536:=by
  rw[AiI hx.1]
  have h1:=Int.ediv_nonneg hx.1 (show 0≤2*(AQ n l i).1.vars by omega)
  have h2:=Int.ediv_le_self (2*(AQ n l i).1.vars) hx.1
  omega
 have ha:=Ic hx.1 (by omega) hv
 have hb:=Ic hd.1 hd.2 hv
 have cv1:∀(T:Aa) (k:Nat) (u u2:AV),[AV.a cs][k]? = some u→[(AQ n l i).1.av][k]? = some u2→Cv T T.n u u2:=fun T k u u2 hu hu2=>by
  match k with
  |0=>cases hu;cases hu2;exact hcv _ _
  |k+1=>simp at hu
 rw[An (n:=2) hcs hcl]
 have hva:AW Pg 16 [.a cs] S4 (aI (AQ n l i).1.vars):=Sc (args2:=[(AQ n l i).1.av]) rfl (cv1 S4) (OD hgo (by omega) (by omega) S4)
 refine Au hva ?_
 rw[G7 (by omega) (by omega)]
 show ∃ q13:AV,_
 refine⟨_,by rw[hP1];exact⟨rfl,rfl⟩,?_⟩
 refine⟨_,by rw[hP2];exact⟨rfl,rfl⟩,?_⟩
 refine⟨aI l[i],by rw[CT _ (by omega) (by omega)];exact⟨rfl,rfl⟩,?_⟩
 refine⟨aI (l[i].tmod (2*(AQ n l i).1.vars)),by rw[C3 (by omega)];exact⟨rfl,rfl⟩,?_⟩
 refine⟨_,by rw[hP1];exact⟨rfl,rfl⟩,?_⟩
 refine⟨_,by rw[hP2];exact⟨rfl,rfl⟩,?_⟩
 refine⟨aI l[i],by rw[CT _ (by omega) (by omega)];exact⟨rfl,rfl⟩,?_⟩
 refine⟨aI (l[i].tdiv (2*(AQ n l i).1.vars)),by rw[FJ (by omega) (by omega) (by omega)];exact⟨rfl,rfl⟩,?_⟩
 refine⟨aI ((l[i].tdiv (2*(AQ n l i).1.vars)).tmod (2*(AQ n l i).1.vars)),by rw[C3 (by omega)];exact⟨rfl,rfl⟩,?_⟩
 have hand:AW Pg 84 [.a cs,aI (l[i].tmod (2*(AQ n l i).1.vars)),aI ((l[i].tdiv (2*(AQ n l i).1.vars)).tmod (2*(AQ n l i).1.vars))] S4 (VS ((AQ n l i).1.and (l[i].tmod (2*(AQ n l i).1.vars)) ((l[i].tdiv (2*(AQ n l i).1.vars)).tmod (2*(AQ n l i).1.vars)))):=
  Sc (args2:=[(AQ n l i).1.av,aI (l[i].tmod (2*(AQ n l i).1.vars)),aI ((l[i].tdiv (2*(AQ n l i).1.vars)).tmod (2*(AQ n l i).1.vars))]) rfl (fun k u u2 hu hu2=>by
   match k with
   |0=>cases hu;cases hu2;exact hcv _ _
   |1|2=>cases hu;cases hu2;exact .v _
   |k+3=>simp at hu) (Ag7 hgo ⟨by omega,by omega⟩ ⟨by omega,by omega⟩ S4)
 rw[An (n:=2) hcs hcl]
 refine Au hand ?_
 have hs:AQ n l (i+1)=N6 (AQ n l i).1 (AQ n l i).2 l[i]:=by rw[AQ,hgd]
 simp only[N6]at hs
 generalize(AQ n l i).1.and (l[i].tmod (2*(AQ n l i).1.vars)) ((l[i].tdiv (2*(AQ n l i).1.vars)).tmod (2*(AQ n l i).1.vars))=r at *
 unfold VS
 rw[B2,BV,E4]
 refine Ai rfl fun S5 k5 n5 o5=>?_
 refine AF o5 rfl rfl fun S6 n6 o6 f6=>?_
 have k6:Am S4 S6:=k5.st (Ai4 _) n6 f6
 have p6:=(Kg k6 p4)
 have c6:=(k6.2 S1.n (by omega)).trans hcs
 have hadd:∀ K:AV→Aa→Prop,∀ S,bin .add 0 (.v (.int .i64 (i:Int))) (.v (.int .i64 1)) S K=K (aI (i+1:Nat)) S:=fun K S=>Ar (by omega) (by omega) 0
 have hμ:40 - ((Aw (aI (i+1:Nat))).getD 0).toNat<40 - ((Aw (aI i)).getD 0).toNat:=by simp[Aw];omega
 rw[AD,Ag]
 refine Al (fun h=>?_) (fun h=>?_)
 ·have h:r.2.2=0:=dT h
  simp only[h,if_true]at hs
  have qq:0≤l[i].tdiv 7∧l[i].tdiv 7≤65536:=by
   rw[AiI hx.1];omega
  have e1:∀(T:Aa) (K:AV→Aa→Prop),Cf .i64 (Jp l[i]) T K=K (aI l[i]) T:=fun T K=>CT _ (by omega) (by omega)
  have e2:∀(T:Aa) (K:AV→Aa→Prop),bin .quo 0 (aI l[i]) (.v (.int .i64 7)) T K=K (aI (l[i].tdiv 7)) T:=fun T K=>FJ (by decide) (by omega) (by omega) 0
  have e3:∀(T:Aa) (K:AV→Aa→Prop),bin .rem 0 (aI (l[i].tdiv 7)) (.v (.int .i64 2)) T K=K (aI ((l[i].tdiv 7).tmod 2)) T:=fun T K=>C3 (by decide) _ 0
  have pT:∀{T:Aa},Am S T→_:=fun{T} hT=>hP T hT i hlt
  refine⟨.a r.1.cells,fun T hT=>by rw[An (n:=2) (Kg hT o6) rfl];exact⟨rfl,rfl⟩,P i,fun T hT=>by rw[(pT ((k4.trans k6).trans hT)).1];exact⟨rfl,rfl⟩,_,fun T hT=>by rw[(pT ((k4.trans k6).trans hT)).2];exact⟨rfl,rfl⟩,_,fun T hT=>by rw[e1];exact⟨rfl,rfl⟩,_,fun T hT=>by rw[e2];exact⟨rfl,rfl⟩,_,fun T hT=>by rw[e3];exact⟨rfl,rfl⟩,_,fun T hT=>by rw[VF];exact⟨rfl,rfl⟩,?_⟩
  refine AF c6 rfl hcl fun S7 n7 o7 f7=>?_
  have k7:Am S S7:=(k4.trans k6).st (by omega) n7 f7
  refine⟨fun T hT=>by rw[VF];exact⟨rfl,rfl⟩,fun T hT=>by rw[e3];exact⟨rfl,rfl⟩,fun T hT=>by rw[e2];exact⟨rfl,rfl⟩,fun T hT=>by rw[e1];exact⟨rfl,rfl⟩,fun T hT=>by rw[(pT (k7.trans hT)).2];exact⟨rfl,rfl⟩,fun T hT=>by rw[(pT (k7.trans hT)).1];exact⟨rfl,rfl⟩,?_⟩
  rw[hadd]
  exact hKE _ _ _ ⟨k7,by have:=k6.1;omega,(f7 _ (by omega)).trans p6,i+1,rfl,by omega,by rw[hs],.inr (by rw[hs];exact o7)⟩ hμ
 ·have h:¬ r.2.2=0:=dF h
  simp only[h,if_false]at hs
  rw[hadd]
  refine hKE _ _ _ ⟨k4.trans k6,by have:=k6.1;omega,p6,i+1,rfl,by omega,by rw[hs],?_⟩ hμ
  rcases hg with⟨e,h'⟩|h'
  ·exact .inl ⟨by rw[hs];exact e,(k6.2 S1.n (by omega)).trans h'⟩
  ·exact .inr (by rw[hs];exact(k6.2 S1.n (by omega)).trans h')
section
set_option maxRecDepth 100000
def I3:Code:=(Tryz.f11.body).getD .skip
def XU:List ResultVar:=Tryz.f11.results.toList
def IA(y1 y2 y4 y5 y6:AV):List AV:=[y1,y2,y4,y5,y6]
def TR:List Nat:=[1,2,4,5,6]
def Ec(y1 y2 y4 y5 y8:AV):List AV:=[y1,y2,y4,y5,y8]
def Ji:List Nat:=[1,2,4,5,8]
def G4(y1 y2 y4 y5 y8 y9 y10:AV):List AV:=[y1,y2,y4,y5,y8,y9,y10]
def TQ:List Nat:=[1,2,4,5,8,9,10]
def DM(y1 y2 y4 y5 y11:AV):List AV:=[y1,y2,y4,y5,y11]
def Jh:List Nat:=[1,2,4,5,11]
def Iz(y1 y2 y4 y5 y11 y12 y13 y14:AV):List AV:=[y1,y2,y4,y5,y11,y12,y13,y14]
def TP:List Nat:=[1,2,4,5,11,12,13,14]
def Dc:List (List Nat):=[TR,Ji,TQ,Jh,TP,[]]
def m11(x0:AV)(S:Aa)(Q:Aq):Prop:=
 Az 29 8 x0 S fun c S=>Az 45 5 (.a XN) S fun d S=>AA 8 c S fun e S=>Ah Pg 24 [e] S Q fun f S=>un .not f S fun g S=>Fi g (CH Uz XN [] S fun h S=>A8 5 d h S fun i S=>AA 5 d S fun k _=>Q (.ret (.t [k,aI 1])) S) (Lf c 0 S fun l S=>Lf c 1 S fun m S=>AG m S fun n S=>bin .add 0 l n S fun o S=>bin .gtr 0 o (aI 10) S fun p S=>Fi p (CH Uz XN [] S fun q S=>A8 5 d q S fun r S=>AA 5 d S fun s _=>Q (.ret (.t [s,aI 2])) S) (CH Uz XN [(0,o)] S fun u S=>Az 45 5 (.a XN) S fun v S=>A8 5 v u S fun w S=>Ap TR (vc Pg (I3.at_ [1,1,1,1,1,0,1,0,0]) (Dc.drop 1)) 138 (IA c d o v (aI 0)) S (Ak 0 (Av (vc Pg (I3.at_ [1,1,1,1,1,1]) (Dc.drop 1)) (Ao Pg XU Q)))))
theorem rO{x0:AV}{S:Aa}{Q:Aq}(h:m11 x0 S Q):Ad Pg 11 [x0] S Q:=
 Bl (n:=138) Dc Tryz.func11 (by kernel_rfl) (Eq.mpr (by kernel_rfl) h)
def vZ(y1 y2 y4 y5 y6:AV)(S:Aa)(KE0:BB)(Q:Aq):Prop:=
 bin .shl 0 (aI 1) y4 S fun a S=>bin .lss 0 y6 a S fun c S=>Fi c (AA 8 y1 S fun d S=>Lf y1 5 S fun e S=>Ah Pg 25 [d,y6,e] S Q fun f S=>Lf y5 1 S fun g S=>AU 4 1 1 [.v (.bool false)] [(0,f)] S fun h S=>Bo 4 1 1 g h S fun i S=>shift y5 1 S fun k S=>A8 1 k i S fun l S=>Lt S (shift y5 2) fun m=>Lt S (Ax m) fun n=>Fi f (Lt S (AA 8 y1) fun o=>Lc S 26 [o,y6] fun p=>∃ q:AV,(∀ T:Aa,Am S T→p=q∧T=T)∧Lt S (AU 4 1 1 [.v (.bool false)] [(0,q)]) fun r=>Bo 4 1 1 n r S fun s S=>Lt S (shift y5 2) fun t=>A8 1 t s S fun u S=>bin .add 0 y6 (aI 1) S fun w S=>KE0 138 (IA y1 y2 y4 y5 w) S) (∃ x:AV,(∀ T:Aa,Am S T→(.v (.bool false))=x∧T=T)∧Lt S (AU 4 1 1 [.v (.bool false)] [(0,x)]) fun y=>Bo 4 1 1 n y S fun z S=>Lt S (shift y5 2) fun A=>A8 1 A z S fun B S=>bin .add 0 y6 (aI 1) S fun C S=>KE0 138 (IA y1 y2 y4 y5 C) S)) (Ap Ji (vc Pg (I3.at_ [1,1,1,1,1,1,0,1,0,0]) (Dc.drop 2)) 138 (Ec y1 y2 y4 y5 (aI 0)) S (Ak 2 (Av (vc Pg (I3.at_ [1,1,1,1,1,1,1]) (Dc.drop 3)) (Ao Pg XU Q))))
theorem aP{y1 y2 y4 y5:AV}{y60:AV}{S:Aa}{Q:Aq}(I:AV→Aa→Prop)(μ:AV→Aa→Nat)(h0:I y60 S)(hr:BS (fun y6=>IA y1 y2 y4 y5 y6) 138 I μ fun y6 S KE0=>vZ y1 y2 y4 y5 y6 S KE0 Q):
 Ap TR (vc Pg (I3.at_ [1,1,1,1,1,0,1,0,0]) (Dc.drop 1)) 138 (IA y1 y2 y4 y5 y60) S (Ak 0 (Av (vc Pg (I3.at_ [1,1,1,1,1,1]) (Dc.drop 1)) (Ao Pg XU Q))):=DY 4 (fun _=>rfl) (fun _ _ _=>by kernel_rfl) h0 hr
def iL(y1 y2 y4 y5 y8:AV)(S:Aa)(KE1:BB)(Q:Aq):Prop:=
 Lf y1 6 S fun a S=>AG a S fun c S=>bin .lss 0 y8 c S fun d S=>Fi d (Ap TQ (vc Pg (I3.at_ [1,1,1,1,1,1,0,1,0,0,1,0,0,1,0,1,0,0]) (Dc.drop 3)) 138 (G4 y1 y2 y4 y5 y8 .nl (aI 0)) S (Ak 4 (Av (vc Pg (I3.at_ [1,1,1,1,1,1,0,1,0,0,1,0,0,1,1]) (Dc.drop 3)) (Ak 3 (Av (vc Pg (I3.at_ [1,1,1,1,1,1,0,1,0,0,1,1]) (Dc.drop 3)) (BY (Hn Ji KE1) (Ak 2 (Av (vc Pg (I3.at_ [1,1,1,1,1,1,1]) (Dc.drop 3)) (Ao Pg XU Q))))))))) (Ap Jh (vc Pg (I3.at_ [1,1,1,1,1,1,1,0,1,0,0]) (Dc.drop 4)) 138 (DM y1 y2 y4 y5 (aI 0)) S (Ak 6 (Av (vc Pg (I3.at_ [1,1,1,1,1,1,1,1]) (Dc.drop 5)) (Ao Pg XU Q))))
theorem iK(y1 y2 y4 y5 y8:AV)(S:Aa)(KE1:BB)(Q:Aq):vc Pg (I3.at_ [1,1,1,1,1,1,0,1,0,0]) (Dc.drop 2) (Ly 138 Ji (Ec y1 y2 y4 y5 y8)) S (BY (Hn Ji KE1) (Ak 2 (Av (vc Pg (I3.at_ [1,1,1,1,1,1,1]) (Dc.drop 3)) (Ao Pg XU Q))))=iL y1 y2 y4 y5 y8 S KE1 Q:=by kernel_rfl
theorem Wv{y1 y2 y4 y5 y8:AV}{S:Aa}{Q:Aq}(I:AV→AV→AV→AV→AV→Aa→Prop)(μ:AV→AV→AV→AV→AV→Aa→Nat)(h0:∃(y1' y2' y4' y5' y8':AV) (S':Aa),Wk S (Ec y1 y2 y4 y5 y8) S' (Ec y1' y2' y4' y5' y8')∧I y1' y2' y4' y5' y8' S')
    (hr:∀(y1 y2 y4 y5 y8:AV) (S:Aa),I y1 y2 y4 y5 y8 S→∀ KE1:BB,(∀(y1' y2' y4' y5' y8':AV) (S':Aa) (y1'' y2'' y4'' y5'' y8'':AV) (S'':Aa),Wk S' (Ec y1' y2' y4' y5' y8') S'' (Ec y1'' y2'' y4'' y5'' y8'')→I y1'' y2'' y4'' y5'' y8'' S''→μ y1'' y2'' y4'' y5'' y8'' S''<μ y1 y2 y4 y5 y8 S→KE1 138 (Ec y1' y2' y4' y5' y8') S')→iL y1 y2 y4 y5 y8 S KE1 Q):
    Ap Ji (vc Pg (I3.at_ [1,1,1,1,1,1,0,1,0,0]) (Dc.drop 2)) 138 (Ec y1 y2 y4 y5 y8) S (Ak 2 (Av (vc Pg (I3.at_ [1,1,1,1,1,1,1]) (Dc.drop 3)) (Ao Pg XU Q))):=by
 obtain⟨y1',y2',y4',y5',y8',S0,hw0,h0⟩:=h0
 refine⟨fun n e S=>n=138∧∃ y1 y2 y4 y5 y8:AV,e=(Ec y1 y2 y4 y5 y8)∧I y1 y2 y4 y5 y8 S,fun _ e S=>μ (e.getD 0 .j) (e.getD 1 .j) (e.getD 2 .j) (e.getD 3 .j) (e.getD 4 .j) S,?_,?_⟩
 ·exact⟨_,_,hw0,rfl,_,_,_,_,_,rfl,h0⟩
 ·rintro _ e S ⟨rfl,y1,y2,y4,y5,y8,rfl,hI⟩
  exact(iK _ _ _ _ _ _ _ _).mpr (hr y1 y2 y4 y5 y8 S hI _ (fun y1' y2' y4' y5' y8' S' y1'' y2'' y4'' y5'' y8'' S'' hw hI' hm=>⟨_,_,hw,⟨rfl,_,_,_,_,_,rfl,hI'⟩,hm⟩))
def vY(y1 y2 y4 y5 y8 y9 y10:AV)(S:Aa)(KE2:BB)(KE1:BB)(Q:Aq):Prop:=
 bin .shl 0 (aI 1) y4 S fun a S=>bin .lss 0 y10 a S fun c S=>Fi c (Lt S (shift y5 1) fun d=>Lt S (Ax d) fun e=>Lt S (AR 4 1 e y10) fun f=>Lt S (Ax f) fun g=>Fi g (Lt S (AA 8 y1) fun h=>Lt S (shift y1 6) fun i=>Lt S (Ax i) fun k=>Lt S (AR 3 1 k y8) fun l=>Lt S (Ax l) fun m=>Lc S 27 [h,y10,m] fun n=>∃ o:AV,(∀ T:Aa,Am S T→n=o∧T=T)∧Lt S (AU 4 1 1 [.v (.bool false)] [(0,o)]) fun p=>Bo 4 1 1 y9 p S fun q S=>bin .add 0 y10 (aI 1) S fun r S=>KE2 138 (G4 y1 y2 y4 y5 y8 q r) S) (∃ s:AV,(∀ T:Aa,Am S T→(.v (.bool false))=s∧T=T)∧Lt S (AU 4 1 1 [.v (.bool false)] [(0,s)]) fun t=>Bo 4 1 1 y9 t S fun u S=>bin .add 0 y10 (aI 1) S fun w S=>KE2 138 (G4 y1 y2 y4 y5 y8 u w) S)) (Lf y5 4 S fun x S=>AU 41 1 1 [.nl] [(0,y9)] S fun y S=>Bo 41 1 24 x y S fun z S=>shift y5 4 S fun A S=>A8 1 A z S fun B S=>bin .add 0 y8 (aI 1) S fun C S=>KE1 138 (Ec y1 y2 y4 y5 C) S)
theorem aO{y1 y2 y4 y5 y8:AV}{y90 y100:AV}{S:Aa}{KE1:BB}{Q:Aq}(I:AV→AV→Aa→Prop)(μ:AV→AV→Aa→Nat)(h0:I y90 y100 S)(hr:DE (fun y9 y10=>G4 y1 y2 y4 y5 y8 y9 y10) 138 I μ fun y9 y10 S KE2=>vY y1 y2 y4 y5 y8 y9 y10 S KE2 KE1 Q):
 Ap TQ (vc Pg (I3.at_ [1,1,1,1,1,1,0,1,0,0,1,0,0,1,0,1,0,0]) (Dc.drop 3)) 138 (G4 y1 y2 y4 y5 y8 y90 y100) S (Ak 4 (Av (vc Pg (I3.at_ [1,1,1,1,1,1,0,1,0,0,1,0,0,1,1]) (Dc.drop 3)) (Ak 3 (Av (vc Pg (I3.at_ [1,1,1,1,1,1,0,1,0,0,1,1]) (Dc.drop 3)) (BY (Hn Ji KE1) (Ak 2 (Av (vc Pg (I3.at_ [1,1,1,1,1,1,1]) (Dc.drop 3)) (Ao Pg XU Q)))))))):=IN (E:=fun y9 y10=>G4 y1 y2 y4 y5 y8 y9 y10) 5 6 (fun _ _=>⟨rfl,rfl⟩) (fun _ _ _ _=>by kernel_rfl) h0 hr
def iJ(y1 y2 y4 y5 y11:AV)(S:Aa)(KE3:BB)(Q:Aq):Prop:=
 bin .shl 0 (aI 1) y4 S fun a S=>bin .lss 0 y11 a S fun c S=>Fi c (AA 8 y1 S fun d S=>Ah Pg 28 [d,y11] S Q fun e S=>Ap TP (vc Pg (I3.at_ [1,1,1,1,1,1,1,0,1,0,0,1,0,0,1,1,0,1,0,0]) (Dc.drop 5)) 138 (Iz y1 y2 y4 y5 y11 .nl e (aI 0)) S (Ak 8 (Av (vc Pg (I3.at_ [1,1,1,1,1,1,1,0,1,0,0,1,0,0,1,1,1]) (Dc.drop 5)) (Ak 7 (Av (vc Pg (I3.at_ [1,1,1,1,1,1,1,0,1,0,0,1,1]) (Dc.drop 5)) (BY (Hn Jh KE3) (Ak 6 (Av (vc Pg (I3.at_ [1,1,1,1,1,1,1,1]) (Dc.drop 5)) (Ao Pg XU Q))))))))) (AA 5 y5 S fun f S=>A8 5 y2 f S fun g S=>AA 5 y2 S fun h _=>Q (.ret (.t [h,aI 0])) S)
theorem iI(y1 y2 y4 y5 y11:AV)(S:Aa)(KE3:BB)(Q:Aq):vc Pg (I3.at_ [1,1,1,1,1,1,1,0,1,0,0]) (Dc.drop 4) (Ly 138 Jh (DM y1 y2 y4 y5 y11)) S (BY (Hn Jh KE3) (Ak 6 (Av (vc Pg (I3.at_ [1,1,1,1,1,1,1,1]) (Dc.drop 5)) (Ao Pg XU Q))))=iJ y1 y2 y4 y5 y11 S KE3 Q:=by kernel_rfl
theorem Wu{y1 y2 y4 y5 y11:AV}{S:Aa}{Q:Aq}(I:AV→AV→AV→AV→AV→Aa→Prop)(μ:AV→AV→AV→AV→AV→Aa→Nat)(h0:∃(y1' y2' y4' y5' y11':AV) (S':Aa),Wk S (DM y1 y2 y4 y5 y11) S' (DM y1' y2' y4' y5' y11')∧I y1' y2' y4' y5' y11' S')
    (hr:∀(y1 y2 y4 y5 y11:AV) (S:Aa),I y1 y2 y4 y5 y11 S→∀ KE3:BB,(∀(y1' y2' y4' y5' y11':AV) (S':Aa) (y1'' y2'' y4'' y5'' y11'':AV) (S'':Aa),Wk S' (DM y1' y2' y4' y5' y11') S'' (DM y1'' y2'' y4'' y5'' y11'')→I y1'' y2'' y4'' y5'' y11'' S''→μ y1'' y2'' y4'' y5'' y11'' S''<μ y1 y2 y4 y5 y11 S→KE3 138 (DM y1' y2' y4' y5' y11') S')→iJ y1 y2 y4 y5 y11 S KE3 Q):
    Ap Jh (vc Pg (I3.at_ [1,1,1,1,1,1,1,0,1,0,0]) (Dc.drop 4)) 138 (DM y1 y2 y4 y5 y11) S (Ak 6 (Av (vc Pg (I3.at_ [1,1,1,1,1,1,1,1]) (Dc.drop 5)) (Ao Pg XU Q))):=by
 obtain⟨y1',y2',y4',y5',y11',S0,hw0,h0⟩:=h0
 refine⟨fun n e S=>n=138∧∃ y1 y2 y4 y5 y11:AV,e=(DM y1 y2 y4 y5 y11)∧I y1 y2 y4 y5 y11 S,fun _ e S=>μ (e.getD 0 .j) (e.getD 1 .j) (e.getD 2 .j) (e.getD 3 .j) (e.getD 4 .j) S,?_,?_⟩
 ·exact⟨_,_,hw0,rfl,_,_,_,_,_,rfl,h0⟩
 ·rintro _ e S ⟨rfl,y1,y2,y4,y5,y11,rfl,hI⟩
  exact(iI _ _ _ _ _ _ _ _).mpr (hr y1 y2 y4 y5 y11 S hI _ (fun y1' y2' y4' y5' y11' S' y1'' y2'' y4'' y5'' y11'' S'' hw hI' hm=>⟨_,_,hw,⟨rfl,_,_,_,_,_,rfl,hI'⟩,hm⟩))
abbrev Qh(y5:AV)(S:Aa)(y12 y11:AV)(KE3:BB)(y1 y2 y4:AV):Prop:=Lf y5 3 S fun a S=>AU 26 1 1 [.nl] [(0,y12)] S fun c S=>Bo 26 1 24 a c S fun d S=>shift y5 3 S fun e S=>A8 1 e d S fun f S=>bin .add 0 y11 (aI 1) S fun g S=>KE3 138 (DM y1 y2 y4 y5 g) S
def vX(y1 y2 y4 y5 y11 y12 y13 y14:AV)(S:Aa)(KE4:BB)(KE3:BB)(Q:Aq):Prop:=
 Lf y1 0 S fun a S=>bin .shl 0 (aI 1) a S fun c S=>bin .lss 0 y14 c S fun d S=>Fi d (Lf y5 1 S fun e S=>AR 4 1 e y11 S fun f S=>Ax f S fun g S=>Fi g (Lf y5 1 S fun h S=>bin .add 0 y13 y14 S fun i S=>AR 4 1 h i S fun k S=>Ax k S fun l S=>Fi l (bin .add 0 y13 y14 S fun m S=>AU 3 1 1 [aI 0] [(0,m)] S fun n S=>Bo 3 1 8 y12 n S fun o S=>bin .add 0 y14 (aI 1) S fun p S=>KE4 138 (Iz y1 y2 y4 y5 y11 o y13 p) S) (bin .add 0 y14 (aI 1) S fun q S=>KE4 138 (Iz y1 y2 y4 y5 y11 y12 y13 q) S)) (Qh y5 S y12 y11 KE3 y1 y2 y4)) (Qh y5 S y12 y11 KE3 y1 y2 y4)
theorem aN{y1 y2 y4 y5 y11 y13:AV}{y120 y140:AV}{S:Aa}{KE3:BB}{Q:Aq}(I:AV→AV→Aa→Prop)(μ:AV→AV→Aa→Nat)(h0:I y120 y140 S)(hr:DE (fun y12 y14=>Iz y1 y2 y4 y5 y11 y12 y13 y14) 138 I μ fun y12 y14 S KE4=>vX y1 y2 y4 y5 y11 y12 y13 y14 S KE4 KE3 Q):
 Ap TP (vc Pg (I3.at_ [1,1,1,1,1,1,1,0,1,0,0,1,0,0,1,1,0,1,0,0]) (Dc.drop 5)) 138 (Iz y1 y2 y4 y5 y11 y120 y13 y140) S (Ak 8 (Av (vc Pg (I3.at_ [1,1,1,1,1,1,1,0,1,0,0,1,0,0,1,1,1]) (Dc.drop 5)) (Ak 7 (Av (vc Pg (I3.at_ [1,1,1,1,1,1,1,0,1,0,0,1,1]) (Dc.drop 5)) (BY (Hn Jh KE3) (Ak 6 (Av (vc Pg (I3.at_ [1,1,1,1,1,1,1,1]) (Dc.drop 5)) (Ao Pg XU Q)))))))):=IN (E:=fun y12 y14=>Iz y1 y2 y4 y5 y11 y12 y13 y14) 5 7 (fun _ _=>⟨rfl,rfl⟩) (fun _ _ _ _=>by kernel_rfl) h0 hr
end
structure Fv (c:Ci) (S S1 S2 S4 S':Aa) (m:Nat) (zv zi:AV) (i:Nat):Prop where
 AS:Am S S'
 n:S4.n≤S'.n
 cb:S'.obj S.n=some (.cells 29 [c.cells] true)
 ob:S'.obj S1.n=some (.cells 45 [[aI 0,.nl,.nl,.nl,.nl]] true)
 sb:S'.obj S2.n=some (.cells 45 [[aI m,zv,zi,.nl,.nl]] true)
 wv:A4 S4.n S' zv 4 (((AB c).take i).map fun b=>[aB b])
 wi:A4 S4.n S' zi 4 (((At c).initial.take i).map fun b=>[aB b])
 ap:DS zv zi
 ap':DS zi zv
structure Ff (c:Ci) (S S1 S2 S4 S':Aa) (sp:List AV) (z:AV) (e:Nat) (rows:List AV):Prop where
 AS:Am S S'
 n:S4.n≤S'.n
 cb:S'.obj S.n=some (.cells 29 [c.cells] true)
 ob:S'.obj S1.n=some (.cells 45 [[aI 0,.nl,.nl,.nl,.nl]] true)
 sb:S'.obj S2.n=some (.cells 45 [sp] true)
 ow:A4 S4.n S' z e (rows.map fun v=>[v])
theorem OU{α:Type}{f:α→Value}{n:Nat}{S:Aa}{x:AV}{e:Nat}{l:List α}{F:Nat→Bool}(h:A4 n S x e (l.map fun a=>[.v (f a)]))(hF:∀ i b m,x = .s i b m→F i=true):Cv (S.Bx F) S.n x (aL (fun a=>.v (f a)) l):=by
 rcases h with⟨rfl,h⟩|⟨id,rfl,h1,h2,h3⟩
 ·have:l = []:=Aj8.1 h
  subst this
  exact .nl
 ·refine .s id 0 _ e _ _ (by rw[Ep h3,hF id _ _ rfl];rfl) (by simp) (by simp) (fun i c c2 hi hi2=>?_) (fun i c c2 k u u2 hi hi2 hk hk2=>?_)
  ·rw[AiG]at hi;rw[hi]at hi2;cases hi2;rfl
  ·rw[AiG]at hi;rw[hi]at hi2;cases hi2
   rw[hk]at hk2;cases hk2
   rw[AiH]at hi
   obtain⟨a,_,rfl⟩:=Aj7.1 hi
   cases k with
   |zero=>cases hk;exact .v _
   |succ k=>simp at hk
theorem Wl{α:Type}{f:α→AV}{n:Nat}{S:Aa}{x:AV}{e:Nat}{l:List α}(hf:∀ a∈l,Tree (f a))(h:A4 n S x e (l.map fun a=>[f a])){k:Nat}(hk:k≤n):Cv (S.Bx (AK k)) S.n x (aL f l):=by
 rcases h with⟨rfl,h⟩|⟨id,rfl,h1,h2,h3⟩
 ·have:l = []:=Aj8.1 h
  subst this
  exact .nl
 ·refine .s id 0 _ e _ _ (by rw[Ep h3];have:AK k id=true:=by simp[AK];omega
                             rw[this];rfl) (by simp) (by simp) (fun i c c2 hi hi2=>?_) (fun i c c2 k u u2 hi hi2 hk hk2=>?_)
  ·rw[AiG]at hi;rw[hi]at hi2;cases hi2;rfl
  ·rw[AiG]at hi;rw[hi]at hi2;cases hi2
   rw[hk]at hk2;cases hk2
   rw[AiH]at hi
   obtain⟨a,ha,rfl⟩:=Aj7.1 hi
   cases k with
   |zero=>cases hk;exact hf a (AjB ha) _ _
   |succ k=>simp at hk
theorem UU{n:Nat}{S0 S:Aa}{x:AV}{e:Nat}{l:List Bool}(_:S0.n≤n)(_:n≤S.n)(h:A4 n S x e (l.map fun a=>[aB a])):Cv (S.Bx (AK n)) S.n x (aL aB l):=
 OU (f:=fun b=>.bool b) h fun i b m e=>by have:=h.lt e;simp[AK];omega
theorem lW{n id:Nat}{S:Aa}{x:AV}{e:Nat}{l:List Bool}(_:n≤S.n)(h:A4 n S x e (l.map fun a=>[aB a]))(hne:∀ b m,x≠.s id b m):Cv (S.Bx (D5 n id)) S.n x (aL aB l):=
 OU (f:=fun b=>.bool b) h fun i b m e=>by
  have:=h.lt e
  have:i≠id:=fun q=>hne b m (by rw[e,q])
  simp[D5,this];omega
theorem wU{c:Ci}(hc:c.ok):BH Pg 11 [c.av] (.t [(BE c).1.av,aI (BE c).2]):=by
 intro S
 refine Ad.tree (rO ?_)
 have hll:=hc.llen
 dsimp only[m11,Fi,Lf]
 have bz:∀{S:Aa} {K:AV→Aa→Prop},CH [(0,1),(1,1),(2,1),(3,1),(4,1)] [.v (.int .i64 0),.nl,.nl,.nl,.nl] [] S K=K (.a [aI 0,.nl,.nl,.nl,.nl]) S:=A7 rfl
 refine Ai rfl fun S1 k1 n1 o1=>?_
 refine Ai rfl fun S2 k2 n2 o2=>?_
 have k2':=k1.trans k2
 have p2:S2.obj S.n=_:=(Kg k2 o1)
 rw[An (n:=8) p2 rfl]
 refine Ae (VP hc) ?_
 rw[AI,Ag]
 refine Al (fun h1=>?_) (fun h1=>?_)
 ·rw[bz]
  refine AF o2 rfl rfl fun S3 n3 o3 f3=>?_
  rw[An (n:=5) o3 rfl]
  rw[AiN]at h1
  refine⟨_,rfl,k2'.st (by omega) n3 f3,?_⟩
  rw[BE,if_pos h1]
  exact DN Nd (.v _)
 have h1:c.right=true:=by simpa using h1
 have h1':¬ c.right=false:=by rw[h1];decide
 obtain⟨g1,g2,g3⟩:=CJ h1
 have hR:=Bp.1 h1
 have hin:=hR.1
 rw[Ac,Af p2 rfl rfl,Ac,Af p2 rfl rfl,Bv,Ar (by omega) (by omega),←g1,AP,Ag]
 refine Al (fun h2=>?_) (fun h2=>?_)
 ·rw[bz]
  refine AF o2 rfl rfl fun S3 n3 o3 f3=>?_
  rw[An (n:=5) o3 rfl]
  refine⟨_,rfl,k2'.st (by omega) n3 f3,?_⟩
  rw[BE,if_neg h1',if_pos (dT h2)]
  exact DN Nd (.v _)
 have h2:¬ 10<c.gr.inputs:=dF h2
 obtain⟨m,hm⟩:=AiE g2
 have hm10:m≤10:=by omega
 have hgt:c.gr.inputs.toNat=m:=by rw[hm];rfl
 have hres:BE c=(At c,0):=by rw[BE,if_neg h1',if_neg h2]
 rw[hres]
 have hN1:2 ^ m≤1024:=AiY (by decide) (show m≤10 by omega)
 have hpow:((2:Int) ^ m)=((2 ^ m:Nat):Int):=by rw[AjJ];rfl
 rw[show c.gr.inputs=(m:Int)from hm,A7 (cs:=[aI m,.nl,.nl,.nl,.nl]) rfl]
 refine Ai rfl fun S3 k3 n3 o3=>?_
 refine AF o3 rfl rfl fun S4 n4 o4 f4=>?_
 have k4:Am S S4:=(k2'.trans k3).st (by omega) n4 f4
 have fr4:Fv c S S1 S2 S4 S4 m .nl .nl 0:=⟨k4,Ai4 _,(f4 _ (by omega)).trans (Kg k3 p2),(f4 _ (by omega)).trans (Kg k3 o2),o4,A4.nl _ _ _,A4.nl _ _ _,(fun _ _ _ _ _ e=>by cases e),(fun _ _ _ _ _ e=>by cases e)⟩
 have hvalid:AB c=(List.range (2 ^ m)).map fun s:Nat=>c.cons.all (DT c s):=by
  rw[AB,hgt]
  apply Aj9
  intro s hs
  exact(QA h1 (by omega) (by rw[hgt];exact Aj5.1 hs) hR.2.2.2.2.2.2.2.2.2.2.1).symm
 have hvl:(AB c).length=2 ^ m:=by rw[hvalid];simp
 have hinit:(At c).initial=(List.range (2 ^ m)).map fun s:Nat=>(AB c).getD s false && Hl c s:=by simp only[At,hgt]
 have hil:(At c).initial.length=2 ^ m:=by rw[hinit];simp
 refine aP (fun y S'=>∃(i:Nat) (zv zi:AV),y=aI i∧i≤2 ^ m∧Fv c S S1 S2 S4 S' m zv zi i)
  (fun y _=>2 ^ m - ((Aw y).getD 0).toNat) ⟨0,.nl,.nl,rfl,Ai9 _,fr4⟩ ?_
 dsimp only[BS]
 rintro _ S5 ⟨i,zv,zi,rfl,hi,fr⟩ KE hKE
 have hk4:=k4.1
 have h5n:=fr.n
 dsimp only[vZ,Fi,Lf,Lt,Lc]
 rw[Dl (by omega),hpow,As,Ag]
 refine Al (fun hlt=>?_) (fun hge=>?_)
 ·have hlt:i<2 ^ m:=by
    have:((i:Int)<((2 ^ m:Nat):Int)):=dT hlt
    omega
  have hadd:∀ K:AV→Aa→Prop,∀ S,bin .add 0 (.v (.int .i64 (i:Int))) (.v (.int .i64 1)) S K=K (aI (i+1:Nat)) S:=fun K S=>Ar (by omega) (by omega) 0
  have hv:(AB c)[i]? = some (c.cons.all (DT c i)):=by rw[hvalid];simp[hlt]
  have hvg:(AB c).getD i false=c.cons.all (DT c i):=by rw[Ai2,hv];rfl
  have hi2:(At c).initial[i]? = some (c.cons.all (DT c i) && Hl c i):=by
   rw[hinit,AiH,List.getElem?_range hlt]
   show some ((AB c).getD i false && Hl c i)=_
   rw[hvg]
  rw[An (n:=8) fr.cb rfl,Ac,Af fr.cb rfl rfl]
  refine Ae (AgL hc (s:=i) hc.cons.1 hc.cons.2) ?_
  rw[Ac,Af fr.sb rfl rfl]
  refine BQ rfl (fun _ h=>by cases h) ?_
  refine fr.wv.app (by omega) (c:=[aB (c.cons.all (DT c i))]) rfl (by rw[Ai8,AiW];omega) (fun z6 S6 w6 b6 hz6=>?_) rfl
  obtain⟨m6,hm6⟩:=hz6
  have n6:=b6.1
  have k6:∀ x,x<S4.n→S6.obj x=S5.obj x:=fun x hx=>b6.2 x (by omega) (fun b m e=>by have:=fr.wv.lt e;omega)
  rw[Ac]
  refine B8 ((k6 S2.n (by omega)).trans fr.sb) (by simp) (by rw[hm6];rfl) fun S7 n7 o7 f7=>?_
  have w7:A4 S4.n S7 z6 4 _:=w6.st (id:=S2.n) (fun b m e=>by rw[hm6]at e;injection e;omega) n7 f7
  have wi7:A4 S4.n S7 zi 4 _:=(fr.wi.P7 b6 fr.ap).st (id:=S2.n) (fun b m e=>by have:=fr.wi.lt e;omega) n7 f7
  have ap7:DS zi z6:=fun x b m b' m' e e'=>by
   rw[hm6]at e';injection e' with e1
   have:=fr.wi.lt e
   omega
  have c7:=(f7 S.n (by omega)).trans ((k6 S.n (by omega)).trans fr.cb)
  refine⟨_,fun T hT=>by rw[Ac];exact⟨rfl,rfl⟩,zi,fun T hT=>by rw[Af (Kg hT o7) rfl rfl];exact⟨rfl,rfl⟩,?_⟩
  have step:∀ b,(c.cons.all (DT c i) && Hl c i)=b→Bo 4 1 1 zi (.l [[aB b]]) S7 fun v T=>∃ q50:AV,(∀ T':Aa,Am T T'→shift (.p S2.n 0 0) 2 T' fun v51 S=>v51=q50∧S=T')∧A8 1 q50 v T fun _ T=>bin .add 0 (aI i) (.v (.int .i64 1)) T fun v' T=>KE 138 (IA (.p S.n 0 0) (.p S1.n 0 0) (aI m) (.p S2.n 0 0) v') T:=fun b hb=>by
   refine wi7.app (by omega) (c:=[aB b]) rfl (by rw[Ai8,AiW];omega) (fun z8 S8 w8 b8 hz8=>?_) rfl
   obtain⟨m8,hm8⟩:=hz8
   have n8:=b8.1
   have k8:∀ x,x<S4.n→S8.obj x=S7.obj x:=fun x hx=>b8.2 x (by omega) (fun b m e=>by have:=wi7.lt e;omega)
   refine⟨_,fun T hT=>by rw[Ac];exact⟨rfl,rfl⟩,?_⟩
   refine B8 ((k8 S2.n (by omega)).trans o7) (by simp) (by rw[hm8];rfl) fun S9 n9 o9 f9=>?_
   rw[hadd]
   have Eo:∀ x,x<S4.n→x≠S2.n→S9.obj x=S5.obj x:=fun x hx hne=>(f9 x hne).trans ((k8 x hx).trans ((f7 x hne).trans (k6 x hx)))
   refine hKE _ _ ⟨i+1,z6,z8,rfl,hlt,⟨by have:=fr.AS.1;omega,fun x hx=>(Eo x (by omega) (by omega)).trans (fr.AS.2 x hx)⟩,by omega,(Eo _ (by omega) (by omega)).trans fr.cb,(Eo _ (by omega) (by omega)).trans fr.ob,o9,?_,?_,fun x b m b' m' e e'=>?_,fun x b m b' m' e e'=>?_⟩ (by simp[Aw];omega)
   ·rw[AiR,hv,AiB]
    exact(w7.P7 b8 ap7).st (id:=S2.n) (fun b m e=>by rw[hm6]at e;injection e;omega) n9 f9
   ·rw[AiR,hi2,hb,AiB]
    exact w8.st (id:=S2.n) (fun b m e=>by rw[hm8]at e;injection e;omega) n9 f9
   ·rw[hm8]at e';injection e' with e1
    have:=w7.lt e
    omega
   ·rw[hm8]at e;injection e with e1
    have:=w7.lt e'
    omega
  rw[Ag]
  refine Al (fun h3=>?_) (fun h3=>?_)
  ·refine⟨_,fun T hT=>by rw[An (n:=8) (Kg hT c7) rfl];exact⟨rfl,rfl⟩,_,fun T hT=>Ae (AgK hll hin.1 (by omega) (by omega)) ⟨rfl,rfl⟩,_,fun T hT=>⟨rfl,rfl⟩,_,fun T hT=>BQ rfl (fun _ h=>by cases h) ⟨rfl,rfl⟩,?_⟩
   exact step _ (by rw[h3,Ai7])
  ·refine⟨_,fun T hT=>⟨rfl,rfl⟩,_,fun T hT=>BQ rfl (fun _ h=>by cases h) ⟨rfl,rfl⟩,?_⟩
   exact step _ (by rw[h3,AiC])
 ·have hge:i=2 ^ m:=by
    have:¬ ((i:Int)<((2 ^ m:Nat):Int)):=dF hge
    omega
  subst hge
  have hfl:c.fair.length≤2000:=hR.2.2.2.2.2.1
  have hspf:(At c).fair=c.fair.map fun l=>(List.range (2 ^ m)).map fun s:Nat=>(AB c).getD s false && DT c s l:=by
   simp only[At,hgt]
   apply Aj9
   intro l hl
   apply Aj9
   intro s hs
   rw[PW h1 (by omega) (by rw[hgt];exact Aj5.1 hs) (AiD.1 hR.2.2.2.2.2.2.2.2.2.2.2.1 l hl)]
  have hfln:(At c).fair.length=c.fair.length:=by rw[hspf,Ai8]
  have wv:=fr.wv
  have wi:=fr.wi
  rw[AiV (by omega)]at wv wi
  refine Wv (fun y1 y2 y4 y5 y8 S'=>y1 = .p S.n 0 0∧y2 = .p S1.n 0 0∧y4=aI m∧y5 = .p S2.n 0 0∧∃(k:Nat) (zf:AV),y8=aI k∧k≤c.fair.length∧Ff c S S1 S2 S4 S' [aI m,aL aB (AB c),aL aB (At c).initial,.nl,zf] zf 41 (((At c).fair.take k).map fun v=>aL aB v))
   (fun _ _ _ _ y _=>c.fair.length - ((Aw y).getD 0).toNat) ⟨_,_,_,_,_,_,Wk.row (AK S4.n) fr.sb (by simp[AK];omega) (es2:=[[aI m,aL aB (AB c),aL aB (At c).initial,.nl,.nl]]) ⟨rfl,fun i c1 c2 e1 e2=>?_⟩,rfl,rfl,rfl,rfl,0,.nl,rfl,Ai9 _,?_⟩ ?_
  ·match i with
   |0 =>
    cases e1;cases e2
    refine⟨rfl,fun k u u2 hk hk2=>?_⟩
    match k with
    |0=>cases hk;cases hk2;exact .v _
    |1=>cases hk;cases hk2;exact(UU hk4 h5n wv)
    |2=>cases hk;cases hk2;exact(UU hk4 h5n wi)
    |3|4=>cases hk;cases hk2;exact .nl'
    |k+5=>simp at hk
   |i+1=>simp at e1
  ·have hlow:∀ x,x<S4.n→x≠S2.n→(S5.KB (AK S4.n) S2.n (.cells 45 [[aI m,aL aB (AB c),aL aB (At c).initial,.nl,.nl]] true)).obj x=S5.obj x:=fun x hx hne=>EC hne (by simp[AK];omega)
   refine⟨⟨by rw[FP];exact fr.AS.1,fun x hx=>(hlow x (by omega) (by omega)).trans (fr.AS.2 x hx)⟩,by rw[FP];exact fr.n,(hlow _ (by omega) (by omega)).trans fr.cb,(hlow _ (by omega) (by omega)).trans fr.ob,H7,A4.nl _ _ _⟩
  clear wv wi fr h5n hi S5 KE hKE
  rintro _ _ _ _ _ S5 ⟨rfl,rfl,rfl,rfl,k,zf,rfl,hk,fr⟩ KE hKE
  dsimp only[iL,Fi,Lf]
  have h5n:=fr.n
  rw[Ac,Af fr.cb rfl rfl,Ay,As,Ag]
  refine Al (fun hlt=>?_) (fun hge=>?_)
  ·have hlt:k<c.fair.length:=by simpa using hlt
   have hlf:k<(At c).fair.length:=by omega
   have hml:=Ai6 hlt
   have hrow:(At c).fair[k]=(List.range (2 ^ m)).map fun s:Nat=>(AB c).getD s false && DT c s c.fair[k]:=by simp only[hspf,List.getElem_map]
   refine aO (fun y9 y10 S'=>∃ i:Nat,y10=aI i∧i≤2 ^ m∧Ff c S S1 S2 S4 S' [aI m,aL aB (AB c),aL aB (At c).initial,.nl,zf] zf 41 (((At c).fair.take k).map fun v=>aL aB v)∧
       A4 S4.n S' y9 4 (((At c).fair[k].take i).map fun b=>[aB b])∧DS y9 zf)
    (fun _ y _=>2 ^ m - ((Aw y).getD 0).toNat) ⟨0,rfl,Ai9 _,fr,A4.nl _ _ _,fun _ _ _ _ _ e=>by cases e⟩ ?_
   clear fr h5n S5
   rintro y9 _ S5 ⟨i,rfl,hi,fr,w9,ap9⟩ KE2 hKE2
   dsimp only[vY,Fi,Lf,Lt,Lc]
   have h5n:=fr.n
   rw[Dl (by omega),hpow,As,Ag]
   refine Al (fun hl2=>?_) (fun hg2=>?_)
   ·have hl2:i<2 ^ m:=by
      have:((i:Int)<((2 ^ m:Nat):Int)):=dT hl2
      omega
    have kT:∀{T:Aa} {x:Nat} {o:Bw},Am S5 T→x<S5.n→S5.obj x=some o→T.obj x=some o:=fun hT hx ho=>(hT.2 _ hx).trans ho
    have hget:(At c).fair[k][i]? = some ((AB c).getD i false && DT c i c.fair[k]):=by rw[hrow,AiH,List.getElem?_range hl2];rfl
    have hvi:(AB c)[i]'(by omega)=(AB c).getD i false:=by simp[Ai2,hvl,hl2]
    have step:∀ b,((AB c).getD i false && DT c i c.fair[k])=b→Bo 4 1 1 y9 (.l [[aB b]]) S5 fun v T=>bin .add 0 (aI i) (.v (.int .i64 1)) T fun v' T=>KE2 138 (G4 (.p S.n 0 0) (.p S1.n 0 0) (aI m) (.p S2.n 0 0) (aI k) v v') T:=fun b hb=>by
     refine w9.app (by omega) (c:=[aB b]) rfl (by rw[Ai8,AiW];omega) (fun z8 S8 w8 b8 hz8=>?_) rfl
     obtain⟨m8,hm8⟩:=hz8
     have n8:=b8.1
     have k8:∀ x,x<S4.n→S8.obj x=S5.obj x:=fun x hx=>b8.2 x (by omega) (fun b m e=>by have:=w9.lt e;omega)
     rw[Ar (by omega) (by omega)]
     refine hKE2 _ _ _ ⟨i+1,rfl,hl2,⟨⟨by have:=fr.AS.1;omega,fun x hx=>(k8 x (by omega)).trans (fr.AS.2 x hx)⟩,by omega,(k8 _ (by omega)).trans fr.cb,(k8 _ (by omega)).trans fr.ob,(k8 _ (by omega)).trans fr.sb,fr.ow.P7 b8 ap9⟩,?_,fun x b m b' m' e e'=>?_⟩ (by simp[Aw];omega)
     ·rw[AiR,hget,hb,AiB]
      exact w8
     ·rw[hm8]at e;injection e with e1
      have:=fr.ow.lt e'
      omega
    refine⟨_,fun T hT=>by rw[Ac];exact⟨rfl,rfl⟩,_,fun T hT=>by rw[Af (kT hT (by omega) fr.sb) rfl rfl];exact⟨rfl,rfl⟩,_,fun T hT=>by rw[AM (by omega)];exact⟨rfl,rfl⟩,_,fun T hT=>by rw[A3];exact⟨rfl,rfl⟩,?_⟩
    rw[hvi,Ag]
    refine Al (fun h3=>?_) (fun h3=>?_)
    ·refine⟨_,fun T hT=>by rw[An (n:=8) (kT hT (by omega) fr.cb) rfl];exact⟨rfl,rfl⟩,_,fun T hT=>by rw[Ac];exact⟨rfl,rfl⟩,_,fun T hT=>by rw[Af (kT hT (by omega) fr.cb) rfl rfl];exact⟨rfl,rfl⟩,_,fun T hT=>by rw[AM hlt];exact⟨rfl,rfl⟩,_,fun T hT=>by rw[A3];exact⟨rfl,rfl⟩,
       _,fun T hT=>Ae (I5 hc (hc.fair.1 _ hml)) ⟨rfl,rfl⟩,_,fun T hT=>⟨rfl,rfl⟩,_,fun T hT=>BQ rfl (fun _ h=>by cases h) ⟨rfl,rfl⟩,?_⟩
     exact step _ (by rw[h3,Ai7])
    ·refine⟨_,fun T hT=>⟨rfl,rfl⟩,_,fun T hT=>BQ rfl (fun _ h=>by cases h) ⟨rfl,rfl⟩,?_⟩
     exact step _ (by rw[h3,AiC])
   ·have hge:i=2 ^ m:=by
      have:¬ ((i:Int)<((2 ^ m:Nat):Int)):=dF hg2
      omega
    subst hge
    rw[AiV (by rw[hrow];simp)]at w9
    rw[Ac,Af fr.sb rfl rfl]
    have h9one:y9.one=true:=by rcases w9 with⟨rfl,_⟩|⟨id,rfl,_⟩<;>rfl
    have h9A:∀ cs,y9≠.a cs:=by rcases w9 with⟨rfl,_⟩|⟨id,rfl,_⟩<;>(intro cs h;cases h)
    refine BQ h9one h9A ?_
    refine fr.ow.app (by omega) (c:=[y9]) rfl (by rw[Ai8,Ai8,AiW];omega) (fun z8 S8 w8 b8 hz8=>?_) rfl
    obtain⟨m8,hm8⟩:=hz8
    have n8:=b8.1
    have k8:∀ x,x<S4.n→S8.obj x=S5.obj x:=fun x hx=>b8.2 x (by omega) (fun b m e=>by have:=fr.ow.lt e;omega)
    have w98:A4 S4.n S8 y9 4 _:=w9.P7 b8 (fun x b m b' m' e e'=>ap9 x b' m' b m e' e)
    rw[Ac]
    refine B8 ((k8 S2.n (by omega)).trans fr.sb) (by simp) (by rw[hm8];rfl) fun S9 n9 o9 f9=>?_
    rw[Ar (by omega) (by omega)]
    have w99:A4 S4.n S9 y9 4 _:=w98.st (id:=S2.n) (fun b m e=>by have:=w98.lt e;omega) n9 f9
    have w89:=w8.st (id:=S2.n) (fun b m e=>by rw[hm8]at e;injection e;omega) n9 f9
    have hne9:∀ b m',y9≠.s S5.n b m':=fun b m' e=>by have:=w9.lt e;omega
    obtain⟨id,e8,h8a,h8b,h8o⟩:=w89.ix (i:=0) (by simp)
    have hid:id=S5.n:=by rw[hm8]at e8;injection e8 with e;exact e.symm
    subst hid
    have htk:(At c).fair.take (k+1)=(At c).fair.take k ++ [(At c).fair[k]]:=by rw[AiR,Ai3 hlf];rfl
    refine hKE _ _ _ _ _ S9 _ _ _ _ _ _ (Wk.row (D5 S4.n S5.n) h8o (by simp[D5]) (es2:=(((At c).fair.take (k+1)).map fun v=>aL aB v).map fun v=>[v]) ?_) ⟨rfl,rfl,rfl,rfl,k+1,z8,rfl,hlt,?_⟩ (by simp[Aw];omega)
    ·rw[htk,AiB,AiB]
     refine La.snoc (fun r hr u hu=>?_) rfl (fun k' u u2 e1 e2=>?_)
     ·simp only[AiL]at hr
      obtain⟨x,⟨v,_,rfl⟩,rfl⟩:=hr
      obtain rfl:=AiA.1 hu
      exact Et _
     ·match k' with
      |0=>cases e1;cases e2;exact lW (by omega) w99 hne9
      |k'+1=>simp at e1
    ·have Eo:∀ x,x<S4.n→x≠S2.n→(S9.KB (D5 S4.n S5.n) S5.n (.cells 41 ((((At c).fair.take (k+1)).map fun v=>aL aB v).map fun v=>[v]) true)).obj x=S5.obj x:=fun x hx hne=>(EC (by omega) (by simp[D5];omega)).trans ((f9 x hne).trans (k8 x hx))
     refine⟨⟨by rw[FP];have:=fr.AS.1;omega,fun x hx=>(Eo x (by omega) (by omega)).trans (fr.AS.2 x hx)⟩,by rw[FP];omega,(Eo _ (by omega) (by omega)).trans fr.cb,(Eo _ (by omega) (by omega)).trans fr.ob,(EC (by omega) (by simp[D5];omega)).trans o9,?_⟩
     refine .inr ⟨S5.n,?_,by omega,by rw[FP];omega,H7⟩
     rw[e8,htk]
     simp
     omega
  ·have hge:k=c.fair.length:=by
     have:¬ ((k:Int)<(c.fair.length:Int)):=dF hge
     omega
   subst hge
   have wf:=fr.ow
   rw[AiV (by omega)]at wf
   have hspn:(At c).next=(List.range (2 ^ m)).map fun s:Nat=>if(AB c).getD s false=true then DI c ((A2 c).getD s []) (AB c)else[]:=by simp only[At,hgt]
   have hnl:(At c).next.length=2 ^ m:=by rw[hspn];simp
   refine Wu (fun y1 y2 y4 y5 y11 S'=>y1 = .p S.n 0 0∧y2 = .p S1.n 0 0∧y4=aI m∧y5 = .p S2.n 0 0∧∃(k:Nat) (zn:AV),y11=aI k∧k≤2 ^ m∧Ff c S S1 S2 S4 S' [aI m,aL aB (AB c),aL aB (At c).initial,zn,aL (aL aB) (At c).fair] zn 26 (((At c).next.take k).map fun v=>aL aI v))
    (fun _ _ _ _ y _=>2 ^ m - ((Aw y).getD 0).toNat) ⟨_,_,_,_,_,_,Wk.row (AK S4.n) fr.sb (by simp[AK];omega) (es2:=[[aI m,aL aB (AB c),aL aB (At c).initial,.nl,aL (aL aB) (At c).fair]]) ⟨rfl,fun i c1 c2 e1 e2=>?_⟩,rfl,rfl,rfl,rfl,0,.nl,rfl,Ai9 _,?_⟩ ?_
   ·match i with
    |0 =>
     cases e1;cases e2
     refine⟨rfl,fun k u u2 hk hk2=>?_⟩
     match k with
     |0=>cases hk;cases hk2;exact .v _
     |1=>cases hk;cases hk2;exact Et _ _ _
     |2=>cases hk;cases hk2;exact Et _ _ _
     |3=>cases hk;cases hk2;exact .nl'
     |4=>cases hk;cases hk2;exact Wl (fun _ _=>Et _) (by rw[AjC]at wf;exact wf) (by omega)
     |k+5=>simp at hk
    |i+1=>simp at e1
   ·have hlow:∀ x,x<S4.n→x≠S2.n→(S5.KB (AK S4.n) S2.n (.cells 45 [[aI m,aL aB (AB c),aL aB (At c).initial,.nl,aL (aL aB) (At c).fair]] true)).obj x=S5.obj x:=fun x hx hne=>EC hne (by simp[AK];omega)
    refine⟨⟨by rw[FP];exact fr.AS.1,fun x hx=>(hlow x (by omega) (by omega)).trans (fr.AS.2 x hx)⟩,by rw[FP];exact fr.n,(hlow _ (by omega) (by omega)).trans fr.cb,(hlow _ (by omega) (by omega)).trans fr.ob,H7,A4.nl _ _ _⟩
   clear wf fr h5n hk S5 KE hKE zf
   rintro _ _ _ _ _ S5 ⟨rfl,rfl,rfl,rfl,k,zn,rfl,hk,fr⟩ KE hKE
   dsimp only[iJ,Fi]
   have h5n:=fr.n
   rw[Dl (by omega),hpow,As,Ag]
   refine Al (fun hlt=>?_) (fun hge=>?_)
   ·have hlt:k<2 ^ m:=by
      have:((k:Int)<((2 ^ m:Nat):Int)):=dT hlt
      omega
    have hlf:k<(At c).next.length:=by omega
    have hrow:(At c).next[k]=if(AB c).getD k false=true then DI c ((A2 c).getD k []) (AB c)else[]:=by simp only[hspn,List.getElem_map,List.getElem_range]
    have htk:(At c).next.take (k+1)=(At c).next.take k ++ [(At c).next[k]]:=by rw[AiR,Ai3 hlf];rfl
    rw[An (n:=8) fr.cb rfl]
    refine Ae (jR hc k) ?_
    rw[K9 h1 (by omega) (by rw[hgt];exact hlt)]
    obtain⟨a0,a1⟩:=K8 c ((A2 c).getD k []) c.latches.length
    obtain⟨aq,aq1,aq2⟩:=Fj c ((A2 c).getD k []) c.latches.length
    have hml:c.inputs.toNat+c.latches.length=m:=by omega
    have hin10:c.inputs.toNat≤10:=by omega
    generalize hA:CB c ((A2 c).getD k []) c.latches.length=a at *
    have hbnd:∀ x,x<2 ^ c.inputs.toNat→a.toNat+x<2 ^ m:=fun x hx=>by
     rw[aq2]
     have h1:2 ^ c.inputs.toNat*aq+x<2 ^ c.inputs.toNat*(aq+1):=by rw[Nat.mul_add];omega
     have h2:2 ^ c.inputs.toNat*(aq+1)≤2 ^ c.inputs.toNat*2 ^ c.latches.length:=Nat.mul_le_mul_left _ aq1
     rw[←Nat.pow_add,hml]at h2
     have:(((2 ^ c.inputs.toNat*aq:Nat):Int)).toNat=2 ^ c.inputs.toNat*aq:=AiJ _
     omega
    let nt:Nat→List Int:=fun x=>((List.range x).filter fun x=>(AB c).getD (a.toNat+x) false).map fun x:Nat=>a+(x:Int)
    have nts:∀ x,nt (x+1)=if(AB c).getD (a.toNat+x) false=true then nt x ++ [a+(x:Int)]else nt x:=fun x=>by
     simp only[nt,AiP,AjE,AiB]
     by_cases hq:(AB c).getD (a.toNat+x) false=true
     ·rw[if_pos hq,List.filter_cons,if_pos hq];rfl
     ·rw[if_neg hq,List.filter_cons,if_neg hq,List.filter_nil,List.map_nil,List.append_nil]
    have ntl:∀ x,(nt x).length≤x:=fun x=>by
     simp only[nt,Ai8]
     have:=List.length_filter_le (fun x=>(AB c).getD (a.toNat+x) false) (List.range x)
     simpa using this
    have hN:DI c ((A2 c).getD k []) (AB c)=nt (2 ^ c.inputs.toNat):=by simp only[DI,hA,nt]
    have hp2:2 ^ c.inputs.toNat≤1024:=AiY (by decide) hin10
    have hpi:((2:Int) ^ c.inputs.toNat)=((2 ^ c.inputs.toNat:Nat):Int):=by rw[AjJ];rfl
    have hci:aI c.inputs=aI (c.inputs.toNat:Int):=by rw[Int.toNat_of_nonneg hin.1]
    refine aN (fun y12 y14 S'=>∃ x:Nat,y14=aI x∧x≤2 ^ c.inputs.toNat∧(0<x→(AB c).getD k false=true)∧Ff c S S1 S2 S4 S' [aI m,aL aB (AB c),aL aB (At c).initial,zn,aL (aL aB) (At c).fair] zn 26 (((At c).next.take k).map fun v=>aL aI v)∧
        A4 S4.n S' y12 3 ((nt x).map fun b=>[aI b])∧DS y12 zn)
     (fun _ y _=>2 ^ c.inputs.toNat - ((Aw y).getD 0).toNat) ⟨0,rfl,Ai9 _,fun h=>by omega,fr,A4.nl _ _ _,fun _ _ _ _ _ e=>by cases e⟩ ?_
    clear fr h5n S5
    rintro y12 _ S5 ⟨x,rfl,hx,hx0,fr,w9,ap9⟩ KE4 hKE4
    have h5n:=fr.n
    have fin:nt x=(At c).next[k]→shift (.p S2.n 0 0) 3 S5 fun v137 T=>Ax v137 T fun v138 T=>AU 26 1 1 [.nl] [(0,y12)] T fun v139 T=>Bo 26 1 24 v138 v139 T fun v140 T=>shift (.p S2.n 0 0) 3 T fun v141 T=>A8 1 v141 v140 T fun v142 T=>bin .add 0 (aI k) (.v (.int .i64 1)) T fun v143 T=>KE 138 (DM (.p S.n 0 0) (.p S1.n 0 0) (aI m) (.p S2.n 0 0) v143) T:=fun hxr=>by
     rw[hxr]at w9
     rw[Ac,Af fr.sb rfl rfl]
     have h9one:y12.one=true:=by rcases w9 with⟨rfl,_⟩|⟨id,rfl,_⟩<;>rfl
     have h9A:∀ cs,y12≠.a cs:=by rcases w9 with⟨rfl,_⟩|⟨id,rfl,_⟩<;>(intro cs h;cases h)
     refine BQ h9one h9A ?_
     refine fr.ow.app (by omega) (c:=[y12]) rfl (by rw[Ai8,Ai8,AiW];omega) (fun z8 S8 w8 b8 hz8=>?_) rfl
     obtain⟨m8,hm8⟩:=hz8
     have n8:=b8.1
     have k8:∀ x,x<S4.n→S8.obj x=S5.obj x:=fun x hx=>b8.2 x (by omega) (fun b m e=>by have:=fr.ow.lt e;omega)
     have w98:A4 S4.n S8 y12 3 _:=w9.P7 b8 (fun x b m b' m' e e'=>ap9 x b' m' b m e' e)
     rw[Ac]
     refine B8 ((k8 S2.n (by omega)).trans fr.sb) (by simp) (by rw[hm8];rfl) fun S9 n9 o9 f9=>?_
     rw[Ar (by omega) (by omega)]
     have w99:A4 S4.n S9 y12 3 _:=w98.st (id:=S2.n) (fun b m e=>by have:=w98.lt e;omega) n9 f9
     have w89:=w8.st (id:=S2.n) (fun b m e=>by rw[hm8]at e;injection e;omega) n9 f9
     have hne9:∀ b m',y12≠.s S5.n b m':=fun b m' e=>by have:=w9.lt e;omega
     obtain⟨id,e8,h8a,h8b,h8o⟩:=w89.ix (i:=0) (by simp)
     have hid:id=S5.n:=by rw[hm8]at e8;injection e8 with e;exact e.symm
     subst hid
     refine hKE _ _ _ _ _ S9 _ _ _ _ _ _ (Wk.row (D5 S4.n S5.n) h8o (by simp[D5]) (es2:=(((At c).next.take (k+1)).map fun v=>aL aI v).map fun v=>[v]) ?_) ⟨rfl,rfl,rfl,rfl,k+1,z8,rfl,hlt,?_⟩ (by simp[Aw];omega)
     ·rw[htk,AiB,AiB]
      refine La.snoc (fun r hr u hu=>?_) rfl (fun k' u u2 e1 e2=>?_)
      ·simp only[AiL]at hr
       obtain⟨x,⟨v,_,rfl⟩,rfl⟩:=hr
       obtain rfl:=AiA.1 hu
       exact Df _
      ·match k' with
       |0 =>
        cases e1;cases e2
        exact OU (f:=fun i=>.int .i64 i) w99 fun i b m e=>by
         have:=w99.lt e
         have:i≠S5.n:=fun q=>hne9 b m (by rw[e,q])
         simp[D5,this];omega
       |k'+1=>simp at e1
     ·have Eo:∀ x,x<S4.n→x≠S2.n→(S9.KB (D5 S4.n S5.n) S5.n (.cells 26 ((((At c).next.take (k+1)).map fun v=>aL aI v).map fun v=>[v]) true)).obj x=S5.obj x:=fun x hx hne=>(EC (by omega) (by simp[D5];omega)).trans ((f9 x hne).trans (k8 x hx))
      refine⟨⟨by rw[FP];have:=fr.AS.1;omega,fun x hx=>(Eo x (by omega) (by omega)).trans (fr.AS.2 x hx)⟩,by rw[FP];omega,(Eo _ (by omega) (by omega)).trans fr.cb,(Eo _ (by omega) (by omega)).trans fr.ob,(EC (by omega) (by simp[D5];omega)).trans o9,?_⟩
      refine .inr ⟨S5.n,?_,by omega,by rw[FP];omega,H7⟩
      rw[e8,htk]
      simp
      omega
    dsimp only[vX,Qh,Fi,Lf]
    rw[Ac,Af fr.cb rfl rfl,hci,Dl (by omega),hpi,As,Ag]
    have hvk:(AB c)[k]'(by omega)=(AB c).getD k false:=by simp[Ai2,hvl,hlt]
    refine Al (fun hl2=>?_) (fun hg2=>?_)
    ·have hl2:x<2 ^ c.inputs.toNat:=by
       have:((x:Int)<((2 ^ c.inputs.toNat:Nat):Int)):=dT hl2
       omega
     rw[Ac,Af fr.sb rfl rfl,AM (by omega),A3,hvk,Ag]
     refine Al (fun h3=>?_) (fun h3=>?_)
     ·have hb:=hbnd x hl2
      have hax:a+(x:Int)=((a.toNat+x:Nat):Int):=by omega
      have hvx:(AB c)[a.toNat+x]'(by omega)=(AB c).getD (a.toNat+x) false:=by simp[Ai2,hvl,hb]
      rw[Ac,Af fr.sb rfl rfl,Ar (by omega) (by omega),hax,AM (by omega),A3,hvx,Ag]
      refine Al (fun h4=>?_) (fun h4=>?_)
      ·rw[Ar (by omega) (by omega)]
       refine BQ rfl (fun _ h=>by cases h) ?_
       refine w9.app (by omega) (c:=[aI (a+(x:Int))]) rfl (by have:=ntl x;rw[Ai8];omega) (fun z8 S8 w8 b8 hz8=>?_) rfl
       obtain⟨m8,hm8⟩:=hz8
       have n8:=b8.1
       have k8:∀ x,x<S4.n→S8.obj x=S5.obj x:=fun x hx=>b8.2 x (by omega) (fun b m e=>by have:=w9.lt e;omega)
       rw[Ar (by omega) (by omega)]
       refine hKE4 _ _ _ ⟨x+1,rfl,hl2,fun _=>h3,⟨⟨by have:=fr.AS.1;omega,fun x hx=>(k8 x (by omega)).trans (fr.AS.2 x hx)⟩,by omega,(k8 _ (by omega)).trans fr.cb,(k8 _ (by omega)).trans fr.ob,(k8 _ (by omega)).trans fr.sb,fr.ow.P7 b8 ap9⟩,?_,fun x b m b' m' e e'=>?_⟩ (by simp[Aw];omega)
       ·rw[nts,if_pos h4,AiB]
        exact w8
       ·rw[hm8]at e;injection e with e1
        have:=fr.ow.lt e'
        omega
      ·rw[Ar (by omega) (by omega)]
       refine hKE4 _ _ _ ⟨x+1,rfl,hl2,fun _=>h3,fr,?_,ap9⟩ (by simp[Aw];omega)
       rw[nts,if_neg (by rw[h4];decide)]
       exact w9
     ·refine fin ?_
      have:x=0:=by
       rcases Nat.eq_zero_or_pos x with h|h
       ·exact h
       ·rw[hx0 h]at h3;cases h3
      subst this
      rw[hrow,h3,if_neg (by decide)]
      rfl
    ·have hge:x=2 ^ c.inputs.toNat:=by
       have:¬ ((x:Int)<((2 ^ c.inputs.toNat:Nat):Int)):=dF hg2
       omega
     refine fin ?_
     have hpos:0<2 ^ c.inputs.toNat:=Nat.two_pow_pos _
     rw[hrow,hx0 (by omega),if_pos rfl,hN,hge]
   ·have hge:k=2 ^ m:=by
      have:¬ ((k:Int)<((2 ^ m:Nat):Int)):=dF hge
      omega
    subst hge
    have hnx:=fr.ow
    rw[AiV (by omega)]at hnx
    rw[An (n:=5) fr.sb rfl]
    refine AF fr.ob rfl rfl fun S10 n10 o10 f10=>?_
    rw[An (n:=5) o10 rfl]
    have w3:A4 S.n S10 zn 26 _:=(hnx.st (id:=S1.n) (fun b m e=>by have:=hnx.lt e;omega) n10 f10).low (by omega)
    rw[AjC]at w3
    have hbits:(At c).bits=(m:Int):=hm
    refine⟨_,rfl,fr.AS.st (by omega) n10 f10,DN (uF (by rw[hbits];exact .v _) (Et _ _ _) (Et _ _ _) (My (fun _ _=>Df _) w3) (Tree.aL (fun _ _=>Et _) _ _)) (.v _)⟩
theorem BF{l:List Int}(hl:∀ x∈l,0≤x∧x<65536){k:Nat}{n:Int}(hn:0<n):0≤BU l k n∧BU l k n<n:=by
 unfold BU
 split
 ·omega
 ·rename_i h
  have hlt:k<l.length:=by omega
  have hx:=hl _ (Ai6 hlt)
  rw[show l.getD k 0=l[k]by simp[Ai2,hlt],AiX hx.1]
  exact⟨Int.emod_nonneg _ (by omega),Int.emod_lt_of_pos _ hn⟩
structure Fm (S:Aa) (l:List Int) (S':Aa) (k:Nat) (cs:List AV):Prop where
 AS:Am S S'
 n:S.n+4≤S'.n
 lo:S'.obj S.n=some (.cells 22 [[aL Jp l]] true)
 ro:S'.obj (S.n+1)=some (.cells 29 [[aI 0,.nl,.nl,.nl,.nl,.nl,.nl,.nl]] true)
 ao:S'.obj (S.n+2)=some (.cells 3 [[aI k]] true)
 co:S'.obj (S.n+3)=some (.cells 29 [cs] true)
abbrev CQ(S:Aa):AV:=.f (.func 36) [] [.p (S.n+2) 0 0,.p S.n 0 0]
theorem Fm.Eo{S S' S'':Aa}{l:List Int}{k:Nat}{cs:List AV}(h:Fm S l S' k cs)(hn:S'.n≤S''.n)(ho:∀ x,x<S.n+4→S''.obj x=S'.obj x):Fm S l S'' k cs:=
 ⟨⟨by have:=h.AS.1;omega,fun x hx=>(ho x (by omega)).trans (h.AS.2 x hx)⟩,by have:=h.n;omega,(ho _ (by omega)).trans h.lo,(ho _ (by omega)).trans h.ro,(ho _ (by omega)).trans h.ao,(ho _ (by omega)).trans h.co⟩
theorem Fm.pick{S S':Aa}{l:List Int}{k:Nat}{cs:List AV}(h:Fm S l S' k cs)(hl:∀ x∈l,0≤x∧x<65536){n:Int}(hn:0<n)(hk:k≤1000){K X:AV→Aa→Prop}
    (kk:∀ S'',Fm S l S'' (k+1) cs→S''.n=S'.n→(∀ x,x≠S.n+2→S''.obj x=S'.obj x)→K (aI (BU l k n)) S''):Bh Pg (CQ S) [aI n] S' K X:=by
 refine .inl (lU h.ao h.lo (by omega) hl hn (by omega) fun S'' n2 o2 f2=>kk S'' ⟨⟨by have:=h.AS.1;omega,fun x hx=>(f2 x (by omega)).trans (h.AS.2 x hx)⟩,by have:=h.n;omega,(f2 _ (by omega)).trans h.lo,(f2 _ (by omega)).trans h.ro,o2,(f2 _ (by omega)).trans h.co⟩ n2 f2)
theorem Fm.st{S S':Aa}{l:List Int}{k j:Nat}{cs:List AV}{u:AV}(h:Fm S l S' k cs)(hj:j<cs.length)(hu:u.one=true){K:AV→Aa→Prop}
    (kk:∀ S'',Fm S l S'' k (cs.set j u)→S''.n=S'.n→(∀ x,x≠S.n+3→S''.obj x=S'.obj x)→K .j S''):A8 1 (.p (S.n+3) 0 j) u S' K:=
 B8 h.co hj hu fun S'' n2 o2 f2=>kk S'' ⟨⟨by have:=h.AS.1;omega,fun x hx=>(f2 x (by omega)).trans (h.AS.2 x hx)⟩,by have:=h.n;omega,(f2 _ (by omega)).trans h.lo,(f2 _ (by omega)).trans h.ro,(f2 _ (by omega)).trans h.ao,o2⟩ n2 f2
theorem Fm.kT{S S' T:Aa}{l:List Int}{k:Nat}{cs:List AV}(h:Fm S l S' k cs)(hT:Am S' T):T.obj (S.n+3)=some (.cells 29 [cs] true):=(hT.2 _ (by have:=h.n;omega)).trans h.co
theorem Fm.wk{S S':Aa}{l:List Int}{k:Nat}{cs cs2:List AV}(h:Fm S l S' k cs)(hl:cs.length=cs2.length)(hc:∀(k:Nat) (u u2:AV),cs[k]? = some u→cs2[k]? = some u2→Cv (S'.Bx (AK (S.n+4))) S'.n u u2)(ls:List AV):
    ∃ S'',Wk S' ls S'' ls∧Fm S l S'' k cs2∧S''.n=S'.n:=by
 refine⟨_,Wk.row (AK (S.n+4)) h.co (by simp[AK]) (es2:=[cs2]) ⟨rfl,fun i c1 c2 e1 e2=>?_⟩,?_,rfl⟩
 ·match i with
  |0=>cases e1;cases e2;exact⟨hl,hc⟩
  |i+1=>simp at e1
 ·have hlow:∀ x,x<S.n+4→x≠S.n+3→(S'.KB (AK (S.n+4)) (S.n+3) (.cells 29 [cs2] true)).obj x=S'.obj x:=fun x hx hne=>EC hne (by simp[AK];omega)
  exact⟨⟨h.AS.1,fun x hx=>(hlow x (by omega) (by omega)).trans (h.AS.2 x hx)⟩,h.n,(hlow _ (by omega) (by omega)).trans h.lo,(hlow _ (by omega) (by omega)).trans h.ro,(hlow _ (by omega) (by omega)).trans h.ao,H7⟩
theorem AfL{e:Nat}{z u v w:AV}{S:Aa}{K:AV→Aa→Prop}(hu:u.one=true)(hv:v.one=true)(hw:w.one=true)(k:K (.l [[u],[v],[w]]) S):AU e 1 3 [z] [(0,u),(1,v),(2,w)] S K:=by
 refine⟨[u,v,w],?_,.inr ?_⟩
 ·simp[Cu,CA hu,CA hv,CA hw,Jw,AiP]
 ·simpa[chunks,AiP]using k
theorem uJ{e:Nat}{z1 z2 z3 u v w:AV}{S:Aa}{K:AV→Aa→Prop}(k:K (.l [[u,v,w]]) S):AU e 3 1 [z1,z2,z3] [(0,.a [u,v,w])] S K:=by
 refine⟨[u,v,w],?_,.inr ?_⟩
 ·simp[Cu,cellsOf,Jw]
 ·simpa[chunks]using k
theorem GH{n:Nat}{S:Aa}{x:AV}{e:Nat}{es:List (List AV)}(h:A4 n S x e es):x.one=true:=by rcases h with⟨rfl,_⟩|⟨id,rfl,_⟩<;>rfl
theorem xH{x:Int}(h0:0≤x)(h1:x<65536):IntKind.u16.wrap x=x:=by rw[IntKind.wrap_u16];omega
theorem _root_.Go.Ab.A4.fm{S S' S'':Aa}{x:AV}{e:Nat}{es:List (List AV)}{id:Nat}(h:A4 (S.n+4) S' x e es)(hid:id<S.n+4)(hn:S''.n=S'.n)(ho:∀ y,y≠id→S''.obj y=S'.obj y):A4 (S.n+4) S'' x e es:=
 h.st (id:=id) (fun b m e=>by have:=h.lt e;omega) hn ho
theorem lX{n:Nat}{S:Aa}{x:AV}{e:Nat}{l:List (Int × Int)}{F:Nat→Bool}{k:Nat}(h:A4 n S x e (l.map fun p=>[aI p.1,aI p.2]))(hF:∀ i b m,x = .s i b m→F i=true):Cv (S.Bx F) k x (pL l):=by
 rcases h with⟨rfl,h⟩|⟨id,rfl,h1,h2,h3⟩
 ·have:l = []:=Aj8.1 h
  subst this
  exact .nl
 ·refine .s id 0 _ e _ _ (by rw[Ep h3,hF id _ _ rfl];rfl) (by simp) (by simp) (fun i c c2 hi hi2=>?_) (fun i c c2 k u u2 hi hi2 hk hk2=>?_)
  ·rw[AiG]at hi;rw[hi]at hi2;cases hi2;rfl
  ·rw[AiG]at hi;rw[hi]at hi2;cases hi2
   rw[hk]at hk2;cases hk2
   rw[AiH]at hi
   obtain⟨a,_,rfl⟩:=Aj7.1 hi
   match k with
   |0=>cases hk;exact .v _
   |1=>cases hk;exact .v _
   |k+2=>simp at hk
theorem LM{n:Nat}{S:Aa}{x:AV}{e:Nat}{l:List Int}{F:Nat→Bool}{k:Nat}(h:A4 n S x e (l.map fun p=>[aI p]))(hF:∀ i b m,x = .s i b m→F i=true):Cv (S.Bx F) k x (aL aI l):=by
 rcases h with⟨rfl,h⟩|⟨id,rfl,h1,h2,h3⟩
 ·have:l = []:=Aj8.1 h
  subst this
  exact .nl
 ·refine .s id 0 _ e _ _ (by rw[Ep h3,hF id _ _ rfl];rfl) (by simp) (by simp) (fun i c c2 hi hi2=>?_) (fun i c c2 k u u2 hi hi2 hk hk2=>?_)
  ·rw[AiG]at hi;rw[hi]at hi2;cases hi2;rfl
  ·rw[AiG]at hi;rw[hi]at hi2;cases hi2
   rw[hk]at hk2;cases hk2
   rw[AiH]at hi
   obtain⟨a,_,rfl⟩:=Aj7.1 hi
   match k with
   |0=>cases hk;exact .v _
   |k+1=>simp at hk
theorem lY{n:Nat}{S:Aa}{x:AV}{e:Nat}{l:List Na}{F:Nat→Bool}{k:Nat}(h:A4 n S x e (l.map Na.row))(hF:∀ i b m,x = .s i b m→F i=true):Cv (S.Bx F) k x (nL l):=by
 rcases h with⟨rfl,h⟩|⟨id,rfl,h1,h2,h3⟩
 ·have:l = []:=Aj8.1 h
  subst this
  exact .nl
 ·refine .s id 0 _ e _ _ (by rw[Ep h3,hF id _ _ rfl];rfl) (by simp) (by simp) (fun i c c2 hi hi2=>?_) (fun i c c2 k u u2 hi hi2 hk hk2=>?_)
  ·rw[AiG]at hi;rw[hi]at hi2;cases hi2;rfl
  ·rw[AiG]at hi;rw[hi]at hi2;cases hi2
   rw[hk]at hk2;cases hk2
   rw[AiH]at hi
   obtain⟨a,_,rfl⟩:=Aj7.1 hi
   unfold Na.row at hk
   match k with
   |0=>cases hk;exact .v _
   |1=>cases hk;exact .v _
   |2=>cases hk;exact .v _
   |k+3=>simp at hk
theorem _root_.Go.Ab.A4.fF{n:Nat}{S:Aa}{x:AV}{e:Nat}{es:List (List AV)}(h:A4 n S x e es){m:Nat}(hm:m≤n):∀ i b k,x = .s i b k→AK m i=true:=fun i b k e=>by
 have:=h.lt e
 simp[AK];omega
end
end Go.Proofs.YteooinddnfbglaaGreatDoor.G
